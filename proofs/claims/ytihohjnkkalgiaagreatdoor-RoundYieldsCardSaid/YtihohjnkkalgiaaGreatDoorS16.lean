/- Parts of a proof, joined. -/
import Derived.Test.YtihohjnkkalgiaaGreatDoorS15
import Derived.Laws.Externs
set_option linter.all false
set_option maxRecDepth 100000
set_option maxHeartbeats 4000000
section
open Go Go.Proofs Go.ChangeShapes Go.WideShapes Go.RowKit
namespace Dem
section
variable {H:Type} {enc:TypeId×Value→H} {W:World} {v:Value} {d:DataW H} {p:List MemPlace} {base:Nat}
theorem wf_u8 {n:Int} (h:(Lit.int .u8 n).wf=true):∃k:Nat,n=k∧k<256:=by
 simp only [Lit.wf,Bool.and_eq_true,IntKind.min,IntKind.max,IntKind.signed,IntKind.bits] at h
 simp at h
 exact ⟨n.toNat,by omega,by omega⟩
theorem SN {r:List D} (h:dn [.int .u8,.int .u8,.int .u8,.int .u8,.int .u8] r):∃x:iX,r=x.cells∧x.u:=by
 simp only [dn,xI] at h
 obtain ⟨_,_,rfl,⟨n0,rfl,h0⟩,_,_,rfl,⟨n1,rfl,h1⟩,_,_,rfl,⟨n2,rfl,h2⟩,_,_,rfl,⟨n3,rfl,h3⟩,_,_,rfl,⟨n4,rfl,h4⟩,rfl⟩:=h
 obtain ⟨k0,rfl,g0⟩:=wf_u8 h0
 obtain ⟨k1,rfl,g1⟩:=wf_u8 h1
 obtain ⟨k2,rfl,g2⟩:=wf_u8 h2
 obtain ⟨k3,rfl,g3⟩:=wf_u8 h3
 obtain ⟨k4,rfl,g4⟩:=wf_u8 h4
 exact ⟨⟨k0,k1,k2,k3,k4⟩,rfl,⟨g0,g1,g2,g3,g4⟩⟩
theorem Hi (hval:Value.okWide Tryz.prog W .any base 5 v) (h:DataW.Trod enc Tryz.prog W 0 (fun _=>true) true 5 v d p):
 ∃k:Nat,ak (fun _=>0) [] W (okW W) (.d (.int .u8 (k:Int))) v∧k<256:=by
 obtain ⟨n,rfl,_,_,hw⟩:=open_int (show Tryz.prog.underlying 5=some (.int .u8) by kernel_rfl) hval h
 obtain ⟨k,rfl,hk⟩:=wf_u8 hw
 exact ⟨k,by simp only [ak,aL],hk⟩
end
end Dem
end
section
open Go Go.Proofs Go.ChangeShapes Go.WideShapes Go.RowKit
namespace Dem
section
variable {H:Type} {enc:TypeId×Value→H} {W:World} {v:Value} {d:DataW H} {p:List MemPlace} {base:Nat}
theorem yf (hval:Value.okWide Tryz.prog W .any base 63 v) (h:DataW.Trod enc Tryz.prog W 0 (fun _=>true) true 63 v d p):
 ∃l:List iX,ak (fun _=>0) [] W (okW W) (SL (l.map iX.cells)) v∧(∀x∈l,x.u)∧l.length≤maxLen:=by
 obtain ⟨fuel,hf⟩:=h
 obtain ⟨a,len,cap,rfl⟩:=okWide_slice (show Tryz.prog.underlying 63=some (.slice 109) by kernel_rfl) hval
 obtain ⟨h1,h2⟩:=uL (Vl W) 8 fuel 63 [.slice a len cap] (d,p) [.sl [.int .u8,.int .u8,.int .u8,.int .u8,.int .u8]] hf (by kernel_rfl)
 simp only [dn,xI] at h2
 obtain ⟨_,_,e,⟨es,rfl,hl,hr⟩,rfl⟩:=h2
 rw [e] at h1
 simp only [cN] at h1
 obtain ⟨u,r,e2,h3,rfl⟩:=h1
 cases e2
 obtain ⟨l,rfl,R4⟩:=LD (cells:=iX.cells) (Q:=iX.u) es (fun r hm=>SN (hr r hm))
 exact ⟨l,by simpa only [ak] using h3,R4,by simpa using hl⟩
end
end Dem
end
section
namespace Dem
theorem vA {es:List (List D)} {row z:List D} {i:Nat} (h:i≤es.length):wrote (wrote (es.take i++List.replicate (es.length+1-i) z) i [row]) (i+1) (es.drop i)=es.take i++row::es.drop i:=by
 have hl:(es.take i).length=i:=by simp;omega
 have e1:wrote (es.take i++List.replicate (es.length+1-i) z) i [row]=es.take i++row::List.replicate (es.length-i) z:=by
  unfold wrote
  rw [List.take_left' hl,show i+[row].length=(es.take i).length+1 by rw [hl];rfl,List.drop_length_add_append,List.drop_replicate]
  simp;omega
 rw [e1]
 unfold wrote
 rw [show i+1=(es.take i).length+1 by rw [hl],List.take_length_add_append]
 have e2:List.drop ((es.take i).length+1+(es.drop i).length) (es.take i++row::List.replicate (es.length-i) z)=[]:=by
  rw [List.drop_eq_nil_iff];simp;omega
 rw [e2]
 simp
theorem EC {es:List (List D)} {row:List D} {i:Nat} (h:i<es.length):wrote (wrote es (i+1) (es.drop i)) i [row]=es.take i++row::es.drop i:=by
 have e1:wrote es (i+1) (es.drop i)=es.take (i+1)++es.drop i:=by
  unfold wrote
  have:es.drop (i+1+(es.drop i).length)=[]:=by rw [List.drop_eq_nil_iff];simp;omega
  rw [this,List.append_nil]
 rw [e1]
 unfold wrote
 have hl:(es.take (i+1)).length=i+1:=by simp;omega
 rw [List.take_append_of_le_length (by omega),List.take_take,show i+[row].length=(es.take (i+1)).length by rw [hl];rfl,List.drop_left]
 rw [Nat.min_eq_left (by omega)];simp
theorem kG:∀(xs ys:List D),ys.length=xs.length→be xs 0 ys=ys
 |[],[],_=>by simp [be]
 |[],_::_,h=>by simp at h
 |_::_,[],h=>by simp at h
 |x::xs,y::ys,h=>by
  simp only [be]
  rw [kG xs ys (by simpa using h)]
theorem kH {α:Type}:∀(l:List α) (i:Nat) (x:α),i<l.length→(l.set i x).take (i+1)=l.take i++[x]
 |[],i,x,h=>by simp at h
 |y::l,0,x,h=>by simp
 |y::l,i+1,x,h=>by
  simp only [List.set_cons_succ,List.take_succ_cons,List.cons_append]
  rw [kH l i x (by simpa using h)]
theorem nj {α:Type}:∀(l:List α) (i j:Nat) (x:α),i<j→(l.set i x).drop j=l.drop j
 |[],i,j,x,h=>by simp
 |y::l,0,j+1,x,h=>by simp
 |y::l,i+1,j+1,x,h=>by
  simp only [List.set_cons_succ,List.drop_succ_cons]
  exact nj l i j x (by omega)
 |y::l,_,0,x,h=>by omega
end Dem
end
section
open Go Dem Go.Proofs
namespace Dem
variable {t:Th}
theorem Hj (ht:TT t) {es:List (List D)} (aE:∀r∈es,r.length=7) (hs:es.length*80≤140737488355328) {m:Nat} (hm:m=es.length):
 FC 147 [SL es] [] (.ret (.ow 0 7 m)) [.row 7 es]:=by
 refine bP ht (aQ:=[]) Tryz.func147 rfl rfl (N:=8) rfl rfl (n:=0) rfl rfl ?_
 cbv
 refine ⟨fun b hb=>?_⟩
 simp only [ht] at hb
 cbv
 refine av (fun h=>?_) (fun h=>?_)
 ·have he:=hb h
  subst he
  cbv
  exact GK trv rfl rfl (by rw [hm];rfl) rfl
 clear hb h
 cbv
 refine ⟨?_,?_⟩
 ·simp only [ht];simp;exact ⟨hs,aE⟩
 refine B5 trv rfl rfl rfl rfl ?_ ?_
 ·simp only [ht];rw [hm];simp
 simp only [ht];rfl
theorem vB (ht:TT t) {es:List (List D)} (aE:∀r∈es,r.length=6) (hs:es.length*56≤140737488355328) {m:Nat} (hm:m=es.length):
 FC 118 [SL es] [] (.ret (.ow 0 6 m)) [.row 6 es]:=by
 refine bP ht (aQ:=[]) Tryz.func118 rfl rfl (N:=8) rfl rfl (n:=0) rfl rfl ?_
 cbv
 refine ⟨fun b hb=>?_⟩
 simp only [ht] at hb
 cbv
 refine av (fun h=>?_) (fun h=>?_)
 ·have he:=hb h
  subst he
  cbv
  exact GK trv rfl rfl (by rw [hm];rfl) rfl
 clear hb h
 cbv
 refine ⟨?_,?_⟩
 ·simp only [ht];simp;exact ⟨hs,aE⟩
 refine B5 trv rfl rfl rfl rfl ?_ ?_
 ·simp only [ht];rw [hm];simp
 simp only [ht];rfl
theorem Cc (ht:TT t) {es:List (List D)} {x:D} {row:List D} {i n c:Nat} (hn:n=es.length) (hi:i≤n) (hc:n≤c) (hc0:n=0→c=0) (aE:∀r∈es,r.length=7) (hrow:(x::row).length=7) (hs:n<1000000) {r:List (List D)} (hr:r=es.take i++(x::row)::es.drop i):
 FC 146 [.vw 0 7 0 n c true,bG (i:Int),SL [x::row]] [.row 7 es] (.ret (SL r)) [.dead]:=by
 obtain ⟨n1,BU⟩:∃n1,n1=n+1:=⟨_,rfl⟩
 obtain ⟨i1,hi1⟩:∃i1,i1=i+1:=⟨_,rfl⟩
 obtain ⟨ni,hni⟩:∃ni,ni=n-i:=⟨_,rfl⟩
 obtain ⟨ci,pJ⟩:∃ci,ci=c-i:=⟨_,rfl⟩
 obtain ⟨wL,JK⟩:∃wL,wL=c-i1:=⟨_,rfl⟩
 obtain ⟨oW,tN⟩:∃oW,oW=n1-i:=⟨_,rfl⟩
 have hW:∀P:Prop,((IntKind.i64.wrap ((n:Int)+1)=(n1:Int))→(IntKind.i64.wrap ((n1:Int)-(i:Int))=(oW:Int))→(IntKind.i64.wrap ((i:Int)+1)=(i1:Int))→P)→P:=
  fun P h=>h (by rw [wrap64 (by omega) (by omega)];omega) (by rw [wrap64 (by omega) (by omega)];omega) (by rw [wrap64 (by omega) (by omega)];omega)
 have hrl:r.length=n1:=by rw [hr,List.length_append,List.length_cons,List.length_take,List.length_drop];omega
 have Vp:n≠0→FC 188 [SL [x::row],.vw 0 7 i1 ni wL true] [.row 7 es] (.ret (BL false)) [.row 7 es]:=fun h0=>
  iC Ul Tryz.func188 rfl rfl rfl rfl (tS:=25) (tR:=4) rfl rfl (by intro h;rw [h] at hn;exact h0 hn)
 refine bP ht (aQ:=[.row 7 es]) Tryz.func146 rfl rfl (N:=95) rfl rfl (n:=1) rfl rfl ?_
 cbv
 refine bL (.vw 0 7 i ni ci true) [.row 7 es] ?_ ?_ rfl ?_
 ·simp [ht,dS,bS];omega
 ·simp [ht,aW,aS,hni,pJ]
 cbv
 refine pp (by simp [ht]) ?_
 cbv
 refine av (fun h=>?_) (fun h=>?_)
 ·have hin:i=n:=by simp [ht,ah] at h;omega
  clear h
  cbv
  refine bL (.ow 1 7 n1) [.dead,.row 7 r] ?_ ?_ ?_ ?_
  ·simp only [ht]
   refine ⟨⟨hn,by simp;omega,?_⟩,rfl,hn,fun h=>⟨hc0 (by rw [hn,h];rfl),rfl⟩⟩
   intro r hr
   rcases List.mem_append.1 hr with hr|hr
   ·exact aE r hr
   simp at hr;subst hr;exact hrow
  ·simp [ht,BU,hn]
  ·simp only [ht];rw [hr]
   have:i=es.length:=by omega
   subst this;simp
  cbv
  refine az trv ?_ rfl rfl rfl rfl
  simp only [ht];exact hrl.symm
 have hin:i<n:=by simp [ht,ah] at h;omega
 clear h
 have AY:r=(r.drop 0).take n1:=by rw [List.drop_zero,List.take_of_length_le (by omega)]
 cbv
 refine av (fun h2=>?_) (fun h2=>?_)
 ·have Vq:c=n:=by
   refine hW _ fun e1 e2 e3=>?_
   simp [ht,ah,e1] at h2;omega
  clear h2
  obtain ⟨L,hL⟩:∃L:List (List D),L=es.take i++List.replicate (es.length+1-i) [D.str [],D.int IntKind.u64 0,D.int IntKind.u64 0,D.int IntKind.u64 0,D.int IntKind.u64 0,D.sl [],D.bool false]:=⟨_,rfl⟩
  have Iv:L.length=n1:=by rw [hL];simp;omega
  obtain ⟨L1,tO⟩:∃L1,L1=wrote L i [x::row]:=⟨_,rfl⟩
  have mG:L1.length=n1:=by rw [tO];simp [wrote,Iv];omega
  have ph:r=wrote L1 i1 (es.drop i):=by rw [hi1,tO,hL,vA (by omega),hr]
  cbv
  refine bL (.vw 0 7 0 i c true) [.row 7 es] ?_ ?_ rfl ?_
  ·simp [ht,dS,bS];omega
  ·simp [ht,aW,aS]
  cbv
  refine bL (.vw 1 7 0 n1 n1 false) [.row 7 es,.row 7 L] ?_ ?_ ?_ ?_
  ·refine hW _ fun e1 e2 e3=>?_
   simp [ht,ah,e1,e2];omega
  ·refine hW _ fun e1 e2 e3=>?_
   simp [ht,ah,e1,e2];omega
  ·refine hW _ fun e1 e2 e3=>?_
   simp [ht,ah,e1,e2,hL];omega
  cbv
  refine bL (.vw 1 7 i oW oW false) [.row 7 es,.row 7 L] ?_ ?_ rfl ?_
  ·simp [ht,dS,bS];omega
  ·simp [ht,aW,aS,tN]
  cbv
  refine bL (bG 1) [.row 7 es,.row 7 L1] ?_ ?_ ?_ ?_
  ·simp only [ht,eP]
   refine ⟨⟨by omega,?_⟩,?_⟩
   ·intro h;rw [h] at Iv;simp at Iv;omega
   intro r hr;have:=List.mem_of_mem_take hr;simp at this;rw [this];exact hrow
  ·simp [ht,ah];omega
  ·simp [ht,tO,show min 1 oW=1 by omega]
  cbv
  refine dO [false,false,false,false,false,false,false,false,true] (by kernel_rfl) (by kernel_rfl) ?_
  cbv
  repeat (refine gI (by (simp;done)) ?_)
  refine iq (.vw 1 7 i1 ni ni false) (fun _=>⟨?_,?_⟩) ?_
  ·refine hW _ fun e1 e2 e3=>?_
   simp [ht,ah,e3,dS,bS];omega
  ·refine hW _ fun e1 e2 e3=>?_
   simp [ht,ah,e3,aW,aS];omega
  cbv
  repeat (refine gI (by (simp;done)) ?_)
  refine iq (.vw 0 7 i ni ci true) (fun _=>⟨?_,?_⟩) ?_
  ·simp [ht,dS,bS];omega
  ·simp [ht,aW,aS,hni,pJ]
  cbv
  refine bL (bG (ni:Nat)) [.row 7 es,.row 7 r,.bw] ?_ ?_ ?_ ?_
  ·simp only [ht,eP]
   refine ⟨by omega,⟨by omega,?_⟩,?_⟩
   ·intro h;rw [h] at mG;simp at mG;omega
   intro r hr;exact aE r (List.mem_of_mem_drop (List.mem_of_mem_take hr))
  ·simp [ht,ah]
  ·simp only [ht,ph]
   rw [List.take_of_length_le (by simp;omega)]
  cbv
  refine yM [true] trv ?_ rfl rfl rfl ?_
  ·simp only [ht];omega
  simp only [ht];rw [←AY]
 have Vq:n<c:=by
  refine hW _ fun e1 e2 e3=>?_
  simp [ht,ah,e1] at h2;omega
 clear h2
 obtain ⟨L1,tO⟩:∃L1,L1=wrote es i1 (es.drop i):=⟨_,rfl⟩
 have ph:r=wrote L1 i [x::row]:=by rw [tO,hi1,EC (by omega),hr]
 have mG:L1.length=n1:=by rw [tO];simp [wrote];omega
 cbv
 refine bL (.vw 0 7 0 n1 c true) [.row 7 es] ?_ ?_ rfl ?_
 ·refine hW _ fun e1 e2 e3=>?_
  simp [ht,ah,e1,dS,bS];omega
 ·refine hW _ fun e1 e2 e3=>?_
  simp [ht,ah,e1,aW,aS]
 cbv
 refine bL (.vw 0 7 i1 ni wL true) [.row 7 es] ?_ ?_ rfl ?_
 ·refine hW _ fun e1 e2 e3=>?_
  simp [ht,ah,e3,dS,bS];omega
 ·refine hW _ fun e1 e2 e3=>?_
  simp [ht,ah,e3,aW,aS];omega
 cbv
 refine eG trv (Vp (by omega)) ?_
 cbv
 refine lp (by simp [ht]) ?_
 cbv
 refine dO [false,false,false,false,false,false,false,false,true] (by kernel_rfl) (by kernel_rfl) ?_
 cbv
 repeat (refine gI (by (simp;done)) ?_)
 refine iq (.vw 0 7 i1 ni wL true) (fun _=>⟨?_,?_⟩) ?_
 ·refine hW _ fun e1 e2 e3=>?_
  simp [ht,ah,e3,dS,bS];omega
 ·refine hW _ fun e1 e2 e3=>?_
  simp [ht,ah,e3,aW,aS];omega
 cbv
 repeat (refine gI (by (simp;done)) ?_)
 refine iq (.vw 0 7 i oW ci true) (fun _=>⟨?_,?_⟩) ?_
 ·simp [ht,dS,bS];omega
 ·simp [ht,aW,aS,tN,pJ]
 cbv
 refine bL (bG (ni:Nat)) [.row 7 L1,.bw] ?_ ?_ ?_ ?_
 ·simp only [ht,eP]
  refine ⟨by omega,⟨by omega,?_⟩,?_⟩
  ·intro h;rw [h] at hn;simp at hn;omega
  intro r hr;exact aE r (List.mem_of_mem_drop (List.mem_of_mem_take hr))
 ·simp [ht,ah];omega
 ·simp only [ht,tO]
  rw [List.take_of_length_le (by simp;omega)]
 cbv
 refine bL (.vw 0 7 i oW ci true) [.row 7 L1,.bw] ?_ ?_ rfl ?_
 ·simp [ht,dS,bS];omega
 ·simp [ht,aW,aS,tN,pJ]
 cbv
 refine bL (bG 1) [.row 7 r,.bw] ?_ ?_ ?_ ?_
 ·simp only [ht,eP]
  refine ⟨⟨by omega,?_⟩,?_⟩
  ·intro h;rw [h] at mG;simp at mG;omega
  intro r hr;have:=List.mem_of_mem_take hr;simp at this;rw [this];exact hrow
 ·simp [ht,ah];omega
 ·simp [ht,ph,show min 1 oW=1 by omega]
 cbv
 refine yM [true] trv ?_ rfl rfl rfl ?_
 ·simp only [ht];omega
 simp only [ht];rw [←AY]
theorem ED (ht:TT t) {es:List (List D)} {x:D} {row:List D} {i n:Nat} (hn:n=es.length) (hi:i≤n) (aE:∀r∈es,r.length=7) (hrow:(x::row).length=7) (hs:n<1000000) {r:List (List D)} (hr:r=es.take i++(x::row)::es.drop i):
 FC 146 [.ow 0 7 n,bG (i:Int),SL [x::row]] [.row 7 es] (.ret (SL r)) [.dead]:=
 dZ fun c hc hc0=>Cc ht hn hi hc hc0 aE hrow hs hr
theorem Hl (ht:TT t) (bI:Int) {l:List (Place)} {es:List (List D)} (aE:es=l.map Place.cells) (f:Nat) (p:Place→Bool) (hl:l.length<9223372036854775807)
 (hf:∀x∈l,FC f [.agg [.d (.int .u64 x.bI),.d (.str x.node),.d (.int .u64 x.v.a),.d (.int .u64 x.v.b),.d (.int .u64 x.v.c),.d (.int .u64 x.v.d)],.ptr 1 0] [.var [.d (.int .u64 bI)],.var [.fn 161 [.ptr 0 0]]] (.ret (BL (p x))) [.var [.d (.int .u64 bI)],.var [.fn 161 [.ptr 0 0]]]) {r:Int} (hr:r=idxOf p l):FC 173 [SL es,.fn f [.ptr 1 0]] [.var [.d (.int .u64 bI)],.var [.fn 161 [.ptr 0 0]]] (.ret (bG r)) [.var [.d (.int .u64 bI)],.var [.fn 161 [.ptr 0 0]]]:=by
 have hel:es.length=l.length:=by rw [aE,lgM]
 obtain ⟨J,hJ⟩:∃J:Nat→Nat→Prop,∀n v,J n v↔(v+n=l.length∧∀i<v,∀x,l[i]?=some x→p x=false):=⟨fun n v=>v+n=l.length∧∀i<v,∀x,l[i]?=some x→p x=false,fun _ _=>Iff.rfl⟩
 refine bP ht (aQ:=[.var [.d (.int .u64 bI)],.var [.fn 161 [.ptr 0 0]]]) Tryz.func173 rfl rfl (N:=19) rfl rfl (n:=2) rfl rfl ?_
 cbv
 refine bH ⟨[0,1,7,8],[],[]⟩ (σ:=Nat) (fun k=>[(8,bG (t _ fun _=>(k:Int)))]) (fun _=>[]) J ?_
 cbv
 refine aH ⟨l.length,0,(hJ _ _).2 ⟨by omega,by intro i hi;simp at hi⟩,by simp only [ht];rfl,?_⟩
 rintro n k hj
 obtain ⟨h2,h3⟩:=(hJ _ _).1 hj
 clear hj
 cbv
 refine av (fun h=>?_) (fun h=>?_)
 ·simp only [ht,ah,decide_eq_true_eq] at h
  have hk:k<l.length:=by omega
  obtain ⟨x,hx⟩:∃x,l[k]?=some x:=⟨l[k],by simp⟩
  have pG:x∈l:=List.mem_of_getElem? hx
  have ix:=hf x pG
  obtain ⟨px,hpx⟩:∃b,b=p x:=⟨_,rfl⟩
  rw [←hpx] at ix
  obtain ⟨jb,nd,⟨v1,v2,v3,v4⟩⟩:=x
  cbv
  refine jG [.int .u64 jb,.str nd,.int .u64 v1,.int .u64 v2,.int .u64 v3,.int .u64 v4] ?_ ?_ ?_
  ·simp only [ht,ah];refine ⟨by omega,h,?_⟩;rw [aE];intro r hr;obtain ⟨y,_,rfl⟩:=List.mem_map.1 hr;rfl
  ·simp [ht,ah,aE,hx]
  cbv
  refine eG trv ix ?_
  cbv
  refine av (fun hb=>?_) (fun hb=>?_)
  ·cbv
   refine az trv trv rfl rfl rfl ?_
   have e:=dD hx (hpx▸hb) h3
   simp only [ht,ah,hr,idxOf,e]
  cbv
  refine aH ⟨n-1,k+1,⟨by omega,(hJ _ _).2 ⟨by omega,?_⟩⟩,?_⟩
  ·intro i hi y hy
   by_cases hik:i<k
   ·exact h3 i hik y hy
   have:i=k:=by omega
   subst this;rw [hx] at hy;cases hy;rw [←hpx];exact hb
  simp only [ht,ah,aG (show k<9223372036854775807 by omega)];rfl
 simp only [ht,ah,decide_eq_false_iff_not] at h
 have hk:¬k<l.length:=by omega
 clear h
 cbv
 refine az trv trv rfl rfl rfl ?_
 rw [hr,idxOf,dQ]
 intro i y hy
 have:i<l.length:=by
  rcases Nat.lt_or_ge i l.length with h'|h';· exact h'
  simp [List.getElem?_eq_none h'] at hy
 exact h3 i (by omega) y hy
theorem Ho (ht:TT t) (bI:Int) {l:List (Place)} {es:List (List D)} (aE:es=l.map Place.cells) {m c:Nat} (hm:m=l.length) (hc:m≤c) (f:Nat) (p:Place→Bool) (hl:l.length<9223372036854775807)
 (hf:∀x∈l,FC f [.agg [.d (.int .u64 x.bI),.d (.str x.node),.d (.int .u64 x.v.a),.d (.int .u64 x.v.b),.d (.int .u64 x.v.c),.d (.int .u64 x.v.d)],.ptr 1 0] [.var [.d (.int .u64 bI)],.var [.fn 161 [.ptr 0 0]]] (.ret (BL (p x))) [.var [.d (.int .u64 bI)],.var [.fn 161 [.ptr 0 0]]]) {r:List (List D)} (hr:r=(l.filter (fun x=>!p x)).map Place.cells):
 FC 200 [.vw 2 6 0 m c true,.fn f [.ptr 1 0]] [.var [.d (.int .u64 bI)],.var [.fn 161 [.ptr 0 0]],.row 6 es] (.ret (SL r)) [.var [.d (.int .u64 bI)],.var [.fn 161 [.ptr 0 0]],.dead]:=by
 have hel:es.length=m:=by rw [aE,lgM,hm]
 have hrows:∀r∈es,r.length=6:=by rw [aE];intro r hr;obtain ⟨y,_,rfl⟩:=List.mem_map.1 hr;rfl
 obtain ⟨k,hk⟩:∃k,k=idxOf p l:=⟨_,rfl⟩
 have PW:(t (List (List D)) fun _=>(es.drop 0).take m)=l.map Place.cells:=by simp only [ht];rw [List.drop_zero,List.take_of_length_le (by omega),aE]
 have hidx:=Hl ht bI PW f p hl hf hk
 obtain ⟨J,hJ⟩:∃J:Nat→Nat×Nat×List (List D)→Prop,∀n v,J n v↔(v.2.1+n=m∧v.1<v.2.1∧v.2.2.length=m∧(∀r∈v.2.2,r.length=6)∧v.2.2.take v.1=((l.take v.2.1).filter (fun x=>!p x)).map Place.cells∧v.2.2.drop v.2.1=es.drop v.2.1):=⟨fun n v=>v.2.1+n=m∧v.1<v.2.1∧v.2.2.length=m∧(∀r∈v.2.2,r.length=6)∧v.2.2.take v.1=((l.take v.2.1).filter (fun x=>!p x)).map Place.cells∧v.2.2.drop v.2.1=es.drop v.2.1,fun _ _=>Iff.rfl⟩
 refine bP ht (aQ:=[.var [.d (.int .u64 bI)],.var [.fn 161 [.ptr 0 0]],.row 6 es]) Tryz.func200 rfl rfl (N:=42) rfl rfl (n:=3) rfl rfl ?_
 cbv
 refine Pu (TT.eq ht) (v:=bG k) [false,false,true] [0,1] trv rfl ?_ rfl rfl rfl rfl rfl rfl rfl hidx ?_
 ·simp [ht];omega
 cbv
 refine av (fun h=>?_) (fun h=>?_)
 ·have vT:k=-1:=by simp [ht] at h;exact h
  have hnone:=nU (hk▸vT:idxOf p l=-1)
  clear h
  cbv
  refine yM [false,false,true] trv ?_ rfl rfl rfl ?_
  ·simp only [ht];omega
  simp only [ht,hr];rw [filter_all hnone,←aE,List.drop_zero,List.take_of_length_le (by omega)]
 have vT:k≠-1:=by simp [ht] at h;exact h
 clear h
 obtain ⟨i0,x0,Uq,hx0,Ur,hb0⟩:=nV (hk▸vT:idxOf p l≠-1)
 rw [←hk] at Uq
 subst Uq
 have XX:i0<m:=by rw [hm];exact (List.getElem?_eq_some_iff.1 hx0).1
 cbv
 refine bH ⟨[0,1,5,6],[],[]⟩ (σ:=Nat×Nat×List (List D)) (fun v=>[(5,bG (t _ fun _=>(v.1:Int))),(6,bG (t _ fun _=>(v.2.1:Int)))]) (fun v=>[(2,.row 6 (t _ fun _=>v.2.2))]) J ?_
 cbv
 refine aH ⟨m-(i0+1),(i0,i0+1,es),(hJ _ _).2 ⟨?_,?_,hel,hrows,?_,rfl⟩,by simp only [ht,ah,Int.ofNat_eq_natCast,aG (show i0<9223372036854775807 by omega)];rfl,?_⟩
 ·show i0+1+(m-(i0+1))=m;omega
 ·show i0<i0+1;omega
 ·show es.take i0=_
  rw [dV hx0,List.filter_append,filter_all hb0,aE,←List.map_take];simp [Ur]
 rintro n ⟨i,j,cur⟩ hj
 obtain ⟨j1,j2,j3,j4,j5,j6⟩:=(hJ _ _).1 hj
 clear hj
 simp only at j1 j2 j3 j4 j5 j6
 cbv
 refine av (fun h=>?_) (fun h=>?_)
 ·have Us:j<m:=by simp [ht,ah] at h;omega
  clear h
  obtain ⟨x,hx⟩:∃x,l[j]?=some x:=⟨l[j]'(by omega),by simp⟩
  have pG:x∈l:=List.mem_of_getElem? hx
  have ix:=hf x pG
  have Hp:cur[j]?=some (Place.cells x):=by
   have:(cur.drop j)[0]?=(es.drop j)[0]?:=by rw [j6]
   rw [List.getElem?_drop,List.getElem?_drop,Nat.add_zero,aE,List.getElem?_map,hx] at this
   exact this
  obtain ⟨px,hpx⟩:∃b,b=p x:=⟨_,rfl⟩
  rw [←hpx] at ix
  obtain ⟨cx,EE⟩:∃cx,cx=Place.cells x:=⟨_,rfl⟩
  rw [←EE] at Hp
  have hstep:(l.take (j+1)).filter (fun x=>!p x)=(l.take j).filter (fun x=>!p x)++(if px then [] else [x]):=by
   rw [dV hx,List.filter_append];cases px<;>simp [←hpx]
  obtain ⟨jb,nd,⟨v1,v2,v3,v4⟩⟩:=x
  cbv
  refine ⟨?_,Pq [.int .u64 jb,.str nd,.int .u64 v1,.int .u64 v2,.int .u64 v3,.int .u64 v4] ?_ ?_ ?_⟩
  ·simp [ht,ah];omega
  ·simp [ht,ah,j3];omega
  ·simp [ht,ah,List.getD_eq_getElem?_getD,Hp,EE]
  cbv
  refine dP [0,1] trv rfl rfl ix (cK ?_)
  cbv
  refine av (fun hb=>?_) (fun hb=>?_)
  ·have hb':px=false:=by simpa [ht] using hb
   clear hb
   obtain ⟨nc,hnc⟩:∃nc,nc=cur.set i cx:=⟨_,rfl⟩
   have pJ:(cur.getD i []).length=6:=j4 _ (by rw [List.getD_eq_getElem?_getD,List.getElem?_eq_getElem (by omega)];exact List.getElem_mem _)
   cbv
   refine ⟨?_,?_⟩
   ·simp [ht,ah];omega
   refine ⟨?_,?_⟩
   ·simp [ht,ah,j3];exact ⟨by omega,by simpa using pJ.symm▸(Nat.le_refl _)⟩
   refine aH ⟨n-1,(i+1,j+1,nc),⟨by omega,(hJ _ _).2 ⟨?_,?_,?_,?_,?_,?_⟩⟩,?_⟩
   ·show j+1+(n-1)=m;omega
   ·show i+1<j+1;omega
   ·show nc.length=m;rw [hnc,List.length_set];exact j3
   ·show ∀r∈nc,r.length=6
    intro r hr;rw [hnc] at hr
    rcases List.mem_or_eq_of_mem_set hr with hr|rfl
    ·exact j4 r hr
    rw [EE];rfl
   ·show nc.take (i+1)=_
    rw [hnc,kH _ _ _ (by omega),j5,hstep,hb',EE];simp
   ·show nc.drop (j+1)=es.drop (j+1)
    rw [hnc,nj _ _ _ _ (by omega),←List.drop_drop,j6,List.drop_drop]
   simp only [ht,ah,Int.ofNat_eq_natCast,aG (show i<9223372036854775807 by omega),aG (show j<9223372036854775807 by omega)]
   have ei:0+((i:Int)).toNat=i:=by simp
   have e:cur.set i (be (cur.getD i []) 0 [.int .u64 jb,.str nd,.int .u64 v1,.int .u64 v2,.int .u64 v3,.int .u64 v4])=nc:=by rw [hnc,kG _ _ (by rw [pJ];rfl),EE]
   simp only [ei,e];rfl
  have hb':px=true:=by simpa [ht] using hb
  clear hb
  cbv
  refine aH ⟨n-1,(i,j+1,cur),⟨by omega,(hJ _ _).2 ⟨?_,?_,j3,j4,?_,?_⟩⟩,?_⟩
  ·show j+1+(n-1)=m;omega
  ·show i<j+1;omega
  ·show cur.take i=_
   rw [j5,hstep,hb'];simp
  ·show cur.drop (j+1)=es.drop (j+1)
   rw [←List.drop_drop,j6,List.drop_drop]
  simp only [ht,ah,Int.ofNat_eq_natCast,aG (show j<9223372036854775807 by omega)];rfl
 have Us:j=m:=by simp [ht,ah] at h;omega
 clear h
 obtain ⟨mi,xP⟩:∃mi,mi=m-i:=⟨_,rfl⟩
 obtain ⟨ci,pJ⟩:∃ci,ci=c-i:=⟨_,rfl⟩
 obtain ⟨nc,hnc⟩:∃nc,nc=wrote cur i (List.replicate mi [.int .u64 0,.str [],.int .u64 0,.int .u64 0,.int .u64 0,.int .u64 0]):=⟨_,rfl⟩
 have hnt:nc.take i=r:=by
  have hl':(cur.take i).length=i:=by simp;omega
  rw [hnc,wrote,List.append_assoc,List.take_left' hl',j5,hr,Us,hm,List.take_length]
 have XY:i≤nc.length:=by rw [hnc];simp [wrote];omega
 cbv
 refine bL (.vw 2 6 i mi ci true) [.var [.d (.int .u64 bI)],.var [.fn 161 [.ptr 0 0]],.row 6 cur] ?_ ?_ ?_ ?_
 ·simp [ht,ah,dS,bS];omega
 ·simp [ht,ah,aW,aS,xP,pJ]
 ·simp only [ht]
 cbv
 refine bL (.eA []) [.var [.d (.int .u64 bI)],.var [.fn 161 [.ptr 0 0]],.row 6 nc] ?_ rfl ?_ ?_
 ·simp [ht,eP]
  refine ⟨by omega,?_⟩
  intro h;rw [h] at j3;simp at j3;omega
 ·simp only [ht,hnc]
 cbv
 refine bL (.vw 2 6 0 i c true) [.var [.d (.int .u64 bI)],.var [.fn 161 [.ptr 0 0]],.row 6 nc] ?_ ?_ rfl ?_
 ·simp [ht,ah,dS,bS];omega
 ·simp [ht,ah,aW,aS]
 cbv
 refine yM [false,false,true] trv ?_ rfl rfl rfl ?_
 ·simp only [ht];omega
 simp only [ht];rw [List.drop_zero,hnt]
theorem JL (ht:TT t) (bI:Int) {l:List (Place)} {es:List (List D)} (aE:es=l.map Place.cells) {m:Nat} (hm:m=l.length) (f:Nat) (p:Place→Bool) (hl:l.length<9223372036854775807)
 (hf:∀x∈l,FC f [.agg [.d (.int .u64 x.bI),.d (.str x.node),.d (.int .u64 x.v.a),.d (.int .u64 x.v.b),.d (.int .u64 x.v.c),.d (.int .u64 x.v.d)],.ptr 1 0] [.var [.d (.int .u64 bI)],.var [.fn 161 [.ptr 0 0]]] (.ret (BL (p x))) [.var [.d (.int .u64 bI)],.var [.fn 161 [.ptr 0 0]]]) {r:List (List D)} (hr:r=(l.filter (fun x=>!p x)).map Place.cells):
 FC 200 [.ow 2 6 m,.fn f [.ptr 1 0]] [.var [.d (.int .u64 bI)],.var [.fn 161 [.ptr 0 0]],.row 6 es] (.ret (SL r)) [.var [.d (.int .u64 bI)],.var [.fn 161 [.ptr 0 0]],.dead]:=
 dZ fun c hc _=>Ho ht bI aE hm hc f p hl hf hr
theorem SO (ht:TT t) (bI jb:Int) (nd:aK) (v1 v2 v3 v4:Int) {r:Bool} (hr:r=!decide (jb=bI)):FC 161 [.agg [.d (.int .u64 jb),.d (.str nd),.d (.int .u64 v1),.d (.int .u64 v2),.d (.int .u64 v3),.d (.int .u64 v4)],.ptr 0 0] [.var [.d (.int .u64 bI)]] (.ret (BL r)) [.var [.d (.int .u64 bI)]]:=by
 refine bP ht (aQ:=[.var [.d (.int .u64 bI)]]) Tryz.func161 rfl rfl (N:=8) rfl rfl (n:=1) rfl rfl ?_
 cbv
 refine az trv trv rfl rfl rfl ?_
 simp only [ht,hr]
theorem SP (ht:TT t) (bI jb:Int) (nd:aK) (v1 v2 v3 v4:Int) {r:Bool} (hr:r=decide (jb=bI)):FC 201 [.agg [.d (.int .u64 jb),.d (.str nd),.d (.int .u64 v1),.d (.int .u64 v2),.d (.int .u64 v3),.d (.int .u64 v4)],.ptr 1 0] [.var [.d (.int .u64 bI)],.var [.fn 161 [.ptr 0 0]]] (.ret (BL r)) [.var [.d (.int .u64 bI)],.var [.fn 161 [.ptr 0 0]]]:=by
 obtain ⟨q,hq⟩:∃q,q=!decide (jb=bI):=⟨_,rfl⟩
 refine bP ht (aQ:=[.var [.d (.int .u64 bI)],.var [.fn 161 [.ptr 0 0]]]) Tryz.func201 rfl rfl (N:=8) rfl rfl (n:=2) rfl rfl ?_
 cbv
 refine dP [0] trv rfl rfl (SO ht bI jb nd v1 v2 v3 v4 hq) (cK ?_)
 cbv
 refine az trv trv rfl rfl rfl ?_
 simp only [ht,hr,hq];simp
theorem JM (ht:TT t) (bI:Int) {l:List Place} {es:List (List D)} (aE:es=l.map Place.cells) (hl:l.length<1000000) {r:List (List D)} (hr:r=(l.filter (fun x=>!decide (x.bI=bI))).map Place.cells):
 FC 160 [SL es,.fn 161 [.ptr 0 0]] [.var [.d (.int .u64 bI)]] (.ret (SL r)) [.var [.d (.int .u64 bI)]]:=by
 have hrows:∀r∈es,r.length=6:=by rw [aE];intro r hr;obtain ⟨y,_,rfl⟩:=List.mem_map.1 hr;rfl
 obtain ⟨m,hm⟩:∃m,m=l.length:=⟨_,rfl⟩
 have hel:m=es.length:=by rw [aE,lgM,hm]
 refine bP ht (aQ:=[.var [.d (.int .u64 bI)]]) Tryz.func160 rfl rfl (N:=9) rfl rfl (n:=1) rfl rfl ?_
 cbv
 refine jY trv (vB ht hrows (by rw [←hel];omega) hel) trv rfl (.inr rfl) ?_
 cbv
 refine dP [0,1,2] trv rfl rfl (JL ht bI aE hm 201 (fun x=>decide (x.bI=bI)) (by omega) (fun x _=>SP ht bI x.bI x.node x.v.a x.v.b x.v.c x.v.d rfl) hr) (cK ?_)
 cbv
 exact az trv trv rfl rfl rfl rfl
theorem JN (ht:TT t) (bI:Int) {ns:List (List D)} {l:List Place} {es:List (List D)} (aE:es=l.map Place.cells) (hl:l.length<1000000) {r:List (List D)} (hr:r=(l.filter (fun x=>!decide (x.bI=bI))).map Place.cells):
 FC 108 [.agg [SL ns,SL es],aC bI] [] (.ret (.agg [SL ns,SL r])) []:=by
 refine bP ht (aQ:=[]) Tryz.func108 rfl rfl (N:=12) rfl rfl (n:=0) rfl rfl ?_
 cbv
 refine dO [false,false,false,false,false,false,true,true] (by kernel_rfl) (by kernel_rfl) ?_
 cbv
 repeat (refine gI (by (simp;done)) ?_)
 refine .inl (U9 [true,false,true] [1] (fun _=>⟨trv,trv,JM ht bI aE hl hr⟩) rfl rfl (.inr ⟨rfl,rfl⟩) rfl rfl rfl rfl ?_)
 cbv
 exact az trv trv rfl rfl rfl rfl
theorem PX (ht:TT t) (name nm:aK) (a b c d:Int) (lr:List (List D)) (up:Bool) {r:Bool} (hr:r=decide (nm=name)):
 FC 113 [.agg [.d (.str nm),.d (.int .u64 a),.d (.int .u64 b),.d (.int .u64 c),.d (.int .u64 d),.d (.sl lr),.d (.bool up)],.ptr 0 0] [.var [.d (.str name)]] (.ret (BL r)) [.var [.d (.str name)]]:=by
 refine bP ht (aQ:=[.var [.d (.str name)]]) Tryz.func113 rfl rfl (N:=8) rfl rfl (n:=1) rfl rfl ?_
 cbv
 refine az trv trv rfl rfl rfl ?_
 simp only [ht,hr]
theorem MQ (ht:TT t) (name:aK) {l:List (Node)} {es:List (List D)} (aE:es=l.map Node.cells) (f:Nat) (p:Node→Bool) (hl:l.length<9223372036854775807)
 (hf:∀x∈l,FC f [.agg [.d (.str x.name),.d (.int .u64 x.cap.a),.d (.int .u64 x.cap.b),.d (.int .u64 x.cap.c),.d (.int .u64 x.cap.d),.d (.sl (x.labels.map dx.cells)),.d (.bool x.up)],.ptr 0 0] [.var [.d (.str name)]] (.ret (BL (p x))) [.var [.d (.str name)]]) {r:Int} (hr:r=idxOf p l):FC 112 [SL es,.fn f [.ptr 0 0]] [.var [.d (.str name)]] (.ret (bG r)) [.var [.d (.str name)]]:=by
 have hel:es.length=l.length:=by rw [aE,lgM]
 obtain ⟨J,hJ⟩:∃J:Nat→Nat→Prop,∀n v,J n v↔(v+n=l.length∧∀i<v,∀x,l[i]?=some x→p x=false):=⟨fun n v=>v+n=l.length∧∀i<v,∀x,l[i]?=some x→p x=false,fun _ _=>Iff.rfl⟩
 refine bP ht (aQ:=[.var [.d (.str name)]]) Tryz.func112 rfl rfl (N:=19) rfl rfl (n:=1) rfl rfl ?_
 cbv
 refine bH ⟨[0,1,7,8],[],[]⟩ (σ:=Nat) (fun k=>[(8,bG (t _ fun _=>(k:Int)))]) (fun _=>[]) J ?_
 cbv
 refine aH ⟨l.length,0,(hJ _ _).2 ⟨by omega,by intro i hi;simp at hi⟩,by simp only [ht];rfl,?_⟩
 rintro n k hj
 obtain ⟨h2,h3⟩:=(hJ _ _).1 hj
 clear hj
 cbv
 refine av (fun h=>?_) (fun h=>?_)
 ·simp only [ht,ah,decide_eq_true_eq] at h
  have hk:k<l.length:=by omega
  obtain ⟨x,hx⟩:∃x,l[k]?=some x:=⟨l[k],by simp⟩
  have pG:x∈l:=List.mem_of_getElem? hx
  have ix:=hf x pG
  obtain ⟨px,hpx⟩:∃b,b=p x:=⟨_,rfl⟩
  rw [←hpx] at ix
  obtain ⟨nm,⟨a,b,c,d⟩,lb,up⟩:=x;obtain ⟨lr,hlr⟩:∃lr:List (List D),lr=lb.map dx.cells:=⟨_,rfl⟩;simp only [←hlr] at ix
  cbv
  refine jG [.str nm,.int .u64 a,.int .u64 b,.int .u64 c,.int .u64 d,.sl lr,.bool up] ?_ ?_ ?_
  ·simp only [ht,ah];refine ⟨by omega,h,?_⟩;rw [aE];intro r hr;obtain ⟨y,_,rfl⟩:=List.mem_map.1 hr;rfl
  ·simp [ht,ah,aE,hx,hlr]
  cbv
  refine eG trv ix ?_
  cbv
  refine av (fun hb=>?_) (fun hb=>?_)
  ·cbv
   refine az trv trv rfl rfl rfl ?_
   have e:=dD hx (hpx▸hb) h3
   simp only [ht,ah,hr,idxOf,e]
  cbv
  refine aH ⟨n-1,k+1,⟨by omega,(hJ _ _).2 ⟨by omega,?_⟩⟩,?_⟩
  ·intro i hi y hy
   by_cases hik:i<k
   ·exact h3 i hik y hy
   have:i=k:=by omega
   subst this;rw [hx] at hy;cases hy;rw [←hpx];exact hb
  simp only [ht,ah,aG (show k<9223372036854775807 by omega)];rfl
 simp only [ht,ah,decide_eq_false_iff_not] at h
 have hk:¬k<l.length:=by omega
 clear h
 cbv
 refine az trv trv rfl rfl rfl ?_
 rw [hr,idxOf,dQ]
 intro i y hy
 have:i<l.length:=by
  rcases Nat.lt_or_ge i l.length with h'|h';· exact h'
  simp [List.getElem?_eq_none h'] at hy
 exact h3 i (by omega) y hy
theorem LK (ht:TT t) (name:aK) {l:List Node} {es ps:List (List D)} (aE:es=l.map Node.cells) (hl:l.length<9223372036854775807) {r:Int} (hr:r=idxOf (fun x=>decide (x.name=name)) l):
 FC 73 [.agg [SL es,SL ps],ST name] [] (.ret (bG r)) []:=by
 refine bP ht (aQ:=[]) Tryz.func73 rfl rfl (N:=9) rfl rfl (n:=0) rfl rfl ?_
 cbv
 refine dP [1] trv rfl rfl (MQ ht name aE 113 (fun x=>decide (x.name=name)) hl (fun x _=>PX ht name x.name x.cap.a x.cap.b x.cap.c x.cap.d _ x.up rfl) hr) (cK ?_)
 cbv
 exact az trv trv rfl rfl rfl rfl
theorem PY (ht:TT t) (name:aK) {l:List Node} {es ps:List (List D)} (aE:es=l.map Node.cells) (hl:l.length<9223372036854775807) {nm:aK} {a b c d:Int} {lb:List dx} {up ok:Bool} (hr:eH name l=(⟨nm,⟨a,b,c,d⟩,lb,up⟩,ok)) {lr:List (List D)} (hlr:lr=lb.map dx.cells):
 FC 33 [.agg [SL es,SL ps],ST name] [] (.ret (.eA [.agg [.d (.str nm),.d (.int .u64 a),.d (.int .u64 b),.d (.int .u64 c),.d (.int .u64 d),.d (.sl lr),.d (.bool up)],BL ok])) []:=by
 have hrows:∀r∈es,r.length=7:=by rw [aE];intro r hr;obtain ⟨y,_,rfl⟩:=List.mem_map.1 hr;rfl
 obtain ⟨k,hk⟩:∃k,k=idxOf (fun x:Node=>decide (x.name=name)) l:=⟨_,rfl⟩
 have hneg:k<0→k=-1:=by intro h;rw [hk] at h ⊢;unfold idxOf at h ⊢;split at h<;>omega
 refine bP ht (aQ:=[]) Tryz.func33 rfl rfl (N:=18) rfl rfl (n:=0) rfl rfl ?_
 cbv
 refine gB trv (LK ht name aE hl hk) trv rfl rfl ?_
 cbv
 refine av (fun h=>?_) (fun h=>?_)
 ·have vT:k=-1:=hneg (by simpa [ht] using h)
  clear h hneg
  have hp:=MC (hk▸vT)
  rw [hr] at hp
  obtain ⟨⟨rfl,⟨rfl,rfl,rfl,rfl⟩,rfl,rfl⟩,rfl⟩:(nm=[]∧(a=0∧b=0∧c=0∧d=0)∧lb=[]∧up=false)∧ok=false:=by
   simpa [Node.zero,bM.zero] using hp
  have ZX:lr=[]:=by rw [hlr];rfl
  subst ZX
  clear hlr
  cbv
  exact az trv trv rfl rfl rfl rfl
 have vT:k≠-1:=by intro h1;rw [h1] at h;simp [ht] at h
 clear h hneg
 obtain ⟨i,x,h1,h2,h3⟩:=MD (hk▸vT)
 rw [hr] at h3
 simp only [Prod.mk.injEq] at h3
 obtain ⟨rfl,rfl⟩:=h3
 rw [←hk] at h1
 subst h1
 have hi:i<l.length:=(List.getElem?_eq_some_iff.1 h2).1
 have hel:es.length=l.length:=by rw [aE,lgM]
 cbv
 refine jG [.str nm,.int .u64 a,.int .u64 b,.int .u64 c,.int .u64 d,.sl lr,.bool up] ?_ ?_ ?_
 ·simp only [ht,ah,Int.ofNat_eq_natCast];exact ⟨by omega,by omega,hrows⟩
 ·simp [ht,aE,h2,hlr]
 cbv
 exact az trv trv rfl rfl rfl rfl
theorem SQ (x y:Int) {r s:Int} (hr:r=(((x.toNat+y.toNat)%18446744073709551616:Nat):Int)) (hs:s=(((x.toNat+y.toNat) / 18446744073709551616:Nat):Int)):
 FC 212 [.d (.int .u64 x),.d (.int .u64 y),.d (.int .u64 0)] [] (.ret (.eA [.d (.int .u64 r),.d (.int .u64 s)])) []:=by
 refine YQ Tryz.func212 (by kernel_rfl) (by kernel_rfl) (by kernel_rfl) (e:=add64Entry) (by kernel_rfl) ?_
 intro β w vs ok h
 simp only [an,ak,aL] at h
 obtain ⟨_,_,rfl,rfl,_,_,rfl,rfl,_,_,rfl,rfl,rfl⟩:=h
 refine ⟨.tuple #[.int .u64 r,.int .u64 s],?_,?_⟩
 ·subst hr hs;rfl
 simp only [ak,an,aL];exact ⟨_,rfl,_,_,rfl,rfl,_,_,rfl,rfl,rfl⟩
def Vr:Array Value→Sem Value:=fun args=>do
 let (x,y,b) ←Extern.MathBitsCarry.three "Sub64" args
 pure (Extern.MathBitsCarry.pair ((x+Extern.MathBitsCarry.m64-y-b)%Extern.MathBitsCarry.m64) (if x<y+b then 1 else 0))
theorem SR (x y:Int) {r s:Int} (hr:r=(((x.toNat+18446744073709551616-y.toNat)%18446744073709551616:Nat):Int)) (hs:s=((if x.toNat<y.toNat then 1 else 0:Nat):Int)):
 FC 224 [.d (.int .u64 x),.d (.int .u64 y),.d (.int .u64 0)] [] (.ret (.eA [.d (.int .u64 r),.d (.int .u64 s)])) []:=by
 refine YQ Tryz.func224 (by kernel_rfl) (by kernel_rfl) (by kernel_rfl) (e:=Vr) (by kernel_rfl) ?_
 intro β w vs ok h
 simp only [an,ak,aL] at h
 obtain ⟨_,_,rfl,rfl,_,_,rfl,rfl,_,_,rfl,rfl,rfl⟩:=h
 refine ⟨.tuple #[.int .u64 r,.int .u64 s],?_,?_⟩
 ·subst hr hs;rfl
 simp only [ak,an,aL];exact ⟨_,rfl,_,_,rfl,rfl,_,_,rfl,rfl,rfl⟩
theorem MR (ht:TT t) (x y:Int) {r:Int} {ok:Bool} (h:(r,ok)=GP x y):
 FC 183 [.d (.int .u64 x),.d (.int .u64 y)] [] (.ret (.eA [.d (.int .u64 r),.d (.bool ok)])) []:=by
 obtain ⟨a,ha⟩:∃a:Int,a=(((x.toNat+y.toNat)%18446744073709551616:Nat):Int):=⟨_,rfl⟩
 obtain ⟨b,hb⟩:∃b:Int,b=(((x.toNat+y.toNat) / 18446744073709551616:Nat):Int):=⟨_,rfl⟩
 refine bP ht (aQ:=[]) Tryz.func183 rfl rfl (N:=17) rfl rfl (n:=0) rfl rfl ?_
 cbv
 refine gB trv (SQ x y ha hb) trv rfl rfl ?_
 cbv
 refine av (fun hc=>?_) (fun hc=>?_)
 ·cbv
  refine az trv trv rfl rfl rfl ?_
  simp only [ht,ah,Bool.not_eq_true',decide_eq_false_iff_not] at hc ha hb
  simp only [GP] at h
  rw [if_neg (by omega)] at h
  cases h;rfl
 cbv
 refine az trv trv rfl rfl rfl ?_
 simp only [ht,ah,Bool.not_eq_false',decide_eq_true_eq] at hc ha hb
 simp only [GP] at h
 rw [if_pos (by omega)] at h
 cases h
 rw [ha,Nat.mod_eq_of_lt (by omega)]
theorem MS (ht:TT t) (x y:Int) {r:Int} {ok:Bool} (h:(r,ok)=GQ x y):
 FC 203 [.d (.int .u64 x),.d (.int .u64 y)] [] (.ret (.eA [.d (.int .u64 r),.d (.bool ok)])) []:=by
 obtain ⟨a,ha⟩:∃a:Int,a=(((x.toNat+18446744073709551616-y.toNat)%18446744073709551616:Nat):Int):=⟨_,rfl⟩
 obtain ⟨b,hb⟩:∃b:Int,b=((if x.toNat<y.toNat then 1 else 0:Nat):Int):=⟨_,rfl⟩
 refine bP ht (aQ:=[]) Tryz.func203 rfl rfl (N:=17) rfl rfl (n:=0) rfl rfl ?_
 cbv
 refine gB trv (SR x y ha hb) trv rfl rfl ?_
 cbv
 refine av (fun hc=>?_) (fun hc=>?_)
 ·cbv
  refine az trv trv rfl rfl rfl ?_
  simp only [ht,ah,Bool.not_eq_true',decide_eq_false_iff_not] at hc ha hb
  simp only [GQ] at h
  by_cases hlt:x.toNat<y.toNat
  ·rw [if_pos hlt] at h;cases h;rfl
  rw [if_neg hlt] at hb;exact absurd (by rw [hb];rfl) hc
 cbv
 refine az trv trv rfl rfl rfl ?_
 simp only [ht,ah,Bool.not_eq_false',decide_eq_true_eq] at hc ha hb
 simp only [GQ] at h
 by_cases hlt:x.toNat<y.toNat
 ·rw [if_pos hlt] at hb;rw [hb] at hc;exact absurd hc (by decide)
 rw [if_neg hlt] at h;cases h
 have e:(x.toNat+18446744073709551616-y.toNat)%18446744073709551616=(x.toNat-y.toNat)%18446744073709551616:=by omega
 rw [ha,e]
theorem PZ (ht:TT t) (a0 a1 a2 a3 b0 b1 b2 b3:Int) (op:Int→Int→Int×Bool) (F:Nat) (hop:∀(x y r:Int) (ok:Bool),(r,ok)=op x y→FC F [.d (.int .u64 x),.d (.int .u64 y)] [] (.ret (.eA [.d (.int .u64 r),.d (.bool ok)])) [])
 {r0 r1 r2 r3:Int} {ok:Bool} (h:(⟨r0,r1,r2,r3⟩,ok)=both op ⟨a0,a1,a2,a3⟩ ⟨b0,b1,b2,b3⟩):
 FC 167 [.agg [.d (.int .u64 a0),.d (.int .u64 a1),.d (.int .u64 a2),.d (.int .u64 a3)],.agg [.d (.int .u64 b0),.d (.int .u64 b1),.d (.int .u64 b2),.d (.int .u64 b3)],.fn F []] []
  (.ret (.eA [.agg [.d (.int .u64 r0),.d (.int .u64 r1),.d (.int .u64 r2),.d (.int .u64 r3)],.d (.bool ok)])) []:=by
 obtain ⟨⟨s0,k0⟩,e0⟩:∃s,s=op a0 b0:=⟨_,rfl⟩
 obtain ⟨⟨s1,k1⟩,e1⟩:∃s,s=op a1 b1:=⟨_,rfl⟩
 obtain ⟨⟨s2,k2⟩,e2⟩:∃s,s=op a2 b2:=⟨_,rfl⟩
 obtain ⟨⟨s3,k3⟩,e3⟩:∃s,s=op a3 b3:=⟨_,rfl⟩
 have h0:(k0&&k1&&k2&&k3)=false→r0=0∧r1=0∧r2=0∧r3=0∧ok=false:=by
  intro hk;simp only [both,←e0,←e1,←e2,←e3] at h;rw [if_neg (by rw [hk];simp)] at h;cases h;exact ⟨rfl,rfl,rfl,rfl,rfl⟩
 have h1:(k0&&k1&&k2&&k3)=true→r0=s0∧r1=s1∧r2=s2∧r3=s3∧ok=true:=by
  intro hk;simp only [both,←e0,←e1,←e2,←e3] at h;rw [if_pos hk] at h;cases h;exact ⟨rfl,rfl,rfl,rfl,rfl⟩
 clear h
 have fin:∀{bx:List aA},(k0&&k1&&k2&&k3)=false→GG 0 True (AV.eA [.agg [.d (.int .u64 0),.d (.int .u64 0),.d (.int .u64 0),.d (.int .u64 0)],.d (.bool false)]) bx (some (True,AV.eA [.agg [.d (.int .u64 0),.d (.int .u64 0),.d (.int .u64 0),.d (.int .u64 0)],.d (.bool false)]))
  (.ret (.eA [.agg [.d (.int .u64 r0),.d (.int .u64 r1),.d (.int .u64 r2),.d (.int .u64 r3)],.d (.bool ok)])) []:=by
  intro bx hk
  obtain ⟨rfl,rfl,rfl,rfl,rfl⟩:=h0 hk
  exact az trv trv rfl rfl rfl rfl
 refine bP ht (aQ:=[]) Tryz.func167 rfl rfl (N:=34) rfl rfl (n:=0) rfl rfl ?_
 cbv
 refine bH ⟨[2,3,4,6,12,13],[],[]⟩ (σ:=Nat) (fun j=>[(13,.d (.int .i64 j))]) (fun j=>[(0,.var [.d (.int .u64 (bif Nat.blt 0 j then s0 else a0)),.d (.int .u64 (bif Nat.blt 1 j then s1 else a1)),.d (.int .u64 (bif Nat.blt 2 j then s2 else a2)),.d (.int .u64 (bif Nat.blt 3 j then s3 else a3))])])
  (fun n j=>n+j=4∧(0<j→k0=true)∧(1<j→k1=true)∧(2<j→k2=true)∧(3<j→k3=true)) ?_
 cbv
 refine aH ⟨4,0,⟨rfl,by omega,by omega,by omega,by omega⟩,rfl,?_⟩
 rintro n j ⟨hn,g0,g1,g2,g3⟩
 have hj:j=0∨j=1∨j=2∨j=3∨j=4:=by omega
 rcases hj with rfl|rfl|rfl|rfl|rfl
 ·cbv
  refine lp (by simp [ht]) ?_
  cbv
  refine ⟨by simp [ht],by simp [ht],gB trv (hop _ _ _ _ e0) trv rfl rfl ?_⟩
  cbv
  refine av (fun hc=>?_) (fun hc=>?_)
  ·simp only [ht,Bool.not_eq_true'] at hc
   cbv
   exact fin (by simp [hc])
  simp only [ht,Bool.not_eq_false'] at hc
  cbv
  refine ⟨by simp [ht],?_⟩
  trace_state
  refine aH ⟨3-0,0+1,⟨⟨by omega,by omega,by simp_all,by simp_all,by simp_all,by simp_all⟩,?_⟩⟩
  simp only [ht];rfl
 ·cbv
  refine lp (by simp [ht]) ?_
  cbv
  refine ⟨by simp [ht],by simp [ht],gB trv (hop _ _ _ _ e1) trv rfl rfl ?_⟩
  cbv
  refine av (fun hc=>?_) (fun hc=>?_)
  ·simp only [ht,Bool.not_eq_true'] at hc
   cbv
   exact fin (by simp [hc])
  simp only [ht,Bool.not_eq_false'] at hc
  cbv
  refine ⟨by simp [ht],?_⟩
  trace_state
  refine aH ⟨3-1,1+1,⟨⟨by omega,by omega,by simp_all,by simp_all,by simp_all,by simp_all⟩,?_⟩⟩
  simp only [ht];rfl
 ·cbv
  refine lp (by simp [ht]) ?_
  cbv
  refine ⟨by simp [ht],by simp [ht],gB trv (hop _ _ _ _ e2) trv rfl rfl ?_⟩
  cbv
  refine av (fun hc=>?_) (fun hc=>?_)
  ·simp only [ht,Bool.not_eq_true'] at hc
   cbv
   exact fin (by simp [hc])
  simp only [ht,Bool.not_eq_false'] at hc
  cbv
  refine ⟨by simp [ht],?_⟩
  trace_state
  refine aH ⟨3-2,2+1,⟨⟨by omega,by omega,by simp_all,by simp_all,by simp_all,by simp_all⟩,?_⟩⟩
  simp only [ht];rfl
 ·cbv
  refine lp (by simp [ht]) ?_
  cbv
  refine ⟨by simp [ht],by simp [ht],gB trv (hop _ _ _ _ e3) trv rfl rfl ?_⟩
  cbv
  refine av (fun hc=>?_) (fun hc=>?_)
  ·simp only [ht,Bool.not_eq_true'] at hc
   cbv
   exact fin (by simp [hc])
  simp only [ht,Bool.not_eq_false'] at hc
  cbv
  refine ⟨by simp [ht],?_⟩
  trace_state
  refine aH ⟨3-3,3+1,⟨⟨by omega,by omega,by simp_all,by simp_all,by simp_all,by simp_all⟩,?_⟩⟩
  simp only [ht];rfl
 cbv
 refine pp (by simp [ht]) ?_
 cbv
 obtain ⟨rfl,rfl,rfl,rfl,rfl⟩:=h1 (by simp [g0,g1,g2,g3])
 exact az trv trv rfl rfl rfl rfl
theorem Vs (ht:TT t) (a0 a1 a2 a3 b0 b1 b2 b3:Int) {r0 r1 r2 r3:Int} {ok:Bool} (h:(⟨r0,r1,r2,r3⟩,ok)=jX ⟨a0,a1,a2,a3⟩ ⟨b0,b1,b2,b3⟩):
 FC 137 [V4 a0 a1 a2 a3,V4 b0 b1 b2 b3] [] (.ret (.eA [V4 r0 r1 r2 r3,BL ok])) []:=by
 refine bP ht (aQ:=[]) Tryz.func137 rfl rfl (N:=11) rfl rfl (n:=0) rfl rfl ?_
 cbv
 refine gB trv (PZ ht _ _ _ _ _ _ _ _ GP 183 (fun x y r ok=>MR ht x y) h) trv rfl rfl ?_
 cbv
 exact az trv trv rfl rfl rfl rfl
theorem EF (ht:TT t) (a0 a1 a2 a3 b0 b1 b2 b3:Int) {r0 r1 r2 r3:Int} {ok:Bool} (h:(⟨r0,r1,r2,r3⟩,ok)=ej ⟨a0,a1,a2,a3⟩ ⟨b0,b1,b2,b3⟩):
 FC 170 [V4 a0 a1 a2 a3,V4 b0 b1 b2 b3] [] (.ret (.eA [V4 r0 r1 r2 r3,BL ok])) []:=by
 refine bP ht (aQ:=[]) Tryz.func170 rfl rfl (N:=11) rfl rfl (n:=0) rfl rfl ?_
 cbv
 refine gB trv (PZ ht _ _ _ _ _ _ _ _ GQ 203 (fun x y r ok=>MS ht x y) h) trv rfl rfl ?_
 cbv
 exact az trv trv rfl rfl rfl rfl
theorem SS (ht:TT t) (a0 a1 a2 a3 b0 b1 b2 b3:Int) {ok:Bool} (h:ok=lq ⟨a0,a1,a2,a3⟩ ⟨b0,b1,b2,b3⟩):
 FC 142 [V4 a0 a1 a2 a3,V4 b0 b1 b2 b3] [] (.ret (BL ok)) []:=by
 obtain ⟨⟨⟨r0,r1,r2,r3⟩,k⟩,e⟩:∃s,s=ej ⟨b0,b1,b2,b3⟩ ⟨a0,a1,a2,a3⟩:=⟨_,rfl⟩
 have hk:ok=k:=by rw [h];unfold lq;rw [←e]
 refine bP ht (aQ:=[]) Tryz.func142 rfl rfl (N:=14) rfl rfl (n:=0) rfl rfl ?_
 cbv
 refine gB trv (EF ht _ _ _ _ _ _ _ _ e) trv rfl rfl ?_
 cbv
 exact az trv trv rfl rfl rfl (by rw [hk])
theorem Vt (ht:TT t) (name:aK) {l:List Node} {ps:List Place} {es qs:List (List D)} (aE:es=l.map Node.cells) (eM:qs=ps.map Place.cells) (hl:l.length<9223372036854775807) (I0:ps.length<9223372036854775807) {a b c d:Int} {ok:Bool} (hr:cI name l ps=(⟨a,b,c,d⟩,ok)):
 FC 120 [.agg [SL es,SL qs],ST name] [] (.ret (.eA [V4 a b c d,BL ok])) []:=by
 have hrows:∀r∈qs,r.length=6:=by rw [eM];intro r hr;obtain ⟨y,_,rfl⟩:=List.mem_map.1 hr;rfl
 have hel:qs.length=ps.length:=by rw [eM,lgM]
 obtain ⟨x,XZ,hf⟩:∃x XZ,eH name l=(x,XZ):=⟨_,_,rfl⟩
 obtain ⟨nm,⟨a0,b0,c0,d0⟩,lb,up⟩:=x
 obtain ⟨lr,hlr⟩:∃lr,lr=lb.map dx.cells:=⟨_,rfl⟩
 obtain ⟨J,hJ⟩:∃J:Nat→(bM×Bool)×Nat→Prop,∀n v,J n v↔(v.2+n=ps.length∧(ps.drop v.2).foldl (cO name) v.1=ps.foldl (cO name) (⟨a0,b0,c0,d0⟩,XZ)):=⟨fun n v=>v.2+n=ps.length∧(ps.drop v.2).foldl (cO name) v.1=ps.foldl (cO name) (⟨a0,b0,c0,d0⟩,XZ),fun _ _=>Iff.rfl⟩
 refine bP ht (aQ:=[]) Tryz.func120 rfl rfl (N:=45) rfl rfl (n:=0) rfl rfl ?_
 cbv
 refine Lt trv (PY ht name aE hl hf hlr) trv rfl rfl rfl ?_
 cbv
 refine bH ⟨[1,4,7,8,20,21,22],[],[]⟩ (σ:=(bM×Bool)×Nat) (fun v=>[(7,BL (t _ fun _=>v.1.2)),(22,bG (t _ fun _=>(v.2:Int)))]) (fun v=>[(1,.var [.d (.int .u64 (t _ fun _=>v.1.1.a)),.d (.int .u64 (t _ fun _=>v.1.1.b)),.d (.int .u64 (t _ fun _=>v.1.1.c)),.d (.int .u64 (t _ fun _=>v.1.1.d))])]) J ?_
 cbv
 refine aH ⟨ps.length,((⟨a0,b0,c0,d0⟩,XZ),0),(hJ _ _).2 ⟨by simp,by simp⟩,by simp only [ht];rfl,?_⟩
 rintro n ⟨⟨⟨a1,b1,c1,d1⟩,N6⟩,k⟩ hj
 obtain ⟨j1,j2⟩:=(hJ _ _).1 hj
 clear hj
 simp only at j1 j2
 cbv
 refine av (fun h=>?_) (fun h=>?_)
 ·have hk:k<ps.length:=by simp [ht,ah] at h;omega
  clear h
  obtain ⟨x,hx⟩:∃x,ps[k]?=some x:=⟨ps[k],by simp⟩
  obtain ⟨jb,nd,⟨v1,v2,v3,v4⟩⟩:=x
  have hd:ps.drop k=⟨jb,nd,⟨v1,v2,v3,v4⟩⟩::ps.drop (k+1):=by
   rw [List.drop_eq_getElem_cons hk];congr 1
   rw [List.getElem?_eq_getElem hk] at hx;exact Option.some.inj hx
  rw [hd,List.foldl_cons] at j2
  cbv
  refine jG [.int .u64 jb,.str nd,.int .u64 v1,.int .u64 v2,.int .u64 v3,.int .u64 v4] ?_ ?_ ?_
  ·simp only [ht,ah];exact ⟨by omega,by omega,hrows⟩
  ·simp [ht,ah,eM,hx]
  cbv
  repeat (first|refine gI (by (simp [ht];done)) ?_|refine pI (by (simp [ht];done)) ?_)
  refine av (fun hb=>?_) (fun hb=>?_)
  ·have hb':(N6&&decide (nd=name))=true:=by simp [ht] at hb ⊢;exact hb
   clear hb
   obtain ⟨⟨⟨r0,r1,r2,r3⟩,okr⟩,hv⟩:∃s,s=ej ⟨a1,b1,c1,d1⟩ ⟨v1,v2,v3,v4⟩:=⟨_,rfl⟩
   have hst:cO name (⟨a1,b1,c1,d1⟩,N6) ⟨jb,nd,⟨v1,v2,v3,v4⟩⟩=(⟨r0,r1,r2,r3⟩,okr):=by simp only [cO,hb',if_true];exact hv.symm
   rw [hst] at j2
   cbv
   refine gB trv (EF ht _ _ _ _ _ _ _ _ (by simp only [ht];exact hv)) trv rfl rfl ?_
   cbv
   refine aH ⟨n-1,((⟨r0,r1,r2,r3⟩,okr),k+1),⟨by omega,(hJ _ _).2 ⟨by show k+1+(n-1)=_;omega,j2⟩⟩,?_⟩
   simp only [ht,ah,aG (show k<9223372036854775807 by omega)];rfl
  have hb':(N6&&decide (nd=name))=false:=by simp [ht] at hb ⊢;exact hb
  clear hb
  have hst:cO name (⟨a1,b1,c1,d1⟩,N6) ⟨jb,nd,⟨v1,v2,v3,v4⟩⟩=(⟨a1,b1,c1,d1⟩,N6):=by simp [cO,hb']
  rw [hst] at j2
  cbv
  refine aH ⟨n-1,((⟨a1,b1,c1,d1⟩,N6),k+1),⟨by omega,(hJ _ _).2 ⟨by show k+1+(n-1)=_;omega,j2⟩⟩,?_⟩
  simp only [ht,ah,aG (show k<9223372036854775807 by omega)];rfl
 have hk:k=ps.length:=by simp [ht,ah] at h;omega
 clear h
 rw [hk,List.drop_length,List.foldl_nil] at j2
 have RS:(if N6 then ((⟨a1,b1,c1,d1⟩:bM),N6) else (bM.zero,false))=(⟨a,b,c,d⟩,ok):=by rw [←hr,cI,hf,←j2]
 cbv
 refine av (fun hb=>?_) (fun hb=>?_)
 ·have hb':N6=false:=by simpa [ht] using hb
  clear hb
  subst hb'
  obtain ⟨⟨rfl,rfl,rfl,rfl⟩,rfl⟩:(a=0∧b=0∧c=0∧d=0)∧ok=false:=by simpa [bM.zero,eq_comm] using RS
  cbv
  exact az trv trv rfl rfl rfl rfl
 have hb':N6=true:=by simpa [ht] using hb
 clear hb
 subst hb'
 obtain ⟨⟨rfl,rfl,rfl,rfl⟩,rfl⟩:(a1=a∧b1=b∧c1=c∧d1=d)∧true=ok:=by simpa using RS
 cbv
 refine az trv trv rfl rfl rfl ?_
 simp only [ht]
theorem SU (ht:TT t) (name:aK) {l:List Node} {es ps:List (List D)} (aE:es=l.map Node.cells) (hl:l.length<9223372036854775807):
 FC 33 [.agg [SL es,SL ps],ST name] [] (.ret (Pz t (t _ fun _=>eH name l))) []:=by
 simp only [ht]
 generalize hr:eH name l=r
 obtain ⟨⟨nm,⟨a,b,c,d⟩,lb,up⟩,ok⟩:=r
 exact (by simpa only [Pz,Un,ht] using PY ht name aE hl hr rfl)
theorem LL (ht:TT t) (name:aK) {l:List Node} {ps:List Place} {es qs:List (List D)} (aE:es=l.map Node.cells) (eM:qs=ps.map Place.cells) (hl:l.length<9223372036854775807) (I0:ps.length<9223372036854775807):
 FC 120 [.agg [SL es,SL qs],ST name] [] (.ret (YR (t _ fun _=>cI name l ps))) []:=by
 simp only [ht]
 generalize hr:cI name l ps=r
 obtain ⟨⟨a,b,c,d⟩,ok⟩:=r
 exact Vt ht name aE eM hl I0 hr
theorem vC (ht:TT t) (a b c d e f g h:Int):FC 142 [V4 a b c d,V4 e f g h] [] (.ret (dh (t _ fun _=>lq ⟨a,b,c,d⟩ ⟨e,f,g,h⟩))) []:=by
 simp only [ht];exact SS ht _ _ _ _ _ _ _ _ rfl
theorem SV (ht:TT t) (name:aK) (v0 v1 v2 v3:Int) {l:List Node} {ps:List Place} {es qs:List (List D)} (aE:es=l.map Node.cells) (eM:qs=ps.map Place.cells) (hl:l.length<9223372036854775807) (I0:ps.length<9223372036854775807):
 FC 119 [.agg [SL es,SL qs],ST name,V4 v0 v1 v2 v3] [] (.ret (gF (t _ fun _=>m7 name ⟨v0,v1,v2,v3⟩ l ps))) []:=by
 refine bP ht (aQ:=[]) Tryz.func119 rfl rfl (N:=39) rfl rfl (n:=0) rfl rfl ?_
 cbv
 refine aF trv (SU ht _ ‹_› ‹_›) trv rfl rfl rfl (fun r0 dj=>?_)
 simp only [ht] at dj
 cbv
 refine bc trv (LL ht _ ‹_› ‹_› ‹_› ‹_›) trv rfl rfl (fun r1 cF=>?_)
 simp only [ht] at cF
 cbv
 refine av (fun h2=>?_) (fun h2=>?_)
 ·simp [ht] at h2
  cbv
  refine az trv trv rfl rfl rfl ?_
  (simp only [ht,m7];grind)
 simp [ht] at h2
 cbv
 refine av (fun h3=>?_) (fun h3=>?_)
 ·simp [ht] at h3
  cbv
  refine az trv trv rfl rfl rfl ?_
  (simp only [ht,m7];grind)
 simp [ht] at h3
 cbv
 iterate 2 refine gI (by simp [ht]) ?_
 refine eY (fun g4=>⟨by simp [ht] at g4 ⊢;exact g4,trv,vC ht _ _ _ _ _ _ _ _⟩) rfl rfl (fun r5 zj=>?_)
 simp only [ht] at zj
 cbv
 refine gI (by simp [ht]) ?_
 refine pI (by simp [ht]) ?_
 refine av (fun h6=>?_) (fun h6=>?_)
 ·simp [ht] at h6
  cbv
  refine az trv trv rfl rfl rfl ?_
  (simp_all [m7];done)
 simp [ht] at h6
 cbv
 refine az trv trv rfl rfl rfl ?_
 (simp_all [m7];done)
theorem Cd (ht:TT t) {ps:List Place} {es:List (List D)} (aE:es=ps.map Place.cells) (hs:ps.length<1000000000):
 FC 118 [SL es] [] (.ret (.ow 0 6 (t _ fun _=>(ps.map Place.cells).length))) [.row 6 (t _ fun _=>ps.map Place.cells)]:=by
 simp only [ht];subst aE
 refine vB ht ?_ ?_ (by simp)
 ·intro r hr;obtain ⟨y,_,rfl⟩:=List.mem_map.1 hr;rfl
 simp;omega
theorem Vu (ht:TT t) (bI:Int) (v0 v1 v2 v3:Int) {l:List Node} {ps:List Place} {names:List aK} {es qs ns:List (List D)} (aE:es=l.map Node.cells) (eM:qs=ps.map Place.cells) (fF:ns=names.map bE) (hl:l.length<1000000000) (I0:ps.length<100000000) (OG:names.length<100000000):
 FC 78 [.agg [SL es,SL qs],aC bI,SL ns,V4 v0 v1 v2 v3] [] (.ret (nC t (t _ fun _=>tH ⟨l,ps⟩ bI names ⟨v0,v1,v2,v3⟩))) []:=by
 refine bP ht (aQ:=[]) Tryz.func78 rfl rfl (N:=45) rfl rfl (n:=0) rfl rfl ?_
 cbv
 have aD:es.length=l.length:=by rw [aE,lgM]
 have bq:qs.length=ps.length:=by rw [eM,lgM]
 have bJ:ns.length=names.length:=by rw [fF,lgM]
 refine dO [false,false,false,false,false,false,false,true] (by kernel_rfl) (by kernel_rfl) ?_
 cbv
 iterate 4 refine gI (by simp) ?_
 refine .inr (GJ trv (Cd ht ‹_› (by omega)) trv rfl (.inr rfl) rfl ?_)
 cbv
 refine gI (by simp) ?_
 obtain ⟨J0,fI⟩:∃J0:Nat→Int×List (List D)→Prop,∀n i u,J0 n (i,u)↔(∃(k:Nat) (rs:List Place),i=k∧k+n=names.length∧u=rs.map Place.cells∧rs.length=ps.length+k∧fB l bI ⟨v0,v1,v2,v3⟩ names ps=fB l bI ⟨v0,v1,v2,v3⟩ (names.drop k) rs):=⟨fun n v=>match v with|(i,u)=>(∃(k:Nat) (rs:List Place),i=k∧k+n=names.length∧u=rs.map Place.cells∧rs.length=ps.length+k∧fB l bI ⟨v0,v1,v2,v3⟩ names ps=fB l bI ⟨v0,v1,v2,v3⟩ (names.drop k) rs),fun _ _ _=>Iff.rfl⟩
 refine bH ⟨[1,4,7,8,10,20,21,22],[],[]⟩ (σ:=Int×List (List D)) (fun v=>[(22,.d (.int .i64 (t _ fun _=>v.1)))]) (fun v=>[(2,.var [AV.cl [],AV.cl []]),(4,.row 6 (t _ fun _=>v.2)),(3,.var [AV.d (D.sl es),.ow 4 6 (t _ fun _=>(v.2).length)])]) J0 ?_
 cbv
 refine aH ⟨names.length,(_,_),(fI _ _ _).2 ?_,by simp only [ht];rfl,?_⟩
 ·exact ⟨0,ps,rfl,by simp,by simp,by simp,by simp⟩
 rintro n ⟨i,u⟩ hj
 replace hj:=(fI _ _ _).1 hj
 obtain ⟨k,rs,rfl,j1,j2,j3,j4⟩:=hj
 have yg:u.length=rs.length:=by rw [j2,lgM]
 cbv
 refine av (fun h1=>?_) (fun h1=>?_)
 ·simp [ht,ah,bJ] at h1
  cbv
  refine kp ht fF (cT:=gw t) (by (simp only [ht,ah];omega)) (by (simp only [ht,ah];omega)) (fun _=>rfl) (fun _=>rfl) (fun x2 n9=>?_)
  simp [ht,ah] at n9
  rw [jI n9,fB] at j4
  cbv
  refine bc trv (SV ht _ _ _ _ _ ‹_› (by (simp only [ht];omega)) (by omega) (by omega)) (by simp [ht]) rfl rfl (fun r3 mM=>?_)
  simp only [ht] at mM
  cbv
  refine av (fun h4=>?_) (fun h4=>?_)
  ·simp [ht] at h4
   cbv
   refine az trv trv rfl rfl rfl ?_
   (simp only [ht,tH];grind)
  simp [ht] at h4
  cbv
  refine ⟨?_,?_⟩
  ·(simp only [ht,true_and];exact Uo j2 (fun _=>rfl) rfl (by omega) (by decide))
  cbv
  refine cz (_,_) (by simp only [ht,←List.length_append];rfl) (n-1) ?_ ((fI _ _ _).2 ?_)
  ·omega
  simp only [ah]
  refine ⟨k+1,rs++[⟨bI,x2,⟨v0,v1,v2,v3⟩⟩],aG (by omega),by omega,?_,by simp;omega,?_⟩
  ·(simp [*];done)
  (simp_all;done)
 simp [ht,ah,bJ] at h1
 cbv
 refine az trv (by simp [ht]) rfl rfl rfl ?_
 (rw [List.drop_eq_nil_of_le (by omega),fB] at j4;simp [ht,tH,j4,aE,j2];done)
theorem Hq (ht:TT t) (name:aK) {l:List Node} {es ps:List (List D)} (aE:es=l.map Node.cells) (hl:l.length<9223372036854775807):
 FC 73 [.agg [SL es,SL ps],ST name] [] (.ret (gF (t _ fun _=>idxOf (fun x=>decide (x.name=name)) l))) []:=by
 simp only [ht];exact LK ht name aE hl rfl
theorem oX (ht:TT t) {l:List Node} {es:List (List D)} (aE:es=l.map Node.cells) (hs:l.length<1000000000):
 FC 147 [SL es] [] (.ret (.ow 0 7 (t _ fun _=>(l.map Node.cells).length))) [.row 7 (t _ fun _=>l.map Node.cells)]:=by
 simp only [ht];subst aE
 refine Hj ht ?_ ?_ (by simp)
 ·intro r hr;obtain ⟨y,_,rfl⟩:=List.mem_map.1 hr;rfl
 simp;omega
def dx.aZ (_:Th) (x:dx):List D:=[.str x.key,.str x.value]
theorem MT (ht:TT t) (c:Int) {l:List (Int×Int)} {es:List (List D)} (aE:es=l.map (fun x=>[D.int .i32 x.1,D.int .i32 x.2])) (f:Nat) (p:Int×Int→Bool) (hl:l.length<9223372036854775807)
 (hf:∀x∈l,FC f [.agg [.d (.int .i32 x.1),.d (.int .i32 x.2)],.ptr 0 0] [.var [.d (.int .i32 c)]] (.ret (BL (p x))) [.var [.d (.int .i32 c)]]) {r:Int} (hr:r=idxOf p l):FC 225 [SL es,.fn f [.ptr 0 0]] [.var [.d (.int .i32 c)]] (.ret (bG r)) [.var [.d (.int .i32 c)]]:=by
 have hel:es.length=l.length:=by rw [aE,lgM]
 obtain ⟨J,hJ⟩:∃J:Nat→Nat→Prop,∀n v,J n v↔(v+n=l.length∧∀i<v,∀x,l[i]?=some x→p x=false):=⟨fun n v=>v+n=l.length∧∀i<v,∀x,l[i]?=some x→p x=false,fun _ _=>Iff.rfl⟩
 refine bP ht (aQ:=[.var [.d (.int .i32 c)]]) Tryz.func225 rfl rfl (N:=19) rfl rfl (n:=1) rfl rfl ?_
 cbv
 refine bH ⟨[0,1,7,8],[],[]⟩ (σ:=Nat) (fun k=>[(8,bG (t _ fun _=>(k:Int)))]) (fun _=>[]) J ?_
 cbv
 refine aH ⟨l.length,0,(hJ _ _).2 ⟨by omega,by intro i hi;simp at hi⟩,by simp only [ht];rfl,?_⟩
 rintro n k hj
 obtain ⟨h2,h3⟩:=(hJ _ _).1 hj
 clear hj
 cbv
 refine av (fun h=>?_) (fun h=>?_)
 ·simp only [ht,ah,decide_eq_true_eq] at h
  have hk:k<l.length:=by omega
  obtain ⟨x,hx⟩:∃x,l[k]?=some x:=⟨l[k],by simp⟩
  have pG:x∈l:=List.mem_of_getElem? hx
  have ix:=hf x pG
  obtain ⟨px,hpx⟩:∃b,b=p x:=⟨_,rfl⟩
  rw [←hpx] at ix
  obtain ⟨lo,hi⟩:=x
  cbv
  refine jG [.int .i32 lo,.int .i32 hi] ?_ ?_ ?_
  ·simp only [ht,ah];refine ⟨by omega,h,?_⟩;rw [aE];intro r hr;obtain ⟨y,_,rfl⟩:=List.mem_map.1 hr;rfl
  ·simp [ht,ah,aE,hx]
  cbv
  refine eG trv ix ?_
  cbv
  refine av (fun hb=>?_) (fun hb=>?_)
  ·cbv
   refine az trv trv rfl rfl rfl ?_
   have e:=dD hx (hpx▸hb) h3
   simp only [ht,ah,hr,idxOf,e]
  cbv
  refine aH ⟨n-1,k+1,⟨by omega,(hJ _ _).2 ⟨by omega,?_⟩⟩,?_⟩
  ·intro i hi y hy
   by_cases hik:i<k
   ·exact h3 i hik y hy
   have:i=k:=by omega
   subst this;rw [hx] at hy;cases hy;rw [←hpx];exact hb
  simp only [ht,ah,aG (show k<9223372036854775807 by omega)];rfl
 simp only [ht,ah,decide_eq_false_iff_not] at h
 have hk:¬k<l.length:=by omega
 clear h
 cbv
 refine az trv trv rfl rfl rfl ?_
 rw [hr,idxOf,dQ]
 intro i y hy
 have:i<l.length:=by
  rcases Nat.lt_or_ge i l.length with h'|h';· exact h'
  simp [List.getElem?_eq_none h'] at hy
 exact h3 i (by omega) y hy
theorem MU (ht:TT t) (c:Int) {l:List (Int×Int)} {es:List (List D)} (aE:es=l.map (fun x=>[D.int .i32 x.1,D.int .i32 x.2])) (f:Nat) (p:Int×Int→Bool) (hl:l.length<9223372036854775807)
 (hf:∀x∈l,FC f [.agg [.d (.int .i32 x.1),.d (.int .i32 x.2)],.ptr 0 0] [.var [.d (.int .i32 c)]] (.ret (BL (p x))) [.var [.d (.int .i32 c)]]) {r:Bool} (hr:r=l.any p):FC 204 [SL es,.fn f [.ptr 0 0]] [.var [.d (.int .i32 c)]] (.ret (BL r)) [.var [.d (.int .i32 c)]]:=by
 obtain ⟨k,hk⟩:∃k,k=idxOf p l:=⟨_,rfl⟩
 refine bP ht (aQ:=[.var [.d (.int .i32 c)]]) Tryz.func204 rfl rfl (N:=9) rfl rfl (n:=1) rfl rfl ?_
 cbv
 refine eG trv (MT ht c aE f p hl hf hk) ?_
 cbv
 refine az trv trv rfl rfl rfl ?_
 simp only [ht,hr,iQ,hk]
theorem P0 (ht:TT t) (c lo hi:Int) {r:Bool} (hr:r=(decide (lo≤c)&&decide (c≤hi))):FC 205 [.agg [.d (.int .i32 lo),.d (.int .i32 hi)],.ptr 0 0] [.var [.d (.int .i32 c)]] (.ret (BL r)) [.var [.d (.int .i32 c)]]:=by
 refine bP ht (aQ:=[.var [.d (.int .i32 c)]]) Tryz.func205 rfl rfl (N:=14) rfl rfl (n:=1) rfl rfl ?_
 cbv
 repeat (first|refine gI (by (simp [ht];done)) ?_|refine pI (by (simp [ht];done)) ?_)
 refine az trv trv rfl rfl rfl ?_
 simp [ht,hr]
theorem LM (ht:TT t) (c:Int) (l:List (Int×Int)) {es:List (List D)} (aE:es=l.map (fun x=>[D.int .i32 x.1,D.int .i32 x.2])) (hl:l.length<9223372036854775807) {r:Bool} (hr:r=GV c l):FC 171 [.d (.int .i32 c),SL es] [] (.ret (BL r)) []:=by
 refine bP ht (aQ:=[]) Tryz.func171 rfl rfl (N:=8) rfl rfl (n:=0) rfl rfl ?_
 cbv
 refine eG trv (MU ht c aE 205 (fun x=>decide (x.1≤c)&&decide (c≤x.2)) hl (fun x _=>P0 ht c x.1 x.2 rfl) hr) ?_
 cbv
 exact az trv trv rfl rfl rfl rfl
theorem SW (ht:TT t) (s:aK) (hs:s.length<9223372036854775807) {r:Int} (hr:r=qx s):FC 206 [ST s] [] (.ret (bG r)) []:=by
 obtain ⟨J,hJ⟩:∃J:Nat→Nat×Nat→Prop,∀n v,J n v↔(s.length≤v.1+n∧v.2+(iH s n v.1).length=qx s):=⟨fun n v=>s.length≤v.1+n∧v.2+(iH s n v.1).length=qx s,fun _ _=>Iff.rfl⟩
 have hc:qx s≤s.length:=Az s _ _
 refine bP ht (aQ:=[]) Tryz.func206 rfl rfl (N:=10) rfl rfl (n:=0) rfl rfl ?_
 cbv
 refine bH ⟨[2,4],[],[]⟩ (σ:=Nat×Nat) (fun v=>[(2,bG (t _ fun _=>(v.2:Int)))]) (fun v=>[(0,.it s (t _ fun _=>v.1))]) J ?_
 cbv
 refine aH ⟨s.length,(0,0),(hJ _ _).2 ⟨by simp,by simp [qx,CV]⟩,by simp only [ht];rfl,?_⟩
 rintro n ⟨pos,k⟩ hj
 obtain ⟨hf,hj⟩:=(hJ _ _).1 hj
 cbv
 refine ⟨fun hp=>?_,fun hp=>?_⟩
 ·simp only [ht] at hp hj hf
  cases n with
  |zero=>exfalso;omega
  |succ n=>
  rw [iH,if_pos hp] at hj
  cbv
  refine lp rfl ?_
  cbv
  have hd:=Lv s pos hp
  refine aH ⟨n,(pos+(dec s pos).2,k+1),⟨by omega,(hJ _ _).2 ⟨?_,?_⟩⟩,?_⟩
  ·show s.length≤pos+_+n;omega
  ·rw [←hj];simp only [List.length_cons];omega
  simp only [ht,ah,aG (show k<9223372036854775807 by simp at hj;omega)];rfl
 simp only [ht] at hp hj
 cbv
 refine pp rfl ?_
 cbv
 refine az trv trv rfl rfl rfl ?_
 have e:iH s n pos=[]:=by cases n with
  |zero=>rfl
  |succ n=>rw [iH,if_neg hp]
 rw [e] at hj
 simp only [ht,ah,hr,←hj];rfl
theorem P1 (ht:TT t) (s:aK) (hs:s.length<9223372036854775807) {r:Int} (hr:r=qx s):FC 172 [ST s] [] (.ret (bG r)) []:=by
 refine bP ht (aQ:=[]) Tryz.func172 rfl rfl (N:=5) rfl rfl (n:=0) rfl rfl ?_
 cbv
 refine gB trv (SW ht s hs hr) trv rfl rfl ?_
 cbv
 exact az trv trv rfl rfl rfl rfl
theorem AZ (ht:TT t) (s:aK) (hs:s.length<9223372036854775807) {r:Bool} (hr:r=eD s):FC 121 [ST s] [] (.ret (BL r)) []:=by
 obtain ⟨J,hJ⟩:∃J:Nat→Nat→Prop,∀n v,J n v↔(s.length≤v+n∧(CV s).all Ve=(iH s n v).all Ve):=⟨fun n v=>s.length≤v+n∧(CV s).all Ve=(iH s n v).all Ve,fun _ _=>Iff.rfl⟩
 refine bP ht (aQ:=[]) Tryz.func121 rfl rfl (N:=32) rfl rfl (n:=0) rfl rfl ?_
 cbv
 refine bH ⟨[0,2,6],[],[]⟩ (σ:=Nat) (fun _=>[]) (fun v=>[(0,.it s (t _ fun _=>v))]) J ?_
 cbv
 refine aH ⟨s.length,0,(hJ _ _).2 ⟨by simp,by simp [CV]⟩,by simp only [ht];rfl,?_⟩
 rintro n pos hj
 obtain ⟨hf,hj⟩:=(hJ _ _).1 hj
 cbv
 refine ⟨fun hp=>?_,fun hp=>?_⟩
 ·simp only [ht] at hp hj hf
  cases n with
  |zero=>exfalso;omega
  |succ n=>
  rw [iH,if_pos hp] at hj
  obtain ⟨b1,pX⟩:∃b,b=GV (dec s pos).1 Eh:=⟨_,rfl⟩
  obtain ⟨b2,sE⟩:∃b,b=GV (dec s pos).1 marks:=⟨_,rfl⟩
  cbv
  refine lp rfl ?_
  cbv
  refine gB trv (LM ht _ Eh rfl (by decide) (r:=b1) (by simp only [ht,ah];exact pX)) trv rfl rfl ?_
  cbv
  repeat (refine gI (by (simp [ht];done)) ?_)
  refine GI (fun hg=>⟨by simp [ht] at hg ⊢;exact hg,trv,LM ht _ marks rfl (by decide) (r:=b2) (by simp only [ht,ah];exact sE)⟩) rfl rfl ?_
  cbv
  repeat (first|refine gI (by first|(simp [ht,aj];done)|(simp [ht,aj];intros;simp_all;done)) ?_|refine pI (by (simp [ht];done)) ?_)
  obtain ⟨b,hb⟩:∃b,b=(!b1&&(decide (pos=0)||!b2)):=⟨_,rfl⟩
  have hw:Ve (pos,(dec s pos).1)=!b:=by
   simp only [Ve,←pX,←sE,hb];cases b1<;>cases b2<;>simp
  refine av (fun hc=>?_) (fun hc=>?_)
  ·have ZY:b=true:=by rw [hb];simp [ht,ah] at hc;revert hc;cases b1<;>cases b2<;>simp
   cbv
   refine az trv trv rfl rfl rfl ?_
   simp only [List.all_cons,hw,ZY] at hj
   simp [hr,eD,hj]
  have ZZ:b=false:=by rw [hb];simp [ht,ah] at hc;revert hc;cases b1<;>cases b2<;>simp
  cbv
  have hd:=Lv s pos hp
  refine aH ⟨n,pos+(dec s pos).2,⟨by omega,(hJ _ _).2 ⟨by omega,?_⟩⟩,?_⟩
  ·rw [hj,List.all_cons,hw,ZZ];rfl
  simp only [ht];rfl
 simp only [ht] at hp hj
 have e:iH s n pos=[]:=by cases n with
  |zero=>rfl
  |succ n=>rw [iH,if_neg hp]
 rw [e] at hj
 obtain ⟨k,hk⟩:∃k:Int,k=qx s:=⟨_,rfl⟩
 cbv
 refine pp rfl ?_
 cbv
 repeat (refine gI (by (simp [ht];done)) ?_)
 refine GI (fun hg=>⟨by simp [ht] at hg ⊢;exact hg,trv,P1 ht s hs hk⟩) rfl rfl ?_
 cbv
 repeat (first|refine gI (by (simp [ht];done)) ?_|refine pI (by (simp [ht];done)) ?_)
 refine az trv trv rfl rfl rfl ?_
 simp only [List.all_nil] at hj
 simp only [ht,ah,hr,eD,hj,hk,Bool.true_and]
 simp
 congr 1
 rw [decide_eq_decide];omega
end Dem
end
