/- Parts of a proof, joined. -/
import Derived.Test.YtjnbpclolnmimaaGreatDoorJ17
set_option linter.unusedSimpArgs false
set_option linter.unusedVariables false
set_option maxRecDepth 100000
set_option maxHeartbeats 4000000
section
open Go Go.Proofs Go.ChangeShapes Go.WideShapes Go.RowKit
namespace Dem
section
variable {H:Type} {enc:TypeId×Value→H} {W:World} {v:Value} {d:DataW H} {p:List MemPlace} {base:Nat}
theorem wf_u64 {n:Int} (h:(Lit.int .u64 n).wf=true):0≤n∧n<18446744073709551616:=by
 simp only [Lit.wf,Bool.and_eq_true,IntKind.min,IntKind.max,IntKind.signed,IntKind.bits] at h
 simp at h
 omega
theorem T8 {r:List D} (h:cG [.int .u64,.int .u64,.int .i64] r):∃x:bU,r=x.cells∧True:=by
 simp only [cG,rm] at h
 obtain ⟨_,_,rfl,⟨n0,rfl,h0⟩,_,_,rfl,⟨n1,rfl,h1⟩,_,_,rfl,⟨n2,rfl,h2⟩,rfl⟩:=h
 exact ⟨⟨n0,n1,n2⟩,rfl,trivial⟩
theorem NS (hval:Value.okWide Tryz.prog W .any base 22 v) (h:DataW.Trod enc Tryz.prog W 0 (fun _=>true) true 22 v d p):
 ∃l:List bU,ah (fun _=>0) [] W (okW W) (SL (l.map bU.cells)) v∧l.length≤maxLen:=by
 obtain ⟨fuel,hf⟩:=h
 obtain ⟨a,len,cap,rfl⟩:=okWide_slice (show Tryz.prog.underlying 22=some (.slice 29) by kernel_rfl) hval
 obtain ⟨h1,h2⟩:=oB (KT W) 8 fuel 22 [.slice a len cap] (d,p) [.sl [.int .u64,.int .u64,.int .i64]] hf (by kernel_rfl)
 simp only [cG,rm] at h2
 obtain ⟨_,_,e,⟨es,rfl,hl,hr⟩,rfl⟩:=h2
 rw [e] at h1
 simp only [cq] at h1
 obtain ⟨u,r,e2,h3,rfl⟩:=h1
 cases e2
 obtain ⟨l,rfl,oe⟩:=Ab (cells:=bU.cells) (Q:=fun _=>True) es (fun r hm=>T8 (hr r hm))
 exact ⟨l,by simpa only [ah] using h3,by simpa using hl⟩
theorem T9 (hval:Value.okWide Tryz.prog W .any base 23 v) (h:DataW.Trod enc Tryz.prog W 0 (fun _=>true) true 23 v d p):
 ∃k:Int,ah (fun _=>0) [] W (okW W) (.d (.int .u64 k)) v∧0≤k∧k<18446744073709551616:=by
 obtain ⟨n,rfl,_,_,hw⟩:=open_int (show Tryz.prog.underlying 23=some (.int .u64) by kernel_rfl) hval h
 exact ⟨n,by simp only [ah,aK],wf_u64 hw⟩
end
end Dem
end
section
open Go
namespace Dem
def fK (l:List bU) (k:Nat):qG:=(l.take k).foldl tell ⟨0,[]⟩
theorem pT (l:List bU):∀k,k≤l.length→k<1000000→fK l k=⟨(k-32:Nat),(l.take k).drop (k-32)⟩
 |0,_,_=>by simp [fK]
 |k+1,h,hk=>by
  obtain ⟨x,hx⟩:∃x,l[k]?=some x:=⟨_,List.getElem?_eq_getElem (by omega)⟩
  have e:fK l (k+1)=tell (fK l k) x:=by unfold fK;rw [eU hx,List.foldl_append];rfl
  have ll:((l.take k).drop (k-32)++[x]).length=k-(k-32)+1:=by simp;omega
  rw [e,pT l k (by omega) (by omega)]
  unfold tell
  simp only
  rw [ll,eU hx]
  by_cases g:32<k-(k-32)+1
  ·rw [if_pos g]
   have e1:u64 (((k-32:Nat):Int)+1)=((k+1-32:Nat):Int):=by unfold u64;omega
   have e2:((l.take k).drop (k-32)++[x]).drop 1=(l.take k++[x]).drop (k+1-32):=by
    rw [List.drop_append_of_le_length (by simp;omega),List.drop_append_of_le_length (by simp;omega),List.drop_drop]
    congr 2;omega
   rw [e1,e2]
  rw [if_neg g]
  have e1:k-32=0:=by omega
  have e2:k+1-32=0:=by omega
  rw [e1,e2];simp
theorem K2 {l:List bU} {k:Nat} {x:bU} (hx:l[k]?=some x):fK l (k+1)=tell (fK l k) x:=by unfold fK;rw [eU hx,List.foldl_append];rfl
theorem pU {first f:Int} {d:Nat} (h0:0≤first) (hf:0≤f) (hd:d=(f-first).toNat):∀(L:List bU) (k:Nat) (acc:List bU) (nx:Int),first+k+L.length<18446744073709551616→
 wg first f L k (acc,nx)=(acc++(L.drop (d-k)).take (8-acc.length),if (L.drop (d-k)).take (8-acc.length)=[] then nx else first+(max k d:Nat)+((L.drop (d-k)).take (8-acc.length)).length)
 |[],k,acc,nx,_=>by simp [wg]
 |n::L,k,acc,nx,h=>by
  simp only [List.length_cons] at h
  have e1:u64 (first+k)=first+k:=by unfold u64;omega
  have e2:u64 (first+k+1)=first+k+1:=by unfold u64;omega
  unfold wg
  rw [e1,e2]
  by_cases g:f≤first+k
  ·have dk:d-k=0:=by omega
   by_cases g2:acc.length<8
   ·rw [if_pos (by simp [g,g2]),pU h0 hf hd L (k+1) _ _ (by omega)]
    have d1:d-(k+1)=0:=by omega
    have el:8-acc.length=(8-(acc++[n]).length)+1:=by simp;omega
    rw [dk,d1,el]
    simp only [List.drop_zero,List.take_succ_cons,List.length_cons,reduceCtorEq,if_false]
    have m1:max (k+1) d=k+1:=by omega
    have m2:max k d=k:=by omega
    rw [m1,m2]
    generalize L.take (8-(acc++[n]).length)=m
    refine Prod.ext (by simp) ?_
    simp only
    by_cases hm:m=[]
    ·subst hm;simp
    rw [if_neg hm];omega
   rw [if_neg (by simp [g2]),pU h0 hf hd L (k+1) _ _ (by omega)]
   rw [show 8-acc.length=0 by omega];simp
  rw [if_neg (by simp [g]),pU h0 hf hd L (k+1) _ _ (by omega)]
  have dk:d-k=(d-(k+1))+1:=by omega
  have m1:max (k+1) d=max k d:=by omega
  rw [dk,List.drop_succ_cons,m1]
theorem BN {first f:Int} {L:List bU} (h0:0≤first) (hf:0≤f) (h:first+L.length<18446744073709551616):
 tU ⟨first,L⟩ f=((L.drop (f-first).toNat).take 8,if (L.drop (f-first).toNat).take 8=[] then max f first else first+(f-first).toNat+((L.drop (f-first).toNat).take 8).length):=by
 unfold tU
 simp only
 rw [pU h0 hf rfl L 0 [] _ (by simpa using h)]
 simp
def dx (n i:Nat):Nat:=min n (n-32+8*i)
def kg (n i:Nat):Nat:=if i=0 then 0 else dx n i
theorem N2 {l:List bU} {n:Nat} (hn:n≤l.length) (h60:n<1000000) (i:Nat):
 tU (fK l n) (kg n i)=(((l.take n).drop (dx n i)).take 8,((kg n (i+1):Nat):Int)):=by
 rw [pT l n hn h60,BN (by omega) (by omega) (by simp;omega)]
 have e1:n-32+(((kg n i:Nat):Int)-((n-32:Nat):Int)).toNat=dx n i:=by unfold kg dx;split<;>omega
 rw [List.drop_drop,e1]
 refine Prod.ext rfl ?_
 simp only
 have hl:(((l.take n).drop (dx n i)).take 8).length=dx n (i+1)-dx n i:=by
  simp only [List.length_take,List.length_drop];unfold dx;omega
 have hle:dx n i≤dx n (i+1):=by unfold dx;omega
 have ha:kg n (i+1)=dx n (i+1):=by unfold kg;simp
 rw [ha]
 split
 ·rename_i g
  rw [g] at hl
  simp only [List.length_nil] at hl
  unfold kg
  by_cases i0:i=0
  ·subst i0;unfold dx at*;simp;omega
  rw [if_neg i0];unfold dx at*;omega
 rw [hl];omega
theorem Rg (n:Nat):dx n 9=n∧kg n 9=n:=by unfold kg dx;simp;omega
theorem N3 {l:List bU} {n:Nat} (hn:n≤l.length) (h60:n<1000000) {f:Int} (hf:(n:Int)≤f):tU (fK l n) f=([],f):=by
 rw [pT l n hn h60,BN (by omega) (by omega) (by simp;omega)]
 have e:(((l.take n).drop (n-32)).drop (f-((n-32:Nat):Int)).toNat)=[]:=by
  rw [List.drop_drop,List.drop_eq_nil_of_le];simp;omega
 rw [e];simp;omega
theorem Uo {l:List bU} {n i z:Nat} (hn:n≤l.length) (hz:z<(((l.take n).drop (dx n i)).take 8).length):(((l.take n).drop (dx n i)).take 8)[z]?=l[dx n i+z]?∧dx n i+z<n:=by
 simp only [List.length_take,List.length_drop] at hz
 refine ⟨?_,by omega⟩
 rw [List.getElem?_take,if_pos (by omega),List.getElem?_drop,List.getElem?_take,if_pos (by omega)]
theorem Rh {l:List bU} {n i:Nat} (hn:n≤l.length):(((l.take n).drop (dx n i)).take 8).length=min 8 (n-dx n i):=by
 simp only [List.length_take,List.length_drop];omega
theorem K3 {n i:Nat}:dx n (i+1)=dx n i+min 8 (n-dx n i):=by unfold dx;omega
end Dem
end
section
open Go Dem Go.Proofs
namespace Dem
variable {t:Th}
theorem X5 (x:Int):IntKind.i64.wrap x=(x+9223372036854775808)%18446744073709551616-9223372036854775808:=by
 simp only [IntKind.wrap];simp [IntKind.bits,IntKind.signed];omega
theorem mw {l:List bU} {k:Nat} (hk:k≤l.length) (h:k≤60):(fK l k).l.length=min k 32∧(fK l k).first=((k-32:Nat):Int):=by
 rw [pT l k hk (by omega)]
 simp only [List.length_drop,List.length_take]
 exact ⟨by omega,trivial⟩
theorem Ey {l:List bU} {k:Nat} {x:bU} {r:qG} {a b c u:Int} (hx:l[k]?=some x) (ha:a=x.round) (hb:b=x.id) (hc:c=x.kind) (hu:u=(fK l k).first) (hr:r=tell ⟨u,(fK l k).l⟩ ⟨a,b,c⟩):r=fK l (k+1):=by
 subst ha hb hc hu;rw [hr,K2 hx]
theorem L3 (n:Nat):dx n 0=n-32:=by unfold dx;omega
theorem Wd {k n:Nat} {len:Nat} (h1:k+n=60) (h2:k≤len) (h:k<len→60≤(k:Int)):k=min len 60:=by
 by_cases g:k<len
 ·have:=h g;omega
 omega
theorem Vn {l:List bU} {k n:Nat} {v:List (List D)} {u:Int} (h1:k+n=60) (h2:k≤l.length) (h:k<l.length→60≤(k:Int)) (j3:u=(fK l k).first) (j4:v=(fK l k).l.map bU.cells)
 (h4:¬(v.length:Int)=min (l.length:Int) (min 60 32)∨¬u=IntKind.u64.wrap (IntKind.i64.wrap (min (l.length:Int) 60-(v.length:Int)))):False:=by
 have hk:=Wd h1 h2 h
 have lv:v.length=min k 32:=by rw [j4,lgM];exact (mw h2 (by omega)).1
 have lu:=(mw h2 (by omega)).2
 rw [←j3] at lu
 simp only [X5,bG] at h4
 omega
theorem Vo {M:List bU} {k N len:Nat} {kk:Int} (hk:k=min len 60) (hN:N≤k) (lM:M.length=min 8 (k-N)) (i3:kk=(N:Int)) (h:8<(M.length:Int)∨(M.length:Int)<min 8 (IntKind.i64.wrap (min (len:Int) 60-kk))):False:=by
 subst i3;simp only [X5] at h;omega
theorem SI (n i:Nat):dx n i≤n:=by unfold dx;omega
theorem SJ {l M:List bU} {k c N:Nat} (hk:k≤l.length) (hM:M=((l.take k).drop (dx k c)).take 8) (hN:N=dx k c) (q:Nat):∃y,q<M.length→M[q]?=some y∧l[N+q]?=some y∧N+q<k:=by
 by_cases h:q<M.length
 ·subst hM hN
  have:=Uo (n:=k) (i:=c) (z:=q) hk h
  exact ⟨_,fun _=>⟨List.getElem?_eq_getElem h,by rw [←this.1];exact List.getElem?_eq_getElem h,this.2⟩⟩
 exact ⟨⟨0,0,0⟩,fun g=>absurd g h⟩
theorem Vp {l:List bU} {k N c n:Nat} {a kk f u:Int} {r:List bU×Int} {es:List (List D)} (aF:es.length=l.length) (i1:c+n=9) (h6:9≤(c:Int)) (i2:a=((kg k c:Nat):Int)) (hN:N=dx k c) (i3:kk=(N:Int)) (hk:k=min l.length 60) (j3:u=(fK l k).first) (er:r=tU ⟨u,(fK l k).l⟩ f):
 (bif (bif (bif true then decide (kk=min (es.length:Int) 60) else false) then decide (a=IntKind.u64.wrap (min (es.length:Int) 60)) else false) then (bif decide (f<IntKind.u64.wrap (min (es.length:Int) 60)) then true else (bif decide (((r.1.map bU.cells).length:Int)=0) then decide (r.2=f) else false)) else false)=true:=by
 have hc:c=9:=by omega
 subst hc
 obtain ⟨e1,e2⟩:=Rg k
 rw [e2] at i2
 rw [e1] at hN
 have hmin:min (es.length:Int) 60=(k:Int):=by omega
 have hw:IntKind.u64.wrap (k:Int)=(k:Int):=by rw [bG];omega
 rw [hmin,hw,i2,i3,hN]
 rcases Int.lt_or_le f (k:Int) with g|g
 ·simp [g]
 have e3:r=([],f):=by rw [er,j3];exact N3 (by omega) (by omega) g
 rw [e3];simp
instance:Inhabited bU:=⟨⟨0,0,0⟩⟩
theorem Pk (ht:TT t) (hx0:FC 9 [] [] (.ret (BL true)) []) {l:List bU} {es:List (List D)} (aF:es=l.map bU.cells) (hl:l.length<9223372036854775808) {f:Int} (hf:0≤f∧f<18446744073709551616):
 FC 3 [SL es,az f] [] (.ret (BL true)) []:=by
 refine bC ht (aE:=[]) Tryz.func3 (c:=_) rfl rfl (N:=139) rfl (rs:=_) rfl (n:=0) rfl rfl ?_
 cbv
 have ar:es.length=l.length:=by rw [aF,lgM]
 (refine gj trivial hx0 trivial rfl rfl ?_)
 cbv
 refine ai (fun h0=>?_) (fun h0=>?_)
 ·simp [ht] at h0
 simp [ht] at h0
 cbv
 obtain ⟨J1,fe⟩:∃J1:Nat→Int×Int×List (List D)→Prop,∀n i u v,J1 n (i,u,v)↔(∃k:Nat,i=k∧k+n=60∧k≤l.length∧u=(fK l k).first∧v=(fK l k).l.map bU.cells):=⟨fun n v=>match v with|(i,u,v)=>(∃k:Nat,i=k∧k+n=60∧k≤l.length∧u=(fK l k).first∧v=(fK l k).l.map bU.cells),fun _ _ _ _=>Iff.rfl⟩
 refine aZ ⟨[0,1,5,6,7],[],[(0,1,0)]⟩ (σ:=Int×Int×List (List D)) (fun v=>[(7,.d (.int .i64 (t _ fun _=>v.1)))]) (fun v=>[(0,.var [.d (.int .u64 (t _ fun _=>v.2.1)),.d (.sl (t _ fun _=>v.2.2))])]) J1 ?_
 cbv
 refine aA ⟨60,(_,_,_),(fe _ _ _ _).2 ?_,by simp only [ht];rfl,?_⟩
 ·exact ⟨0,rfl,by omega,by omega,rfl,rfl⟩
 rintro n ⟨i,u,v⟩ hj
 replace hj:=(fe _ _ _ _).1 hj
 obtain ⟨k,rfl,j1,j2,j3,j4⟩:=hj
 cbv
 iterate 2 refine gI (by simp [ht]) ?_
 refine pI (by simp [ht]) ?_
 refine ai (fun h2=>?_) (fun h2=>?_)
 ·simp [ht,aa,ar] at h2
  cbv
  refine bJ [false,false,false,false,false,true,true] (by kernel_rfl) (by kernel_rfl) ?_
  cbv
  iterate 3 refine gI (by simp) ?_
  refine dg ht aF (cT:=bU.aH t) (by (simp only [ht,aa];omega)) (by (simp only [ht,aa];omega)) (fun _=>rfl) (fun _=>rfl) (fun x3 ke=>?_)
  simp [ht,aa] at ke
  cbv
  refine gI (by simp) ?_
  ((refine aS trivial (MQ ht _ _ _ _ (l:=(fK l k).l) (by simp only [ht];exact j4) (by have:=(mw j2 (by omega)).1;omega)) (by simp) rfl rfl rfl (fun r1 cX=>?_);simp only [ht] at cX))
  cbv
  refine bf (_,_,_) (by simp only [ht];rfl) (n-1) ?_ ((fe _ _ _ _).2 ?_)
  ·((try simp only [aa] at*);omega)
  simp only [aa]
  exact ⟨k+1,aC (by omega),by ((try simp only [aa] at*);omega),by omega,by rw [Ey (by assumption) rfl rfl rfl j3 cX],by rw [Ey (by assumption) rfl rfl rfl j3 cX]⟩
 simp [ht,aa,ar] at h2
 cbv
 iterate 9 refine gI (by simp [ht]) ?_
 refine pI (by simp [ht]) ?_
 refine ai (fun h4=>?_) (fun h4=>?_)
 ·simp [ht,aa,ar] at h4
  (exact (Vn j1 j2 h2 j3 j4 h4).elim)
 simp [ht,aa,ar] at h4
 cbv
 obtain ⟨J5,RP⟩:∃J5:Nat→Int×Int×Int→Prop,∀n2 a kk i,J5 n2 (a,kk,i)↔(∃c:Nat,i=c∧c+n2=9∧a=((kg k c:Nat):Int)∧kk=((dx k c:Nat):Int)):=⟨fun n2 v=>match v with|(a,kk,i)=>(∃c:Nat,i=c∧c+n2=9∧a=((kg k c:Nat):Int)∧kk=((dx k c:Nat):Int)),fun _ _ _ _=>Iff.rfl⟩
 refine aZ ⟨[0,1,5,6,8,9,10,11],[],[]⟩ (σ:=Int×Int×Int) (fun v=>[(9,.d (.int .u64 (t _ fun _=>v.1))),(10,.d (.int .i64 (t _ fun _=>v.2.1))),(11,.d (.int .i64 (t _ fun _=>v.2.2)))]) (fun v=>[]) J5 ?_
 cbv
 refine aA ⟨9,(_,_,_),(RP _ _ _ _).2 ?_,by simp only [ht];rfl,?_⟩
 ·exact ⟨0,rfl,by omega,rfl,by have lu:=(mw j2 (by omega)).2;rw [←j3] at lu;simp only [lu,X5,L3];((try simp only [aa] at*);omega)⟩
 rintro n2 ⟨a,kk,i⟩ hj
 replace hj:=(RP _ _ _ _).1 hj
 obtain ⟨c,rfl,i1,i2,i3⟩:=hj
 have hk:=Wd j1 j2 h2
 obtain ⟨M,hM⟩:∃M,M=((l.take k).drop (dx k c)).take 8:=⟨_,rfl⟩
 have lM:M.length=min 8 (k-dx k c):=(by rw [hM];exact Rh j2)
 obtain ⟨A,hA⟩:∃A,A=((kg k (c+1):Nat):Int):=⟨_,rfl⟩
 obtain ⟨N,hN⟩:∃N,N=dx k c:=⟨_,rfl⟩
 have hNk:N≤k:=(by rw [hN];exact SI k c)
 rw [←hN] at i3 lM
 cbv
 refine ai (fun h6=>?_) (fun h6=>?_)
 ·simp [ht,aa] at h6
  cbv
  ((refine aS trivial (Fw ht _ _ (l:=(fK l k).l) (by simp only [ht];exact j4) (by have:=(mw j2 (by omega)).1;omega)) (by simp) rfl rfl rfl (fun r2 cP=>?_);simp only [ht] at cP;replace cP:=cP.trans (show _=(M,A) from (by rw [hM,hA,j3,i2];exact N2 j2 (by omega) c));subst cP))
  cbv
  iterate 7 refine gI (by simp [ht]) ?_
  refine pI (by simp [ht]) ?_
  refine ai (fun h7=>?_) (fun h7=>?_)
  ·simp [ht,aa,ar] at h7
   (exact (Vo hk hNk lM i3 h7).elim)
  simp [ht,aa,ar] at h7
  cbv
  obtain ⟨J8,hJ8⟩:∃J8:Nat→Int×Int→Prop,∀n3 kk z,J8 n3 (kk,z)↔(∃q:Nat,z=q∧q+n3=M.length∧kk=((N+q:Nat):Int)):=⟨fun n3 v=>match v with|(kk,z)=>(∃q:Nat,z=q∧q+n3=M.length∧kk=((N+q:Nat):Int)),fun _ _ _=>Iff.rfl⟩
  refine aZ ⟨[0,1,5,6,8,9,10,11,12,13,14],[],[]⟩ (σ:=Int×Int) (fun v=>[(10,.d (.int .i64 (t _ fun _=>v.1))),(14,.d (.int .i64 (t _ fun _=>v.2)))]) (fun v=>[]) J8 ?_
  cbv
  refine aA ⟨M.length,(_,_),(hJ8 _ _ _).2 ?_,by simp only [ht];rfl,?_⟩
  ·exact ⟨0,rfl,by omega,by simp only [i3];rfl⟩
  rintro n3 ⟨kk,z⟩ hj
  replace hj:=(hJ8 _ _ _).1 hj
  obtain ⟨q,rfl,q1,q2⟩:=hj
  obtain ⟨y,hy⟩:=SJ j2 hM hN q
  cbv
  refine ai (fun h9=>?_) (fun h9=>?_)
  ·simp [ht,aa] at h9
   cbv
   refine bJ [false,false,true,true,false,false,false,false,false,false,false,false,true,true] (by kernel_rfl) (by kernel_rfl) ?_
   cbv
   iterate 2 refine gI (by simp) ?_
   iterate 2 refine gI (by simp [ht]) ?_
   (refine IA ht (l:=M) (cells:=bU.cells) (cT:=bU.aH t) (by (simp only [ht];done)) q y (fun _=>⟨(by simp only [ht]),(hy (by omega)).1⟩) (fun _=>rfl) (fun _=>rfl) (fun g=>by exact ⟨g,g,trivial⟩) ?_)
   cbv
   iterate 3 refine gI (by simp [ht]) ?_
   (refine IA ht (l:=l) (cells:=bU.cells) (cT:=bU.aH t) (by exact aF) (N+q) y (fun _=>⟨(by simp only [ht];exact q2),(hy (by omega)).2.1⟩) (fun _=>rfl) (fun _=>rfl) (fun g=>by exact ⟨g,g,trivial⟩) ?_)
   cbv
   iterate 2 refine gI (by simp [ht]) ?_
   refine pI (by simp [ht]) ?_
   refine ai (fun h10=>?_) (fun h10=>?_)
   ·simp [ht,aa,ar] at h10
    (simp only [aa] at*;omega)
   simp [ht,aa,ar] at h10
   cbv
   refine bf (_,_) (by simp only [ht];rfl) (n3-1) ?_ ((hJ8 _ _ _).2 ?_)
   ·omega
   simp only [aa]
   exact ⟨q+1,aC (by omega),by omega,by rw [q2];exact aC (by omega)⟩
  simp [ht,aa] at h9
  cbv
  refine bf (_,_,_) (by simp only [ht];rfl) (n2-1) ?_ ((RP _ _ _ _).2 ?_)
  ·((try simp only [aa] at*);omega)
  simp only [aa]
  exact ⟨c+1,aC (by omega),by ((try simp only [aa] at*);omega),hA,by rw [q2,K3,←hN];((try simp only [aa] at*);omega)⟩
 simp [ht,aa] at h6
 cbv
 ((refine aS trivial (Fw ht _ _ (l:=(fK l k).l) (by simp only [ht];exact j4) (by have:=(mw j2 (by omega)).1;omega)) (by simp) rfl rfl rfl (fun r3 gH=>?_);simp only [ht] at gH))
 cbv
 iterate 3 refine gI (by simp) ?_
 refine pI (by simp) ?_
 iterate 4 refine gI (by simp [ht]) ?_
 refine pI (by simp [ht]) ?_
 iterate 12 refine gI (by simp [ht]) ?_
 iterate 2 refine gI (by simp [ht,ak];intros;simp_all) ?_
 refine pI (by simp [ht]) ?_
 refine an trivial trivial rfl rfl rfl ?_
 (simp only [ht];exact congrArg (fun b=>fm.ret (BL b)) (Vp (by rw [aF,lgM]) i1 h6 i2 hN i3 hk j3 gH).symm)
end Dem
end
