/- Parts of a proof, joined. -/
import Derived.Test.YtjnbpclolnmimaaGreatDoorJ30
import Derived.Test.YtjnbpclolnmimaaGreatDoorJ31
set_option linter.unusedSimpArgs false
set_option linter.unusedVariables false
set_option maxRecDepth 100000
set_option maxHeartbeats 4000000
section
open Go
namespace Dem
theorem Og {f:Int→Int→Int×Bool} {a b:bz}:(both f a b).2=true↔∀k<4,(f (a.at_ k) (b.at_ k)).2=true:=by
 rw [TW]
 unfold both
 simp only [bz.at_]
 split
 ·rename_i h;simp only [Bool.and_eq_true] at h;simp [h]
 rename_i h;simp only [Bool.and_eq_true] at h
 constructor
 ·intro g;cases g
 rintro ⟨a,b,c,d⟩;exact absurd ⟨⟨⟨a,b⟩,c⟩,d⟩ h
theorem Uv {f:Int→Int→Int×Bool} {a b:bz} (h:(both f a b).2=true):∀k<4,(both f a b).1.at_ k=(f (a.at_ k) (b.at_ k)).1:=by
 rw [TW]
 unfold both at h ⊢
 split at h
 ·rename_i g;rw [if_pos g];simp [bz.at_]
 cases h
theorem Ec {x y:Int}:(BF x y).2=true↔x.toNat*y.toNat<18446744073709551616:=by unfold BF;split<;>simp_all
theorem IJ {x y:Int} (h:(BF x y).2=true):(BF x y).1=((x.toNat*y.toNat:Nat):Int):=by rw [Ec] at h;unfold BF;rw [if_pos h]
theorem IK {v:bz} {n:Int} (h:(rQ v n).2=true):(rQ v n).1.w∧∀k<4,vk k (rQ v n).1=vk k v*n.toNat:=by
 have h1:=Og.1 h
 have h2:=Uv h
 refine ⟨fun k hk=>?_,fun k hk=>?_⟩
 ·have e:=h2 k hk
  have g:=h1 k hk
  unfold rQ;rw [e,IJ g]
  have:=Ec.1 g
  omega
 have e:=h2 k hk
 have g:=h1 k hk
 unfold vk rQ;rw [e,IJ g];omega
theorem IL {x:Ask} (h:cR x=0):(cW x).1.w∧∀k<4,vk k (cW x).1=vk k x.fQ*x.count.toNat:=by
 obtain ⟨_,h2,_,_,_,h6⟩:=fL.1 h
 obtain ⟨a,b⟩:=IK h6
 refine ⟨a,fun k hk=>?_⟩
 unfold cW
 rw [b k hk,show x.count%18446744073709551616=x.count by omega]
def heldBy (k:Nat) (ps:List Place):Nat:=(ps.map fun x=>vk k x.v).sum
def uR (k:Nat) (ps:List Place) (j:Jb):Nat:=if j.runs=true then qw j.id ps*vk k j.x.fQ else 0
theorem Nb (k:Nat) (x:Place):∀(l:List Jb),rV l→∀j∈l,j.runs=true→j.id=x.bu→(l.map fun j=>if j.runs=true∧x.bu=j.id then vk k j.x.fQ else 0).sum=vk k j.x.fQ
 |[],_,_,h,_,_=>by cases h
 |y::l,ha,j,h,hr,hi=>by
  rw [rV,List.pairwise_cons] at ha
  simp only [List.map_cons,List.sum_cons]
  rcases List.mem_cons.1 h with rfl|h
  ·have h0:(l.map fun z=>if z.runs=true∧x.bu=z.id then vk k z.x.fQ else 0).sum=0:=by
    rw [List.map_congr_left (g:=fun _=>0),rU]
    intro z hz;rw [if_neg];rintro ⟨_,g⟩;have:=ha.1 z hz;omega
   rw [h0,if_pos ⟨hr,hi.symm⟩];rfl
  have:=ha.1 j h
  rw [if_neg (by rintro ⟨_,g⟩;omega),Nb k x l ha.2 j h hr hi];omega
theorem Er (k:Nat) {l:List Jb} (ha:rV l):∀(ps:List Place),(∀x∈ps,∃j∈l,j.runs=true∧j.id=x.bu∧x.v=j.x.fQ)→heldBy k ps=(l.map (uR k ps)).sum
 |[],_=>by
  rw [List.map_congr_left (g:=fun _=>0),rU];· rfl
  intro j _;simp [uR,qw]
 |x::ps,h=>by
  obtain ⟨j,hj,hr,hi,hv⟩:=h x (by simp)
  have e:∀j∈l,uR k (x::ps) j=(if j.runs=true∧x.bu=j.id then vk k j.x.fQ else 0)+uR k ps j:=by
   intro j _
   unfold uR
   by_cases g:j.runs=true
   ·simp only [g,if_true,true_and,B8,Nat.add_mul]
    by_cases g2:x.bu=j.id
    ·simp [g2]
    simp [g2]
   simp [g]
  rw [List.map_congr_left e,sum_add,Nb k x l ha j hj hr hi,←Er k ha ps (fun y hy=>h y (by simp [hy])),←hv]
  simp [heldBy]
theorem O5 {s:cH} (h:s.ok) {k:Nat} (hk:k<4):∀j∈s.aI,uR k s.aW.places j=fP k [] j:=by
 intro j hj
 unfold uR fP
 by_cases g:j.runs=true
 ·have hc:=h.count j hj g
  rw [if_pos g,if_pos ⟨g,yd _⟩,(IL (h.CN j hj).1).2 k hk,Nat.mul_comm]
  congr 1;omega
 rw [if_neg g,if_neg (fun e=>g e.1)]
theorem Es {s:cH} (h:s.ok) {k:Nat} (hk:k<4) {e:aR} (he:e∈s.tree) (hp:e.path=[]):heldBy k s.aW.places=vk k e.used:=by
 rw [Er k h.ids s.aW.places h.places,List.map_congr_left (O5 h hk),h.used e he k hk,hp];rfl
def nL (ps:List Place):bz:=⟨heldBy 0 ps,heldBy 1 ps,heldBy 2 ps,heldBy 3 ps⟩
theorem wT (ps:List Place):∀k<4,vk k (nL ps)=heldBy k ps:=by rw [TW];simp [vk,nL,bz.at_]
theorem O6 (k:Nat) (a:List Place) (x:Place):heldBy k (a++[x])=heldBy k a+vk k x.v:=by simp [heldBy]
theorem Et (k:Nat) (ps:List Place) (i:Nat):heldBy k (ps.take i)≤heldBy k ps:=by
 have:heldBy k ps=heldBy k (ps.take i)+heldBy k (ps.drop i):=by unfold heldBy;rw [←List.sum_append,←List.map_append,List.take_append_drop]
 omega
theorem Cw {t:List aR} (h:Tree.ok t):∃e∈t,e.path=[]∧lA t []=(e,true):=by
 obtain ⟨e,r,rfl,he⟩:=h.root
 refine ⟨e,by simp,he,?_⟩
 unfold lA;rw [List.find?_cons];simp [he]
theorem F6 {s:cH} (h:s.ok) {k:Nat} (hk:k<4):heldBy k s.aW.places<18446744073709551616:=by
 obtain ⟨e,he,hp,_⟩:=Cw h.tree
 rw [Es h hk he hp];exact (Od (h.tree.w e he).2 hk).2
theorem LJ {s:cH} (h:s.ok) {i:Nat} {x:Place} (hx:s.aW.places[i]?=some x):gT (nL (s.aW.places.take i)) x.v=(nL (s.aW.places.take (i+1)),true):=by
 have ht:∀k,heldBy k (s.aW.places.take (i+1))=heldBy k (s.aW.places.take i)+vk k x.v:=fun k=>by rw [eU hx,O6]
 have ok:(gT (nL (s.aW.places.take i)) x.v).2=true:=ye.2 fun k hk=>by
  rw [wT _ k hk,←ht k]
  exact Nat.lt_of_le_of_lt (Et k _ _) (F6 h hk)
 refine Prod.ext ?_ ok
 refine FI (FJ ok) ?_ fun k hk=>?_
 ·intro k hk
  have:(nL (s.aW.places.take (i+1))).at_ k=(heldBy k (s.aW.places.take (i+1)):Nat):=by
   revert k;rw [TW];simp [nL,bz.at_]
  rw [this]
  have:=Nat.lt_of_le_of_lt (Et k s.aW.places (i+1)) (F6 h hk)
  omega
 rw [sZ ok hk,wT _ k hk,wT _ k hk,ht k]
theorem O7 {s:cH} (h:s.ok):∃e,lA s.tree []=(e,true)∧e.used=nL s.aW.places:=by
 obtain ⟨e,he,hp,hf⟩:=Cw h.tree
 refine ⟨e,hf,FI (h.tree.w e he).2 ?_ fun k hk=>?_⟩
 ·intro k hk
  have:(nL s.aW.places).at_ k=(heldBy k s.aW.places:Nat):=by
   revert k;rw [TW];simp [nL,bz.at_]
  rw [this]
  have:=F6 h hk;omega
 rw [wT _ k hk,Es h hk he hp]
theorem Vd (bu:Int) (ps:List Place):(C0 bu ps).length=qw bu ps:=by simp [C0,qw]
theorem Sw {s:cH} (h:s.ok) {j:Jb} (hj:j∈s.aI):((C0 j.id s.aW.places).length:Int)=(if j.runs=true then j.x.count else 0)∧(decide (0≤gF s.queue j.id)=!j.runs):=by
 refine ⟨?_,?_⟩
 ·rw [Vd]
  by_cases g:j.runs=true
  ·rw [if_pos g];exact h.count j hj g
  rw [if_neg g]
  have:qw j.id s.aW.places=0:=by
   unfold qw;rw [List.length_eq_zero_iff,List.filter_eq_nil_iff];intro x hx;simpa using h.wH hj (by simpa using g) x hx
  rw [this];rfl
 by_cases g:j.runs=true
 ·rw [g]
  have:¬0≤gF s.queue j.id:=fun e=>by obtain ⟨q,hq,g2⟩:=B6 e;exact h.Ad hj g q hq g2
  simp;omega
 have g':j.runs=false:=by simpa using g
 have hq:=(h.qJ ⟨j.id,j.x.prio⟩).2 ⟨j,hj,g',rfl⟩
 obtain ⟨i,hi⟩:=List.getElem?_of_mem hq
 have:=Eb h.qH hi
 simp only at this
 rw [this,g'];simp
end Dem
end
section
open Go Dem Go.Proofs
namespace Dem
variable {t:Th}
theorem JB (ht:TT t) (hx0:FC 9 [] [] (.ret (BL true)) []) (N:Nat) (hN:N<256) {a:Int} (ea:a=N) {l:List gw} {dl:List (List D)} (Nq:dl=l.map gw.cells) (Vm:∀x∈l,x.u) (hll:l.length<9223372036854775808):
 FC 7 [U8 a,SL dl] [] (.ret (BL true)) []:=by
 refine bC ht (aE:=[]) Tryz.func7 (c:=_) rfl rfl (N:=98) rfl (rs:=_) rfl (n:=0) rfl rfl ?_
 cbv
 have c7:dl.length=l.length:=by rw [Nq,lgM]
 (refine gj trivial hx0 trivial rfl rfl ?_)
 cbv
 refine ai (fun h0=>?_) (fun h0=>?_)
 ·simp [ht] at h0
 simp [ht] at h0
 cbv
 (refine aS trivial (Jz ht N hN ea Nq Vm hll) (by simp) rfl rfl rfl (fun r1 cX=>?_);simp only [ht] at cX;have hok:r1.ok:=(by rw [cX];exact tc N l _);have fR:r1.sm:=(by rw [cX];exact mv N l _);obtain ⟨⟨s1,s2⟩,s3,⟨s4,s5⟩,⟨s6,s7⟩,s8,s9,Z4⟩:=id fR)
 cbv
 obtain ⟨J1,fe⟩:∃J1:Nat→Int×Int×Int×Int×Int→Prop,∀n i a1 b1 c1 d1,J1 n (i,a1,b1,c1,d1)↔(∃k:Nat,i=k∧k+n=r1.aW.places.length∧(⟨a1,b1,c1,d1⟩:bz)=nL (r1.aW.places.take k)):=⟨fun n v=>match v with|(i,a1,b1,c1,d1)=>(∃k:Nat,i=k∧k+n=r1.aW.places.length∧(⟨a1,b1,c1,d1⟩:bz)=nL (r1.aW.places.take k)),fun _ _ _ _ _ _=>Iff.rfl⟩
 refine aZ ⟨[5,6,7,8],[],[]⟩ (σ:=Int×Int×Int×Int×Int) (fun v=>[(8,.d (.int .i64 (t _ fun _=>v.1)))]) (fun v=>[(1,.var [.d (.int .u64 (t _ fun _=>v.2.1)),.d (.int .u64 (t _ fun _=>v.2.2.1)),.d (.int .u64 (t _ fun _=>v.2.2.2.1)),.d (.int .u64 (t _ fun _=>v.2.2.2.2))])]) J1 ?_
 cbv
 refine aA ⟨r1.aW.places.length,(_,_,_,_,_),(fe _ _ _ _ _ _).2 ?_,by simp only [ht];rfl,?_⟩
 ·exact ⟨0,rfl,by simp,rfl⟩
 rintro n ⟨i,a1,b1,c1,d1⟩ hj
 replace hj:=(fe _ _ _ _ _ _).1 hj
 obtain ⟨k,rfl,j1,j4⟩:=hj
 cbv
 refine ai (fun h2=>?_) (fun h2=>?_)
 ·simp [ht,aa] at h2
  cbv
  refine vM [4] [4,9,10,11] [false,false,false,false,false,false,false,false,false,false,false,false,false,true,true] (by kernel_rfl) (by kernel_rfl) (by kernel_rfl) (by kernel_rfl) (by kernel_rfl) (by kernel_rfl) ?_
  cbv
  iterate 5 refine gI (by simp) ?_
  (refine dg ht (l:=r1.aW.places) (cells:=Place.cells) (cT:=Place.aH t) (by simp only [ht]<;>rfl) (by simp only [ht,aa];omega) (by simp only [ht,aa];omega) (fun _=>rfl) (fun _=>rfl) (fun x2 iw=>?_);simp [ht,aa] at iw)
  cbv
  iterate 2 refine gI (by simp) ?_
  refine .inl ?_
  refine aM (fun g3=>⟨trivial,trivial,FW ht _ _ _ _ _ _ _ _⟩) rfl rfl (fun r4 dO=>?_)
  simp only [ht] at dO
  have hv3:r4=(nL (r1.aW.places.take (k+1)),true):=(by rw [dO];exact (congrArg (fun v=>gT v x2.v) j4).trans (LJ hok iw))
  have hv4:(r4).2=true:=by rw [hv3]
  have hv5:(r4).1=nL (r1.aW.places.take (k+1)):=by rw [hv3]
  cbv
  iterate 3 refine gI (by simp) ?_
  refine ai (fun h5=>?_) (fun h5=>?_)
  ·simp [ht] at h5
   cbv
   refine an trivial trivial rfl rfl rfl ?_
   (simp_all;done)
  simp [ht] at h5
  cbv
  refine bf (_,_,_,_,_) (by simp only [ht];rfl) (n-1) ?_ ((fe _ _ _ _ _ _).2 ?_)
  ·omega
  simp only [aa]
  exact ⟨k+1,aC (by omega),by omega,hv5⟩
 simp [ht,aa] at h2
 cbv
 obtain ⟨J6,Jl⟩:∃J6:Nat→Int→Prop,∀n i,J6 n i↔(∃k2:Nat,i=k2∧k2+n=r1.aI.length):=⟨fun n v=>match v with|i=>(∃k2:Nat,i=k2∧k2+n=r1.aI.length),fun _ _=>Iff.rfl⟩
 refine aZ ⟨[5,6,7,11],[],[]⟩ (σ:=Int) (fun v=>[(11,.d (.int .i64 (t _ fun _=>v)))]) (fun v=>[]) J6 ?_
 cbv
 refine aA ⟨r1.aI.length,_,(Jl _ _).2 ?_,by simp only [ht];rfl,?_⟩
 ·exact ⟨0,rfl,by simp⟩
 rintro n i hj
 replace hj:=(Jl _ _).1 hj
 obtain ⟨k2,rfl,i1⟩:=hj
 cbv
 refine ai (fun h7=>?_) (fun h7=>?_)
 ·simp [ht,aa] at h7
  cbv
  (refine dg ht (l:=r1.aI) (cells:=Jb.cells) (cT:=Jb.aH t) (by simp only [ht]<;>rfl) (by simp only [ht,aa];omega) (by simp only [ht,aa];omega) (fun _=>rfl) (fun _=>by simp only [Jb.cells,Jb.aH,ht]) (fun x6 Z3=>?_);simp [ht,aa] at Z3;obtain ⟨hS1,hS2⟩:=Sw hok (List.mem_of_getElem? Z3))
  cbv
  refine ai (fun h8=>?_) (fun h8=>?_)
  ·cbv
   refine bJ [false,false,false,false,false,false,false,true,true,false,false,false,false,false,false,false,false,true,true] (by kernel_rfl) (by kernel_rfl) ?_
   cbv
   iterate 4 refine gI (by simp) ?_
   refine .inl ?_
   (obtain ⟨pr,Sv⟩:∃pr,pr=(C0 x6.id r1.aW.places).map aT:=⟨_,rfl⟩;have nQ:pr.length=(C0 x6.id r1.aW.places).length:=(by rw [Sv,lgM]);refine mT (fun g=>⟨by simp,by simp,W8 ht _ (ps:=r1.aW.places) (by simp only [ht]<;>rfl) s3 Sv⟩) rfl rfl rfl ?_)
   cbv
   iterate 2 refine gI (by simp) ?_
   iterate 4 refine gI (by simp [ht]) ?_
   (refine aM (fun g=>⟨by simpa [ht,nQ] using g,by simp,oQ ht _ (l:=r1.queue) (by simp only [ht]<;>rfl) (by omega)⟩) rfl rfl (fun r7 gL=>?_);simp only [ht] at gL)
   cbv
   iterate 4 refine gI (by simp [ht]) ?_
   refine pI (by simp [ht]) ?_
   refine ai (fun h9=>?_) (fun h9=>?_)
   ·simp [ht,aa] at h9
    cbv
    refine an trivial trivial rfl rfl rfl ?_
    (simp [*];grind)
   simp [ht,aa] at h9
   cbv
   refine bf _ (by simp only [ht];rfl) (n-1) ?_ ((Jl _ _).2 ?_)
   ·omega
   simp only [aa]
   exact ⟨k2+1,aC (by omega),by omega⟩
  cbv
  refine bJ [false,false,false,false,false,false,false,true,true,false,false,false,false,false,false,false,false,true,true] (by kernel_rfl) (by kernel_rfl) ?_
  cbv
  iterate 4 refine gI (by simp) ?_
  refine .inl ?_
  (obtain ⟨pr,Sv⟩:∃pr,pr=(C0 x6.id r1.aW.places).map aT:=⟨_,rfl⟩;have nQ:pr.length=(C0 x6.id r1.aW.places).length:=(by rw [Sv,lgM]);refine mT (fun g=>⟨by simp,by simp,W8 ht _ (ps:=r1.aW.places) (by simp only [ht]<;>rfl) s3 Sv⟩) rfl rfl rfl ?_)
  cbv
  iterate 2 refine gI (by simp) ?_
  iterate 4 refine gI (by simp [ht]) ?_
  (refine aM (fun g=>⟨by simpa [ht,nQ] using g,by simp,oQ ht _ (l:=r1.queue) (by simp only [ht]<;>rfl) (by omega)⟩) rfl rfl (fun r7 gL=>?_);simp only [ht] at gL)
  cbv
  iterate 4 refine gI (by simp [ht]) ?_
  refine pI (by simp [ht]) ?_
  refine ai (fun h10=>?_) (fun h10=>?_)
  ·simp [ht,aa] at h10
   cbv
   refine an trivial trivial rfl rfl rfl ?_
   (simp_all;done)
  simp [ht,aa] at h10
  cbv
  refine bf _ (by simp only [ht];rfl) (n-1) ?_ ((Jl _ _).2 ?_)
  ·omega
  simp only [aa]
  exact ⟨k2+1,aC (by omega),by omega⟩
 simp [ht,aa] at h7
 cbv
 (obtain ⟨e9,he9,hu9⟩:=O7 hok;refine ay trivial (BQ ht [] (l:=r1.tree) (by simp only [ht]<;>rfl) (by omega)) (by simp) rfl rfl (fun r8 qy=>?_);simp only [ht] at qy;replace qy:=qy.trans he9)
 cbv
 refine gI (by simp) ?_
 refine pI (by simp) ?_
 iterate 4 refine gI (by simp [ht]) ?_
 refine pI (by simp [ht]) ?_
 refine an trivial trivial rfl rfl rfl ?_
 (have hv:e9.used=⟨a1,b1,c1,d1⟩:=(by rw [hu9,j4,List.take_of_length_le (by omega)]);simp only [ht];rw [qy];simp [hv];done)
end Dem
end
