/- Parts of a proof, joined. -/
import Derived.Test.YtihohjnkkalgiaaGreatDoorS26
set_option linter.all false
set_option maxRecDepth 100000
set_option maxHeartbeats 4000000
section
open Go
namespace Dem
theorem rj {c:aT} (hc:c.ok):∀(n:Nat) {s:aT} {a:Nat},s.ok→gU s a→Yields c s→Yields c (cw n s a)
 |0,_,_,_,_,g=>g
 |n+1,s,a,h,hn,g=>by
  unfold cw
  cases e:(bC s a).2.2 with
  |true=>rw [if_pos rfl];exact rj hc n (mK h a) (iT h hn e) (g.step hc h hn e)
  |false=>rw [if_neg (by decide),(ri h e).1];exact g
theorem Cl {s:aT} (h:s.ok):Yields s (qZ s):=rj h 128 h (fun k hk=>by omega) (Yields.refl h)
end Dem
end
section
open Go Dem Go.Proofs
namespace Dem
variable {t:Th}
def sQ (C T:aT) (k:Nat) (best:Int):Prop:=∀(q:Nat) (y:Jb),q<k→T.ap[q]?=some y→y.runs=true→(bB C.ap y.id).1.runs=false→y.x.prio≤best
theorem sQ.up {C T:aT} {k:Nat} {best:Int} {x:Jb} (h:sQ C T k best) (hx:T.ap[k]?=some x):sQ C T (k+1) (max best x.x.prio):=fun q y hq hy hr ho=>by
 rcases Nat.lt_or_ge q k with d|d
 ·exact Int.le_trans (h q y d hy hr ho) (Int.le_max_left _ _)
 have e:q=k:=by omega
 subst e
 rw [hx] at hy
 have e2:=Option.some.inj hy
 subst e2
 exact Int.le_max_right _ _
theorem sQ.stay {C T:aT} {k:Nat} {best:Int} {x:Jb} (h:sQ C T k best) (hx:T.ap[k]?=some x) (hn:¬(x.runs=true∧(bB C.ap x.id).1.runs=false)):sQ C T (k+1) best:=fun q y hq hy hr ho=>by
 rcases Nat.lt_or_ge q k with d|d
 ·exact h q y d hy hr ho
 have e:q=k:=by omega
 subst e
 rw [hx] at hy
 have e2:=Option.some.inj hy
 subst e2
 exact absurd ⟨hr,ho⟩ hn
theorem KT {C:aT} (fC:C.fair):∃T,T=qZ C∧T.fair∧T.ap.length=C.ap.length∧
 (∀best,sQ C T T.ap.length best→∀(k:Nat) (x:Jb),T.ap[k]?=some x→(bB C.ap x.id).1.runs=true→x.runs=false→x.x.prio<best)∧
 (∀w,w=aM T 0→∀f,f=bB T.ap w.1→w.2.2=true→∀(k:Nat) (x:Jb),T.ap[k]?=some x→x.runs=true→(bB C.ap x.id).1.runs=false→¬(x.x.prio<f.1.x.prio∨(x.x.prio=f.1.x.prio∧f.1.id<x.id))):=by
 obtain ⟨T,hT⟩:∃T,T=qZ C:=⟨_,rfl⟩
 have fT:T.fair:=by rw [hT];exact o8 128 fC (fun k hk=>by omega)
 have Y:Yields C T:=by rw [hT];exact Cl fC.ok
 have old:∀x∈T.ap,∃p∈C.ap,p.id=x.id∧bB C.ap x.id=(p,true):=by
  intro x hx
  obtain ⟨p,hp,e,_⟩:=Y.same x hx
  obtain ⟨i,hi⟩:=List.getElem?_of_mem hp
  have:=(dg fC.ok.ids hi).2.2
  rw [e] at this
  exact ⟨p,hp,e,this⟩
 refine ⟨T,hT,fT,Y.len,fun best hb k x hx ho hr=>?_,fun w hw f hf Wv k x hx hr ho=>?_⟩
 ·have hm:=List.mem_of_getElem? hx
  obtain ⟨p,hp,e,g⟩:=old x hm
  rw [g] at ho
  obtain ⟨b,⟨pX,sE,o,ho1,Wp,ho3⟩,hlt⟩:=Y.out x hm hr ⟨p,hp,e,ho⟩
  obtain ⟨q,hq⟩:=List.getElem?_of_mem pX
  obtain ⟨p2,Mk,e2,g2⟩:=old b pX
  have:o=p2:=bN fC.ok.ids ho1 Mk (Wp.trans e2.symm)
  subst this
  have:=hb q b (List.getElem?_eq_some_iff.1 hq).1 hq sE (by rw [g2];exact ho3)
  omega
 have hm:=List.mem_of_getElem? hx
 rw [hw] at Wv
 obtain ⟨j,hj,e1,hjr,hjc,_⟩:=kU fT.ok Wv
 obtain ⟨i,hi⟩:=List.getElem?_of_mem hj
 have h2:=(dg fT.ok.ids hi).2.2
 rw [e1,←hw,←hf] at h2
 obtain ⟨p,hp,e,g⟩:=old x hm
 rw [g] at ho
 have:=Y.first x ⟨hm,hr,p,hp,e,ho⟩ j hj hjr hjc
 rw [h2]
 rw [dF] at this
 simp only [iL] at this ⊢
 omega
theorem Cm (ht:TT t) (hx0:FC 25 [] [] (.ret (BL true)) []) (N:Nat) (hN:N<256) {a:Int} (ea:a=N) {l:List iX} {dl:List (List D)} (Ru:dl=l.map iX.cells) (Yr:∀x∈l,x.u) (Y8:l.length<9223372036854775808):
 FC 8 [U8 a,SL dl] [] (.ret (BL true)) []:=by
 obtain ⟨S,hS⟩:∃S,S=gS N l (min l.length 40):=⟨_,rfl⟩
 have fS:S.fair:=by rw [hS];exact (qQ _ _ _).fair
 have hL:FC 26 [U8 a,SL dl] [] (.ret (dM t (t _ fun _=>S))) []:=by rw [hS];exact Dy ht N hN ea Ru Yr Y8
 obtain ⟨C,hC⟩:∃C,C=cA S:=⟨_,rfl⟩
 have fC:C.fair:=by rw [hC];exact fS.count
 have cc:FC 29 [dM t S] [] (.ret (dM t (t _ fun _=>C))) []:=by rw [hC];exact Il ht S fS
 obtain ⟨T,hT,fT,z3,z1,z2⟩:=KT fC
 have cp:FC 30 [dM t C] [] (.ret (dM t (t _ fun _=>T))) []:=by rw [hT];exact Ik ht fC
 obtain ⟨w,hw⟩:∃w,w=aM T 0:=⟨_,rfl⟩
 obtain ⟨f,hf⟩:∃f,f=bB T.ap w.1:=⟨_,rfl⟩
 have z4:=z2 w hw f hf
 have cn:FC 28 [dM t T,bG 0] [] (.ret (Cj t (t _ fun _=>w))) []:=by rw [hw];exact zn ht T fT 0 (by decide) rfl
 have cf:FC 17 [dM t T,aC w.1] [] (.ret (Ce t (t _ fun _=>f))) []:=by rw [hf];exact eV ht T fT w.1
 have sm:=fT.sm.ap.1
 clear hS hC hT z2 hw hf
 refine bP ht (aQ:=[]) Tryz.func8 rfl rfl (N:=158) rfl rfl (n:=0) rfl rfl ?_
 cbv
 have dy:dl.length=l.length:=by rw [Ru,lgM]
 (refine gB trv hx0 trv rfl rfl ?_)
 cbv
 refine av (fun h0=>?_) (fun h0=>?_)
 ·simp [ht,ah,dy] at h0
 simp [ht,ah,dy] at h0
 cbv
 (refine aF trv hL (by simp [ht]) rfl rfl rfl (fun r1 cF=>?_);simp only [ht] at cF;subst r1)
 cbv
 (refine aF trv cc (by simp [ht]) rfl rfl rfl (fun r1 cF=>?_);simp only [ht] at cF;subst r1)
 cbv
 (refine aF trv cp (by simp [ht]) rfl rfl rfl (fun r1 cF=>?_);simp only [ht] at cF;subst r1)
 cbv
 obtain ⟨J1,pE⟩:∃J1:Nat→Int×Int→Prop,∀n mb i,J1 n (mb,i)↔(∃k:Nat,i=k∧k+n=T.ap.length∧sQ C T k mb):=⟨fun n v=>match v with|(mb,i)=>(∃k:Nat,i=k∧k+n=T.ap.length∧sQ C T k mb),fun _ _ _=>Iff.rfl⟩
 refine bH ⟨[5,6,7,8,9],[],[]⟩ (σ:=Int×Int) (fun v=>[(8,.d (.int .i64 (t _ fun _=>v.1))),(9,.d (.int .i64 (t _ fun _=>v.2)))]) (fun v=>[]) J1 ?_
 cbv
 refine aH ⟨T.ap.length,(_,_),(pE _ _ _).2 ?_,by simp only [ht];rfl,?_⟩
 ·exact ⟨0,rfl,by simp,fun q y hq=>by omega⟩
 rintro n ⟨mb,i⟩ hj
 replace hj:=(pE _ _ _).1 hj
 obtain ⟨k,rfl,j1,j4⟩:=hj
 cbv
 refine av (fun h2=>?_) (fun h2=>?_)
 ·simp [ht,ah,dy] at h2
  cbv
  refine uV [3] [3,8,9,10] [false,false,false,false,false,false,false,false,false,false,false,false,true,true] (by kernel_rfl) (by kernel_rfl) (by kernel_rfl) (by kernel_rfl) (by kernel_rfl) (by kernel_rfl) ?_
  cbv
  iterate 4 refine gI (by simp [ht,aj]) ?_
  (first|(refine so ht (l:=T.ap) (cells:=Jb.cells) (cT:=Jb.aZ t) (by simp only [ht]) mx (by simp only [ht]) (fun _=>rfl) (fun _=>by simp only [Jb.cells,Jb.aZ,ht]) ?_)|(refine kp ht (l:=T.ap) (cells:=Jb.cells) (cT:=Jb.aZ t) (by simp only [ht]) (by simp only [ht,ah];((try simp only [ah] at*);omega)) (by simp only [ht,ah];((try simp only [ah] at*);omega)) (fun _=>rfl) (fun _=>by simp only [Jb.cells,Jb.aZ,ht]) (fun x mx=>?_);simp [ht,ah] at mx))
  cbv
  iterate 2 refine gI (by simp [ht,aj]) ?_
  refine .inl ?_
  (first|(refine aF trv cf (by simp [ht]) rfl rfl rfl (fun r1 cF=>?_);simp only [ht] at cF;subst r1)|(refine aF trv (eV ht C fC _) (by simp [ht]) rfl rfl rfl (fun o eo=>?_);simp only [ht] at eo)|(refine gX (fun g9=>⟨(by first|trivial|exact ⟨g9,trv⟩|simp [ht]),(by first|trivial|simp [ht]),eV ht C fC _⟩) rfl rfl rfl (fun o eo=>?_);simp only [ht] at eo))
  cbv
  iterate 3 refine gI (by simp [ht,aj]) ?_
  (first|(refine so ht (l:=T.ap) (cells:=Jb.cells) (cT:=Jb.aZ t) (by simp only [ht]) mx (by simp only [ht]) (fun _=>rfl) (fun _=>by simp only [Jb.cells,Jb.aZ,ht]) ?_)|(refine kp ht (l:=T.ap) (cells:=Jb.cells) (cT:=Jb.aZ t) (by simp only [ht]) (by simp only [ht,ah];((try simp only [ah] at*);omega)) (by simp only [ht,ah];((try simp only [ah] at*);omega)) (fun _=>rfl) (fun _=>by simp only [Jb.cells,Jb.aZ,ht]) (fun x mx=>?_);simp [ht,ah] at mx))
  cbv
  iterate 3 refine gI (by simp [ht,aj]) ?_
  refine pI (by simp [ht,aj]) ?_
  refine av (fun h3=>?_) (fun h3=>?_)
  ·simp [ht,ah,dy] at h3
   cbv
   (first|(refine so ht (l:=T.ap) (cells:=Jb.cells) (cT:=Jb.aZ t) (by simp only [ht]) mx (by simp only [ht]) (fun _=>rfl) (fun _=>by simp only [Jb.cells,Jb.aZ,ht]) ?_)|(refine kp ht (l:=T.ap) (cells:=Jb.cells) (cT:=Jb.aZ t) (by simp only [ht]) (by simp only [ht,ah];((try simp only [ah] at*);omega)) (by simp only [ht,ah];((try simp only [ah] at*);omega)) (fun _=>rfl) (fun _=>by simp only [Jb.cells,Jb.aZ,ht]) (fun x mx=>?_);simp [ht,ah] at mx))
   cbv
   refine cz (_,_) (by simp only [ht];rfl) (n-1) ?_ ((pE _ _ _).2 ?_)
   ·omega
   simp only [ht,ah]
   first|exact ⟨k+1,aG (by ((try simp only [ah] at*);omega)),by ((try simp only [ah] at*);omega),j4.up mx⟩|exact ⟨k+1,aG (by ((try simp only [ah] at*);omega)),by ((try simp only [ah] at*);omega),j4.stay mx (by rw [←eo];simp_all)⟩
  simp [ht,ah,dy] at h3
  cbv
  refine cz (_,_) (by simp only [ht];rfl) (n-1) ?_ ((pE _ _ _).2 ?_)
  ·omega
  simp only [ht,ah]
  first|exact ⟨k+1,aG (by ((try simp only [ah] at*);omega)),by ((try simp only [ah] at*);omega),j4.up mx⟩|exact ⟨k+1,aG (by ((try simp only [ah] at*);omega)),by ((try simp only [ah] at*);omega),j4.stay mx (by rw [←eo];simp_all)⟩
 simp [ht,ah,dy] at h2
 cbv
 (refine aF trv cn (by simp [ht]) rfl rfl rfl (fun r1 cF=>?_);simp only [ht] at cF;subst r1)
 cbv
 (first|(refine aF trv cf (by simp [ht]) rfl rfl rfl (fun r1 cF=>?_);simp only [ht] at cF;subst r1)|(refine aF trv (eV ht C fC _) (by simp [ht]) rfl rfl rfl (fun o eo=>?_);simp only [ht] at eo)|(refine gX (fun g9=>⟨(by first|trivial|exact ⟨g9,trv⟩|simp [ht]),(by first|trivial|simp [ht]),eV ht C fC _⟩) rfl rfl rfl (fun o eo=>?_);simp only [ht] at eo))
 cbv
 obtain ⟨J4,Iw⟩:∃J4:Nat→Int→Prop,∀n i,J4 n i↔(∃k:Nat,i=k∧k+n=T.ap.length):=⟨fun n v=>match v with|i=>(∃k:Nat,i=k∧k+n=T.ap.length),fun _ _=>Iff.rfl⟩
 refine bH ⟨[5,6,7,8,14,15,17],[],[]⟩ (σ:=Int) (fun v=>[(17,.d (.int .i64 (t _ fun _=>v)))]) (fun v=>[]) J4 ?_
 cbv
 refine aH ⟨T.ap.length,_,(Iw _ _).2 ?_,by simp only [ht];rfl,?_⟩
 ·exact ⟨0,rfl,by simp⟩
 rintro n i hj
 replace hj:=(Iw _ _).1 hj
 obtain ⟨k,rfl,i1⟩:=hj
 cbv
 refine av (fun h5=>?_) (fun h5=>?_)
 ·simp [ht,ah,dy] at h5
  cbv
  (first|(refine so ht (l:=T.ap) (cells:=Jb.cells) (cT:=Jb.aZ t) (by simp only [ht]) mx (by simp only [ht]) (fun _=>rfl) (fun _=>by simp only [Jb.cells,Jb.aZ,ht]) ?_)|(refine kp ht (l:=T.ap) (cells:=Jb.cells) (cT:=Jb.aZ t) (by simp only [ht]) (by simp only [ht,ah];((try simp only [ah] at*);omega)) (by simp only [ht,ah];((try simp only [ah] at*);omega)) (fun _=>rfl) (fun _=>by simp only [Jb.cells,Jb.aZ,ht]) (fun x mx=>?_);simp [ht,ah] at mx))
  cbv
  (first|(refine aF trv cf (by simp [ht]) rfl rfl rfl (fun r1 cF=>?_);simp only [ht] at cF;subst r1)|(refine aF trv (eV ht C fC _) (by simp [ht]) rfl rfl rfl (fun o eo=>?_);simp only [ht] at eo)|(refine gX (fun g9=>⟨(by first|trivial|exact ⟨g9,trv⟩|simp [ht]),(by first|trivial|simp [ht]),eV ht C fC _⟩) rfl rfl rfl (fun o eo=>?_);simp only [ht] at eo))
  cbv
  iterate 3 refine gI (by simp [ht,aj]) ?_
  refine pI (by simp [ht,aj]) ?_
  iterate 5 refine gI (by simp [ht,aj]) ?_
  refine pI (by simp [ht,aj]) ?_
  refine av (fun h6=>?_) (fun h6=>?_)
  ·simp [ht,ah,dy] at h6
   cbv
   refine az trv trv rfl rfl rfl ?_
   (exfalso;have j5:sQ C T T.ap.length mb:=fun q y hq=>j4 q y (by omega);have j6:=z1 _ j5 k x mx (by rw [←eo];exact h6.1.1) h6.1.2;omega)
  simp [ht,ah,dy] at h6
  cbv
  iterate 2 refine gI (by simp [ht,aj]) ?_
  refine pI (by simp [ht,aj]) ?_
  iterate 3 refine gI (by simp [ht,aj]) ?_
  refine pI (by simp [ht,aj]) ?_
  iterate 21 refine gI (by simp [ht,aj]) ?_
  iterate 2 refine gI (by simp [ht,aj];intros;simp_all) ?_
  refine pI (by simp [ht,aj]) ?_
  refine av (fun h7=>?_) (fun h7=>?_)
  ·simp [ht,ah,dy] at h7
   cbv
   refine az trv trv rfl rfl rfl ?_
   (simp [ht,dM,dh,Ce,Wx,Cj, *];grind)
  simp [ht,ah,dy] at h7
  cbv
  refine cz _ (by simp only [ht];rfl) (n-1) ?_ ((Iw _ _).2 ?_)
  ·omega
  simp only [ht,ah]
  exact ⟨k+1,aG (by ((try simp only [ah] at*);omega)),by ((try simp only [ah] at*);omega)⟩
 simp [ht,ah,dy] at h5
 cbv
 iterate 7 refine gI (by simp [ht,aj]) ?_
 refine pI (by simp [ht,aj]) ?_
 refine az trv trv rfl rfl rfl ?_
 (simp [ht,dM,dh,Ce,Wx,Cj, *];done)
end Dem
end
