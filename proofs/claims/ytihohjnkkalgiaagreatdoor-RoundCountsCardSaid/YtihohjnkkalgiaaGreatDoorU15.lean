/- Parts of a proof, joined. -/
import Derived.Test.YtihohjnkkalgiaaGreatDoorU10
set_option linter.all false
set_option maxRecDepth 100000
set_option maxHeartbeats 4000000
section
open Go
namespace Dem
theorem Ln {s:aW} (h:s.ok) {j:Jb} (hj:j∈s.av) (hr:j.runs=true) (hl:j.left=1):(bC (dL s).av j.id).2=false:=by
 obtain ⟨_,_,_,h4⟩:=iT h
 rw [h4]
 unfold bC
 cases e:(s.av.filterMap zD).find? (fun o=>decide (o.id=j.id)) with
 |none=>rfl
 |some o=>
  have h1:=List.mem_of_find?_eq_some e
  have h2:=List.find?_some e
  rw [decide_eq_true_eq] at h2
  obtain ⟨y,hy,ZY⟩:=List.mem_filterMap.1 h1
  have:=dh h.ids hy hj (by rw [←(zV ZY).1];exact h2)
  rw [this] at ZY
  unfold zD at ZY
  rw [if_pos hr,if_pos hl] at ZY;cases ZY
theorem IQ {s:aW} (h:s.ok) {j:Jb} (hj:j∈s.av) (hn:¬(j.runs=true∧j.left=1)):
 ∃o,bC (dL s).av j.id=(o,true)∧o.runs=j.runs∧(j.runs=true→o.left=j.left-1):=by
 obtain ⟨h1,_,_,h4⟩:=iT h
 cases e:zD j with
 |none=>
  unfold zD at e
  split at e
  ·rename_i hr
   split at e
   ·rename_i hl;exact absurd ⟨hr,hl⟩ hn
   cases e
  cases e
 |some o=>
  obtain ⟨g1,_,g3,g4,_⟩:=zV e
  have hm:o∈(dL s).av:=by rw [h4];exact List.mem_filterMap.2 ⟨j,hj,e⟩
  obtain ⟨i,hi⟩:=List.getElem?_of_mem hm
  have:=(gx h1.ids hi).2.2
  rw [g1] at this
  exact ⟨o,this,g3,g4⟩
theorem OX {s:aW} (h:s.ok):(dL s).av.length+(s.av.filter fun j=>j.runs&&decide (j.left=1)).length=s.av.length:=by
 obtain ⟨_,_,_,h4⟩:=iT h
 rw [h4]
 have:∀l:List Jb,(l.filterMap zD).length+(l.filter fun j=>j.runs&&decide (j.left=1)).length=l.length:=by
  intro l
  induction l with
  |nil=>rfl
  |cons x r ih=>
   rw [List.filterMap_cons,List.filter_cons,List.length_cons]
   unfold zD at ih ⊢
   by_cases c:x.runs=true
   ·by_cases d:x.left=1
    ·simp [c,d];omega
    simp [c,d];omega
   simp [c];omega
 exact this s.av
end Dem
end
section
open Go Dem Go.Proofs
namespace Dem
variable {t:Th}
theorem IX {l:List Jb} {q:Nat} {x:Jb} (hx:l[q]?=some x) (h:x.runs=true∧x.left=1):((l.take (q+1)).filter fun j=>j.runs&&decide (j.left=1)).length=((l.take q).filter fun j=>j.runs&&decide (j.left=1)).length+1:=by rw [cV hx,List.filter_append];simp [h]
theorem MJ {l:List Jb} {q:Nat} {x:Jb} (hx:l[q]?=some x) (h:¬(x.runs=true∧x.left=1)):((l.take (q+1)).filter fun j=>j.runs&&decide (j.left=1)).length=((l.take q).filter fun j=>j.runs&&decide (j.left=1)).length:=by
 rw [cV hx,List.filter_append]
 rcases Bool.eq_false_or_eq_true x.runs with r|r
 ·simp [r,show ¬x.left=1 from fun e=>h ⟨r,e⟩]
 simp [r]
theorem CS (ht:TT t) (hx0:FC 25 [] [] (.ret (BL true)) []) (N:Nat) (hN:N<256) {a:Int} (ea:a=N) {l:List iX} {dl:List (List D)} (Sq:dl=l.map iX.cells) (ZQ:∀x∈l,x.u) (hll:l.length<9223372036854775808):
 FC 13 [U8 a,SL dl] [] (.ret (BL true)) []:=by
 obtain ⟨S,hS⟩:∃S,S=gW N l (min l.length 40):=⟨_,rfl⟩
 have fS:S.fair:=by rw [hS];exact (rL _ _ _).fair
 have hL:FC 26 [U8 a,SL dl] [] (.ret (ff t (t _ fun _=>S))) []:=by rw [hS];exact D2 ht N hN ea Sq ZQ hll
 obtain ⟨C,hC⟩:∃C,C=dL S:=⟨_,rfl⟩
 have fC:C.fair:=by rw [hC];exact fS.count
 have cc:FC 29 [ff t S] [] (.ret (ff t (t _ fun _=>C))) []:=by rw [hC];exact IU ht S fS
 have z1:∀(k:Nat) (x:Jb),S.av[k]?=some x→x.runs=true→x.left=1→(bC C.av x.id).2=false:=fun k x hx hr hl=>by rw [hC];exact Ln fS.ok (List.mem_of_getElem? hx) hr hl
 have z2:∀(k:Nat) (x:Jb),S.av[k]?=some x→¬(x.runs=true∧x.left=1)→∃o,bC C.av x.id=(o,true)∧o.runs=x.runs∧(x.runs=true→o.left=x.left-1):=fun k x hx hn=>by rw [hC];exact IQ fS.ok (List.mem_of_getElem? hx) hn
 have z3:(C.av.length:Int)=S.av.length-((S.av.filter fun j=>j.runs&&decide (j.left=1)).length:Nat):=by have:=OX fS.ok;rw [←hC] at this;omega
 have z4:C.queue.length=S.queue.length:=by rw [hC,(iT fS.ok).2.1]
 have z5:C.round=u64 (S.round+1):=by rw [hC,(iT fS.ok).2.2.1]
 have zl:∀(k:Nat) (x:Jb),S.av[k]?=some x→0≤x.left∧x.left<1000:=fun k x hx=>by
  have hm:=List.mem_of_getElem? hx
  have h1:=fS.ok.left x hm
  have h2:=(dZ.1 (fS.ok.sN x hm).1)
  rcases Bool.eq_false_or_eq_true x.runs with r|r
  ·have:=h1.1 r;omega
  have:=h1.2 r;omega
 have sm:=fS.sm.av.1
 clear hS hC
 refine cr ht Tryz.func13 (N:=106) ?_
 cbv
 have Fy:dl.length=l.length:=by rw [Sq,lgM]
 (refine gF trv hx0 trv rfl rfl ?_)
 cbv
 apply ap<;>intro h0
 ·simp [ht] at h0
 simp [ht] at h0
 cbv
 (refine aD hL (by simp) (fun r1 cM=>?_);simp only [ht] at cM;subst r1)
 cbv
 (refine aD cc (by simp) (fun r1 cM=>?_);simp only [ht] at cM;subst r1)
 cbv
 obtain ⟨J1,mR⟩:∃J1:Nat→Int×Int→Prop,∀n mn i,J1 n (mn,i)↔(∃k:Nat,i=k∧k+n=S.av.length∧mn=((S.av.take k).filter fun j=>j.runs&&decide (j.left=1)).length):=⟨fun n v=>match v with|(mn,i)=>(∃k:Nat,i=k∧k+n=S.av.length∧mn=((S.av.take k).filter fun j=>j.runs&&decide (j.left=1)).length),fun _ _ _=>Iff.rfl⟩
 refine bA ⟨[5,6,7,8,9],[],[]⟩ (σ:=Int×Int) (fun v=>[(8,.d (.int .i64 (t _ fun _=>v.1))),(9,.d (.int .i64 (t _ fun _=>v.2)))]) (fun v=>[]) J1 ?_
 cbv
 refine aE ⟨S.av.length,(_,_),(mR _ _ _).2 ?_,by simp only [ht];rfl,?_⟩
 ·exact ⟨0,rfl,by simp,by simp⟩
 rintro n ⟨mn,i⟩ hj
 replace hj:=(mR _ _ _).1 hj
 obtain ⟨k,rfl,j1,j4⟩:=hj
 cbv
 apply ap<;>intro h2
 ·simp [ht,ah] at h2
  cbv
  (refine ig ht (l:=S.av) (cells:=Jb.cells) (cT:=Jb.aS t) (by simp only [ht]) (by simp only [ht,ah];omega) (by simp only [ht,ah];omega) (fun _=>rfl) (fun _=>by simp only [Jb.cells,Jb.aS,ht]) (fun x mx=>?_);simp [ht,ah] at mx)
  cbv
  (refine aD (oE ht C fC _) (by simp) (fun o eo=>?_);simp only [ht] at eo;have y1:=z1 k x mx;have y2:=z2 k x mx;have y3:=zl k x mx;rw [←eo] at y1 y2)
  cbv
  iterate 3 refine gI (by simp) ?_
  refine pI (by simp) ?_
  apply ap<;>intro h3
  ·simp [ht] at h3
   cbv
   apply ap<;>intro h4
   ·cbv
    refine an ?_
    (simp_all [ff];done)
   cbv
   refine bG (_,_) (by simp only [ht];rfl) (n-1) ?_ ((mR _ _ _).2 ?_)
   ·omega
   simp only [ah]
   first|exact ⟨k+1,aB (by omega),by omega,by have hb:=List.length_filter_le (fun j:Jb=>j.runs&&decide (j.left=1)) (S.av.take k);rw [List.length_take] at hb;rw [IX mx (by simp_all),j4];exact aB (by omega)⟩|exact ⟨k+1,aB (by ((try simp only [ah] at*);omega)),by ((try simp only [ah] at*);omega),by rw [MJ mx (by simp_all),j4]⟩
  simp [ht] at h3
  cbv
  iterate 5 refine gI (by simp [ht]) ?_
  refine pI (by simp [ht]) ?_
  iterate 9 refine gI (by simp [ht]) ?_
  refine gI (by simp [ht,bU];intros;simp_all) ?_
  refine pI (by simp [ht]) ?_
  apply ap<;>intro h5
  ·simp [ht] at h5
   cbv
   refine an ?_
   (exfalso;obtain ⟨o1,p1,p2,p3⟩:=y2 (fun e=>h3 e.1 e.2);rw [p1] at h5;simp only at h5;rw [wrap64 (by omega) (by omega)] at h5;rcases h5 with (h5|h5)|⟨h5,h6⟩;exact absurd h5 (by decide);exact h5 p2;exact h6 (p3 h5))
  simp [ht] at h5
  cbv
  refine bG (_,_) (by simp only [ht];rfl) (n-1) ?_ ((mR _ _ _).2 ?_)
  ·omega
  simp only [ah]
  first|exact ⟨k+1,aB (by omega),by omega,by have hb:=List.length_filter_le (fun j:Jb=>j.runs&&decide (j.left=1)) (S.av.take k);rw [List.length_take] at hb;rw [IX mx (by simp_all),j4];exact aB (by ((try simp only [ah] at*);omega))⟩|exact ⟨k+1,aB (by omega),by omega,by rw [MJ mx (by simp_all),j4]⟩
 simp [ht,ah] at h2
 cbv
 iterate 9 refine gI (by simp) ?_
 refine pI (by simp) ?_
 iterate 7 refine gI (by simp [ht]) ?_
 refine pI (by simp [ht]) ?_
 iterate 6 refine gI (by simp [ht]) ?_
 refine pI (by simp [ht]) ?_
 refine gI (by simp [ht]) ?_
 (refine cj (fun g9=>⟨(by first|trivial|exact ⟨g9,trv⟩|exact ⟨g9,g9,trv⟩|exact ⟨g9,g9,g9,trv⟩|exact ⟨g9,g9,g9,g9,trv⟩),by simp,IN ht C fC.sm⟩) rfl rfl (fun b eb=>?_);simp only [ht] at eb;rw [fC.ok.right] at eb;subst eb)
 cbv
 refine pI (by simp [ht]) ?_
 refine an ?_
 (rw [List.take_of_length_le (by omega)] at j4;have hb:=List.length_filter_le (fun j:Jb=>j.runs&&decide (j.left=1)) S.av;have hw:IntKind.i64.wrap ((S.av.length:Int)-mn)=(C.av.length:Int):=(by (try simp only [ah] at*);rw [wrap64 (by omega) (by omega),j4];omega);have hz:C.round=IntKind.u64.wrap (S.round+1):=z5;simp only [ht,lgM,hw,z4,hz,decide_true,cond_true];done)
end Dem
end
