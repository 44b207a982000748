/- Parts of a proof, joined. -/
import Derived.Test.YtihohjnkkalgiaaGreatDoorM24
set_option linter.all false
set_option maxRecDepth 100000
set_option maxHeartbeats 4000000
section
open Go
namespace Dem
def jO (s:bE) (p:Int):List Jb:=(s.ay.filter fun o=>o.runs&&decide (o.x.prio<p)).mergeSort fu
theorem OB {s:bE} {id:Int} {j:Jb} (h:bG s.ay id=(j,true)):bM s id=(jO s j.x.prio).map (·.id):=by
 unfold bM jO;rw [h];rfl
theorem OC {s:bE} {id:Int} (h:(bG s.ay id).2=false):bM s id=[]:=by
 unfold bM;rw [h];rfl
theorem BX {s:bE} {p:Int} {o:Jb}:o∈jO s p↔o∈s.ay∧o.runs=true∧o.x.prio<p:=by
 unfold jO
 rw [(List.mergeSort_perm _ _).mem_iff,List.mem_filter]
 simp
theorem K2 (s:bE) (p:Int):(jO s p).length=(s.ay.filter fun o=>o.runs&&decide (o.x.prio<p)).length:=(List.mergeSort_perm _ _).length_eq
theorem K3 {s:bE} (h:s.ok) (p:Int):(jO s p).Pairwise fun a b=>a.x.prio<b.x.prio∨(a.x.prio=b.x.prio∧b.id<a.id):=by
 have h1:(jO s p).Pairwise fun a b=>fu a b=true:=by
  refine List.pairwise_mergeSort ?_ ?_ _
  ·intro a b c;simp only [fu,Bool.or_eq_true,Bool.and_eq_true,decide_eq_true_eq];omega
  intro a b;simp only [fu,Bool.or_eq_true,Bool.and_eq_true,decide_eq_true_eq];omega
 have h2:(jO s p).Pairwise fun a b=>a.id≠b.id:=by
  have:(s.ay.filter fun o=>o.runs&&decide (o.x.prio<p)).Pairwise fun a b=>a.id≠b.id:=(h.ids.filter _).imp fun {a b} g=>by omega
  exact (List.mergeSort_perm _ _).symm.pairwise this fun {a b} g=>Ne.symm g
 refine (h1.and h2).imp fun {a b} g=>?_
 obtain ⟨g1,g2⟩:=g
 simp only [fu,Bool.or_eq_true,Bool.and_eq_true,decide_eq_true_eq] at g1
 omega
theorem OD {s:bE} (h:s.ok) {p:Int} {i:Nat} {a b:Jb} (ha:(jO s p)[i]?=some a) (hb:(jO s p)[i+1]?=some b):a.x.prio<b.x.prio∨(a.x.prio=b.x.prio∧b.id<a.id):=by
 obtain ⟨h1,rfl⟩:=List.getElem?_eq_some_iff.1 ha
 obtain ⟨h2,rfl⟩:=List.getElem?_eq_some_iff.1 hb
 exact List.pairwise_iff_getElem.1 (K3 h p) i (i+1) h1 h2 (by omega)
theorem Ix {s:bE} (h:s.ok) {id:Int} {j:Jb} (hj:bG s.ay id=(j,true)):
 (bM s id).length=(s.ay.filter fun o=>o.runs&&decide (o.x.prio<j.x.prio)).length∧
 (∀(i:Nat) (x:Int),(bM s id)[i]?=some x→∃o∈s.ay,o.id=x∧bG s.ay x=(o,true)∧o.runs=true∧o.x.prio<j.x.prio)∧
 ∀(i:Nat) (x y:Int),(bM s id)[i]?=some x→(bM s id)[i+1]?=some y→
  (bG s.ay x).1.x.prio<(bG s.ay y).1.x.prio∨((bG s.ay x).1.x.prio=(bG s.ay y).1.x.prio∧(bG s.ay y).1.id<(bG s.ay x).1.id):=by
 rw [OB hj]
 have hf:∀o∈jO s j.x.prio,bG s.ay o.id=(o,true):=fun o ho=>by
  obtain ⟨i,hi⟩:=List.getElem?_of_mem (BX.1 ho).1
  exact (pL h.ids hi).2.2
 refine ⟨by rw [lgM,K2],fun i x hx=>?_,fun i x y hx hy=>?_⟩
 ·rw [List.getElem?_map] at hx
  cases e:(jO s j.x.prio)[i]? with
  |none=>rw [e] at hx;cases hx
  |some o=>
   rw [e] at hx
   simp only [Option.map_some,osI] at hx
   have ho:=List.mem_of_getElem? e
   obtain ⟨g1,g2,g3⟩:=BX.1 ho
   exact ⟨o,g1,hx,by rw [←hx];exact hf o ho,g2,g3⟩
 rw [List.getElem?_map] at hx hy
 cases e:(jO s j.x.prio)[i]? with
 |none=>rw [e] at hx;cases hx
 |some a=>
  cases f:(jO s j.x.prio)[i+1]? with
  |none=>rw [f] at hy;cases hy
  |some b=>
   rw [e] at hx;rw [f] at hy
   simp only [Option.map_some,osI] at hx hy
   subst hx;subst hy
   rw [hf a (List.mem_of_getElem? e),hf b (List.mem_of_getElem? f)]
   exact OD h e f
end Dem
end
section
open Go Dem Go.Proofs
namespace Dem
variable {t:Th}
theorem R4 (ht:TT t) (s:bE) (h:s.good) (id:Int):FC 17 [dM t s,aA id] [] (.ret (Bp t (t _ fun _=>bG s.ay id))) []:=
 ij ht id _ _ _ _ _ _ _ _ _ _ (by simp only [ht]) (by have:=h.sm.ay.1;omega)
theorem Zl {t:Th} (ht:TT t) {α:Type} {l:List α} {cells cT:α→List D} {es:List (List D)} {g:Bool} {c:Prop} (aB:es=l.map cells) {z:Int} {i n:Nat} {x:α} {K:List D→Prop} (hx:l[i]?=some x) (hz:z=i) (hn:∀x,(cells x).length=n) (hT:∀x,cells x=cT x)
 (hc:g=true→c) (hK:K (cT x)):mP g (c∧(t Prop fun _=>0≤z∧z<es.length∧∀r∈es,r.length=n)) (t _ fun _=>es.getD z.toNat []) K:=by
 obtain ⟨ds,h,hk⟩:=wI (K:=K) ht aB hx hz hn hT hK
 obtain ⟨h1,h2⟩:=h rfl
 exact P6 ds (fun hg=>⟨⟨hc hg,h1⟩,h2⟩) hk
theorem R6 {l:List Jb} {P:Jb→Bool} {q:Nat} {x:Jb} (hx:l[q]?=some x) (h:P x=true):((l.take (q+1)).filter P).length=((l.take q).filter P).length+1:=by rw [dA hx,List.filter_append];simp [h]
theorem Ut {l:List Jb} {P:Jb→Bool} {q:Nat} {x:Jb} (hx:l[q]?=some x) (h:P x=false):((l.take (q+1)).filter P).length=((l.take q).filter P).length:=by rw [dA hx,List.filter_append];simp [h]
theorem Fc (ht:TT t) (hx0:FC 14 [] [] (.ret (BL true)) []) (N:Nat) (hN:N<256) {a:Int} (ea:a=N) {l:List gR} {dl:List (List D)} (IP:dl=l.map gR.cells) (Se:∀x∈l,x.u) (Vd:l.length<9223372036854775808) (k:Nat) (hk2:k<256) {kk:Int} (hk:kk=k):
 FC 3 [U8 a,SL dl,U8 kk] [] (.ret (BL true)) []:=by
 obtain ⟨S,hS⟩:∃S,S=ee N l (min l.length 40):=⟨_,rfl⟩
 have gS:S.good:=by rw [hS];exact iN _ _ _
 have hL:FC 15 [U8 a,SL dl] [] (.ret (dM t (t _ fun _=>S))) []:=by rw [hS];exact sH ht N hN ea IP Se Vd
 obtain ⟨I,hI⟩:∃I,I=gL S k:=⟨_,rfl⟩
 have hW:FC 16 [dM t S,U8 kk] [] (.ret (vt (t _ fun _=>I))) []:=by rw [hI];exact pS ht S gS k hk hk2
 obtain ⟨A,hA⟩:∃A,A=bM S I:=⟨_,rfl⟩
 have cl:FC 18 [dM t S,aA I] [] (.ret (rM t (t _ fun _=>A))) []:=by rw [hA];exact rN ht S gS I
 have hal:A.length<1000:=by rw [hA];exact pR gS I
 have z0:(bG S.ay I).2=false→A=[]:=by intro h;rw [hA];exact OC h
 have z1:=fun (j:Jb) (h:bG S.ay I=(j,true))=>Ix gS.ok h
 rw [←hA] at z1
 have sm:=gS.sm.ay.1
 obtain ⟨P,hP⟩:∃P:Int→Jb→Bool,P=fun p o=>o.runs&&decide (o.x.prio<p):=⟨_,rfl⟩
 have hPe:∀p o,P p o=(o.runs&&decide (o.x.prio<p)):=by intro p o;rw [hP]
 have z1':∀(j:Jb),bG S.ay I=(j,true)→A.length=(S.ay.filter (P j.x.prio)).length:=by intro j h;rw [hP];exact (z1 j h).1
 have z2:∀(j:Jb),bG S.ay I=(j,true)→∀(i:Nat) (x:Int),A[i]?=some x→∃o,bG S.ay x=(o,true)∧o.runs=true∧o.x.prio<j.x.prio:=by
  intro j h i x hx
  obtain ⟨o,_,_,h2,h3,h4⟩:=(z1 j h).2.1 i x hx
  exact ⟨o,h2,h3,h4⟩
 have z3:∀(j:Jb),bG S.ay I=(j,true)→∀(i:Nat) (x y:Int),A[i]?=some x→A[i+1]?=some y→∀p o:Jb,bG S.ay x=(p,true)→bG S.ay y=(o,true)→p.x.prio<o.x.prio∨(p.x.prio=o.x.prio∧o.id<p.id):=by
  intro j h i x y hx hy p o h2 h3
  have:=(z1 j h).2.2 i x y hx hy
  rw [h2,h3] at this;exact this
 clear z1 hP
 clear hS hI hA
 refine bH ht (aF:=[]) Tryz.func3 rfl rfl (N:=147) rfl rfl (n:=0) rfl rfl ?_
 cbv
 have cC:dl.length=l.length:=by rw [IP,lgM]
 (refine fU trv hx0 trv rfl rfl ?_)
 cbv
 refine an (fun h0=>?_) (fun h0=>?_)
 ·simp [ht,aa,cC] at h0
 simp [ht,aa,cC] at h0
 cbv
 (refine aE trv hL (by simp [ht]) rfl rfl rfl (fun r1 dL=>?_);simp only [ht] at dL;subst r1)
 cbv
 (refine aM trv hW (by simp [ht]) rfl rfl (fun r2 fQ=>?_);simp only [ht] at fQ;subst r2)
 cbv
 (refine aE trv (R4 ht S gS I) (by simp [ht]) rfl rfl rfl (fun w ew=>?_);simp only [ht] at ew;rw [←ew] at z0 z1' z2 z3;clear ew)
 cbv
 (refine aE trv cl (by simp [ht]) rfl rfl rfl (fun r3 iV=>?_);simp only [ht] at iV;subst r3)
 cbv
 refine an (fun h1=>?_) (fun h1=>?_)
 ·simp [ht,aa,cC] at h1
  cbv
  iterate 3 refine gI (by simp [ht,ah]) ?_
  refine pI (by simp [ht,ah]) ?_
  refine av trv trv rfl rfl rfl ?_
  (simp [ht,z0 h1];done)
 simp [ht,aa,cC] at h1
 cbv
 obtain ⟨J2,yL⟩:∃J2:Nat→Int×Int→Prop,∀n mn i,J2 n (mn,i)↔(∃q:Nat,i=q∧q+n=S.ay.length∧mn=((S.ay.take q).filter (P w.1.x.prio)).length):=⟨fun n v=>match v with|(mn,i)=>(∃q:Nat,i=q∧q+n=S.ay.length∧mn=((S.ay.take q).filter (P w.1.x.prio)).length),fun _ _ _=>Iff.rfl⟩
 refine bF ⟨[7,8,10,12,13,14],[],[]⟩ (σ:=Int×Int) (fun v=>[(13,.d (.int .i64 (t _ fun _=>v.1))),(14,.d (.int .i64 (t _ fun _=>v.2)))]) (fun v=>[]) J2 ?_
 cbv
 refine aD ⟨S.ay.length,(_,_),(yL _ _ _).2 ?_,by simp only [ht];rfl,?_⟩
 ·exact ⟨0,rfl,by simp,by simp⟩
 rintro n ⟨mn,i⟩ hj
 replace hj:=(yL _ _ _).1 hj
 obtain ⟨q,rfl,j1,j4⟩:=hj
 cbv
 refine an (fun h3=>?_) (fun h3=>?_)
 ·simp [ht,aa,cC] at h3
  cbv
  refine cO [false,false,false,true,true,true,true,false,false,false,false,false,false,false,false,false,false,true,true] (by kernel_rfl) (by kernel_rfl) ?_
  cbv
  iterate 3 refine gI (by simp [ht,ah]) ?_
  ((refine fP ht (l:=S.ay) (cells:=Jb.cells) (cT:=Jb.aU t) (by simp only [ht]<;>rfl) (by simp only [ht,aa];omega) (by simp only [ht,aa];((try simp only [aa] at*);omega)) (fun _=>rfl) (fun _=>by simp only [Jb.cells,Jb.aU,ht]) (fun x2 fZ=>?_);simp [ht,aa] at fZ))
  cbv
  iterate 3 refine gI (by simp [ht,ah]) ?_
  ((refine Zl ht (l:=S.ay) (cells:=Jb.cells) (cT:=Jb.aU t) (by simp only [ht]<;>rfl) fZ (by simp only [ht]) (fun _=>rfl) (fun _=>by simp only [Jb.cells,Jb.aU,ht]) (fun g9=>by simp [ht] at g9 ⊢;exact g9) ?_))
  cbv
  iterate 7 refine gI (by simp [ht,ah]) ?_
  refine pI (by simp [ht,ah]) ?_
  refine an (fun h4=>?_) (fun h4=>?_)
  ·simp [ht,aa,cC] at h4
   cbv
   refine bQ (_,_) (by simp only [ht];rfl) (n-1) ?_ ((yL _ _ _).2 ?_)
   ·omega
   simp only [ht,aa]
   exact ⟨q+1,aC (by ((try simp only [aa] at*);omega)),by ((try simp only [aa] at*);omega),by have hb:=List.length_filter_le (P w.1.x.prio) (S.ay.take q);rw [List.length_take] at hb;rw [R6 fZ (by rw [hPe,h4.1];simpa using h4.2),j4];exact aC (by ((try simp only [aa] at*);omega))⟩
  simp [ht,aa,cC] at h4
  cbv
  refine bQ (_,_) (by simp only [ht];rfl) (n-1) ?_ ((yL _ _ _).2 ?_)
  ·omega
  simp only [ht,aa]
  exact ⟨q+1,aC (by ((try simp only [aa] at*);omega)),by ((try simp only [aa] at*);omega),by rw [Ut fZ (by rw [hPe];rcases Bool.eq_false_or_eq_true x2.runs with hr|hr;(have:=h4 hr;simp [hr];omega);(simp [hr]))];exact j4⟩
 simp [ht,aa,cC] at h3
 cbv
 obtain ⟨J5,ZP⟩:∃J5:Nat→Int→Prop,∀n i,J5 n i↔(∃q2:Nat,i=q2∧q2+n=A.length):=⟨fun n v=>match v with|i=>(∃q2:Nat,i=q2∧q2+n=A.length),fun _ _=>Iff.rfl⟩
 refine bF ⟨[7,8,10,12,13,15],[],[]⟩ (σ:=Int) (fun v=>[(15,.d (.int .i64 (t _ fun _=>v)))]) (fun v=>[]) J5 ?_
 cbv
 refine aD ⟨A.length,_,(ZP _ _).2 ?_,by simp only [ht];rfl,?_⟩
 ·exact ⟨0,rfl,by simp⟩
 rintro n i hj
 replace hj:=(ZP _ _).1 hj
 obtain ⟨q2,rfl,i1⟩:=hj
 cbv
 refine an (fun h6=>?_) (fun h6=>?_)
 ·simp [ht,aa,cC] at h6
  cbv
  refine pZ [1,2] [1,2,6,7,8] [false,false,false,false,false,false,false,false,false,false,true,true] (by kernel_rfl) (by kernel_rfl) (by kernel_rfl) (by kernel_rfl) (by kernel_rfl) (by kernel_rfl) ?_
  cbv
  iterate 3 refine gI (by simp [ht,ah]) ?_
  ((refine fP ht (l:=A) (cells:=Int.cells) (cT:=Int.aU t) (by simp only [ht]<;>rfl) (by simp only [ht,aa];omega) (by simp only [ht,aa];((try simp only [aa] at*);omega)) (fun _=>rfl) (fun _=>rfl) (fun x3 IW=>?_);simp [ht,aa] at IW))
  cbv
  refine gI (by simp [ht,ah]) ?_
  refine .inl ?_
  refine dy (fun g7=>⟨trv,trv,ij ht _ _ _ _ _ _ _ _ _ _ _ (jR ht rfl) (by omega)⟩) rfl rfl rfl (fun r8 Mc=>?_)
  simp only [ht] at Mc
  cbv
  iterate 6 refine gI (by simp [ht,ah]) ?_
  refine pI (by simp [ht,ah]) ?_
  iterate 7 refine gI (by simp [ht,ah]) ?_
  refine pI (by simp [ht,ah]) ?_
  refine an (fun h9=>?_) (fun h9=>?_)
  ·simp [ht,aa,cC] at h9
   cbv
   refine av trv trv rfl rfl rfl ?_
   (exfalso;obtain ⟨o,o1,o2,o3⟩:=z2 w.1 (by rw [←h1]) q2 x3 IW;rw [o1] at Mc;subst Mc;simp only at h9;(simp [o2] at h9;((try simp only [aa] at*);omega)))
  simp [ht,aa,cC] at h9
  cbv
  refine an (fun h10=>?_) (fun h10=>?_)
  ·simp [ht,aa,cC] at h10
   cbv
   refine bQ _ (by simp only [ht];rfl) (n-1) ?_ ((ZP _ _).2 ?_)
   ·omega
   simp only [ht,aa]
   exact ⟨q2+1,aC (by ((try simp only [aa] at*);omega)),by ((try simp only [aa] at*);omega)⟩
  simp [ht,aa,cC] at h10
  cbv
  refine pZ [1,2,3] [1,2,7,8,9] [false,false,false,false,false,false,false,false,false,false,false,true,true] (by kernel_rfl) (by kernel_rfl) (by kernel_rfl) (by kernel_rfl) (by kernel_rfl) (by kernel_rfl) ?_
  cbv
  iterate 4 refine gI (by simp [ht,ah]) ?_
  ((have h_:=IW;refine fP ht (l:=A) (cells:=Int.cells) (cT:=Int.aU t) (by simp only [ht]<;>rfl) (by simp only [ht,aa];rw [wrap64 (by ((try simp only [aa] at*);omega)) (by ((try simp only [aa] at*);omega))];((try simp only [aa] at*);omega)) (by simp only [ht,aa];rw [wrap64 (by ((try simp only [aa] at*);omega)) (by ((try simp only [aa] at*);omega))];((try simp only [aa] at*);omega)) (fun _=>rfl) (fun _=>rfl) (fun x4 Dx=>?_);have mx5:A[q2-1]?=some x4:=(by simp only [ht,aa] at Dx;rw [wrap64 (by ((try simp only [aa] at*);omega)) (by ((try simp only [aa] at*);omega)),show ((q2:Int)-1).toNat=q2-1 by ((try simp only [aa] at*);omega)] at Dx;exact Dx)))
  cbv
  refine gI (by simp [ht,ah]) ?_
  refine .inl ?_
  refine dy (fun g11=>⟨trv,trv,ij ht _ _ _ _ _ _ _ _ _ _ _ (jR ht rfl) (by omega)⟩) rfl rfl rfl (fun r12 E0=>?_)
  simp only [ht] at E0
  cbv
  iterate 16 refine gI (by simp [ht,ah]) ?_
  refine gI (by simp [ht,ah];intros;simp_all) ?_
  refine pI (by simp [ht,ah]) ?_
  refine an (fun IV=>?_) (fun IV=>?_)
  ·simp [ht,aa,cC] at IV
   cbv
   refine av trv trv rfl rfl rfl ?_
   (exfalso;obtain ⟨p,p1,p2,p3⟩:=z2 w.1 (by rw [←h1]) (q2-1) x4 mx5;obtain ⟨o,o1,o2,o3⟩:=z2 w.1 (by rw [←h1]) q2 x3 IW;rw [o1] at Mc;subst Mc;rw [p1] at E0;subst E0;have z:=z3 w.1 (by rw [←h1]) (q2-1) x4 x3 mx5 (by rw [show q2-1+1=q2 by ((try simp only [aa] at*);omega)];exact IW) p o p1 o1;simp only at IV;((try simp only [aa] at*);omega))
  simp [ht,aa,cC] at IV
  cbv
  refine bQ _ (by simp only [ht];rfl) (n-1) ?_ ((ZP _ _).2 ?_)
  ·omega
  simp only [ht,aa]
  exact ⟨q2+1,aC (by ((try simp only [aa] at*);omega)),by ((try simp only [aa] at*);omega)⟩
 simp [ht,aa,cC] at h6
 cbv
 iterate 4 refine gI (by simp [ht,ah]) ?_
 refine pI (by simp [ht,ah]) ?_
 refine av trv trv rfl rfl rfl ?_
 (rw [List.take_of_length_le (by ((try simp only [aa] at*);omega))] at j4;simp [ht,j4,z1' w.1 (by rw [←h1])];done)
end Dem
end
