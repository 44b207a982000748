/- Parts of a proof, joined. -/
import Derived.Test.YtihohjnkkalgiaaGreatDoorM24
import Derived.Test.YtihohjnkkalgiaaGreatDoorM25
set_option linter.all false
set_option maxRecDepth 100000
set_option maxHeartbeats 4000000
section
open Go
namespace Dem
theorem RS {t:bE} (h:t.ok) (id kind:Int):(send t id kind).1.ok∧(send t id kind).1.ay=(t.ay.filter fun y=>!decide (y.id=id))∧(send t id kind).1.bg.nodes=t.bg.nodes∧cr t.tree (send t id kind).1.tree:=by
 refine ⟨h.end_ id kind,?_⟩
 cases hf:t.ay.findIdx? (fun j=>decide (j.id=id)) with
 |none=>
  have e:(send t id kind).1=t:=by unfold send;rw [hf]
  rw [e]
  rw [List.findIdx?_eq_none_iff] at hf
  exact ⟨(List.filter_eq_self.2 fun x hx=>by rw [hf x hx];rfl).symm,rfl,cr.refl _⟩
 |some i=>
  obtain ⟨j,hj,he,hd⟩:=mu hf
  subst he
  obtain ⟨_,h1,h2⟩:=EV h hj kind
  cases hr:j.runs with
  |false=>rw [h1 hr];exact ⟨JZ h.ids hj,rfl,cr.refl _⟩
  |true=>
   obtain ⟨T,g1,g2⟩:=h2 hr
   rw [g2];exact ⟨JZ h.ids hj,rfl,g1⟩
def ct (id:Int) (L:List Jb) (t:bE):bE:=L.foldl (fun t j=>if j.id=id then t else (send t j.id 3).1) t
theorem rL (id:Int):∀(L:List Jb) {t:bE},t.ok→(ct id L t).ok∧(ct id L t).ay=(t.ay.filter fun y=>decide (y.id=id)||!L.any fun j=>decide (j.id=y.id))∧(ct id L t).bg.nodes=t.bg.nodes∧cr t.tree (ct id L t).tree
 |[],t,h=>⟨h,(List.filter_eq_self.2 fun x _=>by simp).symm,rfl,cr.refl _⟩
 |j::L,t,h=>by
  show (ct id L (if j.id=id then t else (send t j.id 3).1)).ok∧_
  rw [show ct id (j::L) t=ct id L (if j.id=id then t else (send t j.id 3).1) from rfl]
  by_cases e:j.id=id
  ·rw [if_pos e]
   obtain ⟨h1,h2,h3,h4⟩:=rL id L h
   refine ⟨h1,?_,h3,h4⟩
   rw [h2]
   refine List.filter_congr fun y _=>?_
   by_cases c:y.id=id
   ·simp [c]
   have:j.id≠y.id:=fun g=>c (g.symm.trans e)
   simp [c,this]
  rw [if_neg e]
  obtain ⟨g1,g2,g3,g4⟩:=RS h j.id 3
  obtain ⟨h1,h2,h3,h4⟩:=rL id L g1
  refine ⟨h1,?_,by rw [h3,g3],g4.trans h4⟩
  rw [h2,g2,List.filter_filter]
  refine List.filter_congr fun y _=>?_
  by_cases c:y.id=id
  ·have:y.id≠j.id:=fun g=>e (g.symm.trans c)
   simp [c,Ne.symm e]
  by_cases d:j.id=y.id
  ·simp [c,d]
  simp [c,d,Ne.symm d]
theorem Iw {s:bE} (h:s.ok) {id:Int} (hw:(∃j∈s.ay,j.id=id∧j.runs=false)∨∀j∈s.ay,j.id≠id):
 jL s id=(dH (ct id s.ay s) id).2∧((dH s id).2=true→(dH (ct id s.ay s) id).2=true)∧(ct id s.ay s).bg.places=[]:=by
 obtain ⟨h1,h2,h3,h4⟩:=rL id s.ay h
 have MN:(ct id s.ay s).ay=s.ay.filter fun y=>decide (y.id=id):=by
  rw [h2]
  refine List.filter_congr fun y hy=>?_
  have:(s.ay.any fun j=>decide (j.id=y.id))=true:=List.any_eq_true.2 ⟨y,hy,by simp⟩
  rw [this];simp
 have hr:∀j∈(ct id s.ay s).ay,j.runs=false:=by
  rw [MN]
  intro x hx
  obtain ⟨hx1,IN⟩:=List.mem_filter.1 hx
  rw [decide_eq_true_eq] at IN
  rcases hw with ⟨j,hj,e,hr⟩|hn
  ·rw [gJ h.ids hx1 hj (by rw [IN,e]),hr]
  exact absurd IN (hn x hx1)
 have hp:(ct id s.ay s).bg.places=[]:=by
  cases e:(ct id s.ay s).bg.places with
  |nil=>rfl
  |cons x r=>
   obtain ⟨j,hj,Xr,_⟩:=h1.places x (by rw [e];simp)
   rw [hr j hj] at Xr;cases Xr
 rcases hw with ⟨j,hj,rfl,Xr⟩|hn
 ·obtain ⟨i,hi⟩:=List.getElem?_of_mem hj
  have hc:=h.uw j hj
  have hm:j∈(ct j.id s.ay s).ay:=by rw [MN];exact List.mem_filter.2 ⟨hj,by simp⟩
  obtain ⟨i2,hi2⟩:=List.getElem?_of_mem hm
  have g:=eK h (s.ay.map (·.id))
  have b:=g.bare h (fun x hx _=>List.mem_map_of_mem hx)
  have a1:=xB h1 hi2 Xr
  have a2:=DJ h g (fun x hx _=>List.mem_map_of_mem hx) hi Xr
  have hz:∀x∈(aW s (s.ay.map (·.id))).ay,x.runs=false:=by
   rw [g.ay]
   intro x hx
   obtain ⟨y,hy,rfl⟩:=List.mem_map.1 hx
   cases e:(dI (s.ay.map (·.id)) y).runs with
   |false=>rfl
   |true=>rw [iQ] at e;exact absurd (List.mem_map_of_mem hy) e.2
  have g1:Iq (ct j.id s.ay s) (aW s (s.ay.map (·.id))):=⟨by rw [b.1,h3],fun n k hk=>by rw [b.1,hp];exact Nat.le_refl _,h4.K1 g.tree,fun p k hk=>by rw [oA k p _ hz];exact Nat.zero_le _⟩
  have g2:Iq (aW s (s.ay.map (·.id))) (ct j.id s.ay s):=⟨by rw [b.1,h3],fun n k hk=>by rw [b.1,hp];exact Nat.le_refl _,g.tree.K1 h4,fun p k hk=>by rw [oA k p _ hr];exact Nat.zero_le _⟩
  have eq:jL s j.id=(dH (ct j.id s.ay s) j.id).2:=by
   rw [Bool.eq_iff_iff,a1,a2]
   exact ⟨Room.mono g.ok h1 g2 hc.1 hc.2.1,Room.mono h1 g.ok g1 hc.1 hc.2.1⟩
  exact ⟨eq,fun e=>by rw [←eq];exact Iv h hi Xr (l:=[]) e,hp⟩
 have hf:∀t:bE,(∀x∈t.ay,x.id≠id)→(fL t id).2=false:=by
  intro t ht
  unfold fL bG
  cases e:t.ay.find? (fun j=>decide (j.id=id)) with
  |none=>rfl
  |some x=>exact absurd (by simpa using List.find?_some e) (ht x (List.mem_of_find?_eq_some e))
 have e1:=BU (hf s hn)
 have e2:=BU (hf (ct id s.ay s) (fun x hx=>by rw [MN] at hx;exact hn x (List.mem_filter.1 hx).1))
 refine ⟨?_,fun e=>(show False by rw [e1] at e;exact Bool.noConfusion e).elim,hp⟩
 rw [e2]
 unfold jL iI;rw [hf s hn];rfl
theorem yR (id:Int) {L:List Jb} {k:Nat} {x:Jb} (h:L[k]?=some x) (s:bE):ct id (L.take (k+1)) s=if x.id=id then ct id (L.take k) s else (send (ct id (L.take k) s) x.id 3).1:=by
 unfold ct;rw [dA h,List.foldl_append];rfl
theorem yS {s:bE} (h:s.good) (id:Int) (L:List Jb):(ct id L s).good:=
 nY (P:=bE.good) (fun a b g=>by split;exact g;exact Ih g _ _) _ _ h
end Dem
end
section
open Go Dem Go.Proofs
namespace Dem
variable {t:Th}
theorem Fe (ht:TT t) (hx0:FC 14 [] [] (.ret (BL true)) []) (N:Nat) (hN:N<256) {a:Int} (ea:a=N) {l:List gR} {dl:List (List D)} (IP:dl=l.map gR.cells) (Se:∀x∈l,x.u) (Vd:l.length<9223372036854775808) (k:Nat) (hk2:k<256) {kk:Int} (hk:kk=k):
 FC 6 [U8 a,SL dl,U8 kk] [] (.ret (BL true)) []:=by
 obtain ⟨S,hS⟩:∃S,S=ee N l (min l.length 40):=⟨_,rfl⟩
 have gS:S.good:=by rw [hS];exact iN _ _ _
 have hL:FC 15 [U8 a,SL dl] [] (.ret (dM t (t _ fun _=>S))) []:=by rw [hS];exact sH ht N hN ea IP Se Vd
 obtain ⟨I,hI⟩:∃I,I=gL S k:=⟨_,rfl⟩
 have hW:FC 16 [dM t S,U8 kk] [] (.ret (vt (t _ fun _=>I))) []:=by rw [hI];exact pS ht S gS k hk hk2
 obtain ⟨z1,z2,z3⟩:=Iw gS.ok (id:=I) (by rw [hI];exact uu gS.ok k)
 have sm:=gS.sm.ay.1
 clear hS hI
 refine bH ht (aF:=[]) Tryz.func6 rfl rfl (N:=86) rfl rfl (n:=0) rfl rfl ?_
 cbv
 have cC:dl.length=l.length:=by rw [IP,lgM]
 (refine fU trv hx0 trv rfl rfl ?_)
 cbv
 refine an (fun h0=>?_) (fun h0=>?_)
 ·simp [ht,aa,cC] at h0
 simp [ht,aa,cC] at h0
 cbv
 (refine aE trv hL (by simp [ht]) rfl rfl rfl (fun r1 dL=>?_);simp only [ht] at dL;subst r1)
 cbv
 (refine aM trv hW (by simp [ht]) rfl rfl (fun r2 fQ=>?_);simp only [ht] at fQ;subst r2)
 cbv
 obtain ⟨J1,m8⟩:∃J1:Nat→Int×Int×Int×List (List D)×List (List D)×List (List D)×List (List D)×List (List D)×Int×List (List D)×Int×List (List D)→Prop,∀n i rd nx ns ps ts js qs ef es af bV,J1 n (i,rd,nx,ns,ps,ts,js,qs,ef,es,af,bV)↔(∃q:Nat,i=q∧q+n=S.ay.length∧Told (ct I (S.ay.take q) S) rd nx ns ps ts js qs ef es af bV):=⟨fun n v=>match v with|(i,rd,nx,ns,ps,ts,js,qs,ef,es,af,bV)=>(∃q:Nat,i=q∧q+n=S.ay.length∧Told (ct I (S.ay.take q) S) rd nx ns ps ts js qs ef es af bV),fun _ _ _ _ _ _ _ _ _ _ _ _ _=>Iff.rfl⟩
 refine bF ⟨[7,8,9,10,11],[],[]⟩ (σ:=Int×Int×Int×List (List D)×List (List D)×List (List D)×List (List D)×List (List D)×Int×List (List D)×Int×List (List D)) (fun v=>[(11,.d (.int .i64 (t _ fun _=>v.1)))]) (fun v=>[(1,.var [.d (.int .u64 (t _ fun _=>v.2.1)),.d (.int .u64 (t _ fun _=>v.2.2.1)),.d (.sl (t _ fun _=>v.2.2.2.1)),.d (.sl (t _ fun _=>v.2.2.2.2.1)),.d (.sl (t _ fun _=>v.2.2.2.2.2.1)),.d (.sl (t _ fun _=>v.2.2.2.2.2.2.1)),.d (.sl (t _ fun _=>v.2.2.2.2.2.2.2.1)),.d (.int .u64 (t _ fun _=>v.2.2.2.2.2.2.2.2.1)),.d (.sl (t _ fun _=>v.2.2.2.2.2.2.2.2.2.1)),.d (.int .u64 (t _ fun _=>v.2.2.2.2.2.2.2.2.2.2.1)),.d (.sl (t _ fun _=>v.2.2.2.2.2.2.2.2.2.2.2))])]) J1 ?_
 cbv
 refine aD ⟨S.ay.length,(_,_,_,_,_,_,_,_,_,_,_,_),(m8 _ _ _ _ _ _ _ _ _ _ _ _ _).2 ?_,by simp only [ht];rfl,?_⟩
 ·exact ⟨0,rfl,by simp,Told.self S⟩
 rintro n ⟨i,rd,nx,ns,ps,ts,js,qs,ef,es,af,bV⟩ hj
 replace hj:=(m8 _ _ _ _ _ _ _ _ _ _ _ _ _).1 hj
 obtain ⟨q,rfl,j1,jT⟩:=hj
 cbv
 refine an (fun h2=>?_) (fun h2=>?_)
 ·simp [ht,aa,cC] at h2
  cbv
  ((refine fP ht (l:=S.ay) (cells:=Jb.cells) (cT:=Jb.aU t) (by simp only [ht]<;>rfl) (by simp only [ht,aa];omega) (by simp only [ht,aa];((try simp only [aa] at*);omega)) (fun _=>rfl) (fun _=>by simp only [Jb.cells,Jb.aU,ht]) (fun x2 fZ=>?_);simp [ht,aa] at fZ))
  cbv
  refine an (fun h3=>?_) (fun h3=>?_)
  ·simp [ht,aa,cC] at h3
   cbv
   refine pZ [3] [3,8,9,10] [false,false,false,false,false,false,false,true,true,false,false,true] (by kernel_rfl) (by kernel_rfl) (by kernel_rfl) (by kernel_rfl) (by kernel_rfl) (by kernel_rfl) ?_
   cbv
   iterate 4 refine gI (by simp [ht,ah]) ?_
   ((refine wI ht (l:=S.ay) (cells:=Jb.cells) (cT:=Jb.aU t) (by simp only [ht]<;>rfl) fZ (by simp only [ht]) (fun _=>rfl) (fun _=>by simp only [Jb.cells,Jb.aU,ht]) ?_))
   cbv
   iterate 2 refine gI (by simp [ht,ah]) ?_
   (have xk:=(yS gS I (S.ay.take q)).sm;refine aE trv (Rn ht _ _ _ _ (nl:=(ct I (S.ay.take q) S).bg.nodes) (pl:=(ct I (S.ay.take q) S).bg.places) (tl:=(ct I (S.ay.take q) S).tree) (jl:=(ct I (S.ay.take q) S).ay) (ql:=(ct I (S.ay.take q) S).queue) (el:=(ct I (S.ay.take q) S).ev.l) (al:=(ct I (S.ay.take q) S).au.l) (by simp only [ht];exact jT.n) (by simp only [ht];exact jT.p) (by simp only [ht];exact jT.t) (by simp only [ht];exact jT.j) (by simp only [ht];exact jT.q) (by simp only [ht];exact jT.e) (by simp only [ht];exact jT.a) _ _ (ur xk) xk.tree.1 xk.ay.1 xk.places xk.queue xk.notes.1) (by simp [ht]) rfl rfl rfl (fun r7 pK=>?_);simp only [ht] at pK;rw [jT.eq] at pK)
   cbv
   iterate 2 refine gI (by simp [ht,ah]) ?_
   refine bQ (_,_,_,_,_,_,_,_,_,_,_,_) (by simp only [ht];rfl) (n-1) ?_ ((m8 _ _ _ _ _ _ _ _ _ _ _ _ _).2 ?_)
   ·omega
   simp only [ht,aa]
   exact ⟨q+1,aC (by ((try simp only [aa] at*);omega)),by ((try simp only [aa] at*);omega),by rw [yR _ fZ,if_neg ‹_›,←pK];exact Told.self r7.1⟩
  simp [ht,aa,cC] at h3
  cbv
  refine bQ (_,_,_,_,_,_,_,_,_,_,_,_) (by simp only [ht];rfl) (n-1) ?_ ((m8 _ _ _ _ _ _ _ _ _ _ _ _ _).2 ?_)
  ·omega
  simp only [ht,aa]
  exact ⟨q+1,aC (by ((try simp only [aa] at*);omega)),by ((try simp only [aa] at*);omega),by rw [yR _ fZ,if_pos ‹_›];exact jT⟩
 simp [ht,aa,cC] at h2
 cbv
 ((rw [List.take_of_length_le (by ((try simp only [aa] at*);omega))] at jT;refine aE trv (E1 ht _ _ _ _ (nl:=(ct I S.ay S).bg.nodes) (pl:=(ct I S.ay S).bg.places) (tl:=(ct I S.ay S).tree) (jl:=(ct I S.ay S).ay) (ql:=(ct I S.ay S).queue) (el:=(ct I S.ay S).ev.l) (al:=(ct I S.ay S).au.l) (by simp only [ht];exact jT.n) (by simp only [ht];exact jT.p) (by simp only [ht];exact jT.t) (by simp only [ht];exact jT.j) (by simp only [ht];exact jT.q) (by simp only [ht];exact jT.e) (by simp only [ht];exact jT.a) (by simp only [ht,jT.eq];exact (yS gS I S.ay).sm) I) (by simp [ht]) rfl rfl rfl (fun q1 MB=>?_);simp only [ht] at MB;rw [jT.eq] at MB;rw [←MB] at z1 z2))
 cbv
 ((refine aE trv (gV ht S gS I) (by simp [ht]) rfl rfl rfl (fun q2 Sf=>?_);simp only [ht] at Sf;rw [←Sf] at z2))
 cbv
 iterate 2 refine gI (by simp [ht,ah]) ?_
 (refine bJ (fun g9=>⟨(by trivial),by simp [ht],vU ht S gS I⟩) rfl rfl (fun q3 Ld=>?_);simp only [ht] at Ld;rw [←Ld] at z1)
 cbv
 iterate 2 refine gI (by simp [ht,ah]) ?_
 refine pI (by simp [ht,ah]) ?_
 iterate 4 refine gI (by simp [ht,ah]) ?_
 refine gI (by simp [ht,ah];intros;simp_all) ?_
 refine pI (by simp [ht,ah]) ?_
 iterate 5 refine gI (by simp [ht,ah]) ?_
 refine pI (by simp [ht,ah]) ?_
 refine av trv trv rfl rfl rfl ?_
 (cases hq2:q2.2<;>cases hq1:q1.2<;>simp_all [ht,jT.p,z3,z1];done)
end Dem
end
