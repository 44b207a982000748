/- Parts of a proof, joined. -/
import Derived.Test.YtihohjnkkalgiaaGreatDoorM24
import Derived.Test.YtihohjnkkalgiaaGreatDoorM25
set_option linter.all false
set_option maxRecDepth 100000
set_option maxHeartbeats 4000000
section
open Go
namespace Dem
section
variable {s:bE} {id:Int}
theorem yQ (all:List Int):∀n k:Nat,(match kV s id all n k with
 |none=>∀m,k≤m→m<k+n→(fM s id (all.take m)).2=false
 |some (l,nodes)=>∃m,k≤m∧m<k+n∧l=all.take m∧fM s id l=(nodes,true)∧∀m',k≤m'→m'<m→(fM s id (all.take m')).2=false)
 |0,k=>by simp only [kV];intro m h1 h2;omega
 |n+1,k=>by
  simp only [kV]
  by_cases c:(fM s id (all.take k)).2=true
  ·rw [if_pos c]
   exact ⟨k,Nat.le_refl _,by omega,rfl,by rw [←c],fun m' h1 h2=>by omega⟩
  rw [if_neg c]
  have ih:=yQ all n (k+1)
  cases h:kV s id all n (k+1) with
  |none=>
   rw [h] at ih
   intro m h1 h2
   by_cases e:m=k
   ·subst e;simpa using c
   exact ih m (by omega) (by omega)
  |some x=>
   obtain ⟨l,nodes⟩:=x
   rw [h] at ih
   obtain ⟨m,h1,h2,h3,h4,h5⟩:=ih
   refine ⟨m,by omega,by omega,h3,h4,fun m' g1 g2=>?_⟩
   by_cases e:m'=k
   ·subst e;simpa using c
   exact h5 m' (by omega) g2
theorem OA {l:List Int} {i k:Nat} (h:i<k):∀x∈(l.eraseIdx k).eraseIdx i,x∈l.eraseIdx i:=by
 intro x hx
 rw [List.mem_eraseIdx_iff_getElem?] at hx ⊢
 obtain ⟨a,ha,e⟩:=hx
 rw [List.getElem?_eraseIdx] at e
 split at e
 ·exact ⟨a,ha,e⟩
 exact ⟨a+1,by omega,e⟩
theorem rK (hm:∀l m:List Int,(∀x∈l,x∈m)→(fM s id l).2=true→(fM s id m).2=true):∀(n k:Nat) (l:List Int) (nodes:List aH),l.length≤k+n→fM s id l=(nodes,true)→
 (∀i,i<k→i<l.length→(fM s id (l.eraseIdx i)).2=false)→
 fM s id (gi s id n k l nodes).1=((gi s id n k l nodes).2,true)∧(gi s id n k l nodes).1.Sublist l∧∀i<(gi s id n k l nodes).1.length,(fM s id ((gi s id n k l nodes).1.eraseIdx i)).2=false
 |0,k,l,nodes,hl,he,hn=>by
  simp only [gi]
  exact ⟨he,List.Sublist.refl _,fun i hi=>hn i (by omega) hi⟩
 |n+1,k,l,nodes,hl,he,hn=>by
  simp only [gi]
  by_cases c:k<l.length
  ·rw [if_pos c]
   by_cases d:(fM s id (l.eraseIdx k)).2=true
   ·rw [if_pos d]
    have e:fM s id (l.eraseIdx k)=((fM s id (l.eraseIdx k)).1,true):=by rw [←d]
    have g:=rK hm n k (l.eraseIdx k) _ (by rw [List.length_eraseIdx,if_pos c];omega) e (fun i hi hi2=>by
     cases q:(fM s id ((l.eraseIdx k).eraseIdx i)).2 with
     |false=>rfl
     |true=>
      have:=hm _ _ (OA hi) q
      rw [hn i hi (by omega)] at this;cases this)
    exact ⟨g.1,g.2.1.trans (List.eraseIdx_sublist _ _),g.2.2⟩
   rw [if_neg d]
   refine rK hm n (k+1) l nodes (by omega) he fun i hi hi2=>?_
   by_cases e:i=k
   ·subst e;simpa using d
   exact hn i (by omega) hi2
  rw [if_neg c]
  exact ⟨he,List.Sublist.refl _,fun i hi=>hn i (by have:i<l.length:=hi;omega) hi⟩
theorem tv (hm:∀l m:List Int,(∀x∈l,x∈m)→(fM s id l).2=true→(fM s id m).2=true):
 ((aP s id).2.2=false∧(aP s id).1=[]∧(aP s id).2.1=[]∧(fM s id (bM s id)).2=false)∨
 ((
  aP s id).2.2=true∧fM s id (aP s id).1=((aP s id).2.1,true)∧(∀x∈(aP s id).1,x∈bM s id)∧(aP s id).1.Sublist (bM s id)∧(fM s id (bM s id)).2=true∧
  ((fM s id []).2=true→(aP s id).1=[])∧∀i<(aP s id).1.length,(fM s id ((aP s id).1.eraseIdx i)).2=false):=by
 have h:=yQ (s:=s) (id:=id) (bM s id) ((bM s id).length+1) 0
 unfold aP
 cases e:kV s id (bM s id) ((bM s id).length+1) 0 with
 |none=>
  rw [e] at h
  refine .inl ⟨rfl,rfl,rfl,?_⟩
  have:=h (bM s id).length (Nat.zero_le _) (by omega)
  rwa [List.take_length] at this
 |some x=>
  obtain ⟨l,nodes⟩:=x
  rw [e] at h
  obtain ⟨m,_,h2,rfl,h4,h5⟩:=h
  obtain ⟨g1,g2,g3⟩:=rK hm (((bM s id).take m).length+1) 0 ((bM s id).take m) nodes (by omega) h4 (fun i hi=>by omega)
  refine .inr ⟨rfl,g1,fun x hx=>List.mem_of_mem_take (g2.subset hx),g2.trans (List.take_sublist _ _),hm _ _ (fun x hx=>List.mem_of_mem_take hx) (by rw [h4]),fun hz=>?_,g3⟩
  have:m=0:=by
   cases m with
   |zero=>rfl
   |succ m=>have:=h5 0 (Nat.le_refl _) (by omega);rw [List.take_zero] at this;rw [hz] at this;cases this
  subst this
  exact List.eq_nil_of_length_eq_zero (by have:=g2.length_le;simp only [List.take_zero,List.length_nil] at this ⊢;omega)
end
theorem E7 {s:bE} (h:s.ok) {id:Int} (hn:∀j∈s.ay,j.id≠id) (l:List Int):fM s id l=([],false):=by
 have g:=eK h l
 refine BU ?_
 have:(bG (aW s l).ay id).2=false:=by
  rw [g.ay]
  unfold bG
  cases e:(s.ay.map (dI l)).find? (fun j=>decide (j.id=id)) with
  |none=>rfl
  |some x=>
   have h1:=List.mem_of_find?_eq_some e
   have h2:=List.find?_some e
   obtain ⟨j,hj,rfl⟩:=List.mem_map.1 h1
   rw [decide_eq_true_eq,(xC l j).1] at h2
   exact absurd h2 (hn j hj)
 unfold fL;rw [this];rfl
theorem Iu {s:bE} (h:s.ok) {id:Int} (hw:(∃j∈s.ay,j.id=id∧j.runs=false)∨∀j∈s.ay,j.id≠id):
 ∀l m:List Int,(∀x∈l,x∈m)→(fM s id l).2=true→(fM s id m).2=true:=by
 intro l m hl e
 rcases hw with ⟨j,hj,rfl,hr⟩|hn
 ·obtain ⟨i,hi⟩:=List.getElem?_of_mem hj
  exact Is h hi hr hl e
 rw [E7 h hn] at e;cases e
end Dem
end
section
open Go
namespace Dem
theorem BW {s:bE} (h:s.ok) {id:Int} (hw:(∃j∈s.ay,j.id=id∧j.runs=false)∨∀j∈s.ay,j.id≠id):
 (aP s id).2.2=((fM s id (bM s id)).2||(dH s id).2)∧((dH s id).2=true→(aP s id).1=[])∧((aP s id).2.2=true→jL s id=true):=by
 have hm:=Iu h hw
 have h0:(dH s id).2=true→(fM s id (bM s id)).2=true:=fun e=>hm [] _ (fun x hx=>by cases hx) e
 rcases tv hm with ⟨h1,h2,_,h4⟩|⟨h1,h2,_,_,h5,h6,_⟩
 ·refine ⟨?_,fun _=>h2,fun e=>by rw [h1] at e;cases e⟩
  rw [h1,h4]
  cases e:(dH s id).2 with
  |false=>rfl
  |true=>rw [h0 e] at h4;cases h4
 refine ⟨by rw [h1,h5];rfl,h6,fun _=>?_⟩
 rcases hw with ⟨j,hj,rfl,hr⟩|hn
 ·obtain ⟨i,hi⟩:=List.getElem?_of_mem hj
  exact Iv h hi hr (by rw [h2])
 rw [E7 h hn] at h5;cases h5
end Dem
end
section
open Go Dem Go.Proofs
namespace Dem
variable {t:Th}
theorem Le (ht:TT t) (rd nx ef af:Int) {nl:List Node} {pl:List Place} {tl:List be} {jl:List Jb} {ql:List bZ} {el al:List dQ} {ns ps ts js qs es bV:List (List D)} (eV:ns=nl.map Node.cells) (hps:ps=pl.map Place.cells) (hts:ts=tl.map be.cells) (ek:js=jl.map Jb.cells) (dV:qs=ql.map bZ.cells) (aB:es=el.map dQ.cells) (has:bV=al.map dQ.cells) {ids:List Int} {ir:List (List D)} (U7:ir=ids.map Int.cells) (hil:ids.length<1000000) (hg:∀k,(aW ⟨rd,nx,⟨nl,pl⟩,tl,jl,ql,⟨ef,el⟩,⟨af,al⟩⟩ (ids.take k)).sm):
 FC 21 [.agg [aA rd,aA nx,SL ns,SL ps,SL ts,SL js,SL qs,aA ef,SL es,aA af,SL bV],SL ir] [] (.ret (dM t (t _ fun _=>aW ⟨rd,nx,⟨nl,pl⟩,tl,jl,ql,⟨ef,el⟩,⟨af,al⟩⟩ ids))) []:=by
 obtain ⟨S,hS⟩:∃S:bE,S=⟨rd,nx,⟨nl,pl⟩,tl,jl,ql,⟨ef,el⟩,⟨af,al⟩⟩:=⟨_,rfl⟩
 rw [←hS] at hg ⊢
 have hT0:Told S rd nx ns ps ts js qs ef es af bV:=by rw [hS];exact ⟨rfl,rfl,eV,hps,hts,ek,dV,rfl,aB,rfl,has⟩
 clear hS
 refine bH ht (aF:=[]) Tryz.func21 rfl rfl (N:=22) rfl rfl (n:=0) rfl rfl ?_
 cbv
 have aX:ns.length=nl.length:=by rw [eV,lgM]
 have aZ:ps.length=pl.length:=by rw [hps,lgM]
 have bc:ts.length=tl.length:=by rw [hts,lgM]
 have aQ:js.length=jl.length:=by rw [ek,lgM]
 have aI:qs.length=ql.length:=by rw [dV,lgM]
 have ap:es.length=el.length:=by rw [aB,lgM]
 have aG:bV.length=al.length:=by rw [has,lgM]
 have xj:ir.length=ids.length:=by rw [U7,lgM]
 obtain ⟨J0,dR⟩:∃J0:Nat→Int×Int×Int×List (List D)×List (List D)×List (List D)×List (List D)×List (List D)×Int×List (List D)×Int×List (List D)→Prop,∀n i rd nx ns ps ts js qs ef es af bV,J0 n (i,rd,nx,ns,ps,ts,js,qs,ef,es,af,bV)↔(∃k:Nat,i=k∧k+n=ids.length∧Told (aW S (ids.take k)) rd nx ns ps ts js qs ef es af bV):=⟨fun n v=>match v with|(i,rd,nx,ns,ps,ts,js,qs,ef,es,af,bV)=>(∃k:Nat,i=k∧k+n=ids.length∧Told (aW S (ids.take k)) rd nx ns ps ts js qs ef es af bV),fun _ _ _ _ _ _ _ _ _ _ _ _ _=>Iff.rfl⟩
 refine bF ⟨[1,2,4,5],[],[]⟩ (σ:=Int×Int×Int×List (List D)×List (List D)×List (List D)×List (List D)×List (List D)×Int×List (List D)×Int×List (List D)) (fun v=>[(5,.d (.int .i64 (t _ fun _=>v.1)))]) (fun v=>[(0,.var [.d (.int .u64 (t _ fun _=>v.2.1)),.d (.int .u64 (t _ fun _=>v.2.2.1)),.d (.sl (t _ fun _=>v.2.2.2.1)),.d (.sl (t _ fun _=>v.2.2.2.2.1)),.d (.sl (t _ fun _=>v.2.2.2.2.2.1)),.d (.sl (t _ fun _=>v.2.2.2.2.2.2.1)),.d (.sl (t _ fun _=>v.2.2.2.2.2.2.2.1)),.d (.int .u64 (t _ fun _=>v.2.2.2.2.2.2.2.2.1)),.d (.sl (t _ fun _=>v.2.2.2.2.2.2.2.2.2.1)),.d (.int .u64 (t _ fun _=>v.2.2.2.2.2.2.2.2.2.2.1)),.d (.sl (t _ fun _=>v.2.2.2.2.2.2.2.2.2.2.2))])]) J0 ?_
 cbv
 refine aD ⟨ids.length,(_,_,_,_,_,_,_,_,_,_,_,_),(dR _ _ _ _ _ _ _ _ _ _ _ _ _).2 ?_,by simp only [ht];rfl,?_⟩
 ·exact ⟨0,rfl,by simp,hT0⟩
 rintro n ⟨i,rd,nx,ns,ps,ts,js,qs,ef,es,af,bV⟩ hj
 replace hj:=(dR _ _ _ _ _ _ _ _ _ _ _ _ _).1 hj
 obtain ⟨k,rfl,j1,jT⟩:=hj
 cbv
 refine an (fun h1=>?_) (fun h1=>?_)
 ·simp [ht,aa,aX,aZ,bc,aQ,aI,ap,aG,xj] at h1
  cbv
  refine pZ [1,2] [1,2,6,7,8] [false,false,false,false,false,true,true,false,false,true] (by kernel_rfl) (by kernel_rfl) (by kernel_rfl) (by kernel_rfl) (by kernel_rfl) (by kernel_rfl) ?_
  cbv
  iterate 3 refine gI (by simp [ht,ah]) ?_
  refine fP ht U7 (cT:=Int.aU t) (by (simp only [ht,aa];omega)) (by (simp only [ht,aa];omega)) (fun _=>rfl) (fun _=>rfl) (fun x2 fZ=>?_)
  simp [ht,aa] at fZ
  cbv
  refine gI (by simp [ht,ah]) ?_
  (have xk:=hg k;refine aE trv (zC ht _ _ _ _ (nl:=(aW S (ids.take k)).bg.nodes) (pl:=(aW S (ids.take k)).bg.places) (tl:=(aW S (ids.take k)).tree) (jl:=(aW S (ids.take k)).ay) (ql:=(aW S (ids.take k)).queue) (el:=(aW S (ids.take k)).ev.l) (al:=(aW S (ids.take k)).au.l) (by simp only [ht];exact jT.n) (by simp only [ht];exact jT.p) (by simp only [ht];exact jT.t) (by simp only [ht];exact jT.j) (by simp only [ht];exact jT.q) (by simp only [ht];exact jT.e) (by simp only [ht];exact jT.a) _ _ (ur xk) xk.tree.1 xk.ay.1 xk.places xk.queue xk.notes.1) (by simp [ht]) rfl rfl rfl (fun r1 dL=>?_);simp only [ht] at dL;rw [jT.eq] at dL)
  cbv
  iterate 2 refine gI (by simp [ht,ah]) ?_
  refine bQ (_,_,_,_,_,_,_,_,_,_,_,_) (by simp only [ht];rfl) (n-1) ?_ ((dR _ _ _ _ _ _ _ _ _ _ _ _ _).2 ?_)
  ·omega
  simp only [ht,aa]
  exact ⟨k+1,aC (by ((try simp only [aa] at*);omega)),by ((try simp only [aa] at*);omega),by rw [tj fZ,←dL];exact Told.self r1.1⟩
 simp [ht,aa,aX,aZ,bc,aQ,aI,ap,aG,xj] at h1
 cbv
 refine av trv trv rfl rfl rfl ?_
 (rw [List.take_of_length_le (by ((try simp only [aa] at*);omega))] at jT;simp only [ht,jT.r,jT.x,jT.n,jT.p,jT.t,jT.j,jT.q,jT.f,jT.e,jT.g,jT.a];done)
theorem B6 (ht:TT t) (s:bE) (h:s.good) (ids:List Int) (hil:ids.length<1000000):FC 21 [dM t s,SL (t _ fun _=>ids.map Int.cells)] [] (.ret (dM t (t _ fun _=>aW s ids))) []:=
 Le ht _ _ _ _ (by simp only [ht]) (by simp only [ht]) (by simp only [ht]) (by simp only [ht]) (by simp only [ht]) (by simp only [ht]) (by simp only [ht]) (by simp only [ht]) hil (fun k=>(lG h _).sm)
end Dem
end
