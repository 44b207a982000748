/- Parts of a proof, joined. -/
import Derived.Test.YtihohjnkkalgiaaGreatDoorV08
import Derived.Sort.LotA
set_option linter.all false
set_option maxRecDepth 100000
set_option maxHeartbeats 4000000
section
open Go
namespace Dem
theorem NW {name:aI} {ps:List Place} {v:bG} {l:List Node} {n:Node} (ha:Jv l) (hn:n∈l) (h:(cB n.name l ps).2=true):cB n.name l ps=left n.name ps (n.cap,true):=by
 have h2:=wV ha hn ps
 rw [gS ha hn] at h
 rw [h2,if_pos h]
theorem Mc {p:cA} (h:p.ok) (hw:p.w) {n:Node} (hn:n∈p.nodes) {k:Nat} (hk:k<4):(cB n.name p.nodes p.places).1.at_ k=((vk k n.cap-gA k (here n.name p.places):Nat):Int):=by
 have h1:=h.free n hn
 rw [gS h.wT hn] at h1
 rw [NW (name:=n.name) (v:=n.cap) h.wT hn (h.free n hn)]
 exact (n6 n.name p.places n.cap (hw.cap n hn)).2 h1 k hk
theorem Md {p:cA} (h:p.ok) (hw:p.w) {n:Node} (hn:n∈p.nodes) {k:Nat} (hk:k<4):vk k (cB n.name p.nodes p.places).1=vk k n.cap-gA k (here n.name p.places):=by
 unfold vk;rw [Mc h hw hn hk];rfl
theorem Rd {p:cA} (h:p.ok) (hw:p.w) {n:Node} (hn:n∈p.nodes):(cB n.name p.nodes p.places).1.w:=by
 intro k hk
 have h1:=Mc h hw hn hk
 have h2:=(JD (hw.cap n hn) hk).2
 rw [h1];omega
def iS (p:cA) (n:Node):bL:=⟨n.name,(cB n.name p.nodes p.places).1,n.labels⟩
theorem NY {p:cA} (h:p.ok):eT p=(p.nodes.filter (·.up)).map (iS p):=by
 have:∀r:List Node,(∀n∈r,n∈p.nodes)→r.filterMap (nZ p.nodes p.places)=(r.filter (·.up)).map (iS p):=by
  intro r
  induction r with
  |nil=>intro _;rfl
  |cons n r ih=>
   intro hr
   have h1:=h.free n (hr n (by simp))
   have h2:=ih fun m hm=>hr m (by simp [hm])
   rw [List.filterMap_cons,List.filter_cons]
   cases hu:n.up
   ·simp [nZ,hu,h2]
   simp [nZ,hu,h1,h2,iS]
 exact this p.nodes fun n hn=>hn
theorem kP {p:cA} (h:p.ok) (x:List Term):fitting (eT p) x=((p.nodes.filter (·.up)).filter fun n=>iL x n.labels).map (iS p):=by
 rw [NY h,fitting,List.filter_map];rfl
theorem Dy {p:cA} (h:p.ok) (hw:p.w) (x:List Term):∀s∈fitting (eT p) x,s.free.w:=by
 rw [kP h]
 intro s hs
 obtain ⟨n,hn,rfl⟩:=List.mem_map.1 hs
 exact Rd h hw (List.mem_filter.1 (List.mem_filter.1 hn).1).1
theorem Me {p:cA} (h:p.ok) (hw:p.w) {x:List Term} {v:bG} (hv:v.w) {c:Int} (hc:0≤c∧c≤8):(fit (eT p) x v c).2=true↔iy v (fitting (eT p) x) c.toNat:=by
 unfold fit
 rw [if_neg (by omega),Ia hv _ _ _ (Dy h hw x),show max c 0=c by omega]
theorem Re {p q:cA} (h:p.ok) (hw:p.w) (h':q.ok) (hw':q.w) (hn:q.nodes=p.nodes) (hu:∀n,∀k<4,gA k (here n q.places)≤gA k (here n p.places)) {x:List Term} {v:bG} (hv:v.w) {c:Int} (hc:0≤c∧c≤8)
 (e:(fit (eT p) x v c).2=true):(fit (eT q) x v c).2=true:=by
 rw [Me h hw hv hc] at e
 rw [Me h' hw' hv hc]
 rw [kP h] at e
 rw [kP h',hn]
 refine iy.mono (by simp) (fun i s s' a b k hk=>?_) e
 rw [List.getElem?_map] at a b
 cases hi:(List.filter (fun n=>iL x n.labels) (List.filter (·.up) p.nodes))[i]? with
 |none=>rw [hi] at a;cases a
 |some n=>
  rw [hi] at a b
  simp only [Option.map_some,osI] at a b
  subst a;subst b
  have hm:=(List.mem_filter.1 (List.mem_filter.1 (List.mem_of_getElem? hi)).1).1
  have h1:=Md h hw hm hk
  have h2:=Md h' hw' (n:=n) (by rw [hn];exact hm) hk
  have h3:=hu n.name k hk
  simp only [iS]
  rw [h1,h2];omega
theorem BF {s:aU} (h:s.ok) {p:aI} {v:bG}:(cY s.tree p v).2=0↔named p=true∧(∀q∈above p,∃e∈s.tree,e.path=q)∧∀e∈s.tree,e.path∈above p→∀k<4,gU k e.path s.av+vk k v≤vk k e.eX:=by
 have hz:∀e∈s.tree,(fM v e).2=0↔∀k<4,gU k e.path s.av+vk k v≤vk k e.eX:=by
  intro e he
  rw [oZ,n9]
  constructor
  ·rintro ⟨h1,h2⟩ k hk
   have h3:=mE.1 h2 k hk
   rw [oX (n9.2 h1) hk,h.used e he k hk] at h3
   exact h3
  intro h1
  have h2:∀k<4,vk k e.used+vk k v<18446744073709551616:=fun k hk=>by
   have a:=h1 k hk;have b:=(JD (h.tree.w e he).1 hk).2
   rw [h.used e he k hk];omega
  refine ⟨h2,mE.2 fun k hk=>?_⟩
  rw [oX (n9.2 h2) hk,h.used e he k hk]
  exact h1 k hk
 unfold cY
 rcases qH (fM v) h.tree.wT p with ⟨_,e2,e3⟩|⟨e,h1,h2,h3⟩
 ·refine ⟨fun g=>absurd g e2,fun ⟨g1,g2,g3⟩=>?_⟩
  rcases e3 with e3|⟨q,hq,e3⟩|⟨e,he,hp,e3⟩
  ·rw [g1] at e3;cases e3
  ·obtain ⟨e,he,hp⟩:=g2 q hq;exact absurd hp (e3 e he)
  exact absurd ((hz e he).2 (g3 e he hp)) e3
 rw [e]
 exact ⟨fun _=>⟨h1,h2,fun e he hp=>(hz e he).1 (h3 e he hp)⟩,fun _=>rfl⟩
structure Rf (s t:aU):Prop where
 nodes:t.aG.nodes=s.aG.nodes
 places:∀n,∀k<4,gA k (here n t.aG.places)≤gA k (here n s.aG.places)
 tree:bV s.tree t.tree
 less:∀p,∀k<4,gU k p t.av≤gU k p s.av
theorem Ib {s t:aU} (h:s.ok) (h':t.ok) (g:Rf s t) {p:aI} {v:bG} (e:(cY s.tree p v).2=0):(cY t.tree p v).2=0:=by
 rw [BF h] at e
 rw [BF h']
 obtain ⟨e1,e2,e3⟩:=e
 refine ⟨e1,fun q hq=>?_,fun x hx hp k hk=>?_⟩
 ·obtain ⟨e,he,hp⟩:=e2 q hq
  obtain ⟨x,hx,h1⟩:=g.tree.mem he
  exact ⟨x,hx,by rw [h1,hp]⟩
 obtain ⟨e,he,h1,h2⟩:=g.tree.back hx
 have a:=e3 e he (by rw [←h1];exact hp) k hk
 have b:=g.less x.path k hk
 rw [h2];rw [←h1] at a;omega
def Room (s:aU) (j:Jb):Prop:=(fit (eT s.aG) j.x.cg j.x.fY j.x.count).2=true∧(cY s.tree j.x.path j.tot).2=0
theorem Room.mono {s t:aU} (h:s.ok) (h':t.ok) (g:Rf s t) {j:Jb} (hc:eS j.x=0) (hv:j.x.fY.w) (r:Room s j):Room t j:=by
 have BX:=(cZ.1 hc).2.1
 exact ⟨Re h.aG h.gE h'.aG h'.gE g.nodes g.places hv (by omega) r.1,Ib h h' g r.2⟩
theorem Dz {s:aU} (h:s.ok) {i:Nat} {j:Jb} (hj:s.av[i]?=some j) (hr:j.runs=false):(fo s j.id).2=true↔Room s j:=by
 obtain ⟨_,_,h1⟩:=dP h.ids hj
 have h2:=(cZ.1 (h.pG j (List.mem_of_getElem? hj)).1).2.2.2.2.2
 unfold fo gV eG
 rw [h1]
 simp only [hr,h2,Bool.not_false,Bool.and_true,Bool.not_true,Bool.false_or,Room]
 cases h3:(fit (eT s.aG) j.x.cg j.x.fY j.x.count).2<;>by_cases h4:(cY s.tree j.x.path (cV j.x).1).2=0<;>simp [h4]
theorem Rg {s:aU} {id:Int} (h:(eG s id).2=false):fo s id=([],false):=by
 unfold fo gV;rw [h];rfl
def bY (l:List Int) (j:Jb):Jb:=if j.runs=true∧j.id∈l then j.halted else j
theorem bB (l:List Int) (j:Jb):(bY l j).id=j.id∧(bY l j).x=j.x:=by unfold bY;split<;>exact ⟨rfl,rfl⟩
theorem c5 (l:List Int) (j:Jb):(bY l j).runs=true↔j.runs=true∧j.id ∉ l:=by
 unfold bY
 split
 ·rename_i h;simp [h.2]
 rename_i h;exact ⟨fun g=>⟨g,fun m=>h ⟨g,m⟩⟩,fun g=>g.1⟩
theorem KF (l m:List Int) (j:Jb):bY m (bY l j)=bY (l++m) j:=by
 unfold bY
 by_cases h1:j.runs=true∧j.id∈l
 ·rw [if_pos h1,if_neg (by simp),if_pos ⟨h1.1,by simp [h1.2]⟩]
 rw [if_neg h1]
 by_cases h2:j.runs=true∧j.id∈m
 ·rw [if_pos h2,if_pos ⟨h2.1,by simp [h2.2]⟩]
 rw [if_neg h2,if_neg (by rintro ⟨a,b⟩;rcases List.mem_append.1 b with b|b;exact h1 ⟨a,b⟩;exact h2 ⟨a,b⟩)]
structure iz (s:aU) (l:List Int) (t:aU):Prop where
 ok:t.ok
 av:t.av=s.av.map (bY l)
 nodes:t.aG.nodes=s.aG.nodes
 places:t.aG.places=s.aG.places.filter fun x=>!decide (x.bz∈l)
 tree:bV s.tree t.tree
theorem iz.nil {s:aU} (h:s.ok):iz s [] s where
 ok:=h
 av:=by rw [show bY []=id from funext fun j=>by simp [bY],List.map_id]
 nodes:=rfl
 places:=(List.filter_eq_self.2 fun x _=>by simp).symm
 tree:=bV.refl _
theorem iz.app {s t u:aU} {l m:List Int} (h:iz s l t) (g:iz t m u):iz s (l++m) u where
 ok:=g.ok
 av:=by rw [g.av,h.av,List.map_map];exact List.map_congr_left fun j _=>KF l m j
 nodes:=by rw [g.nodes,h.nodes]
 places:=by
  rw [g.places,h.places,List.filter_filter]
  refine List.filter_congr fun x _=>?_
  by_cases h1:x.bz∈l<;>by_cases h2:x.bz∈m<;>simp [h1,h2]
 tree:=h.tree.trans g.tree
theorem DA {s:aU} (h:s.ok) {id:Int} (hn:∀j∈s.av,j.id=id→j.runs=false):iz s [id] s where
 ok:=h
 av:=by
  conv=>lhs;rw [←List.map_id s.av]
  refine List.map_congr_left fun j hj=>?_
  unfold bY
  rw [if_neg]
  ·rfl
  rintro ⟨a,b⟩
  rw [hn j hj (by simpa using b)] at a;cases a
 nodes:=rfl
 places:=by
  refine (List.filter_eq_self.2 fun x hx=>?_).symm
  obtain ⟨j,hj,hr,he,_⟩:=h.places x hx
  simp only [List.mem_singleton,Bool.not_eq_true',decide_eq_false_iff_not]
  intro e
  rw [hn j hj (by rw [he,e])] at hr;cases hr
 tree:=bV.refl _
theorem NZ {s:aU} (h:s.ok) (id kind:Int):iz s [id] (gC s id kind).1:=by
 cases hf:s.av.findIdx? (fun j=>decide (j.id=id)) with
 |none=>
  have e:(gC s id kind).1=s:=by unfold gC;rw [hf]
  rw [e]
  rw [List.findIdx?_eq_none_iff] at hf
  exact DA h fun j hj he=>by have:=hf j hj;simp [he] at this
 |some i=>
  obtain ⟨j,hj,he,hd⟩:=nJ hf
  subst he
  cases hr:j.runs with
  |false=>
   have e:(gC s j.id kind).1=s:=by unfold gC;rw [hf];simp only;rw [hd,hr];rfl
   rw [e]
   exact DA h fun x hx RG=>by rw [cm h.ids hx (List.mem_of_getElem? hj) RG,hr]
  |true=>
   obtain ⟨T,Q,h1,h2⟩:=Bk h hj hr kind
   have hok:=h.stop j.id kind
   rw [h2] at hok ⊢
   refine ⟨hok,?_,rfl,?_,h1⟩
   ·show s.av.set i j.halted=_
    refine List.ext_getElem? fun k=>?_
    rw [List.getElem?_map,List.getElem?_set]
    by_cases e:i=k
    ·subst e
     rw [if_pos rfl,hj,if_pos (List.getElem?_eq_some_iff.1 hj).1]
     simp [bY,hr]
    rw [if_neg e]
    cases hk:s.av[k]? with
    |none=>rfl
    |some x=>
     have:x.id≠j.id:=fun c=>e (vG h.ids hj hk c.symm)
     simp [bY,this]
   show (qE s.aG j.id).places=_
   simp [qE]
theorem cP {s:aU} (h:s.ok):∀l:List Int,iz s l (aH s l):=by
 intro l
 induction l generalizing s with
 |nil=>exact iz.nil h
 |cons id l ih=>
  have h1:=NZ h id 5
  exact h1.app (ih h1.ok)
theorem bV.Wm {s t u:List bc} (h:bV s t) (g:bV s u):bV t u where
 len:=by rw [g.len,h.len]
 at_:=by
  intro i e hi
  have hl:=(List.getElem?_eq_some_iff.1 hi).1
  rw [h.len] at hl
  obtain ⟨x,h1,h2,h3⟩:=h.at_ i s[i] (List.getElem?_eq_getElem hl)
  obtain ⟨y,g1,g2,g3⟩:=g.at_ i s[i] (List.getElem?_eq_getElem hl)
  rw [hi] at h1;cases h1
  exact ⟨y,g1,by rw [g2,h2],by rw [g3,h3]⟩
theorem ph {α:Type} {p q:α→Bool} (h:∀x,p x=true→q x=true):∀l:List α,(l.filter p).Sublist (l.filter q)
 |[]=>List.Sublist.slnil
 |x::r=>by
  rw [List.filter_cons,List.filter_cons]
  cases hp:p x
  ·cases hq:q x
   ·simpa using ph h r
   simpa using (ph h r).cons x
  rw [h x hp]
  simpa using (ph h r).cons_cons x
theorem iz.YM {s t u:aU} {l m:List Int} (h:iz s l t) (g:iz s m u) (hl:∀x∈l,x∈m):Rf t u where
 nodes:=by rw [h.nodes,g.nodes]
 places:=by
  intro n k hk
  rw [h.places,g.places]
  refine AO ?_
  unfold here
  refine List.Sublist.filter _ (ph (fun x hx=>?_) _)
  simp only [Bool.not_eq_true',decide_eq_false_iff_not] at*
  exact fun c=>hx (hl _ c)
 tree:=h.tree.Wm g.tree
 less:=by
  intro p k hk
  rw [h.av,g.av]
  have:∀r:List Jb,gU k p (r.map (bY m))≤gU k p (r.map (bY l)):=by
   intro r
   induction r with
   |nil=>exact Nat.le_refl _
   |cons j r ih=>
    rw [List.map_cons,List.map_cons,gz,gz]
    refine Nat.add_le_add ?_ ih
    unfold fR
    by_cases c:(bY m j).runs=true∧p∈above (bY m j).x.path
    ·obtain ⟨c1,c2⟩:=c
     rw [c5] at c1
     have d1:(bY l j).runs=true:=(c5 l j).2 ⟨c1.1,fun c=>c1.2 (hl _ c)⟩
     have e1:(bY l j).x=(bY m j).x:=by rw [(bB l j).2,(bB m j).2]
     rw [if_pos ⟨(c5 m j).2 c1,c2⟩,if_pos ⟨d1,by rw [e1];exact c2⟩]
     unfold Jb.tot;rw [e1];exact Nat.le_refl _
    rw [if_neg c];exact Nat.zero_le _
  exact this s.av
theorem iz.fits {s t:aU} {l:List Int} (g:iz s l t) {i:Nat} {j:Jb} (hj:s.av[i]?=some j) (hr:j.runs=false):(fo t j.id).2=true↔Room t j:=by
 refine Dz g.ok (i:=i) ?_ hr
 rw [g.av,List.getElem?_map,hj]
 simp [bY,hr]
theorem Ic {s:aU} (h:s.ok) {i:Nat} {j:Jb} (hj:s.av[i]?=some j) (hr:j.runs=false) {l m:List Int} (hl:∀x∈l,x∈m) (e:(gi s j.id l).2=true):(gi s j.id m).2=true:=by
 have h1:=cP h l
 have h2:=cP h m
 have hc:=h.pG j (List.mem_of_getElem? hj)
 unfold gi at*
 rw [h1.fits hj hr] at e
 rw [h2.fits hj hr]
 exact Room.mono h1.ok h2.ok (h1.YM h2 hl) hc.1 hc.2.1 e
end Dem
end
section
open Go
namespace Dem
section
variable {s:aU} {id:Int}
theorem yK (all:List Int):∀n k:Nat,(match kX s id all n k with|none=>∀m,k≤m→m<k+n→(gi s id (all.take m)).2=false|some (l,nodes)=>∃m,k≤m∧m<k+n∧l=all.take m∧gi s id l=(nodes,true)∧∀m',k≤m'→m'<m→(gi s id (all.take m')).2=false)
 |0,k=>by simp only [kX];intro m h1 h2;omega
 |n+1,k=>by
  simp only [kX]
  by_cases c:(gi s id (all.take k)).2=true
  ·rw [if_pos c]
   exact ⟨k,Nat.le_refl _,by omega,rfl,by rw [←c],fun m' h1 h2=>by omega⟩
  rw [if_neg c]
  have ih:=yK all n (k+1)
  cases h:kX s id all n (k+1) with
  |none=>
   rw [h] at ih
   intro m h1 h2
   by_cases e:m=k
   ·subst e;simpa using c
   exact ih m (by omega) (by omega)
  |some x=>
   obtain ⟨l,nodes⟩:=x
   rw [h] at ih
   obtain ⟨m,h1,h2,h3,h4,h5⟩:=ih
   refine ⟨m,by omega,by omega,h3,h4,fun m' g1 g2=>?_⟩
   by_cases e:m'=k
   ·subst e;simpa using c
   exact h5 m' (by omega) g2
theorem N0 {l:List Int} {i k:Nat} (h:i<k):∀x∈(l.eraseIdx k).eraseIdx i,x∈l.eraseIdx i:=by
 intro x hx
 rw [List.mem_eraseIdx_iff_getElem?] at hx ⊢
 obtain ⟨a,ha,e⟩:=hx
 rw [List.getElem?_eraseIdx] at e
 split at e
 ·exact ⟨a,ha,e⟩
 exact ⟨a+1,by omega,e⟩
theorem qW (hm:∀l m:List Int,(∀x∈l,x∈m)→(gi s id l).2=true→(gi s id m).2=true):∀(n k:Nat) (l:List Int) (nodes:List aI),l.length≤k+n→gi s id l=(nodes,true)→
 (∀i,i<k→i<l.length→(gi s id (l.eraseIdx i)).2=false)→
 gi s id (gu s id n k l nodes).1=((gu s id n k l nodes).2,true)∧(gu s id n k l nodes).1.Sublist l∧∀i<(gu s id n k l nodes).1.length,(gi s id ((gu s id n k l nodes).1.eraseIdx i)).2=false
 |0,k,l,nodes,hl,he,hn=>by
  simp only [gu]
  exact ⟨he,List.Sublist.refl _,fun i hi=>hn i (by omega) hi⟩
 |n+1,k,l,nodes,hl,he,hn=>by
  simp only [gu]
  by_cases c:k<l.length
  ·rw [if_pos c]
   by_cases d:(gi s id (l.eraseIdx k)).2=true
   ·rw [if_pos d]
    have e:gi s id (l.eraseIdx k)=((gi s id (l.eraseIdx k)).1,true):=by rw [←d]
    have g:=qW hm n k (l.eraseIdx k) _ (by rw [List.length_eraseIdx,if_pos c];omega) e (fun i hi hi2=>by
     cases q:(gi s id ((l.eraseIdx k).eraseIdx i)).2 with
     |false=>rfl
     |true=>
      have:=hm _ _ (N0 hi) q
      rw [hn i hi (by omega)] at this;cases this)
    exact ⟨g.1,g.2.1.trans (List.eraseIdx_sublist _ _),g.2.2⟩
   rw [if_neg d]
   refine qW hm n (k+1) l nodes (by omega) he fun i hi hi2=>?_
   by_cases e:i=k
   ·subst e;simpa using d
   exact hn i (by omega) hi2
  rw [if_neg c]
  exact ⟨he,List.Sublist.refl _,fun i hi=>hn i (by have:i<l.length:=hi;omega) hi⟩
theorem sV (hm:∀l m:List Int,(∀x∈l,x∈m)→(gi s id l).2=true→(gi s id m).2=true):
 ((aA s id).2.2=false∧(aA s id).1=[]∧(aA s id).2.1=[]∧(gi s id (bX s id)).2=false)∨
 ((
  aA s id).2.2=true∧gi s id (aA s id).1=((aA s id).2.1,true)∧(∀x∈(aA s id).1,x∈bX s id)∧(aA s id).1.Sublist (bX s id)∧(gi s id (bX s id)).2=true∧
  ((gi s id []).2=true→(aA s id).1=[])∧∀i<(aA s id).1.length,(gi s id ((aA s id).1.eraseIdx i)).2=false):=by
 have h:=yK (s:=s) (id:=id) (bX s id) ((bX s id).length+1) 0
 unfold aA
 cases e:kX s id (bX s id) ((bX s id).length+1) 0 with
 |none=>
  rw [e] at h
  refine .inl ⟨rfl,rfl,rfl,?_⟩
  have:=h (bX s id).length (Nat.zero_le _) (by omega)
  rwa [List.take_length] at this
 |some x=>
  obtain ⟨l,nodes⟩:=x
  rw [e] at h
  obtain ⟨m,_,h2,rfl,h4,h5⟩:=h
  obtain ⟨g1,g2,g3⟩:=qW hm (((bX s id).take m).length+1) 0 ((bX s id).take m) nodes (by omega) h4 (fun i hi=>by omega)
  refine .inr ⟨rfl,g1,fun x hx=>List.mem_of_mem_take (g2.subset hx),g2.trans (List.take_sublist _ _),hm _ _ (fun x hx=>List.mem_of_mem_take hx) (by rw [h4]),fun hz=>?_,g3⟩
  have:m=0:=by
   cases m with
   |zero=>rfl
   |succ m=>have:=h5 0 (Nat.le_refl _) (by omega);rw [List.take_zero] at this;rw [hz] at this;cases this
  subst this
  exact List.eq_nil_of_length_eq_zero (by have:=g2.length_le;simp only [List.take_zero,List.length_nil] at this ⊢;omega)
end
theorem E4 {s:aU} (h:s.ok) {id:Int} (hn:∀j∈s.av,j.id≠id) (l:List Int):gi s id l=([],false):=by
 have g:=cP h l
 refine Rg ?_
 have:(bD (aH s l).av id).2=false:=by
  rw [g.av]
  unfold bD
  cases e:(s.av.map (bY l)).find? (fun j=>decide (j.id=id)) with
  |none=>rfl
  |some x=>
   have h1:=List.mem_of_find?_eq_some e
   have h2:=List.find?_some e
   obtain ⟨j,hj,rfl⟩:=List.mem_map.1 h1
   rw [decide_eq_true_eq,(bB l j).1] at h2
   exact absurd h2 (hn j hj)
 unfold eG;rw [this];rfl
theorem Ie {s:aU} (h:s.ok) {id:Int} (hw:(∃j∈s.av,j.id=id∧j.runs=false)∨∀j∈s.av,j.id≠id):
 ∀l m:List Int,(∀x∈l,x∈m)→(gi s id l).2=true→(gi s id m).2=true:=by
 intro l m hl e
 rcases hw with ⟨j,hj,rfl,hr⟩|hn
 ·obtain ⟨i,hi⟩:=List.getElem?_of_mem hj
  exact Ic h hi hr hl e
 rw [E4 h hn] at e;cases e
end Dem
end
section
open Go
namespace Dem
theorem xD (k:Nat) (p:aI):∀l:List Jb,(∀j∈l,j.runs=false)→gU k p l=0
 |[],_=>rfl
 |j::r,h=>by
  rw [gz,xD k p r fun x hx=>h x (by simp [hx])]
  unfold fR;rw [if_neg (by rw [h j (by simp)];simp)]
theorem iz.bare {s t:aU} {l:List Int} (h:s.ok) (g:iz s l t) (hl:∀j∈s.av,j.runs=true→j.id∈l):t.aG=⟨s.aG.nodes,[]⟩∧t.tree=ol s.tree:=by
 have hr:∀j∈t.av,j.runs=false:=by
  rw [g.av]
  intro x hx
  obtain ⟨j,hj,rfl⟩:=List.mem_map.1 hx
  cases e:(bY l j).runs with
  |false=>rfl
  |true=>rw [c5] at e;exact absurd (hl j hj e.1) e.2
 constructor
 ·have h1:=g.nodes
  have h2:t.aG.places=[]:=by
   rw [g.places,List.filter_eq_nil_iff]
   intro x hx
   obtain ⟨j,hj,hr,he,_⟩:=h.places x hx
   simp only [Bool.not_eq_true',decide_eq_false_iff_not,Classical.not_not]
   rw [←he];exact hl j hj hr
  cases hp:t.aG with
  |mk a b=>rw [hp] at h1 h2;simp only at h1 h2;rw [h1,h2]
 refine List.ext_getElem? fun i=>?_
 unfold ol
 rw [List.getElem?_map]
 cases hi:s.tree[i]? with
 |none=>rw [List.getElem?_eq_none_iff] at hi;rw [List.getElem?_eq_none_iff.2 (by rw [g.tree.len];exact hi)];rfl
 |some e=>
  obtain ⟨x,h1,h2,h3⟩:=g.tree.at_ i e hi
  rw [h1,Option.map_some]
  have hx:=List.mem_of_getElem? h1
  have hu:x.used=bG.zero:=P0 (g.ok.tree.w x hx).2 wW fun k hk=>by rw [g.ok.used x hx k hk,xD k _ _ hr,nj]
  cases x;cases e;simp_all
theorem N1 {s t:aU} {l:List Int} (h:s.ok) (g:iz s l t) (hl:∀j∈s.av,j.runs=true→j.id∈l) {i:Nat} {j:Jb} (hj:s.av[i]?=some j) (hr:j.runs=false):cO s j.id=true↔Room t j:=by
 obtain ⟨_,_,h1⟩:=dP h.ids hj
 have h2:=(cZ.1 (h.pG j (List.mem_of_getElem? hj)).1).2.2.2.2.2
 obtain ⟨b1,b2⟩:=g.bare h hl
 unfold cO gV eG qO
 rw [h1]
 unfold Room
 rw [b1,b2]
 simp only [hr,h2,Bool.not_false,Bool.and_true,Bool.not_true,Bool.false_or]
 cases h3:(fit (eT ⟨s.aG.nodes,[]⟩) j.x.cg j.x.fY j.x.count).2<;>by_cases h4:(cY (ol s.tree) j.x.path (cV j.x).1).2=0<;>simp [h4]
theorem Rh {s:aU} (h:s.ok) {i:Nat} {j:Jb} (hj:s.av[i]?=some j) (hr:j.runs=false) {l:List Int} (e:(gi s j.id l).2=true):cO s j.id=true:=by
 have g:=cP h (s.av.map (·.id))
 rw [N1 h g (fun x hx _=>List.mem_map_of_mem hx) hj hr]
 have g1:=cP h l
 have hc:=h.pG j (List.mem_of_getElem? hj)
 have g2:=cP h (l++s.av.map (·.id))
 have r:=Ic h hj hr (m:=l++s.av.map (·.id)) (fun x hx=>by simp [hx]) e
 unfold gi at r
 rw [g2.fits hj hr] at r
 refine Room.mono g2.ok g.ok ?_ hc.1 hc.2.1 r
 have b:=g.bare h (fun x hx _=>List.mem_map_of_mem hx)
 have b2:=g2.bare h (fun x hx _=>by simp [List.mem_map_of_mem (f:=fun j:Jb=>j.id) hx])
 refine ⟨by rw [b.1,b2.1],fun n k hk=>by rw [b.1,b2.1];exact Nat.le_refl _,by rw [b.2,b2.2];exact bV.refl _,fun p k hk=>?_⟩
 have:∀{L:List Int} {t:aU},iz s L t→(∀x∈s.av,x.runs=true→x.id∈L)→gU k p t.av=0:=by
  intro L t g hl
  refine xD k p _ ?_
  rw [g.av]
  intro x hx
  obtain ⟨j,hj,rfl⟩:=List.mem_map.1 hx
  cases e:(bY L j).runs with
  |false=>rfl
  |true=>rw [c5] at e;exact absurd (hl j hj e.1) e.2
 rw [this g (fun x hx _=>List.mem_map_of_mem hx)];exact Nat.zero_le _
theorem KG {s:aU} (h:s.ok) {id:Int} (hw:(∃j∈s.av,j.id=id∧j.runs=false)∨∀j∈s.av,j.id≠id):
 (aA s id).2.2=((gi s id (bX s id)).2||(fo s id).2)∧((fo s id).2=true→(aA s id).1=[])∧((aA s id).2.2=true→cO s id=true):=by
 have hm:=Ie h hw
 have h0:(fo s id).2=true→(gi s id (bX s id)).2=true:=fun e=>hm [] _ (fun x hx=>by cases hx) e
 rcases sV hm with ⟨h1,h2,_,h4⟩|⟨h1,h2,_,_,h5,h6,_⟩
 ·refine ⟨?_,fun _=>h2,fun e=>by rw [h1] at e;cases e⟩
  rw [h1,h4]
  cases e:(fo s id).2 with
  |false=>rfl
  |true=>rw [h0 e] at h4;cases h4
 refine ⟨by rw [h1,h5];rfl,h6,fun _=>?_⟩
 rcases hw with ⟨j,hj,rfl,hr⟩|hn
 ·obtain ⟨i,hi⟩:=List.getElem?_of_mem hj
  exact Rh h hi hr (by rw [h2])
 rw [E4 h hn] at h5;cases h5
def jM (s:aU) (p:Int):List Jb:=(s.av.filter fun o=>o.runs&&decide (o.x.prio<p)).mergeSort fq
theorem N2 {s:aU} {id:Int} {j:Jb} (h:bD s.av id=(j,true)):bX s id=(jM s j.x.prio).map (·.id):=by
 unfold bX jM;rw [h];rfl
theorem BG {s:aU} {p:Int} {o:Jb}:o∈jM s p↔o∈s.av∧o.runs=true∧o.x.prio<p:=by
 unfold jM
 rw [(List.mergeSort_perm _ _).mem_iff,List.mem_filter]
 simp
theorem KH (s:aU) (p:Int):(jM s p).length=(s.av.filter fun o=>o.runs&&decide (o.x.prio<p)).length:=(List.mergeSort_perm _ _).length_eq
theorem KI {s:aU} (h:s.ok) (p:Int):(jM s p).Pairwise fun a b=>a.x.prio<b.x.prio∨(a.x.prio=b.x.prio∧b.id<a.id):=by
 have h1:(jM s p).Pairwise fun a b=>fq a b=true:=by
  refine List.pairwise_mergeSort ?_ ?_ _
  ·intro a b c;simp only [fq,Bool.or_eq_true,Bool.and_eq_true,decide_eq_true_eq];omega
  intro a b;simp only [fq,Bool.or_eq_true,Bool.and_eq_true,decide_eq_true_eq];omega
 have h2:(jM s p).Pairwise fun a b=>a.id≠b.id:=by
  have:(s.av.filter fun o=>o.runs&&decide (o.x.prio<p)).Pairwise fun a b=>a.id≠b.id:=(h.ids.filter _).imp fun {a b} g=>by omega
  exact (List.mergeSort_perm _ _).symm.pairwise this fun {a b} g=>Ne.symm g
 refine (h1.and h2).imp fun {a b} g=>?_
 obtain ⟨g1,g2⟩:=g
 simp only [fq,Bool.or_eq_true,Bool.and_eq_true,decide_eq_true_eq] at g1
 omega
theorem N3 {s:aU} (h:s.ok) {p:Int} {i:Nat} {a b:Jb} (ha:(jM s p)[i]?=some a) (hb:(jM s p)[i+1]?=some b):a.x.prio<b.x.prio∨(a.x.prio=b.x.prio∧b.id<a.id):=by
 obtain ⟨h1,rfl⟩:=List.getElem?_eq_some_iff.1 ha
 obtain ⟨h2,rfl⟩:=List.getElem?_eq_some_iff.1 hb
 exact List.pairwise_iff_getElem.1 (KI h p) i (i+1) h1 h2 (by omega)
theorem nv {s:aU} (h:s.ok) {id:Int} {j:Jb} (hj:bD s.av id=(j,true)):
 (bX s id).length=(s.av.filter fun o=>o.runs&&decide (o.x.prio<j.x.prio)).length∧
 (∀(i:Nat) (x:Int),(bX s id)[i]?=some x→∃o∈s.av,o.id=x∧bD s.av x=(o,true)∧o.runs=true∧o.x.prio<j.x.prio)∧
 ∀(i:Nat) (x y:Int),(bX s id)[i]?=some x→(bX s id)[i+1]?=some y→
  (bD s.av x).1.x.prio<(bD s.av y).1.x.prio∨((bD s.av x).1.x.prio=(bD s.av y).1.x.prio∧(bD s.av y).1.id<(bD s.av x).1.id):=by
 rw [N2 hj]
 have hf:∀o∈jM s j.x.prio,bD s.av o.id=(o,true):=fun o ho=>by
  obtain ⟨i,hi⟩:=List.getElem?_of_mem (BG.1 ho).1
  exact (dP h.ids hi).2.2
 refine ⟨by rw [lgM,KH],fun i x hx=>?_,fun i x y hx hy=>?_⟩
 ·rw [List.getElem?_map] at hx
  cases e:(jM s j.x.prio)[i]? with
  |none=>rw [e] at hx;cases hx
  |some o=>
   rw [e] at hx
   simp only [Option.map_some,osI] at hx
   have ho:=List.mem_of_getElem? e
   obtain ⟨g1,g2,g3⟩:=BG.1 ho
   exact ⟨o,g1,hx,by rw [←hx];exact hf o ho,g2,g3⟩
 rw [List.getElem?_map] at hx hy
 cases e:(jM s j.x.prio)[i]? with
 |none=>rw [e] at hx;cases hx
 |some a=>
  cases f:(jM s j.x.prio)[i+1]? with
  |none=>rw [f] at hy;cases hy
  |some b=>
   rw [e] at hx;rw [f] at hy
   simp only [Option.map_some,osI] at hx hy
   subst hx;subst hy
   rw [hf a (List.mem_of_getElem? e),hf b (List.mem_of_getElem? f)]
   exact N3 h e f
theorem iT {s:aU} (h:s.ok) {id:Int} (hw:(∃j∈s.av,j.id=id∧j.runs=false)∨∀j∈s.av,j.id≠id):
 ((aA s id).2.2=false→(aA s id).1=[]∧(aA s id).2.1=[])∧
 ((
  aA s id).2.2=true→fo (aH s (aA s id).1) id=((aA s id).2.1,true)∧(∀x∈(aA s id).1,x∈bX s id)∧
  ∀i<(aA s id).1.length,(fo (aH s ((aA s id).1.eraseIdx i)) id).2=false):=by
 rcases sV (Ie h hw) with ⟨h1,h2,h3,_⟩|⟨h1,h2,h3,_,_,_,h7⟩
 ·exact ⟨fun _=>⟨h2,h3⟩,fun e=>(show False by rw [h1] at e;exact Bool.noConfusion e).elim⟩
 exact ⟨fun e=>(show False by rw [h1] at e;exact Bool.noConfusion e).elim,fun _=>⟨h2,h3,h7⟩⟩
theorem BH {name:aI} {l:List Node} {ps:List Place} (h:(cB name l ps).2=true) (x:Place):
 cB name l (ps++[x])=if (cH name (cB name l ps) x).2 then cH name (cB name l ps) x else (bG.zero,false):=by
 unfold cB at h ⊢
 simp only at h ⊢
 rw [List.foldl_append]
 split at h
 ·rename_i g;rw [if_pos g];rfl
 cases h
theorem Ig {name:aI} {l:List Node} {ps:List Place} (h:(cB name l ps).2=true) {x:Place} (hx:x.node≠name):cB name l (ps++[x])=cB name l ps:=by
 rw [BH h]
 have:cH name (cB name l ps) x=cB name l ps:=by unfold cH;rw [if_neg (by simp [hx])]
 rw [this,if_pos h]
theorem KJ {name:aI} {l:List Node} {ps:List Place} (h:(cB name l ps).2=true) {bz:Int} {v:bG} (hv:(dO (cB name l ps).1 v).2=true):cB name l (ps++[⟨bz,name,v⟩])=dO (cB name l ps).1 v:=by
 rw [BH h]
 have:cH name (cB name l ps) ⟨bz,name,v⟩=dO (cB name l ps).1 v:=by unfold cH;rw [if_pos (by simp [h])]
 rw [this,if_pos hv]
theorem Ih {l:List Node} {v:bG} (hv:v.w) (bz:Int) (F:Node→Bool):∀(n:Nat) (ps:List Place) (out:List aI),cA.ok ⟨l,ps⟩→cA.w ⟨l,ps⟩→
 (mS v n (((l.filter (·.up)).filter F).map (iS ⟨l,ps⟩)) out).2=true→
 ∃new,(mS v n (((l.filter (·.up)).filter F).map (iS ⟨l,ps⟩)) out).1=out++new∧new.length=n∧(fB l bz v new ps).1=none
 |0,ps,out,_,_,_=>⟨[],by simp [mS],rfl,rfl⟩
 |n+1,ps,out,h,hw,e=>by
  have hN:∀m∈(l.filter (·.up)).filter F,m∈l∧m.up=true:=fun m hm=>List.mem_filter.1 (List.mem_filter.1 hm).1
  have hLw:∀s∈((l.filter (·.up)).filter F).map (iS ⟨l,ps⟩),s.free.w:=by
   intro s hs
   obtain ⟨m,hm,rfl⟩:=List.mem_map.1 hs
   exact Rd h hw (hN m hm).1
  simp only [mS] at e ⊢
  cases hb:(best (((l.filter (·.up)).filter F).map (iS ⟨l,ps⟩)) v).ok with
  |false=>rw [hb] at e;exact (show False from Bool.noConfusion e).elim
  |true=>
   rw [hb] at e
   obtain ⟨s,h1,h2,h3⟩:=BE hv hLw hb
   rw [show (!true)=false from rfl,if_neg (by decide)] at e ⊢
   generalize (best (((l.filter (·.up)).filter F).map (iS ⟨l,ps⟩)) v).at_=i at h1 e ⊢
   generalize (best (((l.filter (·.up)).filter F).map (iS ⟨l,ps⟩)) v).left=u at h3 e ⊢
   subst h3
   have hd:(((l.filter (·.up)).filter F).map (iS ⟨l,ps⟩)).getD i default=s:=by rw [List.getD_eq_getElem?_getD,h1];rfl
   rw [hd] at e ⊢
   rw [List.getElem?_map] at h1
   cases hi:((l.filter (·.up)).filter F)[i]? with
   |none=>rw [hi] at h1;cases h1
   |some m=>
    rw [hi] at h1
    simp only [Option.map_some,osI] at h1
    subst h1
    have hm:=hN m (List.mem_of_getElem? hi)
    have hf:=h.free m hm.1
    have YN:=(h.wT.filter (·.up)).filter F
    have Qo:(((l.filter (·.up)).filter F).map (iS ⟨l,ps⟩)).set i {iS ⟨l,ps⟩ m with free:=(dO (iS ⟨l,ps⟩ m).free v).1}=((l.filter (·.up)).filter F).map (iS ⟨l,ps++[⟨bz,m.name,v⟩]⟩):=by
     refine List.ext_getElem? fun k=>?_
     rw [List.getElem?_set,List.getElem?_map,List.getElem?_map,lgM]
     by_cases c:i=k
     ·subst c
      rw [if_pos rfl,if_pos (List.getElem?_eq_some_iff.1 hi).1,hi]
      simp only [Option.map_some,iS]
      rw [KJ hf h2]
     rw [if_neg c]
     cases hk:((l.filter (·.up)).filter F)[k]? with
     |none=>rfl
     |some m'=>
      have hne:m.name≠m'.name:=by
       intro g
       obtain ⟨a1,a2⟩:=List.getElem?_eq_some_iff.1 hi
       obtain ⟨b1,b2⟩:=List.getElem?_eq_some_iff.1 hk
       rcases Nat.lt_or_gt_of_ne c with d|d
       ·have:=List.pairwise_iff_getElem.1 YN i k a1 b1 d
        rw [a2,b2,g] at this;exact absurd this (List.lt_irrefl _)
       have:=List.pairwise_iff_getElem.1 YN k i b1 a1 d
       rw [a2,b2,g] at this;exact absurd this (List.lt_irrefl _)
      simp only [Option.map_some,iS]
      rw [Ig (h.free m' (hN m' (List.mem_of_getElem? hk)).1) (x:=⟨bz,m.name,v⟩) hne]
    rw [Qo] at e ⊢
    have TP:m8 m.name v l ps=0:=by
     unfold m8
     rw [wU h.wT hm.1,hf]
     simp only [hm.2,Bool.not_true,Bool.false_or,Bool.false_eq_true,if_false]
     rw [show lg v (cB m.name l ps).1=true from h2]
     rfl
    obtain ⟨k1,k2⟩:=LF h hw hv bz TP
    obtain ⟨new,g1,g2,g3⟩:=Ih hv bz F n _ _ k1 k2 e
    refine ⟨m.name::new,by rw [g1];simp [iS],by simp [g2],?_⟩
    unfold fB
    rw [if_neg (by simp [TP])]
    exact g3
theorem BI {s:aU} (h:s.ok) {i:Nat} {j:Jb} (hj:s.av[i]?=some j) (hr:j.runs=false) {nodes:List aI} (e:fo s j.id=(nodes,true)):(bS s j.id nodes).2=0:=by
 have hroom:=(Dz h hj hr).1 (by rw [e])
 obtain ⟨r1,r2⟩:=hroom
 have hm:=List.mem_of_getElem? hj
 have hc:=h.pG j hm
 have hz:=cZ.1 hc.1
 have So:=hz.2.1
 obtain ⟨k1,k2,k3⟩:=dP h.ids hj
 have hfit:nodes=(fit (eT s.aG) j.x.cg j.x.fY j.x.count).1:=by
  have:(fo s j.id).1=(fit (eT s.aG) j.x.cg j.x.fY j.x.count).1:=by
   unfold fo gV eG
   rw [k3]
   simp only [hr,hz.2.2.2.2.2,r1,Bool.not_false,Bool.and_true,Bool.not_true,Bool.false_or]
   rw [show (cY s.tree j.x.path (cV j.x).1).2=0 from r2]
   rfl
  rw [e] at this;exact this
 have hf:(fit (eT s.aG) j.x.cg j.x.fY j.x.count)=mS j.x.fY j.x.count.toNat (((s.aG.nodes.filter (·.up)).filter fun n=>iL j.x.cg n.labels).map (iS s.aG)) []:=by
  unfold fit
  rw [if_neg (by omega),kP h.aG,show max j.x.count 0=j.x.count by omega]
 rw [hf] at r1 hfit
 obtain ⟨new,g1,g2,g3⟩:=Ih hc.2.1 j.id (fun n=>iL j.x.cg n.labels) _ s.aG.places [] h.aG h.gE r1
 have hn:nodes=new:=by rw [hfit];exact g1
 subst hn
 unfold bS
 rw [k1]
 simp only
 rw [k2]
 unfold jI
 rw [hr,if_neg (by decide),if_neg (by rw [g2];omega),hz.2.2.2.2.2,if_neg (by decide),if_neg (by simp [show (cY s.tree j.x.path (cV j.x).1).2=0 from r2])]
 have hp:(tN s.aG j.id nodes j.x.fY).2=0:=by
  unfold tN
  rw [g3]
 rw [if_neg (by simp [hp])]
theorem vZ {s:aU} (h:s.ok) {id:Int} (hw:(∃j∈s.av,j.id=id∧j.runs=false)∨∀j∈s.av,j.id≠id):
 ((fo s id).2=true→(bS s id (fo s id).1).2=0∧zn (bS s id (fo s id).1).1=true)∧
 ((aA s id).2.2=false→(fo s id).2=false)∧
 ((
  aA s id).2.2=true→(bS (aH s (aA s id).1) id (aA s id).2.1).2=0∧zn (bS (aH s (aA s id).1) id (aA s id).2.1).1=true∧
  (bD (bS (aH s (aA s id).1) id (aA s id).2.1).1.av id).2=true∧(bD (bS (aH s (aA s id).1) id (aA s id).2.1).1.av id).1.runs=true):=by
 have hs:=KG h hw
 rcases hw with ⟨j,hj,rfl,hr⟩|hn
 ·obtain ⟨i,hi⟩:=List.getElem?_of_mem hj
  refine ⟨fun e=>⟨BI h hi hr (by rw [←e]),(h.w8 _ _).right⟩,fun e=>?_,fun e=>?_⟩
  ·rw [e] at hs
   cases c:(fo s j.id).2 with
   |false=>rfl
   |true=>rw [c] at hs;exact (show False by have:=hs.1;simp at this).elim
  have hq:=(iT h (.inl ⟨j,hj,rfl,hr⟩)).2 e
  have g:=cP h (aA s j.id).1
  have hi2:(aH s (aA s j.id).1).av[i]?=some j:=by
   rw [g.av,List.getElem?_map,hi];simp [bY,hr]
  have hz:=BI g.ok hi2 hr hq.1
  refine ⟨hz,(g.ok.w8 _ _).right,?_⟩
  obtain ⟨i3,j3,T,b1,b2,b3,_,_,b6⟩:=om g.ok hz
  have hok:=g.ok.w8 j.id (aA s j.id).2.1
  rw [b6] at hok ⊢
  have hi4:(iM ⟨(aH s (aA s j.id).1).round,(aH s (aA s j.id).1).next,⟨(aH s (aA s j.id).1).aG.nodes,(aH s (aA s j.id).1).aG.places++(aA s j.id).2.1.map (fun n=>⟨j.id,n,j3.x.fY⟩)⟩,T,(aH s (aA s j.id).1).av.set i3 j3.begun,(aH s (aA s j.id).1).queue.filter (fun q=>!decide (q.id=j.id)),(aH s (aA s j.id).1).ev,(aH s (aA s j.id).1).au⟩ j.id 2).av[i3]?=some j3.begun:=by
   show ((aH s (aA s j.id).1).av.set i3 j3.begun)[i3]?=_
   rw [List.getElem?_set,if_pos rfl,if_pos (List.getElem?_eq_some_iff.1 b1).1]
  have:=(dP hok.ids hi4).2.2
  rw [show j3.begun.id=j.id from b2] at this
  rw [this]
  exact ⟨rfl,rfl⟩
 have e1:fo s id=([],false):=E4 h hn []
 refine ⟨fun e=>by rw [e1] at e;exact (show False from Bool.noConfusion e).elim,fun _=>by rw [e1],fun e=>?_⟩
 rw [e1,E4 h hn] at hs
 have:=hs.1
 rw [e] at this
 exact (show False from Bool.noConfusion this).elim
end Dem
end
section
open Go Go.Sort
namespace Dem
def xE (a b:Jb):Bool:=decide (a.x.prio<b.x.prio)||(decide (a.x.prio=b.x.prio)&&decide (b.id<a.id))
theorem Mf:SWO xE:=by
 refine ⟨?_,?_,?_⟩<;>simp only [xE]<;>simp<;>omega
theorem DB (L:List Jb):(Sort.insertionSort xE L.toArray 0 L.length).toList.Perm L:=by
 obtain ⟨⟨h0,h1,h2⟩,h3⟩:=insertionSort_holds (lt:=xE) Mf L.toArray 0 L.length (Nat.zero_le _) (by simp)
 have hs:(Sort.insertionSort xE L.toArray 0 L.length).size=L.length:=by rw [h0];simp
 have e1:(Sort.insertionSort xE L.toArray 0 L.length).extract 0 L.length=Sort.insertionSort xE L.toArray 0 L.length:=by
  apply Array.extract_eq_self_of_le;omega
 have e2:L.toArray.extract 0 L.length=L.toArray:=by apply Array.extract_eq_self_of_le;simp
 rw [e1,e2] at h2
 simpa using h2
theorem KL {L:List Jb} (hd:L.Pairwise fun a b=>a.id<b.id):(Sort.insertionSort xE L.toArray 0 L.length).toList=L.mergeSort fq:=by
 obtain ⟨⟨h0,h1,h2⟩,h3⟩:=insertionSort_holds (lt:=xE) Mf L.toArray 0 L.length (Nat.zero_le _) (by simp)
 have hp:=DB L
 have h4:(L.mergeSort fq).Pairwise fun a b=>fq a b=true:=by
  refine List.pairwise_mergeSort ?_ ?_ _
  ·intro a b c;simp only [fq,Bool.or_eq_true,Bool.and_eq_true,decide_eq_true_eq];omega
  intro a b;simp only [fq,Bool.or_eq_true,Bool.and_eq_true,decide_eq_true_eq];omega
 refine (hp.trans (List.mergeSort_perm L fq).symm).eq_of_pairwise (le:=fun a b=>fq a b=true) ?_ ?_ h4
 ·intro a b ha hb g1 g2
  have ma:a∈L:=hp.mem_iff.1 ha
  have mb:b∈L:=(List.mergeSort_perm L fq).mem_iff.1 hb
  simp only [fq,Bool.or_eq_true,Bool.and_eq_true,decide_eq_true_eq] at g1 g2
  exact cm hd ma mb (by omega)
 rw [List.pairwise_iff_getElem]
 intro i j hi hj hij
 have hs:(Sort.insertionSort xE L.toArray 0 L.length).size=L.length:=by rw [h0];simp
 simp only [Array.length_toList] at hi hj
 have:=h3 i j (Nat.zero_le _) hij (by omega)
 rw [getElem!_pos _ j hj,getElem!_pos _ i hi] at this
 simp only [Array.getElem_toList]
 simp only [xE,Bool.or_eq_false_iff,Bool.and_eq_false_iff,decide_eq_false_iff_not] at this
 simp only [fq,Bool.or_eq_true,Bool.and_eq_true,decide_eq_true_eq]
 omega
end Dem
end
section
open Go Dem Go.Proofs
namespace Dem
variable {t:Th}
theorem Ri (ht:TT t) (x:Int):FC 101 [bF x] [] (.ret (dH (t _ fun _=>false))) []:=by
 refine cL ht Tryz.func101 (N:=6) ?_
 cbv
 refine an ?_
 (simp [ht];done)
theorem TQ (ht:TT t) (x y:Int):FC 50 [bF x,bF y] [] (.ret (kS (t _ fun _=>iX x y))) []:=by
 refine cL ht Tryz.func50 (N:=20) ?_
 cbv
 refine aP (Ri ht _) trv (fun r0 c8=>?_)
 simp only [ht] at c8
 cbv
 refine aP (Ri ht _) trv (fun r1 cR=>?_)
 simp only [ht] at cR
 cbv
 apply ap<;>intro h2
 ·cbv
  apply ap<;>intro h3
  ·cbv
   refine an ?_
   (simp only [ht,iX];grind)
  cbv
  refine an ?_
  (simp only [ht,iX];grind)
 cbv
 apply ap<;>intro h4
 ·cbv
  refine an ?_
  (simp only [ht,iX];grind)
 cbv
 apply ap<;>intro h5
 ·simp [ht] at h5
  cbv
  refine an ?_
  (simp [iX, *];done)
 simp [ht] at h5
 cbv
 apply ap<;>intro h6
 ·simp [ht] at h6
  cbv
  refine an ?_
  (simp [iX, *];done)
 simp [ht] at h6
 cbv
 refine an ?_
 (simp only [ht,iX];grind)
def RO:List Int→Int
 |[]=>0
 |x::r=>if x=0 then RO r else x
def Wn (x:Int):List D:=[.int .i64 x]
def TR (_:Th) (x:Int):List D:=[.int .i64 x]
theorem YO (ht:TT t) {l:List Int} {es:List (List D)} (aD:es=l.map Wn) (hl:l.length<1000000000):FC 49 [SL es] [] (.ret (kS (t _ fun _=>RO l))) []:=by
 refine cL ht Tryz.func49 (N:=18) ?_
 cbv
 have aQ:es.length=l.length:=by rw [aD,lgM]
 obtain ⟨J0,fK⟩:∃J0:Nat→Int→Prop,∀n i,J0 n i↔(∃k:Nat,i=k∧k+n=l.length∧RO l=RO (l.drop k)):=⟨fun n v=>match v with|i=>(∃k:Nat,i=k∧k+n=l.length∧RO l=RO (l.drop k)),fun _ _=>Iff.rfl⟩
 refine bE ⟨[3,6,7,8],[],[]⟩ (σ:=Int) (fun v=>[(8,.d (.int .i64 (t _ fun _=>v)))]) (fun v=>[]) J0 ?_
 cbv
 refine aF ⟨l.length,_,(fK _ _).2 ?_,by simp only [ht];rfl,?_⟩
 ·exact ⟨0,rfl,by simp,by simp⟩
 rintro n i hj
 replace hj:=(fK _ _).1 hj
 obtain ⟨k,rfl,j1,j4⟩:=hj
 cbv
 apply ap<;>intro h1
 ·simp [ht,ah,aQ] at h1
  cbv
  (refine kL ht aD (cT:=TR t) (by simp only [ht];((try simp only [ah] at*);omega)) (by simp only [ht,ah];omega) (fun _=>rfl) (fun _=>rfl) (fun x mx=>?_);simp only [ht,ah,Int.toNat_natCast] at mx;rw [gW mx,RO] at j4)
  cbv
  apply ap<;>intro h2
  ·simp [ht] at h2
   cbv
   refine an ?_
   (simp_all;done)
  simp [ht] at h2
  cbv
  refine cr _ (by simp only [ht];rfl) (n-1) ?_ ((fK _ _).2 ?_)
  ·omega
  simp only [ah]
  exact ⟨k+1,aE (by omega),by omega,by rw [j4,if_pos (by simp_all)]⟩
 simp [ht,ah,aQ] at h1
 cbv
 refine an ?_
 (rw [List.drop_eq_nil_of_le (by omega),RO] at j4;simp only [ht,j4];done)
def KM (a b:Jb):Int:=RO [iX a.x.prio b.x.prio,iX b.id a.id]
theorem Mg {a b:Jb}:KM a b<0↔xE a b=true:=by
 simp only [KM,RO,iX,xE,Bool.or_eq_true,Bool.and_eq_true,decide_eq_true_eq]
 split<;>split<;>(try split)<;>(try split)<;>omega
theorem TS (ht:TT t) (a1 a3 a4 a5 a6 a7 a8 a9 a12 b1 b3 b4 b5 b6 b7 b8 b9 N4:Int) (a2 b2:aI) (Wo N5:Bool) {sa sb:List Term} {ar br:List (List D)} (har:ar=sa.map Term.cells) (TA:br=sb.map Term.cells):
 FC 48 [.agg [aB a1,ST a2,aB a3,aB a4,aB a5,aB a6,bF a7,bF a8,bF a9,SL ar,BL Wo,bF a12],.agg [aB b1,ST b2,aB b3,aB b4,aB b5,aB b6,bF b7,bF b8,bF b9,SL br,BL N5,bF N4]] [] (.ret (kS (t _ fun _=>KM ⟨a1,⟨a2,⟨a3,a4,a5,a6⟩,a7,a8,a9,sa⟩,Wo,a12⟩ ⟨b1,⟨b2,⟨b3,b4,b5,b6⟩,b7,b8,b9,sb⟩,N5,N4⟩))) []:=by
 obtain ⟨o,ho⟩:∃o,o=KM ⟨a1,⟨a2,⟨a3,a4,a5,a6⟩,a7,a8,a9,sa⟩,Wo,a12⟩ ⟨b1,⟨b2,⟨b3,b4,b5,b6⟩,b7,b8,b9,sb⟩,N5,N4⟩:=⟨_,rfl⟩
 rw [←ho]
 refine cL ht Tryz.func48 (N:=19) ?_
 cbv
 have aaU:ar.length=sa.length:=by rw [har,lgM]
 have aaV:br.length=sb.length:=by rw [TA,lgM]
 refine cE [false,false,false,false,false,false,false,false,false,false,false,true,true,true,true] ?_
 cbv
 iterate 6 refine gI (by simp) ?_
 refine .inl ?_
 refine eR (fun g0=>⟨trv,trv,TQ ht _ _⟩) rfl rfl (fun r1 cR=>?_)
 simp only [ht] at cR
 cbv
 iterate 4 refine gI (by simp) ?_
 refine aP (QJ ht _ _) trv (fun r2 ix=>?_)
 simp only [ht] at ix
 cbv
 (refine aP (YO ht (l:=[r1,r2]) rfl (by simp)) (by simp) (fun r3 lm=>?_);simp only [ht] at lm)
 cbv
 refine an ?_
 (simp only [ht];simp_all [KM];done)
theorem TU (ht:TT t) (a b n:Nat) (d:Array Jb) {es:List (List D)} {ai bi:Int} (ha:ai=a) (xK:bi=b) (aD:es=d.toList.map Jb.cells) (hn:n=d.size) (hb:b≤n) (hl:n<1000000) (RN:a<1000000000):
 FC 153 [.ow 0 12 n,bF ai,bF bi,.fn 48 []] [.row 12 es] (.ret (.dV [])) [.row 12 (t _ fun _=>(Sort.insertionSort xE d a b).toList.map Jb.cells)]:=by
 refine kM ht (bC:=[.row 12 es]) Tryz.func153 rfl rfl (N:=53) rfl rfl (n:=1) rfl rfl ?_
 cbv
 obtain ⟨J0,fK⟩:∃J0:Nat→Int×List (List D)→Prop,∀m i u,J0 m (i,u)↔(∃(k:Nat) (r:Array Jb),i=k∧b≤k+m∧a+1≤k∧k≤1000000000∧r.size=n∧u=r.toList.map Jb.cells∧Sort.insertionSort xE d a b=Sort.insOuter xE a b k r):=⟨fun m v=>match v with|(i,u)=>(∃(k:Nat) (r:Array Jb),i=k∧b≤k+m∧a+1≤k∧k≤1000000000∧r.size=n∧u=r.toList.map Jb.cells∧Sort.insertionSort xE d a b=Sort.insOuter xE a b k r),fun _ _ _=>Iff.rfl⟩
 refine bE ⟨[0,1,2,3,8],[],[]⟩ (σ:=Int×List (List D)) (fun v=>[(8,.d (.int .i64 (t _ fun _=>v.1)))]) (fun v=>[(0,.row 12 (t _ fun _=>v.2))]) J0 ?_
 cbv
 refine aF ⟨b,(_,_),(fK _ _ _).2 ?_,by simp only [ht];rfl,?_⟩
 ·exact ⟨a+1,d,by rw [ha];exact aE (by omega),by omega,by omega,by omega,hn.symm,aD,rfl⟩
 rintro m ⟨i,u⟩ hj
 replace hj:=(fK _ _ _).1 hj
 obtain ⟨k,r,rfl,j1,j2,j3,j5,j6,j4⟩:=hj
 cbv
 apply ap<;>intro h1
 ·simp [ht,ah] at h1
  cbv
  obtain ⟨J2,yW⟩:∃J2:Nat→Int×List (List D)→Prop,∀m2 jj u,J2 m2 (jj,u)↔(∃(j:Nat) (q:Array Jb),jj=j∧j≤m2∧j≤k∧q.size=n∧u=q.toList.map Jb.cells∧Sort.insertionSort xE d a b=Sort.insOuter xE a b (k+1) (Sort.insInner xE a j q)):=⟨fun m2 v=>match v with|(jj,u)=>(∃(j:Nat) (q:Array Jb),jj=j∧j≤m2∧j≤k∧q.size=n∧u=q.toList.map Jb.cells∧Sort.insertionSort xE d a b=Sort.insOuter xE a b (k+1) (Sort.insInner xE a j q)),fun _ _ _=>Iff.rfl⟩
  refine bE ⟨[0,1,2,3,8,9],[],[]⟩ (σ:=Int×List (List D)) (fun v=>[(9,.d (.int .i64 (t _ fun _=>v.1)))]) (fun v=>[(0,.row 12 (t _ fun _=>v.2))]) J2 ?_
  cbv
  refine aF ⟨k,(_,_),(yW _ _ _).2 ?_,rfl,?_⟩
  ·exact ⟨k,r,rfl,by omega,by omega,j5,j6,by rw [j4,sS];((try simp only [ah] at*);omega)⟩
  rintro m2 ⟨jj,u⟩ hj
  replace hj:=(yW _ _ _).1 hj
  obtain ⟨j,q,rfl,q1,q2,q5,q6,q4⟩:=hj
  cbv
  refine cE [false,false,true,true,false,false,false,false,false,false,false,false,false,false,true,true,true] ?_
  cbv
  iterate 2 refine gI (by simp) ?_
  iterate 3 refine gI (by simp [ht]) ?_
  refine gI (by simp [ht,ah];grind) ?_
  (refine zu q6 (Jb.bw t) (fun _=>by simp only [Jb.cells,Jb.bw,ht]) j (fun g=>(by simp [ht,ah] at g ⊢;exact ⟨by ((try simp only [ah] at*);omega),fun h=>(by exact ⟨g,h⟩)⟩)) (fun y ey=>?_))
  cbv
  iterate 3 refine gI (by simp [ht]) ?_
  refine gI (by (simp [ht,ah];intro g;rw [wrap64 (by omega) (by omega)];((try simp only [ah] at*);omega))) ?_
  (refine zu q6 (Jb.bw t) (fun _=>by simp only [Jb.cells,Jb.bw,ht]) (j-1) (fun g=>(by simp only [ht,decide_eq_true_eq,ah] at g ⊢;rw [wrap64 (by omega) (by omega),show ((j:Int)-1).toNat=j-1 by omega];exact ⟨by ((try simp only [ah] at*);omega),rfl,fun h=>(by exact ⟨g,h⟩)⟩)) (fun z ez=>?_))
  cbv
  refine eR (fun g3=>⟨by simp [ht] at g3 ⊢;exact g3,trv,TS ht _ _ _ _ _ _ _ _ _ _ _ _ _ _ _ _ _ _ _ _ _ _ (kK ht rfl) (kK ht rfl)⟩) rfl rfl (fun r4 kW=>?_)
  simp only [ht] at kW
  cbv
  refine gI (by simp [ht]) ?_
  refine pI (by simp [ht]) ?_
  apply ap<;>intro h5
  ·simp [ht,ah] at h5
   cbv
   refine Gx [0,1,2,3,4,5,6,7,10,11] [false,false,false,false,false,false,false,false,false,false,false,false,false,false,true,true,true,true] (by kernel_rfl) (by kernel_rfl) (by kernel_rfl) (by kernel_rfl) (by kernel_rfl) ?_
   cbv
   iterate 8 refine gI (by simp) ?_
   refine gI (by (simp [ht,ah];rw [wrap64 (by omega) (by omega)];((try simp only [ah] at*);omega))) ?_
   (refine zu q6 (Jb.bw t) (fun _=>by simp only [Jb.cells,Jb.bw,ht]) (j-1) (fun g=>(by simp only [ht,ah];rw [wrap64 (by omega) (by omega),show ((j:Int)-1).toNat=j-1 by omega];exact ⟨by ((try simp only [ah] at*);omega),rfl,fun h=>h⟩)) (fun z2 ez2=>?_))
   cbv
   iterate 2 refine gI (by simp) ?_
   refine gI (by simp [ht,ah];grind) ?_
   (refine zu q6 (Jb.bw t) (fun _=>by simp only [Jb.cells,Jb.bw,ht]) j (fun g=>(by simp only [ht,ah,Int.toNat_natCast];exact ⟨by ((try simp only [ah] at*);omega),trv,fun h=>h⟩)) (fun y2 ey2=>?_))
   cbv
   refine ⟨?_,?_⟩
   ·(simp only [ht,ah] at*;omega)
   refine ⟨?_,?_⟩
   ·(simp only [ht,ah,Int.toNat_natCast];exact QY (n:=12) q6 (fun _=>rfl) (by ((try simp only [ah] at*);omega)) rfl)
   refine ⟨?_,?_⟩
   ·(simp only [ht,ah];rw [wrap64 (by omega) (by omega)];((try simp only [ah] at*);omega))
   refine ⟨?_,?_⟩
   ·(simp only [ht,ah,Int.toNat_natCast];rw [wrap64 (by omega) (by omega),show ((j:Int)-1).toNat=j-1 by omega];exact QY (n:=12) (KA (n:=12) q6 (fun _=>rfl) (by ((try simp only [ah] at*);omega)) z2) (fun _=>rfl) (by simp;((try simp only [ah] at*);omega)) rfl)
   cbv
   refine cr (_,_) (by simp only [ht];rfl) (m2-1) ?_ ((yW _ _ _).2 ?_)
   ·((try simp only [ah] at*);omega)
   simp only [ah]
   exact ⟨j-1,Sort.swp q j (j-1),El (by ((try simp only [ah] at*);omega)) (by omega),by omega,by omega,by rw [swp_size];exact q5,by rw [wrap64 (by omega) (by omega),show ((j:Int)-1).toNat=j-1 by omega,Int.toNat_natCast];exact QZ (n:=12) q6 (fun _=>rfl) (by ((try simp only [ah] at*);omega)) (by ((try simp only [ah] at*);omega)) ey2 ez2,by rw [q4,yI (by ((try simp only [ah] at*);omega)) (by rw [←ey,←ez];exact Mg.1 (by have e:r4=KM y z:=kW;rw [←e];exact h5.2))]⟩
  simp [ht,ah] at h5
  cbv
  refine cr (_,_) (by simp only [ht];rfl) (m-1) ?_ ((fK _ _ _).2 ?_)
  ·((try simp only [ah] at*);omega)
  simp only [ah]
  exact ⟨k+1,q,aE (by omega),by omega,by omega,by ((try simp only [ah] at*);omega),q5,q6,by rw [q4,sU (fun g=>by rw [←ey,←ez];exact Bool.eq_false_iff.2 fun e=>absurd (Mg.2 e) (by have e:r4=KM y z:=kW;rw [←e];have:=h5 (by ((try simp only [ah] at*);omega));omega))]⟩
 simp [ht,ah] at h1
 cbv
 refine iq trv trv rfl ?_ rfl rfl
 (simp only [ht];rw [j4,vX _ _ _ _ (by ((try simp only [ah] at*);omega)),←j6];rfl)
theorem KN (ht:TT t) (n:Nat) (d:Array Jb) {es:List (List D)} {ni:Int} (hni:ni=n) (aD:es=d.toList.map Jb.cells) (hn:n=d.size) (hl:n≤12):
 FC 100 [.ow 0 12 n,bF ni,.fn 48 []] [.row 12 es] (.ret (.dV [])) [.row 12 (t _ fun _=>(Sort.insertionSort xE d 0 n).toList.map Jb.cells)]:=by
 refine kM ht (bC:=[.row 12 es]) Tryz.func100 rfl rfl (N:=63) rfl rfl (n:=1) rfl rfl ?_
 cbv
 obtain ⟨J0,fK⟩:∃J0:Nat→Int×Int→Prop,∀m a b,J0 m (a,b)↔(a=0∧b=20):=⟨fun m v=>match v with|(a,b)=>(a=0∧b=20),fun _ _ _=>Iff.rfl⟩
 refine bE ⟨[0,1,2,6,7,8],[],[]⟩ (σ:=Int×Int) (fun v=>[(7,.d (.int .i64 (t _ fun _=>v.1))),(8,.d (.int .i64 (t _ fun _=>v.2)))]) (fun v=>[]) J0 ?_
 cbv
 refine aF ⟨1,(_,_),(fK _ _ _).2 ?_,by simp only [ht];rfl,?_⟩
 ·exact ⟨rfl,rfl⟩
 rintro m ⟨a,b⟩ hj
 replace hj:=(fK _ _ _).1 hj
 obtain ⟨Ui,wj⟩:=hj
 cbv
 apply ap<;>intro h1
 ·simp [ht,ah] at h1
  (simp only [ah] at*;omega)
 simp [ht,ah] at h1
 cbv
 refine dG [0] trv rfl rfl (TU ht 0 n n d (by simp only [ht];exact Ui) hni aD hn (Nat.le_refl _) (by ((try simp only [ah] at*);omega)) (by ((try simp only [ah] at*);omega))) (cD ?_)
 cbv
 obtain ⟨J2,yW⟩:∃J2:Nat→Int→Prop,∀m b,J2 m b↔(b=20):=⟨fun m v=>match v with|b=>(b=20),fun _ _=>Iff.rfl⟩
 refine bE ⟨[0,1,2,6],[],[]⟩ (σ:=Int) (fun v=>[(6,.d (.int .i64 (t _ fun _=>v)))]) (fun v=>[]) J2 ?_
 cbv
 refine aF ⟨1,_,(yW _ _).2 ?_,by simp only [ht];rfl,?_⟩
 ·rfl
 rintro m b hj
 replace hj:=(yW _ _).1 hj
 obtain um:=hj
 cbv
 apply ap<;>intro h3
 ·simp [ht,ah] at h3
  omega
 simp [ht,ah] at h3
 cbv
 refine an ?_
 rfl
theorem Rj (ht:TT t) (n:Nat) (d:Array Jb) {es:List (List D)} (aD:es=d.toList.map Jb.cells) (hn:n=d.size) (hl:n≤12):
 FC 47 [.ow 0 12 n,.fn 48 []] [.row 12 es] (.ret (.dV [])) [.row 12 (t _ fun _=>(Sort.insertionSort xE d 0 n).toList.map Jb.cells)]:=by
 have hel:(es.length:Int)=n:=by rw [aD,hn];simp
 refine kM ht (bC:=[.row 12 es]) Tryz.func47 rfl rfl (N:=9) rfl rfl (n:=1) rfl rfl ?_
 cbv
 refine ⟨?_,?_⟩
 ·(simp only [ht,ah] at*;omega)
 cbv
 refine dG [0] trv rfl rfl (KN ht n d (by simp only [ht];exact hel) aD hn hl) (cD ?_)
 cbv
 refine an ?_
 rfl
theorem TV (ht:TT t):FC 153 [SL [],bF 0,bF 0,.fn 48 []] [] (.ret (.dV [])) []:=by
 refine cL ht Tryz.func153 (N:=53) ?_
 cbv
 obtain ⟨J0,fK⟩:∃J0:Nat→Int→Prop,∀m a,J0 m a↔(a=1):=⟨fun m v=>match v with|a=>(a=1),fun _ _=>Iff.rfl⟩
 refine bE ⟨[0,1,2,3,8],[],[]⟩ (σ:=Int) (fun v=>[(8,.d (.int .i64 (t _ fun _=>v)))]) (fun v=>[]) J0 ?_
 cbv
 refine aF ⟨1,_,(fK _ _).2 ?_,rfl,?_⟩
 ·rfl
 rintro m a hj
 replace hj:=(fK _ _).1 hj
 obtain Ui:=hj
 cbv
 apply ap<;>intro h1
 ·simp [ht] at h1
  omega
 simp [ht] at h1
 cbv
 refine an ?_
 rfl
theorem KO (ht:TT t):FC 100 [SL [],bF 0,.fn 48 []] [] (.ret (.dV [])) []:=by
 refine cL ht Tryz.func100 (N:=63) ?_
 cbv
 obtain ⟨J0,fK⟩:∃J0:Nat→Int×Int→Prop,∀m a b,J0 m (a,b)↔(a=0∧b=20):=⟨fun m v=>match v with|(a,b)=>(a=0∧b=20),fun _ _ _=>Iff.rfl⟩
 refine bE ⟨[0,1,2,6,7,8],[],[]⟩ (σ:=Int×Int) (fun v=>[(7,.d (.int .i64 (t _ fun _=>v.1))),(8,.d (.int .i64 (t _ fun _=>v.2)))]) (fun v=>[]) J0 ?_
 cbv
 refine aF ⟨1,(_,_),(fK _ _ _).2 ?_,by simp only [ht];rfl,?_⟩
 ·exact ⟨rfl,rfl⟩
 rintro m ⟨a,b⟩ hj
 replace hj:=(fK _ _ _).1 hj
 obtain ⟨Ui,wj⟩:=hj
 cbv
 apply ap<;>intro h1
 ·simp [ht] at h1
  omega
 simp [ht] at h1
 cbv
 refine gR trv (by have:=TV ht;simpa only [ht,Ui] using this) trv rfl rfl ?_
 cbv
 obtain ⟨J2,yW⟩:∃J2:Nat→Int→Prop,∀m b,J2 m b↔(b=20):=⟨fun m v=>match v with|b=>(b=20),fun _ _=>Iff.rfl⟩
 refine bE ⟨[0,1,2,6],[],[]⟩ (σ:=Int) (fun v=>[(6,.d (.int .i64 (t _ fun _=>v)))]) (fun v=>[]) J2 ?_
 cbv
 refine aF ⟨1,_,(yW _ _).2 ?_,by simp only [ht];rfl,?_⟩
 ·rfl
 rintro m b hj
 replace hj:=(yW _ _).1 hj
 obtain um:=hj
 cbv
 apply ap<;>intro h3
 ·simp [ht] at h3
  omega
 simp [ht] at h3
 cbv
 refine an ?_
 rfl
theorem Rk (ht:TT t):FC 47 [SL [],.fn 48 []] [] (.ret (.dV [])) []:=by
 refine cL ht Tryz.func47 (N:=9) ?_
 cbv
 refine gR trv (by simp only [ht];exact KO ht) trv rfl rfl ?_
 cbv
 refine an ?_
 rfl
theorem N6 (ht:TT t) (jc:List D) {l:List (Jb)} {es:List (List D)} (aD:es=l.map Jb.cells) (f:Nat) (p:Jb→Bool) (hl:l.length<9223372036854775807)
 (hf:∀x∈l,FC f [.agg [aB x.id,ST x.x.path,aB x.x.fY.a,aB x.x.fY.b,aB x.x.fY.c,aB x.x.fY.d,bF x.x.count,bF x.x.prio,bF x.x.eI,SL (x.x.cg.map Term.cells),BL x.runs,bF x.left],.ep jc] [] (.ret (BL (p x))) []) {r:Int} (hr:r=idxOf p l):FC 70 [SL es,.fn f [.ep jc]] [] (.ret (bF r)) []:=by
 have hel:es.length=l.length:=by rw [aD,lgM]
 refine cL ht Tryz.func70 (N:=19) ?_
 cbv
 refine bE ⟨[0,1,7,8],[],[]⟩ (σ:=Nat) (fun k=>[(8,bF (t _ fun _=>(k:Int)))]) (fun _=>[]) (vL p l) ?_
 cbv
 refine aF ⟨l.length,0,.nil,by simp only [ht];rfl,fun n k hj=>?_⟩
 cbv
 apply ap<;>intro h
 ·simp only [ht,ah,decide_eq_true_eq] at h
  have hk:k<es.length:=by omega
  obtain ⟨x,hx,pK,px,hpx⟩:=hj.get (by omega)
  have iw:=hf x pK
  rw [←hpx] at iw
  obtain ⟨id',⟨p',⟨a',b',c',d'⟩,n',WT,Lf,sq⟩,WU,WV⟩:=x;obtain ⟨Ht,mG⟩:∃lr:List (List D),lr=sq.map Term.cells:=⟨_,rfl⟩;simp only [←mG] at iw
  cbv
  refine iW [.int .u64 id',.str p',.int .u64 a',.int .u64 b',.int .u64 c',.int .u64 d',.int .i64 n',.int .i64 WT,.int .i64 Lf,.sl Ht,.bool WU,.int .i64 WV] ?_ ?_ ?_
  ·simp only [ht,ah];exact sB aD hk fun _=>rfl
  ·simp [ht,ah,aD,hx,mG,Jb.cells]
  cbv
  refine eE trv iw ?_
  cbv
  apply ap<;>intro hb
  ·cbv
   refine an ?_
   simp only [ht,ah,hr,hj.hit hx (hpx▸hb)]
  cbv
  refine aF ⟨n-1,k+1,⟨hj.lt hx,hj.next hx (hpx▸hb)⟩,?_⟩
  simp only [ht,ah,aE (show k<9223372036854775807 by omega)];rfl
 simp only [ht,ah,decide_eq_false_iff_not] at h
 have hk:l.length≤k:=by omega
 clear h
 cbv
 refine an ?_
 rw [hr,hj.none hk]
theorem N7 (ht:TT t) (jc:List D) {l:List (Jb)} {es:List (List D)} (aD:es=l.map Jb.cells) {m c:Nat} (hm:m=l.length) (hc:m≤c) (f:Nat) (p:Jb→Bool) (hl:l.length<9223372036854775807)
 (hf:∀x∈l,FC f [.agg [aB x.id,ST x.x.path,aB x.x.fY.a,aB x.x.fY.b,aB x.x.fY.c,aB x.x.fY.d,bF x.x.count,bF x.x.prio,bF x.x.eI,SL (x.x.cg.map Term.cells),BL x.runs,bF x.left],.ep jc] [] (.ret (BL (p x))) []) {r:List (List D)} (hr:r=(l.filter (fun x=>!p x)).map Jb.cells) {kk:Nat} (hkk:kk=r.length) {rz:List (List D)} (HP:rz=r++List.replicate (m-kk) [.int .u64 0,.str [],.int .u64 0,.int .u64 0,.int .u64 0,.int .u64 0,.int .i64 0,.int .i64 0,.int .i64 0,.sl [],.bool false,.int .i64 0]):
 FC 44 [.vw 0 12 0 m c true,.fn f [.ep jc]] [.row 12 es] (.ret (.vw 0 12 0 kk c true)) [.row 12 rz]:=by
 have hel:es.length=m:=by rw [aD,lgM,hm]
 have hrows:∀r∈es,r.length=12:=by rw [aD];intro r hr;obtain ⟨y,_,rfl⟩:=List.mem_map.1 hr;rfl
 obtain ⟨k,hk⟩:∃k,k=idxOf p l:=⟨_,rfl⟩
 have P9:(t (List (List D)) fun _=>(es.drop 0).take m)=l.map Jb.cells:=by simp only [ht];rw [List.drop_zero,List.take_of_length_le (by omega),aD]
 have hidx:=N6 ht jc P9 f p hl hf hk
 obtain ⟨J,hJ⟩:∃J:Nat→Nat×Nat×List (List D)→Prop,∀n v,J n v↔(v.2.1+n=m∧v.1<v.2.1∧v.2.2.length=m∧(∀r∈v.2.2,r.length=12)∧v.2.2.take v.1=((l.take v.2.1).filter (fun x=>!p x)).map Jb.cells∧v.2.2.drop v.2.1=es.drop v.2.1):=⟨fun n v=>v.2.1+n=m∧v.1<v.2.1∧v.2.2.length=m∧(∀r∈v.2.2,r.length=12)∧v.2.2.take v.1=((l.take v.2.1).filter (fun x=>!p x)).map Jb.cells∧v.2.2.drop v.2.1=es.drop v.2.1,fun _ _=>Iff.rfl⟩
 refine kM ht (bC:=[.row 12 es]) Tryz.func44 rfl rfl (N:=42) rfl rfl (n:=1) rfl rfl ?_
 cbv
 refine PJ (TT.eq ht) (v:=bF k) [true] [] trv rfl ?_ rfl rfl rfl rfl rfl rfl rfl hidx ?_
 ·simp [ht];omega
 cbv
 apply ap<;>intro h
 ·have wi:k=-1:=by simp [ht] at h;exact h
  have hnone:=nX (hk▸wi:idxOf p l=-1)
  clear h
  cbv
  have OX:r=es:=by rw [hr,filter_all hnone,←aD]
  have hkm:kk=m:=by rw [hkk,OX,hel]
  have V5:rz=es:=by rw [HP,hkm,Nat.sub_self,OX];simp
  rw [V5,hkm]
  exact Jn trv rfl rfl
 have wi:k≠-1:=by simp [ht] at h;exact h
 clear h
 obtain ⟨i0,x0,UI,hx0,Qa,hb0⟩:=nY (hk▸wi:idxOf p l≠-1)
 rw [←hk] at UI
 subst UI
 have Yf:i0<m:=by rw [hm];exact (List.getElem?_eq_some_iff.1 hx0).1
 cbv
 refine bE ⟨[0,1,5,6],[],[]⟩ (σ:=Nat×Nat×List (List D)) (fun v=>[(5,bF (t _ fun _=>(v.1:Int))),(6,bF (t _ fun _=>(v.2.1:Int)))]) (fun v=>[(0,.row 12 (t _ fun _=>v.2.2))]) J ?_
 cbv
 refine aF ⟨m-(i0+1),(i0,i0+1,es),(hJ _ _).2 ⟨?_,?_,hel,hrows,?_,rfl⟩,by simp only [ht,ah,Int.ofNat_eq_natCast,aE (show i0<9223372036854775807 by omega)];rfl,?_⟩
 ·show i0+1+(m-(i0+1))=m;omega
 ·show i0<i0+1;omega
 ·show es.take i0=_
  rw [dy hx0,List.filter_append,filter_all hb0,aD,←List.map_take];simp [Qa]
 rintro n ⟨i,j,cur⟩ hj
 obtain ⟨j1,j2,j3,j4,j5,j6⟩:=(hJ _ _).1 hj
 clear hj
 simp only at j1 j2 j3 j4 j5 j6
 cbv
 apply ap<;>intro h
 ·have Oi:j<m:=by simp [ht,ah] at h;omega
  clear h
  obtain ⟨x,hx⟩:∃x,l[j]?=some x:=⟨l[j]'(by omega),by simp⟩
  have pK:x∈l:=List.mem_of_getElem? hx
  have iw:=hf x pK
  have Hr:cur[j]?=some (Jb.cells x):=by
   have:(cur.drop j)[0]?=(es.drop j)[0]?:=by rw [j6]
   rw [List.getElem?_drop,List.getElem?_drop,Nat.add_zero,aD,List.getElem?_map,hx] at this
   exact this
  obtain ⟨px,hpx⟩:∃b,b=p x:=⟨_,rfl⟩
  rw [←hpx] at iw
  obtain ⟨cx,EH⟩:∃cx,cx=Jb.cells x:=⟨_,rfl⟩
  rw [←EH] at Hr
  have hstep:(l.take (j+1)).filter (fun x=>!p x)=(l.take j).filter (fun x=>!p x)++(if px then [] else [x]):=by
   rw [dy hx,List.filter_append];cases px<;>simp [←hpx]
  obtain ⟨id',⟨p',⟨a',b',c',d'⟩,n',WT,Lf,sq⟩,WU,WV⟩:=x;obtain ⟨Ht,mG⟩:∃lr:List (List D),lr=sq.map Term.cells:=⟨_,rfl⟩;simp only [Jb.cells,←mG] at iw EH
  cbv
  refine ⟨?_,PE [.int .u64 id',.str p',.int .u64 a',.int .u64 b',.int .u64 c',.int .u64 d',.int .i64 n',.int .i64 WT,.int .i64 Lf,.sl Ht,.bool WU,.int .i64 WV] ?_ ?_ ?_⟩
  ·simp [ht,ah];omega
  ·simp [ht,ah,j3];omega
  ·simp [ht,ah,List.getD_eq_getElem?_getD,Hr,EH]
  cbv
  refine dG [] trv rfl rfl iw (cD ?_)
  cbv
  apply ap<;>intro hb
  ·have hb':px=false:=by simpa [ht] using hb
   clear hb
   obtain ⟨nc,hnc⟩:∃nc,nc=cur.set i cx:=⟨_,rfl⟩
   have pN:(cur.getD i []).length=12:=j4 _ (by rw [List.getD_eq_getElem?_getD,List.getElem?_eq_getElem (by omega)];exact List.getElem_mem _)
   cbv
   refine ⟨?_,?_⟩
   ·simp [ht,ah];omega
   refine ⟨?_,?_⟩
   ·simp [ht,ah,j3];exact ⟨by omega,by simpa using pN.symm▸(Nat.le_refl _)⟩
   refine aF ⟨n-1,(i+1,j+1,nc),⟨by omega,(hJ _ _).2 ⟨?_,?_,?_,?_,?_,?_⟩⟩,?_⟩
   ·show j+1+(n-1)=m;omega
   ·show i+1<j+1;omega
   ·show nc.length=m;rw [hnc,List.length_set];exact j3
   ·show ∀r∈nc,r.length=12
    intro r hr;rw [hnc] at hr
    rcases List.mem_or_eq_of_mem_set hr with hr|rfl
    ·exact j4 r hr
    rw [EH];rfl
   ·show nc.take (i+1)=_
    rw [hnc,kB _ _ _ (by omega),j5,hstep,hb',EH];simp [mG,Jb.cells]
   ·show nc.drop (j+1)=es.drop (j+1)
    rw [hnc,nk _ _ _ _ (by omega),←List.drop_drop,j6,List.drop_drop]
   simp only [ht,ah,Int.ofNat_eq_natCast,aE (show i<9223372036854775807 by omega),aE (show j<9223372036854775807 by omega)]
   have ei:0+((i:Int)).toNat=i:=by simp
   have e:cur.set i (be (cur.getD i []) 0 [.int .u64 id',.str p',.int .u64 a',.int .u64 b',.int .u64 c',.int .u64 d',.int .i64 n',.int .i64 WT,.int .i64 Lf,.sl Ht,.bool WU,.int .i64 WV])=nc:=by rw [hnc,kx _ _ (by rw [pN];rfl),EH]
   simp only [ei,e];rfl
  have hb':px=true:=by simpa [ht] using hb
  clear hb
  cbv
  refine aF ⟨n-1,(i,j+1,cur),⟨by omega,(hJ _ _).2 ⟨?_,?_,j3,j4,?_,?_⟩⟩,?_⟩
  ·show j+1+(n-1)=m;omega
  ·show i<j+1;omega
  ·show cur.take i=_
   rw [j5,hstep,hb'];simp
  ·show cur.drop (j+1)=es.drop (j+1)
   rw [←List.drop_drop,j6,List.drop_drop]
  simp only [ht,ah,Int.ofNat_eq_natCast,aE (show j<9223372036854775807 by omega)];rfl
 have Oi:j=m:=by simp [ht,ah] at h;omega
 clear h
 obtain ⟨mi,x8⟩:∃mi,mi=m-i:=⟨_,rfl⟩
 obtain ⟨ci,pN⟩:∃ci,ci=c-i:=⟨_,rfl⟩
 obtain ⟨nc,hnc⟩:∃nc,nc=wrote cur i (List.replicate mi [.int .u64 0,.str [],.int .u64 0,.int .u64 0,.int .u64 0,.int .u64 0,.int .i64 0,.int .i64 0,.int .i64 0,.sl [],.bool false,.int .i64 0]):=⟨_,rfl⟩
 have hnt:nc.take i=r:=by
  have hl':(cur.take i).length=i:=by simp;omega
  rw [hnc,wrote,List.append_assoc,List.take_left' hl',j5,hr,Oi,hm,List.take_length]
 have Yg:i≤nc.length:=by rw [hnc];simp [wrote];omega
 cbv
 refine bH (.vw 0 12 i mi ci true) [.row 12 cur] ?_ ?_ ?_ ?_
 ·simp [ht,ah,dJ,bO];omega
 ·simp [ht,ah,aW,aT,x8,pN]
 ·simp only [ht]
 cbv
 refine bH (.dV []) [.row 12 nc] ?_ rfl ?_ ?_
 ·simp [ht,eO]
  refine ⟨by omega,?_⟩
  intro h;rw [h] at j3;simp at j3;omega
 ·simp only [ht,hnc]
 cbv
 refine bH (.vw 0 12 0 i c true) [.row 12 nc] ?_ ?_ rfl ?_
 ·simp [ht,ah,dJ,bO];omega
 ·simp [ht,ah,aW,aT]
 cbv
 have hki:kk=i:=by rw [hkk,←hnt];simp;omega
 have V5:rz=nc:=by
  rw [HP,hki,←hnt,hnc,wrote]
  have hl':(cur.take i).length=i:=by simp;omega
  rw [List.append_assoc,List.take_left' hl',List.drop_of_length_le (by simp;omega),List.append_nil,x8]
 rw [V5,hki]
 exact Jn trv rfl rfl
theorem Wp (ht:TT t) (a1 a3 a4 a5 a6 a7 a8 a9 a12 b1 b3 b4 b5 b6 b7 b8 b9 N4:Int) (a2 b2:aI) (Wo N5:Bool) (ar br:List (List D)):
 FC 46 [.agg [aB a1,ST a2,aB a3,aB a4,aB a5,aB a6,bF a7,bF a8,bF a9,SL ar,BL Wo,bF a12],.ep [.int .u64 b1,.str b2,.int .u64 b3,.int .u64 b4,.int .u64 b5,.int .u64 b6,.int .i64 b7,.int .i64 b8,.int .i64 b9,.sl br,.bool N5,.int .i64 N4]] [] (.ret (BL (!(Wo&&decide (a8<b8))))) []:=by
 obtain ⟨H,hH⟩:∃H,H=!(Wo&&decide (a8<b8)):=⟨_,rfl⟩
 rw [←hH]
 refine cL ht Tryz.func46 (N:=16) ?_
 cbv
 iterate 7 refine gI (by simp [ht]) ?_
 refine pI (by simp [ht]) ?_
 refine an ?_
 (simp [*];grind)
def TW (t:Th) (l:List Int):AV:=SL (t _ fun _=>l.map Int.cells)
theorem YP {α:Type} {l:List α} {cells:α→List D} {u:List (List D)} (hu:u=l.map cells) (cT:α→List D) (hT:∀x,cells x=cT x) (j:Nat) {c:Prop} {ds:List D} {K:List D→Prop} (hj:j<l.length) (hd:u.getD j []=ds) (hc:j<u.length→c) (hK:∀x,l[j]?=some x→K (cT x)):Az true c ds K:=by
 refine Vr _ (fun _=>⟨hc (by rw [hu];simpa using hj),?_⟩) (hK l[j] (by simp [hj]))
 rw [←hd,hu,←hT];simp [hj]
def E5 (l:List Jb) (p:Int):List Jb:=l.filter fun o=>o.runs&&decide (o.x.prio<p)
theorem Ii (ht:TT t) {l:List Jb} {es:List (List D)} (aD:es=l.map Jb.cells) (hl:l.length<1000000) (b1 b3 b4 b5 b6 b7 b8 b9 N4:Int) (b2:aI) (N5:Bool) (br:List (List D))
 {m c k:Nat} (hm:m=l.length) (hc:m≤c) {r:List (List D)} (hr:r=(E5 l b8).map Jb.cells) (hk:k=r.length) {rz:List (List D)} (HP:rz=r++List.replicate (m-k) [.int .u64 0,.str [],.int .u64 0,.int .u64 0,.int .u64 0,.int .u64 0,.int .i64 0,.int .i64 0,.int .i64 0,.sl [],.bool false,.int .i64 0]):
 FC 44 [.vw 0 12 0 m c true,.fn 46 [.ep [.int .u64 b1,.str b2,.int .u64 b3,.int .u64 b4,.int .u64 b5,.int .u64 b6,.int .i64 b7,.int .i64 b8,.int .i64 b9,.sl br,.bool N5,.int .i64 N4]]] [.row 12 es] (.ret (.vw 0 12 0 k c true)) [.row 12 rz]:=
 N7 ht _ aD hm hc 46 (fun o=>!(o.runs&&decide (o.x.prio<b8))) (by omega) (fun o _=>Wp ht _ _ _ _ _ _ _ _ _ _ _ _ _ _ _ _ _ _ _ _ _ _ _ _) (by rw [hr,E5];simp) hk HP
theorem Wq (ht:TT t) {l:List Jb} {es:List (List D)} (aD:es=l.map Jb.cells) (hl:l.length<1000000) (b1 b3 b4 b5 b6 b7 b8 b9 N4:Int) (b2:aI) (N5:Bool) (br:List (List D)) (h0:E5 l b8=[]) {m:Nat} (hm:m=l.length):
 FC 44 [.ow 1 12 m,.fn 46 [.ptr 0 0]] [.var [aB b1,ST b2,aB b3,aB b4,aB b5,aB b6,bF b7,bF b8,bF b9,SL br,BL N5,bF N4],.row 12 es] (.ret (SL [])) [.dead,.dead]:=
 o9 rfl rfl rfl<|dD [1] rfl rfl rfl rfl<|dR fun c hc _=>Bp rfl (by simp) (by simp) rfl (Ii ht aD hl b1 b3 b4 b5 b6 b7 b8 b9 N4 b2 N5 br hm hc (r:=[]) (by rw [h0];rfl) (k:=0) rfl rfl)
theorem TX {r z:List (List D)} {k:Nat} (hk:k=r.length):r=(r++z).take k:=by rw [hk,List.take_left]
theorem Wr (ht:TT t) {l:List Jb} {es:List (List D)} (aD:es=l.map Jb.cells) (hl:l.length<1000000) (b1 b3 b4 b5 b6 b7 b8 b9 N4:Int) (b2:aI) (N5:Bool) (br:List (List D)) {m k:Nat} (hm:m=l.length) {r:List (List D)} (hr:r=(E5 l b8).map Jb.cells) (hk:k=r.length) (h0:0<k):
 FC 44 [.ow 1 12 m,.fn 46 [.ptr 0 0]] [.var [aB b1,ST b2,aB b3,aB b4,aB b5,aB b6,bF b7,bF b8,bF b9,SL br,BL N5,bF N4],.row 12 es] (.ret (.ow 1 12 k)) [.dead,.row 12 r]:=by
 obtain ⟨rz,HP⟩:∃rz,rz=r++List.replicate (m-k) [D.int .u64 0,.str [],.int .u64 0,.int .u64 0,.int .u64 0,.int .u64 0,.int .i64 0,.int .i64 0,.int .i64 0,.sl [],.bool false,.int .i64 0]:=⟨_,rfl⟩
 exact o9 rfl rfl rfl<|dD [1] rfl rfl rfl rfl<|dR fun c hc _=>Bo h0 rfl (by rw [HP,hk];simp) (by rw [HP];exact TX hk) rfl (Ii ht aD hl b1 b3 b4 b5 b6 b7 b8 b9 N4 b2 N5 br hm hc hr hk HP)
theorem Rl (ht:TT t) (rd nx ef af:Int) {nl:List Node} {pl:List Place} {tl:List bc} {jl:List Jb} {ql:List ct} {el al:List dU} {ns ps ts js qs es cu:List (List D)} (fI:ns=nl.map Node.cells) (hps:ps=pl.map Place.cells) (hts:ts=tl.map bc.cells) (eW:js=jl.map Jb.cells) (dZ:qs=ql.map ct.cells) (aD:es=el.map dU.cells) (has:cu=al.map dU.cells) (id:Int) (hjl:jl.length<1000000) (hlo:E5 jl (bD jl id).1.x.prio=[]):FC 18 [.agg [aB rd,aB nx,SL ns,SL ps,SL ts,SL js,SL qs,aB ef,SL es,aB af,SL cu],aB id] [] (.ret (TW t (t _ fun _=>bX ⟨rd,nx,⟨nl,pl⟩,tl,jl,ql,⟨ef,el⟩,⟨af,al⟩⟩ id))) []:=by
 have he:bX ⟨rd,nx,⟨nl,pl⟩,tl,jl,ql,⟨ef,el⟩,⟨af,al⟩⟩ id=[]:=by
  unfold bX
  split
  ·rfl
  show (List.mergeSort (E5 jl (bD jl id).1.x.prio) fq).map _=[]
  rw [hlo];simp
 rw [he]
 obtain ⟨m,hm⟩:∃m,m=jl.length:=⟨_,rfl⟩
 have hel:m=js.length:=by rw [eW,lgM,hm]
 have hrows:∀r∈js,r.length=12:=by rw [eW];intro r hr;obtain ⟨y,_,rfl⟩:=List.mem_map.1 hr;rfl
 refine cL ht Tryz.func18 (N:=39) ?_
 cbv
 obtain ⟨dS,eU,ej,eV,cW,aQ,dw⟩:=gF fI hps hts eW dZ aD has
 (refine aC (mH ht _ rd nx ef af ns ps ts qs es cu eW (by omega)) (by simp) (fun r1 cR=>?_);simp only [ht] at cR;rw [←cR] at hlo)
 cbv
 apply ap<;>intro h0
 ·simp [ht] at h0
  cbv
  refine an ?_
  (simp [ht];done)
 simp [ht] at h0
 cbv
 (refine jV trv (tZ ht hrows (by omega) hel) trv rfl (.inr rfl) ?_)
 cbv
 (refine dG [1,2] trv rfl rfl (Wq ht eW (by omega) _ _ _ _ _ _ _ _ _ _ _ _ hlo hm) (cD ?_))
 cbv
 (refine gR trv (Rk ht) trv rfl rfl ?_)
 cbv
 obtain ⟨J1,oe⟩:∃J1:Nat→List (List D)×Int→Prop,∀n u i,J1 n (u,i)↔(i=0∧u=[]):=⟨fun n v=>match v with|(u,i)=>(i=0∧u=[]),fun _ _ _=>Iff.rfl⟩
 refine bE ⟨[8,26,27,28],[(8,1)],[]⟩ (σ:=List (List D)×Int) (fun v=>[(8,.ow 0 1 (t _ fun _=>(v.1).length)),(28,.d (.int .i64 (t _ fun _=>v.2)))]) (fun v=>[(0,.row 1 (t _ fun _=>v.1))]) J1 ?_
 cbv
 refine aF ⟨1,([],_),(oe _ _ _).2 ?_,by simp only [ht];rfl,?_⟩
 ·exact ⟨rfl,rfl⟩
 rintro n ⟨u,i⟩ hj
 replace hj:=(oe _ _ _).1 hj
 obtain ⟨ji,ju⟩:=hj
 cbv
 apply ap<;>intro h2
 ·simp [ht] at h2
  omega
 simp [ht] at h2
 cbv
 refine iq trv (by simp [ht]) rfl rfl rfl ?_
 (simp only [ht,ju];rfl)
theorem Rm (ht:TT t) (rd nx ef af:Int) {nl:List Node} {pl:List Place} {tl:List bc} {jl:List Jb} {ql:List ct} {el al:List dU} {ns ps ts js qs es cu:List (List D)} (fI:ns=nl.map Node.cells) (hps:ps=pl.map Place.cells) (hts:ts=tl.map bc.cells) (eW:js=jl.map Jb.cells) (dZ:qs=ql.map ct.cells) (aD:es=el.map dU.cells) (has:cu=al.map dU.cells) (id:Int) (hjl:jl.length<1000000) {L:List Jb} (hL:L=E5 jl (bD jl id).1.x.prio) (hl0:0<L.length) (h12:L.length≤12) (hid:sA jl):FC 18 [.agg [aB rd,aB nx,SL ns,SL ps,SL ts,SL js,SL qs,aB ef,SL es,aB af,SL cu],aB id] [] (.ret (TW t (t _ fun _=>bX ⟨rd,nx,⟨nl,pl⟩,tl,jl,ql,⟨ef,el⟩,⟨af,al⟩⟩ id))) []:=by
 obtain ⟨E,hE⟩:∃E,E=bX ⟨rd,nx,⟨nl,pl⟩,tl,jl,ql,⟨ef,el⟩,⟨af,al⟩⟩ id:=⟨_,rfl⟩
 rw [←hE]
 obtain ⟨S,hS⟩:∃S,S=(Sort.insertionSort xE L.toArray 0 L.length).toList:=⟨_,rfl⟩
 have hSe:(bD jl id).2=true→E=S.map (·.id):=by
  intro g
  rw [hE,hS,KL (by rw [hL];exact hid.filter _),hL];unfold bX;rw [g];rfl
 have hE0:(bD jl id).2=false→E=[]:=by
  intro g
  rw [hE];unfold bX;rw [g];rfl
 have hSl:S.length=L.length:=by rw [hS];exact (DB L).length_eq
 obtain ⟨k,hk⟩:∃k,k=L.length:=⟨_,rfl⟩
 obtain ⟨m,hm⟩:∃m,m=jl.length:=⟨_,rfl⟩
 obtain ⟨r,hr⟩:∃r,r=L.map Jb.cells:=⟨_,rfl⟩
 have hkr:k=r.length:=by rw [hr,lgM,hk]
 have hel:m=js.length:=by rw [eW,lgM,hm]
 have hrows:∀r∈js,r.length=12:=by rw [eW];intro r hr;obtain ⟨y,_,rfl⟩:=List.mem_map.1 hr;rfl
 rw [←hk] at hl0 h12
 have YQ:FC 47 [.ow 0 12 k,.fn 48 []] [.row 12 r] (.ret (.dV [])) [.row 12 (t _ fun _=>S.map Jb.cells)]:=by
  have:=Rj ht k L.toArray (es:=r) (by rw [hr]) (by rw [hk];simp) h12
  rw [hS,←hk];exact this
 have hkS:k=S.length:=hk.trans hSl.symm
 refine cL ht Tryz.func18 (N:=39) ?_
 cbv
 obtain ⟨dS,eU,ej,eV,cW,aQ,dw⟩:=gF fI hps hts eW dZ aD has
 have Ys:r.length=L.length:=by rw [hr,lgM]
 (refine aC (mH ht _ rd nx ef af ns ps ts qs es cu eW (by omega)) (by simp) (fun r1 cR=>?_);simp only [ht] at cR;rw [←cR] at hL hSe hE0)
 cbv
 apply ap<;>intro h0
 ·simp [ht] at h0
  cbv
  refine an ?_
  (simp only [ht,hE0 (by simp_all)];rfl)
 simp [ht] at h0
 cbv
 (refine jV trv (tZ ht hrows (by omega) hel) trv rfl (.inr rfl) ?_)
 cbv
 (refine dG [1,2] trv rfl rfl (Wr ht eW (by omega) _ _ _ _ _ _ _ _ _ _ _ _ hm (r:=r) (by rw [hr,hL]) hkr hl0) (cD ?_))
 cbv
 (refine dG [2] trv rfl rfl YQ (cD ?_))
 cbv
 refine ⟨?_,?_⟩
 ·(simp [ht];omega)
 cbv
 obtain ⟨J1,oe⟩:∃J1:Nat→List (List D)×Int→Prop,∀n u i,J1 n (u,i)↔(∃q:Nat,i=q∧q+n=k∧u=((S.take q).map (·.id)).map Int.cells):=⟨fun n v=>match v with|(u,i)=>(∃q:Nat,i=q∧q+n=k∧u=((S.take q).map (·.id)).map Int.cells),fun _ _ _=>Iff.rfl⟩
 refine bE ⟨[8,26,27,28],[(8,1)],[]⟩ (σ:=List (List D)×Int) (fun v=>[(8,.ow 0 1 (t _ fun _=>(v.1).length)),(28,.d (.int .i64 (t _ fun _=>v.2)))]) (fun v=>[(0,.row 1 (t _ fun _=>v.1))]) J1 ?_
 cbv
 refine aF ⟨k,([],_),(oe _ _ _).2 ?_,by simp only [ht];rfl,?_⟩
 ·exact ⟨0,rfl,by simp,rfl⟩
 rintro n ⟨u,i⟩ hj
 replace hj:=(oe _ _ _).1 hj
 obtain ⟨q,rfl,j1,j4⟩:=hj
 cbv
 apply ap<;>intro h2
 ·simp [ht,ah] at h2
  cbv
  refine ⟨?_,?_⟩
  ·(simp only [ht,ah] at*;omega)
  cbv
  (refine YP (l:=S) (cells:=Jb.cells) rfl (Jb.bw t) (fun _=>by simp only [Jb.cells,Jb.bw,ht]) q (by omega) (by simp only [ht,ah,Int.toNat_natCast]) (fun h=>by simp only [ht,ah,Int.toNat_natCast];exact h) (fun x mx=>?_))
  cbv
  refine ⟨?_,?_⟩
  ·(have h9:=X8 (l:=(S.take q).map (·.id)) (cells:=Int.cells) (u:=u) (row:=[D.int .u64 x.id]) (sz:=1) (b:=8) j4 (fun _=>rfl) rfl (by simp;omega) (by decide);simp only [ht];exact ⟨trv,h9.2⟩)
  cbv
  refine cr (_,_) (by simp only [ht,←List.length_append];rfl) (n-1) ?_ ((oe _ _ _).2 ?_)
  ·omega
  simp only [ah]
  exact ⟨q+1,aE (by omega),by omega,by rw [j4,dy mx];simp [Int.cells]⟩
 simp [ht,ah] at h2
 cbv
 refine iq trv (by simp [ht]) rfl rfl rfl ?_
 (rw [List.take_of_length_le (by omega)] at j4;simp only [ht,hSe ‹_›,j4];done)
theorem Ws (ht:TT t) (rd nx ef af:Int) {nl:List Node} {pl:List Place} {tl:List bc} {jl:List Jb} {ql:List ct} {el al:List dU} {ns ps ts js qs es cu:List (List D)} (fI:ns=nl.map Node.cells) (hps:ps=pl.map Place.cells) (hts:ts=tl.map bc.cells) (eW:js=jl.map Jb.cells) (dZ:qs=ql.map ct.cells) (aD:es=el.map dU.cells) (has:cu=al.map dU.cells) (id:Int) {ids:List Int} {ir:List (List D)} (Yy:ir=ids.map Int.cells) (hil:ids.length<1000000) (hg:∀k,(aH ⟨rd,nx,⟨nl,pl⟩,tl,jl,ql,⟨ef,el⟩,⟨af,al⟩⟩ (ids.take k)).sm):
 FC 52 [SL ir,.ptr 0 0,.ptr 1 0] [.var [aB rd,aB nx,SL ns,SL ps,SL ts,SL js,SL qs,aB ef,SL es,aB af,SL cu],.var [aB id]] (.ret (HS t (t _ fun _=>gi ⟨rd,nx,⟨nl,pl⟩,tl,jl,ql,⟨ef,el⟩,⟨af,al⟩⟩ id ids))) [.var [aB rd,aB nx,SL ns,SL ps,SL ts,SL js,SL qs,aB ef,SL es,aB af,SL cu],.var [aB id]]:=by
 have uo:(aH ⟨rd,nx,⟨nl,pl⟩,tl,jl,ql,⟨ef,el⟩,⟨af,al⟩⟩ ids).sm:=by have:=hg ids.length;rwa [List.take_length] at this
 obtain ⟨w,hw⟩:∃w,w=aH ⟨rd,nx,⟨nl,pl⟩,tl,jl,ql,⟨ef,el⟩,⟨af,al⟩⟩ ids:=⟨_,rfl⟩
 have he:gi ⟨rd,nx,⟨nl,pl⟩,tl,jl,ql,⟨ef,el⟩,⟨af,al⟩⟩ id ids=fo w id:=by rw [hw];rfl
 rw [he]
 have hW:=Kt ht rd nx ef af fI hps hts eW dZ aD has Yy hil hg
 rw [←hw] at hW uo
 refine kM ht (bC:=[.var [aB rd,aB nx,SL ns,SL ps,SL ts,SL js,SL qs,aB ef,SL es,aB af,SL cu],.var [aB id]]) Tryz.func52 rfl rfl (N:=13) rfl rfl (n:=2) rfl rfl ?_
 cbv
 obtain ⟨dS,eU,ej,eV,cW,aQ,dw⟩:=gF fI hps hts eW dZ aD has
 have Ku:ir.length=ids.length:=by rw [Yy,lgM]
 refine cE [false,false,false,false,true,false,false,true,true] ?_
 cbv
 iterate 2 refine gI (by simp) ?_
 refine .inl ?_
 (refine nE (fun g=>⟨by simp,trv,hW⟩) rfl rfl rfl ?_)
 cbv
 refine gI (by simp) ?_
 refine aC (Tx ht _ _ _ _ (kK ht rfl) (kK ht rfl) (kK ht rfl) (kK ht rfl) (kK ht rfl) (kK ht rfl) (kK ht rfl) (by (simp only [ht];((try simp only [ah] at*);omega))) _) trv (fun r0 c8=>?_)
 simp only [ht] at c8
 cbv
 iterate 2 refine gI (by simp) ?_
 refine an ?_
 (simp [*];done)
theorem Rn (ht:TT t) {es:List (List D)} (aD:∀r∈es,r.length=1) (hs:es.length*8≤140737488355328) {m:Nat} (hm:m=es.length):
 FC 54 [SL es] [] (.ret (.ow 0 1 m)) [.row 1 es]:=by
 refine cL ht Tryz.func54 (N:=8) ?_
 cbv
 refine ⟨fun b hb=>?_⟩
 simp only [ht] at hb
 cbv
 apply ap<;>intro h
 ·have he:=hb h
  subst he
  cbv
  exact GN trv rfl rfl (by rw [hm];rfl) rfl
 clear hb h
 cbv
 refine ⟨?_,?_⟩
 ·simp only [ht];simp;exact ⟨hs,aD⟩
 refine Cb trv rfl rfl rfl rfl ?_ ?_
 ·simp only [ht];rw [hm];simp
 simp only [ht];rfl
theorem N8 (ht:TT t) {es:List (List D)} (aD:∀r∈es,r.length=1) (hs:es.length*8≤140737488355328):
 FC 54 [SL es] [] (.ret (SL es)) []:=by
 refine cL ht Tryz.func54 (N:=8) ?_
 cbv
 refine ⟨fun b hb=>?_⟩
 simp only [ht] at hb
 cbv
 apply ap<;>intro h
 ·have he:=hb h
  subst he
  cbv
  exact an rfl
 clear hb h
 cbv
 refine ⟨?_,?_⟩
 ·simp only [ht];simp;exact ⟨hs,aD⟩
 refine iq trv ?_ rfl rfl rfl ?_
 ·simp only [ht];simp
 simp only [ht];rfl
theorem KP (ht:TT t) {es:List (List D)} {i m c:Nat} (hm:m=es.length) (hi:i<m) (hc:m≤c) (aD:∀r∈es,r.length=1) (hs:m<1000000) {r:List (List D)} (hr:r=es.take i++es.drop (i+1)):
 FC 55 [.vw 0 1 0 m c true,bF (i:Int),bF ((i+1:Nat):Int)] [.row 1 es] (.ret (SL r)) [.dead]:=by
 obtain ⟨i1,hi1⟩:∃i1,i1=i+1:=⟨_,rfl⟩
 rw [←hi1] at hr ⊢
 refine kM ht (bC:=[.row 1 es]) Tryz.func55 rfl rfl (N:=33) rfl rfl (n:=1) rfl rfl ?_
 cbv
 obtain ⟨mi,x8⟩:∃n,n=m-i:=⟨_,rfl⟩
 obtain ⟨Tu,V6⟩:∃n,n=m-i1:=⟨_,rfl⟩
 obtain ⟨w9,JO⟩:∃n,n=c-i1:=⟨_,rfl⟩
 refine bH (.vw 0 1 i 1 mi true) [.row 1 es] ?_ ?_ rfl ?_
 ·simp [ht,ah,bO];omega
 ·simp [ht,ah,aW,x8,hi1]
 cbv
 refine pE (by simp [ht,hi1];omega) ?_
 cbv
 refine cE [false,false,false,false,false,false,true,true] ?_
 cbv
 refine gI (by simp) (gI (by simp) ?_)
 refine ij (.vw 0 1 0 i c true) (fun _=>⟨?_,?_⟩) ?_
 ·simp [ht,dJ,bO];omega
 ·simp [ht,aW,aT]
 cbv
 refine gI (by simp) (gI (by simp) ?_)
 refine ij (.vw 0 1 i1 Tu w9 true) (fun _=>⟨?_,?_⟩) ?_
 ·simp [ht,dJ,bO];omega
 ·simp [ht,aW,aT,V6,JO]
 cbv
 obtain ⟨m1,Zc⟩:∃n,n=m-1:=⟨_,rfl⟩
 obtain ⟨cm1,V7⟩:∃n,n=c-m1:=⟨_,rfl⟩
 obtain ⟨R1,QM⟩:∃R,R=wrote es i (es.drop i1):=⟨_,rfl⟩
 have tk:(es.drop i1).take Tu=es.drop i1:=List.take_of_length_le (by rw [List.length_drop];omega)
 have dl:(es.drop i1).length=Tu:=by rw [List.length_drop];omega
 have xo:R1.length=m:=by rw [QM];simp [wrote];omega
 have V8:R1.take m1=r:=by
  rw [QM,hr]
  unfold wrote
  rw [List.take_append_of_le_length (by simp;omega),List.take_of_length_le (by simp;omega)]
 refine bH (.vw 0 1 0 m1 c true) [.row 1 R1,.bt] ?_ ?_ ?_ ?_
 ·simp only [ht,tk,dl,eO,Nat.zero_add]
  exact ⟨by omega,⟨by omega,fun h=>by rw [h] at hm;simp at hm;omega⟩,by omega,fun r h=>aD r (List.mem_of_mem_drop h)⟩
 ·simp only [ht,tk,dl];rw [show i+Tu=m1 by omega]
 ·simp only [ht,tk,Nat.zero_add,QM]
 cbv
 refine bH (.vw 0 1 m1 1 cm1 true) [.row 1 R1,.bt] ?_ ?_ rfl ?_
 ·simp [ht,ah,dJ,bO];omega
 ·simp [ht,ah,aW,aT,V7];omega
 cbv
 obtain ⟨R2,QN⟩:∃R,R=wrote R1 m1 (List.replicate 1 [D.int IntKind.u64 0]):=⟨_,rfl⟩
 have Yu:R2.length=m:=by rw [QN];simp [wrote,xo];omega
 have V9:R2.take m1=r:=by
  rw [←V8,QN]
  unfold wrote
  rw [List.append_assoc,List.take_append_of_le_length (by simp [xo];omega),List.take_take,Nat.min_self]
 refine bH (.dV []) [.row 1 R2,.bt] ?_ rfl ?_ ?_
 ·simp only [ht,eO];exact ⟨by omega,fun h=>by rw [h] at xo;simp at xo;omega⟩
 ·simp only [ht,QN]
 cbv
 refine yQ [true] trv ?_ rfl rfl rfl ?_
 ·simp only [ht];omega
 simp only [ht,List.drop_zero,V9]
def Wt (t:Th) (r:List Int×List aI×Bool):AV:=.dV [SL (t _ fun _=>r.1.map Int.cells),SL (t _ fun _=>r.2.1.map bf),BL r.2.2]
theorem v8 {l:List Int} {es:List (List D)} (h:es=l.map Int.cells):∀r∈es,r.length=1:=by rw [h];intro r hr;obtain ⟨y,_,rfl⟩:=List.mem_map.1 hr;rfl
theorem KQ (ht:TT t) {l:List Int} {es:List (List D)} (aD:es=l.map Int.cells) {i m:Nat} (hm:m=l.length) {z z1:Int} (hz:z=i) (hz1:z1=(i:Int)+1) (hi:i<l.length) (hs:l.length<1000000) {r:List (List D)} (hr:r=(l.eraseIdx i).map Int.cells):
 FC 55 [.ow 0 1 m,bF z,bF z1] [.row 1 es] (.ret (SL r)) [.dead]:=by
 have e1:z1=((i+1:Nat):Int):=by omega
 have hel:es.length=l.length:=by rw [aD,lgM]
 subst hz
 rw [e1]
 refine dR (fun c hc hc0=>KP ht (es:=es) (i:=i) (by omega) (by omega) hc (v8 aD) (by omega) ?_)
 rw [hr,aD,List.eraseIdx_eq_take_drop_succ,List.map_append,List.map_take,List.map_drop]
theorem we (l:List Int) (k:Nat):iF (l.map Int.cells) none (some (k:Int))=(l.take k).map Int.cells:=by rw [List.map_take];rfl
theorem KR (ht:TT t) (rd nx ef af:Int) {nl:List Node} {pl:List Place} {tl:List bc} {jl:List Jb} {ql:List ct} {el al:List dU} {ns ps ts js qs es cu:List (List D)} (fI:ns=nl.map Node.cells) (hps:ps=pl.map Place.cells) (hts:ts=tl.map bc.cells) (eW:js=jl.map Jb.cells) (dZ:qs=ql.map ct.cells) (aD:es=el.map dU.cells) (has:cu=al.map dU.cells) (id:Int) (Ij:FC 18 [.agg [aB rd,aB nx,SL ns,SL ps,SL ts,SL js,SL qs,aB ef,SL es,aB af,SL cu],aB id] [] (.ret (TW t (t _ fun _=>bX ⟨rd,nx,⟨nl,pl⟩,tl,jl,ql,⟨ef,el⟩,⟨af,al⟩⟩ id))) []) (hal:(bX ⟨rd,nx,⟨nl,pl⟩,tl,jl,ql,⟨ef,el⟩,⟨af,al⟩⟩ id).length<1000) (hg:∀l,(aH ⟨rd,nx,⟨nl,pl⟩,tl,jl,ql,⟨ef,el⟩,⟨af,al⟩⟩ l).sm):
 FC 19 [.agg [aB rd,aB nx,SL ns,SL ps,SL ts,SL js,SL qs,aB ef,SL es,aB af,SL cu],aB id] [] (.ret (Wt t (t _ fun _=>aA ⟨rd,nx,⟨nl,pl⟩,tl,jl,ql,⟨ef,el⟩,⟨af,al⟩⟩ id))) []:=by
 obtain ⟨A,hA⟩:∃A,A=bX ⟨rd,nx,⟨nl,pl⟩,tl,jl,ql,⟨ef,el⟩,⟨af,al⟩⟩ id:=⟨_,rfl⟩
 obtain ⟨R,hR⟩:∃R,R=aA ⟨rd,nx,⟨nl,pl⟩,tl,jl,ql,⟨ef,el⟩,⟨af,al⟩⟩ id:=⟨_,rfl⟩
 obtain ⟨F,hF⟩:∃F,F=kX ⟨rd,nx,⟨nl,pl⟩,tl,jl,ql,⟨ef,el⟩,⟨af,al⟩⟩ id A (A.length+1) 0:=⟨_,rfl⟩
 have hRF:(F=none→R=([],[],false))∧∀l nodes,F=some (l,nodes)→R=((gu ⟨rd,nx,⟨nl,pl⟩,tl,jl,ql,⟨ef,el⟩,⟨af,al⟩⟩ id (l.length+1) 0 l nodes).1,(gu ⟨rd,nx,⟨nl,pl⟩,tl,jl,ql,⟨ef,el⟩,⟨af,al⟩⟩ id (l.length+1) 0 l nodes).2,true):=by
  have e:R=qV ⟨rd,nx,⟨nl,pl⟩,tl,jl,ql,⟨ef,el⟩,⟨af,al⟩⟩ id A:=by rw [hR,hA];rfl
  unfold qV at e
  rw [←hF] at e
  exact ⟨fun h=>by rw [h] at e;exact e,fun l nodes h=>by rw [h] at e;exact e⟩
 rw [←hA] at Ij hal
 rw [←hR]
 have hT:∀(u:List Int) (us:List (List D)),us=u.map Int.cells→u.length<1000000→FC 52 [SL us,.ptr 0 0,.ptr 1 0] [.var [aB rd,aB nx,SL ns,SL ps,SL ts,SL js,SL qs,aB ef,SL es,aB af,SL cu],.var [aB id]] (.ret (HS t (t _ fun _=>gi ⟨rd,nx,⟨nl,pl⟩,tl,jl,ql,⟨ef,el⟩,⟨af,al⟩⟩ id u))) [.var [aB rd,aB nx,SL ns,SL ps,SL ts,SL js,SL qs,aB ef,SL es,aB af,SL cu],.var [aB id]]:=
  fun u us h1 h2=>Ws ht rd nx ef af fI hps hts eW dZ aD has id h1 h2 (fun k=>hg _)
 obtain ⟨T,Zq⟩:∃T:List Int→List aI×Bool,T=gi ⟨rd,nx,⟨nl,pl⟩,tl,jl,ql,⟨ef,el⟩,⟨af,al⟩⟩ id:=⟨_,rfl⟩
 obtain ⟨G,hG⟩:∃G:Nat→Nat→Option (List Int×List aI),G=kX ⟨rd,nx,⟨nl,pl⟩,tl,jl,ql,⟨ef,el⟩,⟨af,al⟩⟩ id A:=⟨_,rfl⟩
 obtain ⟨H,hH⟩:∃H:Nat→Nat→List Int→List aI→List Int×List aI,H=gu ⟨rd,nx,⟨nl,pl⟩,tl,jl,ql,⟨ef,el⟩,⟨af,al⟩⟩ id:=⟨_,rfl⟩
 have hGs:∀n k,G (n+1) k=if (T (A.take k)).2 then some (A.take k,(T (A.take k)).1) else G n (k+1):=by intro n k;rw [hG,Zq];rfl
 have hG0:∀k,G 0 k=none:=by intro k;rw [hG];rfl
 have hHs:∀n k l nodes,H (n+1) k l nodes=if k<l.length then (if (T (l.eraseIdx k)).2 then H n k (l.eraseIdx k) (T (l.eraseIdx k)).1 else H n (k+1) l nodes) else (l,nodes):=by intro n k l nodes;rw [hH,Zq];rfl
 rw [←hG] at hF
 rw [←hH] at hRF
 rw [←Zq] at hT
 clear hG hH Zq hR hA
 refine cL ht Tryz.func19 (N:=62) ?_
 cbv
 have hw:IntKind.i64.wrap ((A.length:Int)+1)=(A.length:Int)+1:=wrap64 (by omega) (by omega)
 obtain ⟨dS,eU,ej,eV,cW,aQ,dw⟩:=gF fI hps hts eW dZ aD has
 (refine aC Ij (by simp) (fun r1 cR=>?_);simp only [ht] at cR;subst r1)
 cbv
 obtain ⟨J0,fK⟩:∃J0:Nat→List (List D)×List (List D)×Bool×Int→Prop,∀m ls nd ok i,J0 m (ls,nd,ok,i)↔(∃k:Nat,i=k∧k+m=A.length+1∧ok=false∧F=G m k):=⟨fun m v=>match v with|(ls,nd,ok,i)=>(∃k:Nat,i=k∧k+m=A.length+1∧ok=false∧F=G m k),fun _ _ _ _ _=>Iff.rfl⟩
 refine bE ⟨[4,5,6,7,8,20,21],[(4,0),(5,0)],[]⟩ (σ:=List (List D)×List (List D)×Bool×Int) (fun v=>[(4,.d (.sl (t _ fun _=>v.1))),(5,.d (.sl (t _ fun _=>v.2.1))),(6,.d (.bool (t _ fun _=>v.2.2.1))),(21,.d (.int .i64 (t _ fun _=>v.2.2.2)))]) (fun v=>[]) J0 ?_
 cbv
 refine aF ⟨A.length+1,(_,_,_,_),(fK _ _ _ _ _).2 ?_,by simp only [ht];rfl,?_⟩
 ·exact ⟨0,rfl,by simp,rfl,hF⟩
 rintro m ⟨ls,nd,ok,i⟩ hj
 replace hj:=(fK _ _ _ _ _).1 hj
 obtain ⟨k,rfl,j1,rfl,j4⟩:=hj
 cbv
 apply ap<;>intro h1
 ·simp [ht,ah,hw] at h1
  cbv
  refine ⟨?_,?_⟩
  ·(simp only [ht,bO,lgM];refine ⟨by ((try simp only [ah] at*);omega),?_⟩;exact v8 rfl)
  cbv
  ((refine Lv trv (N8 ht (by simp only [ht,we];exact v8 rfl) (by simp only [ht,we];simp;omega)) (by simp) rfl rfl rfl ?_))
  cbv
  ((obtain ⟨r,hr⟩:∃r,r=T (A.take k):=⟨_,rfl⟩;have hTk:=hT (A.take k) _ rfl (by simp;omega);rw [←hr] at hTk;rw [show m=(m-1)+1 by ((try simp only [ah] at*);omega),hGs,←hr] at j4;refine dG [0,1] trv rfl rfl (hT (A.take k) _ (by simp only [ht,we]) (by simp;omega)) (cD ?_);rw [←hr]))
  cbv
  apply ap<;>intro h2
  ·simp [ht] at h2
   cbv
   apply ap<;>intro h3
   ·simp [ht] at h3
    cbv
    refine an ?_
    (simp only [ht];grind)
   simp [ht] at h3
   cbv
   obtain ⟨J4,Oj⟩:∃J4:Nat→List (List D)×List (List D)×Int→Prop,∀m ls nd i,J4 m (ls,nd,i)↔(∃(k2:Nat) (L:List Int) (N:List aI),i=k2∧L.length=k2+m∧ls=L.map Int.cells∧nd=N.map bf∧L.length≤1000∧R=((H (m+1) k2 L N).1,(H (m+1) k2 L N).2,true)):=⟨fun m v=>match v with|(ls,nd,i)=>(∃(k2:Nat) (L:List Int) (N:List aI),i=k2∧L.length=k2+m∧ls=L.map Int.cells∧nd=N.map bf∧L.length≤1000∧R=((H (m+1) k2 L N).1,(H (m+1) k2 L N).2,true)),fun _ _ _ _=>Iff.rfl⟩
   refine bE ⟨[4,5,7,10],[],[]⟩ (σ:=List (List D)×List (List D)×Int) (fun v=>[(4,.d (.sl (t _ fun _=>v.1))),(5,.d (.sl (t _ fun _=>v.2.1))),(10,.d (.int .i64 (t _ fun _=>v.2.2)))]) (fun v=>[]) J4 ?_
   cbv
   refine aF ⟨(A.take k).length,(_,_,_),(Oj _ _ _ _).2 ?_,by simp only [ht];rfl,?_⟩
   ·exact ⟨0,A.take k,r.1,rfl,by simp,by simp only [we],rfl,by simp;omega,hRF.2 _ _ (by rw [j4,if_pos (by simp_all)])⟩
   rintro m ⟨ls,nd,i⟩ hj
   replace hj:=(Oj _ _ _ _).1 hj
   obtain ⟨k2,L,N,rfl,i1,i4,i5,i6,i7⟩:=hj
   have xk:ls.length=L.length:=by rw [i4,lgM]
   have aaY:nd.length=N.length:=by rw [i5,lgM]
   cbv
   apply ap<;>intro h5
   ·simp [ht,ah,xk] at h5
    cbv
    ((obtain ⟨n1,Ac⟩:∃n1,n1=L.length:=⟨_,rfl⟩;refine jV trv (Rn ht (m:=n1) (by simp only [ht];exact v8 i4) (by simp only [ht];rw [i4];simp;omega) (by simp only [ht];rw [i4];simp [Ac])) (by simp) rfl (.inr rfl) ?_))
    cbv
    (obtain ⟨rd2,Wu⟩:∃r,r=(L.eraseIdx k2).map Int.cells:=⟨_,rfl⟩;refine dG [2] trv rfl rfl (KQ ht (l:=L) (i:=k2) (by simp only [ht];exact i4) Ac (by simp only [ht]) (by simp only [ht];exact aE (by omega)) (by omega) (by omega) Wu) (cD ?_))
    cbv
    ((obtain ⟨r,hr⟩:∃r,r=T (L.eraseIdx k2):=⟨_,rfl⟩;refine dG [0,1] trv rfl rfl (hT (L.eraseIdx k2) _ Wu (by rw [List.length_eraseIdx];split<;>omega)) (cD ?_);rw [←hr]))
    cbv
    apply ap<;>intro h6
    ·simp [ht] at h6
     cbv
     refine cr (_,_,_) (by simp only [ht];rfl) (m-1) ?_ ((Oj _ _ _ _).2 ?_)
     ·omega
     simp only [ah]
     exact ⟨k2+1,L,N,aE (by omega),by omega,i4,i5,i6,(by have e:m-1+1=m:=(by omega);rw [e,i7,hHs,if_pos (by omega),←hr,if_neg (by simp_all)])⟩
    simp [ht] at h6
    cbv
    refine cr (_,_,_) (by simp only [ht];rfl) (m-1) ?_ ((Oj _ _ _ _).2 ?_)
    ·omega
    simp only [ah]
    exact ⟨k2,L.eraseIdx k2,r.1,rfl,by rw [List.length_eraseIdx];split<;>omega,Wu,rfl,by rw [List.length_eraseIdx];split<;>omega,(by have e:m-1+1=m:=(by omega);rw [e,i7,hHs,if_pos (by omega),←hr,if_pos (by simp_all)])⟩
   simp [ht,ah,xk] at h5
   cbv
   refine an ?_
   (have e:R=(L,N,true):=(by rw [i7,show m=0 by omega,hHs,if_neg (by omega)]);simp [ht,e,i4,i5];done)
  cbv
  refine cr (_,_,_,_) (by simp only [ht];rfl) (m-1) ?_ ((fK _ _ _ _ _).2 ?_)
  ·((try simp only [ah] at*);omega)
  simp only [ah]
  exact ⟨k+1,aE (by omega),by ((try simp only [ah] at*);omega),by simp_all,by rw [j4,if_neg (by simp_all)]⟩
 cbv
 apply ap<;>intro h7
 ·cbv
  refine an ?_
  (have hm0:m=0:=(by (simp [ht,ah,hw] at h1;omega));subst hm0;have e:=hRF.1 (j4.trans (hG0 _));simp [ht,e];done)
 (exact absurd h7 (by simp [ht]))
theorem DC {s:aU} (id:Int):(fo s id).1.length<1000000:=by
 unfold fo gV
 split
 ·simp
 split
 ·simp
 exact xu _ _ _ _
theorem uf {s:aU} {id:Int}:∀(n k:Nat) (l:List Int) (nodes:List aI),nodes.length<1000000→(gu s id n k l nodes).1.length≤l.length∧(gu s id n k l nodes).2.length<1000000
 |0,_,_,_,h=>⟨Nat.le_refl _,h⟩
 |n+1,k,l,nodes,h=>by
  rw [gu]
  split
  ·split
   ·have:=uf (s:=s) (id:=id) n k (l.eraseIdx k) (gi s id (l.eraseIdx k)).1 (DC id)
    have h2:(l.eraseIdx k).length≤l.length:=by rw [List.length_eraseIdx];split<;>omega
    exact ⟨by omega,this.2⟩
   exact uf n (k+1) l nodes h
  exact ⟨Nat.le_refl _,h⟩
theorem BJ {s:aU} {id:Int} {all:List Int}:∀(n k:Nat) (l:List Int) (nodes:List aI),kX s id all n k=some (l,nodes)→l.length≤all.length∧nodes.length<1000000
 |0,_,_,_,h=>by cases h
 |n+1,k,l,nodes,h=>by
  rw [kX] at h
  split at h
  ·cases h;exact ⟨by simp;omega,DC id⟩
  exact BJ n (k+1) l nodes h
end Dem
end
section
open Go
namespace Dem
def cI (s:aU):List Int:=(s.av.filter (·.runs)).map (·.id)
def sW (s:aU) (k:Nat):aU:={s with av:=s.av.set k {s.av.getD k Jb.zero with left:=(s.av.getD k Jb.zero).left-1}}
def bN (s:aU) (id:Int):aU:=match s.av.findIdx? (fun j=>decide (j.id=id)) with
 |none=>s
 |some k=>if (s.av.getD k Jb.zero).left-1≤0 then (send (sW s k) id 3).1 else sW s k
def ek (s:aU):aU:=(cI s).foldl bN {s with round:=u64 (s.round+1)}
def mL (s:aU):List ct→Nat→Int×Nat×Bool
 |[],_=>(0,0,false)
 |q::r,k=>if cO s q.id then (q.id,k,true) else mL s r (k+1)
def aY (s:aU) (behind:Nat):Int×Nat×Bool:=mL s (s.queue.drop behind) behind
def bK (s:aU) (at_:Nat):aU×Nat×Bool:=
 if !(aY s at_).2.2 then (s,at_,false) else
 if !(aA s (aY s at_).1).2.2 then (s,at_,false) else
 if (bS (aH s (aA s (aY s at_).1).1) (aY s at_).1 (aA s (aY s at_).1).2.1).2≠0 then (aH s (aA s (aY s at_).1).1,at_,false) else
 ((bS (aH s (aA s (aY s at_).1).1) (aY s at_).1 (aA s (aY s at_).1).2.1).1,(aY s at_).2.1,true)
def cN:Nat→aU→Nat→aU
 |0,s,_=>s
 |n+1,s,a=>if (bK s a).2.2 then cN n (bK s a).1 (bK s a).2.1 else (bK s a).1
def xF (s:aU):aU:=cN 128 s 0
def iA (s:aU):aU:=xF (ek s)
abbrev Jb.to (j:Jb) (z:Int):Jb:={j with left:=z}
theorem TY (k:Nat) (p:aI) (j:Jb) (z:Int):fR k p (j.to z)=fR k p j:=rfl
theorem TZ {s:aU} (h:s.ok) {i:Nat} {j:Jb} (hj:s.av[i]?=some j) (hr:j.runs=true) {z:Int} (hz:1≤z∧z≤j.x.eI):aU.ok {s with av:=s.av.set i (j.to z)}:=by
 have hm:=List.mem_of_getElem? hj
 have hmem:∀{y:Jb},y∈s.av.set i (j.to z)↔y=j.to z∨(y∈s.av∧y.id≠j.id):=vH h.ids hj
 have uO:∀y∈s.av.set i (j.to z),∃o∈s.av,o.id=y.id∧o.x=y.x∧o.runs=y.runs:=by
  intro y hy
  rcases hmem.1 hy with rfl|⟨g,_⟩
  ·exact ⟨j,hm,rfl,rfl,rfl⟩
  exact ⟨y,g,rfl,rfl,rfl⟩
 have YR:∀o∈s.av,∃y∈s.av.set i (j.to z),y.id=o.id∧y.x=o.x∧y.runs=o.runs:=by
  intro o ho
  by_cases e:o.id=j.id
  ·have:=cm h.ids ho hm e;subst this
   exact ⟨o.to z,hmem.2 (.inl rfl),rfl,rfl,rfl⟩
  exact ⟨o,hmem.2 (.inr ⟨ho,e⟩),rfl,rfl,rfl⟩
 refine {aG:=h.aG,gE:=h.gE,tree:=h.tree,used:=?_,most:=by simpa using h.most,next:=h.next,ids:=vI h.ids hj rfl,vK:=?_,pG:=?_,left:=?_,jS:=h.jS,kO:=h.kO,ia:=?_,places:=?_,count:=?_,notes:=h.notes}
 ·intro e he k hk
  have:=vJ k e.path (j.to z) hj
  have e2:=TY k e.path j z
  rw [h.used e he k hk]
  show _=gU k e.path (s.av.set i (j.to z))
  omega
 ·intro y hy
  obtain ⟨o,ho,e1,_⟩:=uO y hy
  rw [←e1];exact h.vK o ho
 ·intro y hy
  obtain ⟨o,ho,_,e2,_⟩:=uO y hy
  rw [←e2];exact h.pG o ho
 ·intro y hy
  rcases hmem.1 hy with rfl|⟨g,_⟩
  ·exact ⟨fun _=>hz,fun c=>by rw [show (j.to z).runs=j.runs from rfl,hr] at c;cases c⟩
  exact h.left y g
 ·intro q
  rw [h.ia q]
  constructor
  ·rintro ⟨o,ho,c,rfl⟩
   obtain ⟨y,hy,e1,e2,e3⟩:=YR o ho
   exact ⟨y,hy,by rw [e3,c],by rw [e1,e2]⟩
  rintro ⟨y,hy,c,rfl⟩
  obtain ⟨o,ho,e1,e2,e3⟩:=uO y hy
  exact ⟨o,ho,by rw [e3,c],by rw [e1,e2]⟩
 ·intro x hx
  obtain ⟨o,ho,c1,c2,c3⟩:=h.places x hx
  obtain ⟨y,hy,e1,e2,e3⟩:=YR o ho
  exact ⟨y,hy,by rw [e3,c1],by rw [e1,c2],by rw [e2];exact c3⟩
 intro y hy c
 obtain ⟨o,ho,e1,e2,e3⟩:=uO y hy
 have:=h.count o ho (by rw [e3,c])
 rw [←e1,←e2];exact this
theorem E6 {s:aU} (h:s.ok) {i:Nat} {j:Jb} (hj:s.av[i]?=some j) (z kind:Int):send {s with av:=s.av.set i (j.to z)} j.id kind=send s j.id kind:=by
 obtain ⟨h1,h2,_⟩:=dP h.ids hj
 have hi:=(List.getElem?_eq_some_iff.1 hj).1
 have e1:(s.av.set i (j.to z)).findIdx? (fun x=>decide (x.id=j.id))=some i:=by
  have:=(dP (vI h.ids hj (x:=j.to z) rfl) (i:=i) (j:=j.to z) (by rw [List.getElem?_set,if_pos rfl,if_pos hi])).1
  exact this
 have e2:(s.av.set i (j.to z)).getD i Jb.zero=j.to z:=by rw [List.getD_eq_getElem?_getD,List.getElem?_set,if_pos rfl,if_pos hi];rfl
 have e3:(s.av.set i (j.to z)).eraseIdx i=s.av.eraseIdx i:=by
  refine List.ext_getElem? fun k=>?_
  rw [List.getElem?_eraseIdx,List.getElem?_eraseIdx]
  split
  ·rw [List.getElem?_set,if_neg (by omega)]
  rw [List.getElem?_set,if_neg (by omega)]
 unfold send
 simp only
 rw [e1,h1]
 simp only
 rw [e2,h2,e3]
 cases hr:j.runs<;>rfl
theorem nw {s:aU} (h:s.ok) {i:Nat} {j:Jb} (hj:s.av[i]?=some j) (hr:j.runs=true):
 (bN s j.id).ok∧(bN s j.id).queue=s.queue∧(bN s j.id).round=s.round∧
  (bN s j.id).av=if j.left=1 then s.av.eraseIdx i else s.av.set i (j.to (j.left-1)):=by
 obtain ⟨h1,h2,_⟩:=dP h.ids hj
 have hl:=(h.left j (List.mem_of_getElem? hj)).1 hr
 have e:sW s i={s with av:=s.av.set i (j.to (j.left-1))}:=by unfold sW;rw [h2]
 unfold bN
 rw [h1]
 simp only
 rw [h2,e]
 by_cases c:j.left=1
 ·rw [if_pos (by omega),if_pos c,E6 h hj]
  obtain ⟨_,_,g⟩:=vT h hj 3
  obtain ⟨T,_,g2⟩:=g hr
  refine ⟨h.end_ _ _,?_⟩
  rw [g2]
  exact ⟨rfl,rfl,rfl⟩
 rw [if_neg (by omega),if_neg c]
 exact ⟨TZ h hj hr (by omega),rfl,rfl,rfl⟩
def cnt (L:List Int) (j:Jb):Option Jb:=if j.runs=true∧j.id∈L then (if j.left=1 then none else some (j.to (j.left-1))) else some j
theorem DD {p:Jb→Bool} {f:Jb→Option Jb}:∀l:List Jb,(∀y∈l,f y=if p y=true then some y else none)→l.filterMap f=l.filter p
 |[],_=>rfl
 |x::r,h=>by
  have h1:=h x (by simp)
  have h2:=DD r fun y hy=>h y (by simp [hy])
  rw [List.filterMap_cons,List.filter_cons,h1,h2]
  cases p x<;>rfl
theorem Ro {g:Jb→Jb} {f:Jb→Option Jb}:∀l:List Jb,(∀y∈l,f y=some (g y))→l.filterMap f=l.map g
 |[],_=>rfl
 |x::r,h=>by
  rw [List.filterMap_cons,h x (by simp),Ro r fun y hy=>h y (by simp [hy])];rfl
theorem T0 {l:List Jb} (ha:sA l) {i:Nat} {j:Jb} (hj:l[i]?=some j) (x:Jb):l.set i x=l.map fun y=>if y.id=j.id then x else y:=by
 refine List.ext_getElem? fun k=>?_
 rw [List.getElem?_set,List.getElem?_map]
 by_cases c:i=k
 ·subst c
  rw [if_pos rfl,if_pos (List.getElem?_eq_some_iff.1 hj).1,hj];simp
 rw [if_neg c]
 cases hk:l[k]? with
 |none=>rfl
 |some y=>
  have:y.id≠j.id:=fun e=>c (vG ha hj hk e.symm)
  simp [this]
theorem ug {s:aU} (h:s.ok) {i:Nat} {j:Jb} (hj:s.av[i]?=some j) (hr:j.runs=true):(bN s j.id).av=s.av.filterMap (cnt [j.id]):=by
 rw [(nw h hj hr).2.2.2]
 have hm:=List.mem_of_getElem? hj
 by_cases c:j.left=1
 ·rw [if_pos c,P4 h.ids hj]
  refine (DD _ fun y hy=>?_).symm
  unfold cnt
  by_cases e:y.id=j.id
  ·have:=cm h.ids hy hm e;subst this
   simp [hr,c]
  simp [e]
 rw [if_neg c,T0 h.ids hj]
 refine (Ro _ fun y hy=>?_).symm
 unfold cnt
 by_cases e:y.id=j.id
 ·have:=cm h.ids hy hm e;subst this
  simp [hr,c]
 simp [e]
theorem T1 {id:Int} {R:List Int} (hn:id ∉ R) (j:Jb):(cnt [id] j).bind (cnt R)=cnt (id::R) j:=by
 unfold cnt
 by_cases h1:j.runs=true∧j.id=id
 ·obtain ⟨h1,rfl⟩:=h1
  by_cases h2:j.left=1
  ·simp [h1,h2]
  simp [h1,h2,hn]
 by_cases h3:j.runs=true
 ·have h4:j.id≠id:=fun e=>h1 ⟨h3,e⟩
  simp [h3,h4]
 simp [h3]
theorem qX:∀(R:List Int) {t:aU},t.ok→R.Nodup→(∀id∈R,∃j∈t.av,j.id=id∧j.runs=true)→
 (R.foldl bN t).ok∧(R.foldl bN t).queue=t.queue∧(R.foldl bN t).round=t.round∧(R.foldl bN t).av=t.av.filterMap (cnt R)
 |[],t,h,_,_=>⟨h,rfl,rfl,by rw [show cnt []=some from funext fun j=>by simp [cnt],List.filterMap_some];rfl⟩
 |id::R,t,h,hn,hj=>by
  obtain ⟨Ac,hn2⟩:=List.nodup_cons.1 hn
  obtain ⟨j,hm,rfl,hr⟩:=hj id (by simp)
  obtain ⟨i,hi⟩:=List.getElem?_of_mem hm
  obtain ⟨c1,c2,c3,_⟩:=nw h hi hr
  have c4:=ug h hi hr
  have hj2:∀x∈R,∃o∈(bN t j.id).av,o.id=x∧o.runs=true:=by
   intro x hx
   obtain ⟨o,ho,rfl,uq⟩:=hj x (by simp [hx])
   have hne:o.id≠j.id:=fun e=>Ac (by rw [←e];exact hx)
   refine ⟨o,?_,rfl,uq⟩
   rw [c4,List.mem_filterMap]
   exact ⟨o,ho,by unfold cnt;rw [if_neg (by simp [hne])]⟩
  obtain ⟨g1,g2,g3,g4⟩:=qX R c1 hn2 hj2
  refine ⟨g1,by rw [List.foldl_cons,g2,c2],by rw [List.foldl_cons,g3,c3],?_⟩
  rw [List.foldl_cons,g4,c4,List.filterMap_filterMap]
  exact congrArg (fun f=>t.av.filterMap f) (funext fun j=>T1 Ac j)
def Ik (j:Jb):Option Jb:=if j.runs=true then (if j.left=1 then none else some (j.to (j.left-1))) else some j
theorem ny {s:aU} (h:s.ok):(ek s).ok∧(ek s).queue=s.queue∧(ek s).round=u64 (s.round+1)∧(ek s).av=s.av.filterMap Ik:=by
 have h':aU.ok {s with round:=u64 (s.round+1)}:={aG:=h.aG,gE:=h.gE,tree:=h.tree,used:=h.used,most:=h.most,next:=h.next,ids:=h.ids,vK:=h.vK,pG:=h.pG,left:=h.left,jS:=h.jS,kO:=h.kO,ia:=h.ia,places:=h.places,count:=h.count,notes:=h.notes}
 have hn:(cI s).Nodup:=by
  unfold cI
  rw [List.nodup_iff_pairwise_ne,List.pairwise_map]
  exact (h.ids.filter _).imp fun {a b} g=>by omega
 have hj:∀id∈cI s,∃j∈s.av,j.id=id∧j.runs=true:=by
  intro id hid
  obtain ⟨j,hj,e⟩:=List.mem_map.1 hid
  obtain ⟨h1,h2⟩:=List.mem_filter.1 hj
  exact ⟨j,h1,e,h2⟩
 obtain ⟨g1,g2,g3,g4⟩:=qX (cI s) h' hn hj
 refine ⟨g1,g2,g3,?_⟩
 unfold ek
 rw [g4]
 have:∀l:List Jb,(∀y∈l,y∈s.av)→l.filterMap (cnt (cI s))=l.filterMap Ik:=by
  intro l
  induction l with
  |nil=>intro _;rfl
  |cons x r ih=>
   intro hl
   have e:cnt (cI s) x=Ik x:=by
    unfold cnt Ik
    by_cases c:x.runs=true
    ·have:x.id∈cI s:=List.mem_map_of_mem (List.mem_filter.2 ⟨hl x (by simp),c⟩)
     simp [c,this]
    simp [c]
   rw [List.filterMap_cons,List.filterMap_cons,e,ih fun y hy=>hl y (by simp [hy])]
 exact this s.av fun y hy=>hy
end Dem
end
section
open Go Dem Go.Proofs
namespace Dem
variable {t:Th}
theorem T2 {l:List Jb} {q:Nat} {x:Jb} (hx:l[q]?=some x) (h:x.runs=true):((l.take (q+1)).filter (·.runs)).map (·.id)=((l.take q).filter (·.runs)).map (·.id)++[x.id]:=by rw [dy hx,List.filter_append];simp [h]
theorem Wv {l:List Jb} {q:Nat} {x:Jb} (hx:l[q]?=some x) (h:x.runs=false):((l.take (q+1)).filter (·.runs)).map (·.id)=((l.take q).filter (·.runs)).map (·.id):=by rw [dy hx,List.filter_append];simp [h]
theorem KT (ht:TT t) (rd nx ef af:Int) {nl:List Node} {pl:List Place} {tl:List bc} {jl:List Jb} {ql:List ct} {el al:List dU} {ns ps ts js qs es cu:List (List D)} (fI:ns=nl.map Node.cells) (hps:ps=pl.map Place.cells) (hts:ts=tl.map bc.cells) (eW:js=jl.map Jb.cells) (dZ:qs=ql.map ct.cells) (aD:es=el.map dU.cells) (has:cu=al.map dU.cells) (hjl:jl.length<1000000):FC 69 [.agg [aB rd,aB nx,SL ns,SL ps,SL ts,SL js,SL qs,aB ef,SL es,aB af,SL cu]] [] (.ret (TW t (t _ fun _=>cI ⟨rd,nx,⟨nl,pl⟩,tl,jl,ql,⟨ef,el⟩,⟨af,al⟩⟩))) []:=by
 refine cL ht Tryz.func69 (N:=22) ?_
 cbv
 obtain ⟨dS,eU,ej,eV,cW,aQ,dw⟩:=gF fI hps hts eW dZ aD has
 obtain ⟨J0,fK⟩:∃J0:Nat→List (List D)×Int→Prop,∀n u i,J0 n (u,i)↔(∃q:Nat,i=q∧q+n=jl.length∧u=(((jl.take q).filter (·.runs)).map (·.id)).map Int.cells):=⟨fun n v=>match v with|(u,i)=>(∃q:Nat,i=q∧q+n=jl.length∧u=(((jl.take q).filter (·.runs)).map (·.id)).map Int.cells),fun _ _ _=>Iff.rfl⟩
 refine bE ⟨[3,7,8,9],[(3,1)],[]⟩ (σ:=List (List D)×Int) (fun v=>[(3,.ow 0 1 (t _ fun _=>(v.1).length)),(9,.d (.int .i64 (t _ fun _=>v.2)))]) (fun v=>[(0,.row 1 (t _ fun _=>v.1))]) J0 ?_
 cbv
 refine aF ⟨jl.length,([],_),(fK _ _ _).2 ?_,by simp only [ht];rfl,?_⟩
 ·exact ⟨0,rfl,by simp,rfl⟩
 rintro n ⟨u,i⟩ hj
 replace hj:=(fK _ _ _).1 hj
 obtain ⟨q,rfl,j1,j4⟩:=hj
 cbv
 apply ap<;>intro h1
 ·simp [ht,ah,eV] at h1
  cbv
  (refine kL ht eW (cT:=Jb.bw t) (by simp only [ht,ah];omega) (by simp only [ht,ah];omega) (fun _=>rfl) (fun _=>by simp only [Jb.cells,Jb.bw,ht]) (fun x mx=>?_);simp [ht,ah] at mx)
  cbv
  apply ap<;>intro h2
  ·cbv
   refine ⟨?_,?_⟩
   ·(have h9:=X8 (l:=((jl.take q).filter (·.runs)).map (·.id)) (cells:=Int.cells) (u:=u) (row:=[D.int .u64 x.id]) (sz:=1) (b:=8) j4 (fun _=>rfl) rfl (by have:=List.length_filter_le (fun y:Jb=>y.runs) (jl.take q);simp at this ⊢;omega) (by decide);simp only [ht];exact ⟨trv,h9.2⟩)
   cbv
   refine cr (_,_) (by simp only [ht,←List.length_append];rfl) (n-1) ?_ ((fK _ _ _).2 ?_)
   ·omega
   simp only [ah]
   exact ⟨q+1,aE (by omega),by omega,by rw [j4,T2 mx (by simpa using h2)];simp [Int.cells]⟩
  cbv
  refine cr (_,_) (by simp only [ht];rfl) (n-1) ?_ ((fK _ _ _).2 ?_)
  ·omega
  simp only [ah]
  exact ⟨q+1,aE (by omega),by omega,by rw [j4,Wv mx (by simpa using h2)]⟩
 simp [ht,ah,eV] at h1
 cbv
 refine iq trv (by simp [ht]) rfl rfl rfl ?_
 (rw [List.take_of_length_le (by omega)] at j4;simp only [ht,cI,j4];done)
def jN (s:aU) (l:List Int):aU:=l.foldl bN s
theorem uh {s:aU} {l:List Int} {k:Nat} {x:Int} (h:l[k]?=some x):jN s (l.take (k+1))=bN (jN s (l.take k)) x:=by
 unfold jN;rw [dy h,List.foldl_append];rfl
theorem Rp {s:aU} (h:s.sm) {i:Nat} {x:Jb} (hx:s.av[i]?=some x) (z:Int):∀y∈s.av.set i {x with left:=z},y.x.fY.u'∧y.x.path.length<1000000000000:=fun y hy=>by
 rcases List.mem_or_eq_of_mem_set hy with g|rfl
 ·exact ue h y g
 exact ue h x (List.mem_of_getElem? hx)
theorem Told.aaZ {s:aU} {rd nx ef af:Int} {ns ps ts js js' qs es cu:List (List D)} {J:List Jb} (h:Told s rd nx ns ps ts js qs ef es af cu) (hj:js'=J.map Jb.cells):Told {s with av:=J} rd nx ns ps ts js' qs ef es af cu:=
 ⟨h.r,h.x,h.n,h.p,h.t,hj,h.q,h.f,h.e,h.g,h.a⟩
theorem Told.eqJ {s:aU} {rd nx ef af:Int} {ns ps ts js qs es cu:List (List D)} (h:Told s rd nx ns ps ts js qs ef es af cu) (J:List Jb):(⟨rd,nx,⟨s.aG.nodes,s.aG.places⟩,s.tree,J,s.queue,⟨ef,s.ev.l⟩,⟨af,s.au.l⟩⟩:aU)={s with av:=J}:=by
 rw [h.r,h.x,h.f,h.g]
theorem Il {l:List Jb} {i:Nat} {x:Jb} (hx:l[i]?=some x) (z:Int):(l.map Jb.cells).set i (be ((l.map Jb.cells).getD i []) 11 [.int .i64 z])=(l.set i {x with left:=z}).map Jb.cells:=by
 obtain ⟨h,e⟩:=List.getElem?_eq_some_iff.1 hx
 rw [List.map_set];congr 1
 simp [h,e,be,Jb.cells]
theorem N9 {s:aU} {id:Int} (h:s.av.findIdx? (fun j=>decide (j.id=id))=none):bN s id=s:=by unfold bN;rw [h]
theorem Rq {s:aU} {id:Int} {i:Nat} {x:Jb} (h:s.av.findIdx? (fun j=>decide (j.id=id))=some i) (hd:s.av.getD i Jb.zero=x) (hl:x.left-1≤0):bN s id=(send {s with av:=s.av.set i {x with left:=x.left-1}} id 3).1:=by
 unfold bN;rw [h];simp only;rw [hd,if_pos hl];unfold sW;rw [hd]
theorem Oa {s:aU} {id:Int} {i:Nat} {x:Jb} (h:s.av.findIdx? (fun j=>decide (j.id=id))=some i) (hd:s.av.getD i Jb.zero=x) (hl:0<x.left-1):bN s id={s with av:=s.av.set i {x with left:=x.left-1}}:=by
 unfold bN;rw [h];simp only;rw [hd,if_neg (by omega)];unfold sW;rw [hd]
theorem Ww (ht:TT t) (id i n k l a b c d:Int) (p:aI) (sr:List (List D)) (rn:Bool) (lf:Int):FC 71 [.agg [aB i,ST p,aB a,aB b,aB c,aB d,bF n,bF k,bF l,SL sr,BL rn,bF lf],.ptr 0 0] [.var [aB id]] (.ret (BL (decide (i=id)))) [.var [aB id]]:=by
 refine kM ht (bC:=[.var [aB id]]) Tryz.func71 rfl rfl (N:=8) rfl rfl (n:=1) rfl rfl ?_
 cbv
 refine an ?_
 simp [ht]
theorem Rr (ht:TT t) (rd nx ef af:Int) {nl:List Node} {pl:List Place} {tl:List bc} {jl:List Jb} {ql:List ct} {el al:List dU} {ns ps ts js qs es cu:List (List D)} (fI:ns=nl.map Node.cells) (hps:ps=pl.map Place.cells) (hts:ts=tl.map bc.cells) (eW:js=jl.map Jb.cells) (dZ:qs=ql.map ct.cells) (aD:es=el.map dU.cells) (has:cu=al.map dU.cells) (hrl:jl.length<1000000) (hg:∀k,(jN {(⟨rd,nx,⟨nl,pl⟩,tl,jl,ql,⟨ef,el⟩,⟨af,al⟩⟩:aU) with round:=u64 (rd+1)} ((cI ⟨rd,nx,⟨nl,pl⟩,tl,jl,ql,⟨ef,el⟩,⟨af,al⟩⟩).take k)).sm) (hf:∀k,∀x∈(jN {(⟨rd,nx,⟨nl,pl⟩,tl,jl,ql,⟨ef,el⟩,⟨af,al⟩⟩:aU) with round:=u64 (rd+1)} ((cI ⟨rd,nx,⟨nl,pl⟩,tl,jl,ql,⟨ef,el⟩,⟨af,al⟩⟩).take k)).av,0≤x.left∧x.left<9223372036854775808):
 FC 29 [.agg [aB rd,aB nx,SL ns,SL ps,SL ts,SL js,SL qs,aB ef,SL es,aB af,SL cu]] [] (.ret (fZ t (t _ fun _=>ek ⟨rd,nx,⟨nl,pl⟩,tl,jl,ql,⟨ef,el⟩,⟨af,al⟩⟩))) []:=by
 obtain ⟨R,hR⟩:∃R,R=cI ⟨rd,nx,⟨nl,pl⟩,tl,jl,ql,⟨ef,el⟩,⟨af,al⟩⟩:=⟨_,rfl⟩
 obtain ⟨S,hS⟩:∃S:aU,S={(⟨rd,nx,⟨nl,pl⟩,tl,jl,ql,⟨ef,el⟩,⟨af,al⟩⟩:aU) with round:=u64 (rd+1)}:=⟨_,rfl⟩
 have hE:ek ⟨rd,nx,⟨nl,pl⟩,tl,jl,ql,⟨ef,el⟩,⟨af,al⟩⟩=jN S R:=by rw [hR,hS];rfl
 have hRl:R.length<1000000:=by rw [hR];unfold cI;rw [lgM];have:=List.length_filter_le (fun y:Jb=>y.runs) jl;exact Nat.lt_of_le_of_lt this hrl
 have hRz:∀z:Int,cI {(⟨rd,nx,⟨nl,pl⟩,tl,jl,ql,⟨ef,el⟩,⟨af,al⟩⟩:aU) with round:=z}=R:=fun z=>by rw [hR];rfl
 rw [←hS,←hR] at hg hf
 have vW:Told S (u64 (rd+1)) nx ns ps ts js qs ef es af cu:=by rw [hS];exact ⟨rfl,rfl,fI,hps,hts,eW,dZ,rfl,aD,rfl,has⟩
 rw [hE]
 clear hS hE hR
 refine cL ht Tryz.func29 (N:=51) ?_
 cbv
 obtain ⟨dS,eU,ej,eV,cW,aQ,dw⟩:=gF fI hps hts eW dZ aD has
 refine aC (KT ht _ _ _ _ ‹_› ‹_› ‹_› ‹_› ‹_› ‹_› ‹_› ‹_›) trv (fun r0 c8=>?_)
 simp only [ht] at c8
 (replace c8:=(c8).trans (hRz _);subst r0)
 cbv
 obtain ⟨J1,oe⟩:∃J1:Nat→Int×Int×Int×List (List D)×List (List D)×List (List D)×List (List D)×List (List D)×Int×List (List D)×Int×List (List D)→Prop,∀n i rd nx ns ps ts js qs ef es af cu,J1 n (i,rd,nx,ns,ps,ts,js,qs,ef,es,af,cu)↔(∃k:Nat,i=k∧k+n=R.length∧Told (jN S (R.take k)) rd nx ns ps ts js qs ef es af cu):=⟨fun n v=>match v with|(i,rd,nx,ns,ps,ts,js,qs,ef,es,af,cu)=>(∃k:Nat,i=k∧k+n=R.length∧Told (jN S (R.take k)) rd nx ns ps ts js qs ef es af cu),fun _ _ _ _ _ _ _ _ _ _ _ _ _=>Iff.rfl⟩
 refine bE ⟨[1,2,11,12,13],[],[(0,5,0)]⟩ (σ:=Int×Int×Int×List (List D)×List (List D)×List (List D)×List (List D)×List (List D)×Int×List (List D)×Int×List (List D)) (fun v=>[(13,.d (.int .i64 (t _ fun _=>v.1)))]) (fun v=>[(0,.var [.d (.int .u64 (t _ fun _=>v.2.1)),.d (.int .u64 (t _ fun _=>v.2.2.1)),.d (.sl (t _ fun _=>v.2.2.2.1)),.d (.sl (t _ fun _=>v.2.2.2.2.1)),.d (.sl (t _ fun _=>v.2.2.2.2.2.1)),.d (.sl (t _ fun _=>v.2.2.2.2.2.2.1)),.d (.sl (t _ fun _=>v.2.2.2.2.2.2.2.1)),.d (.int .u64 (t _ fun _=>v.2.2.2.2.2.2.2.2.1)),.d (.sl (t _ fun _=>v.2.2.2.2.2.2.2.2.2.1)),.d (.int .u64 (t _ fun _=>v.2.2.2.2.2.2.2.2.2.2.1)),.d (.sl (t _ fun _=>v.2.2.2.2.2.2.2.2.2.2.2))])]) J1 ?_
 cbv
 refine aF ⟨R.length,(_,_,_,_,_,_,_,_,_,_,_,_),(oe _ _ _ _ _ _ _ _ _ _ _ _ _).2 ?_,by simp only [ht];rfl,?_⟩
 ·exact ⟨0,rfl,by simp,vW⟩
 rintro n ⟨i,rd,nx,ns,ps,ts,js,qs,ef,es,af,cu⟩ hj
 replace hj:=(oe _ _ _ _ _ _ _ _ _ _ _ _ _).1 hj
 obtain ⟨k,rfl,j1,jT⟩:=hj
 cbv
 apply ap<;>intro h2
 ·simp [ht,ah] at h2
  cbv
  (refine kL ht (l:=R) (cells:=Int.cells) (cT:=Int.bw t) (by simp only [ht]<;>rfl) (by simp only [ht,ah];omega) (by simp only [ht,ah];omega) (fun _=>rfl) (fun _=>rfl) (fun x2 oc=>?_);simp [ht,ah] at oc)
  cbv
  (obtain ⟨r9,jP⟩:∃r,r=Ew (jN S (R.take k)).av x2:=⟨_,rfl⟩;refine dG [2] trv rfl rfl (HF ht x2 (l:=(jN S (R.take k)).av) (by simp only [ht];exact jT.j) 71 (fun x=>decide (x.id=x2)) (by have:=(hg k).av.1;omega) (fun x _=>Ww ht x2 _ _ _ _ _ _ _ _ _ _ _ _) jP) (cD ?_);have ec:=EY jP (P:=fun _=>True) (fun _ _=>trivial);rcases ec with ⟨e1,e2⟩|⟨i,xi,xa,xb,xc,xd,xn,xp,xt,xf,xq,xr,xl,e1,e2,e3,e4,e5,_,e8⟩)
  ·cbv
   apply ap<;>intro h3
   ·simp [ht] at h3
    cbv
    refine cr (_,_,_,_,_,_,_,_,_,_,_,_) (by simp only [ht];rfl) (n-1) ?_ ((oe _ _ _ _ _ _ _ _ _ _ _ _ _).2 ?_)
    ·omega
    simp only [ah]
    exact ⟨k+1,aE (by omega),by omega,by rw [uh oc,N9 e2];exact jT⟩
   simp [ht] at h3
   omega
  cbv
  apply ap<;>intro h4
  ·simp [ht] at h4
   (simp only [ah] at*;omega)
  simp [ht] at h4
  cbv
  (refine jV trv (nu ht (l:=(jN S (R.take k)).av) (by simp only [ht];exact jT.j) (by have:=(hg k).av.1;omega)) trv rfl (.inr rfl) ?_)
  cbv
  refine ⟨?_,?_⟩
  ·(obtain ⟨_,e9⟩:=List.getElem?_eq_some_iff.1 e3;simp [ht,ah,e1,e2];done)
  cbv
  ((refine YP (l:=(jN S (R.take k)).av) (cells:=Jb.cells) rfl (Jb.bw t) (fun _=>by simp only [Jb.cells,Jb.bw,ht]) i e2 (by simp only [ht,ah,e1,Int.toNat_natCast]) (fun h=>by simp only [ht,ah,e1,Int.toNat_natCast];exact h) (fun x mx=>?_);rw [e3] at mx;cases mx))
  cbv
  refine ⟨?_,?_⟩
  ·(obtain ⟨_,e9⟩:=List.getElem?_eq_some_iff.1 e3;simp [ht,ah,e1,e2];done)
  refine ⟨?_,?_⟩
  ·(obtain ⟨_,e9⟩:=List.getElem?_eq_some_iff.1 e3;simp [ht,ah,e1,e2,e9,Jb.cells];done)
  refine ⟨?_,?_⟩
  ·(obtain ⟨_,e9⟩:=List.getElem?_eq_some_iff.1 e3;simp [ht,ah,e1,e2];done)
  cbv
  ((obtain ⟨z9,YS⟩:∃z,z=IntKind.i64.wrap (xf-1):=⟨_,rfl⟩;refine PE (Jb.bw t ⟨xi,⟨xq,⟨xa,xb,xc,xd⟩,xn,xp,xt,xl⟩,xr,z9⟩) (by simp only [ht,ah,e1,Int.toNat_natCast,List.length_set,lgM];exact e2) (by obtain ⟨_,e9⟩:=List.getElem?_eq_some_iff.1 e3;simp [ht,ah,e1,e2,e9,YS,be,Jb.cells,Jb.bw]) ?_))
  cbv
  apply ap<;>intro h5
  ·simp [ht] at h5
   cbv
   (have pO:=hg k;have hz8:z9=xf-1:=(by have h8:=hf k _ (List.mem_of_getElem? e3);simp only at h8;rw [YS];exact wrap64 (by omega) (by omega));refine Jp (E:=LZ t) trv rfl (by simp [ht]) (by exact dD [] rfl rfl rfl rfl (QR ht _ _ _ _ (nl:=(jN S (R.take k)).aG.nodes) (pl:=(jN S (R.take k)).aG.places) (tl:=(jN S (R.take k)).tree) (jl:=(jN S (R.take k)).av.set i ⟨xi,⟨xq,⟨xa,xb,xc,xd⟩,xn,xp,xt,xl⟩,xr,xf-1⟩) (ql:=(jN S (R.take k)).queue) (el:=(jN S (R.take k)).ev.l) (al:=(jN S (R.take k)).au.l) (by simp only [ht];exact jT.n) (by simp only [ht];exact jT.p) (by simp only [ht];exact jT.t) (by simp only [ht,ah,e1,Int.toNat_natCast];rw [←YS,hz8];exact Il e3 _) (by simp only [ht];exact jT.q) (by simp only [ht];exact jT.e) (by simp only [ht];exact jT.a) x2 3 (Rp pO e3 _) pO.tree.1 (by rw [List.length_set];exact pO.av.1) pO.places pO.queue pO.notes.1)) (fun r1 cR=>?_);simp only [ht] at cR;rw [jT.eqJ] at cR)
   cbv
   refine cr (_,_,_,_,_,_,_,_,_,_,_,_) (by simp only [ht];rfl) (n-1) ?_ ((oe _ _ _ _ _ _ _ _ _ _ _ _ _).2 ?_)
   ·omega
   simp only [ah]
   exact ⟨k+1,aE (by omega),by omega,by rw [uh oc,Rq e4 e5 (by simp only;omega),←cR];exact Told.self r1.1⟩
  simp [ht] at h5
  cbv
  refine ⟨?_,?_⟩
  ·(exact ⟨⟨by simp [ht]⟩,trv⟩)
  cbv
  refine cr (_,_,_,_,_,_,_,_,_,_,_,_) (by simp only [ht];rfl) (n-1) ?_ ((oe _ _ _ _ _ _ _ _ _ _ _ _ _).2 ?_)
  ·omega
  simp only [ah]
  (have h8:=hf k _ (List.mem_of_getElem? e3);simp only at h8;have hz8:z9=xf-1:=(by rw [YS];exact wrap64 (by omega) (by omega));simp only [ah] at e1;exact ⟨k+1,aE (by omega),by omega,by rw [uh oc,Oa e4 e5 (by simp only;omega)];exact jT.aaZ (by simp only [e1,Int.toNat_natCast];rw [←YS,hz8];exact Il e3 _)⟩)
 simp [ht,ah] at h2
 cbv
 refine an ?_
 (rw [List.take_of_length_le (by omega)] at jT;simp only [ht,jT.r,jT.x,jT.n,jT.p,jT.t,jT.j,jT.q,jT.f,jT.e,jT.g,jT.a];done)
def Wx (t:Th) (r:Int×Nat×Bool):AV:=.dV [aB r.1,bF (t _ fun _=>(r.2.1:Int)),BL r.2.2]
theorem Mh (ht:TT t) (rd nx ef af:Int) {nl:List Node} {pl:List Place} {tl:List bc} {jl:List Jb} {ql:List ct} {el al:List dU} {ns ps ts js qs es cu:List (List D)} (fI:ns=nl.map Node.cells) (hps:ps=pl.map Place.cells) (hts:ts=tl.map bc.cells) (eW:js=jl.map Jb.cells) (dZ:qs=ql.map ct.cells) (aD:es=el.map dU.cells) (has:cu=al.map dU.cells) (hC:∀id,FC 23 [.agg [aB rd,aB nx,SL ns,SL ps,SL ts,SL js,SL qs,aB ef,SL es,aB af,SL cu],aB id] [] (.ret (dH (t _ fun _=>cO ⟨rd,nx,⟨nl,pl⟩,tl,jl,ql,⟨ef,el⟩,⟨af,al⟩⟩ id))) []) (UQ:ql.length<1000000) (b:Nat) {bb:Int} (hb:bb=b) (um:b<1000000):
 FC 28 [.agg [aB rd,aB nx,SL ns,SL ps,SL ts,SL js,SL qs,aB ef,SL es,aB af,SL cu],bF bb] [] (.ret (Wx t (t _ fun _=>aY ⟨rd,nx,⟨nl,pl⟩,tl,jl,ql,⟨ef,el⟩,⟨af,al⟩⟩ b))) []:=by
 obtain ⟨S,hS⟩:∃S:aU,S=⟨rd,nx,⟨nl,pl⟩,tl,jl,ql,⟨ef,el⟩,⟨af,al⟩⟩:=⟨_,rfl⟩
 rw [←hS] at hC ⊢
 have hE:aY S b=mL S (ql.drop b) b:=by rw [hS];rfl
 rw [hE]
 clear hS hE
 refine cL ht Tryz.func28 (N:=32) ?_
 cbv
 obtain ⟨dS,eU,ej,eV,cW,aQ,dw⟩:=gF fI hps hts eW dZ aD has
 obtain ⟨J0,fK⟩:∃J0:Nat→Int→Prop,∀n kk,J0 n kk↔(∃k:Nat,kk=k∧k+n=max b ql.length∧mL S (ql.drop b) b=mL S (ql.drop k) k):=⟨fun n v=>match v with|kk=>(∃k:Nat,kk=k∧k+n=max b ql.length∧mL S (ql.drop b) b=mL S (ql.drop k) k),fun _ _=>Iff.rfl⟩
 refine bE ⟨[2,7],[],[]⟩ (σ:=Int) (fun v=>[(7,.d (.int .i64 (t _ fun _=>v)))]) (fun v=>[]) J0 ?_
 cbv
 refine aF ⟨(max b ql.length-b),_,(fK _ _).2 ?_,rfl,?_⟩
 ·exact ⟨b,by ((try simp only [ah] at*);omega),by omega,rfl⟩
 rintro n kk hj
 replace hj:=(fK _ _).1 hj
 obtain ⟨k,rfl,j1,j2⟩:=hj
 cbv
 apply ap<;>intro h1
 ·simp [ht,ah,cW] at h1
  cbv
  refine cE [false,false,false,false,false,false,false,true] ?_
  cbv
  iterate 4 refine gI (by simp) ?_
  ((refine kL ht dZ (cT:=ct.bw t) (by simp only [ht,ah];omega) (by simp only [ht,ah];omega) (fun _=>rfl) (fun _=>rfl) (fun x mx=>?_);simp [ht,ah] at mx))
  cbv
  iterate 2 refine gI (by simp) ?_
  (refine aP (hC _) (by simp) (fun r1 cR=>?_);simp only [ht] at cR)
  cbv
  apply ap<;>intro h2
  ·cbv
   ((refine yR ht dZ (cT:=ct.bw t) mx (by simp only [ht]) (fun _=>rfl) (fun _=>rfl) ?_))
   cbv
   refine an ?_
   (rw [cR] at h2;simp only [ht,j2,gW mx,mL];rw [if_pos h2];done)
  cbv
  refine cr _ (by simp only [ht];rfl) (n-1) ?_ ((fK _ _).2 ?_)
  ·omega
  simp only [ah]
  exact ⟨k+1,aE (by omega),by omega,by rw [j2,gW mx,mL,if_neg (by simp_all)]⟩
 simp [ht,ah,cW] at h1
 cbv
 refine an ?_
 (simp only [ht,j2];rw [List.drop_eq_nil_of_le (by omega)];rfl)
def Wy (t:Th) (r:aU×Nat×Bool):AV:=.dV [.agg [aB r.1.round,aB r.1.next,SL (t _ fun _=>r.1.aG.nodes.map Node.cells),SL (t _ fun _=>r.1.aG.places.map Place.cells),SL (t _ fun _=>r.1.tree.map bc.cells),SL (t _ fun _=>r.1.av.map Jb.cells),SL (t _ fun _=>r.1.queue.map ct.cells),aB r.1.ev.first,SL (t _ fun _=>r.1.ev.l.map dU.cells),aB r.1.au.first,SL (t _ fun _=>r.1.au.l.map dU.cells),bF (t _ fun _=>(r.2.1:Int))],BL r.2.2]
theorem Rs (ht:TT t) (rd nx ef af:Int) {nl:List Node} {pl:List Place} {tl:List bc} {jl:List Jb} {ql:List ct} {el al:List dU} {ns ps ts js qs es cu:List (List D)} (fI:ns=nl.map Node.cells) (hps:ps=pl.map Place.cells) (hts:ts=tl.map bc.cells) (eW:js=jl.map Jb.cells) (dZ:qs=ql.map ct.cells) (aD:es=el.map dU.cells) (has:cu=al.map dU.cells) (a:Nat) {aa:Int} (RN:aa=a) {w:Int×Nat×Bool} (hw:w=aY ⟨rd,nx,⟨nl,pl⟩,tl,jl,ql,⟨ef,el⟩,⟨af,al⟩⟩ a) {vi:List Int×List aI×Bool} (hv:w.2.2=true→vi=aA ⟨rd,nx,⟨nl,pl⟩,tl,jl,ql,⟨ef,el⟩,⟨af,al⟩⟩ w.1)
 (hN:FC 28 [.agg [aB rd,aB nx,SL ns,SL ps,SL ts,SL js,SL qs,aB ef,SL es,aB af,SL cu],bF aa] [] (.ret (Wx t (t _ fun _=>w))) []) (hV:w.2.2=true→FC 19 [.agg [aB rd,aB nx,SL ns,SL ps,SL ts,SL js,SL qs,aB ef,SL es,aB af,SL cu],aB w.1] [] (.ret (Wt t (t _ fun _=>vi))) [])
 (hvl:vi.1.length<1000000∧vi.2.1.length<1000000) (hg:∀k,(aH ⟨rd,nx,⟨nl,pl⟩,tl,jl,ql,⟨ef,el⟩,⟨af,al⟩⟩ (vi.1.take k)).sm):
 FC 72 [.agg [aB rd,aB nx,SL ns,SL ps,SL ts,SL js,SL qs,aB ef,SL es,aB af,SL cu,bF aa]] [] (.ret (Wy t (t _ fun _=>bK ⟨rd,nx,⟨nl,pl⟩,tl,jl,ql,⟨ef,el⟩,⟨af,al⟩⟩ a))) []:=by
 obtain ⟨S,hS⟩:∃S:aU,S=⟨rd,nx,⟨nl,pl⟩,tl,jl,ql,⟨ef,el⟩,⟨af,al⟩⟩:=⟨_,rfl⟩
 rw [←hS] at hg hw hv ⊢
 have vW:Told S rd nx ns ps ts js qs ef es af cu:=by rw [hS];exact ⟨rfl,rfl,fI,hps,hts,eW,dZ,rfl,aD,rfl,has⟩
 obtain ⟨R,hR⟩:∃R,R=bK S a:=⟨_,rfl⟩
 have r1:w.2.2=false→R=(S,a,false):=by intro h;rw [hR];unfold bK;rw [←hw,h];rfl
 have r2:w.2.2=true→vi.2.2=false→R=(S,a,false):=by intro h h2;rw [hR];unfold bK;rw [←hw,h,←hv h,h2];rfl
 have r3:w.2.2=true→vi.2.2=true→(bS (aH S vi.1) w.1 vi.2.1).2≠0→R=(aH S vi.1,a,false):=by intro h h2 h3;rw [hR];unfold bK;rw [←hw,h,←hv h,h2];simp only [Bool.not_true,Bool.false_eq_true,if_false];rw [if_pos h3]
 have r4:w.2.2=true→vi.2.2=true→(bS (aH S vi.1) w.1 vi.2.1).2=0→R=((bS (aH S vi.1) w.1 vi.2.1).1,w.2.1,true):=by intro h h2 h3;rw [hR];unfold bK;rw [←hw,h,←hv h,h2];simp only [Bool.not_true,Bool.false_eq_true,if_false];rw [if_neg (by simp [h3])]
 rw [←hR]
 clear hS hR hw hv
 refine cL ht Tryz.func72 (N:=65) ?_
 cbv
 obtain ⟨dS,eU,ej,eV,cW,aQ,dw⟩:=gF fI hps hts eW dZ aD has
 (refine aC hN (by simp) (fun r9 jP=>?_);simp only [ht] at jP;subst r9)
 cbv
 apply ap<;>intro h0
 ·simp [ht] at h0
  cbv
  refine an ?_
  (simp only [ht,r1 (by simp_all),vW.r,vW.x,vW.n,vW.p,vW.t,vW.j,vW.q,vW.f,vW.e,vW.g,vW.a,RN];done)
 simp [ht] at h0
 cbv
 (refine aC (hV ‹_›) (by simp) (fun q2 eq2=>?_);simp only [ht] at eq2;subst q2)
 cbv
 apply ap<;>intro h1
 ·simp [ht] at h1
  cbv
  refine an ?_
  (simp only [ht,r2 ‹_› (by simp_all),vW.r,vW.x,vW.n,vW.p,vW.t,vW.j,vW.q,vW.f,vW.e,vW.g,vW.a,RN];done)
 simp [ht] at h1
 cbv
 obtain ⟨J2,yW⟩:∃J2:Nat→Int×Int×Int×List (List D)×List (List D)×List (List D)×List (List D)×List (List D)×Int×List (List D)×Int×List (List D)×Int→Prop,∀n i rd nx ns ps ts js qs ef es af cu ax,J2 n (i,rd,nx,ns,ps,ts,js,qs,ef,es,af,cu,ax)↔(∃k:Nat,i=k∧k+n=vi.1.length∧ax=aa∧Told (aH S (vi.1.take k)) rd nx ns ps ts js qs ef es af cu):=⟨fun n v=>match v with|(i,rd,nx,ns,ps,ts,js,qs,ef,es,af,cu,ax)=>(∃k:Nat,i=k∧k+n=vi.1.length∧ax=aa∧Told (aH S (vi.1.take k)) rd nx ns ps ts js qs ef es af cu),fun _ _ _ _ _ _ _ _ _ _ _ _ _ _=>Iff.rfl⟩
 refine bE ⟨[1,2,4,5,8,36,37,38],[],[]⟩ (σ:=Int×Int×Int×List (List D)×List (List D)×List (List D)×List (List D)×List (List D)×Int×List (List D)×Int×List (List D)×Int) (fun v=>[(38,.d (.int .i64 (t _ fun _=>v.1)))]) (fun v=>[(0,.var [.d (.int .u64 (t _ fun _=>v.2.1)),.d (.int .u64 (t _ fun _=>v.2.2.1)),.d (.sl (t _ fun _=>v.2.2.2.1)),.d (.sl (t _ fun _=>v.2.2.2.2.1)),.d (.sl (t _ fun _=>v.2.2.2.2.2.1)),.d (.sl (t _ fun _=>v.2.2.2.2.2.2.1)),.d (.sl (t _ fun _=>v.2.2.2.2.2.2.2.1)),.d (.int .u64 (t _ fun _=>v.2.2.2.2.2.2.2.2.1)),.d (.sl (t _ fun _=>v.2.2.2.2.2.2.2.2.2.1)),.d (.int .u64 (t _ fun _=>v.2.2.2.2.2.2.2.2.2.2.1)),.d (.sl (t _ fun _=>v.2.2.2.2.2.2.2.2.2.2.2.1)),.d (.int .i64 (t _ fun _=>v.2.2.2.2.2.2.2.2.2.2.2.2))])]) J2 ?_
 cbv
 refine aF ⟨vi.1.length,(_,_,_,_,_,_,_,_,_,_,_,_,_),(yW _ _ _ _ _ _ _ _ _ _ _ _ _ _).2 ?_,by simp only [ht];rfl,?_⟩
 ·exact ⟨0,rfl,by simp,rfl,vW⟩
 rintro n ⟨i,rd,nx,ns,ps,ts,js,qs,ef,es,af,cu,ax⟩ hj
 replace hj:=(yW _ _ _ _ _ _ _ _ _ _ _ _ _ _).1 hj
 obtain ⟨k,rfl,j1,jx,jT⟩:=hj
 cbv
 apply ap<;>intro h3
 ·simp [ht,ah] at h3
  cbv
  (refine kL ht (l:=vi.1) (cells:=Int.cells) (cT:=Int.bw t) (by simp only [ht]<;>rfl) (by simp only [ht,ah];omega) (by simp only [ht,ah];omega) (fun _=>rfl) (fun _=>rfl) (fun x2 oc=>?_);simp [ht,ah] at oc)
  cbv
  (have pO:=hg k;refine aC (EZ ht _ _ _ _ (nl:=(aH S (vi.1.take k)).aG.nodes) (pl:=(aH S (vi.1.take k)).aG.places) (tl:=(aH S (vi.1.take k)).tree) (jl:=(aH S (vi.1.take k)).av) (ql:=(aH S (vi.1.take k)).queue) (el:=(aH S (vi.1.take k)).ev.l) (al:=(aH S (vi.1.take k)).au.l) (by simp only [ht];exact jT.n) (by simp only [ht];exact jT.p) (by simp only [ht];exact jT.t) (by simp only [ht];exact jT.j) (by simp only [ht];exact jT.q) (by simp only [ht];exact jT.e) (by simp only [ht];exact jT.a) _ _ (ue pO) pO.tree.1 pO.av.1 pO.places pO.queue pO.notes.1) (by simp) (fun r1 cR=>?_);simp only [ht] at cR;rw [jT.eq] at cR)
  cbv
  refine cr (_,_,_,_,_,_,_,_,_,_,_,_,_) (by simp only [ht];rfl) (n-1) ?_ ((yW _ _ _ _ _ _ _ _ _ _ _ _ _ _).2 ?_)
  ·omega
  simp only [ah]
  exact ⟨k+1,aE (by omega),by omega,jx,by rw [sR oc,←cR];exact Told.self r1.1⟩
 simp [ht,ah] at h3
 cbv
 (have pO:=hg k;rw [List.take_of_length_le (by omega)] at jT pO;refine aC (vV ht _ _ _ _ (nl:=(aH S vi.1).aG.nodes) (pl:=(aH S vi.1).aG.places) (tl:=(aH S vi.1).tree) (jl:=(aH S vi.1).av) (ql:=(aH S vi.1).queue) (el:=(aH S vi.1).ev.l) (al:=(aH S vi.1).au.l) (by simp only [ht];exact jT.n) (by simp only [ht];exact jT.p) (by simp only [ht];exact jT.t) (by simp only [ht];exact jT.j) (by simp only [ht];exact jT.q) (by simp only [ht];exact jT.e) (by simp only [ht];exact jT.a) w.1 (names:=vi.2.1) (by simp only [ht]) (ue pO) pO.tree.1 pO.av.1 pO.nodes.1 pO.places pO.queue pO.notes.1 hvl.2) (by simp) (fun b eb=>?_);simp only [ht] at eb;rw [jT.eq] at eb;rw [←eb] at r3 r4)
 cbv
 apply ap<;>intro h4
 ·simp [ht] at h4
  cbv
  refine an ?_
  (simp only [ht,r3 ‹_› ‹_› ‹_›,jT.r,jT.x,jT.n,jT.p,jT.t,jT.j,jT.q,jT.f,jT.e,jT.g,jT.a,jx,RN];done)
 simp [ht] at h4
 cbv
 refine an ?_
 (simp only [ht,r4 ‹_› ‹_› ‹_›];done)
theorem Ob (ht:TT t) (rd nx ef af:Int) {nl:List Node} {pl:List Place} {tl:List bc} {jl:List Jb} {ql:List ct} {el al:List dU} {ns ps ts js qs es cu:List (List D)} (fI:ns=nl.map Node.cells) (hps:ps=pl.map Place.cells) (hts:ts=tl.map bc.cells) (eW:js=jl.map Jb.cells) (dZ:qs=ql.map ct.cells) (aD:es=el.map dU.cells) (has:cu=al.map dU.cells) (P:aU→Nat→Prop) (h0:P ⟨rd,nx,⟨nl,pl⟩,tl,jl,ql,⟨ef,el⟩,⟨af,al⟩⟩ 0) (hP:∀T a,P T a→(bK T a).2.2=true→P (bK T a).1 (bK T a).2.1)
 (hC:∀T a,P T a→∀rd nx ns ps ts js qs ef es af cu,Told T rd nx ns ps ts js qs ef es af cu→∀aa:Int,aa=a→FC 72 [.agg [aB rd,aB nx,SL ns,SL ps,SL ts,SL js,SL qs,aB ef,SL es,aB af,SL cu,bF aa]] [] (.ret (Wy t (t _ fun _=>bK T a))) []):
 FC 30 [.agg [aB rd,aB nx,SL ns,SL ps,SL ts,SL js,SL qs,aB ef,SL es,aB af,SL cu]] [] (.ret (fZ t (t _ fun _=>xF ⟨rd,nx,⟨nl,pl⟩,tl,jl,ql,⟨ef,el⟩,⟨af,al⟩⟩))) []:=by
 obtain ⟨S,hS⟩:∃S:aU,S=⟨rd,nx,⟨nl,pl⟩,tl,jl,ql,⟨ef,el⟩,⟨af,al⟩⟩:=⟨_,rfl⟩
 have vW:Told S rd nx ns ps ts js qs ef es af cu:=by rw [hS];exact ⟨rfl,rfl,fI,hps,hts,eW,dZ,rfl,aD,rfl,has⟩
 rw [←hS] at h0 ⊢
 obtain ⟨R,hR⟩:∃R,R=xF S:=⟨_,rfl⟩
 have hR0:R=cN 128 S 0:=hR
 rw [←hR]
 clear hS hR
 refine cL ht Tryz.func30 (N:=23) ?_
 cbv
 obtain ⟨dS,eU,ej,eV,cW,aQ,dw⟩:=gF fI hps hts eW dZ aD has
 obtain ⟨J0,fK⟩:∃J0:Nat→Int×Int×Int×List (List D)×List (List D)×List (List D)×List (List D)×List (List D)×Int×List (List D)×Int×List (List D)×Int→Prop,∀n i rd nx ns ps ts js qs ef es af cu ax,J0 n (i,rd,nx,ns,ps,ts,js,qs,ef,es,af,cu,ax)↔(∃(k:Nat) (T:aU) (a:Nat),i=k∧k+n=128∧ax=a∧Told T rd nx ns ps ts js qs ef es af cu∧P T a∧R=cN n T a):=⟨fun n v=>match v with|(i,rd,nx,ns,ps,ts,js,qs,ef,es,af,cu,ax)=>(∃(k:Nat) (T:aU) (a:Nat),i=k∧k+n=128∧ax=a∧Told T rd nx ns ps ts js qs ef es af cu∧P T a∧R=cN n T a),fun _ _ _ _ _ _ _ _ _ _ _ _ _ _=>Iff.rfl⟩
 refine bE ⟨[2,3,4,9],[],[]⟩ (σ:=Int×Int×Int×List (List D)×List (List D)×List (List D)×List (List D)×List (List D)×Int×List (List D)×Int×List (List D)×Int) (fun v=>[(9,.d (.int .i64 (t _ fun _=>v.1)))]) (fun v=>[(1,.var [.d (.int .u64 (t _ fun _=>v.2.1)),.d (.int .u64 (t _ fun _=>v.2.2.1)),.d (.sl (t _ fun _=>v.2.2.2.1)),.d (.sl (t _ fun _=>v.2.2.2.2.1)),.d (.sl (t _ fun _=>v.2.2.2.2.2.1)),.d (.sl (t _ fun _=>v.2.2.2.2.2.2.1)),.d (.sl (t _ fun _=>v.2.2.2.2.2.2.2.1)),.d (.int .u64 (t _ fun _=>v.2.2.2.2.2.2.2.2.1)),.d (.sl (t _ fun _=>v.2.2.2.2.2.2.2.2.2.1)),.d (.int .u64 (t _ fun _=>v.2.2.2.2.2.2.2.2.2.2.1)),.d (.sl (t _ fun _=>v.2.2.2.2.2.2.2.2.2.2.2.1)),.d (.int .i64 (t _ fun _=>v.2.2.2.2.2.2.2.2.2.2.2.2))])]) J0 ?_
 cbv
 refine aF ⟨128,(_,_,_,_,_,_,_,_,_,_,_,_,_),(fK _ _ _ _ _ _ _ _ _ _ _ _ _ _).2 ?_,by simp only [ht];rfl,?_⟩
 ·exact ⟨0,S,0,rfl,rfl,rfl,vW,h0,hR0⟩
 rintro n ⟨i,rd,nx,ns,ps,ts,js,qs,ef,es,af,cu,ax⟩ hj
 replace hj:=(fK _ _ _ _ _ _ _ _ _ _ _ _ _ _).1 hj
 obtain ⟨k,T,a,rfl,j1,j2,j3,j4,j5⟩:=hj
 cbv
 apply ap<;>intro h1
 ·simp [ht,ah] at h1
  cbv
  (refine aC (hC T a j4 _ _ _ _ _ _ _ _ _ _ _ (by simp only [ht];exact j3) _ (by simp only [ht];exact j2)) (by simp) (fun r1 cR=>?_);simp only [ht] at cR)
  cbv
  apply ap<;>intro h2
  ·simp [ht] at h2
   cbv
   refine an ?_
   (obtain ⟨m,rfl⟩:∃m,n=m+1:=⟨n-1,(by ((try simp only [ah] at*);omega))⟩;rw [cN,←cR,if_neg (by simp_all)] at j5;simp only [ht,j5];done)
  simp [ht] at h2
  cbv
  refine cr (_,_,_,_,_,_,_,_,_,_,_,_,_) (by simp only [ht];rfl) (n-1) ?_ ((fK _ _ _ _ _ _ _ _ _ _ _ _ _ _).2 ?_)
  ·((try simp only [ah] at*);omega)
  simp only [ah]
  (obtain ⟨m,rfl⟩:∃m,n=m+1:=⟨n-1,(by ((try simp only [ah] at*);omega))⟩;rw [cN,if_pos (by rw [←cR];assumption)] at j5;exact ⟨k+1,r1.1,r1.2.1,aE (by omega),by omega,rfl,Told.self r1.1,by rw [cR];exact hP _ _ j4 (by rw [←cR];assumption),by rw [cR];exact j5⟩)
 simp [ht,ah] at h1
 cbv
 refine an ?_
 (obtain rfl:n=0:=(by ((try simp only [ah] at*);omega));rw [cN] at j5;simp only [ht,j5,j3.r,j3.x,j3.n,j3.p,j3.t,j3.j,j3.q,j3.f,j3.e,j3.g,j3.a];done)
end Dem
end
section
open Go
namespace Dem
theorem qZ {s:aU} (h:s.ok) (a:Nat):(bK s a).1.ok:=by
 have h1:=(cP h (aA s (aY s a).1).1).ok
 unfold bK
 split
 ·exact h
 split
 ·exact h
 split
 ·exact h1
 exact h1.w8 _ _
theorem BK:∀(n:Nat) {s:aU} (a:Nat),s.ok→(cN n s a).ok
 |0,_,_,h=>h
 |n+1,s,a,h=>by
  unfold cN
  split
  ·exact BK n _ (qZ h a)
  exact qZ h a
theorem Rt {s:aU} (h:s.ok):(iA s).ok:=BK 128 0 (ny h).1
theorem uj (s:aU):∀(l:List ct) (k:Nat),(match mL s l k with|(id,at_,ok)=>(ok=true→k≤at_∧∃q,l[at_-k]?=some q∧q.id=id∧cO s id=true∧∀i<at_-k,∀p,l[i]?=some p→cO s p.id=false)∧
 (ok=false→id=0∧at_=0∧∀p∈l,cO s p.id=false))
 |[],k=>by simp [mL]
 |q::r,k=>by
  unfold mL
  by_cases c:cO s q.id=true
  ·rw [if_pos c]
   exact ⟨fun _=>⟨Nat.le_refl _,q,by simp,rfl,c,fun i hi=>by omega⟩,fun e=>by cases e⟩
  rw [if_neg c]
  have ih:=uj s r (k+1)
  cases hn:mL s r (k+1) with
  |mk id t=>
   obtain ⟨at_,ok⟩:=t
   rw [hn] at ih
   simp only at ih ⊢
   refine ⟨fun e=>?_,fun e=>?_⟩
   ·obtain ⟨h1,p,h2,h3,h4,h5⟩:=ih.1 e
    refine ⟨by omega,p,?_,h3,h4,fun i hi x hx=>?_⟩
    ·rw [show at_-k=(at_-(k+1))+1 by omega];simpa using h2
    cases i with
    |zero=>simp at hx;subst hx;simpa using c
    |succ i=>exact h5 i (by omega) x (by simpa using hx)
   obtain ⟨h1,h2,h3⟩:=ih.2 e
   refine ⟨h1,h2,fun x hx=>?_⟩
   rcases List.mem_cons.1 hx with rfl|hx
   ·simpa using c
   exact h3 x hx
theorem KU {t u:List bc} (h:bV t u):ol u=ol t:=by
 refine List.ext_getElem? fun i=>?_
 unfold ol
 rw [List.getElem?_map,List.getElem?_map]
 cases hi:t[i]? with
 |none=>rw [List.getElem?_eq_none_iff] at hi;rw [List.getElem?_eq_none_iff.2 (by rw [h.len];exact hi)]
 |some e=>
  obtain ⟨x,h1,h2,h3⟩:=h.at_ i e hi
  rw [h1]
  cases x;cases e;simp_all
theorem DE {s:aU} (h:s.ok) {j:Jb} (hj:j∈s.av) (hr:j.runs=false):eG s j.id=(j,true):=by
 obtain ⟨i,hi⟩:=List.getElem?_of_mem hj
 unfold eG
 rw [(dP h.ids hi).2.2]
 simp [hr]
theorem mM {s t:aU} (h:s.ok) (h':t.ok) (hn:t.aG.nodes=s.aG.nodes) (hk:bV s.tree t.tree) {j o:Jb} (hj:j∈s.av) (hr:j.runs=false) (ho:o∈t.av) (uq:o.runs=false) (e:o.id=j.id) (ex:o.x=j.x):
 cO t j.id=cO s j.id:=by
 have a:=DE h hj hr
 have b:=DE h' ho uq
 rw [e] at b
 unfold cO gV qO
 rw [a,b,hn,KU hk]
 simp only
 rw [ex]
theorem ot {s:aU} (h:s.ok) {a:Nat} (e:(bK s a).2.2=true):
 (aY s a).2.2=true∧(aA s (aY s a).1).2.2=true∧(bK s a).2.1=(aY s a).2.1∧(bK s a).1.ok∧(bK s a).1.aG.nodes=s.aG.nodes∧bV s.tree (bK s a).1.tree∧
 ∃(i:Nat) (j:Jb),s.av[i]?=some j∧j.id=(aY s a).1∧j.runs=false∧(bK s a).1.av=(s.av.map (bY (aA s (aY s a).1).1)).set i j.begun:=by
 have hok:=qZ h a
 have g:=cP h (aA s (aY s a).1).1
 unfold bK at e hok ⊢
 cases c1:(aY s a).2.2 with
 |false=>rw [c1] at e;cases e
 |true=>
  rw [c1] at e hok
  rw [show (!true)=false from rfl,if_neg (by decide)] at e hok ⊢
  cases c2:(aA s (aY s a).1).2.2 with
  |false=>rw [c2] at e;cases e
  |true=>
   rw [c2] at e hok
   rw [show (!true)=false from rfl,if_neg (by decide)] at e hok ⊢
   by_cases c3:(bS (aH s (aA s (aY s a).1).1) (aY s a).1 (aA s (aY s a).1).2.1).2=0
   ·rw [if_neg (by simp [c3])] at e hok ⊢
    refine ⟨rfl,rfl,rfl,hok,?_⟩
    obtain ⟨i,j,T,b1,b2,b3,_,b5,b6⟩:=om g.ok c3
    rw [b6]
    refine ⟨g.nodes,g.tree.trans b5,i,?_⟩
    rw [g.av,List.getElem?_map] at b1
    cases hi:s.av[i]? with
    |none=>rw [hi] at b1;cases b1
    |some o=>
     rw [hi] at b1
     simp only [Option.map_some,osI] at b1
     have hc:cO s (aY s a).1=true:=by
      have:=uj s (s.queue.drop a) a
      rw [show mL s (s.queue.drop a) a=aY s a from rfl] at this
      exact (this.1 c1).2.choose_spec.2.2.1
     have hw:(eG s (aY s a).1).2=true:=by
      cases hx:(eG s (aY s a).1).2 with
      |true=>rfl
      |false=>unfold cO gV at hc;rw [hx] at hc;exact (show False from Bool.noConfusion hc).elim
     have hid:o.id=(aY s a).1:=by rw [←b2,←b1,(bB _ o).1]
     have uq:o.runs=false:=by
      unfold eG at hw
      rw [←hid,(dP h.ids hi).2.2] at hw
      simpa using hw
     have:bY (aA s (aY s a).1).1 o=o:=by unfold bY;rw [if_neg (by simp [uq])]
     rw [this] at b1
     subst b1
     exact ⟨o,rfl,hid,uq,by rw [←g.av];rfl⟩
   rw [if_pos c3] at e;cases e
theorem Ru (q:ct):∀{L:List ct},yT L→L=L.filter (fun x=>bQ x q)++L.filter (fun x=>!bQ x q)
 |[],_=>rfl
 |x::r,h=>by
  have h1:=List.pairwise_cons.1 h
  have ih:=Ru q h1.2
  cases hx:bQ x q with
  |true=>
   rw [List.filter_cons,List.filter_cons,hx]
   simpa using ih
  |false=>
   have hn:∀y∈r,bQ y q=false:=by
    intro y hy
    cases c:bQ y q with
    |false=>rfl
    |true=>rw [vC (h1.1 y hy) c] at hx;cases hx
   have e1:r.filter (fun x=>bQ x q)=[]:=List.filter_eq_nil_iff.2 fun y hy=>by simp [hn y hy]
   have e2:r.filter (fun x=>!bQ x q)=r:=List.filter_eq_self.2 fun y hy=>by simp [hn y hy]
   rw [List.filter_cons,List.filter_cons,hx,e1,e2];rfl
def mN (s:aU) (a:Nat):Prop:=∀k<a,∀p,s.queue[k]?=some p→cO s p.id=false
theorem uk (s:aU) (a:Nat):((aY s a).2.2=true→a≤(aY s a).2.1∧∃q,s.queue[(aY s a).2.1]?=some q∧q.id=(aY s a).1∧cO s (aY s a).1=true∧∀k,a≤k→k<(aY s a).2.1→∀p,s.queue[k]?=some p→cO s p.id=false)∧
 ((aY s a).2.2=false→∀k,a≤k→∀p,s.queue[k]?=some p→cO s p.id=false):=by
 unfold aY
 obtain ⟨h1,h2⟩:=uj s (s.queue.drop a) a
 generalize mL s (s.queue.drop a) a=w at h1 h2 ⊢
 obtain ⟨w1,w2,w3⟩:=w
 simp only at h1 h2 ⊢
 refine ⟨fun e=>?_,fun e k hk p hp=>?_⟩
 ·obtain ⟨g1,q,g2,g3,g4,g5⟩:=h1 e
  refine ⟨g1,q,?_,g3,g4,fun k hk hk2 p hp=>g5 (k-a) (by omega) p ?_⟩
  ·rw [List.getElem?_drop] at g2;rwa [show a+(w2-a)=w2 by omega] at g2
  rw [List.getElem?_drop,show a+(k-a)=k by omega];exact hp
 refine (h2 e).2.2 p (List.mem_of_getElem? (i:=k-a) ?_)
 rw [List.getElem?_drop,show a+(k-a)=k by omega];exact hp
theorem q7 {a b:ct} (h:bQ a b=true) (g:bQ b a=true):False:=by
 rw [fD] at h g;omega
theorem q8 {s:aU} (h:s.ok) {a:Nat} (hn:mN s a) (e:(bK s a).2.2=true):mN (bK s a).1 (bK s a).2.1:=by
 obtain ⟨c1,c2,c3,hok,rf,hkeep,i,j,hi,hid,hr,sX⟩:=ot h e
 obtain ⟨n1,q,n2,n3,n4,n5⟩:=(uk s a).1 c1
 have hj:=List.mem_of_getElem? hi
 have hq:q=⟨j.id,j.x.prio⟩:=by
  obtain ⟨o,ho,_,rfl⟩:=(h.ia q).1 (List.mem_of_getElem? n2)
  have:=cm h.ids ho hj (by rw [hid];exact n3)
  rw [this]
 have hno:∀k<(aY s a).2.1,∀p,s.queue[k]?=some p→cO s p.id=false:=by
  intro k hk p hp
  by_cases c:k<a
  ·exact hn k c p hp
  exact n5 k (by omega) hk p hp
 have Ij:∀x∈(aA s (aY s a).1).1,∃y∈s.av,y.id=x∧y.x.prio<j.x.prio:=by
  intro x hx
  have h1:=((iT h (.inl ⟨j,hj,hid,hr⟩)).2 c2).2.1 x hx
  have h2:=(dP h.ids hi).2.2
  rw [hid] at h2
  obtain ⟨k,hk⟩:=List.getElem?_of_mem h1
  obtain ⟨o,g1,g2,_,_,g5⟩:=(nv h h2).2.1 k x hk
  exact ⟨o,g1,g2,g5⟩
 have hmem:∀p,bQ p q=true→(p∈(bK s a).1.queue↔p∈s.queue):=by
  intro p hp
  rw [hok.ia,h.ia,sX]
  constructor
  ·rintro ⟨o,ho,uq,rfl⟩
   obtain ⟨k,hk⟩:=List.getElem?_of_mem ho
   rw [List.getElem?_set] at hk
   split at hk
   ·split at hk
    ·cases hk;cases uq
    cases hk
   rw [List.getElem?_map] at hk
   cases hy:s.av[k]? with
   |none=>rw [hy] at hk;cases hk
   |some y=>
    rw [hy] at hk
    simp only [Option.map_some,osI] at hk
    subst hk
    cases zx:y.runs with
    |false=>
     have:bY (aA s (aY s a).1).1 y=y:=by unfold bY;rw [if_neg (by simp [zx])]
     exact ⟨y,List.mem_of_getElem? hy,zx,by rw [this]⟩
    |true=>
     have hv:y.id∈(aA s (aY s a).1).1:=by
      by_cases c:y.id∈(aA s (aY s a).1).1
      ·exact c
      have:=(c5 (aA s (aY s a).1).1 y).2 ⟨zx,c⟩
      rw [uq] at this;cases this
     obtain ⟨z,hz,hz1,RF⟩:=Ij _ hv
     have:=cm h.ids hz (List.mem_of_getElem? hy) hz1
     subst this
     rw [hq,fD,(bB _ z).2] at hp
     simp only at hp
     omega
  rintro ⟨y,hy,zx,rfl⟩
  refine ⟨y,?_,zx,rfl⟩
  obtain ⟨k,hk⟩:=List.getElem?_of_mem hy
  have hne:i≠k:=by
   intro c
   subst c
   rw [hi] at hk;cases hk
   rw [hq] at hp
   exact q7 hp hp
  refine List.mem_of_getElem? (i:=k) ?_
  rw [List.getElem?_set,if_neg hne,List.getElem?_map,hk]
  simp [bY,zx]
 have hF:(bK s a).1.queue.filter (fun x=>bQ x q)=s.queue.filter (fun x=>bQ x q):=by
  refine HK (hok.jS.filter _) (h.jS.filter _) fun p=>?_
  rw [List.mem_filter,List.mem_filter]
  exact ⟨fun ⟨g1,g2⟩=>⟨(hmem p g2).1 g1,g2⟩,fun ⟨g1,g2⟩=>⟨(hmem p g2).2 g1,g2⟩⟩
 have hlt:=(List.getElem?_eq_some_iff.1 n2).1
 have hlen:(aY s a).2.1≤(s.queue.filter fun x=>bQ x q).length:=by
  have h1:(s.queue.take (aY s a).2.1).filter (fun x=>bQ x q)=s.queue.take (aY s a).2.1:=by
   refine List.filter_eq_self.2 fun p hp=>?_
   obtain ⟨k,hk⟩:=List.getElem?_of_mem hp
   obtain ⟨k1,k2⟩:=List.getElem?_eq_some_iff.1 hk
   rw [List.length_take] at k1
   obtain ⟨b1,b2⟩:=List.getElem?_eq_some_iff.1 n2
   have:=List.pairwise_iff_getElem.1 h.jS k (aY s a).2.1 (by omega) b1 (by omega)
   rw [b2] at this
   rw [List.getElem_take] at k2
   rwa [k2] at this
  have h2:=((List.take_sublist (aY s a).2.1 s.queue).filter fun x=>bQ x q).length_le
  rw [h1,List.length_take] at h2
  omega
 rw [c3]
 intro k hk p hp
 have hpa:bQ p q=true:=by
  rw [Ru q hok.jS,hF,List.getElem?_append_left (by omega)] at hp
  exact (List.mem_filter.1 (List.mem_of_getElem? hp)).2
 have hps:=(hmem p hpa).1 (List.mem_of_getElem? hp)
 obtain ⟨m,hm⟩:=List.getElem?_of_mem hps
 have hma:m<(aY s a).2.1:=by
  rcases Nat.lt_or_ge m (aY s a).2.1 with c|c
  ·exact c
  exfalso
  obtain ⟨b1,b2⟩:=List.getElem?_eq_some_iff.1 n2
  obtain ⟨d1,d2⟩:=List.getElem?_eq_some_iff.1 hm
  by_cases c2:m=(aY s a).2.1
  ·subst c2
   rw [b2] at d2;subst d2
   exact q7 hpa hpa
  have:=List.pairwise_iff_getElem.1 h.jS (aY s a).2.1 m b1 d1 (by omega)
  rw [b2,d2] at this
  exact q7 hpa this
 have hz:=hno m hma p hm
 obtain ⟨o,ho,uq,hop⟩:=(hok.ia p).1 (List.mem_of_getElem? hp)
 obtain ⟨y,hy,zx,hyp⟩:=(h.ia p).1 hps
 have T3:o.id=y.id:=by rw [hop] at hyp;exact congrArg ct.id hyp
 have hx:o.x=y.x:=by
  rw [sX] at ho
  obtain ⟨k2,hk2⟩:=List.getElem?_of_mem ho
  rw [List.getElem?_set] at hk2
  split at hk2
  ·split at hk2
   ·cases hk2;cases uq
   cases hk2
  rw [List.getElem?_map] at hk2
  cases hw:s.av[k2]? with
  |none=>rw [hw] at hk2;cases hk2
  |some w=>
   rw [hw] at hk2
   simp only [Option.map_some,osI] at hk2
   subst hk2
   rw [(bB _ w).1] at T3
   rw [(bB _ w).2,cm h.ids (List.mem_of_getElem? hw) hy T3]
 have:=mM h hok rf hkeep hy zx ho uq T3 hx
 rw [hop];show cO _ o.id=false
 rw [T3,this]
 rw [hyp] at hz;exact hz
def E7 (j:Jb):ct:=⟨j.id,j.x.prio⟩
theorem Im {s:aU} (h:s.ok) {a:Nat} (e:(bK s a).2.2=false):(bK s a).1=s∧((aY s a).2.2=true→(aA s (aY s a).1).2.2=false):=by
 unfold bK at e ⊢
 cases c1:(aY s a).2.2 with
 |false=>rw [show (!false)=true from rfl,if_pos rfl];exact ⟨rfl,fun e=>by cases e⟩
 |true=>
  rw [c1] at e
  rw [show (!true)=false from rfl,if_neg (by decide)] at e ⊢
  cases c2:(aA s (aY s a).1).2.2 with
  |false=>rw [show (!false)=true from rfl,if_pos rfl];exact ⟨rfl,fun _=>rfl⟩
  |true=>
   rw [c2] at e
   rw [show (!true)=false from rfl,if_neg (by decide)] at e
   obtain ⟨_,q,n2,n3,_,_⟩:=(uk s a).1 c1
   obtain ⟨o,ho,uq,hq⟩:=(h.ia q).1 (List.mem_of_getElem? n2)
   have hw:(∃j∈s.av,j.id=(aY s a).1∧j.runs=false)∨∀j∈s.av,j.id≠(aY s a).1:=.inl ⟨o,ho,by rw [←n3,hq],uq⟩
   have hz:=((vZ h hw).2.2 c2).1
   rw [if_neg (by simp [hz])] at e
   exact (show False from Bool.noConfusion e).elim
theorem Mi {j o:Jb} (h:Ik j=some o):o.id=j.id∧o.x=j.x∧o.runs=j.runs∧(j.runs=true→o.left=j.left-1)∧(j.runs=false→o=j):=by
 unfold Ik at h
 split at h
 ·rename_i hr
  split at h
  ·cases h
  cases h;exact ⟨rfl,rfl,rfl,fun _=>rfl,fun c=>by rw [hr] at c;cases c⟩
 rename_i hr
 cases h;exact ⟨rfl,rfl,rfl,fun c=>absurd c hr,fun _=>rfl⟩
theorem DF {v:bG} (hv:v.w):∀(n:Nat) (l:List bL) (out:List aI),(∀s∈l,s.free.w)→∀x∈(mS v n l out).1,x∈out∨∃s∈l,s.node=x
 |0,l,out,_,x,hx=>.inl hx
 |n+1,l,out,hw,x,hx=>by
  simp only [mS] at hx
  cases hb:(best l v).ok with
  |false=>rw [hb,show (!false)=true from rfl,if_pos rfl] at hx;cases hx
  |true=>
   rw [hb,show (!true)=false from rfl,if_neg (by decide)] at hx
   obtain ⟨s,h1,h2,h3⟩:=BE hv hw hb
   have uo:s∈l:=List.mem_of_getElem? h1
   have hd:l.getD (best l v).at_ default=s:=by rw [List.getD_eq_getElem?_getD,h1];rfl
   rw [hd,h3] at hx
   have hw':∀y∈l.set (best l v).at_ {s with free:=(dO s.free v).1},y.free.w:=fun y hy=>by
    rcases rS hy with hy|rfl
    ·exact hw y hy
    exact Ev h2
   rcases DF hv n _ _ hw' x hx with g|⟨y,hy,rfl⟩
   ·rcases List.mem_append.1 g with g|g
    ·exact .inl g
    exact .inr ⟨s,uo,(List.mem_singleton.1 g).symm⟩
   rcases rS hy with hy|rfl
   ·exact .inr ⟨y,hy,rfl⟩
   exact .inr ⟨s,uo,rfl⟩
theorem KV {s:aU} (h:s.ok) {i:Nat} {j:Jb} (hj:s.av[i]?=some j):∀x∈(fo s j.id).1,∃d∈s.aG.nodes,d.name=x∧d.up=true∧iL j.x.cg d.labels=true:=by
 intro x hx
 obtain ⟨_,_,k3⟩:=dP h.ids hj
 have hc:=h.pG j (List.mem_of_getElem? hj)
 have So:=(cZ.1 hc.1).2.1
 unfold fo gV eG at hx
 rw [k3] at hx
 simp only at hx
 split at hx
 ·cases hx
 split at hx
 ·cases hx
 unfold fit at hx
 rw [if_neg (by omega)] at hx
 rcases DF hc.2.1 _ _ _ (Dy h.aG h.gE j.x.cg) x hx with g|⟨y,hy,e⟩
 ·cases g
 rw [kP h.aG] at hy
 obtain ⟨d,hd,rfl⟩:=List.mem_map.1 hy
 obtain ⟨d1,d2⟩:=List.mem_filter.1 hd
 obtain ⟨d3,d4⟩:=List.mem_filter.1 d1
 exact ⟨d,d3,e,d4,d2⟩
def gv (c u:aU):Prop:=u.aG.nodes=c.aG.nodes∧∀j∈u.av,j.runs=true→
 (∃o∈c.av,o.id=j.id∧o.runs=true∧o.left=j.left∧mO j.id u.aG.places=mO j.id c.aG.places)∨
 (j.left=j.x.eI∧((mO j.id u.aG.places).length:Int)=j.x.count∧∀n∈mO j.id u.aG.places,∃d∈u.aG.nodes,d.name=n∧d.up=true∧iL j.x.cg d.labels=true)
theorem gv.refl (c:aU):gv c c:=⟨rfl,fun j hj hr=>.inl ⟨j,hj,rfl,hr,rfl,rfl⟩⟩
theorem Io {l:List Int} {id:Int} (h:id ∉ l) (ps:List Place):mO id (ps.filter fun x=>!decide (x.bz∈l))=mO id ps:=by
 unfold mO
 rw [List.filter_filter]
 congr 1
 refine List.filter_congr fun x _=>?_
 by_cases c:x.bz=id
 ·simp [c,h]
 simp [c]
theorem Oc {id bz:Int} (h:bz≠id) (v:bG) (names:List aI) (ps:List Place):mO id (ps++names.map fun n=>⟨bz,n,v⟩)=mO id ps:=by
 unfold mO
 rw [List.filter_append]
 have:(names.map fun n=>(⟨bz,n,v⟩:Place)).filter (fun x=>decide (x.bz=id))=[]:=by
  refine List.filter_eq_nil_iff.2 fun x hx=>?_
  obtain ⟨n,_,rfl⟩:=List.mem_map.1 hx
  simp [h]
 rw [this,List.append_nil]
theorem T4 {id:Int} (v:bG) (names:List aI) {ps:List Place} (h:∀x∈ps,x.bz≠id):mO id (ps++names.map fun n=>⟨id,n,v⟩)=names:=by
 unfold mO
 rw [List.filter_append]
 have h1:ps.filter (fun x=>decide (x.bz=id))=[]:=List.filter_eq_nil_iff.2 fun x hx=>by simp [h x hx]
 have h2:(names.map fun n=>(⟨id,n,v⟩:Place)).filter (fun x=>decide (x.bz=id))=names.map fun n=>(⟨id,n,v⟩:Place):=by
  refine List.filter_eq_self.2 fun x hx=>?_
  obtain ⟨n,_,rfl⟩:=List.mem_map.1 hx
  simp
 rw [h1,h2,List.nil_append,List.map_map]
 exact (List.map_congr_left fun _ _=>rfl).trans (List.map_id _)
theorem gv.Rv {c s t:aU} {l:List Int} (g:iz s l t) (h:gv c s):gv c t:=by
 refine ⟨by rw [g.nodes,h.1],fun j hj hr=>?_⟩
 rw [g.av] at hj
 obtain ⟨y,hy,rfl⟩:=List.mem_map.1 hj
 have OZ:=(c5 l y).1 hr
 have e:bY l y=y:=by unfold bY;rw [if_neg (fun c=>OZ.2 c.2)]
 rw [e,g.places,Io OZ.2,g.nodes]
 exact h.2 y hy OZ.1
theorem gv.Wz {c s:aU} (hs:s.ok) (h:gv c s) {id:Int} {names:List aI} (e:(bS s id names).2=0) (hf:fo s id=(names,true)):gv c (bS s id names).1:=by
 obtain ⟨i,j,T,b1,rfl,b3,b4,_,b6⟩:=om hs e
 have hn:=KV hs b1
 rw [hf] at hn
 rw [b6]
 refine ⟨h.1,fun y hy hr=>?_⟩
 show _∨(y.left=y.x.eI∧((mO y.id (s.aG.places++names.map fun n=>(⟨j.id,n,j.x.fY⟩:Place))).length:Int)=y.x.count∧_)
 have hy':y∈s.av.set i j.begun:=hy
 rcases (vH hs.ids b1).1 hy' with rfl|⟨hy1,OZ⟩
 ·have e2:mO j.id (s.aG.places++names.map fun n=>(⟨j.id,n,j.x.fY⟩:Place))=names:=T4 _ _ (hs.ED (List.mem_of_getElem? b1) b3)
  refine .inr ⟨rfl,?_,?_⟩
  ·rw [show j.begun.id=j.id from rfl,e2];exact b4
  intro n hx
  have hx':n∈mO j.id (s.aG.places++names.map fun n=>(⟨j.id,n,j.x.fY⟩:Place)):=hx
  rw [e2] at hx'
  exact hn n hx'
 have e2:mO y.id (s.aG.places++names.map fun n=>(⟨j.id,n,j.x.fY⟩:Place))=mO y.id s.aG.places:=Oc (Ne.symm OZ) _ _ _
 rcases h.2 y hy1 hr with ⟨o,o1,o2,o3,o4,o5⟩|⟨k1,k2,k3⟩
 ·exact .inl ⟨o,o1,o2,o3,o4,by rw [←o5];exact e2⟩
 refine .inr ⟨k1,by rw [e2];exact k2,fun n hx=>?_⟩
 have hx':n∈mO y.id (s.aG.places++names.map fun n=>(⟨j.id,n,j.x.fY⟩:Place)):=hx
 rw [e2] at hx'
 exact k3 n hx'
theorem gv.bK {c s:aU} (hs:s.ok) (h:gv c s) (a:Nat):gv c (bK s a).1:=by
 cases e:(Dem.bK s a).2.2 with
 |false=>rw [(Im hs e).1];exact h
 |true=>
  obtain ⟨c1,c2,_,_,_,_,i,j,hi,hid,hr,_⟩:=ot hs e
  have hw:(∃j∈s.av,j.id=(aY s a).1∧j.runs=false)∨∀j∈s.av,j.id≠(aY s a).1:=.inl ⟨j,List.mem_of_getElem? hi,hid,hr⟩
  have hn:=((iT hs hw).2 c2).1
  have hz:=((vZ hs hw).2.2 c2).1
  have g:=cP hs (aA s (aY s a).1).1
  have:=gv.Wz g.ok (h.Rv g) hz hn
  unfold Dem.bK
  rw [c1,c2,show (!true)=false from rfl,if_neg (by decide),if_neg (by decide),if_neg (by simp [hz])]
  exact this
theorem gv.cN {c:aU}:∀(n:Nat) {s:aU} (a:Nat),s.ok→gv c s→gv c (cN n s a)
 |0,_,_,_,h=>h
 |n+1,s,a,hs,h=>by
  unfold Dem.cN
  split
  ·exact gv.cN n _ (qZ hs a) (h.bK hs a)
  exact h.bK hs a
theorem nK {s:aU} (h:s.ok) {i:Nat} {j:Jb} (hj:s.av[i]?=some j) (hr:j.runs=true) {id:Int} (hne:id≠j.id∨j.left≠1):(bN s j.id).aG.nodes=s.aG.nodes∧mO id (bN s j.id).aG.places=mO id s.aG.places:=by
 obtain ⟨h1,h2,_⟩:=dP h.ids hj
 have hl:=(h.left j (List.mem_of_getElem? hj)).1 hr
 have e:sW s i={s with av:=s.av.set i (j.to (j.left-1))}:=by unfold sW;rw [h2]
 unfold bN
 rw [h1]
 simp only
 rw [h2,e]
 by_cases c:j.left=1
 ·rw [if_pos (by omega),E6 h hj]
  obtain ⟨_,_,g⟩:=vT h hj 3
  obtain ⟨T,_,g2⟩:=g hr
  rw [g2]
  refine ⟨rfl,?_⟩
  show mO id (s.aG.places.filter fun x=>!decide (x.bz=j.id))=_
  have hx:id≠j.id:=by rcases hne with g|g;exact g;exact absurd c g
  have:=Io (l:=[j.id]) (id:=id) (by simp [hx]) s.aG.places
  simpa using this
 rw [if_neg (by omega)]
 exact ⟨rfl,rfl⟩
theorem E8 {s:aU} (h:s.ok):gv (ek s) (iA s):=gv.cN 128 0 (ny h).1 (gv.refl _)
theorem BM:∀(R:List Int) {t:aU},t.ok→R.Nodup→(∀id∈R,∃j∈t.av,j.id=id∧j.runs=true)→
 (R.foldl bN t).aG.nodes=t.aG.nodes∧∀j∈t.av,¬(j.runs=true∧j.id∈R∧j.left=1)→mO j.id (R.foldl bN t).aG.places=mO j.id t.aG.places
 |[],t,_,_,_=>⟨rfl,fun _ _ _=>rfl⟩
 |id::R,t,h,hn,hj=>by
  obtain ⟨Ac,hn2⟩:=List.nodup_cons.1 hn
  obtain ⟨o,hm,rfl,hr⟩:=hj id (by simp)
  obtain ⟨i,hi⟩:=List.getElem?_of_mem hm
  have c1:=(nw h hi hr).1
  have c4:=ug h hi hr
  have hj2:∀x∈R,∃y∈(bN t o.id).av,y.id=x∧y.runs=true:=by
   intro x hx
   obtain ⟨y,hy,rfl,zx⟩:=hj x (by simp [hx])
   have hne:y.id≠o.id:=fun e=>Ac (by rw [←e];exact hx)
   refine ⟨y,?_,rfl,zx⟩
   rw [c4,List.mem_filterMap]
   exact ⟨y,hy,by unfold cnt;rw [if_neg (by simp [hne])]⟩
  obtain ⟨g1,g2⟩:=BM R c1 hn2 hj2
  have rf:(bN t o.id).aG.nodes=t.aG.nodes:=(nK h hi hr (id:=o.id+1) (.inl (by omega))).1
  refine ⟨by rw [List.foldl_cons,g1,rf],fun j Oi hno=>?_⟩
  rw [List.foldl_cons]
  by_cases e:j.id=o.id
  ·have:=cm h.ids Oi hm e
   subst this
   have hl:j.left≠1:=fun c=>hno ⟨hr,by simp,c⟩
   have hj':j.to (j.left-1)∈(bN t j.id).av:=by
    rw [c4,List.mem_filterMap]
    exact ⟨j,Oi,by unfold cnt;rw [if_pos ⟨hr,by simp⟩,if_neg hl]⟩
   have:=g2 _ hj' (fun c=>Ac c.2.1)
   rw [show (j.to (j.left-1)).id=j.id from rfl] at this
   rw [this,(nK h hi hr (.inr hl)).2]
  have hj':j∈(bN t o.id).av:=by
   rw [c4,List.mem_filterMap]
   exact ⟨j,Oi,by unfold cnt;rw [if_neg (by simp [e])]⟩
  rw [g2 j hj' (fun c=>hno ⟨c.1,by simp [c.2.1],c.2.2⟩),(nK h hi hr (.inl e)).2]
end Dem
end
