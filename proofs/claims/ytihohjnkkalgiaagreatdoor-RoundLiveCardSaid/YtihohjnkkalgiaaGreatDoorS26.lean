/- Parts of a proof, joined. -/
import Derived.Test.YtihohjnkkalgiaaGreatDoorS25
set_option linter.all false
set_option maxRecDepth 100000
set_option maxHeartbeats 4000000
section
open Go
namespace Dem
theorem KO (q:cu):∀{L:List cu},yO L→L=L.filter (fun x=>bA x q)++L.filter (fun x=>!bA x q)
 |[],_=>rfl
 |x::r,h=>by
  have h1:=List.pairwise_cons.1 h
  have ih:=KO q h1.2
  cases hx:bA x q with
  |true=>
   rw [List.filter_cons,List.filter_cons,hx]
   simpa using ih
  |false=>
   have hn:∀y∈r,bA y q=false:=by
    intro y hy
    cases c:bA y q with
    |false=>rfl
    |true=>rw [oV (h1.1 y hy) c] at hx;cases hx
   have e1:r.filter (fun x=>bA x q)=[]:=List.filter_eq_nil_iff.2 fun y hy=>by simp [hn y hy]
   have e2:r.filter (fun x=>!bA x q)=r:=List.filter_eq_self.2 fun y hy=>by simp [hn y hy]
   rw [List.filter_cons,List.filter_cons,hx,e1,e2];rfl
def gU (s:aT) (a:Nat):Prop:=∀k<a,∀p,s.queue[k]?=some p→cL s p.id=false
theorem iK (s:aT) (a:Nat):((aM s a).2.2=true→a≤(aM s a).2.1∧∃q,s.queue[(aM s a).2.1]?=some q∧q.id=(aM s a).1∧cL s (aM s a).1=true∧∀k,a≤k→k<(aM s a).2.1→∀p,s.queue[k]?=some p→cL s p.id=false)∧
 ((aM s a).2.2=false→∀k,a≤k→∀p,s.queue[k]?=some p→cL s p.id=false):=by
 unfold aM
 obtain ⟨h1,h2⟩:=tZ s (s.queue.drop a) a
 generalize j8 s (s.queue.drop a) a=w at h1 h2 ⊢
 obtain ⟨w1,w2,w3⟩:=w
 simp only at h1 h2 ⊢
 refine ⟨fun e=>?_,fun e k hk p hp=>?_⟩
 ·obtain ⟨g1,q,g2,g3,g4,g5⟩:=h1 e
  refine ⟨g1,q,?_,g3,g4,fun k hk hk2 p hp=>g5 (k-a) (by omega) p ?_⟩
  ·rw [List.getElem?_drop] at g2;rwa [show a+(w2-a)=w2 by omega] at g2
  rw [List.getElem?_drop,show a+(k-a)=k by omega];exact hp
 refine (h2 e).2.2 p (List.mem_of_getElem? (i:=k-a) ?_)
 rw [List.getElem?_drop,show a+(k-a)=k by omega];exact hp
theorem gV {a b:cu} (h:bA a b=true) (g:bA b a=true):False:=by
 rw [dF] at h g;omega
theorem iT {s:aT} (h:s.ok) {a:Nat} (hn:gU s a) (e:(bC s a).2.2=true):gU (bC s a).1 (bC s a).2.1:=by
 obtain ⟨c1,c2,c3,hok,rf,hkeep,i,j,hi,hid,hr,iU⟩:=kB h e
 obtain ⟨n1,q,n2,n3,n4,n5⟩:=(iK s a).1 c1
 have hj:=List.mem_of_getElem? hi
 have hq:q=⟨j.id,j.x.prio⟩:=by
  obtain ⟨o,ho,_,rfl⟩:=(h.gm q).1 (List.mem_of_getElem? n2)
  have:=bN h.ids ho hj (by rw [hid];exact n3)
  rw [this]
 have hno:∀k<(aM s a).2.1,∀p,s.queue[k]?=some p→cL s p.id=false:=by
  intro k hk p hp
  by_cases c:k<a
  ·exact hn k c p hp
  exact n5 k (by omega) hk p hp
 have Ci:∀x∈(aB s (aM s a).1).1,∃y∈s.ap,y.id=x∧y.x.prio<j.x.prio:=by
  intro x hx
  have h1:=((iS h (.inl ⟨j,hj,hid,hr⟩)).2 c2).2.1 x hx
  have h2:=(dg h.ids hi).2.2
  rw [hid] at h2
  obtain ⟨k,hk⟩:=List.getElem?_of_mem h1
  obtain ⟨o,g1,g2,_,_,g5⟩:=(kS h h2).2.1 k x hk
  exact ⟨o,g1,g2,g5⟩
 have hmem:∀p,bA p q=true→(p∈(bC s a).1.queue↔p∈s.queue):=by
  intro p hp
  rw [hok.gm,h.gm,iU]
  constructor
  ·rintro ⟨o,ho,mN,rfl⟩
   obtain ⟨k,hk⟩:=List.getElem?_of_mem ho
   rw [List.getElem?_set] at hk
   split at hk
   ·split at hk
    ·cases hk;cases mN
    cases hk
   rw [List.getElem?_map] at hk
   cases hy:s.ap[k]? with
   |none=>rw [hy] at hk;cases hk
   |some y=>
    rw [hy] at hk
    simp only [Option.map_some,osI] at hk
    subst hk
    cases vO:y.runs with
    |false=>
     have:cg (aB s (aM s a).1).1 y=y:=by unfold cg;rw [if_neg (by simp [vO])]
     exact ⟨y,List.mem_of_getElem? hy,vO,by rw [this]⟩
    |true=>
     have hv:y.id∈(aB s (aM s a).1).1:=by
      by_cases c:y.id∈(aB s (aM s a).1).1
      ·exact c
      have:=(dL (aB s (aM s a).1).1 y).2 ⟨vO,c⟩
      rw [mN] at this;cases this
     obtain ⟨z,hz,hz1,Ox⟩:=Ci _ hv
     have:=bN h.ids hz (List.mem_of_getElem? hy) hz1
     subst this
     rw [hq,dF,(bO _ z).2] at hp
     simp only at hp
     omega
  rintro ⟨y,hy,vO,rfl⟩
  refine ⟨y,?_,vO,rfl⟩
  obtain ⟨k,hk⟩:=List.getElem?_of_mem hy
  have hne:i≠k:=by
   intro c
   subst c
   rw [hi] at hk;cases hk
   rw [hq] at hp
   exact gV hp hp
  refine List.mem_of_getElem? (i:=k) ?_
  rw [List.getElem?_set,if_neg hne,List.getElem?_map,hk]
  simp [cg,vO]
 have hF:(bC s a).1.queue.filter (fun x=>bA x q)=s.queue.filter (fun x=>bA x q):=by
  refine ym (hok.iw.filter _) (h.iw.filter _) fun p=>?_
  rw [List.mem_filter,List.mem_filter]
  exact ⟨fun ⟨g1,g2⟩=>⟨(hmem p g2).1 g1,g2⟩,fun ⟨g1,g2⟩=>⟨(hmem p g2).2 g1,g2⟩⟩
 have hlt:=(List.getElem?_eq_some_iff.1 n2).1
 have hlen:(aM s a).2.1≤(s.queue.filter fun x=>bA x q).length:=by
  have h1:(s.queue.take (aM s a).2.1).filter (fun x=>bA x q)=s.queue.take (aM s a).2.1:=by
   refine List.filter_eq_self.2 fun p hp=>?_
   obtain ⟨k,hk⟩:=List.getElem?_of_mem hp
   obtain ⟨k1,k2⟩:=List.getElem?_eq_some_iff.1 hk
   rw [List.length_take] at k1
   obtain ⟨b1,b2⟩:=List.getElem?_eq_some_iff.1 n2
   have:=List.pairwise_iff_getElem.1 h.iw k (aM s a).2.1 (by omega) b1 (by omega)
   rw [b2] at this
   rw [List.getElem_take] at k2
   rwa [k2] at this
  have h2:=((List.take_sublist (aM s a).2.1 s.queue).filter fun x=>bA x q).length_le
  rw [h1,List.length_take] at h2
  omega
 rw [c3]
 intro k hk p hp
 have hpa:bA p q=true:=by
  rw [KO q hok.iw,hF,List.getElem?_append_left (by omega)] at hp
  exact (List.mem_filter.1 (List.mem_of_getElem? hp)).2
 have hps:=(hmem p hpa).1 (List.mem_of_getElem? hp)
 obtain ⟨m,hm⟩:=List.getElem?_of_mem hps
 have hma:m<(aM s a).2.1:=by
  rcases Nat.lt_or_ge m (aM s a).2.1 with c|c
  ·exact c
  exfalso
  obtain ⟨b1,b2⟩:=List.getElem?_eq_some_iff.1 n2
  obtain ⟨d1,d2⟩:=List.getElem?_eq_some_iff.1 hm
  by_cases c2:m=(aM s a).2.1
  ·subst c2
   rw [b2] at d2;subst d2
   exact gV hpa hpa
  have:=List.pairwise_iff_getElem.1 h.iw (aM s a).2.1 m b1 d1 (by omega)
  rw [b2,d2] at this
  exact gV hpa this
 have hz:=hno m hma p hm
 obtain ⟨o,ho,mN,hop⟩:=(hok.gm p).1 (List.mem_of_getElem? hp)
 obtain ⟨y,hy,vO,hyp⟩:=(h.gm p).1 hps
 have TO:o.id=y.id:=by rw [hop] at hyp;exact congrArg cu.id hyp
 have hx:o.x=y.x:=by
  rw [iU] at ho
  obtain ⟨k2,hk2⟩:=List.getElem?_of_mem ho
  rw [List.getElem?_set] at hk2
  split at hk2
  ·split at hk2
   ·cases hk2;cases mN
   cases hk2
  rw [List.getElem?_map] at hk2
  cases hw:s.ap[k2]? with
  |none=>rw [hw] at hk2;cases hk2
  |some w=>
   rw [hw] at hk2
   simp only [Option.map_some,osI] at hk2
   subst hk2
   rw [(bO _ w).1] at TO
   rw [(bO _ w).2,bN h.ids (List.mem_of_getElem? hw) hy TO]
 have:=mL h hok rf hkeep hy vO ho mN TO hx
 rw [hop];show cL _ o.id=false
 rw [TO,this]
 rw [hyp] at hz;exact hz
def iL (j:Jb):cu:=⟨j.id,j.x.prio⟩
theorem ri {s:aT} (h:s.ok) {a:Nat} (e:(bC s a).2.2=false):(bC s a).1=s∧((aM s a).2.2=true→(aB s (aM s a).1).2.2=false):=by
 unfold bC at e ⊢
 cases c1:(aM s a).2.2 with
 |false=>rw [show (!false)=true from rfl,if_pos rfl];exact ⟨rfl,fun e=>by cases e⟩
 |true=>
  rw [c1] at e
  rw [show (!true)=false from rfl,if_neg (by decide)] at e ⊢
  cases c2:(aB s (aM s a).1).2.2 with
  |false=>rw [show (!false)=true from rfl,if_pos rfl];exact ⟨rfl,fun _=>rfl⟩
  |true=>
   rw [c2] at e
   rw [show (!true)=false from rfl,if_neg (by decide)] at e
   obtain ⟨_,q,n2,n3,_,_⟩:=(iK s a).1 c1
   obtain ⟨o,ho,mN,hq⟩:=(h.gm q).1 (List.mem_of_getElem? n2)
   have hw:(∃j∈s.ap,j.id=(aM s a).1∧j.runs=false)∨∀j∈s.ap,j.id≠(aM s a).1:=.inl ⟨o,ho,by rw [←n3,hq],mN⟩
   have hz:=((E4 h hw).2.2 c2).1
   rw [if_neg (by simp [hz])] at e
   exact (show False from Bool.noConfusion e).elim
theorem E7 {j o:Jb} (h:Ie j=some o):o.id=j.id∧o.x=j.x∧o.runs=j.runs∧(j.runs=true→o.left=j.left-1)∧(j.runs=false→o=j):=by
 unfold Ie at h
 split at h
 ·rename_i hr
  split at h
  ·cases h
  cases h;exact ⟨rfl,rfl,rfl,fun _=>rfl,fun c=>by rw [hr] at c;cases c⟩
 rename_i hr
 cases h;exact ⟨rfl,rfl,rfl,fun c=>absurd c hr,fun _=>rfl⟩
def aT.KP (s:aT):Prop:=∀w∈s.ap,w.runs=false→cL s w.id=true→∀o∈s.ap,o.runs=true→o.x.prio<w.x.prio→o.id<12
structure aT.fair (s:aT):Prop where
 ok:s.ok
 eZ:s.eZ sJ
 KP:s.KP
theorem aT.good.fair {s:aT} (h:s.good):s.fair:=⟨h.ok,h.eZ,fun _ _ _ _ o ho hr _=>h.yW o ho hr⟩
theorem fR.trans {s t u:aT} (h:fR s t) (g:fR t u):fR s u:=by
 refine ⟨g.nodes.trans h.nodes,fun e he=>?_,fun j hj=>?_⟩
 ·obtain ⟨f,hf,e1⟩:=g.paths e he
  obtain ⟨k,hk,e2⟩:=h.paths f hf
  exact ⟨k,hk,e1.trans e2⟩
 obtain ⟨f,hf,e1⟩:=g.xs j hj
 obtain ⟨k,hk,e2⟩:=h.xs f hf
 exact ⟨k,hk,e1.trans e2⟩
theorem E8 {s:aT} (h:s.ok) {i:Nat} {j:Jb} (hj:s.ap[i]?=some j) (hr:j.runs=true):cr s.tree (cV s j.id).tree∧fR s (cV s j.id):=by
 obtain ⟨h1,h2,_⟩:=dg h.ids hj
 have hl:=(h.left j (List.mem_of_getElem? hj)).1 hr
 have e:yC s i={s with ap:=s.ap.set i (j.to (j.left-1))}:=by unfold yC;rw [h2]
 unfold cV
 rw [h1]
 simp only
 rw [h2,e]
 by_cases c:j.left=1
 ·rw [if_pos (by omega),Md h hj]
  have hk:=Dr h j.id 3
  obtain ⟨_,_,g⟩:=zl h hj 3
  obtain ⟨T,gT,g2⟩:=g hr
  refine ⟨?_,hk⟩
  rw [g2];exact gT
 rw [if_neg (by omega)]
 exact ⟨cr.refl _,⟨rfl,fun e he=>⟨e,he,rfl⟩,J7 hj rfl⟩⟩
theorem o7:∀(R:List Int) {t:aT},t.ok→R.Nodup→(∀id∈R,∃j∈t.ap,j.id=id∧j.runs=true)→
 cr t.tree (R.foldl cV t).tree∧fR t (R.foldl cV t)
 |[],t,_,_,_=>⟨cr.refl _,fR.refl _⟩
 |id::R,t,h,hn,hj=>by
  obtain ⟨BU,hn2⟩:=List.nodup_cons.1 hn
  obtain ⟨o,hm,rfl,hr⟩:=hj id (by simp)
  obtain ⟨i,hi⟩:=List.getElem?_of_mem hm
  have c1:=(q7 h hi hr).1
  have c4:=BB h hi hr
  have hj2:∀x∈R,∃y∈(cV t o.id).ap,y.id=x∧y.runs=true:=by
   intro x hx
   obtain ⟨y,hy,rfl,vO⟩:=hj x (by simp [hx])
   have hne:y.id≠o.id:=fun e=>BU (by rw [←e];exact hx)
   refine ⟨y,?_,rfl,vO⟩
   rw [c4,List.mem_filterMap]
   exact ⟨y,hy,by unfold cnt;rw [if_neg (by simp [hne])]⟩
  obtain ⟨g1,g2⟩:=o7 R c1 hn2 hj2
  obtain ⟨k1,k2⟩:=E8 h hi hr
  rw [List.foldl_cons]
  exact ⟨k1.trans g1,k2.trans g2⟩
def E9 (s:aT):aT:={s with round:=u64 (s.round+1)}
theorem w9 {s:aT} (h:s.ok):(E9 s).ok:={aX:=h.aX,gR:=h.gR,tree:=h.tree,used:=h.used,most:=h.most,next:=h.next,ids:=h.ids,vz:=h.vz,py:=h.py,left:=h.left,iw:=h.iw,kR:=h.kR,gm:=h.gm,places:=h.places,count:=h.count,notes:=h.notes}
theorem BD {s:aT} (h:s.ok):(cW s).Nodup∧∀id∈cW s,∃j∈s.ap,j.id=id∧j.runs=true:=by
 refine ⟨?_,fun id hid=>?_⟩
 ·unfold cW
  rw [List.nodup_iff_pairwise_ne,List.pairwise_map]
  exact (h.ids.filter _).imp fun {a b} g=>by omega
 obtain ⟨j,hj,e⟩:=List.mem_map.1 hid
 obtain ⟨h1,h2⟩:=List.mem_filter.1 hj
 exact ⟨j,h1,e,h2⟩
theorem DJ {s:aT} (h:s.ok) (l:s.eZ sJ) (k:Nat):(((cW s).take k).foldl cV (E9 s)).ok∧(((cW s).take k).foldl cV (E9 s)).eZ sJ:=by
 obtain ⟨r1,r2⟩:=BD h
 have n1:((cW s).take k).Nodup:=r1.sublist (List.take_sublist _ _)
 have n2:∀id∈(cW s).take k,∃j∈(E9 s).ap,j.id=id∧j.runs=true:=fun id hid=>r2 id (List.mem_of_mem_take hid)
 exact ⟨(q8 _ (w9 h) n1 n2).1,(o7 _ (w9 h) n1 n2).2.eZ ⟨l.names,l.paths,l.xs⟩⟩
theorem yD {s:aT} (h:s.ok):cr s.tree (cA s).tree∧fR s (cA s):=by
 obtain ⟨r1,r2⟩:=BD h
 obtain ⟨a,b⟩:=o7 (cW s) (w9 h) r1 r2
 exact ⟨a,⟨b.nodes,b.paths,b.xs⟩⟩
theorem aT.fair.count {s:aT} (h:s.fair):(cA s).fair:=by
 obtain ⟨k1,k2⟩:=yD h.ok
 obtain ⟨c1,c2,c3,c4⟩:=kT h.ok
 refine ⟨c1,k2.eZ h.eZ,fun w hw hr hc o ho mN hp=>?_⟩
 have hw':=hw
 rw [c4] at hw ho
 obtain ⟨y,hy,e⟩:=List.mem_filterMap.1 hw
 obtain ⟨z,hz,g⟩:=List.mem_filterMap.1 ho
 obtain ⟨e1,e2,e3,_⟩:=E7 e
 obtain ⟨g1,g2,g3,_⟩:=E7 g
 have hs:=mL h.ok c1 k2.nodes k1 hy (by rw [←e3];exact hr) hw' hr e1 e2
 rw [e1,hs] at hc
 rw [g1]
 exact h.KP y hy (by rw [←e3];exact hr) hc z hz (by rw [←g3];exact mN) (by rw [←g2,←e2];exact hp)
theorem kU {s:aT} (h:s.ok) {a:Nat} (e:(aM s a).2.2=true):∃j∈s.ap,j.id=(aM s a).1∧j.runs=false∧cL s j.id=true∧s.queue[(aM s a).2.1]?=some ⟨j.id,j.x.prio⟩∧∀k,a≤k→k<(aM s a).2.1→∀p,s.queue[k]?=some p→cL s p.id=false:=by
 obtain ⟨n1,q,n2,n3,n4,n5⟩:=(iK s a).1 e
 obtain ⟨o,ho,mN,rfl⟩:=(h.gm q).1 (List.mem_of_getElem? n2)
 exact ⟨o,ho,n3,mN,by rw [show o.id=(aM s a).1 from n3];exact n4,n2,n5⟩
theorem Rm {s:aT} (h:s.ok) (hl:s.KP) {w:Jb} (hw:w∈s.ap) (hr:w.runs=false) (hc:cL s w.id=true):(s.ap.filter fun o=>o.runs&&decide (o.x.prio<w.x.prio)).length≤12:=by
 have h1:=EZ ((s.ap.filter fun o=>o.runs&&decide (o.x.prio<w.x.prio)).map (·.id)) 1 12 (List.pairwise_map.2 (h.ids.filter _)) fun x hx=>by
  obtain ⟨j,hj,rfl⟩:=List.mem_map.1 hx
  obtain ⟨a,b⟩:=List.mem_filter.1 hj
  simp only [Bool.and_eq_true,decide_eq_true_eq] at b
  exact ⟨(h.vz j a).1,hl w hw hr hc j a b.1 b.2⟩
 rw [lgM] at h1;omega
theorem aT.fair.step {s:aT} (h:s.fair) {a:Nat} (hn:gU s a) (e:(bC s a).2.2=true):(bC s a).1.fair:=by
 obtain ⟨c1,c2,c3,hok,rf,hkeep,i,j,hi,hid,hr,iU⟩:=kB h.ok e
 obtain ⟨j0,hj0,e1,_,e3,e4,e5⟩:=kU h.ok c1
 have hj:=List.mem_of_getElem? hi
 have:j0=j:=bN h.ok.ids hj0 hj (e1.trans hid.symm)
 subst this
 have Ci:∀x∈(aB s (aM s a).1).1,∃y∈s.ap,y.id=x∧y.x.prio<j0.x.prio:=by
  intro x hx
  have h1:=((iS h.ok (.inl ⟨j0,hj,hid,hr⟩)).2 c2).2.1 x hx
  have h2:=(dg h.ok.ids hi).2.2
  rw [hid] at h2
  obtain ⟨k,hk⟩:=List.getElem?_of_mem h1
  obtain ⟨o,g1,g2,_,_,g5⟩:=(kS h.ok h2).2.1 k x hk
  exact ⟨o,g1,g2,g5⟩
 have hmem:∀o∈(bC s a).1.ap,o=j0.begun∨∃y∈s.ap,o=cg (aB s (aM s a).1).1 y:=by
  intro o ho
  rw [iU] at ho
  rcases List.mem_or_eq_of_mem_set ho with g|g
  ·obtain ⟨y,hy,rfl⟩:=List.mem_map.1 g
   exact .inr ⟨y,hy,rfl⟩
  exact .inl g
 have TB:∀w∈s.ap,w.runs=false→cL s w.id=true→w.x.prio≤j0.x.prio:=by
  intro w hw N3 KQ
  obtain ⟨k,hk⟩:=List.getElem?_of_mem ((h.ok.gm ⟨w.id,w.x.prio⟩).2 ⟨w,hw,N3,rfl⟩)
  have hle:(aM s a).2.1≤k:=by
   rcases Nat.lt_or_ge k (aM s a).2.1 with d|d
   ·have:cL s w.id=false:=by
     rcases Nat.lt_or_ge k a with f|f
     ·exact hn k f _ hk
     exact e5 k f d _ hk
    rw [this] at KQ;cases KQ
   exact d
  rcases Nat.eq_or_lt_of_le hle with d|d
  ·rw [←d,e4] at hk
   have:=congrArg cu.prio (Option.some.inj hk)
   simp only at this;omega
  have:=(List.pairwise_iff_getElem.1 h.ok.iw) (aM s a).2.1 k (List.getElem?_eq_some_iff.1 e4).1 (List.getElem?_eq_some_iff.1 hk).1 d
  rw [(List.getElem?_eq_some_iff.1 e4).2,(List.getElem?_eq_some_iff.1 hk).2,dF] at this
  simp only at this;omega
 refine ⟨hok,⟨by rw [rf];exact h.eZ.names,fun x hx=>?_,fun o ho=>?_⟩,fun w hw N3 KQ o ho mN hp=>?_⟩
 ·obtain ⟨f,hf,e6⟩:=qO hkeep x hx
  rw [e6];exact h.eZ.paths f hf
 ·rcases hmem o ho with rfl|⟨y,hy,rfl⟩
  ·exact h.eZ.xs j0 hj
  rw [(bO _ y).2];exact h.eZ.xs y hy
 have hw':=hw
 rcases hmem w hw with rfl|⟨y,hy,rfl⟩
 ·cases N3
 rw [(bO _ y).2] at hp
 rw [(bO _ y).1] at KQ
 have key:∀z∈s.ap,o=cg (aB s (aM s a).1).1 z→z.runs=true∧o.id=z.id∧o.x=z.x:=by
  intro z _ ez
  rw [ez] at mN
  exact ⟨((dL _ z).1 mN).1,by rw [ez];exact (bO _ z).1,by rw [ez];exact (bO _ z).2⟩
 by_cases vO:y.runs=true
 ·have hv:y.id∈(aB s (aM s a).1).1:=by
   rcases Classical.em (y.id∈(aB s (aM s a).1).1) with g|g
   ·exact g
   have:=(dL (aB s (aM s a).1).1 y).2 ⟨vO,g⟩
   rw [this] at N3;cases N3
  obtain ⟨y2,WS,f1,f2⟩:=Ci _ hv
  have:=bN h.ok.ids WS hy f1
  subst this
  rcases hmem o ho with rfl|⟨z,hz,ez⟩
  ·have:j0.x.prio<y2.x.prio:=hp
   omega
  obtain ⟨k1,k2,k3⟩:=key z hz ez
  rw [k2]
  exact h.KP j0 hj hr e3 z hz k1 (by rw [←k3];omega)
 have Wc:y.runs=false:=by simpa using vO
 have hs:=mL h.ok hok rf hkeep hy Wc hw' N3 (bO _ y).1 (bO _ y).2
 rw [hs] at KQ
 have h3:=TB y hy Wc KQ
 rcases hmem o ho with rfl|⟨z,hz,ez⟩
 ·have:j0.x.prio<y.x.prio:=hp
  omega
 obtain ⟨k1,k2,k3⟩:=key z hz ez
 rw [k2]
 exact h.KP y hy Wc KQ z hz k1 (by rw [←k3];exact hp)
theorem o8:∀(n:Nat) {s:aT} {a:Nat},s.fair→gU s a→(cw n s a).fair
 |0,_,_,h,_=>h
 |n+1,s,a,h,hn=>by
  unfold cw
  cases e:(bC s a).2.2 with
  |true=>rw [if_pos rfl];exact o8 n (h.step hn e) (iT h.ok hn e)
  |false=>rw [if_neg (by decide),(ri h.ok e).1];exact h
theorem aT.fair.tick {s:aT} (h:s.fair):(gv s).fair:=o8 128 h.count (fun k hk=>by omega)
end Dem
end
section
open Go Dem Go.Proofs
namespace Dem
variable {t:Th}
theorem aT.fair.sm {s:aT} (h:s.fair):s.sm:=h.ok.small h.eZ
theorem BE {s:aT} (h:s.fair) (l:List Int):(aI s l).sm:=by
 have g:=de h.ok l
 refine g.ok.small (fR.eZ ⟨g.nodes,qO g.tree,fun j hj=>?_⟩ h.eZ)
 rw [g.ap] at hj
 obtain ⟨y,hy,rfl⟩:=List.mem_map.1 hj
 exact ⟨y,hy,(bO l y).2⟩
theorem yE {s:aT} (h:s.ok) (id:Int):(bZ s id).length<1000:=by
 have h1:=h.most
 unfold bZ
 split
 ·simp
 rw [lgM,List.length_mergeSort]
 have:=List.length_filter_le (fun o:Jb=>o.runs&&decide (o.x.prio<(bB s.ap id).1.x.prio)) s.ap
 omega
theorem Ck {s:aT} (h:s.ok) (id:Int):(aB s id).1.length<1000000∧(aB s id).2.1.length<1000000:=by
 have ha:=yE h id
 unfold aB
 split
 ·simp
 rename_i l nodes e
 have h1:=BA _ _ _ _ e
 have h2:=tX (s:=s) (id:=id) (l.length+1) 0 l nodes h1.2
 exact ⟨by have:=h2.1;simp only;omega,h2.2⟩
theorem KR (ht:TT t) {s:aT} (h:s.fair) {a:Nat} (e:(aM s a).2.2=true):FC 19 [.agg [aC s.round,aC s.next,SL (s.aX.nodes.map Node.cells),SL (s.aX.places.map Place.cells),SL (s.tree.map bg.cells),SL (s.ap.map Jb.cells),SL (s.queue.map cu.cells),aC s.ev.first,SL (s.ev.l.map ek.cells),aC s.au.first,SL (s.au.l.map ek.cells)],aC (aM s a).1] [] (.ret (V7 t (t _ fun _=>aB s (aM s a).1))) []:=by
 obtain ⟨j,hj,e1,hr,hc,_⟩:=kU h.ok e
 obtain ⟨i,hi⟩:=List.getElem?_of_mem hj
 have hf:=(dg h.ok.ids hi).2.2
 rw [e1] at hf
 have h12:(E5 s.ap (bB s.ap (aM s a).1).1.x.prio).length≤12:=by rw [hf];exact Rm h.ok h.KP hj hr hc
 have hjl:=h.sm.ap.1
 refine KL ht s.round s.next s.ev.first s.au.first rfl rfl rfl rfl rfl rfl rfl _ ?_ (yE h.ok _) (BE h)
 rcases Nat.eq_zero_or_pos (E5 s.ap (bB s.ap (aM s a).1).1.x.prio).length with g|g
 ·exact Rd ht _ _ _ _ rfl rfl rfl rfl rfl rfl rfl _ hjl (List.length_eq_zero_iff.1 g)
 exact Re ht _ _ _ _ rfl rfl rfl rfl rfl rfl rfl _ hjl rfl g h12 h.ok.ids
theorem Rn (ht:TT t) {s:aT} (h:s.fair) (a:Nat) (ha:a<1000000) {aa:Int} (RA:aa=a) {rd nx ef af:Int} {ns ps ts js qs es bW:List (List D)} (hT:Told s rd nx ns ps ts js qs ef es af bW):
 FC 72 [.agg [aC rd,aC nx,SL ns,SL ps,SL ts,SL js,SL qs,aC ef,SL es,aC af,SL bW,bG aa]] [] (.ret (Wb t (t _ fun _=>bC s a))) []:=by
 obtain ⟨rfl,rfl,rfl,rfl,rfl,rfl,rfl,rfl,rfl,rfl,rfl⟩:=hT
 refine Rk ht s.round s.next s.ev.first s.au.first rfl rfl rfl rfl rfl rfl rfl a RA (w:=aM s a) rfl (vi:=if (aM s a).2.2 then aB s (aM s a).1 else ([],[],false)) (fun e=>by rw [if_pos e]) ?_ (fun e=>?_) ?_ (fun k=>BE h _)
 ·exact Me ht s.round s.next s.ev.first s.au.first rfl rfl rfl rfl rfl rfl rfl (fun id=>wT ht s.round s.next s.ev.first s.au.first rfl rfl rfl rfl rfl rfl rfl h.sm id) h.sm.queue a RA ha
 ·rw [if_pos e];exact KR ht h e
 split
 ·exact Ck h.ok _
 simp
theorem Ro {s:aT} (hf:s.fair) {a:Nat} (ha:a<1000000):(bC s a).2.1<1000000:=by
 have h:=hf.ok
 cases e:(bC s a).2.2 with
 |true=>
  obtain ⟨c1,_,c3,_⟩:=kB h e
  obtain ⟨j,_,_,_,_,e4,_⟩:=kU h c1
  have:=(List.getElem?_eq_some_iff.1 e4).1
  have h2:=hf.sm.queue
  omega
 |false=>
  unfold bC at e ⊢
  split
  ·exact ha
  split
  ·exact ha
  split
  ·exact ha
  rename_i g1 g2 g3;rw [if_neg g1,if_neg g2,if_neg g3] at e;cases e
theorem Ij (ht:TT t) (rd nx ef af:Int) {nl:List Node} {pl:List Place} {tl:List bg} {jl:List Jb} {ql:List cu} {el al:List ek} {ns ps ts js qs es bW:List (List D)} (fF:ns=nl.map Node.cells) (hps:ps=pl.map Place.cells) (hts:ts=tl.map bg.cells) (eW:js=jl.map Jb.cells) (eM:qs=ql.map cu.cells) (aE:es=el.map ek.cells) (has:bW=al.map ek.cells) (h:(⟨rd,nx,⟨nl,pl⟩,tl,jl,ql,⟨ef,el⟩,⟨af,al⟩⟩:aT).fair):FC 29 [.agg [aC rd,aC nx,SL ns,SL ps,SL ts,SL js,SL qs,aC ef,SL es,aC af,SL bW]] [] (.ret (dM t (t _ fun _=>cA ⟨rd,nx,⟨nl,pl⟩,tl,jl,ql,⟨ef,el⟩,⟨af,al⟩⟩))) []:=by
 refine Rj ht _ _ _ _ fF hps hts eW eM aE has h.sm.ap.1 (fun k=>?_) (fun k x hx=>?_)
 ·have:=DJ h.ok h.eZ k
  exact this.1.small this.2
 have g:=(DJ h.ok h.eZ k).1
 have h1:=g.left x hx
 have h2:=(c7.1 (g.py x hx).1)
 rcases Bool.eq_false_or_eq_true x.runs with r|r
 ·have:=h1.1 r;omega
 have:=h1.2 r;omega
theorem Ik (ht:TT t) {s:aT} (h:s.fair):FC 30 [dM t s] [] (.ret (dM t (t _ fun _=>qZ s))) []:=
 N2 ht _ _ _ _ (by simp only [ht]) (by simp only [ht]) (by simp only [ht]) (by simp only [ht]) (by simp only [ht]) (by simp only [ht]) (by simp only [ht]) (fun T a=>T.fair∧gU T a∧a<1000000) ⟨h,fun k hk=>by omega,by omega⟩ (fun T a g e=>⟨g.1.step g.2.1 e,iT g.1.ok g.2.1 e,Ro g.1 g.2.2⟩) (fun T a g rd nx ns ps ts js qs ef es af bW hT aa RA=>Rn ht g.1 a g.2.2 RA hT)
theorem Fa (ht:TT t) (rd nx ef af:Int) {nl:List Node} {pl:List Place} {tl:List bg} {jl:List Jb} {ql:List cu} {el al:List ek} {ns ps ts js qs es bW:List (List D)} (fF:ns=nl.map Node.cells) (hps:ps=pl.map Place.cells) (hts:ts=tl.map bg.cells) (eW:js=jl.map Jb.cells) (eM:qs=ql.map cu.cells) (aE:es=el.map ek.cells) (has:bW=al.map ek.cells) (h:(⟨rd,nx,⟨nl,pl⟩,tl,jl,ql,⟨ef,el⟩,⟨af,al⟩⟩:aT).fair):FC 27 [.agg [aC rd,aC nx,SL ns,SL ps,SL ts,SL js,SL qs,aC ef,SL es,aC af,SL bW]] [] (.ret (dM t (t _ fun _=>gv ⟨rd,nx,⟨nl,pl⟩,tl,jl,ql,⟨ef,el⟩,⟨af,al⟩⟩))) []:=by
 obtain ⟨C,hC⟩:∃C,C=cA ⟨rd,nx,⟨nl,pl⟩,tl,jl,ql,⟨ef,el⟩,⟨af,al⟩⟩:=⟨_,rfl⟩
 have fC:C.fair:=by rw [hC];exact h.count
 have cc:FC 29 [.agg [aC rd,aC nx,SL ns,SL ps,SL ts,SL js,SL qs,aC ef,SL es,aC af,SL bW]] [] (.ret (dM t (t _ fun _=>C))) []:=by rw [hC];exact Ij ht _ _ _ _ fF hps hts eW eM aE has h
 obtain ⟨R,hR⟩:∃R,R=gv ⟨rd,nx,⟨nl,pl⟩,tl,jl,ql,⟨ef,el⟩,⟨af,al⟩⟩:=⟨_,rfl⟩
 have cp:FC 30 [dM t C] [] (.ret (dM t (t _ fun _=>R))) []:=by
  rw [show R=qZ C by rw [hR,hC];rfl];exact Ik ht fC
 rw [←hR]
 clear hR hC h
 refine bP ht (aQ:=[]) Tryz.func27 rfl rfl (N:=6) rfl rfl (n:=0) rfl rfl ?_
 cbv
 have bJ:ns.length=nl.length:=by rw [fF,lgM]
 have bQ:ps.length=pl.length:=by rw [hps,lgM]
 have bK:ts.length=tl.length:=by rw [hts,lgM]
 have bT:js.length=jl.length:=by rw [eW,lgM]
 have bq:qs.length=ql.length:=by rw [eM,lgM]
 have aD:es.length=el.length:=by rw [aE,lgM]
 have bD:bW.length=al.length:=by rw [has,lgM]
 (refine aF trv cc (by simp [ht]) rfl rfl rfl (fun r1 cF=>?_);simp only [ht] at cF;subst r1)
 cbv
 (refine aF trv cp (by simp [ht]) rfl rfl rfl (fun r2 iJ=>?_);simp only [ht] at iJ;subst r2)
 cbv
 refine az trv trv rfl rfl rfl ?_
 (simp only [ht];done)
theorem vQ (ht:TT t) (s:aT) (h:s.fair):FC 27 [dM t s] [] (.ret (dM t (t _ fun _=>gv s))) []:=
 Fa ht _ _ _ _ (by simp only [ht]) (by simp only [ht]) (by simp only [ht]) (by simp only [ht]) (by simp only [ht]) (by simp only [ht]) (by simp only [ht]) h
theorem Il (ht:TT t) (s:aT) (h:s.fair):FC 29 [dM t s] [] (.ret (dM t (t _ fun _=>cA s))) []:=
 Ij ht _ _ _ _ (by simp only [ht]) (by simp only [ht]) (by simp only [ht]) (by simp only [ht]) (by simp only [ht]) (by simp only [ht]) (by simp only [ht]) h
theorem zn (ht:TT t) (s:aT) (h:s.fair) (b:Nat) (hb:b<1000000) {bb:Int} (e:bb=b):FC 28 [dM t s,bG bb] [] (.ret (Cj t (t _ fun _=>aM s b))) []:=by
 refine Me ht _ _ _ _ (by simp only [ht]) (by simp only [ht]) (by simp only [ht]) (by simp only [ht]) (by simp only [ht]) (by simp only [ht]) (by simp only [ht]) (fun id=>?_) h.sm.queue b e hb
 exact wT ht _ _ _ _ (by simp only [ht]) (by simp only [ht]) (by simp only [ht]) (by simp only [ht]) (by simp only [ht]) (by simp only [ht]) (by simp only [ht]) h.sm id
theorem Rp (ht:TT t) (s:aT) (h:s.fair) (id:Int):FC 23 [dM t s,aC id] [] (.ret (dh (t _ fun _=>cL s id))) []:=
 wT ht _ _ _ _ (by simp only [ht]) (by simp only [ht]) (by simp only [ht]) (by simp only [ht]) (by simp only [ht]) (by simp only [ht]) (by simp only [ht]) h.sm id
theorem eV (ht:TT t) (s:aT) (h:s.fair) (id:Int):FC 17 [dM t s,aC id] [] (.ret (Ce t (t _ fun _=>bB s.ap id))) []:=
 oa ht id _ _ _ _ _ _ _ _ _ _ (by simp only [ht]) (by have:=h.sm.ap.1;omega)
end Dem
end
section
open Go
namespace Dem
def Rq (c T:aT) (b:Jb):Prop:=b∈T.ap∧b.runs=true∧∃o∈c.ap,o.id=b.id∧o.runs=false
structure Yields (c T:aT):Prop where
 same:∀o∈T.ap,∃p∈c.ap,p.id=o.id∧p.x=o.x
 len:T.ap.length=c.ap.length
 out:∀o∈T.ap,o.runs=false→(∃p∈c.ap,p.id=o.id∧p.runs=true)→∃b,Rq c T b∧o.x.prio<b.x.prio
 first:∀b,Rq c T b→∀w∈T.ap,w.runs=false→cL T w.id=true→bA (iL b) (iL w)=true
theorem Yields.refl {c:aT} (h:c.ok):Yields c c where
 same:=fun o ho=>⟨o,ho,rfl,rfl⟩
 len:=rfl
 out:=fun o ho hr ⟨p,hp,e,TB⟩=>by
  have:=bN h.ids hp ho e
  rw [this,hr] at TB;cases TB
 first:=fun b ⟨hb,hr,o,ho,e,mN⟩=>by
  have:=bN h.ids ho hb e
  rw [this,hr] at mN;cases mN
theorem xe {V:List Int} {y:Jb} (h:y.id ∉ V):cg V y=y:=by unfold cg;rw [if_neg (by simp [h])]
theorem Yields.step {c T:aT} (hc:c.ok) (h:T.ok) (g:Yields c T) {a:Nat} (hn:gU T a) (e:(bC T a).2.2=true):Yields c (bC T a).1:=by
 obtain ⟨c1,c2,c3,hok,rf,hkeep,i,j,hi,hid,hr,iU⟩:=kB h e
 obtain ⟨j0,hj0,e1,_,e3,e4,e5⟩:=kU h c1
 have hj:=List.mem_of_getElem? hi
 have:j0=j:=bN h.ids hj0 hj (e1.trans hid.symm)
 subst this
 obtain ⟨V,hV⟩:∃V,V=(aB T (aM T a).1).1:=⟨_,rfl⟩
 have Ci:∀x∈V,∃y∈T.ap,y.id=x∧y.x.prio<j0.x.prio:=by
  intro x hx
  rw [hV] at hx
  have h1:=((iS h (.inl ⟨j0,hj,hid,hr⟩)).2 c2).2.1 x hx
  have h2:=(dg h.ids hi).2.2
  rw [hid] at h2
  obtain ⟨k,hk⟩:=List.getElem?_of_mem h1
  obtain ⟨o,g1,g2,_,_,g5⟩:=(kS h h2).2.1 k x hk
  exact ⟨o,g1,g2,g5⟩
 rw [←hV] at iU
 have Rr:∀y∈T.ap,y.id∈V→y.x.prio<j0.x.prio:=by
  intro y hy hv
  obtain ⟨z,hz,f1,f2⟩:=Ci _ hv
  rw [bN h.ids hz hy f1] at f2;exact f2
 have hi2:i<T.ap.length:=(List.getElem?_eq_some_iff.1 hi).1
 have TP:j0.begun∈(bC T a).1.ap:=by
  rw [iU]
  exact List.mem_of_getElem? (i:=i) (by rw [List.getElem?_set_self (by simpa using hi2)])
 have hin:∀y∈T.ap,y.id≠j0.id→cg V y∈(bC T a).1.ap:=by
  intro y hy hne
  obtain ⟨k,hk⟩:=List.getElem?_of_mem hy
  have hki:i≠k:=fun e=>by subst e;rw [hi] at hk;cases hk;exact hne rfl
  rw [iU]
  exact List.mem_of_getElem? (i:=k) (by rw [List.getElem?_set_ne hki,List.getElem?_map,hk];rfl)
 have hmem:∀o∈(bC T a).1.ap,o=j0.begun∨∃y∈T.ap,y.id≠j0.id∧o=cg V y:=by
  intro o ho
  have ho':=ho
  rw [iU] at ho
  rcases List.mem_or_eq_of_mem_set ho with f|f
  ·obtain ⟨y,hy,rfl⟩:=List.mem_map.1 f
   by_cases hne:y.id=j0.id
   ·exact .inl (bN hok.ids ho' TP ((bO V y).1.trans hne))
   exact .inr ⟨y,hy,hne,rfl⟩
  exact .inl f
 have TB:∀w∈T.ap,w.runs=false→cL T w.id=true→w.id≠j0.id→bA (iL j0) (iL w)=true:=by
  intro w hw N3 KQ hne
  obtain ⟨k,hk⟩:=List.getElem?_of_mem ((h.gm ⟨w.id,w.x.prio⟩).2 ⟨w,hw,N3,rfl⟩)
  have hle:(aM T a).2.1≤k:=by
   rcases Nat.lt_or_ge k (aM T a).2.1 with d|d
   ·have:cL T w.id=false:=by
     rcases Nat.lt_or_ge k a with f|f
     ·exact hn k f _ hk
     exact e5 k f d _ hk
    rw [this] at KQ;cases KQ
   exact d
  rcases Nat.eq_or_lt_of_le hle with d|d
  ·rw [←d,e4] at hk
   have:=congrArg cu.id (Option.some.inj hk)
   exact absurd this.symm hne
  have:=(List.pairwise_iff_getElem.1 h.iw) (aM T a).2.1 k (List.getElem?_eq_some_iff.1 e4).1 (List.getElem?_eq_some_iff.1 hk).1 d
  rw [(List.getElem?_eq_some_iff.1 e4).2,(List.getElem?_eq_some_iff.1 hk).2] at this
  exact this
 have hnew:∀b,Rq c T b→b.id ∉ V∧b.id≠j0.id:=by
  rintro b ⟨hb,NF,WE⟩
  refine ⟨fun hv=>?_,fun hb0=>?_⟩
  ·have h1:=Rr b hb hv
   have h2:=g.first b ⟨hb,NF,WE⟩ j0 hj0 hr e3
   rw [dF] at h2
   simp only [iL] at h2;omega
  have:=bN h.ids hb hj0 hb0
  rw [this,hr] at NF;cases NF
 have Rs:∀b,Rq c T b→Rq c (bC T a).1 b:=by
  intro b hb
  obtain ⟨n1,n2⟩:=hnew b hb
  have:=hin b hb.1 n2
  rw [xe n1] at this
  exact ⟨this,hb.2.1,hb.2.2⟩
 have sP:∀b,Rq c (bC T a).1 b→b=j0.begun∨Rq c T b:=by
  rintro b ⟨hb,NF,WE⟩
  rcases hmem b hb with f|⟨y,hy,_,rfl⟩
  ·exact .inl f
  obtain ⟨f1,f2⟩:=(dL V y).1 NF
  rw [xe f2] at WE ⊢
  exact .inr ⟨hy,f1,WE⟩
 refine ⟨fun o ho=>?_,?_,fun o ho mN hp=>?_,fun b hb w hw N3 KQ=>?_⟩
 ·rcases hmem o ho with rfl|⟨y,hy,_,rfl⟩
  ·exact g.same j0 hj0
  obtain ⟨p,hp,p1,p2⟩:=g.same y hy
  exact ⟨p,hp,p1.trans (bO V y).1.symm,p2.trans (bO V y).2.symm⟩
 ·rw [iU];simp only [List.length_set,lgM];exact g.len
 ·rcases hmem o ho with rfl|⟨y,hy,_,rfl⟩
  ·cases mN
  rw [(bO V y).1] at hp
  rw [(bO V y).2]
  by_cases vO:y.runs=true
  ·have hv:y.id∈V:=by
    rcases Classical.em (y.id∈V) with f|f
    ·exact f
    have:=(dL V y).2 ⟨vO,f⟩
    rw [this] at mN;cases mN
   have hlt:=Rr y hy hv
   obtain ⟨p0,Ur,q1,_⟩:=g.same j0 hj0
   cases YA:p0.runs with
   |false=>exact ⟨j0.begun,⟨TP,rfl,p0,Ur,q1,YA⟩,hlt⟩
   |true=>
    obtain ⟨b,hb,hlt2⟩:=g.out j0 hj0 hr ⟨p0,Ur,q1,YA⟩
    exact ⟨b,Rs b hb,by omega⟩
  obtain ⟨b,hb,hlt⟩:=g.out y hy (by simpa using vO) hp
  exact ⟨b,Rs b hb,hlt⟩
 have hw':=hw
 rcases hmem w hw with rfl|⟨y,hy,hne,rfl⟩
 ·cases N3
 have er:iL (cg V y)=iL y:=by unfold iL;rw [(bO V y).1,(bO V y).2]
 rw [(bO V y).1] at KQ
 rw [er]
 by_cases vO:y.runs=true
 ·have hv:y.id∈V:=by
   rcases Classical.em (y.id∈V) with f|f
   ·exact f
   have:=(dL V y).2 ⟨vO,f⟩
   rw [this] at N3;cases N3
  have hlt:=Rr y hy hv
  rcases sP b hb with rfl|hb
  ·rw [dF];exact .inl hlt
  have h2:=g.first b hb j0 hj0 hr e3
  rw [dF] at h2 ⊢
  simp only [iL] at h2 ⊢;omega
 have Wc:y.runs=false:=by simpa using vO
 have hs:=mL h hok rf hkeep hy Wc hw' N3 (bO V y).1 (bO V y).2
 rw [hs] at KQ
 rcases sP b hb with rfl|hb
 ·exact TB y hy Wc KQ hne
 exact g.first b hb y hy Wc KQ
end Dem
end
section
open Go Dem Go.Proofs
namespace Dem
variable {t:Th}
theorem TQ (ht:TT t):FC 66 [] [] (.ret (dM t (t _ fun _=>Ch 2))) []:=by
 obtain ⟨A,hA⟩:∃A,A=Ch 2:=⟨_,rfl⟩
 have h0:=(vL 192).sm
 have h1:=Bu.sm
 have h2:=Bv.sm
 rw [←hA]
 refine bP ht (aQ:=[]) Tryz.func66 rfl rfl (N:=29) rfl rfl (n:=0) rfl rfl ?_
 cbv
 (refine aF trv (yl ht 192 (by decide) rfl) (by simp [ht]) rfl rfl rfl (fun r1 cF=>?_);simp only [ht] at cF;rw [←cF] at h0)
 cbv
 ((refine aF trv (lV ht _ _ _ _ (nl:=r1.aX.nodes) (pl:=r1.aX.places) (tl:=r1.tree) (jl:=r1.ap) (ql:=r1.queue) (el:=r1.ev.l) (al:=r1.au.l) (by simp only [ht]) (by simp only [ht]) (by simp only [ht]) (by simp only [ht]) (by simp only [ht]) (by simp only [ht]) (by simp only [ht]) 3 0 0 0 1 1 5 [97] (oZ:=[]) rfl (mJ Dz) h0.tree.1 h0.ap.1 h0.queue h0.notes.1) (by simp [ht]) rfl rfl rfl (fun r2 iJ=>?_);simp only [ht] at iJ;have e2:r2.1=QY:=(by rw [iJ,cF];rfl);have e3:r2.2.1=QZ:=(by rw [iJ,cF];rfl);rw [←e2] at h1))
 cbv
 (refine aF trv (vI ht _ _ _ _ (nl:=r2.1.aX.nodes) (pl:=r2.1.aX.places) (tl:=r2.1.tree) (jl:=r2.1.ap) (ql:=r2.1.queue) (el:=r2.1.ev.l) (al:=r2.1.au.l) (by simp only [ht]) (by simp only [ht]) (by simp only [ht]) (by simp only [ht]) (by simp only [ht]) (by simp only [ht]) (by simp only [ht]) _ (names:=[[110,49]]) (by rfl) (tV h1) h1.tree.1 h1.ap.1 h1.nodes.1 h1.places h1.queue h1.notes.1 (by simp)) (by simp [ht]) rfl rfl rfl (fun r3 mM=>?_);simp only [ht] at mM;have e4:r3.1=HY:=(by rw [mM];unfold HY;rw [←e2,←e3]);rw [←e4] at h2)
 cbv
 ((refine aF trv (lV ht _ _ _ _ (nl:=r3.1.aX.nodes) (pl:=r3.1.aX.places) (tl:=r3.1.tree) (jl:=r3.1.ap) (ql:=r3.1.queue) (el:=r3.1.ev.l) (al:=r3.1.au.l) (by simp only [ht]) (by simp only [ht]) (by simp only [ht]) (by simp only [ht]) (by simp only [ht]) (by simp only [ht]) (by simp only [ht]) 2 0 0 0 1 3 2 [98] (oZ:=[]) rfl (mJ (DA 2)) h2.tree.1 h2.ap.1 h2.queue h2.notes.1) (by simp [ht]) rfl rfl rfl (fun r4 k9=>?_);simp only [ht] at k9;have e5:A=r4.1:=(by rw [k9,hA];show (dc HY (Ys 2)).1=_;rw [←e4];rfl)))
 cbv
 refine az trv trv rfl rfl rfl ?_
 (simp only [ht,e5];done)
end Dem
end
section
open Go
namespace Dem
theorem Im {s:aT} {id:Int} {L:List Int} (h:bZ s id=L):aB s id=qW s id L:=by subst h;rfl
theorem Io {s:aT} {a k:Nat} {id:Int} {L l:List Int} {nodes:List aK} (h1:aM s a=(id,k,true)) (h2:bZ s id=L) (h3:qW s id L=(l,nodes,true)) (h4:(cq (aI s l) id nodes).2=0):
 bC s a=((cq (aI s l) id nodes).1,k,true):=by
 unfold bC
 rw [h1]
 simp only
 rw [Im h2,h3]
 simp only
 rw [if_neg (by decide),if_neg (by decide),if_neg (by simp [h4])]
theorem DK {s:aT} {a k:Nat} {id:Int} {L:List Int} (h1:aM s a=(id,k,true)) (h2:bZ s id=L) (h3:(qW s id L).2.2=false):bC s a=(s,a,false):=by
 unfold bC
 rw [h1]
 simp only
 rw [Im h2,h3]
 rw [if_neg (by decide),if_pos (by decide)]
theorem BF {s:aT} {a:Nat} (h1:(aM s a).2.2=false):bC s a=(s,a,false):=by
 unfold bC;rw [h1,if_pos (by decide)]
theorem lP {n:Nat} {s:aT} {a:Nat} (h:bC s a=(s,a,false)):cw (n+1) s a=s:=by
 rw [cw,h,if_neg (by simp)]
theorem BG {n:Nat} {s t:aT} {a k:Nat} (h:bC s a=(t,k,true)):cw (n+1) s a=cw n t k:=by
 rw [cw,h,if_pos rfl]
def xC:aT:=cA (Ch 2)
def N4:aT:=(cq (aI xC [1]) 2 [[110,49]]).1
def UC:aT:=cA N4
def YC:aT:=cA UC
def Wd:aT:=(cq (aI YC []) 1 [[110,49]]).1
theorem yn1:aM (Ch 2) 0=(2,0,true):=by decide+kernel
theorem yn2:aM (Ch 2) 1=(0,0,false):=by decide+kernel
theorem ya1:aM xC 0=(2,0,true):=by decide+kernel
theorem ya2:bZ xC 2=[1]:=Ky (a:=⟨1,Ask.zero,false,0⟩) (by decide+kernel) (by decide+kernel)
theorem ya3:qW xC 2 [1]=([1],[[110,49]],true):=by decide+kernel
theorem ya4:(cq (aI xC [1]) 2 [[110,49]]).2=0:=by decide+kernel
theorem yb1:aM N4 0=(1,0,true):=by decide+kernel
theorem yb2:qW N4 1 []=([],[],false):=by decide+kernel
theorem yc1:aM UC 0=(1,0,true):=by decide+kernel
theorem yc2:qW UC 1 []=([],[],false):=by decide+kernel
theorem yd1:aM YC 0=(1,0,true):=by decide+kernel
theorem yd2:qW YC 1 []=([],[[110,49]],true):=by decide+kernel
theorem yd3:(cq (aI YC []) 1 [[110,49]]).2=0:=by decide+kernel
theorem yd4:(aM Wd 0).2.2=false:=by decide+kernel
theorem UD:gv (Ch 2)=N4:=by
 show cw (126+1+1) xC 0=N4
 rw [BG (Io ya1 ya2 ya3 ya4)]
 exact lP (DK yb1 (qV (by decide+kernel)) (show (qW N4 1 []).2.2=false by rw [yb2]))
theorem YD:gv N4=UC:=show cw (127+1) UC 0=UC from lP (DK yc1 (qV (by decide+kernel)) (show (qW UC 1 []).2.2=false by rw [yc2]))
theorem YE:gv UC=Wd:=by
 show cw (126+1+1) YC 0=Wd
 rw [BG (Io yd1 (qV (by decide+kernel)) yd2 yd3)]
 exact lP (BF yd4)
theorem YF:gv Ca=cA Ca:=show cw (127+1) (cA Ca) 0=cA Ca from lP (BF (by decide+kernel))
theorem yv1:N4.round=1∧(bB N4.ap 1).2=true∧(bB N4.ap 1).1.runs=false∧(bB N4.ap 2).2=true∧(bB N4.ap 2).1.runs=true∧(bB N4.ap 2).1.left=2:=by decide+kernel
theorem yv2:Wd.round=3∧(bB Wd.ap 1).2=true∧(bB Wd.ap 1).1.runs=true∧(bB Wd.ap 2).2=false:=by decide+kernel
theorem yv3:(bB xC.ap 1).1.left=4∧cL (Ch 2) 2=true∧(cA Ca).round=1:=by decide+kernel
end Dem
end
section
open Go Dem Go.Proofs
namespace Dem
variable {t:Th}
theorem yF (ht:TT t):FC 25 [] [] (.ret (BL true)) []:=by
 obtain ⟨A,hA⟩:∃A,A=Ch 2:=⟨_,rfl⟩
 have fA:A.fair:=by rw [hA];exact (NM 2).fair
 have c0:FC 66 [] [] (.ret (dM t (t _ fun _=>A))) []:=by rw [hA];exact TQ ht
 have n1:aM A 0=(2,0,true):=by rw [hA];exact yn1
 have n2:aM A 1=(0,0,false):=by rw [hA];exact yn2
 obtain ⟨T,hT⟩:∃T,T=gv A:=⟨_,rfl⟩
 have fT:T.fair:=by rw [hT];exact fA.tick
 obtain ⟨U,hU⟩:∃U,U=gv T:=⟨_,rfl⟩
 have fU:U.fair:=by rw [hU];exact fT.tick
 obtain ⟨V,hV⟩:∃V,V=gv U:=⟨_,rfl⟩
 have fV:V.fair:=by rw [hV];exact fU.tick
 obtain ⟨C,hC⟩:∃C,C=cA A:=⟨_,rfl⟩
 have fC:C.fair:=by rw [hC];exact fA.count
 obtain ⟨E,hE⟩:∃E,E=Ca:=⟨_,rfl⟩
 have fE:E.fair:=by rw [hE];exact NN.fair
 obtain ⟨F,hF⟩:∃F,F=gv E:=⟨_,rfl⟩
 have ct1:FC 27 [dM t A] [] (.ret (dM t (t _ fun _=>T))) []:=by rw [hT];exact vQ ht A fA
 have ct2:FC 27 [dM t T] [] (.ret (dM t (t _ fun _=>U))) []:=by rw [hU];exact vQ ht T fT
 have ct3:FC 27 [dM t U] [] (.ret (dM t (t _ fun _=>V))) []:=by rw [hV];exact vQ ht U fU
 have ct4:FC 27 [dM t E] [] (.ret (dM t (t _ fun _=>F))) []:=by rw [hF];exact vQ ht E fE
 have cc:FC 29 [dM t A] [] (.ret (dM t (t _ fun _=>C))) []:=by rw [hC];exact Il ht A fA
 have cn:FC 38 [] [] (.ret (dM t (t _ fun _=>E))) []:=by rw [hE];exact LW ht
 have v1:=yv1
 have v2:=yv2
 have v3:=yv3
 rw [←UD,←hA,←hT] at v1
 rw [←YE,←YD,←UD,←hA,←hT,←hU,←hV] at v2
 rw [show xC=cA (Ch 2) from rfl,←hA,←hC,←YF,←hE,←hF] at v3
 obtain ⟨w1,w2,w3⟩:=v3
 obtain ⟨p1,p2,p3,p4,p5,p6⟩:=v1
 obtain ⟨q1,q2,q3,q4⟩:=v2
 clear hA hT hU hV hC hE hF
 refine bP ht (aQ:=[]) Tryz.func25 rfl rfl (N:=135) rfl rfl (n:=0) rfl rfl ?_
 cbv
 (refine aF trv c0 (by simp) rfl rfl rfl (fun r1 cF=>?_);simp only [ht] at cF;subst r1)
 cbv
 ((refine aF trv (zn ht A fA 0 (by decide) (bb:=0) rfl) (by simp) rfl rfl rfl (fun r1 cF=>?_);simp only [ht] at cF;rw [n1] at cF;subst r1))
 cbv
 ((refine aF trv (zn ht A fA 1 (by decide) (bb:=1) rfl) (by simp) rfl rfl rfl (fun r1 cF=>?_);simp only [ht] at cF;rw [n2] at cF;subst r1))
 cbv
 ((refine aF trv ct1 (by simp) rfl rfl rfl (fun r1 cF=>?_);simp only [ht] at cF;subst r1))
 cbv
 ((refine aF trv ct2 (by simp) rfl rfl rfl (fun r1 cF=>?_);simp only [ht] at cF;subst r1))
 cbv
 ((refine aF trv ct3 (by simp) rfl rfl rfl (fun r1 cF=>?_);simp only [ht] at cF;subst r1))
 cbv
 ((refine aF trv (eV ht T fT 1) (by simp) rfl rfl rfl (fun o eo=>?_);simp only [ht] at eo;rw [←eo] at p2 p3))
 cbv
 ((refine aF trv (eV ht T fT 2) (by simp) rfl rfl rfl (fun o eo=>?_);simp only [ht] at eo;rw [←eo] at p4 p5 p6))
 cbv
 ((refine aF trv (eV ht V fV 1) (by simp) rfl rfl rfl (fun o eo=>?_);simp only [ht] at eo;rw [←eo] at q2 q3))
 cbv
 ((refine aF trv (eV ht V fV 2) (by simp) rfl rfl rfl (fun o eo=>?_);simp only [ht] at eo;rw [←eo] at q4))
 cbv
 (refine aF trv cc (by simp) rfl rfl rfl (fun r1 cF=>?_);simp only [ht] at cF;subst r1)
 cbv
 ((refine aF trv (eV ht C fC 1) (by simp) rfl rfl rfl (fun o eo=>?_);simp only [ht] at eo;rw [←eo] at w1))
 cbv
 iterate 2 refine gI (by simp [ht]) ?_
 refine pI (by simp [ht]) ?_
 refine gI (by simp [ht]) ?_
 refine pI (by simp [ht]) ?_
 iterate 2 refine gI (by simp [ht]) ?_
 refine pI (by simp [ht]) ?_
 iterate 3 refine gI (by simp [ht]) ?_
 refine pI (by simp [ht]) ?_
 refine gI (by simp [ht]) ?_
 refine pI (by simp [ht]) ?_
 iterate 3 refine gI (by simp [ht]) ?_
 refine pI (by simp [ht]) ?_
 refine gI (by simp [ht]) ?_
 refine pI (by simp [ht]) ?_
 iterate 2 refine gI (by simp [ht]) ?_
 refine pI (by simp [ht]) ?_
 iterate 3 refine gI (by simp [ht]) ?_
 refine pI (by simp [ht]) ?_
 iterate 3 refine gI (by simp [ht]) ?_
 refine pI (by simp [ht]) ?_
 refine gI (by simp [ht]) ?_
 refine pI (by simp [ht]) ?_
 iterate 2 refine gI (by simp [ht]) ?_
 refine pI (by simp [ht]) ?_
 iterate 2 refine gI (by simp [ht]) ?_
 refine pI (by simp [ht]) ?_
 iterate 3 refine gI (by simp [ht]) ?_
 refine pI (by simp [ht]) ?_
 refine gI (by simp [ht]) ?_
 (refine eY (fun g9=>⟨(by trivial),by simp,Rp ht A fA 2⟩) rfl rfl (fun q9 eq9=>?_);simp only [ht] at eq9;rw [w2] at eq9;subst eq9)
 cbv
 refine pI (by simp [ht]) ?_
 (refine gX (fun g9=>⟨(by trivial),(by trivial),cn⟩) rfl rfl rfl (fun r1 cF=>?_);simp only [ht] at cF;subst r1)
 cbv
 ((refine gX (fun g9=>⟨(by trivial),(by trivial),ct4⟩) rfl rfl rfl (fun r1 cF=>?_);simp only [ht] at cF;subst r1))
 cbv
 iterate 2 refine gI (by simp [ht]) ?_
 refine pI (by simp [ht]) ?_
 refine az trv trv rfl rfl rfl ?_
 (simp only [ht,ah];grind)
end Dem
end
