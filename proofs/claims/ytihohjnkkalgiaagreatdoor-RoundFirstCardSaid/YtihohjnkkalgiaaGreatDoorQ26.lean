/- Parts of a proof, joined. -/
import Derived.Test.YtihohjnkkalgiaaGreatDoorQ25
set_option linter.all false
set_option maxRecDepth 100000
set_option maxHeartbeats 4000000
section
open Go
namespace Dem
theorem Ku {t u:List bw} (h:cg t u):nX u=nX t:=by
 refine List.ext_getElem? fun i=>?_
 unfold nX
 rw [List.getElem?_map,List.getElem?_map]
 cases hi:t[i]? with
 |none=>rw [List.getElem?_eq_none_iff] at hi;rw [List.getElem?_eq_none_iff.2 (by rw [h.len];exact hi)]
 |some e=>
  obtain ⟨x,h1,h2,h3⟩:=h.at_ i e hi
  rw [h1]
  cases x;cases e;simp_all
theorem Dj {s:bg} (h:s.ok) {j:Jb} (hj:j∈s.av) (hr:j.runs=false):eR s j.id=(j,true):=by
 obtain ⟨i,hi⟩:=List.getElem?_of_mem hj
 unfold eR
 rw [(fq h.ids hi).2.2]
 simp [hr]
theorem tJ {s t:bg} (h:s.ok) (h':t.ok) (hn:t.bf.nodes=s.bf.nodes) (hk:cg s.tree t.tree) {j o:Jb} (hj:j∈s.av) (hr:j.runs=false) (ho:o∈t.av) (wN:o.runs=false) (e:o.id=j.id) (ex:o.x=j.x):
 de t j.id=de s j.id:=by
 have a:=Dj h hj hr
 have b:=Dj h' ho wN
 rw [e] at b
 unfold de ic qy
 rw [a,b,hn,Ku hk]
 simp only
 rw [ex]
theorem rM {s:bg} (h:s.ok) {a:Nat} (e:(bL s a).2.2=true):
 (aW s a).2.2=true∧(aC s (aW s a).1).2.2=true∧(bL s a).2.1=(aW s a).2.1∧(bL s a).1.ok∧(bL s a).1.bf.nodes=s.bf.nodes∧cg s.tree (bL s a).1.tree∧
 ∃(i:Nat) (j:Jb),s.av[i]?=some j∧j.id=(aW s a).1∧j.runs=false∧(bL s a).1.av=(s.av.map (cA (aC s (aW s a).1).1)).set i j.begun:=by
 have hok:=HT h a
 have g:=dw h (aC s (aW s a).1).1
 unfold bL at e hok ⊢
 cases c1:(aW s a).2.2 with
 |false=>rw [c1] at e;cases e
 |true=>
  rw [c1] at e hok
  rw [show (!true)=false from rfl,if_neg (by decide)] at e hok ⊢
  cases c2:(aC s (aW s a).1).2.2 with
  |false=>rw [c2] at e;cases e
  |true=>
   rw [c2] at e hok
   rw [show (!true)=false from rfl,if_neg (by decide)] at e hok ⊢
   by_cases c3:(bZ (aI s (aC s (aW s a).1).1) (aW s a).1 (aC s (aW s a).1).2.1).2=0
   ·rw [if_neg (by simp [c3])] at e hok ⊢
    refine ⟨rfl,rfl,rfl,hok,?_⟩
    obtain ⟨i,j,T,b1,b2,b3,_,b5,b6⟩:=rK g.ok c3
    rw [b6]
    refine ⟨g.nodes,g.tree.trans b5,i,?_⟩
    rw [g.av,List.getElem?_map] at b1
    cases hi:s.av[i]? with
    |none=>rw [hi] at b1;cases b1
    |some o=>
     rw [hi] at b1
     simp only [Option.map_some,osI] at b1
     have hc:de s (aW s a).1=true:=by
      have:=tI s (s.queue.drop a) a
      rw [show mA s (s.queue.drop a) a=aW s a from rfl] at this
      exact (this.1 c1).2.choose_spec.2.2.1
     have hw:(eR s (aW s a).1).2=true:=by
      cases hx:(eR s (aW s a).1).2 with
      |true=>rfl
      |false=>unfold de ic at hc;rw [hx] at hc;exact (show False from Bool.noConfusion hc).elim
     have hid:o.id=(aW s a).1:=by rw [←b2,←b1,(cZ _ o).1]
     have wN:o.runs=false:=by
      unfold eR at hw
      rw [←hid,(fq h.ids hi).2.2] at hw
      simpa using hw
     have:cA (aC s (aW s a).1).1 o=o:=by unfold cA;rw [if_neg (by simp [wN])]
     rw [this] at b1
     subst b1
     exact ⟨o,rfl,hid,wN,by rw [←g.av];rfl⟩
   rw [if_pos c3] at e;cases e
theorem Kv (q:cj):∀{L:List cj},yz L→L=L.filter (fun x=>bG x q)++L.filter (fun x=>!bG x q)
 |[],_=>rfl
 |x::r,h=>by
  have h1:=List.pairwise_cons.1 h
  have ih:=Kv q h1.2
  cases hx:bG x q with
  |true=>
   rw [List.filter_cons,List.filter_cons,hx]
   simpa using ih
  |false=>
   have hn:∀y∈r,bG y q=false:=by
    intro y hy
    cases c:bG y q with
    |false=>rfl
    |true=>rw [oP (h1.1 y hy) c] at hx;cases hx
   have e1:r.filter (fun x=>bG x q)=[]:=List.filter_eq_nil_iff.2 fun y hy=>by simp [hn y hy]
   have e2:r.filter (fun x=>!bG x q)=r:=List.filter_eq_self.2 fun y hy=>by simp [hn y hy]
   rw [List.filter_cons,List.filter_cons,hx,e1,e2];rfl
def n7 (s:bg) (a:Nat):Prop:=∀k<a,∀p,s.queue[k]?=some p→de s p.id=false
theorem gU (s:bg) (a:Nat):((aW s a).2.2=true→a≤(aW s a).2.1∧∃q,s.queue[(aW s a).2.1]?=some q∧q.id=(aW s a).1∧de s (aW s a).1=true∧∀k,a≤k→k<(aW s a).2.1→∀p,s.queue[k]?=some p→de s p.id=false)∧
 ((aW s a).2.2=false→∀k,a≤k→∀p,s.queue[k]?=some p→de s p.id=false):=by
 unfold aW
 obtain ⟨h1,h2⟩:=tI s (s.queue.drop a) a
 generalize mA s (s.queue.drop a) a=w at h1 h2 ⊢
 obtain ⟨w1,w2,w3⟩:=w
 simp only at h1 h2 ⊢
 refine ⟨fun e=>?_,fun e k hk p hp=>?_⟩
 ·obtain ⟨g1,q,g2,g3,g4,g5⟩:=h1 e
  refine ⟨g1,q,?_,g3,g4,fun k hk hk2 p hp=>g5 (k-a) (by omega) p ?_⟩
  ·rw [List.getElem?_drop] at g2;rwa [show a+(w2-a)=w2 by omega] at g2
  rw [List.getElem?_drop,show a+(k-a)=k by omega];exact hp
 refine (h2 e).2.2 p (List.mem_of_getElem? (i:=k-a) ?_)
 rw [List.getElem?_drop,show a+(k-a)=k by omega];exact hp
theorem gV {a b:cj} (h:bG a b=true) (g:bG b a=true):False:=by
 rw [gk] at h g;omega
theorem qN {s:bg} (h:s.ok) {a:Nat} (hn:n7 s a) (e:(bL s a).2.2=true):n7 (bL s a).1 (bL s a).2.1:=by
 obtain ⟨c1,c2,c3,hok,Bp,hkeep,i,j,hi,hid,hr,sB⟩:=rM h e
 obtain ⟨n1,q,n2,n3,n4,n5⟩:=(gU s a).1 c1
 have hj:=List.mem_of_getElem? hi
 have hq:q=⟨j.id,j.x.prio⟩:=by
  obtain ⟨o,ho,_,rfl⟩:=(h.gy q).1 (List.mem_of_getElem? n2)
  have:=c6 h.ids ho hj (by rw [hid];exact n3)
  rw [this]
 have hno:∀k<(aW s a).2.1,∀p,s.queue[k]?=some p→de s p.id=false:=by
  intro k hk p hp
  by_cases c:k<a
  ·exact hn k c p hp
  exact n5 k (by omega) hk p hp
 have HR:∀x∈(aC s (aW s a).1).1,∃y∈s.av,y.id=x∧y.x.prio<j.x.prio:=by
  intro x hx
  have h1:=((mZ h (.inl ⟨j,hj,hid,hr⟩)).2 c2).2.1 x hx
  have h2:=(fq h.ids hi).2.2
  rw [hid] at h2
  obtain ⟨k,hk⟩:=List.getElem?_of_mem h1
  obtain ⟨o,g1,g2,_,_,g5⟩:=(qK h h2).2.1 k x hk
  exact ⟨o,g1,g2,g5⟩
 have hmem:∀p,bG p q=true→(p∈(bL s a).1.queue↔p∈s.queue):=by
  intro p hp
  rw [hok.gy,h.gy,sB]
  constructor
  ·rintro ⟨o,ho,wN,rfl⟩
   obtain ⟨k,hk⟩:=List.getElem?_of_mem ho
   rw [List.getElem?_set] at hk
   split at hk
   ·split at hk
    ·cases hk;cases wN
    cases hk
   rw [List.getElem?_map] at hk
   cases hy:s.av[k]? with
   |none=>rw [hy] at hk;cases hk
   |some y=>
    rw [hy] at hk
    simp only [Option.map_some,osI] at hk
    subst hk
    cases Dk:y.runs with
    |false=>
     have:cA (aC s (aW s a).1).1 y=y:=by unfold cA;rw [if_neg (by simp [Dk])]
     exact ⟨y,List.mem_of_getElem? hy,Dk,by rw [this]⟩
    |true=>
     have hv:y.id∈(aC s (aW s a).1).1:=by
      by_cases c:y.id∈(aC s (aW s a).1).1
      ·exact c
      have:=(fw (aC s (aW s a).1).1 y).2 ⟨Dk,c⟩
      rw [wN] at this;cases this
     obtain ⟨z,hz,hz1,Oi⟩:=HR _ hv
     have:=c6 h.ids hz (List.mem_of_getElem? hy) hz1
     subst this
     rw [hq,gk,(cZ _ z).2] at hp
     simp only at hp
     omega
  rintro ⟨y,hy,Dk,rfl⟩
  refine ⟨y,?_,Dk,rfl⟩
  obtain ⟨k,hk⟩:=List.getElem?_of_mem hy
  have hne:i≠k:=by
   intro c
   subst c
   rw [hi] at hk;cases hk
   rw [hq] at hp
   exact gV hp hp
  refine List.mem_of_getElem? (i:=k) ?_
  rw [List.getElem?_set,if_neg hne,List.getElem?_map,hk]
  simp [cA,Dk]
 have hF:(bL s a).1.queue.filter (fun x=>bG x q)=s.queue.filter (fun x=>bG x q):=by
  refine x5 (hok.iJ.filter _) (h.iJ.filter _) fun p=>?_
  rw [List.mem_filter,List.mem_filter]
  exact ⟨fun ⟨g1,g2⟩=>⟨(hmem p g2).1 g1,g2⟩,fun ⟨g1,g2⟩=>⟨(hmem p g2).2 g1,g2⟩⟩
 have hlt:=(List.getElem?_eq_some_iff.1 n2).1
 have hlen:(aW s a).2.1≤(s.queue.filter fun x=>bG x q).length:=by
  have h1:(s.queue.take (aW s a).2.1).filter (fun x=>bG x q)=s.queue.take (aW s a).2.1:=by
   refine List.filter_eq_self.2 fun p hp=>?_
   obtain ⟨k,hk⟩:=List.getElem?_of_mem hp
   obtain ⟨k1,k2⟩:=List.getElem?_eq_some_iff.1 hk
   rw [List.length_take] at k1
   obtain ⟨b1,b2⟩:=List.getElem?_eq_some_iff.1 n2
   have:=List.pairwise_iff_getElem.1 h.iJ k (aW s a).2.1 (by omega) b1 (by omega)
   rw [b2] at this
   rw [List.getElem_take] at k2
   rwa [k2] at this
  have h2:=((List.take_sublist (aW s a).2.1 s.queue).filter fun x=>bG x q).length_le
  rw [h1,List.length_take] at h2
  omega
 rw [c3]
 intro k hk p hp
 have hpa:bG p q=true:=by
  rw [Kv q hok.iJ,hF,List.getElem?_append_left (by omega)] at hp
  exact (List.mem_filter.1 (List.mem_of_getElem? hp)).2
 have hps:=(hmem p hpa).1 (List.mem_of_getElem? hp)
 obtain ⟨m,hm⟩:=List.getElem?_of_mem hps
 have hma:m<(aW s a).2.1:=by
  rcases Nat.lt_or_ge m (aW s a).2.1 with c|c
  ·exact c
  exfalso
  obtain ⟨b1,b2⟩:=List.getElem?_eq_some_iff.1 n2
  obtain ⟨d1,d2⟩:=List.getElem?_eq_some_iff.1 hm
  by_cases c2:m=(aW s a).2.1
  ·subst c2
   rw [b2] at d2;subst d2
   exact gV hpa hpa
  have:=List.pairwise_iff_getElem.1 h.iJ (aW s a).2.1 m b1 d1 (by omega)
  rw [b2,d2] at this
  exact gV hpa this
 have hz:=hno m hma p hm
 obtain ⟨o,ho,wN,hop⟩:=(hok.gy p).1 (List.mem_of_getElem? hp)
 obtain ⟨y,hy,Dk,hyp⟩:=(h.gy p).1 hps
 have Tt:o.id=y.id:=by rw [hop] at hyp;exact congrArg cj.id hyp
 have hx:o.x=y.x:=by
  rw [sB] at ho
  obtain ⟨k2,hk2⟩:=List.getElem?_of_mem ho
  rw [List.getElem?_set] at hk2
  split at hk2
  ·split at hk2
   ·cases hk2;cases wN
   cases hk2
  rw [List.getElem?_map] at hk2
  cases hw:s.av[k2]? with
  |none=>rw [hw] at hk2;cases hk2
  |some w=>
   rw [hw] at hk2
   simp only [Option.map_some,osI] at hk2
   subst hk2
   rw [(cZ _ w).1] at Tt
   rw [(cZ _ w).2,c6 h.ids (List.mem_of_getElem? hw) hy Tt]
 have:=tJ h hok Bp hkeep hy Dk ho wN Tt hx
 rw [hop];show de _ o.id=false
 rw [Tt,this]
 rw [hyp] at hz;exact hz
def n8 (j:Jb):cj:=⟨j.id,j.x.prio⟩
def vz (s:bg) (q:cj):Nat:=((s.av.map n8).filter fun x=>bG q x).length
theorem HU {s:bg} (h:s.ok) {a:Nat} (e:(bL s a).2.2=true):
 ∃(i:Nat) (j:Jb),s.av[i]?=some j∧a≤(bL s a).2.1∧s.queue[(bL s a).2.1]?=some (n8 j)∧(bL s a).1.ok∧
  (bL s a).1.av=(s.av.map (cA (aC s (aW s a).1).1)).set i j.begun∧
  (bL s a).1.queue.filter (fun x=>bG x (n8 j))=s.queue.filter (fun x=>bG x (n8 j)):=by
 obtain ⟨c1,c2,c3,hok,Bp,hkeep,i,j,hi,hid,hr,sB⟩:=rM h e
 obtain ⟨n1,q,n2,n3,_,_⟩:=(gU s a).1 c1
 have hj:=List.mem_of_getElem? hi
 have hq:q=⟨j.id,j.x.prio⟩:=by
  obtain ⟨o,ho,_,rfl⟩:=(h.gy q).1 (List.mem_of_getElem? n2)
  have:=c6 h.ids ho hj (by rw [hid];exact n3)
  rw [this]
 have HR:∀x∈(aC s (aW s a).1).1,∃y∈s.av,y.id=x∧y.x.prio<j.x.prio:=by
  intro x hx
  have h1:=((mZ h (.inl ⟨j,hj,hid,hr⟩)).2 c2).2.1 x hx
  have h2:=(fq h.ids hi).2.2
  rw [hid] at h2
  obtain ⟨k,hk⟩:=List.getElem?_of_mem h1
  obtain ⟨o,g1,g2,_,_,g5⟩:=(qK h h2).2.1 k x hk
  exact ⟨o,g1,g2,g5⟩
 have hmem:∀p,bG p q=true→(p∈(bL s a).1.queue↔p∈s.queue):=by
  intro p hp
  rw [hok.gy,h.gy,sB]
  constructor
  ·rintro ⟨o,ho,wN,rfl⟩
   obtain ⟨k,hk⟩:=List.getElem?_of_mem ho
   rw [List.getElem?_set] at hk
   split at hk
   ·split at hk
    ·cases hk;cases wN
    cases hk
   rw [List.getElem?_map] at hk
   cases hy:s.av[k]? with
   |none=>rw [hy] at hk;cases hk
   |some y=>
    rw [hy] at hk
    simp only [Option.map_some,osI] at hk
    subst hk
    cases Dk:y.runs with
    |false=>
     have:cA (aC s (aW s a).1).1 y=y:=by unfold cA;rw [if_neg (by simp [Dk])]
     exact ⟨y,List.mem_of_getElem? hy,Dk,by rw [this]⟩
    |true=>
     have hv:y.id∈(aC s (aW s a).1).1:=by
      by_cases c:y.id∈(aC s (aW s a).1).1
      ·exact c
      have:=(fw (aC s (aW s a).1).1 y).2 ⟨Dk,c⟩
      rw [wN] at this;cases this
     obtain ⟨z,hz,hz1,Oi⟩:=HR _ hv
     have:=c6 h.ids hz (List.mem_of_getElem? hy) hz1
     subst this
     rw [hq,gk,(cZ _ z).2] at hp
     simp only at hp
     omega
  rintro ⟨y,hy,Dk,rfl⟩
  refine ⟨y,?_,Dk,rfl⟩
  obtain ⟨k,hk⟩:=List.getElem?_of_mem hy
  have hne:i≠k:=by
   intro c
   subst c
   rw [hi] at hk;cases hk
   rw [hq] at hp
   exact gV hp hp
  refine List.mem_of_getElem? (i:=k) ?_
  rw [List.getElem?_set,if_neg hne,List.getElem?_map,hk]
  simp [cA,Dk]
 have hF:(bL s a).1.queue.filter (fun x=>bG x q)=s.queue.filter (fun x=>bG x q):=by
  refine x5 (hok.iJ.filter _) (h.iJ.filter _) fun p=>?_
  rw [List.mem_filter,List.mem_filter]
  exact ⟨fun ⟨g1,g2⟩=>⟨(hmem p g2).1 g1,g2⟩,fun ⟨g1,g2⟩=>⟨(hmem p g2).2 g1,g2⟩⟩
 refine ⟨i,j,hi,by rw [c3];exact n1,by rw [c3,n2,hq];rfl,hok,sB,?_⟩
 rw [hq] at hF
 exact hF
theorem filter_lt {p r:cj→Bool} (h:∀x,p x=true→r x=true):∀{l:List cj} {y:cj},y∈l→r y=true→p y=false→(l.filter p).length<(l.filter r).length
 |x::l,y,hy,hr,hp=>by
  have hle:∀l:List cj,(l.filter p).length≤(l.filter r).length:=by
   intro l
   induction l with
   |nil=>exact Nat.le_refl _
   |cons z l ih=>
    rw [List.filter_cons,List.filter_cons]
    cases c:p z
    ·cases d:r z<;>simp<;>omega
    rw [h z c];simp;omega
  rw [List.filter_cons,List.filter_cons]
  rcases List.mem_cons.1 hy with rfl|hy
  ·rw [hr,hp];have:=hle l;simp;omega
  have ih:=filter_lt h hy hr hp
  cases c:p x
  ·cases d:r x<;>simp<;>omega
  rw [h x c];simp;omega
theorem EM {s:bg} (h:s.ok) {a:Nat} {q:cj} (hb:∀k,a≤k→∀p,s.queue[k]?=some p→bG q p=true) (e:(bL s a).2.2=true):
 ∃q',(∀k,(bL s a).2.1≤k→∀p,(bL s a).1.queue[k]?=some p→bG q' p=true)∧vz (bL s a).1 q'<vz s q:=by
 obtain ⟨i,j,hi,hle,hqj,hok,sB,hF⟩:=HU h e
 refine ⟨n8 j,?_,?_⟩
 ·intro k hk p hp
  have hsF:(s.queue.filter fun x=>bG x (n8 j)).length≤(bL s a).2.1:=by
   have h1:s.queue.filter (fun x=>bG x (n8 j))=(s.queue.take (bL s a).2.1).filter (fun x=>bG x (n8 j)):=by
    conv=>lhs;rw [←List.take_append_drop (bL s a).2.1 s.queue]
    rw [List.filter_append]
    have:(s.queue.drop (bL s a).2.1).filter (fun x=>bG x (n8 j))=[]:=by
     refine List.filter_eq_nil_iff.2 fun x hx=>?_
     obtain ⟨m,hm⟩:=List.getElem?_of_mem hx
     rw [List.getElem?_drop] at hm
     obtain ⟨b1,b2⟩:=List.getElem?_eq_some_iff.1 hqj
     obtain ⟨d1,d2⟩:=List.getElem?_eq_some_iff.1 hm
     intro c
     by_cases c2:m=0
     ·subst c2
      simp only [Nat.add_zero] at d2
      rw [b2] at d2;subst d2
      exact gV c c
     have:=List.pairwise_iff_getElem.1 h.iJ (bL s a).2.1 _ b1 d1 (by omega)
     rw [b2,d2] at this
     exact gV c this
    rw [this,List.append_nil]
   rw [h1]
   have:=List.length_filter_le (fun x=>bG x (n8 j)) (s.queue.take (bL s a).2.1)
   rw [List.length_take] at this
   omega
  have hna:bG p (n8 j)=false:=by
   rw [Kv (n8 j) hok.iJ,List.getElem?_append_right (by rw [hF];omega)] at hp
   simpa using (List.mem_filter.1 (List.mem_of_getElem? hp)).2
  have hne:p.id≠(n8 j).id:=by
   obtain ⟨o,ho,wN,rfl⟩:=(hok.gy p).1 (List.mem_of_getElem? hp)
   intro c
   have hlt:=(List.getElem?_eq_some_iff.1 hi).1
   have hm:j.begun∈(bL s a).1.av:=by
    rw [sB];refine List.mem_of_getElem? (i:=i) ?_
    rw [List.getElem?_set,if_pos rfl,if_pos (by rw [lgM];exact hlt)]
   have:=c6 hok.ids ho hm c
   rw [this] at wN;cases wN
  exact AA hne (by simp [hna])
 have hr:(bL s a).1.av.map n8=s.av.map n8:=by
  rw [sB]
  refine List.ext_getElem? fun k=>?_
  rw [List.getElem?_map,List.getElem?_map,List.getElem?_set,lgM]
  by_cases c:i=k
  ·subst c
   rw [if_pos rfl,if_pos (List.getElem?_eq_some_iff.1 hi).1,hi];rfl
  rw [if_neg c,List.getElem?_map]
  cases hy:s.av[k]? with
  |none=>rfl
  |some y=>simp only [Option.map_some,n8];rw [(cZ _ y).1,(cZ _ y).2]
 unfold vz
 rw [hr]
 have hqq:=hb _ hle _ hqj
 refine filter_lt (fun x hx=>oP hqq hx) (y:=n8 j) (List.mem_map_of_mem (List.mem_of_getElem? hi)) hqq ?_
 cases c:bG (n8 j) (n8 j) with
 |false=>rfl
 |true=>exact (gV c c).elim
theorem HV {s:bg} (h:s.ok) {a:Nat} (e:(bL s a).2.2=false):(bL s a).1=s∧((aW s a).2.2=true→(aC s (aW s a).1).2.2=false):=by
 unfold bL at e ⊢
 cases c1:(aW s a).2.2 with
 |false=>rw [show (!false)=true from rfl,if_pos rfl];exact ⟨rfl,fun e=>by cases e⟩
 |true=>
  rw [c1] at e
  rw [show (!true)=false from rfl,if_neg (by decide)] at e ⊢
  cases c2:(aC s (aW s a).1).2.2 with
  |false=>rw [show (!false)=true from rfl,if_pos rfl];exact ⟨rfl,fun _=>rfl⟩
  |true=>
   rw [c2] at e
   rw [show (!true)=false from rfl,if_neg (by decide)] at e
   obtain ⟨_,q,n2,n3,_,_⟩:=(gU s a).1 c1
   obtain ⟨o,ho,wN,hq⟩:=(h.gy q).1 (List.mem_of_getElem? n2)
   have hw:(∃j∈s.av,j.id=(aW s a).1∧j.runs=false)∨∀j∈s.av,j.id≠(aW s a).1:=.inl ⟨o,ho,by rw [←n3,hq],wN⟩
   have hz:=((EI h hw).2.2 c2).1
   rw [if_neg (by simp [hz])] at e
   exact (show False from Bool.noConfusion e).elim
theorem sC:∀(n:Nat) {s:bg} {a:Nat} {q:cj},s.ok→n7 s a→(∀k,a≤k→∀p,s.queue[k]?=some p→bG q p=true)→vz s q<n→
 (aW (dB n s a) 0).2.2=true→(aC (dB n s a) (aW (dB n s a) 0).1).2.2=false
 |0,_,_,_,_,_,_,hn=>by omega
 |n+1,s,a,q,h,ha,hb,hn=>by
  unfold dB
  cases e:(bL s a).2.2 with
  |true=>
   rw [if_pos rfl]
   obtain ⟨q',g1,g2⟩:=EM h hb e
   exact sC n (HT h a) (qN h ha e) g1 (by omega)
  |false=>
   rw [if_neg (by decide)]
   obtain ⟨e1,e2⟩:=HV h e
   rw [e1]
   intro c
   obtain ⟨_,q0,m1,m2,m3,m4⟩:=(gU s 0).1 c
   have hk:a≤(aW s 0).2.1:=by
    rcases Nat.lt_or_ge (aW s 0).2.1 a with d|d
    ·have:=ha _ d q0 m1
     rw [m2,m3] at this;cases this
    exact d
   cases f:(aW s a).2.2 with
   |false=>
    have:=(gU s a).2 f _ hk q0 m1
    rw [m2,m3] at this;cases this
   |true=>
    obtain ⟨n1,q1,n2,n3,n4,n5⟩:=(gU s a).1 f
    have heq:(aW s 0).2.1=(aW s a).2.1:=by
     rcases Nat.lt_trichotomy (aW s 0).2.1 (aW s a).2.1 with d|d|d
     ·have:=n5 _ hk d q0 m1
      rw [m2,m3] at this;cases this
     ·exact d
     have:=m4 _ (Nat.zero_le _) d q1 n2
     rw [n3,n4] at this;cases this
    have hid:(aW s 0).1=(aW s a).1:=by
     rw [heq,n2] at m1
     cases m1
     rw [←m2,n3]
    rw [hid]
    exact e2 f
theorem HW {s:bg} (h:s.ok):(aW (kW s) 0).2.2=true→(aC (kW s) (aW (kW s) 0).1).2.2=false:=by
 have h1:=(yj h).1
 refine sC 128 (q:=⟨0,100⟩) h1 (fun k hk=>by omega) (fun k _ p hp=>?_) ?_
 ·obtain ⟨o,ho,_,rfl⟩:=(h1.gy p).1 (List.mem_of_getElem? hp)
  have:=(dh.1 (h1.pe o ho).1).2.2.1
  rw [gk];simp only;omega
 have:=h1.most
 have h2:=List.length_filter_le (fun x=>bG ⟨0,100⟩ x) ((eF s).av.map n8)
 rw [lgM] at h2
 unfold vz;omega
theorem LX {j o:Jb} (h:NL j=some o):o.id=j.id∧o.x=j.x∧o.runs=j.runs∧(j.runs=true→o.left=j.left-1)∧(j.runs=false→o=j):=by
 unfold NL at h
 split at h
 ·rename_i hr
  split at h
  ·cases h
  cases h;exact ⟨rfl,rfl,rfl,fun _=>rfl,fun c=>by rw [hr] at c;cases c⟩
 rename_i hr
 cases h;exact ⟨rfl,rfl,rfl,fun c=>absurd c hr,fun _=>rfl⟩
def bg.Kw (s:bg):Prop:=∀w∈s.av,w.runs=false→de s w.id=true→∀o∈s.av,o.runs=true→o.x.prio<w.x.prio→o.id<12
structure bg.fair (s:bg):Prop where
 ok:s.ok
 eU:s.eU su
 Kw:s.Kw
theorem bg.good.fair {s:bg} (h:s.good):s.fair:=⟨h.ok,h.eU,fun _ _ _ _ o ho hr _=>h.yJ o ho hr⟩
theorem fP.trans {s t u:bg} (h:fP s t) (g:fP t u):fP s u:=by
 refine ⟨g.nodes.trans h.nodes,fun e he=>?_,fun j hj=>?_⟩
 ·obtain ⟨f,hf,e1⟩:=g.paths e he
  obtain ⟨k,hk,e2⟩:=h.paths f hf
  exact ⟨k,hk,e1.trans e2⟩
 obtain ⟨f,hf,e1⟩:=g.xs j hj
 obtain ⟨k,hk,e2⟩:=h.xs f hf
 exact ⟨k,hk,e1.trans e2⟩
theorem EN {s:bg} (h:s.ok) {i:Nat} {j:Jb} (hj:s.av[i]?=some j) (hr:j.runs=true):cg s.tree (cN s j.id).tree∧fP s (cN s j.id):=by
 obtain ⟨h1,h2,_⟩:=fq h.ids hj
 have hl:=(h.left j (List.mem_of_getElem? hj)).1 hr
 have e:yh s i={s with av:=s.av.set i (j.to (j.left-1))}:=by unfold yh;rw [h2]
 unfold cN
 rw [h1]
 simp only
 rw [h2,e]
 by_cases c:j.left=1
 ·rw [if_pos (by omega),LU h hj]
  have hk:=C4 h j.id 3
  obtain ⟨_,_,g⟩:=yU h hj 3
  obtain ⟨T,gT,g2⟩:=g hr
  refine ⟨?_,hk⟩
  rw [g2];exact gT
 rw [if_neg (by omega)]
 exact ⟨cg.refl _,⟨rfl,fun e he=>⟨e,he,rfl⟩,JL hj rfl⟩⟩
theorem oW:∀(R:List Int) {t:bg},t.ok→R.Nodup→(∀id∈R,∃j∈t.av,j.id=id∧j.runs=true)→
 cg t.tree (R.foldl cN t).tree∧fP t (R.foldl cN t)
 |[],t,_,_,_=>⟨cg.refl _,fP.refl _⟩
 |id::R,t,h,hn,hj=>by
  obtain ⟨BD,hn2⟩:=List.nodup_cons.1 hn
  obtain ⟨o,hm,rfl,hr⟩:=hj id (by simp)
  obtain ⟨i,hi⟩:=List.getElem?_of_mem hm
  have c1:=(qL h hi hr).1
  have c4:=Bo h hi hr
  have hj2:∀x∈R,∃y∈(cN t o.id).av,y.id=x∧y.runs=true:=by
   intro x hx
   obtain ⟨y,hy,rfl,Dk⟩:=hj x (by simp [hx])
   have hne:y.id≠o.id:=fun e=>BD (by rw [←e];exact hx)
   refine ⟨y,?_,rfl,Dk⟩
   rw [c4,List.mem_filterMap]
   exact ⟨y,hy,by unfold cnt;rw [if_neg (by simp [hne])]⟩
  obtain ⟨g1,g2⟩:=oW R c1 hn2 hj2
  obtain ⟨k1,k2⟩:=EN h hi hr
  rw [List.foldl_cons]
  exact ⟨k1.trans g1,k2.trans g2⟩
def EO (s:bg):bg:={s with round:=u64 (s.round+1)}
theorem wO {s:bg} (h:s.ok):(EO s).ok:={bf:=h.bf,gR:=h.gR,tree:=h.tree,used:=h.used,most:=h.most,next:=h.next,ids:=h.ids,u9:=h.u9,pe:=h.pe,left:=h.left,iJ:=h.iJ,kK:=h.kK,gy:=h.gy,places:=h.places,count:=h.count,notes:=h.notes}
theorem Bq {s:bg} (h:s.ok):(cO s).Nodup∧∀id∈cO s,∃j∈s.av,j.id=id∧j.runs=true:=by
 refine ⟨?_,fun id hid=>?_⟩
 ·unfold cO
  rw [List.nodup_iff_pairwise_ne,List.pairwise_map]
  exact (h.ids.filter _).imp fun {a b} g=>by omega
 obtain ⟨j,hj,e⟩:=List.mem_map.1 hid
 obtain ⟨h1,h2⟩:=List.mem_filter.1 hj
 exact ⟨j,h1,e,h2⟩
theorem Dl {s:bg} (h:s.ok) (l:s.eU su) (k:Nat):(((cO s).take k).foldl cN (EO s)).ok∧(((cO s).take k).foldl cN (EO s)).eU su:=by
 obtain ⟨r1,r2⟩:=Bq h
 have n1:((cO s).take k).Nodup:=r1.sublist (List.take_sublist _ _)
 have n2:∀id∈(cO s).take k,∃j∈(EO s).av,j.id=id∧j.runs=true:=fun id hid=>r2 id (List.mem_of_mem_take hid)
 exact ⟨(qM _ (wO h) n1 n2).1,(oW _ (wO h) n1 n2).2.eU ⟨l.names,l.paths,l.xs⟩⟩
theorem HX {s:bg} (h:s.ok):cg s.tree (eF s).tree∧fP s (eF s):=by
 obtain ⟨r1,r2⟩:=Bq h
 obtain ⟨a,b⟩:=oW (cO s) (wO h) r1 r2
 exact ⟨a,⟨b.nodes,b.paths,b.xs⟩⟩
theorem bg.fair.count {s:bg} (h:s.fair):(eF s).fair:=by
 obtain ⟨k1,k2⟩:=HX h.ok
 obtain ⟨c1,c2,c3,c4⟩:=yj h.ok
 refine ⟨c1,k2.eU h.eU,fun w hw hr hc o ho wN hp=>?_⟩
 have hw':=hw
 rw [c4] at hw ho
 obtain ⟨y,hy,e⟩:=List.mem_filterMap.1 hw
 obtain ⟨z,hz,g⟩:=List.mem_filterMap.1 ho
 obtain ⟨e1,e2,e3,_⟩:=LX e
 obtain ⟨g1,g2,g3,_⟩:=LX g
 have hs:=tJ h.ok c1 k2.nodes k1 hy (by rw [←e3];exact hr) hw' hr e1 e2
 rw [e1,hs] at hc
 rw [g1]
 exact h.Kw y hy (by rw [←e3];exact hr) hc z hz (by rw [←g3];exact wN) (by rw [←g2,←e2];exact hp)
theorem Br {s:bg} (h:s.ok) {a:Nat} (e:(aW s a).2.2=true):∃j∈s.av,j.id=(aW s a).1∧j.runs=false∧de s j.id=true∧s.queue[(aW s a).2.1]?=some ⟨j.id,j.x.prio⟩∧∀k,a≤k→k<(aW s a).2.1→∀p,s.queue[k]?=some p→de s p.id=false:=by
 obtain ⟨n1,q,n2,n3,n4,n5⟩:=(gU s a).1 e
 obtain ⟨o,ho,wN,rfl⟩:=(h.gy q).1 (List.mem_of_getElem? n2)
 exact ⟨o,ho,n3,wN,by rw [show o.id=(aW s a).1 from n3];exact n4,n2,n5⟩
theorem Q9 {s:bg} (h:s.ok) (hl:s.Kw) {w:Jb} (hw:w∈s.av) (hr:w.runs=false) (hc:de s w.id=true):(s.av.filter fun o=>o.runs&&decide (o.x.prio<w.x.prio)).length≤12:=by
 have h1:=ED ((s.av.filter fun o=>o.runs&&decide (o.x.prio<w.x.prio)).map (·.id)) 1 12 (List.pairwise_map.2 (h.ids.filter _)) fun x hx=>by
  obtain ⟨j,hj,rfl⟩:=List.mem_map.1 hx
  obtain ⟨a,b⟩:=List.mem_filter.1 hj
  simp only [Bool.and_eq_true,decide_eq_true_eq] at b
  exact ⟨(h.u9 j a).1,hl w hw hr hc j a b.1 b.2⟩
 rw [lgM] at h1;omega
theorem bg.fair.step {s:bg} (h:s.fair) {a:Nat} (hn:n7 s a) (e:(bL s a).2.2=true):(bL s a).1.fair:=by
 obtain ⟨c1,c2,c3,hok,Bp,hkeep,i,j,hi,hid,hr,sB⟩:=rM h.ok e
 obtain ⟨j0,hj0,e1,_,e3,e4,e5⟩:=Br h.ok c1
 have hj:=List.mem_of_getElem? hi
 have:j0=j:=c6 h.ok.ids hj0 hj (e1.trans hid.symm)
 subst this
 have HR:∀x∈(aC s (aW s a).1).1,∃y∈s.av,y.id=x∧y.x.prio<j0.x.prio:=by
  intro x hx
  have h1:=((mZ h.ok (.inl ⟨j0,hj,hid,hr⟩)).2 c2).2.1 x hx
  have h2:=(fq h.ok.ids hi).2.2
  rw [hid] at h2
  obtain ⟨k,hk⟩:=List.getElem?_of_mem h1
  obtain ⟨o,g1,g2,_,_,g5⟩:=(qK h.ok h2).2.1 k x hk
  exact ⟨o,g1,g2,g5⟩
 have hmem:∀o∈(bL s a).1.av,o=j0.begun∨∃y∈s.av,o=cA (aC s (aW s a).1).1 y:=by
  intro o ho
  rw [sB] at ho
  rcases List.mem_or_eq_of_mem_set ho with g|g
  ·obtain ⟨y,hy,rfl⟩:=List.mem_map.1 g
   exact .inr ⟨y,hy,rfl⟩
  exact .inl g
 have YF:∀w∈s.av,w.runs=false→de s w.id=true→w.x.prio≤j0.x.prio:=by
  intro w hw Wg VO
  obtain ⟨k,hk⟩:=List.getElem?_of_mem ((h.ok.gy ⟨w.id,w.x.prio⟩).2 ⟨w,hw,Wg,rfl⟩)
  have hle:(aW s a).2.1≤k:=by
   rcases Nat.lt_or_ge k (aW s a).2.1 with d|d
   ·have:de s w.id=false:=by
     rcases Nat.lt_or_ge k a with f|f
     ·exact hn k f _ hk
     exact e5 k f d _ hk
    rw [this] at VO;cases VO
   exact d
  rcases Nat.eq_or_lt_of_le hle with d|d
  ·rw [←d,e4] at hk
   have:=congrArg cj.prio (Option.some.inj hk)
   simp only at this;omega
  have:=(List.pairwise_iff_getElem.1 h.ok.iJ) (aW s a).2.1 k (List.getElem?_eq_some_iff.1 e4).1 (List.getElem?_eq_some_iff.1 hk).1 d
  rw [(List.getElem?_eq_some_iff.1 e4).2,(List.getElem?_eq_some_iff.1 hk).2,gk] at this
  simp only at this;omega
 refine ⟨hok,⟨by rw [Bp];exact h.eU.names,fun x hx=>?_,fun o ho=>?_⟩,fun w hw Wg VO o ho wN hp=>?_⟩
 ·obtain ⟨f,hf,e6⟩:=qz hkeep x hx
  rw [e6];exact h.eU.paths f hf
 ·rcases hmem o ho with rfl|⟨y,hy,rfl⟩
  ·exact h.eU.xs j0 hj
  rw [(cZ _ y).2];exact h.eU.xs y hy
 have hw':=hw
 rcases hmem w hw with rfl|⟨y,hy,rfl⟩
 ·cases Wg
 rw [(cZ _ y).2] at hp
 rw [(cZ _ y).1] at VO
 have key:∀z∈s.av,o=cA (aC s (aW s a).1).1 z→z.runs=true∧o.id=z.id∧o.x=z.x:=by
  intro z _ ez
  rw [ez] at wN
  exact ⟨((fw _ z).1 wN).1,by rw [ez];exact (cZ _ z).1,by rw [ez];exact (cZ _ z).2⟩
 by_cases Dk:y.runs=true
 ·have hv:y.id∈(aC s (aW s a).1).1:=by
   rcases Classical.em (y.id∈(aC s (aW s a).1).1) with g|g
   ·exact g
   have:=(fw (aC s (aW s a).1).1 y).2 ⟨Dk,g⟩
   rw [this] at Wg;cases Wg
  obtain ⟨y2,Ws,f1,f2⟩:=HR _ hv
  have:=c6 h.ok.ids Ws hy f1
  subst this
  rcases hmem o ho with rfl|⟨z,hz,ez⟩
  ·have:j0.x.prio<y2.x.prio:=hp
   omega
  obtain ⟨k1,k2,k3⟩:=key z hz ez
  rw [k2]
  exact h.Kw j0 hj hr e3 z hz k1 (by rw [←k3];omega)
 have hyf:y.runs=false:=by simpa using Dk
 have hs:=tJ h.ok hok Bp hkeep hy hyf hw' Wg (cZ _ y).1 (cZ _ y).2
 rw [hs] at VO
 have h3:=YF y hy hyf VO
 rcases hmem o ho with rfl|⟨z,hz,ez⟩
 ·have:j0.x.prio<y.x.prio:=hp
  omega
 obtain ⟨k1,k2,k3⟩:=key z hz ez
 rw [k2]
 exact h.Kw y hy hyf VO z hz k1 (by rw [←k3];exact hp)
theorem vA:∀(n:Nat) {s:bg} {a:Nat},s.fair→n7 s a→(dB n s a).fair
 |0,_,_,h,_=>h
 |n+1,s,a,h,hn=>by
  unfold dB
  cases e:(bL s a).2.2 with
  |true=>rw [if_pos rfl];exact vA n (h.step hn e) (qN h.ok hn e)
  |false=>rw [if_neg (by decide),(HV h.ok e).1];exact h
theorem bg.fair.tick {s:bg} (h:s.fair):(kW s).fair:=vA 128 h.count (fun k hk=>by omega)
end Dem
end
section
open Go Dem Go.Proofs
namespace Dem
variable {t:Th}
theorem bg.fair.sm {s:bg} (h:s.fair):s.sm:=h.ok.small h.eU
theorem Bt {s:bg} (h:s.fair) (l:List Int):(aI s l).sm:=by
 have g:=dw h.ok l
 refine g.ok.small (fP.eU ⟨g.nodes,qz g.tree,fun j hj=>?_⟩ h.eU)
 rw [g.av] at hj
 obtain ⟨y,hy,rfl⟩:=List.mem_map.1 hj
 exact ⟨y,hy,(cZ l y).2⟩
theorem yl {s:bg} (h:s.ok) (id:Int):(cq s id).length<1000:=by
 have h1:=h.most
 unfold cq
 split
 ·simp
 rw [lgM,List.length_mergeSort]
 have:=List.length_filter_le (fun o:Jb=>o.runs&&decide (o.x.prio<(bI s.av id).1.x.prio)) s.av
 omega
theorem B4 {s:bg} (h:s.ok) (id:Int):(aC s id).1.length<1000000∧(aC s id).2.1.length<1000000:=by
 have ha:=yl h id
 unfold aC
 split
 ·simp
 rename_i l nodes e
 have h1:=Bl _ _ _ _ e
 have h2:=tG (s:=s) (id:=id) (l.length+1) 0 l nodes h1.2
 exact ⟨by have:=h2.1;simp only;omega,h2.2⟩
theorem Bu (ht:TT t) {s:bg} (h:s.fair) {a:Nat} (e:(aW s a).2.2=true):FC 19 [.agg [aD s.round,aD s.next,SL (s.bf.nodes.map Node.cells),SL (s.bf.places.map Place.cells),SL (s.tree.map bw.cells),SL (s.av.map Jb.cells),SL (s.queue.map cj.cells),aD s.ev.first,SL (s.ev.l.map dW.cells),aD s.au.first,SL (s.au.l.map dW.cells)],aD (aW s a).1] [] (.ret (Q0 t (t _ fun _=>aC s (aW s a).1))) []:=by
 obtain ⟨j,hj,e1,hr,hc,_⟩:=Br h.ok e
 obtain ⟨i,hi⟩:=List.getElem?_of_mem hj
 have hf:=(fq h.ok.ids hi).2.2
 rw [e1] at hf
 have h12:(EK s.av (bI s.av (aW s a).1).1.x.prio).length≤12:=by rw [hf];exact Q9 h.ok h.Kw hj hr hc
 have hjl:=h.sm.av.1
 refine Kr ht s.round s.next s.ev.first s.au.first rfl rfl rfl rfl rfl rfl rfl _ ?_ (yl h.ok _) (Bt h)
 rcases Nat.eq_zero_or_pos (EK s.av (bI s.av (aW s a).1).1.x.prio).length with g|g
 ·exact QY ht _ _ _ _ rfl rfl rfl rfl rfl rfl rfl _ hjl (List.length_eq_zero_iff.1 g)
 exact QZ ht _ _ _ _ rfl rfl rfl rfl rfl rfl rfl _ hjl rfl g h12 h.ok.ids
theorem Ra (ht:TT t) {s:bg} (h:s.fair) (a:Nat) (ha:a<1000000) {aa:Int} (Rl:aa=a) {rd nx ef af:Int} {ns ps ts js qs es bU:List (List D)} (hT:Told s rd nx ns ps ts js qs ef es af bU):
 FC 72 [.agg [aD rd,aD nx,SL ns,SL ps,SL ts,SL js,SL qs,aD ef,SL es,aD af,SL bU,bJ aa]] [] (.ret (VN t (t _ fun _=>bL s a))) []:=by
 obtain ⟨rfl,rfl,rfl,rfl,rfl,rfl,rfl,rfl,rfl,rfl,rfl⟩:=hT
 refine Q8 ht s.round s.next s.ev.first s.au.first rfl rfl rfl rfl rfl rfl rfl a Rl (w:=aW s a) rfl (vi:=if (aW s a).2.2 then aC s (aW s a).1 else ([],[],false)) (fun e=>by rw [if_pos e]) ?_ (fun e=>?_) ?_ (fun k=>Bt h _)
 ·exact LW ht s.round s.next s.ev.first s.au.first rfl rfl rfl rfl rfl rfl rfl (fun id=>wD ht s.round s.next s.ev.first s.au.first rfl rfl rfl rfl rfl rfl rfl h.sm id) h.sm.queue a Rl ha
 ·rw [if_pos e];exact Bu ht h e
 split
 ·exact B4 h.ok _
 simp
theorem Rb {s:bg} (hf:s.fair) {a:Nat} (ha:a<1000000):(bL s a).2.1<1000000:=by
 have h:=hf.ok
 cases e:(bL s a).2.2 with
 |true=>
  obtain ⟨c1,_,c3,_⟩:=rM h e
  obtain ⟨j,_,_,_,_,e4,_⟩:=Br h c1
  have:=(List.getElem?_eq_some_iff.1 e4).1
  have h2:=hf.sm.queue
  omega
 |false=>
  unfold bL at e ⊢
  split
  ·exact ha
  split
  ·exact ha
  split
  ·exact ha
  rename_i g1 g2 g3;rw [if_neg g1,if_neg g2,if_neg g3] at e;cases e
theorem HY (ht:TT t) (rd nx ef af:Int) {nl:List Node} {pl:List Place} {tl:List bw} {jl:List Jb} {ql:List cj} {el al:List dW} {ns ps ts js qs es bU:List (List D)} (fc:ns=nl.map Node.cells) (hps:ps=pl.map Place.cells) (hts:ts=tl.map bw.cells) (eN:js=jl.map Jb.cells) (eD:qs=ql.map cj.cells) (aG:es=el.map dW.cells) (has:bU=al.map dW.cells) (h:(⟨rd,nx,⟨nl,pl⟩,tl,jl,ql,⟨ef,el⟩,⟨af,al⟩⟩:bg).fair):FC 29 [.agg [aD rd,aD nx,SL ns,SL ps,SL ts,SL js,SL qs,aD ef,SL es,aD af,SL bU]] [] (.ret (fm t (t _ fun _=>eF ⟨rd,nx,⟨nl,pl⟩,tl,jl,ql,⟨ef,el⟩,⟨af,al⟩⟩))) []:=by
 refine Q7 ht _ _ _ _ fc hps hts eN eD aG has h.sm.av.1 (fun k=>?_) (fun k x hx=>?_)
 ·have:=Dl h.ok h.eU k
  exact this.1.small this.2
 have g:=(Dl h.ok h.eU k).1
 have h1:=g.left x hx
 have h2:=(dh.1 (g.pe x hx).1)
 rcases Bool.eq_false_or_eq_true x.runs with r|r
 ·have:=h1.1 r;omega
 have:=h1.2 r;omega
theorem Rc (ht:TT t) {s:bg} (h:s.fair):FC 30 [fm t s] [] (.ret (fm t (t _ fun _=>Bn s))) []:=
 NO ht _ _ _ _ (by simp only [ht]) (by simp only [ht]) (by simp only [ht]) (by simp only [ht]) (by simp only [ht]) (by simp only [ht]) (by simp only [ht]) (fun T a=>T.fair∧n7 T a∧a<1000000) ⟨h,fun k hk=>by omega,by omega⟩ (fun T a g e=>⟨g.1.step g.2.1 e,qN g.1.ok g.2.1 e,Rb g.1 g.2.2⟩) (fun T a g rd nx ns ps ts js qs ef es af bU hT aa Rl=>Ra ht g.1 a g.2.2 Rl hT)
theorem LY (ht:TT t) (rd nx ef af:Int) {nl:List Node} {pl:List Place} {tl:List bw} {jl:List Jb} {ql:List cj} {el al:List dW} {ns ps ts js qs es bU:List (List D)} (fc:ns=nl.map Node.cells) (hps:ps=pl.map Place.cells) (hts:ts=tl.map bw.cells) (eN:js=jl.map Jb.cells) (eD:qs=ql.map cj.cells) (aG:es=el.map dW.cells) (has:bU=al.map dW.cells) (h:(⟨rd,nx,⟨nl,pl⟩,tl,jl,ql,⟨ef,el⟩,⟨af,al⟩⟩:bg).fair):FC 27 [.agg [aD rd,aD nx,SL ns,SL ps,SL ts,SL js,SL qs,aD ef,SL es,aD af,SL bU]] [] (.ret (fm t (t _ fun _=>kW ⟨rd,nx,⟨nl,pl⟩,tl,jl,ql,⟨ef,el⟩,⟨af,al⟩⟩))) []:=by
 obtain ⟨C,hC⟩:∃C,C=eF ⟨rd,nx,⟨nl,pl⟩,tl,jl,ql,⟨ef,el⟩,⟨af,al⟩⟩:=⟨_,rfl⟩
 have fC:C.fair:=by rw [hC];exact h.count
 have cc:FC 29 [.agg [aD rd,aD nx,SL ns,SL ps,SL ts,SL js,SL qs,aD ef,SL es,aD af,SL bU]] [] (.ret (fm t (t _ fun _=>C))) []:=by rw [hC];exact HY ht _ _ _ _ fc hps hts eN eD aG has h
 obtain ⟨R,hR⟩:∃R,R=kW ⟨rd,nx,⟨nl,pl⟩,tl,jl,ql,⟨ef,el⟩,⟨af,al⟩⟩:=⟨_,rfl⟩
 have cp:FC 30 [fm t C] [] (.ret (fm t (t _ fun _=>R))) []:=by
  rw [show R=Bn C by rw [hR,hC];rfl];exact Rc ht fC
 rw [←hR]
 clear hR hC h
 refine bP ht (aV:=[]) Tryz.func27 rfl rfl (N:=6) rfl rfl (n:=0) rfl rfl ?_
 cbv
 have aL:ns.length=nl.length:=by rw [fc,lgM]
 have aR:ps.length=pl.length:=by rw [hps,lgM]
 have aM:ts.length=tl.length:=by rw [hts,lgM]
 have aT:js.length=jl.length:=by rw [eN,lgM]
 have aF:qs.length=ql.length:=by rw [eD,lgM]
 have az:es.length=el.length:=by rw [aG,lgM]
 have aE:bU.length=al.length:=by rw [has,lgM]
 (refine aK trv cc (by simp [ht]) rfl rfl rfl (fun r1 cP=>?_);simp only [ht] at cP;subst r1)
 cbv
 (refine aK trv cp (by simp [ht]) rfl rfl rfl (fun r2 gS=>?_);simp only [ht] at gS;subst r2)
 cbv
 refine aA trv trv rfl rfl rfl ?_
 (simp only [ht];done)
theorem yY (ht:TT t) (s:bg) (h:s.fair):FC 27 [fm t s] [] (.ret (fm t (t _ fun _=>kW s))) []:=
 LY ht _ _ _ _ (by simp only [ht]) (by simp only [ht]) (by simp only [ht]) (by simp only [ht]) (by simp only [ht]) (by simp only [ht]) (by simp only [ht]) h
theorem Rd (ht:TT t) (s:bg) (h:s.fair):FC 29 [fm t s] [] (.ret (fm t (t _ fun _=>eF s))) []:=
 HY ht _ _ _ _ (by simp only [ht]) (by simp only [ht]) (by simp only [ht]) (by simp only [ht]) (by simp only [ht]) (by simp only [ht]) (by simp only [ht]) h
theorem EP (ht:TT t) (s:bg) (h:s.fair) (b:Nat) (hb:b<1000000) {bb:Int} (e:bb=b):FC 28 [fm t s,bJ bb] [] (.ret (Ts t (t _ fun _=>aW s b))) []:=by
 refine LW ht _ _ _ _ (by simp only [ht]) (by simp only [ht]) (by simp only [ht]) (by simp only [ht]) (by simp only [ht]) (by simp only [ht]) (by simp only [ht]) (fun id=>?_) h.sm.queue b e hb
 exact wD ht _ _ _ _ (by simp only [ht]) (by simp only [ht]) (by simp only [ht]) (by simp only [ht]) (by simp only [ht]) (by simp only [ht]) (by simp only [ht]) h.sm id
theorem Re (ht:TT t) (s:bg) (h:s.fair) (id:Int):FC 23 [fm t s,aD id] [] (.ret (dn (t _ fun _=>de s id))) []:=
 wD ht _ _ _ _ (by simp only [ht]) (by simp only [ht]) (by simp only [ht]) (by simp only [ht]) (by simp only [ht]) (by simp only [ht]) (by simp only [ht]) h.sm id
theorem qO (ht:TT t) (s:bg) (h:s.fair) (id:Int):FC 17 [fm t s,aD id] [] (.ret (MS t (t _ fun _=>bI s.av id))) []:=
 nU ht id _ _ _ _ _ _ _ _ _ _ (by simp only [ht]) (by have:=h.sm.av.1;omega)
theorem Kx (ht:TT t) {s:bg} (h:s.fair) {a:Nat} (e:(aW s a).2.2=true):FC 19 [fm t s,aD (aW s a).1] [] (.ret (Q0 t (t _ fun _=>aC s (aW s a).1))) []:=by
 have:=Bu ht h e
 simp only [fm,ht] at this ⊢
 exact this
theorem NP {T u:bg} (fT:T.fair) (eu:u=kW T):∃w,w=aW u 0∧u.fair∧(w.2.2=true→(aC u w.1).2.2=false∧∃q,u.queue[w.2.1]?=some q∧q.id=w.1):=by
 refine ⟨_,rfl,by rw [eu];exact fT.tick,fun e=>?_⟩
 obtain ⟨_,q,h1,h2,_⟩:=(gU u 0).1 e
 have:=HW fT.ok
 rw [←eu] at this
 exact ⟨this e,q,h1,h2⟩
theorem EQ (ht:TT t) (hx0:FC 25 [] [] (.ret (BL true)) []) (N:Nat) (hN:N<256) {a:Int} (ea:a=N) {l:List jS} {dl:List (List D)} (Uk:dl=l.map jS.cells) (hlu:∀x∈l,x.u) (hll:l.length<9223372036854775808) (r:Nat) (oo:r<256) {rr:Int} (hr:rr=r):
 FC 7 [U8 a,SL dl,U8 rr] [] (.ret (BL true)) []:=by
 obtain ⟨S,hS⟩:∃S,S=ie N l (min l.length 40):=⟨_,rfl⟩
 have fS:S.fair:=by rw [hS];exact (ya _ _ _).fair
 have hL:FC 26 [U8 a,SL dl] [] (.ret (fm t (t _ fun _=>S))) []:=by rw [hS];exact Nw ht N hN ea Uk hlu hll
 have r6:IntKind.i64.wrap (rr.tmod 6)=((r%6:Nat):Int):=by rw [hr,show ((r:Nat):Int).tmod 6=((r%6:Nat):Int) by rw [Int.tmod_eq_emod_of_nonneg (by omega)];rfl,MH _ (by omega)]
 clear hS
 refine bP ht (aV:=[]) Tryz.func7 rfl rfl (N:=58) rfl rfl (n:=0) rfl rfl ?_
 cbv
 have mw:dl.length=l.length:=by rw [Uk,lgM]
 (refine gM trv hx0 trv rfl rfl ?_)
 cbv
 refine ap (fun h0=>?_) (fun h0=>?_)
 ·simp [ht,ah,mw,r6] at h0
 simp [ht,ah,mw,r6] at h0
 cbv
 (refine aK trv hL (by simp [ht]) rfl rfl rfl (fun r1 cP=>?_);simp only [ht] at cP;subst r1)
 cbv
 obtain ⟨J1,o8⟩:∃J1:Nat→Int×Int×Int×List (List D)×List (List D)×List (List D)×List (List D)×List (List D)×Int×List (List D)×Int×List (List D)→Prop,∀n i rd nx ns ps ts js qs ef es af bU,J1 n (i,rd,nx,ns,ps,ts,js,qs,ef,es,af,bU)↔(∃(k:Nat) (T:bg),i=k∧k+n=r%6+1∧T.fair∧Told T rd nx ns ps ts js qs ef es af bU):=⟨fun n v=>match v with|(i,rd,nx,ns,ps,ts,js,qs,ef,es,af,bU)=>(∃(k:Nat) (T:bg),i=k∧k+n=r%6+1∧T.fair∧Told T rd nx ns ps ts js qs ef es af bU),fun _ _ _ _ _ _ _ _ _ _ _ _ _=>Iff.rfl⟩
 refine bM ⟨[2,7,8,9],[],[]⟩ (σ:=Int×Int×Int×List (List D)×List (List D)×List (List D)×List (List D)×List (List D)×Int×List (List D)×Int×List (List D)) (fun v=>[(9,.d (.int .i64 (t _ fun _=>v.1)))]) (fun v=>[(0,.var [.d (.int .u64 (t _ fun _=>v.2.1)),.d (.int .u64 (t _ fun _=>v.2.2.1)),.d (.sl (t _ fun _=>v.2.2.2.1)),.d (.sl (t _ fun _=>v.2.2.2.2.1)),.d (.sl (t _ fun _=>v.2.2.2.2.2.1)),.d (.sl (t _ fun _=>v.2.2.2.2.2.2.1)),.d (.sl (t _ fun _=>v.2.2.2.2.2.2.2.1)),.d (.int .u64 (t _ fun _=>v.2.2.2.2.2.2.2.2.1)),.d (.sl (t _ fun _=>v.2.2.2.2.2.2.2.2.2.1)),.d (.int .u64 (t _ fun _=>v.2.2.2.2.2.2.2.2.2.2.1)),.d (.sl (t _ fun _=>v.2.2.2.2.2.2.2.2.2.2.2))])]) J1 ?_
 cbv
 refine aJ ⟨(r%6+1),(_,_,_,_,_,_,_,_,_,_,_,_),(o8 _ _ _ _ _ _ _ _ _ _ _ _ _).2 ?_,by simp only [ht];rfl,?_⟩
 ·exact ⟨0,S,rfl,by simp,fS,Told.self S⟩
 rintro n ⟨i,rd,nx,ns,ps,ts,js,qs,ef,es,af,bU⟩ hj
 replace hj:=(o8 _ _ _ _ _ _ _ _ _ _ _ _ _).1 hj
 obtain ⟨k,T,rfl,j1,fT,jT⟩:=hj
 cbv
 refine ⟨?_,?_⟩
 ·(simp only [ht,ah] at*;omega)
 cbv
 refine ap (fun h2=>?_) (fun h2=>?_)
 ·simp [ht,ah,mw,r6] at h2
  cbv
  (refine aK trv (LY ht _ _ _ _ (nl:=T.bf.nodes) (pl:=T.bf.places) (tl:=T.tree) (jl:=T.av) (ql:=T.queue) (el:=T.ev.l) (al:=T.au.l) (by simp only [ht];exact jT.n) (by simp only [ht];exact jT.p) (by simp only [ht];exact jT.t) (by simp only [ht];exact jT.j) (by simp only [ht];exact jT.q) (by simp only [ht];exact jT.e) (by simp only [ht];exact jT.a) (by simp only [ht];rw [jT.eq];exact fT)) (by simp [ht]) rfl rfl rfl (fun u eu=>?_);simp only [ht] at eu;rw [jT.eq] at eu;obtain ⟨w,hw,fu,hv⟩:=NP fT eu)
  cbv
  (refine aK trv (EP ht u fu 0 (by decide) (bb:=0) rfl) (by simp [ht]) rfl rfl rfl (fun r1 cP=>?_);simp only [ht] at cP;rw [←hw] at cP;subst r1)
  cbv
  refine ap (fun h3=>?_) (fun h3=>?_)
  ·simp [ht,ah,mw,r6] at h3
   cbv
   refine cD (_,_,_,_,_,_,_,_,_,_,_,_) (by simp only [ht];rfl) (n-1) ?_ ((o8 _ _ _ _ _ _ _ _ _ _ _ _ _).2 ?_)
   ·((try simp only [ah] at*);omega)
   simp only [ht,ah]
   exact ⟨k+1,u,aH (by ((try simp only [ah] at*);omega)),by ((try simp only [ah] at*);omega),fu,Told.self u⟩
  simp [ht,ah,mw,r6] at h3
  cbv
  (obtain ⟨Ud,q,hq,hqi⟩:=hv ‹_›;have cV:=Kx ht fu (a:=0) (by rw [←hw];assumption);rw [←hw] at cV;refine aK trv cV (by simp [ht]) rfl rfl rfl (fun v ev=>?_);simp only [ht] at ev;rw [←ev] at Ud)
  cbv
  iterate 3 refine gI (by simp [ht,aj]) ?_
  (refine P6 ht (cT:=cj.bF t) (l:=u.queue) (cells:=cj.cells) (by simp only [ht]) w.2.1 q (fun _=>⟨by simp only [ht,ah],hq⟩) (fun _=>rfl) (fun _=>rfl) (fun hg=>by first|exact ⟨hg,hg,trv⟩|exact ⟨hg,hg,hg,trv⟩|exact ⟨hg,trv⟩) ?_)
  cbv
  iterate 4 refine gI (by simp [ht,aj]) ?_
  refine pI (by simp [ht,aj]) ?_
  refine ap (fun h4=>?_) (fun h4=>?_)
  ·simp [ht,ah,mw,r6] at h4
   cbv
   refine aA trv trv rfl rfl rfl ?_
   (exfalso;simp_all)
  simp [ht,ah,mw,r6] at h4
  cbv
  refine cD (_,_,_,_,_,_,_,_,_,_,_,_) (by simp only [ht];rfl) (n-1) ?_ ((o8 _ _ _ _ _ _ _ _ _ _ _ _ _).2 ?_)
  ·((try simp only [ah] at*);omega)
  simp only [ht,ah]
  exact ⟨k+1,u,aH (by ((try simp only [ah] at*);omega)),by ((try simp only [ah] at*);omega),fu,Told.self u⟩
 simp [ht,ah,mw,r6] at h2
 cbv
 refine aA trv trv rfl rfl rfl ?_
 rfl
theorem Tu (ht:TT t):FC 66 [] [] (.ret (fm t (t _ fun _=>BZ 2))) []:=by
 obtain ⟨A,hA⟩:∃A,A=BZ 2:=⟨_,rfl⟩
 have h0:=(vv 192).sm
 have h1:=Bd.sm
 have h2:=Be.sm
 rw [←hA]
 refine bP ht (aV:=[]) Tryz.func66 rfl rfl (N:=29) rfl rfl (n:=0) rfl rfl ?_
 cbv
 (refine aK trv (xZ ht 192 (by decide) rfl) (by simp [ht]) rfl rfl rfl (fun r1 cP=>?_);simp only [ht] at cP;rw [←cP] at h0)
 cbv
 (first|(refine aK trv (iP ht _ _ _ _ (nl:=r1.bf.nodes) (pl:=r1.bf.places) (tl:=r1.tree) (jl:=r1.av) (ql:=r1.queue) (el:=r1.ev.l) (al:=r1.au.l) (by simp only [ht]) (by simp only [ht]) (by simp only [ht]) (by simp only [ht]) (by simp only [ht]) (by simp only [ht]) (by simp only [ht]) 3 0 0 0 1 1 5 [97] (nY:=[]) rfl (jJ wJ) h0.tree.1 h0.av.1 h0.queue h0.notes.1) (by simp [ht]) rfl rfl rfl (fun r2 gS=>?_);simp only [ht] at gS;have e2:r2.1=LM:=(by rw [gS,cP];rfl);have e3:r2.2.1=LN:=(by rw [gS,cP];rfl);rw [←e2] at h1)|(refine aK trv (iP ht _ _ _ _ (nl:=r3.1.bf.nodes) (pl:=r3.1.bf.places) (tl:=r3.1.tree) (jl:=r3.1.av) (ql:=r3.1.queue) (el:=r3.1.ev.l) (al:=r3.1.au.l) (by simp only [ht]) (by simp only [ht]) (by simp only [ht]) (by simp only [ht]) (by simp only [ht]) (by simp only [ht]) (by simp only [ht]) 2 0 0 0 1 3 2 [98] (nY:=[]) rfl (jJ (wK 2)) h2.tree.1 h2.av.1 h2.queue h2.notes.1) (by simp [ht]) rfl rfl rfl (fun r4 kw=>?_);simp only [ht] at kw;have e5:A=r4.1:=(by rw [kw,hA];show (cW Db (Wf 2)).1=_;rw [←e4];rfl)))
 cbv
 (refine aK trv (vq ht _ _ _ _ (nl:=r2.1.bf.nodes) (pl:=r2.1.bf.places) (tl:=r2.1.tree) (jl:=r2.1.av) (ql:=r2.1.queue) (el:=r2.1.ev.l) (al:=r2.1.au.l) (by simp only [ht]) (by simp only [ht]) (by simp only [ht]) (by simp only [ht]) (by simp only [ht]) (by simp only [ht]) (by simp only [ht]) _ (names:=[[110,49]]) (by first|rfl|(simp only [ht];rfl)) (tF h1) h1.tree.1 h1.av.1 h1.nodes.1 h1.places h1.queue h1.notes.1 (by simp)) (by simp [ht]) rfl rfl rfl (fun r3 kV=>?_);simp only [ht] at kV;have e4:r3.1=Db:=(by rw [kV];unfold Db;rw [←e2,←e3]);rw [←e4] at h2)
 cbv
 (first|(refine aK trv (iP ht _ _ _ _ (nl:=r1.bf.nodes) (pl:=r1.bf.places) (tl:=r1.tree) (jl:=r1.av) (ql:=r1.queue) (el:=r1.ev.l) (al:=r1.au.l) (by simp only [ht]) (by simp only [ht]) (by simp only [ht]) (by simp only [ht]) (by simp only [ht]) (by simp only [ht]) (by simp only [ht]) 3 0 0 0 1 1 5 [97] (nY:=[]) rfl (jJ wJ) h0.tree.1 h0.av.1 h0.queue h0.notes.1) (by simp [ht]) rfl rfl rfl (fun r2 gS=>?_);simp only [ht] at gS;have e2:r2.1=LM:=(by rw [gS,cP];rfl);have e3:r2.2.1=LN:=(by rw [gS,cP];rfl);rw [←e2] at h1)|(refine aK trv (iP ht _ _ _ _ (nl:=r3.1.bf.nodes) (pl:=r3.1.bf.places) (tl:=r3.1.tree) (jl:=r3.1.av) (ql:=r3.1.queue) (el:=r3.1.ev.l) (al:=r3.1.au.l) (by simp only [ht]) (by simp only [ht]) (by simp only [ht]) (by simp only [ht]) (by simp only [ht]) (by simp only [ht]) (by simp only [ht]) 2 0 0 0 1 3 2 [98] (nY:=[]) rfl (jJ (wK 2)) h2.tree.1 h2.av.1 h2.queue h2.notes.1) (by simp [ht]) rfl rfl rfl (fun r4 kw=>?_);simp only [ht] at kw;have e5:A=r4.1:=(by rw [kw,hA];show (cW Db (Wf 2)).1=_;rw [←e4];rfl)))
 cbv
 refine aA trv trv rfl rfl rfl ?_
 (simp only [ht,e5];done)
end Dem
end
section
open Go
namespace Dem
theorem HZ {s:bg} {id:Int} {L:List Int} (h:cq s id=L):aC s id=qH s id L:=by subst h;rfl
theorem H6 {s:bg} {a k:Nat} {id:Int} {L l:List Int} {nodes:List aQ} (h1:aW s a=(id,k,true)) (h2:cq s id=L) (h3:qH s id L=(l,nodes,true)) (h4:(bZ (aI s l) id nodes).2=0):
 bL s a=((bZ (aI s l) id nodes).1,k,true):=by
 unfold bL
 rw [h1]
 simp only
 rw [HZ h2,h3]
 simp only
 rw [if_neg (by decide),if_neg (by decide),if_neg (by simp [h4])]
theorem Dm {s:bg} {a k:Nat} {id:Int} {L:List Int} (h1:aW s a=(id,k,true)) (h2:cq s id=L) (h3:(qH s id L).2.2=false):bL s a=(s,a,false):=by
 unfold bL
 rw [h1]
 simp only
 rw [HZ h2,h3]
 rw [if_neg (by decide),if_pos (by decide)]
theorem Bv {s:bg} {a:Nat} (h1:(aW s a).2.2=false):bL s a=(s,a,false):=by
 unfold bL;rw [h1,if_pos (by decide)]
theorem lC {n:Nat} {s:bg} {a:Nat} (h:bL s a=(s,a,false)):dB (n+1) s a=s:=by
 rw [dB,h,if_neg (by simp)]
theorem Bw {n:Nat} {s t:bg} {a k:Nat} (h:bL s a=(t,k,true)):dB (n+1) s a=dB n t k:=by
 rw [dB,h,if_pos rfl]
def xC:bg:=eF (BZ 2)
def NQ:bg:=(bZ (aI xC [1]) 2 [[110,49]]).1
def Uh:bg:=eF NQ
def Ye:bg:=eF Uh
def VP:bg:=(bZ (aI Ye []) 1 [[110,49]]).1
theorem yn1:aW (BZ 2) 0=(2,0,true):=by decide+kernel
theorem yn2:aW (BZ 2) 1=(0,0,false):=by decide+kernel
theorem ya1:aW xC 0=(2,0,true):=by decide+kernel
theorem ya2:cq xC 2=[1]:=Ke (a:=⟨1,Ask.zero,false,0⟩) (by decide+kernel) (by decide+kernel)
theorem ya3:qH xC 2 [1]=([1],[[110,49]],true):=by decide+kernel
theorem ya4:(bZ (aI xC [1]) 2 [[110,49]]).2=0:=by decide+kernel
theorem yb1:aW NQ 0=(1,0,true):=by decide+kernel
theorem yb2:qH NQ 1 []=([],[],false):=by decide+kernel
theorem yc1:aW Uh 0=(1,0,true):=by decide+kernel
theorem yc2:qH Uh 1 []=([],[],false):=by decide+kernel
theorem yd1:aW Ye 0=(1,0,true):=by decide+kernel
theorem yd2:qH Ye 1 []=([],[[110,49]],true):=by decide+kernel
theorem yd3:(bZ (aI Ye []) 1 [[110,49]]).2=0:=by decide+kernel
theorem yd4:(aW VP 0).2.2=false:=by decide+kernel
theorem Ui:kW (BZ 2)=NQ:=by
 show dB (126+1+1) xC 0=NQ
 rw [Bw (H6 ya1 ya2 ya3 ya4)]
 exact lC (Dm yb1 (qG (by decide+kernel)) (show (qH NQ 1 []).2.2=false by rw [yb2]))
theorem Yf:kW NQ=Uh:=show dB (127+1) Uh 0=Uh from lC (Dm yc1 (qG (by decide+kernel)) (show (qH Uh 1 []).2.2=false by rw [yc2]))
theorem Yg:kW Uh=VP:=by
 show dB (126+1+1) Ye 0=VP
 rw [Bw (H6 yd1 (qG (by decide+kernel)) yd2 yd3)]
 exact lC (Bv yd4)
theorem Yh:kW BT=eF BT:=show dB (127+1) (eF BT) 0=eF BT from lC (Bv (by decide+kernel))
theorem yv1:NQ.round=1∧(bI NQ.av 1).2=true∧(bI NQ.av 1).1.runs=false∧(bI NQ.av 2).2=true∧(bI NQ.av 2).1.runs=true∧(bI NQ.av 2).1.left=2:=by decide+kernel
theorem yv2:VP.round=3∧(bI VP.av 1).2=true∧(bI VP.av 1).1.runs=true∧(bI VP.av 2).2=false:=by decide+kernel
theorem yv3:(bI xC.av 1).1.left=4∧de (BZ 2) 2=true∧(eF BT).round=1:=by decide+kernel
end Dem
end
section
open Go Dem Go.Proofs
namespace Dem
variable {t:Th}
theorem H7 (ht:TT t):FC 25 [] [] (.ret (BL true)) []:=by
 obtain ⟨A,hA⟩:∃A,A=BZ 2:=⟨_,rfl⟩
 have fA:A.fair:=by rw [hA];exact (Nx 2).fair
 have c0:FC 66 [] [] (.ret (fm t (t _ fun _=>A))) []:=by rw [hA];exact Tu ht
 have n1:aW A 0=(2,0,true):=by rw [hA];exact yn1
 have n2:aW A 1=(0,0,false):=by rw [hA];exact yn2
 obtain ⟨T,hT⟩:∃T,T=kW A:=⟨_,rfl⟩
 have fT:T.fair:=by rw [hT];exact fA.tick
 obtain ⟨U,hU⟩:∃U,U=kW T:=⟨_,rfl⟩
 have fU:U.fair:=by rw [hU];exact fT.tick
 obtain ⟨V,hV⟩:∃V,V=kW U:=⟨_,rfl⟩
 have fV:V.fair:=by rw [hV];exact fU.tick
 obtain ⟨C,hC⟩:∃C,C=eF A:=⟨_,rfl⟩
 have fC:C.fair:=by rw [hC];exact fA.count
 obtain ⟨E,hE⟩:∃E,E=BT:=⟨_,rfl⟩
 have fE:E.fair:=by rw [hE];exact Ny.fair
 obtain ⟨F,hF⟩:∃F,F=kW E:=⟨_,rfl⟩
 have ct1:FC 27 [fm t A] [] (.ret (fm t (t _ fun _=>T))) []:=by rw [hT];exact yY ht A fA
 have ct2:FC 27 [fm t T] [] (.ret (fm t (t _ fun _=>U))) []:=by rw [hU];exact yY ht T fT
 have ct3:FC 27 [fm t U] [] (.ret (fm t (t _ fun _=>V))) []:=by rw [hV];exact yY ht U fU
 have ct4:FC 27 [fm t E] [] (.ret (fm t (t _ fun _=>F))) []:=by rw [hF];exact yY ht E fE
 have cc:FC 29 [fm t A] [] (.ret (fm t (t _ fun _=>C))) []:=by rw [hC];exact Rd ht A fA
 have cn:FC 38 [] [] (.ret (fm t (t _ fun _=>E))) []:=by rw [hE];exact Lx ht
 have v1:=yv1
 have v2:=yv2
 have v3:=yv3
 rw [←Ui,←hA,←hT] at v1
 rw [←Yg,←Yf,←Ui,←hA,←hT,←hU,←hV] at v2
 rw [show xC=eF (BZ 2) from rfl,←hA,←hC,←Yh,←hE,←hF] at v3
 obtain ⟨w1,w2,w3⟩:=v3
 obtain ⟨p1,p2,p3,p4,p5,p6⟩:=v1
 obtain ⟨q1,q2,q3,q4⟩:=v2
 clear hA hT hU hV hC hE hF
 refine bP ht (aV:=[]) Tryz.func25 rfl rfl (N:=135) rfl rfl (n:=0) rfl rfl ?_
 cbv
 (refine aK trv c0 (by simp [ht]) rfl rfl rfl (fun r1 cP=>?_);simp only [ht] at cP;subst r1)
 cbv
 ((refine aK trv (EP ht A fA 0 (by decide) (bb:=0) rfl) (by simp [ht]) rfl rfl rfl (fun r1 cP=>?_);simp only [ht] at cP;rw [n1] at cP;subst r1))
 cbv
 ((refine aK trv (EP ht A fA 1 (by decide) (bb:=1) rfl) (by simp [ht]) rfl rfl rfl (fun r1 cP=>?_);simp only [ht] at cP;rw [n2] at cP;subst r1))
 cbv
 ((refine aK trv ct1 (by simp [ht]) rfl rfl rfl (fun r1 cP=>?_);simp only [ht] at cP;subst r1))
 cbv
 ((refine aK trv ct2 (by simp [ht]) rfl rfl rfl (fun r1 cP=>?_);simp only [ht] at cP;subst r1))
 cbv
 ((refine aK trv ct3 (by simp [ht]) rfl rfl rfl (fun r1 cP=>?_);simp only [ht] at cP;subst r1))
 cbv
 ((refine aK trv (qO ht T fT 1) (by simp [ht]) rfl rfl rfl (fun o eo=>?_);simp only [ht] at eo;rw [←eo] at p2 p3))
 cbv
 ((refine aK trv (qO ht T fT 2) (by simp [ht]) rfl rfl rfl (fun o eo=>?_);simp only [ht] at eo;rw [←eo] at p4 p5 p6))
 cbv
 ((refine aK trv (qO ht V fV 1) (by simp [ht]) rfl rfl rfl (fun o eo=>?_);simp only [ht] at eo;rw [←eo] at q2 q3))
 cbv
 ((refine aK trv (qO ht V fV 2) (by simp [ht]) rfl rfl rfl (fun o eo=>?_);simp only [ht] at eo;rw [←eo] at q4))
 cbv
 (refine aK trv cc (by simp [ht]) rfl rfl rfl (fun r1 cP=>?_);simp only [ht] at cP;subst r1)
 cbv
 ((refine aK trv (qO ht C fC 1) (by simp [ht]) rfl rfl rfl (fun o eo=>?_);simp only [ht] at eo;rw [←eo] at w1))
 cbv
 iterate 2 refine gI (by simp [ht,aj]) ?_
 refine pI (by simp [ht,aj]) ?_
 refine gI (by simp [ht,aj]) ?_
 refine pI (by simp [ht,aj]) ?_
 iterate 2 refine gI (by simp [ht,aj]) ?_
 refine pI (by simp [ht,aj]) ?_
 iterate 3 refine gI (by simp [ht,aj]) ?_
 refine pI (by simp [ht,aj]) ?_
 refine gI (by simp [ht,aj]) ?_
 refine pI (by simp [ht,aj]) ?_
 iterate 3 refine gI (by simp [ht,aj]) ?_
 refine pI (by simp [ht,aj]) ?_
 refine gI (by simp [ht,aj]) ?_
 refine pI (by simp [ht,aj]) ?_
 iterate 2 refine gI (by simp [ht,aj]) ?_
 refine pI (by simp [ht,aj]) ?_
 iterate 3 refine gI (by simp [ht,aj]) ?_
 refine pI (by simp [ht,aj]) ?_
 iterate 3 refine gI (by simp [ht,aj]) ?_
 refine pI (by simp [ht,aj]) ?_
 refine gI (by simp [ht,aj]) ?_
 refine pI (by simp [ht,aj]) ?_
 iterate 2 refine gI (by simp [ht,aj]) ?_
 refine pI (by simp [ht,aj]) ?_
 iterate 2 refine gI (by simp [ht,aj]) ?_
 refine pI (by simp [ht,aj]) ?_
 iterate 3 refine gI (by simp [ht,aj]) ?_
 refine pI (by simp [ht,aj]) ?_
 refine gI (by simp [ht,aj]) ?_
 (refine eT (fun g9=>⟨(by trivial),by simp [ht],Re ht A fA 2⟩) rfl rfl (fun q9 eq9=>?_);simp only [ht] at eq9;rw [w2] at eq9;subst eq9)
 cbv
 refine pI (by simp [ht,aj]) ?_
 (refine gX (fun g9=>⟨(by trivial),(by trivial),cn⟩) rfl rfl rfl (fun r1 cP=>?_);simp only [ht] at cP;subst r1)
 cbv
 ((refine gX (fun g9=>⟨(by trivial),(by trivial),ct4⟩) rfl rfl rfl (fun r1 cP=>?_);simp only [ht] at cP;subst r1))
 cbv
 iterate 2 refine gI (by simp [ht,aj]) ?_
 refine pI (by simp [ht,aj]) ?_
 refine aA trv trv rfl rfl rfl ?_
 (simp only [ht,ah,fm,Ts,dn,MS,Yw];grind)
end Dem
end
