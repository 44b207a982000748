/- Parts of a proof, joined. -/
import Derived.Test.YtihohjnkkalgiaaGreatDoorS26
set_option linter.all false
set_option maxRecDepth 100000
set_option maxHeartbeats 4000000
section
open Go
namespace Dem
theorem BC:∀(n:Nat) {s:aT} (a:Nat),s.ok→(cw n s a).ok
 |0,_,_,h=>h
 |n+1,s,a,h=>by
  unfold cw
  split
  ·exact BC n _ (mK h a)
  exact mK h a
theorem Rl {s:aT} (h:s.ok):(gv s).ok:=BC 128 0 (kT h).1
def vP (s:aT) (q:cu):Nat:=((s.ap.map iL).filter fun x=>bA q x).length
theorem Ih {s:aT} (h:s.ok) {a:Nat} (e:(bC s a).2.2=true):
 ∃(i:Nat) (j:Jb),s.ap[i]?=some j∧a≤(bC s a).2.1∧s.queue[(bC s a).2.1]?=some (iL j)∧(bC s a).1.ok∧
  (bC s a).1.ap=(s.ap.map (cg (aB s (aM s a).1).1)).set i j.begun∧
  (bC s a).1.queue.filter (fun x=>bA x (iL j))=s.queue.filter (fun x=>bA x (iL j)):=by
 obtain ⟨c1,c2,c3,hok,rf,hkeep,i,j,hi,hid,hr,iU⟩:=kB h e
 obtain ⟨n1,q,n2,n3,_,_⟩:=(iK s a).1 c1
 have hj:=List.mem_of_getElem? hi
 have hq:q=⟨j.id,j.x.prio⟩:=by
  obtain ⟨o,ho,_,rfl⟩:=(h.gm q).1 (List.mem_of_getElem? n2)
  have:=bN h.ids ho hj (by rw [hid];exact n3)
  rw [this]
 have Ci:∀x∈(aB s (aM s a).1).1,∃y∈s.ap,y.id=x∧y.x.prio<j.x.prio:=by
  intro x hx
  have h1:=((iS h (.inl ⟨j,hj,hid,hr⟩)).2 c2).2.1 x hx
  have h2:=(dg h.ids hi).2.2
  rw [hid] at h2
  obtain ⟨k,hk⟩:=List.getElem?_of_mem h1
  obtain ⟨o,g1,g2,_,_,g5⟩:=(kS h h2).2.1 k x hk
  exact ⟨o,g1,g2,g5⟩
 have hmem:∀p,bA p q=true→(p∈(bC s a).1.queue↔p∈s.queue):=by
  intro p hp
  rw [hok.gm,h.gm,iU]
  constructor
  ·rintro ⟨o,ho,mN,rfl⟩
   obtain ⟨k,hk⟩:=List.getElem?_of_mem ho
   rw [List.getElem?_set] at hk
   split at hk
   ·split at hk
    ·cases hk;cases mN
    cases hk
   rw [List.getElem?_map] at hk
   cases hy:s.ap[k]? with
   |none=>rw [hy] at hk;cases hk
   |some y=>
    rw [hy] at hk
    simp only [Option.map_some,osI] at hk
    subst hk
    cases vO:y.runs with
    |false=>
     have:cg (aB s (aM s a).1).1 y=y:=by unfold cg;rw [if_neg (by simp [vO])]
     exact ⟨y,List.mem_of_getElem? hy,vO,by rw [this]⟩
    |true=>
     have hv:y.id∈(aB s (aM s a).1).1:=by
      by_cases c:y.id∈(aB s (aM s a).1).1
      ·exact c
      have:=(dL (aB s (aM s a).1).1 y).2 ⟨vO,c⟩
      rw [mN] at this;cases this
     obtain ⟨z,hz,hz1,Ox⟩:=Ci _ hv
     have:=bN h.ids hz (List.mem_of_getElem? hy) hz1
     subst this
     rw [hq,dF,(bO _ z).2] at hp
     simp only at hp
     omega
  rintro ⟨y,hy,vO,rfl⟩
  refine ⟨y,?_,vO,rfl⟩
  obtain ⟨k,hk⟩:=List.getElem?_of_mem hy
  have hne:i≠k:=by
   intro c
   subst c
   rw [hi] at hk;cases hk
   rw [hq] at hp
   exact gV hp hp
  refine List.mem_of_getElem? (i:=k) ?_
  rw [List.getElem?_set,if_neg hne,List.getElem?_map,hk]
  simp [cg,vO]
 have hF:(bC s a).1.queue.filter (fun x=>bA x q)=s.queue.filter (fun x=>bA x q):=by
  refine ym (hok.iw.filter _) (h.iw.filter _) fun p=>?_
  rw [List.mem_filter,List.mem_filter]
  exact ⟨fun ⟨g1,g2⟩=>⟨(hmem p g2).1 g1,g2⟩,fun ⟨g1,g2⟩=>⟨(hmem p g2).2 g1,g2⟩⟩
 refine ⟨i,j,hi,by rw [c3];exact n1,by rw [c3,n2,hq];rfl,hok,iU,?_⟩
 rw [hq] at hF
 exact hF
theorem filter_lt {p r:cu→Bool} (h:∀x,p x=true→r x=true):∀{l:List cu} {y:cu},y∈l→r y=true→p y=false→(l.filter p).length<(l.filter r).length
 |x::l,y,hy,hr,hp=>by
  have hle:∀l:List cu,(l.filter p).length≤(l.filter r).length:=by
   intro l
   induction l with
   |nil=>exact Nat.le_refl _
   |cons z l ih=>
    rw [List.filter_cons,List.filter_cons]
    cases c:p z
    ·cases d:r z<;>simp<;>omega
    rw [h z c];simp;omega
  rw [List.filter_cons,List.filter_cons]
  rcases List.mem_cons.1 hy with rfl|hy
  ·rw [hr,hp];have:=hle l;simp;omega
  have ih:=filter_lt h hy hr hp
  cases c:p x
  ·cases d:r x<;>simp<;>omega
  rw [h x c];simp;omega
theorem E6 {s:aT} (h:s.ok) {a:Nat} {q:cu} (hb:∀k,a≤k→∀p,s.queue[k]?=some p→bA q p=true) (e:(bC s a).2.2=true):
 ∃q',(∀k,(bC s a).2.1≤k→∀p,(bC s a).1.queue[k]?=some p→bA q' p=true)∧vP (bC s a).1 q'<vP s q:=by
 obtain ⟨i,j,hi,hle,hqj,hok,iU,hF⟩:=Ih h e
 refine ⟨iL j,?_,?_⟩
 ·intro k hk p hp
  have hsF:(s.queue.filter fun x=>bA x (iL j)).length≤(bC s a).2.1:=by
   have h1:s.queue.filter (fun x=>bA x (iL j))=(s.queue.take (bC s a).2.1).filter (fun x=>bA x (iL j)):=by
    conv=>lhs;rw [←List.take_append_drop (bC s a).2.1 s.queue]
    rw [List.filter_append]
    have:(s.queue.drop (bC s a).2.1).filter (fun x=>bA x (iL j))=[]:=by
     refine List.filter_eq_nil_iff.2 fun x hx=>?_
     obtain ⟨m,hm⟩:=List.getElem?_of_mem hx
     rw [List.getElem?_drop] at hm
     obtain ⟨b1,b2⟩:=List.getElem?_eq_some_iff.1 hqj
     obtain ⟨d1,d2⟩:=List.getElem?_eq_some_iff.1 hm
     intro c
     by_cases c2:m=0
     ·subst c2
      simp only [Nat.add_zero] at d2
      rw [b2] at d2;subst d2
      exact gV c c
     have:=List.pairwise_iff_getElem.1 h.iw (bC s a).2.1 _ b1 d1 (by omega)
     rw [b2,d2] at this
     exact gV c this
    rw [this,List.append_nil]
   rw [h1]
   have:=List.length_filter_le (fun x=>bA x (iL j)) (s.queue.take (bC s a).2.1)
   rw [List.length_take] at this
   omega
  have hna:bA p (iL j)=false:=by
   rw [KO (iL j) hok.iw,List.getElem?_append_right (by rw [hF];omega)] at hp
   simpa using (List.mem_filter.1 (List.mem_of_getElem? hp)).2
  have hne:p.id≠(iL j).id:=by
   obtain ⟨o,ho,mN,rfl⟩:=(hok.gm p).1 (List.mem_of_getElem? hp)
   intro c
   have hlt:=(List.getElem?_eq_some_iff.1 hi).1
   have hm:j.begun∈(bC s a).1.ap:=by
    rw [iU];refine List.mem_of_getElem? (i:=i) ?_
    rw [List.getElem?_set,if_pos rfl,if_pos (by rw [lgM];exact hlt)]
   have:=bN hok.ids ho hm c
   rw [this] at mN;cases mN
  exact AO hne (by simp [hna])
 have hr:(bC s a).1.ap.map iL=s.ap.map iL:=by
  rw [iU]
  refine List.ext_getElem? fun k=>?_
  rw [List.getElem?_map,List.getElem?_map,List.getElem?_set,lgM]
  by_cases c:i=k
  ·subst c
   rw [if_pos rfl,if_pos (List.getElem?_eq_some_iff.1 hi).1,hi];rfl
  rw [if_neg c,List.getElem?_map]
  cases hy:s.ap[k]? with
  |none=>rfl
  |some y=>simp only [Option.map_some,iL];rw [(bO _ y).1,(bO _ y).2]
 unfold vP
 rw [hr]
 have hqq:=hb _ hle _ hqj
 refine filter_lt (fun x hx=>oV hqq hx) (y:=iL j) (List.mem_map_of_mem (List.mem_of_getElem? hi)) hqq ?_
 cases c:bA (iL j) (iL j) with
 |false=>rfl
 |true=>exact (gV c c).elim
theorem sO:∀(n:Nat) {s:aT} {a:Nat} {q:cu},s.ok→gU s a→(∀k,a≤k→∀p,s.queue[k]?=some p→bA q p=true)→vP s q<n→
 (aM (cw n s a) 0).2.2=true→(aB (cw n s a) (aM (cw n s a) 0).1).2.2=false
 |0,_,_,_,_,_,_,hn=>by omega
 |n+1,s,a,q,h,ha,hb,hn=>by
  unfold cw
  cases e:(bC s a).2.2 with
  |true=>
   rw [if_pos rfl]
   obtain ⟨q',g1,g2⟩:=E6 h hb e
   exact sO n (mK h a) (iT h ha e) g1 (by omega)
  |false=>
   rw [if_neg (by decide)]
   obtain ⟨e1,e2⟩:=ri h e
   rw [e1]
   intro c
   obtain ⟨_,q0,m1,m2,m3,m4⟩:=(iK s 0).1 c
   have hk:a≤(aM s 0).2.1:=by
    rcases Nat.lt_or_ge (aM s 0).2.1 a with d|d
    ·have:=ha _ d q0 m1
     rw [m2,m3] at this;cases this
    exact d
   cases f:(aM s a).2.2 with
   |false=>
    have:=(iK s a).2 f _ hk q0 m1
    rw [m2,m3] at this;cases this
   |true=>
    obtain ⟨n1,q1,n2,n3,n4,n5⟩:=(iK s a).1 f
    have heq:(aM s 0).2.1=(aM s a).2.1:=by
     rcases Nat.lt_trichotomy (aM s 0).2.1 (aM s a).2.1 with d|d|d
     ·have:=n5 _ hk d q0 m1
      rw [m2,m3] at this;cases this
     ·exact d
     have:=m4 _ (Nat.zero_le _) d q1 n2
     rw [n3,n4] at this;cases this
    have hid:(aM s 0).1=(aM s a).1:=by
     rw [heq,n2] at m1
     cases m1
     rw [←m2,n3]
    rw [hid]
    exact e2 f
theorem Ii {s:aT} (h:s.ok):(aM (gv s) 0).2.2=true→(aB (gv s) (aM (gv s) 0).1).2.2=false:=by
 have h1:=(kT h).1
 refine sO 128 (q:=⟨0,100⟩) h1 (fun k hk=>by omega) (fun k _ p hp=>?_) ?_
 ·obtain ⟨o,ho,_,rfl⟩:=(h1.gm p).1 (List.mem_of_getElem? hp)
  have:=(c7.1 (h1.py o ho).1).2.2.1
  rw [dF];simp only;omega
 have:=h1.most
 have h2:=List.length_filter_le (fun x=>bA ⟨0,100⟩ x) ((cA s).ap.map iL)
 rw [lgM] at h2
 unfold vP;omega
theorem Yields.stays {c T:aT} (h:T.ok) (g:Yields c T) {a:Nat} (hn:gU T a) (e:(bC T a).2.2=true) {b:Jb} (hb:Rq c T b):Rq c (bC T a).1 b:=by
 obtain ⟨c1,c2,c3,hok,rf,hkeep,i,j,hi,hid,hr,iU⟩:=kB h e
 obtain ⟨j0,hj0,e1,_,e3,e4,e5⟩:=kU h c1
 have hj:=List.mem_of_getElem? hi
 have:j0=j:=bN h.ids hj0 hj (e1.trans hid.symm)
 subst this
 have hb':=hb
 obtain ⟨pX,NF,WE⟩:=hb
 have hv:b.id ∉ (aB T (aM T a).1).1:=fun hv=>by
  have h1:=((iS h (.inl ⟨j0,hj,hid,hr⟩)).2 c2).2.1 _ hv
  have h2:=(dg h.ids hi).2.2
  rw [hid] at h2
  obtain ⟨k,hk⟩:=List.getElem?_of_mem h1
  obtain ⟨o,g1,g2,_,_,g5⟩:=(kS h h2).2.1 k _ hk
  rw [bN h.ids g1 pX g2] at g5
  have h3:=g.first b hb' j0 hj0 hr e3
  rw [dF] at h3
  simp only [iL] at h3;omega
 have hne:b.id≠j0.id:=fun hb0=>by
  have:=bN h.ids pX hj0 hb0
  rw [this,hr] at NF;cases NF
 obtain ⟨k,hk⟩:=List.getElem?_of_mem pX
 have hki:i≠k:=fun e=>by subst e;rw [hi] at hk;cases hk;exact hne rfl
 refine ⟨?_,NF,WE⟩
 rw [iU]
 exact List.mem_of_getElem? (i:=k) (by rw [List.getElem?_set_ne hki,List.getElem?_map,hk];exact congrArg some (xe hv))
theorem KU {s:aT} (h:s.ok) {w:Jb} (hw:w∈s.ap) (hr:w.runs=false) (hc:cL s w.id=true) (hl:∀o∈s.ap,o.runs=true→o.x.prio<w.x.prio):(aB s w.id).2.2=true:=by
 obtain ⟨i,hi⟩:=List.getElem?_of_mem hw
 have hf:=(dg h.ids hi).2.2
 have g:=de h (bZ s w.id)
 have hin:∀o∈s.ap,o.runs=true→o.id∈bZ s w.id:=fun o ho mN=>by
  rw [DE hf]
  exact List.mem_map_of_mem (tW.2 ⟨ho,mN,hl o ho mN⟩)
 have h1:=(DD h g hin hi hr).1 hc
 have h2:=(g.fits hi hr).2 h1
 rw [(Bx h (id:=w.id) (.inl ⟨w,hw,rfl,hr⟩)).1]
 unfold fQ
 rw [h2];rfl
theorem BH {s t:aT}:∀(l:List cu) (k:Nat),(∀q∈l,cL t q.id=cL s q.id)→j8 t l k=j8 s l k
 |[],_,_=>rfl
 |q::r,k,h=>by
  unfold j8
  rw [h q (by simp),BH r (k+1) fun p hp=>h p (by simp [hp])]
theorem KV {s:aT} (h:s.ok):aM (cA s) 0=aM s 0:=by
 obtain ⟨k1,k2⟩:=yD h
 obtain ⟨c1,c2,_,c4⟩:=kT h
 unfold aM
 rw [c2]
 refine BH _ _ fun q hq=>?_
 obtain ⟨o,ho,mN,rfl⟩:=(h.gm q).1 (List.mem_of_mem_drop hq)
 have hm:o∈(cA s).ap:=by
  rw [c4]
  exact List.mem_filterMap.2 ⟨o,ho,by unfold Ie;rw [if_neg (by simp [mN])]⟩
 exact mL h c1 k2.nodes k1 ho mN hm mN rfl rfl
structure yG (s:aT) (W:Jb):Prop where
 mem:W∈s.ap
 runs:W.runs=false
 next:(aM s 0).2.2=true∧(aM s 0).1=W.id
 no:(aB s W.id).2.2=false
def uc (s:aT) (W:Jb) (n:Int):Prop:=∀o∈s.ap,o.runs=true→W.x.prio≤o.x.prio→o.left≤n
theorem yG.aaO {s:aT} {W:Jb} (h:s.ok) (g:yG s W):¬uc s W 0:=fun ha=>by
 obtain ⟨j,hj,e1,hr,hc,_⟩:=kU h g.next.1
 rw [g.next.2] at e1
 have:j=W:=bN h.ids hj g.mem e1
 subst this
 have:=KU h hj hr hc fun o ho mN=>by
  rcases Int.lt_or_le o.x.prio j.x.prio with d|d
  ·exact d
  have h1:=ha o ho mN d
  have h2:=((h.left o ho).1 mN).1
  omega
 rw [g.no] at this;cases this
theorem yG.tick {s:aT} {W:Jb} (h:s.ok) (g:yG s W) {n:Int} (ha:uc s W n):
 (∃j,bB (gv s).ap W.id=(j,true)∧j.runs=true)∨(bB (gv s).ap W.id=(W,true)∧yG (gv s) W∧uc (gv s) W (n-1)):=by
 obtain ⟨c1,c2,_,c4⟩:=kT h
 have hW:W∈(cA s).ap:=by
  rw [c4]
  exact List.mem_filterMap.2 ⟨W,g.mem,by unfold Ie;rw [if_neg (by simp [g.runs])]⟩
 have hn:=KV h
 have hat:uc (cA s) W (n-1):=by
  intro o ho mN hp
  rw [c4] at ho
  obtain ⟨y,hy,e⟩:=List.mem_filterMap.1 ho
  obtain ⟨_,e2,e3,e4,_⟩:=E7 e
  have vO:y.runs=true:=by rw [←e3];exact mN
  have:=ha y hy vO (by rw [←e2];exact hp)
  rw [e4 vO];omega
 have hnext:(aM (cA s) 0).2.2=true∧(aM (cA s) 0).1=W.id:=by rw [hn];exact g.next
 have hst:gv s=cw (127+1) (cA s) 0:=rfl
 cases e:(bC (cA s) 0).2.2 with
 |false=>
  have e1:=ri c1 e
  have es:gv s=cA s:=by rw [hst,cw,if_neg (by rw [e];decide),e1.1]
  right
  rw [es]
  obtain ⟨i,hi⟩:=List.getElem?_of_mem hW
  refine ⟨(dg c1.ids hi).2.2,⟨hW,g.runs,hnext,?_⟩,hat⟩
  have:=e1.2 hnext.1
  rw [hnext.2] at this;exact this
 |true=>
  left
  have es:gv s=cw 127 (bC (cA s) 0).1 (bC (cA s) 0).2.1:=by rw [hst,cw,if_pos e]
  have hn0:gU (cA s) 0:=fun k hk=>by omega
  have Y1:=(Yields.refl c1).step c1 c1 hn0 e
  have N6:=mK c1 0
  obtain ⟨_,_,_,_,_,_,i,j,hi,hid,hr,iU⟩:=kB c1 e
  have hj:=List.mem_of_getElem? hi
  have:j=W:=bN c1.ids hj hW (hid.trans hnext.2)
  subst this
  have TP:j.begun∈(bC (cA s) 0).1.ap:=by
   rw [iU]
   exact List.mem_of_getElem? (i:=i) (by rw [List.getElem?_set_self (by simpa using (List.getElem?_eq_some_iff.1 hi).1)])
  have key:∀(n:Nat) {T:aT} {a:Nat},T.ok→gU T a→Yields (cA s) T→Rq (cA s) T j.begun→Rq (cA s) (cw n T a) j.begun:=by
   intro n
   induction n with
   |zero=>intro T a _ _ _ hb;exact hb
   |succ n ih=>
    intro T a hT hna hY hb
    unfold cw
    cases e:(bC T a).2.2 with
    |true=>rw [if_pos rfl];exact ih (mK hT a) (iT hT hna e) (hY.step c1 hT hna e) (hY.stays hT hna e hb)
    |false=>rw [if_neg (by decide),(ri hT e).1];exact hb
  have:=key 127 N6 (iT c1 hn0 e) Y1 ⟨TP,rfl,j,hj,rfl,hr⟩
  rw [←es] at this
  obtain ⟨k,hk⟩:=List.getElem?_of_mem this.1
  exact ⟨j.begun,(dg (Rl h).ids hk).2.2,rfl⟩
end Dem
end
section
open Go Dem Go.Proofs
namespace Dem
variable {t:Th}
def RB (A:aT) (W:Jb) (k:Nat) (n:Int):Prop:=0≤n∧n<1000∧∀(q:Nat) (y:Jb),q<k→A.ap[q]?=some y→y.runs=true→W.x.prio≤y.x.prio→y.left≤n
theorem RB.up {A:aT} (h:A.ok) {W:Jb} {k:Nat} {n:Int} {x:Jb} (g:RB A W k n) (hx:A.ap[k]?=some x):RB A W (k+1) (max n x.left):=by
 have hm:=List.mem_of_getElem? hx
 have h1:=h.left x hm
 have h2:=(c7.1 (h.py x hm).1)
 have h3:0≤x.left∧x.left<1000:=by
  rcases Bool.eq_false_or_eq_true x.runs with r|r
  ·have:=h1.1 r;omega
  have:=h1.2 r;omega
 obtain ⟨a,b,c⟩:=g
 refine ⟨by omega,by omega,fun q y hq hy hr hp=>?_⟩
 rcases Nat.lt_or_ge q k with d|d
 ·have:=c q y d hy hr hp;omega
 have e:q=k:=by omega
 subst e
 rw [hx] at hy
 have e2:=Option.some.inj hy
 subst e2
 omega
theorem RB.stay {A:aT} {W:Jb} {k:Nat} {n:Int} {x:Jb} (g:RB A W k n) (hx:A.ap[k]?=some x) (hn:¬(x.runs=true∧W.x.prio≤x.x.prio)):RB A W (k+1) n:=by
 obtain ⟨a,b,c⟩:=g
 refine ⟨a,b,fun q y hq hy hr hp=>?_⟩
 rcases Nat.lt_or_ge q k with d|d
 ·exact c q y d hy hr hp
 have e:q=k:=by omega
 subst e
 rw [hx] at hy
 have e2:=Option.some.inj hy
 subst e2
 exact absurd ⟨hr,hp⟩ hn
theorem RB.all {A:aT} {W:Jb} {k:Nat} {n:Int} (g:RB A W k n) (hk:A.ap.length≤k):uc A W n:=fun o ho hr hp=>by
 obtain ⟨q,hq⟩:=List.getElem?_of_mem ho
 have:=(List.getElem?_eq_some_iff.1 hq).1
 exact g.2.2 q o (by omega) hq hr hp
theorem Rt {S:aT} (fS:S.fair):∃A,A=gv S∧A.fair∧∃w,w=aM A 0∧∃f,f=bB A.ap w.1∧(w.2.2=true→f.1.id=w.1∧yG A f.1):=by
 obtain ⟨A,hA⟩:∃A,A=gv S:=⟨_,rfl⟩
 have fA:A.fair:=by rw [hA];exact fS.tick
 refine ⟨A,hA,fA,_,rfl,_,rfl,fun hw=>?_⟩
 obtain ⟨j,hj,e1,hr,hc,_⟩:=kU fA.ok hw
 obtain ⟨i,hi⟩:=List.getElem?_of_mem hj
 have h2:=(dg fA.ok.ids hi).2.2
 rw [e1] at h2
 rw [h2]
 have h3:=Ii fS.ok
 rw [←hA] at h3
 exact ⟨e1,⟨hj,hr,⟨hw,e1.symm⟩,by rw [e1];exact h3 hw⟩⟩
theorem Ip (ht:TT t) (hx0:FC 25 [] [] (.ret (BL true)) []) (N:Nat) (hN:N<256) {a:Int} (ea:a=N) {l:List iX} {dl:List (List D)} (Ru:dl=l.map iX.cells) (Yr:∀x∈l,x.u) (Y8:l.length<9223372036854775808):
 FC 9 [U8 a,SL dl] [] (.ret (BL true)) []:=by
 obtain ⟨S,hS⟩:∃S,S=gS N l (min l.length 40):=⟨_,rfl⟩
 have fS:S.fair:=by rw [hS];exact (qQ _ _ _).fair
 have hL:FC 26 [U8 a,SL dl] [] (.ret (dM t (t _ fun _=>S))) []:=by rw [hS];exact Dy ht N hN ea Ru Yr Y8
 obtain ⟨A,hA,fA,w,hw,f,hf,hz⟩:=Rt fS
 have ca:FC 27 [dM t S] [] (.ret (dM t (t _ fun _=>A))) []:=by rw [hA];exact vQ ht S fS
 have cn:FC 28 [dM t A,bG 0] [] (.ret (Cj t (t _ fun _=>w))) []:=by rw [hw];exact zn ht A fA 0 (by decide) rfl
 have cf:FC 17 [dM t A,aC w.1] [] (.ret (Ce t (t _ fun _=>f))) []:=by rw [hf];exact eV ht A fA w.1
 have sm:=fA.sm.ap.1
 clear hS hA hw hf
 refine bP ht (aQ:=[]) Tryz.func9 rfl rfl (N:=90) rfl rfl (n:=0) rfl rfl ?_
 cbv
 have dy:dl.length=l.length:=by rw [Ru,lgM]
 (refine gB trv hx0 trv rfl rfl ?_)
 cbv
 refine av (fun h0=>?_) (fun h0=>?_)
 ·simp [ht,ah,dy] at h0
 simp [ht,ah,dy] at h0
 cbv
 (refine aF trv hL (by simp [ht]) rfl rfl rfl (fun r1 cF=>?_);simp only [ht] at cF;subst r1)
 cbv
 (first|(refine aF trv ca (by simp [ht]) rfl rfl rfl (fun r1 cF=>?_);simp only [ht] at cF;subst r1)|(refine aF trv (Fa ht _ _ _ _ (nl:=T.aX.nodes) (pl:=T.aX.places) (tl:=T.tree) (jl:=T.ap) (ql:=T.queue) (el:=T.ev.l) (al:=T.au.l) (by simp only [ht];exact jT.n) (by simp only [ht];exact jT.p) (by simp only [ht];exact jT.t) (by simp only [ht];exact jT.j) (by simp only [ht];exact jT.q) (by simp only [ht];exact jT.e) (by simp only [ht];exact jT.a) (by simp only [ht];rw [jT.eq];exact fT)) (by simp [ht]) rfl rfl rfl (fun u eu=>?_);simp only [ht] at eu;rw [jT.eq] at eu;have fu:u.fair:=(by rw [eu];exact fT.tick);have sP:=jW.tick fT.ok jA;rw [←eu] at sP))
 cbv
 (refine aF trv cn (by simp [ht]) rfl rfl rfl (fun r1 cF=>?_);simp only [ht] at cF;subst r1)
 cbv
 refine av (fun h1=>?_) (fun h1=>?_)
 ·simp [ht,ah,dy] at h1
  cbv
  refine az trv trv rfl rfl rfl ?_
  rfl
 simp [ht,ah,dy] at h1
 cbv
 (first|(refine aF trv cf (by simp [ht]) rfl rfl rfl (fun r1 cF=>?_);simp only [ht] at cF;subst r1;obtain ⟨hid,hW⟩:=hz ‹_›)|(refine aF trv (eV ht u fu w.1) (by simp [ht]) rfl rfl rfl (fun o eo=>?_);simp only [ht] at eo;rw [hid,←eo] at sP;rcases sP with ⟨j,ho,hjr⟩|⟨ho,hw1,OK⟩<;>clear eo<;>subst ho))
 cbv
 obtain ⟨J2,ue⟩:∃J2:Nat→Int×Int→Prop,∀n mb i,J2 n (mb,i)↔(∃k:Nat,i=k∧k+n=A.ap.length∧RB A f.1 k mb):=⟨fun n v=>match v with|(mb,i)=>(∃k:Nat,i=k∧k+n=A.ap.length∧RB A f.1 k mb),fun _ _ _=>Iff.rfl⟩
 refine bH ⟨[5,6,7,10,12,13],[],[]⟩ (σ:=Int×Int) (fun v=>[(12,.d (.int .i64 (t _ fun _=>v.1))),(13,.d (.int .i64 (t _ fun _=>v.2)))]) (fun v=>[]) J2 ?_
 cbv
 refine aH ⟨A.ap.length,(_,_),(ue _ _ _).2 ?_,by simp only [ht];rfl,?_⟩
 ·exact ⟨0,rfl,by simp,by decide,by decide,fun q y hq=>by omega⟩
 rintro n ⟨mb,i⟩ hj
 replace hj:=(ue _ _ _).1 hj
 obtain ⟨k,rfl,j1,j4⟩:=hj
 cbv
 refine av (fun h3=>?_) (fun h3=>?_)
 ·simp [ht,ah,dy] at h3
  cbv
  (refine kp ht (l:=A.ap) (cells:=Jb.cells) (cT:=Jb.aZ t) (by simp only [ht]) (by simp only [ht,ah];((try simp only [ah] at*);omega)) (by simp only [ht,ah];((try simp only [ah] at*);omega)) (fun _=>rfl) (fun _=>by simp only [Jb.cells,Jb.aZ,ht]) (fun x mx=>?_);simp [ht,ah] at mx)
  cbv
  iterate 7 refine gI (by simp [ht,aj]) ?_
  refine pI (by simp [ht,aj]) ?_
  refine av (fun h4=>?_) (fun h4=>?_)
  ·simp [ht,ah,dy] at h4
   cbv
   refine cz (_,_) (by simp only [ht];rfl) (n-1) ?_ ((ue _ _ _).2 ?_)
   ·omega
   simp only [ht,ah]
   first|exact ⟨k+1,aG (by ((try simp only [ah] at*);omega)),by ((try simp only [ah] at*);omega),j4.up fA.ok mx⟩|exact ⟨k+1,aG (by ((try simp only [ah] at*);omega)),by ((try simp only [ah] at*);omega),j4.stay mx (by simp_all)⟩
  simp [ht,ah,dy] at h4
  cbv
  refine cz (_,_) (by simp only [ht];rfl) (n-1) ?_ ((ue _ _ _).2 ?_)
  ·omega
  simp only [ht,ah]
  first|exact ⟨k+1,aG (by ((try simp only [ah] at*);omega)),by ((try simp only [ah] at*);omega),j4.up fA.ok mx⟩|exact ⟨k+1,aG (by ((try simp only [ah] at*);omega)),by ((try simp only [ah] at*);omega),j4.stay mx (by simp_all)⟩
 simp [ht,ah,dy] at h3
 cbv
 obtain ⟨J5,Za⟩:∃J5:Nat→Int×Int×Int×List (List D)×List (List D)×List (List D)×List (List D)×List (List D)×Int×List (List D)×Int×List (List D)→Prop,∀n i rd nx ns ps ts js qs ef es af bW,J5 n (i,rd,nx,ns,ps,ts,js,qs,ef,es,af,bW)↔(∃(k:Nat) (T:aT),i=k∧(k:Int)+n=mb∧T.fair∧Told T rd nx ns ps ts js qs ef es af bW∧yG T f.1∧uc T f.1 (mb-k)):=⟨fun n v=>match v with|(i,rd,nx,ns,ps,ts,js,qs,ef,es,af,bW)=>(∃(k:Nat) (T:aT),i=k∧(k:Int)+n=mb∧T.fair∧Told T rd nx ns ps ts js qs ef es af bW∧yG T f.1∧uc T f.1 (mb-k)),fun _ _ _ _ _ _ _ _ _ _ _ _ _=>Iff.rfl⟩
 refine bH ⟨[5,6,7,12,15],[],[]⟩ (σ:=Int×Int×Int×List (List D)×List (List D)×List (List D)×List (List D)×List (List D)×Int×List (List D)×Int×List (List D)) (fun v=>[(15,.d (.int .i64 (t _ fun _=>v.1)))]) (fun v=>[(0,.var [.d (.int .u64 (t _ fun _=>v.2.1)),.d (.int .u64 (t _ fun _=>v.2.2.1)),.d (.sl (t _ fun _=>v.2.2.2.1)),.d (.sl (t _ fun _=>v.2.2.2.2.1)),.d (.sl (t _ fun _=>v.2.2.2.2.2.1)),.d (.sl (t _ fun _=>v.2.2.2.2.2.2.1)),.d (.sl (t _ fun _=>v.2.2.2.2.2.2.2.1)),.d (.int .u64 (t _ fun _=>v.2.2.2.2.2.2.2.2.1)),.d (.sl (t _ fun _=>v.2.2.2.2.2.2.2.2.2.1)),.d (.int .u64 (t _ fun _=>v.2.2.2.2.2.2.2.2.2.2.1)),.d (.sl (t _ fun _=>v.2.2.2.2.2.2.2.2.2.2.2))])]) J5 ?_
 cbv
 refine aH ⟨mb.toNat,(_,_,_,_,_,_,_,_,_,_,_,_),(Za _ _ _ _ _ _ _ _ _ _ _ _ _).2 ?_,by simp only [ht];rfl,?_⟩
 ·(have j5:=j4.1;exact ⟨0,A,rfl,by ((try simp only [ah] at*);omega),fA,Told.self A,hW,by have:=j4.all (by ((try simp only [ah] at*);omega));simpa using this⟩)
 rintro n ⟨i,rd,nx,ns,ps,ts,js,qs,ef,es,af,bW⟩ hj
 replace hj:=(Za _ _ _ _ _ _ _ _ _ _ _ _ _).1 hj
 obtain ⟨k,T,rfl,i1,fT,jT,jW,jA⟩:=hj
 cbv
 refine av (fun h6=>?_) (fun h6=>?_)
 ·simp [ht,ah,dy] at h6
  cbv
  (first|(refine aF trv ca (by simp [ht]) rfl rfl rfl (fun r1 cF=>?_);simp only [ht] at cF;subst r1)|(refine aF trv (Fa ht _ _ _ _ (nl:=T.aX.nodes) (pl:=T.aX.places) (tl:=T.tree) (jl:=T.ap) (ql:=T.queue) (el:=T.ev.l) (al:=T.au.l) (by simp only [ht];exact jT.n) (by simp only [ht];exact jT.p) (by simp only [ht];exact jT.t) (by simp only [ht];exact jT.j) (by simp only [ht];exact jT.q) (by simp only [ht];exact jT.e) (by simp only [ht];exact jT.a) (by simp only [ht];rw [jT.eq];exact fT)) (by simp [ht]) rfl rfl rfl (fun u eu=>?_);simp only [ht] at eu;rw [jT.eq] at eu;have fu:u.fair:=(by rw [eu];exact fT.tick);have sP:=jW.tick fT.ok jA;rw [←eu] at sP))
  cbv
  (first|(refine aF trv cf (by simp [ht]) rfl rfl rfl (fun r1 cF=>?_);simp only [ht] at cF;subst r1;obtain ⟨hid,hW⟩:=hz ‹_›)|(refine aF trv (eV ht u fu w.1) (by simp [ht]) rfl rfl rfl (fun o eo=>?_);simp only [ht] at eo;rw [hid,←eo] at sP;rcases sP with ⟨j,ho,hjr⟩|⟨ho,hw1,OK⟩<;>clear eo<;>subst ho))
  ·cbv
   iterate 2 refine gI (by simp [ht,aj]) ?_
   refine pI (by simp [ht,aj]) ?_
   refine av (fun h7=>?_) (fun h7=>?_)
   ·simp [ht,ah,dy] at h7
    cbv
    refine gI (by simp [ht,aj]) ?_
    refine pI (by simp [ht,aj]) ?_
    refine az trv trv rfl rfl rfl ?_
    (simp [ht,dM,dh,Ce,Wx,Cj];done)
   simp [ht,ah,dy] at h7
   cbv
   refine cz (_,_,_,_,_,_,_,_,_,_,_,_) (by simp only [ht];rfl) (n-1) ?_ ((Za _ _ _ _ _ _ _ _ _ _ _ _ _).2 ?_)
   ·((try simp only [ah] at*);omega)
   simp only [ht,ah]
   (simp_all [ht,dM,dh,Ce,Wx,Cj];done)
  cbv
  iterate 2 refine gI (by simp [ht,aj]) ?_
  refine pI (by simp [ht,aj]) ?_
  refine av (fun h8=>?_) (fun h8=>?_)
  ·simp [ht,ah,dy] at h8
   cbv
   refine gI (by simp [ht,aj]) ?_
   refine pI (by simp [ht,aj]) ?_
   refine az trv trv rfl rfl rfl ?_
   (simp [ht,dM,dh,Ce,Wx,Cj];done)
  simp [ht,ah,dy] at h8
  cbv
  refine cz (_,_,_,_,_,_,_,_,_,_,_,_) (by simp only [ht];rfl) (n-1) ?_ ((Za _ _ _ _ _ _ _ _ _ _ _ _ _).2 ?_)
  ·((try simp only [ah] at*);omega)
  simp only [ht,ah]
  (have j5:=j4.1;have j6:=j4.2.1;exact ⟨k+1,u,aG (by ((try simp only [ah] at*);omega)),by ((try simp only [ah] at*);omega),fu,Told.self u,hw1,by rw [show mb-((k+1:Nat):Int)=mb-k-1 by omega];exact OK⟩)
 simp [ht,ah,dy] at h6
 cbv
 refine az trv trv rfl rfl rfl ?_
 (exfalso;exact jW.aaO fT.ok (by rw [show (0:Int)=mb-k by ((try simp only [ah] at*);omega)];exact jA))
end Dem
end
