/- Parts of a proof, joined. -/
import Derived.Test.YtihohjnkkalgiaaGreatDoorS08
set_option linter.all false
set_option maxRecDepth 100000
set_option maxHeartbeats 4000000
open Go
namespace Dem
section
variable {P:Program} {T:Nat→Option TI} {G:Nat→Option (List D)} {N:Nat} {ds:List Deferred} {X:Nat→Prop}
variable {β0:Nat→Nat} {aQ:List aA} {w0:World}
theorem Mx {ops:Array Oper} (hfit:gW ops (cU ops.toList []) 0 ops.toList=true) {m:Nat→Bool} (hd:Down ops m) {i j:Nat} {o p:Oper} (ho:ops[i]?=some o) (hp:ops[j]?=some p)
 (xP:m i=false) (Wq:∀e∈o.after,Region.binds .any e=true→m e.on=true) (hj:(j<i∧m j=false)∨(i<j∧m j=true)):
 (∀d,p.dst=some d→d ∉ o.looksAt ops)∧(∀d,p.dst=some d→o.dst≠some d):=by
 rcases hj with ⟨hlt,Zr⟩|⟨hlt,Zr⟩
 ·have h:=(lF hfit i o (by simpa using ho)).2 j (by omega)
  rw [Nat.zero_add] at h
  rcases h with h|⟨p',hp',h⟩
  ·have:=closed hd i o ho Wq j h;rw [Zr] at this;cases this
  rw [hp] at hp';cases hp'
  obtain ⟨h1,h2,h3⟩:=Oper.apart_spec h
  exact ⟨h1,h2⟩
 have h:=(lF hfit j p (by simpa using hp)).2 i (by omega)
 rw [Nat.zero_add] at h
 rcases h with h|⟨o',ho',h⟩
 ·have:=closed hd j p hp (hd j p hp Zr) i h;rw [xP] at this;cases this
 rw [ho] at ho';cases ho'
 obtain ⟨h1,h2,h3⟩:=Oper.apart_spec h
 exact ⟨h3,fun d UP he=>h2 d he UP⟩
theorem Ai {m:Nat→Bool}:∀(cQ:List It) (i:Nat) (sl:List (Nat×AV)),(∀j,j<cQ.length→m (i+j)=false)→dJ m i cQ sl=sl
 |[],_,_,_=>rfl
 |it::r,i,sl,h=>by
  have h0:=h 0 (by simp)
  rw [Nat.add_zero] at h0
  simp only [dJ,h0,cond_false]
  exact Ai r (i+1) sl (fun j hj=>by have:=h (j+1) (by simpa using hj);rw [show i+1+j=i+(j+1) by omega];exact this)
theorem Aj {m:Nat→Bool}:∀(cQ:List It) (i:Nat) (bx:List aA),(∀j,j<cQ.length→m (i+j)=false)→fk m i cQ bx=bx
 |[],_,_,_=>rfl
 |it::r,i,bx,h=>by
  have h0:=h 0 (by simp)
  rw [Nat.add_zero] at h0
  simp only [fk,h0,cond_false]
  exact Aj r (i+1) bx (fun j hj=>by have:=h (j+1) (by simpa using hj);rw [show i+1+j=i+(j+1) by omega];exact this)
theorem OX (hT:kD P T) {ops:Array Oper} (hfit:gW ops (cU ops.toList []) 0 ops.toList=true) {base:Nat} {Q:Ex→St→Prop}:
 ∀(fuel:Nat) (listed:Array Bool) (p k:Nat) (cQ:List It) (s0:St) (β:Nat→Nat) (w:World) (a:Act),listed.size=ops.size→Down ops (at_ listed)→(∀x,x<p→at_ listed x=true)→(∀x,p+cQ.length≤x→at_ listed x=false)→
  listed.toList.count false=fuel→p+cQ.length≤ops.size→kN (base+k) cQ→
  (∀j it,cQ[j]?=some it→∃o,ops[p+j]?=some o∧gZ N o.dst=true∧it.dst=o.dst∧T4 (bF P G) T G ops.toList o (dJ tt p (cQ.take j) s0.sl) s0.bx it)→
  ((
   p+cQ.length=ops.size∧Q .normal ⟨dJ tt p cQ s0.sl,fk tt p cQ s0.bx⟩)∨
   (∃k' o rest,ops.toList.drop (p+cQ.length)=o::rest∧barrier (cU ops.toList []) (p+cQ.length)=true∧gZ N o.dst=true∧
    nK (bF P G) T G N ops.toList (cU ops.toList []) base s0.bx k' (p+cQ.length) (o::rest) Q ⟨dJ tt p cQ s0.sl,fk tt p cQ s0.bx⟩))→
  Ext β0 aQ w0 β (fk (at_ listed) p cQ s0.bx) w→Fr G N ds β w X ⟨dJ (at_ listed) p cQ s0.sl,fk (at_ listed) p cQ s0.bx⟩ a→
  wpAny P .any ops (gE G N ds X β0 aQ w0 Q) fuel listed a w:=by
 intro fuel
 induction fuel with
 |zero=>
  intro listed p k cQ s0 β w a hsz hdn hlo hhi UR hle xu hit hend ex hF
  have hall:∀x,x<ops.size→at_ listed x=true:=by
   intro x hx
   have:=Af listed.toList UR x (by simpa [hsz] using hx)
   unfold at_
   have h2:listed[x]?=some true:=by simpa using this
   simp [Array.getD_eq_getD_getElem?,h2]
  have hfull:p+cQ.length=ops.size:=by
   rcases Nat.lt_or_ge (p+cQ.length) ops.size with h|h
   ·have h1:=hall _ h;rw [hhi _ (Nat.le_refl _)] at h1;cases h1
   omega
  refine ⟨?_,?_⟩
  ·rw [List.eq_nil_iff_forall_not_mem]
   intro j hj
   obtain ⟨h1,o,h2,_⟩:=mem_ready.1 hj
   have hjl:j<ops.size:=(Array.getElem?_eq_some_iff.1 h2).1
   have:=hall j hjl
   unfold at_ at this
   simp only [Array.getD_eq_getD_getElem?] at this h1
   cases hq:listed[j]? with
   |none=>rw [hq] at this;simp at this
   |some v=>rw [hq] at this h1;simp at this h1;rw [this] at h1;cases h1
  rcases hend with ⟨_,hQ⟩|⟨k',o,rest,WV,_⟩
  ·have e1:=kM (m:=at_ listed) (m':=tt) cQ p s0.sl (fun j hj=>hall _ (by omega))
   have e2:=m5 (m:=at_ listed) (m':=tt) cQ p s0.bx (fun j hj=>hall _ (by omega))
   rw [e1,e2] at hF;rw [e2] at ex
   exact ⟨β,_,ex,hF,hQ⟩
  rw [List.drop_eq_nil_of_le (by simp;omega)] at WV;cases WV
 |succ fuel ih=>
  intro listed p k cQ s0 β w a hsz hdn hlo hhi UR hle xu hit hend ex hF
  refine ⟨?_,?_⟩
  ·intro hr
   exfalso
   have key:∀x,x<ops.size→at_ listed x=true:=by
    intro x
    induction x using Nat.strongRecOn with
    |_ x ihx=>
     intro hx
     cases hq:at_ listed x with
     |true=>rfl
     |false=>
      exfalso
      have ho:ops[x]?=some ops[x]:=by simp [hx]
      have hp:=(lF hfit x ops[x] (by simp [hx])).1
      have:x∈Region.ready .any ops listed:=by
       refine mem_ready.2 ⟨?_,ops[x],ho,fun e he hb=>?_⟩
       ·unfold at_ at hq
        have hx':x<listed.size:=by omega
        simp [hx'] at hq ⊢;exact hq
       have:=hp e he hb
       exact ihx e.on (by omega) (by omega)
      rw [hr] at this;cases this
   have:listed.toList.count false=0:=by
    rw [List.count_eq_zero]
    intro hm
    obtain ⟨x,hx⟩:=List.mem_iff_getElem?.1 hm
    have N5:x<listed.toList.length:=by
     rcases Nat.lt_or_ge x listed.toList.length with h|h
     ·exact h
     rw [List.getElem?_eq_none h] at hx;cases hx
    have:=key x (by simpa [hsz] using N5)
    unfold at_ at this
    have h2:listed[x]?=some false:=by simpa using hx
    simp [Array.getD_eq_getD_getElem?,h2] at this
   omega
  intro i hi
  obtain ⟨hi1,o,ho,hp⟩:=mem_ready.1 hi
  have hin:i<ops.size:=(Array.getElem?_eq_some_iff.1 ho).1
  have hil:i<listed.size:=by omega
  have xP:at_ listed i=false:=by
   unfold at_
   simp [hil] at hi1 ⊢;exact hi1
  have Wq:∀e∈o.after,Region.binds .any e=true→at_ listed e.on=true:=hp
  have hpi:p≤i:=by
   rcases Nat.lt_or_ge i p with h|h
   ·rw [hlo i h] at xP;cases xP
   exact h
  have RV:(listed.setIfInBounds i true).size=ops.size:=by simp [hsz]
  have WW:Down ops (at_ (listed.setIfInBounds i true)):=by
   intro x ox Zs hx e he hb
   rw [tn hil]
   by_cases hei:e.on=i
   ·simp [hei]
   rw [if_neg hei]
   rw [tn hil] at hx
   by_cases hxi:x=i
   ·subst hxi;rw [ho] at Zs;cases Zs;exact Wq e he hb
   rw [if_neg hxi] at hx;exact hdn x ox Zs hx e he hb
  have T6:(listed.setIfInBounds i true).toList.count false=fuel:=by
   have h2:listed.toList[i]?=some false:=by
    unfold at_ at xP
    simp [hil] at xP
    simp [hil,xP]
   have:=count_set listed.toList i h2
   rw [Array.toList_setIfInBounds]
   omega
  rcases Nat.lt_or_ge i (p+cQ.length) with hlt|hge
  ·
   obtain ⟨j,rfl⟩:∃j,i=p+j:=⟨i-p,by omega⟩
   have hj:j<cQ.length:=by omega
   have Wr:cQ[j]?=some cQ[j]:=by simp [hj]
   obtain ⟨o',ho',hd,Gc,hy⟩:=hit j _ Wr
   rw [ho] at ho';cases ho'
   have hun:∀(j:Nat) (it:It) (y:Nat) (cs:aA),cQ[j]?=some it→it.bi=some (y,cs)→s0.bx[y]?=some .bw:=by
    intro j' it' y cs hj' hb
    obtain ⟨_,_,_,_,h|h|h⟩:=hit j' it' hj'
    ·obtain ⟨x,cs',h1,h2,_⟩:=h
     rw [h1] at hb;cases hb;exact h2
    ·rw [h.1] at hb;cases hb
    rw [h.1] at hb;cases hb
   have I3:∀(j':Nat) (it':It),cQ[j']?=some it'→((j'<j∧at_ listed (p+j')=false)∨(j<j'∧at_ listed (p+j')=true))→
    (∀d,it'.dst=some d→d ∉ o.looksAt ops)∧(∀d,it'.dst=some d→o.dst≠some d):=by
    intro j' it' hj' hc
    obtain ⟨p',hp',_,WX,_⟩:=hit j' it' hj'
    rw [WX]
    exact Mx hfit hdn ho hp' xP Wq (hc.imp (fun h=>⟨by omega,h.2⟩) (fun h=>⟨by omega,h.2⟩))
   have WY:∀t∈o.looksAt ops,gH t (dJ tt p (cQ.take j) s0.sl)=gH t (dJ (at_ listed) p cQ s0.sl):=by
    intro t ht
    have e:dJ tt p (cQ.take j) s0.sl=dJ (fun x=>decide (x<p+j)) p cQ s0.sl:=Ac cQ p j s0.sl
    rw [e]
    refine qd cQ p _ _ rfl ?_
    intro j' it' hj' hdt
    rcases Nat.lt_trichotomy j' j with h|h|h
    ·rw [decide_eq_true (by omega)]
     cases hq:at_ listed (p+j') with
     |true=>rfl
     |false=>exact absurd ht ((I3 j' it' hj' (.inl ⟨h,hq⟩)).1 t hdt)
    ·subst h
     rw [decide_eq_false (by omega),xP]
    rw [decide_eq_false (by omega)]
    cases hq:at_ listed (p+j') with
    |false=>rfl
    |true=>exact absurd ht ((I3 j' it' hj' (.inr ⟨h,hq⟩)).1 t hdt)
   have hy':=hy.BW (bx:=fk (at_ listed) p cQ s0.bx) WY (Gb cQ p s0.bx (lE.refl _) hun) (by
    intro x cs hb
    rw [CK cQ p s0.bx ?_]
    ·exact hun j _ x cs Wr hb
    intro j' it' y cs' hj' hm hb'
    refine xu.apart hj' hb' Wr hb ?_
    rintro rfl
    rw [xP] at hm;cases hm)
   refine OU hT ho hF hy' hd ?_
   intro β' a' w' sD WZ
   have hm':∀x,x≠p+j→at_ (listed.setIfInBounds (p+j) true) x=at_ listed x:=fun x hx=>by rw [tn hil,if_neg hx]
   have hB:fk (at_ (listed.setIfInBounds (p+j) true)) p cQ s0.bx=qc cQ[j] (fk (at_ listed) p cQ s0.bx):=by
    refine Ae cQ p j cQ[j] s0.bx Wr xP (by rw [tn hil,if_pos rfl]) hm' ?_
    intro j' it' y cs x cs0 hj' hne hb' hb0
    exact xu.apart hj' hb' Wr hb0 hne
   refine ih _ p k cQ s0 β' w' a' RV WW (fun x hx=>by rw [hm' x (by omega)];exact hlo x hx) (fun x hx=>by rw [hm' x (by omega)];exact hhi x hx) T6 hle xu hit hend (by rw [hB];exact ex.trans sD) ?_
   rw [hB]
   refine WZ.BW (fun t=>?_)
   rw [←Gc]
   refine (Ad cQ p j cQ[j] s0.sl Wr xP (by rw [tn hil,if_pos rfl]) hm' ?_).symm
   intro j' it' hj' hlt' hm d YL UP
   rw [Gc] at YL
   exact (I3 j' it' hj' (.inr ⟨hlt',hm⟩)).2 d UP YL
  rcases hend with ⟨hfull,_⟩|⟨k',o',rest,WV,W4,hd,hop⟩
  ·omega
  obtain ⟨pX,sE⟩:=D7 W4
  have hiq:i=p+cQ.length:=by
   rcases Nat.lt_or_ge (p+cQ.length) i with h|h
   ·have h1:=closed hdn i o ho Wq _ (sE i h (by rw [qg];simpa using hin))
    rw [hhi _ (Nat.le_refl _)] at h1;cases h1
   omega
  subst hiq
  have hoo:o'=o:=by
   have:=congrArg (fun l=>l[0]?) WV
   simp only [List.getElem?_drop,Nat.add_zero,List.getElem?_cons_zero] at this
   have h3:ops.toList[p+cQ.length]?=ops[p+cQ.length]?:=by simp
   rw [h3,ho] at this;cases this;rfl
  subst hoo
  have pg:rest=ops.toList.drop (p+cQ.length+1):=by
   have:=congrArg (List.drop 1) WV
   simpa [List.drop_drop] using this.symm
  have hall:∀x,x<p+cQ.length→at_ listed x=true:=fun x hx=>closed hdn _ o' ho Wq x (pX x hx)
  have e1:=kM (m:=at_ listed) (m':=tt) cQ p s0.sl (fun j hj=>hall _ (by omega))
  have e2:=m5 (m:=at_ listed) (m':=tt) cQ p s0.bx (fun j hj=>hall _ (by omega))
  rw [e1,e2] at hF;rw [e2] at ex
  have next:∀(s1:St) (β':Nat→Nat) (w':World) (a':Act),nK (bF P G) T G N ops.toList (cU ops.toList []) base s1.bx k' (p+cQ.length+1) rest Q s1→Ext β0 aQ w0 β' s1.bx w'→Fr G N ds β' w' X s1 a'→
   wpAny P .any ops (gE G N ds X β0 aQ w0 Q) fuel (listed.setIfInBounds (p+cQ.length) true) a' w':=by
   intro s1 β' w' a' h1 zN Ff
   obtain ⟨US,k1,g1,g2,g3,g4⟩:=tj _ _ _ _ h1
   have hlen:rest.length=ops.size-(p+cQ.length+1):=by rw [pg];simp
   have wk:∀j:Nat,rest[j]?=ops[p+cQ.length+1+j]?:=by intro j;rw [pg];simp
   have T7:∀x,p+cQ.length+1≤x→at_ (listed.setIfInBounds (p+cQ.length) true) x=false:=by
    intro x hx;rw [tn hil,if_neg (by omega)];exact hhi x (by omega)
   have f1:=Ai (m:=at_ (listed.setIfInBounds (p+cQ.length) true)) US (p+cQ.length+1) s1.sl (fun j _=>T7 _ (by omega))
   have f2:=Aj (m:=at_ (listed.setIfInBounds (p+cQ.length) true)) US (p+cQ.length+1) s1.bx (fun j _=>T7 _ (by omega))
   refine ih _ (p+cQ.length+1) k' US s1 β' w' a' RV WW ?_ (fun x hx=>T7 x (by omega)) T6 (by omega) g1 ?_ ?_ (by rw [f2];exact zN) (by rw [f1,f2];exact Ff)
   ·intro x hx
    rw [tn hil]
    by_cases hxq:x=p+cQ.length
    ·simp [hxq]
    rw [if_neg hxq];exact hall x (by omega)
   ·intro j it hj
    obtain ⟨o2,q1,q2,q3,q4⟩:=g3 j it hj
    exact ⟨o2,by rw [←wk];exact q1,q2,q3,q4⟩
   rcases g4 with ⟨q1,q2⟩|⟨o2,W5,q1,q2,q3,q4⟩
   ·exact .inl ⟨by omega,q2⟩
   exact .inr ⟨k1,o2,W5,by rw [pg,List.drop_drop] at q1;exact q1,q2,q3,q4⟩
  unfold nK at hop
  simp only [hd,cond_true,W4] at hop
  unfold wpOp
  rw [ho]
  simp only
  split at hop
  ·rename_i hg
   rw [if_pos (by simp [Region.wanted,hg])]
   refine .inl (m0 hT hF hop ?_ ?_)
   ·intro β' aU w' v u sD mO hv hK
    exact next ⟨eL o'.dst v _,aU⟩ β' w' _ hK (ex.trans sD) (hF.put sD mO hd hv)
   intro β' aU w' v u sD mO hv hK
   exact ⟨β',aU,v,u,rfl,ex.trans sD,mO,hv,hF.defers,hK⟩
  rename_i j want hg
  split at hop
  ·rename_i g Iu
   have hy:=lD hF Iu
   cases g with
   |true=>
    rw [if_pos (by simp only [Region.wanted,hg];exact hy)]
    refine .inl (xH hT hF hop ?_)
    rintro β' aU w' v u sD mO hv ⟨hK,rfl⟩
    refine next ⟨eL o'.dst (.cond true v) _,_⟩ β' w' _ hK (ex.trans sD) (hF.put sD mO hd ?_)
    simp only [ak];exact ⟨fun _=>hv,by simp⟩
   |false=>
    rw [if_neg (by simp only [Region.wanted,hg];rw [hy];simp)]
    obtain ⟨v,hK⟩:=zY hop
    refine next ⟨eL o'.dst (.cond false v) _,_⟩ β w _ hK ex (hF.put (Ext.refl _ _ _) hF.cx hd ?_)
    simp only [ak];simp
  exact hop.elim
variable {β:Nat→Nat} {bx:List aA} {w:World}
theorem oH {n i:Nat} {b:aA} (h:(bx++List.replicate n .bw)[i]?=some b):bx[i]?=some b∨b=.bw:=by
 rcases Nat.lt_or_ge i bx.length with hl|hl
 ·rw [List.getElem?_append_left hl] at h;exact .inl h
 rw [List.getElem?_append_right hl,List.getElem?_replicate] at h
 split at h
 ·exact .inr (by simpa using h.symm)
 cases h
theorem tv (n:Nat):Ext β bx w β (bx++List.replicate n .bw) w:=by
 refine ⟨rfl,rfl,rfl,Nat.le_refl _,fun _ _ _=>rfl,fun _ c _ _ h=>⟨c,h,rfl⟩,?_,?_⟩
 ·rintro i ⟨b,h1,h2⟩
  exact ⟨rfl,b,by rw [List.getElem?_append_left (jz h1)];exact h1,h2⟩
 intro i b h hl
 rcases oH h with h1|rfl
 ·exact .inr ⟨i,b,h1,hl,rfl⟩
 simp [aA.live] at hl
theorem I4 (cx:cP G β bx w X) (n:Nat):cP G β (bx++List.replicate n .bw) w X:=by
 refine cx.step (tv n) ?_ ?_
 ·intro i b h
  rcases oH h with h1|rfl
  ·exact .inl ⟨h1,fun _=>rfl⟩
  exact .inr trv
 intro i j bi bj hi hj mP oD he
 rcases oH hi with h1|rfl<;>rcases oH hj with h2|rfl
 ·exact cx.inj i j bi bj h1 h2 mP oD he
 ·simp [aA.live] at oD
 ·simp [aA.live] at mP
 simp [aA.live] at mP
def kn (l l':List Oper):Prop:=l'.length=l.length∧∀(j:Nat) (o o':Oper),l[j]?=some o→l'[j]?=some o'→o'.op=o.op∧o'.dst=o.dst∧o'.guard=o.guard
theorem kn.tail {o o':Oper} {l l':List Oper} (h:kn (o::l) (o'::l')):kn l l':=⟨by simpa using h.1,fun j p p' h1 h2=>h.2 (j+1) p p' (by simpa using h1) (by simpa using h2)⟩
theorem BX {ops ops':List Oper} (h:kn ops ops') (sl:List (Nat×AV)) (j:Nat) (want:Bool):guardOf sl ops' j want=guardOf sl ops j want:=by
 unfold guardOf
 cases ho:ops[j]? with
 |none=>
  have:ops'[j]?=none:=by rw [List.getElem?_eq_none_iff] at ho ⊢;rw [h.1];exact ho
  rw [this]
 |some o=>
  have hj:j<ops'.length:=by rw [h.1];exact (List.getElem?_eq_some_iff.1 ho).1
  have:=h.2 j o ops'[j] ho (List.getElem?_eq_getElem hj)
  rw [List.getElem?_eq_getElem hj]
  simp only
  rw [this.2.1]
theorem Ak {FC:Nat→List AV→List aA→jR→List aA→Prop} {ops ops':List Oper} (UT:kn ops ops') {b:List Nat} {base:Nat} {Q:Ex→St→Prop}:∀(l l':List Oper) (ij:List aA) (k i:Nat) (s:St),kn l l'→nK FC T G N ops' b base ij k i l' Q s=nK FC T G N ops b base ij k i l Q s
 |[],[],_,_,_,_,_=>rfl
 |[],_::_,_,_,_,_,h=>by have:=h.1;simp at this
 |_::_,[],_,_,_,_,h=>by have:=h.1;simp at this
 |o::l,o'::l',ij,k,i,s,h=>by
  obtain ⟨e1,e2,e3⟩:=h.2 0 o o' rfl rfl
  have hb:iz T G s.sl o'=iz T G s.sl o:=by unfold iz;rw [e1,e3]
  have hu:∀s K Q,pQ FC T G o' s K Q=pQ FC T G o s K Q:=fun s K Q=>by unfold pQ;rw [e1]
  have hg:∀g s K,stepG FC T G g o' s K=stepG FC T G g o s K:=fun g s K=>by unfold stepG vX;rw [e1]
  have hc:∀sl ij x K,lY FC G o' sl ij x K=lY FC G o sl ij x K:=fun sl ij x K=>by unfold lY;rw [e1]
  have ih:=fun ij k i s=>Ak (FC:=FC) (ops:=ops) (ops':=ops') UT (b:=b) (base:=base) (Q:=Q) l l' ij k i s h.tail
  simp only [nK,e2,e3,hb,hu,hg,hc,ih,BX UT]
theorem Gg (pre:List Nat) (l:List Oper):kn l (cB pre 0 l):=by
 refine ⟨kF pre l 0,fun j o o' h1 h2=>?_⟩
 rw [mA,h1] at h2
 simp only [Option.map_some,osI] at h2
 subst h2
 obtain ⟨e1,e2,e3,_⟩:=lG pre (0+j) o
 exact ⟨e1,e2,e3⟩
theorem wu (a:Array Oper) (late:List Nat):∀(l:List Oper) (i j:Nat),(ig a late i l)[j]?=(l[j]?).map (kC a late (i+j))
 |[],_,_=>by simp [ig]
 |o::r,i,0=>by simp [ig]
 |o::r,i,j+1=>by
  simp only [ig,List.getElem?_cons_succ]
  rw [wu a late r (i+1) j,show i+1+j=i+(j+1) by omega]
theorem oI (a:Array Oper) (late:List Nat):∀(l:List Oper) (i:Nat),(ig a late i l).length=l.length
 |[],_=>rfl
 |o::r,i=>by simp [ig,oI a late r]
theorem rL (a:Array Oper):∀(l:List Oper) (i:Nat),ig a [] i l=l
 |[],_=>rfl
 |o::r,i=>by simp only [ig,rL a r];simp [kC]
theorem I5 (a:Array Oper) (late:List Nat) (l:List Oper):kn l (ig a late 0 l):=by
 refine ⟨oI a late l 0,fun j o o' h1 h2=>?_⟩
 rw [wu,h1] at h2
 simp only [Option.map_some,osI] at h2
 subst h2
 obtain ⟨x,e⟩:=lH a late (0+j) o
 rw [e];exact ⟨rfl,rfl,rfl⟩
theorem kn.trans {l l' l'':List Oper} (h:kn l l') (g:kn l' l''):kn l l'':=by
 refine ⟨g.1.trans h.1,fun j o o'' h1 h2=>?_⟩
 have hj:j<l'.length:=by rw [h.1];exact (List.getElem?_eq_some_iff.1 h1).1
 obtain ⟨a1,a2,a3⟩:=h.2 j o l'[j] h1 (List.getElem?_eq_getElem hj)
 obtain ⟨b1,b2,b3⟩:=g.2 j l'[j] o'' (List.getElem?_eq_getElem hj) h2
 exact ⟨b1.trans a1,b2.trans a2,b3.trans a3⟩
theorem oJ (ops:Array Oper):∀(pre done:List Nat),je ops done pre=true→pre.Nodup∧(∀p∈pre,p ∉ done)∧∀p∈pre,p<ops.size
 |[],_,_=>⟨List.nodup_nil,by simp,by simp⟩
 |p::r,done,h=>by
  unfold je at h
  cases ho:ops[p]? with
  |none=>simp [ho] at h
  |some o=>
   simp only [ho,Bool.and_eq_true] at h
   obtain ⟨⟨⟨⟨f1,_⟩,_⟩,_⟩,f5⟩:=h
   obtain ⟨g1,g2,g3⟩:=oJ ops r _ f5
   refine ⟨List.nodup_cons.2 ⟨fun hp=>g2 p hp (by simp),g1⟩,?_,?_⟩
   ·intro q hq;rcases List.mem_cons.1 hq with rfl|hq
    ·simpa using f1
    exact fun hh=>g2 q hq (by simp [hh])
   intro q hq;rcases List.mem_cons.1 hq with rfl|hq
   ·exact (Array.getElem?_eq_some_iff.1 ho).1
   exact g3 q hq
theorem Gh (t u:Nat) (v:AV):∀l:List (Nat×AV),gH t (RG u v l)=bif Nat.beq t u then v else gH t l
 |[]=>rfl
 |(s,x)::r=>by
  simp only [RG]
  cases h1:Nat.beq u s with
  |true=>
   have:=Nat.eq_of_beq_eq_true h1;subst this
   simp only [cond_true,gH]
   cases Nat.beq t u<;>rfl
  |false=>
   simp only [cond_false]
   cases h2:Nat.blt u s with
   |true=>rfl
   |false=>
    simp only [cond_false,gH]
    rw [Gh t u v r]
    cases h3:Nat.beq t s with
    |false=>simp
    |true=>
     have:=Nat.eq_of_beq_eq_true h3;subst this
     have:Nat.beq t u=false:=by
      cases h:Nat.beq t u with
      |false=>rfl
      |true=>have:=Nat.eq_of_beq_eq_true h;subst this;rw [h] at h1;cases h1
     simp [this]
theorem Al (t:Nat):∀l:List (Nat×AV),gH t (BR l)=gH t l
 |[]=>rfl
 |(u,v)::r=>by rw [BR,Gh,Al t r];rfl
section
variable {N:Nat} {ds:List Deferred} {X:Nat→Prop} {β0:Nat→Nat} {aQ:List aA} {w0:World}
theorem qi (hT:kD P T) {ops ops':Array Oper} {pre:List Nat} (Gi:nR pre ops ops') {QQ:Exit→Act→World→Prop} {Q:Ex→St→Prop} {i:Nat} {KS:St→Prop} {NX:Act→World→Prop} {β:Nat→Nat} {w:World} {s:St} {a:Act} (ex:Ext β0 aQ w0 β s.bx w) (hF:Fr G N ds β w X s a)
 (hp:∀β bx v u w a,Ext β0 aQ w0 β bx w→cP G β bx w X→ak β bx w (bp β bx w X) v u→a.defers=ds→Q (.panic v) ⟨[],bx⟩→QQ (.panic [{v:=u,recovered:=false}]) a w)
 (h:xk (bF P G) T G N ops.toList i KS Q s) (hn:∀β w s a,Ext β0 aQ w0 β s.bx w→Fr G N ds β w X s a→KS s→NX a w):wpOp P ops' QQ i NX a w:=by
 rw [tq Gi]
 unfold xk at h
 unfold wpOp
 simp only [Array.getElem?_toList] at h
 cases ho:ops[i]? with
 |none=>rw [ho] at h;exact h.elim
 |some o=>
  rw [ho] at h
  simp only at h ⊢
  cases hd:gZ N o.dst with
  |false=>rw [hd] at h;exact h.elim
  |true=>
   rw [hd] at h
   simp only [cond_true] at h
   have Mf:∀{s1:St},s1=s→OL G β s1.bx w X a (fun v bx=>Q (.panic v) ⟨[],bx⟩) QQ:=fun e β' aU w' v u sD mO hv hK=>by subst e;exact hp β' aU v u w' a (ex.trans sD) mO hv hF.defers hK
   split at h
   ·rename_i hg
    rw [if_pos (by unfold Region.wanted;rw [hg])]
    exact .inl (m0 hT hF h (fun β' aU w' v u sD mO hv hK=>hn β' w' ⟨eL o.dst v s.sl,aU⟩ _ (ex.trans sD) (hF.put sD mO hd hv) hK) (Mf rfl))
   rename_i j want hg
   split at h
   ·rename_i g Iu
    have hy:=lD hF Iu
    obtain ⟨h⟩:=h
    cases g with
    |true=>
     rw [if_pos (by simp only [Region.wanted,hg];exact hy)]
     refine .inl (m0 hT hF (h.1 rfl) (fun β' aU w' v u sD mO hv hK=>hn β' w' ⟨eL o.dst (.cond true v) s.sl,aU⟩ _ (ex.trans sD) (hF.put sD mO hd ?_) hK) (Mf rfl))
     simp only [ak];exact ⟨fun _=>hv,by simp⟩
    |false=>
     rw [if_neg (by simp only [Region.wanted,hg];rw [hy];simp)]
     refine hn β w ⟨eL o.dst (.cond false .any) s.sl,s.bx⟩ _ ex (hF.put (Ext.refl _ _ _) hF.cx hd ?_) (h.2 rfl)
     simp only [ak];simp
   exact h.elim
theorem uR (hT:kD P T) {ops ops':Array Oper} {pre:List Nat} (Gi:nR pre ops ops') {R:St→Prop} {QQ:Exit→Act→World→Prop} {Q:Ex→St→Prop}
 (hp:∀β bx v u w a,Ext β0 aQ w0 β bx w→cP G β bx w X→ak β bx w (bp β bx w X) v u→a.defers=ds→Q (.panic v) ⟨[],bx⟩→QQ (.panic [{v:=u,recovered:=false}]) a w)
 (hR:∀β w s a,Ext β0 aQ w0 β s.bx w→Fr G N ds β w X s a→R s→QQ .normal a w):∀(tr:OT) (n:Nat) (listed:Array Bool) (β:Nat→Nat) (w:World) (s:St) (a:Act),Ext β0 aQ w0 β s.bx w→Fr G N ds β w X s a→
  Mh (bF P G) T G N ops.toList Q R tr s→tr.depth≤n→
  (tr.fit ops' true listed=true→wpAny P .any ops' QQ n listed a w)∧
  (tr.fit ops' false listed=true→∀i∈tr.K0,wpOp P ops' QQ i (wpAny P .any ops' QQ (n-1) (listed.setIfInBounds i true)) a w)
 |.done,n,listed,β,w,s,a,ex,hF,h,_=>by
  refine ⟨fun hf=>?_,fun _ i hi=>by cases hi⟩
  simp only [OT.fit,Bool.not_true,Bool.false_or] at hf
  exact wpAny_done (List.isEmpty_iff.1 hf) (hR β w s a ex hF h) n
 |.one i o,n,listed,β,w,s,a,ex,hF,h,hd=>by
  simp only [OT.depth] at hd
  obtain ⟨m,rfl⟩:∃m,n=m+1:=⟨n-1,by omega⟩
  have key:o.fit ops' true (listed.setIfInBounds i true)=true→wpOp P ops' QQ i (wpAny P .any ops' QQ m (listed.setIfInBounds i true)) a w:=fun hf=>
   qi hT Gi ex hF hp h fun β w s a ex hF hK=>(uR hT Gi hp hR o m _ β w s a ex hF hK (by omega)).1 hf
  refine ⟨fun hf=>?_,fun hf j hj=>?_⟩
  ·simp only [OT.fit,Bool.not_true,Bool.false_or,Bool.and_eq_true,beq_iff_eq] at hf
   exact wpAny_all hf.1 (by simp) fun j hj=>by simp at hj;subst hj;exact key hf.2
  simp only [OT.fit,Bool.not_false,Bool.true_or,Bool.true_and] at hf
  simp only [OT.K0,List.mem_singleton] at hj
  subst hj;exact key hf
 |.more i o r,n,listed,β,w,s,a,ex,hF,h,hd=>by
  simp only [OT.depth] at hd
  obtain ⟨m,rfl⟩:∃m,n=m+1:=⟨n-1,by omega⟩
  have key:o.fit ops' true (listed.setIfInBounds i true)=true→wpOp P ops' QQ i (wpAny P .any ops' QQ m (listed.setIfInBounds i true)) a w:=fun hf=>
   qi hT Gi ex hF hp h.1 fun β w s a ex hF hK=>(uR hT Gi hp hR o m _ β w s a ex hF hK (by omega)).1 hf
  have rest:=(uR hT Gi hp hR r (m+1) listed β w s a ex hF h.2 (by omega)).2
  refine ⟨fun hf=>?_,fun hf j hj=>?_⟩
  ·simp only [OT.fit,Bool.not_true,Bool.false_or,Bool.and_eq_true,beq_iff_eq] at hf
   refine wpAny_all hf.1 (by simp) fun j hj=>?_
   rcases List.mem_cons.1 hj with rfl|hj
   ·exact key hf.2.1
   exact rest hf.2.2 j hj
  simp only [OT.fit,Bool.not_false,Bool.true_or,Bool.true_and,Bool.and_eq_true] at hf
  rcases List.mem_cons.1 hj with rfl|hj
  ·exact key hf.1
  exact rest hf.2 j hj
end
theorem Gj (hT:kD P T) (hm:P.follows .mixedOrders=true) {N:Nat} {ds:List Deferred} {X:Nat→Prop} {β0:Nat→Nat} {aQ:List aA} {w0:World} {id:Nat} {fm:Array Oper} {Q:Ex→St→Prop} {β:Nat→Nat} {w:World} {s:St} {a:Act} (ex:Ext β0 aQ w0 β s.bx w) (hF:Fr G N ds β w X s a)
 (h:TU (bF P G) T G N fm.toList Q s):(Code.region id fm true).wp P (gE G N ds X β0 aQ w0 Q) a w:=by
 obtain ⟨pre,tr,s1,⟨OA,Mk,Zt⟩,hft,hx,hpost⟩:=h
 unfold OT.fits at hft
 rw [Bool.and_eq_true] at hft
 simp only [Array.length_toList] at hft
 refine wp_region_any hm ?_
 have Gi:nR pre fm (cB pre 0 fm.toList).toArray:=by intro j;simp [mA]
 have hsame:=fy w
 have My:Fr G N ds β {w with drawn:=w.drawn+1} X s a:=⟨pS hF.cx hsame,hF.defers,hF.size,fun t=>ak.mono ((jh hsame).eX X) _ _ (hF.yV t)⟩
 have hgoal:=(uR (X:=X) hT Gi (QQ:=gE G N ds X β0 aQ w0 Q) (fun β bx v u w a ex cx hv hd hq=>⟨β,bx,v,u,rfl,ex,cx,hv,hd,hq⟩) (fun β w s a ex hF hR=>by
  subst hR
  exact ⟨β,⟨BR s.sl,s.bx⟩,ex,hF.BW fun t=>(Al t s.sl).symm,hpost⟩) tr fm.size (Array.replicate fm.size false) β _ s a (ex.trans (jh hsame)) My hx (Nat.le_of_ble_eq_true hft.1)).1 hft.2
 have OY:je fm [] pre=true:=by simpa using OA
 obtain ⟨n1,n2,n3⟩:=oJ _ _ _ OY
 have hle:pre.length≤fm.size:=by
  have:=List.Nodup.length_le_of_subset n1 (fun p hp=>List.mem_range.2 (n3 p hp):pre ⊆ List.range fm.size)
  simpa using this
 obtain ⟨fuel,hfuel⟩:∃fuel,fm.size=pre.length+fuel:=⟨fm.size-pre.length,by omega⟩
 rw [hfuel] at hgoal ⊢
 have wk:∀p,p<pre.length+fuel→(Array.replicate (pre.length+fuel) false).getD p true=false:=by intro p hp;simp [hp]
 refine wo (G:=G) (N:=N) Gi (by simpa using Mk) ?_ fuel _ pre [] _ a s.sl OY Zt ?_ hF.size (by simp) (fun p hp _=>wk p (by have:=n3 p hp;omega)) (fun p hp=>.inr hp) (fun p hp=>hp) (by simp [hfuel]) n1 hgoal
 ·intro c a a' w ha hq
  simp only [gE] at hq ⊢
  obtain ⟨β,bx,v,u,h1,h2,h3,h4,h5,h6⟩:=hq
  exact ⟨β,bx,v,u,h1,h2,h3,h4,ha.symm.trans h5,h6⟩
 intro t k z hk
 have:=hF.yV t
 rw [hk] at this
 simpa only [ak,aL] using this
section
variable {P:Program} {T:Nat→Option TI} {G:Nat→Option (List D)} {N:Nat} {ds:List Deferred} {X:Nat→Prop}
variable {β0:Nat→Nat} {aQ:List aA} {w0:World}
theorem OZ:∀{l m:List Bool},Wh l m=true→l=m
 |[],[],_=>rfl
 |a::l,b::m,h=>by
  simp only [Wh,Bool.and_eq_true,beq_iff_eq] at h
  rw [h.1,OZ h.2]
 |[],_::_,h=>by simp [Wh] at h
 |_::_,[],h=>by simp [Wh] at h
theorem Gk {k i:Nat}:∀{l:List (Nat×Nat)},Od k i l=true→(k,i)∈l
 |[],h=>by simp [Od] at h
 |(p,j)::r,h=>by
  simp only [Od,Bool.or_eq_true,Bool.and_eq_true,Nat.beq_eq] at h
  rcases h with ⟨rfl,rfl⟩|h
  ·exact List.mem_cons_self ..
  exact List.mem_cons_of_mem _ (Gk h)
theorem D9 {ops:Array Oper} {pl:List Nd} {z:Nat}:∀{l:List Nd} {k j:Nat} {nd:Nd},Oe ops pl z k l=true→l[j]?=some nd→
 (Region.ready .any ops nd.ls.toArray=[]∧k+j=z)∨(Region.ready .any ops nd.ls.toArray≠[]∧∀i∈Region.ready .any ops nd.ls.toArray,i<nd.ls.length∧nd.ls[i]?=some false∧∃e∈pl,e.ls=nd.ls.set i true∧(k+j,i)∈e.ps)
 |[],_,_,_,_,h=>by simp at h
 |x::l,k,0,nd,h,hj=>by
  simp only [List.getElem?_cons_zero,osI] at hj
  subst hj
  simp only [Oe,Bool.and_eq_true] at h
  have h:=h.1
  split at h
  ·rename_i g;exact .inl ⟨g,by simpa using Nat.eq_of_beq_eq_true h⟩
  rename_i rs g
  refine .inr ⟨fun e=>g e,fun i hi=>?_⟩
  have:=List.all_eq_true.1 h i hi
  simp only [Bool.and_eq_true,beq_iff_eq,List.any_eq_true] at this
  obtain ⟨⟨h1,h2⟩,e,he,h3,h4⟩:=this
  have h1:i<x.ls.length:=Nat.le_of_ble_eq_true h1
  refine ⟨h1,?_,e,he,OZ h3,Gk h4⟩
  rw [List.getD_eq_getElem?_getD,List.getElem?_eq_getElem h1] at h2
  rw [List.getElem?_eq_getElem h1]
  simpa using h2
 |x::l,k,j+1,nd,h,hj=>by
  simp only [List.getElem?_cons_succ] at hj
  simp only [Oe,Bool.and_eq_true] at h
  have:=D9 h.2 hj
  rw [show k+(j+1)=k+1+j by omega]
  exact this
theorem Gl {FC:Nat→List AV→List aA→jR→List aA→Prop} {ops:List Oper} {Q:Ex→St→Prop} {S:List St} {s s0:St} {p i:Nat}:∀{l:List (Nat×Nat)},Fl FC T G N ops Q S s l→(p,i)∈l→S[p]?=some s0→xk FC T G N ops i (fun s1=>(⟨BR s1.sl,s1.bx⟩:St)=s) Q s0
 |[],_,h,_=>by simp at h
 |(q,j)::r,h,hm,hs=>by
  rcases List.mem_cons.1 hm with e|hm
  ·obtain ⟨rfl,rfl⟩:=Prod.mk.inj e
   have:=h.1
   rw [hs] at this
   exact this
  exact Gl h.2 hm hs
theorem Lh {FC:Nat→List AV→List aA→jR→List aA→Prop} {ops:List Oper} {Q:Ex→St→Prop} {S:List St}:∀{l:List Nd} {k j:Nat} {nd:Nd},allM FC T G N ops Q S k l→l[j]?=some nd→∃s,S[k+j]?=some s∧Fl FC T G N ops Q S s nd.ps
 |[],_,_,_,_,h=>by simp at h
 |x::l,k,0,nd,h,hj=>by
  simp only [List.getElem?_cons_zero,osI] at hj
  subst hj
  have:=h.1
  split at this
  ·rename_i s g;exact ⟨s,g,this⟩
  exact this.elim
 |x::l,k,j+1,nd,h,hj=>by
  simp only [List.getElem?_cons_succ] at hj
  obtain ⟨s,g1,g2⟩:=Lh h.2 hj
  exact ⟨s,by rw [←g1];congr 1;omega,g2⟩
theorem tw:∀{l:List Bool} {i:Nat},l[i]?=some false→(l.set i true).count false+1=l.count false
 |[],_,h=>by simp at h
 |a::l,0,h=>by
  simp only [List.getElem?_cons_zero,osI] at h
  subst h
  simp
 |a::l,i+1,h=>by
  simp only [List.getElem?_cons_succ] at h
  have:=tw h
  simp only [List.set_cons_succ,List.count_cons]
  omega
theorem O0 (hT:kD P T) {ops:Array Oper} {pl:List Nd} {S:List St} {QQ:Exit→Act→World→Prop} {Q:Ex→St→Prop} (Gi:nR [] ops ops) (hfit:KZ ops pl=true)
 (hp:∀β bx v u w a,Ext β0 aQ w0 β bx w→cP G β bx w X→ak β bx w (bp β bx w X) v u→a.defers=ds→Q (.panic v) ⟨[],bx⟩→QQ (.panic [{v:=u,recovered:=false}]) a w)
 (hm:allM (bF P G) T G N ops.toList Q S 1 pl)
 (hR:∀β w s a,Ext β0 aQ w0 β s.bx w→Fr G N ds β w X s a→S[pl.length]?=some s→QQ .normal a w):∀(n k:Nat) (nd:Nd) (s:St) (β:Nat→Nat) (w:World) (a:Act),
  (⟨List.replicate ops.size false,[]⟩::pl:List Nd)[k]?=some nd→S[k]?=some s→Ext β0 aQ w0 β s.bx w→Fr G N ds β w X s a→nd.ls.count false≤n→wpAny P .any ops QQ n nd.ls.toArray a w:=by
 intro n
 induction n with
 |zero=>
  intro k nd s β w a hk hs ex hF hc
  rcases D9 hfit hk with ⟨h1,h2⟩|⟨h1,h2⟩
  ·rw [Nat.zero_add] at h2;subst h2
   exact wpAny_done h1 (hR β w s a ex hF hs) 0
  exfalso
  obtain ⟨i,hi⟩:=List.exists_mem_of_ne_nil _ h1
  have:=tw (h2 i hi).2.1
  omega
 |succ n ih=>
  intro k nd s β w a hk hs ex hF hc
  rcases D9 hfit hk with ⟨h1,h2⟩|⟨h1,h2⟩
  ·rw [Nat.zero_add] at h2;subst h2
   exact wpAny_done h1 (hR β w s a ex hF hs) (n+1)
  refine wpAny_all rfl h1 fun i hi=>?_
  obtain ⟨g1,g2,e,he,g3,g4⟩:=h2 i hi
  rw [Nat.zero_add] at g4
  obtain ⟨j,hj⟩:=List.getElem?_of_mem he
  obtain ⟨s',q1,q2⟩:=Lh hm hj
  have hst:=Gl q2 g4 hs
  refine qi hT Gi ex hF hp hst fun β w s1 a ex hF hK=>?_
  subst hK
  have:=ih (1+j) e ⟨BR s1.sl,s1.bx⟩ β w a (by rw [Nat.add_comm];simpa using hj) q1 ex (hF.BW fun t=>(Al t s1.sl).symm) (by rw [g3];have:=tw g2;omega)
  rw [g3] at this
  simpa using this
theorem CM (ks:List Nat) (t:Nat):∀l:List (Nat×AV),gH t (xo ks l)=bif ks.contains t then gH t l else .any
 |[]=>by simp [xo,gH]
 |(u,v)::r=>by
  have ih:=CM ks t r
  simp only [xo]
  cases h:Nat.beq t u with
  |true=>
   have:=Nat.eq_of_beq_eq_true h;subst this
   cases hk:ks.contains t with
   |true=>simp [gH]
   |false=>rw [cond_false,ih,hk];rfl
  |false=>
   cases hk:ks.contains u with
   |true=>simp only [cond_true,gH,h,cond_false];exact ih
   |false=>simp only [cond_false,gH,h];exact ih
theorem Fr.yW {N:Nat} {ds:List Deferred} {X:Nat→Prop} {β:Nat→Nat} {w:World} {s:St} {a:Act} (hF:Fr G N ds β w X s a) (ks:List Nat):Fr G N ds β w X ⟨xo ks s.sl,s.bx⟩ a:=
 ⟨hF.cx,hF.defers,hF.size,fun t=>by
  simp only [CM]
  cases ks.contains t with
  |true=>exact hF.yV t
  |false=>simp only [cond_false,ak]⟩
theorem Gm (hT:kD P T) (hm:P.follows .mixedOrders=true) {id:Nat} {fm:Array Oper} {Q:Ex→St→Prop} {β:Nat→Nat} {w:World} {s:St} {a:Act} (ex:Ext β0 aQ w0 β s.bx w) (hF:Fr G N ds β w X s a)
 (h:TV (bF P G) T G N fm.toList Q s):(Code.region id fm true).wp P (gE G N ds X β0 aQ w0 Q) a w:=by
 obtain ⟨pl,S,s1,s0,h1,⟨h2,h0⟩,h3,h4,h5⟩:=h
 obtain ⟨eb,hF⟩:s0.bx=s.bx∧Fr G N ds β w X s0 a:=by
  rcases h0 with rfl|⟨ks,rfl⟩
  ·exact ⟨rfl,hF⟩
  exact ⟨rfl,hF.yW ks⟩
 rw [←eb] at ex
 clear h0 eb
 refine wp_region_any hm ?_
 have h1:KZ fm pl=true:=by simpa using h1
 have Gi:nR [] fm fm:=by
  have:nR [] fm (cB [] 0 fm.toList).toArray:=by intro j;simp [mA]
  rwa [oG] at this
 have hsame:=fy w
 have My:Fr G N ds β {w with drawn:=w.drawn+1} X s0 a:=⟨pS hF.cx hsame,hF.defers,hF.size,fun t=>ak.mono ((jh hsame).eX X) _ _ (hF.yV t)⟩
 have:=O0 (X:=X) hT Gi (QQ:=gE G N ds X β0 aQ w0 Q) h1 (fun β bx v u w a ex cx hv hd hq=>⟨β,bx,v,u,rfl,ex,cx,hv,hd,hq⟩) h4 (fun β w s a ex hF hR=>by
  rw [h3] at hR
  cases hR
  exact ⟨β,s1,ex,hF,h5⟩) fm.size 0 ⟨List.replicate fm.size false,[]⟩ s0 β _ a rfl h2 (ex.trans (jh hsame)) My (by simp)
 simpa using this
end
theorem Sc (hT:kD P T) (hm:P.follows .mixedOrders=true):p8 P T G:=by
 intro N ds X β0 aQ w0 id fm Q β w s a ex hF h
 rcases h with h|h|h
 ·exact Gj hT hm ex hF h
 ·exact Gm hT hm ex hF h
 obtain ⟨pre,late,hpre,⟨hfit⟩,W6⟩:=h
 refine wp_region_any hm ?_
 obtain ⟨I6,Li⟩:∃ops:Array Oper,ops=(cB pre 0 fm.toList).toArray:=⟨_,rfl⟩
 obtain ⟨ops,Sd⟩:∃ops:Array Oper,ops=(ig I6 late 0 (cB pre 0 fm.toList)).toArray:=⟨_,rfl⟩
 have Zu:I6.size=fm.size:=by rw [Li];simp [kF]
 have hsz:ops.size=fm.size:=by rw [Sd];simp [oI,kF]
 have Gi:nR pre fm I6:=by intro j;rw [Li];simp [mA]
 have hla:Gf late I6 ops:=by intro j;rw [Sd];simp only [List.getElem?_toArray,wu,Nat.zero_add];rw [Li];simp
 have hl:ops.toList=ig I6 late 0 (cB pre 0 fm.toList):=by rw [Sd]
 rw [←Li] at hfit W6 hpre
 have hal:kn fm.toList (ig I6 late 0 (cB pre 0 fm.toList)):=(Gg pre _).trans (I5 _ _ _)
 have hop:=W6
 rw [←Ak hal _ _ _ _ _ _ hal] at hop
 rw [←hl] at hfit hop
 have hQQ:∀c (a a':Act) w,a.defers=a'.defers→gE G N ds X β0 aQ w0 Q (.panic c) a w→gE G N ds X β0 aQ w0 Q (.panic c) a' w:=by
  intro c a a' w ha hq
  simp only [gE] at hq ⊢
  obtain ⟨β,bx,v,u,h1,h2,h3,h4,h5,h6⟩:=hq
  exact ⟨β,bx,v,u,h1,h2,h3,h4,ha.symm.trans h5,h6⟩
 suffices hgoal:wpAny P .any ops (gE G N ds X β0 aQ w0 Q) fm.size (Array.replicate fm.size false) a {w with drawn:=w.drawn+1} by
  rcases hpre with ⟨rfl,rfl⟩|⟨OA,Mk,I0,Zt⟩
  ·have e:ops=fm:=by rw [Sd,rL,oG]
   rw [e] at hgoal;exact hgoal
  have OY:je fm [] pre=true:=by simpa using OA
  have Zv:mX I6=true:=by
   have W7:mX fm=true:=by simpa using Mk
   rw [mX,Array.all_eq_true_iff_forall_mem] at W7 ⊢
   intro o ho
   obtain ⟨j,hj⟩:=Array.getElem?_of_mem ho
   rw [Gi j] at hj
   cases h0:fm[j]? with
   |none=>rw [h0] at hj;cases hj
   |some o0=>
    rw [h0] at hj
    simp only [Option.map_some,osI] at hj
    rw [←hj,(lG pre j o0).1]
    exact W7 o0 (Array.mem_of_getElem? h0)
  have hgoal:=Mw hla I0 Zv hQQ _ _ _ _ (by simp [Zu]) hgoal
  obtain ⟨n1,n2,n3⟩:=oJ _ _ _ OY
  have hle:pre.length≤fm.size:=by
   have:=List.Nodup.length_le_of_subset n1 (fun p hp=>List.mem_range.2 (n3 p hp):pre ⊆ List.range fm.size)
   simpa using this
  obtain ⟨fuel,hfuel⟩:∃fuel,fm.size=pre.length+fuel:=⟨fm.size-pre.length,by omega⟩
  rw [hfuel] at hgoal ⊢
  have wk:∀p,p<pre.length+fuel→(Array.replicate (pre.length+fuel) false).getD p true=false:=by intro p hp;simp [hp]
  refine wo (G:=G) (N:=N) Gi (by simpa using Mk) hQQ fuel _ pre [] _ a s.sl OY Zt ?_ hF.size (by simp) (fun p hp _=>wk p (by have:=n3 p hp;omega)) (fun p hp=>.inr hp) (fun p hp=>hp) (by simp [hfuel]) n1 hgoal
  intro t k z hk
  have:=hF.yV t
  rw [hk] at this
  simpa only [ak,aL] using this
 rw [←hsz]
 have W8:gW ops (cU ops.toList []) 0 ops.toList=true:=by simpa using hfit
 obtain ⟨cQ,k',g1,g2,g3,g4⟩:=tj _ _ _ _ hop
 have T7:∀x,at_ (Array.replicate ops.size false) x=false:=by
  intro x;unfold at_
  rcases Nat.lt_or_ge x ops.size with h|h<;>simp [h]
 have hsame:=fy w
 have f1:=Ai (m:=at_ (Array.replicate ops.size false)) cQ 0 s.sl (fun j _=>T7 _)
 have f2:=Aj (m:=at_ (Array.replicate ops.size false)) cQ 0 (s.bx++List.replicate (oq fm.toList) .bw) (fun j _=>T7 _)
 refine OX hT W8 ops.size _ 0 0 cQ ⟨s.sl,s.bx++List.replicate (oq fm.toList) .bw⟩ β _ a (by simp) ?_ (fun x hx=>by omega) (fun x _=>T7 x) ?_ (by simpa using g2) g1 ?_ ?_ ?_ ?_
 ·intro x o _ hx;rw [T7] at hx;cases hx
 ·simp
 ·intro j it hj
  obtain ⟨o,q1,q2,q3,q4⟩:=g3 j it hj
  exact ⟨o,by simpa using q1,q2,q3,q4⟩
 ·rcases g4 with ⟨q1,q2⟩|⟨o,rest,q1,q2,q3,q4⟩
  ·exact .inl ⟨by simpa using q1,q2⟩
  exact .inr ⟨k',o,rest,by simpa using q1,q2,q3,q4⟩
 ·rw [f2]
  exact (ex.trans (tv _)).trans (jh hsame)
 rw [f1,f2]
 have c1:=pS (I4 hF.cx (oq fm.toList)) hsame
 refine ⟨c1,hF.defers,hF.size,fun t=>?_⟩
 exact ak.mono (((tv (oq fm.toList)).trans (jh hsame)).eX X) _ _ (hF.yV t)
end
end Dem
