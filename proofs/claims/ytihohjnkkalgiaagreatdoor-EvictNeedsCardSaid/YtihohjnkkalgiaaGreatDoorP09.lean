/- Parts of a proof, joined. -/
import Derived.Test.YtihohjnkkalgiaaGreatDoorP08
set_option linter.all false
set_option maxRecDepth 100000
set_option maxHeartbeats 4000000
open Go
namespace Dem
section
variable {P:Program} {T:Nat→Option TI} {G:Nat→Option (List D)} {N:Nat} {ds:List Deferred} {X:Nat→Prop}
variable {β0:Nat→Nat} {aI:List ay} {w0:World}
theorem JD {ops:Array Oper} (hfit:gr ops (cD ops.toList []) 0 ops.toList=true) {m:Nat→Bool} (hd:Down ops m) {i j:Nat} {o p:Oper} (ho:ops[i]?=some o) (hp:ops[j]?=some p)
 (vM:m i=false) (To:∀e∈o.after,Region.binds .any e=true→m e.on=true) (hj:(j<i∧m j=false)∨(i<j∧m j=true)):
 (∀d,p.dst=some d→d ∉ o.looksAt ops)∧(∀d,p.dst=some d→o.dst≠some d):=by
 rcases hj with ⟨hlt,Wg⟩|⟨hlt,Wg⟩
 ·have h:=(kF hfit i o (by simpa using ho)).2 j (by omega)
  rw [Nat.zero_add] at h
  rcases h with h|⟨p',hp',h⟩
  ·have:=closed hd i o ho To j h;rw [Wg] at this;cases this
  rw [hp] at hp';cases hp'
  obtain ⟨h1,h2,h3⟩:=Oper.apart_spec h
  exact ⟨h1,h2⟩
 have h:=(kF hfit j p (by simpa using hp)).2 i (by omega)
 rw [Nat.zero_add] at h
 rcases h with h|⟨o',ho',h⟩
 ·have:=closed hd j p hp (hd j p hp Wg) i h;rw [vM] at this;cases this
 rw [ho] at ho';cases ho'
 obtain ⟨h1,h2,h3⟩:=Oper.apart_spec h
 exact ⟨h3,fun d Rw he=>h2 d he Rw⟩
theorem yb {m:Nat→Bool}:∀(cA:List It) (i:Nat) (sl:List (Nat×AV)),(∀j,j<cA.length→m (i+j)=false)→dn m i cA sl=sl
 |[],_,_,_=>rfl
 |it::r,i,sl,h=>by
  have h0:=h 0 (by simp)
  rw [Nat.add_zero] at h0
  simp only [dn,h0,cond_false]
  exact yb r (i+1) sl (fun j hj=>by have:=h (j+1) (by simpa using hj);rw [show i+1+j=i+(j+1) by omega];exact this)
theorem yc {m:Nat→Bool}:∀(cA:List It) (i:Nat) (bx:List ay),(∀j,j<cA.length→m (i+j)=false)→eR m i cA bx=bx
 |[],_,_,_=>rfl
 |it::r,i,bx,h=>by
  have h0:=h 0 (by simp)
  rw [Nat.add_zero] at h0
  simp only [eR,h0,cond_false]
  exact yc r (i+1) bx (fun j hj=>by have:=h (j+1) (by simpa using hj);rw [show i+1+j=i+(j+1) by omega];exact this)
theorem L5 (hT:jL P T) {ops:Array Oper} (hfit:gr ops (cD ops.toList []) 0 ops.toList=true) {base:Nat} {Q:Ex→St→Prop}:
 ∀(fuel:Nat) (listed:Array Bool) (p k:Nat) (cA:List It) (s0:St) (β:Nat→Nat) (w:World) (a:Act),listed.size=ops.size→Down ops (at_ listed)→(∀x,x<p→at_ listed x=true)→(∀x,p+cA.length≤x→at_ listed x=false)→
  listed.toList.count false=fuel→p+cA.length≤ops.size→jV (base+k) cA→
  (∀j it,cA[j]?=some it→∃o,ops[p+j]?=some o∧gx N o.dst=true∧it.dst=o.dst∧QL (bA P G) T G ops.toList o (dn tt p (cA.take j) s0.sl) s0.bx it)→
  ((
   p+cA.length=ops.size∧Q .normal ⟨dn tt p cA s0.sl,eR tt p cA s0.bx⟩)∨
   (∃k' o rest,ops.toList.drop (p+cA.length)=o::rest∧barrier (cD ops.toList []) (p+cA.length)=true∧gx N o.dst=true∧
    mK (bA P G) T G N ops.toList (cD ops.toList []) base s0.bx k' (p+cA.length) (o::rest) Q ⟨dn tt p cA s0.sl,eR tt p cA s0.bx⟩))→
  Ext β0 aI w0 β (eR (at_ listed) p cA s0.bx) w→Fr G N ds β w X ⟨dn (at_ listed) p cA s0.sl,eR (at_ listed) p cA s0.bx⟩ a→
  wpAny P .any ops (fX G N ds X β0 aI w0 Q) fuel listed a w:=by
 intro fuel
 induction fuel with
 |zero=>
  intro listed p k cA s0 β w a hsz hdn hlo hhi TQ hle vn hit hend ex hF
  have hall:∀x,x<ops.size→at_ listed x=true:=by
   intro x hx
   have:=x8 listed.toList TQ x (by simpa [hsz] using hx)
   unfold at_
   have h2:listed[x]?=some true:=by simpa using this
   simp [Array.getD_eq_getD_getElem?,h2]
  have hfull:p+cA.length=ops.size:=by
   rcases Nat.lt_or_ge (p+cA.length) ops.size with h|h
   ·have h1:=hall _ h;rw [hhi _ (Nat.le_refl _)] at h1;cases h1
   omega
  refine ⟨?_,?_⟩
  ·rw [List.eq_nil_iff_forall_not_mem]
   intro j hj
   obtain ⟨h1,o,h2,_⟩:=mem_ready.1 hj
   have hjl:j<ops.size:=(Array.getElem?_eq_some_iff.1 h2).1
   have:=hall j hjl
   unfold at_ at this
   simp only [Array.getD_eq_getD_getElem?] at this h1
   cases hq:listed[j]? with
   |none=>rw [hq] at this;simp at this
   |some v=>rw [hq] at this h1;simp at this h1;rw [this] at h1;cases h1
  rcases hend with ⟨_,hQ⟩|⟨k',o,rest,TR,_⟩
  ·have e1:=jU (m:=at_ listed) (m':=tt) cA p s0.sl (fun j hj=>hall _ (by omega))
   have e2:=mc (m:=at_ listed) (m':=tt) cA p s0.bx (fun j hj=>hall _ (by omega))
   rw [e1,e2] at hF;rw [e2] at ex
   exact ⟨β,_,ex,hF,hQ⟩
  rw [List.drop_eq_nil_of_le (by simp;omega)] at TR;cases TR
 |succ fuel ih=>
  intro listed p k cA s0 β w a hsz hdn hlo hhi TQ hle vn hit hend ex hF
  refine ⟨?_,?_⟩
  ·intro hr
   exfalso
   have key:∀x,x<ops.size→at_ listed x=true:=by
    intro x
    induction x using Nat.strongRecOn with
    |_ x Zd=>
     intro hx
     cases hq:at_ listed x with
     |true=>rfl
     |false=>
      exfalso
      have ho:ops[x]?=some ops[x]:=by simp [hx]
      have hp:=(kF hfit x ops[x] (by simp [hx])).1
      have:x∈Region.ready .any ops listed:=by
       refine mem_ready.2 ⟨?_,ops[x],ho,fun e he hb=>?_⟩
       ·unfold at_ at hq
        have hx':x<listed.size:=by omega
        simp [hx'] at hq ⊢;exact hq
       have:=hp e he hb
       exact Zd e.on (by omega) (by omega)
      rw [hr] at this;cases this
   have:listed.toList.count false=0:=by
    rw [List.count_eq_zero]
    intro hm
    obtain ⟨x,hx⟩:=List.mem_iff_getElem?.1 hm
    have Lc:x<listed.toList.length:=by
     rcases Nat.lt_or_ge x listed.toList.length with h|h
     ·exact h
     rw [List.getElem?_eq_none h] at hx;cases hx
    have:=key x (by simpa [hsz] using Lc)
    unfold at_ at this
    have h2:listed[x]?=some false:=by simpa using hx
    simp [Array.getD_eq_getD_getElem?,h2] at this
   omega
  intro i hi
  obtain ⟨hi1,o,ho,hp⟩:=mem_ready.1 hi
  have hin:i<ops.size:=(Array.getElem?_eq_some_iff.1 ho).1
  have hil:i<listed.size:=by omega
  have vM:at_ listed i=false:=by
   unfold at_
   simp [hil] at hi1 ⊢;exact hi1
  have To:∀e∈o.after,Region.binds .any e=true→at_ listed e.on=true:=hp
  have hpi:p≤i:=by
   rcases Nat.lt_or_ge i p with h|h
   ·rw [hlo i h] at vM;cases vM
   exact h
  have OI:(listed.setIfInBounds i true).size=ops.size:=by simp [hsz]
  have TS:Down ops (at_ (listed.setIfInBounds i true)):=by
   intro x ox Wh hx e he hb
   rw [rA hil]
   by_cases Yi:e.on=i
   ·simp [Yi]
   rw [if_neg Yi]
   rw [rA hil] at hx
   by_cases Yj:x=i
   ·subst Yj;rw [ho] at Wh;cases Wh;exact To e he hb
   rw [if_neg Yj] at hx;exact hdn x ox Wh hx e he hb
  have QM:(listed.setIfInBounds i true).toList.count false=fuel:=by
   have h2:listed.toList[i]?=some false:=by
    unfold at_ at vM
    simp [hil] at vM
    simp [hil,vM]
   have:=count_set listed.toList i h2
   rw [Array.toList_setIfInBounds]
   omega
  rcases Nat.lt_or_ge i (p+cA.length) with hlt|hge
  ·
   obtain ⟨j,rfl⟩:∃j,i=p+j:=⟨i-p,by omega⟩
   have hj:j<cA.length:=by omega
   have Tp:cA[j]?=some cA[j]:=by simp [hj]
   obtain ⟨o',ho',hd,DU,hy⟩:=hit j _ Tp
   rw [ho] at ho';cases ho'
   have hun:∀(j:Nat) (it:It) (y:Nat) (cs:ay),cA[j]?=some it→it.bi=some (y,cs)→s0.bx[y]?=some .bt:=by
    intro j' it' y cs hj' hb
    obtain ⟨_,_,_,_,h|h|h⟩:=hit j' it' hj'
    ·obtain ⟨x,cs',h1,h2,_⟩:=h
     rw [h1] at hb;cases hb;exact h2
    ·rw [h.1] at hb;cases hb
    rw [h.1] at hb;cases hb
   have Gh:∀(j':Nat) (it':It),cA[j']?=some it'→((j'<j∧at_ listed (p+j')=false)∨(j<j'∧at_ listed (p+j')=true))→
    (∀d,it'.dst=some d→d ∉ o.looksAt ops)∧(∀d,it'.dst=some d→o.dst≠some d):=by
    intro j' it' hj' hc
    obtain ⟨p',hp',_,TU,_⟩:=hit j' it' hj'
    rw [TU]
    exact JD hfit hdn ho hp' vM To (hc.imp (fun h=>⟨by omega,h.2⟩) (fun h=>⟨by omega,h.2⟩))
   have TV:∀t∈o.looksAt ops,fU t (dn tt p (cA.take j) s0.sl)=fU t (dn (at_ listed) p cA s0.sl):=by
    intro t ht
    have e:dn tt p (cA.take j) s0.sl=dn (fun x=>decide (x<p+j)) p cA s0.sl:=x5 cA p j s0.sl
    rw [e]
    refine oR cA p _ _ rfl ?_
    intro j' it' hj' hdt
    rcases Nat.lt_trichotomy j' j with h|h|h
    ·rw [decide_eq_true (by omega)]
     cases hq:at_ listed (p+j') with
     |true=>rfl
     |false=>exact absurd ht ((Gh j' it' hj' (.inl ⟨h,hq⟩)).1 t hdt)
    ·subst h
     rw [decide_eq_false (by omega),vM]
    rw [decide_eq_false (by omega)]
    cases hq:at_ listed (p+j') with
    |false=>rfl
    |true=>exact absurd ht ((Gh j' it' hj' (.inr ⟨h,hq⟩)).1 t hdt)
   have hy':=hy.z6 (bx:=eR (at_ listed) p cA s0.bx) TV (DT cA p s0.bx (kE.refl _) hun) (by
    intro x cs hb
    rw [AL cA p s0.bx ?_]
    ·exact hun j _ x cs Tp hb
    intro j' it' y cs' hj' hm hb'
    refine vn.apart hj' hb' Tp hb ?_
    rintro rfl
    rw [vM] at hm;cases hm)
   refine L2 hT ho hF hy' hd ?_
   intro β' a' w' qM TW
   have hm':∀x,x≠p+j→at_ (listed.setIfInBounds (p+j) true) x=at_ listed x:=fun x hx=>by rw [rA hil,if_neg hx]
   have hB:eR (at_ (listed.setIfInBounds (p+j) true)) p cA s0.bx=oQ cA[j] (eR (at_ listed) p cA s0.bx):=by
    refine x7 cA p j cA[j] s0.bx Tp vM (by rw [rA hil,if_pos rfl]) hm' ?_
    intro j' it' y cs x cs0 hj' hne hb' hb0
    exact vn.apart hj' hb' Tp hb0 hne
   refine ih _ p k cA s0 β' w' a' OI TS (fun x hx=>by rw [hm' x (by omega)];exact hlo x hx) (fun x hx=>by rw [hm' x (by omega)];exact hhi x hx) QM hle vn hit hend (by rw [hB];exact ex.trans qM) ?_
   rw [hB]
   refine TW.z6 (fun t=>?_)
   rw [←DU]
   refine (x6 cA p j cA[j] s0.sl Tp vM (by rw [rA hil,if_pos rfl]) hm' ?_).symm
   intro j' it' hj' hlt' hm d VD Rw
   rw [DU] at VD
   exact (Gh j' it' hj' (.inr ⟨hlt',hm⟩)).2 d Rw VD
  rcases hend with ⟨hfull,_⟩|⟨k',o',rest,TR,TX,hd,hop⟩
  ·omega
  obtain ⟨vz,sN⟩:=BY TX
  have Ze:i=p+cA.length:=by
   rcases Nat.lt_or_ge (p+cA.length) i with h|h
   ·have h1:=closed hdn i o ho To _ (sN i h (by rw [oT];simpa using hin))
    rw [hhi _ (Nat.le_refl _)] at h1;cases h1
   omega
  subst Ze
  have Zf:o'=o:=by
   have:=congrArg (fun l=>l[0]?) TR
   simp only [List.getElem?_drop,Nat.add_zero,List.getElem?_cons_zero] at this
   have h3:ops.toList[p+cA.length]?=ops[p+cA.length]?:=by simp
   rw [h3,ho] at this;cases this;rfl
  subst Zf
  have oa:rest=ops.toList.drop (p+cA.length+1):=by
   have:=congrArg (List.drop 1) TR
   simpa [List.drop_drop] using this.symm
  have hall:∀x,x<p+cA.length→at_ listed x=true:=fun x hx=>closed hdn _ o' ho To x (vz x hx)
  have e1:=jU (m:=at_ listed) (m':=tt) cA p s0.sl (fun j hj=>hall _ (by omega))
  have e2:=mc (m:=at_ listed) (m':=tt) cA p s0.bx (fun j hj=>hall _ (by omega))
  rw [e1,e2] at hF;rw [e2] at ex
  have next:∀(s1:St) (β':Nat→Nat) (w':World) (a':Act),mK (bA P G) T G N ops.toList (cD ops.toList []) base s1.bx k' (p+cA.length+1) rest Q s1→Ext β0 aI w0 β' s1.bx w'→Fr G N ds β' w' X s1 a'→
   wpAny P .any ops (fX G N ds X β0 aI w0 Q) fuel (listed.setIfInBounds (p+cA.length) true) a' w':=by
   intro s1 β' w' a' h1 xH FK
   obtain ⟨Ry,k1,g1,g2,g3,g4⟩:=ry _ _ _ _ h1
   have hlen:rest.length=ops.size-(p+cA.length+1):=by rw [oa];simp
   have uw:∀j:Nat,rest[j]?=ops[p+cA.length+1+j]?:=by intro j;rw [oa];simp
   have QN:∀x,p+cA.length+1≤x→at_ (listed.setIfInBounds (p+cA.length) true) x=false:=by
    intro x hx;rw [rA hil,if_neg (by omega)];exact hhi x (by omega)
   have f1:=yb (m:=at_ (listed.setIfInBounds (p+cA.length) true)) Ry (p+cA.length+1) s1.sl (fun j _=>QN _ (by omega))
   have f2:=yc (m:=at_ (listed.setIfInBounds (p+cA.length) true)) Ry (p+cA.length+1) s1.bx (fun j _=>QN _ (by omega))
   refine ih _ (p+cA.length+1) k' Ry s1 β' w' a' OI TS ?_ (fun x hx=>QN x (by omega)) QM (by omega) g1 ?_ ?_ (by rw [f2];exact xH) (by rw [f1,f2];exact FK)
   ·intro x hx
    rw [rA hil]
    by_cases Yk:x=p+cA.length
    ·simp [Yk]
    rw [if_neg Yk];exact hall x (by omega)
   ·intro j it hj
    obtain ⟨o2,q1,q2,q3,q4⟩:=g3 j it hj
    exact ⟨o2,by rw [←uw];exact q1,q2,q3,q4⟩
   rcases g4 with ⟨q1,q2⟩|⟨o2,TY,q1,q2,q3,q4⟩
   ·exact .inl ⟨by omega,q2⟩
   exact .inr ⟨k1,o2,TY,by rw [oa,List.drop_drop] at q1;exact q1,q2,q3,q4⟩
  unfold mK at hop
  simp only [hd,cond_true,TX] at hop
  unfold wpOp
  rw [ho]
  simp only
  split at hop
  ·rename_i hg
   rw [if_pos (by simp [Region.wanted,hg])]
   refine .inl (l8 hT hF hop ?_ ?_)
   ·intro β' aP w' v u qM lQ hv hK
    exact next ⟨ej o'.dst v _,aP⟩ β' w' _ hK (ex.trans qM) (hF.put qM lQ hd hv)
   intro β' aP w' v u qM lQ hv hK
   exact ⟨β',aP,v,u,rfl,ex.trans qM,lQ,hv,hF.defers,hK⟩
  rename_i j want hg
  split at hop
  ·rename_i g FJ
   have hy:=kD hF FJ
   cases g with
   |true=>
    rw [if_pos (by simp only [Region.wanted,hg];exact hy)]
    refine .inl (vE hT hF hop ?_)
    rintro β' aP w' v u qM lQ hv ⟨hK,rfl⟩
    refine next ⟨ej o'.dst (.cond true v) _,_⟩ β' w' _ hK (ex.trans qM) (hF.put qM lQ hd ?_)
    simp only [aj];exact ⟨fun _=>hv,by simp⟩
   |false=>
    rw [if_neg (by simp only [Region.wanted,hg];rw [hy];simp)]
    obtain ⟨v,hK⟩:=xT hop
    refine next ⟨ej o'.dst (.cond false v) _,_⟩ β w _ hK ex (hF.put (Ext.refl _ _ _) hF.cx hd ?_)
    simp only [aj];simp
  exact hop.elim
variable {β:Nat→Nat} {bx:List ay} {w:World}
theorem nI {n i:Nat} {b:ay} (h:(bx++List.replicate n .bt)[i]?=some b):bx[i]?=some b∨b=.bt:=by
 rcases Nat.lt_or_ge i bx.length with hl|hl
 ·rw [List.getElem?_append_left hl] at h;exact .inl h
 rw [List.getElem?_append_right hl,List.getElem?_replicate] at h
 split at h
 ·exact .inr (by simpa using h.symm)
 cases h
theorem rC (n:Nat):Ext β bx w β (bx++List.replicate n .bt) w:=by
 refine ⟨rfl,rfl,rfl,Nat.le_refl _,fun _ _ _=>rfl,fun _ c _ _ h=>⟨c,h,rfl⟩,?_,?_⟩
 ·rintro i ⟨b,h1,h2⟩
  exact ⟨rfl,b,by rw [List.getElem?_append_left (iH h1)];exact h1,h2⟩
 intro i b h hl
 rcases nI h with h1|rfl
 ·exact .inr ⟨i,b,h1,hl,rfl⟩
 simp [ay.live] at hl
theorem Gi (cx:cz G β bx w X) (n:Nat):cz G β (bx++List.replicate n .bt) w X:=by
 refine cx.step (rC n) ?_ ?_
 ·intro i b h
  rcases nI h with h1|rfl
  ·exact .inl ⟨h1,fun _=>rfl⟩
  exact .inr trv
 intro i j bi bj hi hj lR nE he
 rcases nI hi with h1|rfl<;>rcases nI hj with h2|rfl
 ·exact cx.inj i j bi bj h1 h2 lR nE he
 ·simp [ay.live] at nE
 ·simp [ay.live] at lR
 simp [ay.live] at lR
def jC (l l':List Oper):Prop:=l'.length=l.length∧∀(j:Nat) (o o':Oper),l[j]?=some o→l'[j]?=some o'→o'.op=o.op∧o'.dst=o.dst∧o'.guard=o.guard
theorem jC.tail {o o':Oper} {l l':List Oper} (h:jC (o::l) (o'::l')):jC l l':=⟨by simpa using h.1,fun j p p' h1 h2=>h.2 (j+1) p p' (by simpa using h1) (by simpa using h2)⟩
theorem z7 {ops ops':List Oper} (h:jC ops ops') (sl:List (Nat×AV)) (j:Nat) (want:Bool):guardOf sl ops' j want=guardOf sl ops j want:=by
 unfold guardOf
 cases ho:ops[j]? with
 |none=>
  have:ops'[j]?=none:=by rw [List.getElem?_eq_none_iff] at ho ⊢;rw [h.1];exact ho
  rw [this]
 |some o=>
  have hj:j<ops'.length:=by rw [h.1];exact (List.getElem?_eq_some_iff.1 ho).1
  have:=h.2 j o ops'[j] ho (List.getElem?_eq_getElem hj)
  rw [List.getElem?_eq_getElem hj]
  simp only
  rw [this.2.1]
theorem ye {FC:Nat→List AV→List ay→iy→List ay→Prop} {ops ops':List Oper} (Rz:jC ops ops') {b:List Nat} {base:Nat} {Q:Ex→St→Prop}:∀(l l':List Oper) (gD:List ay) (k i:Nat) (s:St),jC l l'→mK FC T G N ops' b base gD k i l' Q s=mK FC T G N ops b base gD k i l Q s
 |[],[],_,_,_,_,_=>rfl
 |[],_::_,_,_,_,_,h=>by have:=h.1;simp at this
 |_::_,[],_,_,_,_,h=>by have:=h.1;simp at this
 |o::l,o'::l',gD,k,i,s,h=>by
  obtain ⟨e1,e2,e3⟩:=h.2 0 o o' rfl rfl
  have hb:gL T G s.sl o'=gL T G s.sl o:=by unfold gL;rw [e1,e3]
  have hu:∀s K Q,oC FC T G o' s K Q=oC FC T G o s K Q:=fun s K Q=>by unfold oC;rw [e1]
  have hg:∀g s K,stepG FC T G g o' s K=stepG FC T G g o s K:=fun g s K=>by unfold stepG uh;rw [e1]
  have hc:∀sl gD x K,kV FC G o' sl gD x K=kV FC G o sl gD x K:=fun sl gD x K=>by unfold kV;rw [e1]
  have ih:=fun gD k i s=>ye (FC:=FC) (ops:=ops) (ops':=ops') Rz (b:=b) (base:=base) (Q:=Q) l l' gD k i s h.tail
  simp only [mK,e2,e3,hb,hu,hg,hc,ih,z7 Rz]
theorem DY (pre:List Nat) (l:List Oper):jC l (bW pre 0 l):=by
 refine ⟨jN pre l 0,fun j o o' h1 h2=>?_⟩
 rw [lD,h1] at h2
 simp only [Option.map_some,osI] at h2
 subst h2
 obtain ⟨e1,e2,e3,_⟩:=kG pre (0+j) o
 exact ⟨e1,e2,e3⟩
theorem uC (a:Array Oper) (late:List Nat):∀(l:List Oper) (i j:Nat),(gC a late i l)[j]?=(l[j]?).map (jK a late (i+j))
 |[],_,_=>by simp [gC]
 |o::r,i,0=>by simp [gC]
 |o::r,i,j+1=>by
  simp only [gC,List.getElem?_cons_succ]
  rw [uC a late r (i+1) j,show i+1+j=i+(j+1) by omega]
theorem nJ (a:Array Oper) (late:List Nat):∀(l:List Oper) (i:Nat),(gC a late i l).length=l.length
 |[],_=>rfl
 |o::r,i=>by simp [gC,nJ a late r]
theorem qd (a:Array Oper):∀(l:List Oper) (i:Nat),gC a [] i l=l
 |[],_=>rfl
 |o::r,i=>by simp only [gC,qd a r];simp [jK]
theorem Gj (a:Array Oper) (late:List Nat) (l:List Oper):jC l (gC a late 0 l):=by
 refine ⟨nJ a late l 0,fun j o o' h1 h2=>?_⟩
 rw [uC,h1] at h2
 simp only [Option.map_some,osI] at h2
 subst h2
 obtain ⟨x,e⟩:=kH a late (0+j) o
 rw [e];exact ⟨rfl,rfl,rfl⟩
theorem jC.trans {l l' l'':List Oper} (h:jC l l') (g:jC l' l''):jC l l'':=by
 refine ⟨g.1.trans h.1,fun j o Zg h1 h2=>?_⟩
 have hj:j<l'.length:=by rw [h.1];exact (List.getElem?_eq_some_iff.1 h1).1
 obtain ⟨a1,a2,a3⟩:=h.2 j o l'[j] h1 (List.getElem?_eq_getElem hj)
 obtain ⟨b1,b2,b3⟩:=g.2 j l'[j] Zg (List.getElem?_eq_getElem hj) h2
 exact ⟨b1.trans a1,b2.trans a2,b3.trans a3⟩
theorem nK (ops:Array Oper):∀(pre done:List Nat),iB ops done pre=true→pre.Nodup∧(∀p∈pre,p ∉ done)∧∀p∈pre,p<ops.size
 |[],_,_=>⟨List.nodup_nil,by simp,by simp⟩
 |p::r,done,h=>by
  unfold iB at h
  cases ho:ops[p]? with
  |none=>simp [ho] at h
  |some o=>
   simp only [ho,Bool.and_eq_true] at h
   obtain ⟨⟨⟨⟨f1,_⟩,_⟩,_⟩,f5⟩:=h
   obtain ⟨g1,g2,g3⟩:=nK ops r _ f5
   refine ⟨List.nodup_cons.2 ⟨fun hp=>g2 p hp (by simp),g1⟩,?_,?_⟩
   ·intro q hq;rcases List.mem_cons.1 hq with rfl|hq
    ·simpa using f1
    exact fun hh=>g2 q hq (by simp [hh])
   intro q hq;rcases List.mem_cons.1 hq with rfl|hq
   ·exact (Array.getElem?_eq_some_iff.1 ho).1
   exact g3 q hq
theorem DZ (t u:Nat) (v:AV):∀l:List (Nat×AV),fU t (Ou u v l)=bif Nat.beq t u then v else fU t l
 |[]=>rfl
 |(s,x)::r=>by
  simp only [Ou]
  cases h1:Nat.beq u s with
  |true=>
   have:=Nat.eq_of_beq_eq_true h1;subst this
   simp only [cond_true,fU]
   cases Nat.beq t u<;>rfl
  |false=>
   simp only [cond_false]
   cases h2:Nat.blt u s with
   |true=>rfl
   |false=>
    simp only [cond_false,fU]
    rw [DZ t u v r]
    cases h3:Nat.beq t s with
    |false=>simp
    |true=>
     have:=Nat.eq_of_beq_eq_true h3;subst this
     have:Nat.beq t u=false:=by
      cases h:Nat.beq t u with
      |false=>rfl
      |true=>have:=Nat.eq_of_beq_eq_true h;subst this;rw [h] at h1;cases h1
     simp [this]
theorem yf (t:Nat):∀l:List (Nat×AV),fU t (zX l)=fU t l
 |[]=>rfl
 |(u,v)::r=>by rw [zX,DZ,yf t r];rfl
section
variable {N:Nat} {ds:List Deferred} {X:Nat→Prop} {β0:Nat→Nat} {aI:List ay} {w0:World}
theorem oU (hT:jL P T) {ops ops':Array Oper} {pre:List Nat} (D1:mR pre ops ops') {QQ:Exit→Act→World→Prop} {Q:Ex→St→Prop} {i:Nat} {KS:St→Prop} {NX:Act→World→Prop} {β:Nat→Nat} {w:World} {s:St} {a:Act} (ex:Ext β0 aI w0 β s.bx w) (hF:Fr G N ds β w X s a)
 (hp:∀β bx v u w a,Ext β0 aI w0 β bx w→cz G β bx w X→aj β bx w (bc β bx w X) v u→a.defers=ds→Q (.panic v) ⟨[],bx⟩→QQ (.panic [{v:=u,recovered:=false}]) a w)
 (h:vi (bA P G) T G N ops.toList i KS Q s) (hn:∀β w s a,Ext β0 aI w0 β s.bx w→Fr G N ds β w X s a→KS s→NX a w):wpOp P ops' QQ i NX a w:=by
 rw [rB D1]
 unfold vi at h
 unfold wpOp
 simp only [Array.getElem?_toList] at h
 cases ho:ops[i]? with
 |none=>rw [ho] at h;exact h.elim
 |some o=>
  rw [ho] at h
  simp only at h ⊢
  cases hd:gx N o.dst with
  |false=>rw [hd] at h;exact h.elim
  |true=>
   rw [hd] at h
   simp only [cond_true] at h
   have Jl:∀{s1:St},s1=s→LS G β s1.bx w X a (fun v bx=>Q (.panic v) ⟨[],bx⟩) QQ:=fun e β' aP w' v u qM lQ hv hK=>by subst e;exact hp β' aP v u w' a (ex.trans qM) lQ hv hF.defers hK
   split at h
   ·rename_i hg
    rw [if_pos (by unfold Region.wanted;rw [hg])]
    exact .inl (l8 hT hF h (fun β' aP w' v u qM lQ hv hK=>hn β' w' ⟨ej o.dst v s.sl,aP⟩ _ (ex.trans qM) (hF.put qM lQ hd hv) hK) (Jl rfl))
   rename_i j want hg
   split at h
   ·rename_i g FJ
    have hy:=kD hF FJ
    obtain ⟨h⟩:=h
    cases g with
    |true=>
     rw [if_pos (by simp only [Region.wanted,hg];exact hy)]
     refine .inl (l8 hT hF (h.1 rfl) (fun β' aP w' v u qM lQ hv hK=>hn β' w' ⟨ej o.dst (.cond true v) s.sl,aP⟩ _ (ex.trans qM) (hF.put qM lQ hd ?_) hK) (Jl rfl))
     simp only [aj];exact ⟨fun _=>hv,by simp⟩
    |false=>
     rw [if_neg (by simp only [Region.wanted,hg];rw [hy];simp)]
     refine hn β w ⟨ej o.dst (.cond false .any) s.sl,s.bx⟩ _ ex (hF.put (Ext.refl _ _ _) hF.cx hd ?_) (h.2 rfl)
     simp only [aj];simp
   exact h.elim
theorem sZ (hT:jL P T) {ops ops':Array Oper} {pre:List Nat} (D1:mR pre ops ops') {R:St→Prop} {QQ:Exit→Act→World→Prop} {Q:Ex→St→Prop}
 (hp:∀β bx v u w a,Ext β0 aI w0 β bx w→cz G β bx w X→aj β bx w (bc β bx w X) v u→a.defers=ds→Q (.panic v) ⟨[],bx⟩→QQ (.panic [{v:=u,recovered:=false}]) a w)
 (hR:∀β w s a,Ext β0 aI w0 β s.bx w→Fr G N ds β w X s a→R s→QQ .normal a w):∀(tr:OT) (n:Nat) (listed:Array Bool) (β:Nat→Nat) (w:World) (s:St) (a:Act),Ext β0 aI w0 β s.bx w→Fr G N ds β w X s a→
  Jn (bA P G) T G N ops.toList Q R tr s→tr.depth≤n→
  (tr.fit ops' true listed=true→wpAny P .any ops' QQ n listed a w)∧
  (tr.fit ops' false listed=true→∀i∈tr.HW,wpOp P ops' QQ i (wpAny P .any ops' QQ (n-1) (listed.setIfInBounds i true)) a w)
 |.done,n,listed,β,w,s,a,ex,hF,h,_=>by
  refine ⟨fun hf=>?_,fun _ i hi=>by cases hi⟩
  simp only [OT.fit,Bool.not_true,Bool.false_or] at hf
  exact wpAny_done (List.isEmpty_iff.1 hf) (hR β w s a ex hF h) n
 |.one i o,n,listed,β,w,s,a,ex,hF,h,hd=>by
  simp only [OT.depth] at hd
  obtain ⟨m,rfl⟩:∃m,n=m+1:=⟨n-1,by omega⟩
  have key:o.fit ops' true (listed.setIfInBounds i true)=true→wpOp P ops' QQ i (wpAny P .any ops' QQ m (listed.setIfInBounds i true)) a w:=fun hf=>
   oU hT D1 ex hF hp h fun β w s a ex hF hK=>(sZ hT D1 hp hR o m _ β w s a ex hF hK (by omega)).1 hf
  refine ⟨fun hf=>?_,fun hf j hj=>?_⟩
  ·simp only [OT.fit,Bool.not_true,Bool.false_or,Bool.and_eq_true,beq_iff_eq] at hf
   exact wpAny_all hf.1 (by simp) fun j hj=>by simp at hj;subst hj;exact key hf.2
  simp only [OT.fit,Bool.not_false,Bool.true_or,Bool.true_and] at hf
  simp only [OT.HW,List.mem_singleton] at hj
  subst hj;exact key hf
 |.more i o r,n,listed,β,w,s,a,ex,hF,h,hd=>by
  simp only [OT.depth] at hd
  obtain ⟨m,rfl⟩:∃m,n=m+1:=⟨n-1,by omega⟩
  have key:o.fit ops' true (listed.setIfInBounds i true)=true→wpOp P ops' QQ i (wpAny P .any ops' QQ m (listed.setIfInBounds i true)) a w:=fun hf=>
   oU hT D1 ex hF hp h.1 fun β w s a ex hF hK=>(sZ hT D1 hp hR o m _ β w s a ex hF hK (by omega)).1 hf
  have rest:=(sZ hT D1 hp hR r (m+1) listed β w s a ex hF h.2 (by omega)).2
  refine ⟨fun hf=>?_,fun hf j hj=>?_⟩
  ·simp only [OT.fit,Bool.not_true,Bool.false_or,Bool.and_eq_true,beq_iff_eq] at hf
   refine wpAny_all hf.1 (by simp) fun j hj=>?_
   rcases List.mem_cons.1 hj with rfl|hj
   ·exact key hf.2.1
   exact rest hf.2.2 j hj
  simp only [OT.fit,Bool.not_false,Bool.true_or,Bool.true_and,Bool.and_eq_true] at hf
  rcases List.mem_cons.1 hj with rfl|hj
  ·exact key hf.1
  exact rest hf.2 j hj
end
theorem D2 (hT:jL P T) (hm:P.follows .mixedOrders=true) {N:Nat} {ds:List Deferred} {X:Nat→Prop} {β0:Nat→Nat} {aI:List ay} {w0:World} {id:Nat} {eS:Array Oper} {Q:Ex→St→Prop} {β:Nat→Nat} {w:World} {s:St} {a:Act} (ex:Ext β0 aI w0 β s.bx w) (hF:Fr G N ds β w X s a)
 (h:QA (bA P G) T G N eS.toList Q s):(Code.region id eS true).wp P (fX G N ds X β0 aI w0 Q) a w:=by
 obtain ⟨pre,tr,s1,⟨LJ,LB,Wi⟩,hft,hx,hpost⟩:=h
 unfold OT.fits at hft
 rw [Bool.and_eq_true] at hft
 simp only [Array.length_toList] at hft
 refine wp_region_any hm ?_
 have D1:mR pre eS (bW pre 0 eS.toList).toArray:=by intro j;simp [lD]
 have hsame:=eW w
 have L6:Fr G N ds β {w with drawn:=w.drawn+1} X s a:=⟨oE hF.cx hsame,hF.defers,hF.size,fun t=>aj.mono ((iD hsame).eN X) _ _ (hF.xP t)⟩
 have hgoal:=(sZ (X:=X) hT D1 (QQ:=fX G N ds X β0 aI w0 Q) (fun β bx v u w a ex cx hv hd hq=>⟨β,bx,v,u,rfl,ex,cx,hv,hd,hq⟩) (fun β w s a ex hF hR=>by
  subst hR
  exact ⟨β,⟨zX s.sl,s.bx⟩,ex,hF.z6 fun t=>(yf t s.sl).symm,hpost⟩) tr eS.size (Array.replicate eS.size false) β _ s a (ex.trans (iD hsame)) L6 hx (Nat.le_of_ble_eq_true hft.1)).1 hft.2
 have L7:iB eS [] pre=true:=by simpa using LJ
 obtain ⟨n1,n2,n3⟩:=nK _ _ _ L7
 have hle:pre.length≤eS.size:=by
  have:=List.Nodup.length_le_of_subset n1 (fun p hp=>List.mem_range.2 (n3 p hp):pre ⊆ List.range eS.size)
  simpa using this
 obtain ⟨fuel,hfuel⟩:∃fuel,eS.size=pre.length+fuel:=⟨eS.size-pre.length,by omega⟩
 rw [hfuel] at hgoal ⊢
 have uw:∀p,p<pre.length+fuel→(Array.replicate (pre.length+fuel) false).getD p true=false:=by intro p hp;simp [hp]
 refine uA (G:=G) (N:=N) D1 (by simpa using LB) ?_ fuel _ pre [] _ a s.sl L7 Wi ?_ hF.size (by simp) (fun p hp _=>uw p (by have:=n3 p hp;omega)) (fun p hp=>.inr hp) (fun p hp=>hp) (by simp [hfuel]) n1 hgoal
 ·intro c a a' w ha hq
  simp only [fX] at hq ⊢
  obtain ⟨β,bx,v,u,h1,h2,h3,h4,h5,h6⟩:=hq
  exact ⟨β,bx,v,u,h1,h2,h3,h4,ha.symm.trans h5,h6⟩
 intro t k z hk
 have:=hF.xP t
 rw [hk] at this
 simpa only [aj,aF] using this
section
variable {P:Program} {T:Nat→Option TI} {G:Nat→Option (List D)} {N:Nat} {ds:List Deferred} {X:Nat→Prop}
variable {β0:Nat→Nat} {aI:List ay} {w0:World}
theorem L8:∀{l m:List Bool},Te l m=true→l=m
 |[],[],_=>rfl
 |a::l,b::m,h=>by
  simp only [Te,Bool.and_eq_true,beq_iff_eq] at h
  rw [h.1,L8 h.2]
 |[],_::_,h=>by simp [Te] at h
 |_::_,[],h=>by simp [Te] at h
theorem D3 {k i:Nat}:∀{l:List (Nat×Nat)},Ln k i l=true→(k,i)∈l
 |[],h=>by simp [Ln] at h
 |(p,j)::r,h=>by
  simp only [Ln,Bool.or_eq_true,Bool.and_eq_true,Nat.beq_eq] at h
  rcases h with ⟨rfl,rfl⟩|h
  ·exact List.mem_cons_self ..
  exact List.mem_cons_of_mem _ (D3 h)
theorem B4 {ops:Array Oper} {pl:List Nd} {z:Nat}:∀{l:List Nd} {k j:Nat} {nd:Nd},Lo ops pl z k l=true→l[j]?=some nd→
 (Region.ready .any ops nd.ls.toArray=[]∧k+j=z)∨(Region.ready .any ops nd.ls.toArray≠[]∧∀i∈Region.ready .any ops nd.ls.toArray,i<nd.ls.length∧nd.ls[i]?=some false∧∃e∈pl,e.ls=nd.ls.set i true∧(k+j,i)∈e.ps)
 |[],_,_,_,_,h=>by simp at h
 |x::l,k,0,nd,h,hj=>by
  simp only [List.getElem?_cons_zero,osI] at hj
  subst hj
  simp only [Lo,Bool.and_eq_true] at h
  have h:=h.1
  split at h
  ·rename_i g;exact .inl ⟨g,by simpa using Nat.eq_of_beq_eq_true h⟩
  rename_i rs g
  refine .inr ⟨fun e=>g e,fun i hi=>?_⟩
  have:=List.all_eq_true.1 h i hi
  simp only [Bool.and_eq_true,beq_iff_eq,List.any_eq_true] at this
  obtain ⟨⟨h1,h2⟩,e,he,h3,h4⟩:=this
  have h1:i<x.ls.length:=Nat.le_of_ble_eq_true h1
  refine ⟨h1,?_,e,he,L8 h3,D3 h4⟩
  rw [List.getD_eq_getElem?_getD,List.getElem?_eq_getElem h1] at h2
  rw [List.getElem?_eq_getElem h1]
  simpa using h2
 |x::l,k,j+1,nd,h,hj=>by
  simp only [List.getElem?_cons_succ] at hj
  simp only [Lo,Bool.and_eq_true] at h
  have:=B4 h.2 hj
  rw [show k+(j+1)=k+1+j by omega]
  exact this
theorem D4 {FC:Nat→List AV→List ay→iy→List ay→Prop} {ops:List Oper} {Q:Ex→St→Prop} {S:List St} {s s0:St} {p i:Nat}:∀{l:List (Nat×Nat)},C5 FC T G N ops Q S s l→(p,i)∈l→S[p]?=some s0→vi FC T G N ops i (fun s1=>(⟨zX s1.sl,s1.bx⟩:St)=s) Q s0
 |[],_,h,_=>by simp at h
 |(q,j)::r,h,hm,hs=>by
  rcases List.mem_cons.1 hm with e|hm
  ·obtain ⟨rfl,rfl⟩:=Prod.mk.inj e
   have:=h.1
   rw [hs] at this
   exact this
  exact D4 h.2 hm hs
theorem Im {FC:Nat→List AV→List ay→iy→List ay→Prop} {ops:List Oper} {Q:Ex→St→Prop} {S:List St}:∀{l:List Nd} {k j:Nat} {nd:Nd},allM FC T G N ops Q S k l→l[j]?=some nd→∃s,S[k+j]?=some s∧C5 FC T G N ops Q S s nd.ps
 |[],_,_,_,_,h=>by simp at h
 |x::l,k,0,nd,h,hj=>by
  simp only [List.getElem?_cons_zero,osI] at hj
  subst hj
  have:=h.1
  split at this
  ·rename_i s g;exact ⟨s,g,this⟩
  exact this.elim
 |x::l,k,j+1,nd,h,hj=>by
  simp only [List.getElem?_cons_succ] at hj
  obtain ⟨s,g1,g2⟩:=Im h.2 hj
  exact ⟨s,by rw [←g1];congr 1;omega,g2⟩
theorem rD:∀{l:List Bool} {i:Nat},l[i]?=some false→(l.set i true).count false+1=l.count false
 |[],_,h=>by simp at h
 |a::l,0,h=>by
  simp only [List.getElem?_cons_zero,osI] at h
  subst h
  simp
 |a::l,i+1,h=>by
  simp only [List.getElem?_cons_succ] at h
  have:=rD h
  simp only [List.set_cons_succ,List.count_cons]
  omega
theorem L9 (hT:jL P T) {ops:Array Oper} {pl:List Nd} {S:List St} {QQ:Exit→Act→World→Prop} {Q:Ex→St→Prop} (D1:mR [] ops ops) (hfit:C4 ops pl=true)
 (hp:∀β bx v u w a,Ext β0 aI w0 β bx w→cz G β bx w X→aj β bx w (bc β bx w X) v u→a.defers=ds→Q (.panic v) ⟨[],bx⟩→QQ (.panic [{v:=u,recovered:=false}]) a w)
 (hm:allM (bA P G) T G N ops.toList Q S 1 pl)
 (hR:∀β w s a,Ext β0 aI w0 β s.bx w→Fr G N ds β w X s a→S[pl.length]?=some s→QQ .normal a w):∀(n k:Nat) (nd:Nd) (s:St) (β:Nat→Nat) (w:World) (a:Act),
  (⟨List.replicate ops.size false,[]⟩::pl:List Nd)[k]?=some nd→S[k]?=some s→Ext β0 aI w0 β s.bx w→Fr G N ds β w X s a→nd.ls.count false≤n→wpAny P .any ops QQ n nd.ls.toArray a w:=by
 intro n
 induction n with
 |zero=>
  intro k nd s β w a hk hs ex hF hc
  rcases B4 hfit hk with ⟨h1,h2⟩|⟨h1,h2⟩
  ·rw [Nat.zero_add] at h2;subst h2
   exact wpAny_done h1 (hR β w s a ex hF hs) 0
  exfalso
  obtain ⟨i,hi⟩:=List.exists_mem_of_ne_nil _ h1
  have:=rD (h2 i hi).2.1
  omega
 |succ n ih=>
  intro k nd s β w a hk hs ex hF hc
  rcases B4 hfit hk with ⟨h1,h2⟩|⟨h1,h2⟩
  ·rw [Nat.zero_add] at h2;subst h2
   exact wpAny_done h1 (hR β w s a ex hF hs) (n+1)
  refine wpAny_all rfl h1 fun i hi=>?_
  obtain ⟨g1,g2,e,he,g3,g4⟩:=h2 i hi
  rw [Nat.zero_add] at g4
  obtain ⟨j,hj⟩:=List.getElem?_of_mem he
  obtain ⟨s',q1,q2⟩:=Im hm hj
  have hst:=D4 q2 g4 hs
  refine oU hT D1 ex hF hp hst fun β w s1 a ex hF hK=>?_
  subst hK
  have:=ih (1+j) e ⟨zX s1.sl,s1.bx⟩ β w a (by rw [Nat.add_comm];simpa using hj) q1 ex (hF.z6 fun t=>(yf t s1.sl).symm) (by rw [g3];have:=rD g2;omega)
  rw [g3] at this
  simpa using this
theorem AN (ks:List Nat) (t:Nat):∀l:List (Nat×AV),fU t (vj ks l)=bif ks.contains t then fU t l else .any
 |[]=>by simp [vj,fU]
 |(u,v)::r=>by
  have ih:=AN ks t r
  simp only [vj]
  cases h:Nat.beq t u with
  |true=>
   have:=Nat.eq_of_beq_eq_true h;subst this
   cases hk:ks.contains t with
   |true=>simp [fU]
   |false=>rw [cond_false,ih,hk];rfl
  |false=>
   cases hk:ks.contains u with
   |true=>simp only [cond_true,fU,h,cond_false];exact ih
   |false=>simp only [cond_false,fU,h];exact ih
theorem Fr.wD {N:Nat} {ds:List Deferred} {X:Nat→Prop} {β:Nat→Nat} {w:World} {s:St} {a:Act} (hF:Fr G N ds β w X s a) (ks:List Nat):Fr G N ds β w X ⟨vj ks s.sl,s.bx⟩ a:=
 ⟨hF.cx,hF.defers,hF.size,fun t=>by
  simp only [AN]
  cases ks.contains t with
  |true=>exact hF.xP t
  |false=>simp only [cond_false,aj]⟩
theorem D5 (hT:jL P T) (hm:P.follows .mixedOrders=true) {id:Nat} {eS:Array Oper} {Q:Ex→St→Prop} {β:Nat→Nat} {w:World} {s:St} {a:Act} (ex:Ext β0 aI w0 β s.bx w) (hF:Fr G N ds β w X s a)
 (h:QB (bA P G) T G N eS.toList Q s):(Code.region id eS true).wp P (fX G N ds X β0 aI w0 Q) a w:=by
 obtain ⟨pl,S,s1,s0,h1,⟨h2,h0⟩,h3,h4,h5⟩:=h
 obtain ⟨eb,hF⟩:s0.bx=s.bx∧Fr G N ds β w X s0 a:=by
  rcases h0 with rfl|⟨ks,rfl⟩
  ·exact ⟨rfl,hF⟩
  exact ⟨rfl,hF.wD ks⟩
 rw [←eb] at ex
 clear h0 eb
 refine wp_region_any hm ?_
 have h1:C4 eS pl=true:=by simpa using h1
 have D1:mR [] eS eS:=by
  have:mR [] eS (bW [] 0 eS.toList).toArray:=by intro j;simp [lD]
  rwa [nH] at this
 have hsame:=eW w
 have L6:Fr G N ds β {w with drawn:=w.drawn+1} X s0 a:=⟨oE hF.cx hsame,hF.defers,hF.size,fun t=>aj.mono ((iD hsame).eN X) _ _ (hF.xP t)⟩
 have:=L9 (X:=X) hT D1 (QQ:=fX G N ds X β0 aI w0 Q) h1 (fun β bx v u w a ex cx hv hd hq=>⟨β,bx,v,u,rfl,ex,cx,hv,hd,hq⟩) h4 (fun β w s a ex hF hR=>by
  rw [h3] at hR
  cases hR
  exact ⟨β,s1,ex,hF,h5⟩) eS.size 0 ⟨List.replicate eS.size false,[]⟩ s0 β _ a rfl h2 (ex.trans (iD hsame)) L6 (by simp [List.count_replicate])
 simpa using this
end
theorem OY (hT:jL P T) (hm:P.follows .mixedOrders=true):oN P T G:=by
 intro N ds X β0 aI w0 id eS Q β w s a ex hF h
 rcases h with h|h|h
 ·exact D2 hT hm ex hF h
 ·exact D5 hT hm ex hF h
 obtain ⟨pre,late,hpre,⟨hfit⟩,TZ⟩:=h
 refine wp_region_any hm ?_
 obtain ⟨Gk,Io⟩:∃ops:Array Oper,ops=(bW pre 0 eS.toList).toArray:=⟨_,rfl⟩
 obtain ⟨ops,OZ⟩:∃ops:Array Oper,ops=(gC Gk late 0 (bW pre 0 eS.toList)).toArray:=⟨_,rfl⟩
 have Wj:Gk.size=eS.size:=by rw [Io];simp [jN]
 have hsz:ops.size=eS.size:=by rw [OZ];simp [nJ,jN]
 have D1:mR pre eS Gk:=by intro j;rw [Io];simp [lD]
 have hla:DX late Gk ops:=by intro j;rw [OZ];simp only [List.getElem?_toArray,uC,Nat.zero_add];rw [Io];simp
 have hl:ops.toList=gC Gk late 0 (bW pre 0 eS.toList):=by rw [OZ]
 rw [←Io] at hfit TZ hpre
 have hal:jC eS.toList (gC Gk late 0 (bW pre 0 eS.toList)):=(DY pre _).trans (Gj _ _ _)
 have hop:=TZ
 rw [←ye hal _ _ _ _ _ _ hal] at hop
 rw [←hl] at hfit hop
 have Yl:∀c (a a':Act) w,a.defers=a'.defers→fX G N ds X β0 aI w0 Q (.panic c) a w→fX G N ds X β0 aI w0 Q (.panic c) a' w:=by
  intro c a a' w ha hq
  simp only [fX] at hq ⊢
  obtain ⟨β,bx,v,u,h1,h2,h3,h4,h5,h6⟩:=hq
  exact ⟨β,bx,v,u,h1,h2,h3,h4,ha.symm.trans h5,h6⟩
 suffices hgoal:wpAny P .any ops (fX G N ds X β0 aI w0 Q) eS.size (Array.replicate eS.size false) a {w with drawn:=w.drawn+1} by
  rcases hpre with ⟨rfl,rfl⟩|⟨LJ,LB,Ge,Wi⟩
  ·have e:ops=eS:=by rw [OZ,qd,nH]
   rw [e] at hgoal;exact hgoal
  have L7:iB eS [] pre=true:=by simpa using LJ
  have Wk:l5 Gk=true:=by
   have T0:l5 eS=true:=by simpa using LB
   rw [l5,Array.all_eq_true_iff_forall_mem] at T0 ⊢
   intro o ho
   obtain ⟨j,hj⟩:=Array.getElem?_of_mem ho
   rw [D1 j] at hj
   cases h0:eS[j]? with
   |none=>rw [h0] at hj;cases hj
   |some o0=>
    rw [h0] at hj
    simp only [Option.map_some,osI] at hj
    rw [←hj,(kG pre j o0).1]
    exact T0 o0 (Array.mem_of_getElem? h0)
  have hgoal:=JC hla Ge Wk Yl _ _ _ _ (by simp [Wj]) hgoal
  obtain ⟨n1,n2,n3⟩:=nK _ _ _ L7
  have hle:pre.length≤eS.size:=by
   have:=List.Nodup.length_le_of_subset n1 (fun p hp=>List.mem_range.2 (n3 p hp):pre ⊆ List.range eS.size)
   simpa using this
  obtain ⟨fuel,hfuel⟩:∃fuel,eS.size=pre.length+fuel:=⟨eS.size-pre.length,by omega⟩
  rw [hfuel] at hgoal ⊢
  have uw:∀p,p<pre.length+fuel→(Array.replicate (pre.length+fuel) false).getD p true=false:=by intro p hp;simp [hp]
  refine uA (G:=G) (N:=N) D1 (by simpa using LB) Yl fuel _ pre [] _ a s.sl L7 Wi ?_ hF.size (by simp) (fun p hp _=>uw p (by have:=n3 p hp;omega)) (fun p hp=>.inr hp) (fun p hp=>hp) (by simp [hfuel]) n1 hgoal
  intro t k z hk
  have:=hF.xP t
  rw [hk] at this
  simpa only [aj,aF] using this
 rw [←hsz]
 have T1:gr ops (cD ops.toList []) 0 ops.toList=true:=by simpa using hfit
 obtain ⟨cA,k',g1,g2,g3,g4⟩:=ry _ _ _ _ hop
 have QN:∀x,at_ (Array.replicate ops.size false) x=false:=by
  intro x;unfold at_
  rcases Nat.lt_or_ge x ops.size with h|h<;>simp [h]
 have hsame:=eW w
 have f1:=yb (m:=at_ (Array.replicate ops.size false)) cA 0 s.sl (fun j _=>QN _)
 have f2:=yc (m:=at_ (Array.replicate ops.size false)) cA 0 (s.bx++List.replicate (nu eS.toList) .bt) (fun j _=>QN _)
 refine L5 hT T1 ops.size _ 0 0 cA ⟨s.sl,s.bx++List.replicate (nu eS.toList) .bt⟩ β _ a (by simp) ?_ (fun x hx=>by omega) (fun x _=>QN x) ?_ (by simpa using g2) g1 ?_ ?_ ?_ ?_
 ·intro x o _ hx;rw [QN] at hx;cases hx
 ·simp
 ·intro j it hj
  obtain ⟨o,q1,q2,q3,q4⟩:=g3 j it hj
  exact ⟨o,by simpa using q1,q2,q3,q4⟩
 ·rcases g4 with ⟨q1,q2⟩|⟨o,rest,q1,q2,q3,q4⟩
  ·exact .inl ⟨by simpa using q1,q2⟩
  exact .inr ⟨k',o,rest,by simpa using q1,q2,q3,q4⟩
 ·rw [f2]
  exact (ex.trans (rC _)).trans (iD hsame)
 rw [f1,f2]
 have c1:=oE (Gi hF.cx (nu eS.toList)) hsame
 refine ⟨c1,hF.defers,hF.size,fun t=>?_⟩
 exact aj.mono (((rC (nu eS.toList)).trans (iD hsame)).eN X) _ _ (hF.xP t)
end
end Dem
