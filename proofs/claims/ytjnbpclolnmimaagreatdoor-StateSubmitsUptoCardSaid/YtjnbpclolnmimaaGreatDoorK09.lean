/- Parts of a proof, joined. -/
import Derived.Test.YtjnbpclolnmimaaGreatDoorK08
set_option linter.all false
set_option maxRecDepth 100000
set_option maxHeartbeats 4000000
open Go
namespace Dem
section
variable {P:Program} {T:Nat→Option TI} {G:Nat→Option (List D)} {N:Nat} {ds:List Deferred} {X:Nat→Prop}
variable {β0:Nat→Nat} {aB:List ar} {w0:World}
theorem MQ {ops:Array Oper} (hfit:gF ops (cE ops.toList []) 0 ops.toList=true) {m:Nat→Bool} (hd:Down ops m) {i j:Nat} {o p:Oper} (ho:ops[i]?=some o) (hp:ops[j]?=some p)
 (Ck:m i=false) (W8:∀e∈o.after,Region.binds .any e=true→m e.on=true) (hj:(j<i∧m j=false)∨(i<j∧m j=true)):
 (∀d,p.dst=some d→d ∉ o.looksAt ops)∧(∀d,p.dst=some d→o.dst≠some d):=by
 rcases hj with ⟨hlt,ZZ⟩|⟨hlt,ZZ⟩
 ·have h:=(lA hfit i o (by simpa using ho)).2 j (by omega)
  rw [Nat.zero_add] at h
  rcases h with h|⟨p',hp',h⟩
  ·have:=closed hd i o ho W8 j h;rw [ZZ] at this;cases this
  rw [hp] at hp';cases hp'
  obtain ⟨h1,h2,h3⟩:=Oper.apart_spec h
  exact ⟨h1,h2⟩
 have h:=(lA hfit j p (by simpa using hp)).2 i (by omega)
 rw [Nat.zero_add] at h
 rcases h with h|⟨o',ho',h⟩
 ·have:=closed hd j p hp (hd j p hp ZZ) i h;rw [Ck] at this;cases this
 rw [ho] at ho';cases ho'
 obtain ⟨h1,h2,h3⟩:=Oper.apart_spec h
 exact ⟨h3,fun d Vh he=>h2 d he Vh⟩
theorem AA {m:Nat→Bool}:∀(cB:List It) (i:Nat) (sl:List (Nat×AV)),(∀j,j<cB.length→m (i+j)=false)→dc m i cB sl=sl
 |[],_,_,_=>rfl
 |it::r,i,sl,h=>by
  have h0:=h 0 (by simp)
  rw [Nat.add_zero] at h0
  simp only [dc,h0,cond_false]
  exact AA r (i+1) sl (fun j hj=>by have:=h (j+1) (by simpa using hj);rw [show i+1+j=i+(j+1) by omega];exact this)
theorem AB {m:Nat→Bool}:∀(cB:List It) (i:Nat) (bx:List ar),(∀j,j<cB.length→m (i+j)=false)→eU m i cB bx=bx
 |[],_,_,_=>rfl
 |it::r,i,bx,h=>by
  have h0:=h 0 (by simp)
  rw [Nat.add_zero] at h0
  simp only [eU,h0,cond_false]
  exact AB r (i+1) bx (fun j hj=>by have:=h (j+1) (by simpa using hj);rw [show i+1+j=i+(j+1) by omega];exact this)
theorem Pg (hT:iz P T) {ops:Array Oper} (hfit:gF ops (cE ops.toList []) 0 ops.toList=true) {base:Nat} {Q:Ex→St→Prop}:
 ∀(fuel:Nat) (listed:Array Bool) (p k:Nat) (cB:List It) (s0:St) (β:Nat→Nat) (w:World) (a:Act),listed.size=ops.size→Down ops (at_ listed)→(∀x,x<p→at_ listed x=true)→(∀x,p+cB.length≤x→at_ listed x=false)→
  listed.toList.count false=fuel→p+cB.length≤ops.size→kJ (base+k) cB→
  (∀j it,cB[j]?=some it→∃o,ops[p+j]?=some o∧fK N o.dst=true∧it.dst=o.dst∧Uw (aZ P G) T G ops.toList o (dc tt p (cB.take j) s0.sl) s0.bx it)→
  ((
   p+cB.length=ops.size∧Q .normal ⟨dc tt p cB s0.sl,eU tt p cB s0.bx⟩)∨
   (∃k' o rest,ops.toList.drop (p+cB.length)=o::rest∧barrier (cE ops.toList []) (p+cB.length)=true∧fK N o.dst=true∧
    nS (aZ P G) T G N ops.toList (cE ops.toList []) base s0.bx k' (p+cB.length) (o::rest) Q ⟨dc tt p cB s0.sl,eU tt p cB s0.bx⟩))→
  Ext β0 aB w0 β (eU (at_ listed) p cB s0.bx) w→Fr G N ds β w X ⟨dc (at_ listed) p cB s0.sl,eU (at_ listed) p cB s0.bx⟩ a→
  wpAny P .any ops (dY G N ds X β0 aB w0 Q) fuel listed a w:=by
 intro fuel
 induction fuel with
 |zero=>
  intro listed p k cB s0 β w a hsz hdn hlo hhi Xr hle zg hit hend ex hF
  have hall:∀x,x<ops.size→at_ listed x=true:=by
   intro x hx
   have:=Ax listed.toList Xr x (by simpa [hsz] using hx)
   unfold at_
   have h2:listed[x]?=some true:=by simpa using this
   simp [Array.getD_eq_getD_getElem?,h2]
  have hfull:p+cB.length=ops.size:=by
   rcases Nat.lt_or_ge (p+cB.length) ops.size with h|h
   ·have h1:=hall _ h;rw [hhi _ (Nat.le_refl _)] at h1;cases h1
   omega
  refine ⟨?_,?_⟩
  ·rw [List.eq_nil_iff_forall_not_mem]
   intro j hj
   obtain ⟨h1,o,h2,_⟩:=mem_ready.1 hj
   have hjl:j<ops.size:=(Array.getElem?_eq_some_iff.1 h2).1
   have:=hall j hjl
   unfold at_ at this
   simp only [Array.getD_eq_getD_getElem?] at this h1
   cases hq:listed[j]? with
   |none=>rw [hq] at this;simp at this
   |some v=>rw [hq] at this h1;simp at this h1;rw [this] at h1;cases h1
  rcases hend with ⟨_,hQ⟩|⟨k',o,rest,Xs,_⟩
  ·have e1:=kI (m:=at_ listed) (m':=tt) cB p s0.sl (fun j hj=>hall _ (by omega))
   have e2:=m6 (m:=at_ listed) (m':=tt) cB p s0.bx (fun j hj=>hall _ (by omega))
   rw [e1,e2] at hF;rw [e2] at ex
   exact ⟨β,_,ex,hF,hQ⟩
  rw [List.drop_eq_nil_of_le (by simp;omega)] at Xs;cases Xs
 |succ fuel ih=>
  intro listed p k cB s0 β w a hsz hdn hlo hhi Xr hle zg hit hend ex hF
  refine ⟨?_,?_⟩
  ·intro hr
   exfalso
   have key:∀x,x<ops.size→at_ listed x=true:=by
    intro x
    induction x using Nat.strongRecOn with
    |_ x ihx=>
     intro hx
     cases hq:at_ listed x with
     |true=>rfl
     |false=>
      exfalso
      have ho:ops[x]?=some ops[x]:=by simp [hx]
      have hp:=(lA hfit x ops[x] (by simp [hx])).1
      have:x∈Region.ready .any ops listed:=by
       refine mem_ready.2 ⟨?_,ops[x],ho,fun e he hb=>?_⟩
       ·unfold at_ at hq
        have hx':x<listed.size:=by omega
        simp [hx'] at hq ⊢;exact hq
       have:=hp e he hb
       exact ihx e.on (by omega) (by omega)
      rw [hr] at this;cases this
   have:listed.toList.count false=0:=by
    rw [List.count_eq_zero]
    intro hm
    obtain ⟨x,hx⟩:=List.mem_iff_getElem?.1 hm
    have Oo:x<listed.toList.length:=by
     rcases Nat.lt_or_ge x listed.toList.length with h|h
     ·exact h
     rw [List.getElem?_eq_none h] at hx;cases hx
    have:=key x (by simpa [hsz] using Oo)
    unfold at_ at this
    have h2:listed[x]?=some false:=by simpa using hx
    simp [Array.getD_eq_getD_getElem?,h2] at this
   omega
  intro i hi
  obtain ⟨hi1,o,ho,hp⟩:=mem_ready.1 hi
  have hin:i<ops.size:=(Array.getElem?_eq_some_iff.1 ho).1
  have hil:i<listed.size:=by omega
  have Ck:at_ listed i=false:=by
   unfold at_
   simp [hil] at hi1 ⊢;exact hi1
  have W8:∀e∈o.after,Region.binds .any e=true→at_ listed e.on=true:=hp
  have hpi:p≤i:=by
   rcases Nat.lt_or_ge i p with h|h
   ·rw [hlo i h] at Ck;cases Ck
   exact h
  have Se:(listed.setIfInBounds i true).size=ops.size:=by simp [hsz]
  have Xt:Down ops (at_ (listed.setIfInBounds i true)):=by
   intro x ox Z0 hx e he hb
   rw [tK hil]
   by_cases hei:e.on=i
   ·simp [hei]
   rw [if_neg hei]
   rw [tK hil] at hx
   by_cases hxi:x=i
   ·subst hxi;rw [ho] at Z0;cases Z0;exact W8 e he hb
   rw [if_neg hxi] at hx;exact hdn x ox Z0 hx e he hb
  have Ux:(listed.setIfInBounds i true).toList.count false=fuel:=by
   have h2:listed.toList[i]?=some false:=by
    unfold at_ at Ck
    simp [hil] at Ck
    simp [hil,Ck]
   have:=count_set listed.toList i h2
   rw [Array.toList_setIfInBounds]
   omega
  rcases Nat.lt_or_ge i (p+cB.length) with hlt|hge
  ·
   obtain ⟨j,rfl⟩:∃j,i=p+j:=⟨i-p,by omega⟩
   have hj:j<cB.length:=by omega
   have W9:cB[j]?=some cB[j]:=by simp [hj]
   obtain ⟨o',ho',hd,Gw,hy⟩:=hit j _ W9
   rw [ho] at ho';cases ho'
   have hun:∀(j:Nat) (it:It) (y:Nat) (cs:ar),cB[j]?=some it→it.bi=some (y,cs)→s0.bx[y]?=some .bt:=by
    intro j' it' y cs hj' hb
    obtain ⟨_,_,_,_,h|h|h⟩:=hit j' it' hj'
    ·obtain ⟨x,cs',h1,h2,_⟩:=h
     rw [h1] at hb;cases hb;exact h2
    ·rw [h.1] at hb;cases hb
    rw [h.1] at hb;cases hb
   have Jp:∀(j':Nat) (it':It),cB[j']?=some it'→((j'<j∧at_ listed (p+j')=false)∨(j<j'∧at_ listed (p+j')=true))→
    (∀d,it'.dst=some d→d ∉ o.looksAt ops)∧(∀d,it'.dst=some d→o.dst≠some d):=by
    intro j' it' hj' hc
    obtain ⟨p',hp',_,Xu,_⟩:=hit j' it' hj'
    rw [Xu]
    exact MQ hfit hdn ho hp' Ck W8 (hc.imp (fun h=>⟨by omega,h.2⟩) (fun h=>⟨by omega,h.2⟩))
   have Xv:∀t∈o.looksAt ops,fP t (dc tt p (cB.take j) s0.sl)=fP t (dc (at_ listed) p cB s0.sl):=by
    intro t ht
    have e:dc tt p (cB.take j) s0.sl=dc (fun x=>decide (x<p+j)) p cB s0.sl:=At cB p j s0.sl
    rw [e]
    refine qE cB p _ _ rfl ?_
    intro j' it' hj' hdt
    rcases Nat.lt_trichotomy j' j with h|h|h
    ·rw [decide_eq_true (by omega)]
     cases hq:at_ listed (p+j') with
     |true=>rfl
     |false=>exact absurd ht ((Jp j' it' hj' (.inl ⟨h,hq⟩)).1 t hdt)
    ·subst h
     rw [decide_eq_false (by omega),Ck]
    rw [decide_eq_false (by omega)]
    cases hq:at_ listed (p+j') with
    |false=>rfl
    |true=>exact absurd ht ((Jp j' it' hj' (.inr ⟨h,hq⟩)).1 t hdt)
   have hy':=hy.Gq (bx:=eU (at_ listed) p cB s0.bx) Xv (Gv cB p s0.bx (lz.refl _) hun) (by
    intro x cs hb
    rw [CY cB p s0.bx ?_]
    ·exact hun j _ x cs W9 hb
    intro j' it' y cs' hj' hm hb'
    refine zg.apart hj' hb' W9 hb ?_
    rintro rfl
    rw [Ck] at hm;cases hm)
   refine Pd hT ho hF hy' hd ?_
   intro β' a' w' oD Sq
   have hm':∀x,x≠p+j→at_ (listed.setIfInBounds (p+j) true) x=at_ listed x:=fun x hx=>by rw [tK hil,if_neg hx]
   have hB:eU (at_ (listed.setIfInBounds (p+j) true)) p cB s0.bx=qD cB[j] (eU (at_ listed) p cB s0.bx):=by
    refine Av cB p j cB[j] s0.bx W9 Ck (by rw [tK hil,if_pos rfl]) hm' ?_
    intro j' it' y cs x cs0 hj' hne hb' hb0
    exact zg.apart hj' hb' W9 hb0 hne
   refine ih _ p k cB s0 β' w' a' Se Xt (fun x hx=>by rw [hm' x (by omega)];exact hlo x hx) (fun x hx=>by rw [hm' x (by omega)];exact hhi x hx) Ux hle zg hit hend (by rw [hB];exact ex.trans oD) ?_
   rw [hB]
   refine Sq.Gq (fun t=>?_)
   rw [←Gw]
   refine (Au cB p j cB[j] s0.sl W9 Ck (by rw [tK hil,if_pos rfl]) hm' ?_).symm
   intro j' it' hj' hlt' hm d Zd Vh
   rw [Gw] at Zd
   exact (Jp j' it' hj' (.inr ⟨hlt',hm⟩)).2 d Vh Zd
  rcases hend with ⟨hfull,_⟩|⟨k',o',rest,Xs,Xw,hd,hop⟩
  ·omega
  obtain ⟨Fy,Cd⟩:=Eo Xw
  have hiq:i=p+cB.length:=by
   rcases Nat.lt_or_ge (p+cB.length) i with h|h
   ·have h1:=closed hdn i o ho W8 _ (Cd i h (by rw [qH];simpa using hin))
    rw [hhi _ (Nat.le_refl _)] at h1;cases h1
   omega
  subst hiq
  have hoo:o'=o:=by
   have:=congrArg (fun l=>l[0]?) Xs
   simp only [List.getElem?_drop,Nat.add_zero,List.getElem?_cons_zero] at this
   have h3:ops.toList[p+cB.length]?=ops[p+cB.length]?:=by simp
   rw [h3,ho] at this;cases this;rfl
  subst hoo
  have pN:rest=ops.toList.drop (p+cB.length+1):=by
   have:=congrArg (List.drop 1) Xs
   simpa [List.drop_drop] using this.symm
  have hall:∀x,x<p+cB.length→at_ listed x=true:=fun x hx=>closed hdn _ o' ho W8 x (Fy x hx)
  have e1:=kI (m:=at_ listed) (m':=tt) cB p s0.sl (fun j hj=>hall _ (by omega))
  have e2:=m6 (m:=at_ listed) (m':=tt) cB p s0.bx (fun j hj=>hall _ (by omega))
  rw [e1,e2] at hF;rw [e2] at ex
  have next:∀(s1:St) (β':Nat→Nat) (w':World) (a':Act),nS (aZ P G) T G N ops.toList (cE ops.toList []) base s1.bx k' (p+cB.length+1) rest Q s1→Ext β0 aB w0 β' s1.bx w'→Fr G N ds β' w' X s1 a'→
   wpAny P .any ops (dY G N ds X β0 aB w0 Q) fuel (listed.setIfInBounds (p+cB.length) true) a' w':=by
   intro s1 β' w' a' h1 uQ Ce
   obtain ⟨Vk,k1,g1,g2,g3,g4⟩:=tJ _ _ _ _ h1
   have hlen:rest.length=ops.size-(p+cB.length+1):=by rw [pN];simp
   have Aw:∀j:Nat,rest[j]?=ops[p+cB.length+1+j]?:=by intro j;rw [pN];simp
   have Uy:∀x,p+cB.length+1≤x→at_ (listed.setIfInBounds (p+cB.length) true) x=false:=by
    intro x hx;rw [tK hil,if_neg (by omega)];exact hhi x (by omega)
   have f1:=AA (m:=at_ (listed.setIfInBounds (p+cB.length) true)) Vk (p+cB.length+1) s1.sl (fun j _=>Uy _ (by omega))
   have f2:=AB (m:=at_ (listed.setIfInBounds (p+cB.length) true)) Vk (p+cB.length+1) s1.bx (fun j _=>Uy _ (by omega))
   refine ih _ (p+cB.length+1) k' Vk s1 β' w' a' Se Xt ?_ (fun x hx=>Uy x (by omega)) Ux (by omega) g1 ?_ ?_ (by rw [f2];exact uQ) (by rw [f1,f2];exact Ce)
   ·intro x hx
    rw [tK hil]
    by_cases hxq:x=p+cB.length
    ·simp [hxq]
    rw [if_neg hxq];exact hall x (by omega)
   ·intro j it hj
    obtain ⟨o2,q1,q2,q3,q4⟩:=g3 j it hj
    exact ⟨o2,by rw [←Aw];exact q1,q2,q3,q4⟩
   rcases g4 with ⟨q1,q2⟩|⟨o2,Xx,q1,q2,q3,q4⟩
   ·exact .inl ⟨by omega,q2⟩
   exact .inr ⟨k1,o2,Xx,by rw [pN,List.drop_drop] at q1;exact q1,q2,q3,q4⟩
  unfold nS at hop
  simp only [hd,cond_true,Xw] at hop
  unfold wpOp
  rw [ho]
  simp only
  split at hop
  ·rename_i hg
   rw [if_pos (by simp [Region.wanted,hg])]
   refine .inl (kG hT hF hop ?_ ?_)
   ·intro β' aF w' v u oD nD hv hK
    exact next ⟨dQ o'.dst v _,aF⟩ β' w' _ hK (ex.trans oD) (hF.put oD nD hd hv)
   intro β' aF w' v u oD nD hv hK
   exact ⟨β',aF,v,u,rfl,ex.trans oD,nD,hv,hF.defers,hK⟩
  rename_i j want hg
  split at hop
  ·rename_i g IT
   have hy:=lu hF IT
   cases g with
   |true=>
    rw [if_pos (by simp only [Region.wanted,hg];exact hy)]
    refine .inl (xZ hT hF hop ?_)
    rintro β' aF w' v u oD nD hv ⟨hK,rfl⟩
    refine next ⟨dQ o'.dst (.cond true v) _,_⟩ β' w' _ hK (ex.trans oD) (hF.put oD nD hd ?_)
    simp only [ah];exact ⟨fun _=>hv,by simp⟩
   |false=>
    rw [if_neg (by simp only [Region.wanted,hg];rw [hy];simp)]
    obtain ⟨v,hK⟩:=Ag hop
    refine next ⟨dQ o'.dst (.cond false v) _,_⟩ β w _ hK ex (hF.put (Ext.refl _ _ _) hF.cx hd ?_)
    simp only [ah];simp
  exact hop.elim
variable {β:Nat→Nat} {bx:List ar} {w:World}
theorem oR {n i:Nat} {b:ar} (h:(bx++List.replicate n .bt)[i]?=some b):bx[i]?=some b∨b=.bt:=by
 rcases Nat.lt_or_ge i bx.length with hl|hl
 ·rw [List.getElem?_append_left hl] at h;exact .inl h
 rw [List.getElem?_append_right hl,List.getElem?_replicate] at h
 split at h
 ·exact .inr (by simpa using h.symm)
 cases h
theorem tM (n:Nat):Ext β bx w β (bx++List.replicate n .bt) w:=by
 refine ⟨rfl,rfl,rfl,Nat.le_refl _,fun _ _ _=>rfl,fun _ c _ _ h=>⟨c,h,rfl⟩,?_,?_⟩
 ·rintro i ⟨b,h1,h2⟩
  exact ⟨rfl,b,by rw [List.getElem?_append_left (iM h1)];exact h1,h2⟩
 intro i b h hl
 rcases oR h with h1|rfl
 ·exact .inr ⟨i,b,h1,hl,rfl⟩
 simp [ar.live] at hl
theorem Jq (cx:cr G β bx w X) (n:Nat):cr G β (bx++List.replicate n .bt) w X:=by
 refine cx.step (tM n) ?_ ?_
 ·intro i b h
  rcases oR h with h1|rfl
  ·exact .inl ⟨h1,fun _=>rfl⟩
  exact .inr trv
 intro i j bi bj hi hj nN pZ he
 rcases oR hi with h1|rfl<;>rcases oR hj with h2|rfl
 ·exact cx.inj i j bi bj h1 h2 nN pZ he
 ·simp [ar.live] at pZ
 ·simp [ar.live] at nN
 simp [ar.live] at nN
def jM (l l':List Oper):Prop:=l'.length=l.length∧∀(j:Nat) (o o':Oper),l[j]?=some o→l'[j]?=some o'→o'.op=o.op∧o'.dst=o.dst∧o'.guard=o.guard
theorem jM.tail {o o':Oper} {l l':List Oper} (h:jM (o::l) (o'::l')):jM l l':=⟨by simpa using h.1,fun j p p' h1 h2=>h.2 (j+1) p p' (by simpa using h1) (by simpa using h2)⟩
theorem Cl {ops ops':List Oper} (h:jM ops ops') (sl:List (Nat×AV)) (j:Nat) (want:Bool):guardOf sl ops' j want=guardOf sl ops j want:=by
 unfold guardOf
 cases ho:ops[j]? with
 |none=>
  have:ops'[j]?=none:=by rw [List.getElem?_eq_none_iff] at ho ⊢;rw [h.1];exact ho
  rw [this]
 |some o=>
  have hj:j<ops'.length:=by rw [h.1];exact (List.getElem?_eq_some_iff.1 ho).1
  have:=h.2 j o ops'[j] ho (List.getElem?_eq_getElem hj)
  rw [List.getElem?_eq_getElem hj]
  simp only
  rw [this.2.1]
theorem AD {FC:Nat→List AV→List ar→ff→List ar→Prop} {ops ops':List Oper} (Xy:jM ops ops') {b:List Nat} {base:Nat} {Q:Ex→St→Prop}:∀(l l':List Oper) (gU:List ar) (k i:Nat) (s:St),jM l l'→nS FC T G N ops' b base gU k i l' Q s=nS FC T G N ops b base gU k i l Q s
 |[],[],_,_,_,_,_=>rfl
 |[],_::_,_,_,_,_,h=>by have:=h.1;simp at this
 |_::_,[],_,_,_,_,h=>by have:=h.1;simp at this
 |o::l,o'::l',gU,k,i,s,h=>by
  obtain ⟨e1,e2,e3⟩:=h.2 0 o o' rfl rfl
  have hb:gY T G s.sl o'=gY T G s.sl o:=by unfold gY;rw [e1,e3]
  have hu:∀s K Q,qi FC T G o' s K Q=qi FC T G o s K Q:=fun s K Q=>by unfold qi;rw [e1]
  have hg:∀g s K,stepG FC T G g o' s K=stepG FC T G g o s K:=fun g s K=>by unfold stepG wm;rw [e1]
  have hc:∀sl gU x K,mh FC G o' sl gU x K=mh FC G o sl gU x K:=fun sl gU x K=>by unfold mh;rw [e1]
  have ih:=fun gU k i s=>AD (FC:=FC) (ops:=ops) (ops':=ops') Xy (b:=b) (base:=base) (Q:=Q) l l' gU k i s h.tail
  simp only [nS,e2,e3,hb,hu,hg,hc,ih,Cl Xy]
theorem GA (pre:List Nat) (l:List Oper):jM l (cg pre 0 l):=by
 refine ⟨kw pre l 0,fun j o o' h1 h2=>?_⟩
 rw [mG,h1] at h2
 simp only [Option.map_some,osI] at h2
 subst h2
 obtain ⟨e1,e2,e3,_⟩:=lB pre (0+j) o
 exact ⟨e1,e2,e3⟩
theorem wJ (a:Array Oper) (late:List Nat):∀(l:List Oper) (i j:Nat),(gT a late i l)[j]?=(l[j]?).map (kj a late (i+j))
 |[],_,_=>by simp [gT]
 |o::r,i,0=>by simp [gT]
 |o::r,i,j+1=>by
  simp only [gT,List.getElem?_cons_succ]
  rw [wJ a late r (i+1) j,show i+1+j=i+(j+1) by omega]
theorem oS (a:Array Oper) (late:List Nat):∀(l:List Oper) (i:Nat),(gT a late i l).length=l.length
 |[],_=>rfl
 |o::r,i=>by simp [gT,oS a late r]
theorem rV (a:Array Oper):∀(l:List Oper) (i:Nat),gT a [] i l=l
 |[],_=>rfl
 |o::r,i=>by simp only [gT,rV a r];simp [kj]
theorem Jr (a:Array Oper) (late:List Nat) (l:List Oper):jM l (gT a late 0 l):=by
 refine ⟨oS a late l 0,fun j o o' h1 h2=>?_⟩
 rw [wJ,h1] at h2
 simp only [Option.map_some,osI] at h2
 subst h2
 obtain ⟨x,e⟩:=lC a late (0+j) o
 rw [e];exact ⟨rfl,rfl,rfl⟩
theorem jM.trans {l l' l'':List Oper} (h:jM l l') (g:jM l' l''):jM l l'':=by
 refine ⟨g.1.trans h.1,fun j o o'' h1 h2=>?_⟩
 have hj:j<l'.length:=by rw [h.1];exact (List.getElem?_eq_some_iff.1 h1).1
 obtain ⟨a1,a2,a3⟩:=h.2 j o l'[j] h1 (List.getElem?_eq_getElem hj)
 obtain ⟨b1,b2,b3⟩:=g.2 j l'[j] o'' (List.getElem?_eq_getElem hj) h2
 exact ⟨b1.trans a1,b2.trans a2,b3.trans a3⟩
theorem oT (ops:Array Oper):∀(pre done:List Nat),iH ops done pre=true→pre.Nodup∧(∀p∈pre,p ∉ done)∧∀p∈pre,p<ops.size
 |[],_,_=>⟨List.nodup_nil,by simp,by simp⟩
 |p::r,done,h=>by
  unfold iH at h
  cases ho:ops[p]? with
  |none=>simp [ho] at h
  |some o=>
   simp only [ho,Bool.and_eq_true] at h
   obtain ⟨⟨⟨⟨f1,_⟩,_⟩,_⟩,f5⟩:=h
   obtain ⟨g1,g2,g3⟩:=oT ops r _ f5
   refine ⟨List.nodup_cons.2 ⟨fun hp=>g2 p hp (by simp),g1⟩,?_,?_⟩
   ·intro q hq;rcases List.mem_cons.1 hq with rfl|hq
    ·simpa using f1
    exact fun hh=>g2 q hq (by simp [hh])
   intro q hq;rcases List.mem_cons.1 hq with rfl|hq
   ·exact (Array.getElem?_eq_some_iff.1 ho).1
   exact g3 q hq
theorem GB (t u:Nat) (v:AV):∀l:List (Nat×AV),fP t (RX u v l)=bif Nat.beq t u then v else fP t l
 |[]=>rfl
 |(s,x)::r=>by
  simp only [RX]
  cases h1:Nat.beq u s with
  |true=>
   have:=Nat.eq_of_beq_eq_true h1;subst this
   simp only [cond_true,fP]
   cases Nat.beq t u<;>rfl
  |false=>
   simp only [cond_false]
   cases h2:Nat.blt u s with
   |true=>rfl
   |false=>
    simp only [cond_false,fP]
    rw [GB t u v r]
    cases h3:Nat.beq t s with
    |false=>simp
    |true=>
     have:=Nat.eq_of_beq_eq_true h3;subst this
     have:Nat.beq t u=false:=by
      cases h:Nat.beq t u with
      |false=>rfl
      |true=>have:=Nat.eq_of_beq_eq_true h;subst this;rw [h] at h1;cases h1
     simp [this]
theorem AE (t:Nat):∀l:List (Nat×AV),fP t (Ch l)=fP t l
 |[]=>rfl
 |(u,v)::r=>by rw [Ch,GB,AE t r];rfl
section
variable {N:Nat} {ds:List Deferred} {X:Nat→Prop} {β0:Nat→Nat} {aB:List ar} {w0:World}
theorem qJ (hT:iz P T) {ops ops':Array Oper} {pre:List Nat} (GC:oa pre ops ops') {QQ:Exit→Act→World→Prop} {Q:Ex→St→Prop} {i:Nat} {KS:St→Prop} {NX:Act→World→Prop} {β:Nat→Nat} {w:World} {s:St} {a:Act} (ex:Ext β0 aB w0 β s.bx w) (hF:Fr G N ds β w X s a)
 (hp:∀β bx v u w a,Ext β0 aB w0 β bx w→cr G β bx w X→ah β bx w (aY β bx w X) v u→a.defers=ds→Q (.panic v) ⟨[],bx⟩→QQ (.panic [{v:=u,recovered:=false}]) a w)
 (h:xH (aZ P G) T G N ops.toList i KS Q s) (hn:∀β w s a,Ext β0 aB w0 β s.bx w→Fr G N ds β w X s a→KS s→NX a w):wpOp P ops' QQ i NX a w:=by
 rw [tL GC]
 unfold xH at h
 unfold wpOp
 simp only [Array.getElem?_toList] at h
 cases ho:ops[i]? with
 |none=>rw [ho] at h;exact h.elim
 |some o=>
  rw [ho] at h
  simp only at h ⊢
  cases hd:fK N o.dst with
  |false=>rw [hd] at h;exact h.elim
  |true=>
   rw [hd] at h
   simp only [cond_true] at h
   have My:∀{s1:St},s1=s→O4 G β s1.bx w X a (fun v bx=>Q (.panic v) ⟨[],bx⟩) QQ:=fun e β' aF w' v u oD nD hv hK=>by subst e;exact hp β' aF v u w' a (ex.trans oD) nD hv hF.defers hK
   split at h
   ·rename_i hg
    rw [if_pos (by unfold Region.wanted;rw [hg])]
    exact .inl (kG hT hF h (fun β' aF w' v u oD nD hv hK=>hn β' w' ⟨dQ o.dst v s.sl,aF⟩ _ (ex.trans oD) (hF.put oD nD hd hv) hK) (My rfl))
   rename_i j want hg
   split at h
   ·rename_i g IT
    have hy:=lu hF IT
    obtain ⟨h⟩:=h
    cases g with
    |true=>
     rw [if_pos (by simp only [Region.wanted,hg];exact hy)]
     refine .inl (kG hT hF (h.1 rfl) (fun β' aF w' v u oD nD hv hK=>hn β' w' ⟨dQ o.dst (.cond true v) s.sl,aF⟩ _ (ex.trans oD) (hF.put oD nD hd ?_) hK) (My rfl))
     simp only [ah];exact ⟨fun _=>hv,by simp⟩
    |false=>
     rw [if_neg (by simp only [Region.wanted,hg];rw [hy];simp)]
     refine hn β w ⟨dQ o.dst (.cond false .any) s.sl,s.bx⟩ _ ex (hF.put (Ext.refl _ _ _) hF.cx hd ?_) (h.2 rfl)
     simp only [ah];simp
   exact h.elim
theorem vb (hT:iz P T) {ops ops':Array Oper} {pre:List Nat} (GC:oa pre ops ops') {R:St→Prop} {QQ:Exit→Act→World→Prop} {Q:Ex→St→Prop}
 (hp:∀β bx v u w a,Ext β0 aB w0 β bx w→cr G β bx w X→ah β bx w (aY β bx w X) v u→a.defers=ds→Q (.panic v) ⟨[],bx⟩→QQ (.panic [{v:=u,recovered:=false}]) a w)
 (hR:∀β w s a,Ext β0 aB w0 β s.bx w→Fr G N ds β w X s a→R s→QQ .normal a w):∀(tr:OT) (n:Nat) (listed:Array Bool) (β:Nat→Nat) (w:World) (s:St) (a:Act),Ext β0 aB w0 β s.bx w→Fr G N ds β w X s a→
  MA (aZ P G) T G N ops.toList Q R tr s→tr.depth≤n→
  (tr.fit ops' true listed=true→wpAny P .any ops' QQ n listed a w)∧
  (tr.fit ops' false listed=true→∀i∈tr.Lm,wpOp P ops' QQ i (wpAny P .any ops' QQ (n-1) (listed.setIfInBounds i true)) a w)
 |.done,n,listed,β,w,s,a,ex,hF,h,_=>by
  refine ⟨fun hf=>?_,fun _ i hi=>by cases hi⟩
  simp only [OT.fit,Bool.not_true,Bool.false_or] at hf
  exact wpAny_done (List.isEmpty_iff.1 hf) (hR β w s a ex hF h) n
 |.one i o,n,listed,β,w,s,a,ex,hF,h,hd=>by
  simp only [OT.depth] at hd
  obtain ⟨m,rfl⟩:∃m,n=m+1:=⟨n-1,by omega⟩
  have key:o.fit ops' true (listed.setIfInBounds i true)=true→wpOp P ops' QQ i (wpAny P .any ops' QQ m (listed.setIfInBounds i true)) a w:=fun hf=>
   qJ hT GC ex hF hp h fun β w s a ex hF hK=>(vb hT GC hp hR o m _ β w s a ex hF hK (by omega)).1 hf
  refine ⟨fun hf=>?_,fun hf j hj=>?_⟩
  ·simp only [OT.fit,Bool.not_true,Bool.false_or,Bool.and_eq_true,beq_iff_eq] at hf
   exact wpAny_all hf.1 (by simp) fun j hj=>by simp at hj;subst hj;exact key hf.2
  simp only [OT.fit,Bool.not_false,Bool.true_or,Bool.true_and] at hf
  simp only [OT.Lm,List.mem_singleton] at hj
  subst hj;exact key hf
 |.more i o r,n,listed,β,w,s,a,ex,hF,h,hd=>by
  simp only [OT.depth] at hd
  obtain ⟨m,rfl⟩:∃m,n=m+1:=⟨n-1,by omega⟩
  have key:o.fit ops' true (listed.setIfInBounds i true)=true→wpOp P ops' QQ i (wpAny P .any ops' QQ m (listed.setIfInBounds i true)) a w:=fun hf=>
   qJ hT GC ex hF hp h.1 fun β w s a ex hF hK=>(vb hT GC hp hR o m _ β w s a ex hF hK (by omega)).1 hf
  have rest:=(vb hT GC hp hR r (m+1) listed β w s a ex hF h.2 (by omega)).2
  refine ⟨fun hf=>?_,fun hf j hj=>?_⟩
  ·simp only [OT.fit,Bool.not_true,Bool.false_or,Bool.and_eq_true,beq_iff_eq] at hf
   refine wpAny_all hf.1 (by simp) fun j hj=>?_
   rcases List.mem_cons.1 hj with rfl|hj
   ·exact key hf.2.1
   exact rest hf.2.2 j hj
  simp only [OT.fit,Bool.not_false,Bool.true_or,Bool.true_and,Bool.and_eq_true] at hf
  rcases List.mem_cons.1 hj with rfl|hj
  ·exact key hf.1
  exact rest hf.2 j hj
end
theorem GD (hT:iz P T) (hm:P.follows .mixedOrders=true) {N:Nat} {ds:List Deferred} {X:Nat→Prop} {β0:Nat→Nat} {aB:List ar} {w0:World} {id:Nat} {eV:Array Oper} {Q:Ex→St→Prop} {β:Nat→Nat} {w:World} {s:St} {a:Act} (ex:Ext β0 aB w0 β s.bx w) (hF:Fr G N ds β w X s a)
 (h:Ul (aZ P G) T G N eV.toList Q s):(Code.region id eV true).wp P (dY G N ds X β0 aB w0 Q) a w:=by
 obtain ⟨pre,tr,s1,⟨MG,Ls,Z1⟩,hft,hx,hpost⟩:=h
 unfold OT.fits at hft
 rw [Bool.and_eq_true] at hft
 simp only [Array.length_toList] at hft
 refine wp_region_any hm ?_
 have GC:oa pre eV (cg pre 0 eV.toList).toArray:=by intro j;simp [mG]
 have hsame:=eX w
 have zl:Fr G N ds β {w with drawn:=w.drawn+1} X s a:=⟨qn hF.cx hsame,hF.defers,hF.size,fun t=>ah.mono ((iI hsame).dN X) _ _ (hF.wF t)⟩
 have hgoal:=(vb (X:=X) hT GC (QQ:=dY G N ds X β0 aB w0 Q) (fun β bx v u w a ex cx hv hd hq=>⟨β,bx,v,u,rfl,ex,cx,hv,hd,hq⟩) (fun β w s a ex hF hR=>by
  subst hR
  exact ⟨β,⟨Ch s.sl,s.bx⟩,ex,hF.Gq fun t=>(AE t s.sl).symm,hpost⟩) tr eV.size (Array.replicate eV.size false) β _ s a (ex.trans (iI hsame)) zl hx (Nat.le_of_ble_eq_true hft.1)).1 hft.2
 have Ph:iH eV [] pre=true:=by simpa using MG
 obtain ⟨n1,n2,n3⟩:=oT _ _ _ Ph
 have hle:pre.length≤eV.size:=by
  have:=List.Nodup.length_le_of_subset n1 (fun p hp=>List.mem_range.2 (n3 p hp):pre ⊆ List.range eV.size)
  simpa using this
 obtain ⟨fuel,hfuel⟩:∃fuel,eV.size=pre.length+fuel:=⟨eV.size-pre.length,by omega⟩
 rw [hfuel] at hgoal ⊢
 have Aw:∀p,p<pre.length+fuel→(Array.replicate (pre.length+fuel) false).getD p true=false:=by intro p hp;simp [hp]
 refine wH (G:=G) (N:=N) GC (by simpa using Ls) ?_ fuel _ pre [] _ a s.sl Ph Z1 ?_ hF.size (by simp) (fun p hp _=>Aw p (by have:=n3 p hp;omega)) (fun p hp=>.inr hp) (fun p hp=>hp) (by simp [hfuel]) n1 hgoal
 ·intro c a a' w ha hq
  simp only [dY] at hq ⊢
  obtain ⟨β,bx,v,u,h1,h2,h3,h4,h5,h6⟩:=hq
  exact ⟨β,bx,v,u,h1,h2,h3,h4,ha.symm.trans h5,h6⟩
 intro t k z hk
 have:=hF.wF t
 rw [hk] at this
 simpa only [ah,aH] using this
section
variable {P:Program} {T:Nat→Option TI} {G:Nat→Option (List D)} {N:Nat} {ds:List Deferred} {X:Nat→Prop}
variable {β0:Nat→Nat} {aB:List ar} {w0:World}
theorem Pj:∀{l m:List Bool},W2 l m=true→l=m
 |[],[],_=>rfl
 |a::l,b::m,h=>by
  simp only [W2,Bool.and_eq_true,beq_iff_eq] at h
  rw [h.1,Pj h.2]
 |[],_::_,h=>by simp [W2] at h
 |_::_,[],h=>by simp [W2] at h
theorem GF {k i:Nat}:∀{l:List (Nat×Nat)},OD k i l=true→(k,i)∈l
 |[],h=>by simp [OD] at h
 |(p,j)::r,h=>by
  simp only [OD,Bool.or_eq_true,Bool.and_eq_true,Nat.beq_eq] at h
  rcases h with ⟨rfl,rfl⟩|h
  ·exact List.mem_cons_self ..
  exact List.mem_cons_of_mem _ (GF h)
theorem Er {ops:Array Oper} {pl:List Nd} {z:Nat}:∀{l:List Nd} {k j:Nat} {nd:Nd},OE ops pl z k l=true→l[j]?=some nd→
 (Region.ready .any ops nd.ls.toArray=[]∧k+j=z)∨(Region.ready .any ops nd.ls.toArray≠[]∧∀i∈Region.ready .any ops nd.ls.toArray,i<nd.ls.length∧nd.ls[i]?=some false∧∃e∈pl,e.ls=nd.ls.set i true∧(k+j,i)∈e.ps)
 |[],_,_,_,_,h=>by simp at h
 |x::l,k,0,nd,h,hj=>by
  simp only [List.getElem?_cons_zero,osI] at hj
  subst hj
  simp only [OE,Bool.and_eq_true] at h
  have h:=h.1
  split at h
  ·rename_i g;exact .inl ⟨g,by simpa using Nat.eq_of_beq_eq_true h⟩
  rename_i rs g
  refine .inr ⟨fun e=>g e,fun i hi=>?_⟩
  have:=List.all_eq_true.1 h i hi
  simp only [Bool.and_eq_true,beq_iff_eq,List.any_eq_true] at this
  obtain ⟨⟨h1,h2⟩,e,he,h3,h4⟩:=this
  have h1:i<x.ls.length:=Nat.le_of_ble_eq_true h1
  refine ⟨h1,?_,e,he,Pj h3,GF h4⟩
  rw [List.getD_eq_getElem?_getD,List.getElem?_eq_getElem h1] at h2
  rw [List.getElem?_eq_getElem h1]
  simpa using h2
 |x::l,k,j+1,nd,h,hj=>by
  simp only [List.getElem?_cons_succ] at hj
  simp only [OE,Bool.and_eq_true] at h
  have:=Er h.2 hj
  rw [show k+(j+1)=k+1+j by omega]
  exact this
theorem GG {FC:Nat→List AV→List ar→ff→List ar→Prop} {ops:List Oper} {Q:Ex→St→Prop} {S:List St} {s s0:St} {p i:Nat}:∀{l:List (Nat×Nat)},FK FC T G N ops Q S s l→(p,i)∈l→S[p]?=some s0→xH FC T G N ops i (fun s1=>(⟨Ch s1.sl,s1.bx⟩:St)=s) Q s0
 |[],_,h,_=>by simp at h
 |(q,j)::r,h,hm,hs=>by
  rcases List.mem_cons.1 hm with e|hm
  ·obtain ⟨rfl,rfl⟩:=Prod.mk.inj e
   have:=h.1
   rw [hs] at this
   exact this
  exact GG h.2 hm hs
theorem LG {FC:Nat→List AV→List ar→ff→List ar→Prop} {ops:List Oper} {Q:Ex→St→Prop} {S:List St}:∀{l:List Nd} {k j:Nat} {nd:Nd},allM FC T G N ops Q S k l→l[j]?=some nd→∃s,S[k+j]?=some s∧FK FC T G N ops Q S s nd.ps
 |[],_,_,_,_,h=>by simp at h
 |x::l,k,0,nd,h,hj=>by
  simp only [List.getElem?_cons_zero,osI] at hj
  subst hj
  have:=h.1
  split at this
  ·rename_i s g;exact ⟨s,g,this⟩
  exact this.elim
 |x::l,k,j+1,nd,h,hj=>by
  simp only [List.getElem?_cons_succ] at hj
  obtain ⟨s,g1,g2⟩:=LG h.2 hj
  exact ⟨s,by rw [←g1];congr 1;omega,g2⟩
theorem tN:∀{l:List Bool} {i:Nat},l[i]?=some false→(l.set i true).count false+1=l.count false
 |[],_,h=>by simp at h
 |a::l,0,h=>by
  simp only [List.getElem?_cons_zero,osI] at h
  subst h
  simp
 |a::l,i+1,h=>by
  simp only [List.getElem?_cons_succ] at h
  have:=tN h
  simp only [List.set_cons_succ,List.count_cons]
  omega
theorem Pk (hT:iz P T) {ops:Array Oper} {pl:List Nd} {S:List St} {QQ:Exit→Act→World→Prop} {Q:Ex→St→Prop} (GC:oa [] ops ops) (hfit:FJ ops pl=true)
 (hp:∀β bx v u w a,Ext β0 aB w0 β bx w→cr G β bx w X→ah β bx w (aY β bx w X) v u→a.defers=ds→Q (.panic v) ⟨[],bx⟩→QQ (.panic [{v:=u,recovered:=false}]) a w)
 (hm:allM (aZ P G) T G N ops.toList Q S 1 pl)
 (hR:∀β w s a,Ext β0 aB w0 β s.bx w→Fr G N ds β w X s a→S[pl.length]?=some s→QQ .normal a w):∀(n k:Nat) (nd:Nd) (s:St) (β:Nat→Nat) (w:World) (a:Act),
  (⟨List.replicate ops.size false,[]⟩::pl:List Nd)[k]?=some nd→S[k]?=some s→Ext β0 aB w0 β s.bx w→Fr G N ds β w X s a→nd.ls.count false≤n→wpAny P .any ops QQ n nd.ls.toArray a w:=by
 intro n
 induction n with
 |zero=>
  intro k nd s β w a hk hs ex hF hc
  rcases Er hfit hk with ⟨h1,h2⟩|⟨h1,h2⟩
  ·rw [Nat.zero_add] at h2;subst h2
   exact wpAny_done h1 (hR β w s a ex hF hs) 0
  exfalso
  obtain ⟨i,hi⟩:=List.exists_mem_of_ne_nil _ h1
  have:=tN (h2 i hi).2.1
  omega
 |succ n ih=>
  intro k nd s β w a hk hs ex hF hc
  rcases Er hfit hk with ⟨h1,h2⟩|⟨h1,h2⟩
  ·rw [Nat.zero_add] at h2;subst h2
   exact wpAny_done h1 (hR β w s a ex hF hs) (n+1)
  refine wpAny_all rfl h1 fun i hi=>?_
  obtain ⟨g1,g2,e,he,g3,g4⟩:=h2 i hi
  rw [Nat.zero_add] at g4
  obtain ⟨j,hj⟩:=List.getElem?_of_mem he
  obtain ⟨s',q1,q2⟩:=LG hm hj
  have hst:=GG q2 g4 hs
  refine qJ hT GC ex hF hp hst fun β w s1 a ex hF hK=>?_
  subst hK
  have:=ih (1+j) e ⟨Ch s1.sl,s1.bx⟩ β w a (by rw [Nat.add_comm];simpa using hj) q1 ex (hF.Gq fun t=>(AE t s1.sl).symm) (by rw [g3];have:=tN g2;omega)
  rw [g3] at this
  simpa using this
theorem GH (hT:iz P T) (hm:P.follows .mixedOrders=true) {id:Nat} {eV:Array Oper} {Q:Ex→St→Prop} {β:Nat→Nat} {w:World} {s:St} {a:Act} (ex:Ext β0 aB w0 β s.bx w) (hF:Fr G N ds β w X s a)
 (h:Um (aZ P G) T G N eV.toList Q s):(Code.region id eV true).wp P (dY G N ds X β0 aB w0 Q) a w:=by
 obtain ⟨pl,S,s1,h1,h2,h3,h4,h5⟩:=h
 refine wp_region_any hm ?_
 have h1:FJ eV pl=true:=by simpa using h1
 have GC:oa [] eV eV:=by
  have:oa [] eV (cg [] 0 eV.toList).toArray:=by intro j;simp [mG]
  rwa [oQ] at this
 have hsame:=eX w
 have zl:Fr G N ds β {w with drawn:=w.drawn+1} X s a:=⟨qn hF.cx hsame,hF.defers,hF.size,fun t=>ah.mono ((iI hsame).dN X) _ _ (hF.wF t)⟩
 have:=Pk (X:=X) hT GC (QQ:=dY G N ds X β0 aB w0 Q) h1 (fun β bx v u w a ex cx hv hd hq=>⟨β,bx,v,u,rfl,ex,cx,hv,hd,hq⟩) h4 (fun β w s a ex hF hR=>by
  rw [h3] at hR
  cases hR
  exact ⟨β,s1,ex,hF,h5⟩) eV.size 0 ⟨List.replicate eV.size false,[]⟩ s β _ a rfl h2 (ex.trans (iI hsame)) zl (by simp)
 simpa using this
end
theorem Sr (hT:iz P T) (hm:P.follows .mixedOrders=true):kQ P T G:=by
 intro N ds X β0 aB w0 id eV Q β w s a ex hF h
 rcases h with h|h|h
 ·exact GD hT hm ex hF h
 ·exact GH hT hm ex hF h
 obtain ⟨pre,late,hpre,⟨hfit⟩,Xz⟩:=h
 refine wp_region_any hm ?_
 obtain ⟨Js,LH⟩:∃ops:Array Oper,ops=(cg pre 0 eV.toList).toArray:=⟨_,rfl⟩
 obtain ⟨ops,GI⟩:∃ops:Array Oper,ops=(gT Js late 0 (cg pre 0 eV.toList)).toArray:=⟨_,rfl⟩
 have XA:Js.size=eV.size:=by rw [LH];simp [kw]
 have hsz:ops.size=eV.size:=by rw [GI];simp [oS,kw]
 have GC:oa pre eV Js:=by intro j;rw [LH];simp [mG]
 have hla:Gz late Js ops:=by intro j;rw [GI];simp only [List.getElem?_toArray,wJ,Nat.zero_add];rw [LH];simp
 have hl:ops.toList=gT Js late 0 (cg pre 0 eV.toList):=by rw [GI]
 rw [←LH] at hfit Xz hpre
 have hal:jM eV.toList (gT Js late 0 (cg pre 0 eV.toList)):=(GA pre _).trans (Jr _ _ _)
 have hop:=Xz
 rw [←AD hal _ _ _ _ _ _ hal] at hop
 rw [←hl] at hfit hop
 have hQQ:∀c (a a':Act) w,a.defers=a'.defers→dY G N ds X β0 aB w0 Q (.panic c) a w→dY G N ds X β0 aB w0 Q (.panic c) a' w:=by
  intro c a a' w ha hq
  simp only [dY] at hq ⊢
  obtain ⟨β,bx,v,u,h1,h2,h3,h4,h5,h6⟩:=hq
  exact ⟨β,bx,v,u,h1,h2,h3,h4,ha.symm.trans h5,h6⟩
 suffices hgoal:wpAny P .any ops (dY G N ds X β0 aB w0 Q) eV.size (Array.replicate eV.size false) a {w with drawn:=w.drawn+1} by
  rcases hpre with ⟨rfl,rfl⟩|⟨MG,Ls,pO,Z1⟩
  ·have e:ops=eV:=by rw [GI,rV,oQ]
   rw [e] at hgoal;exact hgoal
  have Ph:iH eV [] pre=true:=by simpa using MG
  have Z2:mZ Js=true:=by
   have XB:mZ eV=true:=by simpa using Ls
   rw [mZ,Array.all_eq_true_iff_forall_mem] at XB ⊢
   intro o ho
   obtain ⟨j,hj⟩:=Array.getElem?_of_mem ho
   rw [GC j] at hj
   cases h0:eV[j]? with
   |none=>rw [h0] at hj;cases hj
   |some o0=>
    rw [h0] at hj
    simp only [Option.map_some,osI] at hj
    rw [←hj,(lB pre j o0).1]
    exact XB o0 (Array.mem_of_getElem? h0)
  have hgoal:=MP hla pO Z2 hQQ _ _ _ _ (by simp [XA]) hgoal
  obtain ⟨n1,n2,n3⟩:=oT _ _ _ Ph
  have hle:pre.length≤eV.size:=by
   have:=List.Nodup.length_le_of_subset n1 (fun p hp=>List.mem_range.2 (n3 p hp):pre ⊆ List.range eV.size)
   simpa using this
  obtain ⟨fuel,hfuel⟩:∃fuel,eV.size=pre.length+fuel:=⟨eV.size-pre.length,by omega⟩
  rw [hfuel] at hgoal ⊢
  have Aw:∀p,p<pre.length+fuel→(Array.replicate (pre.length+fuel) false).getD p true=false:=by intro p hp;simp [hp]
  refine wH (G:=G) (N:=N) GC (by simpa using Ls) hQQ fuel _ pre [] _ a s.sl Ph Z1 ?_ hF.size (by simp) (fun p hp _=>Aw p (by have:=n3 p hp;omega)) (fun p hp=>.inr hp) (fun p hp=>hp) (by simp [hfuel]) n1 hgoal
  intro t k z hk
  have:=hF.wF t
  rw [hk] at this
  simpa only [ah,aH] using this
 rw [←hsz]
 have XC:gF ops (cE ops.toList []) 0 ops.toList=true:=by simpa using hfit
 obtain ⟨cB,k',g1,g2,g3,g4⟩:=tJ _ _ _ _ hop
 have Uy:∀x,at_ (Array.replicate ops.size false) x=false:=by
  intro x;unfold at_
  rcases Nat.lt_or_ge x ops.size with h|h<;>simp [h]
 have hsame:=eX w
 have f1:=AA (m:=at_ (Array.replicate ops.size false)) cB 0 s.sl (fun j _=>Uy _)
 have f2:=AB (m:=at_ (Array.replicate ops.size false)) cB 0 (s.bx++List.replicate (oH eV.toList) .bt) (fun j _=>Uy _)
 refine Pg hT XC ops.size _ 0 0 cB ⟨s.sl,s.bx++List.replicate (oH eV.toList) .bt⟩ β _ a (by simp) ?_ (fun x hx=>by omega) (fun x _=>Uy x) ?_ (by simpa using g2) g1 ?_ ?_ ?_ ?_
 ·intro x o _ hx;rw [Uy] at hx;cases hx
 ·simp
 ·intro j it hj
  obtain ⟨o,q1,q2,q3,q4⟩:=g3 j it hj
  exact ⟨o,by simpa using q1,q2,q3,q4⟩
 ·rcases g4 with ⟨q1,q2⟩|⟨o,rest,q1,q2,q3,q4⟩
  ·exact .inl ⟨by simpa using q1,q2⟩
  exact .inr ⟨k',o,rest,by simpa using q1,q2,q3,q4⟩
 ·rw [f2]
  exact (ex.trans (tM _)).trans (iI hsame)
 rw [f1,f2]
 have c1:=qn (Jq hF.cx (oH eV.toList)) hsame
 refine ⟨c1,hF.defers,hF.size,fun t=>?_⟩
 exact ah.mono (((tM (oH eV.toList)).trans (iI hsame)).dN X) _ _ (hF.wF t)
end
end Dem
