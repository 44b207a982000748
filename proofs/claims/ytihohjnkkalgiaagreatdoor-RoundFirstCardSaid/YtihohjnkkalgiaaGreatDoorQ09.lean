/- Parts of a proof, joined. -/
import Derived.Test.YtihohjnkkalgiaaGreatDoorQ08
set_option linter.all false
set_option maxRecDepth 100000
set_option maxHeartbeats 4000000
open Go
namespace Dem
section
variable {P:Program} {T:Nat→Option TI} {G:Nat→Option (List D)} {N:Nat} {ds:List Deferred} {X:Nat→Prop}
variable {β0:Nat→Nat} {aV:List aB} {w0:World}
theorem Mh {ops:Array Oper} (hfit:gW ops (cM ops.toList []) 0 ops.toList=true) {m:Nat→Bool} (hd:Down ops m) {i j:Nat} {o p:Oper} (ho:ops[i]?=some o) (hp:ops[j]?=some p)
 (xA:m i=false) (V0:∀e∈o.after,Region.binds .any e=true→m e.on=true) (hj:(j<i∧m j=false)∨(i<j∧m j=true)):
 (∀d,p.dst=some d→d ∉ o.looksAt ops)∧(∀d,p.dst=some d→o.dst≠some d):=by
 rcases hj with ⟨hlt,YY⟩|⟨hlt,YY⟩
 ·have h:=(lm hfit i o (by simpa using ho)).2 j (by omega)
  rw [Nat.zero_add] at h
  rcases h with h|⟨p',hp',h⟩
  ·have:=closed hd i o ho V0 j h;rw [YY] at this;cases this
  rw [hp] at hp';cases hp'
  obtain ⟨h1,h2,h3⟩:=Oper.apart_spec h
  exact ⟨h1,h2⟩
 have h:=(lm hfit j p (by simpa using hp)).2 i (by omega)
 rw [Nat.zero_add] at h
 rcases h with h|⟨o',ho',h⟩
 ·have:=closed hd j p hp (hd j p hp YY) i h;rw [xA] at this;cases this
 rw [ho] at ho';cases ho'
 obtain ⟨h1,h2,h3⟩:=Oper.apart_spec h
 exact ⟨h3,fun d Uv he=>h2 d he Uv⟩
theorem zZ {m:Nat→Bool}:∀(cK:List It) (i:Nat) (sl:List (Nat×AV)),(∀j,j<cK.length→m (i+j)=false)→dH m i cK sl=sl
 |[],_,_,_=>rfl
 |it::r,i,sl,h=>by
  have h0:=h 0 (by simp)
  rw [Nat.add_zero] at h0
  simp only [dH,h0,cond_false]
  exact zZ r (i+1) sl (fun j hj=>by have:=h (j+1) (by simpa using hj);rw [show i+1+j=i+(j+1) by omega];exact this)
theorem z6 {m:Nat→Bool}:∀(cK:List It) (i:Nat) (bx:List aB),(∀j,j<cK.length→m (i+j)=false)→ff m i cK bx=bx
 |[],_,_,_=>rfl
 |it::r,i,bx,h=>by
  have h0:=h 0 (by simp)
  rw [Nat.add_zero] at h0
  simp only [ff,h0,cond_false]
  exact z6 r (i+1) bx (fun j hj=>by have:=h (j+1) (by simpa using hj);rw [show i+1+j=i+(j+1) by omega];exact this)
theorem OJ (hT:ko P T) {ops:Array Oper} (hfit:gW ops (cM ops.toList []) 0 ops.toList=true) {base:Nat} {Q:Ex→St→Prop}:
 ∀(fuel:Nat) (listed:Array Bool) (p k:Nat) (cK:List It) (s0:St) (β:Nat→Nat) (w:World) (a:Act),listed.size=ops.size→Down ops (at_ listed)→(∀x,x<p→at_ listed x=true)→(∀x,p+cK.length≤x→at_ listed x=false)→
  listed.toList.count false=fuel→p+cK.length≤ops.size→kF (base+k) cK→
  (∀j it,cK[j]?=some it→∃o,ops[p+j]?=some o∧gZ N o.dst=true∧it.dst=o.dst∧TJ (bH P G) T G ops.toList o (dH tt p (cK.take j) s0.sl) s0.bx it)→
  ((
   p+cK.length=ops.size∧Q .normal ⟨dH tt p cK s0.sl,ff tt p cK s0.bx⟩)∨
   (∃k' o rest,ops.toList.drop (p+cK.length)=o::rest∧barrier (cM ops.toList []) (p+cK.length)=true∧gZ N o.dst=true∧
    ny (bH P G) T G N ops.toList (cM ops.toList []) base s0.bx k' (p+cK.length) (o::rest) Q ⟨dH tt p cK s0.sl,ff tt p cK s0.bx⟩))→
  Ext β0 aV w0 β (ff (at_ listed) p cK s0.bx) w→Fr G N ds β w X ⟨dH (at_ listed) p cK s0.sl,ff (at_ listed) p cK s0.bx⟩ a→
  wpAny P .any ops (gD G N ds X β0 aV w0 Q) fuel listed a w:=by
 intro fuel
 induction fuel with
 |zero=>
  intro listed p k cK s0 β w a hsz hdn hlo hhi Ux hle wT hit hend ex hF
  have hall:∀x,x<ops.size→at_ listed x=true:=by
   intro x hx
   have:=zW listed.toList Ux x (by simpa [hsz] using hx)
   unfold at_
   have h2:listed[x]?=some true:=by simpa using this
   simp [Array.getD_eq_getD_getElem?,h2]
  have hfull:p+cK.length=ops.size:=by
   rcases Nat.lt_or_ge (p+cK.length) ops.size with h|h
   ·have h1:=hall _ h;rw [hhi _ (Nat.le_refl _)] at h1;cases h1
   omega
  refine ⟨?_,?_⟩
  ·rw [List.eq_nil_iff_forall_not_mem]
   intro j hj
   obtain ⟨h1,o,h2,_⟩:=mem_ready.1 hj
   have hjl:j<ops.size:=(Array.getElem?_eq_some_iff.1 h2).1
   have:=hall j hjl
   unfold at_ at this
   simp only [Array.getD_eq_getD_getElem?] at this h1
   cases hq:listed[j]? with
   |none=>rw [hq] at this;simp at this
   |some v=>rw [hq] at this h1;simp at this h1;rw [this] at h1;cases h1
  rcases hend with ⟨_,hQ⟩|⟨k',o,rest,Wv,_⟩
  ·have e1:=kE (m:=at_ listed) (m':=tt) cK p s0.sl (fun j hj=>hall _ (by omega))
   have e2:=mO (m:=at_ listed) (m':=tt) cK p s0.bx (fun j hj=>hall _ (by omega))
   rw [e1,e2] at hF;rw [e2] at ex
   exact ⟨β,_,ex,hF,hQ⟩
  rw [List.drop_eq_nil_of_le (by simp;omega)] at Wv;cases Wv
 |succ fuel ih=>
  intro listed p k cK s0 β w a hsz hdn hlo hhi Ux hle wT hit hend ex hF
  refine ⟨?_,?_⟩
  ·intro hr
   exfalso
   have key:∀x,x<ops.size→at_ listed x=true:=by
    intro x
    induction x using Nat.strongRecOn with
    |_ x ihx=>
     intro hx
     cases hq:at_ listed x with
     |true=>rfl
     |false=>
      exfalso
      have ho:ops[x]?=some ops[x]:=by simp [hx]
      have hp:=(lm hfit x ops[x] (by simp [hx])).1
      have:x∈Region.ready .any ops listed:=by
       refine mem_ready.2 ⟨?_,ops[x],ho,fun e he hb=>?_⟩
       ·unfold at_ at hq
        have hx':x<listed.size:=by omega
        simp [hx'] at hq ⊢;exact hq
       have:=hp e he hb
       exact ihx e.on (by omega) (by omega)
      rw [hr] at this;cases this
   have:listed.toList.count false=0:=by
    rw [List.count_eq_zero]
    intro hm
    obtain ⟨x,hx⟩:=List.mem_iff_getElem?.1 hm
    have NR:x<listed.toList.length:=by
     rcases Nat.lt_or_ge x listed.toList.length with h|h
     ·exact h
     rw [List.getElem?_eq_none h] at hx;cases hx
    have:=key x (by simpa [hsz] using NR)
    unfold at_ at this
    have h2:listed[x]?=some false:=by simpa using hx
    simp [Array.getD_eq_getD_getElem?,h2] at this
   omega
  intro i hi
  obtain ⟨hi1,o,ho,hp⟩:=mem_ready.1 hi
  have hin:i<ops.size:=(Array.getElem?_eq_some_iff.1 ho).1
  have hil:i<listed.size:=by omega
  have xA:at_ listed i=false:=by
   unfold at_
   simp [hil] at hi1 ⊢;exact hi1
  have V0:∀e∈o.after,Region.binds .any e=true→at_ listed e.on=true:=hp
  have hpi:p≤i:=by
   rcases Nat.lt_or_ge i p with h|h
   ·rw [hlo i h] at xA;cases xA
   exact h
  have RE:(listed.setIfInBounds i true).size=ops.size:=by simp [hsz]
  have Ww:Down ops (at_ (listed.setIfInBounds i true)):=by
   intro x ox YZ hx e he hb
   rw [sO hil]
   by_cases hei:e.on=i
   ·simp [hei]
   rw [if_neg hei]
   rw [sO hil] at hx
   by_cases hxi:x=i
   ·subst hxi;rw [ho] at YZ;cases YZ;exact V0 e he hb
   rw [if_neg hxi] at hx;exact hdn x ox YZ hx e he hb
  have TK:(listed.setIfInBounds i true).toList.count false=fuel:=by
   have h2:listed.toList[i]?=some false:=by
    unfold at_ at xA
    simp [hil] at xA
    simp [hil,xA]
   have:=count_set listed.toList i h2
   rw [Array.toList_setIfInBounds]
   omega
  rcases Nat.lt_or_ge i (p+cK.length) with hlt|hge
  ·
   obtain ⟨j,rfl⟩:∃j,i=p+j:=⟨i-p,by omega⟩
   have hj:j<cK.length:=by omega
   have V1:cK[j]?=some cK[j]:=by simp [hj]
   obtain ⟨o',ho',hd,FT,hy⟩:=hit j _ V1
   rw [ho] at ho';cases ho'
   have hun:∀(j:Nat) (it:It) (y:Nat) (cs:aB),cK[j]?=some it→it.bi=some (y,cs)→s0.bx[y]?=some .bC:=by
    intro j' it' y cs hj' hb
    obtain ⟨_,_,_,_,h|h|h⟩:=hit j' it' hj'
    ·obtain ⟨x,cs',h1,h2,_⟩:=h
     rw [h1] at hb;cases hb;exact h2
    ·rw [h.1] at hb;cases hb
    rw [h.1] at hb;cases hb
   have IK:∀(j':Nat) (it':It),cK[j']?=some it'→((j'<j∧at_ listed (p+j')=false)∨(j<j'∧at_ listed (p+j')=true))→
    (∀d,it'.dst=some d→d ∉ o.looksAt ops)∧(∀d,it'.dst=some d→o.dst≠some d):=by
    intro j' it' hj' hc
    obtain ⟨p',hp',_,Wx,_⟩:=hit j' it' hj'
    rw [Wx]
    exact Mh hfit hdn ho hp' xA V0 (hc.imp (fun h=>⟨by omega,h.2⟩) (fun h=>⟨by omega,h.2⟩))
   have Wy:∀t∈o.looksAt ops,gG t (dH tt p (cK.take j) s0.sl)=gG t (dH (at_ listed) p cK s0.sl):=by
    intro t ht
    have e:dH tt p (cK.take j) s0.sl=dH (fun x=>decide (x<p+j)) p cK s0.sl:=zT cK p j s0.sl
    rw [e]
    refine pU cK p _ _ rfl ?_
    intro j' it' hj' hdt
    rcases Nat.lt_trichotomy j' j with h|h|h
    ·rw [decide_eq_true (by omega)]
     cases hq:at_ listed (p+j') with
     |true=>rfl
     |false=>exact absurd ht ((IK j' it' hj' (.inl ⟨h,hq⟩)).1 t hdt)
    ·subst h
     rw [decide_eq_false (by omega),xA]
    rw [decide_eq_false (by omega)]
    cases hq:at_ listed (p+j') with
    |false=>rfl
    |true=>exact absurd ht ((IK j' it' hj' (.inr ⟨h,hq⟩)).1 t hdt)
   have hy':=hy.BI (bx:=ff (at_ listed) p cK s0.bx) Wy (FR cK p s0.bx (lg.refl _) hun) (by
    intro x cs hb
    rw [Cq cK p s0.bx ?_]
    ·exact hun j _ x cs V1 hb
    intro j' it' y cs' hj' hm hb'
    refine wT.apart hj' hb' V1 hb ?_
    rintro rfl
    rw [xA] at hm;cases hm)
   refine OG hT ho hF hy' hd ?_
   intro β' a' w' sg Wz
   have hm':∀x,x≠p+j→at_ (listed.setIfInBounds (p+j) true) x=at_ listed x:=fun x hx=>by rw [sO hil,if_neg hx]
   have hB:ff (at_ (listed.setIfInBounds (p+j) true)) p cK s0.bx=pT cK[j] (ff (at_ listed) p cK s0.bx):=by
    refine zV cK p j cK[j] s0.bx V1 xA (by rw [sO hil,if_pos rfl]) hm' ?_
    intro j' it' y cs x cs0 hj' hne hb' hb0
    exact wT.apart hj' hb' V1 hb0 hne
   refine ih _ p k cK s0 β' w' a' RE Ww (fun x hx=>by rw [hm' x (by omega)];exact hlo x hx) (fun x hx=>by rw [hm' x (by omega)];exact hhi x hx) TK hle wT hit hend (by rw [hB];exact ex.trans sg) ?_
   rw [hB]
   refine Wz.BI (fun t=>?_)
   rw [←FT]
   refine (zU cK p j cK[j] s0.sl V1 xA (by rw [sO hil,if_pos rfl]) hm' ?_).symm
   intro j' it' hj' hlt' hm d Yn Uv
   rw [FT] at Yn
   exact (IK j' it' hj' (.inr ⟨hlt',hm⟩)).2 d Uv Yn
  rcases hend with ⟨hfull,_⟩|⟨k',o',rest,Wv,WA,hd,hop⟩
  ·omega
  obtain ⟨vD,tK⟩:=DK WA
  have hiq:i=p+cK.length:=by
   rcases Nat.lt_or_ge (p+cK.length) i with h|h
   ·have h1:=closed hdn i o ho V0 _ (tK i h (by rw [pW];simpa using hin))
    rw [hhi _ (Nat.le_refl _)] at h1;cases h1
   omega
  subst hiq
  have hoo:o'=o:=by
   have:=congrArg (fun l=>l[0]?) Wv
   simp only [List.getElem?_drop,Nat.add_zero,List.getElem?_cons_zero] at this
   have h3:ops.toList[p+cK.length]?=ops[p+cK.length]?:=by simp
   rw [h3,ho] at this;cases this;rfl
  subst hoo
  have oZ:rest=ops.toList.drop (p+cK.length+1):=by
   have:=congrArg (List.drop 1) Wv
   simpa [List.drop_drop] using this.symm
  have hall:∀x,x<p+cK.length→at_ listed x=true:=fun x hx=>closed hdn _ o' ho V0 x (vD x hx)
  have e1:=kE (m:=at_ listed) (m':=tt) cK p s0.sl (fun j hj=>hall _ (by omega))
  have e2:=mO (m:=at_ listed) (m':=tt) cK p s0.bx (fun j hj=>hall _ (by omega))
  rw [e1,e2] at hF;rw [e2] at ex
  have next:∀(s1:St) (β':Nat→Nat) (w':World) (a':Act),ny (bH P G) T G N ops.toList (cM ops.toList []) base s1.bx k' (p+cK.length+1) rest Q s1→Ext β0 aV w0 β' s1.bx w'→Fr G N ds β' w' X s1 a'→
   wpAny P .any ops (gD G N ds X β0 aV w0 Q) fuel (listed.setIfInBounds (p+cK.length) true) a' w':=by
   intro s1 β' w' a' h1 zB EV
   obtain ⟨Uy,k1,g1,g2,g3,g4⟩:=sN _ _ _ _ h1
   have hlen:rest.length=ops.size-(p+cK.length+1):=by rw [oZ];simp
   have vR:∀j:Nat,rest[j]?=ops[p+cK.length+1+j]?:=by intro j;rw [oZ];simp
   have TL:∀x,p+cK.length+1≤x→at_ (listed.setIfInBounds (p+cK.length) true) x=false:=by
    intro x hx;rw [sO hil,if_neg (by omega)];exact hhi x (by omega)
   have f1:=zZ (m:=at_ (listed.setIfInBounds (p+cK.length) true)) Uy (p+cK.length+1) s1.sl (fun j _=>TL _ (by omega))
   have f2:=z6 (m:=at_ (listed.setIfInBounds (p+cK.length) true)) Uy (p+cK.length+1) s1.bx (fun j _=>TL _ (by omega))
   refine ih _ (p+cK.length+1) k' Uy s1 β' w' a' RE Ww ?_ (fun x hx=>TL x (by omega)) TK (by omega) g1 ?_ ?_ (by rw [f2];exact zB) (by rw [f1,f2];exact EV)
   ·intro x hx
    rw [sO hil]
    by_cases hxq:x=p+cK.length
    ·simp [hxq]
    rw [if_neg hxq];exact hall x (by omega)
   ·intro j it hj
    obtain ⟨o2,q1,q2,q3,q4⟩:=g3 j it hj
    exact ⟨o2,by rw [←vR];exact q1,q2,q3,q4⟩
   rcases g4 with ⟨q1,q2⟩|⟨o2,WB,q1,q2,q3,q4⟩
   ·exact .inl ⟨by omega,q2⟩
   exact .inr ⟨k1,o2,WB,by rw [oZ,List.drop_drop] at q1;exact q1,q2,q3,q4⟩
  unfold ny at hop
  simp only [hd,cond_true,WA] at hop
  unfold wpOp
  rw [ho]
  simp only
  split at hop
  ·rename_i hg
   rw [if_pos (by simp [Region.wanted,hg])]
   refine .inl (mN hT hF hop ?_ ?_)
   ·intro β' aZ w' v u sg mB hv hK
    exact next ⟨eH o'.dst v _,aZ⟩ β' w' _ hK (ex.trans sg) (hF.put sg mB hd hv)
   intro β' aZ w' v u sg mB hv hK
   exact ⟨β',aZ,v,u,rfl,ex.trans sg,mB,hv,hF.defers,hK⟩
  rename_i j want hg
  split at hop
  ·rename_i g Ia
   have hy:=ld hF Ia
   cases g with
   |true=>
    rw [if_pos (by simp only [Region.wanted,hg];exact hy)]
    refine .inl (xj hT hF hop ?_)
    rintro β' aZ w' v u sg mB hv ⟨hK,rfl⟩
    refine next ⟨eH o'.dst (.cond true v) _,_⟩ β' w' _ hK (ex.trans sg) (hF.put sg mB hd ?_)
    simp only [ak];exact ⟨fun _=>hv,by simp⟩
   |false=>
    rw [if_neg (by simp only [Region.wanted,hg];rw [hy];simp)]
    obtain ⟨v,hK⟩:=zM hop
    refine next ⟨eH o'.dst (.cond false v) _,_⟩ β w _ hK ex (hF.put (Ext.refl _ _ _) hF.cx hd ?_)
    simp only [ak];simp
  exact hop.elim
variable {β:Nat→Nat} {bx:List aB} {w:World}
theorem oB {n i:Nat} {b:aB} (h:(bx++List.replicate n .bC)[i]?=some b):bx[i]?=some b∨b=.bC:=by
 rcases Nat.lt_or_ge i bx.length with hl|hl
 ·rw [List.getElem?_append_left hl] at h;exact .inl h
 rw [List.getElem?_append_right hl,List.getElem?_replicate] at h
 split at h
 ·exact .inr (by simpa using h.symm)
 cases h
theorem sQ (n:Nat):Ext β bx w β (bx++List.replicate n .bC) w:=by
 refine ⟨rfl,rfl,rfl,Nat.le_refl _,fun _ _ _=>rfl,fun _ c _ _ h=>⟨c,h,rfl⟩,?_,?_⟩
 ·rintro i ⟨b,h1,h2⟩
  exact ⟨rfl,b,by rw [List.getElem?_append_left (jg h1)];exact h1,h2⟩
 intro i b h hl
 rcases oB h with h1|rfl
 ·exact .inr ⟨i,b,h1,hl,rfl⟩
 simp [aB.live] at hl
theorem IL (cx:cJ G β bx w X) (n:Nat):cJ G β (bx++List.replicate n .bC) w X:=by
 refine cx.step (sQ n) ?_ ?_
 ·intro i b h
  rcases oB h with h1|rfl
  ·exact .inl ⟨h1,fun _=>rfl⟩
  exact .inr trv
 intro i j bi bj hi hj mC ou he
 rcases oB hi with h1|rfl<;>rcases oB hj with h2|rfl
 ·exact cx.inj i j bi bj h1 h2 mC ou he
 ·simp [aB.live] at ou
 ·simp [aB.live] at mC
 simp [aB.live] at mC
def j8 (l l':List Oper):Prop:=l'.length=l.length∧∀(j:Nat) (o o':Oper),l[j]?=some o→l'[j]?=some o'→o'.op=o.op∧o'.dst=o.dst∧o'.guard=o.guard
theorem j8.tail {o o':Oper} {l l':List Oper} (h:j8 (o::l) (o'::l')):j8 l l':=⟨by simpa using h.1,fun j p p' h1 h2=>h.2 (j+1) p p' (by simpa using h1) (by simpa using h2)⟩
theorem BJ {ops ops':List Oper} (h:j8 ops ops') (sl:List (Nat×AV)) (j:Nat) (want:Bool):guardOf sl ops' j want=guardOf sl ops j want:=by
 unfold guardOf
 cases ho:ops[j]? with
 |none=>
  have:ops'[j]?=none:=by rw [List.getElem?_eq_none_iff] at ho ⊢;rw [h.1];exact ho
  rw [this]
 |some o=>
  have hj:j<ops'.length:=by rw [h.1];exact (List.getElem?_eq_some_iff.1 ho).1
  have:=h.2 j o ops'[j] ho (List.getElem?_eq_getElem hj)
  rw [List.getElem?_eq_getElem hj]
  simp only
  rw [this.2.1]
theorem z7 {FC:Nat→List AV→List aB→jN→List aB→Prop} {ops ops':List Oper} (Uz:j8 ops ops') {b:List Nat} {base:Nat} {Q:Ex→St→Prop}:∀(l l':List Oper) (ij:List aB) (k i:Nat) (s:St),j8 l l'→ny FC T G N ops' b base ij k i l' Q s=ny FC T G N ops b base ij k i l Q s
 |[],[],_,_,_,_,_=>rfl
 |[],_::_,_,_,_,_,h=>by have:=h.1;simp at this
 |_::_,[],_,_,_,_,h=>by have:=h.1;simp at this
 |o::l,o'::l',ij,k,i,s,h=>by
  obtain ⟨e1,e2,e3⟩:=h.2 0 o o' rfl rfl
  have hb:iz T G s.sl o'=iz T G s.sl o:=by unfold iz;rw [e1,e3]
  have hu:∀s K Q,pF FC T G o' s K Q=pF FC T G o s K Q:=fun s K Q=>by unfold pF;rw [e1]
  have hg:∀g s K,stepG FC T G g o' s K=stepG FC T G g o s K:=fun g s K=>by unfold stepG vH;rw [e1]
  have hc:∀sl ij x K,lK FC G o' sl ij x K=lK FC G o sl ij x K:=fun sl ij x K=>by unfold lK;rw [e1]
  have ih:=fun ij k i s=>z7 (FC:=FC) (ops:=ops) (ops':=ops') Uz (b:=b) (base:=base) (Q:=Q) l l' ij k i s h.tail
  simp only [ny,e2,e3,hb,hu,hg,hc,ih,BJ Uz]
theorem FX (pre:List Nat) (l:List Oper):j8 l (cr pre 0 l):=by
 refine ⟨kq pre l 0,fun j o o' h1 h2=>?_⟩
 rw [l8,h1] at h2
 simp only [Option.map_some,osI] at h2
 subst h2
 obtain ⟨e1,e2,e3,_⟩:=lp pre (0+j) o
 exact ⟨e1,e2,e3⟩
theorem vV (a:Array Oper) (late:List Nat):∀(l:List Oper) (i j:Nat),(ig a late i l)[j]?=(l[j]?).map (kn a late (i+j))
 |[],_,_=>by simp [ig]
 |o::r,i,0=>by simp [ig]
 |o::r,i,j+1=>by
  simp only [ig,List.getElem?_cons_succ]
  rw [vV a late r (i+1) j,show i+1+j=i+(j+1) by omega]
theorem oC (a:Array Oper) (late:List Nat):∀(l:List Oper) (i:Nat),(ig a late i l).length=l.length
 |[],_=>rfl
 |o::r,i=>by simp [ig,oC a late r]
theorem ru (a:Array Oper):∀(l:List Oper) (i:Nat),ig a [] i l=l
 |[],_=>rfl
 |o::r,i=>by simp only [ig,ru a r];simp [kn]
theorem IM (a:Array Oper) (late:List Nat) (l:List Oper):j8 l (ig a late 0 l):=by
 refine ⟨oC a late l 0,fun j o o' h1 h2=>?_⟩
 rw [vV,h1] at h2
 simp only [Option.map_some,osI] at h2
 subst h2
 obtain ⟨x,e⟩:=lq a late (0+j) o
 rw [e];exact ⟨rfl,rfl,rfl⟩
theorem j8.trans {l l' l'':List Oper} (h:j8 l l') (g:j8 l' l''):j8 l l'':=by
 refine ⟨g.1.trans h.1,fun j o o'' h1 h2=>?_⟩
 have hj:j<l'.length:=by rw [h.1];exact (List.getElem?_eq_some_iff.1 h1).1
 obtain ⟨a1,a2,a3⟩:=h.2 j o l'[j] h1 (List.getElem?_eq_getElem hj)
 obtain ⟨b1,b2,b3⟩:=g.2 j l'[j] o'' (List.getElem?_eq_getElem hj) h2
 exact ⟨b1.trans a1,b2.trans a2,b3.trans a3⟩
theorem oD (ops:Array Oper):∀(pre done:List Nat),iV ops done pre=true→pre.Nodup∧(∀p∈pre,p ∉ done)∧∀p∈pre,p<ops.size
 |[],_,_=>⟨List.nodup_nil,by simp,by simp⟩
 |p::r,done,h=>by
  unfold iV at h
  cases ho:ops[p]? with
  |none=>simp [ho] at h
  |some o=>
   simp only [ho,Bool.and_eq_true] at h
   obtain ⟨⟨⟨⟨f1,_⟩,_⟩,_⟩,f5⟩:=h
   obtain ⟨g1,g2,g3⟩:=oD ops r _ f5
   refine ⟨List.nodup_cons.2 ⟨fun hp=>g2 p hp (by simp),g1⟩,?_,?_⟩
   ·intro q hq;rcases List.mem_cons.1 hq with rfl|hq
    ·simpa using f1
    exact fun hh=>g2 q hq (by simp [hh])
   intro q hq;rcases List.mem_cons.1 hq with rfl|hq
   ·exact (Array.getElem?_eq_some_iff.1 ho).1
   exact g3 q hq
theorem FY (t u:Nat) (v:AV):∀l:List (Nat×AV),gG t (Rq u v l)=bif Nat.beq t u then v else gG t l
 |[]=>rfl
 |(s,x)::r=>by
  simp only [Rq]
  cases h1:Nat.beq u s with
  |true=>
   have:=Nat.eq_of_beq_eq_true h1;subst this
   simp only [cond_true,gG]
   cases Nat.beq t u<;>rfl
  |false=>
   simp only [cond_false]
   cases h2:Nat.blt u s with
   |true=>rfl
   |false=>
    simp only [cond_false,gG]
    rw [FY t u v r]
    cases h3:Nat.beq t s with
    |false=>simp
    |true=>
     have:=Nat.eq_of_beq_eq_true h3;subst this
     have:Nat.beq t u=false:=by
      cases h:Nat.beq t u with
      |false=>rfl
      |true=>have:=Nat.eq_of_beq_eq_true h;subst this;rw [h] at h1;cases h1
     simp [this]
theorem z8 (t:Nat):∀l:List (Nat×AV),gG t (BF l)=gG t l
 |[]=>rfl
 |(u,v)::r=>by rw [BF,FY,z8 t r];rfl
section
variable {N:Nat} {ds:List Deferred} {X:Nat→Prop} {β0:Nat→Nat} {aV:List aB} {w0:World}
theorem pX (hT:ko P T) {ops ops':Array Oper} {pre:List Nat} (FZ:nG pre ops ops') {QQ:Exit→Act→World→Prop} {Q:Ex→St→Prop} {i:Nat} {KS:St→Prop} {NX:Act→World→Prop} {β:Nat→Nat} {w:World} {s:St} {a:Act} (ex:Ext β0 aV w0 β s.bx w) (hF:Fr G N ds β w X s a)
 (hp:∀β bx v u w a,Ext β0 aV w0 β bx w→cJ G β bx w X→ak β bx w (bz β bx w X) v u→a.defers=ds→Q (.panic v) ⟨[],bx⟩→QQ (.panic [{v:=u,recovered:=false}]) a w)
 (h:wR (bH P G) T G N ops.toList i KS Q s) (hn:∀β w s a,Ext β0 aV w0 β s.bx w→Fr G N ds β w X s a→KS s→NX a w):wpOp P ops' QQ i NX a w:=by
 rw [sP FZ]
 unfold wR at h
 unfold wpOp
 simp only [Array.getElem?_toList] at h
 cases ho:ops[i]? with
 |none=>rw [ho] at h;exact h.elim
 |some o=>
  rw [ho] at h
  simp only at h ⊢
  cases hd:gZ N o.dst with
  |false=>rw [hd] at h;exact h.elim
  |true=>
   rw [hd] at h
   simp only [cond_true] at h
   have LZ:∀{s1:St},s1=s→Oy G β s1.bx w X a (fun v bx=>Q (.panic v) ⟨[],bx⟩) QQ:=fun e β' aZ w' v u sg mB hv hK=>by subst e;exact hp β' aZ v u w' a (ex.trans sg) mB hv hF.defers hK
   split at h
   ·rename_i hg
    rw [if_pos (by unfold Region.wanted;rw [hg])]
    exact .inl (mN hT hF h (fun β' aZ w' v u sg mB hv hK=>hn β' w' ⟨eH o.dst v s.sl,aZ⟩ _ (ex.trans sg) (hF.put sg mB hd hv) hK) (LZ rfl))
   rename_i j want hg
   split at h
   ·rename_i g Ia
    have hy:=ld hF Ia
    obtain ⟨h⟩:=h
    cases g with
    |true=>
     rw [if_pos (by simp only [Region.wanted,hg];exact hy)]
     refine .inl (mN hT hF (h.1 rfl) (fun β' aZ w' v u sg mB hv hK=>hn β' w' ⟨eH o.dst (.cond true v) s.sl,aZ⟩ _ (ex.trans sg) (hF.put sg mB hd ?_) hK) (LZ rfl))
     simp only [ak];exact ⟨fun _=>hv,by simp⟩
    |false=>
     rw [if_neg (by simp only [Region.wanted,hg];rw [hy];simp)]
     refine hn β w ⟨eH o.dst (.cond false .any) s.sl,s.bx⟩ _ ex (hF.put (Ext.refl _ _ _) hF.cx hd ?_) (h.2 rfl)
     simp only [ak];simp
   exact h.elim
theorem uD (hT:ko P T) {ops ops':Array Oper} {pre:List Nat} (FZ:nG pre ops ops') {R:St→Prop} {QQ:Exit→Act→World→Prop} {Q:Ex→St→Prop}
 (hp:∀β bx v u w a,Ext β0 aV w0 β bx w→cJ G β bx w X→ak β bx w (bz β bx w X) v u→a.defers=ds→Q (.panic v) ⟨[],bx⟩→QQ (.panic [{v:=u,recovered:=false}]) a w)
 (hR:∀β w s a,Ext β0 aV w0 β s.bx w→Fr G N ds β w X s a→R s→QQ .normal a w):∀(tr:OT) (n:Nat) (listed:Array Bool) (β:Nat→Nat) (w:World) (s:St) (a:Act),Ext β0 aV w0 β s.bx w→Fr G N ds β w X s a→
  L2 (bH P G) T G N ops.toList Q R tr s→tr.depth≤n→
  (tr.fit ops' true listed=true→wpAny P .any ops' QQ n listed a w)∧
  (tr.fit ops' false listed=true→∀i∈tr.KD,wpOp P ops' QQ i (wpAny P .any ops' QQ (n-1) (listed.setIfInBounds i true)) a w)
 |.done,n,listed,β,w,s,a,ex,hF,h,_=>by
  refine ⟨fun hf=>?_,fun _ i hi=>by cases hi⟩
  simp only [OT.fit,Bool.not_true,Bool.false_or] at hf
  exact wpAny_done (List.isEmpty_iff.1 hf) (hR β w s a ex hF h) n
 |.one i o,n,listed,β,w,s,a,ex,hF,h,hd=>by
  simp only [OT.depth] at hd
  obtain ⟨m,rfl⟩:∃m,n=m+1:=⟨n-1,by omega⟩
  have key:o.fit ops' true (listed.setIfInBounds i true)=true→wpOp P ops' QQ i (wpAny P .any ops' QQ m (listed.setIfInBounds i true)) a w:=fun hf=>
   pX hT FZ ex hF hp h fun β w s a ex hF hK=>(uD hT FZ hp hR o m _ β w s a ex hF hK (by omega)).1 hf
  refine ⟨fun hf=>?_,fun hf j hj=>?_⟩
  ·simp only [OT.fit,Bool.not_true,Bool.false_or,Bool.and_eq_true,beq_iff_eq] at hf
   exact wpAny_all hf.1 (by simp) fun j hj=>by simp at hj;subst hj;exact key hf.2
  simp only [OT.fit,Bool.not_false,Bool.true_or,Bool.true_and] at hf
  simp only [OT.KD,List.mem_singleton] at hj
  subst hj;exact key hf
 |.more i o r,n,listed,β,w,s,a,ex,hF,h,hd=>by
  simp only [OT.depth] at hd
  obtain ⟨m,rfl⟩:∃m,n=m+1:=⟨n-1,by omega⟩
  have key:o.fit ops' true (listed.setIfInBounds i true)=true→wpOp P ops' QQ i (wpAny P .any ops' QQ m (listed.setIfInBounds i true)) a w:=fun hf=>
   pX hT FZ ex hF hp h.1 fun β w s a ex hF hK=>(uD hT FZ hp hR o m _ β w s a ex hF hK (by omega)).1 hf
  have rest:=(uD hT FZ hp hR r (m+1) listed β w s a ex hF h.2 (by omega)).2
  refine ⟨fun hf=>?_,fun hf j hj=>?_⟩
  ·simp only [OT.fit,Bool.not_true,Bool.false_or,Bool.and_eq_true,beq_iff_eq] at hf
   refine wpAny_all hf.1 (by simp) fun j hj=>?_
   rcases List.mem_cons.1 hj with rfl|hj
   ·exact key hf.2.1
   exact rest hf.2.2 j hj
  simp only [OT.fit,Bool.not_false,Bool.true_or,Bool.true_and,Bool.and_eq_true] at hf
  rcases List.mem_cons.1 hj with rfl|hj
  ·exact key hf.1
  exact rest hf.2 j hj
end
theorem F0 (hT:ko P T) (hm:P.follows .mixedOrders=true) {N:Nat} {ds:List Deferred} {X:Nat→Prop} {β0:Nat→Nat} {aV:List aB} {w0:World} {id:Nat} {fh:Array Oper} {Q:Ex→St→Prop} {β:Nat→Nat} {w:World} {s:St} {a:Act} (ex:Ext β0 aV w0 β s.bx w) (hF:Fr G N ds β w X s a)
 (h:Tx (bH P G) T G N fh.toList Q s):(Code.region id fh true).wp P (gD G N ds X β0 aV w0 Q) a w:=by
 obtain ⟨pre,tr,s1,⟨Ol,Od,Y0⟩,hft,hx,hpost⟩:=h
 unfold OT.fits at hft
 rw [Bool.and_eq_true] at hft
 simp only [Array.length_toList] at hft
 refine wp_region_any hm ?_
 have FZ:nG pre fh (cr pre 0 fh.toList).toArray:=by intro j;simp [l8]
 have hsame:=fB w
 have Mi:Fr G N ds β {w with drawn:=w.drawn+1} X s a:=⟨pH hF.cx hsame,hF.defers,hF.size,fun t=>ak.mono ((iX hsame).eS X) _ _ (hF.yI t)⟩
 have hgoal:=(uD (X:=X) hT FZ (QQ:=gD G N ds X β0 aV w0 Q) (fun β bx v u w a ex cx hv hd hq=>⟨β,bx,v,u,rfl,ex,cx,hv,hd,hq⟩) (fun β w s a ex hF hR=>by
  subst hR
  exact ⟨β,⟨BF s.sl,s.bx⟩,ex,hF.BI fun t=>(z8 t s.sl).symm,hpost⟩) tr fh.size (Array.replicate fh.size false) β _ s a (ex.trans (iX hsame)) Mi hx (Nat.le_of_ble_eq_true hft.1)).1 hft.2
 have OK:iV fh [] pre=true:=by simpa using Ol
 obtain ⟨n1,n2,n3⟩:=oD _ _ _ OK
 have hle:pre.length≤fh.size:=by
  have:=List.Nodup.length_le_of_subset n1 (fun p hp=>List.mem_range.2 (n3 p hp):pre ⊆ List.range fh.size)
  simpa using this
 obtain ⟨fuel,hfuel⟩:∃fuel,fh.size=pre.length+fuel:=⟨fh.size-pre.length,by omega⟩
 rw [hfuel] at hgoal ⊢
 have vR:∀p,p<pre.length+fuel→(Array.replicate (pre.length+fuel) false).getD p true=false:=by intro p hp;simp [hp]
 refine vT (G:=G) (N:=N) FZ (by simpa using Od) ?_ fuel _ pre [] _ a s.sl OK Y0 ?_ hF.size (by simp) (fun p hp _=>vR p (by have:=n3 p hp;omega)) (fun p hp=>.inr hp) (fun p hp=>hp) (by simp [hfuel]) n1 hgoal
 ·intro c a a' w ha hq
  simp only [gD] at hq ⊢
  obtain ⟨β,bx,v,u,h1,h2,h3,h4,h5,h6⟩:=hq
  exact ⟨β,bx,v,u,h1,h2,h3,h4,ha.symm.trans h5,h6⟩
 intro t k z hk
 have:=hF.yI t
 rw [hk] at this
 simpa only [ak,aS] using this
section
variable {P:Program} {T:Nat→Option TI} {G:Nat→Option (List D)} {N:Nat} {ds:List Deferred} {X:Nat→Prop}
variable {β0:Nat→Nat} {aV:List aB} {w0:World}
theorem OL:∀{l m:List Bool},VS l m=true→l=m
 |[],[],_=>rfl
 |a::l,b::m,h=>by
  simp only [VS,Bool.and_eq_true,beq_iff_eq] at h
  rw [h.1,OL h.2]
 |[],_::_,h=>by simp [VS] at h
 |_::_,[],h=>by simp [VS] at h
theorem F1 {k i:Nat}:∀{l:List (Nat×Nat)},N0 k i l=true→(k,i)∈l
 |[],h=>by simp [N0] at h
 |(p,j)::r,h=>by
  simp only [N0,Bool.or_eq_true,Bool.and_eq_true,Nat.beq_eq] at h
  rcases h with ⟨rfl,rfl⟩|h
  ·exact List.mem_cons_self ..
  exact List.mem_cons_of_mem _ (F1 h)
theorem DM {ops:Array Oper} {pl:List Nd} {z:Nat}:∀{l:List Nd} {k j:Nat} {nd:Nd},N1 ops pl z k l=true→l[j]?=some nd→
 (Region.ready .any ops nd.ls.toArray=[]∧k+j=z)∨(Region.ready .any ops nd.ls.toArray≠[]∧∀i∈Region.ready .any ops nd.ls.toArray,i<nd.ls.length∧nd.ls[i]?=some false∧∃e∈pl,e.ls=nd.ls.set i true∧(k+j,i)∈e.ps)
 |[],_,_,_,_,h=>by simp at h
 |x::l,k,0,nd,h,hj=>by
  simp only [List.getElem?_cons_zero,osI] at hj
  subst hj
  simp only [N1,Bool.and_eq_true] at h
  have h:=h.1
  split at h
  ·rename_i g;exact .inl ⟨g,by simpa using Nat.eq_of_beq_eq_true h⟩
  rename_i rs g
  refine .inr ⟨fun e=>g e,fun i hi=>?_⟩
  have:=List.all_eq_true.1 h i hi
  simp only [Bool.and_eq_true,beq_iff_eq,List.any_eq_true] at this
  obtain ⟨⟨h1,h2⟩,e,he,h3,h4⟩:=this
  have h1:i<x.ls.length:=Nat.le_of_ble_eq_true h1
  refine ⟨h1,?_,e,he,OL h3,F1 h4⟩
  rw [List.getD_eq_getElem?_getD,List.getElem?_eq_getElem h1] at h2
  rw [List.getElem?_eq_getElem h1]
  simpa using h2
 |x::l,k,j+1,nd,h,hj=>by
  simp only [List.getElem?_cons_succ] at hj
  simp only [N1,Bool.and_eq_true] at h
  have:=DM h.2 hj
  rw [show k+(j+1)=k+1+j by omega]
  exact this
theorem F2 {FC:Nat→List AV→List aB→jN→List aB→Prop} {ops:List Oper} {Q:Ex→St→Prop} {S:List St} {s s0:St} {p i:Nat}:∀{l:List (Nat×Nat)},E1 FC T G N ops Q S s l→(p,i)∈l→S[p]?=some s0→wR FC T G N ops i (fun s1=>(⟨BF s1.sl,s1.bx⟩:St)=s) Q s0
 |[],_,h,_=>by simp at h
 |(q,j)::r,h,hm,hs=>by
  rcases List.mem_cons.1 hm with e|hm
  ·obtain ⟨rfl,rfl⟩:=Prod.mk.inj e
   have:=h.1
   rw [hs] at this
   exact this
  exact F2 h.2 hm hs
theorem KW {FC:Nat→List AV→List aB→jN→List aB→Prop} {ops:List Oper} {Q:Ex→St→Prop} {S:List St}:∀{l:List Nd} {k j:Nat} {nd:Nd},allM FC T G N ops Q S k l→l[j]?=some nd→∃s,S[k+j]?=some s∧E1 FC T G N ops Q S s nd.ps
 |[],_,_,_,_,h=>by simp at h
 |x::l,k,0,nd,h,hj=>by
  simp only [List.getElem?_cons_zero,osI] at hj
  subst hj
  have:=h.1
  split at this
  ·rename_i s g;exact ⟨s,g,this⟩
  exact this.elim
 |x::l,k,j+1,nd,h,hj=>by
  simp only [List.getElem?_cons_succ] at hj
  obtain ⟨s,g1,g2⟩:=KW h.2 hj
  exact ⟨s,by rw [←g1];congr 1;omega,g2⟩
theorem sR:∀{l:List Bool} {i:Nat},l[i]?=some false→(l.set i true).count false+1=l.count false
 |[],_,h=>by simp at h
 |a::l,0,h=>by
  simp only [List.getElem?_cons_zero,osI] at h
  subst h
  simp
 |a::l,i+1,h=>by
  simp only [List.getElem?_cons_succ] at h
  have:=sR h
  simp only [List.set_cons_succ,List.count_cons]
  omega
theorem OM (hT:ko P T) {ops:Array Oper} {pl:List Nd} {S:List St} {QQ:Exit→Act→World→Prop} {Q:Ex→St→Prop} (FZ:nG [] ops ops) (hfit:KB ops pl=true)
 (hp:∀β bx v u w a,Ext β0 aV w0 β bx w→cJ G β bx w X→ak β bx w (bz β bx w X) v u→a.defers=ds→Q (.panic v) ⟨[],bx⟩→QQ (.panic [{v:=u,recovered:=false}]) a w)
 (hm:allM (bH P G) T G N ops.toList Q S 1 pl)
 (hR:∀β w s a,Ext β0 aV w0 β s.bx w→Fr G N ds β w X s a→S[pl.length]?=some s→QQ .normal a w):∀(n k:Nat) (nd:Nd) (s:St) (β:Nat→Nat) (w:World) (a:Act),
  (⟨List.replicate ops.size false,[]⟩::pl:List Nd)[k]?=some nd→S[k]?=some s→Ext β0 aV w0 β s.bx w→Fr G N ds β w X s a→nd.ls.count false≤n→wpAny P .any ops QQ n nd.ls.toArray a w:=by
 intro n
 induction n with
 |zero=>
  intro k nd s β w a hk hs ex hF hc
  rcases DM hfit hk with ⟨h1,h2⟩|⟨h1,h2⟩
  ·rw [Nat.zero_add] at h2;subst h2
   exact wpAny_done h1 (hR β w s a ex hF hs) 0
  exfalso
  obtain ⟨i,hi⟩:=List.exists_mem_of_ne_nil _ h1
  have:=sR (h2 i hi).2.1
  omega
 |succ n ih=>
  intro k nd s β w a hk hs ex hF hc
  rcases DM hfit hk with ⟨h1,h2⟩|⟨h1,h2⟩
  ·rw [Nat.zero_add] at h2;subst h2
   exact wpAny_done h1 (hR β w s a ex hF hs) (n+1)
  refine wpAny_all rfl h1 fun i hi=>?_
  obtain ⟨g1,g2,e,he,g3,g4⟩:=h2 i hi
  rw [Nat.zero_add] at g4
  obtain ⟨j,hj⟩:=List.getElem?_of_mem he
  obtain ⟨s',q1,q2⟩:=KW hm hj
  have hst:=F2 q2 g4 hs
  refine pX hT FZ ex hF hp hst fun β w s1 a ex hF hK=>?_
  subst hK
  have:=ih (1+j) e ⟨BF s1.sl,s1.bx⟩ β w a (by rw [Nat.add_comm];simpa using hj) q1 ex (hF.BI fun t=>(z8 t s1.sl).symm) (by rw [g3];have:=sR g2;omega)
  rw [g3] at this
  simpa using this
theorem Cs (ks:List Nat) (t:Nat):∀l:List (Nat×AV),gG t (wS ks l)=bif ks.contains t then gG t l else .any
 |[]=>by simp [wS,gG]
 |(u,v)::r=>by
  have ih:=Cs ks t r
  simp only [wS]
  cases h:Nat.beq t u with
  |true=>
   have:=Nat.eq_of_beq_eq_true h;subst this
   cases hk:ks.contains t with
   |true=>simp [gG]
   |false=>rw [cond_false,ih,hk];rfl
  |false=>
   cases hk:ks.contains u with
   |true=>simp only [cond_true,gG,h,cond_false];exact ih
   |false=>simp only [cond_false,gG,h];exact ih
theorem Fr.yJ {N:Nat} {ds:List Deferred} {X:Nat→Prop} {β:Nat→Nat} {w:World} {s:St} {a:Act} (hF:Fr G N ds β w X s a) (ks:List Nat):Fr G N ds β w X ⟨wS ks s.sl,s.bx⟩ a:=
 ⟨hF.cx,hF.defers,hF.size,fun t=>by
  simp only [Cs]
  cases ks.contains t with
  |true=>exact hF.yI t
  |false=>simp only [cond_false,ak]⟩
theorem F3 (hT:ko P T) (hm:P.follows .mixedOrders=true) {id:Nat} {fh:Array Oper} {Q:Ex→St→Prop} {β:Nat→Nat} {w:World} {s:St} {a:Act} (ex:Ext β0 aV w0 β s.bx w) (hF:Fr G N ds β w X s a)
 (h:Ty (bH P G) T G N fh.toList Q s):(Code.region id fh true).wp P (gD G N ds X β0 aV w0 Q) a w:=by
 obtain ⟨pl,S,s1,s0,h1,⟨h2,h0⟩,h3,h4,h5⟩:=h
 obtain ⟨eb,hF⟩:s0.bx=s.bx∧Fr G N ds β w X s0 a:=by
  rcases h0 with rfl|⟨ks,rfl⟩
  ·exact ⟨rfl,hF⟩
  exact ⟨rfl,hF.yJ ks⟩
 rw [←eb] at ex
 clear h0 eb
 refine wp_region_any hm ?_
 have h1:KB fh pl=true:=by simpa using h1
 have FZ:nG [] fh fh:=by
  have:nG [] fh (cr [] 0 fh.toList).toArray:=by intro j;simp [l8]
  rwa [oA] at this
 have hsame:=fB w
 have Mi:Fr G N ds β {w with drawn:=w.drawn+1} X s0 a:=⟨pH hF.cx hsame,hF.defers,hF.size,fun t=>ak.mono ((iX hsame).eS X) _ _ (hF.yI t)⟩
 have:=OM (X:=X) hT FZ (QQ:=gD G N ds X β0 aV w0 Q) h1 (fun β bx v u w a ex cx hv hd hq=>⟨β,bx,v,u,rfl,ex,cx,hv,hd,hq⟩) h4 (fun β w s a ex hF hR=>by
  rw [h3] at hR
  cases hR
  exact ⟨β,s1,ex,hF,h5⟩) fh.size 0 ⟨List.replicate fh.size false,[]⟩ s0 β _ a rfl h2 (ex.trans (iX hsame)) Mi (by simp [List.count_replicate])
 simpa using this
end
theorem RT (hT:ko P T) (hm:P.follows .mixedOrders=true):pQ P T G:=by
 intro N ds X β0 aV w0 id fh Q β w s a ex hF h
 rcases h with h|h|h
 ·exact F0 hT hm ex hF h
 ·exact F3 hT hm ex hF h
 obtain ⟨pre,late,hpre,⟨hfit⟩,WC⟩:=h
 refine wp_region_any hm ?_
 obtain ⟨IN,KX⟩:∃ops:Array Oper,ops=(cr pre 0 fh.toList).toArray:=⟨_,rfl⟩
 obtain ⟨ops,RU⟩:∃ops:Array Oper,ops=(ig IN late 0 (cr pre 0 fh.toList)).toArray:=⟨_,rfl⟩
 have Y1:IN.size=fh.size:=by rw [KX];simp [kq]
 have hsz:ops.size=fh.size:=by rw [RU];simp [oC,kq]
 have FZ:nG pre fh IN:=by intro j;rw [KX];simp [l8]
 have hla:FW late IN ops:=by intro j;rw [RU];simp only [List.getElem?_toArray,vV,Nat.zero_add];rw [KX];simp
 have hl:ops.toList=ig IN late 0 (cr pre 0 fh.toList):=by rw [RU]
 rw [←KX] at hfit WC hpre
 have hal:j8 fh.toList (ig IN late 0 (cr pre 0 fh.toList)):=(FX pre _).trans (IM _ _ _)
 have hop:=WC
 rw [←z7 hal _ _ _ _ _ _ hal] at hop
 rw [←hl] at hfit hop
 have hQQ:∀c (a a':Act) w,a.defers=a'.defers→gD G N ds X β0 aV w0 Q (.panic c) a w→gD G N ds X β0 aV w0 Q (.panic c) a' w:=by
  intro c a a' w ha hq
  simp only [gD] at hq ⊢
  obtain ⟨β,bx,v,u,h1,h2,h3,h4,h5,h6⟩:=hq
  exact ⟨β,bx,v,u,h1,h2,h3,h4,ha.symm.trans h5,h6⟩
 suffices hgoal:wpAny P .any ops (gD G N ds X β0 aV w0 Q) fh.size (Array.replicate fh.size false) a {w with drawn:=w.drawn+1} by
  rcases hpre with ⟨rfl,rfl⟩|⟨Ol,Od,IG,Y0⟩
  ·have e:ops=fh:=by rw [RU,ru,oA]
   rw [e] at hgoal;exact hgoal
  have OK:iV fh [] pre=true:=by simpa using Ol
  have Y2:mK IN=true:=by
   have WD:mK fh=true:=by simpa using Od
   rw [mK,Array.all_eq_true_iff_forall_mem] at WD ⊢
   intro o ho
   obtain ⟨j,hj⟩:=Array.getElem?_of_mem ho
   rw [FZ j] at hj
   cases h0:fh[j]? with
   |none=>rw [h0] at hj;cases hj
   |some o0=>
    rw [h0] at hj
    simp only [Option.map_some,osI] at hj
    rw [←hj,(lp pre j o0).1]
    exact WD o0 (Array.mem_of_getElem? h0)
  have hgoal:=Mg hla IG Y2 hQQ _ _ _ _ (by simp [Y1]) hgoal
  obtain ⟨n1,n2,n3⟩:=oD _ _ _ OK
  have hle:pre.length≤fh.size:=by
   have:=List.Nodup.length_le_of_subset n1 (fun p hp=>List.mem_range.2 (n3 p hp):pre ⊆ List.range fh.size)
   simpa using this
  obtain ⟨fuel,hfuel⟩:∃fuel,fh.size=pre.length+fuel:=⟨fh.size-pre.length,by omega⟩
  rw [hfuel] at hgoal ⊢
  have vR:∀p,p<pre.length+fuel→(Array.replicate (pre.length+fuel) false).getD p true=false:=by intro p hp;simp [hp]
  refine vT (G:=G) (N:=N) FZ (by simpa using Od) hQQ fuel _ pre [] _ a s.sl OK Y0 ?_ hF.size (by simp) (fun p hp _=>vR p (by have:=n3 p hp;omega)) (fun p hp=>.inr hp) (fun p hp=>hp) (by simp [hfuel]) n1 hgoal
  intro t k z hk
  have:=hF.yI t
  rw [hk] at this
  simpa only [ak,aS] using this
 rw [←hsz]
 have WE:gW ops (cM ops.toList []) 0 ops.toList=true:=by simpa using hfit
 obtain ⟨cK,k',g1,g2,g3,g4⟩:=sN _ _ _ _ hop
 have TL:∀x,at_ (Array.replicate ops.size false) x=false:=by
  intro x;unfold at_
  rcases Nat.lt_or_ge x ops.size with h|h<;>simp [h]
 have hsame:=fB w
 have f1:=zZ (m:=at_ (Array.replicate ops.size false)) cK 0 s.sl (fun j _=>TL _)
 have f2:=z6 (m:=at_ (Array.replicate ops.size false)) cK 0 (s.bx++List.replicate (oc fh.toList) .bC) (fun j _=>TL _)
 refine OJ hT WE ops.size _ 0 0 cK ⟨s.sl,s.bx++List.replicate (oc fh.toList) .bC⟩ β _ a (by simp) ?_ (fun x hx=>by omega) (fun x _=>TL x) ?_ (by simpa using g2) g1 ?_ ?_ ?_ ?_
 ·intro x o _ hx;rw [TL] at hx;cases hx
 ·simp
 ·intro j it hj
  obtain ⟨o,q1,q2,q3,q4⟩:=g3 j it hj
  exact ⟨o,by simpa using q1,q2,q3,q4⟩
 ·rcases g4 with ⟨q1,q2⟩|⟨o,rest,q1,q2,q3,q4⟩
  ·exact .inl ⟨by simpa using q1,q2⟩
  exact .inr ⟨k',o,rest,by simpa using q1,q2,q3,q4⟩
 ·rw [f2]
  exact (ex.trans (sQ _)).trans (iX hsame)
 rw [f1,f2]
 have c1:=pH (IL hF.cx (oc fh.toList)) hsame
 refine ⟨c1,hF.defers,hF.size,fun t=>?_⟩
 exact ak.mono (((sQ (oc fh.toList)).trans (iX hsame)).eS X) _ _ (hF.yI t)
end
end Dem
