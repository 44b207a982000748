/- Parts of a proof, joined. -/
import Derived.Test.YtihohjnkkalgiaaGreatDoorM08
set_option linter.all false
set_option maxRecDepth 100000
set_option maxHeartbeats 4000000
open Go
namespace Dem
section
variable {P:Program} {T:Nat→Option TI} {G:Nat→Option (List D)} {N:Nat} {ds:List Deferred} {X:Nat→Prop}
variable {β0:Nat→Nat} {aF:List az} {w0:World}
theorem MX {ops:Array Oper} (hfit:gM ops (cP ops.toList []) 0 ops.toList=true) {m:Nat→Bool} (hd:Down ops m) {i j:Nat} {o p:Oper} (ho:ops[i]?=some o) (hp:ops[j]?=some p)
 (ya:m i=false) (Xb:∀e∈o.after,Region.binds .any e=true→m e.on=true) (hj:(j<i∧m j=false)∨(i<j∧m j=true)):
 (∀d,p.dst=some d→d ∉ o.looksAt ops)∧(∀d,p.dst=some d→o.dst≠some d):=by
 rcases hj with ⟨hlt,Z5⟩|⟨hlt,Z5⟩
 ·have h:=(lq hfit i o (by simpa using ho)).2 j (by omega)
  rw [Nat.zero_add] at h
  rcases h with h|⟨p',hp',h⟩
  ·have:=closed hd i o ho Xb j h;rw [Z5] at this;cases this
  rw [hp] at hp';cases hp'
  obtain ⟨h1,h2,h3⟩:=Oper.apart_spec h
  exact ⟨h1,h2⟩
 have h:=(lq hfit j p (by simpa using hp)).2 i (by omega)
 rw [Nat.zero_add] at h
 rcases h with h|⟨o',ho',h⟩
 ·have:=closed hd j p hp (hd j p hp Z5) i h;rw [ya] at this;cases this
 rw [ho] at ho';cases ho'
 obtain ⟨h1,h2,h3⟩:=Oper.apart_spec h
 exact ⟨h3,fun d Vq he=>h2 d he Vq⟩
theorem Av {m:Nat→Bool}:∀(cK:List It) (i:Nat) (sl:List (Nat×AV)),(∀j,j<cK.length→m (i+j)=false)→dG m i cK sl=sl
 |[],_,_,_=>rfl
 |it::r,i,sl,h=>by
  have h0:=h 0 (by simp)
  rw [Nat.add_zero] at h0
  simp only [dG,h0,cond_false]
  exact Av r (i+1) sl (fun j hj=>by have:=h (j+1) (by simpa using hj);rw [show i+1+j=i+(j+1) by omega];exact this)
theorem Aw {m:Nat→Bool}:∀(cK:List It) (i:Nat) (bx:List az),(∀j,j<cK.length→m (i+j)=false)→fj m i cK bx=bx
 |[],_,_,_=>rfl
 |it::r,i,bx,h=>by
  have h0:=h 0 (by simp)
  rw [Nat.add_zero] at h0
  simp only [fj,h0,cond_false]
  exact Aw r (i+1) bx (fun j hj=>by have:=h (j+1) (by simpa using hj);rw [show i+1+j=i+(j+1) by omega];exact this)
theorem Py (hT:kw P T) {ops:Array Oper} (hfit:gM ops (cP ops.toList []) 0 ops.toList=true) {base:Nat} {Q:Ex→St→Prop}:
 ∀(fuel:Nat) (listed:Array Bool) (p k:Nat) (cK:List It) (s0:St) (β:Nat→Nat) (w:World) (a:Act),listed.size=ops.size→Down ops (at_ listed)→(∀x,x<p→at_ listed x=true)→(∀x,p+cK.length≤x→at_ listed x=false)→
  listed.toList.count false=fuel→p+cK.length≤ops.size→kK (base+k) cK→
  (∀j it,cK[j]?=some it→∃o,ops[p+j]?=some o∧gX N o.dst=true∧it.dst=o.dst∧UH (bC P G) T G ops.toList o (dG tt p (cK.take j) s0.sl) s0.bx it)→
  ((
   p+cK.length=ops.size∧Q .normal ⟨dG tt p cK s0.sl,fj tt p cK s0.bx⟩)∨
   (∃k' o rest,ops.toList.drop (p+cK.length)=o::rest∧barrier (cP ops.toList []) (p+cK.length)=true∧gX N o.dst=true∧
    nH (bC P G) T G N ops.toList (cP ops.toList []) base s0.bx k' (p+cK.length) (o::rest) Q ⟨dG tt p cK s0.sl,fj tt p cK s0.bx⟩))→
  Ext β0 aF w0 β (fj (at_ listed) p cK s0.bx) w→Fr G N ds β w X ⟨dG (at_ listed) p cK s0.sl,fj (at_ listed) p cK s0.bx⟩ a→
  wpAny P .any ops (fW G N ds X β0 aF w0 Q) fuel listed a w:=by
 intro fuel
 induction fuel with
 |zero=>
  intro listed p k cK s0 β w a hsz hdn hlo hhi Vt hle xJ hit hend ex hF
  have hall:∀x,x<ops.size→at_ listed x=true:=by
   intro x hx
   have:=As listed.toList Vt x (by simpa [hsz] using hx)
   unfold at_
   have h2:listed[x]?=some true:=by simpa using this
   simp [Array.getD_eq_getD_getElem?,h2]
  have hfull:p+cK.length=ops.size:=by
   rcases Nat.lt_or_ge (p+cK.length) ops.size with h|h
   ·have h1:=hall _ h;rw [hhi _ (Nat.le_refl _)] at h1;cases h1
   omega
  refine ⟨?_,?_⟩
  ·rw [List.eq_nil_iff_forall_not_mem]
   intro j hj
   obtain ⟨h1,o,h2,_⟩:=mem_ready.1 hj
   have hjl:j<ops.size:=(Array.getElem?_eq_some_iff.1 h2).1
   have:=hall j hjl
   unfold at_ at this
   simp only [Array.getD_eq_getD_getElem?] at this h1
   cases hq:listed[j]? with
   |none=>rw [hq] at this;simp at this
   |some v=>rw [hq] at this h1;simp at this h1;rw [this] at h1;cases h1
  rcases hend with ⟨_,hQ⟩|⟨k',o,rest,XG,_⟩
  ·have e1:=kJ (m:=at_ listed) (m':=tt) cK p s0.sl (fun j hj=>hall _ (by omega))
   have e2:=mU (m:=at_ listed) (m':=tt) cK p s0.bx (fun j hj=>hall _ (by omega))
   rw [e1,e2] at hF;rw [e2] at ex
   exact ⟨β,_,ex,hF,hQ⟩
  rw [List.drop_eq_nil_of_le (by simp;omega)] at XG;cases XG
 |succ fuel ih=>
  intro listed p k cK s0 β w a hsz hdn hlo hhi Vt hle xJ hit hend ex hF
  refine ⟨?_,?_⟩
  ·intro hr
   exfalso
   have key:∀x,x<ops.size→at_ listed x=true:=by
    intro x
    induction x using Nat.strongRecOn with
    |_ x ihx=>
     intro hx
     cases hq:at_ listed x with
     |true=>rfl
     |false=>
      exfalso
      have ho:ops[x]?=some ops[x]:=by simp [hx]
      have hp:=(lq hfit x ops[x] (by simp [hx])).1
      have:x∈Region.ready .any ops listed:=by
       refine mem_ready.2 ⟨?_,ops[x],ho,fun e he hb=>?_⟩
       ·unfold at_ at hq
        have hx':x<listed.size:=by omega
        simp [hx'] at hq ⊢;exact hq
       have:=hp e he hb
       exact ihx e.on (by omega) (by omega)
      rw [hr] at this;cases this
   have:listed.toList.count false=0:=by
    rw [List.count_eq_zero]
    intro hm
    obtain ⟨x,hx⟩:=List.mem_iff_getElem?.1 hm
    have IN:x<listed.toList.length:=by
     rcases Nat.lt_or_ge x listed.toList.length with h|h
     ·exact h
     rw [List.getElem?_eq_none h] at hx;cases hx
    have:=key x (by simpa [hsz] using IN)
    unfold at_ at this
    have h2:listed[x]?=some false:=by simpa using hx
    simp [Array.getD_eq_getD_getElem?,h2] at this
   omega
  intro i hi
  obtain ⟨hi1,o,ho,hp⟩:=mem_ready.1 hi
  have hin:i<ops.size:=(Array.getElem?_eq_some_iff.1 ho).1
  have hil:i<listed.size:=by omega
  have ya:at_ listed i=false:=by
   unfold at_
   simp [hil] at hi1 ⊢;exact hi1
  have Xb:∀e∈o.after,Region.binds .any e=true→at_ listed e.on=true:=hp
  have hpi:p≤i:=by
   rcases Nat.lt_or_ge i p with h|h
   ·rw [hlo i h] at ya;cases ya
   exact h
  have Sx:(listed.setIfInBounds i true).size=ops.size:=by simp [hsz]
  have XH:Down ops (at_ (listed.setIfInBounds i true)):=by
   intro x ox Z6 hx e he hb
   rw [tL hil]
   by_cases hei:e.on=i
   ·simp [hei]
   rw [if_neg hei]
   rw [tL hil] at hx
   by_cases hxi:x=i
   ·subst hxi;rw [ho] at Z6;cases Z6;exact Xb e he hb
   rw [if_neg hxi] at hx;exact hdn x ox Z6 hx e he hb
  have UI:(listed.setIfInBounds i true).toList.count false=fuel:=by
   have h2:listed.toList[i]?=some false:=by
    unfold at_ at ya
    simp [hil] at ya
    simp [hil,ya]
   have:=count_set listed.toList i h2
   rw [Array.toList_setIfInBounds]
   omega
  rcases Nat.lt_or_ge i (p+cK.length) with hlt|hge
  ·
   obtain ⟨j,rfl⟩:∃j,i=p+j:=⟨i-p,by omega⟩
   have hj:j<cK.length:=by omega
   have Xc:cK[j]?=some cK[j]:=by simp [hj]
   obtain ⟨o',ho',hd,Gf,hy⟩:=hit j _ Xc
   rw [ho] at ho';cases ho'
   have hun:∀(j:Nat) (it:It) (y:Nat) (cs:az),cK[j]?=some it→it.bi=some (y,cs)→s0.bx[y]?=some .bB:=by
    intro j' it' y cs hj' hb
    obtain ⟨_,_,_,_,h|h|h⟩:=hit j' it' hj'
    ·obtain ⟨x,cs',h1,h2,_⟩:=h
     rw [h1] at hb;cases hb;exact h2
    ·rw [h.1] at hb;cases hb
    rw [h.1] at hb;cases hb
   have Jo:∀(j':Nat) (it':It),cK[j']?=some it'→((j'<j∧at_ listed (p+j')=false)∨(j<j'∧at_ listed (p+j')=true))→
    (∀d,it'.dst=some d→d ∉ o.looksAt ops)∧(∀d,it'.dst=some d→o.dst≠some d):=by
    intro j' it' hj' hc
    obtain ⟨p',hp',_,XI,_⟩:=hit j' it' hj'
    rw [XI]
    exact MX hfit hdn ho hp' ya Xb (hc.imp (fun h=>⟨by omega,h.2⟩) (fun h=>⟨by omega,h.2⟩))
   have XJ:∀t∈o.looksAt ops,gr t (dG tt p (cK.take j) s0.sl)=gr t (dG (at_ listed) p cK s0.sl):=by
    intro t ht
    have e:dG tt p (cK.take j) s0.sl=dG (fun x=>decide (x<p+j)) p cK s0.sl:=Ap cK p j s0.sl
    rw [e]
    refine qJ cK p _ _ rfl ?_
    intro j' it' hj' hdt
    rcases Nat.lt_trichotomy j' j with h|h|h
    ·rw [decide_eq_true (by omega)]
     cases hq:at_ listed (p+j') with
     |true=>rfl
     |false=>exact absurd ht ((Jo j' it' hj' (.inl ⟨h,hq⟩)).1 t hdt)
    ·subst h
     rw [decide_eq_false (by omega),ya]
    rw [decide_eq_false (by omega)]
    cases hq:at_ listed (p+j') with
    |false=>rfl
    |true=>exact absurd ht ((Jo j' it' hj' (.inr ⟨h,hq⟩)).1 t hdt)
   have hy':=hy.Ck (bx:=fj (at_ listed) p cK s0.bx) XJ (Ge cK p s0.bx (lp.refl _) hun) (by
    intro x cs hb
    rw [CW cK p s0.bx ?_]
    ·exact hun j _ x cs Xc hb
    intro j' it' y cs' hj' hm hb'
    refine xJ.apart hj' hb' Xc hb ?_
    rintro rfl
    rw [ya] at hm;cases hm)
   refine Pv hT ho hF hy' hd ?_
   intro β' a' w' qc SJ
   have hm':∀x,x≠p+j→at_ (listed.setIfInBounds (p+j) true) x=at_ listed x:=fun x hx=>by rw [tL hil,if_neg hx]
   have hB:fj (at_ (listed.setIfInBounds (p+j) true)) p cK s0.bx=qH cK[j] (fj (at_ listed) p cK s0.bx):=by
    refine Ar cK p j cK[j] s0.bx Xc ya (by rw [tL hil,if_pos rfl]) hm' ?_
    intro j' it' y cs x cs0 hj' hne hb' hb0
    exact xJ.apart hj' hb' Xc hb0 hne
   refine ih _ p k cK s0 β' w' a' Sx XH (fun x hx=>by rw [hm' x (by omega)];exact hlo x hx) (fun x hx=>by rw [hm' x (by omega)];exact hhi x hx) UI hle xJ hit hend (by rw [hB];exact ex.trans qc) ?_
   rw [hB]
   refine SJ.Ck (fun t=>?_)
   rw [←Gf]
   refine (Aq cK p j cK[j] s0.sl Xc ya (by rw [tL hil,if_pos rfl]) hm' ?_).symm
   intro j' it' hj' hlt' hm d Zt Vq
   rw [Gf] at Zt
   exact (Jo j' it' hj' (.inr ⟨hlt',hm⟩)).2 d Vq Zt
  rcases hend with ⟨hfull,_⟩|⟨k',o',rest,XG,XK,hd,hop⟩
  ·omega
  obtain ⟨xQ,uS⟩:=Ec XK
  have hiq:i=p+cK.length:=by
   rcases Nat.lt_or_ge (p+cK.length) i with h|h
   ·have h1:=closed hdn i o ho Xb _ (uS i h (by rw [qL];simpa using hin))
    rw [hhi _ (Nat.le_refl _)] at h1;cases h1
   omega
  subst hiq
  have hoo:o'=o:=by
   have:=congrArg (fun l=>l[0]?) XG
   simp only [List.getElem?_drop,Nat.add_zero,List.getElem?_cons_zero] at this
   have h3:ops.toList[p+cK.length]?=ops[p+cK.length]?:=by simp
   rw [h3,ho] at this;cases this;rfl
  subst hoo
  have pW:rest=ops.toList.drop (p+cK.length+1):=by
   have:=congrArg (List.drop 1) XG
   simpa [List.drop_drop] using this.symm
  have hall:∀x,x<p+cK.length→at_ listed x=true:=fun x hx=>closed hdn _ o' ho Xb x (xQ x hx)
  have e1:=kJ (m:=at_ listed) (m':=tt) cK p s0.sl (fun j hj=>hall _ (by omega))
  have e2:=mU (m:=at_ listed) (m':=tt) cK p s0.bx (fun j hj=>hall _ (by omega))
  rw [e1,e2] at hF;rw [e2] at ex
  have next:∀(s1:St) (β':Nat→Nat) (w':World) (a':Act),nH (bC P G) T G N ops.toList (cP ops.toList []) base s1.bx k' (p+cK.length+1) rest Q s1→Ext β0 aF w0 β' s1.bx w'→Fr G N ds β' w' X s1 a'→
   wpAny P .any ops (fW G N ds X β0 aF w0 Q) fuel (listed.setIfInBounds (p+cK.length) true) a' w':=by
   intro s1 β' w' a' h1 z6 IS
   obtain ⟨Vu,k1,g1,g2,g3,g4⟩:=tK _ _ _ _ h1
   have hlen:rest.length=ops.size-(p+cK.length+1):=by rw [pW];simp
   have wq:∀j:Nat,rest[j]?=ops[p+cK.length+1+j]?:=by intro j;rw [pW];simp
   have UJ:∀x,p+cK.length+1≤x→at_ (listed.setIfInBounds (p+cK.length) true) x=false:=by
    intro x hx;rw [tL hil,if_neg (by omega)];exact hhi x (by omega)
   have f1:=Av (m:=at_ (listed.setIfInBounds (p+cK.length) true)) Vu (p+cK.length+1) s1.sl (fun j _=>UJ _ (by omega))
   have f2:=Aw (m:=at_ (listed.setIfInBounds (p+cK.length) true)) Vu (p+cK.length+1) s1.bx (fun j _=>UJ _ (by omega))
   refine ih _ (p+cK.length+1) k' Vu s1 β' w' a' Sx XH ?_ (fun x hx=>UJ x (by omega)) UI (by omega) g1 ?_ ?_ (by rw [f2];exact z6) (by rw [f1,f2];exact IS)
   ·intro x hx
    rw [tL hil]
    by_cases hxq:x=p+cK.length
    ·simp [hxq]
    rw [if_neg hxq];exact hall x (by omega)
   ·intro j it hj
    obtain ⟨o2,q1,q2,q3,q4⟩:=g3 j it hj
    exact ⟨o2,by rw [←wq];exact q1,q2,q3,q4⟩
   rcases g4 with ⟨q1,q2⟩|⟨o2,XL,q1,q2,q3,q4⟩
   ·exact .inl ⟨by omega,q2⟩
   exact .inr ⟨k1,o2,XL,by rw [pW,List.drop_drop] at q1;exact q1,q2,q3,q4⟩
  unfold nH at hop
  simp only [hd,cond_true,XK] at hop
  unfold wpOp
  rw [ho]
  simp only
  split at hop
  ·rename_i hg
   rw [if_pos (by simp [Region.wanted,hg])]
   refine .inl (mT hT hF hop ?_ ?_)
   ·intro β' aR w' v u qc mG hv hK
    exact next ⟨eL o'.dst v _,aR⟩ β' w' _ hK (ex.trans qc) (hF.put qc mG hd hv)
   intro β' aR w' v u qc mG hv hK
   exact ⟨β',aR,v,u,rfl,ex.trans qc,mG,hv,hF.defers,hK⟩
  rename_i j want hg
  split at hop
  ·rename_i g IQ
   have hy:=lm hF IQ
   cases g with
   |true=>
    rw [if_pos (by simp only [Region.wanted,hg];exact hy)]
    refine .inl (xV hT hF hop ?_)
    rintro β' aR w' v u qc mG hv ⟨hK,rfl⟩
    refine next ⟨eL o'.dst (.cond true v) _,_⟩ β' w' _ hK (ex.trans qc) (hF.put qc mG hd ?_)
    simp only [aj];exact ⟨fun _=>hv,by simp⟩
   |false=>
    rw [if_neg (by simp only [Region.wanted,hg];rw [hy];simp)]
    obtain ⟨v,hK⟩:=Ai hop
    refine next ⟨eL o'.dst (.cond false v) _,_⟩ β w _ hK ex (hF.put (Ext.refl _ _ _) hF.cx hd ?_)
    simp only [aj];simp
  exact hop.elim
variable {β:Nat→Nat} {bx:List az} {w:World}
theorem oQ {n i:Nat} {b:az} (h:(bx++List.replicate n .bB)[i]?=some b):bx[i]?=some b∨b=.bB:=by
 rcases Nat.lt_or_ge i bx.length with hl|hl
 ·rw [List.getElem?_append_left hl] at h;exact .inl h
 rw [List.getElem?_append_right hl,List.getElem?_replicate] at h
 split at h
 ·exact .inr (by simpa using h.symm)
 cases h
theorem tN (n:Nat):Ext β bx w β (bx++List.replicate n .bB) w:=by
 refine ⟨rfl,rfl,rfl,Nat.le_refl _,fun _ _ _=>rfl,fun _ c _ _ h=>⟨c,h,rfl⟩,?_,?_⟩
 ·rintro i ⟨b,h1,h2⟩
  exact ⟨rfl,b,by rw [List.getElem?_append_left (jv h1)];exact h1,h2⟩
 intro i b h hl
 rcases oQ h with h1|rfl
 ·exact .inr ⟨i,b,h1,hl,rfl⟩
 simp [az.live] at hl
theorem Jp (cx:cI G β bx w X) (n:Nat):cI G β (bx++List.replicate n .bB) w X:=by
 refine cx.step (tN n) ?_ ?_
 ·intro i b h
  rcases oQ h with h1|rfl
  ·exact .inl ⟨h1,fun _=>rfl⟩
  exact .inr trv
 intro i j bi bj hi hj mH oM he
 rcases oQ hi with h1|rfl<;>rcases oQ hj with h2|rfl
 ·exact cx.inj i j bi bj h1 h2 mH oM he
 ·simp [az.live] at oM
 ·simp [az.live] at mH
 simp [az.live] at mH
def ke (l l':List Oper):Prop:=l'.length=l.length∧∀(j:Nat) (o o':Oper),l[j]?=some o→l'[j]?=some o'→o'.op=o.op∧o'.dst=o.dst∧o'.guard=o.guard
theorem ke.tail {o o':Oper} {l l':List Oper} (h:ke (o::l) (o'::l')):ke l l':=⟨by simpa using h.1,fun j p p' h1 h2=>h.2 (j+1) p p' (by simpa using h1) (by simpa using h2)⟩
theorem Cl {ops ops':List Oper} (h:ke ops ops') (sl:List (Nat×AV)) (j:Nat) (want:Bool):guardOf sl ops' j want=guardOf sl ops j want:=by
 unfold guardOf
 cases ho:ops[j]? with
 |none=>
  have:ops'[j]?=none:=by rw [List.getElem?_eq_none_iff] at ho ⊢;rw [h.1];exact ho
  rw [this]
 |some o=>
  have hj:j<ops'.length:=by rw [h.1];exact (List.getElem?_eq_some_iff.1 ho).1
  have:=h.2 j o ops'[j] ho (List.getElem?_eq_getElem hj)
  rw [List.getElem?_eq_getElem hj]
  simp only
  rw [this.2.1]
theorem Ax {FC:Nat→List AV→List az→iR→List az→Prop} {ops ops':List Oper} (Vv:ke ops ops') {b:List Nat} {base:Nat} {Q:Ex→St→Prop}:∀(l l':List Oper) (ia:List az) (k i:Nat) (s:St),ke l l'→nH FC T G N ops' b base ia k i l' Q s=nH FC T G N ops b base ia k i l Q s
 |[],[],_,_,_,_,_=>rfl
 |[],_::_,_,_,_,_,h=>by have:=h.1;simp at this
 |_::_,[],_,_,_,_,h=>by have:=h.1;simp at this
 |o::l,o'::l',ia,k,i,s,h=>by
  obtain ⟨e1,e2,e3⟩:=h.2 0 o o' rfl rfl
  have hb:iv T G s.sl o'=iv T G s.sl o:=by unfold iv;rw [e1,e3]
  have hu:∀s K Q,qq FC T G o' s K Q=qq FC T G o s K Q:=fun s K Q=>by unfold qq;rw [e1]
  have hg:∀g s K,stepG FC T G g o' s K=stepG FC T G g o s K:=fun g s K=>by unfold stepG vZ;rw [e1]
  have hc:∀sl ia x K,lP FC G o' sl ia x K=lP FC G o sl ia x K:=fun sl ia x K=>by unfold lP;rw [e1]
  have ih:=fun ia k i s=>Ax (FC:=FC) (ops:=ops) (ops':=ops') Vv (b:=b) (base:=base) (Q:=Q) l l' ia k i s h.tail
  simp only [nH,e2,e3,hb,hu,hg,hc,ih,Cl Vv]
theorem Gj (pre:List Nat) (l:List Oper):ke l (cq pre 0 l):=by
 refine ⟨kB pre l 0,fun j o o' h1 h2=>?_⟩
 rw [l8,h1] at h2
 simp only [Option.map_some,osI] at h2
 subst h2
 obtain ⟨e1,e2,e3,_⟩:=lu pre (0+j) o
 exact ⟨e1,e2,e3⟩
theorem wB (a:Array Oper) (late:List Nat):∀(l:List Oper) (i j:Nat),(hU a late i l)[j]?=(l[j]?).map (ku a late (i+j))
 |[],_,_=>by simp [hU]
 |o::r,i,0=>by simp [hU]
 |o::r,i,j+1=>by
  simp only [hU,List.getElem?_cons_succ]
  rw [wB a late r (i+1) j,show i+1+j=i+(j+1) by omega]
theorem oR (a:Array Oper) (late:List Nat):∀(l:List Oper) (i:Nat),(hU a late i l).length=l.length
 |[],_=>rfl
 |o::r,i=>by simp [hU,oR a late r]
theorem sn (a:Array Oper):∀(l:List Oper) (i:Nat),hU a [] i l=l
 |[],_=>rfl
 |o::r,i=>by simp only [hU,sn a r];simp [ku]
theorem Jq (a:Array Oper) (late:List Nat) (l:List Oper):ke l (hU a late 0 l):=by
 refine ⟨oR a late l 0,fun j o o' h1 h2=>?_⟩
 rw [wB,h1] at h2
 simp only [Option.map_some,osI] at h2
 subst h2
 obtain ⟨x,e⟩:=lz a late (0+j) o
 rw [e];exact ⟨rfl,rfl,rfl⟩
theorem ke.trans {l l' l'':List Oper} (h:ke l l') (g:ke l' l''):ke l l'':=by
 refine ⟨g.1.trans h.1,fun j o o'' h1 h2=>?_⟩
 have hj:j<l'.length:=by rw [h.1];exact (List.getElem?_eq_some_iff.1 h1).1
 obtain ⟨a1,a2,a3⟩:=h.2 j o l'[j] h1 (List.getElem?_eq_getElem hj)
 obtain ⟨b1,b2,b3⟩:=g.2 j l'[j] o'' (List.getElem?_eq_getElem hj) h2
 exact ⟨b1.trans a1,b2.trans a2,b3.trans a3⟩
theorem oS (ops:Array Oper):∀(pre done:List Nat),iY ops done pre=true→pre.Nodup∧(∀p∈pre,p ∉ done)∧∀p∈pre,p<ops.size
 |[],_,_=>⟨List.nodup_nil,by simp,by simp⟩
 |p::r,done,h=>by
  unfold iY at h
  cases ho:ops[p]? with
  |none=>simp [ho] at h
  |some o=>
   simp only [ho,Bool.and_eq_true] at h
   obtain ⟨⟨⟨⟨f1,_⟩,_⟩,_⟩,f5⟩:=h
   obtain ⟨g1,g2,g3⟩:=oS ops r _ f5
   refine ⟨List.nodup_cons.2 ⟨fun hp=>g2 p hp (by simp),g1⟩,?_,?_⟩
   ·intro q hq;rcases List.mem_cons.1 hq with rfl|hq
    ·simpa using f1
    exact fun hh=>g2 q hq (by simp [hh])
   intro q hq;rcases List.mem_cons.1 hq with rfl|hq
   ·exact (Array.getElem?_eq_some_iff.1 ho).1
   exact g3 q hq
theorem Gk (t u:Nat) (v:AV):∀l:List (Nat×AV),gr t (Sk u v l)=bif Nat.beq t u then v else gr t l
 |[]=>rfl
 |(s,x)::r=>by
  simp only [Sk]
  cases h1:Nat.beq u s with
  |true=>
   have:=Nat.eq_of_beq_eq_true h1;subst this
   simp only [cond_true,gr]
   cases Nat.beq t u<;>rfl
  |false=>
   simp only [cond_false]
   cases h2:Nat.blt u s with
   |true=>rfl
   |false=>
    simp only [cond_false,gr]
    rw [Gk t u v r]
    cases h3:Nat.beq t s with
    |false=>simp
    |true=>
     have:=Nat.eq_of_beq_eq_true h3;subst this
     have:Nat.beq t u=false:=by
      cases h:Nat.beq t u with
      |false=>rfl
      |true=>have:=Nat.eq_of_beq_eq_true h;subst this;rw [h] at h1;cases h1
     simp [this]
theorem Ay (t:Nat):∀l:List (Nat×AV),gr t (Ch l)=gr t l
 |[]=>rfl
 |(u,v)::r=>by rw [Ch,Gk,Ay t r];rfl
section
variable {N:Nat} {ds:List Deferred} {X:Nat→Prop} {β0:Nat→Nat} {aF:List az} {w0:World}
theorem qM (hT:kw P T) {ops ops':Array Oper} {pre:List Nat} (Gl:nO pre ops ops') {QQ:Exit→Act→World→Prop} {Q:Ex→St→Prop} {i:Nat} {KS:St→Prop} {NX:Act→World→Prop} {β:Nat→Nat} {w:World} {s:St} {a:Act} (ex:Ext β0 aF w0 β s.bx w) (hF:Fr G N ds β w X s a)
 (hp:∀β bx v u w a,Ext β0 aF w0 β bx w→cI G β bx w X→aj β bx w (bt β bx w X) v u→a.defers=ds→Q (.panic v) ⟨[],bx⟩→QQ (.panic [{v:=u,recovered:=false}]) a w)
 (h:xI (bC P G) T G N ops.toList i KS Q s) (hn:∀β w s a,Ext β0 aF w0 β s.bx w→Fr G N ds β w X s a→KS s→NX a w):wpOp P ops' QQ i NX a w:=by
 rw [tM Gl]
 unfold xI at h
 unfold wpOp
 simp only [Array.getElem?_toList] at h
 cases ho:ops[i]? with
 |none=>rw [ho] at h;exact h.elim
 |some o=>
  rw [ho] at h
  simp only at h ⊢
  cases hd:gX N o.dst with
  |false=>rw [hd] at h;exact h.elim
  |true=>
   rw [hd] at h
   simp only [cond_true] at h
   have MC:∀{s1:St},s1=s→Pn G β s1.bx w X a (fun v bx=>Q (.panic v) ⟨[],bx⟩) QQ:=fun e β' aR w' v u qc mG hv hK=>by subst e;exact hp β' aR v u w' a (ex.trans qc) mG hv hF.defers hK
   split at h
   ·rename_i hg
    rw [if_pos (by unfold Region.wanted;rw [hg])]
    exact .inl (mT hT hF h (fun β' aR w' v u qc mG hv hK=>hn β' w' ⟨eL o.dst v s.sl,aR⟩ _ (ex.trans qc) (hF.put qc mG hd hv) hK) (MC rfl))
   rename_i j want hg
   split at h
   ·rename_i g IQ
    have hy:=lm hF IQ
    obtain ⟨h⟩:=h
    cases g with
    |true=>
     rw [if_pos (by simp only [Region.wanted,hg];exact hy)]
     refine .inl (mT hT hF (h.1 rfl) (fun β' aR w' v u qc mG hv hK=>hn β' w' ⟨eL o.dst (.cond true v) s.sl,aR⟩ _ (ex.trans qc) (hF.put qc mG hd ?_) hK) (MC rfl))
     simp only [aj];exact ⟨fun _=>hv,by simp⟩
    |false=>
     rw [if_neg (by simp only [Region.wanted,hg];rw [hy];simp)]
     refine hn β w ⟨eL o.dst (.cond false .any) s.sl,s.bx⟩ _ ex (hF.put (Ext.refl _ _ _) hF.cx hd ?_) (h.2 rfl)
     simp only [aj];simp
   exact h.elim
theorem vc (hT:kw P T) {ops ops':Array Oper} {pre:List Nat} (Gl:nO pre ops ops') {R:St→Prop} {QQ:Exit→Act→World→Prop} {Q:Ex→St→Prop}
 (hp:∀β bx v u w a,Ext β0 aF w0 β bx w→cI G β bx w X→aj β bx w (bt β bx w X) v u→a.defers=ds→Q (.panic v) ⟨[],bx⟩→QQ (.panic [{v:=u,recovered:=false}]) a w)
 (hR:∀β w s a,Ext β0 aF w0 β s.bx w→Fr G N ds β w X s a→R s→QQ .normal a w):∀(tr:OT) (n:Nat) (listed:Array Bool) (β:Nat→Nat) (w:World) (s:St) (a:Act),Ext β0 aF w0 β s.bx w→Fr G N ds β w X s a→
  ME (bC P G) T G N ops.toList Q R tr s→tr.depth≤n→
  (tr.fit ops' true listed=true→wpAny P .any ops' QQ n listed a w)∧
  (tr.fit ops' false listed=true→∀i∈tr.Ll,wpOp P ops' QQ i (wpAny P .any ops' QQ (n-1) (listed.setIfInBounds i true)) a w)
 |.done,n,listed,β,w,s,a,ex,hF,h,_=>by
  refine ⟨fun hf=>?_,fun _ i hi=>by cases hi⟩
  simp only [OT.fit,Bool.not_true,Bool.false_or] at hf
  exact wpAny_done (List.isEmpty_iff.1 hf) (hR β w s a ex hF h) n
 |.one i o,n,listed,β,w,s,a,ex,hF,h,hd=>by
  simp only [OT.depth] at hd
  obtain ⟨m,rfl⟩:∃m,n=m+1:=⟨n-1,by omega⟩
  have key:o.fit ops' true (listed.setIfInBounds i true)=true→wpOp P ops' QQ i (wpAny P .any ops' QQ m (listed.setIfInBounds i true)) a w:=fun hf=>
   qM hT Gl ex hF hp h fun β w s a ex hF hK=>(vc hT Gl hp hR o m _ β w s a ex hF hK (by omega)).1 hf
  refine ⟨fun hf=>?_,fun hf j hj=>?_⟩
  ·simp only [OT.fit,Bool.not_true,Bool.false_or,Bool.and_eq_true,beq_iff_eq] at hf
   exact wpAny_all hf.1 (by simp) fun j hj=>by simp at hj;subst hj;exact key hf.2
  simp only [OT.fit,Bool.not_false,Bool.true_or,Bool.true_and] at hf
  simp only [OT.Ll,List.mem_singleton] at hj
  subst hj;exact key hf
 |.more i o r,n,listed,β,w,s,a,ex,hF,h,hd=>by
  simp only [OT.depth] at hd
  obtain ⟨m,rfl⟩:∃m,n=m+1:=⟨n-1,by omega⟩
  have key:o.fit ops' true (listed.setIfInBounds i true)=true→wpOp P ops' QQ i (wpAny P .any ops' QQ m (listed.setIfInBounds i true)) a w:=fun hf=>
   qM hT Gl ex hF hp h.1 fun β w s a ex hF hK=>(vc hT Gl hp hR o m _ β w s a ex hF hK (by omega)).1 hf
  have rest:=(vc hT Gl hp hR r (m+1) listed β w s a ex hF h.2 (by omega)).2
  refine ⟨fun hf=>?_,fun hf j hj=>?_⟩
  ·simp only [OT.fit,Bool.not_true,Bool.false_or,Bool.and_eq_true,beq_iff_eq] at hf
   refine wpAny_all hf.1 (by simp) fun j hj=>?_
   rcases List.mem_cons.1 hj with rfl|hj
   ·exact key hf.2.1
   exact rest hf.2.2 j hj
  simp only [OT.fit,Bool.not_false,Bool.true_or,Bool.true_and,Bool.and_eq_true] at hf
  rcases List.mem_cons.1 hj with rfl|hj
  ·exact key hf.1
  exact rest hf.2 j hj
end
theorem Gm (hT:kw P T) (hm:P.follows .mixedOrders=true) {N:Nat} {ds:List Deferred} {X:Nat→Prop} {β0:Nat→Nat} {aF:List az} {w0:World} {id:Nat} {fk:Array Oper} {Q:Ex→St→Prop} {β:Nat→Nat} {w:World} {s:St} {a:Act} (ex:Ext β0 aF w0 β s.bx w) (hF:Fr G N ds β w X s a)
 (h:Uw (bC P G) T G N fk.toList Q s):(Code.region id fk true).wp P (fW G N ds X β0 aF w0 Q) a w:=by
 obtain ⟨pre,tr,s1,⟨MK,Ls,Z7⟩,hft,hx,hpost⟩:=h
 unfold OT.fits at hft
 rw [Bool.and_eq_true] at hft
 simp only [Array.length_toList] at hft
 refine wp_region_any hm ?_
 have Gl:nO pre fk (cq pre 0 fk.toList).toArray:=by intro j;simp [l8]
 have hsame:=fy w
 have Pz:Fr G N ds β {w with drawn:=w.drawn+1} X s a:=⟨qt hF.cx hsame,hF.defers,hF.size,fun t=>aj.mono ((je hsame).eY X) _ _ (hF.zk t)⟩
 have hgoal:=(vc (X:=X) hT Gl (QQ:=fW G N ds X β0 aF w0 Q) (fun β bx v u w a ex cx hv hd hq=>⟨β,bx,v,u,rfl,ex,cx,hv,hd,hq⟩) (fun β w s a ex hF hR=>by
  subst hR
  exact ⟨β,⟨Ch s.sl,s.bx⟩,ex,hF.Ck fun t=>(Ay t s.sl).symm,hpost⟩) tr fk.size (Array.replicate fk.size false) β _ s a (ex.trans (je hsame)) Pz hx (Nat.le_of_ble_eq_true hft.1)).1 hft.2
 have PA:iY fk [] pre=true:=by simpa using MK
 obtain ⟨n1,n2,n3⟩:=oS _ _ _ PA
 have hle:pre.length≤fk.size:=by
  have:=List.Nodup.length_le_of_subset n1 (fun p hp=>List.mem_range.2 (n3 p hp):pre ⊆ List.range fk.size)
  simpa using this
 obtain ⟨fuel,hfuel⟩:∃fuel,fk.size=pre.length+fuel:=⟨fk.size-pre.length,by omega⟩
 rw [hfuel] at hgoal ⊢
 have wq:∀p,p<pre.length+fuel→(Array.replicate (pre.length+fuel) false).getD p true=false:=by intro p hp;simp [hp]
 refine wz (G:=G) (N:=N) Gl (by simpa using Ls) ?_ fuel _ pre [] _ a s.sl PA Z7 ?_ hF.size (by simp) (fun p hp _=>wq p (by have:=n3 p hp;omega)) (fun p hp=>.inr hp) (fun p hp=>hp) (by simp [hfuel]) n1 hgoal
 ·intro c a a' w ha hq
  simp only [fW] at hq ⊢
  obtain ⟨β,bx,v,u,h1,h2,h3,h4,h5,h6⟩:=hq
  exact ⟨β,bx,v,u,h1,h2,h3,h4,ha.symm.trans h5,h6⟩
 intro t k z hk
 have:=hF.zk t
 rw [hk] at this
 simpa only [aj,aK] using this
section
variable {P:Program} {T:Nat→Option TI} {G:Nat→Option (List D)} {N:Nat} {ds:List Deferred} {X:Nat→Prop}
variable {β0:Nat→Nat} {aF:List az} {w0:World}
theorem PB:∀{l m:List Bool},W4 l m=true→l=m
 |[],[],_=>rfl
 |a::l,b::m,h=>by
  simp only [W4,Bool.and_eq_true,beq_iff_eq] at h
  rw [h.1,PB h.2]
 |[],_::_,h=>by simp [W4] at h
 |_::_,[],h=>by simp [W4] at h
theorem Gn {k i:Nat}:∀{l:List (Nat×Nat)},OR k i l=true→(k,i)∈l
 |[],h=>by simp [OR] at h
 |(p,j)::r,h=>by
  simp only [OR,Bool.or_eq_true,Bool.and_eq_true,Nat.beq_eq] at h
  rcases h with ⟨rfl,rfl⟩|h
  ·exact List.mem_cons_self ..
  exact List.mem_cons_of_mem _ (Gn h)
theorem Ef {ops:Array Oper} {pl:List Nd} {z:Nat}:∀{l:List Nd} {k j:Nat} {nd:Nd},OS ops pl z k l=true→l[j]?=some nd→
 (Region.ready .any ops nd.ls.toArray=[]∧k+j=z)∨(Region.ready .any ops nd.ls.toArray≠[]∧∀i∈Region.ready .any ops nd.ls.toArray,i<nd.ls.length∧nd.ls[i]?=some false∧∃e∈pl,e.ls=nd.ls.set i true∧(k+j,i)∈e.ps)
 |[],_,_,_,_,h=>by simp at h
 |x::l,k,0,nd,h,hj=>by
  simp only [List.getElem?_cons_zero,osI] at hj
  subst hj
  simp only [OS,Bool.and_eq_true] at h
  have h:=h.1
  split at h
  ·rename_i g;exact .inl ⟨g,by simpa using Nat.eq_of_beq_eq_true h⟩
  rename_i rs g
  refine .inr ⟨fun e=>g e,fun i hi=>?_⟩
  have:=List.all_eq_true.1 h i hi
  simp only [Bool.and_eq_true,beq_iff_eq,List.any_eq_true] at this
  obtain ⟨⟨h1,h2⟩,e,he,h3,h4⟩:=this
  have h1:i<x.ls.length:=Nat.le_of_ble_eq_true h1
  refine ⟨h1,?_,e,he,PB h3,Gn h4⟩
  rw [List.getD_eq_getElem?_getD,List.getElem?_eq_getElem h1] at h2
  rw [List.getElem?_eq_getElem h1]
  simpa using h2
 |x::l,k,j+1,nd,h,hj=>by
  simp only [List.getElem?_cons_succ] at hj
  simp only [OS,Bool.and_eq_true] at h
  have:=Ef h.2 hj
  rw [show k+(j+1)=k+1+j by omega]
  exact this
theorem Gp {FC:Nat→List AV→List az→iR→List az→Prop} {ops:List Oper} {Q:Ex→St→Prop} {S:List St} {s s0:St} {p i:Nat}:∀{l:List (Nat×Nat)},Fo FC T G N ops Q S s l→(p,i)∈l→S[p]?=some s0→xI FC T G N ops i (fun s1=>(⟨Ch s1.sl,s1.bx⟩:St)=s) Q s0
 |[],_,h,_=>by simp at h
 |(q,j)::r,h,hm,hs=>by
  rcases List.mem_cons.1 hm with e|hm
  ·obtain ⟨rfl,rfl⟩:=Prod.mk.inj e
   have:=h.1
   rw [hs] at this
   exact this
  exact Gp h.2 hm hs
theorem LH {FC:Nat→List AV→List az→iR→List az→Prop} {ops:List Oper} {Q:Ex→St→Prop} {S:List St}:∀{l:List Nd} {k j:Nat} {nd:Nd},allM FC T G N ops Q S k l→l[j]?=some nd→∃s,S[k+j]?=some s∧Fo FC T G N ops Q S s nd.ps
 |[],_,_,_,_,h=>by simp at h
 |x::l,k,0,nd,h,hj=>by
  simp only [List.getElem?_cons_zero,osI] at hj
  subst hj
  have:=h.1
  split at this
  ·rename_i s g;exact ⟨s,g,this⟩
  exact this.elim
 |x::l,k,j+1,nd,h,hj=>by
  simp only [List.getElem?_cons_succ] at hj
  obtain ⟨s,g1,g2⟩:=LH h.2 hj
  exact ⟨s,by rw [←g1];congr 1;omega,g2⟩
theorem tO:∀{l:List Bool} {i:Nat},l[i]?=some false→(l.set i true).count false+1=l.count false
 |[],_,h=>by simp at h
 |a::l,0,h=>by
  simp only [List.getElem?_cons_zero,osI] at h
  subst h
  simp
 |a::l,i+1,h=>by
  simp only [List.getElem?_cons_succ] at h
  have:=tO h
  simp only [List.set_cons_succ,List.count_cons]
  omega
theorem PC (hT:kw P T) {ops:Array Oper} {pl:List Nd} {S:List St} {QQ:Exit→Act→World→Prop} {Q:Ex→St→Prop} (Gl:nO [] ops ops) (hfit:Lj ops pl=true)
 (hp:∀β bx v u w a,Ext β0 aF w0 β bx w→cI G β bx w X→aj β bx w (bt β bx w X) v u→a.defers=ds→Q (.panic v) ⟨[],bx⟩→QQ (.panic [{v:=u,recovered:=false}]) a w)
 (hm:allM (bC P G) T G N ops.toList Q S 1 pl)
 (hR:∀β w s a,Ext β0 aF w0 β s.bx w→Fr G N ds β w X s a→S[pl.length]?=some s→QQ .normal a w):∀(n k:Nat) (nd:Nd) (s:St) (β:Nat→Nat) (w:World) (a:Act),
  (⟨List.replicate ops.size false,[]⟩::pl:List Nd)[k]?=some nd→S[k]?=some s→Ext β0 aF w0 β s.bx w→Fr G N ds β w X s a→nd.ls.count false≤n→wpAny P .any ops QQ n nd.ls.toArray a w:=by
 intro n
 induction n with
 |zero=>
  intro k nd s β w a hk hs ex hF hc
  rcases Ef hfit hk with ⟨h1,h2⟩|⟨h1,h2⟩
  ·rw [Nat.zero_add] at h2;subst h2
   exact wpAny_done h1 (hR β w s a ex hF hs) 0
  exfalso
  obtain ⟨i,hi⟩:=List.exists_mem_of_ne_nil _ h1
  have:=tO (h2 i hi).2.1
  omega
 |succ n ih=>
  intro k nd s β w a hk hs ex hF hc
  rcases Ef hfit hk with ⟨h1,h2⟩|⟨h1,h2⟩
  ·rw [Nat.zero_add] at h2;subst h2
   exact wpAny_done h1 (hR β w s a ex hF hs) (n+1)
  refine wpAny_all rfl h1 fun i hi=>?_
  obtain ⟨g1,g2,e,he,g3,g4⟩:=h2 i hi
  rw [Nat.zero_add] at g4
  obtain ⟨j,hj⟩:=List.getElem?_of_mem he
  obtain ⟨s',q1,q2⟩:=LH hm hj
  have hst:=Gp q2 g4 hs
  refine qM hT Gl ex hF hp hst fun β w s1 a ex hF hK=>?_
  subst hK
  have:=ih (1+j) e ⟨Ch s1.sl,s1.bx⟩ β w a (by rw [Nat.add_comm];simpa using hj) q1 ex (hF.Ck fun t=>(Ay t s1.sl).symm) (by rw [g3];have:=tO g2;omega)
  rw [g3] at this
  simpa using this
theorem Gq (hT:kw P T) (hm:P.follows .mixedOrders=true) {id:Nat} {fk:Array Oper} {Q:Ex→St→Prop} {β:Nat→Nat} {w:World} {s:St} {a:Act} (ex:Ext β0 aF w0 β s.bx w) (hF:Fr G N ds β w X s a)
 (h:Ux (bC P G) T G N fk.toList Q s):(Code.region id fk true).wp P (fW G N ds X β0 aF w0 Q) a w:=by
 obtain ⟨pl,S,s1,h1,h2,h3,h4,h5⟩:=h
 refine wp_region_any hm ?_
 have h1:Lj fk pl=true:=by simpa using h1
 have Gl:nO [] fk fk:=by
  have:nO [] fk (cq [] 0 fk.toList).toArray:=by intro j;simp [l8]
  rwa [oP] at this
 have hsame:=fy w
 have Pz:Fr G N ds β {w with drawn:=w.drawn+1} X s a:=⟨qt hF.cx hsame,hF.defers,hF.size,fun t=>aj.mono ((je hsame).eY X) _ _ (hF.zk t)⟩
 have:=PC (X:=X) hT Gl (QQ:=fW G N ds X β0 aF w0 Q) h1 (fun β bx v u w a ex cx hv hd hq=>⟨β,bx,v,u,rfl,ex,cx,hv,hd,hq⟩) h4 (fun β w s a ex hF hR=>by
  rw [h3] at hR
  cases hR
  exact ⟨β,s1,ex,hF,h5⟩) fk.size 0 ⟨List.replicate fk.size false,[]⟩ s β _ a rfl h2 (ex.trans (je hsame)) Pz (by simp)
 simpa using this
end
theorem SK (hT:kw P T) (hm:P.follows .mixedOrders=true):qD P T G:=by
 intro N ds X β0 aF w0 id fk Q β w s a ex hF h
 rcases h with h|h|h
 ·exact Gm hT hm ex hF h
 ·exact Gq hT hm ex hF h
 obtain ⟨pre,late,hpre,⟨hfit⟩,XM⟩:=h
 refine wp_region_any hm ?_
 obtain ⟨Jr,LI⟩:∃ops:Array Oper,ops=(cq pre 0 fk.toList).toArray:=⟨_,rfl⟩
 obtain ⟨ops,SM⟩:∃ops:Array Oper,ops=(hU Jr late 0 (cq pre 0 fk.toList)).toArray:=⟨_,rfl⟩
 have XN:Jr.size=fk.size:=by rw [LI];simp [kB]
 have hsz:ops.size=fk.size:=by rw [SM];simp [oR,kB]
 have Gl:nO pre fk Jr:=by intro j;rw [LI];simp [l8]
 have hla:Gi late Jr ops:=by intro j;rw [SM];simp only [List.getElem?_toArray,wB,Nat.zero_add];rw [LI];simp
 have hl:ops.toList=hU Jr late 0 (cq pre 0 fk.toList):=by rw [SM]
 rw [←LI] at hfit XM hpre
 have hal:ke fk.toList (hU Jr late 0 (cq pre 0 fk.toList)):=(Gj pre _).trans (Jq _ _ _)
 have hop:=XM
 rw [←Ax hal _ _ _ _ _ _ hal] at hop
 rw [←hl] at hfit hop
 have hQQ:∀c (a a':Act) w,a.defers=a'.defers→fW G N ds X β0 aF w0 Q (.panic c) a w→fW G N ds X β0 aF w0 Q (.panic c) a' w:=by
  intro c a a' w ha hq
  simp only [fW] at hq ⊢
  obtain ⟨β,bx,v,u,h1,h2,h3,h4,h5,h6⟩:=hq
  exact ⟨β,bx,v,u,h1,h2,h3,h4,ha.symm.trans h5,h6⟩
 suffices hgoal:wpAny P .any ops (fW G N ds X β0 aF w0 Q) fk.size (Array.replicate fk.size false) a {w with drawn:=w.drawn+1} by
  rcases hpre with ⟨rfl,rfl⟩|⟨MK,Ls,Ed,Z7⟩
  ·have e:ops=fk:=by rw [SM,sn,oP]
   rw [e] at hgoal;exact hgoal
  have PA:iY fk [] pre=true:=by simpa using MK
  have Z8:mQ Jr=true:=by
   have XO:mQ fk=true:=by simpa using Ls
   rw [mQ,Array.all_eq_true_iff_forall_mem] at XO ⊢
   intro o ho
   obtain ⟨j,hj⟩:=Array.getElem?_of_mem ho
   rw [Gl j] at hj
   cases h0:fk[j]? with
   |none=>rw [h0] at hj;cases hj
   |some o0=>
    rw [h0] at hj
    simp only [Option.map_some,osI] at hj
    rw [←hj,(lu pre j o0).1]
    exact XO o0 (Array.mem_of_getElem? h0)
  have hgoal:=MW hla Ed Z8 hQQ _ _ _ _ (by simp [XN]) hgoal
  obtain ⟨n1,n2,n3⟩:=oS _ _ _ PA
  have hle:pre.length≤fk.size:=by
   have:=List.Nodup.length_le_of_subset n1 (fun p hp=>List.mem_range.2 (n3 p hp):pre ⊆ List.range fk.size)
   simpa using this
  obtain ⟨fuel,hfuel⟩:∃fuel,fk.size=pre.length+fuel:=⟨fk.size-pre.length,by omega⟩
  rw [hfuel] at hgoal ⊢
  have wq:∀p,p<pre.length+fuel→(Array.replicate (pre.length+fuel) false).getD p true=false:=by intro p hp;simp [hp]
  refine wz (G:=G) (N:=N) Gl (by simpa using Ls) hQQ fuel _ pre [] _ a s.sl PA Z7 ?_ hF.size (by simp) (fun p hp _=>wq p (by have:=n3 p hp;omega)) (fun p hp=>.inr hp) (fun p hp=>hp) (by simp [hfuel]) n1 hgoal
  intro t k z hk
  have:=hF.zk t
  rw [hk] at this
  simpa only [aj,aK] using this
 rw [←hsz]
 have XP:gM ops (cP ops.toList []) 0 ops.toList=true:=by simpa using hfit
 obtain ⟨cK,k',g1,g2,g3,g4⟩:=tK _ _ _ _ hop
 have UJ:∀x,at_ (Array.replicate ops.size false) x=false:=by
  intro x;unfold at_
  rcases Nat.lt_or_ge x ops.size with h|h<;>simp [h]
 have hsame:=fy w
 have f1:=Av (m:=at_ (Array.replicate ops.size false)) cK 0 s.sl (fun j _=>UJ _)
 have f2:=Aw (m:=at_ (Array.replicate ops.size false)) cK 0 (s.bx++List.replicate (oE fk.toList) .bB) (fun j _=>UJ _)
 refine Py hT XP ops.size _ 0 0 cK ⟨s.sl,s.bx++List.replicate (oE fk.toList) .bB⟩ β _ a (by simp) ?_ (fun x hx=>by omega) (fun x _=>UJ x) ?_ (by simpa using g2) g1 ?_ ?_ ?_ ?_
 ·intro x o _ hx;rw [UJ] at hx;cases hx
 ·simp
 ·intro j it hj
  obtain ⟨o,q1,q2,q3,q4⟩:=g3 j it hj
  exact ⟨o,by simpa using q1,q2,q3,q4⟩
 ·rcases g4 with ⟨q1,q2⟩|⟨o,rest,q1,q2,q3,q4⟩
  ·exact .inl ⟨by simpa using q1,q2⟩
  exact .inr ⟨k',o,rest,by simpa using q1,q2,q3,q4⟩
 ·rw [f2]
  exact (ex.trans (tN _)).trans (je hsame)
 rw [f1,f2]
 have c1:=qt (Jp hF.cx (oE fk.toList)) hsame
 refine ⟨c1,hF.defers,hF.size,fun t=>?_⟩
 exact aj.mono (((tN (oE fk.toList)).trans (je hsame)).eY X) _ _ (hF.zk t)
end
end Dem
