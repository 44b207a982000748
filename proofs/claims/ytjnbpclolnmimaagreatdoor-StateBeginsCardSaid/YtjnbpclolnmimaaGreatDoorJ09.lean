/- Parts of a proof, joined. -/
import Derived.Test.YtjnbpclolnmimaaGreatDoorJ08
set_option linter.unusedSimpArgs false
set_option linter.unusedVariables false
set_option maxRecDepth 100000
set_option maxHeartbeats 4000000
open Go
namespace Dem
section
variable {P:Program} {T:Nat→Option TI} {G:Nat→Option (List D)} {N:Nat} {ds:List Deferred} {X:Nat→Prop}
variable {β0:Nat→Nat} {aE:List ax} {w0:World}
theorem NE {ops:Array Oper} (hfit:gK ops (cF ops.toList []) 0 ops.toList=true) {m:Nat→Bool} (hd:Down ops m) {i j:Nat} {o p:Oper} (ho:ops[i]?=some o) (hp:ops[j]?=some p)
 (CS:m i=false) (Yi:∀e∈o.after,Region.binds .any e=true→m e.on=true) (hj:(j<i∧m j=false)∨(i<j∧m j=true)):
 (∀d,p.dst=some d→d ∉ o.looksAt ops)∧(∀d,p.dst=some d→o.dst≠some d):=by
 rcases hj with ⟨hlt,hmj⟩|⟨hlt,hmj⟩
 ·have h:=(lR hfit i o (by simpa using ho)).2 j (by omega)
  rw [Nat.zero_add] at h
  rcases h with h|⟨p',hp',h⟩
  ·have:=closed hd i o ho Yi j h;rw [hmj] at this;cases this
  rw [hp] at hp';cases hp'
  obtain ⟨h1,h2,h3⟩:=Oper.apart_spec h
  exact ⟨h1,h2⟩
 have h:=(lR hfit j p (by simpa using hp)).2 i (by omega)
 rw [Nat.zero_add] at h
 rcases h with h|⟨o',ho',h⟩
 ·have:=closed hd j p hp (hd j p hp hmj) i h;rw [CS] at this;cases this
 rw [ho] at ho';cases ho'
 obtain ⟨h1,h2,h3⟩:=Oper.apart_spec h
 exact ⟨h3,fun d Ws he=>h2 d he Ws⟩
theorem Bc {m:Nat→Bool}:∀(cB:List It) (i:Nat) (sl:List (Nat×AV)),(∀j,j<cB.length→m (i+j)=false)→dm m i cB sl=sl
 |[],_,_,_=>rfl
 |it::r,i,sl,h=>by
  have h0:=h 0 (by simp)
  rw [Nat.add_zero] at h0
  simp only [dm,h0,cond_false]
  exact Bc r (i+1) sl (fun j hj=>by have:=h (j+1) (by simpa using hj);rw [show i+1+j=i+(j+1) by omega];exact this)
theorem Bd {m:Nat→Bool}:∀(cB:List It) (i:Nat) (bx:List ax),(∀j,j<cB.length→m (i+j)=false)→eX m i cB bx=bx
 |[],_,_,_=>rfl
 |it::r,i,bx,h=>by
  have h0:=h 0 (by simp)
  rw [Nat.add_zero] at h0
  simp only [eX,h0,cond_false]
  exact Bd r (i+1) bx (fun j hj=>by have:=h (j+1) (by simpa using hj);rw [show i+1+j=i+(j+1) by omega];exact this)
theorem Qh (hT:iH P T) {ops:Array Oper} (hfit:gK ops (cF ops.toList []) 0 ops.toList=true) {base:Nat} {Q:Ex→St→Prop}:
 ∀(fuel:Nat) (listed:Array Bool) (p k:Nat) (cB:List It) (s0:St) (β:Nat→Nat) (w:World) (a:Act),listed.size=ops.size→Down ops (at_ listed)→(∀x,x<p→at_ listed x=true)→(∀x,p+cB.length≤x→at_ listed x=false)→
  listed.toList.count false=fuel→p+cB.length≤ops.size→kP (base+k) cB→
  (∀j it,cB[j]?=some it→∃o,ops[p+j]?=some o∧fS N o.dst=true∧it.dst=o.dst∧VF (bg P G) T G ops.toList o (dm tt p (cB.take j) s0.sl) s0.bx it)→
  ((
   p+cB.length=ops.size∧Q .normal ⟨dm tt p cB s0.sl,eX tt p cB s0.bx⟩)∨
   (∃k' o rest,ops.toList.drop (p+cB.length)=o::rest∧barrier (cF ops.toList []) (p+cB.length)=true∧fS N o.dst=true∧
    oo (bg P G) T G N ops.toList (cF ops.toList []) base s0.bx k' (p+cB.length) (o::rest) Q ⟨dm tt p cB s0.sl,eX tt p cB s0.bx⟩))→
  Ext β0 aE w0 β (eX (at_ listed) p cB s0.bx) w→Fr G N ds β w X ⟨dm (at_ listed) p cB s0.sl,eX (at_ listed) p cB s0.bx⟩ a→
  wpAny P .any ops (ee G N ds X β0 aE w0 Q) fuel listed a w:=by
 intro fuel
 induction fuel with
 |zero=>
  intro listed p k cB s0 β w a hsz hdn hlo hhi YD hle zT hit hend ex hF
  have hall:∀x,x<ops.size→at_ listed x=true:=by
   intro x hx
   have:=A9 listed.toList YD x (by simpa [hsz] using hx)
   unfold at_
   have h2:listed[x]?=some true:=by simpa using this
   simp [Array.getD_eq_getD_getElem?,h2]
  have hfull:p+cB.length=ops.size:=by
   rcases Nat.lt_or_ge (p+cB.length) ops.size with h|h
   ·have h1:=hall _ h;rw [hhi _ (Nat.le_refl _)] at h1;cases h1
   omega
  refine ⟨?_,?_⟩
  ·rw [List.eq_nil_iff_forall_not_mem]
   intro j hj
   obtain ⟨h1,o,h2,_⟩:=mem_ready.1 hj
   have hjl:j<ops.size:=(Array.getElem?_eq_some_iff.1 h2).1
   have:=hall j hjl
   unfold at_ at this
   simp only [Array.getD_eq_getD_getElem?] at this h1
   cases hq:listed[j]? with
   |none=>rw [hq] at this;simp at this
   |some v=>rw [hq] at this h1;simp at this h1;rw [this] at h1;cases h1
  rcases hend with ⟨_,hQ⟩|⟨k',o,rest,YE,_⟩
  ·have e1:=kO (m:=at_ listed) (m':=tt) cB p s0.sl (fun j hj=>hall _ (by omega))
   have e2:=nA (m:=at_ listed) (m':=tt) cB p s0.bx (fun j hj=>hall _ (by omega))
   rw [e1,e2] at hF;rw [e2] at ex
   exact ⟨β,_,ex,hF,hQ⟩
  rw [List.drop_eq_nil_of_le (by simp;omega)] at YE;cases YE
 |succ fuel ih=>
  intro listed p k cB s0 β w a hsz hdn hlo hhi YD hle zT hit hend ex hF
  refine ⟨?_,?_⟩
  ·intro hr
   exfalso
   have key:∀x,x<ops.size→at_ listed x=true:=by
    intro x
    induction x using Nat.strongRecOn with
    |_ x ihx=>
     intro hx
     cases hq:at_ listed x with
     |true=>rfl
     |false=>
      exfalso
      have ho:ops[x]?=some ops[x]:=by simp [hx]
      have hp:=(lR hfit x ops[x] (by simp [hx])).1
      have:x∈Region.ready .any ops listed:=by
       refine mem_ready.2 ⟨?_,ops[x],ho,fun e he hb=>?_⟩
       ·unfold at_ at hq
        have hx':x<listed.size:=by omega
        simp [hx'] at hq ⊢;exact hq
       have:=hp e he hb
       exact ihx e.on (by omega) (by omega)
      rw [hr] at this;cases this
   have:listed.toList.count false=0:=by
    rw [List.count_eq_zero]
    intro hm
    obtain ⟨x,hx⟩:=List.mem_iff_getElem?.1 hm
    have Mc:x<listed.toList.length:=by
     rcases Nat.lt_or_ge x listed.toList.length with h|h
     ·exact h
     rw [List.getElem?_eq_none h] at hx;cases hx
    have:=key x (by simpa [hsz] using Mc)
    unfold at_ at this
    have h2:listed[x]?=some false:=by simpa using hx
    simp [Array.getD_eq_getD_getElem?,h2] at this
   omega
  intro i hi
  obtain ⟨hi1,o,ho,hp⟩:=mem_ready.1 hi
  have hin:i<ops.size:=(Array.getElem?_eq_some_iff.1 ho).1
  have hil:i<listed.size:=by omega
  have CS:at_ listed i=false:=by
   unfold at_
   simp [hil] at hi1 ⊢;exact hi1
  have Yi:∀e∈o.after,Region.binds .any e=true→at_ listed e.on=true:=hp
  have hpi:p≤i:=by
   rcases Nat.lt_or_ge i p with h|h
   ·rw [hlo i h] at CS;cases CS
   exact h
  have Tg:(listed.setIfInBounds i true).size=ops.size:=by simp [hsz]
  have YF:Down ops (at_ (listed.setIfInBounds i true)):=by
   intro x ox hox hx e he hb
   rw [um hil]
   by_cases hei:e.on=i
   ·simp [hei]
   rw [if_neg hei]
   rw [um hil] at hx
   by_cases hxi:x=i
   ·subst hxi;rw [ho] at hox;cases hox;exact Yi e he hb
   rw [if_neg hxi] at hx;exact hdn x ox hox hx e he hb
  have VG:(listed.setIfInBounds i true).toList.count false=fuel:=by
   have h2:listed.toList[i]?=some false:=by
    unfold at_ at CS
    simp [hil] at CS
    simp [hil,CS]
   have:=count_set listed.toList i h2
   rw [Array.toList_setIfInBounds]
   omega
  rcases Nat.lt_or_ge i (p+cB.length) with hlt|hge
  ·
   obtain ⟨j,rfl⟩:∃j,i=p+j:=⟨i-p,by omega⟩
   have hj:j<cB.length:=by omega
   have Yj:cB[j]?=some cB[j]:=by simp [hj]
   obtain ⟨o',ho',hd,Hf,hy⟩:=hit j _ Yj
   rw [ho] at ho';cases ho'
   have hun:∀(j:Nat) (it:It) (y:Nat) (cs:ax),cB[j]?=some it→it.bi=some (y,cs)→s0.bx[y]?=some .bA:=by
    intro j' it' y cs hj' hb
    obtain ⟨_,_,_,_,h|h|h⟩:=hit j' it' hj'
    ·obtain ⟨x,cs',h1,h2,_⟩:=h
     rw [h1] at hb;cases hb;exact h2
    ·rw [h.1] at hb;cases hb
    rw [h.1] at hb;cases hb
   have Kj:∀(j':Nat) (it':It),cB[j']?=some it'→((j'<j∧at_ listed (p+j')=false)∨(j<j'∧at_ listed (p+j')=true))→
    (∀d,it'.dst=some d→d ∉ o.looksAt ops)∧(∀d,it'.dst=some d→o.dst≠some d):=by
    intro j' it' hj' hc
    obtain ⟨p',hp',_,YH,_⟩:=hit j' it' hj'
    rw [YH]
    exact NE hfit hdn ho hp' CS Yi (hc.imp (fun h=>⟨by omega,h.2⟩) (fun h=>⟨by omega,h.2⟩))
   have YI:∀t∈o.looksAt ops,fY t (dm tt p (cB.take j) s0.sl)=fY t (dm (at_ listed) p cB s0.sl):=by
    intro t ht
    have e:dm tt p (cB.take j) s0.sl=dm (fun x=>decide (x<p+j)) p cB s0.sl:=A5 cB p j s0.sl
    rw [e]
    refine rA cB p _ _ rfl ?_
    intro j' it' hj' hdt
    rcases Nat.lt_trichotomy j' j with h|h|h
    ·rw [decide_eq_true (by omega)]
     cases hq:at_ listed (p+j') with
     |true=>rfl
     |false=>exact absurd ht ((Kj j' it' hj' (.inl ⟨h,hq⟩)).1 t hdt)
    ·subst h
     rw [decide_eq_false (by omega),CS]
    rw [decide_eq_false (by omega)]
    cases hq:at_ listed (p+j') with
    |false=>rfl
    |true=>exact absurd ht ((Kj j' it' hj' (.inr ⟨h,hq⟩)).1 t hdt)
   have hy':=hy.G5 (bx:=eX (at_ listed) p cB s0.bx) YI (He cB p s0.bx (lI.refl _) hun) (by
    intro x cs hb
    rw [Dz cB p s0.bx ?_]
    ·exact hun j _ x cs Yj hb
    intro j' it' y cs' hj' hm hb'
    refine zT.apart hj' hb' Yj hb ?_
    rintro rfl
    rw [CS] at hm;cases hm)
   refine Qe hT ho hF hy' hd ?_
   intro β' a' w' oU Tt
   have hm':∀x,x≠p+j→at_ (listed.setIfInBounds (p+j) true) x=at_ listed x:=fun x hx=>by rw [um hil,if_neg hx]
   have hB:eX (at_ (listed.setIfInBounds (p+j) true)) p cB s0.bx=ry cB[j] (eX (at_ listed) p cB s0.bx):=by
    refine A7 cB p j cB[j] s0.bx Yj CS (by rw [um hil,if_pos rfl]) hm' ?_
    intro j' it' y cs x cs0 hj' hne hb' hb0
    exact zT.apart hj' hb' Yj hb0 hne
   refine ih _ p k cB s0 β' w' a' Tg YF (fun x hx=>by rw [hm' x (by omega)];exact hlo x hx) (fun x hx=>by rw [hm' x (by omega)];exact hhi x hx) VG hle zT hit hend (by rw [hB];exact ex.trans oU) ?_
   rw [hB]
   refine Tt.G5 (fun t=>?_)
   rw [←Hf]
   refine (A6 cB p j cB[j] s0.sl Yj CS (by rw [um hil,if_pos rfl]) hm' ?_).symm
   intro j' it' hj' hlt' hm d hd0 Ws
   rw [Hf] at hd0
   exact (Kj j' it' hj' (.inr ⟨hlt',hm⟩)).2 d Ws hd0
  rcases hend with ⟨hfull,_⟩|⟨k',o',rest,YE,YJ,hd,hop⟩
  ·omega
  obtain ⟨qK,CL⟩:=EX YJ
  have hiq:i=p+cB.length:=by
   rcases Nat.lt_or_ge (p+cB.length) i with h|h
   ·have h1:=closed hdn i o ho Yi _ (CL i h (by rw [rC];simpa using hin))
    rw [hhi _ (Nat.le_refl _)] at h1;cases h1
   omega
  subst hiq
  have hoo:o'=o:=by
   have:=congrArg (fun l=>l[0]?) YE
   simp only [List.getElem?_drop,Nat.add_zero,List.getElem?_cons_zero] at this
   have h3:ops.toList[p+cB.length]?=ops[p+cB.length]?:=by simp
   rw [h3,ho] at this;cases this;rfl
  subst hoo
  have qg:rest=ops.toList.drop (p+cB.length+1):=by
   have:=congrArg (List.drop 1) YE
   simpa [List.drop_drop] using this.symm
  have hall:∀x,x<p+cB.length→at_ listed x=true:=fun x hx=>closed hdn _ o' ho Yi x (qK x hx)
  have e1:=kO (m:=at_ listed) (m':=tt) cB p s0.sl (fun j hj=>hall _ (by omega))
  have e2:=nA (m:=at_ listed) (m':=tt) cB p s0.bx (fun j hj=>hall _ (by omega))
  rw [e1,e2] at hF;rw [e2] at ex
  have next:∀(s1:St) (β':Nat→Nat) (w':World) (a':Act),oo (bg P G) T G N ops.toList (cF ops.toList []) base s1.bx k' (p+cB.length+1) rest Q s1→Ext β0 aE w0 β' s1.bx w'→Fr G N ds β' w' X s1 a'→
   wpAny P .any ops (ee G N ds X β0 aE w0 Q) fuel (listed.setIfInBounds (p+cB.length) true) a' w':=by
   intro s1 β' w' a' h1 vq CM
   obtain ⟨Wv,k1,g1,g2,g3,g4⟩:=ul _ _ _ _ h1
   have hlen:rest.length=ops.size-(p+cB.length+1):=by rw [qg];simp
   have A8:∀j:Nat,rest[j]?=ops[p+cB.length+1+j]?:=by intro j;rw [qg];simp
   have VH:∀x,p+cB.length+1≤x→at_ (listed.setIfInBounds (p+cB.length) true) x=false:=by
    intro x hx;rw [um hil,if_neg (by omega)];exact hhi x (by omega)
   have f1:=Bc (m:=at_ (listed.setIfInBounds (p+cB.length) true)) Wv (p+cB.length+1) s1.sl (fun j _=>VH _ (by omega))
   have f2:=Bd (m:=at_ (listed.setIfInBounds (p+cB.length) true)) Wv (p+cB.length+1) s1.bx (fun j _=>VH _ (by omega))
   refine ih _ (p+cB.length+1) k' Wv s1 β' w' a' Tg YF ?_ (fun x hx=>VH x (by omega)) VG (by omega) g1 ?_ ?_ (by rw [f2];exact vq) (by rw [f1,f2];exact CM)
   ·intro x hx
    rw [um hil]
    by_cases hxq:x=p+cB.length
    ·simp [hxq]
    rw [if_neg hxq];exact hall x (by omega)
   ·intro j it hj
    obtain ⟨o2,q1,q2,q3,q4⟩:=g3 j it hj
    exact ⟨o2,by rw [←A8];exact q1,q2,q3,q4⟩
   rcases g4 with ⟨q1,q2⟩|⟨o2,YK,q1,q2,q3,q4⟩
   ·exact .inl ⟨by omega,q2⟩
   exact .inr ⟨k1,o2,YK,by rw [qg,List.drop_drop] at q1;exact q1,q2,q3,q4⟩
  unfold oo at hop
  simp only [hd,cond_true,YJ] at hop
  unfold wpOp
  rw [ho]
  simp only
  split at hop
  ·rename_i hg
   rw [if_pos (by simp [Region.wanted,hg])]
   refine .inl (kM hT hF hop ?_ ?_)
   ·intro β' aG w' v u oU nP hv hK
    exact next ⟨dV o'.dst v _,aG⟩ β' w' _ hK (ex.trans oU) (hF.put oU nP hd hv)
   intro β' aG w' v u oU nP hv hK
   exact ⟨β',aG,v,u,rfl,ex.trans oU,nP,hv,hF.defers,hK⟩
  rename_i j want hg
  split at hop
  ·rename_i g JF
   have hy:=lH hF JF
   cases g with
   |true=>
    rw [if_pos (by simp only [Region.wanted,hg];exact hy)]
    refine .inl (yO hT hF hop ?_)
    rintro β' aG w' v u oU nP hv ⟨hK,rfl⟩
    refine next ⟨dV o'.dst (.cond true v) _,_⟩ β' w' _ hK (ex.trans oU) (hF.put oU nP hd ?_)
    simp only [ah];exact ⟨fun _=>hv,by simp⟩
   |false=>
    rw [if_neg (by simp only [Region.wanted,hg];rw [hy];simp)]
    obtain ⟨v,hK⟩:=AP hop
    refine next ⟨dV o'.dst (.cond false v) _,_⟩ β w _ hK ex (hF.put (Ext.refl _ _ _) hF.cx hd ?_)
    simp only [ah];simp
  exact hop.elim
variable {β:Nat→Nat} {bx:List ax} {w:World}
theorem pE {n i:Nat} {b:ax} (h:(bx++List.replicate n .bA)[i]?=some b):bx[i]?=some b∨b=.bA:=by
 rcases Nat.lt_or_ge i bx.length with hl|hl
 ·rw [List.getElem?_append_left hl] at h;exact .inl h
 rw [List.getElem?_append_right hl,List.getElem?_replicate] at h
 split at h
 ·exact .inr (by simpa using h.symm)
 cases h
theorem uq (n:Nat):Ext β bx w β (bx++List.replicate n .bA) w:=by
 refine ⟨rfl,rfl,rfl,Nat.le_refl _,fun _ _ _=>rfl,fun _ c _ _ h=>⟨c,h,rfl⟩,?_,?_⟩
 ·rintro i ⟨b,h1,h2⟩
  exact ⟨rfl,b,by rw [List.getElem?_append_left (iS h1)];exact h1,h2⟩
 intro i b h hl
 rcases pE h with h1|rfl
 ·exact .inr ⟨i,b,h1,hl,rfl⟩
 simp [ax.live] at hl
theorem Kk (cx:ct G β bx w X) (n:Nat):ct G β (bx++List.replicate n .bA) w X:=by
 refine cx.step (uq n) ?_ ?_
 ·intro i b h
  rcases pE h with h1|rfl
  ·exact .inl ⟨h1,fun _=>rfl⟩
  exact .inr trivial
 intro i j bi bj hi hj oc qB he
 rcases pE hi with h1|rfl<;>rcases pE hj with h2|rfl
 ·exact cx.inj i j bi bj h1 h2 oc qB he
 ·simp [ax.live] at qB
 ·simp [ax.live] at oc
 simp [ax.live] at oc
def jQ (l l':List Oper):Prop:=l'.length=l.length∧∀(j:Nat) (o o':Oper),l[j]?=some o→l'[j]?=some o'→o'.op=o.op∧o'.dst=o.dst∧o'.guard=o.guard
theorem jQ.tail {o o':Oper} {l l':List Oper} (h:jQ (o::l) (o'::l')):jQ l l':=⟨by simpa using h.1,fun j p p' h1 h2=>h.2 (j+1) p p' (by simpa using h1) (by simpa using h2)⟩
theorem CT {ops ops':List Oper} (h:jQ ops ops') (sl:List (Nat×AV)) (j:Nat) (want:Bool):guardOf sl ops' j want=guardOf sl ops j want:=by
 unfold guardOf
 cases ho:ops[j]? with
 |none=>
  have:ops'[j]?=none:=by rw [List.getElem?_eq_none_iff] at ho ⊢;rw [h.1];exact ho
  rw [this]
 |some o=>
  have hj:j<ops'.length:=by rw [h.1];exact (List.getElem?_eq_some_iff.1 ho).1
  have:=h.2 j o ops'[j] ho (List.getElem?_eq_getElem hj)
  rw [List.getElem?_eq_getElem hj]
  simp only
  rw [this.2.1]
theorem Be {FC:Nat→List AV→List ax→fm→List ax→Prop} {ops ops':List Oper} (YL:jQ ops ops') {b:List Nat} {base:Nat} {Q:Ex→St→Prop}:∀(l l':List Oper) (hY:List ax) (k i:Nat) (s:St),jQ l l'→oo FC T G N ops' b base hY k i l' Q s=oo FC T G N ops b base hY k i l Q s
 |[],[],_,_,_,_,_=>rfl
 |[],_::_,_,_,_,_,h=>by have:=h.1;simp at this
 |_::_,[],_,_,_,_,h=>by have:=h.1;simp at this
 |o::l,o'::l',hY,k,i,s,h=>by
  obtain ⟨e1,e2,e3⟩:=h.2 0 o o' rfl rfl
  have hb:ie T G s.sl o'=ie T G s.sl o:=by unfold ie;rw [e1,e3]
  have hu:∀s K Q,qP FC T G o' s K Q=qP FC T G o s K Q:=fun s K Q=>by unfold qP;rw [e1]
  have hg:∀g s K,stepG FC T G g o' s K=stepG FC T G g o s K:=fun g s K=>by unfold stepG w8;rw [e1]
  have hc:∀sl hY x K,mB FC G o' sl hY x K=mB FC G o sl hY x K:=fun sl hY x K=>by unfold mB;rw [e1]
  have ih:=fun hY k i s=>Be (FC:=FC) (ops:=ops) (ops':=ops') YL (b:=b) (base:=base) (Q:=Q) l l' hY k i s h.tail
  simp only [oo,e2,e3,hb,hu,hg,hc,ih,CT YL]
theorem Hj (pre:List Nat) (l:List Oper):jQ l (cg pre 0 l):=by
 refine ⟨kF pre l 0,fun j o o' h1 h2=>?_⟩
 rw [mP,h1] at h2
 simp only [Option.map_some,osI] at h2
 subst h2
 obtain ⟨e1,e2,e3,_⟩:=lS pre (0+j) o
 exact ⟨e1,e2,e3⟩
theorem xF (a:Array Oper) (late:List Nat):∀(l:List Oper) (i j:Nat),(gZ a late i l)[j]?=(l[j]?).map (kD a late (i+j))
 |[],_,_=>by simp [gZ]
 |o::r,i,0=>by simp [gZ]
 |o::r,i,j+1=>by
  simp only [gZ,List.getElem?_cons_succ]
  rw [xF a late r (i+1) j,show i+1+j=i+(j+1) by omega]
theorem pF (a:Array Oper) (late:List Nat):∀(l:List Oper) (i:Nat),(gZ a late i l).length=l.length
 |[],_=>rfl
 |o::r,i=>by simp [gZ,pF a late r]
theorem sH (a:Array Oper):∀(l:List Oper) (i:Nat),gZ a [] i l=l
 |[],_=>rfl
 |o::r,i=>by simp only [gZ,sH a r];simp [kD]
theorem Kl (a:Array Oper) (late:List Nat) (l:List Oper):jQ l (gZ a late 0 l):=by
 refine ⟨pF a late l 0,fun j o o' h1 h2=>?_⟩
 rw [xF,h1] at h2
 simp only [Option.map_some,osI] at h2
 subst h2
 obtain ⟨x,e⟩:=lV a late (0+j) o
 rw [e];exact ⟨rfl,rfl,rfl⟩
theorem jQ.trans {l l' l'':List Oper} (h:jQ l l') (g:jQ l' l''):jQ l l'':=by
 refine ⟨g.1.trans h.1,fun j o o'' h1 h2=>?_⟩
 have hj:j<l'.length:=by rw [h.1];exact (List.getElem?_eq_some_iff.1 h1).1
 obtain ⟨a1,a2,a3⟩:=h.2 j o l'[j] h1 (List.getElem?_eq_getElem hj)
 obtain ⟨b1,b2,b3⟩:=g.2 j l'[j] o'' (List.getElem?_eq_getElem hj) h2
 exact ⟨b1.trans a1,b2.trans a2,b3.trans a3⟩
theorem pG (ops:Array Oper):∀(pre done:List Nat),iN ops done pre=true→pre.Nodup∧(∀p∈pre,p ∉ done)∧∀p∈pre,p<ops.size
 |[],_,_=>⟨List.nodup_nil,by simp,by simp⟩
 |p::r,done,h=>by
  unfold iN at h
  cases ho:ops[p]? with
  |none=>simp [ho] at h
  |some o=>
   simp only [ho,Bool.and_eq_true] at h
   obtain ⟨⟨⟨⟨f1,_⟩,_⟩,_⟩,f5⟩:=h
   obtain ⟨g1,g2,g3⟩:=pG ops r _ f5
   refine ⟨List.nodup_cons.2 ⟨fun hp=>g2 p hp (by simp),g1⟩,?_,?_⟩
   ·intro q hq;rcases List.mem_cons.1 hq with rfl|hq
    ·simpa using f1
    exact fun hh=>g2 q hq (by simp [hh])
   intro q hq;rcases List.mem_cons.1 hq with rfl|hq
   ·exact (Array.getElem?_eq_some_iff.1 ho).1
   exact g3 q hq
theorem Hl (t u:Nat) (v:AV):∀l:List (Nat×AV),fY t (S2 u v l)=bif Nat.beq t u then v else fY t l
 |[]=>rfl
 |(s,x)::r=>by
  simp only [S2]
  cases h1:Nat.beq u s with
  |true=>
   have:=Nat.eq_of_beq_eq_true h1;subst this
   simp only [cond_true,fY]
   cases Nat.beq t u<;>rfl
  |false=>
   simp only [cond_false]
   cases h2:Nat.blt u s with
   |true=>rfl
   |false=>
    simp only [cond_false,fY]
    rw [Hl t u v r]
    cases h3:Nat.beq t s with
    |false=>simp
    |true=>
     have:=Nat.eq_of_beq_eq_true h3;subst this
     have:Nat.beq t u=false:=by
      cases h:Nat.beq t u with
      |false=>rfl
      |true=>have:=Nat.eq_of_beq_eq_true h;subst this;rw [h] at h1;cases h1
     simp [this]
theorem Bf (t:Nat):∀l:List (Nat×AV),fY t (CP l)=fY t l
 |[]=>rfl
 |(u,v)::r=>by rw [CP,Hl,Bf t r];rfl
section
variable {N:Nat} {ds:List Deferred} {X:Nat→Prop} {β0:Nat→Nat} {aE:List ax} {w0:World}
theorem rD (hT:iH P T) {ops ops':Array Oper} {pre:List Nat} (Ho:oD pre ops ops') {QQ:Exit→Act→World→Prop} {Q:Ex→St→Prop} {i:Nat} {KS:St→Prop} {NX:Act→World→Prop} {β:Nat→Nat} {w:World} {s:St} {a:Act} (ex:Ext β0 aE w0 β s.bx w) (hF:Fr G N ds β w X s a)
 (hp:∀β bx v u w a,Ext β0 aE w0 β bx w→ct G β bx w X→ah β bx w (be β bx w X) v u→a.defers=ds→Q (.panic v) ⟨[],bx⟩→QQ (.panic [{v:=u,recovered:=false}]) a w)
 (h:yE (bg P G) T G N ops.toList i KS Q s) (hn:∀β w s a,Ext β0 aE w0 β s.bx w→Fr G N ds β w X s a→KS s→NX a w):wpOp P ops' QQ i NX a w:=by
 rw [uo Ho]
 unfold yE at h
 unfold wpOp
 simp only [Array.getElem?_toList] at h
 cases ho:ops[i]? with
 |none=>rw [ho] at h;exact h.elim
 |some o=>
  rw [ho] at h
  simp only at h ⊢
  cases hd:fS N o.dst with
  |false=>rw [hd] at h;exact h.elim
  |true=>
   rw [hd] at h
   simp only [cond_true] at h
   have Nk:∀{s1:St},s1=s→P5 G β s1.bx w X a (fun v bx=>Q (.panic v) ⟨[],bx⟩) QQ:=fun e β' aG w' v u oU nP hv hK=>by subst e;exact hp β' aG v u w' a (ex.trans oU) nP hv hF.defers hK
   split at h
   ·rename_i hg
    rw [if_pos (by unfold Region.wanted;rw [hg])]
    exact .inl (kM hT hF h (fun β' aG w' v u oU nP hv hK=>hn β' w' ⟨dV o.dst v s.sl,aG⟩ _ (ex.trans oU) (hF.put oU nP hd hv) hK) (Nk rfl))
   rename_i j want hg
   split at h
   ·rename_i g JF
    have hy:=lH hF JF
    obtain ⟨h⟩:=h
    cases g with
    |true=>
     rw [if_pos (by simp only [Region.wanted,hg];exact hy)]
     refine .inl (kM hT hF (h.1 rfl) (fun β' aG w' v u oU nP hv hK=>hn β' w' ⟨dV o.dst (.cond true v) s.sl,aG⟩ _ (ex.trans oU) (hF.put oU nP hd ?_) hK) (Nk rfl))
     simp only [ah];exact ⟨fun _=>hv,by simp⟩
    |false=>
     rw [if_neg (by simp only [Region.wanted,hg];rw [hy];simp)]
     refine hn β w ⟨dV o.dst (.cond false .any) s.sl,s.bx⟩ _ ex (hF.put (Ext.refl _ _ _) hF.cx hd ?_) (h.2 rfl)
     simp only [ah];simp
   exact h.elim
theorem vI (hT:iH P T) {ops ops':Array Oper} {pre:List Nat} (Ho:oD pre ops ops') {R:St→Prop} {QQ:Exit→Act→World→Prop} {Q:Ex→St→Prop}
 (hp:∀β bx v u w a,Ext β0 aE w0 β bx w→ct G β bx w X→ah β bx w (be β bx w X) v u→a.defers=ds→Q (.panic v) ⟨[],bx⟩→QQ (.panic [{v:=u,recovered:=false}]) a w)
 (hR:∀β w s a,Ext β0 aE w0 β s.bx w→Fr G N ds β w X s a→R s→QQ .normal a w):∀(tr:OT) (n:Nat) (listed:Array Bool) (β:Nat→Nat) (w:World) (s:St) (a:Act),Ext β0 aE w0 β s.bx w→Fr G N ds β w X s a→
  Nn (bg P G) T G N ops.toList Q R tr s→tr.depth≤n→
  (tr.fit ops' true listed=true→wpAny P .any ops' QQ n listed a w)∧
  (tr.fit ops' false listed=true→∀i∈tr.L9,wpOp P ops' QQ i (wpAny P .any ops' QQ (n-1) (listed.setIfInBounds i true)) a w)
 |.done,n,listed,β,w,s,a,ex,hF,h,_=>by
  refine ⟨fun hf=>?_,fun _ i hi=>by cases hi⟩
  simp only [OT.fit,Bool.not_true,Bool.false_or] at hf
  exact wpAny_done (List.isEmpty_iff.1 hf) (hR β w s a ex hF h) n
 |.one i o,n,listed,β,w,s,a,ex,hF,h,hd=>by
  simp only [OT.depth] at hd
  obtain ⟨m,rfl⟩:∃m,n=m+1:=⟨n-1,by omega⟩
  have key:o.fit ops' true (listed.setIfInBounds i true)=true→wpOp P ops' QQ i (wpAny P .any ops' QQ m (listed.setIfInBounds i true)) a w:=fun hf=>
   rD hT Ho ex hF hp h fun β w s a ex hF hK=>(vI hT Ho hp hR o m _ β w s a ex hF hK (by omega)).1 hf
  refine ⟨fun hf=>?_,fun hf j hj=>?_⟩
  ·simp only [OT.fit,Bool.not_true,Bool.false_or,Bool.and_eq_true,beq_iff_eq] at hf
   exact wpAny_all hf.1 (by simp) fun j hj=>by simp at hj;subst hj;exact key hf.2
  simp only [OT.fit,Bool.not_false,Bool.true_or,Bool.true_and] at hf
  simp only [OT.L9,List.mem_singleton] at hj
  subst hj;exact key hf
 |.more i o r,n,listed,β,w,s,a,ex,hF,h,hd=>by
  simp only [OT.depth] at hd
  obtain ⟨m,rfl⟩:∃m,n=m+1:=⟨n-1,by omega⟩
  have key:o.fit ops' true (listed.setIfInBounds i true)=true→wpOp P ops' QQ i (wpAny P .any ops' QQ m (listed.setIfInBounds i true)) a w:=fun hf=>
   rD hT Ho ex hF hp h.1 fun β w s a ex hF hK=>(vI hT Ho hp hR o m _ β w s a ex hF hK (by omega)).1 hf
  have rest:=(vI hT Ho hp hR r (m+1) listed β w s a ex hF h.2 (by omega)).2
  refine ⟨fun hf=>?_,fun hf j hj=>?_⟩
  ·simp only [OT.fit,Bool.not_true,Bool.false_or,Bool.and_eq_true,beq_iff_eq] at hf
   refine wpAny_all hf.1 (by simp) fun j hj=>?_
   rcases List.mem_cons.1 hj with rfl|hj
   ·exact key hf.2.1
   exact rest hf.2.2 j hj
  simp only [OT.fit,Bool.not_false,Bool.true_or,Bool.true_and,Bool.and_eq_true] at hf
  rcases List.mem_cons.1 hj with rfl|hj
  ·exact key hf.1
  exact rest hf.2 j hj
end
theorem Hp (hT:iH P T) (hm:P.follows .mixedOrders=true) {N:Nat} {ds:List Deferred} {X:Nat→Prop} {β0:Nat→Nat} {aE:List ax} {w0:World} {id:Nat} {eY:Array Oper} {Q:Ex→St→Prop} {β:Nat→Nat} {w:World} {s:St} {a:Act} (ex:Ext β0 aE w0 β s.bx w) (hF:Fr G N ds β w X s a)
 (h:Vu (bg P G) T G N eY.toList Q s):(Code.region id eY true).wp P (ee G N ds X β0 aE w0 Q) a w:=by
 obtain ⟨pre,tr,s1,⟨Nu,Mg,hp3⟩,hft,hx,hpost⟩:=h
 unfold OT.fits at hft
 rw [Bool.and_eq_true] at hft
 simp only [Array.length_toList] at hft
 refine wp_region_any hm ?_
 have Ho:oD pre eY (cg pre 0 eY.toList).toArray:=by intro j;simp [mP]
 have hsame:=ff w
 have zY:Fr G N ds β {w with drawn:=w.drawn+1} X s a:=⟨qR hF.cx hsame,hF.defers,hF.size,fun t=>ah.mono ((iO hsame).dQ X) _ _ (hF.xz t)⟩
 have hgoal:=(vI (X:=X) hT Ho (QQ:=ee G N ds X β0 aE w0 Q) (fun β bx v u w a ex cx hv hd hq=>⟨β,bx,v,u,rfl,ex,cx,hv,hd,hq⟩) (fun β w s a ex hF hR=>by
  subst hR
  exact ⟨β,⟨CP s.sl,s.bx⟩,ex,hF.G5 fun t=>(Bf t s.sl).symm,hpost⟩) tr eY.size (Array.replicate eY.size false) β _ s a (ex.trans (iO hsame)) zY hx (Nat.le_of_ble_eq_true hft.1)).1 hft.2
 have Qi:iN eY [] pre=true:=by simpa using Nu
 obtain ⟨n1,n2,n3⟩:=pG _ _ _ Qi
 have hle:pre.length≤eY.size:=by
  have:=List.Nodup.length_le_of_subset n1 (fun p hp=>List.mem_range.2 (n3 p hp):pre ⊆ List.range eY.size)
  simpa using this
 obtain ⟨fuel,hfuel⟩:∃fuel,eY.size=pre.length+fuel:=⟨eY.size-pre.length,by omega⟩
 rw [hfuel] at hgoal ⊢
 have A8:∀p,p<pre.length+fuel→(Array.replicate (pre.length+fuel) false).getD p true=false:=by intro p hp;simp [hp]
 refine xD (G:=G) (N:=N) Ho (by simpa using Mg) ?_ fuel _ pre [] _ a s.sl Qi hp3 ?_ hF.size (by simp) (fun p hp _=>A8 p (by have:=n3 p hp;omega)) (fun p hp=>.inr hp) (fun p hp=>hp) (by simp [hfuel]) n1 hgoal
 ·intro c a a' w ha hq
  simp only [ee] at hq ⊢
  obtain ⟨β,bx,v,u,h1,h2,h3,h4,h5,h6⟩:=hq
  exact ⟨β,bx,v,u,h1,h2,h3,h4,ha.symm.trans h5,h6⟩
 intro t k z hk
 have:=hF.xz t
 rw [hk] at this
 simpa only [ah,aK] using this
section
variable {P:Program} {T:Nat→Option TI} {G:Nat→Option (List D)} {N:Nat} {ds:List Deferred} {X:Nat→Prop}
variable {β0:Nat→Nat} {aE:List ax} {w0:World}
theorem Qj:∀{l m:List Bool},Yc l m=true→l=m
 |[],[],_=>rfl
 |a::l,b::m,h=>by
  simp only [Yc,Bool.and_eq_true,beq_iff_eq] at h
  rw [h.1,Qj h.2]
 |[],_::_,h=>by simp [Yc] at h
 |_::_,[],h=>by simp [Yc] at h
theorem Hq {k i:Nat}:∀{l:List (Nat×Nat)},PB k i l=true→(k,i)∈l
 |[],h=>by simp [PB] at h
 |(p,j)::r,h=>by
  simp only [PB,Bool.or_eq_true,Bool.and_eq_true,Nat.beq_eq] at h
  rcases h with ⟨rfl,rfl⟩|h
  ·exact List.mem_cons_self ..
  exact List.mem_cons_of_mem _ (Hq h)
theorem EZ {ops:Array Oper} {pl:List Nd} {z:Nat}:∀{l:List Nd} {k j:Nat} {nd:Nd},PC ops pl z k l=true→l[j]?=some nd→
 (Region.ready .any ops nd.ls.toArray=[]∧k+j=z)∨(Region.ready .any ops nd.ls.toArray≠[]∧∀i∈Region.ready .any ops nd.ls.toArray,i<nd.ls.length∧nd.ls[i]?=some false∧∃e∈pl,e.ls=nd.ls.set i true∧(k+j,i)∈e.ps)
 |[],_,_,_,_,h=>by simp at h
 |x::l,k,0,nd,h,hj=>by
  simp only [List.getElem?_cons_zero,osI] at hj
  subst hj
  simp only [PC,Bool.and_eq_true] at h
  have h:=h.1
  split at h
  ·rename_i g;exact .inl ⟨g,by simpa using Nat.eq_of_beq_eq_true h⟩
  rename_i rs g
  refine .inr ⟨fun e=>g e,fun i hi=>?_⟩
  have:=List.all_eq_true.1 h i hi
  simp only [Bool.and_eq_true,beq_iff_eq,List.any_eq_true] at this
  obtain ⟨⟨h1,h2⟩,e,he,h3,h4⟩:=this
  have h1:i<x.ls.length:=Nat.le_of_ble_eq_true h1
  refine ⟨h1,?_,e,he,Qj h3,Hq h4⟩
  rw [List.getD_eq_getElem?_getD,List.getElem?_eq_getElem h1] at h2
  rw [List.getElem?_eq_getElem h1]
  simpa using h2
 |x::l,k,j+1,nd,h,hj=>by
  simp only [List.getElem?_cons_succ] at hj
  simp only [PC,Bool.and_eq_true] at h
  have:=EZ h.2 hj
  rw [show k+(j+1)=k+1+j by omega]
  exact this
theorem Hr {FC:Nat→List AV→List ax→fm→List ax→Prop} {ops:List Oper} {Q:Ex→St→Prop} {S:List St} {s s0:St} {p i:Nat}:∀{l:List (Nat×Nat)},Gp FC T G N ops Q S s l→(p,i)∈l→S[p]?=some s0→yE FC T G N ops i (fun s1=>(⟨CP s1.sl,s1.bx⟩:St)=s) Q s0
 |[],_,h,_=>by simp at h
 |(q,j)::r,h,hm,hs=>by
  rcases List.mem_cons.1 hm with e|hm
  ·obtain ⟨rfl,rfl⟩:=Prod.mk.inj e
   have:=h.1
   rw [hs] at this
   exact this
  exact Hr h.2 hm hs
theorem Ms {FC:Nat→List AV→List ax→fm→List ax→Prop} {ops:List Oper} {Q:Ex→St→Prop} {S:List St}:∀{l:List Nd} {k j:Nat} {nd:Nd},allM FC T G N ops Q S k l→l[j]?=some nd→∃s,S[k+j]?=some s∧Gp FC T G N ops Q S s nd.ps
 |[],_,_,_,_,h=>by simp at h
 |x::l,k,0,nd,h,hj=>by
  simp only [List.getElem?_cons_zero,osI] at hj
  subst hj
  have:=h.1
  split at this
  ·rename_i s g;exact ⟨s,g,this⟩
  exact this.elim
 |x::l,k,j+1,nd,h,hj=>by
  simp only [List.getElem?_cons_succ] at hj
  obtain ⟨s,g1,g2⟩:=Ms h.2 hj
  exact ⟨s,by rw [←g1];congr 1;omega,g2⟩
theorem ur:∀{l:List Bool} {i:Nat},l[i]?=some false→(l.set i true).count false+1=l.count false
 |[],_,h=>by simp at h
 |a::l,0,h=>by
  simp only [List.getElem?_cons_zero,osI] at h
  subst h
  simp
 |a::l,i+1,h=>by
  simp only [List.getElem?_cons_succ] at h
  have:=ur h
  simp only [List.set_cons_succ,List.count_cons]
  omega
theorem Qk (hT:iH P T) {ops:Array Oper} {pl:List Nd} {S:List St} {QQ:Exit→Act→World→Prop} {Q:Ex→St→Prop} (Ho:oD [] ops ops) (hfit:Gn ops pl=true)
 (hp:∀β bx v u w a,Ext β0 aE w0 β bx w→ct G β bx w X→ah β bx w (be β bx w X) v u→a.defers=ds→Q (.panic v) ⟨[],bx⟩→QQ (.panic [{v:=u,recovered:=false}]) a w)
 (hm:allM (bg P G) T G N ops.toList Q S 1 pl)
 (hR:∀β w s a,Ext β0 aE w0 β s.bx w→Fr G N ds β w X s a→S[pl.length]?=some s→QQ .normal a w):∀(n k:Nat) (nd:Nd) (s:St) (β:Nat→Nat) (w:World) (a:Act),
  (⟨List.replicate ops.size false,[]⟩::pl:List Nd)[k]?=some nd→S[k]?=some s→Ext β0 aE w0 β s.bx w→Fr G N ds β w X s a→nd.ls.count false≤n→wpAny P .any ops QQ n nd.ls.toArray a w:=by
 intro n
 induction n with
 |zero=>
  intro k nd s β w a hk hs ex hF hc
  rcases EZ hfit hk with ⟨h1,h2⟩|⟨h1,h2⟩
  ·rw [Nat.zero_add] at h2;subst h2
   exact wpAny_done h1 (hR β w s a ex hF hs) 0
  exfalso
  obtain ⟨i,hi⟩:=List.exists_mem_of_ne_nil _ h1
  have:=ur (h2 i hi).2.1
  omega
 |succ n ih=>
  intro k nd s β w a hk hs ex hF hc
  rcases EZ hfit hk with ⟨h1,h2⟩|⟨h1,h2⟩
  ·rw [Nat.zero_add] at h2;subst h2
   exact wpAny_done h1 (hR β w s a ex hF hs) (n+1)
  refine wpAny_all rfl h1 fun i hi=>?_
  obtain ⟨g1,g2,e,he,g3,g4⟩:=h2 i hi
  rw [Nat.zero_add] at g4
  obtain ⟨j,hj⟩:=List.getElem?_of_mem he
  obtain ⟨s',q1,q2⟩:=Ms hm hj
  have hst:=Hr q2 g4 hs
  refine rD hT Ho ex hF hp hst fun β w s1 a ex hF hK=>?_
  subst hK
  have:=ih (1+j) e ⟨CP s1.sl,s1.bx⟩ β w a (by rw [Nat.add_comm];simpa using hj) q1 ex (hF.G5 fun t=>(Bf t s1.sl).symm) (by rw [g3];have:=ur g2;omega)
  rw [g3] at this
  simpa using this
theorem Hs (hT:iH P T) (hm:P.follows .mixedOrders=true) {id:Nat} {eY:Array Oper} {Q:Ex→St→Prop} {β:Nat→Nat} {w:World} {s:St} {a:Act} (ex:Ext β0 aE w0 β s.bx w) (hF:Fr G N ds β w X s a)
 (h:Vv (bg P G) T G N eY.toList Q s):(Code.region id eY true).wp P (ee G N ds X β0 aE w0 Q) a w:=by
 obtain ⟨pl,S,s1,h1,h2,h3,h4,h5⟩:=h
 refine wp_region_any hm ?_
 have h1:Gn eY pl=true:=by simpa using h1
 have Ho:oD [] eY eY:=by
  have:oD [] eY (cg [] 0 eY.toList).toArray:=by intro j;simp [mP]
  rwa [pz] at this
 have hsame:=ff w
 have zY:Fr G N ds β {w with drawn:=w.drawn+1} X s a:=⟨qR hF.cx hsame,hF.defers,hF.size,fun t=>ah.mono ((iO hsame).dQ X) _ _ (hF.xz t)⟩
 have:=Qk (X:=X) hT Ho (QQ:=ee G N ds X β0 aE w0 Q) h1 (fun β bx v u w a ex cx hv hd hq=>⟨β,bx,v,u,rfl,ex,cx,hv,hd,hq⟩) h4 (fun β w s a ex hF hR=>by
  rw [h3] at hR
  cases hR
  exact ⟨β,s1,ex,hF,h5⟩) eY.size 0 ⟨List.replicate eY.size false,[]⟩ s β _ a rfl h2 (ex.trans (iO hsame)) zY (by simp)
 simpa using this
end
theorem Tu (hT:iH P T) (hm:P.follows .mixedOrders=true):kX P T G:=by
 intro N ds X β0 aE w0 id eY Q β w s a ex hF h
 rcases h with h|h|h
 ·exact Hp hT hm ex hF h
 ·exact Hs hT hm ex hF h
 obtain ⟨pre,late,hpre,⟨hfit⟩,YM⟩:=h
 refine wp_region_any hm ?_
 obtain ⟨Km,Mt⟩:∃ops:Array Oper,ops=(cg pre 0 eY.toList).toArray:=⟨_,rfl⟩
 obtain ⟨ops,Ht⟩:∃ops:Array Oper,ops=(gZ Km late 0 (cg pre 0 eY.toList)).toArray:=⟨_,rfl⟩
 have YN:Km.size=eY.size:=by rw [Mt];simp [kF]
 have hsz:ops.size=eY.size:=by rw [Ht];simp [pF,kF]
 have Ho:oD pre eY Km:=by intro j;rw [Mt];simp [mP]
 have hla:Hi late Km ops:=by intro j;rw [Ht];simp only [List.getElem?_toArray,xF,Nat.zero_add];rw [Mt];simp
 have hl:ops.toList=gZ Km late 0 (cg pre 0 eY.toList):=by rw [Ht]
 rw [←Mt] at hfit YM hpre
 have hal:jQ eY.toList (gZ Km late 0 (cg pre 0 eY.toList)):=(Hj pre _).trans (Kl _ _ _)
 have hop:=YM
 rw [←Be hal _ _ _ _ _ _ hal] at hop
 rw [←hl] at hfit hop
 have hQQ:∀c (a a':Act) w,a.defers=a'.defers→ee G N ds X β0 aE w0 Q (.panic c) a w→ee G N ds X β0 aE w0 Q (.panic c) a' w:=by
  intro c a a' w ha hq
  simp only [ee] at hq ⊢
  obtain ⟨β,bx,v,u,h1,h2,h3,h4,h5,h6⟩:=hq
  exact ⟨β,bx,v,u,h1,h2,h3,h4,ha.symm.trans h5,h6⟩
 suffices hgoal:wpAny P .any ops (ee G N ds X β0 aE w0 Q) eY.size (Array.replicate eY.size false) a {w with drawn:=w.drawn+1} by
  rcases hpre with ⟨rfl,rfl⟩|⟨Nu,Mg,nQ,hp3⟩
  ·have e:ops=eY:=by rw [Ht,sH,pz]
   rw [e] at hgoal;exact hgoal
  have Qi:iN eY [] pre=true:=by simpa using Nu
  have aa8:nv Km=true:=by
   have YO:nv eY=true:=by simpa using Mg
   rw [nv,Array.all_eq_true_iff_forall_mem] at YO ⊢
   intro o ho
   obtain ⟨j,hj⟩:=Array.getElem?_of_mem ho
   rw [Ho j] at hj
   cases h0:eY[j]? with
   |none=>rw [h0] at hj;cases hj
   |some o0=>
    rw [h0] at hj
    simp only [Option.map_some,osI] at hj
    rw [←hj,(lS pre j o0).1]
    exact YO o0 (Array.mem_of_getElem? h0)
  have hgoal:=ND hla nQ aa8 hQQ _ _ _ _ (by simp [YN]) hgoal
  obtain ⟨n1,n2,n3⟩:=pG _ _ _ Qi
  have hle:pre.length≤eY.size:=by
   have:=List.Nodup.length_le_of_subset n1 (fun p hp=>List.mem_range.2 (n3 p hp):pre ⊆ List.range eY.size)
   simpa using this
  obtain ⟨fuel,hfuel⟩:∃fuel,eY.size=pre.length+fuel:=⟨eY.size-pre.length,by omega⟩
  rw [hfuel] at hgoal ⊢
  have A8:∀p,p<pre.length+fuel→(Array.replicate (pre.length+fuel) false).getD p true=false:=by intro p hp;simp [hp]
  refine xD (G:=G) (N:=N) Ho (by simpa using Mg) hQQ fuel _ pre [] _ a s.sl Qi hp3 ?_ hF.size (by simp) (fun p hp _=>A8 p (by have:=n3 p hp;omega)) (fun p hp=>.inr hp) (fun p hp=>hp) (by simp [hfuel]) n1 hgoal
  intro t k z hk
  have:=hF.xz t
  rw [hk] at this
  simpa only [ah,aK] using this
 rw [←hsz]
 have YP:gK ops (cF ops.toList []) 0 ops.toList=true:=by simpa using hfit
 obtain ⟨cB,k',g1,g2,g3,g4⟩:=ul _ _ _ _ hop
 have VH:∀x,at_ (Array.replicate ops.size false) x=false:=by
  intro x;unfold at_
  rcases Nat.lt_or_ge x ops.size with h|h<;>simp [h]
 have hsame:=ff w
 have f1:=Bc (m:=at_ (Array.replicate ops.size false)) cB 0 s.sl (fun j _=>VH _)
 have f2:=Bd (m:=at_ (Array.replicate ops.size false)) cB 0 (s.bx++List.replicate (oY eY.toList) .bA) (fun j _=>VH _)
 refine Qh hT YP ops.size _ 0 0 cB ⟨s.sl,s.bx++List.replicate (oY eY.toList) .bA⟩ β _ a (by simp) ?_ (fun x hx=>by omega) (fun x _=>VH x) ?_ (by simpa using g2) g1 ?_ ?_ ?_ ?_
 ·intro x o _ hx;rw [VH] at hx;cases hx
 ·simp
 ·intro j it hj
  obtain ⟨o,q1,q2,q3,q4⟩:=g3 j it hj
  exact ⟨o,by simpa using q1,q2,q3,q4⟩
 ·rcases g4 with ⟨q1,q2⟩|⟨o,rest,q1,q2,q3,q4⟩
  ·exact .inl ⟨by simpa using q1,q2⟩
  exact .inr ⟨k',o,rest,by simpa using q1,q2,q3,q4⟩
 ·rw [f2]
  exact (ex.trans (uq _)).trans (iO hsame)
 rw [f1,f2]
 have c1:=qR (Kk hF.cx (oY eY.toList)) hsame
 refine ⟨c1,hF.defers,hF.size,fun t=>?_⟩
 exact ah.mono (((uq (oY eY.toList)).trans (iO hsame)).dQ X) _ _ (hF.xz t)
end
end Dem
