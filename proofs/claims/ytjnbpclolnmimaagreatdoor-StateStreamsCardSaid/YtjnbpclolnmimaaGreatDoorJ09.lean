/- Parts of a proof, joined. -/
import Derived.Test.YtjnbpclolnmimaaGreatDoorJ08
set_option linter.unusedSimpArgs false
set_option linter.unusedVariables false
set_option maxRecDepth 100000
set_option maxHeartbeats 4000000
section
open Go
namespace Dem
section
variable {P:Program} {T:Nat→Option TI} {G:Nat→Option (List D)} {N:Nat} {ds:List Deferred} {β:Nat→Nat} {bx aG:List ax} {w:World} {X:Nat→Prop} {s:St} {a:Act}
def Qd (ev:Operand→AV) (xs:List Operand):Prop:=∀x∈xs,(ev x).ok
theorem nk.le {FC:Nat→List AV→List ax→fm→List ax→Prop} {f:Nat} {args:List AV} {v:AV} (h:nk FC f args bx v) (hb:lI bx aG):nk FC f args aG v:=by
 obtain ⟨args',jz,k1,k2,k3,k4,k5⟩:=h
 refine ⟨args',jz,EV hb k1,k2,k3,?_,k5⟩
 intro i b hi dj
 obtain ⟨b',h1,h2,h3⟩:=k4 i b hi dj
 exact ⟨b',hb i b' h1 h2,h2,h3⟩
theorem Kf {ev sG:Operand→AV} {op:Op} (h:∀x∈op.operands.toList,ev x=sG x):CO T ev op=CO T sG op:=by
 unfold CO
 split
 ·rename_i b args ats
  split
  ·rename_i x y t u ha Wn
   have mx:x∈args.toList:=by rw [ha];simp
   have my:y∈args.toList:=by rw [ha];simp
   rw [h x (by simp [Op.operands,Call.operands];exact by simpa using mx),h y (by simp [Op.operands,Call.operands];exact by simpa using my)]
  rfl
 rfl
inductive YG (FC:Nat→List AV→List ax→fm→List ax→Prop) (T:Nat→Option TI) (g:Bool) (ev:Operand→AV) (bx:List ax):Op→AV→Prop
 |pick (c a b:Operand) (p:Bool) (hc:(ev c).aP=.d (.bool p)) (hg:g=true→(ev c).ok∧(p=true→(ev a).ok)∧(p=false→(ev b).ok)):YG FC T g ev bx (.pick c a b) (Ak p (ev a).aP (ev b).aP)
 |call (f:Operand) (args:Array Operand) (ats:Array TypeId) (i:Nat) (as:List AV) (v:AV) (hf:mA (ev f).aP (args.toList.map fun x=>(ev x).aP)=some (i,as))
  (hg:g=true→((ev f).ok∧Qd ev args.toList)∧nk FC i as bx v):
  YG FC T g ev bx (.call {callee:=.value f,args:=args,argTypes:=ats}) v
 |inv (f:Operand) (nm:String) (args:Array Operand) (ats:Array TypeId) (i:Nat) (as:List AV) (v:AV) (hf:Dc T (ev f).aP nm (args.toList.map fun x=>(ev x).aP)=some (i,as))
  (hg:g=true→((ev f).ok∧Qd ev args.toList)∧nk FC i as bx v):
  YG FC T g ev bx (.call {callee:=.invoke f nm,args:=args,argTypes:=ats}) v
 |idx (t:Nat) (x i:Operand) (c:Prop) (ds ds':List D) (hi:An T t (ev x).aP (ev i).aP=some (c,ds)) (hg:g=true→(Qd ev [x,i]∧c)∧ds=ds'):YG FC T g ev bx (.indexAddr t x i) (.ep ds')
 |no (op:Op) (v:AV) (hg:g=false):YG FC T g ev bx op v
 |app (op:Op) (c:Prop) (es:List (List D)) (hr:CO T (fun x=>(ev x).aP) op=some (c,es)) (hg:g=true→Qd ev op.operands.toList∧c):YG FC T g ev bx op (.d (.sl es))
 |op (op:Op) (c:Prop) (v:AV) (hr:Gd T (fun x=>(ev x).aP) op bx=some ⟨c,v,none⟩) (hg:g=true→Qd ev op.operands.toList∧c):YG FC T g ev bx op v
variable {FC:Nat→List AV→List ax→fm→List ax→Prop}
theorem vE {g:Bool} {o:Oper} {K:AV→Prop} (h:stepG FC T G g o s K):∃v,YG FC T g (bW G s.sl) s.bx o.op v∧K v:=by
 rcases h with ⟨hg,v,hK⟩|h|⟨c,es,hr,hg,hK⟩
 ·exact ⟨v,.no _ v hg,hK⟩
 rotate_left
 ·exact ⟨_,.app _ c es hr (fun h=>⟨fun x hx=>c8 (hg h).1 x hx,(hg h).2⟩),hK⟩
 unfold w8 at h
 split at h
 ·rename_i c x y ho
  split at h
  ·rename_i p hc
   rw [ho]
   exact ⟨_,.pick c x y p hc h.1,h.2⟩
  exact h.elim
 ·rename_i f args ats ho
  split at h
  ·rename_i i as GY
   obtain ⟨v,hg,hK⟩:=h
   rw [ho]
   exact ⟨v,.call f args ats i as v GY (fun hg'=>⟨⟨(hg hg').1.1,fun x hx=>c8 (hg hg').1.2 x hx⟩,(hg hg').2⟩),hK⟩
  exact h.elim
 ·rename_i f nm args ats ho
  split at h
  ·rename_i i as GY
   obtain ⟨v,hg,hK⟩:=h
   rw [ho]
   exact ⟨v,.inv f nm args ats i as v GY (fun hg'=>⟨⟨(hg hg').1.1,fun x hx=>c8 (hg hg').1.2 x hx⟩,(hg hg').2⟩),hK⟩
  exact h.elim
 split at h
 ·rename_i c ds hi
  obtain ⟨ds',hg,hK⟩:=h
  split at hi
  ·rename_i t x i ho
   rw [ho] at hg ⊢
   exact ⟨_,.idx t x i c ds ds' hi (fun hg'=>⟨⟨fun y hy=>c8 (hg hg').1.1 y (by simpa [Op.operands] using hy),(hg hg').1.2⟩,(hg hg').2⟩),hK⟩
  simp at hi
 split at h
 ·rename_i c v hr
  exact ⟨v,.op _ c v hr (fun hg=>⟨fun x hx=>c8 (h.1 hg).1 x hx,(h.1 hg).2⟩),h.2⟩
 exact h.elim
theorem YG.G5 {g:Bool} {ev sG:Operand→AV} {op:Op} {v:AV} (h:YG FC T g ev bx op v) (iz:∀x∈op.operands.toList,ev x=sG x) (hb:lI bx aG):YG FC T g sG aG op v:=by
 cases h with
 |pick c x y p hc hg=>
  have e1:=iz c (by simp [Op.operands]);have e2:=iz x (by simp [Op.operands]);have e3:=iz y (by simp [Op.operands])
  rw [e1] at hc hg;rw [e2] at hg ⊢;rw [e3] at hg ⊢
  exact .pick c x y p hc hg
 |call f args ats i as v hf hg=>
  have e1:=iz f (by simp [Op.operands,Call.operands])
  have e2:∀x∈args.toList,ev x=sG x:=fun x hx=>iz x (by simp [Op.operands,Call.operands];exact .inr (by simpa using hx))
  rw [e1,List.map_congr_left (g:=fun x=>(sG x).aP) fun x hx=>by rw [e2 x hx]] at hf
  refine .call f args ats i as v hf (fun hg'=>?_)
  obtain ⟨⟨k1,k2⟩,k3⟩:=hg hg'
  exact ⟨⟨e1▸k1,fun x hx=>e2 x hx▸k2 x hx⟩,k3.le hb⟩
 |inv f nm args ats i as v hf hg=>
  have e1:=iz f (by simp [Op.operands,Call.operands])
  have e2:∀x∈args.toList,ev x=sG x:=fun x hx=>iz x (by simp [Op.operands,Call.operands];exact .inr (by simpa using hx))
  rw [e1,List.map_congr_left (g:=fun x=>(sG x).aP) fun x hx=>by rw [e2 x hx]] at hf
  refine .inv f nm args ats i as v hf (fun hg'=>?_)
  obtain ⟨⟨k1,k2⟩,k3⟩:=hg hg'
  exact ⟨⟨e1▸k1,fun x hx=>e2 x hx▸k2 x hx⟩,k3.le hb⟩
 |idx t x i c ds ds' hi hg=>
  have e1:=iz x (by simp [Op.operands]);have e2:=iz i (by simp [Op.operands])
  rw [e1,e2] at hi
  refine .idx t x i c ds ds' hi (fun hg'=>⟨⟨fun y hy=>?_,(hg hg').1.2⟩,(hg hg').2⟩)
  have:=(hg hg').1.1 y hy
  rw [iz y (by simpa [Op.operands] using hy)] at this
  exact this
 |no _ v hg=>exact .no _ v hg
 |app _ c es hr hg=>
  refine .app _ c es ?_ (fun hg'=>⟨fun x hx=>iz x hx▸(hg hg').1 x hx,(hg hg').2⟩)
  rw [←Kf (ev:=fun x=>(ev x).aP) (sG:=fun x=>(sG x).aP) (fun x hx=>by rw [iz x hx])]
  exact hr
 |op _ c v hr hg=>
  refine .op _ c v ?_ (fun hg'=>⟨fun x hx=>iz x hx▸(hg hg').1 x hx,(hg hg').2⟩)
  rw [←NC (ev:=fun x=>(ev x).aP) (sG:=fun x=>(sG x).aP) (fun x hx=>by rw [iz x hx])]
  exact Wu hb hr
theorem G6 (hT:iH P T) (hF:Fr G N ds β w X s a) {o:Oper} {v:AV} {next:Act→World→Prop} {Qc:Exit→Act→World→Prop}
 (h:YG (bg P G) T true (bW G s.sl) s.bx o.op v) (hn:AM G β s.bx w X a o.dst (fun v' bx=>v'=v∧bx=s.bx) next):o.wp P a w next Qc:=by
 have iz:∀x,(bW G s.sl x).ok→ah β s.bx w (be β s.bx w X) (bW G s.sl x).aP (a.eval x):=fun x hx=>iE (hF.eval x) hx
 unfold Oper.wp
 generalize ho:o.op=op at h
 cases h with
 |pick c x y p hc hg=>
  obtain ⟨h1,h2,h3⟩:=hg rfl
  have wW:=iz c h1
  rw [hc] at wW;simp only [ah,aK] at wW
  refine cI (v:=_) (aG:=s.bx) (de.pure (u:=if p then a.eval x else a.eval y) hF.cx ?_ (AO (fun hp=>iz x (h2 hp)) (fun hp=>iz y (h3 hp)))) ⟨rfl,rfl⟩ hn
  simp [execOp,ho,wW,asBool]
 |call f args ats i as v GY hg=>
  obtain ⟨⟨h1,h2⟩,hq⟩:=hg rfl
  obtain ⟨fs,cs,e1,e2⟩:=mN GY (iz f h1) (ig args.toList (fun y hy=>iz y (h2 y hy)))
  rw [kL ho e1]
  refine gC (lG (K:=fun v' bx=>v'=v∧bx=s.bx) hF.cx e2 hq ⟨rfl,rfl⟩) ?_ ?_ ?_
  ·rintro v w' ⟨β',aG,v',u,e,ex,cx,hv,hK⟩
   cases e
   exact hn β' aG w' v' v ex cx hv hK
  ·rintro ch w' ⟨_,_,_,_,e,_⟩;cases e
  rintro w' ⟨_,_,_,_,e,_⟩;cases e
 |inv f nm args ats i as v GY hg=>
  obtain ⟨⟨h1,h2⟩,hq⟩:=hg rfl
  obtain ⟨t,ti,u,k1,k2,k3,e2⟩:=Ds hT GY (iz f h1) (ig args.toList (fun y hy=>iz y (h2 y hy)))
  rw [yN hT ho k1 k2 k3]
  refine gC (lG (K:=fun v' bx=>v'=v∧bx=s.bx) hF.cx e2 hq ⟨rfl,rfl⟩) ?_ ?_ ?_
  ·rintro v w' ⟨β',aG,v',u,e,ex,cx,hv,hK⟩
   cases e
   exact hn β' aG w' v' v ex cx hv hK
  ·rintro ch w' ⟨_,_,_,_,e,_⟩;cases e
  rintro w' ⟨_,_,_,_,e,_⟩;cases e
 |idx t x i c ds ds' hi hg=>
  obtain ⟨⟨hk,hc⟩,rfl⟩:=hg rfl
  obtain ⟨r,k1,k2⟩:=AN (P:=P) (w:=w) hT hF.cx hi hc (iz x (hk x (by simp))) (iz i (hk i (by simp)))
  refine cI (v:=_) (aG:=s.bx) (de.pure hF.cx ?_ k2) ⟨rfl,rfl⟩ hn
  simp only [execOp,ho]
  exact bI _ k1
 |no _ v hg=>cases hg
 |app _ c es hr hg=>
  obtain ⟨h1,hc⟩:=hg rfl
  subst ho
  exact cI (Dr (P:=P) hT hF.cx (ρ:=a.eval) (fun x hx=>iz x (h1 x hx)) hr hc) ⟨rfl,rfl⟩ hn
 |op _ c v hr hg=>
  obtain ⟨h1,hc⟩:=hg rfl
  subst ho
  exact cI (AI (P:=P) hT hF.cx (ρ:=a.eval) (fun x hx=>iz x (h1 x hx)) hr hc) ⟨rfl,rfl⟩ hn
theorem G7 {k:Nat} (h:bx[k]?=some .bA) (B:ax) {i:Nat} (hi:bV bx i):i≠k∧bV (bx.set k B) i:=by
 obtain ⟨b,h1,h2⟩:=hi
 have hne:i≠k:=by rintro rfl;rw [h] at h1;simp at h1;subst h1;simp [ax.born] at h2
 exact ⟨hne,b,by rw [List.getElem?_set_ne (Ne.symm hne)];exact h1,h2⟩
theorem rq {k:Nat} (h:bx[k]?=some .bA) (o:Obj) (B:ax):Ext β bx w (lq β k w.heap.size) (bx.set k B) {w with heap:=w.heap.push o}:=by
 refine ⟨rfl,rfl,rfl,by simp,fun j hj _=>iP w o j hj,fun j c e f hj=>⟨c,by rw [iP w o j (eK hj)];exact hj,rfl⟩,?_,?_⟩
 ·intro i hi
  obtain ⟨h1,h2⟩:=G7 h B hi
  exact ⟨cQ _ _ h1,h2⟩
 intro i b hb hl
 rcases aL hb with ⟨rfl,_,_⟩|⟨hne,hb'⟩
 ·exact .inl (by rw [bt];exact Nat.le_refl _)
 exact .inr ⟨i,b,hb',hl,(cQ _ _ hne).symm⟩
theorem G8 (cx:ct G β bx w X) {k:Nat} (h:bx[k]?=some .bA) (o:Obj) (B:ax)
 (hB:dA (lq β k w.heap.size) (bx.set k B) {w with heap:=w.heap.push o} (be (lq β k w.heap.size) (bx.set k B) {w with heap:=w.heap.push o} X) B w.heap.size):
 ct G (lq β k w.heap.size) (bx.set k B) {w with heap:=w.heap.push o} X:=by
 refine cx.step (rq h o B) ?_ ?_
 ·intro i b hb
  rcases aL hb with ⟨rfl,rfl,_⟩|⟨hne,hb'⟩
  ·exact .inr (by rw [bt];exact hB)
  exact .inl ⟨hb',fun hl=>iP w o _ ((cx.box i b hb').eL hl)⟩
 intro i j bi bj h1 h2 l1 l2 he
 rcases aL h1 with ⟨rfl,rfl,_⟩|⟨hi,h3⟩<;>rcases aL h2 with ⟨rfl,rfl,_⟩|⟨hj,h4⟩
 ·rfl
 ·rw [bt,cQ _ _ hj] at he
  have:=(cx.box j bj h4).eL l2;omega
 ·rw [bt,cQ _ _ hi] at he
  have:=(cx.box i bi h3).eL l1;omega
 rw [cQ _ _ hi,cQ _ _ hj] at he
 exact cx.inj i j bi bj h3 h4 l1 l2 he
theorem yR (cx:ct G β bx w X) {k:Nat} (hk:bx[k]?=some .bA) (t:Nat) {x:AV} {u:Value} {cs:List AV} (hx:x.cells?=some cs) (h:ah β bx w (be β bx w X) x u):
 ∃β' w',(newVar t u).run P w=.ok ⟨β' k,0,none⟩ w'∧Ext β bx w β' (bx.set k (.var cs)) w'∧ct G β' (bx.set k (.var cs)) w' X:=by
 obtain ⟨vs,h1,h2,h3⟩:=ot hx h
 refine ⟨lq β k w.heap.size,{w with heap:=w.heap.push (.cells ⟨vs⟩ t)},?_,rq hk _ _,G8 cx hk _ _ ?_⟩
 ·simp [newVar,newRow,newObj,Sem.run,h1,bt]
 refine ⟨⟨vs⟩,t,iQ _ _,?_⟩
 exact aj.mono ((rq (β:=β) (bx:=bx) (w:=w) hk (.cells ⟨vs⟩ t) (.var cs)).dQ X) _ _ h2
theorem EW {sl ru:List (Nat×AV)} {o:Oper} (h:∀x∈o.op.operands.toList,bW G sl x=bW G ru x):ie T G sl o=ie T G ru o:=by
 obtain ⟨dst,op,type,pos,after,guard⟩:=o
 unfold ie
 cases guard with
 |some g=>rfl
 |none=>
  cases op<;>simp only []
  rename_i t x
  rw [h x (by simp [Op.operands])]
theorem G9 (hT:iH P T) (hF:Fr G N ds β w X s a) {o:Oper} {cs:List AV} (hb:ie T G s.sl o=some cs) {k:Nat} (hk:s.bx[k]?=some .bA) {next:Act→World→Prop} {Qc:Exit→Act→World→Prop}
 (hn:AM G β s.bx w X a o.dst (fun v bx=>v=.ptr k 0∧bx=s.bx.set k (.var cs)) next):o.wp P a w next Qc:=by
 obtain ⟨dst,op,type,pos,after,guard⟩:=o
 have hlt:k<s.bx.length:=iS hk
 have dj:bV (s.bx.set k (.var cs)) k:=⟨.var cs,iT hk,rfl⟩
 unfold ie at hb
 unfold Oper.wp
 cases guard with
 |some g=>simp at hb
 |none=>
  simp only at hb
  split at hb
  ·rename_i t
   cases ht:T t with
   |none=>simp [ht] at hb
   |some ti=>
   simp only [ht] at hb
   obtain ⟨i,d,h1,h2,h3,h4,h5,h6⟩:=aJ (hT.ti _ _ ht)
   cases zV:i.zero with
   |none=>rw [h6,zV] at hb;simp [AV.cells?] at hb
   |some z=>
   rw [h6,zV] at hb
   obtain ⟨β',w',k1,k2,k3⟩:=yR (P:=P) hF.cx hk t hb (vg z)
   have hr:(execOp a.eval {dst:=dst,op:=.alloc t,type:=type,pos:=pos,after:=after,guard:=none}).run P w=.ok (.value (.pointer (some ⟨β' k,0,none⟩))) w':=
    bI _ (by simp [Instr.alloc,gB h1 zV,k1])
   rw [hr]
   exact hn β' _ w' (.ptr k 0) _ k2 k3 (by simp only [ah];exact ⟨trivial,dj⟩) ⟨rfl,rfl⟩
  ·rename_i t x
   obtain ⟨β',w',k1,k2,k3⟩:=yR (P:=P) hF.cx hk t hb (hF.eval x)
   have hr:(execOp a.eval {dst:=dst,op:=.box t x,type:=type,pos:=pos,after:=after,guard:=none}).run P w=.ok (.value (.pointer (some ⟨β' k,0,none⟩))) w':=
    bI _ (by simp [Instr.box,k1])
   rw [hr]
   exact hn β' _ w' (.ptr k 0) _ k2 k3 (by simp only [ah];exact ⟨trivial,dj⟩) ⟨rfl,rfl⟩
  simp at hb
theorem Kg {β':Nat→Nat} {w':World} {sz n k:Nat} {es:List (List D)} {tH:List ax} {u:Value} (cx:ct G β bx w X) (hk:bx[k]?=some .bA) (ex:Ext β [] w β' [.row sz es] w') (nP:ct G β' [.row sz es] w' (rf β tH X))
 (hv:(∀r∈es,∀x∈r,x.flat=true)∨tH=bx) (hr:ah β' [.row sz es] w' (be β' [.row sz es] w' (rf β tH X)) (.ow 0 sz n) u):
 Ext β bx w (lq β k (β' 0)) (bx.set k (.row sz es)) w'∧ct G (lq β k (β' 0)) (bx.set k (.row sz es)) w' X∧
  ah (lq β k (β' 0)) (bx.set k (.row sz es)) w' (be (lq β k (β' 0)) (bx.set k (.row sz es)) w' X) (.ow k sz n) u:=by
 have e0:=vz (bx:=bx) ex
 have hlk:k<bx.length:=iS hk
 have hnew:ax.live (.row sz es)=true→w.heap.size≤β' 0:=by
  intro hl
  rcases ex.live 0 (.row sz es) rfl hl with h|⟨j,b',h1,_⟩
  ·exact h
  simp at h1
 have e1:Ext β bx w (lq β k (β' 0)) (bx.set k (.row sz es)) w':=by
  refine ⟨e0.os,e0.tape,e0.output,e0.size,e0.block,e0.shape,?_,?_⟩
  ·intro i hi
   obtain ⟨h1,h2⟩:=G7 hk (.row sz es) hi
   exact ⟨cQ _ _ h1,h2⟩
  intro i b h hl
  rcases aL h with ⟨rfl,rfl,_⟩|⟨hne,h1⟩
  ·exact .inl (by rw [bt];exact hnew hl)
  exact .inr ⟨i,b,h1,hl,(cQ _ _ hne).symm⟩
 have hlt:∀i b,bx[i]?=some b→b.live=true→β i<w.heap.size:=fun i b h hl=>dA.eL (cx.box i b h) hl
 have hok:tH=bx→∀aB,be β' [.row sz es] w' (rf β tH X) aB→be (lq β k (β' 0)) (bx.set k (.row sz es)) w' X aB:=by
  rintro rfl aB ⟨k1,k2,k3⟩
  refine ⟨k1,fun hX=>k2 (.inl hX),?_⟩
  intro i b h hl
  rcases aL h with ⟨rfl,rfl,_⟩|⟨hne,h1⟩
  ·rw [bt];exact k3 0 _ rfl hl
  rw [cQ _ _ hne];exact fun he=>k2 (.inr ⟨i,b,h1,hl,he⟩)
 refine ⟨e1,cx.step e1 ?_ ?_,?_⟩
 ·intro i b h
  rcases aL h with ⟨rfl,rfl,_⟩|⟨hne,h1⟩
  ·refine .inr ?_
   have:=nP.box 0 _ rfl
   rw [bt]
   simp only [dA] at this ⊢
   refine this.imp id ?_
   rintro ⟨c,e,h1,h2⟩
   refine ⟨c,e,h1,?_⟩
   rcases hv with hfl|hb
   ·exact py _ _ hfl h2
   exact av.mono (fun aB hb'=>⟨hok hb aB hb',rfl⟩) _ _ (fun _=>rfl) _ _ h2
  exact .inl ⟨h1,fun hl=>ex.block _ (hlt i b h1 hl) (by simp)⟩
 ·intro i j bi bj hi hj oc qB he
  rcases aL hi with ⟨rfl,rfl,_⟩|⟨hni,h1⟩<;>rcases aL hj with ⟨rfl,rfl,_⟩|⟨hnj,h2⟩
  ·rfl
  ·rw [bt,cQ _ _ hnj] at he
   have:=hlt j bj h2 qB;have:=hnew oc;omega
  ·rw [bt,cQ _ _ hni] at he
   have:=hlt i bi h1 oc;have:=hnew qB;omega
  rw [cQ _ _ hni,cQ _ _ hnj] at he
  exact cx.inj i j bi bj h1 h2 oc qB he
 simp only [ah] at hr ⊢
 obtain ⟨_,h2⟩:=hr
 refine ⟨⟨_,iT hk,rfl⟩,?_⟩
 rw [bt];exact h2
theorem A3 (hT:iH P T) (hF:Fr G N ds β w X s a) {o:Oper} {k:Nat} {v0:AV} {B0:ax} (h:mB (bg P G) G o s.sl s.bx k (fun v B=>v=v0∧B=B0)) {next:Act→World→Prop} {Qc:Exit→Act→World→Prop}
 (hn:AM G β s.bx w X a o.dst (fun v bx=>v=v0∧bx=s.bx.set k B0) next):o.wp P a w next Qc:=by
 obtain ⟨f,args,ats,i,as,args',sz,n,es,ho,GY,⟨h1,h2⟩,h3,h4,h5,h6,hk,rfl,rfl⟩:=h
 have iz:∀x,(bW G s.sl x).ok→ah β s.bx w (be β s.bx w X) (bW G s.sl x).aP (a.eval x):=fun x hx=>iE (hF.eval x) hx
 obtain ⟨fs,cs,e1,e2⟩:=mN GY (iz f h1) (ig args.toList (fun y hy=>iz y (c8 h2 y hy)))
 unfold Oper.wp
 rw [kL ho e1]
 obtain ⟨x1,c1,r1⟩:=mr as s.bx _ _ hF.cx h3 e2
 have cn:=GR c1
 have hnn:aj β [] w (be β [] w (rf β (eF s.bx as) X)) _ _:=mq (fun aB hb=>GS aB hb) _ _ h4 r1
 refine gC (h5 β w _ _ cn hnn) ?_ ?_ ?_
 ·rintro u w' ⟨β',ex,nP,hr⟩
  simp only [fC] at hr
  obtain ⟨y1,y2,y3⟩:=Kg hF.cx hk ex nP (by
   rcases h6 with hfl|GU
   ·exact .inl hfl
   refine .inr ?_
   rw [jO s.bx GU]) hr
  exact hn _ _ w' _ u y1 y2 y3 ⟨rfl,rfl⟩
 ·rintro ch w' ⟨_,_,_,hr⟩;exact hr.elim
 rintro w' ⟨_,_,_,hr⟩;exact hr.elim
end
end Dem
end
section
open Go
namespace Dem
structure It where
 dst:Option Nat
 v:AV
 bi:Option (Nat×ax)
def dm (m:Nat→Bool):Nat→List It→List (Nat×AV)→List (Nat×AV)
 |_,[],sl=>sl
 |i,t::r,sl=>dm m (i+1) r (bif m i then dV t.dst t.v sl else sl)
def ry (t:It) (bx:List ax):List ax:=
 match t.bi with
 |some (k,B)=>bx.set k B
 |none=>bx
def eX (m:Nat→Bool):Nat→List It→List ax→List ax
 |_,[],bx=>bx
 |i,t::r,bx=>eX m (i+1) r (bif m i then ry t bx else bx)
theorem oC (t:Nat) (dst:Option Nat) (v:AV) (sl:List (Nat×AV)):fY t (dV dst v sl)=if dst=some t then v else fY t sl:=by
 cases dst with
 |none=>simp [dV]
 |some d=>
  simp only [dV,sE,Option.some.injEq]
  by_cases h:t=d
  ·subst h;simp
  have:d≠t:=fun e=>h e.symm
  simp [h,this]
theorem rA {t:Nat} {m m':Nat→Bool}:∀(cB:List It) (i:Nat) (sl ru:List (Nat×AV)),fY t sl=fY t ru→
 (∀j it,cB[j]?=some it→it.dst=some t→m (i+j)=m' (i+j))→fY t (dm m i cB sl)=fY t (dm m' i cB ru)
 |[],_,_,_,h,_=>h
 |it::r,i,sl,ru,h,hm=>by
  simp only [dm]
  refine rA r (i+1) _ _ ?_ (fun j it' hj hd=>by have:=hm (j+1) it' (by simpa using hj) hd;simpa [Nat.add_assoc,Nat.add_comm 1 j] using this)
  by_cases hd:it.dst=some t
  ·have:=hm 0 it rfl hd
   rw [Nat.add_zero] at this
   rw [this]
   cases m' i<;>simp [oC,hd,h]
  cases m i<;>cases m' i<;>simp [oC,hd,h]
theorem A4 {t:Nat} {m:Nat→Bool}:∀(cB:List It) (i:Nat) (sl:List (Nat×AV)),(∀j it,cB[j]?=some it→it.dst=some t→m (i+j)=false)→fY t (dm m i cB sl)=fY t sl
 |[],_,_,_=>rfl
 |it::r,i,sl,hm=>by
  simp only [dm]
  rw [A4 r (i+1) _ (fun j it' hj hd=>by have:=hm (j+1) it' (by simpa using hj) hd;simpa [Nat.add_assoc,Nat.add_comm 1 j] using this)]
  by_cases hd:it.dst=some t
  ·have:=hm 0 it rfl hd
   rw [Nat.add_zero] at this
   simp [this]
  cases m i<;>simp [oC,hd]
theorem kO {m m':Nat→Bool}:∀(cB:List It) (i:Nat) (sl:List (Nat×AV)),(∀j,j<cB.length→m (i+j)=m' (i+j))→dm m i cB sl=dm m' i cB sl
 |[],_,_,_=>rfl
 |it::r,i,sl,hm=>by
  simp only [dm]
  have h0:=hm 0 (by simp)
  rw [Nat.add_zero] at h0
  rw [h0]
  exact kO r (i+1) _ (fun j hj=>by have:=hm (j+1) (by simpa using hj);simpa [Nat.add_assoc,Nat.add_comm 1 j] using this)
theorem nA {m m':Nat→Bool}:∀(cB:List It) (i:Nat) (bx:List ax),(∀j,j<cB.length→m (i+j)=m' (i+j))→eX m i cB bx=eX m' i cB bx
 |[],_,_,_=>rfl
 |it::r,i,bx,hm=>by
  simp only [eX]
  have h0:=hm 0 (by simp)
  rw [Nat.add_zero] at h0
  rw [h0]
  exact nA r (i+1) _ (fun j hj=>by have:=hm (j+1) (by simpa using hj);simpa [Nat.add_assoc,Nat.add_comm 1 j] using this)
theorem A5:∀(cB:List It) (i j:Nat) (sl:List (Nat×AV)),dm (fun _=>true) i (cB.take j) sl=dm (fun x=>decide (x<i+j)) i cB sl
 |[],i,j,sl=>by simp [dm]
 |it::r,i,0,sl=>by
  simp only [List.take_zero,dm,Nat.add_zero,Nat.lt_irrefl,decide_false,cond_false]
  have:∀(r:List It) (k:Nat),i≤k→dm (fun x=>decide (x<i)) k r sl=sl:=by
   intro r
   induction r with
   |nil=>intro k _;rfl
   |cons t r ih=>
    intro k hk
    simp only [dm,show ¬k<i by omega,decide_false,cond_false]
    exact ih (k+1) (by omega)
  exact (this r (i+1) (by omega)).symm
 |it::r,i,j+1,sl=>by
  simp only [List.take_succ_cons,dm,cond_true,show i<i+(j+1) by omega,decide_true]
  rw [A5 r (i+1) j]
  exact kO r (i+1) _ (fun k _=>by simp only [show i+1+j=i+(j+1) by omega])
theorem A6 {t:Nat} {m m':Nat→Bool}:∀(cB:List It) (i j0:Nat) (Mq:It) (sl:List (Nat×AV)),cB[j0]?=some Mq→m (i+j0)=false→m' (i+j0)=true→(∀x,x≠i+j0→m' x=m x)→
 (∀j it,cB[j]?=some it→j0<j→m (i+j)=true→∀d,Mq.dst=some d→it.dst≠some d)→fY t (dm m' i cB sl)=fY t (dV Mq.dst Mq.v (dm m i cB sl))
 |[],_,_,_,_,h,_,_,_,_=>by simp at h
 |it::r,i,0,Mq,sl,h,h1,h2,h3,h4=>by
  simp at h;subst h
  simp only [Nat.add_zero] at h1 h2
  simp only [dm,h1,h2,cond_true,cond_false]
  rw [kO (m:=m') (m':=m) r (i+1) _ (fun j _=>h3 _ (by omega)),oC]
  by_cases hd:it.dst=some t
  ·rw [if_pos hd,A4 r (i+1) _ (fun j it' hj Ws=>?_),oC,if_pos hd]
   cases hq:m (i+1+j) with
   |false=>rfl
   |true=>exact absurd Ws (h4 (j+1) it' (by simpa using hj) (by omega) (by rw [show i+(j+1)=i+1+j by omega];exact hq) t hd)
  rw [if_neg hd]
  exact rA r (i+1) _ _ (by rw [oC,if_neg hd]) (fun _ _ _ _=>rfl)
 |it::r,i,j0+1,Mq,sl,h,h1,h2,h3,h4=>by
  simp only [dm]
  rw [h3 i (by omega)]
  exact A6 r (i+1) j0 Mq _ (by simpa using h) (by rw [show i+1+j0=i+(j0+1) by omega];exact h1) (by rw [show i+1+j0=i+(j0+1) by omega];exact h2)
   (fun x hx=>h3 x (by omega)) (fun j it' hj hlt hm=>h4 (j+1) it' (by simpa using hj) (by omega) (by rw [show i+(j+1)=i+1+j by omega];exact hm))
def kP:Nat→List It→Prop
 |_,[]=>True
 |k,t::r=>match t.bi with
  |some (x,_)=>x=k∧kP (k+1) r
  |none=>kP k r
theorem kP.ge:∀{cB:List It} {k:Nat},kP k cB→∀{j:Nat} {it:It} {x:Nat} {cs:ax},cB[j]?=some it→it.bi=some (x,cs)→k≤x
 |[],_,_,_,_,_,_,h,_=>by simp at h
 |t::r,k,hk,0,it,x,cs,h,hb=>by
  simp at h;subst h
  simp only [kP,hb] at hk
  omega
 |t::r,k,hk,j+1,it,x,cs,h,hb=>by
  simp only [kP] at hk
  split at hk
  ·have:=hk.2.ge (j:=j) (by simpa using h) hb;omega
  exact kP.ge hk (j:=j) (by simpa using h) hb
theorem kP.apart:∀{cB:List It} {k:Nat},kP k cB→∀{j j':Nat} {it it':It} {x x':Nat} {cs cs':ax},cB[j]?=some it→it.bi=some (x,cs)→cB[j']?=some it'→it'.bi=some (x',cs')→j≠j'→x≠x'
 |[],_,_,_,_,_,_,_,_,_,_,h,_,_,_,_=>by simp at h
 |t::r,k,hk,0,0,_,_,_,_,_,_,_,_,_,_,hne=>absurd rfl hne
 |t::r,k,hk,0,j'+1,it,it',x,x',cs,cs',h,hb,h',hb',_=>by
  simp at h;subst h
  simp only [kP,hb] at hk
  have:=hk.2.ge (j:=j') (by simpa using h') hb';omega
 |t::r,k,hk,j+1,0,it,it',x,x',cs,cs',h,hb,h',hb',_=>by
  simp at h';subst h'
  simp only [kP,hb'] at hk
  have:=hk.2.ge (j:=j) (by simpa using h) hb;omega
 |t::r,k,hk,j+1,j'+1,it,it',x,x',cs,cs',h,hb,h',hb',hne=>by
  have hk':∃k',kP k' r:=by
   simp only [kP] at hk
   split at hk
   ·exact ⟨_,hk.2⟩
   exact ⟨_,hk⟩
  obtain ⟨k',hk'⟩:=hk'
  exact kP.apart hk' (j:=j) (j':=j') (by simpa using h) hb (by simpa using h') hb' (by omega)
theorem Dz {m:Nat→Bool} {x:Nat}:∀(cB:List It) (i:Nat) (bx:List ax),(∀j it y cs,cB[j]?=some it→m (i+j)=true→it.bi=some (y,cs)→y≠x)→(eX m i cB bx)[x]?=bx[x]?
 |[],_,_,_=>rfl
 |t::r,i,bx,h=>by
  simp only [eX]
  rw [Dz r (i+1) _ (fun j it y cs hj hm hb=>h (j+1) it y cs (by simpa using hj) (by rw [show i+(j+1)=i+1+j by omega];exact hm) hb)]
  cases hm:m i with
  |false=>rfl
  |true=>
   simp only [cond_true,ry]
   split
   ·rename_i k cs hb
    have:=h 0 t k cs rfl (by simpa using hm) hb
    rw [List.getElem?_set_ne this]
   rfl
theorem DA {m:Nat→Bool} {x:Nat} {B:ax}:∀(cB:List It) (i:Nat) (bx:List ax),(∀j it y cs,cB[j]?=some it→m (i+j)=true→it.bi=some (y,cs)→y≠x)→eX m i cB (bx.set x B)=(eX m i cB bx).set x B
 |[],_,_,_=>rfl
 |t::r,i,bx,h=>by
  simp only [eX]
  rw [←DA r (i+1) _ (fun j it y cs hj hm hb=>h (j+1) it y cs (by simpa using hj) (by rw [show i+(j+1)=i+1+j by omega];exact hm) hb)]
  congr 1
  cases hm:m i with
  |false=>rfl
  |true=>
   simp only [cond_true,ry]
   split
   ·rename_i k cs hb
    have:=h 0 t k cs rfl (by simpa using hm) hb
    rw [List.set_comm _ _ (Ne.symm this)]
   rfl
theorem A7 {m m':Nat→Bool}:∀(cB:List It) (i j0:Nat) (Mq:It) (bx:List ax),cB[j0]?=some Mq→m (i+j0)=false→m' (i+j0)=true→(∀x,x≠i+j0→m' x=m x)→
 (∀j it y cs x cs0,cB[j]?=some it→j≠j0→it.bi=some (y,cs)→Mq.bi=some (x,cs0)→y≠x)→eX m' i cB bx=ry Mq (eX m i cB bx)
 |[],_,_,_,_,h,_,_,_,_=>by simp at h
 |t::r,i,0,Mq,bx,h,h1,h2,h3,h4=>by
  simp at h;subst h
  simp only [Nat.add_zero] at h1 h2
  simp only [eX,h1,h2,cond_true,cond_false]
  rw [nA (m:=m') (m':=m) r (i+1) _ (fun j _=>h3 _ (by omega))]
  unfold ry
  split
  ·rename_i k cs hb
   exact DA r (i+1) bx (fun j it y cs' hj _ hb'=>h4 (j+1) it y cs' k cs (by simpa using hj) (by omega) hb' hb)
  rfl
 |t::r,i,j0+1,Mq,bx,h,h1,h2,h3,h4=>by
  simp only [eX]
  rw [h3 i (by omega)]
  exact A7 r (i+1) j0 Mq _ (by simpa using h) (by rw [show i+1+j0=i+(j0+1) by omega];exact h1) (by rw [show i+1+j0=i+(j0+1) by omega];exact h2)
   (fun x hx=>h3 x (by omega)) (fun j it y cs x cs0 hj hne=>h4 (j+1) it y cs x cs0 (by simpa using hj) (by omega))
theorem He {m:Nat→Bool} {aE:List ax}:∀(cB:List It) (i:Nat) (bx:List ax),lI aE bx→(∀(j:Nat) (it:It) (y:Nat) (cs:ax),cB[j]?=some it→it.bi=some (y,cs)→aE[y]?=some .bA)→lI aE (eX m i cB bx)
 |[],_,_,h,_=>h
 |t::r,i,bx,h,hu=>by
  simp only [eX]
  refine He r (i+1) _ ?_ (fun j it y cs hj=>hu (j+1) it y cs (by simpa using hj))
  cases m i with
  |false=>exact h
  |true=>
   simp only [cond_true,ry]
   split
   ·rename_i k cs hb
    have h0:=hu 0 t k cs rfl hb
    intro x b hx dj
    by_cases hxk:k=x
    ·subst hxk;rw [h0] at hx;simp at hx;subst hx;simp [ax.born] at dj
    rw [List.getElem?_set_ne hxk];exact h x b hx dj
   exact h
end Dem
end
section
open Go
namespace Dem
theorem vF:∀(l:List Oper) (acc:List Nat),(cF l acc).take acc.length=acc
 |[],acc=>by simp [cF]
 |o::r,acc=>by
  have h:=vF r (acc++[su acc o])
  simp only [cF]
  have:=congrArg (List.take acc.length) h
  simpa [List.take_take] using this
theorem yS:∀(l:List Oper) (acc:List Nat) (j:Nat) (o:Oper),l[j]?=some o→(cF l acc)[acc.length+j]?=some (su ((cF l acc).take (acc.length+j)) o)
 |[],_,_,_,h=>by simp at h
 |p::r,acc,0,o,h=>by
  simp at h;subst h
  simp only [cF,Nat.add_zero]
  have h1:=vF r (acc++[su acc p])
  have h2:=congrArg (List.take acc.length) h1
  have h3:=congrArg (fun l=>l[acc.length]?) h1
  simp only [List.take_take,List.length_append,List.length_cons,List.length_nil,Nat.zero_add] at h2 h3
  rw [Nat.min_eq_left (by omega)] at h2
  rw [List.getElem?_take,if_pos (by omega)] at h3
  rw [h3,h2]
  simp
 |p::r,acc,j+1,o,h=>by
  have:=yS r (acc++[su acc p]) j o (by simpa using h)
  simp only [List.length_append,List.length_cons,List.length_nil,Nat.zero_add] at this
  simp only [cF]
  rw [show acc.length+(j+1)=acc.length+1+j by omega]
  exact this
theorem yT {acc:List Nat} {i:Nat}:∀(es:List Edge) (s:Nat),(es.foldl (fun s e=>bif Region.binds .any e then s ||| 2^e.on ||| acc.getD e.on 0 else s) s).testBit i=true→
 s.testBit i=true∨∃e∈es,Region.binds .any e=true∧(e.on=i∨(acc.getD e.on 0).testBit i=true)
 |[],s,h=>.inl h
 |e::es,s,h=>by
  rw [List.foldl_cons] at h
  rcases yT es _ h with h1|⟨e',h1,h2⟩
  ·cases hb:Region.binds .any e with
   |false=>rw [hb] at h1;exact .inl h1
   |true=>
    rw [hb] at h1
    simp only [cond_true,Nat.testBit_or,Bool.or_eq_true] at h1
    rcases h1 with (h1|h1)|h1
    ·exact .inl h1
    ·refine .inr ⟨e,by simp,hb,.inl ?_⟩
     rw [Nat.testBit_two_pow] at h1
     simpa using h1
    exact .inr ⟨e,by simp,hb,.inr h1⟩
  exact .inr ⟨e',by simp [h1],h2⟩
section
variable {ops:Array Oper}
def Down (ops:Array Oper) (m:Nat→Bool):Prop:=∀x o,ops[x]?=some o→m x=true→∀e∈o.after,Region.binds .any e=true→m e.on=true
theorem closed {m:Nat→Bool} (hd:Down ops m):∀(j:Nat) (o:Oper),ops[j]?=some o→(∀e∈o.after,Region.binds .any e=true→m e.on=true)→∀i,((cF ops.toList []).getD j 0).testBit i=true→m i=true:=by
 intro j
 induction j using Nat.strongRecOn with
 |_ j ih=>
  intro o ho hp i hi
  have A8:=yS ops.toList [] j o (by simpa using ho)
  simp only [List.length_nil,Nat.zero_add] at A8
  rw [List.getD_eq_getElem?_getD,A8] at hi
  simp only [Option.getD_some,su] at hi
  rcases yT _ _ hi with h|⟨e,he,hb,h|h⟩
  ·simp at h
  ·subst h;exact hp e (by simpa using he) hb
  have hlt:e.on<j:=by
   rcases Nat.lt_or_ge e.on j with h'|h'
   ·exact h'
   rw [List.getD_eq_getElem?_getD,List.getElem?_take,if_neg (by omega)] at h
   simp at h
  have hh:((cF ops.toList []).getD e.on 0).testBit i=true:=by
   rw [List.getD_eq_getElem?_getD,List.getElem?_take,if_pos hlt] at h
   rw [List.getD_eq_getElem?_getD];exact h
  have hj:j<ops.size:=(Array.getElem?_eq_some_iff.1 ho).1
  have ho':ops[e.on]?=some ops[e.on]:=by simp [show e.on<ops.size by omega]
  exact ih e.on hlt _ ho' (hd _ _ ho' (hp e (by simpa using he) hb)) i hh
theorem rB {m:Nat} {o:Oper}:∀{n:Nat},gK.sw ops m o n=true→∀j,j<n→m.testBit j=true∨∃p,ops[j]?=some p∧p.apart ops o=true
 |0,_,j,hj=>by omega
 |n+1,h,j,hj=>by
  simp only [gK.sw,Bool.and_eq_true,Bool.or_eq_true] at h
  by_cases hjn:j=n
  ·subst hjn
   refine h.1.imp id (fun h1=>?_)
   split at h1
   ·rename_i p hp;exact ⟨p,hp,h1⟩
   simp at h1
  exact rB h.2 j (by omega)
theorem lR {b:List Nat}:∀{l:List Oper} {i:Nat},gK ops b i l=true→∀j o,l[j]?=some o→
 (∀e∈o.after,Region.binds .any e=true→e.on<i+j)∧∀k,k<i+j→(b.getD (i+j) 0).testBit k=true∨∃p,ops[k]?=some p∧p.apart ops o=true
 |[],_,_,j,o,ho=>by simp at ho
 |q::r,i,h,0,o,ho=>by
  simp at ho;subst ho
  simp only [gK,Bool.and_eq_true] at h
  refine ⟨fun e he hb=>?_,fun k hk=>rB h.1.2 k hk⟩
  have:=List.all_eq_true.1 h.1.1 e (by simpa using he)
  simpa [hb,Nat.blt_eq] using this
 |q::r,i,h,j+1,o,ho=>by
  simp only [gK,Bool.and_eq_true] at h
  have:=lR h.2 j o (by simpa using ho)
  rw [show i+(j+1)=i+1+j by omega]
  exact this
theorem EX {b:List Nat} {q:Nat} (h:barrier b q=true):(∀i,i<q→(b.getD q 0).testBit i=true)∧∀i,q<i→i<b.length→(b.getD i 0).testBit q=true:=by
 simp only [barrier,Bool.and_eq_true] at h
 obtain ⟨h1,h2⟩:=h
 refine ⟨fun i hi=>?_,fun i hi hl=>?_⟩
 ·rw [Nat.eq_of_beq_eq_true h1]
  simpa using hi
 refine List.all_eq_true.1 h2 _ ?_
 rw [List.getD_eq_getElem?_getD,List.getElem?_eq_getElem hl,Option.getD_some]
 rw [List.mem_iff_getElem?]
 refine ⟨i-(q+1),?_⟩
 rw [List.getElem?_drop,show q+1+(i-(q+1))=i by omega,List.getElem?_eq_getElem hl]
theorem rC:∀(l:List Oper) (acc:List Nat),(cF l acc).length=acc.length+l.length
 |[],acc=>by simp [cF]
 |o::r,acc=>by simp only [cF];rw [rC r];simp;omega
end
end Dem
end
section
open Go
namespace Dem
section
variable {P:Program} {T:Nat→Option TI} {G:Nat→Option (List D)} {N:Nat} {ds:List Deferred} {X:Nat→Prop}
variable {FC:Nat→List AV→List ax→fm→List ax→Prop}
def YB (FC:Nat→List AV→List ax→fm→List ax→Prop) (T:Nat→Option TI) (G:Nat→Option (List D)) (o:Oper) (sl:List (Nat×AV)) (hY:List ax) (x:Nat) (B:ax) (v:AV):Prop:=
 (∃cs,ie T G sl o=some cs∧B=.var cs∧v=.ptr x 0)∨mB FC G o sl hY x (fun v' B'=>v'=v∧B'=B)
def VF (FC:Nat→List AV→List ax→fm→List ax→Prop) (T:Nat→Option TI) (G:Nat→Option (List D)) (ops:List Oper) (o:Oper) (sl:List (Nat×AV)) (hY:List ax) (it:It):Prop:=
 (∃x B,it.bi=some (x,B)∧hY[x]?=some .bA∧o.guard=none∧YB FC T G o sl hY x B it.v)∨
 (it.bi=none∧o.guard=none∧YG FC T true (bW G sl) hY o.op it.v)∨
 (it.bi=none∧∃j want g v,o.guard=some (j,want)∧guardOf sl ops j want=some g∧YG FC T g (bW G sl) hY o.op v∧it.v=.cond g v)
def tt:Nat→Bool:=fun _=>true
def Yg (FC:Nat→List AV→List ax→fm→List ax→Prop) (T:Nat→Option TI) (G:Nat→Option (List D)) (N:Nat) (ops:List Oper) (b:List Nat) (base:Nat) (hY:List ax) (Q:Ex→St→Prop) (k i:Nat) (l:List Oper) (s:St):Prop:=
 ∃cB k',kP (base+k) cB∧cB.length≤l.length∧
  (∀j it,cB[j]?=some it→∃o,l[j]?=some o∧fS N o.dst=true∧it.dst=o.dst∧VF FC T G ops o (dm tt i (cB.take j) s.sl) hY it)∧
  (
   (cB.length=l.length∧Q .normal ⟨dm tt i cB s.sl,eX tt i cB s.bx⟩)∨
   (∃o rest,l.drop cB.length=o::rest∧barrier b (i+cB.length)=true∧fS N o.dst=true∧oo FC T G N ops b base hY k' (i+cB.length) (o::rest) Q ⟨dm tt i cB s.sl,eX tt i cB s.bx⟩))
theorem Yg.cons {ops:List Oper} {b:List Nat} {base:Nat} {hY:List ax} {Q:Ex→St→Prop} {o:Oper} {rest:List Oper} {k k1 i:Nat} {s:St} {it:It} (hd:fS N o.dst=true)
 (hk:∀cB,kP (base+k1) cB→kP (base+k) (it::cB)) (Hf:it.dst=o.dst) (hy:VF FC T G ops o s.sl hY it)
 (hr:Yg FC T G N ops b base hY Q k1 (i+1) rest ⟨dV o.dst it.v s.sl,ry it s.bx⟩):Yg FC T G N ops b base hY Q k i (o::rest) s:=by
 obtain ⟨cB,k',g1,g2,g3,g4⟩:=hr
 refine ⟨it::cB,k',hk cB g1,by simpa using g2,?_,?_⟩
 ·intro j it' hj
  cases j with
  |zero=>simp at hj;subst hj;exact ⟨o,rfl,hd,Hf,by simpa [dm] using hy⟩
  |succ j=>
   obtain ⟨o',e1,e2,e3,e4⟩:=g3 j it' (by simpa using hj)
   refine ⟨o',by simpa using e1,e2,e3,?_⟩
   simp only [List.take_succ_cons,dm,tt,cond_true,Hf]
   exact e4
 simp only [List.length_cons,dm,eX,tt,cond_true,Hf,List.drop_succ_cons]
 rw [show i+(cB.length+1)=i+1+cB.length by omega]
 rcases g4 with ⟨e1,e2⟩|e
 ·exact .inl ⟨by omega,e2⟩
 exact .inr e
theorem ul {ops:List Oper} {b:List Nat} {base:Nat} {hY:List ax} {Q:Ex→St→Prop}:∀(l:List Oper) (k i:Nat) (s:St),oo FC T G N ops b base hY k i l Q s→
 Yg FC T G N ops b base hY Q k i l s
 |[],k,i,s,h=>⟨[],k,by simp [kP],by simp,by simp,.inl ⟨rfl,by simpa [dm,eX,oo] using h⟩⟩
 |o::rest,k,i,s,h=>by
  have h0:=h
  unfold oo at h
  cases hd:fS N o.dst with
  |false=>simp [hd] at h
  |true=>
  simp only [hd,cond_true] at h
  cases hb:barrier b i with
  |true=>exact ⟨[],k,by simp [kP],by simp,by simp,.inr ⟨o,rest,by simp,by simpa using hb,hd,by simpa [dm,eX] using h0⟩⟩
  |false=>
  simp only [hb,cond_false] at h
  have go:∀(it:It) (k1:Nat),(∀cB,kP (base+k1) cB→kP (base+k) (it::cB))→it.dst=o.dst→VF FC T G ops o s.sl hY it→
   oo FC T G N ops b base hY k1 (i+1) rest Q ⟨dV o.dst it.v s.sl,ry it s.bx⟩→Yg FC T G N ops b base hY Q k i (o::rest) s:=
   fun it k1 hk Hf hy hr=>Yg.cons hd hk Hf hy (ul rest k1 (i+1) _ hr)
  split at h
  ·rename_i cs zT
   split at h
   ·rename_i hu
    have hg:o.guard=none:=by
     unfold ie at zT
     cases hg:o.guard with
     |none=>rfl
     |some g=>simp [hg] at zT
    exact go ⟨o.dst,.ptr (base+k) 0,some (base+k,.var cs)⟩ (k+1) (fun cB hi=>by simp only [kP];exact ⟨trivial,hi⟩) rfl (.inl ⟨_,.var cs,rfl,hu,hg,.inl ⟨cs,zT,rfl,rfl⟩⟩) h
   exact h.elim
  split at h
  ·rename_i hg
   rcases h with h|h
   ·obtain ⟨v,hy,hK⟩:=vE h
    exact go ⟨o.dst,v,none⟩ k (fun cB hi=>by simpa [kP] using hi) rfl (.inr (.inl ⟨rfl,hg,hy⟩)) hK
   obtain ⟨f,args,ats,i',as,args',sz,n,es,h1,h2,h3,h4,h5,h6,h7,h8,h9⟩:=h
   exact go ⟨o.dst,.ow (base+k) sz n,some (base+k,.row sz es)⟩ (k+1) (fun cB hi=>by simp only [kP];exact ⟨trivial,hi⟩) rfl
    (.inl ⟨_,.row sz es,rfl,h8,hg,.inr ⟨f,args,ats,i',as,args',sz,n,es,h1,h2,h3,h4,h5,h6,h7,h8,rfl,rfl⟩⟩) h9
  rename_i j want hg
  split at h
  ·rename_i g JF
   obtain ⟨v,hy,hK⟩:=vE h
   exact go ⟨o.dst,.cond g v,none⟩ k (fun cB hi=>by simpa [kP] using hi) rfl (.inr (.inr ⟨rfl,j,want,g,v,hg,JF,hy,rfl⟩)) hK
  exact h.elim
variable {β:Nat→Nat} {w:World} {a:Act}
theorem Fr.G5 {sl ru:List (Nat×AV)} {bx:List ax} (hF:Fr G N ds β w X ⟨sl,bx⟩ a) (h:∀t,fY t sl=fY t ru):Fr G N ds β w X ⟨ru,bx⟩ a:=
 ⟨hF.cx,hF.defers,hF.size,fun t=>by have:=hF.xz t;simp only [h t] at this;exact this⟩
def at_ (listed:Array Bool) (x:Nat):Bool:=listed.getD x false
theorem um {listed:Array Bool} {i x:Nat} (hi:i<listed.size):at_ (listed.setIfInBounds i true) x=(if x=i then true else at_ listed x):=by
 unfold at_
 by_cases h:x=i
 ·subst h;simp [hi]
 rw [if_neg h];simp [Array.getElem?_setIfInBounds_ne (Ne.symm h)]
theorem count_set:∀(l:List Bool) (i:Nat),l[i]?=some false→(l.set i true).count false+1=l.count false
 |[],i,h=>by simp at h
 |b::l,0,h=>by simp at h;subst h;simp
 |b::l,i+1,h=>by
  have:=count_set l i (by simpa using h)
  cases b<;>simp<;>omega
theorem A9:∀(l:List Bool),l.count false=0→∀i,i<l.length→l[i]?=some true
 |[],_,i,h=>by simp at h
 |b::l,h,i,hi=>by
  cases b with
  |false=>simp at h
  |true=>
   cases i with
   |zero=>rfl
   |succ i=>simpa using A9 l (by simpa [List.count_cons] using h) i (by simpa using hi)
theorem kE {ops:Array Oper} {o:Oper} {sl ru:List (Nat×AV)} (h:∀t∈o.looksAt ops,fY t sl=fY t ru):∀x∈o.op.operands.toList,bW G sl x=bW G ru x:=by
 intro x hx
 cases x with
 |tmp t=>
  exact h t (List.mem_append_left _ (List.mem_filterMap.2 ⟨.tmp t,hx,rfl⟩))
 |_=>rfl
theorem Hg {ops:Array Oper} {o:Oper} {sl ru:List (Nat×AV)} {j:Nat} {want:Bool} (hg:o.guard=some (j,want)) (h:∀t∈o.looksAt ops,fY t sl=fY t ru):
 guardOf sl ops.toList j want=guardOf ru ops.toList j want:=by
 unfold guardOf
 have hj:ops.toList[j]?=ops[j]?:=by simp
 rw [hj]
 cases ho:ops[j]? with
 |none=>rfl
 |some p=>
  simp only
  cases hd:p.dst with
  |none=>rfl
  |some t=>
   simp only
   rw [h t (List.mem_append_right _ (by simp [hg,ho,hd]))]
theorem VF.G5 {ops:Array Oper} {o:Oper} {sl ru:List (Nat×AV)} {hY bx:List ax} {it:It} (h:VF FC T G ops.toList o sl hY it) (hl:∀t∈o.looksAt ops,fY t sl=fY t ru) (hb:lI hY bx)
 (hu:∀x cs,it.bi=some (x,cs)→bx[x]?=some .bA):VF FC T G ops.toList o ru bx it:=by
 rcases h with ⟨x,B,h1,h2,h3,h4⟩|⟨h1,h2,h3⟩|⟨h1,j,want,g,v,h2,h3,h4,h5⟩
 ·refine .inl ⟨x,B,h1,hu x B h1,h3,?_⟩
  rcases h4 with ⟨cs,k1,k2,k3⟩|h4
  ·exact .inl ⟨cs,by rw [←EW (kE hl)];exact k1,k2,k3⟩
  obtain ⟨f,args,ats,i',as,args',sz,n,es,e1,e2,e3,e4,e5,e6,e7,e8,e9⟩:=h4
  have hop:=kE (G:=G) hl
  rw [e1] at hop
  have o1:=hop f (by simp [Op.operands,Call.operands])
  have o2:∀x∈args.toList,bW G sl x=bW G ru x:=fun x hx=>hop x (by simp [Op.operands,Call.operands];exact .inr (by simpa using hx))
  have o3:fF G sl args.toList=fF G ru args.toList:=by unfold fF;exact List.map_congr_left o2
  rw [o1,List.map_congr_left (g:=fun x=>(bW G ru x).aP) fun x hx=>by rw [o2 x hx]] at e2
  rw [o1,o3] at e3
  exact .inr ⟨f,args,ats,i',as,args',sz,n,es,e1,e2,e3,EV hb e4,e5,e6,e7,hu x B h1,e9⟩
 ·exact .inr (.inl ⟨h1,h2,h3.G5 (kE hl) hb⟩)
 exact .inr (.inr ⟨h1,j,want,g,v,h2,by rw [←Hg h2 hl];exact h3,h4.G5 (kE hl) hb,h5⟩)
theorem Qe (hT:iH P T) {ops:Array Oper} {i:Nat} {o:Oper} (ho:ops[i]?=some o) {s:St} (hF:Fr G N ds β w X s a) {it:It} (hy:VF (bg P G) T G ops.toList o s.sl s.bx it) (hd:fS N o.dst=true)
 {K:Act→World→Prop} {Qc:Exit→Act→World→Prop} (hK:∀β' a' w',Ext β s.bx w β' (ry it s.bx) w'→Fr G N ds β' w' X ⟨dV o.dst it.v s.sl,ry it s.bx⟩ a'→K a' w'):wpOp P ops Qc i K a w:=by
 unfold wpOp
 rw [ho]
 simp only
 rcases hy with ⟨x,B,h1,h2,h3,h4⟩|⟨h1,h2,h3⟩|⟨h1,j,want,g,v,h2,h3,h4,h5⟩
 ·rw [if_pos (by simp [Region.wanted,h3])]
  have e:ry it s.bx=s.bx.set x B:=by simp [ry,h1]
  rw [e] at hK
  rcases h4 with ⟨cs,k1,rfl,h5⟩|h4
  ·refine .inl (G9 hT hF k1 h2 ?_)
   rintro β' aG w' v u ex cx hv ⟨rfl,rfl⟩
   exact hK β' _ w' ex (by rw [h5];exact hF.put ex cx hd hv)
  refine .inl (A3 hT hF h4 ?_)
  rintro β' aG w' v u ex cx hv ⟨rfl,rfl⟩
  exact hK β' _ w' ex (hF.put ex cx hd hv)
 ·rw [if_pos (by simp [Region.wanted,h2])]
  refine .inl (G6 hT hF h3 ?_)
  rintro β' aG w' v u ex cx hv ⟨rfl,rfl⟩
  have e:ry it s.bx=s.bx:=by simp [ry,h1]
  rw [e] at hK
  exact hK β' _ w' ex (hF.put ex cx hd hv)
 have e:ry it s.bx=s.bx:=by simp [ry,h1]
 rw [e] at hK
 have hy:=lH hF h3
 cases g with
 |true=>
  rw [if_pos (by simp only [Region.wanted,h2];exact hy)]
  refine .inl (G6 hT hF h4 ?_)
  rintro β' aG w' v' u ex cx hv ⟨rfl,rfl⟩
  exact hK β' _ w' ex (by rw [h5];exact hF.put ex cx hd (by simp only [ah];exact ⟨fun _=>hv,by simp⟩))
 |false=>
  rw [if_neg (by simp only [Region.wanted,h2];rw [hy];simp)]
  exact hK β _ w (Ext.refl _ _ _) (by rw [h5];exact hF.put (Ext.refl _ _ _) hF.cx hd (by simp only [ah];simp))
end
end Dem
end
