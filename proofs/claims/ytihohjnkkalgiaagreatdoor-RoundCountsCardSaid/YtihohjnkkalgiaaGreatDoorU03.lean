/- Parts of a proof, joined. -/
import Derived.Test.YtihohjnkkalgiaaGreatDoorU02
import Derived.Orders
set_option linter.all false
set_option maxRecDepth 100000
set_option maxHeartbeats 4000000
section
open Go
namespace Dem
section
variable {P:Program} {T:Nat→Option TI} {G:Nat→Option (List D)} {N:Nat} {ds:List Deferred} {β:Nat→Nat} {bx aL:List aA} {w:World} {X:Nat→Prop} {s:St} {a:Act}
def PK (ev:Operand→AV) (xs:List Operand):Prop:=∀x∈xs,(ev x).ok
theorem mZ.le {FC:Nat→List AV→List aA→iB→List aA→Prop} {f:Nat} {args:List AV} {v:AV} (h:mZ FC f args bx v) (hb:lI bx aL):mZ FC f args aL v:=by
 obtain ⟨args',jS,k1,k2,k3,k4,k5⟩:=h
 refine ⟨args',jS,Ey hb k1,k2,k3,?_,k5⟩
 intro i b hi dH
 obtain ⟨b',h1,h2,h3⟩:=k4 i b hi dH
 exact ⟨b',hb i b' h1 h2,h2,h3⟩
theorem Js {ev sE:Operand→AV} {op:Op} (h:∀x∈op.operands.toList,ev x=sE x):Ct T ev op=Ct T sE op:=by
 unfold Ct
 split
 ·rename_i b args ats
  split
  ·rename_i x y t u ha VR
   have mx:x∈args.toList:=by rw [ha];simp
   have my:y∈args.toList:=by rw [ha];simp
   rw [h x (by simp [Op.operands,Call.operands];exact by simpa using mx),h y (by simp [Op.operands,Call.operands];exact by simpa using my)]
  rfl
 rfl
inductive YG (FC:Nat→List AV→List aA→iB→List aA→Prop) (T:Nat→Option TI) (g:Bool) (ev:Operand→AV) (bx:List aA):Op→AV→Prop
 |pick (c a b:Operand) (p:Bool) (hc:(ev c).aM=.d (.bool p)) (hg:g=true→(ev c).ok∧(p=true→(ev a).ok)∧(p=false→(ev b).ok)):YG FC T g ev bx (.pick c a b) (zZ p (ev a).aM (ev b).aM)
 |call (f:Operand) (args:Array Operand) (ats:Array TypeId) (i:Nat) (as:List AV) (v:AV) (hf:l6 (ev f).aM (args.toList.map fun x=>(ev x).aM)=some (i,as))
  (hg:g=true→((ev f).ok∧PK ev args.toList)∧mZ FC i as bx v):
  YG FC T g ev bx (.call {callee:=.value f,args:=args,argTypes:=ats}) v
 |inv (f:Operand) (nm:String) (args:Array Operand) (ats:Array TypeId) (i:Nat) (as:List AV) (v:AV) (hf:CW T (ev f).aM nm (args.toList.map fun x=>(ev x).aM)=some (i,as))
  (hg:g=true→((ev f).ok∧PK ev args.toList)∧mZ FC i as bx v):
  YG FC T g ev bx (.call {callee:=.invoke f nm,args:=args,argTypes:=ats}) v
 |idx (t:Nat) (x i:Operand) (c:Prop) (ds ds':List D) (hi:z8 T t (ev x).aM (ev i).aM=some (c,ds)) (hg:g=true→(PK ev [x,i]∧c)∧ds=ds'):YG FC T g ev bx (.indexAddr t x i) (.ep ds')
 |no (op:Op) (v:AV) (hg:g=false):YG FC T g ev bx op v
 |app (op:Op) (c:Prop) (es:List (List D)) (hr:Ct T (fun x=>(ev x).aM) op=some (c,es)) (hg:g=true→PK ev op.operands.toList∧c):YG FC T g ev bx op (.d (.sl es))
 |op (op:Op) (c:Prop) (v:AV) (hr:FH T (fun x=>(ev x).aM) op bx=some ⟨c,v,none⟩) (hg:g=true→PK ev op.operands.toList∧c):YG FC T g ev bx op v
variable {FC:Nat→List AV→List aA→iB→List aA→Prop}
theorem vn {g:Bool} {o:Oper} {K:AV→Prop} (h:stepG FC T G g o s K):∃v,YG FC T g (bV G s.sl) s.bx o.op v∧K v:=by
 rcases h with ⟨hg,v,hK⟩|h|⟨c,es,hr,hg,hK⟩
 ·exact ⟨v,.no _ v hg,hK⟩
 rotate_left
 ·exact ⟨_,.app _ c es hr (fun h=>⟨fun x hx=>dA (hg h).1 x hx,(hg h).2⟩),hK⟩
 unfold wJ at h
 split at h
 ·rename_i c x y ho
  split at h
  ·rename_i p hc
   rw [ho]
   exact ⟨_,.pick c x y p hc h.1,h.2⟩
  exact h.elim
 ·rename_i f args ats ho
  split at h
  ·rename_i i as Gn
   obtain ⟨v,hg,hK⟩:=h
   rw [ho]
   exact ⟨v,.call f args ats i as v Gn (fun hg'=>⟨⟨(hg hg').1.1,fun x hx=>dA (hg hg').1.2 x hx⟩,(hg hg').2⟩),hK⟩
  exact h.elim
 ·rename_i f nm args ats ho
  split at h
  ·rename_i i as Gn
   obtain ⟨v,hg,hK⟩:=h
   rw [ho]
   exact ⟨v,.inv f nm args ats i as v Gn (fun hg'=>⟨⟨(hg hg').1.1,fun x hx=>dA (hg hg').1.2 x hx⟩,(hg hg').2⟩),hK⟩
  exact h.elim
 split at h
 ·rename_i c ds hi
  obtain ⟨ds',hg,hK⟩:=h
  split at hi
  ·rename_i t x i ho
   rw [ho] at hg ⊢
   exact ⟨_,.idx t x i c ds ds' hi (fun hg'=>⟨⟨fun y hy=>dA (hg hg').1.1 y (by simpa [Op.operands] using hy),(hg hg').1.2⟩,(hg hg').2⟩),hK⟩
  simp at hi
 split at h
 ·rename_i c v hr
  exact ⟨v,.op _ c v hr (fun hg=>⟨fun x hx=>dA (h.1 hg).1 x hx,(h.1 hg).2⟩),h.2⟩
 exact h.elim
theorem YG.Cy {g:Bool} {ev sE:Operand→AV} {op:Op} {v:AV} (h:YG FC T g ev bx op v) (iL:∀x∈op.operands.toList,ev x=sE x) (hb:lI bx aL):YG FC T g sE aL op v:=by
 cases h with
 |pick c x y p hc hg=>
  have e1:=iL c (by simp [Op.operands]);have e2:=iL x (by simp [Op.operands]);have e3:=iL y (by simp [Op.operands])
  rw [e1] at hc hg;rw [e2] at hg ⊢;rw [e3] at hg ⊢
  exact .pick c x y p hc hg
 |call f args ats i as v hf hg=>
  have e1:=iL f (by simp [Op.operands,Call.operands])
  have e2:∀x∈args.toList,ev x=sE x:=fun x hx=>iL x (by simp [Op.operands,Call.operands];exact .inr (by simpa using hx))
  rw [e1,List.map_congr_left (g:=fun x=>(sE x).aM) fun x hx=>by rw [e2 x hx]] at hf
  refine .call f args ats i as v hf (fun hg'=>?_)
  obtain ⟨⟨k1,k2⟩,k3⟩:=hg hg'
  exact ⟨⟨e1▸k1,fun x hx=>e2 x hx▸k2 x hx⟩,k3.le hb⟩
 |inv f nm args ats i as v hf hg=>
  have e1:=iL f (by simp [Op.operands,Call.operands])
  have e2:∀x∈args.toList,ev x=sE x:=fun x hx=>iL x (by simp [Op.operands,Call.operands];exact .inr (by simpa using hx))
  rw [e1,List.map_congr_left (g:=fun x=>(sE x).aM) fun x hx=>by rw [e2 x hx]] at hf
  refine .inv f nm args ats i as v hf (fun hg'=>?_)
  obtain ⟨⟨k1,k2⟩,k3⟩:=hg hg'
  exact ⟨⟨e1▸k1,fun x hx=>e2 x hx▸k2 x hx⟩,k3.le hb⟩
 |idx t x i c ds ds' hi hg=>
  have e1:=iL x (by simp [Op.operands]);have e2:=iL i (by simp [Op.operands])
  rw [e1,e2] at hi
  refine .idx t x i c ds ds' hi (fun hg'=>⟨⟨fun y hy=>?_,(hg hg').1.2⟩,(hg hg').2⟩)
  have:=(hg hg').1.1 y hy
  rw [iL y (by simpa [Op.operands] using hy)] at this
  exact this
 |no _ v hg=>exact .no _ v hg
 |app _ c es hr hg=>
  refine .app _ c es ?_ (fun hg'=>⟨fun x hx=>iL x hx▸(hg hg').1 x hx,(hg hg').2⟩)
  rw [←Js (ev:=fun x=>(ev x).aM) (sE:=fun x=>(sE x).aM) (fun x hx=>by rw [iL x hx])]
  exact hr
 |op _ c v hr hg=>
  refine .op _ c v ?_ (fun hg'=>⟨fun x hx=>iL x hx▸(hg hg').1 x hx,(hg hg').2⟩)
  rw [←M2 (ev:=fun x=>(ev x).aM) (sE:=fun x=>(sE x).aM) (fun x hx=>by rw [iL x hx])]
  exact VY hb hr
theorem GA (hT:kH P T) (hF:Fr G N ds β w X s a) {o:Oper} {v:AV} {next:Act→World→Prop} {Qc:Exit→Act→World→Prop}
 (h:YG (bt P G) T true (bV G s.sl) s.bx o.op v) (hn:Aw G β s.bx w X a o.dst (fun v' bx=>v'=v∧bx=s.bx) next):o.wp P a w next Qc:=by
 have iL:∀x,(bV G s.sl x).ok→aj β s.bx w (bf β s.bx w X) (bV G s.sl x).aM (a.eval x):=fun x hx=>ki (hF.eval x) hx
 unfold Oper.wp
 generalize ho:o.op=op at h
 cases h with
 |pick c x y p hc hg=>
  obtain ⟨h1,h2,h3⟩:=hg rfl
  have wE:=iL c h1
  rw [hc] at wE;simp only [aj,aJ] at wE
  refine cO (v:=_) (aL:=s.bx) (dB.pure (u:=if p then a.eval x else a.eval y) hF.cx ?_ (Ay (fun hp=>iL x (h2 hp)) (fun hp=>iL y (h3 hp)))) ⟨rfl,rfl⟩ hn
  simp [execOp,ho,wE,asBool]
 |call f args ats i as v Gn hg=>
  obtain ⟨⟨h1,h2⟩,hq⟩:=hg rfl
  obtain ⟨fs,cs,e1,e2⟩:=mB Gn (iL f h1) (iD args.toList (fun y hy=>iL y (h2 y hy)))
  rw [kT ho e1]
  refine gQ (lG (K:=fun v' bx=>v'=v∧bx=s.bx) hF.cx e2 hq ⟨rfl,rfl⟩) ?_ ?_ ?_
  ·rintro v w' ⟨β',aL,v',u,e,ex,cx,hv,hK⟩
   cases e
   exact hn β' aL w' v' v ex cx hv hK
  ·rintro ch w' ⟨_,_,_,_,e,_⟩;cases e
  rintro w' ⟨_,_,_,_,e,_⟩;cases e
 |inv f nm args ats i as v Gn hg=>
  obtain ⟨⟨h1,h2⟩,hq⟩:=hg rfl
  obtain ⟨t,ti,u,k1,k2,k3,e2⟩:=Da hT Gn (iL f h1) (iD args.toList (fun y hy=>iL y (h2 y hy)))
  rw [ym hT ho k1 k2 k3]
  refine gQ (lG (K:=fun v' bx=>v'=v∧bx=s.bx) hF.cx e2 hq ⟨rfl,rfl⟩) ?_ ?_ ?_
  ·rintro v w' ⟨β',aL,v',u,e,ex,cx,hv,hK⟩
   cases e
   exact hn β' aL w' v' v ex cx hv hK
  ·rintro ch w' ⟨_,_,_,_,e,_⟩;cases e
  rintro w' ⟨_,_,_,_,e,_⟩;cases e
 |idx t x i c ds ds' hi hg=>
  obtain ⟨⟨hk,hc⟩,rfl⟩:=hg rfl
  obtain ⟨r,k1,k2⟩:=Ax (P:=P) (w:=w) hT hF.cx hi hc (iL x (hk x (by simp))) (iL i (hk i (by simp)))
  refine cO (v:=_) (aL:=s.bx) (dB.pure hF.cx ?_ k2) ⟨rfl,rfl⟩ hn
  simp only [execOp,ho]
  exact bJ _ k1
 |no _ v hg=>cases hg
 |app _ c es hr hg=>
  obtain ⟨h1,hc⟩:=hg rfl
  subst ho
  exact cO (C9 (P:=P) hT hF.cx (ρ:=a.eval) (fun x hx=>iL x (h1 x hx)) hr hc) ⟨rfl,rfl⟩ hn
 |op _ c v hr hg=>
  obtain ⟨h1,hc⟩:=hg rfl
  subst ho
  exact cO (As (P:=P) hT hF.cx (ρ:=a.eval) (fun x hx=>iL x (h1 x hx)) hr hc) ⟨rfl,rfl⟩ hn
theorem GB {k:Nat} (h:bx[k]?=some .bq) (B:aA) {i:Nat} (hi:bT bx i):i≠k∧bT (bx.set k B) i:=by
 obtain ⟨b,h1,h2⟩:=hi
 have hne:i≠k:=by rintro rfl;rw [h] at h1;simp at h1;subst h1;simp [aA.born] at h2
 exact ⟨hne,b,by rw [List.getElem?_set_ne (Ne.symm hne)];exact h1,h2⟩
theorem qJ {k:Nat} (h:bx[k]?=some .bq) (o:Obj) (B:aA):Ext β bx w (lz β k w.heap.size) (bx.set k B) {w with heap:=w.heap.push o}:=by
 refine ⟨rfl,rfl,rfl,by simp,fun j hj _=>jk w o j hj,fun j c e f hj=>⟨c,by rw [jk w o j (eW hj)];exact hj,rfl⟩,?_,?_⟩
 ·intro i hi
  obtain ⟨h1,h2⟩:=GB h B hi
  exact ⟨c6 _ _ h1,h2⟩
 intro i b hb hl
 rcases aK hb with ⟨rfl,_,_⟩|⟨hne,hb'⟩
 ·exact .inl (by rw [bp];exact Nat.le_refl _)
 exact .inr ⟨i,b,hb',hl,(c6 _ _ hne).symm⟩
theorem GC (cx:cF G β bx w X) {k:Nat} (h:bx[k]?=some .bq) (o:Obj) (B:aA)
 (hB:dm (lz β k w.heap.size) (bx.set k B) {w with heap:=w.heap.push o} (bf (lz β k w.heap.size) (bx.set k B) {w with heap:=w.heap.push o} X) B w.heap.size):
 cF G (lz β k w.heap.size) (bx.set k B) {w with heap:=w.heap.push o} X:=by
 refine cx.step (qJ h o B) ?_ ?_
 ·intro i b hb
  rcases aK hb with ⟨rfl,rfl,_⟩|⟨hne,hb'⟩
  ·exact .inr (by rw [bp];exact hB)
  exact .inl ⟨hb',fun hl=>jk w o _ ((cx.box i b hb').eX hl)⟩
 intro i j bi bj h1 h2 l1 l2 he
 rcases aK h1 with ⟨rfl,rfl,_⟩|⟨hi,h3⟩<;>rcases aK h2 with ⟨rfl,rfl,_⟩|⟨hj,h4⟩
 ·rfl
 ·rw [bp,c6 _ _ hj] at he
  have:=(cx.box j bj h4).eX l2;omega
 ·rw [bp,c6 _ _ hi] at he
  have:=(cx.box i bi h3).eX l1;omega
 rw [c6 _ _ hi,c6 _ _ hj] at he
 exact cx.inj i j bi bj h3 h4 l1 l2 he
theorem yw (cx:cF G β bx w X) {k:Nat} (hk:bx[k]?=some .bq) (t:Nat) {x:AV} {u:Value} {cs:List AV} (hx:x.cells?=some cs) (h:aj β bx w (bf β bx w X) x u):
 ∃β' w',(newVar t u).run P w=.ok ⟨β' k,0,none⟩ w'∧Ext β bx w β' (bx.set k (.var cs)) w'∧cF G β' (bx.set k (.var cs)) w' X:=by
 obtain ⟨vs,h1,h2,h3⟩:=nP hx h
 refine ⟨lz β k w.heap.size,{w with heap:=w.heap.push (.cells ⟨vs⟩ t)},?_,qJ hk _ _,GC cx hk _ _ ?_⟩
 ·simp [newVar,newRow,newObj,Sem.run,h1,bp]
 refine ⟨⟨vs⟩,t,jv _ _,?_⟩
 exact ak.mono ((qJ (β:=β) (bx:=bx) (w:=w) hk (.cells ⟨vs⟩ t) (.var cs)).eT X) _ _ h2
theorem Ez {sl sW:List (Nat×AV)} {o:Oper} (h:∀x∈o.op.operands.toList,bV G sl x=bV G sW x):iC T G sl o=iC T G sW o:=by
 obtain ⟨dst,op,type,pos,after,guard⟩:=o
 unfold iC
 cases guard with
 |some g=>rfl
 |none=>
  cases op<;>simp only []
  rename_i t x
  rw [h x (by simp [Op.operands])]
theorem GD (hT:kH P T) (hF:Fr G N ds β w X s a) {o:Oper} {cs:List AV} (hb:iC T G s.sl o=some cs) {k:Nat} (hk:s.bx[k]?=some .bq) {next:Act→World→Prop} {Qc:Exit→Act→World→Prop}
 (hn:Aw G β s.bx w X a o.dst (fun v bx=>v=.ptr k 0∧bx=s.bx.set k (.var cs)) next):o.wp P a w next Qc:=by
 obtain ⟨dst,op,type,pos,after,guard⟩:=o
 have hlt:k<s.bx.length:=jz hk
 have dH:bT (s.bx.set k (.var cs)) k:=⟨.var cs,jA hk,rfl⟩
 unfold iC at hb
 unfold Oper.wp
 cases guard with
 |some g=>simp at hb
 |none=>
  simp only at hb
  split at hb
  ·rename_i t
   cases ht:T t with
   |none=>simp [ht] at hb
   |some ti=>
   simp only [ht] at hb
   obtain ⟨i,d,h1,h2,h3,h4,h5,h6⟩:=aI (hT.ti _ _ ht)
   cases zG:i.zero with
   |none=>rw [h6,zG] at hb;simp [AV.cells?] at hb
   |some z=>
   rw [h6,zG] at hb
   obtain ⟨β',w',k1,k2,k3⟩:=yw (P:=P) hF.cx hk t hb (uS z)
   have hr:(execOp a.eval {dst:=dst,op:=.alloc t,type:=type,pos:=pos,after:=after,guard:=none}).run P w=.ok (.value (.pointer (some ⟨β' k,0,none⟩))) w':=
    bJ _ (by simp [Instr.alloc,gP h1 zG,k1])
   rw [hr]
   exact hn β' _ w' (.ptr k 0) _ k2 k3 (by simp only [aj];exact ⟨trv,dH⟩) ⟨rfl,rfl⟩
  ·rename_i t x
   obtain ⟨β',w',k1,k2,k3⟩:=yw (P:=P) hF.cx hk t hb (hF.eval x)
   have hr:(execOp a.eval {dst:=dst,op:=.box t x,type:=type,pos:=pos,after:=after,guard:=none}).run P w=.ok (.value (.pointer (some ⟨β' k,0,none⟩))) w':=
    bJ _ (by simp [Instr.box,k1])
   rw [hr]
   exact hn β' _ w' (.ptr k 0) _ k2 k3 (by simp only [aj];exact ⟨trv,dH⟩) ⟨rfl,rfl⟩
  simp at hb
theorem Jt {β':Nat→Nat} {w':World} {sz n k:Nat} {es:List (List D)} {qp:List aA} {u:Value} (cx:cF G β bx w X) (hk:bx[k]?=some .bq) (ex:Ext β [] w β' [.row sz es] w') (mS:cF G β' [.row sz es] w' (qD β qp X))
 (hv:(∀r∈es,∀x∈r,x.flat=true)∨qp=bx) (hr:aj β' [.row sz es] w' (bf β' [.row sz es] w' (qD β qp X)) (.ow 0 sz n) u):
 Ext β bx w (lz β k (β' 0)) (bx.set k (.row sz es)) w'∧cF G (lz β k (β' 0)) (bx.set k (.row sz es)) w' X∧
  aj (lz β k (β' 0)) (bx.set k (.row sz es)) w' (bf (lz β k (β' 0)) (bx.set k (.row sz es)) w' X) (.ow k sz n) u:=by
 have e0:=u9 (bx:=bx) ex
 have hlk:k<bx.length:=jz hk
 have hnew:aA.live (.row sz es)=true→w.heap.size≤β' 0:=by
  intro hl
  rcases ex.live 0 (.row sz es) rfl hl with h|⟨j,b',h1,_⟩
  ·exact h
  simp at h1
 have e1:Ext β bx w (lz β k (β' 0)) (bx.set k (.row sz es)) w':=by
  refine ⟨e0.os,e0.tape,e0.output,e0.size,e0.block,e0.shape,?_,?_⟩
  ·intro i hi
   obtain ⟨h1,h2⟩:=GB hk (.row sz es) hi
   exact ⟨c6 _ _ h1,h2⟩
  intro i b h hl
  rcases aK h with ⟨rfl,rfl,_⟩|⟨hne,h1⟩
  ·exact .inl (by rw [bp];exact hnew hl)
  exact .inr ⟨i,b,h1,hl,(c6 _ _ hne).symm⟩
 have hlt:∀i b,bx[i]?=some b→b.live=true→β i<w.heap.size:=fun i b h hl=>dm.eX (cx.box i b h) hl
 have hok:qp=bx→∀blk,bf β' [.row sz es] w' (qD β qp X) blk→bf (lz β k (β' 0)) (bx.set k (.row sz es)) w' X blk:=by
  rintro rfl blk ⟨k1,k2,k3⟩
  refine ⟨k1,fun hX=>k2 (.inl hX),?_⟩
  intro i b h hl
  rcases aK h with ⟨rfl,rfl,_⟩|⟨hne,h1⟩
  ·rw [bp];exact k3 0 _ rfl hl
  rw [c6 _ _ hne];exact fun he=>k2 (.inr ⟨i,b,h1,hl,he⟩)
 refine ⟨e1,cx.step e1 ?_ ?_,?_⟩
 ·intro i b h
  rcases aK h with ⟨rfl,rfl,_⟩|⟨hne,h1⟩
  ·refine .inr ?_
   have:=mS.box 0 _ rfl
   rw [bp]
   simp only [dm] at this ⊢
   refine this.imp id ?_
   rintro ⟨c,e,h1,h2⟩
   refine ⟨c,e,h1,?_⟩
   rcases hv with hfl|hb
   ·exact oP _ _ hfl h2
   exact ay.mono (fun blk hb'=>⟨hok hb blk hb',rfl⟩) _ _ (fun _=>rfl) _ _ h2
  exact .inl ⟨h1,fun hl=>ex.block _ (hlt i b h1 hl) (by simp)⟩
 ·intro i j bi bj hi hj mT oQ he
  rcases aK hi with ⟨rfl,rfl,_⟩|⟨hni,h1⟩<;>rcases aK hj with ⟨rfl,rfl,_⟩|⟨hnj,h2⟩
  ·rfl
  ·rw [bp,c6 _ _ hnj] at he
   have:=hlt j bj h2 oQ;have:=hnew mT;omega
  ·rw [bp,c6 _ _ hni] at he
   have:=hlt i bi h1 mT;have:=hnew oQ;omega
  rw [c6 _ _ hni,c6 _ _ hnj] at he
  exact cx.inj i j bi bj h1 h2 mT oQ he
 simp only [aj] at hr ⊢
 obtain ⟨_,h2⟩:=hr
 refine ⟨⟨_,jA hk,rfl⟩,?_⟩
 rw [bp];exact h2
theorem AF (hT:kH P T) (hF:Fr G N ds β w X s a) {o:Oper} {k:Nat} {v0:AV} {B0:aA} (h:l8 (bt P G) G o s.sl s.bx k (fun v B=>v=v0∧B=B0)) {next:Act→World→Prop} {Qc:Exit→Act→World→Prop}
 (hn:Aw G β s.bx w X a o.dst (fun v bx=>v=v0∧bx=s.bx.set k B0) next):o.wp P a w next Qc:=by
 obtain ⟨f,args,ats,i,as,args',sz,n,es,ho,Gn,⟨h1,h2⟩,h3,h4,h5,h6,hk,rfl,rfl⟩:=h
 have iL:∀x,(bV G s.sl x).ok→aj β s.bx w (bf β s.bx w X) (bV G s.sl x).aM (a.eval x):=fun x hx=>ki (hF.eval x) hx
 obtain ⟨fs,cs,e1,e2⟩:=mB Gn (iL f h1) (iD args.toList (fun y hy=>iL y (dA h2 y hy)))
 unfold Oper.wp
 rw [kT ho e1]
 obtain ⟨x1,c1,r1⟩:=lX as s.bx _ _ hF.cx h3 e2
 have cn:=Gi c1
 have hnn:ak β [] w (bf β [] w (qD β (fy s.bx as) X)) _ _:=lW (fun blk hb=>Gj blk hb) _ _ h4 r1
 refine gQ (h5 β w _ _ cn hnn) ?_ ?_ ?_
 ·rintro u w' ⟨β',ex,mS,hr⟩
  simp only [mr] at hr
  obtain ⟨y1,y2,y3⟩:=Jt hF.cx hk ex mS (by
   rcases h6 with hfl|Py
   ·exact .inl hfl
   refine .inr ?_
   rw [kg s.bx Py]) hr
  exact hn _ _ w' _ u y1 y2 y3 ⟨rfl,rfl⟩
 ·rintro ch w' ⟨_,_,_,hr⟩;exact hr.elim
 rintro w' ⟨_,_,_,hr⟩;exact hr.elim
end
end Dem
end
section
open Go
namespace Dem
structure It where
 dst:Option Nat
 v:AV
 bi:Option (Nat×aA)
def dI (m:Nat→Bool):Nat→List It→List (Nat×AV)→List (Nat×AV)
 |_,[],sl=>sl
 |i,t::r,sl=>dI m (i+1) r (bif m i then eN t.dst t.v sl else sl)
def qK (t:It) (bx:List aA):List aA:=
 match t.bi with
 |some (k,B)=>bx.set k B
 |none=>bx
def fm (m:Nat→Bool):Nat→List It→List aA→List aA
 |_,[],bx=>bx
 |i,t::r,bx=>fm m (i+1) r (bif m i then qK t bx else bx)
theorem nU (t:Nat) (dst:Option Nat) (v:AV) (sl:List (Nat×AV)):fW t (eN dst v sl)=if dst=some t then v else fW t sl:=by
 cases dst with
 |none=>simp [eN]
 |some d=>
  simp only [eN,oR,osI]
  by_cases h:t=d
  ·subst h;simp
  have:d≠t:=fun e=>h e.symm
  simp [h,this]
theorem qL {t:Nat} {m m':Nat→Bool}:∀(cG:List It) (i:Nat) (sl sW:List (Nat×AV)),fW t sl=fW t sW→
 (∀j it,cG[j]?=some it→it.dst=some t→m (i+j)=m' (i+j))→fW t (dI m i cG sl)=fW t (dI m' i cG sW)
 |[],_,_,_,h,_=>h
 |it::r,i,sl,sW,h,hm=>by
  simp only [dI]
  refine qL r (i+1) _ _ ?_ (fun j it' hj hd=>by have:=hm (j+1) it' (by simpa using hj) hd;simpa [Nat.add_assoc,Nat.add_comm 1 j] using this)
  by_cases hd:it.dst=some t
  ·have:=hm 0 it rfl hd
   rw [Nat.add_zero] at this
   rw [this]
   cases m' i<;>simp [nU,hd,h]
  cases m i<;>cases m' i<;>simp [nU,hd,h]
theorem AG {t:Nat} {m:Nat→Bool}:∀(cG:List It) (i:Nat) (sl:List (Nat×AV)),(∀j it,cG[j]?=some it→it.dst=some t→m (i+j)=false)→fW t (dI m i cG sl)=fW t sl
 |[],_,_,_=>rfl
 |it::r,i,sl,hm=>by
  simp only [dI]
  rw [AG r (i+1) _ (fun j it' hj hd=>by have:=hm (j+1) it' (by simpa using hj) hd;simpa [Nat.add_assoc,Nat.add_comm 1 j] using this)]
  by_cases hd:it.dst=some t
  ·have:=hm 0 it rfl hd
   rw [Nat.add_zero] at this
   simp [this]
  cases m i<;>simp [nU,hd]
theorem kV {m m':Nat→Bool}:∀(cG:List It) (i:Nat) (sl:List (Nat×AV)),(∀j,j<cG.length→m (i+j)=m' (i+j))→dI m i cG sl=dI m' i cG sl
 |[],_,_,_=>rfl
 |it::r,i,sl,hm=>by
  simp only [dI]
  have h0:=hm 0 (by simp)
  rw [Nat.add_zero] at h0
  rw [h0]
  exact kV r (i+1) _ (fun j hj=>by have:=hm (j+1) (by simpa using hj);simpa [Nat.add_assoc,Nat.add_comm 1 j] using this)
theorem m7 {m m':Nat→Bool}:∀(cG:List It) (i:Nat) (bx:List aA),(∀j,j<cG.length→m (i+j)=m' (i+j))→fm m i cG bx=fm m' i cG bx
 |[],_,_,_=>rfl
 |it::r,i,bx,hm=>by
  simp only [fm]
  have h0:=hm 0 (by simp)
  rw [Nat.add_zero] at h0
  rw [h0]
  exact m7 r (i+1) _ (fun j hj=>by have:=hm (j+1) (by simpa using hj);simpa [Nat.add_assoc,Nat.add_comm 1 j] using this)
theorem AH:∀(cG:List It) (i j:Nat) (sl:List (Nat×AV)),dI (fun _=>true) i (cG.take j) sl=dI (fun x=>decide (x<i+j)) i cG sl
 |[],i,j,sl=>by simp [dI]
 |it::r,i,0,sl=>by
  simp only [List.take_zero,dI,Nat.add_zero,Nat.lt_irrefl,decide_false,cond_false]
  have:∀(r:List It) (k:Nat),i≤k→dI (fun x=>decide (x<i)) k r sl=sl:=by
   intro r
   induction r with
   |nil=>intro k _;rfl
   |cons t r ih=>
    intro k hk
    simp only [dI,show ¬k<i by omega,decide_false,cond_false]
    exact ih (k+1) (by omega)
  exact (this r (i+1) (by omega)).symm
 |it::r,i,j+1,sl=>by
  simp only [List.take_succ_cons,dI,cond_true,show i<i+(j+1) by omega,decide_true]
  rw [AH r (i+1) j]
  exact kV r (i+1) _ (fun k _=>by simp only [show i+1+j=i+(j+1) by omega])
theorem AI {t:Nat} {m m':Nat→Bool}:∀(cG:List It) (i j0:Nat) (LM:It) (sl:List (Nat×AV)),cG[j0]?=some LM→m (i+j0)=false→m' (i+j0)=true→(∀x,x≠i+j0→m' x=m x)→
 (∀j it,cG[j]?=some it→j0<j→m (i+j)=true→∀d,LM.dst=some d→it.dst≠some d)→fW t (dI m' i cG sl)=fW t (eN LM.dst LM.v (dI m i cG sl))
 |[],_,_,_,_,h,_,_,_,_=>by simp at h
 |it::r,i,0,LM,sl,h,h1,h2,h3,h4=>by
  simp at h;subst h
  simp only [Nat.add_zero] at h1 h2
  simp only [dI,h1,h2,cond_true,cond_false]
  rw [kV (m:=m') (m':=m) r (i+1) _ (fun j _=>h3 _ (by omega)),nU]
  by_cases hd:it.dst=some t
  ·rw [if_pos hd,AG r (i+1) _ (fun j it' hj VW=>?_),nU,if_pos hd]
   cases hq:m (i+1+j) with
   |false=>rfl
   |true=>exact absurd VW (h4 (j+1) it' (by simpa using hj) (by omega) (by rw [show i+(j+1)=i+1+j by omega];exact hq) t hd)
  rw [if_neg hd]
  exact qL r (i+1) _ _ (by rw [nU,if_neg hd]) (fun _ _ _ _=>rfl)
 |it::r,i,j0+1,LM,sl,h,h1,h2,h3,h4=>by
  simp only [dI]
  rw [h3 i (by omega)]
  exact AI r (i+1) j0 LM _ (by simpa using h) (by rw [show i+1+j0=i+(j0+1) by omega];exact h1) (by rw [show i+1+j0=i+(j0+1) by omega];exact h2)
   (fun x hx=>h3 x (by omega)) (fun j it' hj hlt hm=>h4 (j+1) it' (by simpa using hj) (by omega) (by rw [show i+(j+1)=i+1+j by omega];exact hm))
def kW:Nat→List It→Prop
 |_,[]=>True
 |k,t::r=>match t.bi with
  |some (x,_)=>x=k∧kW (k+1) r
  |none=>kW k r
theorem kW.ge:∀{cG:List It} {k:Nat},kW k cG→∀{j:Nat} {it:It} {x:Nat} {cs:aA},cG[j]?=some it→it.bi=some (x,cs)→k≤x
 |[],_,_,_,_,_,_,h,_=>by simp at h
 |t::r,k,hk,0,it,x,cs,h,hb=>by
  simp at h;subst h
  simp only [kW,hb] at hk
  omega
 |t::r,k,hk,j+1,it,x,cs,h,hb=>by
  simp only [kW] at hk
  split at hk
  ·have:=hk.2.ge (j:=j) (by simpa using h) hb;omega
  exact kW.ge hk (j:=j) (by simpa using h) hb
theorem kW.apart:∀{cG:List It} {k:Nat},kW k cG→∀{j j':Nat} {it it':It} {x x':Nat} {cs cs':aA},cG[j]?=some it→it.bi=some (x,cs)→cG[j']?=some it'→it'.bi=some (x',cs')→j≠j'→x≠x'
 |[],_,_,_,_,_,_,_,_,_,_,h,_,_,_,_=>by simp at h
 |t::r,k,hk,0,0,_,_,_,_,_,_,_,_,_,_,hne=>absurd rfl hne
 |t::r,k,hk,0,j'+1,it,it',x,x',cs,cs',h,hb,h',hb',_=>by
  simp at h;subst h
  simp only [kW,hb] at hk
  have:=hk.2.ge (j:=j') (by simpa using h') hb';omega
 |t::r,k,hk,j+1,0,it,it',x,x',cs,cs',h,hb,h',hb',_=>by
  simp at h';subst h'
  simp only [kW,hb'] at hk
  have:=hk.2.ge (j:=j) (by simpa using h) hb;omega
 |t::r,k,hk,j+1,j'+1,it,it',x,x',cs,cs',h,hb,h',hb',hne=>by
  have hk':∃k',kW k' r:=by
   simp only [kW] at hk
   split at hk
   ·exact ⟨_,hk.2⟩
   exact ⟨_,hk⟩
  obtain ⟨k',hk'⟩:=hk'
  exact kW.apart hk' (j:=j) (j':=j') (by simpa using h) hb (by simpa using h') hb' (by omega)
theorem Dh {m:Nat→Bool} {x:Nat}:∀(cG:List It) (i:Nat) (bx:List aA),(∀j it y cs,cG[j]?=some it→m (i+j)=true→it.bi=some (y,cs)→y≠x)→(fm m i cG bx)[x]?=bx[x]?
 |[],_,_,_=>rfl
 |t::r,i,bx,h=>by
  simp only [fm]
  rw [Dh r (i+1) _ (fun j it y cs hj hm hb=>h (j+1) it y cs (by simpa using hj) (by rw [show i+(j+1)=i+1+j by omega];exact hm) hb)]
  cases hm:m i with
  |false=>rfl
  |true=>
   simp only [cond_true,qK]
   split
   ·rename_i k cs hb
    have:=h 0 t k cs rfl (by simpa using hm) hb
    rw [List.getElem?_set_ne this]
   rfl
theorem Di {m:Nat→Bool} {x:Nat} {B:aA}:∀(cG:List It) (i:Nat) (bx:List aA),(∀j it y cs,cG[j]?=some it→m (i+j)=true→it.bi=some (y,cs)→y≠x)→fm m i cG (bx.set x B)=(fm m i cG bx).set x B
 |[],_,_,_=>rfl
 |t::r,i,bx,h=>by
  simp only [fm]
  rw [←Di r (i+1) _ (fun j it y cs hj hm hb=>h (j+1) it y cs (by simpa using hj) (by rw [show i+(j+1)=i+1+j by omega];exact hm) hb)]
  congr 1
  cases hm:m i with
  |false=>rfl
  |true=>
   simp only [cond_true,qK]
   split
   ·rename_i k cs hb
    have:=h 0 t k cs rfl (by simpa using hm) hb
    rw [List.set_comm _ _ (Ne.symm this)]
   rfl
theorem AJ {m m':Nat→Bool}:∀(cG:List It) (i j0:Nat) (LM:It) (bx:List aA),cG[j0]?=some LM→m (i+j0)=false→m' (i+j0)=true→(∀x,x≠i+j0→m' x=m x)→
 (∀j it y cs x cs0,cG[j]?=some it→j≠j0→it.bi=some (y,cs)→LM.bi=some (x,cs0)→y≠x)→fm m' i cG bx=qK LM (fm m i cG bx)
 |[],_,_,_,_,h,_,_,_,_=>by simp at h
 |t::r,i,0,LM,bx,h,h1,h2,h3,h4=>by
  simp at h;subst h
  simp only [Nat.add_zero] at h1 h2
  simp only [fm,h1,h2,cond_true,cond_false]
  rw [m7 (m:=m') (m':=m) r (i+1) _ (fun j _=>h3 _ (by omega))]
  unfold qK
  split
  ·rename_i k cs hb
   exact Di r (i+1) bx (fun j it y cs' hj _ hb'=>h4 (j+1) it y cs' k cs (by simpa using hj) (by omega) hb' hb)
  rfl
 |t::r,i,j0+1,LM,bx,h,h1,h2,h3,h4=>by
  simp only [fm]
  rw [h3 i (by omega)]
  exact AJ r (i+1) j0 LM _ (by simpa using h) (by rw [show i+1+j0=i+(j0+1) by omega];exact h1) (by rw [show i+1+j0=i+(j0+1) by omega];exact h2)
   (fun x hx=>h3 x (by omega)) (fun j it y cs x cs0 hj hne=>h4 (j+1) it y cs x cs0 (by simpa using hj) (by omega))
theorem GF {m:Nat→Bool} {bz:List aA}:∀(cG:List It) (i:Nat) (bx:List aA),lI bz bx→(∀(j:Nat) (it:It) (y:Nat) (cs:aA),cG[j]?=some it→it.bi=some (y,cs)→bz[y]?=some .bq)→lI bz (fm m i cG bx)
 |[],_,_,h,_=>h
 |t::r,i,bx,h,hu=>by
  simp only [fm]
  refine GF r (i+1) _ ?_ (fun j it y cs hj=>hu (j+1) it y cs (by simpa using hj))
  cases m i with
  |false=>exact h
  |true=>
   simp only [cond_true,qK]
   split
   ·rename_i k cs hb
    have h0:=hu 0 t k cs rfl hb
    intro x b hx dH
    by_cases hxk:k=x
    ·subst hxk;rw [h0] at hx;simp at hx;subst hx;simp [aA.born] at dH
    rw [List.getElem?_set_ne hxk];exact h x b hx dH
   exact h
end Dem
end
section
open Go
namespace Dem
theorem vo:∀(l:List Oper) (acc:List Nat),(cg l acc).take acc.length=acc
 |[],acc=>by simp [cg]
 |o::r,acc=>by
  have h:=vo r (acc++[so acc o])
  simp only [cg]
  have:=congrArg (List.take acc.length) h
  simpa [List.take_take] using this
theorem yx:∀(l:List Oper) (acc:List Nat) (j:Nat) (o:Oper),l[j]?=some o→(cg l acc)[acc.length+j]?=some (so ((cg l acc).take (acc.length+j)) o)
 |[],_,_,_,h=>by simp at h
 |p::r,acc,0,o,h=>by
  simp at h;subst h
  simp only [cg,Nat.add_zero]
  have h1:=vo r (acc++[so acc p])
  have h2:=congrArg (List.take acc.length) h1
  have h3:=congrArg (fun l=>l[acc.length]?) h1
  simp only [List.take_take,List.length_append,List.length_cons,List.length_nil,Nat.zero_add] at h2 h3
  rw [Nat.min_eq_left (by omega)] at h2
  rw [List.getElem?_take,if_pos (by omega)] at h3
  rw [h3,h2]
  simp
 |p::r,acc,j+1,o,h=>by
  have:=yx r (acc++[so acc p]) j o (by simpa using h)
  simp only [List.length_append,List.length_cons,List.length_nil,Nat.zero_add] at this
  simp only [cg]
  rw [show acc.length+(j+1)=acc.length+1+j by omega]
  exact this
theorem yy {acc:List Nat} {i:Nat}:∀(es:List Edge) (s:Nat),(es.foldl (fun s e=>bif Region.binds .any e then s ||| 2^e.on ||| acc.getD e.on 0 else s) s).testBit i=true→
 s.testBit i=true∨∃e∈es,Region.binds .any e=true∧(e.on=i∨(acc.getD e.on 0).testBit i=true)
 |[],s,h=>.inl h
 |e::es,s,h=>by
  rw [List.foldl_cons] at h
  rcases yy es _ h with h1|⟨e',h1,h2⟩
  ·cases hb:Region.binds .any e with
   |false=>rw [hb] at h1;exact .inl h1
   |true=>
    rw [hb] at h1
    simp only [cond_true,Nat.testBit_or,Bool.or_eq_true] at h1
    rcases h1 with (h1|h1)|h1
    ·exact .inl h1
    ·refine .inr ⟨e,by simp,hb,.inl ?_⟩
     rw [Nat.testBit_two_pow] at h1
     simpa using h1
    exact .inr ⟨e,by simp,hb,.inr h1⟩
  exact .inr ⟨e',by simp [h1],h2⟩
section
variable {ops:Array Oper}
def Down (ops:Array Oper) (m:Nat→Bool):Prop:=∀x o,ops[x]?=some o→m x=true→∀e∈o.after,Region.binds .any e=true→m e.on=true
theorem closed {m:Nat→Bool} (hd:Down ops m):∀(j:Nat) (o:Oper),ops[j]?=some o→(∀e∈o.after,Region.binds .any e=true→m e.on=true)→∀i,((cg ops.toList []).getD j 0).testBit i=true→m i=true:=by
 intro j
 induction j using Nat.strongRecOn with
 |_ j ih=>
  intro o ho hp i hi
  have wT:=yx ops.toList [] j o (by simpa using ho)
  simp only [List.length_nil,Nat.zero_add] at wT
  rw [List.getD_eq_getElem?_getD,wT] at hi
  simp only [Option.getD_some,so] at hi
  rcases yy _ _ hi with h|⟨e,he,hb,h|h⟩
  ·simp at h
  ·subst h;exact hp e (by simpa using he) hb
  have hlt:e.on<j:=by
   rcases Nat.lt_or_ge e.on j with h'|h'
   ·exact h'
   rw [List.getD_eq_getElem?_getD,List.getElem?_take,if_neg (by omega)] at h
   simp at h
  have hh:((cg ops.toList []).getD e.on 0).testBit i=true:=by
   rw [List.getD_eq_getElem?_getD,List.getElem?_take,if_pos hlt] at h
   rw [List.getD_eq_getElem?_getD];exact h
  have hj:j<ops.size:=(Array.getElem?_eq_some_iff.1 ho).1
  have ho':ops[e.on]?=some ops[e.on]:=by simp [show e.on<ops.size by omega]
  exact ih e.on hlt _ ho' (hd _ _ ho' (hp e (by simpa using he) hb)) i hh
theorem qM {m:Nat} {o:Oper}:∀{n:Nat},gr.sq ops m o n=true→∀j,j<n→m.testBit j=true∨∃p,ops[j]?=some p∧p.apart ops o=true
 |0,_,j,hj=>by omega
 |n+1,h,j,hj=>by
  simp only [gr.sq,Bool.and_eq_true,Bool.or_eq_true] at h
  by_cases hjn:j=n
  ·subst hjn
   refine h.1.imp id (fun h1=>?_)
   split at h1
   ·rename_i p hp;exact ⟨p,hp,h1⟩
   simp at h1
  exact qM h.2 j (by omega)
theorem lJ {b:List Nat}:∀{l:List Oper} {i:Nat},gr ops b i l=true→∀j o,l[j]?=some o→
 (∀e∈o.after,Region.binds .any e=true→e.on<i+j)∧∀k,k<i+j→(b.getD (i+j) 0).testBit k=true∨∃p,ops[k]?=some p∧p.apart ops o=true
 |[],_,_,j,o,ho=>by simp at ho
 |q::r,i,h,0,o,ho=>by
  simp at ho;subst ho
  simp only [gr,Bool.and_eq_true] at h
  refine ⟨fun e he hb=>?_,fun k hk=>qM h.1.2 k hk⟩
  have:=List.all_eq_true.1 h.1.1 e (by simpa using he)
  simpa [hb,Nat.blt_eq] using this
 |q::r,i,h,j+1,o,ho=>by
  simp only [gr,Bool.and_eq_true] at h
  have:=lJ h.2 j o (by simpa using ho)
  rw [show i+(j+1)=i+1+j by omega]
  exact this
theorem EA {b:List Nat} {q:Nat} (h:barrier b q=true):(∀i,i<q→(b.getD q 0).testBit i=true)∧∀i,q<i→i<b.length→(b.getD i 0).testBit q=true:=by
 simp only [barrier,Bool.and_eq_true] at h
 obtain ⟨h1,h2⟩:=h
 refine ⟨fun i hi=>?_,fun i hi hl=>?_⟩
 ·rw [Nat.eq_of_beq_eq_true h1]
  simpa using hi
 refine List.all_eq_true.1 h2 _ ?_
 rw [List.getD_eq_getElem?_getD,List.getElem?_eq_getElem hl,Option.getD_some]
 rw [List.mem_iff_getElem?]
 refine ⟨i-(q+1),?_⟩
 rw [List.getElem?_drop,show q+1+(i-(q+1))=i by omega,List.getElem?_eq_getElem hl]
theorem qN:∀(l:List Oper) (acc:List Nat),(cg l acc).length=acc.length+l.length
 |[],acc=>by simp [cg]
 |o::r,acc=>by simp only [cg];rw [qN r];simp;omega
end
end Dem
end
section
open Go
namespace Dem
section
variable {P:Program} {T:Nat→Option TI} {G:Nat→Option (List D)} {N:Nat} {ds:List Deferred} {X:Nat→Prop}
variable {FC:Nat→List AV→List aA→iB→List aA→Prop}
def YB (FC:Nat→List AV→List aA→iB→List aA→Prop) (T:Nat→Option TI) (G:Nat→Option (List D)) (o:Oper) (sl:List (Nat×AV)) (iw:List aA) (x:Nat) (B:aA) (v:AV):Prop:=
 (∃cs,iC T G sl o=some cs∧B=.var cs∧v=.ptr x 0)∨l8 FC G o sl iw x (fun v' B'=>v'=v∧B'=B)
def Ve (FC:Nat→List AV→List aA→iB→List aA→Prop) (T:Nat→Option TI) (G:Nat→Option (List D)) (ops:List Oper) (o:Oper) (sl:List (Nat×AV)) (iw:List aA) (it:It):Prop:=
 (∃x B,it.bi=some (x,B)∧iw[x]?=some .bq∧o.guard=none∧YB FC T G o sl iw x B it.v)∨
 (it.bi=none∧o.guard=none∧YG FC T true (bV G sl) iw o.op it.v)∨
 (it.bi=none∧∃j want g v,o.guard=some (j,want)∧guardOf sl ops j want=some g∧YG FC T g (bV G sl) iw o.op v∧it.v=.cond g v)
def tt:Nat→Bool:=fun _=>true
def XH (FC:Nat→List AV→List aA→iB→List aA→Prop) (T:Nat→Option TI) (G:Nat→Option (List D)) (N:Nat) (ops:List Oper) (b:List Nat) (base:Nat) (iw:List aA) (Q:Ex→St→Prop) (k i:Nat) (l:List Oper) (s:St):Prop:=
 ∃cG k',kW (base+k) cG∧cG.length≤l.length∧
  (∀j it,cG[j]?=some it→∃o,l[j]?=some o∧ic N o.dst=true∧it.dst=o.dst∧Ve FC T G ops o (dI tt i (cG.take j) s.sl) iw it)∧
  (
   (cG.length=l.length∧Q .normal ⟨dI tt i cG s.sl,fm tt i cG s.bx⟩)∨
   (∃o rest,l.drop cG.length=o::rest∧barrier b (i+cG.length)=true∧ic N o.dst=true∧nN FC T G N ops b base iw k' (i+cG.length) (o::rest) Q ⟨dI tt i cG s.sl,fm tt i cG s.bx⟩))
theorem XH.cons {ops:List Oper} {b:List Nat} {base:Nat} {iw:List aA} {Q:Ex→St→Prop} {o:Oper} {rest:List Oper} {k k1 i:Nat} {s:St} {it:It} (hd:ic N o.dst=true)
 (hk:∀cG,kW (base+k1) cG→kW (base+k) (it::cG)) (GG:it.dst=o.dst) (hy:Ve FC T G ops o s.sl iw it)
 (hr:XH FC T G N ops b base iw Q k1 (i+1) rest ⟨eN o.dst it.v s.sl,qK it s.bx⟩):XH FC T G N ops b base iw Q k i (o::rest) s:=by
 obtain ⟨cG,k',g1,g2,g3,g4⟩:=hr
 refine ⟨it::cG,k',hk cG g1,by simpa using g2,?_,?_⟩
 ·intro j it' hj
  cases j with
  |zero=>simp at hj;subst hj;exact ⟨o,rfl,hd,GG,by simpa [dI] using hy⟩
  |succ j=>
   obtain ⟨o',e1,e2,e3,e4⟩:=g3 j it' (by simpa using hj)
   refine ⟨o',by simpa using e1,e2,e3,?_⟩
   simp only [List.take_succ_cons,dI,tt,cond_true,GG]
   exact e4
 simp only [List.length_cons,dI,fm,tt,cond_true,GG,List.drop_succ_cons]
 rw [show i+(cG.length+1)=i+1+cG.length by omega]
 rcases g4 with ⟨e1,e2⟩|e
 ·exact .inl ⟨by omega,e2⟩
 exact .inr e
theorem tZ {ops:List Oper} {b:List Nat} {base:Nat} {iw:List aA} {Q:Ex→St→Prop}:∀(l:List Oper) (k i:Nat) (s:St),nN FC T G N ops b base iw k i l Q s→
 XH FC T G N ops b base iw Q k i l s
 |[],k,i,s,h=>⟨[],k,by simp [kW],by simp,by simp,.inl ⟨rfl,by simpa [dI,fm,nN] using h⟩⟩
 |o::rest,k,i,s,h=>by
  have h0:=h
  unfold nN at h
  cases hd:ic N o.dst with
  |false=>simp [hd] at h
  |true=>
  simp only [hd,cond_true] at h
  cases hb:barrier b i with
  |true=>exact ⟨[],k,by simp [kW],by simp,by simp,.inr ⟨o,rest,by simp,by simpa using hb,hd,by simpa [dI,fm] using h0⟩⟩
  |false=>
  simp only [hb,cond_false] at h
  have go:∀(it:It) (k1:Nat),(∀cG,kW (base+k1) cG→kW (base+k) (it::cG))→it.dst=o.dst→Ve FC T G ops o s.sl iw it→
   nN FC T G N ops b base iw k1 (i+1) rest Q ⟨eN o.dst it.v s.sl,qK it s.bx⟩→XH FC T G N ops b base iw Q k i (o::rest) s:=
   fun it k1 hk GG hy hr=>XH.cons hd hk GG hy (tZ rest k1 (i+1) _ hr)
  split at h
  ·rename_i cs x7
   split at h
   ·rename_i hu
    have hg:o.guard=none:=by
     unfold iC at x7
     cases hg:o.guard with
     |none=>rfl
     |some g=>simp [hg] at x7
    exact go ⟨o.dst,.ptr (base+k) 0,some (base+k,.var cs)⟩ (k+1) (fun cG hi=>by simp only [kW];exact ⟨trv,hi⟩) rfl (.inl ⟨_,.var cs,rfl,hu,hg,.inl ⟨cs,x7,rfl,rfl⟩⟩) h
   exact h.elim
  split at h
  ·rename_i hg
   rcases h with h|h
   ·obtain ⟨v,hy,hK⟩:=vn h
    exact go ⟨o.dst,v,none⟩ k (fun cG hi=>by simpa [kW] using hi) rfl (.inr (.inl ⟨rfl,hg,hy⟩)) hK
   obtain ⟨f,args,ats,i',as,args',sz,n,es,h1,h2,h3,h4,h5,h6,h7,h8,h9⟩:=h
   exact go ⟨o.dst,.ow (base+k) sz n,some (base+k,.row sz es)⟩ (k+1) (fun cG hi=>by simp only [kW];exact ⟨trv,hi⟩) rfl
    (.inl ⟨_,.row sz es,rfl,h8,hg,.inr ⟨f,args,ats,i',as,args',sz,n,es,h1,h2,h3,h4,h5,h6,h7,h8,rfl,rfl⟩⟩) h9
  rename_i j want hg
  split at h
  ·rename_i g I0
   obtain ⟨v,hy,hK⟩:=vn h
   exact go ⟨o.dst,.cond g v,none⟩ k (fun cG hi=>by simpa [kW] using hi) rfl (.inr (.inr ⟨rfl,j,want,g,v,hg,I0,hy,rfl⟩)) hK
  exact h.elim
variable {β:Nat→Nat} {w:World} {a:Act}
theorem Fr.Cy {sl sW:List (Nat×AV)} {bx:List aA} (hF:Fr G N ds β w X ⟨sl,bx⟩ a) (h:∀t,fW t sl=fW t sW):Fr G N ds β w X ⟨sW,bx⟩ a:=
 ⟨hF.cx,hF.defers,hF.size,fun t=>by have:=hF.yl t;simp only [h t] at this;exact this⟩
def at_ (listed:Array Bool) (x:Nat):Bool:=listed.getD x false
theorem uc {listed:Array Bool} {i x:Nat} (hi:i<listed.size):at_ (listed.setIfInBounds i true) x=(if x=i then true else at_ listed x):=by
 unfold at_
 by_cases h:x=i
 ·subst h;simp [hi]
 rw [if_neg h];simp [Array.getElem?_setIfInBounds_ne (Ne.symm h)]
theorem count_set:∀(l:List Bool) (i:Nat),l[i]?=some false→(l.set i true).count false+1=l.count false
 |[],i,h=>by simp at h
 |b::l,0,h=>by simp at h;subst h;simp
 |b::l,i+1,h=>by
  have:=count_set l i (by simpa using h)
  cases b<;>simp<;>omega
theorem AK:∀(l:List Bool),l.count false=0→∀i,i<l.length→l[i]?=some true
 |[],_,i,h=>by simp at h
 |b::l,h,i,hi=>by
  cases b with
  |false=>simp at h
  |true=>
   cases i with
   |zero=>rfl
   |succ i=>simpa using AK l (by simpa [List.count_cons] using h) i (by simpa using hi)
theorem kI {ops:Array Oper} {o:Oper} {sl sW:List (Nat×AV)} (h:∀t∈o.looksAt ops,fW t sl=fW t sW):∀x∈o.op.operands.toList,bV G sl x=bV G sW x:=by
 intro x hx
 cases x with
 |tmp t=>
  exact h t (List.mem_append_left _ (List.mem_filterMap.2 ⟨.tmp t,hx,rfl⟩))
 |_=>rfl
theorem GH {ops:Array Oper} {o:Oper} {sl sW:List (Nat×AV)} {j:Nat} {want:Bool} (hg:o.guard=some (j,want)) (h:∀t∈o.looksAt ops,fW t sl=fW t sW):
 guardOf sl ops.toList j want=guardOf sW ops.toList j want:=by
 unfold guardOf
 have hj:ops.toList[j]?=ops[j]?:=by simp
 rw [hj]
 cases ho:ops[j]? with
 |none=>rfl
 |some p=>
  simp only
  cases hd:p.dst with
  |none=>rfl
  |some t=>
   simp only
   rw [h t (List.mem_append_right _ (by simp [hg,ho,hd]))]
theorem Ve.Cy {ops:Array Oper} {o:Oper} {sl sW:List (Nat×AV)} {iw bx:List aA} {it:It} (h:Ve FC T G ops.toList o sl iw it) (hl:∀t∈o.looksAt ops,fW t sl=fW t sW) (hb:lI iw bx)
 (hu:∀x cs,it.bi=some (x,cs)→bx[x]?=some .bq):Ve FC T G ops.toList o sW bx it:=by
 rcases h with ⟨x,B,h1,h2,h3,h4⟩|⟨h1,h2,h3⟩|⟨h1,j,want,g,v,h2,h3,h4,h5⟩
 ·refine .inl ⟨x,B,h1,hu x B h1,h3,?_⟩
  rcases h4 with ⟨cs,k1,k2,k3⟩|h4
  ·exact .inl ⟨cs,by rw [←Ez (kI hl)];exact k1,k2,k3⟩
  obtain ⟨f,args,ats,i',as,args',sz,n,es,e1,e2,e3,e4,e5,e6,e7,e8,e9⟩:=h4
  have hop:=kI (G:=G) hl
  rw [e1] at hop
  have o1:=hop f (by simp [Op.operands,Call.operands])
  have o2:∀x∈args.toList,bV G sl x=bV G sW x:=fun x hx=>hop x (by simp [Op.operands,Call.operands];exact .inr (by simpa using hx))
  have o3:fX G sl args.toList=fX G sW args.toList:=by unfold fX;exact List.map_congr_left o2
  rw [o1,List.map_congr_left (g:=fun x=>(bV G sW x).aM) fun x hx=>by rw [o2 x hx]] at e2
  rw [o1,o3] at e3
  exact .inr ⟨f,args,ats,i',as,args',sz,n,es,e1,e2,e3,Ey hb e4,e5,e6,e7,hu x B h1,e9⟩
 ·exact .inr (.inl ⟨h1,h2,h3.Cy (kI hl) hb⟩)
 exact .inr (.inr ⟨h1,j,want,g,v,h2,by rw [←GH h2 hl];exact h3,h4.Cy (kI hl) hb,h5⟩)
theorem PL (hT:kH P T) {ops:Array Oper} {i:Nat} {o:Oper} (ho:ops[i]?=some o) {s:St} (hF:Fr G N ds β w X s a) {it:It} (hy:Ve (bt P G) T G ops.toList o s.sl s.bx it) (hd:ic N o.dst=true)
 {K:Act→World→Prop} {Qc:Exit→Act→World→Prop} (hK:∀β' a' w',Ext β s.bx w β' (qK it s.bx) w'→Fr G N ds β' w' X ⟨eN o.dst it.v s.sl,qK it s.bx⟩ a'→K a' w'):wpOp P ops Qc i K a w:=by
 unfold wpOp
 rw [ho]
 simp only
 rcases hy with ⟨x,B,h1,h2,h3,h4⟩|⟨h1,h2,h3⟩|⟨h1,j,want,g,v,h2,h3,h4,h5⟩
 ·rw [if_pos (by simp [Region.wanted,h3])]
  have e:qK it s.bx=s.bx.set x B:=by simp [qK,h1]
  rw [e] at hK
  rcases h4 with ⟨cs,k1,rfl,h5⟩|h4
  ·refine .inl (GD hT hF k1 h2 ?_)
   rintro β' aL w' v u ex cx hv ⟨rfl,rfl⟩
   exact hK β' _ w' ex (by rw [h5];exact hF.put ex cx hd hv)
  refine .inl (AF hT hF h4 ?_)
  rintro β' aL w' v u ex cx hv ⟨rfl,rfl⟩
  exact hK β' _ w' ex (hF.put ex cx hd hv)
 ·rw [if_pos (by simp [Region.wanted,h2])]
  refine .inl (GA hT hF h3 ?_)
  rintro β' aL w' v u ex cx hv ⟨rfl,rfl⟩
  have e:qK it s.bx=s.bx:=by simp [qK,h1]
  rw [e] at hK
  exact hK β' _ w' ex (hF.put ex cx hd hv)
 have e:qK it s.bx=s.bx:=by simp [qK,h1]
 rw [e] at hK
 have hy:=lH hF h3
 cases g with
 |true=>
  rw [if_pos (by simp only [Region.wanted,h2];exact hy)]
  refine .inl (GA hT hF h4 ?_)
  rintro β' aL w' v' u ex cx hv ⟨rfl,rfl⟩
  exact hK β' _ w' ex (by rw [h5];exact hF.put ex cx hd (by simp only [aj];exact ⟨fun _=>hv,by simp⟩))
 |false=>
  rw [if_neg (by simp only [Region.wanted,h2];rw [hy];simp)]
  exact hK β _ w (Ext.refl _ _ _) (by rw [h5];exact hF.put (Ext.refl _ _ _) hF.cx hd (by simp only [aj];simp))
end
end Dem
end
section
open Go
namespace Dem
theorem lK (pre:List Nat) (i:Nat) (o:Oper):(fj pre i o).op=o.op∧(fj pre i o).dst=o.dst∧(fj pre i o).guard=o.guard∧(fj pre i o).type=o.type∧(fj pre i o).pos=o.pos:=by
 unfold fj;cases pre.contains i<;>exact ⟨rfl,rfl,rfl,rfl,rfl⟩
theorem mD (pre:List Nat):∀(l:List Oper) (i j:Nat),(bI pre i l)[j]?=(l[j]?).map (fj pre (i+j))
 |[],_,_=>by simp [bI]
 |o::r,i,0=>by simp [bI]
 |o::r,i,j+1=>by
  simp only [bI,List.getElem?_cons_succ]
  rw [mD pre r (i+1) j,show i+1+j=i+(j+1) by omega]
theorem oT:∀(l:List Oper) (i:Nat),bI [] i l=l
 |[],_=>rfl
 |o::r,i=>by simp only [bI,oT r];simp [fj]
theorem kJ (pre:List Nat):∀(l:List Oper) (i:Nat),(bI pre i l).length=l.length
 |[],_=>rfl
 |o::r,i=>by simp [bI,kJ pre r]
section
variable {P:Program} {ops ops':Array Oper} {Q:Exit→Act→World→Prop} {pre:List Nat}
def nV (pre:List Nat) (ops ops':Array Oper):Prop:=∀j,ops'[j]?=(ops[j]?).map (fj pre j)
theorem nV.yielded (h:nV pre ops ops') (tm:Array Value):Go.yielded ops' tm=Go.yielded ops tm:=by
 funext j
 unfold Go.yielded
 rw [h j]
 cases ops[j]? with
 |none=>rfl
 |some o=>simp [(lK pre j o).2.1]
theorem vp (pre:List Nat) (j:Nat) (o:Oper) (ρ:Operand→Value):execOp ρ (fj pre j o)=execOp ρ o:=by
 unfold fj;cases pre.contains j<;>rfl
theorem ue (h:nV pre ops ops') {i:Nat} {K:Act→World→Prop} {a:Act} {w:World}:wpOp P ops' Q i K a w↔wpOp P ops Q i K a w:=by
 unfold wpOp
 rw [h i,h.yielded]
 cases ho:ops[i]? with
 |none=>rfl
 |some o=>
  obtain ⟨_,e2,e3,_,_⟩:=lK pre i o
  simp only [Option.map_some]
  have hw:Region.wanted (fj pre i o) (Go.yielded ops a.tmps)=Region.wanted o (Go.yielded ops a.tmps):=by unfold Region.wanted;rw [e3]
  rw [hw,e2]
  have h1:(fj pre i o).wp P a w K Q=o.wp P a w K Q:=by
   unfold Oper.wp
   rw [vp]
   generalize (execOp a.eval o).run P w=r
   unfold Oper.upon;rw [e2]
  have h2:(fj pre i o).asks P a w=o.asks P a w:=by unfold Oper.asks;rw [vp]
  rw [h1,h2]
theorem yz (h:nV pre ops ops') {listed:Array Bool} (hl:∀p∈pre,listed.getD p false=true):Region.ready .any ops' listed=Region.ready .any ops listed:=by
 have hsz:ops'.size=ops.size:=by
  rcases Nat.lt_trichotomy ops'.size ops.size with hh|hh|hh
  ·have:=h ops'.size;simp [hh] at this
  ·exact hh
  have:=h ops.size;simp [hh] at this
 unfold Region.ready
 rw [hsz]
 apply List.filter_congr
 intro j hj
 rw [h j]
 cases ho:ops[j]? with
 |none=>rfl
 |some o=>
  simp only [Option.map_some]
  congr 1
  unfold fj
  cases hc:pre.contains j with
  |true=>rfl
  |false=>
   simp only [cond_false]
   rw [Array.all_append]
   have:((pre.filter (fun p=>Nat.blt p j)).map (fun p=>({on:=p,ground:=.data}:Edge))).toArray.all (fun e=>!Region.binds .any e||listed.getD e.on false)=true:=by
    rw [Array.all_eq_true]
    intro i hi
    simp only [List.size_toArray,lgM] at hi
    simp only [List.getElem_toArray,List.getElem_map]
    have hm:(pre.filter (fun p=>Nat.blt p j))[i]∈pre:=(List.mem_filter.1 (List.getElem_mem hi)).1
    rw [hl _ hm];simp
   rw [this,Bool.and_true]
theorem yA (h:nV pre ops ops'):∀(fuel:Nat) (listed:Array Bool) (a:Act) (w:World),(∀p∈pre,listed.getD p false=true)→wpAny P .any ops' Q fuel listed a w→wpAny P .any ops Q fuel listed a w
 |0,listed,a,w,hl,hh=>by
  simp only [wpAny] at hh ⊢
  rwa [yz h hl] at hh
 |fuel+1,listed,a,w,hl,hh=>by
  simp only [wpAny] at hh ⊢
  rw [yz h hl] at hh
  refine ⟨hh.1,fun i hi=>?_⟩
  refine wpOp_mono (fun a' w' h'=>yA h fuel _ a' w' ?_ h') ((ue h).1 (hh.2 i hi))
  intro p hp
  have:=hl p hp
  rcases Nat.lt_or_ge i listed.size with hlt|hge
  ·simp only [Array.getD_eq_getD_getElem?,Array.getElem?_setIfInBounds] at this ⊢
   split
   ·simp
   exact this
  rwa [Array.setIfInBounds_eq_of_size_le hge]
end
def wU (sl:List (Nat×AV)) (a:Act):Prop:=∀t k z,fW t sl=.d (.int k z)→a.tmps.getD t undef=.int k z
theorem vq {G:Nat→Option (List D)} {sl:List (Nat×AV)} {a:Act} (h:wU sl a) {x:Operand} {k:IntKind} {z:Int} (hx:bV G sl x=.d (.int k z)):a.eval x=.int k z:=by
 cases x with
 |tmp t=>exact h t k z hx
 |const v=>
  simp only [bV] at hx
  show v=_
  unfold I4 at hx
  split at hx<;>first|(cases hx;rfl)|cases hx
 |global g=>simp only [bV] at hx;split at hx<;>cases hx
 |func f=>cases hx
theorem LN (a:Act) (t:Nat) (v:Value) (hd:t<a.tmps.size) (u:Nat):(a.put (some t) v).tmps.getD u undef=if u=t then v else a.tmps.getD u undef:=by
 simp only [Act.put,Array.getD_eq_getD_getElem?,Array.getElem?_setIfInBounds]
 split
 ·rename_i e;subst e;simp
 rename_i e;rw [if_neg (fun h=>e h.symm)]
theorem GI (t u:Nat) (v:AV):∀(sl:List (Nat×AV)),fW u (put t v sl)=if u=t then v else fW u sl
 |[]=>by
  simp only [put,fW]
  by_cases h:u=t
  ·subst h;simp
  rw [if_neg h];cases hb:Nat.beq u t with
  |false=>rfl
  |true=>exact absurd (Nat.eq_of_beq_eq_true hb) h
 |(s,x)::r=>by
  simp only [put]
  cases hb:Nat.beq t s with
  |true=>
   have:=Nat.eq_of_beq_eq_true hb;subst this
   simp only [cond_true,fW]
   by_cases h:u=t
   ·subst h;simp
   rw [if_neg h];cases hb:Nat.beq u t with
   |false=>rfl
   |true=>exact absurd (Nat.eq_of_beq_eq_true hb) h
  |false=>
   simp only [cond_false,fW]
   rw [GI t u v r]
   cases uI:Nat.beq u s with
   |false=>simp
   |true=>
    have:=Nat.eq_of_beq_eq_true uI;subst this
    have:u≠t:=fun e=>by subst e;simp at hb
    simp [this]
theorem wU.put {sl:List (Nat×AV)} {a:Act} (h:wU sl a) {N:Nat} (hN:a.tmps.size=N) {dst:Option Nat} (hd:ic N dst=true) {x:AV} {v:Value} (hv:∀k z,x=.d (.int k z)→v=.int k z):wU (eN dst x sl) (a.put dst v):=by
 cases dst with
 |none=>exact h
 |some t=>
  intro u k z hu
  simp only [eN] at hu
  rw [GI] at hu
  have ht:t<a.tmps.size:=by rw [hN];exact Nat.le_of_ble_eq_true hd
  rw [LN a t v ht]
  split at hu
  ·rename_i e;rw [if_pos e];exact hv k z hu
  rename_i e;rw [if_neg e];exact h u k z hu
theorem S6 {t:TypeId} {k:IntKind} {x y:Int} {ρ:Operand→Value} {o:Oper} {a b:Operand} {t':TypeId} (ho:o.op=.binOp .add t a b t') (ha:ρ a=.int k x) (hb:ρ b=.int k y):execOp ρ o=pure (.value (.int k (k.wrap (x+y)))):=by
 unfold execOp
 simp only [ho,ha,hb]
 have h1:binOp .add t (.int k x) (.int k y)=pure (.int k (k.wrap (x+y))):=by simp [binOp,Op.intArith]
 rw [h1]
 rfl
theorem S7 {t:TypeId} {k:IntKind} {x y:Int} {ρ:Operand→Value} {o:Oper} {a b:Operand} {t':TypeId} (ho:o.op=.binOp .sub t a b t') (ha:ρ a=.int k x) (hb:ρ b=.int k y):execOp ρ o=pure (.value (.int k (k.wrap (x-y)))):=by
 unfold execOp
 simp only [ho,ha,hb]
 have h1:binOp .sub t (.int k x) (.int k y)=pure (.int k (k.wrap (x-y))):=by simp [binOp,Op.intArith]
 rw [h1]
 rfl
section
variable {P:Program} {ops ops':Array Oper} {Q:Exit→Act→World→Prop}
theorem PM {G:Nat→Option (List D)} {sl:List (Nat×AV)} {a:Act} (h:wU sl a) {o:Oper} {x:AV} (hx:SI G sl o=some x):∃v,execOp a.eval o=pure (.value v)∧∀k z,x=.d (.int k z)→v=.int k z:=by
 unfold SI at hx
 split at hx
 ·rename_i y ho
  cases hx
  exact ⟨a.eval y,by unfold execOp;simp only [ho],fun k z hk=>vq h hk⟩
 ·rename_i t y z t' ho
  split at hx
  ·rename_i k p k' q h1 h2
   cases hk:k==k' with
   |false=>rw [hk] at hx;cases hx
   |true=>
    rw [hk] at hx
    have:k=k':=by simpa using hk
    subst this
    simp only [cond_true,osI] at hx
    subst hx
    refine ⟨_,S6 ho (vq h h1) (vq h h2),fun j r e=>?_⟩
    cases e;rfl
  cases hx
 ·rename_i t y z t' ho
  split at hx
  ·rename_i k p k' q h1 h2
   cases hk:k==k' with
   |false=>rw [hk] at hx;cases hx
   |true=>
    rw [hk] at hx
    have:k=k':=by simpa using hk
    subst this
    simp only [cond_true,osI] at hx
    subst hx
    refine ⟨_,S7 ho (vq h h1) (vq h h2),fun j r e=>?_⟩
    cases e;rfl
  cases hx
 cases hx
theorem AL {p:Nat} {o:Oper} {v:Value} {K:Act→World→Prop} {a:Act} {w:World} (hi:ops[p]?=some o) (hg:o.guard=none) (hv:execOp a.eval o=pure (.value v)) (h:wpOp P ops Q p K a w):K (a.put o.dst v) w:=by
 unfold wpOp at h
 have hw:Region.wanted o (Go.yielded ops a.tmps)=true:=by unfold Region.wanted;rw [hg]
 simp only [hi,hw,if_true] at h
 rcases h with h|⟨h,_⟩
 ·unfold Oper.wp at h;rw [hv] at h;exact h
 unfold Oper.asks at h;rw [hv] at h
 exact absurd h.1 (by show noRoomEvent ∉ (#[]:Array Event);simp)
theorem wV {G:Nat→Option (List D)} {N:Nat} {S8:List Nat} (ht:nV S8 ops ops') (hsel:l7 ops=true) (hQ:∀c (a a':Act) w,a.defers=a'.defers→Q (.panic c) a w→Q (.panic c) a' w) (fuel:Nat) (w:World):
 ∀(pre done:List Nat) (listed:Array Bool) (a:Act) (sl:List (Nat×AV)),iI ops done pre=true→CX G N ops.toList pre sl=true→wU sl a→a.tmps.size=N→(∀p∈done,listed.getD p false=true)→(∀p∈pre,p ∉ done→listed.getD p true=false)→
  (∀p∈S8,p∈done∨p∈pre)→(∀p∈pre,p∈S8)→listed.size=ops.size→pre.Nodup→
  wpAny P .any ops' Q (pre.length+fuel) listed a w→wpAny P .any ops Q (pre.length+fuel) listed a w
 |[],done,listed,a,sl,_,_,_,_,hd,_,hc,_,_,_,h=>yA ht _ _ _ _ (fun p hp=>hd p ((hc p hp).resolve_right (by simp))) h
 |p::r,done,listed,a,sl,hf,hg,hr,hN,hd,hu,hc,hs,hsz,hnd,h=>by
  simp only [iI] at hf
  simp only [CX] at hg
  cases ho:ops[p]? with
  |none=>simp [ho] at hf
  |some o=>
   have ho':ops.toList[p]?=some o:=by simpa using ho
   simp only [ho',ho,Bool.and_eq_true] at hf hg
   obtain ⟨⟨⟨⟨f1,f2⟩,f3⟩,f4⟩,f5⟩:=hf
   have hnp:p ∉ done:=by simpa using f1
   have EB:listed.getD p true=false:=hu p (by simp) hnp
   have wW:o.guard=none:=by cases XI:o.guard with
    |none=>rfl
    |some g=>rw [XI] at f2;cases f2
   cases hx:SI G sl o with
   |none=>rw [hx] at hg;cases hg
   |some x=>
    simp only [hx,Bool.and_eq_true] at hg
    obtain ⟨g1,g2⟩:=hg
    obtain ⟨v,hv,hvx⟩:=PM hr hx
    have Ju:p∈Region.ready .any ops listed:=by
     rw [mem_ready]
     refine ⟨EB,o,ho,fun e he hb=>?_⟩
     rw [Array.all_eq_true_iff_forall_mem] at f3
     have:=f3 e he
     rw [hb] at this
     simp only [Bool.not_true,Bool.false_or] at this
     exact hd _ (by simpa using this)
    have S9:p∈Region.ready .any ops' listed:=by
     rw [mem_ready] at Ju ⊢
     refine ⟨EB,o,?_,?_⟩
     ·rw [ht p,ho,Option.map_some]
      have:S8.contains p=true:=by simpa using hs p (by simp)
      congr 1;unfold fj;rw [this];rfl
     obtain ⟨_,o2,h2,h3⟩:=Ju
     rw [ho] at h2;cases h2;exact h3
    rw [show (p::r).length+fuel=(r.length+fuel)+1 by simp;omega] at h ⊢
    have h1:=(ue ht).1 (h.2 p S9)
    have h2:=AL ho wW hv h1
    have Jv:Yields P ops o v a:=.inl ⟨by unfold Region.wanted;rw [wW],fun w=>by rw [hv];rfl⟩
    refine wpAny_first ho ?_ (fun c a w hq=>hQ c _ _ w (by cases o.dst<;>rfl) hq) _ _ _ _ ?_ Ju Jv ?_
    ·intro j q cs b hj e
     have hm:q∈ops:=Array.mem_of_getElem? hj
     rw [l7,Array.all_eq_true_iff_forall_mem] at hsel
     have:=hsel q hm
     rw [e] at this;cases this
    ·intro j q hj hjp hjl hno
     have dM:j<ops.size:=(Array.getElem?_eq_some_iff.1 hj).1
     rw [List.all_eq_true] at f4
     have:=f4 j (List.mem_range.2 dM)
     rw [hj] at this
     simp only [Bool.or_eq_true] at this
     rcases this with (h4|h4)|h4|h4
     ·exact absurd (Nat.eq_of_beq_eq_true h4) hjp
     ·have:=hd j (by simpa using h4)
      exfalso
      rcases Nat.lt_or_ge j listed.size with hl|hl
      ·simp [hl] at this hjl;rw [this] at hjl;cases hjl
      simp [hl] at this
     ·rw [Array.any_eq_true] at h4
      obtain ⟨i,hi,h5⟩:=h4
      simp only [Bool.and_eq_true] at h5
      exact absurd (Nat.eq_of_beq_eq_true h5.2) (hno _ (Array.getElem_mem hi) h5.1)
     exact h4
    have hps:p<listed.size:=by rw [hsz];exact (Array.getElem?_eq_some_iff.1 ho).1
    refine wV ht hsel hQ fuel w r (p::done) _ _ _ f5 g2 (hr.put hN g1 hvx) ?_ ?_ ?_ ?_ (fun q hq=>hs q (by simp [hq])) (by simpa using hsz) (List.nodup_cons.1 hnd).2 h2
    ·rw [←hN];cases o.dst with
     |none=>rfl
     |some d=>simp [Act.put]
    ·intro q hq
     rcases List.mem_cons.1 hq with rfl|hq
     ·simp [hps]
     have:=hd q hq
     simp only [Array.getD_eq_getD_getElem?,Array.getElem?_setIfInBounds] at this ⊢
     split
     ·simp
     exact this
    ·intro q hq hqd
     have hqp:q≠p:=fun e=>by subst e;exact (List.nodup_cons.1 hnd).1 hq
     have:=hu q (by simp [hq]) (fun hh=>hqd (by simp [hh]))
     simp only [Array.getD_eq_getD_getElem?,Array.getElem?_setIfInBounds] at this ⊢
     rw [if_neg (fun e=>hqp e.symm)]
     exact this
    intro q hq
    rcases hc q hq with h6|h6
    ·exact .inl (by simp [h6])
    rcases List.mem_cons.1 h6 with rfl|h6
    ·exact .inl (by simp)
    exact .inr h6
end
section
variable {P:Program} {ops ops':Array Oper} {Q:Exit→Act→World→Prop} {late:List Nat}
def GJ (late:List Nat) (ops ops':Array Oper):Prop:=∀j,ops'[j]?=(ops[j]?).map (kG ops late j)
theorem lM (ops:Array Oper) (late:List Nat) (i:Nat) (o:Oper):∃x,kG ops late i o={o with after:=o.after++x}:=by
 unfold kG
 cases late.contains i
 ·exact ⟨_,rfl⟩
 exact ⟨#[],by simp⟩
theorem GJ.yielded (h:GJ late ops ops') (tm:Array Value):Go.yielded ops' tm=Go.yielded ops tm:=by
 funext j
 unfold Go.yielded
 rw [h j]
 cases ops[j]? with
 |none=>rfl
 |some o=>obtain ⟨x,e⟩:=lM ops late j o;simp [e]
theorem AM (h:GJ late ops ops') {i:Nat} {K:Act→World→Prop} {a:Act} {w:World}:wpOp P ops' Q i K a w↔wpOp P ops Q i K a w:=by
 unfold wpOp
 rw [h i,h.yielded]
 cases ho:ops[i]? with
 |none=>rfl
 |some o=>
  obtain ⟨x,e⟩:=lM ops late i o
  simp only [Option.map_some,e]
  rfl
theorem EC {o:Oper} (h:Ab o.op=true) (ρ:Operand→Value):(∃v,execOp ρ o=pure (.value v))∨(∃m,execOp ρ o=(stuck m)):=by
 unfold Ab at h
 split at h
 ·rename_i x ho;exact .inl ⟨ρ x,by unfold execOp;simp only [ho]⟩
 ·rename_i x i ho
  unfold execOp
  simp only [ho,Instr.extract]
  split
  ·split
   ·exact .inl ⟨_,rfl⟩
   exact .inr ⟨_,rfl⟩
  exact .inr ⟨_,rfl⟩
 cases h
theorem M3 (h:GJ late ops ops') (hf:su ops late=true) (hsel:l7 ops=true) (hQ:∀c (a a':Act) w,a.defers=a'.defers→Q (.panic c) a w→Q (.panic c) a' w):
 ∀(fuel:Nat) (listed:Array Bool) (a:Act) (w:World),listed.size=ops.size→wpAny P .any ops' Q fuel listed a w→wpAny P .any ops Q fuel listed a w:=by
 have hsub:∀listed i,i∈Region.ready .any ops' listed→i∈Region.ready .any ops listed:=by
  intro listed i hi
  rw [mem_ready] at hi ⊢
  obtain ⟨h1,o',h2,h3⟩:=hi
  rw [h i] at h2
  cases ho:ops[i]? with
  |none=>rw [ho] at h2;cases h2
  |some o=>
   rw [ho] at h2
   simp only [Option.map_some,osI] at h2
   obtain ⟨x,e⟩:=lM ops late i o
   refine ⟨h1,o,rfl,fun e' he hb=>h3 e' ?_ hb⟩
   rw [←h2,e];exact Array.mem_append_left _ he
 have vb:∀listed i,i∈Region.ready .any ops listed→i ∉ Region.ready .any ops' listed→∃p o,p∈late∧ops[p]?=some o∧p∈Region.ready .any ops' listed:=by
  intro listed i hi hn
  rw [mem_ready] at hi
  obtain ⟨h1,o,h2,h3⟩:=hi
  have hi2:∃p∈late,listed.getD p false=false∧Ei ops p o=true∧p<i:=by
   by_cases hc:∃p∈late,listed.getD p false=false∧Ei ops p o=true∧p<i
   ·exact hc
   exfalso;apply hn
   rw [mem_ready]
   refine ⟨h1,kG ops late i o,by rw [h i,h2];rfl,fun e he hb=>?_⟩
   unfold kG at he
   cases hl:late.contains i with
   |true=>rw [hl] at he;exact h3 e he hb
   |false=>
    rw [hl] at he
    simp only [cond_false] at he
    rcases Array.mem_append.1 he with he|he
    ·exact h3 e he hb
    simp only [List.mem_toArray,List.mem_map,List.mem_filter,Bool.and_eq_true] at he
    obtain ⟨p,⟨hp,MS,LB⟩,rfl⟩:=he
    simp only
    cases hg:listed.getD p false with
    |true=>rfl
    |false=>exact absurd ⟨p,hp,hg,LB,by simpa using MS⟩ hc
  obtain ⟨p,hp,hg,hto,hpi⟩:=hi2
  unfold Ei at hto
  cases ho:ops[p]? with
  |none=>rw [ho] at hto;cases hto
  |some q=>
   rw [ho] at hto
   refine ⟨p,q,hp,ho,?_⟩
   rw [mem_ready]
   have hps:p<listed.size∨listed.size≤p:=Nat.lt_or_ge _ _
   have XJ:listed.getD p true=false:=by
    rcases hps with hps|hps
    ·simp [hps] at hg ⊢;exact hg
    exfalso
    have LG:=h1
    have:i<listed.size:=by
     rcases Nat.lt_or_ge i listed.size with h|h
     ·exact h
     simp [h] at LG
    omega
   refine ⟨XJ,kG ops late p q,by rw [h p,ho];rfl,fun e he hb=>?_⟩
   have hc:late.contains p=true:=by simpa using hp
   unfold kG at he
   rw [hc] at he
   simp only [cond_true] at he
   rw [Array.all_eq_true_iff_forall_mem] at hto
   have:=hto e he
   rw [hb] at this
   simp only [Bool.not_true,Bool.false_or] at this
   rw [Array.any_eq_true] at this
   obtain ⟨k,hk,h5⟩:=this
   simp only [Bool.and_eq_true] at h5
   rw [←Nat.eq_of_beq_eq_true h5.2]
   exact h3 _ (Array.getElem_mem hk) h5.1
 intro fuel
 induction fuel with
 |zero=>
  intro listed a w _ hh
  simp only [wpAny] at hh ⊢
  refine ⟨?_,hh.2⟩
  rw [List.eq_nil_iff_forall_not_mem]
  intro i hi
  obtain ⟨p,o,_,_,hr⟩:=vb listed i hi (by rw [hh.1];simp)
  rw [hh.1] at hr;cases hr
 |succ fuel ih=>
  intro listed a w hsz hh
  by_cases hall:∀i∈Region.ready .any ops listed,i∈Region.ready .any ops' listed
  ·refine ⟨fun h0=>hh.1 ?_,fun i hi=>?_⟩
   ·rw [List.eq_nil_iff_forall_not_mem]
    intro i hi
    have:=hsub listed i hi
    rw [h0] at this;cases this
   exact wpOp_mono (fun a' w' h'=>ih _ a' w' (by simpa using hsz) h') ((AM h).1 (hh.2 i (hall i hi)))
  simp only [Classical.not_forall] at hall
  obtain ⟨i,hi,hn⟩:=hall
  obtain ⟨p,o,hp,ho,hr⟩:=vb listed i hi hn
  have h1:=(AM h).1 (hh.2 p hr)
  have PN:=hf
  unfold su at PN
  rw [List.all_eq_true] at PN
  have PN:=PN p hp
  rw [ho] at PN
  simp only [Bool.and_eq_true] at PN
  obtain ⟨⟨f1,f2⟩,f3⟩:=PN
  have wW:o.guard=none:=by cases XI:o.guard with
   |none=>rfl
   |some g=>rw [XI] at f2;cases f2
  rcases EC f1 a.eval with ⟨v,hv⟩|⟨m,hv⟩
  ·have h2:=AL ho wW hv h1
   have h3:=ih _ _ w (by simpa using hsz) h2
   have Jv:Yields P ops o v a:=.inl ⟨by unfold Region.wanted;rw [wW],fun w=>by rw [hv];rfl⟩
   refine wpAny_first ho ?_ (fun c a w hq=>hQ c _ _ w (by cases o.dst<;>rfl) hq) _ _ _ _ ?_ (hsub _ _ hr) Jv h3
   ·intro j q cs b hj e
    have hm:q∈ops:=Array.mem_of_getElem? hj
    rw [l7,Array.all_eq_true_iff_forall_mem] at hsel
    have:=hsel q hm
    rw [e] at this;cases this
   intro j q hj hjp hjl hno
   have dM:j<ops.size:=(Array.getElem?_eq_some_iff.1 hj).1
   rw [List.all_eq_true] at f3
   have:=f3 j (List.mem_range.2 dM)
   rw [hj] at this
   simp only [Bool.or_eq_true] at this
   rcases this with (h4|h4)|h4|h4
   ·exact absurd (Nat.eq_of_beq_eq_true h4) hjp
   ·exfalso
    rw [Array.any_eq_true] at h4
    obtain ⟨k,hk,h5⟩:=h4
    simp only [Bool.and_eq_true] at h5
    have Z8:=hsub _ _ hr
    rw [mem_ready] at Z8
    obtain ⟨_,o2,Z9,Yd⟩:=Z8
    rw [ho] at Z9;cases Z9
    have:=Yd _ (Array.getElem_mem hk) h5.1
    rw [Nat.eq_of_beq_eq_true h5.2] at this
    rcases Nat.lt_or_ge j listed.size with hl|hl
    ·simp [hl] at this hjl;rw [this] at hjl;cases hjl
    simp [hl] at this
   ·rw [Array.any_eq_true] at h4
    obtain ⟨k,hk,h5⟩:=h4
    simp only [Bool.and_eq_true] at h5
    exact absurd (Nat.eq_of_beq_eq_true h5.2) (hno _ (Array.getElem_mem hk) h5.1)
   exact h4
  exfalso
  unfold wpOp at h1
  have hw:Region.wanted o (Go.yielded ops a.tmps)=true:=by unfold Region.wanted;rw [wW]
  simp only [ho,hw,if_true] at h1
  rcases h1 with h1|⟨h1,_⟩
  ·unfold Oper.wp at h1;rw [hv] at h1;exact h1
  unfold Oper.asks at h1;rw [hv] at h1
  exact absurd h1.1 (by show noRoomEvent ∉ (#[]:Array Event);simp)
end
end Dem
end
section
open Go
namespace Dem
section
variable {P:Program} {T:Nat→Option TI} {G:Nat→Option (List D)} {N:Nat} {ds:List Deferred} {X:Nat→Prop}
variable {β0:Nat→Nat} {bz:List aA} {w0:World}
theorem M4 {ops:Array Oper} (hfit:gr ops (cg ops.toList []) 0 ops.toList=true) {m:Nat→Bool} (hd:Down ops m) {i j:Nat} {o p:Oper} (ho:ops[i]?=some o) (hp:ops[j]?=some p)
 (yB:m i=false) (XK:∀e∈o.after,Region.binds .any e=true→m e.on=true) (hj:(j<i∧m j=false)∨(i<j∧m j=true)):
 (∀d,p.dst=some d→d ∉ o.looksAt ops)∧(∀d,p.dst=some d→o.dst≠some d):=by
 rcases hj with ⟨hlt,hmj⟩|⟨hlt,hmj⟩
 ·have h:=(lJ hfit i o (by simpa using ho)).2 j (by omega)
  rw [Nat.zero_add] at h
  rcases h with h|⟨p',hp',h⟩
  ·have:=closed hd i o ho XK j h;rw [hmj] at this;cases this
  rw [hp] at hp';cases hp'
  obtain ⟨h1,h2,h3⟩:=Oper.apart_spec h
  exact ⟨h1,h2⟩
 have h:=(lJ hfit j p (by simpa using hp)).2 i (by omega)
 rw [Nat.zero_add] at h
 rcases h with h|⟨o',ho',h⟩
 ·have:=closed hd j p hp (hd j p hp hmj) i h;rw [yB] at this;cases this
 rw [ho] at ho';cases ho'
 obtain ⟨h1,h2,h3⟩:=Oper.apart_spec h
 exact ⟨h3,fun d VW he=>h2 d he VW⟩
theorem AN {m:Nat→Bool}:∀(cG:List It) (i:Nat) (sl:List (Nat×AV)),(∀j,j<cG.length→m (i+j)=false)→dI m i cG sl=sl
 |[],_,_,_=>rfl
 |it::r,i,sl,h=>by
  have h0:=h 0 (by simp)
  rw [Nat.add_zero] at h0
  simp only [dI,h0,cond_false]
  exact AN r (i+1) sl (fun j hj=>by have:=h (j+1) (by simpa using hj);rw [show i+1+j=i+(j+1) by omega];exact this)
theorem AO {m:Nat→Bool}:∀(cG:List It) (i:Nat) (bx:List aA),(∀j,j<cG.length→m (i+j)=false)→fm m i cG bx=bx
 |[],_,_,_=>rfl
 |it::r,i,bx,h=>by
  have h0:=h 0 (by simp)
  rw [Nat.add_zero] at h0
  simp only [fm,h0,cond_false]
  exact AO r (i+1) bx (fun j hj=>by have:=h (j+1) (by simpa using hj);rw [show i+1+j=i+(j+1) by omega];exact this)
theorem PO (hT:kH P T) {ops:Array Oper} (hfit:gr ops (cg ops.toList []) 0 ops.toList=true) {base:Nat} {Q:Ex→St→Prop}:
 ∀(fuel:Nat) (listed:Array Bool) (p k:Nat) (cG:List It) (s0:St) (β:Nat→Nat) (w:World) (a:Act),listed.size=ops.size→Down ops (at_ listed)→(∀x,x<p→at_ listed x=true)→(∀x,p+cG.length≤x→at_ listed x=false)→
  listed.toList.count false=fuel→p+cG.length≤ops.size→kW (base+k) cG→
  (∀j it,cG[j]?=some it→∃o,ops[p+j]?=some o∧ic N o.dst=true∧it.dst=o.dst∧Ve (bt P G) T G ops.toList o (dI tt p (cG.take j) s0.sl) s0.bx it)→
  ((
   p+cG.length=ops.size∧Q .normal ⟨dI tt p cG s0.sl,fm tt p cG s0.bx⟩)∨
   (∃k' o rest,ops.toList.drop (p+cG.length)=o::rest∧barrier (cg ops.toList []) (p+cG.length)=true∧ic N o.dst=true∧
    nN (bt P G) T G N ops.toList (cg ops.toList []) base s0.bx k' (p+cG.length) (o::rest) Q ⟨dI tt p cG s0.sl,fm tt p cG s0.bx⟩))→
  Ext β0 bz w0 β (fm (at_ listed) p cG s0.bx) w→Fr G N ds β w X ⟨dI (at_ listed) p cG s0.sl,fm (at_ listed) p cG s0.bx⟩ a→
  wpAny P .any ops (fY G N ds X β0 bz w0 Q) fuel listed a w:=by
 intro fuel
 induction fuel with
 |zero=>
  intro listed p k cG s0 β w a hsz hdn hlo hhi Ye hle x7 hit hend ex hF
  have hall:∀x,x<ops.size→at_ listed x=true:=by
   intro x hx
   have:=AK listed.toList Ye x (by simpa [hsz] using hx)
   unfold at_
   have h2:listed[x]?=some true:=by simpa using this
   simp [Array.getD_eq_getD_getElem?,h2]
  have hfull:p+cG.length=ops.size:=by
   rcases Nat.lt_or_ge (p+cG.length) ops.size with h|h
   ·have h1:=hall _ h;rw [hhi _ (Nat.le_refl _)] at h1;cases h1
   omega
  refine ⟨?_,?_⟩
  ·rw [List.eq_nil_iff_forall_not_mem]
   intro j hj
   obtain ⟨h1,o,h2,_⟩:=mem_ready.1 hj
   have hjl:j<ops.size:=(Array.getElem?_eq_some_iff.1 h2).1
   have:=hall j hjl
   unfold at_ at this
   simp only [Array.getD_eq_getD_getElem?] at this h1
   cases hq:listed[j]? with
   |none=>rw [hq] at this;simp at this
   |some v=>rw [hq] at this h1;simp at this h1;rw [this] at h1;cases h1
  rcases hend with ⟨_,hQ⟩|⟨k',o,rest,Yf,_⟩
  ·have e1:=kV (m:=at_ listed) (m':=tt) cG p s0.sl (fun j hj=>hall _ (by omega))
   have e2:=m7 (m:=at_ listed) (m':=tt) cG p s0.bx (fun j hj=>hall _ (by omega))
   rw [e1,e2] at hF;rw [e2] at ex
   exact ⟨β,_,ex,hF,hQ⟩
  rw [List.drop_eq_nil_of_le (by simp;omega)] at Yf;cases Yf
 |succ fuel ih=>
  intro listed p k cG s0 β w a hsz hdn hlo hhi Ye hle x7 hit hend ex hF
  refine ⟨?_,?_⟩
  ·intro hr
   exfalso
   have key:∀x,x<ops.size→at_ listed x=true:=by
    intro x
    induction x using Nat.strongRecOn with
    |_ x ihx=>
     intro hx
     cases hq:at_ listed x with
     |true=>rfl
     |false=>
      exfalso
      have ho:ops[x]?=some ops[x]:=by simp [hx]
      have hp:=(lJ hfit x ops[x] (by simp [hx])).1
      have:x∈Region.ready .any ops listed:=by
       refine mem_ready.2 ⟨?_,ops[x],ho,fun e he hb=>?_⟩
       ·unfold at_ at hq
        have hx':x<listed.size:=by omega
        simp [hx'] at hq ⊢;exact hq
       have:=hp e he hb
       exact ihx e.on (by omega) (by omega)
      rw [hr] at this;cases this
   have:listed.toList.count false=0:=by
    rw [List.count_eq_zero]
    intro hm
    obtain ⟨x,hx⟩:=List.mem_iff_getElem?.1 hm
    have OZ:x<listed.toList.length:=by
     rcases Nat.lt_or_ge x listed.toList.length with h|h
     ·exact h
     rw [List.getElem?_eq_none h] at hx;cases hx
    have:=key x (by simpa [hsz] using OZ)
    unfold at_ at this
    have h2:listed[x]?=some false:=by simpa using hx
    simp [Array.getD_eq_getD_getElem?,h2] at this
   omega
  intro i hi
  obtain ⟨hi1,o,ho,hp⟩:=mem_ready.1 hi
  have hin:i<ops.size:=(Array.getElem?_eq_some_iff.1 ho).1
  have hil:i<listed.size:=by omega
  have yB:at_ listed i=false:=by
   unfold at_
   simp [hil] at hi1 ⊢;exact hi1
  have XK:∀e∈o.after,Region.binds .any e=true→at_ listed e.on=true:=hp
  have hpi:p≤i:=by
   rcases Nat.lt_or_ge i p with h|h
   ·rw [hlo i h] at yB;cases yB
   exact h
  have SY:(listed.setIfInBounds i true).size=ops.size:=by simp [hsz]
  have Yg:Down ops (at_ (listed.setIfInBounds i true)):=by
   intro x ox hox hx e he hb
   rw [uc hil]
   by_cases hei:e.on=i
   ·simp [hei]
   rw [if_neg hei]
   rw [uc hil] at hx
   by_cases hxi:x=i
   ·subst hxi;rw [ho] at hox;cases hox;exact XK e he hb
   rw [if_neg hxi] at hx;exact hdn x ox hox hx e he hb
  have Vf:(listed.setIfInBounds i true).toList.count false=fuel:=by
   have h2:listed.toList[i]?=some false:=by
    unfold at_ at yB
    simp [hil] at yB
    simp [hil,yB]
   have:=count_set listed.toList i h2
   rw [Array.toList_setIfInBounds]
   omega
  rcases Nat.lt_or_ge i (p+cG.length) with hlt|hge
  ·
   obtain ⟨j,rfl⟩:∃j,i=p+j:=⟨i-p,by omega⟩
   have hj:j<cG.length:=by omega
   have XL:cG[j]?=some cG[j]:=by simp [hj]
   obtain ⟨o',ho',hd,GG,hy⟩:=hit j _ XL
   rw [ho] at ho';cases ho'
   have hun:∀(j:Nat) (it:It) (y:Nat) (cs:aA),cG[j]?=some it→it.bi=some (y,cs)→s0.bx[y]?=some .bq:=by
    intro j' it' y cs hj' hb
    obtain ⟨_,_,_,_,h|h|h⟩:=hit j' it' hj'
    ·obtain ⟨x,cs',h1,h2,_⟩:=h
     rw [h1] at hb;cases hb;exact h2
    ·rw [h.1] at hb;cases hb
    rw [h.1] at hb;cases hb
   have Jw:∀(j':Nat) (it':It),cG[j']?=some it'→((j'<j∧at_ listed (p+j')=false)∨(j<j'∧at_ listed (p+j')=true))→
    (∀d,it'.dst=some d→d ∉ o.looksAt ops)∧(∀d,it'.dst=some d→o.dst≠some d):=by
    intro j' it' hj' hc
    obtain ⟨p',hp',_,Yh,_⟩:=hit j' it' hj'
    rw [Yh]
    exact M4 hfit hdn ho hp' yB XK (hc.imp (fun h=>⟨by omega,h.2⟩) (fun h=>⟨by omega,h.2⟩))
   have Yi:∀t∈o.looksAt ops,fW t (dI tt p (cG.take j) s0.sl)=fW t (dI (at_ listed) p cG s0.sl):=by
    intro t ht
    have e:dI tt p (cG.take j) s0.sl=dI (fun x=>decide (x<p+j)) p cG s0.sl:=AH cG p j s0.sl
    rw [e]
    refine qL cG p _ _ rfl ?_
    intro j' it' hj' hdt
    rcases Nat.lt_trichotomy j' j with h|h|h
    ·rw [decide_eq_true (by omega)]
     cases hq:at_ listed (p+j') with
     |true=>rfl
     |false=>exact absurd ht ((Jw j' it' hj' (.inl ⟨h,hq⟩)).1 t hdt)
    ·subst h
     rw [decide_eq_false (by omega),yB]
    rw [decide_eq_false (by omega)]
    cases hq:at_ listed (p+j') with
    |false=>rfl
    |true=>exact absurd ht ((Jw j' it' hj' (.inr ⟨h,hq⟩)).1 t hdt)
   have hy':=hy.Cy (bx:=fm (at_ listed) p cG s0.bx) Yi (GF cG p s0.bx (lI.refl _) hun) (by
    intro x cs hb
    rw [Dh cG p s0.bx ?_]
    ·exact hun j _ x cs XL hb
    intro j' it' y cs' hj' hm hb'
    refine x7.apart hj' hb' XL hb ?_
    rintro rfl
    rw [yB] at hm;cases hm)
   refine PL hT ho hF hy' hd ?_
   intro β' a' w' qd Ta
   have hm':∀x,x≠p+j→at_ (listed.setIfInBounds (p+j) true) x=at_ listed x:=fun x hx=>by rw [uc hil,if_neg hx]
   have hB:fm (at_ (listed.setIfInBounds (p+j) true)) p cG s0.bx=qK cG[j] (fm (at_ listed) p cG s0.bx):=by
    refine AJ cG p j cG[j] s0.bx XL yB (by rw [uc hil,if_pos rfl]) hm' ?_
    intro j' it' y cs x cs0 hj' hne hb' hb0
    exact x7.apart hj' hb' XL hb0 hne
   refine ih _ p k cG s0 β' w' a' SY Yg (fun x hx=>by rw [hm' x (by omega)];exact hlo x hx) (fun x hx=>by rw [hm' x (by omega)];exact hhi x hx) Vf hle x7 hit hend (by rw [hB];exact ex.trans qd) ?_
   rw [hB]
   refine Ta.Cy (fun t=>?_)
   rw [←GG]
   refine (AI cG p j cG[j] s0.sl XL yB (by rw [uc hil,if_pos rfl]) hm' ?_).symm
   intro j' it' hj' hlt' hm d hd0 VW
   rw [GG] at hd0
   exact (Jw j' it' hj' (.inr ⟨hlt',hm⟩)).2 d VW hd0
  rcases hend with ⟨hfull,_⟩|⟨k',o',rest,Yf,Yj,hd,hop⟩
  ·omega
  obtain ⟨wG,uI⟩:=EA Yj
  have hiq:i=p+cG.length:=by
   rcases Nat.lt_or_ge (p+cG.length) i with h|h
   ·have h1:=closed hdn i o ho XK _ (uI i h (by rw [qN];simpa using hin))
    rw [hhi _ (Nat.le_refl _)] at h1;cases h1
   omega
  subst hiq
  have hoo:o'=o:=by
   have:=congrArg (fun l=>l[0]?) Yf
   simp only [List.getElem?_drop,Nat.add_zero,List.getElem?_cons_zero] at this
   have h3:ops.toList[p+cG.length]?=ops[p+cG.length]?:=by simp
   rw [h3,ho] at this;cases this;rfl
  subst hoo
  have pV:rest=ops.toList.drop (p+cG.length+1):=by
   have:=congrArg (List.drop 1) Yf
   simpa [List.drop_drop] using this.symm
  have hall:∀x,x<p+cG.length→at_ listed x=true:=fun x hx=>closed hdn _ o' ho XK x (wG x hx)
  have e1:=kV (m:=at_ listed) (m':=tt) cG p s0.sl (fun j hj=>hall _ (by omega))
  have e2:=m7 (m:=at_ listed) (m':=tt) cG p s0.bx (fun j hj=>hall _ (by omega))
  rw [e1,e2] at hF;rw [e2] at ex
  have next:∀(s1:St) (β':Nat→Nat) (w':World) (a':Act),nN (bt P G) T G N ops.toList (cg ops.toList []) base s1.bx k' (p+cG.length+1) rest Q s1→Ext β0 bz w0 β' s1.bx w'→Fr G N ds β' w' X s1 a'→
   wpAny P .any ops (fY G N ds X β0 bz w0 Q) fuel (listed.setIfInBounds (p+cG.length) true) a' w':=by
   intro s1 β' w' a' h1 Ao FK
   obtain ⟨VZ,k1,g1,g2,g3,g4⟩:=tZ _ _ _ _ h1
   have hlen:rest.length=ops.size-(p+cG.length+1):=by rw [pV];simp
   have wT:∀j:Nat,rest[j]?=ops[p+cG.length+1+j]?:=by intro j;rw [pV];simp
   have Vg:∀x,p+cG.length+1≤x→at_ (listed.setIfInBounds (p+cG.length) true) x=false:=by
    intro x hx;rw [uc hil,if_neg (by omega)];exact hhi x (by omega)
   have f1:=AN (m:=at_ (listed.setIfInBounds (p+cG.length) true)) VZ (p+cG.length+1) s1.sl (fun j _=>Vg _ (by omega))
   have f2:=AO (m:=at_ (listed.setIfInBounds (p+cG.length) true)) VZ (p+cG.length+1) s1.bx (fun j _=>Vg _ (by omega))
   refine ih _ (p+cG.length+1) k' VZ s1 β' w' a' SY Yg ?_ (fun x hx=>Vg x (by omega)) Vf (by omega) g1 ?_ ?_ (by rw [f2];exact Ao) (by rw [f1,f2];exact FK)
   ·intro x hx
    rw [uc hil]
    by_cases hxq:x=p+cG.length
    ·simp [hxq]
    rw [if_neg hxq];exact hall x (by omega)
   ·intro j it hj
    obtain ⟨o2,q1,q2,q3,q4⟩:=g3 j it hj
    exact ⟨o2,by rw [←wT];exact q1,q2,q3,q4⟩
   rcases g4 with ⟨q1,q2⟩|⟨o2,Yk,q1,q2,q3,q4⟩
   ·exact .inl ⟨by omega,q2⟩
   exact .inr ⟨k1,o2,Yk,by rw [pV,List.drop_drop] at q1;exact q1,q2,q3,q4⟩
  unfold nN at hop
  simp only [hd,cond_true,Yj] at hop
  unfold wpOp
  rw [ho]
  simp only
  split at hop
  ·rename_i hg
   rw [if_pos (by simp [Region.wanted,hg])]
   refine .inl (m6 hT hF hop ?_ ?_)
   ·intro β' aL w' v u qd mS hv hK
    exact next ⟨eN o'.dst v _,aL⟩ β' w' _ hK (ex.trans qd) (hF.put qd mS hd hv)
   intro β' aL w' v u qd mS hv hK
   exact ⟨β',aL,v,u,rfl,ex.trans qd,mS,hv,hF.defers,hK⟩
  rename_i j want hg
  split at hop
  ·rename_i g I0
   have hy:=lH hF I0
   cases g with
   |true=>
    rw [if_pos (by simp only [Region.wanted,hg];exact hy)]
    refine .inl (yo hT hF hop ?_)
    rintro β' aL w' v u qd mS hv ⟨hK,rfl⟩
    refine next ⟨eN o'.dst (.cond true v) _,_⟩ β' w' _ hK (ex.trans qd) (hF.put qd mS hd ?_)
    simp only [aj];exact ⟨fun _=>hv,by simp⟩
   |false=>
    rw [if_neg (by simp only [Region.wanted,hg];rw [hy];simp)]
    obtain ⟨v,hK⟩:=Az hop
    refine next ⟨eN o'.dst (.cond false v) _,_⟩ β w _ hK ex (hF.put (Ext.refl _ _ _) hF.cx hd ?_)
    simp only [aj];simp
  exact hop.elim
variable {β:Nat→Nat} {bx:List aA} {w:World}
theorem oU {n i:Nat} {b:aA} (h:(bx++List.replicate n .bq)[i]?=some b):bx[i]?=some b∨b=.bq:=by
 rcases Nat.lt_or_ge i bx.length with hl|hl
 ·rw [List.getElem?_append_left hl] at h;exact .inl h
 rw [List.getElem?_append_right hl,List.getElem?_replicate] at h
 split at h
 ·exact .inr (by simpa using h.symm)
 cases h
theorem uf (n:Nat):Ext β bx w β (bx++List.replicate n .bq) w:=by
 refine ⟨rfl,rfl,rfl,Nat.le_refl _,fun _ _ _=>rfl,fun _ c _ _ h=>⟨c,h,rfl⟩,?_,?_⟩
 ·rintro i ⟨b,h1,h2⟩
  exact ⟨rfl,b,by rw [List.getElem?_append_left (jz h1)];exact h1,h2⟩
 intro i b h hl
 rcases oU h with h1|rfl
 ·exact .inr ⟨i,b,h1,hl,rfl⟩
 simp [aA.live] at hl
theorem Jx (cx:cF G β bx w X) (n:Nat):cF G β (bx++List.replicate n .bq) w X:=by
 refine cx.step (uf n) ?_ ?_
 ·intro i b h
  rcases oU h with h1|rfl
  ·exact .inl ⟨h1,fun _=>rfl⟩
  exact .inr trv
 intro i j bi bj hi hj mT oQ he
 rcases oU hi with h1|rfl<;>rcases oU hj with h2|rfl
 ·exact cx.inj i j bi bj h1 h2 mT oQ he
 ·simp [aA.live] at oQ
 ·simp [aA.live] at mT
 simp [aA.live] at mT
def kj (l l':List Oper):Prop:=l'.length=l.length∧∀(j:Nat) (o o':Oper),l[j]?=some o→l'[j]?=some o'→o'.op=o.op∧o'.dst=o.dst∧o'.guard=o.guard
theorem kj.tail {o o':Oper} {l l':List Oper} (h:kj (o::l) (o'::l')):kj l l':=⟨by simpa using h.1,fun j p p' h1 h2=>h.2 (j+1) p p' (by simpa using h1) (by simpa using h2)⟩
theorem Cz {ops ops':List Oper} (h:kj ops ops') (sl:List (Nat×AV)) (j:Nat) (want:Bool):guardOf sl ops' j want=guardOf sl ops j want:=by
 unfold guardOf
 cases ho:ops[j]? with
 |none=>
  have:ops'[j]?=none:=by rw [List.getElem?_eq_none_iff] at ho ⊢;rw [h.1];exact ho
  rw [this]
 |some o=>
  have hj:j<ops'.length:=by rw [h.1];exact (List.getElem?_eq_some_iff.1 ho).1
  have:=h.2 j o ops'[j] ho (List.getElem?_eq_getElem hj)
  rw [List.getElem?_eq_getElem hj]
  simp only
  rw [this.2.1]
theorem AP {FC:Nat→List AV→List aA→iB→List aA→Prop} {ops ops':List Oper} (V0:kj ops ops') {b:List Nat} {base:Nat} {Q:Ex→St→Prop}:∀(l l':List Oper) (iw:List aA) (k i:Nat) (s:St),kj l l'→nN FC T G N ops' b base iw k i l' Q s=nN FC T G N ops b base iw k i l Q s
 |[],[],_,_,_,_,_=>rfl
 |[],_::_,_,_,_,_,h=>by have:=h.1;simp at this
 |_::_,[],_,_,_,_,h=>by have:=h.1;simp at this
 |o::l,o'::l',iw,k,i,s,h=>by
  obtain ⟨e1,e2,e3⟩:=h.2 0 o o' rfl rfl
  have hb:iC T G s.sl o'=iC T G s.sl o:=by unfold iC;rw [e1,e3]
  have hu:∀s K Q,qu FC T G o' s K Q=qu FC T G o s K Q:=fun s K Q=>by unfold qu;rw [e1]
  have hg:∀g s K,stepG FC T G g o' s K=stepG FC T G g o s K:=fun g s K=>by unfold stepG wJ;rw [e1]
  have hc:∀sl iw x K,l8 FC G o' sl iw x K=l8 FC G o sl iw x K:=fun sl iw x K=>by unfold l8;rw [e1]
  have ih:=fun iw k i s=>AP (FC:=FC) (ops:=ops) (ops':=ops') V0 (b:=b) (base:=base) (Q:=Q) l l' iw k i s h.tail
  simp only [nN,e2,e3,hb,hu,hg,hc,ih,Cz V0]
theorem GK (pre:List Nat) (l:List Oper):kj l (bI pre 0 l):=by
 refine ⟨kJ pre l 0,fun j o o' h1 h2=>?_⟩
 rw [mD,h1] at h2
 simp only [Option.map_some,osI] at h2
 subst h2
 obtain ⟨e1,e2,e3,_⟩:=lK pre (0+j) o
 exact ⟨e1,e2,e3⟩
theorem wX (a:Array Oper) (late:List Nat):∀(l:List Oper) (i j:Nat),(gy a late i l)[j]?=(l[j]?).map (kG a late (i+j))
 |[],_,_=>by simp [gy]
 |o::r,i,0=>by simp [gy]
 |o::r,i,j+1=>by
  simp only [gy,List.getElem?_cons_succ]
  rw [wX a late r (i+1) j,show i+1+j=i+(j+1) by omega]
theorem oV (a:Array Oper) (late:List Nat):∀(l:List Oper) (i:Nat),(gy a late i l).length=l.length
 |[],_=>rfl
 |o::r,i=>by simp [gy,oV a late r]
theorem sF (a:Array Oper):∀(l:List Oper) (i:Nat),gy a [] i l=l
 |[],_=>rfl
 |o::r,i=>by simp only [gy,sF a r];simp [kG]
theorem Jy (a:Array Oper) (late:List Nat) (l:List Oper):kj l (gy a late 0 l):=by
 refine ⟨oV a late l 0,fun j o o' h1 h2=>?_⟩
 rw [wX,h1] at h2
 simp only [Option.map_some,osI] at h2
 subst h2
 obtain ⟨x,e⟩:=lM a late (0+j) o
 rw [e];exact ⟨rfl,rfl,rfl⟩
theorem kj.trans {l l' l'':List Oper} (h:kj l l') (g:kj l' l''):kj l l'':=by
 refine ⟨g.1.trans h.1,fun j o o'' h1 h2=>?_⟩
 have hj:j<l'.length:=by rw [h.1];exact (List.getElem?_eq_some_iff.1 h1).1
 obtain ⟨a1,a2,a3⟩:=h.2 j o l'[j] h1 (List.getElem?_eq_getElem hj)
 obtain ⟨b1,b2,b3⟩:=g.2 j l'[j] o'' (List.getElem?_eq_getElem hj) h2
 exact ⟨b1.trans a1,b2.trans a2,b3.trans a3⟩
theorem oW (ops:Array Oper):∀(pre done:List Nat),iI ops done pre=true→pre.Nodup∧(∀p∈pre,p ∉ done)∧∀p∈pre,p<ops.size
 |[],_,_=>⟨List.nodup_nil,by simp,by simp⟩
 |p::r,done,h=>by
  unfold iI at h
  cases ho:ops[p]? with
  |none=>simp [ho] at h
  |some o=>
   simp only [ho,Bool.and_eq_true] at h
   obtain ⟨⟨⟨⟨f1,_⟩,_⟩,_⟩,f5⟩:=h
   obtain ⟨g1,g2,g3⟩:=oW ops r _ f5
   refine ⟨List.nodup_cons.2 ⟨fun hp=>g2 p hp (by simp),g1⟩,?_,?_⟩
   ·intro q hq;rcases List.mem_cons.1 hq with rfl|hq
    ·simpa using f1
    exact fun hh=>g2 q hq (by simp [hh])
   intro q hq;rcases List.mem_cons.1 hq with rfl|hq
   ·exact (Array.getElem?_eq_some_iff.1 ho).1
   exact g3 q hq
theorem GL (t u:Nat) (v:AV):∀l:List (Nat×AV),fW t (SJ u v l)=bif Nat.beq t u then v else fW t l
 |[]=>rfl
 |(s,x)::r=>by
  simp only [SJ]
  cases h1:Nat.beq u s with
  |true=>
   have:=Nat.eq_of_beq_eq_true h1;subst this
   simp only [cond_true,fW]
   cases Nat.beq t u<;>rfl
  |false=>
   simp only [cond_false]
   cases h2:Nat.blt u s with
   |true=>rfl
   |false=>
    simp only [cond_false,fW]
    rw [GL t u v r]
    cases h3:Nat.beq t s with
    |false=>simp
    |true=>
     have:=Nat.eq_of_beq_eq_true h3;subst this
     have:Nat.beq t u=false:=by
      cases h:Nat.beq t u with
      |false=>rfl
      |true=>have:=Nat.eq_of_beq_eq_true h;subst this;rw [h] at h1;cases h1
     simp [this]
theorem AQ (t:Nat):∀l:List (Nat×AV),fW t (Cu l)=fW t l
 |[]=>rfl
 |(u,v)::r=>by rw [Cu,GL,AQ t r];rfl
section
variable {N:Nat} {ds:List Deferred} {X:Nat→Prop} {β0:Nat→Nat} {bz:List aA} {w0:World}
theorem qO (hT:kH P T) {ops ops':Array Oper} {pre:List Nat} (GM:nV pre ops ops') {QQ:Exit→Act→World→Prop} {Q:Ex→St→Prop} {i:Nat} {KS:St→Prop} {NX:Act→World→Prop} {β:Nat→Nat} {w:World} {s:St} {a:Act} (ex:Ext β0 bz w0 β s.bx w) (hF:Fr G N ds β w X s a)
 (hp:∀β bx v u w a,Ext β0 bz w0 β bx w→cF G β bx w X→aj β bx w (bf β bx w X) v u→a.defers=ds→Q (.panic v) ⟨[],bx⟩→QQ (.panic [{v:=u,recovered:=false}]) a w)
 (h:xZ (bt P G) T G N ops.toList i KS Q s) (hn:∀β w s a,Ext β0 bz w0 β s.bx w→Fr G N ds β w X s a→KS s→NX a w):wpOp P ops' QQ i NX a w:=by
 rw [ue GM]
 unfold xZ at h
 unfold wpOp
 simp only [Array.getElem?_toList] at h
 cases ho:ops[i]? with
 |none=>rw [ho] at h;exact h.elim
 |some o=>
  rw [ho] at h
  simp only at h ⊢
  cases hd:ic N o.dst with
  |false=>rw [hd] at h;exact h.elim
  |true=>
   rw [hd] at h
   simp only [cond_true] at h
   have MK:∀{s1:St},s1=s→PC G β s1.bx w X a (fun v bx=>Q (.panic v) ⟨[],bx⟩) QQ:=fun e β' aL w' v u qd mS hv hK=>by subst e;exact hp β' aL v u w' a (ex.trans qd) mS hv hF.defers hK
   split at h
   ·rename_i hg
    rw [if_pos (by unfold Region.wanted;rw [hg])]
    exact .inl (m6 hT hF h (fun β' aL w' v u qd mS hv hK=>hn β' w' ⟨eN o.dst v s.sl,aL⟩ _ (ex.trans qd) (hF.put qd mS hd hv) hK) (MK rfl))
   rename_i j want hg
   split at h
   ·rename_i g I0
    have hy:=lH hF I0
    obtain ⟨h⟩:=h
    cases g with
    |true=>
     rw [if_pos (by simp only [Region.wanted,hg];exact hy)]
     refine .inl (m6 hT hF (h.1 rfl) (fun β' aL w' v u qd mS hv hK=>hn β' w' ⟨eN o.dst (.cond true v) s.sl,aL⟩ _ (ex.trans qd) (hF.put qd mS hd ?_) hK) (MK rfl))
     simp only [aj];exact ⟨fun _=>hv,by simp⟩
    |false=>
     rw [if_neg (by simp only [Region.wanted,hg];rw [hy];simp)]
     refine hn β w ⟨eN o.dst (.cond false .any) s.sl,s.bx⟩ _ ex (hF.put (Ext.refl _ _ _) hF.cx hd ?_) (h.2 rfl)
     simp only [aj];simp
   exact h.elim
theorem vt (hT:kH P T) {ops ops':Array Oper} {pre:List Nat} (GM:nV pre ops ops') {R:St→Prop} {QQ:Exit→Act→World→Prop} {Q:Ex→St→Prop}
 (hp:∀β bx v u w a,Ext β0 bz w0 β bx w→cF G β bx w X→aj β bx w (bf β bx w X) v u→a.defers=ds→Q (.panic v) ⟨[],bx⟩→QQ (.panic [{v:=u,recovered:=false}]) a w)
 (hR:∀β w s a,Ext β0 bz w0 β s.bx w→Fr G N ds β w X s a→R s→QQ .normal a w):∀(tr:OT) (n:Nat) (listed:Array Bool) (β:Nat→Nat) (w:World) (s:St) (a:Act),Ext β0 bz w0 β s.bx w→Fr G N ds β w X s a→
  MM (bt P G) T G N ops.toList Q R tr s→tr.depth≤n→
  (tr.fit ops' true listed=true→wpAny P .any ops' QQ n listed a w)∧
  (tr.fit ops' false listed=true→∀i∈tr.Lt,wpOp P ops' QQ i (wpAny P .any ops' QQ (n-1) (listed.setIfInBounds i true)) a w)
 |.done,n,listed,β,w,s,a,ex,hF,h,_=>by
  refine ⟨fun hf=>?_,fun _ i hi=>by cases hi⟩
  simp only [OT.fit,Bool.not_true,Bool.false_or] at hf
  exact wpAny_done (List.isEmpty_iff.1 hf) (hR β w s a ex hF h) n
 |.one i o,n,listed,β,w,s,a,ex,hF,h,hd=>by
  simp only [OT.depth] at hd
  obtain ⟨m,rfl⟩:∃m,n=m+1:=⟨n-1,by omega⟩
  have key:o.fit ops' true (listed.setIfInBounds i true)=true→wpOp P ops' QQ i (wpAny P .any ops' QQ m (listed.setIfInBounds i true)) a w:=fun hf=>
   qO hT GM ex hF hp h fun β w s a ex hF hK=>(vt hT GM hp hR o m _ β w s a ex hF hK (by omega)).1 hf
  refine ⟨fun hf=>?_,fun hf j hj=>?_⟩
  ·simp only [OT.fit,Bool.not_true,Bool.false_or,Bool.and_eq_true,beq_iff_eq] at hf
   exact wpAny_all hf.1 (by simp) fun j hj=>by simp at hj;subst hj;exact key hf.2
  simp only [OT.fit,Bool.not_false,Bool.true_or,Bool.true_and] at hf
  simp only [OT.Lt,List.mem_singleton] at hj
  subst hj;exact key hf
 |.more i o r,n,listed,β,w,s,a,ex,hF,h,hd=>by
  simp only [OT.depth] at hd
  obtain ⟨m,rfl⟩:∃m,n=m+1:=⟨n-1,by omega⟩
  have key:o.fit ops' true (listed.setIfInBounds i true)=true→wpOp P ops' QQ i (wpAny P .any ops' QQ m (listed.setIfInBounds i true)) a w:=fun hf=>
   qO hT GM ex hF hp h.1 fun β w s a ex hF hK=>(vt hT GM hp hR o m _ β w s a ex hF hK (by omega)).1 hf
  have rest:=(vt hT GM hp hR r (m+1) listed β w s a ex hF h.2 (by omega)).2
  refine ⟨fun hf=>?_,fun hf j hj=>?_⟩
  ·simp only [OT.fit,Bool.not_true,Bool.false_or,Bool.and_eq_true,beq_iff_eq] at hf
   refine wpAny_all hf.1 (by simp) fun j hj=>?_
   rcases List.mem_cons.1 hj with rfl|hj
   ·exact key hf.2.1
   exact rest hf.2.2 j hj
  simp only [OT.fit,Bool.not_false,Bool.true_or,Bool.true_and,Bool.and_eq_true] at hf
  rcases List.mem_cons.1 hj with rfl|hj
  ·exact key hf.1
  exact rest hf.2 j hj
end
theorem GN (hT:kH P T) (hm:P.follows .mixedOrders=true) {N:Nat} {ds:List Deferred} {X:Nat→Prop} {β0:Nat→Nat} {bz:List aA} {w0:World} {id:Nat} {fo:Array Oper} {Q:Ex→St→Prop} {β:Nat→Nat} {w:World} {s:St} {a:Act} (ex:Ext β0 bz w0 β s.bx w) (hF:Fr G N ds β w X s a)
 (h:U2 (bt P G) T G N fo.toList Q s):(Code.region id fo true).wp P (fY G N ds X β0 bz w0 Q) a w:=by
 obtain ⟨pre,tr,s1,⟨MS,LB,hp3⟩,hft,hx,hpost⟩:=h
 unfold OT.fits at hft
 rw [Bool.and_eq_true] at hft
 simp only [Array.length_toList] at hft
 refine wp_region_any hm ?_
 have GM:nV pre fo (bI pre 0 fo.toList).toArray:=by intro j;simp [mD]
 have hsame:=fB w
 have M5:Fr G N ds β {w with drawn:=w.drawn+1} X s a:=⟨qw hF.cx hsame,hF.defers,hF.size,fun t=>aj.mono ((jh hsame).eT X) _ _ (hF.yl t)⟩
 have hgoal:=(vt (X:=X) hT GM (QQ:=fY G N ds X β0 bz w0 Q) (fun β bx v u w a ex cx hv hd hq=>⟨β,bx,v,u,rfl,ex,cx,hv,hd,hq⟩) (fun β w s a ex hF hR=>by
  subst hR
  exact ⟨β,⟨Cu s.sl,s.bx⟩,ex,hF.Cy fun t=>(AQ t s.sl).symm,hpost⟩) tr fo.size (Array.replicate fo.size false) β _ s a (ex.trans (jh hsame)) M5 hx (Nat.le_of_ble_eq_true hft.1)).1 hft.2
 have PR:iI fo [] pre=true:=by simpa using MS
 obtain ⟨n1,n2,n3⟩:=oW _ _ _ PR
 have hle:pre.length≤fo.size:=by
  have:=List.Nodup.length_le_of_subset n1 (fun p hp=>List.mem_range.2 (n3 p hp):pre ⊆ List.range fo.size)
  simpa using this
 obtain ⟨fuel,hfuel⟩:∃fuel,fo.size=pre.length+fuel:=⟨fo.size-pre.length,by omega⟩
 rw [hfuel] at hgoal ⊢
 have wT:∀p,p<pre.length+fuel→(Array.replicate (pre.length+fuel) false).getD p true=false:=by intro p hp;simp [hp]
 refine wV (G:=G) (N:=N) GM (by simpa using LB) ?_ fuel _ pre [] _ a s.sl PR hp3 ?_ hF.size (by simp) (fun p hp _=>wT p (by have:=n3 p hp;omega)) (fun p hp=>.inr hp) (fun p hp=>hp) (by simp [hfuel]) n1 hgoal
 ·intro c a a' w ha hq
  simp only [fY] at hq ⊢
  obtain ⟨β,bx,v,u,h1,h2,h3,h4,h5,h6⟩:=hq
  exact ⟨β,bx,v,u,h1,h2,h3,h4,ha.symm.trans h5,h6⟩
 intro t k z hk
 have:=hF.yl t
 rw [hk] at this
 simpa only [aj,aJ] using this
section
variable {P:Program} {T:Nat→Option TI} {G:Nat→Option (List D)} {N:Nat} {ds:List Deferred} {X:Nat→Prop}
variable {β0:Nat→Nat} {bz:List aA} {w0:World}
theorem PS:∀{l m:List Bool},XD l m=true→l=m
 |[],[],_=>rfl
 |a::l,b::m,h=>by
  simp only [XD,Bool.and_eq_true,beq_iff_eq] at h
  rw [h.1,PS h.2]
 |[],_::_,h=>by simp [XD] at h
 |_::_,[],h=>by simp [XD] at h
theorem GO {k i:Nat}:∀{l:List (Nat×Nat)},O8 k i l=true→(k,i)∈l
 |[],h=>by simp [O8] at h
 |(p,j)::r,h=>by
  simp only [O8,Bool.or_eq_true,Bool.and_eq_true,Nat.beq_eq] at h
  rcases h with ⟨rfl,rfl⟩|h
  ·exact List.mem_cons_self ..
  exact List.mem_cons_of_mem _ (GO h)
theorem ED {ops:Array Oper} {pl:List Nd} {z:Nat}:∀{l:List Nd} {k j:Nat} {nd:Nd},O9 ops pl z k l=true→l[j]?=some nd→
 (Region.ready .any ops nd.ls.toArray=[]∧k+j=z)∨(Region.ready .any ops nd.ls.toArray≠[]∧∀i∈Region.ready .any ops nd.ls.toArray,i<nd.ls.length∧nd.ls[i]?=some false∧∃e∈pl,e.ls=nd.ls.set i true∧(k+j,i)∈e.ps)
 |[],_,_,_,_,h=>by simp at h
 |x::l,k,0,nd,h,hj=>by
  simp only [List.getElem?_cons_zero,osI] at hj
  subst hj
  simp only [O9,Bool.and_eq_true] at h
  have h:=h.1
  split at h
  ·rename_i g;exact .inl ⟨g,by simpa using Nat.eq_of_beq_eq_true h⟩
  rename_i rs g
  refine .inr ⟨fun e=>g e,fun i hi=>?_⟩
  have:=List.all_eq_true.1 h i hi
  simp only [Bool.and_eq_true,beq_iff_eq,List.any_eq_true] at this
  obtain ⟨⟨h1,h2⟩,e,he,h3,h4⟩:=this
  have h1:i<x.ls.length:=Nat.le_of_ble_eq_true h1
  refine ⟨h1,?_,e,he,PS h3,GO h4⟩
  rw [List.getD_eq_getElem?_getD,List.getElem?_eq_getElem h1] at h2
  rw [List.getElem?_eq_getElem h1]
  simpa using h2
 |x::l,k,j+1,nd,h,hj=>by
  simp only [List.getElem?_cons_succ] at hj
  simp only [O9,Bool.and_eq_true] at h
  have:=ED h.2 hj
  rw [show k+(j+1)=k+1+j by omega]
  exact this
theorem GP {FC:Nat→List AV→List aA→iB→List aA→Prop} {ops:List Oper} {Q:Ex→St→Prop} {S:List St} {s s0:St} {p i:Nat}:∀{l:List (Nat×Nat)},FQ FC T G N ops Q S s l→(p,i)∈l→S[p]?=some s0→xZ FC T G N ops i (fun s1=>(⟨Cu s1.sl,s1.bx⟩:St)=s) Q s0
 |[],_,h,_=>by simp at h
 |(q,j)::r,h,hm,hs=>by
  rcases List.mem_cons.1 hm with e|hm
  ·obtain ⟨rfl,rfl⟩:=Prod.mk.inj e
   have:=h.1
   rw [hs] at this
   exact this
  exact GP h.2 hm hs
theorem LO {FC:Nat→List AV→List aA→iB→List aA→Prop} {ops:List Oper} {Q:Ex→St→Prop} {S:List St}:∀{l:List Nd} {k j:Nat} {nd:Nd},allM FC T G N ops Q S k l→l[j]?=some nd→∃s,S[k+j]?=some s∧FQ FC T G N ops Q S s nd.ps
 |[],_,_,_,_,h=>by simp at h
 |x::l,k,0,nd,h,hj=>by
  simp only [List.getElem?_cons_zero,osI] at hj
  subst hj
  have:=h.1
  split at this
  ·rename_i s g;exact ⟨s,g,this⟩
  exact this.elim
 |x::l,k,j+1,nd,h,hj=>by
  simp only [List.getElem?_cons_succ] at hj
  obtain ⟨s,g1,g2⟩:=LO h.2 hj
  exact ⟨s,by rw [←g1];congr 1;omega,g2⟩
theorem ug:∀{l:List Bool} {i:Nat},l[i]?=some false→(l.set i true).count false+1=l.count false
 |[],_,h=>by simp at h
 |a::l,0,h=>by
  simp only [List.getElem?_cons_zero,osI] at h
  subst h
  simp
 |a::l,i+1,h=>by
  simp only [List.getElem?_cons_succ] at h
  have:=ug h
  simp only [List.set_cons_succ,List.count_cons]
  omega
theorem PU (hT:kH P T) {ops:Array Oper} {pl:List Nd} {S:List St} {QQ:Exit→Act→World→Prop} {Q:Ex→St→Prop} (GM:nV [] ops ops) (hfit:Ls ops pl=true)
 (hp:∀β bx v u w a,Ext β0 bz w0 β bx w→cF G β bx w X→aj β bx w (bf β bx w X) v u→a.defers=ds→Q (.panic v) ⟨[],bx⟩→QQ (.panic [{v:=u,recovered:=false}]) a w)
 (hm:allM (bt P G) T G N ops.toList Q S 1 pl)
 (hR:∀β w s a,Ext β0 bz w0 β s.bx w→Fr G N ds β w X s a→S[pl.length]?=some s→QQ .normal a w):∀(n k:Nat) (nd:Nd) (s:St) (β:Nat→Nat) (w:World) (a:Act),
  (⟨List.replicate ops.size false,[]⟩::pl:List Nd)[k]?=some nd→S[k]?=some s→Ext β0 bz w0 β s.bx w→Fr G N ds β w X s a→nd.ls.count false≤n→wpAny P .any ops QQ n nd.ls.toArray a w:=by
 intro n
 induction n with
 |zero=>
  intro k nd s β w a hk hs ex hF hc
  rcases ED hfit hk with ⟨h1,h2⟩|⟨h1,h2⟩
  ·rw [Nat.zero_add] at h2;subst h2
   exact wpAny_done h1 (hR β w s a ex hF hs) 0
  exfalso
  obtain ⟨i,hi⟩:=List.exists_mem_of_ne_nil _ h1
  have:=ug (h2 i hi).2.1
  omega
 |succ n ih=>
  intro k nd s β w a hk hs ex hF hc
  rcases ED hfit hk with ⟨h1,h2⟩|⟨h1,h2⟩
  ·rw [Nat.zero_add] at h2;subst h2
   exact wpAny_done h1 (hR β w s a ex hF hs) (n+1)
  refine wpAny_all rfl h1 fun i hi=>?_
  obtain ⟨g1,g2,e,he,g3,g4⟩:=h2 i hi
  rw [Nat.zero_add] at g4
  obtain ⟨j,hj⟩:=List.getElem?_of_mem he
  obtain ⟨s',q1,q2⟩:=LO hm hj
  have hst:=GP q2 g4 hs
  refine qO hT GM ex hF hp hst fun β w s1 a ex hF hK=>?_
  subst hK
  have:=ih (1+j) e ⟨Cu s1.sl,s1.bx⟩ β w a (by rw [Nat.add_comm];simpa using hj) q1 ex (hF.Cy fun t=>(AQ t s1.sl).symm) (by rw [g3];have:=ug g2;omega)
  rw [g3] at this
  simpa using this
theorem Dj (ks:List Nat) (t:Nat):∀l:List (Nat×AV),fW t (x5 ks l)=bif ks.contains t then fW t l else .any
 |[]=>by simp [x5,fW]
 |(u,v)::r=>by
  have ih:=Dj ks t r
  simp only [x5]
  cases h:Nat.beq t u with
  |true=>
   have:=Nat.eq_of_beq_eq_true h;subst this
   cases hk:ks.contains t with
   |true=>simp [fW]
   |false=>rw [cond_false,ih,hk];rfl
  |false=>
   cases hk:ks.contains u with
   |true=>simp only [cond_true,fW,h,cond_false];exact ih
   |false=>simp only [cond_false,fW,h];exact ih
theorem Fr.zI {N:Nat} {ds:List Deferred} {X:Nat→Prop} {β:Nat→Nat} {w:World} {s:St} {a:Act} (hF:Fr G N ds β w X s a) (ks:List Nat):Fr G N ds β w X ⟨x5 ks s.sl,s.bx⟩ a:=
 ⟨hF.cx,hF.defers,hF.size,fun t=>by
  simp only [Dj]
  cases ks.contains t with
  |true=>exact hF.yl t
  |false=>simp only [cond_false,aj]⟩
theorem GQ (hT:kH P T) (hm:P.follows .mixedOrders=true) {id:Nat} {fo:Array Oper} {Q:Ex→St→Prop} {β:Nat→Nat} {w:World} {s:St} {a:Act} (ex:Ext β0 bz w0 β s.bx w) (hF:Fr G N ds β w X s a)
 (h:U3 (bt P G) T G N fo.toList Q s):(Code.region id fo true).wp P (fY G N ds X β0 bz w0 Q) a w:=by
 obtain ⟨pl,S,s1,s0,h1,⟨h2,h0⟩,h3,h4,h5⟩:=h
 obtain ⟨eb,hF⟩:s0.bx=s.bx∧Fr G N ds β w X s0 a:=by
  rcases h0 with rfl|⟨ks,rfl⟩
  ·exact ⟨rfl,hF⟩
  exact ⟨rfl,hF.zI ks⟩
 rw [←eb] at ex
 clear h0 eb
 refine wp_region_any hm ?_
 have h1:Ls fo pl=true:=by simpa using h1
 have GM:nV [] fo fo:=by
  have:nV [] fo (bI [] 0 fo.toList).toArray:=by intro j;simp [mD]
  rwa [oT] at this
 have hsame:=fB w
 have M5:Fr G N ds β {w with drawn:=w.drawn+1} X s0 a:=⟨qw hF.cx hsame,hF.defers,hF.size,fun t=>aj.mono ((jh hsame).eT X) _ _ (hF.yl t)⟩
 have:=PU (X:=X) hT GM (QQ:=fY G N ds X β0 bz w0 Q) h1 (fun β bx v u w a ex cx hv hd hq=>⟨β,bx,v,u,rfl,ex,cx,hv,hd,hq⟩) h4 (fun β w s a ex hF hR=>by
  rw [h3] at hR
  cases hR
  exact ⟨β,s1,ex,hF,h5⟩) fo.size 0 ⟨List.replicate fo.size false,[]⟩ s0 β _ a rfl h2 (ex.trans (jh hsame)) M5 (by simp [List.count_replicate])
 simpa using this
end
theorem Tb (hT:kH P T) (hm:P.follows .mixedOrders=true):qG P T G:=by
 intro N ds X β0 bz w0 id fo Q β w s a ex hF h
 rcases h with h|h|h
 ·exact GN hT hm ex hF h
 ·exact GQ hT hm ex hF h
 obtain ⟨pre,late,hpre,⟨hfit⟩,Yl⟩:=h
 refine wp_region_any hm ?_
 obtain ⟨Jz,LP⟩:∃ops:Array Oper,ops=(bI pre 0 fo.toList).toArray:=⟨_,rfl⟩
 obtain ⟨ops,Tc⟩:∃ops:Array Oper,ops=(gy Jz late 0 (bI pre 0 fo.toList)).toArray:=⟨_,rfl⟩
 have Ym:Jz.size=fo.size:=by rw [LP];simp [kJ]
 have hsz:ops.size=fo.size:=by rw [Tc];simp [oV,kJ]
 have GM:nV pre fo Jz:=by intro j;rw [LP];simp [mD]
 have hla:GJ late Jz ops:=by intro j;rw [Tc];simp only [List.getElem?_toArray,wX,Nat.zero_add];rw [LP];simp
 have hl:ops.toList=gy Jz late 0 (bI pre 0 fo.toList):=by rw [Tc]
 rw [←LP] at hfit Yl hpre
 have hal:kj fo.toList (gy Jz late 0 (bI pre 0 fo.toList)):=(GK pre _).trans (Jy _ _ _)
 have hop:=Yl
 rw [←AP hal _ _ _ _ _ _ hal] at hop
 rw [←hl] at hfit hop
 have hQQ:∀c (a a':Act) w,a.defers=a'.defers→fY G N ds X β0 bz w0 Q (.panic c) a w→fY G N ds X β0 bz w0 Q (.panic c) a' w:=by
  intro c a a' w ha hq
  simp only [fY] at hq ⊢
  obtain ⟨β,bx,v,u,h1,h2,h3,h4,h5,h6⟩:=hq
  exact ⟨β,bx,v,u,h1,h2,h3,h4,ha.symm.trans h5,h6⟩
 suffices hgoal:wpAny P .any ops (fY G N ds X β0 bz w0 Q) fo.size (Array.replicate fo.size false) a {w with drawn:=w.drawn+1} by
  rcases hpre with ⟨rfl,rfl⟩|⟨MS,LB,EB,hp3⟩
  ·have e:ops=fo:=by rw [Tc,sF,oT]
   rw [e] at hgoal;exact hgoal
  have PR:iI fo [] pre=true:=by simpa using MS
  have aaQ:l7 Jz=true:=by
   have Yn:l7 fo=true:=by simpa using LB
   rw [l7,Array.all_eq_true_iff_forall_mem] at Yn ⊢
   intro o ho
   obtain ⟨j,hj⟩:=Array.getElem?_of_mem ho
   rw [GM j] at hj
   cases h0:fo[j]? with
   |none=>rw [h0] at hj;cases hj
   |some o0=>
    rw [h0] at hj
    simp only [Option.map_some,osI] at hj
    rw [←hj,(lK pre j o0).1]
    exact Yn o0 (Array.mem_of_getElem? h0)
  have hgoal:=M3 hla EB aaQ hQQ _ _ _ _ (by simp [Ym]) hgoal
  obtain ⟨n1,n2,n3⟩:=oW _ _ _ PR
  have hle:pre.length≤fo.size:=by
   have:=List.Nodup.length_le_of_subset n1 (fun p hp=>List.mem_range.2 (n3 p hp):pre ⊆ List.range fo.size)
   simpa using this
  obtain ⟨fuel,hfuel⟩:∃fuel,fo.size=pre.length+fuel:=⟨fo.size-pre.length,by omega⟩
  rw [hfuel] at hgoal ⊢
  have wT:∀p,p<pre.length+fuel→(Array.replicate (pre.length+fuel) false).getD p true=false:=by intro p hp;simp [hp]
  refine wV (G:=G) (N:=N) GM (by simpa using LB) hQQ fuel _ pre [] _ a s.sl PR hp3 ?_ hF.size (by simp) (fun p hp _=>wT p (by have:=n3 p hp;omega)) (fun p hp=>.inr hp) (fun p hp=>hp) (by simp [hfuel]) n1 hgoal
  intro t k z hk
  have:=hF.yl t
  rw [hk] at this
  simpa only [aj,aJ] using this
 rw [←hsz]
 have Yo:gr ops (cg ops.toList []) 0 ops.toList=true:=by simpa using hfit
 obtain ⟨cG,k',g1,g2,g3,g4⟩:=tZ _ _ _ _ hop
 have Vg:∀x,at_ (Array.replicate ops.size false) x=false:=by
  intro x;unfold at_
  rcases Nat.lt_or_ge x ops.size with h|h<;>simp [h]
 have hsame:=fB w
 have f1:=AN (m:=at_ (Array.replicate ops.size false)) cG 0 s.sl (fun j _=>Vg _)
 have f2:=AO (m:=at_ (Array.replicate ops.size false)) cG 0 (s.bx++List.replicate (oH fo.toList) .bq) (fun j _=>Vg _)
 refine PO hT Yo ops.size _ 0 0 cG ⟨s.sl,s.bx++List.replicate (oH fo.toList) .bq⟩ β _ a (by simp) ?_ (fun x hx=>by omega) (fun x _=>Vg x) ?_ (by simpa using g2) g1 ?_ ?_ ?_ ?_
 ·intro x o _ hx;rw [Vg] at hx;cases hx
 ·simp
 ·intro j it hj
  obtain ⟨o,q1,q2,q3,q4⟩:=g3 j it hj
  exact ⟨o,by simpa using q1,q2,q3,q4⟩
 ·rcases g4 with ⟨q1,q2⟩|⟨o,rest,q1,q2,q3,q4⟩
  ·exact .inl ⟨by simpa using q1,q2⟩
  exact .inr ⟨k',o,rest,by simpa using q1,q2,q3,q4⟩
 ·rw [f2]
  exact (ex.trans (uf _)).trans (jh hsame)
 rw [f1,f2]
 have c1:=qw (Jx hF.cx (oH fo.toList)) hsame
 refine ⟨c1,hF.defers,hF.size,fun t=>?_⟩
 exact aj.mono (((uf (oH fo.toList)).trans (jh hsame)).eT X) _ _ (hF.yl t)
end
end Dem
end
section
open Go
namespace Dem
abbrev Th:=(α:Type)→(Unit→α)→α
def t0:Th:=fun _ f=>f ()
section
variable (t:Th)
def AV.Td (bx:List aA):AV→Option (Prop×D)
 |.d x=>some (True,x)
 |.cl es=>some (True,.sl es)
 |.fn f []=>some (True,.fn f)
 |.ow b sz n=>match bx[b]? with
  |some (.row s es)=>bif Nat.beq s sz then some (t Prop (fun _=>n=es.length),.sl es) else none
  |some (.kP s es)=>bif Nat.beq s sz then some (t Prop (fun _=>n=es.length),.sl es) else none
  |_=>none
 |_=>none
def AR (bx:List aA):List AV→Option (Prop×List D)
 |[]=>some (True,[])
 |x::xs=>match x.Td t bx,AR bx xs with
  |some (c,y),some (d,ys)=>some (c∧d,y::ys)
  |_,_=>none
def AV.yC (bx:List aA):AV→Option (Prop×List (List D))
 |.d (.sl es)=>some (True,es)
 |.cl es=>some (True,es)
 |.ow b sz n=>match bx[b]? with
  |some (.row s es)=>bif Nat.beq s sz then some (t Prop (fun _=>n=es.length),es) else none
  |some (.kP s es)=>bif Nat.beq s sz then some (t Prop (fun _=>n=es.length),es) else none
  |_=>none
 |.vw b sz off n _ _=>match bx[b]? with
  |some (.row s es)=>bif Nat.beq s sz then some (t Prop (fun _=>off+n≤es.length),t _ fun _=>(es.drop off).take n) else none
  |some (.kP s es)=>bif Nat.beq s sz then some (t Prop (fun _=>off+n≤es.length),t _ fun _=>(es.drop off).take n) else none
  |_=>none
 |_=>none
def loadT (ti:TI) (a:AV) (bx:List aA):Option R:=
 match a with
 |.ptr b off=>match bx[b]? with
  |some (.var cs)=>match cH ti.kd.isAgg ti.size (cs.drop off) with
   |some v=>R.pure v
   |none=>none
  |_=>none
 |.ep ds=>match cH ti.kd.isAgg ti.size (ds.map .d) with
  |some v=>R.pure v
  |none=>none
 |_=>none
def rowAt (a:AV) (bx:List aA):Option (Prop×List D×Nat):=
 match a with
 |.rp b sz i j=>match bx[b]? with
  |some (.row s es)=>bif Nat.beq s sz then some (t Prop (fun _=>i<es.length),t _ (fun _=>es.getD i []),j) else none
  |some (.kP s es)=>bif Nat.beq s sz then some (t Prop (fun _=>i<es.length),t _ (fun _=>es.getD i []),j) else none
  |_=>none
 |_=>none
def storeT (ti:TI) (a v:AV) (bx:List aA):Option R:=
 match v.cells? with
 |none=>none
 |some vs=>bif Nat.beq vs.length ti.size then
  match a with
  |.ptr b off=>match bx[b]? with
   |some (.var cs)=>bif Nat.ble (off+vs.length) cs.length then some ⟨True,.any,some (bx.set b (.var (eO cs off vs)))⟩ else none
   |_=>none
  |.rp b sz i j=>match AR t bx vs with
   |some (c,ds)=>match (eD bx vs)[b]? with
    |some (.row s es)=>bif Nat.beq s sz then some ⟨c∧t Prop (fun _=>i<es.length∧j+ds.length≤(es.getD i []).length),.any,
     some ((eD bx vs).set b (.row s (t _ (fun _=>es.set i (be (es.getD i []) j ds)))))⟩ else none
    |_=>none
   |none=>none
  |_=>none
  else none
def Vh (op:BinOp) (k:IntKind) (x y:Int):Option (Prop×D):=
 match op with
 |.add=>some (True,.int k (t _ fun _=>k.wrap (x+y)))
 |.sub=>some (True,.int k (t _ fun _=>k.wrap (x-y)))
 |.mul=>some (True,.int k (t _ fun _=>k.wrap (x*y)))
 |.quo=>some (t Prop fun _=>y≠0,.int k (t _ fun _=>k.wrap (x.tdiv y)))
 |.rem=>some (t Prop fun _=>y≠0,.int k (t _ fun _=>x.tmod y))
 |.and=>some (True,.int k (t _ fun _=>k.wrap (BitVec.ofInt k.bits x &&& BitVec.ofInt k.bits y).toNat))
 |.or=>some (True,.int k (t _ fun _=>k.wrap (BitVec.ofInt k.bits x ||| BitVec.ofInt k.bits y).toNat))
 |.xor=>some (True,.int k (t _ fun _=>k.wrap (BitVec.ofInt k.bits x ^^^ BitVec.ofInt k.bits y).toNat))
 |.andNot=>some (True,.int k (t _ fun _=>k.wrap (BitVec.ofInt k.bits x &&& ~~~(BitVec.ofInt k.bits y)).toNat))
 |.eql=>some (True,.bool (t _ fun _=>decide (x=y)))
 |.neq=>some (True,.bool (t _ fun _=>!decide (x=y)))
 |.lss=>some (True,.bool (t _ fun _=>decide (x<y)))
 |.leq=>some (True,.bool (t _ fun _=>decide (x≤y)))
 |.gtr=>some (True,.bool (t _ fun _=>decide (y<x)))
 |.geq=>some (True,.bool (t _ fun _=>decide (y≤x)))
 |_=>none
def Vi (op:BinOp) (x y:List UInt8):Option (Prop×D):=
 match op with
 |.add=>some (t Prop fun _=>x.length+y.length≤9223372036854775807,.str (t _ fun _=>x++y))
 |.eql=>some (True,.bool (t _ fun _=>decide (x=y)))
 |.neq=>some (True,.bool (t _ fun _=>!decide (x=y)))
 |.lss=>some (True,.bool (t _ fun _=>Op.bytesLess x y))
 |.leq=>some (True,.bool (t _ fun _=>Op.bytesLess x y||decide (x=y)))
 |.gtr=>some (True,.bool (t _ fun _=>!(Op.bytesLess x y||decide (x=y))))
 |.geq=>some (True,.bool (t _ fun _=>!Op.bytesLess x y))
 |_=>none
def PV (op:BinOp) (x y:AV):Option (Prop×D):=
 match op,x,y with
 |.shl,.d (.int k x),.d (.int _ y)=>some (t Prop fun _=>0≤y,.int k (t _ fun _=>k.wrap (x*2^(min y.toNat k.bits))))
 |.shr,.d (.int k x),.d (.int _ y)=>some (t Prop fun _=>0≤y,.int k (t _ fun _=>x.fdiv (2^(min y.toNat k.bits))))
 |op,.d (.int k x),.d (.int k' y)=>bif k==k' then Vh t op k x y else none
 |op,.d (.str x),.d (.str y)=>Vi t op x y
 |_,_,_=>none
def JA (T:Nat→Option TI):Nat→Nat→AV→AV→Option Bool
 |0,_,_,_=>none
 |n+1,ty,x,y=>match T ty with
  |none=>none
  |some ti=>match ti.kd,x,y with
   |.int _,.d (.int j a),.d (.int k b)=>bif j==k then some (t _ fun _=>decide (a=b)) else none
   |.bool,.d (.bool a),.d (.bool b)=>some (t _ fun _=>a==b)
   |.str,.d (.str a),.d (.str b)=>some (t _ fun _=>decide (a=b))
   |.array len e,.agg xs,.agg ys=>match T e with
    |some te=>bif Nat.beq len 0 then none else (List.range len).foldr (fun i acc=>match cH te.kd.isAgg te.size (xs.drop (i*te.size)),cH te.kd.isAgg te.size (ys.drop (i*te.size)) with
     |some a,some b=>match JA T n e a b,acc with
      |some p,some q=>some (t _ fun _=>p&&q)
      |_,_=>none
     |_,_=>none) (some true)
    |none=>none
   |.struct fs,.agg xs,.agg ys=>bif ti.eq then fs.foldr (fun f acc=>match T f.2 with
    |some tf=>match cH tf.kd.isAgg tf.size (xs.drop f.1),cH tf.kd.isAgg tf.size (ys.drop f.1) with
     |some a,some b=>match JA T n f.2 a b,acc with
      |some p,some q=>some (t _ fun _=>p&&q)
      |_,_=>none
     |_,_=>none
    |none=>none) (some true) else none
   |_,_,_=>none
def EE (p:Bool):AV→AV→AV
 |.d (.bool x),.d (.bool y)=>.d (.bool (t _ fun _=>bif p then x else y))
 |.any,.d (.bool y)=>bif p then .any else .d (.bool y)
 |_,_=>.any
def V1 (op:UnOp) (x:AV):Option D:=
 match op,x with
 |.not,.d (.bool b)=>some (.bool (t _ fun _=>!b))
 |.neg,.d (.int k n)=>some (.int k (t _ fun _=>k.wrap (0-n)))
 |.xor,.d (.int k n)=>some (.int k (t _ fun _=>k.wrap (BitVec.ofInt k.bits (if k.signed then -1 else k.max) ^^^ BitVec.ofInt k.bits n).toNat))
 |_,_=>none
def JB (T:Nat→Option TI) (ty:Nat) (x:AV) (lo hi mx:Option Int) (bx:List aA):Option R:=
 match T ty with
 |some ti=>match ti.kd,x,mx with
  |.str,.d (.str s),none=>some ⟨t Prop fun _=>bN s.length lo hi,.d (.str (t _ fun _=>iH s lo hi)),none⟩
  |.slice e,x,none=>match x.yC t bx,T e with
   |some (c,es),some te=>some ⟨c∧t Prop (fun _=>bN es.length lo hi∧∀r∈es,r.length=te.size),.d (.sl (t _ fun _=>iH es lo hi)),bif cE [x] then none else some (x.cq bx)⟩
   |_,_=>none
  |.slice e,x,some m=>match x.yC t bx,hi,T e with
   |some (c,es),some h,some te=>some ⟨c∧t Prop (fun _=>(bN es.length lo (some h)∧m=h)∧∀r∈es,r.length=te.size),.cl (t _ fun _=>iH es lo (some h)),bif cE [x] then none else some (x.cq bx)⟩
   |_,_,_=>none
  |.array n e,.ep ds,none=>match lo,hi,T e with
   |none,none,some te=>bif Nat.ble (n*te.size) ds.length then some ⟨True,.d (.sl (chunk te.size n ds)),none⟩ else none
   |_,_,_=>none
  |.array n e,.ptr b 0,none=>match lo,hi,T e,bx[b]? with
   |none,none,some te,some (.var cs)=>match iU [] cs with
    |some ds=>bif Nat.ble (n*te.size) ds.length then some ⟨True,.d (.sl (chunk te.size n ds)),some (bx.set b .dead)⟩ else none
    |none=>none
   |_,_,_,_=>none
  |_,_,_=>none
 |none=>none
def vu (bx:List aA) (size:Nat):List (Nat×AV)→Option (Prop×List (List D))
 |[]=>some (True,[])
 |(_,v)::r=>match v.cells? with
  |some vs=>match AR t bx vs,vu bx size r with
   |some (c,ds),some (d,rs)=>bif Nat.beq ds.length size then some (c∧d,ds::rs) else none
   |_,_=>none
  |none=>none
def qP (T:Nat→Option TI) (ty n:Nat) (parts:List (Nat×AV)) (bx:List aA):Option R:=
 match T ty with
 |some ti=>match ti.kd with
  |.slice e=>match T e with
   |some te=>bif Nat.beq parts.length n&&mW 0 parts&&Nat.ble (n*te.size) 16777216&&te.zero.cells?.isSome then
    match vu t bx te.size parts with
    |some (c,rs)=>some ⟨c,.cl rs,bif FM parts then none else some (dQ bx parts)⟩
    |none=>none
    else none
   |none=>none
  |_=>none
 |none=>none
def AS (size:Nat) (x:AV) (bx:List aA):Option (Prop×List (List D)):=
 match x with
 |.d (.str b)=>bif Nat.beq size 1 then some (True,t _ fun _=>b.map rZ) else none
 |x=>x.yC t bx
def zJ (T:Nat→Option TI) (ty:Nat) (s x:AV) (bx:List aA):Option R:=
 match T ty with
 |some ti=>match ti.kd with
  |.slice e=>match T e with
   |some te=>bif eP te then
    match AS t te.size x bx with
    |some (c,xs)=>match s with
     |.cl es=>some ⟨c∧t Prop (fun _=>(es=[]∨xs≠[])∧(es.length+xs.length)*te.bytes≤140737488355328∧(∀r∈es++xs,r.length=te.size)),
      .ow bx.length te.size (t _ fun _=>es.length+xs.length),some (bx++[.row te.size (t _ fun _=>es++xs)])⟩
     |.ow b sz n=>match bx[b]? with
      |some (.row s2 es)=>bif sameBox b x||!(Nat.beq s2 sz&&Nat.beq sz te.size) then none else
       some ⟨c∧t Prop (fun _=>n=es.length∧(es.length+xs.length)*te.bytes≤140737488355328∧(∀r∈es++xs,r.length=te.size)),
       .ow bx.length te.size (t _ fun _=>es.length+xs.length),some ((bx.set b .dead)++[.row te.size (t _ fun _=>es++xs)])⟩
      |_=>none
     |_=>none
    |none=>none
    else none
   |none=>none
  |_=>none
 |none=>none
def PW (T:Nat→Option TI) (src dst:Nat) (x:AV) (bx:List aA):Option R:=
 match T src,T dst with
 |some ts,some td=>match ts.kd,td.kd,x with
  |_,.int k,.d (.int _ n)=>R.pure (.d (.int k (t _ fun _=>k.wrap n)))
  |.slice e,.str,x=>match T e,x.yC t bx with
   |some te,some (c,es)=>match te.kd with
    |.int .u8=>some ⟨c∧t Prop (fun _=>∀r∈es,sj r),.d (.str (t _ fun _=>es.map sg)),none⟩
    |_=>none
   |_,_=>none
  |.str,.str,.d (.str s)=>R.pure (.d (.str s))
  |_,_,_=>none
 |_,_=>none
def AT (T:Nat→Option TI) (b:Builtin) (args:List AV) (ats:List Nat) (bx:List aA):Option R:=
 match b,args,ats with
 |.len,[x],[ty]=>match T ty with
  |some ti=>match ti.kd,x with
   |.array n _,_=>R.pure (.d (.int .i64 n))
   |.str,.d (.str s)=>R.pure (.d (.int .i64 (t _ fun _=>s.length)))
   |.slice _,x=>match x.yC t bx with
    |some (c,es)=>some ⟨c,.d (.int .i64 (t _ fun _=>es.length)),none⟩
    |none=>none
   |_,_=>none
  |none=>none
 |.min,[.d (.int k x),.d (.int _ y)],_=>R.pure (.d (.int k (t _ fun _=>min x y)))
 |.max,[.d (.int k x),.d (.int _ y)],_=>R.pure (.d (.int k (t _ fun _=>max x y)))
 |.append,[s,x],[ty,u]=>match T u with
  |some tu=>match tu.kd with
   |.int _=>none
   |_=>zJ t T ty s x bx
  |none=>none
 |_,_,_=>none
def AU (size:Nat) (y:AV) (n:Nat) (bx:List aA):Option (Prop×Nat×List (List D)):=
 match y with
 |.vw b sz off n2 _ _=>match bx[b]? with
  |some (.row s es)=>bif Nat.beq s sz then some (t Prop (fun _=>off+min n2 n≤es.length),t _ (fun _=>min n2 n),t _ fun _=>(es.drop off).take (min n2 n)) else none
  |some (.kP s es)=>bif Nat.beq s sz then some (t Prop (fun _=>off+min n2 n≤es.length),t _ (fun _=>min n2 n),t _ fun _=>(es.drop off).take (min n2 n)) else none
  |_=>none
 |y=>match AS t size y bx with
  |some (c,xs)=>some (c,t _ (fun _=>min xs.length n),t _ fun _=>xs.take (min xs.length n))
  |none=>none
def PX (te:TI) (x y:AV) (bx:List aA):Option R:=
 match viewAt x with
 |some (b,sz,off,n,_,_)=>match bx[b]?,AU t te.size y n bx with
  |some (.row s es),some (cy,m,xs)=>bif Nat.beq s sz&&Nat.beq sz te.size then
   some ⟨cy∧t Prop (fun _=>eR es off m∧∀r∈xs,r.length=te.size),.d (.int .i64 (t _ fun _=>(m:Int))),
    some (bx.set b (.row sz (t _ fun _=>wrote es off xs)))⟩ else none
  |_,_=>none
 |none=>none
def V2 (te:TI) (x:AV) (bx:List aA):Option R:=
 match viewAt x with
 |some (b,sz,off,n,_,_)=>match bx[b]?,mX te with
  |some (.row s es),some z=>bif Nat.beq s sz&&Nat.beq sz te.size&&eP te then
   some ⟨t Prop (fun _=>eR es off n),.ek [],some (bx.set b (.row sz (t _ fun _=>wrote es off (List.replicate n z))))⟩ else none
  |_,_=>none
 |none=>none
def Yp (te:TI) (b sz off n c:Nat) (ex:Bool) (m:Int) (bx:List aA):Option R:=
 match bx[b]?,mX te with
 |some (.row s es),some z=>bif Nat.beq s sz&&Nat.beq sz te.size&&eP te&&ex then
  some ⟨t Prop (fun _=>0≤m∧c<n+m.toNat∧off+n≤es.length∧(n+m.toNat)*te.bytes≤140737488355328),
   .vw bx.length sz 0 (t _ fun _=>n+m.toNat) (t _ fun _=>n+m.toNat) false,some (bx++[.row sz (t _ fun _=>(es.drop off).take n++List.replicate m.toNat z)])⟩ else none
 |_,_=>none
def EF (te:TI) (b sz off n c:Nat) (ex:Bool) (y:AV) (bx:List aA):Option R:=
 match bx[b]?,AS t te.size y bx with
 |some (.row s es),some (cy,xs)=>bif Nat.beq s sz&&Nat.beq sz te.size then
  some ⟨cy∧t Prop (fun _=>eR es (off+n) xs.length∧n+xs.length≤c∧∀r∈xs,r.length=te.size),.vw b sz off (t _ fun _=>n+xs.length) c ex,
   some (bx.set b (.row sz (t _ fun _=>wrote es (off+n) xs)))⟩ else none
 |_,_=>none
def Yq (te:TI) (n m:Int) (bx:List aA):Option R:=
 match mX te with
 |some z=>bif eP te then some ⟨t Prop (fun _=>0≤n∧n=m∧n.toNat*te.bytes≤140737488355328),.ow bx.length te.size (t _ fun _=>n.toNat),some (bx++[.row te.size (t _ fun _=>List.replicate n.toNat z)])⟩ else none
 |none=>none
def PY (T:Nat→Option TI) (ev:Operand→AV) (o:Op) (bx:List aA):Option R:=
 match o with
 |.slice ty x lo hi mx=>match ev x,elemOf T ty,Cp ev lo,Cp ev hi,Cp ev mx with
  |.vw b sz off n c ex,some te,some l,some h,some none=>bif Nat.beq te.size sz then
   some ⟨t Prop (fun _=>dR n c l h),.vw b sz (t _ fun _=>off+aV l) (t _ fun _=>aP n h-aV l) (t _ fun _=>c-aV l) ex,none⟩ else none
  |.vw b sz off n c ex,some te,some l,some (some h),some (some m)=>bif Nat.beq te.size sz then
   some ⟨t Prop (fun _=>bN c l (some h)∧h≤m∧m≤c),.vw b sz (t _ fun _=>off+aV l) (t _ fun _=>h.toNat-aV l) (t _ fun _=>m.toNat-aV l) true,none⟩ else none
  |_,_,_,_,_=>none
 |.indexAddr ty x i=>match ev x,elemOf T ty,ev i with
  |.vw b sz off n _ _,some te,.d (.int _ z)=>bif Nat.beq te.size sz then some ⟨t Prop (fun _=>0≤z∧z<n),.rp b sz (t _ fun _=>off+z.toNat) 0,none⟩ else none
  |_,_,_=>none
 |.makeSlice ty a b=>match elemOf T ty,ev a,ev b with
  |some te,.d (.int .i64 n),.d (.int .i64 m)=>Yq t te n m bx
  |_,_,_=>none
 |.call {callee:=.builtin b,args,argTypes}=>match b,args.toList.map ev,argTypes.toList with
  |.len,[.vw _ _ _ n _ _],[ty]=>match elemOf T ty with
   |some _=>R.pure (.d (.int .i64 (t _ fun _=>n)))
   |none=>none
  |.cap,[.vw _ _ _ _ c true],[ty]=>match elemOf T ty with
   |some _=>R.pure (.d (.int .i64 (t _ fun _=>c)))
   |none=>none
  |.copy,[x,y],ty::_=>match elemOf T ty with
   |some te=>PX t te x y bx
   |none=>none
  |.clear,[x],ty::_=>match elemOf T ty with
   |some te=>V2 t te x bx
   |none=>none
  |.append,[.vw b sz off n c ex,y],[ty,u]=>match elemOf T ty,Ee T u with
   |some te,some true=>match y with
    |.d (.int .i64 m)=>Yp t te b sz off n c ex m bx
    |_=>none
   |some te,some false=>bif sameBox b y then EF t te b sz off n c ex y bx else
    match bx[b]?,zJ t T ty (.ow b sz n) y bx with
    |some (.row _ es),some ⟨c1,v,aL⟩=>some ⟨c1∧t Prop (fun _=>whole es off n c ex),v,aL⟩
    |_,_=>none
   |_,_=>none
  |_,_,_=>none
 |_=>none
def CA (T:Nat→Option TI) (ev:Operand→AV) (o:Op) (bx:List aA):Option R:=
 match o with
 |.move x=>R.pure (ev x)
 |.assign x=>R.pure (ev x)
 |.alloc ty=>match T ty with
  |some ti=>match ti.zero.cells? with
   |some cs=>some ⟨True,.ptr bx.length 0,some (bx++[.var cs])⟩
   |none=>none
  |none=>none
 |.box _ x=>match (ev x).cells? with
  |some cs=>some ⟨True,.ptr bx.length 0,some (bx++[.var cs])⟩
  |none=>none
 |.load ty a=>match T ty with
  |some ti=>loadT ti (ev a) bx
  |none=>none
 |.store ty a x=>match T ty with
  |some ti=>storeT t ti (ev a) (ev x) bx
  |none=>none
 |.build ty parts=>Ed T ty (parts.toList.map fun p=>(p.1,ev p.2))
 |.buildSlice ty n parts=>qP t T ty n (parts.toList.map fun p=>(p.1,ev p.2)) bx
 |.fieldAddr ty x f=>match T ty with
  |some ti=>match zY ti.kd f with
   |some (o,ft)=>match T ft with
    |some tf=>bif Nat.beq tf.size 0 then none else
     match ev x with
     |.ptr b off=>R.pure (.ptr b (off+o))
     |.rp b sz i j=>R.pure (.rp b sz i (j+o))
     |.ep ds=>bif Nat.ble o ds.length then R.pure (.ep (ds.drop o)) else none
     |_=>none
    |none=>none
   |none=>none
  |none=>none
 |.indexAddr ty x i=>match T ty with
  |some ti=>match ti.kd,ev i with
   |.array n e,.d (.int _ z)=>match T e with
    |some te=>match ev x with
     |.ptr b off=>some ⟨t Prop fun _=>0≤z∧z<n,.ptr b (off+z.toNat*te.size),none⟩
     |.rp b sz a j=>some ⟨t Prop fun _=>0≤z∧z<n,.rp b sz a (j+z.toNat*te.size),none⟩
     |.ep ds=>some ⟨t Prop fun _=>0≤z∧z<n∧z.toNat*te.size≤ds.length,.ep (ds.drop (z.toNat*te.size)),none⟩
     |_=>none
    |none=>none
   |.slice e,.d (.int _ z)=>match T e,ev x with
    |some te,.ow b sz n=>bif Nat.beq te.size sz then some ⟨t Prop fun _=>0≤z∧z<n,.rp b sz (t _ fun _=>z.toNat) 0,none⟩ else none
    |_,_=>none
   |_,_=>none
  |none=>none
 |.field ty x f=>match T ty with
  |some ti=>match zY ti.kd f with
   |some (o,ft)=>match T ft,ev x with
    |some tf,.agg cs=>match cH tf.kd.isAgg tf.size (cs.drop o) with
     |some v=>R.pure v
     |none=>none
    |_,_=>none
   |none=>none
  |none=>none
 |.index ty x i=>match T ty with
  |some ti=>match ti.kd,ev x,ev i with
   |.str,.d (.str s),.d (.int _ z)=>some ⟨t Prop fun _=>0≤z∧z<s.length,.d (.int .u8 (t _ fun _=>(s.getD z.toNat 0).toNat)),none⟩
   |.array n e,.agg cs,.d (.int _ z)=>match T e with
    |some te=>match cH te.kd.isAgg te.size (cs.drop (z.toNat*te.size)) with
     |some v=>some ⟨t Prop fun _=>0≤z∧z<n,v,none⟩
     |none=>none
    |none=>none
   |_,_,_=>none
  |none=>none
 |.extract x i=>match ev x with
  |.ek vs=>match vs[i]? with
   |some v=>R.pure v
   |none=>none
  |_=>none
 |.binOp op ty x y _=>match ev x,ev y with
  |.agg xs,.agg ys=>match op with
   |.eql=>(JA t T 8 ty (.agg xs) (.agg ys)).bind fun d=>R.pure (.d (.bool d))
   |.neq=>(JA t T 8 ty (.agg xs) (.agg ys)).bind fun d=>R.pure (.d (.bool (t _ fun _=>!d)))
   |_=>none
  |.d (.bool p),.d (.bool q)=>match T ty,op with
   |some ti,.eql=>match ti.kd with
    |.bool=>R.pure (.d (.bool (t _ fun _=>p==q)))
    |_=>none
   |some ti,.neq=>match ti.kd with
    |.bool=>R.pure (.d (.bool (t _ fun _=>!(p==q))))
    |_=>none
   |_,_=>none
  |.sS _ _,.k .nilIface=>match T ty,op with
   |some ti,.eql=>match ti.kd with
    |.iface=>R.pure (.d (.bool false))
    |_=>none
   |some ti,.neq=>match ti.kd with
    |.iface=>R.pure (.d (.bool true))
    |_=>none
   |_,_=>none
  |.k .nilIface,.k .nilIface=>match y with
   |.const _=>match T ty,op with
    |some ti,.eql=>match ti.kd with
     |.iface=>R.pure (.d (.bool true))
     |_=>none
    |some ti,.neq=>match ti.kd with
     |.iface=>R.pure (.d (.bool false))
     |_=>none
    |_,_=>none
   |_=>none
  |x,y=>match PV t op x y with
   |some (c,d)=>some ⟨c,.d d,none⟩
   |none=>none
 |.unOp op _ x=>(V1 t op (ev x)).bind fun d=>R.pure (.d d)
 |.convert s d x=>PW t T s d (ev x) bx
 |.slice ty x lo hi mx=>match Cp ev lo,Cp ev hi,Cp ev mx with
  |some l,some h,some m=>JB t T ty (ev x) l h m bx
  |_,_,_=>none
 |.makeFunc (.func f) first jU=>bif first.toList.isEmpty then (bif j8 (jU.toList.map ev) then R.pure (.fn f (jU.toList.map ev)) else none) else R.pure (.fn f (.ek (first.toList.map ev)::jU.toList.map ev))
 |.makeInterface t x=>match T t with
  |some ti=>bif ti.kd.plain then R.pure (.sS t (ev x)) else none
  |none=>none
 |.typeAssert x _ u ok=>match T u with
  |some tu=>bif tu.kd.plain&&tu.zero.cells?.isSome then
   match ev x with
   |.sS t v=>bif Nat.beq t u then R.pure (bif ok then .ek [v,.d (.bool true)] else v) else bif ok then R.pure (.ek [tu.zero,.d (.bool false)]) else none
   |.k .nilIface=>bif ok then R.pure (.ek [tu.zero,.d (.bool false)]) else none
   |_=>none
   else none
  |none=>none
 |.nilCheck x=>match ev x with
  |.ptr b o=>R.pure (.ptr b o)
  |.rp b s i j=>R.pure (.rp b s i j)
  |.ep ds=>R.pure (.ep ds)
  |.fn f cs=>R.pure (.fn f cs)
  |_=>none
 |.call {callee:=.builtin b,args,argTypes}=>AT t T b (args.toList.map ev) argTypes.toList bx
 |_=>none
def XM (T:Nat→Option TI) (ev:Operand→AV) (o:Op) (bx:List aA):Option R:=
 bif je ev o then PY t T ev o bx else CA t T ev o bx
end
section
variable {bx:List aA}
theorem PZ {x:AV} {c:Prop} {y:D} (h:x.Td t0 bx=some (c,y)) (hc:c):x.rY bx=some y:=by
 unfold AV.Td at h
 split at h
 ·simp only [osI,Prod.mk.injEq] at h;obtain ⟨rfl,rfl⟩:=h;rfl
 ·simp only [osI,Prod.mk.injEq] at h;obtain ⟨rfl,rfl⟩:=h;rfl
 ·simp only [osI,Prod.mk.injEq] at h;obtain ⟨rfl,rfl⟩:=h;rfl
 ·rename_i b sz n
  split at h
  ·rename_i s es hb
   cases hs:Nat.beq s sz with
   |false=>simp [hs] at h
   |true=>
   simp only [hs,cond_true,osI,Prod.mk.injEq] at h
   obtain ⟨rfl,rfl⟩:=h
   have hn:n=es.length:=hc
   simp [AV.rY,hb,hs,hn]
  ·rename_i s es hb
   cases hs:Nat.beq s sz with
   |false=>simp [hs] at h
   |true=>
   simp only [hs,cond_true,osI,Prod.mk.injEq] at h
   obtain ⟨rfl,rfl⟩:=h
   have hn:n=es.length:=hc
   simp [AV.rY,hb,hs,hn]
  simp at h
 simp at h
theorem vv:∀{xs:List AV} {c:Prop} {ys:List D},AR t0 bx xs=some (c,ys)→c→iU bx xs=some ys
 |[],c,ys,h,_=>by simp [AR] at h;simp [iU,h.2]
 |x::xs,c,ys,h,hc=>by
  simp only [AR] at h
  split at h
  ·rename_i c1 y d ys' h1 h2
   simp only [osI,Prod.mk.injEq] at h
   obtain ⟨rfl,rfl⟩:=h
   simp [iU,PZ h1 hc.1,vv h2 hc.2]
  simp at h
theorem kn {x:AV} {c:Prop} {es:List (List D)} (h:x.yC t0 bx=some (c,es)) (hc:c):x.rows bx=some es:=by
 unfold AV.yC at h
 split at h
 ·simp only [osI,Prod.mk.injEq] at h;obtain ⟨rfl,rfl⟩:=h;rfl
 ·simp only [osI,Prod.mk.injEq] at h;obtain ⟨rfl,rfl⟩:=h;rfl
 ·rename_i b sz n
  split at h
  ·rename_i s es' hb
   cases hs:Nat.beq s sz with
   |false=>simp [hs] at h
   |true=>
   simp only [hs,cond_true,osI,Prod.mk.injEq] at h
   obtain ⟨rfl,rfl⟩:=h
   have hn:n=es'.length:=hc
   simp [AV.rows,hb,hs,hn]
  ·rename_i s es' hb
   cases hs:Nat.beq s sz with
   |false=>simp [hs] at h
   |true=>
   simp only [hs,cond_true,osI,Prod.mk.injEq] at h
   obtain ⟨rfl,rfl⟩:=h
   have hn:n=es'.length:=hc
   simp [AV.rows,hb,hs,hn]
  simp at h
 ·rename_i b sz off n _ _
  split at h
  ·rename_i s es' hb
   cases hs:Nat.beq s sz with
   |false=>simp [hs] at h
   |true=>
   simp only [hs,cond_true,osI,Prod.mk.injEq] at h
   obtain ⟨rfl,rfl⟩:=h
   have hn:Nat.ble (off+n) es'.length=true:=Nat.ble_eq_true_of_le hc
   simp [AV.rows,hb,hs,hn,t0]
  ·rename_i s es' hb
   cases hs:Nat.beq s sz with
   |false=>simp [hs] at h
   |true=>
   simp only [hs,cond_true,osI,Prod.mk.injEq] at h
   obtain ⟨rfl,rfl⟩:=h
   have hn:Nat.ble (off+n) es'.length=true:=Nat.ble_eq_true_of_le hc
   simp [AV.rows,hb,hs,hn,t0]
  simp at h
 simp at h
theorem GR {T:Nat→Option TI}:∀(n ty:Nat) (x y:AV),JA t0 T n ty x y=Co T n ty x y
 |0,_,_,_=>rfl
 |n+1,ty,x,y=>by
  have ih:∀e a b,JA t0 T n e a b=Co T n e a b:=fun e a b=>GR n e a b
  simp only [JA,Co,ih]
  rfl
def nW (r:Option R) (v:AV) (b:Option (List aA)):Prop:=∃c',r=some ⟨c',v,b⟩∧c'
theorem Te {ti:TI} {a:AV} {c:Prop} {v:AV} {b:Option (List aA)} (h:loadT ti a bx=some ⟨c,v,b⟩) (hc:c):nW (pU ti a bx) v b:=by
 cases a with
 |rp=>simp [loadT] at h
 |_=>exact ⟨c,h,hc⟩
theorem P0 {ti:TI} {a x:AV} {c:Prop} {v:AV} {b:Option (List aA)} (h:storeT t0 ti a x bx=some ⟨c,v,b⟩) (hc:c):nW (tM ti a x bx) v b:=by
 unfold storeT at h
 unfold tM
 split at h
 ·simp at h
 rename_i vs hvs
 simp only [hvs]
 cases hl:Nat.beq vs.length ti.size with
 |false=>simp [hl] at h
 |true=>
 simp only [hl,cond_true] at h ⊢
 split at h
 ·exact ⟨c,h,hc⟩
 ·rename_i b' sz i j
  split at h
  ·rename_i c1 ds hds
   split at h
   ·rename_i s es hb
    cases hs:Nat.beq s sz with
    |false=>simp [hs] at h
    |true=>
    simp only [hs,cond_true,osI,R.mk.injEq] at h
    obtain ⟨rfl,rfl,rfl⟩:=h
    have hs':s=sz:=Nat.eq_of_beq_eq_true hs
    simp only [vv hds hc.1,hb]
    exact ⟨_,rfl,hs',hc.2.1,hc.2.2⟩
   simp at h
  simp at h
 simp at h
theorem Tf (op:BinOp) (k:IntKind) (x y:Int):Vh t0 op k x y=SG op k x y:=by cases op<;>rfl
theorem Tg (op:BinOp) (x y:List UInt8):Vi t0 op x y=SH op x y:=by cases op<;>rfl
theorem Ti (op:BinOp) (x y:AV):PV t0 op x y=O4 op x y:=by
 unfold PV O4;simp only [Tf,Tg];rfl
theorem V3 (op:UnOp) (x:AV):V1 t0 op x=XC op x:=by
 unfold V1 XC;rfl
theorem GS (p:Bool) (x y:AV):EE t0 p x y=zZ p x y:=by
 unfold EE zZ;rfl
theorem P1 {T:Nat→Option TI} {ty:Nat} {x:AV} {lo hi mx:Option Int} {c:Prop} {v:AV} {b:Option (List aA)} (h:JB t0 T ty x lo hi mx bx=some ⟨c,v,b⟩) (hc:c):nW (qj T ty x lo hi mx bx) v b:=by
 unfold JB at h
 unfold qj
 split at h
 ·rename_i ti ht
  simp only [ht]
  split at h
  ·rename_i s hk
   simp only [hk]
   exact ⟨c,h,hc⟩
  ·rename_i e hk
   simp only [hk]
   split at h
   ·rename_i c1 es te h1 h2
    simp only [osI,R.mk.injEq] at h
    obtain ⟨rfl,rfl,rfl⟩:=h
    simp only [kn h1 hc.1,h2]
    exact ⟨_,rfl,hc.2⟩
   simp at h
  ·rename_i e m hk
   simp only [hk]
   split at h
   ·rename_i c1 es h' te h1 h2
    simp only [osI,R.mk.injEq] at h
    obtain ⟨rfl,rfl,rfl⟩:=h
    simp only [kn h1 hc.1,h2]
    exact ⟨_,rfl,hc.2⟩
   simp at h
  ·rename_i n e ds hk
   simp only [hk]
   split at h
   ·rename_i te hte
    cases hb:Nat.ble (n*te.size) ds.length with
    |false=>simp [hb] at h
    |true=>
    simp only [hb,cond_true,osI,R.mk.injEq] at h
    obtain ⟨rfl,rfl,rfl⟩:=h
    simp only [hte]
    exact ⟨_,rfl,Nat.le_of_ble_eq_true hb⟩
   simp at h
  ·rename_i n e b hk
   simp only [hk]
   split at h
   ·rename_i te cs hte sA
    split at h
    ·rename_i ds hd
     cases hb:Nat.ble (n*te.size) ds.length with
     |false=>simp [hb] at h
     |true=>
     simp only [hb,cond_true,osI,R.mk.injEq] at h
     obtain ⟨rfl,rfl,rfl⟩:=h
     simp only [hte,sA,hd]
     exact ⟨_,rfl,Nat.le_of_ble_eq_true hb⟩
    simp at h
   simp at h
  simp at h
 simp at h
theorem Dk {size:Nat}:∀{parts:List (Nat×AV)} {c:Prop} {rs:List (List D)},vu t0 bx size parts=some (c,rs)→c→rowsOf bx size parts=some rs
 |[],c,rs,h,_=>by simp [vu] at h;simp [rowsOf,h.2]
 |(i,v)::r,c,rs,h,hc=>by
  simp only [vu] at h
  split at h
  ·rename_i vs hvs
   split at h
   ·rename_i c1 ds d X2 h1 h2
    cases hl:Nat.beq ds.length size with
    |false=>simp [hl] at h
    |true=>
    simp only [hl,cond_true,osI,Prod.mk.injEq] at h
    obtain ⟨rfl,rfl⟩:=h
    simp only [rowsOf,hvs,vv h1 hc.1,Dk h2 hc.2,hl,cond_true]
   simp at h
  simp at h
theorem CB {T:Nat→Option TI} {ty n:Nat} {parts:List (Nat×AV)} {c:Prop} {v:AV} {b:Option (List aA)} (h:qP t0 T ty n parts bx=some ⟨c,v,b⟩) (hc:c):nW (gi T ty n parts bx) v b:=by
 unfold qP at h
 unfold gi
 split at h
 ·rename_i ti ht
  simp only [ht]
  split at h
  ·rename_i e hk
   simp only [hk]
   split at h
   ·rename_i te hte
    simp only [hte]
    cases hb:(Nat.beq parts.length n&&mW 0 parts&&Nat.ble (n*te.size) 16777216&&te.zero.cells?.isSome) with
    |false=>simp only [hb,cond_false] at h;simp at h
    |true=>
    simp only [hb,cond_true] at h ⊢
    split at h
    ·rename_i c1 rs h1
     simp only [osI,R.mk.injEq] at h
     obtain ⟨rfl,rfl,rfl⟩:=h
     simp only [Dk h1 hc]
     exact ⟨_,rfl,trv⟩
    simp at h
   simp at h
  simp at h
 simp at h
theorem vz {size:Nat} {x:AV} {c:Prop} {xs:List (List D)} (h:AS t0 size x bx=some (c,xs)) (hc:c):kQ size x bx=some xs:=by
 unfold AS at h
 split at h
 ·rename_i b
  simp only [kQ]
  cases hs:Nat.beq size 1 with
  |false=>simp [hs] at h
  |true=>
   simp only [hs,cond_true,osI,Prod.mk.injEq] at h ⊢
   exact h.2
 rename_i hx
 unfold kQ
 split
 ·rename_i b;exact absurd rfl (hx b)
 exact kn h hc
theorem Dl {T:Nat→Option TI} {ty:Nat} {s x:AV} {c:Prop} {v:AV} {b:Option (List aA)} (h:zJ t0 T ty s x bx=some ⟨c,v,b⟩) (hc:c):nW (lD T ty s x bx) v b:=by
 unfold zJ at h
 unfold lD
 split at h
 ·rename_i ti ht
  simp only [ht]
  split at h
  ·rename_i e hk
   simp only [hk]
   split at h
   ·rename_i te hte
    simp only [hte]
    cases hz:eP te with
    |false=>simp [hz] at h
    |true=>
    simp only [hz,cond_true] at h ⊢
    split at h
    ·rename_i c1 xs h1
     split at h
     ·rename_i es
      simp only [osI,R.mk.injEq] at h
      obtain ⟨rfl,rfl,rfl⟩:=h
      obtain ⟨Cr,hne,hl,hr⟩:=hc
      simp only [vz h1 Cr]
      cases es with
      |nil=>
       refine ⟨_,by simp only [t0,List.length_nil,Nat.zero_add,List.nil_append];rfl,?_⟩
       exact ⟨by simpa using hl,by simpa using hr⟩
      |cons e0 er=>
       cases xs with
       |nil=>simp at hne
       |cons x0 xr=>exact ⟨_,rfl,hl,hr⟩
     ·rename_i b' sz n
      split at h
      ·rename_i s2 es hb
       cases Ja:sameBox b' x with
       |true=>simp [Ja] at h
       |false=>
       cases h2:Nat.beq s2 sz with
       |false=>simp [Ja,h2] at h
       |true=>
       cases h3:Nat.beq sz te.size with
       |false=>simp [Ja,h2,h3] at h
       |true=>
       simp only [Ja,h2,h3,Bool.and_self,Bool.not_true,Bool.or_self,cond_false,osI,R.mk.injEq] at h
       obtain ⟨rfl,rfl,rfl⟩:=h
       obtain ⟨Cr,hn,hl,hr⟩:=hc
       simp only [vz h1 Cr,hb,Ja,cond_false]
       exact ⟨_,rfl,Nat.eq_of_beq_eq_true h2,Nat.eq_of_beq_eq_true h3,hn,hl,hr⟩
      simp at h
     simp at h
    simp at h
   simp at h
  simp at h
 simp at h
theorem Tj {T:Nat→Option TI} {src dst:Nat} {x:AV} {c:Prop} {v:AV} {b:Option (List aA)} (h:PW t0 T src dst x bx=some ⟨c,v,b⟩) (hc:c):nW (xY T src dst x bx) v b:=by
 unfold PW at h
 unfold xY
 split at h
 ·rename_i ts td h1 h2
  simp only [h1,h2]
  generalize ts.kd=ks at h ⊢
  generalize td.kd=kd at h ⊢
  cases kd with
  |int k=>
   cases x with
   |d y=>cases y with
    |int k' n=>exact ⟨c,h,hc⟩
    |_=>cases ks<;>simp at h
   |_=>cases ks<;>simp at h
  |str=>
   cases ks with
   |slice e=>
    simp only at h ⊢
    split at h
    ·rename_i te c1 es h3 h4
     simp only [h3]
     split at h
     ·rename_i hk
      simp only [osI,R.mk.injEq] at h
      obtain ⟨rfl,rfl,rfl⟩:=h
      simp only [kn h4 hc.1,hk]
      exact ⟨_,rfl,hc.2⟩
     simp at h
    simp at h
   |str=>
    cases x with
    |d y=>cases y with
     |str s=>exact ⟨c,h,hc⟩
     |_=>simp at h
    |_=>simp at h
   |_=>simp at h
  |_=>cases ks<;>simp at h
 simp at h
theorem Tk {x:AV} {es:List (List D)} (hr:x.rows bx=some es):z6 x bx=some (.d (.int .i64 es.length)):=by
 unfold AV.rows at hr
 split at hr
 ·simp only [osI] at hr;subst hr;rfl
 ·simp only [osI] at hr;subst hr;rfl
 ·simp only [z6,AV.rows,hr]
 ·simp only [z6,AV.rows,hr]
 simp at hr
theorem JC {T:Nat→Option TI} {bi:Builtin} {args:List AV} {ats:List Nat} {c:Prop} {v:AV} {b:Option (List aA)} (h:AT t0 T bi args ats bx=some ⟨c,v,b⟩) (hc:c):nW (iZ T bi args ats bx) v b:=by
 unfold AT at h
 split at h
 ·rename_i x ty
  simp only [iZ]
  split at h
  ·rename_i ti ht
   simp only [ht]
   split at h
   ·rename_i n e hk;simp only [hk];exact ⟨c,h,hc⟩
   ·rename_i s hk;simp only [hk];exact ⟨c,h,hc⟩
   ·rename_i e hk
    simp only [hk]
    split at h
    ·rename_i c1 es h1
     simp only [osI,R.mk.injEq] at h
     obtain ⟨rfl,rfl,rfl⟩:=h
     have hr:=kn h1 hc
     simp only [Tk hr]
     exact ⟨_,rfl,trv⟩
    simp at h
   simp at h
  simp at h
 ·exact ⟨c,h,hc⟩
 ·exact ⟨c,h,hc⟩
 ·rename_i s x ty u
  simp only [iZ]
  split at h
  ·rename_i tu hu
   simp only [hu]
   split at h
   ·simp at h
   rename_i hk
   split
   ·rename_i k hk';exact absurd hk' (hk k)
   exact Dl h hc
  simp at h
 simp at h
theorem JD {size n m:Nat} {y:AV} {c:Prop} {xs:List (List D)} (h:AU t0 size y n bx=some (c,m,xs)) (hc:c):∃c',uL size y n bx=some (c',m,xs)∧c':=by
 unfold AU at h
 unfold uL
 split at h
 ·exact ⟨c,h,hc⟩
 split at h
 ·rename_i c1 zs hz
  simp only [osI,Prod.mk.injEq] at h
  obtain ⟨rfl,rfl,rfl⟩:=h
  simp only [vz hz hc]
  exact ⟨_,rfl,trv⟩
 simp at h
theorem Tl {te:TI} {x y:AV} {c:Prop} {v:AV} {b:Option (List aA)} (h:PX t0 te x y bx=some ⟨c,v,b⟩) (hc:c):nW (CV te x y bx) v b:=by
 unfold PX at h
 unfold CV
 split at h
 ·rename_i bb sz off n c0 sV hv
  simp only [hv]
  split at h
  ·rename_i s es cy m xs hb hxs
   simp only [hb]
   cases hq:(Nat.beq s sz&&Nat.beq sz te.size) with
   |false=>simp only [hq,cond_false] at h;simp at h
   |true=>
   simp only [hq,cond_true,osI,R.mk.injEq] at h ⊢
   obtain ⟨rfl,rfl,rfl⟩:=h
   obtain ⟨c2,k1,k2⟩:=JD hxs hc.1
   simp only [k1,hq,cond_true]
   exact ⟨_,rfl,k2,hc.2⟩
  simp at h
 simp at h
theorem M6 {te:TI} {bb sz off n c0:Nat} {ex:Bool} {y:AV} {c:Prop} {v:AV} {b:Option (List aA)} (h:EF t0 te bb sz off n c0 ex y bx=some ⟨c,v,b⟩) (hc:c):nW (sn te bb sz off n c0 ex y bx) v b:=by
 unfold EF at h
 unfold sn
 split at h
 ·rename_i s es cy xs hb hxs
  simp only [hb]
  cases hq:(Nat.beq s sz&&Nat.beq sz te.size) with
  |false=>simp only [hq,cond_false] at h;simp at h
  |true=>
  simp only [hq,cond_true,osI,R.mk.injEq] at h ⊢
  obtain ⟨rfl,rfl,rfl⟩:=h
  simp only [vz hxs hc.1,hq,cond_true]
  exact ⟨_,rfl,hc.2⟩
 simp at h
theorem Tm {T:Nat→Option TI} {ev:Operand→AV} {o:Op} {c:Prop} {v:AV} {b:Option (List aA)} (h:PY t0 T ev o bx=some ⟨c,v,b⟩) (hc:c):nW (mY T ev o bx) v b:=by
 unfold PY at h
 unfold mY
 split at h
 ·exact ⟨c,h,hc⟩
 ·exact ⟨c,h,hc⟩
 ·exact ⟨c,h,hc⟩
 ·rename_i bn args ats
  simp only
  generalize args.toList.map ev=as at h ⊢
  generalize ats.toList=al at h ⊢
  split at h
  ·exact ⟨c,h,hc⟩
  ·exact ⟨c,h,hc⟩
  ·split at h
   ·rename_i te hte;simp only [hte];exact Tl h hc
   simp at h
  ·split at h
   ·rename_i te hte;simp only [hte];exact ⟨c,h,hc⟩
   simp at h
  ·split at h
   ·rename_i te hte hi
    simp only [hte,hi]
    split at h
    ·exact ⟨c,h,hc⟩
    simp at h
   ·rename_i te hte hi
    simp only [hte,hi]
    cases hs:sameBox _ _ with
    |true=>simp only [hs,cond_true] at h ⊢;exact M6 h hc
    |false=>
     simp only [hs,cond_false] at h ⊢
     split at h
     ·rename_i s es c1 v1 qp hb hap
      simp only [osI,R.mk.injEq] at h
      obtain ⟨rfl,rfl,rfl⟩:=h
      obtain ⟨c2,k1,k2⟩:=Dl hap hc.1
      simp only [hb,k1]
      exact ⟨_,rfl,k2,hc.2⟩
     simp at h
   simp at h
  simp at h
 simp at h
theorem V5 {T:Nat→Option TI} {ev:Operand→AV} {o:Op} {c:Prop} {v:AV} {b:Option (List aA)} (h:CA t0 T ev o bx=some ⟨c,v,b⟩) (hc:c):nW (lE T ev o bx) v b:=by
 cases o with
 |load ty a=>
  simp only [CA,lE] at h ⊢
  split at h
  ·rename_i ti ht;simp only [ht];exact Te h hc
  simp at h
 |store ty a x=>
  simp only [CA,lE] at h ⊢
  split at h
  ·rename_i ti ht;simp only [ht];exact P0 h hc
  simp at h
 |buildSlice ty n parts=>exact CB h hc
 |fieldAddr ty x f=>
  simp only [CA,lE] at h ⊢
  split at h
  ·rename_i ti ht
   simp only [ht]
   split at h
   ·rename_i o ft hf
    simp only [hf]
    split at h
    ·rename_i tf SR
     simp only [SR]
     cases hs:Nat.beq tf.size 0 with
     |true=>simp [hs] at h
     |false=>
     simp only [hs,cond_false] at h ⊢
     split at h
     ·rename_i hx;simp only [hx];exact ⟨c,h,hc⟩
     ·rename_i hx;simp only [hx];exact ⟨c,h,hc⟩
     ·rename_i ds hx
      simp only [hx]
      cases hb:Nat.ble o ds.length with
      |false=>simp [hb] at h
      |true=>
      simp only [hb,cond_true,R.pure,osI,R.mk.injEq] at h
      obtain ⟨rfl,rfl,rfl⟩:=h
      exact ⟨_,rfl,Nat.le_of_ble_eq_true hb⟩
     simp at h
    simp at h
   simp at h
  simp at h
 |binOp op ty x y yt=>
  simp only [CA,lE] at h ⊢
  split at h
  ·rename_i xs ys h1 h2
   simp only [h1,h2]
   cases op<;>simp only [GR] at h ⊢<;>first|exact ⟨c,h,hc⟩|simp at h
  ·rename_i p q h1 h2
   simp only [h1,h2]
   exact ⟨c,h,hc⟩
  ·rename_i t0 v0 h1 h2
   simp only [h1,h2]
   exact ⟨c,h,hc⟩
  ·rename_i h1 h2
   simp only [h1,h2]
   exact ⟨c,h,hc⟩
  rename_i hne aaR aaS aaT
  split
  ·rename_i xs ys h1 h2;exact absurd h2 (hne _ _ h1)
  ·rename_i p q h1 h2;exact absurd h2 (aaR _ _ h1)
  ·rename_i h1 h2;exact absurd h2 (aaS _ _ h1)
  ·rename_i h1 h2;exact absurd h2 (aaT h1)
  rw [Ti] at h
  split at h
  ·rename_i c' d hb;simp only [hb];exact ⟨c,h,hc⟩
  simp at h
 |unOp op ty x=>
  simp only [CA,lE,V3] at h ⊢
  exact ⟨c,h,hc⟩
 |convert s d x=>exact Tj h hc
 |slice ty x lo hi mx=>
  simp only [CA,lE] at h ⊢
  split at h
  ·rename_i l h' m h1 h2 h3
   simp only [h1,h2,h3]
   exact P1 h hc
  simp at h
 |call cl=>
  obtain ⟨callee,args,ats⟩:=cl
  cases callee with
  |builtin b=>exact JC h hc
  |_=>simp [CA] at h
 |makeFunc fn first jU=>cases fn<;>first|exact ⟨c,h,hc⟩|simp [CA] at h
 |_=>exact ⟨c,h,hc⟩
theorem LQ {T:Nat→Option TI} {ev:Operand→AV} {o:Op} {c:Prop} {v:AV} {b:Option (List aA)} (h:XM t0 T ev o bx=some ⟨c,v,b⟩) (hc:c):nW (FH T ev o bx) v b:=by
 unfold XM at h
 unfold FH
 cases hv:je ev o with
 |true=>rw [hv,cond_true] at h;rw [cond_true];exact Tm h hc
 |false=>rw [hv,cond_false] at h;rw [cond_false];exact V5 h hc
end
end Dem
end
