/- Parts of a proof, joined. -/
import Derived.Test.YtihohjnkkalgiaaGreatDoorV02
import Derived.Orders
set_option linter.all false
set_option maxRecDepth 100000
set_option maxHeartbeats 4000000
section
open Go
namespace Dem
section
variable {P:Program} {T:Nat→Option TI} {G:Nat→Option (List D)} {N:Nat} {ds:List Deferred} {β:Nat→Nat} {bx aR:List az} {w:World} {X:Nat→Prop} {s:St} {a:Act}
def O7 (ev:Operand→AV) (xs:List Operand):Prop:=∀x∈xs,(ev x).ok
theorem mX.le {FC:Nat→List AV→List az→iU→List az→Prop} {f:Nat} {args:List AV} {v:AV} (h:mX FC f args bx v) (hb:lE bx aR):mX FC f args aR v:=by
 obtain ⟨args',jO,k1,k2,k3,k4,k5⟩:=h
 refine ⟨args',jO,D4 hb k1,k2,k3,?_,k5⟩
 intro i b hi dL
 obtain ⟨b',h1,h2,h3⟩:=k4 i b hi dL
 exact ⟨b',hb i b' h1 h2,h2,h3⟩
theorem I1 {ev rM:Operand→AV} {op:Op} (h:∀x∈op.operands.toList,ev x=rM x):BY T ev op=BY T rM op:=by
 unfold BY
 split
 ·rename_i b args ats
  split
  ·rename_i x y t u ha U6
   have mx:x∈args.toList:=by rw [ha];simp
   have my:y∈args.toList:=by rw [ha];simp
   rw [h x (by simp [Op.operands,Call.operands];exact by simpa using mx),h y (by simp [Op.operands,Call.operands];exact by simpa using my)]
  rfl
 rfl
inductive YG (FC:Nat→List AV→List az→iU→List az→Prop) (T:Nat→Option TI) (g:Bool) (ev:Operand→AV) (bx:List az):Op→AV→Prop
 |pick (c a b:Operand) (p:Bool) (hc:(ev c).aS=.d (.bool p)) (hg:g=true→(ev c).ok∧(p=true→(ev a).ok)∧(p=false→(ev b).ok)):YG FC T g ev bx (.pick c a b) (zC p (ev a).aS (ev b).aS)
 |call (f:Operand) (args:Array Operand) (ats:Array TypeId) (i:Nat) (gJ:List AV) (v:AV) (hf:lW (ev f).aS (args.toList.map fun x=>(ev x).aS)=some (i,gJ))
  (hg:g=true→((ev f).ok∧O7 ev args.toList)∧mX FC i gJ bx v):
  YG FC T g ev bx (.call {callee:=.value f,args:=args,argTypes:=ats}) v
 |inv (f:Operand) (nm:String) (args:Array Operand) (ats:Array TypeId) (i:Nat) (gJ:List AV) (v:AV) (hf:Cq T (ev f).aS nm (args.toList.map fun x=>(ev x).aS)=some (i,gJ))
  (hg:g=true→((ev f).ok∧O7 ev args.toList)∧mX FC i gJ bx v):
  YG FC T g ev bx (.call {callee:=.invoke f nm,args:=args,argTypes:=ats}) v
 |idx (t:Nat) (x i:Operand) (c:Prop) (ds ds':List D) (hi:zF T t (ev x).aS (ev i).aS=some (c,ds)) (hg:g=true→(O7 ev [x,i]∧c)∧ds=ds'):YG FC T g ev bx (.indexAddr t x i) (.ep ds')
 |no (op:Op) (v:AV) (hg:g=false):YG FC T g ev bx op v
 |app (op:Op) (c:Prop) (es:List (List D)) (hr:BY T (fun x=>(ev x).aS) op=some (c,es)) (hg:g=true→O7 ev op.operands.toList∧c):YG FC T g ev bx op (.d (.sl es))
 |op (op:Op) (c:Prop) (v:AV) (hr:Ff T (fun x=>(ev x).aS) op bx=some ⟨c,v,none⟩) (hg:g=true→O7 ev op.operands.toList∧c):YG FC T g ev bx op v
variable {FC:Nat→List AV→List az→iU→List az→Prop}
theorem uU {g:Bool} {o:Oper} {K:AV→Prop} (h:stepG FC T G g o s K):∃v,YG FC T g (bW G s.sl) s.bx o.op v∧K v:=by
 rcases h with ⟨hg,v,hK⟩|h|⟨c,es,hr,hg,hK⟩
 ·exact ⟨v,.no _ v hg,hK⟩
 rotate_left
 ·exact ⟨_,.app _ c es hr (fun h=>⟨fun x hx=>dx (hg h).1 x hx,(hg h).2⟩),hK⟩
 unfold wq at h
 split at h
 ·rename_i c x y ho
  split at h
  ·rename_i p hc
   rw [ho]
   exact ⟨_,.pick c x y p hc h.1,h.2⟩
  exact h.elim
 ·rename_i f args ats ho
  split at h
  ·rename_i i gJ F0
   obtain ⟨v,hg,hK⟩:=h
   rw [ho]
   exact ⟨v,.call f args ats i gJ v F0 (fun hg'=>⟨⟨(hg hg').1.1,fun x hx=>dx (hg hg').1.2 x hx⟩,(hg hg').2⟩),hK⟩
  exact h.elim
 ·rename_i f nm args ats ho
  split at h
  ·rename_i i gJ F0
   obtain ⟨v,hg,hK⟩:=h
   rw [ho]
   exact ⟨v,.inv f nm args ats i gJ v F0 (fun hg'=>⟨⟨(hg hg').1.1,fun x hx=>dx (hg hg').1.2 x hx⟩,(hg hg').2⟩),hK⟩
  exact h.elim
 split at h
 ·rename_i c ds hi
  obtain ⟨ds',hg,hK⟩:=h
  split at hi
  ·rename_i t x i ho
   rw [ho] at hg ⊢
   exact ⟨_,.idx t x i c ds ds' hi (fun hg'=>⟨⟨fun y hy=>dx (hg hg').1.1 y (by simpa [Op.operands] using hy),(hg hg').1.2⟩,(hg hg').2⟩),hK⟩
  simp at hi
 split at h
 ·rename_i c v hr
  exact ⟨v,.op _ c v hr (fun hg=>⟨fun x hx=>dx (h.1 hg).1 x hx,(h.1 hg).2⟩),h.2⟩
 exact h.elim
theorem YG.B6 {g:Bool} {ev rM:Operand→AV} {op:Op} {v:AV} (h:YG FC T g ev bx op v) (iJ:∀x∈op.operands.toList,ev x=rM x) (hb:lE bx aR):YG FC T g rM aR op v:=by
 cases h with
 |pick c x y p hc hg=>
  have e1:=iJ c (by simp [Op.operands]);have e2:=iJ x (by simp [Op.operands]);have e3:=iJ y (by simp [Op.operands])
  rw [e1] at hc hg;rw [e2] at hg ⊢;rw [e3] at hg ⊢
  exact .pick c x y p hc hg
 |call f args ats i gJ v hf hg=>
  have e1:=iJ f (by simp [Op.operands,Call.operands])
  have e2:∀x∈args.toList,ev x=rM x:=fun x hx=>iJ x (by simp [Op.operands,Call.operands];exact .inr (by simpa using hx))
  rw [e1,List.map_congr_left (g:=fun x=>(rM x).aS) fun x hx=>by rw [e2 x hx]] at hf
  refine .call f args ats i gJ v hf (fun hg'=>?_)
  obtain ⟨⟨k1,k2⟩,k3⟩:=hg hg'
  exact ⟨⟨e1▸k1,fun x hx=>e2 x hx▸k2 x hx⟩,k3.le hb⟩
 |inv f nm args ats i gJ v hf hg=>
  have e1:=iJ f (by simp [Op.operands,Call.operands])
  have e2:∀x∈args.toList,ev x=rM x:=fun x hx=>iJ x (by simp [Op.operands,Call.operands];exact .inr (by simpa using hx))
  rw [e1,List.map_congr_left (g:=fun x=>(rM x).aS) fun x hx=>by rw [e2 x hx]] at hf
  refine .inv f nm args ats i gJ v hf (fun hg'=>?_)
  obtain ⟨⟨k1,k2⟩,k3⟩:=hg hg'
  exact ⟨⟨e1▸k1,fun x hx=>e2 x hx▸k2 x hx⟩,k3.le hb⟩
 |idx t x i c ds ds' hi hg=>
  have e1:=iJ x (by simp [Op.operands]);have e2:=iJ i (by simp [Op.operands])
  rw [e1,e2] at hi
  refine .idx t x i c ds ds' hi (fun hg'=>⟨⟨fun y hy=>?_,(hg hg').1.2⟩,(hg hg').2⟩)
  have:=(hg hg').1.1 y hy
  rw [iJ y (by simpa [Op.operands] using hy)] at this
  exact this
 |no _ v hg=>exact .no _ v hg
 |app _ c es hr hg=>
  refine .app _ c es ?_ (fun hg'=>⟨fun x hx=>iJ x hx▸(hg hg').1 x hx,(hg hg').2⟩)
  rw [←I1 (ev:=fun x=>(ev x).aS) (rM:=fun x=>(rM x).aS) (fun x hx=>by rw [iJ x hx])]
  exact hr
 |op _ c v hr hg=>
  refine .op _ c v ?_ (fun hg'=>⟨fun x hx=>iJ x hx▸(hg hg').1 x hx,(hg hg').2⟩)
  rw [←MC (ev:=fun x=>(ev x).aS) (rM:=fun x=>(rM x).aS) (fun x hx=>by rw [iJ x hx])]
  exact Vc hb hr
theorem Gc (hT:kr P T) (hF:Fr G N ds β w X s a) {o:Oper} {v:AV} {next:Act→World→Prop} {Qc:Exit→Act→World→Prop}
 (h:YG (bA P G) T true (bW G s.sl) s.bx o.op v) (hn:z8 G β s.bx w X a o.dst (fun v' bx=>v'=v∧bx=s.bx) next):o.wp P a w next Qc:=by
 have iJ:∀x,(bW G s.sl x).ok→aj β s.bx w (bg β s.bx w X) (bW G s.sl x).aS (a.eval x):=fun x hx=>ke (hF.eval x) hx
 unfold Oper.wp
 generalize ho:o.op=op at h
 cases h with
 |pick c x y p hc hg=>
  obtain ⟨h1,h2,h3⟩:=hg rfl
  have wh:=iJ c h1
  rw [hc] at wh;simp only [aj,aL] at wh
  refine cQ (v:=_) (aR:=s.bx) (dz.pure (u:=if p then a.eval x else a.eval y) hF.cx ?_ (Ab (fun hp=>iJ x (h2 hp)) (fun hp=>iJ y (h3 hp)))) ⟨rfl,rfl⟩ hn
  simp [execOp,ho,wh,asBool]
 |call f args ats i gJ v F0 hg=>
  obtain ⟨⟨h1,h2⟩,hq⟩:=hg rfl
  obtain ⟨fs,cs,e1,e2⟩:=mu F0 (iJ f h1) (iC args.toList (fun y hy=>iJ y (h2 y hy)))
  rw [kG ho e1]
  refine gM (lC (K:=fun v' bx=>v'=v∧bx=s.bx) hF.cx e2 hq ⟨rfl,rfl⟩) ?_ ?_ ?_
  ·rintro v w' ⟨β',aR,v',u,e,ex,cx,hv,hK⟩
   cases e
   exact hn β' aR w' v' v ex cx hv hK
  ·rintro ch w' ⟨_,_,_,_,e,_⟩;cases e
  rintro w' ⟨_,_,_,_,e,_⟩;cases e
 |inv f nm args ats i gJ v F0 hg=>
  obtain ⟨⟨h1,h2⟩,hq⟩:=hg rfl
  obtain ⟨t,ti,u,k1,k2,k3,e2⟩:=CD hT F0 (iJ f h1) (iC args.toList (fun y hy=>iJ y (h2 y hy)))
  rw [xU hT ho k1 k2 k3]
  refine gM (lC (K:=fun v' bx=>v'=v∧bx=s.bx) hF.cx e2 hq ⟨rfl,rfl⟩) ?_ ?_ ?_
  ·rintro v w' ⟨β',aR,v',u,e,ex,cx,hv,hK⟩
   cases e
   exact hn β' aR w' v' v ex cx hv hK
  ·rintro ch w' ⟨_,_,_,_,e,_⟩;cases e
  rintro w' ⟨_,_,_,_,e,_⟩;cases e
 |idx t x i c ds ds' hi hg=>
  obtain ⟨⟨hk,hc⟩,rfl⟩:=hg rfl
  obtain ⟨r,k1,k2⟩:=Aa (P:=P) (w:=w) hT hF.cx hi hc (iJ x (hk x (by simp))) (iJ i (hk i (by simp)))
  refine cQ (v:=_) (aR:=s.bx) (dz.pure hF.cx ?_ k2) ⟨rfl,rfl⟩ hn
  simp only [execOp,ho]
  exact bJ _ k1
 |no _ v hg=>cases hg
 |app _ c es hr hg=>
  obtain ⟨h1,hc⟩:=hg rfl
  subst ho
  exact cQ (CC (P:=P) hT hF.cx (ρ:=a.eval) (fun x hx=>iJ x (h1 x hx)) hr hc) ⟨rfl,rfl⟩ hn
 |op _ c v hr hg=>
  obtain ⟨h1,hc⟩:=hg rfl
  subst ho
  exact cQ (zY (P:=P) hT hF.cx (ρ:=a.eval) (fun x hx=>iJ x (h1 x hx)) hr hc) ⟨rfl,rfl⟩ hn
theorem Gd {k:Nat} (h:bx[k]?=some .bt) (B:az) {i:Nat} (hi:bT bx i):i≠k∧bT (bx.set k B) i:=by
 obtain ⟨b,h1,h2⟩:=hi
 have hne:i≠k:=by rintro rfl;rw [h] at h1;simp at h1;subst h1;simp [az.born] at h2
 exact ⟨hne,b,by rw [List.getElem?_set_ne (Ne.symm hne)];exact h1,h2⟩
theorem qd {k:Nat} (h:bx[k]?=some .bt) (o:Obj) (B:az):Ext β bx w (kZ β k w.heap.size) (bx.set k B) {w with heap:=w.heap.push o}:=by
 refine ⟨rfl,rfl,rfl,by simp,fun j hj _=>jh w o j hj,fun j c e f hj=>⟨c,by rw [jh w o j (ff hj)];exact hj,rfl⟩,?_,?_⟩
 ·intro i hi
  obtain ⟨h1,h2⟩:=Gd h B hi
  exact ⟨dc _ _ h1,h2⟩
 intro i b hb hl
 rcases aM hb with ⟨rfl,_,_⟩|⟨hne,hb'⟩
 ·exact .inl (by rw [bq];exact Nat.le_refl _)
 exact .inr ⟨i,b,hb',hl,(dc _ _ hne).symm⟩
theorem Ge (cx:cJ G β bx w X) {k:Nat} (h:bx[k]?=some .bt) (o:Obj) (B:az)
 (hB:dj (kZ β k w.heap.size) (bx.set k B) {w with heap:=w.heap.push o} (bg (kZ β k w.heap.size) (bx.set k B) {w with heap:=w.heap.push o} X) B w.heap.size):
 cJ G (kZ β k w.heap.size) (bx.set k B) {w with heap:=w.heap.push o} X:=by
 refine cx.step (qd h o B) ?_ ?_
 ·intro i b hb
  rcases aM hb with ⟨rfl,rfl,_⟩|⟨hne,hb'⟩
  ·exact .inr (by rw [bq];exact hB)
  exact .inl ⟨hb',fun hl=>jh w o _ ((cx.box i b hb').fL hl)⟩
 intro i j bi bj h1 h2 l1 l2 he
 rcases aM h1 with ⟨rfl,rfl,_⟩|⟨hi,h3⟩<;>rcases aM h2 with ⟨rfl,rfl,_⟩|⟨hj,h4⟩
 ·rfl
 ·rw [bq,dc _ _ hj] at he
  have:=(cx.box j bj h4).fL l2;omega
 ·rw [bq,dc _ _ hi] at he
  have:=(cx.box i bi h3).fL l1;omega
 rw [dc _ _ hi,dc _ _ hj] at he
 exact cx.inj i j bi bj h3 h4 l1 l2 he
theorem xY (cx:cJ G β bx w X) {k:Nat} (hk:bx[k]?=some .bt) (t:Nat) {x:AV} {u:Value} {cs:List AV} (hx:x.cells?=some cs) (h:aj β bx w (bg β bx w X) x u):
 ∃β' w',(newVar t u).run P w=.ok ⟨β' k,0,none⟩ w'∧Ext β bx w β' (bx.set k (.var cs)) w'∧cJ G β' (bx.set k (.var cs)) w' X:=by
 obtain ⟨vs,h1,h2,h3⟩:=nO hx h
 refine ⟨kZ β k w.heap.size,{w with heap:=w.heap.push (.cells ⟨vs⟩ t)},?_,qd hk _ _,Ge cx hk _ _ ?_⟩
 ·simp [newVar,newRow,newObj,Sem.run,h1,bq]
 refine ⟨⟨vs⟩,t,jk _ _,?_⟩
 exact ak.mono ((qd (β:=β) (bx:=bx) (w:=w) hk (.cells ⟨vs⟩ t) (.var cs)).eY X) _ _ h2
theorem D5 {sl sq:List (Nat×AV)} {o:Oper} (h:∀x∈o.op.operands.toList,bW G sl x=bW G sq x):iB T G sl o=iB T G sq o:=by
 obtain ⟨dst,op,type,pos,after,guard⟩:=o
 unfold iB
 cases guard with
 |some g=>rfl
 |none=>
  cases op<;>simp only []
  rename_i t x
  rw [h x (by simp [Op.operands])]
theorem Gf (hT:kr P T) (hF:Fr G N ds β w X s a) {o:Oper} {cs:List AV} (hb:iB T G s.sl o=some cs) {k:Nat} (hk:s.bx[k]?=some .bt) {next:Act→World→Prop} {Qc:Exit→Act→World→Prop}
 (hn:z8 G β s.bx w X a o.dst (fun v bx=>v=.ptr k 0∧bx=s.bx.set k (.var cs)) next):o.wp P a w next Qc:=by
 obtain ⟨dst,op,type,pos,after,guard⟩:=o
 have hlt:k<s.bx.length:=jw hk
 have dL:bT (s.bx.set k (.var cs)) k:=⟨.var cs,jz hk,rfl⟩
 unfold iB at hb
 unfold Oper.wp
 cases guard with
 |some g=>simp at hb
 |none=>
  simp only at hb
  split at hb
  ·rename_i t
   cases ht:T t with
   |none=>simp [ht] at hb
   |some ti=>
   simp only [ht] at hb
   obtain ⟨i,d,h1,h2,h3,h4,h5,h6⟩:=aK (hT.ti _ _ ht)
   cases yZ:i.zero with
   |none=>rw [h6,yZ] at hb;simp [AV.cells?] at hb
   |some z=>
   rw [h6,yZ] at hb
   obtain ⟨β',w',k1,k2,k3⟩:=xY (P:=P) hF.cx hk t hb (uE z)
   have hr:(execOp a.eval {dst:=dst,op:=.alloc t,type:=type,pos:=pos,after:=after,guard:=none}).run P w=.ok (.value (.pointer (some ⟨β' k,0,none⟩))) w':=
    bJ _ (by simp [Instr.alloc,gL h1 yZ,k1])
   rw [hr]
   exact hn β' _ w' (.ptr k 0) _ k2 k3 (by simp only [aj];exact ⟨trv,dL⟩) ⟨rfl,rfl⟩
  ·rename_i t x
   obtain ⟨β',w',k1,k2,k3⟩:=xY (P:=P) hF.cx hk t hb (hF.eval x)
   have hr:(execOp a.eval {dst:=dst,op:=.box t x,type:=type,pos:=pos,after:=after,guard:=none}).run P w=.ok (.value (.pointer (some ⟨β' k,0,none⟩))) w':=
    bJ _ (by simp [Instr.box,k1])
   rw [hr]
   exact hn β' _ w' (.ptr k 0) _ k2 k3 (by simp only [aj];exact ⟨trv,dL⟩) ⟨rfl,rfl⟩
  simp at hb
theorem I2 {β':Nat→Nat} {w':World} {sz n k:Nat} {es:List (List D)} {pS:List az} {u:Value} (cx:cJ G β bx w X) (hk:bx[k]?=some .bt) (ex:Ext β [] w β' [.row sz es] w') (mP:cJ G β' [.row sz es] w' (p8 β pS X))
 (hv:(∀r∈es,∀x∈r,x.flat=true)∨pS=bx) (hr:aj β' [.row sz es] w' (bg β' [.row sz es] w' (p8 β pS X)) (.ow 0 sz n) u):
 Ext β bx w (kZ β k (β' 0)) (bx.set k (.row sz es)) w'∧cJ G (kZ β k (β' 0)) (bx.set k (.row sz es)) w' X∧
  aj (kZ β k (β' 0)) (bx.set k (.row sz es)) w' (bg (kZ β k (β' 0)) (bx.set k (.row sz es)) w' X) (.ow k sz n) u:=by
 have e0:=uN (bx:=bx) ex
 have hlk:k<bx.length:=jw hk
 have hnew:az.live (.row sz es)=true→w.heap.size≤β' 0:=by
  intro hl
  rcases ex.live 0 (.row sz es) rfl hl with h|⟨j,b',h1,_⟩
  ·exact h
  simp at h1
 have e1:Ext β bx w (kZ β k (β' 0)) (bx.set k (.row sz es)) w':=by
  refine ⟨e0.os,e0.tape,e0.output,e0.size,e0.block,e0.shape,?_,?_⟩
  ·intro i hi
   obtain ⟨h1,h2⟩:=Gd hk (.row sz es) hi
   exact ⟨dc _ _ h1,h2⟩
  intro i b h hl
  rcases aM h with ⟨rfl,rfl,_⟩|⟨hne,h1⟩
  ·exact .inl (by rw [bq];exact hnew hl)
  exact .inr ⟨i,b,h1,hl,(dc _ _ hne).symm⟩
 have hlt:∀i b,bx[i]?=some b→b.live=true→β i<w.heap.size:=fun i b h hl=>dj.fL (cx.box i b h) hl
 have hok:pS=bx→∀blk,bg β' [.row sz es] w' (p8 β pS X) blk→bg (kZ β k (β' 0)) (bx.set k (.row sz es)) w' X blk:=by
  rintro rfl blk ⟨k1,k2,k3⟩
  refine ⟨k1,fun hX=>k2 (.inl hX),?_⟩
  intro i b h hl
  rcases aM h with ⟨rfl,rfl,_⟩|⟨hne,h1⟩
  ·rw [bq];exact k3 0 _ rfl hl
  rw [dc _ _ hne];exact fun he=>k2 (.inr ⟨i,b,h1,hl,he⟩)
 refine ⟨e1,cx.step e1 ?_ ?_,?_⟩
 ·intro i b h
  rcases aM h with ⟨rfl,rfl,_⟩|⟨hne,h1⟩
  ·refine .inr ?_
   have:=mP.box 0 _ rfl
   rw [bq]
   simp only [dj] at this ⊢
   refine this.imp id ?_
   rintro ⟨c,e,h1,h2⟩
   refine ⟨c,e,h1,?_⟩
   rcases hv with hfl|hb
   ·exact oI _ _ hfl h2
   exact ay.mono (fun blk hb'=>⟨hok hb blk hb',rfl⟩) _ _ (fun _=>rfl) _ _ h2
  exact .inl ⟨h1,fun hl=>ex.block _ (hlt i b h1 hl) (by simp)⟩
 ·intro i j bi bj hi hj mQ oJ he
  rcases aM hi with ⟨rfl,rfl,_⟩|⟨hni,h1⟩<;>rcases aM hj with ⟨rfl,rfl,_⟩|⟨hnj,h2⟩
  ·rfl
  ·rw [bq,dc _ _ hnj] at he
   have:=hlt j bj h2 oJ;have:=hnew mQ;omega
  ·rw [bq,dc _ _ hni] at he
   have:=hlt i bi h1 mQ;have:=hnew oJ;omega
  rw [dc _ _ hni,dc _ _ hnj] at he
  exact cx.inj i j bi bj h1 h2 mQ oJ he
 simp only [aj] at hr ⊢
 obtain ⟨_,h2⟩:=hr
 refine ⟨⟨_,jz hk,rfl⟩,?_⟩
 rw [bq];exact h2
theorem Ai (hT:kr P T) (hF:Fr G N ds β w X s a) {o:Oper} {k:Nat} {v0:AV} {B0:az} (h:lY (bA P G) G o s.sl s.bx k (fun v B=>v=v0∧B=B0)) {next:Act→World→Prop} {Qc:Exit→Act→World→Prop}
 (hn:z8 G β s.bx w X a o.dst (fun v bx=>v=v0∧bx=s.bx.set k B0) next):o.wp P a w next Qc:=by
 obtain ⟨f,args,ats,i,gJ,args',sz,n,es,ho,F0,⟨h1,h2⟩,h3,h4,h5,h6,hk,rfl,rfl⟩:=h
 have iJ:∀x,(bW G s.sl x).ok→aj β s.bx w (bg β s.bx w X) (bW G s.sl x).aS (a.eval x):=fun x hx=>ke (hF.eval x) hx
 obtain ⟨fs,cs,e1,e2⟩:=mu F0 (iJ f h1) (iC args.toList (fun y hy=>iJ y (dx h2 y hy)))
 unfold Oper.wp
 rw [kG ho e1]
 obtain ⟨x1,c1,r1⟩:=lR gJ s.bx _ _ hF.cx h3 e2
 have cn:=FV c1
 have hnn:ak β [] w (bg β [] w (p8 β (fw s.bx gJ) X)) _ _:=lQ (fun blk hb=>FW blk hb) _ _ h4 r1
 refine gM (h5 β w _ _ cn hnn) ?_ ?_ ?_
 ·rintro u w' ⟨β',ex,mP,hr⟩
  simp only [mh] at hr
  obtain ⟨y1,y2,y3⟩:=I2 hF.cx hk ex mP (by
   rcases h6 with hfl|OV
   ·exact .inl hfl
   refine .inr ?_
   rw [j9 s.bx OV]) hr
  exact hn _ _ w' _ u y1 y2 y3 ⟨rfl,rfl⟩
 ·rintro ch w' ⟨_,_,_,hr⟩;exact hr.elim
 rintro w' ⟨_,_,_,hr⟩;exact hr.elim
end
end Dem
end
section
open Go
namespace Dem
structure It where
 dst:Option Nat
 v:AV
 bi:Option (Nat×az)
def dB (m:Nat→Bool):Nat→List It→List (Nat×AV)→List (Nat×AV)
 |_,[],sl=>sl
 |i,t::r,sl=>dB m (i+1) r (bif m i then eJ t.dst t.v sl else sl)
def qf (t:It) (bx:List az):List az:=
 match t.bi with
 |some (k,B)=>bx.set k B
 |none=>bx
def fj (m:Nat→Bool):Nat→List It→List az→List az
 |_,[],bx=>bx
 |i,t::r,bx=>fj m (i+1) r (bif m i then qf t bx else bx)
theorem nT (t:Nat) (dst:Option Nat) (v:AV) (sl:List (Nat×AV)):gK t (eJ dst v sl)=if dst=some t then v else gK t sl:=by
 cases dst with
 |none=>simp [eJ]
 |some d=>
  simp only [eJ,oK,osI]
  by_cases h:t=d
  ·subst h;simp
  have:d≠t:=fun e=>h e.symm
  simp [h,this]
theorem qg {t:Nat} {m m':Nat→Bool}:∀(cK:List It) (i:Nat) (sl sq:List (Nat×AV)),gK t sl=gK t sq→
 (∀j it,cK[j]?=some it→it.dst=some t→m (i+j)=m' (i+j))→gK t (dB m i cK sl)=gK t (dB m' i cK sq)
 |[],_,_,_,h,_=>h
 |it::r,i,sl,sq,h,hm=>by
  simp only [dB]
  refine qg r (i+1) _ _ ?_ (fun j it' hj hd=>by have:=hm (j+1) it' (by simpa using hj) hd;simpa [Nat.add_assoc,Nat.add_comm 1 j] using this)
  by_cases hd:it.dst=some t
  ·have:=hm 0 it rfl hd
   rw [Nat.add_zero] at this
   rw [this]
   cases m' i<;>simp [nT,hd,h]
  cases m i<;>cases m' i<;>simp [nT,hd,h]
theorem Aj {t:Nat} {m:Nat→Bool}:∀(cK:List It) (i:Nat) (sl:List (Nat×AV)),(∀j it,cK[j]?=some it→it.dst=some t→m (i+j)=false)→gK t (dB m i cK sl)=gK t sl
 |[],_,_,_=>rfl
 |it::r,i,sl,hm=>by
  simp only [dB]
  rw [Aj r (i+1) _ (fun j it' hj hd=>by have:=hm (j+1) it' (by simpa using hj) hd;simpa [Nat.add_assoc,Nat.add_comm 1 j] using this)]
  by_cases hd:it.dst=some t
  ·have:=hm 0 it rfl hd
   rw [Nat.add_zero] at this
   simp [this]
  cases m i<;>simp [nT,hd]
theorem kH {m m':Nat→Bool}:∀(cK:List It) (i:Nat) (sl:List (Nat×AV)),(∀j,j<cK.length→m (i+j)=m' (i+j))→dB m i cK sl=dB m' i cK sl
 |[],_,_,_=>rfl
 |it::r,i,sl,hm=>by
  simp only [dB]
  have h0:=hm 0 (by simp)
  rw [Nat.add_zero] at h0
  rw [h0]
  exact kH r (i+1) _ (fun j hj=>by have:=hm (j+1) (by simpa using hj);simpa [Nat.add_assoc,Nat.add_comm 1 j] using this)
theorem m5 {m m':Nat→Bool}:∀(cK:List It) (i:Nat) (bx:List az),(∀j,j<cK.length→m (i+j)=m' (i+j))→fj m i cK bx=fj m' i cK bx
 |[],_,_,_=>rfl
 |it::r,i,bx,hm=>by
  simp only [fj]
  have h0:=hm 0 (by simp)
  rw [Nat.add_zero] at h0
  rw [h0]
  exact m5 r (i+1) _ (fun j hj=>by have:=hm (j+1) (by simpa using hj);simpa [Nat.add_assoc,Nat.add_comm 1 j] using this)
theorem Ak:∀(cK:List It) (i j:Nat) (sl:List (Nat×AV)),dB (fun _=>true) i (cK.take j) sl=dB (fun x=>decide (x<i+j)) i cK sl
 |[],i,j,sl=>by simp [dB]
 |it::r,i,0,sl=>by
  simp only [List.take_zero,dB,Nat.add_zero,Nat.lt_irrefl,decide_false,cond_false]
  have:∀(r:List It) (k:Nat),i≤k→dB (fun x=>decide (x<i)) k r sl=sl:=by
   intro r
   induction r with
   |nil=>intro k _;rfl
   |cons t r ih=>
    intro k hk
    simp only [dB,show ¬k<i by omega,decide_false,cond_false]
    exact ih (k+1) (by omega)
  exact (this r (i+1) (by omega)).symm
 |it::r,i,j+1,sl=>by
  simp only [List.take_succ_cons,dB,cond_true,show i<i+(j+1) by omega,decide_true]
  rw [Ak r (i+1) j]
  exact kH r (i+1) _ (fun k _=>by simp only [show i+1+j=i+(j+1) by omega])
theorem Al {t:Nat} {m m':Nat→Bool}:∀(cK:List It) (i j0:Nat) (Li:It) (sl:List (Nat×AV)),cK[j0]?=some Li→m (i+j0)=false→m' (i+j0)=true→(∀x,x≠i+j0→m' x=m x)→
 (∀j it,cK[j]?=some it→j0<j→m (i+j)=true→∀d,Li.dst=some d→it.dst≠some d)→gK t (dB m' i cK sl)=gK t (eJ Li.dst Li.v (dB m i cK sl))
 |[],_,_,_,_,h,_,_,_,_=>by simp at h
 |it::r,i,0,Li,sl,h,h1,h2,h3,h4=>by
  simp at h;subst h
  simp only [Nat.add_zero] at h1 h2
  simp only [dB,h1,h2,cond_true,cond_false]
  rw [kH (m:=m') (m':=m) r (i+1) _ (fun j _=>h3 _ (by omega)),nT]
  by_cases hd:it.dst=some t
  ·rw [if_pos hd,Aj r (i+1) _ (fun j it' hj Vb=>?_),nT,if_pos hd]
   cases hq:m (i+1+j) with
   |false=>rfl
   |true=>exact absurd Vb (h4 (j+1) it' (by simpa using hj) (by omega) (by rw [show i+(j+1)=i+1+j by omega];exact hq) t hd)
  rw [if_neg hd]
  exact qg r (i+1) _ _ (by rw [nT,if_neg hd]) (fun _ _ _ _=>rfl)
 |it::r,i,j0+1,Li,sl,h,h1,h2,h3,h4=>by
  simp only [dB]
  rw [h3 i (by omega)]
  exact Al r (i+1) j0 Li _ (by simpa using h) (by rw [show i+1+j0=i+(j0+1) by omega];exact h1) (by rw [show i+1+j0=i+(j0+1) by omega];exact h2)
   (fun x hx=>h3 x (by omega)) (fun j it' hj hlt hm=>h4 (j+1) it' (by simpa using hj) (by omega) (by rw [show i+(j+1)=i+1+j by omega];exact hm))
def kI:Nat→List It→Prop
 |_,[]=>True
 |k,t::r=>match t.bi with
  |some (x,_)=>x=k∧kI (k+1) r
  |none=>kI k r
theorem kI.ge:∀{cK:List It} {k:Nat},kI k cK→∀{j:Nat} {it:It} {x:Nat} {cs:az},cK[j]?=some it→it.bi=some (x,cs)→k≤x
 |[],_,_,_,_,_,_,h,_=>by simp at h
 |t::r,k,hk,0,it,x,cs,h,hb=>by
  simp at h;subst h
  simp only [kI,hb] at hk
  omega
 |t::r,k,hk,j+1,it,x,cs,h,hb=>by
  simp only [kI] at hk
  split at hk
  ·have:=hk.2.ge (j:=j) (by simpa using h) hb;omega
  exact kI.ge hk (j:=j) (by simpa using h) hb
theorem kI.apart:∀{cK:List It} {k:Nat},kI k cK→∀{j j':Nat} {it it':It} {x x':Nat} {cs cs':az},cK[j]?=some it→it.bi=some (x,cs)→cK[j']?=some it'→it'.bi=some (x',cs')→j≠j'→x≠x'
 |[],_,_,_,_,_,_,_,_,_,_,h,_,_,_,_=>by simp at h
 |t::r,k,hk,0,0,_,_,_,_,_,_,_,_,_,_,hne=>absurd rfl hne
 |t::r,k,hk,0,j'+1,it,it',x,x',cs,cs',h,hb,h',hb',_=>by
  simp at h;subst h
  simp only [kI,hb] at hk
  have:=hk.2.ge (j:=j') (by simpa using h') hb';omega
 |t::r,k,hk,j+1,0,it,it',x,x',cs,cs',h,hb,h',hb',_=>by
  simp at h';subst h'
  simp only [kI,hb'] at hk
  have:=hk.2.ge (j:=j) (by simpa using h) hb;omega
 |t::r,k,hk,j+1,j'+1,it,it',x,x',cs,cs',h,hb,h',hb',hne=>by
  have hk':∃k',kI k' r:=by
   simp only [kI] at hk
   split at hk
   ·exact ⟨_,hk.2⟩
   exact ⟨_,hk⟩
  obtain ⟨k',hk'⟩:=hk'
  exact kI.apart hk' (j:=j) (j':=j') (by simpa using h) hb (by simpa using h') hb' (by omega)
theorem CJ {m:Nat→Bool} {x:Nat}:∀(cK:List It) (i:Nat) (bx:List az),(∀j it y cs,cK[j]?=some it→m (i+j)=true→it.bi=some (y,cs)→y≠x)→(fj m i cK bx)[x]?=bx[x]?
 |[],_,_,_=>rfl
 |t::r,i,bx,h=>by
  simp only [fj]
  rw [CJ r (i+1) _ (fun j it y cs hj hm hb=>h (j+1) it y cs (by simpa using hj) (by rw [show i+(j+1)=i+1+j by omega];exact hm) hb)]
  cases hm:m i with
  |false=>rfl
  |true=>
   simp only [cond_true,qf]
   split
   ·rename_i k cs hb
    have:=h 0 t k cs rfl (by simpa using hm) hb
    rw [List.getElem?_set_ne this]
   rfl
theorem CK {m:Nat→Bool} {x:Nat} {B:az}:∀(cK:List It) (i:Nat) (bx:List az),(∀j it y cs,cK[j]?=some it→m (i+j)=true→it.bi=some (y,cs)→y≠x)→fj m i cK (bx.set x B)=(fj m i cK bx).set x B
 |[],_,_,_=>rfl
 |t::r,i,bx,h=>by
  simp only [fj]
  rw [←CK r (i+1) _ (fun j it y cs hj hm hb=>h (j+1) it y cs (by simpa using hj) (by rw [show i+(j+1)=i+1+j by omega];exact hm) hb)]
  congr 1
  cases hm:m i with
  |false=>rfl
  |true=>
   simp only [cond_true,qf]
   split
   ·rename_i k cs hb
    have:=h 0 t k cs rfl (by simpa using hm) hb
    rw [List.set_comm _ _ (Ne.symm this)]
   rfl
theorem Am {m m':Nat→Bool}:∀(cK:List It) (i j0:Nat) (Li:It) (bx:List az),cK[j0]?=some Li→m (i+j0)=false→m' (i+j0)=true→(∀x,x≠i+j0→m' x=m x)→
 (∀j it y cs x cs0,cK[j]?=some it→j≠j0→it.bi=some (y,cs)→Li.bi=some (x,cs0)→y≠x)→fj m' i cK bx=qf Li (fj m i cK bx)
 |[],_,_,_,_,h,_,_,_,_=>by simp at h
 |t::r,i,0,Li,bx,h,h1,h2,h3,h4=>by
  simp at h;subst h
  simp only [Nat.add_zero] at h1 h2
  simp only [fj,h1,h2,cond_true,cond_false]
  rw [m5 (m:=m') (m':=m) r (i+1) _ (fun j _=>h3 _ (by omega))]
  unfold qf
  split
  ·rename_i k cs hb
   exact CK r (i+1) bx (fun j it y cs' hj _ hb'=>h4 (j+1) it y cs' k cs (by simpa using hj) (by omega) hb' hb)
  rfl
 |t::r,i,j0+1,Li,bx,h,h1,h2,h3,h4=>by
  simp only [fj]
  rw [h3 i (by omega)]
  exact Am r (i+1) j0 Li _ (by simpa using h) (by rw [show i+1+j0=i+(j0+1) by omega];exact h1) (by rw [show i+1+j0=i+(j0+1) by omega];exact h2)
   (fun x hx=>h3 x (by omega)) (fun j it y cs x cs0 hj hne=>h4 (j+1) it y cs x cs0 (by simpa using hj) (by omega))
theorem Gg {m:Nat→Bool} {bC:List az}:∀(cK:List It) (i:Nat) (bx:List az),lE bC bx→(∀(j:Nat) (it:It) (y:Nat) (cs:az),cK[j]?=some it→it.bi=some (y,cs)→bC[y]?=some .bt)→lE bC (fj m i cK bx)
 |[],_,_,h,_=>h
 |t::r,i,bx,h,hu=>by
  simp only [fj]
  refine Gg r (i+1) _ ?_ (fun j it y cs hj=>hu (j+1) it y cs (by simpa using hj))
  cases m i with
  |false=>exact h
  |true=>
   simp only [cond_true,qf]
   split
   ·rename_i k cs hb
    have h0:=hu 0 t k cs rfl hb
    intro x b hx dL
    by_cases hxk:k=x
    ·subst hxk;rw [h0] at hx;simp at hx;subst hx;simp [az.born] at dL
    rw [List.getElem?_set_ne hxk];exact h x b hx dL
   exact h
end Dem
end
section
open Go
namespace Dem
theorem uV:∀(l:List Oper) (acc:List Nat),(cq l acc).take acc.length=acc
 |[],acc=>by simp [cq]
 |o::r,acc=>by
  have h:=uV r (acc++[rC acc o])
  simp only [cq]
  have:=congrArg (List.take acc.length) h
  simpa [List.take_take] using this
theorem xZ:∀(l:List Oper) (acc:List Nat) (j:Nat) (o:Oper),l[j]?=some o→(cq l acc)[acc.length+j]?=some (rC ((cq l acc).take (acc.length+j)) o)
 |[],_,_,_,h=>by simp at h
 |p::r,acc,0,o,h=>by
  simp at h;subst h
  simp only [cq,Nat.add_zero]
  have h1:=uV r (acc++[rC acc p])
  have h2:=congrArg (List.take acc.length) h1
  have h3:=congrArg (fun l=>l[acc.length]?) h1
  simp only [List.take_take,List.length_append,List.length_cons,List.length_nil,Nat.zero_add] at h2 h3
  rw [Nat.min_eq_left (by omega)] at h2
  rw [List.getElem?_take,if_pos (by omega)] at h3
  rw [h3,h2]
  simp
 |p::r,acc,j+1,o,h=>by
  have:=xZ r (acc++[rC acc p]) j o (by simpa using h)
  simp only [List.length_append,List.length_cons,List.length_nil,Nat.zero_add] at this
  simp only [cq]
  rw [show acc.length+(j+1)=acc.length+1+j by omega]
  exact this
theorem x5 {acc:List Nat} {i:Nat}:∀(es:List Edge) (s:Nat),(es.foldl (fun s e=>bif Region.binds .any e then s ||| 2^e.on ||| acc.getD e.on 0 else s) s).testBit i=true→
 s.testBit i=true∨∃e∈es,Region.binds .any e=true∧(e.on=i∨(acc.getD e.on 0).testBit i=true)
 |[],s,h=>.inl h
 |e::es,s,h=>by
  rw [List.foldl_cons] at h
  rcases x5 es _ h with h1|⟨e',h1,h2⟩
  ·cases hb:Region.binds .any e with
   |false=>rw [hb] at h1;exact .inl h1
   |true=>
    rw [hb] at h1
    simp only [cond_true,Nat.testBit_or,Bool.or_eq_true] at h1
    rcases h1 with (h1|h1)|h1
    ·exact .inl h1
    ·refine .inr ⟨e,by simp,hb,.inl ?_⟩
     rw [Nat.testBit_two_pow] at h1
     simpa using h1
    exact .inr ⟨e,by simp,hb,.inr h1⟩
  exact .inr ⟨e',by simp [h1],h2⟩
section
variable {ops:Array Oper}
def Down (ops:Array Oper) (m:Nat→Bool):Prop:=∀x o,ops[x]?=some o→m x=true→∀e∈o.after,Region.binds .any e=true→m e.on=true
theorem closed {m:Nat→Bool} (hd:Down ops m):∀(j:Nat) (o:Oper),ops[j]?=some o→(∀e∈o.after,Region.binds .any e=true→m e.on=true)→∀i,((cq ops.toList []).getD j 0).testBit i=true→m i=true:=by
 intro j
 induction j using Nat.strongRecOn with
 |_ j ih=>
  intro o ho hp i hi
  have wH:=xZ ops.toList [] j o (by simpa using ho)
  simp only [List.length_nil,Nat.zero_add] at wH
  rw [List.getD_eq_getElem?_getD,wH] at hi
  simp only [Option.getD_some,rC] at hi
  rcases x5 _ _ hi with h|⟨e,he,hb,h|h⟩
  ·simp at h
  ·subst h;exact hp e (by simpa using he) hb
  have hlt:e.on<j:=by
   rcases Nat.lt_or_ge e.on j with h'|h'
   ·exact h'
   rw [List.getD_eq_getElem?_getD,List.getElem?_take,if_neg (by omega)] at h
   simp at h
  have hh:((cq ops.toList []).getD e.on 0).testBit i=true:=by
   rw [List.getD_eq_getElem?_getD,List.getElem?_take,if_pos hlt] at h
   rw [List.getD_eq_getElem?_getD];exact h
  have hj:j<ops.size:=(Array.getElem?_eq_some_iff.1 ho).1
  have ho':ops[e.on]?=some ops[e.on]:=by simp [show e.on<ops.size by omega]
  exact ih e.on hlt _ ho' (hd _ _ ho' (hp e (by simpa using he) hb)) i hh
theorem qi {m:Nat} {o:Oper}:∀{n:Nat},gq.rD ops m o n=true→∀j,j<n→m.testBit j=true∨∃p,ops[j]?=some p∧p.apart ops o=true
 |0,_,j,hj=>by omega
 |n+1,h,j,hj=>by
  simp only [gq.rD,Bool.and_eq_true,Bool.or_eq_true] at h
  by_cases hjn:j=n
  ·subst hjn
   refine h.1.imp id (fun h1=>?_)
   split at h1
   ·rename_i p hp;exact ⟨p,hp,h1⟩
   simp at h1
  exact qi h.2 j (by omega)
theorem lF {b:List Nat}:∀{l:List Oper} {i:Nat},gq ops b i l=true→∀j o,l[j]?=some o→
 (∀e∈o.after,Region.binds .any e=true→e.on<i+j)∧∀k,k<i+j→(b.getD (i+j) 0).testBit k=true∨∃p,ops[k]?=some p∧p.apart ops o=true
 |[],_,_,j,o,ho=>by simp at ho
 |q::r,i,h,0,o,ho=>by
  simp at ho;subst ho
  simp only [gq,Bool.and_eq_true] at h
  refine ⟨fun e he hb=>?_,fun k hk=>qi h.1.2 k hk⟩
  have:=List.all_eq_true.1 h.1.1 e (by simpa using he)
  simpa [hb,Nat.blt_eq] using this
 |q::r,i,h,j+1,o,ho=>by
  simp only [gq,Bool.and_eq_true] at h
  have:=lF h.2 j o (by simpa using ho)
  rw [show i+(j+1)=i+1+j by omega]
  exact this
theorem D6 {b:List Nat} {q:Nat} (h:barrier b q=true):(∀i,i<q→(b.getD q 0).testBit i=true)∧∀i,q<i→i<b.length→(b.getD i 0).testBit q=true:=by
 simp only [barrier,Bool.and_eq_true] at h
 obtain ⟨h1,h2⟩:=h
 refine ⟨fun i hi=>?_,fun i hi hl=>?_⟩
 ·rw [Nat.eq_of_beq_eq_true h1]
  simpa using hi
 refine List.all_eq_true.1 h2 _ ?_
 rw [List.getD_eq_getElem?_getD,List.getElem?_eq_getElem hl,Option.getD_some]
 rw [List.mem_iff_getElem?]
 refine ⟨i-(q+1),?_⟩
 rw [List.getElem?_drop,show q+1+(i-(q+1))=i by omega,List.getElem?_eq_getElem hl]
theorem qj:∀(l:List Oper) (acc:List Nat),(cq l acc).length=acc.length+l.length
 |[],acc=>by simp [cq]
 |o::r,acc=>by simp only [cq];rw [qj r];simp;omega
end
end Dem
end
section
open Go
namespace Dem
section
variable {P:Program} {T:Nat→Option TI} {G:Nat→Option (List D)} {N:Nat} {ds:List Deferred} {X:Nat→Prop}
variable {FC:Nat→List AV→List az→iU→List az→Prop}
def YB (FC:Nat→List AV→List az→iU→List az→Prop) (T:Nat→Option TI) (G:Nat→Option (List D)) (o:Oper) (sl:List (Nat×AV)) (ig:List az) (x:Nat) (B:az) (v:AV):Prop:=
 (∃cs,iB T G sl o=some cs∧B=.var cs∧v=.ptr x 0)∨lY FC G o sl ig x (fun v' B'=>v'=v∧B'=B)
def Uk (FC:Nat→List AV→List az→iU→List az→Prop) (T:Nat→Option TI) (G:Nat→Option (List D)) (ops:List Oper) (o:Oper) (sl:List (Nat×AV)) (ig:List az) (it:It):Prop:=
 (∃x B,it.bi=some (x,B)∧ig[x]?=some .bt∧o.guard=none∧YB FC T G o sl ig x B it.v)∨
 (it.bi=none∧o.guard=none∧YG FC T true (bW G sl) ig o.op it.v)∨
 (it.bi=none∧∃j want g v,o.guard=some (j,want)∧guardOf sl ops j want=some g∧YG FC T g (bW G sl) ig o.op v∧it.v=.cond g v)
def tt:Nat→Bool:=fun _=>true
def WJ (FC:Nat→List AV→List az→iU→List az→Prop) (T:Nat→Option TI) (G:Nat→Option (List D)) (N:Nat) (ops:List Oper) (b:List Nat) (base:Nat) (ig:List az) (Q:Ex→St→Prop) (k i:Nat) (l:List Oper) (s:St):Prop:=
 ∃cK k',kI (base+k) cK∧cK.length≤l.length∧
  (∀j it,cK[j]?=some it→∃o,l[j]?=some o∧gY N o.dst=true∧it.dst=o.dst∧Uk FC T G ops o (dB tt i (cK.take j) s.sl) ig it)∧
  (
   (cK.length=l.length∧Q .normal ⟨dB tt i cK s.sl,fj tt i cK s.bx⟩)∨
   (∃o rest,l.drop cK.length=o::rest∧barrier b (i+cK.length)=true∧gY N o.dst=true∧nN FC T G N ops b base ig k' (i+cK.length) (o::rest) Q ⟨dB tt i cK s.sl,fj tt i cK s.bx⟩))
theorem WJ.cons {ops:List Oper} {b:List Nat} {base:Nat} {ig:List az} {Q:Ex→St→Prop} {o:Oper} {rest:List Oper} {k k1 i:Nat} {s:St} {it:It} (hd:gY N o.dst=true)
 (hk:∀cK,kI (base+k1) cK→kI (base+k) (it::cK)) (Gh:it.dst=o.dst) (hy:Uk FC T G ops o s.sl ig it)
 (hr:WJ FC T G N ops b base ig Q k1 (i+1) rest ⟨eJ o.dst it.v s.sl,qf it s.bx⟩):WJ FC T G N ops b base ig Q k i (o::rest) s:=by
 obtain ⟨cK,k',g1,g2,g3,g4⟩:=hr
 refine ⟨it::cK,k',hk cK g1,by simpa using g2,?_,?_⟩
 ·intro j it' hj
  cases j with
  |zero=>simp at hj;subst hj;exact ⟨o,rfl,hd,Gh,by simpa [dB] using hy⟩
  |succ j=>
   obtain ⟨o',e1,e2,e3,e4⟩:=g3 j it' (by simpa using hj)
   refine ⟨o',by simpa using e1,e2,e3,?_⟩
   simp only [List.take_succ_cons,dB,tt,cond_true,Gh]
   exact e4
 simp only [List.length_cons,dB,fj,tt,cond_true,Gh,List.drop_succ_cons]
 rw [show i+(cK.length+1)=i+1+cK.length by omega]
 rcases g4 with ⟨e1,e2⟩|e
 ·exact .inl ⟨by omega,e2⟩
 exact .inr e
theorem tC {ops:List Oper} {b:List Nat} {base:Nat} {ig:List az} {Q:Ex→St→Prop}:∀(l:List Oper) (k i:Nat) (s:St),nN FC T G N ops b base ig k i l Q s→
 WJ FC T G N ops b base ig Q k i l s
 |[],k,i,s,h=>⟨[],k,by simp [kI],by simp,by simp,.inl ⟨rfl,by simpa [dB,fj,nN] using h⟩⟩
 |o::rest,k,i,s,h=>by
  have h0:=h
  unfold nN at h
  cases hd:gY N o.dst with
  |false=>simp [hd] at h
  |true=>
  simp only [hd,cond_true] at h
  cases hb:barrier b i with
  |true=>exact ⟨[],k,by simp [kI],by simp,by simp,.inr ⟨o,rest,by simp,by simpa using hb,hd,by simpa [dB,fj] using h0⟩⟩
  |false=>
  simp only [hb,cond_false] at h
  have go:∀(it:It) (k1:Nat),(∀cK,kI (base+k1) cK→kI (base+k) (it::cK))→it.dst=o.dst→Uk FC T G ops o s.sl ig it→
   nN FC T G N ops b base ig k1 (i+1) rest Q ⟨eJ o.dst it.v s.sl,qf it s.bx⟩→WJ FC T G N ops b base ig Q k i (o::rest) s:=
   fun it k1 hk Gh hy hr=>WJ.cons hd hk Gh hy (tC rest k1 (i+1) _ hr)
  split at h
  ·rename_i cs xK
   split at h
   ·rename_i hu
    have hg:o.guard=none:=by
     unfold iB at xK
     cases hg:o.guard with
     |none=>rfl
     |some g=>simp [hg] at xK
    exact go ⟨o.dst,.ptr (base+k) 0,some (base+k,.var cs)⟩ (k+1) (fun cK hi=>by simp only [kI];exact ⟨trv,hi⟩) rfl (.inl ⟨_,.var cs,rfl,hu,hg,.inl ⟨cs,xK,rfl,rfl⟩⟩) h
   exact h.elim
  split at h
  ·rename_i hg
   rcases h with h|h
   ·obtain ⟨v,hy,hK⟩:=uU h
    exact go ⟨o.dst,v,none⟩ k (fun cK hi=>by simpa [kI] using hi) rfl (.inr (.inl ⟨rfl,hg,hy⟩)) hK
   obtain ⟨f,args,ats,i',gJ,args',sz,n,es,h1,h2,h3,h4,h5,h6,h7,h8,h9⟩:=h
   exact go ⟨o.dst,.ow (base+k) sz n,some (base+k,.row sz es)⟩ (k+1) (fun cK hi=>by simp only [kI];exact ⟨trv,hi⟩) rfl
    (.inl ⟨_,.row sz es,rfl,h8,hg,.inr ⟨f,args,ats,i',gJ,args',sz,n,es,h1,h2,h3,h4,h5,h6,h7,h8,rfl,rfl⟩⟩) h9
  rename_i j want hg
  split at h
  ·rename_i g Iy
   obtain ⟨v,hy,hK⟩:=uU h
   exact go ⟨o.dst,.cond g v,none⟩ k (fun cK hi=>by simpa [kI] using hi) rfl (.inr (.inr ⟨rfl,j,want,g,v,hg,Iy,hy,rfl⟩)) hK
  exact h.elim
variable {β:Nat→Nat} {w:World} {a:Act}
theorem Fr.B6 {sl sq:List (Nat×AV)} {bx:List az} (hF:Fr G N ds β w X ⟨sl,bx⟩ a) (h:∀t,gK t sl=gK t sq):Fr G N ds β w X ⟨sq,bx⟩ a:=
 ⟨hF.cx,hF.defers,hF.size,fun t=>by have:=hF.ze t;simp only [h t] at this;exact this⟩
def at_ (listed:Array Bool) (x:Nat):Bool:=listed.getD x false
theorem tD {listed:Array Bool} {i x:Nat} (hi:i<listed.size):at_ (listed.setIfInBounds i true) x=(if x=i then true else at_ listed x):=by
 unfold at_
 by_cases h:x=i
 ·subst h;simp [hi]
 rw [if_neg h];simp [Array.getElem?_setIfInBounds_ne (Ne.symm h)]
theorem count_set:∀(l:List Bool) (i:Nat),l[i]?=some false→(l.set i true).count false+1=l.count false
 |[],i,h=>by simp at h
 |b::l,0,h=>by simp at h;subst h;simp
 |b::l,i+1,h=>by
  have:=count_set l i (by simpa using h)
  cases b<;>simp<;>omega
theorem An:∀(l:List Bool),l.count false=0→∀i,i<l.length→l[i]?=some true
 |[],_,i,h=>by simp at h
 |b::l,h,i,hi=>by
  cases b with
  |false=>simp at h
  |true=>
   cases i with
   |zero=>rfl
   |succ i=>simpa using An l (by simpa [List.count_cons] using h) i (by simpa using hi)
theorem ku {ops:Array Oper} {o:Oper} {sl sq:List (Nat×AV)} (h:∀t∈o.looksAt ops,gK t sl=gK t sq):∀x∈o.op.operands.toList,bW G sl x=bW G sq x:=by
 intro x hx
 cases x with
 |tmp t=>
  exact h t (List.mem_append_left _ (List.mem_filterMap.2 ⟨.tmp t,hx,rfl⟩))
 |_=>rfl
theorem Gi {ops:Array Oper} {o:Oper} {sl sq:List (Nat×AV)} {j:Nat} {want:Bool} (hg:o.guard=some (j,want)) (h:∀t∈o.looksAt ops,gK t sl=gK t sq):
 guardOf sl ops.toList j want=guardOf sq ops.toList j want:=by
 unfold guardOf
 have hj:ops.toList[j]?=ops[j]?:=by simp
 rw [hj]
 cases ho:ops[j]? with
 |none=>rfl
 |some p=>
  simp only
  cases hd:p.dst with
  |none=>rfl
  |some t=>
   simp only
   rw [h t (List.mem_append_right _ (by simp [hg,ho,hd]))]
theorem Uk.B6 {ops:Array Oper} {o:Oper} {sl sq:List (Nat×AV)} {ig bx:List az} {it:It} (h:Uk FC T G ops.toList o sl ig it) (hl:∀t∈o.looksAt ops,gK t sl=gK t sq) (hb:lE ig bx)
 (hu:∀x cs,it.bi=some (x,cs)→bx[x]?=some .bt):Uk FC T G ops.toList o sq bx it:=by
 rcases h with ⟨x,B,h1,h2,h3,h4⟩|⟨h1,h2,h3⟩|⟨h1,j,want,g,v,h2,h3,h4,h5⟩
 ·refine .inl ⟨x,B,h1,hu x B h1,h3,?_⟩
  rcases h4 with ⟨cs,k1,k2,k3⟩|h4
  ·exact .inl ⟨cs,by rw [←D5 (ku hl)];exact k1,k2,k3⟩
  obtain ⟨f,args,ats,i',gJ,args',sz,n,es,e1,e2,e3,e4,e5,e6,e7,e8,e9⟩:=h4
  have hop:=ku (G:=G) hl
  rw [e1] at hop
  have o1:=hop f (by simp [Op.operands,Call.operands])
  have o2:∀x∈args.toList,bW G sl x=bW G sq x:=fun x hx=>hop x (by simp [Op.operands,Call.operands];exact .inr (by simpa using hx))
  have o3:fX G sl args.toList=fX G sq args.toList:=by unfold fX;exact List.map_congr_left o2
  rw [o1,List.map_congr_left (g:=fun x=>(bW G sq x).aS) fun x hx=>by rw [o2 x hx]] at e2
  rw [o1,o3] at e3
  exact .inr ⟨f,args,ats,i',gJ,args',sz,n,es,e1,e2,e3,D4 hb e4,e5,e6,e7,hu x B h1,e9⟩
 ·exact .inr (.inl ⟨h1,h2,h3.B6 (ku hl) hb⟩)
 exact .inr (.inr ⟨h1,j,want,g,v,h2,by rw [←Gi h2 hl];exact h3,h4.B6 (ku hl) hb,h5⟩)
theorem O8 (hT:kr P T) {ops:Array Oper} {i:Nat} {o:Oper} (ho:ops[i]?=some o) {s:St} (hF:Fr G N ds β w X s a) {it:It} (hy:Uk (bA P G) T G ops.toList o s.sl s.bx it) (hd:gY N o.dst=true)
 {K:Act→World→Prop} {Qc:Exit→Act→World→Prop} (hK:∀β' a' w',Ext β s.bx w β' (qf it s.bx) w'→Fr G N ds β' w' X ⟨eJ o.dst it.v s.sl,qf it s.bx⟩ a'→K a' w'):wpOp P ops Qc i K a w:=by
 unfold wpOp
 rw [ho]
 simp only
 rcases hy with ⟨x,B,h1,h2,h3,h4⟩|⟨h1,h2,h3⟩|⟨h1,j,want,g,v,h2,h3,h4,h5⟩
 ·rw [if_pos (by simp [Region.wanted,h3])]
  have e:qf it s.bx=s.bx.set x B:=by simp [qf,h1]
  rw [e] at hK
  rcases h4 with ⟨cs,k1,rfl,h5⟩|h4
  ·refine .inl (Gf hT hF k1 h2 ?_)
   rintro β' aR w' v u ex cx hv ⟨rfl,rfl⟩
   exact hK β' _ w' ex (by rw [h5];exact hF.put ex cx hd hv)
  refine .inl (Ai hT hF h4 ?_)
  rintro β' aR w' v u ex cx hv ⟨rfl,rfl⟩
  exact hK β' _ w' ex (hF.put ex cx hd hv)
 ·rw [if_pos (by simp [Region.wanted,h2])]
  refine .inl (Gc hT hF h3 ?_)
  rintro β' aR w' v u ex cx hv ⟨rfl,rfl⟩
  have e:qf it s.bx=s.bx:=by simp [qf,h1]
  rw [e] at hK
  exact hK β' _ w' ex (hF.put ex cx hd hv)
 have e:qf it s.bx=s.bx:=by simp [qf,h1]
 rw [e] at hK
 have hy:=lD hF h3
 cases g with
 |true=>
  rw [if_pos (by simp only [Region.wanted,h2];exact hy)]
  refine .inl (Gc hT hF h4 ?_)
  rintro β' aR w' v' u ex cx hv ⟨rfl,rfl⟩
  exact hK β' _ w' ex (by rw [h5];exact hF.put ex cx hd (by simp only [aj];exact ⟨fun _=>hv,by simp⟩))
 |false=>
  rw [if_neg (by simp only [Region.wanted,h2];rw [hy];simp)]
  exact hK β _ w (Ext.refl _ _ _) (by rw [h5];exact hF.put (Ext.refl _ _ _) hF.cx hd (by simp only [aj];simp))
end
end Dem
end
section
open Go
namespace Dem
theorem lG (pre:List Nat) (i:Nat) (o:Oper):(fe pre i o).op=o.op∧(fe pre i o).dst=o.dst∧(fe pre i o).guard=o.guard∧(fe pre i o).type=o.type∧(fe pre i o).pos=o.pos:=by
 unfold fe;cases pre.contains i<;>exact ⟨rfl,rfl,rfl,rfl,rfl⟩
theorem mA (pre:List Nat):∀(l:List Oper) (i j:Nat),(bI pre i l)[j]?=(l[j]?).map (fe pre (i+j))
 |[],_,_=>by simp [bI]
 |o::r,i,0=>by simp [bI]
 |o::r,i,j+1=>by
  simp only [bI,List.getElem?_cons_succ]
  rw [mA pre r (i+1) j,show i+1+j=i+(j+1) by omega]
theorem oM:∀(l:List Oper) (i:Nat),bI [] i l=l
 |[],_=>rfl
 |o::r,i=>by simp only [bI,oM r];simp [fe]
theorem kw (pre:List Nat):∀(l:List Oper) (i:Nat),(bI pre i l).length=l.length
 |[],_=>rfl
 |o::r,i=>by simp [bI,kw pre r]
section
variable {P:Program} {ops ops':Array Oper} {Q:Exit→Act→World→Prop} {pre:List Nat}
def nU (pre:List Nat) (ops ops':Array Oper):Prop:=∀j,ops'[j]?=(ops[j]?).map (fe pre j)
theorem nU.yielded (h:nU pre ops ops') (tm:Array Value):Go.yielded ops' tm=Go.yielded ops tm:=by
 funext j
 unfold Go.yielded
 rw [h j]
 cases ops[j]? with
 |none=>rfl
 |some o=>simp [(lG pre j o).2.1]
theorem uW (pre:List Nat) (j:Nat) (o:Oper) (ρ:Operand→Value):execOp ρ (fe pre j o)=execOp ρ o:=by
 unfold fe;cases pre.contains j<;>rfl
theorem tE (h:nU pre ops ops') {i:Nat} {K:Act→World→Prop} {a:Act} {w:World}:wpOp P ops' Q i K a w↔wpOp P ops Q i K a w:=by
 unfold wpOp
 rw [h i,h.yielded]
 cases ho:ops[i]? with
 |none=>rfl
 |some o=>
  obtain ⟨_,e2,e3,_,_⟩:=lG pre i o
  simp only [Option.map_some]
  have hw:Region.wanted (fe pre i o) (Go.yielded ops a.tmps)=Region.wanted o (Go.yielded ops a.tmps):=by unfold Region.wanted;rw [e3]
  rw [hw,e2]
  have h1:(fe pre i o).wp P a w K Q=o.wp P a w K Q:=by
   unfold Oper.wp
   rw [uW]
   generalize (execOp a.eval o).run P w=r
   unfold Oper.upon;rw [e2]
  have h2:(fe pre i o).asks P a w=o.asks P a w:=by unfold Oper.asks;rw [uW]
  rw [h1,h2]
theorem x6 (h:nU pre ops ops') {listed:Array Bool} (hl:∀p∈pre,listed.getD p false=true):Region.ready .any ops' listed=Region.ready .any ops listed:=by
 have hsz:ops'.size=ops.size:=by
  rcases Nat.lt_trichotomy ops'.size ops.size with hh|hh|hh
  ·have:=h ops'.size;simp [hh] at this
  ·exact hh
  have:=h ops.size;simp [hh] at this
 unfold Region.ready
 rw [hsz]
 apply List.filter_congr
 intro j hj
 rw [h j]
 cases ho:ops[j]? with
 |none=>rfl
 |some o=>
  simp only [Option.map_some]
  congr 1
  unfold fe
  cases hc:pre.contains j with
  |true=>rfl
  |false=>
   simp only [cond_false]
   rw [Array.all_append]
   have:((pre.filter (fun p=>Nat.blt p j)).map (fun p=>({on:=p,ground:=.data}:Edge))).toArray.all (fun e=>!Region.binds .any e||listed.getD e.on false)=true:=by
    rw [Array.all_eq_true]
    intro i hi
    simp only [List.size_toArray,lgM] at hi
    simp only [List.getElem_toArray,List.getElem_map]
    have hm:(pre.filter (fun p=>Nat.blt p j))[i]∈pre:=(List.mem_filter.1 (List.getElem_mem hi)).1
    rw [hl _ hm];simp
   rw [this,Bool.and_true]
theorem x7 (h:nU pre ops ops'):∀(fuel:Nat) (listed:Array Bool) (a:Act) (w:World),(∀p∈pre,listed.getD p false=true)→wpAny P .any ops' Q fuel listed a w→wpAny P .any ops Q fuel listed a w
 |0,listed,a,w,hl,hh=>by
  simp only [wpAny] at hh ⊢
  rwa [x6 h hl] at hh
 |fuel+1,listed,a,w,hl,hh=>by
  simp only [wpAny] at hh ⊢
  rw [x6 h hl] at hh
  refine ⟨hh.1,fun i hi=>?_⟩
  refine wpOp_mono (fun a' w' h'=>x7 h fuel _ a' w' ?_ h') ((tE h).1 (hh.2 i hi))
  intro p hp
  have:=hl p hp
  rcases Nat.lt_or_ge i listed.size with hlt|hge
  ·simp only [Array.getD_eq_getD_getElem?,Array.getElem?_setIfInBounds] at this ⊢
   split
   ·simp
   exact this
  rwa [Array.setIfInBounds_eq_of_size_le hge]
end
def wI (sl:List (Nat×AV)) (a:Act):Prop:=∀t k z,gK t sl=.d (.int k z)→a.tmps.getD t undef=.int k z
theorem uX {G:Nat→Option (List D)} {sl:List (Nat×AV)} {a:Act} (h:wI sl a) {x:Operand} {k:IntKind} {z:Int} (hx:bW G sl x=.d (.int k z)):a.eval x=.int k z:=by
 cases x with
 |tmp t=>exact h t k z hx
 |const v=>
  simp only [bW] at hx
  show v=_
  unfold IA at hx
  split at hx<;>first|(cases hx;rfl)|cases hx
 |global g=>simp only [bW] at hx;split at hx<;>cases hx
 |func f=>cases hx
theorem Sj (a:Act) (t:Nat) (v:Value) (hd:t<a.tmps.size) (u:Nat):(a.put (some t) v).tmps.getD u undef=if u=t then v else a.tmps.getD u undef:=by
 simp only [Act.put,Array.getD_eq_getD_getElem?,Array.getElem?_setIfInBounds]
 split
 ·rename_i e;subst e;simp
 rename_i e;rw [if_neg (fun h=>e h.symm)]
theorem Gj (t u:Nat) (v:AV):∀(sl:List (Nat×AV)),gK u (put t v sl)=if u=t then v else gK u sl
 |[]=>by
  simp only [put,gK]
  by_cases h:u=t
  ·subst h;simp
  rw [if_neg h];cases hb:Nat.beq u t with
  |false=>rfl
  |true=>exact absurd (Nat.eq_of_beq_eq_true hb) h
 |(s,x)::r=>by
  simp only [put]
  cases hb:Nat.beq t s with
  |true=>
   have:=Nat.eq_of_beq_eq_true hb;subst this
   simp only [cond_true,gK]
   by_cases h:u=t
   ·subst h;simp
   rw [if_neg h];cases hb:Nat.beq u t with
   |false=>rfl
   |true=>exact absurd (Nat.eq_of_beq_eq_true hb) h
  |false=>
   simp only [cond_false,gK]
   rw [Gj t u v r]
   cases um:Nat.beq u s with
   |false=>simp
   |true=>
    have:=Nat.eq_of_beq_eq_true um;subst this
    have:u≠t:=fun e=>by subst e;simp at hb
    simp [this]
theorem wI.put {sl:List (Nat×AV)} {a:Act} (h:wI sl a) {N:Nat} (hN:a.tmps.size=N) {dst:Option Nat} (hd:gY N dst=true) {x:AV} {v:Value} (hv:∀k z,x=.d (.int k z)→v=.int k z):wI (eJ dst x sl) (a.put dst v):=by
 cases dst with
 |none=>exact h
 |some t=>
  intro u k z hu
  simp only [eJ] at hu
  rw [Gj] at hu
  have ht:t<a.tmps.size:=by rw [hN];exact Nat.le_of_ble_eq_true hd
  rw [Sj a t v ht]
  split at hu
  ·rename_i e;rw [if_pos e];exact hv k z hu
  rename_i e;rw [if_neg e];exact h u k z hu
theorem Sk {t:TypeId} {k:IntKind} {x y:Int} {ρ:Operand→Value} {o:Oper} {a b:Operand} {t':TypeId} (ho:o.op=.binOp .add t a b t') (ha:ρ a=.int k x) (hb:ρ b=.int k y):execOp ρ o=pure (.value (.int k (k.wrap (x+y)))):=by
 unfold execOp
 simp only [ho,ha,hb]
 have h1:binOp .add t (.int k x) (.int k y)=pure (.int k (k.wrap (x+y))):=by simp [binOp,Op.intArith]
 rw [h1]
 rfl
theorem Sl {t:TypeId} {k:IntKind} {x y:Int} {ρ:Operand→Value} {o:Oper} {a b:Operand} {t':TypeId} (ho:o.op=.binOp .sub t a b t') (ha:ρ a=.int k x) (hb:ρ b=.int k y):execOp ρ o=pure (.value (.int k (k.wrap (x-y)))):=by
 unfold execOp
 simp only [ho,ha,hb]
 have h1:binOp .sub t (.int k x) (.int k y)=pure (.int k (k.wrap (x-y))):=by simp [binOp,Op.intArith]
 rw [h1]
 rfl
section
variable {P:Program} {ops ops':Array Oper} {Q:Exit→Act→World→Prop}
theorem O9 {G:Nat→Option (List D)} {sl:List (Nat×AV)} {a:Act} (h:wI sl a) {o:Oper} {x:AV} (hx:RT G sl o=some x):∃v,execOp a.eval o=pure (.value v)∧∀k z,x=.d (.int k z)→v=.int k z:=by
 unfold RT at hx
 split at hx
 ·rename_i y ho
  cases hx
  exact ⟨a.eval y,by unfold execOp;simp only [ho],fun k z hk=>uX h hk⟩
 ·rename_i t y z t' ho
  split at hx
  ·rename_i k p k' q h1 h2
   cases hk:k==k' with
   |false=>rw [hk] at hx;cases hx
   |true=>
    rw [hk] at hx
    have:k=k':=by simpa using hk
    subst this
    simp only [cond_true,osI] at hx
    subst hx
    refine ⟨_,Sk ho (uX h h1) (uX h h2),fun j r e=>?_⟩
    cases e;rfl
  cases hx
 ·rename_i t y z t' ho
  split at hx
  ·rename_i k p k' q h1 h2
   cases hk:k==k' with
   |false=>rw [hk] at hx;cases hx
   |true=>
    rw [hk] at hx
    have:k=k':=by simpa using hk
    subst this
    simp only [cond_true,osI] at hx
    subst hx
    refine ⟨_,Sl ho (uX h h1) (uX h h2),fun j r e=>?_⟩
    cases e;rfl
  cases hx
 cases hx
theorem Ao {p:Nat} {o:Oper} {v:Value} {K:Act→World→Prop} {a:Act} {w:World} (hi:ops[p]?=some o) (hg:o.guard=none) (hv:execOp a.eval o=pure (.value v)) (h:wpOp P ops Q p K a w):K (a.put o.dst v) w:=by
 unfold wpOp at h
 have hw:Region.wanted o (Go.yielded ops a.tmps)=true:=by unfold Region.wanted;rw [hg]
 simp only [hi,hw,if_true] at h
 rcases h with h|⟨h,_⟩
 ·unfold Oper.wp at h;rw [hv] at h;exact h
 unfold Oper.asks at h;rw [hv] at h
 exact absurd h.1 (by show noRoomEvent ∉ (#[]:Array Event);simp)
theorem wJ {G:Nat→Option (List D)} {N:Nat} {Sm:List Nat} (ht:nU Sm ops ops') (hsel:lX ops=true) (hQ:∀c (a a':Act) w,a.defers=a'.defers→Q (.panic c) a w→Q (.panic c) a' w) (fuel:Nat) (w:World):
 ∀(pre done:List Nat) (listed:Array Bool) (a:Act) (sl:List (Nat×AV)),iG ops done pre=true→Cr G N ops.toList pre sl=true→wI sl a→a.tmps.size=N→(∀p∈done,listed.getD p false=true)→(∀p∈pre,p ∉ done→listed.getD p true=false)→
  (∀p∈Sm,p∈done∨p∈pre)→(∀p∈pre,p∈Sm)→listed.size=ops.size→pre.Nodup→
  wpAny P .any ops' Q (pre.length+fuel) listed a w→wpAny P .any ops Q (pre.length+fuel) listed a w
 |[],done,listed,a,sl,_,_,_,_,hd,_,hc,_,_,_,h=>x7 ht _ _ _ _ (fun p hp=>hd p ((hc p hp).resolve_right (by simp))) h
 |p::r,done,listed,a,sl,hf,hg,hr,hN,hd,hu,hc,hs,hsz,hnd,h=>by
  simp only [iG] at hf
  simp only [Cr] at hg
  cases ho:ops[p]? with
  |none=>simp [ho] at hf
  |some o=>
   have ho':ops.toList[p]?=some o:=by simpa using ho
   simp only [ho',ho,Bool.and_eq_true] at hf hg
   obtain ⟨⟨⟨⟨f1,f2⟩,f3⟩,f4⟩,f5⟩:=hf
   have hnp:p ∉ done:=by simpa using f1
   have Fi:listed.getD p true=false:=hu p (by simp) hnp
   have wK:o.guard=none:=by cases WK:o.guard with
    |none=>rfl
    |some g=>rw [WK] at f2;cases f2
   cases hx:RT G sl o with
   |none=>rw [hx] at hg;cases hg
   |some x=>
    simp only [hx,Bool.and_eq_true] at hg
    obtain ⟨g1,g2⟩:=hg
    obtain ⟨v,hv,hvx⟩:=O9 hr hx
    have I3:p∈Region.ready .any ops listed:=by
     rw [mem_ready]
     refine ⟨Fi,o,ho,fun e he hb=>?_⟩
     rw [Array.all_eq_true_iff_forall_mem] at f3
     have:=f3 e he
     rw [hb] at this
     simp only [Bool.not_true,Bool.false_or] at this
     exact hd _ (by simpa using this)
    have Sn:p∈Region.ready .any ops' listed:=by
     rw [mem_ready] at I3 ⊢
     refine ⟨Fi,o,?_,?_⟩
     ·rw [ht p,ho,Option.map_some]
      have:Sm.contains p=true:=by simpa using hs p (by simp)
      congr 1;unfold fe;rw [this];rfl
     obtain ⟨_,o2,h2,h3⟩:=I3
     rw [ho] at h2;cases h2;exact h3
    rw [show (p::r).length+fuel=(r.length+fuel)+1 by simp;omega] at h ⊢
    have h1:=(tE ht).1 (h.2 p Sn)
    have h2:=Ao ho wK hv h1
    have I4:Yields P ops o v a:=.inl ⟨by unfold Region.wanted;rw [wK],fun w=>by rw [hv];rfl⟩
    refine wpAny_first ho ?_ (fun c a w hq=>hQ c _ _ w (by cases o.dst<;>rfl) hq) _ _ _ _ ?_ I3 I4 ?_
    ·intro j q cs b hj e
     have hm:q∈ops:=Array.mem_of_getElem? hj
     rw [lX,Array.all_eq_true_iff_forall_mem] at hsel
     have:=hsel q hm
     rw [e] at this;cases this
    ·intro j q hj ZH hjl hno
     have eW:j<ops.size:=(Array.getElem?_eq_some_iff.1 hj).1
     rw [List.all_eq_true] at f4
     have:=f4 j (List.mem_range.2 eW)
     rw [hj] at this
     simp only [Bool.or_eq_true] at this
     rcases this with (h4|h4)|h4|h4
     ·exact absurd (Nat.eq_of_beq_eq_true h4) ZH
     ·have:=hd j (by simpa using h4)
      exfalso
      rcases Nat.lt_or_ge j listed.size with hl|hl
      ·simp [hl] at this hjl;rw [this] at hjl;cases hjl
      simp [hl] at this
     ·rw [Array.any_eq_true] at h4
      obtain ⟨i,hi,h5⟩:=h4
      simp only [Bool.and_eq_true] at h5
      exact absurd (Nat.eq_of_beq_eq_true h5.2) (hno _ (Array.getElem_mem hi) h5.1)
     exact h4
    have hps:p<listed.size:=by rw [hsz];exact (Array.getElem?_eq_some_iff.1 ho).1
    refine wJ ht hsel hQ fuel w r (p::done) _ _ _ f5 g2 (hr.put hN g1 hvx) ?_ ?_ ?_ ?_ (fun q hq=>hs q (by simp [hq])) (by simpa using hsz) (List.nodup_cons.1 hnd).2 h2
    ·rw [←hN];cases o.dst with
     |none=>rfl
     |some d=>simp [Act.put]
    ·intro q hq
     rcases List.mem_cons.1 hq with rfl|hq
     ·simp [hps]
     have:=hd q hq
     simp only [Array.getD_eq_getD_getElem?,Array.getElem?_setIfInBounds] at this ⊢
     split
     ·simp
     exact this
    ·intro q hq hqd
     have hqp:q≠p:=fun e=>by subst e;exact (List.nodup_cons.1 hnd).1 hq
     have:=hu q (by simp [hq]) (fun hh=>hqd (by simp [hh]))
     simp only [Array.getD_eq_getD_getElem?,Array.getElem?_setIfInBounds] at this ⊢
     rw [if_neg (fun e=>hqp e.symm)]
     exact this
    intro q hq
    rcases hc q hq with h6|h6
    ·exact .inl (by simp [h6])
    rcases List.mem_cons.1 h6 with rfl|h6
    ·exact .inl (by simp)
    exact .inr h6
end
section
variable {P:Program} {ops ops':Array Oper} {Q:Exit→Act→World→Prop} {late:List Nat}
def Gk (late:List Nat) (ops ops':Array Oper):Prop:=∀j,ops'[j]?=(ops[j]?).map (kq ops late j)
theorem lH (ops:Array Oper) (late:List Nat) (i:Nat) (o:Oper):∃x,kq ops late i o={o with after:=o.after++x}:=by
 unfold kq
 cases late.contains i
 ·exact ⟨_,rfl⟩
 exact ⟨#[],by simp⟩
theorem Gk.yielded (h:Gk late ops ops') (tm:Array Value):Go.yielded ops' tm=Go.yielded ops tm:=by
 funext j
 unfold Go.yielded
 rw [h j]
 cases ops[j]? with
 |none=>rfl
 |some o=>obtain ⟨x,e⟩:=lH ops late j o;simp [e]
theorem Ap (h:Gk late ops ops') {i:Nat} {K:Act→World→Prop} {a:Act} {w:World}:wpOp P ops' Q i K a w↔wpOp P ops Q i K a w:=by
 unfold wpOp
 rw [h i,h.yielded]
 cases ho:ops[i]? with
 |none=>rfl
 |some o=>
  obtain ⟨x,e⟩:=lH ops late i o
  simp only [Option.map_some,e]
  rfl
theorem D7 {o:Oper} (h:zH o.op=true) (ρ:Operand→Value):(∃v,execOp ρ o=pure (.value v))∨(∃m,execOp ρ o=(stuck m)):=by
 unfold zH at h
 split at h
 ·rename_i x ho;exact .inl ⟨ρ x,by unfold execOp;simp only [ho]⟩
 ·rename_i x i ho
  unfold execOp
  simp only [ho,Instr.extract]
  split
  ·split
   ·exact .inl ⟨_,rfl⟩
   exact .inr ⟨_,rfl⟩
  exact .inr ⟨_,rfl⟩
 cases h
theorem MD (h:Gk late ops ops') (hf:rE ops late=true) (hsel:lX ops=true) (hQ:∀c (a a':Act) w,a.defers=a'.defers→Q (.panic c) a w→Q (.panic c) a' w):
 ∀(fuel:Nat) (listed:Array Bool) (a:Act) (w:World),listed.size=ops.size→wpAny P .any ops' Q fuel listed a w→wpAny P .any ops Q fuel listed a w:=by
 have hsub:∀listed i,i∈Region.ready .any ops' listed→i∈Region.ready .any ops listed:=by
  intro listed i hi
  rw [mem_ready] at hi ⊢
  obtain ⟨h1,o',h2,h3⟩:=hi
  rw [h i] at h2
  cases ho:ops[i]? with
  |none=>rw [ho] at h2;cases h2
  |some o=>
   rw [ho] at h2
   simp only [Option.map_some,osI] at h2
   obtain ⟨x,e⟩:=lH ops late i o
   refine ⟨h1,o,rfl,fun e' he hb=>h3 e' ?_ hb⟩
   rw [←h2,e];exact Array.mem_append_left _ he
 have uO:∀listed i,i∈Region.ready .any ops listed→i ∉ Region.ready .any ops' listed→∃p o,p∈late∧ops[p]?=some o∧p∈Region.ready .any ops' listed:=by
  intro listed i hi hn
  rw [mem_ready] at hi
  obtain ⟨h1,o,h2,h3⟩:=hi
  have hi2:∃p∈late,listed.getD p false=false∧DO ops p o=true∧p<i:=by
   by_cases hc:∃p∈late,listed.getD p false=false∧DO ops p o=true∧p<i
   ·exact hc
   exfalso;apply hn
   rw [mem_ready]
   refine ⟨h1,kq ops late i o,by rw [h i,h2];rfl,fun e he hb=>?_⟩
   unfold kq at he
   cases hl:late.contains i with
   |true=>rw [hl] at he;exact h3 e he hb
   |false=>
    rw [hl] at he
    simp only [cond_false] at he
    rcases Array.mem_append.1 he with he|he
    ·exact h3 e he hb
    simp only [List.mem_toArray,List.mem_map,List.mem_filter,Bool.and_eq_true] at he
    obtain ⟨p,⟨hp,OO,OH⟩,rfl⟩:=he
    simp only
    cases hg:listed.getD p false with
    |true=>rfl
    |false=>exact absurd ⟨p,hp,hg,OH,by simpa using OO⟩ hc
  obtain ⟨p,hp,hg,hto,hpi⟩:=hi2
  unfold DO at hto
  cases ho:ops[p]? with
  |none=>rw [ho] at hto;cases hto
  |some q=>
   rw [ho] at hto
   refine ⟨p,q,hp,ho,?_⟩
   rw [mem_ready]
   have hps:p<listed.size∨listed.size≤p:=Nat.lt_or_ge _ _
   have WL:listed.getD p true=false:=by
    rcases hps with hps|hps
    ·simp [hps] at hg ⊢;exact hg
    exfalso
    have Lc:=h1
    have:i<listed.size:=by
     rcases Nat.lt_or_ge i listed.size with h|h
     ·exact h
     simp [h] at Lc
    omega
   refine ⟨WL,kq ops late p q,by rw [h p,ho];rfl,fun e he hb=>?_⟩
   have hc:late.contains p=true:=by simpa using hp
   unfold kq at he
   rw [hc] at he
   simp only [cond_true] at he
   rw [Array.all_eq_true_iff_forall_mem] at hto
   have:=hto e he
   rw [hb] at this
   simp only [Bool.not_true,Bool.false_or] at this
   rw [Array.any_eq_true] at this
   obtain ⟨k,hk,h5⟩:=this
   simp only [Bool.and_eq_true] at h5
   rw [←Nat.eq_of_beq_eq_true h5.2]
   exact h3 _ (Array.getElem_mem hk) h5.1
 intro fuel
 induction fuel with
 |zero=>
  intro listed a w _ hh
  simp only [wpAny] at hh ⊢
  refine ⟨?_,hh.2⟩
  rw [List.eq_nil_iff_forall_not_mem]
  intro i hi
  obtain ⟨p,o,_,_,hr⟩:=uO listed i hi (by rw [hh.1];simp)
  rw [hh.1] at hr;cases hr
 |succ fuel ih=>
  intro listed a w hsz hh
  by_cases hall:∀i∈Region.ready .any ops listed,i∈Region.ready .any ops' listed
  ·refine ⟨fun h0=>hh.1 ?_,fun i hi=>?_⟩
   ·rw [List.eq_nil_iff_forall_not_mem]
    intro i hi
    have:=hsub listed i hi
    rw [h0] at this;cases this
   exact wpOp_mono (fun a' w' h'=>ih _ a' w' (by simpa using hsz) h') ((Ap h).1 (hh.2 i (hall i hi)))
  simp only [Classical.not_forall] at hall
  obtain ⟨i,hi,hn⟩:=hall
  obtain ⟨p,o,hp,ho,hr⟩:=uO listed i hi hn
  have h1:=(Ap h).1 (hh.2 p hr)
  have Pb:=hf
  unfold rE at Pb
  rw [List.all_eq_true] at Pb
  have Pb:=Pb p hp
  rw [ho] at Pb
  simp only [Bool.and_eq_true] at Pb
  obtain ⟨⟨f1,f2⟩,f3⟩:=Pb
  have wK:o.guard=none:=by cases WK:o.guard with
   |none=>rfl
   |some g=>rw [WK] at f2;cases f2
  rcases D7 f1 a.eval with ⟨v,hv⟩|⟨m,hv⟩
  ·have h2:=Ao ho wK hv h1
   have h3:=ih _ _ w (by simpa using hsz) h2
   have I4:Yields P ops o v a:=.inl ⟨by unfold Region.wanted;rw [wK],fun w=>by rw [hv];rfl⟩
   refine wpAny_first ho ?_ (fun c a w hq=>hQ c _ _ w (by cases o.dst<;>rfl) hq) _ _ _ _ ?_ (hsub _ _ hr) I4 h3
   ·intro j q cs b hj e
    have hm:q∈ops:=Array.mem_of_getElem? hj
    rw [lX,Array.all_eq_true_iff_forall_mem] at hsel
    have:=hsel q hm
    rw [e] at this;cases this
   intro j q hj ZH hjl hno
   have eW:j<ops.size:=(Array.getElem?_eq_some_iff.1 hj).1
   rw [List.all_eq_true] at f3
   have:=f3 j (List.mem_range.2 eW)
   rw [hj] at this
   simp only [Bool.or_eq_true] at this
   rcases this with (h4|h4)|h4|h4
   ·exact absurd (Nat.eq_of_beq_eq_true h4) ZH
   ·exfalso
    rw [Array.any_eq_true] at h4
    obtain ⟨k,hk,h5⟩:=h4
    simp only [Bool.and_eq_true] at h5
    have hrr:=hsub _ _ hr
    rw [mem_ready] at hrr
    obtain ⟨_,o2,Y3,Xg⟩:=hrr
    rw [ho] at Y3;cases Y3
    have:=Xg _ (Array.getElem_mem hk) h5.1
    rw [Nat.eq_of_beq_eq_true h5.2] at this
    rcases Nat.lt_or_ge j listed.size with hl|hl
    ·simp [hl] at this hjl;rw [this] at hjl;cases hjl
    simp [hl] at this
   ·rw [Array.any_eq_true] at h4
    obtain ⟨k,hk,h5⟩:=h4
    simp only [Bool.and_eq_true] at h5
    exact absurd (Nat.eq_of_beq_eq_true h5.2) (hno _ (Array.getElem_mem hk) h5.1)
   exact h4
  exfalso
  unfold wpOp at h1
  have hw:Region.wanted o (Go.yielded ops a.tmps)=true:=by unfold Region.wanted;rw [wK]
  simp only [ho,hw,if_true] at h1
  rcases h1 with h1|⟨h1,_⟩
  ·unfold Oper.wp at h1;rw [hv] at h1;exact h1
  unfold Oper.asks at h1;rw [hv] at h1
  exact absurd h1.1 (by show noRoomEvent ∉ (#[]:Array Event);simp)
end
end Dem
end
section
open Go
namespace Dem
section
variable {P:Program} {T:Nat→Option TI} {G:Nat→Option (List D)} {N:Nat} {ds:List Deferred} {X:Nat→Prop}
variable {β0:Nat→Nat} {bC:List az} {w0:World}
theorem ME {ops:Array Oper} (hfit:gq ops (cq ops.toList []) 0 ops.toList=true) {m:Nat→Bool} (hd:Down ops m) {i j:Nat} {o p:Oper} (ho:ops[i]?=some o) (hp:ops[j]?=some p)
 (x8:m i=false) (WM:∀e∈o.after,Region.binds .any e=true→m e.on=true) (hj:(j<i∧m j=false)∨(i<j∧m j=true)):
 (∀d,p.dst=some d→d ∉ o.looksAt ops)∧(∀d,p.dst=some d→o.dst≠some d):=by
 rcases hj with ⟨hlt,ZI⟩|⟨hlt,ZI⟩
 ·have h:=(lF hfit i o (by simpa using ho)).2 j (by omega)
  rw [Nat.zero_add] at h
  rcases h with h|⟨p',hp',h⟩
  ·have:=closed hd i o ho WM j h;rw [ZI] at this;cases this
  rw [hp] at hp';cases hp'
  obtain ⟨h1,h2,h3⟩:=Oper.apart_spec h
  exact ⟨h1,h2⟩
 have h:=(lF hfit j p (by simpa using hp)).2 i (by omega)
 rw [Nat.zero_add] at h
 rcases h with h|⟨o',ho',h⟩
 ·have:=closed hd j p hp (hd j p hp ZI) i h;rw [x8] at this;cases this
 rw [ho] at ho';cases ho'
 obtain ⟨h1,h2,h3⟩:=Oper.apart_spec h
 exact ⟨h3,fun d Vb he=>h2 d he Vb⟩
theorem Aq {m:Nat→Bool}:∀(cK:List It) (i:Nat) (sl:List (Nat×AV)),(∀j,j<cK.length→m (i+j)=false)→dB m i cK sl=sl
 |[],_,_,_=>rfl
 |it::r,i,sl,h=>by
  have h0:=h 0 (by simp)
  rw [Nat.add_zero] at h0
  simp only [dB,h0,cond_false]
  exact Aq r (i+1) sl (fun j hj=>by have:=h (j+1) (by simpa using hj);rw [show i+1+j=i+(j+1) by omega];exact this)
theorem Ar {m:Nat→Bool}:∀(cK:List It) (i:Nat) (bx:List az),(∀j,j<cK.length→m (i+j)=false)→fj m i cK bx=bx
 |[],_,_,_=>rfl
 |it::r,i,bx,h=>by
  have h0:=h 0 (by simp)
  rw [Nat.add_zero] at h0
  simp only [fj,h0,cond_false]
  exact Ar r (i+1) bx (fun j hj=>by have:=h (j+1) (by simpa using hj);rw [show i+1+j=i+(j+1) by omega];exact this)
theorem Pc (hT:kr P T) {ops:Array Oper} (hfit:gq ops (cq ops.toList []) 0 ops.toList=true) {base:Nat} {Q:Ex→St→Prop}:
 ∀(fuel:Nat) (listed:Array Bool) (p k:Nat) (cK:List It) (s0:St) (β:Nat→Nat) (w:World) (a:Act),listed.size=ops.size→Down ops (at_ listed)→(∀x,x<p→at_ listed x=true)→(∀x,p+cK.length≤x→at_ listed x=false)→
  listed.toList.count false=fuel→p+cK.length≤ops.size→kI (base+k) cK→
  (∀j it,cK[j]?=some it→∃o,ops[p+j]?=some o∧gY N o.dst=true∧it.dst=o.dst∧Uk (bA P G) T G ops.toList o (dB tt p (cK.take j) s0.sl) s0.bx it)→
  ((
   p+cK.length=ops.size∧Q .normal ⟨dB tt p cK s0.sl,fj tt p cK s0.bx⟩)∨
   (∃k' o rest,ops.toList.drop (p+cK.length)=o::rest∧barrier (cq ops.toList []) (p+cK.length)=true∧gY N o.dst=true∧
    nN (bA P G) T G N ops.toList (cq ops.toList []) base s0.bx k' (p+cK.length) (o::rest) Q ⟨dB tt p cK s0.sl,fj tt p cK s0.bx⟩))→
  Ext β0 bC w0 β (fj (at_ listed) p cK s0.bx) w→Fr G N ds β w X ⟨dB (at_ listed) p cK s0.sl,fj (at_ listed) p cK s0.bx⟩ a→
  wpAny P .any ops (gG G N ds X β0 bC w0 Q) fuel listed a w:=by
 intro fuel
 induction fuel with
 |zero=>
  intro listed p k cK s0 β w a hsz hdn hlo hhi So hle xK hit hend ex hF
  have hall:∀x,x<ops.size→at_ listed x=true:=by
   intro x hx
   have:=An listed.toList So x (by simpa [hsz] using hx)
   unfold at_
   have h2:listed[x]?=some true:=by simpa using this
   simp [Array.getD_eq_getD_getElem?,h2]
  have hfull:p+cK.length=ops.size:=by
   rcases Nat.lt_or_ge (p+cK.length) ops.size with h|h
   ·have h1:=hall _ h;rw [hhi _ (Nat.le_refl _)] at h1;cases h1
   omega
  refine ⟨?_,?_⟩
  ·rw [List.eq_nil_iff_forall_not_mem]
   intro j hj
   obtain ⟨h1,o,h2,_⟩:=mem_ready.1 hj
   have hjl:j<ops.size:=(Array.getElem?_eq_some_iff.1 h2).1
   have:=hall j hjl
   unfold at_ at this
   simp only [Array.getD_eq_getD_getElem?] at this h1
   cases hq:listed[j]? with
   |none=>rw [hq] at this;simp at this
   |some v=>rw [hq] at this h1;simp at this h1;rw [this] at h1;cases h1
  rcases hend with ⟨_,hQ⟩|⟨k',o,rest,Xh,_⟩
  ·have e1:=kH (m:=at_ listed) (m':=tt) cK p s0.sl (fun j hj=>hall _ (by omega))
   have e2:=m5 (m:=at_ listed) (m':=tt) cK p s0.bx (fun j hj=>hall _ (by omega))
   rw [e1,e2] at hF;rw [e2] at ex
   exact ⟨β,_,ex,hF,hQ⟩
  rw [List.drop_eq_nil_of_le (by simp;omega)] at Xh;cases Xh
 |succ fuel ih=>
  intro listed p k cK s0 β w a hsz hdn hlo hhi So hle xK hit hend ex hF
  refine ⟨?_,?_⟩
  ·intro hr
   exfalso
   have key:∀x,x<ops.size→at_ listed x=true:=by
    intro x
    induction x using Nat.strongRecOn with
    |_ x ihx=>
     intro hx
     cases hq:at_ listed x with
     |true=>rfl
     |false=>
      exfalso
      have ho:ops[x]?=some ops[x]:=by simp [hx]
      have hp:=(lF hfit x ops[x] (by simp [hx])).1
      have:x∈Region.ready .any ops listed:=by
       refine mem_ready.2 ⟨?_,ops[x],ho,fun e he hb=>?_⟩
       ·unfold at_ at hq
        have hx':x<listed.size:=by omega
        simp [hx'] at hq ⊢;exact hq
       have:=hp e he hb
       exact ihx e.on (by omega) (by omega)
      rw [hr] at this;cases this
   have:listed.toList.count false=0:=by
    rw [List.count_eq_zero]
    intro hm
    obtain ⟨x,hx⟩:=List.mem_iff_getElem?.1 hm
    have Oh:x<listed.toList.length:=by
     rcases Nat.lt_or_ge x listed.toList.length with h|h
     ·exact h
     rw [List.getElem?_eq_none h] at hx;cases hx
    have:=key x (by simpa [hsz] using Oh)
    unfold at_ at this
    have h2:listed[x]?=some false:=by simpa using hx
    simp [Array.getD_eq_getD_getElem?,h2] at this
   omega
  intro i hi
  obtain ⟨hi1,o,ho,hp⟩:=mem_ready.1 hi
  have hin:i<ops.size:=(Array.getElem?_eq_some_iff.1 ho).1
  have hil:i<listed.size:=by omega
  have x8:at_ listed i=false:=by
   unfold at_
   simp [hil] at hi1 ⊢;exact hi1
  have WM:∀e∈o.after,Region.binds .any e=true→at_ listed e.on=true:=hp
  have hpi:p≤i:=by
   rcases Nat.lt_or_ge i p with h|h
   ·rw [hlo i h] at x8;cases x8
   exact h
  have Sa:(listed.setIfInBounds i true).size=ops.size:=by simp [hsz]
  have Xi:Down ops (at_ (listed.setIfInBounds i true)):=by
   intro x ox ZJ hx e he hb
   rw [tD hil]
   by_cases hei:e.on=i
   ·simp [hei]
   rw [if_neg hei]
   rw [tD hil] at hx
   by_cases hxi:x=i
   ·subst hxi;rw [ho] at ZJ;cases ZJ;exact WM e he hb
   rw [if_neg hxi] at hx;exact hdn x ox ZJ hx e he hb
  have Ul:(listed.setIfInBounds i true).toList.count false=fuel:=by
   have h2:listed.toList[i]?=some false:=by
    unfold at_ at x8
    simp [hil] at x8
    simp [hil,x8]
   have:=count_set listed.toList i h2
   rw [Array.toList_setIfInBounds]
   omega
  rcases Nat.lt_or_ge i (p+cK.length) with hlt|hge
  ·
   obtain ⟨j,rfl⟩:∃j,i=p+j:=⟨i-p,by omega⟩
   have hj:j<cK.length:=by omega
   have WN:cK[j]?=some cK[j]:=by simp [hj]
   obtain ⟨o',ho',hd,Gh,hy⟩:=hit j _ WN
   rw [ho] at ho';cases ho'
   have hun:∀(j:Nat) (it:It) (y:Nat) (cs:az),cK[j]?=some it→it.bi=some (y,cs)→s0.bx[y]?=some .bt:=by
    intro j' it' y cs hj' hb
    obtain ⟨_,_,_,_,h|h|h⟩:=hit j' it' hj'
    ·obtain ⟨x,cs',h1,h2,_⟩:=h
     rw [h1] at hb;cases hb;exact h2
    ·rw [h.1] at hb;cases hb
    rw [h.1] at hb;cases hb
   have I5:∀(j':Nat) (it':It),cK[j']?=some it'→((j'<j∧at_ listed (p+j')=false)∨(j<j'∧at_ listed (p+j')=true))→
    (∀d,it'.dst=some d→d ∉ o.looksAt ops)∧(∀d,it'.dst=some d→o.dst≠some d):=by
    intro j' it' hj' hc
    obtain ⟨p',hp',_,Xj,_⟩:=hit j' it' hj'
    rw [Xj]
    exact ME hfit hdn ho hp' x8 WM (hc.imp (fun h=>⟨by omega,h.2⟩) (fun h=>⟨by omega,h.2⟩))
   have Xk:∀t∈o.looksAt ops,gK t (dB tt p (cK.take j) s0.sl)=gK t (dB (at_ listed) p cK s0.sl):=by
    intro t ht
    have e:dB tt p (cK.take j) s0.sl=dB (fun x=>decide (x<p+j)) p cK s0.sl:=Ak cK p j s0.sl
    rw [e]
    refine qg cK p _ _ rfl ?_
    intro j' it' hj' hdt
    rcases Nat.lt_trichotomy j' j with h|h|h
    ·rw [decide_eq_true (by omega)]
     cases hq:at_ listed (p+j') with
     |true=>rfl
     |false=>exact absurd ht ((I5 j' it' hj' (.inl ⟨h,hq⟩)).1 t hdt)
    ·subst h
     rw [decide_eq_false (by omega),x8]
    rw [decide_eq_false (by omega)]
    cases hq:at_ listed (p+j') with
    |false=>rfl
    |true=>exact absurd ht ((I5 j' it' hj' (.inr ⟨h,hq⟩)).1 t hdt)
   have hy':=hy.B6 (bx:=fj (at_ listed) p cK s0.bx) Xk (Gg cK p s0.bx (lE.refl _) hun) (by
    intro x cs hb
    rw [CJ cK p s0.bx ?_]
    ·exact hun j _ x cs WN hb
    intro j' it' y cs' hj' hm hb'
    refine xK.apart hj' hb' WN hb ?_
    rintro rfl
    rw [x8] at hm;cases hm)
   refine O8 hT ho hF hy' hd ?_
   intro β' a' w' sK Xl
   have hm':∀x,x≠p+j→at_ (listed.setIfInBounds (p+j) true) x=at_ listed x:=fun x hx=>by rw [tD hil,if_neg hx]
   have hB:fj (at_ (listed.setIfInBounds (p+j) true)) p cK s0.bx=qf cK[j] (fj (at_ listed) p cK s0.bx):=by
    refine Am cK p j cK[j] s0.bx WN x8 (by rw [tD hil,if_pos rfl]) hm' ?_
    intro j' it' y cs x cs0 hj' hne hb' hb0
    exact xK.apart hj' hb' WN hb0 hne
   refine ih _ p k cK s0 β' w' a' Sa Xi (fun x hx=>by rw [hm' x (by omega)];exact hlo x hx) (fun x hx=>by rw [hm' x (by omega)];exact hhi x hx) Ul hle xK hit hend (by rw [hB];exact ex.trans sK) ?_
   rw [hB]
   refine Xl.B6 (fun t=>?_)
   rw [←Gh]
   refine (Al cK p j cK[j] s0.sl WN x8 (by rw [tD hil,if_pos rfl]) hm' ?_).symm
   intro j' it' hj' hlt' hm d Y4 Vb
   rw [Gh] at Y4
   exact (I5 j' it' hj' (.inr ⟨hlt',hm⟩)).2 d Vb Y4
  rcases hend with ⟨hfull,_⟩|⟨k',o',rest,Xh,Xm,hd,hop⟩
  ·omega
  obtain ⟨wj,um⟩:=D6 Xm
  have hiq:i=p+cK.length:=by
   rcases Nat.lt_or_ge (p+cK.length) i with h|h
   ·have h1:=closed hdn i o ho WM _ (um i h (by rw [qj];simpa using hin))
    rw [hhi _ (Nat.le_refl _)] at h1;cases h1
   omega
  subst hiq
  have hoo:o'=o:=by
   have:=congrArg (fun l=>l[0]?) Xh
   simp only [List.getElem?_drop,Nat.add_zero,List.getElem?_cons_zero] at this
   have h3:ops.toList[p+cK.length]?=ops[p+cK.length]?:=by simp
   rw [h3,ho] at this;cases this;rfl
  subst hoo
  have py:rest=ops.toList.drop (p+cK.length+1):=by
   have:=congrArg (List.drop 1) Xh
   simpa [List.drop_drop] using this.symm
  have hall:∀x,x<p+cK.length→at_ listed x=true:=fun x hx=>closed hdn _ o' ho WM x (wj x hx)
  have e1:=kH (m:=at_ listed) (m':=tt) cK p s0.sl (fun j hj=>hall _ (by omega))
  have e2:=m5 (m:=at_ listed) (m':=tt) cK p s0.bx (fun j hj=>hall _ (by omega))
  rw [e1,e2] at hF;rw [e2] at ex
  have next:∀(s1:St) (β':Nat→Nat) (w':World) (a':Act),nN (bA P G) T G N ops.toList (cq ops.toList []) base s1.bx k' (p+cK.length+1) rest Q s1→Ext β0 bC w0 β' s1.bx w'→Fr G N ds β' w' X s1 a'→
   wpAny P .any ops (gG G N ds X β0 bC w0 Q) fuel (listed.setIfInBounds (p+cK.length) true) a' w':=by
   intro s1 β' w' a' h1 zU Fj
   obtain ⟨Vd,k1,g1,g2,g3,g4⟩:=tC _ _ _ _ h1
   have hlen:rest.length=ops.size-(p+cK.length+1):=by rw [py];simp
   have wH:∀j:Nat,rest[j]?=ops[p+cK.length+1+j]?:=by intro j;rw [py];simp
   have Um:∀x,p+cK.length+1≤x→at_ (listed.setIfInBounds (p+cK.length) true) x=false:=by
    intro x hx;rw [tD hil,if_neg (by omega)];exact hhi x (by omega)
   have f1:=Aq (m:=at_ (listed.setIfInBounds (p+cK.length) true)) Vd (p+cK.length+1) s1.sl (fun j _=>Um _ (by omega))
   have f2:=Ar (m:=at_ (listed.setIfInBounds (p+cK.length) true)) Vd (p+cK.length+1) s1.bx (fun j _=>Um _ (by omega))
   refine ih _ (p+cK.length+1) k' Vd s1 β' w' a' Sa Xi ?_ (fun x hx=>Um x (by omega)) Ul (by omega) g1 ?_ ?_ (by rw [f2];exact zU) (by rw [f1,f2];exact Fj)
   ·intro x hx
    rw [tD hil]
    by_cases hxq:x=p+cK.length
    ·simp [hxq]
    rw [if_neg hxq];exact hall x (by omega)
   ·intro j it hj
    obtain ⟨o2,q1,q2,q3,q4⟩:=g3 j it hj
    exact ⟨o2,by rw [←wH];exact q1,q2,q3,q4⟩
   rcases g4 with ⟨q1,q2⟩|⟨o2,Xn,q1,q2,q3,q4⟩
   ·exact .inl ⟨by omega,q2⟩
   exact .inr ⟨k1,o2,Xn,by rw [py,List.drop_drop] at q1;exact q1,q2,q3,q4⟩
  unfold nN at hop
  simp only [hd,cond_true,Xm] at hop
  unfold wpOp
  rw [ho]
  simp only
  split at hop
  ·rename_i hg
   rw [if_pos (by simp [Region.wanted,hg])]
   refine .inl (m0 hT hF hop ?_ ?_)
   ·intro β' aR w' v u sK mP hv hK
    exact next ⟨eJ o'.dst v _,aR⟩ β' w' _ hK (ex.trans sK) (hF.put sK mP hd hv)
   intro β' aR w' v u sK mP hv hK
   exact ⟨β',aR,v,u,rfl,ex.trans sK,mP,hv,hF.defers,hK⟩
  rename_i j want hg
  split at hop
  ·rename_i g Iy
   have hy:=lD hF Iy
   cases g with
   |true=>
    rw [if_pos (by simp only [Region.wanted,hg];exact hy)]
    refine .inl (xV hT hF hop ?_)
    rintro β' aR w' v u sK mP hv ⟨hK,rfl⟩
    refine next ⟨eJ o'.dst (.cond true v) _,_⟩ β' w' _ hK (ex.trans sK) (hF.put sK mP hd ?_)
    simp only [aj];exact ⟨fun _=>hv,by simp⟩
   |false=>
    rw [if_neg (by simp only [Region.wanted,hg];rw [hy];simp)]
    obtain ⟨v,hK⟩:=Ad hop
    refine next ⟨eJ o'.dst (.cond false v) _,_⟩ β w _ hK ex (hF.put (Ext.refl _ _ _) hF.cx hd ?_)
    simp only [aj];simp
  exact hop.elim
variable {β:Nat→Nat} {bx:List az} {w:World}
theorem oN {n i:Nat} {b:az} (h:(bx++List.replicate n .bt)[i]?=some b):bx[i]?=some b∨b=.bt:=by
 rcases Nat.lt_or_ge i bx.length with hl|hl
 ·rw [List.getElem?_append_left hl] at h;exact .inl h
 rw [List.getElem?_append_right hl,List.getElem?_replicate] at h
 split at h
 ·exact .inr (by simpa using h.symm)
 cases h
theorem tF (n:Nat):Ext β bx w β (bx++List.replicate n .bt) w:=by
 refine ⟨rfl,rfl,rfl,Nat.le_refl _,fun _ _ _=>rfl,fun _ c _ _ h=>⟨c,h,rfl⟩,?_,?_⟩
 ·rintro i ⟨b,h1,h2⟩
  exact ⟨rfl,b,by rw [List.getElem?_append_left (jw h1)];exact h1,h2⟩
 intro i b h hl
 rcases oN h with h1|rfl
 ·exact .inr ⟨i,b,h1,hl,rfl⟩
 simp [az.live] at hl
theorem I6 (cx:cJ G β bx w X) (n:Nat):cJ G β (bx++List.replicate n .bt) w X:=by
 refine cx.step (tF n) ?_ ?_
 ·intro i b h
  rcases oN h with h1|rfl
  ·exact .inl ⟨h1,fun _=>rfl⟩
  exact .inr trv
 intro i j bi bj hi hj mQ oJ he
 rcases oN hi with h1|rfl<;>rcases oN hj with h2|rfl
 ·exact cx.inj i j bi bj h1 h2 mQ oJ he
 ·simp [az.live] at oJ
 ·simp [az.live] at mQ
 simp [az.live] at mQ
def kf (l l':List Oper):Prop:=l'.length=l.length∧∀(j:Nat) (o o':Oper),l[j]?=some o→l'[j]?=some o'→o'.op=o.op∧o'.dst=o.dst∧o'.guard=o.guard
theorem kf.tail {o o':Oper} {l l':List Oper} (h:kf (o::l) (o'::l')):kf l l':=⟨by simpa using h.1,fun j p p' h1 h2=>h.2 (j+1) p p' (by simpa using h1) (by simpa using h2)⟩
theorem B7 {ops ops':List Oper} (h:kf ops ops') (sl:List (Nat×AV)) (j:Nat) (want:Bool):guardOf sl ops' j want=guardOf sl ops j want:=by
 unfold guardOf
 cases ho:ops[j]? with
 |none=>
  have:ops'[j]?=none:=by rw [List.getElem?_eq_none_iff] at ho ⊢;rw [h.1];exact ho
  rw [this]
 |some o=>
  have hj:j<ops'.length:=by rw [h.1];exact (List.getElem?_eq_some_iff.1 ho).1
  have:=h.2 j o ops'[j] ho (List.getElem?_eq_getElem hj)
  rw [List.getElem?_eq_getElem hj]
  simp only
  rw [this.2.1]
theorem As {FC:Nat→List AV→List az→iU→List az→Prop} {ops ops':List Oper} (Ve:kf ops ops') {b:List Nat} {base:Nat} {Q:Ex→St→Prop}:∀(l l':List Oper) (ig:List az) (k i:Nat) (s:St),kf l l'→nN FC T G N ops' b base ig k i l' Q s=nN FC T G N ops b base ig k i l Q s
 |[],[],_,_,_,_,_=>rfl
 |[],_::_,_,_,_,_,h=>by have:=h.1;simp at this
 |_::_,[],_,_,_,_,h=>by have:=h.1;simp at this
 |o::l,o'::l',ig,k,i,s,h=>by
  obtain ⟨e1,e2,e3⟩:=h.2 0 o o' rfl rfl
  have hb:iB T G s.sl o'=iB T G s.sl o:=by unfold iB;rw [e1,e3]
  have hu:∀s K Q,pU FC T G o' s K Q=pU FC T G o s K Q:=fun s K Q=>by unfold pU;rw [e1]
  have hg:∀g s K,stepG FC T G g o' s K=stepG FC T G g o s K:=fun g s K=>by unfold stepG wq;rw [e1]
  have hc:∀sl ig x K,lY FC G o' sl ig x K=lY FC G o sl ig x K:=fun sl ig x K=>by unfold lY;rw [e1]
  have ih:=fun ig k i s=>As (FC:=FC) (ops:=ops) (ops':=ops') Ve (b:=b) (base:=base) (Q:=Q) l l' ig k i s h.tail
  simp only [nN,e2,e3,hb,hu,hg,hc,ih,B7 Ve]
theorem Gl (pre:List Nat) (l:List Oper):kf l (bI pre 0 l):=by
 refine ⟨kw pre l 0,fun j o o' h1 h2=>?_⟩
 rw [mA,h1] at h2
 simp only [Option.map_some,osI] at h2
 subst h2
 obtain ⟨e1,e2,e3,_⟩:=lG pre (0+j) o
 exact ⟨e1,e2,e3⟩
theorem wL (a:Array Oper) (late:List Nat):∀(l:List Oper) (i j:Nat),(gw a late i l)[j]?=(l[j]?).map (kq a late (i+j))
 |[],_,_=>by simp [gw]
 |o::r,i,0=>by simp [gw]
 |o::r,i,j+1=>by
  simp only [gw,List.getElem?_cons_succ]
  rw [wL a late r (i+1) j,show i+1+j=i+(j+1) by omega]
theorem oO (a:Array Oper) (late:List Nat):∀(l:List Oper) (i:Nat),(gw a late i l).length=l.length
 |[],_=>rfl
 |o::r,i=>by simp [gw,oO a late r]
theorem rN (a:Array Oper):∀(l:List Oper) (i:Nat),gw a [] i l=l
 |[],_=>rfl
 |o::r,i=>by simp only [gw,rN a r];simp [kq]
theorem I7 (a:Array Oper) (late:List Nat) (l:List Oper):kf l (gw a late 0 l):=by
 refine ⟨oO a late l 0,fun j o o' h1 h2=>?_⟩
 rw [wL,h1] at h2
 simp only [Option.map_some,osI] at h2
 subst h2
 obtain ⟨x,e⟩:=lH a late (0+j) o
 rw [e];exact ⟨rfl,rfl,rfl⟩
theorem kf.trans {l l' l'':List Oper} (h:kf l l') (g:kf l' l''):kf l l'':=by
 refine ⟨g.1.trans h.1,fun j o o'' h1 h2=>?_⟩
 have hj:j<l'.length:=by rw [h.1];exact (List.getElem?_eq_some_iff.1 h1).1
 obtain ⟨a1,a2,a3⟩:=h.2 j o l'[j] h1 (List.getElem?_eq_getElem hj)
 obtain ⟨b1,b2,b3⟩:=g.2 j l'[j] o'' (List.getElem?_eq_getElem hj) h2
 exact ⟨b1.trans a1,b2.trans a2,b3.trans a3⟩
theorem oP (ops:Array Oper):∀(pre done:List Nat),iG ops done pre=true→pre.Nodup∧(∀p∈pre,p ∉ done)∧∀p∈pre,p<ops.size
 |[],_,_=>⟨List.nodup_nil,by simp,by simp⟩
 |p::r,done,h=>by
  unfold iG at h
  cases ho:ops[p]? with
  |none=>simp [ho] at h
  |some o=>
   simp only [ho,Bool.and_eq_true] at h
   obtain ⟨⟨⟨⟨f1,_⟩,_⟩,_⟩,f5⟩:=h
   obtain ⟨g1,g2,g3⟩:=oP ops r _ f5
   refine ⟨List.nodup_cons.2 ⟨fun hp=>g2 p hp (by simp),g1⟩,?_,?_⟩
   ·intro q hq;rcases List.mem_cons.1 hq with rfl|hq
    ·simpa using f1
    exact fun hh=>g2 q hq (by simp [hh])
   intro q hq;rcases List.mem_cons.1 hq with rfl|hq
   ·exact (Array.getElem?_eq_some_iff.1 ho).1
   exact g3 q hq
theorem Gm (t u:Nat) (v:AV):∀l:List (Nat×AV),gK t (RU u v l)=bif Nat.beq t u then v else gK t l
 |[]=>rfl
 |(s,x)::r=>by
  simp only [RU]
  cases h1:Nat.beq u s with
  |true=>
   have:=Nat.eq_of_beq_eq_true h1;subst this
   simp only [cond_true,gK]
   cases Nat.beq t u<;>rfl
  |false=>
   simp only [cond_false]
   cases h2:Nat.blt u s with
   |true=>rfl
   |false=>
    simp only [cond_false,gK]
    rw [Gm t u v r]
    cases h3:Nat.beq t s with
    |false=>simp
    |true=>
     have:=Nat.eq_of_beq_eq_true h3;subst this
     have:Nat.beq t u=false:=by
      cases h:Nat.beq t u with
      |false=>rfl
      |true=>have:=Nat.eq_of_beq_eq_true h;subst this;rw [h] at h1;cases h1
     simp [this]
theorem At (t:Nat):∀l:List (Nat×AV),gK t (BZ l)=gK t l
 |[]=>rfl
 |(u,v)::r=>by rw [BZ,Gm,At t r];rfl
section
variable {N:Nat} {ds:List Deferred} {X:Nat→Prop} {β0:Nat→Nat} {bC:List az} {w0:World}
theorem qn (hT:kr P T) {ops ops':Array Oper} {pre:List Nat} (Gn:nU pre ops ops') {QQ:Exit→Act→World→Prop} {Q:Ex→St→Prop} {i:Nat} {KS:St→Prop} {NX:Act→World→Prop} {β:Nat→Nat} {w:World} {s:St} {a:Act} (ex:Ext β0 bC w0 β s.bx w) (hF:Fr G N ds β w X s a)
 (hp:∀β bx v u w a,Ext β0 bC w0 β bx w→cJ G β bx w X→aj β bx w (bg β bx w X) v u→a.defers=ds→Q (.panic v) ⟨[],bx⟩→QQ (.panic [{v:=u,recovered:=false}]) a w)
 (h:xI (bA P G) T G N ops.toList i KS Q s) (hn:∀β w s a,Ext β0 bC w0 β s.bx w→Fr G N ds β w X s a→KS s→NX a w):wpOp P ops' QQ i NX a w:=by
 rw [tE Gn]
 unfold xI at h
 unfold wpOp
 simp only [Array.getElem?_toList] at h
 cases ho:ops[i]? with
 |none=>rw [ho] at h;exact h.elim
 |some o=>
  rw [ho] at h
  simp only at h ⊢
  cases hd:gY N o.dst with
  |false=>rw [hd] at h;exact h.elim
  |true=>
   rw [hd] at h
   simp only [cond_true] at h
   have Mn:∀{s1:St},s1=s→O0 G β s1.bx w X a (fun v bx=>Q (.panic v) ⟨[],bx⟩) QQ:=fun e β' aR w' v u sK mP hv hK=>by subst e;exact hp β' aR v u w' a (ex.trans sK) mP hv hF.defers hK
   split at h
   ·rename_i hg
    rw [if_pos (by unfold Region.wanted;rw [hg])]
    exact .inl (m0 hT hF h (fun β' aR w' v u sK mP hv hK=>hn β' w' ⟨eJ o.dst v s.sl,aR⟩ _ (ex.trans sK) (hF.put sK mP hd hv) hK) (Mn rfl))
   rename_i j want hg
   split at h
   ·rename_i g Iy
    have hy:=lD hF Iy
    obtain ⟨h⟩:=h
    cases g with
    |true=>
     rw [if_pos (by simp only [Region.wanted,hg];exact hy)]
     refine .inl (m0 hT hF (h.1 rfl) (fun β' aR w' v u sK mP hv hK=>hn β' w' ⟨eJ o.dst (.cond true v) s.sl,aR⟩ _ (ex.trans sK) (hF.put sK mP hd ?_) hK) (Mn rfl))
     simp only [aj];exact ⟨fun _=>hv,by simp⟩
    |false=>
     rw [if_neg (by simp only [Region.wanted,hg];rw [hy];simp)]
     refine hn β w ⟨eJ o.dst (.cond false .any) s.sl,s.bx⟩ _ ex (hF.put (Ext.refl _ _ _) hF.cx hd ?_) (h.2 rfl)
     simp only [aj];simp
   exact h.elim
theorem uY (hT:kr P T) {ops ops':Array Oper} {pre:List Nat} (Gn:nU pre ops ops') {R:St→Prop} {QQ:Exit→Act→World→Prop} {Q:Ex→St→Prop}
 (hp:∀β bx v u w a,Ext β0 bC w0 β bx w→cJ G β bx w X→aj β bx w (bg β bx w X) v u→a.defers=ds→Q (.panic v) ⟨[],bx⟩→QQ (.panic [{v:=u,recovered:=false}]) a w)
 (hR:∀β w s a,Ext β0 bC w0 β s.bx w→Fr G N ds β w X s a→R s→QQ .normal a w):∀(tr:OT) (n:Nat) (listed:Array Bool) (β:Nat→Nat) (w:World) (s:St) (a:Act),Ext β0 bC w0 β s.bx w→Fr G N ds β w X s a→
  Mp (bA P G) T G N ops.toList Q R tr s→tr.depth≤n→
  (tr.fit ops' true listed=true→wpAny P .any ops' QQ n listed a w)∧
  (tr.fit ops' false listed=true→∀i∈tr.K2,wpOp P ops' QQ i (wpAny P .any ops' QQ (n-1) (listed.setIfInBounds i true)) a w)
 |.done,n,listed,β,w,s,a,ex,hF,h,_=>by
  refine ⟨fun hf=>?_,fun _ i hi=>by cases hi⟩
  simp only [OT.fit,Bool.not_true,Bool.false_or] at hf
  exact wpAny_done (List.isEmpty_iff.1 hf) (hR β w s a ex hF h) n
 |.one i o,n,listed,β,w,s,a,ex,hF,h,hd=>by
  simp only [OT.depth] at hd
  obtain ⟨m,rfl⟩:∃m,n=m+1:=⟨n-1,by omega⟩
  have key:o.fit ops' true (listed.setIfInBounds i true)=true→wpOp P ops' QQ i (wpAny P .any ops' QQ m (listed.setIfInBounds i true)) a w:=fun hf=>
   qn hT Gn ex hF hp h fun β w s a ex hF hK=>(uY hT Gn hp hR o m _ β w s a ex hF hK (by omega)).1 hf
  refine ⟨fun hf=>?_,fun hf j hj=>?_⟩
  ·simp only [OT.fit,Bool.not_true,Bool.false_or,Bool.and_eq_true,beq_iff_eq] at hf
   exact wpAny_all hf.1 (by simp) fun j hj=>by simp at hj;subst hj;exact key hf.2
  simp only [OT.fit,Bool.not_false,Bool.true_or,Bool.true_and] at hf
  simp only [OT.K2,List.mem_singleton] at hj
  subst hj;exact key hf
 |.more i o r,n,listed,β,w,s,a,ex,hF,h,hd=>by
  simp only [OT.depth] at hd
  obtain ⟨m,rfl⟩:∃m,n=m+1:=⟨n-1,by omega⟩
  have key:o.fit ops' true (listed.setIfInBounds i true)=true→wpOp P ops' QQ i (wpAny P .any ops' QQ m (listed.setIfInBounds i true)) a w:=fun hf=>
   qn hT Gn ex hF hp h.1 fun β w s a ex hF hK=>(uY hT Gn hp hR o m _ β w s a ex hF hK (by omega)).1 hf
  have rest:=(uY hT Gn hp hR r (m+1) listed β w s a ex hF h.2 (by omega)).2
  refine ⟨fun hf=>?_,fun hf j hj=>?_⟩
  ·simp only [OT.fit,Bool.not_true,Bool.false_or,Bool.and_eq_true,beq_iff_eq] at hf
   refine wpAny_all hf.1 (by simp) fun j hj=>?_
   rcases List.mem_cons.1 hj with rfl|hj
   ·exact key hf.2.1
   exact rest hf.2.2 j hj
  simp only [OT.fit,Bool.not_false,Bool.true_or,Bool.true_and,Bool.and_eq_true] at hf
  rcases List.mem_cons.1 hj with rfl|hj
  ·exact key hf.1
  exact rest hf.2 j hj
end
theorem Gp (hT:kr P T) (hm:P.follows .mixedOrders=true) {N:Nat} {ds:List Deferred} {X:Nat→Prop} {β0:Nat→Nat} {bC:List az} {w0:World} {id:Nat} {fk:Array Oper} {Q:Ex→St→Prop} {β:Nat→Nat} {w:World} {s:St} {a:Act} (ex:Ext β0 bC w0 β s.bx w) (hF:Fr G N ds β w X s a)
 (h:T9 (bA P G) T G N fk.toList Q s):(Code.region id fk true).wp P (gG G N ds X β0 bC w0 Q) a w:=by
 obtain ⟨pre,tr,s1,⟨OO,OH,ZK⟩,hft,hx,hpost⟩:=h
 unfold OT.fits at hft
 rw [Bool.and_eq_true] at hft
 simp only [Array.length_toList] at hft
 refine wp_region_any hm ?_
 have Gn:nU pre fk (bI pre 0 fk.toList).toArray:=by intro j;simp [mA]
 have hsame:=fy w
 have MF:Fr G N ds β {w with drawn:=w.drawn+1} X s a:=⟨pV hF.cx hsame,hF.defers,hF.size,fun t=>aj.mono ((jg hsame).eY X) _ _ (hF.ze t)⟩
 have hgoal:=(uY (X:=X) hT Gn (QQ:=gG G N ds X β0 bC w0 Q) (fun β bx v u w a ex cx hv hd hq=>⟨β,bx,v,u,rfl,ex,cx,hv,hd,hq⟩) (fun β w s a ex hF hR=>by
  subst hR
  exact ⟨β,⟨BZ s.sl,s.bx⟩,ex,hF.B6 fun t=>(At t s.sl).symm,hpost⟩) tr fk.size (Array.replicate fk.size false) β _ s a (ex.trans (jg hsame)) MF hx (Nat.le_of_ble_eq_true hft.1)).1 hft.2
 have Pd:iG fk [] pre=true:=by simpa using OO
 obtain ⟨n1,n2,n3⟩:=oP _ _ _ Pd
 have hle:pre.length≤fk.size:=by
  have:=List.Nodup.length_le_of_subset n1 (fun p hp=>List.mem_range.2 (n3 p hp):pre ⊆ List.range fk.size)
  simpa using this
 obtain ⟨fuel,hfuel⟩:∃fuel,fk.size=pre.length+fuel:=⟨fk.size-pre.length,by omega⟩
 rw [hfuel] at hgoal ⊢
 have wH:∀p,p<pre.length+fuel→(Array.replicate (pre.length+fuel) false).getD p true=false:=by intro p hp;simp [hp]
 refine wJ (G:=G) (N:=N) Gn (by simpa using OH) ?_ fuel _ pre [] _ a s.sl Pd ZK ?_ hF.size (by simp) (fun p hp _=>wH p (by have:=n3 p hp;omega)) (fun p hp=>.inr hp) (fun p hp=>hp) (by simp [hfuel]) n1 hgoal
 ·intro c a a' w ha hq
  simp only [gG] at hq ⊢
  obtain ⟨β,bx,v,u,h1,h2,h3,h4,h5,h6⟩:=hq
  exact ⟨β,bx,v,u,h1,h2,h3,h4,ha.symm.trans h5,h6⟩
 intro t k z hk
 have:=hF.ze t
 rw [hk] at this
 simpa only [aj,aL] using this
section
variable {P:Program} {T:Nat→Option TI} {G:Nat→Option (List D)} {N:Nat} {ds:List Deferred} {X:Nat→Prop}
variable {β0:Nat→Nat} {bC:List az} {w0:World}
theorem Pe:∀{l m:List Bool},WD l m=true→l=m
 |[],[],_=>rfl
 |a::l,b::m,h=>by
  simp only [WD,Bool.and_eq_true,beq_iff_eq] at h
  rw [h.1,Pe h.2]
 |[],_::_,h=>by simp [WD] at h
 |_::_,[],h=>by simp [WD] at h
theorem Gq {k i:Nat}:∀{l:List (Nat×Nat)},Ot k i l=true→(k,i)∈l
 |[],h=>by simp [Ot] at h
 |(p,j)::r,h=>by
  simp only [Ot,Bool.or_eq_true,Bool.and_eq_true,Nat.beq_eq] at h
  rcases h with ⟨rfl,rfl⟩|h
  ·exact List.mem_cons_self ..
  exact List.mem_cons_of_mem _ (Gq h)
theorem D8 {ops:Array Oper} {pl:List Nd} {z:Nat}:∀{l:List Nd} {k j:Nat} {nd:Nd},Ou ops pl z k l=true→l[j]?=some nd→
 (Region.ready .any ops nd.ls.toArray=[]∧k+j=z)∨(Region.ready .any ops nd.ls.toArray≠[]∧∀i∈Region.ready .any ops nd.ls.toArray,i<nd.ls.length∧nd.ls[i]?=some false∧∃e∈pl,e.ls=nd.ls.set i true∧(k+j,i)∈e.ps)
 |[],_,_,_,_,h=>by simp at h
 |x::l,k,0,nd,h,hj=>by
  simp only [List.getElem?_cons_zero,osI] at hj
  subst hj
  simp only [Ou,Bool.and_eq_true] at h
  have h:=h.1
  split at h
  ·rename_i g;exact .inl ⟨g,by simpa using Nat.eq_of_beq_eq_true h⟩
  rename_i rs g
  refine .inr ⟨fun e=>g e,fun i hi=>?_⟩
  have:=List.all_eq_true.1 h i hi
  simp only [Bool.and_eq_true,beq_iff_eq,List.any_eq_true] at this
  obtain ⟨⟨h1,h2⟩,e,he,h3,h4⟩:=this
  have h1:i<x.ls.length:=Nat.le_of_ble_eq_true h1
  refine ⟨h1,?_,e,he,Pe h3,Gq h4⟩
  rw [List.getD_eq_getElem?_getD,List.getElem?_eq_getElem h1] at h2
  rw [List.getElem?_eq_getElem h1]
  simpa using h2
 |x::l,k,j+1,nd,h,hj=>by
  simp only [List.getElem?_cons_succ] at hj
  simp only [Ou,Bool.and_eq_true] at h
  have:=D8 h.2 hj
  rw [show k+(j+1)=k+1+j by omega]
  exact this
theorem Gr {FC:Nat→List AV→List az→iU→List az→Prop} {ops:List Oper} {Q:Ex→St→Prop} {S:List St} {s s0:St} {p i:Nat}:∀{l:List (Nat×Nat)},Fs FC T G N ops Q S s l→(p,i)∈l→S[p]?=some s0→xI FC T G N ops i (fun s1=>(⟨BZ s1.sl,s1.bx⟩:St)=s) Q s0
 |[],_,h,_=>by simp at h
 |(q,j)::r,h,hm,hs=>by
  rcases List.mem_cons.1 hm with e|hm
  ·obtain ⟨rfl,rfl⟩:=Prod.mk.inj e
   have:=h.1
   rw [hs] at this
   exact this
  exact Gr h.2 hm hs
theorem Lj {FC:Nat→List AV→List az→iU→List az→Prop} {ops:List Oper} {Q:Ex→St→Prop} {S:List St}:∀{l:List Nd} {k j:Nat} {nd:Nd},allM FC T G N ops Q S k l→l[j]?=some nd→∃s,S[k+j]?=some s∧Fs FC T G N ops Q S s nd.ps
 |[],_,_,_,_,h=>by simp at h
 |x::l,k,0,nd,h,hj=>by
  simp only [List.getElem?_cons_zero,osI] at hj
  subst hj
  have:=h.1
  split at this
  ·rename_i s g;exact ⟨s,g,this⟩
  exact this.elim
 |x::l,k,j+1,nd,h,hj=>by
  simp only [List.getElem?_cons_succ] at hj
  obtain ⟨s,g1,g2⟩:=Lj h.2 hj
  exact ⟨s,by rw [←g1];congr 1;omega,g2⟩
theorem tG:∀{l:List Bool} {i:Nat},l[i]?=some false→(l.set i true).count false+1=l.count false
 |[],_,h=>by simp at h
 |a::l,0,h=>by
  simp only [List.getElem?_cons_zero,osI] at h
  subst h
  simp
 |a::l,i+1,h=>by
  simp only [List.getElem?_cons_succ] at h
  have:=tG h
  simp only [List.set_cons_succ,List.count_cons]
  omega
theorem Pf (hT:kr P T) {ops:Array Oper} {pl:List Nd} {S:List St} {QQ:Exit→Act→World→Prop} {Q:Ex→St→Prop} (Gn:nU [] ops ops) (hfit:K1 ops pl=true)
 (hp:∀β bx v u w a,Ext β0 bC w0 β bx w→cJ G β bx w X→aj β bx w (bg β bx w X) v u→a.defers=ds→Q (.panic v) ⟨[],bx⟩→QQ (.panic [{v:=u,recovered:=false}]) a w)
 (hm:allM (bA P G) T G N ops.toList Q S 1 pl)
 (hR:∀β w s a,Ext β0 bC w0 β s.bx w→Fr G N ds β w X s a→S[pl.length]?=some s→QQ .normal a w):∀(n k:Nat) (nd:Nd) (s:St) (β:Nat→Nat) (w:World) (a:Act),
  (⟨List.replicate ops.size false,[]⟩::pl:List Nd)[k]?=some nd→S[k]?=some s→Ext β0 bC w0 β s.bx w→Fr G N ds β w X s a→nd.ls.count false≤n→wpAny P .any ops QQ n nd.ls.toArray a w:=by
 intro n
 induction n with
 |zero=>
  intro k nd s β w a hk hs ex hF hc
  rcases D8 hfit hk with ⟨h1,h2⟩|⟨h1,h2⟩
  ·rw [Nat.zero_add] at h2;subst h2
   exact wpAny_done h1 (hR β w s a ex hF hs) 0
  exfalso
  obtain ⟨i,hi⟩:=List.exists_mem_of_ne_nil _ h1
  have:=tG (h2 i hi).2.1
  omega
 |succ n ih=>
  intro k nd s β w a hk hs ex hF hc
  rcases D8 hfit hk with ⟨h1,h2⟩|⟨h1,h2⟩
  ·rw [Nat.zero_add] at h2;subst h2
   exact wpAny_done h1 (hR β w s a ex hF hs) (n+1)
  refine wpAny_all rfl h1 fun i hi=>?_
  obtain ⟨g1,g2,e,he,g3,g4⟩:=h2 i hi
  rw [Nat.zero_add] at g4
  obtain ⟨j,hj⟩:=List.getElem?_of_mem he
  obtain ⟨s',q1,q2⟩:=Lj hm hj
  have hst:=Gr q2 g4 hs
  refine qn hT Gn ex hF hp hst fun β w s1 a ex hF hK=>?_
  subst hK
  have:=ih (1+j) e ⟨BZ s1.sl,s1.bx⟩ β w a (by rw [Nat.add_comm];simpa using hj) q1 ex (hF.B6 fun t=>(At t s1.sl).symm) (by rw [g3];have:=tG g2;omega)
  rw [g3] at this
  simpa using this
theorem CL (ks:List Nat) (t:Nat):∀l:List (Nat×AV),gK t (xJ ks l)=bif ks.contains t then gK t l else .any
 |[]=>by simp [xJ,gK]
 |(u,v)::r=>by
  have ih:=CL ks t r
  simp only [xJ]
  cases h:Nat.beq t u with
  |true=>
   have:=Nat.eq_of_beq_eq_true h;subst this
   cases hk:ks.contains t with
   |true=>simp [gK]
   |false=>rw [cond_false,ih,hk];rfl
  |false=>
   cases hk:ks.contains u with
   |true=>simp only [cond_true,gK,h,cond_false];exact ih
   |false=>simp only [cond_false,gK,h];exact ih
theorem Fr.zf {N:Nat} {ds:List Deferred} {X:Nat→Prop} {β:Nat→Nat} {w:World} {s:St} {a:Act} (hF:Fr G N ds β w X s a) (ks:List Nat):Fr G N ds β w X ⟨xJ ks s.sl,s.bx⟩ a:=
 ⟨hF.cx,hF.defers,hF.size,fun t=>by
  simp only [CL]
  cases ks.contains t with
  |true=>exact hF.ze t
  |false=>simp only [cond_false,aj]⟩
theorem Gs (hT:kr P T) (hm:P.follows .mixedOrders=true) {id:Nat} {fk:Array Oper} {Q:Ex→St→Prop} {β:Nat→Nat} {w:World} {s:St} {a:Act} (ex:Ext β0 bC w0 β s.bx w) (hF:Fr G N ds β w X s a)
 (h:Ua (bA P G) T G N fk.toList Q s):(Code.region id fk true).wp P (gG G N ds X β0 bC w0 Q) a w:=by
 obtain ⟨pl,S,s1,s0,h1,⟨h2,h0⟩,h3,h4,h5⟩:=h
 obtain ⟨eb,hF⟩:s0.bx=s.bx∧Fr G N ds β w X s0 a:=by
  rcases h0 with rfl|⟨ks,rfl⟩
  ·exact ⟨rfl,hF⟩
  exact ⟨rfl,hF.zf ks⟩
 rw [←eb] at ex
 clear h0 eb
 refine wp_region_any hm ?_
 have h1:K1 fk pl=true:=by simpa using h1
 have Gn:nU [] fk fk:=by
  have:nU [] fk (bI [] 0 fk.toList).toArray:=by intro j;simp [mA]
  rwa [oM] at this
 have hsame:=fy w
 have MF:Fr G N ds β {w with drawn:=w.drawn+1} X s0 a:=⟨pV hF.cx hsame,hF.defers,hF.size,fun t=>aj.mono ((jg hsame).eY X) _ _ (hF.ze t)⟩
 have:=Pf (X:=X) hT Gn (QQ:=gG G N ds X β0 bC w0 Q) h1 (fun β bx v u w a ex cx hv hd hq=>⟨β,bx,v,u,rfl,ex,cx,hv,hd,hq⟩) h4 (fun β w s a ex hF hR=>by
  rw [h3] at hR
  cases hR
  exact ⟨β,s1,ex,hF,h5⟩) fk.size 0 ⟨List.replicate fk.size false,[]⟩ s0 β _ a rfl h2 (ex.trans (jg hsame)) MF (by simp [List.count_replicate])
 simpa using this
end
theorem Sp (hT:kr P T) (hm:P.follows .mixedOrders=true):qb P T G:=by
 intro N ds X β0 bC w0 id fk Q β w s a ex hF h
 rcases h with h|h|h
 ·exact Gp hT hm ex hF h
 ·exact Gs hT hm ex hF h
 obtain ⟨pre,late,hpre,⟨hfit⟩,Xo⟩:=h
 refine wp_region_any hm ?_
 obtain ⟨I8,Ll⟩:∃ops:Array Oper,ops=(bI pre 0 fk.toList).toArray:=⟨_,rfl⟩
 obtain ⟨ops,Sq⟩:∃ops:Array Oper,ops=(gw I8 late 0 (bI pre 0 fk.toList)).toArray:=⟨_,rfl⟩
 have ZL:I8.size=fk.size:=by rw [Ll];simp [kw]
 have hsz:ops.size=fk.size:=by rw [Sq];simp [oO,kw]
 have Gn:nU pre fk I8:=by intro j;rw [Ll];simp [mA]
 have hla:Gk late I8 ops:=by intro j;rw [Sq];simp only [List.getElem?_toArray,wL,Nat.zero_add];rw [Ll];simp
 have hl:ops.toList=gw I8 late 0 (bI pre 0 fk.toList):=by rw [Sq]
 rw [←Ll] at hfit Xo hpre
 have hal:kf fk.toList (gw I8 late 0 (bI pre 0 fk.toList)):=(Gl pre _).trans (I7 _ _ _)
 have hop:=Xo
 rw [←As hal _ _ _ _ _ _ hal] at hop
 rw [←hl] at hfit hop
 have hQQ:∀c (a a':Act) w,a.defers=a'.defers→gG G N ds X β0 bC w0 Q (.panic c) a w→gG G N ds X β0 bC w0 Q (.panic c) a' w:=by
  intro c a a' w ha hq
  simp only [gG] at hq ⊢
  obtain ⟨β,bx,v,u,h1,h2,h3,h4,h5,h6⟩:=hq
  exact ⟨β,bx,v,u,h1,h2,h3,h4,ha.symm.trans h5,h6⟩
 suffices hgoal:wpAny P .any ops (gG G N ds X β0 bC w0 Q) fk.size (Array.replicate fk.size false) a {w with drawn:=w.drawn+1} by
  rcases hpre with ⟨rfl,rfl⟩|⟨OO,OH,Fi,ZK⟩
  ·have e:ops=fk:=by rw [Sq,rN,oM]
   rw [e] at hgoal;exact hgoal
  have Pd:iG fk [] pre=true:=by simpa using OO
  have ZM:lX I8=true:=by
   have Xp:lX fk=true:=by simpa using OH
   rw [lX,Array.all_eq_true_iff_forall_mem] at Xp ⊢
   intro o ho
   obtain ⟨j,hj⟩:=Array.getElem?_of_mem ho
   rw [Gn j] at hj
   cases h0:fk[j]? with
   |none=>rw [h0] at hj;cases hj
   |some o0=>
    rw [h0] at hj
    simp only [Option.map_some,osI] at hj
    rw [←hj,(lG pre j o0).1]
    exact Xp o0 (Array.mem_of_getElem? h0)
  have hgoal:=MD hla Fi ZM hQQ _ _ _ _ (by simp [ZL]) hgoal
  obtain ⟨n1,n2,n3⟩:=oP _ _ _ Pd
  have hle:pre.length≤fk.size:=by
   have:=List.Nodup.length_le_of_subset n1 (fun p hp=>List.mem_range.2 (n3 p hp):pre ⊆ List.range fk.size)
   simpa using this
  obtain ⟨fuel,hfuel⟩:∃fuel,fk.size=pre.length+fuel:=⟨fk.size-pre.length,by omega⟩
  rw [hfuel] at hgoal ⊢
  have wH:∀p,p<pre.length+fuel→(Array.replicate (pre.length+fuel) false).getD p true=false:=by intro p hp;simp [hp]
  refine wJ (G:=G) (N:=N) Gn (by simpa using OH) hQQ fuel _ pre [] _ a s.sl Pd ZK ?_ hF.size (by simp) (fun p hp _=>wH p (by have:=n3 p hp;omega)) (fun p hp=>.inr hp) (fun p hp=>hp) (by simp [hfuel]) n1 hgoal
  intro t k z hk
  have:=hF.ze t
  rw [hk] at this
  simpa only [aj,aL] using this
 rw [←hsz]
 have Xq:gq ops (cq ops.toList []) 0 ops.toList=true:=by simpa using hfit
 obtain ⟨cK,k',g1,g2,g3,g4⟩:=tC _ _ _ _ hop
 have Um:∀x,at_ (Array.replicate ops.size false) x=false:=by
  intro x;unfold at_
  rcases Nat.lt_or_ge x ops.size with h|h<;>simp [h]
 have hsame:=fy w
 have f1:=Aq (m:=at_ (Array.replicate ops.size false)) cK 0 s.sl (fun j _=>Um _)
 have f2:=Ar (m:=at_ (Array.replicate ops.size false)) cK 0 (s.bx++List.replicate (oA fk.toList) .bt) (fun j _=>Um _)
 refine Pc hT Xq ops.size _ 0 0 cK ⟨s.sl,s.bx++List.replicate (oA fk.toList) .bt⟩ β _ a (by simp) ?_ (fun x hx=>by omega) (fun x _=>Um x) ?_ (by simpa using g2) g1 ?_ ?_ ?_ ?_
 ·intro x o _ hx;rw [Um] at hx;cases hx
 ·simp
 ·intro j it hj
  obtain ⟨o,q1,q2,q3,q4⟩:=g3 j it hj
  exact ⟨o,by simpa using q1,q2,q3,q4⟩
 ·rcases g4 with ⟨q1,q2⟩|⟨o,rest,q1,q2,q3,q4⟩
  ·exact .inl ⟨by simpa using q1,q2⟩
  exact .inr ⟨k',o,rest,by simpa using q1,q2,q3,q4⟩
 ·rw [f2]
  exact (ex.trans (tF _)).trans (jg hsame)
 rw [f1,f2]
 have c1:=pV (I6 hF.cx (oA fk.toList)) hsame
 refine ⟨c1,hF.defers,hF.size,fun t=>?_⟩
 exact aj.mono (((tF (oA fk.toList)).trans (jg hsame)).eY X) _ _ (hF.ze t)
end
end Dem
end
section
open Go
namespace Dem
abbrev Th:=(α:Type)→(Unit→α)→α
def t0:Th:=fun _ f=>f ()
section
variable (t:Th)
def AV.Sr (bx:List az):AV→Option (Prop×D)
 |.d x=>some (True,x)
 |.cl es=>some (True,.sl es)
 |.fn f []=>some (True,.fn f)
 |.ow b sz n=>match bx[b]? with
  |some (.row s es)=>bif Nat.beq s sz then some (t Prop (fun _=>n=es.length),.sl es) else none
  |some (.kC s es)=>bif Nat.beq s sz then some (t Prop (fun _=>n=es.length),.sl es) else none
  |_=>none
 |_=>none
def Au (bx:List az):List AV→Option (Prop×List D)
 |[]=>some (True,[])
 |x::xs=>match x.Sr t bx,Au bx xs with
  |some (c,y),some (d,ys)=>some (c∧d,y::ys)
  |_,_=>none
def AV.x9 (bx:List az):AV→Option (Prop×List (List D))
 |.d (.sl es)=>some (True,es)
 |.cl es=>some (True,es)
 |.ow b sz n=>match bx[b]? with
  |some (.row s es)=>bif Nat.beq s sz then some (t Prop (fun _=>n=es.length),es) else none
  |some (.kC s es)=>bif Nat.beq s sz then some (t Prop (fun _=>n=es.length),es) else none
  |_=>none
 |.vw b sz off n _ _=>match bx[b]? with
  |some (.row s es)=>bif Nat.beq s sz then some (t Prop (fun _=>off+n≤es.length),t _ fun _=>(es.drop off).take n) else none
  |some (.kC s es)=>bif Nat.beq s sz then some (t Prop (fun _=>off+n≤es.length),t _ fun _=>(es.drop off).take n) else none
  |_=>none
 |_=>none
def loadT (ti:TI) (a:AV) (bx:List az):Option R:=
 match a with
 |.ptr b off=>match bx[b]? with
  |some (.var cs)=>match cM ti.kd.isAgg ti.size (cs.drop off) with
   |some v=>R.pure v
   |none=>none
  |_=>none
 |.ep ds=>match cM ti.kd.isAgg ti.size (ds.map .d) with
  |some v=>R.pure v
  |none=>none
 |_=>none
def rowAt (a:AV) (bx:List az):Option (Prop×List D×Nat):=
 match a with
 |.rp b sz i j=>match bx[b]? with
  |some (.row s es)=>bif Nat.beq s sz then some (t Prop (fun _=>i<es.length),t _ (fun _=>es.getD i []),j) else none
  |some (.kC s es)=>bif Nat.beq s sz then some (t Prop (fun _=>i<es.length),t _ (fun _=>es.getD i []),j) else none
  |_=>none
 |_=>none
def storeT (ti:TI) (a v:AV) (bx:List az):Option R:=
 match v.cells? with
 |none=>none
 |some vs=>bif Nat.beq vs.length ti.size then
  match a with
  |.ptr b off=>match bx[b]? with
   |some (.var cs)=>bif Nat.ble (off+vs.length) cs.length then some ⟨True,.any,some (bx.set b (.var (eM cs off vs)))⟩ else none
   |_=>none
  |.rp b sz i j=>match Au t bx vs with
   |some (c,ds)=>match (eC bx vs)[b]? with
    |some (.row s es)=>bif Nat.beq s sz then some ⟨c∧t Prop (fun _=>i<es.length∧j+ds.length≤(es.getD i []).length),.any,
     some ((eC bx vs).set b (.row s (t _ (fun _=>es.set i (be (es.getD i []) j ds)))))⟩ else none
    |_=>none
   |none=>none
  |_=>none
  else none
def Un (op:BinOp) (k:IntKind) (x y:Int):Option (Prop×D):=
 match op with
 |.add=>some (True,.int k (t _ fun _=>k.wrap (x+y)))
 |.sub=>some (True,.int k (t _ fun _=>k.wrap (x-y)))
 |.mul=>some (True,.int k (t _ fun _=>k.wrap (x*y)))
 |.quo=>some (t Prop fun _=>y≠0,.int k (t _ fun _=>k.wrap (x.tdiv y)))
 |.rem=>some (t Prop fun _=>y≠0,.int k (t _ fun _=>x.tmod y))
 |.and=>some (True,.int k (t _ fun _=>k.wrap (BitVec.ofInt k.bits x &&& BitVec.ofInt k.bits y).toNat))
 |.or=>some (True,.int k (t _ fun _=>k.wrap (BitVec.ofInt k.bits x ||| BitVec.ofInt k.bits y).toNat))
 |.xor=>some (True,.int k (t _ fun _=>k.wrap (BitVec.ofInt k.bits x ^^^ BitVec.ofInt k.bits y).toNat))
 |.andNot=>some (True,.int k (t _ fun _=>k.wrap (BitVec.ofInt k.bits x &&& ~~~(BitVec.ofInt k.bits y)).toNat))
 |.eql=>some (True,.bool (t _ fun _=>decide (x=y)))
 |.neq=>some (True,.bool (t _ fun _=>!decide (x=y)))
 |.lss=>some (True,.bool (t _ fun _=>decide (x<y)))
 |.leq=>some (True,.bool (t _ fun _=>decide (x≤y)))
 |.gtr=>some (True,.bool (t _ fun _=>decide (y<x)))
 |.geq=>some (True,.bool (t _ fun _=>decide (y≤x)))
 |_=>none
def Uo (op:BinOp) (x y:List UInt8):Option (Prop×D):=
 match op with
 |.add=>some (t Prop fun _=>x.length+y.length≤9223372036854775807,.str (t _ fun _=>x++y))
 |.eql=>some (True,.bool (t _ fun _=>decide (x=y)))
 |.neq=>some (True,.bool (t _ fun _=>!decide (x=y)))
 |.lss=>some (True,.bool (t _ fun _=>Op.bytesLess x y))
 |.leq=>some (True,.bool (t _ fun _=>Op.bytesLess x y||decide (x=y)))
 |.gtr=>some (True,.bool (t _ fun _=>!(Op.bytesLess x y||decide (x=y))))
 |.geq=>some (True,.bool (t _ fun _=>!Op.bytesLess x y))
 |_=>none
def Pg (op:BinOp) (x y:AV):Option (Prop×D):=
 match op,x,y with
 |.shl,.d (.int k x),.d (.int _ y)=>some (t Prop fun _=>0≤y,.int k (t _ fun _=>k.wrap (x*2^(min y.toNat k.bits))))
 |.shr,.d (.int k x),.d (.int _ y)=>some (t Prop fun _=>0≤y,.int k (t _ fun _=>x.fdiv (2^(min y.toNat k.bits))))
 |op,.d (.int k x),.d (.int k' y)=>bif k==k' then Un t op k x y else none
 |op,.d (.str x),.d (.str y)=>Uo t op x y
 |_,_,_=>none
def I9 (T:Nat→Option TI):Nat→Nat→AV→AV→Option Bool
 |0,_,_,_=>none
 |n+1,ty,x,y=>match T ty with
  |none=>none
  |some ti=>match ti.kd,x,y with
   |.int _,.d (.int j a),.d (.int k b)=>bif j==k then some (t _ fun _=>decide (a=b)) else none
   |.bool,.d (.bool a),.d (.bool b)=>some (t _ fun _=>a==b)
   |.str,.d (.str a),.d (.str b)=>some (t _ fun _=>decide (a=b))
   |.array len e,.agg xs,.agg ys=>match T e with
    |some te=>bif Nat.beq len 0 then none else (List.range len).foldr (fun i acc=>match cM te.kd.isAgg te.size (xs.drop (i*te.size)),cM te.kd.isAgg te.size (ys.drop (i*te.size)) with
     |some a,some b=>match I9 T n e a b,acc with
      |some p,some q=>some (t _ fun _=>p&&q)
      |_,_=>none
     |_,_=>none) (some true)
    |none=>none
   |.struct fs,.agg xs,.agg ys=>bif ti.eq then fs.foldr (fun f acc=>match T f.2 with
    |some tf=>match cM tf.kd.isAgg tf.size (xs.drop f.1),cM tf.kd.isAgg tf.size (ys.drop f.1) with
     |some a,some b=>match I9 T n f.2 a b,acc with
      |some p,some q=>some (t _ fun _=>p&&q)
      |_,_=>none
     |_,_=>none
    |none=>none) (some true) else none
   |_,_,_=>none
def D9 (p:Bool):AV→AV→AV
 |.d (.bool x),.d (.bool y)=>.d (.bool (t _ fun _=>bif p then x else y))
 |.any,.d (.bool y)=>bif p then .any else .d (.bool y)
 |_,_=>.any
def Vf (op:UnOp) (x:AV):Option D:=
 match op,x with
 |.not,.d (.bool b)=>some (.bool (t _ fun _=>!b))
 |.neg,.d (.int k n)=>some (.int k (t _ fun _=>k.wrap (0-n)))
 |.xor,.d (.int k n)=>some (.int k (t _ fun _=>k.wrap (BitVec.ofInt k.bits (if k.signed then -1 else k.max) ^^^ BitVec.ofInt k.bits n).toNat))
 |_,_=>none
def Ja (T:Nat→Option TI) (ty:Nat) (x:AV) (lo hi mx:Option Int) (bx:List az):Option R:=
 match T ty with
 |some ti=>match ti.kd,x,mx with
  |.str,.d (.str s),none=>some ⟨t Prop fun _=>bO s.length lo hi,.d (.str (t _ fun _=>iF s lo hi)),none⟩
  |.slice e,x,none=>match x.x9 t bx,T e with
   |some (c,es),some te=>some ⟨c∧t Prop (fun _=>bO es.length lo hi∧∀r∈es,r.length=te.size),.d (.sl (t _ fun _=>iF es lo hi)),bif cF [x] then none else some (x.cw bx)⟩
   |_,_=>none
  |.slice e,x,some m=>match x.x9 t bx,hi,T e with
   |some (c,es),some h,some te=>some ⟨c∧t Prop (fun _=>(bO es.length lo (some h)∧m=h)∧∀r∈es,r.length=te.size),.cl (t _ fun _=>iF es lo (some h)),bif cF [x] then none else some (x.cw bx)⟩
   |_,_,_=>none
  |.array n e,.ep ds,none=>match lo,hi,T e with
   |none,none,some te=>bif Nat.ble (n*te.size) ds.length then some ⟨True,.d (.sl (chunk te.size n ds)),none⟩ else none
   |_,_,_=>none
  |.array n e,.ptr b 0,none=>match lo,hi,T e,bx[b]? with
   |none,none,some te,some (.var cs)=>match iV [] cs with
    |some ds=>bif Nat.ble (n*te.size) ds.length then some ⟨True,.d (.sl (chunk te.size n ds)),some (bx.set b .dead)⟩ else none
    |none=>none
   |_,_,_,_=>none
  |_,_,_=>none
 |none=>none
def uZ (bx:List az) (size:Nat):List (Nat×AV)→Option (Prop×List (List D))
 |[]=>some (True,[])
 |(_,v)::r=>match v.cells? with
  |some vs=>match Au t bx vs,uZ bx size r with
   |some (c,ds),some (d,rs)=>bif Nat.beq ds.length size then some (c∧d,ds::rs) else none
   |_,_=>none
  |none=>none
def qo (T:Nat→Option TI) (ty n:Nat) (parts:List (Nat×AV)) (bx:List az):Option R:=
 match T ty with
 |some ti=>match ti.kd with
  |.slice e=>match T e with
   |some te=>bif Nat.beq parts.length n&&mU 0 parts&&Nat.ble (n*te.size) 16777216&&te.zero.cells?.isSome then
    match uZ t bx te.size parts with
    |some (c,rs)=>some ⟨c,.cl rs,bif Fm parts then none else some (dI bx parts)⟩
    |none=>none
    else none
   |none=>none
  |_=>none
 |none=>none
def Av (size:Nat) (x:AV) (bx:List az):Option (Prop×List (List D)):=
 match x with
 |.d (.str b)=>bif Nat.beq size 1 then some (True,t _ fun _=>b.map ru) else none
 |x=>x.x9 t bx
def zg (T:Nat→Option TI) (ty:Nat) (s x:AV) (bx:List az):Option R:=
 match T ty with
 |some ti=>match ti.kd with
  |.slice e=>match T e with
   |some te=>bif eN te then
    match Av t te.size x bx with
    |some (c,xs)=>match s with
     |.cl es=>some ⟨c∧t Prop (fun _=>(es=[]∨xs≠[])∧(es.length+xs.length)*te.bytes≤140737488355328∧(∀r∈es++xs,r.length=te.size)),
      .ow bx.length te.size (t _ fun _=>es.length+xs.length),some (bx++[.row te.size (t _ fun _=>es++xs)])⟩
     |.ow b sz n=>match bx[b]? with
      |some (.row s2 es)=>bif sameBox b x||!(Nat.beq s2 sz&&Nat.beq sz te.size) then none else
       some ⟨c∧t Prop (fun _=>n=es.length∧(es.length+xs.length)*te.bytes≤140737488355328∧(∀r∈es++xs,r.length=te.size)),
       .ow bx.length te.size (t _ fun _=>es.length+xs.length),some ((bx.set b .dead)++[.row te.size (t _ fun _=>es++xs)])⟩
      |_=>none
     |_=>none
    |none=>none
    else none
   |none=>none
  |_=>none
 |none=>none
def Ph (T:Nat→Option TI) (src dst:Nat) (x:AV) (bx:List az):Option R:=
 match T src,T dst with
 |some ts,some td=>match ts.kd,td.kd,x with
  |_,.int k,.d (.int _ n)=>R.pure (.d (.int k (t _ fun _=>k.wrap n)))
  |.slice e,.str,x=>match T e,x.x9 t bx with
   |some te,some (c,es)=>match te.kd with
    |.int .u8=>some ⟨c∧t Prop (fun _=>∀r∈es,rA r),.d (.str (t _ fun _=>es.map ry)),none⟩
    |_=>none
   |_,_=>none
  |.str,.str,.d (.str s)=>R.pure (.d (.str s))
  |_,_,_=>none
 |_,_=>none
def Aw (T:Nat→Option TI) (b:Builtin) (args:List AV) (ats:List Nat) (bx:List az):Option R:=
 match b,args,ats with
 |.len,[x],[ty]=>match T ty with
  |some ti=>match ti.kd,x with
   |.array n _,_=>R.pure (.d (.int .i64 n))
   |.str,.d (.str s)=>R.pure (.d (.int .i64 (t _ fun _=>s.length)))
   |.slice _,x=>match x.x9 t bx with
    |some (c,es)=>some ⟨c,.d (.int .i64 (t _ fun _=>es.length)),none⟩
    |none=>none
   |_,_=>none
  |none=>none
 |.min,[.d (.int k x),.d (.int _ y)],_=>R.pure (.d (.int k (t _ fun _=>min x y)))
 |.max,[.d (.int k x),.d (.int _ y)],_=>R.pure (.d (.int k (t _ fun _=>max x y)))
 |.append,[s,x],[ty,u]=>match T u with
  |some tu=>match tu.kd with
   |.int _=>none
   |_=>zg t T ty s x bx
  |none=>none
 |_,_,_=>none
def Ax (size:Nat) (y:AV) (n:Nat) (bx:List az):Option (Prop×Nat×List (List D)):=
 match y with
 |.vw b sz off n2 _ _=>match bx[b]? with
  |some (.row s es)=>bif Nat.beq s sz then some (t Prop (fun _=>off+min n2 n≤es.length),t _ (fun _=>min n2 n),t _ fun _=>(es.drop off).take (min n2 n)) else none
  |some (.kC s es)=>bif Nat.beq s sz then some (t Prop (fun _=>off+min n2 n≤es.length),t _ (fun _=>min n2 n),t _ fun _=>(es.drop off).take (min n2 n)) else none
  |_=>none
 |y=>match Av t size y bx with
  |some (c,xs)=>some (c,t _ (fun _=>min xs.length n),t _ fun _=>xs.take (min xs.length n))
  |none=>none
def Pj (te:TI) (x y:AV) (bx:List az):Option R:=
 match viewAt x with
 |some (b,sz,off,n,_,_)=>match bx[b]?,Ax t te.size y n bx with
  |some (.row s es),some (cy,m,xs)=>bif Nat.beq s sz&&Nat.beq sz te.size then
   some ⟨cy∧t Prop (fun _=>eO es off m∧∀r∈xs,r.length=te.size),.d (.int .i64 (t _ fun _=>(m:Int))),
    some (bx.set b (.row sz (t _ fun _=>wrote es off xs)))⟩ else none
  |_,_=>none
 |none=>none
def Vg (te:TI) (x:AV) (bx:List az):Option R:=
 match viewAt x with
 |some (b,sz,off,n,_,_)=>match bx[b]?,mV te with
  |some (.row s es),some z=>bif Nat.beq s sz&&Nat.beq sz te.size&&eN te then
   some ⟨t Prop (fun _=>eO es off n),.dV [],some (bx.set b (.row sz (t _ fun _=>wrote es off (List.replicate n z))))⟩ else none
  |_,_=>none
 |none=>none
def Xr (te:TI) (b sz off n c:Nat) (ex:Bool) (m:Int) (bx:List az):Option R:=
 match bx[b]?,mV te with
 |some (.row s es),some z=>bif Nat.beq s sz&&Nat.beq sz te.size&&eN te&&ex then
  some ⟨t Prop (fun _=>0≤m∧c<n+m.toNat∧off+n≤es.length∧(n+m.toNat)*te.bytes≤140737488355328),
   .vw bx.length sz 0 (t _ fun _=>n+m.toNat) (t _ fun _=>n+m.toNat) false,some (bx++[.row sz (t _ fun _=>(es.drop off).take n++List.replicate m.toNat z)])⟩ else none
 |_,_=>none
def Ea (te:TI) (b sz off n c:Nat) (ex:Bool) (y:AV) (bx:List az):Option R:=
 match bx[b]?,Av t te.size y bx with
 |some (.row s es),some (cy,xs)=>bif Nat.beq s sz&&Nat.beq sz te.size then
  some ⟨cy∧t Prop (fun _=>eO es (off+n) xs.length∧n+xs.length≤c∧∀r∈xs,r.length=te.size),.vw b sz off (t _ fun _=>n+xs.length) c ex,
   some (bx.set b (.row sz (t _ fun _=>wrote es (off+n) xs)))⟩ else none
 |_,_=>none
def Xs (te:TI) (n m:Int) (bx:List az):Option R:=
 match mV te with
 |some z=>bif eN te then some ⟨t Prop (fun _=>0≤n∧n=m∧n.toNat*te.bytes≤140737488355328),.ow bx.length te.size (t _ fun _=>n.toNat),some (bx++[.row te.size (t _ fun _=>List.replicate n.toNat z)])⟩ else none
 |none=>none
def Pk (T:Nat→Option TI) (ev:Operand→AV) (o:Op) (bx:List az):Option R:=
 match o with
 |.slice ty x lo hi mx=>match ev x,elemOf T ty,BT ev lo,BT ev hi,BT ev mx with
  |.vw b sz off n c ex,some te,some l,some h,some none=>bif Nat.beq te.size sz then
   some ⟨t Prop (fun _=>dJ n c l h),.vw b sz (t _ fun _=>off+aW l) (t _ fun _=>aT n h-aW l) (t _ fun _=>c-aW l) ex,none⟩ else none
  |.vw b sz off n c ex,some te,some l,some (some h),some (some m)=>bif Nat.beq te.size sz then
   some ⟨t Prop (fun _=>bO c l (some h)∧h≤m∧m≤c),.vw b sz (t _ fun _=>off+aW l) (t _ fun _=>h.toNat-aW l) (t _ fun _=>m.toNat-aW l) true,none⟩ else none
  |_,_,_,_,_=>none
 |.indexAddr ty x i=>match ev x,elemOf T ty,ev i with
  |.vw b sz off n _ _,some te,.d (.int _ z)=>bif Nat.beq te.size sz then some ⟨t Prop (fun _=>0≤z∧z<n),.rp b sz (t _ fun _=>off+z.toNat) 0,none⟩ else none
  |_,_,_=>none
 |.makeSlice ty a b=>match elemOf T ty,ev a,ev b with
  |some te,.d (.int .i64 n),.d (.int .i64 m)=>Xs t te n m bx
  |_,_,_=>none
 |.call {callee:=.builtin b,args,argTypes}=>match b,args.toList.map ev,argTypes.toList with
  |.len,[.vw _ _ _ n _ _],[ty]=>match elemOf T ty with
   |some _=>R.pure (.d (.int .i64 (t _ fun _=>n)))
   |none=>none
  |.cap,[.vw _ _ _ _ c true],[ty]=>match elemOf T ty with
   |some _=>R.pure (.d (.int .i64 (t _ fun _=>c)))
   |none=>none
  |.copy,[x,y],ty::_=>match elemOf T ty with
   |some te=>Pj t te x y bx
   |none=>none
  |.clear,[x],ty::_=>match elemOf T ty with
   |some te=>Vg t te x bx
   |none=>none
  |.append,[.vw b sz off n c ex,y],[ty,u]=>match elemOf T ty,DL T u with
   |some te,some true=>match y with
    |.d (.int .i64 m)=>Xr t te b sz off n c ex m bx
    |_=>none
   |some te,some false=>bif sameBox b y then Ea t te b sz off n c ex y bx else
    match bx[b]?,zg t T ty (.ow b sz n) y bx with
    |some (.row _ es),some ⟨c1,v,aR⟩=>some ⟨c1∧t Prop (fun _=>whole es off n c ex),v,aR⟩
    |_,_=>none
   |_,_=>none
  |_,_,_=>none
 |_=>none
def B8 (T:Nat→Option TI) (ev:Operand→AV) (o:Op) (bx:List az):Option R:=
 match o with
 |.move x=>R.pure (ev x)
 |.assign x=>R.pure (ev x)
 |.alloc ty=>match T ty with
  |some ti=>match ti.zero.cells? with
   |some cs=>some ⟨True,.ptr bx.length 0,some (bx++[.var cs])⟩
   |none=>none
  |none=>none
 |.box _ x=>match (ev x).cells? with
  |some cs=>some ⟨True,.ptr bx.length 0,some (bx++[.var cs])⟩
  |none=>none
 |.load ty a=>match T ty with
  |some ti=>loadT ti (ev a) bx
  |none=>none
 |.store ty a x=>match T ty with
  |some ti=>storeT t ti (ev a) (ev x) bx
  |none=>none
 |.build ty parts=>DK T ty (parts.toList.map fun p=>(p.1,ev p.2))
 |.buildSlice ty n parts=>qo t T ty n (parts.toList.map fun p=>(p.1,ev p.2)) bx
 |.fieldAddr ty x f=>match T ty with
  |some ti=>match zB ti.kd f with
   |some (o,ft)=>match T ft with
    |some tf=>bif Nat.beq tf.size 0 then none else
     match ev x with
     |.ptr b off=>R.pure (.ptr b (off+o))
     |.rp b sz i j=>R.pure (.rp b sz i (j+o))
     |.ep ds=>bif Nat.ble o ds.length then R.pure (.ep (ds.drop o)) else none
     |_=>none
    |none=>none
   |none=>none
  |none=>none
 |.indexAddr ty x i=>match T ty with
  |some ti=>match ti.kd,ev i with
   |.array n e,.d (.int _ z)=>match T e with
    |some te=>match ev x with
     |.ptr b off=>some ⟨t Prop fun _=>0≤z∧z<n,.ptr b (off+z.toNat*te.size),none⟩
     |.rp b sz a j=>some ⟨t Prop fun _=>0≤z∧z<n,.rp b sz a (j+z.toNat*te.size),none⟩
     |.ep ds=>some ⟨t Prop fun _=>0≤z∧z<n∧z.toNat*te.size≤ds.length,.ep (ds.drop (z.toNat*te.size)),none⟩
     |_=>none
    |none=>none
   |.slice e,.d (.int _ z)=>match T e,ev x with
    |some te,.ow b sz n=>bif Nat.beq te.size sz then some ⟨t Prop fun _=>0≤z∧z<n,.rp b sz (t _ fun _=>z.toNat) 0,none⟩ else none
    |_,_=>none
   |_,_=>none
  |none=>none
 |.field ty x f=>match T ty with
  |some ti=>match zB ti.kd f with
   |some (o,ft)=>match T ft,ev x with
    |some tf,.agg cs=>match cM tf.kd.isAgg tf.size (cs.drop o) with
     |some v=>R.pure v
     |none=>none
    |_,_=>none
   |none=>none
  |none=>none
 |.index ty x i=>match T ty with
  |some ti=>match ti.kd,ev x,ev i with
   |.str,.d (.str s),.d (.int _ z)=>some ⟨t Prop fun _=>0≤z∧z<s.length,.d (.int .u8 (t _ fun _=>(s.getD z.toNat 0).toNat)),none⟩
   |.array n e,.agg cs,.d (.int _ z)=>match T e with
    |some te=>match cM te.kd.isAgg te.size (cs.drop (z.toNat*te.size)) with
     |some v=>some ⟨t Prop fun _=>0≤z∧z<n,v,none⟩
     |none=>none
    |none=>none
   |_,_,_=>none
  |none=>none
 |.extract x i=>match ev x with
  |.dV vs=>match vs[i]? with
   |some v=>R.pure v
   |none=>none
  |_=>none
 |.binOp op ty x y _=>match ev x,ev y with
  |.agg xs,.agg ys=>match op with
   |.eql=>(I9 t T 8 ty (.agg xs) (.agg ys)).bind fun d=>R.pure (.d (.bool d))
   |.neq=>(I9 t T 8 ty (.agg xs) (.agg ys)).bind fun d=>R.pure (.d (.bool (t _ fun _=>!d)))
   |_=>none
  |.d (.bool p),.d (.bool q)=>match T ty,op with
   |some ti,.eql=>match ti.kd with
    |.bool=>R.pure (.d (.bool (t _ fun _=>p==q)))
    |_=>none
   |some ti,.neq=>match ti.kd with
    |.bool=>R.pure (.d (.bool (t _ fun _=>!(p==q))))
    |_=>none
   |_,_=>none
  |.sj _ _,.k .nilIface=>match T ty,op with
   |some ti,.eql=>match ti.kd with
    |.iface=>R.pure (.d (.bool false))
    |_=>none
   |some ti,.neq=>match ti.kd with
    |.iface=>R.pure (.d (.bool true))
    |_=>none
   |_,_=>none
  |.k .nilIface,.k .nilIface=>match y with
   |.const _=>match T ty,op with
    |some ti,.eql=>match ti.kd with
     |.iface=>R.pure (.d (.bool true))
     |_=>none
    |some ti,.neq=>match ti.kd with
     |.iface=>R.pure (.d (.bool false))
     |_=>none
    |_,_=>none
   |_=>none
  |x,y=>match Pg t op x y with
   |some (c,d)=>some ⟨c,.d d,none⟩
   |none=>none
 |.unOp op _ x=>(Vf t op (ev x)).bind fun d=>R.pure (.d d)
 |.convert s d x=>Ph t T s d (ev x) bx
 |.slice ty x lo hi mx=>match BT ev lo,BT ev hi,BT ev mx with
  |some l,some h,some m=>Ja t T ty (ev x) l h m bx
  |_,_,_=>none
 |.makeFunc (.func f) first jQ=>bif first.toList.isEmpty then (bif jY (jQ.toList.map ev) then R.pure (.fn f (jQ.toList.map ev)) else none) else R.pure (.fn f (.dV (first.toList.map ev)::jQ.toList.map ev))
 |.makeInterface t x=>match T t with
  |some ti=>bif ti.kd.plain then R.pure (.sj t (ev x)) else none
  |none=>none
 |.typeAssert x _ u ok=>match T u with
  |some tu=>bif tu.kd.plain&&tu.zero.cells?.isSome then
   match ev x with
   |.sj t v=>bif Nat.beq t u then R.pure (bif ok then .dV [v,.d (.bool true)] else v) else bif ok then R.pure (.dV [tu.zero,.d (.bool false)]) else none
   |.k .nilIface=>bif ok then R.pure (.dV [tu.zero,.d (.bool false)]) else none
   |_=>none
   else none
  |none=>none
 |.nilCheck x=>match ev x with
  |.ptr b o=>R.pure (.ptr b o)
  |.rp b s i j=>R.pure (.rp b s i j)
  |.ep ds=>R.pure (.ep ds)
  |.fn f cs=>R.pure (.fn f cs)
  |_=>none
 |.call {callee:=.builtin b,args,argTypes}=>Aw t T b (args.toList.map ev) argTypes.toList bx
 |_=>none
def WO (T:Nat→Option TI) (ev:Operand→AV) (o:Op) (bx:List az):Option R:=
 bif iZ ev o then Pk t T ev o bx else B8 t T ev o bx
end
section
variable {bx:List az}
theorem Pm {x:AV} {c:Prop} {y:D} (h:x.Sr t0 bx=some (c,y)) (hc:c):x.rq bx=some y:=by
 unfold AV.Sr at h
 split at h
 ·simp only [osI,Prod.mk.injEq] at h;obtain ⟨rfl,rfl⟩:=h;rfl
 ·simp only [osI,Prod.mk.injEq] at h;obtain ⟨rfl,rfl⟩:=h;rfl
 ·simp only [osI,Prod.mk.injEq] at h;obtain ⟨rfl,rfl⟩:=h;rfl
 ·rename_i b sz n
  split at h
  ·rename_i s es hb
   cases hs:Nat.beq s sz with
   |false=>simp [hs] at h
   |true=>
   simp only [hs,cond_true,osI,Prod.mk.injEq] at h
   obtain ⟨rfl,rfl⟩:=h
   have hn:n=es.length:=hc
   simp [AV.rq,hb,hs,hn]
  ·rename_i s es hb
   cases hs:Nat.beq s sz with
   |false=>simp [hs] at h
   |true=>
   simp only [hs,cond_true,osI,Prod.mk.injEq] at h
   obtain ⟨rfl,rfl⟩:=h
   have hn:n=es.length:=hc
   simp [AV.rq,hb,hs,hn]
  simp at h
 simp at h
theorem u7:∀{xs:List AV} {c:Prop} {ys:List D},Au t0 bx xs=some (c,ys)→c→iV bx xs=some ys
 |[],c,ys,h,_=>by simp [Au] at h;simp [iV,h.2]
 |x::xs,c,ys,h,hc=>by
  simp only [Au] at h
  split at h
  ·rename_i c1 y d ys' h1 h2
   simp only [osI,Prod.mk.injEq] at h
   obtain ⟨rfl,rfl⟩:=h
   simp [iV,Pm h1 hc.1,u7 h2 hc.2]
  simp at h
theorem kg {x:AV} {c:Prop} {es:List (List D)} (h:x.x9 t0 bx=some (c,es)) (hc:c):x.rows bx=some es:=by
 unfold AV.x9 at h
 split at h
 ·simp only [osI,Prod.mk.injEq] at h;obtain ⟨rfl,rfl⟩:=h;rfl
 ·simp only [osI,Prod.mk.injEq] at h;obtain ⟨rfl,rfl⟩:=h;rfl
 ·rename_i b sz n
  split at h
  ·rename_i s es' hb
   cases hs:Nat.beq s sz with
   |false=>simp [hs] at h
   |true=>
   simp only [hs,cond_true,osI,Prod.mk.injEq] at h
   obtain ⟨rfl,rfl⟩:=h
   have hn:n=es'.length:=hc
   simp [AV.rows,hb,hs,hn]
  ·rename_i s es' hb
   cases hs:Nat.beq s sz with
   |false=>simp [hs] at h
   |true=>
   simp only [hs,cond_true,osI,Prod.mk.injEq] at h
   obtain ⟨rfl,rfl⟩:=h
   have hn:n=es'.length:=hc
   simp [AV.rows,hb,hs,hn]
  simp at h
 ·rename_i b sz off n _ _
  split at h
  ·rename_i s es' hb
   cases hs:Nat.beq s sz with
   |false=>simp [hs] at h
   |true=>
   simp only [hs,cond_true,osI,Prod.mk.injEq] at h
   obtain ⟨rfl,rfl⟩:=h
   have hn:Nat.ble (off+n) es'.length=true:=Nat.ble_eq_true_of_le hc
   simp [AV.rows,hb,hs,hn,t0]
  ·rename_i s es' hb
   cases hs:Nat.beq s sz with
   |false=>simp [hs] at h
   |true=>
   simp only [hs,cond_true,osI,Prod.mk.injEq] at h
   obtain ⟨rfl,rfl⟩:=h
   have hn:Nat.ble (off+n) es'.length=true:=Nat.ble_eq_true_of_le hc
   simp [AV.rows,hb,hs,hn,t0]
  simp at h
 simp at h
theorem Gt {T:Nat→Option TI}:∀(n ty:Nat) (x y:AV),I9 t0 T n ty x y=BS T n ty x y
 |0,_,_,_=>rfl
 |n+1,ty,x,y=>by
  have ih:∀e a b,I9 t0 T n e a b=BS T n e a b:=fun e a b=>Gt n e a b
  simp only [I9,BS,ih]
  rfl
def nV (r:Option R) (v:AV) (b:Option (List az)):Prop:=∃c',r=some ⟨c',v,b⟩∧c'
theorem Ss {ti:TI} {a:AV} {c:Prop} {v:AV} {b:Option (List az)} (h:loadT ti a bx=some ⟨c,v,b⟩) (hc:c):nV (pn ti a bx) v b:=by
 cases a with
 |rp=>simp [loadT] at h
 |_=>exact ⟨c,h,hc⟩
theorem Pn {ti:TI} {a x:AV} {c:Prop} {v:AV} {b:Option (List az)} (h:storeT t0 ti a x bx=some ⟨c,v,b⟩) (hc:c):nV (sY ti a x bx) v b:=by
 unfold storeT at h
 unfold sY
 split at h
 ·simp at h
 rename_i vs hvs
 simp only [hvs]
 cases hl:Nat.beq vs.length ti.size with
 |false=>simp [hl] at h
 |true=>
 simp only [hl,cond_true] at h ⊢
 split at h
 ·exact ⟨c,h,hc⟩
 ·rename_i b' sz i j
  split at h
  ·rename_i c1 ds hds
   split at h
   ·rename_i s es hb
    cases hs:Nat.beq s sz with
    |false=>simp [hs] at h
    |true=>
    simp only [hs,cond_true,osI,R.mk.injEq] at h
    obtain ⟨rfl,rfl,rfl⟩:=h
    have hs':s=sz:=Nat.eq_of_beq_eq_true hs
    simp only [u7 hds hc.1,hb]
    exact ⟨_,rfl,hs',hc.2.1,hc.2.2⟩
   simp at h
  simp at h
 simp at h
theorem Su (op:BinOp) (k:IntKind) (x y:Int):Un t0 op k x y=RR op k x y:=by cases op<;>rfl
theorem Sv (op:BinOp) (x y:List UInt8):Uo t0 op x y=RS op x y:=by cases op<;>rfl
theorem Sw (op:BinOp) (x y:AV):Pg t0 op x y=Om op x y:=by
 unfold Pg Om;simp only [Su,Sv];rfl
theorem Vh (op:UnOp) (x:AV):Vf t0 op x=WC op x:=by
 unfold Vf WC;rfl
theorem Gu (p:Bool) (x y:AV):D9 t0 p x y=zC p x y:=by
 unfold D9 zC;rfl
theorem Po {T:Nat→Option TI} {ty:Nat} {x:AV} {lo hi mx:Option Int} {c:Prop} {v:AV} {b:Option (List az)} (h:Ja t0 T ty x lo hi mx bx=some ⟨c,v,b⟩) (hc:c):nV (pP T ty x lo hi mx bx) v b:=by
 unfold Ja at h
 unfold pP
 split at h
 ·rename_i ti ht
  simp only [ht]
  split at h
  ·rename_i s hk
   simp only [hk]
   exact ⟨c,h,hc⟩
  ·rename_i e hk
   simp only [hk]
   split at h
   ·rename_i c1 es te h1 h2
    simp only [osI,R.mk.injEq] at h
    obtain ⟨rfl,rfl,rfl⟩:=h
    simp only [kg h1 hc.1,h2]
    exact ⟨_,rfl,hc.2⟩
   simp at h
  ·rename_i e m hk
   simp only [hk]
   split at h
   ·rename_i c1 es h' te h1 h2
    simp only [osI,R.mk.injEq] at h
    obtain ⟨rfl,rfl,rfl⟩:=h
    simp only [kg h1 hc.1,h2]
    exact ⟨_,rfl,hc.2⟩
   simp at h
  ·rename_i n e ds hk
   simp only [hk]
   split at h
   ·rename_i te hte
    cases hb:Nat.ble (n*te.size) ds.length with
    |false=>simp [hb] at h
    |true=>
    simp only [hb,cond_true,osI,R.mk.injEq] at h
    obtain ⟨rfl,rfl,rfl⟩:=h
    simp only [hte]
    exact ⟨_,rfl,Nat.le_of_ble_eq_true hb⟩
   simp at h
  ·rename_i n e b hk
   simp only [hk]
   split at h
   ·rename_i te cs hte rI
    split at h
    ·rename_i ds hd
     cases hb:Nat.ble (n*te.size) ds.length with
     |false=>simp [hb] at h
     |true=>
     simp only [hb,cond_true,osI,R.mk.injEq] at h
     obtain ⟨rfl,rfl,rfl⟩:=h
     simp only [hte,rI,hd]
     exact ⟨_,rfl,Nat.le_of_ble_eq_true hb⟩
    simp at h
   simp at h
  simp at h
 simp at h
theorem CM {size:Nat}:∀{parts:List (Nat×AV)} {c:Prop} {rs:List (List D)},uZ t0 bx size parts=some (c,rs)→c→rowsOf bx size parts=some rs
 |[],c,rs,h,_=>by simp [uZ] at h;simp [rowsOf,h.2]
 |(i,v)::r,c,rs,h,hc=>by
  simp only [uZ] at h
  split at h
  ·rename_i vs hvs
   split at h
   ·rename_i c1 ds d W6 h1 h2
    cases hl:Nat.beq ds.length size with
    |false=>simp [hl] at h
    |true=>
    simp only [hl,cond_true,osI,Prod.mk.injEq] at h
    obtain ⟨rfl,rfl⟩:=h
    simp only [rowsOf,hvs,u7 h1 hc.1,CM h2 hc.2,hl,cond_true]
   simp at h
  simp at h
theorem B9 {T:Nat→Option TI} {ty n:Nat} {parts:List (Nat×AV)} {c:Prop} {v:AV} {b:Option (List az)} (h:qo t0 T ty n parts bx=some ⟨c,v,b⟩) (hc:c):nV (gj T ty n parts bx) v b:=by
 unfold qo at h
 unfold gj
 split at h
 ·rename_i ti ht
  simp only [ht]
  split at h
  ·rename_i e hk
   simp only [hk]
   split at h
   ·rename_i te hte
    simp only [hte]
    cases hb:(Nat.beq parts.length n&&mU 0 parts&&Nat.ble (n*te.size) 16777216&&te.zero.cells?.isSome) with
    |false=>simp only [hb,cond_false] at h;simp at h
    |true=>
    simp only [hb,cond_true] at h ⊢
    split at h
    ·rename_i c1 rs h1
     simp only [osI,R.mk.injEq] at h
     obtain ⟨rfl,rfl,rfl⟩:=h
     simp only [CM h1 hc]
     exact ⟨_,rfl,trv⟩
    simp at h
   simp at h
  simp at h
 simp at h
theorem u9 {size:Nat} {x:AV} {c:Prop} {xs:List (List D)} (h:Av t0 size x bx=some (c,xs)) (hc:c):kD size x bx=some xs:=by
 unfold Av at h
 split at h
 ·rename_i b
  simp only [kD]
  cases hs:Nat.beq size 1 with
  |false=>simp [hs] at h
  |true=>
   simp only [hs,cond_true,osI,Prod.mk.injEq] at h ⊢
   exact h.2
 rename_i hx
 unfold kD
 split
 ·rename_i b;exact absurd rfl (hx b)
 exact kg h hc
theorem CN {T:Nat→Option TI} {ty:Nat} {s x:AV} {c:Prop} {v:AV} {b:Option (List az)} (h:zg t0 T ty s x bx=some ⟨c,v,b⟩) (hc:c):nV (lq T ty s x bx) v b:=by
 unfold zg at h
 unfold lq
 split at h
 ·rename_i ti ht
  simp only [ht]
  split at h
  ·rename_i e hk
   simp only [hk]
   split at h
   ·rename_i te hte
    simp only [hte]
    cases hz:eN te with
    |false=>simp [hz] at h
    |true=>
    simp only [hz,cond_true] at h ⊢
    split at h
    ·rename_i c1 xs h1
     split at h
     ·rename_i es
      simp only [osI,R.mk.injEq] at h
      obtain ⟨rfl,rfl,rfl⟩:=h
      obtain ⟨BW,hne,hl,hr⟩:=hc
      simp only [u9 h1 BW]
      cases es with
      |nil=>
       refine ⟨_,by simp only [t0,List.length_nil,Nat.zero_add,List.nil_append];rfl,?_⟩
       exact ⟨by simpa using hl,by simpa using hr⟩
      |cons e0 er=>
       cases xs with
       |nil=>simp at hne
       |cons x0 xr=>exact ⟨_,rfl,hl,hr⟩
     ·rename_i b' sz n
      split at h
      ·rename_i s2 es hb
       cases II:sameBox b' x with
       |true=>simp [II] at h
       |false=>
       cases h2:Nat.beq s2 sz with
       |false=>simp [II,h2] at h
       |true=>
       cases h3:Nat.beq sz te.size with
       |false=>simp [II,h2,h3] at h
       |true=>
       simp only [II,h2,h3,Bool.and_self,Bool.not_true,Bool.or_self,cond_false,osI,R.mk.injEq] at h
       obtain ⟨rfl,rfl,rfl⟩:=h
       obtain ⟨BW,hn,hl,hr⟩:=hc
       simp only [u9 h1 BW,hb,II,cond_false]
       exact ⟨_,rfl,Nat.eq_of_beq_eq_true h2,Nat.eq_of_beq_eq_true h3,hn,hl,hr⟩
      simp at h
     simp at h
    simp at h
   simp at h
  simp at h
 simp at h
theorem Sx {T:Nat→Option TI} {src dst:Nat} {x:AV} {c:Prop} {v:AV} {b:Option (List az)} (h:Ph t0 T src dst x bx=some ⟨c,v,b⟩) (hc:c):nV (xH T src dst x bx) v b:=by
 unfold Ph at h
 unfold xH
 split at h
 ·rename_i ts td h1 h2
  simp only [h1,h2]
  generalize ts.kd=ks at h ⊢
  generalize td.kd=kd at h ⊢
  cases kd with
  |int k=>
   cases x with
   |d y=>cases y with
    |int k' n=>exact ⟨c,h,hc⟩
    |_=>cases ks<;>simp at h
   |_=>cases ks<;>simp at h
  |str=>
   cases ks with
   |slice e=>
    simp only at h ⊢
    split at h
    ·rename_i te c1 es h3 h4
     simp only [h3]
     split at h
     ·rename_i hk
      simp only [osI,R.mk.injEq] at h
      obtain ⟨rfl,rfl,rfl⟩:=h
      simp only [kg h4 hc.1,hk]
      exact ⟨_,rfl,hc.2⟩
     simp at h
    simp at h
   |str=>
    cases x with
    |d y=>cases y with
     |str s=>exact ⟨c,h,hc⟩
     |_=>simp at h
    |_=>simp at h
   |_=>simp at h
  |_=>cases ks<;>simp at h
 simp at h
theorem Sy {x:AV} {es:List (List D)} (hr:x.rows bx=some es):zD x bx=some (.d (.int .i64 es.length)):=by
 unfold AV.rows at hr
 split at hr
 ·simp only [osI] at hr;subst hr;rfl
 ·simp only [osI] at hr;subst hr;rfl
 ·simp only [zD,AV.rows,hr]
 ·simp only [zD,AV.rows,hr]
 simp at hr
theorem Jc {T:Nat→Option TI} {bi:Builtin} {args:List AV} {ats:List Nat} {c:Prop} {v:AV} {b:Option (List az)} (h:Aw t0 T bi args ats bx=some ⟨c,v,b⟩) (hc:c):nV (iY T bi args ats bx) v b:=by
 unfold Aw at h
 split at h
 ·rename_i x ty
  simp only [iY]
  split at h
  ·rename_i ti ht
   simp only [ht]
   split at h
   ·rename_i n e hk;simp only [hk];exact ⟨c,h,hc⟩
   ·rename_i s hk;simp only [hk];exact ⟨c,h,hc⟩
   ·rename_i e hk
    simp only [hk]
    split at h
    ·rename_i c1 es h1
     simp only [osI,R.mk.injEq] at h
     obtain ⟨rfl,rfl,rfl⟩:=h
     have hr:=kg h1 hc
     simp only [Sy hr]
     exact ⟨_,rfl,trv⟩
    simp at h
   simp at h
  simp at h
 ·exact ⟨c,h,hc⟩
 ·exact ⟨c,h,hc⟩
 ·rename_i s x ty u
  simp only [iY]
  split at h
  ·rename_i tu hu
   simp only [hu]
   split at h
   ·simp at h
   rename_i hk
   split
   ·rename_i k hk';exact absurd hk' (hk k)
   exact CN h hc
  simp at h
 simp at h
theorem Jd {size n m:Nat} {y:AV} {c:Prop} {xs:List (List D)} (h:Ax t0 size y n bx=some (c,m,xs)) (hc:c):∃c',uv size y n bx=some (c',m,xs)∧c':=by
 unfold Ax at h
 unfold uv
 split at h
 ·exact ⟨c,h,hc⟩
 split at h
 ·rename_i c1 zs hz
  simp only [osI,Prod.mk.injEq] at h
  obtain ⟨rfl,rfl,rfl⟩:=h
  simp only [u9 hz hc]
  exact ⟨_,rfl,trv⟩
 simp at h
theorem Sz {te:TI} {x y:AV} {c:Prop} {v:AV} {b:Option (List az)} (h:Pj t0 te x y bx=some ⟨c,v,b⟩) (hc:c):nV (Cp te x y bx) v b:=by
 unfold Pj at h
 unfold Cp
 split at h
 ·rename_i bb sz off n c0 so hv
  simp only [hv]
  split at h
  ·rename_i s es cy m xs hb hxs
   simp only [hb]
   cases hq:(Nat.beq s sz&&Nat.beq sz te.size) with
   |false=>simp only [hq,cond_false] at h;simp at h
   |true=>
   simp only [hq,cond_true,osI,R.mk.injEq] at h ⊢
   obtain ⟨rfl,rfl,rfl⟩:=h
   obtain ⟨c2,k1,k2⟩:=Jd hxs hc.1
   simp only [k1,hq,cond_true]
   exact ⟨_,rfl,k2,hc.2⟩
  simp at h
 simp at h
theorem MG {te:TI} {bb sz off n c0:Nat} {ex:Bool} {y:AV} {c:Prop} {v:AV} {b:Option (List az)} (h:Ea t0 te bb sz off n c0 ex y bx=some ⟨c,v,b⟩) (hc:c):nV (rB te bb sz off n c0 ex y bx) v b:=by
 unfold Ea at h
 unfold rB
 split at h
 ·rename_i s es cy xs hb hxs
  simp only [hb]
  cases hq:(Nat.beq s sz&&Nat.beq sz te.size) with
  |false=>simp only [hq,cond_false] at h;simp at h
  |true=>
  simp only [hq,cond_true,osI,R.mk.injEq] at h ⊢
  obtain ⟨rfl,rfl,rfl⟩:=h
  simp only [u9 hxs hc.1,hq,cond_true]
  exact ⟨_,rfl,hc.2⟩
 simp at h
theorem SA {T:Nat→Option TI} {ev:Operand→AV} {o:Op} {c:Prop} {v:AV} {b:Option (List az)} (h:Pk t0 T ev o bx=some ⟨c,v,b⟩) (hc:c):nV (mW T ev o bx) v b:=by
 unfold Pk at h
 unfold mW
 split at h
 ·exact ⟨c,h,hc⟩
 ·exact ⟨c,h,hc⟩
 ·exact ⟨c,h,hc⟩
 ·rename_i bn args ats
  simp only
  generalize args.toList.map ev=gJ at h ⊢
  generalize ats.toList=al at h ⊢
  split at h
  ·exact ⟨c,h,hc⟩
  ·exact ⟨c,h,hc⟩
  ·split at h
   ·rename_i te hte;simp only [hte];exact Sz h hc
   simp at h
  ·split at h
   ·rename_i te hte;simp only [hte];exact ⟨c,h,hc⟩
   simp at h
  ·split at h
   ·rename_i te hte hi
    simp only [hte,hi]
    split at h
    ·exact ⟨c,h,hc⟩
    simp at h
   ·rename_i te hte hi
    simp only [hte,hi]
    cases hs:sameBox _ _ with
    |true=>simp only [hs,cond_true] at h ⊢;exact MG h hc
    |false=>
     simp only [hs,cond_false] at h ⊢
     split at h
     ·rename_i s es c1 v1 pS hb hap
      simp only [osI,R.mk.injEq] at h
      obtain ⟨rfl,rfl,rfl⟩:=h
      obtain ⟨c2,k1,k2⟩:=CN hap hc.1
      simp only [hb,k1]
      exact ⟨_,rfl,k2,hc.2⟩
     simp at h
   simp at h
  simp at h
 simp at h
theorem Vi {T:Nat→Option TI} {ev:Operand→AV} {o:Op} {c:Prop} {v:AV} {b:Option (List az)} (h:B8 t0 T ev o bx=some ⟨c,v,b⟩) (hc:c):nV (lu T ev o bx) v b:=by
 cases o with
 |load ty a=>
  simp only [B8,lu] at h ⊢
  split at h
  ·rename_i ti ht;simp only [ht];exact Ss h hc
  simp at h
 |store ty a x=>
  simp only [B8,lu] at h ⊢
  split at h
  ·rename_i ti ht;simp only [ht];exact Pn h hc
  simp at h
 |buildSlice ty n parts=>exact B9 h hc
 |fieldAddr ty x f=>
  simp only [B8,lu] at h ⊢
  split at h
  ·rename_i ti ht
   simp only [ht]
   split at h
   ·rename_i o ft hf
    simp only [hf]
    split at h
    ·rename_i tf R4
     simp only [R4]
     cases hs:Nat.beq tf.size 0 with
     |true=>simp [hs] at h
     |false=>
     simp only [hs,cond_false] at h ⊢
     split at h
     ·rename_i hx;simp only [hx];exact ⟨c,h,hc⟩
     ·rename_i hx;simp only [hx];exact ⟨c,h,hc⟩
     ·rename_i ds hx
      simp only [hx]
      cases hb:Nat.ble o ds.length with
      |false=>simp [hb] at h
      |true=>
      simp only [hb,cond_true,R.pure,osI,R.mk.injEq] at h
      obtain ⟨rfl,rfl,rfl⟩:=h
      exact ⟨_,rfl,Nat.le_of_ble_eq_true hb⟩
     simp at h
    simp at h
   simp at h
  simp at h
 |binOp op ty x y yt=>
  simp only [B8,lu] at h ⊢
  split at h
  ·rename_i xs ys h1 h2
   simp only [h1,h2]
   cases op<;>simp only [Gt] at h ⊢<;>first|exact ⟨c,h,hc⟩|simp at h
  ·rename_i p q h1 h2
   simp only [h1,h2]
   exact ⟨c,h,hc⟩
  ·rename_i t0 v0 h1 h2
   simp only [h1,h2]
   exact ⟨c,h,hc⟩
  ·rename_i h1 h2
   simp only [h1,h2]
   exact ⟨c,h,hc⟩
  rename_i hne ZN ZO ZP
  split
  ·rename_i xs ys h1 h2;exact absurd h2 (hne _ _ h1)
  ·rename_i p q h1 h2;exact absurd h2 (ZN _ _ h1)
  ·rename_i h1 h2;exact absurd h2 (ZO _ _ h1)
  ·rename_i h1 h2;exact absurd h2 (ZP h1)
  rw [Sw] at h
  split at h
  ·rename_i c' d hb;simp only [hb];exact ⟨c,h,hc⟩
  simp at h
 |unOp op ty x=>
  simp only [B8,lu,Vh] at h ⊢
  exact ⟨c,h,hc⟩
 |convert s d x=>exact Sx h hc
 |slice ty x lo hi mx=>
  simp only [B8,lu] at h ⊢
  split at h
  ·rename_i l h' m h1 h2 h3
   simp only [h1,h2,h3]
   exact Po h hc
  simp at h
 |call cl=>
  obtain ⟨callee,args,ats⟩:=cl
  cases callee with
  |builtin b=>exact Jc h hc
  |_=>simp [B8] at h
 |makeFunc fn first jQ=>cases fn<;>first|exact ⟨c,h,hc⟩|simp [B8] at h
 |_=>exact ⟨c,h,hc⟩
theorem Lm {T:Nat→Option TI} {ev:Operand→AV} {o:Op} {c:Prop} {v:AV} {b:Option (List az)} (h:WO t0 T ev o bx=some ⟨c,v,b⟩) (hc:c):nV (Ff T ev o bx) v b:=by
 unfold WO at h
 unfold Ff
 cases hv:iZ ev o with
 |true=>rw [hv,cond_true] at h;rw [cond_true];exact SA h hc
 |false=>rw [hv,cond_false] at h;rw [cond_false];exact Vi h hc
end
end Dem
end
