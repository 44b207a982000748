/- Parts of a proof, joined. -/
import Derived.Test.YtmlnckcbblcbbaaGreatDoorW02
import Derived.Orders
set_option linter.all false
set_option maxRecDepth 100000
set_option maxHeartbeats 4000000
section
open Go
namespace Dem
section
variable {P:Program}{T:Nat->Option TI}{G:Nat->Option (List D)}{N:Nat}{ds:Kp}{β:Nat->Nat}{bx aE:List av}{w:World}{X:Nat->Prop}{s:St}{a:Act}
def R4(ev:Operand->AV)(xs:List Operand):Prop:=∀x∈xs,(ev x).ok
theorem oI.le {FC:Nat->List AV->List av->eP->List av->Prop} {f:Nat} {args:List AV} {v:AV} (h:oI FC f args bx v) (hb:nj bx aE):oI FC f args aE v:=by obtain⟨args',kY,k1,k2,k3,k4,k5⟩:=h;refine⟨args',kY,Gq hb k1,k2,k3,?_,k5⟩;intro i b hi dM;obtain⟨b',h1,h2,h3⟩:=k4 i b hi dM;exact⟨b',hb i b' h1 h2,h2,h3⟩
theorem LW{ev uG:Operand->AV}{op:Op}(h:∀x∈op.operands.toList,ev x=uG x):Ec T ev op=Ec T uG op:=by
 unfold Ec;split
 .rename_i b args ats;split
  .rename_i x y t u ha Ym;have mx:x∈args.toList:=by rw[ha];simp
   have my:y∈args.toList:=by rw[ha];simp
   rw[h x (by simp[Op.operands,Call.operands];exact by simpa using mx),h y (by simp[Op.operands,Call.operands];exact by simpa using my)]
  rfl
 rfl
inductive YG(FC:Nat->List AV->List av->eP->List av->Prop)(T:Nat->Option TI)(g:Bool)(ev:Operand->AV)(bx:List av):Op->AV->Prop
 |pick (c a b:Operand) (p:Bool) (hc:(ev c).aU=.d (.bool p)) (hg:g=true->(ev c).ok/\(p=true->(ev a).ok)/\(p=false->(ev b).ok)):YG FC T g ev bx (.pick c a b) (BU p (ev a).aU (ev b).aU)|call (f:Operand) (args:Array Operand) (ats:Array TypeId) (i:Nat) (iz:List AV) (v:AV) (hf:nM (ev f).aU (args.toList.map λx=>(ev x).aU)=some (i,iz))
  (hg:g=true->((ev f).ok/\R4 ev args.toList)/\oI FC i iz bx v):
  YG FC T g ev bx (.call {callee:=.value f,args:=args,argTypes:=ats}) v
 |inv (f:Operand) (nm:String) (args:Array Operand) (ats:Array TypeId) (i:Nat) (iz:List AV) (v:AV) (hf:Eu T (ev f).aU nm (args.toList.map λx=>(ev x).aU)=some (i,iz))
  (hg:g=true->((ev f).ok/\R4 ev args.toList)/\oI FC i iz bx v):
  YG FC T g ev bx (.call {callee:=.invoke f nm,args:=args,argTypes:=ats}) v
 |idx (t:Nat) (x i:Operand) (c:Prop) (ds ds':List D) (hi:BY T t (ev x).aU (ev i).aU=some (c,ds)) (hg:g=true->(R4 ev [x,i]/\c)/\ds=ds'):YG FC T g ev bx (.indexAddr t x i) (.ep ds')|no (op:Op) (v:AV) (hg:g=false):YG FC T g ev bx op v|app (op:Op) (c:Prop) (es:List (List D)) (hr:Ec T (λx=>(ev x).aU) op=some (c,es)) (hg:g=true->R4 ev op.operands.toList/\c):YG FC T g ev bx op (.d (.sl es))|op (op:Op) (c:Prop) (v:AV) (hr:HM T (λx=>(ev x).aU) op bx=some ⟨c,v,none⟩) (hg:g=true->R4 ev op.operands.toList/\c):YG FC T g ev bx op v
variable {FC:Nat->List AV->List av->eP->List av->Prop}
theorem xM{g:Bool}{o:Oper}{K:AV->Prop}(h:stepG FC T G g o s K):∃v,YG FC T g (ct G s.sl) s.bx o.op v/\K v:=by
 rcases h with⟨hg,v,hK⟩|h|⟨c,es,hr,hg,hK⟩
 .exact⟨v,.no _ v hg,hK⟩
 rotate_left
 .exact⟨_,.app _ c es hr (λh=>⟨λx hx=>dI (hg h).1 x hx,(hg h).2⟩),hK⟩
 unfold zm at h;split at h
 .rename_i c x y ho;split at h
  .rename_i p hc;rw[ho];exact⟨_,.pick c x y p hc h.1,h.2⟩
  exact h.elim
 .rename_i f args ats ho;split at h
  .rename_i i iz IK;obtain⟨v,hg,hK⟩:=h;rw[ho];exact⟨v,.call f args ats i iz v IK (λhg'=>⟨⟨(hg hg').1.1,λx hx=>dI (hg hg').1.2 x hx⟩,(hg hg').2⟩),hK⟩
  exact h.elim
 .rename_i f nm args ats ho;split at h
  .rename_i i iz IK;obtain⟨v,hg,hK⟩:=h;rw[ho];exact⟨v,.inv f nm args ats i iz v IK (λhg'=>⟨⟨(hg hg').1.1,λx hx=>dI (hg hg').1.2 x hx⟩,(hg hg').2⟩),hK⟩
  exact h.elim
 split at h
 .rename_i c ds hi;obtain⟨ds',hg,hK⟩:=h;split at hi
  .rename_i t x i ho;rw[ho]at hg ⊢;exact⟨_,.idx t x i c ds ds' hi (λhg'=>⟨⟨λy hy=>dI (hg hg').1.1 y (by simpa[Op.operands]using hy),(hg hg').1.2⟩,(hg hg').2⟩),hK⟩
  simp at hi
 split at h
 .rename_i c v hr;exact⟨v,.op _ c v hr (λhg=>⟨λx hx=>dI (h.1 hg).1 x hx,(h.1 hg).2⟩),h.2⟩
 exact h.elim
theorem YG.IT {g:Bool} {ev uG:Operand->AV} {op:Op} {v:AV} (h:YG FC T g ev bx op v) (jD:∀x∈op.operands.toList,ev x=uG x) (hb:nj bx aE):YG FC T g uG aE op v:=by
 cases h with
 |pick c x y p hc hg=>
  have e1:=jD c (by simp[Op.operands]);have e2:=jD x (by simp[Op.operands]);have e3:=jD y (by simp[Op.operands])
  rw[e1]at hc hg;rw[e2]at hg ⊢;rw[e3]at hg ⊢;exact .pick c x y p hc hg
 |call f args ats i iz v hf hg=>
  have e1:=jD f (by simp[Op.operands,Call.operands]);have e2:∀x∈args.toList,ev x=uG x:=λx hx=>jD x (by simp[Op.operands,Call.operands];exact .inr (by simpa using hx))
  rw[e1,List.map_congr_left (g:=λx=>(uG x).aU) λx hx=>by rw[e2 x hx]]at hf;refine .call f args ats i iz v hf (λhg'=>?_);obtain⟨⟨k1,k2⟩,k3⟩:=hg hg';exact⟨⟨e1▸k1,λx hx=>e2 x hx▸k2 x hx⟩,k3.le hb⟩
 |inv f nm args ats i iz v hf hg=>
  have e1:=jD f (by simp[Op.operands,Call.operands]);have e2:∀x∈args.toList,ev x=uG x:=λx hx=>jD x (by simp[Op.operands,Call.operands];exact .inr (by simpa using hx))
  rw[e1,List.map_congr_left (g:=λx=>(uG x).aU) λx hx=>by rw[e2 x hx]]at hf;refine .inv f nm args ats i iz v hf (λhg'=>?_);obtain⟨⟨k1,k2⟩,k3⟩:=hg hg';exact⟨⟨e1▸k1,λx hx=>e2 x hx▸k2 x hx⟩,k3.le hb⟩
 |idx t x i c ds ds' hi hg=>
  have e1:=jD x (by simp[Op.operands]);have e2:=jD i (by simp[Op.operands])
  rw[e1,e2]at hi;refine .idx t x i c ds ds' hi (λhg'=>⟨⟨λy hy=>?_,(hg hg').1.2⟩,(hg hg').2⟩);have:=(hg hg').1.1 y hy
  rw[jD y (by simpa[Op.operands]using hy)]at this;exact this
 |no _ v hg=>exact .no _ v hg|app _ c es hr hg=>refine .app _ c es ?_ (λhg'=>⟨λx hx=>jD x hx▸(hg hg').1 x hx,(hg hg').2⟩);rw[<-LW (ev:=λx=>(ev x).aU) (uG:=λx=>(uG x).aU) (λx hx=>by rw[jD x hx])];exact hr|op _ c v hr hg=>refine .op _ c v ?_ (λhg'=>⟨λx hx=>jD x hx▸(hg hg').1 x hx,(hg hg').2⟩);rw[<-Px (ev:=λx=>(ev x).aU) (uG:=λx=>(uG x).aU) (λx hx=>by rw[jD x hx])];exact Ys hb hr
theorem IU(hT:jj P T)(hF:Fr G N ds β w X s a){o:Oper}{v:AV}{next:Act->World->Prop}{Qc:Exit->Act->World->Prop}
 (h:YG (be P G) T true (ct G s.sl) s.bx o.op v) (hn:Cq G β s.bx w X a o.dst (λv' bx=>v'=v/\bx=s.bx) next):o.wp P a w next Qc:=by
 have jD:∀x,(ct G s.sl x).ok->ai β s.bx w (bq β s.bx w X) (ct G s.sl x).aU (a.eval x):=λx hx=>jO (hF.eval x) hx;unfold Oper.wp;generalize ho:o.op=op at h;cases h with
 |pick c x y p hc hg=>
  obtain⟨h1,h2,h3⟩:=hg rfl
  have zi:=jD c h1
  rw[hc]at zi;simp only[ai,aP]at zi
  refine cW (v:=_) (aE:=s.bx) (dJ.pure (u:=if p then a.eval x else a.eval y) hF.cx ?_ (Cs (λhp=>jD x (h2 hp)) (λhp=>jD y (h3 hp)))) ⟨rfl,rfl⟩ hn
  simp[execOp,ho,zi,asBool]
 |call f args ats i iz v IK hg=>
  obtain⟨⟨h1,h2⟩,hq⟩:=hg rfl
  obtain⟨fs,cs,e1,e2⟩:=oa IK (jD f h1) (jk args.toList (λy hy=>jD y (h2 y hy)))
  rw[mz ho e1]
  refine iE (ng (K:=λv' bx=>v'=v/\bx=s.bx) hF.cx e2 hq ⟨rfl,rfl⟩) ?_ ?_ ?_
  .rintro v w' ⟨β',aE,v',u,e,ex,cx,hv,hK⟩;cases e;exact hn β' aE w' v' v ex cx hv hK
  .rintro ch w' ⟨_,_,_,_,e,_⟩;cases e
  rintro w' ⟨_,_,_,_,e,_⟩;cases e
 |inv f nm args ats i iz v IK hg=>
  obtain⟨⟨h1,h2⟩,hq⟩:=hg rfl
  obtain⟨t,ti,u,k1,k2,k3,e2⟩:=EJ hT IK (jD f h1) (jk args.toList (λy hy=>jD y (h2 y hy)))
  rw[Av hT ho k1 k2 k3]
  refine iE (ng (K:=λv' bx=>v'=v/\bx=s.bx) hF.cx e2 hq ⟨rfl,rfl⟩) ?_ ?_ ?_
  .rintro v w' ⟨β',aE,v',u,e,ex,cx,hv,hK⟩;cases e;exact hn β' aE w' v' v ex cx hv hK
  .rintro ch w' ⟨_,_,_,_,e,_⟩;cases e
  rintro w' ⟨_,_,_,_,e,_⟩;cases e
 |idx t x i c ds ds' hi hg=>
  obtain⟨⟨hk,hc⟩,rfl⟩:=hg rfl
  obtain⟨r,k1,k2⟩:=Cr (P:=P) (w:=w) hT hF.cx hi hc (jD x (hk x (by simp))) (jD i (hk i (by simp)))
  refine cW (v:=_) (aE:=s.bx) (dJ.pure hF.cx ?_ k2) ⟨rfl,rfl⟩ hn
  simp only[execOp,ho]
  exact bS _ k1
 |no _ v hg=>cases hg
 |app _ c es hr hg=>
  obtain⟨h1,hc⟩:=hg rfl
  subst ho
  exact cW (EI (P:=P) hT hF.cx (ρ:=a.eval) (λx hx=>jD x (h1 x hx)) hr hc) ⟨rfl,rfl⟩ hn
 |op _ c v hr hg=>
  obtain⟨h1,hc⟩:=hg rfl
  subst ho
  exact cW (Cm (P:=P) hT hF.cx (ρ:=a.eval) (λx hx=>jD x (h1 x hx)) hr hc) ⟨rfl,rfl⟩ hn
theorem IV{k:Nat}(h:bx[k]?=some .bJ)(B:av){i:Nat}(hi:cr bx i):i≠k/\cr (bx.set k B) i:=by
 obtain⟨b,h1,h2⟩:=hi;have hne:i≠k:=by rintro rfl;rw[h]at h1;simp at h1;subst h1;simp[av.born]at h2
 exact⟨hne,b,by rw[List.getElem?_set_ne (Ne.symm hne)];exact h1,h2⟩
theorem sY{k:Nat}(h:bx[k]?=some .bJ)(o:Obj)(B:av):Ext β bx w (m5 β k w.heap.size) (bx.set k B) {w with heap:=w.heap.push o}:=by
 refine⟨rfl,rfl,rfl,by simp,λj hj _=>kj w o j hj,λj c e f hj=>⟨c,by rw[kj w o j (fE hj)];exact hj,rfl⟩,?_,?_⟩
 .intro i hi;obtain⟨h1,h2⟩:=IV h B hi;exact⟨de _ _ h1,h2⟩
 intro i b hb hl;rcases aQ hb with⟨rfl,_,_⟩|⟨hne,hb'⟩
 .exact .inl (by rw[bC];exact vad _)
 exact .inr ⟨i,b,hb',hl,(de _ _ hne).symm⟩
theorem IW(cx:cB G β bx w X){k:Nat}(h:bx[k]?=some .bJ)(o:Obj)(B:av)
 (hB:dV (m5 β k w.heap.size) (bx.set k B) {w with heap:=w.heap.push o} (bq (m5 β k w.heap.size) (bx.set k B) {w with heap:=w.heap.push o} X) B w.heap.size):
 cB G (m5 β k w.heap.size) (bx.set k B) {w with heap:=w.heap.push o} X:=by
 refine cx.step (sY h o B) ?_ ?_
 .intro i b hb;rcases aQ hb with⟨rfl,rfl,_⟩|⟨hne,hb'⟩
  .exact .inr (by rw[bC];exact hB)
  exact .inl ⟨hb',λhl=>kj w o _ ((cx.box i b hb').fF hl)⟩
 intro i j bi bj h1 h2 l1 l2 he;rcases aQ h1 with⟨rfl,rfl,_⟩|⟨hi,h3⟩<;>rcases aQ h2 with⟨rfl,rfl,_⟩|⟨hj,h4⟩
 .rfl
 .rw[bC,de _ _ hj]at he;have:=(cx.box j bj h4).fF l2;omega
 .rw[bC,de _ _ hi]at he;have:=(cx.box i bi h3).fF l1;omega
 rw[de _ _ hi,de _ _ hj]at he;exact cx.inj i j bi bj h3 h4 l1 l2 he
theorem AA(cx:cB G β bx w X){k:Nat}(hk:bx[k]?=some .bJ)(t:Nat){x:AV}{u:Value}{cs:List AV}(hx:x.cells?=some cs)(h:ai β bx w (bq β bx w X) x u):
 ∃β' w',(newVar t u).run P w=.ok ⟨β' k,0,none⟩ w'/\Ext β bx w β' (bx.set k (.var cs)) w'/\cB G β' (bx.set k (.var cs)) w' X:=by
 obtain⟨vs,h1,h2,h3⟩:=pQ hx h;refine⟨m5 β k w.heap.size,{w with heap:=w.heap.push (.cells ⟨vs⟩ t)},?_,sY hk _ _,IW cx hk _ _ ?_⟩
 .simp[newVar,newRow,newObj,Sem.run,h1,bC]
 refine⟨⟨vs⟩,t,ko _ _,?_⟩;exact an.mono ((sY (β:=β) (bx:=bx) (w:=w) hk (.cells ⟨vs⟩ t) (.var cs)).dL X) _ _ h2
theorem Gr{sl sZ:List (Nat×AV)}{o:Oper}(h:∀x∈o.op.operands.toList,ct G sl x=ct G sZ x):jh T G sl o=jh T G sZ o:=by
 obtain⟨dst,op,type,pos,after,guard⟩:=o;unfold jh;cases guard with
 |some g=>rfl|none=>cases op<;>simp only[];rename_i t x;rw[h x (by simp[Op.operands])]
theorem IX(hT:jj P T)(hF:Fr G N ds β w X s a){o:Oper}{cs:List AV}(hb:jh T G s.sl o=some cs){k:Nat}(hk:s.bx[k]?=some .bJ){next:Act->World->Prop}{Qc:Exit->Act->World->Prop}
 (hn:Cq G β s.bx w X a o.dst (λv bx=>v=.ptr k 0/\bx=s.bx.set k (.var cs)) next):o.wp P a w next Qc:=by
 obtain⟨dst,op,type,pos,after,guard⟩:=o;have hlt:k<s.bx.length:=kx hk
 have dM:cr (s.bx.set k (.var cs)) k:=⟨.var cs,kB hk,rfl⟩;unfold jh at hb;unfold Oper.wp;cases guard with
 |some g=>simp at hb|none=>
  simp only at hb
  split at hb
  .rename_i t;cases ht:T t with
   |none=>simp[ht]at hb|some ti=>
   simp only[ht]at hb;obtain⟨i,d,h1,h2,h3,h4,h5,h6⟩:=aL (hT.ti _ _ ht);cases BC:i.zero with
   |none=>rw[h6,BC]at hb;simp[AV.cells?]at hb|some z=>
   rw[h6,BC]at hb;obtain⟨β',w',k1,k2,k3⟩:=AA (P:=P) hF.cx hk t hb (xg z);have hr:(execOp a.eval {dst:=dst,op:=.alloc t,type:=type,pos:=pos,after:=after,guard:=none}).run P w=.ok (.value (.pointer (some ⟨β' k,0,none⟩))) w':=bS _ (by simp[Instr.alloc,iD h1 BC,k1])
   rw[hr];exact hn β' _ w' (.ptr k 0) _ k2 k3 (by simp only[ai];exact⟨hY,dM⟩) ⟨rfl,rfl⟩
  .rename_i t x;obtain⟨β',w',k1,k2,k3⟩:=AA (P:=P) hF.cx hk t hb (hF.eval x);have hr:(execOp a.eval {dst:=dst,op:=.box t x,type:=type,pos:=pos,after:=after,guard:=none}).run P w=.ok (.value (.pointer (some ⟨β' k,0,none⟩))) w':=bS _ (by simp[Instr.box,k1])
   rw[hr];exact hn β' _ w' (.ptr k 0) _ k2 k3 (by simp only[ai];exact⟨hY,dM⟩) ⟨rfl,rfl⟩
  simp at hb
theorem LX{β':Nat->Nat}{w':World}{sz n k:Nat}{es:List (List D)}{sL:List av}{u:Value}(cx:cB G β bx w X)(hk:bx[k]?=some .bJ)(ex:Ext β [] w β' [.row sz es] w')(oA:cB G β' [.row sz es] w' (sU β sL X))
 (hv:(∀r∈es,∀x∈r,x.flat=true)∨sL=bx) (hr:ai β' [.row sz es] w' (bq β' [.row sz es] w' (sU β sL X)) (.ow 0 sz n) u):
 Ext β bx w (m5 β k (β' 0)) (bx.set k (.row sz es)) w'/\cB G (m5 β k (β' 0)) (bx.set k (.row sz es)) w' X/\
  ai (m5 β k (β' 0)) (bx.set k (.row sz es)) w' (bq (m5 β k (β' 0)) (bx.set k (.row sz es)) w' X) (.ow k sz n) u:=by
 have e0:=xC (bx:=bx) ex
 have hlk:k<bx.length:=kx hk
 have hnew:av.live (.row sz es)=true->w.heap.size<=β' 0:=by
  intro hl;rcases ex.live 0 (.row sz es) rfl hl with h|⟨j,b',h1,_⟩
  .exact h
  simp at h1
 have e1:Ext β bx w (m5 β k (β' 0)) (bx.set k (.row sz es)) w':=by
  refine⟨e0.os,e0.tape,e0.output,e0.size,e0.block,e0.shape,?_,?_⟩
  .intro i hi;obtain⟨h1,h2⟩:=IV hk (.row sz es) hi;exact⟨de _ _ h1,h2⟩
  intro i b h hl;rcases aQ h with⟨rfl,rfl,_⟩|⟨hne,h1⟩
  .exact .inl (by rw[bC];exact hnew hl)
  exact .inr ⟨i,b,h1,hl,(de _ _ hne).symm⟩
 have hlt:∀i b,bx[i]?=some b->b.live=true->β i<w.heap.size:=λi b h hl=>dV.fF (cx.box i b h) hl
 have hok:sL=bx->∀blk,bq β' [.row sz es] w' (sU β sL X) blk->bq (m5 β k (β' 0)) (bx.set k (.row sz es)) w' X blk:=by
  rintro rfl blk ⟨k1,k2,k3⟩;refine⟨k1,λhX=>k2 (.inl hX),?_⟩;intro i b h hl;rcases aQ h with⟨rfl,rfl,_⟩|⟨hne,h1⟩
  .rw[bC];exact k3 0 _ rfl hl
  rw[de _ _ hne];exact λhe=>k2 (.inr ⟨i,b,h1,hl,he⟩)
 refine⟨e1,cx.step e1 ?_ ?_,?_⟩
 .intro i b h;rcases aQ h with⟨rfl,rfl,_⟩|⟨hne,h1⟩
  .refine .inr ?_;have:=oA.box 0 _ rfl
   rw[bC];simp only[dV]at this ⊢;refine this.imp id ?_;rintro⟨c,e,h1,h2⟩;refine⟨c,e,h1,?_⟩;rcases hv with hfl|hb
   .exact qZ _ _ hfl h2
   exact ax.mono (λblk hb'=>⟨hok hb blk hb',rfl⟩) _ _ (λ_=>rfl) _ _ h2
  exact .inl ⟨h1,λhl=>ex.block _ (hlt i b h1 hl) (by simp)⟩
 .intro i j bi bj hi hj pL sB he;rcases aQ hi with⟨rfl,rfl,_⟩|⟨hni,h1⟩<;>rcases aQ hj with⟨rfl,rfl,_⟩|⟨hnj,h2⟩
  .rfl
  .rw[bC,de _ _ hnj]at he;have:=hlt j bj h2 sB;have:=hnew pL;omega
  .rw[bC,de _ _ hni]at he;have:=hlt i bi h1 pL;have:=hnew sB;omega
  rw[de _ _ hni,de _ _ hnj]at he;exact cx.inj i j bi bj h1 h2 pL sB he
 simp only[ai]at hr ⊢
 obtain⟨_,h2⟩:=hr
 refine⟨⟨_,kB hk,rfl⟩,?_⟩
 rw[bC];exact h2
theorem CB(hT:jj P T)(hF:Fr G N ds β w X s a){o:Oper}{k:Nat}{v0:AV}{B0:av}(h:nN (be P G) G o s.sl s.bx k (λv B=>v=v0/\B=B0)){next:Act->World->Prop}{Qc:Exit->Act->World->Prop}
 (hn:Cq G β s.bx w X a o.dst (λv bx=>v=v0/\bx=s.bx.set k B0) next):o.wp P a w next Qc:=by
 obtain⟨f,args,ats,i,iz,args',sz,n,es,ho,IK,⟨h1,h2⟩,h3,h4,h5,h6,hk,rfl,rfl⟩:=h;have jD:∀x,(ct G s.sl x).ok->ai β s.bx w (bq β s.bx w X) (ct G s.sl x).aU (a.eval x):=λx hx=>jO (hF.eval x) hx
 obtain⟨fs,cs,e1,e2⟩:=oa IK (jD f h1) (jk args.toList (λy hy=>jD y (dI h2 y hy)));unfold Oper.wp;rw[mz ho e1];obtain⟨x1,c1,r1⟩:=nH iz s.bx _ _ hF.cx h3 e2;have cn:=ID c1
 have hnn:an β [] w (bq β [] w (sU β (fI s.bx iz) X)) _ _:=nG (λblk hb=>IE blk hb) _ _ h4 r1;refine iE (h5 β w _ _ cn hnn) ?_ ?_ ?_
 .rintro u w' ⟨β',ex,oA,hr⟩;simp only[eH]at hr;obtain⟨y1,y2,y3⟩:=LX hF.cx hk ex oA (by
   rcases h6 with hfl|IF
   .exact .inl hfl
   refine .inr ?_;rw[lA s.bx IF]) hr
  exact hn _ _ w' _ u y1 y2 y3 ⟨rfl,rfl⟩
 .rintro ch w' ⟨_,_,_,hr⟩;exact hr.elim
 rintro w' ⟨_,_,_,hr⟩;exact hr.elim
end
end Dem
end
section
open Go
namespace Dem
structure It where
 dst:Option Nat
 v:AV
 bi:Option (Nat×av)
def dN(m:Nat->Bool):Nat->List It->List (Nat×AV)->List (Nat×AV)
 |_,[],sl=>sl|i,t::r,sl=>dN m (i+1) r (bif m i then eJ t.dst t.v sl else sl)
def tc(t:It)(bx:List av):List av:=
 match t.bi with
 |some (k,B)=>bx.set k B|none=>bx
def fP(m:Nat->Bool):Nat->List It->List av->List av
 |_,[],bx=>bx|i,t::r,bx=>fP m (i+1) r (bif m i then tc t bx else bx)
theorem pW(t:Nat)(dst:Option Nat)(v:AV)(sl:List (Nat×AV)):fK t (eJ dst v sl)=if dst=some t then v else fK t sl:=by
 cases dst with
 |none=>simp[eJ]|some d=>
  simp only[eJ,rf,osI];by_cases h:t=d
  .subst h;simp
  have:d≠t:=λe=>h e.symm;simp[h,this]
theorem tg{t:Nat}{m m':Nat->Bool}:∀(cO:List It) (i:Nat) (sl sZ:List (Nat×AV)),fK t sl=fK t sZ->
 (∀j it,cO[j]?=some it->it.dst=some t->m (i+j)=m' (i+j))->fK t (dN m i cO sl)=fK t (dN m' i cO sZ)
 |[],_,_,_,h,_=>h|it::r,i,sl,sZ,h,hm=>by
  simp only[dN];refine tg r (i+1) _ _ ?_ (λj it' hj hd=>by have:=hm (j+1) it' (by simpa using hj) hd;simpa[Nat.add_assoc,Nat.add_comm 1 j]using this);by_cases hd:it.dst=some t
  .have:=hm 0 it rfl hd;rw[Nat.add_zero]at this;rw[this];cases m' i<;>simp[pW,hd,h]
  cases m i<;>cases m' i<;>simp[pW,hd,h]
theorem CC{t:Nat}{m:Nat->Bool}:∀(cO:List It) (i:Nat) (sl:List (Nat×AV)),(∀j it,cO[j]?=some it->it.dst=some t->m (i+j)=false)->fK t (dN m i cO sl)=fK t sl
 |[],_,_,_=>rfl|it::r,i,sl,hm=>by
  simp only[dN];rw[CC r (i+1) _ (λj it' hj hd=>by have:=hm (j+1) it' (by simpa using hj) hd;simpa[Nat.add_assoc,Nat.add_comm 1 j]using this)];by_cases hd:it.dst=some t
  .have:=hm 0 it rfl hd;rw[Nat.add_zero]at this;simp[this]
  cases m i<;>simp[pW,hd]
theorem mC{m m':Nat->Bool}:∀(cO:List It) (i:Nat) (sl:List (Nat×AV)),(∀j,j<cO.length->m (i+j)=m' (i+j))->dN m i cO sl=dN m' i cO sl
 |[],_,_,_=>rfl|it::r,i,sl,hm=>by
  simp only[dN];have h0:=hm 0 (by simp)
  rw[Nat.add_zero]at h0;rw[h0];exact mC r (i+1) _ (λj hj=>by have:=hm (j+1) (by simpa using hj);simpa[Nat.add_assoc,Nat.add_comm 1 j]using this)
theorem oL{m m':Nat->Bool}:∀(cO:List It) (i:Nat) (bx:List av),(∀j,j<cO.length->m (i+j)=m' (i+j))->fP m i cO bx=fP m' i cO bx
 |[],_,_,_=>rfl|it::r,i,bx,hm=>by
  simp only[fP];have h0:=hm 0 (by simp)
  rw[Nat.add_zero]at h0;rw[h0];exact oL r (i+1) _ (λj hj=>by have:=hm (j+1) (by simpa using hj);simpa[Nat.add_assoc,Nat.add_comm 1 j]using this)
theorem CD:∀(cO:List It) (i j:Nat) (sl:List (Nat×AV)),dN (λ_=>true) i (cO.take j) sl=dN (λx=>decide (x<i+j)) i cO sl
 |[],i,j,sl=>by simp[dN]|it::r,i,0,sl=>by
  simp only[List.take_zero,dN,Nat.add_zero,Nat.lt_irrefl,decide_false,cond_false];have:∀(r:List It) (k:Nat),i<=k->dN (λx=>decide (x<i)) k r sl=sl:=by
   intro r;induction r with
   |nil=>intro k _;rfl|cons t r ih=>intro k hk;simp only[dN,show¬k<i by omega,decide_false,cond_false];exact ih (k+1) (by omega)
  exact(this r (i+1) (by omega)).symm
 |it::r,i,j+1,sl=>by simp only[List.take_succ_cons,dN,cond_true,show i<i+(j+1) by omega,decide_true];rw[CD r (i+1) j];exact mC r (i+1) _ (λk _=>by simp only[show i+1+j=i+(j+1) by omega])
theorem CE{t:Nat}{m m':Nat->Bool}:∀(cO:List It) (i j0:Nat) (Oc:It) (sl:List (Nat×AV)),cO[j0]?=some Oc->m (i+j0)=false->m' (i+j0)=true->(∀x,x≠i+j0->m' x=m x)->
 (∀j it,cO[j]?=some it->j0<j->m (i+j)=true->∀d,Oc.dst=some d->it.dst≠some d)->fK t (dN m' i cO sl)=fK t (eJ Oc.dst Oc.v (dN m i cO sl))
 |[],_,_,_,_,h,_,_,_,_=>by simp at h|it::r,i,0,Oc,sl,h,h1,h2,h3,h4=>by
  simp at h;subst h;simp only[Nat.add_zero]at h1 h2;simp only[dN,h1,h2,cond_true,cond_false];rw[mC (m:=m') (m':=m) r (i+1) _ (λj _=>h3 _ (by omega)),pW];by_cases hd:it.dst=some t
  .rw[if_pos hd,CC r (i+1) _ (λj it' hj Yq=>?_),pW,if_pos hd];cases hq:m (i+1+j)with
   |false=>rfl|true=>exact absurd Yq (h4 (j+1) it' (by simpa using hj) (by omega) (by rw[show i+(j+1)=i+1+j by omega];exact hq) t hd)
  rw[if_neg hd];exact tg r (i+1) _ _ (by rw[pW,if_neg hd]) (λ_ _ _ _=>rfl)
 |it::r,i,j0+1,Oc,sl,h,h1,h2,h3,h4=>by
  simp only[dN];rw[h3 i (by omega)];exact CE r (i+1) j0 Oc _ (by simpa using h) (by rw[show i+1+j0=i+(j0+1) by omega];exact h1) (by rw[show i+1+j0=i+(j0+1) by omega];exact h2)
   (λx hx=>h3 x (by omega)) (λj it' hj hlt hm=>h4 (j+1) it' (by simpa using hj) (by omega) (by rw[show i+(j+1)=i+1+j by omega];exact hm))
def mD:Nat->List It->Prop
 |_,[]=>True|k,t::r=>match t.bi with
  |some (x,_)=>x=k/\mD (k+1) r|none=>mD k r
theorem mD.ge:∀{cO:List It} {k:Nat},mD k cO->∀{j:Nat} {it:It} {x:Nat} {cs:av},cO[j]?=some it->it.bi=some (x,cs)->k<=x
 |[],_,_,_,_,_,_,h,_=>by simp at h|t::r,k,hk,0,it,x,cs,h,hb=>by simp at h;subst h;simp only[mD,hb]at hk;omega|t::r,k,hk,j+1,it,x,cs,h,hb=>by
  simp only[mD]at hk;split at hk
  .have:=hk.2.ge (j:=j) (by simpa using h) hb;omega
  exact mD.ge hk (j:=j) (by simpa using h) hb
theorem mD.apart:∀{cO:List It} {k:Nat},mD k cO->∀{j j':Nat} {it it':It} {x x':Nat} {cs cs':av},cO[j]?=some it->it.bi=some (x,cs)->cO[j']?=some it'->it'.bi=some (x',cs')->j≠j'->x≠x'
 |[],_,_,_,_,_,_,_,_,_,_,h,_,_,_,_=>by simp at h|t::r,k,hk,0,0,_,_,_,_,_,_,_,_,_,_,hne=>absurd rfl hne|t::r,k,hk,0,j'+1,it,it',x,x',cs,cs',h,hb,h',hb',_=>by simp at h;subst h;simp only[mD,hb]at hk;have:=hk.2.ge (j:=j') (by simpa using h') hb';omega|t::r,k,hk,j+1,0,it,it',x,x',cs,cs',h,hb,h',hb',_=>by simp at h';subst h';simp only[mD,hb']at hk;have:=hk.2.ge (j:=j) (by simpa using h) hb;omega|t::r,k,hk,j+1,j'+1,it,it',x,x',cs,cs',h,hb,h',hb',hne=>by
  have hk':∃k',mD k' r:=by
   simp only[mD]at hk;split at hk
   .exact⟨_,hk.2⟩
   exact⟨_,hk⟩
  obtain⟨k',hk'⟩:=hk';exact mD.apart hk' (j:=j) (j':=j') (by simpa using h) hb (by simpa using h') hb' (by omega)
theorem EQ{m:Nat->Bool}{x:Nat}:∀(cO:List It) (i:Nat) (bx:List av),(∀j it y cs,cO[j]?=some it->m (i+j)=true->it.bi=some (y,cs)->y≠x)->(fP m i cO bx)[x]?=bx[x]?
 |[],_,_,_=>rfl|t::r,i,bx,h=>by
  simp only[fP];rw[EQ r (i+1) _ (λj it y cs hj hm hb=>h (j+1) it y cs (by simpa using hj) (by rw[show i+(j+1)=i+1+j by omega];exact hm) hb)];cases hm:m i with
  |false=>rfl|true=>
   simp only[cond_true,tc];split
   .rename_i k cs hb;have:=h 0 t k cs rfl (by simpa using hm) hb
    rw[List.getElem?_set_ne this]
   rfl
theorem ER{m:Nat->Bool}{x:Nat}{B:av}:∀(cO:List It) (i:Nat) (bx:List av),(∀j it y cs,cO[j]?=some it->m (i+j)=true->it.bi=some (y,cs)->y≠x)->fP m i cO (bx.set x B)=(fP m i cO bx).set x B
 |[],_,_,_=>rfl|t::r,i,bx,h=>by
  simp only[fP];rw[<-ER r (i+1) _ (λj it y cs hj hm hb=>h (j+1) it y cs (by simpa using hj) (by rw[show i+(j+1)=i+1+j by omega];exact hm) hb)];congr 1;cases hm:m i with
  |false=>rfl|true=>
   simp only[cond_true,tc];split
   .rename_i k cs hb;have:=h 0 t k cs rfl (by simpa using hm) hb
    rw[List.set_comm _ _ (Ne.symm this)]
   rfl
theorem CF{m m':Nat->Bool}:∀(cO:List It) (i j0:Nat) (Oc:It) (bx:List av),cO[j0]?=some Oc->m (i+j0)=false->m' (i+j0)=true->(∀x,x≠i+j0->m' x=m x)->
 (∀j it y cs x cs0,cO[j]?=some it->j≠j0->it.bi=some (y,cs)->Oc.bi=some (x,cs0)->y≠x)->fP m' i cO bx=tc Oc (fP m i cO bx)
 |[],_,_,_,_,h,_,_,_,_=>by simp at h|t::r,i,0,Oc,bx,h,h1,h2,h3,h4=>by
  simp at h;subst h;simp only[Nat.add_zero]at h1 h2;simp only[fP,h1,h2,cond_true,cond_false];rw[oL (m:=m') (m':=m) r (i+1) _ (λj _=>h3 _ (by omega))];unfold tc;split
  .rename_i k cs hb;exact ER r (i+1) bx (λj it y cs' hj _ hb'=>h4 (j+1) it y cs' k cs (by simpa using hj) (by omega) hb' hb)
  rfl
 |t::r,i,j0+1,Oc,bx,h,h1,h2,h3,h4=>by
  simp only[fP];rw[h3 i (by omega)];exact CF r (i+1) j0 Oc _ (by simpa using h) (by rw[show i+1+j0=i+(j0+1) by omega];exact h1) (by rw[show i+1+j0=i+(j0+1) by omega];exact h2)
   (λx hx=>h3 x (by omega)) (λj it y cs x cs0 hj hne=>h4 (j+1) it y cs x cs0 (by simpa using hj) (by omega))
theorem IY{m:Nat->Bool}{aK:List av}:∀(cO:List It) (i:Nat) (bx:List av),nj aK bx->(∀(j:Nat) (it:It) (y:Nat) (cs:av),cO[j]?=some it->it.bi=some (y,cs)->aK[y]?=some .bJ)->nj aK (fP m i cO bx)
 |[],_,_,h,_=>h|t::r,i,bx,h,hu=>by
  simp only[fP];refine IY r (i+1) _ ?_ (λj it y cs hj=>hu (j+1) it y cs (by simpa using hj));cases m i with
  |false=>exact h|true=>
   simp only[cond_true,tc];split
   .rename_i k cs hb;have h0:=hu 0 t k cs rfl hb
    intro x b hx dM;by_cases hxk:k=x
    .subst hxk;rw[h0]at hx;simp at hx;subst hx;simp[av.born]at dM
    rw[List.getElem?_set_ne hxk];exact h x b hx dM
   exact h
end Dem
end
section
open Go
namespace Dem
theorem xO:∀(l:List Oper) (acc:List Nat),(cD l acc).take acc.length=acc
 |[],acc=>by simp[cD]|o::r,acc=>by
  have h:=xO r (acc++[ur acc o]);simp only[cD];have:=vac (List.take acc.length) h
  simpa[List.take_take]using this
theorem AB:∀(l:List Oper) (acc:List Nat) (j:Nat) (o:Oper),l[j]?=some o->(cD l acc)[acc.length+j]?=some (ur ((cD l acc).take (acc.length+j)) o)
 |[],_,_,_,h=>by simp at h|p::r,acc,0,o,h=>by
  simp at h;subst h;simp only[cD,Nat.add_zero];have h1:=xO r (acc++[ur acc p])
  have h2:=vac (List.take acc.length) h1;have h3:=vac (λl=>l[acc.length]?) h1
  simp only[List.take_take,vaa,List.length_cons,List.length_nil,Nat.zero_add]at h2 h3;rw[Nat.min_eq_left (by omega)]at h2;rw[List.getElem?_take,if_pos (by omega)]at h3;rw[h3,h2];simp
 |p::r,acc,j+1,o,h=>by have:=AB r (acc++[ur acc p]) j o (by simpa using h);simp only[vaa,List.length_cons,List.length_nil,Nat.zero_add]at this;simp only[cD];rw[show acc.length+(j+1)=acc.length+1+j by omega];exact this
theorem AD{acc:List Nat}{i:Nat}:∀(es:List Edge) (s:Nat),(es.foldl (λs e=>bif Region.binds .any e then s ||| 2^e.on ||| acc.getD e.on 0 else s) s).testBit i=true->
 s.testBit i=true∨∃e∈es,Region.binds .any e=true/\(e.on=i∨(acc.getD e.on 0).testBit i=true)
 |[],s,h=>.inl h|e::es,s,h=>by
  rw[List.foldl_cons]at h;rcases AD es _ h with h1|⟨e',h1,h2⟩
  .cases hb:Region.binds .any e with
   |false=>rw[hb]at h1;exact .inl h1|true=>
    rw[hb]at h1;simp only[cond_true,Nat.testBit_or,vaB]at h1;rcases h1 with(h1|h1)|h1
    .exact .inl h1
    .refine .inr ⟨e,by simp,hb,.inl ?_⟩;rw[Nat.testBit_two_pow]at h1;simpa using h1
    exact .inr ⟨e,by simp,hb,.inr h1⟩
  exact .inr ⟨e',by simp[h1],h2⟩
section
variable {ops:Array Oper}
def Down(ops:Array Oper)(m:Nat->Bool):Prop:=∀x o,ops[x]?=some o->m x=true->∀e∈o.after,Region.binds .any e=true->m e.on=true
theorem closed{m:Nat->Bool}(hd:Down ops m):∀(j:Nat) (o:Oper),ops[j]?=some o->(∀e∈o.after,Region.binds .any e=true->m e.on=true)->∀i,((cD ops.toList []).getD j 0).testBit i=true->m i=true:=by
 intro j;induction j using Nat.strongRecOn with
 |_ j ih=>
  intro o ho hp i hi;have CG:=AB ops.toList [] j o (by simpa using ho)
  simp only[List.length_nil,Nat.zero_add]at CG;rw[vam,CG]at hi;simp only[Option.getD_some,ur]at hi;rcases AD _ _ hi with h|⟨e,he,hb,h|h⟩
  .simp at h
  .subst h;exact hp e (by simpa using he) hb
  have hlt:e.on<j:=by
   rcases Nat.lt_or_ge e.on j with h'|h'
   .exact h'
   rw[vam,List.getElem?_take,if_neg (by omega)]at h;simp at h
  have hh:((cD ops.toList []).getD e.on 0).testBit i=true:=by rw[vam,List.getElem?_take,if_pos hlt]at h;rw[vam];exact h
  have hj:j<ops.size:=(Array.getElem?_eq_some_iff.1 ho).1;have ho':ops[e.on]?=some ops[e.on]:=by simp[show e.on<ops.size by omega]
  exact ih e.on hlt _ ho' (hd _ _ ho' (hp e (by simpa using he) hb)) i hh
theorem tj{m:Nat}{o:Oper}:∀{n:Nat},gP.uv ops m o n=true->∀j,j<n->m.testBit j=true∨∃p,ops[j]?=some p/\p.apart ops o=true
 |0,_,j,hj=>by omega|n+1,h,j,hj=>by
  simp only[gP.uv,vae,vaB]at h;by_cases hjn:j=n
  .subst hjn;refine h.1.imp id (λh1=>?_);split at h1
   .rename_i p hp;exact⟨p,hp,h1⟩
   simp at h1
  exact tj h.2 j (by omega)
theorem nk{b:List Nat}:∀{l:List Oper} {i:Nat},gP ops b i l=true->∀j o,l[j]?=some o->
 (∀e∈o.after,Region.binds .any e=true->e.on<i+j)/\∀k,k<i+j->(b.getD (i+j) 0).testBit k=true∨∃p,ops[k]?=some p/\p.apart ops o=true
 |[],_,_,j,o,ho=>by simp at ho|q::r,i,h,0,o,ho=>by
  simp at ho;subst ho;simp only[gP,vae]at h;refine⟨λe he hb=>?_,λk hk=>tj h.1.2 k hk⟩;have:=List.all_eq_true.1 h.1.1 e (by simpa using he)
  simpa[hb,Nat.blt_eq]using this
 |q::r,i,h,j+1,o,ho=>by
  simp only[gP,vae]at h;have:=nk h.2 j o (by simpa using ho)
  rw[show i+(j+1)=i+1+j by omega];exact this
theorem Gs{b:List Nat}{q:Nat}(h:barrier b q=true):(∀i,i<q->(b.getD q 0).testBit i=true)/\∀i,q<i->i<b.length->(b.getD i 0).testBit q=true:=by
 simp only[barrier,vae]at h;obtain⟨h1,h2⟩:=h;refine⟨λi hi=>?_,λi hi hl=>?_⟩
 .rw[vaf h1];simpa using hi
 refine List.all_eq_true.1 h2 _ ?_;rw[vam,vaj hl,Option.getD_some];rw[List.mem_iff_getElem?];refine⟨i-(q+1),?_⟩;rw[List.getElem?_drop,show q+1+(i-(q+1))=i by omega,vaj hl]
theorem tn:∀(l:List Oper) (acc:List Nat),(cD l acc).length=acc.length+l.length
 |[],acc=>by simp[cD]|o::r,acc=>by simp only[cD];rw[tn r];simp;omega
end
end Dem
end
section
open Go
namespace Dem
section
variable {P:Program}{T:Nat->Option TI}{G:Nat->Option (List D)}{N:Nat}{ds:Kp}{X:Nat->Prop}
variable {FC:Nat->List AV->List av->eP->List av->Prop}
def YB(FC:Nat->List AV->List av->eP->List av->Prop)(T:Nat->Option TI)(G:Nat->Option (List D))(o:Oper)(sl:List (Nat×AV))(iT:List av)(x:Nat)(B:av)(v:AV):Prop:=
 (∃cs,jh T G sl o=some cs/\B=.var cs/\v=.ptr x 0)∨nN FC G o sl iT x (λv' B'=>v'=v/\B'=B)
def XB(FC:Nat->List AV->List av->eP->List av->Prop)(T:Nat->Option TI)(G:Nat->Option (List D))(ops:List Oper)(o:Oper)(sl:List (Nat×AV))(iT:List av)(it:It):Prop:=
 (∃x B,it.bi=some (x,B)/\iT[x]?=some .bJ/\o.guard=none/\YB FC T G o sl iT x B it.v)∨
 (it.bi=none/\o.guard=none/\YG FC T true (ct G sl) iT o.op it.v)∨
 (it.bi=none/\∃j want g v,o.guard=some (j,want)/\guardOf sl ops j want=some g/\YG FC T g (ct G sl) iT o.op v/\it.v=.cond g v)
def tt:Nat->Bool:=λ_=>true
def Seg(FC:Nat->List AV->List av->eP->List av->Prop)(T:Nat->Option TI)(G:Nat->Option (List D))(N:Nat)(ops:List Oper)(b:List Nat)(base:Nat)(iT:List av)(Q:Ex->St->Prop)(k i:Nat)(l:List Oper)(s:St):Prop:=
 ∃cO k',mD (base+k) cO/\cO.length<=l.length/\
  (∀j it,cO[j]?=some it->∃o,l[j]?=some o/\gr N o.dst=true/\it.dst=o.dst/\XB FC T G ops o (dN tt i (cO.take j) s.sl) iT it)/\
  (
   (cO.length=l.length/\Q .normal ⟨dN tt i cO s.sl,fP tt i cO s.bx⟩)∨
   (∃o rest,l.drop cO.length=o::rest/\barrier b (i+cO.length)=true/\gr N o.dst=true/\pP FC T G N ops b base iT k' (i+cO.length) (o::rest) Q ⟨dN tt i cO s.sl,fP tt i cO s.bx⟩))
theorem Seg.cons {ops:List Oper} {b:List Nat} {base:Nat} {iT:List av} {Q:Ex->St->Prop} {o:Oper} {rest:List Oper} {k k1 i:Nat} {s:St} {it:It} (hd:gr N o.dst=true)
 (hk:∀cO,mD (base+k1) cO->mD (base+k) (it::cO)) (IZ:it.dst=o.dst) (hy:XB FC T G ops o s.sl iT it)
 (hr:Seg FC T G N ops b base iT Q k1 (i+1) rest ⟨eJ o.dst it.v s.sl,tc it s.bx⟩):Seg FC T G N ops b base iT Q k i (o::rest) s:=by
 obtain⟨cO,k',g1,g2,g3,g4⟩:=hr;refine⟨it::cO,k',hk cO g1,by simpa using g2,?_,?_⟩
 .intro j it' hj;cases j with
  |zero=>simp at hj;subst hj;exact⟨o,rfl,hd,IZ,by simpa[dN]using hy⟩|succ j=>obtain⟨o',e1,e2,e3,e4⟩:=g3 j it' (by simpa using hj);refine⟨o',by simpa using e1,e2,e3,?_⟩;simp only[List.take_succ_cons,dN,tt,cond_true,IZ];exact e4
 simp only[List.length_cons,dN,fP,tt,cond_true,IZ,List.drop_succ_cons];rw[show i+(cO.length+1)=i+1+cO.length by omega];rcases g4 with⟨e1,e2⟩|e
 .exact .inl ⟨by omega,e2⟩
 exact .inr e
theorem v8{ops:List Oper}{b:List Nat}{base:Nat}{iT:List av}{Q:Ex->St->Prop}:∀(l:List Oper) (k i:Nat) (s:St),pP FC T G N ops b base iT k i l Q s->
 Seg FC T G N ops b base iT Q k i l s
 |[],k,i,s,h=>⟨[],k,by simp[mD],by simp,by simp,.inl ⟨rfl,by simpa[dN,fP,pP]using h⟩⟩|o::rest,k,i,s,h=>by
  have h0:=h;unfold pP at h;cases hd:gr N o.dst with
  |false=>simp[hd]at h|true=>
  simp only[hd,cond_true]at h;cases hb:barrier b i with
  |true=>exact⟨[],k,by simp[mD],by simp,by simp,.inr ⟨o,rest,by simp,by simpa using hb,hd,by simpa[dN,fP]using h0⟩⟩|false=>
  simp only[hb,cond_false]at h;have go:∀(it:It) (k1:Nat),(∀cO,mD (base+k1) cO->mD (base+k) (it::cO))->it.dst=o.dst->XB FC T G ops o s.sl iT it->
   pP FC T G N ops b base iT k1 (i+1) rest Q ⟨eJ o.dst it.v s.sl,tc it s.bx⟩->Seg FC T G N ops b base iT Q k i (o::rest) s:=
   λit k1 hk IZ hy hr=>Seg.cons hd hk IZ hy (v8 rest k1 (i+1) _ hr)
  split at h
  .rename_i cs BA;split at h
   .rename_i hu;have hg:o.guard=none:=by
     unfold jh at BA;cases hg:o.guard with
     |none=>rfl|some g=>simp[hg]at BA
    exact go ⟨o.dst,.ptr (base+k) 0,some (base+k,.var cs)⟩ (k+1) (λcO hi=>by simp only[mD];exact⟨hY,hi⟩) rfl (.inl ⟨_,.var cs,rfl,hu,hg,.inl ⟨cs,BA,rfl,rfl⟩⟩) h
   exact h.elim
  split at h
  .rename_i hg;rcases h with h|h
   .obtain⟨v,hy,hK⟩:=xM h;exact go ⟨o.dst,v,none⟩ k (λcO hi=>by simpa[mD]using hi) rfl (.inr (.inl ⟨rfl,hg,hy⟩)) hK
   obtain⟨f,args,ats,i',iz,args',sz,n,es,h1,h2,h3,h4,h5,h6,h7,h8,h9⟩:=h;exact go ⟨o.dst,.ow (base+k) sz n,some (base+k,.row sz es)⟩ (k+1) (λcO hi=>by simp only[mD];exact⟨hY,hi⟩) rfl
    (.inl ⟨_,.row sz es,rfl,h8,hg,.inr ⟨f,args,ats,i',iz,args',sz,n,es,h1,h2,h3,h4,h5,h6,h7,h8,rfl,rfl⟩⟩) h9
  rename_i j want hg;split at h
  .rename_i g Lo;obtain⟨v,hy,hK⟩:=xM h;exact go ⟨o.dst,.cond g v,none⟩ k (λcO hi=>by simpa[mD]using hi) rfl (.inr (.inr ⟨rfl,j,want,g,v,hg,Lo,hy,rfl⟩)) hK
  exact h.elim
variable {β:Nat->Nat}{w:World}{a:Act}
theorem Fr.IT {sl sZ:List (Nat×AV)} {bx:List av} (hF:Fr G N ds β w X ⟨sl,bx⟩ a) (h:∀t,fK t sl=fK t sZ):Fr G N ds β w X ⟨sZ,bx⟩ a:=
 ⟨hF.cx,hF.defers,hF.size,hF.kept,λt=>by have:=hF.sW t;simp only[h t]at this;exact this⟩
def at_(listed:Array Bool)(x:Nat):Bool:=listed.getD x false
theorem we{listed:Array Bool}{i x:Nat}(hi:i<listed.size):at_ (listed.setIfInBounds i true) x=(if x=i then true else at_ listed x):=by
 unfold at_;by_cases h:x=i
 .subst h;simp[hi]
 rw[if_neg h];simp[Array.getElem?_setIfInBounds_ne (Ne.symm h)]
theorem count_set:∀(l:List Bool) (i:Nat),l[i]?=some false->(l.set i true).count false+1=l.count false
 |[],i,h=>by simp at h|b::l,0,h=>by simp at h;subst h;simp|b::l,i+1,h=>by have:=count_set l i (by simpa using h);cases b<;>simp<;>omega
theorem CH:∀(l:List Bool),l.count false=0->∀i,i<l.length->l[i]?=some true
 |[],_,i,h=>by simp at h|b::l,h,i,hi=>by
  cases b with
  |false=>simp at h|true=>
   cases i with
   |zero=>rfl|succ i=>simpa using CH l (by simpa[List.count_cons]using h) i (by simpa using hi)
theorem mg{ops:Array Oper}{o:Oper}{sl sZ:List (Nat×AV)}(h:∀t∈o.looksAt ops,fK t sl=fK t sZ):∀x∈o.op.operands.toList,ct G sl x=ct G sZ x:=by
 intro x hx;cases x with
 |tmp t=>exact h t (List.mem_append_left _ (List.mem_filterMap.2 ⟨.tmp t,hx,rfl⟩))|_=>rfl
theorem I0{ops:Array Oper}{o:Oper}{sl sZ:List (Nat×AV)}{j:Nat}{want:Bool}(hg:o.guard=some (j,want))(h:∀t∈o.looksAt ops,fK t sl=fK t sZ):
 guardOf sl ops.toList j want=guardOf sZ ops.toList j want:=by
 unfold guardOf;have hj:ops.toList[j]?=ops[j]?:=by simp
 rw[hj];cases ho:ops[j]? with
 |none=>rfl|some p=>
  simp only
  cases hd:p.dst with
  |none=>rfl|some t=>
   simp only
   rw[h t (List.mem_append_right _ (by simp[hg,ho,hd]))]
theorem XB.IT {ops:Array Oper} {o:Oper} {sl sZ:List (Nat×AV)} {iT bx:List av} {it:It} (h:XB FC T G ops.toList o sl iT it) (hl:∀t∈o.looksAt ops,fK t sl=fK t sZ) (hb:nj iT bx)
 (hu:∀x cs,it.bi=some (x,cs)->bx[x]?=some .bJ):XB FC T G ops.toList o sZ bx it:=by
 rcases h with⟨x,B,h1,h2,h3,h4⟩|⟨h1,h2,h3⟩|⟨h1,j,want,g,v,h2,h3,h4,h5⟩
 .refine .inl ⟨x,B,h1,hu x B h1,h3,?_⟩;rcases h4 with⟨cs,k1,k2,k3⟩|h4
  .exact .inl ⟨cs,by rw[<-Gr (mg hl)];exact k1,k2,k3⟩
  obtain⟨f,args,ats,i',iz,args',sz,n,es,e1,e2,e3,e4,e5,e6,e7,e8,e9⟩:=h4;have hop:=mg (G:=G) hl
  rw[e1]at hop;have o1:=hop f (by simp[Op.operands,Call.operands])
  have o2:∀x∈args.toList,ct G sl x=ct G sZ x:=λx hx=>hop x (by simp[Op.operands,Call.operands];exact .inr (by simpa using hx));have o3:gE G sl args.toList=gE G sZ args.toList:=by unfold gE;exact List.map_congr_left o2
  rw[o1,List.map_congr_left (g:=λx=>(ct G sZ x).aU) λx hx=>by rw[o2 x hx]]at e2;rw[o1,o3]at e3;exact .inr ⟨f,args,ats,i',iz,args',sz,n,es,e1,e2,e3,Gq hb e4,e5,e6,e7,hu x B h1,e9⟩
 .exact .inr (.inl ⟨h1,h2,h3.IT (mg hl) hb⟩)
 exact .inr (.inr ⟨h1,j,want,g,v,h2,by rw[<-I0 h2 hl];exact h3,h4.IT (mg hl) hb,h5⟩)
theorem R5(hT:jj P T){ops:Array Oper}{i:Nat}{o:Oper}(ho:ops[i]?=some o){s:St}(hF:Fr G N ds β w X s a){it:It}(hy:XB (be P G) T G ops.toList o s.sl s.bx it)(hd:gr N o.dst=true)
 {K:Act->World->Prop} {Qc:Exit->Act->World->Prop} (hK:∀β' a' w',Ext β s.bx w β' (tc it s.bx) w'->Fr G N ds β' w' X ⟨eJ o.dst it.v s.sl,tc it s.bx⟩ a'->K a' w'):wpOp P ops Qc i K a w:=by
 unfold wpOp;rw[ho];simp only;rcases hy with⟨x,B,h1,h2,h3,h4⟩|⟨h1,h2,h3⟩|⟨h1,j,want,g,v,h2,h3,h4,h5⟩
 .rw[if_pos (by simp[Region.wanted,h3])];have e:tc it s.bx=s.bx.set x B:=by simp[tc,h1]
  rw[e]at hK;rcases h4 with⟨cs,k1,rfl,h5⟩|h4
  .refine .inl (IX hT hF k1 h2 ?_);rintro β' aE w' v u ex cx hv ⟨rfl,rfl⟩;exact hK β' _ w' ex (by rw[h5];exact hF.put ex cx hd hv)
  refine .inl (CB hT hF h4 ?_);rintro β' aE w' v u ex cx hv ⟨rfl,rfl⟩;exact hK β' _ w' ex (hF.put ex cx hd hv)
 .rw[if_pos (by simp[Region.wanted,h2])];refine .inl (IU hT hF h3 ?_);rintro β' aE w' v u ex cx hv ⟨rfl,rfl⟩;have e:tc it s.bx=s.bx:=by simp[tc,h1]
  rw[e]at hK;exact hK β' _ w' ex (hF.put ex cx hd hv)
 have e:tc it s.bx=s.bx:=by simp[tc,h1]
 rw[e]at hK;have hy:=nh hF h3
 cases g with
 |true=>
  rw[if_pos (by simp only[Region.wanted,h2];exact hy)]
  refine .inl (IU hT hF h4 ?_)
  rintro β' aE w' v' u ex cx hv ⟨rfl,rfl⟩
  exact hK β' _ w' ex (by rw[h5];exact hF.put ex cx hd (by simp only[ai];exact⟨λ_=>hv,by simp⟩))
 |false=>
  rw[if_neg (by simp only[Region.wanted,h2];rw[hy];simp)]
  exact hK β _ w (Ext.refl _ _ _) (by rw[h5];exact hF.put (Ext.refl _ _ _) hF.cx hd (by simp only[ai];simp))
end
end Dem
end
section
open Go
namespace Dem
theorem kD(pre:List Nat)(i:Nat)(o:Oper):(fN pre i o).op=o.op/\(fN pre i o).dst=o.dst/\(fN pre i o).guard=o.guard/\(fN pre i o).type=o.type/\(fN pre i o).pos=o.pos:=by unfold fN;cases pre.contains i<;>exact⟨rfl,rfl,rfl,rfl,rfl⟩
theorem oc(pre:List Nat):∀(l:List Oper) (i j:Nat),(bQ pre i l)[j]?=(l[j]?).map (fN pre (i+j))
 |[],_,_=>by simp[bQ]|o::r,i,0=>by simp[bQ]|o::r,i,j+1=>by simp only[bQ,vaq];rw[oc pre r (i+1) j,show i+1+j=i+(j+1) by omega]
theorem ri:∀(l:List Oper) (i:Nat),bQ [] i l=l
 |[],_=>rfl|o::r,i=>by simp only[bQ,ri r];simp[fN]
theorem mh(pre:List Nat):∀(l:List Oper) (i:Nat),(bQ pre i l).length=l.length
 |[],_=>rfl|o::r,i=>by simp[bQ,mh pre r]
section
variable {P:Program}{ops ops':Array Oper}{Q:Exit->Act->World->Prop}{pre:List Nat}
def pX(pre:List Nat)(ops ops':Array Oper):Prop:=∀j,ops'[j]?=(ops[j]?).map (fN pre j)
theorem pX.yielded (h:pX pre ops ops') (tm:Array Value):Go.yielded ops' tm=Go.yielded ops tm:=by
 funext j;unfold Go.yielded;rw[h j];cases ops[j]? with
 |none=>rfl|some o=>simp[(kD pre j o).2.1]
theorem xS(pre:List Nat)(j:Nat)(o:Oper)(ρ:Operand->Value):execOp ρ (fN pre j o)=execOp ρ o:=by unfold fN;cases pre.contains j<;>rfl
theorem wg(h:pX pre ops ops'){i:Nat}{K:Act->World->Prop}{a:Act}{w:World}:wpOp P ops' Q i K a w↔wpOp P ops Q i K a w:=by
 unfold wpOp;rw[h i,h.yielded];cases ho:ops[i]? with
 |none=>rfl|some o=>
  obtain⟨_,e2,e3,_,_⟩:=kD pre i o;simp only[vau];have hw:Region.wanted (fN pre i o) (Go.yielded ops a.tmps)=Region.wanted o (Go.yielded ops a.tmps):=by unfold Region.wanted;rw[e3]
  rw[hw,e2];have h1:(fN pre i o).wp P a w K Q=o.wp P a w K Q:=by unfold Oper.wp;rw[xS];generalize (execOp a.eval o).run P w=r;unfold Oper.upon;rw[e2]
  have h2:(fN pre i o).asks P a w=o.asks P a w:=by unfold Oper.asks;rw[xS]
  rw[h1,h2]
theorem AE(h:pX pre ops ops'){listed:Array Bool}(hl:∀p∈pre,listed.getD p false=true):Region.ready .any ops' listed=Region.ready .any ops listed:=by
 have hsz:ops'.size=ops.size:=by
  rcases Nat.lt_trichotomy ops'.size ops.size with hh|hh|hh
  .have:=h ops'.size;simp[hh]at this
  .exact hh
  have:=h ops.size;simp[hh]at this
 unfold Region.ready;rw[hsz];apply List.filter_congr;intro j hj;rw[h j];cases ho:ops[j]? with
 |none=>rfl|some o=>
  simp only[vau];congr 1;unfold fN;cases hc:pre.contains j with
  |true=>rfl|false=>
   simp only[cond_false];rw[Array.all_append];have:((pre.filter (λp=>Nat.blt p j)).map (λp=>({on:=p,ground:=.data}:Edge))).toArray.all (λe=>!Region.binds .any e||listed.getD e.on false)=true:=by
    rw[Array.all_eq_true];intro i hi;simp only[List.size_toArray,lgM]at hi;simp only[List.getElem_toArray,List.getElem_map];have hm:(pre.filter (λp=>Nat.blt p j))[i]∈pre:=(List.mem_filter.1 (List.getElem_mem hi)).1
    rw[hl _ hm];simp
   rw[this,Bool.and_true]
theorem AF(h:pX pre ops ops'):∀(fuel:Nat) (listed:Array Bool) (a:Act) (w:World),(∀p∈pre,listed.getD p false=true)->wpAny P .any ops' Q fuel listed a w->wpAny P .any ops Q fuel listed a w
 |0,listed,a,w,hl,hh=>by simp only[wpAny]at hh ⊢;rwa[AE h hl]at hh|fuel+1,listed,a,w,hl,hh=>by
  simp only[wpAny]at hh ⊢;rw[AE h hl]at hh;refine⟨hh.1,λi hi=>?_⟩;refine wpOp_mono (λa' w' h'=>AF h fuel _ a' w' ?_ h') ((wg h).1 (hh.2 i hi));intro p hp;have:=hl p hp
  rcases Nat.lt_or_ge i listed.size with hlt|hge
  .simp only[Array.getD_eq_getD_getElem?,Array.getElem?_setIfInBounds]at this ⊢;split
   .simp
   exact this
  rwa[Array.setIfInBounds_eq_of_size_le hge]
end
def zC(sl:List (Nat×AV))(a:Act):Prop:=∀t k z,fK t sl=.d (.int k z)->a.tmps.getD t undef=.int k z
theorem xV{G:Nat->Option (List D)}{sl:List (Nat×AV)}{a:Act}(h:zC sl a){x:Operand}{k:IntKind}{z:Int}(hx:ct G sl x=.d (.int k z)):a.eval x=.int k z:=by
 cases x with
 |tmp t=>exact h t k z hx|const v=>
  simp only[ct]at hx;show v=_
  unfold Lu at hx;split at hx<;>first|(cases hx;rfl)|cases hx
 |global g=>simp only[ct]at hx;split at hx<;>cases hx
 |func f=>cases hx
theorem Od(a:Act)(t:Nat)(v:Value)(hd:t<a.tmps.size)(u:Nat):(a.put (some t) v).tmps.getD u undef=if u=t then v else a.tmps.getD u undef:=by
 simp only[Act.put,Array.getD_eq_getD_getElem?,Array.getElem?_setIfInBounds];split
 .rename_i e;subst e;simp
 rename_i e;rw[if_neg (λh=>e h.symm)]
theorem I1(t u:Nat)(v:AV):∀(sl:List (Nat×AV)),fK u (put t v sl)=if u=t then v else fK u sl
 |[]=>by
  simp only[put,fK];by_cases h:u=t
  .subst h;simp
  rw[if_neg h];cases hb:Nat.beq u t with
  |false=>rfl|true=>exact absurd (vaf hb) h
 |(s,x)::r=>by
  simp only[put];cases hb:Nat.beq t s with
  |true=>
   have:=vaf hb;subst this;simp only[cond_true,fK];by_cases h:u=t
   .subst h;simp
   rw[if_neg h];cases hb:Nat.beq u t with
   |false=>rfl|true=>exact absurd (vaf hb) h
  |false=>
   simp only[cond_false,fK];rw[I1 t u v r];cases Eb:Nat.beq u s with
   |false=>simp|true=>
    have:=vaf Eb;subst this;have:u≠t:=λe=>by subst e;simp at hb
    simp[this]
theorem Oe{a:Act}{d:Option Nat}{v:Value}{m:Nat}(h:∀t,d=some t->m<=t):∀t,t<m->(a.put d v).tmps.getD t undef=a.tmps.getD t undef:=by
 intro t ht;cases d with
 |none=>rfl|some u=>have:=h u rfl;simp[Act.put,Array.getD_eq_getD_getElem?,Array.getElem?_setIfInBounds_ne (show u≠t by omega)]
theorem zC.put {sl:List (Nat×AV)} {a:Act} (h:zC sl a) {N:Nat} (hN:a.tmps.size=UO N) {dst:Option Nat} (hd:gr N dst=true) {x:AV} {v:Value} (hv:∀k z,x=.d (.int k z)->v=.int k z):zC (eJ dst x sl) (a.put dst v):=by
 cases dst with
 |none=>exact h|some t=>
  intro u k z hu;simp only[eJ]at hu;rw[I1]at hu;have ht:t<a.tmps.size:=by rw[hN];simp only[gr,vae,Nat.blt_eq]at hd;exact hd.1
  rw[Od a t v ht];split at hu
  .rename_i e;rw[if_pos e];exact hv k z hu
  rename_i e;rw[if_neg e];exact h u k z hu
theorem Vo{t:TypeId}{k:IntKind}{x y:Int}{ρ:Operand->Value}{o:Oper}{a b:Operand}{t':TypeId}(ho:o.op=.binOp .add t a b t')(ha:ρ a=.int k x)(hb:ρ b=.int k y):execOp ρ o=pure (.value (.int k (k.wrap (x+y)))):=by
 unfold execOp;simp only[ho,ha,hb];have h1:binOp .add t (.int k x) (.int k y)=pure (.int k (k.wrap (x+y))):=by simp[binOp,Op.intArith]
 rw[h1];rfl
theorem Vp{t:TypeId}{k:IntKind}{x y:Int}{ρ:Operand->Value}{o:Oper}{a b:Operand}{t':TypeId}(ho:o.op=.binOp .sub t a b t')(ha:ρ a=.int k x)(hb:ρ b=.int k y):execOp ρ o=pure (.value (.int k (k.wrap (x-y)))):=by
 unfold execOp;simp only[ho,ha,hb];have h1:binOp .sub t (.int k x) (.int k y)=pure (.int k (k.wrap (x-y))):=by simp[binOp,Op.intArith]
 rw[h1];rfl
section
variable {P:Program}{ops ops':Array Oper}{Q:Exit->Act->World->Prop}
theorem R6{G:Nat->Option (List D)}{sl:List (Nat×AV)}{a:Act}(h:zC sl a){o:Oper}{x:AV}(hx:UZ G sl o=some x):∃v,execOp a.eval o=pure (.value v)/\∀k z,x=.d (.int k z)->v=.int k z:=by
 unfold UZ at hx;split at hx
 .rename_i y ho;cases hx;exact⟨a.eval y,by unfold execOp;simp only[ho],λk z hk=>xV h hk⟩
 .rename_i t y z t' ho;split at hx
  .rename_i k p k' q h1 h2;cases hk:k==k' with
   |false=>rw[hk]at hx;cases hx
   |true=>
    rw[hk]at hx;have:k=k':=by simpa using hk
    subst this;simp only[cond_true,osI]at hx;subst hx;refine⟨_,Vo ho (xV h h1) (xV h h2),λj r e=>?_⟩;cases e;rfl
  cases hx
 .rename_i t y z t' ho;split at hx
  .rename_i k p k' q h1 h2;cases hk:k==k' with
   |false=>rw[hk]at hx;cases hx
   |true=>
    rw[hk]at hx;have:k=k':=by simpa using hk
    subst this;simp only[cond_true,osI]at hx;subst hx;refine⟨_,Vp ho (xV h h1) (xV h h2),λj r e=>?_⟩;cases e;rfl
  cases hx
 cases hx
theorem CI{p:Nat}{o:Oper}{v:Value}{K:Act->World->Prop}{a:Act}{w:World}(hi:ops[p]?=some o)(hg:o.guard=none)(hv:execOp a.eval o=pure (.value v))(h:wpOp P ops Q p K a w):K (a.put o.dst v) w:=by
 unfold wpOp at h;have hw:Region.wanted o (Go.yielded ops a.tmps)=true:=by unfold Region.wanted;rw[hg]
 simp only[hi,hw,if_true]at h;rcases h with h|⟨h,_⟩
 .unfold Oper.wp at h;rw[hv]at h;exact h
 unfold Oper.asks at h;rw[hv]at h;exact absurd h.1 (by show noRoomEvent ∉ (#[]:Array Event);simp)
theorem zD{G:Nat->Option (List D)}{N:Nat}{Vq:List Nat}(ht:pX Vq ops ops')(hsel:m0 ops=true){m:Nat}(hlo:∀(i:Nat) (o:Oper),ops[i]?=some o->∀t,o.dst=some t->m<=t)(hQ:∀c (a a':Act) w,a.defers=a'.defers->(∀t,t<m->a.tmps.getD t undef=a'.tmps.getD t undef)->Q (.panic c) a w->Q (.panic c) a' w)(fuel:Nat)(w:World):
 ∀(pre done:List Nat) (listed:Array Bool) (a:Act) (sl:List (Nat×AV)),iM ops done pre=true->Ev G N ops.toList pre sl=true->zC sl a->a.tmps.size=UO N->(∀p∈done,listed.getD p false=true)->(∀p∈pre,p ∉ done->listed.getD p true=false)->
  (∀p∈Vq,p∈done∨p∈pre)->(∀p∈pre,p∈Vq)->listed.size=ops.size->pre.Nodup->
  wpAny P .any ops' Q (pre.length+fuel) listed a w->wpAny P .any ops Q (pre.length+fuel) listed a w
 |[],done,listed,a,sl,_,_,_,_,hd,_,hc,_,_,_,h=>AF ht _ _ _ _ (λp hp=>hd p ((hc p hp).resolve_right (by simp))) h|p::r,done,listed,a,sl,hf,hg,hr,hN,hd,hu,hc,hs,hsz,hnd,h=>by
  simp only[iM]at hf;simp only[Ev]at hg;cases ho:ops[p]? with
  |none=>simp[ho]at hf|some o=>
   have ho':ops.toList[p]?=some o:=by simpa using ho
   simp only[ho',ho,vae]at hf hg;obtain⟨⟨⟨⟨f1,f2⟩,f3⟩,f4⟩,f5⟩:=hf;have hnp:p ∉ done:=by simpa using f1
   have oB:listed.getD p true=false:=hu p (by simp) hnp;have zE:o.guard=none:=by cases hgg:o.guard with
    |none=>rfl|some g=>rw[hgg]at f2;cases f2
   cases hx:UZ G sl o with
   |none=>rw[hx]at hg;cases hg
   |some x=>
    simp only[hx,vae]at hg;obtain⟨g1,g2⟩:=hg;obtain⟨v,hv,hvx⟩:=R6 hr hx;have LY:p∈Region.ready .any ops listed:=by
     rw[mem_ready];refine⟨oB,o,ho,λe he hb=>?_⟩;rw[Array.all_eq_true_iff_forall_mem]at f3;have:=f3 e he
     rw[hb]at this;simp only[Bool.not_true,Bool.false_or]at this;exact hd _ (by simpa using this)
    have Vr:p∈Region.ready .any ops' listed:=by
     rw[mem_ready]at LY ⊢;refine⟨oB,o,?_,?_⟩
     .rw[ht p,ho,vau];have:Vq.contains p=true:=by simpa using hs p (by simp)
      congr 1;unfold fN;rw[this];rfl
     obtain⟨_,o2,h2,h3⟩:=LY;rw[ho]at h2;cases h2;exact h3
    rw[show(p::r).length+fuel=(r.length+fuel)+1 by simp;omega]at h ⊢;have h1:=(wg ht).1 (h.2 p Vr)
    have h2:=CI ho zE hv h1;have LZ:Yields P ops o v a:=.inl ⟨by unfold Region.wanted;rw[zE],λw=>by rw[hv];rfl⟩
    refine wpAny_first ho ?_ (λc a w hq=>hQ c _ _ w (by cases o.dst<;>rfl) (Oe (hlo _ o ho)) hq) _ _ _ _ ?_ LY LZ ?_
    .intro j q cs b hj e;have hm:q∈ops:=Array.mem_of_getElem? hj
     rw[m0,Array.all_eq_true_iff_forall_mem]at hsel;have:=hsel q hm
     rw[e]at this;cases this
    .intro j q hj hjp hjl hno;have gD:j<ops.size:=(Array.getElem?_eq_some_iff.1 hj).1
     rw[vaE]at f4;have:=f4 j (List.mem_range.2 gD)
     rw[hj]at this;simp only[vaB]at this;rcases this with(h4|h4)|h4|h4
     .exact absurd (vaf h4) hjp
     .have:=hd j (by simpa using h4);exfalso;rcases Nat.lt_or_ge j listed.size with hl|hl
      .simp[hl]at this hjl;rw[this]at hjl;cases hjl
      simp[hl]at this
     .rw[Array.any_eq_true]at h4;obtain⟨i,hi,h5⟩:=h4;simp only[vae]at h5;exact absurd (vaf h5.2) (hno _ (Array.getElem_mem hi) h5.1)
     exact h4
    have hps:p<listed.size:=by rw[hsz];exact(Array.getElem?_eq_some_iff.1 ho).1
    refine zD ht hsel hlo hQ fuel w r (p::done) _ _ _ f5 g2 (hr.put hN g1 hvx) ?_ ?_ ?_ ?_ (λq hq=>hs q (by simp[hq])) (by simpa using hsz) (List.nodup_cons.1 hnd).2 h2
    .rw[<-hN];cases o.dst with
     |none=>rfl|some d=>simp[Act.put]
    .intro q hq;rcases List.mem_cons.1 hq with rfl|hq
     .simp[hps]
     have:=hd q hq;simp only[Array.getD_eq_getD_getElem?,Array.getElem?_setIfInBounds]at this ⊢;split
     .simp[hps]
     exact this
    .intro q hq hqd;have hqp:q≠p:=λe=>by subst e;exact(List.nodup_cons.1 hnd).1 hq
     have:=hu q (by simp[hq]) (λhh=>hqd (by simp[hh]));simp only[Array.getD_eq_getD_getElem?,Array.getElem?_setIfInBounds]at this ⊢;rw[if_neg (λe=>hqp e.symm)];exact this
    intro q hq;rcases hc q hq with h6|h6
    .exact .inl (by simp[h6])
    rcases List.mem_cons.1 h6 with rfl|h6
    .exact .inl (by simp)
    exact .inr h6
end
section
variable {P:Program}{ops ops':Array Oper}{Q:Exit->Act->World->Prop}{late:List Nat}
def I2(late:List Nat)(ops ops':Array Oper):Prop:=∀j,ops'[j]?=(ops[j]?).map (mc ops late j)
theorem nt(ops:Array Oper)(late:List Nat)(i:Nat)(o:Oper):∃x,mc ops late i o={o with after:=o.after++x}:=by
 unfold mc;cases late.contains i
 .exact⟨_,rfl⟩
 exact⟨#[],by simp⟩
theorem I2.yielded (h:I2 late ops ops') (tm:Array Value):Go.yielded ops' tm=Go.yielded ops tm:=by
 funext j;unfold Go.yielded;rw[h j];cases ops[j]? with
 |none=>rfl|some o=>obtain⟨x,e⟩:=nt ops late j o;simp[e]
theorem CJ(h:I2 late ops ops'){i:Nat}{K:Act->World->Prop}{a:Act}{w:World}:wpOp P ops' Q i K a w↔wpOp P ops Q i K a w:=by
 unfold wpOp;rw[h i,h.yielded];cases ho:ops[i]? with
 |none=>rfl|some o=>obtain⟨x,e⟩:=nt ops late i o;simp only[vau,e];rfl
theorem Gt{o:Oper}(h:B4 o.op=true)(ρ:Operand->Value):(∃v,execOp ρ o=pure (.value v))∨(∃m,execOp ρ o=(stuck m)):=by
 unfold B4 at h;split at h
 .rename_i x ho;exact .inl ⟨ρ x,by unfold execOp;simp only[ho]⟩
 .rename_i x i ho;unfold execOp;simp only[ho,Instr.extract];split
  .split
   .exact .inl ⟨_,rfl⟩
   exact .inr ⟨_,rfl⟩
  exact .inr ⟨_,rfl⟩
 cases h
theorem Py(h:I2 late ops ops')(hf:uw ops late=true)(hsel:m0 ops=true){m:Nat}(hlo:∀(i:Nat) (o:Oper),ops[i]?=some o->∀t,o.dst=some t->m<=t)(hQ:∀c (a a':Act) w,a.defers=a'.defers->(∀t,t<m->a.tmps.getD t undef=a'.tmps.getD t undef)->Q (.panic c) a w->Q (.panic c) a' w):
 ∀(fuel:Nat) (listed:Array Bool) (a:Act) (w:World),listed.size=ops.size->wpAny P .any ops' Q fuel listed a w->wpAny P .any ops Q fuel listed a w:=by
 have hsub:∀listed i,i∈Region.ready .any ops' listed->i∈Region.ready .any ops listed:=by
  intro listed i hi;rw[mem_ready]at hi ⊢;obtain⟨h1,o',h2,h3⟩:=hi;rw[h i]at h2;cases ho:ops[i]? with
  |none=>rw[ho]at h2;cases h2
  |some o=>rw[ho]at h2;simp only[vau,osI]at h2;obtain⟨x,e⟩:=nt ops late i o;refine⟨h1,o,rfl,λe' he hb=>h3 e' ?_ hb⟩;rw[<-h2,e];exact Array.mem_append_left _ he
 have Oa:∀listed i,i∈Region.ready .any ops listed->i ∉ Region.ready .any ops' listed->∃p o,p∈late/\ops[p]?=some o/\p∈Region.ready .any ops' listed:=by
  intro listed i hi hn;rw[mem_ready]at hi;obtain⟨h1,o,h2,h3⟩:=hi;have hi2:∃p∈late,listed.getD p false=false/\F7 ops p o=true/\p<i:=by
   by_cases hc:∃p∈late,listed.getD p false=false/\F7 ops p o=true/\p<i
   .exact hc
   exfalso;apply hn;rw[mem_ready];refine⟨h1,mc ops late i o,by rw[h i,h2];rfl,λe he hb=>?_⟩;unfold mc at he;cases hl:late.contains i with
   |true=>rw[hl]at he;exact h3 e he hb|false=>
    rw[hl]at he;simp only[cond_false]at he;rcases Array.mem_append.1 he with he|he
    .exact h3 e he hb
    simp only[List.mem_toArray,vaI,vaK,vae]at he;obtain⟨p,⟨hp,Pp,N4⟩,rfl⟩:=he;simp only;cases hg:listed.getD p false with
    |true=>rfl|false=>exact absurd ⟨p,hp,hg,N4,by simpa using Pp⟩ hc
  obtain⟨p,hp,hg,hto,hpi⟩:=hi2;unfold F7 at hto;cases ho:ops[p]? with
  |none=>rw[ho]at hto;cases hto
  |some q=>
   rw[ho]at hto;refine⟨p,q,hp,ho,?_⟩;rw[mem_ready];have hps:p<listed.size∨listed.size<=p:=Nat.lt_or_ge _ _
   have hg2:listed.getD p true=false:=by
    rcases hps with hps|hps
    .simp[hps]at hg ⊢;exact hg
    exfalso;have Iv:=h1
    have:i<listed.size:=by
     rcases Nat.lt_or_ge i listed.size with h|h
     .exact h
     simp[h]at Iv
    omega
   refine⟨hg2,mc ops late p q,by rw[h p,ho];rfl,λe he hb=>?_⟩;have hc:late.contains p=true:=by simpa using hp
   unfold mc at he;rw[hc]at he;simp only[cond_true]at he;rw[Array.all_eq_true_iff_forall_mem]at hto;have:=hto e he
   rw[hb]at this;simp only[Bool.not_true,Bool.false_or]at this;rw[Array.any_eq_true]at this;obtain⟨k,hk,h5⟩:=this;simp only[vae]at h5;rw[<-vaf h5.2];exact h3 _ (Array.getElem_mem hk) h5.1
 intro fuel;induction fuel with
 |zero=>
  intro listed a w _ hh
  simp only[wpAny]at hh ⊢
  refine⟨?_,hh.2⟩
  rw[List.eq_nil_iff_forall_not_mem]
  intro i hi
  obtain⟨p,o,_,_,hr⟩:=Oa listed i hi (by rw[hh.1];simp)
  rw[hh.1]at hr;cases hr
 |succ fuel ih=>
  intro listed a w hsz hh
  by_cases hall:∀i∈Region.ready .any ops listed,i∈Region.ready .any ops' listed
  .refine⟨λh0=>hh.1 ?_,λi hi=>?_⟩
   .rw[List.eq_nil_iff_forall_not_mem];intro i hi;have:=hsub listed i hi
    rw[h0]at this;cases this
   exact wpOp_mono (λa' w' h'=>ih _ a' w' (by simpa using hsz) h') ((CJ h).1 (hh.2 i (hall i hi)))
  simp only[Classical.not_forall]at hall
  obtain⟨i,hi,hn⟩:=hall
  obtain⟨p,o,hp,ho,hr⟩:=Oa listed i hi hn
  have h1:=(CJ h).1 (hh.2 p hr)
  have R7:=hf
  unfold uw at R7
  rw[vaE]at R7
  have R7:=R7 p hp
  rw[ho]at R7
  simp only[vae]at R7
  obtain⟨⟨f1,f2⟩,f3⟩:=R7
  have zE:o.guard=none:=by cases hgg:o.guard with
   |none=>rfl|some g=>rw[hgg]at f2;cases f2
  rcases Gt f1 a.eval with⟨v,hv⟩|⟨m,hv⟩
  .have h2:=CI ho zE hv h1;have h3:=ih _ _ w (by simpa using hsz) h2
   have LZ:Yields P ops o v a:=.inl ⟨by unfold Region.wanted;rw[zE],λw=>by rw[hv];rfl⟩;refine wpAny_first ho ?_ (λc a w hq=>hQ c _ _ w (by cases o.dst<;>rfl) (Oe (hlo _ o ho)) hq) _ _ _ _ ?_ (hsub _ _ hr) LZ h3
   .intro j q cs b hj e;have hm:q∈ops:=Array.mem_of_getElem? hj
    rw[m0,Array.all_eq_true_iff_forall_mem]at hsel;have:=hsel q hm
    rw[e]at this;cases this
   intro j q hj hjp hjl hno;have gD:j<ops.size:=(Array.getElem?_eq_some_iff.1 hj).1
   rw[vaE]at f3;have:=f3 j (List.mem_range.2 gD)
   rw[hj]at this;simp only[vaB]at this;rcases this with(h4|h4)|h4|h4
   .exact absurd (vaf h4) hjp
   .exfalso;rw[Array.any_eq_true]at h4;obtain⟨k,hk,h5⟩:=h4;simp only[vae]at h5;have hrr:=hsub _ _ hr
    rw[mem_ready]at hrr;obtain⟨_,o2,ho2,aay⟩:=hrr;rw[ho]at ho2;cases ho2;have:=aay _ (Array.getElem_mem hk) h5.1
    rw[vaf h5.2]at this;rcases Nat.lt_or_ge j listed.size with hl|hl
    .simp[hl]at this hjl;rw[this]at hjl;cases hjl
    simp[hl]at this
   .rw[Array.any_eq_true]at h4;obtain⟨k,hk,h5⟩:=h4;simp only[vae]at h5;exact absurd (vaf h5.2) (hno _ (Array.getElem_mem hk) h5.1)
   exact h4
  exfalso
  unfold wpOp at h1
  have hw:Region.wanted o (Go.yielded ops a.tmps)=true:=by unfold Region.wanted;rw[zE]
  simp only[ho,hw,if_true]at h1
  rcases h1 with h1|⟨h1,_⟩
  .unfold Oper.wp at h1;rw[hv]at h1;exact h1
  unfold Oper.asks at h1;rw[hv]at h1
  exact absurd h1.1 (by show noRoomEvent ∉ (#[]:Array Event);simp)
end
end Dem
end
section
open Go
namespace Dem
section
variable {P:Program}{T:Nat->Option TI}{G:Nat->Option (List D)}{N:Nat}{ds:Kp}{X:Nat->Prop}
variable {β0:Nat->Nat}{aK:List av}{w0:World}
theorem Pz{ops:Array Oper}(hfit:gP ops (cD ops.toList []) 0 ops.toList=true){m:Nat->Bool}(hd:Down ops m){i j:Nat}{o p:Oper}(ho:ops[i]?=some o)(hp:ops[j]?=some p)
 (Ee:m i=false) (hri:∀e∈o.after,Region.binds .any e=true->m e.on=true) (hj:(j<i/\m j=false)∨(i<j/\m j=true)):
 (∀d,p.dst=some d->d ∉ o.looksAt ops)/\(∀d,p.dst=some d->o.dst≠some d):=by
 rcases hj with⟨hlt,hmj⟩|⟨hlt,hmj⟩
 .have h:=(nk hfit i o (by simpa using ho)).2 j (by omega);rw[Nat.zero_add]at h;rcases h with h|⟨p',hp',h⟩
  .have:=closed hd i o ho hri j h;rw[hmj]at this;cases this
  rw[hp]at hp';cases hp';obtain⟨h1,h2,h3⟩:=Oper.apart_spec h;exact⟨h1,h2⟩
 have h:=(nk hfit j p (by simpa using hp)).2 i (by omega);rw[Nat.zero_add]at h;rcases h with h|⟨o',ho',h⟩
 .have:=closed hd j p hp (hd j p hp hmj) i h;rw[Ee]at this;cases this
 rw[ho]at ho';cases ho';obtain⟨h1,h2,h3⟩:=Oper.apart_spec h;exact⟨h3,λd Yq he=>h2 d he Yq⟩
theorem CK{m:Nat->Bool}:∀(cO:List It) (i:Nat) (sl:List (Nat×AV)),(∀j,j<cO.length->m (i+j)=false)->dN m i cO sl=sl
 |[],_,_,_=>rfl|it::r,i,sl,h=>by have h0:=h 0 (by simp);rw[Nat.add_zero]at h0;simp only[dN,h0,cond_false];exact CK r (i+1) sl (λj hj=>by have:=h (j+1) (by simpa using hj);rw[show i+1+j=i+(j+1) by omega];exact this)
theorem CL{m:Nat->Bool}:∀(cO:List It) (i:Nat) (bx:List av),(∀j,j<cO.length->m (i+j)=false)->fP m i cO bx=bx
 |[],_,_,_=>rfl|it::r,i,bx,h=>by have h0:=h 0 (by simp);rw[Nat.add_zero]at h0;simp only[fP,h0,cond_false];exact CL r (i+1) bx (λj hj=>by have:=h (j+1) (by simpa using hj);rw[show i+1+j=i+(j+1) by omega];exact this)
theorem R8(hT:jj P T){ops:Array Oper}(hfit:gP ops (cD ops.toList []) 0 ops.toList=true){base:Nat}{Q:Ex->St->Prop}:
 ∀(fuel:Nat) (listed:Array Bool) (p k:Nat) (cO:List It) (s0:St) (β:Nat->Nat) (w:World) (a:Act),listed.size=ops.size->Down ops (at_ listed)->(∀x,x<p->at_ listed x=true)->(∀x,p+cO.length<=x->at_ listed x=false)->
  listed.toList.count false=fuel->p+cO.length<=ops.size->mD (base+k) cO->
  (∀j it,cO[j]?=some it->∃o,ops[p+j]?=some o/\gr N o.dst=true/\it.dst=o.dst/\XB (be P G) T G ops.toList o (dN tt p (cO.take j) s0.sl) s0.bx it)->
  ((
   p+cO.length=ops.size/\Q .normal ⟨dN tt p cO s0.sl,fP tt p cO s0.bx⟩)∨
   (∃k' o rest,ops.toList.drop (p+cO.length)=o::rest/\barrier (cD ops.toList []) (p+cO.length)=true/\gr N o.dst=true/\
    pP (be P G) T G N ops.toList (cD ops.toList []) base s0.bx k' (p+cO.length) (o::rest) Q ⟨dN tt p cO s0.sl,fP tt p cO s0.bx⟩))->
  Ext β0 aK w0 β (fP (at_ listed) p cO s0.bx) w->Fr G N ds β w X ⟨dN (at_ listed) p cO s0.sl,fP (at_ listed) p cO s0.bx⟩ a->
  wpAny P .any ops (dB G N ds X β0 aK w0 Q) fuel listed a w:=by
 intro fuel
 induction fuel with
 |zero=>
  intro listed p k cO s0 β w a hsz hdn hlo hhi aaz hle BA hit hend ex hF
  have hall:∀x,x<ops.size->at_ listed x=true:=by
   intro x hx;have:=CH listed.toList aaz x (by simpa[hsz]using hx)
   unfold at_;have h2:listed[x]?=some true:=by simpa using this
   simp[Array.getD_eq_getD_getElem?,h2]
  have hfull:p+cO.length=ops.size:=by
   rcases Nat.lt_or_ge (p+cO.length) ops.size with h|h
   .have h1:=hall _ h;rw[hhi _ (vad _)]at h1;cases h1
   omega
  refine⟨?_,?_⟩
  .rw[List.eq_nil_iff_forall_not_mem];intro j hj;obtain⟨h1,o,h2,_⟩:=mem_ready.1 hj;have hjl:j<ops.size:=(Array.getElem?_eq_some_iff.1 h2).1
   have:=hall j hjl;unfold at_ at this;simp only[Array.getD_eq_getD_getElem?]at this h1;cases hq:listed[j]? with
   |none=>rw[hq]at this;simp at this|some v=>rw[hq]at this h1;simp at this h1;rw[this]at h1;cases h1
  rcases hend with⟨_,hQ⟩|⟨k',o,rest,hdr,_⟩
  .have e1:=mC (m:=at_ listed) (m':=tt) cO p s0.sl (λj hj=>hall _ (by omega));have e2:=oL (m:=at_ listed) (m':=tt) cO p s0.bx (λj hj=>hall _ (by omega))
   rw[e1,e2]at hF;rw[e2]at ex;exact⟨β,_,ex,hF,hQ⟩
  rw[vah (by simp;omega)]at hdr;cases hdr
 |succ fuel ih=>
  intro listed p k cO s0 β w a hsz hdn hlo hhi aaz hle BA hit hend ex hF
  refine⟨?_,?_⟩
  .intro hr;exfalso;have key:∀x,x<ops.size->at_ listed x=true:=by
    intro x;induction x using Nat.strongRecOn with
    |_ x ihx=>
     intro hx;cases hq:at_ listed x with
     |true=>rfl|false=>
      exfalso;have ho:ops[x]?=some ops[x]:=by simp[hx]
      have hp:=(nk hfit x ops[x] (by simp[hx])).1;have:x∈Region.ready .any ops listed:=by
       refine mem_ready.2 ⟨?_,ops[x],ho,λe he hb=>?_⟩
       .unfold at_ at hq;have hx':x<listed.size:=by omega
        simp[hx']at hq ⊢;exact hq
       have:=hp e he hb;exact ihx e.on (by omega) (by omega)
      rw[hr]at this;cases this
   have:listed.toList.count false=0:=by
    rw[List.count_eq_zero];intro hm;obtain⟨x,hx⟩:=List.mem_iff_getElem?.1 hm;have Rk:x<listed.toList.length:=by
     rcases Nat.lt_or_ge x listed.toList.length with h|h
     .exact h
     rw[vay h]at hx;cases hx
    have:=key x (by simpa[hsz]using Rk);unfold at_ at this;have h2:listed[x]?=some false:=by simpa using hx
    simp[Array.getD_eq_getD_getElem?,h2]at this
   omega
  intro i hi
  obtain⟨hi1,o,ho,hp⟩:=mem_ready.1 hi
  have hin:i<ops.size:=(Array.getElem?_eq_some_iff.1 ho).1
  have hil:i<listed.size:=by omega
  have Ee:at_ listed i=false:=by unfold at_;simp[hil]at hi1 ⊢;exact hi1
  have hri:∀e∈o.after,Region.binds .any e=true->at_ listed e.on=true:=hp
  have hpi:p<=i:=by
   rcases Nat.lt_or_ge i p with h|h
   .rw[hlo i h]at Ee;cases Ee
   exact h
  have Vf:(listed.setIfInBounds i true).size=ops.size:=by simp[hsz]
  have aaB:Down ops (at_ (listed.setIfInBounds i true)):=by
   intro x ox hox hx e he hb;rw[we hil];by_cases hei:e.on=i
   .simp[hei]
   rw[if_neg hei];rw[we hil]at hx;by_cases hxi:x=i
   .subst hxi;rw[ho]at hox;cases hox;exact hri e he hb
   rw[if_neg hxi]at hx;exact hdn x ox hox hx e he hb
  have XC:(listed.setIfInBounds i true).toList.count false=fuel:=by
   have h2:listed.toList[i]?=some false:=by unfold at_ at Ee;simp[hil]at Ee;simp[hil,Ee]
   have:=count_set listed.toList i h2;rw[Array.toList_setIfInBounds];omega
  rcases Nat.lt_or_ge i (p+cO.length)with hlt|hge
  ·
   obtain⟨j,rfl⟩:∃j,i=p+j:=⟨i-p,by omega⟩;have hj:j<cO.length:=by omega
   have hgj:cO[j]?=some cO[j]:=by simp[hj]
   obtain⟨o',ho',hd,IZ,hy⟩:=hit j _ hgj;rw[ho]at ho';cases ho';have hun:∀(j:Nat) (it:It) (y:Nat) (cs:av),cO[j]?=some it->it.bi=some (y,cs)->s0.bx[y]?=some .bJ:=by
    intro j' it' y cs hj' hb;obtain⟨_,_,_,_,h|h|h⟩:=hit j' it' hj'
    .obtain⟨x,cs',h1,h2,_⟩:=h;rw[h1]at hb;cases hb;exact h2
    .rw[h.1]at hb;cases hb
    rw[h.1]at hb;cases hb
   have L0:∀(j':Nat) (it':It),cO[j']?=some it'->((j'<j/\at_ listed (p+j')=false)∨(j<j'/\at_ listed (p+j')=true))->
    (∀d,it'.dst=some d->d ∉ o.looksAt ops)/\(∀d,it'.dst=some d->o.dst≠some d):=by
    intro j' it' hj' hc;obtain⟨p',hp',_,aaC,_⟩:=hit j' it' hj';rw[aaC];exact Pz hfit hdn ho hp' Ee hri (hc.imp (λh=>⟨by omega,h.2⟩) (λh=>⟨by omega,h.2⟩))
   have aaD:∀t∈o.looksAt ops,fK t (dN tt p (cO.take j) s0.sl)=fK t (dN (at_ listed) p cO s0.sl):=by
    intro t ht;have e:dN tt p (cO.take j) s0.sl=dN (λx=>decide (x<p+j)) p cO s0.sl:=CD cO p j s0.sl
    rw[e];refine tg cO p _ _ rfl ?_;intro j' it' hj' hdt;rcases Nat.lt_trichotomy j' j with h|h|h
    .rw[decide_eq_true (by omega)];cases hq:at_ listed (p+j')with
     |true=>rfl|false=>exact absurd ht ((L0 j' it' hj' (.inl ⟨h,hq⟩)).1 t hdt)
    .subst h;rw[decide_eq_false (by omega),Ee]
    rw[decide_eq_false (by omega)];cases hq:at_ listed (p+j')with
    |false=>rfl|true=>exact absurd ht ((L0 j' it' hj' (.inr ⟨h,hq⟩)).1 t hdt)
   have hy':=hy.IT (bx:=fP (at_ listed) p cO s0.bx) aaD (IY cO p s0.bx (nj.refl _) hun) (by
    intro x cs hb;rw[EQ cO p s0.bx ?_]
    .exact hun j _ x cs hgj hb
    intro j' it' y cs' hj' hm hb';refine BA.apart hj' hb' hgj hb ?_;rintro rfl;rw[Ee]at hm;cases hm)
   refine R5 hT ho hF hy' hd ?_;intro β' a' w' qL Vs;have hm':∀x,x≠p+j->at_ (listed.setIfInBounds (p+j) true) x=at_ listed x:=λx hx=>by rw[we hil,if_neg hx]
   have hB:fP (at_ (listed.setIfInBounds (p+j) true)) p cO s0.bx=tc cO[j] (fP (at_ listed) p cO s0.bx):=by refine CF cO p j cO[j] s0.bx hgj Ee (by rw[we hil,if_pos rfl]) hm' ?_;intro j' it' y cs x cs0 hj' hne hb' hb0;exact BA.apart hj' hb' hgj hb0 hne
   refine ih _ p k cO s0 β' w' a' Vf aaB (λx hx=>by rw[hm' x (by omega)];exact hlo x hx) (λx hx=>by rw[hm' x (by omega)];exact hhi x hx) XC hle BA hit hend (by rw[hB];exact ex.trans qL) ?_;rw[hB];refine Vs.IT (λt=>?_);rw[<-IZ];refine(CE cO p j cO[j] s0.sl hgj Ee (by rw[we hil,if_pos rfl]) hm' ?_).symm;intro j' it' hj' hlt' hm d hd0 Yq;rw[IZ]at hd0;exact(L0 j' it' hj' (.inr ⟨hlt',hm⟩)).2 d Yq hd0
  rcases hend with⟨hfull,_⟩|⟨k',o',rest,hdr,aaE,hd,hop⟩
  .omega
  obtain⟨ED,Eb⟩:=Gs aaE
  have hiq:i=p+cO.length:=by
   rcases Nat.lt_or_ge (p+cO.length) i with h|h
   .have h1:=closed hdn i o ho hri _ (Eb i h (by rw[tn];simpa using hin));rw[hhi _ (vad _)]at h1;cases h1
   omega
  subst hiq
  have hoo:o'=o:=by
   have:=vac (λl=>l[0]?) hdr;simp only[List.getElem?_drop,Nat.add_zero,List.getElem?_cons_zero]at this;have h3:ops.toList[p+cO.length]?=ops[p+cO.length]?:=by simp
   rw[h3,ho]at this;cases this;rfl
  subst hoo
  have sb:rest=ops.toList.drop (p+cO.length+1):=by have:=vac (List.drop 1) hdr;simpa[List.drop_drop]using this.symm
  have hall:∀x,x<p+cO.length->at_ listed x=true:=λx hx=>closed hdn _ o' ho hri x (ED x hx)
  have e1:=mC (m:=at_ listed) (m':=tt) cO p s0.sl (λj hj=>hall _ (by omega))
  have e2:=oL (m:=at_ listed) (m':=tt) cO p s0.bx (λj hj=>hall _ (by omega))
  rw[e1,e2]at hF;rw[e2]at ex
  have next:∀(s1:St) (β':Nat->Nat) (w':World) (a':Act),pP (be P G) T G N ops.toList (cD ops.toList []) base s1.bx k' (p+cO.length+1) rest Q s1->Ext β0 aK w0 β' s1.bx w'->Fr G N ds β' w' X s1 a'->
   wpAny P .any ops (dB G N ds X β0 aK w0 Q) fuel (listed.setIfInBounds (p+cO.length) true) a' w':=by
   intro s1 β' w' a' h1 vo xX;obtain⟨Yt,k1,g1,g2,g3,g4⟩:=v8 _ _ _ _ h1;have hlen:rest.length=ops.size-(p+cO.length+1):=by rw[sb];simp
   have CG:∀j:Nat,rest[j]?=ops[p+cO.length+1+j]?:=by intro j;rw[sb];simp
   have XD:∀x,p+cO.length+1<=x->at_ (listed.setIfInBounds (p+cO.length) true) x=false:=by intro x hx;rw[we hil,if_neg (by omega)];exact hhi x (by omega)
   have f1:=CK (m:=at_ (listed.setIfInBounds (p+cO.length) true)) Yt (p+cO.length+1) s1.sl (λj _=>XD _ (by omega));have f2:=CL (m:=at_ (listed.setIfInBounds (p+cO.length) true)) Yt (p+cO.length+1) s1.bx (λj _=>XD _ (by omega))
   refine ih _ (p+cO.length+1) k' Yt s1 β' w' a' Vf aaB ?_ (λx hx=>XD x (by omega)) XC (by omega) g1 ?_ ?_ (by rw[f2];exact vo) (by rw[f1,f2];exact xX)
   .intro x hx;rw[we hil];by_cases hxq:x=p+cO.length
    .simp[hxq]
    rw[if_neg hxq];exact hall x (by omega)
   .intro j it hj;obtain⟨o2,q1,q2,q3,q4⟩:=g3 j it hj;exact⟨o2,by rw[<-CG];exact q1,q2,q3,q4⟩
   rcases g4 with⟨q1,q2⟩|⟨o2,aaF,q1,q2,q3,q4⟩
   .exact .inl ⟨by omega,q2⟩
   exact .inr ⟨k1,o2,aaF,by rw[sb,List.drop_drop]at q1;exact q1,q2,q3,q4⟩
  unfold pP at hop
  simp only[hd,cond_true,aaE]at hop
  unfold wpOp
  rw[ho]
  simp only
  split at hop
  .rename_i hg;rw[if_pos (by simp[Region.wanted,hg])];refine .inl (mA hT hF hop ?_ ?_)
   .intro β' aE w' v u qL oA hv hK;exact next ⟨eJ o'.dst v _,aE⟩ β' w' _ hK (ex.trans qL) (hF.put qL oA hd hv)
   intro β' aE w' v u qL oA hv hK;exact⟨β',aE,v,u,rfl,ex.trans qL,oA,hv,hF.defers,hF.kept,hK⟩
  rename_i j want hg
  split at hop
  .rename_i g Lo;have hy:=nh hF Lo
   cases g with
   |true=>
    rw[if_pos (by simp only[Region.wanted,hg];exact hy)];refine .inl (Aw hT hF hop ?_);rintro β' aE w' v u qL oA hv ⟨hK,rfl⟩;refine next ⟨eJ o'.dst (.cond true v) _,_⟩ β' w' _ hK (ex.trans qL) (hF.put qL oA hd ?_)
    simp only[ai];exact⟨λ_=>hv,by simp⟩
   |false=>
    rw[if_neg (by simp only[Region.wanted,hg];rw[hy];simp)];obtain⟨v,hK⟩:=Ct hop;refine next ⟨eJ o'.dst (.cond false v) _,_⟩ β w _ hK ex (hF.put (Ext.refl _ _ _) hF.cx hd ?_)
    simp only[ai];simp
  exact hop.elim
variable {β:Nat->Nat}{bx:List av}{w:World}
theorem rj{n i:Nat}{b:av}(h:(bx++List.replicate n .bJ)[i]?=some b):bx[i]?=some b∨b=.bJ:=by
 rcases Nat.lt_or_ge i bx.length with hl|hl
 .rw[vaz hl]at h;exact .inl h
 rw[vaF hl,List.getElem?_replicate]at h;split at h
 .exact .inr (by simpa using h.symm)
 cases h
theorem wh(n:Nat):Ext β bx w β (bx++List.replicate n .bJ) w:=by
 refine⟨rfl,rfl,rfl,vad _,λ_ _ _=>rfl,λ_ c _ _ h=>⟨c,h,rfl⟩,?_,?_⟩
 .rintro i ⟨b,h1,h2⟩;exact⟨rfl,b,by rw[vaz (kx h1)];exact h1,h2⟩
 intro i b h hl;rcases rj h with h1|rfl
 .exact .inr ⟨i,b,h1,hl,rfl⟩
 simp[av.live]at hl
theorem L3(cx:cB G β bx w X)(n:Nat):cB G β (bx++List.replicate n .bJ) w X:=by
 refine cx.step (wh n) ?_ ?_
 .intro i b h;rcases rj h with h1|rfl
  .exact .inl ⟨h1,λ_=>rfl⟩
  exact .inr hY
 intro i j bi bj hi hj pL sB he;rcases rj hi with h1|rfl<;>rcases rj hj with h2|rfl
 .exact cx.inj i j bi bj h1 h2 pL sB he
 .simp[av.live]at sB
 .simp[av.live]at pL
 simp[av.live]at pL
def lC(l l':List Oper):Prop:=l'.length=l.length/\∀(j:Nat) (o o':Oper),l[j]?=some o->l'[j]?=some o'->o'.op=o.op/\o'.dst=o.dst/\o'.guard=o.guard
theorem lC.tail {o o':Oper} {l l':List Oper} (h:lC (o::l) (o'::l')):lC l l':=⟨by simpa using h.1,λj p p' h1 h2=>h.2 (j+1) p p' (by simpa using h1) (by simpa using h2)⟩
theorem Ef{ops ops':List Oper}(h:lC ops ops')(sl:List (Nat×AV))(j:Nat)(want:Bool):guardOf sl ops' j want=guardOf sl ops j want:=by
 unfold guardOf;cases ho:ops[j]? with
 |none=>
  have:ops'[j]?=none:=by rw[List.getElem?_eq_none_iff]at ho ⊢;rw[h.1];exact ho
  rw[this]
 |some o=>
  have hj:j<ops'.length:=by rw[h.1];exact(List.getElem?_eq_some_iff.1 ho).1
  have:=h.2 j o ops'[j] ho (vaj hj);rw[vaj hj];simp only;rw[this.2.1]
theorem CM{FC:Nat->List AV->List av->eP->List av->Prop}{ops ops':List Oper}(hg0:lC ops ops'){b:List Nat}{base:Nat}{Q:Ex->St->Prop}:∀(l l':List Oper) (iT:List av) (k i:Nat) (s:St),lC l l'->pP FC T G N ops' b base iT k i l' Q s=pP FC T G N ops b base iT k i l Q s
 |[],[],_,_,_,_,_=>rfl|[],_::_,_,_,_,_,h=>by have:=h.1;simp at this|_::_,[],_,_,_,_,h=>by have:=h.1;simp at this|o::l,o'::l',iT,k,i,s,h=>by
  obtain⟨e1,e2,e3⟩:=h.2 0 o o' rfl rfl;have hb:jh T G s.sl o'=jh T G s.sl o:=by unfold jh;rw[e1,e3]
  have hu:∀s K Q,sM FC T G o' s K Q=sM FC T G o s K Q:=λs K Q=>by unfold sM;rw[e1]
  have hg:∀g s K,stepG FC T G g o' s K=stepG FC T G g o s K:=λg s K=>by unfold stepG zm;rw[e1]
  have hc:∀sl iT x K,nN FC G o' sl iT x K=nN FC G o sl iT x K:=λsl iT x K=>by unfold nN;rw[e1]
  have ih:=λiT k i s=>CM (FC:=FC) (ops:=ops) (ops':=ops') hg0 (b:=b) (base:=base) (Q:=Q) l l' iT k i s h.tail;simp only[pP,e2,e3,hb,hu,hg,hc,ih,Ef hg0]
theorem I3(pre:List Nat)(l:List Oper):lC l (bQ pre 0 l):=by refine⟨mh pre l 0,λj o o' h1 h2=>?_⟩;rw[oc,h1]at h2;simp only[vau,osI]at h2;subst h2;obtain⟨e1,e2,e3,_⟩:=kD pre (0+j) o;exact⟨e1,e2,e3⟩
theorem zF(a:Array Oper)(late:List Nat):∀(l:List Oper) (i j:Nat),(gU a late i l)[j]?=(l[j]?).map (mc a late (i+j))
 |[],_,_=>by simp[gU]|o::r,i,0=>by simp[gU]|o::r,i,j+1=>by simp only[gU,vaq];rw[zF a late r (i+1) j,show i+1+j=i+(j+1) by omega]
theorem rm(a:Array Oper)(late:List Nat):∀(l:List Oper) (i:Nat),(gU a late i l).length=l.length
 |[],_=>rfl|o::r,i=>by simp[gU,rm a late r]
theorem uH(a:Array Oper):∀(l:List Oper) (i:Nat),gU a [] i l=l
 |[],_=>rfl|o::r,i=>by simp only[gU,uH a r];simp[mc]
theorem L4(a:Array Oper)(late:List Nat)(l:List Oper):lC l (gU a late 0 l):=by refine⟨rm a late l 0,λj o o' h1 h2=>?_⟩;rw[zF,h1]at h2;simp only[vau,osI]at h2;subst h2;obtain⟨x,e⟩:=nt a late (0+j) o;rw[e];exact⟨rfl,rfl,rfl⟩
theorem lC.trans {l l' l'':List Oper} (h:lC l l') (g:lC l' l''):lC l l'':=by
 refine⟨g.1.trans h.1,λj o o'' h1 h2=>?_⟩;have hj:j<l'.length:=by rw[h.1];exact(List.getElem?_eq_some_iff.1 h1).1
 obtain⟨a1,a2,a3⟩:=h.2 j o l'[j] h1 (vaj hj);obtain⟨b1,b2,b3⟩:=g.2 j l'[j] o'' (vaj hj) h2;exact⟨b1.trans a1,b2.trans a2,b3.trans a3⟩
theorem rq(ops:Array Oper):∀(pre done:List Nat),iM ops done pre=true->pre.Nodup/\(∀p∈pre,p ∉ done)/\∀p∈pre,p<ops.size
 |[],_,_=>⟨List.nodup_nil,by simp,by simp⟩|p::r,done,h=>by
  unfold iM at h;cases ho:ops[p]? with
  |none=>simp[ho]at h|some o=>
   simp only[ho,vae]at h;obtain⟨⟨⟨⟨f1,_⟩,_⟩,_⟩,f5⟩:=h;obtain⟨g1,g2,g3⟩:=rq ops r _ f5;refine⟨List.nodup_cons.2 ⟨λhp=>g2 p hp (by simp),g1⟩,?_,?_⟩
   .intro q hq;rcases List.mem_cons.1 hq with rfl|hq
    .simpa using f1
    exact λhh=>g2 q hq (by simp[hh])
   intro q hq;rcases List.mem_cons.1 hq with rfl|hq
   .exact(Array.getElem?_eq_some_iff.1 ho).1
   exact g3 q hq
theorem I4(t u:Nat)(v:AV):∀l:List (Nat×AV),fK t (U0 u v l)=bif Nat.beq t u then v else fK t l
 |[]=>rfl|(s,x)::r=>by
  simp only[U0];cases h1:Nat.beq u s with
  |true=>have:=vaf h1;subst this;simp only[cond_true,fK];cases Nat.beq t u<;>rfl
  |false=>
   simp only[cond_false];cases h2:Nat.blt u s with
   |true=>rfl|false=>
    simp only[cond_false,fK];rw[I4 t u v r];cases h3:Nat.beq t s with
    |false=>simp|true=>
     have:=vaf h3;subst this;have:Nat.beq t u=false:=by
      cases h:Nat.beq t u with
      |false=>rfl|true=>have:=vaf h;subst this;rw[h]at h1;cases h1
     simp[this]
theorem CN(t:Nat):∀l:List (Nat×AV),fK t (F8 l)=fK t l
 |[]=>rfl|(u,v)::r=>by rw[F8,I4,CN t r];rfl
section
variable {N:Nat}{ds:Kp}{X:Nat->Prop}{β0:Nat->Nat}{aK:List av}{w0:World}
theorem tq(hT:jj P T){ops ops':Array Oper}{pre:List Nat}(HP:pX pre ops ops'){QQ:Exit->Act->World->Prop}{Q:Ex->St->Prop}{i:Nat}{KS:St->Prop}{NX:Act->World->Prop}{β:Nat->Nat}{w:World}{s:St}{a:Act}(ex:Ext β0 aK w0 β s.bx w)(hF:Fr G N ds β w X s a)
 (hp:∀β bx v u w a,Ext β0 aK w0 β bx w->cB G β bx w X->ai β bx w (bq β bx w X) v u->a.defers=ds.ds->(∀t,t<F2 N->a.tmps.getD t undef=ds.kp t)->Q (.panic v) ⟨[],bx⟩->QQ (.panic [{v:=u,recovered:=false}]) a w)
 (h:Al (be P G) T G N ops.toList i KS Q s) (hn:∀β w s a,Ext β0 aK w0 β s.bx w->Fr G N ds β w X s a->KS s->NX a w):wpOp P ops' QQ i NX a w:=by
 rw[wg HP];unfold Al at h;unfold wpOp;simp only[Array.getElem?_toList]at h;cases ho:ops[i]? with
 |none=>rw[ho]at h;exact h.elim|some o=>
  rw[ho]at h
  simp only at h ⊢
  cases hd:gr N o.dst with
  |false=>rw[hd]at h;exact h.elim|true=>
   rw[hd]at h
   simp only[cond_true]at h
   have zh:∀{s1:St},s1=s->RU G β s1.bx w X a (λv bx=>Q (.panic v) ⟨[],bx⟩) QQ:=λe β' aE w' v u qL oA hv hK=>by subst e;exact hp β' aE v u w' a (ex.trans qL) oA hv hF.defers hF.kept hK
   split at h
   .rename_i hg;rw[if_pos (by unfold Region.wanted;rw[hg])];exact .inl (mA hT hF h (λβ' aE w' v u qL oA hv hK=>hn β' w' ⟨eJ o.dst v s.sl,aE⟩ _ (ex.trans qL) (hF.put qL oA hd hv) hK) (zh rfl))
   rename_i j want hg
   split at h
   .rename_i g Lo;have hy:=nh hF Lo
    obtain⟨h⟩:=h;cases g with
    |true=>rw[if_pos (by simp only[Region.wanted,hg];exact hy)];refine .inl (mA hT hF (h.1 rfl) (λβ' aE w' v u qL oA hv hK=>hn β' w' ⟨eJ o.dst (.cond true v) s.sl,aE⟩ _ (ex.trans qL) (hF.put qL oA hd ?_) hK) (zh rfl));simp only[ai];exact⟨λ_=>hv,by simp⟩|false=>rw[if_neg (by simp only[Region.wanted,hg];rw[hy];simp)];refine hn β w ⟨eJ o.dst (.cond false .any) s.sl,s.bx⟩ _ ex (hF.put (Ext.refl _ _ _) hF.cx hd ?_) (h.2 rfl);simp only[ai];simp
   exact h.elim
theorem xY(hT:jj P T){ops ops':Array Oper}{pre:List Nat}(HP:pX pre ops ops'){R:St->Prop}{QQ:Exit->Act->World->Prop}{Q:Ex->St->Prop}
 (hp:∀β bx v u w a,Ext β0 aK w0 β bx w->cB G β bx w X->ai β bx w (bq β bx w X) v u->a.defers=ds.ds->(∀t,t<F2 N->a.tmps.getD t undef=ds.kp t)->Q (.panic v) ⟨[],bx⟩->QQ (.panic [{v:=u,recovered:=false}]) a w)
 (hR:∀β w s a,Ext β0 aK w0 β s.bx w->Fr G N ds β w X s a->R s->QQ .normal a w):∀(tr:OT) (n:Nat) (listed:Array Bool) (β:Nat->Nat) (w:World) (s:St) (a:Act),Ext β0 aK w0 β s.bx w->Fr G N ds β w X s a->
  Pj (be P G) T G N ops.toList Q R tr s->tr.depth<=n->
  (tr.fit ops' true listed=true->wpAny P .any ops' QQ n listed a w)/\
  (tr.fit ops' false listed=true->∀i∈tr.NW,wpOp P ops' QQ i (wpAny P .any ops' QQ (n-1) (listed.setIfInBounds i true)) a w)
 |.done,n,listed,β,w,s,a,ex,hF,h,_=>by refine⟨λhf=>?_,λ_ i hi=>by cases hi⟩;simp only[OT.fit,Bool.not_true,Bool.false_or]at hf;exact wpAny_done (List.isEmpty_iff.1 hf) (hR β w s a ex hF h) n|.one i o,n,listed,β,w,s,a,ex,hF,h,hd=>by
  simp only[OT.depth]at hd;obtain⟨m,rfl⟩:∃m,n=m+1:=⟨n-1,by omega⟩;have key:o.fit ops' true (listed.setIfInBounds i true)=true->wpOp P ops' QQ i (wpAny P .any ops' QQ m (listed.setIfInBounds i true)) a w:=λhf=>
   tq hT HP ex hF hp h λβ w s a ex hF hK=>(xY hT HP hp hR o m _ β w s a ex hF hK (by omega)).1 hf
  refine⟨λhf=>?_,λhf j hj=>?_⟩
  .simp only[OT.fit,Bool.not_true,Bool.false_or,vae,vaC]at hf;exact wpAny_all hf.1 (by simp) λj hj=>by simp at hj;subst hj;exact key hf.2
  simp only[OT.fit,Bool.not_false,Bool.true_or,Bool.true_and]at hf;simp only[OT.NW,vaL]at hj;subst hj;exact key hf
 |.more i o r,n,listed,β,w,s,a,ex,hF,h,hd=>by
  simp only[OT.depth]at hd;obtain⟨m,rfl⟩:∃m,n=m+1:=⟨n-1,by omega⟩;have key:o.fit ops' true (listed.setIfInBounds i true)=true->wpOp P ops' QQ i (wpAny P .any ops' QQ m (listed.setIfInBounds i true)) a w:=λhf=>
   tq hT HP ex hF hp h.1 λβ w s a ex hF hK=>(xY hT HP hp hR o m _ β w s a ex hF hK (by omega)).1 hf
  have rest:=(xY hT HP hp hR r (m+1) listed β w s a ex hF h.2 (by omega)).2;refine⟨λhf=>?_,λhf j hj=>?_⟩
  .simp only[OT.fit,Bool.not_true,Bool.false_or,vae,vaC]at hf;refine wpAny_all hf.1 (by simp) λj hj=>?_;rcases List.mem_cons.1 hj with rfl|hj
   .exact key hf.2.1
   exact rest hf.2.2 j hj
  simp only[OT.fit,Bool.not_false,Bool.true_or,Bool.true_and,vae]at hf;rcases List.mem_cons.1 hj with rfl|hj
  .exact key hf.1
  exact rest hf.2 j hj
end
theorem I5(hT:jj P T)(hm:P.follows .mixedOrders=true){N:Nat}{ds:Kp}{X:Nat->Prop}{β0:Nat->Nat}{aK:List av}{w0:World}{id:Nat}{fj:Array Oper}{Q:Ex->St->Prop}{β:Nat->Nat}{w:World}{s:St}{a:Act}(ex:Ext β0 aK w0 β s.bx w)(hF:Fr G N ds β w X s a)(hlo:Lt N fj.toList=true)
 (h:Xp (be P G) T G N fj.toList Q s):(Code.region id fj true).wp P (dB G N ds X β0 aK w0 Q) a w:=by
 obtain⟨pre,tr,s1,⟨Pp,N4,hp3⟩,hft,hx,hpost⟩:=h;unfold OT.fits at hft;rw[vae]at hft;simp only[Array.length_toList]at hft;refine wp_region_any hm ?_;have HP:pX pre fj (bQ pre 0 fj.toList).toArray:=by intro j;simp[oc]
 have hsame:=fY w;have ru:Fr G N ds β {w with drawn:=w.drawn+1} X s a:=⟨sN hF.cx hsame,hF.defers,hF.size,hF.kept,λt=>ai.mono ((kg hsame).dL X) _ _ (hF.sW t)⟩
 have hgoal:=(xY (X:=X) hT HP (QQ:=dB G N ds X β0 aK w0 Q) (λβ bx v u w a ex cx hv hd hk hq=>⟨β,bx,v,u,rfl,ex,cx,hv,hd,hk,hq⟩) (λβ w s a ex hF hR=>by
  cases s1 with
  |none=>exact hR.elim|some s1=>
  simp only[atEnd]at hR;subst hR;exact⟨β,⟨F8 s.sl,s.bx⟩,ex,hF.IT λt=>(CN t s.sl).symm,hpost⟩) tr fj.size (Array.replicate fj.size false) β _ s a (ex.trans (kg hsame)) ru hx (Nat.le_of_ble_eq_true hft.1)).1 hft.2
 have R9:iM fj [] pre=true:=by simpa using Pp
 have Vt:∀(i:Nat) (o:Oper),fj[i]?=some o->∀t,o.dst=some t->F2 N<=t:=λi o ho t ht=>HV hlo (Array.mem_toList_iff.2 (Array.mem_of_getElem? ho)) ht;obtain⟨n1,n2,n3⟩:=rq _ _ _ R9;have hle:pre.length<=fj.size:=by have:=List.Nodup.length_le_of_subset n1 (λp hp=>List.mem_range.2 (n3 p hp):pre ⊆ List.range fj.size);simpa using this
 obtain⟨fuel,hfuel⟩:∃fuel,fj.size=pre.length+fuel:=⟨fj.size-pre.length,by omega⟩;rw[hfuel]at hgoal ⊢;have CG:∀p,p<pre.length+fuel->(Array.replicate (pre.length+fuel) false).getD p true=false:=by intro p hp;simp[hp]
 refine zD (G:=G) (N:=N) HP (by simpa using N4) Vt ?_ fuel _ pre [] _ a s.sl R9 hp3 ?_ hF.size (by simp) (λp hp _=>CG p (by have:=n3 p hp;omega)) (λp hp=>.inr hp) (λp hp=>hp) (by simp[hfuel]) n1 hgoal
 .intro c a a' w ha hk hq;simp only[dB]at hq ⊢;obtain⟨β,bx,v,u,h1,h2,h3,h4,h5,h6,h7⟩:=hq;exact⟨β,bx,v,u,h1,h2,h3,h4,ha.symm.trans h5,λt ht=>(hk t ht).symm.trans (h6 t ht),h7⟩
 intro t k z hk;have:=hF.sW t
 rw[hk]at this;simpa only[ai,aP]using this
section
variable {P:Program}{T:Nat->Option TI}{G:Nat->Option (List D)}{N:Nat}{ds:Kp}{X:Nat->Prop}
variable {β0:Nat->Nat}{aK:List av}{w0:World}
theorem Sa:∀{l m:List Bool},Z8 l m=true->l=m
 |[],[],_=>rfl|a::l,b::m,h=>by simp only[Z8,vae,vaC]at h;rw[h.1,Sa h.2]|[],_::_,h=>by simp[Z8]at h|_::_,[],h=>by simp[Z8]at h
theorem I6{k i:Nat}:∀{l:List (Nat×Nat)},Rt k i l=true->(k,i)∈l
 |[],h=>by simp[Rt]at h|(p,j)::r,h=>by
  simp only[Rt,vaB,vae,Nat.beq_eq]at h;rcases h with⟨rfl,rfl⟩|h
  .exact List.mem_cons_self ..
  exact List.mem_cons_of_mem _ (I6 h)
theorem Gu{ops:Array Oper}{pl:List Nd}{z:Nat}:∀{l:List Nd} {k j:Nat} {nd:Nd},Ru ops pl z k l=true->l[j]?=some nd->
 (Region.ready .any ops nd.ls.toArray=[]/\k+j=z)∨(Region.ready .any ops nd.ls.toArray≠[]/\∀i∈Region.ready .any ops nd.ls.toArray,i<nd.ls.length/\nd.ls[i]?=some false/\∃e∈pl,e.ls=nd.ls.set i true/\(k+j,i)∈e.ps)
 |[],_,_,_,_,h=>by simp at h|x::l,k,0,nd,h,hj=>by
  simp only[List.getElem?_cons_zero,osI]at hj;subst hj;simp only[Ru,vae]at h;have h:=h.1
  split at h
  .rename_i g;exact .inl ⟨g,by simpa using vaf h⟩
  rename_i rs g;refine .inr ⟨λe=>g e,λi hi=>?_⟩;have:=List.all_eq_true.1 h i hi
  simp only[vae,vaC,vaM]at this;obtain⟨⟨h1,h2⟩,e,he,h3,h4⟩:=this;have h1:i<x.ls.length:=Nat.le_of_ble_eq_true h1
  refine⟨h1,?_,e,he,Sa h3,I6 h4⟩;rw[vam,vaj h1]at h2;rw[vaj h1];simpa using h2
 |x::l,k,j+1,nd,h,hj=>by
  simp only[vaq]at hj;simp only[Ru,vae]at h;have:=Gu h.2 hj
  rw[show k+(j+1)=k+1+j by omega];exact this
theorem I7{FC:Nat->List AV->List av->eP->List av->Prop}{ops:List Oper}{Q:Ex->St->Prop}{S:List St}{s s0:St}{p i:Nat}:∀{l:List (Nat×Nat)},H7 FC T G N ops Q S s l->(p,i)∈l->S[p]?=some s0->Al FC T G N ops i (λs1=>(⟨F8 s1.sl,s1.bx⟩:St)=s) Q s0
 |[],_,h,_=>by simp at h|(q,j)::r,h,hm,hs=>by
  rcases List.mem_cons.1 hm with e|hm
  .obtain⟨rfl,rfl⟩:=Prod.mk.inj e;have:=h.1
   rw[hs]at this;exact this
  exact I7 h.2 hm hs
theorem Of{FC:Nat->List AV->List av->eP->List av->Prop}{ops:List Oper}{Q:Ex->St->Prop}{S:List St}:∀{l:List Nd} {k j:Nat} {nd:Nd},allM FC T G N ops Q S k l->l[j]?=some nd->∃s,S[k+j]?=some s/\H7 FC T G N ops Q S s nd.ps
 |[],_,_,_,_,h=>by simp at h|x::l,k,0,nd,h,hj=>by
  simp only[List.getElem?_cons_zero,osI]at hj;subst hj;have:=h.1
  split at this
  .rename_i s g;exact⟨s,g,this⟩
  exact this.elim
 |x::l,k,j+1,nd,h,hj=>by simp only[vaq]at hj;obtain⟨s,g1,g2⟩:=Of h.2 hj;exact⟨s,by rw[<-g1];congr 1;omega,g2⟩
theorem wi:∀{l:List Bool} {i:Nat},l[i]?=some false->(l.set i true).count false+1=l.count false
 |[],_,h=>by simp at h|a::l,0,h=>by simp only[List.getElem?_cons_zero,osI]at h;subst h;simp|a::l,i+1,h=>by
  simp only[vaq]at h;have:=wi h
  simp only[List.set_cons_succ,List.count_cons];omega
theorem Sb(hT:jj P T){ops:Array Oper}{pl:List Nd}{S:List St}{QQ:Exit->Act->World->Prop}{Q:Ex->St->Prop}(HP:pX [] ops ops)(hfit:H6 ops pl=true)
 (hp:∀β bx v u w a,Ext β0 aK w0 β bx w->cB G β bx w X->ai β bx w (bq β bx w X) v u->a.defers=ds.ds->(∀t,t<F2 N->a.tmps.getD t undef=ds.kp t)->Q (.panic v) ⟨[],bx⟩->QQ (.panic [{v:=u,recovered:=false}]) a w)
 (hm:allM (be P G) T G N ops.toList Q S 1 pl)
 (hR:∀β w s a,Ext β0 aK w0 β s.bx w->Fr G N ds β w X s a->S[pl.length]?=some s->QQ .normal a w):∀(n k:Nat) (nd:Nd) (s:St) (β:Nat->Nat) (w:World) (a:Act),
  (⟨List.replicate ops.size false,[]⟩::pl:List Nd)[k]?=some nd->S[k]?=some s->Ext β0 aK w0 β s.bx w->Fr G N ds β w X s a->nd.ls.count false<=n->wpAny P .any ops QQ n nd.ls.toArray a w:=by
 intro n
 induction n with
 |zero=>
  intro k nd s β w a hk hs ex hF hc
  rcases Gu hfit hk with⟨h1,h2⟩|⟨h1,h2⟩
  .rw[Nat.zero_add]at h2;subst h2;exact wpAny_done h1 (hR β w s a ex hF hs) 0
  exfalso
  obtain⟨i,hi⟩:=List.exists_mem_of_ne_nil _ h1
  have:=wi (h2 i hi).2.1
  omega
 |succ n ih=>
  intro k nd s β w a hk hs ex hF hc
  rcases Gu hfit hk with⟨h1,h2⟩|⟨h1,h2⟩
  .rw[Nat.zero_add]at h2;subst h2;exact wpAny_done h1 (hR β w s a ex hF hs) (n+1)
  refine wpAny_all rfl h1 λi hi=>?_
  obtain⟨g1,g2,e,he,g3,g4⟩:=h2 i hi
  rw[Nat.zero_add]at g4
  obtain⟨j,hj⟩:=List.getElem?_of_mem he
  obtain⟨s',q1,q2⟩:=Of hm hj
  have hst:=I7 q2 g4 hs
  refine tq hT HP ex hF hp hst λβ w s1 a ex hF hK=>?_
  subst hK
  have:=ih (1+j) e ⟨F8 s1.sl,s1.bx⟩ β w a (by rw[Nat.add_comm];simpa using hj) q1 ex (hF.IT λt=>(CN t s1.sl).symm) (by rw[g3];have:=wi g2;omega)
  rw[g3]at this
  simpa using this
theorem ES(ks:List Nat)(t:Nat):∀l:List (Nat×AV),fK t (Am ks l)=bif ks.contains t then fK t l else .any
 |[]=>by simp[Am,fK]|(u,v)::r=>by
  have ih:=ES ks t r;simp only[Am];cases h:Nat.beq t u with
  |true=>
   have:=vaf h;subst this;cases hk:ks.contains t with
   |true=>simp[fK]|false=>rw[cond_false,ih,hk];rfl
  |false=>
   cases hk:ks.contains u with
   |true=>simp only[cond_true,fK,h,cond_false];exact ih|false=>simp only[cond_false,fK,h];exact ih
theorem Fr.few {N:Nat} {ds:Kp} {X:Nat->Prop} {β:Nat->Nat} {w:World} {s:St} {a:Act} (hF:Fr G N ds β w X s a) (ks:List Nat):Fr G N ds β w X ⟨Am ks s.sl,s.bx⟩ a:=
 ⟨hF.cx,hF.defers,hF.size,hF.kept,λt=>by
  simp only[ES];cases ks.contains t with
  |true=>exact hF.sW t|false=>simp only[cond_false,ai]⟩
theorem I8(hT:jj P T)(hm:P.follows .mixedOrders=true){id:Nat}{fj:Array Oper}{Q:Ex->St->Prop}{β:Nat->Nat}{w:World}{s:St}{a:Act}(ex:Ext β0 aK w0 β s.bx w)(hF:Fr G N ds β w X s a)
 (h:Xq (be P G) T G N fj.toList Q s):(Code.region id fj true).wp P (dB G N ds X β0 aK w0 Q) a w:=by
 obtain⟨pl,S,s1,s0,h1,⟨h2,h0⟩,h3,h4,h5⟩:=h;obtain⟨eb,hF⟩:s0.bx=s.bx/\Fr G N ds β w X s0 a:=by
  rcases h0 with rfl|⟨ks,rfl⟩
  .exact⟨rfl,hF⟩
  exact⟨rfl,hF.few ks⟩
 rw[<-eb]at ex;clear h0 eb;refine wp_region_any hm ?_;have h1:H6 fj pl=true:=by simpa using h1
 have HP:pX [] fj fj:=by
  have:pX [] fj (bQ [] 0 fj.toList).toArray:=by intro j;simp[oc]
  rwa[ri]at this
 have hsame:=fY w;have ru:Fr G N ds β {w with drawn:=w.drawn+1} X s0 a:=⟨sN hF.cx hsame,hF.defers,hF.size,hF.kept,λt=>ai.mono ((kg hsame).dL X) _ _ (hF.sW t)⟩
 have:=Sb (X:=X) hT HP (QQ:=dB G N ds X β0 aK w0 Q) h1 (λβ bx v u w a ex cx hv hd hk hq=>⟨β,bx,v,u,rfl,ex,cx,hv,hd,hk,hq⟩) h4 (λβ w s a ex hF hR=>by rw[h3]at hR;cases hR;exact⟨β,s1,ex,hF,h5⟩) fj.size 0 ⟨List.replicate fj.size false,[]⟩ s0 β _ a rfl h2 (ex.trans (kg hsame)) ru (by simp[List.count_replicate]);simpa using this
end
theorem Vu(hT:jj P T)(hm:P.follows .mixedOrders=true):jF P T G:=by
 intro N ds X β0 aK w0 id fj Q β w s a ex hF hlo h;rcases h with h|h|h
 .exact I5 hT hm ex hF hlo h
 .exact I8 hT hm ex hF h
 obtain⟨pre,late,hpre,⟨hfit⟩,aaH⟩:=h;refine wp_region_any hm ?_;obtain⟨I9,Og⟩:∃ops:Array Oper,ops=(bQ pre 0 fj.toList).toArray:=⟨_,rfl⟩;obtain⟨ops,Bo⟩:∃ops:Array Oper,ops=(gU I9 late 0 (bQ pre 0 fj.toList)).toArray:=⟨_,rfl⟩;have aaI:I9.size=fj.size:=by rw[Og];simp[mh]
 have hsz:ops.size=fj.size:=by rw[Bo];simp[rm,mh]
 have HP:pX pre fj I9:=by intro j;rw[Og];simp[oc]
 have hla:I2 late I9 ops:=by intro j;rw[Bo];simp only[List.getElem?_toArray,zF,Nat.zero_add];rw[Og];simp
 have hl:ops.toList=gU I9 late 0 (bQ pre 0 fj.toList):=by rw[Bo]
 rw[<-Og]at hfit aaH hpre;have hal:lC fj.toList (gU I9 late 0 (bQ pre 0 fj.toList)):=(I3 pre _).trans (L4 _ _ _)
 have hop:=aaH;rw[<-CM hal _ _ _ _ _ _ hal]at hop;rw[<-hl]at hfit hop;have hQQ:∀c (a a':Act) w,a.defers=a'.defers->(∀t,t<F2 N->a.tmps.getD t undef=a'.tmps.getD t undef)->dB G N ds X β0 aK w0 Q (.panic c) a w->dB G N ds X β0 aK w0 Q (.panic c) a' w:=by intro c a a' w ha hk hq;simp only[dB]at hq ⊢;obtain⟨β,bx,v,u,h1,h2,h3,h4,h5,h6,h7⟩:=hq;exact⟨β,bx,v,u,h1,h2,h3,h4,ha.symm.trans h5,λt ht=>(hk t ht).symm.trans (h6 t ht),h7⟩
 have Vt:∀(i:Nat) (o:Oper),fj[i]?=some o->∀t,o.dst=some t->F2 N<=t:=λi o ho t ht=>HV hlo (Array.mem_toList_iff.2 (Array.mem_of_getElem? ho)) ht;have adm:∀(i:Nat) (o:Oper),I9[i]?=some o->∀t,o.dst=some t->F2 N<=t:=by
  intro i o ho t ht;rw[HP i]at ho;cases h0:fj[i]? with
  |none=>rw[h0]at ho;cases ho
  |some o0=>rw[h0]at ho;simp only[vau,osI]at ho;refine Vt i o0 h0 t ?_;rw[<-ht,<-ho];exact(kD _ _ _).2.1.symm
 suffices hgoal:wpAny P .any ops (dB G N ds X β0 aK w0 Q) fj.size (Array.replicate fj.size false) a {w with drawn:=w.drawn+1} by
  rcases hpre with⟨rfl,rfl⟩|⟨Pp,N4,oB,hp3⟩
  .have e:ops=fj:=by rw[Bo,uH,ri]
   rw[e]at hgoal;exact hgoal
  have R9:iM fj [] pre=true:=by simpa using Pp
  have adn:m0 I9=true:=by
   have aaJ:m0 fj=true:=by simpa using N4
   rw[m0,Array.all_eq_true_iff_forall_mem]at aaJ ⊢;intro o ho;obtain⟨j,hj⟩:=Array.getElem?_of_mem ho;rw[HP j]at hj;cases h0:fj[j]? with
   |none=>rw[h0]at hj;cases hj
   |some o0=>rw[h0]at hj;simp only[vau,osI]at hj;rw[<-hj,(kD pre j o0).1];exact aaJ o0 (Array.mem_of_getElem? h0)
  have hgoal:=Py hla oB adn adm hQQ _ _ _ _ (by simp[aaI]) hgoal;obtain⟨n1,n2,n3⟩:=rq _ _ _ R9;have hle:pre.length<=fj.size:=by have:=List.Nodup.length_le_of_subset n1 (λp hp=>List.mem_range.2 (n3 p hp):pre ⊆ List.range fj.size);simpa using this
  obtain⟨fuel,hfuel⟩:∃fuel,fj.size=pre.length+fuel:=⟨fj.size-pre.length,by omega⟩;rw[hfuel]at hgoal ⊢;have CG:∀p,p<pre.length+fuel->(Array.replicate (pre.length+fuel) false).getD p true=false:=by intro p hp;simp[hp]
  refine zD (G:=G) (N:=N) HP (by simpa using N4) Vt hQQ fuel _ pre [] _ a s.sl R9 hp3 ?_ hF.size (by simp) (λp hp _=>CG p (by have:=n3 p hp;omega)) (λp hp=>.inr hp) (λp hp=>hp) (by simp[hfuel]) n1 hgoal;intro t k z hk;have:=hF.sW t
  rw[hk]at this;simpa only[ai,aP]using this
 rw[<-hsz];have aaK:gP ops (cD ops.toList []) 0 ops.toList=true:=by simpa using hfit
 obtain⟨cO,k',g1,g2,g3,g4⟩:=v8 _ _ _ _ hop;have XD:∀x,at_ (Array.replicate ops.size false) x=false:=by intro x;unfold at_;rcases Nat.lt_or_ge x ops.size with h|h<;>simp[h]
 have hsame:=fY w;have f1:=CK (m:=at_ (Array.replicate ops.size false)) cO 0 s.sl (λj _=>XD _)
 have f2:=CL (m:=at_ (Array.replicate ops.size false)) cO 0 (s.bx++List.replicate (qP fj.toList) .bJ) (λj _=>XD _);refine R8 hT aaK ops.size _ 0 0 cO ⟨s.sl,s.bx++List.replicate (qP fj.toList) .bJ⟩ β _ a (by simp) ?_ (λx hx=>by omega) (λx _=>XD x) ?_ (by simpa using g2) g1 ?_ ?_ ?_ ?_
 .intro x o _ hx;rw[XD]at hx;cases hx
 .simp
 .intro j it hj;obtain⟨o,q1,q2,q3,q4⟩:=g3 j it hj;exact⟨o,by simpa using q1,q2,q3,q4⟩
 .rcases g4 with⟨q1,q2⟩|⟨o,rest,q1,q2,q3,q4⟩
  .exact .inl ⟨by simpa using q1,q2⟩
  exact .inr ⟨k',o,rest,by simpa using q1,q2,q3,q4⟩
 .rw[f2];exact(ex.trans (wh _)).trans (kg hsame)
 rw[f1,f2];have c1:=sN (L3 hF.cx (qP fj.toList)) hsame
 refine⟨c1,hF.defers,hF.size,hF.kept,λt=>?_⟩;exact ai.mono (((wh (qP fj.toList)).trans (kg hsame)).dL X) _ _ (hF.sW t)
end
end Dem
end
section
open Go
namespace Dem
abbrev Th:=(α:Type)->(Unit->α)->α
def t0:Th:=λ_ f=>f ()
section
variable (t:Th)
def AV.Vv (bx:List av):AV->Option (Prop×D)
 |.d x=>some (True,x)|.cl es=>some (True,.sl es)|.fn f []=>some (True,.fn f)|.ow b sz n=>match bx[b]? with
  |some (.row s es)=>bif Nat.beq s sz then some (t Prop (λ_=>n=es.length),.sl es)else none|some (.mr s es)=>bif Nat.beq s sz then some (t Prop (λ_=>n=es.length),.sl es)else none|_=>none
 |_=>none
def CO(bx:List av):List AV->Option (Prop×List D)
 |[]=>some (True,[])|x::xs=>match x.Vv t bx,CO bx xs with
  |some (c,y),some (d,ys)=>some (c/\d,y::ys)|_,_=>none
def AV.AG (bx:List av):AV->Option (Prop×List (List D))
 |.d (.sl es)=>some (True,es)|.cl es=>some (True,es)|.ow b sz n=>match bx[b]? with
  |some (.row s es)=>bif Nat.beq s sz then some (t Prop (λ_=>n=es.length),es)else none|some (.mr s es)=>bif Nat.beq s sz then some (t Prop (λ_=>n=es.length),es)else none|_=>none
 |.vw b sz off n _ _=>match bx[b]? with
  |some (.row s es)=>bif Nat.beq s sz then some (t Prop (λ_=>off+n<=es.length),t _ λ_=>(es.drop off).take n)else none|some (.mr s es)=>bif Nat.beq s sz then some (t Prop (λ_=>off+n<=es.length),t _ λ_=>(es.drop off).take n)else none|_=>none
 |_=>none
def loadT(ti:TI)(a:AV)(bx:List av):Option R:=
 match a with
 |.ptr b off=>match bx[b]? with
  |some (.var cs)=>match cQ ti.kd.isAgg ti.size (cs.drop off)with
   |some v=>R.pure v|none=>none
  |_=>none
 |.ep ds=>match cQ ti.kd.isAgg ti.size (ds.map .d)with
  |some v=>R.pure v|none=>none
 |_=>none
def rowAt(a:AV)(bx:List av):Option (Prop×List D×Nat):=
 match a with
 |.rp b sz i j=>match bx[b]? with
  |some (.row s es)=>bif Nat.beq s sz then some (t Prop (λ_=>i<es.length),t _ (λ_=>es.getD i []),j)else none|some (.mr s es)=>bif Nat.beq s sz then some (t Prop (λ_=>i<es.length),t _ (λ_=>es.getD i []),j)else none|_=>none
 |_=>none
def storeT(ti:TI)(a v:AV)(bx:List av):Option R:=
 match v.cells? with
 |none=>none|some vs=>bif Nat.beq vs.length ti.size then
  match a with
  |.ptr b off=>match bx[b]? with
   |some (.var cs)=>bif Nat.ble (off+vs.length) cs.length then some ⟨True,.any,some (bx.set b (.var (fm cs off vs)))⟩else none|_=>none
  |.rp b sz i j=>match CO t bx vs with
   |some (c,ds)=>match(eW bx vs)[b]? with
    |some (.row s es)=>bif Nat.beq s sz then some ⟨c/\t Prop (λ_=>i<es.length/\j+ds.length<=(es.getD i []).length),.any,
     some ((eW bx vs).set b (.row s (t _ (λ_=>es.set i (bP (es.getD i []) j ds)))))⟩else none
    |_=>none
   |none=>none
  |_=>none
  else none
def XE(op:BinOp)(k:IntKind)(x y:Int):Option (Prop×D):=
 match op with
 |.add=>some (True,.int k (t _ λ_=>k.wrap (x+y)))|.sub=>some (True,.int k (t _ λ_=>k.wrap (x-y)))|.mul=>some (True,.int k (t _ λ_=>k.wrap (x*y)))|.quo=>some (t Prop λ_=>y≠0,.int k (t _ λ_=>k.wrap (x.tdiv y)))|.rem=>some (t Prop λ_=>y≠0,.int k (t _ λ_=>x.tmod y))|.and=>some (True,.int k (t _ λ_=>k.wrap (BitVec.ofInt k.bits x &&& BitVec.ofInt k.bits y).toNat))|.or=>some (True,.int k (t _ λ_=>k.wrap (BitVec.ofInt k.bits x ||| BitVec.ofInt k.bits y).toNat))|.xor=>some (True,.int k (t _ λ_=>k.wrap (BitVec.ofInt k.bits x ^^^ BitVec.ofInt k.bits y).toNat))|.andNot=>some (True,.int k (t _ λ_=>k.wrap (BitVec.ofInt k.bits x &&& ~~~(BitVec.ofInt k.bits y)).toNat))|.eql=>some (True,.bool (t _ λ_=>decide (x=y)))|.neq=>some (True,.bool (t _ λ_=>!decide (x=y)))|.lss=>some (True,.bool (t _ λ_=>decide (x<y)))|.leq=>some (True,.bool (t _ λ_=>decide (x<=y)))|.gtr=>some (True,.bool (t _ λ_=>decide (y<x)))|.geq=>some (True,.bool (t _ λ_=>decide (y<=x)))|_=>none
def XF(op:BinOp)(x y:List UInt8):Option (Prop×D):=
 match op with
 |.add=>some (t Prop λ_=>x.length+y.length<=9223372036854775807,.str (t _ λ_=>x++y))|.eql=>some (True,.bool (t _ λ_=>decide (x=y)))|.neq=>some (True,.bool (t _ λ_=>!decide (x=y)))|.lss=>some (True,.bool (t _ λ_=>Op.bytesLess x y))|.leq=>some (True,.bool (t _ λ_=>Op.bytesLess x y||decide (x=y)))|.gtr=>some (True,.bool (t _ λ_=>!(Op.bytesLess x y||decide (x=y))))|.geq=>some (True,.bool (t _ λ_=>!Op.bytesLess x y))|_=>none
def Sc(op:BinOp)(x y:AV):Option (Prop×D):=
 match op,x,y with
 |.shl,.d (.int k x),.d (.int _ y)=>some (t Prop λ_=>0<=y,.int k (t _ λ_=>k.wrap (x*2^(min y.toNat k.bits))))|.shr,.d (.int k x),.d (.int _ y)=>some (t Prop λ_=>0<=y,.int k (t _ λ_=>x.fdiv (2^(min y.toNat k.bits))))|op,.d (.int k x),.d (.int k' y)=>bif k==k' then XE t op k x y else none|op,.d (.str x),.d (.str y)=>XF t op x y|_,_,_=>none
def L5(T:Nat->Option TI):Nat->Nat->AV->AV->Option Bool
 |0,_,_,_=>none|n+1,ty,x,y=>match T ty with
  |none=>none|some ti=>match ti.kd,x,y with
   |.int _,.d (.int j a),.d (.int k b)=>bif j==k then some (t _ λ_=>decide (a=b))else none|.bool,.d (.bool a),.d (.bool b)=>some (t _ λ_=>a==b)|.str,.d (.str a),.d (.str b)=>some (t _ λ_=>decide (a=b))|.array len e,.agg xs,.agg ys=>match T e with
    |some te=>bif Nat.beq len 0 then none else(List.range len).foldr (λi acc=>match cQ te.kd.isAgg te.size (xs.drop (i*te.size)),cQ te.kd.isAgg te.size (ys.drop (i*te.size))with
     |some a,some b=>match L5 T n e a b,acc with
      |some p,some q=>some (t _ λ_=>p&&q)|_,_=>none
     |_,_=>none) (some true)
    |none=>none
   |.struct fs,.agg xs,.agg ys=>bif ti.eq then fs.foldr (λf acc=>match T f.2 with
    |some tf=>match cQ tf.kd.isAgg tf.size (xs.drop f.1),cQ tf.kd.isAgg tf.size (ys.drop f.1)with
     |some a,some b=>match L5 T n f.2 a b,acc with
      |some p,some q=>some (t _ λ_=>p&&q)|_,_=>none
     |_,_=>none
    |none=>none) (some true)else none
   |_,_,_=>none
def Gv(p:Bool):AV->AV->AV
 |.d (.bool x),.d (.bool y)=>.d (.bool (t _ λ_=>bif p then x else y))|.any,.d (.bool y)=>bif p then .any else .d (.bool y)|_,_=>.any
def Yu(op:UnOp)(x:AV):Option D:=
 match op,x with
 |.not,.d (.bool b)=>some (.bool (t _ λ_=>!b))|.neg,.d (.int k n)=>some (.int k (t _ λ_=>k.wrap (0-n)))|.xor,.d (.int k n)=>some (.int k (t _ λ_=>k.wrap (BitVec.ofInt k.bits (if k.signed then -1 else k.max) ^^^ BitVec.ofInt k.bits n).toNat))|_,_=>none
def L6(T:Nat->Option TI)(ty:Nat)(x:AV)(lo hi mx:Option Int)(bx:List av):Option R:=
 match T ty with
 |some ti=>match ti.kd,x,mx with
  |.str,.d (.str s),none=>some ⟨t Prop λ_=>b9 s.length lo hi,.d (.str (t _ λ_=>gZ s lo hi)),none⟩|.slice e,x,none=>match x.AG t bx,T e with
   |some (c,es),some te=>some ⟨c/\t Prop (λ_=>b9 es.length lo hi/\∀r∈es,r.length=te.size),.d (.sl (t _ λ_=>gZ es lo hi)),bif cN [x]then none else some (x.cE bx)⟩|_,_=>none
  |.slice e,x,some m=>match x.AG t bx,hi,T e with
   |some (c,es),some h,some te=>some ⟨c/\t Prop (λ_=>(b9 es.length lo (some h)/\m=h)/\∀r∈es,r.length=te.size),.cl (t _ λ_=>gZ es lo (some h)),bif cN [x]then none else some (x.cE bx)⟩|_,_,_=>none
  |.array n e,.ep ds,none=>match lo,hi,T e with
   |none,none,some te=>bif Nat.ble (n*te.size) ds.length then some ⟨True,.d (.sl (chunk te.size n ds)),none⟩else none|_,_,_=>none
  |.array n e,.ptr b 0,none=>match lo,hi,T e,bx[b]? with
   |none,none,some te,some (.var cs)=>match jV [] cs with
    |some ds=>bif Nat.ble (n*te.size) ds.length then some ⟨True,.d (.sl (chunk te.size n ds)),some (bx.set b .dead)⟩else none|none=>none
   |_,_,_,_=>none
  |_,_,_=>none
 |none=>none
def xZ(bx:List av)(size:Nat):List (Nat×AV)->Option (Prop×List (List D))
 |[]=>some (True,[])|(_,v)::r=>match v.cells? with
  |some vs=>match CO t bx vs,xZ bx size r with
   |some (c,ds),some (d,rs)=>bif Nat.beq ds.length size then some (c/\d,ds::rs)else none|_,_=>none
  |none=>none
def tv(T:Nat->Option TI)(ty n:Nat)(parts:List (Nat×AV))(bx:List av):Option R:=
 match T ty with
 |some ti=>match ti.kd with
  |.slice e=>match T e with
   |some te=>bif Nat.beq parts.length n&&oF 0 parts&&Nat.ble (n*te.size) 16777216&&te.zero.cells?.isSome then
    match xZ t bx te.size parts with
    |some (c,rs)=>some ⟨c,.cl rs,bif HW parts then none else some (ek bx parts)⟩|none=>none
    else none
   |none=>none
  |_=>none
 |none=>none
def CP(size:Nat)(x:AV)(bx:List av):Option (Prop×List (List D)):=
 match x with
 |.d (.str b)=>bif Nat.beq size 1 then some (True,t _ λ_=>b.map uo)else none|x=>x.AG t bx
def BG(T:Nat->Option TI)(ty:Nat)(s x:AV)(bx:List av):Option R:=
 match T ty with
 |some ti=>match ti.kd with
  |.slice e=>match T e with
   |some te=>bif fo te then
    match CP t te.size x bx with
    |some (c,xs)=>match s with
     |.cl es=>some ⟨c/\t Prop (λ_=>(es=[]∨xs≠[])/\(es.length+xs.length)*te.bytes<=140737488355328/\(∀r∈es++xs,r.length=te.size)),
      .ow bx.length te.size (t _ λ_=>es.length+xs.length),some (bx++[.row te.size (t _ λ_=>es++xs)])⟩
     |.ow b sz n=>match bx[b]? with
      |some (.row s2 es)=>bif sameBox b x||!(Nat.beq s2 sz&&Nat.beq sz te.size)then none else
       some ⟨c/\t Prop (λ_=>n=es.length/\(es.length+xs.length)*te.bytes<=140737488355328/\(∀r∈es++xs,r.length=te.size)),
       .ow bx.length te.size (t _ λ_=>es.length+xs.length),some ((bx.set b .dead)++[.row te.size (t _ λ_=>es++xs)])⟩
      |_=>none
     |_=>none
    |none=>none
    else none
   |none=>none
  |_=>none
 |none=>none
def Sd(T:Nat->Option TI)(src dst:Nat)(x:AV)(bx:List av):Option R:=
 match T src,T dst with
 |some ts,some td=>match ts.kd,td.kd,x with
  |_,.int k,.d (.int _ n)=>R.pure (.d (.int k (t _ λ_=>k.wrap n)))|.slice e,.str,x=>match T e,x.AG t bx with
   |some te,some (c,es)=>match te.kd with
    |.int .u8=>some ⟨c/\t Prop (λ_=>∀r∈es,nF r),.d (.str (t _ λ_=>es.map jY)),none⟩|_=>none
   |_,_=>none
  |.str,.str,.d (.str s)=>R.pure (.d (.str s))|_,_,_=>none
 |_,_=>none
def CQ(T:Nat->Option TI)(b:Builtin)(args:List AV)(ats:List Nat)(bx:List av):Option R:=
 match b,args,ats with
 |.len,[x],[ty]=>match T ty with
  |some ti=>match ti.kd,x with
   |.array n _,_=>R.pure (.d (.int .i64 n))|.str,.d (.str s)=>R.pure (.d (.int .i64 (t _ λ_=>s.length)))|.slice _,x=>match x.AG t bx with
    |some (c,es)=>some ⟨c,.d (.int .i64 (t _ λ_=>es.length)),none⟩|none=>none
   |_,_=>none
  |none=>none
 |.min,[.d (.int k x),.d (.int _ y)],_=>R.pure (.d (.int k (t _ λ_=>min x y)))|.max,[.d (.int k x),.d (.int _ y)],_=>R.pure (.d (.int k (t _ λ_=>max x y)))|.append,[s,x],[ty,u]=>match T u with
  |some tu=>match tu.kd with
   |.int _=>none|_=>BG t T ty s x bx
  |none=>none
 |_,_,_=>none
def CR(size:Nat)(y:AV)(n:Nat)(bx:List av):Option (Prop×Nat×List (List D)):=
 match y with
 |.vw b sz off n2 _ _=>match bx[b]? with
  |some (.row s es)=>bif Nat.beq s sz then some (t Prop (λ_=>off+min n2 n<=es.length),t _ (λ_=>min n2 n),t _ λ_=>(es.drop off).take (min n2 n))else none|some (.mr s es)=>bif Nat.beq s sz then some (t Prop (λ_=>off+min n2 n<=es.length),t _ (λ_=>min n2 n),t _ λ_=>(es.drop off).take (min n2 n))else none|_=>none
 |y=>match CP t size y bx with
  |some (c,xs)=>some (c,t _ (λ_=>min xs.length n),t _ λ_=>xs.take (min xs.length n))|none=>none
def Se(te:TI)(x y:AV)(bx:List av):Option R:=
 match viewAt x with
 |some (b,sz,off,n,_,_)=>match bx[b]?,CR t te.size y n bx with
  |some (.row s es),some (cy,m,xs)=>bif Nat.beq s sz&&Nat.beq sz te.size then
   some ⟨cy/\t Prop (λ_=>gj es off m/\∀r∈xs,r.length=te.size),.d (.int .i64 (t _ λ_=>(m:Int))),
    some (bx.set b (.row sz (t _ λ_=>wrote es off xs)))⟩else none
  |_,_=>none
 |none=>none
def Yv(te:TI)(x:AV)(bx:List av):Option R:=
 match viewAt x with
 |some (b,sz,off,n,_,_)=>match bx[b]?,oG te with
  |some (.row s es),some z=>bif Nat.beq s sz&&Nat.beq sz te.size&&fo te then
   some ⟨t Prop (λ_=>gj es off n),.c5 [],some (bx.set b (.row sz (t _ λ_=>wrote es off (List.replicate n z))))⟩else none
  |_,_=>none
 |none=>none
def aaL(te:TI)(b sz off n c:Nat)(ex:Bool)(m:Int)(bx:List av):Option R:=
 match bx[b]?,oG te with
 |some (.row s es),some z=>bif Nat.beq s sz&&Nat.beq sz te.size&&fo te&&ex then
  some ⟨t Prop (λ_=>0<=m/\c<n+m.toNat/\off+n<=es.length/\(n+m.toNat)*te.bytes<=140737488355328),
   .vw bx.length sz 0 (t _ λ_=>n+m.toNat) (t _ λ_=>n+m.toNat) false,some (bx++[.row sz (t _ λ_=>(es.drop off).take n++List.replicate m.toNat z)])⟩else none
 |_,_=>none
def Gw(te:TI)(b sz off n c:Nat)(ex:Bool)(y:AV)(bx:List av):Option R:=
 match bx[b]?,CP t te.size y bx with
 |some (.row s es),some (cy,xs)=>bif Nat.beq s sz&&Nat.beq sz te.size then
  some ⟨cy/\t Prop (λ_=>gj es (off+n) xs.length/\n+xs.length<=c/\∀r∈xs,r.length=te.size),.vw b sz off (t _ λ_=>n+xs.length) c ex,
   some (bx.set b (.row sz (t _ λ_=>wrote es (off+n) xs)))⟩else none
 |_,_=>none
def aaM(te:TI)(n m:Int)(bx:List av):Option R:=
 match oG te with
 |some z=>bif fo te then some ⟨t Prop (λ_=>0<=n/\n=m/\n.toNat*te.bytes<=140737488355328),.ow bx.length te.size (t _ λ_=>n.toNat),some (bx++[.row te.size (t _ λ_=>List.replicate n.toNat z)])⟩else none|none=>none
def Sf(T:Nat->Option TI)(ev:Operand->AV)(o:Op)(bx:List av):Option R:=
 match o with
 |.slice ty x lo hi mx=>match ev x,elemOf T ty,D9 ev lo,D9 ev hi,D9 ev mx with
  |.vw b sz off n c ex,some te,some l,some h,some none=>bif Nat.beq te.size sz then
   some ⟨t Prop (λ_=>eX n c l h),.vw b sz (t _ λ_=>off+bc l) (t _ λ_=>aY n h-bc l) (t _ λ_=>c-bc l) ex,none⟩else none
  |.vw b sz off n c ex,some te,some l,some (some h),some (some m)=>bif Nat.beq te.size sz then
   some ⟨t Prop (λ_=>b9 c l (some h)/\h<=m/\m<=c),.vw b sz (t _ λ_=>off+bc l) (t _ λ_=>h.toNat-bc l) (t _ λ_=>m.toNat-bc l) true,none⟩else none
  |_,_,_,_,_=>none
 |.indexAddr ty x i=>match ev x,elemOf T ty,ev i with
  |.vw b sz off n _ _,some te,.d (.int _ z)=>bif Nat.beq te.size sz then some ⟨t Prop (λ_=>0<=z/\z<n),.rp b sz (t _ λ_=>off+z.toNat) 0,none⟩else none|_,_,_=>none
 |.makeSlice ty a b=>match elemOf T ty,ev a,ev b with
  |some te,.d (.int .i64 n),.d (.int .i64 m)=>aaM t te n m bx|_,_,_=>none
 |.call {callee:=.builtin b,args,argTypes}=>match b,args.toList.map ev,argTypes.toList with
  |.len,[.vw _ _ _ n _ _],[ty]=>match elemOf T ty with
   |some _=>R.pure (.d (.int .i64 (t _ λ_=>n)))|none=>none
  |.cap,[.vw _ _ _ _ c true],[ty]=>match elemOf T ty with
   |some _=>R.pure (.d (.int .i64 (t _ λ_=>c)))|none=>none
  |.copy,[x,y],ty::_=>match elemOf T ty with
   |some te=>Se t te x y bx|none=>none
  |.clear,[x],ty::_=>match elemOf T ty with
   |some te=>Yv t te x bx|none=>none
  |.append,[.vw b sz off n c ex,y],[ty,u]=>match elemOf T ty,F4 T u with
   |some te,some true=>match y with
    |.d (.int .i64 m)=>aaL t te b sz off n c ex m bx|_=>none
   |some te,some false=>bif sameBox b y then Gw t te b sz off n c ex y bx else
    match bx[b]?,BG t T ty (.ow b sz n) y bx with
    |some (.row _ es),some ⟨c1,v,aE⟩=>some ⟨c1/\t Prop (λ_=>whole es off n c ex),v,aE⟩|_,_=>none
   |_,_=>none
  |_,_,_=>none
 |_=>none
def Eg(T:Nat->Option TI)(ev:Operand->AV)(o:Op)(bx:List av):Option R:=
 match o with
 |.move x=>R.pure (ev x)|.assign x=>R.pure (ev x)|.alloc ty=>match T ty with
  |some ti=>match ti.zero.cells? with
   |some cs=>some ⟨True,.ptr bx.length 0,some (bx++[.var cs])⟩|none=>none
  |none=>none
 |.box _ x=>match(ev x).cells? with
  |some cs=>some ⟨True,.ptr bx.length 0,some (bx++[.var cs])⟩|none=>none
 |.load ty a=>match T ty with
  |some ti=>loadT ti (ev a) bx|none=>none
 |.store ty a x=>match T ty with
  |some ti=>storeT t ti (ev a) (ev x) bx|none=>none
 |.build ty parts=>F3 T ty (parts.toList.map λp=>(p.1,ev p.2))|.buildSlice ty n parts=>tv t T ty n (parts.toList.map λp=>(p.1,ev p.2)) bx|.fieldAddr ty x f=>match T ty with
  |some ti=>match BT ti.kd f with
   |some (o,ft)=>match T ft with
    |some tf=>bif Nat.beq tf.size 0 then none else
     match ev x with
     |.ptr b off=>R.pure (.ptr b (off+o))|.rp b sz i j=>R.pure (.rp b sz i (j+o))|.ep ds=>bif Nat.ble o ds.length then R.pure (.ep (ds.drop o))else none|_=>none
    |none=>none
   |none=>none
  |none=>none
 |.indexAddr ty x i=>match T ty with
  |some ti=>match ti.kd,ev i with
   |.array n e,.d (.int _ z)=>match T e with
    |some te=>match ev x with
     |.ptr b off=>some ⟨t Prop λ_=>0<=z/\z<n,.ptr b (off+z.toNat*te.size),none⟩|.rp b sz a j=>some ⟨t Prop λ_=>0<=z/\z<n,.rp b sz a (j+z.toNat*te.size),none⟩|.ep ds=>some ⟨t Prop λ_=>0<=z/\z<n/\z.toNat*te.size<=ds.length,.ep (ds.drop (z.toNat*te.size)),none⟩|_=>none
    |none=>none
   |.slice e,.d (.int _ z)=>match T e,ev x with
    |some te,.ow b sz n=>bif Nat.beq te.size sz then some ⟨t Prop λ_=>0<=z/\z<n,.rp b sz (t _ λ_=>z.toNat) 0,none⟩else none|_,_=>none
   |_,_=>none
  |none=>none
 |.field ty x f=>match T ty with
  |some ti=>match BT ti.kd f with
   |some (o,ft)=>match T ft,ev x with
    |some tf,.agg cs=>match cQ tf.kd.isAgg tf.size (cs.drop o)with
     |some v=>R.pure v|none=>none
    |_,_=>none
   |none=>none
  |none=>none
 |.index ty x i=>match T ty with
  |some ti=>match ti.kd,ev x,ev i with
   |.str,.d (.str s),.d (.int _ z)=>some ⟨t Prop λ_=>0<=z/\z<s.length,.d (.int .u8 (t _ λ_=>(s.getD z.toNat 0).toNat)),none⟩|.array n e,.agg cs,.d (.int _ z)=>match T e with
    |some te=>match cQ te.kd.isAgg te.size (cs.drop (z.toNat*te.size))with
     |some v=>some ⟨t Prop λ_=>0<=z/\z<n,v,none⟩|none=>none
    |none=>none
   |_,_,_=>none
  |none=>none
 |.extract x i=>match ev x with
  |.c5 vs=>match vs[i]? with
   |some v=>R.pure v|none=>none
  |_=>none
 |.binOp op ty x y _=>match ev x,ev y with
  |.agg xs,.agg ys=>match op with
   |.eql=>(L5 t T 8 ty (.agg xs) (.agg ys)).bind λd=>R.pure (.d (.bool d))|.neq=>(L5 t T 8 ty (.agg xs) (.agg ys)).bind λd=>R.pure (.d (.bool (t _ λ_=>!d)))|_=>none
  |.d (.bool p),.d (.bool q)=>match T ty,op with
   |some ti,.eql=>match ti.kd with
    |.bool=>R.pure (.d (.bool (t _ λ_=>p==q)))|_=>none
   |some ti,.neq=>match ti.kd with
    |.bool=>R.pure (.d (.bool (t _ λ_=>!(p==q))))|_=>none
   |_,_=>none
  |.sG _ _,.k .nilIface=>match T ty,op with
   |some ti,.eql=>match ti.kd with
    |.iface=>R.pure (.d (.bool false))|_=>none
   |some ti,.neq=>match ti.kd with
    |.iface=>R.pure (.d (.bool true))|_=>none
   |_,_=>none
  |.k .nilIface,.k .nilIface=>match y with
   |.const _=>match T ty,op with
    |some ti,.eql=>match ti.kd with
     |.iface=>R.pure (.d (.bool true))|_=>none
    |some ti,.neq=>match ti.kd with
     |.iface=>R.pure (.d (.bool false))|_=>none
    |_,_=>none
   |_=>none
  |x,y=>match Sc t op x y with
   |some (c,d)=>some ⟨c,.d d,none⟩|none=>none
 |.unOp op _ x=>(Yu t op (ev x)).bind λd=>R.pure (.d d)|.convert s d x=>Sd t T s d (ev x) bx|.slice ty x lo hi mx=>match D9 ev lo,D9 ev hi,D9 ev mx with
  |some l,some h,some m=>L6 t T ty (ev x) l h m bx|_,_,_=>none
 |.makeFunc (.func f) first cV=>bif first.toList.isEmpty then(bif dH (cV.toList.map ev)then R.pure (.fn f (cV.toList.map ev))else none)else R.pure (.fn f (.c5 (first.toList.map ev)::cV.toList.map ev))
 |.makeInterface t x=>match T t with
  |some ti=>bif ti.kd.plain then R.pure (.sG t (ev x))else none|none=>none
 |.typeAssert x _ u ok=>match T u with
  |some tu=>bif tu.kd.plain&&tu.zero.cells?.isSome then
   match ev x with
   |.sG t v=>bif Nat.beq t u then R.pure (bif ok then .c5 [v,.d (.bool true)]else v)else bif ok then R.pure (.c5 [tu.zero,.d (.bool false)])else none|.k .nilIface=>bif ok then R.pure (.c5 [tu.zero,.d (.bool false)])else none|_=>none
   else none
  |none=>none
 |.nilCheck x=>match ev x with
  |.ptr b o=>R.pure (.ptr b o)|.rp b s i j=>R.pure (.rp b s i j)|.ep ds=>R.pure (.ep ds)|.fn f cs=>R.pure (.fn f cs)|_=>none
 |.call {callee:=.builtin b,args,argTypes}=>CQ t T b (args.toList.map ev) argTypes.toList bx|_=>none
def opT(T:Nat->Option TI)(ev:Operand->AV)(o:Op)(bx:List av):Option R:=
 bif ke ev o then Sf t T ev o bx else Eg t T ev o bx
end
section
variable {bx:List av}
theorem Sg{x:AV}{c:Prop}{y:D}(h:x.Vv t0 bx=some (c,y))(hc:c):x.um bx=some y:=by
 unfold AV.Vv at h;split at h
 .simp only[osI,vab]at h;obtain⟨rfl,rfl⟩:=h;rfl
 .simp only[osI,vab]at h;obtain⟨rfl,rfl⟩:=h;rfl
 .simp only[osI,vab]at h;obtain⟨rfl,rfl⟩:=h;rfl
 .rename_i b sz n;split at h
  .rename_i s es hb;cases hs:Nat.beq s sz with
   |false=>simp[hs]at h|true=>
   simp only[hs,cond_true,osI,vab]at h;obtain⟨rfl,rfl⟩:=h;have hn:n=es.length:=hc
   simp[AV.um,hb,hs,hn]
  .rename_i s es hb;cases hs:Nat.beq s sz with
   |false=>simp[hs]at h|true=>
   simp only[hs,cond_true,osI,vab]at h;obtain⟨rfl,rfl⟩:=h;have hn:n=es.length:=hc
   simp[AV.um,hb,hs,hn]
  simp at h
 simp at h
theorem ya:∀{xs:List AV} {c:Prop} {ys:List D},CO t0 bx xs=some (c,ys)->c->jV bx xs=some ys
 |[],c,ys,h,_=>by simp[CO]at h;simp[jV,h.2]|x::xs,c,ys,h,hc=>by
  simp only[CO]at h;split at h
  .rename_i c1 y d ys' h1 h2;simp only[osI,vab]at h;obtain⟨rfl,rfl⟩:=h;simp[jV,Sg h1 hc.1,ya h2 hc.2]
  simp at h
theorem lD{x:AV}{c:Prop}{es:List (List D)}(h:x.AG t0 bx=some (c,es))(hc:c):x.rows bx=some es:=by
 unfold AV.AG at h;split at h
 .simp only[osI,vab]at h;obtain⟨rfl,rfl⟩:=h;rfl
 .simp only[osI,vab]at h;obtain⟨rfl,rfl⟩:=h;rfl
 .rename_i b sz n;split at h
  .rename_i s es' hb;cases hs:Nat.beq s sz with
   |false=>simp[hs]at h|true=>
   simp only[hs,cond_true,osI,vab]at h;obtain⟨rfl,rfl⟩:=h;have hn:n=es'.length:=hc
   simp[AV.rows,hb,hs,hn]
  .rename_i s es' hb;cases hs:Nat.beq s sz with
   |false=>simp[hs]at h|true=>
   simp only[hs,cond_true,osI,vab]at h;obtain⟨rfl,rfl⟩:=h;have hn:n=es'.length:=hc
   simp[AV.rows,hb,hs,hn]
  simp at h
 .rename_i b sz off n _ _;split at h
  .rename_i s es' hb;cases hs:Nat.beq s sz with
   |false=>simp[hs]at h|true=>
   simp only[hs,cond_true,osI,vab]at h;obtain⟨rfl,rfl⟩:=h;have hn:Nat.ble (off+n) es'.length=true:=Nat.ble_eq_true_of_le hc
   simp[AV.rows,hb,hs,hn,t0]
  .rename_i s es' hb;cases hs:Nat.beq s sz with
   |false=>simp[hs]at h|true=>
   simp only[hs,cond_true,osI,vab]at h;obtain⟨rfl,rfl⟩:=h;have hn:Nat.ble (off+n) es'.length=true:=Nat.ble_eq_true_of_le hc
   simp[AV.rows,hb,hs,hn,t0]
  simp at h
 simp at h
theorem Ja{T:Nat->Option TI}:∀(n ty:Nat) (x y:AV),L5 t0 T n ty x y=D8 T n ty x y
 |0,_,_,_=>rfl|n+1,ty,x,y=>by have ih:∀e a b,L5 t0 T n e a b=D8 T n e a b:=λe a b=>Ja n e a b;simp only[L5,D8,ih];rfl
def pY(r:Option R)(v:AV)(b:Option (List av)):Prop:=∃c',r=some ⟨c',v,b⟩/\c'
theorem Vw{ti:TI}{a:AV}{c:Prop}{v:AV}{b:Option (List av)}(h:loadT ti a bx=some ⟨c,v,b⟩)(hc:c):pY (rX ti a bx) v b:=by
 cases a with
 |rp=>simp[loadT]at h|_=>exact⟨c,h,hc⟩
theorem Sh{ti:TI}{a x:AV}{c:Prop}{v:AV}{b:Option (List av)}(h:storeT t0 ti a x bx=some ⟨c,v,b⟩)(hc:c):pY (vP ti a x bx) v b:=by
 unfold storeT at h;unfold vP;split at h
 .simp at h
 rename_i vs hvs;simp only[hvs];cases hl:Nat.beq vs.length ti.size with
 |false=>simp[hl]at h|true=>
 simp only[hl,cond_true]at h ⊢;split at h
 .exact⟨c,h,hc⟩
 .rename_i b' sz i j;split at h
  .rename_i c1 ds hds;split at h
   .rename_i s es hb;cases hs:Nat.beq s sz with
    |false=>simp[hs]at h|true=>
    simp only[hs,cond_true,osI,R.mk.injEq]at h;obtain⟨rfl,rfl,rfl⟩:=h;have hs':s=sz:=vaf hs
    simp only[ya hds hc.1,hb];exact⟨_,rfl,hs',hc.2.1,hc.2.2⟩
   simp at h
  simp at h
 simp at h
theorem Vx(op:BinOp)(k:IntKind)(x y:Int):XE t0 op k x y=UX op k x y:=by cases op<;>rfl
theorem Vy(op:BinOp)(x y:List UInt8):XF t0 op x y=UY op x y:=by cases op<;>rfl
theorem Vz(op:BinOp)(x y:AV):Sc t0 op x y=Rp op x y:=by unfold Sc Rp;simp only[Vx,Vy];rfl
theorem Yw(op:UnOp)(x:AV):Yu t0 op x=Z7 op x:=by unfold Yu Z7;rfl
theorem Jc(p:Bool)(x y:AV):Gv t0 p x y=BU p x y:=by unfold Gv BU;rfl
theorem Si{T:Nat->Option TI}{ty:Nat}{x:AV}{lo hi mx:Option Int}{c:Prop}{v:AV}{b:Option (List av)}(h:L6 t0 T ty x lo hi mx bx=some ⟨c,v,b⟩)(hc:c):pY (sI T ty x lo hi mx bx) v b:=by
 unfold L6 at h;unfold sI;split at h
 .rename_i ti ht;simp only[ht];split at h
  .rename_i s hk;simp only[hk];exact⟨c,h,hc⟩
  .rename_i e hk;simp only[hk];split at h
   .rename_i c1 es te h1 h2;simp only[osI,R.mk.injEq]at h;obtain⟨rfl,rfl,rfl⟩:=h;simp only[lD h1 hc.1,h2];exact⟨_,rfl,hc.2⟩
   simp at h
  .rename_i e m hk;simp only[hk];split at h
   .rename_i c1 es h' te h1 h2;simp only[osI,R.mk.injEq]at h;obtain⟨rfl,rfl,rfl⟩:=h;simp only[lD h1 hc.1,h2];exact⟨_,rfl,hc.2⟩
   simp at h
  .rename_i n e ds hk;simp only[hk];split at h
   .rename_i te hte;cases hb:Nat.ble (n*te.size) ds.length with
    |false=>simp[hb]at h|true=>
    simp only[hb,cond_true,osI,R.mk.injEq]at h;obtain⟨rfl,rfl,rfl⟩:=h;simp only[hte];exact⟨_,rfl,Nat.le_of_ble_eq_true hb⟩
   simp at h
  .rename_i n e b hk;simp only[hk];split at h
   .rename_i te cs hte uC;split at h
    .rename_i ds hd;cases hb:Nat.ble (n*te.size) ds.length with
     |false=>simp[hb]at h|true=>
     simp only[hb,cond_true,osI,R.mk.injEq]at h;obtain⟨rfl,rfl,rfl⟩:=h;simp only[hte,uC,hd];exact⟨_,rfl,Nat.le_of_ble_eq_true hb⟩
    simp at h
   simp at h
  simp at h
 simp at h
theorem ET{size:Nat}:∀{parts:List (Nat×AV)} {c:Prop} {rs:List (List D)},xZ t0 bx size parts=some (c,rs)->c->rowsOf bx size parts=some rs
 |[],c,rs,h,_=>by simp[xZ]at h;simp[rowsOf,h.2]|(i,v)::r,c,rs,h,hc=>by
  simp only[xZ]at h;split at h
  .rename_i vs hvs;split at h
   .rename_i c1 ds d rs' h1 h2;cases hl:Nat.beq ds.length size with
    |false=>simp[hl]at h|true=>
    simp only[hl,cond_true,osI,vab]at h;obtain⟨rfl,rfl⟩:=h;simp only[rowsOf,hvs,ya h1 hc.1,ET h2 hc.2,hl,cond_true]
   simp at h
  simp at h
theorem Eh{T:Nat->Option TI}{ty n:Nat}{parts:List (Nat×AV)}{c:Prop}{v:AV}{b:Option (List av)}(h:tv t0 T ty n parts bx=some ⟨c,v,b⟩)(hc:c):pY (gF T ty n parts bx) v b:=by
 unfold tv at h;unfold gF;split at h
 .rename_i ti ht;simp only[ht];split at h
  .rename_i e hk;simp only[hk];split at h
   .rename_i te hte;simp only[hte];cases hb:(Nat.beq parts.length n&&oF 0 parts&&Nat.ble (n*te.size) 16777216&&te.zero.cells?.isSome)with
    |false=>simp only[hb,cond_false]at h;simp at h|true=>
    simp only[hb,cond_true]at h ⊢;split at h
    .rename_i c1 rs h1;simp only[osI,R.mk.injEq]at h;obtain⟨rfl,rfl,rfl⟩:=h;simp only[ET h1 hc];exact⟨_,rfl,hY⟩
    simp at h
   simp at h
  simp at h
 simp at h
theorem yb{size:Nat}{x:AV}{c:Prop}{xs:List (List D)}(h:CP t0 size x bx=some (c,xs))(hc:c):mu size x bx=some xs:=by
 unfold CP at h;split at h
 .rename_i b;simp only[mu];cases hs:Nat.beq size 1 with
  |false=>simp[hs]at h|true=>simp only[hs,cond_true,osI,vab]at h ⊢;exact h.2
 rename_i hx;unfold mu;split
 .rename_i b;exact absurd rfl (hx b)
 exact lD h hc
theorem EU{T:Nat->Option TI}{ty:Nat}{s x:AV}{c:Prop}{v:AV}{b:Option (List av)}(h:BG t0 T ty s x bx=some ⟨c,v,b⟩)(hc:c):pY (m7 T ty s x bx) v b:=by
 unfold BG at h;unfold m7;split at h
 .rename_i ti ht;simp only[ht];split at h
  .rename_i e hk;simp only[hk];split at h
   .rename_i te hte;simp only[hte];cases hz:fo te with
    |false=>simp[hz]at h|true=>
    simp only[hz,cond_true]at h ⊢;split at h
    .rename_i c1 xs h1;split at h
     .rename_i es;simp only[osI,R.mk.injEq]at h;obtain⟨rfl,rfl,rfl⟩:=h;obtain⟨Bm,hne,hl,hr⟩:=hc;simp only[yb h1 Bm];cases es with
      |nil=>refine⟨_,by simp only[t0,List.length_nil,Nat.zero_add,List.nil_append];rfl,?_⟩;exact⟨by simpa using hl,by simpa using hr⟩|cons e0 er=>
       cases xs with
       |nil=>simp at hne|cons x0 xr=>exact⟨_,rfl,hl,hr⟩
     .rename_i b' sz n;split at h
      .rename_i s2 es hb;cases LC:sameBox b' x with
       |true=>simp[LC]at h|false=>
       cases h2:Nat.beq s2 sz with
       |false=>simp[LC,h2]at h|true=>
       cases h3:Nat.beq sz te.size with
       |false=>simp[LC,h2,h3]at h|true=>
       simp only[LC,h2,h3,Bool.and_self,Bool.not_true,Bool.or_self,cond_false,osI,R.mk.injEq]at h;obtain⟨rfl,rfl,rfl⟩:=h;obtain⟨Bm,hn,hl,hr⟩:=hc;simp only[yb h1 Bm,hb,LC,cond_false];exact⟨_,rfl,vaf h2,vaf h3,hn,hl,hr⟩
      simp at h
     simp at h
    simp at h
   simp at h
  simp at h
 simp at h
theorem VA{T:Nat->Option TI}{src dst:Nat}{x:AV}{c:Prop}{v:AV}{b:Option (List av)}(h:Sd t0 T src dst x bx=some ⟨c,v,b⟩)(hc:c):pY (Ak T src dst x bx) v b:=by
 unfold Sd at h;unfold Ak;split at h
 .rename_i ts td h1 h2;simp only[h1,h2];generalize ts.kd=ks at h ⊢;generalize td.kd=kd at h ⊢;cases kd with
  |int k=>
   cases x with
   |d y=>cases y with
    |int k' n=>exact⟨c,h,hc⟩|_=>cases ks<;>simp at h
   |_=>cases ks<;>simp at h
  |str=>
   cases ks with
   |slice e=>
    simp only at h ⊢;split at h
    .rename_i te c1 es h3 h4;simp only[h3];split at h
     .rename_i hk;simp only[osI,R.mk.injEq]at h;obtain⟨rfl,rfl,rfl⟩:=h;simp only[lD h4 hc.1,hk];exact⟨_,rfl,hc.2⟩
     simp at h
    simp at h
   |str=>
    cases x with
    |d y=>cases y with
     |str s=>exact⟨c,h,hc⟩|_=>simp at h
    |_=>simp at h
   |_=>simp at h
  |_=>cases ks<;>simp at h
 simp at h
theorem VB{x:AV}{es:List (List D)}(hr:x.rows bx=some es):BW x bx=some (.d (.int .i64 es.length)):=by
 unfold AV.rows at hr;split at hr
 .simp only[osI]at hr;subst hr;rfl
 .simp only[osI]at hr;subst hr;rfl
 .simp only[BW,AV.rows,hr]
 .simp only[BW,AV.rows,hr]
 simp at hr
theorem L7{T:Nat->Option TI}{bi:Builtin}{args:List AV}{ats:List Nat}{c:Prop}{v:AV}{b:Option (List av)}(h:CQ t0 T bi args ats bx=some ⟨c,v,b⟩)(hc:c):pY (jZ T bi args ats bx) v b:=by
 unfold CQ at h;split at h
 .rename_i x ty;simp only[jZ];split at h
  .rename_i ti ht;simp only[ht];split at h
   .rename_i n e hk;simp only[hk];exact⟨c,h,hc⟩
   .rename_i s hk;simp only[hk];exact⟨c,h,hc⟩
   .rename_i e hk;simp only[hk];split at h
    .rename_i c1 es h1;simp only[osI,R.mk.injEq]at h;obtain⟨rfl,rfl,rfl⟩:=h;have hr:=lD h1 hc
     simp only[VB hr];exact⟨_,rfl,hY⟩
    simp at h
   simp at h
  simp at h
 .exact⟨c,h,hc⟩
 .exact⟨c,h,hc⟩
 .rename_i s x ty u;simp only[jZ];split at h
  .rename_i tu hu;simp only[hu];split at h
   .simp at h
   rename_i hk;split
   .rename_i k hk';exact absurd hk' (hk k)
   exact EU h hc
  simp at h
 simp at h
theorem L8{size n m:Nat}{y:AV}{c:Prop}{xs:List (List D)}(h:CR t0 size y n bx=some (c,m,xs))(hc:c):∃c',wW size y n bx=some (c',m,xs)/\c':=by
 unfold CR at h;unfold wW;split at h
 .exact⟨c,h,hc⟩
 split at h
 .rename_i c1 zs hz;simp only[osI,vab]at h;obtain⟨rfl,rfl,rfl⟩:=h;simp only[yb hz hc];exact⟨_,rfl,hY⟩
 simp at h
theorem VC{te:TI}{x y:AV}{c:Prop}{v:AV}{b:Option (List av)}(h:Se t0 te x y bx=some ⟨c,v,b⟩)(hc:c):pY (Et te x y bx) v b:=by
 unfold Se at h;unfold Et;split at h
 .rename_i bb sz off n c0 vp hv;simp only[hv];split at h
  .rename_i s es cy m xs hb hxs;simp only[hb];cases hq:(Nat.beq s sz&&Nat.beq sz te.size)with
   |false=>simp only[hq,cond_false]at h;simp at h|true=>
   simp only[hq,cond_true,osI,R.mk.injEq]at h ⊢;obtain⟨rfl,rfl,rfl⟩:=h;obtain⟨c2,k1,k2⟩:=L8 hxs hc.1;simp only[k1,hq,cond_true];exact⟨_,rfl,k2,hc.2⟩
  simp at h
 simp at h
theorem PA{te:TI}{bb sz off n c0:Nat}{ex:Bool}{y:AV}{c:Prop}{v:AV}{b:Option (List av)}(h:Gw t0 te bb sz off n c0 ex y bx=some ⟨c,v,b⟩)(hc:c):pY (uq te bb sz off n c0 ex y bx) v b:=by
 unfold Gw at h;unfold uq;split at h
 .rename_i s es cy xs hb hxs;simp only[hb];cases hq:(Nat.beq s sz&&Nat.beq sz te.size)with
  |false=>simp only[hq,cond_false]at h;simp at h|true=>
  simp only[hq,cond_true,osI,R.mk.injEq]at h ⊢;obtain⟨rfl,rfl,rfl⟩:=h;simp only[yb hxs hc.1,hq,cond_true];exact⟨_,rfl,hc.2⟩
 simp at h
theorem VD{T:Nat->Option TI}{ev:Operand->AV}{o:Op}{c:Prop}{v:AV}{b:Option (List av)}(h:Sf t0 T ev o bx=some ⟨c,v,b⟩)(hc:c):pY (oH T ev o bx) v b:=by
 unfold Sf at h;unfold oH;split at h
 .exact⟨c,h,hc⟩
 .exact⟨c,h,hc⟩
 .exact⟨c,h,hc⟩
 .rename_i bn args ats;simp only;generalize args.toList.map ev=iz at h ⊢;generalize ats.toList=al at h ⊢;split at h
  .exact⟨c,h,hc⟩
  .exact⟨c,h,hc⟩
  .split at h
   .rename_i te hte;simp only[hte];exact VC h hc
   simp at h
  .split at h
   .rename_i te hte;simp only[hte];exact⟨c,h,hc⟩
   simp at h
  .split at h
   .rename_i te hte hi;simp only[hte,hi];split at h
    .exact⟨c,h,hc⟩
    simp at h
   .rename_i te hte hi;simp only[hte,hi];cases hs:sameBox _ _ with
    |true=>simp only[hs,cond_true]at h ⊢;exact PA h hc|false=>
     simp only[hs,cond_false]at h ⊢;split at h
     .rename_i s es c1 v1 sL hb hap;simp only[osI,R.mk.injEq]at h;obtain⟨rfl,rfl,rfl⟩:=h;obtain⟨c2,k1,k2⟩:=EU hap hc.1;simp only[hb,k1];exact⟨_,rfl,k2,hc.2⟩
     simp at h
   simp at h
  simp at h
 simp at h
theorem Yx{T:Nat->Option TI}{ev:Operand->AV}{o:Op}{c:Prop}{v:AV}{b:Option (List av)}(h:Eg t0 T ev o bx=some ⟨c,v,b⟩)(hc:c):pY (m8 T ev o bx) v b:=by
 cases o with
 |load ty a=>
  simp only[Eg,m8]at h ⊢;split at h
  .rename_i ti ht;simp only[ht];exact Vw h hc
  simp at h
 |store ty a x=>
  simp only[Eg,m8]at h ⊢;split at h
  .rename_i ti ht;simp only[ht];exact Sh h hc
  simp at h
 |buildSlice ty n parts=>exact Eh h hc|fieldAddr ty x f=>
  simp only[Eg,m8]at h ⊢;split at h
  .rename_i ti ht;simp only[ht];split at h
   .rename_i o ft hf;simp only[hf];split at h
    .rename_i tf U9;simp only[U9];cases hs:Nat.beq tf.size 0 with
     |true=>simp[hs]at h|false=>
     simp only[hs,cond_false]at h ⊢;split at h
     .rename_i hx;simp only[hx];exact⟨c,h,hc⟩
     .rename_i hx;simp only[hx];exact⟨c,h,hc⟩
     .rename_i ds hx;simp only[hx];cases hb:Nat.ble o ds.length with
      |false=>simp[hb]at h|true=>
      simp only[hb,cond_true,R.pure,osI,R.mk.injEq]at h;obtain⟨rfl,rfl,rfl⟩:=h;exact⟨_,rfl,Nat.le_of_ble_eq_true hb⟩
     simp at h
    simp at h
   simp at h
  simp at h
 |binOp op ty x y yt=>
  simp only[Eg,m8]at h ⊢;split at h
  .rename_i xs ys h1 h2;simp only[h1,h2];cases op<;>simp only[Ja]at h ⊢<;>first|exact⟨c,h,hc⟩|simp at h
  .rename_i p q h1 h2;simp only[h1,h2];exact⟨c,h,hc⟩
  .rename_i t0 v0 h1 h2;simp only[h1,h2];exact⟨c,h,hc⟩
  .rename_i h1 h2;simp only[h1,h2];exact⟨c,h,hc⟩
  rename_i hne ado adp adq;split
  .rename_i xs ys h1 h2;exact absurd h2 (hne _ _ h1)
  .rename_i p q h1 h2;exact absurd h2 (ado _ _ h1)
  .rename_i h1 h2;exact absurd h2 (adp _ _ h1)
  .rename_i h1 h2;exact absurd h2 (adq h1)
  rw[Vz]at h;split at h
  .rename_i c' d hb;simp only[hb];exact⟨c,h,hc⟩
  simp at h
 |unOp op ty x=>simp only[Eg,m8,Yw]at h ⊢;exact⟨c,h,hc⟩|convert s d x=>exact VA h hc|slice ty x lo hi mx=>
  simp only[Eg,m8]at h ⊢;split at h
  .rename_i l h' m h1 h2 h3;simp only[h1,h2,h3];exact Si h hc
  simp at h
 |call cl=>
  obtain⟨callee,args,ats⟩:=cl;cases callee with
  |builtin b=>exact L7 h hc|_=>simp[Eg]at h
 |makeFunc fn first cV=>cases fn<;>first|exact⟨c,h,hc⟩|simp[Eg]at h
 |_=>exact⟨c,h,hc⟩
theorem Oh{T:Nat->Option TI}{ev:Operand->AV}{o:Op}{c:Prop}{v:AV}{b:Option (List av)}(h:opT t0 T ev o bx=some ⟨c,v,b⟩)(hc:c):pY (HM T ev o bx) v b:=by
 unfold opT at h;unfold HM;cases hv:ke ev o with
 |true=>rw[hv,cond_true]at h;rw[cond_true];exact VD h hc|false=>rw[hv,cond_false]at h;rw[cond_false];exact Yx h hc
end
end Dem
end
