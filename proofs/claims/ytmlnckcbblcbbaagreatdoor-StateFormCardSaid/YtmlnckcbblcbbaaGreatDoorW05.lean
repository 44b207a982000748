/- Parts of a proof, joined. -/
import Derived.Test.YtmlnckcbblcbbaaGreatDoorW04
import Derived.Defers
import Derived.Test.YtmlnckcbblcbbaaGreatDoorRows
import Derived.ProofKit
import Derived.LaidMore
import Derived.OpenShut
import Derived.Carry
import Derived.Stop.Joined
import Derived.Lib.RuneCount
import Derived.Lib.Bytealg
import Derived.Lib.Join
set_option linter.all false
set_option maxRecDepth 100000
set_option maxHeartbeats 4000000
section
open Go
namespace Dem
def flat:Code->List Code
 |.seq a b=>flat a++flat b|c=>[c]
section
variable {P:Program}
def sn(P:Program):List Code->(Exit->Act->World->Prop)->Act->World->Prop
 |[],Q=>Q .normal|c::r,Q=>c.wp P (Exit.then (sn P r Q) Q)
theorem EY{K K':Act->World->Prop}{Q Q':Exit->Act->World->Prop}(h:∀a w,K a w->K' a w)(hq:∀e a w,Q e a w->Q' e a w):∀e a w,Exit.then K Q e a w->Exit.then K' Q' e a w:=by intro e a w hh;cases e<;>simp only[Exit.then]at hh ⊢<;>first|exact h _ _ hh|exact hq _ _ _ hh
theorem mF:∀{l:List Code} {Q Q':Exit->Act->World->Prop} {a:Act} {w:World},(∀e a w,Q e a w->Q' e a w)->sn P l Q a w->sn P l Q' a w
 |[],_,_,_,_,hq,h=>hq _ _ _ h|_::_,_,_,_,_,hq,h=>wp_mono h (EY (λ_ _ hh=>mF hq hh) hq)
theorem C0:∀{l1 l2:List Code} {Q:Exit->Act->World->Prop} {a:Act} {w:World},sn P (l1++l2) Q a w->sn P l1 (Exit.then (sn P l2 Q) Q) a w
 |[],_,_,_,_,h=>h|c::l1,l2,Q,a,w,h=>by refine wp_mono (show c.wp P (Exit.then (sn P (l1++l2) Q) Q) a w from h) ?_;intro e a w hh;cases e<;>simp only[Exit.then]at hh ⊢<;>first|exact C0 hh|exact hh
theorem uL:∀(c:Code) {Q:Exit->Act->World->Prop} {a:Act} {w:World},sn P (flat c) Q a w->c.wp P Q a w
 |.seq x y,Q,a,w,h=>by have h:=C0 (show sn P (flat x++flat y) Q a w from h);refine wp_seq (wp_mono (uL x h) ?_);exact EY (λa w hh=>uL y hh) (λ_ _ _ hh=>hh)|.skip,Q,a,w,h=>wp_mono h (by intro e a w hh;cases e<;>simpa only[sn,Exit.then]using hh)|.region ..,Q,a,w,h=>wp_mono h (by intro e a w hh;cases e<;>simpa only[sn,Exit.then]using hh)|.cond ..,Q,a,w,h=>wp_mono h (by intro e a w hh;cases e<;>simpa only[sn,Exit.then]using hh)|.block ..,Q,a,w,h=>wp_mono h (by intro e a w hh;cases e<;>simpa only[sn,Exit.then]using hh)|.loop ..,Q,a,w,h=>wp_mono h (by intro e a w hh;cases e<;>simpa only[sn,Exit.then]using hh)|.rangeFunc ..,Q,a,w,h=>wp_mono h (by intro e a w hh;cases e<;>simpa only[sn,Exit.then]using hh)|.exit ..,Q,a,w,h=>wp_mono h (by intro e a w hh;cases e<;>simpa only[sn,Exit.then]using hh)|.scope ..,Q,a,w,h=>wp_mono h (by intro e a w hh;cases e<;>simpa only[sn,Exit.then]using hh)|.label ..,Q,a,w,h=>wp_mono h (by intro e a w hh;cases e<;>simpa only[sn,Exit.then]using hh)|.goto ..,Q,a,w,h=>wp_mono h (by intro e a w hh;cases e<;>simpa only[sn,Exit.then]using hh)|.ret,Q,a,w,h=>wp_mono h (by intro e a w hh;cases e<;>simpa only[sn,Exit.then]using hh)|.refuse ..,Q,a,w,h=>wp_mono h (by intro e a w hh;cases e<;>simpa only[sn,Exit.then]using hh)
end
section
variable (t:Th)(FC:Nat->List AV->List av->eP->List av->Prop)(T:Nat->Option TI)(G:Nat->Option (List D))(N K:Nat)
def wu:List Code->(Ex->St->Prop)->St->Prop
 |[],Q,s=>Q .normal s|c::r,Q,s=>ph t FC T G N K c (λe s1=>mv (λs1=>wu r Q s1) Q e s1) s
def EZ:List Oper->(AV->St->Prop)->St->Prop
 |[],_,_=>False|[o],KD,s=>match o.guard,o.dst,o.op with
  |none,none,.defer {callee:=.value x,args,..}=>bif args.toList.isEmpty then(ct G s.sl x).ok/\KD (ct G s.sl x).aU s else False|_,_,_=>False
 |o::o2::rest,KD,s=>bif gr N o.dst then match o.guard with
  |none=>stepT t FC T G o s (λv bx=>EZ (o2::rest) KD ⟨eJ o.dst v s.sl,bx⟩) (λ_ _=>False)|some _=>False
  else False
end
section
variable {P:Program}{T:Nat->Option TI}{G:Nat->Option (List D)}{N K:Nat}{ds:Kp}{X:Nat->Prop}{β0:Nat->Nat}{aK:List av}{w0:World}
theorem eU(hT:jj P T)(hD:jF P T G)(hK:aK.length<=K):∀(l:List Code) (Q:Ex->St->Prop) (β:Nat->Nat) (w:World) (s:St) (a:Act),Ext β0 aK w0 β s.bx w->Fr G N ds β w X s a->
 wu t0 (be P G) T G N K l Q s->sn P l (dB G N ds X β0 aK w0 Q) a w
 |[],Q,β,w,s,a,ex,hF,h=>⟨β,s,ex,hF,h⟩|c::l,Q,β,w,s,a,ex,hF,h=>by
  refine wp_mono (eS hT hD hK c _ β w s a ex hF h) ?_;intro e a' w' hl;cases e<;>simp only[dB,mv,Exit.then]at hl ⊢
  .obtain⟨β',s',h1,h2,h3⟩:=hl;exact eU hT hD hK l Q β' w' s' a' h1 h2 h3
  all_goals exact hl
theorem oO(hT:jj P T){ops:Array Oper}{KD:AV->St->Prop}{Qc:Exit->Act->World->Prop}
 (hN:∀(β:Nat->Nat) (w:World) (s:St) (a:Act) (x:AV) (v:Value),Ext β0 aK w0 β s.bx w->Fr G N ds β w X s a->KD x s->ai β s.bx w (bq β s.bx w X) x v->
  (Deferred.ofValue v #[]).run P w=.ok {target:=(match v with|.func fn _ c=>.fn fn c|_=>.nil),args:=(match v with|.func _ first _=>first|_=>#[])} w->
  Qc .normal {a with defers:={target:=(match v with|.func fn _ c=>.fn fn c|_=>.nil),args:=(match v with|.func _ first _=>first|_=>#[])}::a.defers} w)
 (hfn:∀x s,KD x s->∃f cV,x=.fn f cV/\dH cV=true):
 ∀(l:List Oper) (β:Nat->Nat) (w:World) (s:St) (a:Act),Ext β0 aK w0 β s.bx w->Fr G N ds β w X s a->EZ t0 (be P G) T G N l KD s->wpList P ops Qc l a w
 |[],β,w,s,a,ex,hF,h=>h.elim|[o],β,w,s,a,ex,hF,h=>by
  unfold EZ at h;split at h
  .rename_i x args ats hg hd ho;cases hargs:args.toList.isEmpty with
   |false=>simp[hargs]at h|true=>
   simp only[hargs,cond_true]at h;obtain⟨hok,hk⟩:=h;have hv:=jO (hF.eval x) hok
   obtain⟨f,cV,hx,oB⟩:=hfn _ _ hk;have YD:=hv
   rw[hx]at YD;simp only[ai]at YD;obtain⟨vs,ev,hvs⟩:=YD;rw[jN oB hvs]at ev;have ha:args=#[]:=by
    have:args.toList=[]:=by simpa using hargs
    exact Array.toList_inj.1 this
   subst ha;refine wpList_step λKK Xz=>?_;rw[if_pos (by simp[Region.wanted,hg])];have hr:(Deferred.ofValue (a.eval x) #[]).run P w=.ok {target:=.fn (.func f) ⟨vs⟩,args:=#[]} w:=by rw[ev];rfl
   have hrun:(execOp a.eval o).run P w=.ok (.defer {target:=.fn (.func f) ⟨vs⟩,args:=#[]}) w:=by simp[execOp,ho,resolve,hr]
   unfold Oper.wp;rw[hrun,Oper.upon_defer,hd];refine Xz _ _ ?_;have:=hN β w s a _ _ ex hF hk hv (by rw[ev];rfl)
   rw[ev]at this;exact this
  exact h.elim
 |o::o2::rest,β,w,s,a,ex,hF,h=>by
  unfold EZ at h;cases hd:gr N o.dst with
  |false=>simp[hd]at h|true=>
  simp only[hd,cond_true]at h;split at h
  .rename_i hg;refine wpList_step λKK Xz=>?_;rw[if_pos (by simp[Region.wanted,hg])];refine mA hT hF (ye (λv bx hK=>hK) h) ?_ ?_
   .intro β' aE w' v u qL oA hv hK;exact Xz _ _ (oO hT hN hfn (o2::rest) β' w' ⟨eJ o.dst v s.sl,aE⟩ _ (ex.trans qL) (hF.put qL oA hd hv) hK)
   intro β' aE w' v u qL oA hv hK;exact hK.elim
  exact h.elim
theorem mG:∀{l1 l2:List Code} {Q:Exit->Act->World->Prop} {a:Act} {w:World},sn P l1 (Exit.then (sn P l2 Q) Q) a w->sn P (l1++l2) Q a w
 |[],_,_,_,_,h=>h|c::l1,l2,Q,a,w,h=>by refine wp_mono (show c.wp P (Exit.then (sn P l1 (Exit.then (sn P l2 Q) Q)) (Exit.then (sn P l2 Q) Q)) a w from h) ?_;intro e a w hh;cases e<;>simp only[Exit.then]at hh ⊢<;>first|exact mG hh|exact hh
theorem qb{fn:Func}{args:List AV}{aK:List av}(hN:fn.ntmps=N)(hlen:gq args.length N=true){β:Nat->Nat}{w:World}{vs:List Value}(cx:cB G β aK w X)(hx:an β aK w (bq β aK w X) args vs):
 Fr G N Kp.no β w X ⟨fH 0 args,aK⟩ {tmps:=(⟨vs⟩:Array Value)++Array.replicate (fn.ntmps-(⟨vs⟩:Array Value).size) undef,defers:=[]}:=by
 have hl:=an.length hx;obtain⟨hle,hhi,hlo⟩:=sH hlen;refine⟨cx,rfl,?_,λt ht=>by omega,?_⟩
 .rw[hhi];simp[hN,hl];omega
 intro t;rw[Cv];simp only[Nat.zero_le,if_true,Nat.sub_zero];by_cases ht:t<args.length
 .obtain⟨v,k1,k2⟩:=an.get t args[t] hx (by simp[ht]);have e1:args.getD t .any=args[t]:=by simp[vam,ht]
  rw[e1];have hv:t<vs.length:=by omega
  have e2:vs[t]=v:=by rw[vaj hv]at k1;simpa using k1
  have e3:(({toList:=vs}:Array Value)++Array.replicate (fn.ntmps-(⟨vs⟩:Array Value).size) undef).getD t undef=v:=by simp[Array.getD_eq_getD_getElem?,Array.getElem?_append,hv,e2]
  rw[e3];exact k2
 simp[vam,vay (Nat.le_of_not_lt ht),ai]
theorem ym(hT:jj P T){fn:Func}{β:Nat->Nat}{w:World}{aK aE:List av}{res:eP}{β':Nat->Nat}{s:St}{a':Act}{w':World}(ex:Ext β aK w β' s.bx w')(BF:cB G β' s.bx w' X)(vX:∀t,ai β' s.bx w' (bq β' s.bx w' X) (fK t s.sl) (a'.tmps.getD t undef))
 (hq:match vR T s.sl s.bx fn.results.toList with
  |some (c,vs)=>Rw aK.length c (nO vs) s.bx res aE|none=>False):∃v,(results fn a'.tmps).run P w'=.ok v w'/\∃β',Ext β aK w β' aE w'/\cB G β' aE w' X/\eH β' aE w' (bq β' aE w' X) res (.returned v):=by
 split at hq
 .rename_i c vs' hres;obtain⟨hc,hq⟩:=hq;obtain⟨u,k1,k2⟩:=Ax hT BF vX hres hc;refine⟨u,k1,?_⟩;rcases hq with⟨rfl,rfl⟩|⟨ks,y,q1,q2,rfl,q3,rfl⟩|⟨k,sz,m,es,q0,q1,q2,q3,q4,rfl,rfl⟩|⟨sz,q0,q1,q2,rfl,rfl⟩
  .exact⟨β',ex,BF,k2⟩
  .obtain⟨e1,c1,r1⟩:=EM BF q1 k2;obtain⟨e2,c2⟩:=Gm ks c1;exact⟨β',xF ((ex.trans e1).trans e2),xE c2 q3,lB (λblk hb=>xD _ blk hb) y u q2 (ai.mono (e2.dL X) _ _ r1)⟩
  .rw[q0]at k2;exact BE BF ex q3 q4 (.inr ⟨q2,q1⟩) (.inr k2)
  rw[q0]at k2;simp only[ai,List.length_nil]at k2;obtain⟨base,k2,_⟩:=k2;exact BE (k:=0) BF ex q1 q2 (.inl ⟨rfl,rfl⟩) (.inl ⟨rfl,rfl,base,k2⟩)
 exact hq.elim
structure yo(FD:Nat->List AV->List av->eP->List av->Prop)(f:Nat)(cV:List AV)(bx:List av)(K:List av->Prop):Prop where
 ok:∃gY,FD f cV bx (.ret (.c5 [])) gY/\K gY
def Mj(t:Th)(FD:Nat->List AV->List av->eP->List av->Prop)(T:Nat->Option TI)(results:List ResultVar)(n:Nat)(res:eP)(aE:List av)(f:Nat)(cV:List AV):Ex->St->Prop
 |.exit _,_=>False|.panic _,_=>False|_,s=>yo FD f cV s.bx (λgY=>match vR T s.sl gY results with
  |some (c,vs)=>zJ n c (nO vs) gY (CS t gY (nO vs)) res aE|none=>False)
def GB(t:Th)(FC FD:Nat->List AV->List av->eP->List av->Prop)(T:Nat->Option TI)(G:Nat->Option (List D))(N:Nat)(pre:List Code)(ops:List Oper)(post:List Code)(results:List ResultVar)(n:Nat)(res:eP)(aE:List av)(s:St):Prop:=
 wu t FC T G N n pre (λe s=>match e with
  |.normal=>EZ t FC T G N ops (λx s2=>match x with
   |.fn g cV=>bif dH cV then wu t FC T G N s2.bx.length post (Mj t FD T results n res aE g cV) s2 else False|_=>False) s
  |_=>False) s
theorem Br(hT:jj P T)(hD:jF P T G){f N:Nat}{fn:Func}{c:Code}{args:List AV}{aK aE:List av}{res:eP}(hf:P.funcs[f]?=some fn)(hb:fn.body=some c)
 (hname:(fn.name== "runtime.NumGoroutine")=false) (hN:fn.ntmps=N) (hlen:gq args.length N=true) {pre post:List Code} {id:Nat} {ops:Array Oper} (hc:flat c=pre++.region id ops false::post)
 (h:GB t0 (be P G) (Cx P G) T G N pre ops.toList post fn.results.toList aK.length res aE ⟨fH 0 args,aK⟩):be P G f args aK res aE:=by
 intro β w vs X cx hx;refine .inl ⟨by simp[callFunc,run_program,hf,hb];simpa using hname,calls_of_wp_defers hf hb (uL c ?_)⟩;rw[hc];refine mG (mF ?_ (eU hT hD (vad _) pre _ β w _ _ (Ext.refl _ _ _) (qb hN hlen cx hx) h));intro e a1 w1 hl;cases e<;>simp only[dB,Exit.then]at hl ⊢;case normal=>
  obtain⟨β1,s1,vo,xX,hop⟩:=hl
  show(Code.region id ops false).wp P (Exit.then (sn P post _) _) a1 w1
  refine wp_region_list (oO (β0:=β) (aK:=aK) (w0:=w) hT ?_ ?_ ops.toList β1 w1 s1 a1 vo xX hop)
  .intro β2 w2 s2 a2 x v RK ru hk hv hr;simp only[Exit.then];split at hk;case h_2=>exact hk.elim
   rename_i g cV;cases oB:dH cV with
   |false=>simp[oB]at hk|true=>
   simp only[oB,cond_true]at hk;simp only[ai]at hv;obtain⟨HR,rfl,sg⟩:=hv;rw[jN oB sg]at hr ⊢;simp only;have SF:Fr G N ⟨[{target:=.fn (.func g) ⟨HR⟩,args:=#[]}],λ_=>undef⟩ β2 w2 X s2 {a2 with defers:={target:=.fn (.func g) ⟨HR⟩,args:=#[]}::a2.defers}:=⟨ru.cx,by rw[ru.defers];rfl,ru.size,ru.kept,ru.sW⟩
   refine mF ?_ (eU (β0:=β2) (aK:=s2.bx) (w0:=w2) hT hD (vad _) post _ β2 w2 s2 _ (Ext.refl _ _ _) SF hk);have fin:∀(β3:Nat->Nat) (w3:World) (s3:St) (a3:Act),Ext β2 s2.bx w2 β3 s3.bx w3->Fr G N ⟨[{target:=.fn (.func g) ⟨HR⟩,args:=#[]}],λ_=>undef⟩ β3 w3 X s3 a3->
    yo (Cx P G) g cV s3.bx (λgY=>match vR T s3.sl gY fn.results.toList with
     |some (c,vs)=>zJ aK.length c (nO vs) gY (CS t0 gY (nO vs)) res aE|none=>False)->Leaves P fn a3.tmps (λe w'=>∃β',Ext β aK w β' aE w'/\cB G β' aE w' X/\eH β' aE w' (bq β' aE w' X) res e) a3.defers .returning w3:=by
    intro β3 w3 s3 a3 VM CX hdf
    obtain⟨gY,hfd,hq⟩:=hdf
    rw[CX.defers]
    have C1:=an.mono (VM.dL X) _ _ sg
    obtain⟨hi,hcd⟩:=hfd β3 w3 HR X CX.cx C1
    refine leaves_cons (f:=g) (args:=⟨HR⟩) (by simp) (by simpa[invoke]using hi) ((hcd .returning).mono ?_)
    rintro e u' w4 ⟨rfl,β4,XR,cx4,hres⟩
    cases e with
    |returned v=>
     simp only[Leaves,settle]
     have hF4:Fr G N ⟨[{target:=.fn (.func g) ⟨HR⟩,args:=#[]}],λ_=>undef⟩ β4 w4 X ⟨s3.sl,gY⟩ a3:=⟨cx4,CX.defers,CX.size,CX.kept,λt=>ai.mono (XR.dL X) _ _ (CX.sW t)⟩
     have YO:=mj (T:=T) (results:=fn.results.toList) (n:=aK.length) (res:=res) (aE:=aE) (e:=.ret) (s:=⟨s3.sl,gY⟩) hq
     exact ym hT (((RK.trans VM)).trans XR) hF4.cx hF4.sW YO
    |panicked ch=>simp[eH]at hres|outgrown=>simp[eH]at hres
   intro e a3 w3 BJ;cases e<;>simp only[dB,bodyPostD,Mj]at BJ ⊢
   .obtain⟨β3,s3,k1,k2,k3⟩:=BJ;exact fin β3 w3 s3 a3 k1 k2 k3
   .obtain⟨β3,s3,k1,k2,k3⟩:=BJ;exact k3
   .obtain⟨β3,s3,k1,k2,k3⟩:=BJ;exact fin β3 w3 s3 a3 k1 k2 k3
   obtain⟨_,_,_,_,_,_,_,_,_,_,k3⟩:=BJ;exact k3.elim
  intro x s hk
  split at hk
  .rename_i g cV;cases oB:dH cV with
   |false=>simp[oB]at hk|true=>exact⟨_,_,rfl,oB⟩
  exact hk.elim
 case exit=>obtain⟨_,_,_,_,k⟩:=hl;exact k.elim
 case ret=>obtain⟨_,_,_,_,k⟩:=hl;exact k.elim
 case panic=>obtain⟨_,_,_,_,_,_,_,_,_,_,k⟩:=hl;exact k.elim
theorem Bs(hT:jj P T)(hD:jF P T G){f N:Nat}{fn:Func}{c:Code}{args:List AV}{aK aE:List av}{res:eP}(hf:P.funcs[f]?=some fn)(hb:fn.body=some c)
 (hname:(fn.name== "runtime.NumGoroutine")=false) (hN:fn.ntmps=N) (hlen:gq args.length N=true)
 (h:ph t0 (be P G) T G N aK.length c (iq t0 T fn.results.toList aK.length res aE) ⟨fH 0 args,aK⟩):Cx P G f args aK res aE:=
 Gp hT hf hb hname hN hlen λβ w X a hF=>wp_mono (eS (X:=X) (β0:=β) (aK:=aK) (w0:=w) hT hD (vad _) c _ β w ⟨fH 0 args,aK⟩ a (Ext.refl _ _ _) hF h)
  λ_ _ _ hl=>dB.imp (λ_ _ hq=>mj hq) hl
end
def zL:List Oper->Bool
 |[]=>false|[o]=>match o.op with
  |.defer _=>true|_=>false
 |_::r=>zL r
def tH:List Code->Option (List Code×Nat×Array Oper×List Code)
 |[]=>none|.region id ops false::r=>bif zL ops.toList then some ([],id,ops,r)else match tH r with
  |some (p,i,o,q)=>some (.region id ops false::p,i,o,q)|none=>none
 |c::r=>match tH r with
  |some (p,i,o,q)=>some (c::p,i,o,q)|none=>none
theorem qc:∀{l pre post:List Code} {id:Nat} {ops:Array Oper},tH l=some (pre,id,ops,post)->l=pre++.region id ops false::post
 |[],_,_,_,_,h=>by simp[tH]at h|c::r,pre,post,id,ops,h=>by
  unfold tH at h;split at h
  .simp at*
  .rename_i id' ops' r' e;simp only[List.cons.injEq]at e;obtain⟨rfl,rfl⟩:=e;cases hl:zL ops'.toList with
   |true=>simp[hl]at h;obtain⟨rfl,rfl,rfl,rfl⟩:=h;rfl
   |false=>
    simp only[hl,cond_false]at h;split at h
    .rename_i p i o q hs;simp only[osI,vab]at h;obtain⟨rfl,rfl,rfl,rfl⟩:=h;rw[qc hs];rfl
    cases h
  rename_i c' r' hne e;simp only[List.cons.injEq]at e;obtain⟨rfl,rfl⟩:=e;split at h
  .rename_i p i o q hs;simp only[osI,vab]at h;obtain⟨rfl,rfl,rfl,rfl⟩:=h;rw[qc hs];rfl
  cases h
theorem C2{FD:Nat->List AV->List av->eP->List av->Prop}{f:Nat}{cV:List AV}{bx:List av}{K:List av->Prop}{gY:List av}(h:FD f cV bx (.ret (.c5 [])) gY)(hK:K gY):yo FD f cV bx K:=⟨gY,h,hK⟩
end Dem
end
section
namespace Dem
abbrev az:=List UInt8
structure bz where
 a:Int
 b:Int
 c:Int
 d:Int
deriving DecidableEq
def bz.zero:bz:=⟨0,0,0,0⟩
def Ju(x y:Int):Int×Bool:=if x.toNat+y.toNat<18446744073709551616 then(((x.toNat+y.toNat:Nat):Int),true)else(0,false)
def Jv(x y:Int):Int×Bool:=if x.toNat<y.toNat then(0,false)else(((((x.toNat-y.toNat)%18446744073709551616:Nat)):Int),true)
def both(f:Int->Int->Int×Bool)(a b:bz):bz×Bool:=
 if(f a.a b.a).2&&(f a.b b.b).2&&(f a.c b.c).2&&(f a.d b.d).2 then(⟨(f a.a b.a).1,(f a.b b.b).1,(f a.c b.c).1,(f a.d b.d).1⟩,true)else(bz.zero,false)
def jW(a b:bz):bz×Bool:=both Ju a b
def ix(a b:bz):bz×Bool:=both Jv a b
def oh(a b:bz):Bool:=(ix b a).2
def iL:Nat->Int->az
 |0,u=>[UInt8.ofNat (u%256).toNat]|n+1,u=>if 128<=u then UInt8.ofNat (u.toNat%128+128)::iL n (u / 128)else[UInt8.ofNat (u%256).toNat]
def aF(u:Int):az:=iL 9 u
theorem E0:∀(n:Nat) (u:Int),(iL n u).length<=n+1
 |0,_=>by simp[iL]|n+1,u=>by
  unfold iL;split
  .simp;exact E0 n _
  simp
theorem bG(u:Int):(aF u).length<=10:=E0 9 u
def aB(s:az):az:=aF s.length++s
def eZ(v:bz):az:=aF v.a++aF v.b++aF v.c++aF v.d
end Dem
namespace Dem
def idxOf{α:Type}(p:α->Bool)(l:List α):Int:=match l.findIdx? p with|some k=>(k:Int)|none=>-1
theorem yp{α:Type}{p:α->Bool}:∀{l:List α} {k:Nat} {x:α},l[k]?=some x->p x=true->(∀i<k,∀y,l[i]?=some y->p y=false)->l.findIdx? p=some k
 |[],_,_,h,_,_=>by simp at h|y::r,0,x,h,hp,_=>by simp at h;subst h;simp[List.findIdx?_cons,hp]|y::r,k+1,x,h,hp,hb=>by have hy:p y=false:=hb 0 (by omega) y (by simp);simp only[vaq]at h;rw[List.findIdx?_cons,hy];simp[yp h hp λi hi z hz=>hb (i+1) (by omega) z (by simpa using hz)]
theorem C3{α:Type}{p:α->Bool}{l:List α}(hb:∀(i:Nat) (y:α),l[i]?=some y->p y=false):l.findIdx? p=none:=by rw[List.findIdx?_eq_none_iff];intro x hx;obtain⟨i,hi⟩:=List.getElem?_of_mem hx;exact hb i x hi
theorem fL{α:Type}(p:α->Bool)(l:List α):l.any p=decide (0<=idxOf p l):=by
 unfold idxOf;cases h:l.findIdx? p with
 |none=>rw[List.findIdx?_eq_none_iff]at h;simp;intro x hx;simp[h x hx]|some k=>have:=List.findIdx?_eq_some_iff_getElem.1 h;obtain⟨hk,hp,_⟩:=this;simp;exact⟨l[k],List.getElem_mem hk,hp⟩
end Dem
end
section
open Go Dem Go.Proofs
namespace Dem
theorem TT.eq {t:Th} (h:TT t):t=t0:=by funext α f;exact h α f
theorem kJ{t:Th}(ht:TT t){f N:Nat}{fn:Func}{c:Code}{args:List AV}{aK aE:List av}{res:eP}(hf:Tryz.prog.funcs[f]?=some fn)(hb:fn.body=some c)
 (hname:(fn.name== "runtime.NumGoroutine")=false) (hN:fn.ntmps=N) {rs:List ResultVar} (Bn:fn.results.toList=rs) {n:Nat} (hn:aK.length=n) (hlen:gq args.length N=true)
 (h:ph t FC tT gl N n c (iq t tT rs n res aE) ⟨fH 0 args,aK⟩):FC f args aK res aE:=by
 subst Bn;subst hn;have e:=ht.eq
 subst e;exact Bq HQ lE hf hb hname hN hlen h
def FD:Nat->List AV->List av->eP->List av->Prop:=Cx Tryz.prog gl
theorem fcD{t:Th}(ht:TT t){f N:Nat}{fn:Func}{c:Code}{args:List AV}{aK aE:List av}{res:eP}(hf:Tryz.prog.funcs[f]?=some fn)(hb:fn.body=some c)
 (hname:(fn.name== "runtime.NumGoroutine")=false) (hN:fn.ntmps=N) {rs:List ResultVar} (Bn:fn.results.toList=rs) {n:Nat} (hn:aK.length=n) (hlen:gq args.length N=true)
 {pre post:List Code} {id:Nat} {ops:Array Oper} (hs:tH (flat c)=some (pre,id,ops,post))
 (h:GB t FC FD tT gl N pre ops.toList post rs n res aE ⟨fH 0 args,aK⟩):FC f args aK res aE:=by
 subst Bn;subst hn;have e:=ht.eq
 subst e;exact Br HQ lE hf hb hname hN hlen (qc hs) h
theorem fdC{t:Th}(ht:TT t){f N:Nat}{fn:Func}{c:Code}{args:List AV}{aK aE:List av}{res:eP}(hf:Tryz.prog.funcs[f]?=some fn)(hb:fn.body=some c)
 (hname:(fn.name== "runtime.NumGoroutine")=false) (hN:fn.ntmps=N) {rs:List ResultVar} (Bn:fn.results.toList=rs) {n:Nat} (hn:aK.length=n) (hlen:gq args.length N=true)
 (h:ph t FC tT gl N n c (iq t tT rs n res aE) ⟨fH 0 args,aK⟩):FD f args aK res aE:=by
 subst Bn;subst hn;have e:=ht.eq
 subst e;exact Bs HQ lE hf hb hname hN hlen h
theorem fcX{f:Nat}{fn:Func}{e:Array Value->Sem Value}{args:List AV}{v:AV}(hf:Tryz.prog.funcs[f]?=some fn)(hname:(fn.name== "runtime.NumGoroutine")=false)
 (hb:fn.body.isNone=true) (hn:Extern.findNext fn=none) (he:Extern.find fn=some e)
 (h:∀(β:Nat->Nat) (w:World) (vs:List Value) (ok:Nat->Prop),an β [] w ok args vs->∃u,(e ⟨vs⟩).run Tryz.prog w=.ok u w/\ai β [] w ok v u):FC f args [] (.ret v) []:=by
 intro β w vs X cx hx;obtain⟨u,h1,h2⟩:=h β w vs _ hx;refine .inr ⟨u,w,?_,β,Ext.refl _ _ _,cx,h2⟩;rw[run_callFunc_extern hf hname hb hn he,h1];rfl
abbrev bf(x:Int):AV:=.d (.int .i64 x)
abbrev aA(x:Int):AV:=.d (.int .u64 x)
abbrev BL(b:Bool):AV:=.d (.bool b)
abbrev ST(s:List UInt8):AV:=.d (.str s)
abbrev SL(es:List (List D)):AV:=.d (.sl es)
abbrev V4(a b c d:Int):AV:=.agg [.d (.int .u64 a),.d (.int .u64 b),.d (.int .u64 c),.d (.int .u64 d)]
theorem aG{k:Nat}(h1:k<9223372036854775807):IntKind.i64.wrap ((k:Int)+1)=((k+1:Nat):Int):=by rw[wrap64 (by omega) (by omega)];omega
theorem aa(n:Nat):@NatCast.natCast Int instNatCastInt n=(n:Int):=rfl
end Dem
end
section
open Go Go.Proofs Go.ChangeShapes Go.WideShapes Go.RowKit
namespace Dem
theorem own:ownKnob Tryz.prog.godebug=none:=by kernel_rfl
theorem laidOut:laidOutB Tryz.prog=true:=by kernel_rfl
theorem SG:Tryz.prog.globalNamed "demesne/word.letters"=some 0:=by kernel_rfl
theorem YP:Tryz.prog.globalNamed "demesne/word.marks"=some 1:=by kernel_rfl
def E5:TypeId:=223
def Ou:TypeId:=224
theorem SH:(Tryz.prog.globals[0]?).map (·.type)=some E5:=by kernel_rfl
theorem YQ:(Tryz.prog.globals[1]?).map (·.type)=some Ou:=by kernel_rfl
def adM:DataW Unit->Value
 |.lit (.int k n)=>.int k n|_=>.int .u8 0
def adN:DataW Unit->List Value
 |.agg l=>l.map adM|_=>[]
noncomputable def XS (os:Os):World:=
 let w0:=World.doorLaid Tryz.prog 400 os
 {w0 with heap:=w0.heap.modify 3 λ
  |.cells _ t fr=>.cells (adN YtmlnckcbblcbbaaGreatDoor.Rows.laid_unicode_utf8_first).toArray t fr|o=>o}
abbrev yq:List (String×DataW Unit):=[("unicode/utf8.acceptRanges",YtmlnckcbblcbbaaGreatDoor.Rows.laid_unicode_utf8_acceptRanges),("demesne/word.letters",YtmlnckcbblcbbaaGreatDoor.Rows.laid_demesne_word_letters),("demesne/word.marks",YtmlnckcbblcbbaaGreatDoor.Rows.laid_demesne_word_marks),("unicode/utf8.first",YtmlnckcbblcbbaaGreatDoor.Rows.laid_unicode_utf8_first)]
theorem SI(os:Os)(args:Array Value):laidMetH Tryz.prog yq ((XS os).forCall (λ_ _=>0) ⟨#[],args,[]⟩).memory:=
 laidMetH_of_parts3 (fuel:=8) (laidMet_of_run' 8 (by kernel_rfl) (by kernel_rfl)) (by kernel_rfl) (by kernel_rfl)
theorem tyL:IP Tryz.prog 8 E5=some [.int .i32,.int .i32,.int .i32,.int .i32,.int .i32,.int .i32]:=by kernel_rfl
theorem tyM:IP Tryz.prog 8 Ou=some [.int .i32,.int .i32,.int .i32,.int .i32]:=by kernel_rfl
theorem GC{w:World}{ok:Nat->Prop}{blk:Nat}:∀{ds:List D} {vs:List Value} (off:Nat),cJ w ok ds vs->(∀i v,vs[i]?=some v->w.cell? ⟨blk,off+i,none⟩=some v)->bg w ok blk ds off
 |[],_,_,_,_=>by simp[bg]|d::ds,vs,off,h,hc=>by simp only[cJ]at h;obtain⟨v,r,rfl,h1,h2⟩:=h;simp only[bg];refine⟨⟨v,hc 0 v rfl,h1⟩,GC (off+1) h2 λi u hu=>?_⟩;rw[show off+1+i=off+(i+1) by omega];exact hc (i+1) u (by simpa using hu)
theorem Jw{W:World}(h:laidMetH Tryz.prog yq W):cB gl (λ_=>0) [] W (λ_=>False):=by
 rw[MakeChecks.laidMetH_plain _ _ _ (by kernel_rfl)]at h;obtain⟨ps,⟨_,_,_,_,_,_,_,_,_,_,⟨g0,t0,cs0,f0,p0,q0,hg0,ht0,hv0,hd0,⟨g1,t1,cs1,f1,p1,q1,hg1,ht1,hv1,hd1,_,_⟩,_⟩,_⟩,_,_⟩:=h;obtain rfl:=Option.some.inj (SG.symm.trans hg0);obtain rfl:=Option.some.inj (YP.symm.trans hg1);obtain rfl:=Option.some.inj (SH.symm.trans ht0);obtain rfl:=Option.some.inj (YQ.symm.trans ht1);have hok:∀blk,blk<W.heap.size->bq (λ_=>0) [] W (λ_=>False) blk:=λblk hb=>⟨hb,λh=>h,λi b hb=>by simp at hb⟩
 obtain⟨r0,_⟩:=xK hok 8 _ _ _ _ _ hd0 tyL;obtain⟨r1,_⟩:=xK hok 8 _ _ _ _ _ hd1 tyM;have c0:=λi=>World.var?_cell hg0 hv0 i
 have c1:=λi=>World.var?_cell hg1 hv1 i;refine⟨λ_ h=>h.elim,?_,by simp,by simp,by simp⟩;intro g ds hg;unfold gl at hg;have hlt:∀{i:Nat} {a:Addr} {v:Value},W.cell? a=some v->a.block<W.heap.size:=by
  intro i a v hc;rcases Nat.lt_or_ge a.block W.heap.size with h|h
  .exact h
  simp[World.cell?,h]at hc
 cases e0:Nat.beq g 0 with
 |true=>
  rw[e0]at hg;simp only[cond_true,osI]at hg;obtain rfl:=vaf e0;have hrow:bg W (bq (λ_=>0) [] W (λ_=>False)) 0 ds 0:=by rw[<-hg];exact GC 0 r0 λi v hv=>by rw[Nat.zero_add,c0 i];simpa using hv
  refine⟨hok _ ?_,hrow⟩;rw[<-hg]at hrow;simp only[bg]at hrow;obtain⟨⟨u,hu,_⟩,_⟩:=hrow;exact hlt (i:=0) hu
 |false=>
  rw[e0]at hg;simp only[cond_false]at hg;cases e1:Nat.beq g 1 with
  |true=>
   rw[e1]at hg;simp only[cond_true,osI]at hg;obtain rfl:=vaf e1;have hrow:bg W (bq (λ_=>0) [] W (λ_=>False)) 1 ds 0:=by rw[<-hg];exact GC 0 r1 λi v hv=>by rw[Nat.zero_add,c1 i];simpa using hv
   refine⟨hok _ ?_,hrow⟩;rw[<-hg]at hrow;simp only[bg]at hrow;obtain⟨⟨u,hu,_⟩,_⟩:=hrow;exact hlt (i:=0) hu
  |false=>rw[e1]at hg;cases hg
theorem Mk{f:Nat}{args:List AV}{vs:List Value}{W:World}(hL:laidMetH Tryz.prog yq W)(he:∀args w,(callFunc f args).run Tryz.prog w=.ok (.enter f args) w)
 (hx:an (λ_=>0) [] W (bq (λ_=>0) [] W (λ_=>False)) args vs) (h:FC f args [] (.ret (.d (.bool true))) []):
 Calls Tryz.prog f ⟨vs⟩ W λe w'=>e=.returned (.bool true)/\RowKit.Below W.heap.size W w':=by
 have hc:=h (λ_=>0) W vs (λ_=>False) (Jw hL) hx;rcases hc with⟨_,hc⟩|⟨v,w',hc,_⟩
 .refine hc.mono ?_;rintro e w' ⟨β',ex,_,hr⟩;cases e with
  |returned u=>simp only[eH,ai,aP]at hr;subst hr;exact⟨rfl,⟨ex.os,ex.tape,ex.output,ex.size,λk hk=>ex.block k hk (by simp)⟩⟩|_=>exact hr.elim
 rw[he]at hc;cases hc
theorem Ej{H:Type}{enc:TypeId×Value->H}{P:Program}(hl:laidOutB P=true){W W':World}(hb:RowKit.Below W.heap.size W W'):∀(ts:List TypeId) (vs:List Value) (ds:List (DataW H)) (ps:List MemPlace),(ts.all λt=>P.readableRec t&&decide (t<P.types.size))=true->
 (∀x∈ps,x.block<W.heap.size)->DataW.TrodAll enc P W 0 (λ_=>true) true ts vs ds ps->DataW.TrodAll enc P W' 0 (λb=>decide (b<W.heap.size)) true ts vs ds ps:=by
 intro ts;induction ts with
 |nil=>
  intro vs ds ps _ _ h
  cases vs with
  |nil=>cases ds with
   |nil=>exact h|cons d ds=>exact h.elim
  |cons v vs=>cases ds<;>exact h.elim
 |cons t ts ih=>
  intro vs ds ps ht hlt h
  cases vs with
  |nil=>cases ds<;>exact h.elim
  |cons v vs=>cases ds with
   |nil=>exact h.elim|cons d ds=>
    obtain⟨p,q,h1,h2,rfl⟩:=h
    simp only[List.all_cons,vae,vai]at ht
    exact⟨p,q,RowKit.Below.trod hl ht.1.1 ht.1.2 h1 hb (λx hx=>hlt x (List.mem_append_left _ hx)),ih vs ds q ht.2 (λx hx=>hlt x (List.mem_append_right _ hx)) h2,rfl⟩
theorem Jx{H:Type}{enc:TypeId×Value->H}{P:Program}{W:World}:∀(ts:List TypeId) (vs:List Value) (ds:List (DataW H)) (ps:List MemPlace),DataW.TrodAll enc P W 0 (λ_=>true) true ts vs ds ps->ds.length=ts.length:=by
 intro ts;induction ts with
 |nil=>
  intro vs ds ps h;cases vs with
  |nil=>cases ds with
   |nil=>rfl|cons d ds=>exact h.elim
  |cons v vs=>cases ds<;>exact h.elim
 |cons t ts ih=>
  intro vs ds ps h;cases vs with
  |nil=>cases ds<;>exact h.elim
  |cons v vs=>cases ds with
   |nil=>exact h.elim|cons d ds=>obtain⟨_,_,_,h2,_⟩:=h;simp[ih _ _ _ h2]
theorem Ek{W W':World}(hb:RowKit.Below W.heap.size W W')(may:MemPlace->Prop):W.keptBut W' may:=by
 refine⟨hb.os,hb.output,λi hi=>?_⟩;rw[hb.block i hi];generalize W.heap[i]?=o;cases o with
 |none=>rfl|some o=>cases o<;>first|exact⟨rfl,rfl,rfl,λ_ _=>rfl⟩|exact .inr ⟨rfl,rfl⟩|rfl
theorem aby:Tryz.prog.underlying 4=some .bool:=by kernel_rfl
end Dem
end
section
open Go
namespace Dem
def dec(s:az)(pos:Nat):Nat×Nat:=Utf8.decode ⟨s.toArray⟩ pos
theorem Ov(s:az)(pos:Nat)(h:pos<s.length):1<=(dec s pos).2:=Lib.decode_width_pos _ pos (by show pos<s.toArray.size;simpa using h)
def jH(s:az):Nat->Nat->List (Nat×Nat)
 |0,_=>[]|n+1,pos=>if pos<s.length then(pos,(dec s pos).1)::jH s n (pos+(dec s pos).2)else[]
def E6(s:az):List (Nat×Nat):=jH s s.length 0
def GD:List (Int×Int):=[(97,122),(945,969),(1072,1103)]
def marks:List (Int×Int):=[(48,57),(45,45)]
def Jy(r:Int)(l:List (Int×Int)):Bool:=l.any λx=>decide (x.1<=r)&&decide (r<=x.2)
def tI(s:az):Nat:=(E6 s).length
def YR(x:Nat×Nat):Bool:=Jy x.2 GD||(!decide (x.1=0)&&Jy x.2 marks)
def eV(s:az):Bool:=(E6 s).all YR&&!decide (s=[])&&decide (tI s<=16)
theorem C4(s:az):∀(n pos:Nat),(jH s n pos).length<=n
 |0,_=>by simp[jH]|n+1,pos=>by
  unfold jH;split
  .simp;exact C4 s n _
  simp
structure bT where
 key:az
 value:az
deriving DecidableEq
abbrev bT.cells (p:bT):List D:=[.str p.key,.str p.value]
def sle(x y:az):Bool:=Op.bytesLess x y||decide (x=y)
def kK:Option az->List bT->Bool
 |_,[]=>true|q,p::r=>eV p.key&&eV p.value&&(match q with|none=>true|some q=>!sle p.key q)&&kK (some p.key) r
def kL(l:List bT):Bool:=kK none l&&decide (l.length<=8)
def nw(l:List bT)(k:Nat):Option az:=match k with
 |0=>none|k+1=>(l[k]?).map (·.key)
def bT.sm (p:bT):Prop:=p.key.length<9223372036854775807/\p.value.length<9223372036854775807
structure Node where
 name:az
 cap:bz
 labels:List bT
 up:Bool
structure Place where
 bL:Int
 node:az
 v:bz
abbrev Node.cells (x:Node):List D:=[.str x.name,.int .u64 x.cap.a,.int .u64 x.cap.b,.int .u64 x.cap.c,.int .u64 x.cap.d,.sl (x.labels.map bT.cells),.bool x.up]
abbrev Place.cells (x:Place):List D:=[.int .u64 x.bL,.str x.node,.int .u64 x.v.a,.int .u64 x.v.b,.int .u64 x.v.c,.int .u64 x.v.d]
theorem uM{α:Type}{p:α->Bool}{l:List α}(h:idxOf p l=-1):∀x∈l,p x=false:=by
 unfold idxOf at h;split at h
 .omega
 rename_i hn;rw[List.findIdx?_eq_none_iff]at hn;exact λx hx=>by simpa using hn x hx
theorem uN{α:Type}{p:α->Bool}{l:List α}(h:idxOf p l≠-1):∃(i:Nat) (x:α),idxOf p l=i/\l[i]?=some x/\p x=true/\∀y∈l.take i,p y=false:=by
 unfold idxOf at h ⊢;split at h
 .rename_i k hk;obtain⟨hlt,hp,hb⟩:=List.findIdx?_eq_some_iff_getElem.1 hk;refine⟨k,l[k],rfl,by simp[hlt],hp,?_⟩;intro y hy;obtain⟨j,hj⟩:=List.getElem?_of_mem hy;rw[List.getElem?_take]at hj;split at hj
  .rename_i Yi;have hjl:j<l.length:=by omega
   rw[vaj hjl]at hj;cases hj;simpa using hb j Yi
  cases hj
 exact absurd rfl h
theorem filter_all{α:Type}{p:α->Bool}{l:List α}(h:∀x∈l,p x=false):l.filter (λx=>!p x)=l:=by rw[List.filter_eq_self];intro x hx;rw[h x hx];rfl
theorem nJ{α:Type}{l:List α}{i:Nat}{x:α}(h:l[i]?=some x):l.take (i+1)=l.take i++[x]:=by rw[List.take_add_one,h];rfl
def Node.zero:Node:=⟨[],bz.zero,[],false⟩
def ir(name:az)(l:List Node):Node×Bool:=match l.find? (λx=>decide (x.name=name))with
 |some x=>(x,true)|none=>(Node.zero,false)
theorem PC{name:az}{l:List Node}(h:idxOf (λx=>decide (x.name=name)) l=-1):ir name l=(Node.zero,false):=by
 have hn:=uM h;have:l.find? (λx=>decide (x.name=name))=none:=by rw[List.find?_eq_none];intro x hx;rw[hn x hx];simp
 unfold ir;rw[this]
theorem GF{α:Type}{p:α->Bool}:∀{l:List α} {i:Nat} {x:α},l[i]?=some x->p x=true->(∀y∈l.take i,p y=false)->l.find? p=some x
 |[],_,_,h,_,_=>by simp at h|y::r,0,x,h,hp,_=>by simp at h;subst h;simp[hp]|y::r,i+1,x,h,hp,hb=>by have hy:p y=false:=hb y (by simp);simp only[vaq]at h;rw[List.find?_cons,hy];exact GF h hp λz hz=>hb z (by simp[hz])
theorem PD{name:az}{l:List Node}(h:idxOf (λx=>decide (x.name=name)) l≠-1):∃(i:Nat) (x:Node),idxOf (λx=>decide (x.name=name)) l=i/\l[i]?=some x/\ir name l=(x,true):=by obtain⟨i,x,h1,h2,h3,h4⟩:=uN h;refine⟨i,x,h1,h2,?_⟩;unfold ir;rw[GF h2 h3 h4]
def dW(name:az)(s:bz×Bool)(x:Place):bz×Bool:=if s.2&&decide (x.node=name)then ix s.1 x.v else s
def iG(name:az)(l:List Node)(ps:List Place):bz×Bool:=
 let s:=ps.foldl (dW name) ((ir name l).1.cap,(ir name l).2)
 if s.2 then s else(bz.zero,false)
def so(name:az)(v:bz)(l:List Node)(ps:List Place):Int:=
 if !(ir name l).2 then 7 else if !(ir name l).1.up then 12 else if !(iG name l ps).2||!oh v (iG name l ps).1 then 11 else 0
structure cR where
 nodes:List Node
 places:List Place
deriving instance DecidableEq for Place
deriving instance DecidableEq for Node
theorem pi{x y:bz}:x=y↔x.a=y.a/\x.b=y.b/\x.c=y.c/\x.d=y.d:=by cases x;cases y;simp
theorem VN{x y:bT}:x=y↔x.key=y.key/\x.value=y.value:=by cases x;cases y;simp
theorem SJ{x y:Place}:x=y↔x.bL=y.bL/\x.node=y.node/\x.v=y.v:=by cases x;cases y;simp
instance:Inhabited bz:=⟨bz.zero⟩
instance:Inhabited Node:=⟨Node.zero⟩
instance:Inhabited Place:=⟨⟨0,[],bz.zero⟩⟩
instance:Inhabited bT:=⟨⟨[],[]⟩⟩
theorem cu{α:Type}{l:List α}{k:Nat}{x:α}(h:l[k]?=some x):l.drop k=x::l.drop (k+1):=by obtain⟨hk,rfl⟩:=List.getElem?_eq_some_iff.1 h;exact List.drop_eq_getElem_cons hk
structure cK where
 node:az
 free:bz
 labels:List bT
theorem VO{x y:Node}:x=y↔x.name=y.name/\x.cap=y.cap/\x.labels=y.labels/\x.up=y.up:=by cases x;cases y;simp
def gQ(l:List Node)(bL:Int)(v:bz):List az->List Place->Option Int×List Place
 |[],ps=>(none,ps)|n::r,ps=>if so n v l ps≠0 then(some (so n v l ps),ps)else gQ l bL v r (ps++[⟨bL,n,v⟩])
def zM(p:cR)(bL:Int)(names:List az)(v:bz):cR×Int:=
 match(gQ p.nodes bL v names p.places).1 with
 |some e=>(p,e)|none=>(⟨p.nodes,(gQ p.nodes bL v names p.places).2⟩,0)
theorem dw{α:Type}{p:α->Bool}{l:List α}{r:Int}(h:r=idxOf p l):(r=-1/\l.findIdx? p=none/\l.find? p=none)∨∃(i:Nat) (x:α),r=i/\i<l.length/\l[i]?=some x/\p x=true/\l.findIdx? p=some i/\l.find? p=some x:=by
 by_cases hn:idxOf p l=-1
 .have hno:=uM hn;refine .inl ⟨by rw[h,hn],?_,?_⟩
  .rw[List.findIdx?_eq_none_iff];intro x hx;simp[hno x hx]
  rw[List.find?_eq_none];intro x hx;simp[hno x hx]
 obtain⟨i,x,h1,h2,h3,h4⟩:=uN hn;refine .inr ⟨i,x,by rw[h,h1],(List.getElem?_eq_some_iff.1 h2).1,h2,h3,?_,GF h2 h3 h4⟩;unfold idxOf at h1;split at h1
 .rename_i k hk;rw[hk];congr 1;omega
 omega
def vI(l:List Node)(ps:List Place)(n:Node):Option cK:=if(iG n.name l ps).2&&n.up then some ⟨n.name,(iG n.name l ps).1,n.labels⟩else none
def GG(q:Option az)(x:az):Bool:=match q with|none=>true|some q=>!sle x q
def kM(l:List Node)(ps:List Place):Option az->List Node->Bool
 |_,[]=>true|q,n::r=>(iG n.name l ps).2&&eV n.name&&kL n.labels&&GG q n.name&&kM l ps (some n.name) r
def C5(l:List Node)(x:Place):Bool:=!(l.any λn=>decide (n.name=x.node))
def mQ(p:cR):Bool:=kM p.nodes p.places none p.nodes&&decide (p.nodes.length<=16)&&!(p.places.any (C5 p.nodes))
def qd(l:List Node)(k:Nat):Option az:=match k with
 |0=>none|k+1=>(l[k]?).map (·.name)
theorem E7{l:List Node}{k:Nat}{x:az}:GG (qd l k) x=(decide (k=0)||match l[k-1]? with|none=>true|some y=>!sle x y.name):=by
 cases k with
 |zero=>rfl|succ k=>simp only[qd,GG];cases h:l[k]?<;>simp[h]
def Node.sm (x:Node):Prop:=x.name.length<9223372036854775807/\x.labels.length<1000000000/\∀p∈x.labels,p.sm
def pat(l:List Node)(nm:az):Nat:=match l.findIdx? (λo=>!Op.bytesLess o.name nm)with
 |some k=>k|none=>l.length
def sD(p:cR)(n:Node):cR×Int:=
 if !eV n.name then(p,6)else if !kL n.labels then(p,2)else if decide (0<=idxOf (λx=>decide (x.name=n.name)) p.nodes)then(p,8)else if 16<=p.nodes.length then(p,9)else
 (⟨p.nodes.take (pat p.nodes n.name)++{n with up:=true}::p.nodes.drop (pat p.nodes n.name),p.places⟩,0)
end Dem
end
section
open Go Dem Go.Proofs
namespace Dem
abbrev bp(s:az):List D:=[.str s]
def ol(r:Int):AV:=bf r
def cA(r:Bool):AV:=BL r
def rD(r:az):AV:=ST r
def EVB(r:bz×Bool):AV:=.c5 [V4 r.1.a r.1.b r.1.c r.1.d,BL r.2]
def Node.aS (t:Th) (x:Node):List D:=[.str x.name,.int .u64 x.cap.a,.int .u64 x.cap.b,.int .u64 x.cap.c,.int .u64 x.cap.d,.sl (t _ λ_=>x.labels.map bT.cells),.bool x.up]
def Place.aS (_:Th) (x:Place):List D:=[.int .u64 x.bL,.str x.node,.int .u64 x.v.a,.int .u64 x.v.b,.int .u64 x.v.c,.int .u64 x.v.d]
def SK(t:Th)(x:Node):AV:=.agg [ST x.name,aA x.cap.a,aA x.cap.b,aA x.cap.c,aA x.cap.d,SL (t _ λ_=>x.labels.map bT.cells),BL x.up]
def SM(t:Th)(r:Node×Bool):AV:=.c5 [SK t r.1,BL r.2]
def Jz(t:Th)(p:cR):AV:=.agg [SL (t _ λ_=>p.nodes.map Node.cells),SL (t _ λ_=>p.places.map Place.cells)]
def SN(t:Th)(r:cR×Int):AV:=.c5 [Jz t r.1,bf r.2]
def JA(t:Th)(l:List az):AV:=SL (t _ λ_=>l.map bp)
def fM(_:Th)(s:az):List D:=[.str s]
theorem El{t:Th}(ht:TT t){α:Type}{l:List α}{cells cT:α->List D}{es:List (List D)}(aD:es=l.map cells){z:Int}{i n:Nat}{x:α}{K:List D->Prop}(hx:l[i]?=some x)(hz:z=i)(hn:∀x,(cells x).length=n)(hT:∀x,cells x=cT x)
 (hK:K (cT x)):pN true (t Prop λ_=>0<=z/\z<es.length/\∀r∈es,r.length=n) (t _ λ_=>es.getD z.toNat []) K:=by
 have hi:=(List.getElem?_eq_some_iff.1 hx).1;refine eT ht aD (by omega) (by omega) hn hT ?_;intro y hy;rw[hz,vak,hx]at hy;cases hy;exact hK
theorem C6{α:Type}{l:List α}{cells:α->List D}{u:List (List D)}(hu:u=l.map cells){row:List D}{sz b:Nat}(hn:∀x,(cells x).length=sz)(hr:row.length=sz)(hl:l.length<1000000000)(hb:b<=10000):
 (u.length+[row].length)*b<=140737488355328/\∀r∈u++[row],r.length=sz:=by
 refine⟨?_,?_⟩
 .rw[hu,lgM];exact Nat.le_trans (Nat.mul_le_mul (show l.length+[row].length<=1000000000 by simp;omega) hb) (by decide)
 intro r hr';rcases List.mem_append.1 hr' with h|h
 .rw[hu]at h;obtain⟨y,_,rfl⟩:=List.mem_map.1 h;exact hn y
 simp at h;subst h;exact hr
def cK.cells (x:cK):List D:=[.str x.node,.int .u64 x.free.a,.int .u64 x.free.b,.int .u64 x.free.c,.int .u64 x.free.d,.sl (x.labels.map bT.cells)]
def cK.aS (t:Th) (x:cK):List D:=[.str x.node,.int .u64 x.free.a,.int .u64 x.free.b,.int .u64 x.free.c,.int .u64 x.free.d,.sl (t _ λ_=>x.labels.map bT.cells)]
def YS(t:Th)(l:List cK):AV:=SL (t _ λ_=>l.map cK.cells)
theorem yu{k:Nat}(h:0<k)(h2:k<9223372036854775807):IntKind.i64.wrap ((k:Int)-1)=((k-1:Nat):Int):=by rw[wrap64 (by omega) (by omega)];omega
theorem JB{t:Th}(ht:TT t){α:Type}[Inhabited α]{l:List α}{cells cT:α->List D}{es:List (List D)}(aD:es=l.map cells){g:Bool}{G:Prop}{z:Int}(i:Nat){n:Nat}{K:List D->Prop}(hg:g=true->G)(hi:g=true->z=i/\i<l.length)(hn:∀x,(cells x).length=n)(hT:∀x,cells x=cT x)
 (hK:∀x,(g=true->l[i]?=some x)->K (cT x)):pN g (G/\t Prop λ_=>0<=z/\z<es.length/\∀r∈es,r.length=n) (t _ λ_=>es.getD z.toNat []) K:=by
 cases hgg:g with
 |true=>
  subst hgg
  obtain⟨h1,h2⟩:=hi rfl
  refine SA (cT l[i]) (λ_=>⟨⟨hg rfl,?_⟩,?_⟩) (hK _ (λ_=>vaj h2))
  .simp only[ht];refine⟨by omega,by rw[aD,lgM];omega,?_⟩;rw[aD];intro r hr;obtain⟨y,_,rfl⟩:=List.mem_map.1 hr;exact hn y
  simp only[ht];rw[h1,aD,<-hT];simp[h2]
 |false=>
  subst hgg
  exact SA (cT default) (λh=>Bool.noConfusion h) (hK default (λh=>Bool.noConfusion h))
theorem rE{P:Program}{G:Nat->Option (List D)}{f:Nat}{args args':List AV}{bx aE:List av}{res:eP}(h:∀β w ok vs,an β bx w ok args vs->an β bx w ok args' vs)(hc:be P G f args' bx res aE):be P G f args bx res aE:=
 λβ w vs X cx hx=>hc β w vs X cx (h _ _ _ _ hx)
theorem Ow{β:Nat->Nat}{bx:List av}{w:World}{ok:Nat->Prop}{es:List (List D)}{u:Value}(h:ai β bx w ok (.cl es) u):ai β bx w ok (.d (.sl es)) u:=by simp only[ai,aP]at h ⊢;obtain⟨base,h1,h2⟩:=h;exact⟨base,_,h1,vad _,h2⟩
abbrev small:Nat:=9223372036854775807
end Dem
end
section
open Go
namespace Dem
def Lp(u:Int)(b:UInt8)(j:Nat):Int:=u+(((b.toNat%128)*2^(7*j)%18446744073709551616:Nat):Int)
def fS:Nat->Nat->az->Int->Option (Int×Nat)
 |0,_,_,_=>none|_+1,_,[],_=>none|n+1,j,b::r,u=>if b.toNat<128 then some (Lp u b j,j+1)else fS n (j+1) r (Lp u b j)
def mR(s:az)(p:Int):Option (Int×Nat):=if p<0∨(s.length:Int)<=p then none else fS 10 0 (s.drop p.toNat) 0
structure BK where
 u:Int
 next:Int
 ok:Bool
def BK.no:BK:=⟨0,0,false⟩
def aV(s:az)(p:Int):BK:=match mR s p with
 |some (u,c)=>if aF u=(s.drop p.toNat).take c then⟨u,p+c,true⟩else BK.no|none=>BK.no
theorem YT{a b i:Nat}(h:b<2^i):b ||| (2^i*a)=b+2^i*a:=by rw[Nat.or_comm,<-Nat.two_pow_add_eq_or_of_lt h,Nat.add_comm]
end Dem
namespace Dem
theorem abA(b:UInt8):IntKind.u8.wrap ((BitVec.ofInt IntKind.u8.bits (b.toNat:Int) &&& ~~~BitVec.ofInt IntKind.u8.bits 128).toNat:Int)=((b.toNat%128:Nat):Int):=by
 have key:∀n:Nat,n<256->IntKind.u8.wrap ((BitVec.ofInt IntKind.u8.bits (n:Int) &&& ~~~BitVec.ofInt IntKind.u8.bits 128).toNat:Int)=((n%128:Nat):Int):=by decide
 exact key _ b.toNat_lt
theorem bW(x:Int):IntKind.u64.wrap x=x%18446744073709551616:=by simp[IntKind.wrap,IntKind.signed,IntKind.bits]
theorem bN{x:Int}(h0:-9223372036854775808<=x)(h1:x<9223372036854775808):IntKind.i64.wrap x=x:=by simp[IntKind.wrap,IntKind.signed,IntKind.bits];omega
theorem adP{i p:Int}{j:Nat}(hi:i=p+j)(hj:j<10):0<=IntKind.i64.wrap (7*IntKind.i64.wrap (i-p)):=by
 have e:i-p=j:=by omega
 rw[e,bN (x:=(j:Int)) (by omega) (by omega),bN (by omega) (by omega)];omega
theorem AL(c j:Nat)(hj:j<10):∃y,c*2^(7*j)%18446744073709551616=2^(7*j)*y/\2^(7*j)*y+2^(7*j)<=18446744073709551616:=by
 have h64:(18446744073709551616:Nat)=2^(7*j)*2^(64-7*j):=by rw[<-Nat.pow_add,show 7*j+(64-7*j)=64 by omega]
 refine⟨c%2^(64-7*j),?_,?_⟩
 .rw[h64,Nat.mul_comm c,Nat.mul_mod_mul_left]
 rw[h64,<-Nat.mul_succ];exact Nat.mul_le_mul_left _ (Nat.mod_lt _ (Nat.two_pow_pos _))
theorem GH{u:Int}{b:UInt8}{j:Nat}(hj:j<10)(hu:0<=u/\u<2^(7*j)/\u<18446744073709551616):0<=Lp u b j/\Lp u b j<2^(7*(j+1))/\Lp u b j<18446744073709551616:=by
 obtain⟨h0,h1,_⟩:=hu;obtain⟨v,rfl⟩:=Int.eq_ofNat_of_zero_le h0;have h1:v<2^(7*j):=by exact_mod_cast h1
 obtain⟨y,e1,e2⟩:=AL (b.toNat%128) j hj;have h3:b.toNat%128*2^(7*j)%18446744073709551616<=127*2^(7*j):=Nat.le_trans (Nat.mod_le _ _) (Nat.mul_le_mul_right _ (by omega))
 have h4:(2:Nat)^(7*(j+1))=128*2^(7*j):=by rw[show 7*(j+1)=7+7*j by omega,Nat.pow_add]
 unfold Lp;refine⟨by omega,?_,by omega⟩;have:v+b.toNat%128*2^(7*j)%18446744073709551616<2^(7*(j+1)):=by omega
 exact_mod_cast this
theorem Ml{u i p:Int}{b:UInt8}{j:Nat}(hi:i=p+j)(hj:j<10)(hu:0<=u/\u<2^(7*j)/\u<18446744073709551616):
 IntKind.u64.wrap ((BitVec.ofInt IntKind.u64.bits u ||| BitVec.ofInt IntKind.u64.bits (IntKind.u64.wrap (IntKind.u64.wrap (IntKind.u8.wrap ((BitVec.ofInt IntKind.u8.bits (b.toNat:Int) &&& ~~~BitVec.ofInt IntKind.u8.bits 128).toNat:Int))*2^(min (IntKind.i64.wrap (7*IntKind.i64.wrap (i-p))).toNat IntKind.u64.bits)))).toNat:Int)=Lp u b j:=by
 have hb:=GH (b:=b) hj hu;obtain⟨h0,h1,h2⟩:=hu;have e:i-p=j:=by omega
 rw[e,bN (x:=(j:Int)) (by omega) (by omega),bN (x:=7*(j:Int)) (by omega) (by omega),abA,bW ((b.toNat%128:Nat):Int)];have e2:(7*(j:Int)).toNat=7*j:=by omega
 have e3:min (7*j) IntKind.u64.bits=7*j:=by show min (7*j) 64=7*j;omega
 have e4:((b.toNat%128:Nat):Int)%18446744073709551616=((b.toNat%128:Nat):Int):=by omega
 rw[e2,e3,e4];have e5:(((b.toNat%128:Nat):Int)*2^(7*j))=((b.toNat%128*2^(7*j):Nat):Int):=by push_cast;rfl
 rw[e5,bW ((b.toNat%128*2^(7*j):Nat):Int)];obtain⟨y,g1,g2⟩:=AL (b.toNat%128) j hj;have e6:(((b.toNat%128*2^(7*j):Nat):Int))%18446744073709551616=((2^(7*j)*y:Nat):Int):=by rw[<-g1];rfl
 rw[e6];obtain⟨v,rfl⟩:=Int.eq_ofNat_of_zero_le h0;have h1:v<2^(7*j):=by exact_mod_cast h1
 have e7:(BitVec.ofInt IntKind.u64.bits (v:Int) ||| BitVec.ofInt IntKind.u64.bits ((2^(7*j)*y:Nat):Int)).toNat=v+2^(7*j)*y:=by show(BitVec.ofInt 64 (v:Int) ||| BitVec.ofInt 64 ((2^(7*j)*y:Nat):Int)).toNat=v+2^(7*j)*y;rw[BitVec.toNat_or,BitVec.toNat_ofInt,BitVec.toNat_ofInt,<-YT h1];congr 1<;>omega
 rw[e7,bW];unfold Lp;rw[g1];omega
theorem C7{s:az}{a j n:Nat}{u:Int}(hj:a+j<s.length)(hn:0<n):
 fS n j (s.drop (a+j)) u=if(s.getD (a+j) 0).toNat<128 then some (Lp u (s.getD (a+j) 0) j,j+1)else fS (n-1) (j+1) (s.drop (a+(j+1))) (Lp u (s.getD (a+j) 0) j):=by
 obtain⟨m,rfl⟩:∃m,n=m+1:=⟨n-1,by omega⟩;rw[List.drop_eq_getElem_cons hj,fS];have e:s.getD (a+j) 0=s[a+j]:=by simp[hj]
 rw[e];rfl
theorem Mm{s:az}{p:Int}{a j n:Nat}{u:Int}(ha:p=a)(hj:a+j<s.length)(hn:0<n)(j4:fS 10 0 (s.drop a) 0=fS n j (s.drop (a+j)) u)(hb:(s.getD (a+j) 0).toNat<128):
 mR s p=some (Lp u (s.getD (a+j) 0) j,j+1):=by
 rw[mR,if_neg (by omega),ha,vak,j4,C7 hj hn,if_pos hb]
theorem PE{s:az}{p:Int}{a j n:Nat}{u:Int}(ha:p=a)(hj:s.length<=a+j∨n=0)(j4:fS 10 0 (s.drop a) 0=fS n j (s.drop (a+j)) u):mR s p=none:=by
 rw[mR];split
 .rfl
 rw[ha,vak,j4];rcases hj with hj|rfl
 .rw[vah hj];cases n<;>rfl
 rfl
end Dem
namespace Dem
def pn(s:az)(p u next:Int):BK:=if 0<next/\aF u=(s.drop p.toNat).take (next.toNat-p.toNat)then⟨u,next,true⟩else BK.no
theorem Mn{s:az}{p i:Int}{a j n:Nat}{u:Int}(ha:p=a)(hi:i=p+j)(hj:a+j<s.length)(hn:0<n)(j4:fS 10 0 (s.drop a) 0=fS n j (s.drop (a+j)) u)(hb:((s.getD i.toNat 0).toNat:Int)<128):
 aV s p=pn s p (Lp u (s.getD i.toNat 0) j) (i+1):=by
 have e0:i.toNat=a+j:=by omega
 rw[e0]at hb ⊢;rw[aV,Mm ha hj hn j4 (by omega),pn];have e5:(i+1).toNat-p.toNat=j+1:=by omega
 have e6:0<i+1:=by omega
 have e7:p+((j+1:Nat):Int)=i+1:=by omega
 simp only[e5,e6,true_and,e7]
end Dem
namespace Dem
theorem JC:∀(n j:Nat) (r:az) (u:Int) {u':Int} {c:Nat},n+j=10->(0<=u/\u<2^(7*j)/\u<18446744073709551616)->fS n j r u=some (u',c)->0<=u'/\u'<18446744073709551616/\j<c/\c<=j+r.length
 |0,_,_,_,_,_,_,_,h=>by simp[fS]at h|n+1,_,[],_,_,_,_,_,h=>by simp[fS]at h|n+1,j,b::r,u,u',c,hn,hu,h=>by
  have hb:=GH (b:=b) (show j<10 by omega) hu;unfold fS at h;split at h
  .simp only[osI,vab]at h;obtain⟨rfl,rfl⟩:=h;simp only[List.length_cons];exact⟨hb.1,hb.2.2,by omega,by omega⟩
  have:=JC n (j+1) r _ (by omega) hb h;simp only[List.length_cons];omega
theorem eE{s:az}{p:Int}(h:(aV s p).ok=true):0<=p/\p<(aV s p).next/\(aV s p).next<=s.length/\0<=(aV s p).u/\(aV s p).u<18446744073709551616:=by
 unfold aV at h ⊢;cases hw:mR s p with
 |none=>simp[hw,BK.no]at h|some x=>
  obtain⟨u,c⟩:=x;simp only[hw]at h ⊢;split at h
  .rename_i he;rw[if_pos he];unfold mR at hw;split at hw
   .simp at hw
   rename_i hp;have hp:0<=p/\p<s.length:=by omega
   have:=JC 10 0 _ 0 rfl (by simp) hw;simp only[vaw]at this;refine⟨hp.1,?_,?_,this.1,this.2.1⟩<;>simp only<;>omega
  simp[BK.no]at h
structure GI where
 t:az
 next:Int
 ok:Bool
def GI.no:GI:=⟨[],0,false⟩
def aI(s:az)(p most:Int):GI:=
 if(aV s p).ok=true/\0<=most/\(aV s p).u<=most/\(aV s p).u<=s.length-(aV s p).next then⟨(s.drop (aV s p).next.toNat).take (aV s p).u.toNat,(aV s p).next+(aV s p).u,true⟩else GI.no
theorem JD{s:az}{r:BK}{most:Int}(hs:s.length<9223372036854775000)(hm:most<9223372036854775808)(h0:0<=most)(h1:0<=r.next)(h2:r.next<=s.length):
 IntKind.u64.wrap (min most (IntKind.i64.wrap ((s.length:Int)-r.next)))=min most ((s.length:Int)-r.next):=by
 rw[bN (by omega) (by omega),bW];omega
structure zN where
 v:bz
 next:Int
 ok:Bool
def zN.no:zN:=⟨bz.zero,0,false⟩
def bz.put (v:bz):Nat->Int->bz
 |0,x=>{v with a:=x}|1,x=>{v with b:=x}|2,x=>{v with c:=x}|_,x=>{v with d:=x}
def fZ(s:az):Nat->bz->Int->zN
 |0,v,p=>⟨v,p,true⟩|n+1,v,p=>if(aV s p).ok then fZ s n (v.put (3-n) (aV s p).u) (aV s p).next else zN.no
def fc(s:az)(p:Int):zN:=fZ s 4 bz.zero p
end Dem
namespace Dem
theorem VP{s:az}{p most:Int}{r:BK}(e:r=aV s p)(gb:r.ok=true->0<=p/\p<r.next/\r.next<=s.length/\0<=r.u/\r.u<18446744073709551616)(hs:s.length<9223372036854775000)(hm:most<9223372036854775808)
 (h:(r.ok=false∨most<0)∨IntKind.u64.wrap (min most (IntKind.i64.wrap ((s.length:Int)-r.next)))<r.u):aI s p most=GI.no:=by
 rw[aI,if_neg];rw[<-e];rintro⟨h1,h2,h3,h4⟩;obtain⟨g1,g2,g3,g4,g5⟩:=gb h1;rw[JD hs hm h2 (by omega) g3]at h;rcases h with(h|h)|h
 .rw[h1]at h;cases h
 .omega
 omega
theorem SO{s:az}{p most:Int}{r:BK}(e:r=aV s p)(gb:r.ok=true->0<=p/\p<r.next/\r.next<=s.length/\0<=r.u/\r.u<18446744073709551616)(hs:s.length<9223372036854775000)(hm:most<9223372036854775808)
 (h:(r.ok=true/\0<=most)/\r.u<=IntKind.u64.wrap (min most (IntKind.i64.wrap ((s.length:Int)-r.next)))):
 aI s p most=⟨gZ s (some r.next) (some (IntKind.i64.wrap (r.next+IntKind.i64.wrap r.u))),IntKind.i64.wrap (r.next+IntKind.i64.wrap r.u),true⟩/\b9 s.length (some r.next) (some (IntKind.i64.wrap (r.next+IntKind.i64.wrap r.u))):=by
 obtain⟨⟨h1,h2⟩,h3⟩:=h;obtain⟨g1,g2,g3,g4,g5⟩:=gb h1;rw[JD hs hm h2 (by omega) g3]at h3;rw[bN (x:=r.u) (by omega) (by omega),bN (by omega) (by omega)];refine⟨?_,by simp only[b9];omega⟩;rw[aI,if_pos (by rw[<-e];exact⟨h1,h2,by omega,by omega⟩),<-e];have:(r.next+r.u).toNat-r.next.toNat=r.u.toNat:=by omega
 simp only[gZ,this]
theorem oP{s:az}{n:Nat}{v:bz}{p:Int}{r:BK}(e:r=aV s p):fZ s (n+1) v p=if r.ok then fZ s n (v.put (3-n) r.u) r.next else zN.no:=by rw[fZ,e]
end Dem
end
section
open Go
namespace Dem
structure bD(α:Type) where
 x:α
 next:Int
 ok:Bool
def bD.py {α:Type}:bD (List α):=⟨[],0,false⟩
def iH(s:az)(p:Int):bD bT:=
 if(aI s p 32).ok then⟨⟨(aI s p 32).t,(aI s (aI s p 32).next 32).t⟩,(aI s (aI s p 32).next 32).next,(aI s (aI s p 32).next 32).ok⟩
 else⟨⟨(aI s p 32).t,[]⟩,(aI s p 32).next,(aI s p 32).ok⟩
def gK{α:Type}(get:Int->bD α):Nat->List α->Int->bD (List α)
 |0,l,p=>⟨l,p,true⟩|n+1,l,p=>if(get p).ok then gK get n (l++[(get p).x]) (get p).next else bD.py
def gz{α:Type}(s:az)(p most:Int)(get:Int->bD α):bD (List α):=
 if(aV s p).ok=true/\(aV s p).u<=most then gK get (aV s p).u.toNat [] (aV s p).next else bD.py
theorem wz{α:Type}{get:Int->bD α}{n:Nat}{l:List α}{p:Int}{r:bD α}(e:r=get p):gK get (n+1) l p=if r.ok then gK get n (l++[r.x]) r.next else bD.py:=by rw[gK,e]
theorem dx{s:az}{p m:Int}(hs:s.length<9223372036854775000):0<=(aI s p m).next/\(aI s p m).next<=s.length/\(aI s p m).t.length<=s.length:=by
 unfold aI;split
 .rename_i h;have:=eE h.1
  simp only[vav,vaw];omega
 simp[GI.no]
theorem JE{s:az}{p:Int}(hs:s.length<9223372036854775000):(iH s p).next<=s.length:=by
 unfold iH;split
 .exact(dx hs).2.1
 exact(dx hs).2.1
theorem JF{s:az}{p:Int}(hs:s.length<9223372036854775000):(iH s p).x.sm:=by
 have h1:=(dx (s:=s) (p:=p) (m:=32) hs).2.2;unfold iH bT.sm;split
 .have h2:=(dx (s:=s) (p:=(aI s p 32).next) (m:=32) hs).2.2;exact⟨by simp only;omega,by simp only;omega⟩
 exact⟨by simp only;omega,by simp⟩
theorem E8{α:Type}{get:Int->bD α}{q:α->Prop}(hq:∀p,q (get p).x):∀(n:Nat) (l:List α) (p:Int),(∀x∈l,q x)->∀x∈(gK get n l p).x,q x
 |0,l,p,hl=>hl|n+1,l,p,hl=>by
  unfold gK;split
  .exact E8 hq n _ _ (by
    intro x hx;rcases List.mem_append.1 hx with h|h;· exact hl x h
    simp at h;subst h;exact hq p)
  simp[bD.py]
theorem C8{α:Type}{s:az}{p m:Int}{get:Int->bD α}{q:α->Prop}(hq:∀p,q (get p).x):∀x∈(gz s p m get).x,q x:=by
 unfold gz;split
 .exact E8 hq _ _ _ (by simp)
 simp[bD.py]
theorem E9{α:Type}{get:Int->bD α}:∀(n:Nat) (l:List α) (p:Int),(gK get n l p).x.length<=l.length+n
 |0,l,p=>by simp[gK]|n+1,l,p=>by
  unfold gK;split
  .have:=E9 (get:=get) n (l++[(get p).x]) (get p).next;simp at this;omega
  simp[bD.py]
theorem yw{α:Type}{s:az}{p m:Int}{get:Int->bD α}:((gz s p m get).x.length:Int)<=max m 0:=by
 unfold gz;split
 .rename_i h;have:=E9 (get:=get) (aV s p).u.toNat [] (aV s p).next
  have h2:=eE h.1;simp at this;omega
 simp[bD.py];omega
theorem JG{α:Type}{get:Int->bD α}{L:Int}(hL:0<=L)(hg:∀p,(get p).next<=L):∀(n:Nat) (l:List α) (p:Int),p<=L->(gK get n l p).next<=L
 |0,l,p,h=>h|n+1,l,p,h=>by
  unfold gK;split
  .exact JG hL hg n _ _ (hg p)
  exact hL
theorem Ox{α:Type}{s:az}{p m:Int}{get:Int->bD α}(hg:∀p,(get p).next<=s.length):(gz s p m get).next<=s.length:=by
 unfold gz;split
 .rename_i h;exact JG (by omega) hg _ _ _ (eE h.1).2.2.1
 simp[bD.py]
def tJ(s:az)(p:Int):bD (List bT):=if(gz s p 8 (iH s)).ok&&kL (gz s p 8 (iH s)).x then gz s p 8 (iH s)else bD.py
theorem Fa{s:az}:∀(n:Nat) (v:bz) (p:Int),p<=s.length->(fZ s n v p).next<=s.length
 |0,v,p,h=>h|n+1,v,p,h=>by
  unfold fZ;split
  .rename_i h1;exact Fa n _ _ (eE h1).2.2.1
  simp[zN.no]
theorem rF{s:az}{p:Int}:(fc s p).next<=s.length:=by
 unfold fc fZ;split
 .rename_i h1;exact Fa 3 _ _ (eE h1).2.2.1
 simp[zN.no]
theorem VQ{s:az}{p:Int}(hs:s.length<9223372036854775000):(tJ s p).next<=s.length:=by
 unfold tJ;split
 .exact Ox (λp=>JE hs)
 simp[bD.py]
theorem VR{s:az}{p:Int}(hs:s.length<9223372036854775000):(tJ s p).x.length<1000000000/\∀q∈(tJ s p).x,q.sm:=by
 unfold tJ;split
 .have:=yw (s:=s) (p:=p) (m:=8) (get:=iH s);exact⟨by omega,C8 (λp=>JF hs)⟩
 simp[bD.py]
def bD.UR:bD Node:=⟨Node.zero,0,false⟩
def gL(s:az)(p:Int):bD Node:=
 if !(aI s p 32).ok then bD.UR else
 if !(fc s (aI s p 32).next).ok then bD.UR else
 if !(tJ s (fc s (aI s p 32).next).next).ok then bD.UR else
 ⟨⟨(aI s p 32).t,(fc s (aI s p 32).next).v,(tJ s (fc s (aI s p 32).next).next).x,decide ((aV s (tJ s (fc s (aI s p 32).next).next).next).u=1)⟩,
  (aV s (tJ s (fc s (aI s p 32).next).next).next).next,(aV s (tJ s (fc s (aI s p 32).next).next).next).ok&&decide ((aV s (tJ s (fc s (aI s p 32).next).next).next).u<=1)⟩
def bD.YU:bD Place:=⟨⟨0,[],bz.zero⟩,0,false⟩
def jQ(s:az)(p:Int):bD Place:=
 if !(aV s p).ok then bD.YU else
 if !(aI s (aV s p).next 32).ok then bD.YU else
 ⟨⟨(aV s p).u,(aI s (aV s p).next 32).t,(fc s (aI s (aV s p).next 32).next).v⟩,(fc s (aI s (aV s p).next 32).next).next,(fc s (aI s (aV s p).next 32).next).ok⟩
theorem Oy{s:az}{p:Int}:(aV s p).next<=s.length:=by
 cases h:(aV s p).ok with
 |true=>exact(eE h).2.2.1|false=>
  unfold aV at h ⊢;split at h<;>rename_i h1
  .split at h
   .cases h
   rename_i h2;simp only[if_neg h2];simp[BK.no]
  simp[BK.no]
theorem JH{s:az}{p:Int}:(gL s p).next<=s.length:=by
 unfold gL;split;· simp[bD.UR]
 split;· simp[bD.UR]
 split;· simp[bD.UR]
 exact Oy
theorem SP{s:az}{p:Int}:(jQ s p).next<=s.length:=by
 unfold jQ;split;· simp[bD.YU]
 split;· simp[bD.YU]
 exact rF
theorem SQ{s:az}{p:Int}(hs:s.length<9223372036854775000):(gL s p).x.sm:=by
 have z:Node.zero.sm:=⟨by simp[Node.zero],by simp[Node.zero],by simp[Node.zero]⟩;unfold gL;split;· exact z
 split;· exact z
 split;· exact z
 have h1:=(dx (s:=s) (p:=p) (m:=32) hs).2.2;have h2:=VR (s:=s) (p:=(fc s (aI s p 32).next).next) hs
 exact⟨by simp only;omega,h2.1,h2.2⟩
def bD.C9:bD cR:=⟨⟨[],[]⟩,0,false⟩
def tK(s:az)(p:Int):bD cR:=
 if !(gz s p 16 (gL s)).ok then bD.C9 else
 if(gz s (gz s p 16 (gL s)).next 256 (jQ s)).ok&&mQ ⟨(gz s p 16 (gL s)).x,(gz s (gz s p 16 (gL s)).next 256 (jQ s)).x⟩
 then⟨⟨(gz s p 16 (gL s)).x,(gz s (gz s p 16 (gL s)).next 256 (jQ s)).x⟩,(gz s (gz s p 16 (gL s)).next 256 (jQ s)).next,true⟩else bD.C9
structure Term where
 key:az
 no:Bool
 fk:List az
deriving DecidableEq
instance:Inhabited Term:=⟨⟨[],false,[]⟩⟩
def Term.cells (x:Term):List D:=[.str x.key,.bool x.no,.sl (x.fk.map bp)]
def AM:Option az->List az->Bool
 |_,[]=>true|q,v::r=>eV v&&GG q v&&AM (some v) r
def mright(x:Term):Bool:=if AM none x.fk then eV x.key&&decide (x.fk.length<=4)else false
def pz(l:List Term):Bool:=if l.length<=4 then !(l.any λx=>!mright x)else false
def JI(l:List bT)(k:az):az×Bool:=match l.find? (λx=>decide (x.key=k))with
 |some x=>(x.value,true)|none=>([],false)
def mS(x:Term)(l:List bT):Bool:=
 (if(JI l x.key).2 then(if x.fk.length=0 then true else x.fk.contains (JI l x.key).1)else false)!=x.no
def zO(x:List Term)(l:List bT):Bool:=!(x.any λm=>!mS m l)
def jR(x:Term):az:=aB x.key++aF (2*x.fk.length+(if x.no then 1 else 0))++(x.fk.map aB).flatten
def yx(l:List Term):az:=if pz l then aF l.length++(l.map jR).flatten else[]
def dP(s:az)(p most:Int):Option (Int×Int):=if(aV s p).ok=true/\(aV s p).u<=most then some ((aV s p).u,(aV s p).next)else none
def fT(s:az)(p:Int):Option (az×Int):=if(aI s p 32).ok then some ((aI s p 32).t,(aI s p 32).next)else none
def fw(s:az):Nat->List az->Int->Option (List az×Int)
 |0,l,p=>some (l,p)|n+1,l,p=>match fT s p with
  |some (x,q)=>fw s n (l++[x]) q|none=>none
def kN(s:az)(p:Int):Option (Term×Int):=match fT s p with
 |none=>none|some (k,q)=>match dP s q 9 with
  |none=>none|some (n,r)=>match fw s (n.toNat / 2) [] r with
   |none=>none|some (l,e)=>some (⟨k,decide (n%2=1),l⟩,e)
def fe(s:az):Nat->List Term->Int->Option (List Term×Int)
 |0,l,p=>some (l,p)|n+1,l,p=>match kN s p with
  |some (x,q)=>fe s n (l++[x]) q|none=>none
def AN(s:az)(p:Int):Option (List Term×Int):=match dP s p 4 with
 |none=>none|some (n,q)=>match fe s n.toNat [] q with
  |none=>none|some (l,e)=>if pz l then some (l,e)else none
abbrev bz.u' (v:bz):Prop:=(0<=v.a/\v.a<18446744073709551616)/\(0<=v.b/\v.b<18446744073709551616)/\(0<=v.c/\v.c<18446744073709551616)/\(0<=v.d/\v.d<18446744073709551616)
def PF(x y:Int):Int×Bool:=if x.toNat*y.toNat<18446744073709551616 then(((x.toNat*y.toNat:Nat):Int),true)else(0,false)
def Mo(v:bz)(n:Int):bz×Bool:=both (λx _=>PF x n) v bz.zero
def qf(x y:Int):Int:=if x<y then -1 else if y<x then 1 else 0
def wA(a b:bz):Int:=
 if qf a.a b.a≠0 then qf a.a b.a else if qf a.b b.b≠0 then qf a.b b.b else if qf a.c b.c≠0 then qf a.c b.c else qf a.d b.d
structure bR where
 id:Int
 prio:Int
deriving DecidableEq
instance:Inhabited bR:=⟨⟨0,0⟩⟩
def bR.cells (q:bR):List D:=[.int .u64 q.id,.int .i64 q.prio]
def dy(a b:bR):Bool:=decide (b.prio<a.prio)||(decide (a.prio=b.prio)&&decide (a.id<b.id))
def vu(l:List bR)(e:bR):Nat:=match l.findIdx? (λx=>dy e x)with
 |some k=>k|none=>l.length
def jI(l:List bR)(id:Int):Int:=idxOf (λx=>decide (x.id=id)) l
def gA(e:bR):Bool:=decide (e.prio<0)||decide (9<e.prio)
def gk(l:List bR)(e:bR):List bR×Int:=
 if gA e then(l,1)else if 0<=jI l e.id then(l,8)else if 32<=l.length then(l,9)else
 (l.take (vu l e)++e::l.drop (vu l e),0)
def Da(l:List bR)(id:Int):List bR×Bool:=match l.findIdx? (λx=>decide (x.id=id))with
 |some k=>(l.eraseIdx k,true)|none=>(l,false)
def PG(q:Option bR)(e:bR):Bool:=match q with|none=>true|some q=>dy q e
def kO(all:List bR):Option bR->Nat->List bR->Bool
 |_,_,[]=>true|q,k,e::r=>!gA e&&decide (jI all e.id=k)&&PG q e&&kO all (some e) (k+1) r
def pE(l:List bR):Bool:=kO l none 0 l&&decide (l.length<=32)
def cm(c:UInt8):az->List az
 |[]=>[[]]|x::xs=>if x=c then[]::cm c xs else match cm c xs with
  |h::r=>(x::h)::r|[]=>[[x]]
theorem rG(c:UInt8):∀s:az,(cm c s).length=s.count c+1
 |[]=>rfl|x::xs=>by
  have ih:=rG c xs;unfold cm;by_cases h:x=c
  .simp[h,ih]
  simp only[h,if_false,List.count_cons,vaC];split<;>simp_all
theorem Fb(c:UInt8)(s:az):cm c s≠[]:=λh=>by have:=rG c s;rw[h]at this;simp at this
theorem tL(c:UInt8):∀s:az,Lib.indexByte s c<0->cm c s=[s]
 |[],_=>rfl|x::xs,h=>by
  have hg:=Lib.indexByte_ge xs c;unfold Lib.indexByte at h;have hx:x≠c:=by rintro rfl;simp at h
  have h2:Lib.indexByte xs c<0:=by
   simp only[vaC,hx,if_false]at h;split at h
   .omega
   omega
  simp[cm,hx,tL c xs h2]
theorem AO(c:UInt8):∀(s:az) (j:Nat),Lib.indexByte s c=j->j<s.length/\cm c s=s.take j::cm c (s.drop (j+1))/\s.count c=(s.drop (j+1)).count c+1
 |[],j,h=>by simp[Lib.indexByte]at h|x::xs,j,h=>by
  have hg:=Lib.indexByte_ge xs c;unfold Lib.indexByte at h;by_cases hx:x=c
  .simp only[vaC,hx,if_true]at h;have:j=0:=by omega
   subst this;simp[cm,hx]
  simp only[vaC,hx,if_false]at h;split at h
  .omega
  obtain⟨i,rfl⟩:∃i,j=i+1:=⟨j-1,by omega⟩;obtain⟨h1,h2,h3⟩:=AO c xs i (by omega);refine⟨by simp;omega,?_,?_⟩
  .simp[cm,hx,h2]
  simp[hx,h3]
theorem GJ{s:az}{r:Int}(h:r=Lib.indexByte s 47)(h0:r<0):s.count 47=0:=by have e:=rG 47 s;rw[tL 47 s (h▸h0)]at e;simp at e;simpa using e
theorem GK{s:az}{r:Int}(h:r=Lib.indexByte s 47)(h0:0<=r):∃j:Nat,r=j/\j<s.length/\cm 47 s=s.take j::cm 47 (s.drop (j+1))/\s.count 47=(s.drop (j+1)).count 47+1:=by obtain⟨j,rfl⟩:=Int.eq_ofNat_of_zero_le h0;obtain⟨h1,h2,h3⟩:=AO 47 s j h.symm;exact⟨j,rfl,h1,h2,h3⟩
theorem Db{s:az}(h:s.count 47=0):cm 47 s=[s]:=by refine tL 47 s (Int.not_le.1 λh0=>?_);obtain⟨j,_,_,_,e⟩:=GK rfl h0;omega
def fU(l:List az):az:=Lib.join l [47]
def parts(s:az):List az:=if decide (3<(cm 47 s).length)||(cm 47 s).any (λn=>!eV n)then[]else cm 47 s
def om(s:az):List az:=(List.range (parts s).length).map λk=>fU ((parts s).take (k+1))
def oo(a b:az):Bool:=(om b).contains a
def named(p:az):Bool:=decide (p=[])||oo p p
def above(p:az):List az:=[]::om p
def parent(p:az):az:=(above p).getD ((above p).length-2) []
theorem lF(s:az):(parts s).length<=3:=by
 unfold parts;split
 .simp
 rename_i h;simp at h;omega
theorem iX(s:az):(om s).length=(parts s).length:=by simp[om]
theorem vJ(x:az)(r:List az):Lib.joinTail [47] (x::r)=47::fU (x::r):=by rw[fU,Lib.join_cons];simp[Lib.joinTail]
theorem AP:∀s:az,fU (cm 47 s)=s
 |[]=>rfl|c::s=>by
  have ih:=AP s;unfold cm;cases e:cm 47 s with
  |nil=>exact absurd e (Fb 47 s)|cons h r=>
   rw[e]at ih;split
   .rename_i hc;show Lib.join ([]::h::r) [47]=_
    rw[Lib.join_cons,vJ,ih,hc];rfl
   show Lib.join ((c::h)::r) [47]=_;rw[Lib.join_cons,List.cons_append,<-Lib.join_cons];exact vac _ ih
theorem Em(l:List az)(k:Nat):(Lib.joinTail [47] (l.take k)).length<=(Lib.joinTail [47] l).length:=by
 have e:Lib.joinTail [47] l=Lib.joinTail [47] (l.take k)++Lib.joinTail [47] (l.drop k):=by simp only[Lib.joinTail];rw[<-List.flatten_append,<-List.map_append,List.take_append_drop]
 rw[e,vaa];omega
theorem Mp(l:List az)(k:Nat):(fU (l.take k)).length<=(fU l).length:=by
 cases l with
 |nil=>simp|cons x r=>
  cases k with
  |zero=>simp[fU,Lib.join_nil]|succ k=>
   simp only[List.take_succ_cons,fU,Lib.join_cons,vaa];have:=Em r k
   omega
theorem Fc(s:az)(k:Nat):(fU ((parts s).take k)).length<=s.length:=by
 refine Nat.le_trans (Mp _ k) ?_;unfold parts;split
 .simp[fU,Lib.join_nil]
 rw[AP];exact vad _
theorem VS{s:az}{k:Nat}(hk:k<(parts s).length):(om s)[k]?=some (fU ((parts s).take (k+1))):=by simp[om,hk]
theorem Fe{s:az}{k:Nat}(hk:k<(parts s).length):(om s).take (k+1)=(om s).take k++[fU ((parts s).take (k+1))]:=by
 have hl:k<(om s).length:=by rw[iX];exact hk
 rw[List.take_add_one,VS hk];rfl
def qg(p:bT):az:=aB p.key++aB p.value
def pF(l:List bT):az:=if kL l then aF l.length++(l.map qg).flatten else[]
def oC(n:Node):az:=aB n.name++eZ n.cap++pF n.labels++aF (if n.up then 1 else 0)
def yy(x:Place):az:=aF x.bL++aB x.node++eZ x.v
def iy(p:cR):az:=aF p.nodes.length++(p.nodes.map oC).flatten++aF p.places.length++(p.places.map yy).flatten
def bz.u (v:bz):Prop:=v.a<18446744073709551616/\v.b<18446744073709551616/\v.c<18446744073709551616/\v.d<18446744073709551616
def bz.at_ (v:bz):Nat->Int
 |0=>v.a|1=>v.b|2=>v.c|_=>v.d
def Bt(v:bz):Nat->az
 |0=>[]|k+1=>Bt v k++aF (v.at_ k)
theorem mH(v:bz):(eZ v).length<=40:=by
 unfold eZ;have:=bG v.a;have:=bG v.b;have:=bG v.c;have:=bG v.d
 simp only[vaa];omega
theorem mo{α:Type}{f:α->az}{l:List α}{k:Nat}{x:α}(h:l[k]?=some x):((l.drop k).map f).flatten=f x++((l.drop (k+1)).map f).flatten:=by obtain⟨hk,rfl⟩:=List.getElem?_eq_some_iff.1 h;rw[List.drop_eq_getElem_cons hk,List.map_cons,List.flatten_cons]
structure Ask where
 path:az
 iI:bz
 count:Int
 prio:Int
 dX:Int
 cj:List Term
deriving DecidableEq
instance:Inhabited Ask:=⟨⟨[],bz.zero,0,0,0,[]⟩⟩
def Ask.zero:Ask:=⟨[],bz.zero,0,0,0,[]⟩
def eC(x:Ask):bz×Bool:=Mo x.iI (x.count%18446744073709551616)
def Rm(n a b:Int):Bool:=decide (a<=n)&&decide (n<=b)
def c8(x:Ask):Int:=
 if !oo x.path x.path then 6 else if !Rm x.count 1 8||!Rm x.prio 0 9||!Rm x.dX 1 100 then 1 else if !pz x.cj then 2 else if !(eC x).2 then 5 else 0
def tM(x:Ask):az:=if c8 x≠0 then[]else aB x.path++eZ x.iI++aF x.count++aF x.prio++aF x.dX++yx x.cj
def fitting(l:List cK)(x:List Term):List cK:=l.filter λs=>zO x s.labels
structure JJ where
 at_:Nat
 left:bz
 ok:Bool
def yz(v:bz):List cK->Nat->JJ->JJ
 |[],_,b=>b|s::r,k,b=>yz v r (k+1) (if(ix s.free v).2&&(!b.ok||decide (wA (ix s.free v).1 b.left<0))then⟨k,(ix s.free v).1,true⟩else b)
def best(l:List cK)(v:bz):JJ:=yz v l 0 ⟨0,bz.zero,false⟩
instance:Inhabited cK:=⟨⟨[],bz.zero,[]⟩⟩
def zP(v:bz):Nat->List cK->List az->List az×Bool
 |0,_,out=>(out,true)|n+1,l,out=>if !(best l v).ok then([],false)else
  zP v n (l.set (best l v).at_ {l.getD (best l v).at_ default with free:=(best l v).left}) (out++[(l.getD (best l v).at_ default).node])
def fit(l:List cK)(x:List Term)(v:bz)(count:Int):List az×Bool:=
 if 8<count then([],false)else zP v (max count 0).toNat (fitting l x) []
structure aR where
 path:az
 cU:bz
 used:bz
deriving DecidableEq
abbrev aR.cells (e:aR):List D:=[.str e.path,.int .u64 e.cU.a,.int .u64 e.cU.b,.int .u64 e.cU.c,.int .u64 e.cU.d,.int .u64 e.used.a,.int .u64 e.used.b,.int .u64 e.used.c,.int .u64 e.used.d]
def aR.zero:aR:=⟨[],bz.zero,bz.zero⟩
instance:Inhabited aR:=⟨aR.zero⟩
def bZ(t:List aR)(p:az):Int:=idxOf (λe=>decide (e.path=p)) t
def qi(t:List aR)(p:az):aR×Bool:=match t.find? (λe=>decide (e.path=p))with
 |some e=>(e,true)|none=>(aR.zero,false)
def yA(t:List aR)(p:az)(v:bz):List aR×Int:=
 if !named p then(t,6)else
 if !decide (p=[])&&decide (bZ t (parent p)<0)then(t,7)else
 if decide (bZ t p<0)&&decide (16<=t.length)then(t,9)else
 match t.findIdx? (λe=>decide (e.path=p))with
 |some k=>if !oh ((t.getD k aR.zero).used) v then(t,10)else(t.set k {t.getD k aR.zero with cU:=v},0)|none=>match t.findIdx? (λe=>!Op.bytesLess e.path p)with
  |some k=>(t.take k++⟨p,v,bz.zero⟩::t.drop k,0)|none=>(t++[⟨p,v,bz.zero⟩],0)
def iu(v:bz)(e:aR):aR×Int:=
 if !(jW e.used v).2 then(e,5)else if !oh (jW e.used v).1 e.cU then(e,10)else({e with used:=(jW e.used v).1},0)
def ff(v:bz)(e:aR):aR×Int:=
 if !(ix e.used v).2 then(e,15)else({e with used:=(ix e.used v).1},0)
def lG(f:aR->aR×Int)(t:List aR):List az->List aR->List aR×Int
 |[],out=>(out,0)|p::r,out=>if(f (t.getD (bZ t p).toNat aR.zero)).2≠0 then(t,(f (t.getD (bZ t p).toNat aR.zero)).2)else lG f t r (out.set (bZ t p).toNat (f (t.getD (bZ t p).toNat aR.zero)).1)
def sq(f:aR->aR×Int)(t:List aR)(p:az):List aR×Int:=
 if !named p then(t,6)else if(above p).any (λq=>decide (bZ t q<0))then(t,7)else lG f t (above p) t
def jz(t:List aR)(p:az)(v:bz):List aR×Int:=sq (iu v) t p
def uO(t:List aR)(p:az)(v:bz):List aR×Int:=sq (ff v) t p
def su(p:az):List aR->bz->Option bz
 |[],s=>some s|x::r,s=>if x.path=[]then su p r s else if parent x.path≠p then su p r s else if(jW s x.used).2 then su p r (jW s x.used).1 else none
def mT(l:List aR)(e:aR):Bool:=match su e.path l bz.zero with
 |none=>false|some s=>oh e.used e.cU&&oh s e.used
def fG(all:List aR):Option az->List aR->Bool
 |_,[]=>true|none,e::r=>fG all (some e.path) r|some q,e::r=>!sle e.path q&&named e.path&&!decide (bZ all (parent e.path)<0)&&fG all (some e.path) r
def ic(l:List aR):Bool:=
 if l.length<1 then false else if 16<l.length then false else if(l.getD 0 aR.zero).path≠[]then false else fG l none l&&!(l.any λe=>!mT l e)
def gm(e:aR):az:=aB e.path++eZ e.cU++eZ e.used
def iY(l:List aR):az:=aF l.length++(l.map gm).flatten
def bD.VT:bD aR:=⟨aR.zero,0,false⟩
def tN(s:az)(p:Int):bD aR:=
 if !(aI s p 98).ok then bD.VT else
 if !(fc s (aI s p 98).next).ok then bD.VT else
 ⟨⟨(aI s p 98).t,(fc s (aI s p 98).next).v,(fc s (fc s (aI s p 98).next).next).v⟩,(fc s (fc s (aI s p 98).next).next).next,(fc s (fc s (aI s p 98).next).next).ok⟩
def gM(s:az):Nat->List aR->Int->bD (List aR)
 |0,l,p=>⟨l,p,true⟩|n+1,l,p=>if !(tN s p).ok then bD.py else if decide ((tN s p).x=aR.zero)&&decide (0<l.length)then bD.py else gM s n (l++[(tN s p).x]) (tN s p).next
def pG(s:az)(p:Int):bD (List aR):=
 if !(aV s p).ok then bD.py else if 16<(aV s p).u then bD.py else
 if !(gM s (aV s p).u.toNat [] (aV s p).next).ok then bD.py else
 if !ic (gM s (aV s p).u.toNat [] (aV s p).next).x then bD.py else
 ⟨(gM s (aV s p).u.toNat [] (aV s p).next).x,(gM s (aV s p).u.toNat [] (aV s p).next).next,true⟩
theorem Ff:∀(x y:az),Op.bytesLess x y=decide (x<y)
 |[],[]=>by simp[Op.bytesLess]|a::x,[]=>by simp[Op.bytesLess]|[],b::y=>by simp[Op.bytesLess]|a::x,b::y=>by have ih:=Ff x y;simp only[Op.bytesLess,ih];rw[Bool.eq_iff_iff];simp[List.cons_lt_cons_iff]
theorem jJ(x:az):¬x<x:=List.lt_irrefl x
theorem zQ{x y z:az}(h:x<y)(g:y<z):x<z:=List.lt_trans h g
theorem Oz(x y:az):x<y∨x=y∨y<x:=by
 by_cases h:x<y
 .exact .inl h
 by_cases g:y<x
 .exact .inr (.inr g)
 exact .inr (.inl (List.le_antisymm (List.not_lt.1 g) (List.not_lt.1 h)))
theorem Fg{x y:az}(h:x<y)(g:y<x):False:=jJ x (zQ h g)
theorem OA{x y:az}:(!sle x y)=true↔y<x:=by
 rcases Oz x y with h|rfl|h
 .have:¬y<x:=λg=>Fg h g;simp[sle,Ff,h,this]
 .simp[sle]
 simp only[sle,Ff];have h1:¬x<y:=λg=>Fg h g
 have h2:x≠y:=λe=>by subst e;exact jJ x h
 simp[h1,h2,h]
abbrev US(l:List Node):Prop:=l.Pairwise (λx y=>x.name<y.name)
def Node.iZ (n:Node):Bool:=eV n.name&&kL n.labels
structure cR.ok (p:cR):Prop where
 GL:US p.nodes
 iZ:∀n∈p.nodes,n.iZ=true
 free:∀n∈p.nodes,(iG n.name p.nodes p.places).2=true
 most:p.nodes.length<=16
 here:∀x∈p.places,∃n∈p.nodes,n.name=x.node
theorem AQ{l:List Node}{ps:List Place}:∀(r:List Node) (q:Option az),kM l ps q r=true↔
 ((∀n∈r,n.iZ=true)/\(∀n∈r,(iG n.name l ps).2=true)/\US r/\∀a,q=some a->∀n∈r,a<n.name)
 |[],q=>by simp[kM]|n::r,q=>by
  have ih:=AQ (l:=l) (ps:=ps) r (some n.name);simp only[kM,vae,ih];have hp:GG q n.name=true↔∀a,q=some a->a<n.name:=by
   cases q with
   |none=>simp[GG]|some a=>simp only[GG,OA];simp
  rw[hp];constructor
  .rintro⟨⟨⟨⟨h1,h2⟩,h3⟩,h4⟩,g1,g2,g3,g4⟩;refine⟨?_,?_,?_,?_⟩
   .intro m hm;rcases List.mem_cons.1 hm with rfl|hm
    .simp[Node.iZ,h2,h3]
    exact g1 m hm
   .intro m hm;rcases List.mem_cons.1 hm with rfl|hm
    .exact h1
    exact g2 m hm
   .exact List.pairwise_cons.2 ⟨λm hm=>g4 _ rfl m hm,g3⟩
   intro a ha m hm;rcases List.mem_cons.1 hm with rfl|hm
   .exact h4 a ha
   exact zQ (h4 a ha) (g4 _ rfl m hm)
  rintro⟨h1,h2,h3,h4⟩;have f:=h1 n (by simp)
  simp only[Node.iZ,vae]at f;have h3':=List.pairwise_cons.1 h3
  exact⟨⟨⟨⟨h2 n (by simp),f.1⟩,f.2⟩,λa ha=>h4 a ha n (by simp)⟩,λm hm=>h1 m (by simp[hm]),λm hm=>h2 m (by simp[hm]),h3'.2,λa ha m hm=>by cases ha;exact h3'.1 m hm⟩
theorem wB{p:cR}:mQ p=true↔p.ok:=by
 unfold mQ;simp only[vae,AQ,vai,Bool.not_eq_true',List.any_eq_false,C5];constructor
 .rintro⟨⟨⟨h1,h2,h3,_⟩,h5⟩,h6⟩;refine⟨h3,h1,h2,h5,λx hx=>?_⟩;have:=h6 x hx
  simpa using this
 rintro⟨h1,h2,h3,h4,h5⟩;refine⟨⟨⟨h2,h3,h1,by simp⟩,h4⟩,λx hx=>?_⟩;obtain⟨n,hn,e⟩:=h5 x hx;simp;exact⟨n,hn,e⟩
theorem SR{l:List Node}(ha:US l){n:Node}(hn:n∈l):l.find? (λx=>decide (x.name=n.name))=some n:=by
 induction l with
 |nil=>cases hn
 |cons m r ih=>
  rw[List.find?_cons];have ha':=List.pairwise_cons.1 ha
  rcases List.mem_cons.1 hn with rfl|hn
  .simp
  have:m.name≠n.name:=λe=>by have:=ha'.1 n hn;rw[e]at this;exact jJ _ this
  simp[this,ih ha'.2 hn]
theorem PI{l:List Node}(ha:US l){n:Node}(hn:n∈l):ir n.name l=(n,true):=by unfold ir;rw[SR ha hn]
theorem Mq{l:List Node}{name:az}(h:(ir name l).2=true):(ir name l).1∈l/\(ir name l).1.name=name:=by
 unfold ir at h ⊢;split at h
 .rename_i x hx;have h1:=List.mem_of_find?_eq_some hx
  have h2:=List.find?_some hx;exact⟨h1,by simpa using h2⟩
 cases h
def left(name:az)(ps:List Place)(v:bz×Bool):bz×Bool:=ps.foldl (dW name) v
theorem Fh{l:List Node}(ha:US l){n:Node}(hn:n∈l)(ps:List Place):iG n.name l ps=if(left n.name ps (n.cap,true)).2 then left n.name ps (n.cap,true)else(bz.zero,false):=by unfold iG;rw[PI ha hn];rfl
theorem lH{l:List Node}(ha:US l){n:Node}(hn:n∈l)(ps:List Place):(iG n.name l ps).2=(left n.name ps (n.cap,true)).2:=by
 rw[Fh ha hn];split
 .rfl
 rename_i h;simp at h;simp[h]
theorem Mr(name:az)(ps:List Place):∀v,(left name ps (v,false))=(v,false):=by
 induction ps with
 |nil=>intro v;rfl|cons x r ih=>intro v;simp only[left,List.foldl_cons];rw[show dW name (v,false) x=(v,false) by simp[dW]];exact ih v
theorem PJ(name:az)(ps:List Place)(x:Place)(v:bz×Bool):left name (ps++[x]) v=dW name (left name ps v) x:=by simp[left]
def bz.w (v:bz):Prop:=∀k<4,0<=v.at_ k/\v.at_ k<18446744073709551616
theorem bz.YV {a b:bz} (h:∀k<4,a.at_ k=b.at_ k):a=b:=by rw[pi];exact⟨h 0 (by decide),h 1 (by decide),h 2 (by decide),h 3 (by decide)⟩
theorem lt4{P:Nat->Prop}:(∀k<4,P k)↔P 0/\P 1/\P 2/\P 3:=by
 constructor
 .intro h;exact⟨h 0 (by decide),h 1 (by decide),h 2 (by decide),h 3 (by decide)⟩
 rintro⟨h0,h1,h2,h3⟩ k hk;match k,hk with
 |0,_=>exact h0|1,_=>exact h1|2,_=>exact h2|3,_=>exact h3
theorem VU{x y:Int}:(Jv x y).2=true↔y.toNat<=x.toNat:=by unfold Jv;split<;>simp<;>omega
theorem VV{x y:Int}:(Ju x y).2=true↔x.toNat+y.toNat<18446744073709551616:=by unfold Ju;split<;>simp<;>omega
theorem uP{a b:bz}:(ix a b).2=true↔∀k<4,(b.at_ k).toNat<=(a.at_ k).toNat:=by
 rw[lt4];simp only[bz.at_,<-VU];unfold ix both;split
 .rename_i h;simp only[vae]at h;simp[h]
 rename_i h;simp only[vae,not_and]at h;simp;intro h1 h2 h3;simpa using h ⟨⟨h1,h2⟩,h3⟩
theorem GM{a b:bz}:(jW a b).2=true↔∀k<4,(a.at_ k).toNat+(b.at_ k).toNat<18446744073709551616:=by
 rw[lt4];simp only[bz.at_,<-VV];unfold jW both;split
 .rename_i h;simp only[vae]at h;simp[h]
 rename_i h;simp only[vae,not_and]at h;simp;intro h1 h2 h3;simpa using h ⟨⟨h1,h2⟩,h3⟩
theorem GN{a b:bz}(h:(ix a b).2=true):∀k<4,(ix a b).1.at_ k=((((a.at_ k).toNat-(b.at_ k).toNat)%18446744073709551616:Nat):Int):=by
 have h':=uP.1 h;rw[lt4]at h' ⊢;simp only[bz.at_]at h' ⊢;unfold ix both at h ⊢;split at h
 .rename_i g;rw[if_pos g];simp only[Jv];rw[if_neg (by omega),if_neg (by omega),if_neg (by omega),if_neg (by omega)];simp
 cases h
theorem OB{a b:bz}(h:(jW a b).2=true):∀k<4,(jW a b).1.at_ k=(((a.at_ k).toNat+(b.at_ k).toNat:Nat):Int):=by
 have h':=GM.1 h;rw[lt4]at h' ⊢;simp only[bz.at_]at h' ⊢;unfold jW both at h ⊢;split at h
 .rename_i g;rw[if_pos g];simp only[Ju];rw[if_pos (by omega),if_pos (by omega),if_pos (by omega),if_pos (by omega)];simp
 cases h
theorem SS{a b:bz}(h:(ix a b).2=true):(ix a b).1.w:=by intro k hk;rw[GN h k hk];omega
def here(name:az)(ps:List Place):List Place:=ps.filter (λx=>decide (x.node=name))
def mU(k:Nat)(l:List Place):Nat:=(l.map (λx=>(x.v.at_ k).toNat)).sum
theorem uQ(name:az):∀(ps:List Place) (v:bz),v.w->((left name ps (v,true)).2=true↔∀k<4,mU k (here name ps)<=(v.at_ k).toNat)/\
 ((left name ps (v,true)).2=true->∀k<4,(left name ps (v,true)).1.at_ k=(((v.at_ k).toNat-mU k (here name ps):Nat):Int))
 |[],v,hv=>by simp only[left,List.foldl_nil,here,List.filter_nil,mU,List.map_nil,List.sum_nil];exact⟨by simp,λ_ k hk=>by have:=hv k hk;omega⟩|x::r,v,hv=>by
  by_cases hx:x.node=name
  .have e1:left name (x::r) (v,true)=left name r (ix v x.v):=by simp[left,dW,hx]
   have e2:here name (x::r)=x::here name r:=by simp[here,hx]
   rw[e1,e2];cases hs:(ix v x.v).2 with
   |false=>
    have e3:ix v x.v=((ix v x.v).1,false):=by rw[<-hs]
    rw[e3,Mr];refine⟨⟨λh=>Bool.noConfusion h,λh=>?_⟩,λh=>Bool.noConfusion h⟩;have:(ix v x.v).2=true:=uP.2 λk hk=>by have:=h k hk;simp[mU]at this;omega
    rw[hs]at this;cases this
   |true=>
    have e3:ix v x.v=((ix v x.v).1,true):=by rw[<-hs]
    rw[e3];obtain⟨i1,i2⟩:=uQ name r (ix v x.v).1 (SS hs);have hat:=GN hs
    have hok:=uP.1 hs;constructor
    .rw[i1];constructor
     .intro h k hk;have a1:=h k hk;have a2:=hat k hk;have a3:=hok k hk;have a4:=hv k hk
      rw[a2]at a1;simp only[mU,List.map_cons,List.sum_cons]at a1 ⊢;omega
     intro h k hk;have a1:=h k hk;have a2:=hat k hk;have a3:=hok k hk;have a4:=hv k hk
     rw[a2];simp only[mU,List.map_cons,List.sum_cons]at a1 ⊢;omega
    intro h k hk;rw[i2 h k hk];have a1:=(i1.1 h) k hk;have a2:=hat k hk;have a3:=hok k hk;have a4:=hv k hk
    rw[a2]at a1 ⊢;simp only[mU,List.map_cons,List.sum_cons]at a1 ⊢;omega
  have e1:left name (x::r) (v,true)=left name r (v,true):=by simp[left,dW,hx]
  have e2:here name (x::r)=here name r:=by simp[here,hx]
  rw[e1,e2];exact uQ name r v hv
theorem Ms{k:Nat}{l m:List Place}(h:l.Sublist m):mU k l<=mU k m:=by
 unfold mU;induction h with
 |slnil=>simp|cons a _ ih=>simp;omega|cons_cons a _ ih=>simp;omega
structure cR.w (p:cR):Prop where
 cap:∀n∈p.nodes,n.cap.w
 v:∀x∈p.places,x.v.w
theorem cR.VW {p:cR} (h:p.ok) (hw:p.w) {n:Node} (hn:n∈p.nodes):∀k<4,mU k (Dem.here n.name p.places)<=(n.cap.at_ k).toNat:=by have:=h.free n hn;rw[lH h.GL hn]at this;exact(uQ n.name p.places n.cap (hw.cap n hn)).1.1 this
theorem Mt{p:cR}(ha:US p.nodes)(hc:∀n∈p.nodes,n.cap.w){n:Node}(hn:n∈p.nodes)(h:∀k<4,mU k (here n.name p.places)<=(n.cap.at_ k).toNat):(iG n.name p.nodes p.places).2=true:=by rw[lH ha hn];exact(uQ n.name p.places n.cap (hc n hn)).1.2 h
theorem VX{p:cR}(h:p.ok)(hw:p.w)(f:Place->Bool):cR.ok ⟨p.nodes,p.places.filter f⟩:=by refine⟨h.GL,h.iZ,λn hn=>?_,h.most,λx hx=>h.here x (List.mem_filter.1 hx).1⟩;refine Mt (p:=⟨p.nodes,p.places.filter f⟩) h.GL hw.cap hn λk hk=>?_;refine Nat.le_trans (Ms ?_) (cR.VW h hw hn k hk);exact(List.filter_sublist (l:=p.places) (p:=f)).filter _
theorem YW{p:cR}(hw:p.w)(f:Place->Bool):cR.w ⟨p.nodes,p.places.filter f⟩:=⟨hw.cap,λx hx=>hw.v x (List.mem_filter.1 hx).1⟩
theorem Mu:bz.zero.w:=by
 intro k hk;have:bz.zero.at_ k=0:=by unfold bz.at_;split<;>rfl
 rw[this];omega
theorem wC{name:az}{v:bz}{l:List Node}{ps:List Place}(h:so name v l ps=0):(ir name l).2=true/\(ir name l).1.up=true/\(iG name l ps).2=true/\oh v (iG name l ps).1=true:=by
 unfold so at h;split at h
 .omega
 split at h
 .omega
 split at h
 .omega
 rename_i h1 h2 h3;simp only[vaB,not_or,Bool.not_eq_true',Bool.not_eq_false]at h1 h2 h3;exact⟨h1,h2,h3.1,h3.2⟩
theorem VY{p:cR}(h:p.ok)(hw:p.w){name:az}{v:bz}(hv:v.w)(bL:Int)(h0:so name v p.nodes p.places=0):cR.ok ⟨p.nodes,p.places++[⟨bL,name,v⟩]⟩/\cR.w ⟨p.nodes,p.places++[⟨bL,name,v⟩]⟩:=by
 obtain⟨r1,r2,r3,r4⟩:=wC h0;obtain⟨m1,m2⟩:=Mq r1;refine⟨⟨h.GL,h.iZ,λn hn=>?_,h.most,?_⟩,⟨hw.cap,?_⟩⟩
 .show(iG n.name p.nodes (p.places++[⟨bL,name,v⟩])).2=true;rw[lH h.GL hn,PJ];have hl:=h.free n hn
  rw[lH h.GL hn]at hl;unfold dW;split
  .rename_i g;simp only[vae,vai]at g;obtain⟨g1,g2⟩:=g;rw[iG,g2,]at r4;have e:iG name p.nodes p.places=left n.name p.places (n.cap,true):=by rw[g2,Fh h.GL hn,if_pos hl]
   rw[<-g2]at r4;have r4':oh v (left n.name p.places (n.cap,true)).1=true:=by rw[<-e,g2];unfold iG;rw[<-g2];exact r4
   exact r4'
  exact hl
 .intro x hx;rcases List.mem_append.1 hx with hx|hx
  .exact h.here x hx
  simp at hx;subst hx;exact⟨_,m1,m2⟩
 intro x hx;rcases List.mem_append.1 hx with hx|hx
 .exact hw.v x hx
 simp at hx;subst hx;exact hv
theorem Fi(l:List Node)(bL:Int){v:bz}(hv:v.w):∀(names:List az) (ps:List Place),cR.ok ⟨l,ps⟩->cR.w ⟨l,ps⟩->(gQ l bL v names ps).1=none->cR.ok ⟨l,(gQ l bL v names ps).2⟩/\cR.w ⟨l,(gQ l bL v names ps).2⟩
 |[],ps,h,hw,_=>⟨h,hw⟩|n::r,ps,h,hw,g=>by
  unfold gQ at g ⊢;split
  .rename_i h1;rw[if_pos h1]at g;cases g
  rename_i h1;rw[if_neg h1]at g;have h0:so n v l ps=0:=by omega
  obtain⟨a,b⟩:=VY (p:=⟨l,ps⟩) h hw hv bL h0;exact Fi l bL hv r _ a b g
theorem YX{p:cR}(h:p.ok)(hw:p.w)(bL:Int)(names:List az){v:bz}(hv:v.w):(zM p bL names v).1.ok/\(zM p bL names v).1.w:=by
 unfold zM;split
 .exact⟨h,hw⟩
 rename_i g;exact Fi p.nodes bL hv names p.places h hw g
theorem JK(l:List Node)(nm:az):pat l nm<=l.length/\(∀n∈l.take (pat l nm),n.name<nm)/\(∀n,l[pat l nm]?=some n->¬n.name<nm):=by
 unfold pat;split
 .rename_i k hk;obtain⟨iw,hp,hb⟩:=List.findIdx?_eq_some_iff_getElem.1 hk;refine⟨by omega,?_,?_⟩
  .intro n hn;obtain⟨j,hj⟩:=List.getElem?_of_mem hn;rw[List.getElem?_take]at hj;split at hj
   .rename_i Yi;rw[vaj (by omega)]at hj;cases hj;have:=hb j Yi
    simpa[Ff]using this
   cases hj
  intro n hn;rw[vaj iw]at hn;cases hn;simpa[Ff]using hp
 rename_i hk;rw[List.findIdx?_eq_none_iff]at hk;refine⟨vad _,?_,?_⟩
 .intro n hn;rw[List.take_length]at hn;have:=hk n hn
  simpa[Ff]using this
 intro n hn;simp at hn
theorem BM{l:List Node}{k:Nat}{x y:Node}:y∈l.take k++x::l.drop k↔y∈l∨y=x:=by
 rw[vaD,vax];constructor
 .rintro(h|h|h)
  .exact .inl (van h)
  .exact .inr h
  exact .inl (List.mem_of_mem_drop h)
 rintro(h|h)
 .rw[<-List.take_append_drop k l,vaD]at h;rcases h with h|h
  .exact .inl h
  exact .inr (.inr h)
 exact .inr (.inl h)
theorem VZ{l:List Node}(ha:US l){x:Node}(hn:∀n∈l,n.name≠x.name):US (l.take (pat l x.name)++x::l.drop (pat l x.name)):=by
 obtain⟨h1,h2,h3⟩:=JK l x.name;have hs:=ha
 rw[<-List.take_append_drop (pat l x.name) l]at hs;have hs':=List.pairwise_append.1 hs
 have hd:∀n∈l.drop (pat l x.name),x.name<n.name:=by
  intro n hm;cases hc:l.drop (pat l x.name)with
  |nil=>rw[hc]at hm;cases hm
  |cons m r=>
   have hlt:pat l x.name<l.length:=by
    rcases Nat.lt_or_ge (pat l x.name) l.length with h|h
    .exact h
    rw[vah h]at hc;cases hc
   have hg:l[pat l x.name]?=some m:=by
    have:(l.drop (pat l x.name))[0]?=some m:=by rw[hc];rfl
    simpa using this
   have Pv:m∈l:=vag hg;have hm1:x.name<m.name:=by
    rcases Oz x.name m.name with h|h|h
    .exact h
    .exact absurd h.symm (hn m Pv)
    exact absurd h (h3 m hg)
   rw[hc]at hm;rcases List.mem_cons.1 hm with rfl|hm
   .exact hm1
   have:=hs'.2.1;rw[hc]at this;exact zQ hm1 ((List.pairwise_cons.1 this).1 n hm)
 refine List.pairwise_append.2 ⟨hs'.1,List.pairwise_cons.2 ⟨hd,hs'.2.1⟩,?_⟩;intro a ha' b hb;rcases List.mem_cons.1 hb with rfl|hb
 .exact h2 a ha'
 exact hs'.2.2 a ha' b hb
theorem rH(p:cR)(n:Node):((sD p n).1=p/\(sD p n).2≠0)∨(n.iZ=true/\(∀m∈p.nodes,m.name≠n.name)/\p.nodes.length<16/\
 sD p n=(⟨p.nodes.take (pat p.nodes n.name)++{n with up:=true}::p.nodes.drop (pat p.nodes n.name),p.places⟩,0)):=by
 unfold sD;split
 .exact .inl ⟨rfl,by simp⟩
 split
 .exact .inl ⟨rfl,by simp⟩
 split
 .exact .inl ⟨rfl,by simp⟩
 split
 .exact .inl ⟨rfl,by simp⟩
 rename_i h1 h2 h3 h4;simp only[Bool.not_eq_true',Bool.not_eq_false]at h1 h2;refine .inr ⟨by simp[Node.iZ,h1,h2],?_,by omega,rfl⟩;rw[<-fL]at h3;intro m hm e;exact h3 (List.any_eq_true.2 ⟨m,hm,by simp[e]⟩)
theorem PK{name:az}{ps:List Place}(h:∀x∈ps,x.node≠name)(v:bz×Bool):left name ps v=v:=by
 unfold left;induction ps generalizing v with
 |nil=>rfl|cons x r ih=>rw[List.foldl_cons,show dW name v x=v by simp[dW,h x (by simp)]];exact ih (λy hy=>h y (by simp[hy])) v
theorem YY{p:cR}(h:p.ok)(hw:p.w){n:Node}(hc:n.cap.w):(sD p n).1.ok/\(sD p n).1.w:=by
 rcases rH p n with⟨e,_⟩|⟨h1,h2,h3,e⟩
 .rw[e];exact⟨h,hw⟩
 rw[e];have ha:US (p.nodes.take (pat p.nodes n.name)++{n with up:=true}::p.nodes.drop (pat p.nodes n.name)):=VZ (x:={n with up:=true}) h.GL h2
 refine⟨⟨ha,?_,?_,?_,?_⟩,⟨?_,hw.v⟩⟩
 .intro m hm;rcases BM.1 hm with hm|rfl
  .exact h.iZ m hm
  exact h1
 .intro m hm;show(iG m.name (p.nodes.take (pat p.nodes n.name)++{n with up:=true}::p.nodes.drop (pat p.nodes n.name)) p.places).2=true
  rw[lH ha hm];rcases BM.1 hm with hm|rfl
  .have:=h.free m hm;rwa[lH h.GL hm]at this
  rw[PK];intro x hx e;obtain⟨m,hm,em⟩:=h.here x hx;exact h2 m hm (by rw[em,e])
 .have:=(JK p.nodes n.name).1;simp;omega
 .intro x hx;obtain⟨m,hm,em⟩:=h.here x hx;exact⟨m,BM.2 (.inl hm),em⟩
 intro m hm;rcases BM.1 hm with hm|rfl
 .exact hw.cap m hm
 exact hc
def V0:az:=[122,111,110,101]
def yB(p:cR)(bL:Int):cR:=⟨p.nodes,p.places.filter (λx=>!decide (x.bL=bL))⟩
theorem V1:cR.ok ⟨[],[]⟩:=⟨List.Pairwise.nil,by simp,by simp,by simp,by simp⟩
theorem YZ:cR.w ⟨[],[]⟩:=⟨by simp,by simp⟩
theorem uR{α β:Type}{P:α->Prop}{f:α->β->α}(hf:∀a b,P a->P (f a b)):∀(l:List β) (a:α),P a->P (l.foldl f a)
 |[],_,h=>h|b::r,a,h=>uR hf r (f a b) (hf a b h)
structure Jb where
 id:Int
 x:Ask
 runs:Bool
 left:Int
deriving DecidableEq
def Jb.zero:Jb:=⟨0,Ask.zero,false,0⟩
instance:Inhabited Jb:=⟨Jb.zero⟩
structure cw where
 round:Int
 id:Int
 kind:Int
deriving DecidableEq
instance:Inhabited cw:=⟨⟨0,0,0⟩⟩
structure oq where
 first:Int
 l:List cw
deriving DecidableEq
structure cI where
 round:Int
 next:Int
 bt:cR
 tree:List aR
 aJ:List Jb
 queue:List bR
 ev:oq
 au:oq
def cw.cells (n:cw):List D:=[.int .u64 n.round,.int .u64 n.id,.int .i64 n.kind]
def Jb.cells (j:Jb):List D:=[.int .u64 j.id,.str j.x.path,.int .u64 j.x.iI.a,.int .u64 j.x.iI.b,.int .u64 j.x.iI.c,.int .u64 j.x.iI.d,.int .i64 j.x.count,.int .i64 j.x.prio,.int .i64 j.x.dX,.sl (j.x.cj.map Term.cells),.bool j.runs,.int .i64 j.left]
def cI.zero:cI:=⟨0,0,⟨[],[]⟩,[],[],[],⟨0,[]⟩,⟨0,[]⟩⟩
def V2:cI:={cI.zero with next:=1,tree:=[⟨[],bz.zero,bz.zero⟩]}
def Mv(l:List Jb)(id:Int):Int:=idxOf (λj=>decide (j.id=id)) l
def fy(l:List Jb)(id:Int):Jb×Bool:=match l.find? (λj=>decide (j.id=id))with
 |some j=>(j,true)|none=>(Jb.zero,false)
def u64(n:Int):Int:=n%18446744073709551616
def tell(x:oq)(n:cw):oq:=if 32<(x.l++[n]).length then⟨u64 (x.first+1),(x.l++[n]).drop 1⟩else⟨x.first,x.l++[n]⟩
def Fj(first f:Int):List cw->Nat->List cw×Int->List cw×Int
 |[],_,r=>r|n::l,k,r=>Fj first f l (k+1) (if decide (f<=u64 (first+k))&&decide (r.1.length<8)then(r.1++[n],u64 (u64 (first+k)+1))else r)
def JL(x:oq)(f:Int):List cw×Int:=Fj x.first f x.l 0 ([],max f x.first)
def iO(t:List aR)(p:az):Bool:=!((om p++[[]]).any λq=>!(qi t q).2)
def lI(s:cI)(id kind:Int):cI:={s with ev:=tell s.ev ⟨s.round,id,kind⟩}
def dF(s:cI)(x:Ask):cI×Int×Int:=
 if c8 x≠0 then(s,0,c8 x)else
 if !iO s.tree x.path then(s,0,7)else
 if 32<=s.aJ.length∨s.next=18446744073709551615 then(s,0,9)else
 if(gk s.queue ⟨s.next,x.prio⟩).2≠0 then(s,0,(gk s.queue ⟨s.next,x.prio⟩).2)else
 (lI {s with queue:=(gk s.queue ⟨s.next,x.prio⟩).1,aJ:=s.aJ++[⟨s.next,x,false,0⟩],next:=u64 (s.next+1)} s.next 1,s.next,0)
def Fk(s:cI)(k:Nat)(j:Jb):cI:={s with aJ:=s.aJ.set k j}
def kP(s:cI)(k:Nat)(j:Jb)(id:Int)(nodes:List az):cI×Int:=
 if j.runs then(s,15)else if(nodes.length:Int)≠j.x.count then(s,1)else
 if !(eC j.x).2 then(s,5)else
 if(jz s.tree j.x.path (eC j.x).1).2≠0 then(s,(jz s.tree j.x.path (eC j.x).1).2)else
 if(zM s.bt id nodes j.x.iI).2≠0 then(s,(zM s.bt id nodes j.x.iI).2)else
 (lI (Fk {s with tree:=(jz s.tree j.x.path (eC j.x).1).1,bt:=(zM s.bt id nodes j.x.iI).1,queue:=(Da s.queue id).1} k {j with runs:=true,left:=j.x.dX}) id 2,0)
def dQ(s:cI)(id:Int)(nodes:List az):cI×Int:=match s.aJ.findIdx? (λj=>decide (j.id=id))with
 |none=>(s,7)|some k=>kP s k (s.aJ.getD k Jb.zero) id nodes
def oQ(s:cI)(j:Jb):cI:=
 {s with tree:=(if(eC j.x).2 then(uO s.tree j.x.path (eC j.x).1).1 else s.tree),bt:=yB s.bt j.id}
def m6(s:cI)(id kind:Int):cI×Int:=match s.aJ.findIdx? (λj=>decide (j.id=id))with
 |none=>(s,7)|some k=>if !(s.aJ.getD k Jb.zero).runs then(s,15)else
  (lI (Fk {oQ s (s.aJ.getD k Jb.zero)with queue:=(gk s.queue ⟨id,(s.aJ.getD k Jb.zero).x.prio⟩).1} k {s.aJ.getD k Jb.zero with runs:=false,left:=0}) id kind,0)
def send(s:cI)(id kind:Int):cI×Int:=match s.aJ.findIdx? (λj=>decide (j.id=id))with
 |none=>(s,7)|some k=>(lI {(if(s.aJ.getD k Jb.zero).runs then oQ s (s.aJ.getD k Jb.zero)else{s with queue:=(Da s.queue id).1})with aJ:=s.aJ.eraseIdx k} id kind,0)
end Dem
end
section
open Go Go.Proofs Go.ChangeShapes Go.WideShapes Go.RowKit
namespace Dem
theorem trodAll_nil{H:Type}{enc:TypeId×Value->H}{P:Program}{W:World}{vs:List Value}{ds:List (DataW H)}{ps:List MemPlace}(h:DataW.TrodAll enc P W 0 (λ_=>true) true [] vs ds ps):vs=[]/\ds=[]:=by
 cases vs with
 |nil=>cases ds with
  |nil=>exact⟨rfl,rfl⟩|cons d ds=>exact h.elim
 |cons v vs=>cases ds<;>exact h.elim
theorem trodAll_cons{H:Type}{enc:TypeId×Value->H}{P:Program}{W:World}{t:TypeId}{ts:List TypeId}{vs:List Value}{ds:List (DataW H)}{ps:List MemPlace}(h:DataW.TrodAll enc P W 0 (λ_=>true) true (t::ts) vs ds ps):
 ∃v vs' d ds' p q,vs=v::vs'/\ds=d::ds'/\DataW.Trod enc P W 0 (λ_=>true) true t v d p/\DataW.TrodAll enc P W 0 (λ_=>true) true ts vs' ds' q:=by
 cases vs with
 |nil=>cases ds<;>exact h.elim
 |cons v vs=>cases ds with
  |nil=>exact h.elim|cons d ds=>
   obtain⟨p,q,h1,h2,rfl⟩:=h
   exact⟨v,vs,d,ds,p,q,rfl,rfl,h1,h2⟩
section
variable {H:Type}{enc:TypeId×Value->H}{W:World}{v:Value}{d:DataW H}{p:List MemPlace}{base:Nat}
abbrev okW(W:World):Nat->Prop:=bq (λ_=>0) [] W (λ_=>False)
theorem Y0(W:World):∀blk,blk<W.heap.size->okW W blk:=λblk hb=>⟨hb,λh=>h,λi b hb=>by simp at hb⟩
theorem OC{α:Type}{cells:α->List D}{Q:α->Prop}:∀(es:List (List D)),(∀r∈es,∃x,r=cells x/\Q x)->∃l:List α,es=l.map cells/\∀x∈l,Q x
 |[],_=>⟨[],rfl,by simp⟩|r::es,h=>by obtain⟨x,rfl,hx⟩:=h r (by simp);obtain⟨l,rfl,hl⟩:=OC es (λr hr=>h r (by simp[hr]));exact⟨x::l,rfl,λy hy=>by rcases List.mem_cons.1 hy with rfl|hy;exact hx;exact hl y hy⟩
end
end Dem
end
section
open Go
namespace Dem
theorem Fl(c:UInt8):∀(s:az),∀x∈cm c s,c ∉ x
 |[],x,h=>by simp[cm]at h;subst h;simp|y::ys,x,h=>by
  have ih:=Fl c ys;unfold cm at h;split at h
  .rcases List.mem_cons.1 h with rfl|h
   .simp
   exact ih x h
  rename_i hy;split at h
  .rename_i hd r e;rcases List.mem_cons.1 h with rfl|h
   .have:=ih hd (by rw[e];simp);intro g;rcases List.mem_cons.1 g with g|g
    .exact hy g.symm
    exact this g
   exact ih x (by rw[e];simp[h])
  simp at h;subst h;intro g;simp at g;exact hy g.symm
theorem Dc(s:az):∀(x:az),(47:UInt8) ∉ x->cm 47 (x++47::s)=x::cm 47 s
 |[],_=>by simp[cm]|a::x,h=>by
  have ha:a≠47:=λg=>h (by simp[g]);have ih:=Dc s x (λg=>h (by simp[g]))
  rw[List.cons_append,cm,if_neg ha,ih]
theorem qj:fU []=[]:=Lib.join_nil _
theorem uS(x:az):fU [x]=x:=by simp[fU,Lib.join_cons,Lib.joinTail]
theorem oR(x y:az)(r:List az):fU (x::y::r)=x++47::fU (y::r):=by show Lib.join (x::y::r) [47]=_;rw[Lib.join_cons,vJ]
theorem De(x:az):∀l:List az,l≠[]->fU (l++[x])=fU l++47::x
 |[],h=>absurd rfl h|[a],_=>by rw[List.singleton_append,oR,uS,uS]|a::b::l,_=>by have ih:=De x (b::l) (by simp);rw[List.cons_append]at ih;rw[List.cons_append,List.cons_append,oR,ih,oR];simp
theorem AR:∀l:List az,l≠[]->(∀x∈l,(47:UInt8) ∉ x)->cm 47 (fU l)=l
 |[],h,_=>absurd rfl h|[x],_,h=>by rw[uS];exact Db (List.count_eq_zero.2 (h x (by simp)))|x::y::r,_,h=>by rw[oR,Dc _ x (h x (by simp)),AR (y::r) (by simp) (λz hz=>h z (by simp[hz]))]
theorem AS(s:az):parts s=[]∨(parts s=cm 47 s/\(cm 47 s).length<=3/\∀x∈cm 47 s,eV x=true):=by
 unfold parts;split
 .exact .inl rfl
 rename_i h;simp only[vaB,vai,vaM,not_or]at h;refine .inr ⟨rfl,by omega,λx hx=>?_⟩;cases e:eV x with
 |true=>rfl|false=>exact absurd ⟨x,hx,by simp[e]⟩ h.2
theorem AT{s x:az}(h:x∈parts s):eV x=true:=by
 rcases AS s with e|⟨e,_,h2⟩
 .rw[e]at h;cases h
 exact h2 x (by rw[<-e];exact h)
theorem PL{x:az}(h:eV x=true):x≠[]:=by rintro rfl;simp[eV]at h
theorem Fm:parts []=[]:=by
 have:eV []=false:=by simp[eV]
 simp[parts,cm,this]
theorem parts_eq{s:az}{l:List az}(hs:cm 47 s=l)(hl:l.length<=3)(hr:l.any (λn=>!eV n)=false):parts s=l:=by unfold parts;rw[hs,hr,if_neg (by simp;omega)]
theorem Mw(s:az)(k:Nat):parts (fU ((parts s).take k))=(parts s).take k:=by
 rcases AS s with e|⟨e,h1,h2⟩
 .rw[e];simp[qj,Fm]
 cases k with
 |zero=>simp[qj,Fm]|succ k=>
  have hne:(parts s).take (k+1)≠[]:=by
   rw[e];have:=Fb 47 s
   cases h:cm 47 s with
   |nil=>exact absurd h this|cons a r=>simp
  have hs:cm 47 (fU ((parts s).take (k+1)))=(parts s).take (k+1):=by
   refine AR _ hne λx hx=>?_;have:=van hx
   rw[e]at this;exact Fl 47 s x this
  have hl:((parts s).take (k+1)).length<=3:=by rw[vav,e];omega
  have hr:((parts s).take (k+1)).any (λn=>!eV n)=false:=by rw[List.any_eq_false];intro x hx;rw[AT (van hx)];simp
  exact parts_eq hs hl hr
def oD(P:az)(k:Nat):az:=fU ((parts P).take k)
theorem Fo(P:az):above P=(List.range ((parts P).length+1)).map (oD P):=by
 rw[List.range_succ_eq_map,List.map_cons,vaG];have h0:oD P 0=[]:=by simp[oD,qj]
 rw[above,h0];rfl
theorem uT{P q:az}:q∈above P↔∃k,k<=(parts P).length/\q=oD P k:=by
 rw[Fo,vaI];constructor
 .rintro⟨k,h,rfl⟩;rw[List.mem_range]at h;exact⟨k,by omega,rfl⟩
 rintro⟨k,h,rfl⟩;exact⟨k,List.mem_range.2 (by omega),rfl⟩
theorem Fp(P:az):oD P 0=[]:=by simp[oD,qj]
theorem JN(P:az)(k:Nat):parts (oD P k)=(parts P).take k:=Mw P k
theorem V3{P:az}{i k:Nat}(h:i<=k):oD (oD P k) i=oD P i:=by show fU ((parts (oD P k)).take i)=fU ((parts P).take i);rw[JN,List.take_take,Nat.min_eq_left h]
theorem SU{P:az}{k:Nat}(h:k<(parts P).length):(oD P k).length<(oD P (k+1)).length:=by
 have e:(parts P).take (k+1)=(parts P).take k++[(parts P)[k]]:=by rw[List.take_add_one,vaj h];rfl
 have hne:=PL (AT (List.getElem_mem h));unfold oD;rw[e];cases k with
 |zero=>simp only[List.take_zero,List.nil_append,qj,uS];exact List.length_pos_iff.2 hne|succ k=>rw[De _ _ (by intro g;have:=vac List.length g;simp at this;rw[this]at h;simp at h)];simp
theorem GO{P:az}{i:Nat}:∀{j:Nat},i<j->j<=(parts P).length->(oD P i).length<(oD P j).length
 |0,h,_=>by omega|j+1,h,hj=>by
  have h1:=SU (P:=P) (k:=j) (by omega);by_cases e:i=j
  .rw[e];exact h1
  exact Nat.lt_trans (GO (by omega) (by omega)) h1
theorem SV{P:az}{i j:Nat}(hi:i<=(parts P).length)(hj:j<=(parts P).length)(h:oD P i=oD P j):i=j:=by
 rcases Nat.lt_trichotomy i j with g|g|g
 .have:=GO g hj;rw[h]at this;omega
 .exact g
 have:=GO g hi;rw[h]at this;omega
theorem SW{P:az}{k:Nat}(h:k<=(parts P).length):above (oD P k)=(List.range (k+1)).map (oD P):=by rw[Fo,JN,vav,Nat.min_eq_left h];refine List.map_congr_left λi hi=>?_;rw[List.mem_range]at hi;exact V3 (by omega)
theorem zR{P:az}{k:Nat}(h:k<=(parts P).length):parent (oD P k)=oD P (k-1):=by unfold parent;rw[SW h];simp only[lgM,List.length_range];rw[vam,vaA,List.getElem?_range (by omega)];simp[show k+1-2=k-1 by omega]
theorem Mx{P q r:az}(hq:q∈above P)(hr:r∈above P)(q0:q≠[])(r0:r≠[])(h:parent q=parent r):q=r:=by
 obtain⟨i,hi,rfl⟩:=uT.1 hq;obtain⟨j,hj,rfl⟩:=uT.1 hr;rw[zR hi,zR hj]at h;have i0:i≠0:=by rintro rfl;exact q0 (Fp P)
 have j0:j≠0:=by rintro rfl;exact r0 (Fp P)
 have:=SV (by omega) (by omega) h;rw[show i=j by omega]
theorem My{P q:az}(hq:q∈above P):parent q∈above P:=by obtain⟨i,hi,rfl⟩:=uT.1 hq;rw[zR hi];exact uT.2 ⟨i-1,by omega,rfl⟩
theorem Fq(P:az):[]∈above P:=by simp[above]
theorem AU{P q:az}:(decide (q=[])||oo q P)=decide (q∈above P):=by
 by_cases h:q=[]
 .subst h;simp[Fq]
 simp only[above,vax,h,false_or,decide_false,Bool.false_or,oo];by_cases g:q∈om P
 .simp[g]
 simp[g]
structure iA where
 bL:Int
 cnt:Int
def iA.cells (m:iA):List D:=[.int .u64 m.bL,.int .i64 m.cnt]
def fJ:List iA->Int->Int->List iA
 |[],j,c=>[⟨j,c⟩]|m::l,j,c=>if j=m.bL then⟨j,c⟩::l else m::fJ l j c
theorem Df:∀(l:List iA) (j c:Int),vn (l.map iA.cells) (.int .u64 j) [.int .i64 c]=(fJ l j c).map iA.cells
 |[],_,_=>rfl|m::l,j,c=>by
  simp only[List.map_cons,fJ];by_cases h:j=m.bL
  .subst h;simp[iA.cells,vn,rY]
  simp only[if_neg h,List.map_cons];rw[<-Df l j c];simp[iA.cells,vn,rY,h]
theorem mI:∀(l:List iA) (j c:Int),(fJ l j c).map iA.bL=if j∈l.map iA.bL then l.map iA.bL else l.map iA.bL++[j]
 |[],_,_=>by simp[fJ]|m::l,j,c=>by
  simp only[fJ];by_cases h:j=m.bL
  .subst h;simp
  rw[if_neg h,List.map_cons,List.map_cons,mI l j c];by_cases h2:j∈l.map iA.bL
  .simp[h2]
  rw[if_neg h2,if_neg (by simp only[vax];rintro(g|g);exact h g;exact h2 g)];rfl
def XT(s:cI)(prev:Option Int)(j:Jb):Bool:=
 if j.id<1 then false else if s.next<=j.id then false else if(match prev with|none=>false|some p=>decide (j.id<=p))then false else
 if c8 j.x≠0 then false else if !iO s.tree j.x.path then false else
 if j.runs then decide (1<=j.left)&&decide (j.left<=j.x.dX)else decide (j.left=0)&&s.queue.contains ⟨j.id,j.x.prio⟩
def ot(s:cI):Option Int->List Jb->Bool
 |_,[]=>true|q,j::r=>XT s q j&&ot s (some j.id) r
def iP(l:List Jb):Nat:=(l.filter λj=>!j.runs).length
def kQ:List Jb->List iA
 |l=>l.foldl (λm j=>if j.runs then fJ m j.id j.x.count else m) []
def gi(m:List iA)(id:Int):Int:=match m.find? (λx=>decide (x.bL=id))with
 |some x=>x.cnt|none=>0
def iK(l:List Jb):List Place->List iA->Option (List iA)
 |[],m=>some m|x::r,m=>if gi m x.bL<1 then none else if x.v≠(fy l x.bL).1.x.iI then none else iK l r (fJ m x.bL (gi m x.bL-1))
def ny(s:cI):Bool:=match iK s.aJ s.bt.places (kQ s.aJ)with
 |none=>false|some m=>m.all λx=>decide (x.cnt=0)
def oS(p:az):List Jb->bz->Option bz
 |[],v=>some v|j::r,v=>if !j.runs then oS p r v else if !decide (p=[])&&!oo p j.x.path then oS p r v else
  if !(eC j.x).2||!(jW v (eC j.x).1).2 then none else oS p r (jW v (eC j.x).1).1
def sw(s:cI)(e:aR):Bool:=match oS e.path s.aJ bz.zero with
 |none=>false|some v=>decide (v=e.used)
def gR(s:cI):Bool:=
 if !mQ s.bt then false else if !ic s.tree then false else if !pE s.queue then false else if 32<s.aJ.length then false else if s.next<1 then false else
 if 32<max s.ev.l.length s.au.l.length then false else if !ot s none s.aJ then false else
 decide (iP s.aJ=s.queue.length)&&ny s&&!(s.tree.any λe=>!sw s e)
def Dg(a b:cI):Bool:=
 decide (a.round=b.round)&&decide (a.next=b.next)&&decide (a.tree=b.tree)&&decide (a.queue=b.queue)&&decide (a.bt.nodes=b.bt.nodes/\a.bt.places=b.bt.places)&&decide (a.aJ=b.aJ)&&decide (a.ev=b.ev)&&decide (a.au=b.au)
def oT(n:cw):az:=aF n.round++aF n.id++aF (u64 n.kind)
def bX(x:oq):az:=aF x.first++aF x.l.length++(x.l.map oT).flatten
def eL(j:Jb):az:=aF j.id++tM j.x++aF (u64 j.left)
def eM(s:cI):az:=aF s.round++aF s.next++iy s.bt++iY s.tree++aF s.aJ.length++(s.aJ.map eL).flatten++bX s.ev++bX s.au
abbrev vk(k:Nat)(v:bz):Nat:=(v.at_ k).toNat
def Dh(k:Nat)(l:List aR):Nat:=(l.map λe=>vk k e.used).sum
def kids(p:az)(l:List aR):List aR:=l.filter λx=>!decide (x.path=[])&&decide (parent x.path=p)
theorem uU(k:Nat):vk k bz.zero=0:=by unfold vk bz.at_;split<;>rfl
theorem SX{v:bz}(h:v.w){k:Nat}(hk:k<4):v.at_ k=(vk k v:Int)/\vk k v<18446744073709551616:=by have:=h k hk;unfold vk;omega
theorem Y1{a b:bz}(ha:a.w)(hb:b.w)(h:∀k<4,vk k a=vk k b):a=b:=by refine bz.YV λk hk=>?_;rw[(SX ha hk).1,(SX hb hk).1,h k hk]
theorem Mz{a b:bz}(h:(jW a b).2=true):(jW a b).1.w:=by
 intro k hk;have h1:=OB h k hk
 have h2:=GM.1 h k hk;rw[h1];omega
theorem yC{a b:bz}(h:(jW a b).2=true){k:Nat}(hk:k<4):vk k (jW a b).1=vk k a+vk k b:=by unfold vk;rw[OB h k hk];omega
theorem OD{a b:bz}(ha:a.w)(h:(ix a b).2=true){k:Nat}(hk:k<4):vk k (ix a b).1=vk k a-vk k b:=by
 have:=(SX ha hk).2;unfold vk at*;rw[GN h k hk];have h2:((a.at_ k).toNat-(b.at_ k).toNat)%18446744073709551616=(a.at_ k).toNat-(b.at_ k).toNat:=Nat.mod_eq_of_lt (by omega)
 omega
theorem Fs{a b:bz}:(jW a b).2=true↔∀k<4,vk k a+vk k b<18446744073709551616:=GM
theorem wD{a b:bz}:oh a b=true↔∀k<4,vk k a<=vk k b:=uP
theorem rI(p:az):∀(l:List aR) (s:bz),s.w->(∀k<4,vk k s+Dh k (kids p l)<18446744073709551616)->
 ∃v,su p l s=some v/\v.w/\∀k<4,vk k v=vk k s+Dh k (kids p l)
 |[],s,hs,_=>⟨s,rfl,hs,by simp[kids,Dh]⟩|x::r,s,hs,h=>by
  unfold su;by_cases h1:x.path=[]
  .have e:kids p (x::r)=kids p r:=by simp[kids,h1]
   rw[e]at h ⊢;rw[if_pos h1];exact rI p r s hs h
  rw[if_neg h1];by_cases h2:parent x.path≠p
  .have e:kids p (x::r)=kids p r:=by simp[kids,h2]
   rw[e]at h ⊢;rw[if_pos h2];exact rI p r s hs h
  have e:kids p (x::r)=x::kids p r:=by simp only[Decidable.not_not]at h2;simp[kids,h1,h2]
  have eu:∀k,Dh k (kids p (x::r))=vk k x.used+Dh k (kids p r):=by intro k;rw[e];simp[Dh]
  simp only[eu]at h ⊢;rw[if_neg h2];have ok:(jW s x.used).2=true:=Fs.2 λk hk=>by have:=h k hk;omega
  rw[if_pos ok];obtain⟨v,a1,a2,a3⟩:=rI p r (jW s x.used).1 (Mz ok) (λk hk=>by rw[yC ok hk];have:=h k hk;omega);exact⟨v,a1,a2,λk hk=>by rw[a3 k hk,yC ok hk];omega⟩
theorem PM{l:List aR}{e:aR}(hu:e.used.w)(h1:∀k<4,vk k e.used<=vk k e.cU)(h2:∀k<4,Dh k (kids e.path l)<=vk k e.used):mT l e=true:=by obtain⟨v,a1,a2,a3⟩:=rI e.path l bz.zero Mu (λk hk=>by rw[uU];have:=h2 k hk;have:=(SX hu hk).2;omega);unfold mT;rw[a1];simp only[vae];refine⟨wD.2 h1,wD.2 λk hk=>?_⟩;rw[a3 k hk,uU];have:=h2 k hk;omega
structure Tree.ok (l:List aR):Prop where
 root:∃e r,l=e::r/\e.path=[]
 most:l.length<=16
 GL:l.Pairwise (λx y=>x.path<y.path)
 named:∀e∈l,named e.path=true
 par:∀e∈l,∃f∈l,f.path=parent e.path
 fits:∀e∈l,∀k<4,vk k e.used<=vk k e.cU
 w:∀e∈l,e.cU.w/\e.used.w
theorem SY{t:List aR}(ha:t.Pairwise (λx y=>x.path<y.path)){i j:Nat}{x y:aR}(hx:t[i]?=some x)(hy:t[j]?=some y)(e:x.path=y.path):i=j:=by
 obtain⟨hi,rfl⟩:=List.getElem?_eq_some_iff.1 hx;obtain⟨hj,rfl⟩:=List.getElem?_eq_some_iff.1 hy;rcases Nat.lt_trichotomy i j with g|g|g
 .have:=List.pairwise_iff_getElem.1 ha i j hi hj g;rw[e]at this;exact absurd this (jJ _)
 .exact g
 have:=List.pairwise_iff_getElem.1 ha j i hj hi g;rw[e]at this;exact absurd this (jJ _)
theorem V5{t:List aR}(ha:t.Pairwise (λx y=>x.path<y.path)){x y:aR}(hx:x∈t)(hy:y∈t)(e:x.path=y.path):x=y:=by
 obtain⟨i,hi⟩:=List.getElem?_of_mem hx;obtain⟨j,hj⟩:=List.getElem?_of_mem hy;have:=SY ha hi hj e
 subst this;rw[hi]at hj;exact Option.some.inj hj
theorem wE{t:List aR}{q:az}(h:0<=bZ t q):∃(i:Nat) (e:aR),t[i]?=some e/\e.path=q/\bZ t q=i:=by
 rcases dw (rfl:bZ t q=idxOf _ t)with⟨h1,_⟩|⟨i,x,h1,_,h3,h4,_⟩
 .omega
 exact⟨i,x,h3,by simpa using h4,h1⟩
theorem Di{t:List aR}{e:aR}(he:e∈t):0<=bZ t e.path:=by
 rcases dw (rfl:bZ t e.path=idxOf _ t)with⟨_,h2,_⟩|⟨i,x,h1,_⟩
 .rw[List.findIdx?_eq_none_iff]at h2;have:=h2 e he;simp at this
 omega
theorem MA{t:List aR}{q:az}:bZ t q<0↔∀e∈t,e.path≠q:=by
 constructor
 .rintro h e he rfl;have:=Di he;omega
 intro h;refine Int.not_le.1 λg=>?_;obtain⟨i,e,h1,h2,_⟩:=wE g;exact h e (vag h1) h2
theorem Dj{all:List aR}(hn:∀e∈all,named e.path=true)(hp:∀e∈all,∃f∈all,f.path=parent e.path):
 ∀(r:List aR) (q:az),r.Pairwise (λx y=>x.path<y.path)->(∀e∈r,q<e.path)->(∀e∈r,e∈all)->fG all (some q) r=true
 |[],_,_,_,_=>rfl|e::r,q,ha,hq,hm=>by
  rw[List.pairwise_cons]at ha;have h1:(!sle e.path q)=true:=OA.2 (hq e (by simp))
  have h2:=hn e (hm e (by simp));have h3:(!decide (bZ all (parent e.path)<0))=true:=by
   obtain⟨f,hf,g⟩:=hp e (hm e (by simp));have:=Di hf;rw[g]at this
   simp;omega
  unfold fG;rw[h1,h2,h3,Dj hn hp r e.path ha.2 (λx hx=>ha.1 x hx) (λx hx=>hm x (by simp[hx]))];rfl
theorem MB{l:List aR}(h:Tree.ok l)(hk:∀e∈l,∀k<4,Dh k (kids e.path l)<=vk k e.used):ic l=true:=by
 obtain⟨e,r,rfl,he⟩:=h.root;have hm:=h.most
 have h1:fG (e::r) none (e::r)=true:=by
  rw[fG];have ha:=h.GL
  rw[List.pairwise_cons]at ha;exact Dj h.named h.par r e.path ha.2 (λx hx=>ha.1 x hx) (λx hx=>by simp[hx])
 have h2:((e::r).any λx=>!mT (e::r) x)=false:=by rw[List.any_eq_false];intro x hx;rw[PM (h.w x hx).2 (h.fits x hx) (hk x hx)];simp
 unfold ic;rw[if_neg (by simp),if_neg (by omega),if_neg (by simp[he]),h1,h2];rfl
def yD(f:aR->aR×Int)(A:List az)(t:List aR):List aR:=t.map λe=>if e.path∈A then(f e).1 else e
theorem yE(f:aR->aR×Int){t:List aR}(ha:t.Pairwise (λx y=>x.path<y.path)):∀(A:List az) (out:List aR),(∀q∈A,0<=bZ t q)->out.length=t.length->
 ((∃e∈t,e.path∈A/\(f e).2≠0)/\(lG f t A out).1=t/\(lG f t A out).2≠0)∨
 ((∀e∈t,e.path∈A->(f e).2=0)/\(lG f t A out).2=0/\(lG f t A out).1.length=t.length/\∀(i:Nat) (e:aR),t[i]?=some e->(lG f t A out).1[i]?=if e.path∈A then some (f e).1 else out[i]?)
 |[],out,_,hl=>.inr ⟨by simp,rfl,hl,by intro i e _;simp[lG]⟩|q::A,out,hq,hl=>by
  obtain⟨i,e,h1,h2,h3⟩:=wE (hq q (by simp));have hg:t.getD (bZ t q).toNat aR.zero=e:=by rw[h3,vak,vam,h1];rfl
  have hem:=vag h1;have hil:=(List.getElem?_eq_some_iff.1 h1).1
  unfold lG;rw[hg];by_cases h0:(f e).2≠0
  .rw[if_pos h0];exact .inl ⟨⟨e,hem,by simp[h2],h0⟩,rfl,h0⟩
  rw[if_neg h0];simp only[Decidable.not_not]at h0;rw[h3,vak];rcases yE f ha A (out.set i (f e).1) (λq YO=>hq q (by simp[YO])) (by simp[hl])with⟨⟨x,b1,b2,b3⟩,b4,b5⟩|⟨b1,b2,b3,b4⟩
  .exact .inl ⟨⟨x,b1,by simp[b2],b3⟩,b4,b5⟩
  refine .inr ⟨?_,b2,b3,?_⟩
  .intro x hx hp;rcases List.mem_cons.1 hp with g|g
   .rw[V5 ha hx hem (by rw[g,h2])];exact h0
   exact b1 x hx g
  intro j x hx;rw[b4 j x hx];by_cases g:x.path∈A
  .rw[if_pos g,if_pos (by simp[g])]
  rw[if_neg g];by_cases g2:x.path=q
  .have:=SY ha hx h1 (by rw[g2,h2]);subst this;rw[hx]at h1;cases h1;rw[if_pos (by simp[g2]),List.getElem?_set_self (by omega)]
  have hji:i≠j:=by rintro rfl;rw[hx]at h1;cases h1;exact g2 h2
  rw[if_neg (by simp[g2,g]),List.getElem?_set_ne hji]
theorem AW(f:aR->aR×Int){t:List aR}(ha:t.Pairwise (λx y=>x.path<y.path))(p:az):
 ((sq f t p).1=t/\(sq f t p).2≠0/\(named p=false∨(∃q∈above p,∀e∈t,e.path≠q)∨∃e∈t,e.path∈above p/\(f e).2≠0))∨
 (sq f t p=(yD f (above p) t,0)/\named p=true/\(∀q∈above p,∃e∈t,e.path=q)/\∀e∈t,e.path∈above p->(f e).2=0):=by
 unfold sq;cases hn:named p with
 |false=>exact .inl ⟨rfl,by simp,.inl rfl⟩|true=>
  simp only[Bool.not_true,Bool.false_eq_true,if_false]
  by_cases h:((above p).any λq=>decide (bZ t q<0))=true
  .rw[if_pos h];obtain⟨q,hq,g⟩:=List.any_eq_true.1 h;exact .inl ⟨rfl,by simp,.inr (.inl ⟨q,hq,MA.1 (by simpa using g)⟩)⟩
  rw[if_neg h]
  have hq:∀q∈above p,0<=bZ t q:=λq hq=>Int.not_lt.1 λg=>h (List.any_eq_true.2 ⟨q,hq,by simpa using g⟩)
  rcases yE f ha (above p) t hq rfl with⟨b1,b2,b3⟩|⟨b1,b2,b3,b4⟩
  .exact .inl ⟨b2,b3,.inr (.inr b1)⟩
  refine .inr ⟨?_,by trivial,λq hm=>?_,b1⟩
  .refine Prod.ext ?_ b2;refine List.ext_getElem? λi=>?_;unfold yD;rw[vaA];cases hi:t[i]? with
   |none=>rw[List.getElem?_eq_none_iff]at hi;simp only[Option.map_none];rw[List.getElem?_eq_none_iff];omega|some e=>
    rw[b4 i e hi];simp only[vau];split
    .rfl
    exact hi
  obtain⟨i,e,g1,g2,_⟩:=wE (hq q hm)
  exact⟨e,vag g1,g2⟩
theorem yF{v:bz}{e:aR}:(iu v e).2=0↔(jW e.used v).2=true/\oh (jW e.used v).1 e.cU=true:=by unfold iu;cases h1:(jW e.used v).2<;>cases h2:oh (jW e.used v).1 e.cU<;>simp
theorem AX{v:bz}{e:aR}(h:(iu v e).2=0):(iu v e).1={e with used:=(jW e.used v).1}:=by obtain⟨h1,h2⟩:=yF.1 h;unfold iu;rw[h1,h2];rfl
theorem yG{v:bz}{e:aR}:(ff v e).2=0↔(ix e.used v).2=true:=by unfold ff;cases h1:(ix e.used v).2<;>simp
theorem AY{v:bz}{e:aR}(h:(ff v e).2=0):(ff v e).1={e with used:=(ix e.used v).1}:=by unfold ff;rw[yG.1 h];rfl
structure gB(t u:List aR):Prop where
 len:u.length=t.length
 at_:∀(i:Nat) (e:aR),t[i]?=some e->∃x,u[i]?=some x/\x.path=e.path/\x.cU=e.cU
theorem gB.paths {t u:List aR} (h:gB t u):u.map (·.path)=t.map (·.path):=by
 refine List.ext_getElem? λi=>?_;rw[vaA,vaA];cases hi:t[i]? with
 |none=>rw[List.getElem?_eq_none_iff]at hi;rw[List.getElem?_eq_none_iff.2 (by rw[h.len];exact hi)]|some e=>obtain⟨x,h1,h2,_⟩:=h.at_ i e hi;rw[h1];simp[h2]
theorem gB.back {t u:List aR} (h:gB t u) {x:aR} (hx:x∈u):∃e∈t,x.path=e.path/\x.cU=e.cU:=by
 obtain⟨i,hi⟩:=List.getElem?_of_mem hx;have hl:=(List.getElem?_eq_some_iff.1 hi).1
 rw[h.len]at hl;obtain⟨y,h1,h2,h3⟩:=h.at_ i t[i] (vaj hl);rw[hi]at h1;cases h1;exact⟨t[i],List.getElem_mem hl,h2,h3⟩
theorem gB.mem {t u:List aR} (h:gB t u) {e:aR} (he:e∈t):∃x∈u,x.path=e.path:=by obtain⟨i,hi⟩:=List.getElem?_of_mem he;obtain⟨x,h1,h2,_⟩:=h.at_ i e hi;exact⟨x,vag h1,h2⟩
theorem gB.GL {t u:List aR} (h:gB t u) (ha:t.Pairwise (λx y=>x.path<y.path)):u.Pairwise (λx y=>x.path<y.path):=by have h1:(t.map (·.path)).Pairwise (·<·):=List.pairwise_map.2 ha;rw[<-h.paths]at h1;exact List.pairwise_map.1 h1
theorem gB.ok {t u:List aR} (h:gB t u) (ho:Tree.ok t) (hf:∀e∈u,∀k<4,vk k e.used<=vk k e.cU) (hw:∀e∈u,e.used.w):Tree.ok u where
 root:=by
  obtain⟨e,r,rfl,he⟩:=ho.root;obtain⟨x,h1,h2,_⟩:=h.at_ 0 e rfl;cases u with
  |nil=>cases h1
  |cons y r2=>simp at h1;subst h1;exact⟨y,r2,rfl,by rw[h2,he]⟩
 most:=by rw[h.len];exact ho.most
 GL:=h.GL ho.GL
 named:=λx hx=>by obtain⟨e,he,h1,_⟩:=h.back hx;rw[h1];exact ho.named e he
 par:=λx hx=>by obtain⟨e,he,h1,_⟩:=h.back hx;obtain⟨f,hf,h2⟩:=ho.par e he;obtain⟨y,hy,h3⟩:=h.mem hf;exact⟨y,hy,by rw[h3,h2,h1]⟩
 fits:=hf
 w:=λx hx=>by obtain⟨e,he,_,h1⟩:=h.back hx;exact⟨by rw[h1];exact(ho.w e he).1,hw x hx⟩
theorem Dk{f:aR->aR×Int}{A:List az}{t:List aR}(h:∀e∈t,e.path∈A->(f e).1.path=e.path/\(f e).1.cU=e.cU):gB t (yD f A t) where
 len:=by simp[yD]
 at_:=by
  intro i e hi;refine⟨if e.path∈A then(f e).1 else e,by rw[yD,vaA,hi];rfl,?_⟩;split
  .rename_i g;exact h e (vag hi) g
  exact⟨rfl,rfl⟩
abbrev Jb.tot (j:Jb):bz:=(eC j.x).1
def ie(k:Nat)(p:az)(j:Jb):Nat:=if j.runs=true/\p∈above j.x.path then vk k j.tot else 0
def mJ(k:Nat)(p:az)(l:List Jb):Nat:=(l.map (ie k p)).sum
theorem lM(k:Nat)(p:az)(j:Jb)(l:List Jb):mJ k p (j::l)=ie k p j+mJ k p l:=by simp[mJ]
theorem rJ(p:az):∀(l:List Jb) (v:bz),v.w->(∀j∈l,j.runs=true->(eC j.x).2=true)->(∀k<4,vk k v+mJ k p l<18446744073709551616)->
 ∃u,oS p l v=some u/\u.w/\∀k<4,vk k u=vk k v+mJ k p l
 |[],v,hv,_,_=>⟨v,rfl,hv,by simp[mJ]⟩|j::l,v,hv,ht,h=>by
  simp only[lM]at h ⊢;unfold oS;by_cases h1:j.runs=true
  .rw[if_neg (by simp[h1])];by_cases h2:(!decide (p=[])&&!oo p j.x.path)=true
   .have h3:¬p∈above j.x.path:=by have:=AU (P:=j.x.path) (q:=p);intro g;rw[decide_eq_true g]at this;simp only[vae,Bool.not_eq_true']at h2;rw[h2.1,h2.2]at this;simp at this
    have h4:∀k,ie k p j=0:=λk=>by simp[ie,h3]
    rw[if_pos h2];simp only[h4,Nat.zero_add]at h ⊢;exact rJ p l v hv (λx hx=>ht x (by simp[hx])) h
   have h3:p∈above j.x.path:=by have:=AU (P:=j.x.path) (q:=p);refine Decidable.byContradiction λg=>?_;rw[decide_eq_false g]at this;rw[Bool.or_eq_false_iff]at this;rw[this.1,this.2]at h2;simp at h2
   have h4:∀k,ie k p j=vk k j.tot:=λk=>by simp[ie,h1,h3]
   simp only[h4]at h ⊢;have ok:(jW v j.tot).2=true:=Fs.2 λk hk=>by have:=h k hk;omega
   have ht1:=ht j (by simp) h1;rw[if_neg h2,if_neg (by rw[ht1,ok];simp)];obtain⟨u,a1,a2,a3⟩:=rJ p l (jW v j.tot).1 (Mz ok) (λx hx=>ht x (by simp[hx])) (λk hk=>by rw[yC ok hk];have:=h k hk;omega);exact⟨u,a1,a2,λk hk=>by rw[a3 k hk,yC ok hk];omega⟩
  have h4:∀k,ie k p j=0:=λk=>by simp[ie,h1]
  rw[if_pos (by simpa using h1)];simp only[h4,Nat.zero_add]at h ⊢;exact rJ p l v hv (λx hx=>ht x (by simp[hx])) h
theorem SZ{s:cI}{e:aR}(hu:e.used.w)(ht:∀j∈s.aJ,j.runs=true->(eC j.x).2=true)(h:∀k<4,vk k e.used=mJ k e.path s.aJ):sw s e=true:=by obtain⟨u,a1,a2,a3⟩:=rJ e.path s.aJ bz.zero Mu ht (λk hk=>by rw[uU,<-h k hk];have:=(SX hu hk).2;omega);unfold sw;rw[a1];simp only[vai];exact Y1 a2 hu λk hk=>by rw[a3 k hk,uU,h k hk];omega
theorem Dl{α:Type}:∀l:List α,(l.map λ_=>0).sum=0
 |[]=>rfl|_::l=>by simp only[List.map_cons,List.sum_cons,Dl l]
theorem OE(k:Nat)(p:az)(j:Jb):∀(K:List az),K.Nodup->(∀q∈K,q≠[]/\parent q=p)->(K.map λq=>ie k q j).sum<=ie k p j
 |[],_,_=>Nat.zero_le _|q::K,hn,hp=>by
  rw[List.nodup_cons]at hn;have hq:=hp q (by simp)
  by_cases h:j.runs=true/\q∈above j.x.path
  .have h0:(K.map λq=>ie k q j).sum=0:=by
    have:∀r∈K,ie k r j=0:=λr hr=>by
     unfold ie;rw[if_neg];rintro⟨_,g⟩;have sA:=hp r (by simp[hr])
     exact hn.1 (by rw[Mx h.2 g hq.1 sA.1 (by rw[hq.2,sA.2])];exact hr)
    rw[List.map_congr_left this,Dl]
   have h1:p∈above j.x.path:=by rw[<-hq.2];exact My h.2
   simp only[List.map_cons,List.sum_cons];rw[h0];simp[ie,h,h1]
  simp only[List.map_cons,List.sum_cons];rw[show ie k q j=0 by unfold ie;rw[if_neg h],Nat.zero_add];exact OE k p j K hn.2 (λr hr=>hp r (by simp[hr]))
theorem sum_add{α:Type}(f g:α->Nat):∀l:List α,(l.map λx=>f x+g x).sum=(l.map f).sum+(l.map g).sum
 |[]=>rfl|x::l=>by simp only[List.map_cons,List.sum_cons,sum_add f g l];omega
theorem JO(k:Nat)(p:az)(K:List az)(hn:K.Nodup)(hp:∀q∈K,q≠[]/\parent q=p):∀(l:List Jb),(K.map λq=>mJ k q l).sum<=mJ k p l
 |[]=>by have:(K.map λq=>mJ k q []).sum=0:=Dl K;rw[this];exact Nat.zero_le _|j::l=>by simp only[lM];rw[sum_add];exact Nat.add_le_add (OE k p j K hn hp) (JO k p K hn hp l)
theorem V6{t:List aR}(ha:t.Pairwise (λx y=>x.path<y.path)){l:List Jb}{k:Nat}(h:∀e∈t,vk k e.used=mJ k e.path l)(p:az):Dh k (kids p t)<=mJ k p l:=by
 have e:Dh k (kids p t)=(((kids p t).map (·.path)).map λq=>mJ k q l).sum:=by unfold Dh;rw[vaG];congr 1;exact List.map_congr_left λx hx=>h x (List.mem_filter.1 hx).1
 rw[e];refine JO k p _ ?_ ?_ l
 .rw[List.nodup_iff_pairwise_ne,List.pairwise_map];exact(ha.filter _).imp λh g=>by rw[g]at h;exact jJ _ h
 intro q hq;obtain⟨x,hx,rfl⟩:=List.mem_map.1 hq;have:=(List.mem_filter.1 hx).2
 simpa using this
abbrev zS(l:List bR):Prop:=l.Pairwise (λa b=>dy a b=true)
abbrev Dm(l:List bR):Prop:=l.Pairwise (λa b=>a.id≠b.id)
theorem rK{a b:bR}:dy a b=true↔b.prio<a.prio∨(a.prio=b.prio/\a.id<b.id):=by simp[dy]
theorem GP{a b c:bR}(h:dy a b=true)(g:dy b c=true):dy a c=true:=by rw[rK]at*;omega
theorem MC{a b:bR}(h:a.id≠b.id)(g:¬dy a b=true):dy b a=true:=by rw[rK]at*;omega
theorem S0(l:List bR)(e:bR):vu l e<=l.length/\(∀x∈l.take (vu l e),¬dy e x=true)/\(∀x,l[vu l e]?=some x->dy e x=true):=by
 unfold vu;cases h:l.findIdx? (λx=>dy e x)with
 |none=>
  rw[List.findIdx?_eq_none_iff]at h;refine⟨vad _,?_,?_⟩
  .intro x hx;rw[List.take_length]at hx;simp[h x hx]
  intro x hx;simp at hx
 |some k=>
  obtain⟨hk,hp,hb⟩:=List.findIdx?_eq_some_iff_getElem.1 h;refine⟨Nat.le_of_lt hk,?_,?_⟩
  .intro x hx;obtain⟨j,hj⟩:=List.getElem?_of_mem hx;simp only[List.getElem?_take]at hj;by_cases g:j<k
   .rw[if_pos g]at hj;have:=hb j g
    rw[vaj (by omega)]at hj;cases hj;simpa using this
   rw[if_neg g]at hj;cases hj
  intro x hx;simp only at hx;rw[vaj hk]at hx;cases hx;exact hp
theorem Dn{l:List bR}(ha:zS l){e:bR}(hn:∀x∈l,x.id≠e.id):zS (l.take (vu l e)++e::l.drop (vu l e)):=by
 obtain⟨h1,h2,h3⟩:=S0 l e;have hsp:zS (l.take (vu l e)++l.drop (vu l e)):=by rw[List.take_append_drop];exact ha
 rw[zS,List.pairwise_append]at hsp ⊢;obtain⟨a1,a2,a3⟩:=hsp;have hb:∀x∈l.take (vu l e),dy x e=true:=λx hx=>MC (a:=e) (by have:=hn x (van hx);exact λg=>this g.symm) (h2 x hx)
 have hc:∀x∈l.drop (vu l e),dy e x=true:=by
  cases hd:l.drop (vu l e)with
  |nil=>intro x hx;cases hx
  |cons y r=>
   have hy:l[vu l e]?=some y:=by
    have:(l.drop (vu l e))[0]?=some y:=by rw[hd];rfl
    rw[List.getElem?_drop,Nat.add_zero]at this;exact this
   have g:=h3 y hy;intro x hx;rcases List.mem_cons.1 hx with rfl|hx
   .exact g
   rw[hd,List.pairwise_cons]at a2;exact GP g (a2.1 x hx)
 refine⟨a1,List.pairwise_cons.2 ⟨hc,a2⟩,?_⟩;intro x hx y hy;rcases List.mem_cons.1 hy with rfl|hy
 .exact hb x hx
 exact a3 x hx y hy
theorem JP{l:List bR}{k:Nat}{x y:bR}:y∈l.take k++x::l.drop k↔y∈l∨y=x:=by
 conv=>rhs;rw[<-List.take_append_drop k l]
 simp only[vaD,vax];constructor
 .rintro(h|h|h)
  .exact .inl (.inl h)
  .exact .inr h
  exact .inl (.inr h)
 rintro((h|h)|h)
 .exact .inl h
 .exact .inr (.inr h)
 exact .inr (.inl h)
theorem JQ{l:List bR}(hi:Dm l){e:bR}(hn:∀x∈l,x.id≠e.id)(k:Nat):Dm (l.take k++e::l.drop k):=by
 have hsp:Dm (l.take k++l.drop k):=by rw[List.take_append_drop];exact hi
 rw[Dm,List.pairwise_append]at hsp ⊢;obtain⟨a1,a2,a3⟩:=hsp;refine⟨a1,List.pairwise_cons.2 ⟨λx hx=>λg=>hn x (List.mem_of_mem_drop hx) g.symm,a2⟩,?_⟩;intro x hx y hy;rcases List.mem_cons.1 hy with rfl|hy
 .exact hn x (van hx)
 exact a3 x hx y hy
theorem MD{l:List bR}{id:Int}(h:0<=jI l id):∃x∈l,x.id=id:=by
 rcases dw (rfl:jI l id=idxOf _ l)with⟨h1,_⟩|⟨i,x,h1,_,h3,h4,_⟩
 .omega
 exact⟨x,vag h3,by simpa using h4⟩
theorem tO(l:List bR)(e:bR):((gk l e).1=l/\(gk l e).2≠0/\(gA e=true∨(∃x∈l,x.id=e.id)∨32<=l.length))∨
 (gk l e=(l.take (vu l e)++e::l.drop (vu l e),0)/\gA e=false/\(∀x∈l,x.id≠e.id)/\l.length<32):=by
 unfold gk;cases h1:gA e with
 |true=>exact .inl ⟨rfl,by simp,.inl rfl⟩|false=>
  simp only[Bool.false_eq_true,if_false]
  by_cases h2:0<=jI l e.id
  .rw[if_pos h2];exact .inl ⟨rfl,by simp,.inr (.inl (MD h2))⟩
  rw[if_neg h2]
  by_cases h3:32<=l.length
  .rw[if_pos h3];exact .inl ⟨rfl,by simp,.inr (.inr h3)⟩
  rw[if_neg h3]
  refine .inr ⟨rfl,by trivial,?_,by omega⟩
  intro x hx g
  refine h2 ?_
  rcases dw (rfl:jI l e.id=idxOf _ l)with⟨_,h4,_⟩|⟨i,x,h4,_⟩
  .rw[List.findIdx?_eq_none_iff]at h4;have:=h4 x hx;simp[g]at this
  omega
theorem erase_filter{l:List bR}(hi:Dm l){k:Nat}{x:bR}(hx:l[k]?=some x):l.eraseIdx k=l.filter λy=>!decide (y.id=x.id):=by
 induction l generalizing k with
 |nil=>simp at hx|cons y r ih=>
  rw[Dm,List.pairwise_cons]at hi;cases k with
  |zero=>
   simp at hx;subst hx;have:r.filter (λz=>!decide (z.id=y.id))=r:=by rw[List.filter_eq_self];intro z hz;have:=hi.1 z hz;simp;exact λg=>this g.symm
   simp[this]
  |succ k=>
   simp only[vaq]at hx;have hne:=hi.1 x (vag hx)
   rw[List.eraseIdx_cons_succ,ih hi.2 hx];simp[hne]
theorem nA{l:List bR}(hi:Dm l)(id:Int):(Da l id).1=l.filter λy=>!decide (y.id=id):=by
 unfold Da;cases h:l.findIdx? (λx=>decide (x.id=id))with
 |none=>rw[List.findIdx?_eq_none_iff]at h;exact(List.filter_eq_self.2 λx hx=>by simp[h x hx]).symm|some k=>
  obtain⟨hk,hp,_⟩:=List.findIdx?_eq_some_iff_getElem.1 h;simp only[vai]at hp;show l.eraseIdx k=_
  rw[erase_filter hi (vaj hk),hp]
theorem PN{l:List bR}(hi:Dm l){k:Nat}{x:bR}(hx:l[k]?=some x):jI l x.id=k:=by
 rcases dw (rfl:jI l x.id=idxOf _ l)with⟨_,h2,_⟩|⟨i,y,h1,_,h3,h4,_⟩
 .rw[List.findIdx?_eq_none_iff]at h2;have:=h2 x (vag hx);simp at this
 rw[h1];simp only[vai]at h4;obtain⟨g1,rfl⟩:=List.getElem?_eq_some_iff.1 hx;obtain⟨g2,rfl⟩:=List.getElem?_eq_some_iff.1 h3;rcases Nat.lt_trichotomy i k with g|g|g
 .exact absurd h4 (List.pairwise_iff_getElem.1 hi i k g2 g1 g)
 .rw[g]
 exact absurd h4.symm (List.pairwise_iff_getElem.1 hi k i g1 g2 g)
theorem Dp{all:List bR}(hi:Dm all)(hw:∀q∈all,gA q=false):∀(r:List bR) (k:Nat) (q:Option bR),all.drop k=r->zS r->(∀p,q=some p->∀x∈r,dy p x=true)->kO all q k r=true
 |[],_,_,_,_,_=>rfl|e::r,k,q,hd,ha,hq=>by
  rw[zS,List.pairwise_cons]at ha;have he:all[k]?=some e:=by
   have:(all.drop k)[0]?=some e:=by rw[hd];rfl
   rw[List.getElem?_drop,Nat.add_zero]at this;exact this
  have h1:=hw e (vag he);have h2:=PN hi he
  have h3:PG q e=true:=by
   cases q with
   |none=>rfl|some p=>exact hq p rfl e (by simp)
  have h4:all.drop (k+1)=r:=by rw[<-List.drop_drop,hd];rfl
  unfold kO;rw[h1,h2,h3,Dp hi hw r (k+1) (some e) h4 ha.2 (λp hp x hx=>by cases hp;exact ha.1 x hx)];simp
theorem PO{l:List bR}(hi:Dm l)(ha:zS l)(hw:∀q∈l,gA q=false)(hl:l.length<=32):pE l=true:=by unfold pE;rw[Dp hi hw l 0 none (by simp) ha (λp hp=>by cases hp)];simpa using hl
theorem wF(m:List iA)(j c i:Int):gi (fJ m j c) i=if i=j then c else gi m i:=by
 induction m with
 |nil=>
  simp only[fJ,gi,List.find?_cons,List.find?_nil];by_cases h:i=j
  .simp[h]
  have:¬j=i:=λg=>h g.symm;simp[h,this]
 |cons x m ih=>
  unfold gi at ih ⊢;simp only[fJ];by_cases h:j=x.bL
  .simp only[if_pos h,List.find?_cons];by_cases g:i=j
   .subst g;simp
   have h2:¬j=i:=λe=>g e.symm;have h3:¬x.bL=i:=λe=>g (by rw[h,e])
   simp[g,h2,h3]
  simp only[if_neg h,List.find?_cons];by_cases g:x.bL=i
  .have:¬i=j:=λe=>h (by rw[<-e,g]);simp[g,this]
  simp only[g,decide_false];exact ih
theorem rL{m:List iA}(h:(m.map iA.bL).Nodup)(j c:Int):((fJ m j c).map iA.bL).Nodup:=by
 rw[mI];split
 .exact h
 rename_i g;rw[List.nodup_append];exact⟨h,by simp,λa ha b hb e=>g (by simp at hb;rw[<-hb,<-e];exact ha)⟩
theorem ME{m:List iA}(h:(m.map iA.bL).Nodup){x:iA}(hx:x∈m):gi m x.bL=x.cnt:=by
 induction m with
 |nil=>cases hx
 |cons y m ih=>
  rw[List.map_cons,List.nodup_cons]at h;unfold gi at ih ⊢;rw[List.find?_cons];rcases List.mem_cons.1 hx with rfl|hx
  .simp
  have:¬y.bL=x.bL:=λg=>h.1 (by rw[g];exact List.mem_map_of_mem hx);simp only[this,decide_false];exact ih h.2 hx
abbrev vK(id:Int)(ps:List Place):Nat:=(ps.filter λx=>decide (x.bL=id)).length
theorem JR(id:Int)(x:Place)(ps:List Place):vK id (x::ps)=(if x.bL=id then 1 else 0)+vK id ps:=by
 unfold vK;rw[List.filter_cons];by_cases h:x.bL=id
 .simp[h];omega
 simp[h]
theorem yH(id:Int):∀(l:List Jb) (m:List iA),(l.Pairwise λa b=>a.id<b.id)->(m.map iA.bL).Nodup->
 ((l.foldl (λm j=>if j.runs then fJ m j.id j.x.count else m) m).map iA.bL).Nodup/\
 gi (l.foldl (λm j=>if j.runs then fJ m j.id j.x.count else m) m) id=(match l.find? (λj=>decide (j.id=id)&&j.runs)with|some j=>j.x.count|none=>gi m id)
 |[],m,_,h=>⟨h,rfl⟩|j::l,m,ha,h=>by
  rw[List.pairwise_cons]at ha;rw[List.foldl_cons];by_cases hr:j.runs=true
  .rw[if_pos hr];obtain⟨a1,a2⟩:=yH id l (fJ m j.id j.x.count) ha.2 (rL h _ _);refine⟨a1,?_⟩;rw[a2,List.find?_cons];by_cases g:j.id=id
   .have hno:l.find? (λj=>decide (j.id=id)&&j.runs)=none:=by
     rw[List.find?_eq_none];intro x hx;have:=ha.1 x hx
     simp;intro e;omega
    rw[hno,wF];simp[g,hr]
   simp only[g,decide_false,Bool.false_and];cases l.find? (λj=>decide (j.id=id)&&j.runs)with
   |some j=>rfl|none=>simp only;rw[wF,if_neg (λe=>g e.symm)]
  rw[if_neg hr];obtain⟨a1,a2⟩:=yH id l m ha.2 h;refine⟨a1,?_⟩;rw[a2,List.find?_cons];simp[hr]
theorem yI{l:List Jb}:∀(ps:List Place) (m:List iA),(m.map iA.bL).Nodup->(∀x∈ps,x.v=(fy l x.bL).1.x.iI)->(∀id,gi m id=(vK id ps:Int))->
 ∃m',iK l ps m=some m'/\m'.all (λx=>decide (x.cnt=0))=true
 |[],m,hn,_,hc=>⟨m,rfl,by rw[vaE];intro x hx;have:=hc x.bL;rw[ME hn hx]at this;simpa[vK]using this⟩|x::ps,m,hn,hv,hc=>by
  have h1:=hc x.bL;rw[JR,if_pos rfl]at h1;unfold iK;rw[if_neg (by omega),if_neg (by have:=hv x (by simp);simp[this])];refine yI ps _ (rL hn _ _) (λy hy=>hv y (by simp[hy])) λid=>?_;rw[wF];have h2:=hc id
  rw[JR]at h2;by_cases g:id=x.bL
  .subst g;rw[if_pos rfl];omega
  rw[if_neg g,h2,if_neg (λe=>g e.symm)];omega
theorem AZ(l:List Node)(bL:Int)(v:bz):∀(names:List az) (ps:List Place),(gQ l bL v names ps).1=none->(gQ l bL v names ps).2=ps++names.map (λn=>⟨bL,n,v⟩)/\∀n∈names,(ir n l).2=true/\(ir n l).1.up=true
 |[],ps,_=>by simp[gQ]|n::r,ps,g=>by
  unfold gQ at g ⊢;split
  .rename_i h1;rw[if_pos h1]at g;cases g
  rename_i h1;rw[if_neg h1]at g;obtain⟨a,b⟩:=AZ l bL v r _ g;refine⟨by rw[a];simp,?_⟩;intro m hm;rcases List.mem_cons.1 hm with rfl|hm
  .have h0:so m v l ps=0:=by omega
   exact⟨(wC h0).1,(wC h0).2.1⟩
  exact b m hm
theorem A2(l:List Node)(bL:Int)(v:bz):∀(names:List az) (ps:List Place) (e:Int),(gQ l bL v names ps).1=some e->e≠0
 |[],ps,e,g=>by cases g
 |n::r,ps,e,g=>by
  unfold gQ at g;split at g
  .cases g;assumption
  exact A2 l bL v r _ e g
theorem Dq(p:cR)(bL:Int)(names:List az)(v:bz):((zM p bL names v).1=p/\(zM p bL names v).2≠0)∨
 ((zM p bL names v)=(⟨p.nodes,p.places++names.map (λn=>⟨bL,n,v⟩)⟩,0)/\∀n∈names,(ir n p.nodes).2=true/\(ir n p.nodes).1.up=true):=by
 unfold zM;split
 .rename_i e he;exact .inl ⟨rfl,A2 _ _ _ _ _ _ he⟩
 rename_i he;obtain⟨a,b⟩:=AZ _ _ _ _ _ he;exact .inr ⟨by rw[a],b⟩
theorem JS{p:cR}(h:p.ok)(hw:p.w)(bL:Int):(yB p bL).ok/\(yB p bL).w:=⟨VX h hw _,YW hw _⟩
def zT(p:cR):List cK:=p.nodes.filterMap (vI p.nodes p.places)
theorem fV{x:Ask}:c8 x=0↔oo x.path x.path=true/\(1<=x.count/\x.count<=8)/\(0<=x.prio/\x.prio<=9)/\(1<=x.dX/\x.dX<=100)/\pz x.cj=true/\(eC x).2=true:=by
 unfold c8;have e:(!Rm x.count 1 8||!Rm x.prio 0 9||!Rm x.dX 1 100)=!decide ((1<=x.count/\x.count<=8)/\(0<=x.prio/\x.prio<=9)/\(1<=x.dX/\x.dX<=100)):=by unfold Rm;by_cases h1:1<=x.count<;>by_cases h2:x.count<=8<;>by_cases h3:0<=x.prio<;>by_cases h4:x.prio<=9<;>by_cases h5:1<=x.dX<;>by_cases h6:x.dX<=100<;>simp[h1,h2,h3,h4,h5,h6]
 rw[e];by_cases h1:oo x.path x.path=true
 .by_cases h2:(1<=x.count/\x.count<=8)/\(0<=x.prio/\x.prio<=9)/\(1<=x.dX/\x.dX<=100)
  .by_cases h3:pz x.cj=true
   .by_cases h4:(eC x).2=true
    .simp[h1,h2,h3,h4]
    simp[h1,h2,h3,h4]
   simp[h1,h2,h3]
  simp only[h2,decide_false];simp only[h1,Bool.not_true,Bool.false_eq_true,if_false,Bool.not_false,if_true];constructor
  .intro h;cases h
  rintro⟨_,a,b,c,_⟩;exact absurd ⟨a,b,c⟩ h2
 simp[h1]
theorem Dr{t:List aR}{q:az}:(qi t q).2=true↔∃e∈t,e.path=q:=by
 unfold qi;cases h:t.find? (λe=>decide (e.path=q))with
 |none=>
  rw[List.find?_eq_none]at h;constructor
  .intro g;cases g
  rintro⟨e,he,g⟩;have:=h e he;simp[g]at this
 |some e=>have h1:=List.find?_some h;exact⟨λ_=>⟨e,List.mem_of_find?_eq_some h,by simpa using h1⟩,λ_=>rfl⟩
theorem Ds{t:List aR}{p:az}:iO t p=true↔∀q∈above p,∃e∈t,e.path=q:=by
 unfold iO;rw[Bool.not_eq_true',List.any_eq_false];simp only[vaD,vaL];constructor
 .intro h q hq;have:=h q (by rcases List.mem_cons.1 hq with g|g;exact .inr g;exact .inl g)
  exact Dr.1 (by simpa using this)
 intro h q hq;have:=Dr.2 (h q (by rcases hq with g|g;exact List.mem_cons_of_mem _ g;rw[g];exact Fq p))
 simp[this]
theorem kR{t u:List aR}(h:gB t u){p:az}(hs:iO t p=true):iO u p=true:=by rw[Ds]at hs ⊢;intro q hq;obtain⟨e,he,rfl⟩:=hs q hq;exact h.mem he
abbrev wG(l:List Jb):Prop:=l.Pairwise (λa b=>a.id<b.id)
theorem GQ{l:List Jb}(ha:wG l){i k:Nat}{x y:Jb}(hx:l[i]?=some x)(hy:l[k]?=some y)(e:x.id=y.id):i=k:=by
 obtain⟨hi,rfl⟩:=List.getElem?_eq_some_iff.1 hx;obtain⟨hk,rfl⟩:=List.getElem?_eq_some_iff.1 hy;rcases Nat.lt_trichotomy i k with g|g|g
 .have:=List.pairwise_iff_getElem.1 ha i k hi hk g;omega
 .exact g
 have:=List.pairwise_iff_getElem.1 ha k i hk hi g;omega
theorem mK{l:List Jb}(ha:wG l){x y:Jb}(hx:x∈l)(hy:y∈l)(e:x.id=y.id):x=y:=by
 obtain⟨i,hi⟩:=List.getElem?_of_mem hx;obtain⟨j,hj⟩:=List.getElem?_of_mem hy;have:=GQ ha hi hj e
 subst this;rw[hi]at hj;exact Option.some.inj hj
theorem JT{l:List Jb}(ha:wG l){k:Nat}{j x:Jb}(hj:l[k]?=some j){y:Jb}:y∈l.set k x↔y=x∨(y∈l/\y.id≠j.id):=by
 have hk:=(List.getElem?_eq_some_iff.1 hj).1;constructor
 .intro h;obtain⟨i,hi⟩:=List.getElem?_of_mem h;by_cases e:k=i
  .subst e;rw[List.getElem?_set_self hk]at hi;cases hi;exact .inl rfl
  rw[List.getElem?_set_ne e]at hi;exact .inr ⟨vag hi,λg=>e (GQ ha hj hi g.symm)⟩
 rintro(rfl|⟨h,g⟩)
 .exact vag (List.getElem?_set_self hk)
 obtain⟨i,hi⟩:=List.getElem?_of_mem h;have e:k≠i:=by rintro rfl;rw[hi]at hj;cases hj;exact g rfl
 exact vag (i:=i) (by rw[List.getElem?_set_ne e];exact hi)
theorem Y2{l:List Jb}(ha:wG l){k:Nat}{j:Jb}(hj:l[k]?=some j):l.eraseIdx k=l.filter λy=>!decide (y.id=j.id):=by
 induction l generalizing k with
 |nil=>simp at hj|cons y r ih=>
  rw[wG,List.pairwise_cons]at ha;cases k with
  |zero=>
   simp at hj;subst hj;have:r.filter (λz=>!decide (z.id=y.id))=r:=by rw[List.filter_eq_self];intro z hz;have:=ha.1 z hz;simp;omega
   simp[this]
  |succ k=>
   simp only[vaq]at hj;have hne:¬y.id=j.id:=by have:=ha.1 j (vag hj);omega
   rw[List.eraseIdx_cons_succ,ih ha.2 hj];simp[hne]
theorem MF{l:List Jb}(ha:wG l){k:Nat}{j:Jb}(hj:l[k]?=some j){y:Jb}:y∈l.eraseIdx k↔y∈l/\y.id≠j.id:=by rw[Y2 ha hj,vaK];simp
theorem JU{l:List Jb}(ha:wG l){k:Nat}{j x:Jb}(hj:l[k]?=some j)(e:x.id=j.id):wG (l.set k x):=by
 have h1:(l.set k x).map (·.id)=l.map (·.id):=by
  rw[List.map_set,e];have hk:=(List.getElem?_eq_some_iff.1 hj).1
  refine List.ext_getElem? λi=>?_;by_cases g:k=i
  .subst g;rw[List.getElem?_set_self (by simpa using hk),vaA,hj];rfl
  rw[List.getElem?_set_ne g]
 have h2:(l.map (·.id)).Pairwise (·<·):=List.pairwise_map.2 ha;rw[<-h1]at h2;exact List.pairwise_map.1 h2
theorem Dt(k:Nat)(p:az):∀{l:List Jb} {i:Nat} {j:Jb} (x:Jb),l[i]?=some j->mJ k p (l.set i x)+ie k p j=mJ k p l+ie k p x
 |[],_,_,_,h=>by simp at h|y::r,0,j,x,h=>by simp at h;subst h;simp only[List.set_cons_zero,lM];omega|y::r,i+1,j,x,h=>by
  simp only[vaq]at h;have:=Dt k p x h
  simp only[List.set_cons_succ,lM];omega
theorem wH(k:Nat)(p:az):∀{l:List Jb} {i:Nat} {j:Jb},l[i]?=some j->mJ k p (l.eraseIdx i)+ie k p j=mJ k p l
 |[],_,_,h=>by simp at h|y::r,0,j,h=>by simp at h;subst h;simp only[List.eraseIdx_cons_zero,lM];omega|y::r,i+1,j,h=>by
  simp only[vaq]at h;have:=wH k p h
  simp only[List.eraseIdx_cons_succ,lM];omega
theorem PR(k:Nat)(p:az)(l:List Jb)(x:Jb):mJ k p (l++[x])=mJ k p l+ie k p x:=by simp[mJ]
theorem V7(k:Nat)(p:az){l:List Jb}{j:Jb}(h:j∈l):ie k p j<=mJ k p l:=by
 induction l with
 |nil=>cases h
 |cons y r ih=>
  rw[lM];rcases List.mem_cons.1 h with rfl|h
  .omega
  have:=ih h;omega
theorem wI{l:List Jb}{id:Int}{k:Nat}(h:l.findIdx? (λj=>decide (j.id=id))=some k):∃j,l[k]?=some j/\j.id=id/\l.getD k Jb.zero=j:=by obtain⟨hk,hp,_⟩:=List.findIdx?_eq_some_iff_getElem.1 h;refine⟨l[k],vaj hk,by simpa using hp,?_⟩;rw[vam,vaj hk];rfl
structure cI.ok (s:cI):Prop where
 bt:s.bt.ok
 sx:s.bt.w
 tree:Tree.ok s.tree
 used:∀e∈s.tree,∀k<4,vk k e.used=mJ k e.path s.aJ
 most:s.aJ.length<=32
 next:1<=s.next/\s.next<18446744073709551616
 ids:wG s.aJ
 GR:∀j∈s.aJ,1<=j.id/\j.id<s.next
 yJ:∀j∈s.aJ,c8 j.x=0/\j.x.iI.w/\iO s.tree j.x.path=true
 left:∀j∈s.aJ,(j.runs=true->1<=j.left/\j.left<=j.x.dX)/\(j.runs=false->j.left=0)
 zU:zS s.queue
 tP:Dm s.queue
 vv:∀q,q∈s.queue↔∃j∈s.aJ,j.runs=false/\q=⟨j.id,j.x.prio⟩
 places:∀x∈s.bt.places,∃j∈s.aJ,j.runs=true/\j.id=x.bL/\x.v=j.x.iI
 count:∀j∈s.aJ,j.runs=true->(vK j.id s.bt.places:Int)=j.x.count
 notes:s.ev.l.length<=32/\s.au.l.length<=32
theorem MG{l:List Jb}(ha:wG l)(f:Jb->bR)(hf:∀j,(f j).id=j.id):(l.map f).Nodup:=by rw[List.nodup_iff_pairwise_ne,List.pairwise_map];exact ha.imp λ{a b} h e=>by have:=vac bR.id e;rw[hf,hf]at this;omega
theorem cI.ok.Y3 {s:cI} (h:s.ok):s.queue.length=iP s.aJ:=by
 have h1:(((s.aJ.filter λj=>!j.runs).map λj=>(⟨j.id,j.x.prio⟩:bR))).Nodup:=MG (h.ids.filter _) _ (λ_=>rfl);have h2:s.queue.Nodup:=by rw[List.nodup_iff_pairwise_ne];exact h.tP.imp λ{a b} g e=>g (by rw[e])
 have:=((List.perm_ext_iff_of_nodup h2 h1).2 λq=>by
  rw[h.vv q,vaI];constructor
  .rintro⟨j,a,b,c⟩;exact⟨j,List.mem_filter.2 ⟨a,by simp[b]⟩,c.symm⟩
  rintro⟨j,a,c⟩;obtain⟨a1,a2⟩:=List.mem_filter.1 a;exact⟨j,a1,by simpa using a2,c.symm⟩).length_eq
 rw[this,lgM];rfl
theorem JV{s:cI}(h:s.ok):∀(r:List Jb) (q:Option Int),(∀j∈r,j∈s.aJ)->wG r->(∀p,q=some p->∀j∈r,p<j.id)->ot s q r=true
 |[],_,_,_,_=>rfl|j::r,q,hm,ha,hq=>by
  rw[wG,List.pairwise_cons]at ha;have hj:=hm j (by simp)
  obtain⟨a1,a2⟩:=h.GR j hj;obtain⟨b1,_,b3⟩:=h.yJ j hj;have key:(if j.runs then decide (1<=j.left)&&decide (j.left<=j.x.dX)else decide (j.left=0)&&s.queue.contains ⟨j.id,j.x.prio⟩)=true:=by
   obtain⟨c1,c2⟩:=h.left j hj;cases hr:j.runs with
   |true=>have:=c1 hr;simp;exact this|false=>
    have hc:s.queue.contains ⟨j.id,j.x.prio⟩=true:=by rw[List.contains_iff_mem];exact(h.vv _).2 ⟨j,hj,hr,rfl⟩
    simp only[Bool.false_eq_true,if_false,hc,c2 hr];simp
  have h1:XT s q j=true:=by
   unfold XT;cases q with
   |none=>rw[if_neg (by omega),if_neg (by omega),if_neg (by simp),if_neg (by simp[b1]),b3,if_neg (by simp),key]|some p=>rw[if_neg (by omega),if_neg (by omega),if_neg (by have:=hq p rfl j (by simp);simp;omega),if_neg (by simp[b1]),b3,if_neg (by simp),key]
  unfold ot;rw[h1,JV h r (some j.id) (λx hx=>hm x (by simp[hx])) ha.2 (λp hp x hx=>by cases hp;exact ha.1 x hx)];rfl
theorem cI.ok.right {s:cI} (h:s.ok):gR s=true:=by
 have h1:mQ s.bt=true:=wB.2 h.bt;have h2:ic s.tree=true:=MB h.tree λe he k hk=>by rw[h.used e he k hk];exact V6 h.tree.GL (λx hx=>h.used x hx k hk) e.path
 have hq:=h.Y3;have hw:iP s.aJ<=s.aJ.length:=List.length_filter_le _ _
 have hm:=h.most;have h3:pE s.queue=true:=by refine PO h.tP h.zU ?_ (by omega);intro q hq;obtain⟨j,hj,_,rfl⟩:=(h.vv q).1 hq;obtain⟨_,_,hp,_⟩:=fV.1 (h.yJ j hj).1;simp[gA];omega
 have h4:ot s none s.aJ=true:=JV h s.aJ none (λj hj=>hj) h.ids (λp hp=>by cases hp);have h5:ny s=true:=by
  have hn:=yH 0 s.aJ [] h.ids (by simp);obtain⟨m,a1,a2⟩:=yI (l:=s.aJ) s.bt.places (kQ s.aJ) hn.1 (λx hx=>by
   obtain⟨j,hj,_,g2,g3⟩:=h.places x hx;have:(fy s.aJ x.bL).1=j:=by
    unfold fy;cases hf:s.aJ.find? (λj=>decide (j.id=x.bL))with
    |none=>rw[List.find?_eq_none]at hf;have:=hf j hj;simp[g2]at this|some y=>have e:=List.find?_some hf;simp only[vai]at e;exact mK h.ids (List.mem_of_find?_eq_some hf) hj (by rw[e,g2])
   rw[this,g3]) (λid=>by
   rw[kQ,(yH id s.aJ [] h.ids (by simp)).2];cases hf:s.aJ.find? (λj=>decide (j.id=id)&&j.runs)with
   |some j=>
    have e:=List.find?_some hf;simp only[vae,vai]at e;have hj:=List.mem_of_find?_eq_some hf
    have:=h.count j hj e.2;rw[e.1]at this;exact this.symm
   |none=>
    rw[List.find?_eq_none]at hf;have:vK id s.bt.places=0:=by
     unfold vK;rw[List.length_eq_zero_iff,List.filter_eq_nil_iff];intro x hx g;obtain⟨j,hj,g1,g2,_⟩:=h.places x hx;have:=hf j hj
     simp only[vai]at g;simp[g2,g,g1]at this
    rw[this];rfl)
  unfold ny;rw[a1];exact a2
 have h6:(s.tree.any λe=>!sw s e)=false:=by rw[List.any_eq_false];intro e he;rw[SZ (h.tree.w e he).2 (λj hj _=>(fV.1 (h.yJ j hj).1).2.2.2.2.2) (h.used e he)];simp
 have h7:=h.notes;have h8:=h.next
 unfold gR;rw[h1,h2,h3,h4,h5,h6];simp only[Bool.not_true,Bool.false_eq_true,if_false];rw[if_neg (by omega),if_neg (by omega),if_neg (by omega)];simp[hq]
end Dem
end
