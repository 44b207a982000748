/- Parts of a proof, joined. -/
import Derived.Test.YtjnbpclolnmimaaGreatDoorJ15
import Derived.Defers
import Derived.Test.YtjnbpclolnmimaaGreatDoorRows
import Derived.ProofKit
import Derived.LaidMore
import Derived.OpenShut
import Derived.Carry
import Derived.Stop.Joined
import Derived.Lib.RuneCount
set_option linter.unusedSimpArgs false
set_option linter.unusedVariables false
set_option maxRecDepth 100000
set_option maxHeartbeats 4000000
section
open Go
namespace Dem
def flat:Code→List Code
 |.seq a b=>flat a++flat b
 |c=>[c]
section
variable {P:Program}
def qE (P:Program):List Code→(Exit→Act→World→Prop)→Act→World→Prop
 |[],Q=>Q .normal
 |c::r,Q=>c.wp P (Exit.then (qE P r Q) Q)
theorem DK {K K':Act→World→Prop} {Q Q':Exit→Act→World→Prop} (h:∀a w,K a w→K' a w) (hq:∀e a w,Q e a w→Q' e a w):∀e a w,Exit.then K Q e a w→Exit.then K' Q' e a w:=by
 intro e a w hh;cases e<;>simp only [Exit.then] at hh ⊢<;>first|exact h _ _ hh|exact hq _ _ _ hh
theorem oG:∀{l:List Code} {Q Q':Exit→Act→World→Prop} {a:Act} {w:World},(∀e a w,Q e a w→Q' e a w)→qE P l Q a w→qE P l Q' a w
 |[],_,_,_,_,hq,h=>hq _ _ _ h
 |_::_,_,_,_,_,hq,h=>wp_mono h (DK (fun _ _ hh=>oG hq hh) hq)
theorem Bu:∀{l1 l2:List Code} {Q:Exit→Act→World→Prop} {a:Act} {w:World},qE P (l1++l2) Q a w→qE P l1 (Exit.then (qE P l2 Q) Q) a w
 |[],_,_,_,_,h=>h
 |c::l1,l2,Q,a,w,h=>by
  refine wp_mono (show c.wp P (Exit.then (qE P (l1++l2) Q) Q) a w from h) ?_
  intro e a w hh
  cases e<;>simp only [Exit.then] at hh ⊢<;>first|exact Bu hh|exact hh
theorem vU:∀(c:Code) {Q:Exit→Act→World→Prop} {a:Act} {w:World},qE P (flat c) Q a w→c.wp P Q a w
 |.seq x y,Q,a,w,h=>by
  have h:=Bu (show qE P (flat x++flat y) Q a w from h)
  refine wp_seq (wp_mono (vU x h) ?_)
  exact DK (fun a w hh=>vU y hh) (fun _ _ _ hh=>hh)
 |.skip,Q,a,w,h=>wp_mono h (by intro e a w hh;cases e<;>simpa only [qE,Exit.then] using hh)
 |.region ..,Q,a,w,h=>wp_mono h (by intro e a w hh;cases e<;>simpa only [qE,Exit.then] using hh)
 |.cond ..,Q,a,w,h=>wp_mono h (by intro e a w hh;cases e<;>simpa only [qE,Exit.then] using hh)
 |.block ..,Q,a,w,h=>wp_mono h (by intro e a w hh;cases e<;>simpa only [qE,Exit.then] using hh)
 |.loop ..,Q,a,w,h=>wp_mono h (by intro e a w hh;cases e<;>simpa only [qE,Exit.then] using hh)
 |.rangeFunc ..,Q,a,w,h=>wp_mono h (by intro e a w hh;cases e<;>simpa only [qE,Exit.then] using hh)
 |.exit ..,Q,a,w,h=>wp_mono h (by intro e a w hh;cases e<;>simpa only [qE,Exit.then] using hh)
 |.scope ..,Q,a,w,h=>wp_mono h (by intro e a w hh;cases e<;>simpa only [qE,Exit.then] using hh)
 |.label ..,Q,a,w,h=>wp_mono h (by intro e a w hh;cases e<;>simpa only [qE,Exit.then] using hh)
 |.goto ..,Q,a,w,h=>wp_mono h (by intro e a w hh;cases e<;>simpa only [qE,Exit.then] using hh)
 |.ret,Q,a,w,h=>wp_mono h (by intro e a w hh;cases e<;>simpa only [qE,Exit.then] using hh)
 |.refuse ..,Q,a,w,h=>wp_mono h (by intro e a w hh;cases e<;>simpa only [qE,Exit.then] using hh)
end
section
variable (t:Th) (FC:Nat→List AV→List ax→fm→List ax→Prop) (T:Nat→Option TI) (G:Nat→Option (List D)) (N K:Nat)
def Bv:List Code→(Ex→St→Prop)→St→Prop
 |[],Q,s=>Q .normal s
 |c::r,Q,s=>rI t FC T G N K c (fun e s1=>nt (fun s1=>Bv r Q s1) Q e s1) s
def HP:List Oper→(AV→St→Prop)→St→Prop
 |[],_,_=>False
 |[o],KD,s=>match o.guard,o.dst,o.op with
  |none,none,.defer {callee:=.value x,args,..}=>bif args.toList.isEmpty then (bW G s.sl x).ok∧KD (bW G s.sl x).aP s else False
  |_,_,_=>False
 |o::o2::rest,KD,s=>bif fS N o.dst then match o.guard with
  |none=>stepT t FC T G o s (fun v bx=>HP (o2::rest) KD ⟨dV o.dst v s.sl,bx⟩) (fun _ _=>False)
  |some _=>False
  else False
end
section
variable {P:Program} {T:Nat→Option TI} {G:Nat→Option (List D)} {N K:Nat} {ds:List Deferred} {X:Nat→Prop} {β0:Nat→Nat} {aE:List ax} {w0:World}
theorem fM (hT:iH P T) (hD:kX P T G) (hK:aE.length≤K):∀(l:List Code) (Q:Ex→St→Prop) (β:Nat→Nat) (w:World) (s:St) (a:Act),Ext β0 aE w0 β s.bx w→Fr G N ds β w X s a→
 Bv t0 (bg P G) T G N K l Q s→qE P l (ee G N ds X β0 aE w0 Q) a w
 |[],Q,β,w,s,a,ex,hF,h=>⟨β,s,ex,hF,h⟩
 |c::l,Q,β,w,s,a,ex,hF,h=>by
  refine wp_mono (fh hT hD hK c _ β w s a ex hF h) ?_
  intro e a' w' hl
  cases e<;>simp only [ee,nt,Exit.then] at hl ⊢
  ·obtain ⟨β',s',h1,h2,h3⟩:=hl
   exact fM hT hD hK l Q β' w' s' a' h1 h2 h3
  all_goals exact hl
theorem rL (hT:iH P T) {ops:Array Oper} {KD:AV→St→Prop} {Qc:Exit→Act→World→Prop}
 (hN:∀(β:Nat→Nat) (w:World) (s:St) (a:Act) (x:AV) (v:Value),Ext β0 aE w0 β s.bx w→Fr G N ds β w X s a→KD x s→ah β s.bx w (be β s.bx w X) x v→
  (Deferred.ofValue v #[]).run P w=.ok {target:=(match v with|.func fn _ c=>.fn fn c|_=>.nil),args:=(match v with|.func _ first _=>first|_=>#[])} w→
  Qc .normal {a with defers:={target:=(match v with|.func fn _ c=>.fn fn c|_=>.nil),args:=(match v with|.func _ first _=>first|_=>#[])}::a.defers} w)
 (hfn:∀x s,KD x s→∃f dG,x=.fn f dG∧eC dG=true):
 ∀(l:List Oper) (β:Nat→Nat) (w:World) (s:St) (a:Act),Ext β0 aE w0 β s.bx w→Fr G N ds β w X s a→HP t0 (bg P G) T G N l KD s→wpList P ops Qc l a w
 |[],β,w,s,a,ex,hF,h=>h.elim
 |[o],β,w,s,a,ex,hF,h=>by
  unfold HP at h
  split at h
  ·rename_i x args ats hg hd ho
   cases hargs:args.toList.isEmpty with
   |false=>simp [hargs] at h
   |true=>
   simp only [hargs,cond_true] at h
   obtain ⟨hok,hk⟩:=h
   have hv:=iE (hF.eval x) hok
   obtain ⟨f,dG,hx,nQ⟩:=hfn _ _ hk
   have WG:=hv
   rw [hx] at WG
   simp only [ah] at WG
   obtain ⟨vs,ev,hvs⟩:=WG
   rw [kK nQ hvs] at ev
   have ha:args=#[]:=by
    have:args.toList=[]:=by simpa using hargs
    exact Array.toList_inj.1 this
   subst ha
   refine wpList_step fun KK VD=>?_
   rw [if_pos (by simp [Region.wanted,hg])]
   have hr:(Deferred.ofValue (a.eval x) #[]).run P w=.ok {target:=.fn (.func f) ⟨vs⟩,args:=#[]} w:=by rw [ev];rfl
   have hrun:(execOp a.eval o).run P w=.ok (.defer {target:=.fn (.func f) ⟨vs⟩,args:=#[]}) w:=by
    simp [execOp,ho,resolve,hr]
   unfold Oper.wp
   rw [hrun,Oper.upon_defer,hd]
   refine VD _ _ ?_
   have:=hN β w s a _ _ ex hF hk hv (by rw [ev];rfl)
   rw [ev] at this
   exact this
  exact h.elim
 |o::o2::rest,β,w,s,a,ex,hF,h=>by
  unfold HP at h
  cases hd:fS N o.dst with
  |false=>simp [hd] at h
  |true=>
  simp only [hd,cond_true] at h
  split at h
  ·rename_i hg
   refine wpList_step fun KK VD=>?_
   rw [if_pos (by simp [Region.wanted,hg])]
   refine kM hT hF (vO (fun v bx hK=>hK) h) ?_ ?_
   ·intro β' aG w' v u oU nP hv hK
    exact VD _ _ (rL hT hN hfn (o2::rest) β' w' ⟨dV o.dst v s.sl,aG⟩ _ (ex.trans oU) (hF.put oU nP hd hv) hK)
   intro β' aG w' v u oU nP hv hK;exact hK.elim
  exact h.elim
theorem nC:∀{l1 l2:List Code} {Q:Exit→Act→World→Prop} {a:Act} {w:World},qE P l1 (Exit.then (qE P l2 Q) Q) a w→qE P (l1++l2) Q a w
 |[],_,_,_,_,h=>h
 |c::l1,l2,Q,a,w,h=>by
  refine wp_mono (show c.wp P (Exit.then (qE P l1 (Exit.then (qE P l2 Q) Q)) (Exit.then (qE P l2 Q) Q)) a w from h) ?_
  intro e a w hh
  cases e<;>simp only [Exit.then] at hh ⊢<;>first|exact nC hh|exact hh
theorem Bw {fn:Func} {args:List AV} {aE:List ax} (hN:fn.ntmps=N) (hlen:Nat.ble args.length N=true) {β:Nat→Nat} {w:World} {vs:List Value} (cx:ct G β aE w X) (hx:aj β aE w (be β aE w X) args vs):
 Fr G N [] β w X ⟨gA 0 args,aE⟩ {tmps:=(⟨vs⟩:Array Value)++Array.replicate (fn.ntmps-(⟨vs⟩:Array Value).size) undef,defers:=[]}:=by
 have hl:=aj.length hx
 have hle:args.length≤N:=Nat.le_of_ble_eq_true hlen
 refine ⟨cx,rfl,?_,?_⟩
 ·simp [hN,hl];omega
 intro t
 rw [AU]
 simp only [Nat.zero_le,if_true,Nat.sub_zero]
 by_cases ht:t<args.length
 ·obtain ⟨v,k1,k2⟩:=aj.get t args[t] hx (by simp [ht])
  have e1:args.getD t .any=args[t]:=by simp [List.getD_eq_getElem?_getD,ht]
  rw [e1]
  have hv:t<vs.length:=by omega
  have e2:vs[t]=v:=by rw [List.getElem?_eq_getElem hv] at k1;simpa using k1
  have e3:(({toList:=vs}:Array Value)++Array.replicate (fn.ntmps-(⟨vs⟩:Array Value).size) undef).getD t undef=v:=by
   simp [Array.getD_eq_getD_getElem?,Array.getElem?_append,hv,e2]
  rw [e3];exact k2
 simp [List.getD_eq_getElem?_getD,List.getElem?_eq_none (Nat.le_of_not_lt ht),ah]
theorem Fc (hT:iH P T) {fn:Func} {β:Nat→Nat} {w:World} {aE aG:List ax} {res:fm} {β':Nat→Nat} {s:St} {a':Act} {w':World} (ex:Ext β aE w β' s.bx w') (hF:Fr G N ds β' w' X s a')
 (hq:match u7 T s.sl s.bx fn.results.toList with
  |some (c,vs)=>PE aE.length c (oq vs) s.bx res aG
  |none=>False):∃v,(results fn a'.tmps).run P w'=.ok v w'∧∃β',Ext β aE w β' aG w'∧ct G β' aG w' X∧fC β' aG w' (be β' aG w' X) res (.returned v):=by
 split at hq
 ·rename_i c vs' hres
  obtain ⟨hc,hq⟩:=hq
  obtain ⟨u,k1,k2⟩:=yP hT hF hres hc
  refine ⟨u,k1,?_⟩
  rcases hq with ⟨rfl,rfl⟩|⟨ks,y,q1,q2,rfl,q3,rfl⟩|⟨k,sz,m,es,q0,q1,q2,q3,q4,rfl,rfl⟩|⟨sz,q0,q1,q2,rfl,rfl⟩
  ·exact ⟨β',ex,hF.cx,k2⟩
  ·obtain ⟨e1,c1,r1⟩:=Dv hF.cx q1 k2
   obtain ⟨e2,c2⟩:=Mo ks c1
   exact ⟨β',AS ((ex.trans e1).trans e2),AR c2 q3,mO (fun aB hb=>AQ _ aB hb) y u q2 (ah.mono (e2.dQ X) _ _ r1)⟩
  ·rw [q0] at k2
   exact zX hF.cx ex q3 q4 (.inr ⟨q2,q1⟩) (.inr k2)
  rw [q0] at k2
  simp only [ah,List.length_nil] at k2
  obtain ⟨base,k2,_⟩:=k2
  exact zX (k:=0) hF.cx ex q1 q2 (.inl ⟨rfl,rfl⟩) (.inl ⟨rfl,rfl,base,k2⟩)
 exact hq.elim
structure vV (FD:Nat→List AV→List ax→fm→List ax→Prop) (f:Nat) (dG:List AV) (bx:List ax) (K:List ax→Prop):Prop where
 ok:∃iG,FD f dG bx (.ret (.dF [])) iG∧K iG
def KB (t:Th) (FD:Nat→List AV→List ax→fm→List ax→Prop) (T:Nat→Option TI) (results:List ResultVar) (n:Nat) (res:fm) (aG:List ax) (f:Nat) (dG:List AV):Ex→St→Prop
 |.exit _,_=>False
 |.panic _,_=>False
 |_,s=>vV FD f dG s.bx (fun iG=>match u7 T s.sl iG results with
  |some (c,vs)=>Bq n c (oq vs) iG (DD t iG (oq vs)) res aG
  |none=>False)
def Fe (t:Th) (FC FD:Nat→List AV→List ax→fm→List ax→Prop) (T:Nat→Option TI) (G:Nat→Option (List D)) (N:Nat) (pre:List Code) (ops:List Oper) (post:List Code) (results:List ResultVar) (n:Nat) (res:fm) (aG:List ax) (s:St):Prop:=
 Bv t FC T G N n pre (fun e s=>match e with
  |.normal=>HP t FC T G N ops (fun x s2=>match x with
   |.fn g dG=>bif eC dG then Bv t FC T G N s2.bx.length post (KB t FD T results n res aG g dG) s2 else False
   |_=>False) s
  |_=>False) s
theorem zN (hT:iH P T) (hD:kX P T G) {f N:Nat} {fn:Func} {c:Code} {args:List AV} {aE aG:List ax} {res:fm} (hf:P.funcs[f]?=some fn) (hb:fn.body=some c)
 (hname:(fn.name== "runtime.NumGoroutine")=false) (hN:fn.ntmps=N) (hlen:Nat.ble args.length N=true) {pre post:List Code} {id:Nat} {ops:Array Oper} (hc:flat c=pre++.region id ops false::post)
 (h:Fe t0 (bg P G) (AX P G) T G N pre ops.toList post fn.results.toList aE.length res aG ⟨gA 0 args,aE⟩):bg P G f args aE res aG:=by
 intro β w vs X cx hx
 refine .inl ⟨by simp [callFunc,run_program,hf,hb];simpa using hname,calls_of_wp_defers hf hb (vU c ?_)⟩
 rw [hc]
 refine nC (oG ?_ (fM hT hD (Nat.le_refl _) pre _ β w _ _ (Ext.refl _ _ _) (Bw hN hlen cx hx) h))
 intro e a1 w1 hl
 cases e<;>simp only [ee,Exit.then] at hl ⊢
 case normal=>
  obtain ⟨β1,s1,vq,CM,hop⟩:=hl
  show (Code.region id ops false).wp P (Exit.then (qE P post _) _) a1 w1
  refine wp_region_list (rL (β0:=β) (aE:=aE) (w0:=w) hT ?_ ?_ ops.toList β1 w1 s1 a1 vq CM hop)
  ·intro β2 w2 s2 a2 x v Tb zY hk hv hr
   simp only [Exit.then]
   split at hk
   case h_2=>exact hk.elim
   rename_i g dG
   cases nQ:eC dG with
   |false=>simp [nQ] at hk
   |true=>
   simp only [nQ,cond_true] at hk
   simp only [ah] at hv
   obtain ⟨NI,rfl,vv⟩:=hv
   rw [kK nQ vv] at hr ⊢
   simp only
   have WR:Fr G N [{target:=.fn (.func g) ⟨NI⟩,args:=#[]}] β2 w2 X s2 {a2 with defers:={target:=.fn (.func g) ⟨NI⟩,args:=#[]}::a2.defers}:=
    ⟨zY.cx,by rw [zY.defers],zY.size,zY.xz⟩
   refine oG ?_ (fM (β0:=β2) (aE:=s2.bx) (w0:=w2) hT hD (Nat.le_refl _) post _ β2 w2 s2 _ (Ext.refl _ _ _) WR hk)
   have fin:∀(β3:Nat→Nat) (w3:World) (s3:St) (a3:Act),Ext β2 s2.bx w2 β3 s3.bx w3→Fr G N [{target:=.fn (.func g) ⟨NI⟩,args:=#[]}] β3 w3 X s3 a3→
    vV (AX P G) g dG s3.bx (fun iG=>match u7 T s3.sl iG fn.results.toList with
     |some (c,vs)=>Bq aE.length c (oq vs) iG (DD t0 iG (oq vs)) res aG
     |none=>False)→Leaves P fn a3.tmps (fun e w'=>∃β',Ext β aE w β' aG w'∧ct G β' aG w' X∧fC β' aG w' (be β' aG w' X) res e) a3.defers .returning w3:=by
    intro β3 w3 s3 a3 Zu E9 hdf
    obtain ⟨iG,hfd,hq⟩:=hdf
    rw [E9.defers]
    have KE:=aj.mono (Zu.dQ X) _ _ vv
    obtain ⟨hi,hcd⟩:=hfd β3 w3 NI X E9.cx KE
    refine leaves_cons (f:=g) (args:=⟨NI⟩) (by simp) (by simpa [invoke] using hi) ((hcd .returning).mono ?_)
    rintro e u' w4 ⟨rfl,β4,Zv,cx4,hres⟩
    cases e with
    |returned v=>
     simp only [Leaves,settle]
     have hF4:Fr G N [{target:=.fn (.func g) ⟨NI⟩,args:=#[]}] β4 w4 X ⟨s3.sl,iG⟩ a3:=⟨cx4,E9.defers,E9.size,fun t=>ah.mono (Zv.dQ X) _ _ (E9.xz t)⟩
     have Zw:=pL (T:=T) (results:=fn.results.toList) (n:=aE.length) (res:=res) (aG:=aG) (e:=.ret) (s:=⟨s3.sl,iG⟩) hq
     exact Fc hT (((Tb.trans Zu)).trans Zv) hF4 Zw
    |panicked ch=>simp [fC] at hres
    |outgrown=>simp [fC] at hres
   intro e a3 w3 HQ
   cases e<;>simp only [ee,bodyPostD,KB] at HQ ⊢
   ·obtain ⟨β3,s3,k1,k2,k3⟩:=HQ;exact fin β3 w3 s3 a3 k1 k2 k3
   ·obtain ⟨β3,s3,k1,k2,k3⟩:=HQ;exact k3
   ·obtain ⟨β3,s3,k1,k2,k3⟩:=HQ;exact fin β3 w3 s3 a3 k1 k2 k3
   obtain ⟨_,_,_,_,_,_,_,_,_,k3⟩:=HQ;exact k3.elim
  intro x s hk
  split at hk
  ·rename_i g dG
   cases nQ:eC dG with
   |false=>simp [nQ] at hk
   |true=>exact ⟨_,_,rfl,nQ⟩
  exact hk.elim
 case exit=>obtain ⟨_,_,_,_,k⟩:=hl;exact k.elim
 case ret=>obtain ⟨_,_,_,_,k⟩:=hl;exact k.elim
 case panic=>obtain ⟨_,_,_,_,_,_,_,_,_,k⟩:=hl;exact k.elim
theorem zO (hT:iH P T) (hD:kX P T G) {f N:Nat} {fn:Func} {c:Code} {args:List AV} {aE aG:List ax} {res:fm} (hf:P.funcs[f]?=some fn) (hb:fn.body=some c)
 (hname:(fn.name== "runtime.NumGoroutine")=false) (hN:fn.ntmps=N) (hlen:Nat.ble args.length N=true)
 (h:rI t0 (bg P G) T G N aE.length c (jE t0 T fn.results.toList aE.length res aG) ⟨gA 0 args,aE⟩):AX P G f args aE res aG:=
 EU hT hf hb hname hN hlen fun β w X a hF=>wp_mono (fh (X:=X) (β0:=β) (aE:=aE) (w0:=w) hT hD (Nat.le_refl _) c _ β w ⟨gA 0 args,aE⟩ a (Ext.refl _ _ _) hF h)
  fun _ _ _ hl=>ee.imp (fun _ _ hq=>pL hq) hl
end
def xL:List Oper→Bool
 |[]=>false
 |[o]=>match o.op with
  |.defer _=>true
  |_=>false
 |_::r=>xL r
def uC:List Code→Option (List Code×Nat×Array Oper×List Code)
 |[]=>none
 |.region id ops false::r=>bif xL ops.toList then some ([],id,ops,r) else match uC r with
  |some (p,i,o,q)=>some (.region id ops false::p,i,o,q)
  |none=>none
 |c::r=>match uC r with
  |some (p,i,o,q)=>some (c::p,i,o,q)
  |none=>none
theorem sL:∀{l pre post:List Code} {id:Nat} {ops:Array Oper},uC l=some (pre,id,ops,post)→l=pre++.region id ops false::post
 |[],_,_,_,_,h=>by simp [uC] at h
 |c::r,pre,post,id,ops,h=>by
  unfold uC at h
  split at h
  ·simp at*
  ·rename_i id' ops' r' e
   simp only [List.cons.injEq] at e
   obtain ⟨rfl,rfl⟩:=e
   cases hl:xL ops'.toList with
   |true=>simp [hl] at h;obtain ⟨rfl,rfl,rfl,rfl⟩:=h;rfl
   |false=>
    simp only [hl,cond_false] at h
    split at h
    ·rename_i p i o q hs
     simp only [Option.some.injEq,Prod.mk.injEq] at h
     obtain ⟨rfl,rfl,rfl,rfl⟩:=h
     rw [sL hs];rfl
    cases h
  rename_i c' r' hne e
  simp only [List.cons.injEq] at e
  obtain ⟨rfl,rfl⟩:=e
  split at h
  ·rename_i p i o q hs
   simp only [Option.some.injEq,Prod.mk.injEq] at h
   obtain ⟨rfl,rfl,rfl,rfl⟩:=h
   rw [sL hs];rfl
  cases h
theorem KF {FD:Nat→List AV→List ax→fm→List ax→Prop} {f:Nat} {dG:List AV} {bx:List ax} {K:List ax→Prop} {iG:List ax} (h:FD f dG bx (.ret (.dF [])) iG) (hK:K iG):vV FD f dG bx K:=⟨iG,h,hK⟩
end Dem
end
section
namespace Dem
abbrev aD:=List UInt8
structure bz where
 a:Int
 b:Int
 c:Int
 d:Int
deriving DecidableEq
def bz.zero:bz:=⟨0,0,0,0⟩
def HR (x y:Int):Int×Bool:=if x.toNat+y.toNat<18446744073709551616 then (((x.toNat+y.toNat:Nat):Int),true) else (0,false)
def HS (x y:Int):Int×Bool:=if x.toNat<y.toNat then (0,false) else (((((x.toNat-y.toNat)%18446744073709551616:Nat)):Int),true)
def both (f:Int→Int→Int×Bool) (a b:bz):bz×Bool:=
 if (f a.a b.a).2&&(f a.b b.b).2&&(f a.c b.c).2&&(f a.d b.d).2 then (⟨(f a.a b.a).1,(f a.b b.b).1,(f a.c b.c).1,(f a.d b.d).1⟩,true) else (bz.zero,false)
def gT (a b:bz):bz×Bool:=both HR a b
def gu (a b:bz):bz×Bool:=both HS a b
def mU (a b:bz):Bool:=(gu b a).2
def rM:Nat→Int→aD
 |0,u=>[UInt8.ofNat (u%256).toNat]
 |n+1,u=>if 128≤u then UInt8.ofNat (u.toNat%128+128)::rM n (u / 128) else [UInt8.ofNat (u%256).toNat]
def ej (u:Int):aD:=rM 9 u
theorem DL:∀(n:Nat) (u:Int),(rM n u).length≤n+1
 |0,_=>by simp [rM]
 |n+1,u=>by
  unfold rM;split
  ·simp;exact DL n _
  simp
theorem c6 (u:Int):(ej u).length≤10:=DL 9 u
def bH (s:aD):aD:=ej s.length++s
def CX (v:bz):aD:=ej v.a++ej v.b++ej v.c++ej v.d
end Dem
namespace Dem
def idxOf {α:Type} (p:α→Bool) (l:List α):Int:=match l.findIdx? p with|some k=>(k:Int)|none=>-1
theorem cN {α:Type} {p:α→Bool}:∀{l:List α} {k:Nat} {x:α},l[k]?=some x→p x=true→(∀i<k,∀y,l[i]?=some y→p y=false)→l.findIdx? p=some k
 |[],_,_,h,_,_=>by simp at h
 |y::r,0,x,h,hp,_=>by simp at h;subst h;simp [List.findIdx?_cons,hp]
 |y::r,k+1,x,h,hp,hb=>by
  have hy:p y=false:=hb 0 (by omega) y (by simp)
  simp only [List.getElem?_cons_succ] at h
  rw [List.findIdx?_cons,hy]
  simp [cN h hp fun i hi z hz=>hb (i+1) (by omega) z (by simpa using hz)]
theorem cS {α:Type} {p:α→Bool} {l:List α} (hb:∀(i:Nat) (y:α),l[i]?=some y→p y=false):l.findIdx? p=none:=by
 rw [List.findIdx?_eq_none_iff]
 intro x hx
 obtain ⟨i,hi⟩:=List.getElem?_of_mem hx
 exact hb i x hi
theorem eT {α:Type} (p:α→Bool) (l:List α):l.any p=decide (0≤idxOf p l):=by
 unfold idxOf
 cases h:l.findIdx? p with
 |none=>
  rw [List.findIdx?_eq_none_iff] at h
  simp
  intro x hx;simp [h x hx]
 |some k=>
  have:=List.findIdx?_eq_some_iff_getElem.1 h
  obtain ⟨hk,hp,_⟩:=this
  simp
  exact ⟨l[k],List.getElem_mem hk,hp⟩
end Dem
end
section
open Go Dem Go.Proofs
namespace Dem
theorem TT.eq {t:Th} (h:TT t):t=t0:=by funext α f;exact h α f
theorem bC {t:Th} (ht:TT t) {f N:Nat} {fn:Func} {c:Code} {args:List AV} {aE aG:List ax} {res:fm} (hf:Tryz.prog.funcs[f]?=some fn) (hb:fn.body=some c)
 (hname:(fn.name== "runtime.NumGoroutine")=false) (hN:fn.ntmps=N) {rs:List ResultVar} (EI:fn.results.toList=rs) {n:Nat} (hn:aE.length=n) (hlen:Nat.ble args.length N=true)
 (h:rI t FC tT gl N n c (jE t tT rs n res aG) ⟨gA 0 args,aE⟩):FC f args aE res aG:=by
 subst EI;subst hn
 have e:=ht.eq
 subst e
 exact zM KA nS hf hb hname hN hlen h
def FD:Nat→List AV→List ax→fm→List ax→Prop:=AX Tryz.prog gl
theorem fcD {t:Th} (ht:TT t) {f N:Nat} {fn:Func} {c:Code} {args:List AV} {aE aG:List ax} {res:fm} (hf:Tryz.prog.funcs[f]?=some fn) (hb:fn.body=some c)
 (hname:(fn.name== "runtime.NumGoroutine")=false) (hN:fn.ntmps=N) {rs:List ResultVar} (EI:fn.results.toList=rs) {n:Nat} (hn:aE.length=n) (hlen:Nat.ble args.length N=true)
 {pre post:List Code} {id:Nat} {ops:Array Oper} (hs:uC (flat c)=some (pre,id,ops,post))
 (h:Fe t FC FD tT gl N pre ops.toList post rs n res aG ⟨gA 0 args,aE⟩):FC f args aE res aG:=by
 subst EI;subst hn
 have e:=ht.eq
 subst e
 exact zN KA nS hf hb hname hN hlen (sL hs) h
theorem fdC {t:Th} (ht:TT t) {f N:Nat} {fn:Func} {c:Code} {args:List AV} {aE aG:List ax} {res:fm} (hf:Tryz.prog.funcs[f]?=some fn) (hb:fn.body=some c)
 (hname:(fn.name== "runtime.NumGoroutine")=false) (hN:fn.ntmps=N) {rs:List ResultVar} (EI:fn.results.toList=rs) {n:Nat} (hn:aE.length=n) (hlen:Nat.ble args.length N=true)
 (h:rI t FC tT gl N n c (jE t tT rs n res aG) ⟨gA 0 args,aE⟩):FD f args aE res aG:=by
 subst EI;subst hn
 have e:=ht.eq
 subst e
 exact zO KA nS hf hb hname hN hlen h
theorem fcX {f:Nat} {fn:Func} {e:Array Value→Sem Value} {args:List AV} {v:AV} (hf:Tryz.prog.funcs[f]?=some fn) (hname:(fn.name== "runtime.NumGoroutine")=false)
 (hb:fn.body.isNone=true) (hn:Extern.findNext fn=none) (he:Extern.find fn=some e)
 (h:∀(β:Nat→Nat) (w:World) (vs:List Value) (ok:Nat→Prop),aj β [] w ok args vs→∃u,(e ⟨vs⟩).run Tryz.prog w=.ok u w∧ah β [] w ok v u):FC f args [] (.ret v) []:=by
 intro β w vs X cx hx
 obtain ⟨u,h1,h2⟩:=h β w vs _ hx
 refine .inr ⟨u,w,?_,β,Ext.refl _ _ _,cx,h2⟩
 rw [run_callFunc_extern hf hname hb hn he,h1]
 rfl
abbrev bq (x:Int):AV:=.d (.int .i64 x)
abbrev az (x:Int):AV:=.d (.int .u64 x)
abbrev BL (b:Bool):AV:=.d (.bool b)
abbrev ST (s:List UInt8):AV:=.d (.str s)
abbrev SL (es:List (List D)):AV:=.d (.sl es)
abbrev V4 (a b c d:Int):AV:=.agg [.d (.int .u64 a),.d (.int .u64 b),.d (.int .u64 c),.d (.int .u64 d)]
theorem aC {k:Nat} (h1:k<9223372036854775807):IntKind.i64.wrap ((k:Int)+1)=((k+1:Nat):Int):=by rw [wrap64 (by omega) (by omega)];omega
theorem aa (n:Nat):@NatCast.natCast Int instNatCastInt n=(n:Int):=rfl
end Dem
end
section
open Go Go.Proofs Go.ChangeShapes Go.WideShapes Go.RowKit
namespace Dem
theorem own:ownKnob Tryz.prog.godebug=none:=by kernel_rfl
theorem laidOut:laidOutB Tryz.prog=true:=by kernel_rfl
theorem QR:Tryz.prog.globalNamed "demesne/word.letters"=some 0:=by kernel_rfl
theorem WS:Tryz.prog.globalNamed "demesne/word.marks"=some 1:=by kernel_rfl
def DM:TypeId:=228
def MC:TypeId:=229
theorem QS:(Tryz.prog.globals[0]?).map (·.type)=some DM:=by kernel_rfl
theorem WT:(Tryz.prog.globals[1]?).map (·.type)=some MC:=by kernel_rfl
def abz:DataW Unit→Value
 |.lit (.int k n)=>.int k n
 |_=>.int .u8 0
def abA:DataW Unit→List Value
 |.agg l=>l.map abz
 |_=>[]
noncomputable def HT (os:Os):World:=
 let w0:=World.doorLaid Tryz.prog 400 os
 {w0 with heap:=w0.heap.modify 3 fun
  |.cells _ t fr=>.cells (abA YtjnbpclolnmimaaGreatDoor.Rows.laid_unicode_utf8_first).toArray t fr
  |o=>o}
abbrev mV:List (String×DataW Unit):=[("unicode/utf8.acceptRanges",YtjnbpclolnmimaaGreatDoor.Rows.laid_unicode_utf8_acceptRanges),("demesne/word.letters",YtjnbpclolnmimaaGreatDoor.Rows.laid_demesne_word_letters),("demesne/word.marks",YtjnbpclolnmimaaGreatDoor.Rows.laid_demesne_word_marks),("unicode/utf8.first",YtjnbpclolnmimaaGreatDoor.Rows.laid_unicode_utf8_first)]
theorem vW (os:Os) (args:Array Value):laidMetH Tryz.prog mV ((HT os).forCall (fun _ _=>0) ⟨#[],args,[]⟩).memory:=
 laidMetH_of_parts3 (fuel:=8) (laidMet_of_run' 8 (by kernel_rfl) (by kernel_rfl)) (by kernel_rfl) (by kernel_rfl)
theorem tyL:G2 Tryz.prog 8 DM=some [.int .i32,.int .i32,.int .i32,.int .i32,.int .i32,.int .i32]:=by kernel_rfl
theorem tyM:G2 Tryz.prog 8 MC=some [.int .i32,.int .i32,.int .i32,.int .i32]:=by kernel_rfl
theorem Ff {w:World} {ok:Nat→Prop} {aB:Nat}:∀{ds:List D} {vs:List Value} (off:Nat),cq w ok ds vs→(∀i v,vs[i]?=some v→w.cell? ⟨aB,off+i,none⟩=some v)→aY w ok aB ds off
 |[],_,_,_,_=>by simp [aY]
 |d::ds,vs,off,h,hc=>by
  simp only [cq] at h
  obtain ⟨v,r,rfl,h1,h2⟩:=h
  simp only [aY]
  refine ⟨⟨v,hc 0 v rfl,h1⟩,Ff (off+1) h2 fun i u hu=>?_⟩
  rw [show off+1+i=off+(i+1) by omega]
  exact hc (i+1) u (by simpa using hu)
theorem HU {W:World} (h:laidMetH Tryz.prog mV W):ct gl (fun _=>0) [] W (fun _=>False):=by
 rw [MakeChecks.laidMetH_plain _ _ _ (by kernel_rfl)] at h
 obtain ⟨ps,⟨_,_,_,_,_,_,_,_,_,_,⟨g0,t0,cs0,f0,p0,q0,YL,ht0,QT,hd0,⟨g1,t1,cs1,f1,p1,q1,hg1,ht1,SS,YA,_,_⟩,_⟩,_⟩,_,_⟩:=h
 obtain rfl:=Option.some.inj (QR.symm.trans YL)
 obtain rfl:=Option.some.inj (WS.symm.trans hg1)
 obtain rfl:=Option.some.inj (QS.symm.trans ht0)
 obtain rfl:=Option.some.inj (WT.symm.trans ht1)
 have hok:∀aB,aB<W.heap.size→be (fun _=>0) [] W (fun _=>False) aB:=fun aB hb=>⟨hb,fun h=>h,fun i b hb=>by simp at hb⟩
 obtain ⟨r0,_⟩:=oB hok 8 _ _ _ _ _ hd0 tyL
 obtain ⟨r1,_⟩:=oB hok 8 _ _ _ _ _ YA tyM
 have c0:=fun i=>World.var?_cell YL QT i
 have c1:=fun i=>World.var?_cell hg1 SS i
 refine ⟨fun _ h=>h.elim,?_,by simp,by simp,by simp⟩
 intro g ds hg
 unfold gl at hg
 have hlt:∀{i:Nat} {a:Addr} {v:Value},W.cell? a=some v→a.block<W.heap.size:=by
  intro i a v hc
  rcases Nat.lt_or_ge a.block W.heap.size with h|h
  ·exact h
  simp [World.cell?,h] at hc
 cases e0:Nat.beq g 0 with
 |true=>
  rw [e0] at hg
  simp only [cond_true,Option.some.injEq] at hg
  obtain rfl:=Nat.eq_of_beq_eq_true e0
  have hrow:aY W (be (fun _=>0) [] W (fun _=>False)) 0 ds 0:=by
   rw [←hg];exact Ff 0 r0 fun i v hv=>by rw [Nat.zero_add,c0 i];simpa using hv
  refine ⟨hok _ ?_,hrow⟩
  rw [←hg] at hrow
  simp only [aY] at hrow
  obtain ⟨⟨u,hu,_⟩,_⟩:=hrow
  exact hlt (i:=0) hu
 |false=>
  rw [e0] at hg
  simp only [cond_false] at hg
  cases e1:Nat.beq g 1 with
  |true=>
   rw [e1] at hg
   simp only [cond_true,Option.some.injEq] at hg
   obtain rfl:=Nat.eq_of_beq_eq_true e1
   have hrow:aY W (be (fun _=>0) [] W (fun _=>False)) 1 ds 0:=by
    rw [←hg];exact Ff 0 r1 fun i v hv=>by rw [Nat.zero_add,c1 i];simpa using hv
   refine ⟨hok _ ?_,hrow⟩
   rw [←hg] at hrow
   simp only [aY] at hrow
   obtain ⟨⟨u,hu,_⟩,_⟩:=hrow
   exact hlt (i:=0) hu
  |false=>rw [e1] at hg;cases hg
theorem pM {f:Nat} {args:List AV} {vs:List Value} {W:World} (hL:laidMetH Tryz.prog mV W) (he:∀args w,(callFunc f args).run Tryz.prog w=.ok (.enter f args) w)
 (hx:aj (fun _=>0) [] W (be (fun _=>0) [] W (fun _=>False)) args vs) (h:FC f args [] (.ret (.d (.bool true))) []):
 Calls Tryz.prog f ⟨vs⟩ W fun e w'=>e=.returned (.bool true)∧RowKit.Below W.heap.size W w':=by
 have hc:=h (fun _=>0) W vs (fun _=>False) (HU hL) hx
 rcases hc with ⟨_,hc⟩|⟨v,w',hc,_⟩
 ·refine hc.mono ?_
  rintro e w' ⟨β',ex,_,hr⟩
  cases e with
  |returned u=>
   simp only [fC,ah,aK] at hr
   subst hr
   exact ⟨rfl,⟨ex.os,ex.tape,ex.output,ex.size,fun k hk=>ex.block k hk (by simp)⟩⟩
  |_=>exact hr.elim
 rw [he] at hc;cases hc
theorem CY {H:Type} {enc:TypeId×Value→H} {P:Program} (hl:laidOutB P=true) {W W':World} (hb:RowKit.Below W.heap.size W W'):∀(ts:List TypeId) (vs:List Value) (ds:List (DataW H)) (ps:List MemPlace),(ts.all fun t=>P.readableRec t&&decide (t<P.types.size))=true→
 (∀x∈ps,x.block<W.heap.size)→DataW.TrodAll enc P W 0 (fun _=>true) true ts vs ds ps→DataW.TrodAll enc P W' 0 (fun b=>decide (b<W.heap.size)) true ts vs ds ps:=by
 intro ts
 induction ts with
 |nil=>
  intro vs ds ps _ _ h
  cases vs with
  |nil=>cases ds with
   |nil=>exact h
   |cons d ds=>exact h.elim
  |cons v vs=>cases ds<;>exact h.elim
 |cons t ts ih=>
  intro vs ds ps ht hlt h
  cases vs with
  |nil=>cases ds<;>exact h.elim
  |cons v vs=>cases ds with
   |nil=>exact h.elim
   |cons d ds=>
    obtain ⟨p,q,h1,h2,rfl⟩:=h
    simp only [List.all_cons,Bool.and_eq_true,decide_eq_true_eq] at ht
    exact ⟨p,q,RowKit.Below.trod hl ht.1.1 ht.1.2 h1 hb (fun x hx=>hlt x (List.mem_append_left _ hx)),ih vs ds q ht.2 (fun x hx=>hlt x (List.mem_append_right _ hx)) h2,rfl⟩
theorem HV {H:Type} {enc:TypeId×Value→H} {P:Program} {W:World}:∀(ts:List TypeId) (vs:List Value) (ds:List (DataW H)) (ps:List MemPlace),DataW.TrodAll enc P W 0 (fun _=>true) true ts vs ds ps→ds.length=ts.length:=by
 intro ts
 induction ts with
 |nil=>
  intro vs ds ps h
  cases vs with
  |nil=>cases ds with
   |nil=>rfl
   |cons d ds=>exact h.elim
  |cons v vs=>cases ds<;>exact h.elim
 |cons t ts ih=>
  intro vs ds ps h
  cases vs with
  |nil=>cases ds<;>exact h.elim
  |cons v vs=>cases ds with
   |nil=>exact h.elim
   |cons d ds=>obtain ⟨_,_,_,h2,_⟩:=h;simp [ih _ _ _ h2]
theorem CZ {W W':World} (hb:RowKit.Below W.heap.size W W') (may:MemPlace→Prop):W.keptBut W' may:=by
 refine ⟨hb.os,hb.output,fun i hi=>?_⟩
 rw [hb.block i hi]
 generalize W.heap[i]?=o
 cases o with
 |none=>rfl
 |some o=>cases o<;>first|exact ⟨rfl,rfl,rfl,fun _ _=>rfl⟩|exact .inr ⟨rfl,rfl⟩|rfl
theorem Zx:Tryz.prog.underlying 4=some .bool:=by kernel_rfl
theorem sM {H:Type} {enc:TypeId×Value→H} {os:Os} (started:os.Started) {F:FuncId} {fn:Func} {s:ChangeSpec} (hfn:Tryz.checked.prog.funcs[F]?=some fn) (hni:Tryz.checked.prog.inits.idxOf? F=none) (hv:s.vars=[]) (hrt:fn.resultTypes=#[4])
 (hts:(fn.params.toList.all fun t=>Tryz.prog.readableRec t&&decide (t<Tryz.prog.types.size))=true)
 (hs:∀ds:List (DataW H),ds.length=fn.params.toList.length→(s.fn H ds).results=[.lit (.bool true)]∧(s.fn H ds).args=ds∧(s.fn H ds).vars=[])
 (witness:∃(w:World) (tape:Tape) (i:Input),w.os=os∧(w.forCall tape i).Shaped Tryz.checked.prog∧i.vars=[]∧Input.okWide Tryz.checked.prog (w.forCall tape i) .any w.heap.size F i∧
  ((s.pre enc Tryz.checked.prog fn [] false (w.forCall tape i).memory i.args∧laidMetH Tryz.prog mV (w.forCall tape i).memory)∧sizedMet enc Tryz.checked.prog fn (OpenSpec.ofChange s) false (w.forCall tape i).memory i.args)∧({}:Assume).holds Tryz.checked.prog (lone (Frame.enter Tryz.checked.prog F i.args .normal) [] (w.forCall tape i)))
 (WU:∀(W:World) (args:Array Value) (ds:List (DataW H)) (p:List MemPlace),laidMetH Tryz.prog mV W→DataW.TrodAll enc Tryz.prog W 0 (fun _=>true) true fn.params.toList args.toList ds p→
  (∀(j:Nat) t v,fn.params[j]?=some t→args[j]?=some v→∃base,Value.okWide Tryz.prog W .any base t v)→
  Calls Tryz.prog F args W fun e w'=>e=.returned (.bool true)∧RowKit.Below W.heap.size W w'):
 ReturnsInHanded {} Tryz.checked os F .any (fun w args=>(s.pre enc Tryz.checked.prog fn [] false w args∧laidMetH Tryz.prog mV w)∧sizedMet enc Tryz.checked.prog fn (OpenSpec.ofChange s) false w args) (s.post enc Tryz.checked.prog fn false true false false):=by
 refine returnsInHanded_of_change_and (C:=Tryz.checked) (X:=fun w _=>laidMetH Tryz.prog mV w) (fun _ _ _ hh h=>h.of_heap hh) own started hni hfn witness ?_
 intro W base args ds gs before hval hW _ _ hL _
 have hW':=hW
 obtain ⟨p,q,hA,hV,rfl,hfz,hnd⟩:=hW
 rw [hv] at hV
 obtain ⟨rfl,rfl⟩:=trodVars_none hV
 have hlen:ds.length=fn.params.toList.length:=HV _ _ _ _ hA
 obtain ⟨s1,s2,s3⟩:=hs ds hlen
 refine (WU W args ds p hL hA (fun j t v h1 h2=>⟨base,hval j t v h1 h2⟩)).mono fun e w' ⟨he,hb⟩=>?_
 refine ⟨.bool true,he,ds,[],p++[],[],p,[],hW',?_,?_,?_,CZ hb _,fun h=>by cases h⟩
 ·rw [List.append_nil,s1,hrt]
  exact trodAll_mk1 (shut_bool Zx _)
 ·rw [List.append_nil,s2]
  exact CY laidOut hb _ _ _ _ hts (fun x hx=>hW'.lt x (by simpa using hx)) hA
 rw [List.append_nil,s3,hv]
 rfl
end Dem
end
section
open Go
namespace Dem
def dec (s:aD) (pos:Nat):Nat×Nat:=Utf8.decode ⟨s.toArray⟩ pos
theorem MD (s:aD) (pos:Nat) (h:pos<s.length):1≤(dec s pos).2:=Lib.decode_width_pos _ pos (by show pos<s.toArray.size;simpa using h)
def iA (s:aD):Nat→Nat→List (Nat×Nat)
 |0,_=>[]
 |n+1,pos=>if pos<s.length then (pos,(dec s pos).1)::iA s n (pos+(dec s pos).2) else []
def DN (s:aD):List (Nat×Nat):=iA s s.length 0
def Fg:List (Int×Int):=[(97,122),(945,969),(1072,1103)]
def marks:List (Int×Int):=[(48,57),(45,45)]
def HW (r:Int) (l:List (Int×Int)):Bool:=l.any fun x=>decide (x.1≤r)&&decide (r≤x.2)
def rN (s:aD):Nat:=(DN s).length
def WV (x:Nat×Nat):Bool:=HW x.2 Fg||(!decide (x.1=0)&&HW x.2 marks)
def dX (s:aD):Bool:=(DN s).all WV&&!decide (s=[])&&decide (rN s≤16)
theorem Bx (s:aD):∀(n pos:Nat),(iA s n pos).length≤n
 |0,_=>by simp [iA]
 |n+1,pos=>by
  unfold iA;split
  ·simp;exact Bx s n _
  simp
end Dem
end
section
open Go
namespace Dem
structure bT where
 key:aD
 value:aD
deriving DecidableEq
abbrev bT.cells (p:bT):List D:=[.str p.key,.str p.value]
def sle (x y:aD):Bool:=Op.bytesLess x y||decide (x=y)
def iY:Option aD→List bT→Bool
 |_,[]=>true
 |q,p::r=>dX p.key&&dX p.value&&(match q with|none=>true|some q=>!sle p.key q)&&iY (some p.key) r
def pN (l:List bT):Bool:=iY none l&&decide (l.length≤8)
def lY (l:List bT) (k:Nat):Option aD:=match k with
 |0=>none
 |k+1=>(l[k]?).map (·.key)
def bT.sm (p:bT):Prop:=p.key.length<9223372036854775807∧p.value.length<9223372036854775807
end Dem
end
section
open Go
namespace Dem
structure Node where
 name:aD
 cap:bz
 labels:List bT
 up:Bool
structure Place where
 bu:Int
 node:aD
 v:bz
abbrev Node.cells (x:Node):List D:=[.str x.name,.int .u64 x.cap.a,.int .u64 x.cap.b,.int .u64 x.cap.c,.int .u64 x.cap.d,.sl (x.labels.map bT.cells),.bool x.up]
abbrev Place.cells (x:Place):List D:=[.int .u64 x.bu,.str x.node,.int .u64 x.v.a,.int .u64 x.v.b,.int .u64 x.v.c,.int .u64 x.v.d]
theorem sN {α:Type} {p:α→Bool} {l:List α} (h:idxOf p l=-1):∀x∈l,p x=false:=by
 unfold idxOf at h
 split at h
 ·omega
 rename_i hn
 rw [List.findIdx?_eq_none_iff] at hn
 exact fun x hx=>by simpa using hn x hx
theorem sO {α:Type} {p:α→Bool} {l:List α} (h:idxOf p l≠-1):∃(i:Nat) (x:α),idxOf p l=i∧l[i]?=some x∧p x=true∧∀y∈l.take i,p y=false:=by
 unfold idxOf at h ⊢
 split at h
 ·rename_i k hk
  obtain ⟨hlt,hp,hb⟩:=List.findIdx?_eq_some_iff_getElem.1 hk
  refine ⟨k,l[k],rfl,by simp [hlt],hp,?_⟩
  intro y hy
  obtain ⟨j,hj⟩:=List.getElem?_of_mem hy
  rw [List.getElem?_take] at hj
  split at hj
  ·rename_i Wj
   have hjl:j<l.length:=by omega
   rw [List.getElem?_eq_getElem hjl] at hj
   cases hj
   simpa using hb j Wj
  cases hj
 exact absurd rfl h
theorem filter_all {α:Type} {p:α→Bool} {l:List α} (h:∀x∈l,p x=false):l.filter (fun x=>!p x)=l:=by
 rw [List.filter_eq_self]
 intro x hx;rw [h x hx];rfl
theorem eU {α:Type} {l:List α} {i:Nat} {x:α} (h:l[i]?=some x):l.take (i+1)=l.take i++[x]:=by
 rw [List.take_add_one,h];rfl
def Node.zero:Node:=⟨[],bz.zero,[],false⟩
def gk (name:aD) (l:List Node):Node×Bool:=match l.find? (fun x=>decide (x.name=name)) with
 |some x=>(x,true)
 |none=>(Node.zero,false)
theorem NJ {name:aD} {l:List Node} (h:idxOf (fun x=>decide (x.name=name)) l=-1):gk name l=(Node.zero,false):=by
 have hn:=sN h
 have:l.find? (fun x=>decide (x.name=name))=none:=by rw [List.find?_eq_none];intro x hx;rw [hn x hx];simp
 unfold gk;rw [this]
theorem Fh {α:Type} {p:α→Bool}:∀{l:List α} {i:Nat} {x:α},l[i]?=some x→p x=true→(∀y∈l.take i,p y=false)→l.find? p=some x
 |[],_,_,h,_,_=>by simp at h
 |y::r,0,x,h,hp,_=>by simp at h;subst h;simp [hp]
 |y::r,i+1,x,h,hp,hb=>by
  have hy:p y=false:=hb y (by simp)
  simp only [List.getElem?_cons_succ] at h
  rw [List.find?_cons,hy]
  exact Fh h hp fun z hz=>hb z (by simp [hz])
theorem NK {name:aD} {l:List Node} (h:idxOf (fun x=>decide (x.name=name)) l≠-1):∃(i:Nat) (x:Node),idxOf (fun x=>decide (x.name=name)) l=i∧l[i]?=some x∧gk name l=(x,true):=by
 obtain ⟨i,x,h1,h2,h3,h4⟩:=sO h
 refine ⟨i,x,h1,h2,?_⟩
 unfold gk;rw [Fh h2 h3 h4]
def dD (name:aD) (s:bz×Bool) (x:Place):bz×Bool:=if s.2&&decide (x.node=name) then gu s.1 x.v else s
def gE (name:aD) (l:List Node) (ps:List Place):bz×Bool:=
 let s:=ps.foldl (dD name) ((gk name l).1.cap,(gk name l).2)
 if s.2 then s else (bz.zero,false)
def qo (name:aD) (v:bz) (l:List Node) (ps:List Place):Int:=
 if !(gk name l).2 then 7 else if !(gk name l).1.up then 12 else if !(gE name l ps).2||!mU v (gE name l ps).1 then 11 else 0
end Dem
end
section
open Go
namespace Dem
structure cO where
 nodes:List Node
 places:List Place
deriving instance DecidableEq for Place
deriving instance DecidableEq for Node
theorem nT {x y:bz}:x=y↔x.a=y.a∧x.b=y.b∧x.c=y.c∧x.d=y.d:=by cases x;cases y;simp
theorem TN {x y:bT}:x=y↔x.key=y.key∧x.value=y.value:=by cases x;cases y;simp
theorem QU {x y:Place}:x=y↔x.bu=y.bu∧x.node=y.node∧x.v=y.v:=by cases x;cases y;simp
instance:Inhabited bz:=⟨bz.zero⟩
instance:Inhabited Node:=⟨Node.zero⟩
instance:Inhabited Place:=⟨⟨0,[],bz.zero⟩⟩
instance:Inhabited bT:=⟨⟨[],[]⟩⟩
theorem bO {α:Type} {l:List α} {k:Nat} {x:α} (h:l[k]?=some x):l.drop k=x::l.drop (k+1):=by
 obtain ⟨hk,rfl⟩:=List.getElem?_eq_some_iff.1 h
 exact List.drop_eq_getElem_cons hk
structure cu where
 node:aD
 free:bz
 labels:List bT
theorem TO {x y:Node}:x=y↔x.name=y.name∧x.cap=y.cap∧x.labels=y.labels∧x.up=y.up:=by cases x;cases y;simp
def fN (l:List Node) (bu:Int) (v:bz):List aD→List Place→Option Int×List Place
 |[],ps=>(none,ps)
 |n::r,ps=>if qo n v l ps≠0 then (some (qo n v l ps),ps) else fN l bu v r (ps++[⟨bu,n,v⟩])
def xM (p:cO) (bu:Int) (names:List aD) (v:bz):cO×Int:=
 match (fN p.nodes bu v names p.places).1 with
 |some e=>(p,e)
 |none=>(⟨p.nodes,(fN p.nodes bu v names p.places).2⟩,0)
theorem cU {α:Type} {p:α→Bool} {l:List α} {r:Int} (h:r=idxOf p l):(r=-1∧l.findIdx? p=none∧l.find? p=none)∨∃(i:Nat) (x:α),r=i∧i<l.length∧l[i]?=some x∧p x=true∧l.findIdx? p=some i∧l.find? p=some x:=by
 by_cases hn:idxOf p l=-1
 ·have hno:=sN hn
  refine .inl ⟨by rw [h,hn],?_,?_⟩
  ·rw [List.findIdx?_eq_none_iff];intro x hx;simp [hno x hx]
  rw [List.find?_eq_none];intro x hx;simp [hno x hx]
 obtain ⟨i,x,h1,h2,h3,h4⟩:=sO hn
 refine .inr ⟨i,x,by rw [h,h1],(List.getElem?_eq_some_iff.1 h2).1,h2,h3,?_,Fh h2 h3 h4⟩
 unfold idxOf at h1
 split at h1
 ·rename_i k hk;rw [hk];congr 1;omega
 omega
def Fi (q:Option aD) (x:aD):Bool:=match q with|none=>true|some q=>!sle x q
def iZ (l:List Node) (ps:List Place):Option aD→List Node→Bool
 |_,[]=>true
 |q,n::r=>(gE n.name l ps).2&&dX n.name&&pN n.labels&&Fi q n.name&&iZ l ps (some n.name) r
def By (l:List Node) (x:Place):Bool:=!(l.any fun n=>decide (n.name=x.node))
def nU (p:cO):Bool:=iZ p.nodes p.places none p.nodes&&decide (p.nodes.length≤16)&&!(p.places.any (By p.nodes))
def oH (l:List Node) (k:Nat):Option aD:=match k with
 |0=>none
 |k+1=>(l[k]?).map (·.name)
theorem DO {l:List Node} {k:Nat} {x:aD}:Fi (oH l k) x=(decide (k=0)||match l[k-1]? with|none=>true|some y=>!sle x y.name):=by
 cases k with
 |zero=>rfl
 |succ k=>simp only [oH,Fi];cases h:l[k]?<;>simp [h]
def Node.sm (x:Node):Prop:=x.name.length<9223372036854775807∧x.labels.length<1000000000∧∀p∈x.labels,p.sm
def pat (l:List Node) (nm:aD):Nat:=match l.findIdx? (fun o=>!Op.bytesLess o.name nm) with
 |some k=>k
 |none=>l.length
def rO (p:cO) (n:Node):cO×Int:=
 if !dX n.name then (p,6) else if !pN n.labels then (p,2) else if decide (0≤idxOf (fun x=>decide (x.name=n.name)) p.nodes) then (p,8) else if 16≤p.nodes.length then (p,9) else
 (⟨p.nodes.take (pat p.nodes n.name)++{n with up:=true}::p.nodes.drop (pat p.nodes n.name),p.places⟩,0)
end Dem
end
section
open Go Dem Go.Proofs
namespace Dem
abbrev aT (s:aD):List D:=[.str s]
def kR (r:Int):AV:=bq r
def bY (r:Bool):AV:=BL r
def tG (r:aD):AV:=ST r
def TP (r:bz×Bool):AV:=.dF [V4 r.1.a r.1.b r.1.c r.1.d,BL r.2]
def Node.aH (t:Th) (x:Node):List D:=[.str x.name,.int .u64 x.cap.a,.int .u64 x.cap.b,.int .u64 x.cap.c,.int .u64 x.cap.d,.sl (t _ fun _=>x.labels.map bT.cells),.bool x.up]
def Place.aH (_:Th) (x:Place):List D:=[.int .u64 x.bu,.str x.node,.int .u64 x.v.a,.int .u64 x.v.b,.int .u64 x.v.c,.int .u64 x.v.d]
def QV (t:Th) (x:Node):AV:=.agg [ST x.name,az x.cap.a,az x.cap.b,az x.cap.c,az x.cap.d,SL (t _ fun _=>x.labels.map bT.cells),BL x.up]
def QW (t:Th) (r:Node×Bool):AV:=.dF [QV t r.1,BL r.2]
def ME (t:Th) (p:cO):AV:=.agg [SL (t _ fun _=>p.nodes.map Node.cells),SL (t _ fun _=>p.places.map Place.cells)]
def QX (t:Th) (r:cO×Int):AV:=.dF [ME t r.1,bq r.2]
def HX (t:Th) (l:List aD):AV:=SL (t _ fun _=>l.map aT)
def dR (_:Th) (s:aD):List D:=[.str s]
theorem Bz {t:Th} (ht:TT t) {α:Type} {l:List α} {cells cT:α→List D} {es:List (List D)} (aF:es=l.map cells) {z:Int} {i n:Nat} {x:α} {K:List D→Prop} (hx:l[i]?=some x) (hz:z=i) (hn:∀x,(cells x).length=n) (hT:∀x,cells x=cT x)
 (hK:K (cT x)):ol true (t Prop fun _=>0≤z∧z<es.length∧∀r∈es,r.length=n) (t _ fun _=>es.getD z.toNat []) K:=by
 have hi:=(List.getElem?_eq_some_iff.1 hx).1
 refine dg ht aF (by omega) (by omega) hn hT ?_
 intro y hy
 rw [hz,Int.toNat_natCast,hx] at hy
 cases hy;exact hK
theorem zb {α:Type} {l:List α} {cells:α→List D} {u:List (List D)} (hu:u=l.map cells) {row:List D} {sz b:Nat} (hn:∀x,(cells x).length=sz) (hr:row.length=sz) (hl:l.length<1000000000) (hb:b≤10000):
 (u.length+[row].length)*b≤140737488355328∧∀r∈u++[row],r.length=sz:=by
 refine ⟨?_,?_⟩
 ·rw [hu,List.length_map]
  exact Nat.le_trans (Nat.mul_le_mul (show l.length+[row].length≤1000000000 by simp;omega) hb) (by decide)
 intro r hr'
 rcases List.mem_append.1 hr' with h|h
 ·rw [hu] at h;obtain ⟨y,_,rfl⟩:=List.mem_map.1 h;exact hn y
 simp at h;subst h;exact hr
theorem vX {k:Nat} (h:0<k) (h2:k<9223372036854775807):IntKind.i64.wrap ((k:Int)-1)=((k-1:Nat):Int):=by rw [wrap64 (by omega) (by omega)];omega
theorem HY {t:Th} (ht:TT t) {α:Type} [Inhabited α] {l:List α} {cells cT:α→List D} {es:List (List D)} (aF:es=l.map cells) {g:Bool} {G:Prop} {z:Int} (i:Nat) {n:Nat} {K:List D→Prop} (hg:g=true→G) (hi:g=true→z=i∧i<l.length) (hn:∀x,(cells x).length=n) (hT:∀x,cells x=cT x)
 (hK:∀x,(g=true→l[i]?=some x)→K (cT x)):ol g (G∧t Prop fun _=>0≤z∧z<es.length∧∀r∈es,r.length=n) (t _ fun _=>es.getD z.toNat []) K:=by
 cases Yh:g with
 |true=>
  subst Yh
  obtain ⟨h1,h2⟩:=hi rfl
  refine QK (cT l[i]) (fun _=>⟨⟨hg rfl,?_⟩,?_⟩) (hK _ (fun _=>List.getElem?_eq_getElem h2))
  ·simp only [ht];refine ⟨by omega,by rw [aF,List.length_map];omega,?_⟩
   rw [aF];intro r hr;obtain ⟨y,_,rfl⟩:=List.mem_map.1 hr;exact hn y
  simp only [ht];rw [h1,aF,←hT];simp [h2]
 |false=>
  subst Yh
  exact QK (cT default) (fun h=>Bool.noConfusion h) (hK default (fun h=>Bool.noConfusion h))
theorem pO {P:Program} {G:Nat→Option (List D)} {f:Nat} {args args':List AV} {bx aG:List ax} {res:fm} (h:∀β w ok vs,aj β bx w ok args vs→aj β bx w ok args' vs) (hc:bg P G f args' bx res aG):bg P G f args bx res aG:=
 fun β w vs X cx hx=>hc β w vs X cx (h _ _ _ _ hx)
theorem MF {β:Nat→Nat} {bx:List ax} {w:World} {ok:Nat→Prop} {es:List (List D)} {u:Value} (h:ah β bx w ok (.cl es) u):ah β bx w ok (.d (.sl es)) u:=by
 simp only [ah,aK] at h ⊢
 obtain ⟨base,h1,h2⟩:=h
 exact ⟨base,_,h1,Nat.le_refl _,h2⟩
end Dem
end
