/- Parts of a proof, joined. -/
import Derived.Test.YtjnbpclolnmimaaGreatDoorJ17
import Derived.Recover
set_option linter.unusedSimpArgs false
set_option linter.unusedVariables false
set_option maxRecDepth 100000
set_option maxHeartbeats 4000000
section
open Go
namespace Dem
section
variable {P:Program} {T:Nat→Option TI} {G:Nat→Option (List D)} {N K:Nat}
theorem rZ (hT:iH P T) (hD:kX P T G) {f N:Nat} {fn:Func} {c:Code} {args:List AV} {aE aG:List ax} {res:fm} (hf:P.funcs[f]?=some fn) (hb:fn.body=some c)
 (hname:(fn.name== "runtime.NumGoroutine")=false) (hN:fn.ntmps=N) (hlen:Nat.ble args.length N=true) {pre rest:List Code} (hc:flat c=pre++rest) (R:St→Prop)
 (hr:∀(X:Nat→Prop) (β0:Nat→Nat) (w0:World) (β:Nat→Nat) (w:World) (s:St) (a:Act),Ext β0 aE w0 β s.bx w→Fr G N [] β w X s a→R s→
  qE P rest (ee G N [] X β0 aE w0 (jE t0 T fn.results.toList aE.length res aG)) a w)
 (h:Bv t0 (bg P G) T G N aE.length pre (fun e s=>match e with|.normal=>R s|e=>jE t0 T fn.results.toList aE.length res aG e s) ⟨gA 0 args,aE⟩):bg P G f args aE res aG:=by
 refine vA hT hf hb hname hN hlen fun β w X a hF=>wp_mono (vU c ?_) (fun _ _ _ hl=>ee.imp (fun _ _ hq=>pL hq) hl)
 rw [hc]
 refine nC (oG ?_ (fM (X:=X) (β0:=β) (aE:=aE) (w0:=w) hT hD (Nat.le_refl _) pre _ β w _ a (Ext.refl _ _ _) hF h))
 intro e a1 w1 hl
 cases e<;>simp only [ee,Exit.then] at hl ⊢
 ·obtain ⟨β1,s1,vq,CM,hR⟩:=hl
  exact hr X β w β1 w1 s1 a1 vq CM hR
 all_goals exact hl
structure Xp (n:Nat) (K:Nat→Prop):Prop where
 ok:∀c,n≤c→(n=0→c=0)→K c
def RE (t:Th) (FC:Nat→List AV→List ax→fm→List ax→Prop) (T:Nat→Option TI) (G:Nat→Option (List D)) (N K:Nat) (post:List Code) (i:Nat) (Q:Ex→St→Prop) (s:St):Prop:=
 match fY i s.sl with
 |.ow b sz n=>Xp n fun c=>Bv t FC T G N K post Q ⟨put i (.vw b sz 0 n c true) s.sl,s.bx⟩
 |_=>False
theorem IV (hT:iH P T) (hD:kX P T G) {aE:List ax} (hK:aE.length≤K) {post:List Code} {i:Nat} {Q:Ex→St→Prop} {X:Nat→Prop} {β0:Nat→Nat} {w0:World} {β:Nat→Nat} {w:World} {s:St} {a:Act} (ex:Ext β0 aE w0 β s.bx w) (hF:Fr G N [] β w X s a)
 (h:RE t0 (bg P G) T G N K post i Q s):qE P post (ee G N [] X β0 aE w0 Q) a w:=by
 unfold RE at h
 split at h
 case h_2=>exact h.elim
 rename_i b sz n hi
 obtain ⟨h⟩:=h
 have hx:=hF.xz i
 rw [hi] at hx
 simp only [ah] at hx
 have key:∀c,n≤c→(n=0→c=0)→ah β s.bx w (be β s.bx w X) (.vw b sz 0 n c true) (a.tmps.getD i undef)→qE P post (ee G N [] X β0 aE w0 Q) a w:=by
  intro c h1 h2 h3
  refine fM hT hD hK post Q β w ⟨put i (.vw b sz 0 n c true) s.sl,s.bx⟩ a ex ⟨hF.cx,hF.defers,hF.size,fun t=>?_⟩ (h c h1 h2)
  rw [sE]
  by_cases ht:t=i
  ·subst ht;rw [if_pos rfl];exact h3
  rw [if_neg ht];exact hF.xz t
 obtain ⟨hb,⟨rfl,base,e⟩|⟨h0,cap,c,e1,f',e,h1,h2,h3⟩⟩:=hx
 ·refine key 0 (Nat.le_refl _) (fun _=>rfl) ?_
  rw [e]
  simp only [ah]
  exact ⟨hb,base,0,#[],0,(0,0),rfl,Nat.le_refl _,Nat.le_refl _,fun _=>rfl,.inl rfl⟩
 refine key cap h1 (fun h=>absurd h h0) ?_
 rw [e]
 simp only [ah]
 exact ⟨hb,_,cap,c,e1,f',rfl,h1,Nat.le_refl _,fun _=>rfl,.inr ⟨by simp,h2,by simpa using h3⟩⟩
end
end Dem
end
section
open Go
namespace Dem
section
variable {P:Program} {T:Nat→Option TI} {G:Nat→Option (List D)} {N:Nat}
theorem RF {o:Oper} {a:Act} {K K':Act→World→Prop} {Q Q':Exit→Act→World→Prop} (hK:∀a w,K a w→K' a w) (hQ:∀e a w,Q e a w→Q' e a w):∀r,o.upon P a K Q r→o.upon P a K' Q' r:=by
 intro r h
 unfold Oper.upon at h ⊢
 split at h
 ·exact hK _ _ h
 ·exact hK _ _ h
 ·exact hK _ _ h
 ·refine Calls.mono h ?_
  intro e w' hh
  cases e with
  |returned v=>exact hK _ _ hh
  |panicked ch=>exact hQ _ _ _ hh
  |outgrown=>obtain ⟨a,w,q⟩:=hh;exact ⟨a,w,hQ _ _ _ q⟩
 ·intro fr cs
  obtain ⟨v,w'',hR,hs⟩:=h fr cs
  exact ⟨v,w'',hK _ _ hR,hs⟩
 ·exact hQ _ _ _ h
 exact h.elim
theorem IW {ops:Array Oper} {Q:Exit→Act→World→Prop} (hQ:∀a w,¬Q .outgrown a w) (cs:List Frame):∀(l:List Oper) (k:Nat) (a:Act) (w:World),(∀j,l[j]?=ops[k+j]?)→wpList P ops Q l a w→
 wpOpsS P ops (fun e a cs' w=>cs'=cs∧Q e a w) (List.range' k l.length) a cs w
 |[],k,a,w,h,hw=>⟨rfl,hw⟩
 |o::l,k,a,w,h,hw=>by
  have h0:ops[k]?=some o:=by simpa using (h 0).symm
  have ih:∀a w,wpList P ops Q l a w→wpOpsS P ops (fun e a cs' w=>cs'=cs∧Q e a w) (List.range' (k+1) l.length) a cs w:=fun a w=>
   IW hQ cs l (k+1) a w (fun j=>by have:=h (j+1);simpa [Nat.add_assoc,Nat.add_comm 1 j] using this)
  simp only [List.length_cons,List.range'_succ,wpOpsS,h0]
  unfold wpList at hw
  by_cases VZ:Region.wanted o (yielded ops a.tmps)=true
  ·simp only [VZ,if_true] at hw ⊢
   have hw:=hw.resolve_right (fun h=>let ⟨a,w,q⟩:=h.2;hQ a w q)
   unfold Oper.wp at hw
   split
   ·rename_i w' hr
    rw [hr] at hw
    exact hw.elim
   exact RF (fun a w hh=>ih a w hh) (fun e a w hh=>⟨trivial,hh⟩) _ hw
  simp only [VZ,if_false,Bool.false_eq_true] at hw ⊢
  exact ih _ _ hw
def wJ (P:Program):List Code→(Exit→Act→List Frame→World→Prop)→Act→List Frame→World→Prop
 |[],Q=>Q .normal
 |c::r,Q=>c.wpS P (Exit.thenS (wJ P r Q) Q)
theorem sb {c:Code} {Q Q':Exit→Act→List Frame→World→Prop} {a:Act} {cs:List Frame} {w:World} (h:c.wpS P Q a cs w) (hq:∀e a cs w,Q e a cs w→Q' e a cs w):c.wpS P Q' a cs w:=
 fun b k hb hr=>let ⟨e,a',cs',w',q,r⟩:=h b k hb hr;⟨e,a',cs',w',hq _ _ _ _ q,r⟩
theorem zB:∀{l1 l2:List Code} {Q:Exit→Act→List Frame→World→Prop} {a:Act} {cs:List Frame} {w:World},wJ P (l1++l2) Q a cs w→wJ P l1 (Exit.thenS (wJ P l2 Q) Q) a cs w
 |[],_,_,_,_,_,h=>h
 |c::l1,l2,Q,a,cs,w,h=>by
  refine sb (show c.wpS P (Exit.thenS (wJ P (l1++l2) Q) Q) a cs w from h) ?_
  intro e a cs w hh
  cases e<;>simp only [Exit.thenS] at hh ⊢<;>first|exact zB hh|exact hh
theorem Ee:∀{l:List Code} {Q Q':Exit→Act→List Frame→World→Prop} {a:Act} {cs:List Frame} {w:World},(∀e a cs w,Q e a cs w→Q' e a cs w)→wJ P l Q a cs w→wJ P l Q' a cs w
 |[],_,_,_,_,_,hq,h=>hq _ _ _ _ h
 |c::l,Q,Q',a,cs,w,hq,h=>by
  refine sb (show c.wpS P (Exit.thenS (wJ P l Q) Q) a cs w from h) ?_
  intro e a cs w hh
  cases e<;>simp only [Exit.thenS] at hh ⊢<;>first|exact Ee hq hh|exact hq _ _ _ _ hh
theorem fX {c:Code} {Q:Exit→Act→List Frame→World→Prop} {a:Act} {cs:List Frame} {w:World} (h:wJ P [c] Q a cs w):c.wpS P Q a cs w:=by
 refine sb (show c.wpS P (Exit.thenS (wJ P [] Q) Q) a cs w from h) ?_
 intro e a cs w hh
 cases e<;>simpa only [Exit.thenS,wJ] using hh
theorem Cj:∀(c:Code) {Q:Exit→Act→List Frame→World→Prop} {a:Act} {cs:List Frame} {w:World},wJ P (flat c) Q a cs w→c.wpS P Q a cs w
 |.seq x y,Q,a,cs,w,h=>by
  have h:=zB (show wJ P (flat x++flat y) Q a cs w from h)
  refine wpS_seq (sb (Cj x h) ?_)
  intro e a cs w hh
  cases e<;>simp only [Exit.thenS] at hh ⊢<;>first|exact Cj y hh|exact hh
 |.skip,_,_,_,_,h=>fX h
 |.region ..,_,_,_,_,h=>fX h
 |.cond ..,_,_,_,_,h=>fX h
 |.block ..,_,_,_,_,h=>fX h
 |.loop ..,_,_,_,_,h=>fX h
 |.rangeFunc ..,_,_,_,_,h=>fX h
 |.exit ..,_,_,_,_,h=>fX h
 |.scope ..,_,_,_,_,h=>fX h
 |.label ..,_,_,_,_,h=>fX h
 |.goto ..,_,_,_,_,h=>fX h
 |.ret,_,_,_,_,h=>fX h
 |.refuse ..,_,_,_,_,h=>fX h
theorem zC {cs:List Frame}:∀{l:List Code} {Q:Exit→Act→World→Prop} {a:Act} {w:World},qE P l Q a w→wJ P l (fun e a cs' w=>cs'=cs∧Q e a w) a cs w
 |[],_,_,_,h=>⟨rfl,h⟩
 |c::l,Q,a,w,h=>by
  refine wpS_of_wp (wp_mono (show c.wp P (Exit.then (qE P l Q) Q) a w from h) ?_)
  intro e a w hh
  cases e<;>simp only [Exit.then,Exit.thenS] at hh ⊢<;>first|exact zC hh|exact ⟨trivial,hh⟩
def Ae (P:Program) (G:Nat→Option (List D)) (f:Nat) (args:List AV) (bx:List ax) (res:fm) (aG:List ax):Prop:=
 ∀(β:Nat→Nat) (w:World) (vs:List Value) (X:Nat→Prop),ct G β bx w X→aj β bx w (be β bx w X) args vs→(callFunc f ⟨vs⟩).run P w=.ok (.enter f ⟨vs⟩) w∧
  CallsD P f ⟨vs⟩ .returning w fun e u' w'=>u'=.returning∧∃β',Ext β bx w β' aG w'∧ct G β' aG w' X∧fC β' aG w' (be β' aG w' X) res e
def Xq (t:Th) (FC:Nat→List AV→List ax→fm→List ax→Prop) (T:Nat→Option TI) (G:Nat→Option (List D)) (N K:Nat) (ops:List Oper) (rest:List Code) (Q:Ex→St→Prop) (s:St):Prop:=
 match ops with
 |o::l=>match o.op,o.guard with
  |.call {callee:=.builtin .recover,args,..},none=>args=#[]∧fS N o.dst=true∧Ku t FC T G N ops l (fun e s=>nt (fun s=>Bv t FC T G N K rest Q s) Q e s) ⟨dV o.dst (.k .nilIface) s.sl,s.bx⟩
  |_,_=>False
 |[]=>False
theorem Ck (hT:iH P T) (hD:kX P T G) {f:Nat} {fn:Func} {c:Code} {args:List AV} {aE aG:List ax} {res:fm} (hf:P.funcs[f]?=some fn) (hb:fn.body=some c)
 (hname:(fn.name== "runtime.NumGoroutine")=false) (hN:fn.ntmps=N) (hlen:Nat.ble args.length N=true) {id:Nat} {ops:Array Oper} {rest:List Code} (hc:flat c=.region id ops false::rest)
 (h:Xq t0 (bg P G) T G N aE.length ops.toList rest (jE t0 T fn.results.toList aE.length res aG) ⟨gA 0 args,aE⟩):Ae P G f args aE res aG:=by
 intro β w vs X cx hx
 refine ⟨by simp [callFunc,run_program,hf,hb];simpa using hname,callsD_of_wpS hf hb fun c₀ cs hm=>Cj c ?_⟩
 rw [hc]
 have hF:=Bw (G:=G) (X:=X) hN hlen cx hx
 unfold Xq at h
 split at h
 case h_2=>exact h.elim
 rename_i o l Ht
 split at h
 case h_2=>exact h.elim
 rename_i args' ats ho hg
 obtain ⟨ha,hd,h⟩:=h
 have hc0:({c₀ with mode:=.returning}:Frame)=c₀:=by rw [←hm]
 have hsz:ops.size=l.length+1:=by rw [←Array.length_toList,Ht];rfl
 have h0:ops[0]?=some o:=by rw [←Array.getElem?_toList,Ht];rfl
 refine sb (Q:=fun e a cs' w'=>cs'=c₀::cs∧ee G N [] X β aE w (fun e s=>nt (fun s=>Bv t0 (bg P G) T G N aE.length rest (jE t0 T fn.results.toList aE.length res aG) s) (jE t0 T fn.results.toList aE.length res aG) e s) e a w') (wpS_region ?_) ?_
 ·rw [hsz,List.range_eq_range',List.range'_succ]
  simp only [wpOpsS,h0]
  rw [if_pos (by simp [Region.wanted,hg])]
  have hr:∀ev,(execOp ev o).run P w=.ok .recover w:=by
   intro ev
   simp [execOp,ho,ha,resolve,invoke]
   rfl
  rw [hr]
  have ya:recoverD (c₀::cs)=none:=by simp only [recoverD,hm]
  simp only [ya]
  refine IW (fun a w hh=>by simp [ee] at hh) (c₀::cs) l 1 _ _ (fun j=>by rw [←Array.getElem?_toList,Ht,Nat.add_comm];rfl) ?_
  refine jP hT l β w _ _ (Ext.refl _ _ _) (hF.put (Ext.refl _ _ _) hF.cx hd ?_) (E7 _ _ h)
  simp only [ah];rfl
 rintro e a1 cs1 w1 ⟨rfl,hl⟩
 have fin:∀(e:Exit) (a2:Act) (w2:World),ee G N [] X β aE w (jE t0 T fn.results.toList aE.length res aG) e a2 w2→
  bodyPostS P fn c₀ cs (fun e u' w'=>u'=.returning∧∃β',Ext β aE w β' aG w'∧ct G β' aG w' X∧fC β' aG w' (be β' aG w' X) res e) e a2 (c₀::cs) w2:=by
  intro e a2 w2 hl
  have out:∀β' s,Ext β aE w β' s.bx w2→Fr G N [] β' w2 X s a2→(∃e',Df T fn.results.toList aE.length res aG e' s∧(e'=.normal∨e'=.ret))→
   a2.defers=[]∧∃u',(c₀::cs)={c₀ with mode:=u'}::cs∧∃v,(results fn a2.tmps).run P w2=.ok v w2∧u'=.returning∧∃β',Ext β aE w β' aG w2∧ct G β' aG w2 X∧fC β' aG w2 (be β' aG w2 X) res (.returned v):=by
   rintro β' s ex zY ⟨e',hq,he⟩
   obtain ⟨v,k1,k2⟩:=Fc hT ex zY (res:=res) (aG:=aG) (by rcases he with rfl|rfl<;>exact hq)
   exact ⟨zY.defers,.returning,by rw [hc0],v,k1,rfl,k2⟩
  cases e<;>simp only [ee,bodyPostS] at hl ⊢
  ·obtain ⟨β',s,k1,k2,k3⟩:=hl
   exact out β' s k1 k2 ⟨.normal,pL k3,.inl rfl⟩
  ·obtain ⟨β',s,k1,k2,k3⟩:=hl;exact k3
  ·obtain ⟨β',s,k1,k2,k3⟩:=hl
   exact out β' s k1 k2 ⟨.ret,pL k3,.inr rfl⟩
  obtain ⟨β',iG,v,u,k1,k2,k3,k4,k5,k6⟩:=hl
  obtain ⟨rfl,rfl⟩:=PF.ok k6
  exact ⟨k5,.returning,by rw [hc0],rfl,β',k2,k3,u,k1,k4⟩
 cases e<;>simp only [Exit.thenS,ee,nt] at hl ⊢
 ·obtain ⟨β1,s1,vq,CM,h1⟩:=hl
  refine Ee ?_ (zC (fM (X:=X) (β0:=β) (aE:=aE) (w0:=w) hT hD (Nat.le_refl _) rest _ β1 w1 s1 a1 vq CM h1))
  rintro e a2 cs2 w2 ⟨rfl,oe⟩
  exact fin e a2 w2 oe
 all_goals exact fin _ a1 w1 hl
theorem yh (hT:iH P T) (hD:kX P T G) {f N:Nat} {fn:Func} {c:Code} {args:List AV} {aE aG:List ax} {res:fm} (hf:P.funcs[f]?=some fn) (hb:fn.body=some c)
 (hname:(fn.name== "runtime.NumGoroutine")=false) (hN:fn.ntmps=N) (hlen:Nat.ble args.length N=true) {pre post:List Code} {id:Nat} {ops:Array Oper} (hc:flat c=pre++.region id ops false::post)
 (h:Fe t0 (bg P G) (Ae P G) T G N pre ops.toList post fn.results.toList aE.length res aG ⟨gA 0 args,aE⟩):bg P G f args aE res aG:=by
 intro β w vs X cx hx
 refine .inl ⟨by simp [callFunc,run_program,hf,hb];simpa using hname,calls_of_wp_defers hf hb (vU c ?_)⟩
 rw [hc]
 refine nC (oG ?_ (fM hT hD (Nat.le_refl _) pre _ β w _ _ (Ext.refl _ _ _) (Bw hN hlen cx hx) h))
 intro e a1 w1 hl
 cases e<;>simp only [ee,Exit.then] at hl ⊢
 case normal=>
  obtain ⟨β1,s1,vq,CM,hop⟩:=hl
  show (Code.region id ops false).wp P (Exit.then (qE P post _) _) a1 w1
  refine wp_region_list (rL (β0:=β) (aE:=aE) (w0:=w) hT ?_ ?_ ops.toList β1 w1 s1 a1 vq CM hop)
  ·intro β2 w2 s2 a2 x v Tb zY hk hv hr
   simp only [Exit.then]
   split at hk
   case h_2=>exact hk.elim
   rename_i g dG
   cases nQ:eC dG with
   |false=>simp [nQ] at hk
   |true=>
   simp only [nQ,cond_true] at hk
   simp only [ah] at hv
   obtain ⟨NI,rfl,vv⟩:=hv
   rw [kK nQ vv] at hr ⊢
   simp only
   have WR:Fr G N [{target:=.fn (.func g) ⟨NI⟩,args:=#[]}] β2 w2 X s2 {a2 with defers:={target:=.fn (.func g) ⟨NI⟩,args:=#[]}::a2.defers}:=
    ⟨zY.cx,by rw [zY.defers],zY.size,zY.xz⟩
   refine oG ?_ (fM (β0:=β2) (aE:=s2.bx) (w0:=w2) hT hD (Nat.le_refl _) post _ β2 w2 s2 _ (Ext.refl _ _ _) WR hk)
   have fin:∀(β3:Nat→Nat) (w3:World) (s3:St) (a3:Act),Ext β2 s2.bx w2 β3 s3.bx w3→Fr G N [{target:=.fn (.func g) ⟨NI⟩,args:=#[]}] β3 w3 X s3 a3→
    vV (Ae P G) g dG s3.bx (fun iG=>match u7 T s3.sl iG fn.results.toList with
     |some (c,vs)=>Bq aE.length c (oq vs) iG (DD t0 iG (oq vs)) res aG
     |none=>False)→Leaves P fn a3.tmps (fun e w'=>∃β',Ext β aE w β' aG w'∧ct G β' aG w' X∧fC β' aG w' (be β' aG w' X) res e) a3.defers .returning w3:=by
    intro β3 w3 s3 a3 Zu E9 hdf
    obtain ⟨iG,hfd,hq⟩:=hdf
    rw [E9.defers]
    have KE:=aj.mono (Zu.dQ X) _ _ vv
    obtain ⟨hi,hcd⟩:=hfd β3 w3 NI X E9.cx KE
    refine leaves_cons (f:=g) (args:=⟨NI⟩) (by simp) (by simpa [invoke] using hi) (hcd.mono ?_)
    rintro e u' w4 ⟨rfl,β4,Zv,cx4,hres⟩
    cases e with
    |returned v=>
     simp only [Leaves,settle]
     have hF4:Fr G N [{target:=.fn (.func g) ⟨NI⟩,args:=#[]}] β4 w4 X ⟨s3.sl,iG⟩ a3:=⟨cx4,E9.defers,E9.size,fun t=>ah.mono (Zv.dQ X) _ _ (E9.xz t)⟩
     have Zw:=pL (T:=T) (results:=fn.results.toList) (n:=aE.length) (res:=res) (aG:=aG) (e:=.ret) (s:=⟨s3.sl,iG⟩) hq
     exact Fc hT (((Tb.trans Zu)).trans Zv) hF4 Zw
    |panicked ch=>simp [fC] at hres
    |outgrown=>simp [fC] at hres
   intro e a3 w3 HQ
   cases e<;>simp only [ee,bodyPostD,KB] at HQ ⊢
   ·obtain ⟨β3,s3,k1,k2,k3⟩:=HQ;exact fin β3 w3 s3 a3 k1 k2 k3
   ·obtain ⟨β3,s3,k1,k2,k3⟩:=HQ;exact k3
   ·obtain ⟨β3,s3,k1,k2,k3⟩:=HQ;exact fin β3 w3 s3 a3 k1 k2 k3
   obtain ⟨_,_,_,_,_,_,_,_,_,k3⟩:=HQ;exact k3.elim
  intro x s hk
  split at hk
  ·rename_i g dG
   cases nQ:eC dG with
   |false=>simp [nQ] at hk
   |true=>exact ⟨_,_,rfl,nQ⟩
  exact hk.elim
 case exit=>obtain ⟨_,_,_,_,k⟩:=hl;exact k.elim
 case ret=>obtain ⟨_,_,_,_,k⟩:=hl;exact k.elim
 case panic=>obtain ⟨_,_,_,_,_,_,_,_,_,k⟩:=hl;exact k.elim
end
end Dem
end
section
open Go Dem Go.Proofs
namespace Dem
theorem fcV {t:Th} (ht:TT t) (k i:Nat) {f N:Nat} {fn:Func} {c:Code} {args:List AV} {aE aG:List ax} {res:fm} (hf:Tryz.prog.funcs[f]?=some fn) (hb:fn.body=some c)
 (hname:(fn.name== "runtime.NumGoroutine")=false) (hN:fn.ntmps=N) {rs:List ResultVar} (EI:fn.results.toList=rs) {n:Nat} (hn:aE.length=n) (hlen:Nat.ble args.length N=true)
 (h:Bv t FC tT gl N n ((flat c).take k) (fun e s=>match e with|.normal=>RE t FC tT gl N n ((flat c).drop k) i (jE t tT rs n res aG) s|e=>jE t tT rs n res aG e s) ⟨gA 0 args,aE⟩):FC f args aE res aG:=by
 subst EI;subst hn
 have e:=ht.eq
 subst e
 exact rZ KA nS hf hb hname hN hlen (List.take_append_drop k (flat c)).symm _ (fun X β0 w0 β w s a ex hF hR=>IV KA nS (Nat.le_refl _) ex hF hR) h
def FDR:Nat→List AV→List ax→fm→List ax→Prop:=Ae Tryz.prog gl
theorem ZJ {t:Th} (ht:TT t) {f N:Nat} {fn:Func} {c:Code} {args:List AV} {aE aG:List ax} {res:fm} (hf:Tryz.prog.funcs[f]?=some fn) (hb:fn.body=some c)
 (hname:(fn.name== "runtime.NumGoroutine")=false) (hN:fn.ntmps=N) {rs:List ResultVar} (EI:fn.results.toList=rs) {n:Nat} (hn:aE.length=n) (hlen:Nat.ble args.length N=true)
 {pre post:List Code} {id:Nat} {ops:Array Oper} (hs:uC (flat c)=some (pre,id,ops,post))
 (h:Fe t FC FDR tT gl N pre ops.toList post rs n res aG ⟨gA 0 args,aE⟩):FC f args aE res aG:=by
 subst EI;subst hn
 have e:=ht.eq
 subst e
 exact yh KA nS hf hb hname hN hlen (sL hs) h
theorem ZK {t:Th} (ht:TT t) {f N:Nat} {fn:Func} {c:Code} {args:List AV} {aE aG:List ax} {res:fm} (hf:Tryz.prog.funcs[f]?=some fn) (hb:fn.body=some c)
 (hname:(fn.name== "runtime.NumGoroutine")=false) (hN:fn.ntmps=N) {rs:List ResultVar} (EI:fn.results.toList=rs) {n:Nat} (hn:aE.length=n) (hlen:Nat.ble args.length N=true)
 {id:Nat} {ops:Array Oper} {rest:List Code} (hs:flat c=.region id ops false::rest)
 (h:Xq t FC tT gl N n ops.toList rest (jE t tT rs n res aG) ⟨gA 0 args,aE⟩):FDR f args aE res aG:=by
 subst EI;subst hn
 have e:=ht.eq
 subst e
 exact Ck KA nS hf hb hname hN hlen hs h
end Dem
end
section
open Go Dem Go.Proofs
namespace Dem
variable {t:Th}
theorem Ef {s:aD} {p m n q:Int} (h:Ie s p m=some (n,q)):(bD s p).ok=true∧(bD s p).u≤m∧n=(bD s p).u∧q=(bD s p).next:=by
 unfold Ie at h
 split at h
 ·rename_i g;simp only [osI,Prod.mk.injEq] at h;exact ⟨g.1,g.2,h.1.symm,h.2.symm⟩
 cases h
theorem Cl {s:aD} {p q:Int} {x:aD} (h:v7 s p=some (x,q)):(aU s p 32).ok=true∧x=(aU s p 32).t∧q=(aU s p 32).next:=by
 unfold v7 at h
 split at h
 ·rename_i g;simp only [osI,Prod.mk.injEq] at h;exact ⟨g,h.1.symm,h.2.symm⟩
 cases h
theorem RG (ht:TT t) (s:aD) {p m n q:Int} (hs:s.length<9223372036854775000) (hp:p<9223372036854775808) (hm:m<9223372036854775808) (h:Ie s p m=some (n,q)):
 FC 228 [.ptr 0 0,az m] [.var [ST s,bq p]] (.ret (bq n)) [.var [ST s,bq q]]:=by
 obtain ⟨g1,g2,g3,g4⟩:=Ef h
 have gb:=eM g1
 have hw:IntKind.i64.wrap n=n:=by rw [bZ (by omega) (by omega)]
 refine bC ht (aE:=[.var [ST s,bq p]]) Tryz.func228 (c:=_) rfl rfl (N:=36) rfl (rs:=_) rfl (n:=1) rfl rfl ?_
 cbv
 refine bJ [false,false,false,false,false,false,false,false,true,true,false,false,false,false,false,true] (by kernel_rfl) (by kernel_rfl) ?_
 cbv
 iterate 8 refine gI (by simp) ?_
 refine ay trivial (fu ht _ _ (by assumption) (by assumption)) trivial rfl rfl (fun r0 bE=>?_)
 simp only [ht] at bE
 rw [←bE] at g1 g2 g3 g4
 cbv
 iterate 5 refine gI (by simp) ?_
 iterate 3 refine gI (by simp [ht]) ?_
 refine pI (by simp [ht]) ?_
 refine ai (fun h1=>?_) (fun h1=>?_)
 ·simp [ht] at h1
  cbv
  (exfalso;rcases h1 with h1|h1;(rw [g1] at h1;cases h1);omega)
 simp [ht] at h1
 cbv
 (subst g3 g4;exact an trivial trivial rfl rfl rfl (by simp only [ht,hw]))
theorem M0 (ht:TT t) (s:aD) {p q:Int} {x:aD} (hs:s.length<9223372036854775000) (hp:p<9223372036854775808) (h:v7 s p=some (x,q)):
 FC 239 [.ptr 0 0] [.var [ST s,bq p]] (.ret (ST x)) [.var [ST s,bq q]]:=by
 obtain ⟨g1,g3,g4⟩:=Cl h
 refine bC ht (aE:=[.var [ST s,bq p]]) Tryz.func239 (c:=_) rfl rfl (N:=28) rfl (rs:=_) rfl (n:=1) rfl rfl ?_
 cbv
 refine bJ [false,false,false,false,false,false,false,false,true,true,false,false,false,false,false,true] (by kernel_rfl) (by kernel_rfl) ?_
 cbv
 iterate 8 refine gI (by simp) ?_
 refine ay trivial (gJ ht _ _ _ (by assumption) (by assumption) (by omega)) trivial rfl rfl (fun r0 bE=>?_)
 simp only [ht] at bE
 rw [←bE] at g1 g3 g4
 cbv
 iterate 5 refine gI (by simp) ?_
 refine ai (fun h1=>?_) (fun h1=>?_)
 ·simp [ht] at h1
  cbv
  (exfalso;rw [g1] at h1;cases h1)
 simp [ht] at h1
 cbv
 (subst g3 g4;exact an trivial trivial rfl rfl rfl (by simp only))
def Term.aH (t:Th) (x:Term):List D:=[.str x.key,.bool x.no,.sl (t _ fun _=>x.fW.map aT)]
def Term.sm (x:Term):Prop:=x.key.length<9223372036854775807∧x.fW.length<1000000000∧∀v∈x.fW,v.length<9223372036854775807
theorem UA {x y:Term}:x=y↔x.key=y.key∧x.no=y.no∧x.fW=y.fW:=by cases x;cases y;simp
def prevStr (l:List aD) (k:Nat):Option aD:=match k with
 |0=>none
 |k+1=>l[k]?
theorem RH (ht:TT t) {l m:List aD} {es fs:List (List D)} (aF:es=l.map aT) (qL:fs=m.map aT) (hl:l.length<1000000000) (hm:m.length<1000000000):
 FC 172 [SL es,SL fs] [] (.ret (bY (t _ fun _=>decide (l=m)))) []:=by
 refine bC ht (aE:=[]) Tryz.func172 (c:=_) rfl rfl (N:=26) rfl (rs:=_) rfl (n:=0) rfl rfl ?_
 cbv
 have ar:es.length=l.length:=by rw [aF,lgM]
 have cD:fs.length=m.length:=by rw [qL,lgM]
 refine ai (fun h0=>?_) (fun h0=>?_)
 ·simp [ht,aa,ar,cD] at h0
  cbv
  refine an trivial trivial rfl rfl rfl ?_
  (simp [ht];rintro rfl;simp_all;done)
 simp [ht,aa,ar,cD] at h0
 cbv
 obtain ⟨J1,fe⟩:∃J1:Nat→Int→Prop,∀n i,J1 n i↔(∃k:Nat,i=k∧k+n=l.length∧l.length=m.length∧decide (l=m)=decide (l.drop k=m.drop k)):=⟨fun n v=>match v with|i=>(∃k:Nat,i=k∧k+n=l.length∧l.length=m.length∧decide (l=m)=decide (l.drop k=m.drop k)),fun _ _=>Iff.rfl⟩
 refine aZ ⟨[0,1,12,13],[],[]⟩ (σ:=Int) (fun v=>[(13,.d (.int .i64 (t _ fun _=>v)))]) (fun v=>[]) J1 ?_
 cbv
 refine aA ⟨l.length,_,(fe _ _).2 ?_,by simp only [ht];rfl,?_⟩
 ·(simp only [aa];grind)
 rintro n i hj
 replace hj:=(fe _ _).1 hj
 obtain ⟨k,rfl,j1,j2,j4⟩:=hj
 cbv
 refine ai (fun h2=>?_) (fun h2=>?_)
 ·simp [ht,aa,ar] at h2
  cbv
  refine bJ [false,false,false,false,false,false,false,false,true] (by kernel_rfl) (by kernel_rfl) ?_
  cbv
  iterate 2 refine gI (by simp) ?_
  refine dg ht aF (cT:=dR t) (by (simp only [ht,aa];omega)) (by (simp only [ht,aa];omega)) (fun _=>rfl) (fun _=>rfl) (fun x3 ke=>?_)
  simp [ht,aa] at ke
  rw [bO ke] at j4
  cbv
  iterate 3 refine gI (by simp) ?_
  refine dg ht qL (cT:=dR t) (by (simp only [ht,aa];omega)) (by (simp only [ht,aa];omega)) (fun _=>rfl) (fun _=>rfl) (fun x4 qt=>?_)
  simp [ht,aa] at qt
  rw [bO qt] at j4
  cbv
  refine gI (by simp) ?_
  refine ai (fun h5=>?_) (fun h5=>?_)
  ·simp [ht] at h5
   cbv
   refine an trivial trivial rfl rfl rfl ?_
   (simp [ht];rintro rfl;simp_all;done)
  simp [ht] at h5
  cbv
  refine bf _ (by simp only [ht];rfl) (n-1) ?_ ((fe _ _).2 ?_)
  ·omega
  simp only [aa]
  refine ⟨k+1,aC (by omega),by omega,by omega,?_⟩
  (simp [*];done)
 simp [ht,aa,ar] at h2
 cbv
 refine an trivial trivial rfl rfl rfl ?_
 (simp [ht,j4,List.drop_eq_nil_of_le (show l.length≤k by omega),List.drop_eq_nil_of_le (show m.length≤k by omega)];done)
theorem IX (ht:TT t) (k k':aD) (n n':Bool) {vs vs':List aD} {vr vr':List (List D)} (uV:vr=vs.map aT) (abU:vr'=vs'.map aT) (hl:vs.length<1000000000) (hl':vs'.length<1000000000):
 FC 125 [.agg [ST k,BL n,SL vr],.agg [ST k',BL n',SL vr']] [] (.ret (bY (t _ fun _=>decide ((⟨k,n,vs⟩:Term)=⟨k',n',vs'⟩)))) []:=by
 refine bC ht (aE:=[]) Tryz.func125 (c:=_) rfl rfl (N:=24) rfl (rs:=_) rfl (n:=0) rfl rfl ?_
 cbv
 have kx:vr.length=vs.length:=by rw [uV,lgM]
 have aaw:vr'.length=vs'.length:=by rw [abU,lgM]
 iterate 5 refine gI (by simp [ht]) ?_
 refine pI (by simp [ht]) ?_
 iterate 4 refine gI (by simp [ht]) ?_
 refine aM (fun g0=>⟨by simp [ht] at g0 ⊢;exact g0,trivial,RH ht (by assumption) (by assumption) (by assumption) (by assumption)⟩) rfl rfl (fun r1 cX=>?_)
 simp only [ht] at cX
 cbv
 refine pI (by simp [ht]) ?_
 refine an trivial trivial rfl rfl rfl ?_
 (simp [*];grind)
theorem Ok (ht:TT t) {l m:List Term} {es fs:List (List D)} (aF:es=l.map Term.cells) (qL:fs=m.map Term.cells) (hl:l.length<1000000000) (hm:m.length<1000000000) (hls:∀x∈l,x.fW.length<1000000000) (Tl:∀x∈m,x.fW.length<1000000000):
 FC 124 [SL es,SL fs,.fn 125 []] [] (.ret (bY (t _ fun _=>decide (l=m)))) []:=by
 refine bC ht (aE:=[]) Tryz.func124 (c:=_) rfl rfl (N:=32) rfl (rs:=_) rfl (n:=0) rfl rfl ?_
 cbv
 have ar:es.length=l.length:=by rw [aF,lgM]
 have cD:fs.length=m.length:=by rw [qL,lgM]
 refine ai (fun h0=>?_) (fun h0=>?_)
 ·simp [ht,aa,ar,cD] at h0
  cbv
  refine an trivial trivial rfl rfl rfl ?_
  (simp [ht];rintro rfl;simp_all;done)
 simp [ht,aa,ar,cD] at h0
 cbv
 obtain ⟨J1,fe⟩:∃J1:Nat→Int→Prop,∀n i,J1 n i↔(∃k:Nat,i=k∧k+n=l.length∧l.length=m.length∧decide (l=m)=decide (l.drop k=m.drop k)):=⟨fun n v=>match v with|i=>(∃k:Nat,i=k∧k+n=l.length∧l.length=m.length∧decide (l=m)=decide (l.drop k=m.drop k)),fun _ _=>Iff.rfl⟩
 refine aZ ⟨[1,2,15,16,17],[],[]⟩ (σ:=Int) (fun v=>[(17,.d (.int .i64 (t _ fun _=>v)))]) (fun v=>[]) J1 ?_
 cbv
 refine aA ⟨l.length,_,(fe _ _).2 ?_,by simp only [ht];rfl,?_⟩
 ·(simp only [aa];grind)
 rintro n i hj
 replace hj:=(fe _ _).1 hj
 obtain ⟨k,rfl,j1,j2,j4⟩:=hj
 cbv
 refine ai (fun h2=>?_) (fun h2=>?_)
 ·simp [ht,aa,ar] at h2
  cbv
  refine dg ht aF (cT:=Term.aH t) (by (simp only [ht,aa];omega)) (by (simp only [ht,aa];omega)) (fun _=>rfl) (fun _=>(by (simp only [ht,Term.aH];rfl))) (fun x3 ke=>?_)
  simp [ht,aa] at ke
  rw [bO ke] at j4
  have sx3:=hls _ (List.mem_of_getElem? ke)
  cbv
  refine dg ht qL (cT:=Term.aH t) (by (simp only [ht,aa];omega)) (by (simp only [ht,aa];omega)) (fun _=>rfl) (fun _=>(by (simp only [ht,Term.aH];rfl))) (fun x4 qt=>?_)
  simp [ht,aa] at qt
  rw [bO qt] at j4
  have sx4:=Tl _ (List.mem_of_getElem? qt)
  cbv
  refine ay trivial (IX ht _ _ _ _ (jH ht rfl) (jH ht rfl) (by assumption) (by assumption)) trivial rfl rfl (fun r5 jA=>?_)
  simp only [ht] at jA
  cbv
  refine ai (fun h6=>?_) (fun h6=>?_)
  ·simp [ht] at h6
   cbv
   refine an trivial trivial rfl rfl rfl ?_
   (simp [ht];rintro rfl;simp_all;done)
  simp [ht] at h6
  cbv
  refine bf _ (by simp only [ht];rfl) (n-1) ?_ ((fe _ _).2 ?_)
  ·omega
  simp only [aa]
  refine ⟨k+1,aC (by omega),by omega,by omega,?_⟩
  (simp_all [UA];done)
 simp [ht,aa,ar] at h2
 cbv
 refine an trivial trivial rfl rfl rfl ?_
 (simp [ht,j4,List.drop_eq_nil_of_le (show l.length≤k by omega),List.drop_eq_nil_of_le (show m.length≤k by omega)];done)
theorem RI (ht:TT t) {l m:List Term} {es fs:List (List D)} (aF:es=l.map Term.cells) (qL:fs=m.map Term.cells) (hl:l.length<1000000000) (hm:m.length<1000000000) (hls:∀x∈l,x.fW.length<1000000000) (Tl:∀x∈m,x.fW.length<1000000000):
 FC 62 [SL es,SL fs] [] (.ret (bY (t _ fun _=>decide (l=m)))) []:=by
 refine bC ht (aE:=[]) Tryz.func62 (c:=_) rfl rfl (N:=8) rfl (rs:=_) rfl (n:=0) rfl rfl ?_
 cbv
 have ar:es.length=l.length:=by rw [aF,lgM]
 have cD:fs.length=m.length:=by rw [qL,lgM]
 refine ay trivial (Ok ht (by assumption) (by assumption) (by assumption) (by assumption) (by assumption) (by assumption)) trivial rfl rfl (fun r0 bE=>?_)
 simp only [ht] at bE
 cbv
 refine an trivial trivial rfl rfl rfl ?_
 (simp [*];done)
theorem IY {l:List aD} {k:Nat} {x:aD}:Fi (prevStr l k) x=(decide (k=0)||match l[k-1]? with|none=>true|some y=>!sle x y):=by
 cases k with
 |zero=>rfl
 |succ k=>simp only [prevStr,Fi];cases h:l[k]?<;>simp [h]
theorem Ol (ht:TT t) (k:aD) (n:Bool) {vs:List aD} {vr:List (List D)} (uV:vr=vs.map aT) (hk:k.length<9223372036854775807) (hl:vs.length<1000000000) (hs:∀v∈vs,v.length<9223372036854775807):
 FC 121 [.agg [ST k,BL n,SL vr]] [] (.ret (bY (t _ fun _=>mright ⟨k,n,vs⟩))) []:=by
 refine bC ht (aE:=[]) Tryz.func121 (c:=_) rfl rfl (N:=40) rfl (rs:=_) rfl (n:=0) rfl rfl ?_
 cbv
 have kx:vr.length=vs.length:=by rw [uV,lgM]
 obtain ⟨J0,eg⟩:∃J0:Nat→Int→Prop,∀n i,J0 n i↔(∃q:Nat,i=q∧q+n=vs.length∧zf none vs=zf (prevStr vs q) (vs.drop q)):=⟨fun n v=>match v with|i=>(∃q:Nat,i=q∧q+n=vs.length∧zf none vs=zf (prevStr vs q) (vs.drop q)),fun _ _=>Iff.rfl⟩
 refine aZ ⟨[1,6,7,8],[],[]⟩ (σ:=Int) (fun v=>[(8,.d (.int .i64 (t _ fun _=>v)))]) (fun v=>[]) J0 ?_
 cbv
 refine aA ⟨vs.length,_,(eg _ _).2 ?_,by simp only [ht];rfl,?_⟩
 ·exact ⟨0,rfl,by simp,by simp [prevStr]⟩
 rintro n i hj
 replace hj:=(eg _ _).1 hj
 obtain ⟨k,rfl,j1,j4⟩:=hj
 cbv
 refine ai (fun h1=>?_) (fun h1=>?_)
 ·simp [ht,aa,kx] at h1
  cbv
  refine dg ht uV (cT:=dR t) (by (simp only [ht,aa];omega)) (by (simp only [ht,aa];omega)) (fun _=>rfl) (fun _=>rfl) (fun x2 iw=>?_)
  simp [ht,aa] at iw
  simp only [bO iw,zf] at j4
  have sx2:=hs _ (List.mem_of_getElem? iw)
  cbv
  refine ay trivial (oK ht _ (by assumption)) trivial rfl rfl (fun r3 gH=>?_)
  simp only [ht] at gH
  cbv
  iterate 8 refine gI (by simp [ht]) ?_
  (refine HY ht uV (cT:=dR t) (k-1) (fun g=>by simp [ht,aa] at g ⊢;simp [g]) (fun g=>by simp [ht,aa] at g;simp only [ht,aa];exact ⟨vX (by omega) (by omega),by omega⟩) (fun _=>rfl) (fun _=>by simp only [dR]) (fun y my=>?_);simp [ht,aa] at my)
  cbv
  iterate 2 refine gI (by simp [ht]) ?_
  refine gI (by simp [ht,ak];intros;simp_all) ?_
  refine pI (by simp [ht]) ?_
  refine ai (fun h4=>?_) (fun h4=>?_)
  ·simp [ht,aa] at h4
   cbv
   refine an trivial trivial rfl rfl rfl ?_
   (simp only [ht];rw [IY] at j4;grind [mright,sle])
  simp [ht,aa] at h4
  cbv
  refine bf _ (by simp only [ht];rfl) (n-1) ?_ ((eg _ _).2 ?_)
  ·omega
  simp only [aa]
  refine ⟨k+1,aC (by omega),by omega,?_⟩
  (rw [IY] at j4;simp only [prevStr];rw [iw];grind [sle])
 simp [ht,aa,kx] at h1
 cbv
 refine ay trivial (oK ht _ (by assumption)) trivial rfl rfl (fun r5 jA=>?_)
 simp only [ht] at jA
 cbv
 iterate 4 refine gI (by simp) ?_
 refine pI (by simp) ?_
 refine an trivial trivial rfl rfl rfl ?_
 (rw [List.drop_eq_nil_of_le (by omega),zf] at j4;have e:decide ((vs.length:Int)≤4)=decide (vs.length≤4):=(by rw [decide_eq_decide];omega);simp [ht,aa,mright,j4,jA,kx,e];done)
theorem Om (ht:TT t) {l:List (Term)} {es:List (List D)} (aF:es=l.map Term.cells) (f:Nat) (p:Term→Bool) (hl:l.length<9223372036854775807)
 (hf:∀x∈l,FC f [.agg [ST x.key,BL x.no,SL (x.fW.map aT)]] [] (.ret (BL (p x))) []) {r:Int} (hr:r=idxOf p l):FC 171 [SL es,.fn f []] [] (.ret (bq r)) []:=by
 have hel:es.length=l.length:=by rw [aF,lgM]
 obtain ⟨J,hJ⟩:∃J:Nat→Nat→Prop,∀n v,J n v↔(v+n=l.length∧∀i<v,∀x,l[i]?=some x→p x=false):=⟨fun n v=>v+n=l.length∧∀i<v,∀x,l[i]?=some x→p x=false,fun _ _=>Iff.rfl⟩
 refine bC ht (aE:=[]) Tryz.func171 (c:=_) rfl rfl (N:=19) rfl (rs:=_) rfl (n:=0) rfl rfl ?_
 cbv
 refine aZ ⟨[0,1,7,8],[],[]⟩ (σ:=Nat) (fun k=>[(8,bq (t _ fun _=>(k:Int)))]) (fun _=>[]) J ?_
 cbv
 refine aA ⟨l.length,0,(hJ _ _).2 ⟨by omega,by intro i hi;simp at hi⟩,by simp only [ht];rfl,?_⟩
 rintro n k hj
 obtain ⟨h2,h3⟩:=(hJ _ _).1 hj
 clear hj
 cbv
 refine ai (fun h=>?_) (fun h=>?_)
 ·simp only [ht,aa,decide_eq_true_eq] at h
  have hk:k<l.length:=by omega
  obtain ⟨x,hx⟩:∃x,l[k]?=some x:=⟨l[k],by simp⟩
  have og:x∈l:=List.mem_of_getElem? hx
  have gY:=hf x og
  obtain ⟨px,hpx⟩:∃b,b=p x:=⟨_,rfl⟩
  rw [←hpx] at gY
  obtain ⟨a,b,c⟩:=x;obtain ⟨JH,pS⟩:∃lr:List (List D),lr=c.map aT:=⟨_,rfl⟩;simp only [←pS] at gY
  cbv
  refine gS [.str a,.bool b,.sl JH] ?_ ?_ ?_
  ·simp only [ht,aa];refine ⟨by omega,h,?_⟩;rw [aF];intro r hr;obtain ⟨y,_,rfl⟩:=List.mem_map.1 hr;rfl
  ·simp [ht,aa,aF,hx,pS,Term.cells]
  cbv
  refine dn trivial gY ?_
  cbv
  refine ai (fun hb=>?_) (fun hb=>?_)
  ·cbv
   refine an trivial trivial rfl rfl rfl ?_
   have e:=cN hx (hpx▸hb) h3
   simp only [ht,aa,hr,idxOf,e]
  cbv
  refine aA ⟨n-1,k+1,⟨by omega,(hJ _ _).2 ⟨by omega,?_⟩⟩,?_⟩
  ·intro i hi y hy
   by_cases hik:i<k
   ·exact h3 i hik y hy
   have:i=k:=by omega
   subst this;rw [hx] at hy;cases hy;rw [←hpx];exact hb
  simp only [ht,aa,aC (show k<9223372036854775807 by omega)];rfl
 simp only [ht,aa,decide_eq_false_iff_not] at h
 have hk:¬k<l.length:=by omega
 clear h
 cbv
 refine an trivial trivial rfl rfl rfl ?_
 rw [hr,idxOf,cS]
 intro i y hy
 have:i<l.length:=by
  rcases Nat.lt_or_ge i l.length with h'|h';· exact h'
  simp [List.getElem?_eq_none h'] at hy
 exact h3 i (by omega) y hy
theorem On (ht:TT t) {l:List (Term)} {es:List (List D)} (aF:es=l.map Term.cells) (f:Nat) (p:Term→Bool) (hl:l.length<9223372036854775807)
 (hf:∀x∈l,FC f [.agg [ST x.key,BL x.no,SL (x.fW.map aT)]] [] (.ret (BL (p x))) []) {r:Bool} (hr:r=l.any p):FC 119 [SL es,.fn f []] [] (.ret (BL r)) []:=by
 obtain ⟨k,hk⟩:∃k,k=idxOf p l:=⟨_,rfl⟩
 refine bC ht (aE:=[]) Tryz.func119 (c:=_) rfl rfl (N:=9) rfl (rs:=_) rfl (n:=0) rfl rfl ?_
 cbv
 refine dn trivial (Om ht aF f p hl hf hk) ?_
 cbv
 refine an trivial trivial rfl rfl rfl ?_
 simp only [ht,hr,eT,hk]
theorem Ln (ht:TT t) (k:aD) (n:Bool) {vs:List aD} {vr:List (List D)} (uV:vr=vs.map aT) (hk:k.length<9223372036854775807) (hl:vs.length<1000000000) (hs:∀v∈vs,v.length<9223372036854775807):
 FC 120 [.agg [ST k,BL n,SL vr]] [] (.ret (bY (t _ fun _=>!mright ⟨k,n,vs⟩))) []:=by
 refine bC ht (aE:=[]) Tryz.func120 (c:=_) rfl rfl (N:=6) rfl (rs:=_) rfl (n:=0) rfl rfl ?_
 cbv
 have kx:vr.length=vs.length:=by rw [uV,lgM]
 refine ay trivial (Ol ht _ _ (by assumption) (by assumption) (by assumption) (by assumption)) trivial rfl rfl (fun r0 bE=>?_)
 simp only [ht] at bE
 cbv
 refine an trivial trivial rfl rfl rfl ?_
 (simp [*];done)
theorem IZ (ht:TT t) {l:List Term} {es:List (List D)} (aF:es=l.map Term.cells) (hl:l.length<1000000000) (fR:∀x∈l,x.sm):
 FC 119 [SL es,.fn 120 []] [] (.ret (bY (t _ fun _=>l.any fun x=>!mright x))) []:=by
 simp only [ht];exact On ht aF _ _ (by omega) (fun x hx=>by have h:=Ln ht x.key x.no (vs:=x.fW) rfl (fR x hx).1 (fR x hx).2.1 (fR x hx).2.2;simp only [ht,bY] at h;exact h) rfl
theorem yj (ht:TT t) {l:List Term} {es:List (List D)} (aF:es=l.map Term.cells) (hl:l.length<1000000000) (fR:∀x∈l,x.sm):
 FC 60 [SL es] [] (.ret (bY (t _ fun _=>pP l))) []:=by
 refine bC ht (aE:=[]) Tryz.func60 (c:=_) rfl rfl (N:=11) rfl (rs:=_) rfl (n:=0) rfl rfl ?_
 cbv
 have ar:es.length=l.length:=by rw [aF,lgM]
 refine gI (by simp [ht]) ?_
 refine aM (fun g0=>⟨by simp [ht] at g0 ⊢;exact g0,trivial,IZ ht (by assumption) (by assumption) (by assumption)⟩) rfl rfl (fun r1 cX=>?_)
 simp only [ht] at cX
 cbv
 refine gI (by simp [ht]) ?_
 refine pI (by simp [ht]) ?_
 refine an trivial trivial rfl rfl rfl ?_
 (simp only [ht,aa,pP];grind)
def Xr (r:bB bT):AV:=.dF [.agg [ST r.x.key,ST r.x.value],bq r.next,BL r.ok]
def M1 (t:Th) (r:bB (List bT)):AV:=.dF [SL (t _ fun _=>r.x.map bT.cells),bq r.next,BL r.ok]
theorem RJ (ht:TT t) (s:aD) (p:Int) (hs:s.length<9223372036854775000) (hp:p<9223372036854775808):FC 226 [ST s,bq p] [] (.ret (Xr (t _ fun _=>jg s p))) []:=by
 refine bC ht (aE:=[]) Tryz.func226 (c:=_) rfl rfl (N:=27) rfl (rs:=_) rfl (n:=0) rfl rfl ?_
 cbv
 refine ay trivial (gJ ht _ _ _ (by assumption) (by assumption) (by omega)) trivial rfl rfl (fun r0 bE=>?_)
 simp only [ht] at bE
 have RK:=dw (s:=s) (p:=p) (m:=32) hs
 (try rw [←bE] at RK)
 (try obtain ⟨abV,abW,abX⟩:=RK)
 cbv
 refine ai (fun h1=>?_) (fun h1=>?_)
 ·cbv
  refine ay trivial (gJ ht _ _ _ (by assumption) (by (refine Int.lt_of_le_of_lt (by assumption) (by ((try simp only [aa] at*);omega)))) (by omega)) trivial rfl rfl (fun r2 cP=>?_)
  simp only [ht] at cP
  have ZL:=dw (s:=s) (p:=p) (m:=32) hs
  (try rw [←cP] at ZL)
  (try obtain ⟨aeV,aeW,aeX⟩:=ZL)
  cbv
  refine an trivial trivial rfl rfl rfl ?_
  (simp only [ht,jg];grind)
 cbv
 refine an trivial trivial rfl rfl rfl ?_
 (simp only [ht,jg];grind)
theorem Oo (ht:TT t) (s:aD) (p most:Int) (hs:s.length<9223372036854775000) (hp:p<9223372036854775808) (hm:0≤most∧most<100000000):FC 225 [ST s,bq p,bq most,.fn 226 []] [] (.ret (M1 t (t _ fun _=>fV s p most (jg s)))) []:=by
 have Up:IntKind.u64.wrap most=most:=by rw [bG];omega
 refine bC ht (aE:=[]) Tryz.func225 (c:=_) rfl rfl (N:=51) rfl (rs:=_) rfl (n:=0) rfl rfl ?_
 cbv
 refine ay trivial (fu ht _ _ (by assumption) (by assumption)) trivial rfl rfl (fun r0 bE=>?_)
 simp only [ht] at bE
 have gb:=eM (s:=s) (p:=p)
 rw [←bE] at gb
 cbv
 iterate 4 refine gI (by simp [ht]) ?_
 refine pI (by simp [ht]) ?_
 refine ai (fun h1=>?_) (fun h1=>?_)
 ·simp [ht,Up] at h1
  cbv
  refine an trivial trivial rfl rfl rfl ?_
  (rw [show fV s p most (jg s)=bB.nW from by rw [fV,if_neg (by rw [←bE];rintro ⟨g1,g2⟩;simp_all;omega)]];simp [ht,bB.nW];done)
 simp [ht,Up] at h1
 cbv
 obtain ⟨J2,FM⟩:∃J2:Nat→Int×List (List D)×Int→Prop,∀n a o i,J2 n (a,o,i)↔(∃(k:Nat) (rs:List bT),i=k∧k+n=r0.u.toNat∧o=rs.map bT.cells∧rs.length=k∧a<9223372036854775808∧fV s p most (jg s)=ia (jg s) n rs a):=⟨fun n v=>match v with|(a,o,i)=>(∃(k:Nat) (rs:List bT),i=k∧k+n=r0.u.toNat∧o=rs.map bT.cells∧rs.length=k∧a<9223372036854775808∧fV s p most (jg s)=ia (jg s) n rs a),fun _ _ _ _=>Iff.rfl⟩
 refine aZ ⟨[0,1,3,8,30,31],[(8,2)],[]⟩ (σ:=Int×List (List D)×Int) (fun v=>[(1,.d (.int .i64 (t _ fun _=>v.1))),(8,.ow 0 2 (t _ fun _=>(v.2.1).length)),(31,.d (.int .u64 (t _ fun _=>v.2.2)))]) (fun v=>[(0,.row 2 (t _ fun _=>v.2.1))]) J2 ?_
 cbv
 refine aA ⟨r0.u.toNat,(_,[],_),(FM _ _ _ _).2 ?_,by simp only [ht];rfl,?_⟩
 ·(have g:=gb h1.1;exact ⟨0,[],rfl,by omega,rfl,rfl,Int.lt_of_le_of_lt g.2.2.1 (by ((try simp only [aa] at*);omega)),by rw [fV,if_pos (by rw [←bE];exact h1),←bE]⟩)
 rintro n ⟨a,o,i⟩ hj
 replace hj:=(FM _ _ _ _).1 hj
 obtain ⟨k,rs,j1,j3,j2,j5,j6,j4⟩:=hj
 have tV:o.length=rs.length:=by rw [j2,lgM]
 cbv
 refine ai (fun h3=>?_) (fun h3=>?_)
 ·simp [ht] at h3
  cbv
  refine ay trivial (RJ ht _ _ (by assumption) (by (simp only [ht];omega))) trivial rfl rfl (fun r4 dO=>?_)
  simp only [ht] at dO
  have RL:=H7 (s:=s) (p:=a) hs
  rw [←dO] at RL
  obtain ⟨m,rfl⟩:∃m,n=m+1:=⟨n-1,by ((try simp only [aa] at*);omega)⟩
  rw [uD dO] at j4
  cbv
  refine ai (fun h5=>?_) (fun h5=>?_)
  ·simp [ht] at h5
   cbv
   refine an trivial trivial rfl rfl rfl ?_
   (simp only [ht];simp_all [bB.nW];done)
  simp [ht] at h5
  cbv
  refine ⟨?_,?_⟩
  ·(simp only [ht,true_and];exact zb j2 (fun _=>rfl) rfl (by omega) (by decide))
  cbv
  refine bf (_,_,_) (by simp only [ht,←List.length_append];rfl) m ?_ ((FM _ _ _ _).2 ?_)
  ·omega
  simp only [aa]
  exact ⟨k+1,rs++[(r4).x],by rw [bG];((try simp only [aa] at*);omega),by omega,by rw [j2];simp,by simp;omega,Int.lt_of_le_of_lt RL (by ((try simp only [aa] at*);omega)),by rw [j4,if_pos (by assumption)]⟩
 simp [ht] at h3
 cbv
 refine an trivial (by simp [ht]) rfl rfl rfl ?_
 (have hn:n=0:=(by ((try simp only [aa] at*);omega));rw [hn,ia] at j4;simp only [ht,j4,j2];done)
theorem UB (ht:TT t) (s:aD) (p:Int) (hs:s.length<9223372036854775000) (hp:p<9223372036854775808):FC 210 [ST s,bq p] [] (.ret (M1 t (t _ fun _=>vZ s p))) []:=by
 refine bC ht (aE:=[]) Tryz.func210 (c:=_) rfl rfl (N:=23) rfl (rs:=_) rfl (n:=0) rfl rfl ?_
 cbv
 refine aS trivial (Oo ht _ _ _ (by assumption) (by assumption) (by omega)) trivial rfl rfl rfl (fun r0 bE=>?_)
 simp only [ht] at bE
 have Xs:=vY (s:=s) (p:=p) (m:=8) (get:=jg s)
 have abY:=BB (s:=s) (p:=p) (m:=8) (get:=jg s) (q:=bT.sm) (fun p=>H8 hs)
 rw [←bE] at Xs abY
 cbv
 refine gI (by simp [ht]) ?_
 refine aM (fun g1=>⟨by simp [ht] at g1 ⊢;exact g1,trivial,sU ht (jH ht rfl) (by ((try simp only [aa] at*);omega)) (by assumption)⟩) rfl rfl (fun r2 cP=>?_)
 simp only [ht] at cP
 cbv
 refine gI (by simp [ht]) ?_
 refine pI (by simp [ht]) ?_
 refine ai (fun h3=>?_) (fun h3=>?_)
 ·simp [ht] at h3
  cbv
  refine an trivial trivial rfl rfl rfl ?_
  (simp only [ht,bB.nW,vZ];grind)
 simp [ht] at h3
 cbv
 refine an trivial trivial rfl rfl rfl ?_
 (simp only [ht,bB.nW,vZ];grind)
def Xt (t:Th) (r:bB Node):AV:=.dF [QV t r.x,bq r.next,BL r.ok]
def UC (r:bB Place):AV:=.dF [.agg [az r.x.bu,ST r.x.node,az r.x.v.a,az r.x.v.b,az r.x.v.c,az r.x.v.d],bq r.next,BL r.ok]
def UD (t:Th) (r:bB (List Node)):AV:=.dF [SL (t _ fun _=>r.x.map Node.cells),bq r.next,BL r.ok]
def RM (t:Th) (r:bB (List Place)):AV:=.dF [SL (t _ fun _=>r.x.map Place.cells),bq r.next,BL r.ok]
def Xu (t:Th) (r:bB cO):AV:=.dF [ME t r.x,bq r.next,BL r.ok]
theorem RN (ht:TT t) (s:aD) (p:Int) (hs:s.length<9223372036854775000) (hp:p<9223372036854775808):FC 180 [ST s,bq p] [] (.ret (Xt t (t _ fun _=>gQ s p))) []:=by
 refine bC ht (aE:=[]) Tryz.func180 (c:=_) rfl rfl (N:=58) rfl (rs:=_) rfl (n:=0) rfl rfl ?_
 cbv
 refine ay trivial (gJ ht _ _ _ (by assumption) (by assumption) (by omega)) trivial rfl rfl (fun r0 bE=>?_)
 simp only [ht] at bE
 have gr0:=(dw (s:=s) (p:=p) (m:=32) hs).2.1
 rw [←bE] at gr0
 cbv
 refine ai (fun h1=>?_) (fun h1=>?_)
 ·simp [ht] at h1
  cbv
  refine an trivial trivial rfl rfl rfl ?_
  (simp only [ht,gQ,bB.SU,Node.zero,bz.zero];grind)
 simp [ht] at h1
 cbv
 refine ay trivial (wI ht _ _ (by assumption) (by (refine Int.lt_of_le_of_lt (by assumption) (by ((try simp only [aa] at*);omega))))) trivial rfl rfl (fun r2 cP=>?_)
 simp only [ht] at cP
 have gr2:=sP (s:=s) (p:=r0.next)
 rw [←cP] at gr2
 cbv
 refine ai (fun h3=>?_) (fun h3=>?_)
 ·simp [ht] at h3
  cbv
  refine an trivial trivial rfl rfl rfl ?_
  (simp only [ht,gQ,bB.SU,Node.zero,bz.zero];grind)
 simp [ht] at h3
 cbv
 refine aS trivial (UB ht _ _ (by assumption) (by (refine Int.lt_of_le_of_lt (by assumption) (by ((try simp only [aa] at*);omega))))) trivial rfl rfl rfl (fun r4 dO=>?_)
 simp only [ht] at dO
 have gr4:(r4).next≤s.length:=by rw [dO];exact TR hs
 cbv
 refine ai (fun h5=>?_) (fun h5=>?_)
 ·simp [ht] at h5
  cbv
  refine an trivial trivial rfl rfl rfl ?_
  (simp only [ht,gQ,bB.SU,Node.zero,bz.zero];grind)
 simp [ht] at h5
 cbv
 refine ay trivial (fu ht _ _ (by assumption) (by (refine Int.lt_of_le_of_lt (by assumption) (by ((try simp only [aa] at*);omega))))) trivial rfl rfl (fun r6 gv=>?_)
 simp only [ht] at gv
 cbv
 iterate 2 refine gI (by simp) ?_
 refine pI (by simp) ?_
 refine an trivial trivial rfl rfl rfl ?_
 (simp only [ht,gQ,bB.SU,Node.zero,bz.zero];grind)
theorem RO (ht:TT t) (s:aD) (p:Int) (hs:s.length<9223372036854775000) (hp:p<9223372036854775808):FC 182 [ST s,bq p] [] (.ret (UC (t _ fun _=>lz s p))) []:=by
 refine bC ht (aE:=[]) Tryz.func182 (c:=_) rfl rfl (N:=40) rfl (rs:=_) rfl (n:=0) rfl rfl ?_
 cbv
 refine ay trivial (fu ht _ _ (by assumption) (by assumption)) trivial rfl rfl (fun r0 bE=>?_)
 simp only [ht] at bE
 have gr0:(r0).next≤s.length:=by rw [bE];exact MH
 cbv
 refine ai (fun h1=>?_) (fun h1=>?_)
 ·simp [ht] at h1
  cbv
  refine an trivial trivial rfl rfl rfl ?_
  (simp only [ht,lz,bB.WY,bz.zero];grind)
 simp [ht] at h1
 cbv
 refine ay trivial (gJ ht _ _ _ (by assumption) (by (refine Int.lt_of_le_of_lt (by assumption) (by ((try simp only [aa] at*);omega)))) (by omega)) trivial rfl rfl (fun r2 cP=>?_)
 simp only [ht] at cP
 have gr2:(r2).next≤s.length:=by rw [cP];exact (dw hs).2.1
 cbv
 refine ai (fun h3=>?_) (fun h3=>?_)
 ·simp [ht] at h3
  cbv
  refine an trivial trivial rfl rfl rfl ?_
  (simp only [ht,lz,bB.WY,bz.zero];grind)
 simp [ht] at h3
 cbv
 refine ay trivial (wI ht _ _ (by assumption) (by (refine Int.lt_of_le_of_lt (by assumption) (by ((try simp only [aa] at*);omega))))) trivial rfl rfl (fun r4 dO=>?_)
 simp only [ht] at dO
 cbv
 refine an trivial trivial rfl rfl rfl ?_
 (simp only [ht,lz,bB.WY,bz.zero];grind)
theorem Oq (ht:TT t) (s:aD) (p most:Int) (hs:s.length<9223372036854775000) (hp:p<9223372036854775808) (hm:0≤most∧most<100000000):FC 179 [ST s,bq p,bq most,.fn 180 []] [] (.ret (UD t (t _ fun _=>fV s p most (gQ s)))) []:=by
 have Up:IntKind.u64.wrap most=most:=by rw [bG];omega
 refine bC ht (aE:=[]) Tryz.func179 (c:=_) rfl rfl (N:=51) rfl (rs:=_) rfl (n:=0) rfl rfl ?_
 cbv
 refine ay trivial (fu ht _ _ (by assumption) (by assumption)) trivial rfl rfl (fun r0 bE=>?_)
 simp only [ht] at bE
 have gb:=eM (s:=s) (p:=p)
 rw [←bE] at gb
 cbv
 iterate 4 refine gI (by simp [ht]) ?_
 refine pI (by simp [ht]) ?_
 refine ai (fun h1=>?_) (fun h1=>?_)
 ·simp [ht,Up] at h1
  cbv
  refine an trivial trivial rfl rfl rfl ?_
  (rw [show fV s p most (gQ s)=bB.nW from by rw [fV,if_neg (by rw [←bE];rintro ⟨g1,g2⟩;simp_all;omega)]];simp [ht,bB.nW];done)
 simp [ht,Up] at h1
 cbv
 obtain ⟨J2,FM⟩:∃J2:Nat→Int×List (List D)×Int→Prop,∀n a o i,J2 n (a,o,i)↔(∃(k:Nat) (rs:List Node),i=k∧k+n=r0.u.toNat∧o=rs.map Node.cells∧rs.length=k∧a<9223372036854775808∧fV s p most (gQ s)=ia (gQ s) n rs a):=⟨fun n v=>match v with|(a,o,i)=>(∃(k:Nat) (rs:List Node),i=k∧k+n=r0.u.toNat∧o=rs.map Node.cells∧rs.length=k∧a<9223372036854775808∧fV s p most (gQ s)=ia (gQ s) n rs a),fun _ _ _ _=>Iff.rfl⟩
 refine aZ ⟨[0,1,3,8,30,31],[(8,7)],[]⟩ (σ:=Int×List (List D)×Int) (fun v=>[(1,.d (.int .i64 (t _ fun _=>v.1))),(8,.ow 0 7 (t _ fun _=>(v.2.1).length)),(31,.d (.int .u64 (t _ fun _=>v.2.2)))]) (fun v=>[(0,.row 7 (t _ fun _=>v.2.1))]) J2 ?_
 cbv
 refine aA ⟨r0.u.toNat,(_,[],_),(FM _ _ _ _).2 ?_,by simp only [ht];rfl,?_⟩
 ·(have g:=gb h1.1;exact ⟨0,[],rfl,by omega,rfl,rfl,Int.lt_of_le_of_lt g.2.2.1 (by ((try simp only [aa] at*);omega)),by rw [fV,if_pos (by rw [←bE];exact h1),←bE]⟩)
 rintro n ⟨a,o,i⟩ hj
 replace hj:=(FM _ _ _ _).1 hj
 obtain ⟨k,rs,j1,j3,j2,j5,j6,j4⟩:=hj
 have tV:o.length=rs.length:=by rw [j2,lgM]
 cbv
 refine ai (fun h3=>?_) (fun h3=>?_)
 ·simp [ht] at h3
  cbv
  refine aS trivial (RN ht _ _ (by assumption) (by (simp only [ht];omega))) trivial rfl rfl rfl (fun r4 dO=>?_)
  simp only [ht] at dO
  have RL:=Ia (s:=s) (p:=a)
  rw [←dO] at RL
  obtain ⟨m,rfl⟩:∃m,n=m+1:=⟨n-1,by ((try simp only [aa] at*);omega)⟩
  rw [uD dO] at j4
  cbv
  refine ai (fun h5=>?_) (fun h5=>?_)
  ·simp [ht] at h5
   cbv
   refine an trivial trivial rfl rfl rfl ?_
   (simp only [ht];simp_all [bB.nW];done)
  simp [ht] at h5
  cbv
  refine ⟨?_,?_⟩
  ·(simp only [ht,true_and];exact zb j2 (fun _=>rfl) rfl (by omega) (by decide))
  cbv
  refine bf (_,_,_) (by simp only [ht,←List.length_append];rfl) m ?_ ((FM _ _ _ _).2 ?_)
  ·omega
  simp only [aa]
  exact ⟨k+1,rs++[(r4).x],by rw [bG];((try simp only [aa] at*);omega),by omega,by rw [j2];simp,by simp;omega,Int.lt_of_le_of_lt RL (by ((try simp only [aa] at*);omega)),by rw [j4,if_pos (by assumption)]⟩
 simp [ht] at h3
 cbv
 refine an trivial (by simp [ht]) rfl rfl rfl ?_
 (have hn:n=0:=(by ((try simp only [aa] at*);omega));rw [hn,ia] at j4;simp only [ht,j4,j2];done)
theorem Lo (ht:TT t) (s:aD) (p most:Int) (hs:s.length<9223372036854775000) (hp:p<9223372036854775808) (hm:0≤most∧most<100000000):FC 181 [ST s,bq p,bq most,.fn 182 []] [] (.ret (RM t (t _ fun _=>fV s p most (lz s)))) []:=by
 have Up:IntKind.u64.wrap most=most:=by rw [bG];omega
 refine bC ht (aE:=[]) Tryz.func181 (c:=_) rfl rfl (N:=51) rfl (rs:=_) rfl (n:=0) rfl rfl ?_
 cbv
 refine ay trivial (fu ht _ _ (by assumption) (by assumption)) trivial rfl rfl (fun r0 bE=>?_)
 simp only [ht] at bE
 have gb:=eM (s:=s) (p:=p)
 rw [←bE] at gb
 cbv
 iterate 4 refine gI (by simp [ht]) ?_
 refine pI (by simp [ht]) ?_
 refine ai (fun h1=>?_) (fun h1=>?_)
 ·simp [ht,Up] at h1
  cbv
  refine an trivial trivial rfl rfl rfl ?_
  (rw [show fV s p most (lz s)=bB.nW from by rw [fV,if_neg (by rw [←bE];rintro ⟨g1,g2⟩;simp_all;omega)]];simp [ht,bB.nW];done)
 simp [ht,Up] at h1
 cbv
 obtain ⟨J2,FM⟩:∃J2:Nat→Int×List (List D)×Int→Prop,∀n a o i,J2 n (a,o,i)↔(∃(k:Nat) (rs:List Place),i=k∧k+n=r0.u.toNat∧o=rs.map Place.cells∧rs.length=k∧a<9223372036854775808∧fV s p most (lz s)=ia (lz s) n rs a):=⟨fun n v=>match v with|(a,o,i)=>(∃(k:Nat) (rs:List Place),i=k∧k+n=r0.u.toNat∧o=rs.map Place.cells∧rs.length=k∧a<9223372036854775808∧fV s p most (lz s)=ia (lz s) n rs a),fun _ _ _ _=>Iff.rfl⟩
 refine aZ ⟨[0,1,3,8,30,31],[(8,6)],[]⟩ (σ:=Int×List (List D)×Int) (fun v=>[(1,.d (.int .i64 (t _ fun _=>v.1))),(8,.ow 0 6 (t _ fun _=>(v.2.1).length)),(31,.d (.int .u64 (t _ fun _=>v.2.2)))]) (fun v=>[(0,.row 6 (t _ fun _=>v.2.1))]) J2 ?_
 cbv
 refine aA ⟨r0.u.toNat,(_,[],_),(FM _ _ _ _).2 ?_,by simp only [ht];rfl,?_⟩
 ·(have g:=gb h1.1;exact ⟨0,[],rfl,by omega,rfl,rfl,Int.lt_of_le_of_lt g.2.2.1 (by ((try simp only [aa] at*);omega)),by rw [fV,if_pos (by rw [←bE];exact h1),←bE]⟩)
 rintro n ⟨a,o,i⟩ hj
 replace hj:=(FM _ _ _ _).1 hj
 obtain ⟨k,rs,j1,j3,j2,j5,j6,j4⟩:=hj
 have tV:o.length=rs.length:=by rw [j2,lgM]
 cbv
 refine ai (fun h3=>?_) (fun h3=>?_)
 ·simp [ht] at h3
  cbv
  refine ay trivial (RO ht _ _ (by assumption) (by (simp only [ht];omega))) trivial rfl rfl (fun r4 dO=>?_)
  simp only [ht] at dO
  have RL:=QZ (s:=s) (p:=a)
  rw [←dO] at RL
  obtain ⟨m,rfl⟩:∃m,n=m+1:=⟨n-1,by ((try simp only [aa] at*);omega)⟩
  rw [uD dO] at j4
  cbv
  refine ai (fun h5=>?_) (fun h5=>?_)
  ·simp [ht] at h5
   cbv
   refine an trivial trivial rfl rfl rfl ?_
   (simp only [ht];simp_all [bB.nW];done)
  simp [ht] at h5
  cbv
  refine ⟨?_,?_⟩
  ·(simp only [ht,true_and];exact zb j2 (fun _=>rfl) rfl (by omega) (by decide))
  cbv
  refine bf (_,_,_) (by simp only [ht,←List.length_append];rfl) m ?_ ((FM _ _ _ _).2 ?_)
  ·omega
  simp only [aa]
  exact ⟨k+1,rs++[(r4).x],by rw [bG];((try simp only [aa] at*);omega),by omega,by rw [j2];simp,by simp;omega,Int.lt_of_le_of_lt RL (by ((try simp only [aa] at*);omega)),by rw [j4,if_pos (by assumption)]⟩
 simp [ht] at h3
 cbv
 refine an trivial (by simp [ht]) rfl rfl rfl ?_
 (have hn:n=0:=(by ((try simp only [aa] at*);omega));rw [hn,ia] at j4;simp only [ht,j4,j2];done)
theorem UE (ht:TT t) (s:aD) (p:Int) (hs:s.length<9223372036854775000) (hp:p<9223372036854775808):FC 134 [ST s,bq p] [] (.ret (Xu t (t _ fun _=>Ib s p))) []:=by
 refine bC ht (aE:=[]) Tryz.func134 (c:=_) rfl rfl (N:=36) rfl (rs:=_) rfl (n:=0) rfl rfl ?_
 cbv
 refine aS trivial (Oq ht _ _ _ (by assumption) (by assumption) (by omega)) trivial rfl rfl rfl (fun r0 bE=>?_)
 simp only [ht] at bE
 have gr0:(r0).next≤s.length:=by rw [bE];exact MG (fun p=>Ia)
 have lr0:((r0).x.length:Int)≤16:=by rw [bE];exact vY
 have sr0:∀x∈(r0).x,x.sm:=by rw [bE];exact BB (fun p=>Q0 hs)
 cbv
 refine ai (fun h1=>?_) (fun h1=>?_)
 ·simp [ht] at h1
  cbv
  refine an trivial trivial rfl rfl rfl ?_
  (simp only [ht,Ib,bB.BC];grind)
 simp [ht] at h1
 cbv
 refine aS trivial (Lo ht _ _ _ (by assumption) (by (refine Int.lt_of_le_of_lt (by assumption) (by ((try simp only [aa] at*);omega)))) (by omega)) trivial rfl rfl rfl (fun r2 cP=>?_)
 simp only [ht] at cP
 have lr2:((r2).x.length:Int)≤256:=by rw [cP];exact vY
 cbv
 refine gI (by simp [ht]) ?_
 refine aM (fun g3=>⟨by simp [ht] at g3 ⊢;exact g3,trivial,D2 ht (jH ht rfl) (jH ht rfl) (by ((try simp only [aa] at*);omega)) (by ((try simp only [aa] at*);omega)) (by assumption)⟩) rfl rfl (fun r4 dO=>?_)
 simp only [ht] at dO
 cbv
 refine gI (by simp [ht]) ?_
 refine pI (by simp [ht]) ?_
 refine ai (fun h5=>?_) (fun h5=>?_)
 ·simp [ht] at h5
  cbv
  refine an trivial trivial rfl rfl rfl ?_
  (simp only [ht,Ib,bB.BC];grind)
 simp [ht] at h5
 cbv
 refine an trivial trivial rfl rfl rfl ?_
 (simp only [ht,Ib,bB.BC];grind)
theorem dP (ht:TT t) (s:aD) (hs:s.length<9223372036854775000):FC 130 [ST s] [] (.ret (tG (t _ fun _=>bH s))) []:=by
 simp only [ht];exact Ll ht s hs rfl
theorem tg (ht:TT t) (a b c d:Int) (hu:(⟨a,b,c,d⟩:bz).u):FC 131 [V4 a b c d] [] (.ret (tG (t _ fun _=>CX ⟨a,b,c,d⟩))) []:=by
 obtain ⟨ha,hb,hc,hd⟩:a<18446744073709551616∧b<18446744073709551616∧c<18446744073709551616∧d<18446744073709551616:=hu
 have la:=c6 a
 have lb:=c6 b
 have lc:=c6 c
 have ld:=c6 d
 refine bC ht (aE:=[]) Tryz.func131 (c:=_) rfl rfl (N:=16) rfl (rs:=_) rfl (n:=0) rfl rfl ?_
 cbv
 obtain ⟨J0,eg⟩:∃J0:Nat→List UInt8×Int→Prop,∀n o i,J0 n (o,i)↔(∃k:Nat,i=k∧k+n=4∧o=zP ⟨a,b,c,d⟩ k):=⟨fun n v=>match v with|(o,i)=>(∃k:Nat,i=k∧k+n=4∧o=zP ⟨a,b,c,d⟩ k),fun _ _ _=>Iff.rfl⟩
 refine aZ ⟨[3,6,7],[],[]⟩ (σ:=List UInt8×Int) (fun v=>[(3,.d (.str (t _ fun _=>v.1))),(7,.d (.int .i64 (v.2)))]) (fun v=>[]) J0 ?_
 cbv
 refine aA ⟨4,(_,_),(eg _ _ _).2 ?_,by simp only [ht];rfl,?_⟩
 ·exact ⟨0,rfl,rfl,rfl⟩
 rintro n ⟨o,i⟩ hj
 replace hj:=(eg _ _ _).1 hj
 obtain ⟨k,j1,j2,j3⟩:=hj
 have hk:(i=0∧k=0)∨(i=1∧k=1)∨(i=2∧k=2)∨(i=3∧k=3)∨(i=4∧k=4):=by ((try simp only [aa] at*);omega)
 rcases hk with ⟨rfl,rfl⟩|⟨rfl,rfl⟩|⟨rfl,rfl⟩|⟨rfl,rfl⟩|⟨rfl,rfl⟩
 ·cbv
  refine ai (fun h1=>?_) (fun h1=>?_)
  ·simp [ht] at h1
   cbv
   refine ⟨?_,?_⟩
   ·(simp [ht];done)
   cbv
   refine ay trivial (cK ht _ (by assumption)) trivial rfl rfl (fun r2 cP=>?_)
   simp only [ht] at cP
   cbv
   refine ⟨?_,?_⟩
   ·(simp [zP, *];omega)
   cbv
   refine bf (_,_) (by simp only [ht];rfl) (n-1) ?_ ((eg _ _ _).2 ?_)
   ·omega
   simp only [aa]
   exact ⟨1,by decide,by omega,by simp [zP,bz.at_, *]⟩
  simp [ht] at h1
 ·cbv
  refine ai (fun h3=>?_) (fun h3=>?_)
  ·simp [ht] at h3
   cbv
   refine ⟨?_,?_⟩
   ·(simp [ht];done)
   cbv
   refine ay trivial (cK ht _ (by assumption)) trivial rfl rfl (fun r4 dO=>?_)
   simp only [ht] at dO
   cbv
   refine ⟨?_,?_⟩
   ·(simp [zP,bz.at_, *];omega)
   cbv
   refine bf (_,_) (by simp only [ht];rfl) (n-1) ?_ ((eg _ _ _).2 ?_)
   ·omega
   simp only [aa]
   exact ⟨2,by decide,by omega,by simp [zP,bz.at_, *]⟩
  simp [ht] at h3
 ·cbv
  refine ai (fun h5=>?_) (fun h5=>?_)
  ·simp [ht] at h5
   cbv
   refine ⟨?_,?_⟩
   ·(simp [ht];done)
   cbv
   refine ay trivial (cK ht _ (by assumption)) trivial rfl rfl (fun r6 gv=>?_)
   simp only [ht] at gv
   cbv
   refine ⟨?_,?_⟩
   ·(simp [zP,bz.at_, *];omega)
   cbv
   refine bf (_,_) (by simp only [ht];rfl) (n-1) ?_ ((eg _ _ _).2 ?_)
   ·omega
   simp only [aa]
   exact ⟨3,by decide,by omega,by simp [zP,bz.at_, *]⟩
  simp [ht] at h5
 ·cbv
  refine ai (fun h7=>?_) (fun h7=>?_)
  ·simp [ht] at h7
   cbv
   refine ⟨?_,?_⟩
   ·(simp [ht];done)
   cbv
   refine ay trivial (cK ht _ (by assumption)) trivial rfl rfl (fun r8 qy=>?_)
   simp only [ht] at qy
   cbv
   refine ⟨?_,?_⟩
   ·(simp [zP,bz.at_, *];omega)
   cbv
   refine bf (_,_) (by simp only [ht];rfl) (n-1) ?_ ((eg _ _ _).2 ?_)
   ·omega
   simp only [aa]
   exact ⟨4,by decide,by omega,by simp [zP,bz.at_, *]⟩
  simp [ht] at h7
 cbv
 refine ai (fun h9=>?_) (fun h9=>?_)
 ·simp [ht] at h9
 simp [ht] at h9
 cbv
 refine an trivial trivial rfl rfl rfl ?_
 (simp [ht,j3,CX,zP,bz.at_];done)
theorem M2 (ht:TT t) {l:List bT} {es:List (List D)} (aF:es=l.map bT.cells) (hl:l.length<1000000000) (fR:∀p∈l,p.sm) (hn:(Fo l).length<9223372036854775000):FC 176 [SL es] [] (.ret (tG (t _ fun _=>Fo l))) []:=by
 have C7:IntKind.u64.wrap (es.length:Int)=l.length:=by rw [bG,aF,lgM];omega
 refine bC ht (aE:=[]) Tryz.func176 (c:=_) rfl rfl (N:=30) rfl (rs:=_) rfl (n:=0) rfl rfl ?_
 cbv
 have ar:es.length=l.length:=by rw [aF,lgM]
 refine ay trivial (sU ht (by assumption) (by assumption) (by assumption)) trivial rfl rfl (fun r0 bE=>?_)
 simp only [ht] at bE
 cbv
 refine ai (fun h1=>?_) (fun h1=>?_)
 ·simp [ht] at h1
  cbv
  refine an trivial trivial rfl rfl rfl ?_
  (simp only [ht,Fo];grind)
 simp [ht] at h1
 cbv
 refine ay trivial (cK ht _ (by (simp only [ht];((try simp only [aa] at*);omega)))) trivial rfl rfl (fun r2 cP=>?_)
 simp only [ht] at cP
 (try rw [C7] at cP)
 cbv
 obtain ⟨J3,FN⟩:∃J3:Nat→List UInt8×Int→Prop,∀n o i,J3 n (o,i)↔(∃k:Nat,i=k∧k+n=l.length∧Fo l=o++((l.drop k).map MI).flatten):=⟨fun n v=>match v with|(o,i)=>(∃k:Nat,i=k∧k+n=l.length∧Fo l=o++((l.drop k).map MI).flatten),fun _ _ _=>Iff.rfl⟩
 refine aZ ⟨[3,13,14,15],[],[]⟩ (σ:=List UInt8×Int) (fun v=>[(3,.d (.str (t _ fun _=>v.1))),(15,.d (.int .i64 (t _ fun _=>v.2)))]) (fun v=>[]) J3 ?_
 cbv
 refine aA ⟨l.length,(_,_),(FN _ _ _).2 ?_,by simp only [ht];rfl,?_⟩
 ·(simp only [aa,Fo];grind)
 rintro n ⟨o,i⟩ hj
 replace hj:=(FN _ _ _).1 hj
 obtain ⟨k,rfl,j1,j4⟩:=hj
 cbv
 refine ai (fun h4=>?_) (fun h4=>?_)
 ·simp [ht,aa,ar] at h4
  cbv
  refine dg ht aF (cT:=bT.aH t) (by (simp only [ht,aa];omega)) (by (simp only [ht,aa];omega)) (fun _=>rfl) (fun _=>rfl) (fun x5 Ot=>?_)
  simp [ht,aa] at Ot
  rw [kG Ot,MI] at j4
  have oe:=congrArg List.length j4
  simp [bH] at oe
  have AD:(x5).key.length<9223372036854775000:=by omega
  have SS:(x5).value.length<9223372036854775000:=by omega
  cbv
  refine bJ [false,false,false,false,false,false,false,false,true,true] (by kernel_rfl) (by kernel_rfl) ?_
  cbv
  iterate 3 refine gI (by simp) ?_
  refine .inl ?_
  refine aM (fun g6=>⟨trivial,trivial,dP ht _ (by assumption)⟩) rfl rfl (fun r7 gL=>?_)
  simp only [ht] at gL
  cbv
  iterate 2 refine gI (by simp) ?_
  refine .inl ?_
  refine aM (fun g8=>⟨trivial,trivial,dP ht _ (by assumption)⟩) rfl rfl (fun r9 dN=>?_)
  simp only [ht] at dN
  cbv
  refine gI (by simp [ht];grind) ?_
  refine ⟨?_,?_⟩
  ·(simp [bH, *];((try simp only [aa] at*);omega))
  cbv
  refine bf (_,_) (by simp only [ht];rfl) (n-1) ?_ ((FN _ _ _).2 ?_)
  ·omega
  simp only [aa]
  exact ⟨k+1,aC (by omega),by omega,by rw [j4];simp [*]⟩
 simp [ht,aa,ar] at h4
 cbv
 refine an trivial trivial rfl rfl rfl ?_
 (rw [List.drop_eq_nil_of_le (by omega),List.map_nil,List.flatten_nil,List.append_nil] at j4;simp only [ht,j4];done)
end Dem
end
