/- Parts of a proof, joined. -/
import Derived.Test.YtihohjnkkalgiaaGreatDoorS05
import Derived.WalkSpells
import Derived.Lib.LazyBuf
import Derived.Deep.LoopGhost
import Derived.Defers
set_option linter.all false
set_option maxRecDepth 100000
set_option maxHeartbeats 4000000
section
open Go
namespace Dem
section
variable {P:Program} {T:Nat→Option TI} {G:Nat→Option (List D)} {N:Nat} {ds:List Deferred} {β:Nat→Nat} {bx:List aA} {w:World} {X:Nat→Prop}
structure Fr (G:Nat→Option (List D)) (N:Nat) (ds:List Deferred) (β:Nat→Nat) (w:World) (X:Nat→Prop) (s:St) (a:Act):Prop where
 cx:cP G β s.bx w X
 defers:a.defers=ds
 size:a.tmps.size=N
 yV:∀t,ak β s.bx w (bp β s.bx w X) (gH t s.sl) (a.tmps.getD t undef)
theorem Wl {n m:Nat} (h:n≠m):Nat.beq n m=false:=by
 cases hb:Nat.beq n m with
 |false=>rfl
 |true=>exact absurd (Nat.eq_of_beq_eq_true hb) h
theorem oE (t u:Nat) (v:AV):∀sl:List (Nat×AV),gH t (put u v sl)=if t=u then v else gH t sl
 |[]=>by
  simp only [put,gH]
  by_cases h:t=u
  ·simp [h]
  have:Nat.beq t u=false:=Wl h
  simp [this,h]
 |(k,x)::r=>by
  simp only [put]
  by_cases hk:u=k
  ·subst hk
   have hb:Nat.beq u u=true:=by simp
   simp only [hb,cond_true,gH]
   by_cases h:t=u
   ·simp [h]
   have:Nat.beq t u=false:=Wl h
   simp [this,h]
  have hb:Nat.beq u k=false:=Wl hk
  simp only [hb,cond_false,gH,oE t u v r]
  by_cases h:t=k
  ·subst h
   have:t≠u:=fun e=>hk e.symm
   simp [this]
  have:Nat.beq t k=false:=Wl h
  simp [this]
variable {s:St} {a:Act}
theorem Fr.eval (hF:Fr G N ds β w X s a) (x:Operand):ak β s.bx w (bp β s.bx w X) (ct G s.sl x) (a.eval x):=by
 cases x with
 |tmp t=>exact hF.yV t
 |const v=>exact zG v
 |global g=>
  simp only [ct]
  split
  ·rename_i ds hg
   obtain ⟨h1,h2⟩:=hF.cx.yH g ds hg
   simp only [ak];exact ⟨g,0,rfl,h1,h2⟩
  simp [ak]
 |func f=>simp only [ct,ak];exact ⟨[],rfl,by simp [an]⟩
theorem kj {ok:Nat→Prop} {x:AV} {v:Value} (h:ak β bx w ok x v) (hk:x.ok):ak β bx w ok x.aR v:=by
 cases x with
 |cond p y=>simp only [ak] at h;exact h.1 hk
 |_=>exact h
theorem dG {sl:List (Nat×AV)}:∀{xs:List Operand},dI (fX G sl xs)→∀x∈xs,(ct G sl x).ok
 |[],_,x,hx=>by simp at hx
 |y::ys,h,x,hx=>by
  simp only [fX,List.map_cons,dI] at h
  rcases List.mem_cons.1 hx with rfl|hx
  ·exact h.1
  exact dG h.2 x hx
theorem Fr.put (hF:Fr G N ds β w X s a) {β':Nat→Nat} {aU:List aA} {w':World} (ex:Ext β s.bx w β' aU w') (mO:cP G β' aU w' X) {dst:Option Nat} (hd:gZ N dst=true)
 {v:AV} {u:Value} (hv:ak β' aU w' (bp β' aU w' X) v u):Fr G N ds β' w' X ⟨eL dst v s.sl,aU⟩ (a.put dst u):=by
 cases dst with
 |none=>exact ⟨mO,hF.defers,hF.size,fun t=>ak.mono (ex.eX X) _ _ (hF.yV t)⟩
 |some d=>
  have UP:d<N:=by simpa [gZ,Nat.blt_eq] using hd
  refine ⟨mO,hF.defers,by simp [Act.put,hF.size],?_⟩
  intro t
  simp only [eL,oE,Act.put]
  by_cases h:t=d
  ·subst h
   simp [Array.getD,hF.size,UP,hv]
  rw [if_neg h]
  have:(a.tmps.setIfInBounds d u).getD t undef=a.tmps.getD t undef:=by
   simp [Array.getD_eq_getD_getElem?,Array.getElem?_setIfInBounds_ne (Ne.symm h)]
  rw [this]
  exact ak.mono (ex.eX X) _ _ (hF.yV t)
def zV (G:Nat→Option (List D)) (β:Nat→Nat) (bx:List aA) (w:World) (X:Nat→Prop) (a:Act) (dst:Option Nat) (K:AV→List aA→Prop) (next:Act→World→Prop):Prop:=
 ∀β' aU w' v u,Ext β bx w β' aU w'→cP G β' aU w' X→ak β' aU w' (bp β' aU w' X) v u→K v aU→next (a.put dst u) w'
def OL (G:Nat→Option (List D)) (β:Nat→Nat) (bx:List aA) (w:World) (X:Nat→Prop) (a:Act) (K:AV→List aA→Prop) (Qc:Exit→Act→World→Prop):Prop:=
 ∀β' aU w' v u,Ext β bx w β' aU w'→cP G β' aU w' X→ak β' aU w' (bp β' aU w' X) v u→K v aU→Qc (.panic [{v:=u,recovered:=false}]) a w'
theorem cX {o:Oper} {next:Act→World→Prop} {Qc:Exit→Act→World→Prop} {r:Result Next} {v:AV} {aU:List aA} {K:AV→List aA→Prop} (h:dH G β bx w X r v aU) (hK:K v aU)
 (hn:zV G β bx w X a o.dst K next):o.upon P a next Qc r:=by
 obtain ⟨β',w',ex,cx,⟨u,rfl,hv⟩|⟨rfl,rfl⟩⟩:=h
 ·exact hn β' aU w' v u ex cx hv hK
 exact hn β' aU w' .any undef ex cx (by simp [ak]) hK
theorem gK {o:Oper} {next:Act→World→Prop} {Qc:Exit→Act→World→Prop} {f:Nat} {vs:Array Value} {R:Ending→World→Prop} (h:jD P f vs w R)
 (hr:∀v w',R (.returned v) w'→next (a.put o.dst v) w') (hp:∀ch w',R (.panicked ch) w'→Qc (.panic ch) a w') (ho:∀w',R .outgrown w'→False):
 o.upon P a next Qc ((callFunc f vs).run P w):=by
 rcases h with ⟨h1,h2⟩|⟨v,w',h1,h2⟩
 ·rw [h1,Oper.upon_enter]
  refine Calls.mono h2 ?_
  intro e w' he
  cases e with
  |returned v=>exact hr v w' he
  |panicked ch=>exact hp ch w' he
  |outgrown=>exact (ho w' he).elim
 rw [h1];exact hr v w' h2
theorem kL {o:Oper} {f:Operand} {args:Array Operand} {ats:Array TypeId} (ho:o.op=.call {callee:=.value f,args:=args,argTypes:=ats}) {i:Nat} {fs cs:List Value} (hf:a.eval f=.func (.func i) ⟨fs⟩ ⟨cs⟩):
 (execOp a.eval o).run P w=(callFunc i ⟨fs++args.toList.map a.eval++cs⟩).run P w:=by
 have e:(⟨fs⟩:Array Value)++args.map a.eval++⟨cs⟩=(⟨fs++args.toList.map a.eval++cs⟩:Array Value):=by apply Array.ext';simp
 rw [←e]
 simp [execOp,ho,resolve,hf,Deferred.ofValue,invoke]
theorem xG (hT:kD P T) {o:Oper} {r:Operand} {nm:String} {args:Array Operand} {ats:Array TypeId} (ho:o.op=.call {callee:=.invoke r nm,args:=args,argTypes:=ats}) {t:Nat} {ti:TI} {f:Nat} {x:Value}
 (ht:T t=some ti) (hi:ti.inv=some (nm,f)) (hr:a.eval r=.iface t x):
 (execOp a.eval o).run P w=(callFunc f ⟨x::args.toList.map a.eval⟩).run P w:=by
 obtain ⟨i,d,h1,h2,h3,⟨mn,ms,mp,mf⟩,h4,h5,h6⟩:=Mi (hT.ti _ _ ht) hi
 simp only at h5 h6
 have hp:mp.isEmpty=true:=by rw [Array.isEmpty_iff];exact Array.ext' (by simpa using h5)
 have hm:(Go.method (P.types.size+99+1) t x nm).run P w=.ok (f,x) w:=by
  unfold Go.method
  simp only [Sem.run_bind,l5 h1,Result.andThen_ok,h4,h5,follow,h6,hp,if_true]
  cases d<;>first|exact absurd rfl (h3 _)|simp [receiverAt,aV h2,Place.get,Result.andThen_ok]
 have e:(⟨x::args.toList.map a.eval⟩:Array Value)=#[x]++args.map a.eval:=by apply Array.ext';simp
 rw [e]
 have e0:(#[Value.iface t x]++args.map a.eval)[0]?=some (Value.iface t x):=by rw [Array.getElem?_append_left (by simp)];rfl
 have e1:(#[Value.iface t x]++args.map a.eval).extract 1 (#[Value.iface t x]++args.map a.eval).size=args.map a.eval:=by apply Array.ext';simp [List.take_of_length_le]
 have e2:P.types.size+Made.depth=P.types.size+99+1:=rfl
 simp only [execOp,ho,resolve,hr,pure_bind,invoke,e0,e1,callMethod,Sem.run_bind,run_program,Result.andThen_ok,e2,hm]
theorem CE (hT:kD P T) {ok:Nat→Prop} {x:AV} {nm:String} {args as:List AV} {i:Nat} {v:Value} {vs:List Value} (h:Cq T x nm args=some (i,as)) (hx:ak β bx w ok x v) (hv:an β bx w ok args vs):
 ∃t ti u,T t=some ti∧ti.inv=some (nm,i)∧v=.iface t u∧an β bx w ok as (u::vs):=by
 unfold Cq at h
 split at h
 ·split at h
  ·rename_i ti ht
   split at h
   ·rename_i n j hi
    split at h
    ·rename_i hn
     simp only [osI,Prod.mk.injEq] at h
     obtain ⟨rfl,rfl⟩:=h
     subst hn
     simp only [ak] at hx
     obtain ⟨u,rfl,hu⟩:=hx
     exact ⟨_,ti,u,ht,hi,rfl,by simp only [an];exact ⟨_,_,rfl,hu,hv⟩⟩
    cases h
   cases h
  cases h
 cases h
theorem CF {f:Nat} {args:List AV} {vs:List Value} {K Kp:AV→List aA→Prop} (cx:cP G β bx w X) (hx:an β bx w (bp β bx w X) args vs)
 (h:KX (bF P G) f args bx K Kp):
 jD P f ⟨vs⟩ w fun e w'=>∃β' aU v u,Ext β bx w β' aU w'∧cP G β' aU w' X∧ak β' aU w' (bp β' aU w' X) v u∧
  ((e=.returned u∧K v aU)∨(e=.panicked [{v:=u,recovered:=false}]∧Kp v aU)):=by
 obtain ⟨args',pO,res,pP,hz,hf,hK⟩:=h
 obtain ⟨e1,c1,r1⟩:Ext β bx w β pO w∧cP G β pO w X∧an β pO w (bp β pO w X) args' vs:=by
  rcases hz with ⟨rfl,rfl⟩|⟨hz,rfl⟩
  ·exact ⟨Ext.refl _ _ _,cx,hx⟩
  exact lS args bx args' vs cx hz hx
 refine jD.mono (hf β w vs X c1 r1) ?_
 rintro e w' ⟨β',ex,mO,hr⟩
 cases e with
 |returned u=>
  cases res with
  |ret v=>exact ⟨β',pP,v,u,e1.trans ex,mO,hr,.inl ⟨rfl,hK⟩⟩
  |Mf v=>exact hr.elim
 |panicked ch=>
  cases res with
  |ret v=>exact hr.elim
  |Mf v=>
   obtain ⟨u,rfl,hu⟩:=hr
   exact ⟨β',pP,v,u,e1.trans ex,mO,hu,.inr ⟨rfl,hK⟩⟩
 |outgrown=>cases res<;>exact hr.elim
theorem mu {ok:Nat→Prop} {x:AV} {args as:List AV} {i:Nat} {v:Value} {vs:List Value} (h:lX x args=some (i,as)) (hx:ak β bx w ok x v) (hv:an β bx w ok args vs):
 ∃fs cs,v=.func (.func i) ⟨fs⟩ ⟨cs⟩∧an β bx w ok as (fs++vs++cs):=by
 unfold lX at h
 split at h
 ·simp only [osI,Prod.mk.injEq] at h
  obtain ⟨rfl,rfl⟩:=h
  simp only [ak] at hx
  obtain ⟨us,rfl,hc⟩:=hx
  simp only [an,ak] at hc
  obtain ⟨_,cs,rfl,⟨fs,rfl,hf⟩,hc⟩:=hc
  exact ⟨fs,cs,rfl,an.append (an.append hf hv) hc⟩
 ·rename_i jV _
  cases hp:j9 jV with
  |false=>simp [hp] at h
  |true=>
  simp only [hp,cond_true,osI,Prod.mk.injEq] at h
  obtain ⟨rfl,rfl⟩:=h
  simp only [ak] at hx
  obtain ⟨cs,rfl,hc⟩:=hx
  exact ⟨[],cs,xA hp hc _,an.append hv hc⟩
 ·simp only [osI,Prod.mk.injEq] at h
  obtain ⟨rfl,rfl⟩:=h
  simp only [ak,aL] at hx
  exact ⟨[],[],hx,by simpa using hv⟩
 cases h
theorem zW (hT:kD P T) (_cx:cP G β bx w X) {t:Nat} {x i:AV} {u z:Value} {c:Prop} {ds:List D} (hr:zx T t x i=some (c,ds)) (hc:c)
 (hx:ak β bx w (bp β bx w X) x u) (hi:ak β bx w (bp β bx w X) i z):
 ∃r,(Instr.indexAt t u z).run P w=.ok r w∧ak β bx w (bp β bx w X) (.ep ds) r:=by
 have fin:∀(e:Nat) (te:TI) (k:IntKind) (n:Int) (es:List (List D)) (base:Option Addr) (cap:Nat),P.underlying t=some (.slice e)→T e=some te→z=.int k n→u=.slice base es.length cap→
  (es=[]∨∃blk off sz,base=some ⟨blk,off,none⟩∧bp β bx w X blk∧ay w (bp β bx w X) blk sz es off)→
  (0≤n∧n<es.length∧(∀r∈es,r.length=te.size))→ds=es.getD n.toNat []→∃r,(Instr.indexAt t u z).run P w=.ok r w∧ak β bx w (bp β bx w X) (.ep ds) r:=by
  rintro e te k n es base cap hu hte rfl rfl aE ⟨h1,h2,h3⟩ rfl
  obtain ⟨ei,ed,g1,g2,g3,g4,g5,g6⟩:=aJ (hT.ti _ _ hte)
  rcases aE with rfl|⟨blk,off,sz,rfl,hb,hrows⟩
  ·simp at h2;omega
  have hn:n.toNat<es.length:=by omega
  obtain ⟨l1,l2⟩:=ay.get n.toNat es off hrows hn
  have hsz:te.size=sz:=by
   rw [←l1]
   have hm:es.getD n.toNat []∈es:=by
    simp only [List.getD_eq_getElem?_getD,List.getElem?_eq_getElem hn,Option.getD_some]
    exact List.getElem_mem hn
   exact (h3 _ hm).symm
  refine ⟨.pointer (some ⟨blk,off+n.toNat*sz,none⟩),?_,?_⟩
  ·simp [Instr.indexAt,asIntOf,aV hu,h1,h2,bX g1,fM,←g3,hsz]
  simp only [ak];exact ⟨blk,_,rfl,hb,l2⟩
 unfold zx at hr
 cases ht:T t with
 |none=>simp [ht] at hr
 |some ti=>
 obtain ⟨ii,d,h1,h2,h3,h4,h5,h6⟩:=aJ (hT.ti _ _ ht)
 simp only [ht,h5] at hr
 split at hr
 ·rename_i e es k n hk
  cases d<;>simp [cY] at hk
  subst hk
  split at hr
  ·rename_i te hte
   simp only [osI,Prod.mk.injEq] at hr
   obtain ⟨rfl,rfl⟩:=hr
   simp only [ak,aL] at hx hi
   obtain ⟨base,cap,e1,_,e2⟩:=hx
   exact fin _ te k n es base cap h2 hte hi e1 e2 hc rfl
  simp at hr
 ·rename_i e es k n hk
  cases d<;>simp [cY] at hk
  subst hk
  split at hr
  ·rename_i te hte
   simp only [osI,Prod.mk.injEq] at hr
   obtain ⟨rfl,rfl⟩:=hr
   simp only [ak,aL] at hx hi
   obtain ⟨base,e1,e2⟩:=hx
   exact fin _ te k n es base _ h2 hte hi e1 e2 hc rfl
  simp at hr
 simp at hr
theorem zX {ok:Nat→Prop} {p:Bool} {x y:AV} {u v:Value} (hx:p=true→ak β bx w ok x u) (hy:p=false→ak β bx w ok y v):ak β bx w ok (zq p x y) (if p then u else v):=by
 unfold zq
 split
 ·cases p
  ·simpa [ak,aL] using hy rfl
  simpa [ak,aL] using hx rfl
 ·cases p
  ·simpa [ak,aL] using hy rfl
  simp [ak]
 simp [ak]
theorem CG {b:Nat} {str:List UInt8} {pos pos':Nat} (hb:bx[b]?=some (.it str pos)) (hh:w.heap[β b]?=some (.stringIter ⟨str.toArray⟩ pos)):
 Ext β bx w β (bx.set b (.it str pos')) {w with heap:=w.heap.setIfInBounds (β b) (.stringIter ⟨str.toArray⟩ pos')}:=by
 have hlt:=fh hh
 refine ⟨rfl,rfl,rfl,by simp,?_,?_,fun i hi=>⟨rfl,iE rfl hi⟩,?_⟩
 ·intro k hk hl
  have hne:β b≠k:=hl b _ hb rfl
  simp [Array.getElem?_setIfInBounds_ne hne]
 ·intro k c e f hk
  have hne:β b≠k:=by rintro rfl;rw [hh] at hk;cases hk
  exact ⟨c,by simp [Array.getElem?_setIfInBounds_ne hne,hk],rfl⟩
 intro i B hi hl
 rcases aP hi with ⟨rfl,_,_⟩|⟨_,h⟩
 ·exact .inr ⟨i,_,hb,rfl,rfl⟩
 exact .inr ⟨i,B,h,hl,rfl⟩
theorem Mr (cx:cP G β bx w X) {b:Nat} {str:List UInt8} {pos pos':Nat} (hb:bx[b]?=some (.it str pos)) (hh:w.heap[β b]?=some (.stringIter ⟨str.toArray⟩ pos)):
 cP G β (bx.set b (.it str pos')) {w with heap:=w.heap.setIfInBounds (β b) (.stringIter ⟨str.toArray⟩ pos')} X:=by
 refine cx.step (CG hb hh) ?_ ?_
 ·intro i B hi
  rcases aP hi with ⟨rfl,rfl,_⟩|⟨hne,h⟩
  ·refine .inr ?_
   simp only [dz]
   simp [fh hh]
  refine .inl ⟨h,fun hl=>?_⟩
  have Ow:β b≠β i:=fun he=>hne (cx.inj b i _ B hb h rfl hl he).symm
  simp [Array.getElem?_setIfInBounds_ne Ow]
 intro i j bi bj hi hj mP oD he
 rcases aP hi with ⟨rfl,rfl,_⟩|⟨h1,h2⟩<;>rcases aP hj with ⟨rfl,rfl,_⟩|⟨h3,h4⟩
 ·rfl
 ·exact cx.inj _ _ _ _ hb h4 rfl oD he
 ·exact cx.inj _ _ _ _ h2 hb mP rfl he
 exact cx.inj _ _ _ _ h2 h4 mP oD he
theorem FU {ok:Nat→Prop} {x:AV} {Is:Prop} {u:Value} (h:Mg x=some Is) (hx:ak β bx w ok x u):∃a n c,u=.slice a n c∧(a.isNone=true→Is):=by
 unfold Mg at h
 split at h
 ·simp only [osI] at h;subst h
  simp only [ak,aL] at hx
  obtain ⟨base,cap,rfl,_,h3⟩:=hx
  refine ⟨_,_,_,rfl,fun hb=>?_⟩
  rcases h3 with h3|⟨_,_,_,rfl,_⟩
  ·exact h3
  simp at hb
 ·simp only [osI] at h;subst h
  simp only [ak] at hx
  obtain ⟨base,rfl,h3⟩:=hx
  refine ⟨_,_,_,rfl,fun hb=>?_⟩
  rcases h3 with h3|⟨_,_,_,rfl,_⟩
  ·exact h3
  simp at hb
 ·simp only [osI] at h;subst h
  simp only [ak] at hx
  obtain ⟨_,⟨h1,base,rfl⟩|⟨h1,cap,c,e,f,rfl,_⟩⟩:=hx
  ·exact ⟨_,_,_,rfl,fun _=>h1⟩
  exact ⟨_,_,_,rfl,fun hb=>by simp at hb⟩
 simp at h
theorem IS (t e:TypeId) (a:Option Addr) (n c:Nat) (h:P.underlying t=some (.slice e)):(Go.binOp .eql t (.slice a n c) (.slice none 0 0)).run P w=.ok (.bool a.isNone) w:=by
 simp only [Go.binOp]
 simp [Op.equal,Op.maxDepth,Lib.run_equalIn_slice_nil w 9999 t e a n c 0 0 h]
theorem IT (t e:TypeId) (a:Option Addr) (n c:Nat) (h:P.underlying t=some (.slice e)):(Go.binOp .neq t (.slice a n c) (.slice none 0 0)).run P w=.ok (.bool (!a.isNone)) w:=by
 simp only [Go.binOp]
 simp [Op.equal,Op.maxDepth,Lib.run_equalIn_slice_nil w 9999 t e a n c 0 0 h]
theorem m0 (hT:kD P T) (hF:Fr G N ds β w X s a) {o:Oper} {K:AV→List aA→Prop} {Q:Ex→St→Prop} {next:Act→World→Prop} {Qc:Exit→Act→World→Prop}
 (h:pQ (bF P G) T G o s K Q) (hn:zV G β s.bx w X a o.dst K next) (hp:OL G β s.bx w X a (fun v bx=>Q (.panic v) ⟨[],bx⟩) Qc):o.wp P a w next Qc:=by
 have iG:∀x,(ct G s.sl x).ok→ak β s.bx w (bp β s.bx w X) (ct G s.sl x).aR (a.eval x):=fun x hx=>kj (hF.eval x) hx
 unfold pQ at h
 unfold Oper.wp
 split at h
 ·
  rename_i c x y ho
  split at h
  ·rename_i p hc
   obtain ⟨⟨h1,h2,h3⟩,hK⟩:=h
   have vS:=iG c h1
   rw [hc] at vS;simp only [ak,aL] at vS
   refine cX (v:=_) (aU:=s.bx) (dH.pure (u:=if p then a.eval x else a.eval y) hF.cx ?_ (zX (fun hp=>iG x (h2 hp)) (fun hp=>iG y (h3 hp)))) hK hn
   simp [execOp,ho,vS,asBool]
  exact h.elim
 ·
  rename_i f args ats ho
  split at h
  ·rename_i i as FV
   obtain ⟨⟨h1,h2⟩,h⟩:=h
   obtain ⟨fs,cs,e1,e2⟩:=mu FV (iG f h1) (iA args.toList (fun y hy=>iG y (dG h2 y hy)))
   rw [kL ho e1]
   rcases h with h|h
   ·refine gK (IM hF.cx e2 h) ?_ ?_ ?_
    ·rintro v w' ⟨β',aU,v',u,e,ex,cx,hv,hK⟩
     cases e
     exact hn β' aU w' v' v ex cx hv hK
    ·rintro ch w' ⟨_,_,_,_,e,_⟩;cases e
    rintro w' ⟨_,_,_,_,e,_⟩;cases e
   refine gK (CF hF.cx e2 h) ?_ ?_ ?_
   ·rintro v w' ⟨β',aU,v',u,ex,cx,hv,⟨e,hK⟩|⟨e,_⟩⟩
    ·cases e;exact hn β' aU w' v' v ex cx hv hK
    cases e
   ·rintro ch w' ⟨β',aU,v',u,ex,cx,hv,⟨e,_⟩|⟨e,hK⟩⟩
    ·cases e
    cases e;exact hp β' aU w' v' u ex cx hv hK
   rintro w' ⟨_,_,_,_,_,_,_,⟨e,_⟩|⟨e,_⟩⟩<;>cases e
  exact h.elim
 ·
  rename_i x ho
  split at h
  ·rename_i t v hx
   obtain ⟨h1,h2⟩:=h
   have hx':=iG x h1
   rw [hx] at hx'
   have N5:=hx'
   simp only [ak] at N5
   obtain ⟨u,e,_⟩:=N5
   have hr:(execOp a.eval o).run P w=.halt (.panic (a.eval x)) w:=by
    simp [execOp,ho,e,Instr.panic,goPanic,Sem.run]
   rw [hr,Oper.upon_panic]
   exact hp β s.bx w _ _ (Ext.refl _ _ _) hF.cx hx' h2
  exact h.elim
 ·
  rename_i t x ho
  cases ht:T t with
  |none=>simp [ht] at h
  |some ti=>
  obtain ⟨i,d,h1,h2,h3,h4,h5,h6⟩:=aJ (hT.ti _ _ ht)
  simp only [ht,h5] at h
  split at h
  ·rename_i str hk hx
   obtain ⟨k1,k2⟩:=h
   cases d<;>simp [cY] at hk
   have hx':=iG x k1
   rw [hx] at hx';simp only [ak,aL] at hx'
   refine cX (v:=.ptr s.bx.length 0) (aU:=s.bx++[.it str 0]) ⟨lg β s.bx.length w.heap.size,{w with heap:=w.heap.push (.stringIter ⟨str.toArray⟩ 0)},fZ _ _,kK hF.cx (.stringIter ⟨str.toArray⟩ 0) (.it str 0) (by simp only [dz];exact jv _ _),.inl ⟨.pointer (some ⟨w.heap.size,0,none⟩),?_,?_⟩⟩ k2 hn
   ·simp only [execOp,ho]
    exact bR _ (by rw [hx'];simp [Instr.range,aV h2,newObj,Sem.run])
   simp only [ak,bu];exact ⟨trv,.it str 0,by simp,rfl⟩
  exact h.elim
 ·rename_i it ho
  split at h
  ·rename_i b hx
   split at h
   ·rename_i str pos hb
    obtain ⟨k1,⟨k2,k3⟩⟩:=h
    have hx':=iG it k1
    rw [hx] at hx';simp only [ak] at hx'
    obtain ⟨hx',_⟩:=hx'
    have FW:=hF.cx.box b _ hb
    simp only [dz] at FW
    have hsz:(⟨str.toArray⟩:ByteArray).size=str.length:=by show str.toArray.size=_;simp
    by_cases hp:pos<str.length
    ·refine cX (v:=_) (aU:=_) ⟨β,{w with heap:=w.heap.setIfInBounds (β b) (.stringIter ⟨str.toArray⟩ (pos+(Utf8.decode ⟨str.toArray⟩ pos).2))},?_,?_,.inl ⟨.tuple #[.bool true,.int .i64 pos,.int .i32 (Utf8.decode ⟨str.toArray⟩ pos).1],?_,?_⟩⟩ (k2 hp) hn
     ·exact CG hb FW
     ·exact Mr hF.cx hb FW
     ·simp only [execOp,ho]
      exact bR _ (by rw [hx'];simp [Instr.next,getObj,setObj,Sem.run,FW,hsz,hp,goInt])
     simp only [ak,an,aL];exact ⟨_,rfl,_,_,rfl,rfl,_,_,rfl,rfl,_,_,rfl,rfl,rfl⟩
    refine cX (v:=_) (aU:=s.bx) (dH.pure (u:=.tuple #[.bool false]) hF.cx ?_ ?_) (k3 hp) hn
    ·simp only [execOp,ho]
     exact bR _ (by rw [hx'];simp [Instr.next,getObj,Sem.run,FW,hsz,hp])
    simp only [ak,an,aL];exact ⟨_,rfl,_,_,rfl,rfl,rfl⟩
   exact h.elim
  exact h.elim
 ·
  rename_i ty x t2 ho
  split at h
  ·rename_i ti Is ht he
   split at h
   ·rename_i e hk
    obtain ⟨i,d,h1,h2,h3,h4,h5,h6⟩:=aJ (hT.ti _ _ ht)
    obtain ⟨k1,⟨k2⟩⟩:=h
    rw [h5] at hk;cases d<;>simp [cY] at hk
    obtain ⟨a',n,c,hu,DW⟩:=FU he (iG x k1)
    refine cX (v:=.d (.bool a'.isNone)) (aU:=s.bx) (dH.pure (u:=.bool a'.isNone) hF.cx ?_ (by simp only [ak,aL])) (k2 _ DW) hn
    simp only [execOp,ho]
    exact bR _ (by simp [hu,eqGuard,show a.eval (Operand.const (Value.slice none 0 0))=Value.slice none 0 0 from rfl,IS (w:=w) _ _ _ _ _ h2])
   exact h.elim
  exact h.elim
 ·rename_i ty x t2 ho
  split at h
  ·rename_i ti Is ht he
   split at h
   ·rename_i e hk
    obtain ⟨i,d,h1,h2,h3,h4,h5,h6⟩:=aJ (hT.ti _ _ ht)
    obtain ⟨k1,⟨k2⟩⟩:=h
    rw [h5] at hk;cases d<;>simp [cY] at hk
    obtain ⟨a',n,c,hu,DW⟩:=FU he (iG x k1)
    refine cX (v:=.d (.bool (!a'.isNone))) (aU:=s.bx) (dH.pure (u:=.bool (!a'.isNone)) hF.cx ?_ (by simp only [ak,aL])) (k2 _ DW) hn
    simp only [execOp,ho]
    exact bR _ (by simp [hu,eqGuard,show a.eval (Operand.const (Value.slice none 0 0))=Value.slice none 0 0 from rfl,IT (w:=w) _ _ _ _ _ h2])
   exact h.elim
  exact h.elim
 ·
  rename_i ty ho
  split at h
  ·rename_i ti ht
   split at h
   ·rename_i mk me hk
    split at h
    ·rename_i te hte
     refine cX (v:=.BJ s.bx.length) (aU:=s.bx++[.mp te.kd.isAgg []]) ⟨lg β s.bx.length w.heap.size,{w with heap:=w.heap.push (.map #[] 0)},fZ _ _,kK hF.cx (.map #[] 0) (.mp te.kd.isAgg []) ⟨#[],0,jv _ _,⟨by simp,by simp⟩,by simp [bt]⟩,.inl ⟨.map (some w.heap.size),?_,?_⟩⟩ h hn
     ·simp only [execOp,ho]
      exact bR _ (by simp [Instr.makeMap,newObj,Sem.run])
     simp only [ak,bu];exact ⟨trv,.mp te.kd.isAgg [],by simp,rfl⟩
    exact h.elim
   exact h.elim
  exact h.elim
 ·
  rename_i ty m k BN ho
  split at h
  ·rename_i tk te ag es kd hm hk
   obtain ⟨o',hg,hK⟩:=h
   obtain ⟨⟨⟨k1,k2⟩,hf⟩,rfl⟩:=hg rfl
   have hkv:=iG k k2
   rw [hk] at hkv;simp only [ak] at hkv
   obtain ⟨v,x,g1,g2,g3⟩:=IN hT hF.cx hm (iG m k1) hkv hf hK
   refine cX (v:=v) (aU:=s.bx) (dH.pure (u:=x) hF.cx ?_ g2) g3 hn
   simp only [execOp,ho]
   exact bR _ g1
  exact h.elim
 ·
  rename_i ty m k x ho
  split at h
  ·rename_i b tk te ag es kd vs hm hk hc
   split at h
   ·rename_i dsv BU WT
    obtain ⟨⟨⟨k1,k2,k3⟩,hf,_,ha⟩,hK⟩:=h
    have hkv:=iG k k2
    rw [hk] at hkv;simp only [ak] at hkv
    obtain ⟨w',g1,g2,g3⟩:=FT hT hF.cx hm (iG m k1) hkv (iG x k3) hc BU WT hf ha
    refine cX (v:=.any) (aU:=_) ⟨β,w',g2,g3,.inr ⟨?_,rfl⟩⟩ hK hn
    simp only [execOp,ho]
    simp [g1]
   exact h.elim
  exact h.elim
 rename_i op e1 e2 e3 e4 e5 e6 e7 e8 e9 e10
 split at h
 ·rename_i c ds hi
  obtain ⟨ds',hg,hK⟩:=h
  obtain ⟨⟨hk,hc⟩,rfl⟩:=hg rfl
  split at hi
  ·rename_i t x i ho
   have ex:=dG hk
   rw [ho] at ex
   obtain ⟨r,k1,k2⟩:=zW (P:=P) (w:=w) hT hF.cx hi hc (iG x (ex x (by simp [Op.operands]))) (iG i (ex i (by simp [Op.operands])))
   refine cX (v:=_) (aU:=s.bx) (dH.pure hF.cx ?_ k2) hK hn
   simp only [execOp,ho]
   exact bR _ k1
  simp at hi
 split at h
 ·rename_i c v b hr
  obtain ⟨⟨h1,hc⟩,hK⟩:=h
  exact cX (zR (P:=P) hT hF.cx (ρ:=a.eval) (fun x hx=>iG x (dG h1 x hx)) hr hc) hK hn
 exact h.elim
theorem xH (hT:kD P T) (hF:Fr G N ds β w X s a) {o:Oper} {K:AV→Prop} {next:Act→World→Prop} {Qc:Exit→Act→World→Prop}
 (h:stepG (bF P G) T G true o s K) (hn:zV G β s.bx w X a o.dst (fun v bx=>K v∧bx=s.bx) next):o.wp P a w next Qc:=by
 have iG:∀x,(ct G s.sl x).ok→ak β s.bx w (bp β s.bx w X) (ct G s.sl x).aR (a.eval x):=fun x hx=>kj (hF.eval x) hx
 have h:=h.resolve_left (fun hh=>by simp at hh)
 rcases h with h|⟨c,es,hr,hg,hK⟩
 rotate_left
 ·obtain ⟨h1,hc⟩:=hg rfl
  unfold Oper.wp
  exact cX (CD (P:=P) hT hF.cx (ρ:=a.eval) (fun x hx=>iG x (dG h1 x hx)) hr hc) ⟨hK,rfl⟩ hn
 unfold vX at h
 unfold Oper.wp
 split at h
 ·
  rename_i c x y ho
  split at h
  ·rename_i p hc
   obtain ⟨hg,hK⟩:=h
   obtain ⟨h1,h2,h3⟩:=hg rfl
   have vS:=iG c h1
   rw [hc] at vS;simp only [ak,aL] at vS
   refine cX (v:=_) (aU:=s.bx) (dH.pure (u:=if p then a.eval x else a.eval y) hF.cx ?_ (zX (fun hp=>iG x (h2 hp)) (fun hp=>iG y (h3 hp)))) ⟨hK,rfl⟩ hn
   simp [execOp,ho,vS,asBool]
  exact h.elim
 ·
  rename_i f args ats ho
  split at h
  ·rename_i i as FV
   obtain ⟨v,hg,hK⟩:=h
   obtain ⟨⟨h1,h2⟩,hq⟩:=hg rfl
   obtain ⟨fs,cs,e1,e2⟩:=mu FV (iG f h1) (iA args.toList (fun y hy=>iG y (dG h2 y hy)))
   rw [kL ho e1]
   refine gK (lC (K:=fun v bx=>K v∧bx=s.bx) hF.cx e2 hq ⟨hK,rfl⟩) ?_ ?_ ?_
   ·rintro v w' ⟨β',aU,v',u,e,ex,cx,hv,hK⟩
    cases e
    exact hn β' aU w' v' v ex cx hv hK
   ·rintro ch w' ⟨_,_,_,_,e,_⟩;cases e
   rintro w' ⟨_,_,_,_,e,_⟩;cases e
  exact h.elim
 ·
  rename_i f nm args ats ho
  split at h
  ·rename_i i as FV
   obtain ⟨v,hg,hK⟩:=h
   obtain ⟨⟨h1,h2⟩,hq⟩:=hg rfl
   obtain ⟨t,ti,u,k1,k2,k3,e2⟩:=CE hT FV (iG f h1) (iA args.toList (fun y hy=>iG y (dG h2 y hy)))
   rw [xG hT ho k1 k2 k3]
   refine gK (lC (K:=fun v bx=>K v∧bx=s.bx) hF.cx e2 hq ⟨hK,rfl⟩) ?_ ?_ ?_
   ·rintro v w' ⟨β',aU,v',u,e,ex,cx,hv,hK⟩
    cases e
    exact hn β' aU w' v' v ex cx hv hK
   ·rintro ch w' ⟨_,_,_,_,e,_⟩;cases e
   rintro w' ⟨_,_,_,_,e,_⟩;cases e
  exact h.elim
 rename_i op e1 e2 e3
 split at h
 ·rename_i c ds hi
  obtain ⟨ds',hg,hK⟩:=h
  obtain ⟨⟨hk,hc⟩,rfl⟩:=hg rfl
  split at hi
  ·rename_i t x i ho
   have ex:=dG hk
   rw [ho] at ex
   obtain ⟨r,k1,k2⟩:=zW (P:=P) (w:=w) hT hF.cx hi hc (iG x (ex x (by simp [Op.operands]))) (iG i (ex i (by simp [Op.operands])))
   refine cX (v:=_) (aU:=s.bx) (dH.pure hF.cx ?_ k2) ⟨hK,rfl⟩ hn
   simp only [execOp,ho]
   exact bR _ k1
  simp at hi
 split at h
 ·rename_i c v hr
  obtain ⟨hg,hK⟩:=h
  obtain ⟨h1,hc⟩:=hg rfl
  exact cX (zR (P:=P) hT hF.cx (ρ:=a.eval) (fun x hx=>iG x (dG h1 x hx)) hr hc) ⟨hK,rfl⟩ hn
 exact h.elim
theorem zY {o:Oper} {K:AV→Prop} (h:stepG (bF P G) T G false o s K):∃v,K v:=by
 rcases h with ⟨_,h⟩|h|⟨_,_,_,_,hK⟩
 ·exact h
 rotate_left
 ·exact ⟨_,hK⟩
 unfold vX at h
 split at h
 ·split at h
  ·exact ⟨_,h.2⟩
  exact h.elim
 ·split at h
  ·obtain ⟨v,_,hK⟩:=h;exact ⟨v,hK⟩
  exact h.elim
 ·split at h
  ·obtain ⟨v,_,hK⟩:=h;exact ⟨v,hK⟩
  exact h.elim
 split at h
 ·obtain ⟨ds,_,hK⟩:=h;exact ⟨_,hK⟩
 split at h
 ·exact ⟨_,h.2⟩
 exact h.elim
theorem lD (hF:Fr G N ds β w X s a) {ops:Array Oper} {j:Nat} {want g:Bool} (h:guardOf s.sl ops.toList j want=some g):(yielded ops a.tmps j==some want)=g:=by
 unfold guardOf at h
 have hj:ops.toList[j]?=ops[j]?:=by simp
 rw [hj] at h
 split at h
 ·rename_i o ho
  split at h
  ·rename_i t hd
   have hr:=hF.yV t
   have hy:∀v:Value,a.tmps.getD t undef=v→v≠undef→a.tmps[t]?=some v:=by
    intro v hv hu
    rw [Array.getD_eq_getD_getElem?] at hv
    cases hq:a.tmps[t]? with
    |none=>rw [hq] at hv;simp at hv;exact absurd hv.symm hu
    |some u=>rw [hq] at hv;simp at hv;rw [hv]
   unfold yielded
   rw [ho]
   simp only [Option.bind_some,hd]
   split at h
   ·rename_i q hq
    rw [hq] at hr;simp only [ak,aL] at hr
    simp only [osI] at h;subst h
    rw [hy _ hr (by simp [undef])]
    cases q<;>cases want<;>rfl
   ·rename_i p q hq
    rw [hq] at hr;simp only [ak,aL] at hr
    simp only [osI] at h;subst h
    cases p with
    |true=>
     rw [hy _ (hr.1 rfl) (by simp [undef])]
     cases q<;>cases want<;>rfl
    |false=>
     have hu:=hr.2 rfl
     cases hq2:a.tmps[t]? with
     |none=>simp
     |some u=>
      have:u=undef:=by rw [Array.getD_eq_getD_getElem?,hq2] at hu;simpa using hu
      subst this
      simp [undef]
   simp at h
  simp at h
 simp at h
end
end Dem
end
section
open Go
namespace Dem
section
variable {P:Program} {T:Nat→Option TI} {G:Nat→Option (List D)} {N:Nat} {ds:List Deferred} {X:Nat→Prop}
def gE (G:Nat→Option (List D)) (N:Nat) (ds:List Deferred) (X:Nat→Prop) (β0:Nat→Nat) (aQ:List aA) (w0:World) (Q:Ex→St→Prop):Exit→Act→World→Prop
 |.normal,a,w=>∃β s,Ext β0 aQ w0 β s.bx w∧Fr G N ds β w X s a∧Q .normal s
 |.exit id,a,w=>∃β s,Ext β0 aQ w0 β s.bx w∧Fr G N ds β w X s a∧Q (.exit id) s
 |.ret,a,w=>∃β s,Ext β0 aQ w0 β s.bx w∧Fr G N ds β w X s a∧Q .ret s
 |.panic ch,a,w=>∃β bx v u,ch=[{v:=u,recovered:=false}]∧Ext β0 aQ w0 β bx w∧cP G β bx w X∧ak β bx w (bp β bx w X) v u∧a.defers=ds∧Q (.panic v) ⟨[],bx⟩
 |_,_,_=>False
variable {β0:Nat→Nat} {aQ:List aA} {w0:World}
theorem gE.imp {Q Q':Ex→St→Prop} {e:Exit} {a:Act} {w:World} (h:∀e s,Q e s→Q' e s) (hl:gE G N ds X β0 aQ w0 Q e a w):gE G N ds X β0 aQ w0 Q' e a w:=by
 cases e<;>simp only [gE] at hl ⊢
 ·obtain ⟨β,s,h1,h2,h3⟩:=hl;exact ⟨β,s,h1,h2,h _ _ h3⟩
 ·obtain ⟨β,s,h1,h2,h3⟩:=hl;exact ⟨β,s,h1,h2,h _ _ h3⟩
 ·obtain ⟨β,s,h1,h2,h3⟩:=hl;exact ⟨β,s,h1,h2,h _ _ h3⟩
 obtain ⟨β,bx,v,u,h1,h2,h3,h4,h5,h6⟩:=hl;exact ⟨β,bx,v,u,h1,h2,h3,h4,h5,h _ _ h6⟩
theorem D3 {β:Nat→Nat} {w:World} {s:St} {a:Act} (hF:Fr G N ds β w X s a) {o:Oper} {K:AV→Prop} {next:Act→World→Prop} {Qc:Exit→Act→World→Prop}
 (h:sS (bF P G) G true o s K) (hn:zV G β s.bx w X a o.dst (fun v bx=>K v∧bx=s.bx) next):o.wp P a w next Qc:=by
 have iG:∀x,(ct G s.sl x).ok→ak β s.bx w (bp β s.bx w X) (ct G s.sl x).aR (a.eval x):=fun x hx=>kj (hF.eval x) hx
 unfold sS at h
 unfold Oper.wp
 split at h
 ·rename_i f args ats ho
  split at h
  ·rename_i i as FV
   obtain ⟨v,hg,hK⟩:=h
   obtain ⟨⟨h1,h2⟩,hc⟩:=hg rfl
   obtain ⟨fs,cs,e1,e2⟩:=mu FV (iG f h1) (iA args.toList (fun y hy=>iG y (dG h2 y hy)))
   rw [kL ho e1]
   refine gK (CF (K:=fun v bx=>K v∧bx=s.bx) (Kp:=fun _ _=>False) hF.cx e2 ⟨⟨as,s.bx,.ret v,s.bx,.inl ⟨rfl,rfl⟩,hc,hK,rfl⟩⟩) ?_ ?_ ?_
   ·rintro v w' ⟨β',aU,v',u,ex,cx,hv,⟨e,hK⟩|⟨e,_⟩⟩
    ·cases e;exact hn β' aU w' v' v ex cx hv hK
    cases e
   ·rintro ch w' ⟨β',aU,v',u,ex,cx,hv,⟨e,_⟩|⟨e,hK⟩⟩
    ·cases e
    exact hK.elim
   rintro w' ⟨_,_,_,_,_,_,_,⟨e,_⟩|⟨e,_⟩⟩<;>cases e
  exact h.elim
 exact h.elim
theorem FX {FC:Nat→List AV→List aA→jR→List aA→Prop} {g:Bool} {o:Oper} {s:St} {K:AV→Prop} (h:sS FC G g o s K):∃v,K v:=by
 unfold sS at h
 split at h
 ·split at h
  ·obtain ⟨v,_,hK⟩:=h;exact ⟨v,hK⟩
  exact h.elim
 exact h.elim
theorem mw (hT:kD P T) {ops:Array Oper} {Q:Ex→St→Prop}:∀(l:List Oper) (β:Nat→Nat) (w:World) (s:St) (a:Act),Ext β0 aQ w0 β s.bx w→Fr G N ds β w X s a→
 Fk (bF P G) T G N ops.toList l Q s→wpList P ops (gE G N ds X β0 aQ w0 Q) l a w
 |[],β,w,s,a,ex,hF,h=>⟨β,s,ex,hF,h⟩
 |o::l,β,w,s,a,ex,hF,h=>by
  unfold Fk at h
  cases hd:gZ N o.dst with
  |false=>simp [hd] at h
  |true=>
  simp only [hd,cond_true] at h
  refine wpList_step fun KK YK=>?_
  split at h
  ·rename_i hg
   rw [if_pos (by simp [Region.wanted,hg])]
   refine m0 hT hF h ?_ ?_
   ·intro β' aU w' v u sD mO hv hK
    exact YK _ _ (mw hT l β' w' ⟨eL o.dst v s.sl,aU⟩ _ (ex.trans sD) (hF.put sD mO hd hv) hK)
   intro β' aU w' v u sD mO hv hK
   exact ⟨β',aU,v,u,rfl,ex.trans sD,mO,hv,hF.defers,hK⟩
  rename_i j want hg
  split at h
  ·rename_i g Iu
   have hy:=lD hF Iu
   cases g with
   |true=>
    rw [if_pos (by simp only [Region.wanted,hg];exact hy)]
    rcases h with h|h
    case inr=>
     refine D3 hF h ?_
     rintro β' aU w' v u sD mO hv ⟨hK,rfl⟩
     refine YK _ _ (mw hT l β' w' ⟨eL o.dst (.cond true v) s.sl,s.bx⟩ _ (ex.trans sD) (hF.put sD mO hd ?_) hK)
     simp only [ak];exact ⟨fun _=>hv,by simp⟩
    refine xH hT hF h ?_
    rintro β' aU w' v u sD mO hv ⟨hK,rfl⟩
    refine YK _ _ (mw hT l β' w' ⟨eL o.dst (.cond true v) s.sl,s.bx⟩ _ (ex.trans sD) (hF.put sD mO hd ?_) hK)
    simp only [ak];exact ⟨fun _=>hv,by simp⟩
   |false=>
    rw [if_neg (by simp only [Region.wanted,hg];rw [hy];simp)]
    obtain ⟨v,hK⟩:∃v,Fk (bF P G) T G N ops.toList l Q ⟨eL o.dst (.cond false v) s.sl,s.bx⟩:=by
     rcases h with h|h
     ·exact zY h
     exact FX h
    refine YK _ _ (mw hT l β w ⟨eL o.dst (.cond false v) s.sl,s.bx⟩ _ ex (hF.put (Ext.refl _ _ _) hF.cx hd ?_) hK)
    simp only [ak];simp
  exact h.elim
def p8 (P:Program) (T:Nat→Option TI) (G:Nat→Option (List D)):Prop:=
 ∀(N:Nat) (ds:List Deferred) (X:Nat→Prop) (β0:Nat→Nat) (aQ:List aA) (w0:World) (id:Nat) (ops:Array Oper) (Q:Ex→St→Prop) (β:Nat→Nat) (w:World) (s:St) (a:Act),
  Ext β0 aQ w0 β s.bx w→Fr G N ds β w X s a→Of (bF P G) T G N ops.toList Q s→(Code.region id ops true).wp P (gE G N ds X β0 aQ w0 Q) a w
end
end Dem
end
section
open Go
namespace Dem
section
variable {P:Program} {T:Nat→Option TI} {G:Nat→Option (List D)} {β:Nat→Nat} {bx:List aA} {w:World} {X:Nat→Prop}
theorem fj {n i:Nat} {b:aA} (h:(bx.take n)[i]?=some b):bx[i]?=some b∧i<n:=by
 rw [List.getElem?_take] at h
 split at h
 ·exact ⟨h,by assumption⟩
 simp at h
theorem FY (n:Nat) (blk:Nat) (h:bp β bx w X blk):bp β (bx.take n) w X blk:=
 ⟨h.1,h.2.1,fun i b hb hl=>h.2.2 i b (fj hb).1 hl⟩
mutual
theorem oF {n:Nat} {ok ok':Nat→Prop} (h:∀blk,ok blk→ok' blk):∀(x:AV) (v:Value),x.within n=true→ak β bx w ok x v→ak β (bx.take n) w ok' x v
 |.any,_,_,_=>by simp [ak]
 |.d x,v,_,hv=>by simp only [ak] at hv ⊢;exact aL.mono (fun blk hb=>⟨h blk hb,rfl⟩) _ _ hv
 |.k c,v,_,hv=>by simpa [ak] using hv
 |.agg cs,v,hs,hv=>by
  simp only [ak] at hv ⊢;obtain ⟨vs,h1,h2⟩:=hv
  exact ⟨vs,h1,iO h cs vs (by simpa [AV.within] using hs) h2⟩
 |.eA cs,v,hs,hv=>by
  simp only [ak] at hv ⊢;obtain ⟨vs,h1,h2⟩:=hv
  exact ⟨vs,h1,iO h cs vs (by simpa [AV.within] using hs) h2⟩
 |.ptr b off,v,hs,hv=>by
  simp only [ak] at hv ⊢
  have hb:b<n:=by simpa [AV.within,Nat.blt_eq] using hs
  obtain ⟨h1,B,h2,h3⟩:=hv
  exact ⟨h1,B,by rw [List.getElem?_take,if_pos hb];exact h2,h3⟩
 |.BJ b,v,hs,hv=>by
  simp only [ak] at hv ⊢
  have hb:b<n:=by simpa [AV.within,Nat.blt_eq] using hs
  obtain ⟨h1,B,h2,h3⟩:=hv
  exact ⟨h1,B,by rw [List.getElem?_take,if_pos hb];exact h2,h3⟩
 |.rp b sz i j,v,hs,hv=>by
  simp only [ak] at hv ⊢
  have hb:b<n:=by simpa [AV.within,Nat.blt_eq] using hs
  obtain ⟨h1,B,h2,h3⟩:=hv
  exact ⟨h1,B,by rw [List.getElem?_take,if_pos hb];exact h2,h3⟩
 |.ow b sz m,v,hs,hv=>by
  simp only [ak] at hv ⊢
  have hb:b<n:=by simpa [AV.within,Nat.blt_eq] using hs
  obtain ⟨⟨B,h2,h3⟩,h1⟩:=hv
  exact ⟨⟨B,by rw [List.getElem?_take,if_pos hb];exact h2,h3⟩,h1⟩
 |.vw b sz off m c ex,v,hs,hv=>by
  simp only [ak] at hv ⊢
  have hb:b<n:=by simpa [AV.within,Nat.blt_eq] using hs
  obtain ⟨⟨B,h2,h3⟩,h1⟩:=hv
  exact ⟨⟨B,by rw [List.getElem?_take,if_pos hb];exact h2,h3⟩,h1⟩
 |.ep ds,v,_,hv=>by
  simp only [ak] at hv ⊢;obtain ⟨blk,off,h1,h2,h3⟩:=hv
  exact ⟨blk,off,h1,h blk h2,aY.mono (fun blk hb=>⟨h blk hb,rfl⟩) blk (fun _=>rfl) _ _ h3⟩
 |.cl es,v,_,hv=>by
  simp only [ak] at hv ⊢;obtain ⟨base,h1,h2⟩:=hv
  refine ⟨base,h1,h2.imp id ?_⟩
  rintro ⟨blk,off,sz,e1,e2,e3⟩
  exact ⟨blk,off,sz,e1,h blk e2,ay.mono (fun blk hb=>⟨h blk hb,rfl⟩) blk sz (fun _=>rfl) _ _ e3⟩
 |.fn f cs,v,hs,hv=>by
  simp only [ak] at hv ⊢;obtain ⟨vs,h1,h2⟩:=hv
  exact ⟨vs,h1,iO h cs vs (by simpa [AV.within] using hs) h2⟩
 |.rY t x,v,hs,hv=>by
  simp only [ak] at hv ⊢;obtain ⟨u,h1,h2⟩:=hv
  exact ⟨u,h1,oF h x u (by simpa [AV.within] using hs) h2⟩
 |.cond p x,v,hs,hv=>by
  simp only [ak] at hv ⊢
  exact ⟨fun hp=>oF h x v (by simpa [AV.within] using hs) (hv.1 hp),hv.2⟩
theorem iO {n:Nat} {ok ok':Nat→Prop} (h:∀blk,ok blk→ok' blk):∀(xs:List AV) (vs:List Value),AV.within.rD n xs=true→an β bx w ok xs vs→an β (bx.take n) w ok' xs vs
 |[],vs,_,hv=>by simpa [an] using hv
 |x::xs,vs,hs,hv=>by
  simp only [an] at hv ⊢
  obtain ⟨u,us,h1,h2,h3⟩:=hv
  simp only [AV.within.rD,Bool.and_eq_true] at hs
  exact ⟨u,us,h1,oF h x u hs.1 h2,iO h xs us hs.2 h3⟩
end
theorem kW {n:Nat}:∀{bs:List aA} {i:Nat} {cs:List AV},cD n bs=true→bs[i]?=some (.var cs)→AV.within.rD n cs=true
 |[],i,cs,_,hi=>by simp at hi
 |b::bs,0,cs,h,hi=>by
  simp at hi;subst hi
  simp only [cD,Bool.and_eq_true] at h
  exact h.1
 |b::bs,i+1,cs,h,hi=>by
  simp at hi
  refine kW (i:=i) ?_ hi
  cases b<;>simp [cD] at h<;>first|exact h|exact h.2
theorem FZ (cx:cP G β bx w X) {n:Nat} (hw:cD n (bx.take n)=true):cP G β (bx.take n) w X:=by
 have hk:∀blk,bp β bx w X blk→bp β (bx.take n) w X blk:=fun blk h=>FY n blk h
 have hkeep:jg w w (bp β bx w X) (bp β (bx.take n) w X):=fun blk hb=>⟨hk blk hb,rfl⟩
 refine ⟨cx.xs,?_,?_,?_,?_⟩
 ·intro g ds hg
  obtain ⟨h1,h2⟩:=cx.yH g ds hg
  exact ⟨hk g h1,aY.mono hkeep g (fun _=>rfl) _ _ h2⟩
 ·intro i j bi bj hi hj
  exact cx.inj i j bi bj (fj hi).1 (fj hj).1
 ·intro i b hb
  have h:=cx.box i b (fj hb).1
  cases b with
  |var cs=>
   obtain ⟨c,e,h1,h2⟩:=h
   exact ⟨c,e,h1,iO hk cs _ (kW hw hb) h2⟩
  |row sz es=>
   refine h.imp id ?_
   rintro ⟨c,e,h1,h2⟩
   exact ⟨c,e,h1,ay.mono hkeep _ _ (fun _=>rfl) _ _ h2⟩
  |kI sz es=>
   refine h.imp id ?_
   rintro ⟨h1,h2⟩
   exact ⟨hk _ h1,ay.mono hkeep _ _ (fun _=>rfl) _ _ h2⟩
  |it s p=>exact h
  |mp ag es=>obtain ⟨ms,clock,h1,h2,h3⟩:=h;exact ⟨ms,clock,h1,h2,bt.mono hkeep _ _ _ h3⟩
  |dead=>trivial
  |bw=>trivial
 intro i b hb hl
 exact cx.apart i b (fj hb).1 hl
theorem F0 {β0:Nat→Nat} {aQ:List aA} {w0:World} (ex:Ext β0 aQ w0 β bx w):Ext β0 aQ w0 β (bx.take aQ.length) w:=by
 refine ⟨ex.os,ex.tape,ex.output,ex.size,ex.block,ex.shape,?_,?_⟩
 ·rintro i ⟨b,hb,dW⟩
  obtain ⟨h1,B,h2,h3⟩:=ex.born i ⟨b,hb,dW⟩
  exact ⟨h1,B,by rw [List.getElem?_take,if_pos (jz hb)];exact h2,h3⟩
 intro i b hb hl
 exact ex.live i b (fj hb).1 hl
theorem Ms (cx:cP G β bx w X) {x y:AV} {u:Value} (hd:Iz bx x=some y) (h:ak β bx w (bp β bx w X) x u):
 Ext β bx w β (ul bx x) w∧cP G β (ul bx x) w X∧ak β (ul bx x) w (bp β (ul bx x) w X) y u:=by
 cases x with
 |eA cs=>
  simp only [Iz,Option.map_eq_some_iff] at hd
  obtain ⟨ys,h1,rfl⟩:=hd
  simp only [ak] at h
  obtain ⟨vs,rfl,hvs⟩:=h
  obtain ⟨g1,g2,g3⟩:=lS cs bx ys vs cx h1 hvs
  exact ⟨g1,g2,by simp only [ak];exact ⟨vs,rfl,g3⟩⟩
 |_=>simp only [Iz] at hd;simp only [ul];exact Cz cx hd h
theorem Le {β0:Nat→Nat} {aQ:List aA} {w0:World} (cx:cP G β bx w X) (ex:Ext β0 aQ w0 β bx w) {k sz m:Nat} {es:List (List D)} (hn:aQ.length≤bx.length) (hw:cD aQ.length (bx.take aQ.length)=true)
 (hk:(es=[]∧m=0)∨(aQ.length≤k∧bx[k]?=some (.row sz es))) {u:Value} (hu:es=[]∧m=0∧(∃base,u=.slice base 0 0)∨ak β bx w (bp β bx w X) (.ow k sz m) u):
 ∃β',Ext β0 aQ w0 β' (bx.take aQ.length++[.row sz es]) w∧cP G β' (bx.take aQ.length++[.row sz es]) w X∧
  ak β' (bx.take aQ.length++[.row sz es]) w (bp β' (bx.take aQ.length++[.row sz es]) w X) (.ow aQ.length sz m) u:=by
 have hlen:(bx.take aQ.length).length=aQ.length:=by simp;omega
 have e1:=F0 ex
 have c1:=FZ cx hw
 have hrow:es≠[]→aQ.length≤k∧bx[k]?=some (.row sz es):=fun hne=>hk.resolve_left (fun h=>hne h.1)
 have cG:aA.live (.row sz es)=true→es≠[]:=by intro hl;cases es<;>simp [aA.live] at hl ⊢
 have hold:∀i b,(bx.take aQ.length)[i]?=some b→lg β aQ.length (β k) i=β i:=by
  intro i b h
  exact dm _ _ (by have:=(fj h).2;omega)
 have hinv:∀{i b},(bx.take aQ.length++[.row sz es])[i]?=some b→((bx.take aQ.length)[i]?=some b)∨(i=aQ.length∧b=.row sz es):=by
  intro i b h
  rcases bz h with ⟨h1,_⟩|⟨h1,h2⟩
  ·exact .inl h1
  exact .inr ⟨by omega,h2⟩
 have e2:Ext β0 aQ w0 (lg β aQ.length (β k)) (bx.take aQ.length++[.row sz es]) w:=by
  refine ⟨ex.os,ex.tape,ex.output,ex.size,ex.block,ex.shape,?_,?_⟩
  ·intro i hi
   obtain ⟨h1,b,h2,h3⟩:=e1.born i hi
   exact ⟨by rw [hold i b h2];exact h1,b,eJ h2,h3⟩
  intro i b h hl
  rcases hinv h with h1|⟨rfl,rfl⟩
  ·rw [hold i b h1];exact e1.live i b h1 hl
  rw [bu];exact ex.live k _ (hrow (cG hl)).2 hl
 have hok:∀blk,bp β bx w X blk→bp (lg β aQ.length (β k)) (bx.take aQ.length++[.row sz es]) w X blk:=by
  rintro blk ⟨k1,k2,k3⟩
  refine ⟨k1,k2,?_⟩
  intro i b h hl
  rcases hinv h with h1|⟨rfl,rfl⟩
  ·rw [hold i b h1];exact k3 i b (fj h1).1 hl
  rw [bu];exact k3 k _ (hrow (cG hl)).2 hl
 have hkeep:jg w w (bp β bx w X) (bp (lg β aQ.length (β k)) (bx.take aQ.length++[.row sz es]) w X):=fun blk hb=>⟨hok blk hb,rfl⟩
 have p9:sw β (bx.take aQ.length) w (bp β bx w X) (lg β aQ.length (β k)) (bx.take aQ.length++[.row sz es]) w (bp (lg β aQ.length (β k)) (bx.take aQ.length++[.row sz es]) w X):=by
  refine ⟨hkeep,?_,fun _ c _ _ h=>⟨c,h,rfl⟩⟩
  rintro i ⟨b,hb,h3⟩
  exact ⟨hold i b hb,b,eJ hb,h3⟩
 refine ⟨_,e2,⟨cx.xs,?_,?_,?_,?_⟩,?_⟩
 ·intro g ds hg
  obtain ⟨h1,h2⟩:=cx.yH g ds hg
  exact ⟨hok g h1,aY.mono hkeep g (fun _=>rfl) _ _ h2⟩
 ·intro i j bi bj hi hj mP oD he
  rcases hinv hi with h1|⟨rfl,rfl⟩<;>rcases hinv hj with h2|⟨rfl,rfl⟩
  ·rw [hold i bi h1,hold j bj h2] at he
   exact c1.inj i j bi bj h1 h2 mP oD he
  ·rw [hold i bi h1,bu] at he
   obtain ⟨r1,r2⟩:=hrow (cG oD)
   have:=cx.inj i k bi _ (fj h1).1 r2 mP oD he
   have:=(fj h1).2;omega
  ·rw [hold j bj h2,bu] at he
   obtain ⟨r1,r2⟩:=hrow (cG mP)
   have:=cx.inj k j _ bj r2 (fj h2).1 mP oD he
   have:=(fj h2).2;omega
  rfl
 ·intro i b hb
  rcases hinv hb with h1|⟨rfl,rfl⟩
  ·rw [hold i b h1]
   have h:=cx.box i b (fj h1).1
   cases b with
   |var cs=>
    obtain ⟨c,e,g1,g2⟩:=h
    exact ⟨c,e,g1,an.mono p9 _ _ (iO (fun _ hb=>hb) cs _ (kW hw h1) g2)⟩
   |row sz es=>
    refine h.imp id ?_
    rintro ⟨c,e,g1,g2⟩
    exact ⟨c,e,g1,ay.mono hkeep _ _ (fun _=>rfl) _ _ g2⟩
   |kI sz es=>
    refine h.imp id ?_
    rintro ⟨g1,g2⟩
    exact ⟨hok _ g1,ay.mono hkeep _ _ (fun _=>rfl) _ _ g2⟩
   |it s p=>exact h
   |mp ag es=>obtain ⟨ms,clock,h1,h2,h3⟩:=h;exact ⟨ms,clock,h1,h2,bt.mono hkeep _ _ _ h3⟩
   |dead=>trivial
   |bw=>trivial
  rw [bu]
  by_cases hne:es=[]
  ·exact .inl hne
  have h:=cx.box k _ (hrow hne).2
  refine h.imp id ?_
  rintro ⟨c,e,g1,g2⟩
  exact ⟨c,e,g1,ay.mono hkeep _ _ (fun _=>rfl) _ _ g2⟩
 ·intro i b hb hl
  rcases hinv hb with h1|⟨rfl,rfl⟩
  ·rw [hold i b h1];exact cx.apart i b (fj h1).1 hl
  rw [bu];exact cx.apart k _ (hrow (cG hl)).2 hl
 simp only [ak]
 refine ⟨⟨.row sz es,by rw [List.getElem?_append_right (by omega)];simp [hlen],rfl⟩,?_⟩
 rw [bu]
 rcases hu with ⟨_,rfl,base,rfl⟩|hu
 ·exact .inl ⟨rfl,base,rfl⟩
 simp only [ak] at hu
 exact hu.2
theorem mz:∀(ks:List Bool) (bs:List aA) (i:Nat) (b':aA),(kill ks bs)[i]?=some b'→∃b,bs[i]?=some b∧(b'=b∨(b'=.dead∧b.born=true))
 |[],bs,i,b',h=>⟨b',by simpa [kill] using h,.inl rfl⟩
 |_::_,[],i,b',h=>by simp [kill] at h
 |k::ks,b::bs,0,b',h=>by
  simp only [kill,List.getElem?_cons_zero,osI] at h
  refine ⟨b,rfl,?_⟩
  cases hk:(k&&b.born) with
  |false=>rw [hk] at h;exact .inl h.symm
  |true=>rw [hk] at h;simp at hk;exact .inr ⟨h.symm,hk.2⟩
 |k::ks,b::bs,i+1,b',h=>by
  simp only [kill,List.getElem?_cons_succ] at h
  obtain ⟨b0,h1,h2⟩:=mz ks bs i b' h
  exact ⟨b0,by simpa using h1,h2⟩
theorem F1:∀(ks:List Bool) (bs:List aA) (i:Nat) (b:aA),bs[i]?=some b→∃b',(kill ks bs)[i]?=some b'∧(b'=b∨(b'=.dead∧b.born=true))
 |[],bs,i,b,h=>⟨b,by simpa [kill] using h,.inl rfl⟩
 |_::_,[],i,b,h=>by simp at h
 |k::ks,b0::bs,0,b,h=>by
  simp only [List.getElem?_cons_zero,osI] at h
  subst h
  refine ⟨_,by simp only [kill,List.getElem?_cons_zero];rfl,?_⟩
  cases hk:(k&&b0.born) with
  |false=>exact .inl rfl
  |true=>simp at hk;exact .inr ⟨rfl,hk.2⟩
 |k::ks,b0::bs,i+1,b,h=>by
  simp only [List.getElem?_cons_succ] at h
  obtain ⟨b',h1,h2⟩:=F1 ks bs i b h
  exact ⟨b',by simpa only [kill,List.getElem?_cons_succ] using h1,h2⟩
theorem R3 (ks:List Bool) (cx:cP G β bx w X):Ext β bx w β (kill ks bx) w∧cP G β (kill ks bx) w X:=by
 have ex:Ext β bx w β (kill ks bx) w:=by
  refine ⟨rfl,rfl,rfl,Nat.le_refl _,fun _ _ _=>rfl,fun k c e f h=>⟨c,h,rfl⟩,?_,?_⟩
  ·rintro i ⟨b,h1,h2⟩
   obtain ⟨b',h3,h4⟩:=F1 ks bx i b h1
   refine ⟨rfl,b',h3,?_⟩
   rcases h4 with rfl|⟨rfl,_⟩
   ·exact h2
   rfl
  intro i b h1 h2
  obtain ⟨b0,h3,h4⟩:=mz ks bx i b h1
  rcases h4 with rfl|⟨rfl,_⟩
  ·exact .inr ⟨i,b,h3,h2,rfl⟩
  simp [aA.live] at h2
 refine ⟨ex,cx.step ex ?_ ?_⟩
 ·intro i b h1
  obtain ⟨b0,h3,h4⟩:=mz ks bx i b h1
  rcases h4 with rfl|⟨rfl,_⟩
  ·exact .inl ⟨h3,fun _=>rfl⟩
  exact .inr trv
 intro i j bi bj h1 h2 l1 l2 he
 obtain ⟨b1,h3,h4⟩:=mz ks bx i bi h1
 obtain ⟨b2,h5,h6⟩:=mz ks bx j bj h2
 rcases h4 with rfl|⟨rfl,_⟩
 ·rcases h6 with rfl|⟨rfl,_⟩
  ·exact cx.inj i j _ _ h3 h5 l1 l2 he
  simp [aA.live] at l2
 simp [aA.live] at l1
def D4 (tmps:Array Value) (r:ResultVar):Sem Value:=
 match r with
 |.tmp t=>pure (tmps.getD t undef)
 |.cell a t=>do loadVar t (←asAddr (tmps.getD a undef))
theorem IU (fn:Func) (tmps:Array Value):results fn tmps=(do let vs ←fn.results.mapM (D4 tmps);pure (if h:vs.size=1 then vs[0] else .tuple vs)):=rfl
theorem zZ (hT:kD P T) {N:Nat} {ds:List Deferred} {s:St} {a:Act} (hF:Fr G N ds β w X s a):∀(rs:List ResultVar) {c:Prop} {vs:List AV},BS T s.sl s.bx rs=some (c,vs)→c→
 ∃us:List Value,(rs.mapM (D4 a.tmps)).run P w=.ok us w∧an β s.bx w (bp β s.bx w X) vs us
 |[],c,vs,h,_=>by
  simp [BS] at h
  obtain ⟨_,rfl⟩:=h
  exact ⟨[],by simp,by simp [an]⟩
 |.tmp t::r,c,vs,h,hc=>by
  simp only [BS] at h
  split at h
  ·rename_i c' vs' h'
   simp only [osI,Prod.mk.injEq] at h
   obtain ⟨rfl,rfl⟩:=h
   obtain ⟨us,g1,g2⟩:=zZ hT hF r h' hc.2
   refine ⟨a.tmps.getD t undef::us,?_,?_⟩
   ·rw [List.mapM_cons]
    simp only [Sem.run_bind,g1,D4,Sem.run_pure,Result.andThen_ok]
   simp only [an];exact ⟨_,_,rfl,kj (hF.yV t) hc.1,g2⟩
  simp at h
 |.cell t ty::r,c,vs,h,hc=>by
  simp only [BS] at h
  split at h
  ·rename_i ti c' vs' Zn h'
   split at h
   ·rename_i b o hl
    split at h
    ·rename_i c2 v b2 hld
     simp only [osI,Prod.mk.injEq] at h
     obtain ⟨rfl,rfl⟩:=h
     obtain ⟨us,g1,g2⟩:=zZ hT hF r h' hc.2
     have hp:=hF.yV t
     rw [hl] at hp
     obtain ⟨_,x,k1,k2⟩:=zC (P:=P) hT hF.cx Zn hp hld hc.1
     simp only [ak] at hp
     rw [hp.1] at k1
     refine ⟨x::us,?_,?_⟩
     ·rw [List.mapM_cons]
      have:(loadVar ty ⟨β b,o,none⟩).run P w=.ok x w:=by simpa [Instr.loadAt,Instr.sureAddr] using k1
      simp only [Sem.run_bind,D4,hp.1,asAddr,Sem.run_pure,Result.andThen_ok,this,g1]
     simp only [an];exact ⟨_,_,rfl,k2,g2⟩
    simp at h
   simp at h
  simp at h
theorem F2 (hT:kD P T) {N:Nat} {ds:List Deferred} {s:St} {a:Act} (hF:Fr G N ds β w X s a) {fn:Func} {c:Prop} {vs:List AV} (h:BS T s.sl s.bx fn.results.toList=some (c,vs)) (hc:c):
 ∃u,(results fn a.tmps).run P w=.ok u w∧ak β s.bx w (bp β s.bx w X) (Cs vs) u:=by
 obtain ⟨us,g1,g2⟩:=zZ hT hF _ h hc
 have hlen:=an.length g2
 rw [IU,Array.mapM_eq_mapM_toList]
 simp [g1]
 split
 ·rename_i h1
  match us,vs,h1,hlen,g2 with
  |[u],[v],_,_,g2=>
   simp only [an,List.cons.injEq] at g2
   obtain ⟨_,_,⟨rfl,rfl⟩,h,_⟩:=g2
   exact h
 rename_i h1
 have:Cs vs=.eA vs:=by
  match vs,hlen with
  |[],_=>rfl
  |[v],hl=>exact absurd hl h1
  |_::_::_,_=>rfl
 rw [this];simp only [ak];exact ⟨us,rfl,g2⟩
theorem F3:∀(args:List AV) (i t:Nat),gH t (pR i args)=if i≤t then args.getD (t-i) .any else .any
 |[],i,t=>by simp [pR,gH]
 |x::xs,i,t=>by
  simp only [pR,gH,F3 xs (i+1) t]
  by_cases h:t=i
  ·subst h;simp
  rw [Wl h]
  simp only [cond_false]
  by_cases h2:i≤t
  ·rw [if_pos (by omega),if_pos h2,show t-i=(t-(i+1))+1 by omega];simp
  rw [if_neg (by omega),if_neg h2]
theorem IV (hT:kD P T) {f N:Nat} {fn:Func} {c:Code} {args:List AV} {aQ aU:List aA} {res:jR}
 (hN:fn.ntmps=N) (hlen:Nat.ble args.length N=true)
 (h:∀(β:Nat→Nat) (w:World) (X:Nat→Prop) (a:Act),Fr G N [] β w X ⟨pR 0 args,aQ⟩ a→c.wp P (gE G N [] X β aQ w (K2 T fn.results.toList aQ.length res aU)) a w)
 (β:Nat→Nat) (w:World) (vs:List Value) (X:Nat→Prop) (cx:cP G β aQ w X) (hx:an β aQ w (bp β aQ w X) args vs):
 c.wp P (bodyPost P fn fun e w'=>∃β',Ext β aQ w β' aU w'∧cP G β' aU w' X∧mh β' aU w' (bp β' aU w' X) res e) {tmps:=(⟨vs⟩:Array Value)++Array.replicate (fn.ntmps-(⟨vs⟩:Array Value).size) undef,defers:=[]} w:=by
 have hl:=an.length hx
 have hle:args.length≤N:=Nat.le_of_ble_eq_true hlen
 refine wp_mono (h β w X _ ⟨cx,rfl,?_,?_⟩) ?_
 ·simp [hN,hl];omega
 ·intro t
  rw [F3]
  simp only [Nat.zero_le,if_true,Nat.sub_zero]
  by_cases ht:t<args.length
  ·obtain ⟨v,k1,k2⟩:=an.get t args[t] hx (by simp [ht])
   have e1:args.getD t .any=args[t]:=by simp [List.getD_eq_getElem?_getD,ht]
   rw [e1]
   have hv:t<vs.length:=by omega
   have e2:vs[t]=v:=by rw [List.getElem?_eq_getElem hv] at k1;simpa using k1
   have e3:(({toList:=vs}:Array Value)++Array.replicate (fn.ntmps-(⟨vs⟩:Array Value).size) undef).getD t undef=v:=by
    simp [Array.getD_eq_getD_getElem?,Array.getElem?_append,hv,e2]
   rw [e3];exact k2
  simp [List.getD_eq_getElem?_getD,List.getElem?_eq_none (Nat.le_of_not_lt ht),ak]
 intro e a' w' R4
 have fin:∀β' s,Ext β aQ w β' s.bx w'→Fr G N [] β' w' X s a'→(match BS T s.sl s.bx fn.results.toList with
  |some (c,vs)=>TW aQ.length c (Cs vs) s.bx res aU
  |none=>False)→a'.defers=[]∧∃v,(results fn a'.tmps).run P w'=.ok v w'∧∃β',Ext β aQ w β' aU w'∧cP G β' aU w' X∧mh β' aU w' (bp β' aU w' X) res (.returned v):=by
  intro β' s ex hF hq
  split at hq
  ·rename_i c vs' hres
   obtain ⟨hc,hq⟩:=hq
   obtain ⟨u,k1,k2⟩:=F2 hT hF hres hc
   refine ⟨hF.defers,u,k1,?_⟩
   rcases hq with ⟨rfl,rfl⟩|⟨ks,y,q1,q2,rfl,q3,rfl⟩|⟨k,sz,m,es,q0,q1,q2,q3,q4,rfl,rfl⟩|⟨sz,q0,q1,q2,rfl,rfl⟩
   ·exact ⟨β',ex,hF.cx,k2⟩
   ·obtain ⟨e1,c1,r1⟩:=Ms hF.cx q1 k2
    obtain ⟨e2,c2⟩:=R3 ks c1
    exact ⟨β',F0 ((ex.trans e1).trans e2),FZ c2 q3,oF (fun blk hb=>FY _ blk hb) y u q2 (ak.mono (e2.eX X) _ _ r1)⟩
   ·rw [q0] at k2
    exact Le hF.cx ex q3 q4 (.inr ⟨q2,q1⟩) (.inr k2)
   rw [q0] at k2
   simp only [ak,List.length_nil] at k2
   obtain ⟨base,k2,_⟩:=k2
   exact Le (k:=0) hF.cx ex q1 q2 (.inl ⟨rfl,rfl⟩) (.inl ⟨rfl,rfl,base,k2⟩)
  exact hq.elim
 cases e<;>simp only [gE,bodyPost] at R4 ⊢
 ·obtain ⟨β',s,h1,h2,h3⟩:=R4;exact fin β' s h1 h2 h3
 ·obtain ⟨β',s,h1,h2,h3⟩:=R4;exact h3.elim
 ·obtain ⟨β',s,h1,h2,h3⟩:=R4;exact fin β' s h1 h2 h3
 obtain ⟨β',pP,v,u,h1,h2,h3,h4,h5,h6⟩:=R4
 obtain ⟨rfl,rfl⟩:=h6.ok
 exact ⟨h5,β',h2,h3,u,h1,h4⟩
theorem uI (hT:kD P T) {f N:Nat} {fn:Func} {c:Code} {args:List AV} {aQ aU:List aA} {res:jR} (hf:P.funcs[f]?=some fn) (hb:fn.body=some c)
 (hname:(fn.name== "runtime.NumGoroutine")=false) (hN:fn.ntmps=N) (hlen:Nat.ble args.length N=true)
 (h:∀(β:Nat→Nat) (w:World) (X:Nat→Prop) (a:Act),Fr G N [] β w X ⟨pR 0 args,aQ⟩ a→c.wp P (gE G N [] X β aQ w (K2 T fn.results.toList aQ.length res aU)) a w):bF P G f args aQ res aU:=by
 intro β w vs X cx hx
 refine .inl ⟨?_,calls_of_wp hf hb (IV (f:=f) hT hN hlen h β w vs X cx hx)⟩
 simp [callFunc,run_program,hf,hb]
 simpa using hname
end
end Dem
end
