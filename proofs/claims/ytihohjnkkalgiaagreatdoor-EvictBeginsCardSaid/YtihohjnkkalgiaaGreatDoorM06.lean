/- Parts of a proof, joined. -/
import Derived.Test.YtihohjnkkalgiaaGreatDoorM05
import Derived.WalkSpells
import Derived.Lib.LazyBuf
import Derived.Deep.LoopGhost
import Derived.Defers
set_option linter.all false
set_option maxRecDepth 100000
set_option maxHeartbeats 4000000
section
open Go
namespace Dem
section
variable {P:Program} {T:Nat→Option TI} {G:Nat→Option (List D)} {N:Nat} {ds:List Deferred} {β:Nat→Nat} {bx:List az} {w:World} {X:Nat→Prop}
structure Fr (G:Nat→Option (List D)) (N:Nat) (ds:List Deferred) (β:Nat→Nat) (w:World) (X:Nat→Prop) (s:St) (a:Act):Prop where
 cx:cI G β s.bx w X
 defers:a.defers=ds
 size:a.tmps.size=N
 zk:∀t,aj β s.bx w (bt β s.bx w X) (gr t s.sl) (a.tmps.getD t undef)
theorem Vp {n m:Nat} (h:n≠m):Nat.beq n m=false:=by
 cases hb:Nat.beq n m with
 |false=>rfl
 |true=>exact absurd (Nat.eq_of_beq_eq_true hb) h
theorem oN (t u:Nat) (v:AV):∀sl:List (Nat×AV),gr t (put u v sl)=if t=u then v else gr t sl
 |[]=>by
  simp only [put,gr]
  by_cases h:t=u
  ·simp [h]
  have:Nat.beq t u=false:=Vp h
  simp [this,h]
 |(k,x)::r=>by
  simp only [put]
  by_cases hk:u=k
  ·subst hk
   have hb:Nat.beq u u=true:=by simp
   simp only [hb,cond_true,gr]
   by_cases h:t=u
   ·simp [h]
   have:Nat.beq t u=false:=Vp h
   simp [this,h]
  have hb:Nat.beq u k=false:=Vp hk
  simp only [hb,cond_false,gr,oN t u v r]
  by_cases h:t=k
  ·subst h
   have:t≠u:=fun e=>hk e.symm
   simp [this]
  have:Nat.beq t k=false:=Vp h
  simp [this]
variable {s:St} {a:Act}
theorem Fr.eval (hF:Fr G N ds β w X s a) (x:Operand):aj β s.bx w (bt β s.bx w X) (cm G s.sl x) (a.eval x):=by
 cases x with
 |tmp t=>exact hF.zk t
 |const v=>exact zT v
 |global g=>
  simp only [cm]
  split
  ·rename_i ds hg
   obtain ⟨h1,h2⟩:=hF.cx.yU g ds hg
   simp only [aj];exact ⟨g,0,rfl,h1,h2⟩
  simp [aj]
 |func f=>simp only [cm,aj];exact ⟨[],rfl,by simp [ak]⟩
theorem j9 {ok:Nat→Prop} {x:AV} {v:Value} (h:aj β bx w ok x v) (hk:x.ok):aj β bx w ok x.aS v:=by
 cases x with
 |cond p y=>simp only [aj] at h;exact h.1 hk
 |_=>exact h
theorem dz {sl:List (Nat×AV)}:∀{xs:List Operand},dD (fO G sl xs)→∀x∈xs,(cm G sl x).ok
 |[],_,x,hx=>by simp at hx
 |y::ys,h,x,hx=>by
  simp only [fO,List.map_cons,dD] at h
  rcases List.mem_cons.1 hx with rfl|hx
  ·exact h.1
  exact dz h.2 x hx
theorem Fr.put (hF:Fr G N ds β w X s a) {β':Nat→Nat} {aR:List az} {w':World} (ex:Ext β s.bx w β' aR w') (mG:cI G β' aR w' X) {dst:Option Nat} (hd:gX N dst=true)
 {v:AV} {u:Value} (hv:aj β' aR w' (bt β' aR w' X) v u):Fr G N ds β' w' X ⟨eL dst v s.sl,aR⟩ (a.put dst u):=by
 cases dst with
 |none=>exact ⟨mG,hF.defers,hF.size,fun t=>aj.mono (ex.eY X) _ _ (hF.zk t)⟩
 |some d=>
  have Vq:d<N:=by simpa [gX,Nat.blt_eq] using hd
  refine ⟨mG,hF.defers,by simp [Act.put,hF.size],?_⟩
  intro t
  simp only [eL,oN,Act.put]
  by_cases h:t=d
  ·subst h
   simp [Array.getD,hF.size,Vq,hv]
  rw [if_neg h]
  have:(a.tmps.setIfInBounds d u).getD t undef=a.tmps.getD t undef:=by
   simp [Array.getD_eq_getD_getElem?,Array.getElem?_setIfInBounds_ne (Ne.symm h)]
  rw [this]
  exact aj.mono (ex.eY X) _ _ (hF.zk t)
def Af (G:Nat→Option (List D)) (β:Nat→Nat) (bx:List az) (w:World) (X:Nat→Prop) (a:Act) (dst:Option Nat) (K:AV→List az→Prop) (next:Act→World→Prop):Prop:=
 ∀β' aR w' v u,Ext β bx w β' aR w'→cI G β' aR w' X→aj β' aR w' (bt β' aR w' X) v u→K v aR→next (a.put dst u) w'
def Pn (G:Nat→Option (List D)) (β:Nat→Nat) (bx:List az) (w:World) (X:Nat→Prop) (a:Act) (K:AV→List az→Prop) (Qc:Exit→Act→World→Prop):Prop:=
 ∀β' aR w' v u,Ext β bx w β' aR w'→cI G β' aR w' X→aj β' aR w' (bt β' aR w' X) v u→K v aR→Qc (.panic [{v:=u,recovered:=false}]) a w'
theorem cQ {o:Oper} {next:Act→World→Prop} {Qc:Exit→Act→World→Prop} {r:Result Next} {v:AV} {aR:List az} {K:AV→List az→Prop} (h:dB G β bx w X r v aR) (hK:K v aR)
 (hn:Af G β bx w X a o.dst K next):o.upon P a next Qc r:=by
 obtain ⟨β',w',ex,cx,⟨u,rfl,hv⟩|⟨rfl,rfl⟩⟩:=h
 ·exact hn β' aR w' v u ex cx hv hK
 exact hn β' aR w' .any undef ex cx (by simp [aj]) hK
theorem gD {o:Oper} {next:Act→World→Prop} {Qc:Exit→Act→World→Prop} {f:Nat} {vs:Array Value} {R:Ending→World→Prop} (h:jA P f vs w R)
 (hr:∀v w',R (.returned v) w'→next (a.put o.dst v) w') (hp:∀ch w',R (.panicked ch) w'→Qc (.panic ch) a w') (ho:∀w',R .outgrown w'→False):
 o.upon P a next Qc ((callFunc f vs).run P w):=by
 rcases h with ⟨h1,h2⟩|⟨v,w',h1,h2⟩
 ·rw [h1,Oper.upon_enter]
  refine Calls.mono h2 ?_
  intro e w' he
  cases e with
  |returned v=>exact hr v w' he
  |panicked ch=>exact hp ch w' he
  |outgrown=>exact (ho w' he).elim
 rw [h1];exact hr v w' h2
theorem kH {o:Oper} {f:Operand} {args:Array Operand} {ats:Array TypeId} (ho:o.op=.call {callee:=.value f,args:=args,argTypes:=ats}) {i:Nat} {fs cs:List Value} (hf:a.eval f=.func (.func i) ⟨fs⟩ ⟨cs⟩):
 (execOp a.eval o).run P w=(callFunc i ⟨fs++args.toList.map a.eval++cs⟩).run P w:=by
 have e:(⟨fs⟩:Array Value)++args.map a.eval++⟨cs⟩=(⟨fs++args.toList.map a.eval++cs⟩:Array Value):=by apply Array.ext';simp
 rw [←e]
 simp [execOp,ho,resolve,hf,Deferred.ofValue,invoke]
theorem xU (hT:kw P T) {o:Oper} {r:Operand} {nm:String} {args:Array Operand} {ats:Array TypeId} (ho:o.op=.call {callee:=.invoke r nm,args:=args,argTypes:=ats}) {t:Nat} {ti:TI} {f:Nat} {x:Value}
 (ht:T t=some ti) (hi:ti.inv=some (nm,f)) (hr:a.eval r=.iface t x):
 (execOp a.eval o).run P w=(callFunc f ⟨x::args.toList.map a.eval⟩).run P w:=by
 obtain ⟨i,d,h1,h2,h3,⟨mn,ms,mp,mf⟩,h4,h5,h6⟩:=MF (hT.ti _ _ ht) hi
 simp only at h5 h6
 have hp:mp.isEmpty=true:=by rw [Array.isEmpty_iff];exact Array.ext' (by simpa using h5)
 have hm:(Go.method (P.types.size+99+1) t x nm).run P w=.ok (f,x) w:=by
  unfold Go.method
  simp only [Sem.run_bind,lQ h1,Result.andThen_ok,h4,h5,follow,h6,hp,if_true]
  cases d<;>first|exact absurd rfl (h3 _)|simp [receiverAt,aV h2,Place.get,Result.andThen_ok]
 have e:(⟨x::args.toList.map a.eval⟩:Array Value)=#[x]++args.map a.eval:=by apply Array.ext';simp
 rw [e]
 have e0:(#[Value.iface t x]++args.map a.eval)[0]?=some (Value.iface t x):=by rw [Array.getElem?_append_left (by simp)];rfl
 have e1:(#[Value.iface t x]++args.map a.eval).extract 1 (#[Value.iface t x]++args.map a.eval).size=args.map a.eval:=by apply Array.ext';simp [List.take_of_length_le]
 have e2:P.types.size+Made.depth=P.types.size+99+1:=rfl
 simp only [execOp,ho,resolve,hr,pure_bind,invoke,e0,e1,callMethod,Sem.run_bind,run_program,Result.andThen_ok,e2,hm]
theorem CP (hT:kw P T) {ok:Nat→Prop} {x:AV} {nm:String} {args as:List AV} {i:Nat} {v:Value} {vs:List Value} (h:CC T x nm args=some (i,as)) (hx:aj β bx w ok x v) (hv:ak β bx w ok args vs):
 ∃t ti u,T t=some ti∧ti.inv=some (nm,i)∧v=.iface t u∧ak β bx w ok as (u::vs):=by
 unfold CC at h
 split at h
 ·split at h
  ·rename_i ti ht
   split at h
   ·rename_i n j hi
    split at h
    ·rename_i hn
     simp only [osI,Prod.mk.injEq] at h
     obtain ⟨rfl,rfl⟩:=h
     subst hn
     simp only [aj] at hx
     obtain ⟨u,rfl,hu⟩:=hx
     exact ⟨_,ti,u,ht,hi,rfl,by simp only [ak];exact ⟨_,_,rfl,hu,hv⟩⟩
    cases h
   cases h
  cases h
 cases h
theorem CQ {f:Nat} {args:List AV} {vs:List Value} {K Kp:AV→List az→Prop} (cx:cI G β bx w X) (hx:ak β bx w (bt β bx w X) args vs)
 (h:Lh (bC P G) f args bx K Kp):
 jA P f ⟨vs⟩ w fun e w'=>∃β' aR v u,Ext β bx w β' aR w'∧cI G β' aR w' X∧aj β' aR w' (bt β' aR w' X) v u∧
  ((e=.returned u∧K v aR)∨(e=.panicked [{v:=u,recovered:=false}]∧Kp v aR)):=by
 obtain ⟨args',qn,res,qo,hz,hf,hK⟩:=h
 obtain ⟨e1,c1,r1⟩:Ext β bx w β qn w∧cI G β qn w X∧ak β qn w (bt β qn w X) args' vs:=by
  rcases hz with ⟨rfl,rfl⟩|⟨hz,rfl⟩
  ·exact ⟨Ext.refl _ _ _,cx,hx⟩
  exact lI args bx args' vs cx hz hx
 refine jA.mono (hf β w vs X c1 r1) ?_
 rintro e w' ⟨β',ex,mG,hr⟩
 cases e with
 |returned u=>
  cases res with
  |ret v=>exact ⟨β',qo,v,u,e1.trans ex,mG,hr,.inl ⟨rfl,hK⟩⟩
  |MC v=>exact hr.elim
 |panicked ch=>
  cases res with
  |ret v=>exact hr.elim
  |MC v=>
   obtain ⟨u,rfl,hu⟩:=hr
   exact ⟨β',qo,v,u,e1.trans ex,mG,hu,.inr ⟨rfl,hK⟩⟩
 |outgrown=>cases res<;>exact hr.elim
theorem l6 {ok:Nat→Prop} {x:AV} {args as:List AV} {i:Nat} {v:Value} {vs:List Value} (h:lM x args=some (i,as)) (hx:aj β bx w ok x v) (hv:ak β bx w ok args vs):
 ∃fs cs,v=.func (.func i) ⟨fs⟩ ⟨cs⟩∧ak β bx w ok as (fs++vs++cs):=by
 unfold lM at h
 split at h
 ·simp only [osI,Prod.mk.injEq] at h
  obtain ⟨rfl,rfl⟩:=h
  simp only [aj] at hx
  obtain ⟨us,rfl,hc⟩:=hx
  simp only [ak,aj] at hc
  obtain ⟨_,cs,rfl,⟨fs,rfl,hf⟩,hc⟩:=hc
  exact ⟨fs,cs,rfl,ak.append (ak.append hf hv) hc⟩
 ·rename_i jQ _
  cases hp:jX jQ with
  |false=>simp [hp] at h
  |true=>
  simp only [hp,cond_true,osI,Prod.mk.injEq] at h
  obtain ⟨rfl,rfl⟩:=h
  simp only [aj] at hx
  obtain ⟨cs,rfl,hc⟩:=hx
  exact ⟨[],cs,xO hp hc _,ak.append hv hc⟩
 ·simp only [osI,Prod.mk.injEq] at h
  obtain ⟨rfl,rfl⟩:=h
  simp only [aj,aK] at hx
  exact ⟨[],[],hx,by simpa using hv⟩
 cases h
theorem Ag (hT:kw P T) (_cx:cI G β bx w X) {t:Nat} {x i:AV} {u z:Value} {c:Prop} {ds:List D} (hr:zL T t x i=some (c,ds)) (hc:c)
 (hx:aj β bx w (bt β bx w X) x u) (hi:aj β bx w (bt β bx w X) i z):
 ∃r,(Instr.indexAt t u z).run P w=.ok r w∧aj β bx w (bt β bx w X) (.ep ds) r:=by
 have fin:∀(e:Nat) (te:TI) (k:IntKind) (n:Int) (es:List (List D)) (base:Option Addr) (cap:Nat),P.underlying t=some (.slice e)→T e=some te→z=.int k n→u=.slice base es.length cap→
  (es=[]∨∃blk off sz,base=some ⟨blk,off,none⟩∧bt β bx w X blk∧ax w (bt β bx w X) blk sz es off)→
  (0≤n∧n<es.length∧(∀r∈es,r.length=te.size))→ds=es.getD n.toNat []→∃r,(Instr.indexAt t u z).run P w=.ok r w∧aj β bx w (bt β bx w X) (.ep ds) r:=by
  rintro e te k n es base cap hu hte rfl rfl aB ⟨h1,h2,h3⟩ rfl
  obtain ⟨ei,ed,g1,g2,g3,g4,g5,g6⟩:=aJ (hT.ti _ _ hte)
  rcases aB with rfl|⟨blk,off,sz,rfl,hb,hrows⟩
  ·simp at h2;omega
  have hn:n.toNat<es.length:=by omega
  obtain ⟨l1,l2⟩:=ax.get n.toNat es off hrows hn
  have hsz:te.size=sz:=by
   rw [←l1]
   have hm:es.getD n.toNat []∈es:=by
    simp only [List.getD_eq_getElem?_getD,List.getElem?_eq_getElem hn,Option.getD_some]
    exact List.getElem_mem hn
   exact (h3 _ hm).symm
  refine ⟨.pointer (some ⟨blk,off+n.toNat*sz,none⟩),?_,?_⟩
  ·simp [Instr.indexAt,asIntOf,aV hu,h1,h2,bU g1,fG,←g3,hsz]
  simp only [aj];exact ⟨blk,_,rfl,hb,l2⟩
 unfold zL at hr
 cases ht:T t with
 |none=>simp [ht] at hr
 |some ti=>
 obtain ⟨ii,d,h1,h2,h3,h4,h5,h6⟩:=aJ (hT.ti _ _ ht)
 simp only [ht,h5] at hr
 split at hr
 ·rename_i e es k n hk
  cases d<;>simp [cW] at hk
  subst hk
  split at hr
  ·rename_i te hte
   simp only [osI,Prod.mk.injEq] at hr
   obtain ⟨rfl,rfl⟩:=hr
   simp only [aj,aK] at hx hi
   obtain ⟨base,cap,e1,_,e2⟩:=hx
   exact fin _ te k n es base cap h2 hte hi e1 e2 hc rfl
  simp at hr
 ·rename_i e es k n hk
  cases d<;>simp [cW] at hk
  subst hk
  split at hr
  ·rename_i te hte
   simp only [osI,Prod.mk.injEq] at hr
   obtain ⟨rfl,rfl⟩:=hr
   simp only [aj,aK] at hx hi
   obtain ⟨base,e1,e2⟩:=hx
   exact fin _ te k n es base _ h2 hte hi e1 e2 hc rfl
  simp at hr
 simp at hr
theorem Ah {ok:Nat→Prop} {p:Bool} {x y:AV} {u v:Value} (hx:p=true→aj β bx w ok x u) (hy:p=false→aj β bx w ok y v):aj β bx w ok (zI p x y) (if p then u else v):=by
 unfold zI
 split
 ·cases p
  ·simpa [aj,aK] using hy rfl
  simpa [aj,aK] using hx rfl
 ·cases p
  ·simpa [aj,aK] using hy rfl
  simp [aj]
 simp [aj]
theorem CR {b:Nat} {str:List UInt8} {pos pos':Nat} (hb:bx[b]?=some (.it str pos)) (hh:w.heap[β b]?=some (.stringIter ⟨str.toArray⟩ pos)):
 Ext β bx w β (bx.set b (.it str pos')) {w with heap:=w.heap.setIfInBounds (β b) (.stringIter ⟨str.toArray⟩ pos')}:=by
 have hlt:=eT hh
 refine ⟨rfl,rfl,rfl,by simp,?_,?_,fun i hi=>⟨rfl,iC rfl hi⟩,?_⟩
 ·intro k hk hl
  have hne:β b≠k:=hl b _ hb rfl
  simp [Array.getElem?_setIfInBounds_ne hne]
 ·intro k c e f hk
  have hne:β b≠k:=by rintro rfl;rw [hh] at hk;cases hk
  exact ⟨c,by simp [Array.getElem?_setIfInBounds_ne hne,hk],rfl⟩
 intro i B hi hl
 rcases aL hi with ⟨rfl,_,_⟩|⟨_,h⟩
 ·exact .inr ⟨i,_,hb,rfl,rfl⟩
 exact .inr ⟨i,B,h,hl,rfl⟩
theorem MQ (cx:cI G β bx w X) {b:Nat} {str:List UInt8} {pos pos':Nat} (hb:bx[b]?=some (.it str pos)) (hh:w.heap[β b]?=some (.stringIter ⟨str.toArray⟩ pos)):
 cI G β (bx.set b (.it str pos')) {w with heap:=w.heap.setIfInBounds (β b) (.stringIter ⟨str.toArray⟩ pos')} X:=by
 refine cx.step (CR hb hh) ?_ ?_
 ·intro i B hi
  rcases aL hi with ⟨rfl,rfl,_⟩|⟨hne,h⟩
  ·refine .inr ?_
   simp only [dj]
   simp [eT hh]
  refine .inl ⟨h,fun hl=>?_⟩
  have O8:β b≠β i:=fun he=>hne (cx.inj b i _ B hb h rfl hl he).symm
  simp [Array.getElem?_setIfInBounds_ne O8]
 intro i j bi bj hi hj mH oM he
 rcases aL hi with ⟨rfl,rfl,_⟩|⟨h1,h2⟩<;>rcases aL hj with ⟨rfl,rfl,_⟩|⟨h3,h4⟩
 ·rfl
 ·exact cx.inj _ _ _ _ hb h4 rfl oM he
 ·exact cx.inj _ _ _ _ h2 hb mH rfl he
 exact cx.inj _ _ _ _ h2 h4 mH oM he
theorem FX {ok:Nat→Prop} {x:AV} {IM:Prop} {u:Value} (h:MD x=some IM) (hx:aj β bx w ok x u):∃a n c,u=.slice a n c∧(a.isNone=true→IM):=by
 unfold MD at h
 split at h
 ·simp only [osI] at h;subst h
  simp only [aj,aK] at hx
  obtain ⟨base,cap,rfl,_,h3⟩:=hx
  refine ⟨_,_,_,rfl,fun hb=>?_⟩
  rcases h3 with h3|⟨_,_,_,rfl,_⟩
  ·exact h3
  simp at hb
 ·simp only [osI] at h;subst h
  simp only [aj] at hx
  obtain ⟨base,rfl,h3⟩:=hx
  refine ⟨_,_,_,rfl,fun hb=>?_⟩
  rcases h3 with h3|⟨_,_,_,rfl,_⟩
  ·exact h3
  simp at hb
 ·simp only [osI] at h;subst h
  simp only [aj] at hx
  obtain ⟨_,⟨h1,base,rfl⟩|⟨h1,cap,c,e,f,rfl,_⟩⟩:=hx
  ·exact ⟨_,_,_,rfl,fun _=>h1⟩
  exact ⟨_,_,_,rfl,fun hb=>by simp at hb⟩
 simp at h
theorem Je (t e:TypeId) (a:Option Addr) (n c:Nat) (h:P.underlying t=some (.slice e)):(Go.binOp .eql t (.slice a n c) (.slice none 0 0)).run P w=.ok (.bool a.isNone) w:=by
 simp only [Go.binOp]
 simp [Op.equal,Op.maxDepth,Lib.run_equalIn_slice_nil w 9999 t e a n c 0 0 h]
theorem Jf (t e:TypeId) (a:Option Addr) (n c:Nat) (h:P.underlying t=some (.slice e)):(Go.binOp .neq t (.slice a n c) (.slice none 0 0)).run P w=.ok (.bool (!a.isNone)) w:=by
 simp only [Go.binOp]
 simp [Op.equal,Op.maxDepth,Lib.run_equalIn_slice_nil w 9999 t e a n c 0 0 h]
theorem mT (hT:kw P T) (hF:Fr G N ds β w X s a) {o:Oper} {K:AV→List az→Prop} {Q:Ex→St→Prop} {next:Act→World→Prop} {Qc:Exit→Act→World→Prop}
 (h:qq (bC P G) T G o s K Q) (hn:Af G β s.bx w X a o.dst K next) (hp:Pn G β s.bx w X a (fun v bx=>Q (.panic v) ⟨[],bx⟩) Qc):o.wp P a w next Qc:=by
 have iE:∀x,(cm G s.sl x).ok→aj β s.bx w (bt β s.bx w X) (cm G s.sl x).aS (a.eval x):=fun x hx=>j9 (hF.eval x) hx
 unfold qq at h
 unfold Oper.wp
 split at h
 ·
  rename_i c x y ho
  split at h
  ·rename_i p hc
   obtain ⟨⟨h1,h2,h3⟩,hK⟩:=h
   have vW:=iE c h1
   rw [hc] at vW;simp only [aj,aK] at vW
   refine cQ (v:=_) (aR:=s.bx) (dB.pure (u:=if p then a.eval x else a.eval y) hF.cx ?_ (Ah (fun hp=>iE x (h2 hp)) (fun hp=>iE y (h3 hp)))) hK hn
   simp [execOp,ho,vW,asBool]
  exact h.elim
 ·
  rename_i f args ats ho
  split at h
  ·rename_i i as FY
   obtain ⟨⟨h1,h2⟩,h⟩:=h
   obtain ⟨fs,cs,e1,e2⟩:=l6 FY (iE f h1) (iw args.toList (fun y hy=>iE y (dz h2 y hy)))
   rw [kH ho e1]
   rcases h with h|h
   ·refine gD (I9 hF.cx e2 h) ?_ ?_ ?_
    ·rintro v w' ⟨β',aR,v',u,e,ex,cx,hv,hK⟩
     cases e
     exact hn β' aR w' v' v ex cx hv hK
    ·rintro ch w' ⟨_,_,_,_,e,_⟩;cases e
    rintro w' ⟨_,_,_,_,e,_⟩;cases e
   refine gD (CQ hF.cx e2 h) ?_ ?_ ?_
   ·rintro v w' ⟨β',aR,v',u,ex,cx,hv,⟨e,hK⟩|⟨e,_⟩⟩
    ·cases e;exact hn β' aR w' v' v ex cx hv hK
    cases e
   ·rintro ch w' ⟨β',aR,v',u,ex,cx,hv,⟨e,_⟩|⟨e,hK⟩⟩
    ·cases e
    cases e;exact hp β' aR w' v' u ex cx hv hK
   rintro w' ⟨_,_,_,_,_,_,_,⟨e,_⟩|⟨e,_⟩⟩<;>cases e
  exact h.elim
 ·
  rename_i x ho
  split at h
  ·rename_i t v hx
   obtain ⟨h1,h2⟩:=h
   have hx':=iE x h1
   rw [hx] at hx'
   have IN:=hx'
   simp only [aj] at IN
   obtain ⟨u,e,_⟩:=IN
   have hr:(execOp a.eval o).run P w=.halt (.panic (a.eval x)) w:=by
    simp [execOp,ho,e,Instr.panic,goPanic,Sem.run]
   rw [hr,Oper.upon_panic]
   exact hp β s.bx w _ _ (Ext.refl _ _ _) hF.cx hx' h2
  exact h.elim
 ·
  rename_i t x ho
  cases ht:T t with
  |none=>simp [ht] at h
  |some ti=>
  obtain ⟨i,d,h1,h2,h3,h4,h5,h6⟩:=aJ (hT.ti _ _ ht)
  simp only [ht,h5] at h
  split at h
  ·rename_i str hk hx
   obtain ⟨k1,k2⟩:=h
   cases d<;>simp [cW] at hk
   have hx':=iE x k1
   rw [hx] at hx';simp only [aj,aK] at hx'
   refine cQ (v:=.ptr s.bx.length 0) (aR:=s.bx++[.it str 0]) ⟨kX β s.bx.length w.heap.size,{w with heap:=w.heap.push (.stringIter ⟨str.toArray⟩ 0)},fS _ _,kG hF.cx (.stringIter ⟨str.toArray⟩ 0) (.it str 0) (by simp only [dj];exact jh _ _),.inl ⟨.pointer (some ⟨w.heap.size,0,none⟩),?_,?_⟩⟩ k2 hn
   ·simp only [execOp,ho]
    exact bN _ (by rw [hx'];simp [Instr.range,aV h2,newObj,Sem.run])
   simp only [aj,bz];exact ⟨trv,.it str 0,by simp,rfl⟩
  exact h.elim
 ·rename_i it ho
  split at h
  ·rename_i b hx
   split at h
   ·rename_i str pos hb
    obtain ⟨k1,⟨k2,k3⟩⟩:=h
    have hx':=iE it k1
    rw [hx] at hx';simp only [aj] at hx'
    obtain ⟨hx',_⟩:=hx'
    have FZ:=hF.cx.box b _ hb
    simp only [dj] at FZ
    have hsz:(⟨str.toArray⟩:ByteArray).size=str.length:=by show str.toArray.size=_;simp
    by_cases hp:pos<str.length
    ·refine cQ (v:=_) (aR:=_) ⟨β,{w with heap:=w.heap.setIfInBounds (β b) (.stringIter ⟨str.toArray⟩ (pos+(Utf8.decode ⟨str.toArray⟩ pos).2))},?_,?_,.inl ⟨.tuple #[.bool true,.int .i64 pos,.int .i32 (Utf8.decode ⟨str.toArray⟩ pos).1],?_,?_⟩⟩ (k2 hp) hn
     ·exact CR hb FZ
     ·exact MQ hF.cx hb FZ
     ·simp only [execOp,ho]
      exact bN _ (by rw [hx'];simp [Instr.next,getObj,setObj,Sem.run,FZ,hsz,hp,goInt])
     simp only [aj,ak,aK];exact ⟨_,rfl,_,_,rfl,rfl,_,_,rfl,rfl,_,_,rfl,rfl,rfl⟩
    refine cQ (v:=_) (aR:=s.bx) (dB.pure (u:=.tuple #[.bool false]) hF.cx ?_ ?_) (k3 hp) hn
    ·simp only [execOp,ho]
     exact bN _ (by rw [hx'];simp [Instr.next,getObj,Sem.run,FZ,hsz,hp])
    simp only [aj,ak,aK];exact ⟨_,rfl,_,_,rfl,rfl,rfl⟩
   exact h.elim
  exact h.elim
 ·
  rename_i ty x t2 ho
  split at h
  ·rename_i ti IM ht he
   split at h
   ·rename_i e hk
    obtain ⟨i,d,h1,h2,h3,h4,h5,h6⟩:=aJ (hT.ti _ _ ht)
    obtain ⟨k1,⟨k2⟩⟩:=h
    rw [h5] at hk;cases d<;>simp [cW] at hk
    obtain ⟨a',n,c,hu,D1⟩:=FX he (iE x k1)
    refine cQ (v:=.d (.bool a'.isNone)) (aR:=s.bx) (dB.pure (u:=.bool a'.isNone) hF.cx ?_ (by simp only [aj,aK])) (k2 _ D1) hn
    simp only [execOp,ho]
    exact bN _ (by simp [hu,eqGuard,show a.eval (Operand.const (Value.slice none 0 0))=Value.slice none 0 0 from rfl,Je (w:=w) _ _ _ _ _ h2])
   exact h.elim
  exact h.elim
 ·rename_i ty x t2 ho
  split at h
  ·rename_i ti IM ht he
   split at h
   ·rename_i e hk
    obtain ⟨i,d,h1,h2,h3,h4,h5,h6⟩:=aJ (hT.ti _ _ ht)
    obtain ⟨k1,⟨k2⟩⟩:=h
    rw [h5] at hk;cases d<;>simp [cW] at hk
    obtain ⟨a',n,c,hu,D1⟩:=FX he (iE x k1)
    refine cQ (v:=.d (.bool (!a'.isNone))) (aR:=s.bx) (dB.pure (u:=.bool (!a'.isNone)) hF.cx ?_ (by simp only [aj,aK])) (k2 _ D1) hn
    simp only [execOp,ho]
    exact bN _ (by simp [hu,eqGuard,show a.eval (Operand.const (Value.slice none 0 0))=Value.slice none 0 0 from rfl,Jf (w:=w) _ _ _ _ _ h2])
   exact h.elim
  exact h.elim
 ·
  rename_i ty ho
  split at h
  ·rename_i ti ht
   split at h
   ·rename_i mk me hk
    split at h
    ·rename_i te hte
     refine cQ (v:=.zG s.bx.length) (aR:=s.bx++[.mp te.kd.isAgg []]) ⟨kX β s.bx.length w.heap.size,{w with heap:=w.heap.push (.map #[] 0)},fS _ _,kG hF.cx (.map #[] 0) (.mp te.kd.isAgg []) ⟨#[],0,jh _ _,⟨by simp,by simp⟩,by simp [bp]⟩,.inl ⟨.map (some w.heap.size),?_,?_⟩⟩ h hn
     ·simp only [execOp,ho]
      exact bN _ (by simp [Instr.makeMap,newObj,Sem.run])
     simp only [aj,bz];exact ⟨trv,.mp te.kd.isAgg [],by simp,rfl⟩
    exact h.elim
   exact h.elim
  exact h.elim
 ·
  rename_i ty m k Cc ho
  split at h
  ·rename_i tk te ag es kd hm hk
   obtain ⟨o',hg,hK⟩:=h
   obtain ⟨⟨⟨k1,k2⟩,hf⟩,rfl⟩:=hg rfl
   have hkv:=iE k k2
   rw [hk] at hkv;simp only [aj] at hkv
   obtain ⟨v,x,g1,g2,g3⟩:=Ja hT hF.cx hm (iE m k1) hkv hf hK
   refine cQ (v:=v) (aR:=s.bx) (dB.pure (u:=x) hF.cx ?_ g2) g3 hn
   simp only [execOp,ho]
   exact bN _ g1
  exact h.elim
 ·
  rename_i ty m k x ho
  split at h
  ·rename_i b tk te ag es kd vs hm hk hc
   split at h
   ·rename_i dsv CS XE
    obtain ⟨⟨⟨k1,k2,k3⟩,hf,_,ha⟩,hK⟩:=h
    have hkv:=iE k k2
    rw [hk] at hkv;simp only [aj] at hkv
    obtain ⟨w',g1,g2,g3⟩:=FW hT hF.cx hm (iE m k1) hkv (iE x k3) hc CS XE hf ha
    refine cQ (v:=.any) (aR:=_) ⟨β,w',g2,g3,.inr ⟨?_,rfl⟩⟩ hK hn
    simp only [execOp,ho]
    simp [g1]
   exact h.elim
  exact h.elim
 rename_i op e1 e2 e3 e4 e5 e6 e7 e8 e9 e10
 split at h
 ·rename_i c ds hi
  obtain ⟨ds',hg,hK⟩:=h
  obtain ⟨⟨hk,hc⟩,rfl⟩:=hg rfl
  split at hi
  ·rename_i t x i ho
   have ex:=dz hk
   rw [ho] at ex
   obtain ⟨r,k1,k2⟩:=Ag (P:=P) (w:=w) hT hF.cx hi hc (iE x (ex x (by simp [Op.operands]))) (iE i (ex i (by simp [Op.operands])))
   refine cQ (v:=_) (aR:=s.bx) (dB.pure hF.cx ?_ k2) hK hn
   simp only [execOp,ho]
   exact bN _ k1
  simp at hi
 split at h
 ·rename_i c v b hr
  obtain ⟨⟨h1,hc⟩,hK⟩:=h
  exact cQ (Ab (P:=P) hT hF.cx (ρ:=a.eval) (fun x hx=>iE x (dz h1 x hx)) hr hc) hK hn
 exact h.elim
theorem xV (hT:kw P T) (hF:Fr G N ds β w X s a) {o:Oper} {K:AV→Prop} {next:Act→World→Prop} {Qc:Exit→Act→World→Prop}
 (h:stepG (bC P G) T G true o s K) (hn:Af G β s.bx w X a o.dst (fun v bx=>K v∧bx=s.bx) next):o.wp P a w next Qc:=by
 have iE:∀x,(cm G s.sl x).ok→aj β s.bx w (bt β s.bx w X) (cm G s.sl x).aS (a.eval x):=fun x hx=>j9 (hF.eval x) hx
 have h:=h.resolve_left (fun hh=>by simp at hh)
 rcases h with h|⟨c,es,hr,hg,hK⟩
 rotate_left
 ·obtain ⟨h1,hc⟩:=hg rfl
  unfold Oper.wp
  exact cQ (CO (P:=P) hT hF.cx (ρ:=a.eval) (fun x hx=>iE x (dz h1 x hx)) hr hc) ⟨hK,rfl⟩ hn
 unfold vZ at h
 unfold Oper.wp
 split at h
 ·
  rename_i c x y ho
  split at h
  ·rename_i p hc
   obtain ⟨hg,hK⟩:=h
   obtain ⟨h1,h2,h3⟩:=hg rfl
   have vW:=iE c h1
   rw [hc] at vW;simp only [aj,aK] at vW
   refine cQ (v:=_) (aR:=s.bx) (dB.pure (u:=if p then a.eval x else a.eval y) hF.cx ?_ (Ah (fun hp=>iE x (h2 hp)) (fun hp=>iE y (h3 hp)))) ⟨hK,rfl⟩ hn
   simp [execOp,ho,vW,asBool]
  exact h.elim
 ·
  rename_i f args ats ho
  split at h
  ·rename_i i as FY
   obtain ⟨v,hg,hK⟩:=h
   obtain ⟨⟨h1,h2⟩,hq⟩:=hg rfl
   obtain ⟨fs,cs,e1,e2⟩:=l6 FY (iE f h1) (iw args.toList (fun y hy=>iE y (dz h2 y hy)))
   rw [kH ho e1]
   refine gD (lg (K:=fun v bx=>K v∧bx=s.bx) hF.cx e2 hq ⟨hK,rfl⟩) ?_ ?_ ?_
   ·rintro v w' ⟨β',aR,v',u,e,ex,cx,hv,hK⟩
    cases e
    exact hn β' aR w' v' v ex cx hv hK
   ·rintro ch w' ⟨_,_,_,_,e,_⟩;cases e
   rintro w' ⟨_,_,_,_,e,_⟩;cases e
  exact h.elim
 ·
  rename_i f nm args ats ho
  split at h
  ·rename_i i as FY
   obtain ⟨v,hg,hK⟩:=h
   obtain ⟨⟨h1,h2⟩,hq⟩:=hg rfl
   obtain ⟨t,ti,u,k1,k2,k3,e2⟩:=CP hT FY (iE f h1) (iw args.toList (fun y hy=>iE y (dz h2 y hy)))
   rw [xU hT ho k1 k2 k3]
   refine gD (lg (K:=fun v bx=>K v∧bx=s.bx) hF.cx e2 hq ⟨hK,rfl⟩) ?_ ?_ ?_
   ·rintro v w' ⟨β',aR,v',u,e,ex,cx,hv,hK⟩
    cases e
    exact hn β' aR w' v' v ex cx hv hK
   ·rintro ch w' ⟨_,_,_,_,e,_⟩;cases e
   rintro w' ⟨_,_,_,_,e,_⟩;cases e
  exact h.elim
 rename_i op e1 e2 e3
 split at h
 ·rename_i c ds hi
  obtain ⟨ds',hg,hK⟩:=h
  obtain ⟨⟨hk,hc⟩,rfl⟩:=hg rfl
  split at hi
  ·rename_i t x i ho
   have ex:=dz hk
   rw [ho] at ex
   obtain ⟨r,k1,k2⟩:=Ag (P:=P) (w:=w) hT hF.cx hi hc (iE x (ex x (by simp [Op.operands]))) (iE i (ex i (by simp [Op.operands])))
   refine cQ (v:=_) (aR:=s.bx) (dB.pure hF.cx ?_ k2) ⟨hK,rfl⟩ hn
   simp only [execOp,ho]
   exact bN _ k1
  simp at hi
 split at h
 ·rename_i c v hr
  obtain ⟨hg,hK⟩:=h
  obtain ⟨h1,hc⟩:=hg rfl
  exact cQ (Ab (P:=P) hT hF.cx (ρ:=a.eval) (fun x hx=>iE x (dz h1 x hx)) hr hc) ⟨hK,rfl⟩ hn
 exact h.elim
theorem Ai {o:Oper} {K:AV→Prop} (h:stepG (bC P G) T G false o s K):∃v,K v:=by
 rcases h with ⟨_,h⟩|h|⟨_,_,_,_,hK⟩
 ·exact h
 rotate_left
 ·exact ⟨_,hK⟩
 unfold vZ at h
 split at h
 ·split at h
  ·exact ⟨_,h.2⟩
  exact h.elim
 ·split at h
  ·obtain ⟨v,_,hK⟩:=h;exact ⟨v,hK⟩
  exact h.elim
 ·split at h
  ·obtain ⟨v,_,hK⟩:=h;exact ⟨v,hK⟩
  exact h.elim
 split at h
 ·obtain ⟨ds,_,hK⟩:=h;exact ⟨_,hK⟩
 split at h
 ·exact ⟨_,h.2⟩
 exact h.elim
theorem lm (hF:Fr G N ds β w X s a) {ops:Array Oper} {j:Nat} {want g:Bool} (h:guardOf s.sl ops.toList j want=some g):(yielded ops a.tmps j==some want)=g:=by
 unfold guardOf at h
 have hj:ops.toList[j]?=ops[j]?:=by simp
 rw [hj] at h
 split at h
 ·rename_i o ho
  split at h
  ·rename_i t hd
   have hr:=hF.zk t
   have hy:∀v:Value,a.tmps.getD t undef=v→v≠undef→a.tmps[t]?=some v:=by
    intro v hv hu
    rw [Array.getD_eq_getD_getElem?] at hv
    cases hq:a.tmps[t]? with
    |none=>rw [hq] at hv;simp at hv;exact absurd hv.symm hu
    |some u=>rw [hq] at hv;simp at hv;rw [hv]
   unfold yielded
   rw [ho]
   simp only [Option.bind_some,hd]
   split at h
   ·rename_i q hq
    rw [hq] at hr;simp only [aj,aK] at hr
    simp only [osI] at h;subst h
    rw [hy _ hr (by simp [undef])]
    cases q<;>cases want<;>rfl
   ·rename_i p q hq
    rw [hq] at hr;simp only [aj,aK] at hr
    simp only [osI] at h;subst h
    cases p with
    |true=>
     rw [hy _ (hr.1 rfl) (by simp [undef])]
     cases q<;>cases want<;>rfl
    |false=>
     have hu:=hr.2 rfl
     cases hq2:a.tmps[t]? with
     |none=>simp
     |some u=>
      have:u=undef:=by rw [Array.getD_eq_getD_getElem?,hq2] at hu;simpa using hu
      subst this
      simp [undef]
   simp at h
  simp at h
 simp at h
end
end Dem
end
section
open Go
namespace Dem
section
variable {P:Program} {T:Nat→Option TI} {G:Nat→Option (List D)} {N:Nat} {ds:List Deferred} {X:Nat→Prop}
def fW (G:Nat→Option (List D)) (N:Nat) (ds:List Deferred) (X:Nat→Prop) (β0:Nat→Nat) (aF:List az) (w0:World) (Q:Ex→St→Prop):Exit→Act→World→Prop
 |.normal,a,w=>∃β s,Ext β0 aF w0 β s.bx w∧Fr G N ds β w X s a∧Q .normal s
 |.exit id,a,w=>∃β s,Ext β0 aF w0 β s.bx w∧Fr G N ds β w X s a∧Q (.exit id) s
 |.ret,a,w=>∃β s,Ext β0 aF w0 β s.bx w∧Fr G N ds β w X s a∧Q .ret s
 |.panic ch,a,w=>∃β bx v u,ch=[{v:=u,recovered:=false}]∧Ext β0 aF w0 β bx w∧cI G β bx w X∧aj β bx w (bt β bx w X) v u∧a.defers=ds∧Q (.panic v) ⟨[],bx⟩
 |_,_,_=>False
variable {β0:Nat→Nat} {aF:List az} {w0:World}
theorem fW.imp {Q Q':Ex→St→Prop} {e:Exit} {a:Act} {w:World} (h:∀e s,Q e s→Q' e s) (hl:fW G N ds X β0 aF w0 Q e a w):fW G N ds X β0 aF w0 Q' e a w:=by
 cases e<;>simp only [fW] at hl ⊢
 ·obtain ⟨β,s,h1,h2,h3⟩:=hl;exact ⟨β,s,h1,h2,h _ _ h3⟩
 ·obtain ⟨β,s,h1,h2,h3⟩:=hl;exact ⟨β,s,h1,h2,h _ _ h3⟩
 ·obtain ⟨β,s,h1,h2,h3⟩:=hl;exact ⟨β,s,h1,h2,h _ _ h3⟩
 obtain ⟨β,bx,v,u,h1,h2,h3,h4,h5,h6⟩:=hl;exact ⟨β,bx,v,u,h1,h2,h3,h4,h5,h _ _ h6⟩
theorem D8 {β:Nat→Nat} {w:World} {s:St} {a:Act} (hF:Fr G N ds β w X s a) {o:Oper} {K:AV→Prop} {next:Act→World→Prop} {Qc:Exit→Act→World→Prop}
 (h:tB (bC P G) G true o s K) (hn:Af G β s.bx w X a o.dst (fun v bx=>K v∧bx=s.bx) next):o.wp P a w next Qc:=by
 have iE:∀x,(cm G s.sl x).ok→aj β s.bx w (bt β s.bx w X) (cm G s.sl x).aS (a.eval x):=fun x hx=>j9 (hF.eval x) hx
 unfold tB at h
 unfold Oper.wp
 split at h
 ·rename_i f args ats ho
  split at h
  ·rename_i i as FY
   obtain ⟨v,hg,hK⟩:=h
   obtain ⟨⟨h1,h2⟩,hc⟩:=hg rfl
   obtain ⟨fs,cs,e1,e2⟩:=l6 FY (iE f h1) (iw args.toList (fun y hy=>iE y (dz h2 y hy)))
   rw [kH ho e1]
   refine gD (CQ (K:=fun v bx=>K v∧bx=s.bx) (Kp:=fun _ _=>False) hF.cx e2 ⟨⟨as,s.bx,.ret v,s.bx,.inl ⟨rfl,rfl⟩,hc,hK,rfl⟩⟩) ?_ ?_ ?_
   ·rintro v w' ⟨β',aR,v',u,ex,cx,hv,⟨e,hK⟩|⟨e,_⟩⟩
    ·cases e;exact hn β' aR w' v' v ex cx hv hK
    cases e
   ·rintro ch w' ⟨β',aR,v',u,ex,cx,hv,⟨e,_⟩|⟨e,hK⟩⟩
    ·cases e
    exact hK.elim
   rintro w' ⟨_,_,_,_,_,_,_,⟨e,_⟩|⟨e,_⟩⟩<;>cases e
  exact h.elim
 exact h.elim
theorem F0 {FC:Nat→List AV→List az→iR→List az→Prop} {g:Bool} {o:Oper} {s:St} {K:AV→Prop} (h:tB FC G g o s K):∃v,K v:=by
 unfold tB at h
 split at h
 ·split at h
  ·obtain ⟨v,_,hK⟩:=h;exact ⟨v,hK⟩
  exact h.elim
 exact h.elim
theorem l7 (hT:kw P T) {ops:Array Oper} {Q:Ex→St→Prop}:∀(l:List Oper) (β:Nat→Nat) (w:World) (s:St) (a:Act),Ext β0 aF w0 β s.bx w→Fr G N ds β w X s a→
 Fm (bC P G) T G N ops.toList l Q s→wpList P ops (fW G N ds X β0 aF w0 Q) l a w
 |[],β,w,s,a,ex,hF,h=>⟨β,s,ex,hF,h⟩
 |o::l,β,w,s,a,ex,hF,h=>by
  unfold Fm at h
  cases hd:gX N o.dst with
  |false=>simp [hd] at h
  |true=>
  simp only [hd,cond_true] at h
  refine wpList_step fun KK Zq=>?_
  split at h
  ·rename_i hg
   rw [if_pos (by simp [Region.wanted,hg])]
   refine mT hT hF h ?_ ?_
   ·intro β' aR w' v u qc mG hv hK
    exact Zq _ _ (l7 hT l β' w' ⟨eL o.dst v s.sl,aR⟩ _ (ex.trans qc) (hF.put qc mG hd hv) hK)
   intro β' aR w' v u qc mG hv hK
   exact ⟨β',aR,v,u,rfl,ex.trans qc,mG,hv,hF.defers,hK⟩
  rename_i j want hg
  split at h
  ·rename_i g IQ
   have hy:=lm hF IQ
   cases g with
   |true=>
    rw [if_pos (by simp only [Region.wanted,hg];exact hy)]
    rcases h with h|h
    case inr=>
     refine D8 hF h ?_
     rintro β' aR w' v u qc mG hv ⟨hK,rfl⟩
     refine Zq _ _ (l7 hT l β' w' ⟨eL o.dst (.cond true v) s.sl,s.bx⟩ _ (ex.trans qc) (hF.put qc mG hd ?_) hK)
     simp only [aj];exact ⟨fun _=>hv,by simp⟩
    refine xV hT hF h ?_
    rintro β' aR w' v u qc mG hv ⟨hK,rfl⟩
    refine Zq _ _ (l7 hT l β' w' ⟨eL o.dst (.cond true v) s.sl,s.bx⟩ _ (ex.trans qc) (hF.put qc mG hd ?_) hK)
    simp only [aj];exact ⟨fun _=>hv,by simp⟩
   |false=>
    rw [if_neg (by simp only [Region.wanted,hg];rw [hy];simp)]
    obtain ⟨v,hK⟩:∃v,Fm (bC P G) T G N ops.toList l Q ⟨eL o.dst (.cond false v) s.sl,s.bx⟩:=by
     rcases h with h|h
     ·exact Ai h
     exact F0 h
    refine Zq _ _ (l7 hT l β w ⟨eL o.dst (.cond false v) s.sl,s.bx⟩ _ ex (hF.put (Ext.refl _ _ _) hF.cx hd ?_) hK)
    simp only [aj];simp
  exact h.elim
def qD (P:Program) (T:Nat→Option TI) (G:Nat→Option (List D)):Prop:=
 ∀(N:Nat) (ds:List Deferred) (X:Nat→Prop) (β0:Nat→Nat) (aF:List az) (w0:World) (id:Nat) (ops:Array Oper) (Q:Ex→St→Prop) (β:Nat→Nat) (w:World) (s:St) (a:Act),
  Ext β0 aF w0 β s.bx w→Fr G N ds β w X s a→OU (bC P G) T G N ops.toList Q s→(Code.region id ops true).wp P (fW G N ds X β0 aF w0 Q) a w
end
end Dem
end
section
open Go
namespace Dem
section
variable {P:Program} {T:Nat→Option TI} {G:Nat→Option (List D)} {β:Nat→Nat} {bx:List az} {w:World} {X:Nat→Prop}
theorem fh {n i:Nat} {b:az} (h:(bx.take n)[i]?=some b):bx[i]?=some b∧i<n:=by
 rw [List.getElem?_take] at h
 split at h
 ·exact ⟨h,by assumption⟩
 simp at h
theorem F1 (n:Nat) (blk:Nat) (h:bt β bx w X blk):bt β (bx.take n) w X blk:=
 ⟨h.1,h.2.1,fun i b hb hl=>h.2.2 i b (fh hb).1 hl⟩
mutual
theorem oO {n:Nat} {ok ok':Nat→Prop} (h:∀blk,ok blk→ok' blk):∀(x:AV) (v:Value),x.within n=true→aj β bx w ok x v→aj β (bx.take n) w ok' x v
 |.any,_,_,_=>by simp [aj]
 |.d x,v,_,hv=>by simp only [aj] at hv ⊢;exact aK.mono (fun blk hb=>⟨h blk hb,rfl⟩) _ _ hv
 |.k c,v,_,hv=>by simpa [aj] using hv
 |.agg cs,v,hs,hv=>by
  simp only [aj] at hv ⊢;obtain ⟨vs,h1,h2⟩:=hv
  exact ⟨vs,h1,iL h cs vs (by simpa [AV.within] using hs) h2⟩
 |.eE cs,v,hs,hv=>by
  simp only [aj] at hv ⊢;obtain ⟨vs,h1,h2⟩:=hv
  exact ⟨vs,h1,iL h cs vs (by simpa [AV.within] using hs) h2⟩
 |.ptr b off,v,hs,hv=>by
  simp only [aj] at hv ⊢
  have hb:b<n:=by simpa [AV.within,Nat.blt_eq] using hs
  obtain ⟨h1,B,h2,h3⟩:=hv
  exact ⟨h1,B,by rw [List.getElem?_take,if_pos hb];exact h2,h3⟩
 |.zG b,v,hs,hv=>by
  simp only [aj] at hv ⊢
  have hb:b<n:=by simpa [AV.within,Nat.blt_eq] using hs
  obtain ⟨h1,B,h2,h3⟩:=hv
  exact ⟨h1,B,by rw [List.getElem?_take,if_pos hb];exact h2,h3⟩
 |.rp b sz i j,v,hs,hv=>by
  simp only [aj] at hv ⊢
  have hb:b<n:=by simpa [AV.within,Nat.blt_eq] using hs
  obtain ⟨h1,B,h2,h3⟩:=hv
  exact ⟨h1,B,by rw [List.getElem?_take,if_pos hb];exact h2,h3⟩
 |.ow b sz m,v,hs,hv=>by
  simp only [aj] at hv ⊢
  have hb:b<n:=by simpa [AV.within,Nat.blt_eq] using hs
  obtain ⟨⟨B,h2,h3⟩,h1⟩:=hv
  exact ⟨⟨B,by rw [List.getElem?_take,if_pos hb];exact h2,h3⟩,h1⟩
 |.vw b sz off m c ex,v,hs,hv=>by
  simp only [aj] at hv ⊢
  have hb:b<n:=by simpa [AV.within,Nat.blt_eq] using hs
  obtain ⟨⟨B,h2,h3⟩,h1⟩:=hv
  exact ⟨⟨B,by rw [List.getElem?_take,if_pos hb];exact h2,h3⟩,h1⟩
 |.ep ds,v,_,hv=>by
  simp only [aj] at hv ⊢;obtain ⟨blk,off,h1,h2,h3⟩:=hv
  exact ⟨blk,off,h1,h blk h2,bf.mono (fun blk hb=>⟨h blk hb,rfl⟩) blk (fun _=>rfl) _ _ h3⟩
 |.cl es,v,_,hv=>by
  simp only [aj] at hv ⊢;obtain ⟨base,h1,h2⟩:=hv
  refine ⟨base,h1,h2.imp id ?_⟩
  rintro ⟨blk,off,sz,e1,e2,e3⟩
  exact ⟨blk,off,sz,e1,h blk e2,ax.mono (fun blk hb=>⟨h blk hb,rfl⟩) blk sz (fun _=>rfl) _ _ e3⟩
 |.fn f cs,v,hs,hv=>by
  simp only [aj] at hv ⊢;obtain ⟨vs,h1,h2⟩:=hv
  exact ⟨vs,h1,iL h cs vs (by simpa [AV.within] using hs) h2⟩
 |.sI t x,v,hs,hv=>by
  simp only [aj] at hv ⊢;obtain ⟨u,h1,h2⟩:=hv
  exact ⟨u,h1,oO h x u (by simpa [AV.within] using hs) h2⟩
 |.cond p x,v,hs,hv=>by
  simp only [aj] at hv ⊢
  exact ⟨fun hp=>oO h x v (by simpa [AV.within] using hs) (hv.1 hp),hv.2⟩
theorem iL {n:Nat} {ok ok':Nat→Prop} (h:∀blk,ok blk→ok' blk):∀(xs:List AV) (vs:List Value),AV.within.rU n xs=true→ak β bx w ok xs vs→ak β (bx.take n) w ok' xs vs
 |[],vs,_,hv=>by simpa [ak] using hv
 |x::xs,vs,hs,hv=>by
  simp only [ak] at hv ⊢
  obtain ⟨u,us,h1,h2,h3⟩:=hv
  simp only [AV.within.rU,Bool.and_eq_true] at hs
  exact ⟨u,us,h1,oO h x u hs.1 h2,iL h xs us hs.2 h3⟩
end
theorem kS {n:Nat}:∀{bs:List az} {i:Nat} {cs:List AV},cu n bs=true→bs[i]?=some (.var cs)→AV.within.rU n cs=true
 |[],i,cs,_,hi=>by simp at hi
 |b::bs,0,cs,h,hi=>by
  simp at hi;subst hi
  simp only [cu,Bool.and_eq_true] at h
  exact h.1
 |b::bs,i+1,cs,h,hi=>by
  simp at hi
  refine kS (i:=i) ?_ hi
  cases b<;>simp [cu] at h<;>first|exact h|exact h.2
theorem F2 (cx:cI G β bx w X) {n:Nat} (hw:cu n (bx.take n)=true):cI G β (bx.take n) w X:=by
 have hk:∀blk,bt β bx w X blk→bt β (bx.take n) w X blk:=fun blk h=>F1 n blk h
 have hkeep:iZ w w (bt β bx w X) (bt β (bx.take n) w X):=fun blk hb=>⟨hk blk hb,rfl⟩
 refine ⟨cx.xs,?_,?_,?_,?_⟩
 ·intro g ds hg
  obtain ⟨h1,h2⟩:=cx.yU g ds hg
  exact ⟨hk g h1,bf.mono hkeep g (fun _=>rfl) _ _ h2⟩
 ·intro i j bi bj hi hj
  exact cx.inj i j bi bj (fh hi).1 (fh hj).1
 ·intro i b hb
  have h:=cx.box i b (fh hb).1
  cases b with
  |var cs=>
   obtain ⟨c,e,h1,h2⟩:=h
   exact ⟨c,e,h1,iL hk cs _ (kS hw hb) h2⟩
  |row sz es=>
   refine h.imp id ?_
   rintro ⟨c,e,h1,h2⟩
   exact ⟨c,e,h1,ax.mono hkeep _ _ (fun _=>rfl) _ _ h2⟩
  |nE sz es=>
   refine h.imp id ?_
   rintro ⟨h1,h2⟩
   exact ⟨hk _ h1,ax.mono hkeep _ _ (fun _=>rfl) _ _ h2⟩
  |it s p=>exact h
  |mp ag es=>obtain ⟨ms,clock,h1,h2,h3⟩:=h;exact ⟨ms,clock,h1,h2,bp.mono hkeep _ _ _ h3⟩
  |dead=>trivial
  |bB=>trivial
 intro i b hb hl
 exact cx.apart i b (fh hb).1 hl
theorem F3 {β0:Nat→Nat} {aF:List az} {w0:World} (ex:Ext β0 aF w0 β bx w):Ext β0 aF w0 β (bx.take aF.length) w:=by
 refine ⟨ex.os,ex.tape,ex.output,ex.size,ex.block,ex.shape,?_,?_⟩
 ·rintro i ⟨b,hb,dF⟩
  obtain ⟨h1,B,h2,h3⟩:=ex.born i ⟨b,hb,dF⟩
  exact ⟨h1,B,by rw [List.getElem?_take,if_pos (jv hb)];exact h2,h3⟩
 intro i b hb hl
 exact ex.live i b (fh hb).1 hl
theorem MR (cx:cI G β bx w X) {x y:AV} {u:Value} (hd:IY bx x=some y) (h:aj β bx w (bt β bx w X) x u):
 Ext β bx w β (uE bx x) w∧cI G β (uE bx x) w X∧aj β (uE bx x) w (bt β (uE bx x) w X) y u:=by
 cases x with
 |eE cs=>
  simp only [IY,Option.map_eq_some_iff] at hd
  obtain ⟨ys,h1,rfl⟩:=hd
  simp only [aj] at h
  obtain ⟨vs,rfl,hvs⟩:=h
  obtain ⟨g1,g2,g3⟩:=lI cs bx ys vs cx h1 hvs
  exact ⟨g1,g2,by simp only [aj];exact ⟨vs,rfl,g3⟩⟩
 |_=>simp only [IY] at hd;simp only [uE];exact CK cx hd h
theorem LC {β0:Nat→Nat} {aF:List az} {w0:World} (cx:cI G β bx w X) (ex:Ext β0 aF w0 β bx w) {k sz m:Nat} {es:List (List D)} (hn:aF.length≤bx.length) (hw:cu aF.length (bx.take aF.length)=true)
 (hk:(es=[]∧m=0)∨(aF.length≤k∧bx[k]?=some (.row sz es))) {u:Value} (hu:es=[]∧m=0∧(∃base,u=.slice base 0 0)∨aj β bx w (bt β bx w X) (.ow k sz m) u):
 ∃β',Ext β0 aF w0 β' (bx.take aF.length++[.row sz es]) w∧cI G β' (bx.take aF.length++[.row sz es]) w X∧
  aj β' (bx.take aF.length++[.row sz es]) w (bt β' (bx.take aF.length++[.row sz es]) w X) (.ow aF.length sz m) u:=by
 have hlen:(bx.take aF.length).length=aF.length:=by simp;omega
 have e1:=F3 ex
 have c1:=F2 cx hw
 have hrow:es≠[]→aF.length≤k∧bx[k]?=some (.row sz es):=fun hne=>hk.resolve_left (fun h=>hne h.1)
 have cA:az.live (.row sz es)=true→es≠[]:=by intro hl;cases es<;>simp [az.live] at hl ⊢
 have hold:∀i b,(bx.take aF.length)[i]?=some b→kX β aF.length (β k) i=β i:=by
  intro i b h
  exact c8 _ _ (by have:=(fh h).2;omega)
 have hinv:∀{i b},(bx.take aF.length++[.row sz es])[i]?=some b→((bx.take aF.length)[i]?=some b)∨(i=aF.length∧b=.row sz es):=by
  intro i b h
  rcases bD h with ⟨h1,_⟩|⟨h1,h2⟩
  ·exact .inl h1
  exact .inr ⟨by omega,h2⟩
 have e2:Ext β0 aF w0 (kX β aF.length (β k)) (bx.take aF.length++[.row sz es]) w:=by
  refine ⟨ex.os,ex.tape,ex.output,ex.size,ex.block,ex.shape,?_,?_⟩
  ·intro i hi
   obtain ⟨h1,b,h2,h3⟩:=e1.born i hi
   exact ⟨by rw [hold i b h2];exact h1,b,eJ h2,h3⟩
  intro i b h hl
  rcases hinv h with h1|⟨rfl,rfl⟩
  ·rw [hold i b h1];exact e1.live i b h1 hl
  rw [bz];exact ex.live k _ (hrow (cA hl)).2 hl
 have hok:∀blk,bt β bx w X blk→bt (kX β aF.length (β k)) (bx.take aF.length++[.row sz es]) w X blk:=by
  rintro blk ⟨k1,k2,k3⟩
  refine ⟨k1,k2,?_⟩
  intro i b h hl
  rcases hinv h with h1|⟨rfl,rfl⟩
  ·rw [hold i b h1];exact k3 i b (fh h1).1 hl
  rw [bz];exact k3 k _ (hrow (cA hl)).2 hl
 have hkeep:iZ w w (bt β bx w X) (bt (kX β aF.length (β k)) (bx.take aF.length++[.row sz es]) w X):=fun blk hb=>⟨hok blk hb,rfl⟩
 have qE:sQ β (bx.take aF.length) w (bt β bx w X) (kX β aF.length (β k)) (bx.take aF.length++[.row sz es]) w (bt (kX β aF.length (β k)) (bx.take aF.length++[.row sz es]) w X):=by
  refine ⟨hkeep,?_,fun _ c _ _ h=>⟨c,h,rfl⟩⟩
  rintro i ⟨b,hb,h3⟩
  exact ⟨hold i b hb,b,eJ hb,h3⟩
 refine ⟨_,e2,⟨cx.xs,?_,?_,?_,?_⟩,?_⟩
 ·intro g ds hg
  obtain ⟨h1,h2⟩:=cx.yU g ds hg
  exact ⟨hok g h1,bf.mono hkeep g (fun _=>rfl) _ _ h2⟩
 ·intro i j bi bj hi hj mH oM he
  rcases hinv hi with h1|⟨rfl,rfl⟩<;>rcases hinv hj with h2|⟨rfl,rfl⟩
  ·rw [hold i bi h1,hold j bj h2] at he
   exact c1.inj i j bi bj h1 h2 mH oM he
  ·rw [hold i bi h1,bz] at he
   obtain ⟨r1,r2⟩:=hrow (cA oM)
   have:=cx.inj i k bi _ (fh h1).1 r2 mH oM he
   have:=(fh h1).2;omega
  ·rw [hold j bj h2,bz] at he
   obtain ⟨r1,r2⟩:=hrow (cA mH)
   have:=cx.inj k j _ bj r2 (fh h2).1 mH oM he
   have:=(fh h2).2;omega
  rfl
 ·intro i b hb
  rcases hinv hb with h1|⟨rfl,rfl⟩
  ·rw [hold i b h1]
   have h:=cx.box i b (fh h1).1
   cases b with
   |var cs=>
    obtain ⟨c,e,g1,g2⟩:=h
    exact ⟨c,e,g1,ak.mono qE _ _ (iL (fun _ hb=>hb) cs _ (kS hw h1) g2)⟩
   |row sz es=>
    refine h.imp id ?_
    rintro ⟨c,e,g1,g2⟩
    exact ⟨c,e,g1,ax.mono hkeep _ _ (fun _=>rfl) _ _ g2⟩
   |nE sz es=>
    refine h.imp id ?_
    rintro ⟨g1,g2⟩
    exact ⟨hok _ g1,ax.mono hkeep _ _ (fun _=>rfl) _ _ g2⟩
   |it s p=>exact h
   |mp ag es=>obtain ⟨ms,clock,h1,h2,h3⟩:=h;exact ⟨ms,clock,h1,h2,bp.mono hkeep _ _ _ h3⟩
   |dead=>trivial
   |bB=>trivial
  rw [bz]
  by_cases hne:es=[]
  ·exact .inl hne
  have h:=cx.box k _ (hrow hne).2
  refine h.imp id ?_
  rintro ⟨c,e,g1,g2⟩
  exact ⟨c,e,g1,ax.mono hkeep _ _ (fun _=>rfl) _ _ g2⟩
 ·intro i b hb hl
  rcases hinv hb with h1|⟨rfl,rfl⟩
  ·rw [hold i b h1];exact cx.apart i b (fh h1).1 hl
  rw [bz];exact cx.apart k _ (hrow (cA hl)).2 hl
 simp only [aj]
 refine ⟨⟨.row sz es,by rw [List.getElem?_append_right (by omega)];simp [hlen],rfl⟩,?_⟩
 rw [bz]
 rcases hu with ⟨_,rfl,base,rfl⟩|hu
 ·exact .inl ⟨rfl,base,rfl⟩
 simp only [aj] at hu
 exact hu.2
theorem kI:∀(ks:List Bool) (bs:List az) (i:Nat) (b':az),(kill ks bs)[i]?=some b'→∃b,bs[i]?=some b∧(b'=b∨(b'=.dead∧b.born=true))
 |[],bs,i,b',h=>⟨b',by simpa [kill] using h,.inl rfl⟩
 |_::_,[],i,b',h=>by simp [kill] at h
 |k::ks,b::bs,0,b',h=>by
  simp only [kill,List.getElem?_cons_zero,osI] at h
  refine ⟨b,rfl,?_⟩
  cases hk:(k&&b.born) with
  |false=>rw [hk] at h;exact .inl h.symm
  |true=>rw [hk] at h;simp at hk;exact .inr ⟨h.symm,hk.2⟩
 |k::ks,b::bs,i+1,b',h=>by
  simp only [kill,List.getElem?_cons_succ] at h
  obtain ⟨b0,h1,h2⟩:=kI ks bs i b' h
  exact ⟨b0,by simpa using h1,h2⟩
theorem F4:∀(ks:List Bool) (bs:List az) (i:Nat) (b:az),bs[i]?=some b→∃b',(kill ks bs)[i]?=some b'∧(b'=b∨(b'=.dead∧b.born=true))
 |[],bs,i,b,h=>⟨b,by simpa [kill] using h,.inl rfl⟩
 |_::_,[],i,b,h=>by simp at h
 |k::ks,b0::bs,0,b,h=>by
  simp only [List.getElem?_cons_zero,osI] at h
  subst h
  refine ⟨_,by simp only [kill,List.getElem?_cons_zero];rfl,?_⟩
  cases hk:(k&&b0.born) with
  |false=>exact .inl rfl
  |true=>simp at hk;exact .inr ⟨rfl,hk.2⟩
 |k::ks,b0::bs,i+1,b,h=>by
  simp only [List.getElem?_cons_succ] at h
  obtain ⟨b',h1,h2⟩:=F4 ks bs i b h
  exact ⟨b',by simpa only [kill,List.getElem?_cons_succ] using h1,h2⟩
theorem SC (ks:List Bool) (cx:cI G β bx w X):Ext β bx w β (kill ks bx) w∧cI G β (kill ks bx) w X:=by
 have ex:Ext β bx w β (kill ks bx) w:=by
  refine ⟨rfl,rfl,rfl,Nat.le_refl _,fun _ _ _=>rfl,fun k c e f h=>⟨c,h,rfl⟩,?_,?_⟩
  ·rintro i ⟨b,h1,h2⟩
   obtain ⟨b',h3,h4⟩:=F4 ks bx i b h1
   refine ⟨rfl,b',h3,?_⟩
   rcases h4 with rfl|⟨rfl,_⟩
   ·exact h2
   rfl
  intro i b h1 h2
  obtain ⟨b0,h3,h4⟩:=kI ks bx i b h1
  rcases h4 with rfl|⟨rfl,_⟩
  ·exact .inr ⟨i,b,h3,h2,rfl⟩
  simp [az.live] at h2
 refine ⟨ex,cx.step ex ?_ ?_⟩
 ·intro i b h1
  obtain ⟨b0,h3,h4⟩:=kI ks bx i b h1
  rcases h4 with rfl|⟨rfl,_⟩
  ·exact .inl ⟨h3,fun _=>rfl⟩
  exact .inr trv
 intro i j bi bj h1 h2 l1 l2 he
 obtain ⟨b1,h3,h4⟩:=kI ks bx i bi h1
 obtain ⟨b2,h5,h6⟩:=kI ks bx j bj h2
 rcases h4 with rfl|⟨rfl,_⟩
 ·rcases h6 with rfl|⟨rfl,_⟩
  ·exact cx.inj i j _ _ h3 h5 l1 l2 he
  simp [az.live] at l2
 simp [az.live] at l1
def D9 (tmps:Array Value) (r:ResultVar):Sem Value:=
 match r with
 |.tmp t=>pure (tmps.getD t undef)
 |.cell a t=>do loadVar t (←asAddr (tmps.getD a undef))
theorem Jg (fn:Func) (tmps:Array Value):results fn tmps=(do let vs ←fn.results.mapM (D9 tmps);pure (if h:vs.size=1 then vs[0] else .tuple vs)):=rfl
theorem Aj (hT:kw P T) {N:Nat} {ds:List Deferred} {s:St} {a:Act} (hF:Fr G N ds β w X s a):∀(rs:List ResultVar) {c:Prop} {vs:List AV},Ci T s.sl s.bx rs=some (c,vs)→c→
 ∃us:List Value,(rs.mapM (D9 a.tmps)).run P w=.ok us w∧ak β s.bx w (bt β s.bx w X) vs us
 |[],c,vs,h,_=>by
  simp [Ci] at h
  obtain ⟨_,rfl⟩:=h
  exact ⟨[],by simp,by simp [ak]⟩
 |.tmp t::r,c,vs,h,hc=>by
  simp only [Ci] at h
  split at h
  ·rename_i c' vs' h'
   simp only [osI,Prod.mk.injEq] at h
   obtain ⟨rfl,rfl⟩:=h
   obtain ⟨us,g1,g2⟩:=Aj hT hF r h' hc.2
   refine ⟨a.tmps.getD t undef::us,?_,?_⟩
   ·rw [List.mapM_cons]
    simp only [Sem.run_bind,g1,D9,Sem.run_pure,Result.andThen_ok]
   simp only [ak];exact ⟨_,_,rfl,j9 (hF.zk t) hc.1,g2⟩
  simp at h
 |.cell t ty::r,c,vs,h,hc=>by
  simp only [Ci] at h
  split at h
  ·rename_i ti c' vs' Vr h'
   split at h
   ·rename_i b o hl
    split at h
    ·rename_i c2 v b2 hld
     simp only [osI,Prod.mk.injEq] at h
     obtain ⟨rfl,rfl⟩:=h
     obtain ⟨us,g1,g2⟩:=Aj hT hF r h' hc.2
     have hp:=hF.zk t
     rw [hl] at hp
     obtain ⟨_,x,k1,k2⟩:=zP (P:=P) hT hF.cx Vr hp hld hc.1
     simp only [aj] at hp
     rw [hp.1] at k1
     refine ⟨x::us,?_,?_⟩
     ·rw [List.mapM_cons]
      have:(loadVar ty ⟨β b,o,none⟩).run P w=.ok x w:=by simpa [Instr.loadAt,Instr.sureAddr] using k1
      simp only [Sem.run_bind,D9,hp.1,asAddr,Sem.run_pure,Result.andThen_ok,this,g1]
     simp only [ak];exact ⟨_,_,rfl,k2,g2⟩
    simp at h
   simp at h
  simp at h
theorem F5 (hT:kw P T) {N:Nat} {ds:List Deferred} {s:St} {a:Act} (hF:Fr G N ds β w X s a) {fn:Func} {c:Prop} {vs:List AV} (h:Ci T s.sl s.bx fn.results.toList=some (c,vs)) (hc:c):
 ∃u,(results fn a.tmps).run P w=.ok u w∧aj β s.bx w (bt β s.bx w X) (CE vs) u:=by
 obtain ⟨us,g1,g2⟩:=Aj hT hF _ h hc
 have hlen:=ak.length g2
 rw [Jg,Array.mapM_eq_mapM_toList]
 simp [g1]
 split
 ·rename_i h1
  match us,vs,h1,hlen,g2 with
  |[u],[v],_,_,g2=>
   simp only [ak,List.cons.injEq] at g2
   obtain ⟨_,_,⟨rfl,rfl⟩,h,_⟩:=g2
   exact h
 rename_i h1
 have:CE vs=.eE vs:=by
  match vs,hlen with
  |[],_=>rfl
  |[v],hl=>exact absurd hl h1
  |_::_::_,_=>rfl
 rw [this];simp only [aj];exact ⟨us,rfl,g2⟩
theorem F6:∀(args:List AV) (i t:Nat),gr t (pV i args)=if i≤t then args.getD (t-i) .any else .any
 |[],i,t=>by simp [pV,gr]
 |x::xs,i,t=>by
  simp only [pV,gr,F6 xs (i+1) t]
  by_cases h:t=i
  ·subst h;simp
  rw [Vp h]
  simp only [cond_false]
  by_cases h2:i≤t
  ·rw [if_pos (by omega),if_pos h2,show t-i=(t-(i+1))+1 by omega];simp
  rw [if_neg (by omega),if_neg h2]
theorem Jh (hT:kw P T) {f N:Nat} {fn:Func} {c:Code} {args:List AV} {aF aR:List az} {res:iR}
 (hN:fn.ntmps=N) (hlen:Nat.ble args.length N=true)
 (h:∀(β:Nat→Nat) (w:World) (X:Nat→Prop) (a:Act),Fr G N [] β w X ⟨pV 0 args,aF⟩ a→c.wp P (fW G N [] X β aF w (Ln T fn.results.toList aF.length res aR)) a w)
 (β:Nat→Nat) (w:World) (vs:List Value) (X:Nat→Prop) (cx:cI G β aF w X) (hx:ak β aF w (bt β aF w X) args vs):
 c.wp P (bodyPost P fn fun e w'=>∃β',Ext β aF w β' aR w'∧cI G β' aR w' X∧lW β' aR w' (bt β' aR w' X) res e) {tmps:=(⟨vs⟩:Array Value)++Array.replicate (fn.ntmps-(⟨vs⟩:Array Value).size) undef,defers:=[]} w:=by
 have hl:=ak.length hx
 have hle:args.length≤N:=Nat.le_of_ble_eq_true hlen
 refine wp_mono (h β w X _ ⟨cx,rfl,?_,?_⟩) ?_
 ·simp [hN,hl];omega
 ·intro t
  rw [F6]
  simp only [Nat.zero_le,if_true,Nat.sub_zero]
  by_cases ht:t<args.length
  ·obtain ⟨v,k1,k2⟩:=ak.get t args[t] hx (by simp [ht])
   have e1:args.getD t .any=args[t]:=by simp [List.getD_eq_getElem?_getD,ht]
   rw [e1]
   have hv:t<vs.length:=by omega
   have e2:vs[t]=v:=by rw [List.getElem?_eq_getElem hv] at k1;simpa using k1
   have e3:(({toList:=vs}:Array Value)++Array.replicate (fn.ntmps-(⟨vs⟩:Array Value).size) undef).getD t undef=v:=by
    simp [Array.getD_eq_getD_getElem?,Array.getElem?_append,hv,e2]
   rw [e3];exact k2
  simp [List.getD_eq_getElem?_getD,List.getElem?_eq_none (Nat.le_of_not_lt ht),aj]
 intro e a' w' OI
 have fin:∀β' s,Ext β aF w β' s.bx w'→Fr G N [] β' w' X s a'→(match Ci T s.sl s.bx fn.results.toList with
  |some (c,vs)=>Uy aF.length c (CE vs) s.bx res aR
  |none=>False)→a'.defers=[]∧∃v,(results fn a'.tmps).run P w'=.ok v w'∧∃β',Ext β aF w β' aR w'∧cI G β' aR w' X∧lW β' aR w' (bt β' aR w' X) res (.returned v):=by
  intro β' s ex hF hq
  split at hq
  ·rename_i c vs' hres
   obtain ⟨hc,hq⟩:=hq
   obtain ⟨u,k1,k2⟩:=F5 hT hF hres hc
   refine ⟨hF.defers,u,k1,?_⟩
   rcases hq with ⟨rfl,rfl⟩|⟨ks,y,q1,q2,rfl,q3,rfl⟩|⟨k,sz,m,es,q0,q1,q2,q3,q4,rfl,rfl⟩|⟨sz,q0,q1,q2,rfl,rfl⟩
   ·exact ⟨β',ex,hF.cx,k2⟩
   ·obtain ⟨e1,c1,r1⟩:=MR hF.cx q1 k2
    obtain ⟨e2,c2⟩:=SC ks c1
    exact ⟨β',F3 ((ex.trans e1).trans e2),F2 c2 q3,oO (fun blk hb=>F1 _ blk hb) y u q2 (aj.mono (e2.eY X) _ _ r1)⟩
   ·rw [q0] at k2
    exact LC hF.cx ex q3 q4 (.inr ⟨q2,q1⟩) (.inr k2)
   rw [q0] at k2
   simp only [aj,List.length_nil] at k2
   obtain ⟨base,k2,_⟩:=k2
   exact LC (k:=0) hF.cx ex q1 q2 (.inl ⟨rfl,rfl⟩) (.inl ⟨rfl,rfl,base,k2⟩)
  exact hq.elim
 cases e<;>simp only [fW,bodyPost] at OI ⊢
 ·obtain ⟨β',s,h1,h2,h3⟩:=OI;exact fin β' s h1 h2 h3
 ·obtain ⟨β',s,h1,h2,h3⟩:=OI;exact h3.elim
 ·obtain ⟨β',s,h1,h2,h3⟩:=OI;exact fin β' s h1 h2 h3
 obtain ⟨β',qo,v,u,h1,h2,h3,h4,h5,h6⟩:=OI
 obtain ⟨rfl,rfl⟩:=h6.ok
 exact ⟨h5,β',h2,h3,u,h1,h4⟩
theorem uU (hT:kw P T) {f N:Nat} {fn:Func} {c:Code} {args:List AV} {aF aR:List az} {res:iR} (hf:P.funcs[f]?=some fn) (hb:fn.body=some c)
 (hname:(fn.name== "runtime.NumGoroutine")=false) (hN:fn.ntmps=N) (hlen:Nat.ble args.length N=true)
 (h:∀(β:Nat→Nat) (w:World) (X:Nat→Prop) (a:Act),Fr G N [] β w X ⟨pV 0 args,aF⟩ a→c.wp P (fW G N [] X β aF w (Ln T fn.results.toList aF.length res aR)) a w):bC P G f args aF res aR:=by
 intro β w vs X cx hx
 refine .inl ⟨?_,calls_of_wp hf hb (Jh (f:=f) hT hN hlen h β w vs X cx hx)⟩
 simp [callFunc,run_program,hf,hb]
 simpa using hname
end
end Dem
end
