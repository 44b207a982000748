/- Parts of a proof, joined. -/
import Derived.Test.YtihohjnkkalgiaaGreatDoorP05
import Derived.WalkSpells
import Derived.Lib.LazyBuf
import Derived.Deep.LoopGhost
import Derived.Defers
set_option linter.all false
set_option maxRecDepth 100000
set_option maxHeartbeats 4000000
section
open Go
namespace Dem
section
variable {P:Program} {T:Nat→Option TI} {G:Nat→Option (List D)} {N:Nat} {ds:List Deferred} {β:Nat→Nat} {bx:List ay} {w:World} {X:Nat→Prop}
structure Fr (G:Nat→Option (List D)) (N:Nat) (ds:List Deferred) (β:Nat→Nat) (w:World) (X:Nat→Prop) (s:St) (a:Act):Prop where
 cx:cz G β s.bx w X
 defers:a.defers=ds
 size:a.tmps.size=N
 xP:∀t,aj β s.bx w (bc β s.bx w X) (fU t s.sl) (a.tmps.getD t undef)
theorem Tl {n m:Nat} (h:n≠m):Nat.beq n m=false:=by
 cases hb:Nat.beq n m with
 |false=>rfl
 |true=>exact absurd (Nat.eq_of_beq_eq_true hb) h
theorem nF (t u:Nat) (v:AV):∀sl:List (Nat×AV),fU t (put u v sl)=if t=u then v else fU t sl
 |[]=>by
  simp only [put,fU]
  by_cases h:t=u
  ·simp [h]
  have:Nat.beq t u=false:=Tl h
  simp [this,h]
 |(k,x)::r=>by
  simp only [put]
  by_cases hk:u=k
  ·subst hk
   have hb:Nat.beq u u=true:=by simp
   simp only [hb,cond_true,fU]
   by_cases h:t=u
   ·simp [h]
   have:Nat.beq t u=false:=Tl h
   simp [this,h]
  have hb:Nat.beq u k=false:=Tl hk
  simp only [hb,cond_false,fU,nF t u v r]
  by_cases h:t=k
  ·subst h
   have:t≠u:=fun e=>hk e.symm
   simp [this]
  have:Nat.beq t k=false:=Tl h
  simp [this]
variable {s:St} {a:Act}
theorem Fr.eval (hF:Fr G N ds β w X s a) (x:Operand):aj β s.bx w (bc β s.bx w X) (bU G s.sl x) (a.eval x):=by
 cases x with
 |tmp t=>exact hF.xP t
 |const v=>exact xA v
 |global g=>
  simp only [bU]
  split
  ·rename_i ds hg
   obtain ⟨h1,h2⟩:=hF.cx.wC g ds hg
   simp only [aj];exact ⟨g,0,rfl,h1,h2⟩
  simp [aj]
 |func f=>simp only [bU,aj];exact ⟨[],rfl,by simp [ak]⟩
theorem jB {ok:Nat→Prop} {x:AV} {v:Value} (h:aj β bx w ok x v) (hk:x.ok):aj β bx w ok x.aL v:=by
 cases x with
 |cond p y=>simp only [aj] at h;exact h.1 hk
 |_=>exact h
theorem dh {sl:List (Nat×AV)}:∀{xs:List Operand},dm (fu G sl xs)→∀x∈xs,(bU G sl x).ok
 |[],_,x,hx=>by simp at hx
 |y::ys,h,x,hx=>by
  simp only [fu,List.map_cons,dm] at h
  rcases List.mem_cons.1 hx with rfl|hx
  ·exact h.1
  exact dh h.2 x hx
theorem Fr.put (hF:Fr G N ds β w X s a) {β':Nat→Nat} {aP:List ay} {w':World} (ex:Ext β s.bx w β' aP w') (lQ:cz G β' aP w' X) {dst:Option Nat} (hd:gx N dst=true)
 {v:AV} {u:Value} (hv:aj β' aP w' (bc β' aP w' X) v u):Fr G N ds β' w' X ⟨ej dst v s.sl,aP⟩ (a.put dst u):=by
 cases dst with
 |none=>exact ⟨lQ,hF.defers,hF.size,fun t=>aj.mono (ex.eN X) _ _ (hF.xP t)⟩
 |some d=>
  have Rw:d<N:=by simpa [gx,Nat.blt_eq] using hd
  refine ⟨lQ,hF.defers,by simp [Act.put,hF.size],?_⟩
  intro t
  simp only [ej,nF,Act.put]
  by_cases h:t=d
  ·subst h
   simp [Array.getD,hF.size,Rw,hv]
  rw [if_neg h]
  have:(a.tmps.setIfInBounds d u).getD t undef=a.tmps.getD t undef:=by
   simp [Array.getD_eq_getD_getElem?,Array.getElem?_setIfInBounds_ne (Ne.symm h)]
  rw [this]
  exact aj.mono (ex.eN X) _ _ (hF.xP t)
def xQ (G:Nat→Option (List D)) (β:Nat→Nat) (bx:List ay) (w:World) (X:Nat→Prop) (a:Act) (dst:Option Nat) (K:AV→List ay→Prop) (next:Act→World→Prop):Prop:=
 ∀β' aP w' v u,Ext β bx w β' aP w'→cz G β' aP w' X→aj β' aP w' (bc β' aP w' X) v u→K v aP→next (a.put dst u) w'
def LS (G:Nat→Option (List D)) (β:Nat→Nat) (bx:List ay) (w:World) (X:Nat→Prop) (a:Act) (K:AV→List ay→Prop) (Qc:Exit→Act→World→Prop):Prop:=
 ∀β' aP w' v u,Ext β bx w β' aP w'→cz G β' aP w' X→aj β' aP w' (bc β' aP w' X) v u→K v aP→Qc (.panic [{v:=u,recovered:=false}]) a w'
theorem cH {o:Oper} {next:Act→World→Prop} {Qc:Exit→Act→World→Prop} {r:Result Next} {v:AV} {aP:List ay} {K:AV→List ay→Prop} (h:dj G β bx w X r v aP) (hK:K v aP)
 (hn:xQ G β bx w X a o.dst K next):o.upon P a next Qc r:=by
 obtain ⟨β',w',ex,cx,⟨u,rfl,hv⟩|⟨rfl,rfl⟩⟩:=h
 ·exact hn β' aP w' v u ex cx hv hK
 exact hn β' aP w' .any undef ex cx (by simp [aj]) hK
theorem fW {o:Oper} {next:Act→World→Prop} {Qc:Exit→Act→World→Prop} {f:Nat} {vs:Array Value} {R:Ending→World→Prop} (h:iK P f vs w R)
 (hr:∀v w',R (.returned v) w'→next (a.put o.dst v) w') (hp:∀ch w',R (.panicked ch) w'→Qc (.panic ch) a w') (ho:∀w',R .outgrown w'→False):
 o.upon P a next Qc ((callFunc f vs).run P w):=by
 rcases h with ⟨h1,h2⟩|⟨v,w',h1,h2⟩
 ·rw [h1,Oper.upon_enter]
  refine Calls.mono h2 ?_
  intro e w' he
  cases e with
  |returned v=>exact hr v w' he
  |panicked ch=>exact hp ch w' he
  |outgrown=>exact (ho w' he).elim
 rw [h1];exact hr v w' h2
theorem jS {o:Oper} {f:Operand} {args:Array Operand} {ats:Array TypeId} (ho:o.op=.call {callee:=.value f,args:=args,argTypes:=ats}) {i:Nat} {fs cs:List Value} (hf:a.eval f=.func (.func i) ⟨fs⟩ ⟨cs⟩):
 (execOp a.eval o).run P w=(callFunc i ⟨fs++args.toList.map a.eval++cs⟩).run P w:=by
 have e:(⟨fs⟩:Array Value)++args.map a.eval++⟨cs⟩=(⟨fs++args.toList.map a.eval++cs⟩:Array Value):=by apply Array.ext';simp
 rw [←e]
 simp [execOp,ho,resolve,hf,Deferred.ofValue,invoke]
theorem vD (hT:jL P T) {o:Oper} {r:Operand} {nm:String} {args:Array Operand} {ats:Array TypeId} (ho:o.op=.call {callee:=.invoke r nm,args:=args,argTypes:=ats}) {t:Nat} {ti:TI} {f:Nat} {x:Value}
 (ht:T t=some ti) (hi:ti.inv=some (nm,f)) (hr:a.eval r=.iface t x):
 (execOp a.eval o).run P w=(callFunc f ⟨x::args.toList.map a.eval⟩).run P w:=by
 obtain ⟨i,d,h1,h2,h3,⟨mn,ms,mp,mf⟩,h4,h5,h6⟩:=Jo (hT.ti _ _ ht) hi
 simp only at h5 h6
 have hp:mp.isEmpty=true:=by rw [Array.isEmpty_iff];exact Array.ext' (by simpa using h5)
 have hm:(Go.method (P.types.size+99+1) t x nm).run P w=.ok (f,x) w:=by
  unfold Go.method
  simp only [Sem.run_bind,kX h1,Result.andThen_ok,h4,h5,follow,h6,hp,if_true]
  cases d<;>first|exact absurd rfl (h3 _)|simp [receiverAt,aR h2,Place.get,Result.andThen_ok]
 have e:(⟨x::args.toList.map a.eval⟩:Array Value)=#[x]++args.map a.eval:=by apply Array.ext';simp
 rw [e]
 have e0:(#[Value.iface t x]++args.map a.eval)[0]?=some (Value.iface t x):=by rw [Array.getElem?_append_left (by simp)];rfl
 have e1:(#[Value.iface t x]++args.map a.eval).extract 1 (#[Value.iface t x]++args.map a.eval).size=args.map a.eval:=by apply Array.ext';simp [List.take_of_length_le]
 have e2:P.types.size+Made.depth=P.types.size+99+1:=rfl
 simp only [execOp,ho,resolve,hr,pure_bind,invoke,e0,e1,callMethod,Sem.run_bind,run_program,Result.andThen_ok,e2,hm]
theorem AF (hT:jL P T) {ok:Nat→Prop} {x:AV} {nm:String} {args as:List AV} {i:Nat} {v:Value} {vs:List Value} (h:Ar T x nm args=some (i,as)) (hx:aj β bx w ok x v) (hv:ak β bx w ok args vs):
 ∃t ti u,T t=some ti∧ti.inv=some (nm,i)∧v=.iface t u∧ak β bx w ok as (u::vs):=by
 unfold Ar at h
 split at h
 ·split at h
  ·rename_i ti ht
   split at h
   ·rename_i n j hi
    split at h
    ·rename_i hn
     simp only [osI,Prod.mk.injEq] at h
     obtain ⟨rfl,rfl⟩:=h
     subst hn
     simp only [aj] at hx
     obtain ⟨u,rfl,hu⟩:=hx
     exact ⟨_,ti,u,ht,hi,rfl,by simp only [ak];exact ⟨_,_,rfl,hu,hv⟩⟩
    cases h
   cases h
  cases h
 cases h
theorem AG {f:Nat} {args:List AV} {vs:List Value} {K Kp:AV→List ay→Prop} (cx:cz G β bx w X) (hx:ak β bx w (bc β bx w X) args vs)
 (h:HU (bA P G) f args bx K Kp):
 iK P f ⟨vs⟩ w fun e w'=>∃β' aP v u,Ext β bx w β' aP w'∧cz G β' aP w' X∧aj β' aP w' (bc β' aP w' X) v u∧
  ((e=.returned u∧K v aP)∨(e=.panicked [{v:=u,recovered:=false}]∧Kp v aP)):=by
 obtain ⟨args',oA,res,oB,hz,hf,hK⟩:=h
 obtain ⟨e1,c1,r1⟩:Ext β bx w β oA w∧cz G β oA w X∧ak β oA w (bc β oA w X) args' vs:=by
  rcases hz with ⟨rfl,rfl⟩|⟨hz,rfl⟩
  ·exact ⟨Ext.refl _ _ _,cx,hx⟩
  exact kQ args bx args' vs cx hz hx
 refine iK.mono (hf β w vs X c1 r1) ?_
 rintro e w' ⟨β',ex,lQ,hr⟩
 cases e with
 |returned u=>
  cases res with
  |ret v=>exact ⟨β',oB,v,u,e1.trans ex,lQ,hr,.inl ⟨rfl,hK⟩⟩
  |Jl v=>exact hr.elim
 |panicked ch=>
  cases res with
  |ret v=>exact hr.elim
  |Jl v=>
   obtain ⟨u,rfl,hu⟩:=hr
   exact ⟨β',oB,v,u,e1.trans ex,lQ,hu,.inr ⟨rfl,hK⟩⟩
 |outgrown=>cases res<;>exact hr.elim
theorem lA {ok:Nat→Prop} {x:AV} {args as:List AV} {i:Nat} {v:Value} {vs:List Value} (h:kU x args=some (i,as)) (hx:aj β bx w ok x v) (hv:ak β bx w ok args vs):
 ∃fs cs,v=.func (.func i) ⟨fs⟩ ⟨cs⟩∧ak β bx w ok as (fs++vs++cs):=by
 unfold kU at h
 split at h
 ·simp only [osI,Prod.mk.injEq] at h
  obtain ⟨rfl,rfl⟩:=h
  simp only [aj] at hx
  obtain ⟨us,rfl,hc⟩:=hx
  simp only [ak,aj] at hc
  obtain ⟨_,cs,rfl,⟨fs,rfl,hf⟩,hc⟩:=hc
  exact ⟨fs,cs,rfl,ak.append (ak.append hf hv) hc⟩
 ·rename_i iZ _
  cases hp:jk iZ with
  |false=>simp [hp] at h
  |true=>
  simp only [hp,cond_true,osI,Prod.mk.injEq] at h
  obtain ⟨rfl,rfl⟩:=h
  simp only [aj] at hx
  obtain ⟨cs,rfl,hc⟩:=hx
  exact ⟨[],cs,vu hp hc _,ak.append hv hc⟩
 ·simp only [osI,Prod.mk.injEq] at h
  obtain ⟨rfl,rfl⟩:=h
  simp only [aj,aF] at hx
  exact ⟨[],[],hx,by simpa using hv⟩
 cases h
theorem xR (hT:jL P T) (_cx:cz G β bx w X) {t:Nat} {x i:AV} {u z:Value} {c:Prop} {ds:List D} (hr:xj T t x i=some (c,ds)) (hc:c)
 (hx:aj β bx w (bc β bx w X) x u) (hi:aj β bx w (bc β bx w X) i z):
 ∃r,(Instr.indexAt t u z).run P w=.ok r w∧aj β bx w (bc β bx w X) (.ep ds) r:=by
 have fin:∀(e:Nat) (te:TI) (k:IntKind) (n:Int) (es:List (List D)) (base:Option Addr) (cap:Nat),P.underlying t=some (.slice e)→T e=some te→z=.int k n→u=.slice base es.length cap→
  (es=[]∨∃blk off sz,base=some ⟨blk,off,none⟩∧bc β bx w X blk∧ap w (bc β bx w X) blk sz es off)→
  (0≤n∧n<es.length∧(∀r∈es,r.length=te.size))→ds=es.getD n.toNat []→∃r,(Instr.indexAt t u z).run P w=.ok r w∧aj β bx w (bc β bx w X) (.ep ds) r:=by
  rintro e te k n es base cap hu hte rfl rfl aA ⟨h1,h2,h3⟩ rfl
  obtain ⟨ei,ed,g1,g2,g3,g4,g5,g6⟩:=aE (hT.ti _ _ hte)
  rcases aA with rfl|⟨blk,off,sz,rfl,hb,hrows⟩
  ·simp at h2;omega
  have hn:n.toNat<es.length:=by omega
  obtain ⟨l1,l2⟩:=ap.get n.toNat es off hrows hn
  have hsz:te.size=sz:=by
   rw [←l1]
   have hm:es.getD n.toNat []∈es:=by
    simp only [List.getD_eq_getElem?_getD,List.getElem?_eq_getElem hn,Option.getD_some]
    exact List.getElem_mem hn
   exact (h3 _ hm).symm
  refine ⟨.pointer (some ⟨blk,off+n.toNat*sz,none⟩),?_,?_⟩
  ·simp [Instr.indexAt,asIntOf,aR hu,h1,h2,bP g1,fk,←g3,hsz]
  simp only [aj];exact ⟨blk,_,rfl,hb,l2⟩
 unfold xj at hr
 cases ht:T t with
 |none=>simp [ht] at hr
 |some ti=>
 obtain ⟨ii,d,h1,h2,h3,h4,h5,h6⟩:=aE (hT.ti _ _ ht)
 simp only [ht,h5] at hr
 split at hr
 ·rename_i e es k n hk
  cases d<;>simp [cM] at hk
  subst hk
  split at hr
  ·rename_i te hte
   simp only [osI,Prod.mk.injEq] at hr
   obtain ⟨rfl,rfl⟩:=hr
   simp only [aj,aF] at hx hi
   obtain ⟨base,cap,e1,_,e2⟩:=hx
   exact fin _ te k n es base cap h2 hte hi e1 e2 hc rfl
  simp at hr
 ·rename_i e es k n hk
  cases d<;>simp [cM] at hk
  subst hk
  split at hr
  ·rename_i te hte
   simp only [osI,Prod.mk.injEq] at hr
   obtain ⟨rfl,rfl⟩:=hr
   simp only [aj,aF] at hx hi
   obtain ⟨base,e1,e2⟩:=hx
   exact fin _ te k n es base _ h2 hte hi e1 e2 hc rfl
  simp at hr
 simp at hr
theorem xS {ok:Nat→Prop} {p:Bool} {x y:AV} {u v:Value} (hx:p=true→aj β bx w ok x u) (hy:p=false→aj β bx w ok y v):aj β bx w ok (w9 p x y) (if p then u else v):=by
 unfold w9
 split
 ·cases p
  ·simpa [aj,aF] using hy rfl
  simpa [aj,aF] using hx rfl
 ·cases p
  ·simpa [aj,aF] using hy rfl
  simp [aj]
 simp [aj]
theorem AH {b:Nat} {str:List UInt8} {pos pos':Nat} (hb:bx[b]?=some (.it str pos)) (hh:w.heap[β b]?=some (.stringIter ⟨str.toArray⟩ pos)):
 Ext β bx w β (bx.set b (.it str pos')) {w with heap:=w.heap.setIfInBounds (β b) (.stringIter ⟨str.toArray⟩ pos')}:=by
 have hlt:=eO hh
 refine ⟨rfl,rfl,rfl,by simp,?_,?_,fun i hi=>⟨rfl,gV rfl hi⟩,?_⟩
 ·intro k hk hl
  have hne:β b≠k:=hl b _ hb rfl
  simp [Array.getElem?_setIfInBounds_ne hne]
 ·intro k c e f hk
  have hne:β b≠k:=by rintro rfl;rw [hh] at hk;cases hk
  exact ⟨c,by simp [Array.getElem?_setIfInBounds_ne hne,hk],rfl⟩
 intro i B hi hl
 rcases aH hi with ⟨rfl,_,_⟩|⟨_,h⟩
 ·exact .inr ⟨i,_,hb,rfl,rfl⟩
 exact .inr ⟨i,B,h,hl,rfl⟩
theorem Jx (cx:cz G β bx w X) {b:Nat} {str:List UInt8} {pos pos':Nat} (hb:bx[b]?=some (.it str pos)) (hh:w.heap[β b]?=some (.stringIter ⟨str.toArray⟩ pos)):
 cz G β (bx.set b (.it str pos')) {w with heap:=w.heap.setIfInBounds (β b) (.stringIter ⟨str.toArray⟩ pos')} X:=by
 refine cx.step (AH hb hh) ?_ ?_
 ·intro i B hi
  rcases aH hi with ⟨rfl,rfl,_⟩|⟨hne,h⟩
  ·refine .inr ?_
   simp only [c6]
   simp [eO hh]
  refine .inl ⟨h,fun hl=>?_⟩
  have LG:β b≠β i:=fun he=>hne (cx.inj b i _ B hb h rfl hl he).symm
  simp [Array.getElem?_setIfInBounds_ne LG]
 intro i j bi bj hi hj lR nE he
 rcases aH hi with ⟨rfl,rfl,_⟩|⟨h1,h2⟩<;>rcases aH hj with ⟨rfl,rfl,_⟩|⟨h3,h4⟩
 ·rfl
 ·exact cx.inj _ _ _ _ hb h4 rfl nE he
 ·exact cx.inj _ _ _ _ h2 hb lR rfl he
 exact cx.inj _ _ _ _ h2 h4 lR nE he
theorem DB {ok:Nat→Prop} {x:AV} {FI:Prop} {u:Value} (h:Jm x=some FI) (hx:aj β bx w ok x u):∃a n c,u=.slice a n c∧(a.isNone=true→FI):=by
 unfold Jm at h
 split at h
 ·simp only [osI] at h;subst h
  simp only [aj,aF] at hx
  obtain ⟨base,cap,rfl,_,h3⟩:=hx
  refine ⟨_,_,_,rfl,fun hb=>?_⟩
  rcases h3 with h3|⟨_,_,_,rfl,_⟩
  ·exact h3
  simp at hb
 ·simp only [osI] at h;subst h
  simp only [aj] at hx
  obtain ⟨base,rfl,h3⟩:=hx
  refine ⟨_,_,_,rfl,fun hb=>?_⟩
  rcases h3 with h3|⟨_,_,_,rfl,_⟩
  ·exact h3
  simp at hb
 ·simp only [osI] at h;subst h
  simp only [aj] at hx
  obtain ⟨_,⟨h1,base,rfl⟩|⟨h1,cap,c,e,f,rfl,_⟩⟩:=hx
  ·exact ⟨_,_,_,rfl,fun _=>h1⟩
  exact ⟨_,_,_,rfl,fun hb=>by simp at hb⟩
 simp at h
theorem F6 (t e:TypeId) (a:Option Addr) (n c:Nat) (h:P.underlying t=some (.slice e)):(Go.binOp .eql t (.slice a n c) (.slice none 0 0)).run P w=.ok (.bool a.isNone) w:=by
 simp only [Go.binOp]
 simp [Op.equal,Op.maxDepth,Lib.run_equalIn_slice_nil w 9999 t e a n c 0 0 h]
theorem F7 (t e:TypeId) (a:Option Addr) (n c:Nat) (h:P.underlying t=some (.slice e)):(Go.binOp .neq t (.slice a n c) (.slice none 0 0)).run P w=.ok (.bool (!a.isNone)) w:=by
 simp only [Go.binOp]
 simp [Op.equal,Op.maxDepth,Lib.run_equalIn_slice_nil w 9999 t e a n c 0 0 h]
theorem l8 (hT:jL P T) (hF:Fr G N ds β w X s a) {o:Oper} {K:AV→List ay→Prop} {Q:Ex→St→Prop} {next:Act→World→Prop} {Qc:Exit→Act→World→Prop}
 (h:oC (bA P G) T G o s K Q) (hn:xQ G β s.bx w X a o.dst K next) (hp:LS G β s.bx w X a (fun v bx=>Q (.panic v) ⟨[],bx⟩) Qc):o.wp P a w next Qc:=by
 have gY:∀x,(bU G s.sl x).ok→aj β s.bx w (bc β s.bx w X) (bU G s.sl x).aL (a.eval x):=fun x hx=>jB (hF.eval x) hx
 unfold oC at h
 unfold Oper.wp
 split at h
 ·
  rename_i c x y ho
  split at h
  ·rename_i p hc
   obtain ⟨⟨h1,h2,h3⟩,hK⟩:=h
   have uc:=gY c h1
   rw [hc] at uc;simp only [aj,aF] at uc
   refine cH (v:=_) (aP:=s.bx) (dj.pure (u:=if p then a.eval x else a.eval y) hF.cx ?_ (xS (fun hp=>gY x (h2 hp)) (fun hp=>gY y (h3 hp)))) hK hn
   simp [execOp,ho,uc,asBool]
  exact h.elim
 ·
  rename_i f args ats ho
  split at h
  ·rename_i i as DC
   obtain ⟨⟨h1,h2⟩,h⟩:=h
   obtain ⟨fs,cs,e1,e2⟩:=lA DC (gY f h1) (gM args.toList (fun y hy=>gY y (dh h2 y hy)))
   rw [jS ho e1]
   rcases h with h|h
   ·refine fW (F2 hF.cx e2 h) ?_ ?_ ?_
    ·rintro v w' ⟨β',aP,v',u,e,ex,cx,hv,hK⟩
     cases e
     exact hn β' aP w' v' v ex cx hv hK
    ·rintro ch w' ⟨_,_,_,_,e,_⟩;cases e
    rintro w' ⟨_,_,_,_,e,_⟩;cases e
   refine fW (AG hF.cx e2 h) ?_ ?_ ?_
   ·rintro v w' ⟨β',aP,v',u,ex,cx,hv,⟨e,hK⟩|⟨e,_⟩⟩
    ·cases e;exact hn β' aP w' v' v ex cx hv hK
    cases e
   ·rintro ch w' ⟨β',aP,v',u,ex,cx,hv,⟨e,_⟩|⟨e,hK⟩⟩
    ·cases e
    cases e;exact hp β' aP w' v' u ex cx hv hK
   rintro w' ⟨_,_,_,_,_,_,_,⟨e,_⟩|⟨e,_⟩⟩<;>cases e
  exact h.elim
 ·
  rename_i x ho
  split at h
  ·rename_i t v hx
   obtain ⟨h1,h2⟩:=h
   have hx':=gY x h1
   rw [hx] at hx'
   have Lc:=hx'
   simp only [aj] at Lc
   obtain ⟨u,e,_⟩:=Lc
   have hr:(execOp a.eval o).run P w=.halt (.panic (a.eval x)) w:=by
    simp [execOp,ho,e,Instr.panic,goPanic,Sem.run]
   rw [hr,Oper.upon_panic]
   exact hp β s.bx w _ _ (Ext.refl _ _ _) hF.cx hx' h2
  exact h.elim
 ·
  rename_i t x ho
  cases ht:T t with
  |none=>simp [ht] at h
  |some ti=>
  obtain ⟨i,d,h1,h2,h3,h4,h5,h6⟩:=aE (hT.ti _ _ ht)
  simp only [ht,h5] at h
  split at h
  ·rename_i str hk hx
   obtain ⟨k1,k2⟩:=h
   cases d<;>simp [cM] at hk
   have hx':=gY x k1
   rw [hx] at hx';simp only [aj,aF] at hx'
   refine cH (v:=.ptr s.bx.length 0) (aP:=s.bx++[.it str 0]) ⟨ko β s.bx.length w.heap.size,{w with heap:=w.heap.push (.stringIter ⟨str.toArray⟩ 0)},fy _ _,jR hF.cx (.stringIter ⟨str.toArray⟩ 0) (.it str 0) (by simp only [c6];exact iF _ _),.inl ⟨.pointer (some ⟨w.heap.size,0,none⟩),?_,?_⟩⟩ k2 hn
   ·simp only [execOp,ho]
    exact bK _ (by rw [hx'];simp [Instr.range,aR h2,newObj,Sem.run])
   simp only [aj,bq];exact ⟨trv,.it str 0,by simp,rfl⟩
  exact h.elim
 ·rename_i it ho
  split at h
  ·rename_i b hx
   split at h
   ·rename_i str pos hb
    obtain ⟨k1,⟨k2,k3⟩⟩:=h
    have hx':=gY it k1
    rw [hx] at hx';simp only [aj] at hx'
    obtain ⟨hx',_⟩:=hx'
    have DD:=hF.cx.box b _ hb
    simp only [c6] at DD
    have hsz:(⟨str.toArray⟩:ByteArray).size=str.length:=by show str.toArray.size=_;simp
    by_cases hp:pos<str.length
    ·refine cH (v:=_) (aP:=_) ⟨β,{w with heap:=w.heap.setIfInBounds (β b) (.stringIter ⟨str.toArray⟩ (pos+(Utf8.decode ⟨str.toArray⟩ pos).2))},?_,?_,.inl ⟨.tuple #[.bool true,.int .i64 pos,.int .i32 (Utf8.decode ⟨str.toArray⟩ pos).1],?_,?_⟩⟩ (k2 hp) hn
     ·exact AH hb DD
     ·exact Jx hF.cx hb DD
     ·simp only [execOp,ho]
      exact bK _ (by rw [hx'];simp [Instr.next,getObj,setObj,Sem.run,DD,hsz,hp,goInt])
     simp only [aj,ak,aF];exact ⟨_,rfl,_,_,rfl,rfl,_,_,rfl,rfl,_,_,rfl,rfl,rfl⟩
    refine cH (v:=_) (aP:=s.bx) (dj.pure (u:=.tuple #[.bool false]) hF.cx ?_ ?_) (k3 hp) hn
    ·simp only [execOp,ho]
     exact bK _ (by rw [hx'];simp [Instr.next,getObj,Sem.run,DD,hsz,hp])
    simp only [aj,ak,aF];exact ⟨_,rfl,_,_,rfl,rfl,rfl⟩
   exact h.elim
  exact h.elim
 ·
  rename_i ty x t2 ho
  split at h
  ·rename_i ti FI ht he
   split at h
   ·rename_i e hk
    obtain ⟨i,d,h1,h2,h3,h4,h5,h6⟩:=aE (hT.ti _ _ ht)
    obtain ⟨k1,⟨k2⟩⟩:=h
    rw [h5] at hk;cases d<;>simp [cM] at hk
    obtain ⟨a',n,c,hu,BM⟩:=DB he (gY x k1)
    refine cH (v:=.d (.bool a'.isNone)) (aP:=s.bx) (dj.pure (u:=.bool a'.isNone) hF.cx ?_ (by simp only [aj,aF])) (k2 _ BM) hn
    simp only [execOp,ho]
    exact bK _ (by simp [hu,eqGuard,show a.eval (Operand.const (Value.slice none 0 0))=Value.slice none 0 0 from rfl,F6 (w:=w) _ _ _ _ _ h2])
   exact h.elim
  exact h.elim
 ·rename_i ty x t2 ho
  split at h
  ·rename_i ti FI ht he
   split at h
   ·rename_i e hk
    obtain ⟨i,d,h1,h2,h3,h4,h5,h6⟩:=aE (hT.ti _ _ ht)
    obtain ⟨k1,⟨k2⟩⟩:=h
    rw [h5] at hk;cases d<;>simp [cM] at hk
    obtain ⟨a',n,c,hu,BM⟩:=DB he (gY x k1)
    refine cH (v:=.d (.bool (!a'.isNone))) (aP:=s.bx) (dj.pure (u:=.bool (!a'.isNone)) hF.cx ?_ (by simp only [aj,aF])) (k2 _ BM) hn
    simp only [execOp,ho]
    exact bK _ (by simp [hu,eqGuard,show a.eval (Operand.const (Value.slice none 0 0))=Value.slice none 0 0 from rfl,F7 (w:=w) _ _ _ _ _ h2])
   exact h.elim
  exact h.elim
 ·
  rename_i ty ho
  split at h
  ·rename_i ti ht
   split at h
   ·rename_i mk me hk
    split at h
    ·rename_i te hte
     refine cH (v:=.zP s.bx.length) (aP:=s.bx++[.mp te.kd.isAgg []]) ⟨ko β s.bx.length w.heap.size,{w with heap:=w.heap.push (.map #[] 0)},fy _ _,jR hF.cx (.map #[] 0) (.mp te.kd.isAgg []) ⟨#[],0,iF _ _,⟨by simp,by simp⟩,by simp [bp]⟩,.inl ⟨.map (some w.heap.size),?_,?_⟩⟩ h hn
     ·simp only [execOp,ho]
      exact bK _ (by simp [Instr.makeMap,newObj,Sem.run])
     simp only [aj,bq];exact ⟨trv,.mp te.kd.isAgg [],by simp,rfl⟩
    exact h.elim
   exact h.elim
  exact h.elim
 ·
  rename_i ty m k zS ho
  split at h
  ·rename_i tk te ag es kd hm hk
   obtain ⟨o',hg,hK⟩:=h
   obtain ⟨⟨⟨k1,k2⟩,hf⟩,rfl⟩:=hg rfl
   have hkv:=gY k k2
   rw [hk] at hkv;simp only [aj] at hkv
   obtain ⟨v,x,g1,g2,g3⟩:=F3 hT hF.cx hm (gY m k1) hkv hf hK
   refine cH (v:=v) (aP:=s.bx) (dj.pure (u:=x) hF.cx ?_ g2) g3 hn
   simp only [execOp,ho]
   exact bK _ g1
  exact h.elim
 ·
  rename_i ty m k x ho
  split at h
  ·rename_i b tk te ag es kd vs hm hk hc
   split at h
   ·rename_i Y7 DE TO
    obtain ⟨⟨⟨k1,k2,k3⟩,hf,_,ha⟩,hK⟩:=h
    have hkv:=gY k k2
    rw [hk] at hkv;simp only [aj] at hkv
    obtain ⟨w',g1,g2,g3⟩:=DA hT hF.cx hm (gY m k1) hkv (gY x k3) hc DE TO hf ha
    refine cH (v:=.any) (aP:=_) ⟨β,w',g2,g3,.inr ⟨?_,rfl⟩⟩ hK hn
    simp only [execOp,ho]
    simp [g1]
   exact h.elim
  exact h.elim
 rename_i op e1 e2 e3 e4 e5 e6 e7 e8 e9 e10
 split at h
 ·rename_i c ds hi
  obtain ⟨ds',hg,hK⟩:=h
  obtain ⟨⟨hk,hc⟩,rfl⟩:=hg rfl
  split at hi
  ·rename_i t x i ho
   have ex:=dh hk
   rw [ho] at ex
   obtain ⟨r,k1,k2⟩:=xR (P:=P) (w:=w) hT hF.cx hi hc (gY x (ex x (by simp [Op.operands]))) (gY i (ex i (by simp [Op.operands])))
   refine cH (v:=_) (aP:=s.bx) (dj.pure hF.cx ?_ k2) hK hn
   simp only [execOp,ho]
   exact bK _ k1
  simp at hi
 split at h
 ·rename_i c v b hr
  obtain ⟨⟨h1,hc⟩,hK⟩:=h
  exact cH (xL (P:=P) hT hF.cx (ρ:=a.eval) (fun x hx=>gY x (dh h1 x hx)) hr hc) hK hn
 exact h.elim
theorem vE (hT:jL P T) (hF:Fr G N ds β w X s a) {o:Oper} {K:AV→Prop} {next:Act→World→Prop} {Qc:Exit→Act→World→Prop}
 (h:stepG (bA P G) T G true o s K) (hn:xQ G β s.bx w X a o.dst (fun v bx=>K v∧bx=s.bx) next):o.wp P a w next Qc:=by
 have gY:∀x,(bU G s.sl x).ok→aj β s.bx w (bc β s.bx w X) (bU G s.sl x).aL (a.eval x):=fun x hx=>jB (hF.eval x) hx
 have h:=h.resolve_left (fun hh=>by simp at hh)
 rcases h with h|⟨c,es,hr,hg,hK⟩
 rotate_left
 ·obtain ⟨h1,hc⟩:=hg rfl
  unfold Oper.wp
  exact cH (AE (P:=P) hT hF.cx (ρ:=a.eval) (fun x hx=>gY x (dh h1 x hx)) hr hc) ⟨hK,rfl⟩ hn
 unfold uh at h
 unfold Oper.wp
 split at h
 ·
  rename_i c x y ho
  split at h
  ·rename_i p hc
   obtain ⟨hg,hK⟩:=h
   obtain ⟨h1,h2,h3⟩:=hg rfl
   have uc:=gY c h1
   rw [hc] at uc;simp only [aj,aF] at uc
   refine cH (v:=_) (aP:=s.bx) (dj.pure (u:=if p then a.eval x else a.eval y) hF.cx ?_ (xS (fun hp=>gY x (h2 hp)) (fun hp=>gY y (h3 hp)))) ⟨hK,rfl⟩ hn
   simp [execOp,ho,uc,asBool]
  exact h.elim
 ·
  rename_i f args ats ho
  split at h
  ·rename_i i as DC
   obtain ⟨v,hg,hK⟩:=h
   obtain ⟨⟨h1,h2⟩,hq⟩:=hg rfl
   obtain ⟨fs,cs,e1,e2⟩:=lA DC (gY f h1) (gM args.toList (fun y hy=>gY y (dh h2 y hy)))
   rw [jS ho e1]
   refine fW (kC (K:=fun v bx=>K v∧bx=s.bx) hF.cx e2 hq ⟨hK,rfl⟩) ?_ ?_ ?_
   ·rintro v w' ⟨β',aP,v',u,e,ex,cx,hv,hK⟩
    cases e
    exact hn β' aP w' v' v ex cx hv hK
   ·rintro ch w' ⟨_,_,_,_,e,_⟩;cases e
   rintro w' ⟨_,_,_,_,e,_⟩;cases e
  exact h.elim
 ·
  rename_i f nm args ats ho
  split at h
  ·rename_i i as DC
   obtain ⟨v,hg,hK⟩:=h
   obtain ⟨⟨h1,h2⟩,hq⟩:=hg rfl
   obtain ⟨t,ti,u,k1,k2,k3,e2⟩:=AF hT DC (gY f h1) (gM args.toList (fun y hy=>gY y (dh h2 y hy)))
   rw [vD hT ho k1 k2 k3]
   refine fW (kC (K:=fun v bx=>K v∧bx=s.bx) hF.cx e2 hq ⟨hK,rfl⟩) ?_ ?_ ?_
   ·rintro v w' ⟨β',aP,v',u,e,ex,cx,hv,hK⟩
    cases e
    exact hn β' aP w' v' v ex cx hv hK
   ·rintro ch w' ⟨_,_,_,_,e,_⟩;cases e
   rintro w' ⟨_,_,_,_,e,_⟩;cases e
  exact h.elim
 rename_i op e1 e2 e3
 split at h
 ·rename_i c ds hi
  obtain ⟨ds',hg,hK⟩:=h
  obtain ⟨⟨hk,hc⟩,rfl⟩:=hg rfl
  split at hi
  ·rename_i t x i ho
   have ex:=dh hk
   rw [ho] at ex
   obtain ⟨r,k1,k2⟩:=xR (P:=P) (w:=w) hT hF.cx hi hc (gY x (ex x (by simp [Op.operands]))) (gY i (ex i (by simp [Op.operands])))
   refine cH (v:=_) (aP:=s.bx) (dj.pure hF.cx ?_ k2) ⟨hK,rfl⟩ hn
   simp only [execOp,ho]
   exact bK _ k1
  simp at hi
 split at h
 ·rename_i c v hr
  obtain ⟨hg,hK⟩:=h
  obtain ⟨h1,hc⟩:=hg rfl
  exact cH (xL (P:=P) hT hF.cx (ρ:=a.eval) (fun x hx=>gY x (dh h1 x hx)) hr hc) ⟨hK,rfl⟩ hn
 exact h.elim
theorem xT {o:Oper} {K:AV→Prop} (h:stepG (bA P G) T G false o s K):∃v,K v:=by
 rcases h with ⟨_,h⟩|h|⟨_,_,_,_,hK⟩
 ·exact h
 rotate_left
 ·exact ⟨_,hK⟩
 unfold uh at h
 split at h
 ·split at h
  ·exact ⟨_,h.2⟩
  exact h.elim
 ·split at h
  ·obtain ⟨v,_,hK⟩:=h;exact ⟨v,hK⟩
  exact h.elim
 ·split at h
  ·obtain ⟨v,_,hK⟩:=h;exact ⟨v,hK⟩
  exact h.elim
 split at h
 ·obtain ⟨ds,_,hK⟩:=h;exact ⟨_,hK⟩
 split at h
 ·exact ⟨_,h.2⟩
 exact h.elim
theorem kD (hF:Fr G N ds β w X s a) {ops:Array Oper} {j:Nat} {want g:Bool} (h:guardOf s.sl ops.toList j want=some g):(yielded ops a.tmps j==some want)=g:=by
 unfold guardOf at h
 have hj:ops.toList[j]?=ops[j]?:=by simp
 rw [hj] at h
 split at h
 ·rename_i o ho
  split at h
  ·rename_i t hd
   have hr:=hF.xP t
   have hy:∀v:Value,a.tmps.getD t undef=v→v≠undef→a.tmps[t]?=some v:=by
    intro v hv hu
    rw [Array.getD_eq_getD_getElem?] at hv
    cases hq:a.tmps[t]? with
    |none=>rw [hq] at hv;simp at hv;exact absurd hv.symm hu
    |some u=>rw [hq] at hv;simp at hv;rw [hv]
   unfold yielded
   rw [ho]
   simp only [Option.bind_some,hd]
   split at h
   ·rename_i q hq
    rw [hq] at hr;simp only [aj,aF] at hr
    simp only [osI] at h;subst h
    rw [hy _ hr (by simp [undef])]
    cases q<;>cases want<;>rfl
   ·rename_i p q hq
    rw [hq] at hr;simp only [aj,aF] at hr
    simp only [osI] at h;subst h
    cases p with
    |true=>
     rw [hy _ (hr.1 rfl) (by simp [undef])]
     cases q<;>cases want<;>rfl
    |false=>
     have hu:=hr.2 rfl
     cases Y8:a.tmps[t]? with
     |none=>simp
     |some u=>
      have:u=undef:=by rw [Array.getD_eq_getD_getElem?,Y8] at hu;simpa using hu
      subst this
      simp [undef]
   simp at h
  simp at h
 simp at h
end
end Dem
end
section
open Go
namespace Dem
section
variable {P:Program} {T:Nat→Option TI} {G:Nat→Option (List D)} {N:Nat} {ds:List Deferred} {X:Nat→Prop}
def fX (G:Nat→Option (List D)) (N:Nat) (ds:List Deferred) (X:Nat→Prop) (β0:Nat→Nat) (aI:List ay) (w0:World) (Q:Ex→St→Prop):Exit→Act→World→Prop
 |.normal,a,w=>∃β s,Ext β0 aI w0 β s.bx w∧Fr G N ds β w X s a∧Q .normal s
 |.exit id,a,w=>∃β s,Ext β0 aI w0 β s.bx w∧Fr G N ds β w X s a∧Q (.exit id) s
 |.ret,a,w=>∃β s,Ext β0 aI w0 β s.bx w∧Fr G N ds β w X s a∧Q .ret s
 |.panic ch,a,w=>∃β bx v u,ch=[{v:=u,recovered:=false}]∧Ext β0 aI w0 β bx w∧cz G β bx w X∧aj β bx w (bc β bx w X) v u∧a.defers=ds∧Q (.panic v) ⟨[],bx⟩
 |_,_,_=>False
variable {β0:Nat→Nat} {aI:List ay} {w0:World}
theorem fX.imp {Q Q':Ex→St→Prop} {e:Exit} {a:Act} {w:World} (h:∀e s,Q e s→Q' e s) (hl:fX G N ds X β0 aI w0 Q e a w):fX G N ds X β0 aI w0 Q' e a w:=by
 cases e<;>simp only [fX] at hl ⊢
 ·obtain ⟨β,s,h1,h2,h3⟩:=hl;exact ⟨β,s,h1,h2,h _ _ h3⟩
 ·obtain ⟨β,s,h1,h2,h3⟩:=hl;exact ⟨β,s,h1,h2,h _ _ h3⟩
 ·obtain ⟨β,s,h1,h2,h3⟩:=hl;exact ⟨β,s,h1,h2,h _ _ h3⟩
 obtain ⟨β,bx,v,u,h1,h2,h3,h4,h5,h6⟩:=hl;exact ⟨β,bx,v,u,h1,h2,h3,h4,h5,h _ _ h6⟩
theorem BT {β:Nat→Nat} {w:World} {s:St} {a:Act} (hF:Fr G N ds β w X s a) {o:Oper} {K:AV→Prop} {next:Act→World→Prop} {Qc:Exit→Act→World→Prop}
 (h:qW (bA P G) G true o s K) (hn:xQ G β s.bx w X a o.dst (fun v bx=>K v∧bx=s.bx) next):o.wp P a w next Qc:=by
 have gY:∀x,(bU G s.sl x).ok→aj β s.bx w (bc β s.bx w X) (bU G s.sl x).aL (a.eval x):=fun x hx=>jB (hF.eval x) hx
 unfold qW at h
 unfold Oper.wp
 split at h
 ·rename_i f args ats ho
  split at h
  ·rename_i i as DC
   obtain ⟨v,hg,hK⟩:=h
   obtain ⟨⟨h1,h2⟩,hc⟩:=hg rfl
   obtain ⟨fs,cs,e1,e2⟩:=lA DC (gY f h1) (gM args.toList (fun y hy=>gY y (dh h2 y hy)))
   rw [jS ho e1]
   refine fW (AG (K:=fun v bx=>K v∧bx=s.bx) (Kp:=fun _ _=>False) hF.cx e2 ⟨⟨as,s.bx,.ret v,s.bx,.inl ⟨rfl,rfl⟩,hc,hK,rfl⟩⟩) ?_ ?_ ?_
   ·rintro v w' ⟨β',aP,v',u,ex,cx,hv,⟨e,hK⟩|⟨e,_⟩⟩
    ·cases e;exact hn β' aP w' v' v ex cx hv hK
    cases e
   ·rintro ch w' ⟨β',aP,v',u,ex,cx,hv,⟨e,_⟩|⟨e,hK⟩⟩
    ·cases e
    exact hK.elim
   rintro w' ⟨_,_,_,_,_,_,_,⟨e,_⟩|⟨e,_⟩⟩<;>cases e
  exact h.elim
 exact h.elim
theorem DF {FC:Nat→List AV→List ay→iy→List ay→Prop} {g:Bool} {o:Oper} {s:St} {K:AV→Prop} (h:qW FC G g o s K):∃v,K v:=by
 unfold qW at h
 split at h
 ·split at h
  ·obtain ⟨v,_,hK⟩:=h;exact ⟨v,hK⟩
  exact h.elim
 exact h.elim
theorem lB (hT:jL P T) {ops:Array Oper} {Q:Ex→St→Prop}:∀(l:List Oper) (β:Nat→Nat) (w:World) (s:St) (a:Act),Ext β0 aI w0 β s.bx w→Fr G N ds β w X s a→
 C3 (bA P G) T G N ops.toList l Q s→wpList P ops (fX G N ds X β0 aI w0 Q) l a w
 |[],β,w,s,a,ex,hF,h=>⟨β,s,ex,hF,h⟩
 |o::l,β,w,s,a,ex,hF,h=>by
  unfold C3 at h
  cases hd:gx N o.dst with
  |false=>simp [hd] at h
  |true=>
  simp only [hd,cond_true] at h
  refine wpList_step fun KK VB=>?_
  split at h
  ·rename_i hg
   rw [if_pos (by simp [Region.wanted,hg])]
   refine l8 hT hF h ?_ ?_
   ·intro β' aP w' v u qM lQ hv hK
    exact VB _ _ (lB hT l β' w' ⟨ej o.dst v s.sl,aP⟩ _ (ex.trans qM) (hF.put qM lQ hd hv) hK)
   intro β' aP w' v u qM lQ hv hK
   exact ⟨β',aP,v,u,rfl,ex.trans qM,lQ,hv,hF.defers,hK⟩
  rename_i j want hg
  split at h
  ·rename_i g FJ
   have hy:=kD hF FJ
   cases g with
   |true=>
    rw [if_pos (by simp only [Region.wanted,hg];exact hy)]
    rcases h with h|h
    case inr=>
     refine BT hF h ?_
     rintro β' aP w' v u qM lQ hv ⟨hK,rfl⟩
     refine VB _ _ (lB hT l β' w' ⟨ej o.dst (.cond true v) s.sl,s.bx⟩ _ (ex.trans qM) (hF.put qM lQ hd ?_) hK)
     simp only [aj];exact ⟨fun _=>hv,by simp⟩
    refine vE hT hF h ?_
    rintro β' aP w' v u qM lQ hv ⟨hK,rfl⟩
    refine VB _ _ (lB hT l β' w' ⟨ej o.dst (.cond true v) s.sl,s.bx⟩ _ (ex.trans qM) (hF.put qM lQ hd ?_) hK)
    simp only [aj];exact ⟨fun _=>hv,by simp⟩
   |false=>
    rw [if_neg (by simp only [Region.wanted,hg];rw [hy];simp)]
    obtain ⟨v,hK⟩:∃v,C3 (bA P G) T G N ops.toList l Q ⟨ej o.dst (.cond false v) s.sl,s.bx⟩:=by
     rcases h with h|h
     ·exact xT h
     exact DF h
    refine VB _ _ (lB hT l β w ⟨ej o.dst (.cond false v) s.sl,s.bx⟩ _ ex (hF.put (Ext.refl _ _ _) hF.cx hd ?_) hK)
    simp only [aj];simp
  exact h.elim
def oN (P:Program) (T:Nat→Option TI) (G:Nat→Option (List D)):Prop:=
 ∀(N:Nat) (ds:List Deferred) (X:Nat→Prop) (β0:Nat→Nat) (aI:List ay) (w0:World) (id:Nat) (ops:Array Oper) (Q:Ex→St→Prop) (β:Nat→Nat) (w:World) (s:St) (a:Act),
  Ext β0 aI w0 β s.bx w→Fr G N ds β w X s a→Lp (bA P G) T G N ops.toList Q s→(Code.region id ops true).wp P (fX G N ds X β0 aI w0 Q) a w
end
end Dem
end
section
open Go
namespace Dem
section
variable {P:Program} {T:Nat→Option TI} {G:Nat→Option (List D)} {β:Nat→Nat} {bx:List ay} {w:World} {X:Nat→Prop}
theorem eP {n i:Nat} {b:ay} (h:(bx.take n)[i]?=some b):bx[i]?=some b∧i<n:=by
 rw [List.getElem?_take] at h
 split at h
 ·exact ⟨h,by assumption⟩
 simp at h
theorem DG (n:Nat) (blk:Nat) (h:bc β bx w X blk):bc β (bx.take n) w X blk:=
 ⟨h.1,h.2.1,fun i b hb hl=>h.2.2 i b (eP hb).1 hl⟩
mutual
theorem nG {n:Nat} {ok ok':Nat→Prop} (h:∀blk,ok blk→ok' blk):∀(x:AV) (v:Value),x.within n=true→aj β bx w ok x v→aj β (bx.take n) w ok' x v
 |.any,_,_,_=>by simp [aj]
 |.d x,v,_,hv=>by simp only [aj] at hv ⊢;exact aF.mono (fun blk hb=>⟨h blk hb,rfl⟩) _ _ hv
 |.k c,v,_,hv=>by simpa [aj] using hv
 |.agg cs,v,hs,hv=>by
  simp only [aj] at hv ⊢;obtain ⟨vs,h1,h2⟩:=hv
  exact ⟨vs,h1,ij h cs vs (by simpa [AV.within] using hs) h2⟩
 |.dL cs,v,hs,hv=>by
  simp only [aj] at hv ⊢;obtain ⟨vs,h1,h2⟩:=hv
  exact ⟨vs,h1,ij h cs vs (by simpa [AV.within] using hs) h2⟩
 |.ptr b off,v,hs,hv=>by
  simp only [aj] at hv ⊢
  have hb:b<n:=by simpa [AV.within,Nat.blt_eq] using hs
  obtain ⟨h1,B,h2,h3⟩:=hv
  exact ⟨h1,B,by rw [List.getElem?_take,if_pos hb];exact h2,h3⟩
 |.zP b,v,hs,hv=>by
  simp only [aj] at hv ⊢
  have hb:b<n:=by simpa [AV.within,Nat.blt_eq] using hs
  obtain ⟨h1,B,h2,h3⟩:=hv
  exact ⟨h1,B,by rw [List.getElem?_take,if_pos hb];exact h2,h3⟩
 |.rp b sz i j,v,hs,hv=>by
  simp only [aj] at hv ⊢
  have hb:b<n:=by simpa [AV.within,Nat.blt_eq] using hs
  obtain ⟨h1,B,h2,h3⟩:=hv
  exact ⟨h1,B,by rw [List.getElem?_take,if_pos hb];exact h2,h3⟩
 |.ow b sz m,v,hs,hv=>by
  simp only [aj] at hv ⊢
  have hb:b<n:=by simpa [AV.within,Nat.blt_eq] using hs
  obtain ⟨⟨B,h2,h3⟩,h1⟩:=hv
  exact ⟨⟨B,by rw [List.getElem?_take,if_pos hb];exact h2,h3⟩,h1⟩
 |.vw b sz off m c ex,v,hs,hv=>by
  simp only [aj] at hv ⊢
  have hb:b<n:=by simpa [AV.within,Nat.blt_eq] using hs
  obtain ⟨⟨B,h2,h3⟩,h1⟩:=hv
  exact ⟨⟨B,by rw [List.getElem?_take,if_pos hb];exact h2,h3⟩,h1⟩
 |.ep ds,v,_,hv=>by
  simp only [aj] at hv ⊢;obtain ⟨blk,off,h1,h2,h3⟩:=hv
  exact ⟨blk,off,h1,h blk h2,aT.mono (fun blk hb=>⟨h blk hb,rfl⟩) blk (fun _=>rfl) _ _ h3⟩
 |.cl es,v,_,hv=>by
  simp only [aj] at hv ⊢;obtain ⟨base,h1,h2⟩:=hv
  refine ⟨base,h1,h2.imp id ?_⟩
  rintro ⟨blk,off,sz,e1,e2,e3⟩
  exact ⟨blk,off,sz,e1,h blk e2,ap.mono (fun blk hb=>⟨h blk hb,rfl⟩) blk sz (fun _=>rfl) _ _ e3⟩
 |.fn f cs,v,hs,hv=>by
  simp only [aj] at hv ⊢;obtain ⟨vs,h1,h2⟩:=hv
  exact ⟨vs,h1,ij h cs vs (by simpa [AV.within] using hs) h2⟩
 |.qx t x,v,hs,hv=>by
  simp only [aj] at hv ⊢;obtain ⟨u,h1,h2⟩:=hv
  exact ⟨u,h1,nG h x u (by simpa [AV.within] using hs) h2⟩
 |.cond p x,v,hs,hv=>by
  simp only [aj] at hv ⊢
  exact ⟨fun hp=>nG h x v (by simpa [AV.within] using hs) (hv.1 hp),hv.2⟩
theorem ij {n:Nat} {ok ok':Nat→Prop} (h:∀blk,ok blk→ok' blk):∀(xs:List AV) (vs:List Value),AV.within.pY n xs=true→ak β bx w ok xs vs→ak β (bx.take n) w ok' xs vs
 |[],vs,_,hv=>by simpa [ak] using hv
 |x::xs,vs,hs,hv=>by
  simp only [ak] at hv ⊢
  obtain ⟨u,us,h1,h2,h3⟩:=hv
  simp only [AV.within.pY,Bool.and_eq_true] at hs
  exact ⟨u,us,h1,nG h x u hs.1 h2,ij h xs us hs.2 h3⟩
end
theorem kg {n:Nat}:∀{bs:List ay} {i:Nat} {cs:List AV},bX n bs=true→bs[i]?=some (.var cs)→AV.within.pY n cs=true
 |[],i,cs,_,hi=>by simp at hi
 |b::bs,0,cs,h,hi=>by
  simp at hi;subst hi
  simp only [bX,Bool.and_eq_true] at h
  exact h.1
 |b::bs,i+1,cs,h,hi=>by
  simp at hi
  refine kg (i:=i) ?_ hi
  cases b<;>simp [bX] at h<;>first|exact h|exact h.2
theorem DH (cx:cz G β bx w X) {n:Nat} (hw:bX n (bx.take n)=true):cz G β (bx.take n) w X:=by
 have hk:∀blk,bc β bx w X blk→bc β (bx.take n) w X blk:=fun blk h=>DG n blk h
 have hkeep:iC w w (bc β bx w X) (bc β (bx.take n) w X):=fun blk hb=>⟨hk blk hb,rfl⟩
 refine ⟨cx.xs,?_,?_,?_,?_⟩
 ·intro g ds hg
  obtain ⟨h1,h2⟩:=cx.wC g ds hg
  exact ⟨hk g h1,aT.mono hkeep g (fun _=>rfl) _ _ h2⟩
 ·intro i j bi bj hi hj
  exact cx.inj i j bi bj (eP hi).1 (eP hj).1
 ·intro i b hb
  have h:=cx.box i b (eP hb).1
  cases b with
  |var cs=>
   obtain ⟨c,e,h1,h2⟩:=h
   exact ⟨c,e,h1,ij hk cs _ (kg hw hb) h2⟩
  |row sz es=>
   refine h.imp id ?_
   rintro ⟨c,e,h1,h2⟩
   exact ⟨c,e,h1,ap.mono hkeep _ _ (fun _=>rfl) _ _ h2⟩
  |mH sz es=>
   refine h.imp id ?_
   rintro ⟨h1,h2⟩
   exact ⟨hk _ h1,ap.mono hkeep _ _ (fun _=>rfl) _ _ h2⟩
  |it s p=>exact h
  |mp ag es=>obtain ⟨ms,clock,h1,h2,h3⟩:=h;exact ⟨ms,clock,h1,h2,bp.mono hkeep _ _ _ h3⟩
  |dead=>trivial
  |bt=>trivial
 intro i b hb hl
 exact cx.apart i b (eP hb).1 hl
theorem DI {β0:Nat→Nat} {aI:List ay} {w0:World} (ex:Ext β0 aI w0 β bx w):Ext β0 aI w0 β (bx.take aI.length) w:=by
 refine ⟨ex.os,ex.tape,ex.output,ex.size,ex.block,ex.shape,?_,?_⟩
 ·rintro i ⟨b,hb,dG⟩
  obtain ⟨h1,B,h2,h3⟩:=ex.born i ⟨b,hb,dG⟩
  exact ⟨h1,B,by rw [List.getElem?_take,if_pos (iH hb)];exact h2,h3⟩
 intro i b hb hl
 exact ex.live i b (eP hb).1 hl
theorem Jy (cx:cz G β bx w X) {x y:AV} {u:Value} (hd:FQ bx x=some y) (h:aj β bx w (bc β bx w X) x u):
 Ext β bx w β (sy bx x) w∧cz G β (sy bx x) w X∧aj β (sy bx x) w (bc β (sy bx x) w X) y u:=by
 cases x with
 |dL cs=>
  simp only [FQ,Option.map_eq_some_iff] at hd
  obtain ⟨ys,h1,rfl⟩:=hd
  simp only [aj] at h
  obtain ⟨vs,rfl,hvs⟩:=h
  obtain ⟨g1,g2,g3⟩:=kQ cs bx ys vs cx h1 hvs
  exact ⟨g1,g2,by simp only [aj];exact ⟨vs,rfl,g3⟩⟩
 |_=>simp only [FQ] at hd;simp only [sy];exact Az cx hd h
theorem Ij {β0:Nat→Nat} {aI:List ay} {w0:World} (cx:cz G β bx w X) (ex:Ext β0 aI w0 β bx w) {k sz m:Nat} {es:List (List D)} (hn:aI.length≤bx.length) (hw:bX aI.length (bx.take aI.length)=true)
 (hk:(es=[]∧m=0)∨(aI.length≤k∧bx[k]?=some (.row sz es))) {u:Value} (hu:es=[]∧m=0∧(∃base,u=.slice base 0 0)∨aj β bx w (bc β bx w X) (.ow k sz m) u):
 ∃β',Ext β0 aI w0 β' (bx.take aI.length++[.row sz es]) w∧cz G β' (bx.take aI.length++[.row sz es]) w X∧
  aj β' (bx.take aI.length++[.row sz es]) w (bc β' (bx.take aI.length++[.row sz es]) w X) (.ow aI.length sz m) u:=by
 have hlen:(bx.take aI.length).length=aI.length:=by simp;omega
 have e1:=DI ex
 have c1:=DH cx hw
 have hrow:es≠[]→aI.length≤k∧bx[k]?=some (.row sz es):=fun hne=>hk.resolve_left (fun h=>hne h.1)
 have bY:ay.live (.row sz es)=true→es≠[]:=by intro hl;cases es<;>simp [ay.live] at hl ⊢
 have hold:∀i b,(bx.take aI.length)[i]?=some b→ko β aI.length (β k) i=β i:=by
  intro i b h
  exact cV _ _ (by have:=(eP h).2;omega)
 have hinv:∀{i b},(bx.take aI.length++[.row sz es])[i]?=some b→((bx.take aI.length)[i]?=some b)∨(i=aI.length∧b=.row sz es):=by
  intro i b h
  rcases bw h with ⟨h1,_⟩|⟨h1,h2⟩
  ·exact .inl h1
  exact .inr ⟨by omega,h2⟩
 have e2:Ext β0 aI w0 (ko β aI.length (β k)) (bx.take aI.length++[.row sz es]) w:=by
  refine ⟨ex.os,ex.tape,ex.output,ex.size,ex.block,ex.shape,?_,?_⟩
  ·intro i hi
   obtain ⟨h1,b,h2,h3⟩:=e1.born i hi
   exact ⟨by rw [hold i b h2];exact h1,b,ee h2,h3⟩
  intro i b h hl
  rcases hinv h with h1|⟨rfl,rfl⟩
  ·rw [hold i b h1];exact e1.live i b h1 hl
  rw [bq];exact ex.live k _ (hrow (bY hl)).2 hl
 have hok:∀blk,bc β bx w X blk→bc (ko β aI.length (β k)) (bx.take aI.length++[.row sz es]) w X blk:=by
  rintro blk ⟨k1,k2,k3⟩
  refine ⟨k1,k2,?_⟩
  intro i b h hl
  rcases hinv h with h1|⟨rfl,rfl⟩
  ·rw [hold i b h1];exact k3 i b (eP h1).1 hl
  rw [bq];exact k3 k _ (hrow (bY hl)).2 hl
 have hkeep:iC w w (bc β bx w X) (bc (ko β aI.length (β k)) (bx.take aI.length++[.row sz es]) w X):=fun blk hb=>⟨hok blk hb,rfl⟩
 have oO:qE β (bx.take aI.length) w (bc β bx w X) (ko β aI.length (β k)) (bx.take aI.length++[.row sz es]) w (bc (ko β aI.length (β k)) (bx.take aI.length++[.row sz es]) w X):=by
  refine ⟨hkeep,?_,fun _ c _ _ h=>⟨c,h,rfl⟩⟩
  rintro i ⟨b,hb,h3⟩
  exact ⟨hold i b hb,b,ee hb,h3⟩
 refine ⟨_,e2,⟨cx.xs,?_,?_,?_,?_⟩,?_⟩
 ·intro g ds hg
  obtain ⟨h1,h2⟩:=cx.wC g ds hg
  exact ⟨hok g h1,aT.mono hkeep g (fun _=>rfl) _ _ h2⟩
 ·intro i j bi bj hi hj lR nE he
  rcases hinv hi with h1|⟨rfl,rfl⟩<;>rcases hinv hj with h2|⟨rfl,rfl⟩
  ·rw [hold i bi h1,hold j bj h2] at he
   exact c1.inj i j bi bj h1 h2 lR nE he
  ·rw [hold i bi h1,bq] at he
   obtain ⟨r1,r2⟩:=hrow (bY nE)
   have:=cx.inj i k bi _ (eP h1).1 r2 lR nE he
   have:=(eP h1).2;omega
  ·rw [hold j bj h2,bq] at he
   obtain ⟨r1,r2⟩:=hrow (bY lR)
   have:=cx.inj k j _ bj r2 (eP h2).1 lR nE he
   have:=(eP h2).2;omega
  rfl
 ·intro i b hb
  rcases hinv hb with h1|⟨rfl,rfl⟩
  ·rw [hold i b h1]
   have h:=cx.box i b (eP h1).1
   cases b with
   |var cs=>
    obtain ⟨c,e,g1,g2⟩:=h
    exact ⟨c,e,g1,ak.mono oO _ _ (ij (fun _ hb=>hb) cs _ (kg hw h1) g2)⟩
   |row sz es=>
    refine h.imp id ?_
    rintro ⟨c,e,g1,g2⟩
    exact ⟨c,e,g1,ap.mono hkeep _ _ (fun _=>rfl) _ _ g2⟩
   |mH sz es=>
    refine h.imp id ?_
    rintro ⟨g1,g2⟩
    exact ⟨hok _ g1,ap.mono hkeep _ _ (fun _=>rfl) _ _ g2⟩
   |it s p=>exact h
   |mp ag es=>obtain ⟨ms,clock,h1,h2,h3⟩:=h;exact ⟨ms,clock,h1,h2,bp.mono hkeep _ _ _ h3⟩
   |dead=>trivial
   |bt=>trivial
  rw [bq]
  by_cases hne:es=[]
  ·exact .inl hne
  have h:=cx.box k _ (hrow hne).2
  refine h.imp id ?_
  rintro ⟨c,e,g1,g2⟩
  exact ⟨c,e,g1,ap.mono hkeep _ _ (fun _=>rfl) _ _ g2⟩
 ·intro i b hb hl
  rcases hinv hb with h1|⟨rfl,rfl⟩
  ·rw [hold i b h1];exact cx.apart i b (eP h1).1 hl
  rw [bq];exact cx.apart k _ (hrow (bY hl)).2 hl
 simp only [aj]
 refine ⟨⟨.row sz es,by rw [List.getElem?_append_right (by omega)];simp [hlen],rfl⟩,?_⟩
 rw [bq]
 rcases hu with ⟨_,rfl,base,rfl⟩|hu
 ·exact .inl ⟨rfl,base,rfl⟩
 simp only [aj] at hu
 exact hu.2
theorem lC:∀(ks:List Bool) (bs:List ay) (i:Nat) (b':ay),(kill ks bs)[i]?=some b'→∃b,bs[i]?=some b∧(b'=b∨(b'=.dead∧b.born=true))
 |[],bs,i,b',h=>⟨b',by simpa [kill] using h,.inl rfl⟩
 |_::_,[],i,b',h=>by simp [kill] at h
 |k::ks,b::bs,0,b',h=>by
  simp only [kill,List.getElem?_cons_zero,osI] at h
  refine ⟨b,rfl,?_⟩
  cases hk:(k&&b.born) with
  |false=>rw [hk] at h;exact .inl h.symm
  |true=>rw [hk] at h;simp at hk;exact .inr ⟨h.symm,hk.2⟩
 |k::ks,b::bs,i+1,b',h=>by
  simp only [kill,List.getElem?_cons_succ] at h
  obtain ⟨b0,h1,h2⟩:=lC ks bs i b' h
  exact ⟨b0,by simpa using h1,h2⟩
theorem DJ:∀(ks:List Bool) (bs:List ay) (i:Nat) (b:ay),bs[i]?=some b→∃b',(kill ks bs)[i]?=some b'∧(b'=b∨(b'=.dead∧b.born=true))
 |[],bs,i,b,h=>⟨b,by simpa [kill] using h,.inl rfl⟩
 |_::_,[],i,b,h=>by simp at h
 |k::ks,b0::bs,0,b,h=>by
  simp only [List.getElem?_cons_zero,osI] at h
  subst h
  refine ⟨_,by simp only [kill,List.getElem?_cons_zero];rfl,?_⟩
  cases hk:(k&&b0.born) with
  |false=>exact .inl rfl
  |true=>simp at hk;exact .inr ⟨rfl,hk.2⟩
 |k::ks,b0::bs,i+1,b,h=>by
  simp only [List.getElem?_cons_succ] at h
  obtain ⟨b',h1,h2⟩:=DJ ks bs i b h
  exact ⟨b',by simpa only [kill,List.getElem?_cons_succ] using h1,h2⟩
theorem ON (ks:List Bool) (cx:cz G β bx w X):Ext β bx w β (kill ks bx) w∧cz G β (kill ks bx) w X:=by
 have ex:Ext β bx w β (kill ks bx) w:=by
  refine ⟨rfl,rfl,rfl,Nat.le_refl _,fun _ _ _=>rfl,fun k c e f h=>⟨c,h,rfl⟩,?_,?_⟩
  ·rintro i ⟨b,h1,h2⟩
   obtain ⟨b',h3,h4⟩:=DJ ks bx i b h1
   refine ⟨rfl,b',h3,?_⟩
   rcases h4 with rfl|⟨rfl,_⟩
   ·exact h2
   rfl
  intro i b h1 h2
  obtain ⟨b0,h3,h4⟩:=lC ks bx i b h1
  rcases h4 with rfl|⟨rfl,_⟩
  ·exact .inr ⟨i,b,h3,h2,rfl⟩
  simp [ay.live] at h2
 refine ⟨ex,cx.step ex ?_ ?_⟩
 ·intro i b h1
  obtain ⟨b0,h3,h4⟩:=lC ks bx i b h1
  rcases h4 with rfl|⟨rfl,_⟩
  ·exact .inl ⟨h3,fun _=>rfl⟩
  exact .inr trv
 intro i j bi bj h1 h2 l1 l2 he
 obtain ⟨b1,h3,h4⟩:=lC ks bx i bi h1
 obtain ⟨b2,h5,h6⟩:=lC ks bx j bj h2
 rcases h4 with rfl|⟨rfl,_⟩
 ·rcases h6 with rfl|⟨rfl,_⟩
  ·exact cx.inj i j _ _ h3 h5 l1 l2 he
  simp [ay.live] at l2
 simp [ay.live] at l1
def BU (tmps:Array Value) (r:ResultVar):Sem Value:=
 match r with
 |.tmp t=>pure (tmps.getD t undef)
 |.cell a t=>do loadVar t (←asAddr (tmps.getD a undef))
theorem F8 (fn:Func) (tmps:Array Value):results fn tmps=(do let vs ←fn.results.mapM (BU tmps);pure (if h:vs.size=1 then vs[0] else .tuple vs)):=rfl
theorem xU (hT:jL P T) {N:Nat} {ds:List Deferred} {s:St} {a:Act} (hF:Fr G N ds β w X s a):∀(rs:List ResultVar) {c:Prop} {vs:List AV},zY T s.sl s.bx rs=some (c,vs)→c→
 ∃us:List Value,(rs.mapM (BU a.tmps)).run P w=.ok us w∧ak β s.bx w (bc β s.bx w X) vs us
 |[],c,vs,h,_=>by
  simp [zY] at h
  obtain ⟨_,rfl⟩:=h
  exact ⟨[],by simp,by simp [ak]⟩
 |.tmp t::r,c,vs,h,hc=>by
  simp only [zY] at h
  split at h
  ·rename_i c' vs' h'
   simp only [osI,Prod.mk.injEq] at h
   obtain ⟨rfl,rfl⟩:=h
   obtain ⟨us,g1,g2⟩:=xU hT hF r h' hc.2
   refine ⟨a.tmps.getD t undef::us,?_,?_⟩
   ·rw [List.mapM_cons]
    simp only [Sem.run_bind,g1,BU,Sem.run_pure,Result.andThen_ok]
   simp only [ak];exact ⟨_,_,rfl,jB (hF.xP t) hc.1,g2⟩
  simp at h
 |.cell t ty::r,c,vs,h,hc=>by
  simp only [zY] at h
  split at h
  ·rename_i ti c' vs' Wc h'
   split at h
   ·rename_i b o hl
    split at h
    ·rename_i c2 v b2 Y9
     simp only [osI,Prod.mk.injEq] at h
     obtain ⟨rfl,rfl⟩:=h
     obtain ⟨us,g1,g2⟩:=xU hT hF r h' hc.2
     have hp:=hF.xP t
     rw [hl] at hp
     obtain ⟨_,x,k1,k2⟩:=xw (P:=P) hT hF.cx Wc hp Y9 hc.1
     simp only [aj] at hp
     rw [hp.1] at k1
     refine ⟨x::us,?_,?_⟩
     ·rw [List.mapM_cons]
      have:(loadVar ty ⟨β b,o,none⟩).run P w=.ok x w:=by simpa [Instr.loadAt,Instr.sureAddr] using k1
      simp only [Sem.run_bind,BU,hp.1,asAddr,Sem.run_pure,Result.andThen_ok,this,g1]
     simp only [ak];exact ⟨_,_,rfl,k2,g2⟩
    simp at h
   simp at h
  simp at h
theorem DK (hT:jL P T) {N:Nat} {ds:List Deferred} {s:St} {a:Act} (hF:Fr G N ds β w X s a) {fn:Func} {c:Prop} {vs:List AV} (h:zY T s.sl s.bx fn.results.toList=some (c,vs)) (hc:c):
 ∃u,(results fn a.tmps).run P w=.ok u w∧aj β s.bx w (bc β s.bx w X) (At vs) u:=by
 obtain ⟨us,g1,g2⟩:=xU hT hF _ h hc
 have hlen:=ak.length g2
 rw [F8,Array.mapM_eq_mapM_toList]
 simp [g1]
 split
 ·rename_i h1
  match us,vs,h1,hlen,g2 with
  |[u],[v],_,_,g2=>
   simp only [ak,List.cons.injEq] at g2
   obtain ⟨_,_,⟨rfl,rfl⟩,h,_⟩:=g2
   exact h
 rename_i h1
 have:At vs=.dL vs:=by
  match vs,hlen with
  |[],_=>rfl
  |[v],hl=>exact absurd hl h1
  |_::_::_,_=>rfl
 rw [this];simp only [aj];exact ⟨us,rfl,g2⟩
theorem DL:∀(args:List AV) (i t:Nat),fU t (oD i args)=if i≤t then args.getD (t-i) .any else .any
 |[],i,t=>by simp [oD,fU]
 |x::xs,i,t=>by
  simp only [oD,fU,DL xs (i+1) t]
  by_cases h:t=i
  ·subst h;simp
  rw [Tl h]
  simp only [cond_false]
  by_cases h2:i≤t
  ·rw [if_pos (by omega),if_pos h2,show t-i=(t-(i+1))+1 by omega];simp
  rw [if_neg (by omega),if_neg h2]
theorem F9 (hT:jL P T) {f N:Nat} {fn:Func} {c:Code} {args:List AV} {aI aP:List ay} {res:iy}
 (hN:fn.ntmps=N) (hlen:Nat.ble args.length N=true)
 (h:∀(β:Nat→Nat) (w:World) (X:Nat→Prop) (a:Act),Fr G N [] β w X ⟨oD 0 args,aI⟩ a→c.wp P (fX G N [] X β aI w (HY T fn.results.toList aI.length res aP)) a w)
 (β:Nat→Nat) (w:World) (vs:List Value) (X:Nat→Prop) (cx:cz G β aI w X) (hx:ak β aI w (bc β aI w X) args vs):
 c.wp P (bodyPost P fn fun e w'=>∃β',Ext β aI w β' aP w'∧cz G β' aP w' X∧lm β' aP w' (bc β' aP w' X) res e) {tmps:=(⟨vs⟩:Array Value)++Array.replicate (fn.ntmps-(⟨vs⟩:Array Value).size) undef,defers:=[]} w:=by
 have hl:=ak.length hx
 have hle:args.length≤N:=Nat.le_of_ble_eq_true hlen
 refine wp_mono (h β w X _ ⟨cx,rfl,?_,?_⟩) ?_
 ·simp [hN,hl];omega
 ·intro t
  rw [DL]
  simp only [Nat.zero_le,if_true,Nat.sub_zero]
  by_cases ht:t<args.length
  ·obtain ⟨v,k1,k2⟩:=ak.get t args[t] hx (by simp [ht])
   have e1:args.getD t .any=args[t]:=by simp [List.getD_eq_getElem?_getD,ht]
   rw [e1]
   have hv:t<vs.length:=by omega
   have e2:vs[t]=v:=by rw [List.getElem?_eq_getElem hv] at k1;simpa using k1
   have e3:(({toList:=vs}:Array Value)++Array.replicate (fn.ntmps-(⟨vs⟩:Array Value).size) undef).getD t undef=v:=by
    simp [Array.getD_eq_getD_getElem?,Array.getElem?_append,hv,e2]
   rw [e3];exact k2
  simp [List.getD_eq_getElem?_getD,List.getElem?_eq_none (Nat.le_of_not_lt ht),aj]
 intro e a' w' OO
 have fin:∀β' s,Ext β aI w β' s.bx w'→Fr G N [] β' w' X s a'→(match zY T s.sl s.bx fn.results.toList with
  |some (c,vs)=>QC aI.length c (At vs) s.bx res aP
  |none=>False)→a'.defers=[]∧∃v,(results fn a'.tmps).run P w'=.ok v w'∧∃β',Ext β aI w β' aP w'∧cz G β' aP w' X∧lm β' aP w' (bc β' aP w' X) res (.returned v):=by
  intro β' s ex hF hq
  split at hq
  ·rename_i c vs' hres
   obtain ⟨hc,hq⟩:=hq
   obtain ⟨u,k1,k2⟩:=DK hT hF hres hc
   refine ⟨hF.defers,u,k1,?_⟩
   rcases hq with ⟨rfl,rfl⟩|⟨ks,y,q1,q2,rfl,q3,rfl⟩|⟨k,sz,m,es,q0,q1,q2,q3,q4,rfl,rfl⟩|⟨sz,q0,q1,q2,rfl,rfl⟩
   ·exact ⟨β',ex,hF.cx,k2⟩
   ·obtain ⟨e1,c1,r1⟩:=Jy hF.cx q1 k2
    obtain ⟨e2,c2⟩:=ON ks c1
    exact ⟨β',DI ((ex.trans e1).trans e2),DH c2 q3,nG (fun blk hb=>DG _ blk hb) y u q2 (aj.mono (e2.eN X) _ _ r1)⟩
   ·rw [q0] at k2
    exact Ij hF.cx ex q3 q4 (.inr ⟨q2,q1⟩) (.inr k2)
   rw [q0] at k2
   simp only [aj,List.length_nil] at k2
   obtain ⟨base,k2,_⟩:=k2
   exact Ij (k:=0) hF.cx ex q1 q2 (.inl ⟨rfl,rfl⟩) (.inl ⟨rfl,rfl,base,k2⟩)
  exact hq.elim
 cases e<;>simp only [fX,bodyPost] at OO ⊢
 ·obtain ⟨β',s,h1,h2,h3⟩:=OO;exact fin β' s h1 h2 h3
 ·obtain ⟨β',s,h1,h2,h3⟩:=OO;exact h3.elim
 ·obtain ⟨β',s,h1,h2,h3⟩:=OO;exact fin β' s h1 h2 h3
 obtain ⟨β',oB,v,u,h1,h2,h3,h4,h5,h6⟩:=OO
 obtain ⟨rfl,rfl⟩:=h6.ok
 exact ⟨h5,β',h2,h3,u,h1,h4⟩
theorem sP (hT:jL P T) {f N:Nat} {fn:Func} {c:Code} {args:List AV} {aI aP:List ay} {res:iy} (hf:P.funcs[f]?=some fn) (hb:fn.body=some c)
 (hname:(fn.name== "runtime.NumGoroutine")=false) (hN:fn.ntmps=N) (hlen:Nat.ble args.length N=true)
 (h:∀(β:Nat→Nat) (w:World) (X:Nat→Prop) (a:Act),Fr G N [] β w X ⟨oD 0 args,aI⟩ a→c.wp P (fX G N [] X β aI w (HY T fn.results.toList aI.length res aP)) a w):bA P G f args aI res aP:=by
 intro β w vs X cx hx
 refine .inl ⟨?_,calls_of_wp hf hb (F9 (f:=f) hT hN hlen h β w vs X cx hx)⟩
 simp [callFunc,run_program,hf,hb]
 simpa using hname
end
end Dem
end
