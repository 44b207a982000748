/- Parts of a proof, joined. -/
import Derived.Test.YtihohjnkkalgiaaGreatDoorU03
import Derived.Scope
import Derived.Test.YtihohjnkkalgiaaGreatDoorProg
import Derived.KernelRfl
import Derived.Defers
set_option linter.all false
set_option maxRecDepth 100000
set_option maxHeartbeats 4000000
section
open Go
namespace Dem
section
variable (t:Th)
def Yr (bx:List aA):AV→Option (Prop×AV)
 |.cl es=>some (True,.d (.sl es))
 |.ow b sz n=>match (AV.ow b sz n).Td t bx with
  |some (c,d)=>some (c,.d d)
  |none=>none
 |.vw b sz off n ca ex=>match (AV.vw b sz off n ca ex).yC t bx with
  |some (c,es)=>some (c,.d (.sl es))
  |none=>none
 |v=>some (True,v)
def P2 (bx:List aA):List AV→Option (Prop×List AV)
 |[]=>some (True,[])
 |x::xs=>match Yr t bx x,P2 bx xs with
  |some (c,y),some (d,ys)=>some (c∧d,y::ys)
  |_,_=>none
def LR (bx:List aA):AV→Option (Prop×AV)
 |.agg cs=>match P2 t bx cs with
  |some (c,ys)=>some (c,.agg ys)
  |none=>none
 |v=>Yr t bx v
def qQ (bx:List aA):List AV→Option (Prop×List AV)
 |[]=>some (True,[])
 |x::xs=>match LR t bx x,qQ bx xs with
  |some (c,y),some (d,ys)=>some (c∧d,y::ys)
  |_,_=>none
def P3 (bx:List aA):AV→Option (Prop×AV)
 |.ek vs=>match qQ t bx vs with
  |some (c,ys)=>some (c,.ek ys)
  |none=>none
 |v=>LR t bx v
end
section
variable {bx:List aA}
theorem JE {x y:AV} {c:Prop} (h:Yr t0 bx x=some (c,y)) (hc:c):fz bx x=some y:=by
 unfold Yr at h
 split at h
 ·simp only [osI,Prod.mk.injEq] at h;obtain ⟨rfl,rfl⟩:=h;rfl
 ·rename_i b sz n
  split at h
  ·rename_i c' d h1
   simp only [osI,Prod.mk.injEq] at h;obtain ⟨rfl,rfl⟩:=h
   simp only [fz,PZ h1 hc,Option.map_some]
  simp at h
 ·rename_i b sz off n ca ex
  split at h
  ·rename_i c' es h1
   simp only [osI,Prod.mk.injEq] at h;obtain ⟨rfl,rfl⟩:=h
   simp only [fz,kn h1 hc,Option.map_some]
  simp at h
 rename_i h1 h2 h3
 simp only [osI,Prod.mk.injEq] at h;obtain ⟨rfl,rfl⟩:=h
 unfold fz;split
 ·exact absurd rfl (h1 _)
 ·exact absurd rfl (h2 _ _ _)
 ·exact absurd rfl (h3 _ _ _ _ _ _)
 rfl
theorem GU:∀{xs ys:List AV} {c:Prop},P2 t0 bx xs=some (c,ys)→c→IY bx xs=some ys
 |[],ys,c,h,_=>by simp [P2] at h;simp [IY,h.2]
 |x::xs,ys,c,h,hc=>by
  simp only [P2] at h
  split at h
  ·rename_i c1 y d ys' h1 h2
   simp only [osI,Prod.mk.injEq] at h
   obtain ⟨rfl,rfl⟩:=h
   simp [IY,JE h1 hc.1,GU h2 hc.2]
  simp at h
theorem AW {x y:AV} {c:Prop} (h:LR t0 bx x=some (c,y)) (hc:c):qn bx x=some y:=by
 unfold LR at h
 split at h
 ·split at h
  ·rename_i cs c' ys h1
   simp only [osI,Prod.mk.injEq] at h
   obtain ⟨rfl,rfl⟩:=h
   simp [qn,GU h1 hc]
  simp at h
 rename_i h1
 unfold qn;split
 ·exact absurd rfl (h1 _)
 exact JE h hc
theorem gR:∀{xs ys:List AV} {c:Prop},qQ t0 bx xs=some (c,ys)→c→eS bx xs=some ys
 |[],ys,c,h,_=>by simp [qQ] at h;simp [eS,h.2]
 |x::xs,ys,c,h,hc=>by
  simp only [qQ] at h
  split at h
  ·rename_i c1 y d ys' h1 h2
   simp only [osI,Prod.mk.injEq] at h
   obtain ⟨rfl,rfl⟩:=h
   simp [eS,AW h1 hc.1,gR h2 hc.2]
  simp at h
theorem JF {x y:AV} {c:Prop} (h:P3 t0 bx x=some (c,y)) (hc:c):I5 bx x=some y:=by
 unfold P3 at h
 split at h
 ·split at h
  ·rename_i cs c' ys h1
   simp only [osI,Prod.mk.injEq] at h
   obtain ⟨rfl,rfl⟩:=h
   simp [I5,gR h1 hc]
  simp at h
 rename_i h1
 unfold I5;split
 ·exact absurd rfl (h1 _)
 exact AW h hc
end
structure m8 (FC:Nat→List AV→List aA→iB→List aA→Prop) (jV:Prop) (f:Nat) (args:List AV) (fz:Option (Prop×List AV)) (bx:List aA)
 (K:AV→List aA→Prop) (Kp:AV→List aA→Prop):Prop where
 ok:jV∧(
  (∃c args',fz=some (c,args')∧c∧AV.shut.lu args'=true∧
   (
    (∃v,FC f args' [] (.ret v) []∧(v.flat=true∨eS [] args=some args'∧v.shut=true)∧K v bx)∨
    (∃sz n es,FC f args' [] (.ret (.ow 0 sz n)) [.row sz es]∧((∀r∈es,∀x∈r,x.flat=true)∨eS [] args=some args')∧K (.ow bx.length sz n) (bx++[.row sz es]))))∨
  (∃args' qp res qq,(args'=args∧qp=bx∨(∃c,fz=some (c,args')∧c)∧qp=fy bx args)∧FC f args' qp res qq∧
   (match res with|.ret v=>K v qq|.MK v=>Kp v qq)))
structure oX (FC:Nat→List AV→List aA→iB→List aA→Prop) (dr g:Bool) (jV:Prop) (f:Nat) (args:List AV) (bx:List aA) (fz:Option (Prop×List AV)) (K:AV→Prop):Prop where
 ok:(dr=false∧∃v,(g=true→jV∧FC f args bx (.ret v) bx)∧K v)∨∃v,(g=true→jV∧∃args' jS,(∃c,fz=some (c,args')∧c)∧AV.bL.cW jS args'=true∧(∃dt,dS dt jS jS=true∧(dt=true→eS [] args=some args'))∧
  (∀(i:Nat) (b:aA),jS[i]?=some b→b.born=true→∃b',bx[i]?=some b'∧b'.born=true∧(b.live=true→b'=b))∧FC f args' jS (.ret v) jS∧
  (v.flat=true∨eS [] args=some args'∧v.shut=true))∧K v
structure wY (g:Bool) (p:Prop):Prop where
 ok:g=true→p
structure LS (p:Bool) (a b:Prop):Prop where
 ok:(p=true→a)∧(p=false→b)
theorem bU {p:Bool} {a b:Prop}:LS p a b↔((p=true→a)∧(p=false→b)):=⟨fun h=>h.ok,fun h=>⟨h⟩⟩
structure AX (g:Bool) (c:Prop) (ds:List D) (K:List D→Prop):Prop where
 ok:∃ds',(g=true→c∧ds=ds')∧K ds'
structure P4 (c:Prop) (v:AV) (bx:List aA) (K:AV→List aA→Prop):Prop where
 ok:∃v' aL,c∧v=v'∧bx=aL∧K v' aL
structure Vj (g:Bool) (c:Prop) (v:AV) (K:AV→Prop):Prop where
 ok:∃v',(g=true→c∧v=v')∧K v'
def GV (ev:Operand→AV) (o:Op):Bool:=bif je ev o then (match o with
 |.slice _ _ _ _ _=>true
 |.call {callee:=.builtin b,..}=>match b with
  |.copy=>true
  |.clear=>true
  |.append=>true
  |_=>false
 |_=>false) else false
def P5 (t:Th) (T:Nat→Option TI) (ty:Nat) (x i:AV):Option (Prop×List D):=
 match T ty with
 |some ti=>match ti.kd,x,i with
  |.slice e,.d (.sl es),.d (.int _ z)=>match T e with
   |some te=>some (t Prop (fun _=>0≤z∧z<es.length∧(∀r∈es,r.length=te.size)),t _ fun _=>es.getD z.toNat [])
   |none=>none
  |.slice e,.cl es,.d (.int _ z)=>match T e with
   |some te=>some (t Prop (fun _=>0≤z∧z<es.length∧(∀r∈es,r.length=te.size)),t _ fun _=>es.getD z.toNat [])
   |none=>none
  |_,_,_=>none
 |none=>none
theorem V6 {T:Nat→Option TI} {ty:Nat} {x i:AV}:P5 t0 T ty x i=z8 T ty x i:=by
 unfold P5 z8;rfl
def V7 (t:Th) (T:Nat→Option TI) (ev:Operand→AV):Op→Option (Prop×List (List D))
 |.call {callee:=.builtin b,args,argTypes}=>match b,args.toList,argTypes.toList with
  |.append,[x,y],[ty,u]=>match T ty,T u with
   |some ti,some tu=>match ti.kd,tu.kd with
    |.slice e,.slice _=>match T e with
     |some te=>bif eP te then match ev x,ev y with
      |.cl es,.cl (x0::xr)=>some (t Prop (fun _=>(es.length+(x0::xr).length)*te.bytes≤140737488355328∧(∀r∈es++(x0::xr),r.length=te.size)),t _ fun _=>es++(x0::xr))
      |_,_=>none
      else none
     |none=>none
    |_,_=>none
   |_,_=>none
  |_,_,_=>none
 |_=>none
theorem V8 {T:Nat→Option TI} {ev:Operand→AV} {op:Op}:V7 t0 T ev op=Ct T ev op:=by
 unfold V7 Ct;rfl
def jD (b:List Nat):Nat→List Oper→List Bool
 |_,[]=>[]
 |i,_::r=>barrier b i::jD b (i+1) r
structure Vk (FC:Nat→List AV→List aA→iB→List aA→Prop) (jV:Prop) (f:Nat) (args:List AV) (fz:Option (Prop×List AV)) (at_:Option aA) (x:Nat) (K:AV→aA→Prop):Prop where
 ok:∃args' sz n es,jV∧(∃c,fz=some (c,args')∧c)∧AV.shut.lu args'=true∧FC f args' [] (.ret (.ow 0 sz n)) [.row sz es]∧
  ((∀r∈es,∀x∈r,x.flat=true)∨eS [] args=some args')∧at_=some .bq∧K (.ow x sz n) (.row sz es)
structure Vl (a b:String) (K:Prop):Prop where
 ok:a=b∧K
theorem Vm {a:String} {K:Prop} (h:K):Vl a a K:=⟨rfl,h⟩
def V9 (T:Nat→Option TI) (x:AV):Option (String×Nat×AV):=
 match x with
 |.sS ty v=>match T ty with
  |some ti=>match ti.inv with
   |some (n,i)=>some (n,i,v)
   |none=>none
  |none=>none
 |_=>none
theorem Tn {T:Nat→Option TI} {x v:AV} {n:String} {i:Nat} (qas:List AV) (h:V9 T x=some (n,i,v)):CW T x n qas=some (i,v::qas):=by
 unfold V9 at h
 unfold CW
 split at h
 ·split at h
  ·rename_i ti ht
   simp only [ht]
   split at h
   ·rename_i hi
    simp only [osI,Prod.mk.injEq] at h
    obtain ⟨rfl,rfl,rfl⟩:=h
    simp only [hi,if_true]
   cases h
  cases h
 cases h
def P6:Op→Bool
 |.call {callee:=.value _,..}=>true
 |_=>false
structure AY (ops:List Oper) (A:Option Nat→List Bool→Prop) (X:List Nat→Prop) (B1:OT→St→Prop) (B2:St→Prop) (B3:List Nd→List St→Prop):Prop where
 ok:(∃(pre:List Nat) (tr:OT) (s1:St),(iI ops.toArray [] pre=true∧l7 ops.toArray=true∧X pre)∧tr.fits pre ops=true∧B1 tr s1∧B2 s1)∨(∃(pl:List Nd) (S:List St) (s1:St),Ls ops.toArray pl=true∧B3 pl S∧S[pl.length]?=some s1∧B2 s1)∨∃k pre late fs,((pre=[]∧late=[])∨(iI ops.toArray [] pre=true∧l7 ops.toArray=true∧su (bI pre 0 ops).toArray late=true∧(k=none∧X pre∨pre=[])))∧
  (Lu (gy (bI pre 0 ops).toArray late 0 (bI pre 0 ops))∧jD (cg (gy (bI pre 0 ops).toArray late 0 (bI pre 0 ops)) []) 0 ops=fs)∧A k fs
theorem Ys {ops:List Oper} {A:Option Nat→List Bool→Prop} {X:List Nat→Prop} {B1:OT→St→Prop} {B2:St→Prop} {B3:List Nd→List St→Prop} (fs:List Bool) (h1:gr ops.toArray (cg ops []) 0 ops=true) (h2:jD (cg ops []) 0 ops=fs) (h:A none fs):AY ops A X B1 B2 B3:=
 ⟨.inr<|.inr ⟨none,[],[],fs,.inl ⟨rfl,rfl⟩,by rw [oT,sF];exact ⟨⟨h1⟩,h2⟩,h⟩⟩
theorem Yt {ops:List Oper} {A:Option Nat→List Bool→Prop} {X:List Nat→Prop} {B1:OT→St→Prop} {B2:St→Prop} {B3:List Nd→List St→Prop} (pre late:List Nat) (fs:List Bool) (hp:iI ops.toArray [] pre=true) (hs:l7 ops.toArray=true) (hl:su (bI pre 0 ops).toArray late=true) (hx:X pre)
 (h1:gr (gy (bI pre 0 ops).toArray late 0 (bI pre 0 ops)).toArray (cg (gy (bI pre 0 ops).toArray late 0 (bI pre 0 ops)) []) 0 (gy (bI pre 0 ops).toArray late 0 (bI pre 0 ops))=true)
 (h2:jD (cg (gy (bI pre 0 ops).toArray late 0 (bI pre 0 ops)) []) 0 ops=fs) (h:A none fs):AY ops A X B1 B2 B3:=
 ⟨.inr<|.inr ⟨none,pre,late,fs,.inr ⟨hp,hs,hl,.inl ⟨rfl,hx⟩⟩,⟨⟨h1⟩,h2⟩,h⟩⟩
theorem GW {ops:List Oper} {A:Option Nat→List Bool→Prop} {X:List Nat→Prop} {B1:OT→St→Prop} {B2:St→Prop} {B3:List Nd→List St→Prop} (pre:List Nat) (fs:List Bool) (hp:iI ops.toArray [] pre=true) (hs:l7 ops.toArray=true) (hx:X pre)
 (h1:gr (bI pre 0 ops).toArray (cg (bI pre 0 ops) []) 0 (bI pre 0 ops)=true) (h2:jD (cg (bI pre 0 ops) []) 0 ops=fs) (h:A none fs):AY ops A X B1 B2 B3:=
 ⟨.inr<|.inr ⟨none,pre,[],fs,.inr ⟨hp,hs,rfl,.inl ⟨rfl,hx⟩⟩,by rw [sF];exact ⟨⟨h1⟩,h2⟩,h⟩⟩
theorem LU {ops:List Oper} {A:Option Nat→List Bool→Prop} {X:List Nat→Prop} {B1:OT→St→Prop} {B2:St→Prop} {B3:List Nd→List St→Prop} (pre:List Nat) (tr:OT) (s1:St) (hp:iI ops.toArray [] pre=true) (hs:l7 ops.toArray=true) (hx:X pre) (hf:tr.fits pre ops=true) (h1:B1 tr s1) (h2:B2 s1):AY ops A X B1 B2 B3:=
 ⟨.inl ⟨pre,tr,s1,⟨hp,hs,hx⟩,hf,h1,h2⟩⟩
section
variable (t:Th) (FC:Nat→List AV→List aA→iB→List aA→Prop) (T:Nat→Option TI) (G:Nat→Option (List D)) (N:Nat)
def stepT (o:Oper) (s:St) (K:AV→List aA→Prop) (Q:Ex→St→Prop):Prop:=
 match o.op with
 |.pick c a b=>match (bV G s.sl c).aM with
  |.d (.bool p)=>((bV G s.sl c).ok∧LS p (bV G s.sl a).ok (bV G s.sl b).ok)∧K (EE t p (bV G s.sl a).aM (bV G s.sl b).aM) s.bx
  |_=>False
 |.call {callee:=.value f,args,..}=>match l6 (bV G s.sl f).aM (args.toList.map fun x=>(bV G s.sl x).aM) with
  |some (i,qas)=>m8 FC ((bV G s.sl f).ok∧dG (fX G s.sl args.toList)) i qas (qQ t s.bx qas) s.bx (fun v bx=>K v bx) (fun v bx=>Q (.panic v) ⟨[],bx⟩)
  |none=>False
 |.panic x=>match (bV G s.sl x).aM with
  |.sS ty v=>(bV G s.sl x).ok∧Q (.panic (.sS ty v)) ⟨[],s.bx⟩
  |_=>False
 |.range ty x=>match T ty with
  |some ti=>match ti.kd,(bV G s.sl x).aM with
   |.str,.d (.str str)=>(bV G s.sl x).ok∧K (.ptr s.bx.length 0) (s.bx++[.it str 0])
   |_,_=>False
  |none=>False
 |.next it true=>match (bV G s.sl it).aM with
  |.ptr b 0=>match s.bx[b]? with
   |some (.it str pos)=>(bV G s.sl it).ok∧O7 str pos (fun c wd=>K (.ek [.d (.bool true),.d (.int .i64 (t _ fun _=>pos)),.d (.int .i32 (t _ fun _=>c))]) (s.bx.set b (.it str (t _ fun _=>pos+wd)))) (fun _=>K (.ek [.d (.bool false)]) s.bx)
   |_=>False
  |_=>False
 |.binOp .eql ty x (.const (.slice none 0 0)) _=>match T ty,ML (bV G s.sl x).aM with
  |some ti,some IZ=>match ti.kd with
   |.slice _=>(bV G s.sl x).ok∧Lr (t Prop fun _=>IZ) (fun b=>K (.d (.bool b)) s.bx)
   |_=>False
  |_,_=>False
 |.binOp .neq ty x (.const (.slice none 0 0)) _=>match T ty,ML (bV G s.sl x).aM with
  |some ti,some IZ=>match ti.kd with
   |.slice _=>(bV G s.sl x).ok∧Lr (t Prop fun _=>IZ) (fun b=>K (.d (.bool (t _ fun _=>!b))) s.bx)
   |_=>False
  |_,_=>False
 |.makeMap ty none=>match T ty with
  |some ti=>match ti.kd with
   |.map _ e=>match T e with
    |some te=>K (.zX s.bx.length) (s.bx++[.mp te.kd.isAgg []])
    |none=>False
   |_=>False
  |none=>False
 |.lookup ty m k Cq=>match Aa T ty (bV G s.sl m).aM s.bx,(bV G s.sl k).aM with
  |some (tk,te,ag,es),.d kd=>Eg true (((bV G s.sl m).ok∧(bV G s.sl k).ok)∧(t Prop fun _=>wI tk te ag es kd)) (t _ fun _=>qt es kd) (oG te Cq (fun v=>K v s.bx))
  |_,_=>False
 |.mapUpdate ty m k x=>match Eh T ty (bV G s.sl m).aM s.bx,(bV G s.sl k).aM,(bV G s.sl x).aM.cells? with
  |some (b,tk,te,ag,es),.d kd,some vs=>match cE vs,AR t s.bx vs with
   |true,some (c,ds)=>(((bV G s.sl m).ok∧(bV G s.sl k).ok∧(bV G s.sl x).ok)∧c∧(t Prop fun _=>wI tk te ag es kd)∧Nat.beq ds.length te.size=true∧(bV G s.sl x).aM.isAgg=ag)∧K .any (s.bx.set b (.mp ag (t _ fun _=>sU es kd ds)))
   |_,_=>False
  |_,_,_=>False
 |.load ty a=>
  match rowAt t (bV G s.sl a).aM s.bx with
  |some (c,ds,j)=>AX true ((bV G s.sl a).ok∧c) ds (fun ds=>match T ty with
   |some ti=>match cH ti.kd.isAgg ti.size ((ds.drop j).map .d) with
    |some v=>K v s.bx
    |none=>False
   |none=>False)
  |none=>match XM t T (fun x=>(bV G s.sl x).aM) (.load ty a) s.bx with
   |some ⟨c,v,b⟩=>(dG (fX G s.sl (Op.load ty a).operands.toList)∧c)∧K v (dN s.bx b)
   |none=>False
 |op=>
  match (match op with|.indexAddr ty x i=>P5 t T ty (bV G s.sl x).aM (bV G s.sl i).aM|_=>none) with
  |some (c,ds)=>nK true (dG (fX G s.sl op.operands.toList)∧c) ds (fun ds=>K (.ep ds) s.bx)
  |none=>match XM t T (fun x=>(bV G s.sl x).aM) op s.bx with
   |some ⟨c,v,b⟩=>bif GV (fun x=>(bV G s.sl x).aM) op then P4 (dG (fX G s.sl op.operands.toList)∧c) v (dN s.bx b) K
    else (dG (fX G s.sl op.operands.toList)∧c)∧K v (dN s.bx b)
   |none=>False
def nC (dr g:Bool) (o:Oper) (s:St) (K:AV→Prop):Prop:=
 match o.op with
 |.pick c a b=>match (bV G s.sl c).aM with
  |.d (.bool p)=>wY g ((bV G s.sl c).ok∧LS p (bV G s.sl a).ok (bV G s.sl b).ok)∧K (EE t p (bV G s.sl a).aM (bV G s.sl b).aM)
  |_=>False
 |.call {callee:=.value f,args,..}=>match l6 (bV G s.sl f).aM (args.toList.map fun x=>(bV G s.sl x).aM) with
  |some (i,qas)=>oX FC dr g ((bV G s.sl f).ok∧dG (fX G s.sl args.toList)) i qas s.bx (qQ t s.bx qas) (fun v=>K v)
  |none=>False
 |.call {callee:=.invoke r nm,args,..}=>match V9 T (bV G s.sl r).aM with
  |some (n,i,v)=>Vl n nm (oX FC true g ((bV G s.sl r).ok∧dG (fX G s.sl args.toList)) i (v::(args.toList.map fun x=>(bV G s.sl x).aM)) s.bx (qQ t s.bx (v::(args.toList.map fun x=>(bV G s.sl x).aM))) (fun v=>K v))
  |none=>False
 |.load ty a=>
  match rowAt t (bV G s.sl a).aM s.bx with
  |some (c,ds,j)=>AX g ((bV G s.sl a).ok∧c) ds (fun ds=>match T ty with
   |some ti=>match cH ti.kd.isAgg ti.size ((ds.drop j).map .d) with
    |some v=>K v
    |none=>False
   |none=>False)
  |none=>match XM t T (fun x=>(bV G s.sl x).aM) (.load ty a) s.bx with
   |some ⟨c,v,none⟩=>wY g (dG (fX G s.sl (Op.load ty a).operands.toList)∧c)∧K v
   |_=>False
 |op=>
  match (match op with|.indexAddr ty x i=>P5 t T ty (bV G s.sl x).aM (bV G s.sl i).aM|_=>none) with
  |some (c,ds)=>nK g (dG (fX G s.sl op.operands.toList)∧c) ds (fun ds=>K (.ep ds))
  |none=>match XM t T (fun x=>(bV G s.sl x).aM) op s.bx with
   |some ⟨c,v,none⟩=>bif GV (fun x=>(bV G s.sl x).aM) op then Vj g (dG (fX G s.sl op.operands.toList)∧c) v K
    else wY g (dG (fX G s.sl op.operands.toList)∧c)∧K v
   |_=>match V7 t T (fun x=>(bV G s.sl x).aM) op with
    |some (c,es)=>wY g (dG (fX G s.sl op.operands.toList)∧c)∧K (.d (.sl es))
    |none=>False
def nX (sl:List (Nat×AV)) (ops:List Oper) (j:Nat) (want:Bool):Option Bool:=
 match ops[j]? with
 |some o=>match o.dst with
  |some u=>match fW u sl with
   |.d (.bool q)=>some (bif want then q else t _ fun _=>!q)
   |.cond g (.d (.bool q))=>some (t _ fun _=>g&&(bif want then q else !q))
   |_=>none
  |none=>none
 |none=>none
def P7 (ops:List Oper):List Oper→(Ex→St→Prop)→St→Prop
 |[],Q,s=>Q .normal s
 |o::rest,Q,s=>bif ic N o.dst then
  match o.guard with
  |none=>stepT t FC T G o s (fun v bx=>P7 ops rest Q ⟨eN o.dst v s.sl,bx⟩) Q
  |some (j,want)=>match nX t s.sl ops j want with
   |some g=>nC t FC T G false g o s (fun v=>P7 ops rest Q ⟨eN o.dst (.cond g v) s.sl,s.bx⟩)
   |none=>False
  else False
def P8 (o:Oper) (sl:List (Nat×AV)) (iw:List aA) (x:Nat) (K:AV→aA→Prop):Prop:=
 match o.op with
 |.call {callee:=.value f,args,..}=>match l6 (bV G sl f).aM (args.toList.map fun x=>(bV G sl x).aM) with
  |some (i,qas)=>Vk FC ((bV G sl f).ok∧dG (fX G sl args.toList)) i qas (qQ t iw qas) iw[x]? x K
  |none=>False
 |_=>False
def tC (ops:List Oper) (base:Nat):List Bool→List aA→Nat→List Oper→(Ex→St→Prop)→St→Prop
 |_,_,_,[],Q,s=>Q .normal s
 |[],_,_,_::_,_,_=>False
 |f::fs,iw,k,o::rest,Q,s=>bif ic N o.dst then
  bif f then match o.guard with
   |none=>stepT t FC T G o s (fun v bx=>tC ops base fs bx k rest Q ⟨eN o.dst v s.sl,bx⟩) Q
   |some (j,want)=>match nX t s.sl ops j want with
    |some g=>nC t FC T G true g o s (fun v=>tC ops base fs s.bx k rest Q ⟨eN o.dst (.cond g v) s.sl,s.bx⟩)
    |none=>False
  else match iC T G s.sl o with
   |some cs=>match iw[base+k]? with
    |some .bq=>tC ops base fs iw (k+1) rest Q ⟨eN o.dst (.ptr (base+k) 0) s.sl,s.bx.set (base+k) (.var cs)⟩
    |_=>False
   |none=>match o.guard with
    |none=>bif P6 o.op then nC t FC T G true true o ⟨s.sl,iw⟩ (fun v=>tC ops base fs iw k rest Q ⟨eN o.dst v s.sl,s.bx⟩)∨
     P8 t FC G o s.sl iw (base+k) (fun v B=>tC ops base fs iw (k+1) rest Q ⟨eN o.dst v s.sl,s.bx.set (base+k) B⟩)
     else nC t FC T G true true o ⟨s.sl,iw⟩ (fun v=>tC ops base fs iw k rest Q ⟨eN o.dst v s.sl,s.bx⟩)
    |some (j,want)=>match nX t s.sl ops j want with
     |some g=>nC t FC T G true g o ⟨s.sl,iw⟩ (fun v=>tC ops base fs iw k rest Q ⟨eN o.dst (.cond g v) s.sl,s.bx⟩)
     |none=>False
  else False
def EG (i:Nat) (s:St):Option (Prop×St):=match Yr t s.bx (fW i s.sl) with
 |some (c,y)=>some (c,⟨put i y s.sl,(fW i s.sl).cq s.bx⟩)
 |none=>none
def P9 (k:Option Nat) (s:St) (K:St→Prop):Prop:=match k with
 |none=>K s
 |some i=>match EG t i s with
  |some (c,s1)=>c∧K s1
  |none=>False
def AZ (ops:List Oper) (i:Nat) (K:St→Prop) (Q:Ex→St→Prop) (s:St):Prop:=match ops[i]? with
 |some o=>bif ic N o.dst then match o.guard with
  |none=>stepT t FC T G o s (fun v bx=>K ⟨eN o.dst v s.sl,bx⟩) Q
  |some (j,want)=>match nX t s.sl ops j want with
   |some g=>wH (.d (.bool g)) (fun _=>stepT t FC T G o s (fun v bx=>K ⟨eN o.dst (.cond true v) s.sl,bx⟩) Q) (fun _=>K ⟨eN o.dst (.cond false .any) s.sl,s.bx⟩)
   |none=>False
  else False
 |none=>False
def GX (ops:List Oper) (Q:Ex→St→Prop) (R:St→Prop):OT→St→Prop
 |.done,s=>R s
 |.one i o,s=>AZ t FC T G N ops i (GX ops Q R o) Q s
 |.more i o r,s=>AZ t FC T G N ops i (GX ops Q R o) Q s∧GX ops Q R r s
inductive GY (ops:List Oper) (Q:Ex→St→Prop) (S:List St) (s:St):List (Nat×Nat)→Prop
 |nil:GY ops Q S s []
 |cons {p i:Nat} {r:List (Nat×Nat)} {s0:St} (hs:S[p]?=some s0) (h:AZ t FC T G N ops i (fun s1=>(⟨Cu s1.sl,s1.bx⟩:St)=s) Q s0) (hr:GY ops Q S s r):GY ops Q S s ((p,i)::r)
inductive M7 (ops:List Oper) (Q:Ex→St→Prop) (S:List St):Nat→List Nd→Prop
 |nil {k:Nat}:M7 ops Q S k []
 |cons {k:Nat} {nd:Nd} {r:List Nd} {s:St} (hs:S[k]?=some s) (hp:GY t FC T G N ops Q S s nd.ps) (hr:M7 ops Q S (k+1) r):M7 ops Q S k (nd::r)
inductive Wa (ops:List Oper) (Q:Ex→St→Prop) (s:St) (pl:List Nd) (S:List St):Prop
 |mk (first:S[0]?=some s) (all:M7 t FC T G N ops Q S 1 pl):Wa ops Q s pl S
 |zI {s0:St} (ks:List Nat) (eq:(⟨x5 ks s.sl,s.bx⟩:St)=s0) (first:S[0]?=some s0) (all:M7 t FC T G N ops Q S 1 pl):Wa ops Q s pl S
def LV (ops:List Oper) (Q:Ex→St→Prop) (s:St):Prop:=
 AY ops (fun k fs=>P9 t k s fun s=>tC t FC T G N ops s.bx.length fs (s.bx++List.replicate (oH ops) .bq) 0 ops Q ⟨s.sl,s.bx++List.replicate (oH ops) .bq⟩) (fun pre=>CX G N ops pre s.sl=true)
  (fun tr s1=>GX t FC T G N ops Q (fun s=>(⟨Cu s.sl,s.bx⟩:St)=s1) tr s) (fun s1=>Q .normal s1) (fun pl S=>Wa t FC T G N ops Q s pl S)
end
section
variable {FC:Nat→List AV→List aA→iB→List aA→Prop} {T:Nat→Option TI} {G:Nat→Option (List D)} {N:Nat}
theorem oY (sl:List (Nat×AV)) (ops:List Oper) (j:Nat) (want:Bool):nX t0 sl ops j want=guardOf sl ops j want:=by
 unfold nX guardOf;rfl
theorem LW {ti:TI} {a:AV} {bx:List aA} {c:Prop} {ds:List D} {j:Nat} (h:rowAt t0 a bx=some (c,ds,j)) (hc:c) {v:AV} (hv:cH ti.kd.isAgg ti.size ((ds.drop j).map .d)=some v):nW (pU ti a bx) v none:=by
 unfold rowAt at h
 split at h
 ·rename_i b sz i j'
  split at h
  ·rename_i s es hb
   cases hs:Nat.beq s sz with
   |false=>simp [hs] at h
   |true=>
   simp only [hs,cond_true,osI,Prod.mk.injEq] at h
   obtain ⟨rfl,rfl,rfl⟩:=h
   have hv':cH ti.kd.isAgg ti.size (((es.getD i []).drop j').map .d)=some v:=hv
   simp only [pU,hb,hv']
   exact ⟨_,rfl,Nat.eq_of_beq_eq_true hs,hc⟩
  ·rename_i s es hb
   cases hs:Nat.beq s sz with
   |false=>simp [hs] at h
   |true=>
   simp only [hs,cond_true,osI,Prod.mk.injEq] at h
   obtain ⟨rfl,rfl,rfl⟩:=h
   have hv':cH ti.kd.isAgg ti.size (((es.getD i []).drop j').map .d)=some v:=hv
   simp only [pU,hb,hv']
   exact ⟨_,rfl,Nat.eq_of_beq_eq_true hs,hc⟩
  simp at h
 simp at h
theorem LX (T:Nat→Option TI) (G:Nat→Option (List D)) (s:St) (op:Op):(match op with|.indexAddr ty x i=>P5 t0 T ty (bV G s.sl x).aM (bV G s.sl i).aM|_=>none)=(match op with|.indexAddr ty x i=>z8 T ty (bV G s.sl x).aM (bV G s.sl i).aM|_=>none):=by
 cases op<;>first|rfl|exact V6
theorem To {jV:Prop} {f:Nat} {args:List AV} {bx:List aA} {K K':AV→List aA→Prop} {Kp:AV→List aA→Prop} (hK:∀v bx,K v bx→K' v bx)
 (h:m8 FC jV f args (qQ t0 bx args) bx K Kp):O5 FC jV f args bx K' Kp:=by
 obtain ⟨h0,h|h⟩:=h
 ·obtain ⟨c,args',h1,h2,h3,h4⟩:=h
  refine ⟨h0,.inl ⟨args',gR h1 h2,h3,?_⟩⟩
  rcases h4 with ⟨v,k1,k2,k3⟩|⟨sz,n,es,k1,k2,k3⟩
  ·exact .inl ⟨v,k1,k2,hK _ _ k3⟩
  exact .inr ⟨sz,n,es,k1,k2,hK _ _ k3⟩
 obtain ⟨args',qp,res,qq,h1,h2,h3⟩:=h
 refine ⟨h0,.inr ⟨args',qp,res,qq,?_,h2,?_⟩⟩
 ·rcases h1 with h1|⟨⟨c,k1,k2⟩,k3⟩
  ·exact .inl h1
  exact .inr ⟨gR k1 k2,k3⟩
 cases res with
 |ret v=>exact hK _ _ h3
 |MK v=>exact h3
theorem GZ {te:TI} {Cq:Bool} {K K':AV→Prop} (hK:∀v,K v→K' v) {o:Option (List D)} (h:oG te Cq K o):oG te Cq K' o:=by
 cases o with
 |none=>
  simp only [oG] at h ⊢
  split at h
  ·exact hK _ h
  exact h.elim
 |some ds=>
  simp only [oG] at h ⊢
  split at h
  ·exact hK _ h
  exact h.elim
theorem zK {o:Oper} {s:St} {K K':AV→List aA→Prop} {Q:Ex→St→Prop} (hK:∀v bx,K v bx→K' v bx) (h:stepT t0 FC T G o s K Q):qu FC T G o s K' Q:=by
 unfold stepT at h
 unfold qu
 split at h
 ·rename_i c a b ho
  simp only [ho]
  split at h
  ·rename_i p hc
   simp only [hc]
   rw [GS] at h
   exact ⟨⟨h.1.1,h.1.2.ok⟩,hK _ _ h.2⟩
  exact h.elim
 ·rename_i f args ats ho
  simp only [ho]
  split at h
  ·rename_i i qas hf
   simp only [hf]
   exact To hK h
  exact h.elim
 ·rename_i x ho
  simp only [ho]
  split at h
  ·rename_i ty v hx;simp only [hx];exact h
  exact h.elim
 ·rename_i ty x ho
  simp only [ho]
  split at h
  ·rename_i ti ht
   simp only [ht]
   split at h
   ·rename_i str hk hx;simp only [hk,hx];exact ⟨h.1,hK _ _ h.2⟩
   exact h.elim
  exact h.elim
 ·rename_i it ho
  simp only [ho]
  split at h
  ·rename_i b hx
   simp only [hx]
   split at h
   ·rename_i str pos hb
    simp only [hb]
    exact ⟨h.1,⟨fun hp=>hK _ _ (h.2.ok.1 hp),fun hp=>hK _ _ (h.2.ok.2 hp)⟩⟩
   exact h.elim
  exact h.elim
 ·rename_i ty x t2 ho
  simp only [ho]
  split at h
  ·rename_i ti IZ ht he
   simp only [ht,he]
   split at h
   ·rename_i e hk;simp only [hk];exact ⟨h.1,⟨fun b hb=>hK _ _ (h.2.ok b hb)⟩⟩
   exact h.elim
  exact h.elim
 ·rename_i ty x t2 ho
  simp only [ho]
  split at h
  ·rename_i ti IZ ht he
   simp only [ht,he]
   split at h
   ·rename_i e hk;simp only [hk];exact ⟨h.1,⟨fun b hb=>hK _ _ (h.2.ok b hb)⟩⟩
   exact h.elim
  exact h.elim
 ·rename_i ty ho
  simp only [ho]
  split at h
  ·rename_i ti ht
   simp only [ht]
   split at h
   ·rename_i mk me hk
    simp only [hk]
    split at h
    ·rename_i te hte
     simp only [hte]
     exact hK _ _ h
    exact h.elim
   exact h.elim
  exact h.elim
 ·rename_i ty m k Cq ho
  simp only [ho]
  split at h
  ·rename_i tk te ag es kd hm hk
   simp only [hm,hk]
   obtain ⟨o',hg,hk⟩:=h
   exact ⟨o',hg,GZ (fun v hv=>hK _ _ hv) hk⟩
  exact h.elim
 ·rename_i ty m k x ho
  simp only [ho]
  split at h
  ·rename_i b tk te ag es kd vs hm hk hc
   simp only [hm,hk,hc]
   split at h
   ·rename_i c dsv Cx Yc
    obtain ⟨⟨g1,g2,g3,g4,g5⟩,g6⟩:=h
    simp only [Cx,vv Yc g2]
    exact ⟨⟨g1,g3,Nat.eq_of_beq_eq_true g4,g5⟩,hK _ _ g6⟩
   exact h.elim
  exact h.elim
 ·rename_i ty a ho
  simp only [ho]
  split at h
  ·rename_i c ds j hr
   obtain ⟨ds',hg,hk⟩:=h
   obtain ⟨⟨h1,h2⟩,rfl⟩:=hg rfl
   split at hk
   ·rename_i ti ht
    split at hk
    ·rename_i v hv
     obtain ⟨c',e,wE⟩:=LW hr h2 hv
     simp only [FH,je,cond_false,lE,ht,e]
     exact ⟨⟨⟨h1,trv⟩,wE⟩,hK _ _ hk⟩
    exact hk.elim
   exact hk.elim
  split at h
  ·rename_i c v b hr
   obtain ⟨⟨h1,h2⟩,h3⟩:=h
   obtain ⟨c',e,wE⟩:=LQ hr h2
   simp only [e]
   exact ⟨⟨h1,wE⟩,hK _ _ h3⟩
  exact h.elim
 rename_i e1 e2 e3 e4 e5 e6 e7 m1 m2 m3 e8
 split
 ·rename_i ho;exact absurd ho (e1 _ _ _)
 ·rename_i ho;exact absurd ho (e2 _ _ _)
 ·rename_i ho;exact absurd ho (e3 _)
 ·rename_i ho;exact absurd ho (e4 _ _)
 ·rename_i ho;exact absurd ho (e5 _)
 ·rename_i ho;exact absurd ho (e6 _ _ _)
 ·rename_i ho;exact absurd ho (e7 _ _ _)
 ·rename_i ho;exact absurd ho (m1 _)
 ·rename_i ho;exact absurd ho (m2 _ _ _ _)
 ·rename_i ho;exact absurd ho (m3 _ _ _ _)
 have hm:=LX T G s o.op
 show match (match o.op with|.indexAddr ty x i=>z8 T ty (bV G s.sl x).aM (bV G s.sl i).aM|_=>none) with
  |some (c,ds)=>nK true (dG (fX G s.sl o.op.operands.toList)∧c) ds (fun ds=>K' (.ep ds) s.bx)
  |none=>match FH T (fun x=>(bV G s.sl x).aM) o.op s.bx with
   |some ⟨c,v,b⟩=>(dG (fX G s.sl o.op.operands.toList)∧c)∧K' v (dN s.bx b)
   |none=>False
 split at h
 ·rename_i c ds hi
  rw [hm] at hi
  simp only [hi]
  obtain ⟨ds',hg,hk⟩:=h
  exact ⟨ds',hg,hK _ _ hk⟩
 rename_i hi
 rw [hm] at hi
 simp only [hi]
 split at h
 ·rename_i c v b hr
  have h:(dG (fX G s.sl o.op.operands.toList)∧c)∧K v (dN s.bx b):=by
   generalize GV _ _=q at h
   cases q with
   |false=>exact h
   |true=>obtain ⟨v',aL,k1,rfl,rfl,k2⟩:=h;exact ⟨k1,k2⟩
  obtain ⟨⟨h1,h2⟩,h3⟩:=h
  obtain ⟨c',e,wE⟩:=LQ hr h2
  simp only [e]
  exact ⟨⟨h1,wE⟩,hK _ _ h3⟩
 exact h.elim
theorem G0 {dr g:Bool} {o:Oper} {s:St} {K:AV→Prop} (h:nC t0 FC T G dr g o s K):∃v,K v:=by
 unfold nC at h
 split at h
 ·split at h
  ·exact ⟨_,h.2⟩
  exact h.elim
 ·split at h
  ·obtain ⟨_,v,_,hK⟩|⟨v,_,hK⟩:=h
   ·exact ⟨v,hK⟩
   exact ⟨v,hK⟩
  exact h.elim
 ·split at h
  ·obtain ⟨_,⟨_,v,_,hK⟩|⟨v,_,hK⟩⟩:=h
   ·exact ⟨v,hK⟩
   exact ⟨v,hK⟩
  exact h.elim
 ·split at h
  ·obtain ⟨ds',_,hk⟩:=h
   split at hk
   ·split at hk
    ·exact ⟨_,hk⟩
    exact hk.elim
   exact hk.elim
  split at h
  ·exact ⟨_,h.2⟩
  exact h.elim
 split at h
 ·obtain ⟨ds,_,hK⟩:=h;exact ⟨_,hK⟩
 split at h
 ·generalize GV _ _=q at h
  cases q with
  |false=>exact ⟨_,h.2⟩
  |true=>obtain ⟨v',_,k2⟩:=h;exact ⟨_,k2⟩
 split at h
 ·exact ⟨_,h.2⟩
 exact h.elim
theorem Dm {dr g:Bool} {o:Oper} {s:St} {K K':AV→Prop} (hK:∀v,K v→K' v) (h:nC t0 FC T G dr g o s K):stepG FC T G g o s K'∨dr=false∧tN FC G g o s K':=by
 cases g with
 |false=>obtain ⟨v,h⟩:=G0 h;exact .inl (.inl ⟨rfl,v,hK v h⟩)
 |true=>
 by_cases Vn:∃(f:Operand) (args:Array Operand) (ats:Array TypeId) (i:Nat) (qas:List AV),o.op=.call {callee:=.value f,args:=args,argTypes:=ats}∧l6 (bV G s.sl f).aM (args.toList.map fun x=>(bV G s.sl x).aM)=some (i,qas)∧
  dr=false∧∃v,(true=true→((bV G s.sl f).ok∧dG (fX G s.sl args.toList))∧FC i qas s.bx (.ret v) s.bx)∧K v
 ·obtain ⟨f,args,ats,i,qas,ho,hf,hd,v,h1,h2⟩:=Vn
  refine .inr ⟨hd,?_⟩
  unfold tN
  simp only [ho,hf]
  exact ⟨v,fun _=>h1 rfl,hK _ h2⟩
 by_cases Yu:∃c es,Ct T (fun x=>(bV G s.sl x).aM) o.op=some (c,es)∧(dG (fX G s.sl o.op.operands.toList)∧c)∧K (.d (.sl es))
 ·obtain ⟨c,es,h1,h2,h3⟩:=Yu
  exact .inl (.inr (.inr ⟨c,es,h1,fun _=>h2,hK _ h3⟩))
 refine .inl (.inr (.inl ?_))
 unfold nC at h
 unfold wJ
 split at h
 ·rename_i c a b ho
  simp only [ho]
  split at h
  ·rename_i p hc
   simp only [hc]
   rw [GS] at h
   have h1:true=true→(bV G s.sl c).ok∧(p=true→(bV G s.sl a).ok)∧(p=false→(bV G s.sl b).ok):=fun e=>⟨(h.1.ok e).1,(h.1.ok e).2.ok⟩
   exact ⟨fun _=>h1 rfl,hK _ h.2⟩
  exact h.elim
 ·rename_i f args ats ho
  simp only [ho]
  split at h
  ·rename_i i qas hf
   simp only [hf]
   obtain ⟨hd,v,h1,h2⟩|⟨v,h1,h2⟩:=h
   ·exact absurd ⟨f,args,ats,i,qas,ho,hf,hd,v,h1,h2⟩ Vn
   refine ⟨v,fun hg=>?_,hK _ h2⟩
   obtain ⟨k1,args',jS,⟨c,k2,k3⟩,k4,k5,k6⟩:=h1 hg
   exact ⟨k1,args',jS,gR k2 k3,k4,k5,k6⟩
  exact h.elim
 ·rename_i f nm args ats ho
  simp only [ho]
  split at h
  ·rename_i n i v0 hf
   obtain ⟨rfl,h⟩:=h
   simp only [Tn _ hf]
   obtain ⟨hd,v,h1,h2⟩|⟨v,h1,h2⟩:=h
   ·cases hd
   refine ⟨v,fun hg=>?_,hK _ h2⟩
   obtain ⟨k1,args',jS,⟨c,k2,k3⟩,k4,k5,k6⟩:=h1 hg
   exact ⟨k1,args',jS,gR k2 k3,k4,k5,k6⟩
  exact h.elim
 ·rename_i ty a ho
  simp only [ho]
  split at h
  ·rename_i c ds j hr
   obtain ⟨ds',hg,hk⟩:=h
   obtain ⟨⟨h1,h2⟩,rfl⟩:=hg rfl
   split at hk
   ·rename_i ti ht
    split at hk
    ·rename_i v hv
     obtain ⟨c',e,wE⟩:=LW hr h2 hv
     simp only [FH,je,cond_false,lE,ht,e]
     exact ⟨fun _=>⟨⟨h1,trv⟩,wE⟩,hK _ hk⟩
    exact hk.elim
   exact hk.elim
  split at h
  ·rename_i c v hr
   obtain ⟨h1,h3⟩:=h
   have h1:true=true→dG (fX G s.sl (Op.load ty a).operands.toList)∧c:=h1.ok
   obtain ⟨c',e,wE⟩:=LQ hr (h1 rfl).2
   simp only [e]
   exact ⟨fun _=>⟨(h1 rfl).1,wE⟩,hK _ h3⟩
  exact h.elim
 rename_i e1 e2 e2' e3
 split
 ·rename_i ho;exact absurd ho (e1 _ _ _)
 ·rename_i ho;exact absurd ho (e2 _ _ _)
 ·rename_i ho;exact absurd ho (e2' _ _ _ _)
 have hm:=LX T G s o.op
 split at h
 ·rename_i c ds hi
  rw [hm] at hi
  show match (match o.op with|.indexAddr ty x i=>z8 T ty (bV G s.sl x).aM (bV G s.sl i).aM|_=>none) with
   |some (c,ds)=>nK true (dG (fX G s.sl o.op.operands.toList)∧c) ds (fun ds=>K' (.ep ds))
   |none=>match FH T (fun x=>(bV G s.sl x).aM) o.op s.bx with
    |some ⟨c,v,none⟩=>(true=true→dG (fX G s.sl o.op.operands.toList)∧c)∧K' v
    |_=>False
  simp only [hi]
  obtain ⟨ds',hg,hk⟩:=h
  exact ⟨ds',hg,hK _ hk⟩
 rename_i hi
 rw [hm] at hi
 show match (match o.op with|.indexAddr ty x i=>z8 T ty (bV G s.sl x).aM (bV G s.sl i).aM|_=>none) with
  |some (c,ds)=>nK true (dG (fX G s.sl o.op.operands.toList)∧c) ds (fun ds=>K' (.ep ds))
  |none=>match FH T (fun x=>(bV G s.sl x).aM) o.op s.bx with
   |some ⟨c,v,none⟩=>(true=true→dG (fX G s.sl o.op.operands.toList)∧c)∧K' v
   |_=>False
 simp only [hi]
 split at h
 ·rename_i c v hr
  have h:wY true (dG (fX G s.sl o.op.operands.toList)∧c)∧K v:=by
   generalize GV _ _=q at h
   cases q with
   |false=>exact h
   |true=>obtain ⟨v',k0,k2⟩:=h;obtain ⟨k1,rfl⟩:=k0 rfl;exact ⟨⟨fun _=>k1⟩,k2⟩
  obtain ⟨h1,h3⟩:=h
  have h1:true=true→dG (fX G s.sl o.op.operands.toList)∧c:=h1.ok
  obtain ⟨c',e,wE⟩:=LQ hr (h1 rfl).2
  simp only [e]
  exact ⟨fun _=>⟨(h1 rfl).1,wE⟩,hK _ h3⟩
 split at h
 ·rename_i c es ha
  rw [V8] at ha
  exact absurd ⟨c,es,ha,h.1.ok rfl,h.2⟩ Yu
 exact h.elim
theorem vA {g:Bool} {o:Oper} {s:St} {K K':AV→Prop} (hK:∀v,K v→K' v) (h:nC t0 FC T G true g o s K):stepG FC T G g o s K':=by
 rcases Dm hK h with h|⟨h,_⟩
 ·exact h
 cases h
theorem JG {ops:List Oper} {Q:Ex→St→Prop}:∀(l:List Oper) (s:St),P7 t0 FC T G N ops l Q s→FP FC T G N ops l Q s
 |[],_,h=>h
 |o::l,s,h=>by
  unfold P7 at h
  unfold FP
  cases hd:ic N o.dst with
  |false=>simp [hd] at h
  |true=>
  simp only [hd,cond_true] at h ⊢
  split at h
  ·rename_i hg
   simp only [hg]
   exact zK (fun v bx hK=>JG l _ hK) h
  rename_i j want hg
  simp only [hg]
  rw [oY] at h
  split at h
  ·rename_i g I0
   simp only [I0]
   rcases Dm (fun v hK=>JG l _ hK) h with h|⟨_,h⟩
   ·exact .inl h
   exact .inr h
  exact h.elim
theorem Tp {o:Oper} {sl:List (Nat×AV)} {iw:List aA} {x:Nat} {K K':AV→aA→Prop} (hK:∀v B,K v B→K' v B) (h:P8 t0 FC G o sl iw x K):l8 FC G o sl iw x K':=by
 unfold P8 at h
 split at h
 ·rename_i f args ats ho
  split at h
  ·rename_i i qas hf
   obtain ⟨args',sz,n,es,h1,⟨c,h2,h3⟩,h4,h5,h6,h7,h8⟩:=h
   exact ⟨f,args,ats,i,qas,args',sz,n,es,ho,hf,h1,gR h2 h3,h4,h5,h6,h7,hK _ _ h8⟩
  exact h.elim
 exact h.elim
theorem lP {ops:List Oper} {b:List Nat} {base:Nat} {Q:Ex→St→Prop}:∀(l:List Oper) (iw:List aA) (k i:Nat) (s:St),tC t0 FC T G N ops base (jD b i l) iw k l Q s→nN FC T G N ops b base iw k i l Q s
 |[],_,_,_,_,h=>h
 |o::l,iw,k,i,s,h=>by
  unfold jD tC at h
  unfold nN
  cases hd:ic N o.dst with
  |false=>simp [hd] at h
  |true=>
  simp only [hd,cond_true] at h ⊢
  cases hb:barrier b i with
  |true=>
   simp only [hb,cond_true] at h ⊢
   split at h
   ·rename_i hg
    simp only [hg]
    exact zK (fun v bx hK=>lP l _ _ _ _ hK) h
   rename_i j want hg
   simp only [hg]
   rw [oY] at h
   split at h
   ·rename_i g I0
    simp only [I0]
    exact vA (fun v hK=>lP l _ _ _ _ hK) h
   exact h.elim
  |false=>
   simp only [hb,cond_false] at h ⊢
   split at h
   ·rename_i cs x7
    simp only [x7]
    split at h
    ·rename_i hu
     simp only [hu]
     exact lP l _ _ _ _ h
    exact h.elim
   rename_i x7
   simp only [x7]
   split at h
   ·rename_i hg
    simp only [hg]
    cases SO:P6 o.op with
    |false=>
     simp only [SO,cond_false] at h
     exact .inl (vA (fun v hK=>lP l _ _ _ _ hK) h)
    |true=>
     simp only [SO,cond_true] at h
     rcases h with h|h
     ·exact .inl (vA (fun v hK=>lP l _ _ _ _ hK) h)
     exact .inr (Tp (fun v B hK=>lP l _ _ _ _ hK) h)
   rename_i j want hg
   simp only [hg]
   rw [oY] at h
   split at h
   ·rename_i g I0
    simp only [I0]
    exact vA (fun v hK=>lP l _ _ _ _ hK) h
   exact h.elim
theorem A2 {ops:List Oper} {i:Nat} {K K':St→Prop} {Q:Ex→St→Prop} {s:St} (hK:∀s,K s→K' s) (h:AZ t0 FC T G N ops i K Q s):xZ FC T G N ops i K' Q s:=by
 unfold AZ at h
 unfold xZ
 cases ho:ops[i]? with
 |none=>rw [ho] at h;exact h.elim
 |some o=>
  rw [ho] at h
  simp only at h ⊢
  cases hd:ic N o.dst with
  |false=>rw [hd] at h;exact h.elim
  |true=>
   rw [hd] at h
   simp only [cond_true] at h ⊢
   cases hg:o.guard with
   |none=>
    rw [hg] at h
    simp only at h ⊢
    exact zK (fun v bx h=>hK _ h) h
   |some q=>
    obtain ⟨j,want⟩:=q
    rw [hg] at h
    simp only [oY] at h ⊢
    cases I0:guardOf s.sl ops j want with
    |none=>rw [I0] at h;exact h.elim
    |some g=>
     rw [I0] at h
     simp only at h ⊢
     obtain ⟨h⟩:=h
     exact ⟨⟨fun e=>zK (fun v bx h=>hK _ h) (h.1 e),fun e=>hK _ (h.2 e)⟩⟩
theorem zL {ops:List Oper} {Q:Ex→St→Prop} {R:St→Prop}:∀(tr:OT) (s:St),GX t0 FC T G N ops Q R tr s→MM FC T G N ops Q R tr s
 |.done,_,h=>h
 |.one i o,s,h=>A2 (fun s h=>zL o s h) h
 |.more i o r,s,h=>⟨A2 (fun s h=>zL o s h) h.1,zL r s h.2⟩
theorem LY {ops:List Oper} {Q:Ex→St→Prop} {S:List St} {s:St}:∀{l:List (Nat×Nat)},GY t0 FC T G N ops Q S s l→FQ FC T G N ops Q S s l
 |_,.nil=>trivial
 |_,.cons hs h hr=>by
  refine ⟨?_,LY hr⟩
  rw [hs]
  exact A2 (fun s h=>h) h
theorem JH {ops:List Oper} {Q:Ex→St→Prop} {S:List St}:∀{k:Nat} {l:List Nd},M7 t0 FC T G N ops Q S k l→allM FC T G N ops Q S k l
 |_,_,.nil=>trivial
 |_,_,.cons hs hp hr=>by
  refine ⟨?_,JH hr⟩
  rw [hs]
  exact LY hp
theorem Tq {ops:List Oper} {Q:Ex→St→Prop} {s:St} (h:LV t0 FC T G N ops Q s):Pb FC T G N ops Q s∨∃i c s1,EG t0 i s=some (c,s1)∧c∧Pb FC T G N ops Q s1:=by
 obtain ⟨⟨pre,tr,s1,g1,g2,g3,g4⟩|⟨pl,S,s1,g1,gd,g4,g5⟩|⟨k,pre,late,fs,h0,⟨h1,rfl⟩,h2⟩⟩:=h
 ·exact .inl (.inl ⟨pre,tr,s1,g1,g2,zL tr s g3,g4⟩)
 ·cases gd with
  |mk g2 g3=>exact .inl (.inr (.inl ⟨pl,S,s1,_,g1,⟨g2,.inl rfl⟩,g4,JH g3,g5⟩))
  |zI ks ge g2 g3=>subst ge;exact .inl (.inr (.inl ⟨pl,S,s1,_,g1,⟨g2,.inr ⟨ks,rfl⟩⟩,g4,JH g3,g5⟩))
 cases k with
 |none=>
  refine .inl<|.inr<|.inr ⟨pre,late,h0.imp id ?_,h1,lP _ _ _ _ _ h2⟩
  rintro ⟨g1,g2,g3,⟨_,g4⟩|rfl⟩
  ·exact ⟨g1,g2,g3,g4⟩
  exact ⟨g1,g2,g3,rfl⟩
 |some i=>
  right
  simp only [P9] at h2
  split at h2
  ·rename_i c s1 hs
   refine ⟨i,c,s1,hs,h2.1,.inr<|.inr ⟨pre,late,?_,h1,lP _ _ _ _ _ h2.2⟩⟩
   rcases h0 with h0|⟨g1,g2,g3,⟨h0,_⟩|rfl⟩
   ·exact .inl h0
   ·cases h0
   exact .inr ⟨g1,g2,g3,rfl⟩
  exact h2.elim
end
end Dem
end
section
open Go
namespace Dem
mutual
def AV.iF (m:Nat→Option Nat):AV→Option AV
 |.any=>some .any
 |.d x=>some (.d x)
 |.k c=>some (.k c)
 |.agg cs=>match AV.vB m cs with
  |some ys=>some (.agg ys)
  |none=>none
 |.ek cs=>match AV.vB m cs with
  |some ys=>some (.ek ys)
  |none=>none
 |.ptr b off=>match m b with
  |some j=>some (.ptr j off)
  |none=>none
 |.rp b sz i q=>match m b with
  |some j=>some (.rp j sz i q)
  |none=>none
 |.ep ds=>some (.ep ds)
 |.ow b sz n=>match m b with
  |some j=>some (.ow j sz n)
  |none=>none
 |.vw b sz off n c ex=>match m b with
  |some j=>some (.vw j sz off n c ex)
  |none=>none
 |.cl es=>some (.cl es)
 |.zX b=>match m b with
  |some j=>some (.zX j)
  |none=>none
 |.fn f cs=>match AV.vB m cs with
  |some ys=>some (.fn f ys)
  |none=>none
 |.sS t x=>match AV.iF m x with
  |some y=>some (.sS t y)
  |none=>none
 |.cond p x=>match AV.iF m x with
  |some y=>some (.cond p y)
  |none=>none
def AV.vB (m:Nat→Option Nat):List AV→Option (List AV)
 |[]=>some []
 |x::xs=>match AV.iF m x,AV.vB m xs with
  |some y,some ys=>some (y::ys)
  |_,_=>none
end
mutual
def AV.refs:AV→List Nat
 |.ptr b _=>[b]
 |.rp b _ _ _=>[b]
 |.ow b _ _=>[b]
 |.vw b _ _ _ _ _=>[b]
 |.zX b=>[b]
 |.agg cs=>AV.A3 cs
 |.ek cs=>AV.A3 cs
 |.fn _ cs=>AV.A3 cs
 |.sS _ x=>AV.refs x
 |.cond _ x=>AV.refs x
 |_=>[]
def AV.A3:List AV→List Nat
 |[]=>[]
 |x::xs=>AV.refs x++AV.A3 xs
end
def Vo (b:Nat):List Nat→Bool
 |[]=>false
 |x::r=>bif Nat.beq b x then true else Vo b r
def dO (b:Nat):List Nat→Nat→Option Nat
 |[],_=>none
 |x::r,i=>bif Nat.beq b x then some i else dO b r (i+1)
def reach (bx:List aA):Nat→List Nat→List Nat→List Nat
 |0,_,acc=>acc
 |_+1,[],acc=>acc
 |n+1,b::todo,acc=>bif Vo b acc then reach bx n todo acc else
  reach bx n (todo++(match bx[b]? with|some (.var cs)=>AV.A3 cs|_=>[])) (acc++[b])
def aA.iF (m:Nat→Option Nat):aA→Option aA
 |.var cs=>match AV.vB m cs with
  |some ys=>some (.var ys)
  |none=>none
 |b=>some b
def fQ (m:Nat→Option Nat) (bx:List aA):List Nat→Option (List aA)
 |[]=>some []
 |i::r=>match bx[i]? with
  |some b=>match aA.iF m b,fQ m bx r with
   |some b',some bs=>some (b'::bs)
   |_,_=>none
  |none=>none
def G1 (m:Nat→Option Nat) (sl:List (Nat×AV)):List Nat→Option (List (Nat×AV))
 |[]=>some []
 |i::r=>match AV.iF m (fW i sl),G1 m sl r with
  |some y,some ys=>some ((i,y)::ys)
  |_,_=>none
def EH (bY:List Nat):Nat→List Nat→Bool
 |_,[]=>true
 |i,b::r=>(match dO b bY 0 with|some j=>Nat.beq i j|none=>false)&&EH bY (i+1) r
def upTo:Nat→List Nat
 |0=>[]
 |n+1=>upTo n++[n]
def Qa (K:Nat) (ks:List Nat) (s:St):Option St:=
 match reach s.bx 99 (upTo K++AV.A3 (ks.map fun i=>fW i s.sl)) [] with
 |bY=>bif EH bY 0 bY&&EH bY 0 (upTo K) then
  match fQ (fun b=>dO b bY 0) s.bx bY,G1 (fun b=>dO b bY 0) s.sl ks with
  |some bx,some sl=>some ⟨sl,bx⟩
  |_,_=>none
  else none
structure Nf where
 ks:List Nat
 os:List (Nat×Nat):=[]
 ob:List (Nat×Nat×Nat):=[]
def vC (s:St):List (Nat×Nat)→St
 |[]=>s
 |(i,sz)::r=>match fW i s.sl with
  |.cl []=>bif Nat.beq sz 0 then vC ⟨put i (.d (.sl [])) s.sl,s.bx⟩ r else vC ⟨put i (.ow s.bx.length sz 0) s.sl,s.bx++[.row sz []]⟩ r
  |_=>vC s r
def zq (s:St):List (Nat×Nat×Nat)→St
 |[]=>s
 |(b,c,sz)::r=>match s.bx[b]? with
  |some (.var cs)=>match cs[c]? with
   |some (.cl [])=>bif Nat.beq sz 0 then zq ⟨s.sl,s.bx.set b (.var (cs.set c (.d (.sl []))))⟩ r
    else zq ⟨s.sl,(s.bx++[aA.row sz []]).set b (.var (cs.set c (.ow s.bx.length sz 0)))⟩ r
   |some (.ow k z _)=>bif Nat.beq sz 0 then match s.bx[k]? with
    |some (.row y es)=>bif Nat.beq y z&&!Nat.beq b k then zq ⟨s.sl,(s.bx.set k (.kP y es)).set b (.var (cs.set c (.d (.sl es))))⟩ r else zq s r
    |_=>zq s r
    else zq s r
   |_=>zq s r
  |_=>zq s r
def XN:Option Prop→Prop
 |none=>True
 |some c=>c
structure Yv (n:Nat) (es:List (List D)):Prop where
 eq:n=es.length
def qR (s:St):List (Nat×Nat×Nat)→Option Prop
 |[]=>none
 |(b,c,sz)::r=>match s.bx[b]? with
  |some (.var cs)=>match cs[c]? with
   |some (.cl [])=>bif Nat.beq sz 0 then qR ⟨s.sl,s.bx.set b (.var (cs.set c (.d (.sl []))))⟩ r
    else qR ⟨s.sl,(s.bx++[aA.row sz []]).set b (.var (cs.set c (.ow s.bx.length sz 0)))⟩ r
   |some (.ow k z n)=>bif Nat.beq sz 0 then match s.bx[k]? with
    |some (.row y es)=>bif Nat.beq y z&&!Nat.beq b k then some (Yv n es∧XN (qR ⟨s.sl,(s.bx.set k (.kP y es)).set b (.var (cs.set c (.d (.sl es))))⟩ r)) else qR s r
    |_=>qR s r
    else qR s r
   |_=>qR s r
  |_=>qR s r
def yD (K:Nat) (nf:Nf) (s:St):Option St:=Qa K nf.ks (zq (vC s nf.os) nf.ob)
section
variable {G:Nat→Option (List D)} {N:Nat} {ds:List Deferred} {β β':Nat→Nat} {bx aL:List aA} {w:World} {X:Nat→Prop}
structure sX (K:Nat) (β:Nat→Nat) (bx:List aA) (β':Nat→Nat) (aL:List aA):Prop where
 born:∀i,i<K→bT bx i→β' i=β i∧bT aL i
 live:∀i b,aL[i]?=some b→b.live=true→∃j b',bx[j]?=some b'∧b'.live=true∧β j=β' i
theorem sX.refl (K:Nat) (β:Nat→Nat) (bx:List aA):sX K β bx β bx:=⟨fun _ _ h=>⟨rfl,h⟩,fun i b h1 h2=>⟨i,b,h1,h2,rfl⟩⟩
theorem sX.trans {K:Nat} {β'':Nat→Nat} {Pc:List aA} (h:sX K β bx β' aL) (g:sX K β' aL β'' Pc):sX K β bx β'' Pc:=by
 refine ⟨?_,?_⟩
 ·intro i hi hb
  obtain ⟨h1,h2⟩:=h.born i hi hb
  obtain ⟨h3,h4⟩:=g.born i hi h2
  exact ⟨h3.trans h1,h4⟩
 intro i b h1 h2
 obtain ⟨j,b',h3,h4,h5⟩:=g.live i b h1 h2
 obtain ⟨k,b'',h6,h7,h8⟩:=h.live j b' h3 h4
 exact ⟨k,b'',h6,h7,h8.trans h5⟩
theorem Ext.A4 {K:Nat} {β0:Nat→Nat} {bz:List aA} {w0:World} (ex:Ext β0 bz w0 β bx w) (hK:bz.length≤K) (h:sX K β bx β' aL):Ext β0 bz w0 β' aL w:=by
 refine ⟨ex.os,ex.tape,ex.output,ex.size,ex.block,ex.shape,?_,?_⟩
 ·intro i hi
  obtain ⟨h1,h2⟩:=ex.born i hi
  obtain ⟨b,hb,_⟩:=hi
  obtain ⟨h3,h4⟩:=h.born i (Nat.lt_of_lt_of_le (jz hb) hK) h2
  exact ⟨h3.trans h1,h4⟩
 intro i b h1 h2
 obtain ⟨j,b',h3,h4,h5⟩:=h.live i b h1 h2
 rw [←h5]
 exact ex.live j b' h3 h4
theorem uh {b:Nat}:∀{l:List Nat} {i j:Nat},dO b l i=some j→i≤j∧l[j-i]?=some b
 |[],_,_,h=>by simp [dO] at h
 |x::r,i,j,h=>by
  simp only [dO] at h
  cases hb:Nat.beq b x with
  |true=>
   simp only [hb,cond_true,osI] at h
   subst h
   have:=Nat.eq_of_beq_eq_true hb
   subst this
   simp
  |false=>
   simp only [hb,cond_false] at h
   obtain ⟨h1,h2⟩:=uh h
   refine ⟨by omega,?_⟩
   rw [show j-i=(j-(i+1))+1 by omega,List.getElem?_cons_succ]
   exact h2
theorem sG {bY:List Nat}:∀{l:List Nat} {i k b:Nat},EH bY i l=true→l[k]?=some b→dO b bY 0=some (i+k)
 |[],_,_,_,_,h=>by simp at h
 |x::r,i,k,b,h,hk=>by
  simp only [EH,Bool.and_eq_true] at h
  cases k with
  |zero=>
   simp only [List.getElem?_cons_zero,osI] at hk
   subst hk
   obtain ⟨h1,_⟩:=h
   split at h1
   ·rename_i j hj
    rw [hj,←Nat.eq_of_beq_eq_true h1];rfl
   simp at h1
  |succ k=>
   rw [List.getElem?_cons_succ] at hk
   have:=sG h.2 hk
   rw [this];congr 1;omega
theorem G2:∀{n i:Nat},i<n→(upTo n)[i]?=some i
 |n+1,i,h=>by
  have hl:(upTo n).length=n:=by
   clear h;induction n with
   |zero=>rfl
   |succ m ih=>simp [upTo,ih]
  simp only [upTo]
  by_cases hi:i<n
  ·rw [List.getElem?_append_left (by omega)];exact G2 hi
  have:i=n:=by omega
  subst this
  rw [List.getElem?_append_right (by omega)];simp [hl]
mutual
theorem sH {m:Nat→Option Nat} {ok ok':Nat→Prop} (hm:∀b j,m b=some j→β' j=β b∧(bT bx b→bT aL j)) (hok:∀blk,ok blk→ok' blk):
 ∀(x y:AV) (v:Value),x.iF m=some y→aj β bx w ok x v→aj β' aL w ok' y v
 |.any,y,v,h,_=>by simp only [AV.iF,osI] at h;subst h;simp [aj]
 |.d x,y,v,h,hv=>by
  simp only [AV.iF,osI] at h;subst h;simp only [aj] at hv ⊢
  exact aJ.mono (fun blk hb=>⟨hok blk hb,rfl⟩) _ _ hv
 |.k c,y,v,h,hv=>by simp only [AV.iF,osI] at h;subst h;simpa [aj] using hv
 |.agg cs,y,v,h,hv=>by
  simp only [AV.iF] at h
  split at h
  ·rename_i ys hys
   simp only [osI] at h;subst h
   simp only [aj] at hv ⊢;obtain ⟨vs,h1,h2⟩:=hv
   exact ⟨vs,h1,kX hm hok cs ys vs hys h2⟩
  simp at h
 |.ek cs,y,v,h,hv=>by
  simp only [AV.iF] at h
  split at h
  ·rename_i ys hys
   simp only [osI] at h;subst h
   simp only [aj] at hv ⊢;obtain ⟨vs,h1,h2⟩:=hv
   exact ⟨vs,h1,kX hm hok cs ys vs hys h2⟩
  simp at h
 |.ptr b off,y,v,h,hv=>by
  simp only [AV.iF] at h
  split at h
  ·rename_i j hj
   simp only [osI] at h;subst h
   obtain ⟨e,hb⟩:=hm b j hj
   simp only [aj] at hv ⊢
   rw [e];exact ⟨hv.1,hb hv.2⟩
  simp at h
 |.rp b sz i q,y,v,h,hv=>by
  simp only [AV.iF] at h
  split at h
  ·rename_i j hj
   simp only [osI] at h;subst h
   obtain ⟨e,hb⟩:=hm b j hj
   simp only [aj] at hv ⊢
   rw [e];exact ⟨hv.1,hb hv.2⟩
  simp at h
 |.zX b,y,v,h,hv=>by
  simp only [AV.iF] at h
  split at h
  ·rename_i j hj
   simp only [osI] at h;subst h
   obtain ⟨e,hb⟩:=hm b j hj
   simp only [aj] at hv ⊢
   rw [e];exact ⟨hv.1,hb hv.2⟩
  simp at h
 |.ep ds,y,v,h,hv=>by
  simp only [AV.iF,osI] at h;subst h
  simp only [aj] at hv ⊢;obtain ⟨blk,off,h1,h2,h3⟩:=hv
  exact ⟨blk,off,h1,hok blk h2,aX.mono (fun blk hb=>⟨hok blk hb,rfl⟩) blk (fun _=>rfl) _ _ h3⟩
 |.ow b sz n,y,v,h,hv=>by
  simp only [AV.iF] at h
  split at h
  ·rename_i j hj
   simp only [osI] at h;subst h
   obtain ⟨e,hb⟩:=hm b j hj
   simp only [aj] at hv ⊢
   rw [e];exact ⟨hb hv.1,hv.2⟩
  simp at h
 |.vw b sz off n c ex,y,v,h,hv=>by
  simp only [AV.iF] at h
  split at h
  ·rename_i j hj
   simp only [osI] at h;subst h
   obtain ⟨e,hb⟩:=hm b j hj
   simp only [aj] at hv ⊢
   rw [e];exact ⟨hb hv.1,hv.2⟩
  simp at h
 |.cl es,y,v,h,hv=>by
  simp only [AV.iF,osI] at h;subst h
  simp only [aj] at hv ⊢;obtain ⟨base,h1,h2⟩:=hv
  refine ⟨base,h1,h2.imp id ?_⟩
  rintro ⟨blk,off,sz,e1,e2,e3⟩
  exact ⟨blk,off,sz,e1,hok blk e2,ay.mono (fun blk hb=>⟨hok blk hb,rfl⟩) blk sz (fun _=>rfl) _ _ e3⟩
 |.fn f cs,y,v,h,hv=>by
  simp only [AV.iF] at h
  split at h
  ·rename_i ys hys
   simp only [osI] at h;subst h
   simp only [aj] at hv ⊢;obtain ⟨vs,h1,h2⟩:=hv
   exact ⟨vs,h1,kX hm hok cs ys vs hys h2⟩
  simp at h
 |.sS t x,y,v,h,hv=>by
  simp only [AV.iF] at h
  split at h
  ·rename_i z hz
   simp only [osI] at h;subst h
   simp only [aj] at hv ⊢;obtain ⟨u,h1,h2⟩:=hv
   exact ⟨u,h1,sH hm hok x z u hz h2⟩
  simp at h
 |.cond p x,y,v,h,hv=>by
  simp only [AV.iF] at h
  split at h
  ·rename_i z hz
   simp only [osI] at h;subst h
   simp only [aj] at hv ⊢
   exact ⟨fun hp=>sH hm hok x z v hz (hv.1 hp),hv.2⟩
  simp at h
theorem kX {m:Nat→Option Nat} {ok ok':Nat→Prop} (hm:∀b j,m b=some j→β' j=β b∧(bT bx b→bT aL j)) (hok:∀blk,ok blk→ok' blk):
 ∀(xs ys:List AV) (vs:List Value),AV.vB m xs=some ys→ak β bx w ok xs vs→ak β' aL w ok' ys vs
 |[],ys,vs,h,hv=>by simp only [AV.vB,osI] at h;subst h;simpa [ak] using hv
 |x::xs,ys,vs,h,hv=>by
  simp only [AV.vB] at h
  split at h
  ·rename_i y ys' h1 h2
   simp only [osI] at h;subst h
   simp only [ak] at hv ⊢
   obtain ⟨u,us,k1,k2,k3⟩:=hv
   exact ⟨u,us,k1,sH hm hok x y u h1 k2,kX hm hok xs ys' us h2 k3⟩
  simp at h
end
theorem jE {m:Nat→Option Nat}:∀{bY:List Nat} {bs:List aA},fQ m bx bY=some bs→∀(k:Nat) (b':aA),bs[k]?=some b'→∃(i:Nat) (b:aA),bY[k]?=some i∧bx[i]?=some b∧aA.iF m b=some b'
 |[],bs,h,k,b',hk=>by simp only [fQ,osI] at h;subst h;simp at hk
 |i::r,bs,h,k,b',hk=>by
  simp only [fQ] at h
  split at h
  ·rename_i b hb
   split at h
   ·rename_i b1 bs1 h1 h2
    simp only [osI] at h;subst h
    cases k with
    |zero=>simp only [List.getElem?_cons_zero,osI] at hk;subst hk;exact ⟨i,b,rfl,hb,h1⟩
    |succ k=>simp only [List.getElem?_cons_succ] at hk ⊢;exact jE h2 k b' hk
   simp at h
  simp at h
theorem m9 {m:Nat→Option Nat}:∀{bY:List Nat} {bs:List aA},fQ m bx bY=some bs→∀(k i:Nat),bY[k]?=some i→∃(b b':aA),bx[i]?=some b∧aA.iF m b=some b'∧bs[k]?=some b'
 |[],bs,h,k,i,hk=>by simp at hk
 |i0::r,bs,h,k,i,hk=>by
  simp only [fQ] at h
  split at h
  ·rename_i b hb
   split at h
   ·rename_i b1 bs1 h1 h2
    simp only [osI] at h;subst h
    cases k with
    |zero=>simp only [List.getElem?_cons_zero,osI] at hk;subst hk;exact ⟨b,b1,hb,h1,rfl⟩
    |succ k=>simp only [List.getElem?_cons_succ] at hk ⊢;exact m9 h2 k i hk
   simp at h
  simp at h
theorem aA.gA {m:Nat→Option Nat} {b b':aA} (h:aA.iF m b=some b'):b'.born=b.born∧b'.live=b.live:=by
 unfold aA.iF at h
 split at h
 ·split at h
  ·simp only [osI] at h;subst h;exact ⟨rfl,rfl⟩
  simp at h
 simp only [osI] at h;subst h;exact ⟨rfl,rfl⟩
theorem Dn {m:Nat→Option Nat} {sl:List (Nat×AV)}:∀{ks:List Nat} {sW:List (Nat×AV)},G1 m sl ks=some sW→∀t,fW t sW=.any∨AV.iF m (fW t sl)=some (fW t sW)
 |[],sW,h,t=>by simp only [G1,osI] at h;subst h;exact .inl rfl
 |i::r,sW,h,t=>by
  simp only [G1] at h
  split at h
  ·rename_i y ys h1 h2
   simp only [osI] at h;subst h
   simp only [fW]
   cases hb:Nat.beq t i with
   |true=>have:=Nat.eq_of_beq_eq_true hb;subst this;exact .inr h1
   |false=>simp only [cond_false];exact Dn h2 t
  simp at h
theorem G3 {K:Nat} {ks:List Nat} {s s':St} {a:Act} (h:Qa K ks s=some s') (hF:Fr G N ds β w X s a):
 ∃β',sX K β s.bx β' s'.bx∧Fr G N ds β' w X s' a:=by
 unfold Qa at h
 generalize reach s.bx 99 (upTo K++AV.A3 (ks.map fun i=>fW i s.sl)) []=bY at h
 simp only at h
 cases h1:EH bY 0 bY with
 |false=>simp [h1] at h
 |true=>
 cases h2:EH bY 0 (upTo K) with
 |false=>simp [h1,h2] at h
 |true=>
 simp only [h1,h2,Bool.and_self,cond_true] at h
 split at h
 ·rename_i bs sl hbs XF
  simp only [osI] at h
  subst h
  have vD:∀k i,bY[k]?=some i→dO i bY 0=some k:=fun k i hk=>by have:=sG h1 hk;simpa using this
  have hidx:∀b j,dO b bY 0=some j→bY[j]?=some b:=fun b j hj=>by have:=(uh hj).2;simpa using this
  let β':Nat→Nat:=fun j=>match bY[j]? with|some i=>β i|none=>0
  have hβ:∀k i,bY[k]?=some i→β' k=β i:=fun k i hk=>by simp [β',hk]
  have hm:∀b j,dO b bY 0=some j→β' j=β b∧(bT s.bx b→bT bs j):=by
   intro b j hj
   have hs:=hidx b j hj
   refine ⟨hβ j b hs,?_⟩
   rintro ⟨B,hB,dH⟩
   obtain ⟨b1,b2,k1,k2,k3⟩:=m9 hbs j b hs
   rw [hB] at k1;cases k1
   exact ⟨b2,k3,(aA.gA k2).1.trans dH⟩
  have cz:∀(i:Nat) (b:aA),bs[i]?=some b→b.live=true→∃(j:Nat) (b':aA),s.bx[j]?=some b'∧b'.live=true∧β j=β' i∧bY[i]?=some j:=by
   intro i b hi hl
   obtain ⟨j,b',k1,k2,k3⟩:=jE hbs i b hi
   exact ⟨j,b',k2,(aA.gA k3).2▸hl,(hβ i j k1).symm,k1⟩
  have hok:∀blk,bf β s.bx w X blk→bf β' bs w X blk:=by
   rintro blk ⟨k1,k2,k3⟩
   refine ⟨k1,k2,?_⟩
   intro i b hi hl
   obtain ⟨j,b',h3,h4,h5,_⟩:=cz i b hi hl
   rw [←h5];exact k3 j b' h3 h4
  have hkeep:jg w w (bf β s.bx w X) (bf β' bs w X):=fun blk hb=>⟨hok blk hb,rfl⟩
  refine ⟨β',⟨?_,?_⟩,⟨?_,hF.defers,hF.size,?_⟩⟩
  ·intro i hi hb
   have:=sG h2 (G2 hi)
   simp only [Nat.zero_add] at this
   obtain ⟨k1,k2⟩:=hm i i this
   exact ⟨k1,k2 hb⟩
  ·intro i b hi hl
   obtain ⟨j,b',h3,h4,h5,_⟩:=cz i b hi hl
   exact ⟨j,b',h3,h4,h5⟩
  ·refine ⟨hF.cx.xs,?_,?_,?_,?_⟩
   ·intro g ds hg
    obtain ⟨k1,k2⟩:=hF.cx.zo g ds hg
    exact ⟨hok g k1,aX.mono hkeep g (fun _=>rfl) _ _ k2⟩
   ·intro i j bi bj hi hj mT oQ he
    obtain ⟨i',bi',a1,a2,a3,a4⟩:=cz i bi hi mT
    obtain ⟨j',bj',c1,c2,c3,c4⟩:=cz j bj hj oQ
    have:i'=j':=hF.cx.inj i' j' bi' bj' a1 c1 a2 c2 (a3.trans (he.trans c3.symm))
    subst this
    have e1:=vD i i' a4
    have e2:=vD j i' c4
    rw [e1] at e2;exact Option.some.inj e2
   ·intro i b hi
    obtain ⟨j,b',k1,k2,k3⟩:=jE hbs i b hi
    have hb:=hF.cx.box j b' k2
    rw [hβ i j k1]
    cases b' with
    |var cs=>
     simp only [aA.iF] at k3
     split at k3
     ·rename_i ys hys
      simp only [osI] at k3;subst k3
      simp only [dm] at hb ⊢
      obtain ⟨c,e,g1,g2⟩:=hb
      exact ⟨c,e,g1,kX hm hok cs ys _ hys g2⟩
     simp at k3
    |row sz es=>
     simp only [aA.iF,osI] at k3;subst k3
     refine hb.imp id ?_
     rintro ⟨c,e,g1,g2⟩
     exact ⟨c,e,g1,ay.mono hkeep _ _ (fun _=>rfl) _ _ g2⟩
    |kP sz es=>
     simp only [aA.iF,osI] at k3;subst k3
     refine hb.imp id ?_
     rintro ⟨g1,g2⟩
     exact ⟨hok _ g1,ay.mono hkeep _ _ (fun _=>rfl) _ _ g2⟩
    |it s p=>simp only [aA.iF,osI] at k3;subst k3;exact hb
    |mp ag es=>simp only [aA.iF,osI] at k3;subst k3;obtain ⟨ms,clock,h1,h2,h3⟩:=hb;exact ⟨ms,clock,h1,h2,aZ.mono hkeep _ _ _ h3⟩
    |dead=>simp only [aA.iF,osI] at k3;subst k3;trivial
    |bq=>simp only [aA.iF,osI] at k3;subst k3;trivial
   intro i b hi hl
   obtain ⟨j,b',h3,h4,h5,_⟩:=cz i b hi hl
   rw [←h5];exact hF.cx.apart j b' h3 h4
  intro t
  rcases Dn XF t with h3|h3
  ·rw [h3];simp [aj]
  exact sH hm hok _ _ _ h3 (hF.yl t)
 simp at h
theorem G4 (K:Nat) {sz:Nat} {s:St} {a:Act} (hF:Fr G N ds β w X s a):∃β',sX K β s.bx β' (s.bx++[.row sz []])∧Fr G N ds β' w X ⟨s.sl,s.bx++[.row sz []]⟩ a∧bT (s.bx++[.row sz []]) s.bx.length:=by
 have hinv:∀{i:Nat} {b:aA},(s.bx++[aA.row sz []])[i]?=some b→b.live=true→s.bx[i]?=some b:=by
  intro i b h hl
  rcases bw h with ⟨h1,_⟩|⟨h1,h2⟩
  ·exact h1
  subst h2;simp [aA.live] at hl
 have hok:∀blk,bf β s.bx w X blk→bf β (s.bx++[.row sz []]) w X blk:=by
  rintro blk ⟨k1,k2,k3⟩
  exact ⟨k1,k2,fun i b hi hl=>k3 i b (hinv hi hl) hl⟩
 have dH:∀i,bT s.bx i→bT (s.bx++[.row sz []]) i:=by
  rintro i ⟨b,h1,h2⟩
  exact ⟨b,eM h1,h2⟩
 have hkeep:jg w w (bf β s.bx w X) (bf β (s.bx++[.row sz []]) w X):=fun blk hb=>⟨hok blk hb,rfl⟩
 have qH:tj β s.bx w (bf β s.bx w X) β (s.bx++[.row sz []]) w (bf β (s.bx++[.row sz []]) w X):=by
  refine ⟨hkeep,?_,fun _ c _ _ h=>⟨c,h,rfl⟩⟩
  intro i hi
  exact ⟨rfl,dH i hi⟩
 refine ⟨β,⟨fun i _ hi=>⟨rfl,dH i hi⟩,fun i b hi hl=>⟨i,b,hinv hi hl,hl,rfl⟩⟩,⟨⟨hF.cx.xs,?_,?_,?_,?_⟩,hF.defers,hF.size,?_⟩,?_⟩
 ·intro g ds hg
  obtain ⟨k1,k2⟩:=hF.cx.zo g ds hg
  exact ⟨hok g k1,aX.mono hkeep g (fun _=>rfl) _ _ k2⟩
 ·intro i j bi bj hi hj mT oQ he
  exact hF.cx.inj i j bi bj (hinv hi mT) (hinv hj oQ) mT oQ he
 ·intro i b hi
  rcases bw hi with ⟨h1,_⟩|⟨h1,h2⟩
  ·have h:=hF.cx.box i b h1
   cases b with
   |var cs=>
    obtain ⟨c,e,g1,g2⟩:=h
    exact ⟨c,e,g1,ak.mono qH _ _ g2⟩
   |row sz es=>
    refine h.imp id ?_
    rintro ⟨c,e,g1,g2⟩
    exact ⟨c,e,g1,ay.mono hkeep _ _ (fun _=>rfl) _ _ g2⟩
   |kP sz es=>
    refine h.imp id ?_
    rintro ⟨g1,g2⟩
    exact ⟨hok _ g1,ay.mono hkeep _ _ (fun _=>rfl) _ _ g2⟩
   |it s p=>exact h
   |mp ag es=>obtain ⟨ms,clock,h1,h2,h3⟩:=h;exact ⟨ms,clock,h1,h2,aZ.mono hkeep _ _ _ h3⟩
   |dead=>trivial
   |bq=>trivial
  subst h2;exact .inl rfl
 ·intro i b hi hl
  exact hF.cx.apart i b (hinv hi hl) hl
 ·intro t;exact aj.mono qH _ _ (hF.yl t)
 exact ⟨.row sz [],by simp,rfl⟩
theorem Vp {ok:Nat→Prop} {n sz:Nat} {u:Value} (hb:bT bx n) (h:aj β bx w ok (.cl []) u):aj β bx w ok (.ow n sz 0) u:=by
 simp only [aj,List.length_nil] at h ⊢
 obtain ⟨base,h1,_⟩:=h
 exact ⟨hb,.inl ⟨trv,base,h1⟩⟩
theorem oZ (K:Nat) {a:Act}:∀(l:List (Nat×Nat)) (s:St) (β:Nat→Nat),Fr G N ds β w X s a→∃β',sX K β s.bx β' (vC s l).bx∧Fr G N ds β' w X (vC s l) a
 |[],s,β,hF=>⟨β,sX.refl _ _ _,hF⟩
 |(i,sz)::r,s,β,hF=>by
  unfold vC
  split
  ·rename_i hl
   cases hz:Nat.beq sz 0 with
   |true=>
    simp only [cond_true]
    refine oZ K r ⟨put i (.d (.sl [])) s.sl,s.bx⟩ β ⟨hF.cx,hF.defers,hF.size,fun t=>?_⟩
    have h1:=hF.yl t
    simp only [oR]
    by_cases ht:t=i
    ·subst ht
     rw [if_pos rfl]
     rw [hl] at h1
     simp only [aj,aJ] at h1 ⊢
     obtain ⟨base,h2,h3⟩:=h1
     exact ⟨base,_,h2,Nat.le_refl _,h3⟩
    rw [if_neg ht];exact h1
   |false=>
   simp only [cond_false]
   obtain ⟨β1,e1,FK,hb⟩:=G4 (sz:=sz) K hF
   have M5:Fr G N ds β1 w X ⟨put i (.ow s.bx.length sz 0) s.sl,s.bx++[.row sz []]⟩ a:=by
    refine ⟨FK.cx,FK.defers,FK.size,?_⟩
    intro t
    have h1:=FK.yl t
    simp only [oR]
    by_cases ht:t=i
    ·subst ht
     rw [if_pos rfl]
     have LG:aj β1 (s.bx++[.row sz []]) w (bf β1 (s.bx++[.row sz []]) w X) (fW t s.sl) (a.tmps.getD t undef):=h1
     rw [hl] at LG
     exact Vp hb LG
    rw [if_neg ht];exact h1
   obtain ⟨β2,e2,Tr⟩:=oZ K r _ β1 M5
   exact ⟨β2,e1.trans e2,Tr⟩
  exact oZ K r s β hF
theorem Dp {ok:Nat→Prop} {x y:AV} (hxy:∀u,aj β bx w ok x u→aj β bx w ok y u):∀(cs:List AV) (c:Nat) (vs:List Value),cs[c]?=some x→ak β bx w ok cs vs→ak β bx w ok (cs.set c y) vs
 |[],_,_,h,_=>by simp at h
 |z::cs,0,vs,h,hv=>by
  simp only [List.getElem?_cons_zero,osI] at h;subst h
  simp only [List.set_cons_zero,ak] at hv ⊢
  obtain ⟨u,us,h1,h2,h3⟩:=hv
  exact ⟨u,us,h1,hxy u h2,h3⟩
 |z::cs,c+1,vs,h,hv=>by
  simp only [List.getElem?_cons_succ] at h
  simp only [List.set_cons_succ,ak] at hv ⊢
  obtain ⟨u,us,h1,h2,h3⟩:=hv
  exact ⟨u,us,h1,h2,Dp hxy cs c us h h3⟩
theorem JI {s:St} {a:Act} (hF:Fr G N ds β w X s a) {b c:Nat} {cs:List AV} {x y:AV} (hb:s.bx[b]?=some (.var cs)) (hc:cs[c]?=some x)
 (hxy:∀u,aj β s.bx w (bf β s.bx w X) x u→aj β s.bx w (bf β s.bx w X) y u) (K:Nat):
 sX K β s.bx β (s.bx.set b (.var (cs.set c y)))∧Fr G N ds β w X ⟨s.sl,s.bx.set b (.var (cs.set c y))⟩ a:=by
 have hinv:∀{i:Nat} {B:aA},(s.bx.set b (.var (cs.set c y)))[i]?=some B→(i=b∧B=.var (cs.set c y))∨(i≠b∧s.bx[i]?=some B):=by
  intro i B h
  rcases aK h with ⟨h1,h2,_⟩|⟨h1,h2⟩
  ·exact .inl ⟨h1,h2⟩
  exact .inr ⟨h1,h2⟩
 have cz:∀{i:Nat} {B:aA},(s.bx.set b (.var (cs.set c y)))[i]?=some B→B.live=true→∃B',s.bx[i]?=some B'∧B'.live=true:=by
  intro i B h hl
  rcases hinv h with ⟨rfl,rfl⟩|⟨_,h1⟩
  ·exact ⟨_,hb,rfl⟩
  exact ⟨B,h1,hl⟩
 have hok:∀blk,bf β s.bx w X blk→bf β (s.bx.set b (.var (cs.set c y))) w X blk:=by
  rintro blk ⟨k1,k2,k3⟩
  refine ⟨k1,k2,fun i B hi hl=>?_⟩
  obtain ⟨B',h1,h2⟩:=cz hi hl
  exact k3 i B' h1 h2
 have dH:∀i,bT s.bx i→bT (s.bx.set b (.var (cs.set c y))) i:=fun i hi=>iJ rfl hi
 have hkeep:jg w w (bf β s.bx w X) (bf β (s.bx.set b (.var (cs.set c y))) w X):=fun blk hb=>⟨hok blk hb,rfl⟩
 have qH:tj β s.bx w (bf β s.bx w X) β (s.bx.set b (.var (cs.set c y))) w (bf β (s.bx.set b (.var (cs.set c y))) w X):=
  ⟨hkeep,fun i hi=>⟨rfl,dH i hi⟩,fun _ c _ _ h=>⟨c,h,rfl⟩⟩
 refine ⟨⟨fun i _ hi=>⟨rfl,dH i hi⟩,fun i B hi hl=>?_⟩,⟨⟨hF.cx.xs,?_,?_,?_,?_⟩,hF.defers,hF.size,?_⟩⟩
 ·obtain ⟨B',h1,h2⟩:=cz hi hl
  exact ⟨i,B',h1,h2,rfl⟩
 ·intro g ds hg
  obtain ⟨k1,k2⟩:=hF.cx.zo g ds hg
  exact ⟨hok g k1,aX.mono hkeep g (fun _=>rfl) _ _ k2⟩
 ·intro i j bi bj hi hj mT oQ he
  obtain ⟨B1,h1,h2⟩:=cz hi mT
  obtain ⟨B2,h3,h4⟩:=cz hj oQ
  exact hF.cx.inj i j B1 B2 h1 h3 h2 h4 he
 ·intro i B hi
  rcases hinv hi with ⟨rfl,rfl⟩|⟨_,h1⟩
  ·have h:=hF.cx.box _ _ hb
   simp only [dm] at h ⊢
   obtain ⟨cc,e,g1,g2⟩:=h
   exact ⟨cc,e,g1,ak.mono qH _ _ (Dp hxy cs c _ hc g2)⟩
  have h:=hF.cx.box i B h1
  cases B with
  |var cs=>
   obtain ⟨c,e,g1,g2⟩:=h
   exact ⟨c,e,g1,ak.mono qH _ _ g2⟩
  |row sz es=>
   refine h.imp id ?_
   rintro ⟨c,e,g1,g2⟩
   exact ⟨c,e,g1,ay.mono hkeep _ _ (fun _=>rfl) _ _ g2⟩
  |kP sz es=>
   refine h.imp id ?_
   rintro ⟨g1,g2⟩
   exact ⟨hok _ g1,ay.mono hkeep _ _ (fun _=>rfl) _ _ g2⟩
  |it s p=>exact h
  |mp ag es=>obtain ⟨ms,clock,h1,h2,h3⟩:=h;exact ⟨ms,clock,h1,h2,aZ.mono hkeep _ _ _ h3⟩
  |dead=>trivial
  |bq=>trivial
 ·intro i B hi hl
  obtain ⟨B',h1,h2⟩:=cz hi hl
  exact hF.cx.apart i B' h1 h2
 intro t;exact aj.mono qH _ _ (hF.yl t)
theorem dU (K:Nat) {a:Act}:∀(l:List (Nat×Nat×Nat)) (s:St) (β:Nat→Nat),XN (qR s l)→Fr G N ds β w X s a→∃β',sX K β s.bx β' (zq s l).bx∧Fr G N ds β' w X (zq s l) a
 |[],s,β,_,hF=>⟨β,sX.refl _ _ _,hF⟩
 |(b,c,sz)::r,s,β,hC,hF=>by
  unfold zq
  unfold qR at hC
  cases hb:s.bx[b]? with
  |none=>rw [hb] at hC;exact dU K r s β hC hF
  |some B=>
  rw [hb] at hC
  cases B with
  |var cs=>
   simp only at hC ⊢
   cases hc:cs[c]? with
   |none=>rw [hc] at hC;exact dU K r s β hC hF
   |some v=>
   rw [hc] at hC
   cases v with
   |cl es=>
    cases es with
    |nil=>
     simp only at hC ⊢
     cases hz:Nat.beq sz 0 with
     |true=>
      rw [hz] at hC
      simp only [cond_true] at hC ⊢
      obtain ⟨e2,M5⟩:=JI hF (b:=b) hb hc (y:=.d (.sl [])) (fun u hu=>by
       simp only [aj,aJ] at hu ⊢
       obtain ⟨base,h1,h2⟩:=hu
       exact ⟨base,_,h1,Nat.le_refl _,h2⟩) K
      obtain ⟨β2,e3,Tr⟩:=dU K r _ β hC M5
      exact ⟨β2,e2.trans e3,Tr⟩
     |false=>
     rw [hz] at hC
     simp only [cond_false] at hC ⊢
     obtain ⟨β1,e1,FK,Er⟩:=G4 (sz:=sz) K hF
     have wG:(s.bx++[aA.row sz []])[b]?=some (.var cs):=eM hb
     obtain ⟨e2,M5⟩:=JI (s:=⟨s.sl,s.bx++[.row sz []]⟩) FK (b:=b) wG hc (y:=.ow s.bx.length sz 0) (fun u hu=>Vp Er hu) K
     obtain ⟨β2,e3,Tr⟩:=dU K r _ β1 hC M5
     exact ⟨β2,(e1.trans e2).trans e3,Tr⟩
    |cons=>exact dU K r s β hC hF
   |ow k z n=>
    simp only at hC ⊢
    cases hz:Nat.beq sz 0 with
    |false=>rw [hz] at hC;simp only [cond_false] at hC ⊢;exact dU K r s β hC hF
    |true=>
    rw [hz] at hC
    simp only [cond_true] at hC ⊢
    cases hk:s.bx[k]? with
    |none=>rw [hk] at hC;exact dU K r s β hC hF
    |some B=>
    rw [hk] at hC
    cases B with
    |row y es=>
     simp only at hC ⊢
     cases hy:(Nat.beq y z&&!Nat.beq b k) with
     |false=>rw [hy] at hC;simp only [cond_false] at hC ⊢;exact dU K r s β hC hF
     |true=>
      rw [hy] at hC
      simp only [cond_true,XN] at hC ⊢
      obtain ⟨⟨hn⟩,hC⟩:=hC
      simp only [Bool.and_eq_true,Bool.not_eq_true'] at hy
      obtain ⟨hy1,Yb⟩:=hy
      have hbk:b≠k:=fun e=>by subst e;rw [hb] at hk;cases hk
      have hfz:∀bx:List aA,(bx[k]?=some (.row y es)∨bx[k]?=some (.kP y es))→fz bx (.ow k z n)=some (.d (.sl es)):=by
       intro bx h
       subst hn
       have hl:Nat.beq es.length es.length=true:=Nat.beq_refl _
       rcases h with h|h<;>simp [fz,AV.rY,h,hy1,hl]
      have Ja:(AV.ow k z n).cq s.bx=s.bx.set k (.kP y es):=by simp [AV.cq,hk]
      obtain ⟨cc,ee,g1,g2⟩:=hF.cx.box _ _ hb
      obtain ⟨u0,_,X8⟩:=ak.get c _ g2 hc
      obtain ⟨e1,SU,_⟩:=u7 hF.cx (hfz s.bx (.inl hk)) X8
      rw [Ja] at e1 SU
      have FK:Fr G N ds β w X ⟨s.sl,s.bx.set k (.kP y es)⟩ a:=⟨SU,hF.defers,hF.size,fun t=>aj.mono (e1.eT X) _ _ (hF.yl t)⟩
      have hlk:k<s.bx.length:=(List.getElem?_eq_some_iff.1 hk).1
      have wF:(s.bx.set k (aA.kP y es))[k]?=some (.kP y es):=by simp [hlk]
      have wG:(s.bx.set k (aA.kP y es))[b]?=some (.var cs):=by rw [List.getElem?_set_ne (fun e=>hbk e.symm)];exact hb
      have aaY:(AV.ow k z n).cq (s.bx.set k (.kP y es))=s.bx.set k (.kP y es):=by simp [AV.cq,wF]
      have eK:sX K β s.bx β (s.bx.set k (.kP y es)):=⟨fun i _ hi=>(e1.born i hi),fun i B hi hl=>by
       by_cases hik:i=k
       ·subst hik
        exact ⟨i,_,hk,by rw [wF] at hi;cases hi;cases es<;>simp_all [aA.live],rfl⟩
       rw [List.getElem?_set_ne (fun e=>hik e.symm)] at hi
       exact ⟨i,B,hi,hl,rfl⟩⟩
      obtain ⟨e2,M5⟩:=JI (s:=⟨s.sl,s.bx.set k (.kP y es)⟩) FK (b:=b) wG hc (y:=.d (.sl es)) (fun u hu=>by
       have:=(u7 SU (hfz _ (.inr wF)) hu).2.2
       rw [aaY] at this
       exact this) K
      obtain ⟨β2,e3,Tr⟩:=dU K r _ β hC M5
      exact ⟨β2,(eK.trans e2).trans e3,Tr⟩
    |_=>exact dU K r s β hC hF
   |_=>exact dU K r s β hC hF
  |_=>exact dU K r s β hC hF
theorem yE {K:Nat} {nf:Nf} {s s':St} {a:Act} (hC:XN (qR (vC s nf.os) nf.ob)) (h:yD K nf s=some s') (hF:Fr G N ds β w X s a):∃β',sX K β s.bx β' s'.bx∧Fr G N ds β' w X s' a:=by
 unfold yD at h
 obtain ⟨β1,e1,FK⟩:=oZ K nf.os s β hF
 obtain ⟨β2,e2,M5⟩:=dU K nf.ob _ β1 hC FK
 obtain ⟨β3,e3,Tr⟩:=G3 h M5
 exact ⟨β3,(e1.trans e2).trans e3,Tr⟩
end
structure LoopIn (o:Option St) (P:St→Prop):Prop where
 ok:match o with
  |some s=>P s
  |none=>False
def qT:Option Prop→Prop→Prop
 |none,X=>X
 |some c,X=>c∧X
theorem qT.ok {o:Option Prop} {X:Prop} (h:qT o X):XN o∧X:=by
 cases o with
 |none=>exact ⟨trv,h⟩
 |some c=>exact h
theorem qT.mk {o:Option Prop} {X:Prop} (h:XN o) (hx:X):qT o X:=by
 cases o with
 |none=>exact hx
 |some c=>exact ⟨h,hx⟩
structure Vq (K:Nat) (A:(Ex→St→Prop)→St→Prop) (Q:Ex→St→Prop) (s:St):Prop where
 ok:∃(nf:Nf) (I:Nat→St→Prop) (n:Nat),qT (qR (vC s nf.os) nf.ob) (LoopIn (yD K nf s) (I n))∧∀n s1,I n s1→A (fun e s2=>uM (fun s2=>qT (qR (vC s2 nf.os) nf.ob) (LoopIn (yD K nf s2) (fun s3=>∃m,m<n∧I m s3))) Q e s2) s1
mutual
def AV.CC (b:Nat) (x:D):AV→AV
 |.zX c=>bif Nat.beq c b then .d x else .zX c
 |.agg cs=>.agg (AV.G5 b x cs)
 |.ek cs=>.ek (AV.G5 b x cs)
 |.fn f cs=>.fn f (AV.G5 b x cs)
 |.sS t y=>.sS t (AV.CC b x y)
 |.cond p y=>.cond p (AV.CC b x y)
 |v=>v
def AV.G5 (b:Nat) (x:D):List AV→List AV
 |[]=>[]
 |y::ys=>AV.CC b x y::AV.G5 b x ys
end
def aA.CC (b:Nat) (x:D):aA→aA
 |.var cs=>.var (AV.G5 b x cs)
 |B=>B
def wZ (b:Nat) (x:D):List (Nat×AV)→List (Nat×AV)
 |[]=>[]
 |(i,v)::r=>(i,AV.CC b x v)::wZ b x r
def w8 (b:Nat) (x:D):List aA→Nat→List aA
 |[],_=>[]
 |B::r,i=>(bif Nat.beq i b then .dead else aA.CC b x B)::w8 b x r (i+1)
def jF (b:Nat) (x:D) (s:St):St:=⟨wZ b x s.sl,w8 b x s.bx 0⟩
def Qb:List aA→Bool
 |[]=>false
 |.mp _ _::_=>true
 |_::r=>Qb r
structure Yw (s:St) (A:St→Prop):Prop where
 ok:A s∨∃b ag es,s.bx[b]?=some (.mp ag es)∧A (jF b (.mp ag es) s)
section
variable {P:Program} {T:Nat→Option TI} {G:Nat→Option (List D)} {N:Nat} {ds:List Deferred} {β:Nat→Nat} {w:World} {X:Nat→Prop} {s:St}
theorem pe (b:Nat) (x:D):∀(l:List aA) (k i:Nat),(w8 b x l k)[i]?=(l[i]?).map fun B=>bif Nat.beq (k+i) b then .dead else aA.CC b x B
 |[],_,_=>by simp [w8]
 |B::r,k,0=>by simp [w8]
 |B::r,k,i+1=>by simp only [w8,List.getElem?_cons_succ];rw [pe b x r (k+1) i,show k+1+i=k+(i+1) by omega]
theorem G6 (b:Nat) (x:D) (B:aA):(aA.CC b x B).live=B.live∧(aA.CC b x B).born=B.born:=by cases B<;>simp [aA.CC,aA.live,aA.born]
theorem G7 (b:Nat) (x:D) (t:Nat):∀sl:List (Nat×AV),fW t (wZ b x sl)=AV.CC b x (fW t sl)
 |[]=>by simp [wZ,fW,AV.CC]
 |(u,v)::r=>by
  simp only [wZ,fW]
  cases Nat.beq t u with
  |true=>rfl
  |false=>simpa using G7 b x t r
mutual
theorem zM {bx aL:List aA} {ok ok':Nat→Prop} {b:Nat} {x:D} (hl:tj β bx w ok β aL w ok') (hb:∀v,v=.map (some (β b))→aJ w ok' x v):∀(y:AV) (v:Value),aj β bx w ok y v→aj β aL w ok' (AV.CC b x y) v
 |.zX c,v,h=>by
  unfold AV.CC
  cases hc:Nat.beq c b with
  |true=>
   obtain rfl:=Nat.eq_of_beq_eq_true hc
   simp only [cond_true,aj] at h ⊢
   exact hb v h.1
  |false=>simpa using aj.mono hl _ _ h
 |.agg cs,v,h=>by simp only [AV.CC,aj] at h ⊢;obtain ⟨vs,h1,h2⟩:=h;exact ⟨vs,h1,qV hl hb cs vs h2⟩
 |.ek cs,v,h=>by simp only [AV.CC,aj] at h ⊢;obtain ⟨vs,h1,h2⟩:=h;exact ⟨vs,h1,qV hl hb cs vs h2⟩
 |.fn f cs,v,h=>by simp only [AV.CC,aj] at h ⊢;obtain ⟨vs,h1,h2⟩:=h;exact ⟨vs,h1,qV hl hb cs vs h2⟩
 |.sS t y,v,h=>by simp only [AV.CC,aj] at h ⊢;obtain ⟨u,h1,h2⟩:=h;exact ⟨u,h1,zM hl hb y u h2⟩
 |.cond p y,v,h=>by simp only [AV.CC,aj] at h ⊢;exact ⟨fun hp=>zM hl hb y v (h.1 hp),h.2⟩
 |.any,v,h=>aj.mono hl _ _ h
 |.d _,v,h=>aj.mono hl _ _ h
 |.k _,v,h=>aj.mono hl _ _ h
 |.ptr _ _,v,h=>aj.mono hl _ _ h
 |.rp _ _ _ _,v,h=>aj.mono hl _ _ h
 |.ep _,v,h=>aj.mono hl _ _ h
 |.ow _ _ _,v,h=>aj.mono hl _ _ h
 |.cl _,v,h=>aj.mono hl _ _ h
 |.vw _ _ _ _ _ _,v,h=>aj.mono hl _ _ h
theorem qV {bx aL:List aA} {ok ok':Nat→Prop} {b:Nat} {x:D} (hl:tj β bx w ok β aL w ok') (hb:∀v,v=.map (some (β b))→aJ w ok' x v):∀(ys:List AV) (vs:List Value),ak β bx w ok ys vs→ak β aL w ok' (AV.G5 b x ys) vs
 |[],vs,h=>by simpa [AV.G5,ak] using h
 |y::ys,vs,h=>by
  simp only [AV.G5,ak] at h ⊢
  obtain ⟨u,us,h1,h2,h3⟩:=h
  exact ⟨u,us,h1,zM hl hb y u h2,qV hl hb ys us h3⟩
end
theorem Ts {a:Act} (hF:Fr G N ds β w X s a) {b:Nat} {ag:Bool} {es:List (List D)} (hb:s.bx[b]?=some (.mp ag es)):
 Ext β s.bx w β (jF b (.mp ag es) s).bx w∧Fr G N ds β w X (jF b (.mp ag es) s) a:=by
 have wT:∀{i:Nat} {B:aA},(jF b (.mp ag es) s).bx[i]?=some B→(i=b∧B=.dead)∨(i≠b∧∃B',s.bx[i]?=some B'∧B=aA.CC b (.mp ag es) B'):=by
  intro i B h
  simp only [jF,pe,Nat.zero_add,Option.map_eq_some_iff] at h
  obtain ⟨B',h1,h2⟩:=h
  cases hi:Nat.beq i b with
  |true=>simp only [hi,cond_true] at h2;exact .inl ⟨Nat.eq_of_beq_eq_true hi,h2.symm⟩
  |false=>simp only [hi,cond_false] at h2;exact .inr ⟨Nat.ne_of_beq_eq_false hi,B',h1,h2.symm⟩
 have cz:∀{i:Nat} {B:aA},(jF b (.mp ag es) s).bx[i]?=some B→B.live=true→i≠b∧∃B',s.bx[i]?=some B'∧B'.live=true:=by
  intro i B h hl
  rcases wT h with ⟨_,rfl⟩|⟨h1,B',h2,rfl⟩
  ·cases hl
  exact ⟨h1,B',h2,(G6 _ _ _).1▸hl⟩
 have dH:∀i,bT s.bx i→bT (jF b (.mp ag es) s).bx i:=by
  rintro i ⟨B,h1,h2⟩
  cases hi:Nat.beq i b with
  |true=>exact ⟨.dead,by simp [jF,pe,h1,hi],rfl⟩
  |false=>exact ⟨aA.CC b (.mp ag es) B,by simp [jF,pe,h1,hi],(G6 _ _ _).2.trans h2⟩
 have hok:∀blk,bf β s.bx w X blk→bf β (jF b (.mp ag es) s).bx w X blk:=by
  rintro blk ⟨k1,k2,k3⟩
  refine ⟨k1,k2,fun i B hi hl=>?_⟩
  obtain ⟨_,B',h1,h2⟩:=cz hi hl
  exact k3 i B' h1 h2
 have hkeep:jg w w (bf β s.bx w X) (bf β (jF b (.mp ag es) s).bx w X):=fun blk hb=>⟨hok blk hb,rfl⟩
 have qH:tj β s.bx w (bf β s.bx w X) β (jF b (.mp ag es) s).bx w (bf β (jF b (.mp ag es) s).bx w X):=⟨hkeep,fun i hi=>⟨rfl,dH i hi⟩,fun _ c _ _ h=>⟨c,h,rfl⟩⟩
 have F9:=hF.cx.box b _ hb
 have hmp:∀v,v=.map (some (β b))→aJ w (bf β (jF b (.mp ag es) s).bx w X) (.mp ag es) v:=by
  rintro v rfl
  obtain ⟨ms,clock,h1,h2,h3⟩:=F9
  simp only [aJ]
  refine ⟨β b,ms,clock,rfl,⟨eW h1,hF.cx.apart b _ hb rfl,?_⟩,h1,h2,aZ.mono hkeep _ _ _ h3⟩
  intro i B hi hl he
  obtain ⟨g1,B',g2,g3⟩:=cz hi hl
  exact g1 (hF.cx.inj i b B' _ g2 hb g3 rfl he)
 refine ⟨⟨rfl,rfl,rfl,Nat.le_refl _,fun _ _ _=>rfl,fun _ c _ _ h=>⟨c,h,rfl⟩,fun i hi=>⟨rfl,dH i hi⟩,?_⟩,⟨⟨hF.cx.xs,?_,?_,?_,?_⟩,hF.defers,hF.size,?_⟩⟩
 ·intro i B hi hl
  obtain ⟨_,B',g2,g3⟩:=cz hi hl
  exact .inr ⟨i,B',g2,g3,rfl⟩
 ·intro g ds hg
  obtain ⟨k1,k2⟩:=hF.cx.zo g ds hg
  exact ⟨hok g k1,aX.mono hkeep g (fun _=>rfl) _ _ k2⟩
 ·intro i j bi bj hi hj mT oQ he
  obtain ⟨_,Bi,g2,g3⟩:=cz hi mT
  obtain ⟨_,Bj,g4,g5⟩:=cz hj oQ
  exact hF.cx.inj i j Bi Bj g2 g4 g3 g5 he
 ·intro i B hi
  rcases wT hi with ⟨_,rfl⟩|⟨_,B',h2,rfl⟩
  ·trivial
  have h:=hF.cx.box i B' h2
  cases B' with
  |var cs=>
   obtain ⟨c,e,g1,g2⟩:=h
   exact ⟨c,e,g1,qV qH hmp _ _ g2⟩
  |row sz es=>
   refine h.imp id ?_
   rintro ⟨c,e,g1,g2⟩
   exact ⟨c,e,g1,ay.mono hkeep _ _ (fun _=>rfl) _ _ g2⟩
  |kP sz es=>
   refine h.imp id ?_
   rintro ⟨g1,g2⟩
   exact ⟨hok _ g1,ay.mono hkeep _ _ (fun _=>rfl) _ _ g2⟩
  |it s p=>exact h
  |mp ag es=>obtain ⟨ms,clock,h1,h2,h3⟩:=h;exact ⟨ms,clock,h1,h2,aZ.mono hkeep _ _ _ h3⟩
  |dead=>trivial
  |bq=>trivial
 ·intro i B hi hl
  obtain ⟨_,B',g2,g3⟩:=cz hi hl
  exact hF.cx.apart i B' g2 g3
 intro t
 show aj β _ w _ (fW t (wZ b (.mp ag es) s.sl)) _
 rw [G7]
 exact zM qH hmp _ _ (hF.yl t)
end
section
variable (t:Th) (FC:Nat→List AV→List aA→iB→List aA→Prop) (T:Nat→Option TI) (G:Nat→Option (List D)) (N K:Nat)
def vE:Code→(Ex→St→Prop)→St→Prop
 |.skip,Q,s=>Q .normal s
 |.region _ ops draw,Q,s=>bif draw then (bif Qb s.bx then Yw s (fun s=>LV t FC T G N ops.toList Q s) else LV t FC T G N ops.toList Q s) else P7 t FC T G N ops.toList ops.toList Q s
 |.seq a b,Q,s=>vE a (fun e s1=>uM (fun s1=>vE b Q s1) Q e s1) s
 |.cond c a b,Q,s=>(bV G s.sl c).ok∧wH (bV G s.sl c).aM (fun _=>vE a Q s) (fun _=>vE b Q s)
 |.block id c,Q,s=>vE c (fun e s1=>match e with|.exit j=>bif Nat.beq j id then Q .normal s1 else Q (.exit j) s1|e=>Q e s1) s
 |.loop c,Q,s=>Vq K (fun Q1 s1=>vE c Q1 s1) Q s
 |.scope c,Q,s=>vE c Q s
 |.exit id,Q,s=>Q (.exit id) s
 |.label _,Q,s=>Q .normal s
 |.ret,Q,s=>Q .ret s
 |_,_,_=>False
structure EI (n:Nat) (c:Prop) (v:AV) (bx:List aA) (fz:Option (Prop×AV)) (res:iB) (aL:List aA):Prop where
 ok:c∧((res=.ret v∧aL=bx)∨
  (∃ks d u,fz=some (d,u)∧d∧u.within n=true∧aL=(kill ks (tg bx v)).take n∧bX n aL=true∧res=.ret u)∨
  (∃k sz m es,v=.ow k sz m∧bx[k]?=some (.row sz es)∧n≤k∧n≤bx.length∧bX n (bx.take n)=true∧res=.ret (.ow n sz m)∧aL=bx.take n++[.row sz es])∨
  (∃sz,v=.cl []∧n≤bx.length∧bX n (bx.take n)=true∧res=.ret (.ow n sz 0)∧aL=bx.take n++[.row sz []]))
def pW (results:List ResultVar) (n:Nat) (res:iB) (aL:List aA):Ex→St→Prop
 |.exit _,_=>False
 |.panic v,s=>U5 v s.bx res aL
 |_,s=>match Cv T s.sl s.bx results with
  |some (c,vs)=>EI n c (CY vs) s.bx (P3 t s.bx (CY vs)) res aL
  |none=>False
end
section
variable {P:Program} {T:Nat→Option TI} {G:Nat→Option (List D)} {N K:Nat} {ds:List Deferred} {X:Nat→Prop} {β0:Nat→Nat} {bz:List aA} {w0:World}
theorem Qd {β:Nat→Nat} {w:World} {s s1:St} {a:Act} {i:Nat} {c:Prop} (hF:Fr G N ds β w X s a) (h:EG t0 i s=some (c,s1)) (hc:c):Ext β s.bx w β s1.bx w∧Fr G N ds β w X s1 a:=by
 unfold EG at h
 split at h
 ·rename_i c' y hy
  simp only [osI,Prod.mk.injEq] at h
  obtain ⟨rfl,rfl⟩:=h
  obtain ⟨g1,g2,g3⟩:=u7 hF.cx (JE hy hc) (hF.yl i)
  refine ⟨g1,g2,hF.defers,hF.size,fun t=>?_⟩
  simp only [oR]
  by_cases h:t=i
  ·subst h;rw [if_pos rfl];exact g3
  rw [if_neg h];exact aj.mono (g1.eT X) _ _ (hF.yl t)
 cases h
theorem qW (hD:qG P T G) {id:Nat} {ops:Array Oper} {Q:Ex→St→Prop} {β:Nat→Nat} {w:World} {s:St} {a:Act} (ex:Ext β0 bz w0 β s.bx w) (hF:Fr G N ds β w X s a)
 (h:LV t0 (bt P G) T G N ops.toList Q s):(Code.region id ops true).wp P (fY G N ds X β0 bz w0 Q) a w:=by
 rcases Tq h with h|⟨i,c,s1,h1,hc,h⟩
 ·exact hD _ _ _ _ _ _ id ops Q β w s a ex hF h
 obtain ⟨e1,FK⟩:=Qd hF h1 hc
 exact hD _ _ _ _ _ _ id ops Q β w s1 a (ex.trans e1) FK h
theorem fD (hT:kH P T) (hD:qG P T G) (hK:bz.length≤K):∀(c:Code) (Q:Ex→St→Prop) (β:Nat→Nat) (w:World) (s:St) (a:Act),Ext β0 bz w0 β s.bx w→Fr G N ds β w X s a→
 vE t0 (bt P G) T G N K c Q s→c.wp P (fY G N ds X β0 bz w0 Q) a w
 |.skip,Q,β,w,s,a,ex,hF,h=>wp_skip ⟨β,s,ex,hF,h⟩
 |.region id ops draw,Q,β,w,s,a,ex,hF,h=>by
  cases draw with
  |true=>
   simp only [vE,cond_true] at h
   cases hm:Qb s.bx with
   |false=>simp only [hm,cond_false] at h;exact qW hD ex hF h
   |true=>
    simp only [hm,cond_true] at h
    rcases h with ⟨h|⟨b,ag,es,hb,h⟩⟩
    ·exact qW hD ex hF h
    obtain ⟨e1,FK⟩:=Ts hF hb
    exact qW hD (ex.trans e1) FK h
  |false=>exact wp_region_list (mC hT ops.toList β w s a ex hF (JG _ _ h))
 |.seq x y,Q,β,w,s,a,ex,hF,h=>by
  refine wp_seq (wp_mono (fD hT hD hK x _ β w s a ex hF h) ?_)
  intro e a' w' hl
  cases e<;>simp only [fY,uM] at hl
  ·obtain ⟨β',s',h1,h2,h3⟩:=hl
   exact fD hT hD hK y Q β' w' s' a' h1 h2 h3
  ·exact hl
  ·exact hl
  exact hl
 |.cond c x y,Q,β,w,s,a,ex,hF,h=>by
  obtain ⟨h1,⟨h2⟩⟩:=h
  split at h2
  ·rename_i p hc
   have hv:=ki (hF.eval c) h1
   rw [hc] at hv
   simp only [aj,aJ] at hv
   exact wp_cond_split hv (fun hp=>fD hT hD hK x Q β w s a ex hF (h2.1 hp)) (fun hp=>fD hT hD hK y Q β w s a ex hF (h2.2 hp))
  exact h2.elim
 |.block id c,Q,β,w,s,a,ex,hF,h=>by
  refine wp_block (wp_mono (fD hT hD hK c _ β w s a ex hF h) ?_)
  intro e a' w' hl
  cases e<;>simp only [fY,Exit.inBlock] at hl ⊢
  ·exact hl
  ·rename_i j
   by_cases hj:j=id
   ·subst hj
    simpa [fY] using hl
   have hb:Nat.beq j id=false:=VV hj
   simpa [fY,hb,hj] using hl
  ·exact hl
  exact hl
 |.loop c,Q,β,w,s,a,ex,hF,h=>by
  obtain ⟨nf,I,n,hG,Wb⟩:=h
  obtain ⟨hC0,⟨hI⟩⟩:=hG.ok
  refine wp_loop_ghost (fun n a w=>∃β s,Ext β0 bz w0 β s.bx w∧Fr G N ds β w X s a∧I n s) n ?_ ?_
  ·split at hI
   ·rename_i s' hn
    obtain ⟨β',e1,Ta⟩:=yE hC0 hn hF
    exact ⟨β',s',ex.A4 hK e1,Ta,hI⟩
   exact hI.elim
  rintro n a w ⟨β,s,ex,hF,hI⟩
  refine wp_mono (fD hT hD hK c _ β w s a ex hF (Wb n s hI)) ?_
  intro e a' w' hl
  cases e<;>simp only [fY,uM] at hl
  ·obtain ⟨β',s',h1,h2,hG⟩:=hl
   obtain ⟨hC1,⟨h3⟩⟩:=hG.ok
   split at h3
   ·rename_i s'' hn
    obtain ⟨m,h4,h5⟩:=h3
    obtain ⟨β'',e1,Ta⟩:=yE hC1 hn h2
    exact ⟨m,h4,β'',s'',h1.A4 hK e1,Ta,h5⟩
   exact h3.elim
  ·exact hl
  ·exact hl
  exact hl
 |.scope c,Q,β,w,s,a,ex,hF,h=>by
  refine wp_scope_straight (wp_mono (fD hT hD hK c Q β w s a ex hF h) ?_)
  intro e a' w' hl
  cases e<;>simp only [fY,Exit.noGoto] at hl ⊢<;>exact hl
 |.exit id,Q,β,w,s,a,ex,hF,h=>wp_exit ⟨β,s,ex,hF,h⟩
 |.label l,Q,β,w,s,a,ex,hF,h=>wp_label ⟨β,s,ex,hF,h⟩
 |.ret,Q,β,w,s,a,ex,hF,h=>wp_ret ⟨β,s,ex,hF,h⟩
theorem LZ {results:List ResultVar} {n:Nat} {res:iB} {aL:List aA} {e:Ex} {s:St} (h:pW t0 T results n res aL e s):Lv T results n res aL e s:=by
 unfold pW at h
 split at h
 ·exact h.elim
 ·exact h
 rename_i h1 h2
 unfold Lv
 split
 ·exact absurd rfl (h1 _)
 ·exact absurd rfl (h2 _)
 split at h
 ·rename_i c vs hr
  simp only [hr]
  obtain ⟨hc,h⟩:=h
  refine ⟨hc,?_⟩
  rcases h with h|⟨ks,d,u,k1,k2,k3⟩|h|h
  ·exact .inl h
  ·exact .inr (.inl ⟨ks,u,JF k1 k2,k3⟩)
  ·exact .inr (.inr (.inl h))
  exact .inr (.inr (.inr h))
 exact h.elim
theorem zu (hT:kH P T) (hD:qG P T G) {f N:Nat} {fn:Func} {c:Code} {args:List AV} {bz aL:List aA} {res:iB} (hf:P.funcs[f]?=some fn) (hb:fn.body=some c)
 (hname:(fn.name== "runtime.NumGoroutine")=false) (hN:fn.ntmps=N) (hlen:Nat.ble args.length N=true)
 (h:vE t0 (bt P G) T G N bz.length c (pW t0 T fn.results.toList bz.length res aL) ⟨nO 0 args,bz⟩):bt P G f args bz res aL:=
 vc hT hf hb hname hN hlen fun β w X a hF=>wp_mono (fD (X:=X) (β0:=β) (bz:=bz) (w0:=w) hT hD (Nat.le_refl _) c _ β w ⟨nO 0 args,bz⟩ a (Ext.refl _ _ _) hF h)
  fun _ _ _ hl=>fY.imp (fun _ _ hq=>LZ hq) hl
end
end Dem
end
section
open Go
namespace Dem
def jW (bY:List Nat) (n:Nat) (j:Nat):Option Nat:=match bY[j]? with
 |some i=>some i
 |none=>some (n+(j-bY.length))
def sI (bY:List Nat) (n:Nat) (bz:List aA):Nat→List aA→Option (List aA)
 |_,[]=>some []
 |i,b::r=>match dO i bY 0 with
  |some j=>match bz[j]? with
   |some b0=>match aA.iF (jW bY n) b0,sI bY n bz (i+1) r with
    |some x,some xs=>some (x::xs)
    |_,_=>none
   |none=>none
  |none=>match sI bY n bz (i+1) r with
   |some xs=>some (b::xs)
   |none=>none
def vF (bY:List Nat) (n:Nat):List aA→Option (List aA)
 |[]=>some []
 |b::r=>match aA.iF (jW bY n) b,vF bY n r with
  |some x,some xs=>some (x::xs)
  |_,_=>none
def A5 (bY:List Nat) (bx bz:List aA):Option (List aA):=
 bif Nat.ble bY.length bz.length&&EH bY 0 bY then
  match sI bY bx.length bz 0 bx,vF bY bx.length (bz.drop bY.length) with
  |some a,some b=>some (a++b)
  |_,_=>none
 else none
def iB.iF (m:Nat→Option Nat):iB→Option iB
 |.ret v=>match v.iF m with
  |some x=>some (.ret x)
  |none=>none
 |.MK v=>match v.iF m with
  |some x=>some (.MK x)
  |none=>none
section
variable {P:Program} {G:Nat→Option (List D)}
theorem qX {bY:List Nat} {n:Nat} {bz:List aA}:∀{bx a:List aA} {i:Nat},sI bY n bz i bx=some a→a.length=bx.length∧∀(k:Nat) (b:aA),bx[k]?=some b→
 (∃j b0 b',dO (i+k) bY 0=some j∧bz[j]?=some b0∧aA.iF (jW bY n) b0=some b'∧a[k]?=some b')∨(dO (i+k) bY 0=none∧a[k]?=some b)
 |[],a,i,h=>by simp only [sI,osI] at h;subst h;simp
 |b::r,a,i,h=>by
  simp only [sI] at h
  split at h
  ·rename_i j hj
   split at h
   ·rename_i b0 hb0
    split at h
    ·rename_i x xs h1 h2
     simp only [osI] at h;subst h
     obtain ⟨k1,k2⟩:=qX h2
     refine ⟨by simp [k1],?_⟩
     intro k b1 hk
     cases k with
     |zero=>exact .inl ⟨j,b0,x,hj,hb0,h1,rfl⟩
     |succ k=>
      simp only [List.getElem?_cons_succ] at hk ⊢
      have:=k2 k b1 hk
      rwa [show i+1+k=i+(k+1) by omega] at this
    simp at h
   simp at h
  rename_i hj
  split at h
  ·rename_i xs h2
   simp only [osI] at h;subst h
   obtain ⟨k1,k2⟩:=qX h2
   refine ⟨by simp [k1],?_⟩
   intro k b1 hk
   cases k with
   |zero=>simp only [List.getElem?_cons_zero,osI] at hk;subst hk;exact .inr ⟨hj,rfl⟩
   |succ k=>
    simp only [List.getElem?_cons_succ] at hk ⊢
    have:=k2 k b1 hk
    rwa [show i+1+k=i+(k+1) by omega] at this
  simp at h
theorem yF {bY:List Nat} {n:Nat}:∀{bx a:List aA},vF bY n bx=some a→a.length=bx.length∧∀(k:Nat) (b:aA),bx[k]?=some b→∃b',aA.iF (jW bY n) b=some b'∧a[k]?=some b'
 |[],a,h=>by simp only [vF,osI] at h;subst h;simp
 |b::r,a,h=>by
  simp only [vF] at h
  split at h
  ·rename_i x xs h1 h2
   simp only [osI] at h;subst h
   obtain ⟨k1,k2⟩:=yF h2
   refine ⟨by simp [k1],?_⟩
   intro k b1 hk
   cases k with
   |zero=>simp only [List.getElem?_cons_zero,osI] at hk;subst hk;exact ⟨x,h1,rfl⟩
   |succ k=>simp only [List.getElem?_cons_succ] at hk ⊢;exact k2 k b1 hk
  simp at h
theorem cR {f:Nat} {args jX:List AV} {bx bz vG aL:List aA} {Wc res:iB} (bY:List Nat)
 (ha:AV.vB (fun b=>dO b bY 0) args=some jX) (hb:fQ (fun b=>dO b bY 0) bx bY=some bz)
 (hr:iB.iF (jW bY bx.length) Wc=some res) (hb':A5 bY bx vG=some aL) (h:bt P G f jX bz Wc vG):bt P G f args bx res aL:=by
 intro β w vs X cx hx
 unfold A5 at hb'
 cases hlen:Nat.ble bY.length vG.length with
 |false=>simp [hlen] at hb'
 |true=>
 cases JJ:EH bY 0 bY with
 |false=>simp [hlen,JJ] at hb'
 |true=>
 simp only [hlen,JJ,Bool.and_self,cond_true] at hb'
 split at hb'
 case h_2=>simp at hb'
 rename_i aO aN hO hN
 simp only [osI] at hb'
 subst hb'
 have hlen':bY.length≤vG.length:=Nat.le_of_ble_eq_true hlen
 obtain ⟨lO,gO⟩:=qX hO
 obtain ⟨lN,gN⟩:=yF hN
 have vD:∀k i,bY[k]?=some i→dO i bY 0=some k:=fun k i hk=>by have:=sG JJ hk;simpa using this
 have hidx:∀b j,dO b bY 0=some j→bY[j]?=some b:=fun b j hj=>by have:=(uh hj).2;simpa using this
 have Qe:∀k i,bY[k]?=some i→∃b,bx[i]?=some b:=fun k i hk=>by
  obtain ⟨b,_,h1,_⟩:=m9 hb k i hk;exact ⟨b,h1⟩
 let β0:Nat→Nat:=fun j=>match bY[j]? with|some i=>β i|none=>0
 let X0:Nat→Prop:=fun blk=>X blk∨∃(i:Nat) (b:aA),bx[i]?=some b∧b.live=true∧dO i bY 0=none∧β i=blk
 have Wd:∀k i,bY[k]?=some i→β0 k=β i:=fun k i hk=>by simp [β0,hk]
 have hm:∀b j,dO b bY 0=some j→β0 j=β b∧(bT bx b→bT bz j):=by
  intro b j hj
  have hs:=hidx b j hj
  refine ⟨Wd j b hs,?_⟩
  rintro ⟨B,hB,dH⟩
  obtain ⟨b1,b2,k1,k2,k3⟩:=m9 hb j b hs
  rw [hB] at k1;cases k1
  exact ⟨b2,k3,(aA.gA k2).1.trans dH⟩
 have uj:∀(i:Nat) (b:aA),bz[i]?=some b→b.live=true→∃(j:Nat) (b':aA),bx[j]?=some b'∧b'.live=true∧β j=β0 i∧bY[i]?=some j:=by
  intro i b hi hl
  obtain ⟨j,b',k1,k2,k3⟩:=jE hb i b hi
  exact ⟨j,b',k2,(aA.gA k3).2▸hl,(Wd i j k1).symm,k1⟩
 have Qf:∀blk,bf β bx w X blk→bf β0 bz w X0 blk:=by
  rintro blk ⟨k1,k2,k3⟩
  refine ⟨k1,?_,?_⟩
  ·rintro (hX|⟨i,b,h1,h2,_,h3⟩)
   ·exact k2 hX
   exact k3 i b h1 h2 h3
  intro i b hi hl
  obtain ⟨j,b',h3,h4,h5,_⟩:=uj i b hi hl
  rw [←h5];exact k3 j b' h3 h4
 have EJ:jg w w (bf β bx w X) (bf β0 bz w X0):=fun blk hb=>⟨Qf blk hb,rfl⟩
 have hlt:∀(i:Nat) (b:aA),bx[i]?=some b→b.live=true→β i<w.heap.size:=fun i b h hl=>dm.eX (cx.box i b h) hl
 have XE:cF G β0 bz w X0:=by
  refine ⟨?_,?_,?_,?_,?_⟩
  ·rintro blk (hX|⟨i,b,h1,h2,_,rfl⟩)
   ·exact cx.xs blk hX
   exact hlt i b h1 h2
  ·intro g ds hg
   obtain ⟨k1,k2⟩:=cx.zo g ds hg
   exact ⟨Qf g k1,aX.mono EJ g (fun _=>rfl) _ _ k2⟩
  ·intro i j bi bj hi hj mT oQ he
   obtain ⟨i',bi',a1,a2,a3,a4⟩:=uj i bi hi mT
   obtain ⟨j',bj',c1,c2,c3,c4⟩:=uj j bj hj oQ
   have:i'=j':=cx.inj i' j' bi' bj' a1 c1 a2 c2 (a3.trans (he.trans c3.symm))
   subst this
   have e1:=vD i i' a4
   have e2:=vD j i' c4
   rw [e1] at e2;exact Option.some.inj e2
  ·intro i b hi
   obtain ⟨j,b',k1,k2,k3⟩:=jE hb i b hi
   have F9:=cx.box j b' k2
   rw [Wd i j k1]
   cases b' with
   |var cs=>
    simp only [aA.iF] at k3
    split at k3
    ·rename_i ys hys
     simp only [osI] at k3;subst k3
     simp only [dm] at F9 ⊢
     obtain ⟨c,e,g1,g2⟩:=F9
     exact ⟨c,e,g1,kX hm Qf cs ys _ hys g2⟩
    simp at k3
   |row sz es=>
    simp only [aA.iF,osI] at k3;subst k3
    refine F9.imp id ?_
    rintro ⟨c,e,g1,g2⟩
    exact ⟨c,e,g1,ay.mono EJ _ _ (fun _=>rfl) _ _ g2⟩
   |kP sz es=>
    simp only [aA.iF,osI] at k3;subst k3
    refine F9.imp id ?_
    rintro ⟨g1,g2⟩
    exact ⟨Qf _ g1,ay.mono EJ _ _ (fun _=>rfl) _ _ g2⟩
   |it s p=>simp only [aA.iF,osI] at k3;subst k3;exact F9
   |mp ag es=>simp only [aA.iF,osI] at k3;subst k3;obtain ⟨ms,clock,h1,h2,h3⟩:=F9;exact ⟨ms,clock,h1,h2,aZ.mono EJ _ _ _ h3⟩
   |dead=>simp only [aA.iF,osI] at k3;subst k3;trivial
   |bq=>simp only [aA.iF,osI] at k3;subst k3;trivial
  intro i b hi hl
  obtain ⟨j,b',h3,h4,h5,h6⟩:=uj i b hi hl
  rw [←h5]
  rintro (hX|⟨i2,b2,e1,e2,e3,e4⟩)
  ·exact cx.apart j b' h3 h4 hX
  have:i2=j:=cx.inj i2 j b2 b' e1 h3 e2 h4 e4
  subst this
  rw [vD i i2 h6] at e3;cases e3
 refine jC.mono (h β0 w vs X0 XE (kX hm Qf args jX vs ha hx)) ?_
 rintro e w' ⟨JK,sV,Tt,hres⟩
 let β':Nat→Nat:=fun i=>match dO i bY 0 with|some j=>JK j|none=>if i<bx.length then β i else JK (bY.length+(i-bx.length))
 have Yx:∀j i,bY[j]?=some i→i<bx.length:=fun j i hj=>by obtain ⟨b,hb⟩:=Qe j i hj;exact jz hb
 have Yy:∀k,dO (bx.length+k) bY 0=none:=by
  intro k
  cases hc:dO (bx.length+k) bY 0 with
  |none=>rfl
  |some j=>have:=Yx j _ (hidx _ _ hc);omega
 have Yz:∀i j,dO i bY 0=some j→β' i=JK j:=fun i j hj=>by simp [β',hj]
 have JL:∀i,i<bx.length→dO i bY 0=none→β' i=β i:=fun i hi hn=>by simp [β',hi,hn]
 have aaZ:∀k,β' (bx.length+k)=JK (bY.length+k):=fun k=>by simp [β',Yy k];omega
 have Qg:∀(i:Nat),i<bx.length→(aO++aN)[i]?=aO[i]?:=fun i hi=>List.getElem?_append_left (by omega)
 have Vr:∀(k:Nat),(aO++aN)[bx.length+k]?=aN[k]?:=fun k=>by rw [List.getElem?_append_right (by omega),lO];congr 1;omega
 have hinv:∀(i:Nat) (b:aA),(aO++aN)[i]?=some b→(i<bx.length∧dO i bY 0=none∧bx[i]?=some b)∨
  (∃(j:Nat) (b0:aA),vG[j]?=some b0∧aA.iF (jW bY bx.length) b0=some b∧jW bY bx.length j=some i):=by
  intro i b hi
  rcases Nat.lt_or_ge i bx.length with hl|hl
  ·rw [Qg i hl] at hi
   obtain ⟨bi,x7⟩:∃bi,bx[i]?=some bi:=⟨bx[i],by simp [hl]⟩
   have:=gO i bi x7
   rw [Nat.zero_add] at this
   rcases this with ⟨j,b0,b',k1,k2,k3,k4⟩|⟨k1,k2⟩
   ·rw [hi] at k4;cases k4
    refine .inr ⟨j,b0,k2,k3,?_⟩
    simp [jW,hidx i j k1]
   rw [hi] at k2;cases k2
   exact .inl ⟨hl,k1,x7⟩
  obtain ⟨k,rfl⟩:∃k,i=bx.length+k:=⟨i-bx.length,by omega⟩
  rw [Vr k] at hi
  have hk:k<aN.length:=by
   rcases Nat.lt_or_ge k aN.length with h'|h'
   ·exact h'
   simp [List.getElem?_eq_none h'] at hi
  have hkd:k<(vG.drop bY.length).length:=by omega
  obtain ⟨b',k1,k2⟩:=gN k _ (List.getElem?_eq_getElem hkd)
  rw [hi] at k2;cases k2
  refine .inr ⟨bY.length+k,(vG.drop bY.length)[k],?_,k1,?_⟩
  ·rw [←List.getElem?_drop];exact List.getElem?_eq_getElem hkd
  simp [jW]
 have A6:∀j i,jW bY bx.length j=some i→β' i=JK j∧(bT vG j→bT (aO++aN) i):=by
  intro j i hj
  unfold jW at hj
  split at hj
  ·rename_i i' hs
   simp only [osI] at hj;subst hj
   obtain ⟨bi,x7⟩:=Qe j i' hs
   have hil:=jz x7
   refine ⟨Yz i' j (vD j i' hs),?_⟩
   rintro ⟨b0,e1,e2⟩
   have:=gO i' bi x7
   rw [Nat.zero_add,vD j i' hs] at this
   rcases this with ⟨j2,b02,b',c1,c2,c3,c4⟩|⟨c1,_⟩
   ·cases c1
    rw [e1] at c2;cases c2
    exact ⟨b',by rw [Qg i' hil];exact c4,(aA.gA c3).1.trans e2⟩
   cases c1
  rename_i hs
  simp only [osI] at hj;subst hj
  have hge:bY.length≤j:=by
   rcases Nat.lt_or_ge j bY.length with h'|h'
   ·simp [h'] at hs
   exact h'
  refine ⟨by rw [aaZ];congr 1;omega,?_⟩
  rintro ⟨b0,e1,e2⟩
  have hd:(vG.drop bY.length)[j-bY.length]?=some b0:=by rw [List.getElem?_drop];rw [←e1];congr 1;omega
  obtain ⟨b',c1,c2⟩:=gN _ _ hd
  exact ⟨b',by rw [Vr];exact c2,(aA.gA c1).1.trans e2⟩
 have Qh:∀blk,bf JK vG w' X0 blk→bf β' (aO++aN) w' X blk:=by
  rintro blk ⟨k1,k2,k3⟩
  refine ⟨k1,fun hX=>k2 (.inl hX),?_⟩
  intro i b hi hl
  rcases hinv i b hi with ⟨c1,c2,c3⟩|⟨j,b0,c1,c2,c3⟩
  ·rw [JL i c1 c2]
   exact fun he=>k2 (.inr ⟨i,b,c3,hl,c2,he⟩)
  rw [(A6 j i c3).1]
  exact k3 j b0 c1 ((aA.gA c2).2▸hl)
 have JM:jg w' w' (bf JK vG w' X0) (bf β' (aO++aN) w' X):=fun blk hb=>⟨Qh blk hb,rfl⟩
 have ex:Ext β bx w β' (aO++aN) w':=by
  refine ⟨sV.os,sV.tape,sV.output,sV.size,?_,sV.shape,?_,?_⟩
  ·intro k hk hl
   refine sV.block k hk ?_
   intro i b hi hlv
   obtain ⟨j,b',h3,h4,h5,_⟩:=uj i b hi hlv
   rw [←h5];exact hl j b' h3 h4
  ·intro i hi
   obtain ⟨b,wG,uI⟩:=hi
   have hil:=jz wG
   cases hc:dO i bY 0 with
   |some j=>
    obtain ⟨k1,k2⟩:=hm i j hc
    obtain ⟨c1,c2⟩:=sV.born j (k2 ⟨b,wG,uI⟩)
    have hbm:jW bY bx.length j=some i:=by simp [jW,hidx i j hc]
    exact ⟨by rw [Yz i j hc,c1,k1],(A6 j i hbm).2 c2⟩
   |none=>
    refine ⟨JL i hil hc,b,?_,uI⟩
    rw [Qg i hil]
    have:=gO i b wG
    rw [Nat.zero_add,hc] at this
    rcases this with ⟨_,_,_,c1,_⟩|⟨_,c2⟩
    ·cases c1
    exact c2
  intro i b hi hl
  rcases hinv i b hi with ⟨c1,c2,c3⟩|⟨j,b0,c1,c2,c3⟩
  ·exact .inr ⟨i,b,c3,hl,(JL i c1 c2).symm⟩
  rw [(A6 j i c3).1]
  rcases sV.live j b0 c1 ((aA.gA c2).2▸hl) with h1|⟨j',b',h1,h2,h3⟩
  ·exact .inl h1
  obtain ⟨j2,b2,e1,e2,e3,_⟩:=uj j' b' h1 h2
  exact .inr ⟨j2,b2,e1,e2,e3.trans h3⟩
 refine ⟨β',ex,cx.step ex ?_ ?_,?_⟩
 ·intro i b hi
  rcases hinv i b hi with ⟨c1,c2,c3⟩|⟨j,b0,c1,c2,c3⟩
  ·refine .inl ⟨c3,fun hl=>sV.block _ (hlt i b c3 hl) ?_⟩
   intro k b' hk hlk he
   obtain ⟨j,b2,h3,h4,h5,h6⟩:=uj k b' hk hlk
   have:j=i:=cx.inj j i b2 b h3 c3 h4 hl (h5.trans he)
   subst this
   rw [vD k j h6] at c2;cases c2
  refine .inr ?_
  have F9:=Tt.box j b0 c1
  rw [(A6 j i c3).1]
  cases b0 with
  |var cs=>
   simp only [aA.iF] at c2
   split at c2
   ·rename_i ys hys
    simp only [osI] at c2;subst c2
    simp only [dm] at F9 ⊢
    obtain ⟨c,e,g1,g2⟩:=F9
    exact ⟨c,e,g1,kX A6 Qh cs ys _ hys g2⟩
   simp at c2
  |row sz es=>
   simp only [aA.iF,osI] at c2;subst c2
   refine F9.imp id ?_
   rintro ⟨c,e,g1,g2⟩
   exact ⟨c,e,g1,ay.mono JM _ _ (fun _=>rfl) _ _ g2⟩
  |kP sz es=>
   simp only [aA.iF,osI] at c2;subst c2
   refine F9.imp id ?_
   rintro ⟨g1,g2⟩
   exact ⟨Qh _ g1,ay.mono JM _ _ (fun _=>rfl) _ _ g2⟩
  |it s p=>simp only [aA.iF,osI] at c2;subst c2;exact F9
  |mp ag es=>simp only [aA.iF,osI] at c2;subst c2;obtain ⟨ms,clock,h1,h2,h3⟩:=F9;exact ⟨ms,clock,h1,h2,aZ.mono JM _ _ _ h3⟩
  |dead=>simp only [aA.iF,osI] at c2;subst c2;trivial
  |bq=>simp only [aA.iF,osI] at c2;subst c2;trivial
 ·intro i j bi bj hi hj mT oQ he
  rcases hinv i bi hi with ⟨c1,c2,c3⟩|⟨i',b0,c1,c2,c3⟩<;>rcases hinv j bj hj with ⟨d1,d2,d3⟩|⟨j',b0',d1,d2,d3⟩
  ·rw [JL i c1 c2,JL j d1 d2] at he
   exact cx.inj i j bi bj c3 d3 mT oQ he
  ·rw [JL i c1 c2,(A6 j' j d3).1] at he
   exact absurd (.inr ⟨i,bi,c3,mT,c2,he⟩) (Tt.apart j' b0' d1 ((aA.gA d2).2▸oQ))
  ·rw [(A6 i' i c3).1,JL j d1 d2] at he
   exact absurd (.inr ⟨j,bj,d3,oQ,d2,he.symm⟩) (Tt.apart i' b0 c1 ((aA.gA c2).2▸mT))
  rw [(A6 i' i c3).1,(A6 j' j d3).1] at he
  have:=Tt.inj i' j' b0 b0' c1 d1 ((aA.gA c2).2▸mT) ((aA.gA d2).2▸oQ) he
  subst this
  rw [c3] at d3;exact Option.some.inj d3
 cases Wc with
 |ret v0=>
  simp only [iB.iF] at hr
  split at hr
  ·rename_i v hv
   simp only [osI] at hr;subst hr
   cases e with
   |returned u=>exact sH A6 Qh v0 v u hv hres
   |panicked ch=>exact hres.elim
   |outgrown=>exact hres.elim
  simp at hr
 |MK v0=>
  simp only [iB.iF] at hr
  split at hr
  ·rename_i v hv
   simp only [osI] at hr;subst hr
   cases e with
   |returned u=>exact hres.elim
   |panicked ch=>
    obtain ⟨u,k1,k2⟩:=hres
    exact ⟨u,k1,sH A6 Qh v0 v u hv k2⟩
   |outgrown=>exact hres.elim
  simp at hr
end
end Dem
end
section
open Go
namespace Dem
theorem aE {s:St} {P:St→Prop} (h:P s):LoopIn (some s) P:=⟨h⟩
def YA (bx:List aA):List (Nat×aA)→List aA
 |[]=>bx
 |(i,b)::r=>YA (bx.set i b) r
def YC (sl:List (Nat×AV)):List (Nat×AV)→List (Nat×AV)
 |[]=>sl
 |(i,v)::r=>YC (put i v sl) r
def M8 (s:St) (u:List (Nat×AV)) (b:List (Nat×aA)):St:=⟨YC s.sl u,YA s.bx b⟩
theorem bA {K:Nat} {A:(Ex→St→Prop)→St→Prop} {Q:Ex→St→Prop} {s:St} (nf:Nf) {σ:Type} (U:σ→List (Nat×AV)) (V:σ→List (Nat×aA)) (J:Nat→σ→Prop)
 (h:qT (qR (vC s nf.os) nf.ob) (LoopIn (yD K nf s) fun s0=>∃n0 v0,J n0 v0∧s0=M8 s0 (U v0) (V v0)∧
  ∀n v,J n v→A (fun e s2=>uM (fun s2=>qT (qR (vC s2 nf.os) nf.ob) (LoopIn (yD K nf s2) (fun s3=>∃m v',(m<n∧J m v')∧s3=M8 s0 (U v') (V v')))) Q e s2) (M8 s0 (U v) (V v)))):Vq K A Q s:=by
 obtain ⟨hC,⟨h⟩⟩:=h.ok
 split at h
 ·rename_i s0 hn
  obtain ⟨n0,v0,hJ,hs,hr⟩:=h
  refine ⟨nf,fun n s1=>∃v,J n v∧s1=M8 s0 (U v) (V v),n0,qT.mk hC ⟨?_⟩,?_⟩
  ·rw [hn];exact ⟨v0,hJ,hs⟩
  rintro n s1 ⟨v,hv,rfl⟩
  have e:(fun e s2=>uM (fun s2=>qT (qR (vC s2 nf.os) nf.ob) (LoopIn (yD K nf s2) (fun s3=>∃m v',(m<n∧J m v')∧s3=M8 s0 (U v') (V v')))) Q e s2)=
   (fun e s2=>uM (fun s2=>qT (qR (vC s2 nf.os) nf.ob) (LoopIn (yD K nf s2) (fun s3=>∃m,m<n∧∃v,J m v∧s3=M8 s0 (U v) (V v)))) Q e s2):=by
   funext e s2
   congr 1
   funext s2
   congr 2
   funext s3
   apply propext
   constructor
   ·rintro ⟨m,v',⟨h1,h2⟩,h3⟩;exact ⟨m,h1,v',h2,h3⟩
   rintro ⟨m,h1,v',h2,h3⟩;exact ⟨m,v',⟨h1,h2⟩,h3⟩
  rw [←e];exact hr n v hv
 exact h.elim
theorem ap {p:Bool} {A B:Unit→Prop} (h1:p=true→A ()) (h2:p=false→B ()):wH (.d (.bool p)) A B:=.mk (And.intro h1 h2)
theorem lA {p:Bool} {A B:Unit→Prop} (hp:p=true) (h1:A ()):wH (.d (.bool p)) A B:=.mk (And.intro (fun _=>h1) (fun h=>by rw [hp] at h;cases h))
theorem pX {p:Bool} {A B:Unit→Prop} (hp:p=false) (h1:B ()):wH (.d (.bool p)) A B:=.mk (And.intro (fun h=>by rw [hp] at h;cases h) (fun _=>h1))
theorem ix {g:Bool} {c:Prop} {ds:List D} {K:List D→Prop} (ds':List D) (hc:c) (hd:ds=ds') (hK:K ds'):nK g c ds K:=⟨ds',fun _=>⟨hc,hd⟩,hK⟩
theorem Qi {g:Bool} {c:Prop} {ds:List D} {K:List D→Prop} (ds':List D) (hc:c) (hd:ds=ds') (hK:K ds'):AX g c ds K:=⟨ds',fun _=>⟨hc,hd⟩,hK⟩
theorem Tu {g:Bool} {c:Prop} {ds:List D} {K:List D→Prop} (ds':List D) (h:g=true→c∧ds=ds') (hK:K ds'):nK g c ds K:=⟨ds',h,hK⟩
theorem We {g:Bool} {c:Prop} {ds:List D} {K:List D→Prop} (ds':List D) (h:g=true→c∧ds=ds') (hK:K ds'):AX g c ds K:=⟨ds',h,hK⟩
theorem bF {c:Prop} {v:AV} {bx:List aA} {K:AV→List aA→Prop} (v':AV) (aL:List aA) (hc:c) (hv:v=v') (hb:bx=aL) (hK:K v' aL):P4 c v bx K:=⟨v',aL,hc,hv,hb,hK⟩
theorem iy {g:Bool} {c:Prop} {v:AV} {K:AV→Prop} (v':AV) (h:g=true→c∧v=v') (hK:K v'):Vj g c v K:=⟨v',h,hK⟩
theorem gI {g:Bool} {p K:Prop} (h:g=true→p) (k:K):wY g p∧K:=⟨⟨h⟩,k⟩
theorem pI {p:Bool} {a b K:Prop} (h:(p=true→a)∧(p=false→b)) (k:K):LS p a b∧K:=⟨⟨h⟩,k⟩
section
variable {P:Program} {G:Nat→Option (List D)} {FC:Nat→List AV→List aA→iB→List aA→Prop} {jV:Prop} {f:Nat} {args args':List AV} {c:Prop} {bx qp qq:List aA} {v:AV} {K Kp:AV→List aA→Prop}
theorem gF (ho:jV) (h:FC f args' [] (.ret v) []) (hc:c) (hs:AV.shut.lu args'=true) (hf:v.flat=true) (hK:K v bx):m8 FC jV f args (some (c,args')) bx K Kp:=
 ⟨ho,.inl ⟨c,args',rfl,hc,hs,.inl ⟨v,h,.inl hf,hK⟩⟩⟩
theorem L0 (ho:jV) (h:FC f args' [] (.ret v) []) (hc:c) (hs:AV.shut.lu args'=true) (hz:eS [] args=some args') (hv:v.shut=true) (hK:K v bx):m8 FC jV f args (some (c,args')) bx K Kp:=
 ⟨ho,.inl ⟨c,args',rfl,hc,hs,.inl ⟨v,h,.inr ⟨hz,hv⟩,hK⟩⟩⟩
theorem jY {sz n:Nat} {es:List (List D)} (ho:jV) (h:FC f args' [] (.ret (.ow 0 sz n)) [.row sz es]) (hc:c) (hs:AV.shut.lu args'=true) (hz:(∀r∈es,∀x∈r,x.flat=true)∨eS [] args=some args') (hK:K (.ow bx.length sz n) (bx++[.row sz es])):m8 FC jV f args (some (c,args')) bx K Kp:=
 ⟨ho,.inl ⟨c,args',rfl,hc,hs,.inr ⟨sz,n,es,h,hz,hK⟩⟩⟩
theorem Vs {fz:Option (Prop×List AV)} (ho:jV) (hfz:fz=some (c,args')) (hc:c) (h:FC f args' (fy bx args) (.ret v) qq) (hK:K v qq):m8 FC jV f args fz bx K Kp:=
 ⟨ho,.inr ⟨args',fy bx args,.ret v,qq,.inr ⟨⟨c,hfz,hc⟩,rfl⟩,h,hK⟩⟩
theorem dx {fz:Option (Prop×List AV)} (ho:jV) (h:FC f args bx (.ret v) qq) (hK:K v qq):m8 FC jV f args fz bx K Kp:=
 ⟨ho,.inr ⟨args,bx,.ret v,qq,.inl ⟨rfl,rfl⟩,h,hK⟩⟩
theorem G8 {dr g:Bool} {v:AV} {K:AV→Prop} (h:g=true→jV∧c∧FC f args' [] (.ret v) []) (hs:AV.bL.cW [] args'=true) (hf:v.flat=true) (hK:K v):oX FC dr g jV f args bx (some (c,args')) K:=
 ⟨.inr ⟨v,fun hg=>⟨(h hg).1,args',[],⟨c,rfl,(h hg).2.1⟩,hs,⟨false,rfl,fun h=>by cases h⟩,by simp,(h hg).2.2,.inl hf⟩,hK⟩⟩
theorem nD {dr g:Bool} {v:AV} {K:AV→Prop} (h:g=true→jV∧c∧FC f args' [] (.ret v) []) (hs:AV.bL.cW [] args'=true) (hz:eS [] args=some args') (hf:v.shut=true) (hK:K v):oX FC dr g jV f args bx (some (c,args')) K:=
 ⟨.inr ⟨v,fun hg=>⟨(h hg).1,args',[],⟨c,rfl,(h hg).2.1⟩,hs,⟨false,rfl,fun h=>by cases h⟩,by simp,(h hg).2.2,.inr ⟨hz,hf⟩⟩,hK⟩⟩
theorem Wf {P:Program} {G:Nat→Option (List D)} {dr g:Bool} {v:AV} {K:AV→Prop} {jX:List AV} {bz:List aA} (ks:List Bool) (bY:List Nat) (ho:g=true→jV∧c∧bt P G f jX bz (.ret v) bz)
 (hn:AV.bL.cW (kill ks bx) args'=true) (hl:dS false (kill ks bx) (kill ks bx)=true) (hv:v.flat=true∨eS [] args=some args'∧v.shut=true)
 (ha:AV.vB (fun b=>dO b bY 0) args'=some jX) (hb:fQ (fun b=>dO b bY 0) (kill ks bx) bY=some bz) (hb':A5 bY (kill ks bx) bz=some (kill ks bx)) (hr:iB.iF (jW bY (kill ks bx).length) (.ret v)=some (.ret v))
 (hK:K v):oX (bt P G) dr g jV f args bx (some (c,args')) K:=by
 refine ⟨.inr ⟨v,fun hg=>⟨(ho hg).1,args',kill ks bx,⟨c,rfl,(ho hg).2.1⟩,hn,⟨false,hl,fun h=>by cases h⟩,?_,cR bY ha hb hr hb' (ho hg).2.2,hv⟩,hK⟩⟩
 intro i b hi dH
 obtain ⟨b0,h1,h2⟩:=kU ks bx i b hi
 rcases h2 with rfl|⟨rfl,h3⟩
 ·exact ⟨_,h1,dH,fun _=>rfl⟩
 exact ⟨b0,h1,h3,fun h=>by simp [aA.live] at h⟩
theorem Tv {P:Program} {G:Nat→Option (List D)} {dr g:Bool} {v:AV} {K:AV→Prop} {jX:List AV} {bz:List aA} (ks:List Bool) (bY:List Nat) (ho:g=true→jV∧c∧bt P G f jX bz (.ret v) bz)
 (hn:AV.bL.cW (kill ks bx) args'=true) (hz:eS [] args=some args') (hl:dS true (kill ks bx) (kill ks bx)=true) (hv:v.flat=true∨eS [] args=some args'∧v.shut=true)
 (ha:AV.vB (fun b=>dO b bY 0) args'=some jX) (hb:fQ (fun b=>dO b bY 0) (kill ks bx) bY=some bz) (hb':A5 bY (kill ks bx) bz=some (kill ks bx)) (hr:iB.iF (jW bY (kill ks bx).length) (.ret v)=some (.ret v))
 (hK:K v):oX (bt P G) dr g jV f args bx (some (c,args')) K:=by
 refine ⟨.inr ⟨v,fun hg=>⟨(ho hg).1,args',kill ks bx,⟨c,rfl,(ho hg).2.1⟩,hn,⟨true,hl,fun _=>hz⟩,?_,cR bY ha hb hr hb' (ho hg).2.2,hv⟩,hK⟩⟩
 intro i b hi dH
 obtain ⟨b0,h1,h2⟩:=kU ks bx i b hi
 rcases h2 with rfl|⟨rfl,h3⟩
 ·exact ⟨_,h1,dH,fun _=>rfl⟩
 exact ⟨b0,h1,h3,fun h=>by simp [aA.live] at h⟩
theorem Wg {P:Program} {G:Nat→Option (List D)} {g:Bool} {v:AV} {K:AV→Prop} {fz:Option (Prop×List AV)} {jX:List AV} {bz:List aA} (bY:List Nat) (ho:g=true→jV∧bt P G f jX bz (.ret v) bz)
 (ha:AV.vB (fun b=>dO b bY 0) args=some jX) (hb:fQ (fun b=>dO b bY 0) bx bY=some bz) (hb':A5 bY bx bz=some bx) (hr:iB.iF (jW bY bx.length) (.ret v)=some (.ret v))
 (hK:K v):oX (bt P G) false g jV f args bx fz K:=
 ⟨.inl ⟨rfl,v,fun hg=>⟨(ho hg).1,cR bY ha hb hr hb' (ho hg).2⟩,hK⟩⟩
theorem G9 {x sz n:Nat} {es:List (List D)} {at_:Option aA} {K:AV→aA→Prop} (ho:jV) (h:FC f args' [] (.ret (.ow 0 sz n)) [.row sz es]) (hc:c) (hs:AV.shut.lu args'=true) (hz:(∀r∈es,∀x∈r,x.flat=true)∨eS [] args=some args') (hat:at_=some .bq)
 (hK:K (.ow x sz n) (.row sz es)):Vk FC jV f args (some (c,args')) at_ x K:=⟨args',sz,n,es,ho,⟨c,rfl,hc⟩,hs,h,hz,hat,hK⟩
structure Qj (r:Option iB) (b:Option (List aA)) (K:AV→List aA→Prop):Prop where
 ok:match r,b with
  |some (.ret v),some bx=>K v bx
  |_,_=>False
theorem cA {v:AV} {bx:List aA} {K:AV→List aA→Prop} (h:K v bx):Qj (some (.ret v)) (some bx) K:=⟨h⟩
theorem dJ {fz:Option (Prop×List AV)} (bY:List Nat) {jX:List AV} {bz vG:List aA} {v0:AV} (ho:jV)
 (ha:AV.vB (fun b=>dO b bY 0) args=some jX) (hb:fQ (fun b=>dO b bY 0) bx bY=some bz) (h:bt P G f jX bz (.ret v0) vG)
 (hK:Qj (iB.iF (jW bY bx.length) (.ret v0)) (A5 bY bx vG) K):m8 (bt P G) jV f args fz bx K Kp:=by
 obtain ⟨hK⟩:=hK
 split at hK
 ·rename_i v aL hr hb'
  exact dx ho (cR bY ha hb hr hb' h) hK
 exact hK.elim
end
section
variable {n:Nat} {c d:Prop} {v u:AV} {bx aL:List aA} {res:iB} {fz:Option (Prop×AV)}
theorem lQ (hc:c) (hd:d) (hw:u.within n=true) (hb:aL=(tg bx v).take n) (Tw:bX n aL=true) (hr:res=.ret u):EI n c v bx (some (d,u)) res aL:=
 ⟨hc,.inr (.inl ⟨[],d,u,rfl,hd,hw,hb,Tw,hr⟩)⟩
theorem zw (ks:List Bool) (hc:c) (hd:d) (hw:u.within n=true) (hb:aL=(kill ks (tg bx v)).take n) (Tw:bX n aL=true) (hr:res=.ret u):EI n c v bx (some (d,u)) res aL:=
 ⟨hc,.inr (.inl ⟨ks,d,u,rfl,hd,hw,hb,Tw,hr⟩)⟩
theorem JN (hc:c) (hb:aL=bx) (hr:res=.ret v):EI n c v bx fz res aL:=⟨hc,.inl ⟨hr,hb⟩⟩
theorem CD {k sz m:Nat} {es:List (List D)} (hc:c) (hk:bx[k]?=some (.row sz es)) (h1:Nat.ble n k=true) (h2:Nat.ble n bx.length=true) (Tw:bX n (bx.take n)=true) (hr:res=.ret (.ow n sz m)) (hb:aL=bx.take n++[.row sz es]):EI n c (.ow k sz m) bx fz res aL:=
 ⟨hc,.inr (.inr (.inl ⟨k,sz,m,es,rfl,hk,Nat.le_of_ble_eq_true h1,Nat.le_of_ble_eq_true h2,Tw,hr,hb⟩))⟩
theorem He {sz:Nat} (hc:c) (h2:Nat.ble n bx.length=true) (Tw:bX n (bx.take n)=true) (hr:res=.ret (.ow n sz 0)) (hb:aL=bx.take n++[.row sz []]):EI n c (.cl []) bx fz res aL:=
 ⟨hc,.inr (.inr (.inr ⟨sz,rfl,Nat.le_of_ble_eq_true h2,Tw,hr,hb⟩))⟩
end
theorem dX {P:Program} {G:Nat→Option (List D)} {f b sz n:Nat} {args:List AV} {bx aL:List aA} {res:iB}
 (h:∀c,n≤c→(n=0→c=0)→bt P G f (.vw b sz 0 n c true::args) bx res aL):bt P G f (.ow b sz n::args) bx res aL:=by
 intro β w vs X cx hx
 simp only [ak] at hx
 obtain ⟨u,us,rfl,hx,hxs⟩:=hx
 simp only [aj] at hx
 obtain ⟨hb,⟨rfl,base,rfl⟩|⟨h0,cap,c,e,f',rfl,h1,h2,h3⟩⟩:=hx
 ·refine h 0 (Nat.le_refl _) (fun _=>rfl) β w _ X cx ?_
  simp only [ak,aj]
  exact ⟨_,us,rfl,⟨hb,base,0,#[],0,(0,0),rfl,Nat.le_refl _,Nat.le_refl _,fun _=>rfl,.inl rfl⟩,hxs⟩
 refine h cap h1 (fun h=>absurd h h0) β w _ X cx ?_
 simp only [ak,aj]
 exact ⟨_,us,rfl,⟨hb,_,cap,c,e,f',rfl,h1,Nat.le_refl _,fun _=>rfl,.inr ⟨by simp,h2,by simpa using h3⟩⟩,hxs⟩
theorem wrap64 {x:Int} (h0:-9223372036854775808≤x) (h1:x<9223372036854775808):IntKind.i64.wrap x=x:=by
 simp [IntKind.wrap,IntKind.signed,IntKind.bits];omega
end Dem
end
section
open Go
namespace Dem
def qU:AV:=.d (.int .u64 0)
def qI:AV:=.d (.int .i64 0)
def qS:AV:=.d (.str [])
def qF:AV:=.d (.bool false)
def qY:AV:=.d (.int .u8 0)
def qC:AV:=.cl []
def qf:Option TI:=some ⟨1,8,.other,.k .nilFunc,true,none⟩
def xe:Option TI:=some ⟨1,0,.other,.any,true,none⟩
def Vt:Option TI:=some ⟨1,8,.other,.k .oF,true,none⟩
def YD:Option TI:=some ⟨1,16,.iface,.k .nilIface,true,none⟩
def wT4:Option TI:=some ⟨1,8,.int .i64,qI,true,none⟩
def wT5:Option TI:=some ⟨1,1,.int .u8,qY,true,none⟩
def wT6:Option TI:=some ⟨1,8,.int .u64,qU,true,none⟩
def wT7:Option TI:=some ⟨1,16,.str,qS,true,none⟩
def wT8:Option TI:=some ⟨1,4,.int .i32,.d (.int .i32 0),true,none⟩
def wT9:Option TI:=some ⟨5,5,.struct [(0,5),(1,5),(2,5),(3,5),(4,5)],.agg [qY,qY,qY,qY,qY],true,none⟩
def YE:Option TI:=some ⟨4,24,.struct [(0,2),(1,3),(2,4),(3,6)],.agg [qI,qI,qF,qY],true,none⟩
def YF:Option TI:=some ⟨2,24,.struct [(0,9),(1,12)],.agg [qS,qU],false,none⟩
def YH:Option TI:=some ⟨1,8,.struct [(0,17)],.agg [.k .oF],false,none⟩
def YI:Option TI:=some ⟨2,48,.struct [(0,25),(1,26)],.agg [qC,qC],true,none⟩
def YJ:Option TI:=some ⟨1,24,.slice 139,qC,true,none⟩
def YK:Option TI:=some ⟨2,32,.struct [(0,24),(1,32)],.agg [qU,qC],true,none⟩
def YL:Option TI:=some ⟨11,200,.struct [(0,24),(1,24),(2,28),(4,29),(5,30),(6,31),(7,34),(9,34)],.agg [qU,qU,qC,qC,qC,qC,qC,qU,qC,qU,qC],true,none⟩
def YM:Option TI:=some ⟨4,32,.array 4 24,.agg [qU,qU,qU,qU],true,none⟩
def YN:Option TI:=some ⟨9,96,.struct [(0,9),(1,40),(5,3),(6,3),(7,3),(8,41)],.agg [qS,qU,qU,qU,qU,qI,qI,qI,qC],true,none⟩
def YO:Option TI:=some ⟨12,120,.struct [(0,24),(1,43),(10,4),(11,3)],.agg [qU,qS,qU,qU,qU,qU,qI,qI,qI,qC,qF,qI],true,none⟩
def YP:Option TI:=some ⟨2,16,.struct [(0,24),(1,3)],.agg [qU,qI],true,none⟩
def YQ:Option TI:=some ⟨7,80,.struct [(0,9),(1,40),(5,73),(6,4)],.agg [qS,qU,qU,qU,qU,qC,qF],true,none⟩
def YR:Option TI:=some ⟨12,208,.struct [(0,36),(11,3)],.agg [qU,qU,qC,qC,qC,qC,qC,qU,qC,qU,qC,qI],true,none⟩
def YS:Option TI:=some ⟨6,56,.struct [(0,24),(1,9),(2,40)],.agg [qU,qS,qU,qU,qU,qU],true,none⟩
def YT:Option TI:=some ⟨11,200,.struct [(0,36)],.agg [qU,qU,qC,qC,qC,qC,qC,qU,qC,qU,qC],true,none⟩
def YU:Option TI:=some ⟨9,80,.struct [(0,9),(1,40),(5,40)],.agg [qS,qU,qU,qU,qU,qU,qU,qU,qU],true,none⟩
def YV:Option TI:=some ⟨2,32,.struct [(0,9),(1,9)],.agg [qS,qS],true,none⟩
def YW:Option TI:=some ⟨4,32,.struct [(0,40)],.agg [qU,qU,qU,qU],true,none⟩
def YX:Option TI:=some ⟨3,24,.struct [(0,24),(1,24),(2,3)],.agg [qU,qU,qI],true,none⟩
def YY:Option TI:=some ⟨1,8,.struct [(0,188)],.agg [.k .nilFunc],true,none⟩
def YZ:Option TI:=some ⟨6,72,.struct [(0,9),(1,40),(5,73)],.agg [qS,qU,qU,qU,qU,qC],true,none⟩
def Y0:Option TI:=some ⟨2,8,.struct [(0,21),(1,21)],.agg [.d (.int .i32 0),.d (.int .i32 0)],true,none⟩
def Y1:Option TI:=some ⟨2,32,.struct [(0,274),(1,275)],.agg [.k .oF,qC],true,none⟩
def Y2:Option TI:=some ⟨2,2,.struct [(0,5),(1,5)],.agg [qY,qY],true,none⟩
def Y3:Option TI:=some ⟨4,40,.struct [(0,17),(1,17),(2,17),(3,9)],.agg [.k .oF,.k .oF,.k .oF,qS],false,none⟩
def Y4:Option TI:=some ⟨0,0,.struct [(0,327)],.agg [],false,none⟩
def Y5:Option TI:=some ⟨11,48,.struct [(0,12),(1,12),(2,297),(3,330),(4,5),(5,5),(6,331),(7,332),(8,299),(9,333),(10,334)],.agg [qU,qU,.d (.int .u32 0),qY,qY,qY,qY,.k .nilFunc,.k .oF,.d (.int .i32 0),.d (.int .i32 0)],false,none⟩
def aa3 (t:Nat):Option TI:=(if t<9 then (if t<5 then if t=0 then xe else if t=2 then wT4 else if t=3 then wT4 else if t=4 then some ⟨1,1,.bool,qF,true,none⟩ else qf else if t=5 then wT5 else if t=6 then wT5 else if t=7 then YE else if t=8 then YE else qf) else (if t<13 then if t=9 then wT7 else if t=10 then wT7 else if t=11 then wT7 else if t=12 then wT6 else qf else if t=13 then YF else if t=14 then YF else if t=15 then Vt else if t=16 then Vt else qf))
def aa4 (t:Nat):Option TI:=(if t<26 then (if t<21 then if t=17 then Vt else if t=18 then YH else if t=19 then YH else if t=20 then YD else qf else if t=21 then wT8 else if t=22 then some ⟨1,24,.slice 85,qC,true,none⟩ else if t=24 then wT6 else if t=25 then some ⟨1,24,.slice 75,qC,true,none⟩ else qf) else (if t<30 then if t=26 then some ⟨1,24,.slice 118,qC,true,none⟩ else if t=27 then YI else if t=28 then YI else if t=29 then YJ else qf else if t=30 then some ⟨1,24,.slice 45,qC,true,none⟩ else if t=31 then some ⟨1,24,.slice 69,qC,true,none⟩ else if t=32 then some ⟨1,24,.slice 170,qC,true,none⟩ else if t=33 then YK else qf))
def aa5 (t:Nat):Option TI:=(if t<44 then (if t<40 then if t=34 then YK else if t=35 then YL else if t=36 then YL else if t=39 then YM else qf else if t=40 then YM else if t=41 then some ⟨1,24,.slice 122,qC,true,none⟩ else if t=42 then YN else if t=43 then YN else qf) else (if t<51 then if t=44 then YO else if t=45 then YO else if t=46 then xe else if t=48 then some ⟨1,24,.slice 24,qC,true,none⟩ else qf else if t=51 then some ⟨1,24,.slice 9,qC,true,none⟩ else if t=52 then xe else if t=54 then xe else if t=60 then wT4 else qf))
def aa6 (t:Nat):Option TI:=(if t<76 then (if t<69 then if t=61 then xe else if t=63 then some ⟨1,24,.slice 109,qC,true,none⟩ else if t=66 then xe else if t=68 then YP else qf else if t=69 then YP else if t=73 then some ⟨1,24,.slice 147,qC,true,none⟩ else if t=74 then YQ else if t=75 then YQ else qf) else (if t<105 then if t=76 then xe else if t=84 then wT9 else if t=85 then wT9 else if t=99 then xe else qf else if t=105 then xe else if t=109 then wT9 else if t=112 then YR else if t=113 then YR else qf))
def aa7 (t:Nat):Option TI:=(if t<131 then (if t<122 then if t=116 then xe else if t=117 then YS else if t=118 then YS else if t=121 then some ⟨3,48,.struct [(0,9),(1,4),(2,51)],.agg [qS,qF,qC],true,none⟩ else qf else if t=122 then some ⟨3,48,.struct [(0,9),(1,4),(2,51)],.agg [qS,qF,qC],true,some ("demesne/sel.holds",76)⟩ else if t=125 then xe else if t=127 then xe else if t=130 then YT else qf) else (if t<144 then if t=131 then YT else if t=138 then YU else if t=139 then YU else if t=141 then xe else qf else if t=144 then xe else if t=146 then YV else if t=147 then YV else if t=151 then some ⟨1,24,.slice 209,qC,true,none⟩ else qf))
def aa8 (t:Nat):Option TI:=(if t<176 then (if t<164 then if t=153 then xe else if t=157 then some ⟨1,24,.slice 3,qC,true,none⟩ else if t=160 then YJ else if t=163 then YW else qf else if t=164 then YW else if t=169 then YX else if t=170 then YX else if t=174 then xe else qf) else (if t<199 then if t=176 then YD else if t=177 then YD else if t=192 then some ⟨1,8,.map 24 3,.k .Ec,true,none⟩ else if t=198 then YY else qf else if t=199 then YY else if t=206 then xe else if t=208 then YZ else if t=209 then YZ else qf))
def aa9 (t:Nat):Option TI:=(if t<236 then (if t<230 then if t=220 then xe else if t=226 then some ⟨0,0,.struct [],.agg [],true,none⟩ else if t=227 then some ⟨0,0,.struct [],.agg [],true,some ("demesne/sel.holds",290)⟩ else if t=228 then some ⟨1,24,.slice 9,qC,true,some ("demesne/sel.holds",291)⟩ else qf else if t=230 then xe else if t=233 then some ⟨1,24,.slice 235,qC,true,none⟩ else if t=234 then Y0 else if t=235 then Y0 else qf) else (if t<259 then if t=236 then some ⟨6,24,.array 3 235,.agg [.d (.int .i32 0),.d (.int .i32 0),.d (.int .i32 0),.d (.int .i32 0),.d (.int .i32 0),.d (.int .i32 0)],true,none⟩ else if t=237 then some ⟨4,16,.array 2 235,.agg [.d (.int .i32 0),.d (.int .i32 0),.d (.int .i32 0),.d (.int .i32 0)],true,none⟩ else if t=242 then xe else if t=256 then wT6 else qf else if t=259 then xe else if t=274 then Vt else if t=275 then some ⟨1,24,.slice 5,qC,true,none⟩ else if t=276 then Y1 else qf))
def aba (t:Nat):Option TI:=(if t<299 then (if t<288 then if t=277 then Y1 else if t=279 then YD else if t=280 then YD else if t=281 then xe else qf else if t=288 then wT4 else if t=289 then xe else if t=294 then xe else if t=297 then some ⟨1,4,.int .u32,.d (.int .u32 0),true,none⟩ else qf) else (if t<312 then if t=299 then Vt else if t=300 then wT6 else if t=304 then Vt else if t=309 then Vt else qf else if t=312 then Vt else if t=313 then xe else if t=315 then xe else if t=319 then some ⟨256,256,.array 256 5,.agg [qY,qY,qY,qY,qY,qY,qY,qY,qY,qY,qY,qY,qY,qY,qY,qY,qY,qY,qY,qY,qY,qY,qY,qY,qY,qY,qY,qY,qY,qY,qY,qY,qY,qY,qY,qY,qY,qY,qY,qY,qY,qY,qY,qY,qY,qY,qY,qY,qY,qY,qY,qY,qY,qY,qY,qY,qY,qY,qY,qY,qY,qY,qY,qY,qY,qY,qY,qY,qY,qY,qY,qY,qY,qY,qY,qY,qY,qY,qY,qY,qY,qY,qY,qY,qY,qY,qY,qY,qY,qY,qY,qY,qY,qY,qY,qY,qY,qY,qY,qY,qY,qY,qY,qY,qY,qY,qY,qY,qY,qY,qY,qY,qY,qY,qY,qY,qY,qY,qY,qY,qY,qY,qY,qY,qY,qY,qY,qY,qY,qY,qY,qY,qY,qY,qY,qY,qY,qY,qY,qY,qY,qY,qY,qY,qY,qY,qY,qY,qY,qY,qY,qY,qY,qY,qY,qY,qY,qY,qY,qY,qY,qY,qY,qY,qY,qY,qY,qY,qY,qY,qY,qY,qY,qY,qY,qY,qY,qY,qY,qY,qY,qY,qY,qY,qY,qY,qY,qY,qY,qY,qY,qY,qY,qY,qY,qY,qY,qY,qY,qY,qY,qY,qY,qY,qY,qY,qY,qY,qY,qY,qY,qY,qY,qY,qY,qY,qY,qY,qY,qY,qY,qY,qY,qY,qY,qY,qY,qY,qY,qY,qY,qY,qY,qY,qY,qY,qY,qY,qY,qY,qY,qY,qY,qY,qY,qY,qY,qY,qY,qY,qY,qY,qY,qY,qY,qY],true,none⟩ else qf))
def abb (t:Nat):Option TI:=(if t<328 then (if t<323 then if t=320 then Y2 else if t=321 then Y2 else if t=322 then some ⟨32,32,.array 16 321,.agg [qY,qY,qY,qY,qY,qY,qY,qY,qY,qY,qY,qY,qY,qY,qY,qY,qY,qY,qY,qY,qY,qY,qY,qY,qY,qY,qY,qY,qY,qY,qY,qY],true,none⟩ else qf else if t=323 then xe else if t=325 then Y3 else if t=326 then Y3 else if t=327 then some ⟨0,0,.array 0 16,.agg [],true,none⟩ else qf) else (if t<333 then if t=328 then Y4 else if t=329 then Y4 else if t=330 then wT5 else if t=331 then wT5 else qf else if t=333 then wT8 else if t=334 then wT8 else if t=335 then Y5 else if t=336 then Y5 else qf))
def tb (t:Nat):Option TI:=(if t<116 then (if t<34 then (if t<17 then aa3 t else aa4 t) else (if t<61 then aa5 t else aa6 t)) else (if t<220 then (if t<153 then aa7 t else aa8 t) else (if t<277 then aa9 t else (if t<320 then aba t else abb t))))
def tT (t:Nat):Option TI:=if t<339 then tb t else none
theorem Y6:(List.range 339).map (qc Go.Proofs.Tryz.prog)=(List.range 339).map tb:=by kernel_rfl
def Qk:Bool:=(List.range 339).all fun t=>match tb t with
 |some ti=>match ti.kd with
  |.struct fs=>fs.all fun f=>(tT f.2).isSome
  |_=>true
 |none=>true
theorem Hf:Qk=true:=by kernel_rfl
theorem Ql:kH Go.Proofs.Tryz.prog tT:=by
 refine ⟨?_,?_,?_⟩
 ·intro t ti h
  unfold tT at h
  split at h
  ·rename_i ht'
   have e:=congrArg (fun l=>l[t]?) Y6
   simp only [List.getElem?_map,List.getElem?_range ht',Option.map_some,osI] at e
   rw [e,h]
  cases h
 ·intro t ti fs h hk f hf
  unfold tT at h
  split at h
  ·rename_i ht'
   have hall:=List.all_eq_true.1 Hf t (by simp [ht'])
   simp only [h,hk] at hall
   have:=List.all_eq_true.1 hall f hf
   exact Option.isSome_iff_exists.1 this
  cases h
 exact Nat.le_of_ble_eq_true (by kernel_rfl)
def gl (g:Nat):Option (List D):=
 bif Nat.beq g 0 then some [.int .i32 97,.int .i32 122,.int .i32 945,.int .i32 969,.int .i32 1072,.int .i32 1103] else
 bif Nat.beq g 1 then some [.int .i32 48,.int .i32 57,.int .i32 45,.int .i32 45] else none
def FC:Nat→List AV→List aA→iB→List aA→Prop:=bt Go.Proofs.Tryz.prog gl
theorem xg:qG Go.Proofs.Tryz.prog tT gl:=Tb Ql (by kernel_rfl)
theorem Hg (tS tR:TypeId) (a:Addr) (ba:Option Addr) (la ca lb cb:Nat):∃(m:String) (ch:Sem Nat),
 Extern.SlicesOverlaps.overlaps #[tS,tS] #[tR] #[.slice (some a) la ca,.slice ba lb cb]=(do
 let .slice elem ←underlying tS|stuck m
 let size ←Go.sizeOf elem
 match ba with
 |some b=>
  if la=0∨lb=0∨size=0 then pure (Value.bool false)
  else if a.block !=b.block&&(←frozen a)&&(←frozen b) then unsupported .addressObserved
  else do
   if a.block !=b.block then do
    noView a;noView b
    if ←mayBeOne a b then return Value.bool ((←ch)==1)
   pure (Value.bool (a.block==b.block&&a.off<b.off+lb*size&&b.off<a.off+la*size))
 |none=>pure (Value.bool false)):=by
 apply Exists.intro
 apply Exists.intro
 cases ba with
 |some b=>rfl
 |none=>rfl
theorem xj {P:Program} (w:World) (tS tR e:TypeId) (ht:P.underlying tS=some (.slice e)) {size:Nat} (hz:∀w,(Go.sizeOf e).run P w=.ok size w)
 (a:Addr) (ba:Option Addr) (la ca lb cb:Nat) {tA:TypeId} {kA:Nat} (Y7:w.shape? a.block=some (tA,kA)) (hkA:kA≠0)
 (hb:lb=0∨∃b c e',ba=some b∧b.spot=none∧a.block≠b.block∧w.heap[b.block]?=some (.cells c e' (0,0))):
 (Extern.SlicesOverlaps.overlaps #[tS,tS] #[tR] #[.slice (some a) la ca,.slice ba lb cb]).run P w=.ok (.bool false) w:=by
 have kZ:(underlying tS).run P w=.ok (.slice e) w:=aQ ht
 obtain ⟨m,ch,e⟩:=Hg tS tR a ba la ca lb cb
 rw [e]
 clear e
 cases ba with
 |none=>simp [kZ,hz]
 |some b=>
 by_cases h0:la=0∨lb=0∨size=0
 ·simp [kZ,hz,h0]
 rcases hb with hb|⟨b',c,e',hbe,hsp,hne,hh⟩
 ·exact absurd (.inr (.inl hb)) h0
 simp only [osI] at hbe;subst hbe
 have hnb:(a.block !=b.block)=true:=by simpa using hne
 have abd:(a.block==b.block)=false:=by simpa using hne
 have Ja:w.shape? b.block=some (e',c.size):=by simp [World.shape?,hh]
 have hf:∀off sp,w.frozen? {block:=b.block,off:=off,spot:=sp}=false:=by intro off sp;simp [World.frozen?,hh]
 have hfb:w.frozen? b=false:=hf _ _
 cases kA with
 |zero=>exact absurd rfl hkA
 |succ kA=>
 cases h1:w.frozen? a<;>cases h2:w.frozen? {block:=a.block,off:=kA+1}<;>
  simp [kZ,hz,h0,hnb,abd,frozen,noView,Go.viewAt,mayBeOne,stringish,shape,Sem.run,Y7,Ja,hfb,hf,h1,h2]
theorem iG {P:Program} {G:Nat→Option (List D)} {T:Nat→Option TI} (hT:kH P T) {f:Nat} {fn:Func} {tS tR:TypeId} (hf:P.funcs[f]?=some fn) (hname:(fn.name== "runtime.NumGoroutine")=false)
 (hb:fn.body.isNone=true) (hn:Extern.findNext fn=none) (he:Extern.find fn=some (Extern.SlicesOverlaps.overlaps #[tS,tS] #[tR])) {te:TI} (hel:elemOf T tS=some te)
 {b sz off n c:Nat} {ex:Bool} {es:List (List D)} {x:D} {row:List D} {xs:List (List D)} {bx:List aA} (sA:bx[b]?=some (.row sz es)) (hne:es≠[]):
 bt P G f [.d (.sl ((x::row)::xs)),.vw b sz off n c ex] bx (.ret (.d (.bool false))) bx:=by
 intro β w vs X cx hx
 simp only [ak,aj,aJ] at hx
 obtain ⟨u1,us1,rfl,⟨base,cap,rfl,_,h1⟩,u2,Pn,rfl,⟨_,Qm,S0,cs,e2,f2,rfl,k1,k2,k3,k4⟩,rfl⟩:=hx
 obtain ⟨ti,e,t1,t2,t3⟩:=eU hel
 have kZ:=fP hT t1 t2
 obtain ⟨ei,ed,g1,g2,g3,g4,g5,g6⟩:=aI (hT.ti _ _ t3)
 rcases h1 with h1|⟨blk,o,sz2,rfl,hok,hrows⟩
 ·simp at h1
 simp only [ay,aX] at hrows
 obtain ⟨_,⟨⟨u,hcell,_⟩,_⟩,_⟩:=hrows
 have Y7:∃tA kA,w.shape? blk=some (tA,kA)∧kA≠0:=by
  simp only [World.cell?] at hcell
  split at hcell
  ·rename_i ca ea fa hh
   refine ⟨ea,ca.size,by simp [World.shape?,hh],?_⟩
   intro h0
   simp at hcell
   obtain ⟨hlt,_⟩:=Array.getElem?_eq_some_iff.1 hcell
   omega
  simp at hcell
 obtain ⟨tA,kA,Y7,hkA⟩:=Y7
 have cz:(aA.row sz es).live=true:=by cases es<;>simp_all [aA.live]
 have hrun:=xj (P:=P) w tS tR e kZ (fun w=>bQ g1) ⟨blk,o,none⟩ Qm (xs.length+1) cap n S0 Y7 hkA (by
  rcases k4 with k4|⟨rfl,k5,k6⟩
  ·left;omega
  rcases cx.box _ _ sA with h0|⟨c3,e3,j1,j2⟩
  ·exact absurd h0 hne
  exact .inr ⟨_,c3,e3,rfl,rfl,fun heq=>hok.2.2 b _ sA cz heq.symm,j1⟩)
 refine .inr ⟨.bool false,w,?_,β,Ext.refl _ _ _,cx,by simp only [mr,aj,aJ]⟩
 rw [run_callFunc_extern hf hname hb hn he]
 have e1:(({toList:=[.slice (some ⟨blk,o,none⟩) ((x::row)::xs).length cap,.slice Qm n S0]}:Array Value))=#[.slice (some ⟨blk,o,none⟩) (xs.length+1) cap,.slice Qm n S0]:=rfl
 rw [e1,hrun]
 rfl
end Dem
end
section
open Go
namespace Dem
section
variable {P:Program} {G:Nat→Option (List D)} {bx:List aA}
theorem Hh {f:Nat} {args nT:List AV} {v:AV} (ks:List Bool) (hz:eS bx args=some nT) (hn:AV.bL.cW (kill ks bx) nT=true) (hl:dS false (kill ks bx) (kill ks bx)=true)
 (hv:v.flat=true∨eS [] args=some nT∧v.shut=true) (h:bt P G f nT (kill ks bx) (.ret v) (kill ks bx)):bt P G f args bx (.ret v) bx:=by
 intro β w vs X cx hx
 refine jC.mono (yj cx hx ⟨nT,kill ks bx,hz,hn,⟨false,hl,fun h=>by cases h⟩,?_,h,hv⟩) ?_
 ·intro i b hi dH
  obtain ⟨b0,h1,h2⟩:=kU ks bx i b hi
  rcases h2 with rfl|⟨rfl,h3⟩
  ·exact ⟨_,h1,dH,fun _=>rfl⟩
  exact ⟨b0,h1,h3,fun h=>by simp [aA.live] at h⟩
 rintro e w' ⟨u,rfl,h2,h3,h4⟩
 exact ⟨β,h2,h3,h4⟩
theorem Qn {t:Th} (ht:t=t0) {jV:Prop} {fz:Option (Prop×List AV)} {f:Nat} {args nT jX:List AV} {bx bz:List aA} {v:AV} {c:Prop} {K Kp:AV→List aA→Prop} (ks:List Bool) (bY:List Nat) (ho:jV)
 (hz:qQ t bx args=some (c,nT)) (hc:c) (hn:AV.bL.cW (kill ks bx) nT=true) (hl:dS false (kill ks bx) (kill ks bx)=true) (hv:v.flat=true)
 (ha:AV.vB (fun b=>dO b bY 0) nT=some jX) (hb:fQ (fun b=>dO b bY 0) (kill ks bx) bY=some bz) (hb':A5 bY (kill ks bx) bz=some (kill ks bx)) (hr:iB.iF (jW bY (kill ks bx).length) (.ret v)=some (.ret v))
 (h:bt P G f jX bz (.ret v) bz) (hK:K v bx):m8 (bt P G) jV f args fz bx K Kp:=by
 subst ht
 exact dx ho (Hh ks (gR hz hc) hn hl (.inl hv) (cR bY ha hb hr hb' h)) hK
end
end Dem
end
section
open Go
namespace Dem
abbrev TT (t:Th):Prop:=∀(α:Type) (f:Unit→α),t α f=f ()
theorem ko {t:Th} (ht:TT t) {α:Type} {e x:α} (h:e=x):(t _ fun _=>e)=x:=by rw [ht];exact h
section
variable {P:Program} {G:Nat→Option (List D)} {FC:Nat→List AV→List aA→iB→List aA→Prop} {jV:Prop} {f:Nat} {args args':List AV} {c:Prop} {bx:List aA} {K Kp:AV→List aA→Prop} {ρ:Type}
theorem Wh {E:ρ→AV} {r0:ρ} (ho:jV) (h:FC f args' [] (.ret (E r0)) []) (hc:c) (hs:AV.shut.lu args'=true) (hf:(E r0).flat=true) (hK:∀r,r=r0→K (E r) bx):m8 FC jV f args (some (c,args')) bx K Kp:=
 gF ho h hc hs hf (hK _ rfl)
theorem Qo {E:ρ→AV} {r0:ρ} (ho:jV) (h:FC f args' [] (.ret (E r0)) []) (hc:c) (hs:AV.shut.lu args'=true) (hz:eS [] args=some args') (hv:(E r0).shut=true) (hK:∀r,r=r0→K (E r) bx):m8 FC jV f args (some (c,args')) bx K Kp:=
 L0 ho h hc hs hz hv (hK _ rfl)
theorem JO {E:ρ→AV} {r0:ρ} {fz:Option (Prop×List AV)} {qq:List aA} (ho:jV) (hfz:fz=some (c,args')) (hc:c) (h:FC f args' (fy bx args) (.ret (E r0)) qq) (hK:∀r,r=r0→K (E r) qq):m8 FC jV f args fz bx K Kp:=
 Vs ho hfz hc h (hK _ rfl)
theorem cj {dr g:Bool} {K:AV→Prop} {E:ρ→AV} {r0:ρ} (h:g=true→jV∧c∧FC f args' [] (.ret (E r0)) []) (hs:AV.bL.cW [] args'=true) (hf:(E r0).flat=true) (hK:∀r,r=r0→K (E r)):oX FC dr g jV f args bx (some (c,args')) K:=
 G8 h hs hf (hK _ rfl)
theorem kK {dr g:Bool} {K:AV→Prop} {E:ρ→AV} {r0:ρ} (h:g=true→jV∧c∧FC f args' [] (.ret (E r0)) []) (hs:AV.bL.cW [] args'=true) (hz:eS [] args=some args') (hf:(E r0).shut=true) (hK:∀r,r=r0→K (E r)):oX FC dr g jV f args bx (some (c,args')) K:=
 nD h hs hz hf (hK _ rfl)
end
theorem ig {t:Th} (ht:TT t) {α:Type} {l:List α} {cells cT:α→List D} {es:List (List D)} (aC:es=l.map cells) {z:Int} {n:Nat} {K:List D→Prop} (h0:0≤z) (h1:z<l.length) (hn:∀x,(cells x).length=n) (hT:∀x,cells x=cT x)
 (hK:∀x,l[z.toNat]?=some x→K (cT x)):nK true (t Prop fun _=>0≤z∧z<es.length∧∀r∈es,r.length=n) (t _ fun _=>es.getD z.toNat []) K:=by
 have hz:z.toNat<l.length:=by omega
 refine ix (cT l[z.toNat]) ?_ ?_ (hK _ (List.getElem?_eq_getElem hz))
 ·simp only [ht];refine ⟨h0,by rw [aC,lgM];exact h1,?_⟩
  rw [aC];intro r hr;obtain ⟨y,_,rfl⟩:=List.mem_map.1 hr;exact hn y
 simp only [ht];rw [aC,←hT];simp [hz]
theorem bG {s:St} {n:Nat} {σ:Type} {J:Nat→σ→Prop} {F:σ→St} (v:σ) (hs:s=F v) (m:Nat) (hm:m<n) (hJ:J m v):LoopIn (some s) (fun s3=>∃m v',(m<n∧J m v')∧s3=F v'):=aE (P:=fun s3=>∃m v',(m<n∧J m v')∧s3=F v') ⟨m,v,⟨hm,hJ⟩,hs⟩
theorem Y8 {α:Type} {l:List α} {cells:α→List D} {u:List (List D)} (hu:u=l.map cells) {row:List D} {sz b:Nat} (hn:∀x,(cells x).length=sz) (hr:row.length=sz) (hl:l.length<1000000) (hb:b≤10000):
 u.length=u.length∧(u.length+[row].length)*b≤140737488355328∧∀r∈u++[row],r.length=sz:=by
 refine ⟨rfl,?_,?_⟩
 ·rw [hu,lgM]
  exact Nat.le_trans (Nat.mul_le_mul (show l.length+[row].length≤1000000 by simp;omega) hb) (by decide)
 intro r hr'
 rcases List.mem_append.1 hr' with h|h
 ·rw [hu] at h;obtain ⟨y,_,rfl⟩:=List.mem_map.1 h;exact hn y
 simp at h;subst h;exact hr
end Dem
end
section
open Go
namespace Dem
def flat:Code→List Code
 |.seq a b=>flat a++flat b
 |c=>[c]
section
variable {P:Program}
def sY (P:Program):List Code→(Exit→Act→World→Prop)→Act→World→Prop
 |[],Q=>Q .normal
 |c::r,Q=>c.wp P (Exit.then (sY P r Q) Q)
theorem Dq {K K':Act→World→Prop} {Q Q':Exit→Act→World→Prop} (h:∀a w,K a w→K' a w) (hq:∀e a w,Q e a w→Q' e a w):∀e a w,Exit.then K Q e a w→Exit.then K' Q' e a w:=by
 intro e a w hh;cases e<;>simp only [Exit.then] at hh ⊢<;>first|exact h _ _ hh|exact hq _ _ _ hh
theorem Hi:∀{l:List Code} {Q Q':Exit→Act→World→Prop} {a:Act} {w:World},(∀e a w,Q e a w→Q' e a w)→sY P l Q a w→sY P l Q' a w
 |[],_,_,_,_,hq,h=>hq _ _ _ h
 |_::_,_,_,_,_,hq,h=>wp_mono h (Dq (fun _ _ hh=>Hi hq hh) hq)
theorem A7:∀{l1 l2:List Code} {Q:Exit→Act→World→Prop} {a:Act} {w:World},sY P (l1++l2) Q a w→sY P l1 (Exit.then (sY P l2 Q) Q) a w
 |[],_,_,_,_,h=>h
 |c::l1,l2,Q,a,w,h=>by
  refine wp_mono (show c.wp P (Exit.then (sY P (l1++l2) Q) Q) a w from h) ?_
  intro e a w hh
  cases e<;>simp only [Exit.then] at hh ⊢<;>first|exact A7 hh|exact hh
theorem EK:∀(c:Code) {Q:Exit→Act→World→Prop} {a:Act} {w:World},sY P (flat c) Q a w→c.wp P Q a w
 |.seq x y,Q,a,w,h=>by
  have h:=A7 (show sY P (flat x++flat y) Q a w from h)
  refine wp_seq (wp_mono (EK x h) ?_)
  exact Dq (fun a w hh=>EK y hh) (fun _ _ _ hh=>hh)
 |.skip,Q,a,w,h=>wp_mono h (by intro e a w hh;cases e<;>simpa only [sY,Exit.then] using hh)
 |.region ..,Q,a,w,h=>wp_mono h (by intro e a w hh;cases e<;>simpa only [sY,Exit.then] using hh)
 |.cond ..,Q,a,w,h=>wp_mono h (by intro e a w hh;cases e<;>simpa only [sY,Exit.then] using hh)
 |.block ..,Q,a,w,h=>wp_mono h (by intro e a w hh;cases e<;>simpa only [sY,Exit.then] using hh)
 |.loop ..,Q,a,w,h=>wp_mono h (by intro e a w hh;cases e<;>simpa only [sY,Exit.then] using hh)
 |.rangeFunc ..,Q,a,w,h=>wp_mono h (by intro e a w hh;cases e<;>simpa only [sY,Exit.then] using hh)
 |.exit ..,Q,a,w,h=>wp_mono h (by intro e a w hh;cases e<;>simpa only [sY,Exit.then] using hh)
 |.scope ..,Q,a,w,h=>wp_mono h (by intro e a w hh;cases e<;>simpa only [sY,Exit.then] using hh)
 |.label ..,Q,a,w,h=>wp_mono h (by intro e a w hh;cases e<;>simpa only [sY,Exit.then] using hh)
 |.goto ..,Q,a,w,h=>wp_mono h (by intro e a w hh;cases e<;>simpa only [sY,Exit.then] using hh)
 |.ret,Q,a,w,h=>wp_mono h (by intro e a w hh;cases e<;>simpa only [sY,Exit.then] using hh)
 |.refuse ..,Q,a,w,h=>wp_mono h (by intro e a w hh;cases e<;>simpa only [sY,Exit.then] using hh)
end
section
variable (t:Th) (FC:Nat→List AV→List aA→iB→List aA→Prop) (T:Nat→Option TI) (G:Nat→Option (List D)) (N K:Nat)
def JP:List Code→(Ex→St→Prop)→St→Prop
 |[],Q,s=>Q .normal s
 |c::r,Q,s=>vE t FC T G N K c (fun e s1=>uM (fun s1=>JP r Q s1) Q e s1) s
end
section
variable {P:Program} {T:Nat→Option TI} {G:Nat→Option (List D)} {N K:Nat} {ds:List Deferred} {X:Nat→Prop} {β0:Nat→Nat} {bz:List aA} {w0:World}
theorem pg (hT:kH P T) (hD:qG P T G) (hK:bz.length≤K):∀(l:List Code) (Q:Ex→St→Prop) (β:Nat→Nat) (w:World) (s:St) (a:Act),Ext β0 bz w0 β s.bx w→Fr G N ds β w X s a→
 JP t0 (bt P G) T G N K l Q s→sY P l (fY G N ds X β0 bz w0 Q) a w
 |[],Q,β,w,s,a,ex,hF,h=>⟨β,s,ex,hF,h⟩
 |c::l,Q,β,w,s,a,ex,hF,h=>by
  refine wp_mono (fD hT hD hK c _ β w s a ex hF h) ?_
  intro e a' w' hl
  cases e<;>simp only [fY,uM,Exit.then] at hl ⊢
  ·obtain ⟨β',s',h1,h2,h3⟩:=hl
   exact pg hT hD hK l Q β' w' s' a' h1 h2 h3
  all_goals exact hl
theorem yG:∀{l1 l2:List Code} {Q:Exit→Act→World→Prop} {a:Act} {w:World},sY P l1 (Exit.then (sY P l2 Q) Q) a w→sY P (l1++l2) Q a w
 |[],_,_,_,_,h=>h
 |c::l1,l2,Q,a,w,h=>by
  refine wp_mono (show c.wp P (Exit.then (sY P l1 (Exit.then (sY P l2 Q) Q)) (Exit.then (sY P l2 Q) Q)) a w from h) ?_
  intro e a w hh
  cases e<;>simp only [Exit.then] at hh ⊢<;>first|exact yG hh|exact hh
end
end Dem
end
section
namespace Dem
abbrev aH:=List UInt8
structure bE where
 a:Int
 b:Int
 c:Int
 d:Int
deriving DecidableEq
def bE.zero:bE:=⟨0,0,0,0⟩
def Hj (x y:Int):Int×Bool:=if x.toNat+y.toNat<18446744073709551616 then (((x.toNat+y.toNat:Nat):Int),true) else (0,false)
def Hl (x y:Int):Int×Bool:=if x.toNat<y.toNat then (0,false) else (((((x.toNat-y.toNat)%18446744073709551616:Nat)):Int),true)
def both (f:Int→Int→Int×Bool) (a b:bE):bE×Bool:=
 if (f a.a b.a).2&&(f a.b b.b).2&&(f a.c b.c).2&&(f a.d b.d).2 then (⟨(f a.a b.a).1,(f a.b b.b).1,(f a.c b.c).1,(f a.d b.d).1⟩,true) else (bE.zero,false)
def iV (a b:bE):bE×Bool:=both Hj a b
def eH (a b:bE):bE×Bool:=both Hl a b
def mE (a b:bE):Bool:=(eH b a).2
end Dem
namespace Dem
def idxOf {α:Type} (p:α→Bool) (l:List α):Int:=match l.findIdx? p with|some k=>(k:Int)|none=>-1
theorem vH {α:Type} {p:α→Bool}:∀{l:List α} {k:Nat} {x:α},l[k]?=some x→p x=true→(∀i<k,∀y,l[i]?=some y→p y=false)→l.findIdx? p=some k
 |[],_,_,h,_,_=>by simp at h
 |y::r,0,x,h,hp,_=>by simp at h;subst h;simp [List.findIdx?_cons,hp]
 |y::r,k+1,x,h,hp,hb=>by
  have hy:p y=false:=hb 0 (by omega) y (by simp)
  simp only [List.getElem?_cons_succ] at h
  rw [List.findIdx?_cons,hy]
  simp [vH h hp fun i hi z hz=>hb (i+1) (by omega) z (by simpa using hz)]
theorem A8 {α:Type} {p:α→Bool} {l:List α} (hb:∀(i:Nat) (y:α),l[i]?=some y→p y=false):l.findIdx? p=none:=by
 rw [List.findIdx?_eq_none_iff]
 intro x hx
 obtain ⟨i,hi⟩:=List.getElem?_of_mem hx
 exact hb i x hi
theorem fh {α:Type} (p:α→Bool) (l:List α):l.any p=decide (0≤idxOf p l):=by
 unfold idxOf
 cases h:l.findIdx? p with
 |none=>
  rw [List.findIdx?_eq_none_iff] at h
  simp
  intro x hx;simp [h x hx]
 |some k=>
  have:=List.findIdx?_eq_some_iff_getElem.1 h
  obtain ⟨hk,hp,_⟩:=this
  simp
  exact ⟨l[k],List.getElem_mem hk,hp⟩
end Dem
end
section
open Go Dem Go.Proofs
namespace Dem
theorem TT.eq {t:Th} (h:TT t):t=t0:=by funext α f;exact h α f
theorem jG {t:Th} (ht:TT t) {f N:Nat} {fn:Func} {c:Code} {args:List AV} {bz aL:List aA} {res:iB} (hf:Tryz.prog.funcs[f]?=some fn) (hb:fn.body=some c)
 (hname:(fn.name== "runtime.NumGoroutine")=false) (hN:fn.ntmps=N) {rs:List ResultVar} (MP:fn.results.toList=rs) {n:Nat} (hn:bz.length=n) (hlen:Nat.ble args.length N=true)
 (h:vE t FC tT gl N n c (pW t tT rs n res aL) ⟨nO 0 args,bz⟩):FC f args bz res aL:=by
 subst MP;subst hn
 have e:=ht.eq
 subst e
 exact zu Ql xg hf hb hname hN hlen h
theorem fcX {f:Nat} {fn:Func} {e:Array Value→Sem Value} {args:List AV} {v:AV} (hf:Tryz.prog.funcs[f]?=some fn) (hname:(fn.name== "runtime.NumGoroutine")=false)
 (hb:fn.body.isNone=true) (hn:Extern.findNext fn=none) (he:Extern.find fn=some e)
 (h:∀(β:Nat→Nat) (w:World) (vs:List Value) (ok:Nat→Prop),ak β [] w ok args vs→∃u,(e ⟨vs⟩).run Tryz.prog w=.ok u w∧aj β [] w ok v u):FC f args [] (.ret v) []:=by
 intro β w vs X cx hx
 obtain ⟨u,h1,h2⟩:=h β w vs _ hx
 refine .inr ⟨u,w,?_,β,Ext.refl _ _ _,cx,h2⟩
 rw [run_callFunc_extern hf hname hb hn he,h1]
 rfl
abbrev bD (x:Int):AV:=.d (.int .i64 x)
abbrev az (x:Int):AV:=.d (.int .u64 x)
abbrev BL (b:Bool):AV:=.d (.bool b)
abbrev ST (s:List UInt8):AV:=.d (.str s)
abbrev SL (es:List (List D)):AV:=.d (.sl es)
abbrev V4 (a b c d:Int):AV:=.agg [.d (.int .u64 a),.d (.int .u64 b),.d (.int .u64 c),.d (.int .u64 d)]
theorem aB {k:Nat} (h1:k<9223372036854775807):IntKind.i64.wrap ((k:Int)+1)=((k+1:Nat):Int):=by rw [wrap64 (by omega) (by omega)];omega
theorem ah (n:Nat):@NatCast.natCast Int instNatCastInt n=(n:Int):=rfl
end Dem
end
