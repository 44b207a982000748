/- Parts of a proof, joined. -/
import Derived.Test.YtihohjnkkalgiaaGreatDoorP10
set_option linter.all false
set_option maxRecDepth 100000
set_option maxHeartbeats 4000000
open Go
namespace Dem
section
variable (t:Th)
def T4 (bx:List ay):AV→Option (Prop×AV)
 |.cl es=>some (True,.d (.sl es))
 |.ow b sz n=>match (AV.ow b sz n).O0 t bx with
  |some (c,d)=>some (c,.d d)
  |none=>none
 |.vw b sz off n ca ex=>match (AV.vw b sz off n ca ex).vN t bx with
  |some (c,es)=>some (c,.d (.sl es))
  |none=>none
 |v=>some (True,v)
def Mh (bx:List ay):List AV→Option (Prop×List AV)
 |[]=>some (True,[])
 |x::xs=>match T4 t bx x,Mh bx xs with
  |some (c,y),some (d,ys)=>some (c∧d,y::ys)
  |_,_=>none
def Iq (bx:List ay):AV→Option (Prop×AV)
 |.agg cs=>match Mh t bx cs with
  |some (c,ys)=>some (c,.agg ys)
  |none=>none
 |v=>T4 t bx v
def oW (bx:List ay):List AV→Option (Prop×List AV)
 |[]=>some (True,[])
 |x::xs=>match Iq t bx x,oW bx xs with
  |some (c,y),some (d,ys)=>some (c∧d,y::ys)
  |_,_=>none
def Mi (bx:List ay):AV→Option (Prop×AV)
 |.dL vs=>match oW t bx vs with
  |some (c,ys)=>some (c,.dL ys)
  |none=>none
 |v=>Iq t bx v
end
section
variable {bx:List ay}
theorem Gq {x y:AV} {c:Prop} (h:T4 t0 bx x=some (c,y)) (hc:c):fz bx x=some y:=by
 unfold T4 at h
 split at h
 ·simp only [osI,Prod.mk.injEq] at h;obtain ⟨rfl,rfl⟩:=h;rfl
 ·rename_i b sz n
  split at h
  ·rename_i c' d h1
   simp only [osI,Prod.mk.injEq] at h;obtain ⟨rfl,rfl⟩:=h
   simp only [fz,Me h1 hc,Option.map_some]
  simp at h
 ·rename_i b sz off n ca ex
  split at h
  ·rename_i c' es h1
   simp only [osI,Prod.mk.injEq] at h;obtain ⟨rfl,rfl⟩:=h
   simp only [fz,jD h1 hc,Option.map_some]
  simp at h
 rename_i h1 h2 h3
 simp only [osI,Prod.mk.injEq] at h;obtain ⟨rfl,rfl⟩:=h
 unfold fz;split
 ·exact absurd rfl (h1 _)
 ·exact absurd rfl (h2 _ _ _)
 ·exact absurd rfl (h3 _ _ _ _ _ _)
 rfl
theorem D8:∀{xs ys:List AV} {c:Prop},Mh t0 bx xs=some (c,ys)→c→FH bx xs=some ys
 |[],ys,c,h,_=>by simp [Mh] at h;simp [FH,h.2]
 |x::xs,ys,c,h,hc=>by
  simp only [Mh] at h
  split at h
  ·rename_i c1 y d ys' h1 h2
   simp only [osI,Prod.mk.injEq] at h
   obtain ⟨rfl,rfl⟩:=h
   simp [FH,Gq h1 hc.1,D8 h2 hc.2]
  simp at h
theorem ym {x y:AV} {c:Prop} (h:Iq t0 bx x=some (c,y)) (hc:c):oy bx x=some y:=by
 unfold Iq at h
 split at h
 ·split at h
  ·rename_i cs c' ys h1
   simp only [osI,Prod.mk.injEq] at h
   obtain ⟨rfl,rfl⟩:=h
   simp [oy,D8 h1 hc]
  simp at h
 rename_i h1
 unfold oy;split
 ·exact absurd rfl (h1 _)
 exact Gq h hc
theorem fY:∀{xs ys:List AV} {c:Prop},oW t0 bx xs=some (c,ys)→c→eL bx xs=some ys
 |[],ys,c,h,_=>by simp [oW] at h;simp [eL,h.2]
 |x::xs,ys,c,h,hc=>by
  simp only [oW] at h
  split at h
  ·rename_i c1 y d ys' h1 h2
   simp only [osI,Prod.mk.injEq] at h
   obtain ⟨rfl,rfl⟩:=h
   simp [eL,ym h1 hc.1,fY h2 hc.2]
  simp at h
theorem Gr {x y:AV} {c:Prop} (h:Mi t0 bx x=some (c,y)) (hc:c):FQ bx x=some y:=by
 unfold Mi at h
 split at h
 ·split at h
  ·rename_i cs c' ys h1
   simp only [osI,Prod.mk.injEq] at h
   obtain ⟨rfl,rfl⟩:=h
   simp [FQ,fY h1 hc]
  simp at h
 rename_i h1
 unfold FQ;split
 ·exact absurd rfl (h1 _)
 exact ym h hc
end
structure oc (FC:Nat→List AV→List ay→iy→List ay→Prop) (kO:Prop) (f:Nat) (args:List AV) (fz:Option (Prop×List AV)) (bx:List ay)
 (K:AV→List ay→Prop) (Kp:AV→List ay→Prop):Prop where
 ok:kO∧(
  (∃c args',fz=some (c,args')∧c∧AV.shut.lY args'=true∧
   (
    (∃v,FC f args' [] (.ret v) []∧(v.flat=true∨eL [] args=some args'∧v.shut=true)∧K v bx)∨
    (∃sz n es,FC f args' [] (.ret (.ow 0 sz n)) [.row sz es]∧((∀r∈es,∀x∈r,x.flat=true)∨eL [] args=some args')∧K (.ow bx.length sz n) (bx++[.row sz es]))))∨
  (∃args' oA res oB,(args'=args∧oA=bx∨(∃c,fz=some (c,args')∧c)∧oA=eV bx args)∧FC f args' oA res oB∧
   (match res with|.ret v=>K v oB|.Jl v=>Kp v oB)))
structure rE (FC:Nat→List AV→List ay→iy→List ay→Prop) (dr g:Bool) (kO:Prop) (f:Nat) (args:List AV) (bx:List ay) (fz:Option (Prop×List AV)) (K:AV→Prop):Prop where
 ok:(dr=false∧∃v,(g=true→kO∧FC f args bx (.ret v) bx)∧K v)∨∃v,(g=true→kO∧∃args' iY,(∃c,fz=some (c,args')∧c)∧AV.bN.cX iY args'=true∧(∃dt,dO dt iY iY=true∧(dt=true→eL [] args=some args'))∧
  (∀(i:Nat) (b:ay),iY[i]?=some b→b.born=true→∃b',bx[i]?=some b'∧b'.born=true∧(b.live=true→b'=b))∧FC f args' iY (.ret v) iY∧
  (v.flat=true∨eL [] args=some args'∧v.shut=true))∧K v
structure uD (g:Bool) (p:Prop):Prop where
 ok:g=true→p
structure Ir (p:Bool) (a b:Prop):Prop where
 ok:(p=true→a)∧(p=false→b)
theorem ah {p:Bool} {a b:Prop}:Ir p a b↔((p=true→a)∧(p=false→b)):=⟨fun h=>h.ok,fun h=>⟨h⟩⟩
structure yo (g:Bool) (c:Prop) (ds:List D) (K:List D→Prop):Prop where
 ok:∃ds',(g=true→c∧ds=ds')∧K ds'
structure Mj (c:Prop) (v:AV) (bx:List ay) (K:AV→List ay→Prop):Prop where
 ok:∃v' aP,c∧v=v'∧bx=aP∧K v' aP
structure QS (g:Bool) (c:Prop) (v:AV) (K:AV→Prop):Prop where
 ok:∃v',(g=true→c∧v=v')∧K v'
def D9 (ev:Operand→AV) (o:Op):Bool:=bif iA ev o then (match o with
 |.slice _ _ _ _ _=>true
 |.call {callee:=.builtin b,..}=>match b with
  |.copy=>true
  |.clear=>true
  |.append=>true
  |_=>false
 |_=>false) else false
def Mk (t:Th) (T:Nat→Option TI) (ty:Nat) (x i:AV):Option (Prop×List D):=
 match T ty with
 |some ti=>match ti.kd,x,i with
  |.slice e,.d (.sl es),.d (.int _ z)=>match T e with
   |some te=>some (t Prop (fun _=>0≤z∧z<es.length∧(∀r∈es,r.length=te.size)),t _ fun _=>es.getD z.toNat [])
   |none=>none
  |.slice e,.cl es,.d (.int _ z)=>match T e with
   |some te=>some (t Prop (fun _=>0≤z∧z<es.length∧(∀r∈es,r.length=te.size)),t _ fun _=>es.getD z.toNat [])
   |none=>none
  |_,_,_=>none
 |none=>none
theorem RE {T:Nat→Option TI} {ty:Nat} {x i:AV}:Mk t0 T ty x i=xj T ty x i:=by
 unfold Mk xj;rfl
def RF (t:Th) (T:Nat→Option TI) (ev:Operand→AV):Op→Option (Prop×List (List D))
 |.call {callee:=.builtin b,args,argTypes}=>match b,args.toList,argTypes.toList with
  |.append,[x,y],[ty,u]=>match T ty,T u with
   |some ti,some tu=>match ti.kd,tu.kd with
    |.slice e,.slice _=>match T e with
     |some te=>bif eA te then match ev x,ev y with
      |.cl es,.cl (x0::xr)=>some (t Prop (fun _=>(es.length+(x0::xr).length)*te.bytes≤140737488355328∧(∀r∈es++(x0::xr),r.length=te.size)),t _ fun _=>es++(x0::xr))
      |_,_=>none
      else none
     |none=>none
    |_,_=>none
   |_,_=>none
  |_,_,_=>none
 |_=>none
theorem RG {T:Nat→Option TI} {ev:Operand→AV} {op:Op}:RF t0 T ev op=zW T ev op:=by
 unfold RF zW;rfl
def lE (b:List Nat):Nat→List Oper→List Bool
 |_,[]=>[]
 |i,_::r=>barrier b i::lE b (i+1) r
structure QT (FC:Nat→List AV→List ay→iy→List ay→Prop) (kO:Prop) (f:Nat) (args:List AV) (fz:Option (Prop×List AV)) (at_:Option ay) (x:Nat) (K:AV→ay→Prop):Prop where
 ok:∃args' sz n es,kO∧(∃c,fz=some (c,args')∧c)∧AV.shut.lY args'=true∧FC f args' [] (.ret (.ow 0 sz n)) [.row sz es]∧
  ((∀r∈es,∀x∈r,x.flat=true)∨eL [] args=some args')∧at_=some .bt∧K (.ow x sz n) (.row sz es)
structure QU (a b:String) (K:Prop):Prop where
 ok:a=b∧K
theorem QV {a:String} {K:Prop} (h:K):QU a a K:=⟨rfl,h⟩
def RH (T:Nat→Option TI) (x:AV):Option (String×Nat×AV):=
 match x with
 |.qx ty v=>match T ty with
  |some ti=>match ti.inv with
   |some (n,i)=>some (n,i,v)
   |none=>none
  |none=>none
 |_=>none
theorem O9 {T:Nat→Option TI} {x v:AV} {n:String} {i:Nat} (as:List AV) (h:RH T x=some (n,i,v)):Ar T x n as=some (i,v::as):=by
 unfold RH at h
 unfold Ar
 split at h
 ·split at h
  ·rename_i ti ht
   simp only [ht]
   split at h
   ·rename_i hi
    simp only [osI,Prod.mk.injEq] at h
    obtain ⟨rfl,rfl,rfl⟩:=h
    simp only [hi,if_true]
   cases h
  cases h
 cases h
def Ml:Op→Bool
 |.call {callee:=.value _,..}=>true
 |_=>false
structure AQ (ops:List Oper) (A:Option Nat→List Bool→Prop) (X:List Nat→Prop) (B1:OT→St→Prop) (B2:St→Prop) (B3:List Nd→List St→Prop):Prop where
 ok:(∃(pre:List Nat) (tr:OT) (s1:St),(iB ops.toArray [] pre=true∧l5 ops.toArray=true∧X pre)∧tr.fits pre ops=true∧B1 tr s1∧B2 s1)∨(∃(pl:List Nd) (S:List St) (s1:St),C4 ops.toArray pl=true∧B3 pl S∧S[pl.length]?=some s1∧B2 s1)∨∃k pre late fs,((pre=[]∧late=[])∨(iB ops.toArray [] pre=true∧l5 ops.toArray=true∧sx (bW pre 0 ops).toArray late=true∧(k=none∧X pre∨pre=[])))∧
  (HX (gC (bW pre 0 ops).toArray late 0 (bW pre 0 ops))∧lE (cD (gC (bW pre 0 ops).toArray late 0 (bW pre 0 ops)) []) 0 ops=fs)∧A k fs
theorem c7 {ops:List Oper} {A:Option Nat→List Bool→Prop} {X:List Nat→Prop} {B1:OT→St→Prop} {B2:St→Prop} {B3:List Nd→List St→Prop} (fs:List Bool) (h1:gr ops.toArray (cD ops []) 0 ops=true) (h2:lE (cD ops []) 0 ops=fs) (h:A none fs):AQ ops A X B1 B2 B3:=
 ⟨.inr<|.inr ⟨none,[],[],fs,.inl ⟨rfl,rfl⟩,by rw [nH,qd];exact ⟨⟨h1⟩,h2⟩,h⟩⟩
theorem tn {ops:List Oper} {A:Option Nat→List Bool→Prop} {X:List Nat→Prop} {B1:OT→St→Prop} {B2:St→Prop} {B3:List Nd→List St→Prop} (pre late:List Nat) (fs:List Bool) (hp:iB ops.toArray [] pre=true) (hs:l5 ops.toArray=true) (hl:sx (bW pre 0 ops).toArray late=true) (hx:X pre)
 (h1:gr (gC (bW pre 0 ops).toArray late 0 (bW pre 0 ops)).toArray (cD (gC (bW pre 0 ops).toArray late 0 (bW pre 0 ops)) []) 0 (gC (bW pre 0 ops).toArray late 0 (bW pre 0 ops))=true)
 (h2:lE (cD (gC (bW pre 0 ops).toArray late 0 (bW pre 0 ops)) []) 0 ops=fs) (h:A none fs):AQ ops A X B1 B2 B3:=
 ⟨.inr<|.inr ⟨none,pre,late,fs,.inr ⟨hp,hs,hl,.inl ⟨rfl,hx⟩⟩,⟨⟨h1⟩,h2⟩,h⟩⟩
theorem Ea {ops:List Oper} {A:Option Nat→List Bool→Prop} {X:List Nat→Prop} {B1:OT→St→Prop} {B2:St→Prop} {B3:List Nd→List St→Prop} (pre:List Nat) (fs:List Bool) (hp:iB ops.toArray [] pre=true) (hs:l5 ops.toArray=true) (hx:X pre)
 (h1:gr (bW pre 0 ops).toArray (cD (bW pre 0 ops) []) 0 (bW pre 0 ops)=true) (h2:lE (cD (bW pre 0 ops) []) 0 ops=fs) (h:A none fs):AQ ops A X B1 B2 B3:=
 ⟨.inr<|.inr ⟨none,pre,[],fs,.inr ⟨hp,hs,rfl,.inl ⟨rfl,hx⟩⟩,by rw [qd];exact ⟨⟨h1⟩,h2⟩,h⟩⟩
theorem Is {ops:List Oper} {A:Option Nat→List Bool→Prop} {X:List Nat→Prop} {B1:OT→St→Prop} {B2:St→Prop} {B3:List Nd→List St→Prop} (pre:List Nat) (tr:OT) (s1:St) (hp:iB ops.toArray [] pre=true) (hs:l5 ops.toArray=true) (hx:X pre) (hf:tr.fits pre ops=true) (h1:B1 tr s1) (h2:B2 s1):AQ ops A X B1 B2 B3:=
 ⟨.inl ⟨pre,tr,s1,⟨hp,hs,hx⟩,hf,h1,h2⟩⟩
theorem T6 {ops:List Oper} {A:Option Nat→List Bool→Prop} {X:List Nat→Prop} {B1:OT→St→Prop} {B2:St→Prop} {B3:List Nd→List St→Prop} (pl:List Nd) (S:List St) {s1:St} (hf:C4 ops.toArray pl=true) (h3:B3 pl S) (h1:S[pl.length]?=some s1) (h2:B2 s1):AQ ops A X B1 B2 B3:=
 ⟨.inr<|.inl ⟨pl,S,s1,hf,h3,h1,h2⟩⟩
section
variable (t:Th) (FC:Nat→List AV→List ay→iy→List ay→Prop) (T:Nat→Option TI) (G:Nat→Option (List D)) (N:Nat)
def stepT (o:Oper) (s:St) (K:AV→List ay→Prop) (Q:Ex→St→Prop):Prop:=
 match o.op with
 |.pick c a b=>match (bU G s.sl c).aL with
  |.d (.bool p)=>((bU G s.sl c).ok∧Ir p (bU G s.sl a).ok (bU G s.sl b).ok)∧K (B5 t p (bU G s.sl a).aL (bU G s.sl b).aL) s.bx
  |_=>False
 |.call {callee:=.value f,args,..}=>match kU (bU G s.sl f).aL (args.toList.map fun x=>(bU G s.sl x).aL) with
  |some (i,as)=>oc FC ((bU G s.sl f).ok∧dm (fu G s.sl args.toList)) i as (oW t s.bx as) s.bx (fun v bx=>K v bx) (fun v bx=>Q (.panic v) ⟨[],bx⟩)
  |none=>False
 |.panic x=>match (bU G s.sl x).aL with
  |.qx ty v=>(bU G s.sl x).ok∧Q (.panic (.qx ty v)) ⟨[],s.bx⟩
  |_=>False
 |.range ty x=>match T ty with
  |some ti=>match ti.kd,(bU G s.sl x).aL with
   |.str,.d (.str str)=>(bU G s.sl x).ok∧K (.ptr s.bx.length 0) (s.bx++[.it str 0])
   |_,_=>False
  |none=>False
 |.next it true=>match (bU G s.sl it).aL with
  |.ptr b 0=>match s.bx[b]? with
   |some (.it str pos)=>(bU G s.sl it).ok∧Lm str pos (fun c wd=>K (.dL [.d (.bool true),.d (.int .i64 (t _ fun _=>pos)),.d (.int .i32 (t _ fun _=>c))]) (s.bx.set b (.it str (t _ fun _=>pos+wd)))) (fun _=>K (.dL [.d (.bool false)]) s.bx)
   |_=>False
  |_=>False
 |.binOp .eql ty x (.const (.slice none 0 0)) _=>match T ty,Jm (bU G s.sl x).aL with
  |some ti,some FI=>match ti.kd with
   |.slice _=>(bU G s.sl x).ok∧HV (t Prop fun _=>FI) (fun b=>K (.d (.bool b)) s.bx)
   |_=>False
  |_,_=>False
 |.binOp .neq ty x (.const (.slice none 0 0)) _=>match T ty,Jm (bU G s.sl x).aL with
  |some ti,some FI=>match ti.kd with
   |.slice _=>(bU G s.sl x).ok∧HV (t Prop fun _=>FI) (fun b=>K (.d (.bool (t _ fun _=>!b))) s.bx)
   |_=>False
  |_,_=>False
 |.makeMap ty none=>match T ty with
  |some ti=>match ti.kd with
   |.map _ e=>match T e with
    |some te=>K (.zP s.bx.length) (s.bx++[.mp te.kd.isAgg []])
    |none=>False
   |_=>False
  |none=>False
 |.lookup ty m k zS=>match xk T ty (bU G s.sl m).aL s.bx,(bU G s.sl k).aL with
  |some (tk,te,ag,es),.d kd=>FP true (((bU G s.sl m).ok∧(bU G s.sl k).ok)∧(t Prop fun _=>ug tk te ag es kd)) (t _ fun _=>uf es kd) (nt te zS (fun v=>K v s.bx))
  |_,_=>False
 |.mapUpdate ty m k x=>match BD T ty (bU G s.sl m).aL s.bx,(bU G s.sl k).aL,(bU G s.sl x).aL.cells? with
  |some (b,tk,te,ag,es),.d kd,some vs=>match cr vs,yg t s.bx vs with
   |true,some (c,ds)=>(((bU G s.sl m).ok∧(bU G s.sl k).ok∧(bU G s.sl x).ok)∧c∧(t Prop fun _=>ug tk te ag es kd)∧Nat.beq ds.length te.size=true∧(bU G s.sl x).aL.isAgg=ag)∧K .any (s.bx.set b (.mp ag (t _ fun _=>qz es kd ds)))
   |_,_=>False
  |_,_,_=>False
 |.load ty a=>
  match rowAt t (bU G s.sl a).aL s.bx with
  |some (c,ds,j)=>yo true ((bU G s.sl a).ok∧c) ds (fun ds=>match T ty with
   |some ti=>match cB ti.kd.isAgg ti.size ((ds.drop j).map .d) with
    |some v=>K v s.bx
    |none=>False
   |none=>False)
  |none=>match Tq t T (fun x=>(bU G s.sl x).aL) (.load ty a) s.bx with
   |some ⟨c,v,b⟩=>(dm (fu G s.sl (Op.load ty a).operands.toList)∧c)∧K v (dz s.bx b)
   |none=>False
 |op=>
  match (match op with|.indexAddr ty x i=>Mk t T ty (bU G s.sl x).aL (bU G s.sl i).aL|_=>none) with
  |some (c,ds)=>mI true (dm (fu G s.sl op.operands.toList)∧c) ds (fun ds=>K (.ep ds) s.bx)
  |none=>match Tq t T (fun x=>(bU G s.sl x).aL) op s.bx with
   |some ⟨c,v,b⟩=>bif D9 (fun x=>(bU G s.sl x).aL) op then Mj (dm (fu G s.sl op.operands.toList)∧c) v (dz s.bx b) K
    else (dm (fu G s.sl op.operands.toList)∧c)∧K v (dz s.bx b)
   |none=>False
def mA (dr g:Bool) (o:Oper) (s:St) (K:AV→Prop):Prop:=
 match o.op with
 |.pick c a b=>match (bU G s.sl c).aL with
  |.d (.bool p)=>uD g ((bU G s.sl c).ok∧Ir p (bU G s.sl a).ok (bU G s.sl b).ok)∧K (B5 t p (bU G s.sl a).aL (bU G s.sl b).aL)
  |_=>False
 |.call {callee:=.value f,args,..}=>match kU (bU G s.sl f).aL (args.toList.map fun x=>(bU G s.sl x).aL) with
  |some (i,as)=>rE FC dr g ((bU G s.sl f).ok∧dm (fu G s.sl args.toList)) i as s.bx (oW t s.bx as) (fun v=>K v)
  |none=>False
 |.call {callee:=.invoke r nm,args,..}=>match RH T (bU G s.sl r).aL with
  |some (n,i,v)=>QU n nm (rE FC true g ((bU G s.sl r).ok∧dm (fu G s.sl args.toList)) i (v::(args.toList.map fun x=>(bU G s.sl x).aL)) s.bx (oW t s.bx (v::(args.toList.map fun x=>(bU G s.sl x).aL))) (fun v=>K v))
  |none=>False
 |.load ty a=>
  match rowAt t (bU G s.sl a).aL s.bx with
  |some (c,ds,j)=>yo g ((bU G s.sl a).ok∧c) ds (fun ds=>match T ty with
   |some ti=>match cB ti.kd.isAgg ti.size ((ds.drop j).map .d) with
    |some v=>K v
    |none=>False
   |none=>False)
  |none=>match Tq t T (fun x=>(bU G s.sl x).aL) (.load ty a) s.bx with
   |some ⟨c,v,none⟩=>uD g (dm (fu G s.sl (Op.load ty a).operands.toList)∧c)∧K v
   |_=>False
 |op=>
  match (match op with|.indexAddr ty x i=>Mk t T ty (bU G s.sl x).aL (bU G s.sl i).aL|_=>none) with
  |some (c,ds)=>mI g (dm (fu G s.sl op.operands.toList)∧c) ds (fun ds=>K (.ep ds))
  |none=>match Tq t T (fun x=>(bU G s.sl x).aL) op s.bx with
   |some ⟨c,v,none⟩=>bif D9 (fun x=>(bU G s.sl x).aL) op then QS g (dm (fu G s.sl op.operands.toList)∧c) v K
    else uD g (dm (fu G s.sl op.operands.toList)∧c)∧K v
   |_=>match RF t T (fun x=>(bU G s.sl x).aL) op with
    |some (c,es)=>uD g (dm (fu G s.sl op.operands.toList)∧c)∧K (.d (.sl es))
    |none=>False
def mT (sl:List (Nat×AV)) (ops:List Oper) (j:Nat) (want:Bool):Option Bool:=
 match ops[j]? with
 |some o=>match o.dst with
  |some u=>match fU u sl with
   |.d (.bool q)=>some (bif want then q else t _ fun _=>!q)
   |.cond g (.d (.bool q))=>some (t _ fun _=>g&&(bif want then q else !q))
   |_=>none
  |none=>none
 |none=>none
def Mm (ops:List Oper):List Oper→(Ex→St→Prop)→St→Prop
 |[],Q,s=>Q .normal s
 |o::rest,Q,s=>bif gx N o.dst then
  match o.guard with
  |none=>stepT t FC T G o s (fun v bx=>Mm ops rest Q ⟨ej o.dst v s.sl,bx⟩) Q
  |some (j,want)=>match mT t s.sl ops j want with
   |some g=>mA t FC T G false g o s (fun v=>Mm ops rest Q ⟨ej o.dst (.cond g v) s.sl,s.bx⟩)
   |none=>False
  else False
def Mn (o:Oper) (sl:List (Nat×AV)) (gD:List ay) (x:Nat) (K:AV→ay→Prop):Prop:=
 match o.op with
 |.call {callee:=.value f,args,..}=>match kU (bU G sl f).aL (args.toList.map fun x=>(bU G sl x).aL) with
  |some (i,as)=>QT FC ((bU G sl f).ok∧dm (fu G sl args.toList)) i as (oW t gD as) gD[x]? x K
  |none=>False
 |_=>False
def qN (ops:List Oper) (base:Nat):List Bool→List ay→Nat→List Oper→(Ex→St→Prop)→St→Prop
 |_,_,_,[],Q,s=>Q .normal s
 |[],_,_,_::_,_,_=>False
 |f::fs,gD,k,o::rest,Q,s=>bif gx N o.dst then
  bif f then match o.guard with
   |none=>stepT t FC T G o s (fun v bx=>qN ops base fs bx k rest Q ⟨ej o.dst v s.sl,bx⟩) Q
   |some (j,want)=>match mT t s.sl ops j want with
    |some g=>mA t FC T G true g o s (fun v=>qN ops base fs s.bx k rest Q ⟨ej o.dst (.cond g v) s.sl,s.bx⟩)
    |none=>False
  else match gL T G s.sl o with
   |some cs=>match gD[base+k]? with
    |some .bt=>qN ops base fs gD (k+1) rest Q ⟨ej o.dst (.ptr (base+k) 0) s.sl,s.bx.set (base+k) (.var cs)⟩
    |_=>False
   |none=>match o.guard with
    |none=>bif Ml o.op then mA t FC T G true true o ⟨s.sl,gD⟩ (fun v=>qN ops base fs gD k rest Q ⟨ej o.dst v s.sl,s.bx⟩)∨
     Mn t FC G o s.sl gD (base+k) (fun v B=>qN ops base fs gD (k+1) rest Q ⟨ej o.dst v s.sl,s.bx.set (base+k) B⟩)
     else mA t FC T G true true o ⟨s.sl,gD⟩ (fun v=>qN ops base fs gD k rest Q ⟨ej o.dst v s.sl,s.bx⟩)
    |some (j,want)=>match mT t s.sl ops j want with
     |some g=>mA t FC T G true g o ⟨s.sl,gD⟩ (fun v=>qN ops base fs gD k rest Q ⟨ej o.dst (.cond g v) s.sl,s.bx⟩)
     |none=>False
  else False
def B7 (i:Nat) (s:St):Option (Prop×St):=match T4 t s.bx (fU i s.sl) with
 |some (c,y)=>some (c,⟨put i y s.sl,(fU i s.sl).cq s.bx⟩)
 |none=>none
def Mo (k:Option Nat) (s:St) (K:St→Prop):Prop:=match k with
 |none=>K s
 |some i=>match B7 t i s with
  |some (c,s1)=>c∧K s1
  |none=>False
def rF (ops:List Oper) (i:Nat) (K:St→Prop) (Q:Ex→St→Prop) (s:St):Prop:=match ops[i]? with
 |some o=>bif gx N o.dst then match o.guard with
  |none=>stepT t FC T G o s (fun v bx=>K ⟨ej o.dst v s.sl,bx⟩) Q
  |some (j,want)=>match mT t s.sl ops j want with
   |some g=>ue (.d (.bool g)) (fun _=>stepT t FC T G o s (fun v bx=>K ⟨ej o.dst (.cond true v) s.sl,bx⟩) Q) (fun _=>K ⟨ej o.dst (.cond false .any) s.sl,s.bx⟩)
   |none=>False
  else False
 |none=>False
def Eb (ops:List Oper) (Q:Ex→St→Prop) (R:St→Prop):OT→St→Prop
 |.done,s=>R s
 |.one i o,s=>rF t FC T G N ops i (Eb ops Q R o) Q s
 |.more i o r,s=>rF t FC T G N ops i (Eb ops Q R o) Q s∧Eb ops Q R r s
inductive yq (ops:List Oper) (Q:Ex→St→Prop) (S:List St) (s:St):List (Nat×Nat)→Prop
 |nil:yq ops Q S s []
 |cons {p i:Nat} {r:List (Nat×Nat)} {s0:St} (hs:S[p]?=some s0) (h:rF t FC T G N ops i (fun s1=>(⟨zX s1.sl,s1.bx⟩:St)=s) Q s0) (hr:yq ops Q S s r):yq ops Q S s ((p,i)::r)
inductive Ab (ops:List Oper) (Q:Ex→St→Prop) (S:List St):Nat→List Nd→Prop
 |nil {k:Nat}:Ab ops Q S k []
 |cons {k:Nat} {nd:Nd} {r:List Nd} {s:St} (hs:S[k]?=some s) (hp:yq t FC T G N ops Q S s nd.ps) (hr:Ab ops Q S (k+1) r):Ab ops Q S k (nd::r)
inductive Pb (ops:List Oper) (Q:Ex→St→Prop) (s:St) (pl:List Nd) (S:List St):Prop
 |mk (first:S[0]?=some s) (all:Ab t FC T G N ops Q S 1 pl):Pb ops Q s pl S
 |wD {s0:St} (ks:List Nat) (eq:(⟨vj ks s.sl,s.bx⟩:St)=s0) (first:S[0]?=some s0) (all:Ab t FC T G N ops Q S 1 pl):Pb ops Q s pl S
def Iu (ops:List Oper) (Q:Ex→St→Prop) (s:St):Prop:=
 AQ ops (fun k fs=>Mo t k s fun s=>qN t FC T G N ops s.bx.length fs (s.bx++List.replicate (nu ops) .bt) 0 ops Q ⟨s.sl,s.bx++List.replicate (nu ops) .bt⟩) (fun pre=>As G N ops pre s.sl=true)
  (fun tr s1=>Eb t FC T G N ops Q (fun s=>(⟨zX s.sl,s.bx⟩:St)=s1) tr s) (fun s1=>Q .normal s1) (fun pl S=>Pb t FC T G N ops Q s pl S)
end
section
variable {FC:Nat→List AV→List ay→iy→List ay→Prop} {T:Nat→Option TI} {G:Nat→Option (List D)} {N:Nat}
theorem nL (sl:List (Nat×AV)) (ops:List Oper) (j:Nat) (want:Bool):mT t0 sl ops j want=guardOf sl ops j want:=by
 unfold mT guardOf;rfl
theorem Iv {ti:TI} {a:AV} {bx:List ay} {c:Prop} {ds:List D} {j:Nat} (h:rowAt t0 a bx=some (c,ds,j)) (hc:c) {v:AV} (hv:cB ti.kd.isAgg ti.size ((ds.drop j).map .d)=some v):mS (n8 ti a bx) v none:=by
 unfold rowAt at h
 split at h
 ·rename_i b sz i j'
  split at h
  ·rename_i s es hb
   cases hs:Nat.beq s sz with
   |false=>simp [hs] at h
   |true=>
   simp only [hs,cond_true,osI,Prod.mk.injEq] at h
   obtain ⟨rfl,rfl,rfl⟩:=h
   have Wo:cB ti.kd.isAgg ti.size (((es.getD i []).drop j').map .d)=some v:=hv
   simp only [n8,hb,Wo]
   exact ⟨_,rfl,Nat.eq_of_beq_eq_true hs,hc⟩
  ·rename_i s es hb
   cases hs:Nat.beq s sz with
   |false=>simp [hs] at h
   |true=>
   simp only [hs,cond_true,osI,Prod.mk.injEq] at h
   obtain ⟨rfl,rfl,rfl⟩:=h
   have Wo:cB ti.kd.isAgg ti.size (((es.getD i []).drop j').map .d)=some v:=hv
   simp only [n8,hb,Wo]
   exact ⟨_,rfl,Nat.eq_of_beq_eq_true hs,hc⟩
  simp at h
 simp at h
theorem Iw (T:Nat→Option TI) (G:Nat→Option (List D)) (s:St) (op:Op):(match op with|.indexAddr ty x i=>Mk t0 T ty (bU G s.sl x).aL (bU G s.sl i).aL|_=>none)=(match op with|.indexAddr ty x i=>xj T ty (bU G s.sl x).aL (bU G s.sl i).aL|_=>none):=by
 cases op<;>first|rfl|exact RE
theorem Pc {kO:Prop} {f:Nat} {args:List AV} {bx:List ay} {K K':AV→List ay→Prop} {Kp:AV→List ay→Prop} (hK:∀v bx,K v bx→K' v bx)
 (h:oc FC kO f args (oW t0 bx args) bx K Kp):Lj FC kO f args bx K' Kp:=by
 obtain ⟨h0,h|h⟩:=h
 ·obtain ⟨c,args',h1,h2,h3,h4⟩:=h
  refine ⟨h0,.inl ⟨args',fY h1 h2,h3,?_⟩⟩
  rcases h4 with ⟨v,k1,k2,k3⟩|⟨sz,n,es,k1,k2,k3⟩
  ·exact .inl ⟨v,k1,k2,hK _ _ k3⟩
  exact .inr ⟨sz,n,es,k1,k2,hK _ _ k3⟩
 obtain ⟨args',oA,res,oB,h1,h2,h3⟩:=h
 refine ⟨h0,.inr ⟨args',oA,res,oB,?_,h2,?_⟩⟩
 ·rcases h1 with h1|⟨⟨c,k1,k2⟩,k3⟩
  ·exact .inl h1
  exact .inr ⟨fY k1 k2,k3⟩
 cases res with
 |ret v=>exact hK _ _ h3
 |Jl v=>exact h3
theorem Ec {te:TI} {zS:Bool} {K K':AV→Prop} (hK:∀v,K v→K' v) {o:Option (List D)} (h:nt te zS K o):nt te zS K' o:=by
 cases o with
 |none=>
  simp only [nt] at h ⊢
  split at h
  ·exact hK _ h
  exact h.elim
 |some ds=>
  simp only [nt] at h ⊢
  split at h
  ·exact hK _ h
  exact h.elim
theorem wP {o:Oper} {s:St} {K K':AV→List ay→Prop} {Q:Ex→St→Prop} (hK:∀v bx,K v bx→K' v bx) (h:stepT t0 FC T G o s K Q):oC FC T G o s K' Q:=by
 unfold stepT at h
 unfold oC
 split at h
 ·rename_i c a b ho
  simp only [ho]
  split at h
  ·rename_i p hc
   simp only [hc]
   rw [D7] at h
   exact ⟨⟨h.1.1,h.1.2.ok⟩,hK _ _ h.2⟩
  exact h.elim
 ·rename_i f args ats ho
  simp only [ho]
  split at h
  ·rename_i i as hf
   simp only [hf]
   exact Pc hK h
  exact h.elim
 ·rename_i x ho
  simp only [ho]
  split at h
  ·rename_i ty v hx;simp only [hx];exact h
  exact h.elim
 ·rename_i ty x ho
  simp only [ho]
  split at h
  ·rename_i ti ht
   simp only [ht]
   split at h
   ·rename_i str hk hx;simp only [hk,hx];exact ⟨h.1,hK _ _ h.2⟩
   exact h.elim
  exact h.elim
 ·rename_i it ho
  simp only [ho]
  split at h
  ·rename_i b hx
   simp only [hx]
   split at h
   ·rename_i str pos hb
    simp only [hb]
    exact ⟨h.1,⟨fun hp=>hK _ _ (h.2.ok.1 hp),fun hp=>hK _ _ (h.2.ok.2 hp)⟩⟩
   exact h.elim
  exact h.elim
 ·rename_i ty x t2 ho
  simp only [ho]
  split at h
  ·rename_i ti FI ht he
   simp only [ht,he]
   split at h
   ·rename_i e hk;simp only [hk];exact ⟨h.1,⟨fun b hb=>hK _ _ (h.2.ok b hb)⟩⟩
   exact h.elim
  exact h.elim
 ·rename_i ty x t2 ho
  simp only [ho]
  split at h
  ·rename_i ti FI ht he
   simp only [ht,he]
   split at h
   ·rename_i e hk;simp only [hk];exact ⟨h.1,⟨fun b hb=>hK _ _ (h.2.ok b hb)⟩⟩
   exact h.elim
  exact h.elim
 ·rename_i ty ho
  simp only [ho]
  split at h
  ·rename_i ti ht
   simp only [ht]
   split at h
   ·rename_i mk me hk
    simp only [hk]
    split at h
    ·rename_i te hte
     simp only [hte]
     exact hK _ _ h
    exact h.elim
   exact h.elim
  exact h.elim
 ·rename_i ty m k zS ho
  simp only [ho]
  split at h
  ·rename_i tk te ag es kd hm hk
   simp only [hm,hk]
   obtain ⟨o',hg,hk⟩:=h
   exact ⟨o',hg,Ec (fun v hv=>hK _ _ hv) hk⟩
  exact h.elim
 ·rename_i ty m k x ho
  simp only [ho]
  split at h
  ·rename_i b tk te ag es kd vs hm hk hc
   simp only [hm,hk,hc]
   split at h
   ·rename_i c Y7 DE TO
    obtain ⟨⟨g1,g2,g3,g4,g5⟩,g6⟩:=h
    simp only [DE,tg TO g2]
    exact ⟨⟨g1,g3,Nat.eq_of_beq_eq_true g4,g5⟩,hK _ _ g6⟩
   exact h.elim
  exact h.elim
 ·rename_i ty a ho
  simp only [ho]
  split at h
  ·rename_i c ds j hr
   obtain ⟨ds',hg,hk⟩:=h
   obtain ⟨⟨h1,h2⟩,rfl⟩:=hg rfl
   split at hk
   ·rename_i ti ht
    split at hk
    ·rename_i v hv
     obtain ⟨c',e,uc⟩:=Iv hr h2 hv
     simp only [CW,iA,cond_false,kx,ht,e]
     exact ⟨⟨⟨h1,trv⟩,uc⟩,hK _ _ hk⟩
    exact hk.elim
   exact hk.elim
  split at h
  ·rename_i c v b hr
   obtain ⟨⟨h1,h2⟩,h3⟩:=h
   obtain ⟨c',e,uc⟩:=Ip hr h2
   simp only [e]
   exact ⟨⟨h1,uc⟩,hK _ _ h3⟩
  exact h.elim
 rename_i e1 e2 e3 e4 e5 e6 e7 m1 m2 m3 e8
 split
 ·rename_i ho;exact absurd ho (e1 _ _ _)
 ·rename_i ho;exact absurd ho (e2 _ _ _)
 ·rename_i ho;exact absurd ho (e3 _)
 ·rename_i ho;exact absurd ho (e4 _ _)
 ·rename_i ho;exact absurd ho (e5 _)
 ·rename_i ho;exact absurd ho (e6 _ _ _)
 ·rename_i ho;exact absurd ho (e7 _ _ _)
 ·rename_i ho;exact absurd ho (m1 _)
 ·rename_i ho;exact absurd ho (m2 _ _ _ _)
 ·rename_i ho;exact absurd ho (m3 _ _ _ _)
 have hm:=Iw T G s o.op
 show match (match o.op with|.indexAddr ty x i=>xj T ty (bU G s.sl x).aL (bU G s.sl i).aL|_=>none) with
  |some (c,ds)=>mI true (dm (fu G s.sl o.op.operands.toList)∧c) ds (fun ds=>K' (.ep ds) s.bx)
  |none=>match CW T (fun x=>(bU G s.sl x).aL) o.op s.bx with
   |some ⟨c,v,b⟩=>(dm (fu G s.sl o.op.operands.toList)∧c)∧K' v (dz s.bx b)
   |none=>False
 split at h
 ·rename_i c ds hi
  rw [hm] at hi
  simp only [hi]
  obtain ⟨ds',hg,hk⟩:=h
  exact ⟨ds',hg,hK _ _ hk⟩
 rename_i hi
 rw [hm] at hi
 simp only [hi]
 split at h
 ·rename_i c v b hr
  have h:(dm (fu G s.sl o.op.operands.toList)∧c)∧K v (dz s.bx b):=by
   generalize D9 _ _=q at h
   cases q with
   |false=>exact h
   |true=>obtain ⟨v',aP,k1,rfl,rfl,k2⟩:=h;exact ⟨k1,k2⟩
  obtain ⟨⟨h1,h2⟩,h3⟩:=h
  obtain ⟨c',e,uc⟩:=Ip hr h2
  simp only [e]
  exact ⟨⟨h1,uc⟩,hK _ _ h3⟩
 exact h.elim
theorem Ed {dr g:Bool} {o:Oper} {s:St} {K:AV→Prop} (h:mA t0 FC T G dr g o s K):∃v,K v:=by
 unfold mA at h
 split at h
 ·split at h
  ·exact ⟨_,h.2⟩
  exact h.elim
 ·split at h
  ·obtain ⟨_,v,_,hK⟩|⟨v,_,hK⟩:=h
   ·exact ⟨v,hK⟩
   exact ⟨v,hK⟩
  exact h.elim
 ·split at h
  ·obtain ⟨_,⟨_,v,_,hK⟩|⟨v,_,hK⟩⟩:=h
   ·exact ⟨v,hK⟩
   exact ⟨v,hK⟩
  exact h.elim
 ·split at h
  ·obtain ⟨ds',_,hk⟩:=h
   split at hk
   ·split at hk
    ·exact ⟨_,hk⟩
    exact hk.elim
   exact hk.elim
  split at h
  ·exact ⟨_,h.2⟩
  exact h.elim
 split at h
 ·obtain ⟨ds,_,hK⟩:=h;exact ⟨_,hK⟩
 split at h
 ·generalize D9 _ _=q at h
  cases q with
  |false=>exact ⟨_,h.2⟩
  |true=>obtain ⟨v',_,k2⟩:=h;exact ⟨_,k2⟩
 split at h
 ·exact ⟨_,h.2⟩
 exact h.elim
theorem AR {dr g:Bool} {o:Oper} {s:St} {K K':AV→Prop} (hK:∀v,K v→K' v) (h:mA t0 FC T G dr g o s K):stepG FC T G g o s K'∨dr=false∧qW FC G g o s K':=by
 cases g with
 |false=>obtain ⟨v,h⟩:=Ed h;exact .inl (.inl ⟨rfl,v,hK v h⟩)
 |true=>
 by_cases QW:∃(f:Operand) (args:Array Operand) (ats:Array TypeId) (i:Nat) (as:List AV),o.op=.call {callee:=.value f,args:=args,argTypes:=ats}∧kU (bU G s.sl f).aL (args.toList.map fun x=>(bU G s.sl x).aL)=some (i,as)∧
  dr=false∧∃v,(true=true→((bU G s.sl f).ok∧dm (fu G s.sl args.toList))∧FC i as s.bx (.ret v) s.bx)∧K v
 ·obtain ⟨f,args,ats,i,as,ho,hf,hd,v,h1,h2⟩:=QW
  refine .inr ⟨hd,?_⟩
  unfold qW
  simp only [ho,hf]
  exact ⟨v,fun _=>h1 rfl,hK _ h2⟩
 by_cases T7:∃c es,zW T (fun x=>(bU G s.sl x).aL) o.op=some (c,es)∧(dm (fu G s.sl o.op.operands.toList)∧c)∧K (.d (.sl es))
 ·obtain ⟨c,es,h1,h2,h3⟩:=T7
  exact .inl (.inr (.inr ⟨c,es,h1,fun _=>h2,hK _ h3⟩))
 refine .inl (.inr (.inl ?_))
 unfold mA at h
 unfold uh
 split at h
 ·rename_i c a b ho
  simp only [ho]
  split at h
  ·rename_i p hc
   simp only [hc]
   rw [D7] at h
   have h1:true=true→(bU G s.sl c).ok∧(p=true→(bU G s.sl a).ok)∧(p=false→(bU G s.sl b).ok):=fun e=>⟨(h.1.ok e).1,(h.1.ok e).2.ok⟩
   exact ⟨fun _=>h1 rfl,hK _ h.2⟩
  exact h.elim
 ·rename_i f args ats ho
  simp only [ho]
  split at h
  ·rename_i i as hf
   simp only [hf]
   obtain ⟨hd,v,h1,h2⟩|⟨v,h1,h2⟩:=h
   ·exact absurd ⟨f,args,ats,i,as,ho,hf,hd,v,h1,h2⟩ QW
   refine ⟨v,fun hg=>?_,hK _ h2⟩
   obtain ⟨k1,args',iY,⟨c,k2,k3⟩,k4,k5,k6⟩:=h1 hg
   exact ⟨k1,args',iY,fY k2 k3,k4,k5,k6⟩
  exact h.elim
 ·rename_i f nm args ats ho
  simp only [ho]
  split at h
  ·rename_i n i v0 hf
   obtain ⟨rfl,h⟩:=h
   simp only [O9 _ hf]
   obtain ⟨hd,v,h1,h2⟩|⟨v,h1,h2⟩:=h
   ·cases hd
   refine ⟨v,fun hg=>?_,hK _ h2⟩
   obtain ⟨k1,args',iY,⟨c,k2,k3⟩,k4,k5,k6⟩:=h1 hg
   exact ⟨k1,args',iY,fY k2 k3,k4,k5,k6⟩
  exact h.elim
 ·rename_i ty a ho
  simp only [ho]
  split at h
  ·rename_i c ds j hr
   obtain ⟨ds',hg,hk⟩:=h
   obtain ⟨⟨h1,h2⟩,rfl⟩:=hg rfl
   split at hk
   ·rename_i ti ht
    split at hk
    ·rename_i v hv
     obtain ⟨c',e,uc⟩:=Iv hr h2 hv
     simp only [CW,iA,cond_false,kx,ht,e]
     exact ⟨fun _=>⟨⟨h1,trv⟩,uc⟩,hK _ hk⟩
    exact hk.elim
   exact hk.elim
  split at h
  ·rename_i c v hr
   obtain ⟨h1,h3⟩:=h
   have h1:true=true→dm (fu G s.sl (Op.load ty a).operands.toList)∧c:=h1.ok
   obtain ⟨c',e,uc⟩:=Ip hr (h1 rfl).2
   simp only [e]
   exact ⟨fun _=>⟨(h1 rfl).1,uc⟩,hK _ h3⟩
  exact h.elim
 rename_i e1 e2 Zh e3
 split
 ·rename_i ho;exact absurd ho (e1 _ _ _)
 ·rename_i ho;exact absurd ho (e2 _ _ _)
 ·rename_i ho;exact absurd ho (Zh _ _ _ _)
 have hm:=Iw T G s o.op
 split at h
 ·rename_i c ds hi
  rw [hm] at hi
  show match (match o.op with|.indexAddr ty x i=>xj T ty (bU G s.sl x).aL (bU G s.sl i).aL|_=>none) with
   |some (c,ds)=>mI true (dm (fu G s.sl o.op.operands.toList)∧c) ds (fun ds=>K' (.ep ds))
   |none=>match CW T (fun x=>(bU G s.sl x).aL) o.op s.bx with
    |some ⟨c,v,none⟩=>(true=true→dm (fu G s.sl o.op.operands.toList)∧c)∧K' v
    |_=>False
  simp only [hi]
  obtain ⟨ds',hg,hk⟩:=h
  exact ⟨ds',hg,hK _ hk⟩
 rename_i hi
 rw [hm] at hi
 show match (match o.op with|.indexAddr ty x i=>xj T ty (bU G s.sl x).aL (bU G s.sl i).aL|_=>none) with
  |some (c,ds)=>mI true (dm (fu G s.sl o.op.operands.toList)∧c) ds (fun ds=>K' (.ep ds))
  |none=>match CW T (fun x=>(bU G s.sl x).aL) o.op s.bx with
   |some ⟨c,v,none⟩=>(true=true→dm (fu G s.sl o.op.operands.toList)∧c)∧K' v
   |_=>False
 simp only [hi]
 split at h
 ·rename_i c v hr
  have h:uD true (dm (fu G s.sl o.op.operands.toList)∧c)∧K v:=by
   generalize D9 _ _=q at h
   cases q with
   |false=>exact h
   |true=>obtain ⟨v',k0,k2⟩:=h;obtain ⟨k1,rfl⟩:=k0 rfl;exact ⟨⟨fun _=>k1⟩,k2⟩
  obtain ⟨h1,h3⟩:=h
  have h1:true=true→dm (fu G s.sl o.op.operands.toList)∧c:=h1.ok
  obtain ⟨c',e,uc⟩:=Ip hr (h1 rfl).2
  simp only [e]
  exact ⟨fun _=>⟨(h1 rfl).1,uc⟩,hK _ h3⟩
 split at h
 ·rename_i c es ha
  rw [RG] at ha
  exact absurd ⟨c,es,ha,h.1.ok rfl,h.2⟩ T7
 exact h.elim
theorem tq {g:Bool} {o:Oper} {s:St} {K K':AV→Prop} (hK:∀v,K v→K' v) (h:mA t0 FC T G true g o s K):stepG FC T G g o s K':=by
 rcases AR hK h with h|⟨h,_⟩
 ·exact h
 cases h
theorem Gs {ops:List Oper} {Q:Ex→St→Prop}:∀(l:List Oper) (s:St),Mm t0 FC T G N ops l Q s→C3 FC T G N ops l Q s
 |[],_,h=>h
 |o::l,s,h=>by
  unfold Mm at h
  unfold C3
  cases hd:gx N o.dst with
  |false=>simp [hd] at h
  |true=>
  simp only [hd,cond_true] at h ⊢
  split at h
  ·rename_i hg
   simp only [hg]
   exact wP (fun v bx hK=>Gs l _ hK) h
  rename_i j want hg
  simp only [hg]
  rw [nL] at h
  split at h
  ·rename_i g FJ
   simp only [FJ]
   rcases AR (fun v hK=>Gs l _ hK) h with h|⟨_,h⟩
   ·exact .inl h
   exact .inr h
  exact h.elim
theorem Pd {o:Oper} {sl:List (Nat×AV)} {gD:List ay} {x:Nat} {K K':AV→ay→Prop} (hK:∀v B,K v B→K' v B) (h:Mn t0 FC G o sl gD x K):kV FC G o sl gD x K':=by
 unfold Mn at h
 split at h
 ·rename_i f args ats ho
  split at h
  ·rename_i i as hf
   obtain ⟨args',sz,n,es,h1,⟨c,h2,h3⟩,h4,h5,h6,h7,h8⟩:=h
   exact ⟨f,args,ats,i,as,args',sz,n,es,ho,hf,h1,fY h2 h3,h4,h5,h6,h7,hK _ _ h8⟩
  exact h.elim
 exact h.elim
theorem kI {ops:List Oper} {b:List Nat} {base:Nat} {Q:Ex→St→Prop}:∀(l:List Oper) (gD:List ay) (k i:Nat) (s:St),qN t0 FC T G N ops base (lE b i l) gD k l Q s→mK FC T G N ops b base gD k i l Q s
 |[],_,_,_,_,h=>h
 |o::l,gD,k,i,s,h=>by
  unfold lE qN at h
  unfold mK
  cases hd:gx N o.dst with
  |false=>simp [hd] at h
  |true=>
  simp only [hd,cond_true] at h ⊢
  cases hb:barrier b i with
  |true=>
   simp only [hb,cond_true] at h ⊢
   split at h
   ·rename_i hg
    simp only [hg]
    exact wP (fun v bx hK=>kI l _ _ _ _ hK) h
   rename_i j want hg
   simp only [hg]
   rw [nL] at h
   split at h
   ·rename_i g FJ
    simp only [FJ]
    exact tq (fun v hK=>kI l _ _ _ _ hK) h
   exact h.elim
  |false=>
   simp only [hb,cond_false] at h ⊢
   split at h
   ·rename_i cs vn
    simp only [vn]
    split at h
    ·rename_i hu
     simp only [hu]
     exact kI l _ _ _ _ h
    exact h.elim
   rename_i vn
   simp only [vn]
   split at h
   ·rename_i hg
    simp only [hg]
    cases Oy:Ml o.op with
    |false=>
     simp only [Oy,cond_false] at h
     exact .inl (tq (fun v hK=>kI l _ _ _ _ hK) h)
    |true=>
     simp only [Oy,cond_true] at h
     rcases h with h|h
     ·exact .inl (tq (fun v hK=>kI l _ _ _ _ hK) h)
     exact .inr (Pd (fun v B hK=>kI l _ _ _ _ hK) h)
   rename_i j want hg
   simp only [hg]
   rw [nL] at h
   split at h
   ·rename_i g FJ
    simp only [FJ]
    exact tq (fun v hK=>kI l _ _ _ _ hK) h
   exact h.elim
theorem yu {ops:List Oper} {i:Nat} {K K':St→Prop} {Q:Ex→St→Prop} {s:St} (hK:∀s,K s→K' s) (h:rF t0 FC T G N ops i K Q s):vi FC T G N ops i K' Q s:=by
 unfold rF at h
 unfold vi
 cases ho:ops[i]? with
 |none=>rw [ho] at h;exact h.elim
 |some o=>
  rw [ho] at h
  simp only at h ⊢
  cases hd:gx N o.dst with
  |false=>rw [hd] at h;exact h.elim
  |true=>
   rw [hd] at h
   simp only [cond_true] at h ⊢
   cases hg:o.guard with
   |none=>
    rw [hg] at h
    simp only at h ⊢
    exact wP (fun v bx h=>hK _ h) h
   |some q=>
    obtain ⟨j,want⟩:=q
    rw [hg] at h
    simp only [nL] at h ⊢
    cases FJ:guardOf s.sl ops j want with
    |none=>rw [FJ] at h;exact h.elim
    |some g=>
     rw [FJ] at h
     simp only at h ⊢
     obtain ⟨h⟩:=h
     exact ⟨⟨fun e=>wP (fun v bx h=>hK _ h) (h.1 e),fun e=>hK _ (h.2 e)⟩⟩
theorem wQ {ops:List Oper} {Q:Ex→St→Prop} {R:St→Prop}:∀(tr:OT) (s:St),Eb t0 FC T G N ops Q R tr s→Jn FC T G N ops Q R tr s
 |.done,_,h=>h
 |.one i o,s,h=>yu (fun s h=>wQ o s h) h
 |.more i o r,s,h=>⟨yu (fun s h=>wQ o s h) h.1,wQ r s h.2⟩
theorem Ix {ops:List Oper} {Q:Ex→St→Prop} {S:List St} {s:St}:∀{l:List (Nat×Nat)},yq t0 FC T G N ops Q S s l→C5 FC T G N ops Q S s l
 |_,.nil=>trivial
 |_,.cons hs h hr=>by
  refine ⟨?_,Ix hr⟩
  rw [hs]
  exact yu (fun s h=>h) h
theorem Gt {ops:List Oper} {Q:Ex→St→Prop} {S:List St}:∀{k:Nat} {l:List Nd},Ab t0 FC T G N ops Q S k l→allM FC T G N ops Q S k l
 |_,_,.nil=>trivial
 |_,_,.cons hs hp hr=>by
  refine ⟨?_,Gt hr⟩
  rw [hs]
  exact Ix hp
theorem Pe {ops:List Oper} {Q:Ex→St→Prop} {s:St} (h:Iu t0 FC T G N ops Q s):Lp FC T G N ops Q s∨∃i c s1,B7 t0 i s=some (c,s1)∧c∧Lp FC T G N ops Q s1:=by
 obtain ⟨⟨pre,tr,s1,g1,g2,g3,g4⟩|⟨pl,S,s1,g1,gd,g4,g5⟩|⟨k,pre,late,fs,h0,⟨h1,rfl⟩,h2⟩⟩:=h
 ·exact .inl (.inl ⟨pre,tr,s1,g1,g2,wQ tr s g3,g4⟩)
 ·cases gd with
  |mk g2 g3=>exact .inl (.inr (.inl ⟨pl,S,s1,_,g1,⟨g2,.inl rfl⟩,g4,Gt g3,g5⟩))
  |wD ks ge g2 g3=>subst ge;exact .inl (.inr (.inl ⟨pl,S,s1,_,g1,⟨g2,.inr ⟨ks,rfl⟩⟩,g4,Gt g3,g5⟩))
 cases k with
 |none=>
  refine .inl<|.inr<|.inr ⟨pre,late,h0.imp id ?_,h1,kI _ _ _ _ _ h2⟩
  rintro ⟨g1,g2,g3,⟨_,g4⟩|rfl⟩
  ·exact ⟨g1,g2,g3,g4⟩
  exact ⟨g1,g2,g3,rfl⟩
 |some i=>
  right
  simp only [Mo] at h2
  split at h2
  ·rename_i c s1 hs
   refine ⟨i,c,s1,hs,h2.1,.inr<|.inr ⟨pre,late,?_,h1,kI _ _ _ _ _ h2.2⟩⟩
   rcases h0 with h0|⟨g1,g2,g3,⟨h0,_⟩|rfl⟩
   ·exact .inl h0
   ·cases h0
   exact .inr ⟨g1,g2,g3,rfl⟩
  exact h2.elim
end
end Dem
