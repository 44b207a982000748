/- Parts of a proof, joined. -/
import Derived.Test.YtjnbpclolnmimaaGreatDoorJ10
set_option linter.unusedSimpArgs false
set_option linter.unusedVariables false
set_option maxRecDepth 100000
set_option maxHeartbeats 4000000
open Go
namespace Dem
section
variable (t:Th)
def YS (bx:List ax):AV→Option (Prop×AV)
 |.cl es=>some (True,.d (.sl es))
 |.ow b sz n=>match (AV.ow b sz n).Tv t bx with
  |some (c,d)=>some (c,.d d)
  |none=>none
 |.vw b sz off n ca ex=>match (AV.vw b sz off n ca ex).yW t bx with
  |some (c,es)=>some (c,.d (.sl es))
  |none=>none
 |v=>some (True,v)
def Qs (bx:List ax):List AV→Option (Prop×List AV)
 |[]=>some (True,[])
 |x::xs=>match YS t bx x,Qs bx xs with
  |some (c,y),some (d,ys)=>some (c∧d,y::ys)
  |_,_=>none
def Mv (bx:List ax):AV→Option (Prop×AV)
 |.agg cs=>match Qs t bx cs with
  |some (c,ys)=>some (c,.agg ys)
  |none=>none
 |v=>YS t bx v
def rF (bx:List ax):List AV→Option (Prop×List AV)
 |[]=>some (True,[])
 |x::xs=>match Mv t bx x,rF bx xs with
  |some (c,y),some (d,ys)=>some (c∧d,y::ys)
  |_,_=>none
def DD (bx:List ax):AV→Option (Prop×AV)
 |.dF vs=>match rF t bx vs with
  |some (c,ys)=>some (c,.dF ys)
  |none=>none
 |v=>Mv t bx v
end
section
variable {bx:List ax}
theorem Ks {x y:AV} {c:Prop} (h:YS t0 bx x=some (c,y)) (hc:c):fz bx x=some y:=by
 unfold YS at h
 split at h
 ·simp only [osI,Prod.mk.injEq] at h;obtain ⟨rfl,rfl⟩:=h;rfl
 ·rename_i b sz n
  split at h
  ·rename_i c' d h1
   simp only [osI,Prod.mk.injEq] at h;obtain ⟨rfl,rfl⟩:=h
   simp only [fz,Qp h1 hc,Option.map_some]
  simp at h
 ·rename_i b sz off n ca ex
  split at h
  ·rename_i c' es h1
   simp only [osI,Prod.mk.injEq] at h;obtain ⟨rfl,rfl⟩:=h
   simp only [fz,jR h1 hc,Option.map_some]
  simp at h
 rename_i h1 h2 h3
 simp only [osI,Prod.mk.injEq] at h;obtain ⟨rfl,rfl⟩:=h
 unfold fz;split
 ·exact absurd rfl (h1 _)
 ·exact absurd rfl (h2 _ _ _)
 ·exact absurd rfl (h3 _ _ _ _ _ _)
 rfl
theorem Hw:∀{xs ys:List AV} {c:Prop},Qs t0 bx xs=some (c,ys)→c→JD bx xs=some ys
 |[],ys,c,h,_=>by simp [Qs] at h;simp [JD,h.2]
 |x::xs,ys,c,h,hc=>by
  simp only [Qs] at h
  split at h
  ·rename_i c1 y d ys' h1 h2
   simp only [osI,Prod.mk.injEq] at h
   obtain ⟨rfl,rfl⟩:=h
   simp [JD,Ks h1 hc.1,Hw h2 hc.2]
  simp at h
theorem Bm {x y:AV} {c:Prop} (h:Mv t0 bx x=some (c,y)) (hc:c):qN bx x=some y:=by
 unfold Mv at h
 split at h
 ·split at h
  ·rename_i cs c' ys h1
   simp only [osI,Prod.mk.injEq] at h
   obtain ⟨rfl,rfl⟩:=h
   simp [qN,Hw h1 hc]
  simp at h
 rename_i h1
 unfold qN;split
 ·exact absurd rfl (h1 _)
 exact Ks h hc
theorem gD:∀{xs ys:List AV} {c:Prop},rF t0 bx xs=some (c,ys)→c→eP bx xs=some ys
 |[],ys,c,h,_=>by simp [rF] at h;simp [eP,h.2]
 |x::xs,ys,c,h,hc=>by
  simp only [rF] at h
  split at h
  ·rename_i c1 y d ys' h1 h2
   simp only [osI,Prod.mk.injEq] at h
   obtain ⟨rfl,rfl⟩:=h
   simp [eP,Bm h1 hc.1,gD h2 hc.2]
  simp at h
theorem Kt {x y:AV} {c:Prop} (h:DD t0 bx x=some (c,y)) (hc:c):JL bx x=some y:=by
 unfold DD at h
 split at h
 ·split at h
  ·rename_i cs c' ys h1
   simp only [osI,Prod.mk.injEq] at h
   obtain ⟨rfl,rfl⟩:=h
   simp [JL,gD h1 hc]
  simp at h
 rename_i h1
 unfold JL;split
 ·exact absurd rfl (h1 _)
 exact Bm h hc
end
structure qi (FC:Nat→List AV→List ax→fm→List ax→Prop) (kV:Prop) (f:Nat) (args:List AV) (fz:Option (Prop×List AV)) (bx:List ax)
 (K:AV→List ax→Prop) (Kp:AV→List ax→Prop):Prop where
 ok:kV∧(
  (∃c args',fz=some (c,args')∧c∧AV.shut.nj args'=true∧
   (
    (∃v,FC f args' [] (.ret v) []∧(v.flat=true∨eP [] args=some args'∧v.shut=true)∧K v bx)∨
    (∃sz n es,FC f args' [] (.ret (.ow 0 sz n)) [.row sz es]∧((∀r∈es,∀x∈r,x.flat=true)∨eP [] args=some args')∧K (.ow bx.length sz n) (bx++[.row sz es]))))∨
  (∃args' tH res iG,(args'=args∧tH=bx∨(∃c,fz=some (c,args')∧c)∧tH=eF bx args)∧FC f args' tH res iG∧
   (match res with|.ret v=>K v iG|.Nk v=>Kp v iG)))
structure pH (FC:Nat→List AV→List ax→fm→List ax→Prop) (dr g:Bool) (kV:Prop) (f:Nat) (args:List AV) (bx:List ax) (fz:Option (Prop×List AV)) (K:AV→Prop):Prop where
 ok:(dr=false∧∃v,(g=true→kV∧FC f args bx (.ret v) bx)∧K v)∨∃v,(g=true→kV∧∃args' jz,(∃c,fz=some (c,args')∧c)∧AV.bL.cL jz args'=true∧(∃dt,dI dt jz jz=true∧(dt=true→eP [] args=some args'))∧
  (∀(i:Nat) (b:ax),jz[i]?=some b→b.born=true→∃b',bx[i]?=some b'∧b'.born=true∧(b.live=true→b'=b))∧FC f args' jz (.ret v) jz∧
  (v.flat=true∨eP [] args=some args'∧v.shut=true))∧K v
structure xG (g:Bool) (p:Prop):Prop where
 ok:g=true→p
structure Mw (p:Bool) (a b:Prop):Prop where
 ok:(p=true→a)∧(p=false→b)
theorem ak {p:Bool} {a b:Prop}:Mw p a b↔((p=true→a)∧(p=false→b)):=⟨fun h=>h.ok,fun h=>⟨h⟩⟩
structure Qt (g:Bool) (c:Prop) (ds:List D) (K:List D→Prop):Prop where
 ok:∃ds',(g=true→c∧ds=ds')∧K ds'
structure Qu (c:Prop) (v:AV) (bx:List ax) (K:AV→List ax→Prop):Prop where
 ok:∃v' aG,c∧v=v'∧bx=aG∧K v' aG
structure VK (g:Bool) (c:Prop) (v:AV) (K:AV→Prop):Prop where
 ok:∃v',(g=true→c∧v=v')∧K v'
def Hy (ev:Operand→AV) (o:Op):Bool:=bif iM ev o then (match o with
 |.slice _ _ _ _ _=>true
 |.call {callee:=.builtin b,..}=>match b with
  |.copy=>true
  |.clear=>true
  |.append=>true
  |_=>false
 |_=>false) else false
def Qv (t:Th) (T:Nat→Option TI) (ty:Nat) (x i:AV):Option (Prop×List D):=
 match T ty with
 |some ti=>match ti.kd,x,i with
  |.slice e,.d (.sl es),.d (.int _ z)=>match T e with
   |some te=>some (t Prop (fun _=>0≤z∧z<es.length∧(∀r∈es,r.length=te.size)),t _ fun _=>es.getD z.toNat [])
   |none=>none
  |.slice e,.cl es,.d (.int _ z)=>match T e with
   |some te=>some (t Prop (fun _=>0≤z∧z<es.length∧(∀r∈es,r.length=te.size)),t _ fun _=>es.getD z.toNat [])
   |none=>none
  |_,_,_=>none
 |none=>none
theorem WA {T:Nat→Option TI} {ty:Nat} {x i:AV}:Qv t0 T ty x i=An T ty x i:=by
 unfold Qv An;rfl
def WB (t:Th) (T:Nat→Option TI) (ev:Operand→AV):Op→Option (Prop×List (List D))
 |.call {callee:=.builtin b,args,argTypes}=>match b,args.toList,argTypes.toList with
  |.append,[x,y],[ty,u]=>match T ty,T u with
   |some ti,some tu=>match ti.kd,tu.kd with
    |.slice e,.slice _=>match T e with
     |some te=>bif eE te then match ev x,ev y with
      |.cl es,.cl (x0::xr)=>some (t Prop (fun _=>(es.length+(x0::xr).length)*te.bytes≤140737488355328∧(∀r∈es++(x0::xr),r.length=te.size)),t _ fun _=>es++(x0::xr))
      |_,_=>none
      else none
     |none=>none
    |_,_=>none
   |_,_=>none
  |_,_,_=>none
 |_=>none
theorem WC {T:Nat→Option TI} {ev:Operand→AV} {op:Op}:WB t0 T ev op=CO T ev op:=by
 unfold WB CO;rfl
def mQ (b:List Nat):Nat→List Oper→List Bool
 |_,[]=>[]
 |i,_::r=>barrier b i::mQ b (i+1) r
structure VL (FC:Nat→List AV→List ax→fm→List ax→Prop) (kV:Prop) (f:Nat) (args:List AV) (fz:Option (Prop×List AV)) (at_:Option ax) (x:Nat) (K:AV→ax→Prop):Prop where
 ok:∃args' sz n es,kV∧(∃c,fz=some (c,args')∧c)∧AV.shut.nj args'=true∧FC f args' [] (.ret (.ow 0 sz n)) [.row sz es]∧
  ((∀r∈es,∀x∈r,x.flat=true)∨eP [] args=some args')∧at_=some .bA∧K (.ow x sz n) (.row sz es)
structure VM (a b:String) (K:Prop):Prop where
 ok:a=b∧K
def WD (T:Nat→Option TI) (x:AV):Option (String×Nat×AV):=
 match x with
 |.tC ty v=>match T ty with
  |some ti=>match ti.inv with
   |some (n,i)=>some (n,i,v)
   |none=>none
  |none=>none
 |_=>none
theorem TE {T:Nat→Option TI} {x v:AV} {n:String} {i:Nat} (as:List AV) (h:WD T x=some (n,i,v)):Dc T x n as=some (i,v::as):=by
 unfold WD at h
 unfold Dc
 split at h
 ·split at h
  ·rename_i ti ht
   simp only [ht]
   split at h
   ·rename_i hi
    simp only [osI,Prod.mk.injEq] at h
    obtain ⟨rfl,rfl,rfl⟩:=h
    simp only [hi,if_true]
   cases h
  cases h
 cases h
def Qw:Op→Bool
 |.call {callee:=.value _,..}=>true
 |_=>false
structure DE (ops:List Oper) (A:Option Nat→List Bool→Prop) (X:List Nat→Prop) (B1:OT→St→Prop) (B2:St→Prop) (B3:List Nd→List St→Prop):Prop where
 ok:(∃(pre:List Nat) (tr:OT) (s1:St),(iN ops.toArray [] pre=true∧nv ops.toArray=true∧X pre)∧tr.fits pre ops=true∧B1 tr s1∧B2 s1)∨(∃(pl:List Nd) (S:List St) (s1:St),Gn ops.toArray pl=true∧B3 pl S∧S[pl.length]?=some s1∧B2 s1)∨∃k pre late fs,((pre=[]∧late=[])∨(iN ops.toArray [] pre=true∧nv ops.toArray=true∧uZ (cg pre 0 ops).toArray late=true∧(k=none∧X pre∨pre=[])))∧
  (Ma (gZ (cg pre 0 ops).toArray late 0 (cg pre 0 ops))∧mQ (cF (gZ (cg pre 0 ops).toArray late 0 (cg pre 0 ops)) []) 0 ops=fs)∧A k fs
theorem bJ {ops:List Oper} {A:Option Nat→List Bool→Prop} {X:List Nat→Prop} {B1:OT→St→Prop} {B2:St→Prop} {B3:List Nd→List St→Prop} (fs:List Bool) (h1:gK ops.toArray (cF ops []) 0 ops=true) (h2:mQ (cF ops []) 0 ops=fs) (h:A none fs):DE ops A X B1 B2 B3:=
 ⟨.inr<|.inr ⟨none,[],[],fs,.inl ⟨rfl,rfl⟩,by rw [pz,sH];exact ⟨⟨h1⟩,h2⟩,h⟩⟩
theorem vM {ops:List Oper} {A:Option Nat→List Bool→Prop} {X:List Nat→Prop} {B1:OT→St→Prop} {B2:St→Prop} {B3:List Nd→List St→Prop} (pre late:List Nat) (fs:List Bool) (hp:iN ops.toArray [] pre=true) (hs:nv ops.toArray=true) (hl:uZ (cg pre 0 ops).toArray late=true) (hx:X pre)
 (h1:gK (gZ (cg pre 0 ops).toArray late 0 (cg pre 0 ops)).toArray (cF (gZ (cg pre 0 ops).toArray late 0 (cg pre 0 ops)) []) 0 (gZ (cg pre 0 ops).toArray late 0 (cg pre 0 ops))=true)
 (h2:mQ (cF (gZ (cg pre 0 ops).toArray late 0 (cg pre 0 ops)) []) 0 ops=fs) (h:A none fs):DE ops A X B1 B2 B3:=
 ⟨.inr<|.inr ⟨none,pre,late,fs,.inr ⟨hp,hs,hl,.inl ⟨rfl,hx⟩⟩,⟨⟨h1⟩,h2⟩,h⟩⟩
theorem Qx {ops:List Oper} {A:Option Nat→List Bool→Prop} {X:List Nat→Prop} {B1:OT→St→Prop} {B2:St→Prop} {B3:List Nd→List St→Prop} (pre:List Nat) (fs:List Bool) (hp:iN ops.toArray [] pre=true) (hs:nv ops.toArray=true) (hx:X pre)
 (h1:gK (cg pre 0 ops).toArray (cF (cg pre 0 ops) []) 0 (cg pre 0 ops)=true) (h2:mQ (cF (cg pre 0 ops) []) 0 ops=fs) (h:A none fs):DE ops A X B1 B2 B3:=
 ⟨.inr<|.inr ⟨none,pre,[],fs,.inr ⟨hp,hs,rfl,.inl ⟨rfl,hx⟩⟩,by rw [sH];exact ⟨⟨h1⟩,h2⟩,h⟩⟩
theorem DF {ops:List Oper} {A:Option Nat→List Bool→Prop} {X:List Nat→Prop} {B1:OT→St→Prop} {B2:St→Prop} {B3:List Nd→List St→Prop} (pre:List Nat) (tr:OT) (s1:St) (hp:iN ops.toArray [] pre=true) (hs:nv ops.toArray=true) (hx:X pre) (hf:tr.fits pre ops=true) (h1:B1 tr s1) (h2:B2 s1):DE ops A X B1 B2 B3:=
 ⟨.inl ⟨pre,tr,s1,⟨hp,hs,hx⟩,hf,h1,h2⟩⟩
theorem VO {ops:List Oper} {A:Option Nat→List Bool→Prop} {X:List Nat→Prop} {B1:OT→St→Prop} {B2:St→Prop} {B3:List Nd→List St→Prop} (pl:List Nd) (S:List St) {s1:St} (hf:Gn ops.toArray pl=true) (h3:B3 pl S) (h1:S[pl.length]?=some s1) (h2:B2 s1):DE ops A X B1 B2 B3:=
 ⟨.inr<|.inl ⟨pl,S,s1,hf,h3,h1,h2⟩⟩
section
variable (t:Th) (FC:Nat→List AV→List ax→fm→List ax→Prop) (T:Nat→Option TI) (G:Nat→Option (List D)) (N:Nat)
def stepT (o:Oper) (s:St) (K:AV→List ax→Prop) (Q:Ex→St→Prop):Prop:=
 match o.op with
 |.pick c a b=>match (bW G s.sl c).aP with
  |.d (.bool p)=>((bW G s.sl c).ok∧Mw p (bW G s.sl a).ok (bW G s.sl b).ok)∧K (E0 t p (bW G s.sl a).aP (bW G s.sl b).aP) s.bx
  |_=>False
 |.call {callee:=.value f,args,..}=>match mA (bW G s.sl f).aP (args.toList.map fun x=>(bW G s.sl x).aP) with
  |some (i,as)=>qi FC ((bW G s.sl f).ok∧dh (fF G s.sl args.toList)) i as (rF t s.bx as) s.bx (fun v bx=>K v bx) (fun v bx=>Q (.panic v) ⟨[],bx⟩)
  |none=>False
 |.panic x=>match (bW G s.sl x).aP with
  |.tC ty v=>(bW G s.sl x).ok∧Q (.panic (.tC ty v)) ⟨[],s.bx⟩
  |_=>False
 |.range ty x=>match T ty with
  |some ti=>match ti.kd,(bW G s.sl x).aP with
   |.str,.d (.str str)=>(bW G s.sl x).ok∧K (.ptr s.bx.length 0) (s.bx++[.it str 0])
   |_,_=>False
  |none=>False
 |.next it true=>match (bW G s.sl it).aP with
  |.ptr b 0=>match s.bx[b]? with
   |some (.it str pos)=>(bW G s.sl it).ok∧PA str pos (fun c wd=>K (.dF [.d (.bool true),.d (.int .i64 (t _ fun _=>pos)),.d (.int .i32 (t _ fun _=>c))]) (s.bx.set b (.it str (t _ fun _=>pos+wd)))) (fun _=>K (.dF [.d (.bool false)]) s.bx)
   |_=>False
  |_=>False
 |.binOp .eql ty x (.const (.slice none 0 0)) _=>match T ty,Nl (bW G s.sl x).aP with
  |some ti,some JE=>match ti.kd with
   |.slice _=>(bW G s.sl x).ok∧L8 (t Prop fun _=>JE) (fun b=>K (.d (.bool b)) s.bx)
   |_=>False
  |_,_=>False
 |.binOp .neq ty x (.const (.slice none 0 0)) _=>match T ty,Nl (bW G s.sl x).aP with
  |some ti,some JE=>match ti.kd with
   |.slice _=>(bW G s.sl x).ok∧L8 (t Prop fun _=>JE) (fun b=>K (.d (.bool (t _ fun _=>!b))) s.bx)
   |_=>False
  |_,_=>False
 |.makeMap ty none=>match T ty with
  |some ti=>match ti.kd with
   |.map _ e=>match T e with
    |some te=>K (.Ai s.bx.length) (s.bx++[.mp te.kd.isAgg []])
    |none=>False
   |_=>False
  |none=>False
 |.lookup ty m k CI=>match Ao T ty (bW G s.sl m).aP s.bx,(bW G s.sl k).aP with
  |some (tk,te,ag,es),.d kd=>JK true (((bW G s.sl m).ok∧(bW G s.sl k).ok)∧(t Prop fun _=>wZ tk te ag es kd)) (t _ fun _=>wY es kd) (oX te CI (fun v=>K v s.bx))
  |_,_=>False
 |.mapUpdate ty m k x=>match ED T ty (bW G s.sl m).aP s.bx,(bW G s.sl k).aP,(bW G s.sl x).aP.cells? with
  |some (b,tk,te,ag,es),.d kd,some vs=>match cA vs,Bg t s.bx vs with
   |true,some (c,ds)=>(((bW G s.sl m).ok∧(bW G s.sl k).ok∧(bW G s.sl x).ok)∧c∧(t Prop fun _=>wZ tk te ag es kd)∧Nat.beq ds.length te.size=true∧(bW G s.sl x).aP.isAgg=ag)∧K .any (s.bx.set b (.mp ag (t _ fun _=>tE es kd ds)))
   |_,_=>False
  |_,_,_=>False
 |.load ty a=>
  match rowAt t (bW G s.sl a).aP s.bx with
  |some (c,ds,j)=>Qt true ((bW G s.sl a).ok∧c) ds (fun ds=>match T ty with
   |some ti=>match cC ti.kd.isAgg ti.size ((ds.drop j).map .d) with
    |some v=>K v s.bx
    |none=>False
   |none=>False)
  |none=>match Yk t T (fun x=>(bW G s.sl x).aP) (.load ty a) s.bx with
   |some ⟨c,v,b⟩=>(dh (fF G s.sl (Op.load ty a).operands.toList)∧c)∧K v (dz s.bx b)
   |none=>False
 |op=>
  match (match op with|.indexAddr ty x i=>Qv t T ty (bW G s.sl x).aP (bW G s.sl i).aP|_=>none) with
  |some (c,ds)=>ol true (dh (fF G s.sl op.operands.toList)∧c) ds (fun ds=>K (.ep ds) s.bx)
  |none=>match Yk t T (fun x=>(bW G s.sl x).aP) op s.bx with
   |some ⟨c,v,b⟩=>bif Hy (fun x=>(bW G s.sl x).aP) op then Qu (dh (fF G s.sl op.operands.toList)∧c) v (dz s.bx b) K
    else (dh (fF G s.sl op.operands.toList)∧c)∧K v (dz s.bx b)
   |none=>False
def nR (dr g:Bool) (o:Oper) (s:St) (K:AV→Prop):Prop:=
 match o.op with
 |.pick c a b=>match (bW G s.sl c).aP with
  |.d (.bool p)=>xG g ((bW G s.sl c).ok∧Mw p (bW G s.sl a).ok (bW G s.sl b).ok)∧K (E0 t p (bW G s.sl a).aP (bW G s.sl b).aP)
  |_=>False
 |.call {callee:=.value f,args,..}=>match mA (bW G s.sl f).aP (args.toList.map fun x=>(bW G s.sl x).aP) with
  |some (i,as)=>pH FC dr g ((bW G s.sl f).ok∧dh (fF G s.sl args.toList)) i as s.bx (rF t s.bx as) (fun v=>K v)
  |none=>False
 |.call {callee:=.invoke r nm,args,..}=>match WD T (bW G s.sl r).aP with
  |some (n,i,v)=>VM n nm (pH FC true g ((bW G s.sl r).ok∧dh (fF G s.sl args.toList)) i (v::(args.toList.map fun x=>(bW G s.sl x).aP)) s.bx (rF t s.bx (v::(args.toList.map fun x=>(bW G s.sl x).aP))) (fun v=>K v))
  |none=>False
 |.load ty a=>
  match rowAt t (bW G s.sl a).aP s.bx with
  |some (c,ds,j)=>Qt g ((bW G s.sl a).ok∧c) ds (fun ds=>match T ty with
   |some ti=>match cC ti.kd.isAgg ti.size ((ds.drop j).map .d) with
    |some v=>K v
    |none=>False
   |none=>False)
  |none=>match Yk t T (fun x=>(bW G s.sl x).aP) (.load ty a) s.bx with
   |some ⟨c,v,none⟩=>xG g (dh (fF G s.sl (Op.load ty a).operands.toList)∧c)∧K v
   |_=>False
 |op=>
  match (match op with|.indexAddr ty x i=>Qv t T ty (bW G s.sl x).aP (bW G s.sl i).aP|_=>none) with
  |some (c,ds)=>ol g (dh (fF G s.sl op.operands.toList)∧c) ds (fun ds=>K (.ep ds))
  |none=>match Yk t T (fun x=>(bW G s.sl x).aP) op s.bx with
   |some ⟨c,v,none⟩=>bif Hy (fun x=>(bW G s.sl x).aP) op then VK g (dh (fF G s.sl op.operands.toList)∧c) v K
    else xG g (dh (fF G s.sl op.operands.toList)∧c)∧K v
   |_=>match WB t T (fun x=>(bW G s.sl x).aP) op with
    |some (c,es)=>xG g (dh (fF G s.sl op.operands.toList)∧c)∧K (.d (.sl es))
    |none=>False
def oF (sl:List (Nat×AV)) (ops:List Oper) (j:Nat) (want:Bool):Option Bool:=
 match ops[j]? with
 |some o=>match o.dst with
  |some u=>match fY u sl with
   |.d (.bool q)=>some (bif want then q else t _ fun _=>!q)
   |.cond g (.d (.bool q))=>some (t _ fun _=>g&&(bif want then q else !q))
   |_=>none
  |none=>none
 |none=>none
def Ku (ops:List Oper):List Oper→(Ex→St→Prop)→St→Prop
 |[],Q,s=>Q .normal s
 |o::rest,Q,s=>bif fS N o.dst then
  match o.guard with
  |none=>stepT t FC T G o s (fun v bx=>Ku ops rest Q ⟨dV o.dst v s.sl,bx⟩) Q
  |some (j,want)=>match oF t s.sl ops j want with
   |some g=>nR t FC T G false g o s (fun v=>Ku ops rest Q ⟨dV o.dst (.cond g v) s.sl,s.bx⟩)
   |none=>False
  else False
def Qy (o:Oper) (sl:List (Nat×AV)) (hY:List ax) (x:Nat) (K:AV→ax→Prop):Prop:=
 match o.op with
 |.call {callee:=.value f,args,..}=>match mA (bW G sl f).aP (args.toList.map fun x=>(bW G sl x).aP) with
  |some (i,as)=>VL FC ((bW G sl f).ok∧dh (fF G sl args.toList)) i as (rF t hY as) hY[x]? x K
  |none=>False
 |_=>False
def tO (ops:List Oper) (base:Nat):List Bool→List ax→Nat→List Oper→(Ex→St→Prop)→St→Prop
 |_,_,_,[],Q,s=>Q .normal s
 |[],_,_,_::_,_,_=>False
 |f::fs,hY,k,o::rest,Q,s=>bif fS N o.dst then
  bif f then match o.guard with
   |none=>stepT t FC T G o s (fun v bx=>tO ops base fs bx k rest Q ⟨dV o.dst v s.sl,bx⟩) Q
   |some (j,want)=>match oF t s.sl ops j want with
    |some g=>nR t FC T G true g o s (fun v=>tO ops base fs s.bx k rest Q ⟨dV o.dst (.cond g v) s.sl,s.bx⟩)
    |none=>False
  else match ie T G s.sl o with
   |some cs=>match hY[base+k]? with
    |some .bA=>tO ops base fs hY (k+1) rest Q ⟨dV o.dst (.ptr (base+k) 0) s.sl,s.bx.set (base+k) (.var cs)⟩
    |_=>False
   |none=>match o.guard with
    |none=>bif Qw o.op then nR t FC T G true true o ⟨s.sl,hY⟩ (fun v=>tO ops base fs hY k rest Q ⟨dV o.dst v s.sl,s.bx⟩)∨
     Qy t FC G o s.sl hY (base+k) (fun v B=>tO ops base fs hY (k+1) rest Q ⟨dV o.dst v s.sl,s.bx.set (base+k) B⟩)
     else nR t FC T G true true o ⟨s.sl,hY⟩ (fun v=>tO ops base fs hY k rest Q ⟨dV o.dst v s.sl,s.bx⟩)
    |some (j,want)=>match oF t s.sl ops j want with
     |some g=>nR t FC T G true g o ⟨s.sl,hY⟩ (fun v=>tO ops base fs hY k rest Q ⟨dV o.dst (.cond g v) s.sl,s.bx⟩)
     |none=>False
  else False
def E6 (i:Nat) (s:St):Option (Prop×St):=match YS t s.bx (fY i s.sl) with
 |some (c,y)=>some (c,⟨put i y s.sl,(fY i s.sl).cz s.bx⟩)
 |none=>none
def Qz (k:Option Nat) (s:St) (K:St→Prop):Prop:=match k with
 |none=>K s
 |some i=>match E6 t i s with
  |some (c,s1)=>c∧K s1
  |none=>False
def uv (ops:List Oper) (i:Nat) (K:St→Prop) (Q:Ex→St→Prop) (s:St):Prop:=match ops[i]? with
 |some o=>bif fS N o.dst then match o.guard with
  |none=>stepT t FC T G o s (fun v bx=>K ⟨dV o.dst v s.sl,bx⟩) Q
  |some (j,want)=>match oF t s.sl ops j want with
   |some g=>wX (.d (.bool g)) (fun _=>stepT t FC T G o s (fun v bx=>K ⟨dV o.dst (.cond true v) s.sl,bx⟩) Q) (fun _=>K ⟨dV o.dst (.cond false .any) s.sl,s.bx⟩)
   |none=>False
  else False
 |none=>False
def Hz (ops:List Oper) (Q:Ex→St→Prop) (R:St→Prop):OT→St→Prop
 |.done,s=>R s
 |.one i o,s=>uv t FC T G N ops i (Hz ops Q R o) Q s
 |.more i o r,s=>uv t FC T G N ops i (Hz ops Q R o) Q s∧Hz ops Q R r s
inductive vN (ops:List Oper) (Q:Ex→St→Prop) (S:List St) (s:St):List (Nat×Nat)→Prop
 |nil:vN ops Q S s []
 |cons {p i:Nat} {r:List (Nat×Nat)} {s0:St} (hs:S[p]?=some s0) (h:uv t FC T G N ops i (fun s1=>(⟨CP s1.sl,s1.bx⟩:St)=s) Q s0) (hr:vN ops Q S s r):vN ops Q S s ((p,i)::r)
inductive Bn (ops:List Oper) (Q:Ex→St→Prop) (S:List St):Nat→List Nd→Prop
 |nil {k:Nat}:Bn ops Q S k []
 |cons {k:Nat} {nd:Nd} {r:List Nd} {s:St} (hs:S[k]?=some s) (hp:vN t FC T G N ops Q S s nd.ps) (hr:Bn ops Q S (k+1) r):Bn ops Q S k (nd::r)
structure WE (ops:List Oper) (Q:Ex→St→Prop) (s:St) (pl:List Nd) (S:List St):Prop where
 first:S[0]?=some s
 all:Bn t FC T G N ops Q S 1 pl
def Mx (ops:List Oper) (Q:Ex→St→Prop) (s:St):Prop:=
 DE ops (fun k fs=>Qz t k s fun s=>tO t FC T G N ops s.bx.length fs (s.bx++List.replicate (oY ops) .bA) 0 ops Q ⟨s.sl,s.bx++List.replicate (oY ops) .bA⟩) (fun pre=>De G N ops pre s.sl=true)
  (fun tr s1=>Hz t FC T G N ops Q (fun s=>(⟨CP s.sl,s.bx⟩:St)=s1) tr s) (fun s1=>Q .normal s1) (fun pl S=>WE t FC T G N ops Q s pl S)
end
section
variable {FC:Nat→List AV→List ax→fm→List ax→Prop} {T:Nat→Option TI} {G:Nat→Option (List D)} {N:Nat}
theorem pJ (sl:List (Nat×AV)) (ops:List Oper) (j:Nat) (want:Bool):oF t0 sl ops j want=guardOf sl ops j want:=by
 unfold oF guardOf;rfl
theorem My {ti:TI} {a:AV} {bx:List ax} {c:Prop} {ds:List D} {j:Nat} (h:rowAt t0 a bx=some (c,ds,j)) (hc:c) {v:AV} (hv:cC ti.kd.isAgg ti.size ((ds.drop j).map .d)=some v):oE (qd ti a bx) v none:=by
 unfold rowAt at h
 split at h
 ·rename_i b sz i j'
  split at h
  ·rename_i s es hb
   cases hs:Nat.beq s sz with
   |false=>simp [hs] at h
   |true=>
   simp only [hs,cond_true,osI,Prod.mk.injEq] at h
   obtain ⟨rfl,rfl,rfl⟩:=h
   have WG:cC ti.kd.isAgg ti.size (((es.getD i []).drop j').map .d)=some v:=hv
   simp only [qd,hb,WG]
   exact ⟨_,rfl,Nat.eq_of_beq_eq_true hs,hc⟩
  ·rename_i s es hb
   cases hs:Nat.beq s sz with
   |false=>simp [hs] at h
   |true=>
   simp only [hs,cond_true,osI,Prod.mk.injEq] at h
   obtain ⟨rfl,rfl,rfl⟩:=h
   have WG:cC ti.kd.isAgg ti.size (((es.getD i []).drop j').map .d)=some v:=hv
   simp only [qd,hb,WG]
   exact ⟨_,rfl,Nat.eq_of_beq_eq_true hs,hc⟩
  simp at h
 simp at h
theorem Mz (T:Nat→Option TI) (G:Nat→Option (List D)) (s:St) (op:Op):(match op with|.indexAddr ty x i=>Qv t0 T ty (bW G s.sl x).aP (bW G s.sl i).aP|_=>none)=(match op with|.indexAddr ty x i=>An T ty (bW G s.sl x).aP (bW G s.sl i).aP|_=>none):=by
 cases op<;>first|rfl|exact WA
theorem TF {kV:Prop} {f:Nat} {args:List AV} {bx:List ax} {K K':AV→List ax→Prop} {Kp:AV→List ax→Prop} (hK:∀v bx,K v bx→K' v bx)
 (h:qi FC kV f args (rF t0 bx args) bx K Kp):Py FC kV f args bx K' Kp:=by
 obtain ⟨h0,h|h⟩:=h
 ·obtain ⟨c,args',h1,h2,h3,h4⟩:=h
  refine ⟨h0,.inl ⟨args',gD h1 h2,h3,?_⟩⟩
  rcases h4 with ⟨v,k1,k2,k3⟩|⟨sz,n,es,k1,k2,k3⟩
  ·exact .inl ⟨v,k1,k2,hK _ _ k3⟩
  exact .inr ⟨sz,n,es,k1,k2,hK _ _ k3⟩
 obtain ⟨args',tH,res,iG,h1,h2,h3⟩:=h
 refine ⟨h0,.inr ⟨args',tH,res,iG,?_,h2,?_⟩⟩
 ·rcases h1 with h1|⟨⟨c,k1,k2⟩,k3⟩
  ·exact .inl h1
  exact .inr ⟨gD k1 k2,k3⟩
 cases res with
 |ret v=>exact hK _ _ h3
 |Nk v=>exact h3
theorem HA {te:TI} {CI:Bool} {K K':AV→Prop} (hK:∀v,K v→K' v) {o:Option (List D)} (h:oX te CI K o):oX te CI K' o:=by
 cases o with
 |none=>
  simp only [oX] at h ⊢
  split at h
  ·exact hK _ h
  exact h.elim
 |some ds=>
  simp only [oX] at h ⊢
  split at h
  ·exact hK _ h
  exact h.elim
theorem vO {o:Oper} {s:St} {K K':AV→List ax→Prop} {Q:Ex→St→Prop} (hK:∀v bx,K v bx→K' v bx) (h:stepT t0 FC T G o s K Q):qP FC T G o s K' Q:=by
 unfold stepT at h
 unfold qP
 split at h
 ·rename_i c a b ho
  simp only [ho]
  split at h
  ·rename_i p hc
   simp only [hc]
   rw [Hv] at h
   exact ⟨⟨h.1.1,h.1.2.ok⟩,hK _ _ h.2⟩
  exact h.elim
 ·rename_i f args ats ho
  simp only [ho]
  split at h
  ·rename_i i as hf
   simp only [hf]
   exact TF hK h
  exact h.elim
 ·rename_i x ho
  simp only [ho]
  split at h
  ·rename_i ty v hx;simp only [hx];exact h
  exact h.elim
 ·rename_i ty x ho
  simp only [ho]
  split at h
  ·rename_i ti ht
   simp only [ht]
   split at h
   ·rename_i str hk hx;simp only [hk,hx];exact ⟨h.1,hK _ _ h.2⟩
   exact h.elim
  exact h.elim
 ·rename_i it ho
  simp only [ho]
  split at h
  ·rename_i b hx
   simp only [hx]
   split at h
   ·rename_i str pos hb
    simp only [hb]
    exact ⟨h.1,⟨fun hp=>hK _ _ (h.2.ok.1 hp),fun hp=>hK _ _ (h.2.ok.2 hp)⟩⟩
   exact h.elim
  exact h.elim
 ·rename_i ty x t2 ho
  simp only [ho]
  split at h
  ·rename_i ti JE ht he
   simp only [ht,he]
   split at h
   ·rename_i e hk;simp only [hk];exact ⟨h.1,⟨fun b hb=>hK _ _ (h.2.ok b hb)⟩⟩
   exact h.elim
  exact h.elim
 ·rename_i ty x t2 ho
  simp only [ho]
  split at h
  ·rename_i ti JE ht he
   simp only [ht,he]
   split at h
   ·rename_i e hk;simp only [hk];exact ⟨h.1,⟨fun b hb=>hK _ _ (h.2.ok b hb)⟩⟩
   exact h.elim
  exact h.elim
 ·rename_i ty ho
  simp only [ho]
  split at h
  ·rename_i ti ht
   simp only [ht]
   split at h
   ·rename_i mk me hk
    simp only [hk]
    split at h
    ·rename_i te hte
     simp only [hte]
     exact hK _ _ h
    exact h.elim
   exact h.elim
  exact h.elim
 ·rename_i ty m k CI ho
  simp only [ho]
  split at h
  ·rename_i tk te ag es kd hm hk
   simp only [hm,hk]
   obtain ⟨o',hg,hk⟩:=h
   exact ⟨o',hg,HA (fun v hv=>hK _ _ hv) hk⟩
  exact h.elim
 ·rename_i ty m k x ho
  simp only [ho]
  split at h
  ·rename_i b tk te ag es kd vs hm hk hc
   simp only [hm,hk,hc]
   split at h
   ·rename_i c dsv CR YA
    obtain ⟨⟨g1,g2,g3,g4,g5⟩,g6⟩:=h
    simp only [CR,vK YA g2]
    exact ⟨⟨g1,g3,Nat.eq_of_beq_eq_true g4,g5⟩,hK _ _ g6⟩
   exact h.elim
  exact h.elim
 ·rename_i ty a ho
  simp only [ho]
  split at h
  ·rename_i c ds j hr
   obtain ⟨ds',hg,hk⟩:=h
   obtain ⟨⟨h1,h2⟩,rfl⟩:=hg rfl
   split at hk
   ·rename_i ti ht
    split at hk
    ·rename_i v hv
     obtain ⟨c',e,wW⟩:=My hr h2 hv
     simp only [Gd,iM,cond_false,lE,ht,e]
     exact ⟨⟨⟨h1,trivial⟩,wW⟩,hK _ _ hk⟩
    exact hk.elim
   exact hk.elim
  split at h
  ·rename_i c v b hr
   obtain ⟨⟨h1,h2⟩,h3⟩:=h
   obtain ⟨c',e,wW⟩:=Mu hr h2
   simp only [e]
   exact ⟨⟨h1,wW⟩,hK _ _ h3⟩
  exact h.elim
 rename_i e1 e2 e3 e4 e5 e6 e7 m1 m2 m3 e8
 split
 ·rename_i ho;exact absurd ho (e1 _ _ _)
 ·rename_i ho;exact absurd ho (e2 _ _ _)
 ·rename_i ho;exact absurd ho (e3 _)
 ·rename_i ho;exact absurd ho (e4 _ _)
 ·rename_i ho;exact absurd ho (e5 _)
 ·rename_i ho;exact absurd ho (e6 _ _ _)
 ·rename_i ho;exact absurd ho (e7 _ _ _)
 ·rename_i ho;exact absurd ho (m1 _)
 ·rename_i ho;exact absurd ho (m2 _ _ _ _)
 ·rename_i ho;exact absurd ho (m3 _ _ _ _)
 have hm:=Mz T G s o.op
 show match (match o.op with|.indexAddr ty x i=>An T ty (bW G s.sl x).aP (bW G s.sl i).aP|_=>none) with
  |some (c,ds)=>ol true (dh (fF G s.sl o.op.operands.toList)∧c) ds (fun ds=>K' (.ep ds) s.bx)
  |none=>match Gd T (fun x=>(bW G s.sl x).aP) o.op s.bx with
   |some ⟨c,v,b⟩=>(dh (fF G s.sl o.op.operands.toList)∧c)∧K' v (dz s.bx b)
   |none=>False
 split at h
 ·rename_i c ds hi
  rw [hm] at hi
  simp only [hi]
  obtain ⟨ds',hg,hk⟩:=h
  exact ⟨ds',hg,hK _ _ hk⟩
 rename_i hi
 rw [hm] at hi
 simp only [hi]
 split at h
 ·rename_i c v b hr
  have h:(dh (fF G s.sl o.op.operands.toList)∧c)∧K v (dz s.bx b):=by
   generalize Hy _ _=q at h
   cases q with
   |false=>exact h
   |true=>obtain ⟨v',aG,k1,rfl,rfl,k2⟩:=h;exact ⟨k1,k2⟩
  obtain ⟨⟨h1,h2⟩,h3⟩:=h
  obtain ⟨c',e,wW⟩:=Mu hr h2
  simp only [e]
  exact ⟨⟨h1,wW⟩,hK _ _ h3⟩
 exact h.elim
theorem HB {dr g:Bool} {o:Oper} {s:St} {K:AV→Prop} (h:nR t0 FC T G dr g o s K):∃v,K v:=by
 unfold nR at h
 split at h
 ·split at h
  ·exact ⟨_,h.2⟩
  exact h.elim
 ·split at h
  ·obtain ⟨_,v,_,hK⟩|⟨v,_,hK⟩:=h
   ·exact ⟨v,hK⟩
   exact ⟨v,hK⟩
  exact h.elim
 ·split at h
  ·obtain ⟨_,⟨_,v,_,hK⟩|⟨v,_,hK⟩⟩:=h
   ·exact ⟨v,hK⟩
   exact ⟨v,hK⟩
  exact h.elim
 ·split at h
  ·obtain ⟨ds',_,hk⟩:=h
   split at hk
   ·split at hk
    ·exact ⟨_,hk⟩
    exact hk.elim
   exact hk.elim
  split at h
  ·exact ⟨_,h.2⟩
  exact h.elim
 split at h
 ·obtain ⟨ds,_,hK⟩:=h;exact ⟨_,hK⟩
 split at h
 ·generalize Hy _ _=q at h
  cases q with
  |false=>exact ⟨_,h.2⟩
  |true=>obtain ⟨v',_,k2⟩:=h;exact ⟨_,k2⟩
 split at h
 ·exact ⟨_,h.2⟩
 exact h.elim
theorem DG {dr g:Bool} {o:Oper} {s:St} {K K':AV→Prop} (hK:∀v,K v→K' v) (h:nR t0 FC T G dr g o s K):stepG FC T G g o s K'∨dr=false∧tY FC G g o s K':=by
 cases g with
 |false=>obtain ⟨v,h⟩:=HB h;exact .inl (.inl ⟨rfl,v,hK v h⟩)
 |true=>
 by_cases VP:∃(f:Operand) (args:Array Operand) (ats:Array TypeId) (i:Nat) (as:List AV),o.op=.call {callee:=.value f,args:=args,argTypes:=ats}∧mA (bW G s.sl f).aP (args.toList.map fun x=>(bW G s.sl x).aP)=some (i,as)∧
  dr=false∧∃v,(true=true→((bW G s.sl f).ok∧dh (fF G s.sl args.toList))∧FC i as s.bx (.ret v) s.bx)∧K v
 ·obtain ⟨f,args,ats,i,as,ho,hf,hd,v,h1,h2⟩:=VP
  refine .inr ⟨hd,?_⟩
  unfold tY
  simp only [ho,hf]
  exact ⟨v,fun _=>h1 rfl,hK _ h2⟩
 by_cases YT:∃c es,CO T (fun x=>(bW G s.sl x).aP) o.op=some (c,es)∧(dh (fF G s.sl o.op.operands.toList)∧c)∧K (.d (.sl es))
 ·obtain ⟨c,es,h1,h2,h3⟩:=YT
  exact .inl (.inr (.inr ⟨c,es,h1,fun _=>h2,hK _ h3⟩))
 refine .inl (.inr (.inl ?_))
 unfold nR at h
 unfold w8
 split at h
 ·rename_i c a b ho
  simp only [ho]
  split at h
  ·rename_i p hc
   simp only [hc]
   rw [Hv] at h
   have h1:true=true→(bW G s.sl c).ok∧(p=true→(bW G s.sl a).ok)∧(p=false→(bW G s.sl b).ok):=fun e=>⟨(h.1.ok e).1,(h.1.ok e).2.ok⟩
   exact ⟨fun _=>h1 rfl,hK _ h.2⟩
  exact h.elim
 ·rename_i f args ats ho
  simp only [ho]
  split at h
  ·rename_i i as hf
   simp only [hf]
   obtain ⟨hd,v,h1,h2⟩|⟨v,h1,h2⟩:=h
   ·exact absurd ⟨f,args,ats,i,as,ho,hf,hd,v,h1,h2⟩ VP
   refine ⟨v,fun hg=>?_,hK _ h2⟩
   obtain ⟨k1,args',jz,⟨c,k2,k3⟩,k4,k5,k6⟩:=h1 hg
   exact ⟨k1,args',jz,gD k2 k3,k4,k5,k6⟩
  exact h.elim
 ·rename_i f nm args ats ho
  simp only [ho]
  split at h
  ·rename_i n i v0 hf
   obtain ⟨rfl,h⟩:=h
   simp only [TE _ hf]
   obtain ⟨hd,v,h1,h2⟩|⟨v,h1,h2⟩:=h
   ·cases hd
   refine ⟨v,fun hg=>?_,hK _ h2⟩
   obtain ⟨k1,args',jz,⟨c,k2,k3⟩,k4,k5,k6⟩:=h1 hg
   exact ⟨k1,args',jz,gD k2 k3,k4,k5,k6⟩
  exact h.elim
 ·rename_i ty a ho
  simp only [ho]
  split at h
  ·rename_i c ds j hr
   obtain ⟨ds',hg,hk⟩:=h
   obtain ⟨⟨h1,h2⟩,rfl⟩:=hg rfl
   split at hk
   ·rename_i ti ht
    split at hk
    ·rename_i v hv
     obtain ⟨c',e,wW⟩:=My hr h2 hv
     simp only [Gd,iM,cond_false,lE,ht,e]
     exact ⟨fun _=>⟨⟨h1,trivial⟩,wW⟩,hK _ hk⟩
    exact hk.elim
   exact hk.elim
  split at h
  ·rename_i c v hr
   obtain ⟨h1,h3⟩:=h
   have h1:true=true→dh (fF G s.sl (Op.load ty a).operands.toList)∧c:=h1.ok
   obtain ⟨c',e,wW⟩:=Mu hr (h1 rfl).2
   simp only [e]
   exact ⟨fun _=>⟨(h1 rfl).1,wW⟩,hK _ h3⟩
  exact h.elim
 rename_i e1 e2 e2' e3
 split
 ·rename_i ho;exact absurd ho (e1 _ _ _)
 ·rename_i ho;exact absurd ho (e2 _ _ _)
 ·rename_i ho;exact absurd ho (e2' _ _ _ _)
 have hm:=Mz T G s o.op
 split at h
 ·rename_i c ds hi
  rw [hm] at hi
  show match (match o.op with|.indexAddr ty x i=>An T ty (bW G s.sl x).aP (bW G s.sl i).aP|_=>none) with
   |some (c,ds)=>ol true (dh (fF G s.sl o.op.operands.toList)∧c) ds (fun ds=>K' (.ep ds))
   |none=>match Gd T (fun x=>(bW G s.sl x).aP) o.op s.bx with
    |some ⟨c,v,none⟩=>(true=true→dh (fF G s.sl o.op.operands.toList)∧c)∧K' v
    |_=>False
  simp only [hi]
  obtain ⟨ds',hg,hk⟩:=h
  exact ⟨ds',hg,hK _ hk⟩
 rename_i hi
 rw [hm] at hi
 show match (match o.op with|.indexAddr ty x i=>An T ty (bW G s.sl x).aP (bW G s.sl i).aP|_=>none) with
  |some (c,ds)=>ol true (dh (fF G s.sl o.op.operands.toList)∧c) ds (fun ds=>K' (.ep ds))
  |none=>match Gd T (fun x=>(bW G s.sl x).aP) o.op s.bx with
   |some ⟨c,v,none⟩=>(true=true→dh (fF G s.sl o.op.operands.toList)∧c)∧K' v
   |_=>False
 simp only [hi]
 split at h
 ·rename_i c v hr
  have h:xG true (dh (fF G s.sl o.op.operands.toList)∧c)∧K v:=by
   generalize Hy _ _=q at h
   cases q with
   |false=>exact h
   |true=>obtain ⟨v',k0,k2⟩:=h;obtain ⟨k1,rfl⟩:=k0 rfl;exact ⟨⟨fun _=>k1⟩,k2⟩
  obtain ⟨h1,h3⟩:=h
  have h1:true=true→dh (fF G s.sl o.op.operands.toList)∧c:=h1.ok
  obtain ⟨c',e,wW⟩:=Mu hr (h1 rfl).2
  simp only [e]
  exact ⟨fun _=>⟨(h1 rfl).1,wW⟩,hK _ h3⟩
 split at h
 ·rename_i c es ha
  rw [WC] at ha
  exact absurd ⟨c,es,ha,h.1.ok rfl,h.2⟩ YT
 exact h.elim
theorem vP {g:Bool} {o:Oper} {s:St} {K K':AV→Prop} (hK:∀v,K v→K' v) (h:nR t0 FC T G true g o s K):stepG FC T G g o s K':=by
 rcases DG hK h with h|⟨h,_⟩
 ·exact h
 cases h
theorem E7 {ops:List Oper} {Q:Ex→St→Prop}:∀(l:List Oper) (s:St),Ku t0 FC T G N ops l Q s→Gm FC T G N ops l Q s
 |[],_,h=>h
 |o::l,s,h=>by
  unfold Ku at h
  unfold Gm
  cases hd:fS N o.dst with
  |false=>simp [hd] at h
  |true=>
  simp only [hd,cond_true] at h ⊢
  split at h
  ·rename_i hg
   simp only [hg]
   exact vO (fun v bx hK=>E7 l _ hK) h
  rename_i j want hg
  simp only [hg]
  rw [pJ] at h
  split at h
  ·rename_i g JF
   simp only [JF]
   rcases DG (fun v hK=>E7 l _ hK) h with h|⟨_,h⟩
   ·exact .inl h
   exact .inr h
  exact h.elim
theorem TG {o:Oper} {sl:List (Nat×AV)} {hY:List ax} {x:Nat} {K K':AV→ax→Prop} (hK:∀v B,K v B→K' v B) (h:Qy t0 FC G o sl hY x K):mB FC G o sl hY x K':=by
 unfold Qy at h
 split at h
 ·rename_i f args ats ho
  split at h
  ·rename_i i as hf
   obtain ⟨args',sz,n,es,h1,⟨c,h2,h3⟩,h4,h5,h6,h7,h8⟩:=h
   exact ⟨f,args,ats,i,as,args',sz,n,es,ho,hf,h1,gD h2 h3,h4,h5,h6,h7,hK _ _ h8⟩
  exact h.elim
 exact h.elim
theorem lX {ops:List Oper} {b:List Nat} {base:Nat} {Q:Ex→St→Prop}:∀(l:List Oper) (hY:List ax) (k i:Nat) (s:St),tO t0 FC T G N ops base (mQ b i l) hY k l Q s→oo FC T G N ops b base hY k i l Q s
 |[],_,_,_,_,h=>h
 |o::l,hY,k,i,s,h=>by
  unfold mQ tO at h
  unfold oo
  cases hd:fS N o.dst with
  |false=>simp [hd] at h
  |true=>
  simp only [hd,cond_true] at h ⊢
  cases hb:barrier b i with
  |true=>
   simp only [hb,cond_true] at h ⊢
   split at h
   ·rename_i hg
    simp only [hg]
    exact vO (fun v bx hK=>lX l _ _ _ _ hK) h
   rename_i j want hg
   simp only [hg]
   rw [pJ] at h
   split at h
   ·rename_i g JF
    simp only [JF]
    exact vP (fun v hK=>lX l _ _ _ _ hK) h
   exact h.elim
  |false=>
   simp only [hb,cond_false] at h ⊢
   split at h
   ·rename_i cs zT
    simp only [zT]
    split at h
    ·rename_i hu
     simp only [hu]
     exact lX l _ _ _ _ h
    exact h.elim
   rename_i zT
   simp only [zT]
   split at h
   ·rename_i hg
    simp only [hg]
    cases S6:Qw o.op with
    |false=>
     simp only [S6,cond_false] at h
     exact .inl (vP (fun v hK=>lX l _ _ _ _ hK) h)
    |true=>
     simp only [S6,cond_true] at h
     rcases h with h|h
     ·exact .inl (vP (fun v hK=>lX l _ _ _ _ hK) h)
     exact .inr (TG (fun v B hK=>lX l _ _ _ _ hK) h)
   rename_i j want hg
   simp only [hg]
   rw [pJ] at h
   split at h
   ·rename_i g JF
    simp only [JF]
    exact vP (fun v hK=>lX l _ _ _ _ hK) h
   exact h.elim
theorem Bo {ops:List Oper} {i:Nat} {K K':St→Prop} {Q:Ex→St→Prop} {s:St} (hK:∀s,K s→K' s) (h:uv t0 FC T G N ops i K Q s):yE FC T G N ops i K' Q s:=by
 unfold uv at h
 unfold yE
 cases ho:ops[i]? with
 |none=>rw [ho] at h;exact h.elim
 |some o=>
  rw [ho] at h
  simp only at h ⊢
  cases hd:fS N o.dst with
  |false=>rw [hd] at h;exact h.elim
  |true=>
   rw [hd] at h
   simp only [cond_true] at h ⊢
   cases hg:o.guard with
   |none=>
    rw [hg] at h
    simp only at h ⊢
    exact vO (fun v bx h=>hK _ h) h
   |some q=>
    obtain ⟨j,want⟩:=q
    rw [hg] at h
    simp only [pJ] at h ⊢
    cases JF:guardOf s.sl ops j want with
    |none=>rw [JF] at h;exact h.elim
    |some g=>
     rw [JF] at h
     simp only at h ⊢
     obtain ⟨h⟩:=h
     exact ⟨⟨fun e=>vO (fun v bx h=>hK _ h) (h.1 e),fun e=>hK _ (h.2 e)⟩⟩
theorem z6 {ops:List Oper} {Q:Ex→St→Prop} {R:St→Prop}:∀(tr:OT) (s:St),Hz t0 FC T G N ops Q R tr s→Nn FC T G N ops Q R tr s
 |.done,_,h=>h
 |.one i o,s,h=>Bo (fun s h=>z6 o s h) h
 |.more i o r,s,h=>⟨Bo (fun s h=>z6 o s h) h.1,z6 r s h.2⟩
theorem MA {ops:List Oper} {Q:Ex→St→Prop} {S:List St} {s:St}:∀{l:List (Nat×Nat)},vN t0 FC T G N ops Q S s l→Gp FC T G N ops Q S s l
 |_,.nil=>trivial
 |_,.cons hs h hr=>by
  refine ⟨?_,MA hr⟩
  rw [hs]
  exact Bo (fun s h=>h) h
theorem QA {ops:List Oper} {Q:Ex→St→Prop} {S:List St}:∀{k:Nat} {l:List Nd},Bn t0 FC T G N ops Q S k l→allM FC T G N ops Q S k l
 |_,_,.nil=>trivial
 |_,_,.cons hs hp hr=>by
  refine ⟨?_,QA hr⟩
  rw [hs]
  exact MA hp
theorem TH {ops:List Oper} {Q:Ex→St→Prop} {s:St} (h:Mx t0 FC T G N ops Q s):PD FC T G N ops Q s∨∃i c s1,E6 t0 i s=some (c,s1)∧c∧PD FC T G N ops Q s1:=by
 obtain ⟨⟨pre,tr,s1,g1,g2,g3,g4⟩|⟨pl,S,s1,g1,⟨g2,g3⟩,g4,g5⟩|⟨k,pre,late,fs,h0,⟨h1,rfl⟩,h2⟩⟩:=h
 ·exact .inl (.inl ⟨pre,tr,s1,g1,g2,z6 tr s g3,g4⟩)
 ·exact .inl (.inr (.inl ⟨pl,S,s1,g1,g2,g4,QA g3,g5⟩))
 cases k with
 |none=>
  refine .inl<|.inr<|.inr ⟨pre,late,h0.imp id ?_,h1,lX _ _ _ _ _ h2⟩
  rintro ⟨g1,g2,g3,⟨_,g4⟩|rfl⟩
  ·exact ⟨g1,g2,g3,g4⟩
  exact ⟨g1,g2,g3,rfl⟩
 |some i=>
  right
  simp only [Qz] at h2
  split at h2
  ·rename_i c s1 hs
   refine ⟨i,c,s1,hs,h2.1,.inr<|.inr ⟨pre,late,?_,h1,lX _ _ _ _ _ h2.2⟩⟩
   rcases h0 with h0|⟨g1,g2,g3,⟨h0,_⟩|rfl⟩
   ·exact .inl h0
   ·cases h0
   exact .inr ⟨g1,g2,g3,rfl⟩
  exact h2.elim
end
end Dem
