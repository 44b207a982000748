/- Parts of a proof, joined. -/
import Derived.Test.YtihohjnkkalgiaaGreatDoorV03
import Derived.Scope
import Derived.Test.YtihohjnkkalgiaaGreatDoorProg
import Derived.KernelRfl
import Derived.Defers
set_option linter.all false
set_option maxRecDepth 100000
set_option maxHeartbeats 4000000
section
open Go
namespace Dem
section
variable (t:Th)
def Xt (bx:List az):AV→Option (Prop×AV)
 |.cl es=>some (True,.d (.sl es))
 |.ow b sz n=>match (AV.ow b sz n).Sr t bx with
  |some (c,d)=>some (c,.d d)
  |none=>none
 |.vw b sz off n ca ex=>match (AV.vw b sz off n ca ex).x9 t bx with
  |some (c,es)=>some (c,.d (.sl es))
  |none=>none
 |v=>some (True,v)
def Pp (bx:List az):List AV→Option (Prop×List AV)
 |[]=>some (True,[])
 |x::xs=>match Xt t bx x,Pp bx xs with
  |some (c,y),some (d,ys)=>some (c∧d,y::ys)
  |_,_=>none
def Ln (bx:List az):AV→Option (Prop×AV)
 |.agg cs=>match Pp t bx cs with
  |some (c,ys)=>some (c,.agg ys)
  |none=>none
 |v=>Xt t bx v
def qp (bx:List az):List AV→Option (Prop×List AV)
 |[]=>some (True,[])
 |x::xs=>match Ln t bx x,qp bx xs with
  |some (c,y),some (d,ys)=>some (c∧d,y::ys)
  |_,_=>none
def Pq (bx:List az):AV→Option (Prop×AV)
 |.dV vs=>match qp t bx vs with
  |some (c,ys)=>some (c,.dV ys)
  |none=>none
 |v=>Ln t bx v
end
section
variable {bx:List az}
theorem Je {x y:AV} {c:Prop} (h:Xt t0 bx x=some (c,y)) (hc:c):fz bx x=some y:=by
 unfold Xt at h
 split at h
 ·simp only [osI,Prod.mk.injEq] at h;obtain ⟨rfl,rfl⟩:=h;rfl
 ·rename_i b sz n
  split at h
  ·rename_i c' d h1
   simp only [osI,Prod.mk.injEq] at h;obtain ⟨rfl,rfl⟩:=h
   simp only [fz,Pm h1 hc,Option.map_some]
  simp at h
 ·rename_i b sz off n ca ex
  split at h
  ·rename_i c' es h1
   simp only [osI,Prod.mk.injEq] at h;obtain ⟨rfl,rfl⟩:=h
   simp only [fz,kg h1 hc,Option.map_some]
  simp at h
 rename_i h1 h2 h3
 simp only [osI,Prod.mk.injEq] at h;obtain ⟨rfl,rfl⟩:=h
 unfold fz;split
 ·exact absurd rfl (h1 _)
 ·exact absurd rfl (h2 _ _ _)
 ·exact absurd rfl (h3 _ _ _ _ _ _)
 rfl
theorem Gv:∀{xs ys:List AV} {c:Prop},Pp t0 bx xs=some (c,ys)→c→Iw bx xs=some ys
 |[],ys,c,h,_=>by simp [Pp] at h;simp [Iw,h.2]
 |x::xs,ys,c,h,hc=>by
  simp only [Pp] at h
  split at h
  ·rename_i c1 y d ys' h1 h2
   simp only [osI,Prod.mk.injEq] at h
   obtain ⟨rfl,rfl⟩:=h
   simp [Iw,Je h1 hc.1,Gv h2 hc.2]
  simp at h
theorem Ay {x y:AV} {c:Prop} (h:Ln t0 bx x=some (c,y)) (hc:c):pQ bx x=some y:=by
 unfold Ln at h
 split at h
 ·split at h
  ·rename_i cs c' ys h1
   simp only [osI,Prod.mk.injEq] at h
   obtain ⟨rfl,rfl⟩:=h
   simp [pQ,Gv h1 hc]
  simp at h
 rename_i h1
 unfold pQ;split
 ·exact absurd rfl (h1 _)
 exact Je h hc
theorem gP:∀{xs ys:List AV} {c:Prop},qp t0 bx xs=some (c,ys)→c→eZ bx xs=some ys
 |[],ys,c,h,_=>by simp [qp] at h;simp [eZ,h.2]
 |x::xs,ys,c,h,hc=>by
  simp only [qp] at h
  split at h
  ·rename_i c1 y d ys' h1 h2
   simp only [osI,Prod.mk.injEq] at h
   obtain ⟨rfl,rfl⟩:=h
   simp [eZ,Ay h1 hc.1,gP h2 hc.2]
  simp at h
theorem Jf {x y:AV} {c:Prop} (h:Pq t0 bx x=some (c,y)) (hc:c):IC bx x=some y:=by
 unfold Pq at h
 split at h
 ·split at h
  ·rename_i cs c' ys h1
   simp only [osI,Prod.mk.injEq] at h
   obtain ⟨rfl,rfl⟩:=h
   simp [IC,gP h1 hc]
  simp at h
 rename_i h1
 unfold IC;split
 ·exact absurd rfl (h1 _)
 exact Ay h hc
end
structure m6 (FC:Nat→List AV→List az→iU→List az→Prop) (kE:Prop) (f:Nat) (args:List AV) (fz:Option (Prop×List AV)) (bx:List az)
 (K:AV→List az→Prop) (Kp:AV→List az→Prop):Prop where
 ok:kE∧(
  (∃c args',fz=some (c,args')∧c∧AV.shut.kY args'=true∧
   (
    (∃v,FC f args' [] (.ret v) []∧(v.flat=true∨eZ [] args=some args'∧v.shut=true)∧K v bx)∨
    (∃sz n es,FC f args' [] (.ret (.ow 0 sz n)) [.row sz es]∧((∀r∈es,∀x∈r,x.flat=true)∨eZ [] args=some args')∧K (.ow bx.length sz n) (bx++[.row sz es]))))∨
  (∃args' pS res pT,(args'=args∧pS=bx∨(∃c,fz=some (c,args')∧c)∧pS=fw bx args)∧FC f args' pS res pT∧
   (match res with|.ret v=>K v pT|.Mn v=>Kp v pT)))
structure tH (FC:Nat→List AV→List az→iU→List az→Prop) (dr g:Bool) (kE:Prop) (f:Nat) (args:List AV) (bx:List az) (fz:Option (Prop×List AV)) (K:AV→Prop):Prop where
 ok:(dr=false∧∃v,(g=true→kE∧FC f args bx (.ret v) bx)∧K v)∨∃v,(g=true→kE∧∃args' jO,(∃c,fz=some (c,args')∧c)∧AV.bM.dg jO args'=true∧(∃dt,dW dt jO jO=true∧(dt=true→eZ [] args=some args'))∧
  (∀(i:Nat) (b:az),jO[i]?=some b→b.born=true→∃b',bx[i]?=some b'∧b'.born=true∧(b.live=true→b'=b))∧FC f args' jO (.ret v) jO∧
  (v.flat=true∨eZ [] args=some args'∧v.shut=true))∧K v
structure wM (g:Bool) (p:Prop):Prop where
 ok:g=true→p
structure Lo (p:Bool) (a b:Prop):Prop where
 ok:(p=true→a)∧(p=false→b)
theorem aJ {p:Bool} {a b:Prop}:Lo p a b↔((p=true→a)∧(p=false→b)):=⟨fun h=>h.ok,fun h=>⟨h⟩⟩
structure Az (g:Bool) (c:Prop) (ds:List D) (K:List D→Prop):Prop where
 ok:∃ds',(g=true→c∧ds=ds')∧K ds'
structure Pr (c:Prop) (v:AV) (bx:List az) (K:AV→List az→Prop):Prop where
 ok:∃v' aR,c∧v=v'∧bx=aR∧K v' aR
structure Up (g:Bool) (c:Prop) (v:AV) (K:AV→Prop):Prop where
 ok:∃v',(g=true→c∧v=v')∧K v'
def Gw (ev:Operand→AV) (o:Op):Bool:=bif iZ ev o then (match o with
 |.slice _ _ _ _ _=>true
 |.call {callee:=.builtin b,..}=>match b with
  |.copy=>true
  |.clear=>true
  |.append=>true
  |_=>false
 |_=>false) else false
def Ps (t:Th) (T:Nat→Option TI) (ty:Nat) (x i:AV):Option (Prop×List D):=
 match T ty with
 |some ti=>match ti.kd,x,i with
  |.slice e,.d (.sl es),.d (.int _ z)=>match T e with
   |some te=>some (t Prop (fun _=>0≤z∧z<es.length∧(∀r∈es,r.length=te.size)),t _ fun _=>es.getD z.toNat [])
   |none=>none
  |.slice e,.cl es,.d (.int _ z)=>match T e with
   |some te=>some (t Prop (fun _=>0≤z∧z<es.length∧(∀r∈es,r.length=te.size)),t _ fun _=>es.getD z.toNat [])
   |none=>none
  |_,_,_=>none
 |none=>none
theorem Vj {T:Nat→Option TI} {ty:Nat} {x i:AV}:Ps t0 T ty x i=zF T ty x i:=by
 unfold Ps zF;rfl
def Vk (t:Th) (T:Nat→Option TI) (ev:Operand→AV):Op→Option (Prop×List (List D))
 |.call {callee:=.builtin b,args,argTypes}=>match b,args.toList,argTypes.toList with
  |.append,[x,y],[ty,u]=>match T ty,T u with
   |some ti,some tu=>match ti.kd,tu.kd with
    |.slice e,.slice _=>match T e with
     |some te=>bif eN te then match ev x,ev y with
      |.cl es,.cl (x0::xr)=>some (t Prop (fun _=>(es.length+(x0::xr).length)*te.bytes≤140737488355328∧(∀r∈es++(x0::xr),r.length=te.size)),t _ fun _=>es++(x0::xr))
      |_,_=>none
      else none
     |none=>none
    |_,_=>none
   |_,_=>none
  |_,_,_=>none
 |_=>none
theorem Vl {T:Nat→Option TI} {ev:Operand→AV} {op:Op}:Vk t0 T ev op=BY T ev op:=by
 unfold Vk BY;rfl
def jC (b:List Nat):Nat→List Oper→List Bool
 |_,[]=>[]
 |i,_::r=>barrier b i::jC b (i+1) r
structure Uq (FC:Nat→List AV→List az→iU→List az→Prop) (kE:Prop) (f:Nat) (args:List AV) (fz:Option (Prop×List AV)) (at_:Option az) (x:Nat) (K:AV→az→Prop):Prop where
 ok:∃args' sz n es,kE∧(∃c,fz=some (c,args')∧c)∧AV.shut.kY args'=true∧FC f args' [] (.ret (.ow 0 sz n)) [.row sz es]∧
  ((∀r∈es,∀x∈r,x.flat=true)∨eZ [] args=some args')∧at_=some .bt∧K (.ow x sz n) (.row sz es)
structure Ur (a b:String) (K:Prop):Prop where
 ok:a=b∧K
theorem Us {a:String} {K:Prop} (h:K):Ur a a K:=⟨rfl,h⟩
def Vm (T:Nat→Option TI) (x:AV):Option (String×Nat×AV):=
 match x with
 |.sj ty v=>match T ty with
  |some ti=>match ti.inv with
   |some (n,i)=>some (n,i,v)
   |none=>none
  |none=>none
 |_=>none
theorem SB {T:Nat→Option TI} {x v:AV} {n:String} {i:Nat} (gJ:List AV) (h:Vm T x=some (n,i,v)):Cq T x n gJ=some (i,v::gJ):=by
 unfold Vm at h
 unfold Cq
 split at h
 ·split at h
  ·rename_i ti ht
   simp only [ht]
   split at h
   ·rename_i hi
    simp only [osI,Prod.mk.injEq] at h
    obtain ⟨rfl,rfl,rfl⟩:=h
    simp only [hi,if_true]
   cases h
  cases h
 cases h
def Pt:Op→Bool
 |.call {callee:=.value _,..}=>true
 |_=>false
structure AA (ops:List Oper) (A:Option Nat→List Bool→Prop) (X:List Nat→Prop) (B1:OT→St→Prop) (B2:St→Prop) (B3:List Nd→List St→Prop):Prop where
 ok:(∃(pre:List Nat) (tr:OT) (s1:St),(iG ops.toArray [] pre=true∧lX ops.toArray=true∧X pre)∧tr.fits pre ops=true∧B1 tr s1∧B2 s1)∨(∃(pl:List Nd) (S:List St) (s1:St),K1 ops.toArray pl=true∧B3 pl S∧S[pl.length]?=some s1∧B2 s1)∨∃k pre late fs,((pre=[]∧late=[])∨(iG ops.toArray [] pre=true∧lX ops.toArray=true∧rE (bI pre 0 ops).toArray late=true∧(k=none∧X pre∨pre=[])))∧
  (K3 (gw (bI pre 0 ops).toArray late 0 (bI pre 0 ops))∧jC (cq (gw (bI pre 0 ops).toArray late 0 (bI pre 0 ops)) []) 0 ops=fs)∧A k fs
theorem Ut {ops:List Oper} {A:Option Nat→List Bool→Prop} {X:List Nat→Prop} {B1:OT→St→Prop} {B2:St→Prop} {B3:List Nd→List St→Prop} (fs:List Bool) (h1:gq ops.toArray (cq ops []) 0 ops=true) (h2:jC (cq ops []) 0 ops=fs) (h:A none fs):AA ops A X B1 B2 B3:=
 ⟨.inr<|.inr ⟨none,[],[],fs,.inl ⟨rfl,rfl⟩,by rw [oM,rN];exact ⟨⟨h1⟩,h2⟩,h⟩⟩
theorem Uu {ops:List Oper} {A:Option Nat→List Bool→Prop} {X:List Nat→Prop} {B1:OT→St→Prop} {B2:St→Prop} {B3:List Nd→List St→Prop} (pre late:List Nat) (fs:List Bool) (hp:iG ops.toArray [] pre=true) (hs:lX ops.toArray=true) (hl:rE (bI pre 0 ops).toArray late=true) (hx:X pre)
 (h1:gq (gw (bI pre 0 ops).toArray late 0 (bI pre 0 ops)).toArray (cq (gw (bI pre 0 ops).toArray late 0 (bI pre 0 ops)) []) 0 (gw (bI pre 0 ops).toArray late 0 (bI pre 0 ops))=true)
 (h2:jC (cq (gw (bI pre 0 ops).toArray late 0 (bI pre 0 ops)) []) 0 ops=fs) (h:A none fs):AA ops A X B1 B2 B3:=
 ⟨.inr<|.inr ⟨none,pre,late,fs,.inr ⟨hp,hs,hl,.inl ⟨rfl,hx⟩⟩,⟨⟨h1⟩,h2⟩,h⟩⟩
theorem Gx {ops:List Oper} {A:Option Nat→List Bool→Prop} {X:List Nat→Prop} {B1:OT→St→Prop} {B2:St→Prop} {B3:List Nd→List St→Prop} (pre:List Nat) (fs:List Bool) (hp:iG ops.toArray [] pre=true) (hs:lX ops.toArray=true) (hx:X pre)
 (h1:gq (bI pre 0 ops).toArray (cq (bI pre 0 ops) []) 0 (bI pre 0 ops)=true) (h2:jC (cq (bI pre 0 ops) []) 0 ops=fs) (h:A none fs):AA ops A X B1 B2 B3:=
 ⟨.inr<|.inr ⟨none,pre,[],fs,.inr ⟨hp,hs,rfl,.inl ⟨rfl,hx⟩⟩,by rw [rN];exact ⟨⟨h1⟩,h2⟩,h⟩⟩
theorem Lp {ops:List Oper} {A:Option Nat→List Bool→Prop} {X:List Nat→Prop} {B1:OT→St→Prop} {B2:St→Prop} {B3:List Nd→List St→Prop} (pre:List Nat) (tr:OT) (s1:St) (hp:iG ops.toArray [] pre=true) (hs:lX ops.toArray=true) (hx:X pre) (hf:tr.fits pre ops=true) (h1:B1 tr s1) (h2:B2 s1):AA ops A X B1 B2 B3:=
 ⟨.inl ⟨pre,tr,s1,⟨hp,hs,hx⟩,hf,h1,h2⟩⟩
section
variable (t:Th) (FC:Nat→List AV→List az→iU→List az→Prop) (T:Nat→Option TI) (G:Nat→Option (List D)) (N:Nat)
def stepT (o:Oper) (s:St) (K:AV→List az→Prop) (Q:Ex→St→Prop):Prop:=
 match o.op with
 |.pick c a b=>match (bW G s.sl c).aS with
  |.d (.bool p)=>((bW G s.sl c).ok∧Lo p (bW G s.sl a).ok (bW G s.sl b).ok)∧K (D9 t p (bW G s.sl a).aS (bW G s.sl b).aS) s.bx
  |_=>False
 |.call {callee:=.value f,args,..}=>match lW (bW G s.sl f).aS (args.toList.map fun x=>(bW G s.sl x).aS) with
  |some (i,gJ)=>m6 FC ((bW G s.sl f).ok∧dA (fX G s.sl args.toList)) i gJ (qp t s.bx gJ) s.bx (fun v bx=>K v bx) (fun v bx=>Q (.panic v) ⟨[],bx⟩)
  |none=>False
 |.panic x=>match (bW G s.sl x).aS with
  |.sj ty v=>(bW G s.sl x).ok∧Q (.panic (.sj ty v)) ⟨[],s.bx⟩
  |_=>False
 |.range ty x=>match T ty with
  |some ti=>match ti.kd,(bW G s.sl x).aS with
   |.str,.d (.str str)=>(bW G s.sl x).ok∧K (.ptr s.bx.length 0) (s.bx++[.it str 0])
   |_,_=>False
  |none=>False
 |.next it true=>match (bW G s.sl it).aS with
  |.ptr b 0=>match s.bx[b]? with
   |some (.it str pos)=>(bW G s.sl it).ok∧Oq str pos (fun c wd=>K (.dV [.d (.bool true),.d (.int .i64 (t _ fun _=>pos)),.d (.int .i32 (t _ fun _=>c))]) (s.bx.set b (.it str (t _ fun _=>pos+wd)))) (fun _=>K (.dV [.d (.bool false)]) s.bx)
   |_=>False
  |_=>False
 |.binOp .eql ty x (.const (.slice none 0 0)) _=>match T ty,Mo (bW G s.sl x).aS with
  |some ti,some Ix=>match ti.kd with
   |.slice _=>(bW G s.sl x).ok∧K0 (t Prop fun _=>Ix) (fun b=>K (.d (.bool b)) s.bx)
   |_=>False
  |_,_=>False
 |.binOp .neq ty x (.const (.slice none 0 0)) _=>match T ty,Mo (bW G s.sl x).aS with
  |some ti,some Ix=>match ti.kd with
   |.slice _=>(bW G s.sl x).ok∧K0 (t Prop fun _=>Ix) (fun b=>K (.d (.bool (t _ fun _=>!b))) s.bx)
   |_=>False
  |_,_=>False
 |.makeMap ty none=>match T ty with
  |some ti=>match ti.kd with
   |.map _ e=>match T e with
    |some te=>K (.BR s.bx.length) (s.bx++[.mp te.kd.isAgg []])
    |none=>False
   |_=>False
  |none=>False
 |.lookup ty m k BU=>match zG T ty (bW G s.sl m).aS s.bx,(bW G s.sl k).aS with
  |some (tk,te,ag,es),.d kd=>IB true (((bW G s.sl m).ok∧(bW G s.sl k).ok)∧(t Prop fun _=>wo tk te ag es kd)) (t _ fun _=>wm es kd) (oz te BU (fun v=>K v s.bx))
  |_,_=>False
 |.mapUpdate ty m k x=>match DN T ty (bW G s.sl m).aS s.bx,(bW G s.sl k).aS,(bW G s.sl x).aS.cells? with
  |some (b,tk,te,ag,es),.d kd,some vs=>match cF vs,Au t s.bx vs with
   |true,some (c,ds)=>(((bW G s.sl m).ok∧(bW G s.sl k).ok∧(bW G s.sl x).ok)∧c∧(t Prop fun _=>wo tk te ag es kd)∧Nat.beq ds.length te.size=true∧(bW G s.sl x).aS.isAgg=ag)∧K .any (s.bx.set b (.mp ag (t _ fun _=>sn es kd ds)))
   |_,_=>False
  |_,_,_=>False
 |.load ty a=>
  match rowAt t (bW G s.sl a).aS s.bx with
  |some (c,ds,j)=>Az true ((bW G s.sl a).ok∧c) ds (fun ds=>match T ty with
   |some ti=>match cM ti.kd.isAgg ti.size ((ds.drop j).map .d) with
    |some v=>K v s.bx
    |none=>False
   |none=>False)
  |none=>match WO t T (fun x=>(bW G s.sl x).aS) (.load ty a) s.bx with
   |some ⟨c,v,b⟩=>(dA (fX G s.sl (Op.load ty a).operands.toList)∧c)∧K v (dF s.bx b)
   |none=>False
 |op=>
  match (match op with|.indexAddr ty x i=>Ps t T ty (bW G s.sl x).aS (bW G s.sl i).aS|_=>none) with
  |some (c,ds)=>nL true (dA (fX G s.sl op.operands.toList)∧c) ds (fun ds=>K (.ep ds) s.bx)
  |none=>match WO t T (fun x=>(bW G s.sl x).aS) op s.bx with
   |some ⟨c,v,b⟩=>bif Gw (fun x=>(bW G s.sl x).aS) op then Pr (dA (fX G s.sl op.operands.toList)∧c) v (dF s.bx b) K
    else (dA (fX G s.sl op.operands.toList)∧c)∧K v (dF s.bx b)
   |none=>False
def nD (dr g:Bool) (o:Oper) (s:St) (K:AV→Prop):Prop:=
 match o.op with
 |.pick c a b=>match (bW G s.sl c).aS with
  |.d (.bool p)=>wM g ((bW G s.sl c).ok∧Lo p (bW G s.sl a).ok (bW G s.sl b).ok)∧K (D9 t p (bW G s.sl a).aS (bW G s.sl b).aS)
  |_=>False
 |.call {callee:=.value f,args,..}=>match lW (bW G s.sl f).aS (args.toList.map fun x=>(bW G s.sl x).aS) with
  |some (i,gJ)=>tH FC dr g ((bW G s.sl f).ok∧dA (fX G s.sl args.toList)) i gJ s.bx (qp t s.bx gJ) (fun v=>K v)
  |none=>False
 |.call {callee:=.invoke r nm,args,..}=>match Vm T (bW G s.sl r).aS with
  |some (n,i,v)=>Ur n nm (tH FC true g ((bW G s.sl r).ok∧dA (fX G s.sl args.toList)) i (v::(args.toList.map fun x=>(bW G s.sl x).aS)) s.bx (qp t s.bx (v::(args.toList.map fun x=>(bW G s.sl x).aS))) (fun v=>K v))
  |none=>False
 |.load ty a=>
  match rowAt t (bW G s.sl a).aS s.bx with
  |some (c,ds,j)=>Az g ((bW G s.sl a).ok∧c) ds (fun ds=>match T ty with
   |some ti=>match cM ti.kd.isAgg ti.size ((ds.drop j).map .d) with
    |some v=>K v
    |none=>False
   |none=>False)
  |none=>match WO t T (fun x=>(bW G s.sl x).aS) (.load ty a) s.bx with
   |some ⟨c,v,none⟩=>wM g (dA (fX G s.sl (Op.load ty a).operands.toList)∧c)∧K v
   |_=>False
 |op=>
  match (match op with|.indexAddr ty x i=>Ps t T ty (bW G s.sl x).aS (bW G s.sl i).aS|_=>none) with
  |some (c,ds)=>nL g (dA (fX G s.sl op.operands.toList)∧c) ds (fun ds=>K (.ep ds))
  |none=>match WO t T (fun x=>(bW G s.sl x).aS) op s.bx with
   |some ⟨c,v,none⟩=>bif Gw (fun x=>(bW G s.sl x).aS) op then Up g (dA (fX G s.sl op.operands.toList)∧c) v K
    else wM g (dA (fX G s.sl op.operands.toList)∧c)∧K v
   |_=>match Vk t T (fun x=>(bW G s.sl x).aS) op with
    |some (c,es)=>wM g (dA (fX G s.sl op.operands.toList)∧c)∧K (.d (.sl es))
    |none=>False
def nW (sl:List (Nat×AV)) (ops:List Oper) (j:Nat) (want:Bool):Option Bool:=
 match ops[j]? with
 |some o=>match o.dst with
  |some u=>match gK u sl with
   |.d (.bool q)=>some (bif want then q else t _ fun _=>!q)
   |.cond g (.d (.bool q))=>some (t _ fun _=>g&&(bif want then q else !q))
   |_=>none
  |none=>none
 |none=>none
def Pu (ops:List Oper):List Oper→(Ex→St→Prop)→St→Prop
 |[],Q,s=>Q .normal s
 |o::rest,Q,s=>bif gY N o.dst then
  match o.guard with
  |none=>stepT t FC T G o s (fun v bx=>Pu ops rest Q ⟨eJ o.dst v s.sl,bx⟩) Q
  |some (j,want)=>match nW t s.sl ops j want with
   |some g=>nD t FC T G false g o s (fun v=>Pu ops rest Q ⟨eJ o.dst (.cond g v) s.sl,s.bx⟩)
   |none=>False
  else False
def Pv (o:Oper) (sl:List (Nat×AV)) (ig:List az) (x:Nat) (K:AV→az→Prop):Prop:=
 match o.op with
 |.call {callee:=.value f,args,..}=>match lW (bW G sl f).aS (args.toList.map fun x=>(bW G sl x).aS) with
  |some (i,gJ)=>Uq FC ((bW G sl f).ok∧dA (fX G sl args.toList)) i gJ (qp t ig gJ) ig[x]? x K
  |none=>False
 |_=>False
def sL (ops:List Oper) (base:Nat):List Bool→List az→Nat→List Oper→(Ex→St→Prop)→St→Prop
 |_,_,_,[],Q,s=>Q .normal s
 |[],_,_,_::_,_,_=>False
 |f::fs,ig,k,o::rest,Q,s=>bif gY N o.dst then
  bif f then match o.guard with
   |none=>stepT t FC T G o s (fun v bx=>sL ops base fs bx k rest Q ⟨eJ o.dst v s.sl,bx⟩) Q
   |some (j,want)=>match nW t s.sl ops j want with
    |some g=>nD t FC T G true g o s (fun v=>sL ops base fs s.bx k rest Q ⟨eJ o.dst (.cond g v) s.sl,s.bx⟩)
    |none=>False
  else match iB T G s.sl o with
   |some cs=>match ig[base+k]? with
    |some .bt=>sL ops base fs ig (k+1) rest Q ⟨eJ o.dst (.ptr (base+k) 0) s.sl,s.bx.set (base+k) (.var cs)⟩
    |_=>False
   |none=>match o.guard with
    |none=>bif Pt o.op then nD t FC T G true true o ⟨s.sl,ig⟩ (fun v=>sL ops base fs ig k rest Q ⟨eJ o.dst v s.sl,s.bx⟩)∨
     Pv t FC G o s.sl ig (base+k) (fun v B=>sL ops base fs ig (k+1) rest Q ⟨eJ o.dst v s.sl,s.bx.set (base+k) B⟩)
     else nD t FC T G true true o ⟨s.sl,ig⟩ (fun v=>sL ops base fs ig k rest Q ⟨eJ o.dst v s.sl,s.bx⟩)
    |some (j,want)=>match nW t s.sl ops j want with
     |some g=>nD t FC T G true g o ⟨s.sl,ig⟩ (fun v=>sL ops base fs ig k rest Q ⟨eJ o.dst (.cond g v) s.sl,s.bx⟩)
     |none=>False
  else False
def Eb (i:Nat) (s:St):Option (Prop×St):=match Xt t s.bx (gK i s.sl) with
 |some (c,y)=>some (c,⟨put i y s.sl,(gK i s.sl).cw s.bx⟩)
 |none=>none
def Pw (k:Option Nat) (s:St) (K:St→Prop):Prop:=match k with
 |none=>K s
 |some i=>match Eb t i s with
  |some (c,s1)=>c∧K s1
  |none=>False
def AB (ops:List Oper) (i:Nat) (K:St→Prop) (Q:Ex→St→Prop) (s:St):Prop:=match ops[i]? with
 |some o=>bif gY N o.dst then match o.guard with
  |none=>stepT t FC T G o s (fun v bx=>K ⟨eJ o.dst v s.sl,bx⟩) Q
  |some (j,want)=>match nW t s.sl ops j want with
   |some g=>wk (.d (.bool g)) (fun _=>stepT t FC T G o s (fun v bx=>K ⟨eJ o.dst (.cond true v) s.sl,bx⟩) Q) (fun _=>K ⟨eJ o.dst (.cond false .any) s.sl,s.bx⟩)
   |none=>False
  else False
 |none=>False
def Gy (ops:List Oper) (Q:Ex→St→Prop) (R:St→Prop):OT→St→Prop
 |.done,s=>R s
 |.one i o,s=>AB t FC T G N ops i (Gy ops Q R o) Q s
 |.more i o r,s=>AB t FC T G N ops i (Gy ops Q R o) Q s∧Gy ops Q R r s
inductive Gz (ops:List Oper) (Q:Ex→St→Prop) (S:List St) (s:St):List (Nat×Nat)→Prop
 |nil:Gz ops Q S s []
 |cons {p i:Nat} {r:List (Nat×Nat)} {s0:St} (hs:S[p]?=some s0) (h:AB t FC T G N ops i (fun s1=>(⟨BZ s1.sl,s1.bx⟩:St)=s) Q s0) (hr:Gz ops Q S s r):Gz ops Q S s ((p,i)::r)
inductive MH (ops:List Oper) (Q:Ex→St→Prop) (S:List St):Nat→List Nd→Prop
 |nil {k:Nat}:MH ops Q S k []
 |cons {k:Nat} {nd:Nd} {r:List Nd} {s:St} (hs:S[k]?=some s) (hp:Gz t FC T G N ops Q S s nd.ps) (hr:MH ops Q S (k+1) r):MH ops Q S k (nd::r)
inductive Vn (ops:List Oper) (Q:Ex→St→Prop) (s:St) (pl:List Nd) (S:List St):Prop
 |mk (first:S[0]?=some s) (all:MH t FC T G N ops Q S 1 pl):Vn ops Q s pl S
 |zf {s0:St} (ks:List Nat) (eq:(⟨xJ ks s.sl,s.bx⟩:St)=s0) (first:S[0]?=some s0) (all:MH t FC T G N ops Q S 1 pl):Vn ops Q s pl S
def Lq (ops:List Oper) (Q:Ex→St→Prop) (s:St):Prop:=
 AA ops (fun k fs=>Pw t k s fun s=>sL t FC T G N ops s.bx.length fs (s.bx++List.replicate (oA ops) .bt) 0 ops Q ⟨s.sl,s.bx++List.replicate (oA ops) .bt⟩) (fun pre=>Cr G N ops pre s.sl=true)
  (fun tr s1=>Gy t FC T G N ops Q (fun s=>(⟨BZ s.sl,s.bx⟩:St)=s1) tr s) (fun s1=>Q .normal s1) (fun pl S=>Vn t FC T G N ops Q s pl S)
end
section
variable {FC:Nat→List AV→List az→iU→List az→Prop} {T:Nat→Option TI} {G:Nat→Option (List D)} {N:Nat}
theorem oQ (sl:List (Nat×AV)) (ops:List Oper) (j:Nat) (want:Bool):nW t0 sl ops j want=guardOf sl ops j want:=by
 unfold nW guardOf;rfl
theorem Lr {ti:TI} {a:AV} {bx:List az} {c:Prop} {ds:List D} {j:Nat} (h:rowAt t0 a bx=some (c,ds,j)) (hc:c) {v:AV} (hv:cM ti.kd.isAgg ti.size ((ds.drop j).map .d)=some v):nV (pn ti a bx) v none:=by
 unfold rowAt at h
 split at h
 ·rename_i b sz i j'
  split at h
  ·rename_i s es hb
   cases hs:Nat.beq s sz with
   |false=>simp [hs] at h
   |true=>
   simp only [hs,cond_true,osI,Prod.mk.injEq] at h
   obtain ⟨rfl,rfl,rfl⟩:=h
   have ZQ:cM ti.kd.isAgg ti.size (((es.getD i []).drop j').map .d)=some v:=hv
   simp only [pn,hb,ZQ]
   exact ⟨_,rfl,Nat.eq_of_beq_eq_true hs,hc⟩
  ·rename_i s es hb
   cases hs:Nat.beq s sz with
   |false=>simp [hs] at h
   |true=>
   simp only [hs,cond_true,osI,Prod.mk.injEq] at h
   obtain ⟨rfl,rfl,rfl⟩:=h
   have ZQ:cM ti.kd.isAgg ti.size (((es.getD i []).drop j').map .d)=some v:=hv
   simp only [pn,hb,ZQ]
   exact ⟨_,rfl,Nat.eq_of_beq_eq_true hs,hc⟩
  simp at h
 simp at h
theorem Ls (T:Nat→Option TI) (G:Nat→Option (List D)) (s:St) (op:Op):(match op with|.indexAddr ty x i=>Ps t0 T ty (bW G s.sl x).aS (bW G s.sl i).aS|_=>none)=(match op with|.indexAddr ty x i=>zF T ty (bW G s.sl x).aS (bW G s.sl i).aS|_=>none):=by
 cases op<;>first|rfl|exact Vj
theorem SC {kE:Prop} {f:Nat} {args:List AV} {bx:List az} {K K':AV→List az→Prop} {Kp:AV→List az→Prop} (hK:∀v bx,K v bx→K' v bx)
 (h:m6 FC kE f args (qp t0 bx args) bx K Kp):On FC kE f args bx K' Kp:=by
 obtain ⟨h0,h|h⟩:=h
 ·obtain ⟨c,args',h1,h2,h3,h4⟩:=h
  refine ⟨h0,.inl ⟨args',gP h1 h2,h3,?_⟩⟩
  rcases h4 with ⟨v,k1,k2,k3⟩|⟨sz,n,es,k1,k2,k3⟩
  ·exact .inl ⟨v,k1,k2,hK _ _ k3⟩
  exact .inr ⟨sz,n,es,k1,k2,hK _ _ k3⟩
 obtain ⟨args',pS,res,pT,h1,h2,h3⟩:=h
 refine ⟨h0,.inr ⟨args',pS,res,pT,?_,h2,?_⟩⟩
 ·rcases h1 with h1|⟨⟨c,k1,k2⟩,k3⟩
  ·exact .inl h1
  exact .inr ⟨gP k1 k2,k3⟩
 cases res with
 |ret v=>exact hK _ _ h3
 |Mn v=>exact h3
theorem GA {te:TI} {BU:Bool} {K K':AV→Prop} (hK:∀v,K v→K' v) {o:Option (List D)} (h:oz te BU K o):oz te BU K' o:=by
 cases o with
 |none=>
  simp only [oz] at h ⊢
  split at h
  ·exact hK _ h
  exact h.elim
 |some ds=>
  simp only [oz] at h ⊢
  split at h
  ·exact hK _ h
  exact h.elim
theorem zh {o:Oper} {s:St} {K K':AV→List az→Prop} {Q:Ex→St→Prop} (hK:∀v bx,K v bx→K' v bx) (h:stepT t0 FC T G o s K Q):pU FC T G o s K' Q:=by
 unfold stepT at h
 unfold pU
 split at h
 ·rename_i c a b ho
  simp only [ho]
  split at h
  ·rename_i p hc
   simp only [hc]
   rw [Gu] at h
   exact ⟨⟨h.1.1,h.1.2.ok⟩,hK _ _ h.2⟩
  exact h.elim
 ·rename_i f args ats ho
  simp only [ho]
  split at h
  ·rename_i i gJ hf
   simp only [hf]
   exact SC hK h
  exact h.elim
 ·rename_i x ho
  simp only [ho]
  split at h
  ·rename_i ty v hx;simp only [hx];exact h
  exact h.elim
 ·rename_i ty x ho
  simp only [ho]
  split at h
  ·rename_i ti ht
   simp only [ht]
   split at h
   ·rename_i str hk hx;simp only [hk,hx];exact ⟨h.1,hK _ _ h.2⟩
   exact h.elim
  exact h.elim
 ·rename_i it ho
  simp only [ho]
  split at h
  ·rename_i b hx
   simp only [hx]
   split at h
   ·rename_i str pos hb
    simp only [hb]
    exact ⟨h.1,⟨fun hp=>hK _ _ (h.2.ok.1 hp),fun hp=>hK _ _ (h.2.ok.2 hp)⟩⟩
   exact h.elim
  exact h.elim
 ·rename_i ty x t2 ho
  simp only [ho]
  split at h
  ·rename_i ti Ix ht he
   simp only [ht,he]
   split at h
   ·rename_i e hk;simp only [hk];exact ⟨h.1,⟨fun b hb=>hK _ _ (h.2.ok b hb)⟩⟩
   exact h.elim
  exact h.elim
 ·rename_i ty x t2 ho
  simp only [ho]
  split at h
  ·rename_i ti Ix ht he
   simp only [ht,he]
   split at h
   ·rename_i e hk;simp only [hk];exact ⟨h.1,⟨fun b hb=>hK _ _ (h.2.ok b hb)⟩⟩
   exact h.elim
  exact h.elim
 ·rename_i ty ho
  simp only [ho]
  split at h
  ·rename_i ti ht
   simp only [ht]
   split at h
   ·rename_i mk me hk
    simp only [hk]
    split at h
    ·rename_i te hte
     simp only [hte]
     exact hK _ _ h
    exact h.elim
   exact h.elim
  exact h.elim
 ·rename_i ty m k BU ho
  simp only [ho]
  split at h
  ·rename_i tk te ag es kd hm hk
   simp only [hm,hk]
   obtain ⟨o',hg,hk⟩:=h
   exact ⟨o',hg,GA (fun v hv=>hK _ _ hv) hk⟩
  exact h.elim
 ·rename_i ty m k x ho
  simp only [ho]
  split at h
  ·rename_i b tk te ag es kd vs hm hk hc
   simp only [hm,hk,hc]
   split at h
   ·rename_i c dsv Ac Xf
    obtain ⟨⟨g1,g2,g3,g4,g5⟩,g6⟩:=h
    simp only [Ac,u7 Xf g2]
    exact ⟨⟨g1,g3,Nat.eq_of_beq_eq_true g4,g5⟩,hK _ _ g6⟩
   exact h.elim
  exact h.elim
 ·rename_i ty a ho
  simp only [ho]
  split at h
  ·rename_i c ds j hr
   obtain ⟨ds',hg,hk⟩:=h
   obtain ⟨⟨h1,h2⟩,rfl⟩:=hg rfl
   split at hk
   ·rename_i ti ht
    split at hk
    ·rename_i v hv
     obtain ⟨c',e,wh⟩:=Lr hr h2 hv
     simp only [Ff,iZ,cond_false,lu,ht,e]
     exact ⟨⟨⟨h1,trv⟩,wh⟩,hK _ _ hk⟩
    exact hk.elim
   exact hk.elim
  split at h
  ·rename_i c v b hr
   obtain ⟨⟨h1,h2⟩,h3⟩:=h
   obtain ⟨c',e,wh⟩:=Lm hr h2
   simp only [e]
   exact ⟨⟨h1,wh⟩,hK _ _ h3⟩
  exact h.elim
 rename_i e1 e2 e3 e4 e5 e6 e7 m1 m2 m3 e8
 split
 ·rename_i ho;exact absurd ho (e1 _ _ _)
 ·rename_i ho;exact absurd ho (e2 _ _ _)
 ·rename_i ho;exact absurd ho (e3 _)
 ·rename_i ho;exact absurd ho (e4 _ _)
 ·rename_i ho;exact absurd ho (e5 _)
 ·rename_i ho;exact absurd ho (e6 _ _ _)
 ·rename_i ho;exact absurd ho (e7 _ _ _)
 ·rename_i ho;exact absurd ho (m1 _)
 ·rename_i ho;exact absurd ho (m2 _ _ _ _)
 ·rename_i ho;exact absurd ho (m3 _ _ _ _)
 have hm:=Ls T G s o.op
 show match (match o.op with|.indexAddr ty x i=>zF T ty (bW G s.sl x).aS (bW G s.sl i).aS|_=>none) with
  |some (c,ds)=>nL true (dA (fX G s.sl o.op.operands.toList)∧c) ds (fun ds=>K' (.ep ds) s.bx)
  |none=>match Ff T (fun x=>(bW G s.sl x).aS) o.op s.bx with
   |some ⟨c,v,b⟩=>(dA (fX G s.sl o.op.operands.toList)∧c)∧K' v (dF s.bx b)
   |none=>False
 split at h
 ·rename_i c ds hi
  rw [hm] at hi
  simp only [hi]
  obtain ⟨ds',hg,hk⟩:=h
  exact ⟨ds',hg,hK _ _ hk⟩
 rename_i hi
 rw [hm] at hi
 simp only [hi]
 split at h
 ·rename_i c v b hr
  have h:(dA (fX G s.sl o.op.operands.toList)∧c)∧K v (dF s.bx b):=by
   generalize Gw _ _=q at h
   cases q with
   |false=>exact h
   |true=>obtain ⟨v',aR,k1,rfl,rfl,k2⟩:=h;exact ⟨k1,k2⟩
  obtain ⟨⟨h1,h2⟩,h3⟩:=h
  obtain ⟨c',e,wh⟩:=Lm hr h2
  simp only [e]
  exact ⟨⟨h1,wh⟩,hK _ _ h3⟩
 exact h.elim
theorem GB {dr g:Bool} {o:Oper} {s:St} {K:AV→Prop} (h:nD t0 FC T G dr g o s K):∃v,K v:=by
 unfold nD at h
 split at h
 ·split at h
  ·exact ⟨_,h.2⟩
  exact h.elim
 ·split at h
  ·obtain ⟨_,v,_,hK⟩|⟨v,_,hK⟩:=h
   ·exact ⟨v,hK⟩
   exact ⟨v,hK⟩
  exact h.elim
 ·split at h
  ·obtain ⟨_,⟨_,v,_,hK⟩|⟨v,_,hK⟩⟩:=h
   ·exact ⟨v,hK⟩
   exact ⟨v,hK⟩
  exact h.elim
 ·split at h
  ·obtain ⟨ds',_,hk⟩:=h
   split at hk
   ·split at hk
    ·exact ⟨_,hk⟩
    exact hk.elim
   exact hk.elim
  split at h
  ·exact ⟨_,h.2⟩
  exact h.elim
 split at h
 ·obtain ⟨ds,_,hK⟩:=h;exact ⟨_,hK⟩
 split at h
 ·generalize Gw _ _=q at h
  cases q with
  |false=>exact ⟨_,h.2⟩
  |true=>obtain ⟨v',_,k2⟩:=h;exact ⟨_,k2⟩
 split at h
 ·exact ⟨_,h.2⟩
 exact h.elim
theorem CO {dr g:Bool} {o:Oper} {s:St} {K K':AV→Prop} (hK:∀v,K v→K' v) (h:nD t0 FC T G dr g o s K):stepG FC T G g o s K'∨dr=false∧sZ FC G g o s K':=by
 cases g with
 |false=>obtain ⟨v,h⟩:=GB h;exact .inl (.inl ⟨rfl,v,hK v h⟩)
 |true=>
 by_cases Uv:∃(f:Operand) (args:Array Operand) (ats:Array TypeId) (i:Nat) (gJ:List AV),o.op=.call {callee:=.value f,args:=args,argTypes:=ats}∧lW (bW G s.sl f).aS (args.toList.map fun x=>(bW G s.sl x).aS)=some (i,gJ)∧
  dr=false∧∃v,(true=true→((bW G s.sl f).ok∧dA (fX G s.sl args.toList))∧FC i gJ s.bx (.ret v) s.bx)∧K v
 ·obtain ⟨f,args,ats,i,gJ,ho,hf,hd,v,h1,h2⟩:=Uv
  refine .inr ⟨hd,?_⟩
  unfold sZ
  simp only [ho,hf]
  exact ⟨v,fun _=>h1 rfl,hK _ h2⟩
 by_cases Xu:∃c es,BY T (fun x=>(bW G s.sl x).aS) o.op=some (c,es)∧(dA (fX G s.sl o.op.operands.toList)∧c)∧K (.d (.sl es))
 ·obtain ⟨c,es,h1,h2,h3⟩:=Xu
  exact .inl (.inr (.inr ⟨c,es,h1,fun _=>h2,hK _ h3⟩))
 refine .inl (.inr (.inl ?_))
 unfold nD at h
 unfold wq
 split at h
 ·rename_i c a b ho
  simp only [ho]
  split at h
  ·rename_i p hc
   simp only [hc]
   rw [Gu] at h
   have h1:true=true→(bW G s.sl c).ok∧(p=true→(bW G s.sl a).ok)∧(p=false→(bW G s.sl b).ok):=fun e=>⟨(h.1.ok e).1,(h.1.ok e).2.ok⟩
   exact ⟨fun _=>h1 rfl,hK _ h.2⟩
  exact h.elim
 ·rename_i f args ats ho
  simp only [ho]
  split at h
  ·rename_i i gJ hf
   simp only [hf]
   obtain ⟨hd,v,h1,h2⟩|⟨v,h1,h2⟩:=h
   ·exact absurd ⟨f,args,ats,i,gJ,ho,hf,hd,v,h1,h2⟩ Uv
   refine ⟨v,fun hg=>?_,hK _ h2⟩
   obtain ⟨k1,args',jO,⟨c,k2,k3⟩,k4,k5,k6⟩:=h1 hg
   exact ⟨k1,args',jO,gP k2 k3,k4,k5,k6⟩
  exact h.elim
 ·rename_i f nm args ats ho
  simp only [ho]
  split at h
  ·rename_i n i v0 hf
   obtain ⟨rfl,h⟩:=h
   simp only [SB _ hf]
   obtain ⟨hd,v,h1,h2⟩|⟨v,h1,h2⟩:=h
   ·cases hd
   refine ⟨v,fun hg=>?_,hK _ h2⟩
   obtain ⟨k1,args',jO,⟨c,k2,k3⟩,k4,k5,k6⟩:=h1 hg
   exact ⟨k1,args',jO,gP k2 k3,k4,k5,k6⟩
  exact h.elim
 ·rename_i ty a ho
  simp only [ho]
  split at h
  ·rename_i c ds j hr
   obtain ⟨ds',hg,hk⟩:=h
   obtain ⟨⟨h1,h2⟩,rfl⟩:=hg rfl
   split at hk
   ·rename_i ti ht
    split at hk
    ·rename_i v hv
     obtain ⟨c',e,wh⟩:=Lr hr h2 hv
     simp only [Ff,iZ,cond_false,lu,ht,e]
     exact ⟨fun _=>⟨⟨h1,trv⟩,wh⟩,hK _ hk⟩
    exact hk.elim
   exact hk.elim
  split at h
  ·rename_i c v hr
   obtain ⟨h1,h3⟩:=h
   have h1:true=true→dA (fX G s.sl (Op.load ty a).operands.toList)∧c:=h1.ok
   obtain ⟨c',e,wh⟩:=Lm hr (h1 rfl).2
   simp only [e]
   exact ⟨fun _=>⟨(h1 rfl).1,wh⟩,hK _ h3⟩
  exact h.elim
 rename_i e1 e2 e2' e3
 split
 ·rename_i ho;exact absurd ho (e1 _ _ _)
 ·rename_i ho;exact absurd ho (e2 _ _ _)
 ·rename_i ho;exact absurd ho (e2' _ _ _ _)
 have hm:=Ls T G s o.op
 split at h
 ·rename_i c ds hi
  rw [hm] at hi
  show match (match o.op with|.indexAddr ty x i=>zF T ty (bW G s.sl x).aS (bW G s.sl i).aS|_=>none) with
   |some (c,ds)=>nL true (dA (fX G s.sl o.op.operands.toList)∧c) ds (fun ds=>K' (.ep ds))
   |none=>match Ff T (fun x=>(bW G s.sl x).aS) o.op s.bx with
    |some ⟨c,v,none⟩=>(true=true→dA (fX G s.sl o.op.operands.toList)∧c)∧K' v
    |_=>False
  simp only [hi]
  obtain ⟨ds',hg,hk⟩:=h
  exact ⟨ds',hg,hK _ hk⟩
 rename_i hi
 rw [hm] at hi
 show match (match o.op with|.indexAddr ty x i=>zF T ty (bW G s.sl x).aS (bW G s.sl i).aS|_=>none) with
  |some (c,ds)=>nL true (dA (fX G s.sl o.op.operands.toList)∧c) ds (fun ds=>K' (.ep ds))
  |none=>match Ff T (fun x=>(bW G s.sl x).aS) o.op s.bx with
   |some ⟨c,v,none⟩=>(true=true→dA (fX G s.sl o.op.operands.toList)∧c)∧K' v
   |_=>False
 simp only [hi]
 split at h
 ·rename_i c v hr
  have h:wM true (dA (fX G s.sl o.op.operands.toList)∧c)∧K v:=by
   generalize Gw _ _=q at h
   cases q with
   |false=>exact h
   |true=>obtain ⟨v',k0,k2⟩:=h;obtain ⟨k1,rfl⟩:=k0 rfl;exact ⟨⟨fun _=>k1⟩,k2⟩
  obtain ⟨h1,h3⟩:=h
  have h1:true=true→dA (fX G s.sl o.op.operands.toList)∧c:=h1.ok
  obtain ⟨c',e,wh⟩:=Lm hr (h1 rfl).2
  simp only [e]
  exact ⟨fun _=>⟨(h1 rfl).1,wh⟩,hK _ h3⟩
 split at h
 ·rename_i c es ha
  rw [Vl] at ha
  exact absurd ⟨c,es,ha,h.1.ok rfl,h.2⟩ Xu
 exact h.elim
theorem vb {g:Bool} {o:Oper} {s:St} {K K':AV→Prop} (hK:∀v,K v→K' v) (h:nD t0 FC T G true g o s K):stepG FC T G g o s K':=by
 rcases CO hK h with h|⟨h,_⟩
 ·exact h
 cases h
theorem Jg {ops:List Oper} {Q:Ex→St→Prop}:∀(l:List Oper) (s:St),Pu t0 FC T G N ops l Q s→Fq FC T G N ops l Q s
 |[],_,h=>h
 |o::l,s,h=>by
  unfold Pu at h
  unfold Fq
  cases hd:gY N o.dst with
  |false=>simp [hd] at h
  |true=>
  simp only [hd,cond_true] at h ⊢
  split at h
  ·rename_i hg
   simp only [hg]
   exact zh (fun v bx hK=>Jg l _ hK) h
  rename_i j want hg
  simp only [hg]
  rw [oQ] at h
  split at h
  ·rename_i g Iy
   simp only [Iy]
   rcases CO (fun v hK=>Jg l _ hK) h with h|⟨_,h⟩
   ·exact .inl h
   exact .inr h
  exact h.elim
theorem SD {o:Oper} {sl:List (Nat×AV)} {ig:List az} {x:Nat} {K K':AV→az→Prop} (hK:∀v B,K v B→K' v B) (h:Pv t0 FC G o sl ig x K):lY FC G o sl ig x K':=by
 unfold Pv at h
 split at h
 ·rename_i f args ats ho
  split at h
  ·rename_i i gJ hf
   obtain ⟨args',sz,n,es,h1,⟨c,h2,h3⟩,h4,h5,h6,h7,h8⟩:=h
   exact ⟨f,args,ats,i,gJ,args',sz,n,es,ho,hf,h1,gP h2 h3,h4,h5,h6,h7,hK _ _ h8⟩
  exact h.elim
 exact h.elim
theorem lI {ops:List Oper} {b:List Nat} {base:Nat} {Q:Ex→St→Prop}:∀(l:List Oper) (ig:List az) (k i:Nat) (s:St),sL t0 FC T G N ops base (jC b i l) ig k l Q s→nN FC T G N ops b base ig k i l Q s
 |[],_,_,_,_,h=>h
 |o::l,ig,k,i,s,h=>by
  unfold jC sL at h
  unfold nN
  cases hd:gY N o.dst with
  |false=>simp [hd] at h
  |true=>
  simp only [hd,cond_true] at h ⊢
  cases hb:barrier b i with
  |true=>
   simp only [hb,cond_true] at h ⊢
   split at h
   ·rename_i hg
    simp only [hg]
    exact zh (fun v bx hK=>lI l _ _ _ _ hK) h
   rename_i j want hg
   simp only [hg]
   rw [oQ] at h
   split at h
   ·rename_i g Iy
    simp only [Iy]
    exact vb (fun v hK=>lI l _ _ _ _ hK) h
   exact h.elim
  |false=>
   simp only [hb,cond_false] at h ⊢
   split at h
   ·rename_i cs xK
    simp only [xK]
    split at h
    ·rename_i hu
     simp only [hu]
     exact lI l _ _ _ _ h
    exact h.elim
   rename_i xK
   simp only [xK]
   split at h
   ·rename_i hg
    simp only [hg]
    cases RY:Pt o.op with
    |false=>
     simp only [RY,cond_false] at h
     exact .inl (vb (fun v hK=>lI l _ _ _ _ hK) h)
    |true=>
     simp only [RY,cond_true] at h
     rcases h with h|h
     ·exact .inl (vb (fun v hK=>lI l _ _ _ _ hK) h)
     exact .inr (SD (fun v B hK=>lI l _ _ _ _ hK) h)
   rename_i j want hg
   simp only [hg]
   rw [oQ] at h
   split at h
   ·rename_i g Iy
    simp only [Iy]
    exact vb (fun v hK=>lI l _ _ _ _ hK) h
   exact h.elim
theorem AD {ops:List Oper} {i:Nat} {K K':St→Prop} {Q:Ex→St→Prop} {s:St} (hK:∀s,K s→K' s) (h:AB t0 FC T G N ops i K Q s):xI FC T G N ops i K' Q s:=by
 unfold AB at h
 unfold xI
 cases ho:ops[i]? with
 |none=>rw [ho] at h;exact h.elim
 |some o=>
  rw [ho] at h
  simp only at h ⊢
  cases hd:gY N o.dst with
  |false=>rw [hd] at h;exact h.elim
  |true=>
   rw [hd] at h
   simp only [cond_true] at h ⊢
   cases hg:o.guard with
   |none=>
    rw [hg] at h
    simp only at h ⊢
    exact zh (fun v bx h=>hK _ h) h
   |some q=>
    obtain ⟨j,want⟩:=q
    rw [hg] at h
    simp only [oQ] at h ⊢
    cases Iy:guardOf s.sl ops j want with
    |none=>rw [Iy] at h;exact h.elim
    |some g=>
     rw [Iy] at h
     simp only at h ⊢
     obtain ⟨h⟩:=h
     exact ⟨⟨fun e=>zh (fun v bx h=>hK _ h) (h.1 e),fun e=>hK _ (h.2 e)⟩⟩
theorem zi {ops:List Oper} {Q:Ex→St→Prop} {R:St→Prop}:∀(tr:OT) (s:St),Gy t0 FC T G N ops Q R tr s→Mp FC T G N ops Q R tr s
 |.done,_,h=>h
 |.one i o,s,h=>AD (fun s h=>zi o s h) h
 |.more i o r,s,h=>⟨AD (fun s h=>zi o s h) h.1,zi r s h.2⟩
theorem Lt {ops:List Oper} {Q:Ex→St→Prop} {S:List St} {s:St}:∀{l:List (Nat×Nat)},Gz t0 FC T G N ops Q S s l→Fs FC T G N ops Q S s l
 |_,.nil=>trivial
 |_,.cons hs h hr=>by
  refine ⟨?_,Lt hr⟩
  rw [hs]
  exact AD (fun s h=>h) h
theorem Jh {ops:List Oper} {Q:Ex→St→Prop} {S:List St}:∀{k:Nat} {l:List Nd},MH t0 FC T G N ops Q S k l→allM FC T G N ops Q S k l
 |_,_,.nil=>trivial
 |_,_,.cons hs hp hr=>by
  refine ⟨?_,Jh hr⟩
  rw [hs]
  exact Lt hp
theorem SE {ops:List Oper} {Q:Ex→St→Prop} {s:St} (h:Lq t0 FC T G N ops Q s):Ov FC T G N ops Q s∨∃i c s1,Eb t0 i s=some (c,s1)∧c∧Ov FC T G N ops Q s1:=by
 obtain ⟨⟨pre,tr,s1,g1,g2,g3,g4⟩|⟨pl,S,s1,g1,gd,g4,g5⟩|⟨k,pre,late,fs,h0,⟨h1,rfl⟩,h2⟩⟩:=h
 ·exact .inl (.inl ⟨pre,tr,s1,g1,g2,zi tr s g3,g4⟩)
 ·cases gd with
  |mk g2 g3=>exact .inl (.inr (.inl ⟨pl,S,s1,_,g1,⟨g2,.inl rfl⟩,g4,Jh g3,g5⟩))
  |zf ks ge g2 g3=>subst ge;exact .inl (.inr (.inl ⟨pl,S,s1,_,g1,⟨g2,.inr ⟨ks,rfl⟩⟩,g4,Jh g3,g5⟩))
 cases k with
 |none=>
  refine .inl<|.inr<|.inr ⟨pre,late,h0.imp id ?_,h1,lI _ _ _ _ _ h2⟩
  rintro ⟨g1,g2,g3,⟨_,g4⟩|rfl⟩
  ·exact ⟨g1,g2,g3,g4⟩
  exact ⟨g1,g2,g3,rfl⟩
 |some i=>
  right
  simp only [Pw] at h2
  split at h2
  ·rename_i c s1 hs
   refine ⟨i,c,s1,hs,h2.1,.inr<|.inr ⟨pre,late,?_,h1,lI _ _ _ _ _ h2.2⟩⟩
   rcases h0 with h0|⟨g1,g2,g3,⟨h0,_⟩|rfl⟩
   ·exact .inl h0
   ·cases h0
   exact .inr ⟨g1,g2,g3,rfl⟩
  exact h2.elim
end
end Dem
end
section
open Go
namespace Dem
mutual
def AV.iQ (m:Nat→Option Nat):AV→Option AV
 |.any=>some .any
 |.d x=>some (.d x)
 |.k c=>some (.k c)
 |.agg cs=>match AV.yN m cs with
  |some ys=>some (.agg ys)
  |none=>none
 |.dV cs=>match AV.yN m cs with
  |some ys=>some (.dV ys)
  |none=>none
 |.ptr b off=>match m b with
  |some j=>some (.ptr j off)
  |none=>none
 |.rp b sz i q=>match m b with
  |some j=>some (.rp j sz i q)
  |none=>none
 |.ep ds=>some (.ep ds)
 |.ow b sz n=>match m b with
  |some j=>some (.ow j sz n)
  |none=>none
 |.vw b sz off n c ex=>match m b with
  |some j=>some (.vw j sz off n c ex)
  |none=>none
 |.cl es=>some (.cl es)
 |.BR b=>match m b with
  |some j=>some (.BR j)
  |none=>none
 |.fn f cs=>match AV.yN m cs with
  |some ys=>some (.fn f ys)
  |none=>none
 |.sj t x=>match AV.iQ m x with
  |some y=>some (.sj t y)
  |none=>none
 |.cond p x=>match AV.iQ m x with
  |some y=>some (.cond p y)
  |none=>none
def AV.yN (m:Nat→Option Nat):List AV→Option (List AV)
 |[]=>some []
 |x::xs=>match AV.iQ m x,AV.yN m xs with
  |some y,some ys=>some (y::ys)
  |_,_=>none
end
mutual
def AV.refs:AV→List Nat
 |.ptr b _=>[b]
 |.rp b _ _ _=>[b]
 |.ow b _ _=>[b]
 |.vw b _ _ _ _ _=>[b]
 |.BR b=>[b]
 |.agg cs=>AV.AE cs
 |.dV cs=>AV.AE cs
 |.fn _ cs=>AV.AE cs
 |.sj _ x=>AV.refs x
 |.cond _ x=>AV.refs x
 |_=>[]
def AV.AE:List AV→List Nat
 |[]=>[]
 |x::xs=>AV.refs x++AV.AE xs
end
def Uw (b:Nat):List Nat→Bool
 |[]=>false
 |x::r=>bif Nat.beq b x then true else Uw b r
def eD (b:Nat):List Nat→Nat→Option Nat
 |[],_=>none
 |x::r,i=>bif Nat.beq b x then some i else eD b r (i+1)
def reach (bx:List az):Nat→List Nat→List Nat→List Nat
 |0,_,acc=>acc
 |_+1,[],acc=>acc
 |n+1,b::todo,acc=>bif Uw b acc then reach bx n todo acc else
  reach bx n (todo++(match bx[b]? with|some (.var cs)=>AV.AE cs|_=>[])) (acc++[b])
def az.iQ (m:Nat→Option Nat):az→Option az
 |.var cs=>match AV.yN m cs with
  |some ys=>some (.var ys)
  |none=>none
 |b=>some b
def gQ (m:Nat→Option Nat) (bx:List az):List Nat→Option (List az)
 |[]=>some []
 |i::r=>match bx[i]? with
  |some b=>match az.iQ m b,gQ m bx r with
   |some b',some bs=>some (b'::bs)
   |_,_=>none
  |none=>none
def GC (m:Nat→Option Nat) (sl:List (Nat×AV)):List Nat→Option (List (Nat×AV))
 |[]=>some []
 |i::r=>match AV.iQ m (gK i sl),GC m sl r with
  |some y,some ys=>some ((i,y)::ys)
  |_,_=>none
def Ec (cg:List Nat):Nat→List Nat→Bool
 |_,[]=>true
 |i,b::r=>(match eD b cg 0 with|some j=>Nat.beq i j|none=>false)&&Ec cg (i+1) r
def upTo:Nat→List Nat
 |0=>[]
 |n+1=>upTo n++[n]
def Px (K:Nat) (ks:List Nat) (s:St):Option St:=
 match reach s.bx 99 (upTo K++AV.AE (ks.map fun i=>gK i s.sl)) [] with
 |cg=>bif Ec cg 0 cg&&Ec cg 0 (upTo K) then
  match gQ (fun b=>eD b cg 0) s.bx cg,GC (fun b=>eD b cg 0) s.sl ks with
  |some bx,some sl=>some ⟨sl,bx⟩
  |_,_=>none
  else none
structure Nf where
 ks:List Nat
 os:List (Nat×Nat):=[]
 ob:List (Nat×Nat×Nat):=[]
def vc (s:St):List (Nat×Nat)→St
 |[]=>s
 |(i,sz)::r=>match gK i s.sl with
  |.cl []=>bif Nat.beq sz 0 then vc ⟨put i (.d (.sl [])) s.sl,s.bx⟩ r else vc ⟨put i (.ow s.bx.length sz 0) s.sl,s.bx++[.row sz []]⟩ r
  |_=>vc s r
def yO (s:St):List (Nat×Nat×Nat)→St
 |[]=>s
 |(b,c,sz)::r=>match s.bx[b]? with
  |some (.var cs)=>match cs[c]? with
   |some (.cl [])=>bif Nat.beq sz 0 then yO ⟨s.sl,s.bx.set b (.var (cs.set c (.d (.sl []))))⟩ r
    else yO ⟨s.sl,(s.bx++[az.row sz []]).set b (.var (cs.set c (.ow s.bx.length sz 0)))⟩ r
   |some (.ow k z _)=>bif Nat.beq sz 0 then match s.bx[k]? with
    |some (.row y es)=>bif Nat.beq y z&&!Nat.beq b k then yO ⟨s.sl,(s.bx.set k (.kC y es)).set b (.var (cs.set c (.d (.sl es))))⟩ r else yO s r
    |_=>yO s r
    else yO s r
   |_=>yO s r
  |_=>yO s r
def WQ:Option Prop→Prop
 |none=>True
 |some c=>c
structure Xv (n:Nat) (es:List (List D)):Prop where
 eq:n=es.length
def qq (s:St):List (Nat×Nat×Nat)→Option Prop
 |[]=>none
 |(b,c,sz)::r=>match s.bx[b]? with
  |some (.var cs)=>match cs[c]? with
   |some (.cl [])=>bif Nat.beq sz 0 then qq ⟨s.sl,s.bx.set b (.var (cs.set c (.d (.sl []))))⟩ r
    else qq ⟨s.sl,(s.bx++[az.row sz []]).set b (.var (cs.set c (.ow s.bx.length sz 0)))⟩ r
   |some (.ow k z n)=>bif Nat.beq sz 0 then match s.bx[k]? with
    |some (.row y es)=>bif Nat.beq y z&&!Nat.beq b k then some (Xv n es∧WQ (qq ⟨s.sl,(s.bx.set k (.kC y es)).set b (.var (cs.set c (.d (.sl es))))⟩ r)) else qq s r
    |_=>qq s r
    else qq s r
   |_=>qq s r
  |_=>qq s r
def ya (K:Nat) (nf:Nf) (s:St):Option St:=Px K nf.ks (yO (vc s nf.os) nf.ob)
section
variable {G:Nat→Option (List D)} {N:Nat} {ds:List Deferred} {β β':Nat→Nat} {bx aR:List az} {w:World} {X:Nat→Prop}
structure sw (K:Nat) (β:Nat→Nat) (bx:List az) (β':Nat→Nat) (aR:List az):Prop where
 born:∀i,i<K→bT bx i→β' i=β i∧bT aR i
 live:∀i b,aR[i]?=some b→b.live=true→∃j b',bx[j]?=some b'∧b'.live=true∧β j=β' i
theorem sw.refl (K:Nat) (β:Nat→Nat) (bx:List az):sw K β bx β bx:=⟨fun _ _ h=>⟨rfl,h⟩,fun i b h1 h2=>⟨i,b,h1,h2,rfl⟩⟩
theorem sw.trans {K:Nat} {β'':Nat→Nat} {Ow:List az} (h:sw K β bx β' aR) (g:sw K β' aR β'' Ow):sw K β bx β'' Ow:=by
 refine ⟨?_,?_⟩
 ·intro i hi hb
  obtain ⟨h1,h2⟩:=h.born i hi hb
  obtain ⟨h3,h4⟩:=g.born i hi h2
  exact ⟨h3.trans h1,h4⟩
 intro i b h1 h2
 obtain ⟨j,b',h3,h4,h5⟩:=g.live i b h1 h2
 obtain ⟨k,b'',h6,h7,h8⟩:=h.live j b' h3 h4
 exact ⟨k,b'',h6,h7,h8.trans h5⟩
theorem Ext.AF {K:Nat} {β0:Nat→Nat} {bC:List az} {w0:World} (ex:Ext β0 bC w0 β bx w) (hK:bC.length≤K) (h:sw K β bx β' aR):Ext β0 bC w0 β' aR w:=by
 refine ⟨ex.os,ex.tape,ex.output,ex.size,ex.block,ex.shape,?_,?_⟩
 ·intro i hi
  obtain ⟨h1,h2⟩:=ex.born i hi
  obtain ⟨b,hb,_⟩:=hi
  obtain ⟨h3,h4⟩:=h.born i (Nat.lt_of_lt_of_le (jw hb) hK) h2
  exact ⟨h3.trans h1,h4⟩
 intro i b h1 h2
 obtain ⟨j,b',h3,h4,h5⟩:=h.live i b h1 h2
 rw [←h5]
 exact ex.live j b' h3 h4
theorem tI {b:Nat}:∀{l:List Nat} {i j:Nat},eD b l i=some j→i≤j∧l[j-i]?=some b
 |[],_,_,h=>by simp [eD] at h
 |x::r,i,j,h=>by
  simp only [eD] at h
  cases hb:Nat.beq b x with
  |true=>
   simp only [hb,cond_true,osI] at h
   subst h
   have:=Nat.eq_of_beq_eq_true hb
   subst this
   simp
  |false=>
   simp only [hb,cond_false] at h
   obtain ⟨h1,h2⟩:=tI h
   refine ⟨by omega,?_⟩
   rw [show j-i=(j-(i+1))+1 by omega,List.getElem?_cons_succ]
   exact h2
theorem rO {cg:List Nat}:∀{l:List Nat} {i k b:Nat},Ec cg i l=true→l[k]?=some b→eD b cg 0=some (i+k)
 |[],_,_,_,_,h=>by simp at h
 |x::r,i,k,b,h,hk=>by
  simp only [Ec,Bool.and_eq_true] at h
  cases k with
  |zero=>
   simp only [List.getElem?_cons_zero,osI] at hk
   subst hk
   obtain ⟨h1,_⟩:=h
   split at h1
   ·rename_i j hj
    rw [hj,←Nat.eq_of_beq_eq_true h1];rfl
   simp at h1
  |succ k=>
   rw [List.getElem?_cons_succ] at hk
   have:=rO h.2 hk
   rw [this];congr 1;omega
theorem GD:∀{n i:Nat},i<n→(upTo n)[i]?=some i
 |n+1,i,h=>by
  have hl:(upTo n).length=n:=by
   clear h;induction n with
   |zero=>rfl
   |succ m ih=>simp [upTo,ih]
  simp only [upTo]
  by_cases hi:i<n
  ·rw [List.getElem?_append_left (by omega)];exact GD hi
  have:i=n:=by omega
  subst this
  rw [List.getElem?_append_right (by omega)];simp [hl]
mutual
theorem rP {m:Nat→Option Nat} {ok ok':Nat→Prop} (hm:∀b j,m b=some j→β' j=β b∧(bT bx b→bT aR j)) (hok:∀blk,ok blk→ok' blk):
 ∀(x y:AV) (v:Value),x.iQ m=some y→aj β bx w ok x v→aj β' aR w ok' y v
 |.any,y,v,h,_=>by simp only [AV.iQ,osI] at h;subst h;simp [aj]
 |.d x,y,v,h,hv=>by
  simp only [AV.iQ,osI] at h;subst h;simp only [aj] at hv ⊢
  exact aL.mono (fun blk hb=>⟨hok blk hb,rfl⟩) _ _ hv
 |.k c,y,v,h,hv=>by simp only [AV.iQ,osI] at h;subst h;simpa [aj] using hv
 |.agg cs,y,v,h,hv=>by
  simp only [AV.iQ] at h
  split at h
  ·rename_i ys hys
   simp only [osI] at h;subst h
   simp only [aj] at hv ⊢;obtain ⟨vs,h1,h2⟩:=hv
   exact ⟨vs,h1,kJ hm hok cs ys vs hys h2⟩
  simp at h
 |.dV cs,y,v,h,hv=>by
  simp only [AV.iQ] at h
  split at h
  ·rename_i ys hys
   simp only [osI] at h;subst h
   simp only [aj] at hv ⊢;obtain ⟨vs,h1,h2⟩:=hv
   exact ⟨vs,h1,kJ hm hok cs ys vs hys h2⟩
  simp at h
 |.ptr b off,y,v,h,hv=>by
  simp only [AV.iQ] at h
  split at h
  ·rename_i j hj
   simp only [osI] at h;subst h
   obtain ⟨e,hb⟩:=hm b j hj
   simp only [aj] at hv ⊢
   rw [e];exact ⟨hv.1,hb hv.2⟩
  simp at h
 |.rp b sz i q,y,v,h,hv=>by
  simp only [AV.iQ] at h
  split at h
  ·rename_i j hj
   simp only [osI] at h;subst h
   obtain ⟨e,hb⟩:=hm b j hj
   simp only [aj] at hv ⊢
   rw [e];exact ⟨hv.1,hb hv.2⟩
  simp at h
 |.BR b,y,v,h,hv=>by
  simp only [AV.iQ] at h
  split at h
  ·rename_i j hj
   simp only [osI] at h;subst h
   obtain ⟨e,hb⟩:=hm b j hj
   simp only [aj] at hv ⊢
   rw [e];exact ⟨hv.1,hb hv.2⟩
  simp at h
 |.ep ds,y,v,h,hv=>by
  simp only [AV.iQ,osI] at h;subst h
  simp only [aj] at hv ⊢;obtain ⟨blk,off,h1,h2,h3⟩:=hv
  exact ⟨blk,off,h1,hok blk h2,aX.mono (fun blk hb=>⟨hok blk hb,rfl⟩) blk (fun _=>rfl) _ _ h3⟩
 |.ow b sz n,y,v,h,hv=>by
  simp only [AV.iQ] at h
  split at h
  ·rename_i j hj
   simp only [osI] at h;subst h
   obtain ⟨e,hb⟩:=hm b j hj
   simp only [aj] at hv ⊢
   rw [e];exact ⟨hb hv.1,hv.2⟩
  simp at h
 |.vw b sz off n c ex,y,v,h,hv=>by
  simp only [AV.iQ] at h
  split at h
  ·rename_i j hj
   simp only [osI] at h;subst h
   obtain ⟨e,hb⟩:=hm b j hj
   simp only [aj] at hv ⊢
   rw [e];exact ⟨hb hv.1,hv.2⟩
  simp at h
 |.cl es,y,v,h,hv=>by
  simp only [AV.iQ,osI] at h;subst h
  simp only [aj] at hv ⊢;obtain ⟨base,h1,h2⟩:=hv
  refine ⟨base,h1,h2.imp id ?_⟩
  rintro ⟨blk,off,sz,e1,e2,e3⟩
  exact ⟨blk,off,sz,e1,hok blk e2,ay.mono (fun blk hb=>⟨hok blk hb,rfl⟩) blk sz (fun _=>rfl) _ _ e3⟩
 |.fn f cs,y,v,h,hv=>by
  simp only [AV.iQ] at h
  split at h
  ·rename_i ys hys
   simp only [osI] at h;subst h
   simp only [aj] at hv ⊢;obtain ⟨vs,h1,h2⟩:=hv
   exact ⟨vs,h1,kJ hm hok cs ys vs hys h2⟩
  simp at h
 |.sj t x,y,v,h,hv=>by
  simp only [AV.iQ] at h
  split at h
  ·rename_i z hz
   simp only [osI] at h;subst h
   simp only [aj] at hv ⊢;obtain ⟨u,h1,h2⟩:=hv
   exact ⟨u,h1,rP hm hok x z u hz h2⟩
  simp at h
 |.cond p x,y,v,h,hv=>by
  simp only [AV.iQ] at h
  split at h
  ·rename_i z hz
   simp only [osI] at h;subst h
   simp only [aj] at hv ⊢
   exact ⟨fun hp=>rP hm hok x z v hz (hv.1 hp),hv.2⟩
  simp at h
theorem kJ {m:Nat→Option Nat} {ok ok':Nat→Prop} (hm:∀b j,m b=some j→β' j=β b∧(bT bx b→bT aR j)) (hok:∀blk,ok blk→ok' blk):
 ∀(xs ys:List AV) (vs:List Value),AV.yN m xs=some ys→ak β bx w ok xs vs→ak β' aR w ok' ys vs
 |[],ys,vs,h,hv=>by simp only [AV.yN,osI] at h;subst h;simpa [ak] using hv
 |x::xs,ys,vs,h,hv=>by
  simp only [AV.yN] at h
  split at h
  ·rename_i y ys' h1 h2
   simp only [osI] at h;subst h
   simp only [ak] at hv ⊢
   obtain ⟨u,us,k1,k2,k3⟩:=hv
   exact ⟨u,us,k1,rP hm hok x y u h1 k2,kJ hm hok xs ys' us h2 k3⟩
  simp at h
end
theorem jD {m:Nat→Option Nat}:∀{cg:List Nat} {bs:List az},gQ m bx cg=some bs→∀(k:Nat) (b':az),bs[k]?=some b'→∃(i:Nat) (b:az),cg[k]?=some i∧bx[i]?=some b∧az.iQ m b=some b'
 |[],bs,h,k,b',hk=>by simp only [gQ,osI] at h;subst h;simp at hk
 |i::r,bs,h,k,b',hk=>by
  simp only [gQ] at h
  split at h
  ·rename_i b hb
   split at h
   ·rename_i b1 bs1 h1 h2
    simp only [osI] at h;subst h
    cases k with
    |zero=>simp only [List.getElem?_cons_zero,osI] at hk;subst hk;exact ⟨i,b,rfl,hb,h1⟩
    |succ k=>simp only [List.getElem?_cons_succ] at hk ⊢;exact jD h2 k b' hk
   simp at h
  simp at h
theorem m7 {m:Nat→Option Nat}:∀{cg:List Nat} {bs:List az},gQ m bx cg=some bs→∀(k i:Nat),cg[k]?=some i→∃(b b':az),bx[i]?=some b∧az.iQ m b=some b'∧bs[k]?=some b'
 |[],bs,h,k,i,hk=>by simp at hk
 |i0::r,bs,h,k,i,hk=>by
  simp only [gQ] at h
  split at h
  ·rename_i b hb
   split at h
   ·rename_i b1 bs1 h1 h2
    simp only [osI] at h;subst h
    cases k with
    |zero=>simp only [List.getElem?_cons_zero,osI] at hk;subst hk;exact ⟨b,b1,hb,h1,rfl⟩
    |succ k=>simp only [List.getElem?_cons_succ] at hk ⊢;exact m7 h2 k i hk
   simp at h
  simp at h
theorem az.gy {m:Nat→Option Nat} {b b':az} (h:az.iQ m b=some b'):b'.born=b.born∧b'.live=b.live:=by
 unfold az.iQ at h
 split at h
 ·split at h
  ·simp only [osI] at h;subst h;exact ⟨rfl,rfl⟩
  simp at h
 simp only [osI] at h;subst h;exact ⟨rfl,rfl⟩
theorem CP {m:Nat→Option Nat} {sl:List (Nat×AV)}:∀{ks:List Nat} {sq:List (Nat×AV)},GC m sl ks=some sq→∀t,gK t sq=.any∨AV.iQ m (gK t sl)=some (gK t sq)
 |[],sq,h,t=>by simp only [GC,osI] at h;subst h;exact .inl rfl
 |i::r,sq,h,t=>by
  simp only [GC] at h
  split at h
  ·rename_i y ys h1 h2
   simp only [osI] at h;subst h
   simp only [gK]
   cases hb:Nat.beq t i with
   |true=>have:=Nat.eq_of_beq_eq_true hb;subst this;exact .inr h1
   |false=>simp only [cond_false];exact CP h2 t
  simp at h
theorem GF {K:Nat} {ks:List Nat} {s s':St} {a:Act} (h:Px K ks s=some s') (hF:Fr G N ds β w X s a):
 ∃β',sw K β s.bx β' s'.bx∧Fr G N ds β' w X s' a:=by
 unfold Px at h
 generalize reach s.bx 99 (upTo K++AV.AE (ks.map fun i=>gK i s.sl)) []=cg at h
 simp only at h
 cases h1:Ec cg 0 cg with
 |false=>simp [h1] at h
 |true=>
 cases h2:Ec cg 0 (upTo K) with
 |false=>simp [h1,h2] at h
 |true=>
 simp only [h1,h2,Bool.and_self,cond_true] at h
 split at h
 ·rename_i bs sl ZR WG
  simp only [osI] at h
  subst h
  have ve:∀k i,cg[k]?=some i→eD i cg 0=some k:=fun k i hk=>by have:=rO h1 hk;simpa using this
  have hidx:∀b j,eD b cg 0=some j→cg[j]?=some b:=fun b j hj=>by have:=(tI hj).2;simpa using this
  let β':Nat→Nat:=fun j=>match cg[j]? with|some i=>β i|none=>0
  have hβ:∀k i,cg[k]?=some i→β' k=β i:=fun k i hk=>by simp [β',hk]
  have hm:∀b j,eD b cg 0=some j→β' j=β b∧(bT s.bx b→bT bs j):=by
   intro b j hj
   have hs:=hidx b j hj
   refine ⟨hβ j b hs,?_⟩
   rintro ⟨B,hB,dL⟩
   obtain ⟨b1,b2,k1,k2,k3⟩:=m7 ZR j b hs
   rw [hB] at k1;cases k1
   exact ⟨b2,k3,(az.gy k2).1.trans dL⟩
  have cz:∀(i:Nat) (b:az),bs[i]?=some b→b.live=true→∃(j:Nat) (b':az),s.bx[j]?=some b'∧b'.live=true∧β j=β' i∧cg[i]?=some j:=by
   intro i b hi hl
   obtain ⟨j,b',k1,k2,k3⟩:=jD ZR i b hi
   exact ⟨j,b',k2,(az.gy k3).2▸hl,(hβ i j k1).symm,k1⟩
  have hok:∀blk,bg β s.bx w X blk→bg β' bs w X blk:=by
   rintro blk ⟨k1,k2,k3⟩
   refine ⟨k1,k2,?_⟩
   intro i b hi hl
   obtain ⟨j,b',h3,h4,h5,_⟩:=cz i b hi hl
   rw [←h5];exact k3 j b' h3 h4
  have hkeep:je w w (bg β s.bx w X) (bg β' bs w X):=fun blk hb=>⟨hok blk hb,rfl⟩
  refine ⟨β',⟨?_,?_⟩,⟨?_,hF.defers,hF.size,?_⟩⟩
  ·intro i hi hb
   have:=rO h2 (GD hi)
   simp only [Nat.zero_add] at this
   obtain ⟨k1,k2⟩:=hm i i this
   exact ⟨k1,k2 hb⟩
  ·intro i b hi hl
   obtain ⟨j,b',h3,h4,h5,_⟩:=cz i b hi hl
   exact ⟨j,b',h3,h4,h5⟩
  ·refine ⟨hF.cx.xs,?_,?_,?_,?_⟩
   ·intro g ds hg
    obtain ⟨k1,k2⟩:=hF.cx.yM g ds hg
    exact ⟨hok g k1,aX.mono hkeep g (fun _=>rfl) _ _ k2⟩
   ·intro i j bi bj hi hj mQ oJ he
    obtain ⟨i',ZS,a1,a2,a3,a4⟩:=cz i bi hi mQ
    obtain ⟨j',ZT,c1,c2,c3,c4⟩:=cz j bj hj oJ
    have:i'=j':=hF.cx.inj i' j' ZS ZT a1 c1 a2 c2 (a3.trans (he.trans c3.symm))
    subst this
    have e1:=ve i i' a4
    have e2:=ve j i' c4
    rw [e1] at e2;exact Option.some.inj e2
   ·intro i b hi
    obtain ⟨j,b',k1,k2,k3⟩:=jD ZR i b hi
    have hb:=hF.cx.box j b' k2
    rw [hβ i j k1]
    cases b' with
    |var cs=>
     simp only [az.iQ] at k3
     split at k3
     ·rename_i ys hys
      simp only [osI] at k3;subst k3
      simp only [dj] at hb ⊢
      obtain ⟨c,e,g1,g2⟩:=hb
      exact ⟨c,e,g1,kJ hm hok cs ys _ hys g2⟩
     simp at k3
    |row sz es=>
     simp only [az.iQ,osI] at k3;subst k3
     refine hb.imp id ?_
     rintro ⟨c,e,g1,g2⟩
     exact ⟨c,e,g1,ay.mono hkeep _ _ (fun _=>rfl) _ _ g2⟩
    |kC sz es=>
     simp only [az.iQ,osI] at k3;subst k3
     refine hb.imp id ?_
     rintro ⟨g1,g2⟩
     exact ⟨hok _ g1,ay.mono hkeep _ _ (fun _=>rfl) _ _ g2⟩
    |it s p=>simp only [az.iQ,osI] at k3;subst k3;exact hb
    |mp ag es=>simp only [az.iQ,osI] at k3;subst k3;obtain ⟨ms,clock,h1,h2,h3⟩:=hb;exact ⟨ms,clock,h1,h2,bp.mono hkeep _ _ _ h3⟩
    |dead=>simp only [az.iQ,osI] at k3;subst k3;trivial
    |bt=>simp only [az.iQ,osI] at k3;subst k3;trivial
   intro i b hi hl
   obtain ⟨j,b',h3,h4,h5,_⟩:=cz i b hi hl
   rw [←h5];exact hF.cx.apart j b' h3 h4
  intro t
  rcases CP WG t with h3|h3
  ·rw [h3];simp [aj]
  exact rP hm hok _ _ _ h3 (hF.ze t)
 simp at h
theorem GG (K:Nat) {sz:Nat} {s:St} {a:Act} (hF:Fr G N ds β w X s a):∃β',sw K β s.bx β' (s.bx++[.row sz []])∧Fr G N ds β' w X ⟨s.sl,s.bx++[.row sz []]⟩ a∧bT (s.bx++[.row sz []]) s.bx.length:=by
 have hinv:∀{i:Nat} {b:az},(s.bx++[az.row sz []])[i]?=some b→b.live=true→s.bx[i]?=some b:=by
  intro i b h hl
  rcases bu h with ⟨h1,_⟩|⟨h1,h2⟩
  ·exact h1
  subst h2;simp [az.live] at hl
 have hok:∀blk,bg β s.bx w X blk→bg β (s.bx++[.row sz []]) w X blk:=by
  rintro blk ⟨k1,k2,k3⟩
  exact ⟨k1,k2,fun i b hi hl=>k3 i b (hinv hi hl) hl⟩
 have dL:∀i,bT s.bx i→bT (s.bx++[.row sz []]) i:=by
  rintro i ⟨b,h1,h2⟩
  exact ⟨b,eH h1,h2⟩
 have hkeep:je w w (bg β s.bx w X) (bg β (s.bx++[.row sz []]) w X):=fun blk hb=>⟨hok blk hb,rfl⟩
 have qc:sD β s.bx w (bg β s.bx w X) β (s.bx++[.row sz []]) w (bg β (s.bx++[.row sz []]) w X):=by
  refine ⟨hkeep,?_,fun _ c _ _ h=>⟨c,h,rfl⟩⟩
  intro i hi
  exact ⟨rfl,dL i hi⟩
 refine ⟨β,⟨fun i _ hi=>⟨rfl,dL i hi⟩,fun i b hi hl=>⟨i,b,hinv hi hl,hl,rfl⟩⟩,⟨⟨hF.cx.xs,?_,?_,?_,?_⟩,hF.defers,hF.size,?_⟩,?_⟩
 ·intro g ds hg
  obtain ⟨k1,k2⟩:=hF.cx.yM g ds hg
  exact ⟨hok g k1,aX.mono hkeep g (fun _=>rfl) _ _ k2⟩
 ·intro i j bi bj hi hj mQ oJ he
  exact hF.cx.inj i j bi bj (hinv hi mQ) (hinv hj oJ) mQ oJ he
 ·intro i b hi
  rcases bu hi with ⟨h1,_⟩|⟨h1,h2⟩
  ·have h:=hF.cx.box i b h1
   cases b with
   |var cs=>
    obtain ⟨c,e,g1,g2⟩:=h
    exact ⟨c,e,g1,ak.mono qc _ _ g2⟩
   |row sz es=>
    refine h.imp id ?_
    rintro ⟨c,e,g1,g2⟩
    exact ⟨c,e,g1,ay.mono hkeep _ _ (fun _=>rfl) _ _ g2⟩
   |kC sz es=>
    refine h.imp id ?_
    rintro ⟨g1,g2⟩
    exact ⟨hok _ g1,ay.mono hkeep _ _ (fun _=>rfl) _ _ g2⟩
   |it s p=>exact h
   |mp ag es=>obtain ⟨ms,clock,h1,h2,h3⟩:=h;exact ⟨ms,clock,h1,h2,bp.mono hkeep _ _ _ h3⟩
   |dead=>trivial
   |bt=>trivial
  subst h2;exact .inl rfl
 ·intro i b hi hl
  exact hF.cx.apart i b (hinv hi hl) hl
 ·intro t;exact aj.mono qc _ _ (hF.ze t)
 exact ⟨.row sz [],by simp,rfl⟩
theorem Ux {ok:Nat→Prop} {n sz:Nat} {u:Value} (hb:bT bx n) (h:aj β bx w ok (.cl []) u):aj β bx w ok (.ow n sz 0) u:=by
 simp only [aj,List.length_nil] at h ⊢
 obtain ⟨base,h1,_⟩:=h
 exact ⟨hb,.inl ⟨trv,base,h1⟩⟩
theorem oR (K:Nat) {a:Act}:∀(l:List (Nat×Nat)) (s:St) (β:Nat→Nat),Fr G N ds β w X s a→∃β',sw K β s.bx β' (vc s l).bx∧Fr G N ds β' w X (vc s l) a
 |[],s,β,hF=>⟨β,sw.refl _ _ _,hF⟩
 |(i,sz)::r,s,β,hF=>by
  unfold vc
  split
  ·rename_i hl
   cases hz:Nat.beq sz 0 with
   |true=>
    simp only [cond_true]
    refine oR K r ⟨put i (.d (.sl [])) s.sl,s.bx⟩ β ⟨hF.cx,hF.defers,hF.size,fun t=>?_⟩
    have h1:=hF.ze t
    simp only [oK]
    by_cases ht:t=i
    ·subst ht
     rw [if_pos rfl]
     rw [hl] at h1
     simp only [aj,aL] at h1 ⊢
     obtain ⟨base,h2,h3⟩:=h1
     exact ⟨base,_,h2,Nat.le_refl _,h3⟩
    rw [if_neg ht];exact h1
   |false=>
   simp only [cond_false]
   obtain ⟨β1,e1,Fj,hb⟩:=GG (sz:=sz) K hF
   have MF:Fr G N ds β1 w X ⟨put i (.ow s.bx.length sz 0) s.sl,s.bx++[.row sz []]⟩ a:=by
    refine ⟨Fj.cx,Fj.defers,Fj.size,?_⟩
    intro t
    have h1:=Fj.ze t
    simp only [oK]
    by_cases ht:t=i
    ·subst ht
     rw [if_pos rfl]
     have Lc:aj β1 (s.bx++[.row sz []]) w (bg β1 (s.bx++[.row sz []]) w X) (gK t s.sl) (a.tmps.getD t undef):=h1
     rw [hl] at Lc
     exact Ux hb Lc
    rw [if_neg ht];exact h1
   obtain ⟨β2,e2,SF⟩:=oR K r _ β1 MF
   exact ⟨β2,e1.trans e2,SF⟩
  exact oR K r s β hF
theorem CQ {ok:Nat→Prop} {x y:AV} (hxy:∀u,aj β bx w ok x u→aj β bx w ok y u):∀(cs:List AV) (c:Nat) (vs:List Value),cs[c]?=some x→ak β bx w ok cs vs→ak β bx w ok (cs.set c y) vs
 |[],_,_,h,_=>by simp at h
 |z::cs,0,vs,h,hv=>by
  simp only [List.getElem?_cons_zero,osI] at h;subst h
  simp only [List.set_cons_zero,ak] at hv ⊢
  obtain ⟨u,us,h1,h2,h3⟩:=hv
  exact ⟨u,us,h1,hxy u h2,h3⟩
 |z::cs,c+1,vs,h,hv=>by
  simp only [List.getElem?_cons_succ] at h
  simp only [List.set_cons_succ,ak] at hv ⊢
  obtain ⟨u,us,h1,h2,h3⟩:=hv
  exact ⟨u,us,h1,h2,CQ hxy cs c us h h3⟩
theorem Ji {s:St} {a:Act} (hF:Fr G N ds β w X s a) {b c:Nat} {cs:List AV} {x y:AV} (hb:s.bx[b]?=some (.var cs)) (hc:cs[c]?=some x)
 (hxy:∀u,aj β s.bx w (bg β s.bx w X) x u→aj β s.bx w (bg β s.bx w X) y u) (K:Nat):
 sw K β s.bx β (s.bx.set b (.var (cs.set c y)))∧Fr G N ds β w X ⟨s.sl,s.bx.set b (.var (cs.set c y))⟩ a:=by
 have hinv:∀{i:Nat} {B:az},(s.bx.set b (.var (cs.set c y)))[i]?=some B→(i=b∧B=.var (cs.set c y))∨(i≠b∧s.bx[i]?=some B):=by
  intro i B h
  rcases aM h with ⟨h1,h2,_⟩|⟨h1,h2⟩
  ·exact .inl ⟨h1,h2⟩
  exact .inr ⟨h1,h2⟩
 have cz:∀{i:Nat} {B:az},(s.bx.set b (.var (cs.set c y)))[i]?=some B→B.live=true→∃B',s.bx[i]?=some B'∧B'.live=true:=by
  intro i B h hl
  rcases hinv h with ⟨rfl,rfl⟩|⟨_,h1⟩
  ·exact ⟨_,hb,rfl⟩
  exact ⟨B,h1,hl⟩
 have hok:∀blk,bg β s.bx w X blk→bg β (s.bx.set b (.var (cs.set c y))) w X blk:=by
  rintro blk ⟨k1,k2,k3⟩
  refine ⟨k1,k2,fun i B hi hl=>?_⟩
  obtain ⟨B',h1,h2⟩:=cz hi hl
  exact k3 i B' h1 h2
 have dL:∀i,bT s.bx i→bT (s.bx.set b (.var (cs.set c y))) i:=fun i hi=>iH rfl hi
 have hkeep:je w w (bg β s.bx w X) (bg β (s.bx.set b (.var (cs.set c y))) w X):=fun blk hb=>⟨hok blk hb,rfl⟩
 have qc:sD β s.bx w (bg β s.bx w X) β (s.bx.set b (.var (cs.set c y))) w (bg β (s.bx.set b (.var (cs.set c y))) w X):=
  ⟨hkeep,fun i hi=>⟨rfl,dL i hi⟩,fun _ c _ _ h=>⟨c,h,rfl⟩⟩
 refine ⟨⟨fun i _ hi=>⟨rfl,dL i hi⟩,fun i B hi hl=>?_⟩,⟨⟨hF.cx.xs,?_,?_,?_,?_⟩,hF.defers,hF.size,?_⟩⟩
 ·obtain ⟨B',h1,h2⟩:=cz hi hl
  exact ⟨i,B',h1,h2,rfl⟩
 ·intro g ds hg
  obtain ⟨k1,k2⟩:=hF.cx.yM g ds hg
  exact ⟨hok g k1,aX.mono hkeep g (fun _=>rfl) _ _ k2⟩
 ·intro i j bi bj hi hj mQ oJ he
  obtain ⟨B1,h1,h2⟩:=cz hi mQ
  obtain ⟨B2,h3,h4⟩:=cz hj oJ
  exact hF.cx.inj i j B1 B2 h1 h3 h2 h4 he
 ·intro i B hi
  rcases hinv hi with ⟨rfl,rfl⟩|⟨_,h1⟩
  ·have h:=hF.cx.box _ _ hb
   simp only [dj] at h ⊢
   obtain ⟨cc,e,g1,g2⟩:=h
   exact ⟨cc,e,g1,ak.mono qc _ _ (CQ hxy cs c _ hc g2)⟩
  have h:=hF.cx.box i B h1
  cases B with
  |var cs=>
   obtain ⟨c,e,g1,g2⟩:=h
   exact ⟨c,e,g1,ak.mono qc _ _ g2⟩
  |row sz es=>
   refine h.imp id ?_
   rintro ⟨c,e,g1,g2⟩
   exact ⟨c,e,g1,ay.mono hkeep _ _ (fun _=>rfl) _ _ g2⟩
  |kC sz es=>
   refine h.imp id ?_
   rintro ⟨g1,g2⟩
   exact ⟨hok _ g1,ay.mono hkeep _ _ (fun _=>rfl) _ _ g2⟩
  |it s p=>exact h
  |mp ag es=>obtain ⟨ms,clock,h1,h2,h3⟩:=h;exact ⟨ms,clock,h1,h2,bp.mono hkeep _ _ _ h3⟩
  |dead=>trivial
  |bt=>trivial
 ·intro i B hi hl
  obtain ⟨B',h1,h2⟩:=cz hi hl
  exact hF.cx.apart i B' h1 h2
 intro t;exact aj.mono qc _ _ (hF.ze t)
theorem dK (K:Nat) {a:Act}:∀(l:List (Nat×Nat×Nat)) (s:St) (β:Nat→Nat),WQ (qq s l)→Fr G N ds β w X s a→∃β',sw K β s.bx β' (yO s l).bx∧Fr G N ds β' w X (yO s l) a
 |[],s,β,_,hF=>⟨β,sw.refl _ _ _,hF⟩
 |(b,c,sz)::r,s,β,hC,hF=>by
  unfold yO
  unfold qq at hC
  cases hb:s.bx[b]? with
  |none=>rw [hb] at hC;exact dK K r s β hC hF
  |some B=>
  rw [hb] at hC
  cases B with
  |var cs=>
   simp only at hC ⊢
   cases hc:cs[c]? with
   |none=>rw [hc] at hC;exact dK K r s β hC hF
   |some v=>
   rw [hc] at hC
   cases v with
   |cl es=>
    cases es with
    |nil=>
     simp only at hC ⊢
     cases hz:Nat.beq sz 0 with
     |true=>
      rw [hz] at hC
      simp only [cond_true] at hC ⊢
      obtain ⟨e2,MF⟩:=Ji hF (b:=b) hb hc (y:=.d (.sl [])) (fun u hu=>by
       simp only [aj,aL] at hu ⊢
       obtain ⟨base,h1,h2⟩:=hu
       exact ⟨base,_,h1,Nat.le_refl _,h2⟩) K
      obtain ⟨β2,e3,SF⟩:=dK K r _ β hC MF
      exact ⟨β2,e2.trans e3,SF⟩
     |false=>
     rw [hz] at hC
     simp only [cond_false] at hC ⊢
     obtain ⟨β1,e1,Fj,DX⟩:=GG (sz:=sz) K hF
     have wj:(s.bx++[az.row sz []])[b]?=some (.var cs):=eH hb
     obtain ⟨e2,MF⟩:=Ji (s:=⟨s.sl,s.bx++[.row sz []]⟩) Fj (b:=b) wj hc (y:=.ow s.bx.length sz 0) (fun u hu=>Ux DX hu) K
     obtain ⟨β2,e3,SF⟩:=dK K r _ β1 hC MF
     exact ⟨β2,(e1.trans e2).trans e3,SF⟩
    |cons=>exact dK K r s β hC hF
   |ow k z n=>
    simp only at hC ⊢
    cases hz:Nat.beq sz 0 with
    |false=>rw [hz] at hC;simp only [cond_false] at hC ⊢;exact dK K r s β hC hF
    |true=>
    rw [hz] at hC
    simp only [cond_true] at hC ⊢
    cases hk:s.bx[k]? with
    |none=>rw [hk] at hC;exact dK K r s β hC hF
    |some B=>
    rw [hk] at hC
    cases B with
    |row y es=>
     simp only at hC ⊢
     cases hy:(Nat.beq y z&&!Nat.beq b k) with
     |false=>rw [hy] at hC;simp only [cond_false] at hC ⊢;exact dK K r s β hC hF
     |true=>
      rw [hy] at hC
      simp only [cond_true,WQ] at hC ⊢
      obtain ⟨⟨hn⟩,hC⟩:=hC
      simp only [Bool.and_eq_true,Bool.not_eq_true'] at hy
      obtain ⟨hy1,OZ⟩:=hy
      have hbk:b≠k:=fun e=>by subst e;rw [hb] at hk;cases hk
      have hfz:∀bx:List az,(bx[k]?=some (.row y es)∨bx[k]?=some (.kC y es))→fz bx (.ow k z n)=some (.d (.sl es)):=by
       intro bx h
       subst hn
       have hl:Nat.beq es.length es.length=true:=Nat.beq_refl _
       rcases h with h|h<;>simp [fz,AV.rq,h,hy1,hl]
      have II:(AV.ow k z n).cw s.bx=s.bx.set k (.kC y es):=by simp [AV.cw,hk]
      obtain ⟨cc,ee,g1,g2⟩:=hF.cx.box _ _ hb
      obtain ⟨u0,_,Xc⟩:=ak.get c _ g2 hc
      obtain ⟨e1,R6,_⟩:=uM hF.cx (hfz s.bx (.inl hk)) Xc
      rw [II] at e1 R6
      have Fj:Fr G N ds β w X ⟨s.sl,s.bx.set k (.kC y es)⟩ a:=⟨R6,hF.defers,hF.size,fun t=>aj.mono (e1.eY X) _ _ (hF.ze t)⟩
      have hlk:k<s.bx.length:=(List.getElem?_eq_some_iff.1 hk).1
      have wi:(s.bx.set k (az.kC y es))[k]?=some (.kC y es):=by simp [hlk]
      have wj:(s.bx.set k (az.kC y es))[b]?=some (.var cs):=by rw [List.getElem?_set_ne (fun e=>hbk e.symm)];exact hb
      have ZU:(AV.ow k z n).cw (s.bx.set k (.kC y es))=s.bx.set k (.kC y es):=by simp [AV.cw,wi]
      have eK:sw K β s.bx β (s.bx.set k (.kC y es)):=⟨fun i _ hi=>(e1.born i hi),fun i B hi hl=>by
       by_cases hik:i=k
       ·subst hik
        exact ⟨i,_,hk,by rw [wi] at hi;cases hi;cases es<;>simp_all [az.live],rfl⟩
       rw [List.getElem?_set_ne (fun e=>hik e.symm)] at hi
       exact ⟨i,B,hi,hl,rfl⟩⟩
      obtain ⟨e2,MF⟩:=Ji (s:=⟨s.sl,s.bx.set k (.kC y es)⟩) Fj (b:=b) wj hc (y:=.d (.sl es)) (fun u hu=>by
       have:=(uM R6 (hfz _ (.inr wi)) hu).2.2
       rw [ZU] at this
       exact this) K
      obtain ⟨β2,e3,SF⟩:=dK K r _ β hC MF
      exact ⟨β2,(eK.trans e2).trans e3,SF⟩
    |_=>exact dK K r s β hC hF
   |_=>exact dK K r s β hC hF
  |_=>exact dK K r s β hC hF
theorem yb {K:Nat} {nf:Nf} {s s':St} {a:Act} (hC:WQ (qq (vc s nf.os) nf.ob)) (h:ya K nf s=some s') (hF:Fr G N ds β w X s a):∃β',sw K β s.bx β' s'.bx∧Fr G N ds β' w X s' a:=by
 unfold ya at h
 obtain ⟨β1,e1,Fj⟩:=oR K nf.os s β hF
 obtain ⟨β2,e2,MF⟩:=dK K nf.ob _ β1 hC Fj
 obtain ⟨β3,e3,SF⟩:=GF h MF
 exact ⟨β3,(e1.trans e2).trans e3,SF⟩
end
structure LoopIn (o:Option St) (P:St→Prop):Prop where
 ok:match o with
  |some s=>P s
  |none=>False
def qt:Option Prop→Prop→Prop
 |none,X=>X
 |some c,X=>c∧X
theorem qt.ok {o:Option Prop} {X:Prop} (h:qt o X):WQ o∧X:=by
 cases o with
 |none=>exact ⟨trv,h⟩
 |some c=>exact h
theorem qt.mk {o:Option Prop} {X:Prop} (h:WQ o) (hx:X):qt o X:=by
 cases o with
 |none=>exact hx
 |some c=>exact ⟨h,hx⟩
structure Uy (K:Nat) (A:(Ex→St→Prop)→St→Prop) (Q:Ex→St→Prop) (s:St):Prop where
 ok:∃(nf:Nf) (I:Nat→St→Prop) (n:Nat),qt (qq (vc s nf.os) nf.ob) (LoopIn (ya K nf s) (I n))∧∀n s1,I n s1→A (fun e s2=>uw (fun s2=>qt (qq (vc s2 nf.os) nf.ob) (LoopIn (ya K nf s2) (fun s3=>∃m,m<n∧I m s3))) Q e s2) s1
mutual
def AV.Ca (b:Nat) (x:D):AV→AV
 |.BR c=>bif Nat.beq c b then .d x else .BR c
 |.agg cs=>.agg (AV.GH b x cs)
 |.dV cs=>.dV (AV.GH b x cs)
 |.fn f cs=>.fn f (AV.GH b x cs)
 |.sj t y=>.sj t (AV.Ca b x y)
 |.cond p y=>.cond p (AV.Ca b x y)
 |v=>v
def AV.GH (b:Nat) (x:D):List AV→List AV
 |[]=>[]
 |y::ys=>AV.Ca b x y::AV.GH b x ys
end
def az.Ca (b:Nat) (x:D):az→az
 |.var cs=>.var (AV.GH b x cs)
 |B=>B
def wN (b:Nat) (x:D):List (Nat×AV)→List (Nat×AV)
 |[]=>[]
 |(i,v)::r=>(i,AV.Ca b x v)::wN b x r
def wO (b:Nat) (x:D):List az→Nat→List az
 |[],_=>[]
 |B::r,i=>(bif Nat.beq i b then .dead else az.Ca b x B)::wO b x r (i+1)
def jE (b:Nat) (x:D) (s:St):St:=⟨wN b x s.sl,wO b x s.bx 0⟩
def Py:List az→Bool
 |[]=>false
 |.mp _ _::_=>true
 |_::r=>Py r
structure Xw (s:St) (A:St→Prop):Prop where
 ok:A s∨∃b ag es,s.bx[b]?=some (.mp ag es)∧A (jE b (.mp ag es) s)
section
variable {P:Program} {T:Nat→Option TI} {G:Nat→Option (List D)} {N:Nat} {ds:List Deferred} {β:Nat→Nat} {w:World} {X:Nat→Prop} {s:St}
theorem oS (b:Nat) (x:D):∀(l:List az) (k i:Nat),(wO b x l k)[i]?=(l[i]?).map fun B=>bif Nat.beq (k+i) b then .dead else az.Ca b x B
 |[],_,_=>by simp [wO]
 |B::r,k,0=>by simp [wO]
 |B::r,k,i+1=>by simp only [wO,List.getElem?_cons_succ];rw [oS b x r (k+1) i,show k+1+i=k+(i+1) by omega]
theorem GI (b:Nat) (x:D) (B:az):(az.Ca b x B).live=B.live∧(az.Ca b x B).born=B.born:=by cases B<;>simp [az.Ca,az.live,az.born]
theorem GJ (b:Nat) (x:D) (t:Nat):∀sl:List (Nat×AV),gK t (wN b x sl)=AV.Ca b x (gK t sl)
 |[]=>by simp [wN,gK,AV.Ca]
 |(u,v)::r=>by
  simp only [wN,gK]
  cases Nat.beq t u with
  |true=>rfl
  |false=>simpa using GJ b x t r
mutual
theorem zj {bx aR:List az} {ok ok':Nat→Prop} {b:Nat} {x:D} (hl:sD β bx w ok β aR w ok') (hb:∀v,v=.map (some (β b))→aL w ok' x v):∀(y:AV) (v:Value),aj β bx w ok y v→aj β aR w ok' (AV.Ca b x y) v
 |.BR c,v,h=>by
  unfold AV.Ca
  cases hc:Nat.beq c b with
  |true=>
   obtain rfl:=Nat.eq_of_beq_eq_true hc
   simp only [cond_true,aj] at h ⊢
   exact hb v h.1
  |false=>simpa using aj.mono hl _ _ h
 |.agg cs,v,h=>by simp only [AV.Ca,aj] at h ⊢;obtain ⟨vs,h1,h2⟩:=h;exact ⟨vs,h1,qu hl hb cs vs h2⟩
 |.dV cs,v,h=>by simp only [AV.Ca,aj] at h ⊢;obtain ⟨vs,h1,h2⟩:=h;exact ⟨vs,h1,qu hl hb cs vs h2⟩
 |.fn f cs,v,h=>by simp only [AV.Ca,aj] at h ⊢;obtain ⟨vs,h1,h2⟩:=h;exact ⟨vs,h1,qu hl hb cs vs h2⟩
 |.sj t y,v,h=>by simp only [AV.Ca,aj] at h ⊢;obtain ⟨u,h1,h2⟩:=h;exact ⟨u,h1,zj hl hb y u h2⟩
 |.cond p y,v,h=>by simp only [AV.Ca,aj] at h ⊢;exact ⟨fun hp=>zj hl hb y v (h.1 hp),h.2⟩
 |.any,v,h=>aj.mono hl _ _ h
 |.d _,v,h=>aj.mono hl _ _ h
 |.k _,v,h=>aj.mono hl _ _ h
 |.ptr _ _,v,h=>aj.mono hl _ _ h
 |.rp _ _ _ _,v,h=>aj.mono hl _ _ h
 |.ep _,v,h=>aj.mono hl _ _ h
 |.ow _ _ _,v,h=>aj.mono hl _ _ h
 |.cl _,v,h=>aj.mono hl _ _ h
 |.vw _ _ _ _ _ _,v,h=>aj.mono hl _ _ h
theorem qu {bx aR:List az} {ok ok':Nat→Prop} {b:Nat} {x:D} (hl:sD β bx w ok β aR w ok') (hb:∀v,v=.map (some (β b))→aL w ok' x v):∀(ys:List AV) (vs:List Value),ak β bx w ok ys vs→ak β aR w ok' (AV.GH b x ys) vs
 |[],vs,h=>by simpa [AV.GH,ak] using h
 |y::ys,vs,h=>by
  simp only [AV.GH,ak] at h ⊢
  obtain ⟨u,us,h1,h2,h3⟩:=h
  exact ⟨u,us,h1,zj hl hb y u h2,qu hl hb ys us h3⟩
end
theorem SG {a:Act} (hF:Fr G N ds β w X s a) {b:Nat} {ag:Bool} {es:List (List D)} (hb:s.bx[b]?=some (.mp ag es)):
 Ext β s.bx w β (jE b (.mp ag es) s).bx w∧Fr G N ds β w X (jE b (.mp ag es) s) a:=by
 have wH:∀{i:Nat} {B:az},(jE b (.mp ag es) s).bx[i]?=some B→(i=b∧B=.dead)∨(i≠b∧∃B',s.bx[i]?=some B'∧B=az.Ca b (.mp ag es) B'):=by
  intro i B h
  simp only [jE,oS,Nat.zero_add,Option.map_eq_some_iff] at h
  obtain ⟨B',h1,h2⟩:=h
  cases hi:Nat.beq i b with
  |true=>simp only [hi,cond_true] at h2;exact .inl ⟨Nat.eq_of_beq_eq_true hi,h2.symm⟩
  |false=>simp only [hi,cond_false] at h2;exact .inr ⟨Nat.ne_of_beq_eq_false hi,B',h1,h2.symm⟩
 have cz:∀{i:Nat} {B:az},(jE b (.mp ag es) s).bx[i]?=some B→B.live=true→i≠b∧∃B',s.bx[i]?=some B'∧B'.live=true:=by
  intro i B h hl
  rcases wH h with ⟨_,rfl⟩|⟨h1,B',h2,rfl⟩
  ·cases hl
  exact ⟨h1,B',h2,(GI _ _ _).1▸hl⟩
 have dL:∀i,bT s.bx i→bT (jE b (.mp ag es) s).bx i:=by
  rintro i ⟨B,h1,h2⟩
  cases hi:Nat.beq i b with
  |true=>exact ⟨.dead,by simp [jE,oS,h1,hi],rfl⟩
  |false=>exact ⟨az.Ca b (.mp ag es) B,by simp [jE,oS,h1,hi],(GI _ _ _).2.trans h2⟩
 have hok:∀blk,bg β s.bx w X blk→bg β (jE b (.mp ag es) s).bx w X blk:=by
  rintro blk ⟨k1,k2,k3⟩
  refine ⟨k1,k2,fun i B hi hl=>?_⟩
  obtain ⟨_,B',h1,h2⟩:=cz hi hl
  exact k3 i B' h1 h2
 have hkeep:je w w (bg β s.bx w X) (bg β (jE b (.mp ag es) s).bx w X):=fun blk hb=>⟨hok blk hb,rfl⟩
 have qc:sD β s.bx w (bg β s.bx w X) β (jE b (.mp ag es) s).bx w (bg β (jE b (.mp ag es) s).bx w X):=⟨hkeep,fun i hi=>⟨rfl,dL i hi⟩,fun _ c _ _ h=>⟨c,h,rfl⟩⟩
 have FL:=hF.cx.box b _ hb
 have hmp:∀v,v=.map (some (β b))→aL w (bg β (jE b (.mp ag es) s).bx w X) (.mp ag es) v:=by
  rintro v rfl
  obtain ⟨ms,clock,h1,h2,h3⟩:=FL
  simp only [aL]
  refine ⟨β b,ms,clock,rfl,⟨ff h1,hF.cx.apart b _ hb rfl,?_⟩,h1,h2,bp.mono hkeep _ _ _ h3⟩
  intro i B hi hl he
  obtain ⟨g1,B',g2,g3⟩:=cz hi hl
  exact g1 (hF.cx.inj i b B' _ g2 hb g3 rfl he)
 refine ⟨⟨rfl,rfl,rfl,Nat.le_refl _,fun _ _ _=>rfl,fun _ c _ _ h=>⟨c,h,rfl⟩,fun i hi=>⟨rfl,dL i hi⟩,?_⟩,⟨⟨hF.cx.xs,?_,?_,?_,?_⟩,hF.defers,hF.size,?_⟩⟩
 ·intro i B hi hl
  obtain ⟨_,B',g2,g3⟩:=cz hi hl
  exact .inr ⟨i,B',g2,g3,rfl⟩
 ·intro g ds hg
  obtain ⟨k1,k2⟩:=hF.cx.yM g ds hg
  exact ⟨hok g k1,aX.mono hkeep g (fun _=>rfl) _ _ k2⟩
 ·intro i j bi bj hi hj mQ oJ he
  obtain ⟨_,Bi,g2,g3⟩:=cz hi mQ
  obtain ⟨_,Bj,g4,g5⟩:=cz hj oJ
  exact hF.cx.inj i j Bi Bj g2 g4 g3 g5 he
 ·intro i B hi
  rcases wH hi with ⟨_,rfl⟩|⟨_,B',h2,rfl⟩
  ·trivial
  have h:=hF.cx.box i B' h2
  cases B' with
  |var cs=>
   obtain ⟨c,e,g1,g2⟩:=h
   exact ⟨c,e,g1,qu qc hmp _ _ g2⟩
  |row sz es=>
   refine h.imp id ?_
   rintro ⟨c,e,g1,g2⟩
   exact ⟨c,e,g1,ay.mono hkeep _ _ (fun _=>rfl) _ _ g2⟩
  |kC sz es=>
   refine h.imp id ?_
   rintro ⟨g1,g2⟩
   exact ⟨hok _ g1,ay.mono hkeep _ _ (fun _=>rfl) _ _ g2⟩
  |it s p=>exact h
  |mp ag es=>obtain ⟨ms,clock,h1,h2,h3⟩:=h;exact ⟨ms,clock,h1,h2,bp.mono hkeep _ _ _ h3⟩
  |dead=>trivial
  |bt=>trivial
 ·intro i B hi hl
  obtain ⟨_,B',g2,g3⟩:=cz hi hl
  exact hF.cx.apart i B' g2 g3
 intro t
 show aj β _ w _ (gK t (wN b (.mp ag es) s.sl)) _
 rw [GJ]
 exact zj qc hmp _ _ (hF.ze t)
end
section
variable (t:Th) (FC:Nat→List AV→List az→iU→List az→Prop) (T:Nat→Option TI) (G:Nat→Option (List D)) (N K:Nat)
def wP:Code→(Ex→St→Prop)→St→Prop
 |.skip,Q,s=>Q .normal s
 |.region _ ops draw,Q,s=>bif draw then (bif Py s.bx then Xw s (fun s=>Lq t FC T G N ops.toList Q s) else Lq t FC T G N ops.toList Q s) else Pu t FC T G N ops.toList ops.toList Q s
 |.seq a b,Q,s=>wP a (fun e s1=>uw (fun s1=>wP b Q s1) Q e s1) s
 |.cond c a b,Q,s=>(bW G s.sl c).ok∧wk (bW G s.sl c).aS (fun _=>wP a Q s) (fun _=>wP b Q s)
 |.block id c,Q,s=>wP c (fun e s1=>match e with|.exit j=>bif Nat.beq j id then Q .normal s1 else Q (.exit j) s1|e=>Q e s1) s
 |.loop c,Q,s=>Uy K (fun Q1 s1=>wP c Q1 s1) Q s
 |.scope c,Q,s=>wP c Q s
 |.exit id,Q,s=>Q (.exit id) s
 |.label _,Q,s=>Q .normal s
 |.ret,Q,s=>Q .ret s
 |_,_,_=>False
structure Ed (n:Nat) (c:Prop) (v:AV) (bx:List az) (fz:Option (Prop×AV)) (res:iU) (aR:List az):Prop where
 ok:c∧((res=.ret v∧aR=bx)∨
  (∃ks d u,fz=some (d,u)∧d∧u.within n=true∧aR=(kill ks (sC bx v)).take n∧bZ n aR=true∧res=.ret u)∨
  (∃k sz m es,v=.ow k sz m∧bx[k]?=some (.row sz es)∧n≤k∧n≤bx.length∧bZ n (bx.take n)=true∧res=.ret (.ow n sz m)∧aR=bx.take n++[.row sz es])∨
  (∃sz,v=.cl []∧n≤bx.length∧bZ n (bx.take n)=true∧res=.ret (.ow n sz 0)∧aR=bx.take n++[.row sz []]))
def vf (results:List ResultVar) (n:Nat) (res:iU) (aR:List az):Ex→St→Prop
 |.exit _,_=>False
 |.panic v,s=>Uc v s.bx res aR
 |_,s=>match B4 T s.sl s.bx results with
  |some (c,vs)=>Ed n c (Cs vs) s.bx (Pq t s.bx (Cs vs)) res aR
  |none=>False
end
section
variable {P:Program} {T:Nat→Option TI} {G:Nat→Option (List D)} {N K:Nat} {ds:List Deferred} {X:Nat→Prop} {β0:Nat→Nat} {bC:List az} {w0:World}
theorem Pz {β:Nat→Nat} {w:World} {s s1:St} {a:Act} {i:Nat} {c:Prop} (hF:Fr G N ds β w X s a) (h:Eb t0 i s=some (c,s1)) (hc:c):Ext β s.bx w β s1.bx w∧Fr G N ds β w X s1 a:=by
 unfold Eb at h
 split at h
 ·rename_i c' y hy
  simp only [osI,Prod.mk.injEq] at h
  obtain ⟨rfl,rfl⟩:=h
  obtain ⟨g1,g2,g3⟩:=uM hF.cx (Je hy hc) (hF.ze i)
  refine ⟨g1,g2,hF.defers,hF.size,fun t=>?_⟩
  simp only [oK]
  by_cases h:t=i
  ·subst h;rw [if_pos rfl];exact g3
  rw [if_neg h];exact aj.mono (g1.eY X) _ _ (hF.ze t)
 cases h
theorem qw (hD:qb P T G) {id:Nat} {ops:Array Oper} {Q:Ex→St→Prop} {β:Nat→Nat} {w:World} {s:St} {a:Act} (ex:Ext β0 bC w0 β s.bx w) (hF:Fr G N ds β w X s a)
 (h:Lq t0 (bA P G) T G N ops.toList Q s):(Code.region id ops true).wp P (gG G N ds X β0 bC w0 Q) a w:=by
 rcases SE h with h|⟨i,c,s1,h1,hc,h⟩
 ·exact hD _ _ _ _ _ _ id ops Q β w s a ex hF h
 obtain ⟨e1,Fj⟩:=Pz hF h1 hc
 exact hD _ _ _ _ _ _ id ops Q β w s1 a (ex.trans e1) Fj h
theorem gr (hT:kr P T) (hD:qb P T G) (hK:bC.length≤K):∀(c:Code) (Q:Ex→St→Prop) (β:Nat→Nat) (w:World) (s:St) (a:Act),Ext β0 bC w0 β s.bx w→Fr G N ds β w X s a→
 wP t0 (bA P G) T G N K c Q s→c.wp P (gG G N ds X β0 bC w0 Q) a w
 |.skip,Q,β,w,s,a,ex,hF,h=>wp_skip ⟨β,s,ex,hF,h⟩
 |.region id ops draw,Q,β,w,s,a,ex,hF,h=>by
  cases draw with
  |true=>
   simp only [wP,cond_true] at h
   cases hm:Py s.bx with
   |false=>simp only [hm,cond_false] at h;exact qw hD ex hF h
   |true=>
    simp only [hm,cond_true] at h
    rcases h with ⟨h|⟨b,ag,es,hb,h⟩⟩
    ·exact qw hD ex hF h
    obtain ⟨e1,Fj⟩:=SG hF hb
    exact qw hD (ex.trans e1) Fj h
  |false=>exact wp_region_list (mw hT ops.toList β w s a ex hF (Jg _ _ h))
 |.seq x y,Q,β,w,s,a,ex,hF,h=>by
  refine wp_seq (wp_mono (gr hT hD hK x _ β w s a ex hF h) ?_)
  intro e a' w' hl
  cases e<;>simp only [gG,uw] at hl
  ·obtain ⟨β',s',h1,h2,h3⟩:=hl
   exact gr hT hD hK y Q β' w' s' a' h1 h2 h3
  ·exact hl
  ·exact hl
  exact hl
 |.cond c x y,Q,β,w,s,a,ex,hF,h=>by
  obtain ⟨h1,⟨h2⟩⟩:=h
  split at h2
  ·rename_i p hc
   have hv:=ke (hF.eval c) h1
   rw [hc] at hv
   simp only [aj,aL] at hv
   exact wp_cond_split hv (fun hp=>gr hT hD hK x Q β w s a ex hF (h2.1 hp)) (fun hp=>gr hT hD hK y Q β w s a ex hF (h2.2 hp))
  exact h2.elim
 |.block id c,Q,β,w,s,a,ex,hF,h=>by
  refine wp_block (wp_mono (gr hT hD hK c _ β w s a ex hF h) ?_)
  intro e a' w' hl
  cases e<;>simp only [gG,Exit.inBlock] at hl ⊢
  ·exact hl
  ·rename_i j
   by_cases hj:j=id
   ·subst hj
    simpa [gG] using hl
   have hb:Nat.beq j id=false:=WI hj
   simpa [gG,hb,hj] using hl
  ·exact hl
  exact hl
 |.loop c,Q,β,w,s,a,ex,hF,h=>by
  obtain ⟨nf,I,n,hG,Vo⟩:=h
  obtain ⟨hC0,⟨hI⟩⟩:=hG.ok
  refine wp_loop_ghost (fun n a w=>∃β s,Ext β0 bC w0 β s.bx w∧Fr G N ds β w X s a∧I n s) n ?_ ?_
  ·split at hI
   ·rename_i s' hn
    obtain ⟨β',e1,Xl⟩:=yb hC0 hn hF
    exact ⟨β',s',ex.AF hK e1,Xl,hI⟩
   exact hI.elim
  rintro n a w ⟨β,s,ex,hF,hI⟩
  refine wp_mono (gr hT hD hK c _ β w s a ex hF (Vo n s hI)) ?_
  intro e a' w' hl
  cases e<;>simp only [gG,uw] at hl
  ·obtain ⟨β',s',h1,h2,hG⟩:=hl
   obtain ⟨hC1,⟨h3⟩⟩:=hG.ok
   split at h3
   ·rename_i s'' hn
    obtain ⟨m,h4,h5⟩:=h3
    obtain ⟨β'',e1,Xl⟩:=yb hC1 hn h2
    exact ⟨m,h4,β'',s'',h1.AF hK e1,Xl,h5⟩
   exact h3.elim
  ·exact hl
  ·exact hl
  exact hl
 |.scope c,Q,β,w,s,a,ex,hF,h=>by
  refine wp_scope_straight (wp_mono (gr hT hD hK c Q β w s a ex hF h) ?_)
  intro e a' w' hl
  cases e<;>simp only [gG,Exit.noGoto] at hl ⊢<;>exact hl
 |.exit id,Q,β,w,s,a,ex,hF,h=>wp_exit ⟨β,s,ex,hF,h⟩
 |.label l,Q,β,w,s,a,ex,hF,h=>wp_label ⟨β,s,ex,hF,h⟩
 |.ret,Q,β,w,s,a,ex,hF,h=>wp_ret ⟨β,s,ex,hF,h⟩
theorem Lu {results:List ResultVar} {n:Nat} {res:iU} {aR:List az} {e:Ex} {s:St} (h:vf t0 T results n res aR e s):K4 T results n res aR e s:=by
 unfold vf at h
 split at h
 ·exact h.elim
 ·exact h
 rename_i h1 h2
 unfold K4
 split
 ·exact absurd rfl (h1 _)
 ·exact absurd rfl (h2 _)
 split at h
 ·rename_i c vs hr
  simp only [hr]
  obtain ⟨hc,h⟩:=h
  refine ⟨hc,?_⟩
  rcases h with h|⟨ks,d,u,k1,k2,k3⟩|h|h
  ·exact .inl h
  ·exact .inr (.inl ⟨ks,u,Jf k1 k2,k3⟩)
  ·exact .inr (.inr (.inl h))
  exact .inr (.inr (.inr h))
 exact h.elim
theorem yP (hT:kr P T) (hD:qb P T G) {f N:Nat} {fn:Func} {c:Code} {args:List AV} {bC aR:List az} {res:iU} (hf:P.funcs[f]?=some fn) (hb:fn.body=some c)
 (hname:(fn.name== "runtime.NumGoroutine")=false) (hN:fn.ntmps=N) (hlen:Nat.ble args.length N=true)
 (h:wP t0 (bA P G) T G N bC.length c (vf t0 T fn.results.toList bC.length res aR) ⟨pu 0 args,bC⟩):bA P G f args bC res aR:=
 uP hT hf hb hname hN hlen fun β w X a hF=>wp_mono (gr (X:=X) (β0:=β) (bC:=bC) (w0:=w) hT hD (Nat.le_refl _) c _ β w ⟨pu 0 args,bC⟩ a (Ext.refl _ _ _) hF h)
  fun _ _ _ hl=>gG.imp (fun _ _ hq=>Lu hq) hl
end
end Dem
end
section
open Go
namespace Dem
def k9 (cg:List Nat) (n:Nat) (j:Nat):Option Nat:=match cg[j]? with
 |some i=>some i
 |none=>some (n+(j-cg.length))
def rQ (cg:List Nat) (n:Nat) (bC:List az):Nat→List az→Option (List az)
 |_,[]=>some []
 |i,b::r=>match eD i cg 0 with
  |some j=>match bC[j]? with
   |some b0=>match az.iQ (k9 cg n) b0,rQ cg n bC (i+1) r with
    |some x,some xs=>some (x::xs)
    |_,_=>none
   |none=>none
  |none=>match rQ cg n bC (i+1) r with
   |some xs=>some (b::xs)
   |none=>none
def vg (cg:List Nat) (n:Nat):List az→Option (List az)
 |[]=>some []
 |b::r=>match az.iQ (k9 cg n) b,vg cg n r with
  |some x,some xs=>some (x::xs)
  |_,_=>none
def GK (cg:List Nat) (bx bC:List az):Option (List az):=
 bif Nat.ble cg.length bC.length&&Ec cg 0 cg then
  match rQ cg bx.length bC 0 bx,vg cg bx.length (bC.drop cg.length) with
  |some a,some b=>some (a++b)
  |_,_=>none
 else none
def iU.iQ (m:Nat→Option Nat):iU→Option iU
 |.ret v=>match v.iQ m with
  |some x=>some (.ret x)
  |none=>none
 |.Mn v=>match v.iQ m with
  |some x=>some (.Mn x)
  |none=>none
section
variable {P:Program} {G:Nat→Option (List D)}
theorem qx {cg:List Nat} {n:Nat} {bC:List az}:∀{bx a:List az} {i:Nat},rQ cg n bC i bx=some a→a.length=bx.length∧∀(k:Nat) (b:az),bx[k]?=some b→
 (∃j b0 b',eD (i+k) cg 0=some j∧bC[j]?=some b0∧az.iQ (k9 cg n) b0=some b'∧a[k]?=some b')∨(eD (i+k) cg 0=none∧a[k]?=some b)
 |[],a,i,h=>by simp only [rQ,osI] at h;subst h;simp
 |b::r,a,i,h=>by
  simp only [rQ] at h
  split at h
  ·rename_i j hj
   split at h
   ·rename_i b0 hb0
    split at h
    ·rename_i x xs h1 h2
     simp only [osI] at h;subst h
     obtain ⟨k1,k2⟩:=qx h2
     refine ⟨by simp [k1],?_⟩
     intro k b1 hk
     cases k with
     |zero=>exact .inl ⟨j,b0,x,hj,hb0,h1,rfl⟩
     |succ k=>
      simp only [List.getElem?_cons_succ] at hk ⊢
      have:=k2 k b1 hk
      rwa [show i+1+k=i+(k+1) by omega] at this
    simp at h
   simp at h
  rename_i hj
  split at h
  ·rename_i xs h2
   simp only [osI] at h;subst h
   obtain ⟨k1,k2⟩:=qx h2
   refine ⟨by simp [k1],?_⟩
   intro k b1 hk
   cases k with
   |zero=>simp only [List.getElem?_cons_zero,osI] at hk;subst hk;exact .inr ⟨hj,rfl⟩
   |succ k=>
    simp only [List.getElem?_cons_succ] at hk ⊢
    have:=k2 k b1 hk
    rwa [show i+1+k=i+(k+1) by omega] at this
  simp at h
theorem yc {cg:List Nat} {n:Nat}:∀{bx a:List az},vg cg n bx=some a→a.length=bx.length∧∀(k:Nat) (b:az),bx[k]?=some b→∃b',az.iQ (k9 cg n) b=some b'∧a[k]?=some b'
 |[],a,h=>by simp only [vg,osI] at h;subst h;simp
 |b::r,a,h=>by
  simp only [vg] at h
  split at h
  ·rename_i x xs h1 h2
   simp only [osI] at h;subst h
   obtain ⟨k1,k2⟩:=yc h2
   refine ⟨by simp [k1],?_⟩
   intro k b1 hk
   cases k with
   |zero=>simp only [List.getElem?_cons_zero,osI] at hk;subst hk;exact ⟨x,h1,rfl⟩
   |succ k=>simp only [List.getElem?_cons_succ] at hk ⊢;exact k2 k b1 hk
  simp at h
theorem dD {f:Nat} {args pz:List AV} {bx bC vj aR:List az} {Vp res:iU} (cg:List Nat)
 (ha:AV.yN (fun b=>eD b cg 0) args=some pz) (hb:gQ (fun b=>eD b cg 0) bx cg=some bC)
 (hr:iU.iQ (k9 cg bx.length) Vp=some res) (hb':GK cg bx vj=some aR) (h:bA P G f pz bC Vp vj):bA P G f args bx res aR:=by
 intro β w vs X cx hx
 unfold GK at hb'
 cases hlen:Nat.ble cg.length vj.length with
 |false=>simp [hlen] at hb'
 |true=>
 cases Jj:Ec cg 0 cg with
 |false=>simp [hlen,Jj] at hb'
 |true=>
 simp only [hlen,Jj,Bool.and_self,cond_true] at hb'
 split at hb'
 case h_2=>simp at hb'
 rename_i aO aN hO hN
 simp only [osI] at hb'
 subst hb'
 have hlen':cg.length≤vj.length:=Nat.le_of_ble_eq_true hlen
 obtain ⟨lO,gO⟩:=qx hO
 obtain ⟨lN,gN⟩:=yc hN
 have ve:∀k i,cg[k]?=some i→eD i cg 0=some k:=fun k i hk=>by have:=rO Jj hk;simpa using this
 have hidx:∀b j,eD b cg 0=some j→cg[j]?=some b:=fun b j hj=>by have:=(tI hj).2;simpa using this
 have PA:∀k i,cg[k]?=some i→∃b,bx[i]?=some b:=fun k i hk=>by
  obtain ⟨b,_,h1,_⟩:=m7 hb k i hk;exact ⟨b,h1⟩
 let β0:Nat→Nat:=fun j=>match cg[j]? with|some i=>β i|none=>0
 let X0:Nat→Prop:=fun blk=>X blk∨∃(i:Nat) (b:az),bx[i]?=some b∧b.live=true∧eD i cg 0=none∧β i=blk
 have Vq:∀k i,cg[k]?=some i→β0 k=β i:=fun k i hk=>by simp [β0,hk]
 have hm:∀b j,eD b cg 0=some j→β0 j=β b∧(bT bx b→bT bC j):=by
  intro b j hj
  have hs:=hidx b j hj
  refine ⟨Vq j b hs,?_⟩
  rintro ⟨B,hB,dL⟩
  obtain ⟨b1,b2,k1,k2,k3⟩:=m7 hb j b hs
  rw [hB] at k1;cases k1
  exact ⟨b2,k3,(az.gy k2).1.trans dL⟩
 have tJ:∀(i:Nat) (b:az),bC[i]?=some b→b.live=true→∃(j:Nat) (b':az),bx[j]?=some b'∧b'.live=true∧β j=β0 i∧cg[i]?=some j:=by
  intro i b hi hl
  obtain ⟨j,b',k1,k2,k3⟩:=jD hb i b hi
  exact ⟨j,b',k2,(az.gy k3).2▸hl,(Vq i j k1).symm,k1⟩
 have PB:∀blk,bg β bx w X blk→bg β0 bC w X0 blk:=by
  rintro blk ⟨k1,k2,k3⟩
  refine ⟨k1,?_,?_⟩
  ·rintro (hX|⟨i,b,h1,h2,_,h3⟩)
   ·exact k2 hX
   exact k3 i b h1 h2 h3
  intro i b hi hl
  obtain ⟨j,b',h3,h4,h5,_⟩:=tJ i b hi hl
  rw [←h5];exact k3 j b' h3 h4
 have Ee:je w w (bg β bx w X) (bg β0 bC w X0):=fun blk hb=>⟨PB blk hb,rfl⟩
 have hlt:∀(i:Nat) (b:az),bx[i]?=some b→b.live=true→β i<w.heap.size:=fun i b h hl=>dj.fL (cx.box i b h) hl
 have WE:cJ G β0 bC w X0:=by
  refine ⟨?_,?_,?_,?_,?_⟩
  ·rintro blk (hX|⟨i,b,h1,h2,_,rfl⟩)
   ·exact cx.xs blk hX
   exact hlt i b h1 h2
  ·intro g ds hg
   obtain ⟨k1,k2⟩:=cx.yM g ds hg
   exact ⟨PB g k1,aX.mono Ee g (fun _=>rfl) _ _ k2⟩
  ·intro i j bi bj hi hj mQ oJ he
   obtain ⟨i',ZS,a1,a2,a3,a4⟩:=tJ i bi hi mQ
   obtain ⟨j',ZT,c1,c2,c3,c4⟩:=tJ j bj hj oJ
   have:i'=j':=cx.inj i' j' ZS ZT a1 c1 a2 c2 (a3.trans (he.trans c3.symm))
   subst this
   have e1:=ve i i' a4
   have e2:=ve j i' c4
   rw [e1] at e2;exact Option.some.inj e2
  ·intro i b hi
   obtain ⟨j,b',k1,k2,k3⟩:=jD hb i b hi
   have FL:=cx.box j b' k2
   rw [Vq i j k1]
   cases b' with
   |var cs=>
    simp only [az.iQ] at k3
    split at k3
    ·rename_i ys hys
     simp only [osI] at k3;subst k3
     simp only [dj] at FL ⊢
     obtain ⟨c,e,g1,g2⟩:=FL
     exact ⟨c,e,g1,kJ hm PB cs ys _ hys g2⟩
    simp at k3
   |row sz es=>
    simp only [az.iQ,osI] at k3;subst k3
    refine FL.imp id ?_
    rintro ⟨c,e,g1,g2⟩
    exact ⟨c,e,g1,ay.mono Ee _ _ (fun _=>rfl) _ _ g2⟩
   |kC sz es=>
    simp only [az.iQ,osI] at k3;subst k3
    refine FL.imp id ?_
    rintro ⟨g1,g2⟩
    exact ⟨PB _ g1,ay.mono Ee _ _ (fun _=>rfl) _ _ g2⟩
   |it s p=>simp only [az.iQ,osI] at k3;subst k3;exact FL
   |mp ag es=>simp only [az.iQ,osI] at k3;subst k3;obtain ⟨ms,clock,h1,h2,h3⟩:=FL;exact ⟨ms,clock,h1,h2,bp.mono Ee _ _ _ h3⟩
   |dead=>simp only [az.iQ,osI] at k3;subst k3;trivial
   |bt=>simp only [az.iQ,osI] at k3;subst k3;trivial
  intro i b hi hl
  obtain ⟨j,b',h3,h4,h5,h6⟩:=tJ i b hi hl
  rw [←h5]
  rintro (hX|⟨i2,b2,e1,e2,e3,e4⟩)
  ·exact cx.apart j b' h3 h4 hX
  have:i2=j:=cx.inj i2 j b2 b' e1 h3 e2 h4 e4
  subst this
  rw [ve i i2 h6] at e3;cases e3
 refine jB.mono (h β0 w vs X0 WE (kJ hm PB args pz vs ha hx)) ?_
 rintro e w' ⟨Jk,so,SH,hres⟩
 let β':Nat→Nat:=fun i=>match eD i cg 0 with|some j=>Jk j|none=>if i<bx.length then β i else Jk (cg.length+(i-bx.length))
 have Xx:∀j i,cg[j]?=some i→i<bx.length:=fun j i hj=>by obtain ⟨b,hb⟩:=PA j i hj;exact jw hb
 have Xy:∀k,eD (bx.length+k) cg 0=none:=by
  intro k
  cases hc:eD (bx.length+k) cg 0 with
  |none=>rfl
  |some j=>have:=Xx j _ (hidx _ _ hc);omega
 have Xz:∀i j,eD i cg 0=some j→β' i=Jk j:=fun i j hj=>by simp [β',hj]
 have Jl:∀i,i<bx.length→eD i cg 0=none→β' i=β i:=fun i hi hn=>by simp [β',hi,hn]
 have ZV:∀k,β' (bx.length+k)=Jk (cg.length+k):=fun k=>by simp [β',Xy k];omega
 have PC:∀(i:Nat),i<bx.length→(aO++aN)[i]?=aO[i]?:=fun i hi=>List.getElem?_append_left (by omega)
 have Uz:∀(k:Nat),(aO++aN)[bx.length+k]?=aN[k]?:=fun k=>by rw [List.getElem?_append_right (by omega),lO];congr 1;omega
 have hinv:∀(i:Nat) (b:az),(aO++aN)[i]?=some b→(i<bx.length∧eD i cg 0=none∧bx[i]?=some b)∨
  (∃(j:Nat) (b0:az),vj[j]?=some b0∧az.iQ (k9 cg bx.length) b0=some b∧k9 cg bx.length j=some i):=by
  intro i b hi
  rcases Nat.lt_or_ge i bx.length with hl|hl
  ·rw [PC i hl] at hi
   obtain ⟨bi,xK⟩:∃bi,bx[i]?=some bi:=⟨bx[i],by simp [hl]⟩
   have:=gO i bi xK
   rw [Nat.zero_add] at this
   rcases this with ⟨j,b0,b',k1,k2,k3,k4⟩|⟨k1,k2⟩
   ·rw [hi] at k4;cases k4
    refine .inr ⟨j,b0,k2,k3,?_⟩
    simp [k9,hidx i j k1]
   rw [hi] at k2;cases k2
   exact .inl ⟨hl,k1,xK⟩
  obtain ⟨k,rfl⟩:∃k,i=bx.length+k:=⟨i-bx.length,by omega⟩
  rw [Uz k] at hi
  have hk:k<aN.length:=by
   rcases Nat.lt_or_ge k aN.length with h'|h'
   ·exact h'
   simp [List.getElem?_eq_none h'] at hi
  have hkd:k<(vj.drop cg.length).length:=by omega
  obtain ⟨b',k1,k2⟩:=gN k _ (List.getElem?_eq_getElem hkd)
  rw [hi] at k2;cases k2
  refine .inr ⟨cg.length+k,(vj.drop cg.length)[k],?_,k1,?_⟩
  ·rw [←List.getElem?_drop];exact List.getElem?_eq_getElem hkd
  simp [k9]
 have AG:∀j i,k9 cg bx.length j=some i→β' i=Jk j∧(bT vj j→bT (aO++aN) i):=by
  intro j i hj
  unfold k9 at hj
  split at hj
  ·rename_i i' hs
   simp only [osI] at hj;subst hj
   obtain ⟨bi,xK⟩:=PA j i' hs
   have hil:=jw xK
   refine ⟨Xz i' j (ve j i' hs),?_⟩
   rintro ⟨b0,e1,e2⟩
   have:=gO i' bi xK
   rw [Nat.zero_add,ve j i' hs] at this
   rcases this with ⟨j2,b02,b',c1,c2,c3,c4⟩|⟨c1,_⟩
   ·cases c1
    rw [e1] at c2;cases c2
    exact ⟨b',by rw [PC i' hil];exact c4,(az.gy c3).1.trans e2⟩
   cases c1
  rename_i hs
  simp only [osI] at hj;subst hj
  have hge:cg.length≤j:=by
   rcases Nat.lt_or_ge j cg.length with h'|h'
   ·simp [h'] at hs
   exact h'
  refine ⟨by rw [ZV];congr 1;omega,?_⟩
  rintro ⟨b0,e1,e2⟩
  have hd:(vj.drop cg.length)[j-cg.length]?=some b0:=by rw [List.getElem?_drop];rw [←e1];congr 1;omega
  obtain ⟨b',c1,c2⟩:=gN _ _ hd
  exact ⟨b',by rw [Uz];exact c2,(az.gy c1).1.trans e2⟩
 have PD:∀blk,bg Jk vj w' X0 blk→bg β' (aO++aN) w' X blk:=by
  rintro blk ⟨k1,k2,k3⟩
  refine ⟨k1,fun hX=>k2 (.inl hX),?_⟩
  intro i b hi hl
  rcases hinv i b hi with ⟨c1,c2,c3⟩|⟨j,b0,c1,c2,c3⟩
  ·rw [Jl i c1 c2]
   exact fun he=>k2 (.inr ⟨i,b,c3,hl,c2,he⟩)
  rw [(AG j i c3).1]
  exact k3 j b0 c1 ((az.gy c2).2▸hl)
 have Jm:je w' w' (bg Jk vj w' X0) (bg β' (aO++aN) w' X):=fun blk hb=>⟨PD blk hb,rfl⟩
 have ex:Ext β bx w β' (aO++aN) w':=by
  refine ⟨so.os,so.tape,so.output,so.size,?_,so.shape,?_,?_⟩
  ·intro k hk hl
   refine so.block k hk ?_
   intro i b hi hlv
   obtain ⟨j,b',h3,h4,h5,_⟩:=tJ i b hi hlv
   rw [←h5];exact hl j b' h3 h4
  ·intro i hi
   obtain ⟨b,wj,um⟩:=hi
   have hil:=jw wj
   cases hc:eD i cg 0 with
   |some j=>
    obtain ⟨k1,k2⟩:=hm i j hc
    obtain ⟨c1,c2⟩:=so.born j (k2 ⟨b,wj,um⟩)
    have hbm:k9 cg bx.length j=some i:=by simp [k9,hidx i j hc]
    exact ⟨by rw [Xz i j hc,c1,k1],(AG j i hbm).2 c2⟩
   |none=>
    refine ⟨Jl i hil hc,b,?_,um⟩
    rw [PC i hil]
    have:=gO i b wj
    rw [Nat.zero_add,hc] at this
    rcases this with ⟨_,_,_,c1,_⟩|⟨_,c2⟩
    ·cases c1
    exact c2
  intro i b hi hl
  rcases hinv i b hi with ⟨c1,c2,c3⟩|⟨j,b0,c1,c2,c3⟩
  ·exact .inr ⟨i,b,c3,hl,(Jl i c1 c2).symm⟩
  rw [(AG j i c3).1]
  rcases so.live j b0 c1 ((az.gy c2).2▸hl) with h1|⟨j',b',h1,h2,h3⟩
  ·exact .inl h1
  obtain ⟨j2,b2,e1,e2,e3,_⟩:=tJ j' b' h1 h2
  exact .inr ⟨j2,b2,e1,e2,e3.trans h3⟩
 refine ⟨β',ex,cx.step ex ?_ ?_,?_⟩
 ·intro i b hi
  rcases hinv i b hi with ⟨c1,c2,c3⟩|⟨j,b0,c1,c2,c3⟩
  ·refine .inl ⟨c3,fun hl=>so.block _ (hlt i b c3 hl) ?_⟩
   intro k b' hk hlk he
   obtain ⟨j,b2,h3,h4,h5,h6⟩:=tJ k b' hk hlk
   have:j=i:=cx.inj j i b2 b h3 c3 h4 hl (h5.trans he)
   subst this
   rw [ve k j h6] at c2;cases c2
  refine .inr ?_
  have FL:=SH.box j b0 c1
  rw [(AG j i c3).1]
  cases b0 with
  |var cs=>
   simp only [az.iQ] at c2
   split at c2
   ·rename_i ys hys
    simp only [osI] at c2;subst c2
    simp only [dj] at FL ⊢
    obtain ⟨c,e,g1,g2⟩:=FL
    exact ⟨c,e,g1,kJ AG PD cs ys _ hys g2⟩
   simp at c2
  |row sz es=>
   simp only [az.iQ,osI] at c2;subst c2
   refine FL.imp id ?_
   rintro ⟨c,e,g1,g2⟩
   exact ⟨c,e,g1,ay.mono Jm _ _ (fun _=>rfl) _ _ g2⟩
  |kC sz es=>
   simp only [az.iQ,osI] at c2;subst c2
   refine FL.imp id ?_
   rintro ⟨g1,g2⟩
   exact ⟨PD _ g1,ay.mono Jm _ _ (fun _=>rfl) _ _ g2⟩
  |it s p=>simp only [az.iQ,osI] at c2;subst c2;exact FL
  |mp ag es=>simp only [az.iQ,osI] at c2;subst c2;obtain ⟨ms,clock,h1,h2,h3⟩:=FL;exact ⟨ms,clock,h1,h2,bp.mono Jm _ _ _ h3⟩
  |dead=>simp only [az.iQ,osI] at c2;subst c2;trivial
  |bt=>simp only [az.iQ,osI] at c2;subst c2;trivial
 ·intro i j bi bj hi hj mQ oJ he
  rcases hinv i bi hi with ⟨c1,c2,c3⟩|⟨i',b0,c1,c2,c3⟩<;>rcases hinv j bj hj with ⟨d1,d2,d3⟩|⟨j',b0',d1,d2,d3⟩
  ·rw [Jl i c1 c2,Jl j d1 d2] at he
   exact cx.inj i j bi bj c3 d3 mQ oJ he
  ·rw [Jl i c1 c2,(AG j' j d3).1] at he
   exact absurd (.inr ⟨i,bi,c3,mQ,c2,he⟩) (SH.apart j' b0' d1 ((az.gy d2).2▸oJ))
  ·rw [(AG i' i c3).1,Jl j d1 d2] at he
   exact absurd (.inr ⟨j,bj,d3,oJ,d2,he.symm⟩) (SH.apart i' b0 c1 ((az.gy c2).2▸mQ))
  rw [(AG i' i c3).1,(AG j' j d3).1] at he
  have:=SH.inj i' j' b0 b0' c1 d1 ((az.gy c2).2▸mQ) ((az.gy d2).2▸oJ) he
  subst this
  rw [c3] at d3;exact Option.some.inj d3
 cases Vp with
 |ret v0=>
  simp only [iU.iQ] at hr
  split at hr
  ·rename_i v hv
   simp only [osI] at hr;subst hr
   cases e with
   |returned u=>exact rP AG PD v0 v u hv hres
   |panicked ch=>exact hres.elim
   |outgrown=>exact hres.elim
  simp at hr
 |Mn v0=>
  simp only [iU.iQ] at hr
  split at hr
  ·rename_i v hv
   simp only [osI] at hr;subst hr
   cases e with
   |returned u=>exact hres.elim
   |panicked ch=>
    obtain ⟨u,k1,k2⟩:=hres
    exact ⟨u,k1,rP AG PD v0 v u hv k2⟩
   |outgrown=>exact hres.elim
  simp at hr
end
end Dem
end
section
open Go
namespace Dem
theorem aF {s:St} {P:St→Prop} (h:P s):LoopIn (some s) P:=⟨h⟩
def XA (bx:List az):List (Nat×az)→List az
 |[]=>bx
 |(i,b)::r=>XA (bx.set i b) r
def XB (sl:List (Nat×AV)):List (Nat×AV)→List (Nat×AV)
 |[]=>sl
 |(i,v)::r=>XB (put i v sl) r
def MI (s:St) (u:List (Nat×AV)) (b:List (Nat×az)):St:=⟨XB s.sl u,XA s.bx b⟩
theorem bE {K:Nat} {A:(Ex→St→Prop)→St→Prop} {Q:Ex→St→Prop} {s:St} (nf:Nf) {σ:Type} (U:σ→List (Nat×AV)) (V:σ→List (Nat×az)) (J:Nat→σ→Prop)
 (h:qt (qq (vc s nf.os) nf.ob) (LoopIn (ya K nf s) fun s0=>∃n0 v0,J n0 v0∧s0=MI s0 (U v0) (V v0)∧
  ∀n v,J n v→A (fun e s2=>uw (fun s2=>qt (qq (vc s2 nf.os) nf.ob) (LoopIn (ya K nf s2) (fun s3=>∃m v',(m<n∧J m v')∧s3=MI s0 (U v') (V v')))) Q e s2) (MI s0 (U v) (V v)))):Uy K A Q s:=by
 obtain ⟨hC,⟨h⟩⟩:=h.ok
 split at h
 ·rename_i s0 hn
  obtain ⟨n0,v0,hJ,hs,hr⟩:=h
  refine ⟨nf,fun n s1=>∃v,J n v∧s1=MI s0 (U v) (V v),n0,qt.mk hC ⟨?_⟩,?_⟩
  ·rw [hn];exact ⟨v0,hJ,hs⟩
  rintro n s1 ⟨v,hv,rfl⟩
  have e:(fun e s2=>uw (fun s2=>qt (qq (vc s2 nf.os) nf.ob) (LoopIn (ya K nf s2) (fun s3=>∃m v',(m<n∧J m v')∧s3=MI s0 (U v') (V v')))) Q e s2)=
   (fun e s2=>uw (fun s2=>qt (qq (vc s2 nf.os) nf.ob) (LoopIn (ya K nf s2) (fun s3=>∃m,m<n∧∃v,J m v∧s3=MI s0 (U v) (V v)))) Q e s2):=by
   funext e s2
   congr 1
   funext s2
   congr 2
   funext s3
   apply propext
   constructor
   ·rintro ⟨m,v',⟨h1,h2⟩,h3⟩;exact ⟨m,h1,v',h2,h3⟩
   rintro ⟨m,h1,v',h2,h3⟩;exact ⟨m,v',⟨h1,h2⟩,h3⟩
  rw [←e];exact hr n v hv
 exact h.elim
theorem ap {p:Bool} {A B:Unit→Prop} (h1:p=true→A ()) (h2:p=false→B ()):wk (.d (.bool p)) A B:=.mk (And.intro h1 h2)
theorem ld {p:Bool} {A B:Unit→Prop} (hp:p=true) (h1:A ()):wk (.d (.bool p)) A B:=.mk (And.intro (fun _=>h1) (fun h=>by rw [hp] at h;cases h))
theorem pE {p:Bool} {A B:Unit→Prop} (hp:p=false) (h1:B ()):wk (.d (.bool p)) A B:=.mk (And.intro (fun h=>by rw [hp] at h;cases h) (fun _=>h1))
theorem iW {g:Bool} {c:Prop} {ds:List D} {K:List D→Prop} (ds':List D) (hc:c) (hd:ds=ds') (hK:K ds'):nL g c ds K:=⟨ds',fun _=>⟨hc,hd⟩,hK⟩
theorem PE {g:Bool} {c:Prop} {ds:List D} {K:List D→Prop} (ds':List D) (hc:c) (hd:ds=ds') (hK:K ds'):Az g c ds K:=⟨ds',fun _=>⟨hc,hd⟩,hK⟩
theorem SI {g:Bool} {c:Prop} {ds:List D} {K:List D→Prop} (ds':List D) (h:g=true→c∧ds=ds') (hK:K ds'):nL g c ds K:=⟨ds',h,hK⟩
theorem Vr {g:Bool} {c:Prop} {ds:List D} {K:List D→Prop} (ds':List D) (h:g=true→c∧ds=ds') (hK:K ds'):Az g c ds K:=⟨ds',h,hK⟩
theorem bH {c:Prop} {v:AV} {bx:List az} {K:AV→List az→Prop} (v':AV) (aR:List az) (hc:c) (hv:v=v') (hb:bx=aR) (hK:K v' aR):Pr c v bx K:=⟨v',aR,hc,hv,hb,hK⟩
theorem ij {g:Bool} {c:Prop} {v:AV} {K:AV→Prop} (v':AV) (h:g=true→c∧v=v') (hK:K v'):Up g c v K:=⟨v',h,hK⟩
theorem gI {g:Bool} {p K:Prop} (h:g=true→p) (k:K):wM g p∧K:=⟨⟨h⟩,k⟩
theorem pI {p:Bool} {a b K:Prop} (h:(p=true→a)∧(p=false→b)) (k:K):Lo p a b∧K:=⟨⟨h⟩,k⟩
section
variable {P:Program} {G:Nat→Option (List D)} {FC:Nat→List AV→List az→iU→List az→Prop} {kE:Prop} {f:Nat} {args args':List AV} {c:Prop} {bx pS pT:List az} {v:AV} {K Kp:AV→List az→Prop}
theorem gR (ho:kE) (h:FC f args' [] (.ret v) []) (hc:c) (hs:AV.shut.kY args'=true) (hf:v.flat=true) (hK:K v bx):m6 FC kE f args (some (c,args')) bx K Kp:=
 ⟨ho,.inl ⟨c,args',rfl,hc,hs,.inl ⟨v,h,.inl hf,hK⟩⟩⟩
theorem Lv (ho:kE) (h:FC f args' [] (.ret v) []) (hc:c) (hs:AV.shut.kY args'=true) (hz:eZ [] args=some args') (hv:v.shut=true) (hK:K v bx):m6 FC kE f args (some (c,args')) bx K Kp:=
 ⟨ho,.inl ⟨c,args',rfl,hc,hs,.inl ⟨v,h,.inr ⟨hz,hv⟩,hK⟩⟩⟩
theorem jV {sz n:Nat} {es:List (List D)} (ho:kE) (h:FC f args' [] (.ret (.ow 0 sz n)) [.row sz es]) (hc:c) (hs:AV.shut.kY args'=true) (hz:(∀r∈es,∀x∈r,x.flat=true)∨eZ [] args=some args') (hK:K (.ow bx.length sz n) (bx++[.row sz es])):m6 FC kE f args (some (c,args')) bx K Kp:=
 ⟨ho,.inl ⟨c,args',rfl,hc,hs,.inr ⟨sz,n,es,h,hz,hK⟩⟩⟩
theorem UA {fz:Option (Prop×List AV)} (ho:kE) (hfz:fz=some (c,args')) (hc:c) (h:FC f args' (fw bx args) (.ret v) pT) (hK:K v pT):m6 FC kE f args fz bx K Kp:=
 ⟨ho,.inr ⟨args',fw bx args,.ret v,pT,.inr ⟨⟨c,hfz,hc⟩,rfl⟩,h,hK⟩⟩
theorem eE {fz:Option (Prop×List AV)} (ho:kE) (h:FC f args bx (.ret v) pT) (hK:K v pT):m6 FC kE f args fz bx K Kp:=
 ⟨ho,.inr ⟨args,bx,.ret v,pT,.inl ⟨rfl,rfl⟩,h,hK⟩⟩
theorem GL {dr g:Bool} {v:AV} {K:AV→Prop} (h:g=true→kE∧c∧FC f args' [] (.ret v) []) (hs:AV.bM.dg [] args'=true) (hf:v.flat=true) (hK:K v):tH FC dr g kE f args bx (some (c,args')) K:=
 ⟨.inr ⟨v,fun hg=>⟨(h hg).1,args',[],⟨c,rfl,(h hg).2.1⟩,hs,⟨false,rfl,fun h=>by cases h⟩,by simp,(h hg).2.2,.inl hf⟩,hK⟩⟩
theorem nE {dr g:Bool} {v:AV} {K:AV→Prop} (h:g=true→kE∧c∧FC f args' [] (.ret v) []) (hs:AV.bM.dg [] args'=true) (hz:eZ [] args=some args') (hf:v.shut=true) (hK:K v):tH FC dr g kE f args bx (some (c,args')) K:=
 ⟨.inr ⟨v,fun hg=>⟨(h hg).1,args',[],⟨c,rfl,(h hg).2.1⟩,hs,⟨false,rfl,fun h=>by cases h⟩,by simp,(h hg).2.2,.inr ⟨hz,hf⟩⟩,hK⟩⟩
theorem Vs {P:Program} {G:Nat→Option (List D)} {dr g:Bool} {v:AV} {K:AV→Prop} {pz:List AV} {bC:List az} (ks:List Bool) (cg:List Nat) (ho:g=true→kE∧c∧bA P G f pz bC (.ret v) bC)
 (hn:AV.bM.dg (kill ks bx) args'=true) (hl:dW false (kill ks bx) (kill ks bx)=true) (hv:v.flat=true∨eZ [] args=some args'∧v.shut=true)
 (ha:AV.yN (fun b=>eD b cg 0) args'=some pz) (hb:gQ (fun b=>eD b cg 0) (kill ks bx) cg=some bC) (hb':GK cg (kill ks bx) bC=some (kill ks bx)) (hr:iU.iQ (k9 cg (kill ks bx).length) (.ret v)=some (.ret v))
 (hK:K v):tH (bA P G) dr g kE f args bx (some (c,args')) K:=by
 refine ⟨.inr ⟨v,fun hg=>⟨(ho hg).1,args',kill ks bx,⟨c,rfl,(ho hg).2.1⟩,hn,⟨false,hl,fun h=>by cases h⟩,?_,dD cg ha hb hr hb' (ho hg).2.2,hv⟩,hK⟩⟩
 intro i b hi dL
 obtain ⟨b0,h1,h2⟩:=mz ks bx i b hi
 rcases h2 with rfl|⟨rfl,h3⟩
 ·exact ⟨_,h1,dL,fun _=>rfl⟩
 exact ⟨b0,h1,h3,fun h=>by simp [az.live] at h⟩
theorem GM {x sz n:Nat} {es:List (List D)} {at_:Option az} {K:AV→az→Prop} (ho:kE) (h:FC f args' [] (.ret (.ow 0 sz n)) [.row sz es]) (hc:c) (hs:AV.shut.kY args'=true) (hz:(∀r∈es,∀x∈r,x.flat=true)∨eZ [] args=some args') (hat:at_=some .bt)
 (hK:K (.ow x sz n) (.row sz es)):Uq FC kE f args (some (c,args')) at_ x K:=⟨args',sz,n,es,ho,⟨c,rfl,hc⟩,hs,h,hz,hat,hK⟩
structure PF (r:Option iU) (b:Option (List az)) (K:AV→List az→Prop):Prop where
 ok:match r,b with
  |some (.ret v),some bx=>K v bx
  |_,_=>False
theorem cD {v:AV} {bx:List az} {K:AV→List az→Prop} (h:K v bx):PF (some (.ret v)) (some bx) K:=⟨h⟩
theorem dG {fz:Option (Prop×List AV)} (cg:List Nat) {pz:List AV} {bC vj:List az} {v0:AV} (ho:kE)
 (ha:AV.yN (fun b=>eD b cg 0) args=some pz) (hb:gQ (fun b=>eD b cg 0) bx cg=some bC) (h:bA P G f pz bC (.ret v0) vj)
 (hK:PF (iU.iQ (k9 cg bx.length) (.ret v0)) (GK cg bx vj) K):m6 (bA P G) kE f args fz bx K Kp:=by
 obtain ⟨hK⟩:=hK
 split at hK
 ·rename_i v aR hr hb'
  exact eE ho (dD cg ha hb hr hb' h) hK
 exact hK.elim
end
section
variable {n:Nat} {c d:Prop} {v u:AV} {bx aR:List az} {res:iU} {fz:Option (Prop×AV)}
theorem iq (hc:c) (hd:d) (hw:u.within n=true) (hb:aR=(sC bx v).take n) (SJ:bZ n aR=true) (hr:res=.ret u):Ed n c v bx (some (d,u)) res aR:=
 ⟨hc,.inr (.inl ⟨[],d,u,rfl,hd,hw,hb,SJ,hr⟩)⟩
theorem yQ (ks:List Bool) (hc:c) (hd:d) (hw:u.within n=true) (hb:aR=(kill ks (sC bx v)).take n) (SJ:bZ n aR=true) (hr:res=.ret u):Ed n c v bx (some (d,u)) res aR:=
 ⟨hc,.inr (.inl ⟨ks,d,u,rfl,hd,hw,hb,SJ,hr⟩)⟩
theorem Jn (hc:c) (hb:aR=bx) (hr:res=.ret v):Ed n c v bx fz res aR:=⟨hc,.inl ⟨hr,hb⟩⟩
theorem Cb {k sz m:Nat} {es:List (List D)} (hc:c) (hk:bx[k]?=some (.row sz es)) (h1:Nat.ble n k=true) (h2:Nat.ble n bx.length=true) (SJ:bZ n (bx.take n)=true) (hr:res=.ret (.ow n sz m)) (hb:aR=bx.take n++[.row sz es]):Ed n c (.ow k sz m) bx fz res aR:=
 ⟨hc,.inr (.inr (.inl ⟨k,sz,m,es,rfl,hk,Nat.le_of_ble_eq_true h1,Nat.le_of_ble_eq_true h2,SJ,hr,hb⟩))⟩
theorem GN {sz:Nat} (hc:c) (h2:Nat.ble n bx.length=true) (SJ:bZ n (bx.take n)=true) (hr:res=.ret (.ow n sz 0)) (hb:aR=bx.take n++[.row sz []]):Ed n c (.cl []) bx fz res aR:=
 ⟨hc,.inr (.inr (.inr ⟨sz,rfl,Nat.le_of_ble_eq_true h2,SJ,hr,hb⟩))⟩
end
theorem dR {P:Program} {G:Nat→Option (List D)} {f b sz n:Nat} {args:List AV} {bx aR:List az} {res:iU}
 (h:∀c,n≤c→(n=0→c=0)→bA P G f (.vw b sz 0 n c true::args) bx res aR):bA P G f (.ow b sz n::args) bx res aR:=by
 intro β w vs X cx hx
 simp only [ak] at hx
 obtain ⟨u,us,rfl,hx,hxs⟩:=hx
 simp only [aj] at hx
 obtain ⟨hb,⟨rfl,base,rfl⟩|⟨h0,cap,c,e,f',rfl,h1,h2,h3⟩⟩:=hx
 ·refine h 0 (Nat.le_refl _) (fun _=>rfl) β w _ X cx ?_
  simp only [ak,aj]
  exact ⟨_,us,rfl,⟨hb,base,0,#[],0,(0,0),rfl,Nat.le_refl _,Nat.le_refl _,fun _=>rfl,.inl rfl⟩,hxs⟩
 refine h cap h1 (fun h=>absurd h h0) β w _ X cx ?_
 simp only [ak,aj]
 exact ⟨_,us,rfl,⟨hb,_,cap,c,e,f',rfl,h1,Nat.le_refl _,fun _=>rfl,.inr ⟨by simp,h2,by simpa using h3⟩⟩,hxs⟩
theorem wrap64 {x:Int} (h0:-9223372036854775808≤x) (h1:x<9223372036854775808):IntKind.i64.wrap x=x:=by
 simp [IntKind.wrap,IntKind.signed,IntKind.bits];omega
end Dem
end
section
open Go
namespace Dem
def qU:AV:=.d (.int .u64 0)
def qI:AV:=.d (.int .i64 0)
def qS:AV:=.d (.str [])
def qF:AV:=.d (.bool false)
def qY:AV:=.d (.int .u8 0)
def qC:AV:=.cl []
def pM:Option TI:=some ⟨1,8,.other,.k .nilFunc,true,none⟩
def wQ:Option TI:=some ⟨1,0,.other,.any,true,none⟩
def UB:Option TI:=some ⟨1,8,.other,.k .oy,true,none⟩
def XC:Option TI:=some ⟨1,16,.iface,.k .nilIface,true,none⟩
def Y5:Option TI:=some ⟨1,8,.int .i64,qI,true,none⟩
def Y6:Option TI:=some ⟨1,1,.int .u8,qY,true,none⟩
def Y7:Option TI:=some ⟨1,8,.int .u64,qU,true,none⟩
def ZW:Option TI:=some ⟨1,16,.str,qS,true,none⟩
def ZX:Option TI:=some ⟨1,4,.int .i32,.d (.int .i32 0),true,none⟩
def ZY:Option TI:=some ⟨5,5,.struct [(0,5),(1,5),(2,5),(3,5),(4,5)],.agg [qY,qY,qY,qY,qY],true,none⟩
def XD:Option TI:=some ⟨4,24,.struct [(0,2),(1,3),(2,4),(3,6)],.agg [qI,qI,qF,qY],true,none⟩
def XE:Option TI:=some ⟨2,24,.struct [(0,9),(1,12)],.agg [qS,qU],false,none⟩
def XF:Option TI:=some ⟨1,8,.struct [(0,17)],.agg [.k .oy],false,none⟩
def XG:Option TI:=some ⟨2,48,.struct [(0,25),(1,26)],.agg [qC,qC],true,none⟩
def XH:Option TI:=some ⟨1,24,.slice 139,qC,true,none⟩
def XI:Option TI:=some ⟨2,32,.struct [(0,24),(1,32)],.agg [qU,qC],true,none⟩
def XJ:Option TI:=some ⟨11,200,.struct [(0,24),(1,24),(2,28),(4,29),(5,30),(6,31),(7,34),(9,34)],.agg [qU,qU,qC,qC,qC,qC,qC,qU,qC,qU,qC],true,none⟩
def XK:Option TI:=some ⟨4,32,.array 4 24,.agg [qU,qU,qU,qU],true,none⟩
def XL:Option TI:=some ⟨9,96,.struct [(0,9),(1,40),(5,3),(6,3),(7,3),(8,41)],.agg [qS,qU,qU,qU,qU,qI,qI,qI,qC],true,none⟩
def XM:Option TI:=some ⟨12,120,.struct [(0,24),(1,43),(10,4),(11,3)],.agg [qU,qS,qU,qU,qU,qU,qI,qI,qI,qC,qF,qI],true,none⟩
def XN:Option TI:=some ⟨2,16,.struct [(0,24),(1,3)],.agg [qU,qI],true,none⟩
def XO:Option TI:=some ⟨7,80,.struct [(0,9),(1,40),(5,73),(6,4)],.agg [qS,qU,qU,qU,qU,qC,qF],true,none⟩
def XP:Option TI:=some ⟨12,208,.struct [(0,36),(11,3)],.agg [qU,qU,qC,qC,qC,qC,qC,qU,qC,qU,qC,qI],true,none⟩
def XQ:Option TI:=some ⟨6,56,.struct [(0,24),(1,9),(2,40)],.agg [qU,qS,qU,qU,qU,qU],true,none⟩
def XR:Option TI:=some ⟨11,200,.struct [(0,36)],.agg [qU,qU,qC,qC,qC,qC,qC,qU,qC,qU,qC],true,none⟩
def XS:Option TI:=some ⟨9,80,.struct [(0,9),(1,40),(5,40)],.agg [qS,qU,qU,qU,qU,qU,qU,qU,qU],true,none⟩
def XT:Option TI:=some ⟨2,32,.struct [(0,9),(1,9)],.agg [qS,qS],true,none⟩
def XU:Option TI:=some ⟨4,32,.struct [(0,40)],.agg [qU,qU,qU,qU],true,none⟩
def XW:Option TI:=some ⟨3,24,.struct [(0,24),(1,24),(2,3)],.agg [qU,qU,qI],true,none⟩
def XX:Option TI:=some ⟨1,8,.struct [(0,188)],.agg [.k .nilFunc],true,none⟩
def XY:Option TI:=some ⟨6,72,.struct [(0,9),(1,40),(5,73)],.agg [qS,qU,qU,qU,qU,qC],true,none⟩
def XZ:Option TI:=some ⟨2,8,.struct [(0,21),(1,21)],.agg [.d (.int .i32 0),.d (.int .i32 0)],true,none⟩
def X1:Option TI:=some ⟨2,32,.struct [(0,274),(1,275)],.agg [.k .oy,qC],true,none⟩
def X2:Option TI:=some ⟨2,2,.struct [(0,5),(1,5)],.agg [qY,qY],true,none⟩
def X3:Option TI:=some ⟨4,40,.struct [(0,17),(1,17),(2,17),(3,9)],.agg [.k .oy,.k .oy,.k .oy,qS],false,none⟩
def X4:Option TI:=some ⟨0,0,.struct [(0,327)],.agg [],false,none⟩
def X5:Option TI:=some ⟨11,48,.struct [(0,12),(1,12),(2,297),(3,330),(4,5),(5,5),(6,331),(7,332),(8,299),(9,333),(10,334)],.agg [qU,qU,.d (.int .u32 0),qY,qY,qY,qY,.k .nilFunc,.k .oy,.d (.int .i32 0),.d (.int .i32 0)],false,none⟩
def ZZ (t:Nat):Option TI:=(if t<9 then (if t<5 then if t=0 then wQ else if t=2 then Y5 else if t=3 then Y5 else if t=4 then some ⟨1,1,.bool,qF,true,none⟩ else pM else if t=5 then Y6 else if t=6 then Y6 else if t=7 then XD else if t=8 then XD else pM) else (if t<13 then if t=9 then ZW else if t=10 then ZW else if t=11 then ZW else if t=12 then Y7 else pM else if t=13 then XE else if t=14 then XE else if t=15 then UB else if t=16 then UB else pM))
def Z0 (t:Nat):Option TI:=(if t<26 then (if t<21 then if t=17 then UB else if t=18 then XF else if t=19 then XF else if t=20 then XC else pM else if t=21 then ZX else if t=22 then some ⟨1,24,.slice 85,qC,true,none⟩ else if t=24 then Y7 else if t=25 then some ⟨1,24,.slice 75,qC,true,none⟩ else pM) else (if t<30 then if t=26 then some ⟨1,24,.slice 118,qC,true,none⟩ else if t=27 then XG else if t=28 then XG else if t=29 then XH else pM else if t=30 then some ⟨1,24,.slice 45,qC,true,none⟩ else if t=31 then some ⟨1,24,.slice 69,qC,true,none⟩ else if t=32 then some ⟨1,24,.slice 170,qC,true,none⟩ else if t=33 then XI else pM))
def Z1 (t:Nat):Option TI:=(if t<44 then (if t<40 then if t=34 then XI else if t=35 then XJ else if t=36 then XJ else if t=39 then XK else pM else if t=40 then XK else if t=41 then some ⟨1,24,.slice 122,qC,true,none⟩ else if t=42 then XL else if t=43 then XL else pM) else (if t<51 then if t=44 then XM else if t=45 then XM else if t=46 then wQ else if t=48 then some ⟨1,24,.slice 24,qC,true,none⟩ else pM else if t=51 then some ⟨1,24,.slice 9,qC,true,none⟩ else if t=52 then wQ else if t=54 then wQ else if t=60 then Y5 else pM))
def Z2 (t:Nat):Option TI:=(if t<76 then (if t<69 then if t=61 then wQ else if t=63 then some ⟨1,24,.slice 109,qC,true,none⟩ else if t=66 then wQ else if t=68 then XN else pM else if t=69 then XN else if t=73 then some ⟨1,24,.slice 147,qC,true,none⟩ else if t=74 then XO else if t=75 then XO else pM) else (if t<105 then if t=76 then wQ else if t=84 then ZY else if t=85 then ZY else if t=99 then wQ else pM else if t=105 then wQ else if t=109 then ZY else if t=112 then XP else if t=113 then XP else pM))
def Z3 (t:Nat):Option TI:=(if t<131 then (if t<122 then if t=116 then wQ else if t=117 then XQ else if t=118 then XQ else if t=121 then some ⟨3,48,.struct [(0,9),(1,4),(2,51)],.agg [qS,qF,qC],true,none⟩ else pM else if t=122 then some ⟨3,48,.struct [(0,9),(1,4),(2,51)],.agg [qS,qF,qC],true,some ("demesne/sel.holds",76)⟩ else if t=125 then wQ else if t=127 then wQ else if t=130 then XR else pM) else (if t<144 then if t=131 then XR else if t=138 then XS else if t=139 then XS else if t=141 then wQ else pM else if t=144 then wQ else if t=146 then XT else if t=147 then XT else if t=151 then some ⟨1,24,.slice 209,qC,true,none⟩ else pM))
def Z4 (t:Nat):Option TI:=(if t<176 then (if t<164 then if t=153 then wQ else if t=157 then some ⟨1,24,.slice 3,qC,true,none⟩ else if t=160 then XH else if t=163 then XU else pM else if t=164 then XU else if t=169 then XW else if t=170 then XW else if t=174 then wQ else pM) else (if t<199 then if t=176 then XC else if t=177 then XC else if t=192 then some ⟨1,8,.map 24 3,.k .DJ,true,none⟩ else if t=198 then XX else pM else if t=199 then XX else if t=206 then wQ else if t=208 then XY else if t=209 then XY else pM))
def Z5 (t:Nat):Option TI:=(if t<236 then (if t<230 then if t=220 then wQ else if t=226 then some ⟨0,0,.struct [],.agg [],true,none⟩ else if t=227 then some ⟨0,0,.struct [],.agg [],true,some ("demesne/sel.holds",290)⟩ else if t=228 then some ⟨1,24,.slice 9,qC,true,some ("demesne/sel.holds",291)⟩ else pM else if t=230 then wQ else if t=233 then some ⟨1,24,.slice 235,qC,true,none⟩ else if t=234 then XZ else if t=235 then XZ else pM) else (if t<259 then if t=236 then some ⟨6,24,.array 3 235,.agg [.d (.int .i32 0),.d (.int .i32 0),.d (.int .i32 0),.d (.int .i32 0),.d (.int .i32 0),.d (.int .i32 0)],true,none⟩ else if t=237 then some ⟨4,16,.array 2 235,.agg [.d (.int .i32 0),.d (.int .i32 0),.d (.int .i32 0),.d (.int .i32 0)],true,none⟩ else if t=242 then wQ else if t=256 then Y7 else pM else if t=259 then wQ else if t=274 then UB else if t=275 then some ⟨1,24,.slice 5,qC,true,none⟩ else if t=276 then X1 else pM))
def Z6 (t:Nat):Option TI:=(if t<299 then (if t<288 then if t=277 then X1 else if t=279 then XC else if t=280 then XC else if t=281 then wQ else pM else if t=288 then Y5 else if t=289 then wQ else if t=294 then wQ else if t=297 then some ⟨1,4,.int .u32,.d (.int .u32 0),true,none⟩ else pM) else (if t<312 then if t=299 then UB else if t=300 then Y7 else if t=304 then UB else if t=309 then UB else pM else if t=312 then UB else if t=313 then wQ else if t=315 then wQ else if t=319 then some ⟨256,256,.array 256 5,.agg [qY,qY,qY,qY,qY,qY,qY,qY,qY,qY,qY,qY,qY,qY,qY,qY,qY,qY,qY,qY,qY,qY,qY,qY,qY,qY,qY,qY,qY,qY,qY,qY,qY,qY,qY,qY,qY,qY,qY,qY,qY,qY,qY,qY,qY,qY,qY,qY,qY,qY,qY,qY,qY,qY,qY,qY,qY,qY,qY,qY,qY,qY,qY,qY,qY,qY,qY,qY,qY,qY,qY,qY,qY,qY,qY,qY,qY,qY,qY,qY,qY,qY,qY,qY,qY,qY,qY,qY,qY,qY,qY,qY,qY,qY,qY,qY,qY,qY,qY,qY,qY,qY,qY,qY,qY,qY,qY,qY,qY,qY,qY,qY,qY,qY,qY,qY,qY,qY,qY,qY,qY,qY,qY,qY,qY,qY,qY,qY,qY,qY,qY,qY,qY,qY,qY,qY,qY,qY,qY,qY,qY,qY,qY,qY,qY,qY,qY,qY,qY,qY,qY,qY,qY,qY,qY,qY,qY,qY,qY,qY,qY,qY,qY,qY,qY,qY,qY,qY,qY,qY,qY,qY,qY,qY,qY,qY,qY,qY,qY,qY,qY,qY,qY,qY,qY,qY,qY,qY,qY,qY,qY,qY,qY,qY,qY,qY,qY,qY,qY,qY,qY,qY,qY,qY,qY,qY,qY,qY,qY,qY,qY,qY,qY,qY,qY,qY,qY,qY,qY,qY,qY,qY,qY,qY,qY,qY,qY,qY,qY,qY,qY,qY,qY,qY,qY,qY,qY,qY,qY,qY,qY,qY,qY,qY,qY,qY,qY,qY,qY,qY,qY,qY,qY,qY,qY,qY],true,none⟩ else pM))
def Z7 (t:Nat):Option TI:=(if t<328 then (if t<323 then if t=320 then X2 else if t=321 then X2 else if t=322 then some ⟨32,32,.array 16 321,.agg [qY,qY,qY,qY,qY,qY,qY,qY,qY,qY,qY,qY,qY,qY,qY,qY,qY,qY,qY,qY,qY,qY,qY,qY,qY,qY,qY,qY,qY,qY,qY,qY],true,none⟩ else pM else if t=323 then wQ else if t=325 then X3 else if t=326 then X3 else if t=327 then some ⟨0,0,.array 0 16,.agg [],true,none⟩ else pM) else (if t<333 then if t=328 then X4 else if t=329 then X4 else if t=330 then Y6 else if t=331 then Y6 else pM else if t=333 then ZX else if t=334 then ZX else if t=335 then X5 else if t=336 then X5 else pM))
def tb (t:Nat):Option TI:=(if t<116 then (if t<34 then (if t<17 then ZZ t else Z0 t) else (if t<61 then Z1 t else Z2 t)) else (if t<220 then (if t<153 then Z3 t else Z4 t) else (if t<277 then Z5 t else (if t<320 then Z6 t else Z7 t))))
def tT (t:Nat):Option TI:=if t<339 then tb t else none
theorem X6:(List.range 339).map (pJ Go.Proofs.Tryz.prog)=(List.range 339).map tb:=by kernel_rfl
def PG:Bool:=(List.range 339).all fun t=>match tb t with
 |some ti=>match ti.kd with
  |.struct fs=>fs.all fun f=>(tT f.2).isSome
  |_=>true
 |none=>true
theorem GO:PG=true:=by kernel_rfl
theorem UC:kr Go.Proofs.Tryz.prog tT:=by
 refine ⟨?_,?_,?_⟩
 ·intro t ti h
  unfold tT at h
  split at h
  ·rename_i ht'
   have e:=congrArg (fun l=>l[t]?) X6
   simp only [List.getElem?_map,List.getElem?_range ht',Option.map_some,osI] at e
   rw [e,h]
  cases h
 ·intro t ti fs h hk f hf
  unfold tT at h
  split at h
  ·rename_i ht'
   have hall:=List.all_eq_true.1 GO t (by simp [ht'])
   simp only [h,hk] at hall
   have:=List.all_eq_true.1 hall f hf
   exact Option.isSome_iff_exists.1 this
  cases h
 exact Nat.le_of_ble_eq_true (by kernel_rfl)
def gl (g:Nat):Option (List D):=
 bif Nat.beq g 0 then some [.int .i32 97,.int .i32 122,.int .i32 945,.int .i32 969,.int .i32 1072,.int .i32 1103] else
 bif Nat.beq g 1 then some [.int .i32 48,.int .i32 57,.int .i32 45,.int .i32 45] else none
def FC:Nat→List AV→List az→iU→List az→Prop:=bA Go.Proofs.Tryz.prog gl
theorem Jo:qb Go.Proofs.Tryz.prog tT gl:=Sp UC (by kernel_rfl)
theorem GP (tS tR:TypeId) (a:Addr) (ba:Option Addr) (la ca lb cb:Nat):∃(m:String) (ch:Sem Nat),
 Extern.SlicesOverlaps.overlaps #[tS,tS] #[tR] #[.slice (some a) la ca,.slice ba lb cb]=(do
 let .slice elem ←underlying tS|stuck m
 let size ←Go.sizeOf elem
 match ba with
 |some b=>
  if la=0∨lb=0∨size=0 then pure (Value.bool false)
  else if a.block !=b.block&&(←frozen a)&&(←frozen b) then unsupported .addressObserved
  else do
   if a.block !=b.block then do
    noView a;noView b
    if ←mayBeOne a b then return Value.bool ((←ch)==1)
   pure (Value.bool (a.block==b.block&&a.off<b.off+lb*size&&b.off<a.off+la*size))
 |none=>pure (Value.bool false)):=by
 apply Exists.intro
 apply Exists.intro
 cases ba with
 |some b=>rfl
 |none=>rfl
theorem wR {P:Program} (w:World) (tS tR e:TypeId) (ht:P.underlying tS=some (.slice e)) {size:Nat} (hz:∀w,(Go.sizeOf e).run P w=.ok size w)
 (a:Addr) (ba:Option Addr) (la ca lb cb:Nat) {tA:TypeId} {kA:Nat} (X7:w.shape? a.block=some (tA,kA)) (Z8:kA≠0)
 (hb:lb=0∨∃b c e',ba=some b∧b.spot=none∧a.block≠b.block∧w.heap[b.block]?=some (.cells c e' (0,0))):
 (Extern.SlicesOverlaps.overlaps #[tS,tS] #[tR] #[.slice (some a) la ca,.slice ba lb cb]).run P w=.ok (.bool false) w:=by
 have kQ:(underlying tS).run P w=.ok (.slice e) w:=aV ht
 obtain ⟨m,ch,e⟩:=GP tS tR a ba la ca lb cb
 rw [e]
 clear e
 cases ba with
 |none=>simp [kQ,hz]
 |some b=>
 by_cases h0:la=0∨lb=0∨size=0
 ·simp [kQ,hz,h0]
 rcases hb with hb|⟨b',c,e',hbe,hsp,hne,hh⟩
 ·exact absurd (.inr (.inl hb)) h0
 simp only [osI] at hbe;subst hbe
 have hnb:(a.block !=b.block)=true:=by simpa using hne
 have Z9:(a.block==b.block)=false:=by simpa using hne
 have II:w.shape? b.block=some (e',c.size):=by simp [World.shape?,hh]
 have hf:∀off sp,w.frozen? {block:=b.block,off:=off,spot:=sp}=false:=by intro off sp;simp [World.frozen?,hh]
 have hfb:w.frozen? b=false:=hf _ _
 cases kA with
 |zero=>exact absurd rfl Z8
 |succ kA=>
 cases h1:w.frozen? a<;>cases h2:w.frozen? {block:=a.block,off:=kA+1}<;>
  simp [kQ,hz,h0,hnb,Z9,frozen,noView,Go.viewAt,mayBeOne,stringish,shape,Sem.run,X7,II,hfb,hf,h1,h2]
theorem iE {P:Program} {G:Nat→Option (List D)} {T:Nat→Option TI} (hT:kr P T) {f:Nat} {fn:Func} {tS tR:TypeId} (hf:P.funcs[f]?=some fn) (hname:(fn.name== "runtime.NumGoroutine")=false)
 (hb:fn.body.isNone=true) (hn:Extern.findNext fn=none) (he:Extern.find fn=some (Extern.SlicesOverlaps.overlaps #[tS,tS] #[tR])) {te:TI} (hel:elemOf T tS=some te)
 {b sz off n c:Nat} {ex:Bool} {es:List (List D)} {x:D} {row:List D} {xs:List (List D)} {bx:List az} (rI:bx[b]?=some (.row sz es)) (hne:es≠[]):
 bA P G f [.d (.sl ((x::row)::xs)),.vw b sz off n c ex] bx (.ret (.d (.bool false))) bx:=by
 intro β w vs X cx hx
 simp only [ak,aj,aL] at hx
 obtain ⟨u1,Y8,rfl,⟨base,cap,rfl,_,h1⟩,u2,OI,rfl,⟨_,PI,Sc,cs,e2,f2,rfl,k1,k2,k3,k4⟩,rfl⟩:=hx
 obtain ⟨ti,e,t1,t2,t3⟩:=eP hel
 have kQ:=fQ hT t1 t2
 obtain ⟨ei,ed,g1,g2,g3,g4,g5,g6⟩:=aK (hT.ti _ _ t3)
 rcases h1 with h1|⟨blk,o,sz2,rfl,hok,hrows⟩
 ·simp at h1
 simp only [ay,aX] at hrows
 obtain ⟨_,⟨⟨u,hcell,_⟩,_⟩,_⟩:=hrows
 have X7:∃tA kA,w.shape? blk=some (tA,kA)∧kA≠0:=by
  simp only [World.cell?] at hcell
  split at hcell
  ·rename_i ca ea fa hh
   refine ⟨ea,ca.size,by simp [World.shape?,hh],?_⟩
   intro h0
   simp at hcell
   obtain ⟨hlt,_⟩:=Array.getElem?_eq_some_iff.1 hcell
   omega
  simp at hcell
 obtain ⟨tA,kA,X7,Z8⟩:=X7
 have cz:(az.row sz es).live=true:=by cases es<;>simp_all [az.live]
 have hrun:=wR (P:=P) w tS tR e kQ (fun w=>bP g1) ⟨blk,o,none⟩ PI (xs.length+1) cap n Sc X7 Z8 (by
  rcases k4 with k4|⟨rfl,k5,k6⟩
  ·left;omega
  rcases cx.box _ _ rI with h0|⟨c3,e3,j1,j2⟩
  ·exact absurd h0 hne
  exact .inr ⟨_,c3,e3,rfl,rfl,fun heq=>hok.2.2 b _ rI cz heq.symm,j1⟩)
 refine .inr ⟨.bool false,w,?_,β,Ext.refl _ _ _,cx,by simp only [mh,aj,aL]⟩
 rw [run_callFunc_extern hf hname hb hn he]
 have e1:(({toList:=[.slice (some ⟨blk,o,none⟩) ((x::row)::xs).length cap,.slice PI n Sc]}:Array Value))=#[.slice (some ⟨blk,o,none⟩) (xs.length+1) cap,.slice PI n Sc]:=rfl
 rw [e1,hrun]
 rfl
end Dem
end
section
open Go
namespace Dem
section
variable {P:Program} {G:Nat→Option (List D)} {bx:List az}
theorem GQ {f:Nat} {args nS:List AV} {v:AV} (ks:List Bool) (hz:eZ bx args=some nS) (hn:AV.bM.dg (kill ks bx) nS=true) (hl:dW false (kill ks bx) (kill ks bx)=true)
 (hv:v.flat=true∨eZ [] args=some nS∧v.shut=true) (h:bA P G f nS (kill ks bx) (.ret v) (kill ks bx)):bA P G f args bx (.ret v) bx:=by
 intro β w vs X cx hx
 refine jB.mono (xT cx hx ⟨nS,kill ks bx,hz,hn,⟨false,hl,fun h=>by cases h⟩,?_,h,hv⟩) ?_
 ·intro i b hi dL
  obtain ⟨b0,h1,h2⟩:=mz ks bx i b hi
  rcases h2 with rfl|⟨rfl,h3⟩
  ·exact ⟨_,h1,dL,fun _=>rfl⟩
  exact ⟨b0,h1,h3,fun h=>by simp [az.live] at h⟩
 rintro e w' ⟨u,rfl,h2,h3,h4⟩
 exact ⟨β,h2,h3,h4⟩
theorem PJ {t:Th} (ht:t=t0) {kE:Prop} {fz:Option (Prop×List AV)} {f:Nat} {args nS pz:List AV} {bx bC:List az} {v:AV} {c:Prop} {K Kp:AV→List az→Prop} (ks:List Bool) (cg:List Nat) (ho:kE)
 (hz:qp t bx args=some (c,nS)) (hc:c) (hn:AV.bM.dg (kill ks bx) nS=true) (hl:dW false (kill ks bx) (kill ks bx)=true) (hv:v.flat=true)
 (ha:AV.yN (fun b=>eD b cg 0) nS=some pz) (hb:gQ (fun b=>eD b cg 0) (kill ks bx) cg=some bC) (hb':GK cg (kill ks bx) bC=some (kill ks bx)) (hr:iU.iQ (k9 cg (kill ks bx).length) (.ret v)=some (.ret v))
 (h:bA P G f pz bC (.ret v) bC) (hK:K v bx):m6 (bA P G) kE f args fz bx K Kp:=by
 subst ht
 exact eE ho (GQ ks (gP hz hc) hn hl (.inl hv) (dD cg ha hb hr hb' h)) hK
end
end Dem
end
section
open Go
namespace Dem
abbrev TT (t:Th):Prop:=∀(α:Type) (f:Unit→α),t α f=f ()
theorem kK {t:Th} (ht:TT t) {α:Type} {e x:α} (h:e=x):(t _ fun _=>e)=x:=by rw [ht];exact h
section
variable {P:Program} {G:Nat→Option (List D)} {FC:Nat→List AV→List az→iU→List az→Prop} {kE:Prop} {f:Nat} {args args':List AV} {c:Prop} {bx:List az} {K Kp:AV→List az→Prop} {ρ:Type}
theorem Vt {E:ρ→AV} {r0:ρ} (ho:kE) (h:FC f args' [] (.ret (E r0)) []) (hc:c) (hs:AV.shut.kY args'=true) (hf:(E r0).flat=true) (hK:∀r,r=r0→K (E r) bx):m6 FC kE f args (some (c,args')) bx K Kp:=
 gR ho h hc hs hf (hK _ rfl)
theorem nF {E:ρ→AV} {r0:ρ} (ho:kE) (h:FC f args' [] (.ret (E r0)) []) (hc:c) (hs:AV.shut.kY args'=true) (hz:eZ [] args=some args') (hv:(E r0).shut=true) (hK:∀r,r=r0→K (E r) bx):m6 FC kE f args (some (c,args')) bx K Kp:=
 Lv ho h hc hs hz hv (hK _ rfl)
theorem Jp {E:ρ→AV} {r0:ρ} {fz:Option (Prop×List AV)} {pT:List az} (ho:kE) (hfz:fz=some (c,args')) (hc:c) (h:FC f args' (fw bx args) (.ret (E r0)) pT) (hK:∀r,r=r0→K (E r) pT):m6 FC kE f args fz bx K Kp:=
 UA ho hfz hc h (hK _ rfl)
theorem eR {dr g:Bool} {K:AV→Prop} {E:ρ→AV} {r0:ρ} (h:g=true→kE∧c∧FC f args' [] (.ret (E r0)) []) (hs:AV.bM.dg [] args'=true) (hf:(E r0).flat=true) (hK:∀r,r=r0→K (E r)):tH FC dr g kE f args bx (some (c,args')) K:=
 GL h hs hf (hK _ rfl)
theorem jF {dr g:Bool} {K:AV→Prop} {E:ρ→AV} {r0:ρ} (h:g=true→kE∧c∧FC f args' [] (.ret (E r0)) []) (hs:AV.bM.dg [] args'=true) (hz:eZ [] args=some args') (hf:(E r0).shut=true) (hK:∀r,r=r0→K (E r)):tH FC dr g kE f args bx (some (c,args')) K:=
 nE h hs hz hf (hK _ rfl)
end
theorem kL {t:Th} (ht:TT t) {α:Type} {l:List α} {cells cT:α→List D} {es:List (List D)} (aD:es=l.map cells) {z:Int} {n:Nat} {K:List D→Prop} (h0:0≤z) (h1:z<l.length) (hn:∀x,(cells x).length=n) (hT:∀x,cells x=cT x)
 (hK:∀x,l[z.toNat]?=some x→K (cT x)):nL true (t Prop fun _=>0≤z∧z<es.length∧∀r∈es,r.length=n) (t _ fun _=>es.getD z.toNat []) K:=by
 have hz:z.toNat<l.length:=by omega
 refine iW (cT l[z.toNat]) ?_ ?_ (hK _ (List.getElem?_eq_getElem hz))
 ·simp only [ht];refine ⟨h0,by rw [aD,lgM];exact h1,?_⟩
  rw [aD];intro r hr;obtain ⟨y,_,rfl⟩:=List.mem_map.1 hr;exact hn y
 simp only [ht];rw [aD,←hT];simp [hz]
theorem cr {s:St} {n:Nat} {σ:Type} {J:Nat→σ→Prop} {F:σ→St} (v:σ) (hs:s=F v) (m:Nat) (hm:m<n) (hJ:J m v):LoopIn (some s) (fun s3=>∃m v',(m<n∧J m v')∧s3=F v'):=aF (P:=fun s3=>∃m v',(m<n∧J m v')∧s3=F v') ⟨m,v,⟨hm,hJ⟩,hs⟩
theorem X8 {α:Type} {l:List α} {cells:α→List D} {u:List (List D)} (hu:u=l.map cells) {row:List D} {sz b:Nat} (hn:∀x,(cells x).length=sz) (hr:row.length=sz) (hl:l.length<1000000) (hb:b≤10000):
 u.length=u.length∧(u.length+[row].length)*b≤140737488355328∧∀r∈u++[row],r.length=sz:=by
 refine ⟨rfl,?_,?_⟩
 ·rw [hu,lgM]
  exact Nat.le_trans (Nat.mul_le_mul (show l.length+[row].length≤1000000 by simp;omega) hb) (by decide)
 intro r hr'
 rcases List.mem_append.1 hr' with h|h
 ·rw [hu] at h;obtain ⟨y,_,rfl⟩:=List.mem_map.1 h;exact hn y
 simp at h;subst h;exact hr
end Dem
end
section
open Go
namespace Dem
def flat:Code→List Code
 |.seq a b=>flat a++flat b
 |c=>[c]
section
variable {P:Program}
def tK (P:Program):List Code→(Exit→Act→World→Prop)→Act→World→Prop
 |[],Q=>Q .normal
 |c::r,Q=>c.wp P (Exit.then (tK P r Q) Q)
theorem CR {K K':Act→World→Prop} {Q Q':Exit→Act→World→Prop} (h:∀a w,K a w→K' a w) (hq:∀e a w,Q e a w→Q' e a w):∀e a w,Exit.then K Q e a w→Exit.then K' Q' e a w:=by
 intro e a w hh;cases e<;>simp only [Exit.then] at hh ⊢<;>first|exact h _ _ hh|exact hq _ _ _ hh
theorem GR:∀{l:List Code} {Q Q':Exit→Act→World→Prop} {a:Act} {w:World},(∀e a w,Q e a w→Q' e a w)→tK P l Q a w→tK P l Q' a w
 |[],_,_,_,_,hq,h=>hq _ _ _ h
 |_::_,_,_,_,_,hq,h=>wp_mono h (CR (fun _ _ hh=>GR hq hh) hq)
theorem AH:∀{l1 l2:List Code} {Q:Exit→Act→World→Prop} {a:Act} {w:World},tK P (l1++l2) Q a w→tK P l1 (Exit.then (tK P l2 Q) Q) a w
 |[],_,_,_,_,h=>h
 |c::l1,l2,Q,a,w,h=>by
  refine wp_mono (show c.wp P (Exit.then (tK P (l1++l2) Q) Q) a w from h) ?_
  intro e a w hh
  cases e<;>simp only [Exit.then] at hh ⊢<;>first|exact AH hh|exact hh
theorem Ef:∀(c:Code) {Q:Exit→Act→World→Prop} {a:Act} {w:World},tK P (flat c) Q a w→c.wp P Q a w
 |.seq x y,Q,a,w,h=>by
  have h:=AH (show tK P (flat x++flat y) Q a w from h)
  refine wp_seq (wp_mono (Ef x h) ?_)
  exact CR (fun a w hh=>Ef y hh) (fun _ _ _ hh=>hh)
 |.skip,Q,a,w,h=>wp_mono h (by intro e a w hh;cases e<;>simpa only [tK,Exit.then] using hh)
 |.region ..,Q,a,w,h=>wp_mono h (by intro e a w hh;cases e<;>simpa only [tK,Exit.then] using hh)
 |.cond ..,Q,a,w,h=>wp_mono h (by intro e a w hh;cases e<;>simpa only [tK,Exit.then] using hh)
 |.block ..,Q,a,w,h=>wp_mono h (by intro e a w hh;cases e<;>simpa only [tK,Exit.then] using hh)
 |.loop ..,Q,a,w,h=>wp_mono h (by intro e a w hh;cases e<;>simpa only [tK,Exit.then] using hh)
 |.rangeFunc ..,Q,a,w,h=>wp_mono h (by intro e a w hh;cases e<;>simpa only [tK,Exit.then] using hh)
 |.exit ..,Q,a,w,h=>wp_mono h (by intro e a w hh;cases e<;>simpa only [tK,Exit.then] using hh)
 |.scope ..,Q,a,w,h=>wp_mono h (by intro e a w hh;cases e<;>simpa only [tK,Exit.then] using hh)
 |.label ..,Q,a,w,h=>wp_mono h (by intro e a w hh;cases e<;>simpa only [tK,Exit.then] using hh)
 |.goto ..,Q,a,w,h=>wp_mono h (by intro e a w hh;cases e<;>simpa only [tK,Exit.then] using hh)
 |.ret,Q,a,w,h=>wp_mono h (by intro e a w hh;cases e<;>simpa only [tK,Exit.then] using hh)
 |.refuse ..,Q,a,w,h=>wp_mono h (by intro e a w hh;cases e<;>simpa only [tK,Exit.then] using hh)
end
section
variable (t:Th) (FC:Nat→List AV→List az→iU→List az→Prop) (T:Nat→Option TI) (G:Nat→Option (List D)) (N K:Nat)
def PK:List Code→(Ex→St→Prop)→St→Prop
 |[],Q,s=>Q .normal s
 |c::r,Q,s=>wP t FC T G N K c (fun e s1=>uw (fun s1=>PK r Q s1) Q e s1) s
end
section
variable {P:Program} {T:Nat→Option TI} {G:Nat→Option (List D)} {N K:Nat} {ds:List Deferred} {X:Nat→Prop} {β0:Nat→Nat} {bC:List az} {w0:World}
theorem tL (hT:kr P T) (hD:qb P T G) (hK:bC.length≤K):∀(l:List Code) (Q:Ex→St→Prop) (β:Nat→Nat) (w:World) (s:St) (a:Act),Ext β0 bC w0 β s.bx w→Fr G N ds β w X s a→
 PK t0 (bA P G) T G N K l Q s→tK P l (gG G N ds X β0 bC w0 Q) a w
 |[],Q,β,w,s,a,ex,hF,h=>⟨β,s,ex,hF,h⟩
 |c::l,Q,β,w,s,a,ex,hF,h=>by
  refine wp_mono (gr hT hD hK c _ β w s a ex hF h) ?_
  intro e a' w' hl
  cases e<;>simp only [gG,uw,Exit.then] at hl ⊢
  ·obtain ⟨β',s',h1,h2,h3⟩:=hl
   exact tL hT hD hK l Q β' w' s' a' h1 h2 h3
  all_goals exact hl
theorem ye:∀{l1 l2:List Code} {Q:Exit→Act→World→Prop} {a:Act} {w:World},tK P l1 (Exit.then (tK P l2 Q) Q) a w→tK P (l1++l2) Q a w
 |[],_,_,_,_,h=>h
 |c::l1,l2,Q,a,w,h=>by
  refine wp_mono (show c.wp P (Exit.then (tK P l1 (Exit.then (tK P l2 Q) Q)) (Exit.then (tK P l2 Q) Q)) a w from h) ?_
  intro e a w hh
  cases e<;>simp only [Exit.then] at hh ⊢<;>first|exact ye hh|exact hh
end
end Dem
end
section
namespace Dem
abbrev aI:=List UInt8
structure bG where
 a:Int
 b:Int
 c:Int
 d:Int
deriving DecidableEq
def bG.zero:bG:=⟨0,0,0,0⟩
def GS (x y:Int):Int×Bool:=if x.toNat+y.toNat<18446744073709551616 then (((x.toNat+y.toNat:Nat):Int),true) else (0,false)
def GU (x y:Int):Int×Bool:=if x.toNat<y.toNat then (0,false) else (((((x.toNat-y.toNat)%18446744073709551616:Nat)):Int),true)
def both (f:Int→Int→Int×Bool) (a b:bG):bG×Bool:=
 if (f a.a b.a).2&&(f a.b b.b).2&&(f a.c b.c).2&&(f a.d b.d).2 then (⟨(f a.a b.a).1,(f a.b b.b).1,(f a.c b.c).1,(f a.d b.d).1⟩,true) else (bG.zero,false)
def jR (a b:bG):bG×Bool:=both GS a b
def dO (a b:bG):bG×Bool:=both GU a b
def lg (a b:bG):Bool:=(dO b a).2
end Dem
namespace Dem
def idxOf {α:Type} (p:α→Bool) (l:List α):Int:=match l.findIdx? p with|some k=>(k:Int)|none=>-1
theorem vn {α:Type} {p:α→Bool}:∀{l:List α} {k:Nat} {x:α},l[k]?=some x→p x=true→(∀i<k,∀y,l[i]?=some y→p y=false)→l.findIdx? p=some k
 |[],_,_,h,_,_=>by simp at h
 |y::r,0,x,h,hp,_=>by simp at h;subst h;simp [List.findIdx?_cons,hp]
 |y::r,k+1,x,h,hp,hb=>by
  have hy:p y=false:=hb 0 (by omega) y (by simp)
  simp only [List.getElem?_cons_succ] at h
  rw [List.findIdx?_cons,hy]
  simp [vn h hp fun i hi z hz=>hb (i+1) (by omega) z (by simpa using hz)]
theorem AI {α:Type} {p:α→Bool} {l:List α} (hb:∀(i:Nat) (y:α),l[i]?=some y→p y=false):l.findIdx? p=none:=by
 rw [List.findIdx?_eq_none_iff]
 intro x hx
 obtain ⟨i,hi⟩:=List.getElem?_of_mem hx
 exact hb i x hi
theorem iR {α:Type} (p:α→Bool) (l:List α):l.any p=decide (0≤idxOf p l):=by
 unfold idxOf
 cases h:l.findIdx? p with
 |none=>
  rw [List.findIdx?_eq_none_iff] at h
  simp
  intro x hx;simp [h x hx]
 |some k=>
  have:=List.findIdx?_eq_some_iff_getElem.1 h
  obtain ⟨hk,hp,_⟩:=this
  simp
  exact ⟨l[k],List.getElem_mem hk,hp⟩
end Dem
end
section
open Go Dem Go.Proofs
namespace Dem
theorem TT.eq {t:Th} (h:TT t):t=t0:=by funext α f;exact h α f
theorem kM {t:Th} (ht:TT t) {f N:Nat} {fn:Func} {c:Code} {args:List AV} {bC aR:List az} {res:iU} (hf:Tryz.prog.funcs[f]?=some fn) (hb:fn.body=some c)
 (hname:(fn.name== "runtime.NumGoroutine")=false) (hN:fn.ntmps=N) {rs:List ResultVar} (OG:fn.results.toList=rs) {n:Nat} (hn:bC.length=n) (hlen:Nat.ble args.length N=true)
 (h:wP t FC tT gl N n c (vf t tT rs n res aR) ⟨pu 0 args,bC⟩):FC f args bC res aR:=by
 subst OG;subst hn
 have e:=ht.eq
 subst e
 exact yP UC Jo hf hb hname hN hlen h
theorem Y9 {f:Nat} {fn:Func} {e:Array Value→Sem Value} {args:List AV} {v:AV} (hf:Tryz.prog.funcs[f]?=some fn) (hname:(fn.name== "runtime.NumGoroutine")=false)
 (hb:fn.body.isNone=true) (hn:Extern.findNext fn=none) (he:Extern.find fn=some e)
 (h:∀(β:Nat→Nat) (w:World) (vs:List Value) (ok:Nat→Prop),ak β [] w ok args vs→∃u,(e ⟨vs⟩).run Tryz.prog w=.ok u w∧aj β [] w ok v u):FC f args [] (.ret v) []:=by
 intro β w vs X cx hx
 obtain ⟨u,h1,h2⟩:=h β w vs _ hx
 refine .inr ⟨u,w,?_,β,Ext.refl _ _ _,cx,h2⟩
 rw [run_callFunc_extern hf hname hb hn he,h1]
 rfl
abbrev bF (x:Int):AV:=.d (.int .i64 x)
abbrev aB (x:Int):AV:=.d (.int .u64 x)
abbrev BL (b:Bool):AV:=.d (.bool b)
abbrev ST (s:List UInt8):AV:=.d (.str s)
abbrev SL (es:List (List D)):AV:=.d (.sl es)
abbrev V4 (a b c d:Int):AV:=.agg [.d (.int .u64 a),.d (.int .u64 b),.d (.int .u64 c),.d (.int .u64 d)]
theorem aE {k:Nat} (h1:k<9223372036854775807):IntKind.i64.wrap ((k:Int)+1)=((k+1:Nat):Int):=by rw [wrap64 (by omega) (by omega)];omega
theorem ah (n:Nat):@NatCast.natCast Int instNatCastInt n=(n:Int):=rfl
end Dem
end
