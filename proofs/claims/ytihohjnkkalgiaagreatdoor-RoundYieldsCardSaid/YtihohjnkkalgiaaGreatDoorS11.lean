/- Parts of a proof, joined. -/
import Derived.Test.YtihohjnkkalgiaaGreatDoorS10
set_option linter.all false
set_option maxRecDepth 100000
set_option maxHeartbeats 4000000
open Go
namespace Dem
section
variable (t:Th)
def Xb (bx:List aA):AV→Option (Prop×AV)
 |.cl es=>some (True,.d (.sl es))
 |.ow b sz n=>match (AV.ow b sz n).Se t bx with
  |some (c,d)=>some (c,.d d)
  |none=>none
 |.vw b sz off n ca ex=>match (AV.vw b sz off n ca ex).xQ t bx with
  |some (c,es)=>some (c,.d (.sl es))
  |none=>none
 |v=>some (True,v)
def O8 (bx:List aA):List AV→Option (Prop×List AV)
 |[]=>some (True,[])
 |x::xs=>match Xb t bx x,O8 bx xs with
  |some (c,y),some (d,ys)=>some (c∧d,y::ys)
  |_,_=>none
def Ll (bx:List aA):AV→Option (Prop×AV)
 |.agg cs=>match O8 t bx cs with
  |some (c,ys)=>some (c,.agg ys)
  |none=>none
 |v=>Xb t bx v
def qn (bx:List aA):List AV→Option (Prop×List AV)
 |[]=>some (True,[])
 |x::xs=>match Ll t bx x,qn bx xs with
  |some (c,y),some (d,ys)=>some (c∧d,y::ys)
  |_,_=>none
def O9 (bx:List aA):AV→Option (Prop×AV)
 |.eA vs=>match qn t bx vs with
  |some (c,ys)=>some (c,.eA ys)
  |none=>none
 |v=>Ll t bx v
end
section
variable {bx:List aA}
theorem Jc {x y:AV} {c:Prop} (h:Xb t0 bx x=some (c,y)) (hc:c):fz bx x=some y:=by
 unfold Xb at h
 split at h
 ·simp only [osI,Prod.mk.injEq] at h;obtain ⟨rfl,rfl⟩:=h;rfl
 ·rename_i b sz n
  split at h
  ·rename_i c' d h1
   simp only [osI,Prod.mk.injEq] at h;obtain ⟨rfl,rfl⟩:=h
   simp only [fz,O5 h1 hc,Option.map_some]
  simp at h
 ·rename_i b sz off n ca ex
  split at h
  ·rename_i c' es h1
   simp only [osI,Prod.mk.injEq] at h;obtain ⟨rfl,rfl⟩:=h
   simp only [fz,ko h1 hc,Option.map_some]
  simp at h
 rename_i h1 h2 h3
 simp only [osI,Prod.mk.injEq] at h;obtain ⟨rfl,rfl⟩:=h
 unfold fz;split
 ·exact absurd rfl (h1 _)
 ·exact absurd rfl (h2 _ _ _)
 ·exact absurd rfl (h3 _ _ _ _ _ _)
 rfl
theorem Gq:∀{xs ys:List AV} {c:Prop},O8 t0 bx xs=some (c,ys)→c→Ir bx xs=some ys
 |[],ys,c,h,_=>by simp [O8] at h;simp [Ir,h.2]
 |x::xs,ys,c,h,hc=>by
  simp only [O8] at h
  split at h
  ·rename_i c1 y d ys' h1 h2
   simp only [osI,Prod.mk.injEq] at h
   obtain ⟨rfl,rfl⟩:=h
   simp [Ir,Jc h1 hc.1,Gq h2 hc.2]
  simp at h
theorem Aq {x y:AV} {c:Prop} (h:Ll t0 bx x=some (c,y)) (hc:c):pM bx x=some y:=by
 unfold Ll at h
 split at h
 ·split at h
  ·rename_i cs c' ys h1
   simp only [osI,Prod.mk.injEq] at h
   obtain ⟨rfl,rfl⟩:=h
   simp [pM,Gq h1 hc]
  simp at h
 rename_i h1
 unfold pM;split
 ·exact absurd rfl (h1 _)
 exact Jc h hc
theorem gL:∀{xs ys:List AV} {c:Prop},qn t0 bx xs=some (c,ys)→c→fe bx xs=some ys
 |[],ys,c,h,_=>by simp [qn] at h;simp [fe,h.2]
 |x::xs,ys,c,h,hc=>by
  simp only [qn] at h
  split at h
  ·rename_i c1 y d ys' h1 h2
   simp only [osI,Prod.mk.injEq] at h
   obtain ⟨rfl,rfl⟩:=h
   simp [fe,Aq h1 hc.1,gL h2 hc.2]
  simp at h
theorem Jd {x y:AV} {c:Prop} (h:O9 t0 bx x=some (c,y)) (hc:c):Iz bx x=some y:=by
 unfold O9 at h
 split at h
 ·split at h
  ·rename_i cs c' ys h1
   simp only [osI,Prod.mk.injEq] at h
   obtain ⟨rfl,rfl⟩:=h
   simp [Iz,gL h1 hc]
  simp at h
 rename_i h1
 unfold Iz;split
 ·exact absurd rfl (h1 _)
 exact Aq h hc
end
structure pi (FC:Nat→List AV→List aA→jR→List aA→Prop) (lQ:Prop) (f:Nat) (args:List AV) (fz:Option (Prop×List AV)) (bx:List aA)
 (K:AV→List aA→Prop) (Kp:AV→List aA→Prop):Prop where
 ok:lQ∧(
  (∃c args',fz=some (c,args')∧c∧AV.shut.mV args'=true∧
   (
    (∃v,FC f args' [] (.ret v) []∧(v.flat=true∨fe [] args=some args'∧v.shut=true)∧K v bx)∨
    (∃sz n es,FC f args' [] (.ret (.ow 0 sz n)) [.row sz es]∧((∀r∈es,∀x∈r,x.flat=true)∨fe [] args=some args')∧K (.ow bx.length sz n) (bx++[.row sz es]))))∨
  (∃args' pO res pP,(args'=args∧pO=bx∨(∃c,fz=some (c,args')∧c)∧pO=fw bx args)∧FC f args' pO res pP∧
   (match res with|.ret v=>K v pP|.Mf v=>Kp v pP)))
structure tB (FC:Nat→List AV→List aA→jR→List aA→Prop) (dr g:Bool) (lQ:Prop) (f:Nat) (args:List AV) (bx:List aA) (fz:Option (Prop×List AV)) (K:AV→Prop):Prop where
 ok:(dr=false∧∃v,(g=true→lQ∧FC f args bx (.ret v) bx)∧K v)∨∃v,(g=true→lQ∧∃args' jS,(∃c,fz=some (c,args')∧c)∧AV.bU.dw jS args'=true∧(∃dt,eB dt jS jS=true∧(dt=true→fe [] args=some args'))∧
  (∀(i:Nat) (b:aA),jS[i]?=some b→b.born=true→∃b',bx[i]?=some b'∧b'.born=true∧(b.live=true→b'=b))∧FC f args' jS (.ret v) jS∧
  (v.flat=true∨fe [] args=some args'∧v.shut=true))∧K v
structure wz (g:Bool) (p:Prop):Prop where
 ok:g=true→p
structure Lm (p:Bool) (a b:Prop):Prop where
 ok:(p=true→a)∧(p=false→b)
theorem aj {p:Bool} {a b:Prop}:Lm p a b↔((p=true→a)∧(p=false→b)):=⟨fun h=>h.ok,fun h=>⟨h⟩⟩
structure Ar (g:Bool) (c:Prop) (ds:List D) (K:List D→Prop):Prop where
 ok:∃ds',(g=true→c∧ds=ds')∧K ds'
structure Pb (c:Prop) (v:AV) (bx:List aA) (K:AV→List aA→Prop):Prop where
 ok:∃v' aU,c∧v=v'∧bx=aU∧K v' aU
structure Ua (g:Bool) (c:Prop) (v:AV) (K:AV→Prop):Prop where
 ok:∃v',(g=true→c∧v=v')∧K v'
def Gr (ev:Operand→AV) (o:Op):Bool:=bif iZ ev o then (match o with
 |.slice _ _ _ _ _=>true
 |.call {callee:=.builtin b,..}=>match b with
  |.copy=>true
  |.clear=>true
  |.append=>true
  |_=>false
 |_=>false) else false
def Pc (t:Th) (T:Nat→Option TI) (ty:Nat) (x i:AV):Option (Prop×List D):=
 match T ty with
 |some ti=>match ti.kd,x,i with
  |.slice e,.d (.sl es),.d (.int _ z)=>match T e with
   |some te=>some (t Prop (fun _=>0≤z∧z<es.length∧(∀r∈es,r.length=te.size)),t _ fun _=>es.getD z.toNat [])
   |none=>none
  |.slice e,.cl es,.d (.int _ z)=>match T e with
   |some te=>some (t Prop (fun _=>0≤z∧z<es.length∧(∀r∈es,r.length=te.size)),t _ fun _=>es.getD z.toNat [])
   |none=>none
  |_,_,_=>none
 |none=>none
theorem UZ {T:Nat→Option TI} {ty:Nat} {x i:AV}:Pc t0 T ty x i=zx T ty x i:=by
 unfold Pc zx;rfl
def U0 (t:Th) (T:Nat→Option TI) (ev:Operand→AV):Op→Option (Prop×List (List D))
 |.call {callee:=.builtin b,args,argTypes}=>match b,args.toList,argTypes.toList with
  |.append,[x,y],[ty,u]=>match T ty,T u with
   |some ti,some tu=>match ti.kd,tu.kd with
    |.slice e,.slice _=>match T e with
     |some te=>bif eO te then match ev x,ev y with
      |.cl es,.cl (x0::xr)=>some (t Prop (fun _=>(es.length+(x0::xr).length)*te.bytes≤140737488355328∧(∀r∈es++(x0::xr),r.length=te.size)),t _ fun _=>es++(x0::xr))
      |_,_=>none
      else none
     |none=>none
    |_,_=>none
   |_,_=>none
  |_,_,_=>none
 |_=>none
theorem U1 {T:Nat→Option TI} {ev:Operand→AV} {op:Op}:U0 t0 T ev op=BQ T ev op:=by
 unfold U0 BQ;rfl
def mB (b:List Nat):Nat→List Oper→List Bool
 |_,[]=>[]
 |i,_::r=>barrier b i::mB b (i+1) r
structure Ub (FC:Nat→List AV→List aA→jR→List aA→Prop) (lQ:Prop) (f:Nat) (args:List AV) (fz:Option (Prop×List AV)) (at_:Option aA) (x:Nat) (K:AV→aA→Prop):Prop where
 ok:∃args' sz n es,lQ∧(∃c,fz=some (c,args')∧c)∧AV.shut.mV args'=true∧FC f args' [] (.ret (.ow 0 sz n)) [.row sz es]∧
  ((∀r∈es,∀x∈r,x.flat=true)∨fe [] args=some args')∧at_=some .bw∧K (.ow x sz n) (.row sz es)
structure Uc (a b:String) (K:Prop):Prop where
 ok:a=b∧K
theorem Ud {a:String} {K:Prop} (h:K):Uc a a K:=⟨rfl,h⟩
def U2 (T:Nat→Option TI) (x:AV):Option (String×Nat×AV):=
 match x with
 |.rY ty v=>match T ty with
  |some ti=>match ti.inv with
   |some (n,i)=>some (n,i,v)
   |none=>none
  |none=>none
 |_=>none
theorem Sn {T:Nat→Option TI} {x v:AV} {n:String} {i:Nat} (as:List AV) (h:U2 T x=some (n,i,v)):Cq T x n as=some (i,v::as):=by
 unfold U2 at h
 unfold Cq
 split at h
 ·split at h
  ·rename_i ti ht
   simp only [ht]
   split at h
   ·rename_i hi
    simp only [osI,Prod.mk.injEq] at h
    obtain ⟨rfl,rfl,rfl⟩:=h
    simp only [hi,if_true]
   cases h
  cases h
 cases h
def Pd:Op→Bool
 |.call {callee:=.value _,..}=>true
 |_=>false
structure Gs (ops:List Oper) (A:Option Nat→List Bool→Prop) (X:List Nat→Prop) (B1:OT→St→Prop) (B2:St→Prop) (B3:List Nd→List St→Prop):Prop where
 ok:(∃(pre:List Nat) (tr:OT) (s1:St),(je ops.toArray [] pre=true∧mX ops.toArray=true∧X pre)∧tr.fits pre ops=true∧B1 tr s1∧B2 s1)∨(∃(pl:List Nd) (S:List St) (s1:St),KZ ops.toArray pl=true∧B3 pl S∧S[pl.length]?=some s1∧B2 s1)∨∃k pre late fs,((pre=[]∧late=[])∨(je ops.toArray [] pre=true∧mX ops.toArray=true∧uk (cB pre 0 ops).toArray late=true∧(k=none∧X pre∨pre=[])))∧
  (K1 (ig (cB pre 0 ops).toArray late 0 (cB pre 0 ops))∧mB (cU (ig (cB pre 0 ops).toArray late 0 (cB pre 0 ops)) []) 0 ops=fs)∧A k fs
theorem dO {ops:List Oper} {A:Option Nat→List Bool→Prop} {X:List Nat→Prop} {B1:OT→St→Prop} {B2:St→Prop} {B3:List Nd→List St→Prop} (fs:List Bool) (h1:gW ops.toArray (cU ops []) 0 ops=true) (h2:mB (cU ops []) 0 ops=fs) (h:A none fs):Gs ops A X B1 B2 B3:=
 ⟨.inr<|.inr ⟨none,[],[],fs,.inl ⟨rfl,rfl⟩,by rw [oG,rL];exact ⟨⟨h1⟩,h2⟩,h⟩⟩
theorem uV {ops:List Oper} {A:Option Nat→List Bool→Prop} {X:List Nat→Prop} {B1:OT→St→Prop} {B2:St→Prop} {B3:List Nd→List St→Prop} (pre late:List Nat) (fs:List Bool) (hp:je ops.toArray [] pre=true) (hs:mX ops.toArray=true) (hl:uk (cB pre 0 ops).toArray late=true) (hx:X pre)
 (h1:gW (ig (cB pre 0 ops).toArray late 0 (cB pre 0 ops)).toArray (cU (ig (cB pre 0 ops).toArray late 0 (cB pre 0 ops)) []) 0 (ig (cB pre 0 ops).toArray late 0 (cB pre 0 ops))=true)
 (h2:mB (cU (ig (cB pre 0 ops).toArray late 0 (cB pre 0 ops)) []) 0 ops=fs) (h:A none fs):Gs ops A X B1 B2 B3:=
 ⟨.inr<|.inr ⟨none,pre,late,fs,.inr ⟨hp,hs,hl,.inl ⟨rfl,hx⟩⟩,⟨⟨h1⟩,h2⟩,h⟩⟩
theorem Gt {ops:List Oper} {A:Option Nat→List Bool→Prop} {X:List Nat→Prop} {B1:OT→St→Prop} {B2:St→Prop} {B3:List Nd→List St→Prop} (pre:List Nat) (fs:List Bool) (hp:je ops.toArray [] pre=true) (hs:mX ops.toArray=true) (hx:X pre)
 (h1:gW (cB pre 0 ops).toArray (cU (cB pre 0 ops) []) 0 (cB pre 0 ops)=true) (h2:mB (cU (cB pre 0 ops) []) 0 ops=fs) (h:A none fs):Gs ops A X B1 B2 B3:=
 ⟨.inr<|.inr ⟨none,pre,[],fs,.inr ⟨hp,hs,rfl,.inl ⟨rfl,hx⟩⟩,by rw [rL];exact ⟨⟨h1⟩,h2⟩,h⟩⟩
theorem Ln {ops:List Oper} {A:Option Nat→List Bool→Prop} {X:List Nat→Prop} {B1:OT→St→Prop} {B2:St→Prop} {B3:List Nd→List St→Prop} (pre:List Nat) (tr:OT) (s1:St) (hp:je ops.toArray [] pre=true) (hs:mX ops.toArray=true) (hx:X pre) (hf:tr.fits pre ops=true) (h1:B1 tr s1) (h2:B2 s1):Gs ops A X B1 B2 B3:=
 ⟨.inl ⟨pre,tr,s1,⟨hp,hs,hx⟩,hf,h1,h2⟩⟩
section
variable (t:Th) (FC:Nat→List AV→List aA→jR→List aA→Prop) (T:Nat→Option TI) (G:Nat→Option (List D)) (N:Nat)
def stepT (o:Oper) (s:St) (K:AV→List aA→Prop) (Q:Ex→St→Prop):Prop:=
 match o.op with
 |.pick c a b=>match (ct G s.sl c).aR with
  |.d (.bool p)=>((ct G s.sl c).ok∧Lm p (ct G s.sl a).ok (ct G s.sl b).ok)∧K (Ea t p (ct G s.sl a).aR (ct G s.sl b).aR) s.bx
  |_=>False
 |.call {callee:=.value f,args,..}=>match lX (ct G s.sl f).aR (args.toList.map fun x=>(ct G s.sl x).aR) with
  |some (i,as)=>pi FC ((ct G s.sl f).ok∧dI (fX G s.sl args.toList)) i as (qn t s.bx as) s.bx (fun v bx=>K v bx) (fun v bx=>Q (.panic v) ⟨[],bx⟩)
  |none=>False
 |.panic x=>match (ct G s.sl x).aR with
  |.rY ty v=>(ct G s.sl x).ok∧Q (.panic (.rY ty v)) ⟨[],s.bx⟩
  |_=>False
 |.range ty x=>match T ty with
  |some ti=>match ti.kd,(ct G s.sl x).aR with
   |.str,.d (.str str)=>(ct G s.sl x).ok∧K (.ptr s.bx.length 0) (s.bx++[.it str 0])
   |_,_=>False
  |none=>False
 |.next it true=>match (ct G s.sl it).aR with
  |.ptr b 0=>match s.bx[b]? with
   |some (.it str pos)=>(ct G s.sl it).ok∧Oc str pos (fun c wd=>K (.eA [.d (.bool true),.d (.int .i64 (t _ fun _=>pos)),.d (.int .i32 (t _ fun _=>c))]) (s.bx.set b (.it str (t _ fun _=>pos+wd)))) (fun _=>K (.eA [.d (.bool false)]) s.bx)
   |_=>False
  |_=>False
 |.binOp .eql ty x (.const (.slice none 0 0)) _=>match T ty,Mg (ct G s.sl x).aR with
  |some ti,some Is=>match ti.kd with
   |.slice _=>(ct G s.sl x).ok∧KY (t Prop fun _=>Is) (fun b=>K (.d (.bool b)) s.bx)
   |_=>False
  |_,_=>False
 |.binOp .neq ty x (.const (.slice none 0 0)) _=>match T ty,Mg (ct G s.sl x).aR with
  |some ti,some Is=>match ti.kd with
   |.slice _=>(ct G s.sl x).ok∧KY (t Prop fun _=>Is) (fun b=>K (.d (.bool (t _ fun _=>!b))) s.bx)
   |_=>False
  |_,_=>False
 |.makeMap ty none=>match T ty with
  |some ti=>match ti.kd with
   |.map _ e=>match T e with
    |some te=>K (.BJ s.bx.length) (s.bx++[.mp te.kd.isAgg []])
    |none=>False
   |_=>False
  |none=>False
 |.lookup ty m k BN=>match zy T ty (ct G s.sl m).aR s.bx,(ct G s.sl k).aR with
  |some (tk,te,ag,es),.d kd=>Iy true (((ct G s.sl m).ok∧(ct G s.sl k).ok)∧(t Prop fun _=>vW tk te ag es kd)) (t _ fun _=>vV es kd) (oo te BN (fun v=>K v s.bx))
  |_,_=>False
 |.mapUpdate ty m k x=>match DP T ty (ct G s.sl m).aR s.bx,(ct G s.sl k).aR,(ct G s.sl x).aR.cells? with
  |some (b,tk,te,ag,es),.d kd,some vs=>match cM vs,Am t s.bx vs with
   |true,some (c,ds)=>(((ct G s.sl m).ok∧(ct G s.sl k).ok∧(ct G s.sl x).ok)∧c∧(t Prop fun _=>vW tk te ag es kd)∧Nat.beq ds.length te.size=true∧(ct G s.sl x).aR.isAgg=ag)∧K .any (s.bx.set b (.mp ag (t _ fun _=>rZ es kd ds)))
   |_,_=>False
  |_,_,_=>False
 |.load ty a=>
  match rowAt t (ct G s.sl a).aR s.bx with
  |some (c,ds,j)=>Ar true ((ct G s.sl a).ok∧c) ds (fun ds=>match T ty with
   |some ti=>match cR ti.kd.isAgg ti.size ((ds.drop j).map .d) with
    |some v=>K v s.bx
    |none=>False
   |none=>False)
  |none=>match Ws t T (fun x=>(ct G s.sl x).aR) (.load ty a) s.bx with
   |some ⟨c,v,b⟩=>(dI (fX G s.sl (Op.load ty a).operands.toList)∧c)∧K v (dN s.bx b)
   |none=>False
 |op=>
  match (match op with|.indexAddr ty x i=>Pc t T ty (ct G s.sl x).aR (ct G s.sl i).aR|_=>none) with
  |some (c,ds)=>nI true (dI (fX G s.sl op.operands.toList)∧c) ds (fun ds=>K (.ep ds) s.bx)
  |none=>match Ws t T (fun x=>(ct G s.sl x).aR) op s.bx with
   |some ⟨c,v,b⟩=>bif Gr (fun x=>(ct G s.sl x).aR) op then Pb (dI (fX G s.sl op.operands.toList)∧c) v (dN s.bx b) K
    else (dI (fX G s.sl op.operands.toList)∧c)∧K v (dN s.bx b)
   |none=>False
def nA (dr g:Bool) (o:Oper) (s:St) (K:AV→Prop):Prop:=
 match o.op with
 |.pick c a b=>match (ct G s.sl c).aR with
  |.d (.bool p)=>wz g ((ct G s.sl c).ok∧Lm p (ct G s.sl a).ok (ct G s.sl b).ok)∧K (Ea t p (ct G s.sl a).aR (ct G s.sl b).aR)
  |_=>False
 |.call {callee:=.value f,args,..}=>match lX (ct G s.sl f).aR (args.toList.map fun x=>(ct G s.sl x).aR) with
  |some (i,as)=>tB FC dr g ((ct G s.sl f).ok∧dI (fX G s.sl args.toList)) i as s.bx (qn t s.bx as) (fun v=>K v)
  |none=>False
 |.call {callee:=.invoke r nm,args,..}=>match U2 T (ct G s.sl r).aR with
  |some (n,i,v)=>Uc n nm (tB FC true g ((ct G s.sl r).ok∧dI (fX G s.sl args.toList)) i (v::(args.toList.map fun x=>(ct G s.sl x).aR)) s.bx (qn t s.bx (v::(args.toList.map fun x=>(ct G s.sl x).aR))) (fun v=>K v))
  |none=>False
 |.load ty a=>
  match rowAt t (ct G s.sl a).aR s.bx with
  |some (c,ds,j)=>Ar g ((ct G s.sl a).ok∧c) ds (fun ds=>match T ty with
   |some ti=>match cR ti.kd.isAgg ti.size ((ds.drop j).map .d) with
    |some v=>K v
    |none=>False
   |none=>False)
  |none=>match Ws t T (fun x=>(ct G s.sl x).aR) (.load ty a) s.bx with
   |some ⟨c,v,none⟩=>wz g (dI (fX G s.sl (Op.load ty a).operands.toList)∧c)∧K v
   |_=>False
 |op=>
  match (match op with|.indexAddr ty x i=>Pc t T ty (ct G s.sl x).aR (ct G s.sl i).aR|_=>none) with
  |some (c,ds)=>nI g (dI (fX G s.sl op.operands.toList)∧c) ds (fun ds=>K (.ep ds))
  |none=>match Ws t T (fun x=>(ct G s.sl x).aR) op s.bx with
   |some ⟨c,v,none⟩=>bif Gr (fun x=>(ct G s.sl x).aR) op then Ua g (dI (fX G s.sl op.operands.toList)∧c) v K
    else wz g (dI (fX G s.sl op.operands.toList)∧c)∧K v
   |_=>match U0 t T (fun x=>(ct G s.sl x).aR) op with
    |some (c,es)=>wz g (dI (fX G s.sl op.operands.toList)∧c)∧K (.d (.sl es))
    |none=>False
def nT (sl:List (Nat×AV)) (ops:List Oper) (j:Nat) (want:Bool):Option Bool:=
 match ops[j]? with
 |some o=>match o.dst with
  |some u=>match gH u sl with
   |.d (.bool q)=>some (bif want then q else t _ fun _=>!q)
   |.cond g (.d (.bool q))=>some (t _ fun _=>g&&(bif want then q else !q))
   |_=>none
  |none=>none
 |none=>none
def Pe (ops:List Oper):List Oper→(Ex→St→Prop)→St→Prop
 |[],Q,s=>Q .normal s
 |o::rest,Q,s=>bif gZ N o.dst then
  match o.guard with
  |none=>stepT t FC T G o s (fun v bx=>Pe ops rest Q ⟨eL o.dst v s.sl,bx⟩) Q
  |some (j,want)=>match nT t s.sl ops j want with
   |some g=>nA t FC T G false g o s (fun v=>Pe ops rest Q ⟨eL o.dst (.cond g v) s.sl,s.bx⟩)
   |none=>False
  else False
def Pf (o:Oper) (sl:List (Nat×AV)) (ij:List aA) (x:Nat) (K:AV→aA→Prop):Prop:=
 match o.op with
 |.call {callee:=.value f,args,..}=>match lX (ct G sl f).aR (args.toList.map fun x=>(ct G sl x).aR) with
  |some (i,as)=>Ub FC ((ct G sl f).ok∧dI (fX G sl args.toList)) i as (qn t ij as) ij[x]? x K
  |none=>False
 |_=>False
def sF (ops:List Oper) (base:Nat):List Bool→List aA→Nat→List Oper→(Ex→St→Prop)→St→Prop
 |_,_,_,[],Q,s=>Q .normal s
 |[],_,_,_::_,_,_=>False
 |f::fs,ij,k,o::rest,Q,s=>bif gZ N o.dst then
  bif f then match o.guard with
   |none=>stepT t FC T G o s (fun v bx=>sF ops base fs bx k rest Q ⟨eL o.dst v s.sl,bx⟩) Q
   |some (j,want)=>match nT t s.sl ops j want with
    |some g=>nA t FC T G true g o s (fun v=>sF ops base fs s.bx k rest Q ⟨eL o.dst (.cond g v) s.sl,s.bx⟩)
    |none=>False
  else match iz T G s.sl o with
   |some cs=>match ij[base+k]? with
    |some .bw=>sF ops base fs ij (k+1) rest Q ⟨eL o.dst (.ptr (base+k) 0) s.sl,s.bx.set (base+k) (.var cs)⟩
    |_=>False
   |none=>match o.guard with
    |none=>bif Pd o.op then nA t FC T G true true o ⟨s.sl,ij⟩ (fun v=>sF ops base fs ij k rest Q ⟨eL o.dst v s.sl,s.bx⟩)∨
     Pf t FC G o s.sl ij (base+k) (fun v B=>sF ops base fs ij (k+1) rest Q ⟨eL o.dst v s.sl,s.bx.set (base+k) B⟩)
     else nA t FC T G true true o ⟨s.sl,ij⟩ (fun v=>sF ops base fs ij k rest Q ⟨eL o.dst v s.sl,s.bx⟩)
    |some (j,want)=>match nT t s.sl ops j want with
     |some g=>nA t FC T G true g o ⟨s.sl,ij⟩ (fun v=>sF ops base fs ij k rest Q ⟨eL o.dst (.cond g v) s.sl,s.bx⟩)
     |none=>False
  else False
def Ec (i:Nat) (s:St):Option (Prop×St):=match Xb t s.bx (gH i s.sl) with
 |some (c,y)=>some (c,⟨put i y s.sl,(gH i s.sl).cC s.bx⟩)
 |none=>none
def Pg (k:Option Nat) (s:St) (K:St→Prop):Prop:=match k with
 |none=>K s
 |some i=>match Ec t i s with
  |some (c,s1)=>c∧K s1
  |none=>False
def As (ops:List Oper) (i:Nat) (K:St→Prop) (Q:Ex→St→Prop) (s:St):Prop:=match ops[i]? with
 |some o=>bif gZ N o.dst then match o.guard with
  |none=>stepT t FC T G o s (fun v bx=>K ⟨eL o.dst v s.sl,bx⟩) Q
  |some (j,want)=>match nT t s.sl ops j want with
   |some g=>vU (.d (.bool g)) (fun _=>stepT t FC T G o s (fun v bx=>K ⟨eL o.dst (.cond true v) s.sl,bx⟩) Q) (fun _=>K ⟨eL o.dst (.cond false .any) s.sl,s.bx⟩)
   |none=>False
  else False
 |none=>False
def Gu (ops:List Oper) (Q:Ex→St→Prop) (R:St→Prop):OT→St→Prop
 |.done,s=>R s
 |.one i o,s=>As t FC T G N ops i (Gu ops Q R o) Q s
 |.more i o r,s=>As t FC T G N ops i (Gu ops Q R o) Q s∧Gu ops Q R r s
inductive Gv (ops:List Oper) (Q:Ex→St→Prop) (S:List St) (s:St):List (Nat×Nat)→Prop
 |nil:Gv ops Q S s []
 |cons {p i:Nat} {r:List (Nat×Nat)} {s0:St} (hs:S[p]?=some s0) (h:As t FC T G N ops i (fun s1=>(⟨BR s1.sl,s1.bx⟩:St)=s) Q s0) (hr:Gv ops Q S s r):Gv ops Q S s ((p,i)::r)
inductive MA (ops:List Oper) (Q:Ex→St→Prop) (S:List St):Nat→List Nd→Prop
 |nil {k:Nat}:MA ops Q S k []
 |cons {k:Nat} {nd:Nd} {r:List Nd} {s:St} (hs:S[k]?=some s) (hp:Gv t FC T G N ops Q S s nd.ps) (hr:MA ops Q S (k+1) r):MA ops Q S k (nd::r)
inductive U3 (ops:List Oper) (Q:Ex→St→Prop) (s:St) (pl:List Nd) (S:List St):Prop
 |mk (first:S[0]?=some s) (all:MA t FC T G N ops Q S 1 pl):U3 ops Q s pl S
 |yW {s0:St} (ks:List Nat) (eq:(⟨xo ks s.sl,s.bx⟩:St)=s0) (first:S[0]?=some s0) (all:MA t FC T G N ops Q S 1 pl):U3 ops Q s pl S
def Lo (ops:List Oper) (Q:Ex→St→Prop) (s:St):Prop:=
 Gs ops (fun k fs=>Pg t k s fun s=>sF t FC T G N ops s.bx.length fs (s.bx++List.replicate (oq ops) .bw) 0 ops Q ⟨s.sl,s.bx++List.replicate (oq ops) .bw⟩) (fun pre=>Cr G N ops pre s.sl=true)
  (fun tr s1=>Gu t FC T G N ops Q (fun s=>(⟨BR s.sl,s.bx⟩:St)=s1) tr s) (fun s1=>Q .normal s1) (fun pl S=>U3 t FC T G N ops Q s pl S)
end
section
variable {FC:Nat→List AV→List aA→jR→List aA→Prop} {T:Nat→Option TI} {G:Nat→Option (List D)} {N:Nat}
theorem oK (sl:List (Nat×AV)) (ops:List Oper) (j:Nat) (want:Bool):nT t0 sl ops j want=guardOf sl ops j want:=by
 unfold nT guardOf;rfl
theorem Lp {ti:TI} {a:AV} {bx:List aA} {c:Prop} {ds:List D} {j:Nat} (h:rowAt t0 a bx=some (c,ds,j)) (hc:c) {v:AV} (hv:cR ti.kd.isAgg ti.size ((ds.drop j).map .d)=some v):nS (o9 ti a bx) v none:=by
 unfold rowAt at h
 split at h
 ·rename_i b sz i j'
  split at h
  ·rename_i s es hb
   cases hs:Nat.beq s sz with
   |false=>simp [hs] at h
   |true=>
   simp only [hs,cond_true,osI,Prod.mk.injEq] at h
   obtain ⟨rfl,rfl,rfl⟩:=h
   have Zz:cR ti.kd.isAgg ti.size (((es.getD i []).drop j').map .d)=some v:=hv
   simp only [o9,hb,Zz]
   exact ⟨_,rfl,Nat.eq_of_beq_eq_true hs,hc⟩
  ·rename_i s es hb
   cases hs:Nat.beq s sz with
   |false=>simp [hs] at h
   |true=>
   simp only [hs,cond_true,osI,Prod.mk.injEq] at h
   obtain ⟨rfl,rfl,rfl⟩:=h
   have Zz:cR ti.kd.isAgg ti.size (((es.getD i []).drop j').map .d)=some v:=hv
   simp only [o9,hb,Zz]
   exact ⟨_,rfl,Nat.eq_of_beq_eq_true hs,hc⟩
  simp at h
 simp at h
theorem Lq (T:Nat→Option TI) (G:Nat→Option (List D)) (s:St) (op:Op):(match op with|.indexAddr ty x i=>Pc t0 T ty (ct G s.sl x).aR (ct G s.sl i).aR|_=>none)=(match op with|.indexAddr ty x i=>zx T ty (ct G s.sl x).aR (ct G s.sl i).aR|_=>none):=by
 cases op<;>first|rfl|exact UZ
theorem So {lQ:Prop} {f:Nat} {args:List AV} {bx:List aA} {K K':AV→List aA→Prop} {Kp:AV→List aA→Prop} (hK:∀v bx,K v bx→K' v bx)
 (h:pi FC lQ f args (qn t0 bx args) bx K Kp):Oa FC lQ f args bx K' Kp:=by
 obtain ⟨h0,h|h⟩:=h
 ·obtain ⟨c,args',h1,h2,h3,h4⟩:=h
  refine ⟨h0,.inl ⟨args',gL h1 h2,h3,?_⟩⟩
  rcases h4 with ⟨v,k1,k2,k3⟩|⟨sz,n,es,k1,k2,k3⟩
  ·exact .inl ⟨v,k1,k2,hK _ _ k3⟩
  exact .inr ⟨sz,n,es,k1,k2,hK _ _ k3⟩
 obtain ⟨args',pO,res,pP,h1,h2,h3⟩:=h
 refine ⟨h0,.inr ⟨args',pO,res,pP,?_,h2,?_⟩⟩
 ·rcases h1 with h1|⟨⟨c,k1,k2⟩,k3⟩
  ·exact .inl h1
  exact .inr ⟨gL k1 k2,k3⟩
 cases res with
 |ret v=>exact hK _ _ h3
 |Mf v=>exact h3
theorem Gw {te:TI} {BN:Bool} {K K':AV→Prop} (hK:∀v,K v→K' v) {o:Option (List D)} (h:oo te BN K o):oo te BN K' o:=by
 cases o with
 |none=>
  simp only [oo] at h ⊢
  split at h
  ·exact hK _ h
  exact h.elim
 |some ds=>
  simp only [oo] at h ⊢
  split at h
  ·exact hK _ h
  exact h.elim
theorem yY {o:Oper} {s:St} {K K':AV→List aA→Prop} {Q:Ex→St→Prop} (hK:∀v bx,K v bx→K' v bx) (h:stepT t0 FC T G o s K Q):pQ FC T G o s K' Q:=by
 unfold stepT at h
 unfold pQ
 split at h
 ·rename_i c a b ho
  simp only [ho]
  split at h
  ·rename_i p hc
   simp only [hc]
   rw [Gp] at h
   exact ⟨⟨h.1.1,h.1.2.ok⟩,hK _ _ h.2⟩
  exact h.elim
 ·rename_i f args ats ho
  simp only [ho]
  split at h
  ·rename_i i as hf
   simp only [hf]
   exact So hK h
  exact h.elim
 ·rename_i x ho
  simp only [ho]
  split at h
  ·rename_i ty v hx;simp only [hx];exact h
  exact h.elim
 ·rename_i ty x ho
  simp only [ho]
  split at h
  ·rename_i ti ht
   simp only [ht]
   split at h
   ·rename_i str hk hx;simp only [hk,hx];exact ⟨h.1,hK _ _ h.2⟩
   exact h.elim
  exact h.elim
 ·rename_i it ho
  simp only [ho]
  split at h
  ·rename_i b hx
   simp only [hx]
   split at h
   ·rename_i str pos hb
    simp only [hb]
    exact ⟨h.1,⟨fun hp=>hK _ _ (h.2.ok.1 hp),fun hp=>hK _ _ (h.2.ok.2 hp)⟩⟩
   exact h.elim
  exact h.elim
 ·rename_i ty x t2 ho
  simp only [ho]
  split at h
  ·rename_i ti Is ht he
   simp only [ht,he]
   split at h
   ·rename_i e hk;simp only [hk];exact ⟨h.1,⟨fun b hb=>hK _ _ (h.2.ok b hb)⟩⟩
   exact h.elim
  exact h.elim
 ·rename_i ty x t2 ho
  simp only [ho]
  split at h
  ·rename_i ti Is ht he
   simp only [ht,he]
   split at h
   ·rename_i e hk;simp only [hk];exact ⟨h.1,⟨fun b hb=>hK _ _ (h.2.ok b hb)⟩⟩
   exact h.elim
  exact h.elim
 ·rename_i ty ho
  simp only [ho]
  split at h
  ·rename_i ti ht
   simp only [ht]
   split at h
   ·rename_i mk me hk
    simp only [hk]
    split at h
    ·rename_i te hte
     simp only [hte]
     exact hK _ _ h
    exact h.elim
   exact h.elim
  exact h.elim
 ·rename_i ty m k BN ho
  simp only [ho]
  split at h
  ·rename_i tk te ag es kd hm hk
   simp only [hm,hk]
   obtain ⟨o',hg,hk⟩:=h
   exact ⟨o',hg,Gw (fun v hv=>hK _ _ hv) hk⟩
  exact h.elim
 ·rename_i ty m k x ho
  simp only [ho]
  split at h
  ·rename_i b tk te ag es kd vs hm hk hc
   simp only [hm,hk,hc]
   split at h
   ·rename_i c dsv BU WT
    obtain ⟨⟨g1,g2,g3,g4,g5⟩,g6⟩:=h
    simp only [BU,uT WT g2]
    exact ⟨⟨g1,g3,Nat.eq_of_beq_eq_true g4,g5⟩,hK _ _ g6⟩
   exact h.elim
  exact h.elim
 ·rename_i ty a ho
  simp only [ho]
  split at h
  ·rename_i c ds j hr
   obtain ⟨ds',hg,hk⟩:=h
   obtain ⟨⟨h1,h2⟩,rfl⟩:=hg rfl
   split at hk
   ·rename_i ti ht
    split at hk
    ·rename_i v hv
     obtain ⟨c',e,vS⟩:=Lp hr h2 hv
     simp only [Fb,iZ,cond_false,lA,ht,e]
     exact ⟨⟨⟨h1,trv⟩,vS⟩,hK _ _ hk⟩
    exact hk.elim
   exact hk.elim
  split at h
  ·rename_i c v b hr
   obtain ⟨⟨h1,h2⟩,h3⟩:=h
   obtain ⟨c',e,vS⟩:=Lj hr h2
   simp only [e]
   exact ⟨⟨h1,vS⟩,hK _ _ h3⟩
  exact h.elim
 rename_i e1 e2 e3 e4 e5 e6 e7 m1 m2 m3 e8
 split
 ·rename_i ho;exact absurd ho (e1 _ _ _)
 ·rename_i ho;exact absurd ho (e2 _ _ _)
 ·rename_i ho;exact absurd ho (e3 _)
 ·rename_i ho;exact absurd ho (e4 _ _)
 ·rename_i ho;exact absurd ho (e5 _)
 ·rename_i ho;exact absurd ho (e6 _ _ _)
 ·rename_i ho;exact absurd ho (e7 _ _ _)
 ·rename_i ho;exact absurd ho (m1 _)
 ·rename_i ho;exact absurd ho (m2 _ _ _ _)
 ·rename_i ho;exact absurd ho (m3 _ _ _ _)
 have hm:=Lq T G s o.op
 show match (match o.op with|.indexAddr ty x i=>zx T ty (ct G s.sl x).aR (ct G s.sl i).aR|_=>none) with
  |some (c,ds)=>nI true (dI (fX G s.sl o.op.operands.toList)∧c) ds (fun ds=>K' (.ep ds) s.bx)
  |none=>match Fb T (fun x=>(ct G s.sl x).aR) o.op s.bx with
   |some ⟨c,v,b⟩=>(dI (fX G s.sl o.op.operands.toList)∧c)∧K' v (dN s.bx b)
   |none=>False
 split at h
 ·rename_i c ds hi
  rw [hm] at hi
  simp only [hi]
  obtain ⟨ds',hg,hk⟩:=h
  exact ⟨ds',hg,hK _ _ hk⟩
 rename_i hi
 rw [hm] at hi
 simp only [hi]
 split at h
 ·rename_i c v b hr
  have h:(dI (fX G s.sl o.op.operands.toList)∧c)∧K v (dN s.bx b):=by
   generalize Gr _ _=q at h
   cases q with
   |false=>exact h
   |true=>obtain ⟨v',aU,k1,rfl,rfl,k2⟩:=h;exact ⟨k1,k2⟩
  obtain ⟨⟨h1,h2⟩,h3⟩:=h
  obtain ⟨c',e,vS⟩:=Lj hr h2
  simp only [e]
  exact ⟨⟨h1,vS⟩,hK _ _ h3⟩
 exact h.elim
theorem Gx {dr g:Bool} {o:Oper} {s:St} {K:AV→Prop} (h:nA t0 FC T G dr g o s K):∃v,K v:=by
 unfold nA at h
 split at h
 ·split at h
  ·exact ⟨_,h.2⟩
  exact h.elim
 ·split at h
  ·obtain ⟨_,v,_,hK⟩|⟨v,_,hK⟩:=h
   ·exact ⟨v,hK⟩
   exact ⟨v,hK⟩
  exact h.elim
 ·split at h
  ·obtain ⟨_,⟨_,v,_,hK⟩|⟨v,_,hK⟩⟩:=h
   ·exact ⟨v,hK⟩
   exact ⟨v,hK⟩
  exact h.elim
 ·split at h
  ·obtain ⟨ds',_,hk⟩:=h
   split at hk
   ·split at hk
    ·exact ⟨_,hk⟩
    exact hk.elim
   exact hk.elim
  split at h
  ·exact ⟨_,h.2⟩
  exact h.elim
 split at h
 ·obtain ⟨ds,_,hK⟩:=h;exact ⟨_,hK⟩
 split at h
 ·generalize Gr _ _=q at h
  cases q with
  |false=>exact ⟨_,h.2⟩
  |true=>obtain ⟨v',_,k2⟩:=h;exact ⟨_,k2⟩
 split at h
 ·exact ⟨_,h.2⟩
 exact h.elim
theorem CP {dr g:Bool} {o:Oper} {s:St} {K K':AV→Prop} (hK:∀v,K v→K' v) (h:nA t0 FC T G dr g o s K):stepG FC T G g o s K'∨dr=false∧sS FC G g o s K':=by
 cases g with
 |false=>obtain ⟨v,h⟩:=Gx h;exact .inl (.inl ⟨rfl,v,hK v h⟩)
 |true=>
 by_cases Ue:∃(f:Operand) (args:Array Operand) (ats:Array TypeId) (i:Nat) (as:List AV),o.op=.call {callee:=.value f,args:=args,argTypes:=ats}∧lX (ct G s.sl f).aR (args.toList.map fun x=>(ct G s.sl x).aR)=some (i,as)∧
  dr=false∧∃v,(true=true→((ct G s.sl f).ok∧dI (fX G s.sl args.toList))∧FC i as s.bx (.ret v) s.bx)∧K v
 ·obtain ⟨f,args,ats,i,as,ho,hf,hd,v,h1,h2⟩:=Ue
  refine .inr ⟨hd,?_⟩
  unfold sS
  simp only [ho,hf]
  exact ⟨v,fun _=>h1 rfl,hK _ h2⟩
 by_cases Xc:∃c es,BQ T (fun x=>(ct G s.sl x).aR) o.op=some (c,es)∧(dI (fX G s.sl o.op.operands.toList)∧c)∧K (.d (.sl es))
 ·obtain ⟨c,es,h1,h2,h3⟩:=Xc
  exact .inl (.inr (.inr ⟨c,es,h1,fun _=>h2,hK _ h3⟩))
 refine .inl (.inr (.inl ?_))
 unfold nA at h
 unfold vX
 split at h
 ·rename_i c a b ho
  simp only [ho]
  split at h
  ·rename_i p hc
   simp only [hc]
   rw [Gp] at h
   have h1:true=true→(ct G s.sl c).ok∧(p=true→(ct G s.sl a).ok)∧(p=false→(ct G s.sl b).ok):=fun e=>⟨(h.1.ok e).1,(h.1.ok e).2.ok⟩
   exact ⟨fun _=>h1 rfl,hK _ h.2⟩
  exact h.elim
 ·rename_i f args ats ho
  simp only [ho]
  split at h
  ·rename_i i as hf
   simp only [hf]
   obtain ⟨hd,v,h1,h2⟩|⟨v,h1,h2⟩:=h
   ·exact absurd ⟨f,args,ats,i,as,ho,hf,hd,v,h1,h2⟩ Ue
   refine ⟨v,fun hg=>?_,hK _ h2⟩
   obtain ⟨k1,args',jS,⟨c,k2,k3⟩,k4,k5,k6⟩:=h1 hg
   exact ⟨k1,args',jS,gL k2 k3,k4,k5,k6⟩
  exact h.elim
 ·rename_i f nm args ats ho
  simp only [ho]
  split at h
  ·rename_i n i v0 hf
   obtain ⟨rfl,h⟩:=h
   simp only [Sn _ hf]
   obtain ⟨hd,v,h1,h2⟩|⟨v,h1,h2⟩:=h
   ·cases hd
   refine ⟨v,fun hg=>?_,hK _ h2⟩
   obtain ⟨k1,args',jS,⟨c,k2,k3⟩,k4,k5,k6⟩:=h1 hg
   exact ⟨k1,args',jS,gL k2 k3,k4,k5,k6⟩
  exact h.elim
 ·rename_i ty a ho
  simp only [ho]
  split at h
  ·rename_i c ds j hr
   obtain ⟨ds',hg,hk⟩:=h
   obtain ⟨⟨h1,h2⟩,rfl⟩:=hg rfl
   split at hk
   ·rename_i ti ht
    split at hk
    ·rename_i v hv
     obtain ⟨c',e,vS⟩:=Lp hr h2 hv
     simp only [Fb,iZ,cond_false,lA,ht,e]
     exact ⟨fun _=>⟨⟨h1,trv⟩,vS⟩,hK _ hk⟩
    exact hk.elim
   exact hk.elim
  split at h
  ·rename_i c v hr
   obtain ⟨h1,h3⟩:=h
   have h1:true=true→dI (fX G s.sl (Op.load ty a).operands.toList)∧c:=h1.ok
   obtain ⟨c',e,vS⟩:=Lj hr (h1 rfl).2
   simp only [e]
   exact ⟨fun _=>⟨(h1 rfl).1,vS⟩,hK _ h3⟩
  exact h.elim
 rename_i e1 e2 e2' e3
 split
 ·rename_i ho;exact absurd ho (e1 _ _ _)
 ·rename_i ho;exact absurd ho (e2 _ _ _)
 ·rename_i ho;exact absurd ho (e2' _ _ _ _)
 have hm:=Lq T G s o.op
 split at h
 ·rename_i c ds hi
  rw [hm] at hi
  show match (match o.op with|.indexAddr ty x i=>zx T ty (ct G s.sl x).aR (ct G s.sl i).aR|_=>none) with
   |some (c,ds)=>nI true (dI (fX G s.sl o.op.operands.toList)∧c) ds (fun ds=>K' (.ep ds))
   |none=>match Fb T (fun x=>(ct G s.sl x).aR) o.op s.bx with
    |some ⟨c,v,none⟩=>(true=true→dI (fX G s.sl o.op.operands.toList)∧c)∧K' v
    |_=>False
  simp only [hi]
  obtain ⟨ds',hg,hk⟩:=h
  exact ⟨ds',hg,hK _ hk⟩
 rename_i hi
 rw [hm] at hi
 show match (match o.op with|.indexAddr ty x i=>zx T ty (ct G s.sl x).aR (ct G s.sl i).aR|_=>none) with
  |some (c,ds)=>nI true (dI (fX G s.sl o.op.operands.toList)∧c) ds (fun ds=>K' (.ep ds))
  |none=>match Fb T (fun x=>(ct G s.sl x).aR) o.op s.bx with
   |some ⟨c,v,none⟩=>(true=true→dI (fX G s.sl o.op.operands.toList)∧c)∧K' v
   |_=>False
 simp only [hi]
 split at h
 ·rename_i c v hr
  have h:wz true (dI (fX G s.sl o.op.operands.toList)∧c)∧K v:=by
   generalize Gr _ _=q at h
   cases q with
   |false=>exact h
   |true=>obtain ⟨v',k0,k2⟩:=h;obtain ⟨k1,rfl⟩:=k0 rfl;exact ⟨⟨fun _=>k1⟩,k2⟩
  obtain ⟨h1,h3⟩:=h
  have h1:true=true→dI (fX G s.sl o.op.operands.toList)∧c:=h1.ok
  obtain ⟨c',e,vS⟩:=Lj hr (h1 rfl).2
  simp only [e]
  exact ⟨fun _=>⟨(h1 rfl).1,vS⟩,hK _ h3⟩
 split at h
 ·rename_i c es ha
  rw [U1] at ha
  exact absurd ⟨c,es,ha,h.1.ok rfl,h.2⟩ Xc
 exact h.elim
theorem uW {g:Bool} {o:Oper} {s:St} {K K':AV→Prop} (hK:∀v,K v→K' v) (h:nA t0 FC T G true g o s K):stepG FC T G g o s K':=by
 rcases CP hK h with h|⟨h,_⟩
 ·exact h
 cases h
theorem Je {ops:List Oper} {Q:Ex→St→Prop}:∀(l:List Oper) (s:St),Pe t0 FC T G N ops l Q s→Fk FC T G N ops l Q s
 |[],_,h=>h
 |o::l,s,h=>by
  unfold Pe at h
  unfold Fk
  cases hd:gZ N o.dst with
  |false=>simp [hd] at h
  |true=>
  simp only [hd,cond_true] at h ⊢
  split at h
  ·rename_i hg
   simp only [hg]
   exact yY (fun v bx hK=>Je l _ hK) h
  rename_i j want hg
  simp only [hg]
  rw [oK] at h
  split at h
  ·rename_i g Iu
   simp only [Iu]
   rcases CP (fun v hK=>Je l _ hK) h with h|⟨_,h⟩
   ·exact .inl h
   exact .inr h
  exact h.elim
theorem Sp {o:Oper} {sl:List (Nat×AV)} {ij:List aA} {x:Nat} {K K':AV→aA→Prop} (hK:∀v B,K v B→K' v B) (h:Pf t0 FC G o sl ij x K):lY FC G o sl ij x K':=by
 unfold Pf at h
 split at h
 ·rename_i f args ats ho
  split at h
  ·rename_i i as hf
   obtain ⟨args',sz,n,es,h1,⟨c,h2,h3⟩,h4,h5,h6,h7,h8⟩:=h
   exact ⟨f,args,ats,i,as,args',sz,n,es,ho,hf,h1,gL h2 h3,h4,h5,h6,h7,hK _ _ h8⟩
  exact h.elim
 exact h.elim
theorem lI {ops:List Oper} {b:List Nat} {base:Nat} {Q:Ex→St→Prop}:∀(l:List Oper) (ij:List aA) (k i:Nat) (s:St),sF t0 FC T G N ops base (mB b i l) ij k l Q s→nK FC T G N ops b base ij k i l Q s
 |[],_,_,_,_,h=>h
 |o::l,ij,k,i,s,h=>by
  unfold mB sF at h
  unfold nK
  cases hd:gZ N o.dst with
  |false=>simp [hd] at h
  |true=>
  simp only [hd,cond_true] at h ⊢
  cases hb:barrier b i with
  |true=>
   simp only [hb,cond_true] at h ⊢
   split at h
   ·rename_i hg
    simp only [hg]
    exact yY (fun v bx hK=>lI l _ _ _ _ hK) h
   rename_i j want hg
   simp only [hg]
   rw [oK] at h
   split at h
   ·rename_i g Iu
    simp only [Iu]
    exact uW (fun v hK=>lI l _ _ _ _ hK) h
   exact h.elim
  |false=>
   simp only [hb,cond_false] at h ⊢
   split at h
   ·rename_i cs xu
    simp only [xu]
    split at h
    ·rename_i hu
     simp only [hu]
     exact lI l _ _ _ _ h
    exact h.elim
   rename_i xu
   simp only [xu]
   split at h
   ·rename_i hg
    simp only [hg]
    cases RL:Pd o.op with
    |false=>
     simp only [RL,cond_false] at h
     exact .inl (uW (fun v hK=>lI l _ _ _ _ hK) h)
    |true=>
     simp only [RL,cond_true] at h
     rcases h with h|h
     ·exact .inl (uW (fun v hK=>lI l _ _ _ _ hK) h)
     exact .inr (Sp (fun v B hK=>lI l _ _ _ _ hK) h)
   rename_i j want hg
   simp only [hg]
   rw [oK] at h
   split at h
   ·rename_i g Iu
    simp only [Iu]
    exact uW (fun v hK=>lI l _ _ _ _ hK) h
   exact h.elim
theorem At {ops:List Oper} {i:Nat} {K K':St→Prop} {Q:Ex→St→Prop} {s:St} (hK:∀s,K s→K' s) (h:As t0 FC T G N ops i K Q s):xk FC T G N ops i K' Q s:=by
 unfold As at h
 unfold xk
 cases ho:ops[i]? with
 |none=>rw [ho] at h;exact h.elim
 |some o=>
  rw [ho] at h
  simp only at h ⊢
  cases hd:gZ N o.dst with
  |false=>rw [hd] at h;exact h.elim
  |true=>
   rw [hd] at h
   simp only [cond_true] at h ⊢
   cases hg:o.guard with
   |none=>
    rw [hg] at h
    simp only at h ⊢
    exact yY (fun v bx h=>hK _ h) h
   |some q=>
    obtain ⟨j,want⟩:=q
    rw [hg] at h
    simp only [oK] at h ⊢
    cases Iu:guardOf s.sl ops j want with
    |none=>rw [Iu] at h;exact h.elim
    |some g=>
     rw [Iu] at h
     simp only at h ⊢
     obtain ⟨h⟩:=h
     exact ⟨⟨fun e=>yY (fun v bx h=>hK _ h) (h.1 e),fun e=>hK _ (h.2 e)⟩⟩
theorem yZ {ops:List Oper} {Q:Ex→St→Prop} {R:St→Prop}:∀(tr:OT) (s:St),Gu t0 FC T G N ops Q R tr s→Mh FC T G N ops Q R tr s
 |.done,_,h=>h
 |.one i o,s,h=>At (fun s h=>yZ o s h) h
 |.more i o r,s,h=>⟨At (fun s h=>yZ o s h) h.1,yZ r s h.2⟩
theorem Lr {ops:List Oper} {Q:Ex→St→Prop} {S:List St} {s:St}:∀{l:List (Nat×Nat)},Gv t0 FC T G N ops Q S s l→Fl FC T G N ops Q S s l
 |_,.nil=>trivial
 |_,.cons hs h hr=>by
  refine ⟨?_,Lr hr⟩
  rw [hs]
  exact At (fun s h=>h) h
theorem Jf {ops:List Oper} {Q:Ex→St→Prop} {S:List St}:∀{k:Nat} {l:List Nd},MA t0 FC T G N ops Q S k l→allM FC T G N ops Q S k l
 |_,_,.nil=>trivial
 |_,_,.cons hs hp hr=>by
  refine ⟨?_,Jf hr⟩
  rw [hs]
  exact Lr hp
theorem Sq {ops:List Oper} {Q:Ex→St→Prop} {s:St} (h:Lo t0 FC T G N ops Q s):Of FC T G N ops Q s∨∃i c s1,Ec t0 i s=some (c,s1)∧c∧Of FC T G N ops Q s1:=by
 obtain ⟨⟨pre,tr,s1,g1,g2,g3,g4⟩|⟨pl,S,s1,g1,gd,g4,g5⟩|⟨k,pre,late,fs,h0,⟨h1,rfl⟩,h2⟩⟩:=h
 ·exact .inl (.inl ⟨pre,tr,s1,g1,g2,yZ tr s g3,g4⟩)
 ·cases gd with
  |mk g2 g3=>exact .inl (.inr (.inl ⟨pl,S,s1,_,g1,⟨g2,.inl rfl⟩,g4,Jf g3,g5⟩))
  |yW ks ge g2 g3=>subst ge;exact .inl (.inr (.inl ⟨pl,S,s1,_,g1,⟨g2,.inr ⟨ks,rfl⟩⟩,g4,Jf g3,g5⟩))
 cases k with
 |none=>
  refine .inl<|.inr<|.inr ⟨pre,late,h0.imp id ?_,h1,lI _ _ _ _ _ h2⟩
  rintro ⟨g1,g2,g3,⟨_,g4⟩|rfl⟩
  ·exact ⟨g1,g2,g3,g4⟩
  exact ⟨g1,g2,g3,rfl⟩
 |some i=>
  right
  simp only [Pg] at h2
  split at h2
  ·rename_i c s1 hs
   refine ⟨i,c,s1,hs,h2.1,.inr<|.inr ⟨pre,late,?_,h1,lI _ _ _ _ _ h2.2⟩⟩
   rcases h0 with h0|⟨g1,g2,g3,⟨h0,_⟩|rfl⟩
   ·exact .inl h0
   ·cases h0
   exact .inr ⟨g1,g2,g3,rfl⟩
  exact h2.elim
end
end Dem
