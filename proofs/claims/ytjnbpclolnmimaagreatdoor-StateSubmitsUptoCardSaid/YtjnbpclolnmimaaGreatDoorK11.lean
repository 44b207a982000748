/- Parts of a proof, joined. -/
import Derived.Test.YtjnbpclolnmimaaGreatDoorK10
set_option linter.all false
set_option maxRecDepth 100000
set_option maxHeartbeats 4000000
open Go
namespace Dem
section
variable (t:Th)
def XF (bx:List ar):AV→Option (Prop×AV)
 |.cl es=>some (True,.d (.sl es))
 |.ow b sz n=>match (AV.ow b sz n).Ss t bx with
  |some (c,d)=>some (c,.d d)
  |none=>none
 |.vw b sz off n ca ex=>match (AV.vw b sz off n ca ex).yg t bx with
  |some (c,es)=>some (c,.d (.sl es))
  |none=>none
 |v=>some (True,v)
def Pt (bx:List ar):List AV→Option (Prop×List AV)
 |[]=>some (True,[])
 |x::xs=>match XF t bx x,Pt bx xs with
  |some (c,y),some (d,ys)=>some (c∧d,y::ys)
  |_,_=>none
def LJ (bx:List ar):AV→Option (Prop×AV)
 |.agg cs=>match Pt t bx cs with
  |some (c,ys)=>some (c,.agg ys)
  |none=>none
 |v=>XF t bx v
def qL (bx:List ar):List AV→Option (Prop×List AV)
 |[]=>some (True,[])
 |x::xs=>match LJ t bx x,qL bx xs with
  |some (c,y),some (d,ys)=>some (c∧d,y::ys)
  |_,_=>none
def C2 (bx:List ar):AV→Option (Prop×AV)
 |.dA vs=>match qL t bx vs with
  |some (c,ys)=>some (c,.dA ys)
  |none=>none
 |v=>LJ t bx v
end
section
variable {bx:List ar}
theorem Jx {x y:AV} {c:Prop} (h:XF t0 bx x=some (c,y)) (hc:c):fz bx x=some y:=by
 unfold XF at h
 split at h
 ·simp only [osI,Prod.mk.injEq] at h;obtain ⟨rfl,rfl⟩:=h;rfl
 ·rename_i b sz n
  split at h
  ·rename_i c' d h1
   simp only [osI,Prod.mk.injEq] at h;obtain ⟨rfl,rfl⟩:=h
   simp only [fz,Pq h1 hc,Option.map_some]
  simp at h
 ·rename_i b sz off n ca ex
  split at h
  ·rename_i c' es h1
   simp only [osI,Prod.mk.injEq] at h;obtain ⟨rfl,rfl⟩:=h
   simp only [fz,jN h1 hc,Option.map_some]
  simp at h
 rename_i h1 h2 h3
 simp only [osI,Prod.mk.injEq] at h;obtain ⟨rfl,rfl⟩:=h
 unfold fz;split
 ·exact absurd rfl (h1 _)
 ·exact absurd rfl (h2 _ _ _)
 ·exact absurd rfl (h3 _ _ _ _ _ _)
 rfl
theorem GL:∀{xs ys:List AV} {c:Prop},Pt t0 bx xs=some (c,ys)→c→IQ bx xs=some ys
 |[],ys,c,h,_=>by simp [Pt] at h;simp [IQ,h.2]
 |x::xs,ys,c,h,hc=>by
  simp only [Pt] at h
  split at h
  ·rename_i c1 y d ys' h1 h2
   simp only [osI,Prod.mk.injEq] at h
   obtain ⟨rfl,rfl⟩:=h
   simp [IQ,Jx h1 hc.1,GL h2 hc.2]
  simp at h
theorem AJ {x y:AV} {c:Prop} (h:LJ t0 bx x=some (c,y)) (hc:c):qf bx x=some y:=by
 unfold LJ at h
 split at h
 ·split at h
  ·rename_i cs c' ys h1
   simp only [osI,Prod.mk.injEq] at h
   obtain ⟨rfl,rfl⟩:=h
   simp [qf,GL h1 hc]
  simp at h
 rename_i h1
 unfold qf;split
 ·exact absurd rfl (h1 _)
 exact Jx h hc
theorem gu:∀{xs ys:List AV} {c:Prop},qL t0 bx xs=some (c,ys)→c→eK bx xs=some ys
 |[],ys,c,h,_=>by simp [qL] at h;simp [eK,h.2]
 |x::xs,ys,c,h,hc=>by
  simp only [qL] at h
  split at h
  ·rename_i c1 y d ys' h1 h2
   simp only [osI,Prod.mk.injEq] at h
   obtain ⟨rfl,rfl⟩:=h
   simp [eK,AJ h1 hc.1,gu h2 hc.2]
  simp at h
theorem Jy {x y:AV} {c:Prop} (h:C2 t0 bx x=some (c,y)) (hc:c):IZ bx x=some y:=by
 unfold C2 at h
 split at h
 ·split at h
  ·rename_i cs c' ys h1
   simp only [osI,Prod.mk.injEq] at h
   obtain ⟨rfl,rfl⟩:=h
   simp [IZ,gu h1 hc]
  simp at h
 rename_i h1
 unfold IZ;split
 ·exact absurd rfl (h1 _)
 exact AJ h hc
end
structure qM (FC:Nat→List AV→List ar→ff→List ar→Prop) (kX:Prop) (f:Nat) (args:List AV) (fz:Option (Prop×List AV)) (bx:List ar)
 (K:AV→List ar→Prop) (Kp:AV→List ar→Prop):Prop where
 ok:kX∧(
  (∃c args',fz=some (c,args')∧c∧AV.shut.mW args'=true∧
   (
    (∃v,FC f args' [] (.ret v) []∧(v.flat=true∨eK [] args=some args'∧v.shut=true)∧K v bx)∨
    (∃sz n es,FC f args' [] (.ret (.ow 0 sz n)) [.row sz es]∧((∀r∈es,∀x∈r,x.flat=true)∨eK [] args=some args')∧K (.ow bx.length sz n) (bx++[.row sz es]))))∨
  (∃args' sP res jk,(args'=args∧sP=bx∨(∃c,fz=some (c,args')∧c)∧sP=eL bx args)∧FC f args' sP res jk∧
   (match res with|.ret v=>K v jk|.My v=>Kp v jk)))
structure oU (FC:Nat→List AV→List ar→ff→List ar→Prop) (dr g:Bool) (kX:Prop) (f:Nat) (args:List AV) (bx:List ar) (fz:Option (Prop×List AV)) (K:AV→Prop):Prop where
 ok:(dr=false∧∃v,(g=true→kX∧FC f args bx (.ret v) bx)∧K v)∨∃v,(g=true→kX∧∃args' jv,(∃c,fz=some (c,args')∧c)∧AV.bL.cM jv args'=true∧(∃dt,dF dt jv jv=true∧(dt=true→eK [] args=some args'))∧
  (∀(i:Nat) (b:ar),jv[i]?=some b→b.born=true→∃b',bx[i]?=some b'∧b'.born=true∧(b.live=true→b'=b))∧FC f args' jv (.ret v) jv∧
  (v.flat=true∨eK [] args=some args'∧v.shut=true))∧K v
structure wK (g:Bool) (p:Prop):Prop where
 ok:g=true→p
structure LK (p:Bool) (a b:Prop):Prop where
 ok:(p=true→a)∧(p=false→b)
theorem bq {p:Bool} {a b:Prop}:LK p a b↔((p=true→a)∧(p=false→b)):=⟨fun h=>h.ok,fun h=>⟨h⟩⟩
structure Pu (g:Bool) (c:Prop) (ds:List D) (K:List D→Prop):Prop where
 ok:∃ds',(g=true→c∧ds=ds')∧K ds'
structure Pv (c:Prop) (v:AV) (bx:List ar) (K:AV→List ar→Prop):Prop where
 ok:∃v' aF,c∧v=v'∧bx=aF∧K v' aF
structure UB (g:Bool) (c:Prop) (v:AV) (K:AV→Prop):Prop where
 ok:∃v',(g=true→c∧v=v')∧K v'
def GM (ev:Operand→AV) (o:Op):Bool:=bif iG ev o then (match o with
 |.slice _ _ _ _ _=>true
 |.call {callee:=.builtin b,..}=>match b with
  |.copy=>true
  |.clear=>true
  |.append=>true
  |_=>false
 |_=>false) else false
def Pw (t:Th) (T:Nat→Option TI) (ty:Nat) (x i:AV):Option (Prop×List D):=
 match T ty with
 |some ti=>match ti.kd,x,i with
  |.slice e,.d (.sl es),.d (.int _ z)=>match T e with
   |some te=>some (t Prop (fun _=>0≤z∧z<es.length∧(∀r∈es,r.length=te.size)),t _ fun _=>es.getD z.toNat [])
   |none=>none
  |.slice e,.cl es,.d (.int _ z)=>match T e with
   |some te=>some (t Prop (fun _=>0≤z∧z<es.length∧(∀r∈es,r.length=te.size)),t _ fun _=>es.getD z.toNat [])
   |none=>none
  |_,_,_=>none
 |none=>none
theorem Vp {T:Nat→Option TI} {ty:Nat} {x i:AV}:Pw t0 T ty x i=zG T ty x i:=by
 unfold Pw zG;rfl
def Vq (t:Th) (T:Nat→Option TI) (ev:Operand→AV):Op→Option (Prop×List (List D))
 |.call {callee:=.builtin b,args,argTypes}=>match b,args.toList,argTypes.toList with
  |.append,[x,y],[ty,u]=>match T ty,T u with
   |some ti,some tu=>match ti.kd,tu.kd with
    |.slice e,.slice _=>match T e with
     |some te=>bif eC te then match ev x,ev y with
      |.cl es,.cl (x0::xr)=>some (t Prop (fun _=>(es.length+(x0::xr).length)*te.bytes≤140737488355328∧(∀r∈es++(x0::xr),r.length=te.size)),t _ fun _=>es++(x0::xr))
      |_,_=>none
      else none
     |none=>none
    |_,_=>none
   |_,_=>none
  |_,_,_=>none
 |_=>none
theorem Vr {T:Nat→Option TI} {ev:Operand→AV} {op:Op}:Vq t0 T ev op=Cg T ev op:=by
 unfold Vq Cg;rfl
def mH (b:List Nat):Nat→List Oper→List Bool
 |_,[]=>[]
 |i,_::r=>barrier b i::mH b (i+1) r
structure UC (FC:Nat→List AV→List ar→ff→List ar→Prop) (kX:Prop) (f:Nat) (args:List AV) (fz:Option (Prop×List AV)) (at_:Option ar) (x:Nat) (K:AV→ar→Prop):Prop where
 ok:∃args' sz n es,kX∧(∃c,fz=some (c,args')∧c)∧AV.shut.mW args'=true∧FC f args' [] (.ret (.ow 0 sz n)) [.row sz es]∧
  ((∀r∈es,∀x∈r,x.flat=true)∨eK [] args=some args')∧at_=some .bt∧K (.ow x sz n) (.row sz es)
structure UD (a b:String) (K:Prop):Prop where
 ok:a=b∧K
theorem UE {a:String} {K:Prop} (h:K):UD a a K:=⟨rfl,h⟩
def Vs (T:Nat→Option TI) (x:AV):Option (String×Nat×AV):=
 match x with
 |.sG ty v=>match T ty with
  |some ti=>match ti.inv with
   |some (n,i)=>some (n,i,v)
   |none=>none
  |none=>none
 |_=>none
theorem SC {T:Nat→Option TI} {x v:AV} {n:String} {i:Nat} (as:List AV) (h:Vs T x=some (n,i,v)):CD T x n as=some (i,v::as):=by
 unfold Vs at h
 unfold CD
 split at h
 ·split at h
  ·rename_i ti ht
   simp only [ht]
   split at h
   ·rename_i hi
    simp only [osI,Prod.mk.injEq] at h
    obtain ⟨rfl,rfl,rfl⟩:=h
    simp only [hi,if_true]
   cases h
  cases h
 cases h
def Px:Op→Bool
 |.call {callee:=.value _,..}=>true
 |_=>false
structure C3 (ops:List Oper) (A:Option Nat→List Bool→Prop) (X:List Nat→Prop) (B1:OT→St→Prop) (B2:St→Prop) (B3:List Nd→List St→Prop):Prop where
 ok:(∃(pre:List Nat) (tr:OT) (s1:St),(iH ops.toArray [] pre=true∧mZ ops.toArray=true∧X pre)∧tr.fits pre ops=true∧B1 tr s1∧B2 s1)∨(∃(pl:List Nd) (S:List St) (s1:St),FJ ops.toArray pl=true∧B3 pl S∧S[pl.length]?=some s1∧B2 s1)∨∃k pre late fs,((pre=[]∧late=[])∨(iH ops.toArray [] pre=true∧mZ ops.toArray=true∧uD (cg pre 0 ops).toArray late=true∧(k=none∧X pre∨pre=[])))∧
  (Ln (gT (cg pre 0 ops).toArray late 0 (cg pre 0 ops))∧mH (cE (gT (cg pre 0 ops).toArray late 0 (cg pre 0 ops)) []) 0 ops=fs)∧A k fs
theorem bS {ops:List Oper} {A:Option Nat→List Bool→Prop} {X:List Nat→Prop} {B1:OT→St→Prop} {B2:St→Prop} {B3:List Nd→List St→Prop} (fs:List Bool) (h1:gF ops.toArray (cE ops []) 0 ops=true) (h2:mH (cE ops []) 0 ops=fs) (h:A none fs):C3 ops A X B1 B2 B3:=
 ⟨.inr<|.inr ⟨none,[],[],fs,.inl ⟨rfl,rfl⟩,by rw [oQ,rV];exact ⟨⟨h1⟩,h2⟩,h⟩⟩
theorem yh {ops:List Oper} {A:Option Nat→List Bool→Prop} {X:List Nat→Prop} {B1:OT→St→Prop} {B2:St→Prop} {B3:List Nd→List St→Prop} (pre late:List Nat) (fs:List Bool) (hp:iH ops.toArray [] pre=true) (hs:mZ ops.toArray=true) (hl:uD (cg pre 0 ops).toArray late=true) (hx:X pre)
 (h1:gF (gT (cg pre 0 ops).toArray late 0 (cg pre 0 ops)).toArray (cE (gT (cg pre 0 ops).toArray late 0 (cg pre 0 ops)) []) 0 (gT (cg pre 0 ops).toArray late 0 (cg pre 0 ops))=true)
 (h2:mH (cE (gT (cg pre 0 ops).toArray late 0 (cg pre 0 ops)) []) 0 ops=fs) (h:A none fs):C3 ops A X B1 B2 B3:=
 ⟨.inr<|.inr ⟨none,pre,late,fs,.inr ⟨hp,hs,hl,.inl ⟨rfl,hx⟩⟩,⟨⟨h1⟩,h2⟩,h⟩⟩
theorem Py {ops:List Oper} {A:Option Nat→List Bool→Prop} {X:List Nat→Prop} {B1:OT→St→Prop} {B2:St→Prop} {B3:List Nd→List St→Prop} (pre:List Nat) (fs:List Bool) (hp:iH ops.toArray [] pre=true) (hs:mZ ops.toArray=true) (hx:X pre)
 (h1:gF (cg pre 0 ops).toArray (cE (cg pre 0 ops) []) 0 (cg pre 0 ops)=true) (h2:mH (cE (cg pre 0 ops) []) 0 ops=fs) (h:A none fs):C3 ops A X B1 B2 B3:=
 ⟨.inr<|.inr ⟨none,pre,[],fs,.inr ⟨hp,hs,rfl,.inl ⟨rfl,hx⟩⟩,by rw [rV];exact ⟨⟨h1⟩,h2⟩,h⟩⟩
theorem C4 {ops:List Oper} {A:Option Nat→List Bool→Prop} {X:List Nat→Prop} {B1:OT→St→Prop} {B2:St→Prop} {B3:List Nd→List St→Prop} (pre:List Nat) (tr:OT) (s1:St) (hp:iH ops.toArray [] pre=true) (hs:mZ ops.toArray=true) (hx:X pre) (hf:tr.fits pre ops=true) (h1:B1 tr s1) (h2:B2 s1):C3 ops A X B1 B2 B3:=
 ⟨.inl ⟨pre,tr,s1,⟨hp,hs,hx⟩,hf,h1,h2⟩⟩
theorem UF {ops:List Oper} {A:Option Nat→List Bool→Prop} {X:List Nat→Prop} {B1:OT→St→Prop} {B2:St→Prop} {B3:List Nd→List St→Prop} (pl:List Nd) (S:List St) {s1:St} (hf:FJ ops.toArray pl=true) (h3:B3 pl S) (h1:S[pl.length]?=some s1) (h2:B2 s1):C3 ops A X B1 B2 B3:=
 ⟨.inr<|.inl ⟨pl,S,s1,hf,h3,h1,h2⟩⟩
section
variable (t:Th) (FC:Nat→List AV→List ar→ff→List ar→Prop) (T:Nat→Option TI) (G:Nat→Option (List D)) (N:Nat)
def stepT (o:Oper) (s:St) (K:AV→List ar→Prop) (Q:Ex→St→Prop):Prop:=
 match o.op with
 |.pick c a b=>match (bU G s.sl c).aM with
  |.d (.bool p)=>((bU G s.sl c).ok∧LK p (bU G s.sl a).ok (bU G s.sl b).ok)∧K (Es t p (bU G s.sl a).aM (bU G s.sl b).aM) s.bx
  |_=>False
 |.call {callee:=.value f,args,..}=>match mg (bU G s.sl f).aM (args.toList.map fun x=>(bU G s.sl x).aM) with
  |some (i,as)=>qM FC ((bU G s.sl f).ok∧c7 (fB G s.sl args.toList)) i as (qL t s.bx as) s.bx (fun v bx=>K v bx) (fun v bx=>Q (.panic v) ⟨[],bx⟩)
  |none=>False
 |.panic x=>match (bU G s.sl x).aM with
  |.sG ty v=>(bU G s.sl x).ok∧Q (.panic (.sG ty v)) ⟨[],s.bx⟩
  |_=>False
 |.range ty x=>match T ty with
  |some ti=>match ti.kd,(bU G s.sl x).aM with
   |.str,.d (.str str)=>(bU G s.sl x).ok∧K (.ptr s.bx.length 0) (s.bx++[.it str 0])
   |_,_=>False
  |none=>False
 |.next it true=>match (bU G s.sl it).aM with
  |.ptr b 0=>match s.bx[b]? with
   |some (.it str pos)=>(bU G s.sl it).ok∧OC str pos (fun c wd=>K (.dA [.d (.bool true),.d (.int .i64 (t _ fun _=>pos)),.d (.int .i32 (t _ fun _=>c))]) (s.bx.set b (.it str (t _ fun _=>pos+wd)))) (fun _=>K (.dA [.d (.bool false)]) s.bx)
   |_=>False
  |_=>False
 |.binOp .eql ty x (.const (.slice none 0 0)) _=>match T ty,Mz (bU G s.sl x).aM with
  |some ti,some IS=>match ti.kd with
   |.slice _=>(bU G s.sl x).ok∧Ll (t Prop fun _=>IS) (fun b=>K (.d (.bool b)) s.bx)
   |_=>False
  |_,_=>False
 |.binOp .neq ty x (.const (.slice none 0 0)) _=>match T ty,Mz (bU G s.sl x).aM with
  |some ti,some IS=>match ti.kd with
   |.slice _=>(bU G s.sl x).ok∧Ll (t Prop fun _=>IS) (fun b=>K (.d (.bool (t _ fun _=>!b))) s.bx)
   |_=>False
  |_,_=>False
 |.makeMap ty none=>match T ty with
  |some ti=>match ti.kd with
   |.map _ e=>match T e with
    |some te=>K (.zB s.bx.length) (s.bx++[.mp te.kd.isAgg []])
    |none=>False
   |_=>False
  |none=>False
 |.lookup ty m k Cb=>match zH T ty (bU G s.sl m).aM s.bx,(bU G s.sl k).aM with
  |some (tk,te,ag,es),.d kd=>IY true (((bU G s.sl m).ok∧(bU G s.sl k).ok)∧(t Prop fun _=>wj tk te ag es kd)) (t _ fun _=>wi es kd) (oG te Cb (fun v=>K v s.bx))
  |_,_=>False
 |.mapUpdate ty m k x=>match D3 T ty (bU G s.sl m).aM s.bx,(bU G s.sl k).aM,(bU G s.sl x).aM.cells? with
  |some (b,tk,te,ag,es),.d kd,some vs=>match cA vs,AF t s.bx vs with
   |true,some (c,ds)=>(((bU G s.sl m).ok∧(bU G s.sl k).ok∧(bU G s.sl x).ok)∧c∧(t Prop fun _=>wj tk te ag es kd)∧Nat.beq ds.length te.size=true∧(bU G s.sl x).aM.isAgg=ag)∧K .any (s.bx.set b (.mp ag (t _ fun _=>sI es kd ds)))
   |_,_=>False
  |_,_,_=>False
 |.load ty a=>
  match rowAt t (bU G s.sl a).aM s.bx with
  |some (c,ds,j)=>Pu true ((bU G s.sl a).ok∧c) ds (fun ds=>match T ty with
   |some ti=>match cC ti.kd.isAgg ti.size ((ds.drop j).map .d) with
    |some v=>K v s.bx
    |none=>False
   |none=>False)
  |none=>match Xa t T (fun x=>(bU G s.sl x).aM) (.load ty a) s.bx with
   |some ⟨c,v,b⟩=>(c7 (fB G s.sl (Op.load ty a).operands.toList)∧c)∧K v (dn s.bx b)
   |none=>False
 |op=>
  match (match op with|.indexAddr ty x i=>Pw t T ty (bU G s.sl x).aM (bU G s.sl i).aM|_=>none) with
  |some (c,ds)=>nQ true (c7 (fB G s.sl op.operands.toList)∧c) ds (fun ds=>K (.ep ds) s.bx)
  |none=>match Xa t T (fun x=>(bU G s.sl x).aM) op s.bx with
   |some ⟨c,v,b⟩=>bif GM (fun x=>(bU G s.sl x).aM) op then Pv (c7 (fB G s.sl op.operands.toList)∧c) v (dn s.bx b) K
    else (c7 (fB G s.sl op.operands.toList)∧c)∧K v (dn s.bx b)
   |none=>False
def nE (dr g:Bool) (o:Oper) (s:St) (K:AV→Prop):Prop:=
 match o.op with
 |.pick c a b=>match (bU G s.sl c).aM with
  |.d (.bool p)=>wK g ((bU G s.sl c).ok∧LK p (bU G s.sl a).ok (bU G s.sl b).ok)∧K (Es t p (bU G s.sl a).aM (bU G s.sl b).aM)
  |_=>False
 |.call {callee:=.value f,args,..}=>match mg (bU G s.sl f).aM (args.toList.map fun x=>(bU G s.sl x).aM) with
  |some (i,as)=>oU FC dr g ((bU G s.sl f).ok∧c7 (fB G s.sl args.toList)) i as s.bx (qL t s.bx as) (fun v=>K v)
  |none=>False
 |.call {callee:=.invoke r nm,args,..}=>match Vs T (bU G s.sl r).aM with
  |some (n,i,v)=>UD n nm (oU FC true g ((bU G s.sl r).ok∧c7 (fB G s.sl args.toList)) i (v::(args.toList.map fun x=>(bU G s.sl x).aM)) s.bx (qL t s.bx (v::(args.toList.map fun x=>(bU G s.sl x).aM))) (fun v=>K v))
  |none=>False
 |.load ty a=>
  match rowAt t (bU G s.sl a).aM s.bx with
  |some (c,ds,j)=>Pu g ((bU G s.sl a).ok∧c) ds (fun ds=>match T ty with
   |some ti=>match cC ti.kd.isAgg ti.size ((ds.drop j).map .d) with
    |some v=>K v
    |none=>False
   |none=>False)
  |none=>match Xa t T (fun x=>(bU G s.sl x).aM) (.load ty a) s.bx with
   |some ⟨c,v,none⟩=>wK g (c7 (fB G s.sl (Op.load ty a).operands.toList)∧c)∧K v
   |_=>False
 |op=>
  match (match op with|.indexAddr ty x i=>Pw t T ty (bU G s.sl x).aM (bU G s.sl i).aM|_=>none) with
  |some (c,ds)=>nQ g (c7 (fB G s.sl op.operands.toList)∧c) ds (fun ds=>K (.ep ds))
  |none=>match Xa t T (fun x=>(bU G s.sl x).aM) op s.bx with
   |some ⟨c,v,none⟩=>bif GM (fun x=>(bU G s.sl x).aM) op then UB g (c7 (fB G s.sl op.operands.toList)∧c) v K
    else wK g (c7 (fB G s.sl op.operands.toList)∧c)∧K v
   |_=>match Vq t T (fun x=>(bU G s.sl x).aM) op with
    |some (c,es)=>wK g (c7 (fB G s.sl op.operands.toList)∧c)∧K (.d (.sl es))
    |none=>False
def oe (sl:List (Nat×AV)) (ops:List Oper) (j:Nat) (want:Bool):Option Bool:=
 match ops[j]? with
 |some o=>match o.dst with
  |some u=>match fP u sl with
   |.d (.bool q)=>some (bif want then q else t _ fun _=>!q)
   |.cond g (.d (.bool q))=>some (t _ fun _=>g&&(bif want then q else !q))
   |_=>none
  |none=>none
 |none=>none
def Jz (ops:List Oper):List Oper→(Ex→St→Prop)→St→Prop
 |[],Q,s=>Q .normal s
 |o::rest,Q,s=>bif fK N o.dst then
  match o.guard with
  |none=>stepT t FC T G o s (fun v bx=>Jz ops rest Q ⟨dQ o.dst v s.sl,bx⟩) Q
  |some (j,want)=>match oe t s.sl ops j want with
   |some g=>nE t FC T G false g o s (fun v=>Jz ops rest Q ⟨dQ o.dst (.cond g v) s.sl,s.bx⟩)
   |none=>False
  else False
def Pz (o:Oper) (sl:List (Nat×AV)) (gU:List ar) (x:Nat) (K:AV→ar→Prop):Prop:=
 match o.op with
 |.call {callee:=.value f,args,..}=>match mg (bU G sl f).aM (args.toList.map fun x=>(bU G sl x).aM) with
  |some (i,as)=>UC FC ((bU G sl f).ok∧c7 (fB G sl args.toList)) i as (qL t gU as) gU[x]? x K
  |none=>False
 |_=>False
def sX (ops:List Oper) (base:Nat):List Bool→List ar→Nat→List Oper→(Ex→St→Prop)→St→Prop
 |_,_,_,[],Q,s=>Q .normal s
 |[],_,_,_::_,_,_=>False
 |f::fs,gU,k,o::rest,Q,s=>bif fK N o.dst then
  bif f then match o.guard with
   |none=>stepT t FC T G o s (fun v bx=>sX ops base fs bx k rest Q ⟨dQ o.dst v s.sl,bx⟩) Q
   |some (j,want)=>match oe t s.sl ops j want with
    |some g=>nE t FC T G true g o s (fun v=>sX ops base fs s.bx k rest Q ⟨dQ o.dst (.cond g v) s.sl,s.bx⟩)
    |none=>False
  else match gY T G s.sl o with
   |some cs=>match gU[base+k]? with
    |some .bt=>sX ops base fs gU (k+1) rest Q ⟨dQ o.dst (.ptr (base+k) 0) s.sl,s.bx.set (base+k) (.var cs)⟩
    |_=>False
   |none=>match o.guard with
    |none=>bif Px o.op then nE t FC T G true true o ⟨s.sl,gU⟩ (fun v=>sX ops base fs gU k rest Q ⟨dQ o.dst v s.sl,s.bx⟩)∨
     Pz t FC G o s.sl gU (base+k) (fun v B=>sX ops base fs gU (k+1) rest Q ⟨dQ o.dst v s.sl,s.bx.set (base+k) B⟩)
     else nE t FC T G true true o ⟨s.sl,gU⟩ (fun v=>sX ops base fs gU k rest Q ⟨dQ o.dst v s.sl,s.bx⟩)
    |some (j,want)=>match oe t s.sl ops j want with
     |some g=>nE t FC T G true g o ⟨s.sl,gU⟩ (fun v=>sX ops base fs gU k rest Q ⟨dQ o.dst (.cond g v) s.sl,s.bx⟩)
     |none=>False
  else False
def Eu (i:Nat) (s:St):Option (Prop×St):=match XF t s.bx (fP i s.sl) with
 |some (c,y)=>some (c,⟨put i y s.sl,(fP i s.sl).cz s.bx⟩)
 |none=>none
def PA (k:Option Nat) (s:St) (K:St→Prop):Prop:=match k with
 |none=>K s
 |some i=>match Eu t i s with
  |some (c,s1)=>c∧K s1
  |none=>False
def tO (ops:List Oper) (i:Nat) (K:St→Prop) (Q:Ex→St→Prop) (s:St):Prop:=match ops[i]? with
 |some o=>bif fK N o.dst then match o.guard with
  |none=>stepT t FC T G o s (fun v bx=>K ⟨dQ o.dst v s.sl,bx⟩) Q
  |some (j,want)=>match oe t s.sl ops j want with
   |some g=>wh (.d (.bool g)) (fun _=>stepT t FC T G o s (fun v bx=>K ⟨dQ o.dst (.cond true v) s.sl,bx⟩) Q) (fun _=>K ⟨dQ o.dst (.cond false .any) s.sl,s.bx⟩)
   |none=>False
  else False
 |none=>False
def GN (ops:List Oper) (Q:Ex→St→Prop) (R:St→Prop):OT→St→Prop
 |.done,s=>R s
 |.one i o,s=>tO t FC T G N ops i (GN ops Q R o) Q s
 |.more i o r,s=>tO t FC T G N ops i (GN ops Q R o) Q s∧GN ops Q R r s
inductive vg (ops:List Oper) (Q:Ex→St→Prop) (S:List St) (s:St):List (Nat×Nat)→Prop
 |nil:vg ops Q S s []
 |cons {p i:Nat} {r:List (Nat×Nat)} {s0:St} (hs:S[p]?=some s0) (h:tO t FC T G N ops i (fun s1=>(⟨Ch s1.sl,s1.bx⟩:St)=s) Q s0) (hr:vg ops Q S s r):vg ops Q S s ((p,i)::r)
inductive AK (ops:List Oper) (Q:Ex→St→Prop) (S:List St):Nat→List Nd→Prop
 |nil {k:Nat}:AK ops Q S k []
 |cons {k:Nat} {nd:Nd} {r:List Nd} {s:St} (hs:S[k]?=some s) (hp:vg t FC T G N ops Q S s nd.ps) (hr:AK ops Q S (k+1) r):AK ops Q S k (nd::r)
structure Vt (ops:List Oper) (Q:Ex→St→Prop) (s:St) (pl:List Nd) (S:List St):Prop where
 first:S[0]?=some s
 all:AK t FC T G N ops Q S 1 pl
def LL (ops:List Oper) (Q:Ex→St→Prop) (s:St):Prop:=
 C3 ops (fun k fs=>PA t k s fun s=>sX t FC T G N ops s.bx.length fs (s.bx++List.replicate (oH ops) .bt) 0 ops Q ⟨s.sl,s.bx++List.replicate (oH ops) .bt⟩) (fun pre=>CE G N ops pre s.sl=true)
  (fun tr s1=>GN t FC T G N ops Q (fun s=>(⟨Ch s.sl,s.bx⟩:St)=s1) tr s) (fun s1=>Q .normal s1) (fun pl S=>Vt t FC T G N ops Q s pl S)
end
section
variable {FC:Nat→List AV→List ar→ff→List ar→Prop} {T:Nat→Option TI} {G:Nat→Option (List D)} {N:Nat}
theorem oV (sl:List (Nat×AV)) (ops:List Oper) (j:Nat) (want:Bool):oe t0 sl ops j want=guardOf sl ops j want:=by
 unfold oe guardOf;rfl
theorem LM {ti:TI} {a:AV} {bx:List ar} {c:Prop} {ds:List D} {j:Nat} (h:rowAt t0 a bx=some (c,ds,j)) (hc:c) {v:AV} (hv:cC ti.kd.isAgg ti.size ((ds.drop j).map .d)=some v):oc (pL ti a bx) v none:=by
 unfold rowAt at h
 split at h
 ·rename_i b sz i j'
  split at h
  ·rename_i s es hb
   cases hs:Nat.beq s sz with
   |false=>simp [hs] at h
   |true=>
   simp only [hs,cond_true,osI,Prod.mk.injEq] at h
   obtain ⟨rfl,rfl,rfl⟩:=h
   have RN:cC ti.kd.isAgg ti.size (((es.getD i []).drop j').map .d)=some v:=hv
   simp only [pL,hb,RN]
   exact ⟨_,rfl,Nat.eq_of_beq_eq_true hs,hc⟩
  ·rename_i s es hb
   cases hs:Nat.beq s sz with
   |false=>simp [hs] at h
   |true=>
   simp only [hs,cond_true,osI,Prod.mk.injEq] at h
   obtain ⟨rfl,rfl,rfl⟩:=h
   have RN:cC ti.kd.isAgg ti.size (((es.getD i []).drop j').map .d)=some v:=hv
   simp only [pL,hb,RN]
   exact ⟨_,rfl,Nat.eq_of_beq_eq_true hs,hc⟩
  simp at h
 simp at h
theorem LN (T:Nat→Option TI) (G:Nat→Option (List D)) (s:St) (op:Op):(match op with|.indexAddr ty x i=>Pw t0 T ty (bU G s.sl x).aM (bU G s.sl i).aM|_=>none)=(match op with|.indexAddr ty x i=>zG T ty (bU G s.sl x).aM (bU G s.sl i).aM|_=>none):=by
 cases op<;>first|rfl|exact Vp
theorem SD {kX:Prop} {f:Nat} {args:List AV} {bx:List ar} {K K':AV→List ar→Prop} {Kp:AV→List ar→Prop} (hK:∀v bx,K v bx→K' v bx)
 (h:qM FC kX f args (qL t0 bx args) bx K Kp):OA FC kX f args bx K' Kp:=by
 obtain ⟨h0,h|h⟩:=h
 ·obtain ⟨c,args',h1,h2,h3,h4⟩:=h
  refine ⟨h0,.inl ⟨args',gu h1 h2,h3,?_⟩⟩
  rcases h4 with ⟨v,k1,k2,k3⟩|⟨sz,n,es,k1,k2,k3⟩
  ·exact .inl ⟨v,k1,k2,hK _ _ k3⟩
  exact .inr ⟨sz,n,es,k1,k2,hK _ _ k3⟩
 obtain ⟨args',sP,res,jk,h1,h2,h3⟩:=h
 refine ⟨h0,.inr ⟨args',sP,res,jk,?_,h2,?_⟩⟩
 ·rcases h1 with h1|⟨⟨c,k1,k2⟩,k3⟩
  ·exact .inl h1
  exact .inr ⟨gu k1 k2,k3⟩
 cases res with
 |ret v=>exact hK _ _ h3
 |My v=>exact h3
theorem GO {te:TI} {Cb:Bool} {K K':AV→Prop} (hK:∀v,K v→K' v) {o:Option (List D)} (h:oG te Cb K o):oG te Cb K' o:=by
 cases o with
 |none=>
  simp only [oG] at h ⊢
  split at h
  ·exact hK _ h
  exact h.elim
 |some ds=>
  simp only [oG] at h ⊢
  split at h
  ·exact hK _ h
  exact h.elim
theorem vi {o:Oper} {s:St} {K K':AV→List ar→Prop} {Q:Ex→St→Prop} (hK:∀v bx,K v bx→K' v bx) (h:stepT t0 FC T G o s K Q):qi FC T G o s K' Q:=by
 unfold stepT at h
 unfold qi
 split at h
 ·rename_i c a b ho
  simp only [ho]
  split at h
  ·rename_i p hc
   simp only [hc]
   rw [GK] at h
   exact ⟨⟨h.1.1,h.1.2.ok⟩,hK _ _ h.2⟩
  exact h.elim
 ·rename_i f args ats ho
  simp only [ho]
  split at h
  ·rename_i i as hf
   simp only [hf]
   exact SD hK h
  exact h.elim
 ·rename_i x ho
  simp only [ho]
  split at h
  ·rename_i ty v hx;simp only [hx];exact h
  exact h.elim
 ·rename_i ty x ho
  simp only [ho]
  split at h
  ·rename_i ti ht
   simp only [ht]
   split at h
   ·rename_i str hk hx;simp only [hk,hx];exact ⟨h.1,hK _ _ h.2⟩
   exact h.elim
  exact h.elim
 ·rename_i it ho
  simp only [ho]
  split at h
  ·rename_i b hx
   simp only [hx]
   split at h
   ·rename_i str pos hb
    simp only [hb]
    exact ⟨h.1,⟨fun hp=>hK _ _ (h.2.ok.1 hp),fun hp=>hK _ _ (h.2.ok.2 hp)⟩⟩
   exact h.elim
  exact h.elim
 ·rename_i ty x t2 ho
  simp only [ho]
  split at h
  ·rename_i ti IS ht he
   simp only [ht,he]
   split at h
   ·rename_i e hk;simp only [hk];exact ⟨h.1,⟨fun b hb=>hK _ _ (h.2.ok b hb)⟩⟩
   exact h.elim
  exact h.elim
 ·rename_i ty x t2 ho
  simp only [ho]
  split at h
  ·rename_i ti IS ht he
   simp only [ht,he]
   split at h
   ·rename_i e hk;simp only [hk];exact ⟨h.1,⟨fun b hb=>hK _ _ (h.2.ok b hb)⟩⟩
   exact h.elim
  exact h.elim
 ·rename_i ty ho
  simp only [ho]
  split at h
  ·rename_i ti ht
   simp only [ht]
   split at h
   ·rename_i mk me hk
    simp only [hk]
    split at h
    ·rename_i te hte
     simp only [hte]
     exact hK _ _ h
    exact h.elim
   exact h.elim
  exact h.elim
 ·rename_i ty m k Cb ho
  simp only [ho]
  split at h
  ·rename_i tk te ag es kd hm hk
   simp only [hm,hk]
   obtain ⟨o',hg,hk⟩:=h
   exact ⟨o',hg,GO (fun v hv=>hK _ _ hv) hk⟩
  exact h.elim
 ·rename_i ty m k x ho
  simp only [ho]
  split at h
  ·rename_i b tk te ag es kd vs hm hk hc
   simp only [hm,hk,hc]
   split at h
   ·rename_i c dsv Jh Xp
    obtain ⟨⟨g1,g2,g3,g4,g5⟩,g6⟩:=h
    simp only [Jh,ve Xp g2]
    exact ⟨⟨g1,g3,Nat.eq_of_beq_eq_true g4,g5⟩,hK _ _ g6⟩
   exact h.elim
  exact h.elim
 ·rename_i ty a ho
  simp only [ho]
  split at h
  ·rename_i c ds j hr
   obtain ⟨ds',hg,hk⟩:=h
   obtain ⟨⟨h1,h2⟩,rfl⟩:=hg rfl
   split at hk
   ·rename_i ti ht
    split at hk
    ·rename_i v hv
     obtain ⟨c',e,wg⟩:=LM hr h2 hv
     simp only [Fw,iG,cond_false,lm,ht,e]
     exact ⟨⟨⟨h1,trv⟩,wg⟩,hK _ _ hk⟩
    exact hk.elim
   exact hk.elim
  split at h
  ·rename_i c v b hr
   obtain ⟨⟨h1,h2⟩,h3⟩:=h
   obtain ⟨c',e,wg⟩:=LI hr h2
   simp only [e]
   exact ⟨⟨h1,wg⟩,hK _ _ h3⟩
  exact h.elim
 rename_i e1 e2 e3 e4 e5 e6 e7 m1 m2 m3 e8
 split
 ·rename_i ho;exact absurd ho (e1 _ _ _)
 ·rename_i ho;exact absurd ho (e2 _ _ _)
 ·rename_i ho;exact absurd ho (e3 _)
 ·rename_i ho;exact absurd ho (e4 _ _)
 ·rename_i ho;exact absurd ho (e5 _)
 ·rename_i ho;exact absurd ho (e6 _ _ _)
 ·rename_i ho;exact absurd ho (e7 _ _ _)
 ·rename_i ho;exact absurd ho (m1 _)
 ·rename_i ho;exact absurd ho (m2 _ _ _ _)
 ·rename_i ho;exact absurd ho (m3 _ _ _ _)
 have hm:=LN T G s o.op
 show match (match o.op with|.indexAddr ty x i=>zG T ty (bU G s.sl x).aM (bU G s.sl i).aM|_=>none) with
  |some (c,ds)=>nQ true (c7 (fB G s.sl o.op.operands.toList)∧c) ds (fun ds=>K' (.ep ds) s.bx)
  |none=>match Fw T (fun x=>(bU G s.sl x).aM) o.op s.bx with
   |some ⟨c,v,b⟩=>(c7 (fB G s.sl o.op.operands.toList)∧c)∧K' v (dn s.bx b)
   |none=>False
 split at h
 ·rename_i c ds hi
  rw [hm] at hi
  simp only [hi]
  obtain ⟨ds',hg,hk⟩:=h
  exact ⟨ds',hg,hK _ _ hk⟩
 rename_i hi
 rw [hm] at hi
 simp only [hi]
 split at h
 ·rename_i c v b hr
  have h:(c7 (fB G s.sl o.op.operands.toList)∧c)∧K v (dn s.bx b):=by
   generalize GM _ _=q at h
   cases q with
   |false=>exact h
   |true=>obtain ⟨v',aF,k1,rfl,rfl,k2⟩:=h;exact ⟨k1,k2⟩
  obtain ⟨⟨h1,h2⟩,h3⟩:=h
  obtain ⟨c',e,wg⟩:=LI hr h2
  simp only [e]
  exact ⟨⟨h1,wg⟩,hK _ _ h3⟩
 exact h.elim
theorem GP {dr g:Bool} {o:Oper} {s:St} {K:AV→Prop} (h:nE t0 FC T G dr g o s K):∃v,K v:=by
 unfold nE at h
 split at h
 ·split at h
  ·exact ⟨_,h.2⟩
  exact h.elim
 ·split at h
  ·obtain ⟨_,v,_,hK⟩|⟨v,_,hK⟩:=h
   ·exact ⟨v,hK⟩
   exact ⟨v,hK⟩
  exact h.elim
 ·split at h
  ·obtain ⟨_,⟨_,v,_,hK⟩|⟨v,_,hK⟩⟩:=h
   ·exact ⟨v,hK⟩
   exact ⟨v,hK⟩
  exact h.elim
 ·split at h
  ·obtain ⟨ds',_,hk⟩:=h
   split at hk
   ·split at hk
    ·exact ⟨_,hk⟩
    exact hk.elim
   exact hk.elim
  split at h
  ·exact ⟨_,h.2⟩
  exact h.elim
 split at h
 ·obtain ⟨ds,_,hK⟩:=h;exact ⟨_,hK⟩
 split at h
 ·generalize GM _ _=q at h
  cases q with
  |false=>exact ⟨_,h.2⟩
  |true=>obtain ⟨v',_,k2⟩:=h;exact ⟨_,k2⟩
 split at h
 ·exact ⟨_,h.2⟩
 exact h.elim
theorem C5 {dr g:Bool} {o:Oper} {s:St} {K K':AV→Prop} (hK:∀v,K v→K' v) (h:nE t0 FC T G dr g o s K):stepG FC T G g o s K'∨dr=false∧tw FC G g o s K':=by
 cases g with
 |false=>obtain ⟨v,h⟩:=GP h;exact .inl (.inl ⟨rfl,v,hK v h⟩)
 |true=>
 by_cases UG:∃(f:Operand) (args:Array Operand) (ats:Array TypeId) (i:Nat) (as:List AV),o.op=.call {callee:=.value f,args:=args,argTypes:=ats}∧mg (bU G s.sl f).aM (args.toList.map fun x=>(bU G s.sl x).aM)=some (i,as)∧
  dr=false∧∃v,(true=true→((bU G s.sl f).ok∧c7 (fB G s.sl args.toList))∧FC i as s.bx (.ret v) s.bx)∧K v
 ·obtain ⟨f,args,ats,i,as,ho,hf,hd,v,h1,h2⟩:=UG
  refine .inr ⟨hd,?_⟩
  unfold tw
  simp only [ho,hf]
  exact ⟨v,fun _=>h1 rfl,hK _ h2⟩
 by_cases XG:∃c es,Cg T (fun x=>(bU G s.sl x).aM) o.op=some (c,es)∧(c7 (fB G s.sl o.op.operands.toList)∧c)∧K (.d (.sl es))
 ·obtain ⟨c,es,h1,h2,h3⟩:=XG
  exact .inl (.inr (.inr ⟨c,es,h1,fun _=>h2,hK _ h3⟩))
 refine .inl (.inr (.inl ?_))
 unfold nE at h
 unfold wm
 split at h
 ·rename_i c a b ho
  simp only [ho]
  split at h
  ·rename_i p hc
   simp only [hc]
   rw [GK] at h
   have h1:true=true→(bU G s.sl c).ok∧(p=true→(bU G s.sl a).ok)∧(p=false→(bU G s.sl b).ok):=fun e=>⟨(h.1.ok e).1,(h.1.ok e).2.ok⟩
   exact ⟨fun _=>h1 rfl,hK _ h.2⟩
  exact h.elim
 ·rename_i f args ats ho
  simp only [ho]
  split at h
  ·rename_i i as hf
   simp only [hf]
   obtain ⟨hd,v,h1,h2⟩|⟨v,h1,h2⟩:=h
   ·exact absurd ⟨f,args,ats,i,as,ho,hf,hd,v,h1,h2⟩ UG
   refine ⟨v,fun hg=>?_,hK _ h2⟩
   obtain ⟨k1,args',jv,⟨c,k2,k3⟩,k4,k5,k6⟩:=h1 hg
   exact ⟨k1,args',jv,gu k2 k3,k4,k5,k6⟩
  exact h.elim
 ·rename_i f nm args ats ho
  simp only [ho]
  split at h
  ·rename_i n i v0 hf
   obtain ⟨rfl,h⟩:=h
   simp only [SC _ hf]
   obtain ⟨hd,v,h1,h2⟩|⟨v,h1,h2⟩:=h
   ·cases hd
   refine ⟨v,fun hg=>?_,hK _ h2⟩
   obtain ⟨k1,args',jv,⟨c,k2,k3⟩,k4,k5,k6⟩:=h1 hg
   exact ⟨k1,args',jv,gu k2 k3,k4,k5,k6⟩
  exact h.elim
 ·rename_i ty a ho
  simp only [ho]
  split at h
  ·rename_i c ds j hr
   obtain ⟨ds',hg,hk⟩:=h
   obtain ⟨⟨h1,h2⟩,rfl⟩:=hg rfl
   split at hk
   ·rename_i ti ht
    split at hk
    ·rename_i v hv
     obtain ⟨c',e,wg⟩:=LM hr h2 hv
     simp only [Fw,iG,cond_false,lm,ht,e]
     exact ⟨fun _=>⟨⟨h1,trv⟩,wg⟩,hK _ hk⟩
    exact hk.elim
   exact hk.elim
  split at h
  ·rename_i c v hr
   obtain ⟨h1,h3⟩:=h
   have h1:true=true→c7 (fB G s.sl (Op.load ty a).operands.toList)∧c:=h1.ok
   obtain ⟨c',e,wg⟩:=LI hr (h1 rfl).2
   simp only [e]
   exact ⟨fun _=>⟨(h1 rfl).1,wg⟩,hK _ h3⟩
  exact h.elim
 rename_i e1 e2 e2' e3
 split
 ·rename_i ho;exact absurd ho (e1 _ _ _)
 ·rename_i ho;exact absurd ho (e2 _ _ _)
 ·rename_i ho;exact absurd ho (e2' _ _ _ _)
 have hm:=LN T G s o.op
 split at h
 ·rename_i c ds hi
  rw [hm] at hi
  show match (match o.op with|.indexAddr ty x i=>zG T ty (bU G s.sl x).aM (bU G s.sl i).aM|_=>none) with
   |some (c,ds)=>nQ true (c7 (fB G s.sl o.op.operands.toList)∧c) ds (fun ds=>K' (.ep ds))
   |none=>match Fw T (fun x=>(bU G s.sl x).aM) o.op s.bx with
    |some ⟨c,v,none⟩=>(true=true→c7 (fB G s.sl o.op.operands.toList)∧c)∧K' v
    |_=>False
  simp only [hi]
  obtain ⟨ds',hg,hk⟩:=h
  exact ⟨ds',hg,hK _ hk⟩
 rename_i hi
 rw [hm] at hi
 show match (match o.op with|.indexAddr ty x i=>zG T ty (bU G s.sl x).aM (bU G s.sl i).aM|_=>none) with
  |some (c,ds)=>nQ true (c7 (fB G s.sl o.op.operands.toList)∧c) ds (fun ds=>K' (.ep ds))
  |none=>match Fw T (fun x=>(bU G s.sl x).aM) o.op s.bx with
   |some ⟨c,v,none⟩=>(true=true→c7 (fB G s.sl o.op.operands.toList)∧c)∧K' v
   |_=>False
 simp only [hi]
 split at h
 ·rename_i c v hr
  have h:wK true (c7 (fB G s.sl o.op.operands.toList)∧c)∧K v:=by
   generalize GM _ _=q at h
   cases q with
   |false=>exact h
   |true=>obtain ⟨v',k0,k2⟩:=h;obtain ⟨k1,rfl⟩:=k0 rfl;exact ⟨⟨fun _=>k1⟩,k2⟩
  obtain ⟨h1,h3⟩:=h
  have h1:true=true→c7 (fB G s.sl o.op.operands.toList)∧c:=h1.ok
  obtain ⟨c',e,wg⟩:=LI hr (h1 rfl).2
  simp only [e]
  exact ⟨fun _=>⟨(h1 rfl).1,wg⟩,hK _ h3⟩
 split at h
 ·rename_i c es ha
  rw [Vr] at ha
  exact absurd ⟨c,es,ha,h.1.ok rfl,h.2⟩ XG
 exact h.elim
theorem vj {g:Bool} {o:Oper} {s:St} {K K':AV→Prop} (hK:∀v,K v→K' v) (h:nE t0 FC T G true g o s K):stepG FC T G g o s K':=by
 rcases C5 hK h with h|⟨h,_⟩
 ·exact h
 cases h
theorem Ev {ops:List Oper} {Q:Ex→St→Prop}:∀(l:List Oper) (s:St),Jz t0 FC T G N ops l Q s→FI FC T G N ops l Q s
 |[],_,h=>h
 |o::l,s,h=>by
  unfold Jz at h
  unfold FI
  cases hd:fK N o.dst with
  |false=>simp [hd] at h
  |true=>
  simp only [hd,cond_true] at h ⊢
  split at h
  ·rename_i hg
   simp only [hg]
   exact vi (fun v bx hK=>Ev l _ hK) h
  rename_i j want hg
  simp only [hg]
  rw [oV] at h
  split at h
  ·rename_i g IT
   simp only [IT]
   rcases C5 (fun v hK=>Ev l _ hK) h with h|⟨_,h⟩
   ·exact .inl h
   exact .inr h
  exact h.elim
theorem SE {o:Oper} {sl:List (Nat×AV)} {gU:List ar} {x:Nat} {K K':AV→ar→Prop} (hK:∀v B,K v B→K' v B) (h:Pz t0 FC G o sl gU x K):mh FC G o sl gU x K':=by
 unfold Pz at h
 split at h
 ·rename_i f args ats ho
  split at h
  ·rename_i i as hf
   obtain ⟨args',sz,n,es,h1,⟨c,h2,h3⟩,h4,h5,h6,h7,h8⟩:=h
   exact ⟨f,args,ats,i,as,args',sz,n,es,ho,hf,h1,gu h2 h3,h4,h5,h6,h7,hK _ _ h8⟩
  exact h.elim
 exact h.elim
theorem lD {ops:List Oper} {b:List Nat} {base:Nat} {Q:Ex→St→Prop}:∀(l:List Oper) (gU:List ar) (k i:Nat) (s:St),sX t0 FC T G N ops base (mH b i l) gU k l Q s→nS FC T G N ops b base gU k i l Q s
 |[],_,_,_,_,h=>h
 |o::l,gU,k,i,s,h=>by
  unfold mH sX at h
  unfold nS
  cases hd:fK N o.dst with
  |false=>simp [hd] at h
  |true=>
  simp only [hd,cond_true] at h ⊢
  cases hb:barrier b i with
  |true=>
   simp only [hb,cond_true] at h ⊢
   split at h
   ·rename_i hg
    simp only [hg]
    exact vi (fun v bx hK=>lD l _ _ _ _ hK) h
   rename_i j want hg
   simp only [hg]
   rw [oV] at h
   split at h
   ·rename_i g IT
    simp only [IT]
    exact vj (fun v hK=>lD l _ _ _ _ hK) h
   exact h.elim
  |false=>
   simp only [hb,cond_false] at h ⊢
   split at h
   ·rename_i cs zg
    simp only [zg]
    split at h
    ·rename_i hu
     simp only [hu]
     exact lD l _ _ _ _ h
    exact h.elim
   rename_i zg
   simp only [zg]
   split at h
   ·rename_i hg
    simp only [hg]
    cases R4:Px o.op with
    |false=>
     simp only [R4,cond_false] at h
     exact .inl (vj (fun v hK=>lD l _ _ _ _ hK) h)
    |true=>
     simp only [R4,cond_true] at h
     rcases h with h|h
     ·exact .inl (vj (fun v hK=>lD l _ _ _ _ hK) h)
     exact .inr (SE (fun v B hK=>lD l _ _ _ _ hK) h)
   rename_i j want hg
   simp only [hg]
   rw [oV] at h
   split at h
   ·rename_i g IT
    simp only [IT]
    exact vj (fun v hK=>lD l _ _ _ _ hK) h
   exact h.elim
theorem AL {ops:List Oper} {i:Nat} {K K':St→Prop} {Q:Ex→St→Prop} {s:St} (hK:∀s,K s→K' s) (h:tO t0 FC T G N ops i K Q s):xH FC T G N ops i K' Q s:=by
 unfold tO at h
 unfold xH
 cases ho:ops[i]? with
 |none=>rw [ho] at h;exact h.elim
 |some o=>
  rw [ho] at h
  simp only at h ⊢
  cases hd:fK N o.dst with
  |false=>rw [hd] at h;exact h.elim
  |true=>
   rw [hd] at h
   simp only [cond_true] at h ⊢
   cases hg:o.guard with
   |none=>
    rw [hg] at h
    simp only at h ⊢
    exact vi (fun v bx h=>hK _ h) h
   |some q=>
    obtain ⟨j,want⟩:=q
    rw [hg] at h
    simp only [oV] at h ⊢
    cases IT:guardOf s.sl ops j want with
    |none=>rw [IT] at h;exact h.elim
    |some g=>
     rw [IT] at h
     simp only at h ⊢
     obtain ⟨h⟩:=h
     exact ⟨⟨fun e=>vi (fun v bx h=>hK _ h) (h.1 e),fun e=>hK _ (h.2 e)⟩⟩
theorem zn {ops:List Oper} {Q:Ex→St→Prop} {R:St→Prop}:∀(tr:OT) (s:St),GN t0 FC T G N ops Q R tr s→MA FC T G N ops Q R tr s
 |.done,_,h=>h
 |.one i o,s,h=>AL (fun s h=>zn o s h) h
 |.more i o r,s,h=>⟨AL (fun s h=>zn o s h) h.1,zn r s h.2⟩
theorem LO {ops:List Oper} {Q:Ex→St→Prop} {S:List St} {s:St}:∀{l:List (Nat×Nat)},vg t0 FC T G N ops Q S s l→FK FC T G N ops Q S s l
 |_,.nil=>trivial
 |_,.cons hs h hr=>by
  refine ⟨?_,LO hr⟩
  rw [hs]
  exact AL (fun s h=>h) h
theorem PB {ops:List Oper} {Q:Ex→St→Prop} {S:List St}:∀{k:Nat} {l:List Nd},AK t0 FC T G N ops Q S k l→allM FC T G N ops Q S k l
 |_,_,.nil=>trivial
 |_,_,.cons hs hp hr=>by
  refine ⟨?_,PB hr⟩
  rw [hs]
  exact LO hp
theorem SF {ops:List Oper} {Q:Ex→St→Prop} {s:St} (h:LL t0 FC T G N ops Q s):OF FC T G N ops Q s∨∃i c s1,Eu t0 i s=some (c,s1)∧c∧OF FC T G N ops Q s1:=by
 obtain ⟨⟨pre,tr,s1,g1,g2,g3,g4⟩|⟨pl,S,s1,g1,⟨g2,g3⟩,g4,g5⟩|⟨k,pre,late,fs,h0,⟨h1,rfl⟩,h2⟩⟩:=h
 ·exact .inl (.inl ⟨pre,tr,s1,g1,g2,zn tr s g3,g4⟩)
 ·exact .inl (.inr (.inl ⟨pl,S,s1,g1,g2,g4,PB g3,g5⟩))
 cases k with
 |none=>
  refine .inl<|.inr<|.inr ⟨pre,late,h0.imp id ?_,h1,lD _ _ _ _ _ h2⟩
  rintro ⟨g1,g2,g3,⟨_,g4⟩|rfl⟩
  ·exact ⟨g1,g2,g3,g4⟩
  exact ⟨g1,g2,g3,rfl⟩
 |some i=>
  right
  simp only [PA] at h2
  split at h2
  ·rename_i c s1 hs
   refine ⟨i,c,s1,hs,h2.1,.inr<|.inr ⟨pre,late,?_,h1,lD _ _ _ _ _ h2.2⟩⟩
   rcases h0 with h0|⟨g1,g2,g3,⟨h0,_⟩|rfl⟩
   ·exact .inl h0
   ·cases h0
   exact .inr ⟨g1,g2,g3,rfl⟩
  exact h2.elim
end
end Dem
