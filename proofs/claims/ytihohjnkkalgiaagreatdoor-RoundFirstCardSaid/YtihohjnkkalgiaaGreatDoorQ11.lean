/- Parts of a proof, joined. -/
import Derived.Test.YtihohjnkkalgiaaGreatDoorQ10
set_option linter.all false
set_option maxRecDepth 100000
set_option maxHeartbeats 4000000
open Go
namespace Dem
section
variable (t:Th)
def WI (bx:List aB):AV→Option (Prop×AV)
 |.cl es=>some (True,.d (.sl es))
 |.ow b sz n=>match (AV.ow b sz n).RV t bx with
  |some (c,d)=>some (c,.d d)
  |none=>none
 |.vw b sz off n ca ex=>match (AV.vw b sz off n ca ex).xB t bx with
  |some (c,es)=>some (c,.d (.sl es))
  |none=>none
 |v=>some (True,v)
def OV (bx:List aB):List AV→Option (Prop×List AV)
 |[]=>some (True,[])
 |x::xs=>match WI t bx x,OV bx xs with
  |some (c,y),some (d,ys)=>some (c∧d,y::ys)
  |_,_=>none
def KZ (bx:List aB):AV→Option (Prop×AV)
 |.agg cs=>match OV t bx cs with
  |some (c,ys)=>some (c,.agg ys)
  |none=>none
 |v=>WI t bx v
def pZ (bx:List aB):List AV→Option (Prop×List AV)
 |[]=>some (True,[])
 |x::xs=>match KZ t bx x,pZ bx xs with
  |some (c,y),some (d,ys)=>some (c∧d,y::ys)
  |_,_=>none
def OW (bx:List aB):AV→Option (Prop×AV)
 |.dX vs=>match pZ t bx vs with
  |some (c,ys)=>some (c,.dX ys)
  |none=>none
 |v=>KZ t bx v
end
section
variable {bx:List aB}
theorem IU {x y:AV} {c:Prop} (h:WI t0 bx x=some (c,y)) (hc:c):fz bx x=some y:=by
 unfold WI at h
 split at h
 ·simp only [osI,Prod.mk.injEq] at h;obtain ⟨rfl,rfl⟩:=h;rfl
 ·rename_i b sz n
  split at h
  ·rename_i c' d h1
   simp only [osI,Prod.mk.injEq] at h;obtain ⟨rfl,rfl⟩:=h
   simp only [fz,OR h1 hc,Option.map_some]
  simp at h
 ·rename_i b sz off n ca ex
  split at h
  ·rename_i c' es h1
   simp only [osI,Prod.mk.injEq] at h;obtain ⟨rfl,rfl⟩:=h
   simp only [fz,j9 h1 hc,Option.map_some]
  simp at h
 rename_i h1 h2 h3
 simp only [osI,Prod.mk.injEq] at h;obtain ⟨rfl,rfl⟩:=h
 unfold fz;split
 ·exact absurd rfl (h1 _)
 ·exact absurd rfl (h2 _ _ _)
 ·exact absurd rfl (h3 _ _ _ _ _ _)
 rfl
theorem F6:∀{xs ys:List AV} {c:Prop},OV t0 bx xs=some (c,ys)→c→H8 bx xs=some ys
 |[],ys,c,h,_=>by simp [OV] at h;simp [H8,h.2]
 |x::xs,ys,c,h,hc=>by
  simp only [OV] at h
  split at h
  ·rename_i c1 y d ys' h1 h2
   simp only [osI,Prod.mk.injEq] at h
   obtain ⟨rfl,rfl⟩:=h
   simp [H8,IU h1 hc.1,F6 h2 hc.2]
  simp at h
theorem Ae {x y:AV} {c:Prop} (h:KZ t0 bx x=some (c,y)) (hc:c):pu bx x=some y:=by
 unfold KZ at h
 split at h
 ·split at h
  ·rename_i cs c' ys h1
   simp only [osI,Prod.mk.injEq] at h
   obtain ⟨rfl,rfl⟩:=h
   simp [pu,F6 h1 hc]
  simp at h
 rename_i h1
 unfold pu;split
 ·exact absurd rfl (h1 _)
 exact IU h hc
theorem gK:∀{xs ys:List AV} {c:Prop},pZ t0 bx xs=some (c,ys)→c→eX bx xs=some ys
 |[],ys,c,h,_=>by simp [pZ] at h;simp [eX,h.2]
 |x::xs,ys,c,h,hc=>by
  simp only [pZ] at h
  split at h
  ·rename_i c1 y d ys' h1 h2
   simp only [osI,Prod.mk.injEq] at h
   obtain ⟨rfl,rfl⟩:=h
   simp [eX,Ae h1 hc.1,gK h2 hc.2]
  simp at h
theorem IV {x y:AV} {c:Prop} (h:OW t0 bx x=some (c,y)) (hc:c):Ig bx x=some y:=by
 unfold OW at h
 split at h
 ·split at h
  ·rename_i cs c' ys h1
   simp only [osI,Prod.mk.injEq] at h
   obtain ⟨rfl,rfl⟩:=h
   simp [Ig,gK h1 hc]
  simp at h
 rename_i h1
 unfold Ig;split
 ·exact absurd rfl (h1 _)
 exact Ae h hc
end
structure o4 (FC:Nat→List AV→List aB→jN→List aB→Prop) (lD:Prop) (f:Nat) (args:List AV) (fz:Option (Prop×List AV)) (bx:List aB)
 (K:AV→List aB→Prop) (Kp:AV→List aB→Prop):Prop where
 ok:lD∧(
  (∃c args',fz=some (c,args')∧c∧AV.shut.mI args'=true∧
   (
    (∃v,FC f args' [] (.ret v) []∧(v.flat=true∨eX [] args=some args'∧v.shut=true)∧K v bx)∨
    (∃sz n es,FC f args' [] (.ret (.ow 0 sz n)) [.row sz es]∧((∀r∈es,∀x∈r,x.flat=true)∨eX [] args=some args')∧K (.ow bx.length sz n) (bx++[.row sz es]))))∨
  (∃args' pz res pE,(args'=args∧pz=bx∨(∃c,fz=some (c,args')∧c)∧pz=fy bx args)∧FC f args' pz res pE∧
   (match res with|.ret v=>K v pE|.LZ v=>Kp v pE)))
structure sS (FC:Nat→List AV→List aB→jN→List aB→Prop) (dr g:Bool) (lD:Prop) (f:Nat) (args:List AV) (bx:List aB) (fz:Option (Prop×List AV)) (K:AV→Prop):Prop where
 ok:(dr=false∧∃v,(g=true→lD∧FC f args bx (.ret v) bx)∧K v)∨∃v,(g=true→lD∧∃args' jO,(∃c,fz=some (c,args')∧c)∧AV.bS.dg jO args'=true∧(∃dt,dY dt jO jO=true∧(dt=true→eX [] args=some args'))∧
  (∀(i:Nat) (b:aB),jO[i]?=some b→b.born=true→∃b',bx[i]?=some b'∧b'.born=true∧(b.live=true→b'=b))∧FC f args' jO (.ret v) jO∧
  (v.flat=true∨eX [] args=some args'∧v.shut=true))∧K v
structure vW (g:Bool) (p:Prop):Prop where
 ok:g=true→p
structure K0 (p:Bool) (a b:Prop):Prop where
 ok:(p=true→a)∧(p=false→b)
theorem aj {p:Bool} {a b:Prop}:K0 p a b↔((p=true→a)∧(p=false→b)):=⟨fun h=>h.ok,fun h=>⟨h⟩⟩
structure Af (g:Bool) (c:Prop) (ds:List D) (K:List D→Prop):Prop where
 ok:∃ds',(g=true→c∧ds=ds')∧K ds'
structure OX (c:Prop) (v:AV) (bx:List aB) (K:AV→List aB→Prop):Prop where
 ok:∃v' aZ,c∧v=v'∧bx=aZ∧K v' aZ
structure TO (g:Bool) (c:Prop) (v:AV) (K:AV→Prop):Prop where
 ok:∃v',(g=true→c∧v=v')∧K v'
def F7 (ev:Operand→AV) (o:Op):Bool:=bif iU ev o then (match o with
 |.slice _ _ _ _ _=>true
 |.call {callee:=.builtin b,..}=>match b with
  |.copy=>true
  |.clear=>true
  |.append=>true
  |_=>false
 |_=>false) else false
def OY (t:Th) (T:Nat→Option TI) (ty:Nat) (x i:AV):Option (Prop×List D):=
 match T ty with
 |some ti=>match ti.kd,x,i with
  |.slice e,.d (.sl es),.d (.int _ z)=>match T e with
   |some te=>some (t Prop (fun _=>0≤z∧z<es.length∧(∀r∈es,r.length=te.size)),t _ fun _=>es.getD z.toNat [])
   |none=>none
  |.slice e,.cl es,.d (.int _ z)=>match T e with
   |some te=>some (t Prop (fun _=>0≤z∧z<es.length∧(∀r∈es,r.length=te.size)),t _ fun _=>es.getD z.toNat [])
   |none=>none
  |_,_,_=>none
 |none=>none
theorem UE {T:Nat→Option TI} {ty:Nat} {x i:AV}:OY t0 T ty x i=zg T ty x i:=by
 unfold OY zg;rfl
def UF (t:Th) (T:Nat→Option TI) (ev:Operand→AV):Op→Option (Prop×List (List D))
 |.call {callee:=.builtin b,args,argTypes}=>match b,args.toList,argTypes.toList with
  |.append,[x,y],[ty,u]=>match T ty,T u with
   |some ti,some tu=>match ti.kd,tu.kd with
    |.slice e,.slice _=>match T e with
     |some te=>bif eJ te then match ev x,ev y with
      |.cl es,.cl (x0::xr)=>some (t Prop (fun _=>(es.length+(x0::xr).length)*te.bytes≤140737488355328∧(∀r∈es++(x0::xr),r.length=te.size)),t _ fun _=>es++(x0::xr))
      |_,_=>none
      else none
     |none=>none
    |_,_=>none
   |_,_=>none
  |_,_,_=>none
 |_=>none
theorem UG {T:Nat→Option TI} {ev:Operand→AV} {op:Op}:UF t0 T ev op=BE T ev op:=by
 unfold UF BE;rfl
def mc (b:List Nat):Nat→List Oper→List Bool
 |_,[]=>[]
 |i,_::r=>barrier b i::mc b (i+1) r
structure TP (FC:Nat→List AV→List aB→jN→List aB→Prop) (lD:Prop) (f:Nat) (args:List AV) (fz:Option (Prop×List AV)) (at_:Option aB) (x:Nat) (K:AV→aB→Prop):Prop where
 ok:∃args' sz n es,lD∧(∃c,fz=some (c,args')∧c)∧AV.shut.mI args'=true∧FC f args' [] (.ret (.ow 0 sz n)) [.row sz es]∧
  ((∀r∈es,∀x∈r,x.flat=true)∨eX [] args=some args')∧at_=some .bC∧K (.ow x sz n) (.row sz es)
structure TQ (a b:String) (K:Prop):Prop where
 ok:a=b∧K
theorem TR {a:String} {K:Prop} (h:K):TQ a a K:=⟨rfl,h⟩
def UH (T:Nat→Option TI) (x:AV):Option (String×Nat×AV):=
 match x with
 |.rN ty v=>match T ty with
  |some ti=>match ti.inv with
   |some (n,i)=>some (n,i,v)
   |none=>none
  |none=>none
 |_=>none
theorem R7 {T:Nat→Option TI} {x v:AV} {n:String} {i:Nat} (as:List AV) (h:UH T x=some (n,i,v)):B7 T x n as=some (i,v::as):=by
 unfold UH at h
 unfold B7
 split at h
 ·split at h
  ·rename_i ti ht
   simp only [ht]
   split at h
   ·rename_i hi
    simp only [osI,Prod.mk.injEq] at h
    obtain ⟨rfl,rfl,rfl⟩:=h
    simp only [hi,if_true]
   cases h
  cases h
 cases h
def OZ:Op→Bool
 |.call {callee:=.value _,..}=>true
 |_=>false
structure F8 (ops:List Oper) (A:Option Nat→List Bool→Prop) (X:List Nat→Prop) (B1:OT→St→Prop) (B2:St→Prop) (B3:List Nd→List St→Prop):Prop where
 ok:(∃(pre:List Nat) (tr:OT) (s1:St),(iV ops.toArray [] pre=true∧mK ops.toArray=true∧X pre)∧tr.fits pre ops=true∧B1 tr s1∧B2 s1)∨(∃(pl:List Nd) (S:List St) (s1:St),KB ops.toArray pl=true∧B3 pl S∧S[pl.length]?=some s1∧B2 s1)∨∃k pre late fs,((pre=[]∧late=[])∨(iV ops.toArray [] pre=true∧mK ops.toArray=true∧tP (cr pre 0 ops).toArray late=true∧(k=none∧X pre∨pre=[])))∧
  (KE (ig (cr pre 0 ops).toArray late 0 (cr pre 0 ops))∧mc (cM (ig (cr pre 0 ops).toArray late 0 (cr pre 0 ops)) []) 0 ops=fs)∧A k fs
theorem dK {ops:List Oper} {A:Option Nat→List Bool→Prop} {X:List Nat→Prop} {B1:OT→St→Prop} {B2:St→Prop} {B3:List Nd→List St→Prop} (fs:List Bool) (h1:gW ops.toArray (cM ops []) 0 ops=true) (h2:mc (cM ops []) 0 ops=fs) (h:A none fs):F8 ops A X B1 B2 B3:=
 ⟨.inr<|.inr ⟨none,[],[],fs,.inl ⟨rfl,rfl⟩,by rw [oA,ru];exact ⟨⟨h1⟩,h2⟩,h⟩⟩
theorem xD {ops:List Oper} {A:Option Nat→List Bool→Prop} {X:List Nat→Prop} {B1:OT→St→Prop} {B2:St→Prop} {B3:List Nd→List St→Prop} (pre late:List Nat) (fs:List Bool) (hp:iV ops.toArray [] pre=true) (hs:mK ops.toArray=true) (hl:tP (cr pre 0 ops).toArray late=true) (hx:X pre)
 (h1:gW (ig (cr pre 0 ops).toArray late 0 (cr pre 0 ops)).toArray (cM (ig (cr pre 0 ops).toArray late 0 (cr pre 0 ops)) []) 0 (ig (cr pre 0 ops).toArray late 0 (cr pre 0 ops))=true)
 (h2:mc (cM (ig (cr pre 0 ops).toArray late 0 (cr pre 0 ops)) []) 0 ops=fs) (h:A none fs):F8 ops A X B1 B2 B3:=
 ⟨.inr<|.inr ⟨none,pre,late,fs,.inr ⟨hp,hs,hl,.inl ⟨rfl,hx⟩⟩,⟨⟨h1⟩,h2⟩,h⟩⟩
theorem F9 {ops:List Oper} {A:Option Nat→List Bool→Prop} {X:List Nat→Prop} {B1:OT→St→Prop} {B2:St→Prop} {B3:List Nd→List St→Prop} (pre:List Nat) (fs:List Bool) (hp:iV ops.toArray [] pre=true) (hs:mK ops.toArray=true) (hx:X pre)
 (h1:gW (cr pre 0 ops).toArray (cM (cr pre 0 ops) []) 0 (cr pre 0 ops)=true) (h2:mc (cM (cr pre 0 ops) []) 0 ops=fs) (h:A none fs):F8 ops A X B1 B2 B3:=
 ⟨.inr<|.inr ⟨none,pre,[],fs,.inr ⟨hp,hs,rfl,.inl ⟨rfl,hx⟩⟩,by rw [ru];exact ⟨⟨h1⟩,h2⟩,h⟩⟩
theorem K1 {ops:List Oper} {A:Option Nat→List Bool→Prop} {X:List Nat→Prop} {B1:OT→St→Prop} {B2:St→Prop} {B3:List Nd→List St→Prop} (pre:List Nat) (tr:OT) (s1:St) (hp:iV ops.toArray [] pre=true) (hs:mK ops.toArray=true) (hx:X pre) (hf:tr.fits pre ops=true) (h1:B1 tr s1) (h2:B2 s1):F8 ops A X B1 B2 B3:=
 ⟨.inl ⟨pre,tr,s1,⟨hp,hs,hx⟩,hf,h1,h2⟩⟩
section
variable (t:Th) (FC:Nat→List AV→List aB→jN→List aB→Prop) (T:Nat→Option TI) (G:Nat→Option (List D)) (N:Nat)
def stepT (o:Oper) (s:St) (K:AV→List aB→Prop) (Q:Ex→St→Prop):Prop:=
 match o.op with
 |.pick c a b=>match (cm G s.sl c).aX with
  |.d (.bool p)=>((cm G s.sl c).ok∧K0 p (cm G s.sl a).ok (cm G s.sl b).ok)∧K (DN t p (cm G s.sl a).aX (cm G s.sl b).aX) s.bx
  |_=>False
 |.call {callee:=.value f,args,..}=>match lJ (cm G s.sl f).aX (args.toList.map fun x=>(cm G s.sl x).aX) with
  |some (i,as)=>o4 FC ((cm G s.sl f).ok∧dG (fR G s.sl args.toList)) i as (pZ t s.bx as) s.bx (fun v bx=>K v bx) (fun v bx=>Q (.panic v) ⟨[],bx⟩)
  |none=>False
 |.panic x=>match (cm G s.sl x).aX with
  |.rN ty v=>(cm G s.sl x).ok∧Q (.panic (.rN ty v)) ⟨[],s.bx⟩
  |_=>False
 |.range ty x=>match T ty with
  |some ti=>match ti.kd,(cm G s.sl x).aX with
   |.str,.d (.str str)=>(cm G s.sl x).ok∧K (.ptr s.bx.length 0) (s.bx++[.it str 0])
   |_,_=>False
  |none=>False
 |.next it true=>match (cm G s.sl it).aX with
  |.ptr b 0=>match s.bx[b]? with
   |some (.it str pos)=>(cm G s.sl it).ok∧NZ str pos (fun c wd=>K (.dX [.d (.bool true),.d (.int .i64 (t _ fun _=>pos)),.d (.int .i32 (t _ fun _=>c))]) (s.bx.set b (.it str (t _ fun _=>pos+wd)))) (fun _=>K (.dX [.d (.bool false)]) s.bx)
   |_=>False
  |_=>False
 |.binOp .eql ty x (.const (.slice none 0 0)) _=>match T ty,L0 (cm G s.sl x).aX with
  |some ti,some H9=>match ti.kd with
   |.slice _=>(cm G s.sl x).ok∧KA (t Prop fun _=>H9) (fun b=>K (.d (.bool b)) s.bx)
   |_=>False
  |_,_=>False
 |.binOp .neq ty x (.const (.slice none 0 0)) _=>match T ty,L0 (cm G s.sl x).aX with
  |some ti,some H9=>match ti.kd with
   |.slice _=>(cm G s.sl x).ok∧KA (t Prop fun _=>H9) (fun b=>K (.d (.bool (t _ fun _=>!b))) s.bx)
   |_=>False
  |_,_=>False
 |.makeMap ty none=>match T ty with
  |some ti=>match ti.kd with
   |.map _ e=>match T e with
    |some te=>K (.Bx s.bx.length) (s.bx++[.mp te.kd.isAgg []])
    |none=>False
   |_=>False
  |none=>False
 |.lookup ty m k BA=>match zh T ty (cm G s.sl m).aX s.bx,(cm G s.sl k).aX with
  |some (tk,te,ag,es),.d kd=>Ie true (((cm G s.sl m).ok∧(cm G s.sl k).ok)∧(t Prop fun _=>vG tk te ag es kd)) (t _ fun _=>vF es kd) (oa te BA (fun v=>K v s.bx))
  |_,_=>False
 |.mapUpdate ty m k x=>match Ds T ty (cm G s.sl m).aX s.bx,(cm G s.sl k).aX,(cm G s.sl x).aX.cells? with
  |some (b,tk,te,ag,es),.d kd,some vs=>match cG vs,Aa t s.bx vs with
   |true,some (c,ds)=>(((cm G s.sl m).ok∧(cm G s.sl k).ok∧(cm G s.sl x).ok)∧c∧(t Prop fun _=>vG tk te ag es kd)∧Nat.beq ds.length te.size=true∧(cm G s.sl x).aX.isAgg=ag)∧K .any (s.bx.set b (.mp ag (t _ fun _=>rO es kd ds)))
   |_,_=>False
  |_,_,_=>False
 |.load ty a=>
  match rowAt t (cm G s.sl a).aX s.bx with
  |some (c,ds,j)=>Af true ((cm G s.sl a).ok∧c) ds (fun ds=>match T ty with
   |some ti=>match cL ti.kd.isAgg ti.size ((ds.drop j).map .d) with
    |some v=>K v s.bx
    |none=>False
   |none=>False)
  |none=>match V2 t T (fun x=>(cm G s.sl x).aX) (.load ty a) s.bx with
   |some ⟨c,v,b⟩=>(dG (fR G s.sl (Op.load ty a).operands.toList)∧c)∧K v (dJ s.bx b)
   |none=>False
 |op=>
  match (match op with|.indexAddr ty x i=>OY t T ty (cm G s.sl x).aX (cm G s.sl i).aX|_=>none) with
  |some (c,ds)=>nv true (dG (fR G s.sl op.operands.toList)∧c) ds (fun ds=>K (.ep ds) s.bx)
  |none=>match V2 t T (fun x=>(cm G s.sl x).aX) op s.bx with
   |some ⟨c,v,b⟩=>bif F7 (fun x=>(cm G s.sl x).aX) op then OX (dG (fR G s.sl op.operands.toList)∧c) v (dJ s.bx b) K
    else (dG (fR G s.sl op.operands.toList)∧c)∧K v (dJ s.bx b)
   |none=>False
def m7 (dr g:Bool) (o:Oper) (s:St) (K:AV→Prop):Prop:=
 match o.op with
 |.pick c a b=>match (cm G s.sl c).aX with
  |.d (.bool p)=>vW g ((cm G s.sl c).ok∧K0 p (cm G s.sl a).ok (cm G s.sl b).ok)∧K (DN t p (cm G s.sl a).aX (cm G s.sl b).aX)
  |_=>False
 |.call {callee:=.value f,args,..}=>match lJ (cm G s.sl f).aX (args.toList.map fun x=>(cm G s.sl x).aX) with
  |some (i,as)=>sS FC dr g ((cm G s.sl f).ok∧dG (fR G s.sl args.toList)) i as s.bx (pZ t s.bx as) (fun v=>K v)
  |none=>False
 |.call {callee:=.invoke r nm,args,..}=>match UH T (cm G s.sl r).aX with
  |some (n,i,v)=>TQ n nm (sS FC true g ((cm G s.sl r).ok∧dG (fR G s.sl args.toList)) i (v::(args.toList.map fun x=>(cm G s.sl x).aX)) s.bx (pZ t s.bx (v::(args.toList.map fun x=>(cm G s.sl x).aX))) (fun v=>K v))
  |none=>False
 |.load ty a=>
  match rowAt t (cm G s.sl a).aX s.bx with
  |some (c,ds,j)=>Af g ((cm G s.sl a).ok∧c) ds (fun ds=>match T ty with
   |some ti=>match cL ti.kd.isAgg ti.size ((ds.drop j).map .d) with
    |some v=>K v
    |none=>False
   |none=>False)
  |none=>match V2 t T (fun x=>(cm G s.sl x).aX) (.load ty a) s.bx with
   |some ⟨c,v,none⟩=>vW g (dG (fR G s.sl (Op.load ty a).operands.toList)∧c)∧K v
   |_=>False
 |op=>
  match (match op with|.indexAddr ty x i=>OY t T ty (cm G s.sl x).aX (cm G s.sl i).aX|_=>none) with
  |some (c,ds)=>nv g (dG (fR G s.sl op.operands.toList)∧c) ds (fun ds=>K (.ep ds))
  |none=>match V2 t T (fun x=>(cm G s.sl x).aX) op s.bx with
   |some ⟨c,v,none⟩=>bif F7 (fun x=>(cm G s.sl x).aX) op then TO g (dG (fR G s.sl op.operands.toList)∧c) v K
    else vW g (dG (fR G s.sl op.operands.toList)∧c)∧K v
   |_=>match UF t T (fun x=>(cm G s.sl x).aX) op with
    |some (c,es)=>vW g (dG (fR G s.sl op.operands.toList)∧c)∧K (.d (.sl es))
    |none=>False
def nI (sl:List (Nat×AV)) (ops:List Oper) (j:Nat) (want:Bool):Option Bool:=
 match ops[j]? with
 |some o=>match o.dst with
  |some u=>match gG u sl with
   |.d (.bool q)=>some (bif want then q else t _ fun _=>!q)
   |.cond g (.d (.bool q))=>some (t _ fun _=>g&&(bif want then q else !q))
   |_=>none
  |none=>none
 |none=>none
def O0 (ops:List Oper):List Oper→(Ex→St→Prop)→St→Prop
 |[],Q,s=>Q .normal s
 |o::rest,Q,s=>bif gZ N o.dst then
  match o.guard with
  |none=>stepT t FC T G o s (fun v bx=>O0 ops rest Q ⟨eH o.dst v s.sl,bx⟩) Q
  |some (j,want)=>match nI t s.sl ops j want with
   |some g=>m7 t FC T G false g o s (fun v=>O0 ops rest Q ⟨eH o.dst (.cond g v) s.sl,s.bx⟩)
   |none=>False
  else False
def O1 (o:Oper) (sl:List (Nat×AV)) (ij:List aB) (x:Nat) (K:AV→aB→Prop):Prop:=
 match o.op with
 |.call {callee:=.value f,args,..}=>match lJ (cm G sl f).aX (args.toList.map fun x=>(cm G sl x).aX) with
  |some (i,as)=>TP FC ((cm G sl f).ok∧dG (fR G sl args.toList)) i as (pZ t ij as) ij[x]? x K
  |none=>False
 |_=>False
def sj (ops:List Oper) (base:Nat):List Bool→List aB→Nat→List Oper→(Ex→St→Prop)→St→Prop
 |_,_,_,[],Q,s=>Q .normal s
 |[],_,_,_::_,_,_=>False
 |f::fs,ij,k,o::rest,Q,s=>bif gZ N o.dst then
  bif f then match o.guard with
   |none=>stepT t FC T G o s (fun v bx=>sj ops base fs bx k rest Q ⟨eH o.dst v s.sl,bx⟩) Q
   |some (j,want)=>match nI t s.sl ops j want with
    |some g=>m7 t FC T G true g o s (fun v=>sj ops base fs s.bx k rest Q ⟨eH o.dst (.cond g v) s.sl,s.bx⟩)
    |none=>False
  else match iz T G s.sl o with
   |some cs=>match ij[base+k]? with
    |some .bC=>sj ops base fs ij (k+1) rest Q ⟨eH o.dst (.ptr (base+k) 0) s.sl,s.bx.set (base+k) (.var cs)⟩
    |_=>False
   |none=>match o.guard with
    |none=>bif OZ o.op then m7 t FC T G true true o ⟨s.sl,ij⟩ (fun v=>sj ops base fs ij k rest Q ⟨eH o.dst v s.sl,s.bx⟩)∨
     O1 t FC G o s.sl ij (base+k) (fun v B=>sj ops base fs ij (k+1) rest Q ⟨eH o.dst v s.sl,s.bx.set (base+k) B⟩)
     else m7 t FC T G true true o ⟨s.sl,ij⟩ (fun v=>sj ops base fs ij k rest Q ⟨eH o.dst v s.sl,s.bx⟩)
    |some (j,want)=>match nI t s.sl ops j want with
     |some g=>m7 t FC T G true g o ⟨s.sl,ij⟩ (fun v=>sj ops base fs ij k rest Q ⟨eH o.dst (.cond g v) s.sl,s.bx⟩)
     |none=>False
  else False
def DP (i:Nat) (s:St):Option (Prop×St):=match WI t s.bx (gG i s.sl) with
 |some (c,y)=>some (c,⟨put i y s.sl,(gG i s.sl).cu s.bx⟩)
 |none=>none
def O2 (k:Option Nat) (s:St) (K:St→Prop):Prop:=match k with
 |none=>K s
 |some i=>match DP t i s with
  |some (c,s1)=>c∧K s1
  |none=>False
def Ag (ops:List Oper) (i:Nat) (K:St→Prop) (Q:Ex→St→Prop) (s:St):Prop:=match ops[i]? with
 |some o=>bif gZ N o.dst then match o.guard with
  |none=>stepT t FC T G o s (fun v bx=>K ⟨eH o.dst v s.sl,bx⟩) Q
  |some (j,want)=>match nI t s.sl ops j want with
   |some g=>vE (.d (.bool g)) (fun _=>stepT t FC T G o s (fun v bx=>K ⟨eH o.dst (.cond true v) s.sl,bx⟩) Q) (fun _=>K ⟨eH o.dst (.cond false .any) s.sl,s.bx⟩)
   |none=>False
  else False
 |none=>False
def Ga (ops:List Oper) (Q:Ex→St→Prop) (R:St→Prop):OT→St→Prop
 |.done,s=>R s
 |.one i o,s=>Ag t FC T G N ops i (Ga ops Q R o) Q s
 |.more i o r,s=>Ag t FC T G N ops i (Ga ops Q R o) Q s∧Ga ops Q R r s
inductive Gb (ops:List Oper) (Q:Ex→St→Prop) (S:List St) (s:St):List (Nat×Nat)→Prop
 |nil:Gb ops Q S s []
 |cons {p i:Nat} {r:List (Nat×Nat)} {s0:St} (hs:S[p]?=some s0) (h:Ag t FC T G N ops i (fun s1=>(⟨BF s1.sl,s1.bx⟩:St)=s) Q s0) (hr:Gb ops Q S s r):Gb ops Q S s ((p,i)::r)
inductive Mk (ops:List Oper) (Q:Ex→St→Prop) (S:List St):Nat→List Nd→Prop
 |nil {k:Nat}:Mk ops Q S k []
 |cons {k:Nat} {nd:Nd} {r:List Nd} {s:St} (hs:S[k]?=some s) (hp:Gb t FC T G N ops Q S s nd.ps) (hr:Mk ops Q S (k+1) r):Mk ops Q S k (nd::r)
inductive UI (ops:List Oper) (Q:Ex→St→Prop) (s:St) (pl:List Nd) (S:List St):Prop
 |mk (first:S[0]?=some s) (all:Mk t FC T G N ops Q S 1 pl):UI ops Q s pl S
 |yJ {s0:St} (ks:List Nat) (eq:(⟨wS ks s.sl,s.bx⟩:St)=s0) (first:S[0]?=some s0) (all:Mk t FC T G N ops Q S 1 pl):UI ops Q s pl S
def K2 (ops:List Oper) (Q:Ex→St→Prop) (s:St):Prop:=
 F8 ops (fun k fs=>O2 t k s fun s=>sj t FC T G N ops s.bx.length fs (s.bx++List.replicate (oc ops) .bC) 0 ops Q ⟨s.sl,s.bx++List.replicate (oc ops) .bC⟩) (fun pre=>B8 G N ops pre s.sl=true)
  (fun tr s1=>Ga t FC T G N ops Q (fun s=>(⟨BF s.sl,s.bx⟩:St)=s1) tr s) (fun s1=>Q .normal s1) (fun pl S=>UI t FC T G N ops Q s pl S)
end
section
variable {FC:Nat→List AV→List aB→jN→List aB→Prop} {T:Nat→Option TI} {G:Nat→Option (List D)} {N:Nat}
theorem oE (sl:List (Nat×AV)) (ops:List Oper) (j:Nat) (want:Bool):nI t0 sl ops j want=guardOf sl ops j want:=by
 unfold nI guardOf;rfl
theorem K3 {ti:TI} {a:AV} {bx:List aB} {c:Prop} {ds:List D} {j:Nat} (h:rowAt t0 a bx=some (c,ds,j)) (hc:c) {v:AV} (hv:cL ti.kd.isAgg ti.size ((ds.drop j).map .d)=some v):nH (oX ti a bx) v none:=by
 unfold rowAt at h
 split at h
 ·rename_i b sz i j'
  split at h
  ·rename_i s es hb
   cases hs:Nat.beq s sz with
   |false=>simp [hs] at h
   |true=>
   simp only [hs,cond_true,osI,Prod.mk.injEq] at h
   obtain ⟨rfl,rfl,rfl⟩:=h
   have Y6:cL ti.kd.isAgg ti.size (((es.getD i []).drop j').map .d)=some v:=hv
   simp only [oX,hb,Y6]
   exact ⟨_,rfl,Nat.eq_of_beq_eq_true hs,hc⟩
  ·rename_i s es hb
   cases hs:Nat.beq s sz with
   |false=>simp [hs] at h
   |true=>
   simp only [hs,cond_true,osI,Prod.mk.injEq] at h
   obtain ⟨rfl,rfl,rfl⟩:=h
   have Y6:cL ti.kd.isAgg ti.size (((es.getD i []).drop j').map .d)=some v:=hv
   simp only [oX,hb,Y6]
   exact ⟨_,rfl,Nat.eq_of_beq_eq_true hs,hc⟩
  simp at h
 simp at h
theorem K4 (T:Nat→Option TI) (G:Nat→Option (List D)) (s:St) (op:Op):(match op with|.indexAddr ty x i=>OY t0 T ty (cm G s.sl x).aX (cm G s.sl i).aX|_=>none)=(match op with|.indexAddr ty x i=>zg T ty (cm G s.sl x).aX (cm G s.sl i).aX|_=>none):=by
 cases op<;>first|rfl|exact UE
theorem R8 {lD:Prop} {f:Nat} {args:List AV} {bx:List aB} {K K':AV→List aB→Prop} {Kp:AV→List aB→Prop} (hK:∀v bx,K v bx→K' v bx)
 (h:o4 FC lD f args (pZ t0 bx args) bx K Kp):NW FC lD f args bx K' Kp:=by
 obtain ⟨h0,h|h⟩:=h
 ·obtain ⟨c,args',h1,h2,h3,h4⟩:=h
  refine ⟨h0,.inl ⟨args',gK h1 h2,h3,?_⟩⟩
  rcases h4 with ⟨v,k1,k2,k3⟩|⟨sz,n,es,k1,k2,k3⟩
  ·exact .inl ⟨v,k1,k2,hK _ _ k3⟩
  exact .inr ⟨sz,n,es,k1,k2,hK _ _ k3⟩
 obtain ⟨args',pz,res,pE,h1,h2,h3⟩:=h
 refine ⟨h0,.inr ⟨args',pz,res,pE,?_,h2,?_⟩⟩
 ·rcases h1 with h1|⟨⟨c,k1,k2⟩,k3⟩
  ·exact .inl h1
  exact .inr ⟨gK k1 k2,k3⟩
 cases res with
 |ret v=>exact hK _ _ h3
 |LZ v=>exact h3
theorem Gc {te:TI} {BA:Bool} {K K':AV→Prop} (hK:∀v,K v→K' v) {o:Option (List D)} (h:oa te BA K o):oa te BA K' o:=by
 cases o with
 |none=>
  simp only [oa] at h ⊢
  split at h
  ·exact hK _ h
  exact h.elim
 |some ds=>
  simp only [oa] at h ⊢
  split at h
  ·exact hK _ h
  exact h.elim
theorem yL {o:Oper} {s:St} {K K':AV→List aB→Prop} {Q:Ex→St→Prop} (hK:∀v bx,K v bx→K' v bx) (h:stepT t0 FC T G o s K Q):pF FC T G o s K' Q:=by
 unfold stepT at h
 unfold pF
 split at h
 ·rename_i c a b ho
  simp only [ho]
  split at h
  ·rename_i p hc
   simp only [hc]
   rw [F5] at h
   exact ⟨⟨h.1.1,h.1.2.ok⟩,hK _ _ h.2⟩
  exact h.elim
 ·rename_i f args ats ho
  simp only [ho]
  split at h
  ·rename_i i as hf
   simp only [hf]
   exact R8 hK h
  exact h.elim
 ·rename_i x ho
  simp only [ho]
  split at h
  ·rename_i ty v hx;simp only [hx];exact h
  exact h.elim
 ·rename_i ty x ho
  simp only [ho]
  split at h
  ·rename_i ti ht
   simp only [ht]
   split at h
   ·rename_i str hk hx;simp only [hk,hx];exact ⟨h.1,hK _ _ h.2⟩
   exact h.elim
  exact h.elim
 ·rename_i it ho
  simp only [ho]
  split at h
  ·rename_i b hx
   simp only [hx]
   split at h
   ·rename_i str pos hb
    simp only [hb]
    exact ⟨h.1,⟨fun hp=>hK _ _ (h.2.ok.1 hp),fun hp=>hK _ _ (h.2.ok.2 hp)⟩⟩
   exact h.elim
  exact h.elim
 ·rename_i ty x t2 ho
  simp only [ho]
  split at h
  ·rename_i ti H9 ht he
   simp only [ht,he]
   split at h
   ·rename_i e hk;simp only [hk];exact ⟨h.1,⟨fun b hb=>hK _ _ (h.2.ok b hb)⟩⟩
   exact h.elim
  exact h.elim
 ·rename_i ty x t2 ho
  simp only [ho]
  split at h
  ·rename_i ti H9 ht he
   simp only [ht,he]
   split at h
   ·rename_i e hk;simp only [hk];exact ⟨h.1,⟨fun b hb=>hK _ _ (h.2.ok b hb)⟩⟩
   exact h.elim
  exact h.elim
 ·rename_i ty ho
  simp only [ho]
  split at h
  ·rename_i ti ht
   simp only [ht]
   split at h
   ·rename_i mk me hk
    simp only [hk]
    split at h
    ·rename_i te hte
     simp only [hte]
     exact hK _ _ h
    exact h.elim
   exact h.elim
  exact h.elim
 ·rename_i ty m k BA ho
  simp only [ho]
  split at h
  ·rename_i tk te ag es kd hm hk
   simp only [hm,hk]
   obtain ⟨o',hg,hk⟩:=h
   exact ⟨o',hg,Gc (fun v hv=>hK _ _ hv) hk⟩
  exact h.elim
 ·rename_i ty m k x ho
  simp only [ho]
  split at h
  ·rename_i b tk te ag es kd vs hm hk hc
   simp only [hm,hk,hc]
   split at h
   ·rename_i c dsv BD Wt
    obtain ⟨⟨g1,g2,g3,g4,g5⟩,g6⟩:=h
    simp only [BD,uF Wt g2]
    exact ⟨⟨g1,g3,Nat.eq_of_beq_eq_true g4,g5⟩,hK _ _ g6⟩
   exact h.elim
  exact h.elim
 ·rename_i ty a ho
  simp only [ho]
  split at h
  ·rename_i c ds j hr
   obtain ⟨ds',hg,hk⟩:=h
   obtain ⟨⟨h1,h2⟩,rfl⟩:=hg rfl
   split at hk
   ·rename_i ti ht
    split at hk
    ·rename_i v hv
     obtain ⟨c',e,vB⟩:=K3 hr h2 hv
     simp only [ES,iU,cond_false,kY,ht,e]
     exact ⟨⟨⟨h1,trv⟩,vB⟩,hK _ _ hk⟩
    exact hk.elim
   exact hk.elim
  split at h
  ·rename_i c v b hr
   obtain ⟨⟨h1,h2⟩,h3⟩:=h
   obtain ⟨c',e,vB⟩:=KY hr h2
   simp only [e]
   exact ⟨⟨h1,vB⟩,hK _ _ h3⟩
  exact h.elim
 rename_i e1 e2 e3 e4 e5 e6 e7 m1 m2 m3 e8
 split
 ·rename_i ho;exact absurd ho (e1 _ _ _)
 ·rename_i ho;exact absurd ho (e2 _ _ _)
 ·rename_i ho;exact absurd ho (e3 _)
 ·rename_i ho;exact absurd ho (e4 _ _)
 ·rename_i ho;exact absurd ho (e5 _)
 ·rename_i ho;exact absurd ho (e6 _ _ _)
 ·rename_i ho;exact absurd ho (e7 _ _ _)
 ·rename_i ho;exact absurd ho (m1 _)
 ·rename_i ho;exact absurd ho (m2 _ _ _ _)
 ·rename_i ho;exact absurd ho (m3 _ _ _ _)
 have hm:=K4 T G s o.op
 show match (match o.op with|.indexAddr ty x i=>zg T ty (cm G s.sl x).aX (cm G s.sl i).aX|_=>none) with
  |some (c,ds)=>nv true (dG (fR G s.sl o.op.operands.toList)∧c) ds (fun ds=>K' (.ep ds) s.bx)
  |none=>match ES T (fun x=>(cm G s.sl x).aX) o.op s.bx with
   |some ⟨c,v,b⟩=>(dG (fR G s.sl o.op.operands.toList)∧c)∧K' v (dJ s.bx b)
   |none=>False
 split at h
 ·rename_i c ds hi
  rw [hm] at hi
  simp only [hi]
  obtain ⟨ds',hg,hk⟩:=h
  exact ⟨ds',hg,hK _ _ hk⟩
 rename_i hi
 rw [hm] at hi
 simp only [hi]
 split at h
 ·rename_i c v b hr
  have h:(dG (fR G s.sl o.op.operands.toList)∧c)∧K v (dJ s.bx b):=by
   generalize F7 _ _=q at h
   cases q with
   |false=>exact h
   |true=>obtain ⟨v',aZ,k1,rfl,rfl,k2⟩:=h;exact ⟨k1,k2⟩
  obtain ⟨⟨h1,h2⟩,h3⟩:=h
  obtain ⟨c',e,vB⟩:=KY hr h2
  simp only [e]
  exact ⟨⟨h1,vB⟩,hK _ _ h3⟩
 exact h.elim
theorem Gd {dr g:Bool} {o:Oper} {s:St} {K:AV→Prop} (h:m7 t0 FC T G dr g o s K):∃v,K v:=by
 unfold m7 at h
 split at h
 ·split at h
  ·exact ⟨_,h.2⟩
  exact h.elim
 ·split at h
  ·obtain ⟨_,v,_,hK⟩|⟨v,_,hK⟩:=h
   ·exact ⟨v,hK⟩
   exact ⟨v,hK⟩
  exact h.elim
 ·split at h
  ·obtain ⟨_,⟨_,v,_,hK⟩|⟨v,_,hK⟩⟩:=h
   ·exact ⟨v,hK⟩
   exact ⟨v,hK⟩
  exact h.elim
 ·split at h
  ·obtain ⟨ds',_,hk⟩:=h
   split at hk
   ·split at hk
    ·exact ⟨_,hk⟩
    exact hk.elim
   exact hk.elim
  split at h
  ·exact ⟨_,h.2⟩
  exact h.elim
 split at h
 ·obtain ⟨ds,_,hK⟩:=h;exact ⟨_,hK⟩
 split at h
 ·generalize F7 _ _=q at h
  cases q with
  |false=>exact ⟨_,h.2⟩
  |true=>obtain ⟨v',_,k2⟩:=h;exact ⟨_,k2⟩
 split at h
 ·exact ⟨_,h.2⟩
 exact h.elim
theorem Cv {dr g:Bool} {o:Oper} {s:St} {K K':AV→Prop} (hK:∀v,K v→K' v) (h:m7 t0 FC T G dr g o s K):stepG FC T G g o s K'∨dr=false∧sE FC G g o s K':=by
 cases g with
 |false=>obtain ⟨v,h⟩:=Gd h;exact .inl (.inl ⟨rfl,v,hK v h⟩)
 |true=>
 by_cases TS:∃(f:Operand) (args:Array Operand) (ats:Array TypeId) (i:Nat) (as:List AV),o.op=.call {callee:=.value f,args:=args,argTypes:=ats}∧lJ (cm G s.sl f).aX (args.toList.map fun x=>(cm G s.sl x).aX)=some (i,as)∧
  dr=false∧∃v,(true=true→((cm G s.sl f).ok∧dG (fR G s.sl args.toList))∧FC i as s.bx (.ret v) s.bx)∧K v
 ·obtain ⟨f,args,ats,i,as,ho,hf,hd,v,h1,h2⟩:=TS
  refine .inr ⟨hd,?_⟩
  unfold sE
  simp only [ho,hf]
  exact ⟨v,fun _=>h1 rfl,hK _ h2⟩
 by_cases WJ:∃c es,BE T (fun x=>(cm G s.sl x).aX) o.op=some (c,es)∧(dG (fR G s.sl o.op.operands.toList)∧c)∧K (.d (.sl es))
 ·obtain ⟨c,es,h1,h2,h3⟩:=WJ
  exact .inl (.inr (.inr ⟨c,es,h1,fun _=>h2,hK _ h3⟩))
 refine .inl (.inr (.inl ?_))
 unfold m7 at h
 unfold vH
 split at h
 ·rename_i c a b ho
  simp only [ho]
  split at h
  ·rename_i p hc
   simp only [hc]
   rw [F5] at h
   have h1:true=true→(cm G s.sl c).ok∧(p=true→(cm G s.sl a).ok)∧(p=false→(cm G s.sl b).ok):=fun e=>⟨(h.1.ok e).1,(h.1.ok e).2.ok⟩
   exact ⟨fun _=>h1 rfl,hK _ h.2⟩
  exact h.elim
 ·rename_i f args ats ho
  simp only [ho]
  split at h
  ·rename_i i as hf
   simp only [hf]
   obtain ⟨hd,v,h1,h2⟩|⟨v,h1,h2⟩:=h
   ·exact absurd ⟨f,args,ats,i,as,ho,hf,hd,v,h1,h2⟩ TS
   refine ⟨v,fun hg=>?_,hK _ h2⟩
   obtain ⟨k1,args',jO,⟨c,k2,k3⟩,k4,k5,k6⟩:=h1 hg
   exact ⟨k1,args',jO,gK k2 k3,k4,k5,k6⟩
  exact h.elim
 ·rename_i f nm args ats ho
  simp only [ho]
  split at h
  ·rename_i n i v0 hf
   obtain ⟨rfl,h⟩:=h
   simp only [R7 _ hf]
   obtain ⟨hd,v,h1,h2⟩|⟨v,h1,h2⟩:=h
   ·cases hd
   refine ⟨v,fun hg=>?_,hK _ h2⟩
   obtain ⟨k1,args',jO,⟨c,k2,k3⟩,k4,k5,k6⟩:=h1 hg
   exact ⟨k1,args',jO,gK k2 k3,k4,k5,k6⟩
  exact h.elim
 ·rename_i ty a ho
  simp only [ho]
  split at h
  ·rename_i c ds j hr
   obtain ⟨ds',hg,hk⟩:=h
   obtain ⟨⟨h1,h2⟩,rfl⟩:=hg rfl
   split at hk
   ·rename_i ti ht
    split at hk
    ·rename_i v hv
     obtain ⟨c',e,vB⟩:=K3 hr h2 hv
     simp only [ES,iU,cond_false,kY,ht,e]
     exact ⟨fun _=>⟨⟨h1,trv⟩,vB⟩,hK _ hk⟩
    exact hk.elim
   exact hk.elim
  split at h
  ·rename_i c v hr
   obtain ⟨h1,h3⟩:=h
   have h1:true=true→dG (fR G s.sl (Op.load ty a).operands.toList)∧c:=h1.ok
   obtain ⟨c',e,vB⟩:=KY hr (h1 rfl).2
   simp only [e]
   exact ⟨fun _=>⟨(h1 rfl).1,vB⟩,hK _ h3⟩
  exact h.elim
 rename_i e1 e2 e2' e3
 split
 ·rename_i ho;exact absurd ho (e1 _ _ _)
 ·rename_i ho;exact absurd ho (e2 _ _ _)
 ·rename_i ho;exact absurd ho (e2' _ _ _ _)
 have hm:=K4 T G s o.op
 split at h
 ·rename_i c ds hi
  rw [hm] at hi
  show match (match o.op with|.indexAddr ty x i=>zg T ty (cm G s.sl x).aX (cm G s.sl i).aX|_=>none) with
   |some (c,ds)=>nv true (dG (fR G s.sl o.op.operands.toList)∧c) ds (fun ds=>K' (.ep ds))
   |none=>match ES T (fun x=>(cm G s.sl x).aX) o.op s.bx with
    |some ⟨c,v,none⟩=>(true=true→dG (fR G s.sl o.op.operands.toList)∧c)∧K' v
    |_=>False
  simp only [hi]
  obtain ⟨ds',hg,hk⟩:=h
  exact ⟨ds',hg,hK _ hk⟩
 rename_i hi
 rw [hm] at hi
 show match (match o.op with|.indexAddr ty x i=>zg T ty (cm G s.sl x).aX (cm G s.sl i).aX|_=>none) with
  |some (c,ds)=>nv true (dG (fR G s.sl o.op.operands.toList)∧c) ds (fun ds=>K' (.ep ds))
  |none=>match ES T (fun x=>(cm G s.sl x).aX) o.op s.bx with
   |some ⟨c,v,none⟩=>(true=true→dG (fR G s.sl o.op.operands.toList)∧c)∧K' v
   |_=>False
 simp only [hi]
 split at h
 ·rename_i c v hr
  have h:vW true (dG (fR G s.sl o.op.operands.toList)∧c)∧K v:=by
   generalize F7 _ _=q at h
   cases q with
   |false=>exact h
   |true=>obtain ⟨v',k0,k2⟩:=h;obtain ⟨k1,rfl⟩:=k0 rfl;exact ⟨⟨fun _=>k1⟩,k2⟩
  obtain ⟨h1,h3⟩:=h
  have h1:true=true→dG (fR G s.sl o.op.operands.toList)∧c:=h1.ok
  obtain ⟨c',e,vB⟩:=KY hr (h1 rfl).2
  simp only [e]
  exact ⟨fun _=>⟨(h1 rfl).1,vB⟩,hK _ h3⟩
 split at h
 ·rename_i c es ha
  rw [UG] at ha
  exact absurd ⟨c,es,ha,h.1.ok rfl,h.2⟩ WJ
 exact h.elim
theorem uH {g:Bool} {o:Oper} {s:St} {K K':AV→Prop} (hK:∀v,K v→K' v) (h:m7 t0 FC T G true g o s K):stepG FC T G g o s K':=by
 rcases Cv hK h with h|⟨h,_⟩
 ·exact h
 cases h
theorem IW {ops:List Oper} {Q:Ex→St→Prop}:∀(l:List Oper) (s:St),O0 t0 FC T G N ops l Q s→E0 FC T G N ops l Q s
 |[],_,h=>h
 |o::l,s,h=>by
  unfold O0 at h
  unfold E0
  cases hd:gZ N o.dst with
  |false=>simp [hd] at h
  |true=>
  simp only [hd,cond_true] at h ⊢
  split at h
  ·rename_i hg
   simp only [hg]
   exact yL (fun v bx hK=>IW l _ hK) h
  rename_i j want hg
  simp only [hg]
  rw [oE] at h
  split at h
  ·rename_i g Ia
   simp only [Ia]
   rcases Cv (fun v hK=>IW l _ hK) h with h|⟨_,h⟩
   ·exact .inl h
   exact .inr h
  exact h.elim
theorem R9 {o:Oper} {sl:List (Nat×AV)} {ij:List aB} {x:Nat} {K K':AV→aB→Prop} (hK:∀v B,K v B→K' v B) (h:O1 t0 FC G o sl ij x K):lK FC G o sl ij x K':=by
 unfold O1 at h
 split at h
 ·rename_i f args ats ho
  split at h
  ·rename_i i as hf
   obtain ⟨args',sz,n,es,h1,⟨c,h2,h3⟩,h4,h5,h6,h7,h8⟩:=h
   exact ⟨f,args,ats,i,as,args',sz,n,es,ho,hf,h1,gK h2 h3,h4,h5,h6,h7,hK _ _ h8⟩
  exact h.elim
 exact h.elim
theorem lu {ops:List Oper} {b:List Nat} {base:Nat} {Q:Ex→St→Prop}:∀(l:List Oper) (ij:List aB) (k i:Nat) (s:St),sj t0 FC T G N ops base (mc b i l) ij k l Q s→ny FC T G N ops b base ij k i l Q s
 |[],_,_,_,_,h=>h
 |o::l,ij,k,i,s,h=>by
  unfold mc sj at h
  unfold ny
  cases hd:gZ N o.dst with
  |false=>simp [hd] at h
  |true=>
  simp only [hd,cond_true] at h ⊢
  cases hb:barrier b i with
  |true=>
   simp only [hb,cond_true] at h ⊢
   split at h
   ·rename_i hg
    simp only [hg]
    exact yL (fun v bx hK=>lu l _ _ _ _ hK) h
   rename_i j want hg
   simp only [hg]
   rw [oE] at h
   split at h
   ·rename_i g Ia
    simp only [Ia]
    exact uH (fun v hK=>lu l _ _ _ _ hK) h
   exact h.elim
  |false=>
   simp only [hb,cond_false] at h ⊢
   split at h
   ·rename_i cs wT
    simp only [wT]
    split at h
    ·rename_i hu
     simp only [hu]
     exact lu l _ _ _ _ h
    exact h.elim
   rename_i wT
   simp only [wT]
   split at h
   ·rename_i hg
    simp only [hg]
    cases Ru:OZ o.op with
    |false=>
     simp only [Ru,cond_false] at h
     exact .inl (uH (fun v hK=>lu l _ _ _ _ hK) h)
    |true=>
     simp only [Ru,cond_true] at h
     rcases h with h|h
     ·exact .inl (uH (fun v hK=>lu l _ _ _ _ hK) h)
     exact .inr (R9 (fun v B hK=>lu l _ _ _ _ hK) h)
   rename_i j want hg
   simp only [hg]
   rw [oE] at h
   split at h
   ·rename_i g Ia
    simp only [Ia]
    exact uH (fun v hK=>lu l _ _ _ _ hK) h
   exact h.elim
theorem Ah {ops:List Oper} {i:Nat} {K K':St→Prop} {Q:Ex→St→Prop} {s:St} (hK:∀s,K s→K' s) (h:Ag t0 FC T G N ops i K Q s):wR FC T G N ops i K' Q s:=by
 unfold Ag at h
 unfold wR
 cases ho:ops[i]? with
 |none=>rw [ho] at h;exact h.elim
 |some o=>
  rw [ho] at h
  simp only at h ⊢
  cases hd:gZ N o.dst with
  |false=>rw [hd] at h;exact h.elim
  |true=>
   rw [hd] at h
   simp only [cond_true] at h ⊢
   cases hg:o.guard with
   |none=>
    rw [hg] at h
    simp only at h ⊢
    exact yL (fun v bx h=>hK _ h) h
   |some q=>
    obtain ⟨j,want⟩:=q
    rw [hg] at h
    simp only [oE] at h ⊢
    cases Ia:guardOf s.sl ops j want with
    |none=>rw [Ia] at h;exact h.elim
    |some g=>
     rw [Ia] at h
     simp only at h ⊢
     obtain ⟨h⟩:=h
     exact ⟨⟨fun e=>yL (fun v bx h=>hK _ h) (h.1 e),fun e=>hK _ (h.2 e)⟩⟩
theorem yM {ops:List Oper} {Q:Ex→St→Prop} {R:St→Prop}:∀(tr:OT) (s:St),Ga t0 FC T G N ops Q R tr s→L2 FC T G N ops Q R tr s
 |.done,_,h=>h
 |.one i o,s,h=>Ah (fun s h=>yM o s h) h
 |.more i o r,s,h=>⟨Ah (fun s h=>yM o s h) h.1,yM r s h.2⟩
theorem K5 {ops:List Oper} {Q:Ex→St→Prop} {S:List St} {s:St}:∀{l:List (Nat×Nat)},Gb t0 FC T G N ops Q S s l→E1 FC T G N ops Q S s l
 |_,.nil=>trivial
 |_,.cons hs h hr=>by
  refine ⟨?_,K5 hr⟩
  rw [hs]
  exact Ah (fun s h=>h) h
theorem IX {ops:List Oper} {Q:Ex→St→Prop} {S:List St}:∀{k:Nat} {l:List Nd},Mk t0 FC T G N ops Q S k l→allM FC T G N ops Q S k l
 |_,_,.nil=>trivial
 |_,_,.cons hs hp hr=>by
  refine ⟨?_,IX hr⟩
  rw [hs]
  exact K5 hp
theorem Sa {ops:List Oper} {Q:Ex→St→Prop} {s:St} (h:K2 t0 FC T G N ops Q s):N2 FC T G N ops Q s∨∃i c s1,DP t0 i s=some (c,s1)∧c∧N2 FC T G N ops Q s1:=by
 obtain ⟨⟨pre,tr,s1,g1,g2,g3,g4⟩|⟨pl,S,s1,g1,gd,g4,g5⟩|⟨k,pre,late,fs,h0,⟨h1,rfl⟩,h2⟩⟩:=h
 ·exact .inl (.inl ⟨pre,tr,s1,g1,g2,yM tr s g3,g4⟩)
 ·cases gd with
  |mk g2 g3=>exact .inl (.inr (.inl ⟨pl,S,s1,_,g1,⟨g2,.inl rfl⟩,g4,IX g3,g5⟩))
  |yJ ks ge g2 g3=>subst ge;exact .inl (.inr (.inl ⟨pl,S,s1,_,g1,⟨g2,.inr ⟨ks,rfl⟩⟩,g4,IX g3,g5⟩))
 cases k with
 |none=>
  refine .inl<|.inr<|.inr ⟨pre,late,h0.imp id ?_,h1,lu _ _ _ _ _ h2⟩
  rintro ⟨g1,g2,g3,⟨_,g4⟩|rfl⟩
  ·exact ⟨g1,g2,g3,g4⟩
  exact ⟨g1,g2,g3,rfl⟩
 |some i=>
  right
  simp only [O2] at h2
  split at h2
  ·rename_i c s1 hs
   refine ⟨i,c,s1,hs,h2.1,.inr<|.inr ⟨pre,late,?_,h1,lu _ _ _ _ _ h2.2⟩⟩
   rcases h0 with h0|⟨g1,g2,g3,⟨h0,_⟩|rfl⟩
   ·exact .inl h0
   ·cases h0
   exact .inr ⟨g1,g2,g3,rfl⟩
  exact h2.elim
end
end Dem
