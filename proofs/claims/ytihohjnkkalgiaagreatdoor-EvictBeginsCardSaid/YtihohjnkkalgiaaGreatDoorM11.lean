/- Parts of a proof, joined. -/
import Derived.Test.YtihohjnkkalgiaaGreatDoorM10
set_option linter.all false
set_option maxRecDepth 100000
set_option maxHeartbeats 4000000
open Go
namespace Dem
section
variable (t:Th)
def XS (bx:List az):AV→Option (Prop×AV)
 |.cl es=>some (True,.d (.sl es))
 |.ow b sz n=>match (AV.ow b sz n).SN t bx with
  |some (c,d)=>some (c,.d d)
  |none=>none
 |.vw b sz off n ca ex=>match (AV.vw b sz off n ca ex).yb t bx with
  |some (c,es)=>some (c,.d (.sl es))
  |none=>none
 |v=>some (True,v)
def PL (bx:List az):List AV→Option (Prop×List AV)
 |[]=>some (True,[])
 |x::xs=>match XS t bx x,PL bx xs with
  |some (c,y),some (d,ys)=>some (c∧d,y::ys)
  |_,_=>none
def LK (bx:List az):AV→Option (Prop×AV)
 |.agg cs=>match PL t bx cs with
  |some (c,ys)=>some (c,.agg ys)
  |none=>none
 |v=>XS t bx v
def qO (bx:List az):List AV→Option (Prop×List AV)
 |[]=>some (True,[])
 |x::xs=>match LK t bx x,qO bx xs with
  |some (c,y),some (d,ys)=>some (c∧d,y::ys)
  |_,_=>none
def PM (bx:List az):AV→Option (Prop×AV)
 |.eE vs=>match qO t bx vs with
  |some (c,ys)=>some (c,.eE ys)
  |none=>none
 |v=>LK t bx v
end
section
variable {bx:List az}
theorem Jw {x y:AV} {c:Prop} (h:XS t0 bx x=some (c,y)) (hc:c):fz bx x=some y:=by
 unfold XS at h
 split at h
 ·simp only [osI,Prod.mk.injEq] at h;obtain ⟨rfl,rfl⟩:=h;rfl
 ·rename_i b sz n
  split at h
  ·rename_i c' d h1
   simp only [osI,Prod.mk.injEq] at h;obtain ⟨rfl,rfl⟩:=h
   simp only [fz,PI h1 hc,Option.map_some]
  simp at h
 ·rename_i b sz off n ca ex
  split at h
  ·rename_i c' es h1
   simp only [osI,Prod.mk.injEq] at h;obtain ⟨rfl,rfl⟩:=h
   simp only [fz,kf h1 hc,Option.map_some]
  simp at h
 rename_i h1 h2 h3
 simp only [osI,Prod.mk.injEq] at h;obtain ⟨rfl,rfl⟩:=h
 unfold fz;split
 ·exact absurd rfl (h1 _)
 ·exact absurd rfl (h2 _ _ _)
 ·exact absurd rfl (h3 _ _ _ _ _ _)
 rfl
theorem Gt:∀{xs ys:List AV} {c:Prop},PL t0 bx xs=some (c,ys)→c→IL bx xs=some ys
 |[],ys,c,h,_=>by simp [PL] at h;simp [IL,h.2]
 |x::xs,ys,c,h,hc=>by
  simp only [PL] at h
  split at h
  ·rename_i c1 y d ys' h1 h2
   simp only [osI,Prod.mk.injEq] at h
   obtain ⟨rfl,rfl⟩:=h
   simp [IL,Jw h1 hc.1,Gt h2 hc.2]
  simp at h
theorem AE {x y:AV} {c:Prop} (h:LK t0 bx x=some (c,y)) (hc:c):qi bx x=some y:=by
 unfold LK at h
 split at h
 ·split at h
  ·rename_i cs c' ys h1
   simp only [osI,Prod.mk.injEq] at h
   obtain ⟨rfl,rfl⟩:=h
   simp [qi,Gt h1 hc]
  simp at h
 rename_i h1
 unfold qi;split
 ·exact absurd rfl (h1 _)
 exact Jw h hc
theorem gE:∀{xs ys:List AV} {c:Prop},qO t0 bx xs=some (c,ys)→c→eX bx xs=some ys
 |[],ys,c,h,_=>by simp [qO] at h;simp [eX,h.2]
 |x::xs,ys,c,h,hc=>by
  simp only [qO] at h
  split at h
  ·rename_i c1 y d ys' h1 h2
   simp only [osI,Prod.mk.injEq] at h
   obtain ⟨rfl,rfl⟩:=h
   simp [eX,AE h1 hc.1,gE h2 hc.2]
  simp at h
theorem Jx {x y:AV} {c:Prop} (h:PM t0 bx x=some (c,y)) (hc:c):IY bx x=some y:=by
 unfold PM at h
 split at h
 ·split at h
  ·rename_i cs c' ys h1
   simp only [osI,Prod.mk.injEq] at h
   obtain ⟨rfl,rfl⟩:=h
   simp [IY,gE h1 hc]
  simp at h
 rename_i h1
 unfold IY;split
 ·exact absurd rfl (h1 _)
 exact AE h hc
end
structure pY (FC:Nat→List AV→List az→iR→List az→Prop) (kQ:Prop) (f:Nat) (args:List AV) (fz:Option (Prop×List AV)) (bx:List az)
 (K:AV→List az→Prop) (Kp:AV→List az→Prop):Prop where
 ok:kQ∧(
  (∃c args',fz=some (c,args')∧c∧AV.shut.mN args'=true∧
   (
    (∃v,FC f args' [] (.ret v) []∧(v.flat=true∨eX [] args=some args'∧v.shut=true)∧K v bx)∨
    (∃sz n es,FC f args' [] (.ret (.ow 0 sz n)) [.row sz es]∧((∀r∈es,∀x∈r,x.flat=true)∨eX [] args=some args')∧K (.ow bx.length sz n) (bx++[.row sz es]))))∨
  (∃args' qn res qo,(args'=args∧qn=bx∨(∃c,fz=some (c,args')∧c)∧qn=fw bx args)∧FC f args' qn res qo∧
   (match res with|.ret v=>K v qo|.MC v=>Kp v qo)))
structure oT (FC:Nat→List AV→List az→iR→List az→Prop) (dr g:Bool) (kQ:Prop) (f:Nat) (args:List AV) (bx:List az) (fz:Option (Prop×List AV)) (K:AV→Prop):Prop where
 ok:(dr=false∧∃v,(g=true→kQ∧FC f args bx (.ret v) bx)∧K v)∨∃v,(g=true→kQ∧∃args' jP,(∃c,fz=some (c,args')∧c)∧AV.bP.c5 jP args'=true∧(∃dt,dP dt jP jP=true∧(dt=true→eX [] args=some args'))∧
  (∀(i:Nat) (b:az),jP[i]?=some b→b.born=true→∃b',bx[i]?=some b'∧b'.born=true∧(b.live=true→b'=b))∧FC f args' jP (.ret v) jP∧
  (v.flat=true∨eX [] args=some args'∧v.shut=true))∧K v
structure wC (g:Bool) (p:Prop):Prop where
 ok:g=true→p
structure LL (p:Bool) (a b:Prop):Prop where
 ok:(p=true→a)∧(p=false→b)
theorem ah {p:Bool} {a b:Prop}:LL p a b↔((p=true→a)∧(p=false→b)):=⟨fun h=>h.ok,fun h=>⟨h⟩⟩
structure AF (g:Bool) (c:Prop) (ds:List D) (K:List D→Prop):Prop where
 ok:∃ds',(g=true→c∧ds=ds')∧K ds'
structure PN (c:Prop) (v:AV) (bx:List az) (K:AV→List az→Prop):Prop where
 ok:∃v' aR,c∧v=v'∧bx=aR∧K v' aR
structure UM (g:Bool) (c:Prop) (v:AV) (K:AV→Prop):Prop where
 ok:∃v',(g=true→c∧v=v')∧K v'
def Gu (ev:Operand→AV) (o:Op):Bool:=bif iX ev o then (match o with
 |.slice _ _ _ _ _=>true
 |.call {callee:=.builtin b,..}=>match b with
  |.copy=>true
  |.clear=>true
  |.append=>true
  |_=>false
 |_=>false) else false
def PO (t:Th) (T:Nat→Option TI) (ty:Nat) (x i:AV):Option (Prop×List D):=
 match T ty with
 |some ti=>match ti.kd,x,i with
  |.slice e,.d (.sl es),.d (.int _ z)=>match T e with
   |some te=>some (t Prop (fun _=>0≤z∧z<es.length∧(∀r∈es,r.length=te.size)),t _ fun _=>es.getD z.toNat [])
   |none=>none
  |.slice e,.cl es,.d (.int _ z)=>match T e with
   |some te=>some (t Prop (fun _=>0≤z∧z<es.length∧(∀r∈es,r.length=te.size)),t _ fun _=>es.getD z.toNat [])
   |none=>none
  |_,_,_=>none
 |none=>none
theorem VA {T:Nat→Option TI} {ty:Nat} {x i:AV}:PO t0 T ty x i=zL T ty x i:=by
 unfold PO zL;rfl
def VB (t:Th) (T:Nat→Option TI) (ev:Operand→AV):Op→Option (Prop×List (List D))
 |.call {callee:=.builtin b,args,argTypes}=>match b,args.toList,argTypes.toList with
  |.append,[x,y],[ty,u]=>match T ty,T u with
   |some ti,some tu=>match ti.kd,tu.kd with
    |.slice e,.slice _=>match T e with
     |some te=>bif eN te then match ev x,ev y with
      |.cl es,.cl (x0::xr)=>some (t Prop (fun _=>(es.length+(x0::xr).length)*te.bytes≤140737488355328∧(∀r∈es++(x0::xr),r.length=te.size)),t _ fun _=>es++(x0::xr))
      |_,_=>none
      else none
     |none=>none
    |_,_=>none
   |_,_=>none
  |_,_,_=>none
 |_=>none
theorem VC {T:Nat→Option TI} {ev:Operand→AV} {op:Op}:VB t0 T ev op=Cg T ev op:=by
 unfold VB Cg;rfl
def mc (b:List Nat):Nat→List Oper→List Bool
 |_,[]=>[]
 |i,_::r=>barrier b i::mc b (i+1) r
structure UN (FC:Nat→List AV→List az→iR→List az→Prop) (kQ:Prop) (f:Nat) (args:List AV) (fz:Option (Prop×List AV)) (at_:Option az) (x:Nat) (K:AV→az→Prop):Prop where
 ok:∃args' sz n es,kQ∧(∃c,fz=some (c,args')∧c)∧AV.shut.mN args'=true∧FC f args' [] (.ret (.ow 0 sz n)) [.row sz es]∧
  ((∀r∈es,∀x∈r,x.flat=true)∨eX [] args=some args')∧at_=some .bB∧K (.ow x sz n) (.row sz es)
structure UO (a b:String) (K:Prop):Prop where
 ok:a=b∧K
theorem UP {a:String} {K:Prop} (h:K):UO a a K:=⟨rfl,h⟩
def VD (T:Nat→Option TI) (x:AV):Option (String×Nat×AV):=
 match x with
 |.sI ty v=>match T ty with
  |some ti=>match ti.inv with
   |some (n,i)=>some (n,i,v)
   |none=>none
  |none=>none
 |_=>none
theorem SX {T:Nat→Option TI} {x v:AV} {n:String} {i:Nat} (as:List AV) (h:VD T x=some (n,i,v)):CC T x n as=some (i,v::as):=by
 unfold VD at h
 unfold CC
 split at h
 ·split at h
  ·rename_i ti ht
   simp only [ht]
   split at h
   ·rename_i hi
    simp only [osI,Prod.mk.injEq] at h
    obtain ⟨rfl,rfl,rfl⟩:=h
    simp only [hi,if_true]
   cases h
  cases h
 cases h
def PR:Op→Bool
 |.call {callee:=.value _,..}=>true
 |_=>false
structure Gv (ops:List Oper) (A:Option Nat→List Bool→Prop) (X:List Nat→Prop) (B1:OT→St→Prop) (B2:St→Prop) (B3:List Nd→List St→Prop):Prop where
 ok:(∃(pre:List Nat) (tr:OT) (s1:St),(iY ops.toArray [] pre=true∧mQ ops.toArray=true∧X pre)∧tr.fits pre ops=true∧B1 tr s1∧B2 s1)∨(∃(pl:List Nd) (S:List St) (s1:St),Lj ops.toArray pl=true∧B3 pl S∧S[pl.length]?=some s1∧B2 s1)∨∃k pre late fs,((pre=[]∧late=[])∨(iY ops.toArray [] pre=true∧mQ ops.toArray=true∧uD (cq pre 0 ops).toArray late=true∧(k=none∧X pre∨pre=[])))∧
  (Lm (hU (cq pre 0 ops).toArray late 0 (cq pre 0 ops))∧mc (cP (hU (cq pre 0 ops).toArray late 0 (cq pre 0 ops)) []) 0 ops=fs)∧A k fs
theorem cO {ops:List Oper} {A:Option Nat→List Bool→Prop} {X:List Nat→Prop} {B1:OT→St→Prop} {B2:St→Prop} {B3:List Nd→List St→Prop} (fs:List Bool) (h1:gM ops.toArray (cP ops []) 0 ops=true) (h2:mc (cP ops []) 0 ops=fs) (h:A none fs):Gv ops A X B1 B2 B3:=
 ⟨.inr<|.inr ⟨none,[],[],fs,.inl ⟨rfl,rfl⟩,by rw [oP,sn];exact ⟨⟨h1⟩,h2⟩,h⟩⟩
theorem pZ {ops:List Oper} {A:Option Nat→List Bool→Prop} {X:List Nat→Prop} {B1:OT→St→Prop} {B2:St→Prop} {B3:List Nd→List St→Prop} (pre late:List Nat) (fs:List Bool) (hp:iY ops.toArray [] pre=true) (hs:mQ ops.toArray=true) (hl:uD (cq pre 0 ops).toArray late=true) (hx:X pre)
 (h1:gM (hU (cq pre 0 ops).toArray late 0 (cq pre 0 ops)).toArray (cP (hU (cq pre 0 ops).toArray late 0 (cq pre 0 ops)) []) 0 (hU (cq pre 0 ops).toArray late 0 (cq pre 0 ops))=true)
 (h2:mc (cP (hU (cq pre 0 ops).toArray late 0 (cq pre 0 ops)) []) 0 ops=fs) (h:A none fs):Gv ops A X B1 B2 B3:=
 ⟨.inr<|.inr ⟨none,pre,late,fs,.inr ⟨hp,hs,hl,.inl ⟨rfl,hx⟩⟩,⟨⟨h1⟩,h2⟩,h⟩⟩
theorem Gw {ops:List Oper} {A:Option Nat→List Bool→Prop} {X:List Nat→Prop} {B1:OT→St→Prop} {B2:St→Prop} {B3:List Nd→List St→Prop} (pre:List Nat) (fs:List Bool) (hp:iY ops.toArray [] pre=true) (hs:mQ ops.toArray=true) (hx:X pre)
 (h1:gM (cq pre 0 ops).toArray (cP (cq pre 0 ops) []) 0 (cq pre 0 ops)=true) (h2:mc (cP (cq pre 0 ops) []) 0 ops=fs) (h:A none fs):Gv ops A X B1 B2 B3:=
 ⟨.inr<|.inr ⟨none,pre,[],fs,.inr ⟨hp,hs,rfl,.inl ⟨rfl,hx⟩⟩,by rw [sn];exact ⟨⟨h1⟩,h2⟩,h⟩⟩
theorem LM {ops:List Oper} {A:Option Nat→List Bool→Prop} {X:List Nat→Prop} {B1:OT→St→Prop} {B2:St→Prop} {B3:List Nd→List St→Prop} (pre:List Nat) (tr:OT) (s1:St) (hp:iY ops.toArray [] pre=true) (hs:mQ ops.toArray=true) (hx:X pre) (hf:tr.fits pre ops=true) (h1:B1 tr s1) (h2:B2 s1):Gv ops A X B1 B2 B3:=
 ⟨.inl ⟨pre,tr,s1,⟨hp,hs,hx⟩,hf,h1,h2⟩⟩
section
variable (t:Th) (FC:Nat→List AV→List az→iR→List az→Prop) (T:Nat→Option TI) (G:Nat→Option (List D)) (N:Nat)
def stepT (o:Oper) (s:St) (K:AV→List az→Prop) (Q:Ex→St→Prop):Prop:=
 match o.op with
 |.pick c a b=>match (cm G s.sl c).aS with
  |.d (.bool p)=>((cm G s.sl c).ok∧LL p (cm G s.sl a).ok (cm G s.sl b).ok)∧K (Eg t p (cm G s.sl a).aS (cm G s.sl b).aS) s.bx
  |_=>False
 |.call {callee:=.value f,args,..}=>match lM (cm G s.sl f).aS (args.toList.map fun x=>(cm G s.sl x).aS) with
  |some (i,as)=>pY FC ((cm G s.sl f).ok∧dD (fO G s.sl args.toList)) i as (qO t s.bx as) s.bx (fun v bx=>K v bx) (fun v bx=>Q (.panic v) ⟨[],bx⟩)
  |none=>False
 |.panic x=>match (cm G s.sl x).aS with
  |.sI ty v=>(cm G s.sl x).ok∧Q (.panic (.sI ty v)) ⟨[],s.bx⟩
  |_=>False
 |.range ty x=>match T ty with
  |some ti=>match ti.kd,(cm G s.sl x).aS with
   |.str,.d (.str str)=>(cm G s.sl x).ok∧K (.ptr s.bx.length 0) (s.bx++[.it str 0])
   |_,_=>False
  |none=>False
 |.next it true=>match (cm G s.sl it).aS with
  |.ptr b 0=>match s.bx[b]? with
   |some (.it str pos)=>(cm G s.sl it).ok∧OQ str pos (fun c wd=>K (.eE [.d (.bool true),.d (.int .i64 (t _ fun _=>pos)),.d (.int .i32 (t _ fun _=>c))]) (s.bx.set b (.it str (t _ fun _=>pos+wd)))) (fun _=>K (.eE [.d (.bool false)]) s.bx)
   |_=>False
  |_=>False
 |.binOp .eql ty x (.const (.slice none 0 0)) _=>match T ty,MD (cm G s.sl x).aS with
  |some ti,some IM=>match ti.kd with
   |.slice _=>(cm G s.sl x).ok∧Li (t Prop fun _=>IM) (fun b=>K (.d (.bool b)) s.bx)
   |_=>False
  |_,_=>False
 |.binOp .neq ty x (.const (.slice none 0 0)) _=>match T ty,MD (cm G s.sl x).aS with
  |some ti,some IM=>match ti.kd with
   |.slice _=>(cm G s.sl x).ok∧Li (t Prop fun _=>IM) (fun b=>K (.d (.bool (t _ fun _=>!b))) s.bx)
   |_=>False
  |_,_=>False
 |.makeMap ty none=>match T ty with
  |some ti=>match ti.kd with
   |.map _ e=>match T e with
    |some te=>K (.zG s.bx.length) (s.bx++[.mp te.kd.isAgg []])
    |none=>False
   |_=>False
  |none=>False
 |.lookup ty m k Cc=>match zM T ty (cm G s.sl m).aS s.bx,(cm G s.sl k).aS with
  |some (tk,te,ag,es),.d kd=>DS true (((cm G s.sl m).ok∧(cm G s.sl k).ok)∧(t Prop fun _=>vY tk te ag es kd)) (t _ fun _=>qp es kd) (oD te Cc (fun v=>K v s.bx))
  |_,_=>False
 |.mapUpdate ty m k x=>match DT T ty (cm G s.sl m).aS s.bx,(cm G s.sl k).aS,(cm G s.sl x).aS.cells? with
  |some (b,tk,te,ag,es),.d kd,some vs=>match cH vs,Az t s.bx vs with
   |true,some (c,ds)=>(((cm G s.sl m).ok∧(cm G s.sl k).ok∧(cm G s.sl x).ok)∧c∧(t Prop fun _=>vY tk te ag es kd)∧Nat.beq ds.length te.size=true∧(cm G s.sl x).aS.isAgg=ag)∧K .any (s.bx.set b (.mp ag (t _ fun _=>sK es kd ds)))
   |_,_=>False
  |_,_,_=>False
 |.load ty a=>
  match rowAt t (cm G s.sl a).aS s.bx with
  |some (c,ds,j)=>AF true ((cm G s.sl a).ok∧c) ds (fun ds=>match T ty with
   |some ti=>match cL ti.kd.isAgg ti.size ((ds.drop j).map .d) with
    |some v=>K v s.bx
    |none=>False
   |none=>False)
  |none=>match Xd t T (fun x=>(cm G s.sl x).aS) (.load ty a) s.bx with
   |some ⟨c,v,b⟩=>(dD (fO G s.sl (Op.load ty a).operands.toList)∧c)∧K v (dJ s.bx b)
   |none=>False
 |op=>
  match (match op with|.indexAddr ty x i=>PO t T ty (cm G s.sl x).aS (cm G s.sl i).aS|_=>none) with
  |some (c,ds)=>mP true (dD (fO G s.sl op.operands.toList)∧c) ds (fun ds=>K (.ep ds) s.bx)
  |none=>match Xd t T (fun x=>(cm G s.sl x).aS) op s.bx with
   |some ⟨c,v,b⟩=>bif Gu (fun x=>(cm G s.sl x).aS) op then PN (dD (fO G s.sl op.operands.toList)∧c) v (dJ s.bx b) K
    else (dD (fO G s.sl op.operands.toList)∧c)∧K v (dJ s.bx b)
   |none=>False
def nu (dr g:Bool) (o:Oper) (s:St) (K:AV→Prop):Prop:=
 match o.op with
 |.pick c a b=>match (cm G s.sl c).aS with
  |.d (.bool p)=>wC g ((cm G s.sl c).ok∧LL p (cm G s.sl a).ok (cm G s.sl b).ok)∧K (Eg t p (cm G s.sl a).aS (cm G s.sl b).aS)
  |_=>False
 |.call {callee:=.value f,args,..}=>match lM (cm G s.sl f).aS (args.toList.map fun x=>(cm G s.sl x).aS) with
  |some (i,as)=>oT FC dr g ((cm G s.sl f).ok∧dD (fO G s.sl args.toList)) i as s.bx (qO t s.bx as) (fun v=>K v)
  |none=>False
 |.call {callee:=.invoke r nm,args,..}=>match VD T (cm G s.sl r).aS with
  |some (n,i,v)=>UO n nm (oT FC true g ((cm G s.sl r).ok∧dD (fO G s.sl args.toList)) i (v::(args.toList.map fun x=>(cm G s.sl x).aS)) s.bx (qO t s.bx (v::(args.toList.map fun x=>(cm G s.sl x).aS))) (fun v=>K v))
  |none=>False
 |.load ty a=>
  match rowAt t (cm G s.sl a).aS s.bx with
  |some (c,ds,j)=>AF g ((cm G s.sl a).ok∧c) ds (fun ds=>match T ty with
   |some ti=>match cL ti.kd.isAgg ti.size ((ds.drop j).map .d) with
    |some v=>K v
    |none=>False
   |none=>False)
  |none=>match Xd t T (fun x=>(cm G s.sl x).aS) (.load ty a) s.bx with
   |some ⟨c,v,none⟩=>wC g (dD (fO G s.sl (Op.load ty a).operands.toList)∧c)∧K v
   |_=>False
 |op=>
  match (match op with|.indexAddr ty x i=>PO t T ty (cm G s.sl x).aS (cm G s.sl i).aS|_=>none) with
  |some (c,ds)=>mP g (dD (fO G s.sl op.operands.toList)∧c) ds (fun ds=>K (.ep ds))
  |none=>match Xd t T (fun x=>(cm G s.sl x).aS) op s.bx with
   |some ⟨c,v,none⟩=>bif Gu (fun x=>(cm G s.sl x).aS) op then UM g (dD (fO G s.sl op.operands.toList)∧c) v K
    else wC g (dD (fO G s.sl op.operands.toList)∧c)∧K v
   |_=>match VB t T (fun x=>(cm G s.sl x).aS) op with
    |some (c,es)=>wC g (dD (fO G s.sl op.operands.toList)∧c)∧K (.d (.sl es))
    |none=>False
def nQ (sl:List (Nat×AV)) (ops:List Oper) (j:Nat) (want:Bool):Option Bool:=
 match ops[j]? with
 |some o=>match o.dst with
  |some u=>match gr u sl with
   |.d (.bool q)=>some (bif want then q else t _ fun _=>!q)
   |.cond g (.d (.bool q))=>some (t _ fun _=>g&&(bif want then q else !q))
   |_=>none
  |none=>none
 |none=>none
def PS (ops:List Oper):List Oper→(Ex→St→Prop)→St→Prop
 |[],Q,s=>Q .normal s
 |o::rest,Q,s=>bif gX N o.dst then
  match o.guard with
  |none=>stepT t FC T G o s (fun v bx=>PS ops rest Q ⟨eL o.dst v s.sl,bx⟩) Q
  |some (j,want)=>match nQ t s.sl ops j want with
   |some g=>nu t FC T G false g o s (fun v=>PS ops rest Q ⟨eL o.dst (.cond g v) s.sl,s.bx⟩)
   |none=>False
  else False
def PU (o:Oper) (sl:List (Nat×AV)) (ia:List az) (x:Nat) (K:AV→az→Prop):Prop:=
 match o.op with
 |.call {callee:=.value f,args,..}=>match lM (cm G sl f).aS (args.toList.map fun x=>(cm G sl x).aS) with
  |some (i,as)=>UN FC ((cm G sl f).ok∧dD (fO G sl args.toList)) i as (qO t ia as) ia[x]? x K
  |none=>False
 |_=>False
def sX (ops:List Oper) (base:Nat):List Bool→List az→Nat→List Oper→(Ex→St→Prop)→St→Prop
 |_,_,_,[],Q,s=>Q .normal s
 |[],_,_,_::_,_,_=>False
 |f::fs,ia,k,o::rest,Q,s=>bif gX N o.dst then
  bif f then match o.guard with
   |none=>stepT t FC T G o s (fun v bx=>sX ops base fs bx k rest Q ⟨eL o.dst v s.sl,bx⟩) Q
   |some (j,want)=>match nQ t s.sl ops j want with
    |some g=>nu t FC T G true g o s (fun v=>sX ops base fs s.bx k rest Q ⟨eL o.dst (.cond g v) s.sl,s.bx⟩)
    |none=>False
  else match iv T G s.sl o with
   |some cs=>match ia[base+k]? with
    |some .bB=>sX ops base fs ia (k+1) rest Q ⟨eL o.dst (.ptr (base+k) 0) s.sl,s.bx.set (base+k) (.var cs)⟩
    |_=>False
   |none=>match o.guard with
    |none=>bif PR o.op then nu t FC T G true true o ⟨s.sl,ia⟩ (fun v=>sX ops base fs ia k rest Q ⟨eL o.dst v s.sl,s.bx⟩)∨
     PU t FC G o s.sl ia (base+k) (fun v B=>sX ops base fs ia (k+1) rest Q ⟨eL o.dst v s.sl,s.bx.set (base+k) B⟩)
     else nu t FC T G true true o ⟨s.sl,ia⟩ (fun v=>sX ops base fs ia k rest Q ⟨eL o.dst v s.sl,s.bx⟩)
    |some (j,want)=>match nQ t s.sl ops j want with
     |some g=>nu t FC T G true g o ⟨s.sl,ia⟩ (fun v=>sX ops base fs ia k rest Q ⟨eL o.dst (.cond g v) s.sl,s.bx⟩)
     |none=>False
  else False
def Ei (i:Nat) (s:St):Option (Prop×St):=match XS t s.bx (gr i s.sl) with
 |some (c,y)=>some (c,⟨put i y s.sl,(gr i s.sl).cG s.bx⟩)
 |none=>none
def PV (k:Option Nat) (s:St) (K:St→Prop):Prop:=match k with
 |none=>K s
 |some i=>match Ei t i s with
  |some (c,s1)=>c∧K s1
  |none=>False
def AG (ops:List Oper) (i:Nat) (K:St→Prop) (Q:Ex→St→Prop) (s:St):Prop:=match ops[i]? with
 |some o=>bif gX N o.dst then match o.guard with
  |none=>stepT t FC T G o s (fun v bx=>K ⟨eL o.dst v s.sl,bx⟩) Q
  |some (j,want)=>match nQ t s.sl ops j want with
   |some g=>vX (.d (.bool g)) (fun _=>stepT t FC T G o s (fun v bx=>K ⟨eL o.dst (.cond true v) s.sl,bx⟩) Q) (fun _=>K ⟨eL o.dst (.cond false .any) s.sl,s.bx⟩)
   |none=>False
  else False
 |none=>False
def Gx (ops:List Oper) (Q:Ex→St→Prop) (R:St→Prop):OT→St→Prop
 |.done,s=>R s
 |.one i o,s=>AG t FC T G N ops i (Gx ops Q R o) Q s
 |.more i o r,s=>AG t FC T G N ops i (Gx ops Q R o) Q s∧Gx ops Q R r s
inductive Gy (ops:List Oper) (Q:Ex→St→Prop) (S:List St) (s:St):List (Nat×Nat)→Prop
 |nil:Gy ops Q S s []
 |cons {p i:Nat} {r:List (Nat×Nat)} {s0:St} (hs:S[p]?=some s0) (h:AG t FC T G N ops i (fun s1=>(⟨Ch s1.sl,s1.bx⟩:St)=s) Q s0) (hr:Gy ops Q S s r):Gy ops Q S s ((p,i)::r)
inductive PW (ops:List Oper) (Q:Ex→St→Prop) (S:List St):Nat→List Nd→Prop
 |nil {k:Nat}:PW ops Q S k []
 |cons {k:Nat} {nd:Nd} {r:List Nd} {s:St} (hs:S[k]?=some s) (hp:Gy t FC T G N ops Q S s nd.ps) (hr:PW ops Q S (k+1) r):PW ops Q S k (nd::r)
structure aac (ops:List Oper) (Q:Ex→St→Prop) (s:St) (pl:List Nd) (S:List St):Prop where
 first:S[0]?=some s
 all:PW t FC T G N ops Q S 1 pl
def LN (ops:List Oper) (Q:Ex→St→Prop) (s:St):Prop:=
 Gv ops (fun k fs=>PV t k s fun s=>sX t FC T G N ops s.bx.length fs (s.bx++List.replicate (oE ops) .bB) 0 ops Q ⟨s.sl,s.bx++List.replicate (oE ops) .bB⟩) (fun pre=>CD G N ops pre s.sl=true)
  (fun tr s1=>Gx t FC T G N ops Q (fun s=>(⟨Ch s.sl,s.bx⟩:St)=s1) tr s) (fun s1=>Q .normal s1) (fun pl S=>aac t FC T G N ops Q s pl S)
end
section
variable {FC:Nat→List AV→List az→iR→List az→Prop} {T:Nat→Option TI} {G:Nat→Option (List D)} {N:Nat}
theorem oU (sl:List (Nat×AV)) (ops:List Oper) (j:Nat) (want:Bool):nQ t0 sl ops j want=guardOf sl ops j want:=by
 unfold nQ guardOf;rfl
theorem LO {ti:TI} {a:AV} {bx:List az} {c:Prop} {ds:List D} {j:Nat} (h:rowAt t0 a bx=some (c,ds,j)) (hc:c) {v:AV} (hv:cL ti.kd.isAgg ti.size ((ds.drop j).map .d)=some v):nP (pU ti a bx) v none:=by
 unfold rowAt at h
 split at h
 ·rename_i b sz i j'
  split at h
  ·rename_i s es hb
   cases hs:Nat.beq s sz with
   |false=>simp [hs] at h
   |true=>
   simp only [hs,cond_true,osI,Prod.mk.injEq] at h
   obtain ⟨rfl,rfl,rfl⟩:=h
   have hv':cL ti.kd.isAgg ti.size (((es.getD i []).drop j').map .d)=some v:=hv
   simp only [pU,hb,hv']
   exact ⟨_,rfl,Nat.eq_of_beq_eq_true hs,hc⟩
  ·rename_i s es hb
   cases hs:Nat.beq s sz with
   |false=>simp [hs] at h
   |true=>
   simp only [hs,cond_true,osI,Prod.mk.injEq] at h
   obtain ⟨rfl,rfl,rfl⟩:=h
   have hv':cL ti.kd.isAgg ti.size (((es.getD i []).drop j').map .d)=some v:=hv
   simp only [pU,hb,hv']
   exact ⟨_,rfl,Nat.eq_of_beq_eq_true hs,hc⟩
  simp at h
 simp at h
theorem LP (T:Nat→Option TI) (G:Nat→Option (List D)) (s:St) (op:Op):(match op with|.indexAddr ty x i=>PO t0 T ty (cm G s.sl x).aS (cm G s.sl i).aS|_=>none)=(match op with|.indexAddr ty x i=>zL T ty (cm G s.sl x).aS (cm G s.sl i).aS|_=>none):=by
 cases op<;>first|rfl|exact VA
theorem SY {kQ:Prop} {f:Nat} {args:List AV} {bx:List az} {K K':AV→List az→Prop} {Kp:AV→List az→Prop} (hK:∀v bx,K v bx→K' v bx)
 (h:pY FC kQ f args (qO t0 bx args) bx K Kp):OO FC kQ f args bx K' Kp:=by
 obtain ⟨h0,h|h⟩:=h
 ·obtain ⟨c,args',h1,h2,h3,h4⟩:=h
  refine ⟨h0,.inl ⟨args',gE h1 h2,h3,?_⟩⟩
  rcases h4 with ⟨v,k1,k2,k3⟩|⟨sz,n,es,k1,k2,k3⟩
  ·exact .inl ⟨v,k1,k2,hK _ _ k3⟩
  exact .inr ⟨sz,n,es,k1,k2,hK _ _ k3⟩
 obtain ⟨args',qn,res,qo,h1,h2,h3⟩:=h
 refine ⟨h0,.inr ⟨args',qn,res,qo,?_,h2,?_⟩⟩
 ·rcases h1 with h1|⟨⟨c,k1,k2⟩,k3⟩
  ·exact .inl h1
  exact .inr ⟨gE k1 k2,k3⟩
 cases res with
 |ret v=>exact hK _ _ h3
 |MC v=>exact h3
theorem Gz {te:TI} {Cc:Bool} {K K':AV→Prop} (hK:∀v,K v→K' v) {o:Option (List D)} (h:oD te Cc K o):oD te Cc K' o:=by
 cases o with
 |none=>
  simp only [oD] at h ⊢
  split at h
  ·exact hK _ h
  exact h.elim
 |some ds=>
  simp only [oD] at h ⊢
  split at h
  ·exact hK _ h
  exact h.elim
theorem zm {o:Oper} {s:St} {K K':AV→List az→Prop} {Q:Ex→St→Prop} (hK:∀v bx,K v bx→K' v bx) (h:stepT t0 FC T G o s K Q):qq FC T G o s K' Q:=by
 unfold stepT at h
 unfold qq
 split at h
 ·rename_i c a b ho
  simp only [ho]
  split at h
  ·rename_i p hc
   simp only [hc]
   rw [Gs] at h
   exact ⟨⟨h.1.1,h.1.2.ok⟩,hK _ _ h.2⟩
  exact h.elim
 ·rename_i f args ats ho
  simp only [ho]
  split at h
  ·rename_i i as hf
   simp only [hf]
   exact SY hK h
  exact h.elim
 ·rename_i x ho
  simp only [ho]
  split at h
  ·rename_i ty v hx;simp only [hx];exact h
  exact h.elim
 ·rename_i ty x ho
  simp only [ho]
  split at h
  ·rename_i ti ht
   simp only [ht]
   split at h
   ·rename_i str hk hx;simp only [hk,hx];exact ⟨h.1,hK _ _ h.2⟩
   exact h.elim
  exact h.elim
 ·rename_i it ho
  simp only [ho]
  split at h
  ·rename_i b hx
   simp only [hx]
   split at h
   ·rename_i str pos hb
    simp only [hb]
    exact ⟨h.1,⟨fun hp=>hK _ _ (h.2.ok.1 hp),fun hp=>hK _ _ (h.2.ok.2 hp)⟩⟩
   exact h.elim
  exact h.elim
 ·rename_i ty x t2 ho
  simp only [ho]
  split at h
  ·rename_i ti IM ht he
   simp only [ht,he]
   split at h
   ·rename_i e hk;simp only [hk];exact ⟨h.1,⟨fun b hb=>hK _ _ (h.2.ok b hb)⟩⟩
   exact h.elim
  exact h.elim
 ·rename_i ty x t2 ho
  simp only [ho]
  split at h
  ·rename_i ti IM ht he
   simp only [ht,he]
   split at h
   ·rename_i e hk;simp only [hk];exact ⟨h.1,⟨fun b hb=>hK _ _ (h.2.ok b hb)⟩⟩
   exact h.elim
  exact h.elim
 ·rename_i ty ho
  simp only [ho]
  split at h
  ·rename_i ti ht
   simp only [ht]
   split at h
   ·rename_i mk me hk
    simp only [hk]
    split at h
    ·rename_i te hte
     simp only [hte]
     exact hK _ _ h
    exact h.elim
   exact h.elim
  exact h.elim
 ·rename_i ty m k Cc ho
  simp only [ho]
  split at h
  ·rename_i tk te ag es kd hm hk
   simp only [hm,hk]
   obtain ⟨o',hg,hk⟩:=h
   exact ⟨o',hg,Gz (fun v hv=>hK _ _ hv) hk⟩
  exact h.elim
 ·rename_i ty m k x ho
  simp only [ho]
  split at h
  ·rename_i b tk te ag es kd vs hm hk hc
   simp only [hm,hk,hc]
   split at h
   ·rename_i c dsv CS XE
    obtain ⟨⟨g1,g2,g3,g4,g5⟩,g6⟩:=h
    simp only [CS,vf XE g2]
    exact ⟨⟨g1,g3,Nat.eq_of_beq_eq_true g4,g5⟩,hK _ _ g6⟩
   exact h.elim
  exact h.elim
 ·rename_i ty a ho
  simp only [ho]
  split at h
  ·rename_i c ds j hr
   obtain ⟨ds',hg,hk⟩:=h
   obtain ⟨⟨h1,h2⟩,rfl⟩:=hg rfl
   split at hk
   ·rename_i ti ht
    split at hk
    ·rename_i v hv
     obtain ⟨c',e,vW⟩:=LO hr h2 hv
     simp only [Ff,iX,cond_false,k9,ht,e]
     exact ⟨⟨⟨h1,trv⟩,vW⟩,hK _ _ hk⟩
    exact hk.elim
   exact hk.elim
  split at h
  ·rename_i c v b hr
   obtain ⟨⟨h1,h2⟩,h3⟩:=h
   obtain ⟨c',e,vW⟩:=LJ hr h2
   simp only [e]
   exact ⟨⟨h1,vW⟩,hK _ _ h3⟩
  exact h.elim
 rename_i e1 e2 e3 e4 e5 e6 e7 m1 m2 m3 e8
 split
 ·rename_i ho;exact absurd ho (e1 _ _ _)
 ·rename_i ho;exact absurd ho (e2 _ _ _)
 ·rename_i ho;exact absurd ho (e3 _)
 ·rename_i ho;exact absurd ho (e4 _ _)
 ·rename_i ho;exact absurd ho (e5 _)
 ·rename_i ho;exact absurd ho (e6 _ _ _)
 ·rename_i ho;exact absurd ho (e7 _ _ _)
 ·rename_i ho;exact absurd ho (m1 _)
 ·rename_i ho;exact absurd ho (m2 _ _ _ _)
 ·rename_i ho;exact absurd ho (m3 _ _ _ _)
 have hm:=LP T G s o.op
 show match (match o.op with|.indexAddr ty x i=>zL T ty (cm G s.sl x).aS (cm G s.sl i).aS|_=>none) with
  |some (c,ds)=>mP true (dD (fO G s.sl o.op.operands.toList)∧c) ds (fun ds=>K' (.ep ds) s.bx)
  |none=>match Ff T (fun x=>(cm G s.sl x).aS) o.op s.bx with
   |some ⟨c,v,b⟩=>(dD (fO G s.sl o.op.operands.toList)∧c)∧K' v (dJ s.bx b)
   |none=>False
 split at h
 ·rename_i c ds hi
  rw [hm] at hi
  simp only [hi]
  obtain ⟨ds',hg,hk⟩:=h
  exact ⟨ds',hg,hK _ _ hk⟩
 rename_i hi
 rw [hm] at hi
 simp only [hi]
 split at h
 ·rename_i c v b hr
  have h:(dD (fO G s.sl o.op.operands.toList)∧c)∧K v (dJ s.bx b):=by
   generalize Gu _ _=q at h
   cases q with
   |false=>exact h
   |true=>obtain ⟨v',aR,k1,rfl,rfl,k2⟩:=h;exact ⟨k1,k2⟩
  obtain ⟨⟨h1,h2⟩,h3⟩:=h
  obtain ⟨c',e,vW⟩:=LJ hr h2
  simp only [e]
  exact ⟨⟨h1,vW⟩,hK _ _ h3⟩
 exact h.elim
theorem GA {dr g:Bool} {o:Oper} {s:St} {K:AV→Prop} (h:nu t0 FC T G dr g o s K):∃v,K v:=by
 unfold nu at h
 split at h
 ·split at h
  ·exact ⟨_,h.2⟩
  exact h.elim
 ·split at h
  ·obtain ⟨_,v,_,hK⟩|⟨v,_,hK⟩:=h
   ·exact ⟨v,hK⟩
   exact ⟨v,hK⟩
  exact h.elim
 ·split at h
  ·obtain ⟨_,⟨_,v,_,hK⟩|⟨v,_,hK⟩⟩:=h
   ·exact ⟨v,hK⟩
   exact ⟨v,hK⟩
  exact h.elim
 ·split at h
  ·obtain ⟨ds',_,hk⟩:=h
   split at hk
   ·split at hk
    ·exact ⟨_,hk⟩
    exact hk.elim
   exact hk.elim
  split at h
  ·exact ⟨_,h.2⟩
  exact h.elim
 split at h
 ·obtain ⟨ds,_,hK⟩:=h;exact ⟨_,hK⟩
 split at h
 ·generalize Gu _ _=q at h
  cases q with
  |false=>exact ⟨_,h.2⟩
  |true=>obtain ⟨v',_,k2⟩:=h;exact ⟨_,k2⟩
 split at h
 ·exact ⟨_,h.2⟩
 exact h.elim
theorem C0 {dr g:Bool} {o:Oper} {s:St} {K K':AV→Prop} (hK:∀v,K v→K' v) (h:nu t0 FC T G dr g o s K):stepG FC T G g o s K'∨dr=false∧tB FC G g o s K':=by
 cases g with
 |false=>obtain ⟨v,h⟩:=GA h;exact .inl (.inl ⟨rfl,v,hK v h⟩)
 |true=>
 by_cases UQ:∃(f:Operand) (args:Array Operand) (ats:Array TypeId) (i:Nat) (as:List AV),o.op=.call {callee:=.value f,args:=args,argTypes:=ats}∧lM (cm G s.sl f).aS (args.toList.map fun x=>(cm G s.sl x).aS)=some (i,as)∧
  dr=false∧∃v,(true=true→((cm G s.sl f).ok∧dD (fO G s.sl args.toList))∧FC i as s.bx (.ret v) s.bx)∧K v
 ·obtain ⟨f,args,ats,i,as,ho,hf,hd,v,h1,h2⟩:=UQ
  refine .inr ⟨hd,?_⟩
  unfold tB
  simp only [ho,hf]
  exact ⟨v,fun _=>h1 rfl,hK _ h2⟩
 by_cases XT:∃c es,Cg T (fun x=>(cm G s.sl x).aS) o.op=some (c,es)∧(dD (fO G s.sl o.op.operands.toList)∧c)∧K (.d (.sl es))
 ·obtain ⟨c,es,h1,h2,h3⟩:=XT
  exact .inl (.inr (.inr ⟨c,es,h1,fun _=>h2,hK _ h3⟩))
 refine .inl (.inr (.inl ?_))
 unfold nu at h
 unfold vZ
 split at h
 ·rename_i c a b ho
  simp only [ho]
  split at h
  ·rename_i p hc
   simp only [hc]
   rw [Gs] at h
   have h1:true=true→(cm G s.sl c).ok∧(p=true→(cm G s.sl a).ok)∧(p=false→(cm G s.sl b).ok):=fun e=>⟨(h.1.ok e).1,(h.1.ok e).2.ok⟩
   exact ⟨fun _=>h1 rfl,hK _ h.2⟩
  exact h.elim
 ·rename_i f args ats ho
  simp only [ho]
  split at h
  ·rename_i i as hf
   simp only [hf]
   obtain ⟨hd,v,h1,h2⟩|⟨v,h1,h2⟩:=h
   ·exact absurd ⟨f,args,ats,i,as,ho,hf,hd,v,h1,h2⟩ UQ
   refine ⟨v,fun hg=>?_,hK _ h2⟩
   obtain ⟨k1,args',jP,⟨c,k2,k3⟩,k4,k5,k6⟩:=h1 hg
   exact ⟨k1,args',jP,gE k2 k3,k4,k5,k6⟩
  exact h.elim
 ·rename_i f nm args ats ho
  simp only [ho]
  split at h
  ·rename_i n i v0 hf
   obtain ⟨rfl,h⟩:=h
   simp only [SX _ hf]
   obtain ⟨hd,v,h1,h2⟩|⟨v,h1,h2⟩:=h
   ·cases hd
   refine ⟨v,fun hg=>?_,hK _ h2⟩
   obtain ⟨k1,args',jP,⟨c,k2,k3⟩,k4,k5,k6⟩:=h1 hg
   exact ⟨k1,args',jP,gE k2 k3,k4,k5,k6⟩
  exact h.elim
 ·rename_i ty a ho
  simp only [ho]
  split at h
  ·rename_i c ds j hr
   obtain ⟨ds',hg,hk⟩:=h
   obtain ⟨⟨h1,h2⟩,rfl⟩:=hg rfl
   split at hk
   ·rename_i ti ht
    split at hk
    ·rename_i v hv
     obtain ⟨c',e,vW⟩:=LO hr h2 hv
     simp only [Ff,iX,cond_false,k9,ht,e]
     exact ⟨fun _=>⟨⟨h1,trv⟩,vW⟩,hK _ hk⟩
    exact hk.elim
   exact hk.elim
  split at h
  ·rename_i c v hr
   obtain ⟨h1,h3⟩:=h
   have h1:true=true→dD (fO G s.sl (Op.load ty a).operands.toList)∧c:=h1.ok
   obtain ⟨c',e,vW⟩:=LJ hr (h1 rfl).2
   simp only [e]
   exact ⟨fun _=>⟨(h1 rfl).1,vW⟩,hK _ h3⟩
  exact h.elim
 rename_i e1 e2 e2' e3
 split
 ·rename_i ho;exact absurd ho (e1 _ _ _)
 ·rename_i ho;exact absurd ho (e2 _ _ _)
 ·rename_i ho;exact absurd ho (e2' _ _ _ _)
 have hm:=LP T G s o.op
 split at h
 ·rename_i c ds hi
  rw [hm] at hi
  show match (match o.op with|.indexAddr ty x i=>zL T ty (cm G s.sl x).aS (cm G s.sl i).aS|_=>none) with
   |some (c,ds)=>mP true (dD (fO G s.sl o.op.operands.toList)∧c) ds (fun ds=>K' (.ep ds))
   |none=>match Ff T (fun x=>(cm G s.sl x).aS) o.op s.bx with
    |some ⟨c,v,none⟩=>(true=true→dD (fO G s.sl o.op.operands.toList)∧c)∧K' v
    |_=>False
  simp only [hi]
  obtain ⟨ds',hg,hk⟩:=h
  exact ⟨ds',hg,hK _ hk⟩
 rename_i hi
 rw [hm] at hi
 show match (match o.op with|.indexAddr ty x i=>zL T ty (cm G s.sl x).aS (cm G s.sl i).aS|_=>none) with
  |some (c,ds)=>mP true (dD (fO G s.sl o.op.operands.toList)∧c) ds (fun ds=>K' (.ep ds))
  |none=>match Ff T (fun x=>(cm G s.sl x).aS) o.op s.bx with
   |some ⟨c,v,none⟩=>(true=true→dD (fO G s.sl o.op.operands.toList)∧c)∧K' v
   |_=>False
 simp only [hi]
 split at h
 ·rename_i c v hr
  have h:wC true (dD (fO G s.sl o.op.operands.toList)∧c)∧K v:=by
   generalize Gu _ _=q at h
   cases q with
   |false=>exact h
   |true=>obtain ⟨v',k0,k2⟩:=h;obtain ⟨k1,rfl⟩:=k0 rfl;exact ⟨⟨fun _=>k1⟩,k2⟩
  obtain ⟨h1,h3⟩:=h
  have h1:true=true→dD (fO G s.sl o.op.operands.toList)∧c:=h1.ok
  obtain ⟨c',e,vW⟩:=LJ hr (h1 rfl).2
  simp only [e]
  exact ⟨fun _=>⟨(h1 rfl).1,vW⟩,hK _ h3⟩
 split at h
 ·rename_i c es ha
  rw [VC] at ha
  exact absurd ⟨c,es,ha,h.1.ok rfl,h.2⟩ XT
 exact h.elim
theorem vi {g:Bool} {o:Oper} {s:St} {K K':AV→Prop} (hK:∀v,K v→K' v) (h:nu t0 FC T G true g o s K):stepG FC T G g o s K':=by
 rcases C0 hK h with h|⟨h,_⟩
 ·exact h
 cases h
theorem Jy {ops:List Oper} {Q:Ex→St→Prop}:∀(l:List Oper) (s:St),PS t0 FC T G N ops l Q s→Fm FC T G N ops l Q s
 |[],_,h=>h
 |o::l,s,h=>by
  unfold PS at h
  unfold Fm
  cases hd:gX N o.dst with
  |false=>simp [hd] at h
  |true=>
  simp only [hd,cond_true] at h ⊢
  split at h
  ·rename_i hg
   simp only [hg]
   exact zm (fun v bx hK=>Jy l _ hK) h
  rename_i j want hg
  simp only [hg]
  rw [oU] at h
  split at h
  ·rename_i g IQ
   simp only [IQ]
   rcases C0 (fun v hK=>Jy l _ hK) h with h|⟨_,h⟩
   ·exact .inl h
   exact .inr h
  exact h.elim
theorem SZ {o:Oper} {sl:List (Nat×AV)} {ia:List az} {x:Nat} {K K':AV→az→Prop} (hK:∀v B,K v B→K' v B) (h:PU t0 FC G o sl ia x K):lP FC G o sl ia x K':=by
 unfold PU at h
 split at h
 ·rename_i f args ats ho
  split at h
  ·rename_i i as hf
   obtain ⟨args',sz,n,es,h1,⟨c,h2,h3⟩,h4,h5,h6,h7,h8⟩:=h
   exact ⟨f,args,ats,i,as,args',sz,n,es,ho,hf,h1,gE h2 h3,h4,h5,h6,h7,hK _ _ h8⟩
  exact h.elim
 exact h.elim
theorem lA {ops:List Oper} {b:List Nat} {base:Nat} {Q:Ex→St→Prop}:∀(l:List Oper) (ia:List az) (k i:Nat) (s:St),sX t0 FC T G N ops base (mc b i l) ia k l Q s→nH FC T G N ops b base ia k i l Q s
 |[],_,_,_,_,h=>h
 |o::l,ia,k,i,s,h=>by
  unfold mc sX at h
  unfold nH
  cases hd:gX N o.dst with
  |false=>simp [hd] at h
  |true=>
  simp only [hd,cond_true] at h ⊢
  cases hb:barrier b i with
  |true=>
   simp only [hb,cond_true] at h ⊢
   split at h
   ·rename_i hg
    simp only [hg]
    exact zm (fun v bx hK=>lA l _ _ _ _ hK) h
   rename_i j want hg
   simp only [hg]
   rw [oU] at h
   split at h
   ·rename_i g IQ
    simp only [IQ]
    exact vi (fun v hK=>lA l _ _ _ _ hK) h
   exact h.elim
  |false=>
   simp only [hb,cond_false] at h ⊢
   split at h
   ·rename_i cs xJ
    simp only [xJ]
    split at h
    ·rename_i hu
     simp only [hu]
     exact lA l _ _ _ _ h
    exact h.elim
   rename_i xJ
   simp only [xJ]
   split at h
   ·rename_i hg
    simp only [hg]
    cases So:PR o.op with
    |false=>
     simp only [So,cond_false] at h
     exact .inl (vi (fun v hK=>lA l _ _ _ _ hK) h)
    |true=>
     simp only [So,cond_true] at h
     rcases h with h|h
     ·exact .inl (vi (fun v hK=>lA l _ _ _ _ hK) h)
     exact .inr (SZ (fun v B hK=>lA l _ _ _ _ hK) h)
   rename_i j want hg
   simp only [hg]
   rw [oU] at h
   split at h
   ·rename_i g IQ
    simp only [IQ]
    exact vi (fun v hK=>lA l _ _ _ _ hK) h
   exact h.elim
theorem AH {ops:List Oper} {i:Nat} {K K':St→Prop} {Q:Ex→St→Prop} {s:St} (hK:∀s,K s→K' s) (h:AG t0 FC T G N ops i K Q s):xI FC T G N ops i K' Q s:=by
 unfold AG at h
 unfold xI
 cases ho:ops[i]? with
 |none=>rw [ho] at h;exact h.elim
 |some o=>
  rw [ho] at h
  simp only at h ⊢
  cases hd:gX N o.dst with
  |false=>rw [hd] at h;exact h.elim
  |true=>
   rw [hd] at h
   simp only [cond_true] at h ⊢
   cases hg:o.guard with
   |none=>
    rw [hg] at h
    simp only at h ⊢
    exact zm (fun v bx h=>hK _ h) h
   |some q=>
    obtain ⟨j,want⟩:=q
    rw [hg] at h
    simp only [oU] at h ⊢
    cases IQ:guardOf s.sl ops j want with
    |none=>rw [IQ] at h;exact h.elim
    |some g=>
     rw [IQ] at h
     simp only at h ⊢
     obtain ⟨h⟩:=h
     exact ⟨⟨fun e=>zm (fun v bx h=>hK _ h) (h.1 e),fun e=>hK _ (h.2 e)⟩⟩
theorem zn {ops:List Oper} {Q:Ex→St→Prop} {R:St→Prop}:∀(tr:OT) (s:St),Gx t0 FC T G N ops Q R tr s→ME FC T G N ops Q R tr s
 |.done,_,h=>h
 |.one i o,s,h=>AH (fun s h=>zn o s h) h
 |.more i o r,s,h=>⟨AH (fun s h=>zn o s h) h.1,zn r s h.2⟩
theorem LQ {ops:List Oper} {Q:Ex→St→Prop} {S:List St} {s:St}:∀{l:List (Nat×Nat)},Gy t0 FC T G N ops Q S s l→Fo FC T G N ops Q S s l
 |_,.nil=>trivial
 |_,.cons hs h hr=>by
  refine ⟨?_,LQ hr⟩
  rw [hs]
  exact AH (fun s h=>h) h
theorem PX {ops:List Oper} {Q:Ex→St→Prop} {S:List St}:∀{k:Nat} {l:List Nd},PW t0 FC T G N ops Q S k l→allM FC T G N ops Q S k l
 |_,_,.nil=>trivial
 |_,_,.cons hs hp hr=>by
  refine ⟨?_,PX hr⟩
  rw [hs]
  exact LQ hp
theorem S2 {ops:List Oper} {Q:Ex→St→Prop} {s:St} (h:LN t0 FC T G N ops Q s):OU FC T G N ops Q s∨∃i c s1,Ei t0 i s=some (c,s1)∧c∧OU FC T G N ops Q s1:=by
 obtain ⟨⟨pre,tr,s1,g1,g2,g3,g4⟩|⟨pl,S,s1,g1,⟨g2,g3⟩,g4,g5⟩|⟨k,pre,late,fs,h0,⟨h1,rfl⟩,h2⟩⟩:=h
 ·exact .inl (.inl ⟨pre,tr,s1,g1,g2,zn tr s g3,g4⟩)
 ·exact .inl (.inr (.inl ⟨pl,S,s1,g1,g2,g4,PX g3,g5⟩))
 cases k with
 |none=>
  refine .inl<|.inr<|.inr ⟨pre,late,h0.imp id ?_,h1,lA _ _ _ _ _ h2⟩
  rintro ⟨g1,g2,g3,⟨_,g4⟩|rfl⟩
  ·exact ⟨g1,g2,g3,g4⟩
  exact ⟨g1,g2,g3,rfl⟩
 |some i=>
  right
  simp only [PV] at h2
  split at h2
  ·rename_i c s1 hs
   refine ⟨i,c,s1,hs,h2.1,.inr<|.inr ⟨pre,late,?_,h1,lA _ _ _ _ _ h2.2⟩⟩
   rcases h0 with h0|⟨g1,g2,g3,⟨h0,_⟩|rfl⟩
   ·exact .inl h0
   ·cases h0
   exact .inr ⟨g1,g2,g3,rfl⟩
  exact h2.elim
end
end Dem
