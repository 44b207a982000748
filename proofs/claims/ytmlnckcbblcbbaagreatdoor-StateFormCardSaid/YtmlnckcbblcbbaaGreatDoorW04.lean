/- Parts of a proof, joined. -/
import Derived.Test.YtmlnckcbblcbbaaGreatDoorW03
import Derived.Scope
import Derived.Test.YtmlnckcbblcbbaaGreatDoorProg
import Derived.KernelRfl
set_option linter.all false
set_option maxRecDepth 100000
set_option maxHeartbeats 4000000
section
open Go
namespace Dem
section
variable (t:Th)
def fzT(bx:List av):AV->Option (Prop×AV)
 |.cl es=>some (True,.d (.sl es))|.ow b sz n=>match(AV.ow b sz n).Vv t bx with
  |some (c,d)=>some (c,.d d)|none=>none
 |.vw b sz off n ca ex=>match(AV.vw b sz off n ca ex).AG t bx with
  |some (c,es)=>some (c,.d (.sl es))|none=>none
 |v=>some (True,v)
def Sj(bx:List av):List AV->Option (Prop×List AV)
 |[]=>some (True,[])|x::xs=>match fzT t bx x,Sj bx xs with
  |some (c,y),some (d,ys)=>some (c/\d,y::ys)|_,_=>none
def Oi(bx:List av):AV->Option (Prop×AV)
 |.agg cs=>match Sj t bx cs with
  |some (c,ys)=>some (c,.agg ys)|none=>none
 |v=>fzT t bx v
def tw(bx:List av):List AV->Option (Prop×List AV)
 |[]=>some (True,[])|x::xs=>match Oi t bx x,tw bx xs with
  |some (c,y),some (d,ys)=>some (c/\d,y::ys)|_,_=>none
def CS(bx:List av):AV->Option (Prop×AV)
 |.c5 vs=>match tw t bx vs with
  |some (c,ys)=>some (c,.c5 ys)|none=>none
 |v=>Oi t bx v
end
section
variable {bx:List av}
theorem L9{x y:AV}{c:Prop}(h:fzT t0 bx x=some (c,y))(hc:c):fz bx x=some y:=by
 unfold fzT at h;split at h
 .simp only[osI,vab]at h;obtain⟨rfl,rfl⟩:=h;rfl
 .rename_i b sz n;split at h
  .rename_i c' d h1;simp only[osI,vab]at h;obtain⟨rfl,rfl⟩:=h;simp only[fz,Sg h1 hc,vau]
  simp at h
 .rename_i b sz off n ca ex;split at h
  .rename_i c' es h1;simp only[osI,vab]at h;obtain⟨rfl,rfl⟩:=h;simp only[fz,lD h1 hc,vau]
  simp at h
 rename_i h1 h2 h3;simp only[osI,vab]at h;obtain⟨rfl,rfl⟩:=h;unfold fz;split
 .exact absurd rfl (h1 _)
 .exact absurd rfl (h2 _ _ _)
 .exact absurd rfl (h3 _ _ _ _ _ _)
 rfl
theorem Jd:∀{xs ys:List AV} {c:Prop},Sj t0 bx xs=some (c,ys)->c->Lm bx xs=some ys
 |[],ys,c,h,_=>by simp[Sj]at h;simp[Lm,h.2]|x::xs,ys,c,h,hc=>by
  simp only[Sj]at h;split at h
  .rename_i c1 y d ys' h1 h2;simp only[osI,vab]at h;obtain⟨rfl,rfl⟩:=h;simp[Lm,L9 h1 hc.1,Jd h2 hc.2]
  simp at h
theorem CT{x y:AV}{c:Prop}(h:Oi t0 bx x=some (c,y))(hc:c):sJ bx x=some y:=by
 unfold Oi at h;split at h
 .split at h
  .rename_i cs c' ys h1;simp only[osI,vab]at h;obtain⟨rfl,rfl⟩:=h;simp[sJ,Jd h1 hc]
  simp at h
 rename_i h1;unfold sJ;split
 .exact absurd rfl (h1 _)
 exact L9 h hc
theorem iF:∀{xs ys:List AV} {c:Prop},tw t0 bx xs=some (c,ys)->c->fq bx xs=some ys
 |[],ys,c,h,_=>by simp[tw]at h;simp[fq,h.2]|x::xs,ys,c,h,hc=>by
  simp only[tw]at h;split at h
  .rename_i c1 y d ys' h1 h2;simp only[osI,vab]at h;obtain⟨rfl,rfl⟩:=h;simp[fq,CT h1 hc.1,iF h2 hc.2]
  simp at h
theorem Ma{x y:AV}{c:Prop}(h:CS t0 bx x=some (c,y))(hc:c):Lw bx x=some y:=by
 unfold CS at h;split at h
 .split at h
  .rename_i cs c' ys h1;simp only[osI,vab]at h;obtain⟨rfl,rfl⟩:=h;simp[Lw,iF h1 hc]
  simp at h
 rename_i h1;unfold Lw;split
 .exact absurd rfl (h1 _)
 exact CT h hc
end
structure oM(FC:Nat->List AV->List av->eP->List av->Prop)(kX:Prop)(f:Nat)(args:List AV)(fz:Option (Prop×List AV))(bx:List av)
 (K:AV->List av->Prop) (Kp:AV->List av->Prop):Prop where
 ok:kX/\(
  (∃c args',fz=some (c,args')/\c/\AV.shut.mZ args'=true/\
   (
    (∃v,FC f args' [] (.ret v) []/\(v.flat=true∨fq [] args=some args'/\v.shut=true)/\K v bx)∨
    (∃sz n es,FC f args' [] (.ret (.ow 0 sz n)) [.row sz es]/\((∀r∈es,∀x∈r,x.flat=true)∨fq [] args=some args')/\K (.ow bx.length sz n) (bx++[.row sz es]))))∨
  (∃args' sL res gY,(args'=args/\sL=bx∨(∃c,fz=some (c,args')/\c)/\sL=fI bx args)/\FC f args' sL res gY/\
   (match res with|.ret v=>K v gY|.zh v=>Kp v gY)))
structure ry(FC:Nat->List AV->List av->eP->List av->Prop)(dr g:Bool)(kX:Prop)(f:Nat)(args:List AV)(bx:List av)(fz:Option (Prop×List AV))(K:AV->Prop):Prop where
 ok:(dr=false/\∃v,(g=true->kX/\FC f args bx (.ret v) bx)/\K v)∨∃v,(g=true->kX/\∃args' kY,(∃c,fz=some (c,args')/\c)/\AV.bV.c6 kY args'=true/\(∃dt,eA dt kY kY=true/\(dt=true->fq [] args=some args'))/\
  (∀(i:Nat) (b:av),kY[i]?=some b->b.born=true->∃b',bx[i]?=some b'/\b'.born=true/\(b.live=true->b'=b))/\FC f args' kY (.ret v) kY/\
  (v.flat=true∨fq [] args=some args'/\v.shut=true))/\K v
structure zG(g:Bool)(p:Prop):Prop where
 ok:g=true->p
structure Oj(p:Bool)(a b:Prop):Prop where
 ok:(p=true->a)/\(p=false->b)
theorem ah{p:Bool}{a b:Prop}:Oj p a b↔((p=true->a)/\(p=false->b)):=⟨λh=>h.ok,λh=>⟨h⟩⟩
structure Sk(g:Bool)(c:Prop)(ds:List D)(K:List D->Prop):Prop where
 ok:∃ds',(g=true->c/\ds=ds')/\K ds'
structure Sl(c:Prop)(v:AV)(bx:List av)(K:AV->List av->Prop):Prop where
 ok:∃v' aE,c/\v=v'/\bx=aE/\K v' aE
structure XG(g:Bool)(c:Prop)(v:AV)(K:AV->Prop):Prop where
 ok:∃v',(g=true->c/\v=v')/\K v'
def Je(ev:Operand->AV)(o:Op):Bool:=bif ke ev o then(match o with
 |.slice _ _ _ _ _=>true|.call {callee:=.builtin b,..}=>match b with
  |.copy=>true|.clear=>true|.append=>true|_=>false
 |_=>false)else false
def Sm(t:Th)(T:Nat->Option TI)(ty:Nat)(x i:AV):Option (Prop×List D):=
 match T ty with
 |some ti=>match ti.kd,x,i with
  |.slice e,.d (.sl es),.d (.int _ z)=>match T e with
   |some te=>some (t Prop (λ_=>0<=z/\z<es.length/\(∀r∈es,r.length=te.size)),t _ λ_=>es.getD z.toNat [])|none=>none
  |.slice e,.cl es,.d (.int _ z)=>match T e with
   |some te=>some (t Prop (λ_=>0<=z/\z<es.length/\(∀r∈es,r.length=te.size)),t _ λ_=>es.getD z.toNat [])|none=>none
  |_,_,_=>none
 |none=>none
theorem Yy{T:Nat->Option TI}{ty:Nat}{x i:AV}:Sm t0 T ty x i=BY T ty x i:=by unfold Sm BY;rfl
def Yz(t:Th)(T:Nat->Option TI)(ev:Operand->AV):Op->Option (Prop×List (List D))
 |.call {callee:=.builtin b,args,argTypes}=>match b,args.toList,argTypes.toList with
  |.append,[x,y],[ty,u]=>match T ty,T u with
   |some ti,some tu=>match ti.kd,tu.kd with
    |.slice e,.slice _=>match T e with
     |some te=>bif fo te then match ev x,ev y with
      |.cl es,.cl (x0::xr)=>some (t Prop (λ_=>(es.length+(x0::xr).length)*te.bytes<=140737488355328/\(∀r∈es++(x0::xr),r.length=te.size)),t _ λ_=>es++(x0::xr))|_,_=>none
      else none
     |none=>none
    |_,_=>none
   |_,_=>none
  |_,_,_=>none
 |_=>none
theorem YA{T:Nat->Option TI}{ev:Operand->AV}{op:Op}:Yz t0 T ev op=Ec T ev op:=by unfold Yz Ec;rfl
def kE(b:List Nat):Nat->List Oper->List Bool
 |_,[]=>[]|i,_::r=>barrier b i::kE b (i+1) r
structure XH(FC:Nat->List AV->List av->eP->List av->Prop)(kX:Prop)(f:Nat)(args:List AV)(fz:Option (Prop×List AV))(at_:Option av)(x:Nat)(K:AV->av->Prop):Prop where
 ok:∃args' sz n es,kX/\(∃c,fz=some (c,args')/\c)/\AV.shut.mZ args'=true/\FC f args' [] (.ret (.ow 0 sz n)) [.row sz es]/\
  ((∀r∈es,∀x∈r,x.flat=true)∨fq [] args=some args')/\at_=some .bJ/\K (.ow x sz n) (.row sz es)
structure XI(a b:String)(K:Prop):Prop where
 ok:a=b/\K
theorem XJ{a:String}{K:Prop}(h:K):XI a a K:=⟨rfl,h⟩
def YC(T:Nat->Option TI)(x:AV):Option (String×Nat×AV):=
 match x with
 |.sG ty v=>match T ty with
  |some ti=>match ti.inv with
   |some (n,i)=>some (n,i,v)|none=>none
  |none=>none
 |_=>none
theorem VE{T:Nat->Option TI}{x v:AV}{n:String}{i:Nat}(iz:List AV)(h:YC T x=some (n,i,v)):Eu T x n iz=some (i,v::iz):=by
 unfold YC at h;unfold Eu;split at h
 .split at h
  .rename_i ti ht;simp only[ht];split at h
   .rename_i hi;simp only[osI,vab]at h;obtain⟨rfl,rfl,rfl⟩:=h;simp only[hi,if_true]
   cases h
  cases h
 cases h
def Sn:Op->Bool
 |.call {callee:=.value _,..}=>true|_=>false
structure yc(ops:List Oper)(A:Option Nat->List Bool->Prop)(X:List Nat->Prop)(B1:OT->Option St->Prop)(B2:St->Prop)(B3:List Nd->List St->Prop):Prop where
 ok:(∃(pre:List Nat) (tr:OT) (s1:Option St),(iM ops.toArray [] pre=true/\m0 ops.toArray=true/\X pre)/\tr.fits pre ops=true/\B1 tr s1/\aap (λ_=>B2) s1)∨(∃(pl:List Nd) (S:List St) (s1:St),H6 ops.toArray pl=true/\B3 pl S/\S[pl.length]?=some s1/\B2 s1)∨∃k pre late fs,((pre=[]/\late=[])∨(iM ops.toArray [] pre=true/\m0 ops.toArray=true/\uw (bQ pre 0 ops).toArray late=true/\(k=none/\X pre∨pre=[])))/\
  (NY (gU (bQ pre 0 ops).toArray late 0 (bQ pre 0 ops))/\kE (cD (gU (bQ pre 0 ops).toArray late 0 (bQ pre 0 ops)) []) 0 ops=fs)/\A k fs
theorem aaO{ops:List Oper}{A:Option Nat->List Bool->Prop}{X:List Nat->Prop}{B1:OT->Option St->Prop}{B2:St->Prop}{B3:List Nd->List St->Prop}(fs:List Bool)(h1:gP ops.toArray (cD ops []) 0 ops=true)(h2:kE (cD ops []) 0 ops=fs)(h:A none fs):yc ops A X B1 B2 B3:=
 ⟨.inr<|.inr ⟨none,[],[],fs,.inl ⟨rfl,rfl⟩,by rw[ri,uH];exact⟨⟨h1⟩,h2⟩,h⟩⟩
theorem aaP{ops:List Oper}{A:Option Nat->List Bool->Prop}{X:List Nat->Prop}{B1:OT->Option St->Prop}{B2:St->Prop}{B3:List Nd->List St->Prop}(pre late:List Nat)(fs:List Bool)(hp:iM ops.toArray [] pre=true)(hs:m0 ops.toArray=true)(hl:uw (bQ pre 0 ops).toArray late=true)(hx:X pre)
 (h1:gP (gU (bQ pre 0 ops).toArray late 0 (bQ pre 0 ops)).toArray (cD (gU (bQ pre 0 ops).toArray late 0 (bQ pre 0 ops)) []) 0 (gU (bQ pre 0 ops).toArray late 0 (bQ pre 0 ops))=true)
 (h2:kE (cD (gU (bQ pre 0 ops).toArray late 0 (bQ pre 0 ops)) []) 0 ops=fs) (h:A none fs):yc ops A X B1 B2 B3:=
 ⟨.inr<|.inr ⟨none,pre,late,fs,.inr ⟨hp,hs,hl,.inl ⟨rfl,hx⟩⟩,⟨⟨h1⟩,h2⟩,h⟩⟩
theorem So{ops:List Oper}{A:Option Nat->List Bool->Prop}{X:List Nat->Prop}{B1:OT->Option St->Prop}{B2:St->Prop}{B3:List Nd->List St->Prop}(pre:List Nat)(fs:List Bool)(hp:iM ops.toArray [] pre=true)(hs:m0 ops.toArray=true)(hx:X pre)
 (h1:gP (bQ pre 0 ops).toArray (cD (bQ pre 0 ops) []) 0 (bQ pre 0 ops)=true) (h2:kE (cD (bQ pre 0 ops) []) 0 ops=fs) (h:A none fs):yc ops A X B1 B2 B3:=
 ⟨.inr<|.inr ⟨none,pre,[],fs,.inr ⟨hp,hs,rfl,.inl ⟨rfl,hx⟩⟩,by rw[uH];exact⟨⟨h1⟩,h2⟩,h⟩⟩
theorem yd{ops:List Oper}{A:Option Nat->List Bool->Prop}{X:List Nat->Prop}{B1:OT->Option St->Prop}{B2:St->Prop}{B3:List Nd->List St->Prop}(pre:List Nat)(tr:OT)(s1:St)(hp:iM ops.toArray [] pre=true)(hs:m0 ops.toArray=true)(hx:X pre)(hf:tr.fits pre ops=true)(h1:B1 tr (some s1))(h2:B2 s1):yc ops A X B1 B2 B3:=
 ⟨.inl ⟨pre,tr,some s1,⟨hp,hs,hx⟩,hf,h1,h2⟩⟩
theorem Ok{ops:List Oper}{A:Option Nat->List Bool->Prop}{X:List Nat->Prop}{B1:OT->Option St->Prop}{B2:St->Prop}{B3:List Nd->List St->Prop}(pre:List Nat)(tr:OT)(hp:iM ops.toArray [] pre=true)(hs:m0 ops.toArray=true)(hx:X pre)(hf:tr.fits pre ops=true)(h1:B1 tr none):yc ops A X B1 B2 B3:=
 ⟨.inl ⟨pre,tr,none,⟨hp,hs,hx⟩,hf,h1,hY⟩⟩
theorem Ol{ops:List Oper}{A:Option Nat->List Bool->Prop}{X:List Nat->Prop}{B1:OT->Option St->Prop}{B2:St->Prop}{B3:List Nd->List St->Prop}(pl:List Nd)(S:List St){s1:St}(hf:H6 ops.toArray pl=true)(h3:B3 pl S)(h1:S[pl.length]?=some s1)(h2:B2 s1):yc ops A X B1 B2 B3:=
 ⟨.inr<|.inl ⟨pl,S,s1,hf,h3,h1,h2⟩⟩
section
variable (t:Th)(FC:Nat->List AV->List av->eP->List av->Prop)(T:Nat->Option TI)(G:Nat->Option (List D))(N:Nat)
def stepT(o:Oper)(s:St)(K:AV->List av->Prop)(Q:Ex->St->Prop):Prop:=
 match o.op with
 |.pick c a b=>match(ct G s.sl c).aU with
  |.d (.bool p)=>((ct G s.sl c).ok/\Oj p (ct G s.sl a).ok (ct G s.sl b).ok)/\K (Gv t p (ct G s.sl a).aU (ct G s.sl b).aU) s.bx|_=>False
 |.call {callee:=.value f,args,..}=>match nM (ct G s.sl f).aU (args.toList.map λx=>(ct G s.sl x).aU)with
  |some (i,iz)=>oM FC ((ct G s.sl f).ok/\dK (gE G s.sl args.toList)) i iz (tw t s.bx iz) s.bx (λv bx=>K v bx) (λv bx=>Q (.panic v) ⟨[],bx⟩)|none=>False
 |.panic x=>match(ct G s.sl x).aU with
  |.sG ty v=>(ct G s.sl x).ok/\Q (.panic (.sG ty v)) ⟨[],s.bx⟩|_=>False
 |.range ty x=>match T ty with
  |some ti=>match ti.kd,(ct G s.sl x).aU with
   |.str,.d (.str str)=>(ct G s.sl x).ok/\K (.ptr s.bx.length 0) (s.bx++[.it str 0])|_,_=>False
  |none=>False
 |.next it true=>match(ct G s.sl it).aU with
  |.ptr b 0=>match s.bx[b]? with
   |some (.it str pos)=>(ct G s.sl it).ok/\Rs str pos (λc wd=>K (.c5 [.d (.bool true),.d (.int .i64 (t _ λ_=>pos)),.d (.int .i32 (t _ λ_=>c))]) (s.bx.set b (.it str (t _ λ_=>pos+wd)))) (λ_=>K (.c5 [.d (.bool false)]) s.bx)|_=>False
  |_=>False
 |.binOp .eql ty x (.const (.slice none 0 0)) _=>match T ty,Ph (ct G s.sl x).aU with
  |some ti,some Ln=>match ti.kd with
   |.slice _=>(ct G s.sl x).ok/\NV (t Prop λ_=>Ln) (λb=>K (.d (.bool b)) s.bx)|_=>False
  |_,_=>False
 |.binOp .neq ty x (.const (.slice none 0 0)) _=>match T ty,Ph (ct G s.sl x).aU with
  |some ti,some Ln=>match ti.kd with
   |.slice _=>(ct G s.sl x).ok/\NV (t Prop λ_=>Ln) (λb=>K (.d (.bool (t _ λ_=>!b))) s.bx)|_=>False
  |_,_=>False
 |.makeMap ty none=>match T ty with
  |some ti=>match ti.kd with
   |.map _ e=>match T e with
    |some te=>K (.BS s.bx.length) (s.bx++[.mp te.kd.isAgg []])|none=>False
   |_=>False
  |none=>False
 |.lookup ty m k Ea=>match BZ T ty (ct G s.sl m).aU s.bx,(ct G s.sl k).aU with
  |some (tk,te,ag,es),.d kd=>Lv true (((ct G s.sl m).ok/\(ct G s.sl k).ok)/\(t Prop λ_=>zl tk te ag es kd)) (t _ λ_=>zk es kd) (qO te Ea (λv=>K v s.bx))|_,_=>False
 |.mapUpdate ty m k x=>match F6 T ty (ct G s.sl m).aU s.bx,(ct G s.sl k).aU,(ct G s.sl x).aU.cells? with
  |some (b,tk,te,ag,es),.d kd,some vs=>match cN vs,CO t s.bx vs with
   |true,some (c,ds)=>(((ct G s.sl m).ok/\(ct G s.sl k).ok/\(ct G s.sl x).ok)/\c/\(t Prop λ_=>zl tk te ag es kd)/\Nat.beq ds.length te.size=true/\(ct G s.sl x).aU.isAgg=ag)/\K .any (s.bx.set b (.mp ag (t _ λ_=>vn es kd ds)))|_,_=>False
  |_,_,_=>False
 |.load ty a=>
  match rowAt t (ct G s.sl a).aU s.bx with
  |some (c,ds,j)=>Sk true ((ct G s.sl a).ok/\c) ds (λds=>match T ty with
   |some ti=>match cQ ti.kd.isAgg ti.size ((ds.drop j).map .d)with
    |some v=>K v s.bx|none=>False
   |none=>False)
  |none=>match opT t T (λx=>(ct G s.sl x).aU) (.load ty a) s.bx with
   |some ⟨c,v,b⟩=>(dK (gE G s.sl (Op.load ty a).operands.toList)/\c)/\K v (dU s.bx b)|none=>False
 |op=>
  match(match op with|.indexAddr ty x i=>Sm t T ty (ct G s.sl x).aU (ct G s.sl i).aU|_=>none)with
  |some (c,ds)=>pN true (dK (gE G s.sl op.operands.toList)/\c) ds (λds=>K (.ep ds) s.bx)|none=>match opT t T (λx=>(ct G s.sl x).aU) op s.bx with
   |some ⟨c,v,b⟩=>bif Je (λx=>(ct G s.sl x).aU) op then Sl (dK (gE G s.sl op.operands.toList)/\c) v (dU s.bx b) K
    else(dK (gE G s.sl op.operands.toList)/\c)/\K v (dU s.bx b)
   |none=>False
def pg(dr g:Bool)(o:Oper)(s:St)(K:AV->Prop):Prop:=
 match o.op with
 |.pick c a b=>match(ct G s.sl c).aU with
  |.d (.bool p)=>zG g ((ct G s.sl c).ok/\Oj p (ct G s.sl a).ok (ct G s.sl b).ok)/\K (Gv t p (ct G s.sl a).aU (ct G s.sl b).aU)|_=>False
 |.call {callee:=.value f,args,..}=>match nM (ct G s.sl f).aU (args.toList.map λx=>(ct G s.sl x).aU)with
  |some (i,iz)=>ry FC dr g ((ct G s.sl f).ok/\dK (gE G s.sl args.toList)) i iz s.bx (tw t s.bx iz) (λv=>K v)|none=>False
 |.call {callee:=.invoke r nm,args,..}=>match YC T (ct G s.sl r).aU with
  |some (n,i,v)=>XI n nm (ry FC true g ((ct G s.sl r).ok/\dK (gE G s.sl args.toList)) i (v::(args.toList.map λx=>(ct G s.sl x).aU)) s.bx (tw t s.bx (v::(args.toList.map λx=>(ct G s.sl x).aU))) (λv=>K v))|none=>False
 |.load ty a=>
  match rowAt t (ct G s.sl a).aU s.bx with
  |some (c,ds,j)=>Sk g ((ct G s.sl a).ok/\c) ds (λds=>match T ty with
   |some ti=>match cQ ti.kd.isAgg ti.size ((ds.drop j).map .d)with
    |some v=>K v|none=>False
   |none=>False)
  |none=>match opT t T (λx=>(ct G s.sl x).aU) (.load ty a) s.bx with
   |some ⟨c,v,none⟩=>zG g (dK (gE G s.sl (Op.load ty a).operands.toList)/\c)/\K v|_=>False
 |op=>
  match(match op with|.indexAddr ty x i=>Sm t T ty (ct G s.sl x).aU (ct G s.sl i).aU|_=>none)with
  |some (c,ds)=>pN g (dK (gE G s.sl op.operands.toList)/\c) ds (λds=>K (.ep ds))|none=>match opT t T (λx=>(ct G s.sl x).aU) op s.bx with
   |some ⟨c,v,none⟩=>bif Je (λx=>(ct G s.sl x).aU) op then XG g (dK (gE G s.sl op.operands.toList)/\c) v K
    else zG g (dK (gE G s.sl op.operands.toList)/\c)/\K v
   |_=>match Yz t T (λx=>(ct G s.sl x).aU) op with
    |some (c,es)=>zG g (dK (gE G s.sl op.operands.toList)/\c)/\K (.d (.sl es))|none=>False
def pZ(sl:List (Nat×AV))(ops:List Oper)(j:Nat)(want:Bool):Option Bool:=
 match ops[j]? with
 |some o=>match o.dst with
  |some u=>match fK u sl with
   |.d (.bool q)=>some (bif want then q else t _ λ_=>!q)|.cond g (.d (.bool q))=>some (t _ λ_=>g&&(bif want then q else !q))|_=>none
  |none=>none
 |none=>none
def Jf(ops:List Oper):List Oper->(Ex->St->Prop)->St->Prop
 |[],Q,s=>Q .normal s|o::rest,Q,s=>bif gr N o.dst then
  match o.guard with
  |none=>stepT t FC T G o s (λv bx=>Jf ops rest Q ⟨eJ o.dst v s.sl,bx⟩) Q|some (j,want)=>match pZ t s.sl ops j want with
   |some g=>pg t FC T G false g o s (λv=>Jf ops rest Q ⟨eJ o.dst (.cond g v) s.sl,s.bx⟩)|none=>False
  else False
def Sp(o:Oper)(sl:List (Nat×AV))(iT:List av)(x:Nat)(K:AV->av->Prop):Prop:=
 match o.op with
 |.call {callee:=.value f,args,..}=>match nM (ct G sl f).aU (args.toList.map λx=>(ct G sl x).aU)with
  |some (i,iz)=>XH FC ((ct G sl f).ok/\dK (gE G sl args.toList)) i iz (tw t iT iz) iT[x]? x K|none=>False
 |_=>False
def vH(ops:List Oper)(base:Nat):List Bool->List av->Nat->List Oper->(Ex->St->Prop)->St->Prop
 |_,_,_,[],Q,s=>Q .normal s|[],_,_,_::_,_,_=>False|f::fs,iT,k,o::rest,Q,s=>bif gr N o.dst then
  bif f then match o.guard with
   |none=>stepT t FC T G o s (λv bx=>vH ops base fs bx k rest Q ⟨eJ o.dst v s.sl,bx⟩) Q|some (j,want)=>match pZ t s.sl ops j want with
    |some g=>pg t FC T G true g o s (λv=>vH ops base fs s.bx k rest Q ⟨eJ o.dst (.cond g v) s.sl,s.bx⟩)|none=>False
  else match jh T G s.sl o with
   |some cs=>match iT[base+k]? with
    |some .bJ=>vH ops base fs iT (k+1) rest Q ⟨eJ o.dst (.ptr (base+k) 0) s.sl,s.bx.set (base+k) (.var cs)⟩|_=>False
   |none=>match o.guard with
    |none=>bif Sn o.op then pg t FC T G true true o ⟨s.sl,iT⟩ (λv=>vH ops base fs iT k rest Q ⟨eJ o.dst v s.sl,s.bx⟩)∨
     Sp t FC G o s.sl iT (base+k) (λv B=>vH ops base fs iT (k+1) rest Q ⟨eJ o.dst v s.sl,s.bx.set (base+k) B⟩)
     else pg t FC T G true true o ⟨s.sl,iT⟩ (λv=>vH ops base fs iT k rest Q ⟨eJ o.dst v s.sl,s.bx⟩)
    |some (j,want)=>match pZ t s.sl ops j want with
     |some g=>pg t FC T G true g o ⟨s.sl,iT⟩ (λv=>vH ops base fs iT k rest Q ⟨eJ o.dst (.cond g v) s.sl,s.bx⟩)|none=>False
  else False
def Gx(i:Nat)(s:St):Option (Prop×St):=match fzT t s.bx (fK i s.sl)with
 |some (c,y)=>some (c,⟨put i y s.sl,(fK i s.sl).cE s.bx⟩)|none=>none
def Sq(k:Option Nat)(s:St)(K:St->Prop):Prop:=match k with
 |none=>K s|some i=>match Gx t i s with
  |some (c,s1)=>c/\K s1|none=>False
def wj(ops:List Oper)(i:Nat)(K:St->Prop)(Q:Ex->St->Prop)(s:St):Prop:=match ops[i]? with
 |some o=>bif gr N o.dst then match o.guard with
  |none=>stepT t FC T G o s (λv bx=>K ⟨eJ o.dst v s.sl,bx⟩) Q|some (j,want)=>match pZ t s.sl ops j want with
   |some g=>zj (.d (.bool g)) (λ_=>stepT t FC T G o s (λv bx=>K ⟨eJ o.dst (.cond true v) s.sl,bx⟩) Q) (λ_=>K ⟨eJ o.dst (.cond false .any) s.sl,s.bx⟩)|none=>False
  else False
 |none=>False
def Jg(ops:List Oper)(Q:Ex->St->Prop)(R:St->Prop):OT->St->Prop
 |.done,s=>R s|.one i o,s=>wj t FC T G N ops i (Jg ops Q R o) Q s|.more i o r,s=>wj t FC T G N ops i (Jg ops Q R o) Q s/\Jg ops Q R r s
inductive p8(ops:List Oper)(Q:Ex->St->Prop)(S:List St)(s:St):List (Nat×Nat)->Prop
 |nil:p8 ops Q S s []|cons {p i:Nat} {r:List (Nat×Nat)} {s0:St} (hs:S[p]?=some s0) (h:wj t FC T G N ops i (λs1=>(⟨F8 s1.sl,s1.bx⟩:St)=s) Q s0) (hr:p8 ops Q S s r):p8 ops Q S s ((p,i)::r)
inductive vq(ops:List Oper)(Q:Ex->St->Prop)(S:List St):Nat->List Nd->Prop
 |nil {k:Nat}:vq ops Q S k []|cons {k:Nat} {nd:Nd} {r:List Nd} {s:St} (hs:S[k]?=some s) (hp:p8 t FC T G N ops Q S s nd.ps) (hr:vq ops Q S (k+1) r):vq ops Q S k (nd::r)
inductive Mb(ops:List Oper)(Q:Ex->St->Prop)(s:St)(pl:List Nd)(S:List St):Prop
 |mk (first:S[0]?=some s) (all:vq t FC T G N ops Q S 1 pl):Mb ops Q s pl S|few {s0:St} (ks:List Nat) (eq:(⟨Am ks s.sl,s.bx⟩:St)=s0) (first:S[0]?=some s0) (all:vq t FC T G N ops Q S 1 pl):Mb ops Q s pl S
def Om(ops:List Oper)(Q:Ex->St->Prop)(s:St):Prop:=
 yc ops (λk fs=>Sq t k s λs=>vH t FC T G N ops s.bx.length fs (s.bx++List.replicate (qP ops) .bJ) 0 ops Q ⟨s.sl,s.bx++List.replicate (qP ops) .bJ⟩) (λpre=>Ev G N ops pre s.sl=true)
  (λtr s1=>Jg t FC T G N ops Q (atEnd s1) tr s) (λs1=>Q .normal s1) (λpl S=>Mb t FC T G N ops Q s pl S)
end
section
variable {FC:Nat->List AV->List av->eP->List av->Prop}{T:Nat->Option TI}{G:Nat->Option (List D)}{N:Nat}
theorem rA(sl:List (Nat×AV))(ops:List Oper)(j:Nat)(want:Bool):pZ t0 sl ops j want=guardOf sl ops j want:=by unfold pZ guardOf;rfl
theorem On{ti:TI}{a:AV}{bx:List av}{c:Prop}{ds:List D}{j:Nat}(h:rowAt t0 a bx=some (c,ds,j))(hc:c){v:AV}(hv:cQ ti.kd.isAgg ti.size ((ds.drop j).map .d)=some v):pY (rX ti a bx) v none:=by
 unfold rowAt at h;split at h
 .rename_i b sz i j';split at h
  .rename_i s es hb;cases hs:Nat.beq s sz with
   |false=>simp[hs]at h|true=>
   simp only[hs,cond_true,osI,vab]at h;obtain⟨rfl,rfl,rfl⟩:=h;have YD:cQ ti.kd.isAgg ti.size (((es.getD i []).drop j').map .d)=some v:=hv
   simp only[rX,hb,YD];exact⟨_,rfl,vaf hs,hc⟩
  .rename_i s es hb;cases hs:Nat.beq s sz with
   |false=>simp[hs]at h|true=>
   simp only[hs,cond_true,osI,vab]at h;obtain⟨rfl,rfl,rfl⟩:=h;have YD:cQ ti.kd.isAgg ti.size (((es.getD i []).drop j').map .d)=some v:=hv
   simp only[rX,hb,YD];exact⟨_,rfl,vaf hs,hc⟩
  simp at h
 simp at h
theorem Oo(T:Nat->Option TI)(G:Nat->Option (List D))(s:St)(op:Op):(match op with|.indexAddr ty x i=>Sm t0 T ty (ct G s.sl x).aU (ct G s.sl i).aU|_=>none)=(match op with|.indexAddr ty x i=>BY T ty (ct G s.sl x).aU (ct G s.sl i).aU|_=>none):=by cases op<;>first|rfl|exact Yy
theorem VF{kX:Prop}{f:Nat}{args:List AV}{bx:List av}{K K':AV->List av->Prop}{Kp:AV->List av->Prop}(hK:∀v bx,K v bx->K' v bx)
 (h:oM FC kX f args (tw t0 bx args) bx K Kp):Rq FC kX f args bx K' Kp:=by
 obtain⟨h0,h|h⟩:=h
 .obtain⟨c,args',h1,h2,h3,h4⟩:=h;refine⟨h0,.inl ⟨args',iF h1 h2,h3,?_⟩⟩;rcases h4 with⟨v,k1,k2,k3⟩|⟨sz,n,es,k1,k2,k3⟩
  .exact .inl ⟨v,k1,k2,hK _ _ k3⟩
  exact .inr ⟨sz,n,es,k1,k2,hK _ _ k3⟩
 obtain⟨args',sL,res,gY,h1,h2,h3⟩:=h;refine⟨h0,.inr ⟨args',sL,res,gY,?_,h2,?_⟩⟩
 .rcases h1 with h1|⟨⟨c,k1,k2⟩,k3⟩
  .exact .inl h1
  exact .inr ⟨iF k1 k2,k3⟩
 cases res with
 |ret v=>exact hK _ _ h3|zh v=>exact h3
theorem Jh{te:TI}{Ea:Bool}{K K':AV->Prop}(hK:∀v,K v->K' v){o:Option (List D)}(h:qO te Ea K o):qO te Ea K' o:=by
 cases o with
 |none=>
  simp only[qO]at h ⊢;split at h
  .exact hK _ h
  exact h.elim
 |some ds=>
  simp only[qO]at h ⊢;split at h
  .exact hK _ h
  exact h.elim
theorem ye{o:Oper}{s:St}{K K':AV->List av->Prop}{Q:Ex->St->Prop}(hK:∀v bx,K v bx->K' v bx)(h:stepT t0 FC T G o s K Q):sM FC T G o s K' Q:=by
 unfold stepT at h;unfold sM;split at h
 .rename_i c a b ho;simp only[ho];split at h
  .rename_i p hc;simp only[hc];rw[Jc]at h;exact⟨⟨h.1.1,h.1.2.ok⟩,hK _ _ h.2⟩
  exact h.elim
 .rename_i f args ats ho;simp only[ho];split at h
  .rename_i i iz hf;simp only[hf];exact VF hK h
  exact h.elim
 .rename_i x ho;simp only[ho];split at h
  .rename_i ty v hx;simp only[hx];exact h
  exact h.elim
 .rename_i ty x ho;simp only[ho];split at h
  .rename_i ti ht;simp only[ht];split at h
   .rename_i str hk hx;simp only[hk,hx];exact⟨h.1,hK _ _ h.2⟩
   exact h.elim
  exact h.elim
 .rename_i it ho;simp only[ho];split at h
  .rename_i b hx;simp only[hx];split at h
   .rename_i str pos hb;simp only[hb];exact⟨h.1,⟨λhp=>hK _ _ (h.2.ok.1 hp),λhp=>hK _ _ (h.2.ok.2 hp)⟩⟩
   exact h.elim
  exact h.elim
 .rename_i ty x t2 ho;simp only[ho];split at h
  .rename_i ti Ln ht he;simp only[ht,he];split at h
   .rename_i e hk;simp only[hk];exact⟨h.1,⟨λb hb=>hK _ _ (h.2.ok b hb)⟩⟩
   exact h.elim
  exact h.elim
 .rename_i ty x t2 ho;simp only[ho];split at h
  .rename_i ti Ln ht he;simp only[ht,he];split at h
   .rename_i e hk;simp only[hk];exact⟨h.1,⟨λb hb=>hK _ _ (h.2.ok b hb)⟩⟩
   exact h.elim
  exact h.elim
 .rename_i ty ho;simp only[ho];split at h
  .rename_i ti ht;simp only[ht];split at h
   .rename_i mk me hk;simp only[hk];split at h
    .rename_i te hte;simp only[hte];exact hK _ _ h
    exact h.elim
   exact h.elim
  exact h.elim
 .rename_i ty m k Ea ho;simp only[ho];split at h
  .rename_i tk te ag es kd hm hk;simp only[hm,hk];obtain⟨o',hg,hk⟩:=h;exact⟨o',hg,Jh (λv hv=>hK _ _ hv) hk⟩
  exact h.elim
 .rename_i ty m k x ho;simp only[ho];split at h
  .rename_i b tk te ag es kd vs hm hk hc;simp only[hm,hk,hc];split at h
   .rename_i c dsv LR hd1;obtain⟨⟨g1,g2,g3,g4,g5⟩,g6⟩:=h;simp only[LR,ya hd1 g2];exact⟨⟨g1,g3,vaf g4,g5⟩,hK _ _ g6⟩
   exact h.elim
  exact h.elim
 .rename_i ty a ho;simp only[ho];split at h
  .rename_i c ds j hr;obtain⟨ds',hg,hk⟩:=h;obtain⟨⟨h1,h2⟩,rfl⟩:=hg rfl;split at hk
   .rename_i ti ht;split at hk
    .rename_i v hv;obtain⟨c',e,zi⟩:=On hr h2 hv;simp only[HM,ke,cond_false,m8,ht,e];exact⟨⟨⟨h1,hY⟩,zi⟩,hK _ _ hk⟩
    exact hk.elim
   exact hk.elim
  split at h
  .rename_i c v b hr;obtain⟨⟨h1,h2⟩,h3⟩:=h;obtain⟨c',e,zi⟩:=Oh hr h2;simp only[e];exact⟨⟨h1,zi⟩,hK _ _ h3⟩
  exact h.elim
 rename_i e1 e2 e3 e4 e5 e6 e7 m1 m2 m3 e8;split
 .rename_i ho;exact absurd ho (e1 _ _ _)
 .rename_i ho;exact absurd ho (e2 _ _ _)
 .rename_i ho;exact absurd ho (e3 _)
 .rename_i ho;exact absurd ho (e4 _ _)
 .rename_i ho;exact absurd ho (e5 _)
 .rename_i ho;exact absurd ho (e6 _ _ _)
 .rename_i ho;exact absurd ho (e7 _ _ _)
 .rename_i ho;exact absurd ho (m1 _)
 .rename_i ho;exact absurd ho (m2 _ _ _ _)
 .rename_i ho;exact absurd ho (m3 _ _ _ _)
 have hm:=Oo T G s o.op;show match(match o.op with|.indexAddr ty x i=>BY T ty (ct G s.sl x).aU (ct G s.sl i).aU|_=>none)with
  |some (c,ds)=>pN true (dK (gE G s.sl o.op.operands.toList)/\c) ds (λds=>K' (.ep ds) s.bx)|none=>match HM T (λx=>(ct G s.sl x).aU) o.op s.bx with
   |some ⟨c,v,b⟩=>(dK (gE G s.sl o.op.operands.toList)/\c)/\K' v (dU s.bx b)|none=>False
 split at h
 .rename_i c ds hi;rw[hm]at hi;simp only[hi];obtain⟨ds',hg,hk⟩:=h;exact⟨ds',hg,hK _ _ hk⟩
 rename_i hi;rw[hm]at hi;simp only[hi];split at h
 .rename_i c v b hr;have h:(dK (gE G s.sl o.op.operands.toList)/\c)/\K v (dU s.bx b):=by
   generalize Je _ _=q at h;cases q with
   |false=>exact h|true=>obtain⟨v',aE,k1,rfl,rfl,k2⟩:=h;exact⟨k1,k2⟩
  obtain⟨⟨h1,h2⟩,h3⟩:=h;obtain⟨c',e,zi⟩:=Oh hr h2;simp only[e];exact⟨⟨h1,zi⟩,hK _ _ h3⟩
 exact h.elim
theorem Ji{dr g:Bool}{o:Oper}{s:St}{K:AV->Prop}(h:pg t0 FC T G dr g o s K):∃v,K v:=by
 unfold pg at h;split at h
 .split at h
  .exact⟨_,h.2⟩
  exact h.elim
 .split at h
  .obtain⟨_,v,_,hK⟩|⟨v,_,hK⟩:=h
   .exact⟨v,hK⟩
   exact⟨v,hK⟩
  exact h.elim
 .split at h
  .obtain⟨_,⟨_,v,_,hK⟩|⟨v,_,hK⟩⟩:=h
   .exact⟨v,hK⟩
   exact⟨v,hK⟩
  exact h.elim
 .split at h
  .obtain⟨ds',_,hk⟩:=h;split at hk
   .split at hk
    .exact⟨_,hk⟩
    exact hk.elim
   exact hk.elim
  split at h
  .exact⟨_,h.2⟩
  exact h.elim
 split at h
 .obtain⟨ds,_,hK⟩:=h;exact⟨_,hK⟩
 split at h
 .generalize Je _ _=q at h;cases q with
  |false=>exact⟨_,h.2⟩|true=>obtain⟨v',_,k2⟩:=h;exact⟨_,k2⟩
 split at h
 .exact⟨_,h.2⟩
 exact h.elim
theorem EV{dr g:Bool}{o:Oper}{s:St}{K K':AV->Prop}(hK:∀v,K v->K' v)(h:pg t0 FC T G dr g o s K):stepG FC T G g o s K'∨dr=false/\vQ FC G g o s K':=by
 cases g with
 |false=>obtain⟨v,h⟩:=Ji h;exact .inl (.inl ⟨rfl,v,hK v h⟩)
 |true=>
 by_cases XK:∃(f:Operand) (args:Array Operand) (ats:Array TypeId) (i:Nat) (iz:List AV),o.op=.call {callee:=.value f,args:=args,argTypes:=ats}/\nM (ct G s.sl f).aU (args.toList.map λx=>(ct G s.sl x).aU)=some (i,iz)/\
  dr=false/\∃v,(true=true->((ct G s.sl f).ok/\dK (gE G s.sl args.toList))/\FC i iz s.bx (.ret v) s.bx)/\K v
 .obtain⟨f,args,ats,i,iz,ho,hf,hd,v,h1,h2⟩:=XK;refine .inr ⟨hd,?_⟩;unfold vQ;simp only[ho,hf];exact⟨v,λ_=>h1 rfl,hK _ h2⟩
 by_cases aaQ:∃c es,Ec T (λx=>(ct G s.sl x).aU) o.op=some (c,es)/\(dK (gE G s.sl o.op.operands.toList)/\c)/\K (.d (.sl es))
 .obtain⟨c,es,h1,h2,h3⟩:=aaQ;exact .inl (.inr (.inr ⟨c,es,h1,λ_=>h2,hK _ h3⟩))
 refine .inl (.inr (.inl ?_));unfold pg at h;unfold zm;split at h
 .rename_i c a b ho;simp only[ho];split at h
  .rename_i p hc;simp only[hc];rw[Jc]at h;have h1:true=true->(ct G s.sl c).ok/\(p=true->(ct G s.sl a).ok)/\(p=false->(ct G s.sl b).ok):=λe=>⟨(h.1.ok e).1,(h.1.ok e).2.ok⟩
   exact⟨λ_=>h1 rfl,hK _ h.2⟩
  exact h.elim
 .rename_i f args ats ho;simp only[ho];split at h
  .rename_i i iz hf;simp only[hf];obtain⟨hd,v,h1,h2⟩|⟨v,h1,h2⟩:=h
   .exact absurd ⟨f,args,ats,i,iz,ho,hf,hd,v,h1,h2⟩ XK
   refine⟨v,λhg=>?_,hK _ h2⟩;obtain⟨k1,args',kY,⟨c,k2,k3⟩,k4,k5,k6⟩:=h1 hg;exact⟨k1,args',kY,iF k2 k3,k4,k5,k6⟩
  exact h.elim
 .rename_i f nm args ats ho;simp only[ho];split at h
  .rename_i n i v0 hf;obtain⟨rfl,h⟩:=h;simp only[VE _ hf];obtain⟨hd,v,h1,h2⟩|⟨v,h1,h2⟩:=h
   .cases hd
   refine⟨v,λhg=>?_,hK _ h2⟩;obtain⟨k1,args',kY,⟨c,k2,k3⟩,k4,k5,k6⟩:=h1 hg;exact⟨k1,args',kY,iF k2 k3,k4,k5,k6⟩
  exact h.elim
 .rename_i ty a ho;simp only[ho];split at h
  .rename_i c ds j hr;obtain⟨ds',hg,hk⟩:=h;obtain⟨⟨h1,h2⟩,rfl⟩:=hg rfl;split at hk
   .rename_i ti ht;split at hk
    .rename_i v hv;obtain⟨c',e,zi⟩:=On hr h2 hv;simp only[HM,ke,cond_false,m8,ht,e];exact⟨λ_=>⟨⟨h1,hY⟩,zi⟩,hK _ hk⟩
    exact hk.elim
   exact hk.elim
  split at h
  .rename_i c v hr;obtain⟨h1,h3⟩:=h;have h1:true=true->dK (gE G s.sl (Op.load ty a).operands.toList)/\c:=h1.ok
   obtain⟨c',e,zi⟩:=Oh hr (h1 rfl).2;simp only[e];exact⟨λ_=>⟨(h1 rfl).1,zi⟩,hK _ h3⟩
  exact h.elim
 rename_i e1 e2 e2' e3;split
 .rename_i ho;exact absurd ho (e1 _ _ _)
 .rename_i ho;exact absurd ho (e2 _ _ _)
 .rename_i ho;exact absurd ho (e2' _ _ _ _)
 have hm:=Oo T G s o.op;split at h
 .rename_i c ds hi;rw[hm]at hi;show match(match o.op with|.indexAddr ty x i=>BY T ty (ct G s.sl x).aU (ct G s.sl i).aU|_=>none)with
   |some (c,ds)=>pN true (dK (gE G s.sl o.op.operands.toList)/\c) ds (λds=>K' (.ep ds))|none=>match HM T (λx=>(ct G s.sl x).aU) o.op s.bx with
    |some ⟨c,v,none⟩=>(true=true->dK (gE G s.sl o.op.operands.toList)/\c)/\K' v|_=>False
  simp only[hi];obtain⟨ds',hg,hk⟩:=h;exact⟨ds',hg,hK _ hk⟩
 rename_i hi;rw[hm]at hi;show match(match o.op with|.indexAddr ty x i=>BY T ty (ct G s.sl x).aU (ct G s.sl i).aU|_=>none)with
  |some (c,ds)=>pN true (dK (gE G s.sl o.op.operands.toList)/\c) ds (λds=>K' (.ep ds))|none=>match HM T (λx=>(ct G s.sl x).aU) o.op s.bx with
   |some ⟨c,v,none⟩=>(true=true->dK (gE G s.sl o.op.operands.toList)/\c)/\K' v|_=>False
 simp only[hi];split at h
 .rename_i c v hr;have h:zG true (dK (gE G s.sl o.op.operands.toList)/\c)/\K v:=by
   generalize Je _ _=q at h;cases q with
   |false=>exact h|true=>obtain⟨v',k0,k2⟩:=h;obtain⟨k1,rfl⟩:=k0 rfl;exact⟨⟨λ_=>k1⟩,k2⟩
  obtain⟨h1,h3⟩:=h;have h1:true=true->dK (gE G s.sl o.op.operands.toList)/\c:=h1.ok
  obtain⟨c',e,zi⟩:=Oh hr (h1 rfl).2;simp only[e];exact⟨λ_=>⟨(h1 rfl).1,zi⟩,hK _ h3⟩
 split at h
 .rename_i c es ha;rw[YA]at ha;exact absurd ⟨c,es,ha,h.1.ok rfl,h.2⟩ aaQ
 exact h.elim
theorem yf{g:Bool}{o:Oper}{s:St}{K K':AV->Prop}(hK:∀v,K v->K' v)(h:pg t0 FC T G true g o s K):stepG FC T G g o s K':=by
 rcases EV hK h with h|⟨h,_⟩
 .exact h
 cases h
theorem CU{ops:List Oper}{Q:Ex->St->Prop}:∀(l:List Oper) (s:St),Jf t0 FC T G N ops l Q s->HZ FC T G N ops l Q s
 |[],_,h=>h|o::l,s,h=>by
  unfold Jf at h;unfold HZ;cases hd:gr N o.dst with
  |false=>simp[hd]at h|true=>
  simp only[hd,cond_true]at h ⊢;split at h
  .rename_i hg;simp only[hg];exact ye (λv bx hK=>CU l _ hK) h
  rename_i j want hg;simp only[hg];rw[rA]at h;split at h
  .rename_i g Lo;simp only[Lo];rcases EV (λv hK=>CU l _ hK) h with h|⟨_,h⟩
   .exact .inl h
   exact .inr h
  exact h.elim
theorem VG{o:Oper}{sl:List (Nat×AV)}{iT:List av}{x:Nat}{K K':AV->av->Prop}(hK:∀v B,K v B->K' v B)(h:Sp t0 FC G o sl iT x K):nN FC G o sl iT x K':=by
 unfold Sp at h;split at h
 .rename_i f args ats ho;split at h
  .rename_i i iz hf;obtain⟨args',sz,n,es,h1,⟨c,h2,h3⟩,h4,h5,h6,h7,h8⟩:=h;exact⟨f,args,ats,i,iz,args',sz,n,es,ho,hf,h1,iF h2 h3,h4,h5,h6,h7,hK _ _ h8⟩
  exact h.elim
 exact h.elim
theorem nv{ops:List Oper}{b:List Nat}{base:Nat}{Q:Ex->St->Prop}:∀(l:List Oper) (iT:List av) (k i:Nat) (s:St),vH t0 FC T G N ops base (kE b i l) iT k l Q s->pP FC T G N ops b base iT k i l Q s
 |[],_,_,_,_,h=>h|o::l,iT,k,i,s,h=>by
  unfold kE vH at h;unfold pP;cases hd:gr N o.dst with
  |false=>simp[hd]at h|true=>
  simp only[hd,cond_true]at h ⊢;cases hb:barrier b i with
  |true=>
   simp only[hb,cond_true]at h ⊢;split at h
   .rename_i hg;simp only[hg];exact ye (λv bx hK=>nv l _ _ _ _ hK) h
   rename_i j want hg;simp only[hg];rw[rA]at h;split at h
   .rename_i g Lo;simp only[Lo];exact yf (λv hK=>nv l _ _ _ _ hK) h
   exact h.elim
  |false=>
   simp only[hb,cond_false]at h ⊢;split at h
   .rename_i cs BA;simp only[BA];split at h
    .rename_i hu;simp only[hu];exact nv l _ _ _ _ h
    exact h.elim
   rename_i BA;simp only[BA];split at h
   .rename_i hg;simp only[hg];cases U4:Sn o.op with
    |false=>simp only[U4,cond_false]at h;exact .inl (yf (λv hK=>nv l _ _ _ _ hK) h)|true=>
     simp only[U4,cond_true]at h;rcases h with h|h
     .exact .inl (yf (λv hK=>nv l _ _ _ _ hK) h)
     exact .inr (VG (λv B hK=>nv l _ _ _ _ hK) h)
   rename_i j want hg;simp only[hg];rw[rA]at h;split at h
   .rename_i g Lo;simp only[Lo];exact yf (λv hK=>nv l _ _ _ _ hK) h
   exact h.elim
theorem CV{ops:List Oper}{i:Nat}{K K':St->Prop}{Q:Ex->St->Prop}{s:St}(hK:∀s,K s->K' s)(h:wj t0 FC T G N ops i K Q s):Al FC T G N ops i K' Q s:=by
 unfold wj at h;unfold Al;cases ho:ops[i]? with
 |none=>rw[ho]at h;exact h.elim|some o=>
  rw[ho]at h;simp only at h ⊢;cases hd:gr N o.dst with
  |false=>rw[hd]at h;exact h.elim|true=>
   rw[hd]at h;simp only[cond_true]at h ⊢;cases hg:o.guard with
   |none=>rw[hg]at h;simp only at h ⊢;exact ye (λv bx h=>hK _ h) h|some q=>
    obtain⟨j,want⟩:=q;rw[hg]at h;simp only[rA]at h ⊢;cases Lo:guardOf s.sl ops j want with
    |none=>rw[Lo]at h;exact h.elim|some g=>rw[Lo]at h;simp only at h ⊢;obtain⟨h⟩:=h;exact⟨⟨λe=>ye (λv bx h=>hK _ h) (h.1 e),λe=>hK _ (h.2 e)⟩⟩
theorem BH{ops:List Oper}{Q:Ex->St->Prop}{R:St->Prop}:∀(tr:OT) (s:St),Jg t0 FC T G N ops Q R tr s->Pj FC T G N ops Q R tr s
 |.done,_,h=>h|.one i o,s,h=>CV (λs h=>BH o s h) h|.more i o r,s,h=>⟨CV (λs h=>BH o s h) h.1,BH r s h.2⟩
theorem Oq{ops:List Oper}{Q:Ex->St->Prop}{S:List St}{s:St}:∀{l:List (Nat×Nat)},p8 t0 FC T G N ops Q S s l->H7 FC T G N ops Q S s l
 |_,.nil=>trivial|_,.cons hs h hr=>by refine⟨?_,Oq hr⟩;rw[hs];exact CV (λs h=>h) h
theorem Mc{ops:List Oper}{Q:Ex->St->Prop}{S:List St}:∀{k:Nat} {l:List Nd},vq t0 FC T G N ops Q S k l->allM FC T G N ops Q S k l
 |_,_,.nil=>trivial|_,_,.cons hs hp hr=>by refine⟨?_,Mc hr⟩;rw[hs];exact Oq hp
theorem VH{ops:List Oper}{Q:Ex->St->Prop}{s:St}(h:Om t0 FC T G N ops Q s):Rv FC T G N ops Q s∨∃i c s1,Gx t0 i s=some (c,s1)/\c/\Rv FC T G N ops Q s1:=by
 obtain⟨⟨pre,tr,s1,g1,g2,g3,g4⟩|⟨pl,S,s1,g1,gd,g4,g5⟩|⟨k,pre,late,fs,h0,⟨h1,rfl⟩,h2⟩⟩:=h
 .exact .inl (.inl ⟨pre,tr,s1,g1,g2,BH tr s g3,by cases s1<;>exact g4⟩)
 .cases gd with
  |mk g2 g3=>exact .inl (.inr (.inl ⟨pl,S,s1,_,g1,⟨g2,.inl rfl⟩,g4,Mc g3,g5⟩))|few ks ge g2 g3=>subst ge;exact .inl (.inr (.inl ⟨pl,S,s1,_,g1,⟨g2,.inr ⟨ks,rfl⟩⟩,g4,Mc g3,g5⟩))
 cases k with
 |none=>
  refine .inl<|.inr<|.inr ⟨pre,late,h0.imp id ?_,h1,nv _ _ _ _ _ h2⟩;rintro⟨g1,g2,g3,⟨_,g4⟩|rfl⟩
  .exact⟨g1,g2,g3,g4⟩
  exact⟨g1,g2,g3,rfl⟩
 |some i=>
  right;simp only[Sq]at h2;split at h2
  .rename_i c s1 hs;refine⟨i,c,s1,hs,h2.1,.inr<|.inr ⟨pre,late,?_,h1,nv _ _ _ _ _ h2.2⟩⟩;rcases h0 with h0|⟨g1,g2,g3,⟨h0,_⟩|rfl⟩
   .exact .inl h0
   .cases h0
   exact .inr ⟨g1,g2,g3,rfl⟩
  exact h2.elim
end
end Dem
end
section
open Go
namespace Dem
mutual
def AV.iU (m:Nat->Option Nat):AV->Option AV
 |.any=>some .any|.d x=>some (.d x)|.k c=>some (.k c)|.agg cs=>match AV.wm m cs with
  |some ys=>some (.agg ys)|none=>none
 |.c5 cs=>match AV.wm m cs with
  |some ys=>some (.c5 ys)|none=>none
 |.ptr b off=>match m b with
  |some j=>some (.ptr j off)|none=>none
 |.rp b sz i q=>match m b with
  |some j=>some (.rp j sz i q)|none=>none
 |.ep ds=>some (.ep ds)|.ow b sz n=>match m b with
  |some j=>some (.ow j sz n)|none=>none
 |.vw b sz off n c ex=>match m b with
  |some j=>some (.vw j sz off n c ex)|none=>none
 |.cl es=>some (.cl es)|.BS b=>match m b with
  |some j=>some (.BS j)|none=>none
 |.fn f cs=>match AV.wm m cs with
  |some ys=>some (.fn f ys)|none=>none
 |.sG t x=>match AV.iU m x with
  |some y=>some (.sG t y)|none=>none
 |.cond p x=>match AV.iU m x with
  |some y=>some (.cond p y)|none=>none
def AV.wm (m:Nat->Option Nat):List AV->Option (List AV)
 |[]=>some []|x::xs=>match AV.iU m x,AV.wm m xs with
  |some y,some ys=>some (y::ys)|_,_=>none
end
mutual
def AV.refs:AV->List Nat
 |.ptr b _=>[b]|.rp b _ _ _=>[b]|.ow b _ _=>[b]|.vw b _ _ _ _ _=>[b]|.BS b=>[b]|.agg cs=>AV.CW cs|.c5 cs=>AV.CW cs|.fn _ cs=>AV.CW cs|.sG _ x=>AV.refs x|.cond _ x=>AV.refs x|_=>[]
def AV.CW:List AV->List Nat
 |[]=>[]|x::xs=>AV.refs x++AV.CW xs
end
def XL(b:Nat):List Nat->Bool
 |[]=>false|x::r=>bif Nat.beq b x then true else XL b r
def dD(b:Nat):List Nat->Nat->Option Nat
 |[],_=>none|x::r,i=>bif Nat.beq b x then some i else dD b r (i+1)
def reach(bx:List av):Nat->List Nat->List Nat->List Nat
 |0,_,acc=>acc|_+1,[],acc=>acc|n+1,b::todo,acc=>bif XL b acc then reach bx n todo acc else
  reach bx n (todo++(match bx[b]? with|some (.var cs)=>AV.CW cs|_=>[])) (acc++[b])
def av.iU (m:Nat->Option Nat):av->Option av
 |.var cs=>match AV.wm m cs with
  |some ys=>some (.var ys)|none=>none
 |b=>some b
def fQ(m:Nat->Option Nat)(bx:List av):List Nat->Option (List av)
 |[]=>some []|i::r=>match bx[i]? with
  |some b=>match av.iU m b,fQ m bx r with
   |some b',some bs=>some (b'::bs)|_,_=>none
  |none=>none
def Jj(m:Nat->Option Nat)(sl:List (Nat×AV)):List Nat->Option (List (Nat×AV))
 |[]=>some []|i::r=>match AV.iU m (fK i sl),Jj m sl r with
  |some y,some ys=>some ((i,y)::ys)|_,_=>none
def Gy(cj:List Nat):Nat->List Nat->Bool
 |_,[]=>true|i,b::r=>(match dD b cj 0 with|some j=>Nat.beq i j|none=>false)&&Gy cj (i+1) r
def upTo:Nat->List Nat
 |0=>[]|n+1=>upTo n++[n]
def Sr(K:Nat)(ks:List Nat)(s:St):Option St:=
 match reach s.bx 99 (upTo K++AV.CW (ks.map λi=>fK i s.sl)) []with
 |cj=>bif Gy cj 0 cj&&Gy cj 0 (upTo K)then
  match fQ (λb=>dD b cj 0) s.bx cj,Jj (λb=>dD b cj 0) s.sl ks with
  |some bx,some sl=>some ⟨sl,bx⟩|_,_=>none
  else none
structure Nf where
 ks:List Nat
 os:List (Nat×Nat):=[]
 ob:List (Nat×Nat×Nat):=[]
def yg(s:St):List (Nat×Nat)->St
 |[]=>s|(i,sz)::r=>match fK i s.sl with
  |.cl []=>bif Nat.beq sz 0 then yg ⟨put i (.d (.sl [])) s.sl,s.bx⟩ r else yg ⟨put i (.ow s.bx.length sz 0) s.sl,s.bx++[.row sz []]⟩ r|_=>yg s r
def Bp(s:St):List (Nat×Nat×Nat)->St
 |[]=>s|(b,c,sz)::r=>match s.bx[b]? with
  |some (.var cs)=>match cs[c]? with
   |some (.cl [])=>bif Nat.beq sz 0 then Bp ⟨s.sl,s.bx.set b (.var (cs.set c (.d (.sl []))))⟩ r
    else Bp ⟨s.sl,(s.bx++[av.row sz []]).set b (.var (cs.set c (.ow s.bx.length sz 0)))⟩ r
   |some (.ow k z _)=>bif Nat.beq sz 0 then match s.bx[k]? with
    |some (.row y es)=>bif Nat.beq y z&&!Nat.beq b k then Bp ⟨s.sl,(s.bx.set k (.mr y es)).set b (.var (cs.set c (.d (.sl es))))⟩ r else Bp s r|_=>Bp s r
    else Bp s r
   |_=>Bp s r
  |_=>Bp s r
def okC:Option Prop->Prop
 |none=>True|some c=>c
structure aaR(n:Nat)(es:List (List D)):Prop where
 eq:n=es.length
def tB(s:St):List (Nat×Nat×Nat)->Option Prop
 |[]=>none|(b,c,sz)::r=>match s.bx[b]? with
  |some (.var cs)=>match cs[c]? with
   |some (.cl [])=>bif Nat.beq sz 0 then tB ⟨s.sl,s.bx.set b (.var (cs.set c (.d (.sl []))))⟩ r
    else tB ⟨s.sl,(s.bx++[av.row sz []]).set b (.var (cs.set c (.ow s.bx.length sz 0)))⟩ r
   |some (.ow k z n)=>bif Nat.beq sz 0 then match s.bx[k]? with
    |some (.row y es)=>bif Nat.beq y z&&!Nat.beq b k then some (aaR n es/\okC (tB ⟨s.sl,(s.bx.set k (.mr y es)).set b (.var (cs.set c (.d (.sl es))))⟩ r))else tB s r|_=>tB s r
    else tB s r
   |_=>tB s r
  |_=>tB s r
def AH(K:Nat)(nf:Nf)(s:St):Option St:=Sr K nf.ks (Bp (yg s nf.os) nf.ob)
section
variable {G:Nat->Option (List D)}{N:Nat}{ds:Kp}{β β':Nat->Nat}{bx aE:List av}{w:World}{X:Nat->Prop}
structure vt(K:Nat)(β:Nat->Nat)(bx:List av)(β':Nat->Nat)(aE:List av):Prop where
 born:∀i,i<K->cr bx i->β' i=β i/\cr aE i
 live:∀i b,aE[i]?=some b->b.live=true->∃j b',bx[j]?=some b'/\b'.live=true/\β j=β' i
theorem vt.refl (K:Nat) (β:Nat->Nat) (bx:List av):vt K β bx β bx:=⟨λ_ _ h=>⟨rfl,h⟩,λi b h1 h2=>⟨i,b,h1,h2,rfl⟩⟩
theorem vt.trans {K:Nat} {β'':Nat->Nat} {Rx:List av} (h:vt K β bx β' aE) (g:vt K β' aE β'' Rx):vt K β bx β'' Rx:=by
 refine⟨?_,?_⟩
 .intro i hi hb;obtain⟨h1,h2⟩:=h.born i hi hb;obtain⟨h3,h4⟩:=g.born i hi h2;exact⟨h3.trans h1,h4⟩
 intro i b h1 h2;obtain⟨j,b',h3,h4,h5⟩:=g.live i b h1 h2;obtain⟨k,b'',h6,h7,h8⟩:=h.live j b' h3 h4;exact⟨k,b'',h6,h7,h8.trans h5⟩
theorem Ext.Ss {K:Nat} {β0:Nat->Nat} {aK:List av} {w0:World} (ex:Ext β0 aK w0 β bx w) (hK:aK.length<=K) (h:vt K β bx β' aE):Ext β0 aK w0 β' aE w:=by
 refine⟨ex.os,ex.tape,ex.output,ex.size,ex.block,ex.shape,?_,?_⟩
 .intro i hi;obtain⟨h1,h2⟩:=ex.born i hi;obtain⟨b,hb,_⟩:=hi;obtain⟨h3,h4⟩:=h.born i (Nat.lt_of_lt_of_le (kx hb) hK) h2;exact⟨h3.trans h1,h4⟩
 intro i b h1 h2;obtain⟨j,b',h3,h4,h5⟩:=h.live i b h1 h2;rw[<-h5];exact ex.live j b' h3 h4
theorem wo{b:Nat}:∀{l:List Nat} {i j:Nat},dD b l i=some j->i<=j/\l[j-i]?=some b
 |[],_,_,h=>by simp[dD]at h|x::r,i,j,h=>by
  simp only[dD]at h;cases hb:Nat.beq b x with
  |true=>
   simp only[hb,cond_true,osI]at h;subst h;have:=Nat.eq_of_beq_eq_true hb
   subst this;simp
  |false=>simp only[hb,cond_false]at h;obtain⟨h1,h2⟩:=wo h;refine⟨by omega,?_⟩;rw[show j-i=(j-(i+1))+1 by omega,List.getElem?_cons_succ];exact h2
theorem uI{cj:List Nat}:∀{l:List Nat} {i k b:Nat},Gy cj i l=true->l[k]?=some b->dD b cj 0=some (i+k)
 |[],_,_,_,_,h=>by simp at h|x::r,i,k,b,h,hk=>by
  simp only[Gy,Bool.and_eq_true]at h;cases k with
  |zero=>
   simp only[List.getElem?_cons_zero,osI]at hk;subst hk;obtain⟨h1,_⟩:=h;split at h1
   .rename_i j hj;rw[hj,<-Nat.eq_of_beq_eq_true h1];rfl
   simp at h1
  |succ k=>
   rw[List.getElem?_cons_succ]at hk;have:=uI h.2 hk
   rw[this];congr 1;omega
theorem Jk:∀{n i:Nat},i<n->(upTo n)[i]?=some i
 |n+1,i,h=>by
  have hl:(upTo n).length=n:=by
   clear h;induction n with
   |zero=>rfl|succ m ih=>simp[upTo,ih]
  simp only[upTo];by_cases hi:i<n
  .rw[List.getElem?_append_left (by omega)];exact Jk hi
  have:i=n:=by omega
  subst this;rw[List.getElem?_append_right (by omega)];simp[hl]
mutual
theorem uJ{m:Nat->Option Nat}{ok ok':Nat->Prop}(hm:∀b j,m b=some j->β' j=β b/\(cr bx b->cr aE j))(hok:∀blk,ok blk->ok' blk):
 ∀(x y:AV) (v:Value),x.iU m=some y->ai β bx w ok x v->ai β' aE w ok' y v
 |.any,y,v,h,_=>by simp only[AV.iU,osI]at h;subst h;simp[ai]|.d x,y,v,h,hv=>by simp only[AV.iU,osI]at h;subst h;simp only[ai]at hv ⊢;exact aP.mono (λblk hb=>⟨hok blk hb,rfl⟩) _ _ hv|.k c,y,v,h,hv=>by simp only[AV.iU,osI]at h;subst h;simpa[ai]using hv|.agg cs,y,v,h,hv=>by
  simp only[AV.iU]at h;split at h
  .rename_i ys hys;simp only[osI]at h;subst h;simp only[ai]at hv ⊢;obtain⟨vs,h1,h2⟩:=hv;exact⟨vs,h1,mE hm hok cs ys vs hys h2⟩
  simp at h
 |.c5 cs,y,v,h,hv=>by
  simp only[AV.iU]at h;split at h
  .rename_i ys hys;simp only[osI]at h;subst h;simp only[ai]at hv ⊢;obtain⟨vs,h1,h2⟩:=hv;exact⟨vs,h1,mE hm hok cs ys vs hys h2⟩
  simp at h
 |.ptr b off,y,v,h,hv=>by
  simp only[AV.iU]at h;split at h
  .rename_i j hj;simp only[osI]at h;subst h;obtain⟨e,hb⟩:=hm b j hj;simp only[ai]at hv ⊢;rw[e];exact⟨hv.1,hb hv.2⟩
  simp at h
 |.rp b sz i q,y,v,h,hv=>by
  simp only[AV.iU]at h;split at h
  .rename_i j hj;simp only[osI]at h;subst h;obtain⟨e,hb⟩:=hm b j hj;simp only[ai]at hv ⊢;rw[e];exact⟨hv.1,hb hv.2⟩
  simp at h
 |.BS b,y,v,h,hv=>by
  simp only[AV.iU]at h;split at h
  .rename_i j hj;simp only[osI]at h;subst h;obtain⟨e,hb⟩:=hm b j hj;simp only[ai]at hv ⊢;rw[e];exact⟨hv.1,hb hv.2⟩
  simp at h
 |.ep ds,y,v,h,hv=>by simp only[AV.iU,osI]at h;subst h;simp only[ai]at hv ⊢;obtain⟨blk,off,h1,h2,h3⟩:=hv;exact⟨blk,off,h1,hok blk h2,bg.mono (λblk hb=>⟨hok blk hb,rfl⟩) blk (λ_=>rfl) _ _ h3⟩
 |.ow b sz n,y,v,h,hv=>by
  simp only[AV.iU]at h;split at h
  .rename_i j hj;simp only[osI]at h;subst h;obtain⟨e,hb⟩:=hm b j hj;simp only[ai]at hv ⊢;rw[e];exact⟨hb hv.1,hv.2⟩
  simp at h
 |.vw b sz off n c ex,y,v,h,hv=>by
  simp only[AV.iU]at h;split at h
  .rename_i j hj;simp only[osI]at h;subst h;obtain⟨e,hb⟩:=hm b j hj;simp only[ai]at hv ⊢;rw[e];exact⟨hb hv.1,hv.2⟩
  simp at h
 |.cl es,y,v,h,hv=>by simp only[AV.iU,osI]at h;subst h;simp only[ai]at hv ⊢;obtain⟨base,h1,h2⟩:=hv;refine⟨base,h1,h2.imp id ?_⟩;rintro⟨blk,off,sz,e1,e2,e3⟩;exact⟨blk,off,sz,e1,hok blk e2,ax.mono (λblk hb=>⟨hok blk hb,rfl⟩) blk sz (λ_=>rfl) _ _ e3⟩
 |.fn f cs,y,v,h,hv=>by
  simp only[AV.iU]at h;split at h
  .rename_i ys hys;simp only[osI]at h;subst h;simp only[ai]at hv ⊢;obtain⟨vs,h1,h2⟩:=hv;exact⟨vs,h1,mE hm hok cs ys vs hys h2⟩
  simp at h
 |.sG t x,y,v,h,hv=>by
  simp only[AV.iU]at h;split at h
  .rename_i z hz;simp only[osI]at h;subst h;simp only[ai]at hv ⊢;obtain⟨u,h1,h2⟩:=hv;exact⟨u,h1,uJ hm hok x z u hz h2⟩
  simp at h
 |.cond p x,y,v,h,hv=>by
  simp only[AV.iU]at h;split at h
  .rename_i z hz;simp only[osI]at h;subst h;simp only[ai]at hv ⊢;exact⟨λhp=>uJ hm hok x z v hz (hv.1 hp),hv.2⟩
  simp at h
theorem mE{m:Nat->Option Nat}{ok ok':Nat->Prop}(hm:∀b j,m b=some j->β' j=β b/\(cr bx b->cr aE j))(hok:∀blk,ok blk->ok' blk):
 ∀(xs ys:List AV) (vs:List Value),AV.wm m xs=some ys->an β bx w ok xs vs->an β' aE w ok' ys vs
 |[],ys,vs,h,hv=>by simp only[AV.wm,osI]at h;subst h;simpa[an]using hv|x::xs,ys,vs,h,hv=>by
  simp only[AV.wm]at h;split at h
  .rename_i y ys' h1 h2;simp only[osI]at h;subst h;simp only[an]at hv ⊢;obtain⟨u,us,k1,k2,k3⟩:=hv;exact⟨u,us,k1,uJ hm hok x y u h1 k2,mE hm hok xs ys' us h2 k3⟩
  simp at h
end
theorem kF{m:Nat->Option Nat}:∀{cj:List Nat} {bs:List av},fQ m bx cj=some bs->∀(k:Nat) (b':av),bs[k]?=some b'->∃(i:Nat) (b:av),cj[k]?=some i/\bx[i]?=some b/\av.iU m b=some b'
 |[],bs,h,k,b',hk=>by simp only[fQ,osI]at h;subst h;simp at hk|i::r,bs,h,k,b',hk=>by
  simp only[fQ]at h;split at h
  .rename_i b hb;split at h
   .rename_i b1 bs1 h1 h2;simp only[osI]at h;subst h;cases k with
    |zero=>simp only[List.getElem?_cons_zero,osI]at hk;subst hk;exact⟨i,b,rfl,hb,h1⟩|succ k=>simp only[List.getElem?_cons_succ]at hk ⊢;exact kF h2 k b' hk
   simp at h
  simp at h
theorem oN{m:Nat->Option Nat}:∀{cj:List Nat} {bs:List av},fQ m bx cj=some bs->∀(k i:Nat),cj[k]?=some i->∃(b b':av),bx[i]?=some b/\av.iU m b=some b'/\bs[k]?=some b'
 |[],bs,h,k,i,hk=>by simp at hk|i0::r,bs,h,k,i,hk=>by
  simp only[fQ]at h;split at h
  .rename_i b hb;split at h
   .rename_i b1 bs1 h1 h2;simp only[osI]at h;subst h;cases k with
    |zero=>simp only[List.getElem?_cons_zero,osI]at hk;subst hk;exact⟨b,b1,hb,h1,rfl⟩|succ k=>simp only[List.getElem?_cons_succ]at hk ⊢;exact oN h2 k i hk
   simp at h
  simp at h
theorem av.gW {m:Nat->Option Nat} {b b':av} (h:av.iU m b=some b'):b'.born=b.born/\b'.live=b.live:=by
 unfold av.iU at h;split at h
 .split at h
  .simp only[osI]at h;subst h;exact⟨rfl,rfl⟩
  simp at h
 simp only[osI]at h;subst h;exact⟨rfl,rfl⟩
theorem EW{m:Nat->Option Nat}{sl:List (Nat×AV)}:∀{ks:List Nat} {sZ:List (Nat×AV)},Jj m sl ks=some sZ->∀t,fK t sZ=.any∨AV.iU m (fK t sl)=some (fK t sZ)
 |[],sZ,h,t=>by simp only[Jj,osI]at h;subst h;exact .inl rfl|i::r,sZ,h,t=>by
  simp only[Jj]at h;split at h
  .rename_i y ys h1 h2;simp only[osI]at h;subst h;simp only[fK];cases hb:Nat.beq t i with
   |true=>have:=Nat.eq_of_beq_eq_true hb;subst this;exact .inr h1|false=>simp only[cond_false];exact EW h2 t
  simp at h
theorem Jl{K:Nat}{ks:List Nat}{s s':St}{a:Act}(h:Sr K ks s=some s')(hF:Fr G N ds β w X s a):
 ∃β',vt K β s.bx β' s'.bx/\Fr G N ds β' w X s' a:=by
 unfold Sr at h;generalize reach s.bx 99 (upTo K++AV.CW (ks.map λi=>fK i s.sl)) []=cj at h;simp only at h;cases h1:Gy cj 0 cj with
 |false=>simp[h1]at h|true=>
 cases h2:Gy cj 0 (upTo K)with
 |false=>simp[h1,h2]at h|true=>
 simp only[h1,h2,Bool.and_self,cond_true]at h
 split at h
 .rename_i bs sl hbs Yl;simp only[osI]at h;subst h;have yh:∀k i,cj[k]?=some i->dD i cj 0=some k:=λk i hk=>by have:=uI h1 hk;simpa using this
  have hidx:∀b j,dD b cj 0=some j->cj[j]?=some b:=λb j hj=>by have:=(wo hj).2;simpa using this
  let β':Nat->Nat:=λj=>match cj[j]? with|some i=>β i|none=>0
  have hβ:∀k i,cj[k]?=some i->β' k=β i:=λk i hk=>by simp[β',hk]
  have hm:∀b j,dD b cj 0=some j->β' j=β b/\(cr s.bx b->cr bs j):=by
   intro b j hj;have hs:=hidx b j hj
   refine⟨hβ j b hs,?_⟩;rintro⟨B,hB,dM⟩;obtain⟨b1,b2,k1,k2,k3⟩:=oN hbs j b hs;rw[hB]at k1;cases k1;exact⟨b2,k3,(av.gW k2).1.trans dM⟩
  have cH:∀(i:Nat) (b:av),bs[i]?=some b->b.live=true->∃(j:Nat) (b':av),s.bx[j]?=some b'/\b'.live=true/\β j=β' i/\cj[i]?=some j:=by intro i b hi hl;obtain⟨j,b',k1,k2,k3⟩:=kF hbs i b hi;exact⟨j,b',k2,(av.gW k3).2▸hl,(hβ i j k1).symm,k1⟩
  have hok:∀blk,bq β s.bx w X blk->bq β' bs w X blk:=by rintro blk ⟨k1,k2,k3⟩;refine⟨k1,k2,?_⟩;intro i b hi hl;obtain⟨j,b',h3,h4,h5,_⟩:=cH i b hi hl;rw[<-h5];exact k3 j b' h3 h4
  have hkeep:kZ w w (bq β s.bx w X) (bq β' bs w X):=λblk hb=>⟨hok blk hb,rfl⟩;refine⟨β',⟨?_,?_⟩,⟨?_,hF.defers,hF.size,hF.kept,?_⟩⟩
  .intro i hi hb;have:=uI h2 (Jk hi)
   simp only[Nat.zero_add]at this;obtain⟨k1,k2⟩:=hm i i this;exact⟨k1,k2 hb⟩
  .intro i b hi hl;obtain⟨j,b',h3,h4,h5,_⟩:=cH i b hi hl;exact⟨j,b',h3,h4,h5⟩
  .refine⟨hF.cx.xs,?_,?_,?_,?_⟩
   .intro g ds hg;obtain⟨k1,k2⟩:=hF.cx.B7 g ds hg;exact⟨hok g k1,bg.mono hkeep g (λ_=>rfl) _ _ k2⟩
   .intro i j bi bj hi hj pL sB he;obtain⟨i',bi',a1,a2,a3,a4⟩:=cH i bi hi pL;obtain⟨j',bj',c1,c2,c3,c4⟩:=cH j bj hj sB;have:i'=j':=hF.cx.inj i' j' bi' bj' a1 c1 a2 c2 (a3.trans (he.trans c3.symm))
    subst this;have e1:=yh i i' a4
    have e2:=yh j i' c4;rw[e1]at e2;exact Option.some.inj e2
   .intro i b hi;obtain⟨j,b',k1,k2,k3⟩:=kF hbs i b hi;have hb:=hF.cx.box j b' k2
    rw[hβ i j k1];cases b' with
    |var cs=>
     simp only[av.iU]at k3;split at k3
     .rename_i ys hys;simp only[osI]at k3;subst k3;simp only[dV]at hb ⊢;obtain⟨c,e,g1,g2⟩:=hb;exact⟨c,e,g1,mE hm hok cs ys _ hys g2⟩
     simp at k3
    |row sz es=>simp only[av.iU,osI]at k3;subst k3;refine hb.imp id ?_;rintro⟨c,e,g1,g2⟩;exact⟨c,e,g1,ax.mono hkeep _ _ (λ_=>rfl) _ _ g2⟩
    |mr sz es=>simp only[av.iU,osI]at k3;subst k3;refine hb.imp id ?_;rintro⟨g1,g2⟩;exact⟨hok _ g1,ax.mono hkeep _ _ (λ_=>rfl) _ _ g2⟩
    |it s p=>simp only[av.iU,osI]at k3;subst k3;exact hb|mp ag es=>simp only[av.iU,osI]at k3;subst k3;obtain⟨ms,clock,h1,h2,h3⟩:=hb;exact⟨ms,clock,h1,h2,bB.mono hkeep _ _ _ h3⟩
    |dead=>simp only[av.iU,osI]at k3;subst k3;trivial|bJ=>simp only[av.iU,osI]at k3;subst k3;trivial
   intro i b hi hl;obtain⟨j,b',h3,h4,h5,_⟩:=cH i b hi hl;rw[<-h5];exact hF.cx.apart j b' h3 h4
  intro t;rcases EW Yl t with h3|h3
  .rw[h3];simp[ai]
  exact uJ hm hok _ _ _ h3 (hF.sW t)
 simp at h
theorem Jm(K:Nat){sz:Nat}{s:St}{a:Act}(hF:Fr G N ds β w X s a):∃β',vt K β s.bx β' (s.bx++[.row sz []])/\Fr G N ds β' w X ⟨s.sl,s.bx++[.row sz []]⟩ a/\cr (s.bx++[.row sz []]) s.bx.length:=by
 have hinv:∀{i:Nat} {b:av},(s.bx++[av.row sz []])[i]?=some b->b.live=true->s.bx[i]?=some b:=by
  intro i b h hl;rcases bF h with⟨h1,_⟩|⟨h1,h2⟩
  .exact h1
  subst h2;simp[av.live]at hl
 have hok:∀blk,bq β s.bx w X blk->bq β (s.bx++[.row sz []]) w X blk:=by rintro blk ⟨k1,k2,k3⟩;exact⟨k1,k2,λi b hi hl=>k3 i b (hinv hi hl) hl⟩
 have dM:∀i,cr s.bx i->cr (s.bx++[.row sz []]) i:=by rintro i ⟨b,h1,h2⟩;exact⟨b,fh h1,h2⟩
 have hkeep:kZ w w (bq β s.bx w X) (bq β (s.bx++[.row sz []]) w X):=λblk hb=>⟨hok blk hb,rfl⟩;have sX:vB β s.bx w (bq β s.bx w X) β (s.bx++[.row sz []]) w (bq β (s.bx++[.row sz []]) w X):=by refine⟨hkeep,?_,λ_ c _ _ h=>⟨c,h,rfl⟩⟩;intro i hi;exact⟨rfl,dM i hi⟩
 refine⟨β,⟨λi _ hi=>⟨rfl,dM i hi⟩,λi b hi hl=>⟨i,b,hinv hi hl,hl,rfl⟩⟩,⟨⟨hF.cx.xs,?_,?_,?_,?_⟩,hF.defers,hF.size,hF.kept,?_⟩,?_⟩
 .intro g ds hg;obtain⟨k1,k2⟩:=hF.cx.B7 g ds hg;exact⟨hok g k1,bg.mono hkeep g (λ_=>rfl) _ _ k2⟩
 .intro i j bi bj hi hj pL sB he;exact hF.cx.inj i j bi bj (hinv hi pL) (hinv hj sB) pL sB he
 .intro i b hi;rcases bF hi with⟨h1,_⟩|⟨h1,h2⟩
  .have h:=hF.cx.box i b h1;cases b with
   |var cs=>obtain⟨c,e,g1,g2⟩:=h;exact⟨c,e,g1,an.mono sX _ _ g2⟩
   |row sz es=>refine h.imp id ?_;rintro⟨c,e,g1,g2⟩;exact⟨c,e,g1,ax.mono hkeep _ _ (λ_=>rfl) _ _ g2⟩
   |mr sz es=>refine h.imp id ?_;rintro⟨g1,g2⟩;exact⟨hok _ g1,ax.mono hkeep _ _ (λ_=>rfl) _ _ g2⟩
   |it s p=>exact h|mp ag es=>obtain⟨ms,clock,h1,h2,h3⟩:=h;exact⟨ms,clock,h1,h2,bB.mono hkeep _ _ _ h3⟩
   |dead=>trivial|bJ=>trivial
  subst h2;exact .inl rfl
 .intro i b hi hl;exact hF.cx.apart i b (hinv hi hl) hl
 .intro t;exact ai.mono sX _ _ (hF.sW t)
 exact⟨.row sz [],by simp,rfl⟩
theorem XM{ok:Nat->Prop}{n sz:Nat}{u:Value}(hb:cr bx n)(h:ai β bx w ok (.cl []) u):ai β bx w ok (.ow n sz 0) u:=by simp only[ai,List.length_nil]at h ⊢;obtain⟨base,h1,_⟩:=h;exact⟨hb,.inl ⟨hY,base,h1⟩⟩
theorem rB(K:Nat){a:Act}:∀(l:List (Nat×Nat)) (s:St) (β:Nat->Nat),Fr G N ds β w X s a->∃β',vt K β s.bx β' (yg s l).bx/\Fr G N ds β' w X (yg s l) a
 |[],s,β,hF=>⟨β,vt.refl _ _ _,hF⟩|(i,sz)::r,s,β,hF=>by
  unfold yg;split
  .rename_i hl;cases hz:Nat.beq sz 0 with
   |true=>
    simp only[cond_true];refine rB K r ⟨put i (.d (.sl [])) s.sl,s.bx⟩ β ⟨hF.cx,hF.defers,hF.size,hF.kept,λt=>?_⟩;have h1:=hF.sW t
    simp only[rf];by_cases ht:t=i
    .subst ht;rw[if_pos rfl];rw[hl]at h1;simp only[ai,aP]at h1 ⊢;obtain⟨base,h2,h3⟩:=h1;exact⟨base,_,h2,Nat.le_refl _,h3⟩
    rw[if_neg ht];exact h1
   |false=>
   simp only[cond_false];obtain⟨β1,e1,xX,hb⟩:=Jm (sz:=sz) K hF;have ru:Fr G N ds β1 w X ⟨put i (.ow s.bx.length sz 0) s.sl,s.bx++[.row sz []]⟩ a:=by
    refine⟨xX.cx,xX.defers,xX.size,xX.kept,?_⟩;intro t;have h1:=xX.sW t
    simp only[rf];by_cases ht:t=i
    .subst ht;rw[if_pos rfl];have Iv:ai β1 (s.bx++[.row sz []]) w (bq β1 (s.bx++[.row sz []]) w X) (fK t s.sl) (a.tmps.getD t undef):=h1
     rw[hl]at Iv;exact XM hb Iv
    rw[if_neg ht];exact h1
   obtain⟨β2,e2,CX⟩:=rB K r _ β1 ru;exact⟨β2,e1.trans e2,CX⟩
  exact rB K r s β hF
theorem EX{ok:Nat->Prop}{x y:AV}(hxy:∀u,ai β bx w ok x u->ai β bx w ok y u):∀(cs:List AV) (c:Nat) (vs:List Value),cs[c]?=some x->an β bx w ok cs vs->an β bx w ok (cs.set c y) vs
 |[],_,_,h,_=>by simp at h|z::cs,0,vs,h,hv=>by simp only[List.getElem?_cons_zero,osI]at h;subst h;simp only[List.set_cons_zero,an]at hv ⊢;obtain⟨u,us,h1,h2,h3⟩:=hv;exact⟨u,us,h1,hxy u h2,h3⟩
 |z::cs,c+1,vs,h,hv=>by simp only[List.getElem?_cons_succ]at h;simp only[List.set_cons_succ,an]at hv ⊢;obtain⟨u,us,h1,h2,h3⟩:=hv;exact⟨u,us,h1,h2,EX hxy cs c us h h3⟩
theorem Md{s:St}{a:Act}(hF:Fr G N ds β w X s a){b c:Nat}{cs:List AV}{x y:AV}(hb:s.bx[b]?=some (.var cs))(hc:cs[c]?=some x)
 (hxy:∀u,ai β s.bx w (bq β s.bx w X) x u->ai β s.bx w (bq β s.bx w X) y u) (K:Nat):
 vt K β s.bx β (s.bx.set b (.var (cs.set c y)))/\Fr G N ds β w X ⟨s.sl,s.bx.set b (.var (cs.set c y))⟩ a:=by
 have hinv:∀{i:Nat} {B:av},(s.bx.set b (.var (cs.set c y)))[i]?=some B->(i=b/\B=.var (cs.set c y))∨(i≠b/\s.bx[i]?=some B):=by
  intro i B h;rcases aQ h with⟨h1,h2,_⟩|⟨h1,h2⟩
  .exact .inl ⟨h1,h2⟩
  exact .inr ⟨h1,h2⟩
 have cH:∀{i:Nat} {B:av},(s.bx.set b (.var (cs.set c y)))[i]?=some B->B.live=true->∃B',s.bx[i]?=some B'/\B'.live=true:=by
  intro i B h hl;rcases hinv h with⟨rfl,rfl⟩|⟨_,h1⟩
  .exact⟨_,hb,rfl⟩
  exact⟨B,h1,hl⟩
 have hok:∀blk,bq β s.bx w X blk->bq β (s.bx.set b (.var (cs.set c y))) w X blk:=by rintro blk ⟨k1,k2,k3⟩;refine⟨k1,k2,λi B hi hl=>?_⟩;obtain⟨B',h1,h2⟩:=cH hi hl;exact k3 i B' h1 h2
 have dM:∀i,cr s.bx i->cr (s.bx.set b (.var (cs.set c y))) i:=λi hi=>jA rfl hi;have hkeep:kZ w w (bq β s.bx w X) (bq β (s.bx.set b (.var (cs.set c y))) w X):=λblk hb=>⟨hok blk hb,rfl⟩
 have sX:vB β s.bx w (bq β s.bx w X) β (s.bx.set b (.var (cs.set c y))) w (bq β (s.bx.set b (.var (cs.set c y))) w X):=
  ⟨hkeep,λi hi=>⟨rfl,dM i hi⟩,λ_ c _ _ h=>⟨c,h,rfl⟩⟩
 refine⟨⟨λi _ hi=>⟨rfl,dM i hi⟩,λi B hi hl=>?_⟩,⟨⟨hF.cx.xs,?_,?_,?_,?_⟩,hF.defers,hF.size,hF.kept,?_⟩⟩
 .obtain⟨B',h1,h2⟩:=cH hi hl;exact⟨i,B',h1,h2,rfl⟩
 .intro g ds hg;obtain⟨k1,k2⟩:=hF.cx.B7 g ds hg;exact⟨hok g k1,bg.mono hkeep g (λ_=>rfl) _ _ k2⟩
 .intro i j bi bj hi hj pL sB he;obtain⟨B1,h1,h2⟩:=cH hi pL;obtain⟨B2,h3,h4⟩:=cH hj sB;exact hF.cx.inj i j B1 B2 h1 h3 h2 h4 he
 .intro i B hi;rcases hinv hi with⟨rfl,rfl⟩|⟨_,h1⟩
  .have h:=hF.cx.box _ _ hb;simp only[dV]at h ⊢;obtain⟨cc,e,g1,g2⟩:=h;exact⟨cc,e,g1,an.mono sX _ _ (EX hxy cs c _ hc g2)⟩
  have h:=hF.cx.box i B h1;cases B with
  |var cs=>obtain⟨c,e,g1,g2⟩:=h;exact⟨c,e,g1,an.mono sX _ _ g2⟩
  |row sz es=>refine h.imp id ?_;rintro⟨c,e,g1,g2⟩;exact⟨c,e,g1,ax.mono hkeep _ _ (λ_=>rfl) _ _ g2⟩
  |mr sz es=>refine h.imp id ?_;rintro⟨g1,g2⟩;exact⟨hok _ g1,ax.mono hkeep _ _ (λ_=>rfl) _ _ g2⟩
  |it s p=>exact h|mp ag es=>obtain⟨ms,clock,h1,h2,h3⟩:=h;exact⟨ms,clock,h1,h2,bB.mono hkeep _ _ _ h3⟩
  |dead=>trivial|bJ=>trivial
 .intro i B hi hl;obtain⟨B',h1,h2⟩:=cH hi hl;exact hF.cx.apart i B' h1 h2
 intro t;exact ai.mono sX _ _ (hF.sW t)
theorem eB(K:Nat){a:Act}:∀(l:List (Nat×Nat×Nat)) (s:St) (β:Nat->Nat),okC (tB s l)->Fr G N ds β w X s a->∃β',vt K β s.bx β' (Bp s l).bx/\Fr G N ds β' w X (Bp s l) a
 |[],s,β,_,hF=>⟨β,vt.refl _ _ _,hF⟩|(b,c,sz)::r,s,β,hC,hF=>by
  unfold Bp;unfold tB at hC;cases hb:s.bx[b]? with
  |none=>rw[hb]at hC;exact eB K r s β hC hF|some B=>
  rw[hb]at hC;cases B with
  |var cs=>
   simp only at hC ⊢;cases hc:cs[c]? with
   |none=>rw[hc]at hC;exact eB K r s β hC hF|some v=>
   rw[hc]at hC;cases v with
   |cl es=>
    cases es with
    |nil=>
     simp only at hC ⊢;cases hz:Nat.beq sz 0 with
     |true=>rw[hz]at hC;simp only[cond_true]at hC ⊢;obtain⟨e2,ru⟩:=Md hF (b:=b) hb hc (y:=.d (.sl [])) (λu hu=>by simp only[ai,aP]at hu ⊢;obtain⟨base,h1,h2⟩:=hu;exact⟨base,_,h1,Nat.le_refl _,h2⟩) K;obtain⟨β2,e3,CX⟩:=eB K r _ β hC ru;exact⟨β2,e2.trans e3,CX⟩
     |false=>
     rw[hz]at hC;simp only[cond_false]at hC ⊢;obtain⟨β1,e1,xX,Gh⟩:=Jm (sz:=sz) K hF;have ED:(s.bx++[av.row sz []])[b]?=some (.var cs):=fh hb
     obtain⟨e2,ru⟩:=Md (s:=⟨s.sl,s.bx++[.row sz []]⟩) xX (b:=b) ED hc (y:=.ow s.bx.length sz 0) (λu hu=>XM Gh hu) K;obtain⟨β2,e3,CX⟩:=eB K r _ β1 hC ru;exact⟨β2,(e1.trans e2).trans e3,CX⟩
    |cons=>exact eB K r s β hC hF
   |ow k z n=>
    simp only at hC ⊢;cases hz:Nat.beq sz 0 with
    |false=>rw[hz]at hC;simp only[cond_false]at hC ⊢;exact eB K r s β hC hF|true=>
    rw[hz]at hC;simp only[cond_true]at hC ⊢;cases hk:s.bx[k]? with
    |none=>rw[hk]at hC;exact eB K r s β hC hF|some B=>
    rw[hk]at hC;cases B with
    |row y es=>
     simp only at hC ⊢;cases hy:(Nat.beq y z&&!Nat.beq b k)with
     |false=>rw[hy]at hC;simp only[cond_false]at hC ⊢;exact eB K r s β hC hF|true=>
      rw[hy]at hC;simp only[cond_true,okC]at hC ⊢;obtain⟨⟨hn⟩,hC⟩:=hC;simp only[Bool.and_eq_true,Bool.not_eq_true']at hy;obtain⟨hy1,hy2⟩:=hy;have hbk:b≠k:=λe=>by subst e;rw[hb]at hk;cases hk
      have hfz:∀bx:List av,(bx[k]?=some (.row y es)∨bx[k]?=some (.mr y es))->fz bx (.ow k z n)=some (.d (.sl es)):=by
       intro bx h;subst hn;have hl:Nat.beq es.length es.length=true:=Nat.beq_refl _
       rcases h with h|h<;>simp[fz,AV.um,h,hy1,hl]
      have LC:(AV.ow k z n).cE s.bx=s.bx.set k (.mr y es):=by simp[AV.cE,hk]
      obtain⟨cc,ee,g1,g2⟩:=hF.cx.box _ _ hb;obtain⟨u0,_,Vg⟩:=an.get c _ g2 hc;obtain⟨e1,Vb,_⟩:=xz hF.cx (hfz s.bx (.inl hk)) Vg;rw[LC]at e1 Vb;have xX:Fr G N ds β w X ⟨s.sl,s.bx.set k (.mr y es)⟩ a:=⟨Vb,hF.defers,hF.size,hF.kept,λt=>ai.mono (e1.dL X) _ _ (hF.sW t)⟩
      have hlk:k<s.bx.length:=(List.getElem?_eq_some_iff.1 hk).1;have iw:(s.bx.set k (av.mr y es))[k]?=some (.mr y es):=by simp[hlk]
      have ED:(s.bx.set k (av.mr y es))[b]?=some (.var cs):=by rw[List.getElem?_set_ne (λe=>hbk e.symm)];exact hb
      have adu:(AV.ow k z n).cE (s.bx.set k (.mr y es))=s.bx.set k (.mr y es):=by simp[AV.cE,iw]
      have eK:vt K β s.bx β (s.bx.set k (.mr y es)):=⟨λi _ hi=>(e1.born i hi),λi B hi hl=>by
       by_cases hik:i=k
       .subst hik;exact⟨i,_,hk,by rw[iw]at hi;cases hi;cases es<;>simp_all[av.live],rfl⟩
       rw[List.getElem?_set_ne (λe=>hik e.symm)]at hi;exact⟨i,B,hi,hl,rfl⟩⟩
      obtain⟨e2,ru⟩:=Md (s:=⟨s.sl,s.bx.set k (.mr y es)⟩) xX (b:=b) ED hc (y:=.d (.sl es)) (λu hu=>by have:=(xz Vb (hfz _ (.inr iw)) hu).2.2;rw[adu]at this;exact this) K;obtain⟨β2,e3,CX⟩:=eB K r _ β hC ru;exact⟨β2,(eK.trans e2).trans e3,CX⟩
    |_=>exact eB K r s β hC hF
   |_=>exact eB K r s β hC hF
  |_=>exact eB K r s β hC hF
theorem AI{K:Nat}{nf:Nf}{s s':St}{a:Act}(hC:okC (tB (yg s nf.os) nf.ob))(h:AH K nf s=some s')(hF:Fr G N ds β w X s a):∃β',vt K β s.bx β' s'.bx/\Fr G N ds β' w X s' a:=by unfold AH at h;obtain⟨β1,e1,xX⟩:=rB K nf.os s β hF;obtain⟨β2,e2,ru⟩:=eB K nf.ob _ β1 hC xX;obtain⟨β3,e3,CX⟩:=Jl h ru;exact⟨β3,(e1.trans e2).trans e3,CX⟩
end
structure LoopIn(o:Option St)(P:St->Prop):Prop where
 ok:match o with
  |some s=>P s|none=>False
def tC:Option Prop->Prop->Prop
 |none,X=>X|some c,X=>c/\X
theorem tC.ok {o:Option Prop} {X:Prop} (h:tC o X):okC o/\X:=by
 cases o with
 |none=>exact⟨hY,h⟩|some c=>exact h
theorem tC.mk {o:Option Prop} {X:Prop} (h:okC o) (hx:X):tC o X:=by
 cases o with
 |none=>exact hx|some c=>exact⟨h,hx⟩
structure XN(K:Nat)(A:(Ex->St->Prop)->St->Prop)(Q:Ex->St->Prop)(s:St):Prop where
 ok:∃(nf:Nf) (I:Nat->St->Prop) (n:Nat),tC (tB (yg s nf.os) nf.ob) (LoopIn (AH K nf s) (I n))/\∀n s1,I n s1->A (λe s2=>mv (λs2=>tC (tB (yg s2 nf.os) nf.ob) (LoopIn (AH K nf s2) (λs3=>∃m,m<n/\I m s3))) Q e s2) s1
mutual
def AV.Ei (b:Nat) (x:D):AV->AV
 |.BS c=>bif Nat.beq c b then .d x else .BS c|.agg cs=>.agg (AV.Jn b x cs)|.c5 cs=>.c5 (AV.Jn b x cs)|.fn f cs=>.fn f (AV.Jn b x cs)|.sG t y=>.sG t (AV.Ei b x y)|.cond p y=>.cond p (AV.Ei b x y)|v=>v
def AV.Jn (b:Nat) (x:D):List AV->List AV
 |[]=>[]|y::ys=>AV.Ei b x y::AV.Jn b x ys
end
def av.Ei (b:Nat) (x:D):av->av
 |.var cs=>.var (AV.Jn b x cs)|B=>B
def zH(b:Nat)(x:D):List (Nat×AV)->List (Nat×AV)
 |[]=>[]|(i,v)::r=>(i,AV.Ei b x v)::zH b x r
def zI(b:Nat)(x:D):List av->Nat->List av
 |[],_=>[]|B::r,i=>(bif Nat.beq i b then .dead else av.Ei b x B)::zI b x r (i+1)
def kG(b:Nat)(x:D)(s:St):St:=⟨zH b x s.sl,zI b x s.bx 0⟩
def Su:List av->Bool
 |[]=>false|.mp _ _::_=>true|_::r=>Su r
structure aaS(s:St)(A:St->Prop):Prop where
 ok:A s∨∃b ag es,s.bx[b]?=some (.mp ag es)/\A (kG b (.mp ag es) s)
section
variable {P:Program}{T:Nat->Option TI}{G:Nat->Option (List D)}{N:Nat}{ds:Kp}{β:Nat->Nat}{w:World}{X:Nat->Prop}{s:St}
theorem rC(b:Nat)(x:D):∀(l:List av) (k i:Nat),(zI b x l k)[i]?=(l[i]?).map λB=>bif Nat.beq (k+i) b then .dead else av.Ei b x B
 |[],_,_=>by simp[zI]|B::r,k,0=>by simp[zI]|B::r,k,i+1=>by simp only[zI,List.getElem?_cons_succ];rw[rC b x r (k+1) i,show k+1+i=k+(i+1) by omega]
theorem Jo(b:Nat)(x:D)(B:av):(av.Ei b x B).live=B.live/\(av.Ei b x B).born=B.born:=by cases B<;>simp[av.Ei,av.live,av.born]
theorem Jp(b:Nat)(x:D)(t:Nat):∀sl:List (Nat×AV),fK t (zH b x sl)=AV.Ei b x (fK t sl)
 |[]=>by simp[zH,fK,AV.Ei]|(u,v)::r=>by
  simp only[zH,fK];cases Nat.beq t u with
  |true=>rfl|false=>simpa using Jp b x t r
mutual
theorem BI{bx aE:List av}{ok ok':Nat->Prop}{b:Nat}{x:D}(hl:vB β bx w ok β aE w ok')(hb:∀v,v=.map (some (β b))->aP w ok' x v):∀(y:AV) (v:Value),ai β bx w ok y v->ai β aE w ok' (AV.Ei b x y) v
 |.BS c,v,h=>by
  unfold AV.Ei;cases hc:Nat.beq c b with
  |true=>obtain rfl:=Nat.eq_of_beq_eq_true hc;simp only[cond_true,ai]at h ⊢;exact hb v h.1
  |false=>simpa using ai.mono hl _ _ h
 |.agg cs,v,h=>by simp only[AV.Ei,ai]at h ⊢;obtain⟨vs,h1,h2⟩:=h;exact⟨vs,h1,tD hl hb cs vs h2⟩
 |.c5 cs,v,h=>by simp only[AV.Ei,ai]at h ⊢;obtain⟨vs,h1,h2⟩:=h;exact⟨vs,h1,tD hl hb cs vs h2⟩
 |.fn f cs,v,h=>by simp only[AV.Ei,ai]at h ⊢;obtain⟨vs,h1,h2⟩:=h;exact⟨vs,h1,tD hl hb cs vs h2⟩
 |.sG t y,v,h=>by simp only[AV.Ei,ai]at h ⊢;obtain⟨u,h1,h2⟩:=h;exact⟨u,h1,BI hl hb y u h2⟩
 |.cond p y,v,h=>by simp only[AV.Ei,ai]at h ⊢;exact⟨λhp=>BI hl hb y v (h.1 hp),h.2⟩|.any,v,h=>ai.mono hl _ _ h|.d _,v,h=>ai.mono hl _ _ h|.k _,v,h=>ai.mono hl _ _ h|.ptr _ _,v,h=>ai.mono hl _ _ h|.rp _ _ _ _,v,h=>ai.mono hl _ _ h|.ep _,v,h=>ai.mono hl _ _ h|.ow _ _ _,v,h=>ai.mono hl _ _ h|.cl _,v,h=>ai.mono hl _ _ h|.vw _ _ _ _ _ _,v,h=>ai.mono hl _ _ h
theorem tD{bx aE:List av}{ok ok':Nat->Prop}{b:Nat}{x:D}(hl:vB β bx w ok β aE w ok')(hb:∀v,v=.map (some (β b))->aP w ok' x v):∀(ys:List AV) (vs:List Value),an β bx w ok ys vs->an β aE w ok' (AV.Jn b x ys) vs
 |[],vs,h=>by simpa[AV.Jn,an]using h|y::ys,vs,h=>by simp only[AV.Jn,an]at h ⊢;obtain⟨u,us,h1,h2,h3⟩:=h;exact⟨u,us,h1,BI hl hb y u h2,tD hl hb ys us h3⟩
end
theorem VI{a:Act}(hF:Fr G N ds β w X s a){b:Nat}{ag:Bool}{es:List (List D)}(hb:s.bx[b]?=some (.mp ag es)):
 Ext β s.bx w β (kG b (.mp ag es) s).bx w/\Fr G N ds β w X (kG b (.mp ag es) s) a:=by
 have CG:∀{i:Nat} {B:av},(kG b (.mp ag es) s).bx[i]?=some B->(i=b/\B=.dead)∨(i≠b/\∃B',s.bx[i]?=some B'/\B=av.Ei b (.mp ag es) B'):=by
  intro i B h;simp only[kG,rC,Nat.zero_add,Option.map_eq_some_iff]at h;obtain⟨B',h1,h2⟩:=h;cases hi:Nat.beq i b with
  |true=>simp only[hi,cond_true]at h2;exact .inl ⟨Nat.eq_of_beq_eq_true hi,h2.symm⟩|false=>simp only[hi,cond_false]at h2;exact .inr ⟨Nat.ne_of_beq_eq_false hi,B',h1,h2.symm⟩
 have cH:∀{i:Nat} {B:av},(kG b (.mp ag es) s).bx[i]?=some B->B.live=true->i≠b/\∃B',s.bx[i]?=some B'/\B'.live=true:=by
  intro i B h hl;rcases CG h with⟨_,rfl⟩|⟨h1,B',h2,rfl⟩
  .cases hl
  exact⟨h1,B',h2,(Jo _ _ _).1▸hl⟩
 have dM:∀i,cr s.bx i->cr (kG b (.mp ag es) s).bx i:=by
  rintro i ⟨B,h1,h2⟩;cases hi:Nat.beq i b with
  |true=>exact⟨.dead,by simp[kG,rC,h1,hi],rfl⟩|false=>exact⟨av.Ei b (.mp ag es) B,by simp[kG,rC,h1,hi],(Jo _ _ _).2.trans h2⟩
 have hok:∀blk,bq β s.bx w X blk->bq β (kG b (.mp ag es) s).bx w X blk:=by rintro blk ⟨k1,k2,k3⟩;refine⟨k1,k2,λi B hi hl=>?_⟩;obtain⟨_,B',h1,h2⟩:=cH hi hl;exact k3 i B' h1 h2
 have hkeep:kZ w w (bq β s.bx w X) (bq β (kG b (.mp ag es) s).bx w X):=λblk hb=>⟨hok blk hb,rfl⟩;have sX:vB β s.bx w (bq β s.bx w X) β (kG b (.mp ag es) s).bx w (bq β (kG b (.mp ag es) s).bx w X):=⟨hkeep,λi hi=>⟨rfl,dM i hi⟩,λ_ c _ _ h=>⟨c,h,rfl⟩⟩
 have Is:=hF.cx.box b _ hb;have hmp:∀v,v=.map (some (β b))->aP w (bq β (kG b (.mp ag es) s).bx w X) (.mp ag es) v:=by rintro v rfl;obtain⟨ms,clock,h1,h2,h3⟩:=Is;simp only[aP];refine⟨β b,ms,clock,rfl,⟨fE h1,hF.cx.apart b _ hb rfl,?_⟩,h1,h2,bB.mono hkeep _ _ _ h3⟩;intro i B hi hl he;obtain⟨g1,B',g2,g3⟩:=cH hi hl;exact g1 (hF.cx.inj i b B' _ g2 hb g3 rfl he)
 refine⟨⟨rfl,rfl,rfl,Nat.le_refl _,λ_ _ _=>rfl,λ_ c _ _ h=>⟨c,h,rfl⟩,λi hi=>⟨rfl,dM i hi⟩,?_⟩,⟨⟨hF.cx.xs,?_,?_,?_,?_⟩,hF.defers,hF.size,hF.kept,?_⟩⟩
 .intro i B hi hl;obtain⟨_,B',g2,g3⟩:=cH hi hl;exact .inr ⟨i,B',g2,g3,rfl⟩
 .intro g ds hg;obtain⟨k1,k2⟩:=hF.cx.B7 g ds hg;exact⟨hok g k1,bg.mono hkeep g (λ_=>rfl) _ _ k2⟩
 .intro i j bi bj hi hj pL sB he;obtain⟨_,Bi,g2,g3⟩:=cH hi pL;obtain⟨_,Bj,g4,g5⟩:=cH hj sB;exact hF.cx.inj i j Bi Bj g2 g4 g3 g5 he
 .intro i B hi;rcases CG hi with⟨_,rfl⟩|⟨_,B',h2,rfl⟩
  .trivial
  have h:=hF.cx.box i B' h2;cases B' with
  |var cs=>obtain⟨c,e,g1,g2⟩:=h;exact⟨c,e,g1,tD sX hmp _ _ g2⟩
  |row sz es=>refine h.imp id ?_;rintro⟨c,e,g1,g2⟩;exact⟨c,e,g1,ax.mono hkeep _ _ (λ_=>rfl) _ _ g2⟩
  |mr sz es=>refine h.imp id ?_;rintro⟨g1,g2⟩;exact⟨hok _ g1,ax.mono hkeep _ _ (λ_=>rfl) _ _ g2⟩
  |it s p=>exact h|mp ag es=>obtain⟨ms,clock,h1,h2,h3⟩:=h;exact⟨ms,clock,h1,h2,bB.mono hkeep _ _ _ h3⟩
  |dead=>trivial|bJ=>trivial
 .intro i B hi hl;obtain⟨_,B',g2,g3⟩:=cH hi hl;exact hF.cx.apart i B' g2 g3
 intro t;show ai β _ w _ (fK t (zH b (.mp ag es) s.sl)) _
 rw[Jp];exact BI sX hmp _ _ (hF.sW t)
end
section
variable (t:Th)(FC:Nat->List AV->List av->eP->List av->Prop)(T:Nat->Option TI)(G:Nat->Option (List D))(N K:Nat)
def ph:Code->(Ex->St->Prop)->St->Prop
 |.skip,Q,s=>Q .normal s|.region _ ops draw,Q,s=>bif draw then(bif Lt N ops.toList then(bif Su s.bx then aaS s (λs=>Om t FC T G N ops.toList Q s)else Om t FC T G N ops.toList Q s)else False)else Jf t FC T G N ops.toList ops.toList Q s|.seq a b,Q,s=>ph a (λe s1=>mv (λs1=>ph b Q s1) Q e s1) s|.cond c a b,Q,s=>(ct G s.sl c).ok/\zj (ct G s.sl c).aU (λ_=>ph a Q s) (λ_=>ph b Q s)|.block id c,Q,s=>ph c (λe s1=>match e with|.exit j=>bif Nat.beq j id then Q .normal s1 else Q (.exit j) s1|e=>Q e s1) s|.loop c,Q,s=>XN K (λQ1 s1=>ph c Q1 s1) Q s|.scope c,Q,s=>ph c Q s|.exit id,Q,s=>Q (.exit id) s|.label _,Q,s=>Q .normal s|.ret,Q,s=>Q .ret s|_,_,_=>False
structure zJ(n:Nat)(c:Prop)(v:AV)(bx:List av)(fz:Option (Prop×AV))(res:eP)(aE:List av):Prop where
 ok:c/\((res=.ret v/\aE=bx)∨
  (∃ks d u,fz=some (d,u)/\d/\u.within n=true/\aE=(kill ks (rZ bx v)).take n/\bY n aE=true/\res=.ret u)∨
  (∃k sz m es,v=.ow k sz m/\bx[k]?=some (.row sz es)/\n<=k/\n<=bx.length/\bY n (bx.take n)=true/\res=.ret (.ow n sz m)/\aE=bx.take n++[.row sz es])∨
  (∃sz,v=.cl []/\n<=bx.length/\bY n (bx.take n)=true/\res=.ret (.ow n sz 0)/\aE=bx.take n++[.row sz []]))
def iq(results:List ResultVar)(n:Nat)(res:eP)(aE:List av):Ex->St->Prop
 |.exit _,_=>False|.panic v,s=>NZ v s.bx res aE|_,s=>match vR T s.sl s.bx results with
  |some (c,vs)=>zJ n c (nO vs) s.bx (CS t s.bx (nO vs)) res aE|none=>False
end
section
variable {P:Program}{T:Nat->Option TI}{G:Nat->Option (List D)}{N K:Nat}{ds:Kp}{X:Nat->Prop}{β0:Nat->Nat}{aK:List av}{w0:World}
theorem Sv{β:Nat->Nat}{w:World}{s s1:St}{a:Act}{i:Nat}{c:Prop}(hF:Fr G N ds β w X s a)(h:Gx t0 i s=some (c,s1))(hc:c):Ext β s.bx w β s1.bx w/\Fr G N ds β w X s1 a:=by
 unfold Gx at h;split at h
 .rename_i c' y hy;simp only[osI,Prod.mk.injEq]at h;obtain⟨rfl,rfl⟩:=h;obtain⟨g1,g2,g3⟩:=xz hF.cx (L9 hy hc) (hF.sW i);refine⟨g1,g2,hF.defers,hF.size,hF.kept,λt=>?_⟩;simp only[rf];by_cases h:t=i
  .subst h;rw[if_pos rfl];exact g3
  rw[if_neg h];exact ai.mono (g1.dL X) _ _ (hF.sW t)
 cases h
theorem tE(hD:jF P T G){id:Nat}{ops:Array Oper}{Q:Ex->St->Prop}{β:Nat->Nat}{w:World}{s:St}{a:Act}(ex:Ext β0 aK w0 β s.bx w)(hF:Fr G N ds β w X s a)(hl:Lt N ops.toList=true)
 (h:Om t0 (be P G) T G N ops.toList Q s):(Code.region id ops true).wp P (dB G N ds X β0 aK w0 Q) a w:=by
 rcases VH h with h|⟨i,c,s1,h1,hc,h⟩
 .exact hD _ _ _ _ _ _ id ops Q β w s a ex hF hl h
 obtain⟨e1,xX⟩:=Sv hF h1 hc;exact hD _ _ _ _ _ _ id ops Q β w s1 a (ex.trans e1) xX hl h
theorem eS(hT:jj P T)(hD:jF P T G)(hK:aK.length<=K):∀(c:Code) (Q:Ex->St->Prop) (β:Nat->Nat) (w:World) (s:St) (a:Act),Ext β0 aK w0 β s.bx w->Fr G N ds β w X s a->
 ph t0 (be P G) T G N K c Q s->c.wp P (dB G N ds X β0 aK w0 Q) a w
 |.skip,Q,β,w,s,a,ex,hF,h=>wp_skip ⟨β,s,ex,hF,h⟩|.region id ops draw,Q,β,w,s,a,ex,hF,h=>by
  cases draw with
  |true=>
   simp only[ph,cond_true]at h;cases hlo:Lt N ops.toList with
   |false=>simp only[hlo,cond_false]at h|true=>
   simp only[hlo,cond_true]at h;cases hm:Su s.bx with
   |false=>simp only[hm,cond_false]at h;exact tE hD ex hF hlo h|true=>
    simp only[hm,cond_true]at h;rcases h with⟨h|⟨b,ag,es,hb,h⟩⟩
    .exact tE hD ex hF hlo h
    obtain⟨e1,xX⟩:=VI hF hb;exact tE hD (ex.trans e1) xX hlo h
  |false=>exact wp_region_list (jE hT ops.toList β w s a ex hF (CU _ _ h))
 |.seq x y,Q,β,w,s,a,ex,hF,h=>by
  refine wp_seq (wp_mono (eS hT hD hK x _ β w s a ex hF h) ?_);intro e a' w' hl;cases e<;>simp only[dB,mv]at hl
  .obtain⟨β',s',h1,h2,h3⟩:=hl;exact eS hT hD hK y Q β' w' s' a' h1 h2 h3
  .exact hl
  .exact hl
  exact hl
 |.cond c x y,Q,β,w,s,a,ex,hF,h=>by
  obtain⟨h1,⟨h2⟩⟩:=h;split at h2
  .rename_i p hc;have hv:=jO (hF.eval c) h1
   rw[hc]at hv;simp only[ai,aP]at hv;exact wp_cond_split hv (λhp=>eS hT hD hK x Q β w s a ex hF (h2.1 hp)) (λhp=>eS hT hD hK y Q β w s a ex hF (h2.2 hp))
  exact h2.elim
 |.block id c,Q,β,w,s,a,ex,hF,h=>by
  refine wp_block (wp_mono (eS hT hD hK c _ β w s a ex hF h) ?_);intro e a' w' hl;cases e<;>simp only[dB,Exit.inBlock]at hl ⊢
  .exact hl
  .rename_i j;by_cases hj:j=id
   .subst hj;simpa[dB]using hl
   have hb:Nat.beq j id=false:=Xy hj;simpa[dB,hb,hj]using hl
  .exact hl
  exact hl
 |.loop c,Q,β,w,s,a,ex,hF,h=>by
  obtain⟨nf,I,n,hG,YE⟩:=h;obtain⟨hC0,⟨hI⟩⟩:=hG.ok;refine wp_loop_ghost (λn a w=>∃β s,Ext β0 aK w0 β s.bx w/\Fr G N ds β w X s a/\I n s) n ?_ ?_
  .split at hI
   .rename_i s' hn;obtain⟨β',e1,Vs⟩:=AI hC0 hn hF;exact⟨β',s',ex.Ss hK e1,Vs,hI⟩
   exact hI.elim
  rintro n a w ⟨β,s,ex,hF,hI⟩;refine wp_mono (eS hT hD hK c _ β w s a ex hF (YE n s hI)) ?_;intro e a' w' hl;cases e<;>simp only[dB,mv]at hl
  .obtain⟨β',s',h1,h2,hG⟩:=hl;obtain⟨hC1,⟨h3⟩⟩:=hG.ok;split at h3
   .rename_i s'' hn;obtain⟨m,h4,h5⟩:=h3;obtain⟨β'',e1,Vs⟩:=AI hC1 hn h2;exact⟨m,h4,β'',s'',h1.Ss hK e1,Vs,h5⟩
   exact h3.elim
  .exact hl
  .exact hl
  exact hl
 |.scope c,Q,β,w,s,a,ex,hF,h=>by refine wp_scope_straight (wp_mono (eS hT hD hK c Q β w s a ex hF h) ?_);intro e a' w' hl;cases e<;>simp only[dB,Exit.noGoto]at hl ⊢<;>exact hl
 |.exit id,Q,β,w,s,a,ex,hF,h=>wp_exit ⟨β,s,ex,hF,h⟩|.label l,Q,β,w,s,a,ex,hF,h=>wp_label ⟨β,s,ex,hF,h⟩|.ret,Q,β,w,s,a,ex,hF,h=>wp_ret ⟨β,s,ex,hF,h⟩
theorem mj{results:List ResultVar}{n:Nat}{res:eP}{aE:List av}{e:Ex}{s:St}(h:iq t0 T results n res aE e s):B5 T results n res aE e s:=by
 unfold iq at h;split at h
 .exact h.elim
 .exact h
 rename_i h1 h2;unfold B5;split
 .exact absurd rfl (h1 _)
 .exact absurd rfl (h2 _)
 split at h
 .rename_i c vs hr;simp only[hr];obtain⟨hc,h⟩:=h;refine⟨hc,?_⟩;rcases h with h|⟨ks,d,u,k1,k2,k3⟩|h|h
  .exact .inl h
  .exact .inr (.inl ⟨ks,u,Ma k1 k2,k3⟩)
  .exact .inr (.inr (.inl h))
  exact .inr (.inr (.inr h))
 exact h.elim
theorem Bq(hT:jj P T)(hD:jF P T G){f N:Nat}{fn:Func}{c:Code}{args:List AV}{aK aE:List av}{res:eP}(hf:P.funcs[f]?=some fn)(hb:fn.body=some c)
 (hname:(fn.name== "runtime.NumGoroutine")=false) (hN:fn.ntmps=N) (hlen:gq args.length N=true)
 (h:ph t0 (be P G) T G N aK.length c (iq t0 T fn.results.toList aK.length res aE) ⟨fH 0 args,aK⟩):be P G f args aK res aE:=
 xG hT hf hb hname hN hlen λβ w X a hF=>wp_mono (eS (X:=X) (β0:=β) (aK:=aK) (w0:=w) hT hD (Nat.le_refl _) c _ β w ⟨fH 0 args,aK⟩ a (Ext.refl _ _ _) hF h)
  λ_ _ _ hl=>dB.imp (λ_ _ hq=>mj hq) hl
end
end Dem
end
section
open Go
namespace Dem
def kH(cj:List Nat)(n:Nat)(j:Nat):Option Nat:=match cj[j]? with
 |some i=>some i|none=>some (n+(j-cj.length))
def uK(cj:List Nat)(n:Nat)(aK:List av):Nat->List av->Option (List av)
 |_,[]=>some []|i,b::r=>match dD i cj 0 with
  |some j=>match aK[j]? with
   |some b0=>match av.iU (kH cj n) b0,uK cj n aK (i+1) r with
    |some x,some xs=>some (x::xs)|_,_=>none
   |none=>none
  |none=>match uK cj n aK (i+1) r with
   |some xs=>some (b::xs)|none=>none
def yj(cj:List Nat)(n:Nat):List av->Option (List av)
 |[]=>some []|b::r=>match av.iU (kH cj n) b,yj cj n r with
  |some x,some xs=>some (x::xs)|_,_=>none
def AJ(cj:List Nat)(bx aK:List av):Option (List av):=
 bif Nat.ble cj.length aK.length&&Gy cj 0 cj then
  match uK cj bx.length aK 0 bx,yj cj bx.length (aK.drop cj.length)with
  |some a,some b=>some (a++b)|_,_=>none
 else none
def eP.iU (m:Nat->Option Nat):eP->Option eP
 |.ret v=>match v.iU m with
  |some x=>some (.ret x)|none=>none
 |.zh v=>match v.iU m with
  |some x=>some (.zh x)|none=>none
section
variable {P:Program}{G:Nat->Option (List D)}
theorem tF{cj:List Nat}{n:Nat}{aK:List av}:∀{bx a:List av} {i:Nat},uK cj n aK i bx=some a->a.length=bx.length/\∀(k:Nat) (b:av),bx[k]?=some b->
 (∃j b0 b',dD (i+k) cj 0=some j/\aK[j]?=some b0/\av.iU (kH cj n) b0=some b'/\a[k]?=some b')∨(dD (i+k) cj 0=none/\a[k]?=some b)
 |[],a,i,h=>by simp only[uK,osI]at h;subst h;simp|b::r,a,i,h=>by
  simp only[uK]at h;split at h
  .rename_i j hj;split at h
   .rename_i b0 hb0;split at h
    .rename_i x xs h1 h2;simp only[osI]at h;subst h;obtain⟨k1,k2⟩:=tF h2;refine⟨by simp[k1],?_⟩;intro k b1 hk;cases k with
     |zero=>exact .inl ⟨j,b0,x,hj,hb0,h1,rfl⟩|succ k=>
      simp only[vaq]at hk ⊢;have:=k2 k b1 hk
      rwa[show i+1+k=i+(k+1) by omega]at this
    simp at h
   simp at h
  rename_i hj;split at h
  .rename_i xs h2;simp only[osI]at h;subst h;obtain⟨k1,k2⟩:=tF h2;refine⟨by simp[k1],?_⟩;intro k b1 hk;cases k with
   |zero=>simp only[List.getElem?_cons_zero,osI]at hk;subst hk;exact .inr ⟨hj,rfl⟩|succ k=>
    simp only[vaq]at hk ⊢;have:=k2 k b1 hk
    rwa[show i+1+k=i+(k+1) by omega]at this
  simp at h
theorem AK{cj:List Nat}{n:Nat}:∀{bx a:List av},yj cj n bx=some a->a.length=bx.length/\∀(k:Nat) (b:av),bx[k]?=some b->∃b',av.iU (kH cj n) b=some b'/\a[k]?=some b'
 |[],a,h=>by simp only[yj,osI]at h;subst h;simp|b::r,a,h=>by
  simp only[yj]at h;split at h
  .rename_i x xs h1 h2;simp only[osI]at h;subst h;obtain⟨k1,k2⟩:=AK h2;refine⟨by simp[k1],?_⟩;intro k b1 hk;cases k with
   |zero=>simp only[List.getElem?_cons_zero,osI]at hk;subst hk;exact⟨x,h1,rfl⟩|succ k=>simp only[vaq]at hk ⊢;exact k2 k b1 hk
  simp at h
theorem fR{f:Nat}{args iV:List AV}{bx aK tG aE:List av}{YF res:eP}(cj:List Nat)
 (ha:AV.wm (λb=>dD b cj 0) args=some iV) (hb:fQ (λb=>dD b cj 0) bx cj=some aK)
 (hr:eP.iU (kH cj bx.length) YF=some res) (hb':AJ cj bx tG=some aE) (h:be P G f iV aK YF tG):be P G f args bx res aE:=by
 intro β w vs X cx hx;unfold AJ at hb';cases hlen:Nat.ble cj.length tG.length with
 |false=>simp[hlen]at hb'|true=>
 cases Me:Gy cj 0 cj with
 |false=>simp[hlen,Me]at hb'|true=>
 simp only[hlen,Me,Bool.and_self,cond_true]at hb'
 split at hb'
 case h_2=>simp at hb'
 rename_i aO aN hO hN
 simp only[osI]at hb'
 subst hb'
 have hlen':cj.length<=tG.length:=Nat.le_of_ble_eq_true hlen
 obtain⟨lO,gO⟩:=tF hO
 obtain⟨lN,gN⟩:=AK hN
 have yh:∀k i,cj[k]?=some i->dD i cj 0=some k:=λk i hk=>by have:=uI Me hk;simpa using this
 have hidx:∀b j,dD b cj 0=some j->cj[j]?=some b:=λb j hj=>by have:=(wo hj).2;simpa using this
 have Sw:∀k i,cj[k]?=some i->∃b,bx[i]?=some b:=λk i hk=>by obtain⟨b,_,h1,_⟩:=oN hb k i hk;exact⟨b,h1⟩
 let β0:Nat->Nat:=λj=>match cj[j]? with|some i=>β i|none=>0
 let X0:Nat->Prop:=λblk=>X blk∨∃(i:Nat) (b:av),bx[i]?=some b/\b.live=true/\dD i cj 0=none/\β i=blk
 have YH:∀k i,cj[k]?=some i->β0 k=β i:=λk i hk=>by simp[β0,hk]
 have hm:∀b j,dD b cj 0=some j->β0 j=β b/\(cr bx b->cr aK j):=by
  intro b j hj;have hs:=hidx b j hj
  refine⟨YH j b hs,?_⟩;rintro⟨B,hB,dM⟩;obtain⟨b1,b2,k1,k2,k3⟩:=oN hb j b hs;rw[hB]at k1;cases k1;exact⟨b2,k3,(av.gW k2).1.trans dM⟩
 have wq:∀(i:Nat) (b:av),aK[i]?=some b->b.live=true->∃(j:Nat) (b':av),bx[j]?=some b'/\b'.live=true/\β j=β0 i/\cj[i]?=some j:=by intro i b hi hl;obtain⟨j,b',k1,k2,k3⟩:=kF hb i b hi;exact⟨j,b',k2,(av.gW k3).2▸hl,(YH i j k1).symm,k1⟩
 have Sx:∀blk,bq β bx w X blk->bq β0 aK w X0 blk:=by
  rintro blk ⟨k1,k2,k3⟩;refine⟨k1,?_,?_⟩
  .rintro(hX|⟨i,b,h1,h2,_,h3⟩)
   .exact k2 hX
   exact k3 i b h1 h2 h3
  intro i b hi hl;obtain⟨j,b',h3,h4,h5,_⟩:=wq i b hi hl;rw[<-h5];exact k3 j b' h3 h4
 have Gz:kZ w w (bq β bx w X) (bq β0 aK w X0):=λblk hb=>⟨Sx blk hb,rfl⟩
 have hlt:∀(i:Nat) (b:av),bx[i]?=some b->b.live=true->β i<w.heap.size:=λi b h hl=>dV.fF (cx.box i b h) hl
 have Z9:cB G β0 aK w X0:=by
  refine⟨?_,?_,?_,?_,?_⟩
  .rintro blk (hX|⟨i,b,h1,h2,_,rfl⟩)
   .exact cx.xs blk hX
   exact hlt i b h1 h2
  .intro g ds hg;obtain⟨k1,k2⟩:=cx.B7 g ds hg;exact⟨Sx g k1,bg.mono Gz g (λ_=>rfl) _ _ k2⟩
  .intro i j bi bj hi hj pL sB he;obtain⟨i',bi',a1,a2,a3,a4⟩:=wq i bi hi pL;obtain⟨j',bj',c1,c2,c3,c4⟩:=wq j bj hj sB;have:i'=j':=cx.inj i' j' bi' bj' a1 c1 a2 c2 (a3.trans (he.trans c3.symm))
   subst this;have e1:=yh i i' a4
   have e2:=yh j i' c4;rw[e1]at e2;exact Option.some.inj e2
  .intro i b hi;obtain⟨j,b',k1,k2,k3⟩:=kF hb i b hi;have Is:=cx.box j b' k2
   rw[YH i j k1];cases b' with
   |var cs=>
    simp only[av.iU]at k3;split at k3
    .rename_i ys hys;simp only[osI]at k3;subst k3;simp only[dV]at Is ⊢;obtain⟨c,e,g1,g2⟩:=Is;exact⟨c,e,g1,mE hm Sx cs ys _ hys g2⟩
    simp at k3
   |row sz es=>simp only[av.iU,osI]at k3;subst k3;refine Is.imp id ?_;rintro⟨c,e,g1,g2⟩;exact⟨c,e,g1,ax.mono Gz _ _ (λ_=>rfl) _ _ g2⟩
   |mr sz es=>simp only[av.iU,osI]at k3;subst k3;refine Is.imp id ?_;rintro⟨g1,g2⟩;exact⟨Sx _ g1,ax.mono Gz _ _ (λ_=>rfl) _ _ g2⟩
   |it s p=>simp only[av.iU,osI]at k3;subst k3;exact Is|mp ag es=>simp only[av.iU,osI]at k3;subst k3;obtain⟨ms,clock,h1,h2,h3⟩:=Is;exact⟨ms,clock,h1,h2,bB.mono Gz _ _ _ h3⟩
   |dead=>simp only[av.iU,osI]at k3;subst k3;trivial|bJ=>simp only[av.iU,osI]at k3;subst k3;trivial
  intro i b hi hl;obtain⟨j,b',h3,h4,h5,h6⟩:=wq i b hi hl;rw[<-h5];rintro(hX|⟨i2,b2,e1,e2,e3,e4⟩)
  .exact cx.apart j b' h3 h4 hX
  have:i2=j:=cx.inj i2 j b2 b' e1 h3 e2 h4 e4;subst this;rw[yh i i2 h6]at e3;cases e3
 refine lg.mono (h β0 w vs X0 Z9 (mE hm Sx args iV vs ha hx)) ?_
 rintro e w' ⟨Mf,vp,VJ,hres⟩
 let β':Nat->Nat:=λi=>match dD i cj 0 with|some j=>Mf j|none=>if i<bx.length then β i else Mf (cj.length+(i-bx.length))
 have aaT:∀j i,cj[j]?=some i->i<bx.length:=λj i hj=>by obtain⟨b,hb⟩:=Sw j i hj;exact kx hb
 have aaU:∀k,dD (bx.length+k) cj 0=none:=by
  intro k;cases hc:dD (bx.length+k) cj 0 with
  |none=>rfl|some j=>have:=aaT j _ (hidx _ _ hc);omega
 have aaV:∀i j,dD i cj 0=some j->β' i=Mf j:=λi j hj=>by simp[β',hj]
 have Mg:∀i,i<bx.length->dD i cj 0=none->β' i=β i:=λi hi hn=>by simp[β',hi,hn]
 have adv:∀k,β' (bx.length+k)=Mf (cj.length+k):=λk=>by simp[β',aaU k];omega
 have Sy:∀(i:Nat),i<bx.length->(aO++aN)[i]?=aO[i]?:=λi hi=>vaz (by omega)
 have XO:∀(k:Nat),(aO++aN)[bx.length+k]?=aN[k]?:=λk=>by rw[vaF (by omega),lO];congr 1;omega
 have hinv:∀(i:Nat) (b:av),(aO++aN)[i]?=some b->(i<bx.length/\dD i cj 0=none/\bx[i]?=some b)∨
  (∃(j:Nat) (b0:av),tG[j]?=some b0/\av.iU (kH cj bx.length) b0=some b/\kH cj bx.length j=some i):=by
  intro i b hi;rcases Nat.lt_or_ge i bx.length with hl|hl
  .rw[Sy i hl]at hi;obtain⟨bi,BA⟩:∃bi,bx[i]?=some bi:=⟨bx[i],by simp[hl]⟩;have:=gO i bi BA
   rw[Nat.zero_add]at this;rcases this with⟨j,b0,b',k1,k2,k3,k4⟩|⟨k1,k2⟩
   .rw[hi]at k4;cases k4;refine .inr ⟨j,b0,k2,k3,?_⟩;simp[kH,hidx i j k1]
   rw[hi]at k2;cases k2;exact .inl ⟨hl,k1,BA⟩
  obtain⟨k,rfl⟩:∃k,i=bx.length+k:=⟨i-bx.length,by omega⟩;rw[XO k]at hi;have hk:k<aN.length:=by
   rcases Nat.lt_or_ge k aN.length with h'|h'
   .exact h'
   simp[vay h']at hi
  have hkd:k<(tG.drop cj.length).length:=by omega
  obtain⟨b',k1,k2⟩:=gN k _ (vaj hkd);rw[hi]at k2;cases k2;refine .inr ⟨cj.length+k,(tG.drop cj.length)[k],?_,k1,?_⟩
  .rw[<-List.getElem?_drop];exact vaj hkd
  simp[kH]
 have CY:∀j i,kH cj bx.length j=some i->β' i=Mf j/\(cr tG j->cr (aO++aN) i):=by
  intro j i hj;unfold kH at hj;split at hj
  .rename_i i' hs;simp only[osI]at hj;subst hj;obtain⟨bi,BA⟩:=Sw j i' hs;have hil:=kx BA
   refine⟨aaV i' j (yh j i' hs),?_⟩;rintro⟨b0,e1,e2⟩;have:=gO i' bi BA
   rw[Nat.zero_add,yh j i' hs]at this;rcases this with⟨j2,b02,b',c1,c2,c3,c4⟩|⟨c1,_⟩
   .cases c1;rw[e1]at c2;cases c2;exact⟨b',by rw[Sy i' hil];exact c4,(av.gW c3).1.trans e2⟩
   cases c1
  rename_i hs;simp only[osI]at hj;subst hj;have hge:cj.length<=j:=by
   rcases Nat.lt_or_ge j cj.length with h'|h'
   .simp[h']at hs
   exact h'
  refine⟨by rw[adv];congr 1;omega,?_⟩;rintro⟨b0,e1,e2⟩;have hd:(tG.drop cj.length)[j-cj.length]?=some b0:=by rw[List.getElem?_drop];rw[<-e1];congr 1;omega
  obtain⟨b',c1,c2⟩:=gN _ _ hd;exact⟨b',by rw[XO];exact c2,(av.gW c1).1.trans e2⟩
 have Sz:∀blk,bq Mf tG w' X0 blk->bq β' (aO++aN) w' X blk:=by
  rintro blk ⟨k1,k2,k3⟩;refine⟨k1,λhX=>k2 (.inl hX),?_⟩;intro i b hi hl;rcases hinv i b hi with⟨c1,c2,c3⟩|⟨j,b0,c1,c2,c3⟩
  .rw[Mg i c1 c2];exact λhe=>k2 (.inr ⟨i,b,c3,hl,c2,he⟩)
  rw[(CY j i c3).1];exact k3 j b0 c1 ((av.gW c2).2▸hl)
 have Mh:kZ w' w' (bq Mf tG w' X0) (bq β' (aO++aN) w' X):=λblk hb=>⟨Sz blk hb,rfl⟩
 have ex:Ext β bx w β' (aO++aN) w':=by
  refine⟨vp.os,vp.tape,vp.output,vp.size,?_,vp.shape,?_,?_⟩
  .intro k hk hl;refine vp.block k hk ?_;intro i b hi hlv;obtain⟨j,b',h3,h4,h5,_⟩:=wq i b hi hlv;rw[<-h5];exact hl j b' h3 h4
  .intro i hi;obtain⟨b,ED,Eb⟩:=hi;have hil:=kx ED
   cases hc:dD i cj 0 with
   |some j=>
    obtain⟨k1,k2⟩:=hm i j hc;obtain⟨c1,c2⟩:=vp.born j (k2 ⟨b,ED,Eb⟩);have hbm:kH cj bx.length j=some i:=by simp[kH,hidx i j hc]
    exact⟨by rw[aaV i j hc,c1,k1],(CY j i hbm).2 c2⟩
   |none=>
    refine⟨Mg i hil hc,b,?_,Eb⟩;rw[Sy i hil];have:=gO i b ED
    rw[Nat.zero_add,hc]at this;rcases this with⟨_,_,_,c1,_⟩|⟨_,c2⟩
    .cases c1
    exact c2
  intro i b hi hl;rcases hinv i b hi with⟨c1,c2,c3⟩|⟨j,b0,c1,c2,c3⟩
  .exact .inr ⟨i,b,c3,hl,(Mg i c1 c2).symm⟩
  rw[(CY j i c3).1];rcases vp.live j b0 c1 ((av.gW c2).2▸hl)with h1|⟨j',b',h1,h2,h3⟩
  .exact .inl h1
  obtain⟨j2,b2,e1,e2,e3,_⟩:=wq j' b' h1 h2;exact .inr ⟨j2,b2,e1,e2,e3.trans h3⟩
 refine⟨β',ex,cx.step ex ?_ ?_,?_⟩
 .intro i b hi;rcases hinv i b hi with⟨c1,c2,c3⟩|⟨j,b0,c1,c2,c3⟩
  .refine .inl ⟨c3,λhl=>vp.block _ (hlt i b c3 hl) ?_⟩;intro k b' hk hlk he;obtain⟨j,b2,h3,h4,h5,h6⟩:=wq k b' hk hlk;have:j=i:=cx.inj j i b2 b h3 c3 h4 hl (h5.trans he)
   subst this;rw[yh k j h6]at c2;cases c2
  refine .inr ?_;have Is:=VJ.box j b0 c1
  rw[(CY j i c3).1];cases b0 with
  |var cs=>
   simp only[av.iU]at c2;split at c2
   .rename_i ys hys;simp only[osI]at c2;subst c2;simp only[dV]at Is ⊢;obtain⟨c,e,g1,g2⟩:=Is;exact⟨c,e,g1,mE CY Sz cs ys _ hys g2⟩
   simp at c2
  |row sz es=>simp only[av.iU,osI]at c2;subst c2;refine Is.imp id ?_;rintro⟨c,e,g1,g2⟩;exact⟨c,e,g1,ax.mono Mh _ _ (λ_=>rfl) _ _ g2⟩
  |mr sz es=>simp only[av.iU,osI]at c2;subst c2;refine Is.imp id ?_;rintro⟨g1,g2⟩;exact⟨Sz _ g1,ax.mono Mh _ _ (λ_=>rfl) _ _ g2⟩
  |it s p=>simp only[av.iU,osI]at c2;subst c2;exact Is|mp ag es=>simp only[av.iU,osI]at c2;subst c2;obtain⟨ms,clock,h1,h2,h3⟩:=Is;exact⟨ms,clock,h1,h2,bB.mono Mh _ _ _ h3⟩
  |dead=>simp only[av.iU,osI]at c2;subst c2;trivial|bJ=>simp only[av.iU,osI]at c2;subst c2;trivial
 .intro i j bi bj hi hj pL sB he;rcases hinv i bi hi with⟨c1,c2,c3⟩|⟨i',b0,c1,c2,c3⟩<;>rcases hinv j bj hj with⟨d1,d2,d3⟩|⟨j',b0',d1,d2,d3⟩
  .rw[Mg i c1 c2,Mg j d1 d2]at he;exact cx.inj i j bi bj c3 d3 pL sB he
  .rw[Mg i c1 c2,(CY j' j d3).1]at he;exact absurd (.inr ⟨i,bi,c3,pL,c2,he⟩) (VJ.apart j' b0' d1 ((av.gW d2).2▸sB))
  .rw[(CY i' i c3).1,Mg j d1 d2]at he;exact absurd (.inr ⟨j,bj,d3,sB,d2,he.symm⟩) (VJ.apart i' b0 c1 ((av.gW c2).2▸pL))
  rw[(CY i' i c3).1,(CY j' j d3).1]at he;have:=VJ.inj i' j' b0 b0' c1 d1 ((av.gW c2).2▸pL) ((av.gW d2).2▸sB) he
  subst this;rw[c3]at d3;exact Option.some.inj d3
 cases YF with
 |ret v0=>
  simp only[eP.iU]at hr
  split at hr
  .rename_i v hv;simp only[osI]at hr;subst hr;cases e with
   |returned u=>exact uJ CY Sz v0 v u hv hres|panicked ch=>exact hres.elim|outgrown=>exact hres.elim
  simp at hr
 |zh v0=>
  simp only[eP.iU]at hr
  split at hr
  .rename_i v hv;simp only[osI]at hr;subst hr;cases e with
   |returned u=>exact hres.elim|panicked ch=>obtain⟨u,k1,k2⟩:=hres;exact⟨u,k1,uJ CY Sz v0 v u hv k2⟩
   |outgrown=>exact hres.elim
  simp at hr
end
end Dem
end
section
open Go
namespace Dem
theorem aC{s:St}{P:St->Prop}(h:P s):LoopIn (some s) P:=⟨h⟩
def aaW(bx:List av):List (Nat×av)->List av
 |[]=>bx|(i,b)::r=>aaW (bx.set i b) r
def aaX(sl:List (Nat×AV)):List (Nat×AV)->List (Nat×AV)
 |[]=>sl|(i,v)::r=>aaX (put i v sl) r
def PB(s:St)(u:List (Nat×AV))(b:List (Nat×av)):St:=⟨aaX s.sl u,aaW s.bx b⟩
theorem bw{K:Nat}{A:(Ex->St->Prop)->St->Prop}{Q:Ex->St->Prop}{s:St}(nf:Nf){σ:Type}(U:σ->List (Nat×AV))(V:σ->List (Nat×av))(J:Nat->σ->Prop)
 (h:tC (tB (yg s nf.os) nf.ob) (LoopIn (AH K nf s) λs0=>∃n0 v0,J n0 v0/\s0=PB s0 (U v0) (V v0)/\
  ∀n v,J n v->A (λe s2=>mv (λs2=>tC (tB (yg s2 nf.os) nf.ob) (LoopIn (AH K nf s2) (λs3=>∃m v',(m<n/\J m v')/\s3=PB s0 (U v') (V v')))) Q e s2) (PB s0 (U v) (V v)))):XN K A Q s:=by
 obtain⟨hC,⟨h⟩⟩:=h.ok
 split at h
 .rename_i s0 hn;obtain⟨n0,v0,hJ,hs,hr⟩:=h;refine⟨nf,λn s1=>∃v,J n v/\s1=PB s0 (U v) (V v),n0,tC.mk hC ⟨?_⟩,?_⟩
  .rw[hn];exact⟨v0,hJ,hs⟩
  rintro n s1 ⟨v,hv,rfl⟩;have e:(λe s2=>mv (λs2=>tC (tB (yg s2 nf.os) nf.ob) (LoopIn (AH K nf s2) (λs3=>∃m v',(m<n/\J m v')/\s3=PB s0 (U v') (V v')))) Q e s2)=
   (λe s2=>mv (λs2=>tC (tB (yg s2 nf.os) nf.ob) (LoopIn (AH K nf s2) (λs3=>∃m,m<n/\∃v,J m v/\s3=PB s0 (U v) (V v)))) Q e s2):=by
   funext e s2;congr 1;funext s2;congr 2;funext s3;apply propext;constructor
   .rintro⟨m,v',⟨h1,h2⟩,h3⟩;exact⟨m,h1,v',h2,h3⟩
   rintro⟨m,h1,v',h2,h3⟩;exact⟨m,v',⟨h1,h2⟩,h3⟩
  rw[<-e];exact hr n v hv
 exact h.elim
theorem aj{p:Bool}{A B:Unit->Prop}(h1:p=true->A ())(h2:p=false->B ()):zj (.d (.bool p)) A B:=.mk (And.intro h1 h2)
theorem oe{p:Bool}{A B:Unit->Prop}(hp:p=true)(h1:A ()):zj (.d (.bool p)) A B:=.mk (And.intro (λ_=>h1) (λh=>by rw[hp]at h;cases h))
theorem p9{p:Bool}{A B:Unit->Prop}(hp:p=false)(h1:B ()):zj (.d (.bool p)) A B:=.mk (And.intro (λh=>by rw[hp]at h;cases h) (λ_=>h1))
theorem jG{g:Bool}{c:Prop}{ds:List D}{K:List D->Prop}(ds':List D)(hc:c)(hd:ds=ds')(hK:K ds'):pN g c ds K:=⟨ds',λ_=>⟨hc,hd⟩,hK⟩
theorem YI{g:Bool}{c:Prop}{ds:List D}{K:List D->Prop}(ds':List D)(hc:c)(hd:ds=ds')(hK:K ds'):Sk g c ds K:=⟨ds',λ_=>⟨hc,hd⟩,hK⟩
theorem SA{g:Bool}{c:Prop}{ds:List D}{K:List D->Prop}(ds':List D)(h:g=true->c/\ds=ds')(hK:K ds'):pN g c ds K:=⟨ds',h,hK⟩
theorem cq{c:Prop}{v:AV}{bx:List av}{K:AV->List av->Prop}(v':AV)(aE:List av)(hc:c)(hv:v=v')(hb:bx=aE)(hK:K v' aE):Sl c v bx K:=⟨v',aE,hc,hv,hb,hK⟩
theorem kI{g:Bool}{c:Prop}{v:AV}{K:AV->Prop}(v':AV)(h:g=true->c/\v=v')(hK:K v'):XG g c v K:=⟨v',h,hK⟩
theorem gI{g:Bool}{p K:Prop}(h:g=true->p)(k:K):zG g p/\K:=⟨⟨h⟩,k⟩
theorem pI{p:Bool}{a b K:Prop}(h:(p=true->a)/\(p=false->b))(k:K):Oj p a b/\K:=⟨⟨h⟩,k⟩
section
variable {P:Program}{G:Nat->Option (List D)}{FC:Nat->List AV->List av->eP->List av->Prop}{kX:Prop}{f:Nat}{args args':List AV}{c:Prop}{bx sL gY:List av}{v:AV}{K Kp:AV->List av->Prop}
theorem iW(ho:kX)(h:FC f args' [] (.ret v) [])(hc:c)(hs:AV.shut.mZ args'=true)(hf:v.flat=true)(hK:K v bx):oM FC kX f args (some (c,args')) bx K Kp:=
 ⟨ho,.inl ⟨c,args',rfl,hc,hs,.inl ⟨v,h,.inl hf,hK⟩⟩⟩
theorem yl(ho:kX)(h:FC f args' [] (.ret v) [])(hc:c)(hs:AV.shut.mZ args'=true)(hz:fq [] args=some args')(hv:v.shut=true)(hK:K v bx):oM FC kX f args (some (c,args')) bx K Kp:=
 ⟨ho,.inl ⟨c,args',rfl,hc,hs,.inl ⟨v,h,.inr ⟨hz,hv⟩,hK⟩⟩⟩
theorem sj{sz n:Nat}{es:List (List D)}(ho:kX)(h:FC f args' [] (.ret (.ow 0 sz n)) [.row sz es])(hc:c)(hs:AV.shut.mZ args'=true)(hz:(∀r∈es,∀x∈r,x.flat=true)∨fq [] args=some args')(hK:K (.ow bx.length sz n) (bx++[.row sz es])):oM FC kX f args (some (c,args')) bx K Kp:=
 ⟨ho,.inl ⟨c,args',rfl,hc,hs,.inr ⟨sz,n,es,h,hz,hK⟩⟩⟩
theorem aaY{fz:Option (Prop×List AV)}(ho:kX)(hfz:fz=some (c,args'))(hc:c)(h:FC f args' (fI bx args) (.ret v) gY)(hK:K v gY):oM FC kX f args fz bx K Kp:=
 ⟨ho,.inr ⟨args',fI bx args,.ret v,gY,.inr ⟨⟨c,hfz,hc⟩,rfl⟩,h,hK⟩⟩
theorem dO{fz:Option (Prop×List AV)}(ho:kX)(h:FC f args bx (.ret v) gY)(hK:K v gY):oM FC kX f args fz bx K Kp:=
 ⟨ho,.inr ⟨args,bx,.ret v,gY,.inl ⟨rfl,rfl⟩,h,hK⟩⟩
theorem Jq{dr g:Bool}{v:AV}{K:AV->Prop}(h:g=true->kX/\c/\FC f args' [] (.ret v) [])(hs:AV.bV.c6 [] args'=true)(hf:v.flat=true)(hK:K v):ry FC dr g kX f args bx (some (c,args')) K:=
 ⟨.inr ⟨v,λhg=>⟨(h hg).1,args',[],⟨c,rfl,(h hg).2.1⟩,hs,⟨false,rfl,λh=>by cases h⟩,by simp,(h hg).2.2,.inl hf⟩,hK⟩⟩
theorem og{dr g:Bool}{v:AV}{K:AV->Prop}(h:g=true->kX/\c/\FC f args' [] (.ret v) [])(hs:AV.bV.c6 [] args'=true)(hz:fq [] args=some args')(hf:v.shut=true)(hK:K v):ry FC dr g kX f args bx (some (c,args')) K:=
 ⟨.inr ⟨v,λhg=>⟨(h hg).1,args',[],⟨c,rfl,(h hg).2.1⟩,hs,⟨false,rfl,λh=>by cases h⟩,by simp,(h hg).2.2,.inr ⟨hz,hf⟩⟩,hK⟩⟩
theorem YJ{P:Program}{G:Nat->Option (List D)}{dr g:Bool}{v:AV}{K:AV->Prop}{iV:List AV}{aK:List av}(ks:List Bool)(cj:List Nat)(ho:g=true->kX/\c/\be P G f iV aK (.ret v) aK)
 (hn:AV.bV.c6 (kill ks bx) args'=true) (hl:eA false (kill ks bx) (kill ks bx)=true) (hv:v.flat=true∨fq [] args=some args'/\v.shut=true)
 (ha:AV.wm (λb=>dD b cj 0) args'=some iV) (hb:fQ (λb=>dD b cj 0) (kill ks bx) cj=some aK) (hb':AJ cj (kill ks bx) aK=some (kill ks bx)) (hr:eP.iU (kH cj (kill ks bx).length) (.ret v)=some (.ret v))
 (hK:K v):ry (be P G) dr g kX f args bx (some (c,args')) K:=by
 refine⟨.inr ⟨v,λhg=>⟨(ho hg).1,args',kill ks bx,⟨c,rfl,(ho hg).2.1⟩,hn,⟨false,hl,λh=>by cases h⟩,?_,fR cj ha hb hr hb' (ho hg).2.2,hv⟩,hK⟩⟩;intro i b hi dM;obtain⟨b0,h1,h2⟩:=mB ks bx i b hi;rcases h2 with rfl|⟨rfl,h3⟩
 .exact⟨_,h1,dM,λ_=>rfl⟩
 exact⟨b0,h1,h3,λh=>by simp[av.live]at h⟩
theorem VK{P:Program}{G:Nat->Option (List D)}{dr g:Bool}{v:AV}{K:AV->Prop}{iV:List AV}{aK:List av}(ks:List Bool)(cj:List Nat)(ho:g=true->kX/\c/\be P G f iV aK (.ret v) aK)
 (hn:AV.bV.c6 (kill ks bx) args'=true) (hz:fq [] args=some args') (hl:eA true (kill ks bx) (kill ks bx)=true) (hv:v.flat=true∨fq [] args=some args'/\v.shut=true)
 (ha:AV.wm (λb=>dD b cj 0) args'=some iV) (hb:fQ (λb=>dD b cj 0) (kill ks bx) cj=some aK) (hb':AJ cj (kill ks bx) aK=some (kill ks bx)) (hr:eP.iU (kH cj (kill ks bx).length) (.ret v)=some (.ret v))
 (hK:K v):ry (be P G) dr g kX f args bx (some (c,args')) K:=by
 refine⟨.inr ⟨v,λhg=>⟨(ho hg).1,args',kill ks bx,⟨c,rfl,(ho hg).2.1⟩,hn,⟨true,hl,λ_=>hz⟩,?_,fR cj ha hb hr hb' (ho hg).2.2,hv⟩,hK⟩⟩;intro i b hi dM;obtain⟨b0,h1,h2⟩:=mB ks bx i b hi;rcases h2 with rfl|⟨rfl,h3⟩
 .exact⟨_,h1,dM,λ_=>rfl⟩
 exact⟨b0,h1,h3,λh=>by simp[av.live]at h⟩
theorem YK{P:Program}{G:Nat->Option (List D)}{g:Bool}{v:AV}{K:AV->Prop}{fz:Option (Prop×List AV)}{iV:List AV}{aK:List av}(cj:List Nat)(ho:g=true->kX/\be P G f iV aK (.ret v) aK)
 (ha:AV.wm (λb=>dD b cj 0) args=some iV) (hb:fQ (λb=>dD b cj 0) bx cj=some aK) (hb':AJ cj bx aK=some bx) (hr:eP.iU (kH cj bx.length) (.ret v)=some (.ret v))
 (hK:K v):ry (be P G) false g kX f args bx fz K:=
 ⟨.inl ⟨rfl,v,λhg=>⟨(ho hg).1,fR cj ha hb hr hb' (ho hg).2⟩,hK⟩⟩
theorem Ot{x sz n:Nat}{es:List (List D)}{at_:Option av}{K:AV->av->Prop}(ho:kX)(h:FC f args' [] (.ret (.ow 0 sz n)) [.row sz es])(hc:c)(hs:AV.shut.mZ args'=true)(hz:(∀r∈es,∀x∈r,x.flat=true)∨fq [] args=some args')(hat:at_=some .bJ)
 (hK:K (.ow x sz n) (.row sz es)):XH FC kX f args (some (c,args')) at_ x K:=⟨args',sz,n,es,ho,⟨c,rfl,hc⟩,hs,h,hz,hat,hK⟩
structure SB(r:Option eP)(b:Option (List av))(K:AV->List av->Prop):Prop where
 ok:match r,b with
  |some (.ret v),some bx=>K v bx|_,_=>False
theorem aH{v:AV}{bx:List av}{K:AV->List av->Prop}(h:K v bx):SB (some (.ret v)) (some bx) K:=⟨h⟩
theorem aW{fz:Option (Prop×List AV)}(cj:List Nat){iV:List AV}{aK tG:List av}{v0:AV}(ho:kX)
 (ha:AV.wm (λb=>dD b cj 0) args=some iV) (hb:fQ (λb=>dD b cj 0) bx cj=some aK) (h:be P G f iV aK (.ret v0) tG)
 (hK:SB (eP.iU (kH cj bx.length) (.ret v0)) (AJ cj bx tG) K):oM (be P G) kX f args fz bx K Kp:=by
 obtain⟨hK⟩:=hK;split at hK
 .rename_i v aE hr hb';exact dO ho (fR cj ha hb hr hb' h) hK
 exact hK.elim
end
section
variable {n:Nat}{c d:Prop}{v u:AV}{bx aE:List av}{res:eP}{fz:Option (Prop×AV)}
theorem ia(hc:c)(hd:d)(hw:u.within n=true)(hb:aE=(rZ bx v).take n)(VL:bY n aE=true)(hr:res=.ret u):zJ n c v bx (some (d,u)) res aE:=
 ⟨hc,.inr (.inl ⟨[],d,u,rfl,hd,hw,hb,VL,hr⟩)⟩
theorem CZ(ks:List Bool)(hc:c)(hd:d)(hw:u.within n=true)(hb:aE=(kill ks (rZ bx v)).take n)(VL:bY n aE=true)(hr:res=.ret u):zJ n c v bx (some (d,u)) res aE:=
 ⟨hc,.inr (.inl ⟨ks,d,u,rfl,hd,hw,hb,VL,hr⟩)⟩
theorem SC(hc:c)(hb:aE=bx)(hr:res=.ret v):zJ n c v bx fz res aE:=⟨hc,.inl ⟨hr,hb⟩⟩
theorem GA{k sz m:Nat}{es:List (List D)}(hc:c)(hk:bx[k]?=some (.row sz es))(h1:Nat.ble n k=true)(h2:Nat.ble n bx.length=true)(VL:bY n (bx.take n)=true)(hr:res=.ret (.ow n sz m))(hb:aE=bx.take n++[.row sz es]):zJ n c (.ow k sz m) bx fz res aE:=
 ⟨hc,.inr (.inr (.inl ⟨k,sz,m,es,rfl,hk,Nat.le_of_ble_eq_true h1,Nat.le_of_ble_eq_true h2,VL,hr,hb⟩))⟩
theorem Mi{sz:Nat}(hc:c)(h2:Nat.ble n bx.length=true)(VL:bY n (bx.take n)=true)(hr:res=.ret (.ow n sz 0))(hb:aE=bx.take n++[.row sz []]):zJ n c (.cl []) bx fz res aE:=
 ⟨hc,.inr (.inr (.inr ⟨sz,rfl,Nat.le_of_ble_eq_true h2,VL,hr,hb⟩))⟩
end
theorem gJ{P:Program}{G:Nat->Option (List D)}{f b sz n:Nat}{args:List AV}{bx aE:List av}{res:eP}
 (h:∀c,n<=c->(n=0->c=0)->be P G f (.vw b sz 0 n c true::args) bx res aE):be P G f (.ow b sz n::args) bx res aE:=by
 intro β w vs X cx hx;simp only[an]at hx;obtain⟨u,us,rfl,hx,hxs⟩:=hx;simp only[ai]at hx;obtain⟨hb,⟨rfl,base,rfl⟩|⟨h0,cap,c,e,f',rfl,h1,h2,h3⟩⟩:=hx
 .refine h 0 (vad _) (λ_=>rfl) β w _ X cx ?_;simp only[an,ai];exact⟨_,us,rfl,⟨hb,base,0,#[],0,(0,0),rfl,vad _,vad _,λ_=>rfl,.inl rfl⟩,hxs⟩
 refine h cap h1 (λh=>absurd h h0) β w _ X cx ?_;simp only[an,ai];exact⟨_,us,rfl,⟨hb,_,cap,c,e,f',rfl,h1,vad _,λ_=>rfl,.inr ⟨by simp,h2,by simpa using h3⟩⟩,hxs⟩
theorem wrap64{x:Int}(h0:-9223372036854775808<=x)(h1:x<9223372036854775808):IntKind.i64.wrap x=x:=by simp[IntKind.wrap,IntKind.signed,IntKind.bits];omega
end Dem
end
section
open Go
namespace Dem
def qU:AV:=.d (.int .u64 0)
def qI:AV:=.d (.int .i64 0)
def qS:AV:=.d (.str [])
def qF:AV:=.d (.bool false)
def qY:AV:=.d (.int .u8 0)
def qC:AV:=.cl []
def qM:Option TI:=some ⟨1,8,.other,.k .nilFunc,true,none⟩
def sC:Option TI:=some ⟨1,0,.other,.any,true,none⟩
def XP:Option TI:=some ⟨1,8,.other,.k .qN,true,none⟩
def wT3:Option TI:=some ⟨1,16,.iface,.k .nilIface,true,none⟩
def wT4:Option TI:=some ⟨1,1,.int .u8,qY,true,none⟩
def wT5:Option TI:=some ⟨2,24,.struct [(0,9),(1,3)],.agg [qS,qI],true,none⟩
def wT6:Option TI:=some ⟨1,8,.int .i64,qI,true,none⟩
def wT7:Option TI:=some ⟨1,16,.str,qS,true,none⟩
def wT8:Option TI:=some ⟨1,8,.int .u64,qU,true,none⟩
def wT9:Option TI:=some ⟨1,4,.int .i32,.d (.int .i32 0),true,none⟩
def YL:Option TI:=some ⟨0,0,.struct [],.agg [],true,none⟩
def aa0:Option TI:=some ⟨4,24,.struct [(0,2),(1,3),(2,4),(3,6)],.agg [qI,qI,qF,qY],true,none⟩
def aa1:Option TI:=some ⟨2,24,.struct [(0,9),(1,12)],.agg [qS,qU],false,none⟩
def aa2:Option TI:=some ⟨1,8,.struct [(0,17)],.agg [.k .qN],false,none⟩
def aa3:Option TI:=some ⟨2,48,.struct [(0,26),(1,27)],.agg [qC,qC],true,none⟩
def aa4:Option TI:=some ⟨1,24,.slice 59,qC,true,none⟩
def aa5:Option TI:=some ⟨2,32,.struct [(0,25),(1,33)],.agg [qU,qC],true,none⟩
def aa6:Option TI:=some ⟨11,200,.struct [(0,25),(1,25),(2,29),(4,30),(5,31),(6,32),(7,35),(9,35)],.agg [qU,qU,qC,qC,qC,qC,qC,qU,qC,qU,qC],true,none⟩
def aa7:Option TI:=some ⟨4,32,.array 4 25,.agg [qU,qU,qU,qU],true,none⟩
def aa8:Option TI:=some ⟨9,96,.struct [(0,9),(1,46),(5,3),(6,3),(7,3),(8,47)],.agg [qS,qU,qU,qU,qU,qI,qI,qI,qC],true,none⟩
def aa9:Option TI:=some ⟨9,80,.struct [(0,9),(1,46),(5,46)],.agg [qS,qU,qU,qU,qU,qU,qU,qU,qU],true,none⟩
def aba:Option TI:=some ⟨12,120,.struct [(0,25),(1,49),(10,4),(11,3)],.agg [qU,qS,qU,qU,qU,qU,qI,qI,qI,qC,qF,qI],true,none⟩
def abb:Option TI:=some ⟨3,24,.struct [(0,25),(1,25),(2,3)],.agg [qU,qU,qI],true,none⟩
def abc:Option TI:=some ⟨5,5,.struct [(0,5),(1,5),(2,5),(3,5),(4,5)],.agg [qY,qY,qY,qY,qY],true,none⟩
def abd:Option TI:=some ⟨2,16,.struct [(0,25),(1,3)],.agg [qU,qI],true,none⟩
def abe:Option TI:=some ⟨2,32,.struct [(0,9),(1,9)],.agg [qS,qS],true,none⟩
def abf:Option TI:=some ⟨7,80,.struct [(0,9),(1,46),(5,96),(6,4)],.agg [qS,qU,qU,qU,qU,qC,qF],true,none⟩
def abg:Option TI:=some ⟨11,200,.struct [(0,37)],.agg [qU,qU,qC,qC,qC,qC,qC,qU,qC,qU,qC],true,none⟩
def abh:Option TI:=some ⟨6,56,.struct [(0,25),(1,9),(2,46)],.agg [qU,qS,qU,qU,qU,qU],true,none⟩
def abi:Option TI:=some ⟨1,8,.struct [(0,175)],.agg [.k .nilFunc],true,none⟩
def abj:Option TI:=some ⟨4,32,.struct [(0,46)],.agg [qU,qU,qU,qU],true,none⟩
def abk:Option TI:=some ⟨6,72,.struct [(0,9),(1,46),(5,96)],.agg [qS,qU,qU,qU,qU,qC],true,none⟩
def abl:Option TI:=some ⟨2,8,.struct [(0,21),(1,21)],.agg [.d (.int .i32 0),.d (.int .i32 0)],true,none⟩
def abm:Option TI:=some ⟨2,32,.struct [(0,268),(1,135)],.agg [.k .qN,qC],true,none⟩
def abn:Option TI:=some ⟨2,2,.struct [(0,5),(1,5)],.agg [qY,qY],true,none⟩
def abo:Option TI:=some ⟨4,40,.struct [(0,17),(1,17),(2,17),(3,9)],.agg [.k .qN,.k .qN,.k .qN,qS],false,none⟩
def abp:Option TI:=some ⟨0,0,.struct [(0,328)],.agg [],false,none⟩
def abq:Option TI:=some ⟨11,48,.struct [(0,12),(1,12),(2,323),(3,331),(4,5),(5,5),(6,332),(7,333),(8,295),(9,334),(10,335)],.agg [qU,qU,.d (.int .u32 0),qY,qY,qY,qY,.k .nilFunc,.k .qN,.d (.int .i32 0),.d (.int .i32 0)],false,none⟩
def adA(t:Nat):Option TI:=(if t<9 then(if t<5 then if t=0 then sC else if t=2 then wT6 else if t=3 then wT6 else if t=4 then some ⟨1,1,.bool,qF,true,none⟩else qM else if t=5 then wT4 else if t=6 then wT4 else if t=7 then aa0 else if t=8 then aa0 else qM)else(if t<13 then if t=9 then wT7 else if t=10 then wT7 else if t=11 then wT7 else if t=12 then wT8 else qM else if t=13 then aa1 else if t=14 then aa1 else if t=15 then XP else if t=16 then XP else qM))
def adB(t:Nat):Option TI:=(if t<26 then(if t<21 then if t=17 then XP else if t=18 then aa2 else if t=19 then aa2 else if t=20 then wT3 else qM else if t=21 then wT9 else if t=22 then some ⟨1,24,.slice 72,qC,true,none⟩else if t=23 then some ⟨1,2,.int .u16,.d (.int .u16 0),true,none⟩else if t=25 then wT8 else qM)else(if t<30 then if t=26 then some ⟨1,24,.slice 102,qC,true,none⟩else if t=27 then some ⟨1,24,.slice 138,qC,true,none⟩else if t=28 then aa3 else if t=29 then aa3 else qM else if t=30 then aa4 else if t=31 then some ⟨1,24,.slice 63,qC,true,none⟩else if t=32 then some ⟨1,24,.slice 88,qC,true,none⟩else if t=33 then some ⟨1,24,.slice 70,qC,true,none⟩else qM))
def adC(t:Nat):Option TI:=(if t<48 then(if t<40 then if t=34 then aa5 else if t=35 then aa5 else if t=36 then aa6 else if t=37 then aa6 else qM else if t=40 then sC else if t=45 then aa7 else if t=46 then aa7 else if t=47 then some ⟨1,24,.slice 197,qC,true,none⟩else qM)else(if t<54 then if t=48 then aa8 else if t=49 then aa8 else if t=50 then wT6 else if t=51 then sC else qM else if t=54 then sC else if t=56 then some ⟨1,24,.slice 9,qC,true,none⟩else if t=58 then aa9 else if t=59 then aa9 else qM))
def adD(t:Nat):Option TI:=(if t<72 then(if t<66 then if t=60 then sC else if t=62 then aba else if t=63 then aba else if t=64 then sC else qM else if t=66 then sC else if t=69 then abb else if t=70 then abb else if t=71 then abc else qM)else(if t<82 then if t=72 then abc else if t=79 then YL else if t=80 then YL else if t=81 then sC else qM else if t=82 then XP else if t=83 then wT5 else if t=84 then wT5 else if t=87 then abd else qM))
def adE(t:Nat):Option TI:=(if t<105 then(if t<98 then if t=88 then abd else if t=94 then sC else if t=96 then some ⟨1,24,.slice 98,qC,true,none⟩else if t=97 then abe else qM else if t=98 then abe else if t=99 then sC else if t=101 then abf else if t=102 then abf else qM)else(if t<121 then if t=105 then sC else if t=111 then sC else if t=114 then sC else if t=119 then aa4 else qM else if t=121 then abg else if t=122 then abg else if t=131 then sC else if t=133 then some ⟨1,24,.slice 202,qC,true,none⟩else qM))
def adF(t:Nat):Option TI:=(if t<177 then(if t<141 then if t=135 then some ⟨1,24,.slice 5,qC,true,none⟩else if t=136 then wT8 else if t=137 then abh else if t=138 then abh else qM else if t=141 then some ⟨1,24,.slice 3,qC,true,none⟩else if t=144 then sC else if t=147 then sC else if t=176 then abi else qM)else(if t<196 then if t=177 then abi else if t=184 then abj else if t=185 then abj else if t=194 then some ⟨1,8,.map 25 3,.k .F1,true,none⟩else qM else if t=196 then some ⟨3,48,.struct [(0,9),(1,4),(2,56)],.agg [qS,qF,qC],true,none⟩else if t=197 then some ⟨3,48,.struct [(0,9),(1,4),(2,56)],.agg [qS,qF,qC],true,some ("demesne/sel.holds",202)⟩else if t=199 then sC else if t=201 then abk else qM))
def adG(t:Nat):Option TI:=(if t<222 then(if t<212 then if t=202 then abk else if t=204 then sC else if t=206 then sC else if t=209 then sC else qM else if t=212 then sC else if t=214 then sC else if t=220 then some ⟨1,24,.slice 222,qC,true,none⟩else if t=221 then abl else qM)else(if t<239 then if t=222 then abl else if t=223 then some ⟨6,24,.array 3 222,.agg [.d (.int .i32 0),.d (.int .i32 0),.d (.int .i32 0),.d (.int .i32 0),.d (.int .i32 0),.d (.int .i32 0)],true,none⟩else if t=224 then some ⟨4,16,.array 2 222,.agg [.d (.int .i32 0),.d (.int .i32 0),.d (.int .i32 0),.d (.int .i32 0)],true,none⟩else if t=236 then sC else qM else if t=239 then sC else if t=240 then sC else if t=249 then sC else if t=250 then sC else qM))
def adH(t:Nat):Option TI:=(if t<272 then(if t<258 then if t=252 then sC else if t=254 then sC else if t=256 then sC else if t=257 then some ⟨3,24,.array 3 25,.agg [qU,qU,qU],true,none⟩else qM else if t=258 then sC else if t=268 then XP else if t=269 then abm else if t=270 then abm else qM)else(if t<281 then if t=272 then wT3 else if t=273 then wT3 else if t=274 then sC else if t=276 then sC else qM else if t=281 then some ⟨1,24,.slice 25,qC,true,none⟩else if t=284 then XP else if t=285 then wT5 else if t=286 then wT5 else qM))
def adI(t:Nat):Option TI:=(if t<312 then(if t<300 then if t=287 then YL else if t=295 then XP else if t=297 then sC else if t=299 then wT3 else qM else if t=300 then wT3 else if t=303 then sC else if t=306 then XP else if t=311 then some ⟨0,0,.struct [],.agg [],true,some ("demesne/sel.holds",260)⟩else qM)else(if t<321 then if t=312 then some ⟨1,24,.slice 9,qC,true,some ("demesne/sel.holds",261)⟩else if t=315 then sC else if t=319 then some ⟨256,256,.array 256 5,.agg [qY,qY,qY,qY,qY,qY,qY,qY,qY,qY,qY,qY,qY,qY,qY,qY,qY,qY,qY,qY,qY,qY,qY,qY,qY,qY,qY,qY,qY,qY,qY,qY,qY,qY,qY,qY,qY,qY,qY,qY,qY,qY,qY,qY,qY,qY,qY,qY,qY,qY,qY,qY,qY,qY,qY,qY,qY,qY,qY,qY,qY,qY,qY,qY,qY,qY,qY,qY,qY,qY,qY,qY,qY,qY,qY,qY,qY,qY,qY,qY,qY,qY,qY,qY,qY,qY,qY,qY,qY,qY,qY,qY,qY,qY,qY,qY,qY,qY,qY,qY,qY,qY,qY,qY,qY,qY,qY,qY,qY,qY,qY,qY,qY,qY,qY,qY,qY,qY,qY,qY,qY,qY,qY,qY,qY,qY,qY,qY,qY,qY,qY,qY,qY,qY,qY,qY,qY,qY,qY,qY,qY,qY,qY,qY,qY,qY,qY,qY,qY,qY,qY,qY,qY,qY,qY,qY,qY,qY,qY,qY,qY,qY,qY,qY,qY,qY,qY,qY,qY,qY,qY,qY,qY,qY,qY,qY,qY,qY,qY,qY,qY,qY,qY,qY,qY,qY,qY,qY,qY,qY,qY,qY,qY,qY,qY,qY,qY,qY,qY,qY,qY,qY,qY,qY,qY,qY,qY,qY,qY,qY,qY,qY,qY,qY,qY,qY,qY,qY,qY,qY,qY,qY,qY,qY,qY,qY,qY,qY,qY,qY,qY,qY,qY,qY,qY,qY,qY,qY,qY,qY,qY,qY,qY,qY,qY,qY,qY,qY,qY,qY,qY,qY,qY,qY,qY,qY],true,none⟩else if t=320 then abn else qM else if t=321 then abn else if t=322 then some ⟨32,32,.array 16 321,.agg [qY,qY,qY,qY,qY,qY,qY,qY,qY,qY,qY,qY,qY,qY,qY,qY,qY,qY,qY,qY,qY,qY,qY,qY,qY,qY,qY,qY,qY,qY,qY,qY],true,none⟩else if t=323 then some ⟨1,4,.int .u32,.d (.int .u32 0),true,none⟩else if t=324 then sC else qM))
def adJ(t:Nat):Option TI:=(if t<331 then(if t<328 then if t=326 then abo else if t=327 then abo else qM else if t=328 then some ⟨0,0,.array 0 16,.agg [],true,none⟩else if t=329 then abp else if t=330 then abp else qM)else(if t<335 then if t=331 then wT4 else if t=332 then wT4 else if t=334 then wT9 else qM else if t=335 then wT9 else if t=336 then abq else if t=337 then abq else qM))
def tb(t:Nat):Option TI:=(if t<135 then(if t<34 then(if t<17 then adA t else adB t)else(if t<60 then adC t else(if t<88 then adD t else adE t)))else(if t<252 then(if t<202 then adF t else adG t)else(if t<287 then adH t else(if t<326 then adI t else adJ t))))
def tT(t:Nat):Option TI:=if t<340 then tb t else none
theorem abr:(List.range 340).map (sy Go.Proofs.Tryz.prog)=(List.range 340).map tb:=by kernel_rfl
def SD:Bool:=(List.range 340).all λt=>match tb t with
 |some ti=>match ti.kd with
  |.struct fs=>fs.all λf=>(tT f.2).isSome|_=>true
 |none=>true
theorem Jr:SD=true:=by kernel_rfl
theorem HQ:jj Go.Proofs.Tryz.prog tT:=by
 refine⟨?_,?_,?_⟩
 .intro t ti h;unfold tT at h;split at h
  .rename_i ht';have e:=vac (λl=>l[t]?) abr
   simp only[vaA,List.getElem?_range ht',vau,osI]at e;rw[e,h]
  cases h
 .intro t ti fs h hk f hf;unfold tT at h;split at h
  .rename_i ht';have hall:=List.all_eq_true.1 Jr t (by simp[ht'])
   simp only[h,hk]at hall;have:=List.all_eq_true.1 hall f hf
   exact Option.isSome_iff_exists.1 this
  cases h
 exact Nat.le_of_ble_eq_true (by kernel_rfl)
def gl(g:Nat):Option (List D):=
 bif Nat.beq g 0 then some [.int .i32 97,.int .i32 122,.int .i32 945,.int .i32 969,.int .i32 1072,.int .i32 1103]else
 bif Nat.beq g 1 then some [.int .i32 48,.int .i32 57,.int .i32 45,.int .i32 45]else none
def FC:Nat->List AV->List av->eP->List av->Prop:=be Go.Proofs.Tryz.prog gl
theorem lE:jF Go.Proofs.Tryz.prog tT gl:=Vu HQ (by kernel_rfl)
theorem Js(tS tR:TypeId)(a:Addr)(ba:Option Addr)(la ca lb cb:Nat):∃(m:String) (ch:Sem Nat),
 Extern.SlicesOverlaps.overlaps #[tS,tS] #[tR] #[.slice (some a) la ca,.slice ba lb cb]=(do
 let .slice elem <-underlying tS|stuck m
 let size <-Go.sizeOf elem
 match ba with
 |some b=>
  if la=0∨lb=0∨size=0 then pure (Value.bool false)
  else if a.block !=b.block&&(<-frozen a)&&(<-frozen b)then unsupported .addressObserved
  else do
   if a.block !=b.block then do
    noView a;noView b
    if <-mayBeOne a b then return Value.bool ((<-ch)==1)
   pure (Value.bool (a.block==b.block&&a.off<b.off+lb*size&&b.off<a.off+la*size))
 |none=>pure (Value.bool false)):=by
 apply Exists.intro;apply Exists.intro;cases ba with
 |some b=>rfl|none=>rfl
theorem zK{P:Program}(w:World)(tS tR e:TypeId)(ht:P.underlying tS=some (.slice e)){size:Nat}(hz:∀w,(Go.sizeOf e).run P w=.ok size w)
 (a:Addr) (ba:Option Addr) (la ca lb cb:Nat) {tA:TypeId} {kA:Nat} (hsa:w.shape? a.block=some (tA,kA)) (hkA:kA≠0)
 (hb:lb=0∨∃b c e',ba=some b/\b.spot=none/\a.block≠b.block/\w.heap[b.block]?=some (.cells c e' (0,0))):
 (Extern.SlicesOverlaps.overlaps #[tS,tS] #[tR] #[.slice (some a) la ca,.slice ba lb cb]).run P w=.ok (.bool false) w:=by
 have mO:(underlying tS).run P w=.ok (.slice e) w:=aX ht;obtain⟨m,ch,e⟩:=Js tS tR a ba la ca lb cb;rw[e];clear e;cases ba with
 |none=>simp[mO,hz]|some b=>
 by_cases h0:la=0∨lb=0∨size=0
 .simp[mO,hz,h0]
 rcases hb with hb|⟨b',c,e',hbe,hsp,hne,hh⟩
 .exact absurd (.inr (.inl hb)) h0
 simp only[osI]at hbe;subst hbe
 have hnb:(a.block !=b.block)=true:=by simpa using hne
 have adL:(a.block==b.block)=false:=by simpa using hne
 have LC:w.shape? b.block=some (e',c.size):=by simp[World.shape?,hh]
 have hf:∀off sp,w.frozen? {block:=b.block,off:=off,spot:=sp}=false:=by intro off sp;simp[World.frozen?,hh]
 have hfb:w.frozen? b=false:=hf _ _
 cases kA with
 |zero=>exact absurd rfl hkA|succ kA=>
 cases h1:w.frozen? a<;>cases h2:w.frozen? {block:=a.block,off:=kA+1}<;>
  simp[mO,hz,h0,hnb,adL,frozen,noView,Go.viewAt,mayBeOne,stringish,shape,Sem.run,hsa,LC,hfb,hf,h1,h2]
theorem jw{P:Program}{G:Nat->Option (List D)}{T:Nat->Option TI}(hT:jj P T){f:Nat}{fn:Func}{tS tR:TypeId}(hf:P.funcs[f]?=some fn)(hname:(fn.name== "runtime.NumGoroutine")=false)
 (hb:fn.body.isNone=true) (hn:Extern.findNext fn=none) (he:Extern.find fn=some (Extern.SlicesOverlaps.overlaps #[tS,tS] #[tR])) {te:TI} (hel:elemOf T tS=some te)
 {b sz off n c:Nat} {ex:Bool} {es:List (List D)} {x:D} {row:List D} {xs:List (List D)} {bx:List av} (uC:bx[b]?=some (.row sz es)) (hne:es≠[]):
 be P G f [.d (.sl ((x::row)::xs)),.vw b sz off n c ex] bx (.ret (.d (.bool false))) bx:=by
 intro β w vs X cx hx;simp only[an,ai,aP]at hx;obtain⟨u1,us1,rfl,⟨base,cap,rfl,_,h1⟩,u2,RG,rfl,⟨_,SE,Vi,cs,e2,f2,rfl,k1,k2,k3,k4⟩,rfl⟩:=hx;obtain⟨ti,e,t1,t2,t3⟩:=fu hel;have mO:=gw hT t1 t2
 obtain⟨ei,ed,g1,g2,g3,g4,g5,g6⟩:=aL (hT.ti _ _ t3);rcases h1 with h1|⟨blk,o,sz2,rfl,hok,hrows⟩
 .simp at h1
 simp only[ax,bg]at hrows;obtain⟨_,⟨⟨u,hcell,_⟩,_⟩,_⟩:=hrows;have hsa:∃tA kA,w.shape? blk=some (tA,kA)/\kA≠0:=by
  simp only[World.cell?]at hcell;split at hcell
  .rename_i ca ea fa hh;refine⟨ea,ca.size,by simp[World.shape?,hh],?_⟩;intro h0;simp at hcell;obtain⟨hlt,_⟩:=Array.getElem?_eq_some_iff.1 hcell;omega
  simp at hcell
 obtain⟨tA,kA,hsa,hkA⟩:=hsa;have cH:(av.row sz es).live=true:=by cases es<;>simp_all[av.live]
 have hrun:=zK (P:=P) w tS tR e mO (λw=>cg g1) ⟨blk,o,none⟩ SE (xs.length+1) cap n Vi hsa hkA (by
  rcases k4 with k4|⟨rfl,k5,k6⟩
  .left;omega
  rcases cx.box _ _ uC with h0|⟨c3,e3,j1,j2⟩
  .exact absurd h0 hne
  exact .inr ⟨_,c3,e3,rfl,rfl,λheq=>hok.2.2 b _ uC cH heq.symm,j1⟩)
 refine .inr ⟨.bool false,w,?_,β,Ext.refl _ _ _,cx,by simp only[eH,ai,aP]⟩;rw[run_callFunc_extern hf hname hb hn he];have e1:(({toList:=[.slice (some ⟨blk,o,none⟩) ((x::row)::xs).length cap,.slice SE n Vi]}:Array Value))=#[.slice (some ⟨blk,o,none⟩) (xs.length+1) cap,.slice SE n Vi]:=rfl
 rw[e1,hrun];rfl
end Dem
end
section
open Go
namespace Dem
section
variable {P:Program}{G:Nat->Option (List D)}{bx:List av}
theorem Jt{f:Nat}{args pU:List AV}{v:AV}(ks:List Bool)(hz:fq bx args=some pU)(hn:AV.bV.c6 (kill ks bx) pU=true)(hl:eA false (kill ks bx) (kill ks bx)=true)
 (hv:v.flat=true∨fq [] args=some pU/\v.shut=true) (h:be P G f pU (kill ks bx) (.ret v) (kill ks bx)):be P G f args bx (.ret v) bx:=by
 intro β w vs X cx hx;refine lg.mono (Au cx hx ⟨pU,kill ks bx,hz,hn,⟨false,hl,λh=>by cases h⟩,?_,h,hv⟩) ?_
 .intro i b hi dM;obtain⟨b0,h1,h2⟩:=mB ks bx i b hi;rcases h2 with rfl|⟨rfl,h3⟩
  .exact⟨_,h1,dM,λ_=>rfl⟩
  exact⟨b0,h1,h3,λh=>by simp[av.live]at h⟩
 rintro e w' ⟨u,rfl,h2,h3,h4⟩;exact⟨β,h2,h3,h4⟩
theorem XQ{t:Th}(ht:t=t0){kX:Prop}{fz:Option (Prop×List AV)}{f:Nat}{args pU iV:List AV}{bx aK:List av}{v:AV}{c:Prop}{K Kp:AV->List av->Prop}(ks:List Bool)(cj:List Nat)(ho:kX)
 (hz:tw t bx args=some (c,pU)) (hc:c) (hn:AV.bV.c6 (kill ks bx) pU=true) (hl:eA false (kill ks bx) (kill ks bx)=true) (hv:v.flat=true)
 (ha:AV.wm (λb=>dD b cj 0) pU=some iV) (hb:fQ (λb=>dD b cj 0) (kill ks bx) cj=some aK) (hb':AJ cj (kill ks bx) aK=some (kill ks bx)) (hr:eP.iU (kH cj (kill ks bx).length) (.ret v)=some (.ret v))
 (h:be P G f iV aK (.ret v) aK) (hK:K v bx):oM (be P G) kX f args fz bx K Kp:=by
 subst ht;exact dO ho (Jt ks (iF hz hc) hn hl (.inl hv) (fR cj ha hb hr hb' h)) hK
end
end Dem
end
section
open Go
namespace Dem
abbrev TT(t:Th):Prop:=∀(α:Type) (f:Unit->α),t α f=f ()
theorem lm{t:Th}(ht:TT t){α:Type}{e x:α}(h:e=x):(t _ λ_=>e)=x:=by rw[ht];exact h
section
variable {P:Program}{G:Nat->Option (List D)}{FC:Nat->List AV->List av->eP->List av->Prop}{kX:Prop}{f:Nat}{args args':List AV}{c:Prop}{bx:List av}{K Kp:AV->List av->Prop}{ρ:Type}
theorem YM{E:ρ->AV}{r0:ρ}(ho:kX)(h:FC f args' [] (.ret (E r0)) [])(hc:c)(hs:AV.shut.mZ args'=true)(hf:(E r0).flat=true)(hK:∀r,r=r0->K (E r) bx):oM FC kX f args (some (c,args')) bx K Kp:=
 iW ho h hc hs hf (hK _ rfl)
theorem YN{E:ρ->AV}{r0:ρ}(ho:kX)(h:FC f args' [] (.ret (E r0)) [])(hc:c)(hs:AV.shut.mZ args'=true)(hz:fq [] args=some args')(hv:(E r0).shut=true)(hK:∀r,r=r0->K (E r) bx):oM FC kX f args (some (c,args')) bx K Kp:=
 yl ho h hc hs hz hv (hK _ rfl)
theorem aT{dr g:Bool}{K:AV->Prop}{E:ρ->AV}{r0:ρ}(h:g=true->kX/\c/\FC f args' [] (.ret (E r0)) [])(hs:AV.bV.c6 [] args'=true)(hf:(E r0).flat=true)(hK:∀r,r=r0->K (E r)):ry FC dr g kX f args bx (some (c,args')) K:=
 Jq h hs hf (hK _ rfl)
theorem iJ{dr g:Bool}{K:AV->Prop}{E:ρ->AV}{r0:ρ}(h:g=true->kX/\c/\FC f args' [] (.ret (E r0)) [])(hs:AV.bV.c6 [] args'=true)(hz:fq [] args=some args')(hf:(E r0).shut=true)(hK:∀r,r=r0->K (E r)):ry FC dr g kX f args bx (some (c,args')) K:=
 og h hs hz hf (hK _ rfl)
end
theorem eT{t:Th}(ht:TT t){α:Type}{l:List α}{cells cT:α->List D}{es:List (List D)}(aD:es=l.map cells){z:Int}{n:Nat}{K:List D->Prop}(h0:0<=z)(h1:z<l.length)(hn:∀x,(cells x).length=n)(hT:∀x,cells x=cT x)
 (hK:∀x,l[z.toNat]?=some x->K (cT x)):pN true (t Prop λ_=>0<=z/\z<es.length/\∀r∈es,r.length=n) (t _ λ_=>es.getD z.toNat []) K:=by
 have hz:z.toNat<l.length:=by omega
 refine jG (cT l[z.toNat]) ?_ ?_ (hK _ (vaj hz))
 .simp only[ht];refine⟨h0,by rw[aD,lgM];exact h1,?_⟩;rw[aD];intro r hr;obtain⟨y,_,rfl⟩:=List.mem_map.1 hr;exact hn y
 simp only[ht];rw[aD,<-hT];simp[hz]
theorem bA{s:St}{n:Nat}{σ:Type}{J:Nat->σ->Prop}{F:σ->St}(v:σ)(hs:s=F v)(m:Nat)(hm:m<n)(hJ:J m v):LoopIn (some s) (λs3=>∃m v',(m<n/\J m v')/\s3=F v'):=aC (P:=λs3=>∃m v',(m<n/\J m v')/\s3=F v') ⟨m,v,⟨hm,hJ⟩,hs⟩
end Dem
end
