/- Parts of a proof, joined. -/
import Derived.Test.YtihohjnkkalgiaaGreatDoorS07
import Derived.Orders
set_option linter.all false
set_option maxRecDepth 100000
set_option maxHeartbeats 4000000
section
open Go
namespace Dem
section
variable {P:Program} {T:Nat→Option TI} {G:Nat→Option (List D)} {N:Nat} {ds:List Deferred} {X:Nat→Prop}
variable {FC:Nat→List AV→List aA→jR→List aA→Prop}
def YB (FC:Nat→List AV→List aA→jR→List aA→Prop) (T:Nat→Option TI) (G:Nat→Option (List D)) (o:Oper) (sl:List (Nat×AV)) (ij:List aA) (x:Nat) (B:aA) (v:AV):Prop:=
 (∃cs,iz T G sl o=some cs∧B=.var cs∧v=.ptr x 0)∨lY FC G o sl ij x (fun v' B'=>v'=v∧B'=B)
def T4 (FC:Nat→List AV→List aA→jR→List aA→Prop) (T:Nat→Option TI) (G:Nat→Option (List D)) (ops:List Oper) (o:Oper) (sl:List (Nat×AV)) (ij:List aA) (it:It):Prop:=
 (∃x B,it.bi=some (x,B)∧ij[x]?=some .bw∧o.guard=none∧YB FC T G o sl ij x B it.v)∨
 (it.bi=none∧o.guard=none∧YG FC T true (ct G sl) ij o.op it.v)∨
 (it.bi=none∧∃j want g v,o.guard=some (j,want)∧guardOf sl ops j want=some g∧YG FC T g (ct G sl) ij o.op v∧it.v=.cond g v)
def tt:Nat→Bool:=fun _=>true
def Wm (FC:Nat→List AV→List aA→jR→List aA→Prop) (T:Nat→Option TI) (G:Nat→Option (List D)) (N:Nat) (ops:List Oper) (b:List Nat) (base:Nat) (ij:List aA) (Q:Ex→St→Prop) (k i:Nat) (l:List Oper) (s:St):Prop:=
 ∃cQ k',kN (base+k) cQ∧cQ.length≤l.length∧
  (∀j it,cQ[j]?=some it→∃o,l[j]?=some o∧gZ N o.dst=true∧it.dst=o.dst∧T4 FC T G ops o (dJ tt i (cQ.take j) s.sl) ij it)∧
  (
   (cQ.length=l.length∧Q .normal ⟨dJ tt i cQ s.sl,fk tt i cQ s.bx⟩)∨
   (∃o rest,l.drop cQ.length=o::rest∧barrier b (i+cQ.length)=true∧gZ N o.dst=true∧nK FC T G N ops b base ij k' (i+cQ.length) (o::rest) Q ⟨dJ tt i cQ s.sl,fk tt i cQ s.bx⟩))
theorem Wm.cons {ops:List Oper} {b:List Nat} {base:Nat} {ij:List aA} {Q:Ex→St→Prop} {o:Oper} {rest:List Oper} {k k1 i:Nat} {s:St} {it:It} (hd:gZ N o.dst=true)
 (hk:∀cQ,kN (base+k1) cQ→kN (base+k) (it::cQ)) (Gc:it.dst=o.dst) (hy:T4 FC T G ops o s.sl ij it)
 (hr:Wm FC T G N ops b base ij Q k1 (i+1) rest ⟨eL o.dst it.v s.sl,qc it s.bx⟩):Wm FC T G N ops b base ij Q k i (o::rest) s:=by
 obtain ⟨cQ,k',g1,g2,g3,g4⟩:=hr
 refine ⟨it::cQ,k',hk cQ g1,by simpa using g2,?_,?_⟩
 ·intro j it' hj
  cases j with
  |zero=>simp at hj;subst hj;exact ⟨o,rfl,hd,Gc,by simpa [dJ] using hy⟩
  |succ j=>
   obtain ⟨o',e1,e2,e3,e4⟩:=g3 j it' (by simpa using hj)
   refine ⟨o',by simpa using e1,e2,e3,?_⟩
   simp only [List.take_succ_cons,dJ,tt,cond_true,Gc]
   exact e4
 simp only [List.length_cons,dJ,fk,tt,cond_true,Gc,List.drop_succ_cons]
 rw [show i+(cQ.length+1)=i+1+cQ.length by omega]
 rcases g4 with ⟨e1,e2⟩|e
 ·exact .inl ⟨by omega,e2⟩
 exact .inr e
theorem tj {ops:List Oper} {b:List Nat} {base:Nat} {ij:List aA} {Q:Ex→St→Prop}:∀(l:List Oper) (k i:Nat) (s:St),nK FC T G N ops b base ij k i l Q s→
 Wm FC T G N ops b base ij Q k i l s
 |[],k,i,s,h=>⟨[],k,by simp [kN],by simp,by simp,.inl ⟨rfl,by simpa [dJ,fk,nK] using h⟩⟩
 |o::rest,k,i,s,h=>by
  have h0:=h
  unfold nK at h
  cases hd:gZ N o.dst with
  |false=>simp [hd] at h
  |true=>
  simp only [hd,cond_true] at h
  cases hb:barrier b i with
  |true=>exact ⟨[],k,by simp [kN],by simp,by simp,.inr ⟨o,rest,by simp,by simpa using hb,hd,by simpa [dJ,fk] using h0⟩⟩
  |false=>
  simp only [hb,cond_false] at h
  have go:∀(it:It) (k1:Nat),(∀cQ,kN (base+k1) cQ→kN (base+k) (it::cQ))→it.dst=o.dst→T4 FC T G ops o s.sl ij it→
   nK FC T G N ops b base ij k1 (i+1) rest Q ⟨eL o.dst it.v s.sl,qc it s.bx⟩→Wm FC T G N ops b base ij Q k i (o::rest) s:=
   fun it k1 hk Gc hy hr=>Wm.cons hd hk Gc hy (tj rest k1 (i+1) _ hr)
  split at h
  ·rename_i cs xu
   split at h
   ·rename_i hu
    have hg:o.guard=none:=by
     unfold iz at xu
     cases hg:o.guard with
     |none=>rfl
     |some g=>simp [hg] at xu
    exact go ⟨o.dst,.ptr (base+k) 0,some (base+k,.var cs)⟩ (k+1) (fun cQ hi=>by simp only [kN];exact ⟨trv,hi⟩) rfl (.inl ⟨_,.var cs,rfl,hu,hg,.inl ⟨cs,xu,rfl,rfl⟩⟩) h
   exact h.elim
  split at h
  ·rename_i hg
   rcases h with h|h
   ·obtain ⟨v,hy,hK⟩:=uN h
    exact go ⟨o.dst,v,none⟩ k (fun cQ hi=>by simpa [kN] using hi) rfl (.inr (.inl ⟨rfl,hg,hy⟩)) hK
   obtain ⟨f,args,ats,i',as,args',sz,n,es,h1,h2,h3,h4,h5,h6,h7,h8,h9⟩:=h
   exact go ⟨o.dst,.ow (base+k) sz n,some (base+k,.row sz es)⟩ (k+1) (fun cQ hi=>by simp only [kN];exact ⟨trv,hi⟩) rfl
    (.inl ⟨_,.row sz es,rfl,h8,hg,.inr ⟨f,args,ats,i',as,args',sz,n,es,h1,h2,h3,h4,h5,h6,h7,h8,rfl,rfl⟩⟩) h9
  rename_i j want hg
  split at h
  ·rename_i g Iu
   obtain ⟨v,hy,hK⟩:=uN h
   exact go ⟨o.dst,.cond g v,none⟩ k (fun cQ hi=>by simpa [kN] using hi) rfl (.inr (.inr ⟨rfl,j,want,g,v,hg,Iu,hy,rfl⟩)) hK
  exact h.elim
variable {β:Nat→Nat} {w:World} {a:Act}
theorem Fr.BW {sl sj:List (Nat×AV)} {bx:List aA} (hF:Fr G N ds β w X ⟨sl,bx⟩ a) (h:∀t,gH t sl=gH t sj):Fr G N ds β w X ⟨sj,bx⟩ a:=
 ⟨hF.cx,hF.defers,hF.size,fun t=>by have:=hF.yV t;simp only [h t] at this;exact this⟩
def at_ (listed:Array Bool) (x:Nat):Bool:=listed.getD x false
theorem tn {listed:Array Bool} {i x:Nat} (hi:i<listed.size):at_ (listed.setIfInBounds i true) x=(if x=i then true else at_ listed x):=by
 unfold at_
 by_cases h:x=i
 ·subst h;simp [hi]
 rw [if_neg h];simp [Array.getElem?_setIfInBounds_ne (Ne.symm h)]
theorem count_set:∀(l:List Bool) (i:Nat),l[i]?=some false→(l.set i true).count false+1=l.count false
 |[],i,h=>by simp at h
 |b::l,0,h=>by simp at h;subst h;simp
 |b::l,i+1,h=>by
  have:=count_set l i (by simpa using h)
  cases b<;>simp<;>omega
theorem Af:∀(l:List Bool),l.count false=0→∀i,i<l.length→l[i]?=some true
 |[],_,i,h=>by simp at h
 |b::l,h,i,hi=>by
  cases b with
  |false=>simp at h
  |true=>
   cases i with
   |zero=>rfl
   |succ i=>simpa using Af l (by simpa [List.count_cons] using h) i (by simpa using hi)
theorem kE {ops:Array Oper} {o:Oper} {sl sj:List (Nat×AV)} (h:∀t∈o.looksAt ops,gH t sl=gH t sj):∀x∈o.op.operands.toList,ct G sl x=ct G sj x:=by
 intro x hx
 cases x with
 |tmp t=>
  exact h t (List.mem_append_left _ (List.mem_filterMap.2 ⟨.tmp t,hx,rfl⟩))
 |_=>rfl
theorem Gd {ops:Array Oper} {o:Oper} {sl sj:List (Nat×AV)} {j:Nat} {want:Bool} (hg:o.guard=some (j,want)) (h:∀t∈o.looksAt ops,gH t sl=gH t sj):
 guardOf sl ops.toList j want=guardOf sj ops.toList j want:=by
 unfold guardOf
 have hj:ops.toList[j]?=ops[j]?:=by simp
 rw [hj]
 cases ho:ops[j]? with
 |none=>rfl
 |some p=>
  simp only
  cases hd:p.dst with
  |none=>rfl
  |some t=>
   simp only
   rw [h t (List.mem_append_right _ (by simp [hg,ho,hd]))]
theorem T4.BW {ops:Array Oper} {o:Oper} {sl sj:List (Nat×AV)} {ij bx:List aA} {it:It} (h:T4 FC T G ops.toList o sl ij it) (hl:∀t∈o.looksAt ops,gH t sl=gH t sj) (hb:lE ij bx)
 (hu:∀x cs,it.bi=some (x,cs)→bx[x]?=some .bw):T4 FC T G ops.toList o sj bx it:=by
 rcases h with ⟨x,B,h1,h2,h3,h4⟩|⟨h1,h2,h3⟩|⟨h1,j,want,g,v,h2,h3,h4,h5⟩
 ·refine .inl ⟨x,B,h1,hu x B h1,h3,?_⟩
  rcases h4 with ⟨cs,k1,k2,k3⟩|h4
  ·exact .inl ⟨cs,by rw [←D6 (kE hl)];exact k1,k2,k3⟩
  obtain ⟨f,args,ats,i',as,args',sz,n,es,e1,e2,e3,e4,e5,e6,e7,e8,e9⟩:=h4
  have hop:=kE (G:=G) hl
  rw [e1] at hop
  have o1:=hop f (by simp [Op.operands,Call.operands])
  have o2:∀x∈args.toList,ct G sl x=ct G sj x:=fun x hx=>hop x (by simp [Op.operands,Call.operands];exact .inr (by simpa using hx))
  have o3:fX G sl args.toList=fX G sj args.toList:=by unfold fX;exact List.map_congr_left o2
  rw [o1,List.map_congr_left (g:=fun x=>(ct G sj x).aR) fun x hx=>by rw [o2 x hx]] at e2
  rw [o1,o3] at e3
  exact .inr ⟨f,args,ats,i',as,args',sz,n,es,e1,e2,e3,D5 hb e4,e5,e6,e7,hu x B h1,e9⟩
 ·exact .inr (.inl ⟨h1,h2,h3.BW (kE hl) hb⟩)
 exact .inr (.inr ⟨h1,j,want,g,v,h2,by rw [←Gd h2 hl];exact h3,h4.BW (kE hl) hb,h5⟩)
theorem OU (hT:kD P T) {ops:Array Oper} {i:Nat} {o:Oper} (ho:ops[i]?=some o) {s:St} (hF:Fr G N ds β w X s a) {it:It} (hy:T4 (bF P G) T G ops.toList o s.sl s.bx it) (hd:gZ N o.dst=true)
 {K:Act→World→Prop} {Qc:Exit→Act→World→Prop} (hK:∀β' a' w',Ext β s.bx w β' (qc it s.bx) w'→Fr G N ds β' w' X ⟨eL o.dst it.v s.sl,qc it s.bx⟩ a'→K a' w'):wpOp P ops Qc i K a w:=by
 unfold wpOp
 rw [ho]
 simp only
 rcases hy with ⟨x,B,h1,h2,h3,h4⟩|⟨h1,h2,h3⟩|⟨h1,j,want,g,v,h2,h3,h4,h5⟩
 ·rw [if_pos (by simp [Region.wanted,h3])]
  have e:qc it s.bx=s.bx.set x B:=by simp [qc,h1]
  rw [e] at hK
  rcases h4 with ⟨cs,k1,rfl,h5⟩|h4
  ·refine .inl (Ga hT hF k1 h2 ?_)
   rintro β' aU w' v u ex cx hv ⟨rfl,rfl⟩
   exact hK β' _ w' ex (by rw [h5];exact hF.put ex cx hd hv)
  refine .inl (Aa hT hF h4 ?_)
  rintro β' aU w' v u ex cx hv ⟨rfl,rfl⟩
  exact hK β' _ w' ex (hF.put ex cx hd hv)
 ·rw [if_pos (by simp [Region.wanted,h2])]
  refine .inl (F7 hT hF h3 ?_)
  rintro β' aU w' v u ex cx hv ⟨rfl,rfl⟩
  have e:qc it s.bx=s.bx:=by simp [qc,h1]
  rw [e] at hK
  exact hK β' _ w' ex (hF.put ex cx hd hv)
 have e:qc it s.bx=s.bx:=by simp [qc,h1]
 rw [e] at hK
 have hy:=lD hF h3
 cases g with
 |true=>
  rw [if_pos (by simp only [Region.wanted,h2];exact hy)]
  refine .inl (F7 hT hF h4 ?_)
  rintro β' aU w' v' u ex cx hv ⟨rfl,rfl⟩
  exact hK β' _ w' ex (by rw [h5];exact hF.put ex cx hd (by simp only [ak];exact ⟨fun _=>hv,by simp⟩))
 |false=>
  rw [if_neg (by simp only [Region.wanted,h2];rw [hy];simp)]
  exact hK β _ w (Ext.refl _ _ _) (by rw [h5];exact hF.put (Ext.refl _ _ _) hF.cx hd (by simp only [ak];simp))
end
end Dem
end
section
open Go
namespace Dem
theorem lG (pre:List Nat) (i:Nat) (o:Oper):(ff pre i o).op=o.op∧(ff pre i o).dst=o.dst∧(ff pre i o).guard=o.guard∧(ff pre i o).type=o.type∧(ff pre i o).pos=o.pos:=by
 unfold ff;cases pre.contains i<;>exact ⟨rfl,rfl,rfl,rfl,rfl⟩
theorem mA (pre:List Nat):∀(l:List Oper) (i j:Nat),(cB pre i l)[j]?=(l[j]?).map (ff pre (i+j))
 |[],_,_=>by simp [cB]
 |o::r,i,0=>by simp [cB]
 |o::r,i,j+1=>by
  simp only [cB,List.getElem?_cons_succ]
  rw [mA pre r (i+1) j,show i+1+j=i+(j+1) by omega]
theorem oG:∀(l:List Oper) (i:Nat),cB [] i l=l
 |[],_=>rfl
 |o::r,i=>by simp only [cB,oG r];simp [ff]
theorem kF (pre:List Nat):∀(l:List Oper) (i:Nat),(cB pre i l).length=l.length
 |[],_=>rfl
 |o::r,i=>by simp [cB,kF pre r]
section
variable {P:Program} {ops ops':Array Oper} {Q:Exit→Act→World→Prop} {pre:List Nat}
def nR (pre:List Nat) (ops ops':Array Oper):Prop:=∀j,ops'[j]?=(ops[j]?).map (ff pre j)
theorem nR.yielded (h:nR pre ops ops') (tm:Array Value):Go.yielded ops' tm=Go.yielded ops tm:=by
 funext j
 unfold Go.yielded
 rw [h j]
 cases ops[j]? with
 |none=>rfl
 |some o=>simp [(lG pre j o).2.1]
theorem uP (pre:List Nat) (j:Nat) (o:Oper) (ρ:Operand→Value):execOp ρ (ff pre j o)=execOp ρ o:=by
 unfold ff;cases pre.contains j<;>rfl
theorem tq (h:nR pre ops ops') {i:Nat} {K:Act→World→Prop} {a:Act} {w:World}:wpOp P ops' Q i K a w↔wpOp P ops Q i K a w:=by
 unfold wpOp
 rw [h i,h.yielded]
 cases ho:ops[i]? with
 |none=>rfl
 |some o=>
  obtain ⟨_,e2,e3,_,_⟩:=lG pre i o
  simp only [Option.map_some]
  have hw:Region.wanted (ff pre i o) (Go.yielded ops a.tmps)=Region.wanted o (Go.yielded ops a.tmps):=by unfold Region.wanted;rw [e3]
  rw [hw,e2]
  have h1:(ff pre i o).wp P a w K Q=o.wp P a w K Q:=by
   unfold Oper.wp
   rw [uP]
   generalize (execOp a.eval o).run P w=r
   unfold Oper.upon;rw [e2]
  have h2:(ff pre i o).asks P a w=o.asks P a w:=by unfold Oper.asks;rw [uP]
  rw [h1,h2]
theorem xN (h:nR pre ops ops') {listed:Array Bool} (hl:∀p∈pre,listed.getD p false=true):Region.ready .any ops' listed=Region.ready .any ops listed:=by
 have hsz:ops'.size=ops.size:=by
  rcases Nat.lt_trichotomy ops'.size ops.size with hh|hh|hh
  ·have:=h ops'.size;simp [hh] at this
  ·exact hh
  have:=h ops.size;simp [hh] at this
 unfold Region.ready
 rw [hsz]
 apply List.filter_congr
 intro j hj
 rw [h j]
 cases ho:ops[j]? with
 |none=>rfl
 |some o=>
  simp only [Option.map_some]
  congr 1
  unfold ff
  cases hc:pre.contains j with
  |true=>rfl
  |false=>
   simp only [cond_false]
   rw [Array.all_append]
   have:((pre.filter (fun p=>Nat.blt p j)).map (fun p=>({on:=p,ground:=.data}:Edge))).toArray.all (fun e=>!Region.binds .any e||listed.getD e.on false)=true:=by
    rw [Array.all_eq_true]
    intro i hi
    simp only [List.size_toArray,lgM] at hi
    simp only [List.getElem_toArray,List.getElem_map]
    have hm:(pre.filter (fun p=>Nat.blt p j))[i]∈pre:=(List.mem_filter.1 (List.getElem_mem hi)).1
    rw [hl _ hm];simp
   rw [this,Bool.and_true]
theorem xO (h:nR pre ops ops'):∀(fuel:Nat) (listed:Array Bool) (a:Act) (w:World),(∀p∈pre,listed.getD p false=true)→wpAny P .any ops' Q fuel listed a w→wpAny P .any ops Q fuel listed a w
 |0,listed,a,w,hl,hh=>by
  simp only [wpAny] at hh ⊢
  rwa [xN h hl] at hh
 |fuel+1,listed,a,w,hl,hh=>by
  simp only [wpAny] at hh ⊢
  rw [xN h hl] at hh
  refine ⟨hh.1,fun i hi=>?_⟩
  refine wpOp_mono (fun a' w' h'=>xO h fuel _ a' w' ?_ h') ((tq h).1 (hh.2 i hi))
  intro p hp
  have:=hl p hp
  rcases Nat.lt_or_ge i listed.size with hlt|hge
  ·simp only [Array.getD_eq_getD_getElem?,Array.getElem?_setIfInBounds] at this ⊢
   split
   ·simp
   exact this
  rwa [Array.setIfInBounds_eq_of_size_le hge]
end
def wm (sl:List (Nat×AV)) (a:Act):Prop:=∀t k z,gH t sl=.d (.int k z)→a.tmps.getD t undef=.int k z
theorem uQ {G:Nat→Option (List D)} {sl:List (Nat×AV)} {a:Act} (h:wm sl a) {x:Operand} {k:IntKind} {z:Int} (hx:ct G sl x=.d (.int k z)):a.eval x=.int k z:=by
 cases x with
 |tmp t=>exact h t k z hx
 |const v=>
  simp only [ct] at hx
  show v=_
  unfold Ix at hx
  split at hx<;>first|(cases hx;rfl)|cases hx
 |global g=>simp only [ct] at hx;split at hx<;>cases hx
 |func f=>cases hx
theorem R7 (a:Act) (t:Nat) (v:Value) (hd:t<a.tmps.size) (u:Nat):(a.put (some t) v).tmps.getD u undef=if u=t then v else a.tmps.getD u undef:=by
 simp only [Act.put,Array.getD_eq_getD_getElem?,Array.getElem?_setIfInBounds]
 split
 ·rename_i e;subst e;simp
 rename_i e;rw [if_neg (fun h=>e h.symm)]
theorem Ge (t u:Nat) (v:AV):∀(sl:List (Nat×AV)),gH u (put t v sl)=if u=t then v else gH u sl
 |[]=>by
  simp only [put,gH]
  by_cases h:u=t
  ·subst h;simp
  rw [if_neg h];cases hb:Nat.beq u t with
  |false=>rfl
  |true=>exact absurd (Nat.eq_of_beq_eq_true hb) h
 |(s,x)::r=>by
  simp only [put]
  cases hb:Nat.beq t s with
  |true=>
   have:=Nat.eq_of_beq_eq_true hb;subst this
   simp only [cond_true,gH]
   by_cases h:u=t
   ·subst h;simp
   rw [if_neg h];cases hb:Nat.beq u t with
   |false=>rfl
   |true=>exact absurd (Nat.eq_of_beq_eq_true hb) h
  |false=>
   simp only [cond_false,gH]
   rw [Ge t u v r]
   cases sE:Nat.beq u s with
   |false=>simp
   |true=>
    have:=Nat.eq_of_beq_eq_true sE;subst this
    have:u≠t:=fun e=>by subst e;simp at hb
    simp [this]
theorem wm.put {sl:List (Nat×AV)} {a:Act} (h:wm sl a) {N:Nat} (hN:a.tmps.size=N) {dst:Option Nat} (hd:gZ N dst=true) {x:AV} {v:Value} (hv:∀k z,x=.d (.int k z)→v=.int k z):wm (eL dst x sl) (a.put dst v):=by
 cases dst with
 |none=>exact h
 |some t=>
  intro u k z hu
  simp only [eL] at hu
  rw [Ge] at hu
  have ht:t<a.tmps.size:=by rw [hN];exact Nat.le_of_ble_eq_true hd
  rw [R7 a t v ht]
  split at hu
  ·rename_i e;rw [if_pos e];exact hv k z hu
  rename_i e;rw [if_neg e];exact h u k z hu
theorem R8 {t:TypeId} {k:IntKind} {x y:Int} {ρ:Operand→Value} {o:Oper} {a b:Operand} {t':TypeId} (ho:o.op=.binOp .add t a b t') (ha:ρ a=.int k x) (hb:ρ b=.int k y):execOp ρ o=pure (.value (.int k (k.wrap (x+y)))):=by
 unfold execOp
 simp only [ho,ha,hb]
 have h1:binOp .add t (.int k x) (.int k y)=pure (.int k (k.wrap (x+y))):=by simp [binOp,Op.intArith]
 rw [h1]
 rfl
theorem R9 {t:TypeId} {k:IntKind} {x y:Int} {ρ:Operand→Value} {o:Oper} {a b:Operand} {t':TypeId} (ho:o.op=.binOp .sub t a b t') (ha:ρ a=.int k x) (hb:ρ b=.int k y):execOp ρ o=pure (.value (.int k (k.wrap (x-y)))):=by
 unfold execOp
 simp only [ho,ha,hb]
 have h1:binOp .sub t (.int k x) (.int k y)=pure (.int k (k.wrap (x-y))):=by simp [binOp,Op.intArith]
 rw [h1]
 rfl
section
variable {P:Program} {ops ops':Array Oper} {Q:Exit→Act→World→Prop}
theorem OV {G:Nat→Option (List D)} {sl:List (Nat×AV)} {a:Act} (h:wm sl a) {o:Oper} {x:AV} (hx:RF G sl o=some x):∃v,execOp a.eval o=pure (.value v)∧∀k z,x=.d (.int k z)→v=.int k z:=by
 unfold RF at hx
 split at hx
 ·rename_i y ho
  cases hx
  exact ⟨a.eval y,by unfold execOp;simp only [ho],fun k z hk=>uQ h hk⟩
 ·rename_i t y z t' ho
  split at hx
  ·rename_i k p k' q h1 h2
   cases hk:k==k' with
   |false=>rw [hk] at hx;cases hx
   |true=>
    rw [hk] at hx
    have:k=k':=by simpa using hk
    subst this
    simp only [cond_true,osI] at hx
    subst hx
    refine ⟨_,R8 ho (uQ h h1) (uQ h h2),fun j r e=>?_⟩
    cases e;rfl
  cases hx
 ·rename_i t y z t' ho
  split at hx
  ·rename_i k p k' q h1 h2
   cases hk:k==k' with
   |false=>rw [hk] at hx;cases hx
   |true=>
    rw [hk] at hx
    have:k=k':=by simpa using hk
    subst this
    simp only [cond_true,osI] at hx
    subst hx
    refine ⟨_,R9 ho (uQ h h1) (uQ h h2),fun j r e=>?_⟩
    cases e;rfl
  cases hx
 cases hx
theorem Ag {p:Nat} {o:Oper} {v:Value} {K:Act→World→Prop} {a:Act} {w:World} (hi:ops[p]?=some o) (hg:o.guard=none) (hv:execOp a.eval o=pure (.value v)) (h:wpOp P ops Q p K a w):K (a.put o.dst v) w:=by
 unfold wpOp at h
 have hw:Region.wanted o (Go.yielded ops a.tmps)=true:=by unfold Region.wanted;rw [hg]
 simp only [hi,hw,if_true] at h
 rcases h with h|⟨h,_⟩
 ·unfold Oper.wp at h;rw [hv] at h;exact h
 unfold Oper.asks at h;rw [hv] at h
 exact absurd h.1 (by show noRoomEvent ∉ (#[]:Array Event);simp)
theorem wo {G:Nat→Option (List D)} {N:Nat} {Sa:List Nat} (ht:nR Sa ops ops') (hsel:mX ops=true) (hQ:∀c (a a':Act) w,a.defers=a'.defers→Q (.panic c) a w→Q (.panic c) a' w) (fuel:Nat) (w:World):
 ∀(pre done:List Nat) (listed:Array Bool) (a:Act) (sl:List (Nat×AV)),je ops done pre=true→Cr G N ops.toList pre sl=true→wm sl a→a.tmps.size=N→(∀p∈done,listed.getD p false=true)→(∀p∈pre,p ∉ done→listed.getD p true=false)→
  (∀p∈Sa,p∈done∨p∈pre)→(∀p∈pre,p∈Sa)→listed.size=ops.size→pre.Nodup→
  wpAny P .any ops' Q (pre.length+fuel) listed a w→wpAny P .any ops Q (pre.length+fuel) listed a w
 |[],done,listed,a,sl,_,_,_,_,hd,_,hc,_,_,_,h=>xO ht _ _ _ _ (fun p hp=>hd p ((hc p hp).resolve_right (by simp))) h
 |p::r,done,listed,a,sl,hf,hg,hr,hN,hd,hu,hc,hs,hsz,hnd,h=>by
  simp only [je] at hf
  simp only [Cr] at hg
  cases ho:ops[p]? with
  |none=>simp [ho] at hf
  |some o=>
   have ho':ops.toList[p]?=some o:=by simpa using ho
   simp only [ho',ho,Bool.and_eq_true] at hf hg
   obtain ⟨⟨⟨⟨f1,f2⟩,f3⟩,f4⟩,f5⟩:=hf
   have hnp:p ∉ done:=by simpa using f1
   have I0:listed.getD p true=false:=hu p (by simp) hnp
   have wq:o.guard=none:=by cases Wn:o.guard with
    |none=>rfl
    |some g=>rw [Wn] at f2;cases f2
   cases hx:RF G sl o with
   |none=>rw [hx] at hg;cases hg
   |some x=>
    simp only [hx,Bool.and_eq_true] at hg
    obtain ⟨g1,g2⟩:=hg
    obtain ⟨v,hv,hvx⟩:=OV hr hx
    have I1:p∈Region.ready .any ops listed:=by
     rw [mem_ready]
     refine ⟨I0,o,ho,fun e he hb=>?_⟩
     rw [Array.all_eq_true_iff_forall_mem] at f3
     have:=f3 e he
     rw [hb] at this
     simp only [Bool.not_true,Bool.false_or] at this
     exact hd _ (by simpa using this)
    have Sb:p∈Region.ready .any ops' listed:=by
     rw [mem_ready] at I1 ⊢
     refine ⟨I0,o,?_,?_⟩
     ·rw [ht p,ho,Option.map_some]
      have:Sa.contains p=true:=by simpa using hs p (by simp)
      congr 1;unfold ff;rw [this];rfl
     obtain ⟨_,o2,h2,h3⟩:=I1
     rw [ho] at h2;cases h2;exact h3
    rw [show (p::r).length+fuel=(r.length+fuel)+1 by simp;omega] at h ⊢
    have h1:=(tq ht).1 (h.2 p Sb)
    have h2:=Ag ho wq hv h1
    have I2:Yields P ops o v a:=.inl ⟨by unfold Region.wanted;rw [wq],fun w=>by rw [hv];rfl⟩
    refine wpAny_first ho ?_ (fun c a w hq=>hQ c _ _ w (by cases o.dst<;>rfl) hq) _ _ _ _ ?_ I1 I2 ?_
    ·intro j q cs b hj e
     have hm:q∈ops:=Array.mem_of_getElem? hj
     rw [mX,Array.all_eq_true_iff_forall_mem] at hsel
     have:=hsel q hm
     rw [e] at this;cases this
    ·intro j q hj Zq hjl hno
     have eW:j<ops.size:=(Array.getElem?_eq_some_iff.1 hj).1
     rw [List.all_eq_true] at f4
     have:=f4 j (List.mem_range.2 eW)
     rw [hj] at this
     simp only [Bool.or_eq_true] at this
     rcases this with (h4|h4)|h4|h4
     ·exact absurd (Nat.eq_of_beq_eq_true h4) Zq
     ·have:=hd j (by simpa using h4)
      exfalso
      rcases Nat.lt_or_ge j listed.size with hl|hl
      ·simp [hl] at this hjl;rw [this] at hjl;cases hjl
      simp [hl] at this
     ·rw [Array.any_eq_true] at h4
      obtain ⟨i,hi,h5⟩:=h4
      simp only [Bool.and_eq_true] at h5
      exact absurd (Nat.eq_of_beq_eq_true h5.2) (hno _ (Array.getElem_mem hi) h5.1)
     exact h4
    have hps:p<listed.size:=by rw [hsz];exact (Array.getElem?_eq_some_iff.1 ho).1
    refine wo ht hsel hQ fuel w r (p::done) _ _ _ f5 g2 (hr.put hN g1 hvx) ?_ ?_ ?_ ?_ (fun q hq=>hs q (by simp [hq])) (by simpa using hsz) (List.nodup_cons.1 hnd).2 h2
    ·rw [←hN];cases o.dst with
     |none=>rfl
     |some d=>simp [Act.put]
    ·intro q hq
     rcases List.mem_cons.1 hq with rfl|hq
     ·simp [hps]
     have:=hd q hq
     simp only [Array.getD_eq_getD_getElem?,Array.getElem?_setIfInBounds] at this ⊢
     split
     ·simp
     exact this
    ·intro q hq hqd
     have hqp:q≠p:=fun e=>by subst e;exact (List.nodup_cons.1 hnd).1 hq
     have:=hu q (by simp [hq]) (fun hh=>hqd (by simp [hh]))
     simp only [Array.getD_eq_getD_getElem?,Array.getElem?_setIfInBounds] at this ⊢
     rw [if_neg (fun e=>hqp e.symm)]
     exact this
    intro q hq
    rcases hc q hq with h6|h6
    ·exact .inl (by simp [h6])
    rcases List.mem_cons.1 h6 with rfl|h6
    ·exact .inl (by simp)
    exact .inr h6
end
section
variable {P:Program} {ops ops':Array Oper} {Q:Exit→Act→World→Prop} {late:List Nat}
def Gf (late:List Nat) (ops ops':Array Oper):Prop:=∀j,ops'[j]?=(ops[j]?).map (kC ops late j)
theorem lH (ops:Array Oper) (late:List Nat) (i:Nat) (o:Oper):∃x,kC ops late i o={o with after:=o.after++x}:=by
 unfold kC
 cases late.contains i
 ·exact ⟨_,rfl⟩
 exact ⟨#[],by simp⟩
theorem Gf.yielded (h:Gf late ops ops') (tm:Array Value):Go.yielded ops' tm=Go.yielded ops tm:=by
 funext j
 unfold Go.yielded
 rw [h j]
 cases ops[j]? with
 |none=>rfl
 |some o=>obtain ⟨x,e⟩:=lH ops late j o;simp [e]
theorem Ah (h:Gf late ops ops') {i:Nat} {K:Act→World→Prop} {a:Act} {w:World}:wpOp P ops' Q i K a w↔wpOp P ops Q i K a w:=by
 unfold wpOp
 rw [h i,h.yielded]
 cases ho:ops[i]? with
 |none=>rfl
 |some o=>
  obtain ⟨x,e⟩:=lH ops late i o
  simp only [Option.map_some,e]
  rfl
theorem D8 {o:Oper} (h:zA o.op=true) (ρ:Operand→Value):(∃v,execOp ρ o=pure (.value v))∨(∃m,execOp ρ o=(stuck m)):=by
 unfold zA at h
 split at h
 ·rename_i x ho;exact .inl ⟨ρ x,by unfold execOp;simp only [ho]⟩
 ·rename_i x i ho
  unfold execOp
  simp only [ho,Instr.extract]
  split
  ·split
   ·exact .inl ⟨_,rfl⟩
   exact .inr ⟨_,rfl⟩
  exact .inr ⟨_,rfl⟩
 cases h
theorem Mw (h:Gf late ops ops') (hf:uk ops late=true) (hsel:mX ops=true) (hQ:∀c (a a':Act) w,a.defers=a'.defers→Q (.panic c) a w→Q (.panic c) a' w):
 ∀(fuel:Nat) (listed:Array Bool) (a:Act) (w:World),listed.size=ops.size→wpAny P .any ops' Q fuel listed a w→wpAny P .any ops Q fuel listed a w:=by
 have hsub:∀listed i,i∈Region.ready .any ops' listed→i∈Region.ready .any ops listed:=by
  intro listed i hi
  rw [mem_ready] at hi ⊢
  obtain ⟨h1,o',h2,h3⟩:=hi
  rw [h i] at h2
  cases ho:ops[i]? with
  |none=>rw [ho] at h2;cases h2
  |some o=>
   rw [ho] at h2
   simp only [Option.map_some,osI] at h2
   obtain ⟨x,e⟩:=lH ops late i o
   refine ⟨h1,o,rfl,fun e' he hb=>h3 e' ?_ hb⟩
   rw [←h2,e];exact Array.mem_append_left _ he
 have uH:∀listed i,i∈Region.ready .any ops listed→i ∉ Region.ready .any ops' listed→∃p o,p∈late∧ops[p]?=some o∧p∈Region.ready .any ops' listed:=by
  intro listed i hi hn
  rw [mem_ready] at hi
  obtain ⟨h1,o,h2,h3⟩:=hi
  have hi2:∃p∈late,listed.getD p false=false∧DQ ops p o=true∧p<i:=by
   by_cases hc:∃p∈late,listed.getD p false=false∧DQ ops p o=true∧p<i
   ·exact hc
   exfalso;apply hn
   rw [mem_ready]
   refine ⟨h1,kC ops late i o,by rw [h i,h2];rfl,fun e he hb=>?_⟩
   unfold kC at he
   cases hl:late.contains i with
   |true=>rw [hl] at he;exact h3 e he hb
   |false=>
    rw [hl] at he
    simp only [cond_false] at he
    rcases Array.mem_append.1 he with he|he
    ·exact h3 e he hb
    simp only [List.mem_toArray,List.mem_map,List.mem_filter,Bool.and_eq_true] at he
    obtain ⟨p,⟨hp,OA,Mk⟩,rfl⟩:=he
    simp only
    cases hg:listed.getD p false with
    |true=>rfl
    |false=>exact absurd ⟨p,hp,hg,Mk,by simpa using OA⟩ hc
  obtain ⟨p,hp,hg,hto,hpi⟩:=hi2
  unfold DQ at hto
  cases ho:ops[p]? with
  |none=>rw [ho] at hto;cases hto
  |some q=>
   rw [ho] at hto
   refine ⟨p,q,hp,ho,?_⟩
   rw [mem_ready]
   have hps:p<listed.size∨listed.size≤p:=Nat.lt_or_ge _ _
   have Wo:listed.getD p true=false:=by
    rcases hps with hps|hps
    ·simp [hps] at hg ⊢;exact hg
    exfalso
    have La:=h1
    have:i<listed.size:=by
     rcases Nat.lt_or_ge i listed.size with h|h
     ·exact h
     simp [h] at La
    omega
   refine ⟨Wo,kC ops late p q,by rw [h p,ho];rfl,fun e he hb=>?_⟩
   have hc:late.contains p=true:=by simpa using hp
   unfold kC at he
   rw [hc] at he
   simp only [cond_true] at he
   rw [Array.all_eq_true_iff_forall_mem] at hto
   have:=hto e he
   rw [hb] at this
   simp only [Bool.not_true,Bool.false_or] at this
   rw [Array.any_eq_true] at this
   obtain ⟨k,hk,h5⟩:=this
   simp only [Bool.and_eq_true] at h5
   rw [←Nat.eq_of_beq_eq_true h5.2]
   exact h3 _ (Array.getElem_mem hk) h5.1
 intro fuel
 induction fuel with
 |zero=>
  intro listed a w _ hh
  simp only [wpAny] at hh ⊢
  refine ⟨?_,hh.2⟩
  rw [List.eq_nil_iff_forall_not_mem]
  intro i hi
  obtain ⟨p,o,_,_,hr⟩:=uH listed i hi (by rw [hh.1];simp)
  rw [hh.1] at hr;cases hr
 |succ fuel ih=>
  intro listed a w hsz hh
  by_cases hall:∀i∈Region.ready .any ops listed,i∈Region.ready .any ops' listed
  ·refine ⟨fun h0=>hh.1 ?_,fun i hi=>?_⟩
   ·rw [List.eq_nil_iff_forall_not_mem]
    intro i hi
    have:=hsub listed i hi
    rw [h0] at this;cases this
   exact wpOp_mono (fun a' w' h'=>ih _ a' w' (by simpa using hsz) h') ((Ah h).1 (hh.2 i (hall i hi)))
  simp only [Classical.not_forall] at hall
  obtain ⟨i,hi,hn⟩:=hall
  obtain ⟨p,o,hp,ho,hr⟩:=uH listed i hi hn
  have h1:=(Ah h).1 (hh.2 p hr)
  have OW:=hf
  unfold uk at OW
  rw [List.all_eq_true] at OW
  have OW:=OW p hp
  rw [ho] at OW
  simp only [Bool.and_eq_true] at OW
  obtain ⟨⟨f1,f2⟩,f3⟩:=OW
  have wq:o.guard=none:=by cases Wn:o.guard with
   |none=>rfl
   |some g=>rw [Wn] at f2;cases f2
  rcases D8 f1 a.eval with ⟨v,hv⟩|⟨m,hv⟩
  ·have h2:=Ag ho wq hv h1
   have h3:=ih _ _ w (by simpa using hsz) h2
   have I2:Yields P ops o v a:=.inl ⟨by unfold Region.wanted;rw [wq],fun w=>by rw [hv];rfl⟩
   refine wpAny_first ho ?_ (fun c a w hq=>hQ c _ _ w (by cases o.dst<;>rfl) hq) _ _ _ _ ?_ (hsub _ _ hr) I2 h3
   ·intro j q cs b hj e
    have hm:q∈ops:=Array.mem_of_getElem? hj
    rw [mX,Array.all_eq_true_iff_forall_mem] at hsel
    have:=hsel q hm
    rw [e] at this;cases this
   intro j q hj Zq hjl hno
   have eW:j<ops.size:=(Array.getElem?_eq_some_iff.1 hj).1
   rw [List.all_eq_true] at f3
   have:=f3 j (List.mem_range.2 eW)
   rw [hj] at this
   simp only [Bool.or_eq_true] at this
   rcases this with (h4|h4)|h4|h4
   ·exact absurd (Nat.eq_of_beq_eq_true h4) Zq
   ·exfalso
    rw [Array.any_eq_true] at h4
    obtain ⟨k,hk,h5⟩:=h4
    simp only [Bool.and_eq_true] at h5
    have hrr:=hsub _ _ hr
    rw [mem_ready] at hrr
    obtain ⟨_,o2,Wp,WU⟩:=hrr
    rw [ho] at Wp;cases Wp
    have:=WU _ (Array.getElem_mem hk) h5.1
    rw [Nat.eq_of_beq_eq_true h5.2] at this
    rcases Nat.lt_or_ge j listed.size with hl|hl
    ·simp [hl] at this hjl;rw [this] at hjl;cases hjl
    simp [hl] at this
   ·rw [Array.any_eq_true] at h4
    obtain ⟨k,hk,h5⟩:=h4
    simp only [Bool.and_eq_true] at h5
    exact absurd (Nat.eq_of_beq_eq_true h5.2) (hno _ (Array.getElem_mem hk) h5.1)
   exact h4
  exfalso
  unfold wpOp at h1
  have hw:Region.wanted o (Go.yielded ops a.tmps)=true:=by unfold Region.wanted;rw [wq]
  simp only [ho,hw,if_true] at h1
  rcases h1 with h1|⟨h1,_⟩
  ·unfold Oper.wp at h1;rw [hv] at h1;exact h1
  unfold Oper.asks at h1;rw [hv] at h1
  exact absurd h1.1 (by show noRoomEvent ∉ (#[]:Array Event);simp)
end
end Dem
end
