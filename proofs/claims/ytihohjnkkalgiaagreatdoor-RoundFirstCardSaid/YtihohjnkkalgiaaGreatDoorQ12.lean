/- Parts of a proof, joined. -/
import Derived.Test.YtihohjnkkalgiaaGreatDoorQ11
import Derived.Scope
set_option linter.all false
set_option maxRecDepth 100000
set_option maxHeartbeats 4000000
section
open Go
namespace Dem
mutual
def AV.iN (m:Nat→Option Nat):AV→Option AV
 |.any=>some .any
 |.d x=>some (.d x)
 |.k c=>some (.k c)
 |.agg cs=>match AV.yo m cs with
  |some ys=>some (.agg ys)
  |none=>none
 |.dX cs=>match AV.yo m cs with
  |some ys=>some (.dX ys)
  |none=>none
 |.ptr b off=>match m b with
  |some j=>some (.ptr j off)
  |none=>none
 |.rp b sz i q=>match m b with
  |some j=>some (.rp j sz i q)
  |none=>none
 |.ep ds=>some (.ep ds)
 |.ow b sz n=>match m b with
  |some j=>some (.ow j sz n)
  |none=>none
 |.vw b sz off n c ex=>match m b with
  |some j=>some (.vw j sz off n c ex)
  |none=>none
 |.cl es=>some (.cl es)
 |.Bx b=>match m b with
  |some j=>some (.Bx j)
  |none=>none
 |.fn f cs=>match AV.yo m cs with
  |some ys=>some (.fn f ys)
  |none=>none
 |.rN t x=>match AV.iN m x with
  |some y=>some (.rN t y)
  |none=>none
 |.cond p x=>match AV.iN m x with
  |some y=>some (.cond p y)
  |none=>none
def AV.yo (m:Nat→Option Nat):List AV→Option (List AV)
 |[]=>some []
 |x::xs=>match AV.iN m x,AV.yo m xs with
  |some y,some ys=>some (y::ys)
  |_,_=>none
end
mutual
def AV.refs:AV→List Nat
 |.ptr b _=>[b]
 |.rp b _ _ _=>[b]
 |.ow b _ _=>[b]
 |.vw b _ _ _ _ _=>[b]
 |.Bx b=>[b]
 |.agg cs=>AV.Ai cs
 |.dX cs=>AV.Ai cs
 |.fn _ cs=>AV.Ai cs
 |.rN _ x=>AV.refs x
 |.cond _ x=>AV.refs x
 |_=>[]
def AV.Ai:List AV→List Nat
 |[]=>[]
 |x::xs=>AV.refs x++AV.Ai xs
end
def TU (b:Nat):List Nat→Bool
 |[]=>false
 |x::r=>bif Nat.beq b x then true else TU b r
def eA (b:Nat):List Nat→Nat→Option Nat
 |[],_=>none
 |x::r,i=>bif Nat.beq b x then some i else eA b r (i+1)
def reach (bx:List aB):Nat→List Nat→List Nat→List Nat
 |0,_,acc=>acc
 |_+1,[],acc=>acc
 |n+1,b::todo,acc=>bif TU b acc then reach bx n todo acc else
  reach bx n (todo++(match bx[b]? with|some (.var cs)=>AV.Ai cs|_=>[])) (acc++[b])
def aB.iN (m:Nat→Option Nat):aB→Option aB
 |.var cs=>match AV.yo m cs with
  |some ys=>some (.var ys)
  |none=>none
 |b=>some b
def gL (m:Nat→Option Nat) (bx:List aB):List Nat→Option (List aB)
 |[]=>some []
 |i::r=>match bx[i]? with
  |some b=>match aB.iN m b,gL m bx r with
   |some b',some bs=>some (b'::bs)
   |_,_=>none
  |none=>none
def Ge (m:Nat→Option Nat) (sl:List (Nat×AV)):List Nat→Option (List (Nat×AV))
 |[]=>some []
 |i::r=>match AV.iN m (gG i sl),Ge m sl r with
  |some y,some ys=>some ((i,y)::ys)
  |_,_=>none
def DQ (ct:List Nat):Nat→List Nat→Bool
 |_,[]=>true
 |i,b::r=>(match eA b ct 0 with|some j=>Nat.beq i j|none=>false)&&DQ ct (i+1) r
def upTo:Nat→List Nat
 |0=>[]
 |n+1=>upTo n++[n]
def O3 (K:Nat) (ks:List Nat) (s:St):Option St:=
 match reach s.bx 99 (upTo K++AV.Ai (ks.map fun i=>gG i s.sl)) [] with
 |ct=>bif DQ ct 0 ct&&DQ ct 0 (upTo K) then
  match gL (fun b=>eA b ct 0) s.bx ct,Ge (fun b=>eA b ct 0) s.sl ks with
  |some bx,some sl=>some ⟨sl,bx⟩
  |_,_=>none
  else none
structure Nf where
 ks:List Nat
 os:List (Nat×Nat):=[]
 ob:List (Nat×Nat×Nat):=[]
def uI (s:St):List (Nat×Nat)→St
 |[]=>s
 |(i,sz)::r=>match gG i s.sl with
  |.cl []=>bif Nat.beq sz 0 then uI ⟨put i (.d (.sl [])) s.sl,s.bx⟩ r else uI ⟨put i (.ow s.bx.length sz 0) s.sl,s.bx++[.row sz []]⟩ r
  |_=>uI s r
def yq (s:St):List (Nat×Nat×Nat)→St
 |[]=>s
 |(b,c,sz)::r=>match s.bx[b]? with
  |some (.var cs)=>match cs[c]? with
   |some (.cl [])=>bif Nat.beq sz 0 then yq ⟨s.sl,s.bx.set b (.var (cs.set c (.d (.sl []))))⟩ r
    else yq ⟨s.sl,(s.bx++[aB.row sz []]).set b (.var (cs.set c (.ow s.bx.length sz 0)))⟩ r
   |some (.ow k z _)=>bif Nat.beq sz 0 then match s.bx[k]? with
    |some (.row y es)=>bif Nat.beq y z&&!Nat.beq b k then yq ⟨s.sl,(s.bx.set k (.kx y es)).set b (.var (cs.set c (.d (.sl es))))⟩ r else yq s r
    |_=>yq s r
    else yq s r
   |_=>yq s r
  |_=>yq s r
def V3:Option Prop→Prop
 |none=>True
 |some c=>c
structure WK (n:Nat) (es:List (List D)):Prop where
 eq:n=es.length
def p7 (s:St):List (Nat×Nat×Nat)→Option Prop
 |[]=>none
 |(b,c,sz)::r=>match s.bx[b]? with
  |some (.var cs)=>match cs[c]? with
   |some (.cl [])=>bif Nat.beq sz 0 then p7 ⟨s.sl,s.bx.set b (.var (cs.set c (.d (.sl []))))⟩ r
    else p7 ⟨s.sl,(s.bx++[aB.row sz []]).set b (.var (cs.set c (.ow s.bx.length sz 0)))⟩ r
   |some (.ow k z n)=>bif Nat.beq sz 0 then match s.bx[k]? with
    |some (.row y es)=>bif Nat.beq y z&&!Nat.beq b k then some (WK n es∧V3 (p7 ⟨s.sl,(s.bx.set k (.kx y es)).set b (.var (cs.set c (.d (.sl es))))⟩ r)) else p7 s r
    |_=>p7 s r
    else p7 s r
   |_=>p7 s r
  |_=>p7 s r
def xE (K:Nat) (nf:Nf) (s:St):Option St:=O3 K nf.ks (yq (uI s nf.os) nf.ob)
section
variable {G:Nat→Option (List D)} {N:Nat} {ds:List Deferred} {β β':Nat→Nat} {bx aZ:List aB} {w:World} {X:Nat→Prop}
structure rR (K:Nat) (β:Nat→Nat) (bx:List aB) (β':Nat→Nat) (aZ:List aB):Prop where
 born:∀i,i<K→bX bx i→β' i=β i∧bX aZ i
 live:∀i b,aZ[i]?=some b→b.live=true→∃j b',bx[j]?=some b'∧b'.live=true∧β j=β' i
theorem rR.refl (K:Nat) (β:Nat→Nat) (bx:List aB):rR K β bx β bx:=⟨fun _ _ h=>⟨rfl,h⟩,fun i b h1 h2=>⟨i,b,h1,h2,rfl⟩⟩
theorem rR.trans {K:Nat} {β'':Nat→Nat} {N3:List aB} (h:rR K β bx β' aZ) (g:rR K β' aZ β'' N3):rR K β bx β'' N3:=by
 refine ⟨?_,?_⟩
 ·intro i hi hb
  obtain ⟨h1,h2⟩:=h.born i hi hb
  obtain ⟨h3,h4⟩:=g.born i hi h2
  exact ⟨h3.trans h1,h4⟩
 intro i b h1 h2
 obtain ⟨j,b',h3,h4,h5⟩:=g.live i b h1 h2
 obtain ⟨k,b'',h6,h7,h8⟩:=h.live j b' h3 h4
 exact ⟨k,b'',h6,h7,h8.trans h5⟩
theorem Ext.Aj {K:Nat} {β0:Nat→Nat} {aV:List aB} {w0:World} (ex:Ext β0 aV w0 β bx w) (hK:aV.length≤K) (h:rR K β bx β' aZ):Ext β0 aV w0 β' aZ w:=by
 refine ⟨ex.os,ex.tape,ex.output,ex.size,ex.block,ex.shape,?_,?_⟩
 ·intro i hi
  obtain ⟨h1,h2⟩:=ex.born i hi
  obtain ⟨b,hb,_⟩:=hi
  obtain ⟨h3,h4⟩:=h.born i (Nat.lt_of_lt_of_le (jg hb) hK) h2
  exact ⟨h3.trans h1,h4⟩
 intro i b h1 h2
 obtain ⟨j,b',h3,h4,h5⟩:=h.live i b h1 h2
 rw [←h5]
 exact ex.live j b' h3 h4
theorem sU {b:Nat}:∀{l:List Nat} {i j:Nat},eA b l i=some j→i≤j∧l[j-i]?=some b
 |[],_,_,h=>by simp [eA] at h
 |x::r,i,j,h=>by
  simp only [eA] at h
  cases hb:Nat.beq b x with
  |true=>
   simp only [hb,cond_true,osI] at h
   subst h
   have:=Nat.eq_of_beq_eq_true hb
   subst this
   simp
  |false=>
   simp only [hb,cond_false] at h
   obtain ⟨h1,h2⟩:=sU h
   refine ⟨by omega,?_⟩
   rw [show j-i=(j-(i+1))+1 by omega,List.getElem?_cons_succ]
   exact h2
theorem ry {ct:List Nat}:∀{l:List Nat} {i k b:Nat},DQ ct i l=true→l[k]?=some b→eA b ct 0=some (i+k)
 |[],_,_,_,_,h=>by simp at h
 |x::r,i,k,b,h,hk=>by
  simp only [DQ,Bool.and_eq_true] at h
  cases k with
  |zero=>
   simp only [List.getElem?_cons_zero,osI] at hk
   subst hk
   obtain ⟨h1,_⟩:=h
   split at h1
   ·rename_i j hj
    rw [hj,←Nat.eq_of_beq_eq_true h1];rfl
   simp at h1
  |succ k=>
   rw [List.getElem?_cons_succ] at hk
   have:=ry h.2 hk
   rw [this];congr 1;omega
theorem Gf:∀{n i:Nat},i<n→(upTo n)[i]?=some i
 |n+1,i,h=>by
  have hl:(upTo n).length=n:=by
   clear h;induction n with
   |zero=>rfl
   |succ m ih=>simp [upTo,ih]
  simp only [upTo]
  by_cases hi:i<n
  ·rw [List.getElem?_append_left (by omega)];exact Gf hi
  have:i=n:=by omega
  subst this
  rw [List.getElem?_append_right (by omega)];simp [hl]
mutual
theorem rA {m:Nat→Option Nat} {ok ok':Nat→Prop} (hm:∀b j,m b=some j→β' j=β b∧(bX bx b→bX aZ j)) (hok:∀blk,ok blk→ok' blk):
 ∀(x y:AV) (v:Value),x.iN m=some y→ak β bx w ok x v→ak β' aZ w ok' y v
 |.any,y,v,h,_=>by simp only [AV.iN,osI] at h;subst h;simp [ak]
 |.d x,y,v,h,hv=>by
  simp only [AV.iN,osI] at h;subst h;simp only [ak] at hv ⊢
  exact aS.mono (fun blk hb=>⟨hok blk hb,rfl⟩) _ _ hv
 |.k c,y,v,h,hv=>by simp only [AV.iN,osI] at h;subst h;simpa [ak] using hv
 |.agg cs,y,v,h,hv=>by
  simp only [AV.iN] at h
  split at h
  ·rename_i ys hys
   simp only [osI] at h;subst h
   simp only [ak] at hv ⊢;obtain ⟨vs,h1,h2⟩:=hv
   exact ⟨vs,h1,kG hm hok cs ys vs hys h2⟩
  simp at h
 |.dX cs,y,v,h,hv=>by
  simp only [AV.iN] at h
  split at h
  ·rename_i ys hys
   simp only [osI] at h;subst h
   simp only [ak] at hv ⊢;obtain ⟨vs,h1,h2⟩:=hv
   exact ⟨vs,h1,kG hm hok cs ys vs hys h2⟩
  simp at h
 |.ptr b off,y,v,h,hv=>by
  simp only [AV.iN] at h
  split at h
  ·rename_i j hj
   simp only [osI] at h;subst h
   obtain ⟨e,hb⟩:=hm b j hj
   simp only [ak] at hv ⊢
   rw [e];exact ⟨hv.1,hb hv.2⟩
  simp at h
 |.rp b sz i q,y,v,h,hv=>by
  simp only [AV.iN] at h
  split at h
  ·rename_i j hj
   simp only [osI] at h;subst h
   obtain ⟨e,hb⟩:=hm b j hj
   simp only [ak] at hv ⊢
   rw [e];exact ⟨hv.1,hb hv.2⟩
  simp at h
 |.Bx b,y,v,h,hv=>by
  simp only [AV.iN] at h
  split at h
  ·rename_i j hj
   simp only [osI] at h;subst h
   obtain ⟨e,hb⟩:=hm b j hj
   simp only [ak] at hv ⊢
   rw [e];exact ⟨hv.1,hb hv.2⟩
  simp at h
 |.ep ds,y,v,h,hv=>by
  simp only [AV.iN,osI] at h;subst h
  simp only [ak] at hv ⊢;obtain ⟨blk,off,h1,h2,h3⟩:=hv
  exact ⟨blk,off,h1,hok blk h2,bp.mono (fun blk hb=>⟨hok blk hb,rfl⟩) blk (fun _=>rfl) _ _ h3⟩
 |.ow b sz n,y,v,h,hv=>by
  simp only [AV.iN] at h
  split at h
  ·rename_i j hj
   simp only [osI] at h;subst h
   obtain ⟨e,hb⟩:=hm b j hj
   simp only [ak] at hv ⊢
   rw [e];exact ⟨hb hv.1,hv.2⟩
  simp at h
 |.vw b sz off n c ex,y,v,h,hv=>by
  simp only [AV.iN] at h
  split at h
  ·rename_i j hj
   simp only [osI] at h;subst h
   obtain ⟨e,hb⟩:=hm b j hj
   simp only [ak] at hv ⊢
   rw [e];exact ⟨hb hv.1,hv.2⟩
  simp at h
 |.cl es,y,v,h,hv=>by
  simp only [AV.iN,osI] at h;subst h
  simp only [ak] at hv ⊢;obtain ⟨base,h1,h2⟩:=hv
  refine ⟨base,h1,h2.imp id ?_⟩
  rintro ⟨blk,off,sz,e1,e2,e3⟩
  exact ⟨blk,off,sz,e1,hok blk e2,ay.mono (fun blk hb=>⟨hok blk hb,rfl⟩) blk sz (fun _=>rfl) _ _ e3⟩
 |.fn f cs,y,v,h,hv=>by
  simp only [AV.iN] at h
  split at h
  ·rename_i ys hys
   simp only [osI] at h;subst h
   simp only [ak] at hv ⊢;obtain ⟨vs,h1,h2⟩:=hv
   exact ⟨vs,h1,kG hm hok cs ys vs hys h2⟩
  simp at h
 |.rN t x,y,v,h,hv=>by
  simp only [AV.iN] at h
  split at h
  ·rename_i z hz
   simp only [osI] at h;subst h
   simp only [ak] at hv ⊢;obtain ⟨u,h1,h2⟩:=hv
   exact ⟨u,h1,rA hm hok x z u hz h2⟩
  simp at h
 |.cond p x,y,v,h,hv=>by
  simp only [AV.iN] at h
  split at h
  ·rename_i z hz
   simp only [osI] at h;subst h
   simp only [ak] at hv ⊢
   exact ⟨fun hp=>rA hm hok x z v hz (hv.1 hp),hv.2⟩
  simp at h
theorem kG {m:Nat→Option Nat} {ok ok':Nat→Prop} (hm:∀b j,m b=some j→β' j=β b∧(bX bx b→bX aZ j)) (hok:∀blk,ok blk→ok' blk):
 ∀(xs ys:List AV) (vs:List Value),AV.yo m xs=some ys→an β bx w ok xs vs→an β' aZ w ok' ys vs
 |[],ys,vs,h,hv=>by simp only [AV.yo,osI] at h;subst h;simpa [an] using hv
 |x::xs,ys,vs,h,hv=>by
  simp only [AV.yo] at h
  split at h
  ·rename_i y ys' h1 h2
   simp only [osI] at h;subst h
   simp only [an] at hv ⊢
   obtain ⟨u,us,k1,k2,k3⟩:=hv
   exact ⟨u,us,k1,rA hm hok x y u h1 k2,kG hm hok xs ys' us h2 k3⟩
  simp at h
end
theorem jw {m:Nat→Option Nat}:∀{ct:List Nat} {bs:List aB},gL m bx ct=some bs→∀(k:Nat) (b':aB),bs[k]?=some b'→∃(i:Nat) (b:aB),ct[k]?=some i∧bx[i]?=some b∧aB.iN m b=some b'
 |[],bs,h,k,b',hk=>by simp only [gL,osI] at h;subst h;simp at hk
 |i::r,bs,h,k,b',hk=>by
  simp only [gL] at h
  split at h
  ·rename_i b hb
   split at h
   ·rename_i b1 bs1 h1 h2
    simp only [osI] at h;subst h
    cases k with
    |zero=>simp only [List.getElem?_cons_zero,osI] at hk;subst hk;exact ⟨i,b,rfl,hb,h1⟩
    |succ k=>simp only [List.getElem?_cons_succ] at hk ⊢;exact jw h2 k b' hk
   simp at h
  simp at h
theorem mP {m:Nat→Option Nat}:∀{ct:List Nat} {bs:List aB},gL m bx ct=some bs→∀(k i:Nat),ct[k]?=some i→∃(b b':aB),bx[i]?=some b∧aB.iN m b=some b'∧bs[k]?=some b'
 |[],bs,h,k,i,hk=>by simp at hk
 |i0::r,bs,h,k,i,hk=>by
  simp only [gL] at h
  split at h
  ·rename_i b hb
   split at h
   ·rename_i b1 bs1 h1 h2
    simp only [osI] at h;subst h
    cases k with
    |zero=>simp only [List.getElem?_cons_zero,osI] at hk;subst hk;exact ⟨b,b1,hb,h1,rfl⟩
    |succ k=>simp only [List.getElem?_cons_succ] at hk ⊢;exact mP h2 k i hk
   simp at h
  simp at h
theorem aB.gr {m:Nat→Option Nat} {b b':aB} (h:aB.iN m b=some b'):b'.born=b.born∧b'.live=b.live:=by
 unfold aB.iN at h
 split at h
 ·split at h
  ·simp only [osI] at h;subst h;exact ⟨rfl,rfl⟩
  simp at h
 simp only [osI] at h;subst h;exact ⟨rfl,rfl⟩
theorem Cw {m:Nat→Option Nat} {sl:List (Nat×AV)}:∀{ks:List Nat} {rQ:List (Nat×AV)},Ge m sl ks=some rQ→∀t,gG t rQ=.any∨AV.iN m (gG t sl)=some (gG t rQ)
 |[],rQ,h,t=>by simp only [Ge,osI] at h;subst h;exact .inl rfl
 |i::r,rQ,h,t=>by
  simp only [Ge] at h
  split at h
  ·rename_i y ys h1 h2
   simp only [osI] at h;subst h
   simp only [gG]
   cases hb:Nat.beq t i with
   |true=>have:=Nat.eq_of_beq_eq_true hb;subst this;exact .inr h1
   |false=>simp only [cond_false];exact Cw h2 t
  simp at h
theorem Gg {K:Nat} {ks:List Nat} {s s':St} {a:Act} (h:O3 K ks s=some s') (hF:Fr G N ds β w X s a):
 ∃β',rR K β s.bx β' s'.bx∧Fr G N ds β' w X s' a:=by
 unfold O3 at h
 generalize reach s.bx 99 (upTo K++AV.Ai (ks.map fun i=>gG i s.sl)) []=ct at h
 simp only at h
 cases h1:DQ ct 0 ct with
 |false=>simp [h1] at h
 |true=>
 cases h2:DQ ct 0 (upTo K) with
 |false=>simp [h1,h2] at h
 |true=>
 simp only [h1,h2,Bool.and_self,cond_true] at h
 split at h
 ·rename_i bs sl Y7 VU
  simp only [osI] at h
  subst h
  have uJ:∀k i,ct[k]?=some i→eA i ct 0=some k:=fun k i hk=>by have:=ry h1 hk;simpa using this
  have hidx:∀b j,eA b ct 0=some j→ct[j]?=some b:=fun b j hj=>by have:=(sU hj).2;simpa using this
  let β':Nat→Nat:=fun j=>match ct[j]? with|some i=>β i|none=>0
  have hβ:∀k i,ct[k]?=some i→β' k=β i:=fun k i hk=>by simp [β',hk]
  have hm:∀b j,eA b ct 0=some j→β' j=β b∧(bX s.bx b→bX bs j):=by
   intro b j hj
   have hs:=hidx b j hj
   refine ⟨hβ j b hs,?_⟩
   rintro ⟨B,hB,dQ⟩
   obtain ⟨b1,b2,k1,k2,k3⟩:=mP Y7 j b hs
   rw [hB] at k1;cases k1
   exact ⟨b2,k3,(aB.gr k2).1.trans dQ⟩
  have cB:∀(i:Nat) (b:aB),bs[i]?=some b→b.live=true→∃(j:Nat) (b':aB),s.bx[j]?=some b'∧b'.live=true∧β j=β' i∧ct[i]?=some j:=by
   intro i b hi hl
   obtain ⟨j,b',k1,k2,k3⟩:=jw Y7 i b hi
   exact ⟨j,b',k2,(aB.gr k3).2▸hl,(hβ i j k1).symm,k1⟩
  have hok:∀blk,bz β s.bx w X blk→bz β' bs w X blk:=by
   rintro blk ⟨k1,k2,k3⟩
   refine ⟨k1,k2,?_⟩
   intro i b hi hl
   obtain ⟨j,b',h3,h4,h5,_⟩:=cB i b hi hl
   rw [←h5];exact k3 j b' h3 h4
  have hkeep:iW w w (bz β s.bx w X) (bz β' bs w X):=fun blk hb=>⟨hok blk hb,rfl⟩
  refine ⟨β',⟨?_,?_⟩,⟨?_,hF.defers,hF.size,?_⟩⟩
  ·intro i hi hb
   have:=ry h2 (Gf hi)
   simp only [Nat.zero_add] at this
   obtain ⟨k1,k2⟩:=hm i i this
   exact ⟨k1,k2 hb⟩
  ·intro i b hi hl
   obtain ⟨j,b',h3,h4,h5,_⟩:=cB i b hi hl
   exact ⟨j,b',h3,h4,h5⟩
  ·refine ⟨hF.cx.xs,?_,?_,?_,?_⟩
   ·intro g ds hg
    obtain ⟨k1,k2⟩:=hF.cx.ym g ds hg
    exact ⟨hok g k1,bp.mono hkeep g (fun _=>rfl) _ _ k2⟩
   ·intro i j bi bj hi hj mC ou he
    obtain ⟨i',Y8,a1,a2,a3,a4⟩:=cB i bi hi mC
    obtain ⟨j',Y9,c1,c2,c3,c4⟩:=cB j bj hj ou
    have:i'=j':=hF.cx.inj i' j' Y8 Y9 a1 c1 a2 c2 (a3.trans (he.trans c3.symm))
    subst this
    have e1:=uJ i i' a4
    have e2:=uJ j i' c4
    rw [e1] at e2;exact Option.some.inj e2
   ·intro i b hi
    obtain ⟨j,b',k1,k2,k3⟩:=jw Y7 i b hi
    have hb:=hF.cx.box j b' k2
    rw [hβ i j k1]
    cases b' with
    |var cs=>
     simp only [aB.iN] at k3
     split at k3
     ·rename_i ys hys
      simp only [osI] at k3;subst k3
      simp only [dm] at hb ⊢
      obtain ⟨c,e,g1,g2⟩:=hb
      exact ⟨c,e,g1,kG hm hok cs ys _ hys g2⟩
     simp at k3
    |row sz es=>
     simp only [aB.iN,osI] at k3;subst k3
     refine hb.imp id ?_
     rintro ⟨c,e,g1,g2⟩
     exact ⟨c,e,g1,ay.mono hkeep _ _ (fun _=>rfl) _ _ g2⟩
    |kx sz es=>
     simp only [aB.iN,osI] at k3;subst k3
     refine hb.imp id ?_
     rintro ⟨g1,g2⟩
     exact ⟨hok _ g1,ay.mono hkeep _ _ (fun _=>rfl) _ _ g2⟩
    |it s p=>simp only [aB.iN,osI] at k3;subst k3;exact hb
    |mp ag es=>simp only [aB.iN,osI] at k3;subst k3;obtain ⟨ms,clock,h1,h2,h3⟩:=hb;exact ⟨ms,clock,h1,h2,bA.mono hkeep _ _ _ h3⟩
    |dead=>simp only [aB.iN,osI] at k3;subst k3;trivial
    |bC=>simp only [aB.iN,osI] at k3;subst k3;trivial
   intro i b hi hl
   obtain ⟨j,b',h3,h4,h5,_⟩:=cB i b hi hl
   rw [←h5];exact hF.cx.apart j b' h3 h4
  intro t
  rcases Cw VU t with h3|h3
  ·rw [h3];simp [ak]
  exact rA hm hok _ _ _ h3 (hF.yI t)
 simp at h
theorem Gh (K:Nat) {sz:Nat} {s:St} {a:Act} (hF:Fr G N ds β w X s a):∃β',rR K β s.bx β' (s.bx++[.row sz []])∧Fr G N ds β' w X ⟨s.sl,s.bx++[.row sz []]⟩ a∧bX (s.bx++[.row sz []]) s.bx.length:=by
 have hinv:∀{i:Nat} {b:aB},(s.bx++[aB.row sz []])[i]?=some b→b.live=true→s.bx[i]?=some b:=by
  intro i b h hl
  rcases bD h with ⟨h1,_⟩|⟨h1,h2⟩
  ·exact h1
  subst h2;simp [aB.live] at hl
 have hok:∀blk,bz β s.bx w X blk→bz β (s.bx++[.row sz []]) w X blk:=by
  rintro blk ⟨k1,k2,k3⟩
  exact ⟨k1,k2,fun i b hi hl=>k3 i b (hinv hi hl) hl⟩
 have dQ:∀i,bX s.bx i→bX (s.bx++[.row sz []]) i:=by
  rintro i ⟨b,h1,h2⟩
  exact ⟨b,eG h1,h2⟩
 have hkeep:iW w w (bz β s.bx w X) (bz β (s.bx++[.row sz []]) w X):=fun blk hb=>⟨hok blk hb,rfl⟩
 have pR:rU β s.bx w (bz β s.bx w X) β (s.bx++[.row sz []]) w (bz β (s.bx++[.row sz []]) w X):=by
  refine ⟨hkeep,?_,fun _ c _ _ h=>⟨c,h,rfl⟩⟩
  intro i hi
  exact ⟨rfl,dQ i hi⟩
 refine ⟨β,⟨fun i _ hi=>⟨rfl,dQ i hi⟩,fun i b hi hl=>⟨i,b,hinv hi hl,hl,rfl⟩⟩,⟨⟨hF.cx.xs,?_,?_,?_,?_⟩,hF.defers,hF.size,?_⟩,?_⟩
 ·intro g ds hg
  obtain ⟨k1,k2⟩:=hF.cx.ym g ds hg
  exact ⟨hok g k1,bp.mono hkeep g (fun _=>rfl) _ _ k2⟩
 ·intro i j bi bj hi hj mC ou he
  exact hF.cx.inj i j bi bj (hinv hi mC) (hinv hj ou) mC ou he
 ·intro i b hi
  rcases bD hi with ⟨h1,_⟩|⟨h1,h2⟩
  ·have h:=hF.cx.box i b h1
   cases b with
   |var cs=>
    obtain ⟨c,e,g1,g2⟩:=h
    exact ⟨c,e,g1,an.mono pR _ _ g2⟩
   |row sz es=>
    refine h.imp id ?_
    rintro ⟨c,e,g1,g2⟩
    exact ⟨c,e,g1,ay.mono hkeep _ _ (fun _=>rfl) _ _ g2⟩
   |kx sz es=>
    refine h.imp id ?_
    rintro ⟨g1,g2⟩
    exact ⟨hok _ g1,ay.mono hkeep _ _ (fun _=>rfl) _ _ g2⟩
   |it s p=>exact h
   |mp ag es=>obtain ⟨ms,clock,h1,h2,h3⟩:=h;exact ⟨ms,clock,h1,h2,bA.mono hkeep _ _ _ h3⟩
   |dead=>trivial
   |bC=>trivial
  subst h2;exact .inl rfl
 ·intro i b hi hl
  exact hF.cx.apart i b (hinv hi hl) hl
 ·intro t;exact ak.mono pR _ _ (hF.yI t)
 exact ⟨.row sz [],by simp,rfl⟩
theorem TV {ok:Nat→Prop} {n sz:Nat} {u:Value} (hb:bX bx n) (h:ak β bx w ok (.cl []) u):ak β bx w ok (.ow n sz 0) u:=by
 simp only [ak,List.length_nil] at h ⊢
 obtain ⟨base,h1,_⟩:=h
 exact ⟨hb,.inl ⟨trv,base,h1⟩⟩
theorem oF (K:Nat) {a:Act}:∀(l:List (Nat×Nat)) (s:St) (β:Nat→Nat),Fr G N ds β w X s a→∃β',rR K β s.bx β' (uI s l).bx∧Fr G N ds β' w X (uI s l) a
 |[],s,β,hF=>⟨β,rR.refl _ _ _,hF⟩
 |(i,sz)::r,s,β,hF=>by
  unfold uI
  split
  ·rename_i hl
   cases hz:Nat.beq sz 0 with
   |true=>
    simp only [cond_true]
    refine oF K r ⟨put i (.d (.sl [])) s.sl,s.bx⟩ β ⟨hF.cx,hF.defers,hF.size,fun t=>?_⟩
    have h1:=hF.yI t
    simp only [oy]
    by_cases ht:t=i
    ·subst ht
     rw [if_pos rfl]
     rw [hl] at h1
     simp only [ak,aS] at h1 ⊢
     obtain ⟨base,h2,h3⟩:=h1
     exact ⟨base,_,h2,Nat.le_refl _,h3⟩
    rw [if_neg ht];exact h1
   |false=>
   simp only [cond_false]
   obtain ⟨β1,e1,EV,hb⟩:=Gh (sz:=sz) K hF
   have Mi:Fr G N ds β1 w X ⟨put i (.ow s.bx.length sz 0) s.sl,s.bx++[.row sz []]⟩ a:=by
    refine ⟨EV.cx,EV.defers,EV.size,?_⟩
    intro t
    have h1:=EV.yI t
    simp only [oy]
    by_cases ht:t=i
    ·subst ht
     rw [if_pos rfl]
     have KO:ak β1 (s.bx++[.row sz []]) w (bz β1 (s.bx++[.row sz []]) w X) (gG t s.sl) (a.tmps.getD t undef):=h1
     rw [hl] at KO
     exact TV hb KO
    rw [if_neg ht];exact h1
   obtain ⟨β2,e2,Sb⟩:=oF K r _ β1 Mi
   exact ⟨β2,e1.trans e2,Sb⟩
  exact oF K r s β hF
theorem Cx {ok:Nat→Prop} {x y:AV} (hxy:∀u,ak β bx w ok x u→ak β bx w ok y u):∀(cs:List AV) (c:Nat) (vs:List Value),cs[c]?=some x→an β bx w ok cs vs→an β bx w ok (cs.set c y) vs
 |[],_,_,h,_=>by simp at h
 |z::cs,0,vs,h,hv=>by
  simp only [List.getElem?_cons_zero,osI] at h;subst h
  simp only [List.set_cons_zero,an] at hv ⊢
  obtain ⟨u,us,h1,h2,h3⟩:=hv
  exact ⟨u,us,h1,hxy u h2,h3⟩
 |z::cs,c+1,vs,h,hv=>by
  simp only [List.getElem?_cons_succ] at h
  simp only [List.set_cons_succ,an] at hv ⊢
  obtain ⟨u,us,h1,h2,h3⟩:=hv
  exact ⟨u,us,h1,h2,Cx hxy cs c us h h3⟩
theorem IY {s:St} {a:Act} (hF:Fr G N ds β w X s a) {b c:Nat} {cs:List AV} {x y:AV} (hb:s.bx[b]?=some (.var cs)) (hc:cs[c]?=some x)
 (hxy:∀u,ak β s.bx w (bz β s.bx w X) x u→ak β s.bx w (bz β s.bx w X) y u) (K:Nat):
 rR K β s.bx β (s.bx.set b (.var (cs.set c y)))∧Fr G N ds β w X ⟨s.sl,s.bx.set b (.var (cs.set c y))⟩ a:=by
 have hinv:∀{i:Nat} {B:aB},(s.bx.set b (.var (cs.set c y)))[i]?=some B→(i=b∧B=.var (cs.set c y))∨(i≠b∧s.bx[i]?=some B):=by
  intro i B h
  rcases aU h with ⟨h1,h2,_⟩|⟨h1,h2⟩
  ·exact .inl ⟨h1,h2⟩
  exact .inr ⟨h1,h2⟩
 have cB:∀{i:Nat} {B:aB},(s.bx.set b (.var (cs.set c y)))[i]?=some B→B.live=true→∃B',s.bx[i]?=some B'∧B'.live=true:=by
  intro i B h hl
  rcases hinv h with ⟨rfl,rfl⟩|⟨_,h1⟩
  ·exact ⟨_,hb,rfl⟩
  exact ⟨B,h1,hl⟩
 have hok:∀blk,bz β s.bx w X blk→bz β (s.bx.set b (.var (cs.set c y))) w X blk:=by
  rintro blk ⟨k1,k2,k3⟩
  refine ⟨k1,k2,fun i B hi hl=>?_⟩
  obtain ⟨B',h1,h2⟩:=cB hi hl
  exact k3 i B' h1 h2
 have dQ:∀i,bX s.bx i→bX (s.bx.set b (.var (cs.set c y))) i:=fun i hi=>iE rfl hi
 have hkeep:iW w w (bz β s.bx w X) (bz β (s.bx.set b (.var (cs.set c y))) w X):=fun blk hb=>⟨hok blk hb,rfl⟩
 have pR:rU β s.bx w (bz β s.bx w X) β (s.bx.set b (.var (cs.set c y))) w (bz β (s.bx.set b (.var (cs.set c y))) w X):=
  ⟨hkeep,fun i hi=>⟨rfl,dQ i hi⟩,fun _ c _ _ h=>⟨c,h,rfl⟩⟩
 refine ⟨⟨fun i _ hi=>⟨rfl,dQ i hi⟩,fun i B hi hl=>?_⟩,⟨⟨hF.cx.xs,?_,?_,?_,?_⟩,hF.defers,hF.size,?_⟩⟩
 ·obtain ⟨B',h1,h2⟩:=cB hi hl
  exact ⟨i,B',h1,h2,rfl⟩
 ·intro g ds hg
  obtain ⟨k1,k2⟩:=hF.cx.ym g ds hg
  exact ⟨hok g k1,bp.mono hkeep g (fun _=>rfl) _ _ k2⟩
 ·intro i j bi bj hi hj mC ou he
  obtain ⟨B1,h1,h2⟩:=cB hi mC
  obtain ⟨B2,h3,h4⟩:=cB hj ou
  exact hF.cx.inj i j B1 B2 h1 h3 h2 h4 he
 ·intro i B hi
  rcases hinv hi with ⟨rfl,rfl⟩|⟨_,h1⟩
  ·have h:=hF.cx.box _ _ hb
   simp only [dm] at h ⊢
   obtain ⟨cc,e,g1,g2⟩:=h
   exact ⟨cc,e,g1,an.mono pR _ _ (Cx hxy cs c _ hc g2)⟩
  have h:=hF.cx.box i B h1
  cases B with
  |var cs=>
   obtain ⟨c,e,g1,g2⟩:=h
   exact ⟨c,e,g1,an.mono pR _ _ g2⟩
  |row sz es=>
   refine h.imp id ?_
   rintro ⟨c,e,g1,g2⟩
   exact ⟨c,e,g1,ay.mono hkeep _ _ (fun _=>rfl) _ _ g2⟩
  |kx sz es=>
   refine h.imp id ?_
   rintro ⟨g1,g2⟩
   exact ⟨hok _ g1,ay.mono hkeep _ _ (fun _=>rfl) _ _ g2⟩
  |it s p=>exact h
  |mp ag es=>obtain ⟨ms,clock,h1,h2,h3⟩:=h;exact ⟨ms,clock,h1,h2,bA.mono hkeep _ _ _ h3⟩
  |dead=>trivial
  |bC=>trivial
 ·intro i B hi hl
  obtain ⟨B',h1,h2⟩:=cB hi hl
  exact hF.cx.apart i B' h1 h2
 intro t;exact ak.mono pR _ _ (hF.yI t)
theorem dO (K:Nat) {a:Act}:∀(l:List (Nat×Nat×Nat)) (s:St) (β:Nat→Nat),V3 (p7 s l)→Fr G N ds β w X s a→∃β',rR K β s.bx β' (yq s l).bx∧Fr G N ds β' w X (yq s l) a
 |[],s,β,_,hF=>⟨β,rR.refl _ _ _,hF⟩
 |(b,c,sz)::r,s,β,hC,hF=>by
  unfold yq
  unfold p7 at hC
  cases hb:s.bx[b]? with
  |none=>rw [hb] at hC;exact dO K r s β hC hF
  |some B=>
  rw [hb] at hC
  cases B with
  |var cs=>
   simp only at hC ⊢
   cases hc:cs[c]? with
   |none=>rw [hc] at hC;exact dO K r s β hC hF
   |some v=>
   rw [hc] at hC
   cases v with
   |cl es=>
    cases es with
    |nil=>
     simp only at hC ⊢
     cases hz:Nat.beq sz 0 with
     |true=>
      rw [hz] at hC
      simp only [cond_true] at hC ⊢
      obtain ⟨e2,Mi⟩:=IY hF (b:=b) hb hc (y:=.d (.sl [])) (fun u hu=>by
       simp only [ak,aS] at hu ⊢
       obtain ⟨base,h1,h2⟩:=hu
       exact ⟨base,_,h1,Nat.le_refl _,h2⟩) K
      obtain ⟨β2,e3,Sb⟩:=dO K r _ β hC Mi
      exact ⟨β2,e2.trans e3,Sb⟩
     |false=>
     rw [hz] at hC
     simp only [cond_false] at hC ⊢
     obtain ⟨β1,e1,EV,DC⟩:=Gh (sz:=sz) K hF
     have vD:(s.bx++[aB.row sz []])[b]?=some (.var cs):=eG hb
     obtain ⟨e2,Mi⟩:=IY (s:=⟨s.sl,s.bx++[.row sz []]⟩) EV (b:=b) vD hc (y:=.ow s.bx.length sz 0) (fun u hu=>TV DC hu) K
     obtain ⟨β2,e3,Sb⟩:=dO K r _ β1 hC Mi
     exact ⟨β2,(e1.trans e2).trans e3,Sb⟩
    |cons=>exact dO K r s β hC hF
   |ow k z n=>
    simp only at hC ⊢
    cases hz:Nat.beq sz 0 with
    |false=>rw [hz] at hC;simp only [cond_false] at hC ⊢;exact dO K r s β hC hF
    |true=>
    rw [hz] at hC
    simp only [cond_true] at hC ⊢
    cases hk:s.bx[k]? with
    |none=>rw [hk] at hC;exact dO K r s β hC hF
    |some B=>
    rw [hk] at hC
    cases B with
    |row y es=>
     simp only at hC ⊢
     cases hy:(Nat.beq y z&&!Nat.beq b k) with
     |false=>rw [hy] at hC;simp only [cond_false] at hC ⊢;exact dO K r s β hC hF
     |true=>
      rw [hy] at hC
      simp only [cond_true,V3] at hC ⊢
      obtain ⟨⟨hn⟩,hC⟩:=hC
      simp only [Bool.and_eq_true,Bool.not_eq_true'] at hy
      obtain ⟨hy1,Ws⟩:=hy
      have hbk:b≠k:=fun e=>by subst e;rw [hb] at hk;cases hk
      have hfz:∀bx:List aB,(bx[k]?=some (.row y es)∨bx[k]?=some (.kx y es))→fz bx (.ow k z n)=some (.d (.sl es)):=by
       intro bx h
       subst hn
       have hl:Nat.beq es.length es.length=true:=Nat.beq_refl _
       rcases h with h|h<;>simp [fz,AV.qP,h,hy1,hl]
      have Il:(AV.ow k z n).cu s.bx=s.bx.set k (.kx y es):=by simp [AV.cu,hk]
      obtain ⟨cc,ee,g1,g2⟩:=hF.cx.box _ _ hb
      obtain ⟨u0,_,Wp⟩:=an.get c _ g2 hc
      obtain ⟨e1,RA,_⟩:=ul hF.cx (hfz s.bx (.inl hk)) Wp
      rw [Il] at e1 RA
      have EV:Fr G N ds β w X ⟨s.sl,s.bx.set k (.kx y es)⟩ a:=⟨RA,hF.defers,hF.size,fun t=>ak.mono (e1.eS X) _ _ (hF.yI t)⟩
      have hlk:k<s.bx.length:=(List.getElem?_eq_some_iff.1 hk).1
      have vC:(s.bx.set k (aB.kx y es))[k]?=some (.kx y es):=by simp [hlk]
      have vD:(s.bx.set k (aB.kx y es))[b]?=some (.var cs):=by rw [List.getElem?_set_ne (fun e=>hbk e.symm)];exact hb
      have Za:(AV.ow k z n).cu (s.bx.set k (.kx y es))=s.bx.set k (.kx y es):=by simp [AV.cu,vC]
      have eK:rR K β s.bx β (s.bx.set k (.kx y es)):=⟨fun i _ hi=>(e1.born i hi),fun i B hi hl=>by
       by_cases hik:i=k
       ·subst hik
        exact ⟨i,_,hk,by rw [vC] at hi;cases hi;cases es<;>simp_all [aB.live],rfl⟩
       rw [List.getElem?_set_ne (fun e=>hik e.symm)] at hi
       exact ⟨i,B,hi,hl,rfl⟩⟩
      obtain ⟨e2,Mi⟩:=IY (s:=⟨s.sl,s.bx.set k (.kx y es)⟩) EV (b:=b) vD hc (y:=.d (.sl es)) (fun u hu=>by
       have:=(ul RA (hfz _ (.inr vC)) hu).2.2
       rw [Za] at this
       exact this) K
      obtain ⟨β2,e3,Sb⟩:=dO K r _ β hC Mi
      exact ⟨β2,(eK.trans e2).trans e3,Sb⟩
    |_=>exact dO K r s β hC hF
   |_=>exact dO K r s β hC hF
  |_=>exact dO K r s β hC hF
theorem xF {K:Nat} {nf:Nf} {s s':St} {a:Act} (hC:V3 (p7 (uI s nf.os) nf.ob)) (h:xE K nf s=some s') (hF:Fr G N ds β w X s a):∃β',rR K β s.bx β' s'.bx∧Fr G N ds β' w X s' a:=by
 unfold xE at h
 obtain ⟨β1,e1,EV⟩:=oF K nf.os s β hF
 obtain ⟨β2,e2,Mi⟩:=dO K nf.ob _ β1 hC EV
 obtain ⟨β3,e3,Sb⟩:=Gg h Mi
 exact ⟨β3,(e1.trans e2).trans e3,Sb⟩
end
structure LoopIn (o:Option St) (P:St→Prop):Prop where
 ok:match o with
  |some s=>P s
  |none=>False
def p8:Option Prop→Prop→Prop
 |none,X=>X
 |some c,X=>c∧X
theorem p8.ok {o:Option Prop} {X:Prop} (h:p8 o X):V3 o∧X:=by
 cases o with
 |none=>exact ⟨trv,h⟩
 |some c=>exact h
theorem p8.mk {o:Option Prop} {X:Prop} (h:V3 o) (hx:X):p8 o X:=by
 cases o with
 |none=>exact hx
 |some c=>exact ⟨h,hx⟩
structure TW (K:Nat) (A:(Ex→St→Prop)→St→Prop) (Q:Ex→St→Prop) (s:St):Prop where
 ok:∃(nf:Nf) (I:Nat→St→Prop) (n:Nat),p8 (p7 (uI s nf.os) nf.ob) (LoopIn (xE K nf s) (I n))∧∀n s1,I n s1→A (fun e s2=>tO (fun s2=>p8 (p7 (uI s2 nf.os) nf.ob) (LoopIn (xE K nf s2) (fun s3=>∃m,m<n∧I m s3))) Q e s2) s1
mutual
def AV.BN (b:Nat) (x:D):AV→AV
 |.Bx c=>bif Nat.beq c b then .d x else .Bx c
 |.agg cs=>.agg (AV.Gi b x cs)
 |.dX cs=>.dX (AV.Gi b x cs)
 |.fn f cs=>.fn f (AV.Gi b x cs)
 |.rN t y=>.rN t (AV.BN b x y)
 |.cond p y=>.cond p (AV.BN b x y)
 |v=>v
def AV.Gi (b:Nat) (x:D):List AV→List AV
 |[]=>[]
 |y::ys=>AV.BN b x y::AV.Gi b x ys
end
def aB.BN (b:Nat) (x:D):aB→aB
 |.var cs=>.var (AV.Gi b x cs)
 |B=>B
def vX (b:Nat) (x:D):List (Nat×AV)→List (Nat×AV)
 |[]=>[]
 |(i,v)::r=>(i,AV.BN b x v)::vX b x r
def vY (b:Nat) (x:D):List aB→Nat→List aB
 |[],_=>[]
 |B::r,i=>(bif Nat.beq i b then .dead else aB.BN b x B)::vY b x r (i+1)
def jz (b:Nat) (x:D) (s:St):St:=⟨vX b x s.sl,vY b x s.bx 0⟩
def O4:List aB→Bool
 |[]=>false
 |.mp _ _::_=>true
 |_::r=>O4 r
structure WL (s:St) (A:St→Prop):Prop where
 ok:A s∨∃b ag es,s.bx[b]?=some (.mp ag es)∧A (jz b (.mp ag es) s)
section
variable {P:Program} {T:Nat→Option TI} {G:Nat→Option (List D)} {N:Nat} {ds:List Deferred} {β:Nat→Nat} {w:World} {X:Nat→Prop} {s:St}
theorem oG (b:Nat) (x:D):∀(l:List aB) (k i:Nat),(vY b x l k)[i]?=(l[i]?).map fun B=>bif Nat.beq (k+i) b then .dead else aB.BN b x B
 |[],_,_=>by simp [vY]
 |B::r,k,0=>by simp [vY]
 |B::r,k,i+1=>by simp only [vY,List.getElem?_cons_succ];rw [oG b x r (k+1) i,show k+1+i=k+(i+1) by omega]
theorem Gj (b:Nat) (x:D) (B:aB):(aB.BN b x B).live=B.live∧(aB.BN b x B).born=B.born:=by cases B<;>simp [aB.BN,aB.live,aB.born]
theorem Gk (b:Nat) (x:D) (t:Nat):∀sl:List (Nat×AV),gG t (vX b x sl)=AV.BN b x (gG t sl)
 |[]=>by simp [vX,gG,AV.BN]
 |(u,v)::r=>by
  simp only [vX,gG]
  cases Nat.beq t u with
  |true=>rfl
  |false=>simpa using Gk b x t r
mutual
theorem yN {bx aZ:List aB} {ok ok':Nat→Prop} {b:Nat} {x:D} (hl:rU β bx w ok β aZ w ok') (hb:∀v,v=.map (some (β b))→aS w ok' x v):∀(y:AV) (v:Value),ak β bx w ok y v→ak β aZ w ok' (AV.BN b x y) v
 |.Bx c,v,h=>by
  unfold AV.BN
  cases hc:Nat.beq c b with
  |true=>
   obtain rfl:=Nat.eq_of_beq_eq_true hc
   simp only [cond_true,ak] at h ⊢
   exact hb v h.1
  |false=>simpa using ak.mono hl _ _ h
 |.agg cs,v,h=>by simp only [AV.BN,ak] at h ⊢;obtain ⟨vs,h1,h2⟩:=h;exact ⟨vs,h1,p9 hl hb cs vs h2⟩
 |.dX cs,v,h=>by simp only [AV.BN,ak] at h ⊢;obtain ⟨vs,h1,h2⟩:=h;exact ⟨vs,h1,p9 hl hb cs vs h2⟩
 |.fn f cs,v,h=>by simp only [AV.BN,ak] at h ⊢;obtain ⟨vs,h1,h2⟩:=h;exact ⟨vs,h1,p9 hl hb cs vs h2⟩
 |.rN t y,v,h=>by simp only [AV.BN,ak] at h ⊢;obtain ⟨u,h1,h2⟩:=h;exact ⟨u,h1,yN hl hb y u h2⟩
 |.cond p y,v,h=>by simp only [AV.BN,ak] at h ⊢;exact ⟨fun hp=>yN hl hb y v (h.1 hp),h.2⟩
 |.any,v,h=>ak.mono hl _ _ h
 |.d _,v,h=>ak.mono hl _ _ h
 |.k _,v,h=>ak.mono hl _ _ h
 |.ptr _ _,v,h=>ak.mono hl _ _ h
 |.rp _ _ _ _,v,h=>ak.mono hl _ _ h
 |.ep _,v,h=>ak.mono hl _ _ h
 |.ow _ _ _,v,h=>ak.mono hl _ _ h
 |.cl _,v,h=>ak.mono hl _ _ h
 |.vw _ _ _ _ _ _,v,h=>ak.mono hl _ _ h
theorem p9 {bx aZ:List aB} {ok ok':Nat→Prop} {b:Nat} {x:D} (hl:rU β bx w ok β aZ w ok') (hb:∀v,v=.map (some (β b))→aS w ok' x v):∀(ys:List AV) (vs:List Value),an β bx w ok ys vs→an β aZ w ok' (AV.Gi b x ys) vs
 |[],vs,h=>by simpa [AV.Gi,an] using h
 |y::ys,vs,h=>by
  simp only [AV.Gi,an] at h ⊢
  obtain ⟨u,us,h1,h2,h3⟩:=h
  exact ⟨u,us,h1,yN hl hb y u h2,p9 hl hb ys us h3⟩
end
theorem Sc {a:Act} (hF:Fr G N ds β w X s a) {b:Nat} {ag:Bool} {es:List (List D)} (hb:s.bx[b]?=some (.mp ag es)):
 Ext β s.bx w β (jz b (.mp ag es) s).bx w∧Fr G N ds β w X (jz b (.mp ag es) s) a:=by
 have vR:∀{i:Nat} {B:aB},(jz b (.mp ag es) s).bx[i]?=some B→(i=b∧B=.dead)∨(i≠b∧∃B',s.bx[i]?=some B'∧B=aB.BN b (.mp ag es) B'):=by
  intro i B h
  simp only [jz,oG,Nat.zero_add,Option.map_eq_some_iff] at h
  obtain ⟨B',h1,h2⟩:=h
  cases hi:Nat.beq i b with
  |true=>simp only [hi,cond_true] at h2;exact .inl ⟨Nat.eq_of_beq_eq_true hi,h2.symm⟩
  |false=>simp only [hi,cond_false] at h2;exact .inr ⟨Nat.ne_of_beq_eq_false hi,B',h1,h2.symm⟩
 have cB:∀{i:Nat} {B:aB},(jz b (.mp ag es) s).bx[i]?=some B→B.live=true→i≠b∧∃B',s.bx[i]?=some B'∧B'.live=true:=by
  intro i B h hl
  rcases vR h with ⟨_,rfl⟩|⟨h1,B',h2,rfl⟩
  ·cases hl
  exact ⟨h1,B',h2,(Gj _ _ _).1▸hl⟩
 have dQ:∀i,bX s.bx i→bX (jz b (.mp ag es) s).bx i:=by
  rintro i ⟨B,h1,h2⟩
  cases hi:Nat.beq i b with
  |true=>exact ⟨.dead,by simp [jz,oG,h1,hi],rfl⟩
  |false=>exact ⟨aB.BN b (.mp ag es) B,by simp [jz,oG,h1,hi],(Gj _ _ _).2.trans h2⟩
 have hok:∀blk,bz β s.bx w X blk→bz β (jz b (.mp ag es) s).bx w X blk:=by
  rintro blk ⟨k1,k2,k3⟩
  refine ⟨k1,k2,fun i B hi hl=>?_⟩
  obtain ⟨_,B',h1,h2⟩:=cB hi hl
  exact k3 i B' h1 h2
 have hkeep:iW w w (bz β s.bx w X) (bz β (jz b (.mp ag es) s).bx w X):=fun blk hb=>⟨hok blk hb,rfl⟩
 have pR:rU β s.bx w (bz β s.bx w X) β (jz b (.mp ag es) s).bx w (bz β (jz b (.mp ag es) s).bx w X):=⟨hkeep,fun i hi=>⟨rfl,dQ i hi⟩,fun _ c _ _ h=>⟨c,h,rfl⟩⟩
 have Fj:=hF.cx.box b _ hb
 have hmp:∀v,v=.map (some (β b))→aS w (bz β (jz b (.mp ag es) s).bx w X) (.mp ag es) v:=by
  rintro v rfl
  obtain ⟨ms,clock,h1,h2,h3⟩:=Fj
  simp only [aS]
  refine ⟨β b,ms,clock,rfl,⟨eZ h1,hF.cx.apart b _ hb rfl,?_⟩,h1,h2,bA.mono hkeep _ _ _ h3⟩
  intro i B hi hl he
  obtain ⟨g1,B',g2,g3⟩:=cB hi hl
  exact g1 (hF.cx.inj i b B' _ g2 hb g3 rfl he)
 refine ⟨⟨rfl,rfl,rfl,Nat.le_refl _,fun _ _ _=>rfl,fun _ c _ _ h=>⟨c,h,rfl⟩,fun i hi=>⟨rfl,dQ i hi⟩,?_⟩,⟨⟨hF.cx.xs,?_,?_,?_,?_⟩,hF.defers,hF.size,?_⟩⟩
 ·intro i B hi hl
  obtain ⟨_,B',g2,g3⟩:=cB hi hl
  exact .inr ⟨i,B',g2,g3,rfl⟩
 ·intro g ds hg
  obtain ⟨k1,k2⟩:=hF.cx.ym g ds hg
  exact ⟨hok g k1,bp.mono hkeep g (fun _=>rfl) _ _ k2⟩
 ·intro i j bi bj hi hj mC ou he
  obtain ⟨_,Bi,g2,g3⟩:=cB hi mC
  obtain ⟨_,Bj,g4,g5⟩:=cB hj ou
  exact hF.cx.inj i j Bi Bj g2 g4 g3 g5 he
 ·intro i B hi
  rcases vR hi with ⟨_,rfl⟩|⟨_,B',h2,rfl⟩
  ·trivial
  have h:=hF.cx.box i B' h2
  cases B' with
  |var cs=>
   obtain ⟨c,e,g1,g2⟩:=h
   exact ⟨c,e,g1,p9 pR hmp _ _ g2⟩
  |row sz es=>
   refine h.imp id ?_
   rintro ⟨c,e,g1,g2⟩
   exact ⟨c,e,g1,ay.mono hkeep _ _ (fun _=>rfl) _ _ g2⟩
  |kx sz es=>
   refine h.imp id ?_
   rintro ⟨g1,g2⟩
   exact ⟨hok _ g1,ay.mono hkeep _ _ (fun _=>rfl) _ _ g2⟩
  |it s p=>exact h
  |mp ag es=>obtain ⟨ms,clock,h1,h2,h3⟩:=h;exact ⟨ms,clock,h1,h2,bA.mono hkeep _ _ _ h3⟩
  |dead=>trivial
  |bC=>trivial
 ·intro i B hi hl
  obtain ⟨_,B',g2,g3⟩:=cB hi hl
  exact hF.cx.apart i B' g2 g3
 intro t
 show ak β _ w _ (gG t (vX b (.mp ag es) s.sl)) _
 rw [Gk]
 exact yN pR hmp _ _ (hF.yI t)
end
section
variable (t:Th) (FC:Nat→List AV→List aB→jN→List aB→Prop) (T:Nat→Option TI) (G:Nat→Option (List D)) (N K:Nat)
def yu:Code→(Ex→St→Prop)→St→Prop
 |.skip,Q,s=>Q .normal s
 |.region _ ops draw,Q,s=>bif draw then (bif O4 s.bx then WL s (fun s=>K2 t FC T G N ops.toList Q s) else K2 t FC T G N ops.toList Q s) else O0 t FC T G N ops.toList ops.toList Q s
 |.seq a b,Q,s=>yu a (fun e s1=>tO (fun s1=>yu b Q s1) Q e s1) s
 |.cond c a b,Q,s=>(cm G s.sl c).ok∧vE (cm G s.sl c).aX (fun _=>yu a Q s) (fun _=>yu b Q s)
 |.block id c,Q,s=>yu c (fun e s1=>match e with|.exit j=>bif Nat.beq j id then Q .normal s1 else Q (.exit j) s1|e=>Q e s1) s
 |.loop c,Q,s=>TW K (fun Q1 s1=>yu c Q1 s1) Q s
 |.scope c,Q,s=>yu c Q s
 |.exit id,Q,s=>Q (.exit id) s
 |.label _,Q,s=>Q .normal s
 |.ret,Q,s=>Q .ret s
 |_,_,_=>False
structure Gl (n:Nat) (c:Prop) (v:AV) (bx:List aB) (fz:Option (Prop×AV)) (res:jN) (aZ:List aB):Prop where
 ok:c∧((res=.ret v∧aZ=bx)∨
  (∃ks d u,fz=some (d,u)∧d∧u.within n=true∧aZ=(kill ks (tQ bx v)).take n∧cw n aZ=true∧res=.ret u)∨
  (∃k sz m es,v=.ow k sz m∧bx[k]?=some (.row sz es)∧n≤k∧n≤bx.length∧cw n (bx.take n)=true∧res=.ret (.ow n sz m)∧aZ=bx.take n++[.row sz es])∨
  (∃sz,v=.cl []∧n≤bx.length∧cw n (bx.take n)=true∧res=.ret (.ow n sz 0)∧aZ=bx.take n++[.row sz []]))
def xG (results:List ResultVar) (n:Nat) (res:jN) (aZ:List aB):Ex→St→Prop
 |.exit _,_=>False
 |.panic v,s=>TA v s.bx res aZ
 |_,s=>match BG T s.sl s.bx results with
  |some (c,vs)=>Gl n c (B9 vs) s.bx (OW t s.bx (B9 vs)) res aZ
  |none=>False
end
section
variable {P:Program} {T:Nat→Option TI} {G:Nat→Option (List D)} {N K:Nat} {ds:List Deferred} {X:Nat→Prop} {β0:Nat→Nat} {aV:List aB} {w0:World}
theorem O5 {β:Nat→Nat} {w:World} {s s1:St} {a:Act} {i:Nat} {c:Prop} (hF:Fr G N ds β w X s a) (h:DP t0 i s=some (c,s1)) (hc:c):Ext β s.bx w β s1.bx w∧Fr G N ds β w X s1 a:=by
 unfold DP at h
 split at h
 ·rename_i c' y hy
  simp only [osI,Prod.mk.injEq] at h
  obtain ⟨rfl,rfl⟩:=h
  obtain ⟨g1,g2,g3⟩:=ul hF.cx (IU hy hc) (hF.yI i)
  refine ⟨g1,g2,hF.defers,hF.size,fun t=>?_⟩
  simp only [oy]
  by_cases h:t=i
  ·subst h;rw [if_pos rfl];exact g3
  rw [if_neg h];exact ak.mono (g1.eS X) _ _ (hF.yI t)
 cases h
theorem qb (hD:pQ P T G) {id:Nat} {ops:Array Oper} {Q:Ex→St→Prop} {β:Nat→Nat} {w:World} {s:St} {a:Act} (ex:Ext β0 aV w0 β s.bx w) (hF:Fr G N ds β w X s a)
 (h:K2 t0 (bH P G) T G N ops.toList Q s):(Code.region id ops true).wp P (gD G N ds X β0 aV w0 Q) a w:=by
 rcases Sa h with h|⟨i,c,s1,h1,hc,h⟩
 ·exact hD _ _ _ _ _ _ id ops Q β w s a ex hF h
 obtain ⟨e1,EV⟩:=O5 hF h1 hc
 exact hD _ _ _ _ _ _ id ops Q β w s1 a (ex.trans e1) EV h
theorem gj (hT:ko P T) (hD:pQ P T G) (hK:aV.length≤K):∀(c:Code) (Q:Ex→St→Prop) (β:Nat→Nat) (w:World) (s:St) (a:Act),Ext β0 aV w0 β s.bx w→Fr G N ds β w X s a→
 yu t0 (bH P G) T G N K c Q s→c.wp P (gD G N ds X β0 aV w0 Q) a w
 |.skip,Q,β,w,s,a,ex,hF,h=>wp_skip ⟨β,s,ex,hF,h⟩
 |.region id ops draw,Q,β,w,s,a,ex,hF,h=>by
  cases draw with
  |true=>
   simp only [yu,cond_true] at h
   cases hm:O4 s.bx with
   |false=>simp only [hm,cond_false] at h;exact qb hD ex hF h
   |true=>
    simp only [hm,cond_true] at h
    rcases h with ⟨h|⟨b,ag,es,hb,h⟩⟩
    ·exact qb hD ex hF h
    obtain ⟨e1,EV⟩:=Sc hF hb
    exact qb hD (ex.trans e1) EV h
  |false=>exact wp_region_list (l6 hT ops.toList β w s a ex hF (IW _ _ h))
 |.seq x y,Q,β,w,s,a,ex,hF,h=>by
  refine wp_seq (wp_mono (gj hT hD hK x _ β w s a ex hF h) ?_)
  intro e a' w' hl
  cases e<;>simp only [gD,tO] at hl
  ·obtain ⟨β',s',h1,h2,h3⟩:=hl
   exact gj hT hD hK y Q β' w' s' a' h1 h2 h3
  ·exact hl
  ·exact hl
  exact hl
 |.cond c x y,Q,β,w,s,a,ex,hF,h=>by
  obtain ⟨h1,⟨h2⟩⟩:=h
  split at h2
  ·rename_i p hc
   have hv:=j7 (hF.eval c) h1
   rw [hc] at hv
   simp only [ak,aS] at hv
   exact wp_cond_split hv (fun hp=>gj hT hD hK x Q β w s a ex hF (h2.1 hp)) (fun hp=>gj hT hD hK y Q β w s a ex hF (h2.2 hp))
  exact h2.elim
 |.block id c,Q,β,w,s,a,ex,hF,h=>by
  refine wp_block (wp_mono (gj hT hD hK c _ β w s a ex hF h) ?_)
  intro e a' w' hl
  cases e<;>simp only [gD,Exit.inBlock] at hl ⊢
  ·exact hl
  ·rename_i j
   by_cases hj:j=id
   ·subst hj
    simpa [gD] using hl
   have hb:Nat.beq j id=false:=VW hj
   simpa [gD,hb,hj] using hl
  ·exact hl
  exact hl
 |.loop c,Q,β,w,s,a,ex,hF,h=>by
  obtain ⟨nf,I,n,hG,UJ⟩:=h
  obtain ⟨hC0,⟨hI⟩⟩:=hG.ok
  refine wp_loop_ghost (fun n a w=>∃β s,Ext β0 aV w0 β s.bx w∧Fr G N ds β w X s a∧I n s) n ?_ ?_
  ·split at hI
   ·rename_i s' hn
    obtain ⟨β',e1,Wz⟩:=xF hC0 hn hF
    exact ⟨β',s',ex.Aj hK e1,Wz,hI⟩
   exact hI.elim
  rintro n a w ⟨β,s,ex,hF,hI⟩
  refine wp_mono (gj hT hD hK c _ β w s a ex hF (UJ n s hI)) ?_
  intro e a' w' hl
  cases e<;>simp only [gD,tO] at hl
  ·obtain ⟨β',s',h1,h2,hG⟩:=hl
   obtain ⟨hC1,⟨h3⟩⟩:=hG.ok
   split at h3
   ·rename_i s'' hn
    obtain ⟨m,h4,h5⟩:=h3
    obtain ⟨β'',e1,Wz⟩:=xF hC1 hn h2
    exact ⟨m,h4,β'',s'',h1.Aj hK e1,Wz,h5⟩
   exact h3.elim
  ·exact hl
  ·exact hl
  exact hl
 |.scope c,Q,β,w,s,a,ex,hF,h=>by
  refine wp_scope_straight (wp_mono (gj hT hD hK c Q β w s a ex hF h) ?_)
  intro e a' w' hl
  cases e<;>simp only [gD,Exit.noGoto] at hl ⊢<;>exact hl
 |.exit id,Q,β,w,s,a,ex,hF,h=>wp_exit ⟨β,s,ex,hF,h⟩
 |.label l,Q,β,w,s,a,ex,hF,h=>wp_label ⟨β,s,ex,hF,h⟩
 |.ret,Q,β,w,s,a,ex,hF,h=>wp_ret ⟨β,s,ex,hF,h⟩
theorem K6 {results:List ResultVar} {n:Nat} {res:jN} {aZ:List aB} {e:Ex} {s:St} (h:xG t0 T results n res aZ e s):KF T results n res aZ e s:=by
 unfold xG at h
 split at h
 ·exact h.elim
 ·exact h
 rename_i h1 h2
 unfold KF
 split
 ·exact absurd rfl (h1 _)
 ·exact absurd rfl (h2 _)
 split at h
 ·rename_i c vs hr
  simp only [hr]
  obtain ⟨hc,h⟩:=h
  refine ⟨hc,?_⟩
  rcases h with h|⟨ks,d,u,k1,k2,k3⟩|h|h
  ·exact .inl h
  ·exact .inr (.inl ⟨ks,u,IV k1 k2,k3⟩)
  ·exact .inr (.inr (.inl h))
  exact .inr (.inr (.inr h))
 exact h.elim
theorem yw (hT:ko P T) (hD:pQ P T G) {f N:Nat} {fn:Func} {c:Code} {args:List AV} {aV aZ:List aB} {res:jN} (hf:P.funcs[f]?=some fn) (hb:fn.body=some c)
 (hname:(fn.name== "runtime.NumGoroutine")=false) (hN:fn.ntmps=N) (hlen:Nat.ble args.length N=true)
 (h:yu t0 (bH P G) T G N aV.length c (xG t0 T fn.results.toList aV.length res aZ) ⟨pG 0 args,aV⟩):bH P G f args aV res aZ:=
 uq hT hf hb hname hN hlen fun β w X a hF=>wp_mono (gj (X:=X) (β0:=β) (aV:=aV) (w0:=w) hT hD (Nat.le_refl _) c _ β w ⟨pG 0 args,aV⟩ a (Ext.refl _ _ _) hF h)
  fun _ _ _ hl=>gD.imp (fun _ _ hq=>K6 hq) hl
end
end Dem
end
section
open Go
namespace Dem
def kT (ct:List Nat) (n:Nat) (j:Nat):Option Nat:=match ct[j]? with
 |some i=>some i
 |none=>some (n+(j-ct.length))
def rB (ct:List Nat) (n:Nat) (aV:List aB):Nat→List aB→Option (List aB)
 |_,[]=>some []
 |i,b::r=>match eA i ct 0 with
  |some j=>match aV[j]? with
   |some b0=>match aB.iN (kT ct n) b0,rB ct n aV (i+1) r with
    |some x,some xs=>some (x::xs)
    |_,_=>none
   |none=>none
  |none=>match rB ct n aV (i+1) r with
   |some xs=>some (b::xs)
   |none=>none
def uK (ct:List Nat) (n:Nat):List aB→Option (List aB)
 |[]=>some []
 |b::r=>match aB.iN (kT ct n) b,uK ct n r with
  |some x,some xs=>some (x::xs)
  |_,_=>none
def Gm (ct:List Nat) (bx aV:List aB):Option (List aB):=
 bif Nat.ble ct.length aV.length&&DQ ct 0 ct then
  match rB ct bx.length aV 0 bx,uK ct bx.length (aV.drop ct.length) with
  |some a,some b=>some (a++b)
  |_,_=>none
 else none
def jN.iN (m:Nat→Option Nat):jN→Option jN
 |.ret v=>match v.iN m with
  |some x=>some (.ret x)
  |none=>none
 |.LZ v=>match v.iN m with
  |some x=>some (.LZ x)
  |none=>none
section
variable {P:Program} {G:Nat→Option (List D)}
theorem qc {ct:List Nat} {n:Nat} {aV:List aB}:∀{bx a:List aB} {i:Nat},rB ct n aV i bx=some a→a.length=bx.length∧∀(k:Nat) (b:aB),bx[k]?=some b→
 (∃j b0 b',eA (i+k) ct 0=some j∧aV[j]?=some b0∧aB.iN (kT ct n) b0=some b'∧a[k]?=some b')∨(eA (i+k) ct 0=none∧a[k]?=some b)
 |[],a,i,h=>by simp only [rB,osI] at h;subst h;simp
 |b::r,a,i,h=>by
  simp only [rB] at h
  split at h
  ·rename_i j hj
   split at h
   ·rename_i b0 hb0
    split at h
    ·rename_i x xs h1 h2
     simp only [osI] at h;subst h
     obtain ⟨k1,k2⟩:=qc h2
     refine ⟨by simp [k1],?_⟩
     intro k b1 hk
     cases k with
     |zero=>exact .inl ⟨j,b0,x,hj,hb0,h1,rfl⟩
     |succ k=>
      simp only [List.getElem?_cons_succ] at hk ⊢
      have:=k2 k b1 hk
      rwa [show i+1+k=i+(k+1) by omega] at this
    simp at h
   simp at h
  rename_i hj
  split at h
  ·rename_i xs h2
   simp only [osI] at h;subst h
   obtain ⟨k1,k2⟩:=qc h2
   refine ⟨by simp [k1],?_⟩
   intro k b1 hk
   cases k with
   |zero=>simp only [List.getElem?_cons_zero,osI] at hk;subst hk;exact .inr ⟨hj,rfl⟩
   |succ k=>
    simp only [List.getElem?_cons_succ] at hk ⊢
    have:=k2 k b1 hk
    rwa [show i+1+k=i+(k+1) by omega] at this
  simp at h
theorem xH {ct:List Nat} {n:Nat}:∀{bx a:List aB},uK ct n bx=some a→a.length=bx.length∧∀(k:Nat) (b:aB),bx[k]?=some b→∃b',aB.iN (kT ct n) b=some b'∧a[k]?=some b'
 |[],a,h=>by simp only [uK,osI] at h;subst h;simp
 |b::r,a,h=>by
  simp only [uK] at h
  split at h
  ·rename_i x xs h1 h2
   simp only [osI] at h;subst h
   obtain ⟨k1,k2⟩:=xH h2
   refine ⟨by simp [k1],?_⟩
   intro k b1 hk
   cases k with
   |zero=>simp only [List.getElem?_cons_zero,osI] at hk;subst hk;exact ⟨x,h1,rfl⟩
   |succ k=>simp only [List.getElem?_cons_succ] at hk ⊢;exact k2 k b1 hk
  simp at h
theorem dI {f:Nat} {args o5:List AV} {bx aV uL aZ:List aB} {UK res:jN} (ct:List Nat)
 (ha:AV.yo (fun b=>eA b ct 0) args=some o5) (hb:gL (fun b=>eA b ct 0) bx ct=some aV)
 (hr:jN.iN (kT ct bx.length) UK=some res) (hb':Gm ct bx uL=some aZ) (h:bH P G f o5 aV UK uL):bH P G f args bx res aZ:=by
 intro β w vs X cx hx
 unfold Gm at hb'
 cases hlen:Nat.ble ct.length uL.length with
 |false=>simp [hlen] at hb'
 |true=>
 cases IZ:DQ ct 0 ct with
 |false=>simp [hlen,IZ] at hb'
 |true=>
 simp only [hlen,IZ,Bool.and_self,cond_true] at hb'
 split at hb'
 case h_2=>simp at hb'
 rename_i aO aN hO hN
 simp only [osI] at hb'
 subst hb'
 have hlen':ct.length≤uL.length:=Nat.le_of_ble_eq_true hlen
 obtain ⟨lO,gO⟩:=qc hO
 obtain ⟨lN,gN⟩:=xH hN
 have uJ:∀k i,ct[k]?=some i→eA i ct 0=some k:=fun k i hk=>by have:=ry IZ hk;simpa using this
 have hidx:∀b j,eA b ct 0=some j→ct[j]?=some b:=fun b j hj=>by have:=(sU hj).2;simpa using this
 have O6:∀k i,ct[k]?=some i→∃b,bx[i]?=some b:=fun k i hk=>by
  obtain ⟨b,_,h1,_⟩:=mP hb k i hk;exact ⟨b,h1⟩
 let β0:Nat→Nat:=fun j=>match ct[j]? with|some i=>β i|none=>0
 let X0:Nat→Prop:=fun blk=>X blk∨∃(i:Nat) (b:aB),bx[i]?=some b∧b.live=true∧eA i ct 0=none∧β i=blk
 have UL:∀k i,ct[k]?=some i→β0 k=β i:=fun k i hk=>by simp [β0,hk]
 have hm:∀b j,eA b ct 0=some j→β0 j=β b∧(bX bx b→bX aV j):=by
  intro b j hj
  have hs:=hidx b j hj
  refine ⟨UL j b hs,?_⟩
  rintro ⟨B,hB,dQ⟩
  obtain ⟨b1,b2,k1,k2,k3⟩:=mP hb j b hs
  rw [hB] at k1;cases k1
  exact ⟨b2,k3,(aB.gr k2).1.trans dQ⟩
 have sV:∀(i:Nat) (b:aB),aV[i]?=some b→b.live=true→∃(j:Nat) (b':aB),bx[j]?=some b'∧b'.live=true∧β j=β0 i∧ct[i]?=some j:=by
  intro i b hi hl
  obtain ⟨j,b',k1,k2,k3⟩:=jw hb i b hi
  exact ⟨j,b',k2,(aB.gr k3).2▸hl,(UL i j k1).symm,k1⟩
 have O7:∀blk,bz β bx w X blk→bz β0 aV w X0 blk:=by
  rintro blk ⟨k1,k2,k3⟩
  refine ⟨k1,?_,?_⟩
  ·rintro (hX|⟨i,b,h1,h2,_,h3⟩)
   ·exact k2 hX
   exact k3 i b h1 h2 h3
  intro i b hi hl
  obtain ⟨j,b',h3,h4,h5,_⟩:=sV i b hi hl
  rw [←h5];exact k3 j b' h3 h4
 have DR:iW w w (bz β bx w X) (bz β0 aV w X0):=fun blk hb=>⟨O7 blk hb,rfl⟩
 have hlt:∀(i:Nat) (b:aB),bx[i]?=some b→b.live=true→β i<w.heap.size:=fun i b h hl=>dm.fI (cx.box i b h) hl
 have VT:cJ G β0 aV w X0:=by
  refine ⟨?_,?_,?_,?_,?_⟩
  ·rintro blk (hX|⟨i,b,h1,h2,_,rfl⟩)
   ·exact cx.xs blk hX
   exact hlt i b h1 h2
  ·intro g ds hg
   obtain ⟨k1,k2⟩:=cx.ym g ds hg
   exact ⟨O7 g k1,bp.mono DR g (fun _=>rfl) _ _ k2⟩
  ·intro i j bi bj hi hj mC ou he
   obtain ⟨i',Y8,a1,a2,a3,a4⟩:=sV i bi hi mC
   obtain ⟨j',Y9,c1,c2,c3,c4⟩:=sV j bj hj ou
   have:i'=j':=cx.inj i' j' Y8 Y9 a1 c1 a2 c2 (a3.trans (he.trans c3.symm))
   subst this
   have e1:=uJ i i' a4
   have e2:=uJ j i' c4
   rw [e1] at e2;exact Option.some.inj e2
  ·intro i b hi
   obtain ⟨j,b',k1,k2,k3⟩:=jw hb i b hi
   have Fj:=cx.box j b' k2
   rw [UL i j k1]
   cases b' with
   |var cs=>
    simp only [aB.iN] at k3
    split at k3
    ·rename_i ys hys
     simp only [osI] at k3;subst k3
     simp only [dm] at Fj ⊢
     obtain ⟨c,e,g1,g2⟩:=Fj
     exact ⟨c,e,g1,kG hm O7 cs ys _ hys g2⟩
    simp at k3
   |row sz es=>
    simp only [aB.iN,osI] at k3;subst k3
    refine Fj.imp id ?_
    rintro ⟨c,e,g1,g2⟩
    exact ⟨c,e,g1,ay.mono DR _ _ (fun _=>rfl) _ _ g2⟩
   |kx sz es=>
    simp only [aB.iN,osI] at k3;subst k3
    refine Fj.imp id ?_
    rintro ⟨g1,g2⟩
    exact ⟨O7 _ g1,ay.mono DR _ _ (fun _=>rfl) _ _ g2⟩
   |it s p=>simp only [aB.iN,osI] at k3;subst k3;exact Fj
   |mp ag es=>simp only [aB.iN,osI] at k3;subst k3;obtain ⟨ms,clock,h1,h2,h3⟩:=Fj;exact ⟨ms,clock,h1,h2,bA.mono DR _ _ _ h3⟩
   |dead=>simp only [aB.iN,osI] at k3;subst k3;trivial
   |bC=>simp only [aB.iN,osI] at k3;subst k3;trivial
  intro i b hi hl
  obtain ⟨j,b',h3,h4,h5,h6⟩:=sV i b hi hl
  rw [←h5]
  rintro (hX|⟨i2,b2,e1,e2,e3,e4⟩)
  ·exact cx.apart j b' h3 h4 hX
  have:i2=j:=cx.inj i2 j b2 b' e1 h3 e2 h4 e4
  subst this
  rw [uJ i i2 h6] at e3;cases e3
 refine jv.mono (h β0 w vs X0 VT (kG hm O7 args o5 vs ha hx)) ?_
 rintro e w' ⟨I0,rP,Sd,hres⟩
 let β':Nat→Nat:=fun i=>match eA i ct 0 with|some j=>I0 j|none=>if i<bx.length then β i else I0 (ct.length+(i-bx.length))
 have WM:∀j i,ct[j]?=some i→i<bx.length:=fun j i hj=>by obtain ⟨b,hb⟩:=O6 j i hj;exact jg hb
 have WN:∀k,eA (bx.length+k) ct 0=none:=by
  intro k
  cases hc:eA (bx.length+k) ct 0 with
  |none=>rfl
  |some j=>have:=WM j _ (hidx _ _ hc);omega
 have WO:∀i j,eA i ct 0=some j→β' i=I0 j:=fun i j hj=>by simp [β',hj]
 have I1:∀i,i<bx.length→eA i ct 0=none→β' i=β i:=fun i hi hn=>by simp [β',hi,hn]
 have Zb:∀k,β' (bx.length+k)=I0 (ct.length+k):=fun k=>by simp [β',WN k];omega
 have O8:∀(i:Nat),i<bx.length→(aO++aN)[i]?=aO[i]?:=fun i hi=>List.getElem?_append_left (by omega)
 have TX:∀(k:Nat),(aO++aN)[bx.length+k]?=aN[k]?:=fun k=>by rw [List.getElem?_append_right (by omega),lO];congr 1;omega
 have hinv:∀(i:Nat) (b:aB),(aO++aN)[i]?=some b→(i<bx.length∧eA i ct 0=none∧bx[i]?=some b)∨
  (∃(j:Nat) (b0:aB),uL[j]?=some b0∧aB.iN (kT ct bx.length) b0=some b∧kT ct bx.length j=some i):=by
  intro i b hi
  rcases Nat.lt_or_ge i bx.length with hl|hl
  ·rw [O8 i hl] at hi
   obtain ⟨bi,wT⟩:∃bi,bx[i]?=some bi:=⟨bx[i],by simp [hl]⟩
   have:=gO i bi wT
   rw [Nat.zero_add] at this
   rcases this with ⟨j,b0,b',k1,k2,k3,k4⟩|⟨k1,k2⟩
   ·rw [hi] at k4;cases k4
    refine .inr ⟨j,b0,k2,k3,?_⟩
    simp [kT,hidx i j k1]
   rw [hi] at k2;cases k2
   exact .inl ⟨hl,k1,wT⟩
  obtain ⟨k,rfl⟩:∃k,i=bx.length+k:=⟨i-bx.length,by omega⟩
  rw [TX k] at hi
  have hk:k<aN.length:=by
   rcases Nat.lt_or_ge k aN.length with h'|h'
   ·exact h'
   simp [List.getElem?_eq_none h'] at hi
  have hkd:k<(uL.drop ct.length).length:=by omega
  obtain ⟨b',k1,k2⟩:=gN k _ (List.getElem?_eq_getElem hkd)
  rw [hi] at k2;cases k2
  refine .inr ⟨ct.length+k,(uL.drop ct.length)[k],?_,k1,?_⟩
  ·rw [←List.getElem?_drop];exact List.getElem?_eq_getElem hkd
  simp [kT]
 have Ak:∀j i,kT ct bx.length j=some i→β' i=I0 j∧(bX uL j→bX (aO++aN) i):=by
  intro j i hj
  unfold kT at hj
  split at hj
  ·rename_i i' hs
   simp only [osI] at hj;subst hj
   obtain ⟨bi,wT⟩:=O6 j i' hs
   have hil:=jg wT
   refine ⟨WO i' j (uJ j i' hs),?_⟩
   rintro ⟨b0,e1,e2⟩
   have:=gO i' bi wT
   rw [Nat.zero_add,uJ j i' hs] at this
   rcases this with ⟨j2,b02,b',c1,c2,c3,c4⟩|⟨c1,_⟩
   ·cases c1
    rw [e1] at c2;cases c2
    exact ⟨b',by rw [O8 i' hil];exact c4,(aB.gr c3).1.trans e2⟩
   cases c1
  rename_i hs
  simp only [osI] at hj;subst hj
  have hge:ct.length≤j:=by
   rcases Nat.lt_or_ge j ct.length with h'|h'
   ·simp [h'] at hs
   exact h'
  refine ⟨by rw [Zb];congr 1;omega,?_⟩
  rintro ⟨b0,e1,e2⟩
  have hd:(uL.drop ct.length)[j-ct.length]?=some b0:=by rw [List.getElem?_drop];rw [←e1];congr 1;omega
  obtain ⟨b',c1,c2⟩:=gN _ _ hd
  exact ⟨b',by rw [TX];exact c2,(aB.gr c1).1.trans e2⟩
 have O9:∀blk,bz I0 uL w' X0 blk→bz β' (aO++aN) w' X blk:=by
  rintro blk ⟨k1,k2,k3⟩
  refine ⟨k1,fun hX=>k2 (.inl hX),?_⟩
  intro i b hi hl
  rcases hinv i b hi with ⟨c1,c2,c3⟩|⟨j,b0,c1,c2,c3⟩
  ·rw [I1 i c1 c2]
   exact fun he=>k2 (.inr ⟨i,b,c3,hl,c2,he⟩)
  rw [(Ak j i c3).1]
  exact k3 j b0 c1 ((aB.gr c2).2▸hl)
 have I2:iW w' w' (bz I0 uL w' X0) (bz β' (aO++aN) w' X):=fun blk hb=>⟨O9 blk hb,rfl⟩
 have ex:Ext β bx w β' (aO++aN) w':=by
  refine ⟨rP.os,rP.tape,rP.output,rP.size,?_,rP.shape,?_,?_⟩
  ·intro k hk hl
   refine rP.block k hk ?_
   intro i b hi hlv
   obtain ⟨j,b',h3,h4,h5,_⟩:=sV i b hi hlv
   rw [←h5];exact hl j b' h3 h4
  ·intro i hi
   obtain ⟨b,vD,tK⟩:=hi
   have hil:=jg vD
   cases hc:eA i ct 0 with
   |some j=>
    obtain ⟨k1,k2⟩:=hm i j hc
    obtain ⟨c1,c2⟩:=rP.born j (k2 ⟨b,vD,tK⟩)
    have hbm:kT ct bx.length j=some i:=by simp [kT,hidx i j hc]
    exact ⟨by rw [WO i j hc,c1,k1],(Ak j i hbm).2 c2⟩
   |none=>
    refine ⟨I1 i hil hc,b,?_,tK⟩
    rw [O8 i hil]
    have:=gO i b vD
    rw [Nat.zero_add,hc] at this
    rcases this with ⟨_,_,_,c1,_⟩|⟨_,c2⟩
    ·cases c1
    exact c2
  intro i b hi hl
  rcases hinv i b hi with ⟨c1,c2,c3⟩|⟨j,b0,c1,c2,c3⟩
  ·exact .inr ⟨i,b,c3,hl,(I1 i c1 c2).symm⟩
  rw [(Ak j i c3).1]
  rcases rP.live j b0 c1 ((aB.gr c2).2▸hl) with h1|⟨j',b',h1,h2,h3⟩
  ·exact .inl h1
  obtain ⟨j2,b2,e1,e2,e3,_⟩:=sV j' b' h1 h2
  exact .inr ⟨j2,b2,e1,e2,e3.trans h3⟩
 refine ⟨β',ex,cx.step ex ?_ ?_,?_⟩
 ·intro i b hi
  rcases hinv i b hi with ⟨c1,c2,c3⟩|⟨j,b0,c1,c2,c3⟩
  ·refine .inl ⟨c3,fun hl=>rP.block _ (hlt i b c3 hl) ?_⟩
   intro k b' hk hlk he
   obtain ⟨j,b2,h3,h4,h5,h6⟩:=sV k b' hk hlk
   have:j=i:=cx.inj j i b2 b h3 c3 h4 hl (h5.trans he)
   subst this
   rw [uJ k j h6] at c2;cases c2
  refine .inr ?_
  have Fj:=Sd.box j b0 c1
  rw [(Ak j i c3).1]
  cases b0 with
  |var cs=>
   simp only [aB.iN] at c2
   split at c2
   ·rename_i ys hys
    simp only [osI] at c2;subst c2
    simp only [dm] at Fj ⊢
    obtain ⟨c,e,g1,g2⟩:=Fj
    exact ⟨c,e,g1,kG Ak O9 cs ys _ hys g2⟩
   simp at c2
  |row sz es=>
   simp only [aB.iN,osI] at c2;subst c2
   refine Fj.imp id ?_
   rintro ⟨c,e,g1,g2⟩
   exact ⟨c,e,g1,ay.mono I2 _ _ (fun _=>rfl) _ _ g2⟩
  |kx sz es=>
   simp only [aB.iN,osI] at c2;subst c2
   refine Fj.imp id ?_
   rintro ⟨g1,g2⟩
   exact ⟨O9 _ g1,ay.mono I2 _ _ (fun _=>rfl) _ _ g2⟩
  |it s p=>simp only [aB.iN,osI] at c2;subst c2;exact Fj
  |mp ag es=>simp only [aB.iN,osI] at c2;subst c2;obtain ⟨ms,clock,h1,h2,h3⟩:=Fj;exact ⟨ms,clock,h1,h2,bA.mono I2 _ _ _ h3⟩
  |dead=>simp only [aB.iN,osI] at c2;subst c2;trivial
  |bC=>simp only [aB.iN,osI] at c2;subst c2;trivial
 ·intro i j bi bj hi hj mC ou he
  rcases hinv i bi hi with ⟨c1,c2,c3⟩|⟨i',b0,c1,c2,c3⟩<;>rcases hinv j bj hj with ⟨d1,d2,d3⟩|⟨j',b0',d1,d2,d3⟩
  ·rw [I1 i c1 c2,I1 j d1 d2] at he
   exact cx.inj i j bi bj c3 d3 mC ou he
  ·rw [I1 i c1 c2,(Ak j' j d3).1] at he
   exact absurd (.inr ⟨i,bi,c3,mC,c2,he⟩) (Sd.apart j' b0' d1 ((aB.gr d2).2▸ou))
  ·rw [(Ak i' i c3).1,I1 j d1 d2] at he
   exact absurd (.inr ⟨j,bj,d3,ou,d2,he.symm⟩) (Sd.apart i' b0 c1 ((aB.gr c2).2▸mC))
  rw [(Ak i' i c3).1,(Ak j' j d3).1] at he
  have:=Sd.inj i' j' b0 b0' c1 d1 ((aB.gr c2).2▸mC) ((aB.gr d2).2▸ou) he
  subst this
  rw [c3] at d3;exact Option.some.inj d3
 cases UK with
 |ret v0=>
  simp only [jN.iN] at hr
  split at hr
  ·rename_i v hv
   simp only [osI] at hr;subst hr
   cases e with
   |returned u=>exact rA Ak O9 v0 v u hv hres
   |panicked ch=>exact hres.elim
   |outgrown=>exact hres.elim
  simp at hr
 |LZ v0=>
  simp only [jN.iN] at hr
  split at hr
  ·rename_i v hv
   simp only [osI] at hr;subst hr
   cases e with
   |returned u=>exact hres.elim
   |panicked ch=>
    obtain ⟨u,k1,k2⟩:=hres
    exact ⟨u,k1,rA Ak O9 v0 v u hv k2⟩
   |outgrown=>exact hres.elim
  simp at hr
end
end Dem
end
