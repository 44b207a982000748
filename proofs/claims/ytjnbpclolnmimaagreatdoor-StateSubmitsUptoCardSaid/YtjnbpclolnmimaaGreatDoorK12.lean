/- Parts of a proof, joined. -/
import Derived.Test.YtjnbpclolnmimaaGreatDoorK11
set_option linter.all false
set_option maxRecDepth 100000
set_option maxHeartbeats 4000000
section
open Go
namespace Dem
mutual
def AV.hY (m:Nat→Option Nat):AV→Option AV
 |.any=>some .any
 |.d x=>some (.d x)
 |.k c=>some (.k c)
 |.agg cs=>match AV.vn m cs with
  |some ys=>some (.agg ys)
  |none=>none
 |.dA cs=>match AV.vn m cs with
  |some ys=>some (.dA ys)
  |none=>none
 |.ptr b off=>match m b with
  |some j=>some (.ptr j off)
  |none=>none
 |.rp b sz i q=>match m b with
  |some j=>some (.rp j sz i q)
  |none=>none
 |.ep ds=>some (.ep ds)
 |.ow b sz n=>match m b with
  |some j=>some (.ow j sz n)
  |none=>none
 |.vw b sz off n c ex=>match m b with
  |some j=>some (.vw j sz off n c ex)
  |none=>none
 |.cl es=>some (.cl es)
 |.zB b=>match m b with
  |some j=>some (.zB j)
  |none=>none
 |.fn f cs=>match AV.vn m cs with
  |some ys=>some (.fn f ys)
  |none=>none
 |.sG t x=>match AV.hY m x with
  |some y=>some (.sG t y)
  |none=>none
 |.cond p x=>match AV.hY m x with
  |some y=>some (.cond p y)
  |none=>none
def AV.vn (m:Nat→Option Nat):List AV→Option (List AV)
 |[]=>some []
 |x::xs=>match AV.hY m x,AV.vn m xs with
  |some y,some ys=>some (y::ys)
  |_,_=>none
end
mutual
def AV.refs:AV→List Nat
 |.ptr b _=>[b]
 |.rp b _ _ _=>[b]
 |.ow b _ _=>[b]
 |.vw b _ _ _ _ _=>[b]
 |.zB b=>[b]
 |.agg cs=>AV.AM cs
 |.dA cs=>AV.AM cs
 |.fn _ cs=>AV.AM cs
 |.sG _ x=>AV.refs x
 |.cond _ x=>AV.refs x
 |_=>[]
def AV.AM:List AV→List Nat
 |[]=>[]
 |x::xs=>AV.refs x++AV.AM xs
end
def UH (b:Nat):List Nat→Bool
 |[]=>false
 |x::r=>bif Nat.beq b x then true else UH b r
def dx (b:Nat):List Nat→Nat→Option Nat
 |[],_=>none
 |x::r,i=>bif Nat.beq b x then some i else dx b r (i+1)
def reach (bx:List ar):Nat→List Nat→List Nat→List Nat
 |0,_,acc=>acc
 |_+1,[],acc=>acc
 |n+1,b::todo,acc=>bif UH b acc then reach bx n todo acc else
  reach bx n (todo++(match bx[b]? with|some (.var cs)=>AV.AM cs|_=>[])) (acc++[b])
def ar.hY (m:Nat→Option Nat):ar→Option ar
 |.var cs=>match AV.vn m cs with
  |some ys=>some (.var ys)
  |none=>none
 |b=>some b
def fu (m:Nat→Option Nat) (bx:List ar):List Nat→Option (List ar)
 |[]=>some []
 |i::r=>match bx[i]? with
  |some b=>match ar.hY m b,fu m bx r with
   |some b',some bs=>some (b'::bs)
   |_,_=>none
  |none=>none
def GQ (m:Nat→Option Nat) (sl:List (Nat×AV)):List Nat→Option (List (Nat×AV))
 |[]=>some []
 |i::r=>match AV.hY m (fP i sl),GQ m sl r with
  |some y,some ys=>some ((i,y)::ys)
  |_,_=>none
def Ew (bX:List Nat):Nat→List Nat→Bool
 |_,[]=>true
 |i,b::r=>(match dx b bX 0 with|some j=>Nat.beq i j|none=>false)&&Ew bX (i+1) r
def upTo:Nat→List Nat
 |0=>[]
 |n+1=>upTo n++[n]
def PC (K:Nat) (ks:List Nat) (s:St):Option St:=
 match reach s.bx 99 (upTo K++AV.AM (ks.map fun i=>fP i s.sl)) [] with
 |bX=>bif Ew bX 0 bX&&Ew bX 0 (upTo K) then
  match fu (fun b=>dx b bX 0) s.bx bX,GQ (fun b=>dx b bX 0) s.sl ks with
  |some bx,some sl=>some ⟨sl,bx⟩
  |_,_=>none
  else none
structure Nf where
 ks:List Nat
 os:List (Nat×Nat):=[]
 ob:List (Nat×Nat×Nat):=[]
def MS (s:St):List (Nat×Nat)→St
 |[]=>s
 |(i,sz)::r=>match fP i s.sl with
  |.cl []=>MS ⟨put i (.ow s.bx.length sz 0) s.sl,s.bx++[.row sz []]⟩ r
  |_=>MS s r
def GR (s:St):List (Nat×Nat×Nat)→St
 |[]=>s
 |(b,c,sz)::r=>match s.bx[b]? with
  |some (.var cs)=>match cs[c]? with
   |some (.cl [])=>bif Nat.beq sz 0 then GR ⟨s.sl,s.bx.set b (.var (cs.set c (.d (.sl []))))⟩ r
    else GR ⟨s.sl,(s.bx++[ar.row sz []]).set b (.var (cs.set c (.ow s.bx.length sz 0)))⟩ r
   |_=>GR s r
  |_=>GR s r
def yj (K:Nat) (nf:Nf) (s:St):Option St:=PC K nf.ks (GR (MS s nf.os) nf.ob)
section
variable {G:Nat→Option (List D)} {N:Nat} {ds:List Deferred} {β β':Nat→Nat} {bx aF:List ar} {w:World} {X:Nat→Prop}
structure tP (K:Nat) (β:Nat→Nat) (bx:List ar) (β':Nat→Nat) (aF:List ar):Prop where
 born:∀i,i<K→bT bx i→β' i=β i∧bT aF i
 live:∀i b,aF[i]?=some b→b.live=true→∃j b',bx[j]?=some b'∧b'.live=true∧β j=β' i
theorem tP.refl (K:Nat) (β:Nat→Nat) (bx:List ar):tP K β bx β bx:=⟨fun _ _ h=>⟨rfl,h⟩,fun i b h1 h2=>⟨i,b,h1,h2,rfl⟩⟩
theorem tP.trans {K:Nat} {β'':Nat→Nat} {OI:List ar} (h:tP K β bx β' aF) (g:tP K β' aF β'' OI):tP K β bx β'' OI:=by
 refine ⟨?_,?_⟩
 ·intro i hi hb
  obtain ⟨h1,h2⟩:=h.born i hi hb
  obtain ⟨h3,h4⟩:=g.born i hi h2
  exact ⟨h3.trans h1,h4⟩
 intro i b h1 h2
 obtain ⟨j,b',h3,h4,h5⟩:=g.live i b h1 h2
 obtain ⟨k,b'',h6,h7,h8⟩:=h.live j b' h3 h4
 exact ⟨k,b'',h6,h7,h8.trans h5⟩
theorem Ext.PD {K:Nat} {β0:Nat→Nat} {aB:List ar} {w0:World} (ex:Ext β0 aB w0 β bx w) (hK:aB.length≤K) (h:tP K β bx β' aF):Ext β0 aB w0 β' aF w:=by
 refine ⟨ex.os,ex.tape,ex.output,ex.size,ex.block,ex.shape,?_,?_⟩
 ·intro i hi
  obtain ⟨h1,h2⟩:=ex.born i hi
  obtain ⟨b,hb,_⟩:=hi
  obtain ⟨h3,h4⟩:=h.born i (Nat.lt_of_lt_of_le (iM hb) hK) h2
  exact ⟨h3.trans h1,h4⟩
 intro i b h1 h2
 obtain ⟨j,b',h3,h4,h5⟩:=h.live i b h1 h2
 rw [←h5]
 exact ex.live j b' h3 h4
theorem tQ {b:Nat}:∀{l:List Nat} {i j:Nat},dx b l i=some j→i≤j∧l[j-i]?=some b
 |[],_,_,h=>by simp [dx] at h
 |x::r,i,j,h=>by
  simp only [dx] at h
  cases hb:Nat.beq b x with
  |true=>
   simp only [hb,cond_true,osI] at h
   subst h
   have:=Nat.eq_of_beq_eq_true hb
   subst this
   simp
  |false=>
   simp only [hb,cond_false] at h
   obtain ⟨h1,h2⟩:=tQ h
   refine ⟨by omega,?_⟩
   rw [show j-i=(j-(i+1))+1 by omega,List.getElem?_cons_succ]
   exact h2
theorem rW {bX:List Nat}:∀{l:List Nat} {i k b:Nat},Ew bX i l=true→l[k]?=some b→dx b bX 0=some (i+k)
 |[],_,_,_,_,h=>by simp at h
 |x::r,i,k,b,h,hk=>by
  simp only [Ew,Bool.and_eq_true] at h
  cases k with
  |zero=>
   simp only [List.getElem?_cons_zero,osI] at hk
   subst hk
   obtain ⟨h1,_⟩:=h
   split at h1
   ·rename_i j hj
    rw [hj,←Nat.eq_of_beq_eq_true h1];rfl
   simp at h1
  |succ k=>
   rw [List.getElem?_cons_succ] at hk
   have:=rW h.2 hk
   rw [this];congr 1;omega
theorem GS:∀{n i:Nat},i<n→(upTo n)[i]?=some i
 |n+1,i,h=>by
  have hl:(upTo n).length=n:=by
   clear h;induction n with
   |zero=>rfl
   |succ m ih=>simp [upTo,ih]
  simp only [upTo]
  by_cases hi:i<n
  ·rw [List.getElem?_append_left (by omega)];exact GS hi
  have:i=n:=by omega
  subst this
  rw [List.getElem?_append_right (by omega)];simp [hl]
mutual
theorem rX {m:Nat→Option Nat} {ok ok':Nat→Prop} (hm:∀b j,m b=some j→β' j=β b∧(bT bx b→bT aF j)) (hok:∀az,ok az→ok' az):
 ∀(x y:AV) (v:Value),x.hY m=some y→ah β bx w ok x v→ah β' aF w ok' y v
 |.any,y,v,h,_=>by simp only [AV.hY,osI] at h;subst h;simp [ah]
 |.d x,y,v,h,hv=>by
  simp only [AV.hY,osI] at h;subst h;simp only [ah] at hv ⊢
  exact aH.mono (fun az hb=>⟨hok az hb,rfl⟩) _ _ hv
 |.k c,y,v,h,hv=>by simp only [AV.hY,osI] at h;subst h;simpa [ah] using hv
 |.agg cs,y,v,h,hv=>by
  simp only [AV.hY] at h
  split at h
  ·rename_i ys hys
   simp only [osI] at h;subst h
   simp only [ah] at hv ⊢;obtain ⟨vs,h1,h2⟩:=hv
   exact ⟨vs,h1,kK hm hok cs ys vs hys h2⟩
  simp at h
 |.dA cs,y,v,h,hv=>by
  simp only [AV.hY] at h
  split at h
  ·rename_i ys hys
   simp only [osI] at h;subst h
   simp only [ah] at hv ⊢;obtain ⟨vs,h1,h2⟩:=hv
   exact ⟨vs,h1,kK hm hok cs ys vs hys h2⟩
  simp at h
 |.ptr b off,y,v,h,hv=>by
  simp only [AV.hY] at h
  split at h
  ·rename_i j hj
   simp only [osI] at h;subst h
   obtain ⟨e,hb⟩:=hm b j hj
   simp only [ah] at hv ⊢
   rw [e];exact ⟨hv.1,hb hv.2⟩
  simp at h
 |.rp b sz i q,y,v,h,hv=>by
  simp only [AV.hY] at h
  split at h
  ·rename_i j hj
   simp only [osI] at h;subst h
   obtain ⟨e,hb⟩:=hm b j hj
   simp only [ah] at hv ⊢
   rw [e];exact ⟨hv.1,hb hv.2⟩
  simp at h
 |.zB b,y,v,h,hv=>by
  simp only [AV.hY] at h
  split at h
  ·rename_i j hj
   simp only [osI] at h;subst h
   obtain ⟨e,hb⟩:=hm b j hj
   simp only [ah] at hv ⊢
   rw [e];exact ⟨hv.1,hb hv.2⟩
  simp at h
 |.ep ds,y,v,h,hv=>by
  simp only [AV.hY,osI] at h;subst h
  simp only [ah] at hv ⊢;obtain ⟨az,off,h1,h2,h3⟩:=hv
  exact ⟨az,off,h1,hok az h2,aW.mono (fun az hb=>⟨hok az hb,rfl⟩) az (fun _=>rfl) _ _ h3⟩
 |.ow b sz n,y,v,h,hv=>by
  simp only [AV.hY] at h
  split at h
  ·rename_i j hj
   simp only [osI] at h;subst h
   obtain ⟨e,hb⟩:=hm b j hj
   simp only [ah] at hv ⊢
   rw [e];exact ⟨hb hv.1,hv.2⟩
  simp at h
 |.vw b sz off n c ex,y,v,h,hv=>by
  simp only [AV.hY] at h
  split at h
  ·rename_i j hj
   simp only [osI] at h;subst h
   obtain ⟨e,hb⟩:=hm b j hj
   simp only [ah] at hv ⊢
   rw [e];exact ⟨hb hv.1,hv.2⟩
  simp at h
 |.cl es,y,v,h,hv=>by
  simp only [AV.hY,osI] at h;subst h
  simp only [ah] at hv ⊢;obtain ⟨base,h1,h2⟩:=hv
  refine ⟨base,h1,h2.imp id ?_⟩
  rintro ⟨az,off,sz,e1,e2,e3⟩
  exact ⟨az,off,sz,e1,hok az e2,an.mono (fun az hb=>⟨hok az hb,rfl⟩) az sz (fun _=>rfl) _ _ e3⟩
 |.fn f cs,y,v,h,hv=>by
  simp only [AV.hY] at h
  split at h
  ·rename_i ys hys
   simp only [osI] at h;subst h
   simp only [ah] at hv ⊢;obtain ⟨vs,h1,h2⟩:=hv
   exact ⟨vs,h1,kK hm hok cs ys vs hys h2⟩
  simp at h
 |.sG t x,y,v,h,hv=>by
  simp only [AV.hY] at h
  split at h
  ·rename_i z hz
   simp only [osI] at h;subst h
   simp only [ah] at hv ⊢;obtain ⟨u,h1,h2⟩:=hv
   exact ⟨u,h1,rX hm hok x z u hz h2⟩
  simp at h
 |.cond p x,y,v,h,hv=>by
  simp only [AV.hY] at h
  split at h
  ·rename_i z hz
   simp only [osI] at h;subst h
   simp only [ah] at hv ⊢
   exact ⟨fun hp=>rX hm hok x z v hz (hv.1 hp),hv.2⟩
  simp at h
theorem kK {m:Nat→Option Nat} {ok ok':Nat→Prop} (hm:∀b j,m b=some j→β' j=β b∧(bT bx b→bT aF j)) (hok:∀az,ok az→ok' az):
 ∀(xs ys:List AV) (vs:List Value),AV.vn m xs=some ys→aj β bx w ok xs vs→aj β' aF w ok' ys vs
 |[],ys,vs,h,hv=>by simp only [AV.vn,osI] at h;subst h;simpa [aj] using hv
 |x::xs,ys,vs,h,hv=>by
  simp only [AV.vn] at h
  split at h
  ·rename_i y ys' h1 h2
   simp only [osI] at h;subst h
   simp only [aj] at hv ⊢
   obtain ⟨u,us,k1,k2,k3⟩:=hv
   exact ⟨u,us,k1,rX hm hok x y u h1 k2,kK hm hok xs ys' us h2 k3⟩
  simp at h
end
theorem iP {m:Nat→Option Nat}:∀{bX:List Nat} {bs:List ar},fu m bx bX=some bs→∀(k:Nat) (b':ar),bs[k]?=some b'→∃(i:Nat) (b:ar),bX[k]?=some i∧bx[i]?=some b∧ar.hY m b=some b'
 |[],bs,h,k,b',hk=>by simp only [fu,osI] at h;subst h;simp at hk
 |i::r,bs,h,k,b',hk=>by
  simp only [fu] at h
  split at h
  ·rename_i b hb
   split at h
   ·rename_i b1 bs1 h1 h2
    simp only [osI] at h;subst h
    cases k with
    |zero=>simp only [List.getElem?_cons_zero,osI] at hk;subst hk;exact ⟨i,b,rfl,hb,h1⟩
    |succ k=>simp only [List.getElem?_cons_succ] at hk ⊢;exact iP h2 k b' hk
   simp at h
  simp at h
theorem m7 {m:Nat→Option Nat}:∀{bX:List Nat} {bs:List ar},fu m bx bX=some bs→∀(k i:Nat),bX[k]?=some i→∃(b b':ar),bx[i]?=some b∧ar.hY m b=some b'∧bs[k]?=some b'
 |[],bs,h,k,i,hk=>by simp at hk
 |i0::r,bs,h,k,i,hk=>by
  simp only [fu] at h
  split at h
  ·rename_i b hb
   split at h
   ·rename_i b1 bs1 h1 h2
    simp only [osI] at h;subst h
    cases k with
    |zero=>simp only [List.getElem?_cons_zero,osI] at hk;subst hk;exact ⟨b,b1,hb,h1,rfl⟩
    |succ k=>simp only [List.getElem?_cons_succ] at hk ⊢;exact m7 h2 k i hk
   simp at h
  simp at h
theorem ar.fM {m:Nat→Option Nat} {b b':ar} (h:ar.hY m b=some b'):b'.born=b.born∧b'.live=b.live:=by
 unfold ar.hY at h
 split at h
 ·split at h
  ·simp only [osI] at h;subst h;exact ⟨rfl,rfl⟩
  simp at h
 simp only [osI] at h;subst h;exact ⟨rfl,rfl⟩
theorem C6 {m:Nat→Option Nat} {sl:List (Nat×AV)}:∀{ks:List Nat} {qc:List (Nat×AV)},GQ m sl ks=some qc→∀t,fP t qc=.any∨AV.hY m (fP t sl)=some (fP t qc)
 |[],qc,h,t=>by simp only [GQ,osI] at h;subst h;exact .inl rfl
 |i::r,qc,h,t=>by
  simp only [GQ] at h
  split at h
  ·rename_i y ys h1 h2
   simp only [osI] at h;subst h
   simp only [fP]
   cases hb:Nat.beq t i with
   |true=>have:=Nat.eq_of_beq_eq_true hb;subst this;exact .inr h1
   |false=>simp only [cond_false];exact C6 h2 t
  simp at h
theorem GU {K:Nat} {ks:List Nat} {s s':St} {a:Act} (h:PC K ks s=some s') (hF:Fr G N ds β w X s a):
 ∃β',tP K β s.bx β' s'.bx∧Fr G N ds β' w X s' a:=by
 unfold PC at h
 generalize reach s.bx 99 (upTo K++AV.AM (ks.map fun i=>fP i s.sl)) []=bX at h
 simp only at h
 cases h1:Ew bX 0 bX with
 |false=>simp [h1] at h
 |true=>
 cases h2:Ew bX 0 (upTo K) with
 |false=>simp [h1,h2] at h
 |true=>
 simp only [h1,h2,Bool.and_self,cond_true] at h
 split at h
 ·rename_i bs sl Ey Vb
  simp only [osI] at h
  subst h
  have vo:∀k i,bX[k]?=some i→dx i bX 0=some k:=fun k i hk=>by have:=rW h1 hk;simpa using this
  have hidx:∀b j,dx b bX 0=some j→bX[j]?=some b:=fun b j hj=>by have:=(tQ hj).2;simpa using this
  let β':Nat→Nat:=fun j=>match bX[j]? with|some i=>β i|none=>0
  have hβ:∀k i,bX[k]?=some i→β' k=β i:=fun k i hk=>by simp [β',hk]
  have hm:∀b j,dx b bX 0=some j→β' j=β b∧(bT s.bx b→bT bs j):=by
   intro b j hj
   have hs:=hidx b j hj
   refine ⟨hβ j b hs,?_⟩
   rintro ⟨B,hB,c8⟩
   obtain ⟨b1,b2,k1,k2,k3⟩:=m7 Ey j b hs
   rw [hB] at k1;cases k1
   exact ⟨b2,k3,(ar.fM k2).1.trans c8⟩
  have cq:∀(i:Nat) (b:ar),bs[i]?=some b→b.live=true→∃(j:Nat) (b':ar),s.bx[j]?=some b'∧b'.live=true∧β j=β' i∧bX[i]?=some j:=by
   intro i b hi hl
   obtain ⟨j,b',k1,k2,k3⟩:=iP Ey i b hi
   exact ⟨j,b',k2,(ar.fM k3).2▸hl,(hβ i j k1).symm,k1⟩
  have hok:∀az,aY β s.bx w X az→aY β' bs w X az:=by
   rintro az ⟨k1,k2,k3⟩
   refine ⟨k1,k2,?_⟩
   intro i b hi hl
   obtain ⟨j,b',h3,h4,h5,_⟩:=cq i b hi hl
   rw [←h5];exact k3 j b' h3 h4
  have hkeep:jz w w (aY β s.bx w X) (aY β' bs w X):=fun az hb=>⟨hok az hb,rfl⟩
  refine ⟨β',⟨?_,?_⟩,⟨?_,hF.defers,hF.size,?_⟩⟩
  ·intro i hi hb
   have:=rW h2 (GS hi)
   simp only [Nat.zero_add] at this
   obtain ⟨k1,k2⟩:=hm i i this
   exact ⟨k1,k2 hb⟩
  ·intro i b hi hl
   obtain ⟨j,b',h3,h4,h5,_⟩:=cq i b hi hl
   exact ⟨j,b',h3,h4,h5⟩
  ·refine ⟨hF.cx.xs,?_,?_,?_,?_⟩
   ·intro g ds hg
    obtain ⟨k1,k2⟩:=hF.cx.zK g ds hg
    exact ⟨hok g k1,aW.mono hkeep g (fun _=>rfl) _ _ k2⟩
   ·intro i j bi bj hi hj nN pZ he
    obtain ⟨i',Z6,a1,a2,a3,a4⟩:=cq i bi hi nN
    obtain ⟨j',Z7,c1,c2,c3,c4⟩:=cq j bj hj pZ
    have:i'=j':=hF.cx.inj i' j' Z6 Z7 a1 c1 a2 c2 (a3.trans (he.trans c3.symm))
    subst this
    have e1:=vo i i' a4
    have e2:=vo j i' c4
    rw [e1] at e2;exact Option.some.inj e2
   ·intro i b hi
    obtain ⟨j,b',k1,k2,k3⟩:=iP Ey i b hi
    have hb:=hF.cx.box j b' k2
    rw [hβ i j k1]
    cases b' with
    |var cs=>
     simp only [ar.hY] at k3
     split at k3
     ·rename_i ys hys
      simp only [osI] at k3;subst k3
      simp only [dw] at hb ⊢
      obtain ⟨c,e,g1,g2⟩:=hb
      exact ⟨c,e,g1,kK hm hok cs ys _ hys g2⟩
     simp at k3
    |row sz es=>
     simp only [ar.hY,osI] at k3;subst k3
     refine hb.imp id ?_
     rintro ⟨c,e,g1,g2⟩
     exact ⟨c,e,g1,an.mono hkeep _ _ (fun _=>rfl) _ _ g2⟩
    |nP sz es=>
     simp only [ar.hY,osI] at k3;subst k3
     refine hb.imp id ?_
     rintro ⟨g1,g2⟩
     exact ⟨hok _ g1,an.mono hkeep _ _ (fun _=>rfl) _ _ g2⟩
    |it s p=>simp only [ar.hY,osI] at k3;subst k3;exact hb
    |mp ag es=>simp only [ar.hY,osI] at k3;subst k3;obtain ⟨ms,clock,h1,h2,h3⟩:=hb;exact ⟨ms,clock,h1,h2,be.mono hkeep _ _ _ h3⟩
    |dead=>simp only [ar.hY,osI] at k3;subst k3;trivial
    |bt=>simp only [ar.hY,osI] at k3;subst k3;trivial
   intro i b hi hl
   obtain ⟨j,b',h3,h4,h5,_⟩:=cq i b hi hl
   rw [←h5];exact hF.cx.apart j b' h3 h4
  intro t
  rcases C6 Vb t with h3|h3
  ·rw [h3];simp [ah]
  exact rX hm hok _ _ _ h3 (hF.wF t)
 simp at h
theorem GV (K:Nat) {sz:Nat} {s:St} {a:Act} (hF:Fr G N ds β w X s a):∃β',tP K β s.bx β' (s.bx++[.row sz []])∧Fr G N ds β' w X ⟨s.sl,s.bx++[.row sz []]⟩ a∧bT (s.bx++[.row sz []]) s.bx.length:=by
 have hinv:∀{i:Nat} {b:ar},(s.bx++[ar.row sz []])[i]?=some b→b.live=true→s.bx[i]?=some b:=by
  intro i b h hl
  rcases bp h with ⟨h1,_⟩|⟨h1,h2⟩
  ·exact h1
  subst h2;simp [ar.live] at hl
 have hok:∀az,aY β s.bx w X az→aY β (s.bx++[.row sz []]) w X az:=by
  rintro az ⟨k1,k2,k3⟩
  exact ⟨k1,k2,fun i b hi hl=>k3 i b (hinv hi hl) hl⟩
 have c8:∀i,bT s.bx i→bT (s.bx++[.row sz []]) i:=by
  rintro i ⟨b,h1,h2⟩
  exact ⟨b,ek h1,h2⟩
 have hkeep:jz w w (aY β s.bx w X) (aY β (s.bx++[.row sz []]) w X):=fun az hb=>⟨hok az hb,rfl⟩
 have qy:sQ β s.bx w (aY β s.bx w X) β (s.bx++[.row sz []]) w (aY β (s.bx++[.row sz []]) w X):=by
  refine ⟨hkeep,?_,fun _ c _ _ h=>⟨c,h,rfl⟩⟩
  intro i hi
  exact ⟨rfl,c8 i hi⟩
 refine ⟨β,⟨fun i _ hi=>⟨rfl,c8 i hi⟩,fun i b hi hl=>⟨i,b,hinv hi hl,hl,rfl⟩⟩,⟨⟨hF.cx.xs,?_,?_,?_,?_⟩,hF.defers,hF.size,?_⟩,?_⟩
 ·intro g ds hg
  obtain ⟨k1,k2⟩:=hF.cx.zK g ds hg
  exact ⟨hok g k1,aW.mono hkeep g (fun _=>rfl) _ _ k2⟩
 ·intro i j bi bj hi hj nN pZ he
  exact hF.cx.inj i j bi bj (hinv hi nN) (hinv hj pZ) nN pZ he
 ·intro i b hi
  rcases bp hi with ⟨h1,_⟩|⟨h1,h2⟩
  ·have h:=hF.cx.box i b h1
   cases b with
   |var cs=>
    obtain ⟨c,e,g1,g2⟩:=h
    exact ⟨c,e,g1,aj.mono qy _ _ g2⟩
   |row sz es=>
    refine h.imp id ?_
    rintro ⟨c,e,g1,g2⟩
    exact ⟨c,e,g1,an.mono hkeep _ _ (fun _=>rfl) _ _ g2⟩
   |nP sz es=>
    refine h.imp id ?_
    rintro ⟨g1,g2⟩
    exact ⟨hok _ g1,an.mono hkeep _ _ (fun _=>rfl) _ _ g2⟩
   |it s p=>exact h
   |mp ag es=>obtain ⟨ms,clock,h1,h2,h3⟩:=h;exact ⟨ms,clock,h1,h2,be.mono hkeep _ _ _ h3⟩
   |dead=>trivial
   |bt=>trivial
  subst h2;exact .inl rfl
 ·intro i b hi hl
  exact hF.cx.apart i b (hinv hi hl) hl
 ·intro t;exact ah.mono qy _ _ (hF.wF t)
 exact ⟨.row sz [],by simp,rfl⟩
theorem UI {ok:Nat→Prop} {n sz:Nat} {u:Value} (hb:bT bx n) (h:ah β bx w ok (.cl []) u):ah β bx w ok (.ow n sz 0) u:=by
 simp only [ah,List.length_nil] at h ⊢
 obtain ⟨base,h1,_⟩:=h
 exact ⟨hb,.inl ⟨trv,base,h1⟩⟩
theorem tU (K:Nat) {a:Act}:∀(l:List (Nat×Nat)) (s:St) (β:Nat→Nat),Fr G N ds β w X s a→∃β',tP K β s.bx β' (MS s l).bx∧Fr G N ds β' w X (MS s l) a
 |[],s,β,hF=>⟨β,tP.refl _ _ _,hF⟩
 |(i,sz)::r,s,β,hF=>by
  unfold MS
  split
  ·rename_i hl
   obtain ⟨β1,e1,Ce,hb⟩:=GV (sz:=sz) K hF
   have zl:Fr G N ds β1 w X ⟨put i (.ow s.bx.length sz 0) s.sl,s.bx++[.row sz []]⟩ a:=by
    refine ⟨Ce.cx,Ce.defers,Ce.size,?_⟩
    intro t
    have h1:=Ce.wF t
    simp only [rS]
    by_cases ht:t=i
    ·subst ht
     rw [if_pos rfl]
     have Lw:ah β1 (s.bx++[.row sz []]) w (aY β1 (s.bx++[.row sz []]) w X) (fP t s.sl) (a.tmps.getD t undef):=h1
     rw [hl] at Lw
     exact UI hb Lw
    rw [if_neg ht];exact h1
   obtain ⟨β2,e2,Ez⟩:=tU K r _ β1 zl
   exact ⟨β2,e1.trans e2,Ez⟩
  exact tU K r s β hF
theorem C7 {ok:Nat→Prop} {x y:AV} (hxy:∀u,ah β bx w ok x u→ah β bx w ok y u):∀(cs:List AV) (c:Nat) (vs:List Value),cs[c]?=some x→aj β bx w ok cs vs→aj β bx w ok (cs.set c y) vs
 |[],_,_,h,_=>by simp at h
 |z::cs,0,vs,h,hv=>by
  simp only [List.getElem?_cons_zero,osI] at h;subst h
  simp only [List.set_cons_zero,aj] at hv ⊢
  obtain ⟨u,us,h1,h2,h3⟩:=hv
  exact ⟨u,us,h1,hxy u h2,h3⟩
 |z::cs,c+1,vs,h,hv=>by
  simp only [List.getElem?_cons_succ] at h
  simp only [List.set_cons_succ,aj] at hv ⊢
  obtain ⟨u,us,h1,h2,h3⟩:=hv
  exact ⟨u,us,h1,h2,C7 hxy cs c us h h3⟩
theorem PE {s:St} {a:Act} (hF:Fr G N ds β w X s a) {b c:Nat} {cs:List AV} {x y:AV} (hb:s.bx[b]?=some (.var cs)) (hc:cs[c]?=some x)
 (hxy:∀u,ah β s.bx w (aY β s.bx w X) x u→ah β s.bx w (aY β s.bx w X) y u) (K:Nat):
 tP K β s.bx β (s.bx.set b (.var (cs.set c y)))∧Fr G N ds β w X ⟨s.sl,s.bx.set b (.var (cs.set c y))⟩ a:=by
 have hinv:∀{i:Nat} {B:ar},(s.bx.set b (.var (cs.set c y)))[i]?=some B→(i=b∧B=.var (cs.set c y))∨(i≠b∧s.bx[i]?=some B):=by
  intro i B h
  rcases aI h with ⟨h1,h2,_⟩|⟨h1,h2⟩
  ·exact .inl ⟨h1,h2⟩
  exact .inr ⟨h1,h2⟩
 have cq:∀{i:Nat} {B:ar},(s.bx.set b (.var (cs.set c y)))[i]?=some B→B.live=true→∃B',s.bx[i]?=some B'∧B'.live=true:=by
  intro i B h hl
  rcases hinv h with ⟨rfl,rfl⟩|⟨_,h1⟩
  ·exact ⟨_,hb,rfl⟩
  exact ⟨B,h1,hl⟩
 have hok:∀az,aY β s.bx w X az→aY β (s.bx.set b (.var (cs.set c y))) w X az:=by
  rintro az ⟨k1,k2,k3⟩
  refine ⟨k1,k2,fun i B hi hl=>?_⟩
  obtain ⟨B',h1,h2⟩:=cq hi hl
  exact k3 i B' h1 h2
 have c8:∀i,bT s.bx i→bT (s.bx.set b (.var (cs.set c y))) i:=fun i hi=>ie rfl hi
 have hkeep:jz w w (aY β s.bx w X) (aY β (s.bx.set b (.var (cs.set c y))) w X):=fun az hb=>⟨hok az hb,rfl⟩
 have qy:sQ β s.bx w (aY β s.bx w X) β (s.bx.set b (.var (cs.set c y))) w (aY β (s.bx.set b (.var (cs.set c y))) w X):=
  ⟨hkeep,fun i hi=>⟨rfl,c8 i hi⟩,fun _ c _ _ h=>⟨c,h,rfl⟩⟩
 refine ⟨⟨fun i _ hi=>⟨rfl,c8 i hi⟩,fun i B hi hl=>?_⟩,⟨⟨hF.cx.xs,?_,?_,?_,?_⟩,hF.defers,hF.size,?_⟩⟩
 ·obtain ⟨B',h1,h2⟩:=cq hi hl
  exact ⟨i,B',h1,h2,rfl⟩
 ·intro g ds hg
  obtain ⟨k1,k2⟩:=hF.cx.zK g ds hg
  exact ⟨hok g k1,aW.mono hkeep g (fun _=>rfl) _ _ k2⟩
 ·intro i j bi bj hi hj nN pZ he
  obtain ⟨B1,h1,h2⟩:=cq hi nN
  obtain ⟨B2,h3,h4⟩:=cq hj pZ
  exact hF.cx.inj i j B1 B2 h1 h3 h2 h4 he
 ·intro i B hi
  rcases hinv hi with ⟨rfl,rfl⟩|⟨_,h1⟩
  ·have h:=hF.cx.box _ _ hb
   simp only [dw] at h ⊢
   obtain ⟨cc,e,g1,g2⟩:=h
   exact ⟨cc,e,g1,aj.mono qy _ _ (C7 hxy cs c _ hc g2)⟩
  have h:=hF.cx.box i B h1
  cases B with
  |var cs=>
   obtain ⟨c,e,g1,g2⟩:=h
   exact ⟨c,e,g1,aj.mono qy _ _ g2⟩
  |row sz es=>
   refine h.imp id ?_
   rintro ⟨c,e,g1,g2⟩
   exact ⟨c,e,g1,an.mono hkeep _ _ (fun _=>rfl) _ _ g2⟩
  |nP sz es=>
   refine h.imp id ?_
   rintro ⟨g1,g2⟩
   exact ⟨hok _ g1,an.mono hkeep _ _ (fun _=>rfl) _ _ g2⟩
  |it s p=>exact h
  |mp ag es=>obtain ⟨ms,clock,h1,h2,h3⟩:=h;exact ⟨ms,clock,h1,h2,be.mono hkeep _ _ _ h3⟩
  |dead=>trivial
  |bt=>trivial
 ·intro i B hi hl
  obtain ⟨B',h1,h2⟩:=cq hi hl
  exact hF.cx.apart i B' h1 h2
 intro t;exact ah.mono qy _ _ (hF.wF t)
theorem mI (K:Nat) {a:Act}:∀(l:List (Nat×Nat×Nat)) (s:St) (β:Nat→Nat),Fr G N ds β w X s a→∃β',tP K β s.bx β' (GR s l).bx∧Fr G N ds β' w X (GR s l) a
 |[],s,β,hF=>⟨β,tP.refl _ _ _,hF⟩
 |(b,c,sz)::r,s,β,hF=>by
  unfold GR
  split
  ·rename_i cs hb
   split
   ·rename_i hc
    cases hz:Nat.beq sz 0 with
    |true=>
     simp only [cond_true]
     obtain ⟨e2,zl⟩:=PE hF (b:=b) hb hc (y:=.d (.sl [])) (fun u hu=>by
      simp only [ah,aH] at hu ⊢
      obtain ⟨base,h1,h2⟩:=hu
      exact ⟨base,_,h1,Nat.le_refl _,h2⟩) K
     obtain ⟨β2,e3,Ez⟩:=mI K r _ β zl
     exact ⟨β2,e2.trans e3,Ez⟩
    |false=>
    simp only [cond_false]
    obtain ⟨β1,e1,Ce,Ee⟩:=GV (sz:=sz) K hF
    have Fy:(s.bx++[ar.row sz []])[b]?=some (.var cs):=ek hb
    obtain ⟨e2,zl⟩:=PE (s:=⟨s.sl,s.bx++[.row sz []]⟩) Ce (b:=b) Fy hc (y:=.ow s.bx.length sz 0) (fun u hu=>UI Ee hu) K
    obtain ⟨β2,e3,Ez⟩:=mI K r _ β1 zl
    exact ⟨β2,(e1.trans e2).trans e3,Ez⟩
   exact mI K r s β hF
  exact mI K r s β hF
theorem yl {K:Nat} {nf:Nf} {s s':St} {a:Act} (h:yj K nf s=some s') (hF:Fr G N ds β w X s a):∃β',tP K β s.bx β' s'.bx∧Fr G N ds β' w X s' a:=by
 unfold yj at h
 obtain ⟨β1,e1,Ce⟩:=tU K nf.os s β hF
 obtain ⟨β2,e2,zl⟩:=mI K nf.ob _ β1 Ce
 obtain ⟨β3,e3,Ez⟩:=GU h zl
 exact ⟨β3,(e1.trans e2).trans e3,Ez⟩
end
structure qN (o:Option St) (P:St→Prop):Prop where
 ok:match o with
  |some s=>P s
  |none=>False
structure UJ (K:Nat) (A:(Ex→St→Prop)→St→Prop) (Q:Ex→St→Prop) (s:St):Prop where
 ok:∃(nf:Nf) (I:Nat→St→Prop) (n:Nat),qN (yj K nf s) (I n)∧∀n s1,I n s1→A (fun e s2=>mY (fun s2=>qN (yj K nf s2) (fun s3=>∃m,m<n∧I m s3)) Q e s2) s1
mutual
def AV.Co (b:Nat) (x:D):AV→AV
 |.zB c=>bif Nat.beq c b then .d x else .zB c
 |.agg cs=>.agg (AV.GW b x cs)
 |.dA cs=>.dA (AV.GW b x cs)
 |.fn f cs=>.fn f (AV.GW b x cs)
 |.sG t y=>.sG t (AV.Co b x y)
 |.cond p y=>.cond p (AV.Co b x y)
 |v=>v
def AV.GW (b:Nat) (x:D):List AV→List AV
 |[]=>[]
 |y::ys=>AV.Co b x y::AV.GW b x ys
end
def ar.Co (b:Nat) (x:D):ar→ar
 |.var cs=>.var (AV.GW b x cs)
 |B=>B
def wL (b:Nat) (x:D):List (Nat×AV)→List (Nat×AV)
 |[]=>[]
 |(i,v)::r=>(i,AV.Co b x v)::wL b x r
def wM (b:Nat) (x:D):List ar→Nat→List ar
 |[],_=>[]
 |B::r,i=>(bif Nat.beq i b then .dead else ar.Co b x B)::wM b x r (i+1)
def iQ (b:Nat) (x:D) (s:St):St:=⟨wL b x s.sl,wM b x s.bx 0⟩
def PF:List ar→Bool
 |[]=>false
 |.mp _ _::_=>true
 |_::r=>PF r
structure XH (s:St) (A:St→Prop):Prop where
 ok:A s∨∃b ag es,s.bx[b]?=some (.mp ag es)∧A (iQ b (.mp ag es) s)
section
variable {P:Program} {T:Nat→Option TI} {G:Nat→Option (List D)} {N:Nat} {ds:List Deferred} {β:Nat→Nat} {w:World} {X:Nat→Prop} {s:St}
theorem oW (b:Nat) (x:D):∀(l:List ar) (k i:Nat),(wM b x l k)[i]?=(l[i]?).map fun B=>bif Nat.beq (k+i) b then .dead else ar.Co b x B
 |[],_,_=>by simp [wM]
 |B::r,k,0=>by simp [wM]
 |B::r,k,i+1=>by simp only [wM,List.getElem?_cons_succ];rw [oW b x r (k+1) i,show k+1+i=k+(i+1) by omega]
theorem GX (b:Nat) (x:D) (B:ar):(ar.Co b x B).live=B.live∧(ar.Co b x B).born=B.born:=by cases B<;>simp [ar.Co,ar.live,ar.born]
theorem GY (b:Nat) (x:D) (t:Nat):∀sl:List (Nat×AV),fP t (wL b x sl)=AV.Co b x (fP t sl)
 |[]=>by simp [wL,fP,AV.Co]
 |(u,v)::r=>by
  simp only [wL,fP]
  cases Nat.beq t u with
  |true=>rfl
  |false=>simpa using GY b x t r
mutual
theorem zo {bx aF:List ar} {ok ok':Nat→Prop} {b:Nat} {x:D} (hl:sQ β bx w ok β aF w ok') (hb:∀v,v=.map (some (β b))→aH w ok' x v):∀(y:AV) (v:Value),ah β bx w ok y v→ah β aF w ok' (AV.Co b x y) v
 |.zB c,v,h=>by
  unfold AV.Co
  cases hc:Nat.beq c b with
  |true=>
   obtain rfl:=Nat.eq_of_beq_eq_true hc
   simp only [cond_true,ah] at h ⊢
   exact hb v h.1
  |false=>simpa using ah.mono hl _ _ h
 |.agg cs,v,h=>by simp only [AV.Co,ah] at h ⊢;obtain ⟨vs,h1,h2⟩:=h;exact ⟨vs,h1,qO hl hb cs vs h2⟩
 |.dA cs,v,h=>by simp only [AV.Co,ah] at h ⊢;obtain ⟨vs,h1,h2⟩:=h;exact ⟨vs,h1,qO hl hb cs vs h2⟩
 |.fn f cs,v,h=>by simp only [AV.Co,ah] at h ⊢;obtain ⟨vs,h1,h2⟩:=h;exact ⟨vs,h1,qO hl hb cs vs h2⟩
 |.sG t y,v,h=>by simp only [AV.Co,ah] at h ⊢;obtain ⟨u,h1,h2⟩:=h;exact ⟨u,h1,zo hl hb y u h2⟩
 |.cond p y,v,h=>by simp only [AV.Co,ah] at h ⊢;exact ⟨fun hp=>zo hl hb y v (h.1 hp),h.2⟩
 |.any,v,h=>ah.mono hl _ _ h
 |.d _,v,h=>ah.mono hl _ _ h
 |.k _,v,h=>ah.mono hl _ _ h
 |.ptr _ _,v,h=>ah.mono hl _ _ h
 |.rp _ _ _ _,v,h=>ah.mono hl _ _ h
 |.ep _,v,h=>ah.mono hl _ _ h
 |.ow _ _ _,v,h=>ah.mono hl _ _ h
 |.cl _,v,h=>ah.mono hl _ _ h
 |.vw _ _ _ _ _ _,v,h=>ah.mono hl _ _ h
theorem qO {bx aF:List ar} {ok ok':Nat→Prop} {b:Nat} {x:D} (hl:sQ β bx w ok β aF w ok') (hb:∀v,v=.map (some (β b))→aH w ok' x v):∀(ys:List AV) (vs:List Value),aj β bx w ok ys vs→aj β aF w ok' (AV.GW b x ys) vs
 |[],vs,h=>by simpa [AV.GW,aj] using h
 |y::ys,vs,h=>by
  simp only [AV.GW,aj] at h ⊢
  obtain ⟨u,us,h1,h2,h3⟩:=h
  exact ⟨u,us,h1,zo hl hb y u h2,qO hl hb ys us h3⟩
end
theorem SG {a:Act} (hF:Fr G N ds β w X s a) {b:Nat} {ag:Bool} {es:List (List D)} (hb:s.bx[b]?=some (.mp ag es)):
 Ext β s.bx w β (iQ b (.mp ag es) s).bx w∧Fr G N ds β w X (iQ b (.mp ag es) s) a:=by
 have Aw:∀{i:Nat} {B:ar},(iQ b (.mp ag es) s).bx[i]?=some B→(i=b∧B=.dead)∨(i≠b∧∃B',s.bx[i]?=some B'∧B=ar.Co b (.mp ag es) B'):=by
  intro i B h
  simp only [iQ,oW,Nat.zero_add,Option.map_eq_some_iff] at h
  obtain ⟨B',h1,h2⟩:=h
  cases hi:Nat.beq i b with
  |true=>simp only [hi,cond_true] at h2;exact .inl ⟨Nat.eq_of_beq_eq_true hi,h2.symm⟩
  |false=>simp only [hi,cond_false] at h2;exact .inr ⟨Nat.ne_of_beq_eq_false hi,B',h1,h2.symm⟩
 have cq:∀{i:Nat} {B:ar},(iQ b (.mp ag es) s).bx[i]?=some B→B.live=true→i≠b∧∃B',s.bx[i]?=some B'∧B'.live=true:=by
  intro i B h hl
  rcases Aw h with ⟨_,rfl⟩|⟨h1,B',h2,rfl⟩
  ·cases hl
  exact ⟨h1,B',h2,(GX _ _ _).1▸hl⟩
 have c8:∀i,bT s.bx i→bT (iQ b (.mp ag es) s).bx i:=by
  rintro i ⟨B,h1,h2⟩
  cases hi:Nat.beq i b with
  |true=>exact ⟨.dead,by simp [iQ,oW,h1,hi],rfl⟩
  |false=>exact ⟨ar.Co b (.mp ag es) B,by simp [iQ,oW,h1,hi],(GX _ _ _).2.trans h2⟩
 have hok:∀az,aY β s.bx w X az→aY β (iQ b (.mp ag es) s).bx w X az:=by
  rintro az ⟨k1,k2,k3⟩
  refine ⟨k1,k2,fun i B hi hl=>?_⟩
  obtain ⟨_,B',h1,h2⟩:=cq hi hl
  exact k3 i B' h1 h2
 have hkeep:jz w w (aY β s.bx w X) (aY β (iQ b (.mp ag es) s).bx w X):=fun az hb=>⟨hok az hb,rfl⟩
 have qy:sQ β s.bx w (aY β s.bx w X) β (iQ b (.mp ag es) s).bx w (aY β (iQ b (.mp ag es) s).bx w X):=⟨hkeep,fun i hi=>⟨rfl,c8 i hi⟩,fun _ c _ _ h=>⟨c,h,rfl⟩⟩
 have F3:=hF.cx.box b _ hb
 have hmp:∀v,v=.map (some (β b))→aH w (aY β (iQ b (.mp ag es) s).bx w X) (.mp ag es) v:=by
  rintro v rfl
  obtain ⟨ms,clock,h1,h2,h3⟩:=F3
  simp only [aH]
  refine ⟨β b,ms,clock,rfl,⟨eG h1,hF.cx.apart b _ hb rfl,?_⟩,h1,h2,be.mono hkeep _ _ _ h3⟩
  intro i B hi hl he
  obtain ⟨g1,B',g2,g3⟩:=cq hi hl
  exact g1 (hF.cx.inj i b B' _ g2 hb g3 rfl he)
 refine ⟨⟨rfl,rfl,rfl,Nat.le_refl _,fun _ _ _=>rfl,fun _ c _ _ h=>⟨c,h,rfl⟩,fun i hi=>⟨rfl,c8 i hi⟩,?_⟩,⟨⟨hF.cx.xs,?_,?_,?_,?_⟩,hF.defers,hF.size,?_⟩⟩
 ·intro i B hi hl
  obtain ⟨_,B',g2,g3⟩:=cq hi hl
  exact .inr ⟨i,B',g2,g3,rfl⟩
 ·intro g ds hg
  obtain ⟨k1,k2⟩:=hF.cx.zK g ds hg
  exact ⟨hok g k1,aW.mono hkeep g (fun _=>rfl) _ _ k2⟩
 ·intro i j bi bj hi hj nN pZ he
  obtain ⟨_,Bi,g2,g3⟩:=cq hi nN
  obtain ⟨_,Bj,g4,g5⟩:=cq hj pZ
  exact hF.cx.inj i j Bi Bj g2 g4 g3 g5 he
 ·intro i B hi
  rcases Aw hi with ⟨_,rfl⟩|⟨_,B',h2,rfl⟩
  ·trivial
  have h:=hF.cx.box i B' h2
  cases B' with
  |var cs=>
   obtain ⟨c,e,g1,g2⟩:=h
   exact ⟨c,e,g1,qO qy hmp _ _ g2⟩
  |row sz es=>
   refine h.imp id ?_
   rintro ⟨c,e,g1,g2⟩
   exact ⟨c,e,g1,an.mono hkeep _ _ (fun _=>rfl) _ _ g2⟩
  |nP sz es=>
   refine h.imp id ?_
   rintro ⟨g1,g2⟩
   exact ⟨hok _ g1,an.mono hkeep _ _ (fun _=>rfl) _ _ g2⟩
  |it s p=>exact h
  |mp ag es=>obtain ⟨ms,clock,h1,h2,h3⟩:=h;exact ⟨ms,clock,h1,h2,be.mono hkeep _ _ _ h3⟩
  |dead=>trivial
  |bt=>trivial
 ·intro i B hi hl
  obtain ⟨_,B',g2,g3⟩:=cq hi hl
  exact hF.cx.apart i B' g2 g3
 intro t
 show ah β _ w _ (fP t (wL b (.mp ag es) s.sl)) _
 rw [GY]
 exact zo qy hmp _ _ (hF.wF t)
end
section
variable (t:Th) (FC:Nat→List AV→List ar→ff→List ar→Prop) (T:Nat→Option TI) (G:Nat→Option (List D)) (N K:Nat)
def qP:Code→(Ex→St→Prop)→St→Prop
 |.skip,Q,s=>Q .normal s
 |.region _ ops draw,Q,s=>bif draw then (bif PF s.bx then XH s (fun s=>LL t FC T G N ops.toList Q s) else LL t FC T G N ops.toList Q s) else Jz t FC T G N ops.toList ops.toList Q s
 |.seq a b,Q,s=>qP a (fun e s1=>mY (fun s1=>qP b Q s1) Q e s1) s
 |.cond c a b,Q,s=>(bU G s.sl c).ok∧wh (bU G s.sl c).aM (fun _=>qP a Q s) (fun _=>qP b Q s)
 |.block id c,Q,s=>qP c (fun e s1=>match e with|.exit j=>bif Nat.beq j id then Q .normal s1 else Q (.exit j) s1|e=>Q e s1) s
 |.loop c,Q,s=>UJ K (fun Q1 s1=>qP c Q1 s1) Q s
 |.exit id,Q,s=>Q (.exit id) s
 |.label _,Q,s=>Q .normal s
 |.ret,Q,s=>Q .ret s
 |_,_,_=>False
structure AN (n:Nat) (c:Prop) (v:AV) (bx:List ar) (fz:Option (Prop×AV)) (res:ff) (aF:List ar):Prop where
 ok:c∧((res=.ret v∧aF=bx)∨
  (∃ks d u,fz=some (d,u)∧d∧u.within n=true∧aF=(kill ks (qj bx v)).take n∧cm n aF=true∧res=.ret u)∨
  (∃k sz m es,v=.ow k sz m∧bx[k]?=some (.row sz es)∧n≤k∧n≤bx.length∧cm n (bx.take n)=true∧res=.ret (.ow n sz m)∧aF=bx.take n++[.row sz es])∨
  (∃sz,v=.cl []∧n≤bx.length∧cm n (bx.take n)=true∧res=.ret (.ow n sz 0)∧aF=bx.take n++[.row sz []]))
def jB (results:List ResultVar) (n:Nat) (res:ff) (aF:List ar):Ex→St→Prop
 |.exit _,_=>False
 |.panic v,s=>OH v s.bx res aF
 |_,s=>match uE T s.sl s.bx results with
  |some (c,vs)=>AN n c (nT vs) s.bx (C2 t s.bx (nT vs)) res aF
  |none=>False
end
section
variable {P:Program} {T:Nat→Option TI} {G:Nat→Option (List D)} {N K:Nat} {ds:List Deferred} {X:Nat→Prop} {β0:Nat→Nat} {aB:List ar} {w0:World}
theorem PG {β:Nat→Nat} {w:World} {s s1:St} {a:Act} {i:Nat} {c:Prop} (hF:Fr G N ds β w X s a) (h:Eu t0 i s=some (c,s1)) (hc:c):Ext β s.bx w β s1.bx w∧Fr G N ds β w X s1 a:=by
 unfold Eu at h
 split at h
 ·rename_i c' y hy
  simp only [osI,Prod.mk.injEq] at h
  obtain ⟨rfl,rfl⟩:=h
  obtain ⟨g1,g2,g3⟩:=Eg hF.cx (Jx hy hc) (hF.wF i)
  refine ⟨g1,g2,hF.defers,hF.size,fun t=>?_⟩
  simp only [rS]
  by_cases h:t=i
  ·subst h;rw [if_pos rfl];exact g3
  rw [if_neg h];exact ah.mono (g1.dN X) _ _ (hF.wF t)
 cases h
theorem qQ (hD:kQ P T G) {id:Nat} {ops:Array Oper} {Q:Ex→St→Prop} {β:Nat→Nat} {w:World} {s:St} {a:Act} (ex:Ext β0 aB w0 β s.bx w) (hF:Fr G N ds β w X s a)
 (h:LL t0 (aZ P G) T G N ops.toList Q s):(Code.region id ops true).wp P (dY G N ds X β0 aB w0 Q) a w:=by
 rcases SF h with h|⟨i,c,s1,h1,hc,h⟩
 ·exact hD _ _ _ _ _ _ id ops Q β w s a ex hF h
 obtain ⟨e1,Ce⟩:=PG hF h1 hc
 exact hD _ _ _ _ _ _ id ops Q β w s1 a (ex.trans e1) Ce h
theorem eY (hT:iz P T) (hD:kQ P T G) (hK:aB.length≤K):∀(c:Code) (Q:Ex→St→Prop) (β:Nat→Nat) (w:World) (s:St) (a:Act),Ext β0 aB w0 β s.bx w→Fr G N ds β w X s a→
 qP t0 (aZ P G) T G N K c Q s→c.wp P (dY G N ds X β0 aB w0 Q) a w
 |.skip,Q,β,w,s,a,ex,hF,h=>wp_skip ⟨β,s,ex,hF,h⟩
 |.region id ops draw,Q,β,w,s,a,ex,hF,h=>by
  cases draw with
  |true=>
   simp only [qP,cond_true] at h
   cases hm:PF s.bx with
   |false=>simp only [hm,cond_false] at h;exact qQ hD ex hF h
   |true=>
    simp only [hm,cond_true] at h
    rcases h with ⟨h|⟨b,ag,es,hb,h⟩⟩
    ·exact qQ hD ex hF h
    obtain ⟨e1,Ce⟩:=SG hF hb
    exact qQ hD (ex.trans e1) Ce h
  |false=>exact wp_region_list (jL hT ops.toList β w s a ex hF (Ev _ _ h))
 |.seq x y,Q,β,w,s,a,ex,hF,h=>by
  refine wp_seq (wp_mono (eY hT hD hK x _ β w s a ex hF h) ?_)
  intro e a' w' hl
  cases e<;>simp only [dY,mY] at hl
  ·obtain ⟨β',s',h1,h2,h3⟩:=hl
   exact eY hT hD hK y Q β' w' s' a' h1 h2 h3
  ·exact hl
  ·exact hl
  exact hl
 |.cond c x y,Q,β,w,s,a,ex,hF,h=>by
  obtain ⟨h1,⟨h2⟩⟩:=h
  split at h2
  ·rename_i p hc
   have hv:=ix (hF.eval c) h1
   rw [hc] at hv
   simp only [ah,aH] at hv
   exact wp_cond_split hv (fun hp=>eY hT hD hK x Q β w s a ex hF (h2.1 hp)) (fun hp=>eY hT hD hK y Q β w s a ex hF (h2.2 hp))
  exact h2.elim
 |.block id c,Q,β,w,s,a,ex,hF,h=>by
  refine wp_block (wp_mono (eY hT hD hK c _ β w s a ex hF h) ?_)
  intro e a' w' hl
  cases e<;>simp only [dY,Exit.inBlock] at hl ⊢
  ·exact hl
  ·rename_i j
   by_cases hj:j=id
   ·subst hj
    simpa [dY] using hl
   have hb:Nat.beq j id=false:=Vg hj
   simpa [dY,hb,hj] using hl
  ·exact hl
  exact hl
 |.loop c,Q,β,w,s,a,ex,hF,h=>by
  obtain ⟨nf,I,n,⟨hI⟩,Vu⟩:=h
  refine wp_loop_ghost (fun n a w=>∃β s,Ext β0 aB w0 β s.bx w∧Fr G N ds β w X s a∧I n s) n ?_ ?_
  ·split at hI
   ·rename_i s' hn
    obtain ⟨β',e1,Sq⟩:=yl hn hF
    exact ⟨β',s',ex.PD hK e1,Sq,hI⟩
   exact hI.elim
  rintro n a w ⟨β,s,ex,hF,hI⟩
  refine wp_mono (eY hT hD hK c _ β w s a ex hF (Vu n s hI)) ?_
  intro e a' w' hl
  cases e<;>simp only [dY,mY] at hl
  ·obtain ⟨β',s',h1,h2,⟨h3⟩⟩:=hl
   split at h3
   ·rename_i s'' hn
    obtain ⟨m,h4,h5⟩:=h3
    obtain ⟨β'',e1,Sq⟩:=yl hn h2
    exact ⟨m,h4,β'',s'',h1.PD hK e1,Sq,h5⟩
   exact h3.elim
  ·exact hl
  ·exact hl
  exact hl
 |.exit id,Q,β,w,s,a,ex,hF,h=>wp_exit ⟨β,s,ex,hF,h⟩
 |.label l,Q,β,w,s,a,ex,hF,h=>wp_label ⟨β,s,ex,hF,h⟩
 |.ret,Q,β,w,s,a,ex,hF,h=>wp_ret ⟨β,s,ex,hF,h⟩
theorem oX {results:List ResultVar} {n:Nat} {res:ff} {aF:List ar} {e:Ex} {s:St} (h:jB t0 T results n res aF e s):CF T results n res aF e s:=by
 unfold jB at h
 split at h
 ·exact h.elim
 ·exact h
 rename_i h1 h2
 unfold CF
 split
 ·exact absurd rfl (h1 _)
 ·exact absurd rfl (h2 _)
 split at h
 ·rename_i c vs hr
  simp only [hr]
  obtain ⟨hc,h⟩:=h
  refine ⟨hc,?_⟩
  rcases h with h|⟨ks,d,u,k1,k2,k3⟩|h|h
  ·exact .inl h
  ·exact .inr (.inl ⟨ks,u,Jy k1 k2,k3⟩)
  ·exact .inr (.inr (.inl h))
  exact .inr (.inr (.inr h))
 exact h.elim
theorem yW (hT:iz P T) (hD:kQ P T G) {f N:Nat} {fn:Func} {c:Code} {args:List AV} {aB aF:List ar} {res:ff} (hf:P.funcs[f]?=some fn) (hb:fn.body=some c)
 (hname:(fn.name== "runtime.NumGoroutine")=false) (hN:fn.ntmps=N) (hlen:Nat.ble args.length N=true)
 (h:qP t0 (aZ P G) T G N aB.length c (jB t0 T fn.results.toList aB.length res aF) ⟨gm 0 args,aB⟩):aZ P G f args aB res aF:=
 uV hT hf hb hname hN hlen fun β w X a hF=>wp_mono (eY (X:=X) (β0:=β) (aB:=aB) (w0:=w) hT hD (Nat.le_refl _) c _ β w ⟨gm 0 args,aB⟩ a (Ext.refl _ _ _) hF h)
  fun _ _ _ hl=>dY.imp (fun _ _ hq=>oX hq) hl
end
end Dem
end
section
open Go
namespace Dem
def jC (bX:List Nat) (n:Nat) (j:Nat):Option Nat:=match bX[j]? with
 |some i=>some i
 |none=>some (n+(j-bX.length))
def rY (bX:List Nat) (n:Nat) (aB:List ar):Nat→List ar→Option (List ar)
 |_,[]=>some []
 |i,b::r=>match dx i bX 0 with
  |some j=>match aB[j]? with
   |some b0=>match ar.hY (jC bX n) b0,rY bX n aB (i+1) r with
    |some x,some xs=>some (x::xs)
    |_,_=>none
   |none=>none
  |none=>match rY bX n aB (i+1) r with
   |some xs=>some (b::xs)
   |none=>none
def vp (bX:List Nat) (n:Nat):List ar→Option (List ar)
 |[]=>some []
 |b::r=>match ar.hY (jC bX n) b,vp bX n r with
  |some x,some xs=>some (x::xs)
  |_,_=>none
def AO (bX:List Nat) (bx aB:List ar):Option (List ar):=
 bif Nat.ble bX.length aB.length&&Ew bX 0 bX then
  match rY bX bx.length aB 0 bx,vp bX bx.length (aB.drop bX.length) with
  |some a,some b=>some (a++b)
  |_,_=>none
 else none
def ff.hY (m:Nat→Option Nat):ff→Option ff
 |.ret v=>match v.hY m with
  |some x=>some (.ret x)
  |none=>none
 |.My v=>match v.hY m with
  |some x=>some (.My x)
  |none=>none
section
variable {P:Program} {G:Nat→Option (List D)}
theorem qR {bX:List Nat} {n:Nat} {aB:List ar}:∀{bx a:List ar} {i:Nat},rY bX n aB i bx=some a→a.length=bx.length∧∀(k:Nat) (b:ar),bx[k]?=some b→
 (∃j b0 b',dx (i+k) bX 0=some j∧aB[j]?=some b0∧ar.hY (jC bX n) b0=some b'∧a[k]?=some b')∨(dx (i+k) bX 0=none∧a[k]?=some b)
 |[],a,i,h=>by simp only [rY,osI] at h;subst h;simp
 |b::r,a,i,h=>by
  simp only [rY] at h
  split at h
  ·rename_i j hj
   split at h
   ·rename_i b0 hb0
    split at h
    ·rename_i x xs h1 h2
     simp only [osI] at h;subst h
     obtain ⟨k1,k2⟩:=qR h2
     refine ⟨by simp [k1],?_⟩
     intro k b1 hk
     cases k with
     |zero=>exact .inl ⟨j,b0,x,hj,hb0,h1,rfl⟩
     |succ k=>
      simp only [List.getElem?_cons_succ] at hk ⊢
      have:=k2 k b1 hk
      rwa [show i+1+k=i+(k+1) by omega] at this
    simp at h
   simp at h
  rename_i hj
  split at h
  ·rename_i xs h2
   simp only [osI] at h;subst h
   obtain ⟨k1,k2⟩:=qR h2
   refine ⟨by simp [k1],?_⟩
   intro k b1 hk
   cases k with
   |zero=>simp only [List.getElem?_cons_zero,osI] at hk;subst hk;exact .inr ⟨hj,rfl⟩
   |succ k=>
    simp only [List.getElem?_cons_succ] at hk ⊢
    have:=k2 k b1 hk
    rwa [show i+1+k=i+(k+1) by omega] at this
  simp at h
theorem ym {bX:List Nat} {n:Nat}:∀{bx a:List ar},vp bX n bx=some a→a.length=bx.length∧∀(k:Nat) (b:ar),bx[k]?=some b→∃b',ar.hY (jC bX n) b=some b'∧a[k]?=some b'
 |[],a,h=>by simp only [vp,osI] at h;subst h;simp
 |b::r,a,h=>by
  simp only [vp] at h
  split at h
  ·rename_i x xs h1 h2
   simp only [osI] at h;subst h
   obtain ⟨k1,k2⟩:=ym h2
   refine ⟨by simp [k1],?_⟩
   intro k b1 hk
   cases k with
   |zero=>simp only [List.getElem?_cons_zero,osI] at hk;subst hk;exact ⟨x,h1,rfl⟩
   |succ k=>simp only [List.getElem?_cons_succ] at hk ⊢;exact k2 k b1 hk
  simp at h
theorem fE {f:Nat} {args jD:List AV} {bx aB vq aF:List ar} {Vv res:ff} (bX:List Nat)
 (ha:AV.vn (fun b=>dx b bX 0) args=some jD) (hb:fu (fun b=>dx b bX 0) bx bX=some aB)
 (hr:ff.hY (jC bX bx.length) Vv=some res) (hb':AO bX bx vq=some aF) (h:aZ P G f jD aB Vv vq):aZ P G f args bx res aF:=by
 intro β w vs X cx hx
 unfold AO at hb'
 cases hlen:Nat.ble bX.length vq.length with
 |false=>simp [hlen] at hb'
 |true=>
 cases JA:Ew bX 0 bX with
 |false=>simp [hlen,JA] at hb'
 |true=>
 simp only [hlen,JA,Bool.and_self,cond_true] at hb'
 split at hb'
 case h_2=>simp at hb'
 rename_i aO aN hO hN
 simp only [osI] at hb'
 subst hb'
 have hlen':bX.length≤vq.length:=Nat.le_of_ble_eq_true hlen
 obtain ⟨lO,gO⟩:=qR hO
 obtain ⟨lN,gN⟩:=ym hN
 have vo:∀k i,bX[k]?=some i→dx i bX 0=some k:=fun k i hk=>by have:=rW JA hk;simpa using this
 have hidx:∀b j,dx b bX 0=some j→bX[j]?=some b:=fun b j hj=>by have:=(tQ hj).2;simpa using this
 have PI:∀k i,bX[k]?=some i→∃b,bx[i]?=some b:=fun k i hk=>by
  obtain ⟨b,_,h1,_⟩:=m7 hb k i hk;exact ⟨b,h1⟩
 let β0:Nat→Nat:=fun j=>match bX[j]? with|some i=>β i|none=>0
 let X0:Nat→Prop:=fun az=>X az∨∃(i:Nat) (b:ar),bx[i]?=some b∧b.live=true∧dx i bX 0=none∧β i=az
 have Vw:∀k i,bX[k]?=some i→β0 k=β i:=fun k i hk=>by simp [β0,hk]
 have hm:∀b j,dx b bX 0=some j→β0 j=β b∧(bT bx b→bT aB j):=by
  intro b j hj
  have hs:=hidx b j hj
  refine ⟨Vw j b hs,?_⟩
  rintro ⟨B,hB,c8⟩
  obtain ⟨b1,b2,k1,k2,k3⟩:=m7 hb j b hs
  rw [hB] at k1;cases k1
  exact ⟨b2,k3,(ar.fM k2).1.trans c8⟩
 have tV:∀(i:Nat) (b:ar),aB[i]?=some b→b.live=true→∃(j:Nat) (b':ar),bx[j]?=some b'∧b'.live=true∧β j=β0 i∧bX[i]?=some j:=by
  intro i b hi hl
  obtain ⟨j,b',k1,k2,k3⟩:=iP hb i b hi
  exact ⟨j,b',k2,(ar.fM k3).2▸hl,(Vw i j k1).symm,k1⟩
 have PJ:∀az,aY β bx w X az→aY β0 aB w X0 az:=by
  rintro az ⟨k1,k2,k3⟩
  refine ⟨k1,?_,?_⟩
  ·rintro (hX|⟨i,b,h1,h2,_,h3⟩)
   ·exact k2 hX
   exact k3 i b h1 h2 h3
  intro i b hi hl
  obtain ⟨j,b',h3,h4,h5,_⟩:=tV i b hi hl
  rw [←h5];exact k3 j b' h3 h4
 have EA:jz w w (aY β bx w X) (aY β0 aB w X0):=fun az hb=>⟨PJ az hb,rfl⟩
 have hlt:∀(i:Nat) (b:ar),bx[i]?=some b→b.live=true→β i<w.heap.size:=fun i b h hl=>dw.eH (cx.box i b h) hl
 have W3:cr G β0 aB w X0:=by
  refine ⟨?_,?_,?_,?_,?_⟩
  ·rintro az (hX|⟨i,b,h1,h2,_,rfl⟩)
   ·exact cx.xs az hX
   exact hlt i b h1 h2
  ·intro g ds hg
   obtain ⟨k1,k2⟩:=cx.zK g ds hg
   exact ⟨PJ g k1,aW.mono EA g (fun _=>rfl) _ _ k2⟩
  ·intro i j bi bj hi hj nN pZ he
   obtain ⟨i',Z6,a1,a2,a3,a4⟩:=tV i bi hi nN
   obtain ⟨j',Z7,c1,c2,c3,c4⟩:=tV j bj hj pZ
   have:i'=j':=cx.inj i' j' Z6 Z7 a1 c1 a2 c2 (a3.trans (he.trans c3.symm))
   subst this
   have e1:=vo i i' a4
   have e2:=vo j i' c4
   rw [e1] at e2;exact Option.some.inj e2
  ·intro i b hi
   obtain ⟨j,b',k1,k2,k3⟩:=iP hb i b hi
   have F3:=cx.box j b' k2
   rw [Vw i j k1]
   cases b' with
   |var cs=>
    simp only [ar.hY] at k3
    split at k3
    ·rename_i ys hys
     simp only [osI] at k3;subst k3
     simp only [dw] at F3 ⊢
     obtain ⟨c,e,g1,g2⟩:=F3
     exact ⟨c,e,g1,kK hm PJ cs ys _ hys g2⟩
    simp at k3
   |row sz es=>
    simp only [ar.hY,osI] at k3;subst k3
    refine F3.imp id ?_
    rintro ⟨c,e,g1,g2⟩
    exact ⟨c,e,g1,an.mono EA _ _ (fun _=>rfl) _ _ g2⟩
   |nP sz es=>
    simp only [ar.hY,osI] at k3;subst k3
    refine F3.imp id ?_
    rintro ⟨g1,g2⟩
    exact ⟨PJ _ g1,an.mono EA _ _ (fun _=>rfl) _ _ g2⟩
   |it s p=>simp only [ar.hY,osI] at k3;subst k3;exact F3
   |mp ag es=>simp only [ar.hY,osI] at k3;subst k3;obtain ⟨ms,clock,h1,h2,h3⟩:=F3;exact ⟨ms,clock,h1,h2,be.mono EA _ _ _ h3⟩
   |dead=>simp only [ar.hY,osI] at k3;subst k3;trivial
   |bt=>simp only [ar.hY,osI] at k3;subst k3;trivial
  intro i b hi hl
  obtain ⟨j,b',h3,h4,h5,h6⟩:=tV i b hi hl
  rw [←h5]
  rintro (hX|⟨i2,b2,e1,e2,e3,e4⟩)
  ·exact cx.apart j b' h3 h4 hX
  have:i2=j:=cx.inj i2 j b2 b' e1 h3 e2 h4 e4
  subst this
  rw [vo i i2 h6] at e3;cases e3
 refine jA.mono (h β0 w vs X0 W3 (kK hm PJ args jD vs ha hx)) ?_
 rintro e w' ⟨JB,sJ,SH,hres⟩
 let β':Nat→Nat:=fun i=>match dx i bX 0 with|some j=>JB j|none=>if i<bx.length then β i else JB (bX.length+(i-bx.length))
 have XI:∀j i,bX[j]?=some i→i<bx.length:=fun j i hj=>by obtain ⟨b,hb⟩:=PI j i hj;exact iM hb
 have XJ:∀k,dx (bx.length+k) bX 0=none:=by
  intro k
  cases hc:dx (bx.length+k) bX 0 with
  |none=>rfl
  |some j=>have:=XI j _ (hidx _ _ hc);omega
 have XK:∀i j,dx i bX 0=some j→β' i=JB j:=fun i j hj=>by simp [β',hj]
 have JC:∀i,i<bx.length→dx i bX 0=none→β' i=β i:=fun i hi hn=>by simp [β',hi,hn]
 have Z8:∀k,β' (bx.length+k)=JB (bX.length+k):=fun k=>by simp [β',XJ k];omega
 have PK:∀(i:Nat),i<bx.length→(aO++aN)[i]?=aO[i]?:=fun i hi=>List.getElem?_append_left (by omega)
 have UK:∀(k:Nat),(aO++aN)[bx.length+k]?=aN[k]?:=fun k=>by rw [List.getElem?_append_right (by omega),lO];congr 1;omega
 have hinv:∀(i:Nat) (b:ar),(aO++aN)[i]?=some b→(i<bx.length∧dx i bX 0=none∧bx[i]?=some b)∨
  (∃(j:Nat) (b0:ar),vq[j]?=some b0∧ar.hY (jC bX bx.length) b0=some b∧jC bX bx.length j=some i):=by
  intro i b hi
  rcases Nat.lt_or_ge i bx.length with hl|hl
  ·rw [PK i hl] at hi
   obtain ⟨bi,zg⟩:∃bi,bx[i]?=some bi:=⟨bx[i],by simp [hl]⟩
   have:=gO i bi zg
   rw [Nat.zero_add] at this
   rcases this with ⟨j,b0,b',k1,k2,k3,k4⟩|⟨k1,k2⟩
   ·rw [hi] at k4;cases k4
    refine .inr ⟨j,b0,k2,k3,?_⟩
    simp [jC,hidx i j k1]
   rw [hi] at k2;cases k2
   exact .inl ⟨hl,k1,zg⟩
  obtain ⟨k,rfl⟩:∃k,i=bx.length+k:=⟨i-bx.length,by omega⟩
  rw [UK k] at hi
  have hk:k<aN.length:=by
   rcases Nat.lt_or_ge k aN.length with h'|h'
   ·exact h'
   simp [List.getElem?_eq_none h'] at hi
  have hkd:k<(vq.drop bX.length).length:=by omega
  obtain ⟨b',k1,k2⟩:=gN k _ (List.getElem?_eq_getElem hkd)
  rw [hi] at k2;cases k2
  refine .inr ⟨bX.length+k,(vq.drop bX.length)[k],?_,k1,?_⟩
  ·rw [←List.getElem?_drop];exact List.getElem?_eq_getElem hkd
  simp [jC]
 have AP:∀j i,jC bX bx.length j=some i→β' i=JB j∧(bT vq j→bT (aO++aN) i):=by
  intro j i hj
  unfold jC at hj
  split at hj
  ·rename_i i' hs
   simp only [osI] at hj;subst hj
   obtain ⟨bi,zg⟩:=PI j i' hs
   have hil:=iM zg
   refine ⟨XK i' j (vo j i' hs),?_⟩
   rintro ⟨b0,e1,e2⟩
   have:=gO i' bi zg
   rw [Nat.zero_add,vo j i' hs] at this
   rcases this with ⟨j2,b02,b',c1,c2,c3,c4⟩|⟨c1,_⟩
   ·cases c1
    rw [e1] at c2;cases c2
    exact ⟨b',by rw [PK i' hil];exact c4,(ar.fM c3).1.trans e2⟩
   cases c1
  rename_i hs
  simp only [osI] at hj;subst hj
  have hge:bX.length≤j:=by
   rcases Nat.lt_or_ge j bX.length with h'|h'
   ·simp [h'] at hs
   exact h'
  refine ⟨by rw [Z8];congr 1;omega,?_⟩
  rintro ⟨b0,e1,e2⟩
  have hd:(vq.drop bX.length)[j-bX.length]?=some b0:=by rw [List.getElem?_drop];rw [←e1];congr 1;omega
  obtain ⟨b',c1,c2⟩:=gN _ _ hd
  exact ⟨b',by rw [UK];exact c2,(ar.fM c1).1.trans e2⟩
 have PL:∀az,aY JB vq w' X0 az→aY β' (aO++aN) w' X az:=by
  rintro az ⟨k1,k2,k3⟩
  refine ⟨k1,fun hX=>k2 (.inl hX),?_⟩
  intro i b hi hl
  rcases hinv i b hi with ⟨c1,c2,c3⟩|⟨j,b0,c1,c2,c3⟩
  ·rw [JC i c1 c2]
   exact fun he=>k2 (.inr ⟨i,b,c3,hl,c2,he⟩)
  rw [(AP j i c3).1]
  exact k3 j b0 c1 ((ar.fM c2).2▸hl)
 have JD:jz w' w' (aY JB vq w' X0) (aY β' (aO++aN) w' X):=fun az hb=>⟨PL az hb,rfl⟩
 have ex:Ext β bx w β' (aO++aN) w':=by
  refine ⟨sJ.os,sJ.tape,sJ.output,sJ.size,?_,sJ.shape,?_,?_⟩
  ·intro k hk hl
   refine sJ.block k hk ?_
   intro i b hi hlv
   obtain ⟨j,b',h3,h4,h5,_⟩:=tV i b hi hlv
   rw [←h5];exact hl j b' h3 h4
  ·intro i hi
   obtain ⟨b,Fy,Cd⟩:=hi
   have hil:=iM Fy
   cases hc:dx i bX 0 with
   |some j=>
    obtain ⟨k1,k2⟩:=hm i j hc
    obtain ⟨c1,c2⟩:=sJ.born j (k2 ⟨b,Fy,Cd⟩)
    have hbm:jC bX bx.length j=some i:=by simp [jC,hidx i j hc]
    exact ⟨by rw [XK i j hc,c1,k1],(AP j i hbm).2 c2⟩
   |none=>
    refine ⟨JC i hil hc,b,?_,Cd⟩
    rw [PK i hil]
    have:=gO i b Fy
    rw [Nat.zero_add,hc] at this
    rcases this with ⟨_,_,_,c1,_⟩|⟨_,c2⟩
    ·cases c1
    exact c2
  intro i b hi hl
  rcases hinv i b hi with ⟨c1,c2,c3⟩|⟨j,b0,c1,c2,c3⟩
  ·exact .inr ⟨i,b,c3,hl,(JC i c1 c2).symm⟩
  rw [(AP j i c3).1]
  rcases sJ.live j b0 c1 ((ar.fM c2).2▸hl) with h1|⟨j',b',h1,h2,h3⟩
  ·exact .inl h1
  obtain ⟨j2,b2,e1,e2,e3,_⟩:=tV j' b' h1 h2
  exact .inr ⟨j2,b2,e1,e2,e3.trans h3⟩
 refine ⟨β',ex,cx.step ex ?_ ?_,?_⟩
 ·intro i b hi
  rcases hinv i b hi with ⟨c1,c2,c3⟩|⟨j,b0,c1,c2,c3⟩
  ·refine .inl ⟨c3,fun hl=>sJ.block _ (hlt i b c3 hl) ?_⟩
   intro k b' hk hlk he
   obtain ⟨j,b2,h3,h4,h5,h6⟩:=tV k b' hk hlk
   have:j=i:=cx.inj j i b2 b h3 c3 h4 hl (h5.trans he)
   subst this
   rw [vo k j h6] at c2;cases c2
  refine .inr ?_
  have F3:=SH.box j b0 c1
  rw [(AP j i c3).1]
  cases b0 with
  |var cs=>
   simp only [ar.hY] at c2
   split at c2
   ·rename_i ys hys
    simp only [osI] at c2;subst c2
    simp only [dw] at F3 ⊢
    obtain ⟨c,e,g1,g2⟩:=F3
    exact ⟨c,e,g1,kK AP PL cs ys _ hys g2⟩
   simp at c2
  |row sz es=>
   simp only [ar.hY,osI] at c2;subst c2
   refine F3.imp id ?_
   rintro ⟨c,e,g1,g2⟩
   exact ⟨c,e,g1,an.mono JD _ _ (fun _=>rfl) _ _ g2⟩
  |nP sz es=>
   simp only [ar.hY,osI] at c2;subst c2
   refine F3.imp id ?_
   rintro ⟨g1,g2⟩
   exact ⟨PL _ g1,an.mono JD _ _ (fun _=>rfl) _ _ g2⟩
  |it s p=>simp only [ar.hY,osI] at c2;subst c2;exact F3
  |mp ag es=>simp only [ar.hY,osI] at c2;subst c2;obtain ⟨ms,clock,h1,h2,h3⟩:=F3;exact ⟨ms,clock,h1,h2,be.mono JD _ _ _ h3⟩
  |dead=>simp only [ar.hY,osI] at c2;subst c2;trivial
  |bt=>simp only [ar.hY,osI] at c2;subst c2;trivial
 ·intro i j bi bj hi hj nN pZ he
  rcases hinv i bi hi with ⟨c1,c2,c3⟩|⟨i',b0,c1,c2,c3⟩<;>rcases hinv j bj hj with ⟨d1,d2,d3⟩|⟨j',b0',d1,d2,d3⟩
  ·rw [JC i c1 c2,JC j d1 d2] at he
   exact cx.inj i j bi bj c3 d3 nN pZ he
  ·rw [JC i c1 c2,(AP j' j d3).1] at he
   exact absurd (.inr ⟨i,bi,c3,nN,c2,he⟩) (SH.apart j' b0' d1 ((ar.fM d2).2▸pZ))
  ·rw [(AP i' i c3).1,JC j d1 d2] at he
   exact absurd (.inr ⟨j,bj,d3,pZ,d2,he.symm⟩) (SH.apart i' b0 c1 ((ar.fM c2).2▸nN))
  rw [(AP i' i c3).1,(AP j' j d3).1] at he
  have:=SH.inj i' j' b0 b0' c1 d1 ((ar.fM c2).2▸nN) ((ar.fM d2).2▸pZ) he
  subst this
  rw [c3] at d3;exact Option.some.inj d3
 cases Vv with
 |ret v0=>
  simp only [ff.hY] at hr
  split at hr
  ·rename_i v hv
   simp only [osI] at hr;subst hr
   cases e with
   |returned u=>exact rX AP PL v0 v u hv hres
   |panicked ch=>exact hres.elim
   |outgrown=>exact hres.elim
  simp at hr
 |My v0=>
  simp only [ff.hY] at hr
  split at hr
  ·rename_i v hv
   simp only [osI] at hr;subst hr
   cases e with
   |returned u=>exact hres.elim
   |panicked ch=>
    obtain ⟨u,k1,k2⟩:=hres
    exact ⟨u,k1,rX AP PL v0 v u hv k2⟩
   |outgrown=>exact hres.elim
  simp at hr
end
end Dem
end
