/- Parts of a proof, joined. -/
import Derived.Test.YtihohjnkkalgiaaGreatDoorP11
set_option linter.all false
set_option maxRecDepth 100000
set_option maxHeartbeats 4000000
section
open Go
namespace Dem
mutual
def AV.iq (m:Nat→Option Nat):AV→Option AV
 |.any=>some .any
 |.d x=>some (.d x)
 |.k c=>some (.k c)
 |.agg cs=>match AV.wE m cs with
  |some ys=>some (.agg ys)
  |none=>none
 |.dL cs=>match AV.wE m cs with
  |some ys=>some (.dL ys)
  |none=>none
 |.ptr b off=>match m b with
  |some j=>some (.ptr j off)
  |none=>none
 |.rp b sz i q=>match m b with
  |some j=>some (.rp j sz i q)
  |none=>none
 |.ep ds=>some (.ep ds)
 |.ow b sz n=>match m b with
  |some j=>some (.ow j sz n)
  |none=>none
 |.vw b sz off n c ex=>match m b with
  |some j=>some (.vw j sz off n c ex)
  |none=>none
 |.cl es=>some (.cl es)
 |.zP b=>match m b with
  |some j=>some (.zP j)
  |none=>none
 |.fn f cs=>match AV.wE m cs with
  |some ys=>some (.fn f ys)
  |none=>none
 |.qx t x=>match AV.iq m x with
  |some y=>some (.qx t y)
  |none=>none
 |.cond p x=>match AV.iq m x with
  |some y=>some (.cond p y)
  |none=>none
def AV.wE (m:Nat→Option Nat):List AV→Option (List AV)
 |[]=>some []
 |x::xs=>match AV.iq m x,AV.wE m xs with
  |some y,some ys=>some (y::ys)
  |_,_=>none
end
mutual
def AV.refs:AV→List Nat
 |.ptr b _=>[b]
 |.rp b _ _ _=>[b]
 |.ow b _ _=>[b]
 |.vw b _ _ _ _ _=>[b]
 |.zP b=>[b]
 |.agg cs=>AV.yw cs
 |.dL cs=>AV.yw cs
 |.fn _ cs=>AV.yw cs
 |.qx _ x=>AV.refs x
 |.cond _ x=>AV.refs x
 |_=>[]
def AV.yw:List AV→List Nat
 |[]=>[]
 |x::xs=>AV.refs x++AV.yw xs
end
def QX (b:Nat):List Nat→Bool
 |[]=>false
 |x::r=>bif Nat.beq b x then true else QX b r
def dU (b:Nat):List Nat→Nat→Option Nat
 |[],_=>none
 |x::r,i=>bif Nat.beq b x then some i else dU b r (i+1)
def reach (bx:List ay):Nat→List Nat→List Nat→List Nat
 |0,_,acc=>acc
 |_+1,[],acc=>acc
 |n+1,b::todo,acc=>bif QX b acc then reach bx n todo acc else
  reach bx n (todo++(match bx[b]? with|some (.var cs)=>AV.yw cs|_=>[])) (acc++[b])
def ay.iq (m:Nat→Option Nat):ay→Option ay
 |.var cs=>match AV.wE m cs with
  |some ys=>some (.var ys)
  |none=>none
 |b=>some b
def fZ (m:Nat→Option Nat) (bx:List ay):List Nat→Option (List ay)
 |[]=>some []
 |i::r=>match bx[i]? with
  |some b=>match ay.iq m b,fZ m bx r with
   |some b',some bs=>some (b'::bs)
   |_,_=>none
  |none=>none
def Ee (m:Nat→Option Nat) (sl:List (Nat×AV)):List Nat→Option (List (Nat×AV))
 |[]=>some []
 |i::r=>match AV.iq m (fU i sl),Ee m sl r with
  |some y,some ys=>some ((i,y)::ys)
  |_,_=>none
def B8 (bZ:List Nat):Nat→List Nat→Bool
 |_,[]=>true
 |i,b::r=>(match dU b bZ 0 with|some j=>Nat.beq i j|none=>false)&&B8 bZ (i+1) r
def upTo:Nat→List Nat
 |0=>[]
 |n+1=>upTo n++[n]
def Mp (K:Nat) (ks:List Nat) (s:St):Option St:=
 match reach s.bx 99 (upTo K++AV.yw (ks.map fun i=>fU i s.sl)) [] with
 |bZ=>bif B8 bZ 0 bZ&&B8 bZ 0 (upTo K) then
  match fZ (fun b=>dU b bZ 0) s.bx bZ,Ee (fun b=>dU b bZ 0) s.sl ks with
  |some bx,some sl=>some ⟨sl,bx⟩
  |_,_=>none
  else none
structure Nf where
 ks:List Nat
 os:List (Nat×Nat):=[]
 ob:List (Nat×Nat×Nat):=[]
def Gu (s:St):List (Nat×Nat)→St
 |[]=>s
 |(i,sz)::r=>match fU i s.sl with
  |.cl []=>bif Nat.beq sz 0 then Gu ⟨put i (.d (.sl [])) s.sl,s.bx⟩ r else Gu ⟨put i (.ow s.bx.length sz 0) s.sl,s.bx++[.row sz []]⟩ r
  |_=>Gu s r
def Ef (s:St):List (Nat×Nat×Nat)→St
 |[]=>s
 |(b,c,sz)::r=>match s.bx[b]? with
  |some (.var cs)=>match cs[c]? with
   |some (.cl [])=>bif Nat.beq sz 0 then Ef ⟨s.sl,s.bx.set b (.var (cs.set c (.d (.sl []))))⟩ r
    else Ef ⟨s.sl,(s.bx++[ay.row sz []]).set b (.var (cs.set c (.ow s.bx.length sz 0)))⟩ r
   |_=>Ef s r
  |_=>Ef s r
def vO (K:Nat) (nf:Nf) (s:St):Option St:=Mp K nf.ks (Ef (Gu s nf.os) nf.ob)
section
variable {G:Nat→Option (List D)} {N:Nat} {ds:List Deferred} {β β':Nat→Nat} {bx aP:List ay} {w:World} {X:Nat→Prop}
structure rG (K:Nat) (β:Nat→Nat) (bx:List ay) (β':Nat→Nat) (aP:List ay):Prop where
 born:∀i,i<K→bT bx i→β' i=β i∧bT aP i
 live:∀i b,aP[i]?=some b→b.live=true→∃j b',bx[j]?=some b'∧b'.live=true∧β j=β' i
theorem rG.refl (K:Nat) (β:Nat→Nat) (bx:List ay):rG K β bx β bx:=⟨fun _ _ h=>⟨rfl,h⟩,fun i b h1 h2=>⟨i,b,h1,h2,rfl⟩⟩
theorem rG.trans {K:Nat} {β'':Nat→Nat} {Lq:List ay} (h:rG K β bx β' aP) (g:rG K β' aP β'' Lq):rG K β bx β'' Lq:=by
 refine ⟨?_,?_⟩
 ·intro i hi hb
  obtain ⟨h1,h2⟩:=h.born i hi hb
  obtain ⟨h3,h4⟩:=g.born i hi h2
  exact ⟨h3.trans h1,h4⟩
 intro i b h1 h2
 obtain ⟨j,b',h3,h4,h5⟩:=g.live i b h1 h2
 obtain ⟨k,b'',h6,h7,h8⟩:=h.live j b' h3 h4
 exact ⟨k,b'',h6,h7,h8.trans h5⟩
theorem Ext.yx {K:Nat} {β0:Nat→Nat} {aI:List ay} {w0:World} (ex:Ext β0 aI w0 β bx w) (hK:aI.length≤K) (h:rG K β bx β' aP):Ext β0 aI w0 β' aP w:=by
 refine ⟨ex.os,ex.tape,ex.output,ex.size,ex.block,ex.shape,?_,?_⟩
 ·intro i hi
  obtain ⟨h1,h2⟩:=ex.born i hi
  obtain ⟨b,hb,_⟩:=hi
  obtain ⟨h3,h4⟩:=h.born i (Nat.lt_of_lt_of_le (iH hb) hK) h2
  exact ⟨h3.trans h1,h4⟩
 intro i b h1 h2
 obtain ⟨j,b',h3,h4,h5⟩:=h.live i b h1 h2
 rw [←h5]
 exact ex.live j b' h3 h4
theorem rH {b:Nat}:∀{l:List Nat} {i j:Nat},dU b l i=some j→i≤j∧l[j-i]?=some b
 |[],_,_,h=>by simp [dU] at h
 |x::r,i,j,h=>by
  simp only [dU] at h
  cases hb:Nat.beq b x with
  |true=>
   simp only [hb,cond_true,osI] at h
   subst h
   have:=Nat.eq_of_beq_eq_true hb
   subst this
   simp
  |false=>
   simp only [hb,cond_false] at h
   obtain ⟨h1,h2⟩:=rH h
   refine ⟨by omega,?_⟩
   rw [show j-i=(j-(i+1))+1 by omega,List.getElem?_cons_succ]
   exact h2
theorem qf {bZ:List Nat}:∀{l:List Nat} {i k b:Nat},B8 bZ i l=true→l[k]?=some b→dU b bZ 0=some (i+k)
 |[],_,_,_,_,h=>by simp at h
 |x::r,i,k,b,h,hk=>by
  simp only [B8,Bool.and_eq_true] at h
  cases k with
  |zero=>
   simp only [List.getElem?_cons_zero,osI] at hk
   subst hk
   obtain ⟨h1,_⟩:=h
   split at h1
   ·rename_i j hj
    rw [hj,←Nat.eq_of_beq_eq_true h1];rfl
   simp at h1
  |succ k=>
   rw [List.getElem?_cons_succ] at hk
   have:=qf h.2 hk
   rw [this];congr 1;omega
theorem Eg:∀{n i:Nat},i<n→(upTo n)[i]?=some i
 |n+1,i,h=>by
  have hl:(upTo n).length=n:=by
   clear h;induction n with
   |zero=>rfl
   |succ m ih=>simp [upTo,ih]
  simp only [upTo]
  by_cases hi:i<n
  ·rw [List.getElem?_append_left (by omega)];exact Eg hi
  have:i=n:=by omega
  subst this
  rw [List.getElem?_append_right (by omega)];simp [hl]
mutual
theorem qg {m:Nat→Option Nat} {ok ok':Nat→Prop} (hm:∀b j,m b=some j→β' j=β b∧(bT bx b→bT aP j)) (hok:∀blk,ok blk→ok' blk):
 ∀(x y:AV) (v:Value),x.iq m=some y→aj β bx w ok x v→aj β' aP w ok' y v
 |.any,y,v,h,_=>by simp only [AV.iq,osI] at h;subst h;simp [aj]
 |.d x,y,v,h,hv=>by
  simp only [AV.iq,osI] at h;subst h;simp only [aj] at hv ⊢
  exact aF.mono (fun blk hb=>⟨hok blk hb,rfl⟩) _ _ hv
 |.k c,y,v,h,hv=>by simp only [AV.iq,osI] at h;subst h;simpa [aj] using hv
 |.agg cs,y,v,h,hv=>by
  simp only [AV.iq] at h
  split at h
  ·rename_i ys hys
   simp only [osI] at h;subst h
   simp only [aj] at hv ⊢;obtain ⟨vs,h1,h2⟩:=hv
   exact ⟨vs,h1,jW hm hok cs ys vs hys h2⟩
  simp at h
 |.dL cs,y,v,h,hv=>by
  simp only [AV.iq] at h
  split at h
  ·rename_i ys hys
   simp only [osI] at h;subst h
   simp only [aj] at hv ⊢;obtain ⟨vs,h1,h2⟩:=hv
   exact ⟨vs,h1,jW hm hok cs ys vs hys h2⟩
  simp at h
 |.ptr b off,y,v,h,hv=>by
  simp only [AV.iq] at h
  split at h
  ·rename_i j hj
   simp only [osI] at h;subst h
   obtain ⟨e,hb⟩:=hm b j hj
   simp only [aj] at hv ⊢
   rw [e];exact ⟨hv.1,hb hv.2⟩
  simp at h
 |.rp b sz i q,y,v,h,hv=>by
  simp only [AV.iq] at h
  split at h
  ·rename_i j hj
   simp only [osI] at h;subst h
   obtain ⟨e,hb⟩:=hm b j hj
   simp only [aj] at hv ⊢
   rw [e];exact ⟨hv.1,hb hv.2⟩
  simp at h
 |.zP b,y,v,h,hv=>by
  simp only [AV.iq] at h
  split at h
  ·rename_i j hj
   simp only [osI] at h;subst h
   obtain ⟨e,hb⟩:=hm b j hj
   simp only [aj] at hv ⊢
   rw [e];exact ⟨hv.1,hb hv.2⟩
  simp at h
 |.ep ds,y,v,h,hv=>by
  simp only [AV.iq,osI] at h;subst h
  simp only [aj] at hv ⊢;obtain ⟨blk,off,h1,h2,h3⟩:=hv
  exact ⟨blk,off,h1,hok blk h2,aT.mono (fun blk hb=>⟨hok blk hb,rfl⟩) blk (fun _=>rfl) _ _ h3⟩
 |.ow b sz n,y,v,h,hv=>by
  simp only [AV.iq] at h
  split at h
  ·rename_i j hj
   simp only [osI] at h;subst h
   obtain ⟨e,hb⟩:=hm b j hj
   simp only [aj] at hv ⊢
   rw [e];exact ⟨hb hv.1,hv.2⟩
  simp at h
 |.vw b sz off n c ex,y,v,h,hv=>by
  simp only [AV.iq] at h
  split at h
  ·rename_i j hj
   simp only [osI] at h;subst h
   obtain ⟨e,hb⟩:=hm b j hj
   simp only [aj] at hv ⊢
   rw [e];exact ⟨hb hv.1,hv.2⟩
  simp at h
 |.cl es,y,v,h,hv=>by
  simp only [AV.iq,osI] at h;subst h
  simp only [aj] at hv ⊢;obtain ⟨base,h1,h2⟩:=hv
  refine ⟨base,h1,h2.imp id ?_⟩
  rintro ⟨blk,off,sz,e1,e2,e3⟩
  exact ⟨blk,off,sz,e1,hok blk e2,ap.mono (fun blk hb=>⟨hok blk hb,rfl⟩) blk sz (fun _=>rfl) _ _ e3⟩
 |.fn f cs,y,v,h,hv=>by
  simp only [AV.iq] at h
  split at h
  ·rename_i ys hys
   simp only [osI] at h;subst h
   simp only [aj] at hv ⊢;obtain ⟨vs,h1,h2⟩:=hv
   exact ⟨vs,h1,jW hm hok cs ys vs hys h2⟩
  simp at h
 |.qx t x,y,v,h,hv=>by
  simp only [AV.iq] at h
  split at h
  ·rename_i z hz
   simp only [osI] at h;subst h
   simp only [aj] at hv ⊢;obtain ⟨u,h1,h2⟩:=hv
   exact ⟨u,h1,qg hm hok x z u hz h2⟩
  simp at h
 |.cond p x,y,v,h,hv=>by
  simp only [AV.iq] at h
  split at h
  ·rename_i z hz
   simp only [osI] at h;subst h
   simp only [aj] at hv ⊢
   exact ⟨fun hp=>qg hm hok x z v hz (hv.1 hp),hv.2⟩
  simp at h
theorem jW {m:Nat→Option Nat} {ok ok':Nat→Prop} (hm:∀b j,m b=some j→β' j=β b∧(bT bx b→bT aP j)) (hok:∀blk,ok blk→ok' blk):
 ∀(xs ys:List AV) (vs:List Value),AV.wE m xs=some ys→ak β bx w ok xs vs→ak β' aP w ok' ys vs
 |[],ys,vs,h,hv=>by simp only [AV.wE,osI] at h;subst h;simpa [ak] using hv
 |x::xs,ys,vs,h,hv=>by
  simp only [AV.wE] at h
  split at h
  ·rename_i y ys' h1 h2
   simp only [osI] at h;subst h
   simp only [ak] at hv ⊢
   obtain ⟨u,us,k1,k2,k3⟩:=hv
   exact ⟨u,us,k1,qg hm hok x y u h1 k2,jW hm hok xs ys' us h2 k3⟩
  simp at h
end
theorem iL {m:Nat→Option Nat}:∀{bZ:List Nat} {bs:List ay},fZ m bx bZ=some bs→∀(k:Nat) (b':ay),bs[k]?=some b'→∃(i:Nat) (b:ay),bZ[k]?=some i∧bx[i]?=some b∧ay.iq m b=some b'
 |[],bs,h,k,b',hk=>by simp only [fZ,osI] at h;subst h;simp at hk
 |i::r,bs,h,k,b',hk=>by
  simp only [fZ] at h
  split at h
  ·rename_i b hb
   split at h
   ·rename_i b1 Zi h1 h2
    simp only [osI] at h;subst h
    cases k with
    |zero=>simp only [List.getElem?_cons_zero,osI] at hk;subst hk;exact ⟨i,b,rfl,hb,h1⟩
    |succ k=>simp only [List.getElem?_cons_succ] at hk ⊢;exact iL h2 k b' hk
   simp at h
  simp at h
theorem mg {m:Nat→Option Nat}:∀{bZ:List Nat} {bs:List ay},fZ m bx bZ=some bs→∀(k i:Nat),bZ[k]?=some i→∃(b b':ay),bx[i]?=some b∧ay.iq m b=some b'∧bs[k]?=some b'
 |[],bs,h,k,i,hk=>by simp at hk
 |i0::r,bs,h,k,i,hk=>by
  simp only [fZ] at h
  split at h
  ·rename_i b hb
   split at h
   ·rename_i b1 Zi h1 h2
    simp only [osI] at h;subst h
    cases k with
    |zero=>simp only [List.getElem?_cons_zero,osI] at hk;subst hk;exact ⟨b,b1,hb,h1,rfl⟩
    |succ k=>simp only [List.getElem?_cons_succ] at hk ⊢;exact mg h2 k i hk
   simp at h
  simp at h
theorem ay.fH {m:Nat→Option Nat} {b b':ay} (h:ay.iq m b=some b'):b'.born=b.born∧b'.live=b.live:=by
 unfold ay.iq at h
 split at h
 ·split at h
  ·simp only [osI] at h;subst h;exact ⟨rfl,rfl⟩
  simp at h
 simp only [osI] at h;subst h;exact ⟨rfl,rfl⟩
theorem AS {m:Nat→Option Nat} {sl:List (Nat×AV)}:∀{ks:List Nat} {qB:List (Nat×AV)},Ee m sl ks=some qB→∀t,fU t qB=.any∨AV.iq m (fU t sl)=some (fU t qB)
 |[],qB,h,t=>by simp only [Ee,osI] at h;subst h;exact .inl rfl
 |i::r,qB,h,t=>by
  simp only [Ee] at h
  split at h
  ·rename_i y ys h1 h2
   simp only [osI] at h;subst h
   simp only [fU]
   cases hb:Nat.beq t i with
   |true=>have:=Nat.eq_of_beq_eq_true hb;subst this;exact .inr h1
   |false=>simp only [cond_false];exact AS h2 t
  simp at h
theorem Eh {K:Nat} {ks:List Nat} {s s':St} {a:Act} (h:Mp K ks s=some s') (hF:Fr G N ds β w X s a):
 ∃β',rG K β s.bx β' s'.bx∧Fr G N ds β' w X s' a:=by
 unfold Mp at h
 generalize reach s.bx 99 (upTo K++AV.yw (ks.map fun i=>fU i s.sl)) []=bZ at h
 simp only at h
 cases h1:B8 bZ 0 bZ with
 |false=>simp [h1] at h
 |true=>
 cases h2:B8 bZ 0 (upTo K) with
 |false=>simp [h1,h2] at h
 |true=>
 simp only [h1,h2,Bool.and_self,cond_true] at h
 split at h
 ·rename_i bs sl Wp Tj
  simp only [osI] at h
  subst h
  have tv:∀k i,bZ[k]?=some i→dU i bZ 0=some k:=fun k i hk=>by have:=qf h1 hk;simpa using this
  have hidx:∀b j,dU b bZ 0=some j→bZ[j]?=some b:=fun b j hj=>by have:=(rH hj).2;simpa using this
  let β':Nat→Nat:=fun j=>match bZ[j]? with|some i=>β i|none=>0
  have hβ:∀k i,bZ[k]?=some i→β' k=β i:=fun k i hk=>by simp [β',hk]
  have hm:∀b j,dU b bZ 0=some j→β' j=β b∧(bT s.bx b→bT bs j):=by
   intro b j hj
   have hs:=hidx b j hj
   refine ⟨hβ j b hs,?_⟩
   rintro ⟨B,hB,dG⟩
   obtain ⟨b1,b2,k1,k2,k3⟩:=mg Wp j b hs
   rw [hB] at k1;cases k1
   exact ⟨b2,k3,(ay.fH k2).1.trans dG⟩
  have bY:∀(i:Nat) (b:ay),bs[i]?=some b→b.live=true→∃(j:Nat) (b':ay),s.bx[j]?=some b'∧b'.live=true∧β j=β' i∧bZ[i]?=some j:=by
   intro i b hi hl
   obtain ⟨j,b',k1,k2,k3⟩:=iL Wp i b hi
   exact ⟨j,b',k2,(ay.fH k3).2▸hl,(hβ i j k1).symm,k1⟩
  have hok:∀blk,bc β s.bx w X blk→bc β' bs w X blk:=by
   rintro blk ⟨k1,k2,k3⟩
   refine ⟨k1,k2,?_⟩
   intro i b hi hl
   obtain ⟨j,b',h3,h4,h5,_⟩:=bY i b hi hl
   rw [←h5];exact k3 j b' h3 h4
  have hkeep:iC w w (bc β s.bx w X) (bc β' bs w X):=fun blk hb=>⟨hok blk hb,rfl⟩
  refine ⟨β',⟨?_,?_⟩,⟨?_,hF.defers,hF.size,?_⟩⟩
  ·intro i hi hb
   have:=qf h2 (Eg hi)
   simp only [Nat.zero_add] at this
   obtain ⟨k1,k2⟩:=hm i i this
   exact ⟨k1,k2 hb⟩
  ·intro i b hi hl
   obtain ⟨j,b',h3,h4,h5,_⟩:=bY i b hi hl
   exact ⟨j,b',h3,h4,h5⟩
  ·refine ⟨hF.cx.xs,?_,?_,?_,?_⟩
   ·intro g ds hg
    obtain ⟨k1,k2⟩:=hF.cx.wC g ds hg
    exact ⟨hok g k1,aT.mono hkeep g (fun _=>rfl) _ _ k2⟩
   ·intro i j bi bj hi hj lR nE he
    obtain ⟨i',Wq,a1,a2,a3,a4⟩:=bY i bi hi lR
    obtain ⟨j',Wr,c1,c2,c3,c4⟩:=bY j bj hj nE
    have:i'=j':=hF.cx.inj i' j' Wq Wr a1 c1 a2 c2 (a3.trans (he.trans c3.symm))
    subst this
    have e1:=tv i i' a4
    have e2:=tv j i' c4
    rw [e1] at e2;exact Option.some.inj e2
   ·intro i b hi
    obtain ⟨j,b',k1,k2,k3⟩:=iL Wp i b hi
    have hb:=hF.cx.box j b' k2
    rw [hβ i j k1]
    cases b' with
    |var cs=>
     simp only [ay.iq] at k3
     split at k3
     ·rename_i ys hys
      simp only [osI] at k3;subst k3
      simp only [c6] at hb ⊢
      obtain ⟨c,e,g1,g2⟩:=hb
      exact ⟨c,e,g1,jW hm hok cs ys _ hys g2⟩
     simp at k3
    |row sz es=>
     simp only [ay.iq,osI] at k3;subst k3
     refine hb.imp id ?_
     rintro ⟨c,e,g1,g2⟩
     exact ⟨c,e,g1,ap.mono hkeep _ _ (fun _=>rfl) _ _ g2⟩
    |mH sz es=>
     simp only [ay.iq,osI] at k3;subst k3
     refine hb.imp id ?_
     rintro ⟨g1,g2⟩
     exact ⟨hok _ g1,ap.mono hkeep _ _ (fun _=>rfl) _ _ g2⟩
    |it s p=>simp only [ay.iq,osI] at k3;subst k3;exact hb
    |mp ag es=>simp only [ay.iq,osI] at k3;subst k3;obtain ⟨ms,clock,h1,h2,h3⟩:=hb;exact ⟨ms,clock,h1,h2,bp.mono hkeep _ _ _ h3⟩
    |dead=>simp only [ay.iq,osI] at k3;subst k3;trivial
    |bt=>simp only [ay.iq,osI] at k3;subst k3;trivial
   intro i b hi hl
   obtain ⟨j,b',h3,h4,h5,_⟩:=bY i b hi hl
   rw [←h5];exact hF.cx.apart j b' h3 h4
  intro t
  rcases AS Tj t with h3|h3
  ·rw [h3];simp [aj]
  exact qg hm hok _ _ _ h3 (hF.xP t)
 simp at h
theorem Ei (K:Nat) {sz:Nat} {s:St} {a:Act} (hF:Fr G N ds β w X s a):∃β',rG K β s.bx β' (s.bx++[.row sz []])∧Fr G N ds β' w X ⟨s.sl,s.bx++[.row sz []]⟩ a∧bT (s.bx++[.row sz []]) s.bx.length:=by
 have hinv:∀{i:Nat} {b:ay},(s.bx++[ay.row sz []])[i]?=some b→b.live=true→s.bx[i]?=some b:=by
  intro i b h hl
  rcases bw h with ⟨h1,_⟩|⟨h1,h2⟩
  ·exact h1
  subst h2;simp [ay.live] at hl
 have hok:∀blk,bc β s.bx w X blk→bc β (s.bx++[.row sz []]) w X blk:=by
  rintro blk ⟨k1,k2,k3⟩
  exact ⟨k1,k2,fun i b hi hl=>k3 i b (hinv hi hl) hl⟩
 have dG:∀i,bT s.bx i→bT (s.bx++[.row sz []]) i:=by
  rintro i ⟨b,h1,h2⟩
  exact ⟨b,ee h1,h2⟩
 have hkeep:iC w w (bc β s.bx w X) (bc β (s.bx++[.row sz []]) w X):=fun blk hb=>⟨hok blk hb,rfl⟩
 have oO:qE β s.bx w (bc β s.bx w X) β (s.bx++[.row sz []]) w (bc β (s.bx++[.row sz []]) w X):=by
  refine ⟨hkeep,?_,fun _ c _ _ h=>⟨c,h,rfl⟩⟩
  intro i hi
  exact ⟨rfl,dG i hi⟩
 refine ⟨β,⟨fun i _ hi=>⟨rfl,dG i hi⟩,fun i b hi hl=>⟨i,b,hinv hi hl,hl,rfl⟩⟩,⟨⟨hF.cx.xs,?_,?_,?_,?_⟩,hF.defers,hF.size,?_⟩,?_⟩
 ·intro g ds hg
  obtain ⟨k1,k2⟩:=hF.cx.wC g ds hg
  exact ⟨hok g k1,aT.mono hkeep g (fun _=>rfl) _ _ k2⟩
 ·intro i j bi bj hi hj lR nE he
  exact hF.cx.inj i j bi bj (hinv hi lR) (hinv hj nE) lR nE he
 ·intro i b hi
  rcases bw hi with ⟨h1,_⟩|⟨h1,h2⟩
  ·have h:=hF.cx.box i b h1
   cases b with
   |var cs=>
    obtain ⟨c,e,g1,g2⟩:=h
    exact ⟨c,e,g1,ak.mono oO _ _ g2⟩
   |row sz es=>
    refine h.imp id ?_
    rintro ⟨c,e,g1,g2⟩
    exact ⟨c,e,g1,ap.mono hkeep _ _ (fun _=>rfl) _ _ g2⟩
   |mH sz es=>
    refine h.imp id ?_
    rintro ⟨g1,g2⟩
    exact ⟨hok _ g1,ap.mono hkeep _ _ (fun _=>rfl) _ _ g2⟩
   |it s p=>exact h
   |mp ag es=>obtain ⟨ms,clock,h1,h2,h3⟩:=h;exact ⟨ms,clock,h1,h2,bp.mono hkeep _ _ _ h3⟩
   |dead=>trivial
   |bt=>trivial
  subst h2;exact .inl rfl
 ·intro i b hi hl
  exact hF.cx.apart i b (hinv hi hl) hl
 ·intro t;exact aj.mono oO _ _ (hF.xP t)
 exact ⟨.row sz [],by simp,rfl⟩
theorem QY {ok:Nat→Prop} {n sz:Nat} {u:Value} (hb:bT bx n) (h:aj β bx w ok (.cl []) u):aj β bx w ok (.ow n sz 0) u:=by
 simp only [aj,List.length_nil] at h ⊢
 obtain ⟨base,h1,_⟩:=h
 exact ⟨hb,.inl ⟨trv,base,h1⟩⟩
theorem nM (K:Nat) {a:Act}:∀(l:List (Nat×Nat)) (s:St) (β:Nat→Nat),Fr G N ds β w X s a→∃β',rG K β s.bx β' (Gu s l).bx∧Fr G N ds β' w X (Gu s l) a
 |[],s,β,hF=>⟨β,rG.refl _ _ _,hF⟩
 |(i,sz)::r,s,β,hF=>by
  unfold Gu
  split
  ·rename_i hl
   cases hz:Nat.beq sz 0 with
   |true=>
    simp only [cond_true]
    refine nM K r ⟨put i (.d (.sl [])) s.sl,s.bx⟩ β ⟨hF.cx,hF.defers,hF.size,fun t=>?_⟩
    have h1:=hF.xP t
    simp only [nF]
    by_cases ht:t=i
    ·subst ht
     rw [if_pos rfl]
     rw [hl] at h1
     simp only [aj,aF] at h1 ⊢
     obtain ⟨base,h2,h3⟩:=h1
     exact ⟨base,_,h2,Nat.le_refl _,h3⟩
    rw [if_neg ht];exact h1
   |false=>
   simp only [cond_false]
   obtain ⟨β1,e1,FK,hb⟩:=Ei (sz:=sz) K hF
   have L6:Fr G N ds β1 w X ⟨put i (.ow s.bx.length sz 0) s.sl,s.bx++[.row sz []]⟩ a:=by
    refine ⟨FK.cx,FK.defers,FK.size,?_⟩
    intro t
    have h1:=FK.xP t
    simp only [nF]
    by_cases ht:t=i
    ·subst ht
     rw [if_pos rfl]
     have Ic:aj β1 (s.bx++[.row sz []]) w (bc β1 (s.bx++[.row sz []]) w X) (fU t s.sl) (a.tmps.getD t undef):=h1
     rw [hl] at Ic
     exact QY hb Ic
    rw [if_neg ht];exact h1
   obtain ⟨β2,e2,RI⟩:=nM K r _ β1 L6
   exact ⟨β2,e1.trans e2,RI⟩
  exact nM K r s β hF
theorem AT {ok:Nat→Prop} {x y:AV} (hxy:∀u,aj β bx w ok x u→aj β bx w ok y u):∀(cs:List AV) (c:Nat) (vs:List Value),cs[c]?=some x→ak β bx w ok cs vs→ak β bx w ok (cs.set c y) vs
 |[],_,_,h,_=>by simp at h
 |z::cs,0,vs,h,hv=>by
  simp only [List.getElem?_cons_zero,osI] at h;subst h
  simp only [List.set_cons_zero,ak] at hv ⊢
  obtain ⟨u,us,h1,h2,h3⟩:=hv
  exact ⟨u,us,h1,hxy u h2,h3⟩
 |z::cs,c+1,vs,h,hv=>by
  simp only [List.getElem?_cons_succ] at h
  simp only [List.set_cons_succ,ak] at hv ⊢
  obtain ⟨u,us,h1,h2,h3⟩:=hv
  exact ⟨u,us,h1,h2,AT hxy cs c us h h3⟩
theorem Mq {s:St} {a:Act} (hF:Fr G N ds β w X s a) {b c:Nat} {cs:List AV} {x y:AV} (hb:s.bx[b]?=some (.var cs)) (hc:cs[c]?=some x)
 (hxy:∀u,aj β s.bx w (bc β s.bx w X) x u→aj β s.bx w (bc β s.bx w X) y u) (K:Nat):
 rG K β s.bx β (s.bx.set b (.var (cs.set c y)))∧Fr G N ds β w X ⟨s.sl,s.bx.set b (.var (cs.set c y))⟩ a:=by
 have hinv:∀{i:Nat} {B:ay},(s.bx.set b (.var (cs.set c y)))[i]?=some B→(i=b∧B=.var (cs.set c y))∨(i≠b∧s.bx[i]?=some B):=by
  intro i B h
  rcases aH h with ⟨h1,h2,_⟩|⟨h1,h2⟩
  ·exact .inl ⟨h1,h2⟩
  exact .inr ⟨h1,h2⟩
 have bY:∀{i:Nat} {B:ay},(s.bx.set b (.var (cs.set c y)))[i]?=some B→B.live=true→∃B',s.bx[i]?=some B'∧B'.live=true:=by
  intro i B h hl
  rcases hinv h with ⟨rfl,rfl⟩|⟨_,h1⟩
  ·exact ⟨_,hb,rfl⟩
  exact ⟨B,h1,hl⟩
 have hok:∀blk,bc β s.bx w X blk→bc β (s.bx.set b (.var (cs.set c y))) w X blk:=by
  rintro blk ⟨k1,k2,k3⟩
  refine ⟨k1,k2,fun i B hi hl=>?_⟩
  obtain ⟨B',h1,h2⟩:=bY hi hl
  exact k3 i B' h1 h2
 have dG:∀i,bT s.bx i→bT (s.bx.set b (.var (cs.set c y))) i:=fun i hi=>gV rfl hi
 have hkeep:iC w w (bc β s.bx w X) (bc β (s.bx.set b (.var (cs.set c y))) w X):=fun blk hb=>⟨hok blk hb,rfl⟩
 have oO:qE β s.bx w (bc β s.bx w X) β (s.bx.set b (.var (cs.set c y))) w (bc β (s.bx.set b (.var (cs.set c y))) w X):=
  ⟨hkeep,fun i hi=>⟨rfl,dG i hi⟩,fun _ c _ _ h=>⟨c,h,rfl⟩⟩
 refine ⟨⟨fun i _ hi=>⟨rfl,dG i hi⟩,fun i B hi hl=>?_⟩,⟨⟨hF.cx.xs,?_,?_,?_,?_⟩,hF.defers,hF.size,?_⟩⟩
 ·obtain ⟨B',h1,h2⟩:=bY hi hl
  exact ⟨i,B',h1,h2,rfl⟩
 ·intro g ds hg
  obtain ⟨k1,k2⟩:=hF.cx.wC g ds hg
  exact ⟨hok g k1,aT.mono hkeep g (fun _=>rfl) _ _ k2⟩
 ·intro i j bi bj hi hj lR nE he
  obtain ⟨B1,h1,h2⟩:=bY hi lR
  obtain ⟨B2,h3,h4⟩:=bY hj nE
  exact hF.cx.inj i j B1 B2 h1 h3 h2 h4 he
 ·intro i B hi
  rcases hinv hi with ⟨rfl,rfl⟩|⟨_,h1⟩
  ·have h:=hF.cx.box _ _ hb
   simp only [c6] at h ⊢
   obtain ⟨cc,e,g1,g2⟩:=h
   exact ⟨cc,e,g1,ak.mono oO _ _ (AT hxy cs c _ hc g2)⟩
  have h:=hF.cx.box i B h1
  cases B with
  |var cs=>
   obtain ⟨c,e,g1,g2⟩:=h
   exact ⟨c,e,g1,ak.mono oO _ _ g2⟩
  |row sz es=>
   refine h.imp id ?_
   rintro ⟨c,e,g1,g2⟩
   exact ⟨c,e,g1,ap.mono hkeep _ _ (fun _=>rfl) _ _ g2⟩
  |mH sz es=>
   refine h.imp id ?_
   rintro ⟨g1,g2⟩
   exact ⟨hok _ g1,ap.mono hkeep _ _ (fun _=>rfl) _ _ g2⟩
  |it s p=>exact h
  |mp ag es=>obtain ⟨ms,clock,h1,h2,h3⟩:=h;exact ⟨ms,clock,h1,h2,bp.mono hkeep _ _ _ h3⟩
  |dead=>trivial
  |bt=>trivial
 ·intro i B hi hl
  obtain ⟨B',h1,h2⟩:=bY hi hl
  exact hF.cx.apart i B' h1 h2
 intro t;exact aj.mono oO _ _ (hF.xP t)
theorem lF (K:Nat) {a:Act}:∀(l:List (Nat×Nat×Nat)) (s:St) (β:Nat→Nat),Fr G N ds β w X s a→∃β',rG K β s.bx β' (Ef s l).bx∧Fr G N ds β' w X (Ef s l) a
 |[],s,β,hF=>⟨β,rG.refl _ _ _,hF⟩
 |(b,c,sz)::r,s,β,hF=>by
  unfold Ef
  split
  ·rename_i cs hb
   split
   ·rename_i hc
    cases hz:Nat.beq sz 0 with
    |true=>
     simp only [cond_true]
     obtain ⟨e2,L6⟩:=Mq hF (b:=b) hb hc (y:=.d (.sl [])) (fun u hu=>by
      simp only [aj,aF] at hu ⊢
      obtain ⟨base,h1,h2⟩:=hu
      exact ⟨base,_,h1,Nat.le_refl _,h2⟩) K
     obtain ⟨β2,e3,RI⟩:=lF K r _ β L6
     exact ⟨β2,e2.trans e3,RI⟩
    |false=>
    simp only [cond_false]
    obtain ⟨β1,e1,FK,BO⟩:=Ei (sz:=sz) K hF
    have vz:(s.bx++[ay.row sz []])[b]?=some (.var cs):=ee hb
    obtain ⟨e2,L6⟩:=Mq (s:=⟨s.sl,s.bx++[.row sz []]⟩) FK (b:=b) vz hc (y:=.ow s.bx.length sz 0) (fun u hu=>QY BO hu) K
    obtain ⟨β2,e3,RI⟩:=lF K r _ β1 L6
    exact ⟨β2,(e1.trans e2).trans e3,RI⟩
   exact lF K r s β hF
  exact lF K r s β hF
theorem vP {K:Nat} {nf:Nf} {s s':St} {a:Act} (h:vO K nf s=some s') (hF:Fr G N ds β w X s a):∃β',rG K β s.bx β' s'.bx∧Fr G N ds β' w X s' a:=by
 unfold vO at h
 obtain ⟨β1,e1,FK⟩:=nM K nf.os s β hF
 obtain ⟨β2,e2,L6⟩:=lF K nf.ob _ β1 FK
 obtain ⟨β3,e3,RI⟩:=Eh h L6
 exact ⟨β3,(e1.trans e2).trans e3,RI⟩
end
structure LoopIn (o:Option St) (P:St→Prop):Prop where
 ok:match o with
  |some s=>P s
  |none=>False
structure QZ (K:Nat) (A:(Ex→St→Prop)→St→Prop) (Q:Ex→St→Prop) (s:St):Prop where
 ok:∃(nf:Nf) (I:Nat→St→Prop) (n:Nat),LoopIn (vO K nf s) (I n)∧∀n s1,I n s1→A (fun e s2=>sw (fun s2=>LoopIn (vO K nf s2) (fun s3=>∃m,m<n∧I m s3)) Q e s2) s1
mutual
def AV.Ac (b:Nat) (x:D):AV→AV
 |.zP c=>bif Nat.beq c b then .d x else .zP c
 |.agg cs=>.agg (AV.Ej b x cs)
 |.dL cs=>.dL (AV.Ej b x cs)
 |.fn f cs=>.fn f (AV.Ej b x cs)
 |.qx t y=>.qx t (AV.Ac b x y)
 |.cond p y=>.cond p (AV.Ac b x y)
 |v=>v
def AV.Ej (b:Nat) (x:D):List AV→List AV
 |[]=>[]
 |y::ys=>AV.Ac b x y::AV.Ej b x ys
end
def ay.Ac (b:Nat) (x:D):ay→ay
 |.var cs=>.var (AV.Ej b x cs)
 |B=>B
def uE (b:Nat) (x:D):List (Nat×AV)→List (Nat×AV)
 |[]=>[]
 |(i,v)::r=>(i,AV.Ac b x v)::uE b x r
def uF (b:Nat) (x:D):List ay→Nat→List ay
 |[],_=>[]
 |B::r,i=>(bif Nat.beq i b then .dead else ay.Ac b x B)::uF b x r (i+1)
def iM (b:Nat) (x:D) (s:St):St:=⟨uE b x s.sl,uF b x s.bx 0⟩
def Mr:List ay→Bool
 |[]=>false
 |.mp _ _::_=>true
 |_::r=>Mr r
structure T8 (s:St) (A:St→Prop):Prop where
 ok:A s∨∃b ag es,s.bx[b]?=some (.mp ag es)∧A (iM b (.mp ag es) s)
section
variable {P:Program} {T:Nat→Option TI} {G:Nat→Option (List D)} {N:Nat} {ds:List Deferred} {β:Nat→Nat} {w:World} {X:Nat→Prop} {s:St}
theorem nN (b:Nat) (x:D):∀(l:List ay) (k i:Nat),(uF b x l k)[i]?=(l[i]?).map fun B=>bif Nat.beq (k+i) b then .dead else ay.Ac b x B
 |[],_,_=>by simp [uF]
 |B::r,k,0=>by simp [uF]
 |B::r,k,i+1=>by simp only [uF,List.getElem?_cons_succ];rw [nN b x r (k+1) i,show k+1+i=k+(i+1) by omega]
theorem Ek (b:Nat) (x:D) (B:ay):(ay.Ac b x B).live=B.live∧(ay.Ac b x B).born=B.born:=by cases B<;>simp [ay.Ac,ay.live,ay.born]
theorem El (b:Nat) (x:D) (t:Nat):∀sl:List (Nat×AV),fU t (uE b x sl)=AV.Ac b x (fU t sl)
 |[]=>by simp [uE,fU,AV.Ac]
 |(u,v)::r=>by
  simp only [uE,fU]
  cases Nat.beq t u with
  |true=>rfl
  |false=>simpa using El b x t r
mutual
theorem wR {bx aP:List ay} {ok ok':Nat→Prop} {b:Nat} {x:D} (hl:qE β bx w ok β aP w ok') (hb:∀v,v=.map (some (β b))→aF w ok' x v):∀(y:AV) (v:Value),aj β bx w ok y v→aj β aP w ok' (AV.Ac b x y) v
 |.zP c,v,h=>by
  unfold AV.Ac
  cases hc:Nat.beq c b with
  |true=>
   obtain rfl:=Nat.eq_of_beq_eq_true hc
   simp only [cond_true,aj] at h ⊢
   exact hb v h.1
  |false=>simpa using aj.mono hl _ _ h
 |.agg cs,v,h=>by simp only [AV.Ac,aj] at h ⊢;obtain ⟨vs,h1,h2⟩:=h;exact ⟨vs,h1,oX hl hb cs vs h2⟩
 |.dL cs,v,h=>by simp only [AV.Ac,aj] at h ⊢;obtain ⟨vs,h1,h2⟩:=h;exact ⟨vs,h1,oX hl hb cs vs h2⟩
 |.fn f cs,v,h=>by simp only [AV.Ac,aj] at h ⊢;obtain ⟨vs,h1,h2⟩:=h;exact ⟨vs,h1,oX hl hb cs vs h2⟩
 |.qx t y,v,h=>by simp only [AV.Ac,aj] at h ⊢;obtain ⟨u,h1,h2⟩:=h;exact ⟨u,h1,wR hl hb y u h2⟩
 |.cond p y,v,h=>by simp only [AV.Ac,aj] at h ⊢;exact ⟨fun hp=>wR hl hb y v (h.1 hp),h.2⟩
 |.any,v,h=>aj.mono hl _ _ h
 |.d _,v,h=>aj.mono hl _ _ h
 |.k _,v,h=>aj.mono hl _ _ h
 |.ptr _ _,v,h=>aj.mono hl _ _ h
 |.rp _ _ _ _,v,h=>aj.mono hl _ _ h
 |.ep _,v,h=>aj.mono hl _ _ h
 |.ow _ _ _,v,h=>aj.mono hl _ _ h
 |.cl _,v,h=>aj.mono hl _ _ h
 |.vw _ _ _ _ _ _,v,h=>aj.mono hl _ _ h
theorem oX {bx aP:List ay} {ok ok':Nat→Prop} {b:Nat} {x:D} (hl:qE β bx w ok β aP w ok') (hb:∀v,v=.map (some (β b))→aF w ok' x v):∀(ys:List AV) (vs:List Value),ak β bx w ok ys vs→ak β aP w ok' (AV.Ej b x ys) vs
 |[],vs,h=>by simpa [AV.Ej,ak] using h
 |y::ys,vs,h=>by
  simp only [AV.Ej,ak] at h ⊢
  obtain ⟨u,us,h1,h2,h3⟩:=h
  exact ⟨u,us,h1,wR hl hb y u h2,oX hl hb ys us h3⟩
end
theorem Pf {a:Act} (hF:Fr G N ds β w X s a) {b:Nat} {ag:Bool} {es:List (List D)} (hb:s.bx[b]?=some (.mp ag es)):
 Ext β s.bx w β (iM b (.mp ag es) s).bx w∧Fr G N ds β w X (iM b (.mp ag es) s) a:=by
 have uw:∀{i:Nat} {B:ay},(iM b (.mp ag es) s).bx[i]?=some B→(i=b∧B=.dead)∨(i≠b∧∃B',s.bx[i]?=some B'∧B=ay.Ac b (.mp ag es) B'):=by
  intro i B h
  simp only [iM,nN,Nat.zero_add,Option.map_eq_some_iff] at h
  obtain ⟨B',h1,h2⟩:=h
  cases hi:Nat.beq i b with
  |true=>simp only [hi,cond_true] at h2;exact .inl ⟨Nat.eq_of_beq_eq_true hi,h2.symm⟩
  |false=>simp only [hi,cond_false] at h2;exact .inr ⟨Nat.ne_of_beq_eq_false hi,B',h1,h2.symm⟩
 have bY:∀{i:Nat} {B:ay},(iM b (.mp ag es) s).bx[i]?=some B→B.live=true→i≠b∧∃B',s.bx[i]?=some B'∧B'.live=true:=by
  intro i B h hl
  rcases uw h with ⟨_,rfl⟩|⟨h1,B',h2,rfl⟩
  ·cases hl
  exact ⟨h1,B',h2,(Ek _ _ _).1▸hl⟩
 have dG:∀i,bT s.bx i→bT (iM b (.mp ag es) s).bx i:=by
  rintro i ⟨B,h1,h2⟩
  cases hi:Nat.beq i b with
  |true=>exact ⟨.dead,by simp [iM,nN,h1,hi],rfl⟩
  |false=>exact ⟨ay.Ac b (.mp ag es) B,by simp [iM,nN,h1,hi],(Ek _ _ _).2.trans h2⟩
 have hok:∀blk,bc β s.bx w X blk→bc β (iM b (.mp ag es) s).bx w X blk:=by
  rintro blk ⟨k1,k2,k3⟩
  refine ⟨k1,k2,fun i B hi hl=>?_⟩
  obtain ⟨_,B',h1,h2⟩:=bY hi hl
  exact k3 i B' h1 h2
 have hkeep:iC w w (bc β s.bx w X) (bc β (iM b (.mp ag es) s).bx w X):=fun blk hb=>⟨hok blk hb,rfl⟩
 have oO:qE β s.bx w (bc β s.bx w X) β (iM b (.mp ag es) s).bx w (bc β (iM b (.mp ag es) s).bx w X):=⟨hkeep,fun i hi=>⟨rfl,dG i hi⟩,fun _ c _ _ h=>⟨c,h,rfl⟩⟩
 have Dn:=hF.cx.box b _ hb
 have hmp:∀v,v=.map (some (β b))→aF w (bc β (iM b (.mp ag es) s).bx w X) (.mp ag es) v:=by
  rintro v rfl
  obtain ⟨ms,clock,h1,h2,h3⟩:=Dn
  simp only [aF]
  refine ⟨β b,ms,clock,rfl,⟨eO h1,hF.cx.apart b _ hb rfl,?_⟩,h1,h2,bp.mono hkeep _ _ _ h3⟩
  intro i B hi hl he
  obtain ⟨g1,B',g2,g3⟩:=bY hi hl
  exact g1 (hF.cx.inj i b B' _ g2 hb g3 rfl he)
 refine ⟨⟨rfl,rfl,rfl,Nat.le_refl _,fun _ _ _=>rfl,fun _ c _ _ h=>⟨c,h,rfl⟩,fun i hi=>⟨rfl,dG i hi⟩,?_⟩,⟨⟨hF.cx.xs,?_,?_,?_,?_⟩,hF.defers,hF.size,?_⟩⟩
 ·intro i B hi hl
  obtain ⟨_,B',g2,g3⟩:=bY hi hl
  exact .inr ⟨i,B',g2,g3,rfl⟩
 ·intro g ds hg
  obtain ⟨k1,k2⟩:=hF.cx.wC g ds hg
  exact ⟨hok g k1,aT.mono hkeep g (fun _=>rfl) _ _ k2⟩
 ·intro i j bi bj hi hj lR nE he
  obtain ⟨_,Bi,g2,g3⟩:=bY hi lR
  obtain ⟨_,Bj,g4,g5⟩:=bY hj nE
  exact hF.cx.inj i j Bi Bj g2 g4 g3 g5 he
 ·intro i B hi
  rcases uw hi with ⟨_,rfl⟩|⟨_,B',h2,rfl⟩
  ·trivial
  have h:=hF.cx.box i B' h2
  cases B' with
  |var cs=>
   obtain ⟨c,e,g1,g2⟩:=h
   exact ⟨c,e,g1,oX oO hmp _ _ g2⟩
  |row sz es=>
   refine h.imp id ?_
   rintro ⟨c,e,g1,g2⟩
   exact ⟨c,e,g1,ap.mono hkeep _ _ (fun _=>rfl) _ _ g2⟩
  |mH sz es=>
   refine h.imp id ?_
   rintro ⟨g1,g2⟩
   exact ⟨hok _ g1,ap.mono hkeep _ _ (fun _=>rfl) _ _ g2⟩
  |it s p=>exact h
  |mp ag es=>obtain ⟨ms,clock,h1,h2,h3⟩:=h;exact ⟨ms,clock,h1,h2,bp.mono hkeep _ _ _ h3⟩
  |dead=>trivial
  |bt=>trivial
 ·intro i B hi hl
  obtain ⟨_,B',g2,g3⟩:=bY hi hl
  exact hF.cx.apart i B' g2 g3
 intro t
 show aj β _ w _ (fU t (uE b (.mp ag es) s.sl)) _
 rw [El]
 exact wR oO hmp _ _ (hF.xP t)
end
section
variable (t:Th) (FC:Nat→List AV→List ay→iy→List ay→Prop) (T:Nat→Option TI) (G:Nat→Option (List D)) (N K:Nat)
def yy:Code→(Ex→St→Prop)→St→Prop
 |.skip,Q,s=>Q .normal s
 |.region _ ops draw,Q,s=>bif draw then (bif Mr s.bx then T8 s (fun s=>Iu t FC T G N ops.toList Q s) else Iu t FC T G N ops.toList Q s) else Mm t FC T G N ops.toList ops.toList Q s
 |.seq a b,Q,s=>yy a (fun e s1=>sw (fun s1=>yy b Q s1) Q e s1) s
 |.cond c a b,Q,s=>(bU G s.sl c).ok∧ue (bU G s.sl c).aL (fun _=>yy a Q s) (fun _=>yy b Q s)
 |.block id c,Q,s=>yy c (fun e s1=>match e with|.exit j=>bif Nat.beq j id then Q .normal s1 else Q (.exit j) s1|e=>Q e s1) s
 |.loop c,Q,s=>QZ K (fun Q1 s1=>yy c Q1 s1) Q s
 |.exit id,Q,s=>Q (.exit id) s
 |.label _,Q,s=>Q .normal s
 |.ret,Q,s=>Q .ret s
 |_,_,_=>False
structure Em (n:Nat) (c:Prop) (v:AV) (bx:List ay) (fz:Option (Prop×AV)) (res:iy) (aP:List ay):Prop where
 ok:c∧((res=.ret v∧aP=bx)∨
  (∃ks d u,fz=some (d,u)∧d∧u.within n=true∧aP=(kill ks (sy bx v)).take n∧bX n aP=true∧res=.ret u)∨
  (∃k sz m es,v=.ow k sz m∧bx[k]?=some (.row sz es)∧n≤k∧n≤bx.length∧bX n (bx.take n)=true∧res=.ret (.ow n sz m)∧aP=bx.take n++[.row sz es])∨
  (∃sz,v=.cl []∧n≤bx.length∧bX n (bx.take n)=true∧res=.ret (.ow n sz 0)∧aP=bx.take n++[.row sz []]))
def vQ (results:List ResultVar) (n:Nat) (res:iy) (aP:List ay):Ex→St→Prop
 |.exit _,_=>False
 |.panic v,s=>QD v s.bx res aP
 |_,s=>match zY T s.sl s.bx results with
  |some (c,vs)=>Em n c (At vs) s.bx (Mi t s.bx (At vs)) res aP
  |none=>False
end
section
variable {P:Program} {T:Nat→Option TI} {G:Nat→Option (List D)} {N K:Nat} {ds:List Deferred} {X:Nat→Prop} {β0:Nat→Nat} {aI:List ay} {w0:World}
theorem Ms {β:Nat→Nat} {w:World} {s s1:St} {a:Act} {i:Nat} {c:Prop} (hF:Fr G N ds β w X s a) (h:B7 t0 i s=some (c,s1)) (hc:c):Ext β s.bx w β s1.bx w∧Fr G N ds β w X s1 a:=by
 unfold B7 at h
 split at h
 ·rename_i c' y hy
  simp only [osI,Prod.mk.injEq] at h
  obtain ⟨rfl,rfl⟩:=h
  obtain ⟨g1,g2,g3⟩:=BQ hF.cx (Gq hy hc) (hF.xP i)
  refine ⟨g1,g2,hF.defers,hF.size,fun t=>?_⟩
  simp only [nF]
  by_cases h:t=i
  ·subst h;rw [if_pos rfl];exact g3
  rw [if_neg h];exact aj.mono (g1.eN X) _ _ (hF.xP t)
 cases h
theorem oY (hD:oN P T G) {id:Nat} {ops:Array Oper} {Q:Ex→St→Prop} {β:Nat→Nat} {w:World} {s:St} {a:Act} (ex:Ext β0 aI w0 β s.bx w) (hF:Fr G N ds β w X s a)
 (h:Iu t0 (bA P G) T G N ops.toList Q s):(Code.region id ops true).wp P (fX G N ds X β0 aI w0 Q) a w:=by
 rcases Pe h with h|⟨i,c,s1,h1,hc,h⟩
 ·exact hD _ _ _ _ _ _ id ops Q β w s a ex hF h
 obtain ⟨e1,FK⟩:=Ms hF h1 hc
 exact hD _ _ _ _ _ _ id ops Q β w s1 a (ex.trans e1) FK h
theorem gi (hT:jL P T) (hD:oN P T G) (hK:aI.length≤K):∀(c:Code) (Q:Ex→St→Prop) (β:Nat→Nat) (w:World) (s:St) (a:Act),Ext β0 aI w0 β s.bx w→Fr G N ds β w X s a→
 yy t0 (bA P G) T G N K c Q s→c.wp P (fX G N ds X β0 aI w0 Q) a w
 |.skip,Q,β,w,s,a,ex,hF,h=>wp_skip ⟨β,s,ex,hF,h⟩
 |.region id ops draw,Q,β,w,s,a,ex,hF,h=>by
  cases draw with
  |true=>
   simp only [yy,cond_true] at h
   cases hm:Mr s.bx with
   |false=>simp only [hm,cond_false] at h;exact oY hD ex hF h
   |true=>
    simp only [hm,cond_true] at h
    rcases h with ⟨h|⟨b,ag,es,hb,h⟩⟩
    ·exact oY hD ex hF h
    obtain ⟨e1,FK⟩:=Pf hF hb
    exact oY hD (ex.trans e1) FK h
  |false=>exact wp_region_list (lB hT ops.toList β w s a ex hF (Gs _ _ h))
 |.seq x y,Q,β,w,s,a,ex,hF,h=>by
  refine wp_seq (wp_mono (gi hT hD hK x _ β w s a ex hF h) ?_)
  intro e a' w' hl
  cases e<;>simp only [fX,sw] at hl
  ·obtain ⟨β',s',h1,h2,h3⟩:=hl
   exact gi hT hD hK y Q β' w' s' a' h1 h2 h3
  ·exact hl
  ·exact hl
  exact hl
 |.cond c x y,Q,β,w,s,a,ex,hF,h=>by
  obtain ⟨h1,⟨h2⟩⟩:=h
  split at h2
  ·rename_i p hc
   have hv:=jB (hF.eval c) h1
   rw [hc] at hv
   simp only [aj,aF] at hv
   exact wp_cond_split hv (fun hp=>gi hT hD hK x Q β w s a ex hF (h2.1 hp)) (fun hp=>gi hT hD hK y Q β w s a ex hF (h2.2 hp))
  exact h2.elim
 |.block id c,Q,β,w,s,a,ex,hF,h=>by
  refine wp_block (wp_mono (gi hT hD hK c _ β w s a ex hF h) ?_)
  intro e a' w' hl
  cases e<;>simp only [fX,Exit.inBlock] at hl ⊢
  ·exact hl
  ·rename_i j
   by_cases hj:j=id
   ·subst hj
    simpa [fX] using hl
   have hb:Nat.beq j id=false:=Tl hj
   simpa [fX,hb,hj] using hl
  ·exact hl
  exact hl
 |.loop c,Q,β,w,s,a,ex,hF,h=>by
  obtain ⟨nf,I,n,⟨hI⟩,RJ⟩:=h
  refine wp_loop_ghost (fun n a w=>∃β s,Ext β0 aI w0 β s.bx w∧Fr G N ds β w X s a∧I n s) n ?_ ?_
  ·split at hI
   ·rename_i s' hn
    obtain ⟨β',e1,TW⟩:=vP hn hF
    exact ⟨β',s',ex.yx hK e1,TW,hI⟩
   exact hI.elim
  rintro n a w ⟨β,s,ex,hF,hI⟩
  refine wp_mono (gi hT hD hK c _ β w s a ex hF (RJ n s hI)) ?_
  intro e a' w' hl
  cases e<;>simp only [fX,sw] at hl
  ·obtain ⟨β',s',h1,h2,⟨h3⟩⟩:=hl
   split at h3
   ·rename_i s'' hn
    obtain ⟨m,h4,h5⟩:=h3
    obtain ⟨β'',e1,TW⟩:=vP hn h2
    exact ⟨m,h4,β'',s'',h1.yx hK e1,TW,h5⟩
   exact h3.elim
  ·exact hl
  ·exact hl
  exact hl
 |.exit id,Q,β,w,s,a,ex,hF,h=>wp_exit ⟨β,s,ex,hF,h⟩
 |.label l,Q,β,w,s,a,ex,hF,h=>wp_label ⟨β,s,ex,hF,h⟩
 |.ret,Q,β,w,s,a,ex,hF,h=>wp_ret ⟨β,s,ex,hF,h⟩
theorem Iy {results:List ResultVar} {n:Nat} {res:iy} {aP:List ay} {e:Ex} {s:St} (h:vQ t0 T results n res aP e s):HY T results n res aP e s:=by
 unfold vQ at h
 split at h
 ·exact h.elim
 ·exact h
 rename_i h1 h2
 unfold HY
 split
 ·exact absurd rfl (h1 _)
 ·exact absurd rfl (h2 _)
 split at h
 ·rename_i c vs hr
  simp only [hr]
  obtain ⟨hc,h⟩:=h
  refine ⟨hc,?_⟩
  rcases h with h|⟨ks,d,u,k1,k2,k3⟩|h|h
  ·exact .inl h
  ·exact .inr (.inl ⟨ks,u,Gr k1 k2,k3⟩)
  ·exact .inr (.inr (.inl h))
  exact .inr (.inr (.inr h))
 exact h.elim
theorem wF (hT:jL P T) (hD:oN P T G) {f N:Nat} {fn:Func} {c:Code} {args:List AV} {aI aP:List ay} {res:iy} (hf:P.funcs[f]?=some fn) (hb:fn.body=some c)
 (hname:(fn.name== "runtime.NumGoroutine")=false) (hN:fn.ntmps=N) (hlen:Nat.ble args.length N=true)
 (h:yy t0 (bA P G) T G N aI.length c (vQ t0 T fn.results.toList aI.length res aP) ⟨oD 0 args,aI⟩):bA P G f args aI res aP:=
 sP hT hf hb hname hN hlen fun β w X a hF=>wp_mono (gi (X:=X) (β0:=β) (aI:=aI) (w0:=w) hT hD (Nat.le_refl _) c _ β w ⟨oD 0 args,aI⟩ a (Ext.refl _ _ _) hF h)
  fun _ _ _ hl=>fX.imp (fun _ _ hq=>Iy hq) hl
end
end Dem
end
section
open Go
namespace Dem
def kp (bZ:List Nat) (n:Nat) (j:Nat):Option Nat:=match bZ[j]? with
 |some i=>some i
 |none=>some (n+(j-bZ.length))
def qi (bZ:List Nat) (n:Nat) (aI:List ay):Nat→List ay→Option (List ay)
 |_,[]=>some []
 |i,b::r=>match dU i bZ 0 with
  |some j=>match aI[j]? with
   |some b0=>match ay.iq (kp bZ n) b0,qi bZ n aI (i+1) r with
    |some x,some xs=>some (x::xs)
    |_,_=>none
   |none=>none
  |none=>match qi bZ n aI (i+1) r with
   |some xs=>some (b::xs)
   |none=>none
def tw (bZ:List Nat) (n:Nat):List ay→Option (List ay)
 |[]=>some []
 |b::r=>match ay.iq (kp bZ n) b,tw bZ n r with
  |some x,some xs=>some (x::xs)
  |_,_=>none
def En (bZ:List Nat) (bx aI:List ay):Option (List ay):=
 bif Nat.ble bZ.length aI.length&&B8 bZ 0 bZ then
  match qi bZ bx.length aI 0 bx,tw bZ bx.length (aI.drop bZ.length) with
  |some a,some b=>some (a++b)
  |_,_=>none
 else none
def iy.iq (m:Nat→Option Nat):iy→Option iy
 |.ret v=>match v.iq m with
  |some x=>some (.ret x)
  |none=>none
 |.Jl v=>match v.iq m with
  |some x=>some (.Jl x)
  |none=>none
section
variable {P:Program} {G:Nat→Option (List D)}
theorem oZ {bZ:List Nat} {n:Nat} {aI:List ay}:∀{bx a:List ay} {i:Nat},qi bZ n aI i bx=some a→a.length=bx.length∧∀(k:Nat) (b:ay),bx[k]?=some b→
 (∃j b0 b',dU (i+k) bZ 0=some j∧aI[j]?=some b0∧ay.iq (kp bZ n) b0=some b'∧a[k]?=some b')∨(dU (i+k) bZ 0=none∧a[k]?=some b)
 |[],a,i,h=>by simp only [qi,osI] at h;subst h;simp
 |b::r,a,i,h=>by
  simp only [qi] at h
  split at h
  ·rename_i j hj
   split at h
   ·rename_i b0 hb0
    split at h
    ·rename_i x xs h1 h2
     simp only [osI] at h;subst h
     obtain ⟨k1,k2⟩:=oZ h2
     refine ⟨by simp [k1],?_⟩
     intro k b1 hk
     cases k with
     |zero=>exact .inl ⟨j,b0,x,hj,hb0,h1,rfl⟩
     |succ k=>
      simp only [List.getElem?_cons_succ] at hk ⊢
      have:=k2 k b1 hk
      rwa [show i+1+k=i+(k+1) by omega] at this
    simp at h
   simp at h
  rename_i hj
  split at h
  ·rename_i xs h2
   simp only [osI] at h;subst h
   obtain ⟨k1,k2⟩:=oZ h2
   refine ⟨by simp [k1],?_⟩
   intro k b1 hk
   cases k with
   |zero=>simp only [List.getElem?_cons_zero,osI] at hk;subst hk;exact .inr ⟨hj,rfl⟩
   |succ k=>
    simp only [List.getElem?_cons_succ] at hk ⊢
    have:=k2 k b1 hk
    rwa [show i+1+k=i+(k+1) by omega] at this
  simp at h
theorem vR {bZ:List Nat} {n:Nat}:∀{bx a:List ay},tw bZ n bx=some a→a.length=bx.length∧∀(k:Nat) (b:ay),bx[k]?=some b→∃b',ay.iq (kp bZ n) b=some b'∧a[k]?=some b'
 |[],a,h=>by simp only [tw,osI] at h;subst h;simp
 |b::r,a,h=>by
  simp only [tw] at h
  split at h
  ·rename_i x xs h1 h2
   simp only [osI] at h;subst h
   obtain ⟨k1,k2⟩:=vR h2
   refine ⟨by simp [k1],?_⟩
   intro k b1 hk
   cases k with
   |zero=>simp only [List.getElem?_cons_zero,osI] at hk;subst hk;exact ⟨x,h1,rfl⟩
   |succ k=>simp only [List.getElem?_cons_succ] at hk ⊢;exact k2 k b1 hk
  simp at h
theorem dw {f:Nat} {args oe:List AV} {bx aI tB aP:List ay} {RL res:iy} (bZ:List Nat)
 (ha:AV.wE (fun b=>dU b bZ 0) args=some oe) (hb:fZ (fun b=>dU b bZ 0) bx bZ=some aI)
 (hr:iy.iq (kp bZ bx.length) RL=some res) (hb':En bZ bx tB=some aP) (h:bA P G f oe aI RL tB):bA P G f args bx res aP:=by
 intro β w vs X cx hx
 unfold En at hb'
 cases hlen:Nat.ble bZ.length tB.length with
 |false=>simp [hlen] at hb'
 |true=>
 cases Gv:B8 bZ 0 bZ with
 |false=>simp [hlen,Gv] at hb'
 |true=>
 simp only [hlen,Gv,Bool.and_self,cond_true] at hb'
 split at hb'
 case h_2=>simp at hb'
 rename_i aO aN hO hN
 simp only [osI] at hb'
 subst hb'
 have hlen':bZ.length≤tB.length:=Nat.le_of_ble_eq_true hlen
 obtain ⟨lO,gO⟩:=oZ hO
 obtain ⟨lN,gN⟩:=vR hN
 have tv:∀k i,bZ[k]?=some i→dU i bZ 0=some k:=fun k i hk=>by have:=qf Gv hk;simpa using this
 have hidx:∀b j,dU b bZ 0=some j→bZ[j]?=some b:=fun b j hj=>by have:=(rH hj).2;simpa using this
 have Mt:∀k i,bZ[k]?=some i→∃b,bx[i]?=some b:=fun k i hk=>by
  obtain ⟨b,_,h1,_⟩:=mg hb k i hk;exact ⟨b,h1⟩
 let β0:Nat→Nat:=fun j=>match bZ[j]? with|some i=>β i|none=>0
 let X0:Nat→Prop:=fun blk=>X blk∨∃(i:Nat) (b:ay),bx[i]?=some b∧b.live=true∧dU i bZ 0=none∧β i=blk
 have RM:∀k i,bZ[k]?=some i→β0 k=β i:=fun k i hk=>by simp [β0,hk]
 have hm:∀b j,dU b bZ 0=some j→β0 j=β b∧(bT bx b→bT aI j):=by
  intro b j hj
  have hs:=hidx b j hj
  refine ⟨RM j b hs,?_⟩
  rintro ⟨B,hB,dG⟩
  obtain ⟨b1,b2,k1,k2,k3⟩:=mg hb j b hs
  rw [hB] at k1;cases k1
  exact ⟨b2,k3,(ay.fH k2).1.trans dG⟩
 have rI:∀(i:Nat) (b:ay),aI[i]?=some b→b.live=true→∃(j:Nat) (b':ay),bx[j]?=some b'∧b'.live=true∧β j=β0 i∧bZ[i]?=some j:=by
  intro i b hi hl
  obtain ⟨j,b',k1,k2,k3⟩:=iL hb i b hi
  exact ⟨j,b',k2,(ay.fH k3).2▸hl,(RM i j k1).symm,k1⟩
 have Mu:∀blk,bc β bx w X blk→bc β0 aI w X0 blk:=by
  rintro blk ⟨k1,k2,k3⟩
  refine ⟨k1,?_,?_⟩
  ·rintro (hX|⟨i,b,h1,h2,_,h3⟩)
   ·exact k2 hX
   exact k3 i b h1 h2 h3
  intro i b hi hl
  obtain ⟨j,b',h3,h4,h5,_⟩:=rI i b hi hl
  rw [←h5];exact k3 j b' h3 h4
 have B9:iC w w (bc β bx w X) (bc β0 aI w X0):=fun blk hb=>⟨Mu blk hb,rfl⟩
 have hlt:∀(i:Nat) (b:ay),bx[i]?=some b→b.live=true→β i<w.heap.size:=fun i b h hl=>c6.eY (cx.box i b h) hl
 have Ti:cz G β0 aI w X0:=by
  refine ⟨?_,?_,?_,?_,?_⟩
  ·rintro blk (hX|⟨i,b,h1,h2,_,rfl⟩)
   ·exact cx.xs blk hX
   exact hlt i b h1 h2
  ·intro g ds hg
   obtain ⟨k1,k2⟩:=cx.wC g ds hg
   exact ⟨Mu g k1,aT.mono B9 g (fun _=>rfl) _ _ k2⟩
  ·intro i j bi bj hi hj lR nE he
   obtain ⟨i',Wq,a1,a2,a3,a4⟩:=rI i bi hi lR
   obtain ⟨j',Wr,c1,c2,c3,c4⟩:=rI j bj hj nE
   have:i'=j':=cx.inj i' j' Wq Wr a1 c1 a2 c2 (a3.trans (he.trans c3.symm))
   subst this
   have e1:=tv i i' a4
   have e2:=tv j i' c4
   rw [e1] at e2;exact Option.some.inj e2
  ·intro i b hi
   obtain ⟨j,b',k1,k2,k3⟩:=iL hb i b hi
   have Dn:=cx.box j b' k2
   rw [RM i j k1]
   cases b' with
   |var cs=>
    simp only [ay.iq] at k3
    split at k3
    ·rename_i ys hys
     simp only [osI] at k3;subst k3
     simp only [c6] at Dn ⊢
     obtain ⟨c,e,g1,g2⟩:=Dn
     exact ⟨c,e,g1,jW hm Mu cs ys _ hys g2⟩
    simp at k3
   |row sz es=>
    simp only [ay.iq,osI] at k3;subst k3
    refine Dn.imp id ?_
    rintro ⟨c,e,g1,g2⟩
    exact ⟨c,e,g1,ap.mono B9 _ _ (fun _=>rfl) _ _ g2⟩
   |mH sz es=>
    simp only [ay.iq,osI] at k3;subst k3
    refine Dn.imp id ?_
    rintro ⟨g1,g2⟩
    exact ⟨Mu _ g1,ap.mono B9 _ _ (fun _=>rfl) _ _ g2⟩
   |it s p=>simp only [ay.iq,osI] at k3;subst k3;exact Dn
   |mp ag es=>simp only [ay.iq,osI] at k3;subst k3;obtain ⟨ms,clock,h1,h2,h3⟩:=Dn;exact ⟨ms,clock,h1,h2,bp.mono B9 _ _ _ h3⟩
   |dead=>simp only [ay.iq,osI] at k3;subst k3;trivial
   |bt=>simp only [ay.iq,osI] at k3;subst k3;trivial
  intro i b hi hl
  obtain ⟨j,b',h3,h4,h5,h6⟩:=rI i b hi hl
  rw [←h5]
  rintro (hX|⟨i2,b2,e1,e2,e3,e4⟩)
  ·exact cx.apart j b' h3 h4 hX
  have:i2=j:=cx.inj i2 j b2 b' e1 h3 e2 h4 e4
  subst this
  rw [tv i i2 h6] at e3;cases e3
 refine iK.mono (h β0 w vs X0 Ti (jW hm Mu args oe vs ha hx)) ?_
 rintro e w' ⟨Gw,qA,Pg,hres⟩
 let β':Nat→Nat:=fun i=>match dU i bZ 0 with|some j=>Gw j|none=>if i<bx.length then β i else Gw (bZ.length+(i-bx.length))
 have T9:∀j i,bZ[j]?=some i→i<bx.length:=fun j i hj=>by obtain ⟨b,hb⟩:=Mt j i hj;exact iH hb
 have Ua:∀k,dU (bx.length+k) bZ 0=none:=by
  intro k
  cases hc:dU (bx.length+k) bZ 0 with
  |none=>rfl
  |some j=>have:=T9 j _ (hidx _ _ hc);omega
 have Ub:∀i j,dU i bZ 0=some j→β' i=Gw j:=fun i j hj=>by simp [β',hj]
 have Gx:∀i,i<bx.length→dU i bZ 0=none→β' i=β i:=fun i hi hn=>by simp [β',hi,hn]
 have Ws:∀k,β' (bx.length+k)=Gw (bZ.length+k):=fun k=>by simp [β',Ua k];omega
 have Mv:∀(i:Nat),i<bx.length→(aO++aN)[i]?=aO[i]?:=fun i hi=>List.getElem?_append_left (by omega)
 have Q0:∀(k:Nat),(aO++aN)[bx.length+k]?=aN[k]?:=fun k=>by rw [List.getElem?_append_right (by omega),lO];congr 1;omega
 have hinv:∀(i:Nat) (b:ay),(aO++aN)[i]?=some b→(i<bx.length∧dU i bZ 0=none∧bx[i]?=some b)∨
  (∃(j:Nat) (b0:ay),tB[j]?=some b0∧ay.iq (kp bZ bx.length) b0=some b∧kp bZ bx.length j=some i):=by
  intro i b hi
  rcases Nat.lt_or_ge i bx.length with hl|hl
  ·rw [Mv i hl] at hi
   obtain ⟨bi,vn⟩:∃bi,bx[i]?=some bi:=⟨bx[i],by simp [hl]⟩
   have:=gO i bi vn
   rw [Nat.zero_add] at this
   rcases this with ⟨j,b0,b',k1,k2,k3,k4⟩|⟨k1,k2⟩
   ·rw [hi] at k4;cases k4
    refine .inr ⟨j,b0,k2,k3,?_⟩
    simp [kp,hidx i j k1]
   rw [hi] at k2;cases k2
   exact .inl ⟨hl,k1,vn⟩
  obtain ⟨k,rfl⟩:∃k,i=bx.length+k:=⟨i-bx.length,by omega⟩
  rw [Q0 k] at hi
  have hk:k<aN.length:=by
   rcases Nat.lt_or_ge k aN.length with h'|h'
   ·exact h'
   simp [List.getElem?_eq_none h'] at hi
  have Ym:k<(tB.drop bZ.length).length:=by omega
  obtain ⟨b',k1,k2⟩:=gN k _ (List.getElem?_eq_getElem Ym)
  rw [hi] at k2;cases k2
  refine .inr ⟨bZ.length+k,(tB.drop bZ.length)[k],?_,k1,?_⟩
  ·rw [←List.getElem?_drop];exact List.getElem?_eq_getElem Ym
  simp [kp]
 have yz:∀j i,kp bZ bx.length j=some i→β' i=Gw j∧(bT tB j→bT (aO++aN) i):=by
  intro j i hj
  unfold kp at hj
  split at hj
  ·rename_i i' hs
   simp only [osI] at hj;subst hj
   obtain ⟨bi,vn⟩:=Mt j i' hs
   have hil:=iH vn
   refine ⟨Ub i' j (tv j i' hs),?_⟩
   rintro ⟨b0,e1,e2⟩
   have:=gO i' bi vn
   rw [Nat.zero_add,tv j i' hs] at this
   rcases this with ⟨j2,b02,b',c1,c2,c3,c4⟩|⟨c1,_⟩
   ·cases c1
    rw [e1] at c2;cases c2
    exact ⟨b',by rw [Mv i' hil];exact c4,(ay.fH c3).1.trans e2⟩
   cases c1
  rename_i hs
  simp only [osI] at hj;subst hj
  have hge:bZ.length≤j:=by
   rcases Nat.lt_or_ge j bZ.length with h'|h'
   ·simp [h'] at hs
   exact h'
  refine ⟨by rw [Ws];congr 1;omega,?_⟩
  rintro ⟨b0,e1,e2⟩
  have hd:(tB.drop bZ.length)[j-bZ.length]?=some b0:=by rw [List.getElem?_drop];rw [←e1];congr 1;omega
  obtain ⟨b',c1,c2⟩:=gN _ _ hd
  exact ⟨b',by rw [Q0];exact c2,(ay.fH c1).1.trans e2⟩
 have Mw:∀blk,bc Gw tB w' X0 blk→bc β' (aO++aN) w' X blk:=by
  rintro blk ⟨k1,k2,k3⟩
  refine ⟨k1,fun hX=>k2 (.inl hX),?_⟩
  intro i b hi hl
  rcases hinv i b hi with ⟨c1,c2,c3⟩|⟨j,b0,c1,c2,c3⟩
  ·rw [Gx i c1 c2]
   exact fun he=>k2 (.inr ⟨i,b,c3,hl,c2,he⟩)
  rw [(yz j i c3).1]
  exact k3 j b0 c1 ((ay.fH c2).2▸hl)
 have Gy:iC w' w' (bc Gw tB w' X0) (bc β' (aO++aN) w' X):=fun blk hb=>⟨Mw blk hb,rfl⟩
 have ex:Ext β bx w β' (aO++aN) w':=by
  refine ⟨qA.os,qA.tape,qA.output,qA.size,?_,qA.shape,?_,?_⟩
  ·intro k hk hl
   refine qA.block k hk ?_
   intro i b hi hlv
   obtain ⟨j,b',h3,h4,h5,_⟩:=rI i b hi hlv
   rw [←h5];exact hl j b' h3 h4
  ·intro i hi
   obtain ⟨b,vz,sN⟩:=hi
   have hil:=iH vz
   cases hc:dU i bZ 0 with
   |some j=>
    obtain ⟨k1,k2⟩:=hm i j hc
    obtain ⟨c1,c2⟩:=qA.born j (k2 ⟨b,vz,sN⟩)
    have Zj:kp bZ bx.length j=some i:=by simp [kp,hidx i j hc]
    exact ⟨by rw [Ub i j hc,c1,k1],(yz j i Zj).2 c2⟩
   |none=>
    refine ⟨Gx i hil hc,b,?_,sN⟩
    rw [Mv i hil]
    have:=gO i b vz
    rw [Nat.zero_add,hc] at this
    rcases this with ⟨_,_,_,c1,_⟩|⟨_,c2⟩
    ·cases c1
    exact c2
  intro i b hi hl
  rcases hinv i b hi with ⟨c1,c2,c3⟩|⟨j,b0,c1,c2,c3⟩
  ·exact .inr ⟨i,b,c3,hl,(Gx i c1 c2).symm⟩
  rw [(yz j i c3).1]
  rcases qA.live j b0 c1 ((ay.fH c2).2▸hl) with h1|⟨j',b',h1,h2,h3⟩
  ·exact .inl h1
  obtain ⟨j2,b2,e1,e2,e3,_⟩:=rI j' b' h1 h2
  exact .inr ⟨j2,b2,e1,e2,e3.trans h3⟩
 refine ⟨β',ex,cx.step ex ?_ ?_,?_⟩
 ·intro i b hi
  rcases hinv i b hi with ⟨c1,c2,c3⟩|⟨j,b0,c1,c2,c3⟩
  ·refine .inl ⟨c3,fun hl=>qA.block _ (hlt i b c3 hl) ?_⟩
   intro k b' hk hlk he
   obtain ⟨j,b2,h3,h4,h5,h6⟩:=rI k b' hk hlk
   have:j=i:=cx.inj j i b2 b h3 c3 h4 hl (h5.trans he)
   subst this
   rw [tv k j h6] at c2;cases c2
  refine .inr ?_
  have Dn:=Pg.box j b0 c1
  rw [(yz j i c3).1]
  cases b0 with
  |var cs=>
   simp only [ay.iq] at c2
   split at c2
   ·rename_i ys hys
    simp only [osI] at c2;subst c2
    simp only [c6] at Dn ⊢
    obtain ⟨c,e,g1,g2⟩:=Dn
    exact ⟨c,e,g1,jW yz Mw cs ys _ hys g2⟩
   simp at c2
  |row sz es=>
   simp only [ay.iq,osI] at c2;subst c2
   refine Dn.imp id ?_
   rintro ⟨c,e,g1,g2⟩
   exact ⟨c,e,g1,ap.mono Gy _ _ (fun _=>rfl) _ _ g2⟩
  |mH sz es=>
   simp only [ay.iq,osI] at c2;subst c2
   refine Dn.imp id ?_
   rintro ⟨g1,g2⟩
   exact ⟨Mw _ g1,ap.mono Gy _ _ (fun _=>rfl) _ _ g2⟩
  |it s p=>simp only [ay.iq,osI] at c2;subst c2;exact Dn
  |mp ag es=>simp only [ay.iq,osI] at c2;subst c2;obtain ⟨ms,clock,h1,h2,h3⟩:=Dn;exact ⟨ms,clock,h1,h2,bp.mono Gy _ _ _ h3⟩
  |dead=>simp only [ay.iq,osI] at c2;subst c2;trivial
  |bt=>simp only [ay.iq,osI] at c2;subst c2;trivial
 ·intro i j bi bj hi hj lR nE he
  rcases hinv i bi hi with ⟨c1,c2,c3⟩|⟨i',b0,c1,c2,c3⟩<;>rcases hinv j bj hj with ⟨d1,d2,d3⟩|⟨j',Yn,d1,d2,d3⟩
  ·rw [Gx i c1 c2,Gx j d1 d2] at he
   exact cx.inj i j bi bj c3 d3 lR nE he
  ·rw [Gx i c1 c2,(yz j' j d3).1] at he
   exact absurd (.inr ⟨i,bi,c3,lR,c2,he⟩) (Pg.apart j' Yn d1 ((ay.fH d2).2▸nE))
  ·rw [(yz i' i c3).1,Gx j d1 d2] at he
   exact absurd (.inr ⟨j,bj,d3,nE,d2,he.symm⟩) (Pg.apart i' b0 c1 ((ay.fH c2).2▸lR))
  rw [(yz i' i c3).1,(yz j' j d3).1] at he
  have:=Pg.inj i' j' b0 Yn c1 d1 ((ay.fH c2).2▸lR) ((ay.fH d2).2▸nE) he
  subst this
  rw [c3] at d3;exact Option.some.inj d3
 cases RL with
 |ret v0=>
  simp only [iy.iq] at hr
  split at hr
  ·rename_i v hv
   simp only [osI] at hr;subst hr
   cases e with
   |returned u=>exact qg yz Mw v0 v u hv hres
   |panicked ch=>exact hres.elim
   |outgrown=>exact hres.elim
  simp at hr
 |Jl v0=>
  simp only [iy.iq] at hr
  split at hr
  ·rename_i v hv
   simp only [osI] at hr;subst hr
   cases e with
   |returned u=>exact hres.elim
   |panicked ch=>
    obtain ⟨u,k1,k2⟩:=hres
    exact ⟨u,k1,qg yz Mw v0 v u hv k2⟩
   |outgrown=>exact hres.elim
  simp at hr
end
end Dem
end
