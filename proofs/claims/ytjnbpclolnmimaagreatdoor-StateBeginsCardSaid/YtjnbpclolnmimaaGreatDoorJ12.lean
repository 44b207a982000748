/- Parts of a proof, joined. -/
import Derived.Test.YtjnbpclolnmimaaGreatDoorJ11
set_option linter.unusedSimpArgs false
set_option linter.unusedVariables false
set_option maxRecDepth 100000
set_option maxHeartbeats 4000000
section
open Go
namespace Dem
mutual
def AV.iq (m:Nat→Option Nat):AV→Option AV
 |.any=>some .any
 |.d x=>some (.d x)
 |.k c=>some (.k c)
 |.agg cs=>match AV.vQ m cs with
  |some ys=>some (.agg ys)
  |none=>none
 |.dF cs=>match AV.vQ m cs with
  |some ys=>some (.dF ys)
  |none=>none
 |.ptr b off=>match m b with
  |some j=>some (.ptr j off)
  |none=>none
 |.rp b sz i q=>match m b with
  |some j=>some (.rp j sz i q)
  |none=>none
 |.ep ds=>some (.ep ds)
 |.ow b sz n=>match m b with
  |some j=>some (.ow j sz n)
  |none=>none
 |.vw b sz off n c ex=>match m b with
  |some j=>some (.vw j sz off n c ex)
  |none=>none
 |.cl es=>some (.cl es)
 |.Ai b=>match m b with
  |some j=>some (.Ai j)
  |none=>none
 |.fn f cs=>match AV.vQ m cs with
  |some ys=>some (.fn f ys)
  |none=>none
 |.tC t x=>match AV.iq m x with
  |some y=>some (.tC t y)
  |none=>none
 |.cond p x=>match AV.iq m x with
  |some y=>some (.cond p y)
  |none=>none
def AV.vQ (m:Nat→Option Nat):List AV→Option (List AV)
 |[]=>some []
 |x::xs=>match AV.iq m x,AV.vQ m xs with
  |some y,some ys=>some (y::ys)
  |_,_=>none
end
mutual
def AV.refs:AV→List Nat
 |.ptr b _=>[b]
 |.rp b _ _ _=>[b]
 |.ow b _ _=>[b]
 |.vw b _ _ _ _ _=>[b]
 |.Ai b=>[b]
 |.agg cs=>AV.Bp cs
 |.dF cs=>AV.Bp cs
 |.fn _ cs=>AV.Bp cs
 |.tC _ x=>AV.refs x
 |.cond _ x=>AV.refs x
 |_=>[]
def AV.Bp:List AV→List Nat
 |[]=>[]
 |x::xs=>AV.refs x++AV.Bp xs
end
def VQ (b:Nat):List Nat→Bool
 |[]=>false
 |x::r=>bif Nat.beq b x then true else VQ b r
def dB (b:Nat):List Nat→Nat→Option Nat
 |[],_=>none
 |x::r,i=>bif Nat.beq b x then some i else dB b r (i+1)
def reach (bx:List ax):Nat→List Nat→List Nat→List Nat
 |0,_,acc=>acc
 |_+1,[],acc=>acc
 |n+1,b::todo,acc=>bif VQ b acc then reach bx n todo acc else
  reach bx n (todo++(match bx[b]? with|some (.var cs)=>AV.Bp cs|_=>[])) (acc++[b])
def ax.iq (m:Nat→Option Nat):ax→Option ax
 |.var cs=>match AV.vQ m cs with
  |some ys=>some (.var ys)
  |none=>none
 |b=>some b
def fD (m:Nat→Option Nat) (bx:List ax):List Nat→Option (List ax)
 |[]=>some []
 |i::r=>match bx[i]? with
  |some b=>match ax.iq m b,fD m bx r with
   |some b',some bs=>some (b'::bs)
   |_,_=>none
  |none=>none
def HC (m:Nat→Option Nat) (sl:List (Nat×AV)):List Nat→Option (List (Nat×AV))
 |[]=>some []
 |i::r=>match AV.iq m (fY i sl),HC m sl r with
  |some y,some ys=>some ((i,y)::ys)
  |_,_=>none
def E8 (b9:List Nat):Nat→List Nat→Bool
 |_,[]=>true
 |i,b::r=>(match dB b b9 0 with|some j=>Nat.beq i j|none=>false)&&E8 b9 (i+1) r
def upTo:Nat→List Nat
 |0=>[]
 |n+1=>upTo n++[n]
def QB (K:Nat) (ks:List Nat) (s:St):Option St:=
 match reach s.bx 99 (upTo K++AV.Bp (ks.map fun i=>fY i s.sl)) [] with
 |b9=>bif E8 b9 0 b9&&E8 b9 0 (upTo K) then
  match fD (fun b=>dB b b9 0) s.bx b9,HC (fun b=>dB b b9 0) s.sl ks with
  |some bx,some sl=>some ⟨sl,bx⟩
  |_,_=>none
  else none
structure Nf where
 ks:List Nat
 os:List (Nat×Nat):=[]
 ob:List (Nat×Nat×Nat):=[]
def NG (s:St):List (Nat×Nat)→St
 |[]=>s
 |(i,sz)::r=>match fY i s.sl with
  |.cl []=>NG ⟨put i (.ow s.bx.length sz 0) s.sl,s.bx++[.row sz []]⟩ r
  |_=>NG s r
def HD (s:St):List (Nat×Nat×Nat)→St
 |[]=>s
 |(b,c,sz)::r=>match s.bx[b]? with
  |some (.var cs)=>match cs[c]? with
   |some (.cl [])=>bif Nat.beq sz 0 then HD ⟨s.sl,s.bx.set b (.var (cs.set c (.d (.sl []))))⟩ r
    else HD ⟨s.sl,(s.bx++[ax.row sz []]).set b (.var (cs.set c (.ow s.bx.length sz 0)))⟩ r
   |_=>HD s r
  |_=>HD s r
def yX (K:Nat) (nf:Nf) (s:St):Option St:=QB K nf.ks (HD (NG s nf.os) nf.ob)
section
variable {G:Nat→Option (List D)} {N:Nat} {ds:List Deferred} {β β':Nat→Nat} {bx aG:List ax} {w:World} {X:Nat→Prop}
structure uw (K:Nat) (β:Nat→Nat) (bx:List ax) (β':Nat→Nat) (aG:List ax):Prop where
 born:∀i,i<K→bV bx i→β' i=β i∧bV aG i
 live:∀i b,aG[i]?=some b→b.live=true→∃j b',bx[j]?=some b'∧b'.live=true∧β j=β' i
theorem uw.refl (K:Nat) (β:Nat→Nat) (bx:List ax):uw K β bx β bx:=⟨fun _ _ h=>⟨rfl,h⟩,fun i b h1 h2=>⟨i,b,h1,h2,rfl⟩⟩
theorem uw.trans {K:Nat} {β'':Nat→Nat} {PG:List ax} (h:uw K β bx β' aG) (g:uw K β' aG β'' PG):uw K β bx β'' PG:=by
 refine ⟨?_,?_⟩
 ·intro i hi hb
  obtain ⟨h1,h2⟩:=h.born i hi hb
  obtain ⟨h3,h4⟩:=g.born i hi h2
  exact ⟨h3.trans h1,h4⟩
 intro i b h1 h2
 obtain ⟨j,b',h3,h4,h5⟩:=g.live i b h1 h2
 obtain ⟨k,b'',h6,h7,h8⟩:=h.live j b' h3 h4
 exact ⟨k,b'',h6,h7,h8.trans h5⟩
theorem Ext.QC {K:Nat} {β0:Nat→Nat} {aE:List ax} {w0:World} (ex:Ext β0 aE w0 β bx w) (hK:aE.length≤K) (h:uw K β bx β' aG):Ext β0 aE w0 β' aG w:=by
 refine ⟨ex.os,ex.tape,ex.output,ex.size,ex.block,ex.shape,?_,?_⟩
 ·intro i hi
  obtain ⟨h1,h2⟩:=ex.born i hi
  obtain ⟨b,hb,_⟩:=hi
  obtain ⟨h3,h4⟩:=h.born i (Nat.lt_of_lt_of_le (iS hb) hK) h2
  exact ⟨h3.trans h1,h4⟩
 intro i b h1 h2
 obtain ⟨j,b',h3,h4,h5⟩:=h.live i b h1 h2
 rw [←h5]
 exact ex.live j b' h3 h4
theorem uz {b:Nat}:∀{l:List Nat} {i j:Nat},dB b l i=some j→i≤j∧l[j-i]?=some b
 |[],_,_,h=>by simp [dB] at h
 |x::r,i,j,h=>by
  simp only [dB] at h
  cases hb:Nat.beq b x with
  |true=>
   simp only [hb,cond_true,osI] at h
   subst h
   have:=Nat.eq_of_beq_eq_true hb
   subst this
   simp
  |false=>
   simp only [hb,cond_false] at h
   obtain ⟨h1,h2⟩:=uz h
   refine ⟨by omega,?_⟩
   rw [show j-i=(j-(i+1))+1 by omega,List.getElem?_cons_succ]
   exact h2
theorem sI {b9:List Nat}:∀{l:List Nat} {i k b:Nat},E8 b9 i l=true→l[k]?=some b→dB b b9 0=some (i+k)
 |[],_,_,_,_,h=>by simp at h
 |x::r,i,k,b,h,hk=>by
  simp only [E8,Bool.and_eq_true] at h
  cases k with
  |zero=>
   simp only [List.getElem?_cons_zero,osI] at hk
   subst hk
   obtain ⟨h1,_⟩:=h
   split at h1
   ·rename_i j hj
    rw [hj,←Nat.eq_of_beq_eq_true h1];rfl
   simp at h1
  |succ k=>
   rw [List.getElem?_cons_succ] at hk
   have:=sI h.2 hk
   rw [this];congr 1;omega
theorem HE:∀{n i:Nat},i<n→(upTo n)[i]?=some i
 |n+1,i,h=>by
  have hl:(upTo n).length=n:=by
   clear h;induction n with
   |zero=>rfl
   |succ m ih=>simp [upTo,ih]
  simp only [upTo]
  by_cases hi:i<n
  ·rw [List.getElem?_append_left (by omega)];exact HE hi
  have:i=n:=by omega
  subst this
  rw [List.getElem?_append_right (by omega)];simp [hl]
mutual
theorem sJ {m:Nat→Option Nat} {ok ok':Nat→Prop} (hm:∀b j,m b=some j→β' j=β b∧(bV bx b→bV aG j)) (hok:∀aB,ok aB→ok' aB):
 ∀(x y:AV) (v:Value),x.iq m=some y→ah β bx w ok x v→ah β' aG w ok' y v
 |.any,y,v,h,_=>by simp only [AV.iq,osI] at h;subst h;simp [ah]
 |.d x,y,v,h,hv=>by
  simp only [AV.iq,osI] at h;subst h;simp only [ah] at hv ⊢
  exact aK.mono (fun aB hb=>⟨hok aB hb,rfl⟩) _ _ hv
 |.k c,y,v,h,hv=>by simp only [AV.iq,osI] at h;subst h;simpa [ah] using hv
 |.agg cs,y,v,h,hv=>by
  simp only [AV.iq] at h
  split at h
  ·rename_i ys hys
   simp only [osI] at h;subst h
   simp only [ah] at hv ⊢;obtain ⟨vs,h1,h2⟩:=hv
   exact ⟨vs,h1,kQ hm hok cs ys vs hys h2⟩
  simp at h
 |.dF cs,y,v,h,hv=>by
  simp only [AV.iq] at h
  split at h
  ·rename_i ys hys
   simp only [osI] at h;subst h
   simp only [ah] at hv ⊢;obtain ⟨vs,h1,h2⟩:=hv
   exact ⟨vs,h1,kQ hm hok cs ys vs hys h2⟩
  simp at h
 |.ptr b off,y,v,h,hv=>by
  simp only [AV.iq] at h
  split at h
  ·rename_i j hj
   simp only [osI] at h;subst h
   obtain ⟨e,hb⟩:=hm b j hj
   simp only [ah] at hv ⊢
   rw [e];exact ⟨hv.1,hb hv.2⟩
  simp at h
 |.rp b sz i q,y,v,h,hv=>by
  simp only [AV.iq] at h
  split at h
  ·rename_i j hj
   simp only [osI] at h;subst h
   obtain ⟨e,hb⟩:=hm b j hj
   simp only [ah] at hv ⊢
   rw [e];exact ⟨hv.1,hb hv.2⟩
  simp at h
 |.Ai b,y,v,h,hv=>by
  simp only [AV.iq] at h
  split at h
  ·rename_i j hj
   simp only [osI] at h;subst h
   obtain ⟨e,hb⟩:=hm b j hj
   simp only [ah] at hv ⊢
   rw [e];exact ⟨hv.1,hb hv.2⟩
  simp at h
 |.ep ds,y,v,h,hv=>by
  simp only [AV.iq,osI] at h;subst h
  simp only [ah] at hv ⊢;obtain ⟨aB,off,h1,h2,h3⟩:=hv
  exact ⟨aB,off,h1,hok aB h2,aY.mono (fun aB hb=>⟨hok aB hb,rfl⟩) aB (fun _=>rfl) _ _ h3⟩
 |.ow b sz n,y,v,h,hv=>by
  simp only [AV.iq] at h
  split at h
  ·rename_i j hj
   simp only [osI] at h;subst h
   obtain ⟨e,hb⟩:=hm b j hj
   simp only [ah] at hv ⊢
   rw [e];exact ⟨hb hv.1,hv.2⟩
  simp at h
 |.vw b sz off n c ex,y,v,h,hv=>by
  simp only [AV.iq] at h
  split at h
  ·rename_i j hj
   simp only [osI] at h;subst h
   obtain ⟨e,hb⟩:=hm b j hj
   simp only [ah] at hv ⊢
   rw [e];exact ⟨hb hv.1,hv.2⟩
  simp at h
 |.cl es,y,v,h,hv=>by
  simp only [AV.iq,osI] at h;subst h
  simp only [ah] at hv ⊢;obtain ⟨base,h1,h2⟩:=hv
  refine ⟨base,h1,h2.imp id ?_⟩
  rintro ⟨aB,off,sz,e1,e2,e3⟩
  exact ⟨aB,off,sz,e1,hok aB e2,av.mono (fun aB hb=>⟨hok aB hb,rfl⟩) aB sz (fun _=>rfl) _ _ e3⟩
 |.fn f cs,y,v,h,hv=>by
  simp only [AV.iq] at h
  split at h
  ·rename_i ys hys
   simp only [osI] at h;subst h
   simp only [ah] at hv ⊢;obtain ⟨vs,h1,h2⟩:=hv
   exact ⟨vs,h1,kQ hm hok cs ys vs hys h2⟩
  simp at h
 |.tC t x,y,v,h,hv=>by
  simp only [AV.iq] at h
  split at h
  ·rename_i z hz
   simp only [osI] at h;subst h
   simp only [ah] at hv ⊢;obtain ⟨u,h1,h2⟩:=hv
   exact ⟨u,h1,sJ hm hok x z u hz h2⟩
  simp at h
 |.cond p x,y,v,h,hv=>by
  simp only [AV.iq] at h
  split at h
  ·rename_i z hz
   simp only [osI] at h;subst h
   simp only [ah] at hv ⊢
   exact ⟨fun hp=>sJ hm hok x z v hz (hv.1 hp),hv.2⟩
  simp at h
theorem kQ {m:Nat→Option Nat} {ok ok':Nat→Prop} (hm:∀b j,m b=some j→β' j=β b∧(bV bx b→bV aG j)) (hok:∀aB,ok aB→ok' aB):
 ∀(xs ys:List AV) (vs:List Value),AV.vQ m xs=some ys→aj β bx w ok xs vs→aj β' aG w ok' ys vs
 |[],ys,vs,h,hv=>by simp only [AV.vQ,osI] at h;subst h;simpa [aj] using hv
 |x::xs,ys,vs,h,hv=>by
  simp only [AV.vQ] at h
  split at h
  ·rename_i y ys' h1 h2
   simp only [osI] at h;subst h
   simp only [aj] at hv ⊢
   obtain ⟨u,us,k1,k2,k3⟩:=hv
   exact ⟨u,us,k1,sJ hm hok x y u h1 k2,kQ hm hok xs ys' us h2 k3⟩
  simp at h
end
theorem iV {m:Nat→Option Nat}:∀{b9:List Nat} {bs:List ax},fD m bx b9=some bs→∀(k:Nat) (b':ax),bs[k]?=some b'→∃(i:Nat) (b:ax),b9[k]?=some i∧bx[i]?=some b∧ax.iq m b=some b'
 |[],bs,h,k,b',hk=>by simp only [fD,osI] at h;subst h;simp at hk
 |i::r,bs,h,k,b',hk=>by
  simp only [fD] at h
  split at h
  ·rename_i b hb
   split at h
   ·rename_i b1 bs1 h1 h2
    simp only [osI] at h;subst h
    cases k with
    |zero=>simp only [List.getElem?_cons_zero,osI] at hk;subst hk;exact ⟨i,b,rfl,hb,h1⟩
    |succ k=>simp only [List.getElem?_cons_succ] at hk ⊢;exact iV h2 k b' hk
   simp at h
  simp at h
theorem nB {m:Nat→Option Nat}:∀{b9:List Nat} {bs:List ax},fD m bx b9=some bs→∀(k i:Nat),b9[k]?=some i→∃(b b':ax),bx[i]?=some b∧ax.iq m b=some b'∧bs[k]?=some b'
 |[],bs,h,k,i,hk=>by simp at hk
 |i0::r,bs,h,k,i,hk=>by
  simp only [fD] at h
  split at h
  ·rename_i b hb
   split at h
   ·rename_i b1 bs1 h1 h2
    simp only [osI] at h;subst h
    cases k with
    |zero=>simp only [List.getElem?_cons_zero,osI] at hk;subst hk;exact ⟨b,b1,hb,h1,rfl⟩
    |succ k=>simp only [List.getElem?_cons_succ] at hk ⊢;exact nB h2 k i hk
   simp at h
  simp at h
theorem ax.fU {m:Nat→Option Nat} {b b':ax} (h:ax.iq m b=some b'):b'.born=b.born∧b'.live=b.live:=by
 unfold ax.iq at h
 split at h
 ·split at h
  ·simp only [osI] at h;subst h;exact ⟨rfl,rfl⟩
  simp at h
 simp only [osI] at h;subst h;exact ⟨rfl,rfl⟩
theorem DH {m:Nat→Option Nat} {sl:List (Nat×AV)}:∀{ks:List Nat} {ru:List (Nat×AV)},HC m sl ks=some ru→∀t,fY t ru=.any∨AV.iq m (fY t sl)=some (fY t ru)
 |[],ru,h,t=>by simp only [HC,osI] at h;subst h;exact .inl rfl
 |i::r,ru,h,t=>by
  simp only [HC] at h
  split at h
  ·rename_i y ys h1 h2
   simp only [osI] at h;subst h
   simp only [fY]
   cases hb:Nat.beq t i with
   |true=>have:=Nat.eq_of_beq_eq_true hb;subst this;exact .inr h1
   |false=>simp only [cond_false];exact DH h2 t
  simp at h
theorem HF {K:Nat} {ks:List Nat} {s s':St} {a:Act} (h:QB K ks s=some s') (hF:Fr G N ds β w X s a):
 ∃β',uw K β s.bx β' s'.bx∧Fr G N ds β' w X s' a:=by
 unfold QB at h
 generalize reach s.bx 99 (upTo K++AV.Bp (ks.map fun i=>fY i s.sl)) []=b9 at h
 simp only at h
 cases h1:E8 b9 0 b9 with
 |false=>simp [h1] at h
 |true=>
 cases h2:E8 b9 0 (upTo K) with
 |false=>simp [h1,h2] at h
 |true=>
 simp only [h1,h2,Bool.and_self,cond_true] at h
 split at h
 ·rename_i bs sl DI Wm
  simp only [osI] at h
  subst h
  have vR:∀k i,b9[k]?=some i→dB i b9 0=some k:=fun k i hk=>by have:=sI h1 hk;simpa using this
  have hidx:∀b j,dB b b9 0=some j→b9[j]?=some b:=fun b j hj=>by have:=(uz hj).2;simpa using this
  let β':Nat→Nat:=fun j=>match b9[j]? with|some i=>β i|none=>0
  have hβ:∀k i,b9[k]?=some i→β' k=β i:=fun k i hk=>by simp [β',hk]
  have hm:∀b j,dB b b9 0=some j→β' j=β b∧(bV s.bx b→bV bs j):=by
   intro b j hj
   have hs:=hidx b j hj
   refine ⟨hβ j b hs,?_⟩
   rintro ⟨B,hB,dj⟩
   obtain ⟨b1,b2,k1,k2,k3⟩:=nB DI j b hs
   rw [hB] at k1;cases k1
   exact ⟨b2,k3,(ax.fU k2).1.trans dj⟩
  have cr:∀(i:Nat) (b:ax),bs[i]?=some b→b.live=true→∃(j:Nat) (b':ax),s.bx[j]?=some b'∧b'.live=true∧β j=β' i∧b9[i]?=some j:=by
   intro i b hi hl
   obtain ⟨j,b',k1,k2,k3⟩:=iV DI i b hi
   exact ⟨j,b',k2,(ax.fU k3).2▸hl,(hβ i j k1).symm,k1⟩
  have hok:∀aB,be β s.bx w X aB→be β' bs w X aB:=by
   rintro aB ⟨k1,k2,k3⟩
   refine ⟨k1,k2,?_⟩
   intro i b hi hl
   obtain ⟨j,b',h3,h4,h5,_⟩:=cr i b hi hl
   rw [←h5];exact k3 j b' h3 h4
  have hkeep:jC w w (be β s.bx w X) (be β' bs w X):=fun aB hb=>⟨hok aB hb,rfl⟩
  refine ⟨β',⟨?_,?_⟩,⟨?_,hF.defers,hF.size,?_⟩⟩
  ·intro i hi hb
   have:=sI h2 (HE hi)
   simp only [Nat.zero_add] at this
   obtain ⟨k1,k2⟩:=hm i i this
   exact ⟨k1,k2 hb⟩
  ·intro i b hi hl
   obtain ⟨j,b',h3,h4,h5,_⟩:=cr i b hi hl
   exact ⟨j,b',h3,h4,h5⟩
  ·refine ⟨hF.cx.xs,?_,?_,?_,?_⟩
   ·intro g ds hg
    obtain ⟨k1,k2⟩:=hF.cx.Ar g ds hg
    exact ⟨hok g k1,aY.mono hkeep g (fun _=>rfl) _ _ k2⟩
   ·intro i j bi bj hi hj oc qB he
    obtain ⟨i',bi',a1,a2,a3,a4⟩:=cr i bi hi oc
    obtain ⟨j',bj',c1,c2,c3,c4⟩:=cr j bj hj qB
    have:i'=j':=hF.cx.inj i' j' bi' bj' a1 c1 a2 c2 (a3.trans (he.trans c3.symm))
    subst this
    have e1:=vR i i' a4
    have e2:=vR j i' c4
    rw [e1] at e2;exact Option.some.inj e2
   ·intro i b hi
    obtain ⟨j,b',k1,k2,k3⟩:=iV DI i b hi
    have hb:=hF.cx.box j b' k2
    rw [hβ i j k1]
    cases b' with
    |var cs=>
     simp only [ax.iq] at k3
     split at k3
     ·rename_i ys hys
      simp only [osI] at k3;subst k3
      simp only [dA] at hb ⊢
      obtain ⟨c,e,g1,g2⟩:=hb
      exact ⟨c,e,g1,kQ hm hok cs ys _ hys g2⟩
     simp at k3
    |row sz es=>
     simp only [ax.iq,osI] at k3;subst k3
     refine hb.imp id ?_
     rintro ⟨c,e,g1,g2⟩
     exact ⟨c,e,g1,av.mono hkeep _ _ (fun _=>rfl) _ _ g2⟩
    |oh sz es=>
     simp only [ax.iq,osI] at k3;subst k3
     refine hb.imp id ?_
     rintro ⟨g1,g2⟩
     exact ⟨hok _ g1,av.mono hkeep _ _ (fun _=>rfl) _ _ g2⟩
    |it s p=>simp only [ax.iq,osI] at k3;subst k3;exact hb
    |mp ag es=>simp only [ax.iq,osI] at k3;subst k3;obtain ⟨ms,clock,h1,h2,h3⟩:=hb;exact ⟨ms,clock,h1,h2,bp.mono hkeep _ _ _ h3⟩
    |dead=>simp only [ax.iq,osI] at k3;subst k3;trivial
    |bA=>simp only [ax.iq,osI] at k3;subst k3;trivial
   intro i b hi hl
   obtain ⟨j,b',h3,h4,h5,_⟩:=cr i b hi hl
   rw [←h5];exact hF.cx.apart j b' h3 h4
  intro t
  rcases DH Wm t with h3|h3
  ·rw [h3];simp [ah]
  exact sJ hm hok _ _ _ h3 (hF.xz t)
 simp at h
theorem HG (K:Nat) {sz:Nat} {s:St} {a:Act} (hF:Fr G N ds β w X s a):∃β',uw K β s.bx β' (s.bx++[.row sz []])∧Fr G N ds β' w X ⟨s.sl,s.bx++[.row sz []]⟩ a∧bV (s.bx++[.row sz []]) s.bx.length:=by
 have hinv:∀{i:Nat} {b:ax},(s.bx++[ax.row sz []])[i]?=some b→b.live=true→s.bx[i]?=some b:=by
  intro i b h hl
  rcases bw h with ⟨h1,_⟩|⟨h1,h2⟩
  ·exact h1
  subst h2;simp [ax.live] at hl
 have hok:∀aB,be β s.bx w X aB→be β (s.bx++[.row sz []]) w X aB:=by
  rintro aB ⟨k1,k2,k3⟩
  exact ⟨k1,k2,fun i b hi hl=>k3 i b (hinv hi hl) hl⟩
 have dj:∀i,bV s.bx i→bV (s.bx++[.row sz []]) i:=by
  rintro i ⟨b,h1,h2⟩
  exact ⟨b,eB h1,h2⟩
 have hkeep:jC w w (be β s.bx w X) (be β (s.bx++[.row sz []]) w X):=fun aB hb=>⟨hok aB hb,rfl⟩
 have rj:tI β s.bx w (be β s.bx w X) β (s.bx++[.row sz []]) w (be β (s.bx++[.row sz []]) w X):=by
  refine ⟨hkeep,?_,fun _ c _ _ h=>⟨c,h,rfl⟩⟩
  intro i hi
  exact ⟨rfl,dj i hi⟩
 refine ⟨β,⟨fun i _ hi=>⟨rfl,dj i hi⟩,fun i b hi hl=>⟨i,b,hinv hi hl,hl,rfl⟩⟩,⟨⟨hF.cx.xs,?_,?_,?_,?_⟩,hF.defers,hF.size,?_⟩,?_⟩
 ·intro g ds hg
  obtain ⟨k1,k2⟩:=hF.cx.Ar g ds hg
  exact ⟨hok g k1,aY.mono hkeep g (fun _=>rfl) _ _ k2⟩
 ·intro i j bi bj hi hj oc qB he
  exact hF.cx.inj i j bi bj (hinv hi oc) (hinv hj qB) oc qB he
 ·intro i b hi
  rcases bw hi with ⟨h1,_⟩|⟨h1,h2⟩
  ·have h:=hF.cx.box i b h1
   cases b with
   |var cs=>
    obtain ⟨c,e,g1,g2⟩:=h
    exact ⟨c,e,g1,aj.mono rj _ _ g2⟩
   |row sz es=>
    refine h.imp id ?_
    rintro ⟨c,e,g1,g2⟩
    exact ⟨c,e,g1,av.mono hkeep _ _ (fun _=>rfl) _ _ g2⟩
   |oh sz es=>
    refine h.imp id ?_
    rintro ⟨g1,g2⟩
    exact ⟨hok _ g1,av.mono hkeep _ _ (fun _=>rfl) _ _ g2⟩
   |it s p=>exact h
   |mp ag es=>obtain ⟨ms,clock,h1,h2,h3⟩:=h;exact ⟨ms,clock,h1,h2,bp.mono hkeep _ _ _ h3⟩
   |dead=>trivial
   |bA=>trivial
  subst h2;exact .inl rfl
 ·intro i b hi hl
  exact hF.cx.apart i b (hinv hi hl) hl
 ·intro t;exact ah.mono rj _ _ (hF.xz t)
 exact ⟨.row sz [],by simp,rfl⟩
theorem VR {ok:Nat→Prop} {n sz:Nat} {u:Value} (hb:bV bx n) (h:ah β bx w ok (.cl []) u):ah β bx w ok (.ow n sz 0) u:=by
 simp only [ah,List.length_nil] at h ⊢
 obtain ⟨base,h1,_⟩:=h
 exact ⟨hb,.inl ⟨trivial,base,h1⟩⟩
theorem uA (K:Nat) {a:Act}:∀(l:List (Nat×Nat)) (s:St) (β:Nat→Nat),Fr G N ds β w X s a→∃β',uw K β s.bx β' (NG s l).bx∧Fr G N ds β' w X (NG s l) a
 |[],s,β,hF=>⟨β,uw.refl _ _ _,hF⟩
 |(i,sz)::r,s,β,hF=>by
  unfold NG
  split
  ·rename_i hl
   obtain ⟨β1,e1,CM,hb⟩:=HG (sz:=sz) K hF
   have zY:Fr G N ds β1 w X ⟨put i (.ow s.bx.length sz 0) s.sl,s.bx++[.row sz []]⟩ a:=by
    refine ⟨CM.cx,CM.defers,CM.size,?_⟩
    intro t
    have h1:=CM.xz t
    simp only [sE]
    by_cases ht:t=i
    ·subst ht
     rw [if_pos rfl]
     have Mk:ah β1 (s.bx++[.row sz []]) w (be β1 (s.bx++[.row sz []]) w X) (fY t s.sl) (a.tmps.getD t undef):=h1
     rw [hl] at Mk
     exact VR hb Mk
    rw [if_neg ht];exact h1
   obtain ⟨β2,e2,E9⟩:=uA K r _ β1 zY
   exact ⟨β2,e1.trans e2,E9⟩
  exact uA K r s β hF
theorem DJ {ok:Nat→Prop} {x y:AV} (hxy:∀u,ah β bx w ok x u→ah β bx w ok y u):∀(cs:List AV) (c:Nat) (vs:List Value),cs[c]?=some x→aj β bx w ok cs vs→aj β bx w ok (cs.set c y) vs
 |[],_,_,h,_=>by simp at h
 |z::cs,0,vs,h,hv=>by
  simp only [List.getElem?_cons_zero,osI] at h;subst h
  simp only [List.set_cons_zero,aj] at hv ⊢
  obtain ⟨u,us,h1,h2,h3⟩:=hv
  exact ⟨u,us,h1,hxy u h2,h3⟩
 |z::cs,c+1,vs,h,hv=>by
  simp only [List.getElem?_cons_succ] at h
  simp only [List.set_cons_succ,aj] at hv ⊢
  obtain ⟨u,us,h1,h2,h3⟩:=hv
  exact ⟨u,us,h1,h2,DJ hxy cs c us h h3⟩
theorem QD {s:St} {a:Act} (hF:Fr G N ds β w X s a) {b c:Nat} {cs:List AV} {x y:AV} (hb:s.bx[b]?=some (.var cs)) (hc:cs[c]?=some x)
 (hxy:∀u,ah β s.bx w (be β s.bx w X) x u→ah β s.bx w (be β s.bx w X) y u) (K:Nat):
 uw K β s.bx β (s.bx.set b (.var (cs.set c y)))∧Fr G N ds β w X ⟨s.sl,s.bx.set b (.var (cs.set c y))⟩ a:=by
 have hinv:∀{i:Nat} {B:ax},(s.bx.set b (.var (cs.set c y)))[i]?=some B→(i=b∧B=.var (cs.set c y))∨(i≠b∧s.bx[i]?=some B):=by
  intro i B h
  rcases aL h with ⟨h1,h2,_⟩|⟨h1,h2⟩
  ·exact .inl ⟨h1,h2⟩
  exact .inr ⟨h1,h2⟩
 have cr:∀{i:Nat} {B:ax},(s.bx.set b (.var (cs.set c y)))[i]?=some B→B.live=true→∃B',s.bx[i]?=some B'∧B'.live=true:=by
  intro i B h hl
  rcases hinv h with ⟨rfl,rfl⟩|⟨_,h1⟩
  ·exact ⟨_,hb,rfl⟩
  exact ⟨B,h1,hl⟩
 have hok:∀aB,be β s.bx w X aB→be β (s.bx.set b (.var (cs.set c y))) w X aB:=by
  rintro aB ⟨k1,k2,k3⟩
  refine ⟨k1,k2,fun i B hi hl=>?_⟩
  obtain ⟨B',h1,h2⟩:=cr hi hl
  exact k3 i B' h1 h2
 have dj:∀i,bV s.bx i→bV (s.bx.set b (.var (cs.set c y))) i:=fun i hi=>ix rfl hi
 have hkeep:jC w w (be β s.bx w X) (be β (s.bx.set b (.var (cs.set c y))) w X):=fun aB hb=>⟨hok aB hb,rfl⟩
 have rj:tI β s.bx w (be β s.bx w X) β (s.bx.set b (.var (cs.set c y))) w (be β (s.bx.set b (.var (cs.set c y))) w X):=
  ⟨hkeep,fun i hi=>⟨rfl,dj i hi⟩,fun _ c _ _ h=>⟨c,h,rfl⟩⟩
 refine ⟨⟨fun i _ hi=>⟨rfl,dj i hi⟩,fun i B hi hl=>?_⟩,⟨⟨hF.cx.xs,?_,?_,?_,?_⟩,hF.defers,hF.size,?_⟩⟩
 ·obtain ⟨B',h1,h2⟩:=cr hi hl
  exact ⟨i,B',h1,h2,rfl⟩
 ·intro g ds hg
  obtain ⟨k1,k2⟩:=hF.cx.Ar g ds hg
  exact ⟨hok g k1,aY.mono hkeep g (fun _=>rfl) _ _ k2⟩
 ·intro i j bi bj hi hj oc qB he
  obtain ⟨B1,h1,h2⟩:=cr hi oc
  obtain ⟨B2,h3,h4⟩:=cr hj qB
  exact hF.cx.inj i j B1 B2 h1 h3 h2 h4 he
 ·intro i B hi
  rcases hinv hi with ⟨rfl,rfl⟩|⟨_,h1⟩
  ·have h:=hF.cx.box _ _ hb
   simp only [dA] at h ⊢
   obtain ⟨cc,e,g1,g2⟩:=h
   exact ⟨cc,e,g1,aj.mono rj _ _ (DJ hxy cs c _ hc g2)⟩
  have h:=hF.cx.box i B h1
  cases B with
  |var cs=>
   obtain ⟨c,e,g1,g2⟩:=h
   exact ⟨c,e,g1,aj.mono rj _ _ g2⟩
  |row sz es=>
   refine h.imp id ?_
   rintro ⟨c,e,g1,g2⟩
   exact ⟨c,e,g1,av.mono hkeep _ _ (fun _=>rfl) _ _ g2⟩
  |oh sz es=>
   refine h.imp id ?_
   rintro ⟨g1,g2⟩
   exact ⟨hok _ g1,av.mono hkeep _ _ (fun _=>rfl) _ _ g2⟩
  |it s p=>exact h
  |mp ag es=>obtain ⟨ms,clock,h1,h2,h3⟩:=h;exact ⟨ms,clock,h1,h2,bp.mono hkeep _ _ _ h3⟩
  |dead=>trivial
  |bA=>trivial
 ·intro i B hi hl
  obtain ⟨B',h1,h2⟩:=cr hi hl
  exact hF.cx.apart i B' h1 h2
 intro t;exact ah.mono rj _ _ (hF.xz t)
theorem mR (K:Nat) {a:Act}:∀(l:List (Nat×Nat×Nat)) (s:St) (β:Nat→Nat),Fr G N ds β w X s a→∃β',uw K β s.bx β' (HD s l).bx∧Fr G N ds β' w X (HD s l) a
 |[],s,β,hF=>⟨β,uw.refl _ _ _,hF⟩
 |(b,c,sz)::r,s,β,hF=>by
  unfold HD
  split
  ·rename_i cs hb
   split
   ·rename_i hc
    cases hz:Nat.beq sz 0 with
    |true=>
     simp only [cond_true]
     obtain ⟨e2,zY⟩:=QD hF (b:=b) hb hc (y:=.d (.sl [])) (fun u hu=>by
      simp only [ah,aK] at hu ⊢
      obtain ⟨base,h1,h2⟩:=hu
      exact ⟨base,_,h1,Nat.le_refl _,h2⟩) K
     obtain ⟨β2,e3,E9⟩:=mR K r _ β zY
     exact ⟨β2,e2.trans e3,E9⟩
    |false=>
    simp only [cond_false]
    obtain ⟨β1,e1,CM,EN⟩:=HG (sz:=sz) K hF
    have qK:(s.bx++[ax.row sz []])[b]?=some (.var cs):=eB hb
    obtain ⟨e2,zY⟩:=QD (s:=⟨s.sl,s.bx++[.row sz []]⟩) CM (b:=b) qK hc (y:=.ow s.bx.length sz 0) (fun u hu=>VR EN hu) K
    obtain ⟨β2,e3,E9⟩:=mR K r _ β1 zY
    exact ⟨β2,(e1.trans e2).trans e3,E9⟩
   exact mR K r s β hF
  exact mR K r s β hF
theorem yY {K:Nat} {nf:Nf} {s s':St} {a:Act} (h:yX K nf s=some s') (hF:Fr G N ds β w X s a):∃β',uw K β s.bx β' s'.bx∧Fr G N ds β' w X s' a:=by
 unfold yX at h
 obtain ⟨β1,e1,CM⟩:=uA K nf.os s β hF
 obtain ⟨β2,e2,zY⟩:=mR K nf.ob _ β1 CM
 obtain ⟨β3,e3,E9⟩:=HF h zY
 exact ⟨β3,(e1.trans e2).trans e3,E9⟩
end
structure rG (o:Option St) (P:St→Prop):Prop where
 ok:match o with
  |some s=>P s
  |none=>False
structure VS (K:Nat) (A:(Ex→St→Prop)→St→Prop) (Q:Ex→St→Prop) (s:St):Prop where
 ok:∃(nf:Nf) (I:Nat→St→Prop) (n:Nat),rG (yX K nf s) (I n)∧∀n s1,I n s1→A (fun e s2=>nt (fun s2=>rG (yX K nf s2) (fun s3=>∃m,m<n∧I m s3)) Q e s2) s1
mutual
def AV.CW (b:Nat) (x:D):AV→AV
 |.Ai c=>bif Nat.beq c b then .d x else .Ai c
 |.agg cs=>.agg (AV.HH b x cs)
 |.dF cs=>.dF (AV.HH b x cs)
 |.fn f cs=>.fn f (AV.HH b x cs)
 |.tC t y=>.tC t (AV.CW b x y)
 |.cond p y=>.cond p (AV.CW b x y)
 |v=>v
def AV.HH (b:Nat) (x:D):List AV→List AV
 |[]=>[]
 |y::ys=>AV.CW b x y::AV.HH b x ys
end
def ax.CW (b:Nat) (x:D):ax→ax
 |.var cs=>.var (AV.HH b x cs)
 |B=>B
def xH (b:Nat) (x:D):List (Nat×AV)→List (Nat×AV)
 |[]=>[]
 |(i,v)::r=>(i,AV.CW b x v)::xH b x r
def xI (b:Nat) (x:D):List ax→Nat→List ax
 |[],_=>[]
 |B::r,i=>(bif Nat.beq i b then .dead else ax.CW b x B)::xI b x r (i+1)
def iW (b:Nat) (x:D) (s:St):St:=⟨xH b x s.sl,xI b x s.bx 0⟩
def QE:List ax→Bool
 |[]=>false
 |.mp _ _::_=>true
 |_::r=>QE r
structure YU (s:St) (A:St→Prop):Prop where
 ok:A s∨∃b ag es,s.bx[b]?=some (.mp ag es)∧A (iW b (.mp ag es) s)
section
variable {P:Program} {T:Nat→Option TI} {G:Nat→Option (List D)} {N:Nat} {ds:List Deferred} {β:Nat→Nat} {w:World} {X:Nat→Prop} {s:St}
theorem pK (b:Nat) (x:D):∀(l:List ax) (k i:Nat),(xI b x l k)[i]?=(l[i]?).map fun B=>bif Nat.beq (k+i) b then .dead else ax.CW b x B
 |[],_,_=>by simp [xI]
 |B::r,k,0=>by simp [xI]
 |B::r,k,i+1=>by simp only [xI,List.getElem?_cons_succ];rw [pK b x r (k+1) i,show k+1+i=k+(i+1) by omega]
theorem HI (b:Nat) (x:D) (B:ax):(ax.CW b x B).live=B.live∧(ax.CW b x B).born=B.born:=by cases B<;>simp [ax.CW,ax.live,ax.born]
theorem HJ (b:Nat) (x:D) (t:Nat):∀sl:List (Nat×AV),fY t (xH b x sl)=AV.CW b x (fY t sl)
 |[]=>by simp [xH,fY,AV.CW]
 |(u,v)::r=>by
  simp only [xH,fY]
  cases Nat.beq t u with
  |true=>rfl
  |false=>simpa using HJ b x t r
mutual
theorem z7 {bx aG:List ax} {ok ok':Nat→Prop} {b:Nat} {x:D} (hl:tI β bx w ok β aG w ok') (hb:∀v,v=.map (some (β b))→aK w ok' x v):∀(y:AV) (v:Value),ah β bx w ok y v→ah β aG w ok' (AV.CW b x y) v
 |.Ai c,v,h=>by
  unfold AV.CW
  cases hc:Nat.beq c b with
  |true=>
   obtain rfl:=Nat.eq_of_beq_eq_true hc
   simp only [cond_true,ah] at h ⊢
   exact hb v h.1
  |false=>simpa using ah.mono hl _ _ h
 |.agg cs,v,h=>by simp only [AV.CW,ah] at h ⊢;obtain ⟨vs,h1,h2⟩:=h;exact ⟨vs,h1,rH hl hb cs vs h2⟩
 |.dF cs,v,h=>by simp only [AV.CW,ah] at h ⊢;obtain ⟨vs,h1,h2⟩:=h;exact ⟨vs,h1,rH hl hb cs vs h2⟩
 |.fn f cs,v,h=>by simp only [AV.CW,ah] at h ⊢;obtain ⟨vs,h1,h2⟩:=h;exact ⟨vs,h1,rH hl hb cs vs h2⟩
 |.tC t y,v,h=>by simp only [AV.CW,ah] at h ⊢;obtain ⟨u,h1,h2⟩:=h;exact ⟨u,h1,z7 hl hb y u h2⟩
 |.cond p y,v,h=>by simp only [AV.CW,ah] at h ⊢;exact ⟨fun hp=>z7 hl hb y v (h.1 hp),h.2⟩
 |.any,v,h=>ah.mono hl _ _ h
 |.d _,v,h=>ah.mono hl _ _ h
 |.k _,v,h=>ah.mono hl _ _ h
 |.ptr _ _,v,h=>ah.mono hl _ _ h
 |.rp _ _ _ _,v,h=>ah.mono hl _ _ h
 |.ep _,v,h=>ah.mono hl _ _ h
 |.ow _ _ _,v,h=>ah.mono hl _ _ h
 |.cl _,v,h=>ah.mono hl _ _ h
 |.vw _ _ _ _ _ _,v,h=>ah.mono hl _ _ h
theorem rH {bx aG:List ax} {ok ok':Nat→Prop} {b:Nat} {x:D} (hl:tI β bx w ok β aG w ok') (hb:∀v,v=.map (some (β b))→aK w ok' x v):∀(ys:List AV) (vs:List Value),aj β bx w ok ys vs→aj β aG w ok' (AV.HH b x ys) vs
 |[],vs,h=>by simpa [AV.HH,aj] using h
 |y::ys,vs,h=>by
  simp only [AV.HH,aj] at h ⊢
  obtain ⟨u,us,h1,h2,h3⟩:=h
  exact ⟨u,us,h1,z7 hl hb y u h2,rH hl hb ys us h3⟩
end
theorem TJ {a:Act} (hF:Fr G N ds β w X s a) {b:Nat} {ag:Bool} {es:List (List D)} (hb:s.bx[b]?=some (.mp ag es)):
 Ext β s.bx w β (iW b (.mp ag es) s).bx w∧Fr G N ds β w X (iW b (.mp ag es) s) a:=by
 have A8:∀{i:Nat} {B:ax},(iW b (.mp ag es) s).bx[i]?=some B→(i=b∧B=.dead)∨(i≠b∧∃B',s.bx[i]?=some B'∧B=ax.CW b (.mp ag es) B'):=by
  intro i B h
  simp only [iW,pK,Nat.zero_add,Option.map_eq_some_iff] at h
  obtain ⟨B',h1,h2⟩:=h
  cases hi:Nat.beq i b with
  |true=>simp only [hi,cond_true] at h2;exact .inl ⟨Nat.eq_of_beq_eq_true hi,h2.symm⟩
  |false=>simp only [hi,cond_false] at h2;exact .inr ⟨Nat.ne_of_beq_eq_false hi,B',h1,h2.symm⟩
 have cr:∀{i:Nat} {B:ax},(iW b (.mp ag es) s).bx[i]?=some B→B.live=true→i≠b∧∃B',s.bx[i]?=some B'∧B'.live=true:=by
  intro i B h hl
  rcases A8 h with ⟨_,rfl⟩|⟨h1,B',h2,rfl⟩
  ·cases hl
  exact ⟨h1,B',h2,(HI _ _ _).1▸hl⟩
 have dj:∀i,bV s.bx i→bV (iW b (.mp ag es) s).bx i:=by
  rintro i ⟨B,h1,h2⟩
  cases hi:Nat.beq i b with
  |true=>exact ⟨.dead,by simp [iW,pK,h1,hi],rfl⟩
  |false=>exact ⟨ax.CW b (.mp ag es) B,by simp [iW,pK,h1,hi],(HI _ _ _).2.trans h2⟩
 have hok:∀aB,be β s.bx w X aB→be β (iW b (.mp ag es) s).bx w X aB:=by
  rintro aB ⟨k1,k2,k3⟩
  refine ⟨k1,k2,fun i B hi hl=>?_⟩
  obtain ⟨_,B',h1,h2⟩:=cr hi hl
  exact k3 i B' h1 h2
 have hkeep:jC w w (be β s.bx w X) (be β (iW b (.mp ag es) s).bx w X):=fun aB hb=>⟨hok aB hb,rfl⟩
 have rj:tI β s.bx w (be β s.bx w X) β (iW b (.mp ag es) s).bx w (be β (iW b (.mp ag es) s).bx w X):=⟨hkeep,fun i hi=>⟨rfl,dj i hi⟩,fun _ c _ _ h=>⟨c,h,rfl⟩⟩
 have GI:=hF.cx.box b _ hb
 have hmp:∀v,v=.map (some (β b))→aK w (be β (iW b (.mp ag es) s).bx w X) (.mp ag es) v:=by
  rintro v rfl
  obtain ⟨ms,clock,h1,h2,h3⟩:=GI
  simp only [aK]
  refine ⟨β b,ms,clock,rfl,⟨eK h1,hF.cx.apart b _ hb rfl,?_⟩,h1,h2,bp.mono hkeep _ _ _ h3⟩
  intro i B hi hl he
  obtain ⟨g1,B',g2,g3⟩:=cr hi hl
  exact g1 (hF.cx.inj i b B' _ g2 hb g3 rfl he)
 refine ⟨⟨rfl,rfl,rfl,Nat.le_refl _,fun _ _ _=>rfl,fun _ c _ _ h=>⟨c,h,rfl⟩,fun i hi=>⟨rfl,dj i hi⟩,?_⟩,⟨⟨hF.cx.xs,?_,?_,?_,?_⟩,hF.defers,hF.size,?_⟩⟩
 ·intro i B hi hl
  obtain ⟨_,B',g2,g3⟩:=cr hi hl
  exact .inr ⟨i,B',g2,g3,rfl⟩
 ·intro g ds hg
  obtain ⟨k1,k2⟩:=hF.cx.Ar g ds hg
  exact ⟨hok g k1,aY.mono hkeep g (fun _=>rfl) _ _ k2⟩
 ·intro i j bi bj hi hj oc qB he
  obtain ⟨_,Bi,g2,g3⟩:=cr hi oc
  obtain ⟨_,Bj,g4,g5⟩:=cr hj qB
  exact hF.cx.inj i j Bi Bj g2 g4 g3 g5 he
 ·intro i B hi
  rcases A8 hi with ⟨_,rfl⟩|⟨_,B',h2,rfl⟩
  ·trivial
  have h:=hF.cx.box i B' h2
  cases B' with
  |var cs=>
   obtain ⟨c,e,g1,g2⟩:=h
   exact ⟨c,e,g1,rH rj hmp _ _ g2⟩
  |row sz es=>
   refine h.imp id ?_
   rintro ⟨c,e,g1,g2⟩
   exact ⟨c,e,g1,av.mono hkeep _ _ (fun _=>rfl) _ _ g2⟩
  |oh sz es=>
   refine h.imp id ?_
   rintro ⟨g1,g2⟩
   exact ⟨hok _ g1,av.mono hkeep _ _ (fun _=>rfl) _ _ g2⟩
  |it s p=>exact h
  |mp ag es=>obtain ⟨ms,clock,h1,h2,h3⟩:=h;exact ⟨ms,clock,h1,h2,bp.mono hkeep _ _ _ h3⟩
  |dead=>trivial
  |bA=>trivial
 ·intro i B hi hl
  obtain ⟨_,B',g2,g3⟩:=cr hi hl
  exact hF.cx.apart i B' g2 g3
 intro t
 show ah β _ w _ (fY t (xH b (.mp ag es) s.sl)) _
 rw [HJ]
 exact z7 rj hmp _ _ (hF.xz t)
end
section
variable (t:Th) (FC:Nat→List AV→List ax→fm→List ax→Prop) (T:Nat→Option TI) (G:Nat→Option (List D)) (N K:Nat)
def rI:Code→(Ex→St→Prop)→St→Prop
 |.skip,Q,s=>Q .normal s
 |.region _ ops draw,Q,s=>bif draw then (bif QE s.bx then YU s (fun s=>Mx t FC T G N ops.toList Q s) else Mx t FC T G N ops.toList Q s) else Ku t FC T G N ops.toList ops.toList Q s
 |.seq a b,Q,s=>rI a (fun e s1=>nt (fun s1=>rI b Q s1) Q e s1) s
 |.cond c a b,Q,s=>(bW G s.sl c).ok∧wX (bW G s.sl c).aP (fun _=>rI a Q s) (fun _=>rI b Q s)
 |.block id c,Q,s=>rI c (fun e s1=>match e with|.exit j=>bif Nat.beq j id then Q .normal s1 else Q (.exit j) s1|e=>Q e s1) s
 |.loop c,Q,s=>VS K (fun Q1 s1=>rI c Q1 s1) Q s
 |.exit id,Q,s=>Q (.exit id) s
 |.label _,Q,s=>Q .normal s
 |.ret,Q,s=>Q .ret s
 |_,_,_=>False
structure Bq (n:Nat) (c:Prop) (v:AV) (bx:List ax) (fz:Option (Prop×AV)) (res:fm) (aG:List ax):Prop where
 ok:c∧((res=.ret v∧aG=bx)∨
  (∃ks d u,fz=some (d,u)∧d∧u.within n=true∧aG=(kill ks (qQ bx v)).take n∧cm n aG=true∧res=.ret u)∨
  (∃k sz m es,v=.ow k sz m∧bx[k]?=some (.row sz es)∧n≤k∧n≤bx.length∧cm n (bx.take n)=true∧res=.ret (.ow n sz m)∧aG=bx.take n++[.row sz es])∨
  (∃sz,v=.cl []∧n≤bx.length∧cm n (bx.take n)=true∧res=.ret (.ow n sz 0)∧aG=bx.take n++[.row sz []]))
def jE (results:List ResultVar) (n:Nat) (res:fm) (aG:List ax):Ex→St→Prop
 |.exit _,_=>False
 |.panic v,s=>PF v s.bx res aG
 |_,s=>match u7 T s.sl s.bx results with
  |some (c,vs)=>Bq n c (oq vs) s.bx (DD t s.bx (oq vs)) res aG
  |none=>False
end
section
variable {P:Program} {T:Nat→Option TI} {G:Nat→Option (List D)} {N K:Nat} {ds:List Deferred} {X:Nat→Prop} {β0:Nat→Nat} {aE:List ax} {w0:World}
theorem QF {β:Nat→Nat} {w:World} {s s1:St} {a:Act} {i:Nat} {c:Prop} (hF:Fr G N ds β w X s a) (h:E6 t0 i s=some (c,s1)) (hc:c):Ext β s.bx w β s1.bx w∧Fr G N ds β w X s1 a:=by
 unfold E6 at h
 split at h
 ·rename_i c' y hy
  simp only [osI,Prod.mk.injEq] at h
  obtain ⟨rfl,rfl⟩:=h
  obtain ⟨g1,g2,g3⟩:=EP hF.cx (Ks hy hc) (hF.xz i)
  refine ⟨g1,g2,hF.defers,hF.size,fun t=>?_⟩
  simp only [sE]
  by_cases h:t=i
  ·subst h;rw [if_pos rfl];exact g3
  rw [if_neg h];exact ah.mono (g1.dQ X) _ _ (hF.xz t)
 cases h
theorem rJ (hD:kX P T G) {id:Nat} {ops:Array Oper} {Q:Ex→St→Prop} {β:Nat→Nat} {w:World} {s:St} {a:Act} (ex:Ext β0 aE w0 β s.bx w) (hF:Fr G N ds β w X s a)
 (h:Mx t0 (bg P G) T G N ops.toList Q s):(Code.region id ops true).wp P (ee G N ds X β0 aE w0 Q) a w:=by
 rcases TH h with h|⟨i,c,s1,h1,hc,h⟩
 ·exact hD _ _ _ _ _ _ id ops Q β w s a ex hF h
 obtain ⟨e1,CM⟩:=QF hF h1 hc
 exact hD _ _ _ _ _ _ id ops Q β w s1 a (ex.trans e1) CM h
theorem fh (hT:iH P T) (hD:kX P T G) (hK:aE.length≤K):∀(c:Code) (Q:Ex→St→Prop) (β:Nat→Nat) (w:World) (s:St) (a:Act),Ext β0 aE w0 β s.bx w→Fr G N ds β w X s a→
 rI t0 (bg P G) T G N K c Q s→c.wp P (ee G N ds X β0 aE w0 Q) a w
 |.skip,Q,β,w,s,a,ex,hF,h=>wp_skip ⟨β,s,ex,hF,h⟩
 |.region id ops draw,Q,β,w,s,a,ex,hF,h=>by
  cases draw with
  |true=>
   simp only [rI,cond_true] at h
   cases hm:QE s.bx with
   |false=>simp only [hm,cond_false] at h;exact rJ hD ex hF h
   |true=>
    simp only [hm,cond_true] at h
    rcases h with ⟨h|⟨b,ag,es,hb,h⟩⟩
    ·exact rJ hD ex hF h
    obtain ⟨e1,CM⟩:=TJ hF hb
    exact rJ hD (ex.trans e1) CM h
  |false=>exact wp_region_list (jP hT ops.toList β w s a ex hF (E7 _ _ h))
 |.seq x y,Q,β,w,s,a,ex,hF,h=>by
  refine wp_seq (wp_mono (fh hT hD hK x _ β w s a ex hF h) ?_)
  intro e a' w' hl
  cases e<;>simp only [ee,nt] at hl
  ·obtain ⟨β',s',h1,h2,h3⟩:=hl
   exact fh hT hD hK y Q β' w' s' a' h1 h2 h3
  ·exact hl
  ·exact hl
  exact hl
 |.cond c x y,Q,β,w,s,a,ex,hF,h=>by
  obtain ⟨h1,⟨h2⟩⟩:=h
  split at h2
  ·rename_i p hc
   have hv:=iE (hF.eval c) h1
   rw [hc] at hv
   simp only [ah,aK] at hv
   exact wp_cond_split hv (fun hp=>fh hT hD hK x Q β w s a ex hF (h2.1 hp)) (fun hp=>fh hT hD hK y Q β w s a ex hF (h2.2 hp))
  exact h2.elim
 |.block id c,Q,β,w,s,a,ex,hF,h=>by
  refine wp_block (wp_mono (fh hT hD hK c _ β w s a ex hF h) ?_)
  intro e a' w' hl
  cases e<;>simp only [ee,Exit.inBlock] at hl ⊢
  ·exact hl
  ·rename_i j
   by_cases hj:j=id
   ·subst hj
    simpa [ee] using hl
   have hb:Nat.beq j id=false:=Wr hj
   simpa [ee,hb,hj] using hl
  ·exact hl
  exact hl
 |.loop c,Q,β,w,s,a,ex,hF,h=>by
  obtain ⟨nf,I,n,⟨hI⟩,WH⟩:=h
  refine wp_loop_ghost (fun n a w=>∃β s,Ext β0 aE w0 β s.bx w∧Fr G N ds β w X s a∧I n s) n ?_ ?_
  ·split at hI
   ·rename_i s' hn
    obtain ⟨β',e1,Tt⟩:=yY hn hF
    exact ⟨β',s',ex.QC hK e1,Tt,hI⟩
   exact hI.elim
  rintro n a w ⟨β,s,ex,hF,hI⟩
  refine wp_mono (fh hT hD hK c _ β w s a ex hF (WH n s hI)) ?_
  intro e a' w' hl
  cases e<;>simp only [ee,nt] at hl
  ·obtain ⟨β',s',h1,h2,⟨h3⟩⟩:=hl
   split at h3
   ·rename_i s'' hn
    obtain ⟨m,h4,h5⟩:=h3
    obtain ⟨β'',e1,Tt⟩:=yY hn h2
    exact ⟨m,h4,β'',s'',h1.QC hK e1,Tt,h5⟩
   exact h3.elim
  ·exact hl
  ·exact hl
  exact hl
 |.exit id,Q,β,w,s,a,ex,hF,h=>wp_exit ⟨β,s,ex,hF,h⟩
 |.label l,Q,β,w,s,a,ex,hF,h=>wp_label ⟨β,s,ex,hF,h⟩
 |.ret,Q,β,w,s,a,ex,hF,h=>wp_ret ⟨β,s,ex,hF,h⟩
theorem pL {results:List ResultVar} {n:Nat} {res:fm} {aG:List ax} {e:Ex} {s:St} (h:jE t0 T results n res aG e s):Df T results n res aG e s:=by
 unfold jE at h
 split at h
 ·exact h.elim
 ·exact h
 rename_i h1 h2
 unfold Df
 split
 ·exact absurd rfl (h1 _)
 ·exact absurd rfl (h2 _)
 split at h
 ·rename_i c vs hr
  simp only [hr]
  obtain ⟨hc,h⟩:=h
  refine ⟨hc,?_⟩
  rcases h with h|⟨ks,d,u,k1,k2,k3⟩|h|h
  ·exact .inl h
  ·exact .inr (.inl ⟨ks,u,Kt k1 k2,k3⟩)
  ·exact .inr (.inr (.inl h))
  exact .inr (.inr (.inr h))
 exact h.elim
theorem zM (hT:iH P T) (hD:kX P T G) {f N:Nat} {fn:Func} {c:Code} {args:List AV} {aE aG:List ax} {res:fm} (hf:P.funcs[f]?=some fn) (hb:fn.body=some c)
 (hname:(fn.name== "runtime.NumGoroutine")=false) (hN:fn.ntmps=N) (hlen:Nat.ble args.length N=true)
 (h:rI t0 (bg P G) T G N aE.length c (jE t0 T fn.results.toList aE.length res aG) ⟨gA 0 args,aE⟩):bg P G f args aE res aG:=
 vA hT hf hb hname hN hlen fun β w X a hF=>wp_mono (fh (X:=X) (β0:=β) (aE:=aE) (w0:=w) hT hD (Nat.le_refl _) c _ β w ⟨gA 0 args,aE⟩ a (Ext.refl _ _ _) hF h)
  fun _ _ _ hl=>ee.imp (fun _ _ hq=>pL hq) hl
end
end Dem
end
section
open Go
namespace Dem
def jF (b9:List Nat) (n:Nat) (j:Nat):Option Nat:=match b9[j]? with
 |some i=>some i
 |none=>some (n+(j-b9.length))
def sK (b9:List Nat) (n:Nat) (aE:List ax):Nat→List ax→Option (List ax)
 |_,[]=>some []
 |i,b::r=>match dB i b9 0 with
  |some j=>match aE[j]? with
   |some b0=>match ax.iq (jF b9 n) b0,sK b9 n aE (i+1) r with
    |some x,some xs=>some (x::xs)
    |_,_=>none
   |none=>none
  |none=>match sK b9 n aE (i+1) r with
   |some xs=>some (b::xs)
   |none=>none
def vS (b9:List Nat) (n:Nat):List ax→Option (List ax)
 |[]=>some []
 |b::r=>match ax.iq (jF b9 n) b,vS b9 n r with
  |some x,some xs=>some (x::xs)
  |_,_=>none
def Br (b9:List Nat) (bx aE:List ax):Option (List ax):=
 bif Nat.ble b9.length aE.length&&E8 b9 0 b9 then
  match sK b9 bx.length aE 0 bx,vS b9 bx.length (aE.drop b9.length) with
  |some a,some b=>some (a++b)
  |_,_=>none
 else none
def fm.iq (m:Nat→Option Nat):fm→Option fm
 |.ret v=>match v.iq m with
  |some x=>some (.ret x)
  |none=>none
 |.Nk v=>match v.iq m with
  |some x=>some (.Nk x)
  |none=>none
section
variable {P:Program} {G:Nat→Option (List D)}
theorem rK {b9:List Nat} {n:Nat} {aE:List ax}:∀{bx a:List ax} {i:Nat},sK b9 n aE i bx=some a→a.length=bx.length∧∀(k:Nat) (b:ax),bx[k]?=some b→
 (∃j b0 b',dB (i+k) b9 0=some j∧aE[j]?=some b0∧ax.iq (jF b9 n) b0=some b'∧a[k]?=some b')∨(dB (i+k) b9 0=none∧a[k]?=some b)
 |[],a,i,h=>by simp only [sK,osI] at h;subst h;simp
 |b::r,a,i,h=>by
  simp only [sK] at h
  split at h
  ·rename_i j hj
   split at h
   ·rename_i b0 hb0
    split at h
    ·rename_i x xs h1 h2
     simp only [osI] at h;subst h
     obtain ⟨k1,k2⟩:=rK h2
     refine ⟨by simp [k1],?_⟩
     intro k b1 hk
     cases k with
     |zero=>exact .inl ⟨j,b0,x,hj,hb0,h1,rfl⟩
     |succ k=>
      simp only [List.getElem?_cons_succ] at hk ⊢
      have:=k2 k b1 hk
      rwa [show i+1+k=i+(k+1) by omega] at this
    simp at h
   simp at h
  rename_i hj
  split at h
  ·rename_i xs h2
   simp only [osI] at h;subst h
   obtain ⟨k1,k2⟩:=rK h2
   refine ⟨by simp [k1],?_⟩
   intro k b1 hk
   cases k with
   |zero=>simp only [List.getElem?_cons_zero,osI] at hk;subst hk;exact .inr ⟨hj,rfl⟩
   |succ k=>
    simp only [List.getElem?_cons_succ] at hk ⊢
    have:=k2 k b1 hk
    rwa [show i+1+k=i+(k+1) by omega] at this
  simp at h
theorem yZ {b9:List Nat} {n:Nat}:∀{bx a:List ax},vS b9 n bx=some a→a.length=bx.length∧∀(k:Nat) (b:ax),bx[k]?=some b→∃b',ax.iq (jF b9 n) b=some b'∧a[k]?=some b'
 |[],a,h=>by simp only [vS,osI] at h;subst h;simp
 |b::r,a,h=>by
  simp only [vS] at h
  split at h
  ·rename_i x xs h1 h2
   simp only [osI] at h;subst h
   obtain ⟨k1,k2⟩:=yZ h2
   refine ⟨by simp [k1],?_⟩
   intro k b1 hk
   cases k with
   |zero=>simp only [List.getElem?_cons_zero,osI] at hk;subst hk;exact ⟨x,h1,rfl⟩
   |succ k=>simp only [List.getElem?_cons_succ] at hk ⊢;exact k2 k b1 hk
  simp at h
theorem eZ {f:Nat} {args jG:List AV} {bx aE vT aG:List ax} {WI res:fm} (b9:List Nat)
 (ha:AV.vQ (fun b=>dB b b9 0) args=some jG) (hb:fD (fun b=>dB b b9 0) bx b9=some aE)
 (hr:fm.iq (jF b9 bx.length) WI=some res) (hb':Br b9 bx vT=some aG) (h:bg P G f jG aE WI vT):bg P G f args bx res aG:=by
 intro β w vs X cx hx
 unfold Br at hb'
 cases hlen:Nat.ble b9.length vT.length with
 |false=>simp [hlen] at hb'
 |true=>
 cases Kv:E8 b9 0 b9 with
 |false=>simp [hlen,Kv] at hb'
 |true=>
 simp only [hlen,Kv,Bool.and_self,cond_true] at hb'
 split at hb'
 case h_2=>simp at hb'
 rename_i aO aN hO hN
 simp only [osI] at hb'
 subst hb'
 have hlen':b9.length≤vT.length:=Nat.le_of_ble_eq_true hlen
 obtain ⟨lO,gO⟩:=rK hO
 obtain ⟨lN,gN⟩:=yZ hN
 have vR:∀k i,b9[k]?=some i→dB i b9 0=some k:=fun k i hk=>by have:=sI Kv hk;simpa using this
 have hidx:∀b j,dB b b9 0=some j→b9[j]?=some b:=fun b j hj=>by have:=(uz hj).2;simpa using this
 have QG:∀k i,b9[k]?=some i→∃b,bx[i]?=some b:=fun k i hk=>by
  obtain ⟨b,_,h1,_⟩:=nB hb k i hk;exact ⟨b,h1⟩
 let β0:Nat→Nat:=fun j=>match b9[j]? with|some i=>β i|none=>0
 let X0:Nat→Prop:=fun aB=>X aB∨∃(i:Nat) (b:ax),bx[i]?=some b∧b.live=true∧dB i b9 0=none∧β i=aB
 have WJ:∀k i,b9[k]?=some i→β0 k=β i:=fun k i hk=>by simp [β0,hk]
 have hm:∀b j,dB b b9 0=some j→β0 j=β b∧(bV bx b→bV aE j):=by
  intro b j hj
  have hs:=hidx b j hj
  refine ⟨WJ j b hs,?_⟩
  rintro ⟨B,hB,dj⟩
  obtain ⟨b1,b2,k1,k2,k3⟩:=nB hb j b hs
  rw [hB] at k1;cases k1
  exact ⟨b2,k3,(ax.fU k2).1.trans dj⟩
 have uB:∀(i:Nat) (b:ax),aE[i]?=some b→b.live=true→∃(j:Nat) (b':ax),bx[j]?=some b'∧b'.live=true∧β j=β0 i∧b9[i]?=some j:=by
  intro i b hi hl
  obtain ⟨j,b',k1,k2,k3⟩:=iV hb i b hi
  exact ⟨j,b',k2,(ax.fU k3).2▸hl,(WJ i j k1).symm,k1⟩
 have QH:∀aB,be β bx w X aB→be β0 aE w X0 aB:=by
  rintro aB ⟨k1,k2,k3⟩
  refine ⟨k1,?_,?_⟩
  ·rintro (hX|⟨i,b,h1,h2,_,h3⟩)
   ·exact k2 hX
   exact k3 i b h1 h2 h3
  intro i b hi hl
  obtain ⟨j,b',h3,h4,h5,_⟩:=uB i b hi hl
  rw [←h5];exact k3 j b' h3 h4
 have Fa:jC w w (be β bx w X) (be β0 aE w X0):=fun aB hb=>⟨QH aB hb,rfl⟩
 have hlt:∀(i:Nat) (b:ax),bx[i]?=some b→b.live=true→β i<w.heap.size:=fun i b h hl=>dA.eL (cx.box i b h) hl
 have Yd:ct G β0 aE w X0:=by
  refine ⟨?_,?_,?_,?_,?_⟩
  ·rintro aB (hX|⟨i,b,h1,h2,_,rfl⟩)
   ·exact cx.xs aB hX
   exact hlt i b h1 h2
  ·intro g ds hg
   obtain ⟨k1,k2⟩:=cx.Ar g ds hg
   exact ⟨QH g k1,aY.mono Fa g (fun _=>rfl) _ _ k2⟩
  ·intro i j bi bj hi hj oc qB he
   obtain ⟨i',bi',a1,a2,a3,a4⟩:=uB i bi hi oc
   obtain ⟨j',bj',c1,c2,c3,c4⟩:=uB j bj hj qB
   have:i'=j':=cx.inj i' j' bi' bj' a1 c1 a2 c2 (a3.trans (he.trans c3.symm))
   subst this
   have e1:=vR i i' a4
   have e2:=vR j i' c4
   rw [e1] at e2;exact Option.some.inj e2
  ·intro i b hi
   obtain ⟨j,b',k1,k2,k3⟩:=iV hb i b hi
   have GI:=cx.box j b' k2
   rw [WJ i j k1]
   cases b' with
   |var cs=>
    simp only [ax.iq] at k3
    split at k3
    ·rename_i ys hys
     simp only [osI] at k3;subst k3
     simp only [dA] at GI ⊢
     obtain ⟨c,e,g1,g2⟩:=GI
     exact ⟨c,e,g1,kQ hm QH cs ys _ hys g2⟩
    simp at k3
   |row sz es=>
    simp only [ax.iq,osI] at k3;subst k3
    refine GI.imp id ?_
    rintro ⟨c,e,g1,g2⟩
    exact ⟨c,e,g1,av.mono Fa _ _ (fun _=>rfl) _ _ g2⟩
   |oh sz es=>
    simp only [ax.iq,osI] at k3;subst k3
    refine GI.imp id ?_
    rintro ⟨g1,g2⟩
    exact ⟨QH _ g1,av.mono Fa _ _ (fun _=>rfl) _ _ g2⟩
   |it s p=>simp only [ax.iq,osI] at k3;subst k3;exact GI
   |mp ag es=>simp only [ax.iq,osI] at k3;subst k3;obtain ⟨ms,clock,h1,h2,h3⟩:=GI;exact ⟨ms,clock,h1,h2,bp.mono Fa _ _ _ h3⟩
   |dead=>simp only [ax.iq,osI] at k3;subst k3;trivial
   |bA=>simp only [ax.iq,osI] at k3;subst k3;trivial
  intro i b hi hl
  obtain ⟨j,b',h3,h4,h5,h6⟩:=uB i b hi hl
  rw [←h5]
  rintro (hX|⟨i2,b2,e1,e2,e3,e4⟩)
  ·exact cx.apart j b' h3 h4 hX
  have:i2=j:=cx.inj i2 j b2 b' e1 h3 e2 h4 e4
  subst this
  rw [vR i i2 h6] at e3;cases e3
 refine jD.mono (h β0 w vs X0 Yd (kQ hm QH args jG vs ha hx)) ?_
 rintro e w' ⟨Kw,tF,TK,hres⟩
 let β':Nat→Nat:=fun i=>match dB i b9 0 with|some j=>Kw j|none=>if i<bx.length then β i else Kw (b9.length+(i-bx.length))
 have YV:∀j i,b9[j]?=some i→i<bx.length:=fun j i hj=>by obtain ⟨b,hb⟩:=QG j i hj;exact iS hb
 have YW:∀k,dB (bx.length+k) b9 0=none:=by
  intro k
  cases hc:dB (bx.length+k) b9 0 with
  |none=>rfl
  |some j=>have:=YV j _ (hidx _ _ hc);omega
 have YX:∀i j,dB i b9 0=some j→β' i=Kw j:=fun i j hj=>by simp [β',hj]
 have Kx:∀i,i<bx.length→dB i b9 0=none→β' i=β i:=fun i hi hn=>by simp [β',hi,hn]
 have abe:∀k,β' (bx.length+k)=Kw (b9.length+k):=fun k=>by simp [β',YW k];omega
 have QI:∀(i:Nat),i<bx.length→(aO++aN)[i]?=aO[i]?:=fun i hi=>List.getElem?_append_left (by omega)
 have VT:∀(k:Nat),(aO++aN)[bx.length+k]?=aN[k]?:=fun k=>by rw [List.getElem?_append_right (by omega),lO];congr 1;omega
 have hinv:∀(i:Nat) (b:ax),(aO++aN)[i]?=some b→(i<bx.length∧dB i b9 0=none∧bx[i]?=some b)∨
  (∃(j:Nat) (b0:ax),vT[j]?=some b0∧ax.iq (jF b9 bx.length) b0=some b∧jF b9 bx.length j=some i):=by
  intro i b hi
  rcases Nat.lt_or_ge i bx.length with hl|hl
  ·rw [QI i hl] at hi
   obtain ⟨bi,zT⟩:∃bi,bx[i]?=some bi:=⟨bx[i],by simp [hl]⟩
   have:=gO i bi zT
   rw [Nat.zero_add] at this
   rcases this with ⟨j,b0,b',k1,k2,k3,k4⟩|⟨k1,k2⟩
   ·rw [hi] at k4;cases k4
    refine .inr ⟨j,b0,k2,k3,?_⟩
    simp [jF,hidx i j k1]
   rw [hi] at k2;cases k2
   exact .inl ⟨hl,k1,zT⟩
  obtain ⟨k,rfl⟩:∃k,i=bx.length+k:=⟨i-bx.length,by omega⟩
  rw [VT k] at hi
  have hk:k<aN.length:=by
   rcases Nat.lt_or_ge k aN.length with h'|h'
   ·exact h'
   simp [List.getElem?_eq_none h'] at hi
  have hkd:k<(vT.drop b9.length).length:=by omega
  obtain ⟨b',k1,k2⟩:=gN k _ (List.getElem?_eq_getElem hkd)
  rw [hi] at k2;cases k2
  refine .inr ⟨b9.length+k,(vT.drop b9.length)[k],?_,k1,?_⟩
  ·rw [←List.getElem?_drop];exact List.getElem?_eq_getElem hkd
  simp [jF]
 have Bs:∀j i,jF b9 bx.length j=some i→β' i=Kw j∧(bV vT j→bV (aO++aN) i):=by
  intro j i hj
  unfold jF at hj
  split at hj
  ·rename_i i' hs
   simp only [osI] at hj;subst hj
   obtain ⟨bi,zT⟩:=QG j i' hs
   have hil:=iS zT
   refine ⟨YX i' j (vR j i' hs),?_⟩
   rintro ⟨b0,e1,e2⟩
   have:=gO i' bi zT
   rw [Nat.zero_add,vR j i' hs] at this
   rcases this with ⟨j2,b02,b',c1,c2,c3,c4⟩|⟨c1,_⟩
   ·cases c1
    rw [e1] at c2;cases c2
    exact ⟨b',by rw [QI i' hil];exact c4,(ax.fU c3).1.trans e2⟩
   cases c1
  rename_i hs
  simp only [osI] at hj;subst hj
  have hge:b9.length≤j:=by
   rcases Nat.lt_or_ge j b9.length with h'|h'
   ·simp [h'] at hs
   exact h'
  refine ⟨by rw [abe];congr 1;omega,?_⟩
  rintro ⟨b0,e1,e2⟩
  have hd:(vT.drop b9.length)[j-b9.length]?=some b0:=by rw [List.getElem?_drop];rw [←e1];congr 1;omega
  obtain ⟨b',c1,c2⟩:=gN _ _ hd
  exact ⟨b',by rw [VT];exact c2,(ax.fU c1).1.trans e2⟩
 have QJ:∀aB,be Kw vT w' X0 aB→be β' (aO++aN) w' X aB:=by
  rintro aB ⟨k1,k2,k3⟩
  refine ⟨k1,fun hX=>k2 (.inl hX),?_⟩
  intro i b hi hl
  rcases hinv i b hi with ⟨c1,c2,c3⟩|⟨j,b0,c1,c2,c3⟩
  ·rw [Kx i c1 c2]
   exact fun he=>k2 (.inr ⟨i,b,c3,hl,c2,he⟩)
  rw [(Bs j i c3).1]
  exact k3 j b0 c1 ((ax.fU c2).2▸hl)
 have Ky:jC w' w' (be Kw vT w' X0) (be β' (aO++aN) w' X):=fun aB hb=>⟨QJ aB hb,rfl⟩
 have ex:Ext β bx w β' (aO++aN) w':=by
  refine ⟨tF.os,tF.tape,tF.output,tF.size,?_,tF.shape,?_,?_⟩
  ·intro k hk hl
   refine tF.block k hk ?_
   intro i b hi hlv
   obtain ⟨j,b',h3,h4,h5,_⟩:=uB i b hi hlv
   rw [←h5];exact hl j b' h3 h4
  ·intro i hi
   obtain ⟨b,qK,CL⟩:=hi
   have hil:=iS qK
   cases hc:dB i b9 0 with
   |some j=>
    obtain ⟨k1,k2⟩:=hm i j hc
    obtain ⟨c1,c2⟩:=tF.born j (k2 ⟨b,qK,CL⟩)
    have hbm:jF b9 bx.length j=some i:=by simp [jF,hidx i j hc]
    exact ⟨by rw [YX i j hc,c1,k1],(Bs j i hbm).2 c2⟩
   |none=>
    refine ⟨Kx i hil hc,b,?_,CL⟩
    rw [QI i hil]
    have:=gO i b qK
    rw [Nat.zero_add,hc] at this
    rcases this with ⟨_,_,_,c1,_⟩|⟨_,c2⟩
    ·cases c1
    exact c2
  intro i b hi hl
  rcases hinv i b hi with ⟨c1,c2,c3⟩|⟨j,b0,c1,c2,c3⟩
  ·exact .inr ⟨i,b,c3,hl,(Kx i c1 c2).symm⟩
  rw [(Bs j i c3).1]
  rcases tF.live j b0 c1 ((ax.fU c2).2▸hl) with h1|⟨j',b',h1,h2,h3⟩
  ·exact .inl h1
  obtain ⟨j2,b2,e1,e2,e3,_⟩:=uB j' b' h1 h2
  exact .inr ⟨j2,b2,e1,e2,e3.trans h3⟩
 refine ⟨β',ex,cx.step ex ?_ ?_,?_⟩
 ·intro i b hi
  rcases hinv i b hi with ⟨c1,c2,c3⟩|⟨j,b0,c1,c2,c3⟩
  ·refine .inl ⟨c3,fun hl=>tF.block _ (hlt i b c3 hl) ?_⟩
   intro k b' hk hlk he
   obtain ⟨j,b2,h3,h4,h5,h6⟩:=uB k b' hk hlk
   have:j=i:=cx.inj j i b2 b h3 c3 h4 hl (h5.trans he)
   subst this
   rw [vR k j h6] at c2;cases c2
  refine .inr ?_
  have GI:=TK.box j b0 c1
  rw [(Bs j i c3).1]
  cases b0 with
  |var cs=>
   simp only [ax.iq] at c2
   split at c2
   ·rename_i ys hys
    simp only [osI] at c2;subst c2
    simp only [dA] at GI ⊢
    obtain ⟨c,e,g1,g2⟩:=GI
    exact ⟨c,e,g1,kQ Bs QJ cs ys _ hys g2⟩
   simp at c2
  |row sz es=>
   simp only [ax.iq,osI] at c2;subst c2
   refine GI.imp id ?_
   rintro ⟨c,e,g1,g2⟩
   exact ⟨c,e,g1,av.mono Ky _ _ (fun _=>rfl) _ _ g2⟩
  |oh sz es=>
   simp only [ax.iq,osI] at c2;subst c2
   refine GI.imp id ?_
   rintro ⟨g1,g2⟩
   exact ⟨QJ _ g1,av.mono Ky _ _ (fun _=>rfl) _ _ g2⟩
  |it s p=>simp only [ax.iq,osI] at c2;subst c2;exact GI
  |mp ag es=>simp only [ax.iq,osI] at c2;subst c2;obtain ⟨ms,clock,h1,h2,h3⟩:=GI;exact ⟨ms,clock,h1,h2,bp.mono Ky _ _ _ h3⟩
  |dead=>simp only [ax.iq,osI] at c2;subst c2;trivial
  |bA=>simp only [ax.iq,osI] at c2;subst c2;trivial
 ·intro i j bi bj hi hj oc qB he
  rcases hinv i bi hi with ⟨c1,c2,c3⟩|⟨i',b0,c1,c2,c3⟩<;>rcases hinv j bj hj with ⟨d1,d2,d3⟩|⟨j',b0',d1,d2,d3⟩
  ·rw [Kx i c1 c2,Kx j d1 d2] at he
   exact cx.inj i j bi bj c3 d3 oc qB he
  ·rw [Kx i c1 c2,(Bs j' j d3).1] at he
   exact absurd (.inr ⟨i,bi,c3,oc,c2,he⟩) (TK.apart j' b0' d1 ((ax.fU d2).2▸qB))
  ·rw [(Bs i' i c3).1,Kx j d1 d2] at he
   exact absurd (.inr ⟨j,bj,d3,qB,d2,he.symm⟩) (TK.apart i' b0 c1 ((ax.fU c2).2▸oc))
  rw [(Bs i' i c3).1,(Bs j' j d3).1] at he
  have:=TK.inj i' j' b0 b0' c1 d1 ((ax.fU c2).2▸oc) ((ax.fU d2).2▸qB) he
  subst this
  rw [c3] at d3;exact Option.some.inj d3
 cases WI with
 |ret v0=>
  simp only [fm.iq] at hr
  split at hr
  ·rename_i v hv
   simp only [osI] at hr;subst hr
   cases e with
   |returned u=>exact sJ Bs QJ v0 v u hv hres
   |panicked ch=>exact hres.elim
   |outgrown=>exact hres.elim
  simp at hr
 |Nk v0=>
  simp only [fm.iq] at hr
  split at hr
  ·rename_i v hv
   simp only [osI] at hr;subst hr
   cases e with
   |returned u=>exact hres.elim
   |panicked ch=>
    obtain ⟨u,k1,k2⟩:=hres
    exact ⟨u,k1,sJ Bs QJ v0 v u hv k2⟩
   |outgrown=>exact hres.elim
  simp at hr
end
end Dem
end
