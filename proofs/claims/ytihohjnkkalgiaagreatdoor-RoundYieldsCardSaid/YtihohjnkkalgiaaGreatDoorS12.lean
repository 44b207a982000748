/- Parts of a proof, joined. -/
import Derived.Test.YtihohjnkkalgiaaGreatDoorS11
import Derived.Scope
set_option linter.all false
set_option maxRecDepth 100000
set_option maxHeartbeats 4000000
section
open Go
namespace Dem
mutual
def AV.iP (m:Nat→Option Nat):AV→Option AV
 |.any=>some .any
 |.d x=>some (.d x)
 |.k c=>some (.k c)
 |.agg cs=>match AV.yI m cs with
  |some ys=>some (.agg ys)
  |none=>none
 |.eA cs=>match AV.yI m cs with
  |some ys=>some (.eA ys)
  |none=>none
 |.ptr b off=>match m b with
  |some j=>some (.ptr j off)
  |none=>none
 |.rp b sz i q=>match m b with
  |some j=>some (.rp j sz i q)
  |none=>none
 |.ep ds=>some (.ep ds)
 |.ow b sz n=>match m b with
  |some j=>some (.ow j sz n)
  |none=>none
 |.vw b sz off n c ex=>match m b with
  |some j=>some (.vw j sz off n c ex)
  |none=>none
 |.cl es=>some (.cl es)
 |.BJ b=>match m b with
  |some j=>some (.BJ j)
  |none=>none
 |.fn f cs=>match AV.yI m cs with
  |some ys=>some (.fn f ys)
  |none=>none
 |.rY t x=>match AV.iP m x with
  |some y=>some (.rY t y)
  |none=>none
 |.cond p x=>match AV.iP m x with
  |some y=>some (.cond p y)
  |none=>none
def AV.yI (m:Nat→Option Nat):List AV→Option (List AV)
 |[]=>some []
 |x::xs=>match AV.iP m x,AV.yI m xs with
  |some y,some ys=>some (y::ys)
  |_,_=>none
end
mutual
def AV.refs:AV→List Nat
 |.ptr b _=>[b]
 |.rp b _ _ _=>[b]
 |.ow b _ _=>[b]
 |.vw b _ _ _ _ _=>[b]
 |.BJ b=>[b]
 |.agg cs=>AV.Au cs
 |.eA cs=>AV.Au cs
 |.fn _ cs=>AV.Au cs
 |.rY _ x=>AV.refs x
 |.cond _ x=>AV.refs x
 |_=>[]
def AV.Au:List AV→List Nat
 |[]=>[]
 |x::xs=>AV.refs x++AV.Au xs
end
def Uf (b:Nat):List Nat→Bool
 |[]=>false
 |x::r=>bif Nat.beq b x then true else Uf b r
def eF (b:Nat):List Nat→Nat→Option Nat
 |[],_=>none
 |x::r,i=>bif Nat.beq b x then some i else eF b r (i+1)
def reach (bx:List aA):Nat→List Nat→List Nat→List Nat
 |0,_,acc=>acc
 |_+1,[],acc=>acc
 |n+1,b::todo,acc=>bif Uf b acc then reach bx n todo acc else
  reach bx n (todo++(match bx[b]? with|some (.var cs)=>AV.Au cs|_=>[])) (acc++[b])
def aA.iP (m:Nat→Option Nat):aA→Option aA
 |.var cs=>match AV.yI m cs with
  |some ys=>some (.var ys)
  |none=>none
 |b=>some b
def gM (m:Nat→Option Nat) (bx:List aA):List Nat→Option (List aA)
 |[]=>some []
 |i::r=>match bx[i]? with
  |some b=>match aA.iP m b,gM m bx r with
   |some b',some bs=>some (b'::bs)
   |_,_=>none
  |none=>none
def Gy (m:Nat→Option Nat) (sl:List (Nat×AV)):List Nat→Option (List (Nat×AV))
 |[]=>some []
 |i::r=>match AV.iP m (gH i sl),Gy m sl r with
  |some y,some ys=>some ((i,y)::ys)
  |_,_=>none
def Ed (cE:List Nat):Nat→List Nat→Bool
 |_,[]=>true
 |i,b::r=>(match eF b cE 0 with|some j=>Nat.beq i j|none=>false)&&Ed cE (i+1) r
def upTo:Nat→List Nat
 |0=>[]
 |n+1=>upTo n++[n]
def Ph (K:Nat) (ks:List Nat) (s:St):Option St:=
 match reach s.bx 99 (upTo K++AV.Au (ks.map fun i=>gH i s.sl)) [] with
 |cE=>bif Ed cE 0 cE&&Ed cE 0 (upTo K) then
  match gM (fun b=>eF b cE 0) s.bx cE,Gy (fun b=>eF b cE 0) s.sl ks with
  |some bx,some sl=>some ⟨sl,bx⟩
  |_,_=>none
  else none
structure Nf where
 ks:List Nat
 os:List (Nat×Nat):=[]
 ob:List (Nat×Nat×Nat):=[]
def uX (s:St):List (Nat×Nat)→St
 |[]=>s
 |(i,sz)::r=>match gH i s.sl with
  |.cl []=>bif Nat.beq sz 0 then uX ⟨put i (.d (.sl [])) s.sl,s.bx⟩ r else uX ⟨put i (.ow s.bx.length sz 0) s.sl,s.bx++[.row sz []]⟩ r
  |_=>uX s r
def yJ (s:St):List (Nat×Nat×Nat)→St
 |[]=>s
 |(b,c,sz)::r=>match s.bx[b]? with
  |some (.var cs)=>match cs[c]? with
   |some (.cl [])=>bif Nat.beq sz 0 then yJ ⟨s.sl,s.bx.set b (.var (cs.set c (.d (.sl []))))⟩ r
    else yJ ⟨s.sl,(s.bx++[aA.row sz []]).set b (.var (cs.set c (.ow s.bx.length sz 0)))⟩ r
   |some (.ow k z _)=>bif Nat.beq sz 0 then match s.bx[k]? with
    |some (.row y es)=>bif Nat.beq y z&&!Nat.beq b k then yJ ⟨s.sl,(s.bx.set k (.kI y es)).set b (.var (cs.set c (.d (.sl es))))⟩ r else yJ s r
    |_=>yJ s r
    else yJ s r
   |_=>yJ s r
  |_=>yJ s r
def Wt:Option Prop→Prop
 |none=>True
 |some c=>c
structure Xd (n:Nat) (es:List (List D)):Prop where
 eq:n=es.length
def qo (s:St):List (Nat×Nat×Nat)→Option Prop
 |[]=>none
 |(b,c,sz)::r=>match s.bx[b]? with
  |some (.var cs)=>match cs[c]? with
   |some (.cl [])=>bif Nat.beq sz 0 then qo ⟨s.sl,s.bx.set b (.var (cs.set c (.d (.sl []))))⟩ r
    else qo ⟨s.sl,(s.bx++[aA.row sz []]).set b (.var (cs.set c (.ow s.bx.length sz 0)))⟩ r
   |some (.ow k z n)=>bif Nat.beq sz 0 then match s.bx[k]? with
    |some (.row y es)=>bif Nat.beq y z&&!Nat.beq b k then some (Xd n es∧Wt (qo ⟨s.sl,(s.bx.set k (.kI y es)).set b (.var (cs.set c (.d (.sl es))))⟩ r)) else qo s r
    |_=>qo s r
    else qo s r
   |_=>qo s r
  |_=>qo s r
def xR (K:Nat) (nf:Nf) (s:St):Option St:=Ph K nf.ks (yJ (uX s nf.os) nf.ob)
section
variable {G:Nat→Option (List D)} {N:Nat} {ds:List Deferred} {β β':Nat→Nat} {bx aU:List aA} {w:World} {X:Nat→Prop}
structure sn (K:Nat) (β:Nat→Nat) (bx:List aA) (β':Nat→Nat) (aU:List aA):Prop where
 born:∀i,i<K→cj bx i→β' i=β i∧cj aU i
 live:∀i b,aU[i]?=some b→b.live=true→∃j b',bx[j]?=some b'∧b'.live=true∧β j=β' i
theorem sn.refl (K:Nat) (β:Nat→Nat) (bx:List aA):sn K β bx β bx:=⟨fun _ _ h=>⟨rfl,h⟩,fun i b h1 h2=>⟨i,b,h1,h2,rfl⟩⟩
theorem sn.trans {K:Nat} {β'':Nat→Nat} {Og:List aA} (h:sn K β bx β' aU) (g:sn K β' aU β'' Og):sn K β bx β'' Og:=by
 refine ⟨?_,?_⟩
 ·intro i hi hb
  obtain ⟨h1,h2⟩:=h.born i hi hb
  obtain ⟨h3,h4⟩:=g.born i hi h2
  exact ⟨h3.trans h1,h4⟩
 intro i b h1 h2
 obtain ⟨j,b',h3,h4,h5⟩:=g.live i b h1 h2
 obtain ⟨k,b'',h6,h7,h8⟩:=h.live j b' h3 h4
 exact ⟨k,b'',h6,h7,h8.trans h5⟩
theorem Ext.Av {K:Nat} {β0:Nat→Nat} {aQ:List aA} {w0:World} (ex:Ext β0 aQ w0 β bx w) (hK:aQ.length≤K) (h:sn K β bx β' aU):Ext β0 aQ w0 β' aU w:=by
 refine ⟨ex.os,ex.tape,ex.output,ex.size,ex.block,ex.shape,?_,?_⟩
 ·intro i hi
  obtain ⟨h1,h2⟩:=ex.born i hi
  obtain ⟨b,hb,_⟩:=hi
  obtain ⟨h3,h4⟩:=h.born i (Nat.lt_of_lt_of_le (jz hb) hK) h2
  exact ⟨h3.trans h1,h4⟩
 intro i b h1 h2
 obtain ⟨j,b',h3,h4,h5⟩:=h.live i b h1 h2
 rw [←h5]
 exact ex.live j b' h3 h4
theorem tC {b:Nat}:∀{l:List Nat} {i j:Nat},eF b l i=some j→i≤j∧l[j-i]?=some b
 |[],_,_,h=>by simp [eF] at h
 |x::r,i,j,h=>by
  simp only [eF] at h
  cases hb:Nat.beq b x with
  |true=>
   simp only [hb,cond_true,osI] at h
   subst h
   have:=Nat.eq_of_beq_eq_true hb
   subst this
   simp
  |false=>
   simp only [hb,cond_false] at h
   obtain ⟨h1,h2⟩:=tC h
   refine ⟨by omega,?_⟩
   rw [show j-i=(j-(i+1))+1 by omega,List.getElem?_cons_succ]
   exact h2
theorem rM {cE:List Nat}:∀{l:List Nat} {i k b:Nat},Ed cE i l=true→l[k]?=some b→eF b cE 0=some (i+k)
 |[],_,_,_,_,h=>by simp at h
 |x::r,i,k,b,h,hk=>by
  simp only [Ed,Bool.and_eq_true] at h
  cases k with
  |zero=>
   simp only [List.getElem?_cons_zero,osI] at hk
   subst hk
   obtain ⟨h1,_⟩:=h
   split at h1
   ·rename_i j hj
    rw [hj,←Nat.eq_of_beq_eq_true h1];rfl
   simp at h1
  |succ k=>
   rw [List.getElem?_cons_succ] at hk
   have:=rM h.2 hk
   rw [this];congr 1;omega
theorem Gz:∀{n i:Nat},i<n→(upTo n)[i]?=some i
 |n+1,i,h=>by
  have hl:(upTo n).length=n:=by
   clear h;induction n with
   |zero=>rfl
   |succ m ih=>simp [upTo,ih]
  simp only [upTo]
  by_cases hi:i<n
  ·rw [List.getElem?_append_left (by omega)];exact Gz hi
  have:i=n:=by omega
  subst this
  rw [List.getElem?_append_right (by omega)];simp [hl]
mutual
theorem rN {m:Nat→Option Nat} {ok ok':Nat→Prop} (hm:∀b j,m b=some j→β' j=β b∧(cj bx b→cj aU j)) (hok:∀blk,ok blk→ok' blk):
 ∀(x y:AV) (v:Value),x.iP m=some y→ak β bx w ok x v→ak β' aU w ok' y v
 |.any,y,v,h,_=>by simp only [AV.iP,osI] at h;subst h;simp [ak]
 |.d x,y,v,h,hv=>by
  simp only [AV.iP,osI] at h;subst h;simp only [ak] at hv ⊢
  exact aL.mono (fun blk hb=>⟨hok blk hb,rfl⟩) _ _ hv
 |.k c,y,v,h,hv=>by simp only [AV.iP,osI] at h;subst h;simpa [ak] using hv
 |.agg cs,y,v,h,hv=>by
  simp only [AV.iP] at h
  split at h
  ·rename_i ys hys
   simp only [osI] at h;subst h
   simp only [ak] at hv ⊢;obtain ⟨vs,h1,h2⟩:=hv
   exact ⟨vs,h1,kO hm hok cs ys vs hys h2⟩
  simp at h
 |.eA cs,y,v,h,hv=>by
  simp only [AV.iP] at h
  split at h
  ·rename_i ys hys
   simp only [osI] at h;subst h
   simp only [ak] at hv ⊢;obtain ⟨vs,h1,h2⟩:=hv
   exact ⟨vs,h1,kO hm hok cs ys vs hys h2⟩
  simp at h
 |.ptr b off,y,v,h,hv=>by
  simp only [AV.iP] at h
  split at h
  ·rename_i j hj
   simp only [osI] at h;subst h
   obtain ⟨e,hb⟩:=hm b j hj
   simp only [ak] at hv ⊢
   rw [e];exact ⟨hv.1,hb hv.2⟩
  simp at h
 |.rp b sz i q,y,v,h,hv=>by
  simp only [AV.iP] at h
  split at h
  ·rename_i j hj
   simp only [osI] at h;subst h
   obtain ⟨e,hb⟩:=hm b j hj
   simp only [ak] at hv ⊢
   rw [e];exact ⟨hv.1,hb hv.2⟩
  simp at h
 |.BJ b,y,v,h,hv=>by
  simp only [AV.iP] at h
  split at h
  ·rename_i j hj
   simp only [osI] at h;subst h
   obtain ⟨e,hb⟩:=hm b j hj
   simp only [ak] at hv ⊢
   rw [e];exact ⟨hv.1,hb hv.2⟩
  simp at h
 |.ep ds,y,v,h,hv=>by
  simp only [AV.iP,osI] at h;subst h
  simp only [ak] at hv ⊢;obtain ⟨blk,off,h1,h2,h3⟩:=hv
  exact ⟨blk,off,h1,hok blk h2,aY.mono (fun blk hb=>⟨hok blk hb,rfl⟩) blk (fun _=>rfl) _ _ h3⟩
 |.ow b sz n,y,v,h,hv=>by
  simp only [AV.iP] at h
  split at h
  ·rename_i j hj
   simp only [osI] at h;subst h
   obtain ⟨e,hb⟩:=hm b j hj
   simp only [ak] at hv ⊢
   rw [e];exact ⟨hb hv.1,hv.2⟩
  simp at h
 |.vw b sz off n c ex,y,v,h,hv=>by
  simp only [AV.iP] at h
  split at h
  ·rename_i j hj
   simp only [osI] at h;subst h
   obtain ⟨e,hb⟩:=hm b j hj
   simp only [ak] at hv ⊢
   rw [e];exact ⟨hb hv.1,hv.2⟩
  simp at h
 |.cl es,y,v,h,hv=>by
  simp only [AV.iP,osI] at h;subst h
  simp only [ak] at hv ⊢;obtain ⟨base,h1,h2⟩:=hv
  refine ⟨base,h1,h2.imp id ?_⟩
  rintro ⟨blk,off,sz,e1,e2,e3⟩
  exact ⟨blk,off,sz,e1,hok blk e2,ay.mono (fun blk hb=>⟨hok blk hb,rfl⟩) blk sz (fun _=>rfl) _ _ e3⟩
 |.fn f cs,y,v,h,hv=>by
  simp only [AV.iP] at h
  split at h
  ·rename_i ys hys
   simp only [osI] at h;subst h
   simp only [ak] at hv ⊢;obtain ⟨vs,h1,h2⟩:=hv
   exact ⟨vs,h1,kO hm hok cs ys vs hys h2⟩
  simp at h
 |.rY t x,y,v,h,hv=>by
  simp only [AV.iP] at h
  split at h
  ·rename_i z hz
   simp only [osI] at h;subst h
   simp only [ak] at hv ⊢;obtain ⟨u,h1,h2⟩:=hv
   exact ⟨u,h1,rN hm hok x z u hz h2⟩
  simp at h
 |.cond p x,y,v,h,hv=>by
  simp only [AV.iP] at h
  split at h
  ·rename_i z hz
   simp only [osI] at h;subst h
   simp only [ak] at hv ⊢
   exact ⟨fun hp=>rN hm hok x z v hz (hv.1 hp),hv.2⟩
  simp at h
theorem kO {m:Nat→Option Nat} {ok ok':Nat→Prop} (hm:∀b j,m b=some j→β' j=β b∧(cj bx b→cj aU j)) (hok:∀blk,ok blk→ok' blk):
 ∀(xs ys:List AV) (vs:List Value),AV.yI m xs=some ys→an β bx w ok xs vs→an β' aU w ok' ys vs
 |[],ys,vs,h,hv=>by simp only [AV.yI,osI] at h;subst h;simpa [an] using hv
 |x::xs,ys,vs,h,hv=>by
  simp only [AV.yI] at h
  split at h
  ·rename_i y ys' h1 h2
   simp only [osI] at h;subst h
   simp only [an] at hv ⊢
   obtain ⟨u,us,k1,k2,k3⟩:=hv
   exact ⟨u,us,k1,rN hm hok x y u h1 k2,kO hm hok xs ys' us h2 k3⟩
  simp at h
end
theorem jE {m:Nat→Option Nat}:∀{cE:List Nat} {bs:List aA},gM m bx cE=some bs→∀(k:Nat) (b':aA),bs[k]?=some b'→∃(i:Nat) (b:aA),cE[k]?=some i∧bx[i]?=some b∧aA.iP m b=some b'
 |[],bs,h,k,b',hk=>by simp only [gM,osI] at h;subst h;simp at hk
 |i::r,bs,h,k,b',hk=>by
  simp only [gM] at h
  split at h
  ·rename_i b hb
   split at h
   ·rename_i b1 bs1 h1 h2
    simp only [osI] at h;subst h
    cases k with
    |zero=>simp only [List.getElem?_cons_zero,osI] at hk;subst hk;exact ⟨i,b,rfl,hb,h1⟩
    |succ k=>simp only [List.getElem?_cons_succ] at hk ⊢;exact jE h2 k b' hk
   simp at h
  simp at h
theorem m6 {m:Nat→Option Nat}:∀{cE:List Nat} {bs:List aA},gM m bx cE=some bs→∀(k i:Nat),cE[k]?=some i→∃(b b':aA),bx[i]?=some b∧aA.iP m b=some b'∧bs[k]?=some b'
 |[],bs,h,k,i,hk=>by simp at hk
 |i0::r,bs,h,k,i,hk=>by
  simp only [gM] at h
  split at h
  ·rename_i b hb
   split at h
   ·rename_i b1 bs1 h1 h2
    simp only [osI] at h;subst h
    cases k with
    |zero=>simp only [List.getElem?_cons_zero,osI] at hk;subst hk;exact ⟨b,b1,hb,h1,rfl⟩
    |succ k=>simp only [List.getElem?_cons_succ] at hk ⊢;exact m6 h2 k i hk
   simp at h
  simp at h
theorem aA.gu {m:Nat→Option Nat} {b b':aA} (h:aA.iP m b=some b'):b'.born=b.born∧b'.live=b.live:=by
 unfold aA.iP at h
 split at h
 ·split at h
  ·simp only [osI] at h;subst h;exact ⟨rfl,rfl⟩
  simp at h
 simp only [osI] at h;subst h;exact ⟨rfl,rfl⟩
theorem CQ {m:Nat→Option Nat} {sl:List (Nat×AV)}:∀{ks:List Nat} {sj:List (Nat×AV)},Gy m sl ks=some sj→∀t,gH t sj=.any∨AV.iP m (gH t sl)=some (gH t sj)
 |[],sj,h,t=>by simp only [Gy,osI] at h;subst h;exact .inl rfl
 |i::r,sj,h,t=>by
  simp only [Gy] at h
  split at h
  ·rename_i y ys h1 h2
   simp only [osI] at h;subst h
   simp only [gH]
   cases hb:Nat.beq t i with
   |true=>have:=Nat.eq_of_beq_eq_true hb;subst this;exact .inr h1
   |false=>simp only [cond_false];exact CQ h2 t
  simp at h
theorem GA {K:Nat} {ks:List Nat} {s s':St} {a:Act} (h:Ph K ks s=some s') (hF:Fr G N ds β w X s a):
 ∃β',sn K β s.bx β' s'.bx∧Fr G N ds β' w X s' a:=by
 unfold Ph at h
 generalize reach s.bx 99 (upTo K++AV.Au (ks.map fun i=>gH i s.sl)) []=cE at h
 simp only at h
 cases h1:Ed cE 0 cE with
 |false=>simp [h1] at h
 |true=>
 cases h2:Ed cE 0 (upTo K) with
 |false=>simp [h1,h2] at h
 |true=>
 simp only [h1,h2,Bool.and_self,cond_true] at h
 split at h
 ·rename_i bs sl ZA Wj
  simp only [osI] at h
  subst h
  have uY:∀k i,cE[k]?=some i→eF i cE 0=some k:=fun k i hk=>by have:=rM h1 hk;simpa using this
  have hidx:∀b j,eF b cE 0=some j→cE[j]?=some b:=fun b j hj=>by have:=(tC hj).2;simpa using this
  let β':Nat→Nat:=fun j=>match cE[j]? with|some i=>β i|none=>0
  have hβ:∀k i,cE[k]?=some i→β' k=β i:=fun k i hk=>by simp [β',hk]
  have hm:∀b j,eF b cE 0=some j→β' j=β b∧(cj s.bx b→cj bs j):=by
   intro b j hj
   have hs:=hidx b j hj
   refine ⟨hβ j b hs,?_⟩
   rintro ⟨B,hB,dW⟩
   obtain ⟨b1,b2,k1,k2,k3⟩:=m6 ZA j b hs
   rw [hB] at k1;cases k1
   exact ⟨b2,k3,(aA.gu k2).1.trans dW⟩
  have cG:∀(i:Nat) (b:aA),bs[i]?=some b→b.live=true→∃(j:Nat) (b':aA),s.bx[j]?=some b'∧b'.live=true∧β j=β' i∧cE[i]?=some j:=by
   intro i b hi hl
   obtain ⟨j,b',k1,k2,k3⟩:=jE ZA i b hi
   exact ⟨j,b',k2,(aA.gu k3).2▸hl,(hβ i j k1).symm,k1⟩
  have hok:∀blk,bp β s.bx w X blk→bp β' bs w X blk:=by
   rintro blk ⟨k1,k2,k3⟩
   refine ⟨k1,k2,?_⟩
   intro i b hi hl
   obtain ⟨j,b',h3,h4,h5,_⟩:=cG i b hi hl
   rw [←h5];exact k3 j b' h3 h4
  have hkeep:jg w w (bp β s.bx w X) (bp β' bs w X):=fun blk hb=>⟨hok blk hb,rfl⟩
  refine ⟨β',⟨?_,?_⟩,⟨?_,hF.defers,hF.size,?_⟩⟩
  ·intro i hi hb
   have:=rM h2 (Gz hi)
   simp only [Nat.zero_add] at this
   obtain ⟨k1,k2⟩:=hm i i this
   exact ⟨k1,k2 hb⟩
  ·intro i b hi hl
   obtain ⟨j,b',h3,h4,h5,_⟩:=cG i b hi hl
   exact ⟨j,b',h3,h4,h5⟩
  ·refine ⟨hF.cx.xs,?_,?_,?_,?_⟩
   ·intro g ds hg
    obtain ⟨k1,k2⟩:=hF.cx.yH g ds hg
    exact ⟨hok g k1,aY.mono hkeep g (fun _=>rfl) _ _ k2⟩
   ·intro i j bi bj hi hj mP oD he
    obtain ⟨i',ZB,a1,a2,a3,a4⟩:=cG i bi hi mP
    obtain ⟨j',ZC,c1,c2,c3,c4⟩:=cG j bj hj oD
    have:i'=j':=hF.cx.inj i' j' ZB ZC a1 c1 a2 c2 (a3.trans (he.trans c3.symm))
    subst this
    have e1:=uY i i' a4
    have e2:=uY j i' c4
    rw [e1] at e2;exact Option.some.inj e2
   ·intro i b hi
    obtain ⟨j,b',k1,k2,k3⟩:=jE ZA i b hi
    have hb:=hF.cx.box j b' k2
    rw [hβ i j k1]
    cases b' with
    |var cs=>
     simp only [aA.iP] at k3
     split at k3
     ·rename_i ys hys
      simp only [osI] at k3;subst k3
      simp only [dz] at hb ⊢
      obtain ⟨c,e,g1,g2⟩:=hb
      exact ⟨c,e,g1,kO hm hok cs ys _ hys g2⟩
     simp at k3
    |row sz es=>
     simp only [aA.iP,osI] at k3;subst k3
     refine hb.imp id ?_
     rintro ⟨c,e,g1,g2⟩
     exact ⟨c,e,g1,ay.mono hkeep _ _ (fun _=>rfl) _ _ g2⟩
    |kI sz es=>
     simp only [aA.iP,osI] at k3;subst k3
     refine hb.imp id ?_
     rintro ⟨g1,g2⟩
     exact ⟨hok _ g1,ay.mono hkeep _ _ (fun _=>rfl) _ _ g2⟩
    |it s p=>simp only [aA.iP,osI] at k3;subst k3;exact hb
    |mp ag es=>simp only [aA.iP,osI] at k3;subst k3;obtain ⟨ms,clock,h1,h2,h3⟩:=hb;exact ⟨ms,clock,h1,h2,bt.mono hkeep _ _ _ h3⟩
    |dead=>simp only [aA.iP,osI] at k3;subst k3;trivial
    |bw=>simp only [aA.iP,osI] at k3;subst k3;trivial
   intro i b hi hl
   obtain ⟨j,b',h3,h4,h5,_⟩:=cG i b hi hl
   rw [←h5];exact hF.cx.apart j b' h3 h4
  intro t
  rcases CQ Wj t with h3|h3
  ·rw [h3];simp [ak]
  exact rN hm hok _ _ _ h3 (hF.yV t)
 simp at h
theorem GB (K:Nat) {sz:Nat} {s:St} {a:Act} (hF:Fr G N ds β w X s a):∃β',sn K β s.bx β' (s.bx++[.row sz []])∧Fr G N ds β' w X ⟨s.sl,s.bx++[.row sz []]⟩ a∧cj (s.bx++[.row sz []]) s.bx.length:=by
 have hinv:∀{i:Nat} {b:aA},(s.bx++[aA.row sz []])[i]?=some b→b.live=true→s.bx[i]?=some b:=by
  intro i b h hl
  rcases bz h with ⟨h1,_⟩|⟨h1,h2⟩
  ·exact h1
  subst h2;simp [aA.live] at hl
 have hok:∀blk,bp β s.bx w X blk→bp β (s.bx++[.row sz []]) w X blk:=by
  rintro blk ⟨k1,k2,k3⟩
  exact ⟨k1,k2,fun i b hi hl=>k3 i b (hinv hi hl) hl⟩
 have dW:∀i,cj s.bx i→cj (s.bx++[.row sz []]) i:=by
  rintro i ⟨b,h1,h2⟩
  exact ⟨b,eJ h1,h2⟩
 have hkeep:jg w w (bp β s.bx w X) (bp β (s.bx++[.row sz []]) w X):=fun blk hb=>⟨hok blk hb,rfl⟩
 have p9:sw β s.bx w (bp β s.bx w X) β (s.bx++[.row sz []]) w (bp β (s.bx++[.row sz []]) w X):=by
  refine ⟨hkeep,?_,fun _ c _ _ h=>⟨c,h,rfl⟩⟩
  intro i hi
  exact ⟨rfl,dW i hi⟩
 refine ⟨β,⟨fun i _ hi=>⟨rfl,dW i hi⟩,fun i b hi hl=>⟨i,b,hinv hi hl,hl,rfl⟩⟩,⟨⟨hF.cx.xs,?_,?_,?_,?_⟩,hF.defers,hF.size,?_⟩,?_⟩
 ·intro g ds hg
  obtain ⟨k1,k2⟩:=hF.cx.yH g ds hg
  exact ⟨hok g k1,aY.mono hkeep g (fun _=>rfl) _ _ k2⟩
 ·intro i j bi bj hi hj mP oD he
  exact hF.cx.inj i j bi bj (hinv hi mP) (hinv hj oD) mP oD he
 ·intro i b hi
  rcases bz hi with ⟨h1,_⟩|⟨h1,h2⟩
  ·have h:=hF.cx.box i b h1
   cases b with
   |var cs=>
    obtain ⟨c,e,g1,g2⟩:=h
    exact ⟨c,e,g1,an.mono p9 _ _ g2⟩
   |row sz es=>
    refine h.imp id ?_
    rintro ⟨c,e,g1,g2⟩
    exact ⟨c,e,g1,ay.mono hkeep _ _ (fun _=>rfl) _ _ g2⟩
   |kI sz es=>
    refine h.imp id ?_
    rintro ⟨g1,g2⟩
    exact ⟨hok _ g1,ay.mono hkeep _ _ (fun _=>rfl) _ _ g2⟩
   |it s p=>exact h
   |mp ag es=>obtain ⟨ms,clock,h1,h2,h3⟩:=h;exact ⟨ms,clock,h1,h2,bt.mono hkeep _ _ _ h3⟩
   |dead=>trivial
   |bw=>trivial
  subst h2;exact .inl rfl
 ·intro i b hi hl
  exact hF.cx.apart i b (hinv hi hl) hl
 ·intro t;exact ak.mono p9 _ _ (hF.yV t)
 exact ⟨.row sz [],by simp,rfl⟩
theorem Ug {ok:Nat→Prop} {n sz:Nat} {u:Value} (hb:cj bx n) (h:ak β bx w ok (.cl []) u):ak β bx w ok (.ow n sz 0) u:=by
 simp only [ak,List.length_nil] at h ⊢
 obtain ⟨base,h1,_⟩:=h
 exact ⟨hb,.inl ⟨trv,base,h1⟩⟩
theorem oL (K:Nat) {a:Act}:∀(l:List (Nat×Nat)) (s:St) (β:Nat→Nat),Fr G N ds β w X s a→∃β',sn K β s.bx β' (uX s l).bx∧Fr G N ds β' w X (uX s l) a
 |[],s,β,hF=>⟨β,sn.refl _ _ _,hF⟩
 |(i,sz)::r,s,β,hF=>by
  unfold uX
  split
  ·rename_i hl
   cases hz:Nat.beq sz 0 with
   |true=>
    simp only [cond_true]
    refine oL K r ⟨put i (.d (.sl [])) s.sl,s.bx⟩ β ⟨hF.cx,hF.defers,hF.size,fun t=>?_⟩
    have h1:=hF.yV t
    simp only [oE]
    by_cases ht:t=i
    ·subst ht
     rw [if_pos rfl]
     rw [hl] at h1
     simp only [ak,aL] at h1 ⊢
     obtain ⟨base,h2,h3⟩:=h1
     exact ⟨base,_,h2,Nat.le_refl _,h3⟩
    rw [if_neg ht];exact h1
   |false=>
   simp only [cond_false]
   obtain ⟨β1,e1,Ff,hb⟩:=GB (sz:=sz) K hF
   have My:Fr G N ds β1 w X ⟨put i (.ow s.bx.length sz 0) s.sl,s.bx++[.row sz []]⟩ a:=by
    refine ⟨Ff.cx,Ff.defers,Ff.size,?_⟩
    intro t
    have h1:=Ff.yV t
    simp only [oE]
    by_cases ht:t=i
    ·subst ht
     rw [if_pos rfl]
     have La:ak β1 (s.bx++[.row sz []]) w (bp β1 (s.bx++[.row sz []]) w X) (gH t s.sl) (a.tmps.getD t undef):=h1
     rw [hl] at La
     exact Ug hb La
    rw [if_neg ht];exact h1
   obtain ⟨β2,e2,Sr⟩:=oL K r _ β1 My
   exact ⟨β2,e1.trans e2,Sr⟩
  exact oL K r s β hF
theorem CR {ok:Nat→Prop} {x y:AV} (hxy:∀u,ak β bx w ok x u→ak β bx w ok y u):∀(cs:List AV) (c:Nat) (vs:List Value),cs[c]?=some x→an β bx w ok cs vs→an β bx w ok (cs.set c y) vs
 |[],_,_,h,_=>by simp at h
 |z::cs,0,vs,h,hv=>by
  simp only [List.getElem?_cons_zero,osI] at h;subst h
  simp only [List.set_cons_zero,an] at hv ⊢
  obtain ⟨u,us,h1,h2,h3⟩:=hv
  exact ⟨u,us,h1,hxy u h2,h3⟩
 |z::cs,c+1,vs,h,hv=>by
  simp only [List.getElem?_cons_succ] at h
  simp only [List.set_cons_succ,an] at hv ⊢
  obtain ⟨u,us,h1,h2,h3⟩:=hv
  exact ⟨u,us,h1,h2,CR hxy cs c us h h3⟩
theorem Jg {s:St} {a:Act} (hF:Fr G N ds β w X s a) {b c:Nat} {cs:List AV} {x y:AV} (hb:s.bx[b]?=some (.var cs)) (hc:cs[c]?=some x)
 (hxy:∀u,ak β s.bx w (bp β s.bx w X) x u→ak β s.bx w (bp β s.bx w X) y u) (K:Nat):
 sn K β s.bx β (s.bx.set b (.var (cs.set c y)))∧Fr G N ds β w X ⟨s.sl,s.bx.set b (.var (cs.set c y))⟩ a:=by
 have hinv:∀{i:Nat} {B:aA},(s.bx.set b (.var (cs.set c y)))[i]?=some B→(i=b∧B=.var (cs.set c y))∨(i≠b∧s.bx[i]?=some B):=by
  intro i B h
  rcases aP h with ⟨h1,h2,_⟩|⟨h1,h2⟩
  ·exact .inl ⟨h1,h2⟩
  exact .inr ⟨h1,h2⟩
 have cG:∀{i:Nat} {B:aA},(s.bx.set b (.var (cs.set c y)))[i]?=some B→B.live=true→∃B',s.bx[i]?=some B'∧B'.live=true:=by
  intro i B h hl
  rcases hinv h with ⟨rfl,rfl⟩|⟨_,h1⟩
  ·exact ⟨_,hb,rfl⟩
  exact ⟨B,h1,hl⟩
 have hok:∀blk,bp β s.bx w X blk→bp β (s.bx.set b (.var (cs.set c y))) w X blk:=by
  rintro blk ⟨k1,k2,k3⟩
  refine ⟨k1,k2,fun i B hi hl=>?_⟩
  obtain ⟨B',h1,h2⟩:=cG hi hl
  exact k3 i B' h1 h2
 have dW:∀i,cj s.bx i→cj (s.bx.set b (.var (cs.set c y))) i:=fun i hi=>iE rfl hi
 have hkeep:jg w w (bp β s.bx w X) (bp β (s.bx.set b (.var (cs.set c y))) w X):=fun blk hb=>⟨hok blk hb,rfl⟩
 have p9:sw β s.bx w (bp β s.bx w X) β (s.bx.set b (.var (cs.set c y))) w (bp β (s.bx.set b (.var (cs.set c y))) w X):=
  ⟨hkeep,fun i hi=>⟨rfl,dW i hi⟩,fun _ c _ _ h=>⟨c,h,rfl⟩⟩
 refine ⟨⟨fun i _ hi=>⟨rfl,dW i hi⟩,fun i B hi hl=>?_⟩,⟨⟨hF.cx.xs,?_,?_,?_,?_⟩,hF.defers,hF.size,?_⟩⟩
 ·obtain ⟨B',h1,h2⟩:=cG hi hl
  exact ⟨i,B',h1,h2,rfl⟩
 ·intro g ds hg
  obtain ⟨k1,k2⟩:=hF.cx.yH g ds hg
  exact ⟨hok g k1,aY.mono hkeep g (fun _=>rfl) _ _ k2⟩
 ·intro i j bi bj hi hj mP oD he
  obtain ⟨B1,h1,h2⟩:=cG hi mP
  obtain ⟨B2,h3,h4⟩:=cG hj oD
  exact hF.cx.inj i j B1 B2 h1 h3 h2 h4 he
 ·intro i B hi
  rcases hinv hi with ⟨rfl,rfl⟩|⟨_,h1⟩
  ·have h:=hF.cx.box _ _ hb
   simp only [dz] at h ⊢
   obtain ⟨cc,e,g1,g2⟩:=h
   exact ⟨cc,e,g1,an.mono p9 _ _ (CR hxy cs c _ hc g2)⟩
  have h:=hF.cx.box i B h1
  cases B with
  |var cs=>
   obtain ⟨c,e,g1,g2⟩:=h
   exact ⟨c,e,g1,an.mono p9 _ _ g2⟩
  |row sz es=>
   refine h.imp id ?_
   rintro ⟨c,e,g1,g2⟩
   exact ⟨c,e,g1,ay.mono hkeep _ _ (fun _=>rfl) _ _ g2⟩
  |kI sz es=>
   refine h.imp id ?_
   rintro ⟨g1,g2⟩
   exact ⟨hok _ g1,ay.mono hkeep _ _ (fun _=>rfl) _ _ g2⟩
  |it s p=>exact h
  |mp ag es=>obtain ⟨ms,clock,h1,h2,h3⟩:=h;exact ⟨ms,clock,h1,h2,bt.mono hkeep _ _ _ h3⟩
  |dead=>trivial
  |bw=>trivial
 ·intro i B hi hl
  obtain ⟨B',h1,h2⟩:=cG hi hl
  exact hF.cx.apart i B' h1 h2
 intro t;exact ak.mono p9 _ _ (hF.yV t)
theorem dU (K:Nat) {a:Act}:∀(l:List (Nat×Nat×Nat)) (s:St) (β:Nat→Nat),Wt (qo s l)→Fr G N ds β w X s a→∃β',sn K β s.bx β' (yJ s l).bx∧Fr G N ds β' w X (yJ s l) a
 |[],s,β,_,hF=>⟨β,sn.refl _ _ _,hF⟩
 |(b,c,sz)::r,s,β,hC,hF=>by
  unfold yJ
  unfold qo at hC
  cases hb:s.bx[b]? with
  |none=>rw [hb] at hC;exact dU K r s β hC hF
  |some B=>
  rw [hb] at hC
  cases B with
  |var cs=>
   simp only at hC ⊢
   cases hc:cs[c]? with
   |none=>rw [hc] at hC;exact dU K r s β hC hF
   |some v=>
   rw [hc] at hC
   cases v with
   |cl es=>
    cases es with
    |nil=>
     simp only at hC ⊢
     cases hz:Nat.beq sz 0 with
     |true=>
      rw [hz] at hC
      simp only [cond_true] at hC ⊢
      obtain ⟨e2,My⟩:=Jg hF (b:=b) hb hc (y:=.d (.sl [])) (fun u hu=>by
       simp only [ak,aL] at hu ⊢
       obtain ⟨base,h1,h2⟩:=hu
       exact ⟨base,_,h1,Nat.le_refl _,h2⟩) K
      obtain ⟨β2,e3,Sr⟩:=dU K r _ β hC My
      exact ⟨β2,e2.trans e3,Sr⟩
     |false=>
     rw [hz] at hC
     simp only [cond_false] at hC ⊢
     obtain ⟨β1,e1,Ff,DY⟩:=GB (sz:=sz) K hF
     have pX:(s.bx++[aA.row sz []])[b]?=some (.var cs):=eJ hb
     obtain ⟨e2,My⟩:=Jg (s:=⟨s.sl,s.bx++[.row sz []]⟩) Ff (b:=b) pX hc (y:=.ow s.bx.length sz 0) (fun u hu=>Ug DY hu) K
     obtain ⟨β2,e3,Sr⟩:=dU K r _ β1 hC My
     exact ⟨β2,(e1.trans e2).trans e3,Sr⟩
    |cons=>exact dU K r s β hC hF
   |ow k z n=>
    simp only at hC ⊢
    cases hz:Nat.beq sz 0 with
    |false=>rw [hz] at hC;simp only [cond_false] at hC ⊢;exact dU K r s β hC hF
    |true=>
    rw [hz] at hC
    simp only [cond_true] at hC ⊢
    cases hk:s.bx[k]? with
    |none=>rw [hk] at hC;exact dU K r s β hC hF
    |some B=>
    rw [hk] at hC
    cases B with
    |row y es=>
     simp only at hC ⊢
     cases hy:(Nat.beq y z&&!Nat.beq b k) with
     |false=>rw [hy] at hC;simp only [cond_false] at hC ⊢;exact dU K r s β hC hF
     |true=>
      rw [hy] at hC
      simp only [cond_true,Wt] at hC ⊢
      obtain ⟨⟨hn⟩,hC⟩:=hC
      simp only [Bool.and_eq_true,Bool.not_eq_true'] at hy
      obtain ⟨hy1,WS⟩:=hy
      have hbk:b≠k:=fun e=>by subst e;rw [hb] at hk;cases hk
      have hfz:∀bx:List aA,(bx[k]?=some (.row y es)∨bx[k]?=some (.kI y es))→fz bx (.ow k z n)=some (.d (.sl es)):=by
       intro bx h
       subst hn
       have hl:Nat.beq es.length es.length=true:=Nat.beq_refl _
       rcases h with h|h<;>simp [fz,AV.rm,h,hy1]
      have IE:(AV.ow k z n).cC s.bx=s.bx.set k (.kI y es):=by simp [AV.cC,hk]
      obtain ⟨cc,ee,g1,g2⟩:=hF.cx.box _ _ hb
      obtain ⟨u0,_,WO⟩:=an.get c _ g2 hc
      obtain ⟨e1,RR,_⟩:=uF hF.cx (hfz s.bx (.inl hk)) WO
      rw [IE] at e1 RR
      have Ff:Fr G N ds β w X ⟨s.sl,s.bx.set k (.kI y es)⟩ a:=⟨RR,hF.defers,hF.size,fun t=>ak.mono (e1.eX X) _ _ (hF.yV t)⟩
      have hlk:k<s.bx.length:=(List.getElem?_eq_some_iff.1 hk).1
      have vT:(s.bx.set k (aA.kI y es))[k]?=some (.kI y es):=by simp [hlk]
      have pX:(s.bx.set k (aA.kI y es))[b]?=some (.var cs):=by rw [List.getElem?_set_ne (fun e=>hbk e.symm)];exact hb
      have ZD:(AV.ow k z n).cC (s.bx.set k (.kI y es))=s.bx.set k (.kI y es):=by simp [AV.cC,vT]
      have eK:sn K β s.bx β (s.bx.set k (.kI y es)):=⟨fun i _ hi=>(e1.born i hi),fun i B hi hl=>by
       by_cases hik:i=k
       ·subst hik
        exact ⟨i,_,hk,by rw [vT] at hi;cases hi;cases es<;>simp_all [aA.live],rfl⟩
       rw [List.getElem?_set_ne (fun e=>hik e.symm)] at hi
       exact ⟨i,B,hi,hl,rfl⟩⟩
      obtain ⟨e2,My⟩:=Jg (s:=⟨s.sl,s.bx.set k (.kI y es)⟩) Ff (b:=b) pX hc (y:=.d (.sl es)) (fun u hu=>by
       have:=(uF RR (hfz _ (.inr vT)) hu).2.2
       rw [ZD] at this
       exact this) K
      obtain ⟨β2,e3,Sr⟩:=dU K r _ β hC My
      exact ⟨β2,(eK.trans e2).trans e3,Sr⟩
    |_=>exact dU K r s β hC hF
   |_=>exact dU K r s β hC hF
  |_=>exact dU K r s β hC hF
theorem xS {K:Nat} {nf:Nf} {s s':St} {a:Act} (hC:Wt (qo (uX s nf.os) nf.ob)) (h:xR K nf s=some s') (hF:Fr G N ds β w X s a):∃β',sn K β s.bx β' s'.bx∧Fr G N ds β' w X s' a:=by
 unfold xR at h
 obtain ⟨β1,e1,Ff⟩:=oL K nf.os s β hF
 obtain ⟨β2,e2,My⟩:=dU K nf.ob _ β1 hC Ff
 obtain ⟨β3,e3,Sr⟩:=GA h My
 exact ⟨β3,(e1.trans e2).trans e3,Sr⟩
end
structure LoopIn (o:Option St) (P:St→Prop):Prop where
 ok:match o with
  |some s=>P s
  |none=>False
def qp:Option Prop→Prop→Prop
 |none,X=>X
 |some c,X=>c∧X
theorem qp.ok {o:Option Prop} {X:Prop} (h:qp o X):Wt o∧X:=by
 cases o with
 |none=>exact ⟨trv,h⟩
 |some c=>exact h
theorem qp.mk {o:Option Prop} {X:Prop} (h:Wt o) (hx:X):qp o X:=by
 cases o with
 |none=>exact hx
 |some c=>exact ⟨h,hx⟩
structure Uh (K:Nat) (A:(Ex→St→Prop)→St→Prop) (Q:Ex→St→Prop) (s:St):Prop where
 ok:∃(nf:Nf) (I:Nat→St→Prop) (n:Nat),qp (qo (uX s nf.os) nf.ob) (LoopIn (xR K nf s) (I n))∧∀n s1,I n s1→A (fun e s2=>uj (fun s2=>qp (qo (uX s2 nf.os) nf.ob) (LoopIn (xR K nf s2) (fun s3=>∃m,m<n∧I m s3))) Q e s2) s1
mutual
def AV.B4 (b:Nat) (x:D):AV→AV
 |.BJ c=>bif Nat.beq c b then .d x else .BJ c
 |.agg cs=>.agg (AV.GC b x cs)
 |.eA cs=>.eA (AV.GC b x cs)
 |.fn f cs=>.fn f (AV.GC b x cs)
 |.rY t y=>.rY t (AV.B4 b x y)
 |.cond p y=>.cond p (AV.B4 b x y)
 |v=>v
def AV.GC (b:Nat) (x:D):List AV→List AV
 |[]=>[]
 |y::ys=>AV.B4 b x y::AV.GC b x ys
end
def aA.B4 (b:Nat) (x:D):aA→aA
 |.var cs=>.var (AV.GC b x cs)
 |B=>B
def wA (b:Nat) (x:D):List (Nat×AV)→List (Nat×AV)
 |[]=>[]
 |(i,v)::r=>(i,AV.B4 b x v)::wA b x r
def wB (b:Nat) (x:D):List aA→Nat→List aA
 |[],_=>[]
 |B::r,i=>(bif Nat.beq i b then .dead else aA.B4 b x B)::wB b x r (i+1)
def jF (b:Nat) (x:D) (s:St):St:=⟨wA b x s.sl,wB b x s.bx 0⟩
def Pj:List aA→Bool
 |[]=>false
 |.mp _ _::_=>true
 |_::r=>Pj r
structure Xe (s:St) (A:St→Prop):Prop where
 ok:A s∨∃b ag es,s.bx[b]?=some (.mp ag es)∧A (jF b (.mp ag es) s)
section
variable {P:Program} {T:Nat→Option TI} {G:Nat→Option (List D)} {N:Nat} {ds:List Deferred} {β:Nat→Nat} {w:World} {X:Nat→Prop} {s:St}
theorem oM (b:Nat) (x:D):∀(l:List aA) (k i:Nat),(wB b x l k)[i]?=(l[i]?).map fun B=>bif Nat.beq (k+i) b then .dead else aA.B4 b x B
 |[],_,_=>by simp [wB]
 |B::r,k,0=>by simp [wB]
 |B::r,k,i+1=>by simp only [wB,List.getElem?_cons_succ];rw [oM b x r (k+1) i,show k+1+i=k+(i+1) by omega]
theorem GD (b:Nat) (x:D) (B:aA):(aA.B4 b x B).live=B.live∧(aA.B4 b x B).born=B.born:=by cases B<;>simp [aA.B4,aA.live,aA.born]
theorem GF (b:Nat) (x:D) (t:Nat):∀sl:List (Nat×AV),gH t (wA b x sl)=AV.B4 b x (gH t sl)
 |[]=>by simp [wA,gH,AV.B4]
 |(u,v)::r=>by
  simp only [wA,gH]
  cases Nat.beq t u with
  |true=>rfl
  |false=>simpa using GF b x t r
mutual
theorem zb {bx aU:List aA} {ok ok':Nat→Prop} {b:Nat} {x:D} (hl:sw β bx w ok β aU w ok') (hb:∀v,v=.map (some (β b))→aL w ok' x v):∀(y:AV) (v:Value),ak β bx w ok y v→ak β aU w ok' (AV.B4 b x y) v
 |.BJ c,v,h=>by
  unfold AV.B4
  cases hc:Nat.beq c b with
  |true=>
   obtain rfl:=Nat.eq_of_beq_eq_true hc
   simp only [cond_true,ak] at h ⊢
   exact hb v h.1
  |false=>simpa using ak.mono hl _ _ h
 |.agg cs,v,h=>by simp only [AV.B4,ak] at h ⊢;obtain ⟨vs,h1,h2⟩:=h;exact ⟨vs,h1,qq hl hb cs vs h2⟩
 |.eA cs,v,h=>by simp only [AV.B4,ak] at h ⊢;obtain ⟨vs,h1,h2⟩:=h;exact ⟨vs,h1,qq hl hb cs vs h2⟩
 |.fn f cs,v,h=>by simp only [AV.B4,ak] at h ⊢;obtain ⟨vs,h1,h2⟩:=h;exact ⟨vs,h1,qq hl hb cs vs h2⟩
 |.rY t y,v,h=>by simp only [AV.B4,ak] at h ⊢;obtain ⟨u,h1,h2⟩:=h;exact ⟨u,h1,zb hl hb y u h2⟩
 |.cond p y,v,h=>by simp only [AV.B4,ak] at h ⊢;exact ⟨fun hp=>zb hl hb y v (h.1 hp),h.2⟩
 |.any,v,h=>ak.mono hl _ _ h
 |.d _,v,h=>ak.mono hl _ _ h
 |.k _,v,h=>ak.mono hl _ _ h
 |.ptr _ _,v,h=>ak.mono hl _ _ h
 |.rp _ _ _ _,v,h=>ak.mono hl _ _ h
 |.ep _,v,h=>ak.mono hl _ _ h
 |.ow _ _ _,v,h=>ak.mono hl _ _ h
 |.cl _,v,h=>ak.mono hl _ _ h
 |.vw _ _ _ _ _ _,v,h=>ak.mono hl _ _ h
theorem qq {bx aU:List aA} {ok ok':Nat→Prop} {b:Nat} {x:D} (hl:sw β bx w ok β aU w ok') (hb:∀v,v=.map (some (β b))→aL w ok' x v):∀(ys:List AV) (vs:List Value),an β bx w ok ys vs→an β aU w ok' (AV.GC b x ys) vs
 |[],vs,h=>by simpa [AV.GC,an] using h
 |y::ys,vs,h=>by
  simp only [AV.GC,an] at h ⊢
  obtain ⟨u,us,h1,h2,h3⟩:=h
  exact ⟨u,us,h1,zb hl hb y u h2,qq hl hb ys us h3⟩
end
theorem Ss {a:Act} (hF:Fr G N ds β w X s a) {b:Nat} {ag:Bool} {es:List (List D)} (hb:s.bx[b]?=some (.mp ag es)):
 Ext β s.bx w β (jF b (.mp ag es) s).bx w∧Fr G N ds β w X (jF b (.mp ag es) s) a:=by
 have wk:∀{i:Nat} {B:aA},(jF b (.mp ag es) s).bx[i]?=some B→(i=b∧B=.dead)∨(i≠b∧∃B',s.bx[i]?=some B'∧B=aA.B4 b (.mp ag es) B'):=by
  intro i B h
  simp only [jF,oM,Nat.zero_add,Option.map_eq_some_iff] at h
  obtain ⟨B',h1,h2⟩:=h
  cases hi:Nat.beq i b with
  |true=>simp only [hi,cond_true] at h2;exact .inl ⟨Nat.eq_of_beq_eq_true hi,h2.symm⟩
  |false=>simp only [hi,cond_false] at h2;exact .inr ⟨Nat.ne_of_beq_eq_false hi,B',h1,h2.symm⟩
 have cG:∀{i:Nat} {B:aA},(jF b (.mp ag es) s).bx[i]?=some B→B.live=true→i≠b∧∃B',s.bx[i]?=some B'∧B'.live=true:=by
  intro i B h hl
  rcases wk h with ⟨_,rfl⟩|⟨h1,B',h2,rfl⟩
  ·cases hl
  exact ⟨h1,B',h2,(GD _ _ _).1▸hl⟩
 have dW:∀i,cj s.bx i→cj (jF b (.mp ag es) s).bx i:=by
  rintro i ⟨B,h1,h2⟩
  cases hi:Nat.beq i b with
  |true=>exact ⟨.dead,by simp [jF,oM,h1,hi],rfl⟩
  |false=>exact ⟨aA.B4 b (.mp ag es) B,by simp [jF,oM,h1,hi],(GD _ _ _).2.trans h2⟩
 have hok:∀blk,bp β s.bx w X blk→bp β (jF b (.mp ag es) s).bx w X blk:=by
  rintro blk ⟨k1,k2,k3⟩
  refine ⟨k1,k2,fun i B hi hl=>?_⟩
  obtain ⟨_,B',h1,h2⟩:=cG hi hl
  exact k3 i B' h1 h2
 have hkeep:jg w w (bp β s.bx w X) (bp β (jF b (.mp ag es) s).bx w X):=fun blk hb=>⟨hok blk hb,rfl⟩
 have p9:sw β s.bx w (bp β s.bx w X) β (jF b (.mp ag es) s).bx w (bp β (jF b (.mp ag es) s).bx w X):=⟨hkeep,fun i hi=>⟨rfl,dW i hi⟩,fun _ c _ _ h=>⟨c,h,rfl⟩⟩
 have FG:=hF.cx.box b _ hb
 have hmp:∀v,v=.map (some (β b))→aL w (bp β (jF b (.mp ag es) s).bx w X) (.mp ag es) v:=by
  rintro v rfl
  obtain ⟨ms,clock,h1,h2,h3⟩:=FG
  simp only [aL]
  refine ⟨β b,ms,clock,rfl,⟨fh h1,hF.cx.apart b _ hb rfl,?_⟩,h1,h2,bt.mono hkeep _ _ _ h3⟩
  intro i B hi hl he
  obtain ⟨g1,B',g2,g3⟩:=cG hi hl
  exact g1 (hF.cx.inj i b B' _ g2 hb g3 rfl he)
 refine ⟨⟨rfl,rfl,rfl,Nat.le_refl _,fun _ _ _=>rfl,fun _ c _ _ h=>⟨c,h,rfl⟩,fun i hi=>⟨rfl,dW i hi⟩,?_⟩,⟨⟨hF.cx.xs,?_,?_,?_,?_⟩,hF.defers,hF.size,?_⟩⟩
 ·intro i B hi hl
  obtain ⟨_,B',g2,g3⟩:=cG hi hl
  exact .inr ⟨i,B',g2,g3,rfl⟩
 ·intro g ds hg
  obtain ⟨k1,k2⟩:=hF.cx.yH g ds hg
  exact ⟨hok g k1,aY.mono hkeep g (fun _=>rfl) _ _ k2⟩
 ·intro i j bi bj hi hj mP oD he
  obtain ⟨_,Bi,g2,g3⟩:=cG hi mP
  obtain ⟨_,Bj,g4,g5⟩:=cG hj oD
  exact hF.cx.inj i j Bi Bj g2 g4 g3 g5 he
 ·intro i B hi
  rcases wk hi with ⟨_,rfl⟩|⟨_,B',h2,rfl⟩
  ·trivial
  have h:=hF.cx.box i B' h2
  cases B' with
  |var cs=>
   obtain ⟨c,e,g1,g2⟩:=h
   exact ⟨c,e,g1,qq p9 hmp _ _ g2⟩
  |row sz es=>
   refine h.imp id ?_
   rintro ⟨c,e,g1,g2⟩
   exact ⟨c,e,g1,ay.mono hkeep _ _ (fun _=>rfl) _ _ g2⟩
  |kI sz es=>
   refine h.imp id ?_
   rintro ⟨g1,g2⟩
   exact ⟨hok _ g1,ay.mono hkeep _ _ (fun _=>rfl) _ _ g2⟩
  |it s p=>exact h
  |mp ag es=>obtain ⟨ms,clock,h1,h2,h3⟩:=h;exact ⟨ms,clock,h1,h2,bt.mono hkeep _ _ _ h3⟩
  |dead=>trivial
  |bw=>trivial
 ·intro i B hi hl
  obtain ⟨_,B',g2,g3⟩:=cG hi hl
  exact hF.cx.apart i B' g2 g3
 intro t
 show ak β _ w _ (gH t (wA b (.mp ag es) s.sl)) _
 rw [GF]
 exact zb p9 hmp _ _ (hF.yV t)
end
section
variable (t:Th) (FC:Nat→List AV→List aA→jR→List aA→Prop) (T:Nat→Option TI) (G:Nat→Option (List D)) (N K:Nat)
def yK:Code→(Ex→St→Prop)→St→Prop
 |.skip,Q,s=>Q .normal s
 |.region _ ops draw,Q,s=>bif draw then (bif Pj s.bx then Xe s (fun s=>Lo t FC T G N ops.toList Q s) else Lo t FC T G N ops.toList Q s) else Pe t FC T G N ops.toList ops.toList Q s
 |.seq a b,Q,s=>yK a (fun e s1=>uj (fun s1=>yK b Q s1) Q e s1) s
 |.cond c a b,Q,s=>(ct G s.sl c).ok∧vU (ct G s.sl c).aR (fun _=>yK a Q s) (fun _=>yK b Q s)
 |.block id c,Q,s=>yK c (fun e s1=>match e with|.exit j=>bif Nat.beq j id then Q .normal s1 else Q (.exit j) s1|e=>Q e s1) s
 |.loop c,Q,s=>Uh K (fun Q1 s1=>yK c Q1 s1) Q s
 |.scope c,Q,s=>yK c Q s
 |.exit id,Q,s=>Q (.exit id) s
 |.label _,Q,s=>Q .normal s
 |.ret,Q,s=>Q .ret s
 |_,_,_=>False
structure GG (n:Nat) (c:Prop) (v:AV) (bx:List aA) (fz:Option (Prop×AV)) (res:jR) (aU:List aA):Prop where
 ok:c∧((res=.ret v∧aU=bx)∨
  (∃ks d u,fz=some (d,u)∧d∧u.within n=true∧aU=(kill ks (ul bx v)).take n∧cD n aU=true∧res=.ret u)∨
  (∃k sz m es,v=.ow k sz m∧bx[k]?=some (.row sz es)∧n≤k∧n≤bx.length∧cD n (bx.take n)=true∧res=.ret (.ow n sz m)∧aU=bx.take n++[.row sz es])∨
  (∃sz,v=.cl []∧n≤bx.length∧cD n (bx.take n)=true∧res=.ret (.ow n sz 0)∧aU=bx.take n++[.row sz []]))
def xT (results:List ResultVar) (n:Nat) (res:jR) (aU:List aA):Ex→St→Prop
 |.exit _,_=>False
 |.panic v,s=>TX v s.bx res aU
 |_,s=>match BS T s.sl s.bx results with
  |some (c,vs)=>GG n c (Cs vs) s.bx (O9 t s.bx (Cs vs)) res aU
  |none=>False
end
section
variable {P:Program} {T:Nat→Option TI} {G:Nat→Option (List D)} {N K:Nat} {ds:List Deferred} {X:Nat→Prop} {β0:Nat→Nat} {aQ:List aA} {w0:World}
theorem Pk {β:Nat→Nat} {w:World} {s s1:St} {a:Act} {i:Nat} {c:Prop} (hF:Fr G N ds β w X s a) (h:Ec t0 i s=some (c,s1)) (hc:c):Ext β s.bx w β s1.bx w∧Fr G N ds β w X s1 a:=by
 unfold Ec at h
 split at h
 ·rename_i c' y hy
  simp only [osI,Prod.mk.injEq] at h
  obtain ⟨rfl,rfl⟩:=h
  obtain ⟨g1,g2,g3⟩:=uF hF.cx (Jc hy hc) (hF.yV i)
  refine ⟨g1,g2,hF.defers,hF.size,fun t=>?_⟩
  simp only [oE]
  by_cases h:t=i
  ·subst h;rw [if_pos rfl];exact g3
  rw [if_neg h];exact ak.mono (g1.eX X) _ _ (hF.yV t)
 cases h
theorem qt (hD:p8 P T G) {id:Nat} {ops:Array Oper} {Q:Ex→St→Prop} {β:Nat→Nat} {w:World} {s:St} {a:Act} (ex:Ext β0 aQ w0 β s.bx w) (hF:Fr G N ds β w X s a)
 (h:Lo t0 (bF P G) T G N ops.toList Q s):(Code.region id ops true).wp P (gE G N ds X β0 aQ w0 Q) a w:=by
 rcases Sq h with h|⟨i,c,s1,h1,hc,h⟩
 ·exact hD _ _ _ _ _ _ id ops Q β w s a ex hF h
 obtain ⟨e1,Ff⟩:=Pk hF h1 hc
 exact hD _ _ _ _ _ _ id ops Q β w s1 a (ex.trans e1) Ff h
theorem gk (hT:kD P T) (hD:p8 P T G) (hK:aQ.length≤K):∀(c:Code) (Q:Ex→St→Prop) (β:Nat→Nat) (w:World) (s:St) (a:Act),Ext β0 aQ w0 β s.bx w→Fr G N ds β w X s a→
 yK t0 (bF P G) T G N K c Q s→c.wp P (gE G N ds X β0 aQ w0 Q) a w
 |.skip,Q,β,w,s,a,ex,hF,h=>wp_skip ⟨β,s,ex,hF,h⟩
 |.region id ops draw,Q,β,w,s,a,ex,hF,h=>by
  cases draw with
  |true=>
   simp only [yK,cond_true] at h
   cases hm:Pj s.bx with
   |false=>simp only [hm,cond_false] at h;exact qt hD ex hF h
   |true=>
    simp only [hm,cond_true] at h
    rcases h with ⟨h|⟨b,ag,es,hb,h⟩⟩
    ·exact qt hD ex hF h
    obtain ⟨e1,Ff⟩:=Ss hF hb
    exact qt hD (ex.trans e1) Ff h
  |false=>exact wp_region_list (mw hT ops.toList β w s a ex hF (Je _ _ h))
 |.seq x y,Q,β,w,s,a,ex,hF,h=>by
  refine wp_seq (wp_mono (gk hT hD hK x _ β w s a ex hF h) ?_)
  intro e a' w' hl
  cases e<;>simp only [gE,uj] at hl
  ·obtain ⟨β',s',h1,h2,h3⟩:=hl
   exact gk hT hD hK y Q β' w' s' a' h1 h2 h3
  ·exact hl
  ·exact hl
  exact hl
 |.cond c x y,Q,β,w,s,a,ex,hF,h=>by
  obtain ⟨h1,⟨h2⟩⟩:=h
  split at h2
  ·rename_i p hc
   have hv:=kj (hF.eval c) h1
   rw [hc] at hv
   simp only [ak,aL] at hv
   exact wp_cond_split hv (fun hp=>gk hT hD hK x Q β w s a ex hF (h2.1 hp)) (fun hp=>gk hT hD hK y Q β w s a ex hF (h2.2 hp))
  exact h2.elim
 |.block id c,Q,β,w,s,a,ex,hF,h=>by
  refine wp_block (wp_mono (gk hT hD hK c _ β w s a ex hF h) ?_)
  intro e a' w' hl
  cases e<;>simp only [gE,Exit.inBlock] at hl ⊢
  ·exact hl
  ·rename_i j
   by_cases hj:j=id
   ·subst hj
    simpa [gE] using hl
   have hb:Nat.beq j id=false:=Wl hj
   simpa [gE,hb,hj] using hl
  ·exact hl
  exact hl
 |.loop c,Q,β,w,s,a,ex,hF,h=>by
  obtain ⟨nf,I,n,hG,U4⟩:=h
  obtain ⟨hC0,⟨hI⟩⟩:=hG.ok
  refine wp_loop_ghost (fun n a w=>∃β s,Ext β0 aQ w0 β s.bx w∧Fr G N ds β w X s a∧I n s) n ?_ ?_
  ·split at hI
   ·rename_i s' hn
    obtain ⟨β',e1,WZ⟩:=xS hC0 hn hF
    exact ⟨β',s',ex.Av hK e1,WZ,hI⟩
   exact hI.elim
  rintro n a w ⟨β,s,ex,hF,hI⟩
  refine wp_mono (gk hT hD hK c _ β w s a ex hF (U4 n s hI)) ?_
  intro e a' w' hl
  cases e<;>simp only [gE,uj] at hl
  ·obtain ⟨β',s',h1,h2,hG⟩:=hl
   obtain ⟨hC1,⟨h3⟩⟩:=hG.ok
   split at h3
   ·rename_i s'' hn
    obtain ⟨m,h4,h5⟩:=h3
    obtain ⟨β'',e1,WZ⟩:=xS hC1 hn h2
    exact ⟨m,h4,β'',s'',h1.Av hK e1,WZ,h5⟩
   exact h3.elim
  ·exact hl
  ·exact hl
  exact hl
 |.scope c,Q,β,w,s,a,ex,hF,h=>by
  refine wp_scope_straight (wp_mono (gk hT hD hK c Q β w s a ex hF h) ?_)
  intro e a' w' hl
  cases e<;>simp only [gE,Exit.noGoto] at hl ⊢<;>exact hl
 |.exit id,Q,β,w,s,a,ex,hF,h=>wp_exit ⟨β,s,ex,hF,h⟩
 |.label l,Q,β,w,s,a,ex,hF,h=>wp_label ⟨β,s,ex,hF,h⟩
 |.ret,Q,β,w,s,a,ex,hF,h=>wp_ret ⟨β,s,ex,hF,h⟩
theorem Ls {results:List ResultVar} {n:Nat} {res:jR} {aU:List aA} {e:Ex} {s:St} (h:xT t0 T results n res aU e s):K2 T results n res aU e s:=by
 unfold xT at h
 split at h
 ·exact h.elim
 ·exact h
 rename_i h1 h2
 unfold K2
 split
 ·exact absurd rfl (h1 _)
 ·exact absurd rfl (h2 _)
 split at h
 ·rename_i c vs hr
  simp only [hr]
  obtain ⟨hc,h⟩:=h
  refine ⟨hc,?_⟩
  rcases h with h|⟨ks,d,u,k1,k2,k3⟩|h|h
  ·exact .inl h
  ·exact .inr (.inl ⟨ks,u,Jd k1 k2,k3⟩)
  ·exact .inr (.inr (.inl h))
  exact .inr (.inr (.inr h))
 exact h.elim
theorem yL (hT:kD P T) (hD:p8 P T G) {f N:Nat} {fn:Func} {c:Code} {args:List AV} {aQ aU:List aA} {res:jR} (hf:P.funcs[f]?=some fn) (hb:fn.body=some c)
 (hname:(fn.name== "runtime.NumGoroutine")=false) (hN:fn.ntmps=N) (hlen:Nat.ble args.length N=true)
 (h:yK t0 (bF P G) T G N aQ.length c (xT t0 T fn.results.toList aQ.length res aU) ⟨pR 0 args,aQ⟩):bF P G f args aQ res aU:=
 uI hT hf hb hname hN hlen fun β w X a hF=>wp_mono (gk (X:=X) (β0:=β) (aQ:=aQ) (w0:=w) hT hD (Nat.le_refl _) c _ β w ⟨pR 0 args,aQ⟩ a (Ext.refl _ _ _) hF h)
  fun _ _ _ hl=>gE.imp (fun _ _ hq=>Ls hq) hl
end
end Dem
end
section
open Go
namespace Dem
def lm (cE:List Nat) (n:Nat) (j:Nat):Option Nat:=match cE[j]? with
 |some i=>some i
 |none=>some (n+(j-cE.length))
def rO (cE:List Nat) (n:Nat) (aQ:List aA):Nat→List aA→Option (List aA)
 |_,[]=>some []
 |i,b::r=>match eF i cE 0 with
  |some j=>match aQ[j]? with
   |some b0=>match aA.iP (lm cE n) b0,rO cE n aQ (i+1) r with
    |some x,some xs=>some (x::xs)
    |_,_=>none
   |none=>none
  |none=>match rO cE n aQ (i+1) r with
   |some xs=>some (b::xs)
   |none=>none
def uZ (cE:List Nat) (n:Nat):List aA→Option (List aA)
 |[]=>some []
 |b::r=>match aA.iP (lm cE n) b,uZ cE n r with
  |some x,some xs=>some (x::xs)
  |_,_=>none
def GH (cE:List Nat) (bx aQ:List aA):Option (List aA):=
 bif Nat.ble cE.length aQ.length&&Ed cE 0 cE then
  match rO cE bx.length aQ 0 bx,uZ cE bx.length (aQ.drop cE.length) with
  |some a,some b=>some (a++b)
  |_,_=>none
 else none
def jR.iP (m:Nat→Option Nat):jR→Option jR
 |.ret v=>match v.iP m with
  |some x=>some (.ret x)
  |none=>none
 |.Mf v=>match v.iP m with
  |some x=>some (.Mf x)
  |none=>none
section
variable {P:Program} {G:Nat→Option (List D)}
theorem qu {cE:List Nat} {n:Nat} {aQ:List aA}:∀{bx a:List aA} {i:Nat},rO cE n aQ i bx=some a→a.length=bx.length∧∀(k:Nat) (b:aA),bx[k]?=some b→
 (∃j b0 b',eF (i+k) cE 0=some j∧aQ[j]?=some b0∧aA.iP (lm cE n) b0=some b'∧a[k]?=some b')∨(eF (i+k) cE 0=none∧a[k]?=some b)
 |[],a,i,h=>by simp only [rO,osI] at h;subst h;simp
 |b::r,a,i,h=>by
  simp only [rO] at h
  split at h
  ·rename_i j hj
   split at h
   ·rename_i b0 hb0
    split at h
    ·rename_i x xs h1 h2
     simp only [osI] at h;subst h
     obtain ⟨k1,k2⟩:=qu h2
     refine ⟨by simp [k1],?_⟩
     intro k b1 hk
     cases k with
     |zero=>exact .inl ⟨j,b0,x,hj,hb0,h1,rfl⟩
     |succ k=>
      simp only [List.getElem?_cons_succ] at hk ⊢
      have:=k2 k b1 hk
      rwa [show i+1+k=i+(k+1) by omega] at this
    simp at h
   simp at h
  rename_i hj
  split at h
  ·rename_i xs h2
   simp only [osI] at h;subst h
   obtain ⟨k1,k2⟩:=qu h2
   refine ⟨by simp [k1],?_⟩
   intro k b1 hk
   cases k with
   |zero=>simp only [List.getElem?_cons_zero,osI] at hk;subst hk;exact .inr ⟨hj,rfl⟩
   |succ k=>
    simp only [List.getElem?_cons_succ] at hk ⊢
    have:=k2 k b1 hk
    rwa [show i+1+k=i+(k+1) by omega] at this
  simp at h
theorem xU {cE:List Nat} {n:Nat}:∀{bx a:List aA},uZ cE n bx=some a→a.length=bx.length∧∀(k:Nat) (b:aA),bx[k]?=some b→∃b',aA.iP (lm cE n) b=some b'∧a[k]?=some b'
 |[],a,h=>by simp only [uZ,osI] at h;subst h;simp
 |b::r,a,h=>by
  simp only [uZ] at h
  split at h
  ·rename_i x xs h1 h2
   simp only [osI] at h;subst h
   obtain ⟨k1,k2⟩:=xU h2
   refine ⟨by simp [k1],?_⟩
   intro k b1 hk
   cases k with
   |zero=>simp only [List.getElem?_cons_zero,osI] at hk;subst hk;exact ⟨x,h1,rfl⟩
   |succ k=>simp only [List.getElem?_cons_succ] at hk ⊢;exact k2 k b1 hk
  simp at h
theorem dK {f:Nat} {args pn:List AV} {bx aQ u7 aU:List aA} {U5 res:jR} (cE:List Nat)
 (ha:AV.yI (fun b=>eF b cE 0) args=some pn) (hb:gM (fun b=>eF b cE 0) bx cE=some aQ)
 (hr:jR.iP (lm cE bx.length) U5=some res) (hb':GH cE bx u7=some aU) (h:bF P G f pn aQ U5 u7):bF P G f args bx res aU:=by
 intro β w vs X cx hx
 unfold GH at hb'
 cases hlen:Nat.ble cE.length u7.length with
 |false=>simp [hlen] at hb'
 |true=>
 cases Jh:Ed cE 0 cE with
 |false=>simp [hlen,Jh] at hb'
 |true=>
 simp only [hlen,Jh,Bool.and_self,cond_true] at hb'
 split at hb'
 case h_2=>simp at hb'
 rename_i aO aN hO hN
 simp only [osI] at hb'
 subst hb'
 have hlen':cE.length≤u7.length:=Nat.le_of_ble_eq_true hlen
 obtain ⟨lO,gO⟩:=qu hO
 obtain ⟨lN,gN⟩:=xU hN
 have uY:∀k i,cE[k]?=some i→eF i cE 0=some k:=fun k i hk=>by have:=rM Jh hk;simpa using this
 have hidx:∀b j,eF b cE 0=some j→cE[j]?=some b:=fun b j hj=>by have:=(tC hj).2;simpa using this
 have Pm:∀k i,cE[k]?=some i→∃b,bx[i]?=some b:=fun k i hk=>by
  obtain ⟨b,_,h1,_⟩:=m6 hb k i hk;exact ⟨b,h1⟩
 let β0:Nat→Nat:=fun j=>match cE[j]? with|some i=>β i|none=>0
 let X0:Nat→Prop:=fun blk=>X blk∨∃(i:Nat) (b:aA),bx[i]?=some b∧b.live=true∧eF i cE 0=none∧β i=blk
 have U6:∀k i,cE[k]?=some i→β0 k=β i:=fun k i hk=>by simp [β0,hk]
 have hm:∀b j,eF b cE 0=some j→β0 j=β b∧(cj bx b→cj aQ j):=by
  intro b j hj
  have hs:=hidx b j hj
  refine ⟨U6 j b hs,?_⟩
  rintro ⟨B,hB,dW⟩
  obtain ⟨b1,b2,k1,k2,k3⟩:=m6 hb j b hs
  rw [hB] at k1;cases k1
  exact ⟨b2,k3,(aA.gu k2).1.trans dW⟩
 have tD:∀(i:Nat) (b:aA),aQ[i]?=some b→b.live=true→∃(j:Nat) (b':aA),bx[j]?=some b'∧b'.live=true∧β j=β0 i∧cE[i]?=some j:=by
  intro i b hi hl
  obtain ⟨j,b',k1,k2,k3⟩:=jE hb i b hi
  exact ⟨j,b',k2,(aA.gu k3).2▸hl,(U6 i j k1).symm,k1⟩
 have Pn:∀blk,bp β bx w X blk→bp β0 aQ w X0 blk:=by
  rintro blk ⟨k1,k2,k3⟩
  refine ⟨k1,?_,?_⟩
  ·rintro (hX|⟨i,b,h1,h2,_,h3⟩)
   ·exact k2 hX
   exact k3 i b h1 h2 h3
  intro i b hi hl
  obtain ⟨j,b',h3,h4,h5,_⟩:=tD i b hi hl
  rw [←h5];exact k3 j b' h3 h4
 have Ee:jg w w (bp β bx w X) (bp β0 aQ w X0):=fun blk hb=>⟨Pn blk hb,rfl⟩
 have hlt:∀(i:Nat) (b:aA),bx[i]?=some b→b.live=true→β i<w.heap.size:=fun i b h hl=>dz.fJ (cx.box i b h) hl
 have Wi:cP G β0 aQ w X0:=by
  refine ⟨?_,?_,?_,?_,?_⟩
  ·rintro blk (hX|⟨i,b,h1,h2,_,rfl⟩)
   ·exact cx.xs blk hX
   exact hlt i b h1 h2
  ·intro g ds hg
   obtain ⟨k1,k2⟩:=cx.yH g ds hg
   exact ⟨Pn g k1,aY.mono Ee g (fun _=>rfl) _ _ k2⟩
  ·intro i j bi bj hi hj mP oD he
   obtain ⟨i',ZB,a1,a2,a3,a4⟩:=tD i bi hi mP
   obtain ⟨j',ZC,c1,c2,c3,c4⟩:=tD j bj hj oD
   have:i'=j':=cx.inj i' j' ZB ZC a1 c1 a2 c2 (a3.trans (he.trans c3.symm))
   subst this
   have e1:=uY i i' a4
   have e2:=uY j i' c4
   rw [e1] at e2;exact Option.some.inj e2
  ·intro i b hi
   obtain ⟨j,b',k1,k2,k3⟩:=jE hb i b hi
   have FG:=cx.box j b' k2
   rw [U6 i j k1]
   cases b' with
   |var cs=>
    simp only [aA.iP] at k3
    split at k3
    ·rename_i ys hys
     simp only [osI] at k3;subst k3
     simp only [dz] at FG ⊢
     obtain ⟨c,e,g1,g2⟩:=FG
     exact ⟨c,e,g1,kO hm Pn cs ys _ hys g2⟩
    simp at k3
   |row sz es=>
    simp only [aA.iP,osI] at k3;subst k3
    refine FG.imp id ?_
    rintro ⟨c,e,g1,g2⟩
    exact ⟨c,e,g1,ay.mono Ee _ _ (fun _=>rfl) _ _ g2⟩
   |kI sz es=>
    simp only [aA.iP,osI] at k3;subst k3
    refine FG.imp id ?_
    rintro ⟨g1,g2⟩
    exact ⟨Pn _ g1,ay.mono Ee _ _ (fun _=>rfl) _ _ g2⟩
   |it s p=>simp only [aA.iP,osI] at k3;subst k3;exact FG
   |mp ag es=>simp only [aA.iP,osI] at k3;subst k3;obtain ⟨ms,clock,h1,h2,h3⟩:=FG;exact ⟨ms,clock,h1,h2,bt.mono Ee _ _ _ h3⟩
   |dead=>simp only [aA.iP,osI] at k3;subst k3;trivial
   |bw=>simp only [aA.iP,osI] at k3;subst k3;trivial
  intro i b hi hl
  obtain ⟨j,b',h3,h4,h5,h6⟩:=tD i b hi hl
  rw [←h5]
  rintro (hX|⟨i2,b2,e1,e2,e3,e4⟩)
  ·exact cx.apart j b' h3 h4 hX
  have:i2=j:=cx.inj i2 j b2 b' e1 h3 e2 h4 e4
  subst this
  rw [uY i i2 h6] at e3;cases e3
 refine jD.mono (h β0 w vs X0 Wi (kO hm Pn args pn vs ha hx)) ?_
 rintro e w' ⟨Ji,sg,Su,hres⟩
 let β':Nat→Nat:=fun i=>match eF i cE 0 with|some j=>Ji j|none=>if i<bx.length then β i else Ji (cE.length+(i-bx.length))
 have Xf:∀j i,cE[j]?=some i→i<bx.length:=fun j i hj=>by obtain ⟨b,hb⟩:=Pm j i hj;exact jz hb
 have Xg:∀k,eF (bx.length+k) cE 0=none:=by
  intro k
  cases hc:eF (bx.length+k) cE 0 with
  |none=>rfl
  |some j=>have:=Xf j _ (hidx _ _ hc);omega
 have Xh:∀i j,eF i cE 0=some j→β' i=Ji j:=fun i j hj=>by simp [β',hj]
 have Jj:∀i,i<bx.length→eF i cE 0=none→β' i=β i:=fun i hi hn=>by simp [β',hi,hn]
 have ZE:∀k,β' (bx.length+k)=Ji (cE.length+k):=fun k=>by simp [β',Xg k];omega
 have Po:∀(i:Nat),i<bx.length→(aO++aN)[i]?=aO[i]?:=fun i hi=>List.getElem?_append_left (by omega)
 have Ui:∀(k:Nat),(aO++aN)[bx.length+k]?=aN[k]?:=fun k=>by rw [List.getElem?_append_right (by omega),lO];congr 1;omega
 have hinv:∀(i:Nat) (b:aA),(aO++aN)[i]?=some b→(i<bx.length∧eF i cE 0=none∧bx[i]?=some b)∨
  (∃(j:Nat) (b0:aA),u7[j]?=some b0∧aA.iP (lm cE bx.length) b0=some b∧lm cE bx.length j=some i):=by
  intro i b hi
  rcases Nat.lt_or_ge i bx.length with hl|hl
  ·rw [Po i hl] at hi
   obtain ⟨bi,xu⟩:∃bi,bx[i]?=some bi:=⟨bx[i],by simp [hl]⟩
   have:=gO i bi xu
   rw [Nat.zero_add] at this
   rcases this with ⟨j,b0,b',k1,k2,k3,k4⟩|⟨k1,k2⟩
   ·rw [hi] at k4;cases k4
    refine .inr ⟨j,b0,k2,k3,?_⟩
    simp [lm,hidx i j k1]
   rw [hi] at k2;cases k2
   exact .inl ⟨hl,k1,xu⟩
  obtain ⟨k,rfl⟩:∃k,i=bx.length+k:=⟨i-bx.length,by omega⟩
  rw [Ui k] at hi
  have hk:k<aN.length:=by
   rcases Nat.lt_or_ge k aN.length with h'|h'
   ·exact h'
   simp [List.getElem?_eq_none h'] at hi
  have hkd:k<(u7.drop cE.length).length:=by omega
  obtain ⟨b',k1,k2⟩:=gN k _ (List.getElem?_eq_getElem hkd)
  rw [hi] at k2;cases k2
  refine .inr ⟨cE.length+k,(u7.drop cE.length)[k],?_,k1,?_⟩
  ·rw [←List.getElem?_drop];exact List.getElem?_eq_getElem hkd
  simp [lm]
 have Aw:∀j i,lm cE bx.length j=some i→β' i=Ji j∧(cj u7 j→cj (aO++aN) i):=by
  intro j i hj
  unfold lm at hj
  split at hj
  ·rename_i i' hs
   simp only [osI] at hj;subst hj
   obtain ⟨bi,xu⟩:=Pm j i' hs
   have hil:=jz xu
   refine ⟨Xh i' j (uY j i' hs),?_⟩
   rintro ⟨b0,e1,e2⟩
   have:=gO i' bi xu
   rw [Nat.zero_add,uY j i' hs] at this
   rcases this with ⟨j2,b02,b',c1,c2,c3,c4⟩|⟨c1,_⟩
   ·cases c1
    rw [e1] at c2;cases c2
    exact ⟨b',by rw [Po i' hil];exact c4,(aA.gu c3).1.trans e2⟩
   cases c1
  rename_i hs
  simp only [osI] at hj;subst hj
  have hge:cE.length≤j:=by
   rcases Nat.lt_or_ge j cE.length with h'|h'
   ·simp [h'] at hs
   exact h'
  refine ⟨by rw [ZE];congr 1;omega,?_⟩
  rintro ⟨b0,e1,e2⟩
  have hd:(u7.drop cE.length)[j-cE.length]?=some b0:=by rw [List.getElem?_drop];rw [←e1];congr 1;omega
  obtain ⟨b',c1,c2⟩:=gN _ _ hd
  exact ⟨b',by rw [Ui];exact c2,(aA.gu c1).1.trans e2⟩
 have Pp:∀blk,bp Ji u7 w' X0 blk→bp β' (aO++aN) w' X blk:=by
  rintro blk ⟨k1,k2,k3⟩
  refine ⟨k1,fun hX=>k2 (.inl hX),?_⟩
  intro i b hi hl
  rcases hinv i b hi with ⟨c1,c2,c3⟩|⟨j,b0,c1,c2,c3⟩
  ·rw [Jj i c1 c2]
   exact fun he=>k2 (.inr ⟨i,b,c3,hl,c2,he⟩)
  rw [(Aw j i c3).1]
  exact k3 j b0 c1 ((aA.gu c2).2▸hl)
 have Jk:jg w' w' (bp Ji u7 w' X0) (bp β' (aO++aN) w' X):=fun blk hb=>⟨Pp blk hb,rfl⟩
 have ex:Ext β bx w β' (aO++aN) w':=by
  refine ⟨sg.os,sg.tape,sg.output,sg.size,?_,sg.shape,?_,?_⟩
  ·intro k hk hl
   refine sg.block k hk ?_
   intro i b hi hlv
   obtain ⟨j,b',h3,h4,h5,_⟩:=tD i b hi hlv
   rw [←h5];exact hl j b' h3 h4
  ·intro i hi
   obtain ⟨b,pX,sE⟩:=hi
   have hil:=jz pX
   cases hc:eF i cE 0 with
   |some j=>
    obtain ⟨k1,k2⟩:=hm i j hc
    obtain ⟨c1,c2⟩:=sg.born j (k2 ⟨b,pX,sE⟩)
    have hbm:lm cE bx.length j=some i:=by simp [lm,hidx i j hc]
    exact ⟨by rw [Xh i j hc,c1,k1],(Aw j i hbm).2 c2⟩
   |none=>
    refine ⟨Jj i hil hc,b,?_,sE⟩
    rw [Po i hil]
    have:=gO i b pX
    rw [Nat.zero_add,hc] at this
    rcases this with ⟨_,_,_,c1,_⟩|⟨_,c2⟩
    ·cases c1
    exact c2
  intro i b hi hl
  rcases hinv i b hi with ⟨c1,c2,c3⟩|⟨j,b0,c1,c2,c3⟩
  ·exact .inr ⟨i,b,c3,hl,(Jj i c1 c2).symm⟩
  rw [(Aw j i c3).1]
  rcases sg.live j b0 c1 ((aA.gu c2).2▸hl) with h1|⟨j',b',h1,h2,h3⟩
  ·exact .inl h1
  obtain ⟨j2,b2,e1,e2,e3,_⟩:=tD j' b' h1 h2
  exact .inr ⟨j2,b2,e1,e2,e3.trans h3⟩
 refine ⟨β',ex,cx.step ex ?_ ?_,?_⟩
 ·intro i b hi
  rcases hinv i b hi with ⟨c1,c2,c3⟩|⟨j,b0,c1,c2,c3⟩
  ·refine .inl ⟨c3,fun hl=>sg.block _ (hlt i b c3 hl) ?_⟩
   intro k b' hk hlk he
   obtain ⟨j,b2,h3,h4,h5,h6⟩:=tD k b' hk hlk
   have:j=i:=cx.inj j i b2 b h3 c3 h4 hl (h5.trans he)
   subst this
   rw [uY k j h6] at c2;cases c2
  refine .inr ?_
  have FG:=Su.box j b0 c1
  rw [(Aw j i c3).1]
  cases b0 with
  |var cs=>
   simp only [aA.iP] at c2
   split at c2
   ·rename_i ys hys
    simp only [osI] at c2;subst c2
    simp only [dz] at FG ⊢
    obtain ⟨c,e,g1,g2⟩:=FG
    exact ⟨c,e,g1,kO Aw Pp cs ys _ hys g2⟩
   simp at c2
  |row sz es=>
   simp only [aA.iP,osI] at c2;subst c2
   refine FG.imp id ?_
   rintro ⟨c,e,g1,g2⟩
   exact ⟨c,e,g1,ay.mono Jk _ _ (fun _=>rfl) _ _ g2⟩
  |kI sz es=>
   simp only [aA.iP,osI] at c2;subst c2
   refine FG.imp id ?_
   rintro ⟨g1,g2⟩
   exact ⟨Pp _ g1,ay.mono Jk _ _ (fun _=>rfl) _ _ g2⟩
  |it s p=>simp only [aA.iP,osI] at c2;subst c2;exact FG
  |mp ag es=>simp only [aA.iP,osI] at c2;subst c2;obtain ⟨ms,clock,h1,h2,h3⟩:=FG;exact ⟨ms,clock,h1,h2,bt.mono Jk _ _ _ h3⟩
  |dead=>simp only [aA.iP,osI] at c2;subst c2;trivial
  |bw=>simp only [aA.iP,osI] at c2;subst c2;trivial
 ·intro i j bi bj hi hj mP oD he
  rcases hinv i bi hi with ⟨c1,c2,c3⟩|⟨i',b0,c1,c2,c3⟩<;>rcases hinv j bj hj with ⟨d1,d2,d3⟩|⟨j',b0',d1,d2,d3⟩
  ·rw [Jj i c1 c2,Jj j d1 d2] at he
   exact cx.inj i j bi bj c3 d3 mP oD he
  ·rw [Jj i c1 c2,(Aw j' j d3).1] at he
   exact absurd (.inr ⟨i,bi,c3,mP,c2,he⟩) (Su.apart j' b0' d1 ((aA.gu d2).2▸oD))
  ·rw [(Aw i' i c3).1,Jj j d1 d2] at he
   exact absurd (.inr ⟨j,bj,d3,oD,d2,he.symm⟩) (Su.apart i' b0 c1 ((aA.gu c2).2▸mP))
  rw [(Aw i' i c3).1,(Aw j' j d3).1] at he
  have:=Su.inj i' j' b0 b0' c1 d1 ((aA.gu c2).2▸mP) ((aA.gu d2).2▸oD) he
  subst this
  rw [c3] at d3;exact Option.some.inj d3
 cases U5 with
 |ret v0=>
  simp only [jR.iP] at hr
  split at hr
  ·rename_i v hv
   simp only [osI] at hr;subst hr
   cases e with
   |returned u=>exact rN Aw Pp v0 v u hv hres
   |panicked ch=>exact hres.elim
   |outgrown=>exact hres.elim
  simp at hr
 |Mf v0=>
  simp only [jR.iP] at hr
  split at hr
  ·rename_i v hv
   simp only [osI] at hr;subst hr
   cases e with
   |returned u=>exact hres.elim
   |panicked ch=>
    obtain ⟨u,k1,k2⟩:=hres
    exact ⟨u,k1,rN Aw Pp v0 v u hv k2⟩
   |outgrown=>exact hres.elim
  simp at hr
end
end Dem
end
