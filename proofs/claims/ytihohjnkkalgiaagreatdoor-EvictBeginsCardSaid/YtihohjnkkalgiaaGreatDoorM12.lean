/- Parts of a proof, joined. -/
import Derived.Test.YtihohjnkkalgiaaGreatDoorM11
set_option linter.all false
set_option maxRecDepth 100000
set_option maxHeartbeats 4000000
section
open Go
namespace Dem
mutual
def AV.iy (m:Nat→Option Nat):AV→Option AV
 |.any=>some .any
 |.d x=>some (.d x)
 |.k c=>some (.k c)
 |.agg cs=>match AV.vj m cs with
  |some ys=>some (.agg ys)
  |none=>none
 |.eE cs=>match AV.vj m cs with
  |some ys=>some (.eE ys)
  |none=>none
 |.ptr b off=>match m b with
  |some j=>some (.ptr j off)
  |none=>none
 |.rp b sz i q=>match m b with
  |some j=>some (.rp j sz i q)
  |none=>none
 |.ep ds=>some (.ep ds)
 |.ow b sz n=>match m b with
  |some j=>some (.ow j sz n)
  |none=>none
 |.vw b sz off n c ex=>match m b with
  |some j=>some (.vw j sz off n c ex)
  |none=>none
 |.cl es=>some (.cl es)
 |.zG b=>match m b with
  |some j=>some (.zG j)
  |none=>none
 |.fn f cs=>match AV.vj m cs with
  |some ys=>some (.fn f ys)
  |none=>none
 |.sI t x=>match AV.iy m x with
  |some y=>some (.sI t y)
  |none=>none
 |.cond p x=>match AV.iy m x with
  |some y=>some (.cond p y)
  |none=>none
def AV.vj (m:Nat→Option Nat):List AV→Option (List AV)
 |[]=>some []
 |x::xs=>match AV.iy m x,AV.vj m xs with
  |some y,some ys=>some (y::ys)
  |_,_=>none
end
mutual
def AV.refs:AV→List Nat
 |.ptr b _=>[b]
 |.rp b _ _ _=>[b]
 |.ow b _ _=>[b]
 |.vw b _ _ _ _ _=>[b]
 |.zG b=>[b]
 |.agg cs=>AV.AI cs
 |.eE cs=>AV.AI cs
 |.fn _ cs=>AV.AI cs
 |.sI _ x=>AV.refs x
 |.cond _ x=>AV.refs x
 |_=>[]
def AV.AI:List AV→List Nat
 |[]=>[]
 |x::xs=>AV.refs x++AV.AI xs
end
def UR (b:Nat):List Nat→Bool
 |[]=>false
 |x::r=>bif Nat.beq b x then true else UR b r
def dK (b:Nat):List Nat→Nat→Option Nat
 |[],_=>none
 |x::r,i=>bif Nat.beq b x then some i else dK b r (i+1)
def reach (bx:List az):Nat→List Nat→List Nat→List Nat
 |0,_,acc=>acc
 |_+1,[],acc=>acc
 |n+1,b::todo,acc=>bif UR b acc then reach bx n todo acc else
  reach bx n (todo++(match bx[b]? with|some (.var cs)=>AV.AI cs|_=>[])) (acc++[b])
def az.iy (m:Nat→Option Nat):az→Option az
 |.var cs=>match AV.vj m cs with
  |some ys=>some (.var ys)
  |none=>none
 |b=>some b
def fJ (m:Nat→Option Nat) (bx:List az):List Nat→Option (List az)
 |[]=>some []
 |i::r=>match bx[i]? with
  |some b=>match az.iy m b,fJ m bx r with
   |some b',some bs=>some (b'::bs)
   |_,_=>none
  |none=>none
def GB (m:Nat→Option Nat) (sl:List (Nat×AV)):List Nat→Option (List (Nat×AV))
 |[]=>some []
 |i::r=>match AV.iy m (gr i sl),GB m sl r with
  |some y,some ys=>some ((i,y)::ys)
  |_,_=>none
def Ej (bY:List Nat):Nat→List Nat→Bool
 |_,[]=>true
 |i,b::r=>(match dK b bY 0 with|some j=>Nat.beq i j|none=>false)&&Ej bY (i+1) r
def upTo:Nat→List Nat
 |0=>[]
 |n+1=>upTo n++[n]
def PY (K:Nat) (ks:List Nat) (s:St):Option St:=
 match reach s.bx 99 (upTo K++AV.AI (ks.map fun i=>gr i s.sl)) [] with
 |bY=>bif Ej bY 0 bY&&Ej bY 0 (upTo K) then
  match fJ (fun b=>dK b bY 0) s.bx bY,GB (fun b=>dK b bY 0) s.sl ks with
  |some bx,some sl=>some ⟨sl,bx⟩
  |_,_=>none
  else none
structure Nf where
 ks:List Nat
 os:List (Nat×Nat):=[]
 ob:List (Nat×Nat×Nat):=[]
def Jz (s:St):List (Nat×Nat)→St
 |[]=>s
 |(i,sz)::r=>match gr i s.sl with
  |.cl []=>bif Nat.beq sz 0 then Jz ⟨put i (.d (.sl [])) s.sl,s.bx⟩ r else Jz ⟨put i (.ow s.bx.length sz 0) s.sl,s.bx++[.row sz []]⟩ r
  |_=>Jz s r
def GC (s:St):List (Nat×Nat×Nat)→St
 |[]=>s
 |(b,c,sz)::r=>match s.bx[b]? with
  |some (.var cs)=>match cs[c]? with
   |some (.cl [])=>bif Nat.beq sz 0 then GC ⟨s.sl,s.bx.set b (.var (cs.set c (.d (.sl []))))⟩ r
    else GC ⟨s.sl,(s.bx++[az.row sz []]).set b (.var (cs.set c (.ow s.bx.length sz 0)))⟩ r
   |_=>GC s r
  |_=>GC s r
def yc (K:Nat) (nf:Nf) (s:St):Option St:=PY K nf.ks (GC (Jz s nf.os) nf.ob)
section
variable {G:Nat→Option (List D)} {N:Nat} {ds:List Deferred} {β β':Nat→Nat} {bx aR:List az} {w:World} {X:Nat→Prop}
structure tP (K:Nat) (β:Nat→Nat) (bx:List az) (β':Nat→Nat) (aR:List az):Prop where
 born:∀i,i<K→cg bx i→β' i=β i∧cg aR i
 live:∀i b,aR[i]?=some b→b.live=true→∃j b',bx[j]?=some b'∧b'.live=true∧β j=β' i
theorem tP.refl (K:Nat) (β:Nat→Nat) (bx:List az):tP K β bx β bx:=⟨fun _ _ h=>⟨rfl,h⟩,fun i b h1 h2=>⟨i,b,h1,h2,rfl⟩⟩
theorem tP.trans {K:Nat} {β'':Nat→Nat} {OV:List az} (h:tP K β bx β' aR) (g:tP K β' aR β'' OV):tP K β bx β'' OV:=by
 refine ⟨?_,?_⟩
 ·intro i hi hb
  obtain ⟨h1,h2⟩:=h.born i hi hb
  obtain ⟨h3,h4⟩:=g.born i hi h2
  exact ⟨h3.trans h1,h4⟩
 intro i b h1 h2
 obtain ⟨j,b',h3,h4,h5⟩:=g.live i b h1 h2
 obtain ⟨k,b'',h6,h7,h8⟩:=h.live j b' h3 h4
 exact ⟨k,b'',h6,h7,h8.trans h5⟩
theorem Ext.AJ {K:Nat} {β0:Nat→Nat} {aF:List az} {w0:World} (ex:Ext β0 aF w0 β bx w) (hK:aF.length≤K) (h:tP K β bx β' aR):Ext β0 aF w0 β' aR w:=by
 refine ⟨ex.os,ex.tape,ex.output,ex.size,ex.block,ex.shape,?_,?_⟩
 ·intro i hi
  obtain ⟨h1,h2⟩:=ex.born i hi
  obtain ⟨b,hb,_⟩:=hi
  obtain ⟨h3,h4⟩:=h.born i (Nat.lt_of_lt_of_le (jv hb) hK) h2
  exact ⟨h3.trans h1,h4⟩
 intro i b h1 h2
 obtain ⟨j,b',h3,h4,h5⟩:=h.live i b h1 h2
 rw [←h5]
 exact ex.live j b' h3 h4
theorem tQ {b:Nat}:∀{l:List Nat} {i j:Nat},dK b l i=some j→i≤j∧l[j-i]?=some b
 |[],_,_,h=>by simp [dK] at h
 |x::r,i,j,h=>by
  simp only [dK] at h
  cases hb:Nat.beq b x with
  |true=>
   simp only [hb,cond_true,osI] at h
   subst h
   have:=Nat.eq_of_beq_eq_true hb
   subst this
   simp
  |false=>
   simp only [hb,cond_false] at h
   obtain ⟨h1,h2⟩:=tQ h
   refine ⟨by omega,?_⟩
   rw [show j-i=(j-(i+1))+1 by omega,List.getElem?_cons_succ]
   exact h2
theorem so {bY:List Nat}:∀{l:List Nat} {i k b:Nat},Ej bY i l=true→l[k]?=some b→dK b bY 0=some (i+k)
 |[],_,_,_,_,h=>by simp at h
 |x::r,i,k,b,h,hk=>by
  simp only [Ej,Bool.and_eq_true] at h
  cases k with
  |zero=>
   simp only [List.getElem?_cons_zero,osI] at hk
   subst hk
   obtain ⟨h1,_⟩:=h
   split at h1
   ·rename_i j hj
    rw [hj,←Nat.eq_of_beq_eq_true h1];rfl
   simp at h1
  |succ k=>
   rw [List.getElem?_cons_succ] at hk
   have:=so h.2 hk
   rw [this];congr 1;omega
theorem GD:∀{n i:Nat},i<n→(upTo n)[i]?=some i
 |n+1,i,h=>by
  have hl:(upTo n).length=n:=by
   clear h;induction n with
   |zero=>rfl
   |succ m ih=>simp [upTo,ih]
  simp only [upTo]
  by_cases hi:i<n
  ·rw [List.getElem?_append_left (by omega)];exact GD hi
  have:i=n:=by omega
  subst this
  rw [List.getElem?_append_right (by omega)];simp [hl]
mutual
theorem sq {m:Nat→Option Nat} {ok ok':Nat→Prop} (hm:∀b j,m b=some j→β' j=β b∧(cg bx b→cg aR j)) (hok:∀blk,ok blk→ok' blk):
 ∀(x y:AV) (v:Value),x.iy m=some y→aj β bx w ok x v→aj β' aR w ok' y v
 |.any,y,v,h,_=>by simp only [AV.iy,osI] at h;subst h;simp [aj]
 |.d x,y,v,h,hv=>by
  simp only [AV.iy,osI] at h;subst h;simp only [aj] at hv ⊢
  exact aK.mono (fun blk hb=>⟨hok blk hb,rfl⟩) _ _ hv
 |.k c,y,v,h,hv=>by simp only [AV.iy,osI] at h;subst h;simpa [aj] using hv
 |.agg cs,y,v,h,hv=>by
  simp only [AV.iy] at h
  split at h
  ·rename_i ys hys
   simp only [osI] at h;subst h
   simp only [aj] at hv ⊢;obtain ⟨vs,h1,h2⟩:=hv
   exact ⟨vs,h1,kL hm hok cs ys vs hys h2⟩
  simp at h
 |.eE cs,y,v,h,hv=>by
  simp only [AV.iy] at h
  split at h
  ·rename_i ys hys
   simp only [osI] at h;subst h
   simp only [aj] at hv ⊢;obtain ⟨vs,h1,h2⟩:=hv
   exact ⟨vs,h1,kL hm hok cs ys vs hys h2⟩
  simp at h
 |.ptr b off,y,v,h,hv=>by
  simp only [AV.iy] at h
  split at h
  ·rename_i j hj
   simp only [osI] at h;subst h
   obtain ⟨e,hb⟩:=hm b j hj
   simp only [aj] at hv ⊢
   rw [e];exact ⟨hv.1,hb hv.2⟩
  simp at h
 |.rp b sz i q,y,v,h,hv=>by
  simp only [AV.iy] at h
  split at h
  ·rename_i j hj
   simp only [osI] at h;subst h
   obtain ⟨e,hb⟩:=hm b j hj
   simp only [aj] at hv ⊢
   rw [e];exact ⟨hv.1,hb hv.2⟩
  simp at h
 |.zG b,y,v,h,hv=>by
  simp only [AV.iy] at h
  split at h
  ·rename_i j hj
   simp only [osI] at h;subst h
   obtain ⟨e,hb⟩:=hm b j hj
   simp only [aj] at hv ⊢
   rw [e];exact ⟨hv.1,hb hv.2⟩
  simp at h
 |.ep ds,y,v,h,hv=>by
  simp only [AV.iy,osI] at h;subst h
  simp only [aj] at hv ⊢;obtain ⟨blk,off,h1,h2,h3⟩:=hv
  exact ⟨blk,off,h1,hok blk h2,bf.mono (fun blk hb=>⟨hok blk hb,rfl⟩) blk (fun _=>rfl) _ _ h3⟩
 |.ow b sz n,y,v,h,hv=>by
  simp only [AV.iy] at h
  split at h
  ·rename_i j hj
   simp only [osI] at h;subst h
   obtain ⟨e,hb⟩:=hm b j hj
   simp only [aj] at hv ⊢
   rw [e];exact ⟨hb hv.1,hv.2⟩
  simp at h
 |.vw b sz off n c ex,y,v,h,hv=>by
  simp only [AV.iy] at h
  split at h
  ·rename_i j hj
   simp only [osI] at h;subst h
   obtain ⟨e,hb⟩:=hm b j hj
   simp only [aj] at hv ⊢
   rw [e];exact ⟨hb hv.1,hv.2⟩
  simp at h
 |.cl es,y,v,h,hv=>by
  simp only [AV.iy,osI] at h;subst h
  simp only [aj] at hv ⊢;obtain ⟨base,h1,h2⟩:=hv
  refine ⟨base,h1,h2.imp id ?_⟩
  rintro ⟨blk,off,sz,e1,e2,e3⟩
  exact ⟨blk,off,sz,e1,hok blk e2,ax.mono (fun blk hb=>⟨hok blk hb,rfl⟩) blk sz (fun _=>rfl) _ _ e3⟩
 |.fn f cs,y,v,h,hv=>by
  simp only [AV.iy] at h
  split at h
  ·rename_i ys hys
   simp only [osI] at h;subst h
   simp only [aj] at hv ⊢;obtain ⟨vs,h1,h2⟩:=hv
   exact ⟨vs,h1,kL hm hok cs ys vs hys h2⟩
  simp at h
 |.sI t x,y,v,h,hv=>by
  simp only [AV.iy] at h
  split at h
  ·rename_i z hz
   simp only [osI] at h;subst h
   simp only [aj] at hv ⊢;obtain ⟨u,h1,h2⟩:=hv
   exact ⟨u,h1,sq hm hok x z u hz h2⟩
  simp at h
 |.cond p x,y,v,h,hv=>by
  simp only [AV.iy] at h
  split at h
  ·rename_i z hz
   simp only [osI] at h;subst h
   simp only [aj] at hv ⊢
   exact ⟨fun hp=>sq hm hok x z v hz (hv.1 hp),hv.2⟩
  simp at h
theorem kL {m:Nat→Option Nat} {ok ok':Nat→Prop} (hm:∀b j,m b=some j→β' j=β b∧(cg bx b→cg aR j)) (hok:∀blk,ok blk→ok' blk):
 ∀(xs ys:List AV) (vs:List Value),AV.vj m xs=some ys→ak β bx w ok xs vs→ak β' aR w ok' ys vs
 |[],ys,vs,h,hv=>by simp only [AV.vj,osI] at h;subst h;simpa [ak] using hv
 |x::xs,ys,vs,h,hv=>by
  simp only [AV.vj] at h
  split at h
  ·rename_i y ys' h1 h2
   simp only [osI] at h;subst h
   simp only [ak] at hv ⊢
   obtain ⟨u,us,k1,k2,k3⟩:=hv
   exact ⟨u,us,k1,sq hm hok x y u h1 k2,kL hm hok xs ys' us h2 k3⟩
  simp at h
end
theorem jB {m:Nat→Option Nat}:∀{bY:List Nat} {bs:List az},fJ m bx bY=some bs→∀(k:Nat) (b':az),bs[k]?=some b'→∃(i:Nat) (b:az),bY[k]?=some i∧bx[i]?=some b∧az.iy m b=some b'
 |[],bs,h,k,b',hk=>by simp only [fJ,osI] at h;subst h;simp at hk
 |i::r,bs,h,k,b',hk=>by
  simp only [fJ] at h
  split at h
  ·rename_i b hb
   split at h
   ·rename_i b1 bs1 h1 h2
    simp only [osI] at h;subst h
    cases k with
    |zero=>simp only [List.getElem?_cons_zero,osI] at hk;subst hk;exact ⟨i,b,rfl,hb,h1⟩
    |succ k=>simp only [List.getElem?_cons_succ] at hk ⊢;exact jB h2 k b' hk
   simp at h
  simp at h
theorem mV {m:Nat→Option Nat}:∀{bY:List Nat} {bs:List az},fJ m bx bY=some bs→∀(k i:Nat),bY[k]?=some i→∃(b b':az),bx[i]?=some b∧az.iy m b=some b'∧bs[k]?=some b'
 |[],bs,h,k,i,hk=>by simp at hk
 |i0::r,bs,h,k,i,hk=>by
  simp only [fJ] at h
  split at h
  ·rename_i b hb
   split at h
   ·rename_i b1 bs1 h1 h2
    simp only [osI] at h;subst h
    cases k with
    |zero=>simp only [List.getElem?_cons_zero,osI] at hk;subst hk;exact ⟨b,b1,hb,h1,rfl⟩
    |succ k=>simp only [List.getElem?_cons_succ] at hk ⊢;exact mV h2 k i hk
   simp at h
  simp at h
theorem az.gk {m:Nat→Option Nat} {b b':az} (h:az.iy m b=some b'):b'.born=b.born∧b'.live=b.live:=by
 unfold az.iy at h
 split at h
 ·split at h
  ·simp only [osI] at h;subst h;exact ⟨rfl,rfl⟩
  simp at h
 simp only [osI] at h;subst h;exact ⟨rfl,rfl⟩
theorem C1 {m:Nat→Option Nat} {sl:List (Nat×AV)}:∀{ks:List Nat} {sM:List (Nat×AV)},GB m sl ks=some sM→∀t,gr t sM=.any∨AV.iy m (gr t sl)=some (gr t sM)
 |[],sM,h,t=>by simp only [GB,osI] at h;subst h;exact .inl rfl
 |i::r,sM,h,t=>by
  simp only [GB] at h
  split at h
  ·rename_i y ys h1 h2
   simp only [osI] at h;subst h
   simp only [gr]
   cases hb:Nat.beq t i with
   |true=>have:=Nat.eq_of_beq_eq_true hb;subst this;exact .inr h1
   |false=>simp only [cond_false];exact C1 h2 t
  simp at h
theorem GF {K:Nat} {ks:List Nat} {s s':St} {a:Act} (h:PY K ks s=some s') (hF:Fr G N ds β w X s a):
 ∃β',tP K β s.bx β' s'.bx∧Fr G N ds β' w X s' a:=by
 unfold PY at h
 generalize reach s.bx 99 (upTo K++AV.AI (ks.map fun i=>gr i s.sl)) []=bY at h
 simp only at h
 cases h1:Ej bY 0 bY with
 |false=>simp [h1] at h
 |true=>
 cases h2:Ej bY 0 (upTo K) with
 |false=>simp [h1,h2] at h
 |true=>
 simp only [h1,h2,Bool.and_self,cond_true] at h
 split at h
 ·rename_i bs sl hbs W6
  simp only [osI] at h
  subst h
  have vn:∀k i,bY[k]?=some i→dK i bY 0=some k:=fun k i hk=>by have:=so h1 hk;simpa using this
  have hidx:∀b j,dK b bY 0=some j→bY[j]?=some b:=fun b j hj=>by have:=(tQ hj).2;simpa using this
  let β':Nat→Nat:=fun j=>match bY[j]? with|some i=>β i|none=>0
  have hβ:∀k i,bY[k]?=some i→β' k=β i:=fun k i hk=>by simp [β',hk]
  have hm:∀b j,dK b bY 0=some j→β' j=β b∧(cg s.bx b→cg bs j):=by
   intro b j hj
   have hs:=hidx b j hj
   refine ⟨hβ j b hs,?_⟩
   rintro ⟨B,hB,dF⟩
   obtain ⟨b1,b2,k1,k2,k3⟩:=mV hbs j b hs
   rw [hB] at k1;cases k1
   exact ⟨b2,k3,(az.gk k2).1.trans dF⟩
  have cA:∀(i:Nat) (b:az),bs[i]?=some b→b.live=true→∃(j:Nat) (b':az),s.bx[j]?=some b'∧b'.live=true∧β j=β' i∧bY[i]?=some j:=by
   intro i b hi hl
   obtain ⟨j,b',k1,k2,k3⟩:=jB hbs i b hi
   exact ⟨j,b',k2,(az.gk k3).2▸hl,(hβ i j k1).symm,k1⟩
  have hok:∀blk,bt β s.bx w X blk→bt β' bs w X blk:=by
   rintro blk ⟨k1,k2,k3⟩
   refine ⟨k1,k2,?_⟩
   intro i b hi hl
   obtain ⟨j,b',h3,h4,h5,_⟩:=cA i b hi hl
   rw [←h5];exact k3 j b' h3 h4
  have hkeep:iZ w w (bt β s.bx w X) (bt β' bs w X):=fun blk hb=>⟨hok blk hb,rfl⟩
  refine ⟨β',⟨?_,?_⟩,⟨?_,hF.defers,hF.size,?_⟩⟩
  ·intro i hi hb
   have:=so h2 (GD hi)
   simp only [Nat.zero_add] at this
   obtain ⟨k1,k2⟩:=hm i i this
   exact ⟨k1,k2 hb⟩
  ·intro i b hi hl
   obtain ⟨j,b',h3,h4,h5,_⟩:=cA i b hi hl
   exact ⟨j,b',h3,h4,h5⟩
  ·refine ⟨hF.cx.xs,?_,?_,?_,?_⟩
   ·intro g ds hg
    obtain ⟨k1,k2⟩:=hF.cx.yU g ds hg
    exact ⟨hok g k1,bf.mono hkeep g (fun _=>rfl) _ _ k2⟩
   ·intro i j bi bj hi hj mH oM he
    obtain ⟨i',bi',a1,a2,a3,a4⟩:=cA i bi hi mH
    obtain ⟨j',bj',c1,c2,c3,c4⟩:=cA j bj hj oM
    have:i'=j':=hF.cx.inj i' j' bi' bj' a1 c1 a2 c2 (a3.trans (he.trans c3.symm))
    subst this
    have e1:=vn i i' a4
    have e2:=vn j i' c4
    rw [e1] at e2;exact Option.some.inj e2
   ·intro i b hi
    obtain ⟨j,b',k1,k2,k3⟩:=jB hbs i b hi
    have hb:=hF.cx.box j b' k2
    rw [hβ i j k1]
    cases b' with
    |var cs=>
     simp only [az.iy] at k3
     split at k3
     ·rename_i ys hys
      simp only [osI] at k3;subst k3
      simp only [dj] at hb ⊢
      obtain ⟨c,e,g1,g2⟩:=hb
      exact ⟨c,e,g1,kL hm hok cs ys _ hys g2⟩
     simp at k3
    |row sz es=>
     simp only [az.iy,osI] at k3;subst k3
     refine hb.imp id ?_
     rintro ⟨c,e,g1,g2⟩
     exact ⟨c,e,g1,ax.mono hkeep _ _ (fun _=>rfl) _ _ g2⟩
    |nE sz es=>
     simp only [az.iy,osI] at k3;subst k3
     refine hb.imp id ?_
     rintro ⟨g1,g2⟩
     exact ⟨hok _ g1,ax.mono hkeep _ _ (fun _=>rfl) _ _ g2⟩
    |it s p=>simp only [az.iy,osI] at k3;subst k3;exact hb
    |mp ag es=>simp only [az.iy,osI] at k3;subst k3;obtain ⟨ms,clock,h1,h2,h3⟩:=hb;exact ⟨ms,clock,h1,h2,bp.mono hkeep _ _ _ h3⟩
    |dead=>simp only [az.iy,osI] at k3;subst k3;trivial
    |bB=>simp only [az.iy,osI] at k3;subst k3;trivial
   intro i b hi hl
   obtain ⟨j,b',h3,h4,h5,_⟩:=cA i b hi hl
   rw [←h5];exact hF.cx.apart j b' h3 h4
  intro t
  rcases C1 W6 t with h3|h3
  ·rw [h3];simp [aj]
  exact sq hm hok _ _ _ h3 (hF.zk t)
 simp at h
theorem GG (K:Nat) {sz:Nat} {s:St} {a:Act} (hF:Fr G N ds β w X s a):∃β',tP K β s.bx β' (s.bx++[.row sz []])∧Fr G N ds β' w X ⟨s.sl,s.bx++[.row sz []]⟩ a∧cg (s.bx++[.row sz []]) s.bx.length:=by
 have hinv:∀{i:Nat} {b:az},(s.bx++[az.row sz []])[i]?=some b→b.live=true→s.bx[i]?=some b:=by
  intro i b h hl
  rcases bD h with ⟨h1,_⟩|⟨h1,h2⟩
  ·exact h1
  subst h2;simp [az.live] at hl
 have hok:∀blk,bt β s.bx w X blk→bt β (s.bx++[.row sz []]) w X blk:=by
  rintro blk ⟨k1,k2,k3⟩
  exact ⟨k1,k2,fun i b hi hl=>k3 i b (hinv hi hl) hl⟩
 have dF:∀i,cg s.bx i→cg (s.bx++[.row sz []]) i:=by
  rintro i ⟨b,h1,h2⟩
  exact ⟨b,eJ h1,h2⟩
 have hkeep:iZ w w (bt β s.bx w X) (bt β (s.bx++[.row sz []]) w X):=fun blk hb=>⟨hok blk hb,rfl⟩
 have qE:sQ β s.bx w (bt β s.bx w X) β (s.bx++[.row sz []]) w (bt β (s.bx++[.row sz []]) w X):=by
  refine ⟨hkeep,?_,fun _ c _ _ h=>⟨c,h,rfl⟩⟩
  intro i hi
  exact ⟨rfl,dF i hi⟩
 refine ⟨β,⟨fun i _ hi=>⟨rfl,dF i hi⟩,fun i b hi hl=>⟨i,b,hinv hi hl,hl,rfl⟩⟩,⟨⟨hF.cx.xs,?_,?_,?_,?_⟩,hF.defers,hF.size,?_⟩,?_⟩
 ·intro g ds hg
  obtain ⟨k1,k2⟩:=hF.cx.yU g ds hg
  exact ⟨hok g k1,bf.mono hkeep g (fun _=>rfl) _ _ k2⟩
 ·intro i j bi bj hi hj mH oM he
  exact hF.cx.inj i j bi bj (hinv hi mH) (hinv hj oM) mH oM he
 ·intro i b hi
  rcases bD hi with ⟨h1,_⟩|⟨h1,h2⟩
  ·have h:=hF.cx.box i b h1
   cases b with
   |var cs=>
    obtain ⟨c,e,g1,g2⟩:=h
    exact ⟨c,e,g1,ak.mono qE _ _ g2⟩
   |row sz es=>
    refine h.imp id ?_
    rintro ⟨c,e,g1,g2⟩
    exact ⟨c,e,g1,ax.mono hkeep _ _ (fun _=>rfl) _ _ g2⟩
   |nE sz es=>
    refine h.imp id ?_
    rintro ⟨g1,g2⟩
    exact ⟨hok _ g1,ax.mono hkeep _ _ (fun _=>rfl) _ _ g2⟩
   |it s p=>exact h
   |mp ag es=>obtain ⟨ms,clock,h1,h2,h3⟩:=h;exact ⟨ms,clock,h1,h2,bp.mono hkeep _ _ _ h3⟩
   |dead=>trivial
   |bB=>trivial
  subst h2;exact .inl rfl
 ·intro i b hi hl
  exact hF.cx.apart i b (hinv hi hl) hl
 ·intro t;exact aj.mono qE _ _ (hF.zk t)
 exact ⟨.row sz [],by simp,rfl⟩
theorem US {ok:Nat→Prop} {n sz:Nat} {u:Value} (hb:cg bx n) (h:aj β bx w ok (.cl []) u):aj β bx w ok (.ow n sz 0) u:=by
 simp only [aj,List.length_nil] at h ⊢
 obtain ⟨base,h1,_⟩:=h
 exact ⟨hb,.inl ⟨trv,base,h1⟩⟩
theorem oV (K:Nat) {a:Act}:∀(l:List (Nat×Nat)) (s:St) (β:Nat→Nat),Fr G N ds β w X s a→∃β',tP K β s.bx β' (Jz s l).bx∧Fr G N ds β' w X (Jz s l) a
 |[],s,β,hF=>⟨β,tP.refl _ _ _,hF⟩
 |(i,sz)::r,s,β,hF=>by
  unfold Jz
  split
  ·rename_i hl
   cases hz:Nat.beq sz 0 with
   |true=>
    simp only [cond_true]
    refine oV K r ⟨put i (.d (.sl [])) s.sl,s.bx⟩ β ⟨hF.cx,hF.defers,hF.size,fun t=>?_⟩
    have h1:=hF.zk t
    simp only [oN]
    by_cases ht:t=i
    ·subst ht
     rw [if_pos rfl]
     rw [hl] at h1
     simp only [aj,aK] at h1 ⊢
     obtain ⟨base,h2,h3⟩:=h1
     exact ⟨base,_,h2,Nat.le_refl _,h3⟩
    rw [if_neg ht];exact h1
   |false=>
   simp only [cond_false]
   obtain ⟨β1,e1,IS,hb⟩:=GG (sz:=sz) K hF
   have Pz:Fr G N ds β1 w X ⟨put i (.ow s.bx.length sz 0) s.sl,s.bx++[.row sz []]⟩ a:=by
    refine ⟨IS.cx,IS.defers,IS.size,?_⟩
    intro t
    have h1:=IS.zk t
    simp only [oN]
    by_cases ht:t=i
    ·subst ht
     rw [if_pos rfl]
     have Lw:aj β1 (s.bx++[.row sz []]) w (bt β1 (s.bx++[.row sz []]) w X) (gr t s.sl) (a.tmps.getD t undef):=h1
     rw [hl] at Lw
     exact US hb Lw
    rw [if_neg ht];exact h1
   obtain ⟨β2,e2,VE⟩:=oV K r _ β1 Pz
   exact ⟨β2,e1.trans e2,VE⟩
  exact oV K r s β hF
theorem C2 {ok:Nat→Prop} {x y:AV} (hxy:∀u,aj β bx w ok x u→aj β bx w ok y u):∀(cs:List AV) (c:Nat) (vs:List Value),cs[c]?=some x→ak β bx w ok cs vs→ak β bx w ok (cs.set c y) vs
 |[],_,_,h,_=>by simp at h
 |z::cs,0,vs,h,hv=>by
  simp only [List.getElem?_cons_zero,osI] at h;subst h
  simp only [List.set_cons_zero,ak] at hv ⊢
  obtain ⟨u,us,h1,h2,h3⟩:=hv
  exact ⟨u,us,h1,hxy u h2,h3⟩
 |z::cs,c+1,vs,h,hv=>by
  simp only [List.getElem?_cons_succ] at h
  simp only [List.set_cons_succ,ak] at hv ⊢
  obtain ⟨u,us,h1,h2,h3⟩:=hv
  exact ⟨u,us,h1,h2,C2 hxy cs c us h h3⟩
theorem PZ {s:St} {a:Act} (hF:Fr G N ds β w X s a) {b c:Nat} {cs:List AV} {x y:AV} (hb:s.bx[b]?=some (.var cs)) (hc:cs[c]?=some x)
 (hxy:∀u,aj β s.bx w (bt β s.bx w X) x u→aj β s.bx w (bt β s.bx w X) y u) (K:Nat):
 tP K β s.bx β (s.bx.set b (.var (cs.set c y)))∧Fr G N ds β w X ⟨s.sl,s.bx.set b (.var (cs.set c y))⟩ a:=by
 have hinv:∀{i:Nat} {B:az},(s.bx.set b (.var (cs.set c y)))[i]?=some B→(i=b∧B=.var (cs.set c y))∨(i≠b∧s.bx[i]?=some B):=by
  intro i B h
  rcases aL h with ⟨h1,h2,_⟩|⟨h1,h2⟩
  ·exact .inl ⟨h1,h2⟩
  exact .inr ⟨h1,h2⟩
 have cA:∀{i:Nat} {B:az},(s.bx.set b (.var (cs.set c y)))[i]?=some B→B.live=true→∃B',s.bx[i]?=some B'∧B'.live=true:=by
  intro i B h hl
  rcases hinv h with ⟨rfl,rfl⟩|⟨_,h1⟩
  ·exact ⟨_,hb,rfl⟩
  exact ⟨B,h1,hl⟩
 have hok:∀blk,bt β s.bx w X blk→bt β (s.bx.set b (.var (cs.set c y))) w X blk:=by
  rintro blk ⟨k1,k2,k3⟩
  refine ⟨k1,k2,fun i B hi hl=>?_⟩
  obtain ⟨B',h1,h2⟩:=cA hi hl
  exact k3 i B' h1 h2
 have dF:∀i,cg s.bx i→cg (s.bx.set b (.var (cs.set c y))) i:=fun i hi=>iC rfl hi
 have hkeep:iZ w w (bt β s.bx w X) (bt β (s.bx.set b (.var (cs.set c y))) w X):=fun blk hb=>⟨hok blk hb,rfl⟩
 have qE:sQ β s.bx w (bt β s.bx w X) β (s.bx.set b (.var (cs.set c y))) w (bt β (s.bx.set b (.var (cs.set c y))) w X):=
  ⟨hkeep,fun i hi=>⟨rfl,dF i hi⟩,fun _ c _ _ h=>⟨c,h,rfl⟩⟩
 refine ⟨⟨fun i _ hi=>⟨rfl,dF i hi⟩,fun i B hi hl=>?_⟩,⟨⟨hF.cx.xs,?_,?_,?_,?_⟩,hF.defers,hF.size,?_⟩⟩
 ·obtain ⟨B',h1,h2⟩:=cA hi hl
  exact ⟨i,B',h1,h2,rfl⟩
 ·intro g ds hg
  obtain ⟨k1,k2⟩:=hF.cx.yU g ds hg
  exact ⟨hok g k1,bf.mono hkeep g (fun _=>rfl) _ _ k2⟩
 ·intro i j bi bj hi hj mH oM he
  obtain ⟨B1,h1,h2⟩:=cA hi mH
  obtain ⟨B2,h3,h4⟩:=cA hj oM
  exact hF.cx.inj i j B1 B2 h1 h3 h2 h4 he
 ·intro i B hi
  rcases hinv hi with ⟨rfl,rfl⟩|⟨_,h1⟩
  ·have h:=hF.cx.box _ _ hb
   simp only [dj] at h ⊢
   obtain ⟨cc,e,g1,g2⟩:=h
   exact ⟨cc,e,g1,ak.mono qE _ _ (C2 hxy cs c _ hc g2)⟩
  have h:=hF.cx.box i B h1
  cases B with
  |var cs=>
   obtain ⟨c,e,g1,g2⟩:=h
   exact ⟨c,e,g1,ak.mono qE _ _ g2⟩
  |row sz es=>
   refine h.imp id ?_
   rintro ⟨c,e,g1,g2⟩
   exact ⟨c,e,g1,ax.mono hkeep _ _ (fun _=>rfl) _ _ g2⟩
  |nE sz es=>
   refine h.imp id ?_
   rintro ⟨g1,g2⟩
   exact ⟨hok _ g1,ax.mono hkeep _ _ (fun _=>rfl) _ _ g2⟩
  |it s p=>exact h
  |mp ag es=>obtain ⟨ms,clock,h1,h2,h3⟩:=h;exact ⟨ms,clock,h1,h2,bp.mono hkeep _ _ _ h3⟩
  |dead=>trivial
  |bB=>trivial
 ·intro i B hi hl
  obtain ⟨B',h1,h2⟩:=cA hi hl
  exact hF.cx.apart i B' h1 h2
 intro t;exact aj.mono qE _ _ (hF.zk t)
theorem mg (K:Nat) {a:Act}:∀(l:List (Nat×Nat×Nat)) (s:St) (β:Nat→Nat),Fr G N ds β w X s a→∃β',tP K β s.bx β' (GC s l).bx∧Fr G N ds β' w X (GC s l) a
 |[],s,β,hF=>⟨β,tP.refl _ _ _,hF⟩
 |(b,c,sz)::r,s,β,hF=>by
  unfold GC
  split
  ·rename_i cs hb
   split
   ·rename_i hc
    cases hz:Nat.beq sz 0 with
    |true=>
     simp only [cond_true]
     obtain ⟨e2,Pz⟩:=PZ hF (b:=b) hb hc (y:=.d (.sl [])) (fun u hu=>by
      simp only [aj,aK] at hu ⊢
      obtain ⟨base,h1,h2⟩:=hu
      exact ⟨base,_,h1,Nat.le_refl _,h2⟩) K
     obtain ⟨β2,e3,VE⟩:=mg K r _ β Pz
     exact ⟨β2,e2.trans e3,VE⟩
    |false=>
    simp only [cond_false]
    obtain ⟨β1,e1,IS,D3⟩:=GG (sz:=sz) K hF
    have xQ:(s.bx++[az.row sz []])[b]?=some (.var cs):=eJ hb
    obtain ⟨e2,Pz⟩:=PZ (s:=⟨s.sl,s.bx++[.row sz []]⟩) IS (b:=b) xQ hc (y:=.ow s.bx.length sz 0) (fun u hu=>US D3 hu) K
    obtain ⟨β2,e3,VE⟩:=mg K r _ β1 Pz
    exact ⟨β2,(e1.trans e2).trans e3,VE⟩
   exact mg K r s β hF
  exact mg K r s β hF
theorem ye {K:Nat} {nf:Nf} {s s':St} {a:Act} (h:yc K nf s=some s') (hF:Fr G N ds β w X s a):∃β',tP K β s.bx β' s'.bx∧Fr G N ds β' w X s' a:=by
 unfold yc at h
 obtain ⟨β1,e1,IS⟩:=oV K nf.os s β hF
 obtain ⟨β2,e2,Pz⟩:=mg K nf.ob _ β1 IS
 obtain ⟨β3,e3,VE⟩:=GF h Pz
 exact ⟨β3,(e1.trans e2).trans e3,VE⟩
end
structure LoopIn (o:Option St) (P:St→Prop):Prop where
 ok:match o with
  |some s=>P s
  |none=>False
structure UT (K:Nat) (A:(Ex→St→Prop)→St→Prop) (Q:Ex→St→Prop) (s:St):Prop where
 ok:∃(nf:Nf) (I:Nat→St→Prop) (n:Nat),LoopIn (yc K nf s) (I n)∧∀n s1,I n s1→A (fun e s2=>uC (fun s2=>LoopIn (yc K nf s2) (fun s3=>∃m,m<n∧I m s3)) Q e s2) s1
mutual
def AV.Co (b:Nat) (x:D):AV→AV
 |.zG c=>bif Nat.beq c b then .d x else .zG c
 |.agg cs=>.agg (AV.GH b x cs)
 |.eE cs=>.eE (AV.GH b x cs)
 |.fn f cs=>.fn f (AV.GH b x cs)
 |.sI t y=>.sI t (AV.Co b x y)
 |.cond p y=>.cond p (AV.Co b x y)
 |v=>v
def AV.GH (b:Nat) (x:D):List AV→List AV
 |[]=>[]
 |y::ys=>AV.Co b x y::AV.GH b x ys
end
def az.Co (b:Nat) (x:D):az→az
 |.var cs=>.var (AV.GH b x cs)
 |B=>B
def wD (b:Nat) (x:D):List (Nat×AV)→List (Nat×AV)
 |[]=>[]
 |(i,v)::r=>(i,AV.Co b x v)::wD b x r
def wE (b:Nat) (x:D):List az→Nat→List az
 |[],_=>[]
 |B::r,i=>(bif Nat.beq i b then .dead else az.Co b x B)::wE b x r (i+1)
def jC (b:Nat) (x:D) (s:St):St:=⟨wD b x s.sl,wE b x s.bx 0⟩
def P0:List az→Bool
 |[]=>false
 |.mp _ _::_=>true
 |_::r=>P0 r
structure XU (s:St) (A:St→Prop):Prop where
 ok:A s∨∃b ag es,s.bx[b]?=some (.mp ag es)∧A (jC b (.mp ag es) s)
section
variable {P:Program} {T:Nat→Option TI} {G:Nat→Option (List D)} {N:Nat} {ds:List Deferred} {β:Nat→Nat} {w:World} {X:Nat→Prop} {s:St}
theorem oW (b:Nat) (x:D):∀(l:List az) (k i:Nat),(wE b x l k)[i]?=(l[i]?).map fun B=>bif Nat.beq (k+i) b then .dead else az.Co b x B
 |[],_,_=>by simp [wE]
 |B::r,k,0=>by simp [wE]
 |B::r,k,i+1=>by simp only [wE,List.getElem?_cons_succ];rw [oW b x r (k+1) i,show k+1+i=k+(i+1) by omega]
theorem GI (b:Nat) (x:D) (B:az):(az.Co b x B).live=B.live∧(az.Co b x B).born=B.born:=by cases B<;>simp [az.Co,az.live,az.born]
theorem GJ (b:Nat) (x:D) (t:Nat):∀sl:List (Nat×AV),gr t (wD b x sl)=AV.Co b x (gr t sl)
 |[]=>by simp [wD,gr,AV.Co]
 |(u,v)::r=>by
  simp only [wD,gr]
  cases Nat.beq t u with
  |true=>rfl
  |false=>simpa using GJ b x t r
mutual
theorem zo {bx aR:List az} {ok ok':Nat→Prop} {b:Nat} {x:D} (hl:sQ β bx w ok β aR w ok') (hb:∀v,v=.map (some (β b))→aK w ok' x v):∀(y:AV) (v:Value),aj β bx w ok y v→aj β aR w ok' (AV.Co b x y) v
 |.zG c,v,h=>by
  unfold AV.Co
  cases hc:Nat.beq c b with
  |true=>
   obtain rfl:=Nat.eq_of_beq_eq_true hc
   simp only [cond_true,aj] at h ⊢
   exact hb v h.1
  |false=>simpa using aj.mono hl _ _ h
 |.agg cs,v,h=>by simp only [AV.Co,aj] at h ⊢;obtain ⟨vs,h1,h2⟩:=h;exact ⟨vs,h1,qP hl hb cs vs h2⟩
 |.eE cs,v,h=>by simp only [AV.Co,aj] at h ⊢;obtain ⟨vs,h1,h2⟩:=h;exact ⟨vs,h1,qP hl hb cs vs h2⟩
 |.fn f cs,v,h=>by simp only [AV.Co,aj] at h ⊢;obtain ⟨vs,h1,h2⟩:=h;exact ⟨vs,h1,qP hl hb cs vs h2⟩
 |.sI t y,v,h=>by simp only [AV.Co,aj] at h ⊢;obtain ⟨u,h1,h2⟩:=h;exact ⟨u,h1,zo hl hb y u h2⟩
 |.cond p y,v,h=>by simp only [AV.Co,aj] at h ⊢;exact ⟨fun hp=>zo hl hb y v (h.1 hp),h.2⟩
 |.any,v,h=>aj.mono hl _ _ h
 |.d _,v,h=>aj.mono hl _ _ h
 |.k _,v,h=>aj.mono hl _ _ h
 |.ptr _ _,v,h=>aj.mono hl _ _ h
 |.rp _ _ _ _,v,h=>aj.mono hl _ _ h
 |.ep _,v,h=>aj.mono hl _ _ h
 |.ow _ _ _,v,h=>aj.mono hl _ _ h
 |.cl _,v,h=>aj.mono hl _ _ h
 |.vw _ _ _ _ _ _,v,h=>aj.mono hl _ _ h
theorem qP {bx aR:List az} {ok ok':Nat→Prop} {b:Nat} {x:D} (hl:sQ β bx w ok β aR w ok') (hb:∀v,v=.map (some (β b))→aK w ok' x v):∀(ys:List AV) (vs:List Value),ak β bx w ok ys vs→ak β aR w ok' (AV.GH b x ys) vs
 |[],vs,h=>by simpa [AV.GH,ak] using h
 |y::ys,vs,h=>by
  simp only [AV.GH,ak] at h ⊢
  obtain ⟨u,us,h1,h2,h3⟩:=h
  exact ⟨u,us,h1,zo hl hb y u h2,qP hl hb ys us h3⟩
end
theorem S3 {a:Act} (hF:Fr G N ds β w X s a) {b:Nat} {ag:Bool} {es:List (List D)} (hb:s.bx[b]?=some (.mp ag es)):
 Ext β s.bx w β (jC b (.mp ag es) s).bx w∧Fr G N ds β w X (jC b (.mp ag es) s) a:=by
 have wq:∀{i:Nat} {B:az},(jC b (.mp ag es) s).bx[i]?=some B→(i=b∧B=.dead)∨(i≠b∧∃B',s.bx[i]?=some B'∧B=az.Co b (.mp ag es) B'):=by
  intro i B h
  simp only [jC,oW,Nat.zero_add,Option.map_eq_some_iff] at h
  obtain ⟨B',h1,h2⟩:=h
  cases hi:Nat.beq i b with
  |true=>simp only [hi,cond_true] at h2;exact .inl ⟨Nat.eq_of_beq_eq_true hi,h2.symm⟩
  |false=>simp only [hi,cond_false] at h2;exact .inr ⟨Nat.ne_of_beq_eq_false hi,B',h1,h2.symm⟩
 have cA:∀{i:Nat} {B:az},(jC b (.mp ag es) s).bx[i]?=some B→B.live=true→i≠b∧∃B',s.bx[i]?=some B'∧B'.live=true:=by
  intro i B h hl
  rcases wq h with ⟨_,rfl⟩|⟨h1,B',h2,rfl⟩
  ·cases hl
  exact ⟨h1,B',h2,(GI _ _ _).1▸hl⟩
 have dF:∀i,cg s.bx i→cg (jC b (.mp ag es) s).bx i:=by
  rintro i ⟨B,h1,h2⟩
  cases hi:Nat.beq i b with
  |true=>exact ⟨.dead,by simp [jC,oW,h1,hi],rfl⟩
  |false=>exact ⟨az.Co b (.mp ag es) B,by simp [jC,oW,h1,hi],(GI _ _ _).2.trans h2⟩
 have hok:∀blk,bt β s.bx w X blk→bt β (jC b (.mp ag es) s).bx w X blk:=by
  rintro blk ⟨k1,k2,k3⟩
  refine ⟨k1,k2,fun i B hi hl=>?_⟩
  obtain ⟨_,B',h1,h2⟩:=cA hi hl
  exact k3 i B' h1 h2
 have hkeep:iZ w w (bt β s.bx w X) (bt β (jC b (.mp ag es) s).bx w X):=fun blk hb=>⟨hok blk hb,rfl⟩
 have qE:sQ β s.bx w (bt β s.bx w X) β (jC b (.mp ag es) s).bx w (bt β (jC b (.mp ag es) s).bx w X):=⟨hkeep,fun i hi=>⟨rfl,dF i hi⟩,fun _ c _ _ h=>⟨c,h,rfl⟩⟩
 have FJ:=hF.cx.box b _ hb
 have hmp:∀v,v=.map (some (β b))→aK w (bt β (jC b (.mp ag es) s).bx w X) (.mp ag es) v:=by
  rintro v rfl
  obtain ⟨ms,clock,h1,h2,h3⟩:=FJ
  simp only [aK]
  refine ⟨β b,ms,clock,rfl,⟨eT h1,hF.cx.apart b _ hb rfl,?_⟩,h1,h2,bp.mono hkeep _ _ _ h3⟩
  intro i B hi hl he
  obtain ⟨g1,B',g2,g3⟩:=cA hi hl
  exact g1 (hF.cx.inj i b B' _ g2 hb g3 rfl he)
 refine ⟨⟨rfl,rfl,rfl,Nat.le_refl _,fun _ _ _=>rfl,fun _ c _ _ h=>⟨c,h,rfl⟩,fun i hi=>⟨rfl,dF i hi⟩,?_⟩,⟨⟨hF.cx.xs,?_,?_,?_,?_⟩,hF.defers,hF.size,?_⟩⟩
 ·intro i B hi hl
  obtain ⟨_,B',g2,g3⟩:=cA hi hl
  exact .inr ⟨i,B',g2,g3,rfl⟩
 ·intro g ds hg
  obtain ⟨k1,k2⟩:=hF.cx.yU g ds hg
  exact ⟨hok g k1,bf.mono hkeep g (fun _=>rfl) _ _ k2⟩
 ·intro i j bi bj hi hj mH oM he
  obtain ⟨_,Bi,g2,g3⟩:=cA hi mH
  obtain ⟨_,Bj,g4,g5⟩:=cA hj oM
  exact hF.cx.inj i j Bi Bj g2 g4 g3 g5 he
 ·intro i B hi
  rcases wq hi with ⟨_,rfl⟩|⟨_,B',h2,rfl⟩
  ·trivial
  have h:=hF.cx.box i B' h2
  cases B' with
  |var cs=>
   obtain ⟨c,e,g1,g2⟩:=h
   exact ⟨c,e,g1,qP qE hmp _ _ g2⟩
  |row sz es=>
   refine h.imp id ?_
   rintro ⟨c,e,g1,g2⟩
   exact ⟨c,e,g1,ax.mono hkeep _ _ (fun _=>rfl) _ _ g2⟩
  |nE sz es=>
   refine h.imp id ?_
   rintro ⟨g1,g2⟩
   exact ⟨hok _ g1,ax.mono hkeep _ _ (fun _=>rfl) _ _ g2⟩
  |it s p=>exact h
  |mp ag es=>obtain ⟨ms,clock,h1,h2,h3⟩:=h;exact ⟨ms,clock,h1,h2,bp.mono hkeep _ _ _ h3⟩
  |dead=>trivial
  |bB=>trivial
 ·intro i B hi hl
  obtain ⟨_,B',g2,g3⟩:=cA hi hl
  exact hF.cx.apart i B' g2 g3
 intro t
 show aj β _ w _ (gr t (wD b (.mp ag es) s.sl)) _
 rw [GJ]
 exact zo qE hmp _ _ (hF.zk t)
end
section
variable (t:Th) (FC:Nat→List AV→List az→iR→List az→Prop) (T:Nat→Option TI) (G:Nat→Option (List D)) (N K:Nat)
def yV:Code→(Ex→St→Prop)→St→Prop
 |.skip,Q,s=>Q .normal s
 |.region _ ops draw,Q,s=>bif draw then (bif P0 s.bx then XU s (fun s=>LN t FC T G N ops.toList Q s) else LN t FC T G N ops.toList Q s) else PS t FC T G N ops.toList ops.toList Q s
 |.seq a b,Q,s=>yV a (fun e s1=>uC (fun s1=>yV b Q s1) Q e s1) s
 |.cond c a b,Q,s=>(cm G s.sl c).ok∧vX (cm G s.sl c).aS (fun _=>yV a Q s) (fun _=>yV b Q s)
 |.block id c,Q,s=>yV c (fun e s1=>match e with|.exit j=>bif Nat.beq j id then Q .normal s1 else Q (.exit j) s1|e=>Q e s1) s
 |.loop c,Q,s=>UT K (fun Q1 s1=>yV c Q1 s1) Q s
 |.exit id,Q,s=>Q (.exit id) s
 |.label _,Q,s=>Q .normal s
 |.ret,Q,s=>Q .ret s
 |_,_,_=>False
structure GK (n:Nat) (c:Prop) (v:AV) (bx:List az) (fz:Option (Prop×AV)) (res:iR) (aR:List az):Prop where
 ok:c∧((res=.ret v∧aR=bx)∨
  (∃ks d u,fz=some (d,u)∧d∧u.within n=true∧aR=(kill ks (uE bx v)).take n∧cu n aR=true∧res=.ret u)∨
  (∃k sz m es,v=.ow k sz m∧bx[k]?=some (.row sz es)∧n≤k∧n≤bx.length∧cu n (bx.take n)=true∧res=.ret (.ow n sz m)∧aR=bx.take n++[.row sz es])∨
  (∃sz,v=.cl []∧n≤bx.length∧cu n (bx.take n)=true∧res=.ret (.ow n sz 0)∧aR=bx.take n++[.row sz []]))
def qQ (results:List ResultVar) (n:Nat) (res:iR) (aR:List az):Ex→St→Prop
 |.exit _,_=>False
 |.panic v,s=>Uz v s.bx res aR
 |_,s=>match Ci T s.sl s.bx results with
  |some (c,vs)=>GK n c (CE vs) s.bx (PM t s.bx (CE vs)) res aR
  |none=>False
end
section
variable {P:Program} {T:Nat→Option TI} {G:Nat→Option (List D)} {N K:Nat} {ds:List Deferred} {X:Nat→Prop} {β0:Nat→Nat} {aF:List az} {w0:World}
theorem P1 {β:Nat→Nat} {w:World} {s s1:St} {a:Act} {i:Nat} {c:Prop} (hF:Fr G N ds β w X s a) (h:Ei t0 i s=some (c,s1)) (hc:c):Ext β s.bx w β s1.bx w∧Fr G N ds β w X s1 a:=by
 unfold Ei at h
 split at h
 ·rename_i c' y hy
  simp only [osI,Prod.mk.injEq] at h
  obtain ⟨rfl,rfl⟩:=h
  obtain ⟨g1,g2,g3⟩:=D5 hF.cx (Jw hy hc) (hF.zk i)
  refine ⟨g1,g2,hF.defers,hF.size,fun t=>?_⟩
  simp only [oN]
  by_cases h:t=i
  ·subst h;rw [if_pos rfl];exact g3
  rw [if_neg h];exact aj.mono (g1.eY X) _ _ (hF.zk t)
 cases h
theorem qR (hD:qD P T G) {id:Nat} {ops:Array Oper} {Q:Ex→St→Prop} {β:Nat→Nat} {w:World} {s:St} {a:Act} (ex:Ext β0 aF w0 β s.bx w) (hF:Fr G N ds β w X s a)
 (h:LN t0 (bC P G) T G N ops.toList Q s):(Code.region id ops true).wp P (fW G N ds X β0 aF w0 Q) a w:=by
 rcases S2 h with h|⟨i,c,s1,h1,hc,h⟩
 ·exact hD _ _ _ _ _ _ id ops Q β w s a ex hF h
 obtain ⟨e1,IS⟩:=P1 hF h1 hc
 exact hD _ _ _ _ _ _ id ops Q β w s1 a (ex.trans e1) IS h
theorem fX (hT:kw P T) (hD:qD P T G) (hK:aF.length≤K):∀(c:Code) (Q:Ex→St→Prop) (β:Nat→Nat) (w:World) (s:St) (a:Act),Ext β0 aF w0 β s.bx w→Fr G N ds β w X s a→
 yV t0 (bC P G) T G N K c Q s→c.wp P (fW G N ds X β0 aF w0 Q) a w
 |.skip,Q,β,w,s,a,ex,hF,h=>wp_skip ⟨β,s,ex,hF,h⟩
 |.region id ops draw,Q,β,w,s,a,ex,hF,h=>by
  cases draw with
  |true=>
   simp only [yV,cond_true] at h
   cases hm:P0 s.bx with
   |false=>simp only [hm,cond_false] at h;exact qR hD ex hF h
   |true=>
    simp only [hm,cond_true] at h
    rcases h with ⟨h|⟨b,ag,es,hb,h⟩⟩
    ·exact qR hD ex hF h
    obtain ⟨e1,IS⟩:=S3 hF hb
    exact qR hD (ex.trans e1) IS h
  |false=>exact wp_region_list (l7 hT ops.toList β w s a ex hF (Jy _ _ h))
 |.seq x y,Q,β,w,s,a,ex,hF,h=>by
  refine wp_seq (wp_mono (fX hT hD hK x _ β w s a ex hF h) ?_)
  intro e a' w' hl
  cases e<;>simp only [fW,uC] at hl
  ·obtain ⟨β',s',h1,h2,h3⟩:=hl
   exact fX hT hD hK y Q β' w' s' a' h1 h2 h3
  ·exact hl
  ·exact hl
  exact hl
 |.cond c x y,Q,β,w,s,a,ex,hF,h=>by
  obtain ⟨h1,⟨h2⟩⟩:=h
  split at h2
  ·rename_i p hc
   have hv:=j9 (hF.eval c) h1
   rw [hc] at hv
   simp only [aj,aK] at hv
   exact wp_cond_split hv (fun hp=>fX hT hD hK x Q β w s a ex hF (h2.1 hp)) (fun hp=>fX hT hD hK y Q β w s a ex hF (h2.2 hp))
  exact h2.elim
 |.block id c,Q,β,w,s,a,ex,hF,h=>by
  refine wp_block (wp_mono (fX hT hD hK c _ β w s a ex hF h) ?_)
  intro e a' w' hl
  cases e<;>simp only [fW,Exit.inBlock] at hl ⊢
  ·exact hl
  ·rename_i j
   by_cases hj:j=id
   ·subst hj
    simpa [fW] using hl
   have hb:Nat.beq j id=false:=Vp hj
   simpa [fW,hb,hj] using hl
  ·exact hl
  exact hl
 |.loop c,Q,β,w,s,a,ex,hF,h=>by
  obtain ⟨nf,I,n,⟨hI⟩,VF⟩:=h
  refine wp_loop_ghost (fun n a w=>∃β s,Ext β0 aF w0 β s.bx w∧Fr G N ds β w X s a∧I n s) n ?_ ?_
  ·split at hI
   ·rename_i s' hn
    obtain ⟨β',e1,SJ⟩:=ye hn hF
    exact ⟨β',s',ex.AJ hK e1,SJ,hI⟩
   exact hI.elim
  rintro n a w ⟨β,s,ex,hF,hI⟩
  refine wp_mono (fX hT hD hK c _ β w s a ex hF (VF n s hI)) ?_
  intro e a' w' hl
  cases e<;>simp only [fW,uC] at hl
  ·obtain ⟨β',s',h1,h2,⟨h3⟩⟩:=hl
   split at h3
   ·rename_i s'' hn
    obtain ⟨m,h4,h5⟩:=h3
    obtain ⟨β'',e1,SJ⟩:=ye hn h2
    exact ⟨m,h4,β'',s'',h1.AJ hK e1,SJ,h5⟩
   exact h3.elim
  ·exact hl
  ·exact hl
  exact hl
 |.exit id,Q,β,w,s,a,ex,hF,h=>wp_exit ⟨β,s,ex,hF,h⟩
 |.label l,Q,β,w,s,a,ex,hF,h=>wp_label ⟨β,s,ex,hF,h⟩
 |.ret,Q,β,w,s,a,ex,hF,h=>wp_ret ⟨β,s,ex,hF,h⟩
theorem LR {results:List ResultVar} {n:Nat} {res:iR} {aR:List az} {e:Ex} {s:St} (h:qQ t0 T results n res aR e s):Ln T results n res aR e s:=by
 unfold qQ at h
 split at h
 ·exact h.elim
 ·exact h
 rename_i h1 h2
 unfold Ln
 split
 ·exact absurd rfl (h1 _)
 ·exact absurd rfl (h2 _)
 split at h
 ·rename_i c vs hr
  simp only [hr]
  obtain ⟨hc,h⟩:=h
  refine ⟨hc,?_⟩
  rcases h with h|⟨ks,d,u,k1,k2,k3⟩|h|h
  ·exact .inl h
  ·exact .inr (.inl ⟨ks,u,Jx k1 k2,k3⟩)
  ·exact .inr (.inr (.inl h))
  exact .inr (.inr (.inr h))
 exact h.elim
theorem yW (hT:kw P T) (hD:qD P T G) {f N:Nat} {fn:Func} {c:Code} {args:List AV} {aF aR:List az} {res:iR} (hf:P.funcs[f]?=some fn) (hb:fn.body=some c)
 (hname:(fn.name== "runtime.NumGoroutine")=false) (hN:fn.ntmps=N) (hlen:Nat.ble args.length N=true)
 (h:yV t0 (bC P G) T G N aF.length c (qQ t0 T fn.results.toList aF.length res aR) ⟨pV 0 args,aF⟩):bC P G f args aF res aR:=
 uU hT hf hb hname hN hlen fun β w X a hF=>wp_mono (fX (X:=X) (β0:=β) (aF:=aF) (w0:=w) hT hD (Nat.le_refl _) c _ β w ⟨pV 0 args,aF⟩ a (Ext.refl _ _ _) hF h)
  fun _ _ _ hl=>fW.imp (fun _ _ hq=>LR hq) hl
end
end Dem
end
section
open Go
namespace Dem
def jS (bY:List Nat) (n:Nat) (j:Nat):Option Nat:=match bY[j]? with
 |some i=>some i
 |none=>some (n+(j-bY.length))
def su (bY:List Nat) (n:Nat) (aF:List az):Nat→List az→Option (List az)
 |_,[]=>some []
 |i,b::r=>match dK i bY 0 with
  |some j=>match aF[j]? with
   |some b0=>match az.iy (jS bY n) b0,su bY n aF (i+1) r with
    |some x,some xs=>some (x::xs)
    |_,_=>none
   |none=>none
  |none=>match su bY n aF (i+1) r with
   |some xs=>some (b::xs)
   |none=>none
def vo (bY:List Nat) (n:Nat):List az→Option (List az)
 |[]=>some []
 |b::r=>match az.iy (jS bY n) b,vo bY n r with
  |some x,some xs=>some (x::xs)
  |_,_=>none
def AK (bY:List Nat) (bx aF:List az):Option (List az):=
 bif Nat.ble bY.length aF.length&&Ej bY 0 bY then
  match su bY bx.length aF 0 bx,vo bY bx.length (aF.drop bY.length) with
  |some a,some b=>some (a++b)
  |_,_=>none
 else none
def iR.iy (m:Nat→Option Nat):iR→Option iR
 |.ret v=>match v.iy m with
  |some x=>some (.ret x)
  |none=>none
 |.MC v=>match v.iy m with
  |some x=>some (.MC x)
  |none=>none
section
variable {P:Program} {G:Nat→Option (List D)}
theorem qT {bY:List Nat} {n:Nat} {aF:List az}:∀{bx a:List az} {i:Nat},su bY n aF i bx=some a→a.length=bx.length∧∀(k:Nat) (b:az),bx[k]?=some b→
 (∃j b0 b',dK (i+k) bY 0=some j∧aF[j]?=some b0∧az.iy (jS bY n) b0=some b'∧a[k]?=some b')∨(dK (i+k) bY 0=none∧a[k]?=some b)
 |[],a,i,h=>by simp only [su,osI] at h;subst h;simp
 |b::r,a,i,h=>by
  simp only [su] at h
  split at h
  ·rename_i j hj
   split at h
   ·rename_i b0 hb0
    split at h
    ·rename_i x xs h1 h2
     simp only [osI] at h;subst h
     obtain ⟨k1,k2⟩:=qT h2
     refine ⟨by simp [k1],?_⟩
     intro k b1 hk
     cases k with
     |zero=>exact .inl ⟨j,b0,x,hj,hb0,h1,rfl⟩
     |succ k=>
      simp only [List.getElem?_cons_succ] at hk ⊢
      have:=k2 k b1 hk
      rwa [show i+1+k=i+(k+1) by omega] at this
    simp at h
   simp at h
  rename_i hj
  split at h
  ·rename_i xs h2
   simp only [osI] at h;subst h
   obtain ⟨k1,k2⟩:=qT h2
   refine ⟨by simp [k1],?_⟩
   intro k b1 hk
   cases k with
   |zero=>simp only [List.getElem?_cons_zero,osI] at hk;subst hk;exact .inr ⟨hj,rfl⟩
   |succ k=>
    simp only [List.getElem?_cons_succ] at hk ⊢
    have:=k2 k b1 hk
    rwa [show i+1+k=i+(k+1) by omega] at this
  simp at h
theorem yf {bY:List Nat} {n:Nat}:∀{bx a:List az},vo bY n bx=some a→a.length=bx.length∧∀(k:Nat) (b:az),bx[k]?=some b→∃b',az.iy (jS bY n) b=some b'∧a[k]?=some b'
 |[],a,h=>by simp only [vo,osI] at h;subst h;simp
 |b::r,a,h=>by
  simp only [vo] at h
  split at h
  ·rename_i x xs h1 h2
   simp only [osI] at h;subst h
   obtain ⟨k1,k2⟩:=yf h2
   refine ⟨by simp [k1],?_⟩
   intro k b1 hk
   cases k with
   |zero=>simp only [List.getElem?_cons_zero,osI] at hk;subst hk;exact ⟨x,h1,rfl⟩
   |succ k=>simp only [List.getElem?_cons_succ] at hk ⊢;exact k2 k b1 hk
  simp at h
theorem de {f:Nat} {args jU:List AV} {bx aF vp aR:List az} {VG res:iR} (bY:List Nat)
 (ha:AV.vj (fun b=>dK b bY 0) args=some jU) (hb:fJ (fun b=>dK b bY 0) bx bY=some aF)
 (hr:iR.iy (jS bY bx.length) VG=some res) (hb':AK bY bx vp=some aR) (h:bC P G f jU aF VG vp):bC P G f args bx res aR:=by
 intro β w vs X cx hx
 unfold AK at hb'
 cases hlen:Nat.ble bY.length vp.length with
 |false=>simp [hlen] at hb'
 |true=>
 cases JA:Ej bY 0 bY with
 |false=>simp [hlen,JA] at hb'
 |true=>
 simp only [hlen,JA,Bool.and_self,cond_true] at hb'
 split at hb'
 case h_2=>simp at hb'
 rename_i aO aN hO hN
 simp only [osI] at hb'
 subst hb'
 have hlen':bY.length≤vp.length:=Nat.le_of_ble_eq_true hlen
 obtain ⟨lO,gO⟩:=qT hO
 obtain ⟨lN,gN⟩:=yf hN
 have vn:∀k i,bY[k]?=some i→dK i bY 0=some k:=fun k i hk=>by have:=so JA hk;simpa using this
 have hidx:∀b j,dK b bY 0=some j→bY[j]?=some b:=fun b j hj=>by have:=(tQ hj).2;simpa using this
 have P2:∀k i,bY[k]?=some i→∃b,bx[i]?=some b:=fun k i hk=>by
  obtain ⟨b,_,h1,_⟩:=mV hb k i hk;exact ⟨b,h1⟩
 let β0:Nat→Nat:=fun j=>match bY[j]? with|some i=>β i|none=>0
 let X0:Nat→Prop:=fun blk=>X blk∨∃(i:Nat) (b:az),bx[i]?=some b∧b.live=true∧dK i bY 0=none∧β i=blk
 have VH:∀k i,bY[k]?=some i→β0 k=β i:=fun k i hk=>by simp [β0,hk]
 have hm:∀b j,dK b bY 0=some j→β0 j=β b∧(cg bx b→cg aF j):=by
  intro b j hj
  have hs:=hidx b j hj
  refine ⟨VH j b hs,?_⟩
  rintro ⟨B,hB,dF⟩
  obtain ⟨b1,b2,k1,k2,k3⟩:=mV hb j b hs
  rw [hB] at k1;cases k1
  exact ⟨b2,k3,(az.gk k2).1.trans dF⟩
 have tU:∀(i:Nat) (b:az),aF[i]?=some b→b.live=true→∃(j:Nat) (b':az),bx[j]?=some b'∧b'.live=true∧β j=β0 i∧bY[i]?=some j:=by
  intro i b hi hl
  obtain ⟨j,b',k1,k2,k3⟩:=jB hb i b hi
  exact ⟨j,b',k2,(az.gk k3).2▸hl,(VH i j k1).symm,k1⟩
 have P3:∀blk,bt β bx w X blk→bt β0 aF w X0 blk:=by
  rintro blk ⟨k1,k2,k3⟩
  refine ⟨k1,?_,?_⟩
  ·rintro (hX|⟨i,b,h1,h2,_,h3⟩)
   ·exact k2 hX
   exact k3 i b h1 h2 h3
  intro i b hi hl
  obtain ⟨j,b',h3,h4,h5,_⟩:=tU i b hi hl
  rw [←h5];exact k3 j b' h3 h4
 have Ek:iZ w w (bt β bx w X) (bt β0 aF w X0):=fun blk hb=>⟨P3 blk hb,rfl⟩
 have hlt:∀(i:Nat) (b:az),bx[i]?=some b→b.live=true→β i<w.heap.size:=fun i b h hl=>dj.eU (cx.box i b h) hl
 have W5:cI G β0 aF w X0:=by
  refine ⟨?_,?_,?_,?_,?_⟩
  ·rintro blk (hX|⟨i,b,h1,h2,_,rfl⟩)
   ·exact cx.xs blk hX
   exact hlt i b h1 h2
  ·intro g ds hg
   obtain ⟨k1,k2⟩:=cx.yU g ds hg
   exact ⟨P3 g k1,bf.mono Ek g (fun _=>rfl) _ _ k2⟩
  ·intro i j bi bj hi hj mH oM he
   obtain ⟨i',bi',a1,a2,a3,a4⟩:=tU i bi hi mH
   obtain ⟨j',bj',c1,c2,c3,c4⟩:=tU j bj hj oM
   have:i'=j':=cx.inj i' j' bi' bj' a1 c1 a2 c2 (a3.trans (he.trans c3.symm))
   subst this
   have e1:=vn i i' a4
   have e2:=vn j i' c4
   rw [e1] at e2;exact Option.some.inj e2
  ·intro i b hi
   obtain ⟨j,b',k1,k2,k3⟩:=jB hb i b hi
   have FJ:=cx.box j b' k2
   rw [VH i j k1]
   cases b' with
   |var cs=>
    simp only [az.iy] at k3
    split at k3
    ·rename_i ys hys
     simp only [osI] at k3;subst k3
     simp only [dj] at FJ ⊢
     obtain ⟨c,e,g1,g2⟩:=FJ
     exact ⟨c,e,g1,kL hm P3 cs ys _ hys g2⟩
    simp at k3
   |row sz es=>
    simp only [az.iy,osI] at k3;subst k3
    refine FJ.imp id ?_
    rintro ⟨c,e,g1,g2⟩
    exact ⟨c,e,g1,ax.mono Ek _ _ (fun _=>rfl) _ _ g2⟩
   |nE sz es=>
    simp only [az.iy,osI] at k3;subst k3
    refine FJ.imp id ?_
    rintro ⟨g1,g2⟩
    exact ⟨P3 _ g1,ax.mono Ek _ _ (fun _=>rfl) _ _ g2⟩
   |it s p=>simp only [az.iy,osI] at k3;subst k3;exact FJ
   |mp ag es=>simp only [az.iy,osI] at k3;subst k3;obtain ⟨ms,clock,h1,h2,h3⟩:=FJ;exact ⟨ms,clock,h1,h2,bp.mono Ek _ _ _ h3⟩
   |dead=>simp only [az.iy,osI] at k3;subst k3;trivial
   |bB=>simp only [az.iy,osI] at k3;subst k3;trivial
  intro i b hi hl
  obtain ⟨j,b',h3,h4,h5,h6⟩:=tU i b hi hl
  rw [←h5]
  rintro (hX|⟨i2,b2,e1,e2,e3,e4⟩)
  ·exact cx.apart j b' h3 h4 hX
  have:i2=j:=cx.inj i2 j b2 b' e1 h3 e2 h4 e4
  subst this
  rw [vn i i2 h6] at e3;cases e3
 refine jA.mono (h β0 w vs X0 W5 (kL hm P3 args jU vs ha hx)) ?_
 rintro e w' ⟨JB,sL,S4,hres⟩
 let β':Nat→Nat:=fun i=>match dK i bY 0 with|some j=>JB j|none=>if i<bx.length then β i else JB (bY.length+(i-bx.length))
 have XW:∀j i,bY[j]?=some i→i<bx.length:=fun j i hj=>by obtain ⟨b,hb⟩:=P2 j i hj;exact jv hb
 have XX:∀k,dK (bx.length+k) bY 0=none:=by
  intro k
  cases hc:dK (bx.length+k) bY 0 with
  |none=>rfl
  |some j=>have:=XW j _ (hidx _ _ hc);omega
 have XY:∀i j,dK i bY 0=some j→β' i=JB j:=fun i j hj=>by simp [β',hj]
 have JC:∀i,i<bx.length→dK i bY 0=none→β' i=β i:=fun i hi hn=>by simp [β',hi,hn]
 have aah:∀k,β' (bx.length+k)=JB (bY.length+k):=fun k=>by simp [β',XX k];omega
 have P4:∀(i:Nat),i<bx.length→(aO++aN)[i]?=aO[i]?:=fun i hi=>List.getElem?_append_left (by omega)
 have UU:∀(k:Nat),(aO++aN)[bx.length+k]?=aN[k]?:=fun k=>by rw [List.getElem?_append_right (by omega),lO];congr 1;omega
 have hinv:∀(i:Nat) (b:az),(aO++aN)[i]?=some b→(i<bx.length∧dK i bY 0=none∧bx[i]?=some b)∨
  (∃(j:Nat) (b0:az),vp[j]?=some b0∧az.iy (jS bY bx.length) b0=some b∧jS bY bx.length j=some i):=by
  intro i b hi
  rcases Nat.lt_or_ge i bx.length with hl|hl
  ·rw [P4 i hl] at hi
   obtain ⟨bi,xJ⟩:∃bi,bx[i]?=some bi:=⟨bx[i],by simp [hl]⟩
   have:=gO i bi xJ
   rw [Nat.zero_add] at this
   rcases this with ⟨j,b0,b',k1,k2,k3,k4⟩|⟨k1,k2⟩
   ·rw [hi] at k4;cases k4
    refine .inr ⟨j,b0,k2,k3,?_⟩
    simp [jS,hidx i j k1]
   rw [hi] at k2;cases k2
   exact .inl ⟨hl,k1,xJ⟩
  obtain ⟨k,rfl⟩:∃k,i=bx.length+k:=⟨i-bx.length,by omega⟩
  rw [UU k] at hi
  have hk:k<aN.length:=by
   rcases Nat.lt_or_ge k aN.length with h'|h'
   ·exact h'
   simp [List.getElem?_eq_none h'] at hi
  have hkd:k<(vp.drop bY.length).length:=by omega
  obtain ⟨b',k1,k2⟩:=gN k _ (List.getElem?_eq_getElem hkd)
  rw [hi] at k2;cases k2
  refine .inr ⟨bY.length+k,(vp.drop bY.length)[k],?_,k1,?_⟩
  ·rw [←List.getElem?_drop];exact List.getElem?_eq_getElem hkd
  simp [jS]
 have AL:∀j i,jS bY bx.length j=some i→β' i=JB j∧(cg vp j→cg (aO++aN) i):=by
  intro j i hj
  unfold jS at hj
  split at hj
  ·rename_i i' hs
   simp only [osI] at hj;subst hj
   obtain ⟨bi,xJ⟩:=P2 j i' hs
   have hil:=jv xJ
   refine ⟨XY i' j (vn j i' hs),?_⟩
   rintro ⟨b0,e1,e2⟩
   have:=gO i' bi xJ
   rw [Nat.zero_add,vn j i' hs] at this
   rcases this with ⟨j2,b02,b',c1,c2,c3,c4⟩|⟨c1,_⟩
   ·cases c1
    rw [e1] at c2;cases c2
    exact ⟨b',by rw [P4 i' hil];exact c4,(az.gk c3).1.trans e2⟩
   cases c1
  rename_i hs
  simp only [osI] at hj;subst hj
  have hge:bY.length≤j:=by
   rcases Nat.lt_or_ge j bY.length with h'|h'
   ·simp [h'] at hs
   exact h'
  refine ⟨by rw [aah];congr 1;omega,?_⟩
  rintro ⟨b0,e1,e2⟩
  have hd:(vp.drop bY.length)[j-bY.length]?=some b0:=by rw [List.getElem?_drop];rw [←e1];congr 1;omega
  obtain ⟨b',c1,c2⟩:=gN _ _ hd
  exact ⟨b',by rw [UU];exact c2,(az.gk c1).1.trans e2⟩
 have P5:∀blk,bt JB vp w' X0 blk→bt β' (aO++aN) w' X blk:=by
  rintro blk ⟨k1,k2,k3⟩
  refine ⟨k1,fun hX=>k2 (.inl hX),?_⟩
  intro i b hi hl
  rcases hinv i b hi with ⟨c1,c2,c3⟩|⟨j,b0,c1,c2,c3⟩
  ·rw [JC i c1 c2]
   exact fun he=>k2 (.inr ⟨i,b,c3,hl,c2,he⟩)
  rw [(AL j i c3).1]
  exact k3 j b0 c1 ((az.gk c2).2▸hl)
 have JD:iZ w' w' (bt JB vp w' X0) (bt β' (aO++aN) w' X):=fun blk hb=>⟨P5 blk hb,rfl⟩
 have ex:Ext β bx w β' (aO++aN) w':=by
  refine ⟨sL.os,sL.tape,sL.output,sL.size,?_,sL.shape,?_,?_⟩
  ·intro k hk hl
   refine sL.block k hk ?_
   intro i b hi hlv
   obtain ⟨j,b',h3,h4,h5,_⟩:=tU i b hi hlv
   rw [←h5];exact hl j b' h3 h4
  ·intro i hi
   obtain ⟨b,xQ,uS⟩:=hi
   have hil:=jv xQ
   cases hc:dK i bY 0 with
   |some j=>
    obtain ⟨k1,k2⟩:=hm i j hc
    obtain ⟨c1,c2⟩:=sL.born j (k2 ⟨b,xQ,uS⟩)
    have hbm:jS bY bx.length j=some i:=by simp [jS,hidx i j hc]
    exact ⟨by rw [XY i j hc,c1,k1],(AL j i hbm).2 c2⟩
   |none=>
    refine ⟨JC i hil hc,b,?_,uS⟩
    rw [P4 i hil]
    have:=gO i b xQ
    rw [Nat.zero_add,hc] at this
    rcases this with ⟨_,_,_,c1,_⟩|⟨_,c2⟩
    ·cases c1
    exact c2
  intro i b hi hl
  rcases hinv i b hi with ⟨c1,c2,c3⟩|⟨j,b0,c1,c2,c3⟩
  ·exact .inr ⟨i,b,c3,hl,(JC i c1 c2).symm⟩
  rw [(AL j i c3).1]
  rcases sL.live j b0 c1 ((az.gk c2).2▸hl) with h1|⟨j',b',h1,h2,h3⟩
  ·exact .inl h1
  obtain ⟨j2,b2,e1,e2,e3,_⟩:=tU j' b' h1 h2
  exact .inr ⟨j2,b2,e1,e2,e3.trans h3⟩
 refine ⟨β',ex,cx.step ex ?_ ?_,?_⟩
 ·intro i b hi
  rcases hinv i b hi with ⟨c1,c2,c3⟩|⟨j,b0,c1,c2,c3⟩
  ·refine .inl ⟨c3,fun hl=>sL.block _ (hlt i b c3 hl) ?_⟩
   intro k b' hk hlk he
   obtain ⟨j,b2,h3,h4,h5,h6⟩:=tU k b' hk hlk
   have:j=i:=cx.inj j i b2 b h3 c3 h4 hl (h5.trans he)
   subst this
   rw [vn k j h6] at c2;cases c2
  refine .inr ?_
  have FJ:=S4.box j b0 c1
  rw [(AL j i c3).1]
  cases b0 with
  |var cs=>
   simp only [az.iy] at c2
   split at c2
   ·rename_i ys hys
    simp only [osI] at c2;subst c2
    simp only [dj] at FJ ⊢
    obtain ⟨c,e,g1,g2⟩:=FJ
    exact ⟨c,e,g1,kL AL P5 cs ys _ hys g2⟩
   simp at c2
  |row sz es=>
   simp only [az.iy,osI] at c2;subst c2
   refine FJ.imp id ?_
   rintro ⟨c,e,g1,g2⟩
   exact ⟨c,e,g1,ax.mono JD _ _ (fun _=>rfl) _ _ g2⟩
  |nE sz es=>
   simp only [az.iy,osI] at c2;subst c2
   refine FJ.imp id ?_
   rintro ⟨g1,g2⟩
   exact ⟨P5 _ g1,ax.mono JD _ _ (fun _=>rfl) _ _ g2⟩
  |it s p=>simp only [az.iy,osI] at c2;subst c2;exact FJ
  |mp ag es=>simp only [az.iy,osI] at c2;subst c2;obtain ⟨ms,clock,h1,h2,h3⟩:=FJ;exact ⟨ms,clock,h1,h2,bp.mono JD _ _ _ h3⟩
  |dead=>simp only [az.iy,osI] at c2;subst c2;trivial
  |bB=>simp only [az.iy,osI] at c2;subst c2;trivial
 ·intro i j bi bj hi hj mH oM he
  rcases hinv i bi hi with ⟨c1,c2,c3⟩|⟨i',b0,c1,c2,c3⟩<;>rcases hinv j bj hj with ⟨d1,d2,d3⟩|⟨j',b0',d1,d2,d3⟩
  ·rw [JC i c1 c2,JC j d1 d2] at he
   exact cx.inj i j bi bj c3 d3 mH oM he
  ·rw [JC i c1 c2,(AL j' j d3).1] at he
   exact absurd (.inr ⟨i,bi,c3,mH,c2,he⟩) (S4.apart j' b0' d1 ((az.gk d2).2▸oM))
  ·rw [(AL i' i c3).1,JC j d1 d2] at he
   exact absurd (.inr ⟨j,bj,d3,oM,d2,he.symm⟩) (S4.apart i' b0 c1 ((az.gk c2).2▸mH))
  rw [(AL i' i c3).1,(AL j' j d3).1] at he
  have:=S4.inj i' j' b0 b0' c1 d1 ((az.gk c2).2▸mH) ((az.gk d2).2▸oM) he
  subst this
  rw [c3] at d3;exact Option.some.inj d3
 cases VG with
 |ret v0=>
  simp only [iR.iy] at hr
  split at hr
  ·rename_i v hv
   simp only [osI] at hr;subst hr
   cases e with
   |returned u=>exact sq AL P5 v0 v u hv hres
   |panicked ch=>exact hres.elim
   |outgrown=>exact hres.elim
  simp at hr
 |MC v0=>
  simp only [iR.iy] at hr
  split at hr
  ·rename_i v hv
   simp only [osI] at hr;subst hr
   cases e with
   |returned u=>exact hres.elim
   |panicked ch=>
    obtain ⟨u,k1,k2⟩:=hres
    exact ⟨u,k1,sq AL P5 v0 v u hv k2⟩
   |outgrown=>exact hres.elim
  simp at hr
end
end Dem
end
