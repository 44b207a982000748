/- Parts of a proof, joined. -/
import Derived.Test.YtjnbpclolnmimaaGreatDoorJ14
import Derived.Test.YtjnbpclolnmimaaGreatDoorProg
import Derived.KernelRfl
set_option linter.unusedSimpArgs false
set_option linter.unusedVariables false
set_option maxRecDepth 100000
set_option maxHeartbeats 4000000
section
open Go
namespace Dem
def jF (b9:List Nat) (n:Nat) (j:Nat):Option Nat:=match b9[j]? with
 |some i=>some i
 |none=>some (n+(j-b9.length))
def sK (b9:List Nat) (n:Nat) (aE:List ax):Nat→List ax→Option (List ax)
 |_,[]=>some []
 |i,b::r=>match dB i b9 0 with
  |some j=>match aE[j]? with
   |some b0=>match ax.iq (jF b9 n) b0,sK b9 n aE (i+1) r with
    |some x,some xs=>some (x::xs)
    |_,_=>none
   |none=>none
  |none=>match sK b9 n aE (i+1) r with
   |some xs=>some (b::xs)
   |none=>none
def vS (b9:List Nat) (n:Nat):List ax→Option (List ax)
 |[]=>some []
 |b::r=>match ax.iq (jF b9 n) b,vS b9 n r with
  |some x,some xs=>some (x::xs)
  |_,_=>none
def Br (b9:List Nat) (bx aE:List ax):Option (List ax):=
 bif Nat.ble b9.length aE.length&&E8 b9 0 b9 then
  match sK b9 bx.length aE 0 bx,vS b9 bx.length (aE.drop b9.length) with
  |some a,some b=>some (a++b)
  |_,_=>none
 else none
def fm.iq (m:Nat→Option Nat):fm→Option fm
 |.ret v=>match v.iq m with
  |some x=>some (.ret x)
  |none=>none
 |.Nk v=>match v.iq m with
  |some x=>some (.Nk x)
  |none=>none
section
variable {P:Program} {G:Nat→Option (List D)}
theorem rK {b9:List Nat} {n:Nat} {aE:List ax}:∀{bx a:List ax} {i:Nat},sK b9 n aE i bx=some a→a.length=bx.length∧∀(k:Nat) (b:ax),bx[k]?=some b→
 (∃j b0 b',dB (i+k) b9 0=some j∧aE[j]?=some b0∧ax.iq (jF b9 n) b0=some b'∧a[k]?=some b')∨(dB (i+k) b9 0=none∧a[k]?=some b)
 |[],a,i,h=>by simp only [sK,Option.some.injEq] at h;subst h;simp
 |b::r,a,i,h=>by
  simp only [sK] at h
  split at h
  ·rename_i j hj
   split at h
   ·rename_i b0 hb0
    split at h
    ·rename_i x xs h1 h2
     simp only [Option.some.injEq] at h;subst h
     obtain ⟨k1,k2⟩:=rK h2
     refine ⟨by simp [k1],?_⟩
     intro k b1 hk
     cases k with
     |zero=>exact .inl ⟨j,b0,x,hj,hb0,h1,rfl⟩
     |succ k=>
      simp only [List.getElem?_cons_succ] at hk ⊢
      have:=k2 k b1 hk
      rwa [show i+1+k=i+(k+1) by omega] at this
    simp at h
   simp at h
  rename_i hj
  split at h
  ·rename_i xs h2
   simp only [Option.some.injEq] at h;subst h
   obtain ⟨k1,k2⟩:=rK h2
   refine ⟨by simp [k1],?_⟩
   intro k b1 hk
   cases k with
   |zero=>simp only [List.getElem?_cons_zero,Option.some.injEq] at hk;subst hk;exact .inr ⟨hj,rfl⟩
   |succ k=>
    simp only [List.getElem?_cons_succ] at hk ⊢
    have:=k2 k b1 hk
    rwa [show i+1+k=i+(k+1) by omega] at this
  simp at h
theorem yZ {b9:List Nat} {n:Nat}:∀{bx a:List ax},vS b9 n bx=some a→a.length=bx.length∧∀(k:Nat) (b:ax),bx[k]?=some b→∃b',ax.iq (jF b9 n) b=some b'∧a[k]?=some b'
 |[],a,h=>by simp only [vS,Option.some.injEq] at h;subst h;simp
 |b::r,a,h=>by
  simp only [vS] at h
  split at h
  ·rename_i x xs h1 h2
   simp only [Option.some.injEq] at h;subst h
   obtain ⟨k1,k2⟩:=yZ h2
   refine ⟨by simp [k1],?_⟩
   intro k b1 hk
   cases k with
   |zero=>simp only [List.getElem?_cons_zero,Option.some.injEq] at hk;subst hk;exact ⟨x,h1,rfl⟩
   |succ k=>simp only [List.getElem?_cons_succ] at hk ⊢;exact k2 k b1 hk
  simp at h
theorem eZ {f:Nat} {args jG:List AV} {bx aE vT aG:List ax} {WI res:fm} (b9:List Nat)
 (ha:AV.vQ (fun b=>dB b b9 0) args=some jG) (hb:fD (fun b=>dB b b9 0) bx b9=some aE)
 (hr:fm.iq (jF b9 bx.length) WI=some res) (hb':Br b9 bx vT=some aG) (h:bg P G f jG aE WI vT):bg P G f args bx res aG:=by
 intro β w vs X cx hx
 unfold Br at hb'
 cases hlen:Nat.ble b9.length vT.length with
 |false=>simp [hlen] at hb'
 |true=>
 cases Kv:E8 b9 0 b9 with
 |false=>simp [hlen,Kv] at hb'
 |true=>
 simp only [hlen,Kv,Bool.and_self,cond_true] at hb'
 split at hb'
 case h_2=>simp at hb'
 rename_i aO aN hO hN
 simp only [Option.some.injEq] at hb'
 subst hb'
 have hlen':b9.length≤vT.length:=Nat.le_of_ble_eq_true hlen
 obtain ⟨lO,gO⟩:=rK hO
 obtain ⟨lN,gN⟩:=yZ hN
 have vR:∀k i,b9[k]?=some i→dB i b9 0=some k:=fun k i hk=>by have:=sI Kv hk;simpa using this
 have hidx:∀b j,dB b b9 0=some j→b9[j]?=some b:=fun b j hj=>by have:=(uz hj).2;simpa using this
 have QG:∀k i,b9[k]?=some i→∃b,bx[i]?=some b:=fun k i hk=>by
  obtain ⟨b,_,h1,_⟩:=nB hb k i hk;exact ⟨b,h1⟩
 let β0:Nat→Nat:=fun j=>match b9[j]? with|some i=>β i|none=>0
 let X0:Nat→Prop:=fun aB=>X aB∨∃(i:Nat) (b:ax),bx[i]?=some b∧b.live=true∧dB i b9 0=none∧β i=aB
 have WJ:∀k i,b9[k]?=some i→β0 k=β i:=fun k i hk=>by simp [β0,hk]
 have hm:∀b j,dB b b9 0=some j→β0 j=β b∧(bV bx b→bV aE j):=by
  intro b j hj
  have hs:=hidx b j hj
  refine ⟨WJ j b hs,?_⟩
  rintro ⟨B,hB,dj⟩
  obtain ⟨b1,b2,k1,k2,k3⟩:=nB hb j b hs
  rw [hB] at k1;cases k1
  exact ⟨b2,k3,(ax.fU k2).1.trans dj⟩
 have uB:∀(i:Nat) (b:ax),aE[i]?=some b→b.live=true→∃(j:Nat) (b':ax),bx[j]?=some b'∧b'.live=true∧β j=β0 i∧b9[i]?=some j:=by
  intro i b hi hl
  obtain ⟨j,b',k1,k2,k3⟩:=iV hb i b hi
  exact ⟨j,b',k2,(ax.fU k3).2▸hl,(WJ i j k1).symm,k1⟩
 have QH:∀aB,be β bx w X aB→be β0 aE w X0 aB:=by
  rintro aB ⟨k1,k2,k3⟩
  refine ⟨k1,?_,?_⟩
  ·rintro (hX|⟨i,b,h1,h2,_,h3⟩)
   ·exact k2 hX
   exact k3 i b h1 h2 h3
  intro i b hi hl
  obtain ⟨j,b',h3,h4,h5,_⟩:=uB i b hi hl
  rw [←h5];exact k3 j b' h3 h4
 have Fa:jC w w (be β bx w X) (be β0 aE w X0):=fun aB hb=>⟨QH aB hb,rfl⟩
 have hlt:∀(i:Nat) (b:ax),bx[i]?=some b→b.live=true→β i<w.heap.size:=fun i b h hl=>dA.eL (cx.box i b h) hl
 have Yd:ct G β0 aE w X0:=by
  refine ⟨?_,?_,?_,?_,?_⟩
  ·rintro aB (hX|⟨i,b,h1,h2,_,rfl⟩)
   ·exact cx.xs aB hX
   exact hlt i b h1 h2
  ·intro g ds hg
   obtain ⟨k1,k2⟩:=cx.Ar g ds hg
   exact ⟨QH g k1,aY.mono Fa g (fun _=>rfl) _ _ k2⟩
  ·intro i j bi bj hi hj oc qB he
   obtain ⟨i',bi',a1,a2,a3,a4⟩:=uB i bi hi oc
   obtain ⟨j',bj',c1,c2,c3,c4⟩:=uB j bj hj qB
   have:i'=j':=cx.inj i' j' bi' bj' a1 c1 a2 c2 (a3.trans (he.trans c3.symm))
   subst this
   have e1:=vR i i' a4
   have e2:=vR j i' c4
   rw [e1] at e2;exact Option.some.inj e2
  ·intro i b hi
   obtain ⟨j,b',k1,k2,k3⟩:=iV hb i b hi
   have GI:=cx.box j b' k2
   rw [WJ i j k1]
   cases b' with
   |var cs=>
    simp only [ax.iq] at k3
    split at k3
    ·rename_i ys hys
     simp only [Option.some.injEq] at k3;subst k3
     simp only [dA] at GI ⊢
     obtain ⟨c,e,g1,g2⟩:=GI
     exact ⟨c,e,g1,kQ hm QH cs ys _ hys g2⟩
    simp at k3
   |row sz es=>
    simp only [ax.iq,Option.some.injEq] at k3;subst k3
    refine GI.imp id ?_
    rintro ⟨c,e,g1,g2⟩
    exact ⟨c,e,g1,av.mono Fa _ _ (fun _=>rfl) _ _ g2⟩
   |oh sz es=>
    simp only [ax.iq,Option.some.injEq] at k3;subst k3
    refine GI.imp id ?_
    rintro ⟨g1,g2⟩
    exact ⟨QH _ g1,av.mono Fa _ _ (fun _=>rfl) _ _ g2⟩
   |it s p=>simp only [ax.iq,Option.some.injEq] at k3;subst k3;exact GI
   |mp ag es=>simp only [ax.iq,Option.some.injEq] at k3;subst k3;obtain ⟨ms,clock,h1,h2,h3⟩:=GI;exact ⟨ms,clock,h1,h2,bp.mono Fa _ _ _ h3⟩
   |dead=>simp only [ax.iq,Option.some.injEq] at k3;subst k3;trivial
   |bA=>simp only [ax.iq,Option.some.injEq] at k3;subst k3;trivial
  intro i b hi hl
  obtain ⟨j,b',h3,h4,h5,h6⟩:=uB i b hi hl
  rw [←h5]
  rintro (hX|⟨i2,b2,e1,e2,e3,e4⟩)
  ·exact cx.apart j b' h3 h4 hX
  have:i2=j:=cx.inj i2 j b2 b' e1 h3 e2 h4 e4
  subst this
  rw [vR i i2 h6] at e3;cases e3
 refine jD.mono (h β0 w vs X0 Yd (kQ hm QH args jG vs ha hx)) ?_
 rintro e w' ⟨Kw,tF,TK,hres⟩
 let β':Nat→Nat:=fun i=>match dB i b9 0 with|some j=>Kw j|none=>if i<bx.length then β i else Kw (b9.length+(i-bx.length))
 have YV:∀j i,b9[j]?=some i→i<bx.length:=fun j i hj=>by obtain ⟨b,hb⟩:=QG j i hj;exact iS hb
 have YW:∀k,dB (bx.length+k) b9 0=none:=by
  intro k
  cases hc:dB (bx.length+k) b9 0 with
  |none=>rfl
  |some j=>have:=YV j _ (hidx _ _ hc);omega
 have YX:∀i j,dB i b9 0=some j→β' i=Kw j:=fun i j hj=>by simp [β',hj]
 have Kx:∀i,i<bx.length→dB i b9 0=none→β' i=β i:=fun i hi hn=>by simp [β',hi,hn]
 have abe:∀k,β' (bx.length+k)=Kw (b9.length+k):=fun k=>by simp [β',YW k];omega
 have QI:∀(i:Nat),i<bx.length→(aO++aN)[i]?=aO[i]?:=fun i hi=>List.getElem?_append_left (by omega)
 have VT:∀(k:Nat),(aO++aN)[bx.length+k]?=aN[k]?:=fun k=>by rw [List.getElem?_append_right (by omega),lO];congr 1;omega
 have hinv:∀(i:Nat) (b:ax),(aO++aN)[i]?=some b→(i<bx.length∧dB i b9 0=none∧bx[i]?=some b)∨
  (∃(j:Nat) (b0:ax),vT[j]?=some b0∧ax.iq (jF b9 bx.length) b0=some b∧jF b9 bx.length j=some i):=by
  intro i b hi
  rcases Nat.lt_or_ge i bx.length with hl|hl
  ·rw [QI i hl] at hi
   obtain ⟨bi,zT⟩:∃bi,bx[i]?=some bi:=⟨bx[i],by simp [hl]⟩
   have:=gO i bi zT
   rw [Nat.zero_add] at this
   rcases this with ⟨j,b0,b',k1,k2,k3,k4⟩|⟨k1,k2⟩
   ·rw [hi] at k4;cases k4
    refine .inr ⟨j,b0,k2,k3,?_⟩
    simp [jF,hidx i j k1]
   rw [hi] at k2;cases k2
   exact .inl ⟨hl,k1,zT⟩
  obtain ⟨k,rfl⟩:∃k,i=bx.length+k:=⟨i-bx.length,by omega⟩
  rw [VT k] at hi
  have hk:k<aN.length:=by
   rcases Nat.lt_or_ge k aN.length with h'|h'
   ·exact h'
   simp [List.getElem?_eq_none h'] at hi
  have hkd:k<(vT.drop b9.length).length:=by omega
  obtain ⟨b',k1,k2⟩:=gN k _ (List.getElem?_eq_getElem hkd)
  rw [hi] at k2;cases k2
  refine .inr ⟨b9.length+k,(vT.drop b9.length)[k],?_,k1,?_⟩
  ·rw [←List.getElem?_drop];exact List.getElem?_eq_getElem hkd
  simp [jF]
 have Bs:∀j i,jF b9 bx.length j=some i→β' i=Kw j∧(bV vT j→bV (aO++aN) i):=by
  intro j i hj
  unfold jF at hj
  split at hj
  ·rename_i i' hs
   simp only [Option.some.injEq] at hj;subst hj
   obtain ⟨bi,zT⟩:=QG j i' hs
   have hil:=iS zT
   refine ⟨YX i' j (vR j i' hs),?_⟩
   rintro ⟨b0,e1,e2⟩
   have:=gO i' bi zT
   rw [Nat.zero_add,vR j i' hs] at this
   rcases this with ⟨j2,b02,b',c1,c2,c3,c4⟩|⟨c1,_⟩
   ·cases c1
    rw [e1] at c2;cases c2
    exact ⟨b',by rw [QI i' hil];exact c4,(ax.fU c3).1.trans e2⟩
   cases c1
  rename_i hs
  simp only [Option.some.injEq] at hj;subst hj
  have hge:b9.length≤j:=by
   rcases Nat.lt_or_ge j b9.length with h'|h'
   ·simp [h'] at hs
   exact h'
  refine ⟨by rw [abe];congr 1;omega,?_⟩
  rintro ⟨b0,e1,e2⟩
  have hd:(vT.drop b9.length)[j-b9.length]?=some b0:=by rw [List.getElem?_drop];rw [←e1];congr 1;omega
  obtain ⟨b',c1,c2⟩:=gN _ _ hd
  exact ⟨b',by rw [VT];exact c2,(ax.fU c1).1.trans e2⟩
 have QJ:∀aB,be Kw vT w' X0 aB→be β' (aO++aN) w' X aB:=by
  rintro aB ⟨k1,k2,k3⟩
  refine ⟨k1,fun hX=>k2 (.inl hX),?_⟩
  intro i b hi hl
  rcases hinv i b hi with ⟨c1,c2,c3⟩|⟨j,b0,c1,c2,c3⟩
  ·rw [Kx i c1 c2]
   exact fun he=>k2 (.inr ⟨i,b,c3,hl,c2,he⟩)
  rw [(Bs j i c3).1]
  exact k3 j b0 c1 ((ax.fU c2).2▸hl)
 have Ky:jC w' w' (be Kw vT w' X0) (be β' (aO++aN) w' X):=fun aB hb=>⟨QJ aB hb,rfl⟩
 have ex:Ext β bx w β' (aO++aN) w':=by
  refine ⟨tF.os,tF.tape,tF.output,tF.size,?_,tF.shape,?_,?_⟩
  ·intro k hk hl
   refine tF.block k hk ?_
   intro i b hi hlv
   obtain ⟨j,b',h3,h4,h5,_⟩:=uB i b hi hlv
   rw [←h5];exact hl j b' h3 h4
  ·intro i hi
   obtain ⟨b,qK,CL⟩:=hi
   have hil:=iS qK
   cases hc:dB i b9 0 with
   |some j=>
    obtain ⟨k1,k2⟩:=hm i j hc
    obtain ⟨c1,c2⟩:=tF.born j (k2 ⟨b,qK,CL⟩)
    have hbm:jF b9 bx.length j=some i:=by simp [jF,hidx i j hc]
    exact ⟨by rw [YX i j hc,c1,k1],(Bs j i hbm).2 c2⟩
   |none=>
    refine ⟨Kx i hil hc,b,?_,CL⟩
    rw [QI i hil]
    have:=gO i b qK
    rw [Nat.zero_add,hc] at this
    rcases this with ⟨_,_,_,c1,_⟩|⟨_,c2⟩
    ·cases c1
    exact c2
  intro i b hi hl
  rcases hinv i b hi with ⟨c1,c2,c3⟩|⟨j,b0,c1,c2,c3⟩
  ·exact .inr ⟨i,b,c3,hl,(Kx i c1 c2).symm⟩
  rw [(Bs j i c3).1]
  rcases tF.live j b0 c1 ((ax.fU c2).2▸hl) with h1|⟨j',b',h1,h2,h3⟩
  ·exact .inl h1
  obtain ⟨j2,b2,e1,e2,e3,_⟩:=uB j' b' h1 h2
  exact .inr ⟨j2,b2,e1,e2,e3.trans h3⟩
 refine ⟨β',ex,cx.step ex ?_ ?_,?_⟩
 ·intro i b hi
  rcases hinv i b hi with ⟨c1,c2,c3⟩|⟨j,b0,c1,c2,c3⟩
  ·refine .inl ⟨c3,fun hl=>tF.block _ (hlt i b c3 hl) ?_⟩
   intro k b' hk hlk he
   obtain ⟨j,b2,h3,h4,h5,h6⟩:=uB k b' hk hlk
   have:j=i:=cx.inj j i b2 b h3 c3 h4 hl (h5.trans he)
   subst this
   rw [vR k j h6] at c2;cases c2
  refine .inr ?_
  have GI:=TK.box j b0 c1
  rw [(Bs j i c3).1]
  cases b0 with
  |var cs=>
   simp only [ax.iq] at c2
   split at c2
   ·rename_i ys hys
    simp only [Option.some.injEq] at c2;subst c2
    simp only [dA] at GI ⊢
    obtain ⟨c,e,g1,g2⟩:=GI
    exact ⟨c,e,g1,kQ Bs QJ cs ys _ hys g2⟩
   simp at c2
  |row sz es=>
   simp only [ax.iq,Option.some.injEq] at c2;subst c2
   refine GI.imp id ?_
   rintro ⟨c,e,g1,g2⟩
   exact ⟨c,e,g1,av.mono Ky _ _ (fun _=>rfl) _ _ g2⟩
  |oh sz es=>
   simp only [ax.iq,Option.some.injEq] at c2;subst c2
   refine GI.imp id ?_
   rintro ⟨g1,g2⟩
   exact ⟨QJ _ g1,av.mono Ky _ _ (fun _=>rfl) _ _ g2⟩
  |it s p=>simp only [ax.iq,Option.some.injEq] at c2;subst c2;exact GI
  |mp ag es=>simp only [ax.iq,Option.some.injEq] at c2;subst c2;obtain ⟨ms,clock,h1,h2,h3⟩:=GI;exact ⟨ms,clock,h1,h2,bp.mono Ky _ _ _ h3⟩
  |dead=>simp only [ax.iq,Option.some.injEq] at c2;subst c2;trivial
  |bA=>simp only [ax.iq,Option.some.injEq] at c2;subst c2;trivial
 ·intro i j bi bj hi hj oc qB he
  rcases hinv i bi hi with ⟨c1,c2,c3⟩|⟨i',b0,c1,c2,c3⟩<;>rcases hinv j bj hj with ⟨d1,d2,d3⟩|⟨j',b0',d1,d2,d3⟩
  ·rw [Kx i c1 c2,Kx j d1 d2] at he
   exact cx.inj i j bi bj c3 d3 oc qB he
  ·rw [Kx i c1 c2,(Bs j' j d3).1] at he
   exact absurd (.inr ⟨i,bi,c3,oc,c2,he⟩) (TK.apart j' b0' d1 ((ax.fU d2).2▸qB))
  ·rw [(Bs i' i c3).1,Kx j d1 d2] at he
   exact absurd (.inr ⟨j,bj,d3,qB,d2,he.symm⟩) (TK.apart i' b0 c1 ((ax.fU c2).2▸oc))
  rw [(Bs i' i c3).1,(Bs j' j d3).1] at he
  have:=TK.inj i' j' b0 b0' c1 d1 ((ax.fU c2).2▸oc) ((ax.fU d2).2▸qB) he
  subst this
  rw [c3] at d3;exact Option.some.inj d3
 cases WI with
 |ret v0=>
  simp only [fm.iq] at hr
  split at hr
  ·rename_i v hv
   simp only [Option.some.injEq] at hr;subst hr
   cases e with
   |returned u=>exact sJ Bs QJ v0 v u hv hres
   |panicked ch=>exact hres.elim
   |outgrown=>exact hres.elim
  simp at hr
 |Nk v0=>
  simp only [fm.iq] at hr
  split at hr
  ·rename_i v hv
   simp only [Option.some.injEq] at hr;subst hr
   cases e with
   |returned u=>exact hres.elim
   |panicked ch=>
    obtain ⟨u,k1,k2⟩:=hres
    exact ⟨u,k1,sJ Bs QJ v0 v u hv k2⟩
   |outgrown=>exact hres.elim
  simp at hr
end
end Dem
end
section
open Go
namespace Dem
theorem aA {s:St} {P:St→Prop} (h:P s):rG (some s) P:=⟨h⟩
def YY (bx:List ax):List (Nat×ax)→List ax
 |[]=>bx
 |(i,b)::r=>YY (bx.set i b) r
def YZ (sl:List (Nat×AV)):List (Nat×AV)→List (Nat×AV)
 |[]=>sl
 |(i,v)::r=>YZ (put i v sl) r
def NH (s:St) (u:List (Nat×AV)) (b:List (Nat×ax)):St:=⟨YZ s.sl u,YY s.bx b⟩
theorem aZ {K:Nat} {A:(Ex→St→Prop)→St→Prop} {Q:Ex→St→Prop} {s:St} (nf:Nf) {σ:Type} (U:σ→List (Nat×AV)) (V:σ→List (Nat×ax)) (J:Nat→σ→Prop)
 (h:rG (yX K nf s) fun s0=>∃n0 v0,J n0 v0∧s0=NH s0 (U v0) (V v0)∧
  ∀n v,J n v→A (fun e s2=>nt (fun s2=>rG (yX K nf s2) (fun s3=>∃m v',(m<n∧J m v')∧s3=NH s0 (U v') (V v'))) Q e s2) (NH s0 (U v) (V v))):VS K A Q s:=by
 obtain ⟨h⟩:=h
 split at h
 ·rename_i s0 hn
  obtain ⟨n0,v0,hJ,hs,hr⟩:=h
  refine ⟨nf,fun n s1=>∃v,J n v∧s1=NH s0 (U v) (V v),n0,⟨?_⟩,?_⟩
  ·rw [hn];exact ⟨v0,hJ,hs⟩
  rintro n s1 ⟨v,hv,rfl⟩
  have e:(fun e s2=>nt (fun s2=>rG (yX K nf s2) (fun s3=>∃m v',(m<n∧J m v')∧s3=NH s0 (U v') (V v'))) Q e s2)=
   (fun e s2=>nt (fun s2=>rG (yX K nf s2) (fun s3=>∃m,m<n∧∃v,J m v∧s3=NH s0 (U v) (V v))) Q e s2):=by
   funext e s2
   congr 1
   funext s2
   congr 1
   funext s3
   apply propext
   constructor
   ·rintro ⟨m,v',⟨h1,h2⟩,h3⟩;exact ⟨m,h1,v',h2,h3⟩
   rintro ⟨m,h1,v',h2,h3⟩;exact ⟨m,v',⟨h1,h2⟩,h3⟩
  rw [←e];exact hr n v hv
 exact h.elim
theorem ai {p:Bool} {A B:Unit→Prop} (h1:p=true→A ()) (h2:p=false→B ()):wX (.d (.bool p)) A B:=.mk (And.intro h1 h2)
theorem mS {p:Bool} {A B:Unit→Prop} (hp:p=true) (h1:A ()):wX (.d (.bool p)) A B:=.mk (And.intro (fun _=>h1) (fun h=>by rw [hp] at h;cases h))
theorem qj {p:Bool} {A B:Unit→Prop} (hp:p=false) (h1:B ()):wX (.d (.bool p)) A B:=.mk (And.intro (fun h=>by rw [hp] at h;cases h) (fun _=>h1))
theorem gS {g:Bool} {c:Prop} {ds:List D} {K:List D→Prop} (ds':List D) (hc:c) (hd:ds=ds') (hK:K ds'):ol g c ds K:=⟨ds',fun _=>⟨hc,hd⟩,hK⟩
theorem WK {g:Bool} {c:Prop} {ds:List D} {K:List D→Prop} (ds':List D) (hc:c) (hd:ds=ds') (hK:K ds'):Qt g c ds K:=⟨ds',fun _=>⟨hc,hd⟩,hK⟩
theorem QK {g:Bool} {c:Prop} {ds:List D} {K:List D→Prop} (ds':List D) (h:g=true→c∧ds=ds') (hK:K ds'):ol g c ds K:=⟨ds',h,hK⟩
theorem bR {c:Prop} {v:AV} {bx:List ax} {K:AV→List ax→Prop} (v':AV) (aG:List ax) (hc:c) (hv:v=v') (hb:bx=aG) (hK:K v' aG):Qu c v bx K:=⟨v',aG,hc,hv,hb,hK⟩
theorem iX {g:Bool} {c:Prop} {v:AV} {K:AV→Prop} (v':AV) (h:g=true→c∧v=v') (hK:K v'):VK g c v K:=⟨v',h,hK⟩
theorem gI {g:Bool} {p K:Prop} (h:g=true→p) (k:K):xG g p∧K:=⟨⟨h⟩,k⟩
theorem pI {p:Bool} {a b K:Prop} (h:(p=true→a)∧(p=false→b)) (k:K):Mw p a b∧K:=⟨⟨h⟩,k⟩
section
variable {P:Program} {G:Nat→Option (List D)} {FC:Nat→List AV→List ax→fm→List ax→Prop} {kV:Prop} {f:Nat} {args args':List AV} {c:Prop} {bx tH iG:List ax} {v:AV} {K Kp:AV→List ax→Prop}
theorem gj (ho:kV) (h:FC f args' [] (.ret v) []) (hc:c) (hs:AV.shut.nj args'=true) (hf:v.flat=true) (hK:K v bx):qi FC kV f args (some (c,args')) bx K Kp:=
 ⟨ho,.inl ⟨c,args',rfl,hc,hs,.inl ⟨v,h,.inl hf,hK⟩⟩⟩
theorem HK (ho:kV) (h:FC f args' [] (.ret v) []) (hc:c) (hs:AV.shut.nj args'=true) (hz:eP [] args=some args') (hv:v.shut=true) (hK:K v bx):qi FC kV f args (some (c,args')) bx K Kp:=
 ⟨ho,.inl ⟨c,args',rfl,hc,hs,.inl ⟨v,h,.inr ⟨hz,hv⟩,hK⟩⟩⟩
theorem qn {sz n:Nat} {es:List (List D)} (ho:kV) (h:FC f args' [] (.ret (.ow 0 sz n)) [.row sz es]) (hc:c) (hs:AV.shut.nj args'=true) (hz:(∀r∈es,∀x∈r,x.flat=true)∨eP [] args=some args') (hK:K (.ow bx.length sz n) (bx++[.row sz es])):qi FC kV f args (some (c,args')) bx K Kp:=
 ⟨ho,.inl ⟨c,args',rfl,hc,hs,.inr ⟨sz,n,es,h,hz,hK⟩⟩⟩
theorem VU {fz:Option (Prop×List AV)} (ho:kV) (hfz:fz=some (c,args')) (hc:c) (h:FC f args' (eF bx args) (.ret v) iG) (hK:K v iG):qi FC kV f args fz bx K Kp:=
 ⟨ho,.inr ⟨args',eF bx args,.ret v,iG,.inr ⟨⟨c,hfz,hc⟩,rfl⟩,h,hK⟩⟩
theorem dn {fz:Option (Prop×List AV)} (ho:kV) (h:FC f args bx (.ret v) iG) (hK:K v iG):qi FC kV f args fz bx K Kp:=
 ⟨ho,.inr ⟨args,bx,.ret v,iG,.inl ⟨rfl,rfl⟩,h,hK⟩⟩
theorem HL {dr g:Bool} {v:AV} {K:AV→Prop} (h:g=true→kV∧c∧FC f args' [] (.ret v) []) (hs:AV.bL.cL [] args'=true) (hf:v.flat=true) (hK:K v):pH FC dr g kV f args bx (some (c,args')) K:=
 ⟨.inr ⟨v,fun hg=>⟨(h hg).1,args',[],⟨c,rfl,(h hg).2.1⟩,hs,⟨false,rfl,fun h=>by cases h⟩,by simp,(h hg).2.2,.inl hf⟩,hK⟩⟩
theorem mT {dr g:Bool} {v:AV} {K:AV→Prop} (h:g=true→kV∧c∧FC f args' [] (.ret v) []) (hs:AV.bL.cL [] args'=true) (hz:eP [] args=some args') (hf:v.shut=true) (hK:K v):pH FC dr g kV f args bx (some (c,args')) K:=
 ⟨.inr ⟨v,fun hg=>⟨(h hg).1,args',[],⟨c,rfl,(h hg).2.1⟩,hs,⟨false,rfl,fun h=>by cases h⟩,by simp,(h hg).2.2,.inr ⟨hz,hf⟩⟩,hK⟩⟩
theorem WL {P:Program} {G:Nat→Option (List D)} {dr g:Bool} {v:AV} {K:AV→Prop} {jG:List AV} {aE:List ax} (ks:List Bool) (b9:List Nat) (ho:g=true→kV∧c∧bg P G f jG aE (.ret v) aE)
 (hn:AV.bL.cL (kill ks bx) args'=true) (hl:dI false (kill ks bx) (kill ks bx)=true) (hv:v.flat=true∨eP [] args=some args'∧v.shut=true)
 (ha:AV.vQ (fun b=>dB b b9 0) args'=some jG) (hb:fD (fun b=>dB b b9 0) (kill ks bx) b9=some aE) (hb':Br b9 (kill ks bx) aE=some (kill ks bx)) (hr:fm.iq (jF b9 (kill ks bx).length) (.ret v)=some (.ret v))
 (hK:K v):pH (bg P G) dr g kV f args bx (some (c,args')) K:=by
 refine ⟨.inr ⟨v,fun hg=>⟨(ho hg).1,args',kill ks bx,⟨c,rfl,(ho hg).2.1⟩,hn,⟨false,hl,fun h=>by cases h⟩,?_,eZ b9 ha hb hr hb' (ho hg).2.2,hv⟩,hK⟩⟩
 intro i b hi dj
 obtain ⟨b0,h1,h2⟩:=kN ks bx i b hi
 rcases h2 with rfl|⟨rfl,h3⟩
 ·exact ⟨_,h1,dj,fun _=>rfl⟩
 exact ⟨b0,h1,h3,fun h=>by simp [ax.live] at h⟩
theorem TL {P:Program} {G:Nat→Option (List D)} {dr g:Bool} {v:AV} {K:AV→Prop} {jG:List AV} {aE:List ax} (ks:List Bool) (b9:List Nat) (ho:g=true→kV∧c∧bg P G f jG aE (.ret v) aE)
 (hn:AV.bL.cL (kill ks bx) args'=true) (hz:eP [] args=some args') (hl:dI true (kill ks bx) (kill ks bx)=true) (hv:v.flat=true∨eP [] args=some args'∧v.shut=true)
 (ha:AV.vQ (fun b=>dB b b9 0) args'=some jG) (hb:fD (fun b=>dB b b9 0) (kill ks bx) b9=some aE) (hb':Br b9 (kill ks bx) aE=some (kill ks bx)) (hr:fm.iq (jF b9 (kill ks bx).length) (.ret v)=some (.ret v))
 (hK:K v):pH (bg P G) dr g kV f args bx (some (c,args')) K:=by
 refine ⟨.inr ⟨v,fun hg=>⟨(ho hg).1,args',kill ks bx,⟨c,rfl,(ho hg).2.1⟩,hn,⟨true,hl,fun _=>hz⟩,?_,eZ b9 ha hb hr hb' (ho hg).2.2,hv⟩,hK⟩⟩
 intro i b hi dj
 obtain ⟨b0,h1,h2⟩:=kN ks bx i b hi
 rcases h2 with rfl|⟨rfl,h3⟩
 ·exact ⟨_,h1,dj,fun _=>rfl⟩
 exact ⟨b0,h1,h3,fun h=>by simp [ax.live] at h⟩
theorem WM {P:Program} {G:Nat→Option (List D)} {g:Bool} {v:AV} {K:AV→Prop} {fz:Option (Prop×List AV)} {jG:List AV} {aE:List ax} (b9:List Nat) (ho:g=true→kV∧bg P G f jG aE (.ret v) aE)
 (ha:AV.vQ (fun b=>dB b b9 0) args=some jG) (hb:fD (fun b=>dB b b9 0) bx b9=some aE) (hb':Br b9 bx aE=some bx) (hr:fm.iq (jF b9 bx.length) (.ret v)=some (.ret v))
 (hK:K v):pH (bg P G) false g kV f args bx fz K:=
 ⟨.inl ⟨rfl,v,fun hg=>⟨(ho hg).1,eZ b9 ha hb hr hb' (ho hg).2⟩,hK⟩⟩
theorem MB {x sz n:Nat} {es:List (List D)} {at_:Option ax} {K:AV→ax→Prop} (ho:kV) (h:FC f args' [] (.ret (.ow 0 sz n)) [.row sz es]) (hc:c) (hs:AV.shut.nj args'=true) (hz:(∀r∈es,∀x∈r,x.flat=true)∨eP [] args=some args') (TM:at_=some .bA)
 (hK:K (.ow x sz n) (.row sz es)):VL FC kV f args (some (c,args')) at_ x K:=⟨args',sz,n,es,ho,⟨c,rfl,hc⟩,hs,h,hz,TM,hK⟩
structure QL (r:Option fm) (b:Option (List ax)) (K:AV→List ax→Prop):Prop where
 ok:match r,b with
  |some (.ret v),some bx=>K v bx
  |_,_=>False
theorem bK {v:AV} {bx:List ax} {K:AV→List ax→Prop} (h:K v bx):QL (some (.ret v)) (some bx) K:=⟨h⟩
theorem cE {fz:Option (Prop×List AV)} (b9:List Nat) {jG:List AV} {aE vT:List ax} {v0:AV} (ho:kV)
 (ha:AV.vQ (fun b=>dB b b9 0) args=some jG) (hb:fD (fun b=>dB b b9 0) bx b9=some aE) (h:bg P G f jG aE (.ret v0) vT)
 (hK:QL (fm.iq (jF b9 bx.length) (.ret v0)) (Br b9 bx vT) K):qi (bg P G) kV f args fz bx K Kp:=by
 obtain ⟨hK⟩:=hK
 split at hK
 ·rename_i v aG hr hb'
  exact dn ho (eZ b9 ha hb hr hb' h) hK
 exact hK.elim
end
section
variable {n:Nat} {c d:Prop} {v u:AV} {bx aG:List ax} {res:fm} {fz:Option (Prop×AV)}
theorem an (hc:c) (hd:d) (hw:u.within n=true) (hb:aG=(qQ bx v).take n) (WN:cm n aG=true) (hr:res=.ret u):Bq n c v bx (some (d,u)) res aG:=
 ⟨hc,.inr (.inl ⟨[],d,u,rfl,hd,hw,hb,WN,hr⟩)⟩
theorem Bt (ks:List Bool) (hc:c) (hd:d) (hw:u.within n=true) (hb:aG=(kill ks (qQ bx v)).take n) (WN:cm n aG=true) (hr:res=.ret u):Bq n c v bx (some (d,u)) res aG:=
 ⟨hc,.inr (.inl ⟨ks,d,u,rfl,hd,hw,hb,WN,hr⟩)⟩
theorem QM (hc:c) (hb:aG=bx) (hr:res=.ret v):Bq n c v bx fz res aG:=⟨hc,.inl ⟨hr,hb⟩⟩
theorem Fb {k sz m:Nat} {es:List (List D)} (hc:c) (hk:bx[k]?=some (.row sz es)) (h1:Nat.ble n k=true) (h2:Nat.ble n bx.length=true) (WN:cm n (bx.take n)=true) (hr:res=.ret (.ow n sz m)) (hb:aG=bx.take n++[.row sz es]):Bq n c (.ow k sz m) bx fz res aG:=
 ⟨hc,.inr (.inr (.inl ⟨k,sz,m,es,rfl,hk,Nat.le_of_ble_eq_true h1,Nat.le_of_ble_eq_true h2,WN,hr,hb⟩))⟩
theorem Kz {sz:Nat} (hc:c) (h2:Nat.ble n bx.length=true) (WN:cm n (bx.take n)=true) (hr:res=.ret (.ow n sz 0)) (hb:aG=bx.take n++[.row sz []]):Bq n c (.cl []) bx fz res aG:=
 ⟨hc,.inr (.inr (.inr ⟨sz,rfl,Nat.le_of_ble_eq_true h2,WN,hr,hb⟩))⟩
end
theorem fJ {P:Program} {G:Nat→Option (List D)} {f b sz n:Nat} {args:List AV} {bx aG:List ax} {res:fm}
 (h:∀c,n≤c→(n=0→c=0)→bg P G f (.vw b sz 0 n c true::args) bx res aG):bg P G f (.ow b sz n::args) bx res aG:=by
 intro β w vs X cx hx
 simp only [aj] at hx
 obtain ⟨u,us,rfl,hx,hxs⟩:=hx
 simp only [ah] at hx
 obtain ⟨hb,⟨rfl,base,rfl⟩|⟨h0,cap,c,e,f',rfl,h1,h2,h3⟩⟩:=hx
 ·refine h 0 (Nat.le_refl _) (fun _=>rfl) β w _ X cx ?_
  simp only [aj,ah]
  exact ⟨_,us,rfl,⟨hb,base,0,#[],0,(0,0),rfl,Nat.le_refl _,Nat.le_refl _,fun _=>rfl,.inl rfl⟩,hxs⟩
 refine h cap h1 (fun h=>absurd h h0) β w _ X cx ?_
 simp only [aj,ah]
 exact ⟨_,us,rfl,⟨hb,_,cap,c,e,f',rfl,h1,Nat.le_refl _,fun _=>rfl,.inr ⟨by simp,h2,by simpa using h3⟩⟩,hxs⟩
theorem wrap64 {x:Int} (h0:-9223372036854775808≤x) (h1:x<9223372036854775808):IntKind.i64.wrap x=x:=by
 simp [IntKind.wrap,IntKind.signed,IntKind.bits];omega
end Dem
end
section
open Go
namespace Dem
def qU:AV:=.d (.int .u64 0)
def qI:AV:=.d (.int .i64 0)
def qS:AV:=.d (.str [])
def qF:AV:=.d (.bool false)
def qY:AV:=.d (.int .u8 0)
def qC:AV:=.cl []
def oV:Option TI:=some ⟨1,8,.other,.k .nilFunc,true,none⟩
def qD:Option TI:=some ⟨1,0,.other,.any,true,none⟩
def VV:Option TI:=some ⟨1,8,.other,.k .oW,true,none⟩
def Y0:Option TI:=some ⟨1,16,.iface,.k .nilIface,true,none⟩
def wT4:Option TI:=some ⟨1,1,.int .u8,qY,true,none⟩
def wT5:Option TI:=some ⟨2,24,.struct [(0,9),(1,3)],.agg [qS,qI],true,none⟩
def wT6:Option TI:=some ⟨1,8,.int .i64,qI,true,none⟩
def wT7:Option TI:=some ⟨1,16,.str,qS,true,none⟩
def wT8:Option TI:=some ⟨1,8,.int .u64,qU,true,none⟩
def wT9:Option TI:=some ⟨1,4,.int .i32,.d (.int .i32 0),true,none⟩
def WO:Option TI:=some ⟨0,0,.struct [],.agg [],true,none⟩
def Y1:Option TI:=some ⟨4,24,.struct [(0,2),(1,3),(2,4),(3,6)],.agg [qI,qI,qF,qY],true,none⟩
def Y2:Option TI:=some ⟨2,24,.struct [(0,9),(1,12)],.agg [qS,qU],false,none⟩
def Y3:Option TI:=some ⟨1,8,.struct [(0,17)],.agg [.k .oW],false,none⟩
def Y4:Option TI:=some ⟨2,32,.struct [(0,23),(1,22)],.agg [qU,qC],true,none⟩
def Y5:Option TI:=some ⟨3,24,.struct [(0,23),(1,23),(2,3)],.agg [qU,qU,qI],true,none⟩
def Y6:Option TI:=some ⟨2,48,.struct [(0,34),(1,35)],.agg [qC,qC],true,none⟩
def Y7:Option TI:=some ⟨1,24,.slice 82,qC,true,none⟩
def Y8:Option TI:=some ⟨11,200,.struct [(0,23),(1,23),(2,37),(4,38),(5,39),(6,40),(7,26),(9,26)],.agg [qU,qU,qC,qC,qC,qC,qC,qU,qC,qU,qC],true,none⟩
def Y9:Option TI:=some ⟨5,5,.struct [(0,5),(1,5),(2,5),(3,5),(4,5)],.agg [qY,qY,qY,qY,qY],true,none⟩
def Za:Option TI:=some ⟨4,32,.array 4 23,.agg [qU,qU,qU,qU],true,none⟩
def Zb:Option TI:=some ⟨9,96,.struct [(0,9),(1,50),(5,3),(6,3),(7,3),(8,51)],.agg [qS,qU,qU,qU,qU,qI,qI,qI,qC],true,none⟩
def Zc:Option TI:=some ⟨12,120,.struct [(0,23),(1,53),(10,4),(11,3)],.agg [qU,qS,qU,qU,qU,qU,qI,qI,qI,qC,qF,qI],true,none⟩
def Zd:Option TI:=some ⟨6,56,.struct [(0,23),(1,9),(2,50)],.agg [qU,qS,qU,qU,qU,qU],true,none⟩
def Ze:Option TI:=some ⟨9,80,.struct [(0,9),(1,50),(5,50)],.agg [qS,qU,qU,qU,qU,qU,qU,qU,qU],true,none⟩
def Zf:Option TI:=some ⟨2,32,.struct [(0,9),(1,9)],.agg [qS,qS],true,none⟩
def Zg:Option TI:=some ⟨7,80,.struct [(0,9),(1,50),(5,93),(6,4)],.agg [qS,qU,qU,qU,qU,qC,qF],true,none⟩
def Zh:Option TI:=some ⟨11,200,.struct [(0,42)],.agg [qU,qU,qC,qC,qC,qC,qC,qU,qC,qU,qC],true,none⟩
def Zi:Option TI:=some ⟨2,16,.struct [(0,23),(1,3)],.agg [qU,qI],true,none⟩
def Zj:Option TI:=some ⟨6,72,.struct [(0,9),(1,50),(5,93)],.agg [qS,qU,qU,qU,qU,qC],true,none⟩
def Zk:Option TI:=some ⟨1,8,.struct [(0,181)],.agg [.k .nilFunc],true,none⟩
def Zl:Option TI:=some ⟨4,32,.struct [(0,50)],.agg [qU,qU,qU,qU],true,none⟩
def Zm:Option TI:=some ⟨2,8,.struct [(0,21),(1,21)],.agg [.d (.int .i32 0),.d (.int .i32 0)],true,none⟩
def Zn:Option TI:=some ⟨2,32,.struct [(0,268),(1,85)],.agg [.k .oW,qC],true,none⟩
def Zo:Option TI:=some ⟨2,2,.struct [(0,5),(1,5)],.agg [qY,qY],true,none⟩
def Zp:Option TI:=some ⟨4,40,.struct [(0,17),(1,17),(2,17),(3,9)],.agg [.k .oW,.k .oW,.k .oW,qS],false,none⟩
def Zq:Option TI:=some ⟨0,0,.struct [(0,333)],.agg [],false,none⟩
def Zr:Option TI:=some ⟨11,48,.struct [(0,12),(1,12),(2,328),(3,336),(4,5),(5,5),(6,337),(7,338),(8,299),(9,339),(10,340)],.agg [qU,qU,.d (.int .u32 0),qY,qY,qY,qY,.k .nilFunc,.k .oW,.d (.int .i32 0),.d (.int .i32 0)],false,none⟩
def abj (t:Nat):Option TI:=(if t<9 then (if t<5 then if t=0 then qD else if t=2 then wT6 else if t=3 then wT6 else if t=4 then some ⟨1,1,.bool,qF,true,none⟩ else oV else if t=5 then wT4 else if t=6 then wT4 else if t=7 then Y1 else if t=8 then Y1 else oV) else (if t<13 then if t=9 then wT7 else if t=10 then wT7 else if t=11 then wT7 else if t=12 then wT8 else oV else if t=13 then Y2 else if t=14 then Y2 else if t=15 then VV else if t=16 then VV else oV))
def abk (t:Nat):Option TI:=(if t<26 then (if t<21 then if t=17 then VV else if t=18 then Y3 else if t=19 then Y3 else if t=20 then Y0 else oV else if t=21 then wT9 else if t=22 then some ⟨1,24,.slice 29,qC,true,none⟩ else if t=23 then wT8 else if t=25 then Y4 else oV) else (if t<33 then if t=26 then Y4 else if t=28 then Y5 else if t=29 then Y5 else if t=30 then qD else oV else if t=33 then some ⟨1,24,.slice 45,qC,true,none⟩ else if t=34 then some ⟨1,24,.slice 99,qC,true,none⟩ else if t=35 then some ⟨1,24,.slice 78,qC,true,none⟩ else if t=36 then Y6 else oV))
def abl (t:Nat):Option TI:=(if t<49 then (if t<41 then if t=37 then Y6 else if t=38 then Y7 else if t=39 then some ⟨1,24,.slice 61,qC,true,none⟩ else if t=40 then some ⟨1,24,.slice 118,qC,true,none⟩ else oV else if t=41 then Y8 else if t=42 then Y8 else if t=44 then Y9 else if t=45 then Y9 else oV) else (if t<53 then if t=49 then Za else if t=50 then Za else if t=51 then some ⟨1,24,.slice 172,qC,true,none⟩ else if t=52 then Zb else oV else if t=53 then Zb else if t=55 then wT6 else if t=56 then qD else if t=60 then Zc else oV))
def abm (t:Nat):Option TI:=(if t<79 then (if t<72 then if t=61 then Zc else if t=62 then qD else if t=66 then qD else if t=70 then some ⟨1,2,.int .u16,.d (.int .u16 0),true,none⟩ else oV else if t=72 then qD else if t=75 then qD else if t=77 then Zd else if t=78 then Zd else oV) else (if t<85 then if t=79 then some ⟨1,24,.slice 9,qC,true,none⟩ else if t=81 then Ze else if t=82 then Ze else if t=83 then qD else oV else if t=85 then some ⟨1,24,.slice 5,qC,true,none⟩ else if t=91 then qD else if t=93 then some ⟨1,24,.slice 95,qC,true,none⟩ else if t=94 then Zf else oV))
def abn (t:Nat):Option TI:=(if t<115 then (if t<101 then if t=95 then Zf else if t=96 then qD else if t=98 then Zg else if t=99 then Zg else oV else if t=101 then qD else if t=103 then some ⟨1,24,.slice 177,qC,true,none⟩ else if t=105 then Zh else if t=106 then Zh else oV) else (if t<148 then if t=115 then qD else if t=117 then Zi else if t=118 then Zi else if t=136 then qD else oV else if t=148 then WO else if t=149 then WO else if t=150 then qD else if t=151 then VV else oV))
def abo (t:Nat):Option TI:=(if t<183 then (if t<172 then if t=152 then wT5 else if t=153 then wT5 else if t=156 then Y7 else if t=171 then some ⟨3,48,.struct [(0,9),(1,4),(2,79)],.agg [qS,qF,qC],true,none⟩ else oV else if t=172 then some ⟨3,48,.struct [(0,9),(1,4),(2,79)],.agg [qS,qF,qC],true,some ("demesne/sel.holds",196)⟩ else if t=174 then qD else if t=176 then Zj else if t=177 then Zj else oV) else (if t<203 then if t=183 then some ⟨1,8,.map 23 3,.k .Ez,true,none⟩ else if t=188 then Zk else if t=189 then Zk else if t=201 then wT8 else oV else if t=203 then some ⟨1,24,.slice 3,qC,true,none⟩ else if t=206 then qD else if t=209 then qD else if t=213 then qD else oV))
def abp (t:Nat):Option TI:=(if t<237 then (if t<226 then if t=214 then qD else if t=219 then Zl else if t=220 then Zl else if t=225 then some ⟨1,24,.slice 227,qC,true,none⟩ else oV else if t=226 then Zm else if t=227 then Zm else if t=228 then some ⟨6,24,.array 3 227,.agg [.d (.int .i32 0),.d (.int .i32 0),.d (.int .i32 0),.d (.int .i32 0),.d (.int .i32 0),.d (.int .i32 0)],true,none⟩ else if t=229 then some ⟨4,16,.array 2 227,.agg [.d (.int .i32 0),.d (.int .i32 0),.d (.int .i32 0),.d (.int .i32 0)],true,none⟩ else oV) else (if t<255 then if t=237 then qD else if t=247 then qD else if t=249 then qD else if t=252 then qD else oV else if t=255 then qD else if t=257 then qD else if t=260 then qD else if t=266 then some ⟨1,24,.slice 23,qC,true,none⟩ else oV))
def abq (t:Nat):Option TI:=(if t<280 then (if t<273 then if t=268 then VV else if t=269 then Zn else if t=270 then Zn else if t=272 then Y0 else oV else if t=273 then Y0 else if t=274 then qD else if t=277 then qD else if t=278 then qD else oV) else (if t<286 then if t=280 then qD else if t=282 then qD else if t=284 then qD else if t=285 then some ⟨3,24,.array 3 23,.agg [qU,qU,qU],true,none⟩ else oV else if t=286 then qD else if t=292 then qD else if t=294 then Y0 else if t=295 then Y0 else oV))
def abr (t:Nat):Option TI:=(if t<318 then (if t<306 then if t=299 then VV else if t=303 then VV else if t=304 then wT5 else if t=305 then wT5 else oV else if t=306 then WO else if t=310 then some ⟨0,0,.struct [],.agg [],true,some ("demesne/sel.holds",267)⟩ else if t=311 then some ⟨1,24,.slice 9,qC,true,some ("demesne/sel.holds",268)⟩ else if t=315 then VV else oV) else (if t<326 then if t=318 then qD else if t=320 then qD else if t=324 then some ⟨256,256,.array 256 5,.agg [qY,qY,qY,qY,qY,qY,qY,qY,qY,qY,qY,qY,qY,qY,qY,qY,qY,qY,qY,qY,qY,qY,qY,qY,qY,qY,qY,qY,qY,qY,qY,qY,qY,qY,qY,qY,qY,qY,qY,qY,qY,qY,qY,qY,qY,qY,qY,qY,qY,qY,qY,qY,qY,qY,qY,qY,qY,qY,qY,qY,qY,qY,qY,qY,qY,qY,qY,qY,qY,qY,qY,qY,qY,qY,qY,qY,qY,qY,qY,qY,qY,qY,qY,qY,qY,qY,qY,qY,qY,qY,qY,qY,qY,qY,qY,qY,qY,qY,qY,qY,qY,qY,qY,qY,qY,qY,qY,qY,qY,qY,qY,qY,qY,qY,qY,qY,qY,qY,qY,qY,qY,qY,qY,qY,qY,qY,qY,qY,qY,qY,qY,qY,qY,qY,qY,qY,qY,qY,qY,qY,qY,qY,qY,qY,qY,qY,qY,qY,qY,qY,qY,qY,qY,qY,qY,qY,qY,qY,qY,qY,qY,qY,qY,qY,qY,qY,qY,qY,qY,qY,qY,qY,qY,qY,qY,qY,qY,qY,qY,qY,qY,qY,qY,qY,qY,qY,qY,qY,qY,qY,qY,qY,qY,qY,qY,qY,qY,qY,qY,qY,qY,qY,qY,qY,qY,qY,qY,qY,qY,qY,qY,qY,qY,qY,qY,qY,qY,qY,qY,qY,qY,qY,qY,qY,qY,qY,qY,qY,qY,qY,qY,qY,qY,qY,qY,qY,qY,qY,qY,qY,qY,qY,qY,qY,qY,qY,qY,qY,qY,qY,qY,qY,qY,qY,qY,qY],true,none⟩ else if t=325 then Zo else oV else if t=326 then Zo else if t=327 then some ⟨32,32,.array 16 326,.agg [qY,qY,qY,qY,qY,qY,qY,qY,qY,qY,qY,qY,qY,qY,qY,qY,qY,qY,qY,qY,qY,qY,qY,qY,qY,qY,qY,qY,qY,qY,qY,qY],true,none⟩ else if t=328 then some ⟨1,4,.int .u32,.d (.int .u32 0),true,none⟩ else if t=329 then qD else oV))
def abt (t:Nat):Option TI:=(if t<336 then (if t<333 then if t=331 then Zp else if t=332 then Zp else oV else if t=333 then some ⟨0,0,.array 0 16,.agg [],true,none⟩ else if t=334 then Zq else if t=335 then Zq else oV) else (if t<340 then if t=336 then wT4 else if t=337 then wT4 else if t=339 then wT9 else oV else if t=340 then wT9 else if t=341 then Zr else if t=342 then Zr else oV))
def tb (t:Nat):Option TI:=(if t<152 then (if t<37 then (if t<17 then abj t else abk t) else (if t<61 then abl t else (if t<95 then abm t else abn t))) else (if t<268 then (if t<214 then abo t else abp t) else (if t<299 then abq t else (if t<331 then abr t else abt t))))
def tT (t:Nat):Option TI:=if t<345 then tb t else none
theorem Zs:(List.range 345).map (qz Go.Proofs.Tryz.prog)=(List.range 345).map tb:=by kernel_rfl
def QN:Bool:=(List.range 345).all fun t=>match tb t with
 |some ti=>match ti.kd with
  |.struct fs=>fs.all fun f=>(tT f.2).isSome
  |_=>true
 |none=>true
theorem HM:QN=true:=by kernel_rfl
theorem KA:iH Go.Proofs.Tryz.prog tT:=by
 refine ⟨?_,?_,?_⟩
 ·intro t ti h
  unfold tT at h
  split at h
  ·rename_i ht'
   have e:=congrArg (fun l=>l[t]?) Zs
   simp only [List.getElem?_map,List.getElem?_range ht',Option.map_some,Option.some.injEq] at e
   rw [e,h]
  cases h
 ·intro t ti fs h hk f hf
  unfold tT at h
  split at h
  ·rename_i ht'
   have hall:=List.all_eq_true.1 HM t (by simp [ht'])
   simp only [h,hk] at hall
   have:=List.all_eq_true.1 hall f hf
   exact Option.isSome_iff_exists.1 this
  cases h
 exact Nat.le_of_ble_eq_true (by kernel_rfl)
def gl (g:Nat):Option (List D):=
 bif Nat.beq g 0 then some [.int .i32 97,.int .i32 122,.int .i32 945,.int .i32 969,.int .i32 1072,.int .i32 1103] else
 bif Nat.beq g 1 then some [.int .i32 48,.int .i32 57,.int .i32 45,.int .i32 45] else none
def FC:Nat→List AV→List ax→fm→List ax→Prop:=bg Go.Proofs.Tryz.prog gl
theorem nS:kX Go.Proofs.Tryz.prog tT gl:=Tu KA (by kernel_rfl)
end Dem
end
section
open Go
namespace Dem
theorem HN (tS tR:TypeId) (a:Addr) (ba:Option Addr) (la ca lb cb:Nat):∃(m:String) (ch:Sem Nat),
 Extern.SlicesOverlaps.overlaps #[tS,tS] #[tR] #[.slice (some a) la ca,.slice ba lb cb]=(do
 let .slice elem ←underlying tS|stuck m
 let size ←Go.sizeOf elem
 match ba with
 |some b=>
  if la=0∨lb=0∨size=0 then pure (Value.bool false)
  else if a.block !=b.block&&(←frozen a)&&(←frozen b) then unsupported .addressObserved
  else do
   if a.block !=b.block then do
    noView a;noView b
    if ←mayBeOne a b then return Value.bool ((←ch)==1)
   pure (Value.bool (a.block==b.block&&a.off<b.off+lb*size&&b.off<a.off+la*size))
 |none=>pure (Value.bool false)):=by
 apply Exists.intro
 apply Exists.intro
 cases ba with
 |some b=>rfl
 |none=>rfl
theorem xK {P:Program} (w:World) (tS tR e:TypeId) (ht:P.underlying tS=some (.slice e)) {size:Nat} (hz:∀w,(Go.sizeOf e).run P w=.ok size w)
 (a:Addr) (ba:Option Addr) (la ca lb cb:Nat) {tA:TypeId} {kA:Nat} (Zt:w.shape? a.block=some (tA,kA)) (hkA:kA≠0)
 (hb:lb=0∨∃b c e',ba=some b∧b.spot=none∧a.block≠b.block∧w.heap[b.block]?=some (.cells c e' (0,0))):
 (Extern.SlicesOverlaps.overlaps #[tS,tS] #[tR] #[.slice (some a) la ca,.slice ba lb cb]).run P w=.ok (.bool false) w:=by
 have kW:(underlying tS).run P w=.ok (.slice e) w:=aQ ht
 obtain ⟨m,ch,e⟩:=HN tS tR a ba la ca lb cb
 rw [e]
 clear e
 cases ba with
 |none=>simp [kW,hz]
 |some b=>
 by_cases h0:la=0∨lb=0∨size=0
 ·simp [kW,hz,h0]
 rcases hb with hb|⟨b',c,e',hbe,hsp,hne,hh⟩
 ·exact absurd (.inr (.inl hb)) h0
 simp only [Option.some.injEq] at hbe;subst hbe
 have hnb:(a.block !=b.block)=true:=by simpa using hne
 have abv:(a.block==b.block)=false:=by simpa using hne
 have Ns:w.shape? b.block=some (e',c.size):=by simp [World.shape?,hh]
 have hf:∀off sp,w.frozen? {block:=b.block,off:=off,spot:=sp}=false:=by intro off sp;simp [World.frozen?,hh]
 have hfb:w.frozen? b=false:=hf _ _
 cases kA with
 |zero=>exact absurd rfl hkA
 |succ kA=>
 cases h1:w.frozen? a<;>cases h2:w.frozen? {block:=a.block,off:=kA+1}<;>
  simp [kW,hz,h0,hnb,abv,frozen,noView,Go.viewAt,mayBeOne,stringish,shape,Sem.run,Zt,Ns,hfb,hf,h1,h2]
theorem ir {P:Program} {G:Nat→Option (List D)} {T:Nat→Option TI} (hT:iH P T) {f:Nat} {fn:Func} {tS tR:TypeId} (hf:P.funcs[f]?=some fn) (hname:(fn.name== "runtime.NumGoroutine")=false)
 (hb:fn.body.isNone=true) (hn:Extern.findNext fn=none) (he:Extern.find fn=some (Extern.SlicesOverlaps.overlaps #[tS,tS] #[tR])) {te:TI} (hel:elemOf T tS=some te)
 {b sz off n c:Nat} {ex:Bool} {es:List (List D)} {x:D} {row:List D} {xs:List (List D)} {bx:List ax} (sB:bx[b]?=some (.row sz es)) (hne:es≠[]):
 bg P G f [.d (.sl ((x::row)::xs)),.vw b sz off n c ex] bx (.ret (.d (.bool false))) bx:=by
 intro β w vs X cx hx
 simp only [aj,ah,aK] at hx
 obtain ⟨u1,us1,rfl,⟨base,cap,rfl,_,h1⟩,u2,PS,rfl,⟨_,QO,Tj,cs,e2,f2,rfl,k1,k2,k3,k4⟩,rfl⟩:=hx
 obtain ⟨ti,e,t1,t2,t3⟩:=eG hel
 have kW:=fB hT t1 t2
 obtain ⟨ei,ed,g1,g2,g3,g4,g5,g6⟩:=aJ (hT.ti _ _ t3)
 rcases h1 with h1|⟨aB,o,sz2,rfl,hok,hrows⟩
 ·simp at h1
 simp only [av,aY] at hrows
 obtain ⟨_,⟨⟨u,hcell,_⟩,_⟩,_⟩:=hrows
 have Zt:∃tA kA,w.shape? aB=some (tA,kA)∧kA≠0:=by
  simp only [World.cell?] at hcell
  split at hcell
  ·rename_i ca ea fa hh
   refine ⟨ea,ca.size,by simp [World.shape?,hh],?_⟩
   intro h0
   simp at hcell
   obtain ⟨hlt,_⟩:=Array.getElem?_eq_some_iff.1 hcell
   omega
  simp at hcell
 obtain ⟨tA,kA,Zt,hkA⟩:=Zt
 have cr:(ax.row sz es).live=true:=by cases es<;>simp_all [ax.live]
 have hrun:=xK (P:=P) w tS tR e kW (fun w=>bN g1) ⟨aB,o,none⟩ QO (xs.length+1) cap n Tj Zt hkA (by
  rcases k4 with k4|⟨rfl,k5,k6⟩
  ·left;omega
  rcases cx.box _ _ sB with h0|⟨c3,e3,j1,j2⟩
  ·exact absurd h0 hne
  exact .inr ⟨_,c3,e3,rfl,rfl,fun heq=>hok.2.2 b _ sB cr heq.symm,j1⟩)
 refine .inr ⟨.bool false,w,?_,β,Ext.refl _ _ _,cx,by simp only [fC,ah,aK]⟩
 rw [run_callFunc_extern hf hname hb hn he]
 have e1:(({toList:=[.slice (some ⟨aB,o,none⟩) ((x::row)::xs).length cap,.slice QO n Tj]}:Array Value))=#[.slice (some ⟨aB,o,none⟩) (xs.length+1) cap,.slice QO n Tj]:=rfl
 rw [e1,hrun]
 rfl
end Dem
end
section
open Go
namespace Dem
section
variable {P:Program} {G:Nat→Option (List D)} {bx:List ax}
theorem HO {f:Nat} {args oA:List AV} {v:AV} (ks:List Bool) (hz:eP bx args=some oA) (hn:AV.bL.cL (kill ks bx) oA=true) (hl:dI false (kill ks bx) (kill ks bx)=true)
 (hv:v.flat=true∨eP [] args=some oA∧v.shut=true) (h:bg P G f oA (kill ks bx) (.ret v) (kill ks bx)):bg P G f args bx (.ret v) bx:=by
 intro β w vs X cx hx
 refine jD.mono (yM cx hx ⟨oA,kill ks bx,hz,hn,⟨false,hl,fun h=>by cases h⟩,?_,h,hv⟩) ?_
 ·intro i b hi dj
  obtain ⟨b0,h1,h2⟩:=kN ks bx i b hi
  rcases h2 with rfl|⟨rfl,h3⟩
  ·exact ⟨_,h1,dj,fun _=>rfl⟩
  exact ⟨b0,h1,h3,fun h=>by simp [ax.live] at h⟩
 rintro e w' ⟨u,rfl,h2,h3,h4⟩
 exact ⟨β,h2,h3,h4⟩
theorem VW {t:Th} (ht:t=t0) {kV:Prop} {fz:Option (Prop×List AV)} {f:Nat} {args oA jG:List AV} {bx aE:List ax} {v:AV} {c:Prop} {K Kp:AV→List ax→Prop} (ks:List Bool) (b9:List Nat) (ho:kV)
 (hz:rF t bx args=some (c,oA)) (hc:c) (hn:AV.bL.cL (kill ks bx) oA=true) (hl:dI false (kill ks bx) (kill ks bx)=true) (hv:v.flat=true)
 (ha:AV.vQ (fun b=>dB b b9 0) oA=some jG) (hb:fD (fun b=>dB b b9 0) (kill ks bx) b9=some aE) (hb':Br b9 (kill ks bx) aE=some (kill ks bx)) (hr:fm.iq (jF b9 (kill ks bx).length) (.ret v)=some (.ret v))
 (h:bg P G f jG aE (.ret v) aE) (hK:K v bx):qi (bg P G) kV f args fz bx K Kp:=by
 subst ht
 exact dn ho (HO ks (gD hz hc) hn hl (.inl hv) (eZ b9 ha hb hr hb' h)) hK
end
end Dem
end
section
open Go
namespace Dem
abbrev TT (t:Th):Prop:=∀(α:Type) (f:Unit→α),t α f=f ()
theorem jH {t:Th} (ht:TT t) {α:Type} {e x:α} (h:e=x):(t _ fun _=>e)=x:=by rw [ht];exact h
section
variable {P:Program} {G:Nat→Option (List D)} {FC:Nat→List AV→List ax→fm→List ax→Prop} {kV:Prop} {f:Nat} {args args':List AV} {c:Prop} {bx:List ax} {K Kp:AV→List ax→Prop} {ρ:Type}
theorem ay {E:ρ→AV} {r0:ρ} (ho:kV) (h:FC f args' [] (.ret (E r0)) []) (hc:c) (hs:AV.shut.nj args'=true) (hf:(E r0).flat=true) (hK:∀r,r=r0→K (E r) bx):qi FC kV f args (some (c,args')) bx K Kp:=
 gj ho h hc hs hf (hK _ rfl)
theorem aS {E:ρ→AV} {r0:ρ} (ho:kV) (h:FC f args' [] (.ret (E r0)) []) (hc:c) (hs:AV.shut.nj args'=true) (hz:eP [] args=some args') (hv:(E r0).shut=true) (hK:∀r,r=r0→K (E r) bx):qi FC kV f args (some (c,args')) bx K Kp:=
 HK ho h hc hs hz hv (hK _ rfl)
theorem aM {dr g:Bool} {K:AV→Prop} {E:ρ→AV} {r0:ρ} (h:g=true→kV∧c∧FC f args' [] (.ret (E r0)) []) (hs:AV.bL.cL [] args'=true) (hf:(E r0).flat=true) (hK:∀r,r=r0→K (E r)):pH FC dr g kV f args bx (some (c,args')) K:=
 HL h hs hf (hK _ rfl)
theorem iu {dr g:Bool} {K:AV→Prop} {E:ρ→AV} {r0:ρ} (h:g=true→kV∧c∧FC f args' [] (.ret (E r0)) []) (hs:AV.bL.cL [] args'=true) (hz:eP [] args=some args') (hf:(E r0).shut=true) (hK:∀r,r=r0→K (E r)):pH FC dr g kV f args bx (some (c,args')) K:=
 mT h hs hz hf (hK _ rfl)
end
theorem dg {t:Th} (ht:TT t) {α:Type} {l:List α} {cells cT:α→List D} {es:List (List D)} (aF:es=l.map cells) {z:Int} {n:Nat} {K:List D→Prop} (h0:0≤z) (h1:z<l.length) (hn:∀x,(cells x).length=n) (hT:∀x,cells x=cT x)
 (hK:∀x,l[z.toNat]?=some x→K (cT x)):ol true (t Prop fun _=>0≤z∧z<es.length∧∀r∈es,r.length=n) (t _ fun _=>es.getD z.toNat []) K:=by
 have hz:z.toNat<l.length:=by omega
 refine gS (cT l[z.toNat]) ?_ ?_ (hK _ (List.getElem?_eq_getElem hz))
 ·simp only [ht];refine ⟨h0,by rw [aF,List.length_map];exact h1,?_⟩
  rw [aF];intro r hr;obtain ⟨y,_,rfl⟩:=List.mem_map.1 hr;exact hn y
 simp only [ht];rw [aF,←hT];simp [hz]
theorem bf {s:St} {n:Nat} {σ:Type} {J:Nat→σ→Prop} {F:σ→St} (v:σ) (hs:s=F v) (m:Nat) (hm:m<n) (hJ:J m v):rG (some s) (fun s3=>∃m v',(m<n∧J m v')∧s3=F v'):=aA (P:=fun s3=>∃m v',(m<n∧J m v')∧s3=F v') ⟨m,v,⟨hm,hJ⟩,hs⟩
end Dem
end
