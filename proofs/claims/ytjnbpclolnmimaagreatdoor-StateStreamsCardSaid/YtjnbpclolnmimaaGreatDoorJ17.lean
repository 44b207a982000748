/- Parts of a proof, joined. -/
import Derived.Test.YtjnbpclolnmimaaGreatDoorJ16
import Derived.Lib.Bytealg
import Derived.Lib.Join
set_option linter.unusedSimpArgs false
set_option linter.unusedVariables false
set_option maxRecDepth 100000
set_option maxHeartbeats 4000000
section
open Go
namespace Dem
def Ps (u:Int) (b:UInt8) (j:Nat):Int:=u+(((b.toNat%128)*2^(7*j)%18446744073709551616:Nat):Int)
def je:Nat→Nat→aD→Int→Option (Int×Nat)
 |0,_,_,_=>none
 |_+1,_,[],_=>none
 |n+1,j,b::r,u=>if b.toNat<128 then some (Ps u b j,j+1) else je n (j+1) r (Ps u b j)
def rP (s:aD) (p:Int):Option (Int×Nat):=if p<0∨(s.length:Int)≤p then none else je 10 0 (s.drop p.toNat) 0
structure z8 where
 u:Int
 next:Int
 ok:Bool
def z8.no:z8:=⟨0,0,false⟩
def bD (s:aD) (p:Int):z8:=match rP s p with
 |some (u,c)=>if ej u=(s.drop p.toNat).take c then ⟨u,p+c,true⟩ else z8.no
 |none=>z8.no
theorem WX {a b i:Nat} (h:b<2^i):b ||| (2^i*a)=b+2^i*a:=by
 rw [Nat.or_comm,←Nat.two_pow_add_eq_or_of_lt h,Nat.add_comm]
end Dem
namespace Dem
theorem Zy (b:UInt8):IntKind.u8.wrap ((BitVec.ofInt IntKind.u8.bits (b.toNat:Int) &&& ~~~BitVec.ofInt IntKind.u8.bits 128).toNat:Int)=((b.toNat%128:Nat):Int):=by
 have key:∀n:Nat,n<256→IntKind.u8.wrap ((BitVec.ofInt IntKind.u8.bits (n:Int) &&& ~~~BitVec.ofInt IntKind.u8.bits 128).toNat:Int)=((n%128:Nat):Int):=by decide
 exact key _ b.toNat_lt
theorem bG (x:Int):IntKind.u64.wrap x=x%18446744073709551616:=by simp [IntKind.wrap,IntKind.signed,IntKind.bits]
theorem bZ {x:Int} (h0:-9223372036854775808≤x) (h1:x<9223372036854775808):IntKind.i64.wrap x=x:=by
 simp [IntKind.wrap,IntKind.signed,IntKind.bits];omega
theorem abC {i p:Int} {j:Nat} (hi:i=p+j) (hj:j<10):0≤IntKind.i64.wrap (7*IntKind.i64.wrap (i-p)):=by
 have e:i-p=j:=by omega
 rw [e,bZ (x:=(j:Int)) (by omega) (by omega),bZ (by omega) (by omega)];omega
theorem ze (c j:Nat) (hj:j<10):∃y,c*2^(7*j)%18446744073709551616=2^(7*j)*y∧2^(7*j)*y+2^(7*j)≤18446744073709551616:=by
 have h64:(18446744073709551616:Nat)=2^(7*j)*2^(64-7*j):=by rw [←Nat.pow_add,show 7*j+(64-7*j)=64 by omega]
 refine ⟨c%2^(64-7*j),?_,?_⟩
 ·rw [h64,Nat.mul_comm c,Nat.mul_mod_mul_left]
 rw [h64,←Nat.mul_succ];exact Nat.mul_le_mul_left _ (Nat.mod_lt _ (Nat.two_pow_pos _))
theorem Fj {u:Int} {b:UInt8} {j:Nat} (hj:j<10) (hu:0≤u∧u<2^(7*j)∧u<18446744073709551616):0≤Ps u b j∧Ps u b j<2^(7*(j+1))∧Ps u b j<18446744073709551616:=by
 obtain ⟨h0,h1,_⟩:=hu
 obtain ⟨v,rfl⟩:=Int.eq_ofNat_of_zero_le h0
 have h1:v<2^(7*j):=by exact_mod_cast h1
 obtain ⟨y,e1,e2⟩:=ze (b.toNat%128) j hj
 have h3:b.toNat%128*2^(7*j)%18446744073709551616≤127*2^(7*j):=Nat.le_trans (Nat.mod_le _ _) (Nat.mul_le_mul_right _ (by omega))
 have h4:(2:Nat)^(7*(j+1))=128*2^(7*j):=by rw [show 7*(j+1)=7+7*j by omega,Nat.pow_add]
 unfold Ps
 refine ⟨by omega,?_,by omega⟩
 have:v+b.toNat%128*2^(7*j)%18446744073709551616<2^(7*(j+1)):=by omega
 exact_mod_cast this
theorem KG {u i p:Int} {b:UInt8} {j:Nat} (hi:i=p+j) (hj:j<10) (hu:0≤u∧u<2^(7*j)∧u<18446744073709551616):
 IntKind.u64.wrap ((BitVec.ofInt IntKind.u64.bits u ||| BitVec.ofInt IntKind.u64.bits (IntKind.u64.wrap (IntKind.u64.wrap (IntKind.u8.wrap ((BitVec.ofInt IntKind.u8.bits (b.toNat:Int) &&& ~~~BitVec.ofInt IntKind.u8.bits 128).toNat:Int))*2^(min (IntKind.i64.wrap (7*IntKind.i64.wrap (i-p))).toNat IntKind.u64.bits)))).toNat:Int)=Ps u b j:=by
 have hb:=Fj (b:=b) hj hu
 obtain ⟨h0,h1,h2⟩:=hu
 have e:i-p=j:=by omega
 rw [e,bZ (x:=(j:Int)) (by omega) (by omega),bZ (x:=7*(j:Int)) (by omega) (by omega),Zy,bG ((b.toNat%128:Nat):Int)]
 have e2:(7*(j:Int)).toNat=7*j:=by omega
 have e3:min (7*j) IntKind.u64.bits=7*j:=by show min (7*j) 64=7*j;omega
 have e4:((b.toNat%128:Nat):Int)%18446744073709551616=((b.toNat%128:Nat):Int):=by omega
 rw [e2,e3,e4]
 have e5:(((b.toNat%128:Nat):Int)*2^(7*j))=((b.toNat%128*2^(7*j):Nat):Int):=by push_cast;rfl
 rw [e5,bG ((b.toNat%128*2^(7*j):Nat):Int)]
 obtain ⟨y,g1,g2⟩:=ze (b.toNat%128) j hj
 have e6:(((b.toNat%128*2^(7*j):Nat):Int))%18446744073709551616=((2^(7*j)*y:Nat):Int):=by rw [←g1];rfl
 rw [e6]
 obtain ⟨v,rfl⟩:=Int.eq_ofNat_of_zero_le h0
 have h1:v<2^(7*j):=by exact_mod_cast h1
 have e7:(BitVec.ofInt IntKind.u64.bits (v:Int) ||| BitVec.ofInt IntKind.u64.bits ((2^(7*j)*y:Nat):Int)).toNat=v+2^(7*j)*y:=by
  show (BitVec.ofInt 64 (v:Int) ||| BitVec.ofInt 64 ((2^(7*j)*y:Nat):Int)).toNat=v+2^(7*j)*y
  rw [BitVec.toNat_or,BitVec.toNat_ofInt,BitVec.toNat_ofInt,←WX h1]
  congr 1<;>omega
 rw [e7,bG]
 unfold Ps
 rw [g1]
 omega
theorem BA {s:aD} {a j n:Nat} {u:Int} (hj:a+j<s.length) (hn:0<n):
 je n j (s.drop (a+j)) u=if (s.getD (a+j) 0).toNat<128 then some (Ps u (s.getD (a+j) 0) j,j+1) else je (n-1) (j+1) (s.drop (a+(j+1))) (Ps u (s.getD (a+j) 0) j):=by
 obtain ⟨m,rfl⟩:∃m,n=m+1:=⟨n-1,by omega⟩
 rw [List.drop_eq_getElem_cons hj,je]
 have e:s.getD (a+j) 0=s[a+j]:=by simp [hj]
 rw [e];rfl
theorem KH {s:aD} {p:Int} {a j n:Nat} {u:Int} (ha:p=a) (hj:a+j<s.length) (hn:0<n) (j4:je 10 0 (s.drop a) 0=je n j (s.drop (a+j)) u) (hb:(s.getD (a+j) 0).toNat<128):
 rP s p=some (Ps u (s.getD (a+j) 0) j,j+1):=by
 rw [rP,if_neg (by omega),ha,Int.toNat_natCast,j4,BA hj hn,if_pos hb]
theorem NL {s:aD} {p:Int} {a j n:Nat} {u:Int} (ha:p=a) (hj:s.length≤a+j∨n=0) (j4:je 10 0 (s.drop a) 0=je n j (s.drop (a+j)) u):rP s p=none:=by
 rw [rP]
 split
 ·rfl
 rw [ha,Int.toNat_natCast,j4]
 rcases hj with hj|rfl
 ·rw [List.drop_eq_nil_of_le hj];cases n<;>rfl
 rfl
end Dem
namespace Dem
def nV (s:aD) (p u next:Int):z8:=if 0<next∧ej u=(s.drop p.toNat).take (next.toNat-p.toNat) then ⟨u,next,true⟩ else z8.no
theorem KI {s:aD} {p i:Int} {a j n:Nat} {u:Int} (ha:p=a) (hi:i=p+j) (hj:a+j<s.length) (hn:0<n) (j4:je 10 0 (s.drop a) 0=je n j (s.drop (a+j)) u) (hb:((s.getD i.toNat 0).toNat:Int)<128):
 bD s p=nV s p (Ps u (s.getD i.toNat 0) j) (i+1):=by
 have e0:i.toNat=a+j:=by omega
 rw [e0] at hb ⊢
 rw [bD,KH ha hj hn j4 (by omega),nV]
 have e5:(i+1).toNat-p.toNat=j+1:=by omega
 have e6:0<i+1:=by omega
 have e7:p+((j+1:Nat):Int)=i+1:=by omega
 simp only [e5,e6,true_and,e7]
end Dem
namespace Dem
theorem HZ:∀(n j:Nat) (r:aD) (u:Int) {u':Int} {c:Nat},n+j=10→(0≤u∧u<2^(7*j)∧u<18446744073709551616)→je n j r u=some (u',c)→0≤u'∧u'<18446744073709551616∧j<c∧c≤j+r.length
 |0,_,_,_,_,_,_,_,h=>by simp [je] at h
 |n+1,_,[],_,_,_,_,_,h=>by simp [je] at h
 |n+1,j,b::r,u,u',c,hn,hu,h=>by
  have hb:=Fj (b:=b) (show j<10 by omega) hu
  unfold je at h
  split at h
  ·simp only [Option.some.injEq,Prod.mk.injEq] at h
   obtain ⟨rfl,rfl⟩:=h
   simp only [List.length_cons];exact ⟨hb.1,hb.2.2,by omega,by omega⟩
  have:=HZ n (j+1) r _ (by omega) hb h
  simp only [List.length_cons];omega
theorem eM {s:aD} {p:Int} (h:(bD s p).ok=true):0≤p∧p<(bD s p).next∧(bD s p).next≤s.length∧0≤(bD s p).u∧(bD s p).u<18446744073709551616:=by
 unfold bD at h ⊢
 cases hw:rP s p with
 |none=>simp [hw,z8.no] at h
 |some x=>
  obtain ⟨u,c⟩:=x
  simp only [hw] at h ⊢
  split at h
  ·rename_i he
   rw [if_pos he]
   unfold rP at hw
   split at hw
   ·simp at hw
   rename_i hp
   have hp:0≤p∧p<s.length:=by omega
   have:=HZ 10 0 _ 0 rfl (by simp) hw
   simp only [List.length_drop] at this
   refine ⟨hp.1,?_,?_,this.1,this.2.1⟩<;>simp only<;>omega
  simp [z8.no] at h
structure Fk where
 t:aD
 next:Int
 ok:Bool
def Fk.no:Fk:=⟨[],0,false⟩
def aU (s:aD) (p most:Int):Fk:=
 if (bD s p).ok=true∧0≤most∧(bD s p).u≤most∧(bD s p).u≤s.length-(bD s p).next then ⟨(s.drop (bD s p).next.toNat).take (bD s p).u.toNat,(bD s p).next+(bD s p).u,true⟩ else Fk.no
theorem H6 {s:aD} {r:z8} {most:Int} (hs:s.length<9223372036854775000) (hm:most<9223372036854775808) (h0:0≤most) (h1:0≤r.next) (h2:r.next≤s.length):
 IntKind.u64.wrap (min most (IntKind.i64.wrap ((s.length:Int)-r.next)))=min most ((s.length:Int)-r.next):=by
 rw [bZ (by omega) (by omega),bG];omega
structure xO where
 v:bz
 next:Int
 ok:Bool
def xO.no:xO:=⟨bz.zero,0,false⟩
def bz.put (v:bz):Nat→Int→bz
 |0,x=>{v with a:=x}
 |1,x=>{v with b:=x}
 |2,x=>{v with c:=x}
 |_,x=>{v with d:=x}
def jS (s:aD):Nat→bz→Int→xO
 |0,v,p=>⟨v,p,true⟩
 |n+1,v,p=>if (bD s p).ok then jS s n (v.put (3-n) (bD s p).u) (bD s p).next else xO.no
def iI (s:aD) (p:Int):xO:=jS s 4 bz.zero p
end Dem
namespace Dem
theorem TQ {s:aD} {p most:Int} {r:z8} (e:r=bD s p) (gb:r.ok=true→0≤p∧p<r.next∧r.next≤s.length∧0≤r.u∧r.u<18446744073709551616) (hs:s.length<9223372036854775000) (hm:most<9223372036854775808)
 (h:(r.ok=false∨most<0)∨IntKind.u64.wrap (min most (IntKind.i64.wrap ((s.length:Int)-r.next)))<r.u):aU s p most=Fk.no:=by
 rw [aU,if_neg]
 rw [←e]
 rintro ⟨h1,h2,h3,h4⟩
 obtain ⟨g1,g2,g3,g4,g5⟩:=gb h1
 rw [H6 hs hm h2 (by omega) g3] at h
 rcases h with (h|h)|h
 ·rw [h1] at h;cases h
 ·omega
 omega
theorem QY {s:aD} {p most:Int} {r:z8} (e:r=bD s p) (gb:r.ok=true→0≤p∧p<r.next∧r.next≤s.length∧0≤r.u∧r.u<18446744073709551616) (hs:s.length<9223372036854775000) (hm:most<9223372036854775808)
 (h:(r.ok=true∧0≤most)∧r.u≤IntKind.u64.wrap (min most (IntKind.i64.wrap ((s.length:Int)-r.next)))):
 aU s p most=⟨gr s (some r.next) (some (IntKind.i64.wrap (r.next+IntKind.i64.wrap r.u))),IntKind.i64.wrap (r.next+IntKind.i64.wrap r.u),true⟩∧bS s.length (some r.next) (some (IntKind.i64.wrap (r.next+IntKind.i64.wrap r.u))):=by
 obtain ⟨⟨h1,h2⟩,h3⟩:=h
 obtain ⟨g1,g2,g3,g4,g5⟩:=gb h1
 rw [H6 hs hm h2 (by omega) g3] at h3
 rw [bZ (x:=r.u) (by omega) (by omega),bZ (by omega) (by omega)]
 refine ⟨?_,by simp only [bS];omega⟩
 rw [aU,if_pos (by rw [←e];exact ⟨h1,h2,by omega,by omega⟩),←e]
 have:(r.next+r.u).toNat-r.next.toNat=r.u.toNat:=by omega
 simp only [gr,this]
theorem nD {s:aD} {n:Nat} {v:bz} {p:Int} {r:z8} (e:r=bD s p):jS s (n+1) v p=if r.ok then jS s n (v.put (3-n) r.u) r.next else xO.no:=by rw [jS,e]
end Dem
end
section
open Go
namespace Dem
structure bB (α:Type) where
 x:α
 next:Int
 ok:Bool
def bB.nW {α:Type}:bB (List α):=⟨[],0,false⟩
def jg (s:aD) (p:Int):bB bT:=
 if (aU s p 32).ok then ⟨⟨(aU s p 32).t,(aU s (aU s p 32).next 32).t⟩,(aU s (aU s p 32).next 32).next,(aU s (aU s p 32).next 32).ok⟩
 else ⟨⟨(aU s p 32).t,[]⟩,(aU s p 32).next,(aU s p 32).ok⟩
def ia {α:Type} (get:Int→bB α):Nat→List α→Int→bB (List α)
 |0,l,p=>⟨l,p,true⟩
 |n+1,l,p=>if (get p).ok then ia get n (l++[(get p).x]) (get p).next else bB.nW
def fV {α:Type} (s:aD) (p most:Int) (get:Int→bB α):bB (List α):=
 if (bD s p).ok=true∧(bD s p).u≤most then ia get (bD s p).u.toNat [] (bD s p).next else bB.nW
theorem uD {α:Type} {get:Int→bB α} {n:Nat} {l:List α} {p:Int} {r:bB α} (e:r=get p):ia get (n+1) l p=if r.ok then ia get n (l++[r.x]) r.next else bB.nW:=by rw [ia,e]
theorem dw {s:aD} {p m:Int} (hs:s.length<9223372036854775000):0≤(aU s p m).next∧(aU s p m).next≤s.length∧(aU s p m).t.length≤s.length:=by
 unfold aU
 split
 ·rename_i h
  have:=eM h.1
  simp only [List.length_take,List.length_drop];omega
 simp [Fk.no]
theorem H7 {s:aD} {p:Int} (hs:s.length<9223372036854775000):(jg s p).next≤s.length:=by
 unfold jg;split
 ·exact (dw hs).2.1
 exact (dw hs).2.1
theorem H8 {s:aD} {p:Int} (hs:s.length<9223372036854775000):(jg s p).x.sm:=by
 have h1:=(dw (s:=s) (p:=p) (m:=32) hs).2.2
 unfold jg bT.sm;split
 ·have h2:=(dw (s:=s) (p:=(aU s p 32).next) (m:=32) hs).2.2
  exact ⟨by simp only;omega,by simp only;omega⟩
 exact ⟨by simp only;omega,by simp⟩
theorem DP {α:Type} {get:Int→bB α} {q:α→Prop} (hq:∀p,q (get p).x):∀(n:Nat) (l:List α) (p:Int),(∀x∈l,q x)→∀x∈(ia get n l p).x,q x
 |0,l,p,hl=>hl
 |n+1,l,p,hl=>by
  unfold ia;split
  ·exact DP hq n _ _ (by
    intro x hx;rcases List.mem_append.1 hx with h|h;· exact hl x h
    simp at h;subst h;exact hq p)
  simp [bB.nW]
theorem BB {α:Type} {s:aD} {p m:Int} {get:Int→bB α} {q:α→Prop} (hq:∀p,q (get p).x):∀x∈(fV s p m get).x,q x:=by
 unfold fV;split
 ·exact DP hq _ _ _ (by simp)
 simp [bB.nW]
theorem DQ {α:Type} {get:Int→bB α}:∀(n:Nat) (l:List α) (p:Int),(ia get n l p).x.length≤l.length+n
 |0,l,p=>by simp [ia]
 |n+1,l,p=>by
  unfold ia;split
  ·have:=DQ (get:=get) n (l++[(get p).x]) (get p).next;simp at this;omega
  simp [bB.nW]
theorem vY {α:Type} {s:aD} {p m:Int} {get:Int→bB α}:((fV s p m get).x.length:Int)≤max m 0:=by
 unfold fV;split
 ·rename_i h
  have:=DQ (get:=get) (bD s p).u.toNat [] (bD s p).next
  have h2:=eM h.1
  simp at this;omega
 simp [bB.nW];omega
theorem H9 {α:Type} {get:Int→bB α} {L:Int} (hL:0≤L) (hg:∀p,(get p).next≤L):∀(n:Nat) (l:List α) (p:Int),p≤L→(ia get n l p).next≤L
 |0,l,p,h=>h
 |n+1,l,p,h=>by
  unfold ia;split
  ·exact H9 hL hg n _ _ (hg p)
  exact hL
theorem MG {α:Type} {s:aD} {p m:Int} {get:Int→bB α} (hg:∀p,(get p).next≤s.length):(fV s p m get).next≤s.length:=by
 unfold fV;split
 ·rename_i h
  exact H9 (by omega) hg _ _ _ (eM h.1).2.2.1
 simp [bB.nW]
def vZ (s:aD) (p:Int):bB (List bT):=if (fV s p 8 (jg s)).ok&&pN (fV s p 8 (jg s)).x then fV s p 8 (jg s) else bB.nW
end Dem
end
section
open Go
namespace Dem
theorem DR {s:aD}:∀(n:Nat) (v:bz) (p:Int),p≤s.length→(jS s n v p).next≤s.length
 |0,v,p,h=>h
 |n+1,v,p,h=>by
  unfold jS;split
  ·rename_i h1;exact DR n _ _ (eM h1).2.2.1
  simp [xO.no]
theorem sP {s:aD} {p:Int}:(iI s p).next≤s.length:=by
 unfold iI jS;split
 ·rename_i h1;exact DR 3 _ _ (eM h1).2.2.1
 simp [xO.no]
theorem TR {s:aD} {p:Int} (hs:s.length<9223372036854775000):(vZ s p).next≤s.length:=by
 unfold vZ;split
 ·exact MG (fun p=>H7 hs)
 simp [bB.nW]
theorem TS {s:aD} {p:Int} (hs:s.length<9223372036854775000):(vZ s p).x.length<1000000000∧∀q∈(vZ s p).x,q.sm:=by
 unfold vZ;split
 ·have:=vY (s:=s) (p:=p) (m:=8) (get:=jg s)
  exact ⟨by omega,BB (fun p=>H8 hs)⟩
 simp [bB.nW]
def bB.SU:bB Node:=⟨Node.zero,0,false⟩
def gQ (s:aD) (p:Int):bB Node:=
 if !(aU s p 32).ok then bB.SU else
 if !(iI s (aU s p 32).next).ok then bB.SU else
 if !(vZ s (iI s (aU s p 32).next).next).ok then bB.SU else
 ⟨⟨(aU s p 32).t,(iI s (aU s p 32).next).v,(vZ s (iI s (aU s p 32).next).next).x,decide ((bD s (vZ s (iI s (aU s p 32).next).next).next).u=1)⟩,
  (bD s (vZ s (iI s (aU s p 32).next).next).next).next,(bD s (vZ s (iI s (aU s p 32).next).next).next).ok&&decide ((bD s (vZ s (iI s (aU s p 32).next).next).next).u≤1)⟩
def bB.WY:bB Place:=⟨⟨0,[],bz.zero⟩,0,false⟩
def lz (s:aD) (p:Int):bB Place:=
 if !(bD s p).ok then bB.WY else
 if !(aU s (bD s p).next 32).ok then bB.WY else
 ⟨⟨(bD s p).u,(aU s (bD s p).next 32).t,(iI s (aU s (bD s p).next 32).next).v⟩,(iI s (aU s (bD s p).next 32).next).next,(iI s (aU s (bD s p).next 32).next).ok⟩
theorem MH {s:aD} {p:Int}:(bD s p).next≤s.length:=by
 cases h:(bD s p).ok with
 |true=>exact (eM h).2.2.1
 |false=>
  unfold bD at h ⊢;split at h<;>rename_i h1
  ·split at h
   ·cases h
   rename_i h2;simp only [if_neg h2];simp [z8.no]
  simp [z8.no]
theorem Ia {s:aD} {p:Int}:(gQ s p).next≤s.length:=by
 unfold gQ;split;· simp [bB.SU]
 split;· simp [bB.SU]
 split;· simp [bB.SU]
 exact MH
theorem QZ {s:aD} {p:Int}:(lz s p).next≤s.length:=by
 unfold lz;split;· simp [bB.WY]
 split;· simp [bB.WY]
 exact sP
theorem Q0 {s:aD} {p:Int} (hs:s.length<9223372036854775000):(gQ s p).x.sm:=by
 have z:Node.zero.sm:=⟨by simp [Node.zero],by simp [Node.zero],by simp [Node.zero]⟩
 unfold gQ;split;· exact z
 split;· exact z
 split;· exact z
 have h1:=(dw (s:=s) (p:=p) (m:=32) hs).2.2
 have h2:=TS (s:=s) (p:=(iI s (aU s p 32).next).next) hs
 exact ⟨by simp only;omega,h2.1,h2.2⟩
def bB.BC:bB cO:=⟨⟨[],[]⟩,0,false⟩
def Ib (s:aD) (p:Int):bB cO:=
 if !(fV s p 16 (gQ s)).ok then bB.BC else
 if (fV s (fV s p 16 (gQ s)).next 256 (lz s)).ok&&nU ⟨(fV s p 16 (gQ s)).x,(fV s (fV s p 16 (gQ s)).next 256 (lz s)).x⟩
 then ⟨⟨(fV s p 16 (gQ s)).x,(fV s (fV s p 16 (gQ s)).next 256 (lz s)).x⟩,(fV s (fV s p 16 (gQ s)).next 256 (lz s)).next,true⟩ else bB.BC
end Dem
end
section
open Go
namespace Dem
structure Term where
 key:aD
 no:Bool
 fW:List aD
deriving DecidableEq
instance:Inhabited Term:=⟨⟨[],false,[]⟩⟩
def Term.cells (x:Term):List D:=[.str x.key,.bool x.no,.sl (x.fW.map aT)]
def zf:Option aD→List aD→Bool
 |_,[]=>true
 |q,v::r=>dX v&&Fi q v&&zf (some v) r
def mright (x:Term):Bool:=if zf none x.fW then dX x.key&&decide (x.fW.length≤4) else false
def pP (l:List Term):Bool:=if l.length≤4 then !(l.any fun x=>!mright x) else false
def Ic (l:List bT) (k:aD):aD×Bool:=match l.find? (fun x=>decide (x.key=k)) with
 |some x=>(x.value,true)
 |none=>([],false)
def kZ (x:Term) (l:List bT):Bool:=
 (if (Ic l x.key).2 then (if x.fW.length=0 then true else x.fW.contains (Ic l x.key).1) else false)!=x.no
def xS (x:List Term) (l:List bT):Bool:=!(x.any fun m=>!kZ m l)
def nE (x:Term):aD:=bH x.key++ej (2*x.fW.length+(if x.no then 1 else 0))++(x.fW.map bH).flatten
def BD (l:List Term):aD:=if pP l then ej l.length++(l.map nE).flatten else []
def Ie (s:aD) (p most:Int):Option (Int×Int):=if (bD s p).ok=true∧(bD s p).u≤most then some ((bD s p).u,(bD s p).next) else none
def v7 (s:aD) (p:Int):Option (aD×Int):=if (aU s p 32).ok then some ((aU s p 32).t,(aU s p 32).next) else none
def jU (s:aD):Nat→List aD→Int→Option (List aD×Int)
 |0,l,p=>some (l,p)
 |n+1,l,p=>match v7 s p with
  |some (x,q)=>jU s n (l++[x]) q
  |none=>none
def BE (s:aD) (p:Int):Option (Term×Int):=match v7 s p with
 |none=>none
 |some (k,q)=>match Ie s q 9 with
  |none=>none
  |some (n,r)=>match jU s (n.toNat / 2) [] r with
   |none=>none
   |some (l,e)=>some (⟨k,decide (n%2=1),l⟩,e)
def jV (s:aD):Nat→List Term→Int→Option (List Term×Int)
 |0,l,p=>some (l,p)
 |n+1,l,p=>match BE s p with
  |some (x,q)=>jV s n (l++[x]) q
  |none=>none
def DS (s:aD) (p:Int):Option (List Term×Int):=match Ie s p 4 with
 |none=>none
 |some (n,q)=>match jV s n.toNat [] q with
  |none=>none
  |some (l,e)=>if pP l then some (l,e) else none
end Dem
end
section
open Go
namespace Dem
abbrev bz.u' (v:bz):Prop:=(0≤v.a∧v.a<18446744073709551616)∧(0≤v.b∧v.b<18446744073709551616)∧(0≤v.c∧v.c<18446744073709551616)∧(0≤v.d∧v.d<18446744073709551616)
def BF (x y:Int):Int×Bool:=if x.toNat*y.toNat<18446744073709551616 then (((x.toNat*y.toNat:Nat):Int),true) else (0,false)
def rQ (v:bz) (n:Int):bz×Bool:=both (fun x _=>BF x n) v bz.zero
def oI (x y:Int):Int:=if x<y then -1 else if y<x then 1 else 0
def uE (a b:bz):Int:=
 if oI a.a b.a≠0 then oI a.a b.a else if oI a.b b.b≠0 then oI a.b b.b else if oI a.c b.c≠0 then oI a.c b.c else oI a.d b.d
structure bX where
 id:Int
 prio:Int
deriving DecidableEq
instance:Inhabited bX:=⟨⟨0,0⟩⟩
def bX.cells (q:bX):List D:=[.int .u64 q.id,.int .i64 q.prio]
def cV (a b:bX):Bool:=decide (b.prio<a.prio)||(decide (a.prio=b.prio)&&decide (a.id<b.id))
def xV (l:List bX) (e:bX):Nat:=match l.findIdx? (fun x=>cV e x) with
 |some k=>k
 |none=>l.length
def gF (l:List bX) (id:Int):Int:=idxOf (fun x=>decide (x.id=id)) l
def gG (e:bX):Bool:=decide (e.prio<0)||decide (9<e.prio)
def jI (l:List bX) (e:bX):List bX×Int:=
 if gG e then (l,1) else if 0≤gF l e.id then (l,8) else if 32≤l.length then (l,9) else
 (l.take (xV l e)++e::l.drop (xV l e),0)
def BG (l:List bX) (id:Int):List bX×Bool:=match l.findIdx? (fun x=>decide (x.id=id)) with
 |some k=>(l.eraseIdx k,true)
 |none=>(l,false)
def NM (q:Option bX) (e:bX):Bool:=match q with|none=>true|some q=>cV q e
def jh (all:List bX):Option bX→Nat→List bX→Bool
 |_,_,[]=>true
 |q,k,e::r=>!gG e&&decide (gF all e.id=k)&&NM q e&&jh all (some e) (k+1) r
def nX (l:List bX):Bool:=jh l none 0 l&&decide (l.length≤32)
end Dem
end
section
open Go
namespace Dem
def bP (c:UInt8):aD→List aD
 |[]=>[[]]
 |x::xs=>if x=c then []::bP c xs else match bP c xs with
  |h::r=>(x::h)::r
  |[]=>[[x]]
theorem pQ (c:UInt8):∀s:aD,(bP c s).length=s.count c+1
 |[]=>rfl
 |x::xs=>by
  have ih:=pQ c xs
  unfold bP
  by_cases h:x=c
  ·simp [h,ih]
  simp only [h,if_false,List.count_cons,beq_iff_eq]
  split<;>simp_all
theorem DT (c:UInt8) (s:aD):bP c s≠[]:=fun h=>by have:=pQ c s;rw [h] at this;simp at this
theorem rR (c:UInt8):∀s:aD,Lib.indexByte s c<0→bP c s=[s]
 |[],_=>rfl
 |x::xs,h=>by
  have hg:=Lib.indexByte_ge xs c
  unfold Lib.indexByte at h
  have hx:x≠c:=by rintro rfl;simp at h
  have h2:Lib.indexByte xs c<0:=by
   simp only [beq_iff_eq,hx,if_false] at h
   split at h
   ·omega
   omega
  simp [bP,hx,rR c xs h2]
theorem zg (c:UInt8):∀(s:aD) (j:Nat),Lib.indexByte s c=j→j<s.length∧bP c s=s.take j::bP c (s.drop (j+1))∧s.count c=(s.drop (j+1)).count c+1
 |[],j,h=>by simp [Lib.indexByte] at h
 |x::xs,j,h=>by
  have hg:=Lib.indexByte_ge xs c
  unfold Lib.indexByte at h
  by_cases hx:x=c
  ·simp only [beq_iff_eq,hx,if_true] at h
   have:j=0:=by omega
   subst this;simp [bP,hx]
  simp only [beq_iff_eq,hx,if_false] at h
  split at h
  ·omega
  obtain ⟨i,rfl⟩:∃i,j=i+1:=⟨j-1,by omega⟩
  obtain ⟨h1,h2,h3⟩:=zg c xs i (by omega)
  refine ⟨by simp;omega,?_,?_⟩
  ·simp [bP,hx,h2]
  simp [hx,h3]
theorem Fl {s:aD} {r:Int} (h:r=Lib.indexByte s 47) (h0:r<0):s.count 47=0:=by
 have e:=pQ 47 s
 rw [rR 47 s (h▸h0)] at e
 simp at e;simpa using e
theorem Fm {s:aD} {r:Int} (h:r=Lib.indexByte s 47) (h0:0≤r):∃j:Nat,r=j∧j<s.length∧bP 47 s=s.take j::bP 47 (s.drop (j+1))∧s.count 47=(s.drop (j+1)).count 47+1:=by
 obtain ⟨j,rfl⟩:=Int.eq_ofNat_of_zero_le h0
 obtain ⟨h1,h2,h3⟩:=zg 47 s j h.symm
 exact ⟨j,rfl,h1,h2,h3⟩
theorem BH {s:aD} (h:s.count 47=0):bP 47 s=[s]:=by
 refine rR 47 s (Int.not_le.1 fun h0=>?_)
 obtain ⟨j,_,_,_,e⟩:=Fm rfl h0
 omega
def fc (l:List aD):aD:=Lib.join l [47]
def parts (s:aD):List aD:=if decide (3<(bP 47 s).length)||(bP 47 s).any (fun n=>!dX n) then [] else bP 47 s
def mW (s:aD):List aD:=(List.range (parts s).length).map fun k=>fc ((parts s).take (k+1))
def mX (a b:aD):Bool:=(mW b).contains a
def named (p:aD):Bool:=decide (p=[])||mX p p
def above (p:aD):List aD:=[]::mW p
def parent (p:aD):aD:=(above p).getD ((above p).length-2) []
theorem jW (s:aD):(parts s).length≤3:=by
 unfold parts;split
 ·simp
 rename_i h;simp at h;omega
theorem ic (s:aD):(mW s).length=(parts s).length:=by simp [mW]
theorem tQ (x:aD) (r:List aD):Lib.joinTail [47] (x::r)=47::fc (x::r):=by
 rw [fc,Lib.join_cons];simp [Lib.joinTail]
theorem zh:∀s:aD,fc (bP 47 s)=s
 |[]=>rfl
 |c::s=>by
  have ih:=zh s
  unfold bP
  cases e:bP 47 s with
  |nil=>exact absurd e (DT 47 s)
  |cons h r=>
   rw [e] at ih
   split
   ·rename_i hc
    show Lib.join ([]::h::r) [47]=_
    rw [Lib.join_cons,tQ,ih,hc];rfl
   show Lib.join ((c::h)::r) [47]=_
   rw [Lib.join_cons,List.cons_append,←Lib.join_cons]
   exact congrArg _ ih
theorem C1 (l:List aD) (k:Nat):(Lib.joinTail [47] (l.take k)).length≤(Lib.joinTail [47] l).length:=by
 have e:Lib.joinTail [47] l=Lib.joinTail [47] (l.take k)++Lib.joinTail [47] (l.drop k):=by
  simp only [Lib.joinTail];rw [←List.flatten_append,←List.map_append,List.take_append_drop]
 rw [e,List.length_append];omega
theorem KJ (l:List aD) (k:Nat):(fc (l.take k)).length≤(fc l).length:=by
 cases l with
 |nil=>simp
 |cons x r=>
  cases k with
  |zero=>simp [fc,Lib.join_nil]
  |succ k=>
   simp only [List.take_succ_cons,fc,Lib.join_cons,List.length_append]
   have:=C1 r k
   omega
theorem DU (s:aD) (k:Nat):(fc ((parts s).take k)).length≤s.length:=by
 refine Nat.le_trans (KJ _ k) ?_
 unfold parts
 split
 ·simp [fc,Lib.join_nil]
 rw [zh];exact Nat.le_refl _
theorem TU {s:aD} {k:Nat} (hk:k<(parts s).length):(mW s)[k]?=some (fc ((parts s).take (k+1))):=by simp [mW,hk]
theorem DV {s:aD} {k:Nat} (hk:k<(parts s).length):(mW s).take (k+1)=(mW s).take k++[fc ((parts s).take (k+1))]:=by
 have hl:k<(mW s).length:=by rw [ic];exact hk
 rw [List.take_add_one,TU hk];rfl
end Dem
end
section
open Go
namespace Dem
def MI (p:bT):aD:=bH p.key++bH p.value
def Fo (l:List bT):aD:=if pN l then ej l.length++(l.map MI).flatten else []
def C2 (n:Node):aD:=bH n.name++CX n.cap++Fo n.labels++ej (if n.up then 1 else 0)
def NN (x:Place):aD:=ej x.bu++bH x.node++CX x.v
def C3 (p:cO):aD:=ej p.nodes.length++(p.nodes.map C2).flatten++ej p.places.length++(p.places.map NN).flatten
def bz.u (v:bz):Prop:=v.a<18446744073709551616∧v.b<18446744073709551616∧v.c<18446744073709551616∧v.d<18446744073709551616
def bz.at_ (v:bz):Nat→Int
 |0=>v.a
 |1=>v.b
 |2=>v.c
 |_=>v.d
def zP (v:bz):Nat→aD
 |0=>[]
 |k+1=>zP v k++ej (v.at_ k)
theorem BI (v:bz):(CX v).length≤40:=by
 unfold CX
 have:=c6 v.a;have:=c6 v.b;have:=c6 v.c;have:=c6 v.d
 simp only [List.length_append];omega
theorem kG {α:Type} {f:α→aD} {l:List α} {k:Nat} {x:α} (h:l[k]?=some x):((l.drop k).map f).flatten=f x++((l.drop (k+1)).map f).flatten:=by
 obtain ⟨hk,rfl⟩:=List.getElem?_eq_some_iff.1 h
 rw [List.drop_eq_getElem_cons hk,List.map_cons,List.flatten_cons]
end Dem
end
section
open Go
namespace Dem
structure Ask where
 path:aD
 fQ:bz
 count:Int
 prio:Int
 dS:Int
 b9:List Term
deriving DecidableEq
instance:Inhabited Ask:=⟨⟨[],bz.zero,0,0,0,[]⟩⟩
def Ask.zero:Ask:=⟨[],bz.zero,0,0,0,[]⟩
def cW (x:Ask):bz×Bool:=rQ x.fQ (x.count%18446744073709551616)
def Q3 (n a b:Int):Bool:=decide (a≤n)&&decide (n≤b)
def cR (x:Ask):Int:=
 if !mX x.path x.path then 6 else if !Q3 x.count 1 8||!Q3 x.prio 0 9||!Q3 x.dS 1 100 then 1 else if !pP x.b9 then 2 else if !(cW x).2 then 5 else 0
def NO (x:Ask):aD:=if cR x≠0 then [] else bH x.path++CX x.fQ++ej x.count++ej x.prio++ej x.dS++BD x.b9
def fitting (l:List cu) (x:List Term):List cu:=l.filter fun s=>xS x s.labels
structure Ig where
 at_:Nat
 left:bz
 ok:Bool
def v8 (v:bz):List cu→Nat→Ig→Ig
 |[],_,b=>b
 |s::r,k,b=>v8 v r (k+1) (if (gu s.free v).2&&(!b.ok||decide (uE (gu s.free v).1 b.left<0)) then ⟨k,(gu s.free v).1,true⟩ else b)
def best (l:List cu) (v:bz):Ig:=v8 v l 0 ⟨0,bz.zero,false⟩
instance:Inhabited cu:=⟨⟨[],bz.zero,[]⟩⟩
def xX (v:bz):Nat→List cu→List aD→List aD×Bool
 |0,_,out=>(out,true)
 |n+1,l,out=>if !(best l v).ok then ([],false) else
  xX v n (l.set (best l v).at_ {l.getD (best l v).at_ default with free:=(best l v).left}) (out++[(l.getD (best l v).at_ default).node])
def fit (l:List cu) (x:List Term) (v:bz) (count:Int):List aD×Bool:=
 if 8<count then ([],false) else xX v (max count 0).toNat (fitting l x) []
end Dem
end
section
open Go
namespace Dem
structure aR where
 path:aD
 dc:bz
 used:bz
deriving DecidableEq
abbrev aR.cells (e:aR):List D:=[.str e.path,.int .u64 e.dc.a,.int .u64 e.dc.b,.int .u64 e.dc.c,.int .u64 e.dc.d,.int .u64 e.used.a,.int .u64 e.used.b,.int .u64 e.used.c,.int .u64 e.used.d]
def aR.zero:aR:=⟨[],bz.zero,bz.zero⟩
instance:Inhabited aR:=⟨aR.zero⟩
def bM (t:List aR) (p:aD):Int:=idxOf (fun e=>decide (e.path=p)) t
def lA (t:List aR) (p:aD):aR×Bool:=match t.find? (fun e=>decide (e.path=p)) with
 |some e=>(e,true)
 |none=>(aR.zero,false)
def we (t:List aR) (p:aD) (v:bz):List aR×Int:=
 if !named p then (t,6) else
 if !decide (p=[])&&decide (bM t (parent p)<0) then (t,7) else
 if decide (bM t p<0)&&decide (16≤t.length) then (t,9) else
 match t.findIdx? (fun e=>decide (e.path=p)) with
 |some k=>if !mU ((t.getD k aR.zero).used) v then (t,10) else (t.set k {t.getD k aR.zero with dc:=v},0)
 |none=>match t.findIdx? (fun e=>!Op.bytesLess e.path p) with
  |some k=>(t.take k++⟨p,v,bz.zero⟩::t.drop k,0)
  |none=>(t++[⟨p,v,bz.zero⟩],0)
def gm (v:bz) (e:aR):aR×Int:=
 if !(gT e.used v).2 then (e,5) else if !mU (gT e.used v).1 e.dc then (e,10) else ({e with used:=(gT e.used v).1},0)
def ek (v:bz) (e:aR):aR×Int:=
 if !(gu e.used v).2 then (e,15) else ({e with used:=(gu e.used v).1},0)
def jX (f:aR→aR×Int) (t:List aR):List aD→List aR→List aR×Int
 |[],out=>(out,0)
 |p::r,out=>if (f (t.getD (bM t p).toNat aR.zero)).2≠0 then (t,(f (t.getD (bM t p).toNat aR.zero)).2) else jX f t r (out.set (bM t p).toNat (f (t.getD (bM t p).toNat aR.zero)).1)
def qp (f:aR→aR×Int) (t:List aR) (p:aD):List aR×Int:=
 if !named p then (t,6) else if (above p).any (fun q=>decide (bM t q<0)) then (t,7) else jX f t (above p) t
def iv (t:List aR) (p:aD) (v:bz):List aR×Int:=qp (gm v) t p
def sQ (t:List aR) (p:aD) (v:bz):List aR×Int:=qp (ek v) t p
end Dem
end
section
open Go
namespace Dem
def qq (p:aD):List aR→bz→Option bz
 |[],s=>some s
 |x::r,s=>if x.path=[] then qq p r s else if parent x.path≠p then qq p r s else if (gT s x.used).2 then qq p r (gT s x.used).1 else none
def k9 (l:List aR) (e:aR):Bool:=match qq e.path l bz.zero with
 |none=>false
 |some s=>mU e.used e.dc&&mU s e.used
def eO (all:List aR):Option aD→List aR→Bool
 |_,[]=>true
 |none,e::r=>eO all (some e.path) r
 |some q,e::r=>!sle e.path q&&named e.path&&!decide (bM all (parent e.path)<0)&&eO all (some e.path) r
def gU (l:List aR):Bool:=
 if l.length<1 then false else if 16<l.length then false else if (l.getD 0 aR.zero).path≠[] then false else eO l none l&&!(l.any fun e=>!k9 l e)
def MJ (e:aR):aD:=bH e.path++CX e.dc++CX e.used
def Ih (l:List aR):aD:=ej l.length++(l.map MJ).flatten
def bB.TV:bB aR:=⟨aR.zero,0,false⟩
def xY (s:aD) (p:Int):bB aR:=
 if !(aU s p 98).ok then bB.TV else
 if !(iI s (aU s p 98).next).ok then bB.TV else
 ⟨⟨(aU s p 98).t,(iI s (aU s p 98).next).v,(iI s (iI s (aU s p 98).next).next).v⟩,(iI s (iI s (aU s p 98).next).next).next,(iI s (iI s (aU s p 98).next).next).ok⟩
def lB (s:aD):Nat→List aR→Int→bB (List aR)
 |0,l,p=>⟨l,p,true⟩
 |n+1,l,p=>if !(xY s p).ok then bB.nW else if decide ((xY s p).x=aR.zero)&&decide (0<l.length) then bB.nW else lB s n (l++[(xY s p).x]) (xY s p).next
def BJ (s:aD) (p:Int):bB (List aR):=
 if !(bD s p).ok then bB.nW else if 16<(bD s p).u then bB.nW else
 if !(lB s (bD s p).u.toNat [] (bD s p).next).ok then bB.nW else
 if !gU (lB s (bD s p).u.toNat [] (bD s p).next).x then bB.nW else
 ⟨(lB s (bD s p).u.toNat [] (bD s p).next).x,(lB s (bD s p).u.toNat [] (bD s p).next).next,true⟩
end Dem
end
section
open Go
namespace Dem
def left (name:aD) (ps:List Place) (v:bz×Bool):bz×Bool:=ps.foldl (dD name) v
end Dem
end
section
open Go
namespace Dem
end Dem
end
section
open Go
namespace Dem
def T4:aD:=[122,111,110,101]
def lC (p:cO) (bu:Int):cO:=⟨p.nodes,p.places.filter (fun x=>!decide (x.bu=bu))⟩
end Dem
end
section
open Go
namespace Dem
structure Jb where
 id:Int
 x:Ask
 runs:Bool
 left:Int
deriving DecidableEq
def Jb.zero:Jb:=⟨0,Ask.zero,false,0⟩
instance:Inhabited Jb:=⟨Jb.zero⟩
structure bU where
 round:Int
 id:Int
 kind:Int
deriving DecidableEq
instance:Inhabited bU:=⟨⟨0,0,0⟩⟩
structure qG where
 first:Int
 l:List bU
deriving DecidableEq
structure cH where
 round:Int
 next:Int
 aW:cO
 tree:List aR
 aI:List Jb
 queue:List bX
 ev:qG
 au:qG
def bU.cells (n:bU):List D:=[.int .u64 n.round,.int .u64 n.id,.int .i64 n.kind]
def Jb.cells (j:Jb):List D:=[.int .u64 j.id,.str j.x.path,.int .u64 j.x.fQ.a,.int .u64 j.x.fQ.b,.int .u64 j.x.fQ.c,.int .u64 j.x.fQ.d,.int .i64 j.x.count,.int .i64 j.x.prio,.int .i64 j.x.dS,.sl (j.x.b9.map Term.cells),.bool j.runs,.int .i64 j.left]
def cH.zero:cH:=⟨0,0,⟨[],[]⟩,[],[],[],⟨0,[]⟩,⟨0,[]⟩⟩
def T7:cH:={cH.zero with next:=1,tree:=[⟨[],bz.zero,bz.zero⟩]}
def KR (l:List Jb) (id:Int):Int:=idxOf (fun j=>decide (j.id=id)) l
def eH (l:List Jb) (id:Int):Jb×Bool:=match l.find? (fun j=>decide (j.id=id)) with
 |some j=>(j,true)
 |none=>(Jb.zero,false)
def u64 (n:Int):Int:=n%18446744073709551616
def tell (x:qG) (n:bU):qG:=if 32<(x.l++[n]).length then ⟨u64 (x.first+1),(x.l++[n]).drop 1⟩ else ⟨x.first,x.l++[n]⟩
def wg (first f:Int):List bU→Nat→List bU×Int→List bU×Int
 |[],_,r=>r
 |n::l,k,r=>wg first f l (k+1) (if decide (f≤u64 (first+k))&&decide (r.1.length<8) then (r.1++[n],u64 (u64 (first+k)+1)) else r)
def tU (x:qG) (f:Int):List bU×Int:=wg x.first f x.l 0 ([],max f x.first)
def gV (t:List aR) (p:aD):Bool:=!((mW p++[[]]).any fun q=>!(lA t q).2)
def fO (s:cH) (id kind:Int):cH:={s with ev:=tell s.ev ⟨s.round,id,kind⟩}
def eA (s:cH) (x:Ask):cH×Int×Int:=
 if cR x≠0 then (s,0,cR x) else
 if !gV s.tree x.path then (s,0,7) else
 if 32≤s.aI.length∨s.next=18446744073709551615 then (s,0,9) else
 if (jI s.queue ⟨s.next,x.prio⟩).2≠0 then (s,0,(jI s.queue ⟨s.next,x.prio⟩).2) else
 (fO {s with queue:=(jI s.queue ⟨s.next,x.prio⟩).1,aI:=s.aI++[⟨s.next,x,false,0⟩],next:=u64 (s.next+1)} s.next 1,s.next,0)
def D1 (s:cH) (k:Nat) (j:Jb):cH:={s with aI:=s.aI.set k j}
def j9 (s:cH) (k:Nat) (j:Jb) (id:Int) (nodes:List aD):cH×Int:=
 if j.runs then (s,15) else if (nodes.length:Int)≠j.x.count then (s,1) else
 if !(cW j.x).2 then (s,5) else
 if (iv s.tree j.x.path (cW j.x).1).2≠0 then (s,(iv s.tree j.x.path (cW j.x).1).2) else
 if (xM s.aW id nodes j.x.fQ).2≠0 then (s,(xM s.aW id nodes j.x.fQ).2) else
 (fO (D1 {s with tree:=(iv s.tree j.x.path (cW j.x).1).1,aW:=(xM s.aW id nodes j.x.fQ).1,queue:=(BG s.queue id).1} k {j with runs:=true,left:=j.x.dS}) id 2,0)
def cw (s:cH) (id:Int) (nodes:List aD):cH×Int:=match s.aI.findIdx? (fun j=>decide (j.id=id)) with
 |none=>(s,7)
 |some k=>j9 s k (s.aI.getD k Jb.zero) id nodes
def nF (s:cH) (j:Jb):cH:=
 {s with tree:=(if (cW j.x).2 then (sQ s.tree j.x.path (cW j.x).1).1 else s.tree),aW:=lC s.aW j.id}
def jJ (s:cH) (id kind:Int):cH×Int:=match s.aI.findIdx? (fun j=>decide (j.id=id)) with
 |none=>(s,7)
 |some k=>if !(s.aI.getD k Jb.zero).runs then (s,15) else
  (fO (D1 {nF s (s.aI.getD k Jb.zero) with queue:=(jI s.queue ⟨id,(s.aI.getD k Jb.zero).x.prio⟩).1} k {s.aI.getD k Jb.zero with runs:=false,left:=0}) id kind,0)
def send (s:cH) (id kind:Int):cH×Int:=match s.aI.findIdx? (fun j=>decide (j.id=id)) with
 |none=>(s,7)
 |some k=>(fO {(if (s.aI.getD k Jb.zero).runs then nF s (s.aI.getD k Jb.zero) else {s with queue:=(BG s.queue id).1}) with aI:=s.aI.eraseIdx k} id kind,0)
end Dem
end
section
open Go Go.Proofs Go.ChangeShapes Go.WideShapes Go.RowKit
namespace Dem
theorem trodAll_nil {H:Type} {enc:TypeId×Value→H} {P:Program} {W:World} {vs:List Value} {ds:List (DataW H)} {ps:List MemPlace} (h:DataW.TrodAll enc P W 0 (fun _=>true) true [] vs ds ps):vs=[]∧ds=[]:=by
 cases vs with
 |nil=>cases ds with
  |nil=>exact ⟨rfl,rfl⟩
  |cons d ds=>exact h.elim
 |cons v vs=>cases ds<;>exact h.elim
theorem trodAll_cons {H:Type} {enc:TypeId×Value→H} {P:Program} {W:World} {t:TypeId} {ts:List TypeId} {vs:List Value} {ds:List (DataW H)} {ps:List MemPlace} (h:DataW.TrodAll enc P W 0 (fun _=>true) true (t::ts) vs ds ps):
 ∃v vs' d ds' p q,vs=v::vs'∧ds=d::ds'∧DataW.Trod enc P W 0 (fun _=>true) true t v d p∧DataW.TrodAll enc P W 0 (fun _=>true) true ts vs' ds' q:=by
 cases vs with
 |nil=>cases ds<;>exact h.elim
 |cons v vs=>cases ds with
  |nil=>exact h.elim
  |cons d ds=>
   obtain ⟨p,q,h1,h2,rfl⟩:=h
   exact ⟨v,vs,d,ds,p,q,rfl,rfl,h1,h2⟩
section
variable {H:Type} {enc:TypeId×Value→H} {W:World} {v:Value} {d:DataW H} {p:List MemPlace} {base:Nat}
abbrev okW (W:World):Nat→Prop:=be (fun _=>0) [] W (fun _=>False)
theorem KT (W:World):∀aB,aB<W.heap.size→okW W aB:=fun aB hb=>⟨hb,fun h=>h,fun i b hb=>by simp at hb⟩
theorem wf_u64 {n:Int} (h:(Lit.int .u64 n).wf=true):0≤n∧n<18446744073709551616:=by
 simp only [Lit.wf,Bool.and_eq_true,IntKind.min,IntKind.max,IntKind.signed,IntKind.bits] at h
 simp at h
 omega
theorem Ab {α:Type} {cells:α→List D} {Q:α→Prop}:∀(es:List (List D)),(∀r∈es,∃x,r=cells x∧Q x)→∃l:List α,es=l.map cells∧∀x∈l,Q x
 |[],_=>⟨[],rfl,by simp⟩
 |r::es,h=>by
  obtain ⟨x,rfl,hx⟩:=h r (by simp)
  obtain ⟨l,rfl,hl⟩:=Ab es (fun r hr=>h r (by simp [hr]))
  exact ⟨x::l,rfl,fun y hy=>by rcases List.mem_cons.1 hy with rfl|hy;exact hx;exact hl y hy⟩
theorem T8 {r:List D} (h:cG [.int .u64,.int .u64,.int .i64] r):∃x:bU,r=x.cells∧True:=by
 simp only [cG,rm] at h
 obtain ⟨_,_,rfl,⟨n0,rfl,h0⟩,_,_,rfl,⟨n1,rfl,h1⟩,_,_,rfl,⟨n2,rfl,h2⟩,rfl⟩:=h
 exact ⟨⟨n0,n1,n2⟩,rfl,trivial⟩
theorem NS (hval:Value.okWide Tryz.prog W .any base 22 v) (h:DataW.Trod enc Tryz.prog W 0 (fun _=>true) true 22 v d p):
 ∃l:List bU,ah (fun _=>0) [] W (okW W) (SL (l.map bU.cells)) v∧l.length≤maxLen:=by
 obtain ⟨fuel,hf⟩:=h
 obtain ⟨a,len,cap,rfl⟩:=okWide_slice (show Tryz.prog.underlying 22=some (.slice 29) by kernel_rfl) hval
 obtain ⟨h1,h2⟩:=oB (KT W) 8 fuel 22 [.slice a len cap] (d,p) [.sl [.int .u64,.int .u64,.int .i64]] hf (by kernel_rfl)
 simp only [cG,rm] at h2
 obtain ⟨_,_,e,⟨es,rfl,hl,hr⟩,rfl⟩:=h2
 rw [e] at h1
 simp only [cq] at h1
 obtain ⟨u,r,e2,h3,rfl⟩:=h1
 cases e2
 obtain ⟨l,rfl,oe⟩:=Ab (cells:=bU.cells) (Q:=fun _=>True) es (fun r hm=>T8 (hr r hm))
 exact ⟨l,by simpa only [ah] using h3,by simpa using hl⟩
theorem T9 (hval:Value.okWide Tryz.prog W .any base 23 v) (h:DataW.Trod enc Tryz.prog W 0 (fun _=>true) true 23 v d p):
 ∃k:Int,ah (fun _=>0) [] W (okW W) (.d (.int .u64 k)) v∧0≤k∧k<18446744073709551616:=by
 obtain ⟨n,rfl,_,_,hw⟩:=open_int (show Tryz.prog.underlying 23=some (.int .u64) by kernel_rfl) hval h
 exact ⟨n,by simp only [ah,aK],wf_u64 hw⟩
end
end Dem
end
section
namespace Dem
theorem wh {es:List (List D)} {row z:List D} {i:Nat} (h:i≤es.length):wrote (wrote (es.take i++List.replicate (es.length+1-i) z) i [row]) (i+1) (es.drop i)=es.take i++row::es.drop i:=by
 have hl:(es.take i).length=i:=by simp;omega
 have e1:wrote (es.take i++List.replicate (es.length+1-i) z) i [row]=es.take i++row::List.replicate (es.length-i) z:=by
  unfold wrote
  rw [List.take_left' hl,show i+[row].length=(es.take i).length+1 by rw [hl];rfl,List.drop_length_add_append,List.drop_replicate]
  simp;omega
 rw [e1]
 unfold wrote
 rw [show i+1=(es.take i).length+1 by rw [hl],List.take_length_add_append]
 have e2:List.drop ((es.take i).length+1+(es.drop i).length) (es.take i++row::List.replicate (es.length-i) z)=[]:=by
  rw [List.drop_eq_nil_iff];simp;omega
 rw [e2]
 simp
theorem Fs {es:List (List D)} {row:List D} {i:Nat} (h:i<es.length):wrote (wrote es (i+1) (es.drop i)) i [row]=es.take i++row::es.drop i:=by
 have e1:wrote es (i+1) (es.drop i)=es.take (i+1)++es.drop i:=by
  unfold wrote
  have:es.drop (i+1+(es.drop i).length)=[]:=by rw [List.drop_eq_nil_iff];simp;omega
  rw [this,List.append_nil]
 rw [e1]
 unfold wrote
 have hl:(es.take (i+1)).length=i+1:=by simp;omega
 rw [List.take_append_of_le_length (by omega),List.take_take,show i+[row].length=(es.take (i+1)).length by rw [hl];rfl,List.drop_left]
 rw [Nat.min_eq_left (by omega)];simp
theorem nY:∀(xs ys:List D),ys.length=xs.length→bF xs 0 ys=ys
 |[],[],_=>by simp [bF]
 |[],_::_,h=>by simp at h
 |_::_,[],h=>by simp at h
 |x::xs,y::ys,h=>by
  simp only [bF]
  rw [nY xs ys (by simpa using h)]
theorem nZ {α:Type}:∀(l:List α) (i:Nat) (x:α),i<l.length→(l.set i x).take (i+1)=l.take i++[x]
 |[],i,x,h=>by simp at h
 |y::l,0,x,h=>by simp
 |y::l,i+1,x,h=>by
  simp only [List.set_cons_succ,List.take_succ_cons,List.cons_append]
  rw [nZ l i x (by simpa using h)]
theorem rS {α:Type}:∀(l:List α) (i j:Nat) (x:α),i<j→(l.set i x).drop j=l.drop j
 |[],i,j,x,h=>by simp
 |y::l,0,j+1,x,h=>by simp
 |y::l,i+1,j+1,x,h=>by
  simp only [List.set_cons_succ,List.drop_succ_cons]
  exact rS l i j x (by omega)
 |y::l,_,0,x,h=>by omega
end Dem
end
section
open Go Dem Go.Proofs
namespace Dem
variable {t:Th}
theorem Ij (ht:TT t) {es:List (List D)} (aF:∀r∈es,r.length=7) (hs:es.length*80≤140737488355328) {m:Nat} (hm:m=es.length):
 FC 99 [SL es] [] (.ret (.ow 0 7 m)) [.row 7 es]:=by
 refine bC ht (aE:=[]) Tryz.func99 (c:=_) rfl rfl (N:=8) rfl (rs:=_) rfl (n:=0) rfl rfl ?_
 cbv
 refine ⟨fun b hb=>?_⟩
 simp only [ht] at hb
 cbv
 refine ai (fun h=>?_) (fun h=>?_)
 ·have he:=hb h
  subst he
  cbv
  exact Kz trivial rfl rfl (by rw [hm];rfl) rfl
 clear hb h
 cbv
 refine ⟨?_,?_⟩
 ·simp only [ht];simp;exact ⟨hs,aF⟩
 refine Fb trivial rfl rfl rfl rfl ?_ ?_
 ·simp only [ht];rw [hm];simp
 simp only [ht];rfl
theorem wi (ht:TT t) {es:List (List D)} (aF:∀r∈es,r.length=6) (hs:es.length*56≤140737488355328) {m:Nat} (hm:m=es.length):
 FC 144 [SL es] [] (.ret (.ow 0 6 m)) [.row 6 es]:=by
 refine bC ht (aE:=[]) Tryz.func144 (c:=_) rfl rfl (N:=8) rfl (rs:=_) rfl (n:=0) rfl rfl ?_
 cbv
 refine ⟨fun b hb=>?_⟩
 simp only [ht] at hb
 cbv
 refine ai (fun h=>?_) (fun h=>?_)
 ·have he:=hb h
  subst he
  cbv
  exact Kz trivial rfl rfl (by rw [hm];rfl) rfl
 clear hb h
 cbv
 refine ⟨?_,?_⟩
 ·simp only [ht];simp;exact ⟨hs,aF⟩
 refine Fb trivial rfl rfl rfl rfl ?_ ?_
 ·simp only [ht];rw [hm];simp
 simp only [ht];rfl
theorem C5 (ht:TT t) {es:List (List D)} {x:D} {row:List D} {i n c:Nat} (hn:n=es.length) (hi:i≤n) (hc:n≤c) (hc0:n=0→c=0) (aF:∀r∈es,r.length=7) (hrow:(x::row).length=7) (hs:n<1000000) {r:List (List D)} (hr:r=es.take i++(x::row)::es.drop i):
 FC 98 [.vw 0 7 0 n c true,bq (i:Int),SL [x::row]] [.row 7 es] (.ret (SL r)) [.dead]:=by
 obtain ⟨n1,CR⟩:∃n1,n1=n+1:=⟨_,rfl⟩
 obtain ⟨i1,hi1⟩:∃i1,i1=i+1:=⟨_,rfl⟩
 obtain ⟨ni,hni⟩:∃ni,ni=n-i:=⟨_,rfl⟩
 obtain ⟨ci,uH⟩:∃ci,ci=c-i:=⟨_,rfl⟩
 obtain ⟨zQ,Q6⟩:∃zQ,zQ=c-i1:=⟨_,rfl⟩
 obtain ⟨pR,uI⟩:∃pR,pR=n1-i:=⟨_,rfl⟩
 have hW:∀P:Prop,((IntKind.i64.wrap ((n:Int)+1)=(n1:Int))→(IntKind.i64.wrap ((n1:Int)-(i:Int))=(pR:Int))→(IntKind.i64.wrap ((i:Int)+1)=(i1:Int))→P)→P:=
  fun P h=>h (by rw [wrap64 (by omega) (by omega)];omega) (by rw [wrap64 (by omega) (by omega)];omega) (by rw [wrap64 (by omega) (by omega)];omega)
 have hrl:r.length=n1:=by rw [hr,List.length_append,List.length_cons,List.length_take,List.length_drop];omega
 have W4:n≠0→FC 153 [SL [x::row],.vw 0 7 i1 ni zQ true] [.row 7 es] (.ret (BL false)) [.row 7 es]:=fun h0=>
  ir KA Tryz.func153 rfl rfl rfl rfl (tS:=34) (tR:=4) rfl rfl (by intro h;rw [h] at hn;exact h0 hn)
 refine bC ht (aE:=[.row 7 es]) Tryz.func98 (c:=_) rfl rfl (N:=95) rfl (rs:=_) rfl (n:=1) rfl rfl ?_
 cbv
 refine bR (.vw 0 7 i ni ci true) [.row 7 es] ?_ ?_ rfl ?_
 ·simp [ht,dZ,bS];omega
 ·simp [ht,aX,aV,hni,uH]
 cbv
 refine qj (by simp [ht]) ?_
 cbv
 refine ai (fun h=>?_) (fun h=>?_)
 ·have hin:i=n:=by simp [ht,aa] at h;omega
  clear h
  cbv
  refine bR (.ow 1 7 n1) [.dead,.row 7 r] ?_ ?_ ?_ ?_
  ·simp only [ht]
   refine ⟨⟨hn,by simp;omega,?_⟩,rfl,hn,fun h=>⟨hc0 (by rw [hn,h];rfl),rfl⟩⟩
   intro r hr
   rcases List.mem_append.1 hr with hr|hr
   ·exact aF r hr
   simp at hr;subst hr;exact hrow
  ·simp [ht,CR,hn]
  ·simp only [ht];rw [hr]
   have:i=es.length:=by omega
   subst this;simp
  cbv
  refine an trivial ?_ rfl rfl rfl rfl
  simp only [ht];exact hrl.symm
 have hin:i<n:=by simp [ht,aa] at h;omega
 clear h
 have ya:r=(r.drop 0).take n1:=by rw [List.drop_zero,List.take_of_length_le (by omega)]
 cbv
 refine ai (fun h2=>?_) (fun h2=>?_)
 ·have W5:c=n:=by
   refine hW _ fun e1 e2 e3=>?_
   simp [ht,aa,e1] at h2;omega
  clear h2
  obtain ⟨L,hL⟩:∃L:List (List D),L=es.take i++List.replicate (es.length+1-i) [D.str [],D.int IntKind.u64 0,D.int IntKind.u64 0,D.int IntKind.u64 0,D.int IntKind.u64 0,D.sl [],D.bool false]:=⟨_,rfl⟩
  have JG:L.length=n1:=by rw [hL];simp;omega
  obtain ⟨L1,uJ⟩:∃L1,L1=wrote L i [x::row]:=⟨_,rfl⟩
  have mY:L1.length=n1:=by rw [uJ];simp [wrote,JG];omega
  have qA:r=wrote L1 i1 (es.drop i):=by rw [hi1,uJ,hL,wh (by omega),hr]
  cbv
  refine bR (.vw 0 7 0 i c true) [.row 7 es] ?_ ?_ rfl ?_
  ·simp [ht,dZ,bS];omega
  ·simp [ht,aX,aV]
  cbv
  refine bR (.vw 1 7 0 n1 n1 false) [.row 7 es,.row 7 L] ?_ ?_ ?_ ?_
  ·refine hW _ fun e1 e2 e3=>?_
   simp [ht,aa,e1,e2];omega
  ·refine hW _ fun e1 e2 e3=>?_
   simp [ht,aa,e1,e2];omega
  ·refine hW _ fun e1 e2 e3=>?_
   simp [ht,aa,e1,e2,hL];omega
  cbv
  refine bR (.vw 1 7 i pR pR false) [.row 7 es,.row 7 L] ?_ ?_ rfl ?_
  ·simp [ht,dZ,bS];omega
  ·simp [ht,aX,aV,uI]
  cbv
  refine bR (bq 1) [.row 7 es,.row 7 L1] ?_ ?_ ?_ ?_
  ·simp only [ht,fo]
   refine ⟨⟨by omega,?_⟩,?_⟩
   ·intro h;rw [h] at JG;simp at JG;omega
   intro r hr;have:=List.mem_of_mem_take hr;simp at this;rw [this];exact hrow
  ·simp [ht,aa];omega
  ·simp [ht,uJ,show min 1 pR=1 by omega]
  cbv
  refine bJ [false,false,false,false,false,false,false,false,true] (by kernel_rfl) (by kernel_rfl) ?_
  cbv
  repeat (refine gI (by (simp;done)) ?_)
  refine iX (.vw 1 7 i1 ni ni false) (fun _=>⟨?_,?_⟩) ?_
  ·refine hW _ fun e1 e2 e3=>?_
   simp [ht,aa,e3,dZ,bS];omega
  ·refine hW _ fun e1 e2 e3=>?_
   simp [ht,aa,e3,aX,aV];omega
  cbv
  repeat (refine gI (by (simp;done)) ?_)
  refine iX (.vw 0 7 i ni ci true) (fun _=>⟨?_,?_⟩) ?_
  ·simp [ht,dZ,bS];omega
  ·simp [ht,aX,aV,hni,uH]
  cbv
  refine bR (bq (ni:Nat)) [.row 7 es,.row 7 r,.bA] ?_ ?_ ?_ ?_
  ·simp only [ht,fo]
   refine ⟨by omega,⟨by omega,?_⟩,?_⟩
   ·intro h;rw [h] at mY;simp at mY;omega
   intro r hr;exact aF r (List.mem_of_mem_drop (List.mem_of_mem_take hr))
  ·simp [ht,aa]
  ·simp only [ht,qA]
   rw [List.take_of_length_le (by simp;omega)]
  cbv
  refine Bt [true] trivial ?_ rfl rfl rfl ?_
  ·simp only [ht];omega
  simp only [ht];rw [←ya]
 have W5:n<c:=by
  refine hW _ fun e1 e2 e3=>?_
  simp [ht,aa,e1] at h2;omega
 clear h2
 obtain ⟨L1,uJ⟩:∃L1,L1=wrote es i1 (es.drop i):=⟨_,rfl⟩
 have qA:r=wrote L1 i [x::row]:=by rw [uJ,hi1,Fs (by omega),hr]
 have mY:L1.length=n1:=by rw [uJ];simp [wrote];omega
 cbv
 refine bR (.vw 0 7 0 n1 c true) [.row 7 es] ?_ ?_ rfl ?_
 ·refine hW _ fun e1 e2 e3=>?_
  simp [ht,aa,e1,dZ,bS];omega
 ·refine hW _ fun e1 e2 e3=>?_
  simp [ht,aa,e1,aX,aV]
 cbv
 refine bR (.vw 0 7 i1 ni zQ true) [.row 7 es] ?_ ?_ rfl ?_
 ·refine hW _ fun e1 e2 e3=>?_
  simp [ht,aa,e3,dZ,bS];omega
 ·refine hW _ fun e1 e2 e3=>?_
  simp [ht,aa,e3,aX,aV];omega
 cbv
 refine dn trivial (W4 (by omega)) ?_
 cbv
 refine mS (by simp [ht]) ?_
 cbv
 refine bJ [false,false,false,false,false,false,false,false,true] (by kernel_rfl) (by kernel_rfl) ?_
 cbv
 repeat (refine gI (by (simp;done)) ?_)
 refine iX (.vw 0 7 i1 ni zQ true) (fun _=>⟨?_,?_⟩) ?_
 ·refine hW _ fun e1 e2 e3=>?_
  simp [ht,aa,e3,dZ,bS];omega
 ·refine hW _ fun e1 e2 e3=>?_
  simp [ht,aa,e3,aX,aV];omega
 cbv
 repeat (refine gI (by (simp;done)) ?_)
 refine iX (.vw 0 7 i pR ci true) (fun _=>⟨?_,?_⟩) ?_
 ·simp [ht,dZ,bS];omega
 ·simp [ht,aX,aV,uI,uH]
 cbv
 refine bR (bq (ni:Nat)) [.row 7 L1,.bA] ?_ ?_ ?_ ?_
 ·simp only [ht,fo]
  refine ⟨by omega,⟨by omega,?_⟩,?_⟩
  ·intro h;rw [h] at hn;simp at hn;omega
  intro r hr;exact aF r (List.mem_of_mem_drop (List.mem_of_mem_take hr))
 ·simp [ht,aa];omega
 ·simp only [ht,uJ]
  rw [List.take_of_length_le (by simp;omega)]
 cbv
 refine bR (.vw 0 7 i pR ci true) [.row 7 L1,.bA] ?_ ?_ rfl ?_
 ·simp [ht,dZ,bS];omega
 ·simp [ht,aX,aV,uI,uH]
 cbv
 refine bR (bq 1) [.row 7 r,.bA] ?_ ?_ ?_ ?_
 ·simp only [ht,fo]
  refine ⟨⟨by omega,?_⟩,?_⟩
  ·intro h;rw [h] at mY;simp at mY;omega
  intro r hr;have:=List.mem_of_mem_take hr;simp at this;rw [this];exact hrow
 ·simp [ht,aa];omega
 ·simp [ht,qA,show min 1 pR=1 by omega]
 cbv
 refine Bt [true] trivial ?_ rfl rfl rfl ?_
 ·simp only [ht];omega
 simp only [ht];rw [←ya]
theorem Ft (ht:TT t) {es:List (List D)} {x:D} {row:List D} {i n:Nat} (hn:n=es.length) (hi:i≤n) (aF:∀r∈es,r.length=7) (hrow:(x::row).length=7) (hs:n<1000000) {r:List (List D)} (hr:r=es.take i++(x::row)::es.drop i):
 FC 98 [.ow 0 7 n,bq (i:Int),SL [x::row]] [.row 7 es] (.ret (SL r)) [.dead]:=
 fJ fun c hc hc0=>C5 ht hn hi hc hc0 aF hrow hs hr
end Dem
end
