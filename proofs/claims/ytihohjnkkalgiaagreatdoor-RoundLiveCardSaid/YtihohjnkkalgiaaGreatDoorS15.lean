/- Parts of a proof, joined. -/
import Derived.Test.YtihohjnkkalgiaaGreatDoorS14
set_option linter.all false
set_option maxRecDepth 100000
set_option maxHeartbeats 4000000
section
open Go
namespace Dem
abbrev vk (k:Nat) (v:bM):Nat:=(v.at_ k).toNat
def AI (k:Nat) (l:List bg):Nat:=(l.map fun e=>vk k e.used).sum
def kids (p:aK) (l:List bg):List bg:=l.filter fun x=>!decide (x.path=[])&&decide (parent x.path=p)
theorem nh (k:Nat):vk k bM.zero=0:=by unfold vk bM.at_;split<;>rfl
theorem JA {v:bM} (h:v.w) {k:Nat} (hk:k<4):v.at_ k=(vk k v:Int)∧vk k v<18446744073709551616:=by
 have:=h k hk;unfold vk;omega
theorem PK {a b:bM} (ha:a.w) (hb:b.w) (h:∀k<4,vk k a=vk k b):a=b:=by
 refine bM.Vh fun k hk=>?_
 rw [(JA ha hk).1,(JA hb hk).1,h k hk]
theorem JB {a b:bM} (h:(jX a b).2=true):(jX a b).1.w:=by
 intro k hk
 have h1:=LA h k hk
 have h2:=Es.1 h k hk
 rw [h1];omega
theorem oR {a b:bM} (h:(jX a b).2=true) {k:Nat} (hk:k<4):vk k (jX a b).1=vk k a+vk k b:=by
 unfold vk;rw [LA h k hk];omega
theorem EA {a b:bM} (ha:a.w) (h:(ej a b).2=true) {k:Nat} (hk:k<4):vk k (ej a b).1=vk k a-vk k b:=by
 have:=(JA ha hk).2
 unfold vk at*;rw [Et h k hk]
 have h2:((a.at_ k).toNat-(b.at_ k).toNat)%18446744073709551616=(a.at_ k).toNat-(b.at_ k).toNat:=Nat.mod_eq_of_lt (by omega)
 omega
theorem n7 {a b:bM}:(jX a b).2=true↔∀k<4,vk k a+vk k b<18446744073709551616:=Es
theorem mF {a b:bM}:lq a b=true↔∀k<4,vk k a≤vk k b:=m8
theorem oS (p:aK):∀(l:List bg) (s:bM),s.w→(∀k<4,vk k s+AI k (kids p l)<18446744073709551616)→
 ∃v,CZ p l s=some v∧v.w∧∀k<4,vk k v=vk k s+AI k (kids p l)
 |[],s,hs,_=>⟨s,rfl,hs,by simp [kids,AI]⟩
 |x::r,s,hs,h=>by
  unfold CZ
  by_cases h1:x.path=[]
  ·have e:kids p (x::r)=kids p r:=by simp [kids,h1]
   rw [e] at h ⊢;rw [if_pos h1]
   exact oS p r s hs h
  rw [if_neg h1]
  by_cases h2:parent x.path≠p
  ·have e:kids p (x::r)=kids p r:=by simp [kids,h2]
   rw [e] at h ⊢;rw [if_pos h2]
   exact oS p r s hs h
  have e:kids p (x::r)=x::kids p r:=by simp only [Decidable.not_not] at h2;simp [kids,h1,h2]
  have eu:∀k,AI k (kids p (x::r))=vk k x.used+AI k (kids p r):=by intro k;rw [e];simp [AI]
  simp only [eu] at h ⊢
  rw [if_neg h2]
  have ok:(jX s x.used).2=true:=n7.2 fun k hk=>by have:=h k hk;omega
  rw [if_pos ok]
  obtain ⟨v,a1,a2,a3⟩:=oS p r (jX s x.used).1 (JB ok) (fun k hk=>by rw [oR ok hk];have:=h k hk;omega)
  exact ⟨v,a1,a2,fun k hk=>by rw [a3 k hk,oR ok hk];omega⟩
theorem MK {l:List bg} {e:bg} (hu:e.used.w) (h1:∀k<4,vk k e.used≤vk k e.eZ) (h2:∀k<4,AI k (kids e.path l)≤vk k e.used):Ep l e=true:=by
 obtain ⟨v,a1,a2,a3⟩:=oS e.path l bM.zero wG (fun k hk=>by rw [nh];have:=h2 k hk;have:=(JA hu hk).2;omega)
 unfold Ep
 rw [a1]
 simp only [Bool.and_eq_true]
 refine ⟨mF.2 h1,mF.2 fun k hk=>?_⟩
 rw [a3 k hk,nh];have:=h2 k hk;omega
structure Tree.ok (l:List bg):Prop where
 root:∃e r,l=e::r∧e.path=[]
 most:l.length≤16
 xZ:l.Pairwise (fun x y=>x.path<y.path)
 named:∀e∈l,named e.path=true
 ZW:∀e∈l,∃f∈l,f.path=parent e.path
 fits:∀e∈l,∀k<4,vk k e.used≤vk k e.eZ
 w:∀e∈l,e.eZ.w∧e.used.w
theorem PL {t:List bg} (ha:t.Pairwise (fun x y=>x.path<y.path)) {i j:Nat} {x y:bg} (hx:t[i]?=some x) (hy:t[j]?=some y) (e:x.path=y.path):i=j:=by
 obtain ⟨hi,rfl⟩:=List.getElem?_eq_some_iff.1 hx
 obtain ⟨hj,rfl⟩:=List.getElem?_eq_some_iff.1 hy
 rcases Nat.lt_trichotomy i j with g|g|g
 ·have:=List.pairwise_iff_getElem.1 ha i j hi hj g;rw [e] at this;exact absurd this (ku _)
 ·exact g
 have:=List.pairwise_iff_getElem.1 ha j i hj hi g;rw [e] at this;exact absurd this (ku _)
theorem SH {t:List bg} (ha:t.Pairwise (fun x y=>x.path<y.path)) {x y:bg} (hx:x∈t) (hy:y∈t) (e:x.path=y.path):x=y:=by
 obtain ⟨i,hi⟩:=List.getElem?_of_mem hx
 obtain ⟨j,hj⟩:=List.getElem?_of_mem hy
 have:=PL ha hi hj e
 subst this;rw [hi] at hj;exact Option.some.inj hj
theorem tK {t:List bg} {q:aK} (h:0≤cm t q):∃(i:Nat) (e:bg),t[i]?=some e∧e.path=q∧cm t q=i:=by
 rcases cJ (rfl:cm t q=idxOf _ t) with ⟨h1,_⟩|⟨i,x,h1,_,h3,h4,_⟩
 ·omega
 exact ⟨i,x,h3,by simpa using h4,h1⟩
theorem AJ {t:List bg} {e:bg} (he:e∈t):0≤cm t e.path:=by
 rcases cJ (rfl:cm t e.path=idxOf _ t) with ⟨_,h2,_⟩|⟨i,x,h1,_⟩
 ·rw [List.findIdx?_eq_none_iff] at h2;have:=h2 e he;simp at this
 omega
theorem JC {t:List bg} {q:aK}:cm t q<0↔∀e∈t,e.path≠q:=by
 constructor
 ·rintro h e he rfl;have:=AJ he;omega
 intro h
 refine Int.not_le.1 fun g=>?_
 obtain ⟨i,e,h1,h2,_⟩:=tK g
 exact h e (List.mem_of_getElem? h1) h2
theorem AK {all:List bg} (hn:∀e∈all,named e.path=true) (hp:∀e∈all,∃f∈all,f.path=parent e.path):
 ∀(r:List bg) (q:aK),r.Pairwise (fun x y=>x.path<y.path)→(∀e∈r,q<e.path)→(∀e∈r,e∈all)→oQ all (some q) r=true
 |[],_,_,_,_=>rfl
 |e::r,q,ha,hq,hm=>by
  rw [List.pairwise_cons] at ha
  have h1:(!sle e.path q)=true:=Ly.2 (hq e (by simp))
  have h2:=hn e (hm e (by simp))
  have h3:(!decide (cm all (parent e.path)<0))=true:=by
   obtain ⟨f,hf,g⟩:=hp e (hm e (by simp))
   have:=AJ hf;rw [g] at this
   simp;omega
  unfold oQ
  rw [h1,h2,h3,AK hn hp r e.path ha.2 (fun x hx=>ha.1 x hx) (fun x hx=>hm x (by simp [hx]))];rfl
theorem JD {l:List bg} (h:Tree.ok l) (hk:∀e∈l,∀k<4,AI k (kids e.path l)≤vk k e.used):Er l=true:=by
 obtain ⟨e,r,rfl,he⟩:=h.root
 have hm:=h.most
 have h1:oQ (e::r) none (e::r)=true:=by
  rw [oQ]
  have ha:=h.xZ
  rw [List.pairwise_cons] at ha
  exact AK h.named h.ZW r e.path ha.2 (fun x hx=>ha.1 x hx) (fun x hx=>by simp [hx])
 have h2:((e::r).any fun x=>!Ep (e::r) x)=false:=by
  rw [List.any_eq_false];intro x hx
  rw [MK (h.w x hx).2 (h.fits x hx) (hk x hx)];simp
 unfold Er
 rw [if_neg (by simp),if_neg (by omega),if_neg (by simp [he]),h1,h2];rfl
def vg (f:bg→bg×Int) (A:List aK) (t:List bg):List bg:=t.map fun e=>if e.path∈A then (f e).1 else e
theorem vj (f:bg→bg×Int) {t:List bg} (ha:t.Pairwise (fun x y=>x.path<y.path)):∀(A:List aK) (out:List bg),(∀q∈A,0≤cm t q)→out.length=t.length→
 ((∃e∈t,e.path∈A∧(f e).2≠0)∧(kr f t A out).1=t∧(kr f t A out).2≠0)∨
 ((∀e∈t,e.path∈A→(f e).2=0)∧(kr f t A out).2=0∧(kr f t A out).1.length=t.length∧∀(i:Nat) (e:bg),t[i]?=some e→(kr f t A out).1[i]?=if e.path∈A then some (f e).1 else out[i]?)
 |[],out,_,hl=>.inr ⟨by simp,rfl,hl,by intro i e _;simp [kr]⟩
 |q::A,out,hq,hl=>by
  obtain ⟨i,e,h1,h2,h3⟩:=tK (hq q (by simp))
  have hg:t.getD (cm t q).toNat bg.zero=e:=by rw [h3,Int.toNat_natCast,List.getD_eq_getElem?_getD,h1];rfl
  have hem:=List.mem_of_getElem? h1
  have hil:=(List.getElem?_eq_some_iff.1 h1).1
  unfold kr
  rw [hg]
  by_cases h0:(f e).2≠0
  ·rw [if_pos h0];exact .inl ⟨⟨e,hem,by simp [h2],h0⟩,rfl,h0⟩
  rw [if_neg h0]
  simp only [Decidable.not_not] at h0
  rw [h3,Int.toNat_natCast]
  rcases vj f ha A (out.set i (f e).1) (fun q hq'=>hq q (by simp [hq'])) (by simp [hl]) with ⟨⟨x,b1,b2,b3⟩,b4,b5⟩|⟨b1,b2,b3,b4⟩
  ·exact .inl ⟨⟨x,b1,by simp [b2],b3⟩,b4,b5⟩
  refine .inr ⟨?_,b2,b3,?_⟩
  ·intro x hx hp
   rcases List.mem_cons.1 hp with g|g
   ·rw [SH ha hx hem (by rw [g,h2])];exact h0
   exact b1 x hx g
  intro j x hx
  rw [b4 j x hx]
  by_cases g:x.path∈A
  ·rw [if_pos g,if_pos (by simp [g])]
  rw [if_neg g]
  by_cases g2:x.path=q
  ·have:=PL ha hx h1 (by rw [g2,h2])
   subst this
   rw [hx] at h1;cases h1
   rw [if_pos (by simp [g2]),List.getElem?_set_self (by omega)]
  have hji:i≠j:=by rintro rfl;rw [hx] at h1;cases h1;exact g2 h2
  rw [if_neg (by simp [g2,g]),List.getElem?_set_ne hji]
theorem qH (f:bg→bg×Int) {t:List bg} (ha:t.Pairwise (fun x y=>x.path<y.path)) (p:aK):
 ((pu f t p).1=t∧(pu f t p).2≠0∧(named p=false∨(∃q∈above p,∀e∈t,e.path≠q)∨∃e∈t,e.path∈above p∧(f e).2≠0))∨
 (pu f t p=(vg f (above p) t,0)∧named p=true∧(∀q∈above p,∃e∈t,e.path=q)∧∀e∈t,e.path∈above p→(f e).2=0):=by
 unfold pu
 cases hn:named p with
 |false=>exact .inl ⟨rfl,by simp,.inl rfl⟩
 |true=>
  simp only [Bool.not_true,Bool.false_eq_true,if_false]
  by_cases h:((above p).any fun q=>decide (cm t q<0))=true
  ·rw [if_pos h]
   obtain ⟨q,hq,g⟩:=List.any_eq_true.1 h
   exact .inl ⟨rfl,by simp,.inr (.inl ⟨q,hq,JC.1 (by simpa using g)⟩)⟩
  rw [if_neg h]
  have hq:∀q∈above p,0≤cm t q:=fun q hq=>Int.not_lt.1 fun g=>h (List.any_eq_true.2 ⟨q,hq,by simpa using g⟩)
  rcases vj f ha (above p) t hq rfl with ⟨b1,b2,b3⟩|⟨b1,b2,b3,b4⟩
  ·exact .inl ⟨b2,b3,.inr (.inr b1)⟩
  refine .inr ⟨?_,by trivial,fun q hm=>?_,b1⟩
  ·refine Prod.ext ?_ b2
   refine List.ext_getElem? fun i=>?_
   unfold vg
   rw [List.getElem?_map]
   cases hi:t[i]? with
   |none=>rw [List.getElem?_eq_none_iff] at hi;simp only [Option.map_none];rw [List.getElem?_eq_none_iff];omega
   |some e=>
    rw [b4 i e hi]
    simp only [Option.map_some]
    split
    ·rfl
    exact hi
  obtain ⟨i,e,g1,g2,_⟩:=tK (hq q hm)
  exact ⟨e,List.mem_of_getElem? g1,g2⟩
theorem oT {v:bM} {e:bg}:(fK v e).2=0↔(jX e.used v).2=true∧lq (jX e.used v).1 e.eZ=true:=by
 unfold fK
 cases h1:(jX e.used v).2<;>cases h2:lq (jX e.used v).1 e.eZ<;>simp
theorem ya {v:bM} {e:bg} (h:(fK v e).2=0):(fK v e).1={e with used:=(jX e.used v).1}:=by
 obtain ⟨h1,h2⟩:=oT.1 h
 unfold fK;rw [h1,h2];rfl
theorem vn {v:bM} {e:bg}:(eI v e).2=0↔(ej e.used v).2=true:=by
 unfold eI
 cases h1:(ej e.used v).2<;>simp
theorem yb {v:bM} {e:bg} (h:(eI v e).2=0):(eI v e).1={e with used:=(ej e.used v).1}:=by
 unfold eI;rw [vn.1 h];rfl
structure cr (t u:List bg):Prop where
 len:u.length=t.length
 at_:∀(i:Nat) (e:bg),t[i]?=some e→∃x,u[i]?=some x∧x.path=e.path∧x.eZ=e.eZ
theorem cr.paths {t u:List bg} (h:cr t u):u.map (·.path)=t.map (·.path):=by
 refine List.ext_getElem? fun i=>?_
 rw [List.getElem?_map,List.getElem?_map]
 cases hi:t[i]? with
 |none=>rw [List.getElem?_eq_none_iff] at hi;rw [List.getElem?_eq_none_iff.2 (by rw [h.len];exact hi)]
 |some e=>obtain ⟨x,h1,h2,_⟩:=h.at_ i e hi;rw [h1];simp [h2]
theorem cr.back {t u:List bg} (h:cr t u) {x:bg} (hx:x∈u):∃e∈t,x.path=e.path∧x.eZ=e.eZ:=by
 obtain ⟨i,hi⟩:=List.getElem?_of_mem hx
 have hl:=(List.getElem?_eq_some_iff.1 hi).1
 rw [h.len] at hl
 obtain ⟨y,h1,h2,h3⟩:=h.at_ i t[i] (List.getElem?_eq_getElem hl)
 rw [hi] at h1;cases h1
 exact ⟨t[i],List.getElem_mem hl,h2,h3⟩
theorem cr.mem {t u:List bg} (h:cr t u) {e:bg} (he:e∈t):∃x∈u,x.path=e.path:=by
 obtain ⟨i,hi⟩:=List.getElem?_of_mem he
 obtain ⟨x,h1,h2,_⟩:=h.at_ i e hi
 exact ⟨x,List.mem_of_getElem? h1,h2⟩
theorem cr.xZ {t u:List bg} (h:cr t u) (ha:t.Pairwise (fun x y=>x.path<y.path)):u.Pairwise (fun x y=>x.path<y.path):=by
 have h1:(t.map (·.path)).Pairwise (·<·):=List.pairwise_map.2 ha
 rw [←h.paths] at h1
 exact List.pairwise_map.1 h1
theorem cr.ok {t u:List bg} (h:cr t u) (ho:Tree.ok t) (hf:∀e∈u,∀k<4,vk k e.used≤vk k e.eZ) (hw:∀e∈u,e.used.w):Tree.ok u where
 root:=by
  obtain ⟨e,r,rfl,he⟩:=ho.root
  obtain ⟨x,h1,h2,_⟩:=h.at_ 0 e rfl
  cases u with
  |nil=>cases h1
  |cons y r2=>simp at h1;subst h1;exact ⟨y,r2,rfl,by rw [h2,he]⟩
 most:=by rw [h.len];exact ho.most
 xZ:=h.xZ ho.xZ
 named:=fun x hx=>by obtain ⟨e,he,h1,_⟩:=h.back hx;rw [h1];exact ho.named e he
 ZW:=fun x hx=>by
  obtain ⟨e,he,h1,_⟩:=h.back hx
  obtain ⟨f,hf,h2⟩:=ho.ZW e he
  obtain ⟨y,hy,h3⟩:=h.mem hf
  exact ⟨y,hy,by rw [h3,h2,h1]⟩
 fits:=hf
 w:=fun x hx=>by obtain ⟨e,he,_,h1⟩:=h.back hx;exact ⟨by rw [h1];exact (ho.w e he).1,hw x hx⟩
theorem AL {f:bg→bg×Int} {A:List aK} {t:List bg} (h:∀e∈t,e.path∈A→(f e).1.path=e.path∧(f e).1.eZ=e.eZ):cr t (vg f A t) where
 len:=by simp [vg]
 at_:=by
  intro i e hi
  refine ⟨if e.path∈A then (f e).1 else e,by rw [vg,List.getElem?_map,hi];rfl,?_⟩
  split
  ·rename_i g;exact h e (List.mem_of_getElem? hi) g
  exact ⟨rfl,rfl⟩
abbrev Jb.tot (j:Jb):bM:=(cZ j.x).1
def fP (k:Nat) (p:aK) (j:Jb):Nat:=if j.runs=true∧p∈above j.x.path then vk k j.tot else 0
def gQ (k:Nat) (p:aK) (l:List Jb):Nat:=(l.map (fP k p)).sum
theorem gy (k:Nat) (p:aK) (j:Jb) (l:List Jb):gQ k p (j::l)=fP k p j+gQ k p l:=by simp [gQ]
theorem oU (p:aK):∀(l:List Jb) (v:bM),v.w→(∀j∈l,j.runs=true→(cZ j.x).2=true)→(∀k<4,vk k v+gQ k p l<18446744073709551616)→
 ∃u,Db p l v=some u∧u.w∧∀k<4,vk k u=vk k v+gQ k p l
 |[],v,hv,_,_=>⟨v,rfl,hv,by simp [gQ]⟩
 |j::l,v,hv,ht,h=>by
  simp only [gy] at h ⊢
  unfold Db
  by_cases h1:j.runs=true
  ·rw [if_neg (by simp [h1])]
   by_cases h2:(!decide (p=[])&&!nF p j.x.path)=true
   ·have h3:¬p∈above j.x.path:=by
     have:=x9 (P:=j.x.path) (q:=p)
     intro g
     rw [decide_eq_true g] at this
     simp only [Bool.and_eq_true,Bool.not_eq_true'] at h2
     rw [h2.1,h2.2] at this;simp at this
    have h4:∀k,fP k p j=0:=fun k=>by simp [fP,h3]
    rw [if_pos h2]
    simp only [h4,Nat.zero_add] at h ⊢
    exact oU p l v hv (fun x hx=>ht x (by simp [hx])) h
   have h3:p∈above j.x.path:=by
    have:=x9 (P:=j.x.path) (q:=p)
    refine Decidable.byContradiction fun g=>?_
    rw [decide_eq_false g] at this
    rw [Bool.or_eq_false_iff] at this
    rw [this.1,this.2] at h2;simp at h2
   have h4:∀k,fP k p j=vk k j.tot:=fun k=>by simp [fP,h1,h3]
   simp only [h4] at h ⊢
   have ok:(jX v j.tot).2=true:=n7.2 fun k hk=>by have:=h k hk;omega
   have ZV:=ht j (by simp) h1
   rw [if_neg h2,if_neg (by rw [ZV,ok];simp)]
   obtain ⟨u,a1,a2,a3⟩:=oU p l (jX v j.tot).1 (JB ok) (fun x hx=>ht x (by simp [hx])) (fun k hk=>by rw [oR ok hk];have:=h k hk;omega)
   exact ⟨u,a1,a2,fun k hk=>by rw [a3 k hk,oR ok hk];omega⟩
  have h4:∀k,fP k p j=0:=fun k=>by simp [fP,h1]
  rw [if_pos (by simpa using h1)]
  simp only [h4,Nat.zero_add] at h ⊢
  exact oU p l v hv (fun x hx=>ht x (by simp [hx])) h
theorem PM {s:aT} {e:bg} (hu:e.used.w) (ht:∀j∈s.ap,j.runs=true→(cZ j.x).2=true) (h:∀k<4,vk k e.used=gQ k e.path s.ap):LF s e=true:=by
 obtain ⟨u,a1,a2,a3⟩:=oU e.path s.ap bM.zero wG ht (fun k hk=>by rw [nh,←h k hk];have:=(JA hu hk).2;omega)
 unfold LF
 rw [a1]
 simp only [decide_eq_true_eq]
 exact PK a2 hu fun k hk=>by rw [a3 k hk,nh,h k hk];omega
theorem AM {α:Type}:∀l:List α,(l.map fun _=>0).sum=0
 |[]=>rfl
 |_::l=>by simp only [List.map_cons,List.sum_cons,AM l]
theorem LG (k:Nat) (p:aK) (j:Jb):∀(K:List aK),K.Nodup→(∀q∈K,q≠[]∧parent q=p)→(K.map fun q=>fP k q j).sum≤fP k p j
 |[],_,_=>Nat.zero_le _
 |q::K,hn,hp=>by
  rw [List.nodup_cons] at hn
  have hq:=hp q (by simp)
  by_cases h:j.runs=true∧q∈above j.x.path
  ·have h0:(K.map fun q=>fP k q j).sum=0:=by
    have:∀r∈K,fP k r j=0:=fun r hr=>by
     unfold fP;rw [if_neg];rintro ⟨_,g⟩
     have ph:=hp r (by simp [hr])
     exact hn.1 (by rw [Jy h.2 g hq.1 ph.1 (by rw [hq.2,ph.2])];exact hr)
    rw [List.map_congr_left this,AM]
   have h1:p∈above j.x.path:=by rw [←hq.2];exact Jz h.2
   simp only [List.map_cons,List.sum_cons]
   rw [h0]
   simp [fP,h,h1]
  simp only [List.map_cons,List.sum_cons]
  rw [show fP k q j=0 by unfold fP;rw [if_neg h],Nat.zero_add]
  exact LG k p j K hn.2 (fun r hr=>hp r (by simp [hr]))
theorem sum_add {α:Type} (f g:α→Nat):∀l:List α,(l.map fun x=>f x+g x).sum=(l.map f).sum+(l.map g).sum
 |[]=>rfl
 |x::l=>by simp only [List.map_cons,List.sum_cons,sum_add f g l];omega
theorem G3 (k:Nat) (p:aK) (K:List aK) (hn:K.Nodup) (hp:∀q∈K,q≠[]∧parent q=p):∀(l:List Jb),(K.map fun q=>gQ k q l).sum≤gQ k p l
 |[]=>by
  have:(K.map fun q=>gQ k q []).sum=0:=AM K
  rw [this];exact Nat.zero_le _
 |j::l=>by
  simp only [gy]
  rw [sum_add]
  exact Nat.add_le_add (LG k p j K hn hp) (G3 k p K hn hp l)
theorem SI {t:List bg} (ha:t.Pairwise (fun x y=>x.path<y.path)) {l:List Jb} {k:Nat} (h:∀e∈t,vk k e.used=gQ k e.path l) (p:aK):AI k (kids p t)≤gQ k p l:=by
 have e:AI k (kids p t)=(((kids p t).map (·.path)).map fun q=>gQ k q l).sum:=by
  unfold AI;rw [List.map_map]
  congr 1
  exact List.map_congr_left fun x hx=>h x (List.mem_filter.1 hx).1
 rw [e]
 refine G3 k p _ ?_ ?_ l
 ·rw [List.nodup_iff_pairwise_ne,List.pairwise_map]
  exact (ha.filter _).imp fun h g=>by rw [g] at h;exact ku _ h
 intro q hq
 obtain ⟨x,hx,rfl⟩:=List.mem_map.1 hq
 have:=(List.mem_filter.1 hx).2
 simpa using this
abbrev yO (l:List cu):Prop:=l.Pairwise (fun a b=>bA a b=true)
abbrev AN (l:List cu):Prop:=l.Pairwise (fun a b=>a.id≠b.id)
theorem dF {a b:cu}:bA a b=true↔b.prio<a.prio∨(a.prio=b.prio∧a.id<b.id):=by simp [bA]
theorem oV {a b c:cu} (h:bA a b=true) (g:bA b c=true):bA a c=true:=by
 rw [dF] at*;omega
theorem AO {a b:cu} (h:a.id≠b.id) (g:¬bA a b=true):bA b a=true:=by
 rw [dF] at*;omega
theorem PN (l:List cu) (e:cu):vb l e≤l.length∧(∀x∈l.take (vb l e),¬bA e x=true)∧(∀x,l[vb l e]?=some x→bA e x=true):=by
 unfold vb
 cases h:l.findIdx? (fun x=>bA e x) with
 |none=>
  rw [List.findIdx?_eq_none_iff] at h
  refine ⟨Nat.le_refl _,?_,?_⟩
  ·intro x hx;rw [List.take_length] at hx;simp [h x hx]
  intro x hx;simp at hx
 |some k=>
  obtain ⟨hk,hp,hb⟩:=List.findIdx?_eq_some_iff_getElem.1 h
  refine ⟨Nat.le_of_lt hk,?_,?_⟩
  ·intro x hx
   obtain ⟨j,hj⟩:=List.getElem?_of_mem hx
   simp only [List.getElem?_take] at hj
   by_cases g:j<k
   ·rw [if_pos g] at hj
    have:=hb j g
    rw [List.getElem?_eq_getElem (by omega)] at hj
    cases hj;simpa using this
   rw [if_neg g] at hj;cases hj
  intro x hx
  simp only at hx
  rw [List.getElem?_eq_getElem hk] at hx;cases hx;exact hp
theorem G4 {l:List cu} (ha:yO l) {e:cu} (hn:∀x∈l,x.id≠e.id):yO (l.take (vb l e)++e::l.drop (vb l e)):=by
 obtain ⟨h1,h2,h3⟩:=PN l e
 have hsp:yO (l.take (vb l e)++l.drop (vb l e)):=by rw [List.take_append_drop];exact ha
 rw [yO,List.pairwise_append] at hsp ⊢
 obtain ⟨a1,a2,a3⟩:=hsp
 have hb:∀x∈l.take (vb l e),bA x e=true:=fun x hx=>AO (a:=e) (by have:=hn x (List.mem_of_mem_take hx);exact fun g=>this g.symm) (h2 x hx)
 have hc:∀x∈l.drop (vb l e),bA e x=true:=by
  cases hd:l.drop (vb l e) with
  |nil=>intro x hx;cases hx
  |cons y r=>
   have hy:l[vb l e]?=some y:=by
    have:(l.drop (vb l e))[0]?=some y:=by rw [hd];rfl
    rw [List.getElem?_drop,Nat.add_zero] at this;exact this
   have g:=h3 y hy
   intro x hx
   rcases List.mem_cons.1 hx with rfl|hx
   ·exact g
   rw [hd,List.pairwise_cons] at a2
   exact oV g (a2.1 x hx)
 refine ⟨a1,List.pairwise_cons.2 ⟨hc,a2⟩,?_⟩
 intro x hx y hy
 rcases List.mem_cons.1 hy with rfl|hy
 ·exact hb x hx
 exact a3 x hx y hy
theorem G5 {l:List cu} {k:Nat} {x y:cu}:y∈l.take k++x::l.drop k↔y∈l∨y=x:=by
 conv=>rhs;rw [←List.take_append_drop k l]
 simp only [List.mem_append,List.mem_cons]
 constructor
 ·rintro (h|h|h)
  ·exact .inl (.inl h)
  ·exact .inr h
  exact .inl (.inr h)
 rintro ((h|h)|h)
 ·exact .inl h
 ·exact .inr (.inr h)
 exact .inr (.inl h)
theorem G6 {l:List cu} (hi:AN l) {e:cu} (hn:∀x∈l,x.id≠e.id) (k:Nat):AN (l.take k++e::l.drop k):=by
 have hsp:AN (l.take k++l.drop k):=by rw [List.take_append_drop];exact hi
 rw [AN,List.pairwise_append] at hsp ⊢
 obtain ⟨a1,a2,a3⟩:=hsp
 refine ⟨a1,List.pairwise_cons.2 ⟨fun x hx=>fun g=>hn x (List.mem_of_mem_drop hx) g.symm,a2⟩,?_⟩
 intro x hx y hy
 rcases List.mem_cons.1 hy with rfl|hy
 ·exact hn x (List.mem_of_mem_take hx)
 exact a3 x hx y hy
theorem JE {l:List cu} {id:Int} (h:0≤nE l id):∃x∈l,x.id=id:=by
 rcases cJ (rfl:nE l id=idxOf _ l) with ⟨h1,_⟩|⟨i,x,h1,_,h3,h4,_⟩
 ·omega
 exact ⟨x,List.mem_of_getElem? h3,by simpa using h4⟩
theorem qJ (l:List cu) (e:cu):((jZ l e).1=l∧(jZ l e).2≠0∧(kY e=true∨(∃x∈l,x.id=e.id)∨32≤l.length))∨
 (jZ l e=(l.take (vb l e)++e::l.drop (vb l e),0)∧kY e=false∧(∀x∈l,x.id≠e.id)∧l.length<32):=by
 unfold jZ
 cases h1:kY e with
 |true=>exact .inl ⟨rfl,by simp,.inl rfl⟩
 |false=>
  simp only [Bool.false_eq_true,if_false]
  by_cases h2:0≤nE l e.id
  ·rw [if_pos h2];exact .inl ⟨rfl,by simp,.inr (.inl (JE h2))⟩
  rw [if_neg h2]
  by_cases h3:32≤l.length
  ·rw [if_pos h3];exact .inl ⟨rfl,by simp,.inr (.inr h3)⟩
  rw [if_neg h3]
  refine .inr ⟨rfl,by trivial,?_,by omega⟩
  intro x hx g
  refine h2 ?_
  rcases cJ (rfl:nE l e.id=idxOf _ l) with ⟨_,h4,_⟩|⟨i,x,h4,_⟩
  ·rw [List.findIdx?_eq_none_iff] at h4;have:=h4 x hx;simp [g] at this
  omega
theorem erase_filter {l:List cu} (hi:AN l) {k:Nat} {x:cu} (hx:l[k]?=some x):l.eraseIdx k=l.filter fun y=>!decide (y.id=x.id):=by
 induction l generalizing k with
 |nil=>simp at hx
 |cons y r ih=>
  rw [AN,List.pairwise_cons] at hi
  cases k with
  |zero=>
   simp at hx;subst hx
   have:r.filter (fun z=>!decide (z.id=y.id))=r:=by
    rw [List.filter_eq_self];intro z hz;have:=hi.1 z hz;simp;exact fun g=>this g.symm
   simp [this]
  |succ k=>
   simp only [List.getElem?_cons_succ] at hx
   have hne:=hi.1 x (List.mem_of_getElem? hx)
   rw [List.eraseIdx_cons_succ,ih hi.2 hx]
   simp [hne]
theorem lM {l:List cu} (hi:AN l) (id:Int):(AB l id).1=l.filter fun y=>!decide (y.id=id):=by
 unfold AB
 cases h:l.findIdx? (fun x=>decide (x.id=id)) with
 |none=>
  rw [List.findIdx?_eq_none_iff] at h
  exact (List.filter_eq_self.2 fun x hx=>by simp [h x hx]).symm
 |some k=>
  obtain ⟨hk,hp,_⟩:=List.findIdx?_eq_some_iff_getElem.1 h
  simp only [decide_eq_true_eq] at hp
  show l.eraseIdx k=_
  rw [erase_filter hi (List.getElem?_eq_getElem hk),hp]
theorem ML {l:List cu} (hi:AN l) {k:Nat} {x:cu} (hx:l[k]?=some x):nE l x.id=k:=by
 rcases cJ (rfl:nE l x.id=idxOf _ l) with ⟨_,h2,_⟩|⟨i,y,h1,_,h3,h4,_⟩
 ·rw [List.findIdx?_eq_none_iff] at h2;have:=h2 x (List.mem_of_getElem? hx);simp at this
 rw [h1]
 simp only [decide_eq_true_eq] at h4
 obtain ⟨g1,rfl⟩:=List.getElem?_eq_some_iff.1 hx
 obtain ⟨g2,rfl⟩:=List.getElem?_eq_some_iff.1 h3
 rcases Nat.lt_trichotomy i k with g|g|g
 ·exact absurd h4 (List.pairwise_iff_getElem.1 hi i k g2 g1 g)
 ·rw [g]
 exact absurd h4.symm (List.pairwise_iff_getElem.1 hi k i g1 g2 g)
theorem AP {all:List cu} (hi:AN all) (hw:∀q∈all,kY q=false):∀(r:List cu) (k:Nat) (q:Option cu),all.drop k=r→yO r→(∀p,q=some p→∀x∈r,bA p x=true)→ze all q k r=true
 |[],_,_,_,_,_=>rfl
 |e::r,k,q,hd,ha,hq=>by
  rw [yO,List.pairwise_cons] at ha
  have he:all[k]?=some e:=by
   have:(all.drop k)[0]?=some e:=by rw [hd];rfl
   rw [List.getElem?_drop,Nat.add_zero] at this;exact this
  have h1:=hw e (List.mem_of_getElem? he)
  have h2:=ML hi he
  have h3:XS q e=true:=by
   cases q with
   |none=>rfl
   |some p=>exact hq p rfl e (by simp)
  have h4:all.drop (k+1)=r:=by rw [←List.drop_drop,hd];rfl
  unfold ze
  rw [h1,h2,h3,AP hi hw r (k+1) (some e) h4 ha.2 (fun p hp x hx=>by cases hp;exact ha.1 x hx)]
  simp
theorem MM {l:List cu} (hi:AN l) (ha:yO l) (hw:∀q∈l,kY q=false) (hl:l.length≤32):El l=true:=by
 unfold El
 rw [AP hi hw l 0 none (by simp) ha (fun p hp=>by cases hp)]
 simpa using hl
theorem tL (m:List iv) (j c i:Int):mE (gA m j c) i=if i=j then c else mE m i:=by
 induction m with
 |nil=>
  simp only [gA,mE,List.find?_cons,List.find?_nil]
  by_cases h:i=j
  ·simp [h]
  have:¬j=i:=fun g=>h g.symm
  simp [h,this]
 |cons x m ih=>
  unfold mE at ih ⊢
  simp only [gA]
  by_cases h:j=x.bI
  ·simp only [if_pos h,List.find?_cons]
   by_cases g:i=j
   ·subst g;simp
   have h2:¬j=i:=fun e=>g e.symm
   have h3:¬x.bI=i:=fun e=>g (by rw [h,e])
   simp [g,h2,h3]
  simp only [if_neg h,List.find?_cons]
  by_cases g:x.bI=i
  ·have:¬i=j:=fun e=>h (by rw [←e,g])
   simp [g,this]
  simp only [g,decide_false]
  exact ih
theorem vo {m:List iv} (h:(m.map iv.bI).Nodup) (j c:Int):((gA m j c).map iv.bI).Nodup:=by
 rw [kQ];split
 ·exact h
 rename_i g
 rw [List.nodup_append]
 exact ⟨h,by simp,fun a ha b hb e=>g (by simp at hb;rw [←hb,←e];exact ha)⟩
theorem JF {m:List iv} (h:(m.map iv.bI).Nodup) {x:iv} (hx:x∈m):mE m x.bI=x.cnt:=by
 induction m with
 |nil=>cases hx
 |cons y m ih=>
  rw [List.map_cons,List.nodup_cons] at h
  unfold mE at ih ⊢
  rw [List.find?_cons]
  rcases List.mem_cons.1 hx with rfl|hx
  ·simp
  have:¬y.bI=x.bI:=fun g=>h.1 (by rw [g];exact List.mem_map_of_mem hx)
  simp only [this,decide_false]
  exact ih h.2 hx
abbrev sq (id:Int) (ps:List Place):Nat:=(ps.filter fun x=>decide (x.bI=id)).length
theorem G7 (id:Int) (x:Place) (ps:List Place):sq id (x::ps)=(if x.bI=id then 1 else 0)+sq id ps:=by
 unfold sq
 rw [List.filter_cons]
 by_cases h:x.bI=id
 ·simp [h];omega
 simp [h]
theorem vp (id:Int):∀(l:List Jb) (m:List iv),(l.Pairwise fun a b=>a.id<b.id)→(m.map iv.bI).Nodup→
 ((l.foldl (fun m j=>if j.runs then gA m j.id j.x.count else m) m).map iv.bI).Nodup∧
 mE (l.foldl (fun m j=>if j.runs then gA m j.id j.x.count else m) m) id=(match l.find? (fun j=>decide (j.id=id)&&j.runs) with|some j=>j.x.count|none=>mE m id)
 |[],m,_,h=>⟨h,rfl⟩
 |j::l,m,ha,h=>by
  rw [List.pairwise_cons] at ha
  rw [List.foldl_cons]
  by_cases hr:j.runs=true
  ·rw [if_pos hr]
   obtain ⟨a1,a2⟩:=vp id l (gA m j.id j.x.count) ha.2 (vo h _ _)
   refine ⟨a1,?_⟩
   rw [a2,List.find?_cons]
   by_cases g:j.id=id
   ·have hno:l.find? (fun j=>decide (j.id=id)&&j.runs)=none:=by
     rw [List.find?_eq_none];intro x hx;have:=ha.1 x hx
     simp;intro e;omega
    rw [hno,tL]
    simp [g,hr]
   simp only [g,decide_false,Bool.false_and]
   cases l.find? (fun j=>decide (j.id=id)&&j.runs) with
   |some j=>rfl
   |none=>simp only;rw [tL,if_neg (fun e=>g e.symm)]
  rw [if_neg hr]
  obtain ⟨a1,a2⟩:=vp id l m ha.2 h
  refine ⟨a1,?_⟩
  rw [a2,List.find?_cons]
  simp [hr]
theorem vq {l:List Jb}:∀(ps:List Place) (m:List iv),(m.map iv.bI).Nodup→(∀x∈ps,x.v=(bB l x.bI).1.x.gx)→(∀id,mE m id=(sq id ps:Int))→
 ∃m',zh l ps m=some m'∧m'.all (fun x=>decide (x.cnt=0))=true
 |[],m,hn,_,hc=>⟨m,rfl,by
  rw [List.all_eq_true];intro x hx
  have:=hc x.bI;rw [JF hn hx] at this;simpa [sq] using this⟩
 |x::ps,m,hn,hv,hc=>by
  have h1:=hc x.bI
  rw [G7,if_pos rfl] at h1
  unfold zh
  rw [if_neg (by omega),if_neg (by have:=hv x (by simp);simp [this])]
  refine vq ps _ (vo hn _ _) (fun y hy=>hv y (by simp [hy])) fun id=>?_
  rw [tL]
  have h2:=hc id
  rw [G7] at h2
  by_cases g:id=x.bI
  ·subst g;rw [if_pos rfl];omega
  rw [if_neg g,h2,if_neg (fun e=>g e.symm)];omega
theorem yc (l:List Node) (bI:Int) (v:bM):∀(names:List aK) (ps:List Place),(fB l bI v names ps).1=none→(fB l bI v names ps).2=ps++names.map (fun n=>⟨bI,n,v⟩)∧∀n∈names,(eH n l).2=true∧(eH n l).1.up=true
 |[],ps,_=>by simp [fB]
 |n::r,ps,g=>by
  unfold fB at g ⊢
  split
  ·rename_i h1;rw [if_pos h1] at g;cases g
  rename_i h1
  rw [if_neg h1] at g
  obtain ⟨a,b⟩:=yc l bI v r _ g
  refine ⟨by rw [a];simp,?_⟩
  intro m hm
  rcases List.mem_cons.1 hm with rfl|hm
  ·have h0:m7 m v l ps=0:=by omega
   exact ⟨(tI h0).1,(tI h0).2.1⟩
  exact b m hm
theorem ye (l:List Node) (bI:Int) (v:bM):∀(names:List aK) (ps:List Place) (e:Int),(fB l bI v names ps).1=some e→e≠0
 |[],ps,e,g=>by cases g
 |n::r,ps,e,g=>by
  unfold fB at g
  split at g
  ·cases g;assumption
  exact ye l bI v r _ e g
theorem AQ (p:cH) (bI:Int) (names:List aK) (v:bM):((tH p bI names v).1=p∧(tH p bI names v).2≠0)∨
 ((tH p bI names v)=(⟨p.nodes,p.places++names.map (fun n=>⟨bI,n,v⟩)⟩,0)∧∀n∈names,(eH n p.nodes).2=true∧(eH n p.nodes).1.up=true):=by
 unfold tH
 split
 ·rename_i e he;exact .inl ⟨rfl,ye _ _ _ _ _ _ he⟩
 rename_i he
 obtain ⟨a,b⟩:=yc _ _ _ _ _ he
 exact .inr ⟨by rw [a],b⟩
theorem G8 {p:cH} (h:p.ok) (hw:p.w) (bI:Int):(qE p bI).ok∧(qE p bI).w:=⟨SC h hw _,Vi hw _⟩
theorem G9 (p:cH) (ha:Jr p.nodes) (name:aK) (up:Bool):((fG p name up)=(p,7)∧(eH name p.nodes).2=false)∨
 (∃i x,p.nodes[i]?=some x∧x.name=name∧eH name p.nodes=(x,true)∧((x.up=up∧fG p name up=(p,15))∨(x.up=!up∧fG p name up=(⟨p.nodes.set i {x with up:=up},p.places⟩,0)))):=by
 rcases cJ (p:=fun x:Node=>decide (x.name=name)) (l:=p.nodes) rfl with ⟨_,h1,h2⟩|⟨i,x,_,hi,hx,hp,h1,h2⟩
 ·refine .inl ⟨by unfold fG;rw [h1,h2],by unfold eH;rw [h2]⟩
 simp only [decide_eq_true_eq] at hp
 refine .inr ⟨i,x,hx,hp,by unfold eH;rw [h2],?_⟩
 by_cases hu:x.up=up
 ·exact .inl ⟨hu,by unfold fG;rw [h1,h2];simp [hu]⟩
 refine .inr ⟨by cases h:x.up<;>cases up<;>simp_all,by unfold fG;rw [h1,h2];simp [hu]⟩
def eT (p:cH):List bV:=p.nodes.filterMap (nW p.nodes p.places)
theorem c7 {x:Ask}:eS x=0↔nF x.path x.path=true∧(1≤x.count∧x.count≤8)∧(0≤x.prio∧x.prio≤9)∧(1≤x.fH∧x.fH≤100)∧AA x.cE=true∧(cZ x).2=true:=by
 unfold eS
 have e:(!Ry x.count 1 8||!Ry x.prio 0 9||!Ry x.fH 1 100)=!decide ((1≤x.count∧x.count≤8)∧(0≤x.prio∧x.prio≤9)∧(1≤x.fH∧x.fH≤100)):=by
  unfold Ry
  by_cases h1:1≤x.count<;>by_cases h2:x.count≤8<;>by_cases h3:0≤x.prio<;>by_cases h4:x.prio≤9<;>by_cases h5:1≤x.fH<;>by_cases h6:x.fH≤100<;>simp [h1,h2,h3,h4,h5,h6]
 rw [e]
 by_cases h1:nF x.path x.path=true
 ·by_cases h2:(1≤x.count∧x.count≤8)∧(0≤x.prio∧x.prio≤9)∧(1≤x.fH∧x.fH≤100)
  ·by_cases h3:AA x.cE=true
   ·by_cases h4:(cZ x).2=true
    ·simp [h1,h2,h3,h4]
    simp [h1,h2,h3,h4]
   simp [h1,h2,h3]
  simp only [h2,decide_false]
  simp only [h1,Bool.not_true,Bool.false_eq_true,if_false,Bool.not_false,if_true]
  constructor
  ·intro h;cases h
  rintro ⟨_,a,b,c,_⟩;exact absurd ⟨a,b,c⟩ h2
 simp [h1]
theorem AR {t:List bg} {q:aK}:(qD t q).2=true↔∃e∈t,e.path=q:=by
 unfold qD
 cases h:t.find? (fun e=>decide (e.path=q)) with
 |none=>
  rw [List.find?_eq_none] at h
  constructor
  ·intro g;cases g
  rintro ⟨e,he,g⟩;have:=h e he;simp [g] at this
 |some e=>
  have h1:=List.find?_some h
  exact ⟨fun _=>⟨e,List.mem_of_find?_eq_some h,by simpa using h1⟩,fun _=>rfl⟩
theorem AS {t:List bg} {p:aK}:jJ t p=true↔∀q∈above p,∃e∈t,e.path=q:=by
 unfold jJ
 rw [Bool.not_eq_true',List.any_eq_false]
 simp only [List.mem_append,List.mem_singleton]
 constructor
 ·intro h q hq
  have:=h q (by rcases List.mem_cons.1 hq with g|g;exact .inr g;exact .inl g)
  exact AR.1 (by simpa using this)
 intro h q hq
 have:=AR.2 (h q (by rcases hq with g|g;exact List.mem_cons_of_mem _ g;rw [g];exact Da p))
 simp [this]
theorem jL {t u:List bg} (h:cr t u) {p:aK} (hs:jJ t p=true):jJ u p=true:=by
 rw [AS] at hs ⊢
 intro q hq
 obtain ⟨e,he,rfl⟩:=hs q hq
 exact h.mem he
abbrev su (l:List Jb):Prop:=l.Pairwise (fun a b=>a.id<b.id)
theorem vt {l:List Jb} (ha:su l) {i k:Nat} {x y:Jb} (hx:l[i]?=some x) (hy:l[k]?=some y) (e:x.id=y.id):i=k:=by
 obtain ⟨hi,rfl⟩:=List.getElem?_eq_some_iff.1 hx
 obtain ⟨hk,rfl⟩:=List.getElem?_eq_some_iff.1 hy
 rcases Nat.lt_trichotomy i k with g|g|g
 ·have:=List.pairwise_iff_getElem.1 ha i k hi hk g;omega
 ·exact g
 have:=List.pairwise_iff_getElem.1 ha k i hk hi g;omega
theorem bN {l:List Jb} (ha:su l) {x y:Jb} (hx:x∈l) (hy:y∈l) (e:x.id=y.id):x=y:=by
 obtain ⟨i,hi⟩:=List.getElem?_of_mem hx
 obtain ⟨j,hj⟩:=List.getElem?_of_mem hy
 have:=vt ha hi hj e
 subst this;rw [hi] at hj;exact Option.some.inj hj
theorem AT {l:List Jb} (ha:su l) {k:Nat} {j x:Jb} (hj:l[k]?=some j) {y:Jb}:y∈l.set k x↔y=x∨(y∈l∧y.id≠j.id):=by
 have hk:=(List.getElem?_eq_some_iff.1 hj).1
 constructor
 ·intro h
  obtain ⟨i,hi⟩:=List.getElem?_of_mem h
  by_cases e:k=i
  ·subst e;rw [List.getElem?_set_self hk] at hi;cases hi;exact .inl rfl
  rw [List.getElem?_set_ne e] at hi
  exact .inr ⟨List.mem_of_getElem? hi,fun g=>e (vt ha hj hi g.symm)⟩
 rintro (rfl|⟨h,g⟩)
 ·exact List.mem_of_getElem? (List.getElem?_set_self hk)
 obtain ⟨i,hi⟩:=List.getElem?_of_mem h
 have e:k≠i:=by rintro rfl;rw [hi] at hj;cases hj;exact g rfl
 exact List.mem_of_getElem? (i:=i) (by rw [List.getElem?_set_ne e];exact hi)
theorem PO {l:List Jb} (ha:su l) {k:Nat} {j:Jb} (hj:l[k]?=some j):l.eraseIdx k=l.filter fun y=>!decide (y.id=j.id):=by
 induction l generalizing k with
 |nil=>simp at hj
 |cons y r ih=>
  rw [su,List.pairwise_cons] at ha
  cases k with
  |zero=>
   simp at hj;subst hj
   have:r.filter (fun z=>!decide (z.id=y.id))=r:=by
    rw [List.filter_eq_self];intro z hz;have:=ha.1 z hz;simp;omega
   simp [this]
  |succ k=>
   simp only [List.getElem?_cons_succ] at hj
   have hne:¬y.id=j.id:=by have:=ha.1 j (List.mem_of_getElem? hj);omega
   rw [List.eraseIdx_cons_succ,ih ha.2 hj]
   simp [hne]
theorem JG {l:List Jb} (ha:su l) {k:Nat} {j:Jb} (hj:l[k]?=some j) {y:Jb}:y∈l.eraseIdx k↔y∈l∧y.id≠j.id:=by
 rw [PO ha hj,List.mem_filter];simp
theorem vu {l:List Jb} (ha:su l) {k:Nat} {j x:Jb} (hj:l[k]?=some j) (e:x.id=j.id):su (l.set k x):=by
 have h1:(l.set k x).map (·.id)=l.map (·.id):=by
  rw [List.map_set,e]
  have hk:=(List.getElem?_eq_some_iff.1 hj).1
  refine List.ext_getElem? fun i=>?_
  by_cases g:k=i
  ·subst g;rw [List.getElem?_set_self (by simpa using hk),List.getElem?_map,hj];rfl
  rw [List.getElem?_set_ne g]
 have h2:(l.map (·.id)).Pairwise (·<·):=List.pairwise_map.2 ha
 rw [←h1] at h2
 exact List.pairwise_map.1 h2
theorem vv (k:Nat) (p:aK):∀{l:List Jb} {i:Nat} {j:Jb} (x:Jb),l[i]?=some j→gQ k p (l.set i x)+fP k p j=gQ k p l+fP k p x
 |[],_,_,_,h=>by simp at h
 |y::r,0,j,x,h=>by simp at h;subst h;simp only [List.set_cons_zero,gy];omega
 |y::r,i+1,j,x,h=>by
  simp only [List.getElem?_cons_succ] at h
  have:=vv k p x h
  simp only [List.set_cons_succ,gy];omega
theorem tM (k:Nat) (p:aK):∀{l:List Jb} {i:Nat} {j:Jb},l[i]?=some j→gQ k p (l.eraseIdx i)+fP k p j=gQ k p l
 |[],_,_,h=>by simp at h
 |y::r,0,j,h=>by simp at h;subst h;simp only [List.eraseIdx_cons_zero,gy];omega
 |y::r,i+1,j,h=>by
  simp only [List.getElem?_cons_succ] at h
  have:=tM k p h
  simp only [List.eraseIdx_cons_succ,gy];omega
theorem MN (k:Nat) (p:aK) (l:List Jb) (x:Jb):gQ k p (l++[x])=gQ k p l+fP k p x:=by simp [gQ]
theorem SJ (k:Nat) (p:aK) {l:List Jb} {j:Jb} (h:j∈l):fP k p j≤gQ k p l:=by
 induction l with
 |nil=>cases h
 |cons y r ih=>
  rw [gy]
  rcases List.mem_cons.1 h with rfl|h
  ·omega
  have:=ih h;omega
theorem nH {l:List Jb} {id:Int} {k:Nat} (h:l.findIdx? (fun j=>decide (j.id=id))=some k):∃j,l[k]?=some j∧j.id=id∧l.getD k Jb.zero=j:=by
 obtain ⟨hk,hp,_⟩:=List.findIdx?_eq_some_iff_getElem.1 h
 refine ⟨l[k],List.getElem?_eq_getElem hk,by simpa using hp,?_⟩
 rw [List.getD_eq_getElem?_getD,List.getElem?_eq_getElem hk];rfl
structure aT.ok (s:aT):Prop where
 aX:s.aX.ok
 gR:s.aX.w
 tree:Tree.ok s.tree
 used:∀e∈s.tree,∀k<4,vk k e.used=gQ k e.path s.ap
 most:s.ap.length≤32
 next:1≤s.next∧s.next<18446744073709551616
 ids:su s.ap
 vz:∀j∈s.ap,1≤j.id∧j.id<s.next
 py:∀j∈s.ap,eS j.x=0∧j.x.gx.w∧jJ s.tree j.x.path=true
 left:∀j∈s.ap,(j.runs=true→1≤j.left∧j.left≤j.x.fH)∧(j.runs=false→j.left=0)
 iw:yO s.queue
 kR:AN s.queue
 gm:∀q,q∈s.queue↔∃j∈s.ap,j.runs=false∧q=⟨j.id,j.x.prio⟩
 places:∀x∈s.aX.places,∃j∈s.ap,j.runs=true∧j.id=x.bI∧x.v=j.x.gx
 count:∀j∈s.ap,j.runs=true→(sq j.id s.aX.places:Int)=j.x.count
 notes:s.ev.l.length≤32∧s.au.l.length≤32
theorem JH {l:List Jb} (ha:su l) (f:Jb→cu) (hf:∀j,(f j).id=j.id):(l.map f).Nodup:=by
 rw [List.nodup_iff_pairwise_ne,List.pairwise_map]
 exact ha.imp fun {a b} h e=>by have:=congrArg cu.id e;rw [hf,hf] at this;omega
theorem aT.ok.Vm {s:aT} (h:s.ok):s.queue.length=wJ s.ap:=by
 have h1:(((s.ap.filter fun j=>!j.runs).map fun j=>(⟨j.id,j.x.prio⟩:cu))).Nodup:=JH (h.ids.filter _) _ (fun _=>rfl)
 have h2:s.queue.Nodup:=by rw [List.nodup_iff_pairwise_ne];exact h.kR.imp fun {a b} g e=>g (by rw [e])
 have:=((List.perm_ext_iff_of_nodup h2 h1).2 fun q=>by
  rw [h.gm q,List.mem_map]
  constructor
  ·rintro ⟨j,a,b,c⟩;exact ⟨j,List.mem_filter.2 ⟨a,by simp [b]⟩,c.symm⟩
  rintro ⟨j,a,c⟩;obtain ⟨a1,a2⟩:=List.mem_filter.1 a;exact ⟨j,a1,by simpa using a2,c.symm⟩).length_eq
 rw [this,lgM];rfl
theorem He {s:aT} (h:s.ok):∀(r:List Jb) (q:Option Int),(∀j∈r,j∈s.ap)→su r→(∀p,q=some p→∀j∈r,p<j.id)→G2 s q r=true
 |[],_,_,_,_=>rfl
 |j::r,q,hm,ha,hq=>by
  rw [su,List.pairwise_cons] at ha
  have hj:=hm j (by simp)
  obtain ⟨a1,a2⟩:=h.vz j hj
  obtain ⟨b1,_,b3⟩:=h.py j hj
  have key:(if j.runs then decide (1≤j.left)&&decide (j.left≤j.x.fH) else decide (j.left=0)&&s.queue.contains ⟨j.id,j.x.prio⟩)=true:=by
   obtain ⟨c1,c2⟩:=h.left j hj
   cases hr:j.runs with
   |true=>have:=c1 hr;simp;exact this
   |false=>
    have hc:s.queue.contains ⟨j.id,j.x.prio⟩=true:=by rw [List.contains_iff_mem];exact (h.gm _).2 ⟨j,hj,hr,rfl⟩
    simp only [Bool.false_eq_true,if_false,hc,c2 hr];simp
  have h1:XU s q j=true:=by
   unfold XU
   cases q with
   |none=>rw [if_neg (by omega),if_neg (by omega),if_neg (by simp),if_neg (by simp [b1]),b3,if_neg (by simp),key]
   |some p=>rw [if_neg (by omega),if_neg (by omega),if_neg (by have:=hq p rfl j (by simp);simp;omega),if_neg (by simp [b1]),b3,if_neg (by simp),key]
  unfold G2
  rw [h1,He h r (some j.id) (fun x hx=>hm x (by simp [hx])) ha.2 (fun p hp x hx=>by cases hp;exact ha.1 x hx)];rfl
theorem aT.ok.right {s:aT} (h:s.ok):zi s=true:=by
 have h1:Ej s.aX=true:=Js.2 h.aX
 have h2:Er s.tree=true:=JD h.tree fun e he k hk=>by
  rw [h.used e he k hk];exact SI h.tree.xZ (fun x hx=>h.used x hx k hk) e.path
 have hq:=h.Vm
 have hw:wJ s.ap≤s.ap.length:=List.length_filter_le _ _
 have hm:=h.most
 have h3:El s.queue=true:=by
  refine MM h.kR h.iw ?_ (by omega)
  intro q hq
  obtain ⟨j,hj,_,rfl⟩:=(h.gm q).1 hq
  obtain ⟨_,_,hp,_⟩:=c7.1 (h.py j hj).1
  simp [kY];omega
 have h4:G2 s none s.ap=true:=He h s.ap none (fun j hj=>hj) h.ids (fun p hp=>by cases hp)
 have h5:Ez s=true:=by
  have hn:=vp 0 s.ap [] h.ids (by simp)
  obtain ⟨m,a1,a2⟩:=vq (l:=s.ap) s.aX.places (PJ s.ap) hn.1 (fun x hx=>by
   obtain ⟨j,hj,_,g2,g3⟩:=h.places x hx
   have:(bB s.ap x.bI).1=j:=by
    unfold bB
    cases hf:s.ap.find? (fun j=>decide (j.id=x.bI)) with
    |none=>rw [List.find?_eq_none] at hf;have:=hf j hj;simp [g2] at this
    |some y=>
     have e:=List.find?_some hf
     simp only [decide_eq_true_eq] at e
     exact bN h.ids (List.mem_of_find?_eq_some hf) hj (by rw [e,g2])
   rw [this,g3]) (fun id=>by
   rw [PJ,(vp id s.ap [] h.ids (by simp)).2]
   cases hf:s.ap.find? (fun j=>decide (j.id=id)&&j.runs) with
   |some j=>
    have e:=List.find?_some hf
    simp only [Bool.and_eq_true,decide_eq_true_eq] at e
    have hj:=List.mem_of_find?_eq_some hf
    have:=h.count j hj e.2
    rw [e.1] at this
    exact this.symm
   |none=>
    rw [List.find?_eq_none] at hf
    have:sq id s.aX.places=0:=by
     unfold sq
     rw [List.length_eq_zero_iff,List.filter_eq_nil_iff]
     intro x hx g
     obtain ⟨j,hj,g1,g2,_⟩:=h.places x hx
     have:=hf j hj
     simp only [decide_eq_true_eq] at g
     simp [g2,g,g1] at this
    rw [this];rfl)
  unfold Ez;rw [a1];exact a2
 have h6:(s.tree.any fun e=>!LF s e)=false:=by
  rw [List.any_eq_false];intro e he
  rw [PM (h.tree.w e he).2 (fun j hj _=>(c7.1 (h.py j hj).1).2.2.2.2.2) (h.used e he)];simp
 have h7:=h.notes
 have h8:=h.next
 unfold zi
 rw [h1,h2,h3,h4,h5,h6]
 simp only [Bool.not_true,Bool.false_eq_true,if_false]
 rw [if_neg (by omega),if_neg (by omega),if_neg (by omega)]
 simp [hq]
theorem PR {x:B9} (h:x.l.length≤32) (n:ek):(tell x n).l.length≤32:=by
 unfold tell
 by_cases g:32<(x.l++[n]).length
 ·rw [if_pos g];simp;omega
 rw [if_neg g];simp only at*;omega
theorem aT.ok.event {s:aT} (h:s.ok) (id kind:Int):(iI s id kind).ok:=
 {h with notes:=⟨PR h.notes.1 _,h.notes.2⟩}
theorem MO {x:Ask} (h:eS x=0) (id:Int):kY ⟨id,x.prio⟩=false:=by
 obtain ⟨_,_,hp,_⟩:=c7.1 h
 simp [kY];omega
theorem JI {x:Ask} (h:eS x=0):named x.path=true:=by
 unfold named;rw [(c7.1 h).1];simp
theorem aT.ok.dc {s:aT} (h:s.ok) {x:Ask} (hx:x.gx.w):(dc s x).1.ok:=by
 unfold Dem.dc
 by_cases h1:eS x≠0
 ·rw [if_pos h1];exact h
 rw [if_neg h1];simp only [Decidable.not_not] at h1
 by_cases h2:(!jJ s.tree x.path)=true
 ·rw [if_pos h2];exact h
 rw [if_neg h2]
 by_cases h3:32≤s.ap.length∨s.next=18446744073709551615
 ·rw [if_pos h3];exact h
 rw [if_neg h3]
 have hnx:=h.next
 rcases qJ s.queue ⟨s.next,x.prio⟩ with ⟨_,e2,_⟩|⟨e,_,hno,_⟩
 ·rw [if_pos e2];exact h
 rw [e]
 rw [if_neg (by simp)]
 have hu:u64 (s.next+1)=s.next+1:=by unfold u64;omega
 have hn:fP=fP:=rfl
 refine aT.ok.event (s:=⟨s.round,u64 (s.next+1),s.aX,s.tree,s.ap++[⟨s.next,x,false,0⟩],_,s.ev,s.au⟩) ?_ _ _
 rw [hu]
 have hm:∀j,j∈s.ap++[(⟨s.next,x,false,0⟩:Jb)]↔j∈s.ap∨j=⟨s.next,x,false,0⟩:=fun j=>by simp
 exact {
  aX:=h.aX,gR:=h.gR,tree:=h.tree,notes:=h.notes
  used:=fun e he k hk=>by rw [h.used e he k hk];simp only [MN];simp [fP]
  most:=by simp only [List.length_append,List.length_singleton];omega
  next:=by simp only;omega
  ids:=by
   rw [su,List.pairwise_append]
   refine ⟨h.ids,by simp,fun a ha b hb=>?_⟩
   simp at hb;subst hb;exact (h.vz a ha).2
  vz:=fun j hj=>by
   rcases (hm j).1 hj with g|rfl
   ·have:=h.vz j g;simp only;omega
   simp only;omega
  py:=fun j hj=>by
   rcases (hm j).1 hj with g|rfl
   ·exact h.py j g
   exact ⟨h1,hx,by simpa using h2⟩
  left:=fun j hj=>by
   rcases (hm j).1 hj with g|rfl
   ·exact h.left j g
   exact ⟨fun g=>(by cases g),fun _=>rfl⟩
  iw:=G4 h.iw hno
  kR:=G6 h.kR hno _
  gm:=fun q=>by
   show q∈List.take _ s.queue++_::List.drop _ s.queue↔_
   rw [G5,h.gm q]
   constructor
   ·rintro (⟨j,a,b,c⟩|rfl)
    ·exact ⟨j,(hm j).2 (.inl a),b,c⟩
    exact ⟨_,(hm _).2 (.inr rfl),rfl,rfl⟩
   rintro ⟨j,a,b,c⟩
   rcases (hm j).1 a with g|rfl
   ·exact .inl ⟨j,g,b,c⟩
   exact .inr c
  places:=fun y hy=>by
   obtain ⟨j,a,b⟩:=h.places y hy
   exact ⟨j,(hm j).2 (.inl a),b⟩
  count:=fun j hj hr=>by
   rcases (hm j).1 hj with g|rfl
   ·exact h.count j g hr
   cases hr}
theorem Dc {s:aT} (h:s.ok) {p:aK} {v:bM} (hc:(c6 s.tree p v).2=0):
 Tree.ok (c6 s.tree p v).1∧cr s.tree (c6 s.tree p v).1∧∀e∈(c6 s.tree p v).1,∀k<4,vk k e.used=gQ k e.path s.ap+if e.path∈above p then vk k v else 0:=by
 unfold c6 at*
 rcases qH (fK v) h.tree.xZ p with ⟨_,e2,_⟩|⟨e,_,_,hf⟩
 ·exact absurd hc e2
 rw [e]
 have hk:cr s.tree (vg (fK v) (above p) s.tree):=AL fun e he hp=>by rw [ya (hf e he hp)];exact ⟨rfl,rfl⟩
 have hv:∀x∈vg (fK v) (above p) s.tree,x.used.w∧(∀k<4,vk k x.used≤vk k x.eZ)∧∀k<4,vk k x.used=gQ k x.path s.ap+if x.path∈above p then vk k v else 0:=by
  intro x hx
  obtain ⟨e,he,rfl⟩:=List.mem_map.1 hx
  by_cases hp:e.path∈above p
  ·rw [if_pos hp]
   have h0:=hf e he hp
   obtain ⟨c1,c2⟩:=oT.1 h0
   rw [ya h0]
   refine ⟨JB c1,mF.1 c2,fun k hk=>?_⟩
   simp only
   rw [oR c1 hk,h.used e he k hk,if_pos hp]
  rw [if_neg hp]
  exact ⟨(h.tree.w e he).2,h.tree.fits e he,fun k hk=>by rw [h.used e he k hk,if_neg hp];rfl⟩
 exact ⟨hk.ok h.tree (fun e he=>(hv e he).2.1) (fun e he=>(hv e he).1),hk,fun e he=>(hv e he).2.2⟩
theorem n8 {s:aT} (h:s.ok) {i:Nat} {j:Jb} (hj:s.ap[i]?=some j) (hr:j.runs=true):
 rP s.tree j.x.path j.tot=(vg (eI j.tot) (above j.x.path) s.tree,0)∧
 Tree.ok (vg (eI j.tot) (above j.x.path) s.tree)∧cr s.tree (vg (eI j.tot) (above j.x.path) s.tree)∧∀e∈vg (eI j.tot) (above j.x.path) s.tree,∀k<4,vk k e.used+fP k e.path j=gQ k e.path s.ap:=by
 have hm:=List.mem_of_getElem? hj
 obtain ⟨g1,g2,g3⟩:=h.py j hm
 have hs:∀e∈s.tree,e.path∈above j.x.path→(ej e.used j.tot).2=true:=fun e he hp=>m8.2 fun k hk=>by
  have:=SJ k e.path hm
  rw [←h.used e he k hk] at this
  rw [fP,if_pos ⟨hr,hp⟩] at this
  exact this
 have hz:∀e∈s.tree,e.path∈above j.x.path→(eI j.tot e).2=0:=fun e he hp=>vn.2 (hs e he hp)
 have hk:cr s.tree (vg (eI j.tot) (above j.x.path) s.tree):=AL fun e he hp=>by rw [yb (hz e he hp)];exact ⟨rfl,rfl⟩
 have hv:∀x∈vg (eI j.tot) (above j.x.path) s.tree,x.used.w∧(∀k<4,vk k x.used≤vk k x.eZ)∧∀k<4,vk k x.used+fP k x.path j=gQ k x.path s.ap:=by
  intro x hx
  obtain ⟨e,he,rfl⟩:=List.mem_map.1 hx
  by_cases hp:e.path∈above j.x.path
  ·rw [if_pos hp]
   have h0:=hs e he hp
   rw [yb (hz e he hp)]
   have YU:=(h.tree.w e he).2
   refine ⟨Jv h0,fun k hk=>?_,fun k hk=>?_⟩
   ·simp only;rw [EA YU h0 hk];have:=h.tree.fits e he k hk;omega
   have h1:=m8.1 h0 k hk
   simp only;rw [EA YU h0 hk,fP,if_pos ⟨hr,hp⟩,←h.used e he k hk]
   unfold vk;omega
  rw [if_neg hp]
  exact ⟨(h.tree.w e he).2,h.tree.fits e he,fun k hk=>by rw [h.used e he k hk,fP,if_neg (fun g=>hp g.2)];rfl⟩
 refine ⟨?_,hk.ok h.tree (fun e he=>(hv e he).2.1) (fun e he=>(hv e he).1),hk,fun e he=>(hv e he).2.2⟩
 unfold rP
 rcases qH (eI j.tot) h.tree.xZ j.x.path with ⟨_,_,e|⟨q,hq,e⟩|⟨y,hy,hp,e⟩⟩|⟨e,_⟩
 ·rw [JI g1] at e;cases e
 ·obtain ⟨z,hz,g⟩:=AS.1 g3 q hq;exact absurd g (e z hz)
 ·exact absurd (hz y hy hp) e
 exact e
theorem aT.ok.LH {s:aT} (h:s.ok) {j:Jb} (hj:j∈s.ap) (hr:j.runs=false):∀x∈s.aX.places,x.bI≠j.id:=by
 intro x hx g
 obtain ⟨y,a,b,c,_⟩:=h.places x hx
 have:=bN h.ids a hj (by rw [c,g])
 subst this;rw [hr] at b;cases b
theorem aT.ok.EB {s:aT} (h:s.ok) {j:Jb} (hj:j∈s.ap) (hr:j.runs=true):∀q∈s.queue,q.id≠j.id:=by
 intro q hq g
 obtain ⟨y,a,b,rfl⟩:=(h.gm q).1 hq
 have:=bN h.ids a hj g
 subst this;rw [hr] at b;cases b
theorem JJ (id:Int) (a b:List Place):sq id (a++b)=sq id a+sq id b:=by simp [sq]
theorem PS (id bI:Int) (v:bM) (names:List aK):sq id (names.map fun n=>(⟨bI,n,v⟩:Place))=if bI=id then names.length else 0:=by
 unfold sq
 by_cases h:bI=id
 ·rw [if_pos h,List.filter_eq_self.2 (by intro x hx;obtain ⟨n,_,rfl⟩:=List.mem_map.1 hx;simpa using h)];simp
 rw [if_neg h,List.filter_eq_nil_iff.2 (by intro x hx;obtain ⟨n,_,rfl⟩:=List.mem_map.1 hx;simpa using h)];rfl
theorem Hf (id bI:Int) (ps:List Place):sq id (ps.filter fun x=>!decide (x.bI=bI))=if id=bI then 0 else sq id ps:=by
 unfold sq
 rw [List.filter_filter]
 by_cases h:id=bI
 ·rw [if_pos h,List.length_eq_zero_iff,List.filter_eq_nil_iff];intro x _;simp;intro g;omega
 rw [if_neg h];congr 1;refine List.filter_congr fun x _=>?_
 by_cases g:x.bI=id
 ·simp [g,h]
 simp [g]
theorem aT.ok.jK {s:aT} (h:s.ok) {i:Nat} {j:Jb} (hj:s.ap[i]?=some j) (names:List aK):(jK s i j j.id names).1.ok:=by
 have hm:=List.mem_of_getElem? hj
 obtain ⟨g1,g2,g3⟩:=h.py j hm
 unfold Dem.jK
 by_cases h1:j.runs=true
 ·rw [if_pos h1];exact h
 rw [if_neg h1]
 by_cases h2:(names.length:Int)≠j.x.count
 ·rw [if_pos h2];exact h
 rw [if_neg h2]
 by_cases h3:(!(cZ j.x).2)=true
 ·rw [if_pos h3];exact h
 rw [if_neg h3]
 by_cases h4:(c6 s.tree j.x.path (cZ j.x).1).2≠0
 ·rw [if_pos h4];exact h
 rw [if_neg h4]
 rcases AQ s.aX j.id names j.x.gx with ⟨_,e2⟩|⟨e,_⟩
 ·rw [if_pos e2];exact h
 rw [if_neg (by rw [e];simp)]
 simp only [Decidable.not_not] at h2 h4
 have hrf:j.runs=false:=by simpa using h1
 obtain ⟨c1,c2,c3⟩:=Dc h h4
 obtain ⟨p1,p2⟩:=Vj h.aX h.gR j.id names g2
 rw [lM h.kR]
 rw [e] at p1 p2 ⊢
 refine aT.ok.event (s:=⟨s.round,s.next,_,_,s.ap.set i {j with runs:=true,left:=j.x.fH},_,s.ev,s.au⟩) ?_ _ _
 have hs:∀y,y∈s.ap.set i {j with runs:=true,left:=j.x.fH}↔y={j with runs:=true,left:=j.x.fH}∨(y∈s.ap∧y.id≠j.id):=fun y=>AT h.ids hj
 obtain ⟨_,_,_,Vn,_⟩:=c7.1 g1
 exact {
  aX:=p1,gR:=p2,tree:=c1,notes:=h.notes
  used:=fun e he k hk=>by
   have:=vv k e.path {j with runs:=true,left:=j.x.fH} hj
   have t0:fP k e.path j=0:=by simp [fP,hrf]
   have t1:fP k e.path {j with runs:=true,left:=j.x.fH}=if e.path∈above j.x.path then vk k (cZ j.x).1 else 0:=by simp [fP]
   rw [t0,t1] at this
   rw [c3 e he k hk];simp only;omega
  most:=by simp only [List.length_set];exact h.most
  next:=h.next
  ids:=vu h.ids hj rfl
  vz:=fun y hy=>by rcases (hs y).1 hy with rfl|⟨g,_⟩;exact h.vz j hm;exact h.vz y g
  py:=fun y hy=>by
   rcases (hs y).1 hy with rfl|⟨g,_⟩
   ·exact ⟨g1,g2,jL c2 g3⟩
   obtain ⟨a,b,c⟩:=h.py y g;exact ⟨a,b,jL c2 c⟩
  left:=fun y hy=>by
   rcases (hs y).1 hy with rfl|⟨g,_⟩
   ·exact ⟨fun _=>⟨Vn.1,Int.le_refl _⟩,fun g=>by cases g⟩
   exact h.left y g
  iw:=h.iw.filter _
  kR:=h.kR.filter _
  gm:=fun q=>by
   show q∈s.queue.filter _↔_
   rw [List.mem_filter,h.gm q]
   constructor
   ·rintro ⟨⟨y,a,b,rfl⟩,c⟩
    exact ⟨y,(hs y).2 (.inr ⟨a,by simpa using c⟩),b,rfl⟩
   rintro ⟨y,a,b,rfl⟩
   rcases (hs y).1 a with rfl|⟨g,g4⟩
   ·cases b
   exact ⟨⟨y,g,b,rfl⟩,by simpa using g4⟩
  places:=fun x hx=>by
   rcases List.mem_append.1 hx with g|g
   ·obtain ⟨y,a,b,c,d⟩:=h.places x g
    refine ⟨y,(hs y).2 (.inr ⟨a,fun e2=>?_⟩),b,c,d⟩
    have:=bN h.ids a hm e2
    subst this;rw [hrf] at b;cases b
   obtain ⟨n,_,rfl⟩:=List.mem_map.1 g
   exact ⟨_,(hs _).2 (.inl rfl),rfl,rfl,rfl⟩
  count:=fun y hy hr=>by
   show ((sq y.id (s.aX.places++names.map fun n=>(⟨j.id,n,j.x.gx⟩:Place)):Nat):Int)=_
   rw [JJ,PS]
   rcases (hs y).1 hy with rfl|⟨g,g4⟩
   ·have:sq j.id s.aX.places=0:=by
     unfold sq;rw [List.length_eq_zero_iff,List.filter_eq_nil_iff];intro x hx;simpa using h.LH hm hrf x hx
    simp only [this];simp;exact h2
   rw [if_neg (fun e2=>g4 e2.symm),Nat.add_zero];exact h.count y g hr}
theorem aT.ok.wK {s:aT} (h:s.ok) (id:Int) (names:List aK):(cq s id names).1.ok:=by
 unfold cq
 cases hf:s.ap.findIdx? (fun j=>decide (j.id=id)) with
 |none=>exact h
 |some k=>
  obtain ⟨j,a,b,c⟩:=nH hf
  simp only
  rw [c,←b];exact h.jK a names
theorem aT.ok.jM {s:aT} (h:s.ok) {i:Nat} {j:Jb} (hj:s.ap[i]?=some j) (hr:j.runs=true):
 m9 s j=⟨s.round,s.next,qE s.aX j.id,vg (eI j.tot) (above j.x.path) s.tree,s.ap,s.queue,s.ev,s.au⟩:=by
 have hm:=List.mem_of_getElem? hj
 unfold m9
 rw [if_pos (c7.1 (h.py j hm).1).2.2.2.2.2,(n8 h hj hr).1]
theorem aT.ok.Vo {s:aT} (h:s.ok) {j:Jb} (hm:j∈s.ap) (hr:j.runs=true):
 jZ s.queue ⟨j.id,j.x.prio⟩=(s.queue.take (vb s.queue ⟨j.id,j.x.prio⟩)++⟨j.id,j.x.prio⟩::s.queue.drop (vb s.queue ⟨j.id,j.x.prio⟩),0):=by
 rcases qJ s.queue ⟨j.id,j.x.prio⟩ with ⟨_,_,e|⟨q,hq,e⟩|e⟩|⟨e,_⟩
 ·rw [MO (h.py j hm).1] at e;cases e
 ·exact absurd e (h.EB hm hr q hq)
 ·have h1:=h.Vm
  have h2:=h.most
  have h3:wJ s.ap<s.ap.length:=by
   unfold wJ
   exact List.length_filter_lt_length_iff_exists.2 ⟨j,hm,by simp [hr]⟩
  omega
 exact e
theorem aT.ok.stop {s:aT} (h:s.ok) (id kind:Int):(gC s id kind).1.ok:=by
 unfold gC
 cases hf:s.ap.findIdx? (fun j=>decide (j.id=id)) with
 |none=>exact h
 |some i=>
  obtain ⟨j,hj,hid,c⟩:=nH hf
  simp only
  rw [c]
  by_cases h1:(!j.runs)=true
  ·rw [if_pos h1];exact h
  rw [if_neg h1]
  have hr:j.runs=true:=by simpa using h1
  have hm:=List.mem_of_getElem? hj
  obtain ⟨g1,g2,g3⟩:=h.py j hm
  obtain ⟨_,c1,c2,c3⟩:=n8 h hj hr
  rw [h.jM hj hr,←hid]
  simp only [C5]
  rw [h.Vo hm hr]
  obtain ⟨p1,p2⟩:=G8 h.aX h.gR j.id
  refine aT.ok.event (s:=⟨s.round,s.next,_,_,s.ap.set i {j with runs:=false,left:=0},_,s.ev,s.au⟩) ?_ _ _
  have hs:∀y,y∈s.ap.set i {j with runs:=false,left:=0}↔y={j with runs:=false,left:=0}∨(y∈s.ap∧y.id≠j.id):=fun y=>AT h.ids hj
  exact {
   aX:=p1,gR:=p2,tree:=c1,notes:=h.notes
   used:=fun e he k hk=>by
    have:=vv k e.path {j with runs:=false,left:=0} hj
    have t1:fP k e.path {j with runs:=false,left:=0}=0:=by simp [fP]
    rw [t1] at this
    have:=c3 e he k hk;simp only;omega
   most:=by simp only [List.length_set];exact h.most
   next:=h.next
   ids:=vu h.ids hj rfl
   vz:=fun y hy=>by rcases (hs y).1 hy with rfl|⟨g,_⟩;exact h.vz j hm;exact h.vz y g
   py:=fun y hy=>by
    rcases (hs y).1 hy with rfl|⟨g,_⟩
    ·exact ⟨g1,g2,jL c2 g3⟩
    obtain ⟨a,b,c⟩:=h.py y g;exact ⟨a,b,jL c2 c⟩
   left:=fun y hy=>by
    rcases (hs y).1 hy with rfl|⟨g,_⟩
    ·exact ⟨fun g=>(by cases g),fun _=>rfl⟩
    exact h.left y g
   iw:=G4 h.iw (h.EB hm hr)
   kR:=G6 h.kR (h.EB hm hr) _
   gm:=fun q=>by
    show q∈List.take _ s.queue++_::List.drop _ s.queue↔_
    rw [G5,h.gm q]
    constructor
    ·rintro (⟨y,a,b,rfl⟩|rfl)
     ·refine ⟨y,(hs y).2 (.inr ⟨a,fun e=>?_⟩),b,rfl⟩
      have:=bN h.ids a hm e
      subst this;rw [hr] at b;cases b
     exact ⟨_,(hs _).2 (.inl rfl),rfl,rfl⟩
    rintro ⟨y,a,b,rfl⟩
    rcases (hs y).1 a with rfl|⟨g,g4⟩
    ·exact .inr rfl
    exact .inl ⟨y,g,b,rfl⟩
   places:=fun x hx=>by
    obtain ⟨hx1,N5⟩:=List.mem_filter.1 hx
    obtain ⟨y,a,b,c,d⟩:=h.places x hx1
    exact ⟨y,(hs y).2 (.inr ⟨a,by rw [c];simpa using N5⟩),b,c,d⟩
   count:=fun y hy hr=>by
    rcases (hs y).1 hy with rfl|⟨g,g4⟩
    ·cases hr
    show ((sq y.id (s.aX.places.filter fun x=>!decide (x.bI=j.id)):Nat):Int)=_
    rw [Hf,if_neg g4];exact h.count y g hr}
theorem aT.ok.end_ {s:aT} (h:s.ok) (id kind:Int):(send s id kind).1.ok:=by
 unfold send
 cases hf:s.ap.findIdx? (fun j=>decide (j.id=id)) with
 |none=>exact h
 |some i=>
  obtain ⟨j,hj,hid,c⟩:=nH hf
  simp only
  rw [c]
  have hm:=List.mem_of_getElem? hj
  have hs:∀y,y∈s.ap.eraseIdx i↔y∈s.ap∧y.id≠j.id:=fun y=>JG h.ids hj
  have hlen:(s.ap.eraseIdx i).length≤s.ap.length:=by rw [List.length_eraseIdx];split<;>omega
  have hsub:(s.ap.eraseIdx i).Sublist s.ap:=List.eraseIdx_sublist _ _
  by_cases hr:j.runs=true
  ·rw [if_pos hr,h.jM hj hr]
   obtain ⟨_,c1,c2,c3⟩:=n8 h hj hr
   obtain ⟨p1,p2⟩:=G8 h.aX h.gR j.id
   refine aT.ok.event (s:=⟨s.round,s.next,_,_,s.ap.eraseIdx i,s.queue,s.ev,s.au⟩) ?_ _ _
   exact {
    aX:=p1,gR:=p2,tree:=c1,notes:=h.notes
    used:=fun e he k hk=>by
     have:=tM k e.path hj
     have:=c3 e he k hk;simp only;omega
    most:=Nat.le_trans hlen h.most
    next:=h.next
    ids:=h.ids.sublist hsub
    vz:=fun y hy=>h.vz y ((hs y).1 hy).1
    py:=fun y hy=>by obtain ⟨a,b,c⟩:=h.py y ((hs y).1 hy).1;exact ⟨a,b,jL c2 c⟩
    left:=fun y hy=>h.left y ((hs y).1 hy).1
    iw:=h.iw,kR:=h.kR
    gm:=fun q=>by
     rw [h.gm q]
     constructor
     ·rintro ⟨y,a,b,rfl⟩
      refine ⟨y,(hs y).2 ⟨a,fun e=>?_⟩,b,rfl⟩
      have:=bN h.ids a hm e
      subst this;rw [hr] at b;cases b
     rintro ⟨y,a,b,rfl⟩;exact ⟨y,((hs y).1 a).1,b,rfl⟩
    places:=fun x hx=>by
     obtain ⟨hx1,N5⟩:=List.mem_filter.1 hx
     obtain ⟨y,a,b,c,d⟩:=h.places x hx1
     exact ⟨y,(hs y).2 ⟨a,by rw [c];simpa using N5⟩,b,c,d⟩
    count:=fun y hy hr=>by
     obtain ⟨g,g4⟩:=(hs y).1 hy
     show ((sq y.id (s.aX.places.filter fun x=>!decide (x.bI=j.id)):Nat):Int)=_
     rw [Hf,if_neg g4];exact h.count y g hr}
  have hrf:j.runs=false:=by simpa using hr
  rw [if_neg hr,lM h.kR,←hid]
  refine aT.ok.event (s:=⟨s.round,s.next,s.aX,s.tree,s.ap.eraseIdx i,_,s.ev,s.au⟩) ?_ _ _
  exact {
   aX:=h.aX,gR:=h.gR,tree:=h.tree,notes:=h.notes
   used:=fun e he k hk=>by
    have:=tM k e.path hj
    have t0:fP k e.path j=0:=by simp [fP,hrf]
    rw [h.used e he k hk];simp only;omega
   most:=Nat.le_trans hlen h.most
   next:=h.next
   ids:=h.ids.sublist hsub
   vz:=fun y hy=>h.vz y ((hs y).1 hy).1
   py:=fun y hy=>h.py y ((hs y).1 hy).1
   left:=fun y hy=>h.left y ((hs y).1 hy).1
   iw:=h.iw.filter _
   kR:=h.kR.filter _
   gm:=fun q=>by
    show q∈s.queue.filter _↔_
    rw [List.mem_filter,h.gm q]
    constructor
    ·rintro ⟨⟨y,a,b,rfl⟩,c⟩
     exact ⟨y,(hs y).2 ⟨a,by simpa using c⟩,b,rfl⟩
    rintro ⟨y,a,b,rfl⟩
    obtain ⟨g,g4⟩:=(hs y).1 a
    exact ⟨⟨y,g,b,rfl⟩,by simpa using g4⟩
   places:=fun x hx=>by
    obtain ⟨y,a,b,c,d⟩:=h.places x hx
    refine ⟨y,(hs y).2 ⟨a,fun e=>?_⟩,b,c,d⟩
    have:=bN h.ids a hm e
    subst this;rw [hrf] at b;cases b
   count:=fun y hy hr=>h.count y ((hs y).1 hy).1 hr}
structure iX where
 kind:Nat
 a:Nat
 b:Nat
 c:Nat
 d:Nat
structure iX.u (x:iX):Prop where
 kind:x.kind<256
 a:x.a<256
 b:x.b<256
 c:x.c<256
 d:x.d<256
def iX.cells (x:iX):List D:=[.int .u8 x.kind,.int .u8 x.a,.int .u8 x.b,.int .u8 x.c,.int .u8 x.d]
def AU:List aK:=[[97],[97,47,98],[98],[206,177,206,178]]
def kZ:List aK:=[[110,49],[110,50],[110,51]]
def Cb (x:iX):Ask:=⟨AU.getD (x.a%4) [],⟨(x.b%5:Nat),(x.b / 5%5:Nat),0,(x.b / 25%3:Nat)⟩,(1+x.c%3:Nat),(x.c / 3%4:Nat),(1+x.d%5:Nat),if 200<x.d then [⟨SF,decide (x.d%2=1),[[97]]⟩] else []⟩
def Up:List aK:=[[97],[97,47,98],[98]]
def qK (m:Nat):Nat→List bg
 |0=>(vc [⟨[],bM.zero,bM.zero⟩] [] ⟨30,30,30,30⟩).1
 |i+1=>(vc (qK m i) (Up.getD i []) ⟨(6+4*i+m:Nat),20,20,20⟩).1
def AW (i:Nat):List dx:=if i<2 then [⟨SF,[[97],[98]].getD i []⟩] else []
def SK (n i:Nat):Bool:=decide (n / 2^(5+i)%2=0)
def fc (n:Nat):Nat→cH
 |0=>⟨[],[]⟩
 |i+1=>if SK n i then (qy (fc n i) ⟨kZ.getD i [],⟨(4+2*i:Nat),9,9,9⟩,AW i,false⟩).1 else fc n i
def jN (n:Nat):aT:=⟨0,1,fc n 3,qK (n%5) 3,[],[],⟨0,[]⟩,⟨0,[]⟩⟩
def pz (m:Nat):List bg:=[⟨[],⟨30,30,30,30⟩,bM.zero⟩,⟨[97],⟨(6+m:Nat),20,20,20⟩,bM.zero⟩,⟨[97,47,98],⟨(10+m:Nat),20,20,20⟩,bM.zero⟩,⟨[98],⟨(14+m:Nat),20,20,20⟩,bM.zero⟩]
theorem LI:∀m<5,qK m 3=pz m:=by decide+kernel
theorem PU:∀m<5,∀i<4,(qK m i).length≤4:=by decide+kernel
theorem SM {n:Nat} (i:Nat):SK n i=SK (n / 32*32) i:=by
 unfold SK
 rw [show 5+i=5+i from rfl,Nat.pow_add,←Nat.div_div_eq_div_mul,←Nat.div_div_eq_div_mul,show (2:Nat)^5=32 from rfl,Nat.mul_div_cancel _ (by decide)]
theorem Hg (n:Nat):∀i,fc n i=fc (n / 32*32) i
 |0=>rfl
 |i+1=>by rw [fc,fc,←Hg n i,SM]
theorem MP {m:Nat} (hm:m<5):Tree.ok (pz m)∧∀e∈pz m,e.used=bM.zero:=by
 have hz:∀e∈pz m,e.used=bM.zero:=by
  intro e he;simp only [pz,List.mem_cons,List.not_mem_nil,or_false] at he
  rcases he with rfl|rfl|rfl|rfl<;>rfl
 have hp:(pz m).map (·.path)=[[],[97],[97,47,98],[98]]:=rfl
 refine ⟨⟨⟨_,_,rfl,rfl⟩,by simp [pz],?_,?_,?_,?_,?_⟩,hz⟩
 ·have:(((pz m).map (·.path)).Pairwise (·<·)):=by rw [hp];decide
  exact List.pairwise_map.1 this
 ·intro e he
  have:e.path∈(pz m).map (·.path):=List.mem_map_of_mem he
  rw [hp] at this
  have hn:∀p∈([[],[97],[97,47,98],[98]]:List aK),named p=true:=by decide+kernel
  exact hn _ this
 ·intro e he
  have h1:e.path∈(pz m).map (·.path):=List.mem_map_of_mem he
  have hn:∀p∈([[],[97],[97,47,98],[98]]:List aK),parent p∈([[],[97],[97,47,98],[98]]:List aK):=by decide+kernel
  rw [hp] at h1
  have h2:=hn _ h1
  rw [←hp] at h2
  obtain ⟨f,hf,g⟩:=List.mem_map.1 h2
  exact ⟨f,hf,g⟩
 ·intro e he k _;rw [hz e he,nh];omega
 intro e he
 refine ⟨?_,by rw [hz e he];exact wG⟩
 simp only [pz,List.mem_cons,List.not_mem_nil,or_false] at he
 rcases he with rfl|rfl|rfl|rfl<;>(intro k hk;unfold bM.at_;split<;>simp only<;>omega)
theorem XW (i:Nat) (hi:i<3):(⟨(4+2*i:Nat),9,9,9⟩:bM).w:=by intro k hk;unfold bM.at_;split<;>simp only<;>omega
theorem LJ (n:Nat):∀i≤3,(fc n i).ok∧(fc n i).w
 |0,_=>⟨LC,PC⟩
 |i+1,h=>by
  obtain ⟨a,b⟩:=LJ n i (by omega)
  unfold fc
  split
  ·exact Vk a b (XW i (by omega))
  exact ⟨a,b⟩
theorem Hh (p:cH) (n:Node):(qy p n).1.places=p.places:=by
 rcases tJ p n with ⟨e,_⟩|⟨_,_,_,e⟩
 ·rw [e]
 rw [e]
theorem qL (n:Nat):∀i,(fc n i).places=[]
 |0=>rfl
 |i+1=>by
  unfold fc;split
  ·rw [Hh,qL n i]
  exact qL n i
theorem AX (n:Nat):(jN n).ok:=by
 have hm:n%5<5:=Nat.mod_lt _ (by decide)
 obtain ⟨t1,t2⟩:=MP hm
 obtain ⟨p1,p2⟩:=LJ n 3 (Nat.le_refl _)
 unfold jN
 rw [LI _ hm]
 exact {
  aX:=p1,gR:=p2,tree:=t1
  used:=fun e he k _=>by simp only at he;rw [t2 e he,nh];rfl
  most:=by simp
  next:=by simp
  ids:=List.Pairwise.nil
  vz:=fun j hj=>by cases hj
  py:=fun j hj=>by cases hj
  left:=fun j hj=>by cases hj
  iw:=List.Pairwise.nil
  kR:=List.Pairwise.nil
  gm:=fun q=>by simp
  places:=fun x hx=>by simp only at hx;rw [qL] at hx;cases hx
  count:=fun j hj=>by cases hj
  notes:=by simp}
theorem PV (x:iX):(Cb x).gx.w:=by intro k hk;unfold Cb bM.at_;split<;>simp only<;>omega
end Dem
end
