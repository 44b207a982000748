/- Parts of a proof, joined. -/
import Derived.Test.YtihohjnkkalgiaaGreatDoorQ14
set_option linter.all false
set_option maxRecDepth 100000
set_option maxHeartbeats 4000000
section
open Go
namespace Dem
abbrev vk (k:Nat) (v:bO):Nat:=(v.at_ k).toNat
def Au (k:Nat) (l:List bw):Nat:=(l.map fun e=>vk k e.used).sum
def kids (p:aQ) (l:List bw):List bw:=l.filter fun x=>!decide (x.path=[])&&decide (parent x.path=p)
theorem mU (k:Nat):vk k bO.zero=0:=by unfold vk bO.at_;split<;>rfl
theorem Jk {v:bO} (h:v.w) {k:Nat} (hk:k<4):v.at_ k=(vk k v:Int)∧vk k v<18446744073709551616:=by
 have:=h k hk;unfold vk;omega
theorem Px {a b:bO} (ha:a.w) (hb:b.w) (h:∀k<4,vk k a=vk k b):a=b:=by
 refine bO.UW fun k hk=>?_
 rw [(Jk ha hk).1,(Jk hb hk).1,h k hk]
theorem Jl {a b:bO} (h:(jR a b).2=true):(jR a b).1.w:=by
 intro k hk
 have h1:=Lc h k hk
 have h2:=D5.1 h k hk
 rw [h1];omega
theorem oL {a b:bO} (h:(jR a b).2=true) {k:Nat} (hk:k<4):vk k (jR a b).1=vk k a+vk k b:=by
 unfold vk;rw [Lc h k hk];omega
theorem Ec {a b:bO} (ha:a.w) (h:(dV a b).2=true) {k:Nat} (hk:k<4):vk k (dV a b).1=vk k a-vk k b:=by
 have:=(Jk ha hk).2
 unfold vk at*;rw [D6 h k hk]
 have h2:((a.at_ k).toNat-(b.at_ k).toNat)%18446744073709551616=(a.at_ k).toNat-(b.at_ k).toNat:=Nat.mod_eq_of_lt (by omega)
 omega
theorem nR {a b:bO}:(jR a b).2=true↔∀k<4,vk k a+vk k b<18446744073709551616:=D5
theorem mo {a b:bO}:kU a b=true↔∀k<4,vk k a≤vk k b:=mR
theorem oM (p:aQ):∀(l:List bw) (s:bO),s.w→(∀k<4,vk k s+Au k (kids p l)<18446744073709551616)→
 ∃v,CE p l s=some v∧v.w∧∀k<4,vk k v=vk k s+Au k (kids p l)
 |[],s,hs,_=>⟨s,rfl,hs,by simp [kids,Au]⟩
 |x::r,s,hs,h=>by
  unfold CE
  by_cases h1:x.path=[]
  ·have e:kids p (x::r)=kids p r:=by simp [kids,h1]
   rw [e] at h ⊢;rw [if_pos h1]
   exact oM p r s hs h
  rw [if_neg h1]
  by_cases h2:parent x.path≠p
  ·have e:kids p (x::r)=kids p r:=by simp [kids,h2]
   rw [e] at h ⊢;rw [if_pos h2]
   exact oM p r s hs h
  have e:kids p (x::r)=x::kids p r:=by simp only [Decidable.not_not] at h2;simp [kids,h1,h2]
  have eu:∀k,Au k (kids p (x::r))=vk k x.used+Au k (kids p r):=by intro k;rw [e];simp [Au]
  simp only [eu] at h ⊢
  rw [if_neg h2]
  have ok:(jR s x.used).2=true:=nR.2 fun k hk=>by have:=h k hk;omega
  rw [if_pos ok]
  obtain ⟨v,a1,a2,a3⟩:=oM p r (jR s x.used).1 (Jl ok) (fun k hk=>by rw [oL ok hk];have:=h k hk;omega)
  exact ⟨v,a1,a2,fun k hk=>by rw [a3 k hk,oL ok hk];omega⟩
theorem Mv {l:List bw} {e:bw} (hu:e.used.w) (h1:∀k<4,vk k e.used≤vk k e.eU) (h2:∀k<4,Au k (kids e.path l)≤vk k e.used):D3 l e=true:=by
 obtain ⟨v,a1,a2,a3⟩:=oM e.path l bO.zero wh (fun k hk=>by rw [mU];have:=h2 k hk;have:=(Jk hu hk).2;omega)
 unfold D3
 rw [a1]
 simp only [Bool.and_eq_true]
 refine ⟨mo.2 h1,mo.2 fun k hk=>?_⟩
 rw [a3 k hk,mU];have:=h2 k hk;omega
structure Tree.ok (l:List bw):Prop where
 root:∃e r,l=e::r∧e.path=[]
 most:l.length≤16
 xM:l.Pairwise (fun x y=>x.path<y.path)
 named:∀e∈l,named e.path=true
 Zu:∀e∈l,∃f∈l,f.path=parent e.path
 fits:∀e∈l,∀k<4,vk k e.used≤vk k e.eU
 w:∀e∈l,e.eU.w∧e.used.w
theorem Py {t:List bw} (ha:t.Pairwise (fun x y=>x.path<y.path)) {i j:Nat} {x y:bw} (hx:t[i]?=some x) (hy:t[j]?=some y) (e:x.path=y.path):i=j:=by
 obtain ⟨hi,rfl⟩:=List.getElem?_eq_some_iff.1 hx
 obtain ⟨hj,rfl⟩:=List.getElem?_eq_some_iff.1 hy
 rcases Nat.lt_trichotomy i j with g|g|g
 ·have:=List.pairwise_iff_getElem.1 ha i j hi hj g;rw [e] at this;exact absurd this (kg _)
 ·exact g
 have:=List.pairwise_iff_getElem.1 ha j i hj hi g;rw [e] at this;exact absurd this (kg _)
theorem Sp {t:List bw} (ha:t.Pairwise (fun x y=>x.path<y.path)) {x y:bw} (hx:x∈t) (hy:y∈t) (e:x.path=y.path):x=y:=by
 obtain ⟨i,hi⟩:=List.getElem?_of_mem hx
 obtain ⟨j,hj⟩:=List.getElem?_of_mem hy
 have:=Py ha hi hj e
 subst this;rw [hi] at hj;exact Option.some.inj hj
theorem tj {t:List bw} {q:aQ} (h:0≤bY t q):∃(i:Nat) (e:bw),t[i]?=some e∧e.path=q∧bY t q=i:=by
 rcases cF (rfl:bY t q=idxOf _ t) with ⟨h1,_⟩|⟨i,x,h1,_,h3,h4,_⟩
 ·omega
 exact ⟨i,x,h3,by simpa using h4,h1⟩
theorem Av {t:List bw} {e:bw} (he:e∈t):0≤bY t e.path:=by
 rcases cF (rfl:bY t e.path=idxOf _ t) with ⟨_,h2,_⟩|⟨i,x,h1,_⟩
 ·rw [List.findIdx?_eq_none_iff] at h2;have:=h2 e he;simp at this
 omega
theorem Jm {t:List bw} {q:aQ}:bY t q<0↔∀e∈t,e.path≠q:=by
 constructor
 ·rintro h e he rfl;have:=Av he;omega
 intro h
 refine Int.not_le.1 fun g=>?_
 obtain ⟨i,e,h1,h2,_⟩:=tj g
 exact h e (List.mem_of_getElem? h1) h2
theorem Aw {all:List bw} (hn:∀e∈all,named e.path=true) (hp:∀e∈all,∃f∈all,f.path=parent e.path):
 ∀(r:List bw) (q:aQ),r.Pairwise (fun x y=>x.path<y.path)→(∀e∈r,q<e.path)→(∀e∈r,e∈all)→oK all (some q) r=true
 |[],_,_,_,_=>rfl
 |e::r,q,ha,hq,hm=>by
  rw [List.pairwise_cons] at ha
  have h1:(!sle e.path q)=true:=Lb.2 (hq e (by simp))
  have h2:=hn e (hm e (by simp))
  have h3:(!decide (bY all (parent e.path)<0))=true:=by
   obtain ⟨f,hf,g⟩:=hp e (hm e (by simp))
   have:=Av hf;rw [g] at this
   simp;omega
  unfold oK
  rw [h1,h2,h3,Aw hn hp r e.path ha.2 (fun x hx=>ha.1 x hx) (fun x hx=>hm x (by simp [hx]))];rfl
theorem Jn {l:List bw} (h:Tree.ok l) (hk:∀e∈l,∀k<4,Au k (kids e.path l)≤vk k e.used):D4 l=true:=by
 obtain ⟨e,r,rfl,he⟩:=h.root
 have hm:=h.most
 have h1:oK (e::r) none (e::r)=true:=by
  rw [oK]
  have ha:=h.xM
  rw [List.pairwise_cons] at ha
  exact Aw h.named h.Zu r e.path ha.2 (fun x hx=>ha.1 x hx) (fun x hx=>by simp [hx])
 have h2:((e::r).any fun x=>!D3 (e::r) x)=false:=by
  rw [List.any_eq_false];intro x hx
  rw [Mv (h.w x hx).2 (h.fits x hx) (hk x hx)];simp
 unfold D4
 rw [if_neg (by simp),if_neg (by omega),if_neg (by simp [he]),h1,h2];rfl
def uS (f:bw→bw×Int) (A:List aQ) (t:List bw):List bw:=t.map fun e=>if e.path∈A then (f e).1 else e
theorem uT (f:bw→bw×Int) {t:List bw} (ha:t.Pairwise (fun x y=>x.path<y.path)):∀(A:List aQ) (out:List bw),(∀q∈A,0≤bY t q)→out.length=t.length→
 ((∃e∈t,e.path∈A∧(f e).2≠0)∧(kf f t A out).1=t∧(kf f t A out).2≠0)∨
 ((∀e∈t,e.path∈A→(f e).2=0)∧(kf f t A out).2=0∧(kf f t A out).1.length=t.length∧∀(i:Nat) (e:bw),t[i]?=some e→(kf f t A out).1[i]?=if e.path∈A then some (f e).1 else out[i]?)
 |[],out,_,hl=>.inr ⟨by simp,rfl,hl,by intro i e _;simp [kf]⟩
 |q::A,out,hq,hl=>by
  obtain ⟨i,e,h1,h2,h3⟩:=tj (hq q (by simp))
  have hg:t.getD (bY t q).toNat bw.zero=e:=by rw [h3,Int.toNat_natCast,List.getD_eq_getElem?_getD,h1];rfl
  have hem:=List.mem_of_getElem? h1
  have hil:=(List.getElem?_eq_some_iff.1 h1).1
  unfold kf
  rw [hg]
  by_cases h0:(f e).2≠0
  ·rw [if_pos h0];exact .inl ⟨⟨e,hem,by simp [h2],h0⟩,rfl,h0⟩
  rw [if_neg h0]
  simp only [Decidable.not_not] at h0
  rw [h3,Int.toNat_natCast]
  rcases uT f ha A (out.set i (f e).1) (fun q hq'=>hq q (by simp [hq'])) (by simp [hl]) with ⟨⟨x,b1,b2,b3⟩,b4,b5⟩|⟨b1,b2,b3,b4⟩
  ·exact .inl ⟨⟨x,b1,by simp [b2],b3⟩,b4,b5⟩
  refine .inr ⟨?_,b2,b3,?_⟩
  ·intro x hx hp
   rcases List.mem_cons.1 hp with g|g
   ·rw [Sp ha hx hem (by rw [g,h2])];exact h0
   exact b1 x hx g
  intro j x hx
  rw [b4 j x hx]
  by_cases g:x.path∈A
  ·rw [if_pos g,if_pos (by simp [g])]
  rw [if_neg g]
  by_cases g2:x.path=q
  ·have:=Py ha hx h1 (by rw [g2,h2])
   subst this
   rw [hx] at h1;cases h1
   rw [if_pos (by simp [g2]),List.getElem?_set_self (by omega)]
  have hji:i≠j:=by rintro rfl;rw [hx] at h1;cases h1;exact g2 h2
  rw [if_neg (by simp [g2,g]),List.getElem?_set_ne hji]
theorem qq (f:bw→bw×Int) {t:List bw} (ha:t.Pairwise (fun x y=>x.path<y.path)) (p:aQ):
 ((o6 f t p).1=t∧(o6 f t p).2≠0∧(named p=false∨(∃q∈above p,∀e∈t,e.path≠q)∨∃e∈t,e.path∈above p∧(f e).2≠0))∨
 (o6 f t p=(uS f (above p) t,0)∧named p=true∧(∀q∈above p,∃e∈t,e.path=q)∧∀e∈t,e.path∈above p→(f e).2=0):=by
 unfold o6
 cases hn:named p with
 |false=>exact .inl ⟨rfl,by simp,.inl rfl⟩
 |true=>
  simp only [Bool.not_true,Bool.false_eq_true,if_false]
  by_cases h:((above p).any fun q=>decide (bY t q<0))=true
  ·rw [if_pos h]
   obtain ⟨q,hq,g⟩:=List.any_eq_true.1 h
   exact .inl ⟨rfl,by simp,.inr (.inl ⟨q,hq,Jm.1 (by simpa using g)⟩)⟩
  rw [if_neg h]
  have hq:∀q∈above p,0≤bY t q:=fun q hq=>Int.not_lt.1 fun g=>h (List.any_eq_true.2 ⟨q,hq,by simpa using g⟩)
  rcases uT f ha (above p) t hq rfl with ⟨b1,b2,b3⟩|⟨b1,b2,b3,b4⟩
  ·exact .inl ⟨b2,b3,.inr (.inr b1)⟩
  refine .inr ⟨?_,by trivial,fun q hm=>?_,b1⟩
  ·refine Prod.ext ?_ b2
   refine List.ext_getElem? fun i=>?_
   unfold uS
   rw [List.getElem?_map]
   cases hi:t[i]? with
   |none=>rw [List.getElem?_eq_none_iff] at hi;simp only [Option.map_none];rw [List.getElem?_eq_none_iff];omega
   |some e=>
    rw [b4 i e hi]
    simp only [Option.map_some]
    split
    ·rfl
    exact hi
  obtain ⟨i,e,g1,g2,_⟩:=tj (hq q hm)
  exact ⟨e,List.mem_of_getElem? g1,g2⟩
theorem oN {v:bO} {e:bw}:(fJ v e).2=0↔(jR e.used v).2=true∧kU (jR e.used v).1 e.eU=true:=by
 unfold fJ
 cases h1:(jR e.used v).2<;>cases h2:kU (jR e.used v).1 e.eU<;>simp
theorem xS {v:bO} {e:bw} (h:(fJ v e).2=0):(fJ v e).1={e with used:=(jR e.used v).1}:=by
 obtain ⟨h1,h2⟩:=oN.1 h
 unfold fJ;rw [h1,h2];rfl
theorem uU {v:bO} {e:bw}:(eE v e).2=0↔(dV e.used v).2=true:=by
 unfold eE
 cases h1:(dV e.used v).2<;>simp
theorem xT {v:bO} {e:bw} (h:(eE v e).2=0):(eE v e).1={e with used:=(dV e.used v).1}:=by
 unfold eE;rw [uU.1 h];rfl
structure cg (t u:List bw):Prop where
 len:u.length=t.length
 at_:∀(i:Nat) (e:bw),t[i]?=some e→∃x,u[i]?=some x∧x.path=e.path∧x.eU=e.eU
theorem cg.paths {t u:List bw} (h:cg t u):u.map (·.path)=t.map (·.path):=by
 refine List.ext_getElem? fun i=>?_
 rw [List.getElem?_map,List.getElem?_map]
 cases hi:t[i]? with
 |none=>rw [List.getElem?_eq_none_iff] at hi;rw [List.getElem?_eq_none_iff.2 (by rw [h.len];exact hi)]
 |some e=>obtain ⟨x,h1,h2,_⟩:=h.at_ i e hi;rw [h1];simp [h2]
theorem cg.back {t u:List bw} (h:cg t u) {x:bw} (hx:x∈u):∃e∈t,x.path=e.path∧x.eU=e.eU:=by
 obtain ⟨i,hi⟩:=List.getElem?_of_mem hx
 have hl:=(List.getElem?_eq_some_iff.1 hi).1
 rw [h.len] at hl
 obtain ⟨y,h1,h2,h3⟩:=h.at_ i t[i] (List.getElem?_eq_getElem hl)
 rw [hi] at h1;cases h1
 exact ⟨t[i],List.getElem_mem hl,h2,h3⟩
theorem cg.mem {t u:List bw} (h:cg t u) {e:bw} (he:e∈t):∃x∈u,x.path=e.path:=by
 obtain ⟨i,hi⟩:=List.getElem?_of_mem he
 obtain ⟨x,h1,h2,_⟩:=h.at_ i e hi
 exact ⟨x,List.mem_of_getElem? h1,h2⟩
theorem cg.xM {t u:List bw} (h:cg t u) (ha:t.Pairwise (fun x y=>x.path<y.path)):u.Pairwise (fun x y=>x.path<y.path):=by
 have h1:(t.map (·.path)).Pairwise (·<·):=List.pairwise_map.2 ha
 rw [←h.paths] at h1
 exact List.pairwise_map.1 h1
theorem cg.ok {t u:List bw} (h:cg t u) (ho:Tree.ok t) (hf:∀e∈u,∀k<4,vk k e.used≤vk k e.eU) (hw:∀e∈u,e.used.w):Tree.ok u where
 root:=by
  obtain ⟨e,r,rfl,he⟩:=ho.root
  obtain ⟨x,h1,h2,_⟩:=h.at_ 0 e rfl
  cases u with
  |nil=>cases h1
  |cons y r2=>simp at h1;subst h1;exact ⟨y,r2,rfl,by rw [h2,he]⟩
 most:=by rw [h.len];exact ho.most
 xM:=h.xM ho.xM
 named:=fun x hx=>by obtain ⟨e,he,h1,_⟩:=h.back hx;rw [h1];exact ho.named e he
 Zu:=fun x hx=>by
  obtain ⟨e,he,h1,_⟩:=h.back hx
  obtain ⟨f,hf,h2⟩:=ho.Zu e he
  obtain ⟨y,hy,h3⟩:=h.mem hf
  exact ⟨y,hy,by rw [h3,h2,h1]⟩
 fits:=hf
 w:=fun x hx=>by obtain ⟨e,he,_,h1⟩:=h.back hx;exact ⟨by rw [h1];exact (ho.w e he).1,hw x hx⟩
theorem Ax {f:bw→bw×Int} {A:List aQ} {t:List bw} (h:∀e∈t,e.path∈A→(f e).1.path=e.path∧(f e).1.eU=e.eU):cg t (uS f A t) where
 len:=by simp [uS]
 at_:=by
  intro i e hi
  refine ⟨if e.path∈A then (f e).1 else e,by rw [uS,List.getElem?_map,hi];rfl,?_⟩
  split
  ·rename_i g;exact h e (List.mem_of_getElem? hi) g
  exact ⟨rfl,rfl⟩
abbrev Jb.tot (j:Jb):bO:=(cU j.x).1
def fO (k:Nat) (p:aQ) (j:Jb):Nat:=if j.runs=true∧p∈above j.x.path then vk k j.tot else 0
def gQ (k:Nat) (p:aQ) (l:List Jb):Nat:=(l.map (fO k p)).sum
theorem gv (k:Nat) (p:aQ) (j:Jb) (l:List Jb):gQ k p (j::l)=fO k p j+gQ k p l:=by simp [gQ]
theorem oO (p:aQ):∀(l:List Jb) (v:bO),v.w→(∀j∈l,j.runs=true→(cU j.x).2=true)→(∀k<4,vk k v+gQ k p l<18446744073709551616)→
 ∃u,CQ p l v=some u∧u.w∧∀k<4,vk k u=vk k v+gQ k p l
 |[],v,hv,_,_=>⟨v,rfl,hv,by simp [gQ]⟩
 |j::l,v,hv,ht,h=>by
  simp only [gv] at h ⊢
  unfold CQ
  by_cases h1:j.runs=true
  ·rw [if_neg (by simp [h1])]
   by_cases h2:(!decide (p=[])&&!nj p j.x.path)=true
   ·have h3:¬p∈above j.x.path:=by
     have:=xR (P:=j.x.path) (q:=p)
     intro g
     rw [decide_eq_true g] at this
     simp only [Bool.and_eq_true,Bool.not_eq_true'] at h2
     rw [h2.1,h2.2] at this;simp at this
    have h4:∀k,fO k p j=0:=fun k=>by simp [fO,h3]
    rw [if_pos h2]
    simp only [h4,Nat.zero_add] at h ⊢
    exact oO p l v hv (fun x hx=>ht x (by simp [hx])) h
   have h3:p∈above j.x.path:=by
    have:=xR (P:=j.x.path) (q:=p)
    refine Decidable.byContradiction fun g=>?_
    rw [decide_eq_false g] at this
    rw [Bool.or_eq_false_iff] at this
    rw [this.1,this.2] at h2;simp at h2
   have h4:∀k,fO k p j=vk k j.tot:=fun k=>by simp [fO,h1,h3]
   simp only [h4] at h ⊢
   have ok:(jR v j.tot).2=true:=nR.2 fun k hk=>by have:=h k hk;omega
   have Zs:=ht j (by simp) h1
   rw [if_neg h2,if_neg (by rw [Zs,ok];simp)]
   obtain ⟨u,a1,a2,a3⟩:=oO p l (jR v j.tot).1 (Jl ok) (fun x hx=>ht x (by simp [hx])) (fun k hk=>by rw [oL ok hk];have:=h k hk;omega)
   exact ⟨u,a1,a2,fun k hk=>by rw [a3 k hk,oL ok hk];omega⟩
  have h4:∀k,fO k p j=0:=fun k=>by simp [fO,h1]
  rw [if_pos (by simpa using h1)]
  simp only [h4,Nat.zero_add] at h ⊢
  exact oO p l v hv (fun x hx=>ht x (by simp [hx])) h
theorem Pz {s:bg} {e:bw} (hu:e.used.w) (ht:∀j∈s.av,j.runs=true→(cU j.x).2=true) (h:∀k<4,vk k e.used=gQ k e.path s.av):Lg s e=true:=by
 obtain ⟨u,a1,a2,a3⟩:=oO e.path s.av bO.zero wh ht (fun k hk=>by rw [mU,←h k hk];have:=(Jk hu hk).2;omega)
 unfold Lg
 rw [a1]
 simp only [decide_eq_true_eq]
 exact Px a2 hu fun k hk=>by rw [a3 k hk,mU,h k hk];omega
theorem Ay {α:Type}:∀l:List α,(l.map fun _=>0).sum=0
 |[]=>rfl
 |_::l=>by simp only [List.map_cons,List.sum_cons,Ay l]
theorem Lh (k:Nat) (p:aQ) (j:Jb):∀(K:List aQ),K.Nodup→(∀q∈K,q≠[]∧parent q=p)→(K.map fun q=>fO k q j).sum≤fO k p j
 |[],_,_=>Nat.zero_le _
 |q::K,hn,hp=>by
  rw [List.nodup_cons] at hn
  have hq:=hp q (by simp)
  by_cases h:j.runs=true∧q∈above j.x.path
  ·have h0:(K.map fun q=>fO k q j).sum=0:=by
    have:∀r∈K,fO k r j=0:=fun r hr=>by
     unfold fO;rw [if_neg];rintro ⟨_,g⟩
     have oo:=hp r (by simp [hr])
     exact hn.1 (by rw [Ji h.2 g hq.1 oo.1 (by rw [hq.2,oo.2])];exact hr)
    rw [List.map_congr_left this,Ay]
   have h1:p∈above j.x.path:=by rw [←hq.2];exact Jj h.2
   simp only [List.map_cons,List.sum_cons]
   rw [h0]
   simp [fO,h,h1]
  simp only [List.map_cons,List.sum_cons]
  rw [show fO k q j=0 by unfold fO;rw [if_neg h],Nat.zero_add]
  exact Lh k p j K hn.2 (fun r hr=>hp r (by simp [hr]))
theorem sum_add {α:Type} (f g:α→Nat):∀l:List α,(l.map fun x=>f x+g x).sum=(l.map f).sum+(l.map g).sum
 |[]=>rfl
 |x::l=>by simp only [List.map_cons,List.sum_cons,sum_add f g l];omega
theorem GJ (k:Nat) (p:aQ) (K:List aQ) (hn:K.Nodup) (hp:∀q∈K,q≠[]∧parent q=p):∀(l:List Jb),(K.map fun q=>gQ k q l).sum≤gQ k p l
 |[]=>by
  have:(K.map fun q=>gQ k q []).sum=0:=Ay K
  rw [this];exact Nat.zero_le _
 |j::l=>by
  simp only [gv]
  rw [sum_add]
  exact Nat.add_le_add (Lh k p j K hn hp) (GJ k p K hn hp l)
theorem Sq {t:List bw} (ha:t.Pairwise (fun x y=>x.path<y.path)) {l:List Jb} {k:Nat} (h:∀e∈t,vk k e.used=gQ k e.path l) (p:aQ):Au k (kids p t)≤gQ k p l:=by
 have e:Au k (kids p t)=(((kids p t).map (·.path)).map fun q=>gQ k q l).sum:=by
  unfold Au;rw [List.map_map]
  congr 1
  exact List.map_congr_left fun x hx=>h x (List.mem_filter.1 hx).1
 rw [e]
 refine GJ k p _ ?_ ?_ l
 ·rw [List.nodup_iff_pairwise_ne,List.pairwise_map]
  exact (ha.filter _).imp fun h g=>by rw [g] at h;exact kg _ h
 intro q hq
 obtain ⟨x,hx,rfl⟩:=List.mem_map.1 hq
 have:=(List.mem_filter.1 hx).2
 simpa using this
abbrev yz (l:List cj):Prop:=l.Pairwise (fun a b=>bG a b=true)
abbrev Az (l:List cj):Prop:=l.Pairwise (fun a b=>a.id≠b.id)
theorem gk {a b:cj}:bG a b=true↔b.prio<a.prio∨(a.prio=b.prio∧a.id<b.id):=by simp [bG]
theorem oP {a b c:cj} (h:bG a b=true) (g:bG b c=true):bG a c=true:=by
 rw [gk] at*;omega
theorem AA {a b:cj} (h:a.id≠b.id) (g:¬bG a b=true):bG b a=true:=by
 rw [gk] at*;omega
theorem PA (l:List cj) (e:cj):uO l e≤l.length∧(∀x∈l.take (uO l e),¬bG e x=true)∧(∀x,l[uO l e]?=some x→bG e x=true):=by
 unfold uO
 cases h:l.findIdx? (fun x=>bG e x) with
 |none=>
  rw [List.findIdx?_eq_none_iff] at h
  refine ⟨Nat.le_refl _,?_,?_⟩
  ·intro x hx;rw [List.take_length] at hx;simp [h x hx]
  intro x hx;simp at hx
 |some k=>
  obtain ⟨hk,hp,hb⟩:=List.findIdx?_eq_some_iff_getElem.1 h
  refine ⟨Nat.le_of_lt hk,?_,?_⟩
  ·intro x hx
   obtain ⟨j,hj⟩:=List.getElem?_of_mem hx
   simp only [List.getElem?_take] at hj
   by_cases g:j<k
   ·rw [if_pos g] at hj
    have:=hb j g
    rw [List.getElem?_eq_getElem (by omega)] at hj
    cases hj;simpa using this
   rw [if_neg g] at hj;cases hj
  intro x hx
  simp only at hx
  rw [List.getElem?_eq_getElem hk] at hx;cases hx;exact hp
theorem GK {l:List cj} (ha:yz l) {e:cj} (hn:∀x∈l,x.id≠e.id):yz (l.take (uO l e)++e::l.drop (uO l e)):=by
 obtain ⟨h1,h2,h3⟩:=PA l e
 have hsp:yz (l.take (uO l e)++l.drop (uO l e)):=by rw [List.take_append_drop];exact ha
 rw [yz,List.pairwise_append] at hsp ⊢
 obtain ⟨a1,a2,a3⟩:=hsp
 have hb:∀x∈l.take (uO l e),bG x e=true:=fun x hx=>AA (a:=e) (by have:=hn x (List.mem_of_mem_take hx);exact fun g=>this g.symm) (h2 x hx)
 have hc:∀x∈l.drop (uO l e),bG e x=true:=by
  cases hd:l.drop (uO l e) with
  |nil=>intro x hx;cases hx
  |cons y r=>
   have hy:l[uO l e]?=some y:=by
    have:(l.drop (uO l e))[0]?=some y:=by rw [hd];rfl
    rw [List.getElem?_drop,Nat.add_zero] at this;exact this
   have g:=h3 y hy
   intro x hx
   rcases List.mem_cons.1 hx with rfl|hx
   ·exact g
   rw [hd,List.pairwise_cons] at a2
   exact oP g (a2.1 x hx)
 refine ⟨a1,List.pairwise_cons.2 ⟨hc,a2⟩,?_⟩
 intro x hx y hy
 rcases List.mem_cons.1 hy with rfl|hy
 ·exact hb x hx
 exact a3 x hx y hy
theorem GL {l:List cj} {k:Nat} {x y:cj}:y∈l.take k++x::l.drop k↔y∈l∨y=x:=by
 conv=>rhs;rw [←List.take_append_drop k l]
 simp only [List.mem_append,List.mem_cons]
 constructor
 ·rintro (h|h|h)
  ·exact .inl (.inl h)
  ·exact .inr h
  exact .inl (.inr h)
 rintro ((h|h)|h)
 ·exact .inl h
 ·exact .inr (.inr h)
 exact .inr (.inl h)
theorem GM {l:List cj} (hi:Az l) {e:cj} (hn:∀x∈l,x.id≠e.id) (k:Nat):Az (l.take k++e::l.drop k):=by
 have hsp:Az (l.take k++l.drop k):=by rw [List.take_append_drop];exact hi
 rw [Az,List.pairwise_append] at hsp ⊢
 obtain ⟨a1,a2,a3⟩:=hsp
 refine ⟨a1,List.pairwise_cons.2 ⟨fun x hx=>fun g=>hn x (List.mem_of_mem_drop hx) g.symm,a2⟩,?_⟩
 intro x hx y hy
 rcases List.mem_cons.1 hy with rfl|hy
 ·exact hn x (List.mem_of_mem_take hx)
 exact a3 x hx y hy
theorem Jo {l:List cj} {id:Int} (h:0≤nh l id):∃x∈l,x.id=id:=by
 rcases cF (rfl:nh l id=idxOf _ l) with ⟨h1,_⟩|⟨i,x,h1,_,h3,h4,_⟩
 ·omega
 exact ⟨x,List.mem_of_getElem? h3,by simpa using h4⟩
theorem qt (l:List cj) (e:cj):((jU l e).1=l∧(jU l e).2≠0∧(kQ e=true∨(∃x∈l,x.id=e.id)∨32≤l.length))∨
 (jU l e=(l.take (uO l e)++e::l.drop (uO l e),0)∧kQ e=false∧(∀x∈l,x.id≠e.id)∧l.length<32):=by
 unfold jU
 cases h1:kQ e with
 |true=>exact .inl ⟨rfl,by simp,.inl rfl⟩
 |false=>
  simp only [Bool.false_eq_true,if_false]
  by_cases h2:0≤nh l e.id
  ·rw [if_pos h2];exact .inl ⟨rfl,by simp,.inr (.inl (Jo h2))⟩
  rw [if_neg h2]
  by_cases h3:32≤l.length
  ·rw [if_pos h3];exact .inl ⟨rfl,by simp,.inr (.inr h3)⟩
  rw [if_neg h3]
  refine .inr ⟨rfl,by trivial,?_,by omega⟩
  intro x hx g
  refine h2 ?_
  rcases cF (rfl:nh l e.id=idxOf _ l) with ⟨_,h4,_⟩|⟨i,x,h4,_⟩
  ·rw [List.findIdx?_eq_none_iff] at h4;have:=h4 x hx;simp [g] at this
  omega
theorem erase_filter {l:List cj} (hi:Az l) {k:Nat} {x:cj} (hx:l[k]?=some x):l.eraseIdx k=l.filter fun y=>!decide (y.id=x.id):=by
 induction l generalizing k with
 |nil=>simp at hx
 |cons y r ih=>
  rw [Az,List.pairwise_cons] at hi
  cases k with
  |zero=>
   simp at hx;subst hx
   have:r.filter (fun z=>!decide (z.id=y.id))=r:=by
    rw [List.filter_eq_self];intro z hz;have:=hi.1 z hz;simp;exact fun g=>this g.symm
   simp [this]
  |succ k=>
   simp only [List.getElem?_cons_succ] at hx
   have hne:=hi.1 x (List.mem_of_getElem? hx)
   rw [List.eraseIdx_cons_succ,ih hi.2 hx]
   simp [hne]
theorem lB {l:List cj} (hi:Az l) (id:Int):(Ao l id).1=l.filter fun y=>!decide (y.id=id):=by
 unfold Ao
 cases h:l.findIdx? (fun x=>decide (x.id=id)) with
 |none=>
  rw [List.findIdx?_eq_none_iff] at h
  exact (List.filter_eq_self.2 fun x hx=>by simp [h x hx]).symm
 |some k=>
  obtain ⟨hk,hp,_⟩:=List.findIdx?_eq_some_iff_getElem.1 h
  simp only [decide_eq_true_eq] at hp
  show l.eraseIdx k=_
  rw [erase_filter hi (List.getElem?_eq_getElem hk),hp]
theorem Mw {l:List cj} (hi:Az l) {k:Nat} {x:cj} (hx:l[k]?=some x):nh l x.id=k:=by
 rcases cF (rfl:nh l x.id=idxOf _ l) with ⟨_,h2,_⟩|⟨i,y,h1,_,h3,h4,_⟩
 ·rw [List.findIdx?_eq_none_iff] at h2;have:=h2 x (List.mem_of_getElem? hx);simp at this
 rw [h1]
 simp only [decide_eq_true_eq] at h4
 obtain ⟨g1,rfl⟩:=List.getElem?_eq_some_iff.1 hx
 obtain ⟨g2,rfl⟩:=List.getElem?_eq_some_iff.1 h3
 rcases Nat.lt_trichotomy i k with g|g|g
 ·exact absurd h4 (List.pairwise_iff_getElem.1 hi i k g2 g1 g)
 ·rw [g]
 exact absurd h4.symm (List.pairwise_iff_getElem.1 hi k i g1 g2 g)
theorem AB {all:List cj} (hi:Az all) (hw:∀q∈all,kQ q=false):∀(r:List cj) (k:Nat) (q:Option cj),all.drop k=r→yz r→(∀p,q=some p→∀x∈r,bG p x=true)→yO all q k r=true
 |[],_,_,_,_,_=>rfl
 |e::r,k,q,hd,ha,hq=>by
  rw [yz,List.pairwise_cons] at ha
  have he:all[k]?=some e:=by
   have:(all.drop k)[0]?=some e:=by rw [hd];rfl
   rw [List.getElem?_drop,Nat.add_zero] at this;exact this
  have h1:=hw e (List.mem_of_getElem? he)
  have h2:=Mw hi he
  have h3:Xu q e=true:=by
   cases q with
   |none=>rfl
   |some p=>exact hq p rfl e (by simp)
  have h4:all.drop (k+1)=r:=by rw [←List.drop_drop,hd];rfl
  unfold yO
  rw [h1,h2,h3,AB hi hw r (k+1) (some e) h4 ha.2 (fun p hp x hx=>by cases hp;exact ha.1 x hx)]
  simp
theorem Mx {l:List cj} (hi:Az l) (ha:yz l) (hw:∀q∈l,kQ q=false) (hl:l.length≤32):DY l=true:=by
 unfold DY
 rw [AB hi hw l 0 none (by simp) ha (fun p hp=>by cases hp)]
 simpa using hl
theorem tn (m:List iv) (j c i:Int):mj (gx m j c) i=if i=j then c else mj m i:=by
 induction m with
 |nil=>
  simp only [gx,mj,List.find?_cons,List.find?_nil]
  by_cases h:i=j
  ·simp [h]
  have:¬j=i:=fun g=>h g.symm
  simp [h,this]
 |cons x m ih=>
  unfold mj at ih ⊢
  simp only [gx]
  by_cases h:j=x.bK
  ·simp only [if_pos h,List.find?_cons]
   by_cases g:i=j
   ·subst g;simp
   have h2:¬j=i:=fun e=>g e.symm
   have h3:¬x.bK=i:=fun e=>g (by rw [h,e])
   simp [g,h2,h3]
  simp only [if_neg h,List.find?_cons]
  by_cases g:x.bK=i
  ·have:¬i=j:=fun e=>h (by rw [←e,g])
   simp [g,this]
  simp only [g,decide_false]
  exact ih
theorem uV {m:List iv} (h:(m.map iv.bK).Nodup) (j c:Int):((gx m j c).map iv.bK).Nodup:=by
 rw [kJ];split
 ·exact h
 rename_i g
 rw [List.nodup_append]
 exact ⟨h,by simp,fun a ha b hb e=>g (by simp at hb;rw [←hb,←e];exact ha)⟩
theorem Jp {m:List iv} (h:(m.map iv.bK).Nodup) {x:iv} (hx:x∈m):mj m x.bK=x.cnt:=by
 induction m with
 |nil=>cases hx
 |cons y m ih=>
  rw [List.map_cons,List.nodup_cons] at h
  unfold mj at ih ⊢
  rw [List.find?_cons]
  rcases List.mem_cons.1 hx with rfl|hx
  ·simp
  have:¬y.bK=x.bK:=fun g=>h.1 (by rw [g];exact List.mem_map_of_mem hx)
  simp only [this,decide_false]
  exact ih h.2 hx
abbrev rS (id:Int) (ps:List Place):Nat:=(ps.filter fun x=>decide (x.bK=id)).length
theorem GN (id:Int) (x:Place) (ps:List Place):rS id (x::ps)=(if x.bK=id then 1 else 0)+rS id ps:=by
 unfold rS
 rw [List.filter_cons]
 by_cases h:x.bK=id
 ·simp [h];omega
 simp [h]
theorem uW (id:Int):∀(l:List Jb) (m:List iv),(l.Pairwise fun a b=>a.id<b.id)→(m.map iv.bK).Nodup→
 ((l.foldl (fun m j=>if j.runs then gx m j.id j.x.count else m) m).map iv.bK).Nodup∧
 mj (l.foldl (fun m j=>if j.runs then gx m j.id j.x.count else m) m) id=(match l.find? (fun j=>decide (j.id=id)&&j.runs) with|some j=>j.x.count|none=>mj m id)
 |[],m,_,h=>⟨h,rfl⟩
 |j::l,m,ha,h=>by
  rw [List.pairwise_cons] at ha
  rw [List.foldl_cons]
  by_cases hr:j.runs=true
  ·rw [if_pos hr]
   obtain ⟨a1,a2⟩:=uW id l (gx m j.id j.x.count) ha.2 (uV h _ _)
   refine ⟨a1,?_⟩
   rw [a2,List.find?_cons]
   by_cases g:j.id=id
   ·have hno:l.find? (fun j=>decide (j.id=id)&&j.runs)=none:=by
     rw [List.find?_eq_none];intro x hx;have:=ha.1 x hx
     simp;intro e;omega
    rw [hno,tn]
    simp [g,hr]
   simp only [g,decide_false,Bool.false_and]
   cases l.find? (fun j=>decide (j.id=id)&&j.runs) with
   |some j=>rfl
   |none=>simp only;rw [tn,if_neg (fun e=>g e.symm)]
  rw [if_neg hr]
  obtain ⟨a1,a2⟩:=uW id l m ha.2 h
  refine ⟨a1,?_⟩
  rw [a2,List.find?_cons]
  simp [hr]
theorem uX {l:List Jb}:∀(ps:List Place) (m:List iv),(m.map iv.bK).Nodup→(∀x∈ps,x.v=(bI l x.bK).1.x.gu)→(∀id,mj m id=(rS id ps:Int))→
 ∃m',yR l ps m=some m'∧m'.all (fun x=>decide (x.cnt=0))=true
 |[],m,hn,_,hc=>⟨m,rfl,by
  rw [List.all_eq_true];intro x hx
  have:=hc x.bK;rw [Jp hn hx] at this;simpa [rS] using this⟩
 |x::ps,m,hn,hv,hc=>by
  have h1:=hc x.bK
  rw [GN,if_pos rfl] at h1
  unfold yR
  rw [if_neg (by omega),if_neg (by have:=hv x (by simp);simp [this])]
  refine uX ps _ (uV hn _ _) (fun y hy=>hv y (by simp [hy])) fun id=>?_
  rw [tn]
  have h2:=hc id
  rw [GN] at h2
  by_cases g:id=x.bK
  ·subst g;rw [if_pos rfl];omega
  rw [if_neg g,h2,if_neg (fun e=>g e.symm)];omega
theorem xU (l:List Node) (bK:Int) (v:bO):∀(names:List aQ) (ps:List Place),(fD l bK v names ps).1=none→(fD l bK v names ps).2=ps++names.map (fun n=>⟨bK,n,v⟩)∧∀n∈names,(eC n l).2=true∧(eC n l).1.up=true
 |[],ps,_=>by simp [fD]
 |n::r,ps,g=>by
  unfold fD at g ⊢
  split
  ·rename_i h1;rw [if_pos h1] at g;cases g
  rename_i h1
  rw [if_neg h1] at g
  obtain ⟨a,b⟩:=xU l bK v r _ g
  refine ⟨by rw [a];simp,?_⟩
  intro m hm
  rcases List.mem_cons.1 hm with rfl|hm
  ·have h0:mQ m v l ps=0:=by omega
   exact ⟨(tc h0).1,(tc h0).2.1⟩
  exact b m hm
theorem xV (l:List Node) (bK:Int) (v:bO):∀(names:List aQ) (ps:List Place) (e:Int),(fD l bK v names ps).1=some e→e≠0
 |[],ps,e,g=>by cases g
 |n::r,ps,e,g=>by
  unfold fD at g
  split at g
  ·cases g;assumption
  exact xV l bK v r _ e g
theorem AD (p:cC) (bK:Int) (names:List aQ) (v:bO):((sZ p bK names v).1=p∧(sZ p bK names v).2≠0)∨
 ((sZ p bK names v)=(⟨p.nodes,p.places++names.map (fun n=>⟨bK,n,v⟩)⟩,0)∧∀n∈names,(eC n p.nodes).2=true∧(eC n p.nodes).1.up=true):=by
 unfold sZ
 split
 ·rename_i e he;exact .inl ⟨rfl,xV _ _ _ _ _ _ he⟩
 rename_i he
 obtain ⟨a,b⟩:=xU _ _ _ _ _ he
 exact .inr ⟨by rw [a],b⟩
theorem GO {p:cC} (h:p.ok) (hw:p.w) (bK:Int):(qo p bK).ok∧(qo p bK).w:=⟨Sk h hw _,UX hw _⟩
theorem GP (p:cC) (ha:Ja p.nodes) (name:aQ) (up:Bool):((fj p name up)=(p,7)∧(eC name p.nodes).2=false)∨
 (∃i x,p.nodes[i]?=some x∧x.name=name∧eC name p.nodes=(x,true)∧((x.up=up∧fj p name up=(p,15))∨(x.up=!up∧fj p name up=(⟨p.nodes.set i {x with up:=up},p.places⟩,0)))):=by
 rcases cF (p:=fun x:Node=>decide (x.name=name)) (l:=p.nodes) rfl with ⟨_,h1,h2⟩|⟨i,x,_,hi,hx,hp,h1,h2⟩
 ·refine .inl ⟨by unfold fj;rw [h1,h2],by unfold eC;rw [h2]⟩
 simp only [decide_eq_true_eq] at hp
 refine .inr ⟨i,x,hx,hp,by unfold eC;rw [h2],?_⟩
 by_cases hu:x.up=up
 ·exact .inl ⟨hu,by unfold fj;rw [h1,h2];simp [hu]⟩
 refine .inr ⟨by cases h:x.up<;>cases up<;>simp_all,by unfold fj;rw [h1,h2];simp [hu]⟩
def eP (p:cC):List bT:=p.nodes.filterMap (nM p.nodes p.places)
theorem dh {x:Ask}:eO x=0↔nj x.path x.path=true∧(1≤x.count∧x.count≤8)∧(0≤x.prio∧x.prio≤9)∧(1≤x.fG∧x.fG≤100)∧An x.ct=true∧(cU x).2=true:=by
 unfold eO
 have e:(!Ri x.count 1 8||!Ri x.prio 0 9||!Ri x.fG 1 100)=!decide ((1≤x.count∧x.count≤8)∧(0≤x.prio∧x.prio≤9)∧(1≤x.fG∧x.fG≤100)):=by
  unfold Ri
  by_cases h1:1≤x.count<;>by_cases h2:x.count≤8<;>by_cases h3:0≤x.prio<;>by_cases h4:x.prio≤9<;>by_cases h5:1≤x.fG<;>by_cases h6:x.fG≤100<;>simp [h1,h2,h3,h4,h5,h6]
 rw [e]
 by_cases h1:nj x.path x.path=true
 ·by_cases h2:(1≤x.count∧x.count≤8)∧(0≤x.prio∧x.prio≤9)∧(1≤x.fG∧x.fG≤100)
  ·by_cases h3:An x.ct=true
   ·by_cases h4:(cU x).2=true
    ·simp [h1,h2,h3,h4]
    simp [h1,h2,h3,h4]
   simp [h1,h2,h3]
  simp only [h2,decide_false]
  simp only [h1,Bool.not_true,Bool.false_eq_true,if_false,Bool.not_false,if_true]
  constructor
  ·intro h;cases h
  rintro ⟨_,a,b,c,_⟩;exact absurd ⟨a,b,c⟩ h2
 simp [h1]
theorem AE {t:List bw} {q:aQ}:(qn t q).2=true↔∃e∈t,e.path=q:=by
 unfold qn
 cases h:t.find? (fun e=>decide (e.path=q)) with
 |none=>
  rw [List.find?_eq_none] at h
  constructor
  ·intro g;cases g
  rintro ⟨e,he,g⟩;have:=h e he;simp [g] at this
 |some e=>
  have h1:=List.find?_some h
  exact ⟨fun _=>⟨e,List.mem_of_find?_eq_some h,by simpa using h1⟩,fun _=>rfl⟩
theorem AF {t:List bw} {p:aQ}:jE t p=true↔∀q∈above p,∃e∈t,e.path=q:=by
 unfold jE
 rw [Bool.not_eq_true',List.any_eq_false]
 simp only [List.mem_append,List.mem_singleton]
 constructor
 ·intro h q hq
  have:=h q (by rcases List.mem_cons.1 hq with g|g;exact .inr g;exact .inl g)
  exact AE.1 (by simpa using this)
 intro h q hq
 have:=AE.2 (h q (by rcases hq with g|g;exact List.mem_cons_of_mem _ g;rw [g];exact CP p))
 simp [this]
theorem jG {t u:List bw} (h:cg t u) {p:aQ} (hs:jE t p=true):jE u p=true:=by
 rw [AF] at hs ⊢
 intro q hq
 obtain ⟨e,he,rfl⟩:=hs q hq
 exact h.mem he
abbrev rT (l:List Jb):Prop:=l.Pairwise (fun a b=>a.id<b.id)
theorem uY {l:List Jb} (ha:rT l) {i k:Nat} {x y:Jb} (hx:l[i]?=some x) (hy:l[k]?=some y) (e:x.id=y.id):i=k:=by
 obtain ⟨hi,rfl⟩:=List.getElem?_eq_some_iff.1 hx
 obtain ⟨hk,rfl⟩:=List.getElem?_eq_some_iff.1 hy
 rcases Nat.lt_trichotomy i k with g|g|g
 ·have:=List.pairwise_iff_getElem.1 ha i k hi hk g;omega
 ·exact g
 have:=List.pairwise_iff_getElem.1 ha k i hk hi g;omega
theorem c6 {l:List Jb} (ha:rT l) {x y:Jb} (hx:x∈l) (hy:y∈l) (e:x.id=y.id):x=y:=by
 obtain ⟨i,hi⟩:=List.getElem?_of_mem hx
 obtain ⟨j,hj⟩:=List.getElem?_of_mem hy
 have:=uY ha hi hj e
 subst this;rw [hi] at hj;exact Option.some.inj hj
theorem AG {l:List Jb} (ha:rT l) {k:Nat} {j x:Jb} (hj:l[k]?=some j) {y:Jb}:y∈l.set k x↔y=x∨(y∈l∧y.id≠j.id):=by
 have hk:=(List.getElem?_eq_some_iff.1 hj).1
 constructor
 ·intro h
  obtain ⟨i,hi⟩:=List.getElem?_of_mem h
  by_cases e:k=i
  ·subst e;rw [List.getElem?_set_self hk] at hi;cases hi;exact .inl rfl
  rw [List.getElem?_set_ne e] at hi
  exact .inr ⟨List.mem_of_getElem? hi,fun g=>e (uY ha hj hi g.symm)⟩
 rintro (rfl|⟨h,g⟩)
 ·exact List.mem_of_getElem? (List.getElem?_set_self hk)
 obtain ⟨i,hi⟩:=List.getElem?_of_mem h
 have e:k≠i:=by rintro rfl;rw [hi] at hj;cases hj;exact g rfl
 exact List.mem_of_getElem? (i:=i) (by rw [List.getElem?_set_ne e];exact hi)
theorem PB {l:List Jb} (ha:rT l) {k:Nat} {j:Jb} (hj:l[k]?=some j):l.eraseIdx k=l.filter fun y=>!decide (y.id=j.id):=by
 induction l generalizing k with
 |nil=>simp at hj
 |cons y r ih=>
  rw [rT,List.pairwise_cons] at ha
  cases k with
  |zero=>
   simp at hj;subst hj
   have:r.filter (fun z=>!decide (z.id=y.id))=r:=by
    rw [List.filter_eq_self];intro z hz;have:=ha.1 z hz;simp;omega
   simp [this]
  |succ k=>
   simp only [List.getElem?_cons_succ] at hj
   have hne:¬y.id=j.id:=by have:=ha.1 j (List.mem_of_getElem? hj);omega
   rw [List.eraseIdx_cons_succ,ih ha.2 hj]
   simp [hne]
theorem Jq {l:List Jb} (ha:rT l) {k:Nat} {j:Jb} (hj:l[k]?=some j) {y:Jb}:y∈l.eraseIdx k↔y∈l∧y.id≠j.id:=by
 rw [PB ha hj,List.mem_filter];simp
theorem uZ {l:List Jb} (ha:rT l) {k:Nat} {j x:Jb} (hj:l[k]?=some j) (e:x.id=j.id):rT (l.set k x):=by
 have h1:(l.set k x).map (·.id)=l.map (·.id):=by
  rw [List.map_set,e]
  have hk:=(List.getElem?_eq_some_iff.1 hj).1
  refine List.ext_getElem? fun i=>?_
  by_cases g:k=i
  ·subst g;rw [List.getElem?_set_self (by simpa using hk),List.getElem?_map,hj];rfl
  rw [List.getElem?_set_ne g]
 have h2:(l.map (·.id)).Pairwise (·<·):=List.pairwise_map.2 ha
 rw [←h1] at h2
 exact List.pairwise_map.1 h2
theorem u7 (k:Nat) (p:aQ):∀{l:List Jb} {i:Nat} {j:Jb} (x:Jb),l[i]?=some j→gQ k p (l.set i x)+fO k p j=gQ k p l+fO k p x
 |[],_,_,_,h=>by simp at h
 |y::r,0,j,x,h=>by simp at h;subst h;simp only [List.set_cons_zero,gv];omega
 |y::r,i+1,j,x,h=>by
  simp only [List.getElem?_cons_succ] at h
  have:=u7 k p x h
  simp only [List.set_cons_succ,gv];omega
theorem tq (k:Nat) (p:aQ):∀{l:List Jb} {i:Nat} {j:Jb},l[i]?=some j→gQ k p (l.eraseIdx i)+fO k p j=gQ k p l
 |[],_,_,h=>by simp at h
 |y::r,0,j,h=>by simp at h;subst h;simp only [List.eraseIdx_cons_zero,gv];omega
 |y::r,i+1,j,h=>by
  simp only [List.getElem?_cons_succ] at h
  have:=tq k p h
  simp only [List.eraseIdx_cons_succ,gv];omega
theorem My (k:Nat) (p:aQ) (l:List Jb) (x:Jb):gQ k p (l++[x])=gQ k p l+fO k p x:=by simp [gQ]
theorem Sr (k:Nat) (p:aQ) {l:List Jb} {j:Jb} (h:j∈l):fO k p j≤gQ k p l:=by
 induction l with
 |nil=>cases h
 |cons y r ih=>
  rw [gv]
  rcases List.mem_cons.1 h with rfl|h
  ·omega
  have:=ih h;omega
theorem nt {l:List Jb} {id:Int} {k:Nat} (h:l.findIdx? (fun j=>decide (j.id=id))=some k):∃j,l[k]?=some j∧j.id=id∧l.getD k Jb.zero=j:=by
 obtain ⟨hk,hp,_⟩:=List.findIdx?_eq_some_iff_getElem.1 h
 refine ⟨l[k],List.getElem?_eq_getElem hk,by simpa using hp,?_⟩
 rw [List.getD_eq_getElem?_getD,List.getElem?_eq_getElem hk];rfl
structure bg.ok (s:bg):Prop where
 bf:s.bf.ok
 gR:s.bf.w
 tree:Tree.ok s.tree
 used:∀e∈s.tree,∀k<4,vk k e.used=gQ k e.path s.av
 most:s.av.length≤32
 next:1≤s.next∧s.next<18446744073709551616
 ids:rT s.av
 u9:∀j∈s.av,1≤j.id∧j.id<s.next
 pe:∀j∈s.av,eO j.x=0∧j.x.gu.w∧jE s.tree j.x.path=true
 left:∀j∈s.av,(j.runs=true→1≤j.left∧j.left≤j.x.fG)∧(j.runs=false→j.left=0)
 iJ:yz s.queue
 kK:Az s.queue
 gy:∀q,q∈s.queue↔∃j∈s.av,j.runs=false∧q=⟨j.id,j.x.prio⟩
 places:∀x∈s.bf.places,∃j∈s.av,j.runs=true∧j.id=x.bK∧x.v=j.x.gu
 count:∀j∈s.av,j.runs=true→(rS j.id s.bf.places:Int)=j.x.count
 notes:s.ev.l.length≤32∧s.au.l.length≤32
theorem Jr {l:List Jb} (ha:rT l) (f:Jb→cj) (hf:∀j,(f j).id=j.id):(l.map f).Nodup:=by
 rw [List.nodup_iff_pairwise_ne,List.pairwise_map]
 exact ha.imp fun {a b} h e=>by have:=congrArg cj.id e;rw [hf,hf] at this;omega
theorem bg.ok.U1 {s:bg} (h:s.ok):s.queue.length=wk s.av:=by
 have h1:(((s.av.filter fun j=>!j.runs).map fun j=>(⟨j.id,j.x.prio⟩:cj))).Nodup:=Jr (h.ids.filter _) _ (fun _=>rfl)
 have h2:s.queue.Nodup:=by rw [List.nodup_iff_pairwise_ne];exact h.kK.imp fun {a b} g e=>g (by rw [e])
 have:=((List.perm_ext_iff_of_nodup h2 h1).2 fun q=>by
  rw [h.gy q,List.mem_map]
  constructor
  ·rintro ⟨j,a,b,c⟩;exact ⟨j,List.mem_filter.2 ⟨a,by simp [b]⟩,c.symm⟩
  rintro ⟨j,a,c⟩;obtain ⟨a1,a2⟩:=List.mem_filter.1 a;exact ⟨j,a1,by simpa using a2,c.symm⟩).length_eq
 rw [this,lgM];rfl
theorem GQ {s:bg} (h:s.ok):∀(r:List Jb) (q:Option Int),(∀j∈r,j∈s.av)→rT r→(∀p,q=some p→∀j∈r,p<j.id)→GI s q r=true
 |[],_,_,_,_=>rfl
 |j::r,q,hm,ha,hq=>by
  rw [rT,List.pairwise_cons] at ha
  have hj:=hm j (by simp)
  obtain ⟨a1,a2⟩:=h.u9 j hj
  obtain ⟨b1,_,b3⟩:=h.pe j hj
  have key:(if j.runs then decide (1≤j.left)&&decide (j.left≤j.x.fG) else decide (j.left=0)&&s.queue.contains ⟨j.id,j.x.prio⟩)=true:=by
   obtain ⟨c1,c2⟩:=h.left j hj
   cases hr:j.runs with
   |true=>have:=c1 hr;simp;exact this
   |false=>
    have hc:s.queue.contains ⟨j.id,j.x.prio⟩=true:=by rw [List.contains_iff_mem];exact (h.gy _).2 ⟨j,hj,hr,rfl⟩
    simp only [Bool.false_eq_true,if_false,hc,c2 hr];simp
  have h1:Xw s q j=true:=by
   unfold Xw
   cases q with
   |none=>rw [if_neg (by omega),if_neg (by omega),if_neg (by simp),if_neg (by simp [b1]),b3,if_neg (by simp),key]
   |some p=>rw [if_neg (by omega),if_neg (by omega),if_neg (by have:=hq p rfl j (by simp);simp;omega),if_neg (by simp [b1]),b3,if_neg (by simp),key]
  unfold GI
  rw [h1,GQ h r (some j.id) (fun x hx=>hm x (by simp [hx])) ha.2 (fun p hp x hx=>by cases hp;exact ha.1 x hx)];rfl
theorem bg.ok.right {s:bg} (h:s.ok):yS s=true:=by
 have h1:DW s.bf=true:=Jc.2 h.bf
 have h2:D4 s.tree=true:=Jn h.tree fun e he k hk=>by
  rw [h.used e he k hk];exact Sq h.tree.xM (fun x hx=>h.used x hx k hk) e.path
 have hq:=h.U1
 have hw:wk s.av≤s.av.length:=List.length_filter_le _ _
 have hm:=h.most
 have h3:DY s.queue=true:=by
  refine Mx h.kK h.iJ ?_ (by omega)
  intro q hq
  obtain ⟨j,hj,_,rfl⟩:=(h.gy q).1 hq
  obtain ⟨_,_,hp,_⟩:=dh.1 (h.pe j hj).1
  simp [kQ];omega
 have h4:GI s none s.av=true:=GQ h s.av none (fun j hj=>hj) h.ids (fun p hp=>by cases hp)
 have h5:Eb s=true:=by
  have hn:=uW 0 s.av [] h.ids (by simp)
  obtain ⟨m,a1,a2⟩:=uX (l:=s.av) s.bf.places (Pw s.av) hn.1 (fun x hx=>by
   obtain ⟨j,hj,_,g2,g3⟩:=h.places x hx
   have:(bI s.av x.bK).1=j:=by
    unfold bI
    cases hf:s.av.find? (fun j=>decide (j.id=x.bK)) with
    |none=>rw [List.find?_eq_none] at hf;have:=hf j hj;simp [g2] at this
    |some y=>
     have e:=List.find?_some hf
     simp only [decide_eq_true_eq] at e
     exact c6 h.ids (List.mem_of_find?_eq_some hf) hj (by rw [e,g2])
   rw [this,g3]) (fun id=>by
   rw [Pw,(uW id s.av [] h.ids (by simp)).2]
   cases hf:s.av.find? (fun j=>decide (j.id=id)&&j.runs) with
   |some j=>
    have e:=List.find?_some hf
    simp only [Bool.and_eq_true,decide_eq_true_eq] at e
    have hj:=List.mem_of_find?_eq_some hf
    have:=h.count j hj e.2
    rw [e.1] at this
    exact this.symm
   |none=>
    rw [List.find?_eq_none] at hf
    have:rS id s.bf.places=0:=by
     unfold rS
     rw [List.length_eq_zero_iff,List.filter_eq_nil_iff]
     intro x hx g
     obtain ⟨j,hj,g1,g2,_⟩:=h.places x hx
     have:=hf j hj
     simp only [decide_eq_true_eq] at g
     simp [g2,g,g1] at this
    rw [this];rfl)
  unfold Eb;rw [a1];exact a2
 have h6:(s.tree.any fun e=>!Lg s e)=false:=by
  rw [List.any_eq_false];intro e he
  rw [Pz (h.tree.w e he).2 (fun j hj _=>(dh.1 (h.pe j hj).1).2.2.2.2.2) (h.used e he)];simp
 have h7:=h.notes
 have h8:=h.next
 unfold yS
 rw [h1,h2,h3,h4,h5,h6]
 simp only [Bool.not_true,Bool.false_eq_true,if_false]
 rw [if_neg (by omega),if_neg (by omega),if_neg (by omega)]
 simp [hq]
theorem PC {x:BS} (h:x.l.length≤32) (n:dW):(tell x n).l.length≤32:=by
 unfold tell
 by_cases g:32<(x.l++[n]).length
 ·rw [if_pos g];simp;omega
 rw [if_neg g];simp only at*;omega
theorem bg.ok.event {s:bg} (h:s.ok) (id kind:Int):(iI s id kind).ok:=
 {h with notes:=⟨PC h.notes.1 _,h.notes.2⟩}
theorem Mz {x:Ask} (h:eO x=0) (id:Int):kQ ⟨id,x.prio⟩=false:=by
 obtain ⟨_,_,hp,_⟩:=dh.1 h
 simp [kQ];omega
theorem Js {x:Ask} (h:eO x=0):named x.path=true:=by
 unfold named;rw [(dh.1 h).1];simp
theorem bg.ok.cW {s:bg} (h:s.ok) {x:Ask} (hx:x.gu.w):(cW s x).1.ok:=by
 unfold Dem.cW
 by_cases h1:eO x≠0
 ·rw [if_pos h1];exact h
 rw [if_neg h1];simp only [Decidable.not_not] at h1
 by_cases h2:(!jE s.tree x.path)=true
 ·rw [if_pos h2];exact h
 rw [if_neg h2]
 by_cases h3:32≤s.av.length∨s.next=18446744073709551615
 ·rw [if_pos h3];exact h
 rw [if_neg h3]
 have hnx:=h.next
 rcases qt s.queue ⟨s.next,x.prio⟩ with ⟨_,e2,_⟩|⟨e,_,hno,_⟩
 ·rw [if_pos e2];exact h
 rw [e]
 rw [if_neg (by simp)]
 have hu:u64 (s.next+1)=s.next+1:=by unfold u64;omega
 have hn:fO=fO:=rfl
 refine bg.ok.event (s:=⟨s.round,u64 (s.next+1),s.bf,s.tree,s.av++[⟨s.next,x,false,0⟩],_,s.ev,s.au⟩) ?_ _ _
 rw [hu]
 have hm:∀j,j∈s.av++[(⟨s.next,x,false,0⟩:Jb)]↔j∈s.av∨j=⟨s.next,x,false,0⟩:=fun j=>by simp
 exact {
  bf:=h.bf,gR:=h.gR,tree:=h.tree,notes:=h.notes
  used:=fun e he k hk=>by rw [h.used e he k hk];simp only [My];simp [fO]
  most:=by simp only [List.length_append,List.length_singleton];omega
  next:=by simp only;omega
  ids:=by
   rw [rT,List.pairwise_append]
   refine ⟨h.ids,by simp,fun a ha b hb=>?_⟩
   simp at hb;subst hb;exact (h.u9 a ha).2
  u9:=fun j hj=>by
   rcases (hm j).1 hj with g|rfl
   ·have:=h.u9 j g;simp only;omega
   simp only;omega
  pe:=fun j hj=>by
   rcases (hm j).1 hj with g|rfl
   ·exact h.pe j g
   exact ⟨h1,hx,by simpa using h2⟩
  left:=fun j hj=>by
   rcases (hm j).1 hj with g|rfl
   ·exact h.left j g
   exact ⟨fun g=>(by cases g),fun _=>rfl⟩
  iJ:=GK h.iJ hno
  kK:=GM h.kK hno _
  gy:=fun q=>by
   show q∈List.take _ s.queue++_::List.drop _ s.queue↔_
   rw [GL,h.gy q]
   constructor
   ·rintro (⟨j,a,b,c⟩|rfl)
    ·exact ⟨j,(hm j).2 (.inl a),b,c⟩
    exact ⟨_,(hm _).2 (.inr rfl),rfl,rfl⟩
   rintro ⟨j,a,b,c⟩
   rcases (hm j).1 a with g|rfl
   ·exact .inl ⟨j,g,b,c⟩
   exact .inr c
  places:=fun y hy=>by
   obtain ⟨j,a,b⟩:=h.places y hy
   exact ⟨j,(hm j).2 (.inl a),b⟩
  count:=fun j hj hr=>by
   rcases (hm j).1 hj with g|rfl
   ·exact h.count j g hr
   cases hr}
theorem CR {s:bg} (h:s.ok) {p:aQ} {v:bO} (hc:(cY s.tree p v).2=0):
 Tree.ok (cY s.tree p v).1∧cg s.tree (cY s.tree p v).1∧∀e∈(cY s.tree p v).1,∀k<4,vk k e.used=gQ k e.path s.av+if e.path∈above p then vk k v else 0:=by
 unfold cY at*
 rcases qq (fJ v) h.tree.xM p with ⟨_,e2,_⟩|⟨e,_,_,hf⟩
 ·exact absurd hc e2
 rw [e]
 have hk:cg s.tree (uS (fJ v) (above p) s.tree):=Ax fun e he hp=>by rw [xS (hf e he hp)];exact ⟨rfl,rfl⟩
 have hv:∀x∈uS (fJ v) (above p) s.tree,x.used.w∧(∀k<4,vk k x.used≤vk k x.eU)∧∀k<4,vk k x.used=gQ k x.path s.av+if x.path∈above p then vk k v else 0:=by
  intro x hx
  obtain ⟨e,he,rfl⟩:=List.mem_map.1 hx
  by_cases hp:e.path∈above p
  ·rw [if_pos hp]
   have h0:=hf e he hp
   obtain ⟨c1,c2⟩:=oN.1 h0
   rw [xS h0]
   refine ⟨Jl c1,mo.1 c2,fun k hk=>?_⟩
   simp only
   rw [oL c1 hk,h.used e he k hk,if_pos hp]
  rw [if_neg hp]
  exact ⟨(h.tree.w e he).2,h.tree.fits e he,fun k hk=>by rw [h.used e he k hk,if_neg hp];rfl⟩
 exact ⟨hk.ok h.tree (fun e he=>(hv e he).2.1) (fun e he=>(hv e he).1),hk,fun e he=>(hv e he).2.2⟩
theorem nS {s:bg} (h:s.ok) {i:Nat} {j:Jb} (hj:s.av[i]?=some j) (hr:j.runs=true):
 rC s.tree j.x.path j.tot=(uS (eE j.tot) (above j.x.path) s.tree,0)∧
 Tree.ok (uS (eE j.tot) (above j.x.path) s.tree)∧cg s.tree (uS (eE j.tot) (above j.x.path) s.tree)∧∀e∈uS (eE j.tot) (above j.x.path) s.tree,∀k<4,vk k e.used+fO k e.path j=gQ k e.path s.av:=by
 have hm:=List.mem_of_getElem? hj
 obtain ⟨g1,g2,g3⟩:=h.pe j hm
 have hs:∀e∈s.tree,e.path∈above j.x.path→(dV e.used j.tot).2=true:=fun e he hp=>mR.2 fun k hk=>by
  have:=Sr k e.path hm
  rw [←h.used e he k hk] at this
  rw [fO,if_pos ⟨hr,hp⟩] at this
  exact this
 have hz:∀e∈s.tree,e.path∈above j.x.path→(eE j.tot e).2=0:=fun e he hp=>uU.2 (hs e he hp)
 have hk:cg s.tree (uS (eE j.tot) (above j.x.path) s.tree):=Ax fun e he hp=>by rw [xT (hz e he hp)];exact ⟨rfl,rfl⟩
 have hv:∀x∈uS (eE j.tot) (above j.x.path) s.tree,x.used.w∧(∀k<4,vk k x.used≤vk k x.eU)∧∀k<4,vk k x.used+fO k x.path j=gQ k x.path s.av:=by
  intro x hx
  obtain ⟨e,he,rfl⟩:=List.mem_map.1 hx
  by_cases hp:e.path∈above j.x.path
  ·rw [if_pos hp]
   have h0:=hs e he hp
   rw [xT (hz e he hp)]
   have Yv:=(h.tree.w e he).2
   refine ⟨Jf h0,fun k hk=>?_,fun k hk=>?_⟩
   ·simp only;rw [Ec Yv h0 hk];have:=h.tree.fits e he k hk;omega
   have h1:=mR.1 h0 k hk
   simp only;rw [Ec Yv h0 hk,fO,if_pos ⟨hr,hp⟩,←h.used e he k hk]
   unfold vk;omega
  rw [if_neg hp]
  exact ⟨(h.tree.w e he).2,h.tree.fits e he,fun k hk=>by rw [h.used e he k hk,fO,if_neg (fun g=>hp g.2)];rfl⟩
 refine ⟨?_,hk.ok h.tree (fun e he=>(hv e he).2.1) (fun e he=>(hv e he).1),hk,fun e he=>(hv e he).2.2⟩
 unfold rC
 rcases qq (eE j.tot) h.tree.xM j.x.path with ⟨_,_,e|⟨q,hq,e⟩|⟨y,hy,hp,e⟩⟩|⟨e,_⟩
 ·rw [Js g1] at e;cases e
 ·obtain ⟨z,hz,g⟩:=AF.1 g3 q hq;exact absurd g (e z hz)
 ·exact absurd (hz y hy hp) e
 exact e
theorem bg.ok.Li {s:bg} (h:s.ok) {j:Jb} (hj:j∈s.av) (hr:j.runs=false):∀x∈s.bf.places,x.bK≠j.id:=by
 intro x hx g
 obtain ⟨y,a,b,c,_⟩:=h.places x hx
 have:=c6 h.ids a hj (by rw [c,g])
 subst this;rw [hr] at b;cases b
theorem bg.ok.Ed {s:bg} (h:s.ok) {j:Jb} (hj:j∈s.av) (hr:j.runs=true):∀q∈s.queue,q.id≠j.id:=by
 intro q hq g
 obtain ⟨y,a,b,rfl⟩:=(h.gy q).1 hq
 have:=c6 h.ids a hj g
 subst this;rw [hr] at b;cases b
theorem Jt (id:Int) (a b:List Place):rS id (a++b)=rS id a+rS id b:=by simp [rS]
theorem PD (id bK:Int) (v:bO) (names:List aQ):rS id (names.map fun n=>(⟨bK,n,v⟩:Place))=if bK=id then names.length else 0:=by
 unfold rS
 by_cases h:bK=id
 ·rw [if_pos h,List.filter_eq_self.2 (by intro x hx;obtain ⟨n,_,rfl⟩:=List.mem_map.1 hx;simpa using h)];simp
 rw [if_neg h,List.filter_eq_nil_iff.2 (by intro x hx;obtain ⟨n,_,rfl⟩:=List.mem_map.1 hx;simpa using h)];rfl
theorem GR (id bK:Int) (ps:List Place):rS id (ps.filter fun x=>!decide (x.bK=bK))=if id=bK then 0 else rS id ps:=by
 unfold rS
 rw [List.filter_filter]
 by_cases h:id=bK
 ·rw [if_pos h,List.length_eq_zero_iff,List.filter_eq_nil_iff];intro x _;simp;intro g;omega
 rw [if_neg h];congr 1;refine List.filter_congr fun x _=>?_
 by_cases g:x.bK=id
 ·simp [g,h]
 simp [g]
theorem bg.ok.jF {s:bg} (h:s.ok) {i:Nat} {j:Jb} (hj:s.av[i]?=some j) (names:List aQ):(jF s i j j.id names).1.ok:=by
 have hm:=List.mem_of_getElem? hj
 obtain ⟨g1,g2,g3⟩:=h.pe j hm
 unfold Dem.jF
 by_cases h1:j.runs=true
 ·rw [if_pos h1];exact h
 rw [if_neg h1]
 by_cases h2:(names.length:Int)≠j.x.count
 ·rw [if_pos h2];exact h
 rw [if_neg h2]
 by_cases h3:(!(cU j.x).2)=true
 ·rw [if_pos h3];exact h
 rw [if_neg h3]
 by_cases h4:(cY s.tree j.x.path (cU j.x).1).2≠0
 ·rw [if_pos h4];exact h
 rw [if_neg h4]
 rcases AD s.bf j.id names j.x.gu with ⟨_,e2⟩|⟨e,_⟩
 ·rw [if_pos e2];exact h
 rw [if_neg (by rw [e];simp)]
 simp only [Decidable.not_not] at h2 h4
 have hrf:j.runs=false:=by simpa using h1
 obtain ⟨c1,c2,c3⟩:=CR h h4
 obtain ⟨p1,p2⟩:=UY h.bf h.gR j.id names g2
 rw [lB h.kK]
 rw [e] at p1 p2 ⊢
 refine bg.ok.event (s:=⟨s.round,s.next,_,_,s.av.set i {j with runs:=true,left:=j.x.fG},_,s.ev,s.au⟩) ?_ _ _
 have hs:∀y,y∈s.av.set i {j with runs:=true,left:=j.x.fG}↔y={j with runs:=true,left:=j.x.fG}∨(y∈s.av∧y.id≠j.id):=fun y=>AG h.ids hj
 obtain ⟨_,_,_,U2,_⟩:=dh.1 g1
 exact {
  bf:=p1,gR:=p2,tree:=c1,notes:=h.notes
  used:=fun e he k hk=>by
   have:=u7 k e.path {j with runs:=true,left:=j.x.fG} hj
   have t0:fO k e.path j=0:=by simp [fO,hrf]
   have t1:fO k e.path {j with runs:=true,left:=j.x.fG}=if e.path∈above j.x.path then vk k (cU j.x).1 else 0:=by simp [fO]
   rw [t0,t1] at this
   rw [c3 e he k hk];simp only;omega
  most:=by simp only [List.length_set];exact h.most
  next:=h.next
  ids:=uZ h.ids hj rfl
  u9:=fun y hy=>by rcases (hs y).1 hy with rfl|⟨g,_⟩;exact h.u9 j hm;exact h.u9 y g
  pe:=fun y hy=>by
   rcases (hs y).1 hy with rfl|⟨g,_⟩
   ·exact ⟨g1,g2,jG c2 g3⟩
   obtain ⟨a,b,c⟩:=h.pe y g;exact ⟨a,b,jG c2 c⟩
  left:=fun y hy=>by
   rcases (hs y).1 hy with rfl|⟨g,_⟩
   ·exact ⟨fun _=>⟨U2.1,Int.le_refl _⟩,fun g=>by cases g⟩
   exact h.left y g
  iJ:=h.iJ.filter _
  kK:=h.kK.filter _
  gy:=fun q=>by
   show q∈s.queue.filter _↔_
   rw [List.mem_filter,h.gy q]
   constructor
   ·rintro ⟨⟨y,a,b,rfl⟩,c⟩
    exact ⟨y,(hs y).2 (.inr ⟨a,by simpa using c⟩),b,rfl⟩
   rintro ⟨y,a,b,rfl⟩
   rcases (hs y).1 a with rfl|⟨g,g4⟩
   ·cases b
   exact ⟨⟨y,g,b,rfl⟩,by simpa using g4⟩
  places:=fun x hx=>by
   rcases List.mem_append.1 hx with g|g
   ·obtain ⟨y,a,b,c,d⟩:=h.places x g
    refine ⟨y,(hs y).2 (.inr ⟨a,fun e2=>?_⟩),b,c,d⟩
    have:=c6 h.ids a hm e2
    subst this;rw [hrf] at b;cases b
   obtain ⟨n,_,rfl⟩:=List.mem_map.1 g
   exact ⟨_,(hs _).2 (.inl rfl),rfl,rfl,rfl⟩
  count:=fun y hy hr=>by
   show ((rS y.id (s.bf.places++names.map fun n=>(⟨j.id,n,j.x.gu⟩:Place)):Nat):Int)=_
   rw [Jt,PD]
   rcases (hs y).1 hy with rfl|⟨g,g4⟩
   ·have:rS j.id s.bf.places=0:=by
     unfold rS;rw [List.length_eq_zero_iff,List.filter_eq_nil_iff];intro x hx;simpa using h.Li hm hrf x hx
    simp only [this];simp;exact h2
   rw [if_neg (fun e2=>g4 e2.symm),Nat.add_zero];exact h.count y g hr}
theorem bg.ok.wm {s:bg} (h:s.ok) (id:Int) (names:List aQ):(bZ s id names).1.ok:=by
 unfold bZ
 cases hf:s.av.findIdx? (fun j=>decide (j.id=id)) with
 |none=>exact h
 |some k=>
  obtain ⟨j,a,b,c⟩:=nt hf
  simp only
  rw [c,←b];exact h.jF a names
theorem bg.ok.jH {s:bg} (h:s.ok) {i:Nat} {j:Jb} (hj:s.av[i]?=some j) (hr:j.runs=true):
 mS s j=⟨s.round,s.next,qo s.bf j.id,uS (eE j.tot) (above j.x.path) s.tree,s.av,s.queue,s.ev,s.au⟩:=by
 have hm:=List.mem_of_getElem? hj
 unfold mS
 rw [if_pos (dh.1 (h.pe j hm).1).2.2.2.2.2,(nS h hj hr).1]
theorem bg.ok.U3 {s:bg} (h:s.ok) {j:Jb} (hm:j∈s.av) (hr:j.runs=true):
 jU s.queue ⟨j.id,j.x.prio⟩=(s.queue.take (uO s.queue ⟨j.id,j.x.prio⟩)++⟨j.id,j.x.prio⟩::s.queue.drop (uO s.queue ⟨j.id,j.x.prio⟩),0):=by
 rcases qt s.queue ⟨j.id,j.x.prio⟩ with ⟨_,_,e|⟨q,hq,e⟩|e⟩|⟨e,_⟩
 ·rw [Mz (h.pe j hm).1] at e;cases e
 ·exact absurd e (h.Ed hm hr q hq)
 ·have h1:=h.U1
  have h2:=h.most
  have h3:wk s.av<s.av.length:=by
   unfold wk
   exact List.length_filter_lt_length_iff_exists.2 ⟨j,hm,by simp [hr]⟩
  omega
 exact e
theorem bg.ok.stop {s:bg} (h:s.ok) (id kind:Int):(gB s id kind).1.ok:=by
 unfold gB
 cases hf:s.av.findIdx? (fun j=>decide (j.id=id)) with
 |none=>exact h
 |some i=>
  obtain ⟨j,hj,hid,c⟩:=nt hf
  simp only
  rw [c]
  by_cases h1:(!j.runs)=true
  ·rw [if_pos h1];exact h
  rw [if_neg h1]
  have hr:j.runs=true:=by simpa using h1
  have hm:=List.mem_of_getElem? hj
  obtain ⟨g1,g2,g3⟩:=h.pe j hm
  obtain ⟨_,c1,c2,c3⟩:=nS h hj hr
  rw [h.jH hj hr,←hid]
  simp only [CK]
  rw [h.U3 hm hr]
  obtain ⟨p1,p2⟩:=GO h.bf h.gR j.id
  refine bg.ok.event (s:=⟨s.round,s.next,_,_,s.av.set i {j with runs:=false,left:=0},_,s.ev,s.au⟩) ?_ _ _
  have hs:∀y,y∈s.av.set i {j with runs:=false,left:=0}↔y={j with runs:=false,left:=0}∨(y∈s.av∧y.id≠j.id):=fun y=>AG h.ids hj
  exact {
   bf:=p1,gR:=p2,tree:=c1,notes:=h.notes
   used:=fun e he k hk=>by
    have:=u7 k e.path {j with runs:=false,left:=0} hj
    have t1:fO k e.path {j with runs:=false,left:=0}=0:=by simp [fO]
    rw [t1] at this
    have:=c3 e he k hk;simp only;omega
   most:=by simp only [List.length_set];exact h.most
   next:=h.next
   ids:=uZ h.ids hj rfl
   u9:=fun y hy=>by rcases (hs y).1 hy with rfl|⟨g,_⟩;exact h.u9 j hm;exact h.u9 y g
   pe:=fun y hy=>by
    rcases (hs y).1 hy with rfl|⟨g,_⟩
    ·exact ⟨g1,g2,jG c2 g3⟩
    obtain ⟨a,b,c⟩:=h.pe y g;exact ⟨a,b,jG c2 c⟩
   left:=fun y hy=>by
    rcases (hs y).1 hy with rfl|⟨g,_⟩
    ·exact ⟨fun g=>(by cases g),fun _=>rfl⟩
    exact h.left y g
   iJ:=GK h.iJ (h.Ed hm hr)
   kK:=GM h.kK (h.Ed hm hr) _
   gy:=fun q=>by
    show q∈List.take _ s.queue++_::List.drop _ s.queue↔_
    rw [GL,h.gy q]
    constructor
    ·rintro (⟨y,a,b,rfl⟩|rfl)
     ·refine ⟨y,(hs y).2 (.inr ⟨a,fun e=>?_⟩),b,rfl⟩
      have:=c6 h.ids a hm e
      subst this;rw [hr] at b;cases b
     exact ⟨_,(hs _).2 (.inl rfl),rfl,rfl⟩
    rintro ⟨y,a,b,rfl⟩
    rcases (hs y).1 a with rfl|⟨g,g4⟩
    ·exact .inr rfl
    exact .inl ⟨y,g,b,rfl⟩
   places:=fun x hx=>by
    obtain ⟨hx1,NR⟩:=List.mem_filter.1 hx
    obtain ⟨y,a,b,c,d⟩:=h.places x hx1
    exact ⟨y,(hs y).2 (.inr ⟨a,by rw [c];simpa using NR⟩),b,c,d⟩
   count:=fun y hy hr=>by
    rcases (hs y).1 hy with rfl|⟨g,g4⟩
    ·cases hr
    show ((rS y.id (s.bf.places.filter fun x=>!decide (x.bK=j.id)):Nat):Int)=_
    rw [GR,if_neg g4];exact h.count y g hr}
theorem bg.ok.end_ {s:bg} (h:s.ok) (id kind:Int):(send s id kind).1.ok:=by
 unfold send
 cases hf:s.av.findIdx? (fun j=>decide (j.id=id)) with
 |none=>exact h
 |some i=>
  obtain ⟨j,hj,hid,c⟩:=nt hf
  simp only
  rw [c]
  have hm:=List.mem_of_getElem? hj
  have hs:∀y,y∈s.av.eraseIdx i↔y∈s.av∧y.id≠j.id:=fun y=>Jq h.ids hj
  have hlen:(s.av.eraseIdx i).length≤s.av.length:=by rw [List.length_eraseIdx];split<;>omega
  have hsub:(s.av.eraseIdx i).Sublist s.av:=List.eraseIdx_sublist _ _
  by_cases hr:j.runs=true
  ·rw [if_pos hr,h.jH hj hr]
   obtain ⟨_,c1,c2,c3⟩:=nS h hj hr
   obtain ⟨p1,p2⟩:=GO h.bf h.gR j.id
   refine bg.ok.event (s:=⟨s.round,s.next,_,_,s.av.eraseIdx i,s.queue,s.ev,s.au⟩) ?_ _ _
   exact {
    bf:=p1,gR:=p2,tree:=c1,notes:=h.notes
    used:=fun e he k hk=>by
     have:=tq k e.path hj
     have:=c3 e he k hk;simp only;omega
    most:=Nat.le_trans hlen h.most
    next:=h.next
    ids:=h.ids.sublist hsub
    u9:=fun y hy=>h.u9 y ((hs y).1 hy).1
    pe:=fun y hy=>by obtain ⟨a,b,c⟩:=h.pe y ((hs y).1 hy).1;exact ⟨a,b,jG c2 c⟩
    left:=fun y hy=>h.left y ((hs y).1 hy).1
    iJ:=h.iJ,kK:=h.kK
    gy:=fun q=>by
     rw [h.gy q]
     constructor
     ·rintro ⟨y,a,b,rfl⟩
      refine ⟨y,(hs y).2 ⟨a,fun e=>?_⟩,b,rfl⟩
      have:=c6 h.ids a hm e
      subst this;rw [hr] at b;cases b
     rintro ⟨y,a,b,rfl⟩;exact ⟨y,((hs y).1 a).1,b,rfl⟩
    places:=fun x hx=>by
     obtain ⟨hx1,NR⟩:=List.mem_filter.1 hx
     obtain ⟨y,a,b,c,d⟩:=h.places x hx1
     exact ⟨y,(hs y).2 ⟨a,by rw [c];simpa using NR⟩,b,c,d⟩
    count:=fun y hy hr=>by
     obtain ⟨g,g4⟩:=(hs y).1 hy
     show ((rS y.id (s.bf.places.filter fun x=>!decide (x.bK=j.id)):Nat):Int)=_
     rw [GR,if_neg g4];exact h.count y g hr}
  have hrf:j.runs=false:=by simpa using hr
  rw [if_neg hr,lB h.kK,←hid]
  refine bg.ok.event (s:=⟨s.round,s.next,s.bf,s.tree,s.av.eraseIdx i,_,s.ev,s.au⟩) ?_ _ _
  exact {
   bf:=h.bf,gR:=h.gR,tree:=h.tree,notes:=h.notes
   used:=fun e he k hk=>by
    have:=tq k e.path hj
    have t0:fO k e.path j=0:=by simp [fO,hrf]
    rw [h.used e he k hk];simp only;omega
   most:=Nat.le_trans hlen h.most
   next:=h.next
   ids:=h.ids.sublist hsub
   u9:=fun y hy=>h.u9 y ((hs y).1 hy).1
   pe:=fun y hy=>h.pe y ((hs y).1 hy).1
   left:=fun y hy=>h.left y ((hs y).1 hy).1
   iJ:=h.iJ.filter _
   kK:=h.kK.filter _
   gy:=fun q=>by
    show q∈s.queue.filter _↔_
    rw [List.mem_filter,h.gy q]
    constructor
    ·rintro ⟨⟨y,a,b,rfl⟩,c⟩
     exact ⟨y,(hs y).2 ⟨a,by simpa using c⟩,b,rfl⟩
    rintro ⟨y,a,b,rfl⟩
    obtain ⟨g,g4⟩:=(hs y).1 a
    exact ⟨⟨y,g,b,rfl⟩,by simpa using g4⟩
   places:=fun x hx=>by
    obtain ⟨y,a,b,c,d⟩:=h.places x hx
    refine ⟨y,(hs y).2 ⟨a,fun e=>?_⟩,b,c,d⟩
    have:=c6 h.ids a hm e
    subst this;rw [hrf] at b;cases b
   count:=fun y hy hr=>h.count y ((hs y).1 hy).1 hr}
structure jS where
 kind:Nat
 a:Nat
 b:Nat
 c:Nat
 d:Nat
structure jS.u (x:jS):Prop where
 kind:x.kind<256
 a:x.a<256
 b:x.b<256
 c:x.c<256
 d:x.d<256
def jS.cells (x:jS):List D:=[.int .u8 x.kind,.int .u8 x.a,.int .u8 x.b,.int .u8 x.c,.int .u8 x.d]
def AH:List aQ:=[[97],[97,47,98],[98],[206,177,206,178]]
def gz:List aQ:=[[110,49],[110,50],[110,51]]
def BU (x:jS):Ask:=⟨AH.getD (x.a%4) [],⟨(x.b%5:Nat),(x.b / 5%5:Nat),0,(x.b / 25%3:Nat)⟩,(1+x.c%3:Nat),(x.c / 3%4:Nat),(1+x.d%5:Nat),if 200<x.d then [⟨Sn,decide (x.d%2=1),[[97]]⟩] else []⟩
def T6:List aQ:=[[97],[97,47,98],[98]]
def qu (m:Nat):Nat→List bw
 |0=>(uP [⟨[],bO.zero,bO.zero⟩] [] ⟨30,30,30,30⟩).1
 |i+1=>(uP (qu m i) (T6.getD i []) ⟨(6+4*i+m:Nat),20,20,20⟩).1
def AI (i:Nat):List dj:=if i<2 then [⟨Sn,[[97],[98]].getD i []⟩] else []
def Ss (n i:Nat):Bool:=decide (n / 2^(5+i)%2=0)
def eV (n:Nat):Nat→cC
 |0=>⟨[],[]⟩
 |i+1=>if Ss n i then (qf (eV n i) ⟨gz.getD i [],⟨(4+2*i:Nat),9,9,9⟩,AI i,false⟩).1 else eV n i
def jI (n:Nat):bg:=⟨0,1,eV n 3,qu (n%5) 3,[],[],⟨0,[]⟩,⟨0,[]⟩⟩
def o7 (m:Nat):List bw:=[⟨[],⟨30,30,30,30⟩,bO.zero⟩,⟨[97],⟨(6+m:Nat),20,20,20⟩,bO.zero⟩,⟨[97,47,98],⟨(10+m:Nat),20,20,20⟩,bO.zero⟩,⟨[98],⟨(14+m:Nat),20,20,20⟩,bO.zero⟩]
theorem Lj:∀m<5,qu m 3=o7 m:=by decide+kernel
theorem PE:∀m<5,∀i<4,(qu m i).length≤4:=by decide+kernel
theorem Su {n:Nat} (i:Nat):Ss n i=Ss (n / 32*32) i:=by
 unfold Ss
 rw [show 5+i=5+i from rfl,Nat.pow_add,←Nat.div_div_eq_div_mul,←Nat.div_div_eq_div_mul,show (2:Nat)^5=32 from rfl,Nat.mul_div_cancel _ (by decide)]
theorem GS (n:Nat):∀i,eV n i=eV (n / 32*32) i
 |0=>rfl
 |i+1=>by rw [eV,eV,←GS n i,Su]
theorem MA {m:Nat} (hm:m<5):Tree.ok (o7 m)∧∀e∈o7 m,e.used=bO.zero:=by
 have hz:∀e∈o7 m,e.used=bO.zero:=by
  intro e he;simp only [o7,List.mem_cons,List.not_mem_nil,or_false] at he
  rcases he with rfl|rfl|rfl|rfl<;>rfl
 have hp:(o7 m).map (·.path)=[[],[97],[97,47,98],[98]]:=rfl
 refine ⟨⟨⟨_,_,rfl,rfl⟩,by simp [o7],?_,?_,?_,?_,?_⟩,hz⟩
 ·have:(((o7 m).map (·.path)).Pairwise (·<·)):=by rw [hp];decide
  exact List.pairwise_map.1 this
 ·intro e he
  have:e.path∈(o7 m).map (·.path):=List.mem_map_of_mem he
  rw [hp] at this
  have hn:∀p∈([[],[97],[97,47,98],[98]]:List aQ),named p=true:=by decide+kernel
  exact hn _ this
 ·intro e he
  have h1:e.path∈(o7 m).map (·.path):=List.mem_map_of_mem he
  have hn:∀p∈([[],[97],[97,47,98],[98]]:List aQ),parent p∈([[],[97],[97,47,98],[98]]:List aQ):=by decide+kernel
  rw [hp] at h1
  have h2:=hn _ h1
  rw [←hp] at h2
  obtain ⟨f,hf,g⟩:=List.mem_map.1 h2
  exact ⟨f,hf,g⟩
 ·intro e he k _;rw [hz e he,mU];omega
 intro e he
 refine ⟨?_,by rw [hz e he];exact wh⟩
 simp only [o7,List.mem_cons,List.not_mem_nil,or_false] at he
 rcases he with rfl|rfl|rfl|rfl<;>(intro k hk;unfold bO.at_;split<;>simp only<;>omega)
theorem Xx (i:Nat) (hi:i<3):(⟨(4+2*i:Nat),9,9,9⟩:bO).w:=by intro k hk;unfold bO.at_;split<;>simp only<;>omega
theorem Ll (n:Nat):∀i≤3,(eV n i).ok∧(eV n i).w
 |0,_=>⟨Le,Pq⟩
 |i+1,h=>by
  obtain ⟨a,b⟩:=Ll n i (by omega)
  unfold eV
  split
  ·exact UZ a b (Xx i (by omega))
  exact ⟨a,b⟩
theorem GU (p:cC) (n:Node):(qf p n).1.places=p.places:=by
 rcases tg p n with ⟨e,_⟩|⟨_,_,_,e⟩
 ·rw [e]
 rw [e]
theorem qw (n:Nat):∀i,(eV n i).places=[]
 |0=>rfl
 |i+1=>by
  unfold eV;split
  ·rw [GU,qw n i]
  exact qw n i
theorem AJ (n:Nat):(jI n).ok:=by
 have hm:n%5<5:=Nat.mod_lt _ (by decide)
 obtain ⟨t1,t2⟩:=MA hm
 obtain ⟨p1,p2⟩:=Ll n 3 (Nat.le_refl _)
 unfold jI
 rw [Lj _ hm]
 exact {
  bf:=p1,gR:=p2,tree:=t1
  used:=fun e he k _=>by simp only at he;rw [t2 e he,mU];rfl
  most:=by simp
  next:=by simp
  ids:=List.Pairwise.nil
  u9:=fun j hj=>by cases hj
  pe:=fun j hj=>by cases hj
  left:=fun j hj=>by cases hj
  iJ:=List.Pairwise.nil
  kK:=List.Pairwise.nil
  gy:=fun q=>by simp
  places:=fun x hx=>by simp only at hx;rw [qw] at hx;cases hx
  count:=fun j hj=>by cases hj
  notes:=by simp}
theorem PF (x:jS):(BU x).gu.w:=by intro k hk;unfold BU bO.at_;split<;>simp only<;>omega
end Dem
end
