/- Parts of a proof, joined. -/
import Derived.Test.YtjnbpclolnmimaaGreatDoorJ29
import Derived.Test.YtjnbpclolnmimaaGreatDoorJ30
set_option linter.unusedSimpArgs false
set_option linter.unusedVariables false
set_option maxRecDepth 100000
set_option maxHeartbeats 4000000
section
open Go
namespace Dem
theorem DX {x y:aD} (h:x<y) (g:y<x):False:=jY x (xZ h g)
theorem ML {x y:aD}:(!sle x y)=true↔y<x:=by
 rcases MK x y with h|rfl|h
 ·have:¬y<x:=fun g=>DX h g
  simp [sle,DW,h,this]
 ·simp [sle]
 simp only [sle,DW]
 have h1:¬x<y:=fun g=>DX h g
 have h2:x≠y:=fun e=>by subst e;exact jY x h
 simp [h1,h2,h]
theorem zi {l:List Node} {ps:List Place}:∀(r:List Node) (q:Option aD),iZ l ps q r=true↔
 ((∀n∈r,n.C4=true)∧(∀n∈r,(gE n.name l ps).2=true)∧SV r∧∀a,q=some a→∀n∈r,a<n.name)
 |[],q=>by simp [iZ]
 |n::r,q=>by
  have ih:=zi (l:=l) (ps:=ps) r (some n.name)
  simp only [iZ,Bool.and_eq_true,ih]
  have hp:Fi q n.name=true↔∀a,q=some a→a<n.name:=by
   cases q with
   |none=>simp [Fi]
   |some a=>simp only [Fi,ML];simp
  rw [hp]
  constructor
  ·rintro ⟨⟨⟨⟨h1,h2⟩,h3⟩,h4⟩,g1,g2,g3,g4⟩
   refine ⟨?_,?_,?_,?_⟩
   ·intro m hm;rcases List.mem_cons.1 hm with rfl|hm
    ·simp [Node.C4,h2,h3]
    exact g1 m hm
   ·intro m hm;rcases List.mem_cons.1 hm with rfl|hm
    ·exact h1
    exact g2 m hm
   ·exact List.pairwise_cons.2 ⟨fun m hm=>g4 _ rfl m hm,g3⟩
   intro a ha m hm;rcases List.mem_cons.1 hm with rfl|hm
   ·exact h4 a ha
   exact xZ (h4 a ha) (g4 _ rfl m hm)
  rintro ⟨h1,h2,h3,h4⟩
  have f:=h1 n (by simp)
  simp only [Node.C4,Bool.and_eq_true] at f
  have h3':=List.pairwise_cons.1 h3
  exact ⟨⟨⟨⟨h2 n (by simp),f.1⟩,f.2⟩,fun a ha=>h4 a ha n (by simp)⟩,fun m hm=>h1 m (by simp [hm]),fun m hm=>h2 m (by simp [hm]),h3'.2,fun a ha m hm=>by cases ha;exact h3'.1 m hm⟩
theorem KL {p:cO}:nU p=true↔p.ok:=by
 unfold nU
 simp only [Bool.and_eq_true,zi,decide_eq_true_eq,Bool.not_eq_true',List.any_eq_false,By]
 constructor
 ·rintro ⟨⟨⟨h1,h2,h3,_⟩,h5⟩,h6⟩
  refine ⟨h3,h1,h2,h5,fun x hx=>?_⟩
  have:=h6 x hx
  simpa using this
 rintro ⟨h1,h2,h3,h4,h5⟩
 refine ⟨⟨⟨h2,h3,h1,by simp⟩,h4⟩,fun x hx=>?_⟩
 obtain ⟨n,hn,e⟩:=h5 x hx
 simp;exact ⟨n,hn,e⟩
theorem D7 (c:UInt8):∀(s:aD),∀x∈bP c s,c ∉ x
 |[],x,h=>by simp [bP] at h;subst h;simp
 |y::ys,x,h=>by
  have ih:=D7 c ys
  unfold bP at h
  split at h
  ·rcases List.mem_cons.1 h with rfl|h
   ·simp
   exact ih x h
  rename_i hy
  split at h
  ·rename_i hd r e
   rcases List.mem_cons.1 h with rfl|h
   ·have:=ih hd (by rw [e];simp)
    intro g;rcases List.mem_cons.1 g with g|g
    ·exact hy g.symm
    exact this g
   exact ih x (by rw [e];simp [h])
  simp at h;subst h
  intro g;simp at g;exact hy g.symm
theorem BS (s:aD):∀(x:aD),(47:UInt8) ∉ x→bP 47 (x++47::s)=x::bP 47 s
 |[],_=>by simp [bP]
 |a::x,h=>by
  have ha:a≠47:=fun g=>h (by simp [g])
  have ih:=BS s x (fun g=>h (by simp [g]))
  rw [List.cons_append,bP,if_neg ha,ih]
theorem oL:fc []=[]:=Lib.join_nil _
theorem sW (x:aD):fc [x]=x:=by simp [fc,Lib.join_cons,Lib.joinTail]
theorem nH (x y:aD) (r:List aD):fc (x::y::r)=x++47::fc (y::r):=by
 show Lib.join (x::y::r) [47]=_
 rw [Lib.join_cons,tQ]
theorem BT (x:aD):∀l:List aD,l≠[]→fc (l++[x])=fc l++47::x
 |[],h=>absurd rfl h
 |[a],_=>by rw [List.singleton_append,nH,sW,sW]
 |a::b::l,_=>by
  have ih:=BT x (b::l) (by simp)
  rw [List.cons_append] at ih
  rw [List.cons_append,List.cons_append,nH,ih,nH];simp
theorem zl:∀l:List aD,l≠[]→(∀x∈l,(47:UInt8) ∉ x)→bP 47 (fc l)=l
 |[],h,_=>absurd rfl h
 |[x],_,h=>by rw [sW];exact BH (List.count_eq_zero.2 (h x (by simp)))
 |x::y::r,_,h=>by
  rw [nH,BS _ x (h x (by simp)),zl (y::r) (by simp) (fun z hz=>h z (by simp [hz]))]
theorem zm (s:aD):parts s=[]∨(parts s=bP 47 s∧(bP 47 s).length≤3∧∀x∈bP 47 s,dX x=true):=by
 unfold parts
 split
 ·exact .inl rfl
 rename_i h
 simp only [Bool.or_eq_true,decide_eq_true_eq,List.any_eq_true,not_or] at h
 refine .inr ⟨rfl,by omega,fun x hx=>?_⟩
 cases e:dX x with
 |true=>rfl
 |false=>exact absurd ⟨x,hx,by simp [e]⟩ h.2
theorem zn {s x:aD} (h:x∈parts s):dX x=true:=by
 rcases zm s with e|⟨e,_,h2⟩
 ·rw [e] at h;cases h
 exact h2 x (by rw [←e];exact h)
theorem Oc {x:aD} (h:dX x=true):x≠[]:=by
 rintro rfl;simp [dX] at h
theorem D8:parts []=[]:=by
 have:dX []=false:=by simp [dX]
 simp [parts,bP,this]
theorem parts_eq {s:aD} {l:List aD} (hs:bP 47 s=l) (hl:l.length≤3) (hr:l.any (fun n=>!dX n)=false):parts s=l:=by
 unfold parts;rw [hs,hr,if_neg (by simp;omega)]
theorem K9 (s:aD) (k:Nat):parts (fc ((parts s).take k))=(parts s).take k:=by
 rcases zm s with e|⟨e,h1,h2⟩
 ·rw [e];simp [oL,D8]
 cases k with
 |zero=>simp [oL,D8]
 |succ k=>
  have hne:(parts s).take (k+1)≠[]:=by
   rw [e];have:=DT 47 s
   cases h:bP 47 s with
   |nil=>exact absurd h this
   |cons a r=>simp
  have hs:bP 47 (fc ((parts s).take (k+1)))=(parts s).take (k+1):=by
   refine zl _ hne fun x hx=>?_
   have:=List.mem_of_mem_take hx
   rw [e] at this
   exact D7 47 s x this
  have hl:((parts s).take (k+1)).length≤3:=by rw [List.length_take,e];omega
  have hr:((parts s).take (k+1)).any (fun n=>!dX n)=false:=by
   rw [List.any_eq_false];intro x hx
   rw [zn (List.mem_of_mem_take hx)];simp
  exact parts_eq hs hl hr
def m7 (P:aD) (k:Nat):aD:=fc ((parts P).take k)
theorem D9 (P:aD):above P=(List.range ((parts P).length+1)).map (m7 P):=by
 rw [List.range_succ_eq_map,List.map_cons,List.map_map]
 have h0:m7 P 0=[]:=by simp [m7,oL]
 rw [above,h0];rfl
theorem sX {P q:aD}:q∈above P↔∃k,k≤(parts P).length∧q=m7 P k:=by
 rw [D9,List.mem_map]
 constructor
 ·rintro ⟨k,h,rfl⟩;rw [List.mem_range] at h;exact ⟨k,by omega,rfl⟩
 rintro ⟨k,h,rfl⟩;exact ⟨k,List.mem_range.2 (by omega),rfl⟩
theorem Ea (P:aD):m7 P 0=[]:=by simp [m7,oL]
theorem IB (P:aD) (k:Nat):parts (m7 P k)=(parts P).take k:=K9 P k
theorem Us {P:aD} {i k:Nat} (h:i≤k):m7 (m7 P k) i=m7 P i:=by
 show fc ((parts (m7 P k)).take i)=fc ((parts P).take i)
 rw [IB,List.take_take,Nat.min_eq_left h]
theorem Rr {P:aD} {k:Nat} (h:k<(parts P).length):(m7 P k).length<(m7 P (k+1)).length:=by
 have e:(parts P).take (k+1)=(parts P).take k++[(parts P)[k]]:=by rw [List.take_add_one,List.getElem?_eq_getElem h];rfl
 have hne:=Oc (zn (List.getElem_mem h))
 unfold m7
 rw [e]
 cases k with
 |zero=>
  simp only [List.take_zero,List.nil_append,oL,sW]
  exact List.length_pos_iff.2 hne
 |succ k=>
  rw [BT _ _ (by intro g;have:=congrArg List.length g;simp at this;rw [this] at h;simp at h)]
  simp
theorem FH {P:aD} {i:Nat}:∀{j:Nat},i<j→j≤(parts P).length→(m7 P i).length<(m7 P j).length
 |0,h,_=>by omega
 |j+1,h,hj=>by
  have h1:=Rr (P:=P) (k:=j) (by omega)
  by_cases e:i=j
  ·rw [e];exact h1
  exact Nat.lt_trans (FH (by omega) (by omega)) h1
theorem Rs {P:aD} {i j:Nat} (hi:i≤(parts P).length) (hj:j≤(parts P).length) (h:m7 P i=m7 P j):i=j:=by
 rcases Nat.lt_trichotomy i j with g|g|g
 ·have:=FH g hj;rw [h] at this;omega
 ·exact g
 have:=FH g hi;rw [h] at this;omega
theorem Rt {P:aD} {k:Nat} (h:k≤(parts P).length):above (m7 P k)=(List.range (k+1)).map (m7 P):=by
 rw [D9,IB,List.length_take,Nat.min_eq_left h]
 refine List.map_congr_left fun i hi=>?_
 rw [List.mem_range] at hi
 exact Us (by omega)
theorem yc {P:aD} {k:Nat} (h:k≤(parts P).length):parent (m7 P k)=m7 P (k-1):=by
 unfold parent
 rw [Rt h]
 simp only [lgM,List.length_range]
 rw [List.getD_eq_getElem?_getD,List.getElem?_map,List.getElem?_range (by omega)]
 simp [show k+1-2=k-1 by omega]
theorem La {P q r:aD} (hq:q∈above P) (hr:r∈above P) (q0:q≠[]) (r0:r≠[]) (h:parent q=parent r):q=r:=by
 obtain ⟨i,hi,rfl⟩:=sX.1 hq
 obtain ⟨j,hj,rfl⟩:=sX.1 hr
 rw [yc hi,yc hj] at h
 have i0:i≠0:=by rintro rfl;exact q0 (Ea P)
 have j0:j≠0:=by rintro rfl;exact r0 (Ea P)
 have:=Rs (by omega) (by omega) h
 rw [show i=j by omega]
theorem Lb {P q:aD} (hq:q∈above P):parent q∈above P:=by
 obtain ⟨i,hi,rfl⟩:=sX.1 hq
 rw [yc hi];exact sX.2 ⟨i-1,by omega,rfl⟩
theorem zo {P q:aD}:(decide (q=[])||mX q P)=decide (q∈above P):=by
 by_cases h:q=[]
 ·subst h;simp [yd]
 simp only [above,List.mem_cons,h,false_or,decide_false,Bool.false_or,mX]
 by_cases g:q∈mW P
 ·simp [g]
 simp [g]
def BW (k:Nat) (l:List aR):Nat:=(l.map fun e=>vk k e.used).sum
def kids (p:aD) (l:List aR):List aR:=l.filter fun x=>!decide (x.path=[])&&decide (parent x.path=p)
theorem pV (p:aD):∀(l:List aR) (s:bz),s.w→(∀k<4,vk k s+BW k (kids p l)<18446744073709551616)→
 ∃v,qq p l s=some v∧v.w∧∀k<4,vk k v=vk k s+BW k (kids p l)
 |[],s,hs,_=>⟨s,rfl,hs,by simp [kids,BW]⟩
 |x::r,s,hs,h=>by
  unfold qq
  by_cases h1:x.path=[]
  ·have e:kids p (x::r)=kids p r:=by simp [kids,h1]
   rw [e] at h ⊢;rw [if_pos h1]
   exact pV p r s hs h
  rw [if_neg h1]
  by_cases h2:parent x.path≠p
  ·have e:kids p (x::r)=kids p r:=by simp [kids,h2]
   rw [e] at h ⊢;rw [if_pos h2]
   exact pV p r s hs h
  have e:kids p (x::r)=x::kids p r:=by simp only [Decidable.not_not] at h2;simp [kids,h1,h2]
  have eu:∀k,BW k (kids p (x::r))=vk k x.used+BW k (kids p r):=by intro k;rw [e];simp [BW]
  simp only [eu] at h ⊢
  rw [if_neg h2]
  have ok:(gT s x.used).2=true:=ye.2 fun k hk=>by have:=h k hk;omega
  rw [if_pos ok]
  obtain ⟨v,a1,a2,a3⟩:=pV p r (gT s x.used).1 (FJ ok) (fun k hk=>by rw [sZ ok hk];have:=h k hk;omega)
  exact ⟨v,a1,a2,fun k hk=>by rw [a3 k hk,sZ ok hk];omega⟩
theorem Oe {l:List aR} {e:aR} (hu:e.used.w) (h1:∀k<4,vk k e.used≤vk k e.dc) (h2:∀k<4,BW k (kids e.path l)≤vk k e.used):k9 l e=true:=by
 obtain ⟨v,a1,a2,a3⟩:=pV e.path l bz.zero KQ (fun k hk=>by rw [sY];have:=h2 k hk;have:=(Od hu hk).2;omega)
 unfold k9
 rw [a1]
 simp only [Bool.and_eq_true]
 refine ⟨uK.2 h1,uK.2 fun k hk=>?_⟩
 rw [a3 k hk,sY];have:=h2 k hk;omega
theorem BY {all:List aR} (hn:∀e∈all,named e.path=true) (hp:∀e∈all,∃f∈all,f.path=parent e.path):
 ∀(r:List aR) (q:aD),r.Pairwise (fun x y=>x.path<y.path)→(∀e∈r,q<e.path)→(∀e∈r,e∈all)→eO all (some q) r=true
 |[],_,_,_,_=>rfl
 |e::r,q,ha,hq,hm=>by
  rw [List.pairwise_cons] at ha
  have h1:(!sle e.path q)=true:=ML.2 (hq e (by simp))
  have h2:=hn e (hm e (by simp))
  have h3:(!decide (bM all (parent e.path)<0))=true:=by
   obtain ⟨f,hf,g⟩:=hp e (hm e (by simp))
   have:=BX hf;rw [g] at this
   simp;omega
  unfold eO
  rw [h1,h2,h3,BY hn hp r e.path ha.2 (fun x hx=>ha.1 x hx) (fun x hx=>hm x (by simp [hx]))];rfl
theorem Ld {l:List aR} (h:Tree.ok l) (hk:∀e∈l,∀k<4,BW k (kids e.path l)≤vk k e.used):gU l=true:=by
 obtain ⟨e,r,rfl,he⟩:=h.root
 have hm:=h.most
 have h1:eO (e::r) none (e::r)=true:=by
  rw [eO]
  have ha:=h.Gg
  rw [List.pairwise_cons] at ha
  exact BY h.named h.par r e.path ha.2 (fun x hx=>ha.1 x hx) (fun x hx=>by simp [hx])
 have h2:((e::r).any fun x=>!k9 (e::r) x)=false:=by
  rw [List.any_eq_false];intro x hx
  rw [Oe (h.w x hx).2 (h.fits x hx) (hk x hx)];simp
 unfold gU
 rw [if_neg (by simp),if_neg (by omega),if_neg (by simp [he]),h1,h2];rfl
theorem pW (p:aD):∀(l:List Jb) (v:bz),v.w→(∀j∈l,j.runs=true→(cW j.x).2=true)→(∀k<4,vk k v+iB k p l<18446744073709551616)→
 ∃u,nI p l v=some u∧u.w∧∀k<4,vk k u=vk k v+iB k p l
 |[],v,hv,_,_=>⟨v,rfl,hv,by simp [iB]⟩
 |j::l,v,hv,ht,h=>by
  simp only [ko] at h ⊢
  unfold nI
  by_cases h1:j.runs=true
  ·rw [if_neg (by simp [h1])]
   by_cases h2:(!decide (p=[])&&!mX p j.x.path)=true
   ·have h3:¬p∈above j.x.path:=by
     have:=zo (P:=j.x.path) (q:=p)
     intro g
     rw [decide_eq_true g] at this
     simp only [Bool.and_eq_true,Bool.not_eq_true'] at h2
     rw [h2.1,h2.2] at this;simp at this
    have h4:∀k,fP k p j=0:=fun k=>by simp [fP,h3]
    rw [if_pos h2]
    simp only [h4,Nat.zero_add] at h ⊢
    exact pW p l v hv (fun x hx=>ht x (by simp [hx])) h
   have h3:p∈above j.x.path:=by
    have:=zo (P:=j.x.path) (q:=p)
    refine Decidable.byContradiction fun g=>?_
    rw [decide_eq_false g] at this
    rw [Bool.or_eq_false_iff] at this
    rw [this.1,this.2] at h2;simp at h2
   have h4:∀k,fP k p j=vk k j.tot:=fun k=>by simp [fP,h1,h3]
   simp only [h4] at h ⊢
   have ok:(gT v j.tot).2=true:=ye.2 fun k hk=>by have:=h k hk;omega
   have ht1:=ht j (by simp) h1
   rw [if_neg h2,if_neg (by rw [ht1,ok];simp)]
   obtain ⟨u,a1,a2,a3⟩:=pW p l (gT v j.tot).1 (FJ ok) (fun x hx=>ht x (by simp [hx])) (fun k hk=>by rw [sZ ok hk];have:=h k hk;omega)
   exact ⟨u,a1,a2,fun k hk=>by rw [a3 k hk,sZ ok hk];omega⟩
  have h4:∀k,fP k p j=0:=fun k=>by simp [fP,h1]
  rw [if_pos (by simpa using h1)]
  simp only [h4,Nat.zero_add] at h ⊢
  exact pW p l v hv (fun x hx=>ht x (by simp [hx])) h
theorem Rv {s:cH} {e:aR} (hu:e.used.w) (ht:∀j∈s.aI,j.runs=true→(cW j.x).2=true) (h:∀k<4,vk k e.used=iB k e.path s.aI):qu s e=true:=by
 obtain ⟨u,a1,a2,a3⟩:=pW e.path s.aI bz.zero KQ ht (fun k hk=>by rw [sY,←h k hk];have:=(Od hu hk).2;omega)
 unfold qu
 rw [a1]
 simp only [decide_eq_true_eq]
 exact FI a2 hu fun k hk=>by rw [a3 k hk,sY,h k hk];omega
theorem MX (k:Nat) (p:aD) (j:Jb):∀(K:List aD),K.Nodup→(∀q∈K,q≠[]∧parent q=p)→(K.map fun q=>fP k q j).sum≤fP k p j
 |[],_,_=>Nat.zero_le _
 |q::K,hn,hp=>by
  rw [List.nodup_cons] at hn
  have hq:=hp q (by simp)
  by_cases h:j.runs=true∧q∈above j.x.path
  ·have h0:(K.map fun q=>fP k q j).sum=0:=by
    have:∀r∈K,fP k r j=0:=fun r hr=>by
     unfold fP;rw [if_neg];rintro ⟨_,g⟩
     have qA:=hp r (by simp [hr])
     exact hn.1 (by rw [La h.2 g hq.1 qA.1 (by rw [hq.2,qA.2])];exact hr)
    rw [List.map_congr_left this,rU]
   have h1:p∈above j.x.path:=by rw [←hq.2];exact Lb h.2
   simp only [List.map_cons,List.sum_cons]
   rw [h0]
   simp [fP,h,h1]
  simp only [List.map_cons,List.sum_cons]
  rw [show fP k q j=0 by unfold fP;rw [if_neg h],Nat.zero_add]
  exact MX k p j K hn.2 (fun r hr=>hp r (by simp [hr]))
theorem ID (k:Nat) (p:aD) (K:List aD) (hn:K.Nodup) (hp:∀q∈K,q≠[]∧parent q=p):∀(l:List Jb),(K.map fun q=>iB k q l).sum≤iB k p l
 |[]=>by
  have:(K.map fun q=>iB k q []).sum=0:=rU K
  rw [this];exact Nat.zero_le _
 |j::l=>by
  simp only [ko]
  rw [sum_add]
  exact Nat.add_le_add (MX k p j K hn hp) (ID k p K hn hp l)
theorem Uu {t:List aR} (ha:t.Pairwise (fun x y=>x.path<y.path)) {l:List Jb} {k:Nat} (h:∀e∈t,vk k e.used=iB k e.path l) (p:aD):BW k (kids p t)≤iB k p l:=by
 have e:BW k (kids p t)=(((kids p t).map (·.path)).map fun q=>iB k q l).sum:=by
  unfold BW;rw [List.map_map]
  congr 1
  exact List.map_congr_left fun x hx=>h x (List.mem_filter.1 hx).1
 rw [e]
 refine ID k p _ ?_ ?_ l
 ·rw [List.nodup_iff_pairwise_ne,List.pairwise_map]
  exact (ha.filter _).imp fun h g=>by rw [g] at h;exact jY _ h
 intro q hq
 obtain ⟨x,hx,rfl⟩:=List.mem_map.1 hq
 have:=(List.mem_filter.1 hx).2
 simpa using this
theorem B7 {all:List bX} (hi:B5 all) (hw:∀q∈all,gG q=false):∀(r:List bX) (k:Nat) (q:Option bX),all.drop k=r→B4 r→(∀p,q=some p→∀x∈r,cV p x=true)→jh all q k r=true
 |[],_,_,_,_,_=>rfl
 |e::r,k,q,hd,ha,hq=>by
  rw [B4,List.pairwise_cons] at ha
  have he:all[k]?=some e:=by
   have:(all.drop k)[0]?=some e:=by rw [hd];rfl
   rw [List.getElem?_drop,Nat.add_zero] at this;exact this
  have h1:=hw e (List.mem_of_getElem? he)
  have h2:=Eb hi he
  have h3:NM q e=true:=by
   cases q with
   |none=>rfl
   |some p=>exact hq p rfl e (by simp)
  have h4:all.drop (k+1)=r:=by rw [←List.drop_drop,hd];rfl
  unfold jh
  rw [h1,h2,h3,B7 hi hw r (k+1) (some e) h4 ha.2 (fun p hp x hx=>by cases hp;exact ha.1 x hx)]
  simp
theorem Of {l:List bX} (hi:B5 l) (ha:B4 l) (hw:∀q∈l,gG q=false) (hl:l.length≤32):nX l=true:=by
 unfold nX
 rw [B7 hi hw l 0 none (by simp) ha (fun p hp=>by cases hp)]
 simpa using hl
theorem uM (m:List gz) (j c i:Int):fk (eR m j c) i=if i=j then c else fk m i:=by
 induction m with
 |nil=>
  simp only [eR,fk,List.find?_cons,List.find?_nil]
  by_cases h:i=j
  ·simp [h]
  have:¬j=i:=fun g=>h g.symm
  simp [h,this]
 |cons x m ih=>
  unfold fk at ih ⊢
  simp only [eR]
  by_cases h:j=x.bu
  ·simp only [if_pos h,List.find?_cons]
   by_cases g:i=j
   ·subst g;simp
   have h2:¬j=i:=fun e=>g e.symm
   have h3:¬x.bu=i:=fun e=>g (by rw [h,e])
   simp [g,h2,h3]
  simp only [if_neg h,List.find?_cons]
  by_cases g:x.bu=i
  ·have:¬i=j:=fun e=>h (by rw [←e,g])
   simp [g,this]
  simp only [g,decide_false]
  exact ih
theorem Lf {m:List gz} (h:(m.map gz.bu).Nodup) {x:gz} (hx:x∈m):fk m x.bu=x.cnt:=by
 induction m with
 |nil=>cases hx
 |cons y m ih=>
  rw [List.map_cons,List.nodup_cons] at h
  unfold fk at ih ⊢
  rw [List.find?_cons]
  rcases List.mem_cons.1 hx with rfl|hx
  ·simp
  have:¬y.bu=x.bu:=fun g=>h.1 (by rw [g];exact List.mem_map_of_mem hx)
  simp only [this,decide_false]
  exact ih h.2 hx
theorem wE (id:Int):∀(l:List Jb) (m:List gz),(l.Pairwise fun a b=>a.id<b.id)→(m.map gz.bu).Nodup→
 ((l.foldl (fun m j=>if j.runs then eR m j.id j.x.count else m) m).map gz.bu).Nodup∧
 fk (l.foldl (fun m j=>if j.runs then eR m j.id j.x.count else m) m) id=(match l.find? (fun j=>decide (j.id=id)&&j.runs) with|some j=>j.x.count|none=>fk m id)
 |[],m,_,h=>⟨h,rfl⟩
 |j::l,m,ha,h=>by
  rw [List.pairwise_cons] at ha
  rw [List.foldl_cons]
  by_cases hr:j.runs=true
  ·rw [if_pos hr]
   obtain ⟨a1,a2⟩:=wE id l (eR m j.id j.x.count) ha.2 (pY h _ _)
   refine ⟨a1,?_⟩
   rw [a2,List.find?_cons]
   by_cases g:j.id=id
   ·have hno:l.find? (fun j=>decide (j.id=id)&&j.runs)=none:=by
     rw [List.find?_eq_none];intro x hx;have:=ha.1 x hx
     simp;intro e;omega
    rw [hno,uM]
    simp [g,hr]
   simp only [g,decide_false,Bool.false_and]
   cases l.find? (fun j=>decide (j.id=id)&&j.runs) with
   |some j=>rfl
   |none=>simp only;rw [uM,if_neg (fun e=>g e.symm)]
  rw [if_neg hr]
  obtain ⟨a1,a2⟩:=wE id l m ha.2 h
  refine ⟨a1,?_⟩
  rw [a2,List.find?_cons]
  simp [hr]
theorem wF {l:List Jb}:∀(ps:List Place) (m:List gz),(m.map gz.bu).Nodup→(∀x∈ps,x.v=(eH l x.bu).1.x.fQ)→(∀id,fk m id=(qw id ps:Int))→
 ∃m',gM l ps m=some m'∧m'.all (fun x=>decide (x.cnt=0))=true
 |[],m,hn,_,hc=>⟨m,rfl,by
  rw [List.all_eq_true];intro x hx
  have:=hc x.bu;rw [Lf hn hx] at this;simpa [qw] using this⟩
 |x::ps,m,hn,hv,hc=>by
  have h1:=hc x.bu
  rw [B8,if_pos rfl] at h1
  unfold gM
  rw [if_neg (by omega),if_neg (by have:=hv x (by simp);simp [this])]
  refine wF ps _ (pY hn _ _) (fun y hy=>hv y (by simp [hy])) fun id=>?_
  rw [uM]
  have h2:=hc id
  rw [B8] at h2
  by_cases g:id=x.bu
  ·subst g;rw [if_pos rfl];omega
  rw [if_neg g,h2,if_neg (fun e=>g e.symm)];omega
theorem IQ {s:cH} (h:s.ok):∀(r:List Jb) (q:Option Int),(∀j∈r,j∈s.aI)→rV r→(∀p,q=some p→∀j∈r,p<j.id)→mZ s q r=true
 |[],_,_,_,_=>rfl
 |j::r,q,hm,ha,hq=>by
  rw [rV,List.pairwise_cons] at ha
  have hj:=hm j (by simp)
  obtain ⟨a1,a2⟩:=h.IP j hj
  obtain ⟨b1,_,b3⟩:=h.CN j hj
  have key:(if j.runs then decide (1≤j.left)&&decide (j.left≤j.x.dS) else decide (j.left=0)&&s.queue.contains ⟨j.id,j.x.prio⟩)=true:=by
   obtain ⟨c1,c2⟩:=h.left j hj
   cases hr:j.runs with
   |true=>have:=c1 hr;simp;exact this
   |false=>
    have hc:s.queue.contains ⟨j.id,j.x.prio⟩=true:=by rw [List.contains_iff_mem];exact (h.qJ _).2 ⟨j,hj,hr,rfl⟩
    simp only [Bool.false_eq_true,if_false,hc,c2 hr];simp
  have h1:VX s q j=true:=by
   unfold VX
   cases q with
   |none=>rw [if_neg (by omega),if_neg (by omega),if_neg (by simp),if_neg (by simp [b1]),b3,if_neg (by simp),key]
   |some p=>rw [if_neg (by omega),if_neg (by omega),if_neg (by have:=hq p rfl j (by simp);simp;omega),if_neg (by simp [b1]),b3,if_neg (by simp),key]
  unfold mZ
  rw [h1,IQ h r (some j.id) (fun x hx=>hm x (by simp [hx])) ha.2 (fun p hp x hx=>by cases hp;exact ha.1 x hx)];rfl
theorem cH.ok.right {s:cH} (h:s.ok):gq s=true:=by
 have h1:nU s.aW=true:=KL.2 h.aW
 have h2:gU s.tree=true:=Ld h.tree fun e he k hk=>by
  rw [h.used e he k hk];exact Uu h.tree.Gg (fun x hx=>h.used x hx k hk) e.path
 have hq:=h.Xl
 have hw:gW s.aI≤s.aI.length:=List.length_filter_le _ _
 have hm:=h.most
 have h3:nX s.queue=true:=by
  refine Of h.qH h.wG ?_ (by omega)
  intro q hq
  obtain ⟨j,hj,_,rfl⟩:=(h.qJ q).1 hq
  obtain ⟨_,_,hp,_⟩:=fL.1 (h.CN j hj).1
  simp [gG];omega
 have h4:mZ s none s.aI=true:=IQ h s.aI none (fun j hj=>hj) h.ids (fun p hp=>by cases hp)
 have h5:lZ s=true:=by
  have hn:=wE 0 s.aI [] h.ids (by simp)
  obtain ⟨m,a1,a2⟩:=wF (l:=s.aI) s.aW.places (jj s.aI) hn.1 (fun x hx=>by
   obtain ⟨j,hj,_,g2,g3⟩:=h.places x hx
   have:(eH s.aI x.bu).1=j:=by
    unfold eH
    cases hf:s.aI.find? (fun j=>decide (j.id=x.bu)) with
    |none=>rw [List.find?_eq_none] at hf;have:=hf j hj;simp [g2] at this
    |some y=>
     have e:=List.find?_some hf
     simp only [decide_eq_true_eq] at e
     exact kT h.ids (List.mem_of_find?_eq_some hf) hj (by rw [e,g2])
   rw [this,g3]) (fun id=>by
   rw [jj,(wE id s.aI [] h.ids (by simp)).2]
   cases hf:s.aI.find? (fun j=>decide (j.id=id)&&j.runs) with
   |some j=>
    have e:=List.find?_some hf
    simp only [Bool.and_eq_true,decide_eq_true_eq] at e
    have hj:=List.mem_of_find?_eq_some hf
    have:=h.count j hj e.2
    rw [e.1] at this
    exact this.symm
   |none=>
    rw [List.find?_eq_none] at hf
    have:qw id s.aW.places=0:=by
     unfold qw
     rw [List.length_eq_zero_iff,List.filter_eq_nil_iff]
     intro x hx g
     obtain ⟨j,hj,g1,g2,_⟩:=h.places x hx
     have:=hf j hj
     simp only [decide_eq_true_eq] at g
     simp [g2,g,g1] at this
    rw [this];rfl)
  unfold lZ;rw [a1];exact a2
 have h6:(s.tree.any fun e=>!qu s e)=false:=by
  rw [List.any_eq_false];intro e he
  rw [Rv (h.tree.w e he).2 (fun j hj _=>(fL.1 (h.CN j hj).1).2.2.2.2.2) (h.used e he)];simp
 have h7:=h.notes
 have h8:=h.next
 unfold gq
 rw [h1,h2,h3,h4,h5,h6]
 simp only [Bool.not_true,Bool.false_eq_true,if_false]
 rw [if_neg (by omega),if_neg (by omega),if_neg (by omega)]
 simp [hq]
end Dem
end
section
open Go Dem Go.Proofs
namespace Dem
variable {t:Th}
theorem Gb (ht:TT t) (hx0:FC 9 [] [] (.ret (BL true)) []) (N:Nat) (hN:N<256) {a:Int} (ea:a=N) {l:List gw} {dl:List (List D)} (Nq:dl=l.map gw.cells) (Vm:∀x∈l,x.u) (hll:l.length<9223372036854775808):
 FC 4 [U8 a,SL dl] [] (.ret (BL true)) []:=by
 refine bC ht (aE:=[]) Tryz.func4 (c:=_) rfl rfl (N:=33) rfl (rs:=_) rfl (n:=0) rfl rfl ?_
 cbv
 have c7:dl.length=l.length:=by rw [Nq,lgM]
 (refine gj trivial hx0 trivial rfl rfl ?_)
 cbv
 refine ai (fun h0=>?_) (fun h0=>?_)
 ·simp [ht] at h0
 simp [ht] at h0
 cbv
 (refine aS trivial (uQ ht N hN ea) (by simp) rfl rfl rfl (fun r1 cX=>?_);simp only [ht] at cX)
 cbv
 obtain ⟨J1,fe⟩:∃J1:Nat→Int×Int×Int×List (List D)×List (List D)×List (List D)×List (List D)×List (List D)×Int×List (List D)×Int×List (List D)→Prop,∀n i rd nx ns ps ts js qs ef es af cY,J1 n (i,rd,nx,ns,ps,ts,js,qs,ef,es,af,cY)↔(∃k:Nat,i=k∧k+n=30∧k≤l.length∧Told (bQ N l k) rd nx ns ps ts js qs ef es af cY):=⟨fun n v=>match v with|(i,rd,nx,ns,ps,ts,js,qs,ef,es,af,cY)=>(∃k:Nat,i=k∧k+n=30∧k≤l.length∧Told (bQ N l k) rd nx ns ps ts js qs ef es af cY),fun _ _ _ _ _ _ _ _ _ _ _ _ _=>Iff.rfl⟩
 refine aZ ⟨[1,5,6,7],[],[]⟩ (σ:=Int×Int×Int×List (List D)×List (List D)×List (List D)×List (List D)×List (List D)×Int×List (List D)×Int×List (List D)) (fun v=>[(7,.d (.int .i64 (t _ fun _=>v.1)))]) (fun v=>[(0,.var [.d (.int .u64 (t _ fun _=>v.2.1)),.d (.int .u64 (t _ fun _=>v.2.2.1)),.d (.sl (t _ fun _=>v.2.2.2.1)),.d (.sl (t _ fun _=>v.2.2.2.2.1)),.d (.sl (t _ fun _=>v.2.2.2.2.2.1)),.d (.sl (t _ fun _=>v.2.2.2.2.2.2.1)),.d (.sl (t _ fun _=>v.2.2.2.2.2.2.2.1)),.d (.int .u64 (t _ fun _=>v.2.2.2.2.2.2.2.2.1)),.d (.sl (t _ fun _=>v.2.2.2.2.2.2.2.2.2.1)),.d (.int .u64 (t _ fun _=>v.2.2.2.2.2.2.2.2.2.2.1)),.d (.sl (t _ fun _=>v.2.2.2.2.2.2.2.2.2.2.2))])]) J1 ?_
 cbv
 refine aA ⟨30,(_,_,_,_,_,_,_,_,_,_,_,_),(fe _ _ _ _ _ _ _ _ _ _ _ _ _).2 ?_,by simp only [ht];rfl,?_⟩
 ·exact ⟨0,rfl,by omega,by omega,by rw [show bQ N l 0=r1 from cX.symm];exact Told.self r1⟩
 rintro n ⟨i,rd,nx,ns,ps,ts,js,qs,ef,es,af,cY⟩ hj
 replace hj:=(fe _ _ _ _ _ _ _ _ _ _ _ _ _).1 hj
 obtain ⟨k,rfl,j1,j2,jT⟩:=hj
 cbv
 iterate 2 refine gI (by simp [ht]) ?_
 refine pI (by simp [ht]) ?_
 refine ai (fun h2=>?_) (fun h2=>?_)
 ·simp [ht,aa,c7] at h2
  cbv
  refine bJ [false,false,false,false,false,true,true] (by kernel_rfl) (by kernel_rfl) ?_
  cbv
  iterate 2 refine gI (by simp) ?_
  refine dg ht Nq (cT:=gw.aH t) (by (simp only [ht,aa];omega)) (by (simp only [ht,aa];omega)) (fun _=>rfl) (fun _=>rfl) (fun x3 ke=>?_)
  simp [ht,aa] at ke
  cbv
  iterate 2 refine gI (by simp) ?_
  (first|(refine aS trivial (Ag ht x3 (Vm x3 (List.mem_of_getElem? ke)) rfl rfl rfl rfl rfl _ _ _ _ (nl:=(bQ N l k).aW.nodes) (pl:=(bQ N l k).aW.places) (tl:=(bQ N l k).tree) (jl:=(bQ N l k).aI) (ql:=(bQ N l k).queue) (el:=(bQ N l k).ev.l) (al:=(bQ N l k).au.l) (by simp only [ht];exact jT.n) (by simp only [ht];exact jT.p) (by simp only [ht];exact jT.t) (by simp only [ht];exact jT.j) (by simp only [ht];exact jT.q) (by simp only [ht];exact jT.e) (by simp only [ht];exact jT.a) (by simp only [ht];rw [jT.eq];exact mv N l k)) (by simp) rfl rfl rfl (fun r1 cX=>?_);simp only [ht] at cX;rw [jT.eq,←nJ ke] at cX)|(refine iu (fun g=>⟨by simp [ht],by simp [ht],(Ag ht x3 (Vm x3 (List.mem_of_getElem? ke)) rfl rfl rfl rfl rfl _ _ _ _ (nl:=(bQ N l k).aW.nodes) (pl:=(bQ N l k).aW.places) (tl:=(bQ N l k).tree) (jl:=(bQ N l k).aI) (ql:=(bQ N l k).queue) (el:=(bQ N l k).ev.l) (al:=(bQ N l k).au.l) (by simp only [ht];exact jT.n) (by simp only [ht];exact jT.p) (by simp only [ht];exact jT.t) (by simp only [ht];exact jT.j) (by simp only [ht];exact jT.q) (by simp only [ht];exact jT.e) (by simp only [ht];exact jT.a) (by simp only [ht];rw [jT.eq];exact mv N l k))⟩) rfl rfl rfl (fun r1 cX=>?_);simp only [ht] at cX;rw [jT.eq,←nJ ke] at cX))
  cbv
  (refine ay trivial (p9 ht _ _ _ _ (nl:=r1.aW.nodes) (pl:=r1.aW.places) (tl:=r1.tree) (jl:=r1.aI) (ql:=r1.queue) (el:=r1.ev.l) (al:=r1.au.l) (by simp only [ht]<;>rfl) (by simp only [ht]<;>rfl) (by simp only [ht]<;>rfl) (by simp only [ht]<;>rfl) (by simp only [ht]<;>rfl) (by simp only [ht]<;>rfl) (by simp only [ht]<;>rfl) (show cH.sm r1 by rw [cX];exact mv N l (k+1))) (by simp) rfl rfl (fun r2 cP=>?_);simp only [ht] at cP;replace cP:r2=true:=(by rw [cP];show gq r1=true;rw [cX];exact (tc N l (k+1)).right);subst r2)
  cbv
  refine ai (fun h4=>?_) (fun h4=>?_)
  ·simp [ht] at h4
  simp [ht] at h4
  cbv
  refine bf (_,_,_,_,_,_,_,_,_,_,_,_) (by simp only [ht];rfl) (n-1) ?_ ((fe _ _ _ _ _ _ _ _ _ _ _ _ _).2 ?_)
  ·((try simp only [aa] at*);omega)
  simp only [aa]
  exact ⟨k+1,aC (by omega),by ((try simp only [aa] at*);omega),by omega,by rw [←cX];exact Told.self r1⟩
 simp [ht,aa,c7] at h2
 cbv
 refine an trivial trivial rfl rfl rfl ?_
 rfl
end Dem
end
