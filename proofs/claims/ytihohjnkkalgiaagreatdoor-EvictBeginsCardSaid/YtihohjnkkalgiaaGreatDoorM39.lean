/- Parts of a proof, joined. -/
import Derived.Test.YtihohjnkkalgiaaGreatDoorM20
import Derived.Test.YtihohjnkkalgiaaGreatDoorM25
import Derived.Maps.RangeWalk
set_option linter.all false
set_option maxRecDepth 100000
set_option maxHeartbeats 4000000
section
open Go
namespace Dem
section
variable {P:Program} {G:Nat→Option (List D)} {FC:Nat→List AV→List az→iR→List az→Prop} {kQ:Prop} {f:Nat} {args args':List AV} {c:Prop} {bx qn qo:List az} {v:AV} {K Kp:AV→List az→Prop}
theorem S6 {P:Program} {G:Nat→Option (List D)} {dr g:Bool} {v:AV} {K:AV→Prop} {jU:List AV} {aF:List az} (ks:List Bool) (bY:List Nat) (ho:g=true→kQ∧c∧bC P G f jU aF (.ret v) aF)
 (hn:AV.bP.c5 (kill ks bx) args'=true) (hz:eX [] args=some args') (hl:dP true (kill ks bx) (kill ks bx)=true) (hv:v.flat=true∨eX [] args=some args'∧v.shut=true)
 (ha:AV.vj (fun b=>dK b bY 0) args'=some jU) (hb:fJ (fun b=>dK b bY 0) (kill ks bx) bY=some aF) (hb':AK bY (kill ks bx) aF=some (kill ks bx)) (hr:iR.iy (jS bY (kill ks bx).length) (.ret v)=some (.ret v))
 (hK:K v):oT (bC P G) dr g kQ f args bx (some (c,args')) K:=by
 refine ⟨.inr ⟨v,fun hg=>⟨(ho hg).1,args',kill ks bx,⟨c,rfl,(ho hg).2.1⟩,hn,⟨true,hl,fun _=>hz⟩,?_,de bY ha hb hr hb' (ho hg).2.2,hv⟩,hK⟩⟩
 intro i b hi dF
 obtain ⟨b0,h1,h2⟩:=kI ks bx i b hi
 rcases h2 with rfl|⟨rfl,h3⟩
 ·exact ⟨_,h1,dF,fun _=>rfl⟩
 exact ⟨b0,h1,h3,fun h=>by simp [az.live] at h⟩
theorem VK {P:Program} {G:Nat→Option (List D)} {g:Bool} {v:AV} {K:AV→Prop} {fz:Option (Prop×List AV)} {jU:List AV} {aF:List az} (bY:List Nat) (ho:g=true→kQ∧bC P G f jU aF (.ret v) aF)
 (ha:AV.vj (fun b=>dK b bY 0) args=some jU) (hb:fJ (fun b=>dK b bY 0) bx bY=some aF) (hb':AK bY bx aF=some bx) (hr:iR.iy (jS bY bx.length) (.ret v)=some (.ret v))
 (hK:K v):oT (bC P G) false g kQ f args bx fz K:=
 ⟨.inl ⟨rfl,v,fun hg=>⟨(ho hg).1,de bY ha hb hr hb' (ho hg).2⟩,hK⟩⟩
end
section
variable {n:Nat} {c d:Prop} {v u:AV} {bx aR:List az} {res:iR} {fz:Option (Prop×AV)}
end
end Dem
end
section
open Go
namespace Dem
def jE (l:List Node) (ps:List Place):Option aH→List Node→Bool
 |_,[]=>true
 |q,n::r=>(cE n.name l ps).2&&eC n.name&&tV n.labels&&Er q n.name&&jE l ps (some n.name) r
def AO (l:List Node) (x:Place):Bool:=!(l.any fun n=>decide (n.name=x.node))
def oZ (p:cB):Bool:=jE p.nodes p.places none p.nodes&&decide (p.nodes.length≤16)&&!(p.places.any (AO p.nodes))
def nV (l:List Node) (k:Nat):Option aH:=match k with
 |0=>none
 |k+1=>(l[k]?).map (·.name)
theorem C6 {l:List Node} {k:Nat} {x:aH}:Er (nV l k) x=(decide (k=0)||match l[k-1]? with|none=>true|some y=>!sle x y.name):=by
 cases k with
 |zero=>rfl
 |succ k=>simp only [nV,Er];cases h:l[k]?<;>simp [h]
def M4 (q:Option bZ) (e:bZ):Bool:=match q with|none=>true|some q=>dh q e
def jF (all:List bZ):Option bZ→Nat→List bZ→Bool
 |_,_,[]=>true
 |q,k,e::r=>!gF e&&decide (iG all e.id=k)&&M4 q e&&jF all (some e) (k+1) r
def nA (l:List bZ):Bool:=jF l none 0 l&&decide (l.length≤32)
def p7 (p:aH):List be→bK→Option bK
 |[],s=>some s
 |x::r,s=>if x.path=[] then p7 p r s else if parent x.path≠p then p7 p r s else if (iT s x.used).2 then p7 p r (iT s x.used).1 else none
def kU (l:List be) (e:be):Bool:=match p7 e.path l bK.zero with
 |none=>false
 |some s=>kY e.used e.eH&&kY s e.used
def eW (all:List be):Option aH→List be→Bool
 |_,[]=>true
 |none,e::r=>eW all (some e.path) r
 |some q,e::r=>!sle e.path q&&named e.path&&!decide (bT all (parent e.path)<0)&&eW all (some e.path) r
def kj (l:List be):Bool:=
 if l.length<1 then false else if 16<l.length then false else if (l.getD 0 be.zero).path≠[] then false else eW l none l&&!(l.any fun e=>!kU l e)
theorem Db {x y:aH} (h:x<y) (g:y<x):False:=kn x (wJ h g)
theorem LX {x y:aH}:(!sle x y)=true↔y<x:=by
 rcases LW x y with h|rfl|h
 ·have:¬y<x:=fun g=>Db h g
  simp [sle,Da,h,this]
 ·simp [sle]
 simp only [sle,Da]
 have h1:¬x<y:=fun g=>Db h g
 have h2:x≠y:=fun e=>by subst e;exact kn x h
 simp [h1,h2,h]
theorem yo {l:List Node} {ps:List Place}:∀(r:List Node) (q:Option aH),jE l ps q r=true↔
 ((∀n∈r,n.yY=true)∧(∀n∈r,(cE n.name l ps).2=true)∧JI r∧∀a,q=some a→∀n∈r,a<n.name)
 |[],q=>by simp [jE]
 |n::r,q=>by
  have ih:=yo (l:=l) (ps:=ps) r (some n.name)
  simp only [jE,Bool.and_eq_true,ih]
  have hp:Er q n.name=true↔∀a,q=some a→a<n.name:=by
   cases q with
   |none=>simp [Er]
   |some a=>simp only [Er,LX];simp
  rw [hp]
  constructor
  ·rintro ⟨⟨⟨⟨h1,h2⟩,h3⟩,h4⟩,g1,g2,g3,g4⟩
   refine ⟨?_,?_,?_,?_⟩
   ·intro m hm;rcases List.mem_cons.1 hm with rfl|hm
    ·simp [Node.yY,h2,h3]
    exact g1 m hm
   ·intro m hm;rcases List.mem_cons.1 hm with rfl|hm
    ·exact h1
    exact g2 m hm
   ·exact List.pairwise_cons.2 ⟨fun m hm=>g4 _ rfl m hm,g3⟩
   intro a ha m hm;rcases List.mem_cons.1 hm with rfl|hm
   ·exact h4 a ha
   exact wJ (h4 a ha) (g4 _ rfl m hm)
  rintro ⟨h1,h2,h3,h4⟩
  have f:=h1 n (by simp)
  simp only [Node.yY,Bool.and_eq_true] at f
  have h3':=List.pairwise_cons.1 h3
  exact ⟨⟨⟨⟨h2 n (by simp),f.1⟩,f.2⟩,fun a ha=>h4 a ha n (by simp)⟩,fun m hm=>h1 m (by simp [hm]),fun m hm=>h2 m (by simp [hm]),h3'.2,fun a ha m hm=>by cases ha;exact h3'.1 m hm⟩
theorem JJ {p:cB}:oZ p=true↔p.ok:=by
 unfold oZ
 simp only [Bool.and_eq_true,yo,decide_eq_true_eq,Bool.not_eq_true',List.any_eq_false,AO]
 constructor
 ·rintro ⟨⟨⟨h1,h2,h3,_⟩,h5⟩,h6⟩
  refine ⟨h3,h1,h2,h5,fun x hx=>?_⟩
  have:=h6 x hx
  simpa using this
 rintro ⟨h1,h2,h3,h4,h5⟩
 refine ⟨⟨⟨h2,h3,h1,by simp⟩,h4⟩,fun x hx=>?_⟩
 obtain ⟨n,hn,e⟩:=h5 x hx
 simp;exact ⟨n,hn,e⟩
theorem Dh (c:UInt8):∀(s:aH),∀x∈bW c s,c ∉ x
 |[],x,h=>by simp [bW] at h;subst h;simp
 |y::ys,x,h=>by
  have ih:=Dh c ys
  unfold bW at h
  split at h
  ·rcases List.mem_cons.1 h with rfl|h
   ·simp
   exact ih x h
  rename_i hy
  split at h
  ·rename_i hd r e
   rcases List.mem_cons.1 h with rfl|h
   ·have:=ih hd (by rw [e];simp)
    intro g;rcases List.mem_cons.1 g with g|g
    ·exact hy g.symm
    exact this g
   exact ih x (by rw [e];simp [h])
  simp at h;subst h
  intro g;simp at g;exact hy g.symm
theorem AT (s:aH):∀(x:aH),(47:UInt8) ∉ x→bW 47 (x++47::s)=x::bW 47 s
 |[],_=>by simp [bW]
 |a::x,h=>by
  have ha:a≠47:=fun g=>h (by simp [g])
  have ih:=AT s x (fun g=>h (by simp [g]))
  rw [List.cons_append,bW,if_neg ha,ih]
theorem nZ:fo []=[]:=Lib.join_nil _
theorem sy (x:aH):fo [x]=x:=by simp [fo,Lib.join_cons,Lib.joinTail]
theorem mZ (x y:aH) (r:List aH):fo (x::y::r)=x++47::fo (y::r):=by
 show Lib.join (x::y::r) [47]=_
 rw [Lib.join_cons,sY]
theorem AU (x:aH):∀l:List aH,l≠[]→fo (l++[x])=fo l++47::x
 |[],h=>absurd rfl h
 |[a],_=>by rw [List.singleton_append,mZ,sy,sy]
 |a::b::l,_=>by
  have ih:=AU x (b::l) (by simp)
  rw [List.cons_append] at ih
  rw [List.cons_append,List.cons_append,mZ,ih,mZ];simp
theorem yq:∀l:List aH,l≠[]→(∀x∈l,(47:UInt8) ∉ x)→bW 47 (fo l)=l
 |[],h,_=>absurd rfl h
 |[x],_,h=>by rw [sy];exact AR (List.count_eq_zero.2 (h x (by simp)))
 |x::y::r,_,h=>by
  rw [mZ,AT _ x (h x (by simp)),yq (y::r) (by simp) (fun z hz=>h z (by simp [hz]))]
theorem yu (s:aH):parts s=[]∨(parts s=bW 47 s∧(bW 47 s).length≤3∧∀x∈bW 47 s,eC x=true):=by
 unfold parts
 split
 ·exact .inl rfl
 rename_i h
 simp only [Bool.or_eq_true,decide_eq_true_eq,List.any_eq_true,not_or] at h
 refine .inr ⟨rfl,by omega,fun x hx=>?_⟩
 cases e:eC x with
 |true=>rfl
 |false=>exact absurd ⟨x,hx,by simp [e]⟩ h.2
theorem yw {s x:aH} (h:x∈parts s):eC x=true:=by
 rcases yu s with e|⟨e,_,h2⟩
 ·rw [e] at h;cases h
 exact h2 x (by rw [←e];exact h)
theorem Na {x:aH} (h:eC x=true):x≠[]:=by
 rintro rfl;simp [eC] at h
theorem Di:parts []=[]:=by
 have:eC []=false:=by simp [eC]
 simp [parts,bW,this]
theorem parts_eq {s:aH} {l:List aH} (hs:bW 47 s=l) (hl:l.length≤3) (hr:l.any (fun n=>!eC n)=false):parts s=l:=by
 unfold parts;rw [hs,hr,if_neg (by simp;omega)]
theorem JP (s:aH) (k:Nat):parts (fo ((parts s).take k))=(parts s).take k:=by
 rcases yu s with e|⟨e,h1,h2⟩
 ·rw [e];simp [nZ,Di]
 cases k with
 |zero=>simp [nZ,Di]
 |succ k=>
  have hne:(parts s).take (k+1)≠[]:=by
   rw [e];have:=C7 47 s
   cases h:bW 47 s with
   |nil=>exact absurd h this
   |cons a r=>simp
  have hs:bW 47 (fo ((parts s).take (k+1)))=(parts s).take (k+1):=by
   refine yq _ hne fun x hx=>?_
   have:=List.mem_of_mem_take hx
   rw [e] at this
   exact Dh 47 s x this
  have hl:((parts s).take (k+1)).length≤3:=by rw [List.length_take,e];omega
  have hr:((parts s).take (k+1)).any (fun n=>!eC n)=false:=by
   rw [List.any_eq_false];intro x hx
   rw [yw (List.mem_of_mem_take hx)];simp
  exact parts_eq hs hl hr
def mJ (P:aH) (k:Nat):aH:=fo ((parts P).take k)
theorem Dj (P:aH):above P=(List.range ((parts P).length+1)).map (mJ P):=by
 rw [List.range_succ_eq_map,List.map_cons,List.map_map]
 have h0:mJ P 0=[]:=by simp [mJ,nZ]
 rw [above,h0];rfl
theorem sA {P q:aH}:q∈above P↔∃k,k≤(parts P).length∧q=mJ P k:=by
 rw [Dj,List.mem_map]
 constructor
 ·rintro ⟨k,h,rfl⟩;rw [List.mem_range] at h;exact ⟨k,by omega,rfl⟩
 rintro ⟨k,h,rfl⟩;exact ⟨k,List.mem_range.2 (by omega),rfl⟩
theorem Dk (P:aH):mJ P 0=[]:=by simp [mJ,nZ]
theorem G4 (P:aH) (k:Nat):parts (mJ P k)=(parts P).take k:=JP P k
theorem Ti {P:aH} {i k:Nat} (h:i≤k):mJ (mJ P k) i=mJ P i:=by
 show fo ((parts (mJ P k)).take i)=fo ((parts P).take i)
 rw [G4,List.take_take,Nat.min_eq_left h]
theorem Ql {P:aH} {k:Nat} (h:k<(parts P).length):(mJ P k).length<(mJ P (k+1)).length:=by
 have e:(parts P).take (k+1)=(parts P).take k++[(parts P)[k]]:=by rw [List.take_add_one,List.getElem?_eq_getElem h];rfl
 have hne:=Na (yw (List.getElem_mem h))
 unfold mJ
 rw [e]
 cases k with
 |zero=>
  simp only [List.take_zero,List.nil_append,nZ,sy]
  exact List.length_pos_iff.2 hne
 |succ k=>
  rw [AU _ _ (by intro g;have:=congrArg List.length g;simp at this;rw [this] at h;simp at h)]
  simp
theorem Ey {P:aH} {i:Nat}:∀{j:Nat},i<j→j≤(parts P).length→(mJ P i).length<(mJ P j).length
 |0,h,_=>by omega
 |j+1,h,hj=>by
  have h1:=Ql (P:=P) (k:=j) (by omega)
  by_cases e:i=j
  ·rw [e];exact h1
  exact Nat.lt_trans (Ey (by omega) (by omega)) h1
theorem Qm {P:aH} {i j:Nat} (hi:i≤(parts P).length) (hj:j≤(parts P).length) (h:mJ P i=mJ P j):i=j:=by
 rcases Nat.lt_trichotomy i j with g|g|g
 ·have:=Ey g hj;rw [h] at this;omega
 ·exact g
 have:=Ey g hi;rw [h] at this;omega
theorem Qn {P:aH} {k:Nat} (h:k≤(parts P).length):above (mJ P k)=(List.range (k+1)).map (mJ P):=by
 rw [Dj,G4,List.length_take,Nat.min_eq_left h]
 refine List.map_congr_left fun i hi=>?_
 rw [List.mem_range] at hi
 exact Ti (by omega)
theorem wM {P:aH} {k:Nat} (h:k≤(parts P).length):parent (mJ P k)=mJ P (k-1):=by
 unfold parent
 rw [Qn h]
 simp only [lgM,List.length_range]
 rw [List.getD_eq_getElem?_getD,List.getElem?_map,List.getElem?_range (by omega)]
 simp [show k+1-2=k-1 by omega]
theorem JQ {P q r:aH} (hq:q∈above P) (hr:r∈above P) (q0:q≠[]) (r0:r≠[]) (h:parent q=parent r):q=r:=by
 obtain ⟨i,hi,rfl⟩:=sA.1 hq
 obtain ⟨j,hj,rfl⟩:=sA.1 hr
 rw [wM hi,wM hj] at h
 have i0:i≠0:=by rintro rfl;exact q0 (Dk P)
 have j0:j≠0:=by rintro rfl;exact r0 (Dk P)
 have:=Qm (by omega) (by omega) h
 rw [show i=j by omega]
theorem JR {P q:aH} (hq:q∈above P):parent q∈above P:=by
 obtain ⟨i,hi,rfl⟩:=sA.1 hq
 rw [wM hi];exact sA.2 ⟨i-1,by omega,rfl⟩
theorem yx {P q:aH}:(decide (q=[])||nB q P)=decide (q∈above P):=by
 by_cases h:q=[]
 ·subst h;simp [Dl]
 simp only [above,List.mem_cons,h,false_or,decide_false,Bool.false_or,nB]
 by_cases g:q∈mj P
 ·simp [g]
 simp [g]
def mq (s:bE):Option Int→List Jb→Bool
 |_,[]=>true
 |q,j::r=>Sb s q j&&mq s (some j.id) r
def jH:List Jb→List ej
 |l=>l.foldl (fun m j=>if j.runs then eD m j.id j.x.count else m) []
def fB (m:List ej) (id:Int):Int:=match m.find? (fun x=>decide (x.bA=id)) with
 |some x=>x.cnt
 |none=>0
def gP (l:List Jb):List Place→List ej→Option (List ej)
 |[],m=>some m
 |x::r,m=>if fB m x.bA<1 then none else if x.v≠(bG l x.bA).1.x.fK then none else gP l r (eD m x.bA (fB m x.bA-1))
def lD (s:bE):Bool:=match gP s.ay s.bg.places (jH s.ay) with
 |none=>false
 |some m=>m.all fun x=>decide (x.cnt=0)
def m0 (p:aH):List Jb→bK→Option bK
 |[],v=>some v
 |j::r,v=>if !j.runs then m0 p r v else if !decide (p=[])&&!nB p j.x.path then m0 p r v else
  if !(cU j.x).2||!(iT v (cU j.x).1).2 then none else m0 p r (iT v (cU j.x).1).1
def p8 (s:bE) (e:be):Bool:=match m0 e.path s.ay bK.zero with
 |none=>false
 |some v=>decide (v=e.used)
def fF (s:bE):Bool:=
 if !oZ s.bg then false else if !kj s.tree then false else if !nA s.queue then false else if 32<s.ay.length then false else if s.next<1 then false else
 if 32<max s.ev.l.length s.au.l.length then false else if !mq s none s.ay then false else
 decide (gY s.ay=s.queue.length)&&lD s&&!(s.tree.any fun e=>!p8 s e)
def AX (k:Nat) (l:List be):Nat:=(l.map fun e=>vk k e.used).sum
def kids (p:aH) (l:List be):List be:=l.filter fun x=>!decide (x.path=[])&&decide (parent x.path=p)
theorem pu (p:aH):∀(l:List be) (s:bK),s.w→(∀k<4,vk k s+AX k (kids p l)<18446744073709551616)→
 ∃v,p7 p l s=some v∧v.w∧∀k<4,vk k v=vk k s+AX k (kids p l)
 |[],s,hs,_=>⟨s,rfl,hs,by simp [kids,AX]⟩
 |x::r,s,hs,h=>by
  unfold p7
  by_cases h1:x.path=[]
  ·have e:kids p (x::r)=kids p r:=by simp [kids,h1]
   rw [e] at h ⊢;rw [if_pos h1]
   exact pu p r s hs h
  rw [if_neg h1]
  by_cases h2:parent x.path≠p
  ·have e:kids p (x::r)=kids p r:=by simp [kids,h2]
   rw [e] at h ⊢;rw [if_pos h2]
   exact pu p r s hs h
  have e:kids p (x::r)=x::kids p r:=by simp only [Decidable.not_not] at h2;simp [kids,h1,h2]
  have eu:∀k,AX k (kids p (x::r))=vk k x.used+AX k (kids p r):=by intro k;rw [e];simp [AX]
  simp only [eu] at h ⊢
  rw [if_neg h2]
  have ok:(iT s x.used).2=true:=oe.2 fun k hk=>by have:=h k hk;omega
  rw [if_pos ok]
  obtain ⟨v,a1,a2,a3⟩:=pu p r (iT s x.used).1 (JT ok) (fun k hk=>by rw [pn ok hk];have:=h k hk;omega)
  exact ⟨v,a1,a2,fun k hk=>by rw [a3 k hk,pn ok hk];omega⟩
theorem Nb {l:List be} {e:be} (hu:e.used.w) (h1:∀k<4,vk k e.used≤vk k e.eH) (h2:∀k<4,AX k (kids e.path l)≤vk k e.used):kU l e=true:=by
 obtain ⟨v,a1,a2,a3⟩:=pu e.path l bK.zero wL (fun k hk=>by rw [m5];have:=h2 k hk;have:=(JS hu hk).2;omega)
 unfold kU
 rw [a1]
 simp only [Bool.and_eq_true]
 refine ⟨mr.2 h1,mr.2 fun k hk=>?_⟩
 rw [a3 k hk,m5];have:=h2 k hk;omega
theorem AZ {all:List be} (hn:∀e∈all,named e.path=true) (hp:∀e∈all,∃f∈all,f.path=parent e.path):
 ∀(r:List be) (q:aH),r.Pairwise (fun x y=>x.path<y.path)→(∀e∈r,q<e.path)→(∀e∈r,e∈all)→eW all (some q) r=true
 |[],_,_,_,_=>rfl
 |e::r,q,ha,hq,hm=>by
  rw [List.pairwise_cons] at ha
  have h1:(!sle e.path q)=true:=LX.2 (hq e (by simp))
  have h2:=hn e (hm e (by simp))
  have h3:(!decide (bT all (parent e.path)<0))=true:=by
   obtain ⟨f,hf,g⟩:=hp e (hm e (by simp))
   have:=AY hf;rw [g] at this
   simp;omega
  unfold eW
  rw [h1,h2,h3,AZ hn hp r e.path ha.2 (fun x hx=>ha.1 x hx) (fun x hx=>hm x (by simp [hx]))];rfl
theorem JV {l:List be} (h:Tree.ok l) (hk:∀e∈l,∀k<4,AX k (kids e.path l)≤vk k e.used):kj l=true:=by
 obtain ⟨e,r,rfl,he⟩:=h.root
 have hm:=h.most
 have h1:eW (e::r) none (e::r)=true:=by
  rw [eW]
  have ha:=h.ym
  rw [List.pairwise_cons] at ha
  exact AZ h.named h.par r e.path ha.2 (fun x hx=>ha.1 x hx) (fun x hx=>by simp [hx])
 have h2:((e::r).any fun x=>!kU (e::r) x)=false:=by
  rw [List.any_eq_false];intro x hx
  rw [Nb (h.w x hx).2 (h.fits x hx) (hk x hx)];simp
 unfold kj
 rw [if_neg (by simp),if_neg (by omega),if_neg (by simp [he]),h1,h2];rfl
theorem pz (p:aH):∀(l:List Jb) (v:bK),v.w→(∀j∈l,j.runs=true→(cU j.x).2=true)→(∀k<4,vk k v+gQ k p l<18446744073709551616)→
 ∃u,m0 p l v=some u∧u.w∧∀k<4,vk k u=vk k v+gQ k p l
 |[],v,hv,_,_=>⟨v,rfl,hv,by simp [gQ]⟩
 |j::l,v,hv,ht,h=>by
  simp only [gq] at h ⊢
  unfold m0
  by_cases h1:j.runs=true
  ·rw [if_neg (by simp [h1])]
   by_cases h2:(!decide (p=[])&&!nB p j.x.path)=true
   ·have h3:¬p∈above j.x.path:=by
     have:=yx (P:=j.x.path) (q:=p)
     intro g
     rw [decide_eq_true g] at this
     simp only [Bool.and_eq_true,Bool.not_eq_true'] at h2
     rw [h2.1,h2.2] at this;simp at this
    have h4:∀k,fY k p j=0:=fun k=>by simp [fY,h3]
    rw [if_pos h2]
    simp only [h4,Nat.zero_add] at h ⊢
    exact pz p l v hv (fun x hx=>ht x (by simp [hx])) h
   have h3:p∈above j.x.path:=by
    have:=yx (P:=j.x.path) (q:=p)
    refine Decidable.byContradiction fun g=>?_
    rw [decide_eq_false g] at this
    rw [Bool.or_eq_false_iff] at this
    rw [this.1,this.2] at h2;simp at h2
   have h4:∀k,fY k p j=vk k j.tot:=fun k=>by simp [fY,h1,h3]
   simp only [h4] at h ⊢
   have ok:(iT v j.tot).2=true:=oe.2 fun k hk=>by have:=h k hk;omega
   have ht1:=ht j (by simp) h1
   rw [if_neg h2,if_neg (by rw [ht1,ok];simp)]
   obtain ⟨u,a1,a2,a3⟩:=pz p l (iT v j.tot).1 (JT ok) (fun x hx=>ht x (by simp [hx])) (fun k hk=>by rw [pn ok hk];have:=h k hk;omega)
   exact ⟨u,a1,a2,fun k hk=>by rw [a3 k hk,pn ok hk];omega⟩
  have h4:∀k,fY k p j=0:=fun k=>by simp [fY,h1]
  rw [if_pos (by simpa using h1)]
  simp only [h4,Nat.zero_add] at h ⊢
  exact pz p l v hv (fun x hx=>ht x (by simp [hx])) h
theorem Qs {s:bE} {e:be} (hu:e.used.w) (ht:∀j∈s.ay,j.runs=true→(cU j.x).2=true) (h:∀k<4,vk k e.used=gQ k e.path s.ay):p8 s e=true:=by
 obtain ⟨u,a1,a2,a3⟩:=pz e.path s.ay bK.zero wL ht (fun k hk=>by rw [m5,←h k hk];have:=(JS hu hk).2;omega)
 unfold p8
 rw [a1]
 simp only [decide_eq_true_eq]
 exact Qq a2 hu fun k hk=>by rw [a3 k hk,m5,h k hk];omega
theorem A3 {α:Type}:∀l:List α,(l.map fun _=>0).sum=0
 |[]=>rfl
 |_::l=>by simp only [List.map_cons,List.sum_cons,A3 l]
theorem L3 (k:Nat) (p:aH) (j:Jb):∀(K:List aH),K.Nodup→(∀q∈K,q≠[]∧parent q=p)→(K.map fun q=>fY k q j).sum≤fY k p j
 |[],_,_=>Nat.zero_le _
 |q::K,hn,hp=>by
  rw [List.nodup_cons] at hn
  have hq:=hp q (by simp)
  by_cases h:j.runs=true∧q∈above j.x.path
  ·have h0:(K.map fun q=>fY k q j).sum=0:=by
    have:∀r∈K,fY k r j=0:=fun r hr=>by
     unfold fY;rw [if_neg];rintro ⟨_,g⟩
     have pX:=hp r (by simp [hr])
     exact hn.1 (by rw [JQ h.2 g hq.1 pX.1 (by rw [hq.2,pX.2])];exact hr)
    rw [List.map_congr_left this,A3]
   have h1:p∈above j.x.path:=by rw [←hq.2];exact JR h.2
   simp only [List.map_cons,List.sum_cons]
   rw [h0]
   simp [fY,h,h1]
  simp only [List.map_cons,List.sum_cons]
  rw [show fY k q j=0 by unfold fY;rw [if_neg h],Nat.zero_add]
  exact L3 k p j K hn.2 (fun r hr=>hp r (by simp [hr]))
theorem sum_add {α:Type} (f g:α→Nat):∀l:List α,(l.map fun x=>f x+g x).sum=(l.map f).sum+(l.map g).sum
 |[]=>rfl
 |x::l=>by simp only [List.map_cons,List.sum_cons,sum_add f g l];omega
theorem G7 (k:Nat) (p:aH) (K:List aH) (hn:K.Nodup) (hp:∀q∈K,q≠[]∧parent q=p):∀(l:List Jb),(K.map fun q=>gQ k q l).sum≤gQ k p l
 |[]=>by
  have:(K.map fun q=>gQ k q []).sum=0:=A3 K
  rw [this];exact Nat.zero_le _
 |j::l=>by
  simp only [gq]
  rw [sum_add]
  exact Nat.add_le_add (L3 k p j K hn hp) (G7 k p K hn hp l)
theorem Tk {t:List be} (ha:t.Pairwise (fun x y=>x.path<y.path)) {l:List Jb} {k:Nat} (h:∀e∈t,vk k e.used=gQ k e.path l) (p:aH):AX k (kids p t)≤gQ k p l:=by
 have e:AX k (kids p t)=(((kids p t).map (·.path)).map fun q=>gQ k q l).sum:=by
  unfold AX;rw [List.map_map]
  congr 1
  exact List.map_congr_left fun x hx=>h x (List.mem_filter.1 hx).1
 rw [e]
 refine G7 k p _ ?_ ?_ l
 ·rw [List.nodup_iff_pairwise_ne,List.pairwise_map]
  exact (ha.filter _).imp fun h g=>by rw [g] at h;exact kn _ h
 intro q hq
 obtain ⟨x,hx,rfl⟩:=List.mem_map.1 hq
 have:=(List.mem_filter.1 hx).2
 simpa using this
theorem Nc {l:List bZ} (hi:A4 l) {k:Nat} {x:bZ} (hx:l[k]?=some x):iG l x.id=k:=by
 rcases cF (rfl:iG l x.id=idxOf _ l) with ⟨_,h2,_⟩|⟨i,y,h1,_,h3,h4,_⟩
 ·rw [List.findIdx?_eq_none_iff] at h2;have:=h2 x (List.mem_of_getElem? hx);simp at this
 rw [h1]
 simp only [decide_eq_true_eq] at h4
 obtain ⟨g1,rfl⟩:=List.getElem?_eq_some_iff.1 hx
 obtain ⟨g2,rfl⟩:=List.getElem?_eq_some_iff.1 h3
 rcases Nat.lt_trichotomy i k with g|g|g
 ·exact absurd h4 (List.pairwise_iff_getElem.1 hi i k g2 g1 g)
 ·rw [g]
 exact absurd h4.symm (List.pairwise_iff_getElem.1 hi k i g1 g2 g)
theorem A6 {all:List bZ} (hi:A4 all) (hw:∀q∈all,gF q=false):∀(r:List bZ) (k:Nat) (q:Option bZ),all.drop k=r→G8 r→(∀p,q=some p→∀x∈r,dh p x=true)→jF all q k r=true
 |[],_,_,_,_,_=>rfl
 |e::r,k,q,hd,ha,hq=>by
  rw [G8,List.pairwise_cons] at ha
  have he:all[k]?=some e:=by
   have:(all.drop k)[0]?=some e:=by rw [hd];rfl
   rw [List.getElem?_drop,Nat.add_zero] at this;exact this
  have h1:=hw e (List.mem_of_getElem? he)
  have h2:=Nc hi he
  have h3:M4 q e=true:=by
   cases q with
   |none=>rfl
   |some p=>exact hq p rfl e (by simp)
  have h4:all.drop (k+1)=r:=by rw [←List.drop_drop,hd];rfl
  unfold jF
  rw [h1,h2,h3,A6 hi hw r (k+1) (some e) h4 ha.2 (fun p hp x hx=>by cases hp;exact ha.1 x hx)]
  simp
theorem Ng {l:List bZ} (hi:A4 l) (ha:G8 l) (hw:∀q∈l,gF q=false) (hl:l.length≤32):nA l=true:=by
 unfold nA
 rw [A6 hi hw l 0 none (by simp) ha (fun p hp=>by cases hp)]
 simpa using hl
theorem uc (m:List ej) (j c i:Int):fB (eD m j c) i=if i=j then c else fB m i:=by
 induction m with
 |nil=>
  simp only [eD,fB,List.find?_cons,List.find?_nil]
  by_cases h:i=j
  ·simp [h]
  have:¬j=i:=fun g=>h g.symm
  simp [h,this]
 |cons x m ih=>
  unfold fB at ih ⊢
  simp only [eD]
  by_cases h:j=x.bA
  ·simp only [if_pos h,List.find?_cons]
   by_cases g:i=j
   ·subst g;simp
   have h2:¬j=i:=fun e=>g e.symm
   have h3:¬x.bA=i:=fun e=>g (by rw [h,e])
   simp [g,h2,h3]
  simp only [if_neg h,List.find?_cons]
  by_cases g:x.bA=i
  ·have:¬i=j:=fun e=>h (by rw [←e,g])
   simp [g,this]
  simp only [g,decide_false]
  exact ih
theorem pE {m:List ej} (h:(m.map ej.bA).Nodup) (j c:Int):((eD m j c).map ej.bA).Nodup:=by
 rw [fV];split
 ·exact h
 rename_i g
 rw [List.nodup_append]
 exact ⟨h,by simp,fun a ha b hb e=>g (by simp at hb;rw [←hb,←e];exact ha)⟩
theorem JY {m:List ej} (h:(m.map ej.bA).Nodup) {x:ej} (hx:x∈m):fB m x.bA=x.cnt:=by
 induction m with
 |nil=>cases hx
 |cons y m ih=>
  rw [List.map_cons,List.nodup_cons] at h
  unfold fB at ih ⊢
  rw [List.find?_cons]
  rcases List.mem_cons.1 hx with rfl|hx
  ·simp
  have:¬y.bA=x.bA:=fun g=>h.1 (by rw [g];exact List.mem_map_of_mem hx)
  simp only [this,decide_false]
  exact ih h.2 hx
theorem Hg (id:Int) (x:Place) (ps:List Place):sO id (x::ps)=(if x.bA=id then 1 else 0)+sO id ps:=by
 unfold sO
 rw [List.filter_cons]
 by_cases h:x.bA=id
 ·simp [h];omega
 simp [h]
theorem vD (id:Int):∀(l:List Jb) (m:List ej),(l.Pairwise fun a b=>a.id<b.id)→(m.map ej.bA).Nodup→
 ((l.foldl (fun m j=>if j.runs then eD m j.id j.x.count else m) m).map ej.bA).Nodup∧
 fB (l.foldl (fun m j=>if j.runs then eD m j.id j.x.count else m) m) id=(match l.find? (fun j=>decide (j.id=id)&&j.runs) with|some j=>j.x.count|none=>fB m id)
 |[],m,_,h=>⟨h,rfl⟩
 |j::l,m,ha,h=>by
  rw [List.pairwise_cons] at ha
  rw [List.foldl_cons]
  by_cases hr:j.runs=true
  ·rw [if_pos hr]
   obtain ⟨a1,a2⟩:=vD id l (eD m j.id j.x.count) ha.2 (pE h _ _)
   refine ⟨a1,?_⟩
   rw [a2,List.find?_cons]
   by_cases g:j.id=id
   ·have hno:l.find? (fun j=>decide (j.id=id)&&j.runs)=none:=by
     rw [List.find?_eq_none];intro x hx;have:=ha.1 x hx
     simp;intro e;omega
    rw [hno,uc]
    simp [g,hr]
   simp only [g,decide_false,Bool.false_and]
   cases l.find? (fun j=>decide (j.id=id)&&j.runs) with
   |some j=>rfl
   |none=>simp only;rw [uc,if_neg (fun e=>g e.symm)]
  rw [if_neg hr]
  obtain ⟨a1,a2⟩:=vD id l m ha.2 h
  refine ⟨a1,?_⟩
  rw [a2,List.find?_cons]
  simp [hr]
theorem vE {l:List Jb}:∀(ps:List Place) (m:List ej),(m.map ej.bA).Nodup→(∀x∈ps,x.v=(bG l x.bA).1.x.fK)→(∀id,fB m id=(sO id ps:Int))→
 ∃m',gP l ps m=some m'∧m'.all (fun x=>decide (x.cnt=0))=true
 |[],m,hn,_,hc=>⟨m,rfl,by
  rw [List.all_eq_true];intro x hx
  have:=hc x.bA;rw [JY hn hx] at this;simpa [sO] using this⟩
 |x::ps,m,hn,hv,hc=>by
  have h1:=hc x.bA
  rw [Hg,if_pos rfl] at h1
  unfold gP
  rw [if_neg (by omega),if_neg (by have:=hv x (by simp);simp [this])]
  refine vE ps _ (pE hn _ _) (fun y hy=>hv y (by simp [hy])) fun id=>?_
  rw [uc]
  have h2:=hc id
  rw [Hg] at h2
  by_cases g:id=x.bA
  ·subst g;rw [if_pos rfl];omega
  rw [if_neg g,h2,if_neg (fun e=>g e.symm)];omega
theorem Ho {s:bE} (h:s.ok):∀(r:List Jb) (q:Option Int),(∀j∈r,j∈s.ay)→sP r→(∀p,q=some p→∀j∈r,p<j.id)→mq s q r=true
 |[],_,_,_,_=>rfl
 |j::r,q,hm,ha,hq=>by
  rw [sP,List.pairwise_cons] at ha
  have hj:=hm j (by simp)
  obtain ⟨a1,a2⟩:=h.zx j hj
  obtain ⟨b1,_,b3⟩:=h.uw j hj
  have key:(if j.runs then decide (1≤j.left)&&decide (j.left≤j.x.fq) else decide (j.left=0)&&s.queue.contains ⟨j.id,j.x.prio⟩)=true:=by
   obtain ⟨c1,c2⟩:=h.left j hj
   cases hr:j.runs with
   |true=>have:=c1 hr;simp;exact this
   |false=>
    have hc:s.queue.contains ⟨j.id,j.x.prio⟩=true:=by rw [List.contains_iff_mem];exact (h.pF _).2 ⟨j,hj,hr,rfl⟩
    simp only [Bool.false_eq_true,if_false,hc,c2 hr];simp
  have h1:Sb s q j=true:=by
   unfold Sb
   cases q with
   |none=>rw [if_neg (by omega),if_neg (by omega),if_neg (by simp),if_neg (by simp [b1]),b3,if_neg (by simp),key]
   |some p=>rw [if_neg (by omega),if_neg (by omega),if_neg (by have:=hq p rfl j (by simp);simp;omega),if_neg (by simp [b1]),b3,if_neg (by simp),key]
  unfold mq
  rw [h1,Ho h r (some j.id) (fun x hx=>hm x (by simp [hx])) ha.2 (fun p hp x hx=>by cases hp;exact ha.1 x hx)];rfl
theorem bE.ok.right {s:bE} (h:s.ok):fF s=true:=by
 have h1:oZ s.bg=true:=JJ.2 h.bg
 have h2:kj s.tree=true:=JV h.tree fun e he k hk=>by
  rw [h.used e he k hk];exact Tk h.tree.ym (fun x hx=>h.used x hx k hk) e.path
 have hq:=h.VV
 have hw:gY s.ay≤s.ay.length:=List.length_filter_le _ _
 have hm:=h.most
 have h3:nA s.queue=true:=by
  refine Ng h.og h.uf ?_ (by omega)
  intro q hq
  obtain ⟨j,hj,_,rfl⟩:=(h.pF q).1 hq
  obtain ⟨_,_,hp,_⟩:=eb.1 (h.uw j hj).1
  simp [gF];omega
 have h4:mq s none s.ay=true:=Ho h s.ay none (fun j hj=>hj) h.ids (fun p hp=>by cases hp)
 have h5:lD s=true:=by
  have hn:=vD 0 s.ay [] h.ids (by simp)
  obtain ⟨m,a1,a2⟩:=vE (l:=s.ay) s.bg.places (jH s.ay) hn.1 (fun x hx=>by
   obtain ⟨j,hj,_,g2,g3⟩:=h.places x hx
   have:(bG s.ay x.bA).1=j:=by
    unfold bG
    cases hf:s.ay.find? (fun j=>decide (j.id=x.bA)) with
    |none=>rw [List.find?_eq_none] at hf;have:=hf j hj;simp [g2] at this
    |some y=>
     have e:=List.find?_some hf
     simp only [decide_eq_true_eq] at e
     exact gJ h.ids (List.mem_of_find?_eq_some hf) hj (by rw [e,g2])
   rw [this,g3]) (fun id=>by
   rw [jH,(vD id s.ay [] h.ids (by simp)).2]
   cases hf:s.ay.find? (fun j=>decide (j.id=id)&&j.runs) with
   |some j=>
    have e:=List.find?_some hf
    simp only [Bool.and_eq_true,decide_eq_true_eq] at e
    have hj:=List.mem_of_find?_eq_some hf
    have:=h.count j hj e.2
    rw [e.1] at this
    exact this.symm
   |none=>
    rw [List.find?_eq_none] at hf
    have:sO id s.bg.places=0:=by
     unfold sO
     rw [List.length_eq_zero_iff,List.filter_eq_nil_iff]
     intro x hx g
     obtain ⟨j,hj,g1,g2,_⟩:=h.places x hx
     have:=hf j hj
     simp only [decide_eq_true_eq] at g
     simp [g2,g,g1] at this
    rw [this];rfl)
  unfold lD;rw [a1];exact a2
 have h6:(s.tree.any fun e=>!p8 s e)=false:=by
  rw [List.any_eq_false];intro e he
  rw [Qs (h.tree.w e he).2 (fun j hj _=>(eb.1 (h.uw j hj).1).2.2.2.2.2) (h.used e he)];simp
 have h7:=h.notes
 have h8:=h.next
 unfold fF
 rw [h1,h2,h3,h4,h5,h6]
 simp only [Bool.not_true,Bool.false_eq_true,if_false]
 rw [if_neg (by omega),if_neg (by omega),if_neg (by omega)]
 simp [hq]
end Dem
end
section
open Go Dem Go.Proofs
namespace Dem
variable {t:Th}
theorem Tx (ht:TT t) (jb:Int) (nd:aH) (v1 v2 v3 v4:Int) {l:List Node} {es qs:List (List D)} (aB:es=l.map Node.cells) (hl:l.length<1000000000) {r:Bool} (hr:r=AO l ⟨jb,nd,⟨v1,v2,v3,v4⟩⟩):
 FC 123 [.agg [aA jb,ST nd,aA v1,aA v2,aA v3,aA v4],.ptr 0 0] [.var [SL es,SL qs]] (.ret (BL r)) [.var [SL es,SL qs]]:=by
 refine bH ht (aF:=[.var [SL es,SL qs]]) Tryz.func123 rfl rfl (N:=9) rfl rfl (n:=1) rfl rfl ?_
 cbv
 have ap:es.length=l.length:=by rw [aB,lgM]
 refine aM trv (Bf ht _ ‹_› (by omega)) trv rfl rfl (fun r0 cN=>?_)
 simp only [ht] at cN
 cbv
 refine av trv trv rfl rfl rfl ?_
 simp [AO,fe, *];grind
theorem Hw (ht:TT t) (ns qs:List (List D)) {l:List (Place)} {es:List (List D)} (aB:es=l.map Place.cells) (f:Nat) (p:Place→Bool) (hl:l.length<9223372036854775807)
 (hf:∀x∈l,FC f [.agg [.d (.int .u64 x.bA),.d (.str x.node),.d (.int .u64 x.v.a),.d (.int .u64 x.v.b),.d (.int .u64 x.v.c),.d (.int .u64 x.v.d)],.ptr 0 0] [.var [SL ns,SL qs]] (.ret (BL (p x))) [.var [SL ns,SL qs]]) {r:Int} (hr:r=idxOf p l):FC 173 [SL es,.fn f [.ptr 0 0]] [.var [SL ns,SL qs]] (.ret (bI r)) [.var [SL ns,SL qs]]:=by
 have hel:es.length=l.length:=by rw [aB,lgM]
 obtain ⟨J,hJ⟩:∃J:Nat→Nat→Prop,∀n v,J n v↔(v+n=l.length∧∀i<v,∀x,l[i]?=some x→p x=false):=⟨fun n v=>v+n=l.length∧∀i<v,∀x,l[i]?=some x→p x=false,fun _ _=>Iff.rfl⟩
 refine bH ht (aF:=[.var [SL ns,SL qs]]) Tryz.func173 rfl rfl (N:=19) rfl rfl (n:=1) rfl rfl ?_
 cbv
 refine bF ⟨[0,1,7,8],[],[]⟩ (σ:=Nat) (fun k=>[(8,bI (t _ fun _=>(k:Int)))]) (fun _=>[]) J ?_
 cbv
 refine aD ⟨l.length,0,(hJ _ _).2 ⟨by omega,by intro i hi;simp at hi⟩,by simp only [ht];rfl,?_⟩
 rintro n k hj
 obtain ⟨h2,h3⟩:=(hJ _ _).1 hj
 clear hj
 cbv
 refine an (fun h=>?_) (fun h=>?_)
 ·simp only [ht,aa,decide_eq_true_eq] at h
  have hk:k<l.length:=by omega
  obtain ⟨x,hx⟩:∃x,l[k]?=some x:=⟨l[k],by simp⟩
  have mE:x∈l:=List.mem_of_getElem? hx
  have gz:=hf x mE
  obtain ⟨px,hpx⟩:∃b,b=p x:=⟨_,rfl⟩
  rw [←hpx] at gz
  obtain ⟨jb,nd,⟨v1,v2,v3,v4⟩⟩:=x
  cbv
  refine ic [.int .u64 jb,.str nd,.int .u64 v1,.int .u64 v2,.int .u64 v3,.int .u64 v4] ?_ ?_ ?_
  ·simp only [ht,aa];refine ⟨by omega,h,?_⟩;rw [aB];intro r hr;obtain ⟨y,_,rfl⟩:=List.mem_map.1 hr;rfl
  ·simp [ht,aa,aB,hx]
  cbv
  refine dw trv gz ?_
  cbv
  refine an (fun hb=>?_) (fun hb=>?_)
  ·cbv
   refine av trv trv rfl rfl rfl ?_
   have e:=cV hx (hpx▸hb) h3
   simp only [ht,aa,hr,idxOf,e]
  cbv
  refine aD ⟨n-1,k+1,⟨by omega,(hJ _ _).2 ⟨by omega,?_⟩⟩,?_⟩
  ·intro i hi y hy
   by_cases hik:i<k
   ·exact h3 i hik y hy
   have:i=k:=by omega
   subst this;rw [hx] at hy;cases hy;rw [←hpx];exact hb
  simp only [ht,aa,aC (show k<9223372036854775807 by omega)];rfl
 simp only [ht,aa,decide_eq_false_iff_not] at h
 have hk:¬k<l.length:=by omega
 clear h
 cbv
 refine av trv trv rfl rfl rfl ?_
 rw [hr,idxOf,c7]
 intro i y hy
 have:i<l.length:=by
  rcases Nat.lt_or_ge i l.length with h'|h';· exact h'
  simp [List.getElem?_eq_none h'] at hy
 exact h3 i (by omega) y hy
theorem Hy (ht:TT t) (ns qs:List (List D)) {l:List (Place)} {es:List (List D)} (aB:es=l.map Place.cells) (f:Nat) (p:Place→Bool) (hl:l.length<9223372036854775807)
 (hf:∀x∈l,FC f [.agg [.d (.int .u64 x.bA),.d (.str x.node),.d (.int .u64 x.v.a),.d (.int .u64 x.v.b),.d (.int .u64 x.v.c),.d (.int .u64 x.v.d)],.ptr 0 0] [.var [SL ns,SL qs]] (.ret (BL (p x))) [.var [SL ns,SL qs]]) {r:Bool} (hr:r=l.any p):FC 124 [SL es,.fn f [.ptr 0 0]] [.var [SL ns,SL qs]] (.ret (BL r)) [.var [SL ns,SL qs]]:=by
 obtain ⟨k,hk⟩:∃k,k=idxOf p l:=⟨_,rfl⟩
 refine bH ht (aF:=[.var [SL ns,SL qs]]) Tryz.func124 rfl rfl (N:=9) rfl rfl (n:=1) rfl rfl ?_
 cbv
 refine dw trv (Hw ht ns qs aB f p hl hf hk) ?_
 cbv
 refine av trv trv rfl rfl rfl ?_
 simp only [ht,hr,fe,hk]
theorem Nq (ht:TT t) {l:List Node} {ps:List Place} {es qs:List (List D)} (aB:es=l.map Node.cells) (dV:qs=ps.map Place.cells) (hl:l.length<1000000000) (Ed:ps.length<1000000000) {r:Bool} (hr:r=ps.any (AO l)):
 FC 124 [SL qs,.fn 123 [.ptr 0 0]] [.var [SL es,SL qs]] (.ret (BL r)) [.var [SL es,SL qs]]:=
 Hy ht es qs dV 123 (AO l) (by omega) (fun x _=>Tx ht x.bA x.node x.v.a x.v.b x.v.c x.v.d aB hl rfl) hr
theorem Nr (ht:TT t) {l:List Node} {ps:List Place} {es qs:List (List D)} (aB:es=l.map Node.cells) (dV:qs=ps.map Place.cells) (hl:l.length<1000000000) (Ed:ps.length<1000000000) (nD:∀x∈l,x.sm):
 FC 80 [.agg [SL es,SL qs]] [] (.ret (bX (t _ fun _=>oZ ⟨l,ps⟩))) []:=by
 refine bH ht (aF:=[]) Tryz.func80 rfl rfl (N:=66) rfl rfl (n:=0) rfl rfl ?_
 cbv
 have ap:es.length=l.length:=by rw [aB,lgM]
 have aI:qs.length=ps.length:=by rw [dV,lgM]
 obtain ⟨J0,dR⟩:∃J0:Nat→Int→Prop,∀n i,J0 n i↔(∃k:Nat,i=k∧k+n=l.length∧jE l ps none l=jE l ps (nV l k) (l.drop k)):=⟨fun n v=>match v with|i=>(∃k:Nat,i=k∧k+n=l.length∧jE l ps none l=jE l ps (nV l k) (l.drop k)),fun _ _=>Iff.rfl⟩
 refine bF ⟨[1,9,10,11],[],[]⟩ (σ:=Int) (fun v=>[(11,.d (.int .i64 (t _ fun _=>v)))]) (fun v=>[]) J0 ?_
 cbv
 refine aD ⟨l.length,_,(dR _ _).2 ?_,by simp only [ht];rfl,?_⟩
 ·exact ⟨0,rfl,by simp,by simp [nV]⟩
 rintro n i hj
 replace hj:=(dR _ _).1 hj
 obtain ⟨k,rfl,j1,j4⟩:=hj
 cbv
 refine an (fun h1=>?_) (fun h1=>?_)
 ·simp [ht,aa,ap] at h1
  cbv
  refine fP ht aB (cT:=Node.aU t) (by (simp only [ht,aa];omega)) (by (simp only [ht,aa];omega)) (fun _=>rfl) (fun _=>(by (simp only [ht,Node.aU];done))) (fun x2 fZ=>?_)
  simp [ht,aa] at fZ
  simp only [dU fZ,jE] at j4
  first|obtain ⟨s1,s2,s3⟩:=nD _ (List.mem_of_getElem? fZ)|skip
  cbv
  refine aM trv (EI ht _ ‹_› ‹_› (by omega) (by omega)) trv rfl rfl (fun r3 iV=>?_)
  simp only [ht] at iV
  cbv
  refine cO [true,true,true,true,true,true,true,true,true,true,true,true,true,true,true,true,true,true,false,false,false,false,false,false,false,false,false,true,true,true] (by kernel_rfl) (by kernel_rfl) ?_
  cbv
  iterate 2 refine gI (by simp [ht]) ?_
  refine bJ (fun g4=>⟨by simp [ht] at g4 ⊢;exact g4,trv,om ht _ ‹_›⟩) rfl rfl (fun r5 pH=>?_)
  simp only [ht] at pH
  cbv
  iterate 4 first|refine gI (by simp [ht]) ?_|refine pI (by simp [ht]) ?_
  refine bJ (fun g6=>⟨by simp [ht] at g6 ⊢;exact g6,trv,Dn ht (jR ht rfl) ‹_› ‹_›⟩) rfl rfl (fun r7 pK=>?_)
  simp only [ht] at pK
  cbv
  iterate 11 first|refine gI (by simp [ht]) ?_|refine pI (by simp [ht]) ?_
  refine G1 ht aB (cT:=Node.aU t) (k-1) (fun g=>by simp [ht,aa] at g ⊢;simp [g]) (fun g=>by simp [ht,aa] at g;simp only [ht,aa];exact ⟨pe (by omega) (by omega),by omega⟩) (fun _=>rfl) (fun _=>by simp only [ht,Node.aU]) (fun y my=>?_);simp [ht,aa] at my
  cbv
  iterate 3 refine gI (by simp [ht]) ?_
  refine gI (by simp [ht,ah];intros;simp_all) ?_
  refine pI (by simp [ht]) ?_
  refine an (fun h8=>?_) (fun h8=>?_)
  ·simp [ht,aa] at h8
   cbv
   refine av trv trv rfl rfl rfl ?_
   simp only [ht];rw [C6] at j4;grind [oZ,sle]
  simp [ht,aa] at h8
  cbv
  refine bQ _ rfl (n-1) ?_ ((dR _ _).2 ?_)
  ·omega
  simp only [ht,aa]
  refine ⟨k+1,aC (by omega),by omega,?_⟩
  rw [C6] at j4;simp only [nV,fZ,Option.map_some];grind [sle]
 simp [ht,aa,ap] at h1
 cbv
 iterate 3 refine gI (by simp [ht]) ?_
 obtain ⟨r9,gK⟩:∃r,r=ps.any (AO l):=⟨_,rfl⟩;refine VK [0] (fun g=>⟨by simp [ht] at g ⊢;exact g,Nq ht aB dV hl Ed gK⟩) rfl rfl rfl rfl ?_
 cbv
 refine gI (by simp [ht]) ?_
 refine pI (by simp [ht]) ?_
 refine av trv trv rfl rfl rfl ?_
 rw [List.drop_eq_nil_of_le (by omega),jE] at j4;simp [ht,aa,oZ,j4,gK,ap];congr 1;rw [decide_eq_decide];omega
theorem elemAt {α:Type} [Inhabited α] (l:List α) (k:Nat):∃x,k<l.length→l[k]?=some x:=by
 by_cases h:k<l.length
 ·exact ⟨l[k],fun _=>List.getElem?_eq_getElem h⟩
 exact ⟨default,fun h'=>absurd h' h⟩
theorem Me (ht:TT t) (a0 a1 a2 a3 b0 b1 b2 b3:Int):FC 137 [V4 a0 a1 a2 a3,V4 b0 b1 b2 b3] [] (.ret (Xe (t _ fun _=>iT ⟨a0,a1,a2,a3⟩ ⟨b0,b1,b2,b3⟩))) []:=by
 simp only [ht];exact QC ht _ _ _ _ _ _ _ _ rfl
theorem Q4 {x y:bZ}:x=y↔x.id=y.id∧x.prio=y.prio:=by cases x;cases y;simp
def m9 (l:List bZ) (k:Nat):Option bZ:=match k with
 |0=>none
 |k+1=>l[k]?
theorem Dv {l:List bZ} {k:Nat} {x:bZ}:M4 (m9 l k) x=(decide (k=0)||match l[k-1]? with|none=>true|some y=>dh y x):=by
 cases k with
 |zero=>rfl
 |succ k=>simp only [m9,M4];cases h:l[k]?<;>simp [h]
theorem NM {l:List bZ} {k:Nat} {x y:bZ} {r3 r7:Bool} {r5:Int} {rest:Bool} (j4:jF l none 0 l=(!gF x&&decide (iG l x.id=(k:Int))&&M4 (m9 l k) x&&rest)) (e3:r3=gF x) (e5:r5=iG l x.id) (e7:r7=dh y x)
 (my:r3=false→r5=(k:Int)→0<k→l[k-1]?=some y) (h:(r3=true∨¬r5=(k:Int))∨0<k∧r7=false):nA l=false:=by
 subst e3 e5 e7
 unfold nA
 rw [j4,Dv]
 by_cases h3:gF x=true
 ·simp [h3]
 by_cases h5:iG l x.id=(k:Int)
 ·rcases h with (h|h)|⟨h,h7⟩
  ·exact absurd h h3
  ·exact absurd h5 h
  rw [my (by simpa using h3) h5 h]
  have:k≠0:=by omega
  simp [this,h7]
 simp [h5]
theorem HO {l:List bZ} {k:Nat} {x y:bZ} {r3 r7:Bool} {r5:Int} {rest:Bool} (e3:r3=gF x) (e5:r5=iG l x.id) (e7:r7=dh y x)
 (my:r3=false→r5=(k:Int)→0<k→l[k-1]?=some y) (h:(r3=false∧r5=(k:Int))∧(0<k→r7=true)):(!gF x&&decide (iG l x.id=(k:Int))&&M4 (m9 l k) x&&rest)=rest:=by
 subst e3 e5 e7
 obtain ⟨⟨h3,h5⟩,h7⟩:=h
 rw [Dv]
 by_cases k0:k=0
 ·subst k0;simp [h3,h5]
 rw [my h3 h5 (by omega)]
 simp [h3,h5,h7 (by omega)]
theorem NN (ht:TT t) {l:List bZ} {es:List (List D)} (aB:es=l.map bZ.cells) (hl:l.length<1000000):
 FC 82 [SL es] [] (.ret (bX (t _ fun _=>nA l))) []:=by
 refine bH ht (aF:=[]) Tryz.func82 rfl rfl (N:=40) rfl rfl (n:=0) rfl rfl ?_
 cbv
 have ap:es.length=l.length:=by rw [aB,lgM]
 obtain ⟨J0,dR⟩:∃J0:Nat→Int→Prop,∀n i,J0 n i↔(∃k:Nat,i=k∧k+n=l.length∧jF l none 0 l=jF l (m9 l k) k (l.drop k)):=⟨fun n v=>match v with|i=>(∃k:Nat,i=k∧k+n=l.length∧jF l none 0 l=jF l (m9 l k) k (l.drop k)),fun _ _=>Iff.rfl⟩
 refine bF ⟨[0,5,6,7],[],[]⟩ (σ:=Int) (fun v=>[(7,.d (.int .i64 (t _ fun _=>v)))]) (fun v=>[]) J0 ?_
 cbv
 refine aD ⟨l.length,_,(dR _ _).2 ?_,by simp only [ht];rfl,?_⟩
 ·exact ⟨0,rfl,by simp,by simp [m9]⟩
 rintro n i hj
 replace hj:=(dR _ _).1 hj
 obtain ⟨k,rfl,j1,j4⟩:=hj
 cbv
 refine an (fun h1=>?_) (fun h1=>?_)
 ·simp [ht,aa,ap] at h1
  cbv
  refine fP ht aB (cT:=bZ.aU t) (by (simp only [ht,aa];omega)) (by (simp only [ht,aa];omega)) (fun _=>rfl) (fun _=>rfl) (fun x2 fZ=>?_)
  simp [ht,aa] at fZ
  simp only [dU fZ,jF] at j4
  cbv
  refine cO [true,true,true,false,false,false,false,false,true,true,true,true,true,true,false,false,false,false,false,false,true,true,true,true] (by kernel_rfl) (by kernel_rfl) ?_
  cbv
  refine aM trv (Dt ht _ _) trv rfl rfl (fun r3 iV=>?_)
  simp only [ht] at iV
  cbv
  iterate 3 refine gI (by simp [ht]) ?_
  refine bJ (fun g4=>⟨by simp [ht] at g4 ⊢;exact g4,trv,wT ht _ ‹_› (by omega)⟩) rfl rfl (fun r5 pH=>?_)
  simp only [ht] at pH
  cbv
  iterate 9 first|refine gI (by simp [ht]) ?_|refine pI (by simp [ht]) ?_
  refine G1 ht aB (cT:=bZ.aU t) (k-1) (fun g=>by simp [ht,aa] at g ⊢;simp [g]) (fun g=>by simp [ht,aa] at g;simp only [ht,aa];exact ⟨pe (by omega) (by omega),by omega⟩) (fun _=>rfl) (fun _=>rfl) (fun y my=>?_);simp [ht,aa] at my
  cbv
  iterate 2 refine gI (by simp [ht]) ?_
  refine bJ (fun g6=>⟨by simp [ht] at g6 ⊢;exact g6,trv,Du ht _ _ _ _⟩) rfl rfl (fun r7 pK=>?_)
  simp only [ht] at pK
  cbv
  refine gI (by simp [ht]) ?_
  refine gI (by simp [ht,ah];intros;simp_all) ?_
  refine pI (by simp [ht]) ?_
  refine an (fun h8=>?_) (fun h8=>?_)
  ·simp [ht,aa] at h8
   cbv
   refine av trv trv rfl rfl rfl ?_
   simp only [ht];rw [NM j4 iV pH pK my h8]
  simp [ht,aa] at h8
  cbv
  refine bQ _ (by simp only [ht];rfl) (n-1) ?_ ((dR _ _).2 ?_)
  ·omega
  simp only [aa]
  refine ⟨k+1,aC (by omega),by omega,?_⟩
  simp only [m9];rw [fZ,j4];exact HO iV pH pK my h8
 simp [ht,aa,ap] at h1
 cbv
 refine av trv trv rfl rfl rfl ?_
 rw [List.drop_eq_nil_of_le (by omega),jF] at j4;have e:decide ((l.length:Int)≤32)=decide (l.length≤32):=(by rw [decide_eq_decide];omega);simp [ht,aa,nA,j4,ap,e];done
end Dem
end
section
open Go Dem Go.Proofs Go.Maps
namespace Dem
def BF (v:Value):Option (DataW Unit×List MemPlace):=match v with
 |.int q n=>some (.lit (.int q n),[])
 |_=>none
abbrev wY:Int→Value:=Value.int .u64
theorem vO {x y:Int} (h:wY x=wY y):x=y:=by injection h
theorem N1 {x:Int} (h0:0≤x) (h1:x<18446744073709551616):keyOf Tryz.prog 24 (wY x)=some (.int .u64 x):=
 keyOf_int_mk Tryz.underlying24 (by simp [Lit.wf,IntKind.min,IntKind.max,IntKind.signed,IntKind.bits];omega)
theorem H7 {w:World} {ok:Nat→Prop}:∀(l:List ej) (ms:List MapEntry),bp w ok false (l.map ej.cells) ms→ms.map (fun e=>(e.key,e.val))=l.map (fun m=>(wY m.bA,Value.int .i64 m.cnt))
 |[],ms,h=>by simp only [List.map_nil,bp] at h;subst h;rfl
 |m::l,ms,h=>by
  simp only [List.map_cons,bp] at h
  obtain ⟨e,r,rfl,h1,h2⟩:=h
  simp only [ej.cells,gB,aK,cD] at h1
  obtain ⟨h1,cs,h3,_,v,r',h5,h6,h7⟩:=h1
  subst h7 h6
  rw [List.map_cons,List.map_cons,H7 l r h2]
  subst h5
  rw [h1,h3];rfl
structure Ro (l:List ej):Prop where
 nodup:(l.map ej.bA).Nodup
 bA:∀m∈l,0≤m.bA∧m.bA<18446744073709551616
 len:l.length≤1000000
theorem Rp {w:World} {ok:Nat→Prop} {l:List ej} {ms:Array MapEntry} {clock b:Nat} (hh:w.heap[b]?=some (.map ms clock)) (hs:kF ms clock) (hr:bp w ok false (l.map ej.cells) ms.toList) (hl:Ro l):
 ∃D0:DataW Unit,w.ownsMap Tryz.prog 24 BF b ms.size D0∧(∀x,has D0 (.int .u64 x)=true↔∃m∈l,m.bA=x)∧∀m∈l,∀z,D0.atKey (.int .u64 m.bA) z=.lit (.int .i64 m.cnt):=by
 have hk:=H7 l ms.toList hr
 have hsz:ms.size=l.length:=by have:=congrArg List.length hk;simpa using this
 have hread:∀x∈ms.toList,∃m∈l,x.key=wY m.bA∧x.val=.int .i64 m.cnt∧WideElems.rd Tryz.prog 24 BF x=some (.int .u64 m.bA,.lit (.int .i64 m.cnt)):=by
  intro x hx
  have:(x.key,x.val)∈ms.toList.map (fun e=>(e.key,e.val)):=List.mem_map.2 ⟨x,hx,rfl⟩
  rw [hk] at this
  obtain ⟨m,hm,e⟩:=List.mem_map.1 this
  simp only [Prod.mk.injEq] at e
  refine ⟨m,hm,e.1.symm,e.2.symm,?_⟩
  unfold WideElems.rd
  rw [←e.1,←e.2,N1 (hl.bA m hm).1 (hl.bA m hm).2]
  rfl
 have hmem:∀m∈l,∃x∈ms.toList,x.key=wY m.bA∧x.val=.int .i64 m.cnt:=by
  intro m hm
  have:(wY m.bA,Value.int .i64 m.cnt)∈l.map (fun m=>(wY m.bA,Value.int .i64 m.cnt)):=List.mem_map.2 ⟨m,hm,rfl⟩
  rw [←hk] at this
  obtain ⟨x,hx,e⟩:=List.mem_map.1 this
  simp only [Prod.mk.injEq] at e
  exact ⟨x,hx,e.1,e.2⟩
 have F:WideElems.Fit Tryz.prog 24 BF ms clock:=by
  refine ⟨?_,⟨?_,hs.2,?_⟩,?_⟩
  ·rw [hsz];exact Nat.le_trans hl.len (by decide)
  ·intro x hx
   have:=hs.1
   rw [Array.all_eq_true_iff_forall_mem] at this
   simpa using this x (by simpa using hx)
  ·have e1:ms.toList.map (·.key)=(l.map ej.bA).map wY:=by
    have:ms.toList.map (·.key)=(ms.toList.map (fun e=>(e.key,e.val))).map Prod.fst:=by rw [List.map_map];rfl
    rw [this,hk];simp
   rw [e1]
   exact List.pairwise_map.2 (hl.nodup.imp (fun h e=>h (vO e)))
  intro x hx
  obtain ⟨m,_,_,_,h⟩:=hread x hx
  exact ⟨_,h⟩
 refine ⟨_,⟨ms,clock,hh,F,Nat.le_refl _,rfl⟩,?_,?_⟩
 ·intro x
  rw [has_eq,List.any_eq_true]
  have hp:=WideShapes.sorted_perm (ms.toList.map (WideElems.rg Tryz.prog 24 BF))
  constructor
  ·rintro ⟨p,MK,Ls⟩
   obtain ⟨e,he,rfl⟩:=List.mem_map.1 (hp.mem_iff.1 MK)
   obtain ⟨m,hm,_,_,h⟩:=hread e he
   rw [WideElems.rg_of h] at Ls
   exact ⟨m,hm,by simpa [Lit.sameKey] using Ls⟩
  rintro ⟨m,hm,rfl⟩
  obtain ⟨e,he,h1,h2⟩:=hmem m hm
  obtain ⟨m',hm',h3,h4,h⟩:=hread e he
  have:m'.bA=m.bA:=vO (h3.symm.trans h1)
  refine ⟨_,hp.mem_iff.2 (List.mem_map.2 ⟨e,he,rfl⟩),?_⟩
  rw [WideElems.rg_of h,this];simp [Lit.sameKey]
 intro m hm z
 obtain ⟨e,he,h1,h2⟩:=hmem m hm
 obtain ⟨m',hm',h3,h4,h⟩:=hread e he
 have e1:m'.bA=m.bA:=vO (h3.symm.trans h1)
 have e2:m'.cnt=m.cnt:=by rw [h4] at h2;injection h2
 have hris:=fit_rising (int_keyed Tryz.underlying24) F
 have:=(WideShapes.atKey_sorted (ms.toList.map (WideElems.rg Tryz.prog 24 BF)) hris (.int .u64 m.bA) trv).2 (WideElems.rg Tryz.prog 24 BF e) (List.mem_map.2 ⟨e,he,rfl⟩) (by rw [WideElems.rg_of h,e1]) z
 rw [this,WideElems.rg_of h,e2]
theorem wZ {β:Nat→Nat} {bx:List az} {w w':World} {row:Option Nat} (hg:w.grownBy w' row) (hr:∀j,row=some j→w.heap.size≤j):Ext β bx w β bx w':=
 have hb:∀k,k<w.heap.size→w'.heap[k]?=w.heap[k]?:=fun k hk=>hg.block k hk (fun e=>by have:=hr k e.symm;omega)
 ⟨hg.os,hg.tape,hg.output,hg.size,fun k hk _=>hb k hk,fun k c e f hk=>⟨c,by rw [hb k (eT hk)];exact hk,rfl⟩,fun i hi=>⟨rfl,hi⟩,fun i b h1 h2=>.inr ⟨i,b,h1,h2,rfl⟩⟩
theorem kq {P:Program} {ops:Array Oper} {Q:Exit→Act→World→Prop} {rest:List Oper} {o:Oper} {a:Act} {w:World} {v:Value} (hg:o.guard=none) (hv:execOp a.eval o=pure (.value v)) (h:wpList P ops Q rest (a.put o.dst v) w):wpList P ops Q (o::rest) a w:=
 wpList_plain hg fun K hK=>by unfold Oper.wp;rw [hv];exact hK _ _ h
theorem BG {P:Program} {ops:Array Oper} {Q:Exit→Act→World→Prop} {rest:List Oper} {o:Oper} {a:Act} {w:World} {v:Value} (hg:o.guard=none) (hv:(execOp a.eval o).run P w=.ok (.value v) w) (h:wpList P ops Q rest (a.put o.dst v) w):wpList P ops Q (o::rest) a w:=
 wpList_plain hg fun K hK=>by unfold Oper.wp;rw [hv];exact hK _ _ h
theorem TW {P:Program} {w:World} {t:TypeId} {k:IntKind} {x y:Int} {ρ:Operand→Value} {o:Oper} {a b:Operand} {t':TypeId} (ho:o.op=.binOp .neq t a b t') (ha:ρ a=.int k x) (hb:ρ b=.int k y):(execOp ρ o).run P w=.ok (.value (.bool (!decide (x=y)))) w:=by
 obtain ⟨u,h1,h2⟩:=Fx (P:=P) (w:=w) (fun _=>True) (op:=.neq) (k:=k) (x:=x) (y:=y) (c:=True) (d:=.bool (!decide (x=y))) rfl trv t
 simp only [aK] at h2
 subst h2
 unfold execOp
 simp only [ho,ha,hb]
 simp [h1,eqGuard,Result.andThen]
theorem rH {ρ:Operand→Value} {o:Oper} {x:Operand} {i:Nat} {vs:Array Value} {v:Value} (ho:o.op=.extract x i) (hx:ρ x=.tuple vs) (hv:vs[i]?=some v):execOp ρ o=pure (.value v):=by
 unfold execOp
 simp only [ho,Instr.extract,hx,hv]
 rfl
theorem eS {a:Act} {N d:Nat} {v:Value} (hs:a.tmps.size=N) (hd:d<N) (u:Nat):(a.put (some d) v).eval (.tmp u)=if u=d then v else a.eval (.tmp u):=LG a d v (by rw [hs];exact hd) u
structure Wp (N q d2:Nat) (v0 vr:Value) (a:Act):Prop where
 defers:a.defers=[]
 size:a.tmps.size=N
 q:a.eval (.tmp q)=v0
 r:a.eval (.tmp d2)=vr
theorem Wp.put {N q d2:Nat} {v0 vr:Value} {a:Act} (h:Wp N q d2 v0 vr a) {d:Nat} (h1:d≠q) (h2:d≠d2) (hN:d<N) (v:Value):Wp N q d2 v0 vr (a.put (some d) v):=
 ⟨h.defers,by rw [←h.size];simp [Act.put],by rw [eS h.size hN,if_neg (fun e=>h1 e.symm)];exact h.q,by rw [eS h.size hN,if_neg (fun e=>h2 e.symm)];exact h.r⟩
theorem Wp.fr {G:Nat→Option (List D)} {N q d2:Nat} {v0 vr:Value} {a:Act} (h:Wp N q d2 v0 vr a) {β:Nat→Nat} {X:Nat→Prop} {bx:List az} {w w':World} {row:Option Nat} {kv:AV} (hg:w.grownBy w' row) (hr:∀j,row=some j→w.heap.size≤j) (cx:cI G β bx w X) (hk:aj β bx w (bt β bx w X) kv v0):
 Fr G N [] β w' X ⟨[(q,kv)],bx⟩ a:=by
 refine ⟨cx.step (wZ hg hr) (fun i b hb=>.inl ⟨hb,fun hl=>hg.block _ ((cx.box i b hb).eU hl) (fun e=>by have:=hr _ e.symm;have:=(cx.box i b hb).eU hl;omega)⟩) cx.inj,h.defers,h.size,fun t=>?_⟩
 by_cases e:t=q
 ·subst e
  have:gr t [(t,kv)]=kv:=by simp only [gr];rw [show Nat.beq t t=true by simp];rfl
  rw [this]
  have hv:a.tmps.getD t undef=v0:=h.q
  rw [hv];exact aj.mono ((wZ hg hr).eY X) _ _ hk
 have:gr t [(q,kv)]=.any:=by simp only [gr];rw [Vp e];rfl
 rw [this];simp [aj]
structure KH (bx:List az) (m:AV) (good bad:Prop):Prop where
 ok:∃(b:Nat) (l:List ej) (es:List (List D)),m=.zG b∧bx[b]?=some (.mp false es)∧es=l.map ej.cells∧Ro l∧((l.all fun x=>decide (x.cnt=0))=true→good)∧((l.all fun x=>decide (x.cnt=0))=false→bad)
section
variable {N:Nat} {X:Nat→Prop} {β0:Nat→Nat} {aF:List az} {w0:World}
theorem TX {Q:Ex→St→Prop} {i0 i1 i2 i3 B B2 m d1 d2 d3 d4 d5 d6 d7 d8 d9 q ty tz:Nat} {t':TypeId} {kv:AV} {o1 o2 o3 o4 o5 o6 o7 o8 o9:Oper} {Xj:Code} {post:List Code}
 (hd:d1≠q∧d2≠q∧d3≠q∧d4≠q∧d5≠q∧d6≠q∧d7≠q∧d8≠q∧d9≠q) (hN:d1<N∧d2<N∧d3<N∧d4<N∧d5<N∧d6<N∧d7<N∧d8<N∧d9<N) (hr:d3≠d2∧d4≠d2∧d5≠d2∧d6≠d2∧d7≠d2∧d8≠d2∧d9≠d2)
 (h1:o1.op=.move (.tmp m)∧o1.dst=some d1∧o1.guard=none) (h2:o2.op=.range ty (.tmp d1)∧o2.dst=some d2∧o2.guard=none) (h3:o3.op=.next (.tmp d2) false∧o3.dst=some d3∧o3.guard=none) (h4:o4.op=.extract (.tmp d3) 0∧o4.dst=some d4∧o4.guard=none)
 (h5:o5.op=.entry (.tmp d2)∧o5.dst=some d5∧o5.guard=none) (h6:o6.op=.extract (.tmp d5) 1∧o6.dst=some d6∧o6.guard=none) (h7:o7.op=.assign (.tmp d6)∧o7.dst=some d7∧o7.guard=none) (h8:o8.op=.move (.tmp d7)∧o8.dst=some d8∧o8.guard=none)
 (h9:o9.op=.binOp .neq tz (.tmp d8) (.const (.int .i64 0)) t'∧o9.dst=some d9∧o9.guard=none) (Vr:Tryz.prog.underlying ty=some (.map 24 3))
 {β:Nat→Nat} {w:World} {s:St} {a:Act} (ex:Ext β0 aF w0 β s.bx w) (hF:Fr gl N [] β w X s a) (hq:gr q s.sl=kv)
 (h:KH s.bx (gr m s.sl) (∀(w':World) (a':Act),Ext β0 aF w0 β s.bx w'→Fr gl N [] β w' X ⟨[(q,kv)],s.bx⟩ a'→sN Tryz.prog post (fW gl N [] X β0 aF w0 Q) a' w')
  (∀(w':World) (a':Act),Ext β0 aF w0 β s.bx w'→Fr gl N [] β w' X ⟨[(q,kv)],s.bx⟩ a'→Xj.wp Tryz.prog (fun e a w=>e=.ret∧fW gl N [] X β0 aF w0 Q .ret a w) a' w')):
 sN Tryz.prog (.region i0 ⟨[o1,o2]⟩ false::.block B (.loop (.seq (.region i1 ⟨[o3,o4]⟩ false) (.seq (.cond (.tmp d4) .skip (.exit B)) (.block B2 (.seq (.region i2 ⟨[o5,o6,o7]⟩ false) (.seq (.region i3 ⟨[o8,o9]⟩ false) (.cond (.tmp d9) Xj .skip)))))))::post) (fW gl N [] X β0 aF w0 Q) a w:=by
 obtain ⟨b,l,es,hm,hb,rfl,hl,YR,aaY⟩:=h
 obtain ⟨q1,q2,q3,q4,q5,q6,q7,q8,q9⟩:=hd
 obtain ⟨n1,n2,n3,n4,n5,n6,n7,n8,n9⟩:=hN
 obtain ⟨r3,r4,r5,r6,r7,r8,r9⟩:=hr
 have hma:a.eval (.tmp m)=.map (some (β b)):=by
  have:=hF.zk m
  rw [hm] at this
  simp only [aj] at this
  exact this.1
 obtain ⟨ms,clock,g1,g2,g3⟩:=hF.cx.box b _ hb
 obtain ⟨D0,ho,YS,hat⟩:=Rp g1 g2 g3 hl
 refine wp_region_list ?_
 refine kq h1.2.2 (v:=.map (some (β b))) (by unfold execOp;simp only [h1.1,hma]) ?_
 rw [h1.2.1]
 refine wpList_range_own _ h2.2.2 (.tmp d1) ty h2.1 24 3 (int_keyed Tryz.underlying24) Vr BF (β b) ms.size D0 (by rw [eS hF.size n1];simp) ho ?_
 intro w1 YT Rq XN
 rw [h2.2.1]
 refine wpList_nil ?_
 obtain ⟨r,Zr⟩:∃r,r=w.heap.size:=⟨_,rfl⟩
 rw [←Zr] at YT ⊢
 have Rr:(a.put (some d1) (Value.map (some (β b)))).tmps.size=N:=by rw [←hF.size];simp [Act.put]
 have hA:Wp N q d2 (a.eval (.tmp q)) (.pointer (some ⟨r,0,none⟩)) ((a.put (some d1) (Value.map (some (β b)))).put (some d2) (.pointer (some ⟨r,0,none⟩))):=
  ⟨hF.defers,by rw [←Rr];simp [Act.put],by rw [eS Rr n2,if_neg (fun e=>q2 e.symm),eS hF.size n1,if_neg (fun e=>q1 e.symm)],by rw [eS Rr n2];simp⟩
 have hkv:aj β s.bx w (bt β s.bx w X) kv (a.eval (.tmp q)):=by rw [←hq];exact hF.zk q
 generalize (a.put (some d1) (Value.map (some (β b)))).put (some d2) (.pointer (some ⟨r,0,none⟩))=a1 at hA ⊢
 show (Code.block B _).wp Tryz.prog _ a1 w1
 refine wp_block ?_
 have hro:∀j,some r=some j→w.heap.size≤j:=fun j e=>by cases e;omega
 refine wp_loop_ghost (fun n a' w'=>Wp N q d2 (a.eval (.tmp q)) (.pointer (some ⟨r,0,none⟩)) a'∧w.grownBy w' (some r)∧∃left,w'.ranges Tryz.prog 24 BF (β b) r ms.size D0 left n∧(∀x,left (.int .u64 x)=true→∃m∈l,m.bA=x)∧∀m∈l,left (.int .u64 m.bA)=false→m.cnt=0)
  (Maps.size D0) ⟨hA,⟨Rq.os,Rq.tape,Rq.output,Rq.size,fun k hk _=>Rq.block k hk (by simp)⟩,has D0,YT,fun x h=>(YS x).1 h,fun m hm h=>by rw [(YS m.bA).2 ⟨m,hm,rfl⟩] at h;cases h⟩ ?_
 rintro n a2 w2 ⟨YU,Wq,left,Wr,hl1,OI⟩
 refine wp_seq (wp_region_list ?_)
 have exw:∀{w3:World},w.grownBy w3 (some r)→Ext β0 aF w0 β s.bx w3:=fun {w3} g=>ex.trans (wZ g hro)
 refine wpList_next_ranges w2 h3.2.2 (.tmp d2) h3.1 24 (int_keyed Tryz.underlying24) BF wY (fun x:IntKind×Int=>.int x.1 x.2) (fun key kl hk=>by obtain ⟨x,hx,_⟩:=Maps.keyOf_int_inv Tryz.underlying24 hk;exact ⟨x,hx⟩)
  (fun v y hv=>by cases v<;>simp [BF] at hv;exact ⟨(_,_),rfl⟩) (β b) r ms.size D0 left n YU.r Wr ?_ ?_
 ·intro hc0 hl0
  rw [h3.2.1]
  have YV:=YU.put q3 r3 n3 (.tuple #[.bool false])
  refine kq h4.2.2 (v:=.bool false) (rH h4.1 (by rw [eS YU.size n3];simp;rfl) (by rfl)) ?_
  rw [h4.2.1]
  refine wpList_nil ?_
  have YW:=YV.put q4 r4 n4 (.bool false)
  simp only [Exit.then]
  refine wp_seq (wp_cond_split (t:=false) (by rw [eS YV.size n4];simp) (fun h=>by cases h) (fun _=>wp_exit ?_))
  simp only [Exit.then,Exit.inBlock,if_true]
  have:(l.all fun x=>decide (x.cnt=0))=true:=by
   rw [List.all_eq_true];intro x hx;simpa using OI x hx (hl0 _)
  exact YR this w2 _ (exw Wq) (YW.fr Wq hro hF.cx hkv)
 intro x c kl y w3 n3' hkey hlk hv aaZ TY hlt aa0 adu hen
 obtain ⟨x',e1,rfl,_⟩:=Maps.keyOf_int_inv Tryz.underlying24 hkey
 obtain rfl:x=x':=vO e1
 obtain ⟨k,cv⟩:=c
 simp only [BF,osI] at hv
 subst hv
 obtain ⟨mm,MT,rfl⟩:=hl1 x hlk
 have hc:=(aaZ .nil).symm.trans (hat mm MT .nil)
 simp only [DataW.lit.injEq,Lit.int.injEq] at hc
 obtain ⟨rfl,rfl⟩:=hc
 have Ws:w.grownBy w3 (some r):=Wq.andThen aa0 (fun j e=>.inr e)
 rw [h3.2.1]
 have YV:=YU.put q3 r3 n3 (.tuple #[.bool true,wY mm.bA,.int .i64 mm.cnt])
 refine kq h4.2.2 (v:=.bool true) (rH h4.1 (by rw [eS YU.size n3];simp;rfl) (by rfl)) ?_
 rw [h4.2.1]
 refine wpList_nil ?_
 have YW:=YV.put q4 r4 n4 (.bool true)
 simp only [Exit.then]
 refine wp_seq (wp_cond_split (t:=true) (by rw [eS YV.size n4];simp) (fun _=>wp_skip ?_) (fun h=>by cases h))
 simp only [Exit.then]
 refine wp_block (wp_seq (wp_region_list ?_))
 refine BG h5.2.2 (v:=.tuple #[wY mm.bA,.int .i64 mm.cnt]) (by unfold execOp;simp only [h5.1,YW.r];simp [hen,Result.andThen]) ?_
 rw [h5.2.1]
 have hA5:=YW.put q5 r5 n5 (.tuple #[wY mm.bA,.int .i64 mm.cnt])
 refine kq h6.2.2 (v:=.int .i64 mm.cnt) (rH h6.1 (by rw [eS YW.size n5];simp;rfl) (by rfl)) ?_
 rw [h6.2.1]
 have hA6:=hA5.put q6 r6 n6 (.int .i64 mm.cnt)
 refine kq h7.2.2 (v:=.int .i64 mm.cnt) (by unfold execOp;simp only [h7.1,eS hA5.size n6,if_true]) ?_
 rw [h7.2.1]
 have hA7:=hA6.put q7 r7 n7 (.int .i64 mm.cnt)
 refine wpList_nil ?_
 simp only [Exit.then]
 refine wp_seq (wp_region_list ?_)
 refine kq h8.2.2 (v:=.int .i64 mm.cnt) (by unfold execOp;simp only [h8.1,eS hA6.size n7,if_true]) ?_
 rw [h8.2.1]
 have hA8:=hA7.put q8 r8 n8 (.int .i64 mm.cnt)
 refine BG h9.2.2 (v:=.bool (!decide (mm.cnt=0))) (TW h9.1 (by rw [eS hA7.size n8];simp) rfl) ?_
 rw [h9.2.1]
 have hA9:=hA8.put q9 r9 n9 (.bool (!decide (mm.cnt=0)))
 refine wpList_nil ?_
 simp only [Exit.then]
 refine wp_cond_split (t:=!decide (mm.cnt=0)) (by rw [eS hA8.size n9];simp) (fun h=>?_) (fun h=>wp_skip ?_)
 ·have:(l.all fun x=>decide (x.cnt=0))=false:=by
   rw [List.all_eq_false];exact ⟨mm,MT,by simpa using h⟩
  refine wp_mono (aaY this w3 _ (exw Ws) (hA9.fr Ws hro hF.cx hkv)) ?_
  rintro e a9 w9 ⟨rfl,hl⟩
  exact hl
 have hz:mm.cnt=0:=by simpa using h
 simp only [Exit.inBlock,Exit.then]
 refine ⟨n3',hlt,hA9,Ws,_,TY,?_,?_⟩
 ·intro x hx
  simp only [Bool.and_eq_true] at hx
  exact hl1 x hx.1
 intro m hm hx
 simp only [Bool.and_eq_false_iff] at hx
 rcases hx with hx|hx
 ·exact OI m hm hx
 have hj:m.bA=mm.bA:=by simpa [Lit.sameKey] using hx
 have h1:=hat m hm .nil
 rw [hj,hat mm MT .nil] at h1
 simp only [DataW.lit.injEq,Lit.int.injEq,true_and] at h1
 rw [←h1];exact hz
end
end Dem
end
section
open Go Dem Go.Proofs
namespace Dem
theorem fcM {t:Th} (ht:TT t) (k:Nat) {f N:Nat} {fn:Func} {c:Code} {args:List AV} {aR:List az} {res:iR} (hf:Tryz.prog.funcs[f]?=some fn) (hb:fn.body=some c)
 (hname:(fn.name== "runtime.NumGoroutine")=false) (hN:fn.ntmps=N) {rs:List ResultVar} (O4:fn.results.toList=rs) (hlen:Nat.ble args.length N=true)
 {i0 i1 i2 i3 B B2 m d1 d2 d3 d4 d5 d6 d7 d8 d9 q ty tz:Nat} {t':TypeId} {kv:AV} {o1 o2 o3 o4 o5 o6 o7 o8 o9:Oper} {Xj:Code} {post:List Code}
 (hc:(flat c).drop k=.region i0 ⟨[o1,o2]⟩ false::.block B (.loop (.seq (.region i1 ⟨[o3,o4]⟩ false) (.seq (.cond (.tmp d4) .skip (.exit B)) (.block B2 (.seq (.region i2 ⟨[o5,o6,o7]⟩ false) (.seq (.region i3 ⟨[o8,o9]⟩ false) (.cond (.tmp d9) Xj .skip)))))))::post)
 (hd:d1≠q∧d2≠q∧d3≠q∧d4≠q∧d5≠q∧d6≠q∧d7≠q∧d8≠q∧d9≠q) (hNd:d1<N∧d2<N∧d3<N∧d4<N∧d5<N∧d6<N∧d7<N∧d8<N∧d9<N) (hr:d3≠d2∧d4≠d2∧d5≠d2∧d6≠d2∧d7≠d2∧d8≠d2∧d9≠d2)
 (h1:o1.op=.move (.tmp m)∧o1.dst=some d1∧o1.guard=none) (h2:o2.op=.range ty (.tmp d1)∧o2.dst=some d2∧o2.guard=none) (h3:o3.op=.next (.tmp d2) false∧o3.dst=some d3∧o3.guard=none) (h4:o4.op=.extract (.tmp d3) 0∧o4.dst=some d4∧o4.guard=none)
 (h5:o5.op=.entry (.tmp d2)∧o5.dst=some d5∧o5.guard=none) (h6:o6.op=.extract (.tmp d5) 1∧o6.dst=some d6∧o6.guard=none) (h7:o7.op=.assign (.tmp d6)∧o7.dst=some d7∧o7.guard=none) (h8:o8.op=.move (.tmp d7)∧o8.dst=some d8∧o8.guard=none)
 (h9:o9.op=.binOp .neq tz (.tmp d8) (.const (.int .i64 0)) t'∧o9.dst=some d9∧o9.guard=none) (Vr:Tryz.prog.underlying ty=some (.map 24 3))
 (h:JF t FC tT gl N 0 ((flat c).take k) (fun e s=>match e with
  |.normal=>gr q s.sl=kv∧KH s.bx (gr m s.sl) (JF t FC tT gl N 0 post (qQ t tT rs 0 res aR) ⟨[(q,kv)],s.bx⟩) (yV t FC tT gl N 0 Xj (fun e s=>match e with|.ret=>qQ t tT rs 0 res aR .ret s|_=>False) ⟨[(q,kv)],s.bx⟩)
  |e=>qQ t tT rs 0 res aR e s) ⟨pV 0 args,[]⟩):FC f args [] res aR:=by
 subst O4
 have e:=ht.eq
 subst e
 refine rG P9 wG hf hb hname hN hlen (List.take_append_drop k (flat c)).symm (fun s=>gr q s.sl=kv∧KH s.bx (gr m s.sl) _ _) (fun X β0 w0 β w s a ex hF hR=>?_) h
 rw [hc]
 obtain ⟨hq,b,l,es,g1,g2,g3,g4,g5,g6⟩:=hR
 refine TX hd hNd hr h1 h2 h3 h4 h5 h6 h7 h8 h9 Vr ex hF hq ⟨b,l,es,g1,g2,g3,g4,fun hg w' a' qc SJ=>?_,fun hg w' a' qc SJ=>?_⟩
 ·exact oX P9 wG (Nat.le_refl _) post _ β w' ⟨[(q,kv)],s.bx⟩ a' qc SJ (g5 hg)
 refine wp_mono (fX P9 wG (Nat.le_refl _) Xj _ β w' ⟨[(q,kv)],s.bx⟩ a' qc SJ (g6 hg)) ?_
 intro e a w hl
 cases e<;>simp only [fW] at hl
 ·obtain ⟨_,_,_,_,h⟩:=hl;exact h.elim
 ·obtain ⟨_,_,_,_,h⟩:=hl;exact h.elim
 ·exact ⟨rfl,hl⟩
 obtain ⟨_,_,_,_,_,_,_,_,_,h⟩:=hl;exact h.elim
end Dem
end
