/- Parts of a proof, joined. -/
import Derived.Test.YtjnbpclolnmimaaGreatDoorJ17
set_option linter.unusedSimpArgs false
set_option linter.unusedVariables false
set_option maxRecDepth 100000
set_option maxHeartbeats 4000000
section
open Go
namespace Dem
section
variable (t:Th)
end
section
variable {bx:List ax}
end
theorem VN {a:String} {K:Prop} (h:K):VM a a K:=⟨rfl,h⟩
section
variable (t:Th) (FC:Nat→List AV→List ax→fm→List ax→Prop) (T:Nat→Option TI) (G:Nat→Option (List D)) (N:Nat)
end
section
variable {FC:Nat→List AV→List ax→fm→List ax→Prop} {T:Nat→Option TI} {G:Nat→Option (List D)} {N:Nat}
end
end Dem
end
section
open Go
namespace Dem
def tP (l:List Node) (ps:List Place) (n:Node):Option cu:=if (gE n.name l ps).2&&n.up then some ⟨n.name,(gE n.name l ps).1,n.labels⟩ else none
end Dem
end
section
open Go Dem Go.Proofs
namespace Dem
def cu.cells (x:cu):List D:=[.str x.node,.int .u64 x.free.a,.int .u64 x.free.b,.int .u64 x.free.c,.int .u64 x.free.d,.sl (x.labels.map bT.cells)]
def cu.aH (t:Th) (x:cu):List D:=[.str x.node,.int .u64 x.free.a,.int .u64 x.free.b,.int .u64 x.free.c,.int .u64 x.free.d,.sl (t _ fun _=>x.labels.map bT.cells)]
def WW (t:Th) (l:List cu):AV:=SL (t _ fun _=>l.map cu.cells)
abbrev small:Nat:=9223372036854775807
end Dem
end
section
open Go
namespace Dem
theorem DW:∀(x y:aD),Op.bytesLess x y=decide (x<y)
 |[],[]=>by simp [Op.bytesLess]
 |a::x,[]=>by simp [Op.bytesLess]
 |[],b::y=>by simp [Op.bytesLess]
 |a::x,b::y=>by
  have ih:=DW x y
  simp only [Op.bytesLess,ih]
  rw [Bool.eq_iff_iff]
  simp [List.cons_lt_cons_iff]
theorem jY (x:aD):¬x<x:=List.lt_irrefl x
theorem xZ {x y z:aD} (h:x<y) (g:y<z):x<z:=List.lt_trans h g
theorem MK (x y:aD):x<y∨x=y∨y<x:=by
 by_cases h:x<y
 ·exact .inl h
 by_cases g:y<x
 ·exact .inr (.inr g)
 exact .inr (.inl (List.le_antisymm (List.not_lt.1 g) (List.not_lt.1 h)))
abbrev SV (l:List Node):Prop:=l.Pairwise (fun x y=>x.name<y.name)
def Node.C4 (n:Node):Bool:=dX n.name&&pN n.labels
structure cO.ok (p:cO):Prop where
 Gg:SV p.nodes
 C4:∀n∈p.nodes,n.C4=true
 free:∀n∈p.nodes,(gE n.name p.nodes p.places).2=true
 most:p.nodes.length≤16
 here:∀x∈p.places,∃n∈p.nodes,n.name=x.node
theorem Q4 {l:List Node} (ha:SV l) {n:Node} (hn:n∈l):l.find? (fun x=>decide (x.name=n.name))=some n:=by
 induction l with
 |nil=>cases hn
 |cons m r ih=>
  rw [List.find?_cons]
  have Zz:=List.pairwise_cons.1 ha
  rcases List.mem_cons.1 hn with rfl|hn
  ·simp
  have:m.name≠n.name:=fun e=>by have:=Zz.1 n hn;rw [e] at this;exact jY _ this
  simp [this,ih Zz.2 hn]
theorem NP {l:List Node} (ha:SV l) {n:Node} (hn:n∈l):gk n.name l=(n,true):=by
 unfold gk;rw [Q4 ha hn]
theorem KM {l:List Node} {name:aD} (h:(gk name l).2=true):(gk name l).1∈l∧(gk name l).1.name=name:=by
 unfold gk at h ⊢
 split at h
 ·rename_i x hx
  have h1:=List.mem_of_find?_eq_some hx
  have h2:=List.find?_some hx
  exact ⟨h1,by simpa using h2⟩
 cases h
theorem DY {l:List Node} (ha:SV l) {n:Node} (hn:n∈l) (ps:List Place):gE n.name l ps=if (left n.name ps (n.cap,true)).2 then left n.name ps (n.cap,true) else (bz.zero,false):=by
 unfold gE;rw [NP ha hn];rfl
theorem jZ {l:List Node} (ha:SV l) {n:Node} (hn:n∈l) (ps:List Place):(gE n.name l ps).2=(left n.name ps (n.cap,true)).2:=by
 rw [DY ha hn]
 split
 ·rfl
 rename_i h;simp at h;simp [h]
theorem KN (name:aD) (ps:List Place):∀v,(left name ps (v,false))=(v,false):=by
 induction ps with
 |nil=>intro v;rfl
 |cons x r ih=>intro v;simp only [left,List.foldl_cons];rw [show dD name (v,false) x=(v,false) by simp [dD]];exact ih v
theorem NQ (name:aD) (ps:List Place) (x:Place) (v:bz×Bool):left name (ps++[x]) v=dD name (left name ps v) x:=by simp [left]
def bz.w (v:bz):Prop:=∀k<4,0≤v.at_ k∧v.at_ k<18446744073709551616
theorem bz.WZ {a b:bz} (h:∀k<4,a.at_ k=b.at_ k):a=b:=by
 rw [nT];exact ⟨h 0 (by decide),h 1 (by decide),h 2 (by decide),h 3 (by decide)⟩
theorem TW {P:Nat→Prop}:(∀k<4,P k)↔P 0∧P 1∧P 2∧P 3:=by
 constructor
 ·intro h;exact ⟨h 0 (by decide),h 1 (by decide),h 2 (by decide),h 3 (by decide)⟩
 rintro ⟨h0,h1,h2,h3⟩ k hk
 match k,hk with
 |0,_=>exact h0
 |1,_=>exact h1
 |2,_=>exact h2
 |3,_=>exact h3
theorem TX {x y:Int}:(HS x y).2=true↔y.toNat≤x.toNat:=by
 unfold HS;split<;>simp<;>omega
theorem TY {x y:Int}:(HR x y).2=true↔x.toNat+y.toNat<18446744073709551616:=by
 unfold HR;split<;>simp<;>omega
theorem sR {a b:bz}:(gu a b).2=true↔∀k<4,(b.at_ k).toNat≤(a.at_ k).toNat:=by
 rw [TW];simp only [bz.at_,←TX]
 unfold gu both;split
 ·rename_i h;simp only [Bool.and_eq_true] at h;simp [h]
 rename_i h;simp only [Bool.and_eq_true,not_and] at h;simp;intro h1 h2 h3;simpa using h ⟨⟨h1,h2⟩,h3⟩
theorem Fp {a b:bz}:(gT a b).2=true↔∀k<4,(a.at_ k).toNat+(b.at_ k).toNat<18446744073709551616:=by
 rw [TW];simp only [bz.at_,←TY]
 unfold gT both;split
 ·rename_i h;simp only [Bool.and_eq_true] at h;simp [h]
 rename_i h;simp only [Bool.and_eq_true,not_and] at h;simp;intro h1 h2 h3;simpa using h ⟨⟨h1,h2⟩,h3⟩
theorem Fq {a b:bz} (h:(gu a b).2=true):∀k<4,(gu a b).1.at_ k=((((a.at_ k).toNat-(b.at_ k).toNat)%18446744073709551616:Nat):Int):=by
 have h':=sR.1 h
 rw [TW] at h' ⊢
 simp only [bz.at_] at h' ⊢
 unfold gu both at h ⊢
 split at h
 ·rename_i g
  rw [if_pos g]
  simp only [HS]
  rw [if_neg (by omega),if_neg (by omega),if_neg (by omega),if_neg (by omega)]
  simp
 cases h
theorem MM {a b:bz} (h:(gT a b).2=true):∀k<4,(gT a b).1.at_ k=(((a.at_ k).toNat+(b.at_ k).toNat:Nat):Int):=by
 have h':=Fp.1 h
 rw [TW] at h' ⊢
 simp only [bz.at_] at h' ⊢
 unfold gT both at h ⊢
 split at h
 ·rename_i g
  rw [if_pos g]
  simp only [HR]
  rw [if_pos (by omega),if_pos (by omega),if_pos (by omega),if_pos (by omega)]
  simp
 cases h
theorem Q5 {a b:bz} (h:(gu a b).2=true):(gu a b).1.w:=by
 intro k hk;rw [Fq h k hk];omega
def here (name:aD) (ps:List Place):List Place:=ps.filter (fun x=>decide (x.node=name))
def lg (k:Nat) (l:List Place):Nat:=(l.map (fun x=>(x.v.at_ k).toNat)).sum
theorem sS (name:aD):∀(ps:List Place) (v:bz),v.w→((left name ps (v,true)).2=true↔∀k<4,lg k (here name ps)≤(v.at_ k).toNat)∧
 ((left name ps (v,true)).2=true→∀k<4,(left name ps (v,true)).1.at_ k=(((v.at_ k).toNat-lg k (here name ps):Nat):Int))
 |[],v,hv=>by
  simp only [left,List.foldl_nil,here,List.filter_nil,lg,List.map_nil,List.sum_nil]
  exact ⟨by simp,fun _ k hk=>by have:=hv k hk;omega⟩
 |x::r,v,hv=>by
  by_cases hx:x.node=name
  ·have e1:left name (x::r) (v,true)=left name r (gu v x.v):=by simp [left,dD,hx]
   have e2:here name (x::r)=x::here name r:=by simp [here,hx]
   rw [e1,e2]
   cases hs:(gu v x.v).2 with
   |false=>
    have e3:gu v x.v=((gu v x.v).1,false):=by rw [←hs]
    rw [e3,KN]
    refine ⟨⟨fun h=>Bool.noConfusion h,fun h=>?_⟩,fun h=>Bool.noConfusion h⟩
    have:(gu v x.v).2=true:=sR.2 fun k hk=>by have:=h k hk;simp [lg] at this;omega
    rw [hs] at this;cases this
   |true=>
    have e3:gu v x.v=((gu v x.v).1,true):=by rw [←hs]
    rw [e3]
    obtain ⟨i1,i2⟩:=sS name r (gu v x.v).1 (Q5 hs)
    have TM:=Fq hs
    have hok:=sR.1 hs
    constructor
    ·rw [i1]
     constructor
     ·intro h k hk;have a1:=h k hk;have a2:=TM k hk;have a3:=hok k hk;have a4:=hv k hk
      rw [a2] at a1;simp only [lg,List.map_cons,List.sum_cons] at a1 ⊢;omega
     intro h k hk;have a1:=h k hk;have a2:=TM k hk;have a3:=hok k hk;have a4:=hv k hk
     rw [a2];simp only [lg,List.map_cons,List.sum_cons] at a1 ⊢;omega
    intro h k hk
    rw [i2 h k hk];have a1:=(i1.1 h) k hk;have a2:=TM k hk;have a3:=hok k hk;have a4:=hv k hk
    rw [a2] at a1 ⊢;simp only [lg,List.map_cons,List.sum_cons] at a1 ⊢;omega
  have e1:left name (x::r) (v,true)=left name r (v,true):=by simp [left,dD,hx]
  have e2:here name (x::r)=here name r:=by simp [here,hx]
  rw [e1,e2];exact sS name r v hv
theorem KO {k:Nat} {l m:List Place} (h:l.Sublist m):lg k l≤lg k m:=by
 unfold lg
 induction h with
 |slnil=>simp
 |cons a _ ih=>simp;omega
 |cons_cons a _ ih=>simp;omega
structure cO.w (p:cO):Prop where
 cap:∀n∈p.nodes,n.cap.w
 v:∀x∈p.places,x.v.w
theorem cO.TZ {p:cO} (h:p.ok) (hw:p.w) {n:Node} (hn:n∈p.nodes):∀k<4,lg k (Dem.here n.name p.places)≤(n.cap.at_ k).toNat:=by
 have:=h.free n hn
 rw [jZ h.Gg hn] at this
 exact (sS n.name p.places n.cap (hw.cap n hn)).1.1 this
theorem KP {p:cO} (ha:SV p.nodes) (hc:∀n∈p.nodes,n.cap.w) {n:Node} (hn:n∈p.nodes) (h:∀k<4,lg k (here n.name p.places)≤(n.cap.at_ k).toNat):(gE n.name p.nodes p.places).2=true:=by
 rw [jZ ha hn];exact (sS n.name p.places n.cap (hc n hn)).1.2 h
theorem T0 {p:cO} (h:p.ok) (hw:p.w) (f:Place→Bool):cO.ok ⟨p.nodes,p.places.filter f⟩:=by
 refine ⟨h.Gg,h.C4,fun n hn=>?_,h.most,fun x hx=>h.here x (List.mem_filter.1 hx).1⟩
 refine KP (p:=⟨p.nodes,p.places.filter f⟩) h.Gg hw.cap hn fun k hk=>?_
 refine Nat.le_trans (KO ?_) (cO.TZ h hw hn k hk)
 exact (List.filter_sublist (l:=p.places) (p:=f)).filter _
theorem W0 {p:cO} (hw:p.w) (f:Place→Bool):cO.w ⟨p.nodes,p.places.filter f⟩:=⟨hw.cap,fun x hx=>hw.v x (List.mem_filter.1 hx).1⟩
theorem KQ:bz.zero.w:=by
 intro k hk;have:bz.zero.at_ k=0:=by unfold bz.at_;split<;>rfl
 rw [this];omega
theorem uF {name:aD} {v:bz} {l:List Node} {ps:List Place} (h:qo name v l ps=0):(gk name l).2=true∧(gk name l).1.up=true∧(gE name l ps).2=true∧mU v (gE name l ps).1=true:=by
 unfold qo at h
 split at h
 ·omega
 split at h
 ·omega
 split at h
 ·omega
 rename_i h1 h2 h3
 simp only [Bool.or_eq_true,not_or,Bool.not_eq_true',Bool.not_eq_false] at h1 h2 h3
 exact ⟨h1,h2,h3.1,h3.2⟩
theorem T1 {p:cO} (h:p.ok) (hw:p.w) {name:aD} {v:bz} (hv:v.w) (bu:Int) (h0:qo name v p.nodes p.places=0):cO.ok ⟨p.nodes,p.places++[⟨bu,name,v⟩]⟩∧cO.w ⟨p.nodes,p.places++[⟨bu,name,v⟩]⟩:=by
 obtain ⟨r1,r2,r3,r4⟩:=uF h0
 obtain ⟨m1,m2⟩:=KM r1
 refine ⟨⟨h.Gg,h.C4,fun n hn=>?_,h.most,?_⟩,⟨hw.cap,?_⟩⟩
 ·show (gE n.name p.nodes (p.places++[⟨bu,name,v⟩])).2=true
  rw [jZ h.Gg hn,NQ]
  have hl:=h.free n hn
  rw [jZ h.Gg hn] at hl
  unfold dD
  split
  ·rename_i g
   simp only [Bool.and_eq_true,decide_eq_true_eq] at g
   obtain ⟨g1,g2⟩:=g
   rw [gE,g2,] at r4
   have e:gE name p.nodes p.places=left n.name p.places (n.cap,true):=by
    rw [g2,DY h.Gg hn,if_pos hl]
   rw [←g2] at r4
   have r4':mU v (left n.name p.places (n.cap,true)).1=true:=by rw [←e,g2];unfold gE;rw [←g2];exact r4
   exact r4'
  exact hl
 ·intro x hx
  rcases List.mem_append.1 hx with hx|hx
  ·exact h.here x hx
  simp at hx;subst hx;exact ⟨_,m1,m2⟩
 intro x hx
 rcases List.mem_append.1 hx with hx|hx
 ·exact hw.v x hx
 simp at hx;subst hx;exact hv
theorem DZ (l:List Node) (bu:Int) {v:bz} (hv:v.w):∀(names:List aD) (ps:List Place),cO.ok ⟨l,ps⟩→cO.w ⟨l,ps⟩→(fN l bu v names ps).1=none→cO.ok ⟨l,(fN l bu v names ps).2⟩∧cO.w ⟨l,(fN l bu v names ps).2⟩
 |[],ps,h,hw,_=>⟨h,hw⟩
 |n::r,ps,h,hw,g=>by
  unfold fN at g ⊢
  split
  ·rename_i h1;rw [if_pos h1] at g;cases g
  rename_i h1
  rw [if_neg h1] at g
  have h0:qo n v l ps=0:=by omega
  obtain ⟨a,b⟩:=T1 (p:=⟨l,ps⟩) h hw hv bu h0
  exact DZ l bu hv r _ a b g
theorem W1 {p:cO} (h:p.ok) (hw:p.w) (bu:Int) (names:List aD) {v:bz} (hv:v.w):(xM p bu names v).1.ok∧(xM p bu names v).1.w:=by
 unfold xM
 split
 ·exact ⟨h,hw⟩
 rename_i g;exact DZ p.nodes bu hv names p.places h hw g
theorem Ii (l:List Node) (nm:aD):pat l nm≤l.length∧(∀n∈l.take (pat l nm),n.name<nm)∧(∀n,l[pat l nm]?=some n→¬n.name<nm):=by
 unfold pat
 split
 ·rename_i k hk
  obtain ⟨AD,hp,hb⟩:=List.findIdx?_eq_some_iff_getElem.1 hk
  refine ⟨by omega,?_,?_⟩
  ·intro n hn
   obtain ⟨j,hj⟩:=List.getElem?_of_mem hn
   rw [List.getElem?_take] at hj
   split at hj
   ·rename_i Wj
    rw [List.getElem?_eq_getElem (by omega)] at hj
    cases hj
    have:=hb j Wj
    simpa [DW] using this
   cases hj
  intro n hn
  rw [List.getElem?_eq_getElem AD] at hn;cases hn
  simpa [DW] using hp
 rename_i hk
 rw [List.findIdx?_eq_none_iff] at hk
 refine ⟨Nat.le_refl _,?_,?_⟩
 ·intro n hn
  rw [List.take_length] at hn
  have:=hk n hn
  simpa [DW] using this
 intro n hn;simp at hn
theorem Aa {l:List Node} {k:Nat} {x y:Node}:y∈l.take k++x::l.drop k↔y∈l∨y=x:=by
 rw [List.mem_append,List.mem_cons]
 constructor
 ·rintro (h|h|h)
  ·exact .inl (List.mem_of_mem_take h)
  ·exact .inr h
  exact .inl (List.mem_of_mem_drop h)
 rintro (h|h)
 ·rw [←List.take_append_drop k l,List.mem_append] at h
  rcases h with h|h
  ·exact .inl h
  exact .inr (.inr h)
 exact .inr (.inl h)
theorem T3 {l:List Node} (ha:SV l) {x:Node} (hn:∀n∈l,n.name≠x.name):SV (l.take (pat l x.name)++x::l.drop (pat l x.name)):=by
 obtain ⟨h1,h2,h3⟩:=Ii l x.name
 have hs:=ha
 rw [←List.take_append_drop (pat l x.name) l] at hs
 have hs':=List.pairwise_append.1 hs
 have hd:∀n∈l.drop (pat l x.name),x.name<n.name:=by
  intro n hm
  cases hc:l.drop (pat l x.name) with
  |nil=>rw [hc] at hm;cases hm
  |cons m r=>
   have hlt:pat l x.name<l.length:=by
    rcases Nat.lt_or_ge (pat l x.name) l.length with h|h
    ·exact h
    rw [List.drop_eq_nil_of_le h] at hc;cases hc
   have hg:l[pat l x.name]?=some m:=by
    have:(l.drop (pat l x.name))[0]?=some m:=by rw [hc];rfl
    simpa using this
   have NA:m∈l:=List.mem_of_getElem? hg
   have hm1:x.name<m.name:=by
    rcases MK x.name m.name with h|h|h
    ·exact h
    ·exact absurd h.symm (hn m NA)
    exact absurd h (h3 m hg)
   rw [hc] at hm
   rcases List.mem_cons.1 hm with rfl|hm
   ·exact hm1
   have:=hs'.2.1;rw [hc] at this
   exact xZ hm1 ((List.pairwise_cons.1 this).1 n hm)
 refine List.pairwise_append.2 ⟨hs'.1,List.pairwise_cons.2 ⟨hd,hs'.2.1⟩,?_⟩
 intro a Zz b hb
 rcases List.mem_cons.1 hb with rfl|hb
 ·exact h2 a Zz
 exact hs'.2.2 a Zz b hb
theorem uG (p:cO) (n:Node):((rO p n).1=p∧(rO p n).2≠0)∨(n.C4=true∧(∀m∈p.nodes,m.name≠n.name)∧p.nodes.length<16∧
 rO p n=(⟨p.nodes.take (pat p.nodes n.name)++{n with up:=true}::p.nodes.drop (pat p.nodes n.name),p.places⟩,0)):=by
 unfold rO
 split
 ·exact .inl ⟨rfl,by simp⟩
 split
 ·exact .inl ⟨rfl,by simp⟩
 split
 ·exact .inl ⟨rfl,by simp⟩
 split
 ·exact .inl ⟨rfl,by simp⟩
 rename_i h1 h2 h3 h4
 simp only [Bool.not_eq_true',Bool.not_eq_false] at h1 h2
 refine .inr ⟨by simp [Node.C4,h1,h2],?_,by omega,rfl⟩
 rw [←eT] at h3
 intro m hm e
 exact h3 (List.any_eq_true.2 ⟨m,hm,by simp [e]⟩)
theorem NR {name:aD} {ps:List Place} (h:∀x∈ps,x.node≠name) (v:bz×Bool):left name ps v=v:=by
 unfold left
 induction ps generalizing v with
 |nil=>rfl
 |cons x r ih=>
  rw [List.foldl_cons,show dD name v x=v by simp [dD,h x (by simp)]]
  exact ih (fun y hy=>h y (by simp [hy])) v
theorem W2 {p:cO} (h:p.ok) (hw:p.w) {n:Node} (hc:n.cap.w):(rO p n).1.ok∧(rO p n).1.w:=by
 rcases uG p n with ⟨e,_⟩|⟨h1,h2,h3,e⟩
 ·rw [e];exact ⟨h,hw⟩
 rw [e]
 have ha:SV (p.nodes.take (pat p.nodes n.name)++{n with up:=true}::p.nodes.drop (pat p.nodes n.name)):=T3 (x:={n with up:=true}) h.Gg h2
 refine ⟨⟨ha,?_,?_,?_,?_⟩,⟨?_,hw.v⟩⟩
 ·intro m hm;rcases Aa.1 hm with hm|rfl
  ·exact h.C4 m hm
  exact h1
 ·intro m hm
  show (gE m.name (p.nodes.take (pat p.nodes n.name)++{n with up:=true}::p.nodes.drop (pat p.nodes n.name)) p.places).2=true
  rw [jZ ha hm]
  rcases Aa.1 hm with hm|rfl
  ·have:=h.free m hm;rwa [jZ h.Gg hm] at this
  rw [NR]
  intro x hx e
  obtain ⟨m,hm,em⟩:=h.here x hx
  exact h2 m hm (by rw [em,e])
 ·have:=(Ii p.nodes n.name).1;simp;omega
 ·intro x hx
  obtain ⟨m,hm,em⟩:=h.here x hx
  exact ⟨m,Aa.2 (.inl hm),em⟩
 intro m hm;rcases Aa.1 hm with hm|rfl
 ·exact hw.cap m hm
 exact hc
theorem T6:cO.ok ⟨[],[]⟩:=⟨List.Pairwise.nil,by simp,by simp,by simp,by simp⟩
theorem W3:cO.w ⟨[],[]⟩:=⟨by simp,by simp⟩
theorem x9 {α β:Type} {P:α→Prop} {f:α→β→α} (hf:∀a b,P a→P (f a b)):∀(l:List β) (a:α),P a→P (l.foldl f a)
 |[],_,h=>h
 |b::r,a,h=>x9 hf r (f a b) (hf a b h)
end Dem
end
section
open Go Dem Go.Proofs
namespace Dem
variable {t:Th}
theorem Ip (ht:TT t) {l:List Node} {ps:List Place} {es qs:List (List D)} (aF:es=l.map Node.cells) (fq:qs=ps.map Place.cells) (hl:l.length<1000000000) (nQ:ps.length<1000000000):
 FC 38 [.agg [SL es,SL qs]] [] (.ret (WW t (t _ fun _=>l.filterMap (tP l ps)))) []:=by
 refine bC ht (aE:=[]) Tryz.func38 (c:=_) rfl rfl (N:=38) rfl (rs:=_) rfl (n:=0) rfl rfl ?_
 cbv
 have ar:es.length=l.length:=by rw [aF,lgM]
 have dM:qs.length=ps.length:=by rw [fq,lgM]
 obtain ⟨J0,eg⟩:∃J0:Nat→List (List D)×Int→Prop,∀n o i,J0 n (o,i)↔(∃(k:Nat) (rs:List cu),i=k∧k+n=l.length∧o=rs.map cu.cells∧rs.length≤k∧l.filterMap (tP l ps)=rs++(l.drop k).filterMap (tP l ps)):=⟨fun n v=>match v with|(o,i)=>(∃(k:Nat) (rs:List cu),i=k∧k+n=l.length∧o=rs.map cu.cells∧rs.length≤k∧l.filterMap (tP l ps)=rs++(l.drop k).filterMap (tP l ps)),fun _ _ _=>Iff.rfl⟩
 refine aZ ⟨[1,3,9,10,11],[(3,6)],[]⟩ (σ:=List (List D)×Int) (fun v=>[(3,.ow 1 6 (t _ fun _=>(v.1).length)),(11,.d (.int .i64 (t _ fun _=>v.2)))]) (fun v=>[(1,.row 6 (t _ fun _=>v.1))]) J0 ?_
 cbv
 refine aA ⟨l.length,([],_),(eg _ _ _).2 ?_,by simp only [ht];rfl,?_⟩
 ·exact ⟨0,[],rfl,by simp,rfl,by simp,by simp⟩
 rintro n ⟨o,i⟩ hj
 replace hj:=(eg _ _ _).1 hj
 obtain ⟨k,rs,rfl,j1,j2,j3,j4⟩:=hj
 have tV:o.length=rs.length:=by rw [j2,lgM]
 cbv
 refine ai (fun h1=>?_) (fun h1=>?_)
 ·simp [ht,aa,ar] at h1
  cbv
  refine dg ht aF (cT:=Node.aH t) (by (simp only [ht,aa];omega)) (by (simp only [ht,aa];omega)) (fun _=>rfl) (fun _=>(by (simp only [ht,Node.aH];done))) (fun x2 iw=>?_)
  simp [ht,aa] at iw
  rw [bO iw,List.filterMap_cons,tP] at j4
  cbv
  refine ay trivial (Fv ht _ (by assumption) (by assumption) (by omega) (by omega)) trivial rfl rfl (fun r3 gH=>?_)
  simp only [ht] at gH
  cbv
  iterate 2 refine gI (by simp) ?_
  refine pI (by simp) ?_
  refine ai (fun h4=>?_) (fun h4=>?_)
  ·simp [ht] at h4
   cbv
   refine ⟨?_,?_⟩
   ·(simp only [ht,true_and];exact zb j2 (fun _=>rfl) rfl (by omega) (by decide))
   cbv
   refine bf (_,_) (by simp only [ht,←List.length_append];rfl) (n-1) ?_ ((eg _ _ _).2 ?_)
   ·omega
   simp only [aa]
   refine ⟨k+1,rs++[⟨(x2).name,(gE (x2).name l ps).1,(x2).labels⟩],aC (by omega),by omega,?_,by simp;omega,?_⟩
   ·(simp [cu.cells, *];done)
   (simp_all;done)
  simp [ht] at h4
  cbv
  refine bf (_,_) (by simp only [ht];rfl) (n-1) ?_ ((eg _ _ _).2 ?_)
  ·omega
  simp only [aa]
  exact ⟨k+1,rs,aC (by omega),by omega,j2,by omega,by grind⟩
 simp [ht,aa,ar] at h1
 cbv
 refine an trivial (by simp [ht]) rfl rfl rfl ?_
 (rw [List.drop_eq_nil_of_le (by omega)] at j4;simp [*];done)
end Dem
end
section
open Go
namespace Dem
theorem yd (P:aD):[]∈above P:=by simp [above]
theorem sY (k:Nat):vk k bz.zero=0:=by unfold vk bz.at_;split<;>rfl
theorem Od {v:bz} (h:v.w) {k:Nat} (hk:k<4):v.at_ k=(vk k v:Int)∧vk k v<18446744073709551616:=by
 have:=h k hk;unfold vk;omega
theorem FI {a b:bz} (ha:a.w) (hb:b.w) (h:∀k<4,vk k a=vk k b):a=b:=by
 refine bz.WZ fun k hk=>?_
 rw [(Od ha hk).1,(Od hb hk).1,h k hk]
theorem FJ {a b:bz} (h:(gT a b).2=true):(gT a b).1.w:=by
 intro k hk
 have h1:=MM h k hk
 have h2:=Fp.1 h k hk
 rw [h1];omega
theorem sZ {a b:bz} (h:(gT a b).2=true) {k:Nat} (hk:k<4):vk k (gT a b).1=vk k a+vk k b:=by
 unfold vk;rw [MM h k hk];omega
theorem MW {a b:bz} (ha:a.w) (h:(gu a b).2=true) {k:Nat} (hk:k<4):vk k (gu a b).1=vk k a-vk k b:=by
 have:=(Od ha hk).2
 unfold vk at*;rw [Fq h k hk]
 have h2:((a.at_ k).toNat-(b.at_ k).toNat)%18446744073709551616=(a.at_ k).toNat-(b.at_ k).toNat:=Nat.mod_eq_of_lt (by omega)
 omega
theorem uK {a b:bz}:mU a b=true↔∀k<4,vk k a≤vk k b:=sR
structure Tree.ok (l:List aR):Prop where
 root:∃e r,l=e::r∧e.path=[]
 most:l.length≤16
 Gg:l.Pairwise (fun x y=>x.path<y.path)
 named:∀e∈l,named e.path=true
 par:∀e∈l,∃f∈l,f.path=parent e.path
 fits:∀e∈l,∀k<4,vk k e.used≤vk k e.dc
 w:∀e∈l,e.dc.w∧e.used.w
theorem Ru {t:List aR} (ha:t.Pairwise (fun x y=>x.path<y.path)) {i j:Nat} {x y:aR} (hx:t[i]?=some x) (hy:t[j]?=some y) (e:x.path=y.path):i=j:=by
 obtain ⟨hi,rfl⟩:=List.getElem?_eq_some_iff.1 hx
 obtain ⟨hj,rfl⟩:=List.getElem?_eq_some_iff.1 hy
 rcases Nat.lt_trichotomy i j with g|g|g
 ·have:=List.pairwise_iff_getElem.1 ha i j hi hj g;rw [e] at this;exact absurd this (jY _)
 ·exact g
 have:=List.pairwise_iff_getElem.1 ha j i hj hi g;rw [e] at this;exact absurd this (jY _)
theorem Ut {t:List aR} (ha:t.Pairwise (fun x y=>x.path<y.path)) {x y:aR} (hx:x∈t) (hy:y∈t) (e:x.path=y.path):x=y:=by
 obtain ⟨i,hi⟩:=List.getElem?_of_mem hx
 obtain ⟨j,hj⟩:=List.getElem?_of_mem hy
 have:=Ru ha hi hj e
 subst this;rw [hi] at hj;exact Option.some.inj hj
theorem uL {t:List aR} {q:aD} (h:0≤bM t q):∃(i:Nat) (e:aR),t[i]?=some e∧e.path=q∧bM t q=i:=by
 rcases cU (rfl:bM t q=idxOf _ t) with ⟨h1,_⟩|⟨i,x,h1,_,h3,h4,_⟩
 ·omega
 exact ⟨i,x,h3,by simpa using h4,h1⟩
theorem BX {t:List aR} {e:aR} (he:e∈t):0≤bM t e.path:=by
 rcases cU (rfl:bM t e.path=idxOf _ t) with ⟨_,h2,_⟩|⟨i,x,h1,_⟩
 ·rw [List.findIdx?_eq_none_iff] at h2;have:=h2 e he;simp at this
 omega
theorem Lc {t:List aR} {q:aD}:bM t q<0↔∀e∈t,e.path≠q:=by
 constructor
 ·rintro h e he rfl;have:=BX he;omega
 intro h
 refine Int.not_le.1 fun g=>?_
 obtain ⟨i,e,h1,h2,_⟩:=uL g
 exact h e (List.mem_of_getElem? h1) h2
def wA (f:aR→aR×Int) (A:List aD) (t:List aR):List aR:=t.map fun e=>if e.path∈A then (f e).1 else e
theorem wB (f:aR→aR×Int) {t:List aR} (ha:t.Pairwise (fun x y=>x.path<y.path)):∀(A:List aD) (out:List aR),(∀q∈A,0≤bM t q)→out.length=t.length→
 ((∃e∈t,e.path∈A∧(f e).2≠0)∧(jX f t A out).1=t∧(jX f t A out).2≠0)∨
 ((∀e∈t,e.path∈A→(f e).2=0)∧(jX f t A out).2=0∧(jX f t A out).1.length=t.length∧∀(i:Nat) (e:aR),t[i]?=some e→(jX f t A out).1[i]?=if e.path∈A then some (f e).1 else out[i]?)
 |[],out,_,hl=>.inr ⟨by simp,rfl,hl,by intro i e _;simp [jX]⟩
 |q::A,out,hq,hl=>by
  obtain ⟨i,e,h1,h2,h3⟩:=uL (hq q (by simp))
  have hg:t.getD (bM t q).toNat aR.zero=e:=by rw [h3,Int.toNat_natCast,List.getD_eq_getElem?_getD,h1];rfl
  have hem:=List.mem_of_getElem? h1
  have hil:=(List.getElem?_eq_some_iff.1 h1).1
  unfold jX
  rw [hg]
  by_cases h0:(f e).2≠0
  ·rw [if_pos h0];exact .inl ⟨⟨e,hem,by simp [h2],h0⟩,rfl,h0⟩
  rw [if_neg h0]
  simp only [Decidable.not_not] at h0
  rw [h3,Int.toNat_natCast]
  rcases wB f ha A (out.set i (f e).1) (fun q Zw=>hq q (by simp [Zw])) (by simp [hl]) with ⟨⟨x,b1,b2,b3⟩,b4,b5⟩|⟨b1,b2,b3,b4⟩
  ·exact .inl ⟨⟨x,b1,by simp [b2],b3⟩,b4,b5⟩
  refine .inr ⟨?_,b2,b3,?_⟩
  ·intro x hx hp
   rcases List.mem_cons.1 hp with g|g
   ·rw [Ut ha hx hem (by rw [g,h2])];exact h0
   exact b1 x hx g
  intro j x hx
  rw [b4 j x hx]
  by_cases g:x.path∈A
  ·rw [if_pos g,if_pos (by simp [g])]
  rw [if_neg g]
  by_cases g2:x.path=q
  ·have:=Ru ha hx h1 (by rw [g2,h2])
   subst this
   rw [hx] at h1;cases h1
   rw [if_pos (by simp [g2]),List.getElem?_set_self (by omega)]
  have hji:i≠j:=by rintro rfl;rw [hx] at h1;cases h1;exact g2 h2
  rw [if_neg (by simp [g2,g]),List.getElem?_set_ne hji]
theorem zq (f:aR→aR×Int) {t:List aR} (ha:t.Pairwise (fun x y=>x.path<y.path)) (p:aD):
 ((qp f t p).1=t∧(qp f t p).2≠0∧(named p=false∨(∃q∈above p,∀e∈t,e.path≠q)∨∃e∈t,e.path∈above p∧(f e).2≠0))∨
 (qp f t p=(wA f (above p) t,0)∧named p=true∧(∀q∈above p,∃e∈t,e.path=q)∧∀e∈t,e.path∈above p→(f e).2=0):=by
 unfold qp
 cases hn:named p with
 |false=>exact .inl ⟨rfl,by simp,.inl rfl⟩
 |true=>
  simp only [Bool.not_true,Bool.false_eq_true,if_false]
  by_cases h:((above p).any fun q=>decide (bM t q<0))=true
  ·rw [if_pos h]
   obtain ⟨q,hq,g⟩:=List.any_eq_true.1 h
   exact .inl ⟨rfl,by simp,.inr (.inl ⟨q,hq,Lc.1 (by simpa using g)⟩)⟩
  rw [if_neg h]
  have hq:∀q∈above p,0≤bM t q:=fun q hq=>Int.not_lt.1 fun g=>h (List.any_eq_true.2 ⟨q,hq,by simpa using g⟩)
  rcases wB f ha (above p) t hq rfl with ⟨b1,b2,b3⟩|⟨b1,b2,b3,b4⟩
  ·exact .inl ⟨b2,b3,.inr (.inr b1)⟩
  refine .inr ⟨?_,by trivial,fun q hm=>?_,b1⟩
  ·refine Prod.ext ?_ b2
   refine List.ext_getElem? fun i=>?_
   unfold wA
   rw [List.getElem?_map]
   cases hi:t[i]? with
   |none=>rw [List.getElem?_eq_none_iff] at hi;simp only [Option.map_none];rw [List.getElem?_eq_none_iff];omega
   |some e=>
    rw [b4 i e hi]
    simp only [Option.map_some]
    split
    ·rfl
    exact hi
  obtain ⟨i,e,g1,g2,_⟩:=uL (hq q hm)
  exact ⟨e,List.mem_of_getElem? g1,g2⟩
theorem wC {v:bz} {e:aR}:(gm v e).2=0↔(gT e.used v).2=true∧mU (gT e.used v).1 e.dc=true:=by
 unfold gm
 cases h1:(gT e.used v).2<;>cases h2:mU (gT e.used v).1 e.dc<;>simp
theorem zu {v:bz} {e:aR} (h:(gm v e).2=0):(gm v e).1={e with used:=(gT e.used v).1}:=by
 obtain ⟨h1,h2⟩:=wC.1 h
 unfold gm;rw [h1,h2];rfl
theorem wD {v:bz} {e:aR}:(ek v e).2=0↔(gu e.used v).2=true:=by
 unfold ek
 cases h1:(gu e.used v).2<;>simp
theorem zw {v:bz} {e:aR} (h:(ek v e).2=0):(ek v e).1={e with used:=(gu e.used v).1}:=by
 unfold ek;rw [wD.1 h];rfl
structure dJ (t u:List aR):Prop where
 len:u.length=t.length
 at_:∀(i:Nat) (e:aR),t[i]?=some e→∃x,u[i]?=some x∧x.path=e.path∧x.dc=e.dc
theorem dJ.paths {t u:List aR} (h:dJ t u):u.map (·.path)=t.map (·.path):=by
 refine List.ext_getElem? fun i=>?_
 rw [List.getElem?_map,List.getElem?_map]
 cases hi:t[i]? with
 |none=>rw [List.getElem?_eq_none_iff] at hi;rw [List.getElem?_eq_none_iff.2 (by rw [h.len];exact hi)]
 |some e=>obtain ⟨x,h1,h2,_⟩:=h.at_ i e hi;rw [h1];simp [h2]
theorem dJ.back {t u:List aR} (h:dJ t u) {x:aR} (hx:x∈u):∃e∈t,x.path=e.path∧x.dc=e.dc:=by
 obtain ⟨i,hi⟩:=List.getElem?_of_mem hx
 have hl:=(List.getElem?_eq_some_iff.1 hi).1
 rw [h.len] at hl
 obtain ⟨y,h1,h2,h3⟩:=h.at_ i t[i] (List.getElem?_eq_getElem hl)
 rw [hi] at h1;cases h1
 exact ⟨t[i],List.getElem_mem hl,h2,h3⟩
theorem dJ.mem {t u:List aR} (h:dJ t u) {e:aR} (he:e∈t):∃x∈u,x.path=e.path:=by
 obtain ⟨i,hi⟩:=List.getElem?_of_mem he
 obtain ⟨x,h1,h2,_⟩:=h.at_ i e hi
 exact ⟨x,List.mem_of_getElem? h1,h2⟩
theorem dJ.Gg {t u:List aR} (h:dJ t u) (ha:t.Pairwise (fun x y=>x.path<y.path)):u.Pairwise (fun x y=>x.path<y.path):=by
 have h1:(t.map (·.path)).Pairwise (·<·):=List.pairwise_map.2 ha
 rw [←h.paths] at h1
 exact List.pairwise_map.1 h1
theorem dJ.ok {t u:List aR} (h:dJ t u) (ho:Tree.ok t) (hf:∀e∈u,∀k<4,vk k e.used≤vk k e.dc) (hw:∀e∈u,e.used.w):Tree.ok u where
 root:=by
  obtain ⟨e,r,rfl,he⟩:=ho.root
  obtain ⟨x,h1,h2,_⟩:=h.at_ 0 e rfl
  cases u with
  |nil=>cases h1
  |cons y r2=>simp at h1;subst h1;exact ⟨y,r2,rfl,by rw [h2,he]⟩
 most:=by rw [h.len];exact ho.most
 Gg:=h.Gg ho.Gg
 named:=fun x hx=>by obtain ⟨e,he,h1,_⟩:=h.back hx;rw [h1];exact ho.named e he
 par:=fun x hx=>by
  obtain ⟨e,he,h1,_⟩:=h.back hx
  obtain ⟨f,hf,h2⟩:=ho.par e he
  obtain ⟨y,hy,h3⟩:=h.mem hf
  exact ⟨y,hy,by rw [h3,h2,h1]⟩
 fits:=hf
 w:=fun x hx=>by obtain ⟨e,he,_,h1⟩:=h.back hx;exact ⟨by rw [h1];exact (ho.w e he).1,hw x hx⟩
theorem BZ {f:aR→aR×Int} {A:List aD} {t:List aR} (h:∀e∈t,e.path∈A→(f e).1.path=e.path∧(f e).1.dc=e.dc):dJ t (wA f A t) where
 len:=by simp [wA]
 at_:=by
  intro i e hi
  refine ⟨if e.path∈A then (f e).1 else e,by rw [wA,List.getElem?_map,hi];rfl,?_⟩
  split
  ·rename_i g;exact h e (List.mem_of_getElem? hi) g
  exact ⟨rfl,rfl⟩
abbrev Jb.tot (j:Jb):bz:=(cW j.x).1
def fP (k:Nat) (p:aD) (j:Jb):Nat:=if j.runs=true∧p∈above j.x.path then vk k j.tot else 0
def iB (k:Nat) (p:aD) (l:List Jb):Nat:=(l.map (fP k p)).sum
theorem ko (k:Nat) (p:aD) (j:Jb) (l:List Jb):iB k p (j::l)=fP k p j+iB k p l:=by simp [iB]
abbrev B4 (l:List bX):Prop:=l.Pairwise (fun a b=>cV a b=true)
abbrev B5 (l:List bX):Prop:=l.Pairwise (fun a b=>a.id≠b.id)
theorem pX {a b:bX}:cV a b=true↔b.prio<a.prio∨(a.prio=b.prio∧a.id<b.id):=by simp [cV]
theorem FK {a b c:bX} (h:cV a b=true) (g:cV b c=true):cV a c=true:=by
 rw [pX] at*;omega
theorem Le {a b:bX} (h:a.id≠b.id) (g:¬cV a b=true):cV b a=true:=by
 rw [pX] at*;omega
theorem Rw (l:List bX) (e:bX):xV l e≤l.length∧(∀x∈l.take (xV l e),¬cV e x=true)∧(∀x,l[xV l e]?=some x→cV e x=true):=by
 unfold xV
 cases h:l.findIdx? (fun x=>cV e x) with
 |none=>
  rw [List.findIdx?_eq_none_iff] at h
  refine ⟨Nat.le_refl _,?_,?_⟩
  ·intro x hx;rw [List.take_length] at hx;simp [h x hx]
  intro x hx;simp at hx
 |some k=>
  obtain ⟨hk,hp,hb⟩:=List.findIdx?_eq_some_iff_getElem.1 h
  refine ⟨Nat.le_of_lt hk,?_,?_⟩
  ·intro x hx
   obtain ⟨j,hj⟩:=List.getElem?_of_mem hx
   simp only [List.getElem?_take] at hj
   by_cases g:j<k
   ·rw [if_pos g] at hj
    have:=hb j g
    rw [List.getElem?_eq_getElem (by omega)] at hj
    cases hj;simpa using this
   rw [if_neg g] at hj;cases hj
  intro x hx
  simp only at hx
  rw [List.getElem?_eq_getElem hk] at hx;cases hx;exact hp
theorem IE {l:List bX} (ha:B4 l) {e:bX} (hn:∀x∈l,x.id≠e.id):B4 (l.take (xV l e)++e::l.drop (xV l e)):=by
 obtain ⟨h1,h2,h3⟩:=Rw l e
 have hsp:B4 (l.take (xV l e)++l.drop (xV l e)):=by rw [List.take_append_drop];exact ha
 rw [B4,List.pairwise_append] at hsp ⊢
 obtain ⟨a1,a2,a3⟩:=hsp
 have hb:∀x∈l.take (xV l e),cV x e=true:=fun x hx=>Le (a:=e) (by have:=hn x (List.mem_of_mem_take hx);exact fun g=>this g.symm) (h2 x hx)
 have hc:∀x∈l.drop (xV l e),cV e x=true:=by
  cases hd:l.drop (xV l e) with
  |nil=>intro x hx;cases hx
  |cons y r=>
   have hy:l[xV l e]?=some y:=by
    have:(l.drop (xV l e))[0]?=some y:=by rw [hd];rfl
    rw [List.getElem?_drop,Nat.add_zero] at this;exact this
   have g:=h3 y hy
   intro x hx
   rcases List.mem_cons.1 hx with rfl|hx
   ·exact g
   rw [hd,List.pairwise_cons] at a2
   exact FK g (a2.1 x hx)
 refine ⟨a1,List.pairwise_cons.2 ⟨hc,a2⟩,?_⟩
 intro x hx y hy
 rcases List.mem_cons.1 hy with rfl|hy
 ·exact hb x hx
 exact a3 x hx y hy
theorem IF {l:List bX} {k:Nat} {x y:bX}:y∈l.take k++x::l.drop k↔y∈l∨y=x:=by
 conv=>rhs;rw [←List.take_append_drop k l]
 simp only [List.mem_append,List.mem_cons]
 constructor
 ·rintro (h|h|h)
  ·exact .inl (.inl h)
  ·exact .inr h
  exact .inl (.inr h)
 rintro ((h|h)|h)
 ·exact .inl h
 ·exact .inr (.inr h)
 exact .inr (.inl h)
theorem IG {l:List bX} (hi:B5 l) {e:bX} (hn:∀x∈l,x.id≠e.id) (k:Nat):B5 (l.take k++e::l.drop k):=by
 have hsp:B5 (l.take k++l.drop k):=by rw [List.take_append_drop];exact hi
 rw [B5,List.pairwise_append] at hsp ⊢
 obtain ⟨a1,a2,a3⟩:=hsp
 refine ⟨a1,List.pairwise_cons.2 ⟨fun x hx=>fun g=>hn x (List.mem_of_mem_drop hx) g.symm,a2⟩,?_⟩
 intro x hx y hy
 rcases List.mem_cons.1 hy with rfl|hy
 ·exact hn x (List.mem_of_mem_take hx)
 exact a3 x hx y hy
theorem B6 {l:List bX} {id:Int} (h:0≤gF l id):∃x∈l,x.id=id:=by
 rcases cU (rfl:gF l id=idxOf _ l) with ⟨h1,_⟩|⟨i,x,h1,_,h3,h4,_⟩
 ·omega
 exact ⟨x,List.mem_of_getElem? h3,by simpa using h4⟩
theorem zx (l:List bX) (e:bX):((jI l e).1=l∧(jI l e).2≠0∧(gG e=true∨(∃x∈l,x.id=e.id)∨32≤l.length))∨
 (jI l e=(l.take (xV l e)++e::l.drop (xV l e),0)∧gG e=false∧(∀x∈l,x.id≠e.id)∧l.length<32):=by
 unfold jI
 cases h1:gG e with
 |true=>exact .inl ⟨rfl,by simp,.inl rfl⟩
 |false=>
  simp only [Bool.false_eq_true,if_false]
  by_cases h2:0≤gF l e.id
  ·rw [if_pos h2];exact .inl ⟨rfl,by simp,.inr (.inl (B6 h2))⟩
  rw [if_neg h2]
  by_cases h3:32≤l.length
  ·rw [if_pos h3];exact .inl ⟨rfl,by simp,.inr (.inr h3)⟩
  rw [if_neg h3]
  refine .inr ⟨rfl,by trivial,?_,by omega⟩
  intro x hx g
  refine h2 ?_
  rcases cU (rfl:gF l e.id=idxOf _ l) with ⟨_,h4,_⟩|⟨i,x,h4,_⟩
  ·rw [List.findIdx?_eq_none_iff] at h4;have:=h4 x hx;simp [g] at this
  omega
theorem erase_filter {l:List bX} (hi:B5 l) {k:Nat} {x:bX} (hx:l[k]?=some x):l.eraseIdx k=l.filter fun y=>!decide (y.id=x.id):=by
 induction l generalizing k with
 |nil=>simp at hx
 |cons y r ih=>
  rw [B5,List.pairwise_cons] at hi
  cases k with
  |zero=>
   simp at hx;subst hx
   have:r.filter (fun z=>!decide (z.id=y.id))=r:=by
    rw [List.filter_eq_self];intro z hz;have:=hi.1 z hz;simp;exact fun g=>this g.symm
   simp [this]
  |succ k=>
   simp only [List.getElem?_cons_succ] at hx
   have hne:=hi.1 x (List.mem_of_getElem? hx)
   rw [List.eraseIdx_cons_succ,ih hi.2 hx]
   simp [hne]
theorem mb {l:List bX} (hi:B5 l) (id:Int):(BG l id).1=l.filter fun y=>!decide (y.id=id):=by
 unfold BG
 cases h:l.findIdx? (fun x=>decide (x.id=id)) with
 |none=>
  rw [List.findIdx?_eq_none_iff] at h
  exact (List.filter_eq_self.2 fun x hx=>by simp [h x hx]).symm
 |some k=>
  obtain ⟨hk,hp,_⟩:=List.findIdx?_eq_some_iff_getElem.1 h
  simp only [decide_eq_true_eq] at hp
  show l.eraseIdx k=_
  rw [erase_filter hi (List.getElem?_eq_getElem hk),hp]
abbrev qw (id:Int) (ps:List Place):Nat:=(ps.filter fun x=>decide (x.bu=id)).length
theorem zy (l:List Node) (bu:Int) (v:bz):∀(names:List aD) (ps:List Place),(fN l bu v names ps).1=none→(fN l bu v names ps).2=ps++names.map (fun n=>⟨bu,n,v⟩)∧∀n∈names,(gk n l).2=true∧(gk n l).1.up=true
 |[],ps,_=>by simp [fN]
 |n::r,ps,g=>by
  unfold fN at g ⊢
  split
  ·rename_i h1;rw [if_pos h1] at g;cases g
  rename_i h1
  rw [if_neg h1] at g
  obtain ⟨a,b⟩:=zy l bu v r _ g
  refine ⟨by rw [a];simp,?_⟩
  intro m hm
  rcases List.mem_cons.1 hm with rfl|hm
  ·have h0:qo m v l ps=0:=by omega
   exact ⟨(uF h0).1,(uF h0).2.1⟩
  exact b m hm
theorem zA (l:List Node) (bu:Int) (v:bz):∀(names:List aD) (ps:List Place) (e:Int),(fN l bu v names ps).1=some e→e≠0
 |[],ps,e,g=>by cases g
 |n::r,ps,e,g=>by
  unfold fN at g
  split at g
  ·cases g;assumption
  exact zA l bu v r _ e g
theorem B9 (p:cO) (bu:Int) (names:List aD) (v:bz):((xM p bu names v).1=p∧(xM p bu names v).2≠0)∨
 ((xM p bu names v)=(⟨p.nodes,p.places++names.map (fun n=>⟨bu,n,v⟩)⟩,0)∧∀n∈names,(gk n p.nodes).2=true∧(gk n p.nodes).1.up=true):=by
 unfold xM
 split
 ·rename_i e he;exact .inl ⟨rfl,zA _ _ _ _ _ _ he⟩
 rename_i he
 obtain ⟨a,b⟩:=zy _ _ _ _ _ he
 exact .inr ⟨by rw [a],b⟩
theorem II {p:cO} (h:p.ok) (hw:p.w) (bu:Int):(lC p bu).ok∧(lC p bu).w:=⟨T0 h hw _,W0 hw _⟩
def yf (p:cO):List cu:=p.nodes.filterMap (tP p.nodes p.places)
theorem fL {x:Ask}:cR x=0↔mX x.path x.path=true∧(1≤x.count∧x.count≤8)∧(0≤x.prio∧x.prio≤9)∧(1≤x.dS∧x.dS≤100)∧pP x.b9=true∧(cW x).2=true:=by
 unfold cR
 have e:(!Q3 x.count 1 8||!Q3 x.prio 0 9||!Q3 x.dS 1 100)=!decide ((1≤x.count∧x.count≤8)∧(0≤x.prio∧x.prio≤9)∧(1≤x.dS∧x.dS≤100)):=by
  unfold Q3
  by_cases h1:1≤x.count<;>by_cases h2:x.count≤8<;>by_cases h3:0≤x.prio<;>by_cases h4:x.prio≤9<;>by_cases h5:1≤x.dS<;>by_cases h6:x.dS≤100<;>simp [h1,h2,h3,h4,h5,h6]
 rw [e]
 by_cases h1:mX x.path x.path=true
 ·by_cases h2:(1≤x.count∧x.count≤8)∧(0≤x.prio∧x.prio≤9)∧(1≤x.dS∧x.dS≤100)
  ·by_cases h3:pP x.b9=true
   ·by_cases h4:(cW x).2=true
    ·simp [h1,h2,h3,h4]
    simp [h1,h2,h3,h4]
   simp [h1,h2,h3]
  simp only [h2,decide_false]
  simp only [h1,Bool.not_true,Bool.false_eq_true,if_false,Bool.not_false,if_true]
  constructor
  ·intro h;cases h
  rintro ⟨_,a,b,c,_⟩;exact absurd ⟨a,b,c⟩ h2
 simp [h1]
theorem Cb {t:List aR} {q:aD}:(lA t q).2=true↔∃e∈t,e.path=q:=by
 unfold lA
 cases h:t.find? (fun e=>decide (e.path=q)) with
 |none=>
  rw [List.find?_eq_none] at h
  constructor
  ·intro g;cases g
  rintro ⟨e,he,g⟩;have:=h e he;simp [g] at this
 |some e=>
  have h1:=List.find?_some h
  exact ⟨fun _=>⟨e,List.mem_of_find?_eq_some h,by simpa using h1⟩,fun _=>rfl⟩
theorem Cc {t:List aR} {p:aD}:gV t p=true↔∀q∈above p,∃e∈t,e.path=q:=by
 unfold gV
 rw [Bool.not_eq_true',List.any_eq_false]
 simp only [List.mem_append,List.mem_singleton]
 constructor
 ·intro h q hq
  have:=h q (by rcases List.mem_cons.1 hq with g|g;exact .inr g;exact .inl g)
  exact Cb.1 (by simpa using this)
 intro h q hq
 have:=Cb.2 (h q (by rcases hq with g|g;exact List.mem_cons_of_mem _ g;rw [g];exact yd p))
 simp [this]
theorem jv {t u:List aR} (h:dJ t u) {p:aD} (hs:gV t p=true):gV u p=true:=by
 rw [Cc] at hs ⊢
 intro q hq
 obtain ⟨e,he,rfl⟩:=hs q hq
 exact h.mem he
abbrev rV (l:List Jb):Prop:=l.Pairwise (fun a b=>a.id<b.id)
theorem FL {l:List Jb} (ha:rV l) {i k:Nat} {x y:Jb} (hx:l[i]?=some x) (hy:l[k]?=some y) (e:x.id=y.id):i=k:=by
 obtain ⟨hi,rfl⟩:=List.getElem?_eq_some_iff.1 hx
 obtain ⟨hk,rfl⟩:=List.getElem?_eq_some_iff.1 hy
 rcases Nat.lt_trichotomy i k with g|g|g
 ·have:=List.pairwise_iff_getElem.1 ha i k hi hk g;omega
 ·exact g
 have:=List.pairwise_iff_getElem.1 ha k i hk hi g;omega
theorem kT {l:List Jb} (ha:rV l) {x y:Jb} (hx:x∈l) (hy:y∈l) (e:x.id=y.id):x=y:=by
 obtain ⟨i,hi⟩:=List.getElem?_of_mem hx
 obtain ⟨j,hj⟩:=List.getElem?_of_mem hy
 have:=FL ha hi hj e
 subst this;rw [hi] at hj;exact Option.some.inj hj
theorem IM {l:List Jb} (ha:rV l) {k:Nat} {j x:Jb} (hj:l[k]?=some j) {y:Jb}:y∈l.set k x↔y=x∨(y∈l∧y.id≠j.id):=by
 have hk:=(List.getElem?_eq_some_iff.1 hj).1
 constructor
 ·intro h
  obtain ⟨i,hi⟩:=List.getElem?_of_mem h
  by_cases e:k=i
  ·subst e;rw [List.getElem?_set_self hk] at hi;cases hi;exact .inl rfl
  rw [List.getElem?_set_ne e] at hi
  exact .inr ⟨List.mem_of_getElem? hi,fun g=>e (FL ha hj hi g.symm)⟩
 rintro (rfl|⟨h,g⟩)
 ·exact List.mem_of_getElem? (List.getElem?_set_self hk)
 obtain ⟨i,hi⟩:=List.getElem?_of_mem h
 have e:k≠i:=by rintro rfl;rw [hi] at hj;cases hj;exact g rfl
 exact List.mem_of_getElem? (i:=i) (by rw [List.getElem?_set_ne e];exact hi)
theorem Xk {l:List Jb} (ha:rV l) {k:Nat} {j:Jb} (hj:l[k]?=some j):l.eraseIdx k=l.filter fun y=>!decide (y.id=j.id):=by
 induction l generalizing k with
 |nil=>simp at hj
 |cons y r ih=>
  rw [rV,List.pairwise_cons] at ha
  cases k with
  |zero=>
   simp at hj;subst hj
   have:r.filter (fun z=>!decide (z.id=y.id))=r:=by
    rw [List.filter_eq_self];intro z hz;have:=ha.1 z hz;simp;omega
   simp [this]
  |succ k=>
   simp only [List.getElem?_cons_succ] at hj
   have hne:¬y.id=j.id:=by have:=ha.1 j (List.mem_of_getElem? hj);omega
   rw [List.eraseIdx_cons_succ,ih ha.2 hj]
   simp [hne]
theorem Lg {l:List Jb} (ha:rV l) {k:Nat} {j:Jb} (hj:l[k]?=some j) {y:Jb}:y∈l.eraseIdx k↔y∈l∧y.id≠j.id:=by
 rw [Xk ha hj,List.mem_filter];simp
theorem IN {l:List Jb} (ha:rV l) {k:Nat} {j x:Jb} (hj:l[k]?=some j) (e:x.id=j.id):rV (l.set k x):=by
 have h1:(l.set k x).map (·.id)=l.map (·.id):=by
  rw [List.map_set,e]
  have hk:=(List.getElem?_eq_some_iff.1 hj).1
  refine List.ext_getElem? fun i=>?_
  by_cases g:k=i
  ·subst g;rw [List.getElem?_set_self (by simpa using hk),List.getElem?_map,hj];rfl
  rw [List.getElem?_set_ne g]
 have h2:(l.map (·.id)).Pairwise (·<·):=List.pairwise_map.2 ha
 rw [←h1] at h2
 exact List.pairwise_map.1 h2
theorem Cd (k:Nat) (p:aD):∀{l:List Jb} {i:Nat} {j:Jb} (x:Jb),l[i]?=some j→iB k p (l.set i x)+fP k p j=iB k p l+fP k p x
 |[],_,_,_,h=>by simp at h
 |y::r,0,j,x,h=>by simp at h;subst h;simp only [List.set_cons_zero,ko];omega
 |y::r,i+1,j,x,h=>by
  simp only [List.getElem?_cons_succ] at h
  have:=Cd k p x h
  simp only [List.set_cons_succ,ko];omega
theorem uN (k:Nat) (p:aD):∀{l:List Jb} {i:Nat} {j:Jb},l[i]?=some j→iB k p (l.eraseIdx i)+fP k p j=iB k p l
 |[],_,_,h=>by simp at h
 |y::r,0,j,h=>by simp at h;subst h;simp only [List.eraseIdx_cons_zero,ko];omega
 |y::r,i+1,j,h=>by
  simp only [List.getElem?_cons_succ] at h
  have:=uN k p h
  simp only [List.eraseIdx_cons_succ,ko];omega
theorem Oh (k:Nat) (p:aD) (l:List Jb) (x:Jb):iB k p (l++[x])=iB k p l+fP k p x:=by simp [iB]
theorem Uw (k:Nat) (p:aD) {l:List Jb} {j:Jb} (h:j∈l):fP k p j≤iB k p l:=by
 induction l with
 |nil=>cases h
 |cons y r ih=>
  rw [ko]
  rcases List.mem_cons.1 h with rfl|h
  ·omega
  have:=ih h;omega
theorem uO {l:List Jb} {id:Int} {k:Nat} (h:l.findIdx? (fun j=>decide (j.id=id))=some k):∃j,l[k]?=some j∧j.id=id∧l.getD k Jb.zero=j:=by
 obtain ⟨hk,hp,_⟩:=List.findIdx?_eq_some_iff_getElem.1 h
 refine ⟨l[k],List.getElem?_eq_getElem hk,by simpa using hp,?_⟩
 rw [List.getD_eq_getElem?_getD,List.getElem?_eq_getElem hk];rfl
structure cH.ok (s:cH):Prop where
 aW:s.aW.ok
 rW:s.aW.w
 tree:Tree.ok s.tree
 used:∀e∈s.tree,∀k<4,vk k e.used=iB k e.path s.aI
 most:s.aI.length≤32
 next:1≤s.next∧s.next<18446744073709551616
 ids:rV s.aI
 IP:∀j∈s.aI,1≤j.id∧j.id<s.next
 CN:∀j∈s.aI,cR j.x=0∧j.x.fQ.w∧gV s.tree j.x.path=true
 left:∀j∈s.aI,(j.runs=true→1≤j.left∧j.left≤j.x.dS)∧(j.runs=false→j.left=0)
 wG:B4 s.queue
 qH:B5 s.queue
 qJ:∀q,q∈s.queue↔∃j∈s.aI,j.runs=false∧q=⟨j.id,j.x.prio⟩
 places:∀x∈s.aW.places,∃j∈s.aI,j.runs=true∧j.id=x.bu∧x.v=j.x.fQ
 count:∀j∈s.aI,j.runs=true→(qw j.id s.aW.places:Int)=j.x.count
 notes:s.ev.l.length≤32∧s.au.l.length≤32
theorem Lh {l:List Jb} (ha:rV l) (f:Jb→bX) (hf:∀j,(f j).id=j.id):(l.map f).Nodup:=by
 rw [List.nodup_iff_pairwise_ne,List.pairwise_map]
 exact ha.imp fun {a b} h e=>by have:=congrArg bX.id e;rw [hf,hf] at this;omega
theorem cH.ok.Xl {s:cH} (h:s.ok):s.queue.length=gW s.aI:=by
 have h1:(((s.aI.filter fun j=>!j.runs).map fun j=>(⟨j.id,j.x.prio⟩:bX))).Nodup:=Lh (h.ids.filter _) _ (fun _=>rfl)
 have h2:s.queue.Nodup:=by rw [List.nodup_iff_pairwise_ne];exact h.qH.imp fun {a b} g e=>g (by rw [e])
 have:=((List.perm_ext_iff_of_nodup h2 h1).2 fun q=>by
  rw [h.qJ q,List.mem_map]
  constructor
  ·rintro ⟨j,a,b,c⟩;exact ⟨j,List.mem_filter.2 ⟨a,by simp [b]⟩,c.symm⟩
  rintro ⟨j,a,c⟩;obtain ⟨a1,a2⟩:=List.mem_filter.1 a;exact ⟨j,a1,by simpa using a2,c.symm⟩).length_eq
 rw [this,lgM];rfl
theorem Ry {x:qG} (h:x.l.length≤32) (n:bU):(tell x n).l.length≤32:=by
 unfold tell
 by_cases g:32<(x.l++[n]).length
 ·rw [if_pos g];simp;omega
 rw [if_neg g];simp only at*;omega
theorem cH.ok.event {s:cH} (h:s.ok) (id kind:Int):(fO s id kind).ok:=
 {h with notes:=⟨Ry h.notes.1 _,h.notes.2⟩}
theorem Oi {x:Ask} (h:cR x=0) (id:Int):gG ⟨id,x.prio⟩=false:=by
 obtain ⟨_,_,hp,_⟩:=fL.1 h
 simp [gG];omega
theorem Li {x:Ask} (h:cR x=0):named x.path=true:=by
 unfold named;rw [(fL.1 h).1];simp
theorem cH.ok.eA {s:cH} (h:s.ok) {x:Ask} (hx:x.fQ.w):(eA s x).1.ok:=by
 unfold Dem.eA
 by_cases h1:cR x≠0
 ·rw [if_pos h1];exact h
 rw [if_neg h1];simp only [Decidable.not_not] at h1
 by_cases h2:(!gV s.tree x.path)=true
 ·rw [if_pos h2];exact h
 rw [if_neg h2]
 by_cases h3:32≤s.aI.length∨s.next=18446744073709551615
 ·rw [if_pos h3];exact h
 rw [if_neg h3]
 have Xm:=h.next
 rcases zx s.queue ⟨s.next,x.prio⟩ with ⟨_,e2,_⟩|⟨e,_,hno,_⟩
 ·rw [if_pos e2];exact h
 rw [e]
 rw [if_neg (by simp)]
 have hu:u64 (s.next+1)=s.next+1:=by unfold u64;omega
 have hn:fP=fP:=rfl
 refine cH.ok.event (s:=⟨s.round,u64 (s.next+1),s.aW,s.tree,s.aI++[⟨s.next,x,false,0⟩],_,s.ev,s.au⟩) ?_ _ _
 rw [hu]
 have hm:∀j,j∈s.aI++[(⟨s.next,x,false,0⟩:Jb)]↔j∈s.aI∨j=⟨s.next,x,false,0⟩:=fun j=>by simp
 exact {
  aW:=h.aW,rW:=h.rW,tree:=h.tree,notes:=h.notes
  used:=fun e he k hk=>by rw [h.used e he k hk];simp only [Oh];simp [fP]
  most:=by simp only [List.length_append,List.length_singleton];omega
  next:=by simp only;omega
  ids:=by
   rw [rV,List.pairwise_append]
   refine ⟨h.ids,by simp,fun a ha b hb=>?_⟩
   simp at hb;subst hb;exact (h.IP a ha).2
  IP:=fun j hj=>by
   rcases (hm j).1 hj with g|rfl
   ·have:=h.IP j g;simp only;omega
   simp only;omega
  CN:=fun j hj=>by
   rcases (hm j).1 hj with g|rfl
   ·exact h.CN j g
   exact ⟨h1,hx,by simpa using h2⟩
  left:=fun j hj=>by
   rcases (hm j).1 hj with g|rfl
   ·exact h.left j g
   exact ⟨fun g=>(by cases g),fun _=>rfl⟩
  wG:=IE h.wG hno
  qH:=IG h.qH hno _
  qJ:=fun q=>by
   show q∈List.take _ s.queue++_::List.drop _ s.queue↔_
   rw [IF,h.qJ q]
   constructor
   ·rintro (⟨j,a,b,c⟩|rfl)
    ·exact ⟨j,(hm j).2 (.inl a),b,c⟩
    exact ⟨_,(hm _).2 (.inr rfl),rfl,rfl⟩
   rintro ⟨j,a,b,c⟩
   rcases (hm j).1 a with g|rfl
   ·exact .inl ⟨j,g,b,c⟩
   exact .inr c
  places:=fun y hy=>by
   obtain ⟨j,a,b⟩:=h.places y hy
   exact ⟨j,(hm j).2 (.inl a),b⟩
  count:=fun j hj hr=>by
   rcases (hm j).1 hj with g|rfl
   ·exact h.count j g hr
   cases hr}
theorem Ed {s:cH} (h:s.ok) {p:aD} {v:bz} (hc:(iv s.tree p v).2=0):
 Tree.ok (iv s.tree p v).1∧dJ s.tree (iv s.tree p v).1∧∀e∈(iv s.tree p v).1,∀k<4,vk k e.used=iB k e.path s.aI+if e.path∈above p then vk k v else 0:=by
 unfold iv at*
 rcases zq (gm v) h.tree.Gg p with ⟨_,e2,_⟩|⟨e,_,_,hf⟩
 ·exact absurd hc e2
 rw [e]
 have hk:dJ s.tree (wA (gm v) (above p) s.tree):=BZ fun e he hp=>by rw [zu (hf e he hp)];exact ⟨rfl,rfl⟩
 have hv:∀x∈wA (gm v) (above p) s.tree,x.used.w∧(∀k<4,vk k x.used≤vk k x.dc)∧∀k<4,vk k x.used=iB k x.path s.aI+if x.path∈above p then vk k v else 0:=by
  intro x hx
  obtain ⟨e,he,rfl⟩:=List.mem_map.1 hx
  by_cases hp:e.path∈above p
  ·rw [if_pos hp]
   have h0:=hf e he hp
   obtain ⟨c1,c2⟩:=wC.1 h0
   rw [zu h0]
   refine ⟨FJ c1,uK.1 c2,fun k hk=>?_⟩
   simp only
   rw [sZ c1 hk,h.used e he k hk,if_pos hp]
  rw [if_neg hp]
  exact ⟨(h.tree.w e he).2,h.tree.fits e he,fun k hk=>by rw [h.used e he k hk,if_neg hp];rfl⟩
 exact ⟨hk.ok h.tree (fun e he=>(hv e he).2.1) (fun e he=>(hv e he).1),hk,fun e he=>(hv e he).2.2⟩
theorem oM {s:cH} (h:s.ok) {i:Nat} {j:Jb} (hj:s.aI[i]?=some j) (hr:j.runs=true):
 sQ s.tree j.x.path j.tot=(wA (ek j.tot) (above j.x.path) s.tree,0)∧
 Tree.ok (wA (ek j.tot) (above j.x.path) s.tree)∧dJ s.tree (wA (ek j.tot) (above j.x.path) s.tree)∧∀e∈wA (ek j.tot) (above j.x.path) s.tree,∀k<4,vk k e.used+fP k e.path j=iB k e.path s.aI:=by
 have hm:=List.mem_of_getElem? hj
 obtain ⟨g1,g2,g3⟩:=h.CN j hm
 have hs:∀e∈s.tree,e.path∈above j.x.path→(gu e.used j.tot).2=true:=fun e he hp=>sR.2 fun k hk=>by
  have:=Uw k e.path hm
  rw [←h.used e he k hk] at this
  rw [fP,if_pos ⟨hr,hp⟩] at this
  exact this
 have hz:∀e∈s.tree,e.path∈above j.x.path→(ek j.tot e).2=0:=fun e he hp=>wD.2 (hs e he hp)
 have hk:dJ s.tree (wA (ek j.tot) (above j.x.path) s.tree):=BZ fun e he hp=>by rw [zw (hz e he hp)];exact ⟨rfl,rfl⟩
 have hv:∀x∈wA (ek j.tot) (above j.x.path) s.tree,x.used.w∧(∀k<4,vk k x.used≤vk k x.dc)∧∀k<4,vk k x.used+fP k x.path j=iB k x.path s.aI:=by
  intro x hx
  obtain ⟨e,he,rfl⟩:=List.mem_map.1 hx
  by_cases hp:e.path∈above j.x.path
  ·rw [if_pos hp]
   have h0:=hs e he hp
   rw [zw (hz e he hp)]
   have hwe:=(h.tree.w e he).2
   refine ⟨Q5 h0,fun k hk=>?_,fun k hk=>?_⟩
   ·simp only;rw [MW hwe h0 hk];have:=h.tree.fits e he k hk;omega
   have h1:=sR.1 h0 k hk
   simp only;rw [MW hwe h0 hk,fP,if_pos ⟨hr,hp⟩,←h.used e he k hk]
   unfold vk;omega
  rw [if_neg hp]
  exact ⟨(h.tree.w e he).2,h.tree.fits e he,fun k hk=>by rw [h.used e he k hk,fP,if_neg (fun g=>hp g.2)];rfl⟩
 refine ⟨?_,hk.ok h.tree (fun e he=>(hv e he).2.1) (fun e he=>(hv e he).1),hk,fun e he=>(hv e he).2.2⟩
 unfold sQ
 rcases zq (ek j.tot) h.tree.Gg j.x.path with ⟨_,_,e|⟨q,hq,e⟩|⟨y,hy,hp,e⟩⟩|⟨e,_⟩
 ·rw [Li g1] at e;cases e
 ·obtain ⟨z,hz,g⟩:=Cc.1 g3 q hq;exact absurd g (e z hz)
 ·exact absurd (hz y hy hp) e
 exact e
theorem cH.ok.wH {s:cH} (h:s.ok) {j:Jb} (hj:j∈s.aI) (hr:j.runs=false):∀x∈s.aW.places,x.bu≠j.id:=by
 intro x hx g
 obtain ⟨y,a,b,c,_⟩:=h.places x hx
 have:=kT h.ids a hj (by rw [c,g])
 subst this;rw [hr] at b;cases b
theorem cH.ok.Ad {s:cH} (h:s.ok) {j:Jb} (hj:j∈s.aI) (hr:j.runs=true):∀q∈s.queue,q.id≠j.id:=by
 intro q hq g
 obtain ⟨y,a,b,rfl⟩:=(h.qJ q).1 hq
 have:=kT h.ids a hj g
 subst this;rw [hr] at b;cases b
theorem Lj (id:Int) (a b:List Place):qw id (a++b)=qw id a+qw id b:=by simp [qw]
theorem Rz (id bu:Int) (v:bz) (names:List aD):qw id (names.map fun n=>(⟨bu,n,v⟩:Place))=if bu=id then names.length else 0:=by
 unfold qw
 by_cases h:bu=id
 ·rw [if_pos h,List.filter_eq_self.2 (by intro x hx;obtain ⟨n,_,rfl⟩:=List.mem_map.1 hx;simpa using h)];simp
 rw [if_neg h,List.filter_eq_nil_iff.2 (by intro x hx;obtain ⟨n,_,rfl⟩:=List.mem_map.1 hx;simpa using h)];rfl
theorem IS (id bu:Int) (ps:List Place):qw id (ps.filter fun x=>!decide (x.bu=bu))=if id=bu then 0 else qw id ps:=by
 unfold qw
 rw [List.filter_filter]
 by_cases h:id=bu
 ·rw [if_pos h,List.length_eq_zero_iff,List.filter_eq_nil_iff];intro x _;simp;intro g;omega
 rw [if_neg h];congr 1;refine List.filter_congr fun x _=>?_
 by_cases g:x.bu=id
 ·simp [g,h]
 simp [g]
theorem cH.ok.j9 {s:cH} (h:s.ok) {i:Nat} {j:Jb} (hj:s.aI[i]?=some j) (names:List aD):(j9 s i j j.id names).1.ok:=by
 have hm:=List.mem_of_getElem? hj
 obtain ⟨g1,g2,g3⟩:=h.CN j hm
 unfold Dem.j9
 by_cases h1:j.runs=true
 ·rw [if_pos h1];exact h
 rw [if_neg h1]
 by_cases h2:(names.length:Int)≠j.x.count
 ·rw [if_pos h2];exact h
 rw [if_neg h2]
 by_cases h3:(!(cW j.x).2)=true
 ·rw [if_pos h3];exact h
 rw [if_neg h3]
 by_cases h4:(iv s.tree j.x.path (cW j.x).1).2≠0
 ·rw [if_pos h4];exact h
 rw [if_neg h4]
 rcases B9 s.aW j.id names j.x.fQ with ⟨_,e2⟩|⟨e,_⟩
 ·rw [if_pos e2];exact h
 rw [if_neg (by rw [e];simp)]
 simp only [Decidable.not_not] at h2 h4
 have Ym:j.runs=false:=by simpa using h1
 obtain ⟨c1,c2,c3⟩:=Ed h h4
 obtain ⟨p1,p2⟩:=W1 h.aW h.rW j.id names g2
 rw [mb h.qH]
 rw [e] at p1 p2 ⊢
 refine cH.ok.event (s:=⟨s.round,s.next,_,_,s.aI.set i {j with runs:=true,left:=j.x.dS},_,s.ev,s.au⟩) ?_ _ _
 have hs:∀y,y∈s.aI.set i {j with runs:=true,left:=j.x.dS}↔y={j with runs:=true,left:=j.x.dS}∨(y∈s.aI∧y.id≠j.id):=fun y=>IM h.ids hj
 obtain ⟨_,_,_,Xn,_⟩:=fL.1 g1
 exact {
  aW:=p1,rW:=p2,tree:=c1,notes:=h.notes
  used:=fun e he k hk=>by
   have:=Cd k e.path {j with runs:=true,left:=j.x.dS} hj
   have t0:fP k e.path j=0:=by simp [fP,Ym]
   have t1:fP k e.path {j with runs:=true,left:=j.x.dS}=if e.path∈above j.x.path then vk k (cW j.x).1 else 0:=by simp [fP]
   rw [t0,t1] at this
   rw [c3 e he k hk];simp only;omega
  most:=by simp only [List.length_set];exact h.most
  next:=h.next
  ids:=IN h.ids hj rfl
  IP:=fun y hy=>by rcases (hs y).1 hy with rfl|⟨g,_⟩;exact h.IP j hm;exact h.IP y g
  CN:=fun y hy=>by
   rcases (hs y).1 hy with rfl|⟨g,_⟩
   ·exact ⟨g1,g2,jv c2 g3⟩
   obtain ⟨a,b,c⟩:=h.CN y g;exact ⟨a,b,jv c2 c⟩
  left:=fun y hy=>by
   rcases (hs y).1 hy with rfl|⟨g,_⟩
   ·exact ⟨fun _=>⟨Xn.1,Int.le_refl _⟩,fun g=>by cases g⟩
   exact h.left y g
  wG:=h.wG.filter _
  qH:=h.qH.filter _
  qJ:=fun q=>by
   show q∈s.queue.filter _↔_
   rw [List.mem_filter,h.qJ q]
   constructor
   ·rintro ⟨⟨y,a,b,rfl⟩,c⟩
    exact ⟨y,(hs y).2 (.inr ⟨a,by simpa using c⟩),b,rfl⟩
   rintro ⟨y,a,b,rfl⟩
   rcases (hs y).1 a with rfl|⟨g,g4⟩
   ·cases b
   exact ⟨⟨y,g,b,rfl⟩,by simpa using g4⟩
  places:=fun x hx=>by
   rcases List.mem_append.1 hx with g|g
   ·obtain ⟨y,a,b,c,d⟩:=h.places x g
    refine ⟨y,(hs y).2 (.inr ⟨a,fun e2=>?_⟩),b,c,d⟩
    have:=kT h.ids a hm e2
    subst this;rw [Ym] at b;cases b
   obtain ⟨n,_,rfl⟩:=List.mem_map.1 g
   exact ⟨_,(hs _).2 (.inl rfl),rfl,rfl,rfl⟩
  count:=fun y hy hr=>by
   show ((qw y.id (s.aW.places++names.map fun n=>(⟨j.id,n,j.x.fQ⟩:Place)):Nat):Int)=_
   rw [Lj,Rz]
   rcases (hs y).1 hy with rfl|⟨g,g4⟩
   ·have:qw j.id s.aW.places=0:=by
     unfold qw;rw [List.length_eq_zero_iff,List.filter_eq_nil_iff];intro x hx;simpa using h.wH hm Ym x hx
    simp only [this];simp;exact h2
   rw [if_neg (fun e2=>g4 e2.symm),Nat.add_zero];exact h.count y g hr}
theorem cH.ok.Ce {s:cH} (h:s.ok) (id:Int) (names:List aD):(cw s id names).1.ok:=by
 unfold cw
 cases hf:s.aI.findIdx? (fun j=>decide (j.id=id)) with
 |none=>exact h
 |some k=>
  obtain ⟨j,a,b,c⟩:=uO hf
  simp only
  rw [c,←b];exact h.j9 a names
theorem cH.ok.jw {s:cH} (h:s.ok) {i:Nat} {j:Jb} (hj:s.aI[i]?=some j) (hr:j.runs=true):
 nF s j=⟨s.round,s.next,lC s.aW j.id,wA (ek j.tot) (above j.x.path) s.tree,s.aI,s.queue,s.ev,s.au⟩:=by
 have hm:=List.mem_of_getElem? hj
 unfold nF
 rw [if_pos (fL.1 (h.CN j hm).1).2.2.2.2.2,(oM h hj hr).1]
theorem cH.ok.Xo {s:cH} (h:s.ok) {j:Jb} (hm:j∈s.aI) (hr:j.runs=true):
 jI s.queue ⟨j.id,j.x.prio⟩=(s.queue.take (xV s.queue ⟨j.id,j.x.prio⟩)++⟨j.id,j.x.prio⟩::s.queue.drop (xV s.queue ⟨j.id,j.x.prio⟩),0):=by
 rcases zx s.queue ⟨j.id,j.x.prio⟩ with ⟨_,_,e|⟨q,hq,e⟩|e⟩|⟨e,_⟩
 ·rw [Oi (h.CN j hm).1] at e;cases e
 ·exact absurd e (h.Ad hm hr q hq)
 ·have h1:=h.Xl
  have h2:=h.most
  have h3:gW s.aI<s.aI.length:=by
   unfold gW
   exact List.length_filter_lt_length_iff_exists.2 ⟨j,hm,by simp [hr]⟩
  omega
 exact e
theorem cH.ok.stop {s:cH} (h:s.ok) (id kind:Int):(jJ s id kind).1.ok:=by
 unfold jJ
 cases hf:s.aI.findIdx? (fun j=>decide (j.id=id)) with
 |none=>exact h
 |some i=>
  obtain ⟨j,hj,hid,c⟩:=uO hf
  simp only
  rw [c]
  by_cases h1:(!j.runs)=true
  ·rw [if_pos h1];exact h
  rw [if_neg h1]
  have hr:j.runs=true:=by simpa using h1
  have hm:=List.mem_of_getElem? hj
  obtain ⟨g1,g2,g3⟩:=h.CN j hm
  obtain ⟨_,c1,c2,c3⟩:=oM h hj hr
  rw [h.jw hj hr,←hid]
  simp only [D1]
  rw [h.Xo hm hr]
  obtain ⟨p1,p2⟩:=II h.aW h.rW j.id
  refine cH.ok.event (s:=⟨s.round,s.next,_,_,s.aI.set i {j with runs:=false,left:=0},_,s.ev,s.au⟩) ?_ _ _
  have hs:∀y,y∈s.aI.set i {j with runs:=false,left:=0}↔y={j with runs:=false,left:=0}∨(y∈s.aI∧y.id≠j.id):=fun y=>IM h.ids hj
  exact {
   aW:=p1,rW:=p2,tree:=c1,notes:=h.notes
   used:=fun e he k hk=>by
    have:=Cd k e.path {j with runs:=false,left:=0} hj
    have t1:fP k e.path {j with runs:=false,left:=0}=0:=by simp [fP]
    rw [t1] at this
    have:=c3 e he k hk;simp only;omega
   most:=by simp only [List.length_set];exact h.most
   next:=h.next
   ids:=IN h.ids hj rfl
   IP:=fun y hy=>by rcases (hs y).1 hy with rfl|⟨g,_⟩;exact h.IP j hm;exact h.IP y g
   CN:=fun y hy=>by
    rcases (hs y).1 hy with rfl|⟨g,_⟩
    ·exact ⟨g1,g2,jv c2 g3⟩
    obtain ⟨a,b,c⟩:=h.CN y g;exact ⟨a,b,jv c2 c⟩
   left:=fun y hy=>by
    rcases (hs y).1 hy with rfl|⟨g,_⟩
    ·exact ⟨fun g=>(by cases g),fun _=>rfl⟩
    exact h.left y g
   wG:=IE h.wG (h.Ad hm hr)
   qH:=IG h.qH (h.Ad hm hr) _
   qJ:=fun q=>by
    show q∈List.take _ s.queue++_::List.drop _ s.queue↔_
    rw [IF,h.qJ q]
    constructor
    ·rintro (⟨y,a,b,rfl⟩|rfl)
     ·refine ⟨y,(hs y).2 (.inr ⟨a,fun e=>?_⟩),b,rfl⟩
      have:=kT h.ids a hm e
      subst this;rw [hr] at b;cases b
     exact ⟨_,(hs _).2 (.inl rfl),rfl,rfl⟩
    rintro ⟨y,a,b,rfl⟩
    rcases (hs y).1 a with rfl|⟨g,g4⟩
    ·exact .inr rfl
    exact .inl ⟨y,g,b,rfl⟩
   places:=fun x hx=>by
    obtain ⟨hx1,Mc⟩:=List.mem_filter.1 hx
    obtain ⟨y,a,b,c,d⟩:=h.places x hx1
    exact ⟨y,(hs y).2 (.inr ⟨a,by rw [c];simpa using Mc⟩),b,c,d⟩
   count:=fun y hy hr=>by
    rcases (hs y).1 hy with rfl|⟨g,g4⟩
    ·cases hr
    show ((qw y.id (s.aW.places.filter fun x=>!decide (x.bu=j.id)):Nat):Int)=_
    rw [IS,if_neg g4];exact h.count y g hr}
theorem cH.ok.end_ {s:cH} (h:s.ok) (id kind:Int):(send s id kind).1.ok:=by
 unfold send
 cases hf:s.aI.findIdx? (fun j=>decide (j.id=id)) with
 |none=>exact h
 |some i=>
  obtain ⟨j,hj,hid,c⟩:=uO hf
  simp only
  rw [c]
  have hm:=List.mem_of_getElem? hj
  have hs:∀y,y∈s.aI.eraseIdx i↔y∈s.aI∧y.id≠j.id:=fun y=>Lg h.ids hj
  have hlen:(s.aI.eraseIdx i).length≤s.aI.length:=by rw [List.length_eraseIdx];split<;>omega
  have hsub:(s.aI.eraseIdx i).Sublist s.aI:=List.eraseIdx_sublist _ _
  by_cases hr:j.runs=true
  ·rw [if_pos hr,h.jw hj hr]
   obtain ⟨_,c1,c2,c3⟩:=oM h hj hr
   obtain ⟨p1,p2⟩:=II h.aW h.rW j.id
   refine cH.ok.event (s:=⟨s.round,s.next,_,_,s.aI.eraseIdx i,s.queue,s.ev,s.au⟩) ?_ _ _
   exact {
    aW:=p1,rW:=p2,tree:=c1,notes:=h.notes
    used:=fun e he k hk=>by
     have:=uN k e.path hj
     have:=c3 e he k hk;simp only;omega
    most:=Nat.le_trans hlen h.most
    next:=h.next
    ids:=h.ids.sublist hsub
    IP:=fun y hy=>h.IP y ((hs y).1 hy).1
    CN:=fun y hy=>by obtain ⟨a,b,c⟩:=h.CN y ((hs y).1 hy).1;exact ⟨a,b,jv c2 c⟩
    left:=fun y hy=>h.left y ((hs y).1 hy).1
    wG:=h.wG,qH:=h.qH
    qJ:=fun q=>by
     rw [h.qJ q]
     constructor
     ·rintro ⟨y,a,b,rfl⟩
      refine ⟨y,(hs y).2 ⟨a,fun e=>?_⟩,b,rfl⟩
      have:=kT h.ids a hm e
      subst this;rw [hr] at b;cases b
     rintro ⟨y,a,b,rfl⟩;exact ⟨y,((hs y).1 a).1,b,rfl⟩
    places:=fun x hx=>by
     obtain ⟨hx1,Mc⟩:=List.mem_filter.1 hx
     obtain ⟨y,a,b,c,d⟩:=h.places x hx1
     exact ⟨y,(hs y).2 ⟨a,by rw [c];simpa using Mc⟩,b,c,d⟩
    count:=fun y hy hr=>by
     obtain ⟨g,g4⟩:=(hs y).1 hy
     show ((qw y.id (s.aW.places.filter fun x=>!decide (x.bu=j.id)):Nat):Int)=_
     rw [IS,if_neg g4];exact h.count y g hr}
  have Ym:j.runs=false:=by simpa using hr
  rw [if_neg hr,mb h.qH,←hid]
  refine cH.ok.event (s:=⟨s.round,s.next,s.aW,s.tree,s.aI.eraseIdx i,_,s.ev,s.au⟩) ?_ _ _
  exact {
   aW:=h.aW,rW:=h.rW,tree:=h.tree,notes:=h.notes
   used:=fun e he k hk=>by
    have:=uN k e.path hj
    have t0:fP k e.path j=0:=by simp [fP,Ym]
    rw [h.used e he k hk];simp only;omega
   most:=Nat.le_trans hlen h.most
   next:=h.next
   ids:=h.ids.sublist hsub
   IP:=fun y hy=>h.IP y ((hs y).1 hy).1
   CN:=fun y hy=>h.CN y ((hs y).1 hy).1
   left:=fun y hy=>h.left y ((hs y).1 hy).1
   wG:=h.wG.filter _
   qH:=h.qH.filter _
   qJ:=fun q=>by
    show q∈s.queue.filter _↔_
    rw [List.mem_filter,h.qJ q]
    constructor
    ·rintro ⟨⟨y,a,b,rfl⟩,c⟩
     exact ⟨y,(hs y).2 ⟨a,by simpa using c⟩,b,rfl⟩
    rintro ⟨y,a,b,rfl⟩
    obtain ⟨g,g4⟩:=(hs y).1 a
    exact ⟨⟨y,g,b,rfl⟩,by simpa using g4⟩
   places:=fun x hx=>by
    obtain ⟨y,a,b,c,d⟩:=h.places x hx
    refine ⟨y,(hs y).2 ⟨a,fun e=>?_⟩,b,c,d⟩
    have:=kT h.ids a hm e
    subst this;rw [Ym] at b;cases b
   count:=fun y hy hr=>h.count y ((hs y).1 hy).1 hr}
end Dem
end
