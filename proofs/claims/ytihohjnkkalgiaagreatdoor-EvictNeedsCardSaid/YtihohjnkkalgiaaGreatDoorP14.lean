/- Parts of a proof, joined. -/
import Derived.Test.YtihohjnkkalgiaaGreatDoorP13
import Derived.Lib.Bytealg
import Derived.Lib.Join
set_option linter.all false
set_option maxRecDepth 100000
set_option maxHeartbeats 4000000
section
open Go
namespace Dem
def c5 (c:UInt8):aQ→List aQ
 |[]=>[[]]
 |x::xs=>if x=c then []::c5 c xs else match c5 c xs with
  |h::r=>(x::h)::r
  |[]=>[[x]]
theorem nQ (c:UInt8):∀s:aQ,(c5 c s).length=s.count c+1
 |[]=>rfl
 |x::xs=>by
  have ih:=nQ c xs
  unfold c5
  by_cases h:x=c
  ·simp [h,ih]
  simp only [h,if_false,List.count_cons,beq_iff_eq]
  split<;>simp_all
theorem JK (c:UInt8) (s:aQ):c5 c s≠[]:=fun h=>by have:=nQ c s;rw [h] at this;simp at this
theorem pg (c:UInt8):∀s:aQ,Lib.indexByte s c<0→c5 c s=[s]
 |[],_=>rfl
 |x::xs,h=>by
  have hg:=Lib.indexByte_ge xs c
  unfold Lib.indexByte at h
  have hx:x≠c:=by rintro rfl;simp at h
  have h2:Lib.indexByte xs c<0:=by
   simp only [beq_iff_eq,hx,if_false] at h
   split at h
   ·omega
   omega
  simp [c5,hx,pg c xs h2]
theorem vU (c:UInt8):∀(s:aQ) (j:Nat),Lib.indexByte s c=j→j<s.length∧c5 c s=s.take j::c5 c (s.drop (j+1))∧s.count c=(s.drop (j+1)).count c+1
 |[],j,h=>by simp [Lib.indexByte] at h
 |x::xs,j,h=>by
  have hg:=Lib.indexByte_ge xs c
  unfold Lib.indexByte at h
  by_cases hx:x=c
  ·simp only [beq_iff_eq,hx,if_true] at h
   have:j=0:=by omega
   subst this;simp [c5,hx]
  simp only [beq_iff_eq,hx,if_false] at h
  split at h
  ·omega
  obtain ⟨i,rfl⟩:∃i,j=i+1:=⟨j-1,by omega⟩
  obtain ⟨h1,h2,h3⟩:=vU c xs i (by omega)
  refine ⟨by simp;omega,?_,?_⟩
  ·simp [c5,hx,h2]
  simp [hx,h3]
theorem Cf {s:aQ} {r:Int} (h:r=Lib.indexByte s 47) (h0:r<0):s.count 47=0:=by
 have e:=nQ 47 s
 rw [pg 47 s (h▸h0)] at e
 simp at e;simpa using e
theorem Cg {s:aQ} {r:Int} (h:r=Lib.indexByte s 47) (h0:0≤r):∃j:Nat,r=j∧j<s.length∧c5 47 s=s.take j::c5 47 (s.drop (j+1))∧s.count 47=(s.drop (j+1)).count 47+1:=by
 obtain ⟨j,rfl⟩:=Int.eq_ofNat_of_zero_le h0
 obtain ⟨h1,h2,h3⟩:=vU 47 s j h.symm
 exact ⟨j,rfl,h1,h2,h3⟩
theorem GD {s:aQ} (h:s.count 47=0):c5 47 s=[s]:=by
 refine pg 47 s (Int.not_le.1 fun h0=>?_)
 obtain ⟨j,_,_,_,e⟩:=Cg rfl h0
 omega
def kq (l:List aQ):aQ:=Lib.join l [47]
def parts (s:aQ):List aQ:=if decide (3<(c5 47 s).length)||(c5 47 s).any (fun n=>!ic n) then [] else c5 47 s
def lT (s:aQ):List aQ:=(List.range (parts s).length).map fun k=>kq ((parts s).take (k+1))
def uK (a b:aQ):Bool:=(lT b).contains a
def named (p:aQ):Bool:=decide (p=[])||uK p p
def above (p:aQ):List aQ:=[]::lT p
def parent (p:aQ):aQ:=(above p).getD ((above p).length-2) []
theorem jE (s:aQ):(parts s).length≤3:=by
 unfold parts;split
 ·simp
 rename_i h;simp at h;omega
theorem gF (s:aQ):(lT s).length=(parts s).length:=by simp [lT]
theorem Ag (x:aQ) (r:List aQ):Lib.joinTail [47] (x::r)=47::kq (x::r):=by
 rw [kq,Lib.join_cons];simp [Lib.joinTail]
theorem vV:∀s:aQ,kq (c5 47 s)=s
 |[]=>rfl
 |c::s=>by
  have ih:=vV s
  unfold c5
  cases e:c5 47 s with
  |nil=>exact absurd e (JK 47 s)
  |cons h r=>
   rw [e] at ih
   split
   ·rename_i hc
    show Lib.join ([]::h::r) [47]=_
    rw [Lib.join_cons,Ag,ih,hc];rfl
   show Lib.join ((c::h)::r) [47]=_
   rw [Lib.join_cons,List.cons_append,←Lib.join_cons]
   exact congrArg _ ih
theorem Ah (l:List aQ) (k:Nat):(Lib.joinTail [47] (l.take k)).length≤(Lib.joinTail [47] l).length:=by
 have e:Lib.joinTail [47] l=Lib.joinTail [47] (l.take k)++Lib.joinTail [47] (l.drop k):=by
  simp only [Lib.joinTail];rw [←List.flatten_append,←List.map_append,List.take_append_drop]
 rw [e,List.length_append];omega
theorem GF (l:List aQ) (k:Nat):(kq (l.take k)).length≤(kq l).length:=by
 cases l with
 |nil=>simp
 |cons x r=>
  cases k with
  |zero=>simp [kq,Lib.join_nil]
  |succ k=>
   simp only [List.take_succ_cons,kq,Lib.join_cons,List.length_append]
   have:=Ah r k
   omega
theorem AY (s:aQ) (k:Nat):(kq ((parts s).take k)).length≤s.length:=by
 refine Nat.le_trans (GF _ k) ?_
 unfold parts
 split
 ·simp [kq,Lib.join_nil]
 rw [vV];exact Nat.le_refl _
theorem Pm {s:aQ} {k:Nat} (hk:k<(parts s).length):(lT s)[k]?=some (kq ((parts s).take (k+1))):=by simp [lT,hk]
theorem AZ {s:aQ} {k:Nat} (hk:k<(parts s).length):(lT s).take (k+1)=(lT s).take k++[kq ((parts s).take (k+1))]:=by
 have hl:k<(lT s).length:=by rw [gF];exact hk
 rw [List.take_add_one,Pm hk];rfl
def bM.at_ (v:bM):Nat→Int
 |0=>v.a
 |1=>v.b
 |2=>v.c
 |_=>v.d
structure Ask where
 path:aQ
 gB:bM
 count:Int
 prio:Int
 fB:Int
 bZ:List Term
deriving DecidableEq
instance:Inhabited Ask:=⟨⟨[],bM.zero,0,0,0,[]⟩⟩
def Ask.zero:Ask:=⟨[],bM.zero,0,0,0,[]⟩
def dR (x:Ask):bM×Bool:=GC x.gB (x.count%18446744073709551616)
def Ol (n a b:Int):Bool:=decide (a≤n)&&decide (n≤b)
def eE (x:Ask):Int:=
 if !uK x.path x.path then 6 else if !Ol x.count 1 8||!Ol x.prio 0 9||!Ol x.fB 1 100 then 1 else if !yD x.bZ then 2 else if !(dR x).2 then 5 else 0
def fitting (l:List bO) (x:List Term):List bO:=l.filter fun s=>o8 x s.labels
structure Ch where
 at_:Nat
 left:bM
 ok:Bool
def lG (v:bM):List bO→Nat→Ch→Ch
 |[],_,b=>b
 |s::r,k,b=>lG v r (k+1) (if (dX s.free v).2&&(!b.ok||decide (o9 (dX s.free v).1 b.left<0)) then ⟨k,(dX s.free v).1,true⟩ else b)
def best (l:List bO) (v:bM):Ch:=lG v l 0 ⟨0,bM.zero,false⟩
instance:Inhabited bO:=⟨⟨[],bM.zero,[]⟩⟩
def rM (v:bM):Nat→List bO→List aQ→List aQ×Bool
 |0,_,out=>(out,true)
 |n+1,l,out=>if !(best l v).ok then ([],false) else
  rM v n (l.set (best l v).at_ {l.getD (best l v).at_ default with free:=(best l v).left}) (out++[(l.getD (best l v).at_ default).node])
def fit (l:List bO) (x:List Term) (v:bM) (count:Int):List aQ×Bool:=
 if 8<count then ([],false) else rM v (max count 0).toNat (fitting l x) []
structure bu where
 path:aQ
 fT:bM
 used:bM
deriving DecidableEq
abbrev bu.cells (e:bu):List D:=[.str e.path,.int .u64 e.fT.a,.int .u64 e.fT.b,.int .u64 e.fT.c,.int .u64 e.fT.d,.int .u64 e.used.a,.int .u64 e.used.b,.int .u64 e.used.c,.int .u64 e.used.d]
def bu.zero:bu:=⟨[],bM.zero,bM.zero⟩
instance:Inhabited bu:=⟨bu.zero⟩
def bV (t:List bu) (p:aQ):Int:=idxOf (fun e=>decide (e.path=p)) t
def ph (t:List bu) (p:aQ):bu×Bool:=match t.find? (fun e=>decide (e.path=p)) with
 |some e=>(e,true)
 |none=>(bu.zero,false)
def tE (t:List bu) (p:aQ) (v:bM):List bu×Int:=
 if !named p then (t,6) else
 if !decide (p=[])&&decide (bV t (parent p)<0) then (t,7) else
 if decide (bV t p<0)&&decide (16≤t.length) then (t,9) else
 match t.findIdx? (fun e=>decide (e.path=p)) with
 |some k=>if !mW ((t.getD k bu.zero).used) v then (t,10) else (t.set k {t.getD k bu.zero with fT:=v},0)
 |none=>match t.findIdx? (fun e=>!Op.bytesLess e.path p) with
  |some k=>(t.take k++⟨p,v,bM.zero⟩::t.drop k,0)
  |none=>(t++[⟨p,v,bM.zero⟩],0)
def fe (v:bM) (e:bu):bu×Int:=
 if !(mV e.used v).2 then (e,5) else if !mW (mV e.used v).1 e.fT then (e,10) else ({e with used:=(mV e.used v).1},0)
def dY (v:bM) (e:bu):bu×Int:=
 if !(dX e.used v).2 then (e,15) else ({e with used:=(dX e.used v).1},0)
def jF (f:bu→bu×Int) (t:List bu):List aQ→List bu→List bu×Int
 |[],out=>(out,0)
 |p::r,out=>if (f (t.getD (bV t p).toNat bu.zero)).2≠0 then (t,(f (t.getD (bV t p).toNat bu.zero)).2) else jF f t r (out.set (bV t p).toNat (f (t.getD (bV t p).toNat bu.zero)).1)
def oh (f:bu→bu×Int) (t:List bu) (p:aQ):List bu×Int:=
 if !named p then (t,6) else if (above p).any (fun q=>decide (bV t q<0)) then (t,7) else jF f t (above p) t
def dg (t:List bu) (p:aQ) (v:bM):List bu×Int:=oh (fe v) t p
def qj (t:List bu) (p:aQ) (v:bM):List bu×Int:=oh (dY v) t p
theorem IC:∀(x y:aQ),Op.bytesLess x y=decide (x<y)
 |[],[]=>by simp [Op.bytesLess]
 |a::x,[]=>by simp [Op.bytesLess]
 |[],b::y=>by simp [Op.bytesLess]
 |a::x,b::y=>by
  have ih:=IC x y
  simp only [Op.bytesLess,ih]
  rw [Bool.eq_iff_iff]
  simp [List.cons_lt_cons_iff]
theorem rN (x:aQ):¬x<x:=List.lt_irrefl x
theorem JL {x y z:aQ} (h:x<y) (g:y<z):x<z:=List.lt_trans h g
theorem Pn (x y:aQ):x<y∨x=y∨y<x:=by
 by_cases h:x<y
 ·exact .inl h
 by_cases g:y<x
 ·exact .inr (.inr g)
 exact .inr (.inl (List.le_antisymm (List.not_lt.1 g) (List.not_lt.1 h)))
abbrev ID (l:List Node):Prop:=l.Pairwise (fun x y=>x.name<y.name)
def Node.Ci (n:Node):Bool:=ic n.name&&uI n.labels
structure bf.ok (p:bf):Prop where
 zV:ID p.nodes
 Ci:∀n∈p.nodes,n.Ci=true
 free:∀n∈p.nodes,(eD n.name p.nodes p.places).2=true
 most:p.nodes.length≤16
 here:∀x∈p.places,∃n∈p.nodes,n.name=x.node
theorem MJ {l:List Node} (ha:ID l) {n:Node} (hn:n∈l):l.find? (fun x=>decide (x.name=n.name))=some n:=by
 induction l with
 |nil=>cases hn
 |cons m r ih=>
  rw [List.find?_cons]
  have UL:=List.pairwise_cons.1 ha
  rcases List.mem_cons.1 hn with rfl|hn
  ·simp
  have:m.name≠n.name:=fun e=>by have:=UL.1 n hn;rw [e] at this;exact rN _ this
  simp [this,ih UL.2 hn]
theorem JM {l:List Node} (ha:ID l) {n:Node} (hn:n∈l):dW n.name l=(n,true):=by
 unfold dW;rw [MJ ha hn]
theorem GG {l:List Node} {name:aQ} (h:(dW name l).2=true):(dW name l).1∈l∧(dW name l).1.name=name:=by
 unfold dW at h ⊢
 split at h
 ·rename_i x hx
  have h1:=List.mem_of_find?_eq_some hx
  have h2:=List.find?_some hx
  exact ⟨h1,by simpa using h2⟩
 cases h
def left (name:aQ) (ps:List Place) (v:bM×Bool):bM×Bool:=ps.foldl (dB name) v
theorem uL {l:List Node} (ha:ID l) {n:Node} (hn:n∈l) (ps:List Place):eD n.name l ps=if (left n.name ps (n.cap,true)).2 then left n.name ps (n.cap,true) else (bM.zero,false):=by
 unfold eD;rw [JM ha hn];rfl
theorem gj {l:List Node} (ha:ID l) {n:Node} (hn:n∈l) (ps:List Place):(eD n.name l ps).2=(left n.name ps (n.cap,true)).2:=by
 rw [uL ha hn]
 split
 ·rfl
 rename_i h;simp at h;simp [h]
theorem GH (name:aQ) (ps:List Place):∀v,(left name ps (v,false))=(v,false):=by
 induction ps with
 |nil=>intro v;rfl
 |cons x r ih=>intro v;simp only [left,List.foldl_cons];rw [show dB name (v,false) x=(v,false) by simp [dB]];exact ih v
theorem JN (name:aQ) (ps:List Place) (x:Place) (v:bM×Bool):left name (ps++[x]) v=dB name (left name ps v) x:=by simp [left]
def bM.w (v:bM):Prop:=∀k<4,0≤v.at_ k∧v.at_ k<18446744073709551616
theorem VJ {P:Nat→Prop}:(∀k<4,P k)↔P 0∧P 1∧P 2∧P 3:=by
 constructor
 ·intro h;exact ⟨h 0 (by decide),h 1 (by decide),h 2 (by decide),h 3 (by decide)⟩
 rintro ⟨h0,h1,h2,h3⟩ k hk
 match k,hk with
 |0,_=>exact h0
 |1,_=>exact h1
 |2,_=>exact h2
 |3,_=>exact h3
theorem Po {x y:Int}:(Ey x y).2=true↔y.toNat≤x.toNat:=by
 unfold Ey;split<;>simp<;>omega
theorem Pp {x y:Int}:(Ew x y).2=true↔x.toNat+y.toNat<18446744073709551616:=by
 unfold Ew;split<;>simp<;>omega
theorem mh {a b:bM}:(dX a b).2=true↔∀k<4,(b.at_ k).toNat≤(a.at_ k).toNat:=by
 rw [VJ];simp only [bM.at_,←Po]
 unfold dX both;split
 ·rename_i h;simp only [Bool.and_eq_true] at h;simp [h]
 rename_i h;simp only [Bool.and_eq_true,not_and] at h;simp;intro h1 h2 h3;simpa using h ⟨⟨h1,h2⟩,h3⟩
theorem Cj {a b:bM}:(mV a b).2=true↔∀k<4,(a.at_ k).toNat+(b.at_ k).toNat<18446744073709551616:=by
 rw [VJ];simp only [bM.at_,←Pp]
 unfold mV both;split
 ·rename_i h;simp only [Bool.and_eq_true] at h;simp [h]
 rename_i h;simp only [Bool.and_eq_true,not_and] at h;simp;intro h1 h2 h3;simpa using h ⟨⟨h1,h2⟩,h3⟩
theorem Ck {a b:bM} (h:(dX a b).2=true):∀k<4,(dX a b).1.at_ k=((((a.at_ k).toNat-(b.at_ k).toNat)%18446744073709551616:Nat):Int):=by
 have h':=mh.1 h
 rw [VJ] at h' ⊢
 simp only [bM.at_] at h' ⊢
 unfold dX both at h ⊢
 split at h
 ·rename_i g
  rw [if_pos g]
  simp only [Ey]
  rw [if_neg (by omega),if_neg (by omega),if_neg (by omega),if_neg (by omega)]
  simp
 cases h
theorem IE {a b:bM} (h:(mV a b).2=true):∀k<4,(mV a b).1.at_ k=(((a.at_ k).toNat+(b.at_ k).toNat:Nat):Int):=by
 have h':=Cj.1 h
 rw [VJ] at h' ⊢
 simp only [bM.at_] at h' ⊢
 unfold mV both at h ⊢
 split at h
 ·rename_i g
  rw [if_pos g]
  simp only [Ew]
  rw [if_pos (by omega),if_pos (by omega),if_pos (by omega),if_pos (by omega)]
  simp
 cases h
theorem GI {a b:bM} (h:(dX a b).2=true):(dX a b).1.w:=by
 intro k hk;rw [Ck h k hk];omega
def here (name:aQ) (ps:List Place):List Place:=ps.filter (fun x=>decide (x.node=name))
def fJ (k:Nat) (l:List Place):Nat:=(l.map (fun x=>(x.v.at_ k).toNat)).sum
theorem m0 (name:aQ):∀(ps:List Place) (v:bM),v.w→((left name ps (v,true)).2=true↔∀k<4,fJ k (here name ps)≤(v.at_ k).toNat)∧
 ((left name ps (v,true)).2=true→∀k<4,(left name ps (v,true)).1.at_ k=(((v.at_ k).toNat-fJ k (here name ps):Nat):Int))
 |[],v,hv=>by
  simp only [left,List.foldl_nil,here,List.filter_nil,fJ,List.map_nil,List.sum_nil]
  exact ⟨by simp,fun _ k hk=>by have:=hv k hk;omega⟩
 |x::r,v,hv=>by
  by_cases hx:x.node=name
  ·have e1:left name (x::r) (v,true)=left name r (dX v x.v):=by simp [left,dB,hx]
   have e2:here name (x::r)=x::here name r:=by simp [here,hx]
   rw [e1,e2]
   cases hs:(dX v x.v).2 with
   |false=>
    have e3:dX v x.v=((dX v x.v).1,false):=by rw [←hs]
    rw [e3,GH]
    refine ⟨⟨fun h=>Bool.noConfusion h,fun h=>?_⟩,fun h=>Bool.noConfusion h⟩
    have:(dX v x.v).2=true:=mh.2 fun k hk=>by have:=h k hk;simp [fJ] at this;omega
    rw [hs] at this;cases this
   |true=>
    have e3:dX v x.v=((dX v x.v).1,true):=by rw [←hs]
    rw [e3]
    obtain ⟨i1,i2⟩:=m0 name r (dX v x.v).1 (GI hs)
    have hat:=Ck hs
    have hok:=mh.1 hs
    constructor
    ·rw [i1]
     constructor
     ·intro h k hk;have a1:=h k hk;have a2:=hat k hk;have a3:=hok k hk;have a4:=hv k hk
      rw [a2] at a1;simp only [fJ,List.map_cons,List.sum_cons] at a1 ⊢;omega
     intro h k hk;have a1:=h k hk;have a2:=hat k hk;have a3:=hok k hk;have a4:=hv k hk
     rw [a2];simp only [fJ,List.map_cons,List.sum_cons] at a1 ⊢;omega
    intro h k hk
    rw [i2 h k hk];have a1:=(i1.1 h) k hk;have a2:=hat k hk;have a3:=hok k hk;have a4:=hv k hk
    rw [a2] at a1 ⊢;simp only [fJ,List.map_cons,List.sum_cons] at a1 ⊢;omega
  have e1:left name (x::r) (v,true)=left name r (v,true):=by simp [left,dB,hx]
  have e2:here name (x::r)=here name r:=by simp [here,hx]
  rw [e1,e2];exact m0 name r v hv
theorem yF {k:Nat} {l m:List Place} (h:l.Sublist m):fJ k l≤fJ k m:=by
 unfold fJ
 induction h with
 |slnil=>simp
 |cons a _ ih=>simp;omega
 |cons_cons a _ ih=>simp;omega
structure bf.w (p:bf):Prop where
 cap:∀n∈p.nodes,n.cap.w
 v:∀x∈p.places,x.v.w
theorem bf.Pq {p:bf} (h:p.ok) (hw:p.w) {n:Node} (hn:n∈p.nodes):∀k<4,fJ k (Dem.here n.name p.places)≤(n.cap.at_ k).toNat:=by
 have:=h.free n hn
 rw [gj h.zV hn] at this
 exact (m0 n.name p.places n.cap (hw.cap n hn)).1.1 this
theorem GJ {p:bf} (ha:ID p.nodes) (hc:∀n∈p.nodes,n.cap.w) {n:Node} (hn:n∈p.nodes) (h:∀k<4,fJ k (here n.name p.places)≤(n.cap.at_ k).toNat):(eD n.name p.nodes p.places).2=true:=by
 rw [gj ha hn];exact (m0 n.name p.places n.cap (hc n hn)).1.2 h
theorem Pr {p:bf} (h:p.ok) (hw:p.w) (f:Place→Bool):bf.ok ⟨p.nodes,p.places.filter f⟩:=by
 refine ⟨h.zV,h.Ci,fun n hn=>?_,h.most,fun x hx=>h.here x (List.mem_filter.1 hx).1⟩
 refine GJ (p:=⟨p.nodes,p.places.filter f⟩) h.zV hw.cap hn fun k hk=>?_
 refine Nat.le_trans (yF ?_) (bf.Pq h hw hn k hk)
 exact (List.filter_sublist (l:=p.places) (p:=f)).filter _
theorem RW {p:bf} (hw:p.w) (f:Place→Bool):bf.w ⟨p.nodes,p.places.filter f⟩:=⟨hw.cap,fun x hx=>hw.v x (List.mem_filter.1 hx).1⟩
theorem GK:bM.zero.w:=by
 intro k hk;have:bM.zero.at_ k=0:=by unfold bM.at_;split<;>rfl
 rw [this];omega
theorem wS {α:Type} {l:List α} {i:Nat} {x y:α} (h:y∈l.set i x):y∈l∨y=x:=by
 rcases List.mem_or_eq_of_mem_set h with h|h
 ·exact .inl h
 exact .inr h
theorem MK {l:List Node} {i:Nat} {x:Node} {up:Bool} (hx:l[i]?=some x) (name:aQ):
 (dW name (l.set i {x with up:=up})).1.cap=(dW name l).1.cap∧(dW name (l.set i {x with up:=up})).2=(dW name l).2:=by
 have key:(l.set i {x with up:=up}).find? (fun y=>decide (y.name=name))=(l.find? (fun y=>decide (y.name=name))).map (fun y=>if y=x∧l.findIdx? (fun y=>decide (y.name=name))=some i then {x with up:=up} else y):=by
  induction l generalizing i with
  |nil=>simp at hx
  |cons m r ih=>
   cases i with
   |zero=>
    simp at hx;subst hx
    simp only [List.set_cons_zero,List.find?_cons,List.findIdx?_cons]
    by_cases hm:m.name=name
    ·simp [hm]
    simp only [hm,decide_false]
    cases hf:r.find? (fun y=>decide (y.name=name)) with
    |none=>simp
    |some z=>simp
   |succ i=>
    simp only [List.getElem?_cons_succ] at hx
    have:=ih hx
    simp only [List.set_cons_succ,List.find?_cons,List.findIdx?_cons]
    by_cases hm:m.name=name
    ·simp [hm]
    simp only [hm,decide_false]
    rw [this]
    simp
 unfold dW
 rw [key]
 cases hf:l.find? (fun y=>decide (y.name=name)) with
 |none=>simp
 |some z=>
  simp only [Option.map_some]
  split
  ·rename_i h;rw [h.1];simp
  simp
theorem JO {l:List Node} {i:Nat} {x:Node} {up:Bool} (hx:l[i]?=some x) (name:aQ) (ps:List Place):eD name (l.set i {x with up:=up}) ps=eD name l ps:=by
 obtain ⟨h1,h2⟩:=MK (up:=up) hx name
 unfold eD;rw [h1,h2]
theorem A2 {l:List Node} {i:Nat} {x:Node} {up:Bool} (hx:l[i]?=some x):(l.set i {x with up:=up}).map (·.name)=l.map (·.name):=by
 apply List.ext_getElem?
 intro j
 simp only [List.getElem?_map,List.getElem?_set]
 split
 ·rename_i e;subst e;rw [hx];split<;>simp;
  rename_i h;have:=(List.getElem?_eq_some_iff.1 hx).1;omega
 rfl
theorem JP {l m:List Node} (h:l.map (·.name)=m.map (·.name)) (ha:ID m):ID l:=by
 have h1:(m.map (·.name)).Pairwise (fun a b=>a<b):=List.pairwise_map.2 ha
 rw [←h] at h1
 exact List.pairwise_map.1 h1
theorem Ps {p:bf} (h:p.ok) (hw:p.w) (name:aQ) (up:Bool):(eT p name up).1.ok∧(eT p name up).1.w:=by
 unfold eT
 split
 ·rename_i i x h1 h2
  split
  ·exact ⟨h,hw⟩
  obtain ⟨hi,hp,_⟩:=List.findIdx?_eq_some_iff_getElem.1 h1
  have hx:p.nodes[i]?=some x:=by
   have:=cE (p:=fun x:Node=>decide (x.name=name)) (l:=p.nodes) rfl
   rcases this with ⟨_,h3,_⟩|⟨j,y,_,_,hy,_,h3,h4⟩
   ·rw [h1] at h3;cases h3
   rw [h1] at h3;cases h3;rw [h2] at h4;cases h4;exact hy
  have hm:x∈p.nodes:=List.mem_of_getElem? hx
  refine ⟨⟨JP (A2 hx) h.zV,?_,?_,by simpa using h.most,?_⟩,⟨?_,hw.v⟩⟩
  ·intro n hn;rcases wS hn with hn|rfl
   ·exact h.Ci n hn
   exact h.Ci x hm
  ·intro n hn
   show (eD n.name (p.nodes.set i {x with up:=up}) p.places).2=true
   rw [JO hx]
   rcases wS hn with hn|rfl
   ·exact h.free n hn
   exact h.free x hm
  ·intro y hy
   obtain ⟨n,hn,e⟩:=h.here y hy
   have:n.name∈(p.nodes.set i {x with up:=up}).map (·.name):=by rw [A2 hx];exact List.mem_map.2 ⟨n,hn,rfl⟩
   obtain ⟨m,hm,em⟩:=List.mem_map.1 this
   exact ⟨m,hm,by rw [em,e]⟩
  intro n hn;rcases wS hn with hn|rfl
  ·exact hw.cap n hn
  exact hw.cap x hm
 exact ⟨h,hw⟩
theorem rO {name:aQ} {v:bM} {l:List Node} {ps:List Place} (h:og name v l ps=0):(dW name l).2=true∧(dW name l).1.up=true∧(eD name l ps).2=true∧mW v (eD name l ps).1=true:=by
 unfold og at h
 split at h
 ·omega
 split at h
 ·omega
 split at h
 ·omega
 rename_i h1 h2 h3
 simp only [Bool.or_eq_true,not_or,Bool.not_eq_true',Bool.not_eq_false] at h1 h2 h3
 exact ⟨h1,h2,h3.1,h3.2⟩
theorem Pt {p:bf} (h:p.ok) (hw:p.w) {name:aQ} {v:bM} (hv:v.w) (bS:Int) (h0:og name v p.nodes p.places=0):bf.ok ⟨p.nodes,p.places++[⟨bS,name,v⟩]⟩∧bf.w ⟨p.nodes,p.places++[⟨bS,name,v⟩]⟩:=by
 obtain ⟨r1,r2,r3,r4⟩:=rO h0
 obtain ⟨m1,m2⟩:=GG r1
 refine ⟨⟨h.zV,h.Ci,fun n hn=>?_,h.most,?_⟩,⟨hw.cap,?_⟩⟩
 ·show (eD n.name p.nodes (p.places++[⟨bS,name,v⟩])).2=true
  rw [gj h.zV hn,JN]
  have hl:=h.free n hn
  rw [gj h.zV hn] at hl
  unfold dB
  split
  ·rename_i g
   simp only [Bool.and_eq_true,decide_eq_true_eq] at g
   obtain ⟨g1,g2⟩:=g
   rw [eD,g2,] at r4
   have e:eD name p.nodes p.places=left n.name p.places (n.cap,true):=by
    rw [g2,uL h.zV hn,if_pos hl]
   rw [←g2] at r4
   have Zq:mW v (left n.name p.places (n.cap,true)).1=true:=by rw [←e,g2];unfold eD;rw [←g2];exact r4
   exact Zq
  exact hl
 ·intro x hx
  rcases List.mem_append.1 hx with hx|hx
  ·exact h.here x hx
  simp at hx;subst hx;exact ⟨_,m1,m2⟩
 intro x hx
 rcases List.mem_append.1 hx with hx|hx
 ·exact hw.v x hx
 simp at hx;subst hx;exact hv
theorem A3 (l:List Node) (bS:Int) {v:bM} (hv:v.w):∀(names:List aQ) (ps:List Place),bf.ok ⟨l,ps⟩→bf.w ⟨l,ps⟩→(fD l bS v names ps).1=none→bf.ok ⟨l,(fD l bS v names ps).2⟩∧bf.w ⟨l,(fD l bS v names ps).2⟩
 |[],ps,h,hw,_=>⟨h,hw⟩
 |n::r,ps,h,hw,g=>by
  unfold fD at g ⊢
  split
  ·rename_i h1;rw [if_pos h1] at g;cases g
  rename_i h1
  rw [if_neg h1] at g
  have h0:og n v l ps=0:=by omega
  obtain ⟨a,b⟩:=Pt (p:=⟨l,ps⟩) h hw hv bS h0
  exact A3 l bS hv r _ a b g
theorem RX {p:bf} (h:p.ok) (hw:p.w) (bS:Int) (names:List aQ) {v:bM} (hv:v.w):(uJ p bS names v).1.ok∧(uJ p bS names v).1.w:=by
 unfold uJ
 split
 ·exact ⟨h,hw⟩
 rename_i g;exact A3 p.nodes bS hv names p.places h hw g
theorem EF (l:List Node) (nm:aQ):pat l nm≤l.length∧(∀n∈l.take (pat l nm),n.name<nm)∧(∀n,l[pat l nm]?=some n→¬n.name<nm):=by
 unfold pat
 split
 ·rename_i k hk
  obtain ⟨wM,hp,hb⟩:=List.findIdx?_eq_some_iff_getElem.1 hk
  refine ⟨by omega,?_,?_⟩
  ·intro n hn
   obtain ⟨j,hj⟩:=List.getElem?_of_mem hn
   rw [List.getElem?_take] at hj
   split at hj
   ·rename_i Rp
    rw [List.getElem?_eq_getElem (by omega)] at hj
    cases hj
    have:=hb j Rp
    simpa [IC] using this
   cases hj
  intro n hn
  rw [List.getElem?_eq_getElem wM] at hn;cases hn
  simpa [IC] using hp
 rename_i hk
 rw [List.findIdx?_eq_none_iff] at hk
 refine ⟨Nat.le_refl _,?_,?_⟩
 ·intro n hn
  rw [List.take_length] at hn
  have:=hk n hn
  simpa [IC] using this
 intro n hn;simp at hn
theorem wT {l:List Node} {k:Nat} {x y:Node}:y∈l.take k++x::l.drop k↔y∈l∨y=x:=by
 rw [List.mem_append,List.mem_cons]
 constructor
 ·rintro (h|h|h)
  ·exact .inl (List.mem_of_mem_take h)
  ·exact .inr h
  exact .inl (List.mem_of_mem_drop h)
 rintro (h|h)
 ·rw [←List.take_append_drop k l,List.mem_append] at h
  rcases h with h|h
  ·exact .inl h
  exact .inr (.inr h)
 exact .inr (.inl h)
theorem Pu {l:List Node} (ha:ID l) {x:Node} (hn:∀n∈l,n.name≠x.name):ID (l.take (pat l x.name)++x::l.drop (pat l x.name)):=by
 obtain ⟨h1,h2,h3⟩:=EF l x.name
 have hs:=ha
 rw [←List.take_append_drop (pat l x.name) l] at hs
 have hs':=List.pairwise_append.1 hs
 have hd:∀n∈l.drop (pat l x.name),x.name<n.name:=by
  intro n hm
  cases hc:l.drop (pat l x.name) with
  |nil=>rw [hc] at hm;cases hm
  |cons m r=>
   have hlt:pat l x.name<l.length:=by
    rcases Nat.lt_or_ge (pat l x.name) l.length with h|h
    ·exact h
    rw [List.drop_eq_nil_of_le h] at hc;cases hc
   have hg:l[pat l x.name]?=some m:=by
    have:(l.drop (pat l x.name))[0]?=some m:=by rw [hc];rfl
    simpa using this
   have Wd:m∈l:=List.mem_of_getElem? hg
   have VK:x.name<m.name:=by
    rcases Pn x.name m.name with h|h|h
    ·exact h
    ·exact absurd h.symm (hn m Wd)
    exact absurd h (h3 m hg)
   rw [hc] at hm
   rcases List.mem_cons.1 hm with rfl|hm
   ·exact VK
   have:=hs'.2.1;rw [hc] at this
   exact JL VK ((List.pairwise_cons.1 this).1 n hm)
 refine List.pairwise_append.2 ⟨hs'.1,List.pairwise_cons.2 ⟨hd,hs'.2.1⟩,?_⟩
 intro a UL b hb
 rcases List.mem_cons.1 hb with rfl|hb
 ·exact h2 a UL
 exact hs'.2.2 a UL b hb
theorem rP (p:bf) (n:Node):((o6 p n).1=p∧(o6 p n).2≠0)∨(n.Ci=true∧(∀m∈p.nodes,m.name≠n.name)∧p.nodes.length<16∧
 o6 p n=(⟨p.nodes.take (pat p.nodes n.name)++{n with up:=true}::p.nodes.drop (pat p.nodes n.name),p.places⟩,0)):=by
 unfold o6
 split
 ·exact .inl ⟨rfl,by simp⟩
 split
 ·exact .inl ⟨rfl,by simp⟩
 split
 ·exact .inl ⟨rfl,by simp⟩
 split
 ·exact .inl ⟨rfl,by simp⟩
 rename_i h1 h2 h3 h4
 simp only [Bool.not_eq_true',Bool.not_eq_false] at h1 h2
 refine .inr ⟨by simp [Node.Ci,h1,h2],?_,by omega,rfl⟩
 rw [←iu] at h3
 intro m hm e
 exact h3 (List.any_eq_true.2 ⟨m,hm,by simp [e]⟩)
theorem JQ {name:aQ} {ps:List Place} (h:∀x∈ps,x.node≠name) (v:bM×Bool):left name ps v=v:=by
 unfold left
 induction ps generalizing v with
 |nil=>rfl
 |cons x r ih=>
  rw [List.foldl_cons,show dB name v x=v by simp [dB,h x (by simp)]]
  exact ih (fun y hy=>h y (by simp [hy])) v
theorem RY {p:bf} (h:p.ok) (hw:p.w) {n:Node} (hc:n.cap.w):(o6 p n).1.ok∧(o6 p n).1.w:=by
 rcases rP p n with ⟨e,_⟩|⟨h1,h2,h3,e⟩
 ·rw [e];exact ⟨h,hw⟩
 rw [e]
 have ha:ID (p.nodes.take (pat p.nodes n.name)++{n with up:=true}::p.nodes.drop (pat p.nodes n.name)):=Pu (x:={n with up:=true}) h.zV h2
 refine ⟨⟨ha,?_,?_,?_,?_⟩,⟨?_,hw.v⟩⟩
 ·intro m hm;rcases wT.1 hm with hm|rfl
  ·exact h.Ci m hm
  exact h1
 ·intro m hm
  show (eD m.name (p.nodes.take (pat p.nodes n.name)++{n with up:=true}::p.nodes.drop (pat p.nodes n.name)) p.places).2=true
  rw [gj ha hm]
  rcases wT.1 hm with hm|rfl
  ·have:=h.free m hm;rwa [gj h.zV hm] at this
  rw [JQ]
  intro x hx e
  obtain ⟨m,hm,em⟩:=h.here x hx
  exact h2 m hm (by rw [em,e])
 ·have:=(EF p.nodes n.name).1;simp;omega
 ·intro x hx
  obtain ⟨m,hm,em⟩:=h.here x hx
  exact ⟨m,wT.2 (.inl hm),em⟩
 intro m hm;rcases wT.1 hm with hm|rfl
 ·exact hw.cap m hm
 exact hc
def Pv:aQ:=[122,111,110,101]
def pi (p:bf) (bS:Int):bf:=⟨p.nodes,p.places.filter (fun x=>!decide (x.bS=bS))⟩
theorem IF:bf.ok ⟨[],[]⟩:=⟨List.Pairwise.nil,by simp,by simp,by simp,by simp⟩
theorem ML:bf.w ⟨[],[]⟩:=⟨by simp,by simp⟩
theorem qn {α β:Type} {P:α→Prop} {f:α→β→α} (hf:∀a b,P a→P (f a b)):∀(l:List β) (a:α),P a→P (l.foldl f a)
 |[],_,h=>h
 |b::r,a,h=>qn hf r (f a b) (hf a b h)
structure Jb where
 id:Int
 x:Ask
 runs:Bool
 left:Int
deriving DecidableEq
def Jb.zero:Jb:=⟨0,Ask.zero,false,0⟩
instance:Inhabited Jb:=⟨Jb.zero⟩
structure eI where
 round:Int
 id:Int
 kind:Int
deriving DecidableEq
instance:Inhabited eI:=⟨⟨0,0,0⟩⟩
structure Ai where
 first:Int
 l:List eI
deriving DecidableEq
structure bH where
 round:Int
 next:Int
 bz:bf
 tree:List bu
 aG:List Jb
 queue:List cR
 ev:Ai
 au:Ai
def eI.cells (n:eI):List D:=[.int .u64 n.round,.int .u64 n.id,.int .i64 n.kind]
def Jb.cells (j:Jb):List D:=[.int .u64 j.id,.str j.x.path,.int .u64 j.x.gB.a,.int .u64 j.x.gB.b,.int .u64 j.x.gB.c,.int .u64 j.x.gB.d,.int .i64 j.x.count,.int .i64 j.x.prio,.int .i64 j.x.fB,.sl (j.x.bZ.map Term.cells),.bool j.runs,.int .i64 j.left]
def bH.zero:bH:=⟨0,0,⟨[],[]⟩,[],[],[],⟨0,[]⟩,⟨0,[]⟩⟩
def JR:bH:={bH.zero with next:=1,tree:=[⟨[],bM.zero,bM.zero⟩]}
def GL (l:List Jb) (id:Int):Int:=idxOf (fun j=>decide (j.id=id)) l
def cG (l:List Jb) (id:Int):Jb×Bool:=match l.find? (fun j=>decide (j.id=id)) with
 |some j=>(j,true)
 |none=>(Jb.zero,false)
def u64 (n:Int):Int:=n%18446744073709551616
def tell (x:Ai) (n:eI):Ai:=if 32<(x.l++[n]).length then ⟨u64 (x.first+1),(x.l++[n]).drop 1⟩ else ⟨x.first,x.l++[n]⟩
def iO (t:List bu) (p:aQ):Bool:=!((lT p++[[]]).any fun q=>!(ph t q).2)
def iP (s:bH) (id kind:Int):bH:={s with ev:=tell s.ev ⟨s.round,id,kind⟩}
def cN (s:bH) (x:Ask):bH×Int×Int:=
 if eE x≠0 then (s,0,eE x) else
 if !iO s.tree x.path then (s,0,7) else
 if 32≤s.aG.length∨s.next=18446744073709551615 then (s,0,9) else
 if (jh s.queue ⟨s.next,x.prio⟩).2≠0 then (s,0,(jh s.queue ⟨s.next,x.prio⟩).2) else
 (iP {s with queue:=(jh s.queue ⟨s.next,x.prio⟩).1,aG:=s.aG++[⟨s.next,x,false,0⟩],next:=u64 (s.next+1)} s.next 1,s.next,0)
def A4 (s:bH) (k:Nat) (j:Jb):bH:={s with aG:=s.aG.set k j}
def jG (s:bH) (k:Nat) (j:Jb) (id:Int) (nodes:List aQ):bH×Int:=
 if j.runs then (s,15) else if (nodes.length:Int)≠j.x.count then (s,1) else
 if !(dR j.x).2 then (s,5) else
 if (dg s.tree j.x.path (dR j.x).1).2≠0 then (s,(dg s.tree j.x.path (dR j.x).1).2) else
 if (uJ s.bz id nodes j.x.gB).2≠0 then (s,(uJ s.bz id nodes j.x.gB).2) else
 (iP (A4 {s with tree:=(dg s.tree j.x.path (dR j.x).1).1,bz:=(uJ s.bz id nodes j.x.gB).1,queue:=(yE s.queue id).1} k {j with runs:=true,left:=j.x.fB}) id 2,0)
def eF (s:bH) (id:Int) (nodes:List aQ):bH×Int:=match s.aG.findIdx? (fun j=>decide (j.id=id)) with
 |none=>(s,7)
 |some k=>jG s k (s.aG.getD k Jb.zero) id nodes
def mj (s:bH) (j:Jb):bH:=
 {s with tree:=(if (dR j.x).2 then (qj s.tree j.x.path (dR j.x).1).1 else s.tree),bz:=pi s.bz j.id}
def eJ (s:bH) (id kind:Int):bH×Int:=match s.aG.findIdx? (fun j=>decide (j.id=id)) with
 |none=>(s,7)
 |some k=>if !(s.aG.getD k Jb.zero).runs then (s,15) else
  (iP (A4 {mj s (s.aG.getD k Jb.zero) with queue:=(jh s.queue ⟨id,(s.aG.getD k Jb.zero).x.prio⟩).1} k {s.aG.getD k Jb.zero with runs:=false,left:=0}) id kind,0)
def send (s:bH) (id kind:Int):bH×Int:=match s.aG.findIdx? (fun j=>decide (j.id=id)) with
 |none=>(s,7)
 |some k=>(iP {(if (s.aG.getD k Jb.zero).runs then mj s (s.aG.getD k Jb.zero) else {s with queue:=(yE s.queue id).1}) with aG:=s.aG.eraseIdx k} id kind,0)
end Dem
end
section
open Go Go.Proofs Go.ChangeShapes Go.WideShapes Go.RowKit
namespace Dem
theorem trodAll_nil {H:Type} {enc:TypeId×Value→H} {P:Program} {W:World} {vs:List Value} {ds:List (DataW H)} {ps:List MemPlace} (h:DataW.TrodAll enc P W 0 (fun _=>true) true [] vs ds ps):vs=[]∧ds=[]:=by
 cases vs with
 |nil=>cases ds with
  |nil=>exact ⟨rfl,rfl⟩
  |cons d ds=>exact h.elim
 |cons v vs=>cases ds<;>exact h.elim
theorem trodAll_cons {H:Type} {enc:TypeId×Value→H} {P:Program} {W:World} {t:TypeId} {ts:List TypeId} {vs:List Value} {ds:List (DataW H)} {ps:List MemPlace} (h:DataW.TrodAll enc P W 0 (fun _=>true) true (t::ts) vs ds ps):
 ∃v vs' d ds' p q,vs=v::vs'∧ds=d::ds'∧DataW.Trod enc P W 0 (fun _=>true) true t v d p∧DataW.TrodAll enc P W 0 (fun _=>true) true ts vs' ds' q:=by
 cases vs with
 |nil=>cases ds<;>exact h.elim
 |cons v vs=>cases ds with
  |nil=>exact h.elim
  |cons d ds=>
   obtain ⟨p,q,h1,h2,rfl⟩:=h
   exact ⟨v,vs,d,ds,p,q,rfl,rfl,h1,h2⟩
section
variable {H:Type} {enc:TypeId×Value→H} {W:World} {v:Value} {d:DataW H} {p:List MemPlace} {base:Nat}
abbrev okW (W:World):Nat→Prop:=bc (fun _=>0) [] W (fun _=>False)
theorem RZ (W:World):∀blk,blk<W.heap.size→okW W blk:=fun blk hb=>⟨hb,fun h=>h,fun i b hb=>by simp at hb⟩
theorem IG {α:Type} {cells:α→List D} {Q:α→Prop}:∀(es:List (List D)),(∀r∈es,∃x,r=cells x∧Q x)→∃l:List α,es=l.map cells∧∀x∈l,Q x
 |[],_=>⟨[],rfl,by simp⟩
 |r::es,h=>by
  obtain ⟨x,rfl,hx⟩:=h r (by simp)
  obtain ⟨l,rfl,hl⟩:=IG es (fun r hr=>h r (by simp [hr]))
  exact ⟨x::l,rfl,fun y hy=>by rcases List.mem_cons.1 hy with rfl|hy;exact hx;exact hl y hy⟩
end
end Dem
end
section
open Go
namespace Dem
theorem JS (P:aQ):[]∈above P:=by simp [above]
structure kK where
 bS:Int
 cnt:Int
def kK.cells (m:kK):List D:=[.int .u64 m.bS,.int .i64 m.cnt]
def m5 (l:List Int):List Int:=l.mergeSort (fun x y=>decide (x≤y))
theorem yG {l m:List Int} (hl:l.Pairwise (fun x y=>x≤y)) (hm:m.Pairwise (fun x y=>x≤y)) (h:l.Perm m):l=m:=
 h.eq_of_pairwise (fun a b _ _ h1 h2=>Int.le_antisymm h1 h2) hl hm
theorem jH (l:List Int):(m5 l).Perm l:=List.mergeSort_perm _ _
@[simp] theorem Cl (l:List Int):(m5 l).length=l.length:=(jH l).length_eq
theorem qo (l:List Int):(m5 l).Pairwise (fun x y=>x≤y):=by
 have:=List.pairwise_mergeSort (le:=fun x y:Int=>decide (x≤y)) (by intro a b c;simp;omega) (by intro a b;simp;omega) l
 exact this.imp (by simp)
def fP (name:aQ) (js:List Int) (x:Place):List Int:=if x.node=name then (if x.bS∈js then js else js++[x.bS]) else js
def ff (name:aQ) (ps:List Place):List Int:=ps.foldl (fP name) []
def Cm (name:aQ) (ps:List Place):List Int:=m5 (ff name ps)
def qO (p:bf) (name:aQ):bf×List Int×Int:=
 if (eT p name false).2=0 then ((eT p name false).1,Cm name p.places,0) else ((eT p name false).1,[],(eT p name false).2)
def nR:List kK→Int→Int→List kK
 |[],j,c=>[⟨j,c⟩]
 |m::l,j,c=>if j=m.bS then ⟨j,c⟩::l else m::nR l j c
theorem EG:∀(l:List kK) (j:Int),uf (l.map kK.cells) (.int .u64 j)=none∨∃x,uf (l.map kK.cells) (.int .u64 j)=some [.int .i64 x]
 |[],_=>.inl rfl
 |m::l,j=>by
  simp only [List.map_cons,kK.cells,uf,n9]
  by_cases h:j=m.bS
  ·subst h;exact .inr ⟨m.cnt,by simp⟩
  have:=EG l j
  simpa [h] using this
theorem tF:∀(l:List kK) (j c:Int),qz (l.map kK.cells) (.int .u64 j) [.int .i64 c]=(nR l j c).map kK.cells
 |[],_,_=>rfl
 |m::l,j,c=>by
  simp only [List.map_cons,nR]
  by_cases h:j=m.bS
  ·subst h;simp [kK.cells,qz,n9]
  simp only [if_neg h,List.map_cons]
  rw [←tF l j c]
  simp [kK.cells,qz,n9,h]
theorem mo:∀(l:List kK) (j c:Int),(nR l j c).map kK.bS=if j∈l.map kK.bS then l.map kK.bS else l.map kK.bS++[j]
 |[],_,_=>by simp [nR]
 |m::l,j,c=>by
  simp only [nR]
  by_cases h:j=m.bS
  ·subst h;simp
  rw [if_neg h,List.map_cons,List.map_cons,mo l j c]
  by_cases h2:j∈l.map kK.bS
  ·simp [h2]
  rw [if_neg h2,if_neg (by simp only [List.mem_cons];rintro (g|g);exact h g;exact h2 g)];rfl
theorem mD (name:aQ):∀(ps:List Place) (js:List Int),js.Nodup→(ps.foldl (fP name) js).Nodup
 |[],_,h=>h
 |x::r,js,h=>by
  rw [List.foldl_cons]
  refine mD name r _ ?_
  unfold fP
  split
  ·split
   ·exact h
   rename_i g
   rw [List.nodup_append]
   exact ⟨h,by simp,fun a ha b hb e=>g (by simp at hb;rw [←hb,←e];exact ha)⟩
  exact h
theorem pn (name:aQ) (j:Int):∀(ps:List Place) (js:List Int),j∈ps.foldl (fP name) js↔j∈js∨∃x∈ps,x.node=name∧x.bS=j
 |[],js=>by simp
 |x::r,js=>by
  rw [List.foldl_cons,pn name j r]
  unfold fP
  by_cases hx:x.node=name
  ·rw [if_pos hx]
   by_cases hj:x.bS∈js
   ·rw [if_pos hj]
    constructor
    ·rintro (h|⟨y,hy,g⟩)
     ·exact .inl h
     exact .inr ⟨y,by simp [hy],g⟩
    rintro (h|⟨y,hy,g1,g2⟩)
    ·exact .inl h
    rcases List.mem_cons.1 hy with rfl|hy
    ·exact .inl (by rw [←g2];exact hj)
    exact .inr ⟨y,hy,g1,g2⟩
   rw [if_neg hj]
   constructor
   ·rintro (h|⟨y,hy,g⟩)
    ·rcases List.mem_append.1 h with h|h
     ·exact .inl h
     simp at h;exact .inr ⟨x,by simp,hx,h.symm⟩
    exact .inr ⟨y,by simp [hy],g⟩
   rintro (h|⟨y,hy,g1,g2⟩)
   ·exact .inl (by simp [h])
   rcases List.mem_cons.1 hy with rfl|hy
   ·exact .inl (by simp [g2])
   exact .inr ⟨y,hy,g1,g2⟩
  rw [if_neg hx]
  constructor
  ·rintro (h|⟨y,hy,g⟩)
   ·exact .inl h
   exact .inr ⟨y,by simp [hy],g⟩
  rintro (h|⟨y,hy,g1,g2⟩)
  ·exact .inl h
  rcases List.mem_cons.1 hy with rfl|hy
  ·exact absurd g1 hx
  exact .inr ⟨y,hy,g1,g2⟩
theorem tG (name:aQ):∀(ps:List Place) (js:List Int),js.length≤(ps.foldl (fP name) js).length
 |[],_=>Nat.le_refl _
 |x::r,js=>by
  rw [List.foldl_cons]
  refine Nat.le_trans ?_ (tG name r _)
  unfold fP
  split
  ·split<;>simp
  exact Nat.le_refl _
theorem EH (name:aQ) (ps:List Place) (k:Nat):(ff name (ps.take k)).length≤(ff name ps).length:=by
 have h:=tG name (ps.drop k) (ff name (ps.take k))
 unfold ff at h ⊢
 rwa [←List.foldl_append,List.take_append_drop] at h
theorem MM {name:aQ} {ps:List Place} {j:Int}:j∈Cm name ps↔∃x∈ps,x.node=name∧x.bS=j:=by
 unfold Cm
 rw [(jH _).mem_iff,ff,pn];simp
theorem MN (name:aQ) (ps:List Place):(Cm name ps).Pairwise (fun x y=>x<y):=by
 have h1:=qo (ff name ps)
 have h2:(Cm name ps).Nodup:=(jH _).nodup_iff.2 (mD name ps [] List.nodup_nil)
 exact h1.imp₂ (fun a b h g=>by have:a≠b:=g;omega) h2
def Yr (s:bH) (prev:Option Int) (j:Jb):Bool:=
 if j.id<1 then false else if s.next≤j.id then false else if (match prev with|none=>false|some p=>decide (j.id≤p)) then false else
 if eE j.x≠0 then false else if !iO s.tree j.x.path then false else
 if j.runs then decide (1≤j.left)&&decide (j.left≤j.x.fB) else decide (j.left=0)&&s.queue.contains ⟨j.id,j.x.prio⟩
def Cn (l:List Jb):Nat:=(l.filter fun j=>!j.runs).length
abbrev vk (k:Nat) (v:bM):Nat:=(v.at_ k).toNat
theorem Co (k:Nat):vk k bM.zero=0:=by unfold vk bM.at_;split<;>rfl
theorem R3 {v:bM} (h:v.w) {k:Nat} (hk:k<4):v.at_ k=(vk k v:Int)∧vk k v<18446744073709551616:=by
 have:=h k hk;unfold vk;omega
theorem R4 {a b:bM} (h:(mV a b).2=true):(mV a b).1.w:=by
 intro k hk
 have h1:=IE h k hk
 have h2:=Cj.1 h k hk
 rw [h1];omega
theorem Cp {a b:bM} (h:(mV a b).2=true) {k:Nat} (hk:k<4):vk k (mV a b).1=vk k a+vk k b:=by
 unfold vk;rw [IE h k hk];omega
theorem Cq {a b:bM} (ha:a.w) (h:(dX a b).2=true) {k:Nat} (hk:k<4):vk k (dX a b).1=vk k a-vk k b:=by
 have:=(R3 ha hk).2
 unfold vk at*;rw [Ck h k hk]
 have h2:((a.at_ k).toNat-(b.at_ k).toNat)%18446744073709551616=(a.at_ k).toNat-(b.at_ k).toNat:=Nat.mod_eq_of_lt (by omega)
 omega
theorem uM {a b:bM}:(mV a b).2=true↔∀k<4,vk k a+vk k b<18446744073709551616:=Cj
theorem rQ {a b:bM}:mW a b=true↔∀k<4,vk k a≤vk k b:=mh
structure Tree.ok (l:List bu):Prop where
 root:∃e r,l=e::r∧e.path=[]
 most:l.length≤16
 zV:l.Pairwise (fun x y=>x.path<y.path)
 named:∀e∈l,named e.path=true
 Ys:∀e∈l,∃f∈l,f.path=parent e.path
 fits:∀e∈l,∀k<4,vk k e.used≤vk k e.fT
 w:∀e∈l,e.fT.w∧e.used.w
theorem MO {t:List bu} (ha:t.Pairwise (fun x y=>x.path<y.path)) {i j:Nat} {x y:bu} (hx:t[i]?=some x) (hy:t[j]?=some y) (e:x.path=y.path):i=j:=by
 obtain ⟨hi,rfl⟩:=List.getElem?_eq_some_iff.1 hx
 obtain ⟨hj,rfl⟩:=List.getElem?_eq_some_iff.1 hy
 rcases Nat.lt_trichotomy i j with g|g|g
 ·have:=List.pairwise_iff_getElem.1 ha i j hi hj g;rw [e] at this;exact absurd this (rN _)
 ·exact g
 have:=List.pairwise_iff_getElem.1 ha j i hj hi g;rw [e] at this;exact absurd this (rN _)
theorem Pw {t:List bu} (ha:t.Pairwise (fun x y=>x.path<y.path)) {x y:bu} (hx:x∈t) (hy:y∈t) (e:x.path=y.path):x=y:=by
 obtain ⟨i,hi⟩:=List.getElem?_of_mem hx
 obtain ⟨j,hj⟩:=List.getElem?_of_mem hy
 have:=MO ha hi hj e
 subst this;rw [hi] at hj;exact Option.some.inj hj
theorem rR {t:List bu} {q:aQ} (h:0≤bV t q):∃(i:Nat) (e:bu),t[i]?=some e∧e.path=q∧bV t q=i:=by
 rcases cE (rfl:bV t q=idxOf _ t) with ⟨h1,_⟩|⟨i,x,h1,_,h3,h4,_⟩
 ·omega
 exact ⟨i,x,h3,by simpa using h4,h1⟩
theorem GM {t:List bu} {e:bu} (he:e∈t):0≤bV t e.path:=by
 rcases cE (rfl:bV t e.path=idxOf _ t) with ⟨_,h2,_⟩|⟨i,x,h1,_⟩
 ·rw [List.findIdx?_eq_none_iff] at h2;have:=h2 e he;simp at this
 omega
theorem GN {t:List bu} {q:aQ}:bV t q<0↔∀e∈t,e.path≠q:=by
 constructor
 ·rintro h e he rfl;have:=GM he;omega
 intro h
 refine Int.not_le.1 fun g=>?_
 obtain ⟨i,e,h1,h2,_⟩:=rR g
 exact h e (List.mem_of_getElem? h1) h2
def tH (f:bu→bu×Int) (A:List aQ) (t:List bu):List bu:=t.map fun e=>if e.path∈A then (f e).1 else e
theorem tI (f:bu→bu×Int) {t:List bu} (ha:t.Pairwise (fun x y=>x.path<y.path)):∀(A:List aQ) (out:List bu),(∀q∈A,0≤bV t q)→out.length=t.length→
 ((∃e∈t,e.path∈A∧(f e).2≠0)∧(jF f t A out).1=t∧(jF f t A out).2≠0)∨
 ((∀e∈t,e.path∈A→(f e).2=0)∧(jF f t A out).2=0∧(jF f t A out).1.length=t.length∧∀(i:Nat) (e:bu),t[i]?=some e→(jF f t A out).1[i]?=if e.path∈A then some (f e).1 else out[i]?)
 |[],out,_,hl=>.inr ⟨by simp,rfl,hl,by intro i e _;simp [jF]⟩
 |q::A,out,hq,hl=>by
  obtain ⟨i,e,h1,h2,h3⟩:=rR (hq q (by simp))
  have hg:t.getD (bV t q).toNat bu.zero=e:=by rw [h3,Int.toNat_natCast,List.getD_eq_getElem?_getD,h1];rfl
  have hem:=List.mem_of_getElem? h1
  have hil:=(List.getElem?_eq_some_iff.1 h1).1
  unfold jF
  rw [hg]
  by_cases h0:(f e).2≠0
  ·rw [if_pos h0];exact .inl ⟨⟨e,hem,by simp [h2],h0⟩,rfl,h0⟩
  rw [if_neg h0]
  simp only [Decidable.not_not] at h0
  rw [h3,Int.toNat_natCast]
  rcases tI f ha A (out.set i (f e).1) (fun q Zr=>hq q (by simp [Zr])) (by simp [hl]) with ⟨⟨x,b1,b2,b3⟩,b4,b5⟩|⟨b1,b2,b3,b4⟩
  ·exact .inl ⟨⟨x,b1,by simp [b2],b3⟩,b4,b5⟩
  refine .inr ⟨?_,b2,b3,?_⟩
  ·intro x hx hp
   rcases List.mem_cons.1 hp with g|g
   ·rw [Pw ha hx hem (by rw [g,h2])];exact h0
   exact b1 x hx g
  intro j x hx
  rw [b4 j x hx]
  by_cases g:x.path∈A
  ·rw [if_pos g,if_pos (by simp [g])]
  rw [if_neg g]
  by_cases g2:x.path=q
  ·have:=MO ha hx h1 (by rw [g2,h2])
   subst this
   rw [hx] at h1;cases h1
   rw [if_pos (by simp [g2]),List.getElem?_set_self (by omega)]
  have hji:i≠j:=by rintro rfl;rw [hx] at h1;cases h1;exact g2 h2
  rw [if_neg (by simp [g2,g]),List.getElem?_set_ne hji]
theorem pp (f:bu→bu×Int) {t:List bu} (ha:t.Pairwise (fun x y=>x.path<y.path)) (p:aQ):
 ((oh f t p).1=t∧(oh f t p).2≠0∧(named p=false∨(∃q∈above p,∀e∈t,e.path≠q)∨∃e∈t,e.path∈above p∧(f e).2≠0))∨
 (oh f t p=(tH f (above p) t,0)∧named p=true∧(∀q∈above p,∃e∈t,e.path=q)∧∀e∈t,e.path∈above p→(f e).2=0):=by
 unfold oh
 cases hn:named p with
 |false=>exact .inl ⟨rfl,by simp,.inl rfl⟩
 |true=>
  simp only [Bool.not_true,Bool.false_eq_true,if_false]
  by_cases h:((above p).any fun q=>decide (bV t q<0))=true
  ·rw [if_pos h]
   obtain ⟨q,hq,g⟩:=List.any_eq_true.1 h
   exact .inl ⟨rfl,by simp,.inr (.inl ⟨q,hq,GN.1 (by simpa using g)⟩)⟩
  rw [if_neg h]
  have hq:∀q∈above p,0≤bV t q:=fun q hq=>Int.not_lt.1 fun g=>h (List.any_eq_true.2 ⟨q,hq,by simpa using g⟩)
  rcases tI f ha (above p) t hq rfl with ⟨b1,b2,b3⟩|⟨b1,b2,b3,b4⟩
  ·exact .inl ⟨b2,b3,.inr (.inr b1)⟩
  refine .inr ⟨?_,by trivial,fun q hm=>?_,b1⟩
  ·refine Prod.ext ?_ b2
   refine List.ext_getElem? fun i=>?_
   unfold tH
   rw [List.getElem?_map]
   cases hi:t[i]? with
   |none=>rw [List.getElem?_eq_none_iff] at hi;simp only [Option.map_none];rw [List.getElem?_eq_none_iff];omega
   |some e=>
    rw [b4 i e hi]
    simp only [Option.map_some]
    split
    ·rfl
    exact hi
  obtain ⟨i,e,g1,g2,_⟩:=rR (hq q hm)
  exact ⟨e,List.mem_of_getElem? g1,g2⟩
theorem nS {v:bM} {e:bu}:(fe v e).2=0↔(mV e.used v).2=true∧mW (mV e.used v).1 e.fT=true:=by
 unfold fe
 cases h1:(mV e.used v).2<;>cases h2:mW (mV e.used v).1 e.fT<;>simp
theorem vW {v:bM} {e:bu} (h:(fe v e).2=0):(fe v e).1={e with used:=(mV e.used v).1}:=by
 obtain ⟨h1,h2⟩:=nS.1 h
 unfold fe;rw [h1,h2];rfl
theorem tJ {v:bM} {e:bu}:(dY v e).2=0↔(dX e.used v).2=true:=by
 unfold dY
 cases h1:(dX e.used v).2<;>simp
theorem vX {v:bM} {e:bu} (h:(dY v e).2=0):(dY v e).1={e with used:=(dX e.used v).1}:=by
 unfold dY;rw [tJ.1 h];rfl
structure cK (t u:List bu):Prop where
 len:u.length=t.length
 at_:∀(i:Nat) (e:bu),t[i]?=some e→∃x,u[i]?=some x∧x.path=e.path∧x.fT=e.fT
theorem cK.paths {t u:List bu} (h:cK t u):u.map (·.path)=t.map (·.path):=by
 refine List.ext_getElem? fun i=>?_
 rw [List.getElem?_map,List.getElem?_map]
 cases hi:t[i]? with
 |none=>rw [List.getElem?_eq_none_iff] at hi;rw [List.getElem?_eq_none_iff.2 (by rw [h.len];exact hi)]
 |some e=>obtain ⟨x,h1,h2,_⟩:=h.at_ i e hi;rw [h1];simp [h2]
theorem cK.back {t u:List bu} (h:cK t u) {x:bu} (hx:x∈u):∃e∈t,x.path=e.path∧x.fT=e.fT:=by
 obtain ⟨i,hi⟩:=List.getElem?_of_mem hx
 have hl:=(List.getElem?_eq_some_iff.1 hi).1
 rw [h.len] at hl
 obtain ⟨y,h1,h2,h3⟩:=h.at_ i t[i] (List.getElem?_eq_getElem hl)
 rw [hi] at h1;cases h1
 exact ⟨t[i],List.getElem_mem hl,h2,h3⟩
theorem cK.mem {t u:List bu} (h:cK t u) {e:bu} (he:e∈t):∃x∈u,x.path=e.path:=by
 obtain ⟨i,hi⟩:=List.getElem?_of_mem he
 obtain ⟨x,h1,h2,_⟩:=h.at_ i e hi
 exact ⟨x,List.mem_of_getElem? h1,h2⟩
theorem cK.zV {t u:List bu} (h:cK t u) (ha:t.Pairwise (fun x y=>x.path<y.path)):u.Pairwise (fun x y=>x.path<y.path):=by
 have h1:(t.map (·.path)).Pairwise (·<·):=List.pairwise_map.2 ha
 rw [←h.paths] at h1
 exact List.pairwise_map.1 h1
theorem cK.ok {t u:List bu} (h:cK t u) (ho:Tree.ok t) (hf:∀e∈u,∀k<4,vk k e.used≤vk k e.fT) (hw:∀e∈u,e.used.w):Tree.ok u where
 root:=by
  obtain ⟨e,r,rfl,he⟩:=ho.root
  obtain ⟨x,h1,h2,_⟩:=h.at_ 0 e rfl
  cases u with
  |nil=>cases h1
  |cons y r2=>simp at h1;subst h1;exact ⟨y,r2,rfl,by rw [h2,he]⟩
 most:=by rw [h.len];exact ho.most
 zV:=h.zV ho.zV
 named:=fun x hx=>by obtain ⟨e,he,h1,_⟩:=h.back hx;rw [h1];exact ho.named e he
 Ys:=fun x hx=>by
  obtain ⟨e,he,h1,_⟩:=h.back hx
  obtain ⟨f,hf,h2⟩:=ho.Ys e he
  obtain ⟨y,hy,h3⟩:=h.mem hf
  exact ⟨y,hy,by rw [h3,h2,h1]⟩
 fits:=hf
 w:=fun x hx=>by obtain ⟨e,he,_,h1⟩:=h.back hx;exact ⟨by rw [h1];exact (ho.w e he).1,hw x hx⟩
theorem yH {f:bu→bu×Int} {A:List aQ} {t:List bu} (h:∀e∈t,e.path∈A→(f e).1.path=e.path∧(f e).1.fT=e.fT):cK t (tH f A t) where
 len:=by simp [tH]
 at_:=by
  intro i e hi
  refine ⟨if e.path∈A then (f e).1 else e,by rw [tH,List.getElem?_map,hi];rfl,?_⟩
  split
  ·rename_i g;exact h e (List.mem_of_getElem? hi) g
  exact ⟨rfl,rfl⟩
abbrev Jb.tot (j:Jb):bM:=(dR j.x).1
def kL (k:Nat) (p:aQ) (j:Jb):Nat:=if j.runs=true∧p∈above j.x.path then vk k j.tot else 0
def lU (k:Nat) (p:aQ) (l:List Jb):Nat:=(l.map (kL k p)).sum
theorem jI (k:Nat) (p:aQ) (j:Jb) (l:List Jb):lU k p (j::l)=kL k p j+lU k p l:=by simp [lU]
abbrev MP (l:List cR):Prop:=l.Pairwise (fun a b=>dQ a b=true)
abbrev EI (l:List cR):Prop:=l.Pairwise (fun a b=>a.id≠b.id)
theorem yI {a b:cR}:dQ a b=true↔b.prio<a.prio∨(a.prio=b.prio∧a.id<b.id):=by simp [dQ]
theorem Cr {a b c:cR} (h:dQ a b=true) (g:dQ b c=true):dQ a c=true:=by
 rw [yI] at*;omega
theorem GO {a b:cR} (h:a.id≠b.id) (g:¬dQ a b=true):dQ b a=true:=by
 rw [yI] at*;omega
theorem MQ (l:List cR) (e:cR):tD l e≤l.length∧(∀x∈l.take (tD l e),¬dQ e x=true)∧(∀x,l[tD l e]?=some x→dQ e x=true):=by
 unfold tD
 cases h:l.findIdx? (fun x=>dQ e x) with
 |none=>
  rw [List.findIdx?_eq_none_iff] at h
  refine ⟨Nat.le_refl _,?_,?_⟩
  ·intro x hx;rw [List.take_length] at hx;simp [h x hx]
  intro x hx;simp at hx
 |some k=>
  obtain ⟨hk,hp,hb⟩:=List.findIdx?_eq_some_iff_getElem.1 h
  refine ⟨Nat.le_of_lt hk,?_,?_⟩
  ·intro x hx
   obtain ⟨j,hj⟩:=List.getElem?_of_mem hx
   simp only [List.getElem?_take] at hj
   by_cases g:j<k
   ·rw [if_pos g] at hj
    have:=hb j g
    rw [List.getElem?_eq_getElem (by omega)] at hj
    cases hj;simpa using this
   rw [if_neg g] at hj;cases hj
  intro x hx
  simp only at hx
  rw [List.getElem?_eq_getElem hk] at hx;cases hx;exact hp
theorem EJ {l:List cR} (ha:MP l) {e:cR} (hn:∀x∈l,x.id≠e.id):MP (l.take (tD l e)++e::l.drop (tD l e)):=by
 obtain ⟨h1,h2,h3⟩:=MQ l e
 have hsp:MP (l.take (tD l e)++l.drop (tD l e)):=by rw [List.take_append_drop];exact ha
 rw [MP,List.pairwise_append] at hsp ⊢
 obtain ⟨a1,a2,a3⟩:=hsp
 have hb:∀x∈l.take (tD l e),dQ x e=true:=fun x hx=>GO (a:=e) (by have:=hn x (List.mem_of_mem_take hx);exact fun g=>this g.symm) (h2 x hx)
 have hc:∀x∈l.drop (tD l e),dQ e x=true:=by
  cases hd:l.drop (tD l e) with
  |nil=>intro x hx;cases hx
  |cons y r=>
   have hy:l[tD l e]?=some y:=by
    have:(l.drop (tD l e))[0]?=some y:=by rw [hd];rfl
    rw [List.getElem?_drop,Nat.add_zero] at this;exact this
   have g:=h3 y hy
   intro x hx
   rcases List.mem_cons.1 hx with rfl|hx
   ·exact g
   rw [hd,List.pairwise_cons] at a2
   exact Cr g (a2.1 x hx)
 refine ⟨a1,List.pairwise_cons.2 ⟨hc,a2⟩,?_⟩
 intro x hx y hy
 rcases List.mem_cons.1 hy with rfl|hy
 ·exact hb x hx
 exact a3 x hx y hy
theorem EK {l:List cR} {k:Nat} {x y:cR}:y∈l.take k++x::l.drop k↔y∈l∨y=x:=by
 conv=>rhs;rw [←List.take_append_drop k l]
 simp only [List.mem_append,List.mem_cons]
 constructor
 ·rintro (h|h|h)
  ·exact .inl (.inl h)
  ·exact .inr h
  exact .inl (.inr h)
 rintro ((h|h)|h)
 ·exact .inl h
 ·exact .inr (.inr h)
 exact .inr (.inl h)
theorem EL {l:List cR} (hi:EI l) {e:cR} (hn:∀x∈l,x.id≠e.id) (k:Nat):EI (l.take k++e::l.drop k):=by
 have hsp:EI (l.take k++l.drop k):=by rw [List.take_append_drop];exact hi
 rw [EI,List.pairwise_append] at hsp ⊢
 obtain ⟨a1,a2,a3⟩:=hsp
 refine ⟨a1,List.pairwise_cons.2 ⟨fun x hx=>fun g=>hn x (List.mem_of_mem_drop hx) g.symm,a2⟩,?_⟩
 intro x hx y hy
 rcases List.mem_cons.1 hy with rfl|hy
 ·exact hn x (List.mem_of_mem_take hx)
 exact a3 x hx y hy
theorem GP {l:List cR} {id:Int} (h:0≤rL l id):∃x∈l,x.id=id:=by
 rcases cE (rfl:rL l id=idxOf _ l) with ⟨h1,_⟩|⟨i,x,h1,_,h3,h4,_⟩
 ·omega
 exact ⟨x,List.mem_of_getElem? h3,by simpa using h4⟩
theorem pu (l:List cR) (e:cR):((jh l e).1=l∧(jh l e).2≠0∧(pe e=true∨(∃x∈l,x.id=e.id)∨32≤l.length))∨
 (jh l e=(l.take (tD l e)++e::l.drop (tD l e),0)∧pe e=false∧(∀x∈l,x.id≠e.id)∧l.length<32):=by
 unfold jh
 cases h1:pe e with
 |true=>exact .inl ⟨rfl,by simp,.inl rfl⟩
 |false=>
  simp only [Bool.false_eq_true,if_false]
  by_cases h2:0≤rL l e.id
  ·rw [if_pos h2];exact .inl ⟨rfl,by simp,.inr (.inl (GP h2))⟩
  rw [if_neg h2]
  by_cases h3:32≤l.length
  ·rw [if_pos h3];exact .inl ⟨rfl,by simp,.inr (.inr h3)⟩
  rw [if_neg h3]
  refine .inr ⟨rfl,by trivial,?_,by omega⟩
  intro x hx g
  refine h2 ?_
  rcases cE (rfl:rL l e.id=idxOf _ l) with ⟨_,h4,_⟩|⟨i,x,h4,_⟩
  ·rw [List.findIdx?_eq_none_iff] at h4;have:=h4 x hx;simp [g] at this
  omega
theorem erase_filter {l:List cR} (hi:EI l) {k:Nat} {x:cR} (hx:l[k]?=some x):l.eraseIdx k=l.filter fun y=>!decide (y.id=x.id):=by
 induction l generalizing k with
 |nil=>simp at hx
 |cons y r ih=>
  rw [EI,List.pairwise_cons] at hi
  cases k with
  |zero=>
   simp at hx;subst hx
   have:r.filter (fun z=>!decide (z.id=y.id))=r:=by
    rw [List.filter_eq_self];intro z hz;have:=hi.1 z hz;simp;exact fun g=>this g.symm
   simp [this]
  |succ k=>
   simp only [List.getElem?_cons_succ] at hx
   have hne:=hi.1 x (List.mem_of_getElem? hx)
   rw [List.eraseIdx_cons_succ,ih hi.2 hx]
   simp [hne]
theorem kM {l:List cR} (hi:EI l) (id:Int):(yE l id).1=l.filter fun y=>!decide (y.id=id):=by
 unfold yE
 cases h:l.findIdx? (fun x=>decide (x.id=id)) with
 |none=>
  rw [List.findIdx?_eq_none_iff] at h
  exact (List.filter_eq_self.2 fun x hx=>by simp [h x hx]).symm
 |some k=>
  obtain ⟨hk,hp,_⟩:=List.findIdx?_eq_some_iff_getElem.1 h
  simp only [decide_eq_true_eq] at hp
  show l.eraseIdx k=_
  rw [erase_filter hi (List.getElem?_eq_getElem hk),hp]
abbrev vY (id:Int) (ps:List Place):Nat:=(ps.filter fun x=>decide (x.bS=id)).length
theorem vZ (l:List Node) (bS:Int) (v:bM):∀(names:List aQ) (ps:List Place),(fD l bS v names ps).1=none→(fD l bS v names ps).2=ps++names.map (fun n=>⟨bS,n,v⟩)∧∀n∈names,(dW n l).2=true∧(dW n l).1.up=true
 |[],ps,_=>by simp [fD]
 |n::r,ps,g=>by
  unfold fD at g ⊢
  split
  ·rename_i h1;rw [if_pos h1] at g;cases g
  rename_i h1
  rw [if_neg h1] at g
  obtain ⟨a,b⟩:=vZ l bS v r _ g
  refine ⟨by rw [a];simp,?_⟩
  intro m hm
  rcases List.mem_cons.1 hm with rfl|hm
  ·have h0:og m v l ps=0:=by omega
   exact ⟨(rO h0).1,(rO h0).2.1⟩
  exact b m hm
theorem v7 (l:List Node) (bS:Int) (v:bM):∀(names:List aQ) (ps:List Place) (e:Int),(fD l bS v names ps).1=some e→e≠0
 |[],ps,e,g=>by cases g
 |n::r,ps,e,g=>by
  unfold fD at g
  split at g
  ·cases g;assumption
  exact v7 l bS v r _ e g
theorem yJ (p:bf) (bS:Int) (names:List aQ) (v:bM):((uJ p bS names v).1=p∧(uJ p bS names v).2≠0)∨
 ((uJ p bS names v)=(⟨p.nodes,p.places++names.map (fun n=>⟨bS,n,v⟩)⟩,0)∧∀n∈names,(dW n p.nodes).2=true∧(dW n p.nodes).1.up=true):=by
 unfold uJ
 split
 ·rename_i e he;exact .inl ⟨rfl,v7 _ _ _ _ _ _ he⟩
 rename_i he
 obtain ⟨a,b⟩:=vZ _ _ _ _ _ he
 exact .inr ⟨by rw [a],b⟩
theorem EM {p:bf} (h:p.ok) (hw:p.w) (bS:Int):(pi p bS).ok∧(pi p bS).w:=⟨Pr h hw _,RW hw _⟩
theorem EN (p:bf) (ha:ID p.nodes) (name:aQ) (up:Bool):((eT p name up)=(p,7)∧(dW name p.nodes).2=false)∨
 (∃i x,p.nodes[i]?=some x∧x.name=name∧dW name p.nodes=(x,true)∧((x.up=up∧eT p name up=(p,15))∨(x.up=!up∧eT p name up=(⟨p.nodes.set i {x with up:=up},p.places⟩,0)))):=by
 rcases cE (p:=fun x:Node=>decide (x.name=name)) (l:=p.nodes) rfl with ⟨_,h1,h2⟩|⟨i,x,_,hi,hx,hp,h1,h2⟩
 ·refine .inl ⟨by unfold eT;rw [h1,h2],by unfold dW;rw [h2]⟩
 simp only [decide_eq_true_eq] at hp
 refine .inr ⟨i,x,hx,hp,by unfold dW;rw [h2],?_⟩
 by_cases hu:x.up=up
 ·exact .inl ⟨hu,by unfold eT;rw [h1,h2];simp [hu]⟩
 refine .inr ⟨by cases h:x.up<;>cases up<;>simp_all,by unfold eT;rw [h1,h2];simp [hu]⟩
def fE (p:bf):List bO:=p.nodes.filterMap (mZ p.nodes p.places)
theorem gk {x:Ask}:eE x=0↔uK x.path x.path=true∧(1≤x.count∧x.count≤8)∧(0≤x.prio∧x.prio≤9)∧(1≤x.fB∧x.fB≤100)∧yD x.bZ=true∧(dR x).2=true:=by
 unfold eE
 have e:(!Ol x.count 1 8||!Ol x.prio 0 9||!Ol x.fB 1 100)=!decide ((1≤x.count∧x.count≤8)∧(0≤x.prio∧x.prio≤9)∧(1≤x.fB∧x.fB≤100)):=by
  unfold Ol
  by_cases h1:1≤x.count<;>by_cases h2:x.count≤8<;>by_cases h3:0≤x.prio<;>by_cases h4:x.prio≤9<;>by_cases h5:1≤x.fB<;>by_cases h6:x.fB≤100<;>simp [h1,h2,h3,h4,h5,h6]
 rw [e]
 by_cases h1:uK x.path x.path=true
 ·by_cases h2:(1≤x.count∧x.count≤8)∧(0≤x.prio∧x.prio≤9)∧(1≤x.fB∧x.fB≤100)
  ·by_cases h3:yD x.bZ=true
   ·by_cases h4:(dR x).2=true
    ·simp [h1,h2,h3,h4]
    simp [h1,h2,h3,h4]
   simp [h1,h2,h3]
  simp only [h2,decide_false]
  simp only [h1,Bool.not_true,Bool.false_eq_true,if_false,Bool.not_false,if_true]
  constructor
  ·intro h;cases h
  rintro ⟨_,a,b,c,_⟩;exact absurd ⟨a,b,c⟩ h2
 simp [h1]
theorem yK {t:List bu} {q:aQ}:(ph t q).2=true↔∃e∈t,e.path=q:=by
 unfold ph
 cases h:t.find? (fun e=>decide (e.path=q)) with
 |none=>
  rw [List.find?_eq_none] at h
  constructor
  ·intro g;cases g
  rintro ⟨e,he,g⟩;have:=h e he;simp [g] at this
 |some e=>
  have h1:=List.find?_some h
  exact ⟨fun _=>⟨e,List.mem_of_find?_eq_some h,by simpa using h1⟩,fun _=>rfl⟩
theorem yL {t:List bu} {p:aQ}:iO t p=true↔∀q∈above p,∃e∈t,e.path=q:=by
 unfold iO
 rw [Bool.not_eq_true',List.any_eq_false]
 simp only [List.mem_append,List.mem_singleton]
 constructor
 ·intro h q hq
  have:=h q (by rcases List.mem_cons.1 hq with g|g;exact .inr g;exact .inl g)
  exact yK.1 (by simpa using this)
 intro h q hq
 have:=yK.2 (h q (by rcases hq with g|g;exact List.mem_cons_of_mem _ g;rw [g];exact JS p))
 simp [this]
theorem iQ {t u:List bu} (h:cK t u) {p:aQ} (hs:iO t p=true):iO u p=true:=by
 rw [yL] at hs ⊢
 intro q hq
 obtain ⟨e,he,rfl⟩:=hs q hq
 exact h.mem he
abbrev tK (l:List Jb):Prop:=l.Pairwise (fun a b=>a.id<b.id)
theorem wU {l:List Jb} (ha:tK l) {i k:Nat} {x y:Jb} (hx:l[i]?=some x) (hy:l[k]?=some y) (e:x.id=y.id):i=k:=by
 obtain ⟨hi,rfl⟩:=List.getElem?_eq_some_iff.1 hx
 obtain ⟨hk,rfl⟩:=List.getElem?_eq_some_iff.1 hy
 rcases Nat.lt_trichotomy i k with g|g|g
 ·have:=List.pairwise_iff_getElem.1 ha i k hi hk g;omega
 ·exact g
 have:=List.pairwise_iff_getElem.1 ha k i hk hi g;omega
theorem iR {l:List Jb} (ha:tK l) {x y:Jb} (hx:x∈l) (hy:y∈l) (e:x.id=y.id):x=y:=by
 obtain ⟨i,hi⟩:=List.getElem?_of_mem hx
 obtain ⟨j,hj⟩:=List.getElem?_of_mem hy
 have:=wU ha hi hj e
 subst this;rw [hi] at hj;exact Option.some.inj hj
theorem EO {l:List Jb} (ha:tK l) {k:Nat} {j x:Jb} (hj:l[k]?=some j) {y:Jb}:y∈l.set k x↔y=x∨(y∈l∧y.id≠j.id):=by
 have hk:=(List.getElem?_eq_some_iff.1 hj).1
 constructor
 ·intro h
  obtain ⟨i,hi⟩:=List.getElem?_of_mem h
  by_cases e:k=i
  ·subst e;rw [List.getElem?_set_self hk] at hi;cases hi;exact .inl rfl
  rw [List.getElem?_set_ne e] at hi
  exact .inr ⟨List.mem_of_getElem? hi,fun g=>e (wU ha hj hi g.symm)⟩
 rintro (rfl|⟨h,g⟩)
 ·exact List.mem_of_getElem? (List.getElem?_set_self hk)
 obtain ⟨i,hi⟩:=List.getElem?_of_mem h
 have e:k≠i:=by rintro rfl;rw [hi] at hj;cases hj;exact g rfl
 exact List.mem_of_getElem? (i:=i) (by rw [List.getElem?_set_ne e];exact hi)
theorem R5 {l:List Jb} (ha:tK l) {k:Nat} {j:Jb} (hj:l[k]?=some j):l.eraseIdx k=l.filter fun y=>!decide (y.id=j.id):=by
 induction l generalizing k with
 |nil=>simp at hj
 |cons y r ih=>
  rw [tK,List.pairwise_cons] at ha
  cases k with
  |zero=>
   simp at hj;subst hj
   have:r.filter (fun z=>!decide (z.id=y.id))=r:=by
    rw [List.filter_eq_self];intro z hz;have:=ha.1 z hz;simp;omega
   simp [this]
  |succ k=>
   simp only [List.getElem?_cons_succ] at hj
   have hne:¬y.id=j.id:=by have:=ha.1 j (List.mem_of_getElem? hj);omega
   rw [List.eraseIdx_cons_succ,ih ha.2 hj]
   simp [hne]
theorem GQ {l:List Jb} (ha:tK l) {k:Nat} {j:Jb} (hj:l[k]?=some j) {y:Jb}:y∈l.eraseIdx k↔y∈l∧y.id≠j.id:=by
 rw [R5 ha hj,List.mem_filter];simp
theorem EP {l:List Jb} (ha:tK l) {k:Nat} {j x:Jb} (hj:l[k]?=some j) (e:x.id=j.id):tK (l.set k x):=by
 have h1:(l.set k x).map (·.id)=l.map (·.id):=by
  rw [List.map_set,e]
  have hk:=(List.getElem?_eq_some_iff.1 hj).1
  refine List.ext_getElem? fun i=>?_
  by_cases g:k=i
  ·subst g;rw [List.getElem?_set_self (by simpa using hk),List.getElem?_map,hj];rfl
  rw [List.getElem?_set_ne g]
 have h2:(l.map (·.id)).Pairwise (·<·):=List.pairwise_map.2 ha
 rw [←h1] at h2
 exact List.pairwise_map.1 h2
theorem yM (k:Nat) (p:aQ):∀{l:List Jb} {i:Nat} {j:Jb} (x:Jb),l[i]?=some j→lU k p (l.set i x)+kL k p j=lU k p l+kL k p x
 |[],_,_,_,h=>by simp at h
 |y::r,0,j,x,h=>by simp at h;subst h;simp only [List.set_cons_zero,jI];omega
 |y::r,i+1,j,x,h=>by
  simp only [List.getElem?_cons_succ] at h
  have:=yM k p x h
  simp only [List.set_cons_succ,jI];omega
theorem rS (k:Nat) (p:aQ):∀{l:List Jb} {i:Nat} {j:Jb},l[i]?=some j→lU k p (l.eraseIdx i)+kL k p j=lU k p l
 |[],_,_,h=>by simp at h
 |y::r,0,j,h=>by simp at h;subst h;simp only [List.eraseIdx_cons_zero,jI];omega
 |y::r,i+1,j,h=>by
  simp only [List.getElem?_cons_succ] at h
  have:=rS k p h
  simp only [List.eraseIdx_cons_succ,jI];omega
theorem JT (k:Nat) (p:aQ) (l:List Jb) (x:Jb):lU k p (l++[x])=lU k p l+kL k p x:=by simp [lU]
theorem Px (k:Nat) (p:aQ) {l:List Jb} {j:Jb} (h:j∈l):kL k p j≤lU k p l:=by
 induction l with
 |nil=>cases h
 |cons y r ih=>
  rw [jI]
  rcases List.mem_cons.1 h with rfl|h
  ·omega
  have:=ih h;omega
theorem mE {l:List Jb} {id:Int} {k:Nat} (h:l.findIdx? (fun j=>decide (j.id=id))=some k):∃j,l[k]?=some j∧j.id=id∧l.getD k Jb.zero=j:=by
 obtain ⟨hk,hp,_⟩:=List.findIdx?_eq_some_iff_getElem.1 h
 refine ⟨l[k],List.getElem?_eq_getElem hk,by simpa using hp,?_⟩
 rw [List.getD_eq_getElem?_getD,List.getElem?_eq_getElem hk];rfl
structure bH.ok (s:bH):Prop where
 bz:s.bz.ok
 kr:s.bz.w
 tree:Tree.ok s.tree
 used:∀e∈s.tree,∀k<4,vk k e.used=lU k e.path s.aG
 most:s.aG.length≤32
 next:1≤s.next∧s.next<18446744073709551616
 ids:tK s.aG
 yN:∀j∈s.aG,1≤j.id∧j.id<s.next
 yO:∀j∈s.aG,eE j.x=0∧j.x.gB.w∧iO s.tree j.x.path=true
 left:∀j∈s.aG,(j.runs=true→1≤j.left∧j.left≤j.x.fB)∧(j.runs=false→j.left=0)
 tL:MP s.queue
 nT:EI s.queue
 py:∀q,q∈s.queue↔∃j∈s.aG,j.runs=false∧q=⟨j.id,j.x.prio⟩
 places:∀x∈s.bz.places,∃j∈s.aG,j.runs=true∧j.id=x.bS∧x.v=j.x.gB
 count:∀j∈s.aG,j.runs=true→(vY j.id s.bz.places:Int)=j.x.count
 notes:s.ev.l.length≤32∧s.au.l.length≤32
theorem GR {l:List Jb} (ha:tK l) (f:Jb→cR) (hf:∀j,(f j).id=j.id):(l.map f).Nodup:=by
 rw [List.nodup_iff_pairwise_ne,List.pairwise_map]
 exact ha.imp fun {a b} h e=>by have:=congrArg cR.id e;rw [hf,hf] at this;omega
theorem bH.ok.UM {s:bH} (h:s.ok):s.queue.length=Cn s.aG:=by
 have h1:(((s.aG.filter fun j=>!j.runs).map fun j=>(⟨j.id,j.x.prio⟩:cR))).Nodup:=GR (h.ids.filter _) _ (fun _=>rfl)
 have h2:s.queue.Nodup:=by rw [List.nodup_iff_pairwise_ne];exact h.nT.imp fun {a b} g e=>g (by rw [e])
 have:=((List.perm_ext_iff_of_nodup h2 h1).2 fun q=>by
  rw [h.py q,List.mem_map]
  constructor
  ·rintro ⟨j,a,b,c⟩;exact ⟨j,List.mem_filter.2 ⟨a,by simp [b]⟩,c.symm⟩
  rintro ⟨j,a,c⟩;obtain ⟨a1,a2⟩:=List.mem_filter.1 a;exact ⟨j,a1,by simpa using a2,c.symm⟩).length_eq
 rw [this,lgM];rfl
end Dem
end
