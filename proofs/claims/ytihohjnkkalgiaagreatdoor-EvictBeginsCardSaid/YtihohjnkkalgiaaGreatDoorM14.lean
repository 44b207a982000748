/- Parts of a proof, joined. -/
import Derived.Test.YtihohjnkkalgiaaGreatDoorM13
import Derived.Lib.Bytealg
import Derived.Lib.Join
set_option linter.all false
set_option maxRecDepth 100000
set_option maxHeartbeats 4000000
section
open Go
namespace Dem
def bW (c:UInt8):aH→List aH
 |[]=>[[]]
 |x::xs=>if x=c then []::bW c xs else match bW c xs with
  |h::r=>(x::h)::r
  |[]=>[[x]]
theorem pi (c:UInt8):∀s:aH,(bW c s).length=s.count c+1
 |[]=>rfl
 |x::xs=>by
  have ih:=pi c xs
  unfold bW
  by_cases h:x=c
  ·simp [h,ih]
  simp only [h,if_false,List.count_cons,beq_iff_eq]
  split<;>simp_all
theorem C7 (c:UInt8) (s:aH):bW c s≠[]:=fun h=>by have:=pi c s;rw [h] at this;simp at this
theorem rf (c:UInt8):∀s:aH,Lib.indexByte s c<0→bW c s=[s]
 |[],_=>rfl
 |x::xs,h=>by
  have hg:=Lib.indexByte_ge xs c
  unfold Lib.indexByte at h
  have hx:x≠c:=by rintro rfl;simp at h
  have h2:Lib.indexByte xs c<0:=by
   simp only [beq_iff_eq,hx,if_false] at h
   split at h
   ·omega
   omega
  simp [bW,hx,rf c xs h2]
theorem yj (c:UInt8):∀(s:aH) (j:Nat),Lib.indexByte s c=j→j<s.length∧bW c s=s.take j::bW c (s.drop (j+1))∧s.count c=(s.drop (j+1)).count c+1
 |[],j,h=>by simp [Lib.indexByte] at h
 |x::xs,j,h=>by
  have hg:=Lib.indexByte_ge xs c
  unfold Lib.indexByte at h
  by_cases hx:x=c
  ·simp only [beq_iff_eq,hx,if_true] at h
   have:j=0:=by omega
   subst this;simp [bW,hx]
  simp only [beq_iff_eq,hx,if_false] at h
  split at h
  ·omega
  obtain ⟨i,rfl⟩:∃i,j=i+1:=⟨j-1,by omega⟩
  obtain ⟨h1,h2,h3⟩:=yj c xs i (by omega)
  refine ⟨by simp;omega,?_,?_⟩
  ·simp [bW,hx,h2]
  simp [hx,h3]
theorem Es {s:aH} {r:Int} (h:r=Lib.indexByte s 47) (h0:r<0):s.count 47=0:=by
 have e:=pi 47 s
 rw [rf 47 s (h▸h0)] at e
 simp at e;simpa using e
theorem Et {s:aH} {r:Int} (h:r=Lib.indexByte s 47) (h0:0≤r):∃j:Nat,r=j∧j<s.length∧bW 47 s=s.take j::bW 47 (s.drop (j+1))∧s.count 47=(s.drop (j+1)).count 47+1:=by
 obtain ⟨j,rfl⟩:=Int.eq_ofNat_of_zero_le h0
 obtain ⟨h1,h2,h3⟩:=yj 47 s j h.symm
 exact ⟨j,rfl,h1,h2,h3⟩
theorem AR {s:aH} (h:s.count 47=0):bW 47 s=[s]:=by
 refine rf 47 s (Int.not_le.1 fun h0=>?_)
 obtain ⟨j,_,_,_,e⟩:=Et rfl h0
 omega
def fo (l:List aH):aH:=Lib.join l [47]
def parts (s:aH):List aH:=if decide (3<(bW 47 s).length)||(bW 47 s).any (fun n=>!eC n) then [] else bW 47 s
def mj (s:aH):List aH:=(List.range (parts s).length).map fun k=>fo ((parts s).take (k+1))
def nB (a b:aH):Bool:=(mj b).contains a
def named (p:aH):Bool:=decide (p=[])||nB p p
def above (p:aH):List aH:=[]::mj p
def parent (p:aH):aH:=(above p).getD ((above p).length-2) []
theorem kg (s:aH):(parts s).length≤3:=by
 unfold parts;split
 ·simp
 rename_i h;simp at h;omega
theorem ig (s:aH):(mj s).length=(parts s).length:=by simp [mj]
theorem sY (x:aH) (r:List aH):Lib.joinTail [47] (x::r)=47::fo (x::r):=by
 rw [fo,Lib.join_cons];simp [Lib.joinTail]
theorem yl:∀s:aH,fo (bW 47 s)=s
 |[]=>rfl
 |c::s=>by
  have ih:=yl s
  unfold bW
  cases e:bW 47 s with
  |nil=>exact absurd e (C7 47 s)
  |cons h r=>
   rw [e] at ih
   split
   ·rename_i hc
    show Lib.join ([]::h::r) [47]=_
    rw [Lib.join_cons,sY,ih,hc];rfl
   show Lib.join ((c::h)::r) [47]=_
   rw [Lib.join_cons,List.cons_append,←Lib.join_cons]
   exact congrArg _ ih
theorem Cs (l:List aH) (k:Nat):(Lib.joinTail [47] (l.take k)).length≤(Lib.joinTail [47] l).length:=by
 have e:Lib.joinTail [47] l=Lib.joinTail [47] (l.take k)++Lib.joinTail [47] (l.drop k):=by
  simp only [Lib.joinTail];rw [←List.flatten_append,←List.map_append,List.take_append_drop]
 rw [e,List.length_append];omega
theorem JH (l:List aH) (k:Nat):(fo (l.take k)).length≤(fo l).length:=by
 cases l with
 |nil=>simp
 |cons x r=>
  cases k with
  |zero=>simp [fo,Lib.join_nil]
  |succ k=>
   simp only [List.take_succ_cons,fo,Lib.join_cons,List.length_append]
   have:=Cs r k
   omega
theorem C8 (s:aH) (k:Nat):(fo ((parts s).take k)).length≤s.length:=by
 refine Nat.le_trans (JH _ k) ?_
 unfold parts
 split
 ·simp [fo,Lib.join_nil]
 rw [yl];exact Nat.le_refl _
theorem S9 {s:aH} {k:Nat} (hk:k<(parts s).length):(mj s)[k]?=some (fo ((parts s).take (k+1))):=by simp [mj,hk]
theorem C9 {s:aH} {k:Nat} (hk:k<(parts s).length):(mj s).take (k+1)=(mj s).take k++[fo ((parts s).take (k+1))]:=by
 have hl:k<(mj s).length:=by rw [ig];exact hk
 rw [List.take_add_one,S9 hk];rfl
def bK.at_ (v:bK):Nat→Int
 |0=>v.a
 |1=>v.b
 |2=>v.c
 |_=>v.d
structure Ask where
 path:aH
 fK:bK
 count:Int
 prio:Int
 fq:Int
 bY:List Term
deriving DecidableEq
instance:Inhabited Ask:=⟨⟨[],bK.zero,0,0,0,[]⟩⟩
def Ask.zero:Ask:=⟨[],bK.zero,0,0,0,[]⟩
def cU (x:Ask):bK×Bool:=JG x.fK (x.count%18446744073709551616)
def Sa (n a b:Int):Bool:=decide (a≤n)&&decide (n≤b)
def dZ (x:Ask):Int:=
 if !nB x.path x.path then 6 else if !Sa x.count 1 8||!Sa x.prio 0 9||!Sa x.fq 1 100 then 1 else if !AP x.bY then 2 else if !(cU x).2 then 5 else 0
def fitting (l:List bS) (x:List Term):List bS:=l.filter fun s=>ny x s.labels
structure Eu where
 at_:Nat
 left:bK
 ok:Bool
def mo (v:bK):List bS→Nat→Eu→Eu
 |[],_,b=>b
 |s::r,k,b=>mo v r (k+1) (if (dY s.free v).2&&(!b.ok||decide (qZ (dY s.free v).1 b.left<0)) then ⟨k,(dY s.free v).1,true⟩ else b)
def best (l:List bS) (v:bK):Eu:=mo v l 0 ⟨0,bK.zero,false⟩
instance:Inhabited bS:=⟨⟨[],bK.zero,[]⟩⟩
def nW (v:bK):Nat→List bS→List aH→List aH×Bool
 |0,_,out=>(out,true)
 |n+1,l,out=>if !(best l v).ok then ([],false) else
  nW v n (l.set (best l v).at_ {l.getD (best l v).at_ default with free:=(best l v).left}) (out++[(l.getD (best l v).at_ default).node])
def fit (l:List bS) (x:List Term) (v:bK) (count:Int):List aH×Bool:=
 if 8<count then ([],false) else nW v (max count 0).toNat (fitting l x) []
structure be where
 path:aH
 eH:bK
 used:bK
deriving DecidableEq
abbrev be.cells (e:be):List D:=[.str e.path,.int .u64 e.eH.a,.int .u64 e.eH.b,.int .u64 e.eH.c,.int .u64 e.eH.d,.int .u64 e.used.a,.int .u64 e.used.b,.int .u64 e.used.c,.int .u64 e.used.d]
def be.zero:be:=⟨[],bK.zero,bK.zero⟩
instance:Inhabited be:=⟨be.zero⟩
def bT (t:List be) (p:aH):Int:=idxOf (fun e=>decide (e.path=p)) t
def ri (t:List be) (p:aH):be×Bool:=match t.find? (fun e=>decide (e.path=p)) with
 |some e=>(e,true)
 |none=>(be.zero,false)
def vv (t:List be) (p:aH) (v:bK):List be×Int:=
 if !named p then (t,6) else
 if !decide (p=[])&&decide (bT t (parent p)<0) then (t,7) else
 if decide (bT t p<0)&&decide (16≤t.length) then (t,9) else
 match t.findIdx? (fun e=>decide (e.path=p)) with
 |some k=>if !kY ((t.getD k be.zero).used) v then (t,10) else (t.set k {t.getD k be.zero with eH:=v},0)
 |none=>match t.findIdx? (fun e=>!Op.bytesLess e.path p) with
  |some k=>(t.take k++⟨p,v,bK.zero⟩::t.drop k,0)
  |none=>(t++[⟨p,v,bK.zero⟩],0)
def fD (v:bK) (e:be):be×Int:=
 if !(iT e.used v).2 then (e,5) else if !kY (iT e.used v).1 e.eH then (e,10) else ({e with used:=(iT e.used v).1},0)
def eI (v:bK) (e:be):be×Int:=
 if !(dY e.used v).2 then (e,15) else ({e with used:=(dY e.used v).1},0)
def ki (f:be→be×Int) (t:List be):List aH→List be→List be×Int
 |[],out=>(out,0)
 |p::r,out=>if (f (t.getD (bT t p).toNat be.zero)).2≠0 then (t,(f (t.getD (bT t p).toNat be.zero)).2) else ki f t r (out.set (bT t p).toNat (f (t.getD (bT t p).toNat be.zero)).1)
def p6 (f:be→be×Int) (t:List be) (p:aH):List be×Int:=
 if !named p then (t,6) else if (above p).any (fun q=>decide (bT t q<0)) then (t,7) else ki f t (above p) t
def cZ (t:List be) (p:aH) (v:bK):List be×Int:=p6 (fD v) t p
def sx (t:List be) (p:aH) (v:bK):List be×Int:=p6 (eI v) t p
theorem Da:∀(x y:aH),Op.bytesLess x y=decide (x<y)
 |[],[]=>by simp [Op.bytesLess]
 |a::x,[]=>by simp [Op.bytesLess]
 |[],b::y=>by simp [Op.bytesLess]
 |a::x,b::y=>by
  have ih:=Da x y
  simp only [Op.bytesLess,ih]
  rw [Bool.eq_iff_iff]
  simp [List.cons_lt_cons_iff]
theorem kn (x:aH):¬x<x:=List.lt_irrefl x
theorem wJ {x y z:aH} (h:x<y) (g:y<z):x<z:=List.lt_trans h g
theorem LW (x y:aH):x<y∨x=y∨y<x:=by
 by_cases h:x<y
 ·exact .inl h
 by_cases g:y<x
 ·exact .inr (.inr g)
 exact .inr (.inl (List.le_antisymm (List.not_lt.1 g) (List.not_lt.1 h)))
abbrev JI (l:List Node):Prop:=l.Pairwise (fun x y=>x.name<y.name)
def Node.yY (n:Node):Bool:=eC n.name&&tV n.labels
structure cB.ok (p:cB):Prop where
 ym:JI p.nodes
 yY:∀n∈p.nodes,n.yY=true
 free:∀n∈p.nodes,(cE n.name p.nodes p.places).2=true
 most:p.nodes.length≤16
 here:∀x∈p.places,∃n∈p.nodes,n.name=x.node
theorem Qi {l:List Node} (ha:JI l) {n:Node} (hn:n∈l):l.find? (fun x=>decide (x.name=n.name))=some n:=by
 induction l with
 |nil=>cases hn
 |cons m r ih=>
  rw [List.find?_cons]
  have Yx:=List.pairwise_cons.1 ha
  rcases List.mem_cons.1 hn with rfl|hn
  ·simp
  have:m.name≠n.name:=fun e=>by have:=Yx.1 n hn;rw [e] at this;exact kn _ this
  simp [this,ih Yx.2 hn]
theorem Dc {l:List Node} (ha:JI l) {n:Node} (hn:n∈l):eG n.name l=(n,true):=by
 unfold eG;rw [Qi ha hn]
theorem JK {l:List Node} {name:aH} (h:(eG name l).2=true):(eG name l).1∈l∧(eG name l).1.name=name:=by
 unfold eG at h ⊢
 split at h
 ·rename_i x hx
  have h1:=List.mem_of_find?_eq_some hx
  have h2:=List.find?_some hx
  exact ⟨h1,by simpa using h2⟩
 cases h
def left (name:aH) (ps:List Place) (v:bK×Bool):bK×Bool:=ps.foldl (cJ name) v
theorem wK {l:List Node} (ha:JI l) {n:Node} (hn:n∈l) (ps:List Place):cE n.name l ps=if (left n.name ps (n.cap,true)).2 then left n.name ps (n.cap,true) else (bK.zero,false):=by
 unfold cE;rw [Dc ha hn];rfl
theorem gG {l:List Node} (ha:JI l) {n:Node} (hn:n∈l) (ps:List Place):(cE n.name l ps).2=(left n.name ps (n.cap,true)).2:=by
 rw [wK ha hn]
 split
 ·rfl
 rename_i h;simp at h;simp [h]
theorem JL (name:aH) (ps:List Place):∀v,(left name ps (v,false))=(v,false):=by
 induction ps with
 |nil=>intro v;rfl
 |cons x r ih=>intro v;simp only [left,List.foldl_cons];rw [show cJ name (v,false) x=(v,false) by simp [cJ]];exact ih v
theorem M5 (name:aH) (ps:List Place) (x:Place) (v:bK×Bool):left name (ps++[x]) v=cJ name (left name ps v) x:=by simp [left]
def bK.w (v:bK):Prop:=∀k<4,0≤v.at_ k∧v.at_ k<18446744073709551616
theorem Zz {P:Nat→Prop}:(∀k<4,P k)↔P 0∧P 1∧P 2∧P 3:=by
 constructor
 ·intro h;exact ⟨h 0 (by decide),h 1 (by decide),h 2 (by decide),h 3 (by decide)⟩
 rintro ⟨h0,h1,h2,h3⟩ k hk
 match k,hk with
 |0,_=>exact h0
 |1,_=>exact h1
 |2,_=>exact h2
 |3,_=>exact h3
theorem Ta {x y:Int}:(GV x y).2=true↔y.toNat≤x.toNat:=by
 unfold GV;split<;>simp<;>omega
theorem Tb {x y:Int}:(GU x y).2=true↔x.toNat+y.toNat<18446744073709551616:=by
 unfold GU;split<;>simp<;>omega
theorem mX {a b:bK}:(dY a b).2=true↔∀k<4,(b.at_ k).toNat≤(a.at_ k).toNat:=by
 rw [Zz];simp only [bK.at_,←Ta]
 unfold dY both;split
 ·rename_i h;simp only [Bool.and_eq_true] at h;simp [h]
 rename_i h;simp only [Bool.and_eq_true,not_and] at h;simp;intro h1 h2 h3;simpa using h ⟨⟨h1,h2⟩,h3⟩
theorem Ev {a b:bK}:(iT a b).2=true↔∀k<4,(a.at_ k).toNat+(b.at_ k).toNat<18446744073709551616:=by
 rw [Zz];simp only [bK.at_,←Tb]
 unfold iT both;split
 ·rename_i h;simp only [Bool.and_eq_true] at h;simp [h]
 rename_i h;simp only [Bool.and_eq_true,not_and] at h;simp;intro h1 h2 h3;simpa using h ⟨⟨h1,h2⟩,h3⟩
theorem Ew {a b:bK} (h:(dY a b).2=true):∀k<4,(dY a b).1.at_ k=((((a.at_ k).toNat-(b.at_ k).toNat)%18446744073709551616:Nat):Int):=by
 have h':=mX.1 h
 rw [Zz] at h' ⊢
 simp only [bK.at_] at h' ⊢
 unfold dY both at h ⊢
 split at h
 ·rename_i g
  rw [if_pos g]
  simp only [GV]
  rw [if_neg (by omega),if_neg (by omega),if_neg (by omega),if_neg (by omega)]
  simp
 cases h
theorem LY {a b:bK} (h:(iT a b).2=true):∀k<4,(iT a b).1.at_ k=(((a.at_ k).toNat+(b.at_ k).toNat:Nat):Int):=by
 have h':=Ev.1 h
 rw [Zz] at h' ⊢
 simp only [bK.at_] at h' ⊢
 unfold iT both at h ⊢
 split at h
 ·rename_i g
  rw [if_pos g]
  simp only [GU]
  rw [if_pos (by omega),if_pos (by omega),if_pos (by omega),if_pos (by omega)]
  simp
 cases h
theorem JM {a b:bK} (h:(dY a b).2=true):(dY a b).1.w:=by
 intro k hk;rw [Ew h k hk];omega
def here (name:aH) (ps:List Place):List Place:=ps.filter (fun x=>decide (x.node=name))
def gu (k:Nat) (l:List Place):Nat:=(l.map (fun x=>(x.v.at_ k).toNat)).sum
theorem nX (name:aH):∀(ps:List Place) (v:bK),v.w→((left name ps (v,true)).2=true↔∀k<4,gu k (here name ps)≤(v.at_ k).toNat)∧
 ((left name ps (v,true)).2=true→∀k<4,(left name ps (v,true)).1.at_ k=(((v.at_ k).toNat-gu k (here name ps):Nat):Int))
 |[],v,hv=>by
  simp only [left,List.foldl_nil,here,List.filter_nil,gu,List.map_nil,List.sum_nil]
  exact ⟨by simp,fun _ k hk=>by have:=hv k hk;omega⟩
 |x::r,v,hv=>by
  by_cases hx:x.node=name
  ·have e1:left name (x::r) (v,true)=left name r (dY v x.v):=by simp [left,cJ,hx]
   have e2:here name (x::r)=x::here name r:=by simp [here,hx]
   rw [e1,e2]
   cases hs:(dY v x.v).2 with
   |false=>
    have e3:dY v x.v=((dY v x.v).1,false):=by rw [←hs]
    rw [e3,JL]
    refine ⟨⟨fun h=>Bool.noConfusion h,fun h=>?_⟩,fun h=>Bool.noConfusion h⟩
    have:(dY v x.v).2=true:=mX.2 fun k hk=>by have:=h k hk;simp [gu] at this;omega
    rw [hs] at this;cases this
   |true=>
    have e3:dY v x.v=((dY v x.v).1,true):=by rw [←hs]
    rw [e3]
    obtain ⟨i1,i2⟩:=nX name r (dY v x.v).1 (JM hs)
    have hat:=Ew hs
    have hok:=mX.1 hs
    constructor
    ·rw [i1]
     constructor
     ·intro h k hk;have a1:=h k hk;have a2:=hat k hk;have a3:=hok k hk;have a4:=hv k hk
      rw [a2] at a1;simp only [gu,List.map_cons,List.sum_cons] at a1 ⊢;omega
     intro h k hk;have a1:=h k hk;have a2:=hat k hk;have a3:=hok k hk;have a4:=hv k hk
     rw [a2];simp only [gu,List.map_cons,List.sum_cons] at a1 ⊢;omega
    intro h k hk
    rw [i2 h k hk];have a1:=(i1.1 h) k hk;have a2:=hat k hk;have a3:=hok k hk;have a4:=hv k hk
    rw [a2] at a1 ⊢;simp only [gu,List.map_cons,List.sum_cons] at a1 ⊢;omega
  have e1:left name (x::r) (v,true)=left name r (v,true):=by simp [left,cJ,hx]
  have e2:here name (x::r)=here name r:=by simp [here,hx]
  rw [e1,e2];exact nX name r v hv
theorem AS {k:Nat} {l m:List Place} (h:l.Sublist m):gu k l≤gu k m:=by
 unfold gu
 induction h with
 |slnil=>simp
 |cons a _ ih=>simp;omega
 |cons_cons a _ ih=>simp;omega
structure cB.w (p:cB):Prop where
 cap:∀n∈p.nodes,n.cap.w
 v:∀x∈p.places,x.v.w
theorem cB.Tc {p:cB} (h:p.ok) (hw:p.w) {n:Node} (hn:n∈p.nodes):∀k<4,gu k (Dem.here n.name p.places)≤(n.cap.at_ k).toNat:=by
 have:=h.free n hn
 rw [gG h.ym hn] at this
 exact (nX n.name p.places n.cap (hw.cap n hn)).1.1 this
theorem JN {p:cB} (ha:JI p.nodes) (hc:∀n∈p.nodes,n.cap.w) {n:Node} (hn:n∈p.nodes) (h:∀k<4,gu k (here n.name p.places)≤(n.cap.at_ k).toNat):(cE n.name p.nodes p.places).2=true:=by
 rw [gG ha hn];exact (nX n.name p.places n.cap (hc n hn)).1.2 h
theorem Td {p:cB} (h:p.ok) (hw:p.w) (f:Place→Bool):cB.ok ⟨p.nodes,p.places.filter f⟩:=by
 refine ⟨h.ym,h.yY,fun n hn=>?_,h.most,fun x hx=>h.here x (List.mem_filter.1 hx).1⟩
 refine JN (p:=⟨p.nodes,p.places.filter f⟩) h.ym hw.cap hn fun k hk=>?_
 refine Nat.le_trans (AS ?_) (cB.Tc h hw hn k hk)
 exact (List.filter_sublist (l:=p.places) (p:=f)).filter _
theorem VR {p:cB} (hw:p.w) (f:Place→Bool):cB.w ⟨p.nodes,p.places.filter f⟩:=⟨hw.cap,fun x hx=>hw.v x (List.mem_filter.1 hx).1⟩
theorem wL:bK.zero.w:=by
 intro k hk;have:bK.zero.at_ k=0:=by unfold bK.at_;split<;>rfl
 rw [this];omega
theorem zq {α:Type} {l:List α} {i:Nat} {x y:α} (h:y∈l.set i x):y∈l∨y=x:=by
 rcases List.mem_or_eq_of_mem_set h with h|h
 ·exact .inl h
 exact .inr h
theorem Qj {l:List Node} {i:Nat} {x:Node} {up:Bool} (hx:l[i]?=some x) (name:aH):
 (eG name (l.set i {x with up:=up})).1.cap=(eG name l).1.cap∧(eG name (l.set i {x with up:=up})).2=(eG name l).2:=by
 have key:(l.set i {x with up:=up}).find? (fun y=>decide (y.name=name))=(l.find? (fun y=>decide (y.name=name))).map (fun y=>if y=x∧l.findIdx? (fun y=>decide (y.name=name))=some i then {x with up:=up} else y):=by
  induction l generalizing i with
  |nil=>simp at hx
  |cons m r ih=>
   cases i with
   |zero=>
    simp at hx;subst hx
    simp only [List.set_cons_zero,List.find?_cons,List.findIdx?_cons]
    by_cases hm:m.name=name
    ·simp [hm]
    simp only [hm,decide_false]
    cases hf:r.find? (fun y=>decide (y.name=name)) with
    |none=>simp
    |some z=>simp
   |succ i=>
    simp only [List.getElem?_cons_succ] at hx
    have:=ih hx
    simp only [List.set_cons_succ,List.find?_cons,List.findIdx?_cons]
    by_cases hm:m.name=name
    ·simp [hm]
    simp only [hm,decide_false]
    rw [this]
    simp
 unfold eG
 rw [key]
 cases hf:l.find? (fun y=>decide (y.name=name)) with
 |none=>simp
 |some z=>
  simp only [Option.map_some]
  split
  ·rename_i h;rw [h.1];simp
  simp
theorem M6 {l:List Node} {i:Nat} {x:Node} {up:Bool} (hx:l[i]?=some x) (name:aH) (ps:List Place):cE name (l.set i {x with up:=up}) ps=cE name l ps:=by
 obtain ⟨h1,h2⟩:=Qj (up:=up) hx name
 unfold cE;rw [h1,h2]
theorem De {l:List Node} {i:Nat} {x:Node} {up:Bool} (hx:l[i]?=some x):(l.set i {x with up:=up}).map (·.name)=l.map (·.name):=by
 apply List.ext_getElem?
 intro j
 simp only [List.getElem?_map,List.getElem?_set]
 split
 ·rename_i e;subst e;rw [hx];split<;>simp;
  rename_i h;have:=(List.getElem?_eq_some_iff.1 hx).1;omega
 rfl
theorem M7 {l m:List Node} (h:l.map (·.name)=m.map (·.name)) (ha:JI m):JI l:=by
 have h1:(m.map (·.name)).Pairwise (fun a b=>a<b):=List.pairwise_map.2 ha
 rw [←h] at h1
 exact List.pairwise_map.1 h1
theorem Te {p:cB} (h:p.ok) (hw:p.w) (name:aH) (up:Bool):(fm p name up).1.ok∧(fm p name up).1.w:=by
 unfold fm
 split
 ·rename_i i x h1 h2
  split
  ·exact ⟨h,hw⟩
  obtain ⟨hi,hp,_⟩:=List.findIdx?_eq_some_iff_getElem.1 h1
  have hx:p.nodes[i]?=some x:=by
   have:=cF (p:=fun x:Node=>decide (x.name=name)) (l:=p.nodes) rfl
   rcases this with ⟨_,h3,_⟩|⟨j,y,_,_,hy,_,h3,h4⟩
   ·rw [h1] at h3;cases h3
   rw [h1] at h3;cases h3;rw [h2] at h4;cases h4;exact hy
  have hm:x∈p.nodes:=List.mem_of_getElem? hx
  refine ⟨⟨M7 (De hx) h.ym,?_,?_,by simpa using h.most,?_⟩,⟨?_,hw.v⟩⟩
  ·intro n hn;rcases zq hn with hn|rfl
   ·exact h.yY n hn
   exact h.yY x hm
  ·intro n hn
   show (cE n.name (p.nodes.set i {x with up:=up}) p.places).2=true
   rw [M6 hx]
   rcases zq hn with hn|rfl
   ·exact h.free n hn
   exact h.free x hm
  ·intro y hy
   obtain ⟨n,hn,e⟩:=h.here y hy
   have:n.name∈(p.nodes.set i {x with up:=up}).map (·.name):=by rw [De hx];exact List.mem_map.2 ⟨n,hn,rfl⟩
   obtain ⟨m,hm,em⟩:=List.mem_map.1 this
   exact ⟨m,hm,by rw [em,e]⟩
  intro n hn;rcases zq hn with hn|rfl
  ·exact hw.cap n hn
  exact hw.cap x hm
 exact ⟨h,hw⟩
theorem tX {name:aH} {v:bK} {l:List Node} {ps:List Place} (h:mW name v l ps=0):(eG name l).2=true∧(eG name l).1.up=true∧(cE name l ps).2=true∧kY v (cE name l ps).1=true:=by
 unfold mW at h
 split at h
 ·omega
 split at h
 ·omega
 split at h
 ·omega
 rename_i h1 h2 h3
 simp only [Bool.or_eq_true,not_or,Bool.not_eq_true',Bool.not_eq_false] at h1 h2 h3
 exact ⟨h1,h2,h3.1,h3.2⟩
theorem LZ {p:cB} (h:p.ok) (hw:p.w) {name:aH} {v:bK} (hv:v.w) (bA:Int) (h0:mW name v p.nodes p.places=0):cB.ok ⟨p.nodes,p.places++[⟨bA,name,v⟩]⟩∧cB.w ⟨p.nodes,p.places++[⟨bA,name,v⟩]⟩:=by
 obtain ⟨r1,r2,r3,r4⟩:=tX h0
 obtain ⟨m1,m2⟩:=JK r1
 refine ⟨⟨h.ym,h.yY,fun n hn=>?_,h.most,?_⟩,⟨hw.cap,?_⟩⟩
 ·show (cE n.name p.nodes (p.places++[⟨bA,name,v⟩])).2=true
  rw [gG h.ym hn,M5]
  have hl:=h.free n hn
  rw [gG h.ym hn] at hl
  unfold cJ
  split
  ·rename_i g
   simp only [Bool.and_eq_true,decide_eq_true_eq] at g
   obtain ⟨g1,g2⟩:=g
   rw [cE,g2,] at r4
   have e:cE name p.nodes p.places=left n.name p.places (n.cap,true):=by
    rw [g2,wK h.ym hn,if_pos hl]
   rw [←g2] at r4
   have r4':kY v (left n.name p.places (n.cap,true)).1=true:=by rw [←e,g2];unfold cE;rw [←g2];exact r4
   exact r4'
  exact hl
 ·intro x hx
  rcases List.mem_append.1 hx with hx|hx
  ·exact h.here x hx
  simp at hx;subst hx;exact ⟨_,m1,m2⟩
 intro x hx
 rcases List.mem_append.1 hx with hx|hx
 ·exact hw.v x hx
 simp at hx;subst hx;exact hv
theorem Df (l:List Node) (bA:Int) {v:bK} (hv:v.w):∀(names:List aH) (ps:List Place),cB.ok ⟨l,ps⟩→cB.w ⟨l,ps⟩→(fA l bA v names ps).1=none→cB.ok ⟨l,(fA l bA v names ps).2⟩∧cB.w ⟨l,(fA l bA v names ps).2⟩
 |[],ps,h,hw,_=>⟨h,hw⟩
 |n::r,ps,h,hw,g=>by
  unfold fA at g ⊢
  split
  ·rename_i h1;rw [if_pos h1] at g;cases g
  rename_i h1
  rw [if_neg h1] at g
  have h0:mW n v l ps=0:=by omega
  obtain ⟨a,b⟩:=LZ (p:=⟨l,ps⟩) h hw hv bA h0
  exact Df l bA hv r _ a b g
theorem VS {p:cB} (h:p.ok) (hw:p.w) (bA:Int) (names:List aH) {v:bK} (hv:v.w):(tW p bA names v).1.ok∧(tW p bA names v).1.w:=by
 unfold tW
 split
 ·exact ⟨h,hw⟩
 rename_i g;exact Df p.nodes bA hv names p.places h hw g
theorem G3 (l:List Node) (nm:aH):pat l nm≤l.length∧(∀n∈l.take (pat l nm),n.name<nm)∧(∀n,l[pat l nm]?=some n→¬n.name<nm):=by
 unfold pat
 split
 ·rename_i k hk
  obtain ⟨zi,hp,hb⟩:=List.findIdx?_eq_some_iff_getElem.1 hk
  refine ⟨by omega,?_,?_⟩
  ·intro n hn
   obtain ⟨j,hj⟩:=List.getElem?_of_mem hn
   rw [List.getElem?_take] at hj
   split at hj
   ·rename_i Vi
    rw [List.getElem?_eq_getElem (by omega)] at hj
    cases hj
    have:=hb j Vi
    simpa [Da] using this
   cases hj
  intro n hn
  rw [List.getElem?_eq_getElem zi] at hn;cases hn
  simpa [Da] using hp
 rename_i hk
 rw [List.findIdx?_eq_none_iff] at hk
 refine ⟨Nat.le_refl _,?_,?_⟩
 ·intro n hn
  rw [List.take_length] at hn
  have:=hk n hn
  simpa [Da] using this
 intro n hn;simp at hn
theorem zu {l:List Node} {k:Nat} {x y:Node}:y∈l.take k++x::l.drop k↔y∈l∨y=x:=by
 rw [List.mem_append,List.mem_cons]
 constructor
 ·rintro (h|h|h)
  ·exact .inl (List.mem_of_mem_take h)
  ·exact .inr h
  exact .inl (List.mem_of_mem_drop h)
 rintro (h|h)
 ·rw [←List.take_append_drop k l,List.mem_append] at h
  rcases h with h|h
  ·exact .inl h
  exact .inr (.inr h)
 exact .inr (.inl h)
theorem Tf {l:List Node} (ha:JI l) {x:Node} (hn:∀n∈l,n.name≠x.name):JI (l.take (pat l x.name)++x::l.drop (pat l x.name)):=by
 obtain ⟨h1,h2,h3⟩:=G3 l x.name
 have hs:=ha
 rw [←List.take_append_drop (pat l x.name) l] at hs
 have hs':=List.pairwise_append.1 hs
 have hd:∀n∈l.drop (pat l x.name),x.name<n.name:=by
  intro n hm
  cases hc:l.drop (pat l x.name) with
  |nil=>rw [hc] at hm;cases hm
  |cons m r=>
   have hlt:pat l x.name<l.length:=by
    rcases Nat.lt_or_ge (pat l x.name) l.length with h|h
    ·exact h
    rw [List.drop_eq_nil_of_le h] at hc;cases hc
   have hg:l[pat l x.name]?=some m:=by
    have:(l.drop (pat l x.name))[0]?=some m:=by rw [hc];rfl
    simpa using this
   have MT:m∈l:=List.mem_of_getElem? hg
   have ZA:x.name<m.name:=by
    rcases LW x.name m.name with h|h|h
    ·exact h
    ·exact absurd h.symm (hn m MT)
    exact absurd h (h3 m hg)
   rw [hc] at hm
   rcases List.mem_cons.1 hm with rfl|hm
   ·exact ZA
   have:=hs'.2.1;rw [hc] at this
   exact wJ ZA ((List.pairwise_cons.1 this).1 n hm)
 refine List.pairwise_append.2 ⟨hs'.1,List.pairwise_cons.2 ⟨hd,hs'.2.1⟩,?_⟩
 intro a Yx b hb
 rcases List.mem_cons.1 hb with rfl|hb
 ·exact h2 a Yx
 exact hs'.2.2 a Yx b hb
theorem tY (p:cB) (n:Node):((qW p n).1=p∧(qW p n).2≠0)∨(n.yY=true∧(∀m∈p.nodes,m.name≠n.name)∧p.nodes.length<16∧
 qW p n=(⟨p.nodes.take (pat p.nodes n.name)++{n with up:=true}::p.nodes.drop (pat p.nodes n.name),p.places⟩,0)):=by
 unfold qW
 split
 ·exact .inl ⟨rfl,by simp⟩
 split
 ·exact .inl ⟨rfl,by simp⟩
 split
 ·exact .inl ⟨rfl,by simp⟩
 split
 ·exact .inl ⟨rfl,by simp⟩
 rename_i h1 h2 h3 h4
 simp only [Bool.not_eq_true',Bool.not_eq_false] at h1 h2
 refine .inr ⟨by simp [Node.yY,h1,h2],?_,by omega,rfl⟩
 rw [←fe] at h3
 intro m hm e
 exact h3 (List.any_eq_true.2 ⟨m,hm,by simp [e]⟩)
theorem M8 {name:aH} {ps:List Place} (h:∀x∈ps,x.node≠name) (v:bK×Bool):left name ps v=v:=by
 unfold left
 induction ps generalizing v with
 |nil=>rfl
 |cons x r ih=>
  rw [List.foldl_cons,show cJ name v x=v by simp [cJ,h x (by simp)]]
  exact ih (fun y hy=>h y (by simp [hy])) v
theorem VT {p:cB} (h:p.ok) (hw:p.w) {n:Node} (hc:n.cap.w):(qW p n).1.ok∧(qW p n).1.w:=by
 rcases tY p n with ⟨e,_⟩|⟨h1,h2,h3,e⟩
 ·rw [e];exact ⟨h,hw⟩
 rw [e]
 have ha:JI (p.nodes.take (pat p.nodes n.name)++{n with up:=true}::p.nodes.drop (pat p.nodes n.name)):=Tf (x:={n with up:=true}) h.ym h2
 refine ⟨⟨ha,?_,?_,?_,?_⟩,⟨?_,hw.v⟩⟩
 ·intro m hm;rcases zu.1 hm with hm|rfl
  ·exact h.yY m hm
  exact h1
 ·intro m hm
  show (cE m.name (p.nodes.take (pat p.nodes n.name)++{n with up:=true}::p.nodes.drop (pat p.nodes n.name)) p.places).2=true
  rw [gG ha hm]
  rcases zu.1 hm with hm|rfl
  ·have:=h.free m hm;rwa [gG h.ym hm] at this
  rw [M8]
  intro x hx e
  obtain ⟨m,hm,em⟩:=h.here x hx
  exact h2 m hm (by rw [em,e])
 ·have:=(G3 p.nodes n.name).1;simp;omega
 ·intro x hx
  obtain ⟨m,hm,em⟩:=h.here x hx
  exact ⟨m,zu.2 (.inl hm),em⟩
 intro m hm;rcases zu.1 hm with hm|rfl
 ·exact hw.cap m hm
 exact hc
def Tg:aH:=[122,111,110,101]
def rj (p:cB) (bA:Int):cB:=⟨p.nodes,p.places.filter (fun x=>!decide (x.bA=bA))⟩
theorem L0:cB.ok ⟨[],[]⟩:=⟨List.Pairwise.nil,by simp,by simp,by simp,by simp⟩
theorem Qk:cB.w ⟨[],[]⟩:=⟨by simp,by simp⟩
theorem nY {α β:Type} {P:α→Prop} {f:α→β→α} (hf:∀a b,P a→P (f a b)):∀(l:List β) (a:α),P a→P (l.foldl f a)
 |[],_,h=>h
 |b::r,a,h=>nY hf r (f a b) (hf a b h)
structure Jb where
 id:Int
 x:Ask
 runs:Bool
 left:Int
deriving DecidableEq
def Jb.zero:Jb:=⟨0,Ask.zero,false,0⟩
instance:Inhabited Jb:=⟨Jb.zero⟩
structure dQ where
 round:Int
 id:Int
 kind:Int
deriving DecidableEq
instance:Inhabited dQ:=⟨⟨0,0,0⟩⟩
structure Ct where
 first:Int
 l:List dQ
deriving DecidableEq
structure bE where
 round:Int
 next:Int
 bg:cB
 tree:List be
 ay:List Jb
 queue:List bZ
 ev:Ct
 au:Ct
def dQ.cells (n:dQ):List D:=[.int .u64 n.round,.int .u64 n.id,.int .i64 n.kind]
def Jb.cells (j:Jb):List D:=[.int .u64 j.id,.str j.x.path,.int .u64 j.x.fK.a,.int .u64 j.x.fK.b,.int .u64 j.x.fK.c,.int .u64 j.x.fK.d,.int .i64 j.x.count,.int .i64 j.x.prio,.int .i64 j.x.fq,.sl (j.x.bY.map Term.cells),.bool j.runs,.int .i64 j.left]
def bE.zero:bE:=⟨0,0,⟨[],[]⟩,[],[],[],⟨0,[]⟩,⟨0,[]⟩⟩
def M9:bE:={bE.zero with next:=1,tree:=[⟨[],bK.zero,bK.zero⟩]}
def JO (l:List Jb) (id:Int):Int:=idxOf (fun j=>decide (j.id=id)) l
def bG (l:List Jb) (id:Int):Jb×Bool:=match l.find? (fun j=>decide (j.id=id)) with
 |some j=>(j,true)
 |none=>(Jb.zero,false)
def u64 (n:Int):Int:=n%18446744073709551616
def tell (x:Ct) (n:dQ):Ct:=if 32<(x.l++[n]).length then ⟨u64 (x.first+1),(x.l++[n]).drop 1⟩ else ⟨x.first,x.l++[n]⟩
def gH (t:List be) (p:aH):Bool:=!((mj p++[[]]).any fun q=>!(ri t q).2)
def iH (s:bE) (id kind:Int):bE:={s with ev:=tell s.ev ⟨s.round,id,kind⟩}
def cX (s:bE) (x:Ask):bE×Int×Int:=
 if dZ x≠0 then (s,0,dZ x) else
 if !gH s.tree x.path then (s,0,7) else
 if 32≤s.ay.length∨s.next=18446744073709551615 then (s,0,9) else
 if (jW s.queue ⟨s.next,x.prio⟩).2≠0 then (s,0,(jW s.queue ⟨s.next,x.prio⟩).2) else
 (iH {s with queue:=(jW s.queue ⟨s.next,x.prio⟩).1,ay:=s.ay++[⟨s.next,x,false,0⟩],next:=u64 (s.next+1)} s.next 1,s.next,0)
def Dg (s:bE) (k:Nat) (j:Jb):bE:={s with ay:=s.ay.set k j}
def jG (s:bE) (k:Nat) (j:Jb) (id:Int) (nodes:List aH):bE×Int:=
 if j.runs then (s,15) else if (nodes.length:Int)≠j.x.count then (s,1) else
 if !(cU j.x).2 then (s,5) else
 if (cZ s.tree j.x.path (cU j.x).1).2≠0 then (s,(cZ s.tree j.x.path (cU j.x).1).2) else
 if (tW s.bg id nodes j.x.fK).2≠0 then (s,(tW s.bg id nodes j.x.fK).2) else
 (iH (Dg {s with tree:=(cZ s.tree j.x.path (cU j.x).1).1,bg:=(tW s.bg id nodes j.x.fK).1,queue:=(AQ s.queue id).1} k {j with runs:=true,left:=j.x.fq}) id 2,0)
def cM (s:bE) (id:Int) (nodes:List aH):bE×Int:=match s.ay.findIdx? (fun j=>decide (j.id=id)) with
 |none=>(s,7)
 |some k=>jG s k (s.ay.getD k Jb.zero) id nodes
def mY (s:bE) (j:Jb):bE:=
 {s with tree:=(if (cU j.x).2 then (sx s.tree j.x.path (cU j.x).1).1 else s.tree),bg:=rj s.bg j.id}
def eZ (s:bE) (id kind:Int):bE×Int:=match s.ay.findIdx? (fun j=>decide (j.id=id)) with
 |none=>(s,7)
 |some k=>if !(s.ay.getD k Jb.zero).runs then (s,15) else
  (iH (Dg {mY s (s.ay.getD k Jb.zero) with queue:=(jW s.queue ⟨id,(s.ay.getD k Jb.zero).x.prio⟩).1} k {s.ay.getD k Jb.zero with runs:=false,left:=0}) id kind,0)
def send (s:bE) (id kind:Int):bE×Int:=match s.ay.findIdx? (fun j=>decide (j.id=id)) with
 |none=>(s,7)
 |some k=>(iH {(if (s.ay.getD k Jb.zero).runs then mY s (s.ay.getD k Jb.zero) else {s with queue:=(AQ s.queue id).1}) with ay:=s.ay.eraseIdx k} id kind,0)
end Dem
end
section
open Go Go.Proofs Go.ChangeShapes Go.WideShapes Go.RowKit
namespace Dem
theorem trodAll_nil {H:Type} {enc:TypeId×Value→H} {P:Program} {W:World} {vs:List Value} {ds:List (DataW H)} {ps:List MemPlace} (h:DataW.TrodAll enc P W 0 (fun _=>true) true [] vs ds ps):vs=[]∧ds=[]:=by
 cases vs with
 |nil=>cases ds with
  |nil=>exact ⟨rfl,rfl⟩
  |cons d ds=>exact h.elim
 |cons v vs=>cases ds<;>exact h.elim
theorem trodAll_cons {H:Type} {enc:TypeId×Value→H} {P:Program} {W:World} {t:TypeId} {ts:List TypeId} {vs:List Value} {ds:List (DataW H)} {ps:List MemPlace} (h:DataW.TrodAll enc P W 0 (fun _=>true) true (t::ts) vs ds ps):
 ∃v vs' d ds' p q,vs=v::vs'∧ds=d::ds'∧DataW.Trod enc P W 0 (fun _=>true) true t v d p∧DataW.TrodAll enc P W 0 (fun _=>true) true ts vs' ds' q:=by
 cases vs with
 |nil=>cases ds<;>exact h.elim
 |cons v vs=>cases ds with
  |nil=>exact h.elim
  |cons d ds=>
   obtain ⟨p,q,h1,h2,rfl⟩:=h
   exact ⟨v,vs,d,ds,p,q,rfl,rfl,h1,h2⟩
section
variable {H:Type} {enc:TypeId×Value→H} {W:World} {v:Value} {d:DataW H} {p:List MemPlace} {base:Nat}
abbrev okW (W:World):Nat→Prop:=bt (fun _=>0) [] W (fun _=>False)
theorem VU (W:World):∀blk,blk<W.heap.size→okW W blk:=fun blk hb=>⟨hb,fun h=>h,fun i b hb=>by simp at hb⟩
theorem L2 {α:Type} {cells:α→List D} {Q:α→Prop}:∀(es:List (List D)),(∀r∈es,∃x,r=cells x∧Q x)→∃l:List α,es=l.map cells∧∀x∈l,Q x
 |[],_=>⟨[],rfl,by simp⟩
 |r::es,h=>by
  obtain ⟨x,rfl,hx⟩:=h r (by simp)
  obtain ⟨l,rfl,hl⟩:=L2 es (fun r hr=>h r (by simp [hr]))
  exact ⟨x::l,rfl,fun y hy=>by rcases List.mem_cons.1 hy with rfl|hy;exact hx;exact hl y hy⟩
end
end Dem
end
section
open Go
namespace Dem
theorem Dl (P:aH):[]∈above P:=by simp [above]
structure ej where
 bA:Int
 cnt:Int
def ej.cells (m:ej):List D:=[.int .u64 m.bA,.int .i64 m.cnt]
def oa (l:List Int):List Int:=l.mergeSort (fun x y=>decide (x≤y))
theorem AW {l m:List Int} (hl:l.Pairwise (fun x y=>x≤y)) (hm:m.Pairwise (fun x y=>x≤y)) (h:l.Perm m):l=m:=
 h.eq_of_pairwise (fun a b _ _ h1 h2=>Int.le_antisymm h1 h2) hl hm
theorem ko (l:List Int):(oa l).Perm l:=List.mergeSort_perm _ _
@[simp] theorem Ez (l:List Int):(oa l).length=l.length:=(ko l).length_eq
theorem sB (l:List Int):(oa l).Pairwise (fun x y=>x≤y):=by
 have:=List.pairwise_mergeSort (le:=fun x y:Int=>decide (x≤y)) (by intro a b c;simp;omega) (by intro a b;simp;omega) l
 exact this.imp (by simp)
def gy (name:aH) (js:List Int) (x:Place):List Int:=if x.node=name then (if x.bA∈js then js else js++[x.bA]) else js
def fE (name:aH) (ps:List Place):List Int:=ps.foldl (gy name) []
def EA (name:aH) (ps:List Place):List Int:=oa (fE name ps)
def sZ (p:cB) (name:aH):cB×List Int×Int:=
 if (fm p name false).2=0 then ((fm p name false).1,EA name p.places,0) else ((fm p name false).1,[],(fm p name false).2)
def eD:List ej→Int→Int→List ej
 |[],j,c=>[⟨j,c⟩]
 |m::l,j,c=>if j=m.bA then ⟨j,c⟩::l else m::eD l j c
theorem G5:∀(l:List ej) (j:Int),qp (l.map ej.cells) (.int .u64 j)=none∨∃x,qp (l.map ej.cells) (.int .u64 j)=some [.int .i64 x]
 |[],_=>.inl rfl
 |m::l,j=>by
  simp only [List.map_cons,ej.cells,qp,nG]
  by_cases h:j=m.bA
  ·subst h;exact .inr ⟨m.cnt,by simp⟩
  have:=G5 l j
  simpa [h] using this
theorem oc:∀(l:List ej) (j c:Int),sK (l.map ej.cells) (.int .u64 j) [.int .i64 c]=(eD l j c).map ej.cells
 |[],_,_=>rfl
 |m::l,j,c=>by
  simp only [List.map_cons,eD]
  by_cases h:j=m.bA
  ·subst h;simp [ej.cells,sK,nG]
  simp only [if_neg h,List.map_cons]
  rw [←oc l j c]
  simp [ej.cells,sK,nG,h]
theorem fV:∀(l:List ej) (j c:Int),(eD l j c).map ej.bA=if j∈l.map ej.bA then l.map ej.bA else l.map ej.bA++[j]
 |[],_,_=>by simp [eD]
 |m::l,j,c=>by
  simp only [eD]
  by_cases h:j=m.bA
  ·subst h;simp
  rw [if_neg h,List.map_cons,List.map_cons,fV l j c]
  by_cases h2:j∈l.map ej.bA
  ·simp [h2]
  rw [if_neg h2,if_neg (by simp only [List.mem_cons];rintro (g|g);exact h g;exact h2 g)];rfl
theorem nC (name:aH):∀(ps:List Place) (js:List Int),js.Nodup→(ps.foldl (gy name) js).Nodup
 |[],_,h=>h
 |x::r,js,h=>by
  rw [List.foldl_cons]
  refine nC name r _ ?_
  unfold gy
  split
  ·split
   ·exact h
   rename_i g
   rw [List.nodup_append]
   exact ⟨h,by simp,fun a ha b hb e=>g (by simp at hb;rw [←hb,←e];exact ha)⟩
  exact h
theorem rm (name:aH) (j:Int):∀(ps:List Place) (js:List Int),j∈ps.foldl (gy name) js↔j∈js∨∃x∈ps,x.node=name∧x.bA=j
 |[],js=>by simp
 |x::r,js=>by
  rw [List.foldl_cons,rm name j r]
  unfold gy
  by_cases hx:x.node=name
  ·rw [if_pos hx]
   by_cases hj:x.bA∈js
   ·rw [if_pos hj]
    constructor
    ·rintro (h|⟨y,hy,g⟩)
     ·exact .inl h
     exact .inr ⟨y,by simp [hy],g⟩
    rintro (h|⟨y,hy,g1,g2⟩)
    ·exact .inl h
    rcases List.mem_cons.1 hy with rfl|hy
    ·exact .inl (by rw [←g2];exact hj)
    exact .inr ⟨y,hy,g1,g2⟩
   rw [if_neg hj]
   constructor
   ·rintro (h|⟨y,hy,g⟩)
    ·rcases List.mem_append.1 h with h|h
     ·exact .inl h
     simp at h;exact .inr ⟨x,by simp,hx,h.symm⟩
    exact .inr ⟨y,by simp [hy],g⟩
   rintro (h|⟨y,hy,g1,g2⟩)
   ·exact .inl (by simp [h])
   rcases List.mem_cons.1 hy with rfl|hy
   ·exact .inl (by simp [g2])
   exact .inr ⟨y,hy,g1,g2⟩
  rw [if_neg hx]
  constructor
  ·rintro (h|⟨y,hy,g⟩)
   ·exact .inl h
   exact .inr ⟨y,by simp [hy],g⟩
  rintro (h|⟨y,hy,g1,g2⟩)
  ·exact .inl h
  rcases List.mem_cons.1 hy with rfl|hy
  ·exact absurd g1 hx
  exact .inr ⟨y,hy,g1,g2⟩
theorem vz (name:aH):∀(ps:List Place) (js:List Int),js.length≤(ps.foldl (gy name) js).length
 |[],_=>Nat.le_refl _
 |x::r,js=>by
  rw [List.foldl_cons]
  refine Nat.le_trans ?_ (vz name r _)
  unfold gy
  split
  ·split<;>simp
  exact Nat.le_refl _
theorem G6 (name:aH) (ps:List Place) (k:Nat):(fE name (ps.take k)).length≤(fE name ps).length:=by
 have h:=vz name (ps.drop k) (fE name (ps.take k))
 unfold fE at h ⊢
 rwa [←List.foldl_append,List.take_append_drop] at h
theorem Qo {name:aH} {ps:List Place} {j:Int}:j∈EA name ps↔∃x∈ps,x.node=name∧x.bA=j:=by
 unfold EA
 rw [(ko _).mem_iff,fE,rm];simp
theorem Qp (name:aH) (ps:List Place):(EA name ps).Pairwise (fun x y=>x<y):=by
 have h1:=sB (fE name ps)
 have h2:(EA name ps).Nodup:=(ko _).nodup_iff.2 (nC name ps [] List.nodup_nil)
 exact h1.imp₂ (fun a b h g=>by have:a≠b:=g;omega) h2
def Sb (s:bE) (prev:Option Int) (j:Jb):Bool:=
 if j.id<1 then false else if s.next≤j.id then false else if (match prev with|none=>false|some p=>decide (j.id≤p)) then false else
 if dZ j.x≠0 then false else if !gH s.tree j.x.path then false else
 if j.runs then decide (1≤j.left)&&decide (j.left≤j.x.fq) else decide (j.left=0)&&s.queue.contains ⟨j.id,j.x.prio⟩
def gY (l:List Jb):Nat:=(l.filter fun j=>!j.runs).length
abbrev vk (k:Nat) (v:bK):Nat:=(v.at_ k).toNat
theorem m5 (k:Nat):vk k bK.zero=0:=by unfold vk bK.at_;split<;>rfl
theorem JS {v:bK} (h:v.w) {k:Nat} (hk:k<4):v.at_ k=(vk k v:Int)∧vk k v<18446744073709551616:=by
 have:=h k hk;unfold vk;omega
theorem JT {a b:bK} (h:(iT a b).2=true):(iT a b).1.w:=by
 intro k hk
 have h1:=LY h k hk
 have h2:=Ev.1 h k hk
 rw [h1];omega
theorem pn {a b:bK} (h:(iT a b).2=true) {k:Nat} (hk:k<4):vk k (iT a b).1=vk k a+vk k b:=by
 unfold vk;rw [LY h k hk];omega
theorem EB {a b:bK} (ha:a.w) (h:(dY a b).2=true) {k:Nat} (hk:k<4):vk k (dY a b).1=vk k a-vk k b:=by
 have:=(JS ha hk).2
 unfold vk at*;rw [Ew h k hk]
 have h2:((a.at_ k).toNat-(b.at_ k).toNat)%18446744073709551616=(a.at_ k).toNat-(b.at_ k).toNat:=Nat.mod_eq_of_lt (by omega)
 omega
theorem mr {a b:bK}:kY a b=true↔∀k<4,vk k a≤vk k b:=mX
structure Tree.ok (l:List be):Prop where
 root:∃e r,l=e::r∧e.path=[]
 most:l.length≤16
 ym:l.Pairwise (fun x y=>x.path<y.path)
 named:∀e∈l,named e.path=true
 par:∀e∈l,∃f∈l,f.path=parent e.path
 fits:∀e∈l,∀k<4,vk k e.used≤vk k e.eH
 w:∀e∈l,e.eH.w∧e.used.w
theorem Qr {t:List be} (ha:t.Pairwise (fun x y=>x.path<y.path)) {i j:Nat} {x y:be} (hx:t[i]?=some x) (hy:t[j]?=some y) (e:x.path=y.path):i=j:=by
 obtain ⟨hi,rfl⟩:=List.getElem?_eq_some_iff.1 hx
 obtain ⟨hj,rfl⟩:=List.getElem?_eq_some_iff.1 hy
 rcases Nat.lt_trichotomy i j with g|g|g
 ·have:=List.pairwise_iff_getElem.1 ha i j hi hj g;rw [e] at this;exact absurd this (kn _)
 ·exact g
 have:=List.pairwise_iff_getElem.1 ha j i hj hi g;rw [e] at this;exact absurd this (kn _)
theorem Tj {t:List be} (ha:t.Pairwise (fun x y=>x.path<y.path)) {x y:be} (hx:x∈t) (hy:y∈t) (e:x.path=y.path):x=y:=by
 obtain ⟨i,hi⟩:=List.getElem?_of_mem hx
 obtain ⟨j,hj⟩:=List.getElem?_of_mem hy
 have:=Qr ha hi hj e
 subst this;rw [hi] at hj;exact Option.some.inj hj
theorem tZ {t:List be} {q:aH} (h:0≤bT t q):∃(i:Nat) (e:be),t[i]?=some e∧e.path=q∧bT t q=i:=by
 rcases cF (rfl:bT t q=idxOf _ t) with ⟨h1,_⟩|⟨i,x,h1,_,h3,h4,_⟩
 ·omega
 exact ⟨i,x,h3,by simpa using h4,h1⟩
theorem AY {t:List be} {e:be} (he:e∈t):0≤bT t e.path:=by
 rcases cF (rfl:bT t e.path=idxOf _ t) with ⟨_,h2,_⟩|⟨i,x,h1,_⟩
 ·rw [List.findIdx?_eq_none_iff] at h2;have:=h2 e he;simp at this
 omega
theorem JU {t:List be} {q:aH}:bT t q<0↔∀e∈t,e.path≠q:=by
 constructor
 ·rintro h e he rfl;have:=AY he;omega
 intro h
 refine Int.not_le.1 fun g=>?_
 obtain ⟨i,e,h1,h2,_⟩:=tZ g
 exact h e (List.mem_of_getElem? h1) h2
def vA (f:be→be×Int) (A:List aH) (t:List be):List be:=t.map fun e=>if e.path∈A then (f e).1 else e
theorem vB (f:be→be×Int) {t:List be} (ha:t.Pairwise (fun x y=>x.path<y.path)):∀(A:List aH) (out:List be),(∀q∈A,0≤bT t q)→out.length=t.length→
 ((∃e∈t,e.path∈A∧(f e).2≠0)∧(ki f t A out).1=t∧(ki f t A out).2≠0)∨
 ((∀e∈t,e.path∈A→(f e).2=0)∧(ki f t A out).2=0∧(ki f t A out).1.length=t.length∧∀(i:Nat) (e:be),t[i]?=some e→(ki f t A out).1[i]?=if e.path∈A then some (f e).1 else out[i]?)
 |[],out,_,hl=>.inr ⟨by simp,rfl,hl,by intro i e _;simp [ki]⟩
 |q::A,out,hq,hl=>by
  obtain ⟨i,e,h1,h2,h3⟩:=tZ (hq q (by simp))
  have hg:t.getD (bT t q).toNat be.zero=e:=by rw [h3,Int.toNat_natCast,List.getD_eq_getElem?_getD,h1];rfl
  have hem:=List.mem_of_getElem? h1
  have hil:=(List.getElem?_eq_some_iff.1 h1).1
  unfold ki
  rw [hg]
  by_cases h0:(f e).2≠0
  ·rw [if_pos h0];exact .inl ⟨⟨e,hem,by simp [h2],h0⟩,rfl,h0⟩
  rw [if_neg h0]
  simp only [Decidable.not_not] at h0
  rw [h3,Int.toNat_natCast]
  rcases vB f ha A (out.set i (f e).1) (fun q hq'=>hq q (by simp [hq'])) (by simp [hl]) with ⟨⟨x,b1,b2,b3⟩,b4,b5⟩|⟨b1,b2,b3,b4⟩
  ·exact .inl ⟨⟨x,b1,by simp [b2],b3⟩,b4,b5⟩
  refine .inr ⟨?_,b2,b3,?_⟩
  ·intro x hx hp
   rcases List.mem_cons.1 hp with g|g
   ·rw [Tj ha hx hem (by rw [g,h2])];exact h0
   exact b1 x hx g
  intro j x hx
  rw [b4 j x hx]
  by_cases g:x.path∈A
  ·rw [if_pos g,if_pos (by simp [g])]
  rw [if_neg g]
  by_cases g2:x.path=q
  ·have:=Qr ha hx h1 (by rw [g2,h2])
   subst this
   rw [hx] at h1;cases h1
   rw [if_pos (by simp [g2]),List.getElem?_set_self (by omega)]
  have hji:i≠j:=by rintro rfl;rw [hx] at h1;cases h1;exact g2 h2
  rw [if_neg (by simp [g2,g]),List.getElem?_set_ne hji]
theorem rq (f:be→be×Int) {t:List be} (ha:t.Pairwise (fun x y=>x.path<y.path)) (p:aH):
 ((p6 f t p).1=t∧(p6 f t p).2≠0∧(named p=false∨(∃q∈above p,∀e∈t,e.path≠q)∨∃e∈t,e.path∈above p∧(f e).2≠0))∨
 (p6 f t p=(vA f (above p) t,0)∧named p=true∧(∀q∈above p,∃e∈t,e.path=q)∧∀e∈t,e.path∈above p→(f e).2=0):=by
 unfold p6
 cases hn:named p with
 |false=>exact .inl ⟨rfl,by simp,.inl rfl⟩
 |true=>
  simp only [Bool.not_true,Bool.false_eq_true,if_false]
  by_cases h:((above p).any fun q=>decide (bT t q<0))=true
  ·rw [if_pos h]
   obtain ⟨q,hq,g⟩:=List.any_eq_true.1 h
   exact .inl ⟨rfl,by simp,.inr (.inl ⟨q,hq,JU.1 (by simpa using g)⟩)⟩
  rw [if_neg h]
  have hq:∀q∈above p,0≤bT t q:=fun q hq=>Int.not_lt.1 fun g=>h (List.any_eq_true.2 ⟨q,hq,by simpa using g⟩)
  rcases vB f ha (above p) t hq rfl with ⟨b1,b2,b3⟩|⟨b1,b2,b3,b4⟩
  ·exact .inl ⟨b2,b3,.inr (.inr b1)⟩
  refine .inr ⟨?_,by trivial,fun q hm=>?_,b1⟩
  ·refine Prod.ext ?_ b2
   refine List.ext_getElem? fun i=>?_
   unfold vA
   rw [List.getElem?_map]
   cases hi:t[i]? with
   |none=>rw [List.getElem?_eq_none_iff] at hi;simp only [Option.map_none];rw [List.getElem?_eq_none_iff];omega
   |some e=>
    rw [b4 i e hi]
    simp only [Option.map_some]
    split
    ·rfl
    exact hi
  obtain ⟨i,e,g1,g2,_⟩:=tZ (hq q hm)
  exact ⟨e,List.mem_of_getElem? g1,g2⟩
theorem py {v:bK} {e:be}:(fD v e).2=0↔(iT e.used v).2=true∧kY (iT e.used v).1 e.eH=true:=by
 unfold fD
 cases h1:(iT e.used v).2<;>cases h2:kY (iT e.used v).1 e.eH<;>simp
theorem yy {v:bK} {e:be} (h:(fD v e).2=0):(fD v e).1={e with used:=(iT e.used v).1}:=by
 obtain ⟨h1,h2⟩:=py.1 h
 unfold fD;rw [h1,h2];rfl
theorem vC {v:bK} {e:be}:(eI v e).2=0↔(dY e.used v).2=true:=by
 unfold eI
 cases h1:(dY e.used v).2<;>simp
theorem yz {v:bK} {e:be} (h:(eI v e).2=0):(eI v e).1={e with used:=(dY e.used v).1}:=by
 unfold eI;rw [vC.1 h];rfl
structure cr (t u:List be):Prop where
 len:u.length=t.length
 at_:∀(i:Nat) (e:be),t[i]?=some e→∃x,u[i]?=some x∧x.path=e.path∧x.eH=e.eH
theorem cr.paths {t u:List be} (h:cr t u):u.map (·.path)=t.map (·.path):=by
 refine List.ext_getElem? fun i=>?_
 rw [List.getElem?_map,List.getElem?_map]
 cases hi:t[i]? with
 |none=>rw [List.getElem?_eq_none_iff] at hi;rw [List.getElem?_eq_none_iff.2 (by rw [h.len];exact hi)]
 |some e=>obtain ⟨x,h1,h2,_⟩:=h.at_ i e hi;rw [h1];simp [h2]
theorem cr.back {t u:List be} (h:cr t u) {x:be} (hx:x∈u):∃e∈t,x.path=e.path∧x.eH=e.eH:=by
 obtain ⟨i,hi⟩:=List.getElem?_of_mem hx
 have hl:=(List.getElem?_eq_some_iff.1 hi).1
 rw [h.len] at hl
 obtain ⟨y,h1,h2,h3⟩:=h.at_ i t[i] (List.getElem?_eq_getElem hl)
 rw [hi] at h1;cases h1
 exact ⟨t[i],List.getElem_mem hl,h2,h3⟩
theorem cr.mem {t u:List be} (h:cr t u) {e:be} (he:e∈t):∃x∈u,x.path=e.path:=by
 obtain ⟨i,hi⟩:=List.getElem?_of_mem he
 obtain ⟨x,h1,h2,_⟩:=h.at_ i e hi
 exact ⟨x,List.mem_of_getElem? h1,h2⟩
theorem cr.ym {t u:List be} (h:cr t u) (ha:t.Pairwise (fun x y=>x.path<y.path)):u.Pairwise (fun x y=>x.path<y.path):=by
 have h1:(t.map (·.path)).Pairwise (·<·):=List.pairwise_map.2 ha
 rw [←h.paths] at h1
 exact List.pairwise_map.1 h1
theorem cr.ok {t u:List be} (h:cr t u) (ho:Tree.ok t) (hf:∀e∈u,∀k<4,vk k e.used≤vk k e.eH) (hw:∀e∈u,e.used.w):Tree.ok u where
 root:=by
  obtain ⟨e,r,rfl,he⟩:=ho.root
  obtain ⟨x,h1,h2,_⟩:=h.at_ 0 e rfl
  cases u with
  |nil=>cases h1
  |cons y r2=>simp at h1;subst h1;exact ⟨y,r2,rfl,by rw [h2,he]⟩
 most:=by rw [h.len];exact ho.most
 ym:=h.ym ho.ym
 named:=fun x hx=>by obtain ⟨e,he,h1,_⟩:=h.back hx;rw [h1];exact ho.named e he
 par:=fun x hx=>by
  obtain ⟨e,he,h1,_⟩:=h.back hx
  obtain ⟨f,hf,h2⟩:=ho.par e he
  obtain ⟨y,hy,h3⟩:=h.mem hf
  exact ⟨y,hy,by rw [h3,h2,h1]⟩
 fits:=hf
 w:=fun x hx=>by obtain ⟨e,he,_,h1⟩:=h.back hx;exact ⟨by rw [h1];exact (ho.w e he).1,hw x hx⟩
theorem A2 {f:be→be×Int} {A:List aH} {t:List be} (h:∀e∈t,e.path∈A→(f e).1.path=e.path∧(f e).1.eH=e.eH):cr t (vA f A t) where
 len:=by simp [vA]
 at_:=by
  intro i e hi
  refine ⟨if e.path∈A then (f e).1 else e,by rw [vA,List.getElem?_map,hi];rfl,?_⟩
  split
  ·rename_i g;exact h e (List.mem_of_getElem? hi) g
  exact ⟨rfl,rfl⟩
abbrev Jb.tot (j:Jb):bK:=(cU j.x).1
def fY (k:Nat) (p:aH) (j:Jb):Nat:=if j.runs=true∧p∈above j.x.path then vk k j.tot else 0
def gQ (k:Nat) (p:aH) (l:List Jb):Nat:=(l.map (fY k p)).sum
theorem gq (k:Nat) (p:aH) (j:Jb) (l:List Jb):gQ k p (j::l)=fY k p j+gQ k p l:=by simp [gQ]
abbrev G8 (l:List bZ):Prop:=l.Pairwise (fun a b=>dh a b=true)
abbrev A4 (l:List bZ):Prop:=l.Pairwise (fun a b=>a.id≠b.id)
theorem A5 {a b:bZ}:dh a b=true↔b.prio<a.prio∨(a.prio=b.prio∧a.id<b.id):=by simp [dh]
theorem EC {a b c:bZ} (h:dh a b=true) (g:dh b c=true):dh a c=true:=by
 rw [A5] at*;omega
theorem JW {a b:bZ} (h:a.id≠b.id) (g:¬dh a b=true):dh b a=true:=by
 rw [A5] at*;omega
theorem Qt (l:List bZ) (e:bZ):vu l e≤l.length∧(∀x∈l.take (vu l e),¬dh e x=true)∧(∀x,l[vu l e]?=some x→dh e x=true):=by
 unfold vu
 cases h:l.findIdx? (fun x=>dh e x) with
 |none=>
  rw [List.findIdx?_eq_none_iff] at h
  refine ⟨Nat.le_refl _,?_,?_⟩
  ·intro x hx;rw [List.take_length] at hx;simp [h x hx]
  intro x hx;simp at hx
 |some k=>
  obtain ⟨hk,hp,hb⟩:=List.findIdx?_eq_some_iff_getElem.1 h
  refine ⟨Nat.le_of_lt hk,?_,?_⟩
  ·intro x hx
   obtain ⟨j,hj⟩:=List.getElem?_of_mem hx
   simp only [List.getElem?_take] at hj
   by_cases g:j<k
   ·rw [if_pos g] at hj
    have:=hb j g
    rw [List.getElem?_eq_getElem (by omega)] at hj
    cases hj;simpa using this
   rw [if_neg g] at hj;cases hj
  intro x hx
  simp only at hx
  rw [List.getElem?_eq_getElem hk] at hx;cases hx;exact hp
theorem G9 {l:List bZ} (ha:G8 l) {e:bZ} (hn:∀x∈l,x.id≠e.id):G8 (l.take (vu l e)++e::l.drop (vu l e)):=by
 obtain ⟨h1,h2,h3⟩:=Qt l e
 have hsp:G8 (l.take (vu l e)++l.drop (vu l e)):=by rw [List.take_append_drop];exact ha
 rw [G8,List.pairwise_append] at hsp ⊢
 obtain ⟨a1,a2,a3⟩:=hsp
 have hb:∀x∈l.take (vu l e),dh x e=true:=fun x hx=>JW (a:=e) (by have:=hn x (List.mem_of_mem_take hx);exact fun g=>this g.symm) (h2 x hx)
 have hc:∀x∈l.drop (vu l e),dh e x=true:=by
  cases hd:l.drop (vu l e) with
  |nil=>intro x hx;cases hx
  |cons y r=>
   have hy:l[vu l e]?=some y:=by
    have:(l.drop (vu l e))[0]?=some y:=by rw [hd];rfl
    rw [List.getElem?_drop,Nat.add_zero] at this;exact this
   have g:=h3 y hy
   intro x hx
   rcases List.mem_cons.1 hx with rfl|hx
   ·exact g
   rw [hd,List.pairwise_cons] at a2
   exact EC g (a2.1 x hx)
 refine ⟨a1,List.pairwise_cons.2 ⟨hc,a2⟩,?_⟩
 intro x hx y hy
 rcases List.mem_cons.1 hy with rfl|hy
 ·exact hb x hx
 exact a3 x hx y hy
theorem He {l:List bZ} {k:Nat} {x y:bZ}:y∈l.take k++x::l.drop k↔y∈l∨y=x:=by
 conv=>rhs;rw [←List.take_append_drop k l]
 simp only [List.mem_append,List.mem_cons]
 constructor
 ·rintro (h|h|h)
  ·exact .inl (.inl h)
  ·exact .inr h
  exact .inl (.inr h)
 rintro ((h|h)|h)
 ·exact .inl h
 ·exact .inr (.inr h)
 exact .inr (.inl h)
theorem Hf {l:List bZ} (hi:A4 l) {e:bZ} (hn:∀x∈l,x.id≠e.id) (k:Nat):A4 (l.take k++e::l.drop k):=by
 have hsp:A4 (l.take k++l.drop k):=by rw [List.take_append_drop];exact hi
 rw [A4,List.pairwise_append] at hsp ⊢
 obtain ⟨a1,a2,a3⟩:=hsp
 refine ⟨a1,List.pairwise_cons.2 ⟨fun x hx=>fun g=>hn x (List.mem_of_mem_drop hx) g.symm,a2⟩,?_⟩
 intro x hx y hy
 rcases List.mem_cons.1 hy with rfl|hy
 ·exact hn x (List.mem_of_mem_take hx)
 exact a3 x hx y hy
theorem JX {l:List bZ} {id:Int} (h:0≤iG l id):∃x∈l,x.id=id:=by
 rcases cF (rfl:iG l id=idxOf _ l) with ⟨h1,_⟩|⟨i,x,h1,_,h3,h4,_⟩
 ·omega
 exact ⟨x,List.mem_of_getElem? h3,by simpa using h4⟩
theorem ru (l:List bZ) (e:bZ):((jW l e).1=l∧(jW l e).2≠0∧(gF e=true∨(∃x∈l,x.id=e.id)∨32≤l.length))∨
 (jW l e=(l.take (vu l e)++e::l.drop (vu l e),0)∧gF e=false∧(∀x∈l,x.id≠e.id)∧l.length<32):=by
 unfold jW
 cases h1:gF e with
 |true=>exact .inl ⟨rfl,by simp,.inl rfl⟩
 |false=>
  simp only [Bool.false_eq_true,if_false]
  by_cases h2:0≤iG l e.id
  ·rw [if_pos h2];exact .inl ⟨rfl,by simp,.inr (.inl (JX h2))⟩
  rw [if_neg h2]
  by_cases h3:32≤l.length
  ·rw [if_pos h3];exact .inl ⟨rfl,by simp,.inr (.inr h3)⟩
  rw [if_neg h3]
  refine .inr ⟨rfl,by trivial,?_,by omega⟩
  intro x hx g
  refine h2 ?_
  rcases cF (rfl:iG l e.id=idxOf _ l) with ⟨_,h4,_⟩|⟨i,x,h4,_⟩
  ·rw [List.findIdx?_eq_none_iff] at h4;have:=h4 x hx;simp [g] at this
  omega
theorem erase_filter {l:List bZ} (hi:A4 l) {k:Nat} {x:bZ} (hx:l[k]?=some x):l.eraseIdx k=l.filter fun y=>!decide (y.id=x.id):=by
 induction l generalizing k with
 |nil=>simp at hx
 |cons y r ih=>
  rw [A4,List.pairwise_cons] at hi
  cases k with
  |zero=>
   simp at hx;subst hx
   have:r.filter (fun z=>!decide (z.id=y.id))=r:=by
    rw [List.filter_eq_self];intro z hz;have:=hi.1 z hz;simp;exact fun g=>this g.symm
   simp [this]
  |succ k=>
   simp only [List.getElem?_cons_succ] at hx
   have hne:=hi.1 x (List.mem_of_getElem? hx)
   rw [List.eraseIdx_cons_succ,ih hi.2 hx]
   simp [hne]
theorem lE {l:List bZ} (hi:A4 l) (id:Int):(AQ l id).1=l.filter fun y=>!decide (y.id=id):=by
 unfold AQ
 cases h:l.findIdx? (fun x=>decide (x.id=id)) with
 |none=>
  rw [List.findIdx?_eq_none_iff] at h
  exact (List.filter_eq_self.2 fun x hx=>by simp [h x hx]).symm
 |some k=>
  obtain ⟨hk,hp,_⟩:=List.findIdx?_eq_some_iff_getElem.1 h
  simp only [decide_eq_true_eq] at hp
  show l.eraseIdx k=_
  rw [erase_filter hi (List.getElem?_eq_getElem hk),hp]
abbrev sO (id:Int) (ps:List Place):Nat:=(ps.filter fun x=>decide (x.bA=id)).length
theorem yA (l:List Node) (bA:Int) (v:bK):∀(names:List aH) (ps:List Place),(fA l bA v names ps).1=none→(fA l bA v names ps).2=ps++names.map (fun n=>⟨bA,n,v⟩)∧∀n∈names,(eG n l).2=true∧(eG n l).1.up=true
 |[],ps,_=>by simp [fA]
 |n::r,ps,g=>by
  unfold fA at g ⊢
  split
  ·rename_i h1;rw [if_pos h1] at g;cases g
  rename_i h1
  rw [if_neg h1] at g
  obtain ⟨a,b⟩:=yA l bA v r _ g
  refine ⟨by rw [a];simp,?_⟩
  intro m hm
  rcases List.mem_cons.1 hm with rfl|hm
  ·have h0:mW m v l ps=0:=by omega
   exact ⟨(tX h0).1,(tX h0).2.1⟩
  exact b m hm
theorem yB (l:List Node) (bA:Int) (v:bK):∀(names:List aH) (ps:List Place) (e:Int),(fA l bA v names ps).1=some e→e≠0
 |[],ps,e,g=>by cases g
 |n::r,ps,e,g=>by
  unfold fA at g
  split at g
  ·cases g;assumption
  exact yB l bA v r _ e g
theorem A7 (p:cB) (bA:Int) (names:List aH) (v:bK):((tW p bA names v).1=p∧(tW p bA names v).2≠0)∨
 ((tW p bA names v)=(⟨p.nodes,p.places++names.map (fun n=>⟨bA,n,v⟩)⟩,0)∧∀n∈names,(eG n p.nodes).2=true∧(eG n p.nodes).1.up=true):=by
 unfold tW
 split
 ·rename_i e he;exact .inl ⟨rfl,yB _ _ _ _ _ _ he⟩
 rename_i he
 obtain ⟨a,b⟩:=yA _ _ _ _ _ he
 exact .inr ⟨by rw [a],b⟩
theorem Hh {p:cB} (h:p.ok) (hw:p.w) (bA:Int):(rj p bA).ok∧(rj p bA).w:=⟨Td h hw _,VR hw _⟩
theorem Hi (p:cB) (ha:JI p.nodes) (name:aH) (up:Bool):((fm p name up)=(p,7)∧(eG name p.nodes).2=false)∨
 (∃i x,p.nodes[i]?=some x∧x.name=name∧eG name p.nodes=(x,true)∧((x.up=up∧fm p name up=(p,15))∨(x.up=!up∧fm p name up=(⟨p.nodes.set i {x with up:=up},p.places⟩,0)))):=by
 rcases cF (p:=fun x:Node=>decide (x.name=name)) (l:=p.nodes) rfl with ⟨_,h1,h2⟩|⟨i,x,_,hi,hx,hp,h1,h2⟩
 ·refine .inl ⟨by unfold fm;rw [h1,h2],by unfold eG;rw [h2]⟩
 simp only [decide_eq_true_eq] at hp
 refine .inr ⟨i,x,hx,hp,by unfold eG;rw [h2],?_⟩
 by_cases hu:x.up=up
 ·exact .inl ⟨hu,by unfold fm;rw [h1,h2];simp [hu]⟩
 refine .inr ⟨by cases h:x.up<;>cases up<;>simp_all,by unfold fm;rw [h1,h2];simp [hu]⟩
def eR (p:cB):List bS:=p.nodes.filterMap (nU p.nodes p.places)
theorem eb {x:Ask}:dZ x=0↔nB x.path x.path=true∧(1≤x.count∧x.count≤8)∧(0≤x.prio∧x.prio≤9)∧(1≤x.fq∧x.fq≤100)∧AP x.bY=true∧(cU x).2=true:=by
 unfold dZ
 have e:(!Sa x.count 1 8||!Sa x.prio 0 9||!Sa x.fq 1 100)=!decide ((1≤x.count∧x.count≤8)∧(0≤x.prio∧x.prio≤9)∧(1≤x.fq∧x.fq≤100)):=by
  unfold Sa
  by_cases h1:1≤x.count<;>by_cases h2:x.count≤8<;>by_cases h3:0≤x.prio<;>by_cases h4:x.prio≤9<;>by_cases h5:1≤x.fq<;>by_cases h6:x.fq≤100<;>simp [h1,h2,h3,h4,h5,h6]
 rw [e]
 by_cases h1:nB x.path x.path=true
 ·by_cases h2:(1≤x.count∧x.count≤8)∧(0≤x.prio∧x.prio≤9)∧(1≤x.fq∧x.fq≤100)
  ·by_cases h3:AP x.bY=true
   ·by_cases h4:(cU x).2=true
    ·simp [h1,h2,h3,h4]
    simp [h1,h2,h3,h4]
   simp [h1,h2,h3]
  simp only [h2,decide_false]
  simp only [h1,Bool.not_true,Bool.false_eq_true,if_false,Bool.not_false,if_true]
  constructor
  ·intro h;cases h
  rintro ⟨_,a,b,c,_⟩;exact absurd ⟨a,b,c⟩ h2
 simp [h1]
theorem A8 {t:List be} {q:aH}:(ri t q).2=true↔∃e∈t,e.path=q:=by
 unfold ri
 cases h:t.find? (fun e=>decide (e.path=q)) with
 |none=>
  rw [List.find?_eq_none] at h
  constructor
  ·intro g;cases g
  rintro ⟨e,he,g⟩;have:=h e he;simp [g] at this
 |some e=>
  have h1:=List.find?_some h
  exact ⟨fun _=>⟨e,List.mem_of_find?_eq_some h,by simpa using h1⟩,fun _=>rfl⟩
theorem A9 {t:List be} {p:aH}:gH t p=true↔∀q∈above p,∃e∈t,e.path=q:=by
 unfold gH
 rw [Bool.not_eq_true',List.any_eq_false]
 simp only [List.mem_append,List.mem_singleton]
 constructor
 ·intro h q hq
  have:=h q (by rcases List.mem_cons.1 hq with g|g;exact .inr g;exact .inl g)
  exact A8.1 (by simpa using this)
 intro h q hq
 have:=A8.2 (h q (by rcases hq with g|g;exact List.mem_cons_of_mem _ g;rw [g];exact Dl p))
 simp [this]
theorem jI {t u:List be} (h:cr t u) {p:aH} (hs:gH t p=true):gH u p=true:=by
 rw [A9] at hs ⊢
 intro q hq
 obtain ⟨e,he,rfl⟩:=hs q hq
 exact h.mem he
abbrev sP (l:List Jb):Prop:=l.Pairwise (fun a b=>a.id<b.id)
theorem zw {l:List Jb} (ha:sP l) {i k:Nat} {x y:Jb} (hx:l[i]?=some x) (hy:l[k]?=some y) (e:x.id=y.id):i=k:=by
 obtain ⟨hi,rfl⟩:=List.getElem?_eq_some_iff.1 hx
 obtain ⟨hk,rfl⟩:=List.getElem?_eq_some_iff.1 hy
 rcases Nat.lt_trichotomy i k with g|g|g
 ·have:=List.pairwise_iff_getElem.1 ha i k hi hk g;omega
 ·exact g
 have:=List.pairwise_iff_getElem.1 ha k i hk hi g;omega
theorem gJ {l:List Jb} (ha:sP l) {x y:Jb} (hx:x∈l) (hy:y∈l) (e:x.id=y.id):x=y:=by
 obtain ⟨i,hi⟩:=List.getElem?_of_mem hx
 obtain ⟨j,hj⟩:=List.getElem?_of_mem hy
 have:=zw ha hi hj e
 subst this;rw [hi] at hj;exact Option.some.inj hj
theorem Hj {l:List Jb} (ha:sP l) {k:Nat} {j x:Jb} (hj:l[k]?=some j) {y:Jb}:y∈l.set k x↔y=x∨(y∈l∧y.id≠j.id):=by
 have hk:=(List.getElem?_eq_some_iff.1 hj).1
 constructor
 ·intro h
  obtain ⟨i,hi⟩:=List.getElem?_of_mem h
  by_cases e:k=i
  ·subst e;rw [List.getElem?_set_self hk] at hi;cases hi;exact .inl rfl
  rw [List.getElem?_set_ne e] at hi
  exact .inr ⟨List.mem_of_getElem? hi,fun g=>e (zw ha hj hi g.symm)⟩
 rintro (rfl|⟨h,g⟩)
 ·exact List.mem_of_getElem? (List.getElem?_set_self hk)
 obtain ⟨i,hi⟩:=List.getElem?_of_mem h
 have e:k≠i:=by rintro rfl;rw [hi] at hj;cases hj;exact g rfl
 exact List.mem_of_getElem? (i:=i) (by rw [List.getElem?_set_ne e];exact hi)
theorem JZ {l:List Jb} (ha:sP l) {k:Nat} {j:Jb} (hj:l[k]?=some j):l.eraseIdx k=l.filter fun y=>!decide (y.id=j.id):=by
 induction l generalizing k with
 |nil=>simp at hj
 |cons y r ih=>
  rw [sP,List.pairwise_cons] at ha
  cases k with
  |zero=>
   simp at hj;subst hj
   have:r.filter (fun z=>!decide (z.id=y.id))=r:=by
    rw [List.filter_eq_self];intro z hz;have:=ha.1 z hz;simp;omega
   simp [this]
  |succ k=>
   simp only [List.getElem?_cons_succ] at hj
   have hne:¬y.id=j.id:=by have:=ha.1 j (List.mem_of_getElem? hj);omega
   rw [List.eraseIdx_cons_succ,ih ha.2 hj]
   simp [hne]
theorem J3 {l:List Jb} (ha:sP l) {k:Nat} {j:Jb} (hj:l[k]?=some j) {y:Jb}:y∈l.eraseIdx k↔y∈l∧y.id≠j.id:=by
 rw [JZ ha hj,List.mem_filter];simp
theorem Hl {l:List Jb} (ha:sP l) {k:Nat} {j x:Jb} (hj:l[k]?=some j) (e:x.id=j.id):sP (l.set k x):=by
 have h1:(l.set k x).map (·.id)=l.map (·.id):=by
  rw [List.map_set,e]
  have hk:=(List.getElem?_eq_some_iff.1 hj).1
  refine List.ext_getElem? fun i=>?_
  by_cases g:k=i
  ·subst g;rw [List.getElem?_set_self (by simpa using hk),List.getElem?_map,hj];rfl
  rw [List.getElem?_set_ne g]
 have h2:(l.map (·.id)).Pairwise (·<·):=List.pairwise_map.2 ha
 rw [←h1] at h2
 exact List.pairwise_map.1 h2
theorem Ba (k:Nat) (p:aH):∀{l:List Jb} {i:Nat} {j:Jb} (x:Jb),l[i]?=some j→gQ k p (l.set i x)+fY k p j=gQ k p l+fY k p x
 |[],_,_,_,h=>by simp at h
 |y::r,0,j,x,h=>by simp at h;subst h;simp only [List.set_cons_zero,gq];omega
 |y::r,i+1,j,x,h=>by
  simp only [List.getElem?_cons_succ] at h
  have:=Ba k p x h
  simp only [List.set_cons_succ,gq];omega
theorem ue (k:Nat) (p:aH):∀{l:List Jb} {i:Nat} {j:Jb},l[i]?=some j→gQ k p (l.eraseIdx i)+fY k p j=gQ k p l
 |[],_,_,h=>by simp at h
 |y::r,0,j,h=>by simp at h;subst h;simp only [List.eraseIdx_cons_zero,gq];omega
 |y::r,i+1,j,h=>by
  simp only [List.getElem?_cons_succ] at h
  have:=ue k p h
  simp only [List.eraseIdx_cons_succ,gq];omega
theorem Nh (k:Nat) (p:aH) (l:List Jb) (x:Jb):gQ k p (l++[x])=gQ k p l+fY k p x:=by simp [gQ]
theorem Tl (k:Nat) (p:aH) {l:List Jb} {j:Jb} (h:j∈l):fY k p j≤gQ k p l:=by
 induction l with
 |nil=>cases h
 |cons y r ih=>
  rw [gq]
  rcases List.mem_cons.1 h with rfl|h
  ·omega
  have:=ih h;omega
theorem mu {l:List Jb} {id:Int} {k:Nat} (h:l.findIdx? (fun j=>decide (j.id=id))=some k):∃j,l[k]?=some j∧j.id=id∧l.getD k Jb.zero=j:=by
 obtain ⟨hk,hp,_⟩:=List.findIdx?_eq_some_iff_getElem.1 h
 refine ⟨l[k],List.getElem?_eq_getElem hk,by simpa using hp,?_⟩
 rw [List.getD_eq_getElem?_getD,List.getElem?_eq_getElem hk];rfl
structure bE.ok (s:bE):Prop where
 bg:s.bg.ok
 kN:s.bg.w
 tree:Tree.ok s.tree
 used:∀e∈s.tree,∀k<4,vk k e.used=gQ k e.path s.ay
 most:s.ay.length≤32
 next:1≤s.next∧s.next<18446744073709551616
 ids:sP s.ay
 zx:∀j∈s.ay,1≤j.id∧j.id<s.next
 uw:∀j∈s.ay,dZ j.x=0∧j.x.fK.w∧gH s.tree j.x.path=true
 left:∀j∈s.ay,(j.runs=true→1≤j.left∧j.left≤j.x.fq)∧(j.runs=false→j.left=0)
 uf:G8 s.queue
 og:A4 s.queue
 pF:∀q,q∈s.queue↔∃j∈s.ay,j.runs=false∧q=⟨j.id,j.x.prio⟩
 places:∀x∈s.bg.places,∃j∈s.ay,j.runs=true∧j.id=x.bA∧x.v=j.x.fK
 count:∀j∈s.ay,j.runs=true→(sO j.id s.bg.places:Int)=j.x.count
 notes:s.ev.l.length≤32∧s.au.l.length≤32
theorem J7 {l:List Jb} (ha:sP l) (f:Jb→bZ) (hf:∀j,(f j).id=j.id):(l.map f).Nodup:=by
 rw [List.nodup_iff_pairwise_ne,List.pairwise_map]
 exact ha.imp fun {a b} h e=>by have:=congrArg bZ.id e;rw [hf,hf] at this;omega
theorem bE.ok.VV {s:bE} (h:s.ok):s.queue.length=gY s.ay:=by
 have h1:(((s.ay.filter fun j=>!j.runs).map fun j=>(⟨j.id,j.x.prio⟩:bZ))).Nodup:=J7 (h.ids.filter _) _ (fun _=>rfl)
 have h2:s.queue.Nodup:=by rw [List.nodup_iff_pairwise_ne];exact h.og.imp fun {a b} g e=>g (by rw [e])
 have:=((List.perm_ext_iff_of_nodup h2 h1).2 fun q=>by
  rw [h.pF q,List.mem_map]
  constructor
  ·rintro ⟨j,a,b,c⟩;exact ⟨j,List.mem_filter.2 ⟨a,by simp [b]⟩,c.symm⟩
  rintro ⟨j,a,c⟩;obtain ⟨a1,a2⟩:=List.mem_filter.1 a;exact ⟨j,a1,by simpa using a2,c.symm⟩).length_eq
 rw [this,lgM];rfl
end Dem
end
