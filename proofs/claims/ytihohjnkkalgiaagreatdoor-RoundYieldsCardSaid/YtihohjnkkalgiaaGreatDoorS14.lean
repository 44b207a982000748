/- Parts of a proof, joined. -/
import Derived.Test.YtihohjnkkalgiaaGreatDoorS13
import Derived.Lib.Bytealg
import Derived.Lib.Join
set_option linter.all false
set_option maxRecDepth 100000
set_option maxHeartbeats 4000000
section
open Go
namespace Dem
abbrev bM.u' (v:bM):Prop:=(0≤v.a∧v.a<18446744073709551616)∧(0≤v.b∧v.b<18446744073709551616)∧(0≤v.c∧v.c<18446744073709551616)∧(0≤v.d∧v.d<18446744073709551616)
def ME (x y:Int):Int×Bool:=if x.toNat*y.toNat<18446744073709551616 then (((x.toNat*y.toNat:Nat):Int),true) else (0,false)
def Jp (v:bM) (n:Int):bM×Bool:=both (fun x _=>ME x n) v bM.zero
def iW (x y:Int):Int:=if x<y then -1 else if y<x then 1 else 0
def qA (a b:bM):Int:=
 if iW a.a b.a≠0 then iW a.a b.a else if iW a.b b.b≠0 then iW a.b b.b else if iW a.c b.c≠0 then iW a.c b.c else iW a.d b.d
structure cu where
 id:Int
 prio:Int
deriving DecidableEq
instance:Inhabited cu:=⟨⟨0,0⟩⟩
def cu.cells (q:cu):List D:=[.int .u64 q.id,.int .i64 q.prio]
def bA (a b:cu):Bool:=decide (b.prio<a.prio)||(decide (a.prio=b.prio)&&decide (a.id<b.id))
def vb (l:List cu) (e:cu):Nat:=match l.findIdx? (fun x=>bA e x) with
 |some k=>k
 |none=>l.length
def nE (l:List cu) (id:Int):Int:=idxOf (fun x=>decide (x.id=id)) l
def kY (e:cu):Bool:=decide (e.prio<0)||decide (9<e.prio)
def jZ (l:List cu) (e:cu):List cu×Int:=
 if kY e then (l,1) else if 0≤nE l e.id then (l,8) else if 32≤l.length then (l,9) else
 (l.take (vb l e)++e::l.drop (vb l e),0)
def AB (l:List cu) (id:Int):List cu×Bool:=match l.findIdx? (fun x=>decide (x.id=id)) with
 |some k=>(l.eraseIdx k,true)
 |none=>(l,false)
def XS (q:Option cu) (e:cu):Bool:=match q with|none=>true|some q=>bA q e
def ze (all:List cu):Option cu→Nat→List cu→Bool
 |_,_,[]=>true
 |q,k,e::r=>!kY e&&decide (nE all e.id=k)&&XS q e&&ze all (some e) (k+1) r
def El (l:List cu):Bool:=ze l none 0 l&&decide (l.length≤32)
def bY (c:UInt8):aK→List aK
 |[]=>[[]]
 |x::xs=>if x=c then []::bY c xs else match bY c xs with
  |h::r=>(x::h)::r
  |[]=>[[x]]
theorem oP (c:UInt8):∀s:aK,(bY c s).length=s.count c+1
 |[]=>rfl
 |x::xs=>by
  have ih:=oP c xs
  unfold bY
  by_cases h:x=c
  ·simp [h,ih]
  simp only [h,if_false,List.count_cons,beq_iff_eq]
  split<;>simp_all
theorem CW (c:UInt8) (s:aK):bY c s≠[]:=fun h=>by have:=oP c s;rw [h] at this;simp at this
theorem qB (c:UInt8):∀s:aK,Lib.indexByte s c<0→bY c s=[s]
 |[],_=>rfl
 |x::xs,h=>by
  have hg:=Lib.indexByte_ge xs c
  unfold Lib.indexByte at h
  have hx:x≠c:=by rintro rfl;simp at h
  have h2:Lib.indexByte xs c<0:=by
   simp only [beq_iff_eq,hx,if_false] at h
   split at h
   ·omega
   omega
  simp [bY,hx,qB c xs h2]
theorem xX (c:UInt8):∀(s:aK) (j:Nat),Lib.indexByte s c=j→j<s.length∧bY c s=s.take j::bY c (s.drop (j+1))∧s.count c=(s.drop (j+1)).count c+1
 |[],j,h=>by simp [Lib.indexByte] at h
 |x::xs,j,h=>by
  have hg:=Lib.indexByte_ge xs c
  unfold Lib.indexByte at h
  by_cases hx:x=c
  ·simp only [beq_iff_eq,hx,if_true] at h
   have:j=0:=by omega
   subst this;simp [bY,hx]
  simp only [beq_iff_eq,hx,if_false] at h
  split at h
  ·omega
  obtain ⟨i,rfl⟩:∃i,j=i+1:=⟨j-1,by omega⟩
  obtain ⟨h1,h2,h3⟩:=xX c xs i (by omega)
  refine ⟨by simp;omega,?_,?_⟩
  ·simp [bY,hx,h2]
  simp [hx,h3]
theorem Em {s:aK} {r:Int} (h:r=Lib.indexByte s 47) (h0:r<0):s.count 47=0:=by
 have e:=oP 47 s
 rw [qB 47 s (h▸h0)] at e
 simp at e;simpa using e
theorem En {s:aK} {r:Int} (h:r=Lib.indexByte s 47) (h0:0≤r):∃j:Nat,r=j∧j<s.length∧bY 47 s=s.take j::bY 47 (s.drop (j+1))∧s.count 47=(s.drop (j+1)).count 47+1:=by
 obtain ⟨j,rfl⟩:=Int.eq_ofNat_of_zero_le h0
 obtain ⟨h1,h2,h3⟩:=xX 47 s j h.symm
 exact ⟨j,rfl,h1,h2,h3⟩
theorem AD {s:aK} (h:s.count 47=0):bY 47 s=[s]:=by
 refine qB 47 s (Int.not_le.1 fun h0=>?_)
 obtain ⟨j,_,_,_,e⟩:=En rfl h0
 omega
def fo (l:List aK):aK:=Lib.join l [47]
def parts (s:aK):List aK:=if decide (3<(bY 47 s).length)||(bY 47 s).any (fun n=>!eD n) then [] else bY 47 s
def mC (s:aK):List aK:=(List.range (parts s).length).map fun k=>fo ((parts s).take (k+1))
def nF (a b:aK):Bool:=(mC b).contains a
def named (p:aK):Bool:=decide (p=[])||nF p p
def above (p:aK):List aK:=[]::mC p
def parent (p:aK):aK:=(above p).getD ((above p).length-2) []
theorem kq (s:aK):(parts s).length≤3:=by
 unfold parts;split
 ·simp
 rename_i h;simp at h;omega
theorem iu (s:aK):(mC s).length=(parts s).length:=by simp [mC]
theorem sG (x:aK) (r:List aK):Lib.joinTail [47] (x::r)=47::fo (x::r):=by
 rw [fo,Lib.join_cons];simp [Lib.joinTail]
theorem xY:∀s:aK,fo (bY 47 s)=s
 |[]=>rfl
 |c::s=>by
  have ih:=xY s
  unfold bY
  cases e:bY 47 s with
  |nil=>exact absurd e (CW 47 s)
  |cons h r=>
   rw [e] at ih
   split
   ·rename_i hc
    show Lib.join ([]::h::r) [47]=_
    rw [Lib.join_cons,sG,ih,hc];rfl
   show Lib.join ((c::h)::r) [47]=_
   rw [Lib.join_cons,List.cons_append,←Lib.join_cons]
   exact congrArg _ ih
theorem B8 (l:List aK) (k:Nat):(Lib.joinTail [47] (l.take k)).length≤(Lib.joinTail [47] l).length:=by
 have e:Lib.joinTail [47] l=Lib.joinTail [47] (l.take k)++Lib.joinTail [47] (l.drop k):=by
  simp only [Lib.joinTail];rw [←List.flatten_append,←List.map_append,List.take_append_drop]
 rw [e,List.length_append];omega
theorem Jq (l:List aK) (k:Nat):(fo (l.take k)).length≤(fo l).length:=by
 cases l with
 |nil=>simp
 |cons x r=>
  cases k with
  |zero=>simp [fo,Lib.join_nil]
  |succ k=>
   simp only [List.take_succ_cons,fo,Lib.join_cons,List.length_append]
   have:=B8 r k
   omega
theorem CX (s:aK) (k:Nat):(fo ((parts s).take k)).length≤s.length:=by
 refine Nat.le_trans (Jq _ k) ?_
 unfold parts
 split
 ·simp [fo,Lib.join_nil]
 rw [xY];exact Nat.le_refl _
theorem Sy {s:aK} {k:Nat} (hk:k<(parts s).length):(mC s)[k]?=some (fo ((parts s).take (k+1))):=by simp [mC,hk]
theorem CY {s:aK} {k:Nat} (hk:k<(parts s).length):(mC s).take (k+1)=(mC s).take k++[fo ((parts s).take (k+1))]:=by
 have hl:k<(mC s).length:=by rw [iu];exact hk
 rw [List.take_add_one,Sy hk];rfl
def bM.at_ (v:bM):Nat→Int
 |0=>v.a
 |1=>v.b
 |2=>v.c
 |_=>v.d
structure Ask where
 path:aK
 gx:bM
 count:Int
 prio:Int
 fH:Int
 cE:List Term
deriving DecidableEq
instance:Inhabited Ask:=⟨⟨[],bM.zero,0,0,0,[]⟩⟩
def Ask.zero:Ask:=⟨[],bM.zero,0,0,0,[]⟩
def cZ (x:Ask):bM×Bool:=Jp x.gx (x.count%18446744073709551616)
def Ry (n a b:Int):Bool:=decide (a≤n)&&decide (n≤b)
def eS (x:Ask):Int:=
 if !nF x.path x.path then 6 else if !Ry x.count 1 8||!Ry x.prio 0 9||!Ry x.fH 1 100 then 1 else if !AA x.cE then 2 else if !(cZ x).2 then 5 else 0
def fitting (l:List bV) (x:List Term):List bV:=l.filter fun s=>nD x s.labels
structure Eo where
 at_:Nat
 left:bM
 ok:Bool
def mD (v:bM):List bV→Nat→Eo→Eo
 |[],_,b=>b
 |s::r,k,b=>mD v r (k+1) (if (ej s.free v).2&&(!b.ok||decide (qA (ej s.free v).1 b.left<0)) then ⟨k,(ej s.free v).1,true⟩ else b)
def best (l:List bV) (v:bM):Eo:=mD v l 0 ⟨0,bM.zero,false⟩
instance:Inhabited bV:=⟨⟨[],bM.zero,[]⟩⟩
def nX (v:bM):Nat→List bV→List aK→List aK×Bool
 |0,_,out=>(out,true)
 |n+1,l,out=>if !(best l v).ok then ([],false) else
  nX v n (l.set (best l v).at_ {l.getD (best l v).at_ default with free:=(best l v).left}) (out++[(l.getD (best l v).at_ default).node])
def fit (l:List bV) (x:List Term) (v:bM) (count:Int):List aK×Bool:=
 if 8<count then ([],false) else nX v (max count 0).toNat (fitting l x) []
structure bg where
 path:aK
 eZ:bM
 used:bM
deriving DecidableEq
abbrev bg.cells (e:bg):List D:=[.str e.path,.int .u64 e.eZ.a,.int .u64 e.eZ.b,.int .u64 e.eZ.c,.int .u64 e.eZ.d,.int .u64 e.used.a,.int .u64 e.used.b,.int .u64 e.used.c,.int .u64 e.used.d]
def bg.zero:bg:=⟨[],bM.zero,bM.zero⟩
instance:Inhabited bg:=⟨bg.zero⟩
def cm (t:List bg) (p:aK):Int:=idxOf (fun e=>decide (e.path=p)) t
def qD (t:List bg) (p:aK):bg×Bool:=match t.find? (fun e=>decide (e.path=p)) with
 |some e=>(e,true)
 |none=>(bg.zero,false)
def vc (t:List bg) (p:aK) (v:bM):List bg×Int:=
 if !named p then (t,6) else
 if !decide (p=[])&&decide (cm t (parent p)<0) then (t,7) else
 if decide (cm t p<0)&&decide (16≤t.length) then (t,9) else
 match t.findIdx? (fun e=>decide (e.path=p)) with
 |some k=>if !lq ((t.getD k bg.zero).used) v then (t,10) else (t.set k {t.getD k bg.zero with eZ:=v},0)
 |none=>match t.findIdx? (fun e=>!Op.bytesLess e.path p) with
  |some k=>(t.take k++⟨p,v,bM.zero⟩::t.drop k,0)
  |none=>(t++[⟨p,v,bM.zero⟩],0)
def fK (v:bM) (e:bg):bg×Int:=
 if !(jX e.used v).2 then (e,5) else if !lq (jX e.used v).1 e.eZ then (e,10) else ({e with used:=(jX e.used v).1},0)
def eI (v:bM) (e:bg):bg×Int:=
 if !(ej e.used v).2 then (e,15) else ({e with used:=(ej e.used v).1},0)
def kr (f:bg→bg×Int) (t:List bg):List aK→List bg→List bg×Int
 |[],out=>(out,0)
 |p::r,out=>if (f (t.getD (cm t p).toNat bg.zero)).2≠0 then (t,(f (t.getD (cm t p).toNat bg.zero)).2) else kr f t r (out.set (cm t p).toNat (f (t.getD (cm t p).toNat bg.zero)).1)
def pu (f:bg→bg×Int) (t:List bg) (p:aK):List bg×Int:=
 if !named p then (t,6) else if (above p).any (fun q=>decide (cm t q<0)) then (t,7) else kr f t (above p) t
def c6 (t:List bg) (p:aK) (v:bM):List bg×Int:=pu (fK v) t p
def rP (t:List bg) (p:aK) (v:bM):List bg×Int:=pu (eI v) t p
def CZ (p:aK):List bg→bM→Option bM
 |[],s=>some s
 |x::r,s=>if x.path=[] then CZ p r s else if parent x.path≠p then CZ p r s else if (jX s x.used).2 then CZ p r (jX s x.used).1 else none
def Ep (l:List bg) (e:bg):Bool:=match CZ e.path l bM.zero with
 |none=>false
 |some s=>lq e.used e.eZ&&lq s e.used
def oQ (all:List bg):Option aK→List bg→Bool
 |_,[]=>true
 |none,e::r=>oQ all (some e.path) r
 |some q,e::r=>!sle e.path q&&named e.path&&!decide (cm all (parent e.path)<0)&&oQ all (some e.path) r
def Er (l:List bg):Bool:=
 if l.length<1 then false else if 16<l.length then false else if (l.getD 0 bg.zero).path≠[] then false else oQ l none l&&!(l.any fun e=>!Ep l e)
theorem C0:∀(x y:aK),Op.bytesLess x y=decide (x<y)
 |[],[]=>by simp [Op.bytesLess]
 |a::x,[]=>by simp [Op.bytesLess]
 |[],b::y=>by simp [Op.bytesLess]
 |a::x,b::y=>by
  have ih:=C0 x y
  simp only [Op.bytesLess,ih]
  rw [Bool.eq_iff_iff]
  simp [List.cons_lt_cons_iff]
theorem ku (x:aK):¬x<x:=List.lt_irrefl x
theorem wE {x y z:aK} (h:x<y) (g:y<z):x<z:=List.lt_trans h g
theorem Lx (x y:aK):x<y∨x=y∨y<x:=by
 by_cases h:x<y
 ·exact .inl h
 by_cases g:y<x
 ·exact .inr (.inr g)
 exact .inr (.inl (List.le_antisymm (List.not_lt.1 g) (List.not_lt.1 h)))
theorem C1 {x y:aK} (h:x<y) (g:y<x):False:=ku x (wE h g)
theorem Ly {x y:aK}:(!sle x y)=true↔y<x:=by
 rcases Lx x y with h|rfl|h
 ·have:¬y<x:=fun g=>C1 h g
  simp [sle,C0,h,this]
 ·simp [sle]
 simp only [sle,C0]
 have h1:¬x<y:=fun g=>C1 h g
 have h2:x≠y:=fun e=>by subst e;exact ku x h
 simp [h1,h2,h]
abbrev Jr (l:List Node):Prop:=l.Pairwise (fun x y=>x.name<y.name)
def Node.yN (n:Node):Bool:=eD n.name&&tG n.labels
structure cH.ok (p:cH):Prop where
 xZ:Jr p.nodes
 yN:∀n∈p.nodes,n.yN=true
 free:∀n∈p.nodes,(cI n.name p.nodes p.places).2=true
 most:p.nodes.length≤16
 here:∀x∈p.places,∃n∈p.nodes,n.name=x.node
theorem x5 {l:List Node} {ps:List Place}:∀(r:List Node) (q:Option aK),u9 l ps q r=true↔
 ((∀n∈r,n.yN=true)∧(∀n∈r,(cI n.name l ps).2=true)∧Jr r∧∀a,q=some a→∀n∈r,a<n.name)
 |[],q=>by simp [u9]
 |n::r,q=>by
  have ih:=x5 (l:=l) (ps:=ps) r (some n.name)
  simp only [u9,Bool.and_eq_true,ih]
  have hp:Jo q n.name=true↔∀a,q=some a→a<n.name:=by
   cases q with
   |none=>simp [Jo]
   |some a=>simp only [Jo,Ly];simp
  rw [hp]
  constructor
  ·rintro ⟨⟨⟨⟨h1,h2⟩,h3⟩,h4⟩,g1,g2,g3,g4⟩
   refine ⟨?_,?_,?_,?_⟩
   ·intro m hm;rcases List.mem_cons.1 hm with rfl|hm
    ·simp [Node.yN,h2,h3]
    exact g1 m hm
   ·intro m hm;rcases List.mem_cons.1 hm with rfl|hm
    ·exact h1
    exact g2 m hm
   ·exact List.pairwise_cons.2 ⟨fun m hm=>g4 _ rfl m hm,g3⟩
   intro a ha m hm;rcases List.mem_cons.1 hm with rfl|hm
   ·exact h4 a ha
   exact wE (h4 a ha) (g4 _ rfl m hm)
  rintro ⟨h1,h2,h3,h4⟩
  have f:=h1 n (by simp)
  simp only [Node.yN,Bool.and_eq_true] at f
  have h3':=List.pairwise_cons.1 h3
  exact ⟨⟨⟨⟨h2 n (by simp),f.1⟩,f.2⟩,fun a ha=>h4 a ha n (by simp)⟩,fun m hm=>h1 m (by simp [hm]),fun m hm=>h2 m (by simp [hm]),h3'.2,fun a ha m hm=>by cases ha;exact h3'.1 m hm⟩
theorem Js {p:cH}:Ej p=true↔p.ok:=by
 unfold Ej
 simp only [Bool.and_eq_true,x5,decide_eq_true_eq,Bool.not_eq_true',List.any_eq_false,Um]
 constructor
 ·rintro ⟨⟨⟨h1,h2,h3,_⟩,h5⟩,h6⟩
  refine ⟨h3,h1,h2,h5,fun x hx=>?_⟩
  have:=h6 x hx
  simpa using this
 rintro ⟨h1,h2,h3,h4,h5⟩
 refine ⟨⟨⟨h2,h3,h1,by simp⟩,h4⟩,fun x hx=>?_⟩
 obtain ⟨n,hn,e⟩:=h5 x hx
 simp;exact ⟨n,hn,e⟩
theorem PA {l:List Node} (ha:Jr l) {n:Node} (hn:n∈l):l.find? (fun x=>decide (x.name=n.name))=some n:=by
 induction l with
 |nil=>cases hn
 |cons m r ih=>
  rw [List.find?_cons]
  have XT:=List.pairwise_cons.1 ha
  rcases List.mem_cons.1 hn with rfl|hn
  ·simp
  have:m.name≠n.name:=fun e=>by have:=XT.1 n hn;rw [e] at this;exact ku _ this
  simp [this,ih XT.2 hn]
theorem C2 {l:List Node} (ha:Jr l) {n:Node} (hn:n∈l):eH n.name l=(n,true):=by
 unfold eH;rw [PA ha hn]
theorem Jt {l:List Node} {name:aK} (h:(eH name l).2=true):(eH name l).1∈l∧(eH name l).1.name=name:=by
 unfold eH at h ⊢
 split at h
 ·rename_i x hx
  have h1:=List.mem_of_find?_eq_some hx
  have h2:=List.find?_some hx
  exact ⟨h1,by simpa using h2⟩
 cases h
def left (name:aK) (ps:List Place) (v:bM×Bool):bM×Bool:=ps.foldl (cO name) v
theorem wF {l:List Node} (ha:Jr l) {n:Node} (hn:n∈l) (ps:List Place):cI n.name l ps=if (left n.name ps (n.cap,true)).2 then left n.name ps (n.cap,true) else (bM.zero,false):=by
 unfold cI;rw [C2 ha hn];rfl
theorem gP {l:List Node} (ha:Jr l) {n:Node} (hn:n∈l) (ps:List Place):(cI n.name l ps).2=(left n.name ps (n.cap,true)).2:=by
 rw [wF ha hn]
 split
 ·rfl
 rename_i h;simp at h;simp [h]
theorem Ju (name:aK) (ps:List Place):∀v,(left name ps (v,false))=(v,false):=by
 induction ps with
 |nil=>intro v;rfl
 |cons x r ih=>intro v;simp only [left,List.foldl_cons];rw [show cO name (v,false) x=(v,false) by simp [cO]];exact ih v
theorem MF (name:aK) (ps:List Place) (x:Place) (v:bM×Bool):left name (ps++[x]) v=cO name (left name ps v) x:=by simp [left]
def bM.w (v:bM):Prop:=∀k<4,0≤v.at_ k∧v.at_ k<18446744073709551616
theorem bM.Vh {a b:bM} (h:∀k<4,a.at_ k=b.at_ k):a=b:=by
 rw [Vf];exact ⟨h 0 (by decide),h 1 (by decide),h 2 (by decide),h 3 (by decide)⟩
theorem YS {P:Nat→Prop}:(∀k<4,P k)↔P 0∧P 1∧P 2∧P 3:=by
 constructor
 ·intro h;exact ⟨h 0 (by decide),h 1 (by decide),h 2 (by decide),h 3 (by decide)⟩
 rintro ⟨h0,h1,h2,h3⟩ k hk
 match k,hk with
 |0,_=>exact h0
 |1,_=>exact h1
 |2,_=>exact h2
 |3,_=>exact h3
theorem Sz {x y:Int}:(GQ x y).2=true↔y.toNat≤x.toNat:=by
 unfold GQ;split<;>simp<;>omega
theorem SA {x y:Int}:(GP x y).2=true↔x.toNat+y.toNat<18446744073709551616:=by
 unfold GP;split<;>simp<;>omega
theorem m8 {a b:bM}:(ej a b).2=true↔∀k<4,(b.at_ k).toNat≤(a.at_ k).toNat:=by
 rw [YS];simp only [bM.at_,←Sz]
 unfold ej both;split
 ·rename_i h;simp only [Bool.and_eq_true] at h;simp [h]
 rename_i h;simp only [Bool.and_eq_true,not_and] at h;simp;intro h1 h2 h3;simpa using h ⟨⟨h1,h2⟩,h3⟩
theorem Es {a b:bM}:(jX a b).2=true↔∀k<4,(a.at_ k).toNat+(b.at_ k).toNat<18446744073709551616:=by
 rw [YS];simp only [bM.at_,←SA]
 unfold jX both;split
 ·rename_i h;simp only [Bool.and_eq_true] at h;simp [h]
 rename_i h;simp only [Bool.and_eq_true,not_and] at h;simp;intro h1 h2 h3;simpa using h ⟨⟨h1,h2⟩,h3⟩
theorem Et {a b:bM} (h:(ej a b).2=true):∀k<4,(ej a b).1.at_ k=((((a.at_ k).toNat-(b.at_ k).toNat)%18446744073709551616:Nat):Int):=by
 have h':=m8.1 h
 rw [YS] at h' ⊢
 simp only [bM.at_] at h' ⊢
 unfold ej both at h ⊢
 split at h
 ·rename_i g
  rw [if_pos g]
  simp only [GQ]
  rw [if_neg (by omega),if_neg (by omega),if_neg (by omega),if_neg (by omega)]
  simp
 cases h
theorem LA {a b:bM} (h:(jX a b).2=true):∀k<4,(jX a b).1.at_ k=(((a.at_ k).toNat+(b.at_ k).toNat:Nat):Int):=by
 have h':=Es.1 h
 rw [YS] at h' ⊢
 simp only [bM.at_] at h' ⊢
 unfold jX both at h ⊢
 split at h
 ·rename_i g
  rw [if_pos g]
  simp only [GP]
  rw [if_pos (by omega),if_pos (by omega),if_pos (by omega),if_pos (by omega)]
  simp
 cases h
theorem Jv {a b:bM} (h:(ej a b).2=true):(ej a b).1.w:=by
 intro k hk;rw [Et h k hk];omega
def here (name:aK) (ps:List Place):List Place:=ps.filter (fun x=>decide (x.node=name))
def gz (k:Nat) (l:List Place):Nat:=(l.map (fun x=>(x.v.at_ k).toNat)).sum
theorem nY (name:aK):∀(ps:List Place) (v:bM),v.w→((left name ps (v,true)).2=true↔∀k<4,gz k (here name ps)≤(v.at_ k).toNat)∧
 ((left name ps (v,true)).2=true→∀k<4,(left name ps (v,true)).1.at_ k=(((v.at_ k).toNat-gz k (here name ps):Nat):Int))
 |[],v,hv=>by
  simp only [left,List.foldl_nil,here,List.filter_nil,gz,List.map_nil,List.sum_nil]
  exact ⟨by simp,fun _ k hk=>by have:=hv k hk;omega⟩
 |x::r,v,hv=>by
  by_cases hx:x.node=name
  ·have e1:left name (x::r) (v,true)=left name r (ej v x.v):=by simp [left,cO,hx]
   have e2:here name (x::r)=x::here name r:=by simp [here,hx]
   rw [e1,e2]
   cases hs:(ej v x.v).2 with
   |false=>
    have e3:ej v x.v=((ej v x.v).1,false):=by rw [←hs]
    rw [e3,Ju]
    refine ⟨⟨fun h=>Bool.noConfusion h,fun h=>?_⟩,fun h=>Bool.noConfusion h⟩
    have:(ej v x.v).2=true:=m8.2 fun k hk=>by have:=h k hk;simp [gz] at this;omega
    rw [hs] at this;cases this
   |true=>
    have e3:ej v x.v=((ej v x.v).1,true):=by rw [←hs]
    rw [e3]
    obtain ⟨i1,i2⟩:=nY name r (ej v x.v).1 (Jv hs)
    have hat:=Et hs
    have hok:=m8.1 hs
    constructor
    ·rw [i1]
     constructor
     ·intro h k hk;have a1:=h k hk;have a2:=hat k hk;have a3:=hok k hk;have a4:=hv k hk
      rw [a2] at a1;simp only [gz,List.map_cons,List.sum_cons] at a1 ⊢;omega
     intro h k hk;have a1:=h k hk;have a2:=hat k hk;have a3:=hok k hk;have a4:=hv k hk
     rw [a2];simp only [gz,List.map_cons,List.sum_cons] at a1 ⊢;omega
    intro h k hk
    rw [i2 h k hk];have a1:=(i1.1 h) k hk;have a2:=hat k hk;have a3:=hok k hk;have a4:=hv k hk
    rw [a2] at a1 ⊢;simp only [gz,List.map_cons,List.sum_cons] at a1 ⊢;omega
  have e1:left name (x::r) (v,true)=left name r (v,true):=by simp [left,cO,hx]
  have e2:here name (x::r)=here name r:=by simp [here,hx]
  rw [e1,e2];exact nY name r v hv
theorem AE {k:Nat} {l m:List Place} (h:l.Sublist m):gz k l≤gz k m:=by
 unfold gz
 induction h with
 |slnil=>simp
 |cons a _ ih=>simp;omega
 |cons_cons a _ ih=>simp;omega
structure cH.w (p:cH):Prop where
 cap:∀n∈p.nodes,n.cap.w
 v:∀x∈p.places,x.v.w
theorem cH.SB {p:cH} (h:p.ok) (hw:p.w) {n:Node} (hn:n∈p.nodes):∀k<4,gz k (Dem.here n.name p.places)≤(n.cap.at_ k).toNat:=by
 have:=h.free n hn
 rw [gP h.xZ hn] at this
 exact (nY n.name p.places n.cap (hw.cap n hn)).1.1 this
theorem Jw {p:cH} (ha:Jr p.nodes) (hc:∀n∈p.nodes,n.cap.w) {n:Node} (hn:n∈p.nodes) (h:∀k<4,gz k (here n.name p.places)≤(n.cap.at_ k).toNat):(cI n.name p.nodes p.places).2=true:=by
 rw [gP ha hn];exact (nY n.name p.places n.cap (hc n hn)).1.2 h
theorem SC {p:cH} (h:p.ok) (hw:p.w) (f:Place→Bool):cH.ok ⟨p.nodes,p.places.filter f⟩:=by
 refine ⟨h.xZ,h.yN,fun n hn=>?_,h.most,fun x hx=>h.here x (List.mem_filter.1 hx).1⟩
 refine Jw (p:=⟨p.nodes,p.places.filter f⟩) h.xZ hw.cap hn fun k hk=>?_
 refine Nat.le_trans (AE ?_) (cH.SB h hw hn k hk)
 exact (List.filter_sublist (l:=p.places) (p:=f)).filter _
theorem Vi {p:cH} (hw:p.w) (f:Place→Bool):cH.w ⟨p.nodes,p.places.filter f⟩:=⟨hw.cap,fun x hx=>hw.v x (List.mem_filter.1 hx).1⟩
theorem wG:bM.zero.w:=by
 intro k hk;have:bM.zero.at_ k=0:=by unfold bM.at_;split<;>rfl
 rw [this];omega
theorem zf {α:Type} {l:List α} {i:Nat} {x y:α} (h:y∈l.set i x):y∈l∨y=x:=by
 rcases List.mem_or_eq_of_mem_set h with h|h
 ·exact .inl h
 exact .inr h
theorem PB {l:List Node} {i:Nat} {x:Node} {up:Bool} (hx:l[i]?=some x) (name:aK):
 (eH name (l.set i {x with up:=up})).1.cap=(eH name l).1.cap∧(eH name (l.set i {x with up:=up})).2=(eH name l).2:=by
 have key:(l.set i {x with up:=up}).find? (fun y=>decide (y.name=name))=(l.find? (fun y=>decide (y.name=name))).map (fun y=>if y=x∧l.findIdx? (fun y=>decide (y.name=name))=some i then {x with up:=up} else y):=by
  induction l generalizing i with
  |nil=>simp at hx
  |cons m r ih=>
   cases i with
   |zero=>
    simp at hx;subst hx
    simp only [List.set_cons_zero,List.find?_cons,List.findIdx?_cons]
    by_cases hm:m.name=name
    ·simp [hm]
    simp only [hm,decide_false]
    cases hf:r.find? (fun y=>decide (y.name=name)) with
    |none=>simp
    |some z=>simp
   |succ i=>
    simp only [List.getElem?_cons_succ] at hx
    have:=ih hx
    simp only [List.set_cons_succ,List.find?_cons,List.findIdx?_cons]
    by_cases hm:m.name=name
    ·simp [hm]
    simp only [hm,decide_false]
    rw [this]
    simp
 unfold eH
 rw [key]
 cases hf:l.find? (fun y=>decide (y.name=name)) with
 |none=>simp
 |some z=>
  simp only [Option.map_some]
  split
  ·rename_i h;rw [h.1];simp
  simp
theorem MG {l:List Node} {i:Nat} {x:Node} {up:Bool} (hx:l[i]?=some x) (name:aK) (ps:List Place):cI name (l.set i {x with up:=up}) ps=cI name l ps:=by
 obtain ⟨h1,h2⟩:=PB (up:=up) hx name
 unfold cI;rw [h1,h2]
theorem C3 {l:List Node} {i:Nat} {x:Node} {up:Bool} (hx:l[i]?=some x):(l.set i {x with up:=up}).map (·.name)=l.map (·.name):=by
 apply List.ext_getElem?
 intro j
 simp only [List.getElem?_map,List.getElem?_set]
 split
 ·rename_i e;subst e;rw [hx];split<;>simp;
  rename_i h;have:=(List.getElem?_eq_some_iff.1 hx).1;omega
 rfl
theorem MH {l m:List Node} (h:l.map (·.name)=m.map (·.name)) (ha:Jr m):Jr l:=by
 have h1:(m.map (·.name)).Pairwise (fun a b=>a<b):=List.pairwise_map.2 ha
 rw [←h] at h1
 exact List.pairwise_map.1 h1
theorem SD {p:cH} (h:p.ok) (hw:p.w) (name:aK) (up:Bool):(fG p name up).1.ok∧(fG p name up).1.w:=by
 unfold fG
 split
 ·rename_i i x h1 h2
  split
  ·exact ⟨h,hw⟩
  obtain ⟨hi,hp,_⟩:=List.findIdx?_eq_some_iff_getElem.1 h1
  have hx:p.nodes[i]?=some x:=by
   have:=cJ (p:=fun x:Node=>decide (x.name=name)) (l:=p.nodes) rfl
   rcases this with ⟨_,h3,_⟩|⟨j,y,_,_,hy,_,h3,h4⟩
   ·rw [h1] at h3;cases h3
   rw [h1] at h3;cases h3;rw [h2] at h4;cases h4;exact hy
  have hm:x∈p.nodes:=List.mem_of_getElem? hx
  refine ⟨⟨MH (C3 hx) h.xZ,?_,?_,by simpa using h.most,?_⟩,⟨?_,hw.v⟩⟩
  ·intro n hn;rcases zf hn with hn|rfl
   ·exact h.yN n hn
   exact h.yN x hm
  ·intro n hn
   show (cI n.name (p.nodes.set i {x with up:=up}) p.places).2=true
   rw [MG hx]
   rcases zf hn with hn|rfl
   ·exact h.free n hn
   exact h.free x hm
  ·intro y hy
   obtain ⟨n,hn,e⟩:=h.here y hy
   have:n.name∈(p.nodes.set i {x with up:=up}).map (·.name):=by rw [C3 hx];exact List.mem_map.2 ⟨n,hn,rfl⟩
   obtain ⟨m,hm,em⟩:=List.mem_map.1 this
   exact ⟨m,hm,by rw [em,e]⟩
  intro n hn;rcases zf hn with hn|rfl
  ·exact hw.cap n hn
  exact hw.cap x hm
 exact ⟨h,hw⟩
theorem tI {name:aK} {v:bM} {l:List Node} {ps:List Place} (h:m7 name v l ps=0):(eH name l).2=true∧(eH name l).1.up=true∧(cI name l ps).2=true∧lq v (cI name l ps).1=true:=by
 unfold m7 at h
 split at h
 ·omega
 split at h
 ·omega
 split at h
 ·omega
 rename_i h1 h2 h3
 simp only [Bool.or_eq_true,not_or,Bool.not_eq_true',Bool.not_eq_false] at h1 h2 h3
 exact ⟨h1,h2,h3.1,h3.2⟩
theorem LB {p:cH} (h:p.ok) (hw:p.w) {name:aK} {v:bM} (hv:v.w) (bI:Int) (h0:m7 name v p.nodes p.places=0):cH.ok ⟨p.nodes,p.places++[⟨bI,name,v⟩]⟩∧cH.w ⟨p.nodes,p.places++[⟨bI,name,v⟩]⟩:=by
 obtain ⟨r1,r2,r3,r4⟩:=tI h0
 obtain ⟨m1,m2⟩:=Jt r1
 refine ⟨⟨h.xZ,h.yN,fun n hn=>?_,h.most,?_⟩,⟨hw.cap,?_⟩⟩
 ·show (cI n.name p.nodes (p.places++[⟨bI,name,v⟩])).2=true
  rw [gP h.xZ hn,MF]
  have hl:=h.free n hn
  rw [gP h.xZ hn] at hl
  unfold cO
  split
  ·rename_i g
   simp only [Bool.and_eq_true,decide_eq_true_eq] at g
   obtain ⟨g1,g2⟩:=g
   rw [cI,g2,] at r4
   have e:cI name p.nodes p.places=left n.name p.places (n.cap,true):=by
    rw [g2,wF h.xZ hn,if_pos hl]
   rw [←g2] at r4
   have r4':lq v (left n.name p.places (n.cap,true)).1=true:=by rw [←e,g2];unfold cI;rw [←g2];exact r4
   exact r4'
  exact hl
 ·intro x hx
  rcases List.mem_append.1 hx with hx|hx
  ·exact h.here x hx
  simp at hx;subst hx;exact ⟨_,m1,m2⟩
 intro x hx
 rcases List.mem_append.1 hx with hx|hx
 ·exact hw.v x hx
 simp at hx;subst hx;exact hv
theorem C4 (l:List Node) (bI:Int) {v:bM} (hv:v.w):∀(names:List aK) (ps:List Place),cH.ok ⟨l,ps⟩→cH.w ⟨l,ps⟩→(fB l bI v names ps).1=none→cH.ok ⟨l,(fB l bI v names ps).2⟩∧cH.w ⟨l,(fB l bI v names ps).2⟩
 |[],ps,h,hw,_=>⟨h,hw⟩
 |n::r,ps,h,hw,g=>by
  unfold fB at g ⊢
  split
  ·rename_i h1;rw [if_pos h1] at g;cases g
  rename_i h1
  rw [if_neg h1] at g
  have h0:m7 n v l ps=0:=by omega
  obtain ⟨a,b⟩:=LB (p:=⟨l,ps⟩) h hw hv bI h0
  exact C4 l bI hv r _ a b g
theorem Vj {p:cH} (h:p.ok) (hw:p.w) (bI:Int) (names:List aK) {v:bM} (hv:v.w):(tH p bI names v).1.ok∧(tH p bI names v).1.w:=by
 unfold tH
 split
 ·exact ⟨h,hw⟩
 rename_i g;exact C4 p.nodes bI hv names p.places h hw g
theorem GY (l:List Node) (nm:aK):pat l nm≤l.length∧(∀n∈l.take (pat l nm),n.name<nm)∧(∀n,l[pat l nm]?=some n→¬n.name<nm):=by
 unfold pat
 split
 ·rename_i k hk
  obtain ⟨vT,hp,hb⟩:=List.findIdx?_eq_some_iff_getElem.1 hk
  refine ⟨by omega,?_,?_⟩
  ·intro n hn
   obtain ⟨j,hj⟩:=List.getElem?_of_mem hn
   rw [List.getElem?_take] at hj
   split at hj
   ·rename_i UI
    rw [List.getElem?_eq_getElem (by omega)] at hj
    cases hj
    have:=hb j UI
    simpa [C0] using this
   cases hj
  intro n hn
  rw [List.getElem?_eq_getElem vT] at hn;cases hn
  simpa [C0] using hp
 rename_i hk
 rw [List.findIdx?_eq_none_iff] at hk
 refine ⟨Nat.le_refl _,?_,?_⟩
 ·intro n hn
  rw [List.take_length] at hn
  have:=hk n hn
  simpa [C0] using this
 intro n hn;simp at hn
theorem zg {l:List Node} {k:Nat} {x y:Node}:y∈l.take k++x::l.drop k↔y∈l∨y=x:=by
 rw [List.mem_append,List.mem_cons]
 constructor
 ·rintro (h|h|h)
  ·exact .inl (List.mem_of_mem_take h)
  ·exact .inr h
  exact .inl (List.mem_of_mem_drop h)
 rintro (h|h)
 ·rw [←List.take_append_drop k l,List.mem_append] at h
  rcases h with h|h
  ·exact .inl h
  exact .inr (.inr h)
 exact .inr (.inl h)
theorem SE {l:List Node} (ha:Jr l) {x:Node} (hn:∀n∈l,n.name≠x.name):Jr (l.take (pat l x.name)++x::l.drop (pat l x.name)):=by
 obtain ⟨h1,h2,h3⟩:=GY l x.name
 have hs:=ha
 rw [←List.take_append_drop (pat l x.name) l] at hs
 have hs':=List.pairwise_append.1 hs
 have hd:∀n∈l.drop (pat l x.name),x.name<n.name:=by
  intro n hm
  cases hc:l.drop (pat l x.name) with
  |nil=>rw [hc] at hm;cases hm
  |cons m r=>
   have hlt:pat l x.name<l.length:=by
    rcases Nat.lt_or_ge (pat l x.name) l.length with h|h
    ·exact h
    rw [List.drop_eq_nil_of_le h] at hc;cases hc
   have hg:l[pat l x.name]?=some m:=by
    have:(l.drop (pat l x.name))[0]?=some m:=by rw [hc];rfl
    simpa using this
   have Zo:m∈l:=List.mem_of_getElem? hg
   have YT:x.name<m.name:=by
    rcases Lx x.name m.name with h|h|h
    ·exact h
    ·exact absurd h.symm (hn m Zo)
    exact absurd h (h3 m hg)
   rw [hc] at hm
   rcases List.mem_cons.1 hm with rfl|hm
   ·exact YT
   have:=hs'.2.1;rw [hc] at this
   exact wE YT ((List.pairwise_cons.1 this).1 n hm)
 refine List.pairwise_append.2 ⟨hs'.1,List.pairwise_cons.2 ⟨hd,hs'.2.1⟩,?_⟩
 intro a XT b hb
 rcases List.mem_cons.1 hb with rfl|hb
 ·exact h2 a XT
 exact hs'.2.2 a XT b hb
theorem tJ (p:cH) (n:Node):((qy p n).1=p∧(qy p n).2≠0)∨(n.yN=true∧(∀m∈p.nodes,m.name≠n.name)∧p.nodes.length<16∧
 qy p n=(⟨p.nodes.take (pat p.nodes n.name)++{n with up:=true}::p.nodes.drop (pat p.nodes n.name),p.places⟩,0)):=by
 unfold qy
 split
 ·exact .inl ⟨rfl,by simp⟩
 split
 ·exact .inl ⟨rfl,by simp⟩
 split
 ·exact .inl ⟨rfl,by simp⟩
 split
 ·exact .inl ⟨rfl,by simp⟩
 rename_i h1 h2 h3 h4
 simp only [Bool.not_eq_true',Bool.not_eq_false] at h1 h2
 refine .inr ⟨by simp [Node.yN,h1,h2],?_,by omega,rfl⟩
 rw [←iQ] at h3
 intro m hm e
 exact h3 (List.any_eq_true.2 ⟨m,hm,by simp [e]⟩)
theorem MI {name:aK} {ps:List Place} (h:∀x∈ps,x.node≠name) (v:bM×Bool):left name ps v=v:=by
 unfold left
 induction ps generalizing v with
 |nil=>rfl
 |cons x r ih=>
  rw [List.foldl_cons,show cO name v x=v by simp [cO,h x (by simp)]]
  exact ih (fun y hy=>h y (by simp [hy])) v
theorem Vk {p:cH} (h:p.ok) (hw:p.w) {n:Node} (hc:n.cap.w):(qy p n).1.ok∧(qy p n).1.w:=by
 rcases tJ p n with ⟨e,_⟩|⟨h1,h2,h3,e⟩
 ·rw [e];exact ⟨h,hw⟩
 rw [e]
 have ha:Jr (p.nodes.take (pat p.nodes n.name)++{n with up:=true}::p.nodes.drop (pat p.nodes n.name)):=SE (x:={n with up:=true}) h.xZ h2
 refine ⟨⟨ha,?_,?_,?_,?_⟩,⟨?_,hw.v⟩⟩
 ·intro m hm;rcases zg.1 hm with hm|rfl
  ·exact h.yN m hm
  exact h1
 ·intro m hm
  show (cI m.name (p.nodes.take (pat p.nodes n.name)++{n with up:=true}::p.nodes.drop (pat p.nodes n.name)) p.places).2=true
  rw [gP ha hm]
  rcases zg.1 hm with hm|rfl
  ·have:=h.free m hm;rwa [gP h.xZ hm] at this
  rw [MI]
  intro x hx e
  obtain ⟨m,hm,em⟩:=h.here x hx
  exact h2 m hm (by rw [em,e])
 ·have:=(GY p.nodes n.name).1;simp;omega
 ·intro x hx
  obtain ⟨m,hm,em⟩:=h.here x hx
  exact ⟨m,zg.2 (.inl hm),em⟩
 intro m hm;rcases zg.1 hm with hm|rfl
 ·exact hw.cap m hm
 exact hc
def SF:aK:=[122,111,110,101]
def qE (p:cH) (bI:Int):cH:=⟨p.nodes,p.places.filter (fun x=>!decide (x.bI=bI))⟩
theorem LC:cH.ok ⟨[],[]⟩:=⟨List.Pairwise.nil,by simp,by simp,by simp,by simp⟩
theorem PC:cH.w ⟨[],[]⟩:=⟨by simp,by simp⟩
theorem wH {α β:Type} {P:α→Prop} {f:α→β→α} (hf:∀a b,P a→P (f a b)):∀(l:List β) (a:α),P a→P (l.foldl f a)
 |[],_,h=>h
 |b::r,a,h=>wH hf r (f a b) (hf a b h)
structure Jb where
 id:Int
 x:Ask
 runs:Bool
 left:Int
deriving DecidableEq
def Jb.zero:Jb:=⟨0,Ask.zero,false,0⟩
instance:Inhabited Jb:=⟨Jb.zero⟩
structure ek where
 round:Int
 id:Int
 kind:Int
deriving DecidableEq
instance:Inhabited ek:=⟨⟨0,0,0⟩⟩
structure B9 where
 first:Int
 l:List ek
deriving DecidableEq
structure aT where
 round:Int
 next:Int
 aX:cH
 tree:List bg
 ap:List Jb
 queue:List cu
 ev:B9
 au:B9
def ek.cells (n:ek):List D:=[.int .u64 n.round,.int .u64 n.id,.int .i64 n.kind]
def Jb.cells (j:Jb):List D:=[.int .u64 j.id,.str j.x.path,.int .u64 j.x.gx.a,.int .u64 j.x.gx.b,.int .u64 j.x.gx.c,.int .u64 j.x.gx.d,.int .i64 j.x.count,.int .i64 j.x.prio,.int .i64 j.x.fH,.sl (j.x.cE.map Term.cells),.bool j.runs,.int .i64 j.left]
def aT.zero:aT:=⟨0,0,⟨[],[]⟩,[],[],[],⟨0,[]⟩,⟨0,[]⟩⟩
def Ca:aT:={aT.zero with next:=1,tree:=[⟨[],bM.zero,bM.zero⟩]}
def Eu (l:List Jb) (id:Int):Int:=idxOf (fun j=>decide (j.id=id)) l
def bB (l:List Jb) (id:Int):Jb×Bool:=match l.find? (fun j=>decide (j.id=id)) with
 |some j=>(j,true)
 |none=>(Jb.zero,false)
def u64 (n:Int):Int:=n%18446744073709551616
def tell (x:B9) (n:ek):B9:=if 32<(x.l++[n]).length then ⟨u64 (x.first+1),(x.l++[n]).drop 1⟩ else ⟨x.first,x.l++[n]⟩
def jJ (t:List bg) (p:aK):Bool:=!((mC p++[[]]).any fun q=>!(qD t q).2)
def iI (s:aT) (id kind:Int):aT:={s with ev:=tell s.ev ⟨s.round,id,kind⟩}
def dc (s:aT) (x:Ask):aT×Int×Int:=
 if eS x≠0 then (s,0,eS x) else
 if !jJ s.tree x.path then (s,0,7) else
 if 32≤s.ap.length∨s.next=18446744073709551615 then (s,0,9) else
 if (jZ s.queue ⟨s.next,x.prio⟩).2≠0 then (s,0,(jZ s.queue ⟨s.next,x.prio⟩).2) else
 (iI {s with queue:=(jZ s.queue ⟨s.next,x.prio⟩).1,ap:=s.ap++[⟨s.next,x,false,0⟩],next:=u64 (s.next+1)} s.next 1,s.next,0)
def C5 (s:aT) (k:Nat) (j:Jb):aT:={s with ap:=s.ap.set k j}
def jK (s:aT) (k:Nat) (j:Jb) (id:Int) (nodes:List aK):aT×Int:=
 if j.runs then (s,15) else if (nodes.length:Int)≠j.x.count then (s,1) else
 if !(cZ j.x).2 then (s,5) else
 if (c6 s.tree j.x.path (cZ j.x).1).2≠0 then (s,(c6 s.tree j.x.path (cZ j.x).1).2) else
 if (tH s.aX id nodes j.x.gx).2≠0 then (s,(tH s.aX id nodes j.x.gx).2) else
 (iI (C5 {s with tree:=(c6 s.tree j.x.path (cZ j.x).1).1,aX:=(tH s.aX id nodes j.x.gx).1,queue:=(AB s.queue id).1} k {j with runs:=true,left:=j.x.fH}) id 2,0)
def cq (s:aT) (id:Int) (nodes:List aK):aT×Int:=match s.ap.findIdx? (fun j=>decide (j.id=id)) with
 |none=>(s,7)
 |some k=>jK s k (s.ap.getD k Jb.zero) id nodes
def m9 (s:aT) (j:Jb):aT:=
 {s with tree:=(if (cZ j.x).2 then (rP s.tree j.x.path (cZ j.x).1).1 else s.tree),aX:=qE s.aX j.id}
def gC (s:aT) (id kind:Int):aT×Int:=match s.ap.findIdx? (fun j=>decide (j.id=id)) with
 |none=>(s,7)
 |some k=>if !(s.ap.getD k Jb.zero).runs then (s,15) else
  (iI (C5 {m9 s (s.ap.getD k Jb.zero) with queue:=(jZ s.queue ⟨id,(s.ap.getD k Jb.zero).x.prio⟩).1} k {s.ap.getD k Jb.zero with runs:=false,left:=0}) id kind,0)
def send (s:aT) (id kind:Int):aT×Int:=match s.ap.findIdx? (fun j=>decide (j.id=id)) with
 |none=>(s,7)
 |some k=>(iI {(if (s.ap.getD k Jb.zero).runs then m9 s (s.ap.getD k Jb.zero) else {s with queue:=(AB s.queue id).1}) with ap:=s.ap.eraseIdx k} id kind,0)
end Dem
end
section
open Go Go.Proofs Go.ChangeShapes Go.WideShapes Go.RowKit
namespace Dem
theorem trodAll_nil {H:Type} {enc:TypeId×Value→H} {P:Program} {W:World} {vs:List Value} {ds:List (DataW H)} {ps:List MemPlace} (h:DataW.TrodAll enc P W 0 (fun _=>true) true [] vs ds ps):vs=[]∧ds=[]:=by
 cases vs with
 |nil=>cases ds with
  |nil=>exact ⟨rfl,rfl⟩
  |cons d ds=>exact h.elim
 |cons v vs=>cases ds<;>exact h.elim
theorem trodAll_cons {H:Type} {enc:TypeId×Value→H} {P:Program} {W:World} {t:TypeId} {ts:List TypeId} {vs:List Value} {ds:List (DataW H)} {ps:List MemPlace} (h:DataW.TrodAll enc P W 0 (fun _=>true) true (t::ts) vs ds ps):
 ∃v vs' d ds' p q,vs=v::vs'∧ds=d::ds'∧DataW.Trod enc P W 0 (fun _=>true) true t v d p∧DataW.TrodAll enc P W 0 (fun _=>true) true ts vs' ds' q:=by
 cases vs with
 |nil=>cases ds<;>exact h.elim
 |cons v vs=>cases ds with
  |nil=>exact h.elim
  |cons d ds=>
   obtain ⟨p,q,h1,h2,rfl⟩:=h
   exact ⟨v,vs,d,ds,p,q,rfl,rfl,h1,h2⟩
section
variable {H:Type} {enc:TypeId×Value→H} {W:World} {v:Value} {d:DataW H} {p:List MemPlace} {base:Nat}
abbrev okW (W:World):Nat→Prop:=bp (fun _=>0) [] W (fun _=>False)
theorem Vl (W:World):∀blk,blk<W.heap.size→okW W blk:=fun blk hb=>⟨hb,fun h=>h,fun i b hb=>by simp at hb⟩
theorem LD {α:Type} {cells:α→List D} {Q:α→Prop}:∀(es:List (List D)),(∀r∈es,∃x,r=cells x∧Q x)→∃l:List α,es=l.map cells∧∀x∈l,Q x
 |[],_=>⟨[],rfl,by simp⟩
 |r::es,h=>by
  obtain ⟨x,rfl,hx⟩:=h r (by simp)
  obtain ⟨l,rfl,hl⟩:=LD es (fun r hr=>h r (by simp [hr]))
  exact ⟨x::l,rfl,fun y hy=>by rcases List.mem_cons.1 hy with rfl|hy;exact hx;exact hl y hy⟩
end
end Dem
end
section
open Go
namespace Dem
theorem C6 (c:UInt8):∀(s:aK),∀x∈bY c s,c ∉ x
 |[],x,h=>by simp [bY] at h;subst h;simp
 |y::ys,x,h=>by
  have ih:=C6 c ys
  unfold bY at h
  split at h
  ·rcases List.mem_cons.1 h with rfl|h
   ·simp
   exact ih x h
  rename_i hy
  split at h
  ·rename_i hd r e
   rcases List.mem_cons.1 h with rfl|h
   ·have:=ih hd (by rw [e];simp)
    intro g;rcases List.mem_cons.1 g with g|g
    ·exact hy g.symm
    exact this g
   exact ih x (by rw [e];simp [h])
  simp at h;subst h
  intro g;simp at g;exact hy g.symm
theorem AF (s:aK):∀(x:aK),(47:UInt8) ∉ x→bY 47 (x++47::s)=x::bY 47 s
 |[],_=>by simp [bY]
 |a::x,h=>by
  have ha:a≠47:=fun g=>h (by simp [g])
  have ih:=AF s x (fun g=>h (by simp [g]))
  rw [List.cons_append,bY,if_neg ha,ih]
theorem nZ:fo []=[]:=Lib.join_nil _
theorem rQ (x:aK):fo [x]=x:=by simp [fo,Lib.join_cons,Lib.joinTail]
theorem ng (x y:aK) (r:List aK):fo (x::y::r)=x++47::fo (y::r):=by
 show Lib.join (x::y::r) [47]=_
 rw [Lib.join_cons,sG]
theorem AG (x:aK):∀l:List aK,l≠[]→fo (l++[x])=fo l++47::x
 |[],h=>absurd rfl h
 |[a],_=>by rw [List.singleton_append,ng,rQ,rQ]
 |a::b::l,_=>by
  have ih:=AG x (b::l) (by simp)
  rw [List.cons_append] at ih
  rw [List.cons_append,List.cons_append,ng,ih,ng];simp
theorem x6:∀l:List aK,l≠[]→(∀x∈l,(47:UInt8) ∉ x)→bY 47 (fo l)=l
 |[],h,_=>absurd rfl h
 |[x],_,h=>by rw [rQ];exact AD (List.count_eq_zero.2 (h x (by simp)))
 |x::y::r,_,h=>by
  rw [ng,AF _ x (h x (by simp)),x6 (y::r) (by simp) (fun z hz=>h z (by simp [hz]))]
theorem x7 (s:aK):parts s=[]∨(parts s=bY 47 s∧(bY 47 s).length≤3∧∀x∈bY 47 s,eD x=true):=by
 unfold parts
 split
 ·exact .inl rfl
 rename_i h
 simp only [Bool.or_eq_true,decide_eq_true_eq,List.any_eq_true,not_or] at h
 refine .inr ⟨rfl,by omega,fun x hx=>?_⟩
 cases e:eD x with
 |true=>rfl
 |false=>exact absurd ⟨x,hx,by simp [e]⟩ h.2
theorem x8 {s x:aK} (h:x∈parts s):eD x=true:=by
 rcases x7 s with e|⟨e,_,h2⟩
 ·rw [e] at h;cases h
 exact h2 x (by rw [←e];exact h)
theorem MJ {x:aK} (h:eD x=true):x≠[]:=by
 rintro rfl;simp [eD] at h
theorem C7:parts []=[]:=by
 have:eD []=false:=by simp [eD]
 simp [parts,bY,this]
theorem parts_eq {s:aK} {l:List aK} (hs:bY 47 s=l) (hl:l.length≤3) (hr:l.any (fun n=>!eD n)=false):parts s=l:=by
 unfold parts;rw [hs,hr,if_neg (by simp;omega)]
theorem Jx (s:aK) (k:Nat):parts (fo ((parts s).take k))=(parts s).take k:=by
 rcases x7 s with e|⟨e,h1,h2⟩
 ·rw [e];simp [nZ,C7]
 cases k with
 |zero=>simp [nZ,C7]
 |succ k=>
  have hne:(parts s).take (k+1)≠[]:=by
   rw [e];have:=CW 47 s
   cases h:bY 47 s with
   |nil=>exact absurd h this
   |cons a r=>simp
  have hs:bY 47 (fo ((parts s).take (k+1)))=(parts s).take (k+1):=by
   refine x6 _ hne fun x hx=>?_
   have:=List.mem_of_mem_take hx
   rw [e] at this
   exact C6 47 s x this
  have hl:((parts s).take (k+1)).length≤3:=by rw [List.length_take,e];omega
  have hr:((parts s).take (k+1)).any (fun n=>!eD n)=false:=by
   rw [List.any_eq_false];intro x hx
   rw [x8 (List.mem_of_mem_take hx)];simp
  exact parts_eq hs hl hr
def mR (P:aK) (k:Nat):aK:=fo ((parts P).take k)
theorem C8 (P:aK):above P=(List.range ((parts P).length+1)).map (mR P):=by
 rw [List.range_succ_eq_map,List.map_cons,List.map_map]
 have h0:mR P 0=[]:=by simp [mR,nZ]
 rw [above,h0];rfl
theorem rR {P q:aK}:q∈above P↔∃k,k≤(parts P).length∧q=mR P k:=by
 rw [C8,List.mem_map]
 constructor
 ·rintro ⟨k,h,rfl⟩;rw [List.mem_range] at h;exact ⟨k,by omega,rfl⟩
 rintro ⟨k,h,rfl⟩;exact ⟨k,List.mem_range.2 (by omega),rfl⟩
theorem C9 (P:aK):mR P 0=[]:=by simp [mR,nZ]
theorem GZ (P:aK) (k:Nat):parts (mR P k)=(parts P).take k:=Jx P k
theorem SG {P:aK} {i k:Nat} (h:i≤k):mR (mR P k) i=mR P i:=by
 show fo ((parts (mR P k)).take i)=fo ((parts P).take i)
 rw [GZ,List.take_take,Nat.min_eq_left h]
theorem PD {P:aK} {k:Nat} (h:k<(parts P).length):(mR P k).length<(mR P (k+1)).length:=by
 have e:(parts P).take (k+1)=(parts P).take k++[(parts P)[k]]:=by rw [List.take_add_one,List.getElem?_eq_getElem h];rfl
 have hne:=MJ (x8 (List.getElem_mem h))
 unfold mR
 rw [e]
 cases k with
 |zero=>
  simp only [List.take_zero,List.nil_append,nZ,rQ]
  exact List.length_pos_iff.2 hne
 |succ k=>
  rw [AG _ _ (by intro g;have:=congrArg List.length g;simp at this;rw [this] at h;simp at h)]
  simp
theorem Ev {P:aK} {i:Nat}:∀{j:Nat},i<j→j≤(parts P).length→(mR P i).length<(mR P j).length
 |0,h,_=>by omega
 |j+1,h,hj=>by
  have h1:=PD (P:=P) (k:=j) (by omega)
  by_cases e:i=j
  ·rw [e];exact h1
  exact Nat.lt_trans (Ev (by omega) (by omega)) h1
theorem PE {P:aK} {i j:Nat} (hi:i≤(parts P).length) (hj:j≤(parts P).length) (h:mR P i=mR P j):i=j:=by
 rcases Nat.lt_trichotomy i j with g|g|g
 ·have:=Ev g hj;rw [h] at this;omega
 ·exact g
 have:=Ev g hi;rw [h] at this;omega
theorem PF {P:aK} {k:Nat} (h:k≤(parts P).length):above (mR P k)=(List.range (k+1)).map (mR P):=by
 rw [C8,GZ,List.length_take,Nat.min_eq_left h]
 refine List.map_congr_left fun i hi=>?_
 rw [List.mem_range] at hi
 exact SG (by omega)
theorem wI {P:aK} {k:Nat} (h:k≤(parts P).length):parent (mR P k)=mR P (k-1):=by
 unfold parent
 rw [PF h]
 simp only [lgM,List.length_range]
 rw [List.getD_eq_getElem?_getD,List.getElem?_map,List.getElem?_range (by omega)]
 simp [show k+1-2=k-1 by omega]
theorem Jy {P q r:aK} (hq:q∈above P) (hr:r∈above P) (q0:q≠[]) (r0:r≠[]) (h:parent q=parent r):q=r:=by
 obtain ⟨i,hi,rfl⟩:=rR.1 hq
 obtain ⟨j,hj,rfl⟩:=rR.1 hr
 rw [wI hi,wI hj] at h
 have i0:i≠0:=by rintro rfl;exact q0 (C9 P)
 have j0:j≠0:=by rintro rfl;exact r0 (C9 P)
 have:=PE (by omega) (by omega) h
 rw [show i=j by omega]
theorem Jz {P q:aK} (hq:q∈above P):parent q∈above P:=by
 obtain ⟨i,hi,rfl⟩:=rR.1 hq
 rw [wI hi];exact rR.2 ⟨i-1,by omega,rfl⟩
theorem Da (P:aK):[]∈above P:=by simp [above]
theorem x9 {P q:aK}:(decide (q=[])||nF q P)=decide (q∈above P):=by
 by_cases h:q=[]
 ·subst h;simp [Da]
 simp only [above,List.mem_cons,h,false_or,decide_false,Bool.false_or,nF]
 by_cases g:q∈mC P
 ·simp [g]
 simp [g]
structure iv where
 bI:Int
 cnt:Int
def iv.cells (m:iv):List D:=[.int .u64 m.bI,.int .i64 m.cnt]
def n6 (l:List Int):List Int:=l.mergeSort (fun x y=>decide (x≤y))
theorem AH {l m:List Int} (hl:l.Pairwise (fun x y=>x≤y)) (hm:m.Pairwise (fun x y=>x≤y)) (h:l.Perm m):l=m:=
 h.eq_of_pairwise (fun a b _ _ h1 h2=>Int.le_antisymm h1 h2) hl hm
theorem kw (l:List Int):(n6 l).Perm l:=List.mergeSort_perm _ _
@[simp] theorem Ew (l:List Int):(n6 l).length=l.length:=(kw l).length_eq
theorem rS (l:List Int):(n6 l).Pairwise (fun x y=>x≤y):=by
 have:=List.pairwise_mergeSort (le:=fun x y:Int=>decide (x≤y)) (by intro a b c;simp;omega) (by intro a b;simp;omega) l
 exact this.imp (by simp)
def gD (name:aK) (js:List Int) (x:Place):List Int:=if x.node=name then (if x.bI∈js then js else js++[x.bI]) else js
def fL (name:aK) (ps:List Place):List Int:=ps.foldl (gD name) []
def Ey (name:aK) (ps:List Place):List Int:=n6 (fL name ps)
def sH (p:cH) (name:aK):cH×List Int×Int:=
 if (fG p name false).2=0 then ((fG p name false).1,Ey name p.places,0) else ((fG p name false).1,[],(fG p name false).2)
def gA:List iv→Int→Int→List iv
 |[],j,c=>[⟨j,c⟩]
 |m::l,j,c=>if j=m.bI then ⟨j,c⟩::l else m::gA l j c
theorem G0:∀(l:List iv) (j:Int),vV (l.map iv.cells) (.int .u64 j)=none∨∃x,vV (l.map iv.cells) (.int .u64 j)=some [.int .i64 x]
 |[],_=>.inl rfl
 |m::l,j=>by
  simp only [List.map_cons,iv.cells,vV,pe]
  by_cases h:j=m.bI
  ·subst h;exact .inr ⟨m.cnt,by simp⟩
  have:=G0 l j
  simpa [h] using this
theorem ve:∀(l:List iv) (j c:Int),rZ (l.map iv.cells) (.int .u64 j) [.int .i64 c]=(gA l j c).map iv.cells
 |[],_,_=>rfl
 |m::l,j,c=>by
  simp only [List.map_cons,gA]
  by_cases h:j=m.bI
  ·subst h;simp [iv.cells,rZ,pe]
  simp only [if_neg h,List.map_cons]
  rw [←ve l j c]
  simp [iv.cells,rZ,pe,h]
theorem kQ:∀(l:List iv) (j c:Int),(gA l j c).map iv.bI=if j∈l.map iv.bI then l.map iv.bI else l.map iv.bI++[j]
 |[],_,_=>by simp [gA]
 |m::l,j,c=>by
  simp only [gA]
  by_cases h:j=m.bI
  ·subst h;simp
  rw [if_neg h,List.map_cons,List.map_cons,kQ l j c]
  by_cases h2:j∈l.map iv.bI
  ·simp [h2]
  rw [if_neg h2,if_neg (by simp only [List.mem_cons];rintro (g|g);exact h g;exact h2 g)];rfl
theorem nG (name:aK):∀(ps:List Place) (js:List Int),js.Nodup→(ps.foldl (gD name) js).Nodup
 |[],_,h=>h
 |x::r,js,h=>by
  rw [List.foldl_cons]
  refine nG name r _ ?_
  unfold gD
  split
  ·split
   ·exact h
   rename_i g
   rw [List.nodup_append]
   exact ⟨h,by simp,fun a ha b hb e=>g (by simp at hb;rw [←hb,←e];exact ha)⟩
  exact h
theorem qG (name:aK) (j:Int):∀(ps:List Place) (js:List Int),j∈ps.foldl (gD name) js↔j∈js∨∃x∈ps,x.node=name∧x.bI=j
 |[],js=>by simp
 |x::r,js=>by
  rw [List.foldl_cons,qG name j r]
  unfold gD
  by_cases hx:x.node=name
  ·rw [if_pos hx]
   by_cases hj:x.bI∈js
   ·rw [if_pos hj]
    constructor
    ·rintro (h|⟨y,hy,g⟩)
     ·exact .inl h
     exact .inr ⟨y,by simp [hy],g⟩
    rintro (h|⟨y,hy,g1,g2⟩)
    ·exact .inl h
    rcases List.mem_cons.1 hy with rfl|hy
    ·exact .inl (by rw [←g2];exact hj)
    exact .inr ⟨y,hy,g1,g2⟩
   rw [if_neg hj]
   constructor
   ·rintro (h|⟨y,hy,g⟩)
    ·rcases List.mem_append.1 h with h|h
     ·exact .inl h
     simp at h;exact .inr ⟨x,by simp,hx,h.symm⟩
    exact .inr ⟨y,by simp [hy],g⟩
   rintro (h|⟨y,hy,g1,g2⟩)
   ·exact .inl (by simp [h])
   rcases List.mem_cons.1 hy with rfl|hy
   ·exact .inl (by simp [g2])
   exact .inr ⟨y,hy,g1,g2⟩
  rw [if_neg hx]
  constructor
  ·rintro (h|⟨y,hy,g⟩)
   ·exact .inl h
   exact .inr ⟨y,by simp [hy],g⟩
  rintro (h|⟨y,hy,g1,g2⟩)
  ·exact .inl h
  rcases List.mem_cons.1 hy with rfl|hy
  ·exact absurd g1 hx
  exact .inr ⟨y,hy,g1,g2⟩
theorem vf (name:aK):∀(ps:List Place) (js:List Int),js.length≤(ps.foldl (gD name) js).length
 |[],_=>Nat.le_refl _
 |x::r,js=>by
  rw [List.foldl_cons]
  refine Nat.le_trans ?_ (vf name r _)
  unfold gD
  split
  ·split<;>simp
  exact Nat.le_refl _
theorem G1 (name:aK) (ps:List Place) (k:Nat):(fL name (ps.take k)).length≤(fL name ps).length:=by
 have h:=vf name (ps.drop k) (fL name (ps.take k))
 unfold fL at h ⊢
 rwa [←List.foldl_append,List.take_append_drop] at h
theorem PG {name:aK} {ps:List Place} {j:Int}:j∈Ey name ps↔∃x∈ps,x.node=name∧x.bI=j:=by
 unfold Ey
 rw [(kw _).mem_iff,fL,qG];simp
theorem PI (name:aK) (ps:List Place):(Ey name ps).Pairwise (fun x y=>x<y):=by
 have h1:=rS (fL name ps)
 have h2:(Ey name ps).Nodup:=(kw _).nodup_iff.2 (nG name ps [] List.nodup_nil)
 exact h1.imp₂ (fun a b h g=>by have:a≠b:=g;omega) h2
def XU (s:aT) (prev:Option Int) (j:Jb):Bool:=
 if j.id<1 then false else if s.next≤j.id then false else if (match prev with|none=>false|some p=>decide (j.id≤p)) then false else
 if eS j.x≠0 then false else if !jJ s.tree j.x.path then false else
 if j.runs then decide (1≤j.left)&&decide (j.left≤j.x.fH) else decide (j.left=0)&&s.queue.contains ⟨j.id,j.x.prio⟩
def G2 (s:aT):Option Int→List Jb→Bool
 |_,[]=>true
 |q,j::r=>XU s q j&&G2 s (some j.id) r
def wJ (l:List Jb):Nat:=(l.filter fun j=>!j.runs).length
def PJ:List Jb→List iv
 |l=>l.foldl (fun m j=>if j.runs then gA m j.id j.x.count else m) []
def mE (m:List iv) (id:Int):Int:=match m.find? (fun x=>decide (x.bI=id)) with
 |some x=>x.cnt
 |none=>0
def zh (l:List Jb):List Place→List iv→Option (List iv)
 |[],m=>some m
 |x::r,m=>if mE m x.bI<1 then none else if x.v≠(bB l x.bI).1.x.gx then none else zh l r (gA m x.bI (mE m x.bI-1))
def Ez (s:aT):Bool:=match zh s.ap s.aX.places (PJ s.ap) with
 |none=>false
 |some m=>m.all fun x=>decide (x.cnt=0)
def Db (p:aK):List Jb→bM→Option bM
 |[],v=>some v
 |j::r,v=>if !j.runs then Db p r v else if !decide (p=[])&&!nF p j.x.path then Db p r v else
  if !(cZ j.x).2||!(jX v (cZ j.x).1).2 then none else Db p r (jX v (cZ j.x).1).1
def LF (s:aT) (e:bg):Bool:=match Db e.path s.ap bM.zero with
 |none=>false
 |some v=>decide (v=e.used)
def zi (s:aT):Bool:=
 if !Ej s.aX then false else if !Er s.tree then false else if !El s.queue then false else if 32<s.ap.length then false else if s.next<1 then false else
 if 32<max s.ev.l.length s.au.l.length then false else if !G2 s none s.ap then false else
 decide (wJ s.ap=s.queue.length)&&Ez s&&!(s.tree.any fun e=>!LF s e)
end Dem
end
