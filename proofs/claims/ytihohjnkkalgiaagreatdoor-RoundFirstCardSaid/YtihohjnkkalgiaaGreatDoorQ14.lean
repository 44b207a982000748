/- Parts of a proof, joined. -/
import Derived.Test.YtihohjnkkalgiaaGreatDoorQ13
import Derived.Lib.Bytealg
import Derived.Lib.Join
set_option linter.all false
set_option maxRecDepth 100000
set_option maxHeartbeats 4000000
section
open Go
namespace Dem
abbrev bO.u' (v:bO):Prop:=(0≤v.a∧v.a<18446744073709551616)∧(0≤v.b∧v.b<18446744073709551616)∧(0≤v.c∧v.c<18446744073709551616)∧(0≤v.d∧v.d<18446744073709551616)
def Mp (x y:Int):Int×Bool:=if x.toNat*y.toNat<18446744073709551616 then (((x.toNat*y.toNat:Nat):Int),true) else (0,false)
def I8 (v:bO) (n:Int):bO×Bool:=both (fun x _=>Mp x n) v bO.zero
def iS (x y:Int):Int:=if x<y then -1 else if y<x then 1 else 0
def qi (a b:bO):Int:=
 if iS a.a b.a≠0 then iS a.a b.a else if iS a.b b.b≠0 then iS a.b b.b else if iS a.c b.c≠0 then iS a.c b.c else iS a.d b.d
structure cj where
 id:Int
 prio:Int
deriving DecidableEq
instance:Inhabited cj:=⟨⟨0,0⟩⟩
def cj.cells (q:cj):List D:=[.int .u64 q.id,.int .i64 q.prio]
def bG (a b:cj):Bool:=decide (b.prio<a.prio)||(decide (a.prio=b.prio)&&decide (a.id<b.id))
def uO (l:List cj) (e:cj):Nat:=match l.findIdx? (fun x=>bG e x) with
 |some k=>k
 |none=>l.length
def nh (l:List cj) (id:Int):Int:=idxOf (fun x=>decide (x.id=id)) l
def kQ (e:cj):Bool:=decide (e.prio<0)||decide (9<e.prio)
def jU (l:List cj) (e:cj):List cj×Int:=
 if kQ e then (l,1) else if 0≤nh l e.id then (l,8) else if 32≤l.length then (l,9) else
 (l.take (uO l e)++e::l.drop (uO l e),0)
def Ao (l:List cj) (id:Int):List cj×Bool:=match l.findIdx? (fun x=>decide (x.id=id)) with
 |some k=>(l.eraseIdx k,true)
 |none=>(l,false)
def Xu (q:Option cj) (e:cj):Bool:=match q with|none=>true|some q=>bG q e
def yO (all:List cj):Option cj→Nat→List cj→Bool
 |_,_,[]=>true
 |q,k,e::r=>!kQ e&&decide (nh all e.id=k)&&Xu q e&&yO all (some e) (k+1) r
def DY (l:List cj):Bool:=yO l none 0 l&&decide (l.length≤32)
def bW (c:UInt8):aQ→List aQ
 |[]=>[[]]
 |x::xs=>if x=c then []::bW c xs else match bW c xs with
  |h::r=>(x::h)::r
  |[]=>[[x]]
theorem oJ (c:UInt8):∀s:aQ,(bW c s).length=s.count c+1
 |[]=>rfl
 |x::xs=>by
  have ih:=oJ c xs
  unfold bW
  by_cases h:x=c
  ·simp [h,ih]
  simp only [h,if_false,List.count_cons,beq_iff_eq]
  split<;>simp_all
theorem CB (c:UInt8) (s:aQ):bW c s≠[]:=fun h=>by have:=oJ c s;rw [h] at this;simp at this
theorem qj (c:UInt8):∀s:aQ,Lib.indexByte s c<0→bW c s=[s]
 |[],_=>rfl
 |x::xs,h=>by
  have hg:=Lib.indexByte_ge xs c
  unfold Lib.indexByte at h
  have hx:x≠c:=by rintro rfl;simp at h
  have h2:Lib.indexByte xs c<0:=by
   simp only [beq_iff_eq,hx,if_false] at h
   split at h
   ·omega
   omega
  simp [bW,hx,qj c xs h2]
theorem xK (c:UInt8):∀(s:aQ) (j:Nat),Lib.indexByte s c=j→j<s.length∧bW c s=s.take j::bW c (s.drop (j+1))∧s.count c=(s.drop (j+1)).count c+1
 |[],j,h=>by simp [Lib.indexByte] at h
 |x::xs,j,h=>by
  have hg:=Lib.indexByte_ge xs c
  unfold Lib.indexByte at h
  by_cases hx:x=c
  ·simp only [beq_iff_eq,hx,if_true] at h
   have:j=0:=by omega
   subst this;simp [bW,hx]
  simp only [beq_iff_eq,hx,if_false] at h
  split at h
  ·omega
  obtain ⟨i,rfl⟩:∃i,j=i+1:=⟨j-1,by omega⟩
  obtain ⟨h1,h2,h3⟩:=xK c xs i (by omega)
  refine ⟨by simp;omega,?_,?_⟩
  ·simp [bW,hx,h2]
  simp [hx,h3]
theorem DZ {s:aQ} {r:Int} (h:r=Lib.indexByte s 47) (h0:r<0):s.count 47=0:=by
 have e:=oJ 47 s
 rw [qj 47 s (h▸h0)] at e
 simp at e;simpa using e
theorem D1 {s:aQ} {r:Int} (h:r=Lib.indexByte s 47) (h0:0≤r):∃j:Nat,r=j∧j<s.length∧bW 47 s=s.take j::bW 47 (s.drop (j+1))∧s.count 47=(s.drop (j+1)).count 47+1:=by
 obtain ⟨j,rfl⟩:=Int.eq_ofNat_of_zero_le h0
 obtain ⟨h1,h2,h3⟩:=xK 47 s j h.symm
 exact ⟨j,rfl,h1,h2,h3⟩
theorem Ap {s:aQ} (h:s.count 47=0):bW 47 s=[s]:=by
 refine qj 47 s (Int.not_le.1 fun h0=>?_)
 obtain ⟨j,_,_,_,e⟩:=D1 rfl h0
 omega
def fk (l:List aQ):aQ:=Lib.join l [47]
def parts (s:aQ):List aQ:=if decide (3<(bW 47 s).length)||(bW 47 s).any (fun n=>!ej n) then [] else bW 47 s
def mg (s:aQ):List aQ:=(List.range (parts s).length).map fun k=>fk ((parts s).take (k+1))
def nj (a b:aQ):Bool:=(mg b).contains a
def named (p:aQ):Bool:=decide (p=[])||nj p p
def above (p:aQ):List aQ:=[]::mg p
def parent (p:aQ):aQ:=(above p).getD ((above p).length-2) []
theorem ke (s:aQ):(parts s).length≤3:=by
 unfold parts;split
 ·simp
 rename_i h;simp at h;omega
theorem iu (s:aQ):(mg s).length=(parts s).length:=by simp [mg]
theorem sn (x:aQ) (r:List aQ):Lib.joinTail [47] (x::r)=47::fk (x::r):=by
 rw [fk,Lib.join_cons];simp [Lib.joinTail]
theorem xL:∀s:aQ,fk (bW 47 s)=s
 |[]=>rfl
 |c::s=>by
  have ih:=xL s
  unfold bW
  cases e:bW 47 s with
  |nil=>exact absurd e (CB 47 s)
  |cons h r=>
   rw [e] at ih
   split
   ·rename_i hc
    show Lib.join ([]::h::r) [47]=_
    rw [Lib.join_cons,sn,ih,hc];rfl
   show Lib.join ((c::h)::r) [47]=_
   rw [Lib.join_cons,List.cons_append,←Lib.join_cons]
   exact congrArg _ ih
theorem BR (l:List aQ) (k:Nat):(Lib.joinTail [47] (l.take k)).length≤(Lib.joinTail [47] l).length:=by
 have e:Lib.joinTail [47] l=Lib.joinTail [47] (l.take k)++Lib.joinTail [47] (l.drop k):=by
  simp only [Lib.joinTail];rw [←List.flatten_append,←List.map_append,List.take_append_drop]
 rw [e,List.length_append];omega
theorem I9 (l:List aQ) (k:Nat):(fk (l.take k)).length≤(fk l).length:=by
 cases l with
 |nil=>simp
 |cons x r=>
  cases k with
  |zero=>simp [fk,Lib.join_nil]
  |succ k=>
   simp only [List.take_succ_cons,fk,Lib.join_cons,List.length_append]
   have:=BR r k
   omega
theorem CC (s:aQ) (k:Nat):(fk ((parts s).take k)).length≤s.length:=by
 refine Nat.le_trans (I9 _ k) ?_
 unfold parts
 split
 ·simp [fk,Lib.join_nil]
 rw [xL];exact Nat.le_refl _
theorem Sg {s:aQ} {k:Nat} (hk:k<(parts s).length):(mg s)[k]?=some (fk ((parts s).take (k+1))):=by simp [mg,hk]
theorem CD {s:aQ} {k:Nat} (hk:k<(parts s).length):(mg s).take (k+1)=(mg s).take k++[fk ((parts s).take (k+1))]:=by
 have hl:k<(mg s).length:=by rw [iu];exact hk
 rw [List.take_add_one,Sg hk];rfl
def bO.at_ (v:bO):Nat→Int
 |0=>v.a
 |1=>v.b
 |2=>v.c
 |_=>v.d
structure Ask where
 path:aQ
 gu:bO
 count:Int
 prio:Int
 fG:Int
 ct:List Term
deriving DecidableEq
instance:Inhabited Ask:=⟨⟨[],bO.zero,0,0,0,[]⟩⟩
def Ask.zero:Ask:=⟨[],bO.zero,0,0,0,[]⟩
def cU (x:Ask):bO×Bool:=I8 x.gu (x.count%18446744073709551616)
def Ri (n a b:Int):Bool:=decide (a≤n)&&decide (n≤b)
def eO (x:Ask):Int:=
 if !nj x.path x.path then 6 else if !Ri x.count 1 8||!Ri x.prio 0 9||!Ri x.fG 1 100 then 1 else if !An x.ct then 2 else if !(cU x).2 then 5 else 0
def fitting (l:List bT) (x:List Term):List bT:=l.filter fun s=>ng x s.labels
structure D2 where
 at_:Nat
 left:bO
 ok:Bool
def mh (v:bO):List bT→Nat→D2→D2
 |[],_,b=>b
 |s::r,k,b=>mh v r (k+1) (if (dV s.free v).2&&(!b.ok||decide (qi (dV s.free v).1 b.left<0)) then ⟨k,(dV s.free v).1,true⟩ else b)
def best (l:List bT) (v:bO):D2:=mh v l 0 ⟨0,bO.zero,false⟩
instance:Inhabited bT:=⟨⟨[],bO.zero,[]⟩⟩
def nN (v:bO):Nat→List bT→List aQ→List aQ×Bool
 |0,_,out=>(out,true)
 |n+1,l,out=>if !(best l v).ok then ([],false) else
  nN v n (l.set (best l v).at_ {l.getD (best l v).at_ default with free:=(best l v).left}) (out++[(l.getD (best l v).at_ default).node])
def fit (l:List bT) (x:List Term) (v:bO) (count:Int):List aQ×Bool:=
 if 8<count then ([],false) else nN v (max count 0).toNat (fitting l x) []
structure bw where
 path:aQ
 eU:bO
 used:bO
deriving DecidableEq
abbrev bw.cells (e:bw):List D:=[.str e.path,.int .u64 e.eU.a,.int .u64 e.eU.b,.int .u64 e.eU.c,.int .u64 e.eU.d,.int .u64 e.used.a,.int .u64 e.used.b,.int .u64 e.used.c,.int .u64 e.used.d]
def bw.zero:bw:=⟨[],bO.zero,bO.zero⟩
instance:Inhabited bw:=⟨bw.zero⟩
def bY (t:List bw) (p:aQ):Int:=idxOf (fun e=>decide (e.path=p)) t
def qn (t:List bw) (p:aQ):bw×Bool:=match t.find? (fun e=>decide (e.path=p)) with
 |some e=>(e,true)
 |none=>(bw.zero,false)
def uP (t:List bw) (p:aQ) (v:bO):List bw×Int:=
 if !named p then (t,6) else
 if !decide (p=[])&&decide (bY t (parent p)<0) then (t,7) else
 if decide (bY t p<0)&&decide (16≤t.length) then (t,9) else
 match t.findIdx? (fun e=>decide (e.path=p)) with
 |some k=>if !kU ((t.getD k bw.zero).used) v then (t,10) else (t.set k {t.getD k bw.zero with eU:=v},0)
 |none=>match t.findIdx? (fun e=>!Op.bytesLess e.path p) with
  |some k=>(t.take k++⟨p,v,bO.zero⟩::t.drop k,0)
  |none=>(t++[⟨p,v,bO.zero⟩],0)
def fJ (v:bO) (e:bw):bw×Int:=
 if !(jR e.used v).2 then (e,5) else if !kU (jR e.used v).1 e.eU then (e,10) else ({e with used:=(jR e.used v).1},0)
def eE (v:bO) (e:bw):bw×Int:=
 if !(dV e.used v).2 then (e,15) else ({e with used:=(dV e.used v).1},0)
def kf (f:bw→bw×Int) (t:List bw):List aQ→List bw→List bw×Int
 |[],out=>(out,0)
 |p::r,out=>if (f (t.getD (bY t p).toNat bw.zero)).2≠0 then (t,(f (t.getD (bY t p).toNat bw.zero)).2) else kf f t r (out.set (bY t p).toNat (f (t.getD (bY t p).toNat bw.zero)).1)
def o6 (f:bw→bw×Int) (t:List bw) (p:aQ):List bw×Int:=
 if !named p then (t,6) else if (above p).any (fun q=>decide (bY t q<0)) then (t,7) else kf f t (above p) t
def cY (t:List bw) (p:aQ) (v:bO):List bw×Int:=o6 (fJ v) t p
def rC (t:List bw) (p:aQ) (v:bO):List bw×Int:=o6 (eE v) t p
def CE (p:aQ):List bw→bO→Option bO
 |[],s=>some s
 |x::r,s=>if x.path=[] then CE p r s else if parent x.path≠p then CE p r s else if (jR s x.used).2 then CE p r (jR s x.used).1 else none
def D3 (l:List bw) (e:bw):Bool:=match CE e.path l bO.zero with
 |none=>false
 |some s=>kU e.used e.eU&&kU s e.used
def oK (all:List bw):Option aQ→List bw→Bool
 |_,[]=>true
 |none,e::r=>oK all (some e.path) r
 |some q,e::r=>!sle e.path q&&named e.path&&!decide (bY all (parent e.path)<0)&&oK all (some e.path) r
def D4 (l:List bw):Bool:=
 if l.length<1 then false else if 16<l.length then false else if (l.getD 0 bw.zero).path≠[] then false else oK l none l&&!(l.any fun e=>!D3 l e)
theorem CF:∀(x y:aQ),Op.bytesLess x y=decide (x<y)
 |[],[]=>by simp [Op.bytesLess]
 |a::x,[]=>by simp [Op.bytesLess]
 |[],b::y=>by simp [Op.bytesLess]
 |a::x,b::y=>by
  have ih:=CF x y
  simp only [Op.bytesLess,ih]
  rw [Bool.eq_iff_iff]
  simp [List.cons_lt_cons_iff]
theorem kg (x:aQ):¬x<x:=List.lt_irrefl x
theorem we {x y z:aQ} (h:x<y) (g:y<z):x<z:=List.lt_trans h g
theorem La (x y:aQ):x<y∨x=y∨y<x:=by
 by_cases h:x<y
 ·exact .inl h
 by_cases g:y<x
 ·exact .inr (.inr g)
 exact .inr (.inl (List.le_antisymm (List.not_lt.1 g) (List.not_lt.1 h)))
theorem CG {x y:aQ} (h:x<y) (g:y<x):False:=kg x (we h g)
theorem Lb {x y:aQ}:(!sle x y)=true↔y<x:=by
 rcases La x y with h|rfl|h
 ·have:¬y<x:=fun g=>CG h g
  simp [sle,CF,h,this]
 ·simp [sle]
 simp only [sle,CF]
 have h1:¬x<y:=fun g=>CG h g
 have h2:x≠y:=fun e=>by subst e;exact kg x h
 simp [h1,h2,h]
abbrev Ja (l:List Node):Prop:=l.Pairwise (fun x y=>x.name<y.name)
def Node.yy (n:Node):Bool:=ej n.name&&sY n.labels
structure cC.ok (p:cC):Prop where
 xM:Ja p.nodes
 yy:∀n∈p.nodes,n.yy=true
 free:∀n∈p.nodes,(cE n.name p.nodes p.places).2=true
 most:p.nodes.length≤16
 here:∀x∈p.places,∃n∈p.nodes,n.name=x.node
theorem xN {l:List Node} {ps:List Place}:∀(r:List Node) (q:Option aQ),uN l ps q r=true↔
 ((∀n∈r,n.yy=true)∧(∀n∈r,(cE n.name l ps).2=true)∧Ja r∧∀a,q=some a→∀n∈r,a<n.name)
 |[],q=>by simp [uN]
 |n::r,q=>by
  have ih:=xN (l:=l) (ps:=ps) r (some n.name)
  simp only [uN,Bool.and_eq_true,ih]
  have hp:I7 q n.name=true↔∀a,q=some a→a<n.name:=by
   cases q with
   |none=>simp [I7]
   |some a=>simp only [I7,Lb];simp
  rw [hp]
  constructor
  ·rintro ⟨⟨⟨⟨h1,h2⟩,h3⟩,h4⟩,g1,g2,g3,g4⟩
   refine ⟨?_,?_,?_,?_⟩
   ·intro m hm;rcases List.mem_cons.1 hm with rfl|hm
    ·simp [Node.yy,h2,h3]
    exact g1 m hm
   ·intro m hm;rcases List.mem_cons.1 hm with rfl|hm
    ·exact h1
    exact g2 m hm
   ·exact List.pairwise_cons.2 ⟨fun m hm=>g4 _ rfl m hm,g3⟩
   intro a ha m hm;rcases List.mem_cons.1 hm with rfl|hm
   ·exact h4 a ha
   exact we (h4 a ha) (g4 _ rfl m hm)
  rintro ⟨h1,h2,h3,h4⟩
  have f:=h1 n (by simp)
  simp only [Node.yy,Bool.and_eq_true] at f
  have h3':=List.pairwise_cons.1 h3
  exact ⟨⟨⟨⟨h2 n (by simp),f.1⟩,f.2⟩,fun a ha=>h4 a ha n (by simp)⟩,fun m hm=>h1 m (by simp [hm]),fun m hm=>h2 m (by simp [hm]),h3'.2,fun a ha m hm=>by cases ha;exact h3'.1 m hm⟩
theorem Jc {p:cC}:DW p=true↔p.ok:=by
 unfold DW
 simp only [Bool.and_eq_true,xN,decide_eq_true_eq,Bool.not_eq_true',List.any_eq_false,T2]
 constructor
 ·rintro ⟨⟨⟨h1,h2,h3,_⟩,h5⟩,h6⟩
  refine ⟨h3,h1,h2,h5,fun x hx=>?_⟩
  have:=h6 x hx
  simpa using this
 rintro ⟨h1,h2,h3,h4,h5⟩
 refine ⟨⟨⟨h2,h3,h1,by simp⟩,h4⟩,fun x hx=>?_⟩
 obtain ⟨n,hn,e⟩:=h5 x hx
 simp;exact ⟨n,hn,e⟩
theorem Po {l:List Node} (ha:Ja l) {n:Node} (hn:n∈l):l.find? (fun x=>decide (x.name=n.name))=some n:=by
 induction l with
 |nil=>cases hn
 |cons m r ih=>
  rw [List.find?_cons]
  have Xv:=List.pairwise_cons.1 ha
  rcases List.mem_cons.1 hn with rfl|hn
  ·simp
  have:m.name≠n.name:=fun e=>by have:=Xv.1 n hn;rw [e] at this;exact kg _ this
  simp [this,ih Xv.2 hn]
theorem CH {l:List Node} (ha:Ja l) {n:Node} (hn:n∈l):eC n.name l=(n,true):=by
 unfold eC;rw [Po ha hn]
theorem Jd {l:List Node} {name:aQ} (h:(eC name l).2=true):(eC name l).1∈l∧(eC name l).1.name=name:=by
 unfold eC at h ⊢
 split at h
 ·rename_i x hx
  have h1:=List.mem_of_find?_eq_some hx
  have h2:=List.find?_some hx
  exact ⟨h1,by simpa using h2⟩
 cases h
def left (name:aQ) (ps:List Place) (v:bO×Bool):bO×Bool:=ps.foldl (cI name) v
theorem wg {l:List Node} (ha:Ja l) {n:Node} (hn:n∈l) (ps:List Place):cE n.name l ps=if (left n.name ps (n.cap,true)).2 then left n.name ps (n.cap,true) else (bO.zero,false):=by
 unfold cE;rw [CH ha hn];rfl
theorem gP {l:List Node} (ha:Ja l) {n:Node} (hn:n∈l) (ps:List Place):(cE n.name l ps).2=(left n.name ps (n.cap,true)).2:=by
 rw [wg ha hn]
 split
 ·rfl
 rename_i h;simp at h;simp [h]
theorem Je (name:aQ) (ps:List Place):∀v,(left name ps (v,false))=(v,false):=by
 induction ps with
 |nil=>intro v;rfl
 |cons x r ih=>intro v;simp only [left,List.foldl_cons];rw [show cI name (v,false) x=(v,false) by simp [cI]];exact ih v
theorem Mq (name:aQ) (ps:List Place) (x:Place) (v:bO×Bool):left name (ps++[x]) v=cI name (left name ps v) x:=by simp [left]
def bO.w (v:bO):Prop:=∀k<4,0≤v.at_ k∧v.at_ k<18446744073709551616
theorem bO.UW {a b:bO} (h:∀k<4,a.at_ k=b.at_ k):a=b:=by
 rw [UU];exact ⟨h 0 (by decide),h 1 (by decide),h 2 (by decide),h 3 (by decide)⟩
theorem Yt {P:Nat→Prop}:(∀k<4,P k)↔P 0∧P 1∧P 2∧P 3:=by
 constructor
 ·intro h;exact ⟨h 0 (by decide),h 1 (by decide),h 2 (by decide),h 3 (by decide)⟩
 rintro ⟨h0,h1,h2,h3⟩ k hk
 match k,hk with
 |0,_=>exact h0
 |1,_=>exact h1
 |2,_=>exact h2
 |3,_=>exact h3
theorem Sh {x y:Int}:(Gx x y).2=true↔y.toNat≤x.toNat:=by
 unfold Gx;split<;>simp<;>omega
theorem Si {x y:Int}:(Gw x y).2=true↔x.toNat+y.toNat<18446744073709551616:=by
 unfold Gw;split<;>simp<;>omega
theorem mR {a b:bO}:(dV a b).2=true↔∀k<4,(b.at_ k).toNat≤(a.at_ k).toNat:=by
 rw [Yt];simp only [bO.at_,←Sh]
 unfold dV both;split
 ·rename_i h;simp only [Bool.and_eq_true] at h;simp [h]
 rename_i h;simp only [Bool.and_eq_true,not_and] at h;simp;intro h1 h2 h3;simpa using h ⟨⟨h1,h2⟩,h3⟩
theorem D5 {a b:bO}:(jR a b).2=true↔∀k<4,(a.at_ k).toNat+(b.at_ k).toNat<18446744073709551616:=by
 rw [Yt];simp only [bO.at_,←Si]
 unfold jR both;split
 ·rename_i h;simp only [Bool.and_eq_true] at h;simp [h]
 rename_i h;simp only [Bool.and_eq_true,not_and] at h;simp;intro h1 h2 h3;simpa using h ⟨⟨h1,h2⟩,h3⟩
theorem D6 {a b:bO} (h:(dV a b).2=true):∀k<4,(dV a b).1.at_ k=((((a.at_ k).toNat-(b.at_ k).toNat)%18446744073709551616:Nat):Int):=by
 have h':=mR.1 h
 rw [Yt] at h' ⊢
 simp only [bO.at_] at h' ⊢
 unfold dV both at h ⊢
 split at h
 ·rename_i g
  rw [if_pos g]
  simp only [Gx]
  rw [if_neg (by omega),if_neg (by omega),if_neg (by omega),if_neg (by omega)]
  simp
 cases h
theorem Lc {a b:bO} (h:(jR a b).2=true):∀k<4,(jR a b).1.at_ k=(((a.at_ k).toNat+(b.at_ k).toNat:Nat):Int):=by
 have h':=D5.1 h
 rw [Yt] at h' ⊢
 simp only [bO.at_] at h' ⊢
 unfold jR both at h ⊢
 split at h
 ·rename_i g
  rw [if_pos g]
  simp only [Gw]
  rw [if_pos (by omega),if_pos (by omega),if_pos (by omega),if_pos (by omega)]
  simp
 cases h
theorem Jf {a b:bO} (h:(dV a b).2=true):(dV a b).1.w:=by
 intro k hk;rw [D6 h k hk];omega
def here (name:aQ) (ps:List Place):List Place:=ps.filter (fun x=>decide (x.node=name))
def gw (k:Nat) (l:List Place):Nat:=(l.map (fun x=>(x.v.at_ k).toNat)).sum
theorem nO (name:aQ):∀(ps:List Place) (v:bO),v.w→((left name ps (v,true)).2=true↔∀k<4,gw k (here name ps)≤(v.at_ k).toNat)∧
 ((left name ps (v,true)).2=true→∀k<4,(left name ps (v,true)).1.at_ k=(((v.at_ k).toNat-gw k (here name ps):Nat):Int))
 |[],v,hv=>by
  simp only [left,List.foldl_nil,here,List.filter_nil,gw,List.map_nil,List.sum_nil]
  exact ⟨by simp,fun _ k hk=>by have:=hv k hk;omega⟩
 |x::r,v,hv=>by
  by_cases hx:x.node=name
  ·have e1:left name (x::r) (v,true)=left name r (dV v x.v):=by simp [left,cI,hx]
   have e2:here name (x::r)=x::here name r:=by simp [here,hx]
   rw [e1,e2]
   cases hs:(dV v x.v).2 with
   |false=>
    have e3:dV v x.v=((dV v x.v).1,false):=by rw [←hs]
    rw [e3,Je]
    refine ⟨⟨fun h=>Bool.noConfusion h,fun h=>?_⟩,fun h=>Bool.noConfusion h⟩
    have:(dV v x.v).2=true:=mR.2 fun k hk=>by have:=h k hk;simp [gw] at this;omega
    rw [hs] at this;cases this
   |true=>
    have e3:dV v x.v=((dV v x.v).1,true):=by rw [←hs]
    rw [e3]
    obtain ⟨i1,i2⟩:=nO name r (dV v x.v).1 (Jf hs)
    have hat:=D6 hs
    have hok:=mR.1 hs
    constructor
    ·rw [i1]
     constructor
     ·intro h k hk;have a1:=h k hk;have a2:=hat k hk;have a3:=hok k hk;have a4:=hv k hk
      rw [a2] at a1;simp only [gw,List.map_cons,List.sum_cons] at a1 ⊢;omega
     intro h k hk;have a1:=h k hk;have a2:=hat k hk;have a3:=hok k hk;have a4:=hv k hk
     rw [a2];simp only [gw,List.map_cons,List.sum_cons] at a1 ⊢;omega
    intro h k hk
    rw [i2 h k hk];have a1:=(i1.1 h) k hk;have a2:=hat k hk;have a3:=hok k hk;have a4:=hv k hk
    rw [a2] at a1 ⊢;simp only [gw,List.map_cons,List.sum_cons] at a1 ⊢;omega
  have e1:left name (x::r) (v,true)=left name r (v,true):=by simp [left,cI,hx]
  have e2:here name (x::r)=here name r:=by simp [here,hx]
  rw [e1,e2];exact nO name r v hv
theorem Aq {k:Nat} {l m:List Place} (h:l.Sublist m):gw k l≤gw k m:=by
 unfold gw
 induction h with
 |slnil=>simp
 |cons a _ ih=>simp;omega
 |cons_cons a _ ih=>simp;omega
structure cC.w (p:cC):Prop where
 cap:∀n∈p.nodes,n.cap.w
 v:∀x∈p.places,x.v.w
theorem cC.Sj {p:cC} (h:p.ok) (hw:p.w) {n:Node} (hn:n∈p.nodes):∀k<4,gw k (Dem.here n.name p.places)≤(n.cap.at_ k).toNat:=by
 have:=h.free n hn
 rw [gP h.xM hn] at this
 exact (nO n.name p.places n.cap (hw.cap n hn)).1.1 this
theorem Jg {p:cC} (ha:Ja p.nodes) (hc:∀n∈p.nodes,n.cap.w) {n:Node} (hn:n∈p.nodes) (h:∀k<4,gw k (here n.name p.places)≤(n.cap.at_ k).toNat):(cE n.name p.nodes p.places).2=true:=by
 rw [gP ha hn];exact (nO n.name p.places n.cap (hc n hn)).1.2 h
theorem Sk {p:cC} (h:p.ok) (hw:p.w) (f:Place→Bool):cC.ok ⟨p.nodes,p.places.filter f⟩:=by
 refine ⟨h.xM,h.yy,fun n hn=>?_,h.most,fun x hx=>h.here x (List.mem_filter.1 hx).1⟩
 refine Jg (p:=⟨p.nodes,p.places.filter f⟩) h.xM hw.cap hn fun k hk=>?_
 refine Nat.le_trans (Aq ?_) (cC.Sj h hw hn k hk)
 exact (List.filter_sublist (l:=p.places) (p:=f)).filter _
theorem UX {p:cC} (hw:p.w) (f:Place→Bool):cC.w ⟨p.nodes,p.places.filter f⟩:=⟨hw.cap,fun x hx=>hw.v x (List.mem_filter.1 hx).1⟩
theorem wh:bO.zero.w:=by
 intro k hk;have:bO.zero.at_ k=0:=by unfold bO.at_;split<;>rfl
 rw [this];omega
theorem yP {α:Type} {l:List α} {i:Nat} {x y:α} (h:y∈l.set i x):y∈l∨y=x:=by
 rcases List.mem_or_eq_of_mem_set h with h|h
 ·exact .inl h
 exact .inr h
theorem Pp {l:List Node} {i:Nat} {x:Node} {up:Bool} (hx:l[i]?=some x) (name:aQ):
 (eC name (l.set i {x with up:=up})).1.cap=(eC name l).1.cap∧(eC name (l.set i {x with up:=up})).2=(eC name l).2:=by
 have key:(l.set i {x with up:=up}).find? (fun y=>decide (y.name=name))=(l.find? (fun y=>decide (y.name=name))).map (fun y=>if y=x∧l.findIdx? (fun y=>decide (y.name=name))=some i then {x with up:=up} else y):=by
  induction l generalizing i with
  |nil=>simp at hx
  |cons m r ih=>
   cases i with
   |zero=>
    simp at hx;subst hx
    simp only [List.set_cons_zero,List.find?_cons,List.findIdx?_cons]
    by_cases hm:m.name=name
    ·simp [hm]
    simp only [hm,decide_false]
    cases hf:r.find? (fun y=>decide (y.name=name)) with
    |none=>simp
    |some z=>simp
   |succ i=>
    simp only [List.getElem?_cons_succ] at hx
    have:=ih hx
    simp only [List.set_cons_succ,List.find?_cons,List.findIdx?_cons]
    by_cases hm:m.name=name
    ·simp [hm]
    simp only [hm,decide_false]
    rw [this]
    simp
 unfold eC
 rw [key]
 cases hf:l.find? (fun y=>decide (y.name=name)) with
 |none=>simp
 |some z=>
  simp only [Option.map_some]
  split
  ·rename_i h;rw [h.1];simp
  simp
theorem Mr {l:List Node} {i:Nat} {x:Node} {up:Bool} (hx:l[i]?=some x) (name:aQ) (ps:List Place):cE name (l.set i {x with up:=up}) ps=cE name l ps:=by
 obtain ⟨h1,h2⟩:=Pp (up:=up) hx name
 unfold cE;rw [h1,h2]
theorem CI {l:List Node} {i:Nat} {x:Node} {up:Bool} (hx:l[i]?=some x):(l.set i {x with up:=up}).map (·.name)=l.map (·.name):=by
 apply List.ext_getElem?
 intro j
 simp only [List.getElem?_map,List.getElem?_set]
 split
 ·rename_i e;subst e;rw [hx];split<;>simp;
  rename_i h;have:=(List.getElem?_eq_some_iff.1 hx).1;omega
 rfl
theorem Ms {l m:List Node} (h:l.map (·.name)=m.map (·.name)) (ha:Ja m):Ja l:=by
 have h1:(m.map (·.name)).Pairwise (fun a b=>a<b):=List.pairwise_map.2 ha
 rw [←h] at h1
 exact List.pairwise_map.1 h1
theorem Sl {p:cC} (h:p.ok) (hw:p.w) (name:aQ) (up:Bool):(fj p name up).1.ok∧(fj p name up).1.w:=by
 unfold fj
 split
 ·rename_i i x h1 h2
  split
  ·exact ⟨h,hw⟩
  obtain ⟨hi,hp,_⟩:=List.findIdx?_eq_some_iff_getElem.1 h1
  have hx:p.nodes[i]?=some x:=by
   have:=cF (p:=fun x:Node=>decide (x.name=name)) (l:=p.nodes) rfl
   rcases this with ⟨_,h3,_⟩|⟨j,y,_,_,hy,_,h3,h4⟩
   ·rw [h1] at h3;cases h3
   rw [h1] at h3;cases h3;rw [h2] at h4;cases h4;exact hy
  have hm:x∈p.nodes:=List.mem_of_getElem? hx
  refine ⟨⟨Ms (CI hx) h.xM,?_,?_,by simpa using h.most,?_⟩,⟨?_,hw.v⟩⟩
  ·intro n hn;rcases yP hn with hn|rfl
   ·exact h.yy n hn
   exact h.yy x hm
  ·intro n hn
   show (cE n.name (p.nodes.set i {x with up:=up}) p.places).2=true
   rw [Mr hx]
   rcases yP hn with hn|rfl
   ·exact h.free n hn
   exact h.free x hm
  ·intro y hy
   obtain ⟨n,hn,e⟩:=h.here y hy
   have:n.name∈(p.nodes.set i {x with up:=up}).map (·.name):=by rw [CI hx];exact List.mem_map.2 ⟨n,hn,rfl⟩
   obtain ⟨m,hm,em⟩:=List.mem_map.1 this
   exact ⟨m,hm,by rw [em,e]⟩
  intro n hn;rcases yP hn with hn|rfl
  ·exact hw.cap n hn
  exact hw.cap x hm
 exact ⟨h,hw⟩
theorem tc {name:aQ} {v:bO} {l:List Node} {ps:List Place} (h:mQ name v l ps=0):(eC name l).2=true∧(eC name l).1.up=true∧(cE name l ps).2=true∧kU v (cE name l ps).1=true:=by
 unfold mQ at h
 split at h
 ·omega
 split at h
 ·omega
 split at h
 ·omega
 rename_i h1 h2 h3
 simp only [Bool.or_eq_true,not_or,Bool.not_eq_true',Bool.not_eq_false] at h1 h2 h3
 exact ⟨h1,h2,h3.1,h3.2⟩
theorem Ld {p:cC} (h:p.ok) (hw:p.w) {name:aQ} {v:bO} (hv:v.w) (bK:Int) (h0:mQ name v p.nodes p.places=0):cC.ok ⟨p.nodes,p.places++[⟨bK,name,v⟩]⟩∧cC.w ⟨p.nodes,p.places++[⟨bK,name,v⟩]⟩:=by
 obtain ⟨r1,r2,r3,r4⟩:=tc h0
 obtain ⟨m1,m2⟩:=Jd r1
 refine ⟨⟨h.xM,h.yy,fun n hn=>?_,h.most,?_⟩,⟨hw.cap,?_⟩⟩
 ·show (cE n.name p.nodes (p.places++[⟨bK,name,v⟩])).2=true
  rw [gP h.xM hn,Mq]
  have hl:=h.free n hn
  rw [gP h.xM hn] at hl
  unfold cI
  split
  ·rename_i g
   simp only [Bool.and_eq_true,decide_eq_true_eq] at g
   obtain ⟨g1,g2⟩:=g
   rw [cE,g2,] at r4
   have e:cE name p.nodes p.places=left n.name p.places (n.cap,true):=by
    rw [g2,wg h.xM hn,if_pos hl]
   rw [←g2] at r4
   have r4':kU v (left n.name p.places (n.cap,true)).1=true:=by rw [←e,g2];unfold cE;rw [←g2];exact r4
   exact r4'
  exact hl
 ·intro x hx
  rcases List.mem_append.1 hx with hx|hx
  ·exact h.here x hx
  simp at hx;subst hx;exact ⟨_,m1,m2⟩
 intro x hx
 rcases List.mem_append.1 hx with hx|hx
 ·exact hw.v x hx
 simp at hx;subst hx;exact hv
theorem CJ (l:List Node) (bK:Int) {v:bO} (hv:v.w):∀(names:List aQ) (ps:List Place),cC.ok ⟨l,ps⟩→cC.w ⟨l,ps⟩→(fD l bK v names ps).1=none→cC.ok ⟨l,(fD l bK v names ps).2⟩∧cC.w ⟨l,(fD l bK v names ps).2⟩
 |[],ps,h,hw,_=>⟨h,hw⟩
 |n::r,ps,h,hw,g=>by
  unfold fD at g ⊢
  split
  ·rename_i h1;rw [if_pos h1] at g;cases g
  rename_i h1
  rw [if_neg h1] at g
  have h0:mQ n v l ps=0:=by omega
  obtain ⟨a,b⟩:=Ld (p:=⟨l,ps⟩) h hw hv bK h0
  exact CJ l bK hv r _ a b g
theorem UY {p:cC} (h:p.ok) (hw:p.w) (bK:Int) (names:List aQ) {v:bO} (hv:v.w):(sZ p bK names v).1.ok∧(sZ p bK names v).1.w:=by
 unfold sZ
 split
 ·exact ⟨h,hw⟩
 rename_i g;exact CJ p.nodes bK hv names p.places h hw g
theorem GD (l:List Node) (nm:aQ):pat l nm≤l.length∧(∀n∈l.take (pat l nm),n.name<nm)∧(∀n,l[pat l nm]?=some n→¬n.name<nm):=by
 unfold pat
 split
 ·rename_i k hk
  obtain ⟨vC,hp,hb⟩:=List.findIdx?_eq_some_iff_getElem.1 hk
  refine ⟨by omega,?_,?_⟩
  ·intro n hn
   obtain ⟨j,hj⟩:=List.getElem?_of_mem hn
   rw [List.getElem?_take] at hj
   split at hj
   ·rename_i Uo
    rw [List.getElem?_eq_getElem (by omega)] at hj
    cases hj
    have:=hb j Uo
    simpa [CF] using this
   cases hj
  intro n hn
  rw [List.getElem?_eq_getElem vC] at hn;cases hn
  simpa [CF] using hp
 rename_i hk
 rw [List.findIdx?_eq_none_iff] at hk
 refine ⟨Nat.le_refl _,?_,?_⟩
 ·intro n hn
  rw [List.take_length] at hn
  have:=hk n hn
  simpa [CF] using this
 intro n hn;simp at hn
theorem yQ {l:List Node} {k:Nat} {x y:Node}:y∈l.take k++x::l.drop k↔y∈l∨y=x:=by
 rw [List.mem_append,List.mem_cons]
 constructor
 ·rintro (h|h|h)
  ·exact .inl (List.mem_of_mem_take h)
  ·exact .inr h
  exact .inl (List.mem_of_mem_drop h)
 rintro (h|h)
 ·rw [←List.take_append_drop k l,List.mem_append] at h
  rcases h with h|h
  ·exact .inl h
  exact .inr (.inr h)
 exact .inr (.inl h)
theorem Sm {l:List Node} (ha:Ja l) {x:Node} (hn:∀n∈l,n.name≠x.name):Ja (l.take (pat l x.name)++x::l.drop (pat l x.name)):=by
 obtain ⟨h1,h2,h3⟩:=GD l x.name
 have hs:=ha
 rw [←List.take_append_drop (pat l x.name) l] at hs
 have hs':=List.pairwise_append.1 hs
 have hd:∀n∈l.drop (pat l x.name),x.name<n.name:=by
  intro n hm
  cases hc:l.drop (pat l x.name) with
  |nil=>rw [hc] at hm;cases hm
  |cons m r=>
   have hlt:pat l x.name<l.length:=by
    rcases Nat.lt_or_ge (pat l x.name) l.length with h|h
    ·exact h
    rw [List.drop_eq_nil_of_le h] at hc;cases hc
   have hg:l[pat l x.name]?=some m:=by
    have:(l.drop (pat l x.name))[0]?=some m:=by rw [hc];rfl
    simpa using this
   have YV:m∈l:=List.mem_of_getElem? hg
   have Yu:x.name<m.name:=by
    rcases La x.name m.name with h|h|h
    ·exact h
    ·exact absurd h.symm (hn m YV)
    exact absurd h (h3 m hg)
   rw [hc] at hm
   rcases List.mem_cons.1 hm with rfl|hm
   ·exact Yu
   have:=hs'.2.1;rw [hc] at this
   exact we Yu ((List.pairwise_cons.1 this).1 n hm)
 refine List.pairwise_append.2 ⟨hs'.1,List.pairwise_cons.2 ⟨hd,hs'.2.1⟩,?_⟩
 intro a Xv b hb
 rcases List.mem_cons.1 hb with rfl|hb
 ·exact h2 a Xv
 exact hs'.2.2 a Xv b hb
theorem tg (p:cC) (n:Node):((qf p n).1=p∧(qf p n).2≠0)∨(n.yy=true∧(∀m∈p.nodes,m.name≠n.name)∧p.nodes.length<16∧
 qf p n=(⟨p.nodes.take (pat p.nodes n.name)++{n with up:=true}::p.nodes.drop (pat p.nodes n.name),p.places⟩,0)):=by
 unfold qf
 split
 ·exact .inl ⟨rfl,by simp⟩
 split
 ·exact .inl ⟨rfl,by simp⟩
 split
 ·exact .inl ⟨rfl,by simp⟩
 split
 ·exact .inl ⟨rfl,by simp⟩
 rename_i h1 h2 h3 h4
 simp only [Bool.not_eq_true',Bool.not_eq_false] at h1 h2
 refine .inr ⟨by simp [Node.yy,h1,h2],?_,by omega,rfl⟩
 rw [←iO] at h3
 intro m hm e
 exact h3 (List.any_eq_true.2 ⟨m,hm,by simp [e]⟩)
theorem Mt {name:aQ} {ps:List Place} (h:∀x∈ps,x.node≠name) (v:bO×Bool):left name ps v=v:=by
 unfold left
 induction ps generalizing v with
 |nil=>rfl
 |cons x r ih=>
  rw [List.foldl_cons,show cI name v x=v by simp [cI,h x (by simp)]]
  exact ih (fun y hy=>h y (by simp [hy])) v
theorem UZ {p:cC} (h:p.ok) (hw:p.w) {n:Node} (hc:n.cap.w):(qf p n).1.ok∧(qf p n).1.w:=by
 rcases tg p n with ⟨e,_⟩|⟨h1,h2,h3,e⟩
 ·rw [e];exact ⟨h,hw⟩
 rw [e]
 have ha:Ja (p.nodes.take (pat p.nodes n.name)++{n with up:=true}::p.nodes.drop (pat p.nodes n.name)):=Sm (x:={n with up:=true}) h.xM h2
 refine ⟨⟨ha,?_,?_,?_,?_⟩,⟨?_,hw.v⟩⟩
 ·intro m hm;rcases yQ.1 hm with hm|rfl
  ·exact h.yy m hm
  exact h1
 ·intro m hm
  show (cE m.name (p.nodes.take (pat p.nodes n.name)++{n with up:=true}::p.nodes.drop (pat p.nodes n.name)) p.places).2=true
  rw [gP ha hm]
  rcases yQ.1 hm with hm|rfl
  ·have:=h.free m hm;rwa [gP h.xM hm] at this
  rw [Mt]
  intro x hx e
  obtain ⟨m,hm,em⟩:=h.here x hx
  exact h2 m hm (by rw [em,e])
 ·have:=(GD p.nodes n.name).1;simp;omega
 ·intro x hx
  obtain ⟨m,hm,em⟩:=h.here x hx
  exact ⟨m,yQ.2 (.inl hm),em⟩
 intro m hm;rcases yQ.1 hm with hm|rfl
 ·exact hw.cap m hm
 exact hc
def Sn:aQ:=[122,111,110,101]
def qo (p:cC) (bK:Int):cC:=⟨p.nodes,p.places.filter (fun x=>!decide (x.bK=bK))⟩
theorem Le:cC.ok ⟨[],[]⟩:=⟨List.Pairwise.nil,by simp,by simp,by simp,by simp⟩
theorem Pq:cC.w ⟨[],[]⟩:=⟨by simp,by simp⟩
theorem wi {α β:Type} {P:α→Prop} {f:α→β→α} (hf:∀a b,P a→P (f a b)):∀(l:List β) (a:α),P a→P (l.foldl f a)
 |[],_,h=>h
 |b::r,a,h=>wi hf r (f a b) (hf a b h)
structure Jb where
 id:Int
 x:Ask
 runs:Bool
 left:Int
deriving DecidableEq
def Jb.zero:Jb:=⟨0,Ask.zero,false,0⟩
instance:Inhabited Jb:=⟨Jb.zero⟩
structure dW where
 round:Int
 id:Int
 kind:Int
deriving DecidableEq
instance:Inhabited dW:=⟨⟨0,0,0⟩⟩
structure BS where
 first:Int
 l:List dW
deriving DecidableEq
structure bg where
 round:Int
 next:Int
 bf:cC
 tree:List bw
 av:List Jb
 queue:List cj
 ev:BS
 au:BS
def dW.cells (n:dW):List D:=[.int .u64 n.round,.int .u64 n.id,.int .i64 n.kind]
def Jb.cells (j:Jb):List D:=[.int .u64 j.id,.str j.x.path,.int .u64 j.x.gu.a,.int .u64 j.x.gu.b,.int .u64 j.x.gu.c,.int .u64 j.x.gu.d,.int .i64 j.x.count,.int .i64 j.x.prio,.int .i64 j.x.fG,.sl (j.x.ct.map Term.cells),.bool j.runs,.int .i64 j.left]
def bg.zero:bg:=⟨0,0,⟨[],[]⟩,[],[],[],⟨0,[]⟩,⟨0,[]⟩⟩
def BT:bg:={bg.zero with next:=1,tree:=[⟨[],bO.zero,bO.zero⟩]}
def D7 (l:List Jb) (id:Int):Int:=idxOf (fun j=>decide (j.id=id)) l
def bI (l:List Jb) (id:Int):Jb×Bool:=match l.find? (fun j=>decide (j.id=id)) with
 |some j=>(j,true)
 |none=>(Jb.zero,false)
def u64 (n:Int):Int:=n%18446744073709551616
def tell (x:BS) (n:dW):BS:=if 32<(x.l++[n]).length then ⟨u64 (x.first+1),(x.l++[n]).drop 1⟩ else ⟨x.first,x.l++[n]⟩
def jE (t:List bw) (p:aQ):Bool:=!((mg p++[[]]).any fun q=>!(qn t q).2)
def iI (s:bg) (id kind:Int):bg:={s with ev:=tell s.ev ⟨s.round,id,kind⟩}
def cW (s:bg) (x:Ask):bg×Int×Int:=
 if eO x≠0 then (s,0,eO x) else
 if !jE s.tree x.path then (s,0,7) else
 if 32≤s.av.length∨s.next=18446744073709551615 then (s,0,9) else
 if (jU s.queue ⟨s.next,x.prio⟩).2≠0 then (s,0,(jU s.queue ⟨s.next,x.prio⟩).2) else
 (iI {s with queue:=(jU s.queue ⟨s.next,x.prio⟩).1,av:=s.av++[⟨s.next,x,false,0⟩],next:=u64 (s.next+1)} s.next 1,s.next,0)
def CK (s:bg) (k:Nat) (j:Jb):bg:={s with av:=s.av.set k j}
def jF (s:bg) (k:Nat) (j:Jb) (id:Int) (nodes:List aQ):bg×Int:=
 if j.runs then (s,15) else if (nodes.length:Int)≠j.x.count then (s,1) else
 if !(cU j.x).2 then (s,5) else
 if (cY s.tree j.x.path (cU j.x).1).2≠0 then (s,(cY s.tree j.x.path (cU j.x).1).2) else
 if (sZ s.bf id nodes j.x.gu).2≠0 then (s,(sZ s.bf id nodes j.x.gu).2) else
 (iI (CK {s with tree:=(cY s.tree j.x.path (cU j.x).1).1,bf:=(sZ s.bf id nodes j.x.gu).1,queue:=(Ao s.queue id).1} k {j with runs:=true,left:=j.x.fG}) id 2,0)
def bZ (s:bg) (id:Int) (nodes:List aQ):bg×Int:=match s.av.findIdx? (fun j=>decide (j.id=id)) with
 |none=>(s,7)
 |some k=>jF s k (s.av.getD k Jb.zero) id nodes
def mS (s:bg) (j:Jb):bg:=
 {s with tree:=(if (cU j.x).2 then (rC s.tree j.x.path (cU j.x).1).1 else s.tree),bf:=qo s.bf j.id}
def gB (s:bg) (id kind:Int):bg×Int:=match s.av.findIdx? (fun j=>decide (j.id=id)) with
 |none=>(s,7)
 |some k=>if !(s.av.getD k Jb.zero).runs then (s,15) else
  (iI (CK {mS s (s.av.getD k Jb.zero) with queue:=(jU s.queue ⟨id,(s.av.getD k Jb.zero).x.prio⟩).1} k {s.av.getD k Jb.zero with runs:=false,left:=0}) id kind,0)
def send (s:bg) (id kind:Int):bg×Int:=match s.av.findIdx? (fun j=>decide (j.id=id)) with
 |none=>(s,7)
 |some k=>(iI {(if (s.av.getD k Jb.zero).runs then mS s (s.av.getD k Jb.zero) else {s with queue:=(Ao s.queue id).1}) with av:=s.av.eraseIdx k} id kind,0)
end Dem
end
section
open Go Go.Proofs Go.ChangeShapes Go.WideShapes Go.RowKit
namespace Dem
theorem trodAll_nil {H:Type} {enc:TypeId×Value→H} {P:Program} {W:World} {vs:List Value} {ds:List (DataW H)} {ps:List MemPlace} (h:DataW.TrodAll enc P W 0 (fun _=>true) true [] vs ds ps):vs=[]∧ds=[]:=by
 cases vs with
 |nil=>cases ds with
  |nil=>exact ⟨rfl,rfl⟩
  |cons d ds=>exact h.elim
 |cons v vs=>cases ds<;>exact h.elim
theorem trodAll_cons {H:Type} {enc:TypeId×Value→H} {P:Program} {W:World} {t:TypeId} {ts:List TypeId} {vs:List Value} {ds:List (DataW H)} {ps:List MemPlace} (h:DataW.TrodAll enc P W 0 (fun _=>true) true (t::ts) vs ds ps):
 ∃v vs' d ds' p q,vs=v::vs'∧ds=d::ds'∧DataW.Trod enc P W 0 (fun _=>true) true t v d p∧DataW.TrodAll enc P W 0 (fun _=>true) true ts vs' ds' q:=by
 cases vs with
 |nil=>cases ds<;>exact h.elim
 |cons v vs=>cases ds with
  |nil=>exact h.elim
  |cons d ds=>
   obtain ⟨p,q,h1,h2,rfl⟩:=h
   exact ⟨v,vs,d,ds,p,q,rfl,rfl,h1,h2⟩
section
variable {H:Type} {enc:TypeId×Value→H} {W:World} {v:Value} {d:DataW H} {p:List MemPlace} {base:Nat}
abbrev okW (W:World):Nat→Prop:=bz (fun _=>0) [] W (fun _=>False)
theorem U0 (W:World):∀blk,blk<W.heap.size→okW W blk:=fun blk hb=>⟨hb,fun h=>h,fun i b hb=>by simp at hb⟩
theorem Lf {α:Type} {cells:α→List D} {Q:α→Prop}:∀(es:List (List D)),(∀r∈es,∃x,r=cells x∧Q x)→∃l:List α,es=l.map cells∧∀x∈l,Q x
 |[],_=>⟨[],rfl,by simp⟩
 |r::es,h=>by
  obtain ⟨x,rfl,hx⟩:=h r (by simp)
  obtain ⟨l,rfl,hl⟩:=Lf es (fun r hr=>h r (by simp [hr]))
  exact ⟨x::l,rfl,fun y hy=>by rcases List.mem_cons.1 hy with rfl|hy;exact hx;exact hl y hy⟩
end
end Dem
end
section
open Go
namespace Dem
theorem CL (c:UInt8):∀(s:aQ),∀x∈bW c s,c ∉ x
 |[],x,h=>by simp [bW] at h;subst h;simp
 |y::ys,x,h=>by
  have ih:=CL c ys
  unfold bW at h
  split at h
  ·rcases List.mem_cons.1 h with rfl|h
   ·simp
   exact ih x h
  rename_i hy
  split at h
  ·rename_i hd r e
   rcases List.mem_cons.1 h with rfl|h
   ·have:=ih hd (by rw [e];simp)
    intro g;rcases List.mem_cons.1 g with g|g
    ·exact hy g.symm
    exact this g
   exact ih x (by rw [e];simp [h])
  simp at h;subst h
  intro g;simp at g;exact hy g.symm
theorem Ar (s:aQ):∀(x:aQ),(47:UInt8) ∉ x→bW 47 (x++47::s)=x::bW 47 s
 |[],_=>by simp [bW]
 |a::x,h=>by
  have ha:a≠47:=fun g=>h (by simp [g])
  have ih:=Ar s x (fun g=>h (by simp [g]))
  rw [List.cons_append,bW,if_neg ha,ih]
theorem nP:fk []=[]:=Lib.join_nil _
theorem rD (x:aQ):fk [x]=x:=by simp [fk,Lib.join_cons,Lib.joinTail]
theorem mT (x y:aQ) (r:List aQ):fk (x::y::r)=x++47::fk (y::r):=by
 show Lib.join (x::y::r) [47]=_
 rw [Lib.join_cons,sn]
theorem As (x:aQ):∀l:List aQ,l≠[]→fk (l++[x])=fk l++47::x
 |[],h=>absurd rfl h
 |[a],_=>by rw [List.singleton_append,mT,rD,rD]
 |a::b::l,_=>by
  have ih:=As x (b::l) (by simp)
  rw [List.cons_append] at ih
  rw [List.cons_append,List.cons_append,mT,ih,mT];simp
theorem xO:∀l:List aQ,l≠[]→(∀x∈l,(47:UInt8) ∉ x)→bW 47 (fk l)=l
 |[],h,_=>absurd rfl h
 |[x],_,h=>by rw [rD];exact Ap (List.count_eq_zero.2 (h x (by simp)))
 |x::y::r,_,h=>by
  rw [mT,Ar _ x (h x (by simp)),xO (y::r) (by simp) (fun z hz=>h z (by simp [hz]))]
theorem xP (s:aQ):parts s=[]∨(parts s=bW 47 s∧(bW 47 s).length≤3∧∀x∈bW 47 s,ej x=true):=by
 unfold parts
 split
 ·exact .inl rfl
 rename_i h
 simp only [Bool.or_eq_true,decide_eq_true_eq,List.any_eq_true,not_or] at h
 refine .inr ⟨rfl,by omega,fun x hx=>?_⟩
 cases e:ej x with
 |true=>rfl
 |false=>exact absurd ⟨x,hx,by simp [e]⟩ h.2
theorem xQ {s x:aQ} (h:x∈parts s):ej x=true:=by
 rcases xP s with e|⟨e,_,h2⟩
 ·rw [e] at h;cases h
 exact h2 x (by rw [←e];exact h)
theorem Mu {x:aQ} (h:ej x=true):x≠[]:=by
 rintro rfl;simp [ej] at h
theorem CM:parts []=[]:=by
 have:ej []=false:=by simp [ej]
 simp [parts,bW,this]
theorem parts_eq {s:aQ} {l:List aQ} (hs:bW 47 s=l) (hl:l.length≤3) (hr:l.any (fun n=>!ej n)=false):parts s=l:=by
 unfold parts;rw [hs,hr,if_neg (by simp;omega)]
theorem Jh (s:aQ) (k:Nat):parts (fk ((parts s).take k))=(parts s).take k:=by
 rcases xP s with e|⟨e,h1,h2⟩
 ·rw [e];simp [nP,CM]
 cases k with
 |zero=>simp [nP,CM]
 |succ k=>
  have hne:(parts s).take (k+1)≠[]:=by
   rw [e];have:=CB 47 s
   cases h:bW 47 s with
   |nil=>exact absurd h this
   |cons a r=>simp
  have hs:bW 47 (fk ((parts s).take (k+1)))=(parts s).take (k+1):=by
   refine xO _ hne fun x hx=>?_
   have:=List.mem_of_mem_take hx
   rw [e] at this
   exact CL 47 s x this
  have hl:((parts s).take (k+1)).length≤3:=by rw [List.length_take,e];omega
  have hr:((parts s).take (k+1)).any (fun n=>!ej n)=false:=by
   rw [List.any_eq_false];intro x hx
   rw [xQ (List.mem_of_mem_take hx)];simp
  exact parts_eq hs hl hr
def mE (P:aQ) (k:Nat):aQ:=fk ((parts P).take k)
theorem CN (P:aQ):above P=(List.range ((parts P).length+1)).map (mE P):=by
 rw [List.range_succ_eq_map,List.map_cons,List.map_map]
 have h0:mE P 0=[]:=by simp [mE,nP]
 rw [above,h0];rfl
theorem rE {P q:aQ}:q∈above P↔∃k,k≤(parts P).length∧q=mE P k:=by
 rw [CN,List.mem_map]
 constructor
 ·rintro ⟨k,h,rfl⟩;rw [List.mem_range] at h;exact ⟨k,by omega,rfl⟩
 rintro ⟨k,h,rfl⟩;exact ⟨k,List.mem_range.2 (by omega),rfl⟩
theorem CO (P:aQ):mE P 0=[]:=by simp [mE,nP]
theorem GF (P:aQ) (k:Nat):parts (mE P k)=(parts P).take k:=Jh P k
theorem So {P:aQ} {i k:Nat} (h:i≤k):mE (mE P k) i=mE P i:=by
 show fk ((parts (mE P k)).take i)=fk ((parts P).take i)
 rw [GF,List.take_take,Nat.min_eq_left h]
theorem Pr {P:aQ} {k:Nat} (h:k<(parts P).length):(mE P k).length<(mE P (k+1)).length:=by
 have e:(parts P).take (k+1)=(parts P).take k++[(parts P)[k]]:=by rw [List.take_add_one,List.getElem?_eq_getElem h];rfl
 have hne:=Mu (xQ (List.getElem_mem h))
 unfold mE
 rw [e]
 cases k with
 |zero=>
  simp only [List.take_zero,List.nil_append,nP,rD]
  exact List.length_pos_iff.2 hne
 |succ k=>
  rw [As _ _ (by intro g;have:=congrArg List.length g;simp at this;rw [this] at h;simp at h)]
  simp
theorem D8 {P:aQ} {i:Nat}:∀{j:Nat},i<j→j≤(parts P).length→(mE P i).length<(mE P j).length
 |0,h,_=>by omega
 |j+1,h,hj=>by
  have h1:=Pr (P:=P) (k:=j) (by omega)
  by_cases e:i=j
  ·rw [e];exact h1
  exact Nat.lt_trans (D8 (by omega) (by omega)) h1
theorem Ps {P:aQ} {i j:Nat} (hi:i≤(parts P).length) (hj:j≤(parts P).length) (h:mE P i=mE P j):i=j:=by
 rcases Nat.lt_trichotomy i j with g|g|g
 ·have:=D8 g hj;rw [h] at this;omega
 ·exact g
 have:=D8 g hi;rw [h] at this;omega
theorem Pt {P:aQ} {k:Nat} (h:k≤(parts P).length):above (mE P k)=(List.range (k+1)).map (mE P):=by
 rw [CN,GF,List.length_take,Nat.min_eq_left h]
 refine List.map_congr_left fun i hi=>?_
 rw [List.mem_range] at hi
 exact So (by omega)
theorem wj {P:aQ} {k:Nat} (h:k≤(parts P).length):parent (mE P k)=mE P (k-1):=by
 unfold parent
 rw [Pt h]
 simp only [lgM,List.length_range]
 rw [List.getD_eq_getElem?_getD,List.getElem?_map,List.getElem?_range (by omega)]
 simp [show k+1-2=k-1 by omega]
theorem Ji {P q r:aQ} (hq:q∈above P) (hr:r∈above P) (q0:q≠[]) (r0:r≠[]) (h:parent q=parent r):q=r:=by
 obtain ⟨i,hi,rfl⟩:=rE.1 hq
 obtain ⟨j,hj,rfl⟩:=rE.1 hr
 rw [wj hi,wj hj] at h
 have i0:i≠0:=by rintro rfl;exact q0 (CO P)
 have j0:j≠0:=by rintro rfl;exact r0 (CO P)
 have:=Ps (by omega) (by omega) h
 rw [show i=j by omega]
theorem Jj {P q:aQ} (hq:q∈above P):parent q∈above P:=by
 obtain ⟨i,hi,rfl⟩:=rE.1 hq
 rw [wj hi];exact rE.2 ⟨i-1,by omega,rfl⟩
theorem CP (P:aQ):[]∈above P:=by simp [above]
theorem xR {P q:aQ}:(decide (q=[])||nj q P)=decide (q∈above P):=by
 by_cases h:q=[]
 ·subst h;simp [CP]
 simp only [above,List.mem_cons,h,false_or,decide_false,Bool.false_or,nj]
 by_cases g:q∈mg P
 ·simp [g]
 simp [g]
structure iv where
 bK:Int
 cnt:Int
def iv.cells (m:iv):List D:=[.int .u64 m.bK,.int .i64 m.cnt]
def nQ (l:List Int):List Int:=l.mergeSort (fun x y=>decide (x≤y))
theorem At {l m:List Int} (hl:l.Pairwise (fun x y=>x≤y)) (hm:m.Pairwise (fun x y=>x≤y)) (h:l.Perm m):l=m:=
 h.eq_of_pairwise (fun a b _ _ h1 h2=>Int.le_antisymm h1 h2) hl hm
theorem ki (l:List Int):(nQ l).Perm l:=List.mergeSort_perm _ _
@[simp] theorem D9 (l:List Int):(nQ l).length=l.length:=(ki l).length_eq
theorem rF (l:List Int):(nQ l).Pairwise (fun x y=>x≤y):=by
 have:=List.pairwise_mergeSort (le:=fun x y:Int=>decide (x≤y)) (by intro a b c;simp;omega) (by intro a b;simp;omega) l
 exact this.imp (by simp)
def gC (name:aQ) (js:List Int) (x:Place):List Int:=if x.node=name then (if x.bK∈js then js else js++[x.bK]) else js
def fK (name:aQ) (ps:List Place):List Int:=ps.foldl (gC name) []
def Ea (name:aQ) (ps:List Place):List Int:=nQ (fK name ps)
def so (p:cC) (name:aQ):cC×List Int×Int:=
 if (fj p name false).2=0 then ((fj p name false).1,Ea name p.places,0) else ((fj p name false).1,[],(fj p name false).2)
def gx:List iv→Int→Int→List iv
 |[],j,c=>[⟨j,c⟩]
 |m::l,j,c=>if j=m.bK then ⟨j,c⟩::l else m::gx l j c
theorem GG:∀(l:List iv) (j:Int),vF (l.map iv.cells) (.int .u64 j)=none∨∃x,vF (l.map iv.cells) (.int .u64 j)=some [.int .i64 x]
 |[],_=>.inl rfl
 |m::l,j=>by
  simp only [List.map_cons,iv.cells,vF,oY]
  by_cases h:j=m.bK
  ·subst h;exact .inr ⟨m.cnt,by simp⟩
  have:=GG l j
  simpa [h] using this
theorem uQ:∀(l:List iv) (j c:Int),rO (l.map iv.cells) (.int .u64 j) [.int .i64 c]=(gx l j c).map iv.cells
 |[],_,_=>rfl
 |m::l,j,c=>by
  simp only [List.map_cons,gx]
  by_cases h:j=m.bK
  ·subst h;simp [iv.cells,rO,oY]
  simp only [if_neg h,List.map_cons]
  rw [←uQ l j c]
  simp [iv.cells,rO,oY,h]
theorem kJ:∀(l:List iv) (j c:Int),(gx l j c).map iv.bK=if j∈l.map iv.bK then l.map iv.bK else l.map iv.bK++[j]
 |[],_,_=>by simp [gx]
 |m::l,j,c=>by
  simp only [gx]
  by_cases h:j=m.bK
  ·subst h;simp
  rw [if_neg h,List.map_cons,List.map_cons,kJ l j c]
  by_cases h2:j∈l.map iv.bK
  ·simp [h2]
  rw [if_neg h2,if_neg (by simp only [List.mem_cons];rintro (g|g);exact h g;exact h2 g)];rfl
theorem nk (name:aQ):∀(ps:List Place) (js:List Int),js.Nodup→(ps.foldl (gC name) js).Nodup
 |[],_,h=>h
 |x::r,js,h=>by
  rw [List.foldl_cons]
  refine nk name r _ ?_
  unfold gC
  split
  ·split
   ·exact h
   rename_i g
   rw [List.nodup_append]
   exact ⟨h,by simp,fun a ha b hb e=>g (by simp at hb;rw [←hb,←e];exact ha)⟩
  exact h
theorem qp (name:aQ) (j:Int):∀(ps:List Place) (js:List Int),j∈ps.foldl (gC name) js↔j∈js∨∃x∈ps,x.node=name∧x.bK=j
 |[],js=>by simp
 |x::r,js=>by
  rw [List.foldl_cons,qp name j r]
  unfold gC
  by_cases hx:x.node=name
  ·rw [if_pos hx]
   by_cases hj:x.bK∈js
   ·rw [if_pos hj]
    constructor
    ·rintro (h|⟨y,hy,g⟩)
     ·exact .inl h
     exact .inr ⟨y,by simp [hy],g⟩
    rintro (h|⟨y,hy,g1,g2⟩)
    ·exact .inl h
    rcases List.mem_cons.1 hy with rfl|hy
    ·exact .inl (by rw [←g2];exact hj)
    exact .inr ⟨y,hy,g1,g2⟩
   rw [if_neg hj]
   constructor
   ·rintro (h|⟨y,hy,g⟩)
    ·rcases List.mem_append.1 h with h|h
     ·exact .inl h
     simp at h;exact .inr ⟨x,by simp,hx,h.symm⟩
    exact .inr ⟨y,by simp [hy],g⟩
   rintro (h|⟨y,hy,g1,g2⟩)
   ·exact .inl (by simp [h])
   rcases List.mem_cons.1 hy with rfl|hy
   ·exact .inl (by simp [g2])
   exact .inr ⟨y,hy,g1,g2⟩
  rw [if_neg hx]
  constructor
  ·rintro (h|⟨y,hy,g⟩)
   ·exact .inl h
   exact .inr ⟨y,by simp [hy],g⟩
  rintro (h|⟨y,hy,g1,g2⟩)
  ·exact .inl h
  rcases List.mem_cons.1 hy with rfl|hy
  ·exact absurd g1 hx
  exact .inr ⟨y,hy,g1,g2⟩
theorem uR (name:aQ):∀(ps:List Place) (js:List Int),js.length≤(ps.foldl (gC name) js).length
 |[],_=>Nat.le_refl _
 |x::r,js=>by
  rw [List.foldl_cons]
  refine Nat.le_trans ?_ (uR name r _)
  unfold gC
  split
  ·split<;>simp
  exact Nat.le_refl _
theorem GH (name:aQ) (ps:List Place) (k:Nat):(fK name (ps.take k)).length≤(fK name ps).length:=by
 have h:=uR name (ps.drop k) (fK name (ps.take k))
 unfold fK at h ⊢
 rwa [←List.foldl_append,List.take_append_drop] at h
theorem Pu {name:aQ} {ps:List Place} {j:Int}:j∈Ea name ps↔∃x∈ps,x.node=name∧x.bK=j:=by
 unfold Ea
 rw [(ki _).mem_iff,fK,qp];simp
theorem Pv (name:aQ) (ps:List Place):(Ea name ps).Pairwise (fun x y=>x<y):=by
 have h1:=rF (fK name ps)
 have h2:(Ea name ps).Nodup:=(ki _).nodup_iff.2 (nk name ps [] List.nodup_nil)
 exact h1.imp₂ (fun a b h g=>by have:a≠b:=g;omega) h2
def Xw (s:bg) (prev:Option Int) (j:Jb):Bool:=
 if j.id<1 then false else if s.next≤j.id then false else if (match prev with|none=>false|some p=>decide (j.id≤p)) then false else
 if eO j.x≠0 then false else if !jE s.tree j.x.path then false else
 if j.runs then decide (1≤j.left)&&decide (j.left≤j.x.fG) else decide (j.left=0)&&s.queue.contains ⟨j.id,j.x.prio⟩
def GI (s:bg):Option Int→List Jb→Bool
 |_,[]=>true
 |q,j::r=>Xw s q j&&GI s (some j.id) r
def wk (l:List Jb):Nat:=(l.filter fun j=>!j.runs).length
def Pw:List Jb→List iv
 |l=>l.foldl (fun m j=>if j.runs then gx m j.id j.x.count else m) []
def mj (m:List iv) (id:Int):Int:=match m.find? (fun x=>decide (x.bK=id)) with
 |some x=>x.cnt
 |none=>0
def yR (l:List Jb):List Place→List iv→Option (List iv)
 |[],m=>some m
 |x::r,m=>if mj m x.bK<1 then none else if x.v≠(bI l x.bK).1.x.gu then none else yR l r (gx m x.bK (mj m x.bK-1))
def Eb (s:bg):Bool:=match yR s.av s.bf.places (Pw s.av) with
 |none=>false
 |some m=>m.all fun x=>decide (x.cnt=0)
def CQ (p:aQ):List Jb→bO→Option bO
 |[],v=>some v
 |j::r,v=>if !j.runs then CQ p r v else if !decide (p=[])&&!nj p j.x.path then CQ p r v else
  if !(cU j.x).2||!(jR v (cU j.x).1).2 then none else CQ p r (jR v (cU j.x).1).1
def Lg (s:bg) (e:bw):Bool:=match CQ e.path s.av bO.zero with
 |none=>false
 |some v=>decide (v=e.used)
def yS (s:bg):Bool:=
 if !DW s.bf then false else if !D4 s.tree then false else if !DY s.queue then false else if 32<s.av.length then false else if s.next<1 then false else
 if 32<max s.ev.l.length s.au.l.length then false else if !GI s none s.av then false else
 decide (wk s.av=s.queue.length)&&Eb s&&!(s.tree.any fun e=>!Lg s e)
end Dem
end
