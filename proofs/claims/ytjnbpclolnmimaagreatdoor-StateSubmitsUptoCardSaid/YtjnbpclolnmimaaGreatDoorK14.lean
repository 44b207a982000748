/- Parts of a proof, joined. -/
import Derived.Test.YtjnbpclolnmimaaGreatDoorK13
import Derived.Lib.Bytealg
import Derived.Lib.Join
set_option linter.all false
set_option maxRecDepth 100000
set_option maxHeartbeats 4000000
section
open Go
namespace Dem
structure Node where
 name:aA
 cap:bz
 labels:List bR
 up:Bool
structure Place where
 bB:Int
 node:aA
 v:bz
abbrev Node.cells (x:Node):List D:=[.str x.name,.int .u64 x.cap.a,.int .u64 x.cap.b,.int .u64 x.cap.c,.int .u64 x.cap.d,.sl (x.labels.map bR.cells),.bool x.up]
abbrev Place.cells (x:Place):List D:=[.int .u64 x.bB,.str x.node,.int .u64 x.v.a,.int .u64 x.v.b,.int .u64 x.v.c,.int .u64 x.v.d]
theorem sb {α:Type} {p:α→Bool} {l:List α} (h:idxOf p l=-1):∀x∈l,p x=false:=by
 unfold idxOf at h
 split at h
 ·omega
 rename_i hn
 rw [List.findIdx?_eq_none_iff] at hn
 exact fun x hx=>by simpa using hn x hx
theorem sg {α:Type} {p:α→Bool} {l:List α} (h:idxOf p l≠-1):∃(i:Nat) (x:α),idxOf p l=i∧l[i]?=some x∧p x=true∧∀y∈l.take i,p y=false:=by
 unfold idxOf at h ⊢
 split at h
 ·rename_i k hk
  obtain ⟨hlt,hp,hb⟩:=List.findIdx?_eq_some_iff_getElem.1 hk
  refine ⟨k,l[k],rfl,by simp [hlt],hp,?_⟩
  intro y hy
  obtain ⟨j,hj⟩:=List.getElem?_of_mem hy
  rw [List.getElem?_take] at hj
  split at hj
  ·rename_i U7
   have hjl:j<l.length:=by omega
   rw [List.getElem?_eq_getElem hjl] at hj
   cases hj
   simpa using hb j U7
  cases hj
 exact absurd rfl h
theorem filter_all {α:Type} {p:α→Bool} {l:List α} (h:∀x∈l,p x=false):l.filter (fun x=>!p x)=l:=by
 rw [List.filter_eq_self]
 intro x hx;rw [h x hx];rfl
theorem lZ {α:Type} {l:List α} {i:Nat} {x:α} (h:l[i]?=some x):l.take (i+1)=l.take i++[x]:=by
 rw [List.take_add_one,h];rfl
def Node.zero:Node:=⟨[],bz.zero,[],false⟩
def fV (name:aA) (l:List Node):Node×Bool:=match l.find? (fun x=>decide (x.name=name)) with
 |some x=>(x,true)
 |none=>(Node.zero,false)
theorem MV {name:aA} {l:List Node} (h:idxOf (fun x=>decide (x.name=name)) l=-1):fV name l=(Node.zero,false):=by
 have hn:=sb h
 have:l.find? (fun x=>decide (x.name=name))=none:=by rw [List.find?_eq_none];intro x hx;rw [hn x hx];simp
 unfold fV;rw [this]
theorem EG {α:Type} {p:α→Bool}:∀{l:List α} {i:Nat} {x:α},l[i]?=some x→p x=true→(∀y∈l.take i,p y=false)→l.find? p=some x
 |[],_,_,h,_,_=>by simp at h
 |y::r,0,x,h,hp,_=>by simp at h;subst h;simp [hp]
 |y::r,i+1,x,h,hp,hb=>by
  have hy:p y=false:=hb y (by simp)
  simp only [List.getElem?_cons_succ] at h
  rw [List.find?_cons,hy]
  exact EG h hp fun z hz=>hb z (by simp [hz])
theorem MW {name:aA} {l:List Node} (h:idxOf (fun x=>decide (x.name=name)) l≠-1):∃(i:Nat) (x:Node),idxOf (fun x=>decide (x.name=name)) l=i∧l[i]?=some x∧fV name l=(x,true):=by
 obtain ⟨i,x,h1,h2,h3,h4⟩:=sg h
 refine ⟨i,x,h1,h2,?_⟩
 unfold fV;rw [EG h2 h3 h4]
def dy (name:aA) (s:bz×Bool) (x:Place):bz×Bool:=if s.2&&decide (x.node=name) then fY s.1 x.v else s
def gv (name:aA) (l:List Node) (ps:List Place):bz×Bool:=
 let s:=ps.foldl (dy name) ((fV name l).1.cap,(fV name l).2)
 if s.2 then s else (bz.zero,false)
def pR (name:aA) (v:bz) (l:List Node) (ps:List Place):Int:=
 if !(fV name l).2 then 7 else if !(fV name l).1.up then 12 else if !(gv name l ps).2||!mK v (gv name l ps).1 then 11 else 0
structure cQ where
 nodes:List Node
 places:List Place
deriving instance DecidableEq for Place
deriving instance DecidableEq for Node
theorem nG {x y:bz}:x=y↔x.a=y.a∧x.b=y.b∧x.c=y.c∧x.d=y.d:=by cases x;cases y;simp
theorem SK {x y:bR}:x=y↔x.key=y.key∧x.value=y.value:=by cases x;cases y;simp
theorem PX {x y:Place}:x=y↔x.bB=y.bB∧x.node=y.node∧x.v=y.v:=by cases x;cases y;simp
instance:Inhabited bz:=⟨bz.zero⟩
instance:Inhabited Node:=⟨Node.zero⟩
instance:Inhabited Place:=⟨⟨0,[],bz.zero⟩⟩
instance:Inhabited bR:=⟨⟨[],[]⟩⟩
theorem bV {α:Type} {l:List α} {k:Nat} {x:α} (h:l[k]?=some x):l.drop k=x::l.drop (k+1):=by
 obtain ⟨hk,rfl⟩:=List.getElem?_eq_some_iff.1 h
 exact List.drop_eq_getElem_cons hk
structure cw where
 node:aA
 free:bz
 labels:List bR
theorem SM {x y:Node}:x=y↔x.name=y.name∧x.cap=y.cap∧x.labels=y.labels∧x.up=y.up:=by cases x;cases y;simp
def fJ (l:List Node) (bB:Int) (v:bz):List aA→List Place→Option Int×List Place
 |[],ps=>(none,ps)
 |n::r,ps=>if pR n v l ps≠0 then (some (pR n v l ps),ps) else fJ l bB v r (ps++[⟨bB,n,v⟩])
def wP (p:cQ) (bB:Int) (names:List aA) (v:bz):cQ×Int:=
 match (fJ p.nodes bB v names p.places).1 with
 |some e=>(p,e)
 |none=>(⟨p.nodes,(fJ p.nodes bB v names p.places).2⟩,0)
theorem cS {α:Type} {p:α→Bool} {l:List α} {r:Int} (h:r=idxOf p l):(r=-1∧l.findIdx? p=none∧l.find? p=none)∨∃(i:Nat) (x:α),r=i∧i<l.length∧l[i]?=some x∧p x=true∧l.findIdx? p=some i∧l.find? p=some x:=by
 by_cases hn:idxOf p l=-1
 ·have hno:=sb hn
  refine .inl ⟨by rw [h,hn],?_,?_⟩
  ·rw [List.findIdx?_eq_none_iff];intro x hx;simp [hno x hx]
  rw [List.find?_eq_none];intro x hx;simp [hno x hx]
 obtain ⟨i,x,h1,h2,h3,h4⟩:=sg hn
 refine .inr ⟨i,x,by rw [h,h1],(List.getElem?_eq_some_iff.1 h2).1,h2,h3,?_,EG h2 h3 h4⟩
 unfold idxOf at h1
 split at h1
 ·rename_i k hk;rw [hk];congr 1;omega
 omega
def sY (l:List Node) (ps:List Place) (n:Node):Option cw:=if (gv n.name l ps).2&&n.up then some ⟨n.name,(gv n.name l ps).1,n.labels⟩ else none
def EH (q:Option aA) (x:aA):Bool:=match q with|none=>true|some q=>!sle x q
def iU (l:List Node) (ps:List Place):Option aA→List Node→Bool
 |_,[]=>true
 |q,n::r=>(gv n.name l ps).2&&dU n.name&&oY n.labels&&EH q n.name&&iU l ps (some n.name) r
def AX (l:List Node) (x:Place):Bool:=!(l.any fun n=>decide (n.name=x.node))
def nH (p:cQ):Bool:=iU p.nodes p.places none p.nodes&&decide (p.nodes.length≤16)&&!(p.places.any (AX p.nodes))
def oh (l:List Node) (k:Nat):Option aA:=match k with
 |0=>none
 |k+1=>(l[k]?).map (·.name)
theorem Dc {l:List Node} {k:Nat} {x:aA}:EH (oh l k) x=(decide (k=0)||match l[k-1]? with|none=>true|some y=>!sle x y.name):=by
 cases k with
 |zero=>rfl
 |succ k=>simp only [oh,EH];cases h:l[k]?<;>simp [h]
def Node.sm (x:Node):Prop:=x.name.length<9223372036854775807∧x.labels.length<1000000000∧∀p∈x.labels,p.sm
def pat (l:List Node) (nm:aA):Nat:=match l.findIdx? (fun o=>!Op.bytesLess o.name nm) with
 |some k=>k
 |none=>l.length
def qZ (p:cQ) (n:Node):cQ×Int:=
 if !dU n.name then (p,6) else if !oY n.labels then (p,2) else if decide (0≤idxOf (fun x=>decide (x.name=n.name)) p.nodes) then (p,8) else if 16≤p.nodes.length then (p,9) else
 (⟨p.nodes.take (pat p.nodes n.name)++{n with up:=true}::p.nodes.drop (pat p.nodes n.name),p.places⟩,0)
end Dem
end
section
open Go Dem Go.Proofs
namespace Dem
abbrev aV (s:aA):List D:=[.str s]
def mR (r:Int):AV:=bc r
def cu (r:Bool):AV:=BL r
def sK (r:aA):AV:=ST r
def Yp (r:bz×Bool):AV:=.dA [V4 r.1.a r.1.b r.1.c r.1.d,BL r.2]
def Node.aK (t:Th) (x:Node):List D:=[.str x.name,.int .u64 x.cap.a,.int .u64 x.cap.b,.int .u64 x.cap.c,.int .u64 x.cap.d,.sl (t _ fun _=>x.labels.map bR.cells),.bool x.up]
def Place.aK (_:Th) (x:Place):List D:=[.int .u64 x.bB,.str x.node,.int .u64 x.v.a,.int .u64 x.v.b,.int .u64 x.v.c,.int .u64 x.v.d]
def PY (t:Th) (x:Node):AV:=.agg [ST x.name,ax x.cap.a,ax x.cap.b,ax x.cap.c,ax x.cap.d,SL (t _ fun _=>x.labels.map bR.cells),BL x.up]
def PZ (t:Th) (r:Node×Bool):AV:=.dA [PY t r.1,BL r.2]
def LS (t:Th) (p:cQ):AV:=.agg [SL (t _ fun _=>p.nodes.map Node.cells),SL (t _ fun _=>p.places.map Place.cells)]
def P0 (t:Th) (r:cQ×Int):AV:=.dA [LS t r.1,bc r.2]
def Hg (t:Th) (l:List aA):AV:=SL (t _ fun _=>l.map aV)
def eR (_:Th) (s:aA):List D:=[.str s]
theorem Cs {t:Th} (ht:TT t) {α:Type} {l:List α} {cells cT:α→List D} {es:List (List D)} (aD:es=l.map cells) {z:Int} {i n:Nat} {x:α} {K:List D→Prop} (hx:l[i]?=some x) (hz:z=i) (hn:∀x,(cells x).length=n) (hT:∀x,cells x=cT x)
 (hK:K (cT x)):nQ true (t Prop fun _=>0≤z∧z<es.length∧∀r∈es,r.length=n) (t _ fun _=>es.getD z.toNat []) K:=by
 have hi:=(List.getElem?_eq_some_iff.1 hx).1
 refine dS ht aD (by omega) (by omega) hn hT ?_
 intro y hy
 rw [hz,Int.toNat_natCast,hx] at hy
 cases hy;exact hK
theorem AY {α:Type} {l:List α} {cells:α→List D} {u:List (List D)} (hu:u=l.map cells) {row:List D} {sz b:Nat} (hn:∀x,(cells x).length=sz) (hr:row.length=sz) (hl:l.length<1000000000) (hb:b≤10000):
 (u.length+[row].length)*b≤140737488355328∧∀r∈u++[row],r.length=sz:=by
 refine ⟨?_,?_⟩
 ·rw [hu,lgM]
  exact Nat.le_trans (Nat.mul_le_mul (show l.length+[row].length≤1000000000 by simp;omega) hb) (by decide)
 intro r hr'
 rcases List.mem_append.1 hr' with h|h
 ·rw [hu] at h;obtain ⟨y,_,rfl⟩:=List.mem_map.1 h;exact hn y
 simp at h;subst h;exact hr
def cw.cells (x:cw):List D:=[.str x.node,.int .u64 x.free.a,.int .u64 x.free.b,.int .u64 x.free.c,.int .u64 x.free.d,.sl (x.labels.map bR.cells)]
def cw.aK (t:Th) (x:cw):List D:=[.str x.node,.int .u64 x.free.a,.int .u64 x.free.b,.int .u64 x.free.c,.int .u64 x.free.d,.sl (t _ fun _=>x.labels.map bR.cells)]
def VG (t:Th) (l:List cw):AV:=SL (t _ fun _=>l.map cw.cells)
theorem vv {k:Nat} (h:0<k) (h2:k<9223372036854775807):IntKind.i64.wrap ((k:Int)-1)=((k-1:Nat):Int):=by rw [wrap64 (by omega) (by omega)];omega
theorem Hh {t:Th} (ht:TT t) {α:Type} [Inhabited α] {l:List α} {cells cT:α→List D} {es:List (List D)} (aD:es=l.map cells) {g:Bool} {G:Prop} {z:Int} (i:Nat) {n:Nat} {K:List D→Prop} (hg:g=true→G) (hi:g=true→z=i∧i<l.length) (hn:∀x,(cells x).length=n) (hT:∀x,cells x=cT x)
 (hK:∀x,(g=true→l[i]?=some x)→K (cT x)):nQ g (G∧t Prop fun _=>0≤z∧z<es.length∧∀r∈es,r.length=n) (t _ fun _=>es.getD z.toNat []) K:=by
 cases W7:g with
 |true=>
  subst W7
  obtain ⟨h1,h2⟩:=hi rfl
  refine PM (cT l[i]) (fun _=>⟨⟨hg rfl,?_⟩,?_⟩) (hK _ (fun _=>List.getElem?_eq_getElem h2))
  ·simp only [ht];refine ⟨by omega,by rw [aD,lgM];omega,?_⟩
   rw [aD];intro r hr;obtain ⟨y,_,rfl⟩:=List.mem_map.1 hr;exact hn y
  simp only [ht];rw [h1,aD,←hT];simp [h2]
 |false=>
  subst W7
  exact PM (cT default) (fun h=>Bool.noConfusion h) (hK default (fun h=>Bool.noConfusion h))
theorem oZ {P:Program} {G:Nat→Option (List D)} {f:Nat} {args args':List AV} {bx aF:List ar} {res:ff} (h:∀β w ok vs,aj β bx w ok args vs→aj β bx w ok args' vs) (hc:aZ P G f args' bx res aF):aZ P G f args bx res aF:=
 fun β w vs X cx hx=>hc β w vs X cx (h _ _ _ _ hx)
theorem LU {β:Nat→Nat} {bx:List ar} {w:World} {ok:Nat→Prop} {es:List (List D)} {u:Value} (h:ah β bx w ok (.cl es) u):ah β bx w ok (.d (.sl es)) u:=by
 simp only [ah,aH] at h ⊢
 obtain ⟨base,h1,h2⟩:=h
 exact ⟨base,_,h1,Nat.le_refl _,h2⟩
abbrev small:Nat:=9223372036854775807
end Dem
end
section
open Go
namespace Dem
def Ot (u:Int) (b:UInt8) (j:Nat):Int:=u+(((b.toNat%128)*2^(7*j)%18446744073709551616:Nat):Int)
def iV:Nat→Nat→aA→Int→Option (Int×Nat)
 |0,_,_,_=>none
 |_+1,_,[],_=>none
 |n+1,j,b::r,u=>if b.toNat<128 then some (Ot u b j,j+1) else iV n (j+1) r (Ot u b j)
def rf (s:aA) (p:Int):Option (Int×Nat):=if p<0∨(s.length:Int)≤p then none else iV 10 0 (s.drop p.toNat) 0
structure zq where
 u:Int
 next:Int
 ok:Bool
def zq.no:zq:=⟨0,0,false⟩
def bE (s:aA) (p:Int):zq:=match rf s p with
 |some (u,c)=>if eg u=(s.drop p.toNat).take c then ⟨u,p+c,true⟩ else zq.no
 |none=>zq.no
theorem VH {a b i:Nat} (h:b<2^i):b ||| (2^i*a)=b+2^i*a:=by
 rw [Nat.or_comm,←Nat.two_pow_add_eq_or_of_lt h,Nat.add_comm]
end Dem
namespace Dem
theorem Yq (b:UInt8):IntKind.u8.wrap ((BitVec.ofInt IntKind.u8.bits (b.toNat:Int) &&& ~~~BitVec.ofInt IntKind.u8.bits 128).toNat:Int)=((b.toNat%128:Nat):Int):=by
 have key:∀n:Nat,n<256→IntKind.u8.wrap ((BitVec.ofInt IntKind.u8.bits (n:Int) &&& ~~~BitVec.ofInt IntKind.u8.bits 128).toNat:Int)=((n%128:Nat):Int):=by decide
 exact key _ b.toNat_lt
theorem bI (x:Int):IntKind.u64.wrap x=x%18446744073709551616:=by simp [IntKind.wrap,IntKind.signed,IntKind.bits]
theorem bY {x:Int} (h0:-9223372036854775808≤x) (h1:x<9223372036854775808):IntKind.i64.wrap x=x:=by
 simp [IntKind.wrap,IntKind.signed,IntKind.bits];omega
theorem aav {i p:Int} {j:Nat} (hi:i=p+j) (hj:j<10):0≤IntKind.i64.wrap (7*IntKind.i64.wrap (i-p)):=by
 have e:i-p=j:=by omega
 rw [e,bY (x:=(j:Int)) (by omega) (by omega),bY (by omega) (by omega)];omega
theorem yo (c j:Nat) (hj:j<10):∃y,c*2^(7*j)%18446744073709551616=2^(7*j)*y∧2^(7*j)*y+2^(7*j)≤18446744073709551616:=by
 have h64:(18446744073709551616:Nat)=2^(7*j)*2^(64-7*j):=by rw [←Nat.pow_add,show 7*j+(64-7*j)=64 by omega]
 refine ⟨c%2^(64-7*j),?_,?_⟩
 ·rw [h64,Nat.mul_comm c,Nat.mul_mod_mul_left]
 rw [h64,←Nat.mul_succ];exact Nat.mul_le_mul_left _ (Nat.mod_lt _ (Nat.two_pow_pos _))
theorem EI {u:Int} {b:UInt8} {j:Nat} (hj:j<10) (hu:0≤u∧u<2^(7*j)∧u<18446744073709551616):0≤Ot u b j∧Ot u b j<2^(7*(j+1))∧Ot u b j<18446744073709551616:=by
 obtain ⟨h0,h1,_⟩:=hu
 obtain ⟨v,rfl⟩:=Int.eq_ofNat_of_zero_le h0
 have h1:v<2^(7*j):=by exact_mod_cast h1
 obtain ⟨y,e1,e2⟩:=yo (b.toNat%128) j hj
 have h3:b.toNat%128*2^(7*j)%18446744073709551616≤127*2^(7*j):=Nat.le_trans (Nat.mod_le _ _) (Nat.mul_le_mul_right _ (by omega))
 have h4:(2:Nat)^(7*(j+1))=128*2^(7*j):=by rw [show 7*(j+1)=7+7*j by omega,Nat.pow_add]
 unfold Ot
 refine ⟨by omega,?_,by omega⟩
 have:v+b.toNat%128*2^(7*j)%18446744073709551616<2^(7*(j+1)):=by omega
 exact_mod_cast this
theorem JK {u i p:Int} {b:UInt8} {j:Nat} (hi:i=p+j) (hj:j<10) (hu:0≤u∧u<2^(7*j)∧u<18446744073709551616):
 IntKind.u64.wrap ((BitVec.ofInt IntKind.u64.bits u ||| BitVec.ofInt IntKind.u64.bits (IntKind.u64.wrap (IntKind.u64.wrap (IntKind.u8.wrap ((BitVec.ofInt IntKind.u8.bits (b.toNat:Int) &&& ~~~BitVec.ofInt IntKind.u8.bits 128).toNat:Int))*2^(min (IntKind.i64.wrap (7*IntKind.i64.wrap (i-p))).toNat IntKind.u64.bits)))).toNat:Int)=Ot u b j:=by
 have hb:=EI (b:=b) hj hu
 obtain ⟨h0,h1,h2⟩:=hu
 have e:i-p=j:=by omega
 rw [e,bY (x:=(j:Int)) (by omega) (by omega),bY (x:=7*(j:Int)) (by omega) (by omega),Yq,bI ((b.toNat%128:Nat):Int)]
 have e2:(7*(j:Int)).toNat=7*j:=by omega
 have e3:min (7*j) IntKind.u64.bits=7*j:=by show min (7*j) 64=7*j;omega
 have e4:((b.toNat%128:Nat):Int)%18446744073709551616=((b.toNat%128:Nat):Int):=by omega
 rw [e2,e3,e4]
 have e5:(((b.toNat%128:Nat):Int)*2^(7*j))=((b.toNat%128*2^(7*j):Nat):Int):=by push_cast;rfl
 rw [e5,bI ((b.toNat%128*2^(7*j):Nat):Int)]
 obtain ⟨y,g1,g2⟩:=yo (b.toNat%128) j hj
 have e6:(((b.toNat%128*2^(7*j):Nat):Int))%18446744073709551616=((2^(7*j)*y:Nat):Int):=by rw [←g1];rfl
 rw [e6]
 obtain ⟨v,rfl⟩:=Int.eq_ofNat_of_zero_le h0
 have h1:v<2^(7*j):=by exact_mod_cast h1
 have e7:(BitVec.ofInt IntKind.u64.bits (v:Int) ||| BitVec.ofInt IntKind.u64.bits ((2^(7*j)*y:Nat):Int)).toNat=v+2^(7*j)*y:=by
  show (BitVec.ofInt 64 (v:Int) ||| BitVec.ofInt 64 ((2^(7*j)*y:Nat):Int)).toNat=v+2^(7*j)*y
  rw [BitVec.toNat_or,BitVec.toNat_ofInt,BitVec.toNat_ofInt,←VH h1]
  congr 1<;>omega
 rw [e7,bI]
 unfold Ot
 rw [g1]
 omega
theorem AZ {s:aA} {a j n:Nat} {u:Int} (hj:a+j<s.length) (hn:0<n):
 iV n j (s.drop (a+j)) u=if (s.getD (a+j) 0).toNat<128 then some (Ot u (s.getD (a+j) 0) j,j+1) else iV (n-1) (j+1) (s.drop (a+(j+1))) (Ot u (s.getD (a+j) 0) j):=by
 obtain ⟨m,rfl⟩:∃m,n=m+1:=⟨n-1,by omega⟩
 rw [List.drop_eq_getElem_cons hj,iV]
 have e:s.getD (a+j) 0=s[a+j]:=by simp [hj]
 rw [e];rfl
theorem JL {s:aA} {p:Int} {a j n:Nat} {u:Int} (ha:p=a) (hj:a+j<s.length) (hn:0<n) (j4:iV 10 0 (s.drop a) 0=iV n j (s.drop (a+j)) u) (hb:(s.getD (a+j) 0).toNat<128):
 rf s p=some (Ot u (s.getD (a+j) 0) j,j+1):=by
 rw [rf,if_neg (by omega),ha,Int.toNat_natCast,j4,AZ hj hn,if_pos hb]
theorem MX {s:aA} {p:Int} {a j n:Nat} {u:Int} (ha:p=a) (hj:s.length≤a+j∨n=0) (j4:iV 10 0 (s.drop a) 0=iV n j (s.drop (a+j)) u):rf s p=none:=by
 rw [rf]
 split
 ·rfl
 rw [ha,Int.toNat_natCast,j4]
 rcases hj with hj|rfl
 ·rw [List.drop_eq_nil_of_le hj];cases n<;>rfl
 rfl
end Dem
namespace Dem
def nI (s:aA) (p u next:Int):zq:=if 0<next∧eg u=(s.drop p.toNat).take (next.toNat-p.toNat) then ⟨u,next,true⟩ else zq.no
theorem JM {s:aA} {p i:Int} {a j n:Nat} {u:Int} (ha:p=a) (hi:i=p+j) (hj:a+j<s.length) (hn:0<n) (j4:iV 10 0 (s.drop a) 0=iV n j (s.drop (a+j)) u) (hb:((s.getD i.toNat 0).toNat:Int)<128):
 bE s p=nI s p (Ot u (s.getD i.toNat 0) j) (i+1):=by
 have e0:i.toNat=a+j:=by omega
 rw [e0] at hb ⊢
 rw [bE,JL ha hj hn j4 (by omega),nI]
 have e5:(i+1).toNat-p.toNat=j+1:=by omega
 have e6:0<i+1:=by omega
 have e7:p+((j+1:Nat):Int)=i+1:=by omega
 simp only [e5,e6,true_and,e7]
end Dem
namespace Dem
theorem Hi:∀(n j:Nat) (r:aA) (u:Int) {u':Int} {c:Nat},n+j=10→(0≤u∧u<2^(7*j)∧u<18446744073709551616)→iV n j r u=some (u',c)→0≤u'∧u'<18446744073709551616∧j<c∧c≤j+r.length
 |0,_,_,_,_,_,_,_,h=>by simp [iV] at h
 |n+1,_,[],_,_,_,_,_,h=>by simp [iV] at h
 |n+1,j,b::r,u,u',c,hn,hu,h=>by
  have hb:=EI (b:=b) (show j<10 by omega) hu
  unfold iV at h
  split at h
  ·simp only [osI,Prod.mk.injEq] at h
   obtain ⟨rfl,rfl⟩:=h
   simp only [List.length_cons];exact ⟨hb.1,hb.2.2,by omega,by omega⟩
  have:=Hi n (j+1) r _ (by omega) hb h
  simp only [List.length_cons];omega
theorem eI {s:aA} {p:Int} (h:(bE s p).ok=true):0≤p∧p<(bE s p).next∧(bE s p).next≤s.length∧0≤(bE s p).u∧(bE s p).u<18446744073709551616:=by
 unfold bE at h ⊢
 cases hw:rf s p with
 |none=>simp [hw,zq.no] at h
 |some x=>
  obtain ⟨u,c⟩:=x
  simp only [hw] at h ⊢
  split at h
  ·rename_i he
   rw [if_pos he]
   unfold rf at hw
   split at hw
   ·simp at hw
   rename_i hp
   have hp:0≤p∧p<s.length:=by omega
   have:=Hi 10 0 _ 0 rfl (by simp) hw
   simp only [List.length_drop] at this
   refine ⟨hp.1,?_,?_,this.1,this.2.1⟩<;>simp only<;>omega
  simp [zq.no] at h
structure EJ where
 t:aA
 next:Int
 ok:Bool
def EJ.no:EJ:=⟨[],0,false⟩
def aR (s:aA) (p most:Int):EJ:=
 if (bE s p).ok=true∧0≤most∧(bE s p).u≤most∧(bE s p).u≤s.length-(bE s p).next then ⟨(s.drop (bE s p).next.toNat).take (bE s p).u.toNat,(bE s p).next+(bE s p).u,true⟩ else EJ.no
theorem Hj {s:aA} {r:zq} {most:Int} (hs:s.length<9223372036854775000) (hm:most<9223372036854775808) (h0:0≤most) (h1:0≤r.next) (h2:r.next≤s.length):
 IntKind.u64.wrap (min most (IntKind.i64.wrap ((s.length:Int)-r.next)))=min most ((s.length:Int)-r.next):=by
 rw [bY (by omega) (by omega),bI];omega
structure wQ where
 v:bz
 next:Int
 ok:Bool
def wQ.no:wQ:=⟨bz.zero,0,false⟩
def bz.put (v:bz):Nat→Int→bz
 |0,x=>{v with a:=x}
 |1,x=>{v with b:=x}
 |2,x=>{v with c:=x}
 |_,x=>{v with d:=x}
def jO (s:aA):Nat→bz→Int→wQ
 |0,v,p=>⟨v,p,true⟩
 |n+1,v,p=>if (bE s p).ok then jO s n (v.put (3-n) (bE s p).u) (bE s p).next else wQ.no
def iB (s:aA) (p:Int):wQ:=jO s 4 bz.zero p
end Dem
namespace Dem
theorem SN {s:aA} {p most:Int} {r:zq} (e:r=bE s p) (gb:r.ok=true→0≤p∧p<r.next∧r.next≤s.length∧0≤r.u∧r.u<18446744073709551616) (hs:s.length<9223372036854775000) (hm:most<9223372036854775808)
 (h:(r.ok=false∨most<0)∨IntKind.u64.wrap (min most (IntKind.i64.wrap ((s.length:Int)-r.next)))<r.u):aR s p most=EJ.no:=by
 rw [aR,if_neg]
 rw [←e]
 rintro ⟨h1,h2,h3,h4⟩
 obtain ⟨g1,g2,g3,g4,g5⟩:=gb h1
 rw [Hj hs hm h2 (by omega) g3] at h
 rcases h with (h|h)|h
 ·rw [h1] at h;cases h
 ·omega
 omega
theorem P1 {s:aA} {p most:Int} {r:zq} (e:r=bE s p) (gb:r.ok=true→0≤p∧p<r.next∧r.next≤s.length∧0≤r.u∧r.u<18446744073709551616) (hs:s.length<9223372036854775000) (hm:most<9223372036854775808)
 (h:(r.ok=true∧0≤most)∧r.u≤IntKind.u64.wrap (min most (IntKind.i64.wrap ((s.length:Int)-r.next)))):
 aR s p most=⟨fX s (some r.next) (some (IntKind.i64.wrap (r.next+IntKind.i64.wrap r.u))),IntKind.i64.wrap (r.next+IntKind.i64.wrap r.u),true⟩∧bQ s.length (some r.next) (some (IntKind.i64.wrap (r.next+IntKind.i64.wrap r.u))):=by
 obtain ⟨⟨h1,h2⟩,h3⟩:=h
 obtain ⟨g1,g2,g3,g4,g5⟩:=gb h1
 rw [Hj hs hm h2 (by omega) g3] at h3
 rw [bY (x:=r.u) (by omega) (by omega),bY (by omega) (by omega)]
 refine ⟨?_,by simp only [bQ];omega⟩
 rw [aR,if_pos (by rw [←e];exact ⟨h1,h2,by omega,by omega⟩),←e]
 have:(r.next+r.u).toNat-r.next.toNat=r.u.toNat:=by omega
 simp only [fX,this]
theorem m9 {s:aA} {n:Nat} {v:bz} {p:Int} {r:zq} (e:r=bE s p):jO s (n+1) v p=if r.ok then jO s n (v.put (3-n) r.u) r.next else wQ.no:=by rw [jO,e]
end Dem
end
section
open Go
namespace Dem
structure bw (α:Type) where
 x:α
 next:Int
 ok:Bool
def bw.nJ {α:Type}:bw (List α):=⟨[],0,false⟩
def iW (s:aA) (p:Int):bw bR:=
 if (aR s p 32).ok then ⟨⟨(aR s p 32).t,(aR s (aR s p 32).next 32).t⟩,(aR s (aR s p 32).next 32).next,(aR s (aR s p 32).next 32).ok⟩
 else ⟨⟨(aR s p 32).t,[]⟩,(aR s p 32).next,(aR s p 32).ok⟩
def gW {α:Type} (get:Int→bw α):Nat→List α→Int→bw (List α)
 |0,l,p=>⟨l,p,true⟩
 |n+1,l,p=>if (get p).ok then gW get n (l++[(get p).x]) (get p).next else bw.nJ
def fN {α:Type} (s:aA) (p most:Int) (get:Int→bw α):bw (List α):=
 if (bE s p).ok=true∧(bE s p).u≤most then gW get (bE s p).u.toNat [] (bE s p).next else bw.nJ
theorem tX {α:Type} {get:Int→bw α} {n:Nat} {l:List α} {p:Int} {r:bw α} (e:r=get p):gW get (n+1) l p=if r.ok then gW get n (l++[r.x]) r.next else bw.nJ:=by rw [gW,e]
theorem dg {s:aA} {p m:Int} (hs:s.length<9223372036854775000):0≤(aR s p m).next∧(aR s p m).next≤s.length∧(aR s p m).t.length≤s.length:=by
 unfold aR
 split
 ·rename_i h
  have:=eI h.1
  simp only [List.length_take,List.length_drop];omega
 simp [EJ.no]
theorem Hl {s:aA} {p:Int} (hs:s.length<9223372036854775000):(iW s p).next≤s.length:=by
 unfold iW;split
 ·exact (dg hs).2.1
 exact (dg hs).2.1
theorem Ho {s:aA} {p:Int} (hs:s.length<9223372036854775000):(iW s p).x.sm:=by
 have h1:=(dg (s:=s) (p:=p) (m:=32) hs).2.2
 unfold iW bR.sm;split
 ·have h2:=(dg (s:=s) (p:=(aR s p 32).next) (m:=32) hs).2.2
  exact ⟨by simp only;omega,by simp only;omega⟩
 exact ⟨by simp only;omega,by simp⟩
theorem De {α:Type} {get:Int→bw α} {q:α→Prop} (hq:∀p,q (get p).x):∀(n:Nat) (l:List α) (p:Int),(∀x∈l,q x)→∀x∈(gW get n l p).x,q x
 |0,l,p,hl=>hl
 |n+1,l,p,hl=>by
  unfold gW;split
  ·exact De hq n _ _ (by
    intro x hx;rcases List.mem_append.1 hx with h|h;· exact hl x h
    simp at h;subst h;exact hq p)
  simp [bw.nJ]
theorem A2 {α:Type} {s:aA} {p m:Int} {get:Int→bw α} {q:α→Prop} (hq:∀p,q (get p).x):∀x∈(fN s p m get).x,q x:=by
 unfold fN;split
 ·exact De hq _ _ _ (by simp)
 simp [bw.nJ]
theorem Df {α:Type} {get:Int→bw α}:∀(n:Nat) (l:List α) (p:Int),(gW get n l p).x.length≤l.length+n
 |0,l,p=>by simp [gW]
 |n+1,l,p=>by
  unfold gW;split
  ·have:=Df (get:=get) n (l++[(get p).x]) (get p).next;simp at this;omega
  simp [bw.nJ]
theorem vz {α:Type} {s:aA} {p m:Int} {get:Int→bw α}:((fN s p m get).x.length:Int)≤max m 0:=by
 unfold fN;split
 ·rename_i h
  have:=Df (get:=get) (bE s p).u.toNat [] (bE s p).next
  have h2:=eI h.1
  simp at this;omega
 simp [bw.nJ];omega
theorem Hp {α:Type} {get:Int→bw α} {L:Int} (hL:0≤L) (hg:∀p,(get p).next≤L):∀(n:Nat) (l:List α) (p:Int),p≤L→(gW get n l p).next≤L
 |0,l,p,h=>h
 |n+1,l,p,h=>by
  unfold gW;split
  ·exact Hp hL hg n _ _ (hg p)
  exact hL
theorem LV {α:Type} {s:aA} {p m:Int} {get:Int→bw α} (hg:∀p,(get p).next≤s.length):(fN s p m get).next≤s.length:=by
 unfold fN;split
 ·rename_i h
  exact Hp (by omega) hg _ _ _ (eI h.1).2.2.1
 simp [bw.nJ]
def vA (s:aA) (p:Int):bw (List bR):=if (fN s p 8 (iW s)).ok&&oY (fN s p 8 (iW s)).x then fN s p 8 (iW s) else bw.nJ
theorem Dg {s:aA}:∀(n:Nat) (v:bz) (p:Int),p≤s.length→(jO s n v p).next≤s.length
 |0,v,p,h=>h
 |n+1,v,p,h=>by
  unfold jO;split
  ·rename_i h1;exact Dg n _ _ (eI h1).2.2.1
  simp [wQ.no]
theorem sj {s:aA} {p:Int}:(iB s p).next≤s.length:=by
 unfold iB jO;split
 ·rename_i h1;exact Dg 3 _ _ (eI h1).2.2.1
 simp [wQ.no]
theorem SO {s:aA} {p:Int} (hs:s.length<9223372036854775000):(vA s p).next≤s.length:=by
 unfold vA;split
 ·exact LV (fun p=>Hl hs)
 simp [bw.nJ]
theorem SP {s:aA} {p:Int} (hs:s.length<9223372036854775000):(vA s p).x.length<1000000000∧∀q∈(vA s p).x,q.sm:=by
 unfold vA;split
 ·have:=vz (s:=s) (p:=p) (m:=8) (get:=iW s)
  exact ⟨by omega,A2 (fun p=>Ho hs)⟩
 simp [bw.nJ]
def bw.RO:bw Node:=⟨Node.zero,0,false⟩
def gK (s:aA) (p:Int):bw Node:=
 if !(aR s p 32).ok then bw.RO else
 if !(iB s (aR s p 32).next).ok then bw.RO else
 if !(vA s (iB s (aR s p 32).next).next).ok then bw.RO else
 ⟨⟨(aR s p 32).t,(iB s (aR s p 32).next).v,(vA s (iB s (aR s p 32).next).next).x,decide ((bE s (vA s (iB s (aR s p 32).next).next).next).u=1)⟩,
  (bE s (vA s (iB s (aR s p 32).next).next).next).next,(bE s (vA s (iB s (aR s p 32).next).next).next).ok&&decide ((bE s (vA s (iB s (aR s p 32).next).next).next).u≤1)⟩
def bw.VI:bw Place:=⟨⟨0,[],bz.zero⟩,0,false⟩
def kZ (s:aA) (p:Int):bw Place:=
 if !(bE s p).ok then bw.VI else
 if !(aR s (bE s p).next 32).ok then bw.VI else
 ⟨⟨(bE s p).u,(aR s (bE s p).next 32).t,(iB s (aR s (bE s p).next 32).next).v⟩,(iB s (aR s (bE s p).next 32).next).next,(iB s (aR s (bE s p).next 32).next).ok⟩
theorem LW {s:aA} {p:Int}:(bE s p).next≤s.length:=by
 cases h:(bE s p).ok with
 |true=>exact (eI h).2.2.1
 |false=>
  unfold bE at h ⊢;split at h<;>rename_i h1
  ·split at h
   ·cases h
   rename_i h2;simp only [if_neg h2];simp [zq.no]
  simp [zq.no]
theorem Hq {s:aA} {p:Int}:(gK s p).next≤s.length:=by
 unfold gK;split;· simp [bw.RO]
 split;· simp [bw.RO]
 split;· simp [bw.RO]
 exact LW
theorem P2 {s:aA} {p:Int}:(kZ s p).next≤s.length:=by
 unfold kZ;split;· simp [bw.VI]
 split;· simp [bw.VI]
 exact sj
theorem P3 {s:aA} {p:Int} (hs:s.length<9223372036854775000):(gK s p).x.sm:=by
 have z:Node.zero.sm:=⟨by simp [Node.zero],by simp [Node.zero],by simp [Node.zero]⟩
 unfold gK;split;· exact z
 split;· exact z
 split;· exact z
 have h1:=(dg (s:=s) (p:=p) (m:=32) hs).2.2
 have h2:=SP (s:=s) (p:=(iB s (aR s p 32).next).next) hs
 exact ⟨by simp only;omega,h2.1,h2.2⟩
def bw.A3:bw cQ:=⟨⟨[],[]⟩,0,false⟩
def Hr (s:aA) (p:Int):bw cQ:=
 if !(fN s p 16 (gK s)).ok then bw.A3 else
 if (fN s (fN s p 16 (gK s)).next 256 (kZ s)).ok&&nH ⟨(fN s p 16 (gK s)).x,(fN s (fN s p 16 (gK s)).next 256 (kZ s)).x⟩
 then ⟨⟨(fN s p 16 (gK s)).x,(fN s (fN s p 16 (gK s)).next 256 (kZ s)).x⟩,(fN s (fN s p 16 (gK s)).next 256 (kZ s)).next,true⟩ else bw.A3
structure Term where
 key:aA
 no:Bool
 fw:List aA
deriving DecidableEq
instance:Inhabited Term:=⟨⟨[],false,[]⟩⟩
def Term.cells (x:Term):List D:=[.str x.key,.bool x.no,.sl (x.fw.map aV)]
def yp:Option aA→List aA→Bool
 |_,[]=>true
 |q,v::r=>dU v&&EH q v&&yp (some v) r
def mright (x:Term):Bool:=if yp none x.fw then dU x.key&&decide (x.fw.length≤4) else false
def pe (l:List Term):Bool:=if l.length≤4 then !(l.any fun x=>!mright x) else false
def Hs (l:List bR) (k:aA):aA×Bool:=match l.find? (fun x=>decide (x.key=k)) with
 |some x=>(x.value,true)
 |none=>([],false)
def kS (x:Term) (l:List bR):Bool:=
 (if (Hs l x.key).2 then (if x.fw.length=0 then true else x.fw.contains (Hs l x.key).1) else false)!=x.no
def wR (x:List Term) (l:List bR):Bool:=!(x.any fun m=>!kS m l)
def ng (x:Term):aA:=bH x.key++eg (2*x.fw.length+(if x.no then 1 else 0))++(x.fw.map bH).flatten
def A4 (l:List Term):aA:=if pe l then eg l.length++(l.map ng).flatten else []
def Ht (s:aA) (p most:Int):Option (Int×Int):=if (bE s p).ok=true∧(bE s p).u≤most then some ((bE s p).u,(bE s p).next) else none
def vB (s:aA) (p:Int):Option (aA×Int):=if (aR s p 32).ok then some ((aR s p 32).t,(aR s p 32).next) else none
def jP (s:aA):Nat→List aA→Int→Option (List aA×Int)
 |0,l,p=>some (l,p)
 |n+1,l,p=>match vB s p with
  |some (x,q)=>jP s n (l++[x]) q
  |none=>none
def A5 (s:aA) (p:Int):Option (Term×Int):=match vB s p with
 |none=>none
 |some (k,q)=>match Ht s q 9 with
  |none=>none
  |some (n,r)=>match jP s (n.toNat / 2) [] r with
   |none=>none
   |some (l,e)=>some (⟨k,decide (n%2=1),l⟩,e)
def jQ (s:aA):Nat→List Term→Int→Option (List Term×Int)
 |0,l,p=>some (l,p)
 |n+1,l,p=>match A5 s p with
  |some (x,q)=>jQ s n (l++[x]) q
  |none=>none
def Dh (s:aA) (p:Int):Option (List Term×Int):=match Ht s p 4 with
 |none=>none
 |some (n,q)=>match jQ s n.toNat [] q with
  |none=>none
  |some (l,e)=>if pe l then some (l,e) else none
abbrev bz.u' (v:bz):Prop:=(0≤v.a∧v.a<18446744073709551616)∧(0≤v.b∧v.b<18446744073709551616)∧(0≤v.c∧v.c<18446744073709551616)∧(0≤v.d∧v.d<18446744073709551616)
def MY (x y:Int):Int×Bool:=if x.toNat*y.toNat<18446744073709551616 then (((x.toNat*y.toNat:Nat):Int),true) else (0,false)
def JN (v:bz) (n:Int):bz×Bool:=both (fun x _=>MY x n) v bz.zero
def ol (x y:Int):Int:=if x<y then -1 else if y<x then 1 else 0
def tY (a b:bz):Int:=
 if ol a.a b.a≠0 then ol a.a b.a else if ol a.b b.b≠0 then ol a.b b.b else if ol a.c b.c≠0 then ol a.c b.c else ol a.d b.d
structure bZ where
 id:Int
 prio:Int
deriving DecidableEq
instance:Inhabited bZ:=⟨⟨0,0⟩⟩
def bZ.cells (q:bZ):List D:=[.int .u64 q.id,.int .i64 q.prio]
def cV (a b:bZ):Bool:=decide (b.prio<a.prio)||(decide (a.prio=b.prio)&&decide (a.id<b.id))
def tZ (l:List bZ) (e:bZ):Nat:=match l.findIdx? (fun x=>cV e x) with
 |some k=>k
 |none=>l.length
def fQ (l:List bZ) (id:Int):Int:=idxOf (fun x=>decide (x.id=id)) l
def gw (e:bZ):Bool:=decide (e.prio<0)||decide (9<e.prio)
def jF (l:List bZ) (e:bZ):List bZ×Int:=
 if gw e then (l,1) else if 0≤fQ l e.id then (l,8) else if 32≤l.length then (l,9) else
 (l.take (tZ l e)++e::l.drop (tZ l e),0)
def A6 (l:List bZ) (id:Int):List bZ×Bool:=match l.findIdx? (fun x=>decide (x.id=id)) with
 |some k=>(l.eraseIdx k,true)
 |none=>(l,false)
def MZ (q:Option bZ) (e:bZ):Bool:=match q with|none=>true|some q=>cV q e
def iX (all:List bZ):Option bZ→Nat→List bZ→Bool
 |_,_,[]=>true
 |q,k,e::r=>!gw e&&decide (fQ all e.id=k)&&MZ q e&&iX all (some e) (k+1) r
def nK (l:List bZ):Bool:=iX l none 0 l&&decide (l.length≤32)
def bO (c:UInt8):aA→List aA
 |[]=>[[]]
 |x::xs=>if x=c then []::bO c xs else match bO c xs with
  |h::r=>(x::h)::r
  |[]=>[[x]]
theorem pg (c:UInt8):∀s:aA,(bO c s).length=s.count c+1
 |[]=>rfl
 |x::xs=>by
  have ih:=pg c xs
  unfold bO
  by_cases h:x=c
  ·simp [h,ih]
  simp only [h,if_false,List.count_cons,beq_iff_eq]
  split<;>simp_all
theorem Di (c:UInt8) (s:aA):bO c s≠[]:=fun h=>by have:=pg c s;rw [h] at this;simp at this
theorem ri (c:UInt8):∀s:aA,Lib.indexByte s c<0→bO c s=[s]
 |[],_=>rfl
 |x::xs,h=>by
  have hg:=Lib.indexByte_ge xs c
  unfold Lib.indexByte at h
  have hx:x≠c:=by rintro rfl;simp at h
  have h2:Lib.indexByte xs c<0:=by
   simp only [beq_iff_eq,hx,if_false] at h
   split at h
   ·omega
   omega
  simp [bO,hx,ri c xs h2]
theorem yq (c:UInt8):∀(s:aA) (j:Nat),Lib.indexByte s c=j→j<s.length∧bO c s=s.take j::bO c (s.drop (j+1))∧s.count c=(s.drop (j+1)).count c+1
 |[],j,h=>by simp [Lib.indexByte] at h
 |x::xs,j,h=>by
  have hg:=Lib.indexByte_ge xs c
  unfold Lib.indexByte at h
  by_cases hx:x=c
  ·simp only [beq_iff_eq,hx,if_true] at h
   have:j=0:=by omega
   subst this;simp [bO,hx]
  simp only [beq_iff_eq,hx,if_false] at h
  split at h
  ·omega
  obtain ⟨i,rfl⟩:∃i,j=i+1:=⟨j-1,by omega⟩
  obtain ⟨h1,h2,h3⟩:=yq c xs i (by omega)
  refine ⟨by simp;omega,?_,?_⟩
  ·simp [bO,hx,h2]
  simp [hx,h3]
theorem EK {s:aA} {r:Int} (h:r=Lib.indexByte s 47) (h0:r<0):s.count 47=0:=by
 have e:=pg 47 s
 rw [ri 47 s (h▸h0)] at e
 simp at e;simpa using e
theorem EL {s:aA} {r:Int} (h:r=Lib.indexByte s 47) (h0:0≤r):∃j:Nat,r=j∧j<s.length∧bO 47 s=s.take j::bO 47 (s.drop (j+1))∧s.count 47=(s.drop (j+1)).count 47+1:=by
 obtain ⟨j,rfl⟩:=Int.eq_ofNat_of_zero_le h0
 obtain ⟨h1,h2,h3⟩:=yq 47 s j h.symm
 exact ⟨j,rfl,h1,h2,h3⟩
theorem A7 {s:aA} (h:s.count 47=0):bO 47 s=[s]:=by
 refine ri 47 s (Int.not_le.1 fun h0=>?_)
 obtain ⟨j,_,_,_,e⟩:=EL rfl h0
 omega
def eW (l:List aA):aA:=Lib.join l [47]
def parts (s:aA):List aA:=if decide (3<(bO 47 s).length)||(bO 47 s).any (fun n=>!dU n) then [] else bO 47 s
def mL (s:aA):List aA:=(List.range (parts s).length).map fun k=>eW ((parts s).take (k+1))
def mM (a b:aA):Bool:=(mL b).contains a
def named (p:aA):Bool:=decide (p=[])||mM p p
def above (p:aA):List aA:=[]::mL p
def parent (p:aA):aA:=(above p).getD ((above p).length-2) []
theorem jR (s:aA):(parts s).length≤3:=by
 unfold parts;split
 ·simp
 rename_i h;simp at h;omega
theorem gX (s:aA):(mL s).length=(parts s).length:=by simp [mL]
theorem sZ (x:aA) (r:List aA):Lib.joinTail [47] (x::r)=47::eW (x::r):=by
 rw [eW,Lib.join_cons];simp [Lib.joinTail]
theorem yu:∀s:aA,eW (bO 47 s)=s
 |[]=>rfl
 |c::s=>by
  have ih:=yu s
  unfold bO
  cases e:bO 47 s with
  |nil=>exact absurd e (Di 47 s)
  |cons h r=>
   rw [e] at ih
   split
   ·rename_i hc
    show Lib.join ([]::h::r) [47]=_
    rw [Lib.join_cons,sZ,ih,hc];rfl
   show Lib.join ((c::h)::r) [47]=_
   rw [Lib.join_cons,List.cons_append,←Lib.join_cons]
   exact congrArg _ ih
theorem Ct (l:List aA) (k:Nat):(Lib.joinTail [47] (l.take k)).length≤(Lib.joinTail [47] l).length:=by
 have e:Lib.joinTail [47] l=Lib.joinTail [47] (l.take k)++Lib.joinTail [47] (l.drop k):=by
  simp only [Lib.joinTail];rw [←List.flatten_append,←List.map_append,List.take_append_drop]
 rw [e,List.length_append];omega
theorem JO (l:List aA) (k:Nat):(eW (l.take k)).length≤(eW l).length:=by
 cases l with
 |nil=>simp
 |cons x r=>
  cases k with
  |zero=>simp [eW,Lib.join_nil]
  |succ k=>
   simp only [List.take_succ_cons,eW,Lib.join_cons,List.length_append]
   have:=Ct r k
   omega
theorem Dj (s:aA) (k:Nat):(eW ((parts s).take k)).length≤s.length:=by
 refine Nat.le_trans (JO _ k) ?_
 unfold parts
 split
 ·simp [eW,Lib.join_nil]
 rw [yu];exact Nat.le_refl _
theorem SQ {s:aA} {k:Nat} (hk:k<(parts s).length):(mL s)[k]?=some (eW ((parts s).take (k+1))):=by simp [mL,hk]
theorem Dk {s:aA} {k:Nat} (hk:k<(parts s).length):(mL s).take (k+1)=(mL s).take k++[eW ((parts s).take (k+1))]:=by
 have hl:k<(mL s).length:=by rw [gX];exact hk
 rw [List.take_add_one,SQ hk];rfl
def LX (p:bR):aA:=bH p.key++bH p.value
def EM (l:List bR):aA:=if oY l then eg l.length++(l.map LX).flatten else []
def Cu (n:Node):aA:=bH n.name++Cp n.cap++EM n.labels++eg (if n.up then 1 else 0)
def M0 (x:Place):aA:=eg x.bB++bH x.node++Cp x.v
def Cv (p:cQ):aA:=eg p.nodes.length++(p.nodes.map Cu).flatten++eg p.places.length++(p.places.map M0).flatten
def bz.u (v:bz):Prop:=v.a<18446744073709551616∧v.b<18446744073709551616∧v.c<18446744073709551616∧v.d<18446744073709551616
def bz.at_ (v:bz):Nat→Int
 |0=>v.a
 |1=>v.b
 |2=>v.c
 |_=>v.d
def yZ (v:bz):Nat→aA
 |0=>[]
 |k+1=>yZ v k++eg (v.at_ k)
theorem A8 (v:bz):(Cp v).length≤40:=by
 unfold Cp
 have:=cY v.a;have:=cY v.b;have:=cY v.c;have:=cY v.d
 simp only [List.length_append];omega
theorem kx {α:Type} {f:α→aA} {l:List α} {k:Nat} {x:α} (h:l[k]?=some x):((l.drop k).map f).flatten=f x++((l.drop (k+1)).map f).flatten:=by
 obtain ⟨hk,rfl⟩:=List.getElem?_eq_some_iff.1 h
 rw [List.drop_eq_getElem_cons hk,List.map_cons,List.flatten_cons]
structure Ask where
 path:aA
 fZ:bz
 count:Int
 prio:Int
 dO:Int
 bX:List Term
deriving DecidableEq
instance:Inhabited Ask:=⟨⟨[],bz.zero,0,0,0,[]⟩⟩
def Ask.zero:Ask:=⟨[],bz.zero,0,0,0,[]⟩
def dG (x:Ask):bz×Bool:=JN x.fZ (x.count%18446744073709551616)
def Ou (n a b:Int):Bool:=decide (a≤n)&&decide (n≤b)
def cI (x:Ask):Int:=
 if !mM x.path x.path then 6 else if !Ou x.count 1 8||!Ou x.prio 0 9||!Ou x.dO 1 100 then 1 else if !pe x.bX then 2 else if !(dG x).2 then 5 else 0
def M1 (x:Ask):aA:=if cI x≠0 then [] else bH x.path++Cp x.fZ++eg x.count++eg x.prio++eg x.dO++A4 x.bX
def fitting (l:List cw) (x:List Term):List cw:=l.filter fun s=>wR x s.labels
structure Hu where
 at_:Nat
 left:bz
 ok:Bool
def vC (v:bz):List cw→Nat→Hu→Hu
 |[],_,b=>b
 |s::r,k,b=>vC v r (k+1) (if (fY s.free v).2&&(!b.ok||decide (tY (fY s.free v).1 b.left<0)) then ⟨k,(fY s.free v).1,true⟩ else b)
def best (l:List cw) (v:bz):Hu:=vC v l 0 ⟨0,bz.zero,false⟩
instance:Inhabited cw:=⟨⟨[],bz.zero,[]⟩⟩
def wS (v:bz):Nat→List cw→List aA→List aA×Bool
 |0,_,out=>(out,true)
 |n+1,l,out=>if !(best l v).ok then ([],false) else
  wS v n (l.set (best l v).at_ {l.getD (best l v).at_ default with free:=(best l v).left}) (out++[(l.getD (best l v).at_ default).node])
def fit (l:List cw) (x:List Term) (v:bz) (count:Int):List aA×Bool:=
 if 8<count then ([],false) else wS v (max count 0).toNat (fitting l x) []
structure aQ where
 path:aA
 c6:bz
 used:bz
deriving DecidableEq
abbrev aQ.cells (e:aQ):List D:=[.str e.path,.int .u64 e.c6.a,.int .u64 e.c6.b,.int .u64 e.c6.c,.int .u64 e.c6.d,.int .u64 e.used.a,.int .u64 e.used.b,.int .u64 e.used.c,.int .u64 e.used.d]
def aQ.zero:aQ:=⟨[],bz.zero,bz.zero⟩
instance:Inhabited aQ:=⟨aQ.zero⟩
def bM (t:List aQ) (p:aA):Int:=idxOf (fun e=>decide (e.path=p)) t
def om (t:List aQ) (p:aA):aQ×Bool:=match t.find? (fun e=>decide (e.path=p)) with
 |some e=>(e,true)
 |none=>(aQ.zero,false)
def vD (t:List aQ) (p:aA) (v:bz):List aQ×Int:=
 if !named p then (t,6) else
 if !decide (p=[])&&decide (bM t (parent p)<0) then (t,7) else
 if decide (bM t p<0)&&decide (16≤t.length) then (t,9) else
 match t.findIdx? (fun e=>decide (e.path=p)) with
 |some k=>if !mK ((t.getD k aQ.zero).used) v then (t,10) else (t.set k {t.getD k aQ.zero with c6:=v},0)
 |none=>match t.findIdx? (fun e=>!Op.bytesLess e.path p) with
  |some k=>(t.take k++⟨p,v,bz.zero⟩::t.drop k,0)
  |none=>(t++[⟨p,v,bz.zero⟩],0)
def fW (v:bz) (e:aQ):aQ×Int:=
 if !(iA e.used v).2 then (e,5) else if !mK (iA e.used v).1 e.c6 then (e,10) else ({e with used:=(iA e.used v).1},0)
def ej (v:bz) (e:aQ):aQ×Int:=
 if !(fY e.used v).2 then (e,15) else ({e with used:=(fY e.used v).1},0)
def jS (f:aQ→aQ×Int) (t:List aQ):List aA→List aQ→List aQ×Int
 |[],out=>(out,0)
 |p::r,out=>if (f (t.getD (bM t p).toNat aQ.zero)).2≠0 then (t,(f (t.getD (bM t p).toNat aQ.zero)).2) else jS f t r (out.set (bM t p).toNat (f (t.getD (bM t p).toNat aQ.zero)).1)
def pS (f:aQ→aQ×Int) (t:List aQ) (p:aA):List aQ×Int:=
 if !named p then (t,6) else if (above p).any (fun q=>decide (bM t q<0)) then (t,7) else jS f t (above p) t
def ic (t:List aQ) (p:aA) (v:bz):List aQ×Int:=pS (fW v) t p
def sn (t:List aQ) (p:aA) (v:bz):List aQ×Int:=pS (ej v) t p
def pT (p:aA):List aQ→bz→Option bz
 |[],s=>some s
 |x::r,s=>if x.path=[] then pT p r s else if parent x.path≠p then pT p r s else if (iA s x.used).2 then pT p r (iA s x.used).1 else none
def kT (l:List aQ) (e:aQ):Bool:=match pT e.path l bz.zero with
 |none=>false
 |some s=>mK e.used e.c6&&mK s e.used
def eJ (all:List aQ):Option aA→List aQ→Bool
 |_,[]=>true
 |none,e::r=>eJ all (some e.path) r
 |some q,e::r=>!sle e.path q&&named e.path&&!decide (bM all (parent e.path)<0)&&eJ all (some e.path) r
def gP (l:List aQ):Bool:=
 if l.length<1 then false else if 16<l.length then false else if (l.getD 0 aQ.zero).path≠[] then false else eJ l none l&&!(l.any fun e=>!kT l e)
def LY (e:aQ):aA:=bH e.path++Cp e.c6++Cp e.used
def Hv (l:List aQ):aA:=eg l.length++(l.map LY).flatten
def bw.SR:bw aQ:=⟨aQ.zero,0,false⟩
def wT (s:aA) (p:Int):bw aQ:=
 if !(aR s p 98).ok then bw.SR else
 if !(iB s (aR s p 98).next).ok then bw.SR else
 ⟨⟨(aR s p 98).t,(iB s (aR s p 98).next).v,(iB s (iB s (aR s p 98).next).next).v⟩,(iB s (iB s (aR s p 98).next).next).next,(iB s (iB s (aR s p 98).next).next).ok⟩
def k9 (s:aA):Nat→List aQ→Int→bw (List aQ)
 |0,l,p=>⟨l,p,true⟩
 |n+1,l,p=>if !(wT s p).ok then bw.nJ else if decide ((wT s p).x=aQ.zero)&&decide (0<l.length) then bw.nJ else k9 s n (l++[(wT s p).x]) (wT s p).next
def A9 (s:aA) (p:Int):bw (List aQ):=
 if !(bE s p).ok then bw.nJ else if 16<(bE s p).u then bw.nJ else
 if !(k9 s (bE s p).u.toNat [] (bE s p).next).ok then bw.nJ else
 if !gP (k9 s (bE s p).u.toNat [] (bE s p).next).x then bw.nJ else
 ⟨(k9 s (bE s p).u.toNat [] (bE s p).next).x,(k9 s (bE s p).u.toNat [] (bE s p).next).next,true⟩
theorem Dl:∀(x y:aA),Op.bytesLess x y=decide (x<y)
 |[],[]=>by simp [Op.bytesLess]
 |a::x,[]=>by simp [Op.bytesLess]
 |[],b::y=>by simp [Op.bytesLess]
 |a::x,b::y=>by
  have ih:=Dl x y
  simp only [Op.bytesLess,ih]
  rw [Bool.eq_iff_iff]
  simp [List.cons_lt_cons_iff]
theorem jU (x:aA):¬x<x:=List.lt_irrefl x
theorem wU {x y z:aA} (h:x<y) (g:y<z):x<z:=List.lt_trans h g
theorem LZ (x y:aA):x<y∨x=y∨y<x:=by
 by_cases h:x<y
 ·exact .inl h
 by_cases g:y<x
 ·exact .inr (.inr g)
 exact .inr (.inl (List.le_antisymm (List.not_lt.1 g) (List.not_lt.1 h)))
theorem Dm {x y:aA} (h:x<y) (g:y<x):False:=jU x (wU h g)
theorem L0 {x y:aA}:(!sle x y)=true↔y<x:=by
 rcases LZ x y with h|rfl|h
 ·have:¬y<x:=fun g=>Dm h g
  simp [sle,Dl,h,this]
 ·simp [sle]
 simp only [sle,Dl]
 have h1:¬x<y:=fun g=>Dm h g
 have h2:x≠y:=fun e=>by subst e;exact jU x h
 simp [h1,h2,h]
abbrev RP (l:List Node):Prop:=l.Pairwise (fun x y=>x.name<y.name)
def Node.Cw (n:Node):Bool:=dU n.name&&oY n.labels
structure cQ.ok (p:cQ):Prop where
 FA:RP p.nodes
 Cw:∀n∈p.nodes,n.Cw=true
 free:∀n∈p.nodes,(gv n.name p.nodes p.places).2=true
 most:p.nodes.length≤16
 here:∀x∈p.places,∃n∈p.nodes,n.name=x.node
theorem yw {l:List Node} {ps:List Place}:∀(r:List Node) (q:Option aA),iU l ps q r=true↔
 ((∀n∈r,n.Cw=true)∧(∀n∈r,(gv n.name l ps).2=true)∧RP r∧∀a,q=some a→∀n∈r,a<n.name)
 |[],q=>by simp [iU]
 |n::r,q=>by
  have ih:=yw (l:=l) (ps:=ps) r (some n.name)
  simp only [iU,Bool.and_eq_true,ih]
  have hp:EH q n.name=true↔∀a,q=some a→a<n.name:=by
   cases q with
   |none=>simp [EH]
   |some a=>simp only [EH,L0];simp
  rw [hp]
  constructor
  ·rintro ⟨⟨⟨⟨h1,h2⟩,h3⟩,h4⟩,g1,g2,g3,g4⟩
   refine ⟨?_,?_,?_,?_⟩
   ·intro m hm;rcases List.mem_cons.1 hm with rfl|hm
    ·simp [Node.Cw,h2,h3]
    exact g1 m hm
   ·intro m hm;rcases List.mem_cons.1 hm with rfl|hm
    ·exact h1
    exact g2 m hm
   ·exact List.pairwise_cons.2 ⟨fun m hm=>g4 _ rfl m hm,g3⟩
   intro a ha m hm;rcases List.mem_cons.1 hm with rfl|hm
   ·exact h4 a ha
   exact wU (h4 a ha) (g4 _ rfl m hm)
  rintro ⟨h1,h2,h3,h4⟩
  have f:=h1 n (by simp)
  simp only [Node.Cw,Bool.and_eq_true] at f
  have h3':=List.pairwise_cons.1 h3
  exact ⟨⟨⟨⟨h2 n (by simp),f.1⟩,f.2⟩,fun a ha=>h4 a ha n (by simp)⟩,fun m hm=>h1 m (by simp [hm]),fun m hm=>h2 m (by simp [hm]),h3'.2,fun a ha m hm=>by cases ha;exact h3'.1 m hm⟩
theorem JP {p:cQ}:nH p=true↔p.ok:=by
 unfold nH
 simp only [Bool.and_eq_true,yw,decide_eq_true_eq,Bool.not_eq_true',List.any_eq_false,AX]
 constructor
 ·rintro ⟨⟨⟨h1,h2,h3,_⟩,h5⟩,h6⟩
  refine ⟨h3,h1,h2,h5,fun x hx=>?_⟩
  have:=h6 x hx
  simpa using this
 rintro ⟨h1,h2,h3,h4,h5⟩
 refine ⟨⟨⟨h2,h3,h1,by simp⟩,h4⟩,fun x hx=>?_⟩
 obtain ⟨n,hn,e⟩:=h5 x hx
 simp;exact ⟨n,hn,e⟩
theorem P4 {l:List Node} (ha:RP l) {n:Node} (hn:n∈l):l.find? (fun x=>decide (x.name=n.name))=some n:=by
 induction l with
 |nil=>cases hn
 |cons m r ih=>
  rw [List.find?_cons]
  have Yr:=List.pairwise_cons.1 ha
  rcases List.mem_cons.1 hn with rfl|hn
  ·simp
  have:m.name≠n.name:=fun e=>by have:=Yr.1 n hn;rw [e] at this;exact jU _ this
  simp [this,ih Yr.2 hn]
theorem M2 {l:List Node} (ha:RP l) {n:Node} (hn:n∈l):fV n.name l=(n,true):=by
 unfold fV;rw [P4 ha hn]
theorem JQ {l:List Node} {name:aA} (h:(fV name l).2=true):(fV name l).1∈l∧(fV name l).1.name=name:=by
 unfold fV at h ⊢
 split at h
 ·rename_i x hx
  have h1:=List.mem_of_find?_eq_some hx
  have h2:=List.find?_some hx
  exact ⟨h1,by simpa using h2⟩
 cases h
def left (name:aA) (ps:List Place) (v:bz×Bool):bz×Bool:=ps.foldl (dy name) v
theorem Dn {l:List Node} (ha:RP l) {n:Node} (hn:n∈l) (ps:List Place):gv n.name l ps=if (left n.name ps (n.cap,true)).2 then left n.name ps (n.cap,true) else (bz.zero,false):=by
 unfold gv;rw [M2 ha hn];rfl
theorem jV {l:List Node} (ha:RP l) {n:Node} (hn:n∈l) (ps:List Place):(gv n.name l ps).2=(left n.name ps (n.cap,true)).2:=by
 rw [Dn ha hn]
 split
 ·rfl
 rename_i h;simp at h;simp [h]
theorem JR (name:aA) (ps:List Place):∀v,(left name ps (v,false))=(v,false):=by
 induction ps with
 |nil=>intro v;rfl
 |cons x r ih=>intro v;simp only [left,List.foldl_cons];rw [show dy name (v,false) x=(v,false) by simp [dy]];exact ih v
theorem M3 (name:aA) (ps:List Place) (x:Place) (v:bz×Bool):left name (ps++[x]) v=dy name (left name ps v) x:=by simp [left]
def bz.w (v:bz):Prop:=∀k<4,0≤v.at_ k∧v.at_ k<18446744073709551616
theorem bz.VJ {a b:bz} (h:∀k<4,a.at_ k=b.at_ k):a=b:=by
 rw [nG];exact ⟨h 0 (by decide),h 1 (by decide),h 2 (by decide),h 3 (by decide)⟩
theorem Zj {P:Nat→Prop}:(∀k<4,P k)↔P 0∧P 1∧P 2∧P 3:=by
 constructor
 ·intro h;exact ⟨h 0 (by decide),h 1 (by decide),h 2 (by decide),h 3 (by decide)⟩
 rintro ⟨h0,h1,h2,h3⟩ k hk
 match k,hk with
 |0,_=>exact h0
 |1,_=>exact h1
 |2,_=>exact h2
 |3,_=>exact h3
theorem SS {x y:Int}:(G7 x y).2=true↔y.toNat≤x.toNat:=by
 unfold G7;split<;>simp<;>omega
theorem SU {x y:Int}:(G6 x y).2=true↔x.toNat+y.toNat<18446744073709551616:=by
 unfold G6;split<;>simp<;>omega
theorem so {a b:bz}:(fY a b).2=true↔∀k<4,(b.at_ k).toNat≤(a.at_ k).toNat:=by
 rw [Zj];simp only [bz.at_,←SS]
 unfold fY both;split
 ·rename_i h;simp only [Bool.and_eq_true] at h;simp [h]
 rename_i h;simp only [Bool.and_eq_true,not_and] at h;simp;intro h1 h2 h3;simpa using h ⟨⟨h1,h2⟩,h3⟩
theorem EN {a b:bz}:(iA a b).2=true↔∀k<4,(a.at_ k).toNat+(b.at_ k).toNat<18446744073709551616:=by
 rw [Zj];simp only [bz.at_,←SU]
 unfold iA both;split
 ·rename_i h;simp only [Bool.and_eq_true] at h;simp [h]
 rename_i h;simp only [Bool.and_eq_true,not_and] at h;simp;intro h1 h2 h3;simpa using h ⟨⟨h1,h2⟩,h3⟩
theorem EO {a b:bz} (h:(fY a b).2=true):∀k<4,(fY a b).1.at_ k=((((a.at_ k).toNat-(b.at_ k).toNat)%18446744073709551616:Nat):Int):=by
 have h':=so.1 h
 rw [Zj] at h' ⊢
 simp only [bz.at_] at h' ⊢
 unfold fY both at h ⊢
 split at h
 ·rename_i g
  rw [if_pos g]
  simp only [G7]
  rw [if_neg (by omega),if_neg (by omega),if_neg (by omega),if_neg (by omega)]
  simp
 cases h
theorem L2 {a b:bz} (h:(iA a b).2=true):∀k<4,(iA a b).1.at_ k=(((a.at_ k).toNat+(b.at_ k).toNat:Nat):Int):=by
 have h':=EN.1 h
 rw [Zj] at h' ⊢
 simp only [bz.at_] at h' ⊢
 unfold iA both at h ⊢
 split at h
 ·rename_i g
  rw [if_pos g]
  simp only [G6]
  rw [if_pos (by omega),if_pos (by omega),if_pos (by omega),if_pos (by omega)]
  simp
 cases h
theorem P5 {a b:bz} (h:(fY a b).2=true):(fY a b).1.w:=by
 intro k hk;rw [EO h k hk];omega
def here (name:aA) (ps:List Place):List Place:=ps.filter (fun x=>decide (x.node=name))
def kU (k:Nat) (l:List Place):Nat:=(l.map (fun x=>(x.v.at_ k).toNat)).sum
theorem sq (name:aA):∀(ps:List Place) (v:bz),v.w→((left name ps (v,true)).2=true↔∀k<4,kU k (here name ps)≤(v.at_ k).toNat)∧
 ((left name ps (v,true)).2=true→∀k<4,(left name ps (v,true)).1.at_ k=(((v.at_ k).toNat-kU k (here name ps):Nat):Int))
 |[],v,hv=>by
  simp only [left,List.foldl_nil,here,List.filter_nil,kU,List.map_nil,List.sum_nil]
  exact ⟨by simp,fun _ k hk=>by have:=hv k hk;omega⟩
 |x::r,v,hv=>by
  by_cases hx:x.node=name
  ·have e1:left name (x::r) (v,true)=left name r (fY v x.v):=by simp [left,dy,hx]
   have e2:here name (x::r)=x::here name r:=by simp [here,hx]
   rw [e1,e2]
   cases hs:(fY v x.v).2 with
   |false=>
    have e3:fY v x.v=((fY v x.v).1,false):=by rw [←hs]
    rw [e3,JR]
    refine ⟨⟨fun h=>Bool.noConfusion h,fun h=>?_⟩,fun h=>Bool.noConfusion h⟩
    have:(fY v x.v).2=true:=so.2 fun k hk=>by have:=h k hk;simp [kU] at this;omega
    rw [hs] at this;cases this
   |true=>
    have e3:fY v x.v=((fY v x.v).1,true):=by rw [←hs]
    rw [e3]
    obtain ⟨i1,i2⟩:=sq name r (fY v x.v).1 (P5 hs)
    have SJ:=EO hs
    have hok:=so.1 hs
    constructor
    ·rw [i1]
     constructor
     ·intro h k hk;have a1:=h k hk;have a2:=SJ k hk;have a3:=hok k hk;have a4:=hv k hk
      rw [a2] at a1;simp only [kU,List.map_cons,List.sum_cons] at a1 ⊢;omega
     intro h k hk;have a1:=h k hk;have a2:=SJ k hk;have a3:=hok k hk;have a4:=hv k hk
     rw [a2];simp only [kU,List.map_cons,List.sum_cons] at a1 ⊢;omega
    intro h k hk
    rw [i2 h k hk];have a1:=(i1.1 h) k hk;have a2:=SJ k hk;have a3:=hok k hk;have a4:=hv k hk
    rw [a2] at a1 ⊢;simp only [kU,List.map_cons,List.sum_cons] at a1 ⊢;omega
  have e1:left name (x::r) (v,true)=left name r (v,true):=by simp [left,dy,hx]
  have e2:here name (x::r)=here name r:=by simp [here,hx]
  rw [e1,e2];exact sq name r v hv
theorem JS {k:Nat} {l m:List Place} (h:l.Sublist m):kU k l≤kU k m:=by
 unfold kU
 induction h with
 |slnil=>simp
 |cons a _ ih=>simp;omega
 |cons_cons a _ ih=>simp;omega
structure cQ.w (p:cQ):Prop where
 cap:∀n∈p.nodes,n.cap.w
 v:∀x∈p.places,x.v.w
theorem cQ.SV {p:cQ} (h:p.ok) (hw:p.w) {n:Node} (hn:n∈p.nodes):∀k<4,kU k (Dem.here n.name p.places)≤(n.cap.at_ k).toNat:=by
 have:=h.free n hn
 rw [jV h.FA hn] at this
 exact (sq n.name p.places n.cap (hw.cap n hn)).1.1 this
theorem JT {p:cQ} (ha:RP p.nodes) (hc:∀n∈p.nodes,n.cap.w) {n:Node} (hn:n∈p.nodes) (h:∀k<4,kU k (here n.name p.places)≤(n.cap.at_ k).toNat):(gv n.name p.nodes p.places).2=true:=by
 rw [jV ha hn];exact (sq n.name p.places n.cap (hc n hn)).1.2 h
theorem SW {p:cQ} (h:p.ok) (hw:p.w) (f:Place→Bool):cQ.ok ⟨p.nodes,p.places.filter f⟩:=by
 refine ⟨h.FA,h.Cw,fun n hn=>?_,h.most,fun x hx=>h.here x (List.mem_filter.1 hx).1⟩
 refine JT (p:=⟨p.nodes,p.places.filter f⟩) h.FA hw.cap hn fun k hk=>?_
 refine Nat.le_trans (JS ?_) (cQ.SV h hw hn k hk)
 exact (List.filter_sublist (l:=p.places) (p:=f)).filter _
theorem VK {p:cQ} (hw:p.w) (f:Place→Bool):cQ.w ⟨p.nodes,p.places.filter f⟩:=⟨hw.cap,fun x hx=>hw.v x (List.mem_filter.1 hx).1⟩
theorem JU:bz.zero.w:=by
 intro k hk;have:bz.zero.at_ k=0:=by unfold bz.at_;split<;>rfl
 rw [this];omega
theorem uc {name:aA} {v:bz} {l:List Node} {ps:List Place} (h:pR name v l ps=0):(fV name l).2=true∧(fV name l).1.up=true∧(gv name l ps).2=true∧mK v (gv name l ps).1=true:=by
 unfold pR at h
 split at h
 ·omega
 split at h
 ·omega
 split at h
 ·omega
 rename_i h1 h2 h3
 simp only [Bool.or_eq_true,not_or,Bool.not_eq_true',Bool.not_eq_false] at h1 h2 h3
 exact ⟨h1,h2,h3.1,h3.2⟩
theorem SX {p:cQ} (h:p.ok) (hw:p.w) {name:aA} {v:bz} (hv:v.w) (bB:Int) (h0:pR name v p.nodes p.places=0):cQ.ok ⟨p.nodes,p.places++[⟨bB,name,v⟩]⟩∧cQ.w ⟨p.nodes,p.places++[⟨bB,name,v⟩]⟩:=by
 obtain ⟨r1,r2,r3,r4⟩:=uc h0
 obtain ⟨m1,m2⟩:=JQ r1
 refine ⟨⟨h.FA,h.Cw,fun n hn=>?_,h.most,?_⟩,⟨hw.cap,?_⟩⟩
 ·show (gv n.name p.nodes (p.places++[⟨bB,name,v⟩])).2=true
  rw [jV h.FA hn,M3]
  have hl:=h.free n hn
  rw [jV h.FA hn] at hl
  unfold dy
  split
  ·rename_i g
   simp only [Bool.and_eq_true,decide_eq_true_eq] at g
   obtain ⟨g1,g2⟩:=g
   rw [gv,g2,] at r4
   have e:gv name p.nodes p.places=left n.name p.places (n.cap,true):=by
    rw [g2,Dn h.FA hn,if_pos hl]
   rw [←g2] at r4
   have r4':mK v (left n.name p.places (n.cap,true)).1=true:=by rw [←e,g2];unfold gv;rw [←g2];exact r4
   exact r4'
  exact hl
 ·intro x hx
  rcases List.mem_append.1 hx with hx|hx
  ·exact h.here x hx
  simp at hx;subst hx;exact ⟨_,m1,m2⟩
 intro x hx
 rcases List.mem_append.1 hx with hx|hx
 ·exact hw.v x hx
 simp at hx;subst hx;exact hv
theorem Dp (l:List Node) (bB:Int) {v:bz} (hv:v.w):∀(names:List aA) (ps:List Place),cQ.ok ⟨l,ps⟩→cQ.w ⟨l,ps⟩→(fJ l bB v names ps).1=none→cQ.ok ⟨l,(fJ l bB v names ps).2⟩∧cQ.w ⟨l,(fJ l bB v names ps).2⟩
 |[],ps,h,hw,_=>⟨h,hw⟩
 |n::r,ps,h,hw,g=>by
  unfold fJ at g ⊢
  split
  ·rename_i h1;rw [if_pos h1] at g;cases g
  rename_i h1
  rw [if_neg h1] at g
  have h0:pR n v l ps=0:=by omega
  obtain ⟨a,b⟩:=SX (p:=⟨l,ps⟩) h hw hv bB h0
  exact Dp l bB hv r _ a b g
theorem VL {p:cQ} (h:p.ok) (hw:p.w) (bB:Int) (names:List aA) {v:bz} (hv:v.w):(wP p bB names v).1.ok∧(wP p bB names v).1.w:=by
 unfold wP
 split
 ·exact ⟨h,hw⟩
 rename_i g;exact Dp p.nodes bB hv names p.places h hw g
theorem Hw (l:List Node) (nm:aA):pat l nm≤l.length∧(∀n∈l.take (pat l nm),n.name<nm)∧(∀n,l[pat l nm]?=some n→¬n.name<nm):=by
 unfold pat
 split
 ·rename_i k hk
  obtain ⟨Ci,hp,hb⟩:=List.findIdx?_eq_some_iff_getElem.1 hk
  refine ⟨by omega,?_,?_⟩
  ·intro n hn
   obtain ⟨j,hj⟩:=List.getElem?_of_mem hn
   rw [List.getElem?_take] at hj
   split at hj
   ·rename_i U7
    rw [List.getElem?_eq_getElem (by omega)] at hj
    cases hj
    have:=hb j U7
    simpa [Dl] using this
   cases hj
  intro n hn
  rw [List.getElem?_eq_getElem Ci] at hn;cases hn
  simpa [Dl] using hp
 rename_i hk
 rw [List.findIdx?_eq_none_iff] at hk
 refine ⟨Nat.le_refl _,?_,?_⟩
 ·intro n hn
  rw [List.take_length] at hn
  have:=hk n hn
  simpa [Dl] using this
 intro n hn;simp at hn
theorem zu {l:List Node} {k:Nat} {x y:Node}:y∈l.take k++x::l.drop k↔y∈l∨y=x:=by
 rw [List.mem_append,List.mem_cons]
 constructor
 ·rintro (h|h|h)
  ·exact .inl (List.mem_of_mem_take h)
  ·exact .inr h
  exact .inl (List.mem_of_mem_drop h)
 rintro (h|h)
 ·rw [←List.take_append_drop k l,List.mem_append] at h
  rcases h with h|h
  ·exact .inl h
  exact .inr (.inr h)
 exact .inr (.inl h)
theorem SY {l:List Node} (ha:RP l) {x:Node} (hn:∀n∈l,n.name≠x.name):RP (l.take (pat l x.name)++x::l.drop (pat l x.name)):=by
 obtain ⟨h1,h2,h3⟩:=Hw l x.name
 have hs:=ha
 rw [←List.take_append_drop (pat l x.name) l] at hs
 have hs':=List.pairwise_append.1 hs
 have hd:∀n∈l.drop (pat l x.name),x.name<n.name:=by
  intro n hm
  cases hc:l.drop (pat l x.name) with
  |nil=>rw [hc] at hm;cases hm
  |cons m r=>
   have hlt:pat l x.name<l.length:=by
    rcases Nat.lt_or_ge (pat l x.name) l.length with h|h
    ·exact h
    rw [List.drop_eq_nil_of_le h] at hc;cases hc
   have hg:l[pat l x.name]?=some m:=by
    have:(l.drop (pat l x.name))[0]?=some m:=by rw [hc];rfl
    simpa using this
   have MM:m∈l:=List.mem_of_getElem? hg
   have hm1:x.name<m.name:=by
    rcases LZ x.name m.name with h|h|h
    ·exact h
    ·exact absurd h.symm (hn m MM)
    exact absurd h (h3 m hg)
   rw [hc] at hm
   rcases List.mem_cons.1 hm with rfl|hm
   ·exact hm1
   have:=hs'.2.1;rw [hc] at this
   exact wU hm1 ((List.pairwise_cons.1 this).1 n hm)
 refine List.pairwise_append.2 ⟨hs'.1,List.pairwise_cons.2 ⟨hd,hs'.2.1⟩,?_⟩
 intro a Yr b hb
 rcases List.mem_cons.1 hb with rfl|hb
 ·exact h2 a Yr
 exact hs'.2.2 a Yr b hb
theorem ue (p:cQ) (n:Node):((qZ p n).1=p∧(qZ p n).2≠0)∨(n.Cw=true∧(∀m∈p.nodes,m.name≠n.name)∧p.nodes.length<16∧
 qZ p n=(⟨p.nodes.take (pat p.nodes n.name)++{n with up:=true}::p.nodes.drop (pat p.nodes n.name),p.places⟩,0)):=by
 unfold qZ
 split
 ·exact .inl ⟨rfl,by simp⟩
 split
 ·exact .inl ⟨rfl,by simp⟩
 split
 ·exact .inl ⟨rfl,by simp⟩
 split
 ·exact .inl ⟨rfl,by simp⟩
 rename_i h1 h2 h3 h4
 simp only [Bool.not_eq_true',Bool.not_eq_false] at h1 h2
 refine .inr ⟨by simp [Node.Cw,h1,h2],?_,by omega,rfl⟩
 rw [←eP] at h3
 intro m hm e
 exact h3 (List.any_eq_true.2 ⟨m,hm,by simp [e]⟩)
theorem M4 {name:aA} {ps:List Place} (h:∀x∈ps,x.node≠name) (v:bz×Bool):left name ps v=v:=by
 unfold left
 induction ps generalizing v with
 |nil=>rfl
 |cons x r ih=>
  rw [List.foldl_cons,show dy name v x=v by simp [dy,h x (by simp)]]
  exact ih (fun y hy=>h y (by simp [hy])) v
theorem VM {p:cQ} (h:p.ok) (hw:p.w) {n:Node} (hc:n.cap.w):(qZ p n).1.ok∧(qZ p n).1.w:=by
 rcases ue p n with ⟨e,_⟩|⟨h1,h2,h3,e⟩
 ·rw [e];exact ⟨h,hw⟩
 rw [e]
 have ha:RP (p.nodes.take (pat p.nodes n.name)++{n with up:=true}::p.nodes.drop (pat p.nodes n.name)):=SY (x:={n with up:=true}) h.FA h2
 refine ⟨⟨ha,?_,?_,?_,?_⟩,⟨?_,hw.v⟩⟩
 ·intro m hm;rcases zu.1 hm with hm|rfl
  ·exact h.Cw m hm
  exact h1
 ·intro m hm
  show (gv m.name (p.nodes.take (pat p.nodes n.name)++{n with up:=true}::p.nodes.drop (pat p.nodes n.name)) p.places).2=true
  rw [jV ha hm]
  rcases zu.1 hm with hm|rfl
  ·have:=h.free m hm;rwa [jV h.FA hm] at this
  rw [M4]
  intro x hx e
  obtain ⟨m,hm,em⟩:=h.here x hx
  exact h2 m hm (by rw [em,e])
 ·have:=(Hw p.nodes n.name).1;simp;omega
 ·intro x hx
  obtain ⟨m,hm,em⟩:=h.here x hx
  exact ⟨m,zu.2 (.inl hm),em⟩
 intro m hm;rcases zu.1 hm with hm|rfl
 ·exact hw.cap m hm
 exact hc
def SZ:aA:=[122,111,110,101]
def vE (p:cQ) (bB:Int):cQ:=⟨p.nodes,p.places.filter (fun x=>!decide (x.bB=bB))⟩
theorem S0:cQ.ok ⟨[],[]⟩:=⟨List.Pairwise.nil,by simp,by simp,by simp,by simp⟩
theorem VN:cQ.w ⟨[],[]⟩:=⟨by simp,by simp⟩
theorem wV {α β:Type} {P:α→Prop} {f:α→β→α} (hf:∀a b,P a→P (f a b)):∀(l:List β) (a:α),P a→P (l.foldl f a)
 |[],_,h=>h
 |b::r,a,h=>wV hf r (f a b) (hf a b h)
end Dem
end
