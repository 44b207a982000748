/- Parts of a proof, joined. -/
import Derived.Test.YtjnbpclolnmimaaGreatDoorK14
set_option linter.all false
set_option maxRecDepth 100000
set_option maxHeartbeats 4000000
section
open Go
namespace Dem
structure Jb where
 id:Int
 x:Ask
 runs:Bool
 left:Int
deriving DecidableEq
def Jb.zero:Jb:=⟨0,Ask.zero,false,0⟩
instance:Inhabited Jb:=⟨Jb.zero⟩
structure cF where
 round:Int
 id:Int
 kind:Int
deriving DecidableEq
instance:Inhabited cF:=⟨⟨0,0,0⟩⟩
structure sL where
 first:Int
 l:List cF
deriving DecidableEq
structure cJ where
 round:Int
 next:Int
 bC:cQ
 tree:List aQ
 aL:List Jb
 queue:List bZ
 ev:sL
 au:sL
def cF.cells (n:cF):List D:=[.int .u64 n.round,.int .u64 n.id,.int .i64 n.kind]
def Jb.cells (j:Jb):List D:=[.int .u64 j.id,.str j.x.path,.int .u64 j.x.fZ.a,.int .u64 j.x.fZ.b,.int .u64 j.x.fZ.c,.int .u64 j.x.fZ.d,.int .i64 j.x.count,.int .i64 j.x.prio,.int .i64 j.x.dO,.sl (j.x.bX.map Term.cells),.bool j.runs,.int .i64 j.left]
def cJ.zero:cJ:=⟨0,0,⟨[],[]⟩,[],[],[],⟨0,[]⟩,⟨0,[]⟩⟩
def S1:cJ:={cJ.zero with next:=1,tree:=[⟨[],bz.zero,bz.zero⟩]}
def JV (l:List Jb) (id:Int):Int:=idxOf (fun j=>decide (j.id=id)) l
def dZ (l:List Jb) (id:Int):Jb×Bool:=match l.find? (fun j=>decide (j.id=id)) with
 |some j=>(j,true)
 |none=>(Jb.zero,false)
def u64 (n:Int):Int:=n%18446744073709551616
def tell (x:sL) (n:cF):sL:=if 32<(x.l++[n]).length then ⟨u64 (x.first+1),(x.l++[n]).drop 1⟩ else ⟨x.first,x.l++[n]⟩
def Dq (first f:Int):List cF→Nat→List cF×Int→List cF×Int
 |[],_,r=>r
 |n::l,k,r=>Dq first f l (k+1) (if decide (f≤u64 (first+k))&&decide (r.1.length<8) then (r.1++[n],u64 (u64 (first+k)+1)) else r)
def Hy (x:sL) (f:Int):List cF×Int:=Dq x.first f x.l 0 ([],max f x.first)
def gz (t:List aQ) (p:aA):Bool:=!((mL p++[[]]).any fun q=>!(om t q).2)
def fR (s:cJ) (id kind:Int):cJ:={s with ev:=tell s.ev ⟨s.round,id,kind⟩}
def bW (s:cJ) (x:Ask):cJ×Int×Int:=
 if cI x≠0 then (s,0,cI x) else
 if !gz s.tree x.path then (s,0,7) else
 if 32≤s.aL.length∨s.next=18446744073709551615 then (s,0,9) else
 if (jF s.queue ⟨s.next,x.prio⟩).2≠0 then (s,0,(jF s.queue ⟨s.next,x.prio⟩).2) else
 (fR {s with queue:=(jF s.queue ⟨s.next,x.prio⟩).1,aL:=s.aL++[⟨s.next,x,false,0⟩],next:=u64 (s.next+1)} s.next 1,s.next,0)
def Dr (s:cJ) (k:Nat) (j:Jb):cJ:={s with aL:=s.aL.set k j}
def jW (s:cJ) (k:Nat) (j:Jb) (id:Int) (nodes:List aA):cJ×Int:=
 if j.runs then (s,15) else if (nodes.length:Int)≠j.x.count then (s,1) else
 if !(dG j.x).2 then (s,5) else
 if (ic s.tree j.x.path (dG j.x).1).2≠0 then (s,(ic s.tree j.x.path (dG j.x).1).2) else
 if (wP s.bC id nodes j.x.fZ).2≠0 then (s,(wP s.bC id nodes j.x.fZ).2) else
 (fR (Dr {s with tree:=(ic s.tree j.x.path (dG j.x).1).1,bC:=(wP s.bC id nodes j.x.fZ).1,queue:=(A6 s.queue id).1} k {j with runs:=true,left:=j.x.dO}) id 2,0)
def dK (s:cJ) (id:Int) (nodes:List aA):cJ×Int:=match s.aL.findIdx? (fun j=>decide (j.id=id)) with
 |none=>(s,7)
 |some k=>jW s k (s.aL.getD k Jb.zero) id nodes
def nh (s:cJ) (j:Jb):cJ:=
 {s with tree:=(if (dG j.x).2 then (sn s.tree j.x.path (dG j.x).1).1 else s.tree),bC:=vE s.bC j.id}
def nj (s:cJ) (id kind:Int):cJ×Int:=match s.aL.findIdx? (fun j=>decide (j.id=id)) with
 |none=>(s,7)
 |some k=>if !(s.aL.getD k Jb.zero).runs then (s,15) else
  (fR (Dr {nh s (s.aL.getD k Jb.zero) with queue:=(jF s.queue ⟨id,(s.aL.getD k Jb.zero).x.prio⟩).1} k {s.aL.getD k Jb.zero with runs:=false,left:=0}) id kind,0)
def send (s:cJ) (id kind:Int):cJ×Int:=match s.aL.findIdx? (fun j=>decide (j.id=id)) with
 |none=>(s,7)
 |some k=>(fR {(if (s.aL.getD k Jb.zero).runs then nh s (s.aL.getD k Jb.zero) else {s with queue:=(A6 s.queue id).1}) with aL:=s.aL.eraseIdx k} id kind,0)
end Dem
end
section
open Go Go.Proofs Go.ChangeShapes Go.WideShapes Go.RowKit
namespace Dem
theorem trodAll_nil {H:Type} {enc:TypeId×Value→H} {P:Program} {W:World} {vs:List Value} {ds:List (DataW H)} {ps:List MemPlace} (h:DataW.TrodAll enc P W 0 (fun _=>true) true [] vs ds ps):vs=[]∧ds=[]:=by
 cases vs with
 |nil=>cases ds with
  |nil=>exact ⟨rfl,rfl⟩
  |cons d ds=>exact h.elim
 |cons v vs=>cases ds<;>exact h.elim
theorem trodAll_cons {H:Type} {enc:TypeId×Value→H} {P:Program} {W:World} {t:TypeId} {ts:List TypeId} {vs:List Value} {ds:List (DataW H)} {ps:List MemPlace} (h:DataW.TrodAll enc P W 0 (fun _=>true) true (t::ts) vs ds ps):
 ∃v vs' d ds' p q,vs=v::vs'∧ds=d::ds'∧DataW.Trod enc P W 0 (fun _=>true) true t v d p∧DataW.TrodAll enc P W 0 (fun _=>true) true ts vs' ds' q:=by
 cases vs with
 |nil=>cases ds<;>exact h.elim
 |cons v vs=>cases ds with
  |nil=>exact h.elim
  |cons d ds=>
   obtain ⟨p,q,h1,h2,rfl⟩:=h
   exact ⟨v,vs,d,ds,p,q,rfl,rfl,h1,h2⟩
section
variable {H:Type} {enc:TypeId×Value→H} {W:World} {v:Value} {d:DataW H} {p:List MemPlace} {base:Nat}
abbrev okW (W:World):Nat→Prop:=aY (fun _=>0) [] W (fun _=>False)
theorem P6 (W:World):∀az,az<W.heap.size→okW W az:=fun az hb=>⟨hb,fun h=>h,fun i b hb=>by simp at hb⟩
theorem wf_u64 {n:Int} (h:(Lit.int .u64 n).wf=true):0≤n∧n<18446744073709551616:=by
 simp only [Lit.wf,Bool.and_eq_true,IntKind.min,IntKind.max,IntKind.signed,IntKind.bits] at h
 simp at h
 omega
theorem zw {α:Type} {cells:α→List D} {Q:α→Prop}:∀(es:List (List D)),(∀r∈es,∃x,r=cells x∧Q x)→∃l:List α,es=l.map cells∧∀x∈l,Q x
 |[],_=>⟨[],rfl,by simp⟩
 |r::es,h=>by
  obtain ⟨x,rfl,hx⟩:=h r (by simp)
  obtain ⟨l,rfl,hl⟩:=zw es (fun r hr=>h r (by simp [hr]))
  exact ⟨x::l,rfl,fun y hy=>by rcases List.mem_cons.1 hy with rfl|hy;exact hx;exact hl y hy⟩
end
end Dem
end
section
open Go
namespace Dem
theorem Ds (c:UInt8):∀(s:aA),∀x∈bO c s,c ∉ x
 |[],x,h=>by simp [bO] at h;subst h;simp
 |y::ys,x,h=>by
  have ih:=Ds c ys
  unfold bO at h
  split at h
  ·rcases List.mem_cons.1 h with rfl|h
   ·simp
   exact ih x h
  rename_i hy
  split at h
  ·rename_i hd r e
   rcases List.mem_cons.1 h with rfl|h
   ·have:=ih hd (by rw [e];simp)
    intro g;rcases List.mem_cons.1 g with g|g
    ·exact hy g.symm
    exact this g
   exact ih x (by rw [e];simp [h])
  simp at h;subst h
  intro g;simp at g;exact hy g.symm
theorem Ba (s:aA):∀(x:aA),(47:UInt8) ∉ x→bO 47 (x++47::s)=x::bO 47 s
 |[],_=>by simp [bO]
 |a::x,h=>by
  have ha:a≠47:=fun g=>h (by simp [g])
  have ih:=Ba s x (fun g=>h (by simp [g]))
  rw [List.cons_append,bO,if_neg ha,ih]
theorem oo:eW []=[]:=Lib.join_nil _
theorem su (x:aA):eW [x]=x:=by simp [eW,Lib.join_cons,Lib.joinTail]
theorem nk (x y:aA) (r:List aA):eW (x::y::r)=x++47::eW (y::r):=by
 show Lib.join (x::y::r) [47]=_
 rw [Lib.join_cons,sZ]
theorem Bb (x:aA):∀l:List aA,l≠[]→eW (l++[x])=eW l++47::x
 |[],h=>absurd rfl h
 |[a],_=>by rw [List.singleton_append,nk,su,su]
 |a::b::l,_=>by
  have ih:=Bb x (b::l) (by simp)
  rw [List.cons_append] at ih
  rw [List.cons_append,List.cons_append,nk,ih,nk];simp
theorem yx:∀l:List aA,l≠[]→(∀x∈l,(47:UInt8) ∉ x)→bO 47 (eW l)=l
 |[],h,_=>absurd rfl h
 |[x],_,h=>by rw [su];exact A7 (List.count_eq_zero.2 (h x (by simp)))
 |x::y::r,_,h=>by
  rw [nk,Ba _ x (h x (by simp)),yx (y::r) (by simp) (fun z hz=>h z (by simp [hz]))]
theorem yy (s:aA):parts s=[]∨(parts s=bO 47 s∧(bO 47 s).length≤3∧∀x∈bO 47 s,dU x=true):=by
 unfold parts
 split
 ·exact .inl rfl
 rename_i h
 simp only [Bool.or_eq_true,decide_eq_true_eq,List.any_eq_true,not_or] at h
 refine .inr ⟨rfl,by omega,fun x hx=>?_⟩
 cases e:dU x with
 |true=>rfl
 |false=>exact absurd ⟨x,hx,by simp [e]⟩ h.2
theorem yz {s x:aA} (h:x∈parts s):dU x=true:=by
 rcases yy s with e|⟨e,_,h2⟩
 ·rw [e] at h;cases h
 exact h2 x (by rw [←e];exact h)
theorem M5 {x:aA} (h:dU x=true):x≠[]:=by
 rintro rfl;simp [dU] at h
theorem Dt:parts []=[]:=by
 have:dU []=false:=by simp [dU]
 simp [parts,bO,this]
theorem parts_eq {s:aA} {l:List aA} (hs:bO 47 s=l) (hl:l.length≤3) (hr:l.any (fun n=>!dU n)=false):parts s=l:=by
 unfold parts;rw [hs,hr,if_neg (by simp;omega)]
theorem JW (s:aA) (k:Nat):parts (eW ((parts s).take k))=(parts s).take k:=by
 rcases yy s with e|⟨e,h1,h2⟩
 ·rw [e];simp [oo,Dt]
 cases k with
 |zero=>simp [oo,Dt]
 |succ k=>
  have hne:(parts s).take (k+1)≠[]:=by
   rw [e];have:=Di 47 s
   cases h:bO 47 s with
   |nil=>exact absurd h this
   |cons a r=>simp
  have hs:bO 47 (eW ((parts s).take (k+1)))=(parts s).take (k+1):=by
   refine yx _ hne fun x hx=>?_
   have:=List.mem_of_mem_take hx
   rw [e] at this
   exact Ds 47 s x this
  have hl:((parts s).take (k+1)).length≤3:=by rw [List.length_take,e];omega
  have hr:((parts s).take (k+1)).any (fun n=>!dU n)=false:=by
   rw [List.any_eq_false];intro x hx
   rw [yz (List.mem_of_mem_take hx)];simp
  exact parts_eq hs hl hr
def mS (P:aA) (k:Nat):aA:=eW ((parts P).take k)
theorem Du (P:aA):above P=(List.range ((parts P).length+1)).map (mS P):=by
 rw [List.range_succ_eq_map,List.map_cons,List.map_map]
 have h0:mS P 0=[]:=by simp [mS,oo]
 rw [above,h0];rfl
theorem sw {P q:aA}:q∈above P↔∃k,k≤(parts P).length∧q=mS P k:=by
 rw [Du,List.mem_map]
 constructor
 ·rintro ⟨k,h,rfl⟩;rw [List.mem_range] at h;exact ⟨k,by omega,rfl⟩
 rintro ⟨k,h,rfl⟩;exact ⟨k,List.mem_range.2 (by omega),rfl⟩
theorem Dv (P:aA):mS P 0=[]:=by simp [mS,oo]
theorem Hz (P:aA) (k:Nat):parts (mS P k)=(parts P).take k:=JW P k
theorem S2 {P:aA} {i k:Nat} (h:i≤k):mS (mS P k) i=mS P i:=by
 show eW ((parts (mS P k)).take i)=eW ((parts P).take i)
 rw [Hz,List.take_take,Nat.min_eq_left h]
theorem P7 {P:aA} {k:Nat} (h:k<(parts P).length):(mS P k).length<(mS P (k+1)).length:=by
 have e:(parts P).take (k+1)=(parts P).take k++[(parts P)[k]]:=by rw [List.take_add_one,List.getElem?_eq_getElem h];rfl
 have hne:=M5 (yz (List.getElem_mem h))
 unfold mS
 rw [e]
 cases k with
 |zero=>
  simp only [List.take_zero,List.nil_append,oo,su]
  exact List.length_pos_iff.2 hne
 |succ k=>
  rw [Bb _ _ (by intro g;have:=congrArg List.length g;simp at this;rw [this] at h;simp at h)]
  simp
theorem EP {P:aA} {i:Nat}:∀{j:Nat},i<j→j≤(parts P).length→(mS P i).length<(mS P j).length
 |0,h,_=>by omega
 |j+1,h,hj=>by
  have h1:=P7 (P:=P) (k:=j) (by omega)
  by_cases e:i=j
  ·rw [e];exact h1
  exact Nat.lt_trans (EP (by omega) (by omega)) h1
theorem P8 {P:aA} {i j:Nat} (hi:i≤(parts P).length) (hj:j≤(parts P).length) (h:mS P i=mS P j):i=j:=by
 rcases Nat.lt_trichotomy i j with g|g|g
 ·have:=EP g hj;rw [h] at this;omega
 ·exact g
 have:=EP g hi;rw [h] at this;omega
theorem P9 {P:aA} {k:Nat} (h:k≤(parts P).length):above (mS P k)=(List.range (k+1)).map (mS P):=by
 rw [Du,Hz,List.length_take,Nat.min_eq_left h]
 refine List.map_congr_left fun i hi=>?_
 rw [List.mem_range] at hi
 exact S2 (by omega)
theorem wW {P:aA} {k:Nat} (h:k≤(parts P).length):parent (mS P k)=mS P (k-1):=by
 unfold parent
 rw [P9 h]
 simp only [lgM,List.length_range]
 rw [List.getD_eq_getElem?_getD,List.getElem?_map,List.getElem?_range (by omega)]
 simp [show k+1-2=k-1 by omega]
theorem JX {P q r:aA} (hq:q∈above P) (hr:r∈above P) (q0:q≠[]) (r0:r≠[]) (h:parent q=parent r):q=r:=by
 obtain ⟨i,hi,rfl⟩:=sw.1 hq
 obtain ⟨j,hj,rfl⟩:=sw.1 hr
 rw [wW hi,wW hj] at h
 have i0:i≠0:=by rintro rfl;exact q0 (Dv P)
 have j0:j≠0:=by rintro rfl;exact r0 (Dv P)
 have:=P8 (by omega) (by omega) h
 rw [show i=j by omega]
theorem JY {P q:aA} (hq:q∈above P):parent q∈above P:=by
 obtain ⟨i,hi,rfl⟩:=sw.1 hq
 rw [wW hi];exact sw.2 ⟨i-1,by omega,rfl⟩
theorem Dw (P:aA):[]∈above P:=by simp [above]
theorem yA {P q:aA}:(decide (q=[])||mM q P)=decide (q∈above P):=by
 by_cases h:q=[]
 ·subst h;simp [Dw]
 simp only [above,List.mem_cons,h,false_or,decide_false,Bool.false_or,mM]
 by_cases g:q∈mL P
 ·simp [g]
 simp [g]
structure gi where
 bB:Int
 cnt:Int
def gi.cells (m:gi):List D:=[.int .u64 m.bB,.int .i64 m.cnt]
def eM:List gi→Int→Int→List gi
 |[],j,c=>[⟨j,c⟩]
 |m::l,j,c=>if j=m.bB then ⟨j,c⟩::l else m::eM l j c
theorem Bc:∀(l:List gi) (j c:Int),sI (l.map gi.cells) (.int .u64 j) [.int .i64 c]=(eM l j c).map gi.cells
 |[],_,_=>rfl
 |m::l,j,c=>by
  simp only [List.map_cons,eM]
  by_cases h:j=m.bB
  ·subst h;simp [gi.cells,sI,pM]
  simp only [if_neg h,List.map_cons]
  rw [←Bc l j c]
  simp [gi.cells,sI,pM,h]
theorem kL:∀(l:List gi) (j c:Int),(eM l j c).map gi.bB=if j∈l.map gi.bB then l.map gi.bB else l.map gi.bB++[j]
 |[],_,_=>by simp [eM]
 |m::l,j,c=>by
  simp only [eM]
  by_cases h:j=m.bB
  ·subst h;simp
  rw [if_neg h,List.map_cons,List.map_cons,kL l j c]
  by_cases h2:j∈l.map gi.bB
  ·simp [h2]
  rw [if_neg h2,if_neg (by simp only [List.mem_cons];rintro (g|g);exact h g;exact h2 g)];rfl
def UN (s:cJ) (prev:Option Int) (j:Jb):Bool:=
 if j.id<1 then false else if s.next≤j.id then false else if (match prev with|none=>false|some p=>decide (j.id≤p)) then false else
 if cI j.x≠0 then false else if !gz s.tree j.x.path then false else
 if j.runs then decide (1≤j.left)&&decide (j.left≤j.x.dO) else decide (j.left=0)&&s.queue.contains ⟨j.id,j.x.prio⟩
def mN (s:cJ):Option Int→List Jb→Bool
 |_,[]=>true
 |q,j::r=>UN s q j&&mN s (some j.id) r
def gA (l:List Jb):Nat:=(l.filter fun j=>!j.runs).length
def iY:List Jb→List gi
 |l=>l.foldl (fun m j=>if j.runs then eM m j.id j.x.count else m) []
def eZ (m:List gi) (id:Int):Int:=match m.find? (fun x=>decide (x.bB=id)) with
 |some x=>x.cnt
 |none=>0
def gG (l:List Jb):List Place→List gi→Option (List gi)
 |[],m=>some m
 |x::r,m=>if eZ m x.bB<1 then none else if x.v≠(dZ l x.bB).1.x.fZ then none else gG l r (eM m x.bB (eZ m x.bB-1))
def lF (s:cJ):Bool:=match gG s.aL s.bC.places (iY s.aL) with
 |none=>false
 |some m=>m.all fun x=>decide (x.cnt=0)
def nt (p:aA):List Jb→bz→Option bz
 |[],v=>some v
 |j::r,v=>if !j.runs then nt p r v else if !decide (p=[])&&!mM p j.x.path then nt p r v else
  if !(dG j.x).2||!(iA v (dG j.x).1).2 then none else nt p r (iA v (dG j.x).1).1
def pU (s:cJ) (e:aQ):Bool:=match nt e.path s.aL bz.zero with
 |none=>false
 |some v=>decide (v=e.used)
def gH (s:cJ):Bool:=
 if !nH s.bC then false else if !gP s.tree then false else if !nK s.queue then false else if 32<s.aL.length then false else if s.next<1 then false else
 if 32<max s.ev.l.length s.au.l.length then false else if !mN s none s.aL then false else
 decide (gA s.aL=s.queue.length)&&lF s&&!(s.tree.any fun e=>!pU s e)
def yB (a b:cJ):Bool:=
 decide (a.round=b.round)&&decide (a.next=b.next)&&decide (a.tree=b.tree)&&decide (a.queue=b.queue)&&decide (a.bC.nodes=b.bC.nodes∧a.bC.places=b.bC.places)&&decide (a.aL=b.aL)&&decide (a.ev=b.ev)&&decide (a.au=b.au)
def L3 (n:cF):aA:=eg n.round++eg n.id++eg (u64 n.kind)
def iZ (x:sL):aA:=eg x.first++eg x.l.length++(x.l.map L3).flatten
def HA (j:Jb):aA:=eg j.id++M1 j.x++eg (u64 j.left)
def mO (s:cJ):aA:=eg s.round++eg s.next++Cv s.bC++Hv s.tree++eg s.aL.length++(s.aL.map HA).flatten++iZ s.ev++iZ s.au
abbrev vk (k:Nat) (v:bz):Nat:=(v.at_ k).toNat
def Bd (k:Nat) (l:List aQ):Nat:=(l.map fun e=>vk k e.used).sum
def kids (p:aA) (l:List aQ):List aQ:=l.filter fun x=>!decide (x.path=[])&&decide (parent x.path=p)
theorem sx (k:Nat):vk k bz.zero=0:=by unfold vk bz.at_;split<;>rfl
theorem Qa {v:bz} (h:v.w) {k:Nat} (hk:k<4):v.at_ k=(vk k v:Int)∧vk k v<18446744073709551616:=by
 have:=h k hk;unfold vk;omega
theorem VO {a b:bz} (ha:a.w) (hb:b.w) (h:∀k<4,vk k a=vk k b):a=b:=by
 refine bz.VJ fun k hk=>?_
 rw [(Qa ha hk).1,(Qa hb hk).1,h k hk]
theorem JZ {a b:bz} (h:(iA a b).2=true):(iA a b).1.w:=by
 intro k hk
 have h1:=L2 h k hk
 have h2:=EN.1 h k hk
 rw [h1];omega
theorem vF {a b:bz} (h:(iA a b).2=true) {k:Nat} (hk:k<4):vk k (iA a b).1=vk k a+vk k b:=by
 unfold vk;rw [L2 h k hk];omega
theorem L4 {a b:bz} (ha:a.w) (h:(fY a b).2=true) {k:Nat} (hk:k<4):vk k (fY a b).1=vk k a-vk k b:=by
 have:=(Qa ha hk).2
 unfold vk at*;rw [EO h k hk]
 have h2:((a.at_ k).toNat-(b.at_ k).toNat)%18446744073709551616=(a.at_ k).toNat-(b.at_ k).toNat:=Nat.mod_eq_of_lt (by omega)
 omega
theorem Dx {a b:bz}:(iA a b).2=true↔∀k<4,vk k a+vk k b<18446744073709551616:=EN
theorem uf {a b:bz}:mK a b=true↔∀k<4,vk k a≤vk k b:=so
theorem ph (p:aA):∀(l:List aQ) (s:bz),s.w→(∀k<4,vk k s+Bd k (kids p l)<18446744073709551616)→
 ∃v,pT p l s=some v∧v.w∧∀k<4,vk k v=vk k s+Bd k (kids p l)
 |[],s,hs,_=>⟨s,rfl,hs,by simp [kids,Bd]⟩
 |x::r,s,hs,h=>by
  unfold pT
  by_cases h1:x.path=[]
  ·have e:kids p (x::r)=kids p r:=by simp [kids,h1]
   rw [e] at h ⊢;rw [if_pos h1]
   exact ph p r s hs h
  rw [if_neg h1]
  by_cases h2:parent x.path≠p
  ·have e:kids p (x::r)=kids p r:=by simp [kids,h2]
   rw [e] at h ⊢;rw [if_pos h2]
   exact ph p r s hs h
  have e:kids p (x::r)=x::kids p r:=by simp only [Decidable.not_not] at h2;simp [kids,h1,h2]
  have eu:∀k,Bd k (kids p (x::r))=vk k x.used+Bd k (kids p r):=by intro k;rw [e];simp [Bd]
  simp only [eu] at h ⊢
  rw [if_neg h2]
  have ok:(iA s x.used).2=true:=Dx.2 fun k hk=>by have:=h k hk;omega
  rw [if_pos ok]
  obtain ⟨v,a1,a2,a3⟩:=ph p r (iA s x.used).1 (JZ ok) (fun k hk=>by rw [vF ok hk];have:=h k hk;omega)
  exact ⟨v,a1,a2,fun k hk=>by rw [a3 k hk,vF ok hk];omega⟩
theorem M6 {l:List aQ} {e:aQ} (hu:e.used.w) (h1:∀k<4,vk k e.used≤vk k e.c6) (h2:∀k<4,Bd k (kids e.path l)≤vk k e.used):kT l e=true:=by
 obtain ⟨v,a1,a2,a3⟩:=ph e.path l bz.zero JU (fun k hk=>by rw [sx];have:=h2 k hk;have:=(Qa hu hk).2;omega)
 unfold kT
 rw [a1]
 simp only [Bool.and_eq_true]
 refine ⟨uf.2 h1,uf.2 fun k hk=>?_⟩
 rw [a3 k hk,sx];have:=h2 k hk;omega
structure Tree.ok (l:List aQ):Prop where
 root:∃e r,l=e::r∧e.path=[]
 most:l.length≤16
 FA:l.Pairwise (fun x y=>x.path<y.path)
 named:∀e∈l,named e.path=true
 par:∀e∈l,∃f∈l,f.path=parent e.path
 fits:∀e∈l,∀k<4,vk k e.used≤vk k e.c6
 w:∀e∈l,e.c6.w∧e.used.w
theorem Qb {t:List aQ} (ha:t.Pairwise (fun x y=>x.path<y.path)) {i j:Nat} {x y:aQ} (hx:t[i]?=some x) (hy:t[j]?=some y) (e:x.path=y.path):i=j:=by
 obtain ⟨hi,rfl⟩:=List.getElem?_eq_some_iff.1 hx
 obtain ⟨hj,rfl⟩:=List.getElem?_eq_some_iff.1 hy
 rcases Nat.lt_trichotomy i j with g|g|g
 ·have:=List.pairwise_iff_getElem.1 ha i j hi hj g;rw [e] at this;exact absurd this (jU _)
 ·exact g
 have:=List.pairwise_iff_getElem.1 ha j i hj hi g;rw [e] at this;exact absurd this (jU _)
theorem S3 {t:List aQ} (ha:t.Pairwise (fun x y=>x.path<y.path)) {x y:aQ} (hx:x∈t) (hy:y∈t) (e:x.path=y.path):x=y:=by
 obtain ⟨i,hi⟩:=List.getElem?_of_mem hx
 obtain ⟨j,hj⟩:=List.getElem?_of_mem hy
 have:=Qb ha hi hj e
 subst this;rw [hi] at hj;exact Option.some.inj hj
theorem ug {t:List aQ} {q:aA} (h:0≤bM t q):∃(i:Nat) (e:aQ),t[i]?=some e∧e.path=q∧bM t q=i:=by
 rcases cS (rfl:bM t q=idxOf _ t) with ⟨h1,_⟩|⟨i,x,h1,_,h3,h4,_⟩
 ·omega
 exact ⟨i,x,h3,by simpa using h4,h1⟩
theorem Be {t:List aQ} {e:aQ} (he:e∈t):0≤bM t e.path:=by
 rcases cS (rfl:bM t e.path=idxOf _ t) with ⟨_,h2,_⟩|⟨i,x,h1,_⟩
 ·rw [List.findIdx?_eq_none_iff] at h2;have:=h2 e he;simp at this
 omega
theorem J7 {t:List aQ} {q:aA}:bM t q<0↔∀e∈t,e.path≠q:=by
 constructor
 ·rintro h e he rfl;have:=Be he;omega
 intro h
 refine Int.not_le.1 fun g=>?_
 obtain ⟨i,e,h1,h2,_⟩:=ug g
 exact h e (List.mem_of_getElem? h1) h2
theorem Bf {all:List aQ} (hn:∀e∈all,named e.path=true) (hp:∀e∈all,∃f∈all,f.path=parent e.path):
 ∀(r:List aQ) (q:aA),r.Pairwise (fun x y=>x.path<y.path)→(∀e∈r,q<e.path)→(∀e∈r,e∈all)→eJ all (some q) r=true
 |[],_,_,_,_=>rfl
 |e::r,q,ha,hq,hm=>by
  rw [List.pairwise_cons] at ha
  have h1:(!sle e.path q)=true:=L0.2 (hq e (by simp))
  have h2:=hn e (hm e (by simp))
  have h3:(!decide (bM all (parent e.path)<0))=true:=by
   obtain ⟨f,hf,g⟩:=hp e (hm e (by simp))
   have:=Be hf;rw [g] at this
   simp;omega
  unfold eJ
  rw [h1,h2,h3,Bf hn hp r e.path ha.2 (fun x hx=>ha.1 x hx) (fun x hx=>hm x (by simp [hx]))];rfl
theorem J8 {l:List aQ} (h:Tree.ok l) (hk:∀e∈l,∀k<4,Bd k (kids e.path l)≤vk k e.used):gP l=true:=by
 obtain ⟨e,r,rfl,he⟩:=h.root
 have hm:=h.most
 have h1:eJ (e::r) none (e::r)=true:=by
  rw [eJ]
  have ha:=h.FA
  rw [List.pairwise_cons] at ha
  exact Bf h.named h.par r e.path ha.2 (fun x hx=>ha.1 x hx) (fun x hx=>by simp [hx])
 have h2:((e::r).any fun x=>!kT (e::r) x)=false:=by
  rw [List.any_eq_false];intro x hx
  rw [M6 (h.w x hx).2 (h.fits x hx) (hk x hx)];simp
 unfold gP
 rw [if_neg (by simp),if_neg (by omega),if_neg (by simp [he]),h1,h2];rfl
def vG (f:aQ→aQ×Int) (A:List aA) (t:List aQ):List aQ:=t.map fun e=>if e.path∈A then (f e).1 else e
theorem vH (f:aQ→aQ×Int) {t:List aQ} (ha:t.Pairwise (fun x y=>x.path<y.path)):∀(A:List aA) (out:List aQ),(∀q∈A,0≤bM t q)→out.length=t.length→
 ((∃e∈t,e.path∈A∧(f e).2≠0)∧(jS f t A out).1=t∧(jS f t A out).2≠0)∨
 ((∀e∈t,e.path∈A→(f e).2=0)∧(jS f t A out).2=0∧(jS f t A out).1.length=t.length∧∀(i:Nat) (e:aQ),t[i]?=some e→(jS f t A out).1[i]?=if e.path∈A then some (f e).1 else out[i]?)
 |[],out,_,hl=>.inr ⟨by simp,rfl,hl,by intro i e _;simp [jS]⟩
 |q::A,out,hq,hl=>by
  obtain ⟨i,e,h1,h2,h3⟩:=ug (hq q (by simp))
  have hg:t.getD (bM t q).toNat aQ.zero=e:=by rw [h3,Int.toNat_natCast,List.getD_eq_getElem?_getD,h1];rfl
  have hem:=List.mem_of_getElem? h1
  have hil:=(List.getElem?_eq_some_iff.1 h1).1
  unfold jS
  rw [hg]
  by_cases h0:(f e).2≠0
  ·rw [if_pos h0];exact .inl ⟨⟨e,hem,by simp [h2],h0⟩,rfl,h0⟩
  rw [if_neg h0]
  simp only [Decidable.not_not] at h0
  rw [h3,Int.toNat_natCast]
  rcases vH f ha A (out.set i (f e).1) (fun q Ym=>hq q (by simp [Ym])) (by simp [hl]) with ⟨⟨x,b1,b2,b3⟩,b4,b5⟩|⟨b1,b2,b3,b4⟩
  ·exact .inl ⟨⟨x,b1,by simp [b2],b3⟩,b4,b5⟩
  refine .inr ⟨?_,b2,b3,?_⟩
  ·intro x hx hp
   rcases List.mem_cons.1 hp with g|g
   ·rw [S3 ha hx hem (by rw [g,h2])];exact h0
   exact b1 x hx g
  intro j x hx
  rw [b4 j x hx]
  by_cases g:x.path∈A
  ·rw [if_pos g,if_pos (by simp [g])]
  rw [if_neg g]
  by_cases g2:x.path=q
  ·have:=Qb ha hx h1 (by rw [g2,h2])
   subst this
   rw [hx] at h1;cases h1
   rw [if_pos (by simp [g2]),List.getElem?_set_self (by omega)]
  have hji:i≠j:=by rintro rfl;rw [hx] at h1;cases h1;exact g2 h2
  rw [if_neg (by simp [g2,g]),List.getElem?_set_ne hji]
theorem yC (f:aQ→aQ×Int) {t:List aQ} (ha:t.Pairwise (fun x y=>x.path<y.path)) (p:aA):
 ((pS f t p).1=t∧(pS f t p).2≠0∧(named p=false∨(∃q∈above p,∀e∈t,e.path≠q)∨∃e∈t,e.path∈above p∧(f e).2≠0))∨
 (pS f t p=(vG f (above p) t,0)∧named p=true∧(∀q∈above p,∃e∈t,e.path=q)∧∀e∈t,e.path∈above p→(f e).2=0):=by
 unfold pS
 cases hn:named p with
 |false=>exact .inl ⟨rfl,by simp,.inl rfl⟩
 |true=>
  simp only [Bool.not_true,Bool.false_eq_true,if_false]
  by_cases h:((above p).any fun q=>decide (bM t q<0))=true
  ·rw [if_pos h]
   obtain ⟨q,hq,g⟩:=List.any_eq_true.1 h
   exact .inl ⟨rfl,by simp,.inr (.inl ⟨q,hq,J7.1 (by simpa using g)⟩)⟩
  rw [if_neg h]
  have hq:∀q∈above p,0≤bM t q:=fun q hq=>Int.not_lt.1 fun g=>h (List.any_eq_true.2 ⟨q,hq,by simpa using g⟩)
  rcases vH f ha (above p) t hq rfl with ⟨b1,b2,b3⟩|⟨b1,b2,b3,b4⟩
  ·exact .inl ⟨b2,b3,.inr (.inr b1)⟩
  refine .inr ⟨?_,by trivial,fun q hm=>?_,b1⟩
  ·refine Prod.ext ?_ b2
   refine List.ext_getElem? fun i=>?_
   unfold vG
   rw [List.getElem?_map]
   cases hi:t[i]? with
   |none=>rw [List.getElem?_eq_none_iff] at hi;simp only [Option.map_none];rw [List.getElem?_eq_none_iff];omega
   |some e=>
    rw [b4 i e hi]
    simp only [Option.map_some]
    split
    ·rfl
    exact hi
  obtain ⟨i,e,g1,g2,_⟩:=ug (hq q hm)
  exact ⟨e,List.mem_of_getElem? g1,g2⟩
theorem vI {v:bz} {e:aQ}:(fW v e).2=0↔(iA e.used v).2=true∧mK (iA e.used v).1 e.c6=true:=by
 unfold fW
 cases h1:(iA e.used v).2<;>cases h2:mK (iA e.used v).1 e.c6<;>simp
theorem yD {v:bz} {e:aQ} (h:(fW v e).2=0):(fW v e).1={e with used:=(iA e.used v).1}:=by
 obtain ⟨h1,h2⟩:=vI.1 h
 unfold fW;rw [h1,h2];rfl
theorem vJ {v:bz} {e:aQ}:(ej v e).2=0↔(fY e.used v).2=true:=by
 unfold ej
 cases h1:(fY e.used v).2<;>simp
theorem yE {v:bz} {e:aQ} (h:(ej v e).2=0):(ej v e).1={e with used:=(fY e.used v).1}:=by
 unfold ej;rw [vJ.1 h];rfl
structure fy (t u:List aQ):Prop where
 len:u.length=t.length
 at_:∀(i:Nat) (e:aQ),t[i]?=some e→∃x,u[i]?=some x∧x.path=e.path∧x.c6=e.c6
theorem fy.paths {t u:List aQ} (h:fy t u):u.map (·.path)=t.map (·.path):=by
 refine List.ext_getElem? fun i=>?_
 rw [List.getElem?_map,List.getElem?_map]
 cases hi:t[i]? with
 |none=>rw [List.getElem?_eq_none_iff] at hi;rw [List.getElem?_eq_none_iff.2 (by rw [h.len];exact hi)]
 |some e=>obtain ⟨x,h1,h2,_⟩:=h.at_ i e hi;rw [h1];simp [h2]
theorem fy.back {t u:List aQ} (h:fy t u) {x:aQ} (hx:x∈u):∃e∈t,x.path=e.path∧x.c6=e.c6:=by
 obtain ⟨i,hi⟩:=List.getElem?_of_mem hx
 have hl:=(List.getElem?_eq_some_iff.1 hi).1
 rw [h.len] at hl
 obtain ⟨y,h1,h2,h3⟩:=h.at_ i t[i] (List.getElem?_eq_getElem hl)
 rw [hi] at h1;cases h1
 exact ⟨t[i],List.getElem_mem hl,h2,h3⟩
theorem fy.mem {t u:List aQ} (h:fy t u) {e:aQ} (he:e∈t):∃x∈u,x.path=e.path:=by
 obtain ⟨i,hi⟩:=List.getElem?_of_mem he
 obtain ⟨x,h1,h2,_⟩:=h.at_ i e hi
 exact ⟨x,List.mem_of_getElem? h1,h2⟩
theorem fy.FA {t u:List aQ} (h:fy t u) (ha:t.Pairwise (fun x y=>x.path<y.path)):u.Pairwise (fun x y=>x.path<y.path):=by
 have h1:(t.map (·.path)).Pairwise (·<·):=List.pairwise_map.2 ha
 rw [←h.paths] at h1
 exact List.pairwise_map.1 h1
theorem fy.ok {t u:List aQ} (h:fy t u) (ho:Tree.ok t) (hf:∀e∈u,∀k<4,vk k e.used≤vk k e.c6) (hw:∀e∈u,e.used.w):Tree.ok u where
 root:=by
  obtain ⟨e,r,rfl,he⟩:=ho.root
  obtain ⟨x,h1,h2,_⟩:=h.at_ 0 e rfl
  cases u with
  |nil=>cases h1
  |cons y r2=>simp at h1;subst h1;exact ⟨y,r2,rfl,by rw [h2,he]⟩
 most:=by rw [h.len];exact ho.most
 FA:=h.FA ho.FA
 named:=fun x hx=>by obtain ⟨e,he,h1,_⟩:=h.back hx;rw [h1];exact ho.named e he
 par:=fun x hx=>by
  obtain ⟨e,he,h1,_⟩:=h.back hx
  obtain ⟨f,hf,h2⟩:=ho.par e he
  obtain ⟨y,hy,h3⟩:=h.mem hf
  exact ⟨y,hy,by rw [h3,h2,h1]⟩
 fits:=hf
 w:=fun x hx=>by obtain ⟨e,he,_,h1⟩:=h.back hx;exact ⟨by rw [h1];exact (ho.w e he).1,hw x hx⟩
theorem Bg {f:aQ→aQ×Int} {A:List aA} {t:List aQ} (h:∀e∈t,e.path∈A→(f e).1.path=e.path∧(f e).1.c6=e.c6):fy t (vG f A t) where
 len:=by simp [vG]
 at_:=by
  intro i e hi
  refine ⟨if e.path∈A then (f e).1 else e,by rw [vG,List.getElem?_map,hi];rfl,?_⟩
  split
  ·rename_i g;exact h e (List.mem_of_getElem? hi) g
  exact ⟨rfl,rfl⟩
abbrev Jb.tot (j:Jb):bz:=(dG j.x).1
def fS (k:Nat) (p:aA) (j:Jb):Nat:=if j.runs=true∧p∈above j.x.path then vk k j.tot else 0
def kM (k:Nat) (p:aA) (l:List Jb):Nat:=(l.map (fS k p)).sum
theorem jX (k:Nat) (p:aA) (j:Jb) (l:List Jb):kM k p (j::l)=fS k p j+kM k p l:=by simp [kM]
theorem pi (p:aA):∀(l:List Jb) (v:bz),v.w→(∀j∈l,j.runs=true→(dG j.x).2=true)→(∀k<4,vk k v+kM k p l<18446744073709551616)→
 ∃u,nt p l v=some u∧u.w∧∀k<4,vk k u=vk k v+kM k p l
 |[],v,hv,_,_=>⟨v,rfl,hv,by simp [kM]⟩
 |j::l,v,hv,ht,h=>by
  simp only [jX] at h ⊢
  unfold nt
  by_cases h1:j.runs=true
  ·rw [if_neg (by simp [h1])]
   by_cases h2:(!decide (p=[])&&!mM p j.x.path)=true
   ·have h3:¬p∈above j.x.path:=by
     have:=yA (P:=j.x.path) (q:=p)
     intro g
     rw [decide_eq_true g] at this
     simp only [Bool.and_eq_true,Bool.not_eq_true'] at h2
     rw [h2.1,h2.2] at this;simp at this
    have h4:∀k,fS k p j=0:=fun k=>by simp [fS,h3]
    rw [if_pos h2]
    simp only [h4,Nat.zero_add] at h ⊢
    exact pi p l v hv (fun x hx=>ht x (by simp [hx])) h
   have h3:p∈above j.x.path:=by
    have:=yA (P:=j.x.path) (q:=p)
    refine Decidable.byContradiction fun g=>?_
    rw [decide_eq_false g] at this
    rw [Bool.or_eq_false_iff] at this
    rw [this.1,this.2] at h2;simp at h2
   have h4:∀k,fS k p j=vk k j.tot:=fun k=>by simp [fS,h1,h3]
   simp only [h4] at h ⊢
   have ok:(iA v j.tot).2=true:=Dx.2 fun k hk=>by have:=h k hk;omega
   have ht1:=ht j (by simp) h1
   rw [if_neg h2,if_neg (by rw [ht1,ok];simp)]
   obtain ⟨u,a1,a2,a3⟩:=pi p l (iA v j.tot).1 (JZ ok) (fun x hx=>ht x (by simp [hx])) (fun k hk=>by rw [vF ok hk];have:=h k hk;omega)
   exact ⟨u,a1,a2,fun k hk=>by rw [a3 k hk,vF ok hk];omega⟩
  have h4:∀k,fS k p j=0:=fun k=>by simp [fS,h1]
  rw [if_pos (by simpa using h1)]
  simp only [h4,Nat.zero_add] at h ⊢
  exact pi p l v hv (fun x hx=>ht x (by simp [hx])) h
theorem Qd {s:cJ} {e:aQ} (hu:e.used.w) (ht:∀j∈s.aL,j.runs=true→(dG j.x).2=true) (h:∀k<4,vk k e.used=kM k e.path s.aL):pU s e=true:=by
 obtain ⟨u,a1,a2,a3⟩:=pi e.path s.aL bz.zero JU ht (fun k hk=>by rw [sx,←h k hk];have:=(Qa hu hk).2;omega)
 unfold pU
 rw [a1]
 simp only [decide_eq_true_eq]
 exact VO a2 hu fun k hk=>by rw [a3 k hk,sx,h k hk];omega
theorem Bh {α:Type}:∀l:List α,(l.map fun _=>0).sum=0
 |[]=>rfl
 |_::l=>by simp only [List.map_cons,List.sum_cons,Bh l]
theorem L5 (k:Nat) (p:aA) (j:Jb):∀(K:List aA),K.Nodup→(∀q∈K,q≠[]∧parent q=p)→(K.map fun q=>fS k q j).sum≤fS k p j
 |[],_,_=>Nat.zero_le _
 |q::K,hn,hp=>by
  rw [List.nodup_cons] at hn
  have hq:=hp q (by simp)
  by_cases h:j.runs=true∧q∈above j.x.path
  ·have h0:(K.map fun q=>fS k q j).sum=0:=by
    have:∀r∈K,fS k r j=0:=fun r hr=>by
     unfold fS;rw [if_neg];rintro ⟨_,g⟩
     have pY:=hp r (by simp [hr])
     exact hn.1 (by rw [JX h.2 g hq.1 pY.1 (by rw [hq.2,pY.2])];exact hr)
    rw [List.map_congr_left this,Bh]
   have h1:p∈above j.x.path:=by rw [←hq.2];exact JY h.2
   simp only [List.map_cons,List.sum_cons]
   rw [h0]
   simp [fS,h,h1]
  simp only [List.map_cons,List.sum_cons]
  rw [show fS k q j=0 by unfold fS;rw [if_neg h],Nat.zero_add]
  exact L5 k p j K hn.2 (fun r hr=>hp r (by simp [hr]))
theorem sum_add {α:Type} (f g:α→Nat):∀l:List α,(l.map fun x=>f x+g x).sum=(l.map f).sum+(l.map g).sum
 |[]=>rfl
 |x::l=>by simp only [List.map_cons,List.sum_cons,sum_add f g l];omega
theorem HB (k:Nat) (p:aA) (K:List aA) (hn:K.Nodup) (hp:∀q∈K,q≠[]∧parent q=p):∀(l:List Jb),(K.map fun q=>kM k q l).sum≤kM k p l
 |[]=>by
  have:(K.map fun q=>kM k q []).sum=0:=Bh K
  rw [this];exact Nat.zero_le _
 |j::l=>by
  simp only [jX]
  rw [sum_add]
  exact Nat.add_le_add (L5 k p j K hn hp) (HB k p K hn hp l)
theorem S4 {t:List aQ} (ha:t.Pairwise (fun x y=>x.path<y.path)) {l:List Jb} {k:Nat} (h:∀e∈t,vk k e.used=kM k e.path l) (p:aA):Bd k (kids p t)≤kM k p l:=by
 have e:Bd k (kids p t)=(((kids p t).map (·.path)).map fun q=>kM k q l).sum:=by
  unfold Bd;rw [List.map_map]
  congr 1
  exact List.map_congr_left fun x hx=>h x (List.mem_filter.1 hx).1
 rw [e]
 refine HB k p _ ?_ ?_ l
 ·rw [List.nodup_iff_pairwise_ne,List.pairwise_map]
  exact (ha.filter _).imp fun h g=>by rw [g] at h;exact jU _ h
 intro q hq
 obtain ⟨x,hx,rfl⟩:=List.mem_map.1 hq
 have:=(List.mem_filter.1 hx).2
 simpa using this
abbrev HC (l:List bZ):Prop:=l.Pairwise (fun a b=>cV a b=true)
abbrev Bk (l:List bZ):Prop:=l.Pairwise (fun a b=>a.id≠b.id)
theorem Bl {a b:bZ}:cV a b=true↔b.prio<a.prio∨(a.prio=b.prio∧a.id<b.id):=by simp [cV]
theorem EQ {a b c:bZ} (h:cV a b=true) (g:cV b c=true):cV a c=true:=by
 rw [Bl] at*;omega
theorem Ka {a b:bZ} (h:a.id≠b.id) (g:¬cV a b=true):cV b a=true:=by
 rw [Bl] at*;omega
theorem HD (l:List bZ) (e:bZ):tZ l e≤l.length∧(∀x∈l.take (tZ l e),¬cV e x=true)∧(∀x,l[tZ l e]?=some x→cV e x=true):=by
 unfold tZ
 cases h:l.findIdx? (fun x=>cV e x) with
 |none=>
  rw [List.findIdx?_eq_none_iff] at h
  refine ⟨Nat.le_refl _,?_,?_⟩
  ·intro x hx;rw [List.take_length] at hx;simp [h x hx]
  intro x hx;simp at hx
 |some k=>
  obtain ⟨hk,hp,hb⟩:=List.findIdx?_eq_some_iff_getElem.1 h
  refine ⟨Nat.le_of_lt hk,?_,?_⟩
  ·intro x hx
   obtain ⟨j,hj⟩:=List.getElem?_of_mem hx
   simp only [List.getElem?_take] at hj
   by_cases g:j<k
   ·rw [if_pos g] at hj
    have:=hb j g
    rw [List.getElem?_eq_getElem (by omega)] at hj
    cases hj;simpa using this
   rw [if_neg g] at hj;cases hj
  intro x hx
  simp only at hx
  rw [List.getElem?_eq_getElem hk] at hx;cases hx;exact hp
theorem HE {l:List bZ} (ha:HC l) {e:bZ} (hn:∀x∈l,x.id≠e.id):HC (l.take (tZ l e)++e::l.drop (tZ l e)):=by
 obtain ⟨h1,h2,h3⟩:=HD l e
 have hsp:HC (l.take (tZ l e)++l.drop (tZ l e)):=by rw [List.take_append_drop];exact ha
 rw [HC,List.pairwise_append] at hsp ⊢
 obtain ⟨a1,a2,a3⟩:=hsp
 have hb:∀x∈l.take (tZ l e),cV x e=true:=fun x hx=>Ka (a:=e) (by have:=hn x (List.mem_of_mem_take hx);exact fun g=>this g.symm) (h2 x hx)
 have hc:∀x∈l.drop (tZ l e),cV e x=true:=by
  cases hd:l.drop (tZ l e) with
  |nil=>intro x hx;cases hx
  |cons y r=>
   have hy:l[tZ l e]?=some y:=by
    have:(l.drop (tZ l e))[0]?=some y:=by rw [hd];rfl
    rw [List.getElem?_drop,Nat.add_zero] at this;exact this
   have g:=h3 y hy
   intro x hx
   rcases List.mem_cons.1 hx with rfl|hx
   ·exact g
   rw [hd,List.pairwise_cons] at a2
   exact EQ g (a2.1 x hx)
 refine ⟨a1,List.pairwise_cons.2 ⟨hc,a2⟩,?_⟩
 intro x hx y hy
 rcases List.mem_cons.1 hy with rfl|hy
 ·exact hb x hx
 exact a3 x hx y hy
theorem Bm {l:List bZ} {k:Nat} {x y:bZ}:y∈l.take k++x::l.drop k↔y∈l∨y=x:=by
 conv=>rhs;rw [←List.take_append_drop k l]
 simp only [List.mem_append,List.mem_cons]
 constructor
 ·rintro (h|h|h)
  ·exact .inl (.inl h)
  ·exact .inr h
  exact .inl (.inr h)
 rintro ((h|h)|h)
 ·exact .inl h
 ·exact .inr (.inr h)
 exact .inr (.inl h)
theorem HF {l:List bZ} (hi:Bk l) {e:bZ} (hn:∀x∈l,x.id≠e.id) (k:Nat):Bk (l.take k++e::l.drop k):=by
 have hsp:Bk (l.take k++l.drop k):=by rw [List.take_append_drop];exact hi
 rw [Bk,List.pairwise_append] at hsp ⊢
 obtain ⟨a1,a2,a3⟩:=hsp
 refine ⟨a1,List.pairwise_cons.2 ⟨fun x hx=>fun g=>hn x (List.mem_of_mem_drop hx) g.symm,a2⟩,?_⟩
 intro x hx y hy
 rcases List.mem_cons.1 hy with rfl|hy
 ·exact hn x (List.mem_of_mem_take hx)
 exact a3 x hx y hy
theorem Kb {l:List bZ} {id:Int} (h:0≤fQ l id):∃x∈l,x.id=id:=by
 rcases cS (rfl:fQ l id=idxOf _ l) with ⟨h1,_⟩|⟨i,x,h1,_,h3,h4,_⟩
 ·omega
 exact ⟨x,List.mem_of_getElem? h3,by simpa using h4⟩
theorem rj (l:List bZ) (e:bZ):((jF l e).1=l∧(jF l e).2≠0∧(gw e=true∨(∃x∈l,x.id=e.id)∨32≤l.length))∨
 (jF l e=(l.take (tZ l e)++e::l.drop (tZ l e),0)∧gw e=false∧(∀x∈l,x.id≠e.id)∧l.length<32):=by
 unfold jF
 cases h1:gw e with
 |true=>exact .inl ⟨rfl,by simp,.inl rfl⟩
 |false=>
  simp only [Bool.false_eq_true,if_false]
  by_cases h2:0≤fQ l e.id
  ·rw [if_pos h2];exact .inl ⟨rfl,by simp,.inr (.inl (Kb h2))⟩
  rw [if_neg h2]
  by_cases h3:32≤l.length
  ·rw [if_pos h3];exact .inl ⟨rfl,by simp,.inr (.inr h3)⟩
  rw [if_neg h3]
  refine .inr ⟨rfl,by trivial,?_,by omega⟩
  intro x hx g
  refine h2 ?_
  rcases cS (rfl:fQ l e.id=idxOf _ l) with ⟨_,h4,_⟩|⟨i,x,h4,_⟩
  ·rw [List.findIdx?_eq_none_iff] at h4;have:=h4 x hx;simp [g] at this
  omega
theorem erase_filter {l:List bZ} (hi:Bk l) {k:Nat} {x:bZ} (hx:l[k]?=some x):l.eraseIdx k=l.filter fun y=>!decide (y.id=x.id):=by
 induction l generalizing k with
 |nil=>simp at hx
 |cons y r ih=>
  rw [Bk,List.pairwise_cons] at hi
  cases k with
  |zero=>
   simp at hx;subst hx
   have:r.filter (fun z=>!decide (z.id=y.id))=r:=by
    rw [List.filter_eq_self];intro z hz;have:=hi.1 z hz;simp;exact fun g=>this g.symm
   simp [this]
  |succ k=>
   simp only [List.getElem?_cons_succ] at hx
   have hne:=hi.1 x (List.mem_of_getElem? hx)
   rw [List.eraseIdx_cons_succ,ih hi.2 hx]
   simp [hne]
theorem lG {l:List bZ} (hi:Bk l) (id:Int):(A6 l id).1=l.filter fun y=>!decide (y.id=id):=by
 unfold A6
 cases h:l.findIdx? (fun x=>decide (x.id=id)) with
 |none=>
  rw [List.findIdx?_eq_none_iff] at h
  exact (List.filter_eq_self.2 fun x hx=>by simp [h x hx]).symm
 |some k=>
  obtain ⟨hk,hp,_⟩:=List.findIdx?_eq_some_iff_getElem.1 h
  simp only [decide_eq_true_eq] at hp
  show l.eraseIdx k=_
  rw [erase_filter hi (List.getElem?_eq_getElem hk),hp]
theorem Dy {l:List bZ} (hi:Bk l) {k:Nat} {x:bZ} (hx:l[k]?=some x):fQ l x.id=k:=by
 rcases cS (rfl:fQ l x.id=idxOf _ l) with ⟨_,h2,_⟩|⟨i,y,h1,_,h3,h4,_⟩
 ·rw [List.findIdx?_eq_none_iff] at h2;have:=h2 x (List.mem_of_getElem? hx);simp at this
 rw [h1]
 simp only [decide_eq_true_eq] at h4
 obtain ⟨g1,rfl⟩:=List.getElem?_eq_some_iff.1 hx
 obtain ⟨g2,rfl⟩:=List.getElem?_eq_some_iff.1 h3
 rcases Nat.lt_trichotomy i k with g|g|g
 ·exact absurd h4 (List.pairwise_iff_getElem.1 hi i k g2 g1 g)
 ·rw [g]
 exact absurd h4.symm (List.pairwise_iff_getElem.1 hi k i g1 g2 g)
theorem Bn {all:List bZ} (hi:Bk all) (hw:∀q∈all,gw q=false):∀(r:List bZ) (k:Nat) (q:Option bZ),all.drop k=r→HC r→(∀p,q=some p→∀x∈r,cV p x=true)→iX all q k r=true
 |[],_,_,_,_,_=>rfl
 |e::r,k,q,hd,ha,hq=>by
  rw [HC,List.pairwise_cons] at ha
  have he:all[k]?=some e:=by
   have:(all.drop k)[0]?=some e:=by rw [hd];rfl
   rw [List.getElem?_drop,Nat.add_zero] at this;exact this
  have h1:=hw e (List.mem_of_getElem? he)
  have h2:=Dy hi he
  have h3:MZ q e=true:=by
   cases q with
   |none=>rfl
   |some p=>exact hq p rfl e (by simp)
  have h4:all.drop (k+1)=r:=by rw [←List.drop_drop,hd];rfl
  unfold iX
  rw [h1,h2,h3,Bn hi hw r (k+1) (some e) h4 ha.2 (fun p hp x hx=>by cases hp;exact ha.1 x hx)]
  simp
theorem M7 {l:List bZ} (hi:Bk l) (ha:HC l) (hw:∀q∈l,gw q=false) (hl:l.length≤32):nK l=true:=by
 unfold nK
 rw [Bn hi hw l 0 none (by simp) ha (fun p hp=>by cases hp)]
 simpa using hl
theorem uh (m:List gi) (j c i:Int):eZ (eM m j c) i=if i=j then c else eZ m i:=by
 induction m with
 |nil=>
  simp only [eM,eZ,List.find?_cons,List.find?_nil]
  by_cases h:i=j
  ·simp [h]
  have:¬j=i:=fun g=>h g.symm
  simp [h,this]
 |cons x m ih=>
  unfold eZ at ih ⊢
  simp only [eM]
  by_cases h:j=x.bB
  ·simp only [if_pos h,List.find?_cons]
   by_cases g:i=j
   ·subst g;simp
   have h2:¬j=i:=fun e=>g e.symm
   have h3:¬x.bB=i:=fun e=>g (by rw [h,e])
   simp [g,h2,h3]
  simp only [if_neg h,List.find?_cons]
  by_cases g:x.bB=i
  ·have:¬i=j:=fun e=>h (by rw [←e,g])
   simp [g,this]
  simp only [g,decide_false]
  exact ih
theorem pn {m:List gi} (h:(m.map gi.bB).Nodup) (j c:Int):((eM m j c).map gi.bB).Nodup:=by
 rw [kL];split
 ·exact h
 rename_i g
 rw [List.nodup_append]
 exact ⟨h,by simp,fun a ha b hb e=>g (by simp at hb;rw [←hb,←e];exact ha)⟩
theorem Kc {m:List gi} (h:(m.map gi.bB).Nodup) {x:gi} (hx:x∈m):eZ m x.bB=x.cnt:=by
 induction m with
 |nil=>cases hx
 |cons y m ih=>
  rw [List.map_cons,List.nodup_cons] at h
  unfold eZ at ih ⊢
  rw [List.find?_cons]
  rcases List.mem_cons.1 hx with rfl|hx
  ·simp
  have:¬y.bB=x.bB:=fun g=>h.1 (by rw [g];exact List.mem_map_of_mem hx)
  simp only [this,decide_false]
  exact ih h.2 hx
abbrev tc (id:Int) (ps:List Place):Nat:=(ps.filter fun x=>decide (x.bB=id)).length
theorem HG (id:Int) (x:Place) (ps:List Place):tc id (x::ps)=(if x.bB=id then 1 else 0)+tc id ps:=by
 unfold tc
 rw [List.filter_cons]
 by_cases h:x.bB=id
 ·simp [h];omega
 simp [h]
theorem vK (id:Int):∀(l:List Jb) (m:List gi),(l.Pairwise fun a b=>a.id<b.id)→(m.map gi.bB).Nodup→
 ((l.foldl (fun m j=>if j.runs then eM m j.id j.x.count else m) m).map gi.bB).Nodup∧
 eZ (l.foldl (fun m j=>if j.runs then eM m j.id j.x.count else m) m) id=(match l.find? (fun j=>decide (j.id=id)&&j.runs) with|some j=>j.x.count|none=>eZ m id)
 |[],m,_,h=>⟨h,rfl⟩
 |j::l,m,ha,h=>by
  rw [List.pairwise_cons] at ha
  rw [List.foldl_cons]
  by_cases hr:j.runs=true
  ·rw [if_pos hr]
   obtain ⟨a1,a2⟩:=vK id l (eM m j.id j.x.count) ha.2 (pn h _ _)
   refine ⟨a1,?_⟩
   rw [a2,List.find?_cons]
   by_cases g:j.id=id
   ·have hno:l.find? (fun j=>decide (j.id=id)&&j.runs)=none:=by
     rw [List.find?_eq_none];intro x hx;have:=ha.1 x hx
     simp;intro e;omega
    rw [hno,uh]
    simp [g,hr]
   simp only [g,decide_false,Bool.false_and]
   cases l.find? (fun j=>decide (j.id=id)&&j.runs) with
   |some j=>rfl
   |none=>simp only;rw [uh,if_neg (fun e=>g e.symm)]
  rw [if_neg hr]
  obtain ⟨a1,a2⟩:=vK id l m ha.2 h
  refine ⟨a1,?_⟩
  rw [a2,List.find?_cons]
  simp [hr]
theorem vL {l:List Jb}:∀(ps:List Place) (m:List gi),(m.map gi.bB).Nodup→(∀x∈ps,x.v=(dZ l x.bB).1.x.fZ)→(∀id,eZ m id=(tc id ps:Int))→
 ∃m',gG l ps m=some m'∧m'.all (fun x=>decide (x.cnt=0))=true
 |[],m,hn,_,hc=>⟨m,rfl,by
  rw [List.all_eq_true];intro x hx
  have:=hc x.bB;rw [Kc hn hx] at this;simpa [tc] using this⟩
 |x::ps,m,hn,hv,hc=>by
  have h1:=hc x.bB
  rw [HG,if_pos rfl] at h1
  unfold gG
  rw [if_neg (by omega),if_neg (by have:=hv x (by simp);simp [this])]
  refine vL ps _ (pn hn _ _) (fun y hy=>hv y (by simp [hy])) fun id=>?_
  rw [uh]
  have h2:=hc id
  rw [HG] at h2
  by_cases g:id=x.bB
  ·subst g;rw [if_pos rfl];omega
  rw [if_neg g,h2,if_neg (fun e=>g e.symm)];omega
theorem yF (l:List Node) (bB:Int) (v:bz):∀(names:List aA) (ps:List Place),(fJ l bB v names ps).1=none→(fJ l bB v names ps).2=ps++names.map (fun n=>⟨bB,n,v⟩)∧∀n∈names,(fV n l).2=true∧(fV n l).1.up=true
 |[],ps,_=>by simp [fJ]
 |n::r,ps,g=>by
  unfold fJ at g ⊢
  split
  ·rename_i h1;rw [if_pos h1] at g;cases g
  rename_i h1
  rw [if_neg h1] at g
  obtain ⟨a,b⟩:=yF l bB v r _ g
  refine ⟨by rw [a];simp,?_⟩
  intro m hm
  rcases List.mem_cons.1 hm with rfl|hm
  ·have h0:pR m v l ps=0:=by omega
   exact ⟨(uc h0).1,(uc h0).2.1⟩
  exact b m hm
theorem yG (l:List Node) (bB:Int) (v:bz):∀(names:List aA) (ps:List Place) (e:Int),(fJ l bB v names ps).1=some e→e≠0
 |[],ps,e,g=>by cases g
 |n::r,ps,e,g=>by
  unfold fJ at g
  split at g
  ·cases g;assumption
  exact yG l bB v r _ e g
theorem Bo (p:cQ) (bB:Int) (names:List aA) (v:bz):((wP p bB names v).1=p∧(wP p bB names v).2≠0)∨
 ((wP p bB names v)=(⟨p.nodes,p.places++names.map (fun n=>⟨bB,n,v⟩)⟩,0)∧∀n∈names,(fV n p.nodes).2=true∧(fV n p.nodes).1.up=true):=by
 unfold wP
 split
 ·rename_i e he;exact .inl ⟨rfl,yG _ _ _ _ _ _ he⟩
 rename_i he
 obtain ⟨a,b⟩:=yF _ _ _ _ _ he
 exact .inr ⟨by rw [a],b⟩
theorem HH {p:cQ} (h:p.ok) (hw:p.w) (bB:Int):(vE p bB).ok∧(vE p bB).w:=⟨SW h hw _,VK hw _⟩
def wX (p:cQ):List cw:=p.nodes.filterMap (sY p.nodes p.places)
theorem gB {x:Ask}:cI x=0↔mM x.path x.path=true∧(1≤x.count∧x.count≤8)∧(0≤x.prio∧x.prio≤9)∧(1≤x.dO∧x.dO≤100)∧pe x.bX=true∧(dG x).2=true:=by
 unfold cI
 have e:(!Ou x.count 1 8||!Ou x.prio 0 9||!Ou x.dO 1 100)=!decide ((1≤x.count∧x.count≤8)∧(0≤x.prio∧x.prio≤9)∧(1≤x.dO∧x.dO≤100)):=by
  unfold Ou
  by_cases h1:1≤x.count<;>by_cases h2:x.count≤8<;>by_cases h3:0≤x.prio<;>by_cases h4:x.prio≤9<;>by_cases h5:1≤x.dO<;>by_cases h6:x.dO≤100<;>simp [h1,h2,h3,h4,h5,h6]
 rw [e]
 by_cases h1:mM x.path x.path=true
 ·by_cases h2:(1≤x.count∧x.count≤8)∧(0≤x.prio∧x.prio≤9)∧(1≤x.dO∧x.dO≤100)
  ·by_cases h3:pe x.bX=true
   ·by_cases h4:(dG x).2=true
    ·simp [h1,h2,h3,h4]
    simp [h1,h2,h3,h4]
   simp [h1,h2,h3]
  simp only [h2,decide_false]
  simp only [h1,Bool.not_true,Bool.false_eq_true,if_false,Bool.not_false,if_true]
  constructor
  ·intro h;cases h
  rintro ⟨_,a,b,c,_⟩;exact absurd ⟨a,b,c⟩ h2
 simp [h1]
theorem Bp {t:List aQ} {q:aA}:(om t q).2=true↔∃e∈t,e.path=q:=by
 unfold om
 cases h:t.find? (fun e=>decide (e.path=q)) with
 |none=>
  rw [List.find?_eq_none] at h
  constructor
  ·intro g;cases g
  rintro ⟨e,he,g⟩;have:=h e he;simp [g] at this
 |some e=>
  have h1:=List.find?_some h
  exact ⟨fun _=>⟨e,List.mem_of_find?_eq_some h,by simpa using h1⟩,fun _=>rfl⟩
theorem Bq {t:List aQ} {p:aA}:gz t p=true↔∀q∈above p,∃e∈t,e.path=q:=by
 unfold gz
 rw [Bool.not_eq_true',List.any_eq_false]
 simp only [List.mem_append,List.mem_singleton]
 constructor
 ·intro h q hq
  have:=h q (by rcases List.mem_cons.1 hq with g|g;exact .inr g;exact .inl g)
  exact Bp.1 (by simpa using this)
 intro h q hq
 have:=Bp.2 (h q (by rcases hq with g|g;exact List.mem_cons_of_mem _ g;rw [g];exact Dw p))
 simp [this]
theorem je {t u:List aQ} (h:fy t u) {p:aA} (hs:gz t p=true):gz u p=true:=by
 rw [Bq] at hs ⊢
 intro q hq
 obtain ⟨e,he,rfl⟩:=hs q hq
 exact h.mem he
abbrev vM (l:List Jb):Prop:=l.Pairwise (fun a b=>a.id<b.id)
theorem ER {l:List Jb} (ha:vM l) {i k:Nat} {x y:Jb} (hx:l[i]?=some x) (hy:l[k]?=some y) (e:x.id=y.id):i=k:=by
 obtain ⟨hi,rfl⟩:=List.getElem?_eq_some_iff.1 hx
 obtain ⟨hk,rfl⟩:=List.getElem?_eq_some_iff.1 hy
 rcases Nat.lt_trichotomy i k with g|g|g
 ·have:=List.pairwise_iff_getElem.1 ha i k hi hk g;omega
 ·exact g
 have:=List.pairwise_iff_getElem.1 ha k i hk hi g;omega
theorem kN {l:List Jb} (ha:vM l) {x y:Jb} (hx:x∈l) (hy:y∈l) (e:x.id=y.id):x=y:=by
 obtain ⟨i,hi⟩:=List.getElem?_of_mem hx
 obtain ⟨j,hj⟩:=List.getElem?_of_mem hy
 have:=ER ha hi hj e
 subst this;rw [hi] at hj;exact Option.some.inj hj
theorem HI {l:List Jb} (ha:vM l) {k:Nat} {j x:Jb} (hj:l[k]?=some j) {y:Jb}:y∈l.set k x↔y=x∨(y∈l∧y.id≠j.id):=by
 have hk:=(List.getElem?_eq_some_iff.1 hj).1
 constructor
 ·intro h
  obtain ⟨i,hi⟩:=List.getElem?_of_mem h
  by_cases e:k=i
  ·subst e;rw [List.getElem?_set_self hk] at hi;cases hi;exact .inl rfl
  rw [List.getElem?_set_ne e] at hi
  exact .inr ⟨List.mem_of_getElem? hi,fun g=>e (ER ha hj hi g.symm)⟩
 rintro (rfl|⟨h,g⟩)
 ·exact List.mem_of_getElem? (List.getElem?_set_self hk)
 obtain ⟨i,hi⟩:=List.getElem?_of_mem h
 have e:k≠i:=by rintro rfl;rw [hi] at hj;cases hj;exact g rfl
 exact List.mem_of_getElem? (i:=i) (by rw [List.getElem?_set_ne e];exact hi)
theorem VP {l:List Jb} (ha:vM l) {k:Nat} {j:Jb} (hj:l[k]?=some j):l.eraseIdx k=l.filter fun y=>!decide (y.id=j.id):=by
 induction l generalizing k with
 |nil=>simp at hj
 |cons y r ih=>
  rw [vM,List.pairwise_cons] at ha
  cases k with
  |zero=>
   simp at hj;subst hj
   have:r.filter (fun z=>!decide (z.id=y.id))=r:=by
    rw [List.filter_eq_self];intro z hz;have:=ha.1 z hz;simp;omega
   simp [this]
  |succ k=>
   simp only [List.getElem?_cons_succ] at hj
   have hne:¬y.id=j.id:=by have:=ha.1 j (List.mem_of_getElem? hj);omega
   rw [List.eraseIdx_cons_succ,ih ha.2 hj]
   simp [hne]
theorem Ke {l:List Jb} (ha:vM l) {k:Nat} {j:Jb} (hj:l[k]?=some j) {y:Jb}:y∈l.eraseIdx k↔y∈l∧y.id≠j.id:=by
 rw [VP ha hj,List.mem_filter];simp
theorem HJ {l:List Jb} (ha:vM l) {k:Nat} {j x:Jb} (hj:l[k]?=some j) (e:x.id=j.id):vM (l.set k x):=by
 have h1:(l.set k x).map (·.id)=l.map (·.id):=by
  rw [List.map_set,e]
  have hk:=(List.getElem?_eq_some_iff.1 hj).1
  refine List.ext_getElem? fun i=>?_
  by_cases g:k=i
  ·subst g;rw [List.getElem?_set_self (by simpa using hk),List.getElem?_map,hj];rfl
  rw [List.getElem?_set_ne g]
 have h2:(l.map (·.id)).Pairwise (·<·):=List.pairwise_map.2 ha
 rw [←h1] at h2
 exact List.pairwise_map.1 h2
theorem Br (k:Nat) (p:aA):∀{l:List Jb} {i:Nat} {j:Jb} (x:Jb),l[i]?=some j→kM k p (l.set i x)+fS k p j=kM k p l+fS k p x
 |[],_,_,_,h=>by simp at h
 |y::r,0,j,x,h=>by simp at h;subst h;simp only [List.set_cons_zero,jX];omega
 |y::r,i+1,j,x,h=>by
  simp only [List.getElem?_cons_succ] at h
  have:=Br k p x h
  simp only [List.set_cons_succ,jX];omega
theorem uj (k:Nat) (p:aA):∀{l:List Jb} {i:Nat} {j:Jb},l[i]?=some j→kM k p (l.eraseIdx i)+fS k p j=kM k p l
 |[],_,_,h=>by simp at h
 |y::r,0,j,h=>by simp at h;subst h;simp only [List.eraseIdx_cons_zero,jX];omega
 |y::r,i+1,j,h=>by
  simp only [List.getElem?_cons_succ] at h
  have:=uj k p h
  simp only [List.eraseIdx_cons_succ,jX];omega
theorem M8 (k:Nat) (p:aA) (l:List Jb) (x:Jb):kM k p (l++[x])=kM k p l+fS k p x:=by simp [kM]
theorem S5 (k:Nat) (p:aA) {l:List Jb} {j:Jb} (h:j∈l):fS k p j≤kM k p l:=by
 induction l with
 |nil=>cases h
 |cons y r ih=>
  rw [jX]
  rcases List.mem_cons.1 h with rfl|h
  ·omega
  have:=ih h;omega
theorem uk {l:List Jb} {id:Int} {k:Nat} (h:l.findIdx? (fun j=>decide (j.id=id))=some k):∃j,l[k]?=some j∧j.id=id∧l.getD k Jb.zero=j:=by
 obtain ⟨hk,hp,_⟩:=List.findIdx?_eq_some_iff_getElem.1 h
 refine ⟨l[k],List.getElem?_eq_getElem hk,by simpa using hp,?_⟩
 rw [List.getD_eq_getElem?_getD,List.getElem?_eq_getElem hk];rfl
structure cJ.ok (s:cJ):Prop where
 bC:s.bC.ok
 rm:s.bC.w
 tree:Tree.ok s.tree
 used:∀e∈s.tree,∀k<4,vk k e.used=kM k e.path s.aL
 most:s.aL.length≤32
 next:1≤s.next∧s.next<18446744073709551616
 ids:vM s.aL
 Dz:∀j∈s.aL,1≤j.id∧j.id<s.next
 Cf:∀j∈s.aL,cI j.x=0∧j.x.fZ.w∧gz s.tree j.x.path=true
 left:∀j∈s.aL,(j.runs=true→1≤j.left∧j.left≤j.x.dO)∧(j.runs=false→j.left=0)
 zb:HC s.queue
 qb:Bk s.queue
 sM:∀q,q∈s.queue↔∃j∈s.aL,j.runs=false∧q=⟨j.id,j.x.prio⟩
 places:∀x∈s.bC.places,∃j∈s.aL,j.runs=true∧j.id=x.bB∧x.v=j.x.fZ
 count:∀j∈s.aL,j.runs=true→(tc j.id s.bC.places:Int)=j.x.count
 notes:s.ev.l.length≤32∧s.au.l.length≤32
theorem Kf {l:List Jb} (ha:vM l) (f:Jb→bZ) (hf:∀j,(f j).id=j.id):(l.map f).Nodup:=by
 rw [List.nodup_iff_pairwise_ne,List.pairwise_map]
 exact ha.imp fun {a b} h e=>by have:=congrArg bZ.id e;rw [hf,hf] at this;omega
theorem cJ.ok.S6 {s:cJ} (h:s.ok):s.queue.length=gA s.aL:=by
 have h1:(((s.aL.filter fun j=>!j.runs).map fun j=>(⟨j.id,j.x.prio⟩:bZ))).Nodup:=Kf (h.ids.filter _) _ (fun _=>rfl)
 have h2:s.queue.Nodup:=by rw [List.nodup_iff_pairwise_ne];exact h.qb.imp fun {a b} g e=>g (by rw [e])
 have:=((List.perm_ext_iff_of_nodup h2 h1).2 fun q=>by
  rw [h.sM q,List.mem_map]
  constructor
  ·rintro ⟨j,a,b,c⟩;exact ⟨j,List.mem_filter.2 ⟨a,by simp [b]⟩,c.symm⟩
  rintro ⟨j,a,c⟩;obtain ⟨a1,a2⟩:=List.mem_filter.1 a;exact ⟨j,a1,by simpa using a2,c.symm⟩).length_eq
 rw [this,lgM];rfl
theorem HK {s:cJ} (h:s.ok):∀(r:List Jb) (q:Option Int),(∀j∈r,j∈s.aL)→vM r→(∀p,q=some p→∀j∈r,p<j.id)→mN s q r=true
 |[],_,_,_,_=>rfl
 |j::r,q,hm,ha,hq=>by
  rw [vM,List.pairwise_cons] at ha
  have hj:=hm j (by simp)
  obtain ⟨a1,a2⟩:=h.Dz j hj
  obtain ⟨b1,_,b3⟩:=h.Cf j hj
  have key:(if j.runs then decide (1≤j.left)&&decide (j.left≤j.x.dO) else decide (j.left=0)&&s.queue.contains ⟨j.id,j.x.prio⟩)=true:=by
   obtain ⟨c1,c2⟩:=h.left j hj
   cases hr:j.runs with
   |true=>have:=c1 hr;simp;exact this
   |false=>
    have hc:s.queue.contains ⟨j.id,j.x.prio⟩=true:=by rw [List.contains_iff_mem];exact (h.sM _).2 ⟨j,hj,hr,rfl⟩
    simp only [Bool.false_eq_true,if_false,hc,c2 hr];simp
  have h1:UN s q j=true:=by
   unfold UN
   cases q with
   |none=>rw [if_neg (by omega),if_neg (by omega),if_neg (by simp),if_neg (by simp [b1]),b3,if_neg (by simp),key]
   |some p=>rw [if_neg (by omega),if_neg (by omega),if_neg (by have:=hq p rfl j (by simp);simp;omega),if_neg (by simp [b1]),b3,if_neg (by simp),key]
  unfold mN
  rw [h1,HK h r (some j.id) (fun x hx=>hm x (by simp [hx])) ha.2 (fun p hp x hx=>by cases hp;exact ha.1 x hx)];rfl
theorem cJ.ok.right {s:cJ} (h:s.ok):gH s=true:=by
 have h1:nH s.bC=true:=JP.2 h.bC
 have h2:gP s.tree=true:=J8 h.tree fun e he k hk=>by
  rw [h.used e he k hk];exact S4 h.tree.FA (fun x hx=>h.used x hx k hk) e.path
 have hq:=h.S6
 have hw:gA s.aL≤s.aL.length:=List.length_filter_le _ _
 have hm:=h.most
 have h3:nK s.queue=true:=by
  refine M7 h.qb h.zb ?_ (by omega)
  intro q hq
  obtain ⟨j,hj,_,rfl⟩:=(h.sM q).1 hq
  obtain ⟨_,_,hp,_⟩:=gB.1 (h.Cf j hj).1
  simp [gw];omega
 have h4:mN s none s.aL=true:=HK h s.aL none (fun j hj=>hj) h.ids (fun p hp=>by cases hp)
 have h5:lF s=true:=by
  have hn:=vK 0 s.aL [] h.ids (by simp)
  obtain ⟨m,a1,a2⟩:=vL (l:=s.aL) s.bC.places (iY s.aL) hn.1 (fun x hx=>by
   obtain ⟨j,hj,_,g2,g3⟩:=h.places x hx
   have:(dZ s.aL x.bB).1=j:=by
    unfold dZ
    cases hf:s.aL.find? (fun j=>decide (j.id=x.bB)) with
    |none=>rw [List.find?_eq_none] at hf;have:=hf j hj;simp [g2] at this
    |some y=>
     have e:=List.find?_some hf
     simp only [decide_eq_true_eq] at e
     exact kN h.ids (List.mem_of_find?_eq_some hf) hj (by rw [e,g2])
   rw [this,g3]) (fun id=>by
   rw [iY,(vK id s.aL [] h.ids (by simp)).2]
   cases hf:s.aL.find? (fun j=>decide (j.id=id)&&j.runs) with
   |some j=>
    have e:=List.find?_some hf
    simp only [Bool.and_eq_true,decide_eq_true_eq] at e
    have hj:=List.mem_of_find?_eq_some hf
    have:=h.count j hj e.2
    rw [e.1] at this
    exact this.symm
   |none=>
    rw [List.find?_eq_none] at hf
    have:tc id s.bC.places=0:=by
     unfold tc
     rw [List.length_eq_zero_iff,List.filter_eq_nil_iff]
     intro x hx g
     obtain ⟨j,hj,g1,g2,_⟩:=h.places x hx
     have:=hf j hj
     simp only [decide_eq_true_eq] at g
     simp [g2,g,g1] at this
    rw [this];rfl)
  unfold lF;rw [a1];exact a2
 have h6:(s.tree.any fun e=>!pU s e)=false:=by
  rw [List.any_eq_false];intro e he
  rw [Qd (h.tree.w e he).2 (fun j hj _=>(gB.1 (h.Cf j hj).1).2.2.2.2.2) (h.used e he)];simp
 have h7:=h.notes
 have h8:=h.next
 unfold gH
 rw [h1,h2,h3,h4,h5,h6]
 simp only [Bool.not_true,Bool.false_eq_true,if_false]
 rw [if_neg (by omega),if_neg (by omega),if_neg (by omega)]
 simp [hq]
end Dem
end
