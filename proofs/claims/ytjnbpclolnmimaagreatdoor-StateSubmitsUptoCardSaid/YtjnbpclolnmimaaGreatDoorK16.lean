/- Parts of a proof, joined. -/
import Derived.Test.YtjnbpclolnmimaaGreatDoorK15
set_option linter.all false
set_option maxRecDepth 100000
set_option maxHeartbeats 4000000
section
open Go
namespace Dem
theorem Qe {x:sL} (h:x.l.length≤32) (n:cF):(tell x n).l.length≤32:=by
 unfold tell
 by_cases g:32<(x.l++[n]).length
 ·rw [if_pos g];simp;omega
 rw [if_neg g];simp only at*;omega
theorem cJ.ok.event {s:cJ} (h:s.ok) (id kind:Int):(fR s id kind).ok:=
 {h with notes:=⟨Qe h.notes.1 _,h.notes.2⟩}
theorem M9 {x:Ask} (h:cI x=0) (id:Int):gw ⟨id,x.prio⟩=false:=by
 obtain ⟨_,_,hp,_⟩:=gB.1 h
 simp [gw];omega
theorem Kg {x:Ask} (h:cI x=0):named x.path=true:=by
 unfold named;rw [(gB.1 h).1];simp
theorem cJ.ok.bW {s:cJ} (h:s.ok) {x:Ask} (hx:x.fZ.w):(bW s x).1.ok:=by
 unfold Dem.bW
 by_cases h1:cI x≠0
 ·rw [if_pos h1];exact h
 rw [if_neg h1];simp only [Decidable.not_not] at h1
 by_cases h2:(!gz s.tree x.path)=true
 ·rw [if_pos h2];exact h
 rw [if_neg h2]
 by_cases h3:32≤s.aL.length∨s.next=18446744073709551615
 ·rw [if_pos h3];exact h
 rw [if_neg h3]
 have UO:=h.next
 rcases rj s.queue ⟨s.next,x.prio⟩ with ⟨_,e2,_⟩|⟨e,_,hno,_⟩
 ·rw [if_pos e2];exact h
 rw [e]
 rw [if_neg (by simp)]
 have hu:u64 (s.next+1)=s.next+1:=by unfold u64;omega
 have hn:fS=fS:=rfl
 refine cJ.ok.event (s:=⟨s.round,u64 (s.next+1),s.bC,s.tree,s.aL++[⟨s.next,x,false,0⟩],_,s.ev,s.au⟩) ?_ _ _
 rw [hu]
 have hm:∀j,j∈s.aL++[(⟨s.next,x,false,0⟩:Jb)]↔j∈s.aL∨j=⟨s.next,x,false,0⟩:=fun j=>by simp
 exact {
  bC:=h.bC,rm:=h.rm,tree:=h.tree,notes:=h.notes
  used:=fun e he k hk=>by rw [h.used e he k hk];simp only [M8];simp [fS]
  most:=by simp only [List.length_append,List.length_singleton];omega
  next:=by simp only;omega
  ids:=by
   rw [vM,List.pairwise_append]
   refine ⟨h.ids,by simp,fun a ha b hb=>?_⟩
   simp at hb;subst hb;exact (h.Dz a ha).2
  Dz:=fun j hj=>by
   rcases (hm j).1 hj with g|rfl
   ·have:=h.Dz j g;simp only;omega
   simp only;omega
  Cf:=fun j hj=>by
   rcases (hm j).1 hj with g|rfl
   ·exact h.Cf j g
   exact ⟨h1,hx,by simpa using h2⟩
  left:=fun j hj=>by
   rcases (hm j).1 hj with g|rfl
   ·exact h.left j g
   exact ⟨fun g=>(by cases g),fun _=>rfl⟩
  zb:=HE h.zb hno
  qb:=HF h.qb hno _
  sM:=fun q=>by
   show q∈List.take _ s.queue++_::List.drop _ s.queue↔_
   rw [Bm,h.sM q]
   constructor
   ·rintro (⟨j,a,b,c⟩|rfl)
    ·exact ⟨j,(hm j).2 (.inl a),b,c⟩
    exact ⟨_,(hm _).2 (.inr rfl),rfl,rfl⟩
   rintro ⟨j,a,b,c⟩
   rcases (hm j).1 a with g|rfl
   ·exact .inl ⟨j,g,b,c⟩
   exact .inr c
  places:=fun y hy=>by
   obtain ⟨j,a,b⟩:=h.places y hy
   exact ⟨j,(hm j).2 (.inl a),b⟩
  count:=fun j hj hr=>by
   rcases (hm j).1 hj with g|rfl
   ·exact h.count j g hr
   cases hr}
theorem DA {s:cJ} (h:s.ok) {p:aA} {v:bz} (hc:(ic s.tree p v).2=0):
 Tree.ok (ic s.tree p v).1∧fy s.tree (ic s.tree p v).1∧∀e∈(ic s.tree p v).1,∀k<4,vk k e.used=kM k e.path s.aL+if e.path∈above p then vk k v else 0:=by
 unfold ic at*
 rcases yC (fW v) h.tree.FA p with ⟨_,e2,_⟩|⟨e,_,_,hf⟩
 ·exact absurd hc e2
 rw [e]
 have hk:fy s.tree (vG (fW v) (above p) s.tree):=Bg fun e he hp=>by rw [yD (hf e he hp)];exact ⟨rfl,rfl⟩
 have hv:∀x∈vG (fW v) (above p) s.tree,x.used.w∧(∀k<4,vk k x.used≤vk k x.c6)∧∀k<4,vk k x.used=kM k x.path s.aL+if x.path∈above p then vk k v else 0:=by
  intro x hx
  obtain ⟨e,he,rfl⟩:=List.mem_map.1 hx
  by_cases hp:e.path∈above p
  ·rw [if_pos hp]
   have h0:=hf e he hp
   obtain ⟨c1,c2⟩:=vI.1 h0
   rw [yD h0]
   refine ⟨JZ c1,uf.1 c2,fun k hk=>?_⟩
   simp only
   rw [vF c1 hk,h.used e he k hk,if_pos hp]
  rw [if_neg hp]
  exact ⟨(h.tree.w e he).2,h.tree.fits e he,fun k hk=>by rw [h.used e he k hk,if_neg hp];rfl⟩
 exact ⟨hk.ok h.tree (fun e he=>(hv e he).2.1) (fun e he=>(hv e he).1),hk,fun e he=>(hv e he).2.2⟩
theorem oq {s:cJ} (h:s.ok) {i:Nat} {j:Jb} (hj:s.aL[i]?=some j) (hr:j.runs=true):
 sn s.tree j.x.path j.tot=(vG (ej j.tot) (above j.x.path) s.tree,0)∧
 Tree.ok (vG (ej j.tot) (above j.x.path) s.tree)∧fy s.tree (vG (ej j.tot) (above j.x.path) s.tree)∧∀e∈vG (ej j.tot) (above j.x.path) s.tree,∀k<4,vk k e.used+fS k e.path j=kM k e.path s.aL:=by
 have hm:=List.mem_of_getElem? hj
 obtain ⟨g1,g2,g3⟩:=h.Cf j hm
 have hs:∀e∈s.tree,e.path∈above j.x.path→(fY e.used j.tot).2=true:=fun e he hp=>so.2 fun k hk=>by
  have:=S5 k e.path hm
  rw [←h.used e he k hk] at this
  rw [fS,if_pos ⟨hr,hp⟩] at this
  exact this
 have hz:∀e∈s.tree,e.path∈above j.x.path→(ej j.tot e).2=0:=fun e he hp=>vJ.2 (hs e he hp)
 have hk:fy s.tree (vG (ej j.tot) (above j.x.path) s.tree):=Bg fun e he hp=>by rw [yE (hz e he hp)];exact ⟨rfl,rfl⟩
 have hv:∀x∈vG (ej j.tot) (above j.x.path) s.tree,x.used.w∧(∀k<4,vk k x.used≤vk k x.c6)∧∀k<4,vk k x.used+fS k x.path j=kM k x.path s.aL:=by
  intro x hx
  obtain ⟨e,he,rfl⟩:=List.mem_map.1 hx
  by_cases hp:e.path∈above j.x.path
  ·rw [if_pos hp]
   have h0:=hs e he hp
   rw [yE (hz e he hp)]
   have Zk:=(h.tree.w e he).2
   refine ⟨P5 h0,fun k hk=>?_,fun k hk=>?_⟩
   ·simp only;rw [L4 Zk h0 hk];have:=h.tree.fits e he k hk;omega
   have h1:=so.1 h0 k hk
   simp only;rw [L4 Zk h0 hk,fS,if_pos ⟨hr,hp⟩,←h.used e he k hk]
   unfold vk;omega
  rw [if_neg hp]
  exact ⟨(h.tree.w e he).2,h.tree.fits e he,fun k hk=>by rw [h.used e he k hk,fS,if_neg (fun g=>hp g.2)];rfl⟩
 refine ⟨?_,hk.ok h.tree (fun e he=>(hv e he).2.1) (fun e he=>(hv e he).1),hk,fun e he=>(hv e he).2.2⟩
 unfold sn
 rcases yC (ej j.tot) h.tree.FA j.x.path with ⟨_,_,e|⟨q,hq,e⟩|⟨y,hy,hp,e⟩⟩|⟨e,_⟩
 ·rw [Kg g1] at e;cases e
 ·obtain ⟨z,hz,g⟩:=Bq.1 g3 q hq;exact absurd g (e z hz)
 ·exact absurd (hz y hy hp) e
 exact e
theorem cJ.ok.L6 {s:cJ} (h:s.ok) {j:Jb} (hj:j∈s.aL) (hr:j.runs=false):∀x∈s.bC.places,x.bB≠j.id:=by
 intro x hx g
 obtain ⟨y,a,b,c,_⟩:=h.places x hx
 have:=kN h.ids a hj (by rw [c,g])
 subst this;rw [hr] at b;cases b
theorem cJ.ok.ES {s:cJ} (h:s.ok) {j:Jb} (hj:j∈s.aL) (hr:j.runs=true):∀q∈s.queue,q.id≠j.id:=by
 intro q hq g
 obtain ⟨y,a,b,rfl⟩:=(h.sM q).1 hq
 have:=kN h.ids a hj g
 subst this;rw [hr] at b;cases b
theorem Kh (id:Int) (a b:List Place):tc id (a++b)=tc id a+tc id b:=by simp [tc]
theorem Qf (id bB:Int) (v:bz) (names:List aA):tc id (names.map fun n=>(⟨bB,n,v⟩:Place))=if bB=id then names.length else 0:=by
 unfold tc
 by_cases h:bB=id
 ·rw [if_pos h,List.filter_eq_self.2 (by intro x hx;obtain ⟨n,_,rfl⟩:=List.mem_map.1 hx;simpa using h)];simp
 rw [if_neg h,List.filter_eq_nil_iff.2 (by intro x hx;obtain ⟨n,_,rfl⟩:=List.mem_map.1 hx;simpa using h)];rfl
theorem HL (id bB:Int) (ps:List Place):tc id (ps.filter fun x=>!decide (x.bB=bB))=if id=bB then 0 else tc id ps:=by
 unfold tc
 rw [List.filter_filter]
 by_cases h:id=bB
 ·rw [if_pos h,List.length_eq_zero_iff,List.filter_eq_nil_iff];intro x _;simp;intro g;omega
 rw [if_neg h];congr 1;refine List.filter_congr fun x _=>?_
 by_cases g:x.bB=id
 ·simp [g,h]
 simp [g]
theorem cJ.ok.jW {s:cJ} (h:s.ok) {i:Nat} {j:Jb} (hj:s.aL[i]?=some j) (names:List aA):(jW s i j j.id names).1.ok:=by
 have hm:=List.mem_of_getElem? hj
 obtain ⟨g1,g2,g3⟩:=h.Cf j hm
 unfold Dem.jW
 by_cases h1:j.runs=true
 ·rw [if_pos h1];exact h
 rw [if_neg h1]
 by_cases h2:(names.length:Int)≠j.x.count
 ·rw [if_pos h2];exact h
 rw [if_neg h2]
 by_cases h3:(!(dG j.x).2)=true
 ·rw [if_pos h3];exact h
 rw [if_neg h3]
 by_cases h4:(ic s.tree j.x.path (dG j.x).1).2≠0
 ·rw [if_pos h4];exact h
 rw [if_neg h4]
 rcases Bo s.bC j.id names j.x.fZ with ⟨_,e2⟩|⟨e,_⟩
 ·rw [if_pos e2];exact h
 rw [if_neg (by rw [e];simp)]
 simp only [Decidable.not_not] at h2 h4
 have Xb:j.runs=false:=by simpa using h1
 obtain ⟨c1,c2,c3⟩:=DA h h4
 obtain ⟨p1,p2⟩:=VL h.bC h.rm j.id names g2
 rw [lG h.qb]
 rw [e] at p1 p2 ⊢
 refine cJ.ok.event (s:=⟨s.round,s.next,_,_,s.aL.set i {j with runs:=true,left:=j.x.dO},_,s.ev,s.au⟩) ?_ _ _
 have hs:∀y,y∈s.aL.set i {j with runs:=true,left:=j.x.dO}↔y={j with runs:=true,left:=j.x.dO}∨(y∈s.aL∧y.id≠j.id):=fun y=>HI h.ids hj
 obtain ⟨_,_,_,VQ,_⟩:=gB.1 g1
 exact {
  bC:=p1,rm:=p2,tree:=c1,notes:=h.notes
  used:=fun e he k hk=>by
   have:=Br k e.path {j with runs:=true,left:=j.x.dO} hj
   have t0:fS k e.path j=0:=by simp [fS,Xb]
   have t1:fS k e.path {j with runs:=true,left:=j.x.dO}=if e.path∈above j.x.path then vk k (dG j.x).1 else 0:=by simp [fS]
   rw [t0,t1] at this
   rw [c3 e he k hk];simp only;omega
  most:=by simp only [List.length_set];exact h.most
  next:=h.next
  ids:=HJ h.ids hj rfl
  Dz:=fun y hy=>by rcases (hs y).1 hy with rfl|⟨g,_⟩;exact h.Dz j hm;exact h.Dz y g
  Cf:=fun y hy=>by
   rcases (hs y).1 hy with rfl|⟨g,_⟩
   ·exact ⟨g1,g2,je c2 g3⟩
   obtain ⟨a,b,c⟩:=h.Cf y g;exact ⟨a,b,je c2 c⟩
  left:=fun y hy=>by
   rcases (hs y).1 hy with rfl|⟨g,_⟩
   ·exact ⟨fun _=>⟨VQ.1,Int.le_refl _⟩,fun g=>by cases g⟩
   exact h.left y g
  zb:=h.zb.filter _
  qb:=h.qb.filter _
  sM:=fun q=>by
   show q∈s.queue.filter _↔_
   rw [List.mem_filter,h.sM q]
   constructor
   ·rintro ⟨⟨y,a,b,rfl⟩,c⟩
    exact ⟨y,(hs y).2 (.inr ⟨a,by simpa using c⟩),b,rfl⟩
   rintro ⟨y,a,b,rfl⟩
   rcases (hs y).1 a with rfl|⟨g,g4⟩
   ·cases b
   exact ⟨⟨y,g,b,rfl⟩,by simpa using g4⟩
  places:=fun x hx=>by
   rcases List.mem_append.1 hx with g|g
   ·obtain ⟨y,a,b,c,d⟩:=h.places x g
    refine ⟨y,(hs y).2 (.inr ⟨a,fun e2=>?_⟩),b,c,d⟩
    have:=kN h.ids a hm e2
    subst this;rw [Xb] at b;cases b
   obtain ⟨n,_,rfl⟩:=List.mem_map.1 g
   exact ⟨_,(hs _).2 (.inl rfl),rfl,rfl,rfl⟩
  count:=fun y hy hr=>by
   show ((tc y.id (s.bC.places++names.map fun n=>(⟨j.id,n,j.x.fZ⟩:Place)):Nat):Int)=_
   rw [Kh,Qf]
   rcases (hs y).1 hy with rfl|⟨g,g4⟩
   ·have:tc j.id s.bC.places=0:=by
     unfold tc;rw [List.length_eq_zero_iff,List.filter_eq_nil_iff];intro x hx;simpa using h.L6 hm Xb x hx
    simp only [this];simp;exact h2
   rw [if_neg (fun e2=>g4 e2.symm),Nat.add_zero];exact h.count y g hr}
theorem cJ.ok.Qg {s:cJ} (h:s.ok) (id:Int) (names:List aA):(dK s id names).1.ok:=by
 unfold dK
 cases hf:s.aL.findIdx? (fun j=>decide (j.id=id)) with
 |none=>exact h
 |some k=>
  obtain ⟨j,a,b,c⟩:=uk hf
  simp only
  rw [c,←b];exact h.jW a names
theorem cJ.ok.jg {s:cJ} (h:s.ok) {i:Nat} {j:Jb} (hj:s.aL[i]?=some j) (hr:j.runs=true):
 nh s j=⟨s.round,s.next,vE s.bC j.id,vG (ej j.tot) (above j.x.path) s.tree,s.aL,s.queue,s.ev,s.au⟩:=by
 have hm:=List.mem_of_getElem? hj
 unfold nh
 rw [if_pos (gB.1 (h.Cf j hm).1).2.2.2.2.2,(oq h hj hr).1]
theorem cJ.ok.VR {s:cJ} (h:s.ok) {j:Jb} (hm:j∈s.aL) (hr:j.runs=true):
 jF s.queue ⟨j.id,j.x.prio⟩=(s.queue.take (tZ s.queue ⟨j.id,j.x.prio⟩)++⟨j.id,j.x.prio⟩::s.queue.drop (tZ s.queue ⟨j.id,j.x.prio⟩),0):=by
 rcases rj s.queue ⟨j.id,j.x.prio⟩ with ⟨_,_,e|⟨q,hq,e⟩|e⟩|⟨e,_⟩
 ·rw [M9 (h.Cf j hm).1] at e;cases e
 ·exact absurd e (h.ES hm hr q hq)
 ·have h1:=h.S6
  have h2:=h.most
  have h3:gA s.aL<s.aL.length:=by
   unfold gA
   exact List.length_filter_lt_length_iff_exists.2 ⟨j,hm,by simp [hr]⟩
  omega
 exact e
theorem cJ.ok.stop {s:cJ} (h:s.ok) (id kind:Int):(nj s id kind).1.ok:=by
 unfold nj
 cases hf:s.aL.findIdx? (fun j=>decide (j.id=id)) with
 |none=>exact h
 |some i=>
  obtain ⟨j,hj,hid,c⟩:=uk hf
  simp only
  rw [c]
  by_cases h1:(!j.runs)=true
  ·rw [if_pos h1];exact h
  rw [if_neg h1]
  have hr:j.runs=true:=by simpa using h1
  have hm:=List.mem_of_getElem? hj
  obtain ⟨g1,g2,g3⟩:=h.Cf j hm
  obtain ⟨_,c1,c2,c3⟩:=oq h hj hr
  rw [h.jg hj hr,←hid]
  simp only [Dr]
  rw [h.VR hm hr]
  obtain ⟨p1,p2⟩:=HH h.bC h.rm j.id
  refine cJ.ok.event (s:=⟨s.round,s.next,_,_,s.aL.set i {j with runs:=false,left:=0},_,s.ev,s.au⟩) ?_ _ _
  have hs:∀y,y∈s.aL.set i {j with runs:=false,left:=0}↔y={j with runs:=false,left:=0}∨(y∈s.aL∧y.id≠j.id):=fun y=>HI h.ids hj
  exact {
   bC:=p1,rm:=p2,tree:=c1,notes:=h.notes
   used:=fun e he k hk=>by
    have:=Br k e.path {j with runs:=false,left:=0} hj
    have t1:fS k e.path {j with runs:=false,left:=0}=0:=by simp [fS]
    rw [t1] at this
    have:=c3 e he k hk;simp only;omega
   most:=by simp only [List.length_set];exact h.most
   next:=h.next
   ids:=HJ h.ids hj rfl
   Dz:=fun y hy=>by rcases (hs y).1 hy with rfl|⟨g,_⟩;exact h.Dz j hm;exact h.Dz y g
   Cf:=fun y hy=>by
    rcases (hs y).1 hy with rfl|⟨g,_⟩
    ·exact ⟨g1,g2,je c2 g3⟩
    obtain ⟨a,b,c⟩:=h.Cf y g;exact ⟨a,b,je c2 c⟩
   left:=fun y hy=>by
    rcases (hs y).1 hy with rfl|⟨g,_⟩
    ·exact ⟨fun g=>(by cases g),fun _=>rfl⟩
    exact h.left y g
   zb:=HE h.zb (h.ES hm hr)
   qb:=HF h.qb (h.ES hm hr) _
   sM:=fun q=>by
    show q∈List.take _ s.queue++_::List.drop _ s.queue↔_
    rw [Bm,h.sM q]
    constructor
    ·rintro (⟨y,a,b,rfl⟩|rfl)
     ·refine ⟨y,(hs y).2 (.inr ⟨a,fun e=>?_⟩),b,rfl⟩
      have:=kN h.ids a hm e
      subst this;rw [hr] at b;cases b
     exact ⟨_,(hs _).2 (.inl rfl),rfl,rfl⟩
    rintro ⟨y,a,b,rfl⟩
    rcases (hs y).1 a with rfl|⟨g,g4⟩
    ·exact .inr rfl
    exact .inl ⟨y,g,b,rfl⟩
   places:=fun x hx=>by
    obtain ⟨hx1,Oo⟩:=List.mem_filter.1 hx
    obtain ⟨y,a,b,c,d⟩:=h.places x hx1
    exact ⟨y,(hs y).2 (.inr ⟨a,by rw [c];simpa using Oo⟩),b,c,d⟩
   count:=fun y hy hr=>by
    rcases (hs y).1 hy with rfl|⟨g,g4⟩
    ·cases hr
    show ((tc y.id (s.bC.places.filter fun x=>!decide (x.bB=j.id)):Nat):Int)=_
    rw [HL,if_neg g4];exact h.count y g hr}
theorem cJ.ok.end_ {s:cJ} (h:s.ok) (id kind:Int):(send s id kind).1.ok:=by
 unfold send
 cases hf:s.aL.findIdx? (fun j=>decide (j.id=id)) with
 |none=>exact h
 |some i=>
  obtain ⟨j,hj,hid,c⟩:=uk hf
  simp only
  rw [c]
  have hm:=List.mem_of_getElem? hj
  have hs:∀y,y∈s.aL.eraseIdx i↔y∈s.aL∧y.id≠j.id:=fun y=>Ke h.ids hj
  have hlen:(s.aL.eraseIdx i).length≤s.aL.length:=by rw [List.length_eraseIdx];split<;>omega
  have hsub:(s.aL.eraseIdx i).Sublist s.aL:=List.eraseIdx_sublist _ _
  by_cases hr:j.runs=true
  ·rw [if_pos hr,h.jg hj hr]
   obtain ⟨_,c1,c2,c3⟩:=oq h hj hr
   obtain ⟨p1,p2⟩:=HH h.bC h.rm j.id
   refine cJ.ok.event (s:=⟨s.round,s.next,_,_,s.aL.eraseIdx i,s.queue,s.ev,s.au⟩) ?_ _ _
   exact {
    bC:=p1,rm:=p2,tree:=c1,notes:=h.notes
    used:=fun e he k hk=>by
     have:=uj k e.path hj
     have:=c3 e he k hk;simp only;omega
    most:=Nat.le_trans hlen h.most
    next:=h.next
    ids:=h.ids.sublist hsub
    Dz:=fun y hy=>h.Dz y ((hs y).1 hy).1
    Cf:=fun y hy=>by obtain ⟨a,b,c⟩:=h.Cf y ((hs y).1 hy).1;exact ⟨a,b,je c2 c⟩
    left:=fun y hy=>h.left y ((hs y).1 hy).1
    zb:=h.zb,qb:=h.qb
    sM:=fun q=>by
     rw [h.sM q]
     constructor
     ·rintro ⟨y,a,b,rfl⟩
      refine ⟨y,(hs y).2 ⟨a,fun e=>?_⟩,b,rfl⟩
      have:=kN h.ids a hm e
      subst this;rw [hr] at b;cases b
     rintro ⟨y,a,b,rfl⟩;exact ⟨y,((hs y).1 a).1,b,rfl⟩
    places:=fun x hx=>by
     obtain ⟨hx1,Oo⟩:=List.mem_filter.1 hx
     obtain ⟨y,a,b,c,d⟩:=h.places x hx1
     exact ⟨y,(hs y).2 ⟨a,by rw [c];simpa using Oo⟩,b,c,d⟩
    count:=fun y hy hr=>by
     obtain ⟨g,g4⟩:=(hs y).1 hy
     show ((tc y.id (s.bC.places.filter fun x=>!decide (x.bB=j.id)):Nat):Int)=_
     rw [HL,if_neg g4];exact h.count y g hr}
  have Xb:j.runs=false:=by simpa using hr
  rw [if_neg hr,lG h.qb,←hid]
  refine cJ.ok.event (s:=⟨s.round,s.next,s.bC,s.tree,s.aL.eraseIdx i,_,s.ev,s.au⟩) ?_ _ _
  exact {
   bC:=h.bC,rm:=h.rm,tree:=h.tree,notes:=h.notes
   used:=fun e he k hk=>by
    have:=uj k e.path hj
    have t0:fS k e.path j=0:=by simp [fS,Xb]
    rw [h.used e he k hk];simp only;omega
   most:=Nat.le_trans hlen h.most
   next:=h.next
   ids:=h.ids.sublist hsub
   Dz:=fun y hy=>h.Dz y ((hs y).1 hy).1
   Cf:=fun y hy=>h.Cf y ((hs y).1 hy).1
   left:=fun y hy=>h.left y ((hs y).1 hy).1
   zb:=h.zb.filter _
   qb:=h.qb.filter _
   sM:=fun q=>by
    show q∈s.queue.filter _↔_
    rw [List.mem_filter,h.sM q]
    constructor
    ·rintro ⟨⟨y,a,b,rfl⟩,c⟩
     exact ⟨y,(hs y).2 ⟨a,by simpa using c⟩,b,rfl⟩
    rintro ⟨y,a,b,rfl⟩
    obtain ⟨g,g4⟩:=(hs y).1 a
    exact ⟨⟨y,g,b,rfl⟩,by simpa using g4⟩
   places:=fun x hx=>by
    obtain ⟨y,a,b,c,d⟩:=h.places x hx
    refine ⟨y,(hs y).2 ⟨a,fun e=>?_⟩,b,c,d⟩
    have:=kN h.ids a hm e
    subst this;rw [Xb] at b;cases b
   count:=fun y hy hr=>h.count y ((hs y).1 hy).1 hr}
structure iu where
 kind:Nat
 a:Nat
 b:Nat
 c:Nat
 d:Nat
structure iu.u (x:iu):Prop where
 kind:x.kind<256
 a:x.a<256
 b:x.b<256
 c:x.c<256
 d:x.d<256
def iu.cells (x:iu):List D:=[.int .u8 x.kind,.int .u8 x.a,.int .u8 x.b,.int .u8 x.c,.int .u8 x.d]
def Bs:List aA:=[[97],[97,47,98],[98],[206,177,206,178]]
def py:List aA:=[[110,49],[110,50],[110,51]]
def Bt (x:iu):Ask:=⟨Bs.getD (x.a%4) [],⟨(x.b%5:Nat),(x.b / 5%5:Nat),0,(x.b / 25%3:Nat)⟩,(1+x.c%3:Nat),(x.c / 3%4:Nat),(1+x.d%5:Nat),if 200<x.d then [⟨SZ,decide (x.d%2=1),[[97]]⟩] else []⟩
def UP:List aA:=[[97],[97,47,98],[98]]
def rq (m:Nat):Nat→List aQ
 |0=>(vD [⟨[],bz.zero,bz.zero⟩] [] ⟨30,30,30,30⟩).1
 |i+1=>(vD (rq m i) (UP.getD i []) ⟨(6+4*i+m:Nat),20,20,20⟩).1
def Bu (i:Nat):List bR:=if i<2 then [⟨SZ,[[97],[98]].getD i []⟩] else []
def S7 (n i:Nat):Bool:=decide (n / 2^(5+i)%2=0)
def eO (n:Nat):Nat→cQ
 |0=>⟨[],[]⟩
 |i+1=>if S7 n i then (qZ (eO n i) ⟨py.getD i [],⟨(4+2*i:Nat),9,9,9⟩,Bu i,false⟩).1 else eO n i
def kO (n:Nat):cJ:=⟨0,1,eO n 3,rq (n%5) 3,[],[],⟨0,[]⟩,⟨0,[]⟩⟩
def jG (x:iu) (s:cJ):cJ:=
 if x.kind%8≤2 then (bW s (Bt x)).1 else
 if x.kind%8≤4 then (if (fit (wX s.bC) (dZ s.aL (x.a%12:Nat)).1.x.bX (dZ s.aL (x.a%12:Nat)).1.x.fZ (dZ s.aL (x.a%12:Nat)).1.x.count).2 then
  (dK s (x.a%12:Nat) (fit (wX s.bC) (dZ s.aL (x.a%12:Nat)).1.x.bX (dZ s.aL (x.a%12:Nat)).1.x.fZ (dZ s.aL (x.a%12:Nat)).1.x.count).1).1 else s) else
 if x.kind%8=5 then (nj s (x.a%12:Nat) 5).1 else
 if x.kind%8=6 then (send s (x.a%12:Nat) 4).1 else
 (dK s (x.a%12:Nat) (py.take (x.b%4))).1
def dh (n:Nat) (l:List iu) (k:Nat):cJ:=(l.take k).foldl (fun s x=>jG x s) (kO n)
theorem yH {n:Nat} {l:List iu} {k:Nat} {x:iu} (h:l[k]?=some x):dh n l (k+1)=jG x (dh n l k):=by
 unfold dh;rw [lZ h,List.foldl_append];rfl
def pV (m:Nat):List aQ:=[⟨[],⟨30,30,30,30⟩,bz.zero⟩,⟨[97],⟨(6+m:Nat),20,20,20⟩,bz.zero⟩,⟨[97,47,98],⟨(10+m:Nat),20,20,20⟩,bz.zero⟩,⟨[98],⟨(14+m:Nat),20,20,20⟩,bz.zero⟩]
theorem L7:∀m<5,rq m 3=pV m:=by decide+kernel
theorem Qh:∀m<5,∀i<4,(rq m i).length≤4:=by decide+kernel
theorem S8 {n:Nat} (i:Nat):S7 n i=S7 (n / 32*32) i:=by
 unfold S7
 rw [show 5+i=5+i from rfl,Nat.pow_add,←Nat.div_div_eq_div_mul,←Nat.div_div_eq_div_mul,show (2:Nat)^5=32 from rfl,Nat.mul_div_cancel _ (by decide)]
theorem HM (n:Nat):∀i,eO n i=eO (n / 32*32) i
 |0=>rfl
 |i+1=>by rw [eO,eO,←HM n i,S8]
theorem Na {m:Nat} (hm:m<5):Tree.ok (pV m)∧∀e∈pV m,e.used=bz.zero:=by
 have hz:∀e∈pV m,e.used=bz.zero:=by
  intro e he;simp only [pV,List.mem_cons,List.not_mem_nil,or_false] at he
  rcases he with rfl|rfl|rfl|rfl<;>rfl
 have hp:(pV m).map (·.path)=[[],[97],[97,47,98],[98]]:=rfl
 refine ⟨⟨⟨_,_,rfl,rfl⟩,by simp [pV],?_,?_,?_,?_,?_⟩,hz⟩
 ·have:(((pV m).map (·.path)).Pairwise (·<·)):=by rw [hp];decide
  exact List.pairwise_map.1 this
 ·intro e he
  have:e.path∈(pV m).map (·.path):=List.mem_map_of_mem he
  rw [hp] at this
  have hn:∀p∈([[],[97],[97,47,98],[98]]:List aA),named p=true:=by decide+kernel
  exact hn _ this
 ·intro e he
  have h1:e.path∈(pV m).map (·.path):=List.mem_map_of_mem he
  have hn:∀p∈([[],[97],[97,47,98],[98]]:List aA),parent p∈([[],[97],[97,47,98],[98]]:List aA):=by decide+kernel
  rw [hp] at h1
  have h2:=hn _ h1
  rw [←hp] at h2
  obtain ⟨f,hf,g⟩:=List.mem_map.1 h2
  exact ⟨f,hf,g⟩
 ·intro e he k _;rw [hz e he,sx];omega
 intro e he
 refine ⟨?_,by rw [hz e he];exact JU⟩
 simp only [pV,List.mem_cons,List.not_mem_nil,or_false] at he
 rcases he with rfl|rfl|rfl|rfl<;>(intro k hk;unfold bz.at_;split<;>simp only<;>omega)
theorem Ys (i:Nat) (hi:i<3):(⟨(4+2*i:Nat),9,9,9⟩:bz).w:=by intro k hk;unfold bz.at_;split<;>simp only<;>omega
theorem L8 (n:Nat):∀i≤3,(eO n i).ok∧(eO n i).w
 |0,_=>⟨S0,VN⟩
 |i+1,h=>by
  obtain ⟨a,b⟩:=L8 n i (by omega)
  unfold eO
  split
  ·exact VM a b (Ys i (by omega))
  exact ⟨a,b⟩
theorem HN (p:cQ) (n:Node):(qZ p n).1.places=p.places:=by
 rcases ue p n with ⟨e,_⟩|⟨_,_,_,e⟩
 ·rw [e]
 rw [e]
theorem ru (n:Nat):∀i,(eO n i).places=[]
 |0=>rfl
 |i+1=>by
  unfold eO;split
  ·rw [HN,ru n i]
  exact ru n i
theorem Bv (n:Nat):(kO n).ok:=by
 have hm:n%5<5:=Nat.mod_lt _ (by decide)
 obtain ⟨t1,t2⟩:=Na hm
 obtain ⟨p1,p2⟩:=L8 n 3 (Nat.le_refl _)
 unfold kO
 rw [L7 _ hm]
 exact {
  bC:=p1,rm:=p2,tree:=t1
  used:=fun e he k _=>by simp only at he;rw [t2 e he,sx];rfl
  most:=by simp
  next:=by simp
  ids:=List.Pairwise.nil
  Dz:=fun j hj=>by cases hj
  Cf:=fun j hj=>by cases hj
  left:=fun j hj=>by cases hj
  zb:=List.Pairwise.nil
  qb:=List.Pairwise.nil
  sM:=fun q=>by simp
  places:=fun x hx=>by simp only at hx;rw [ru] at hx;cases hx
  count:=fun j hj=>by cases hj
  notes:=by simp}
theorem Qi (x:iu):(Bt x).fZ.w:=by intro k hk;unfold Bt bz.at_;split<;>simp only<;>omega
theorem cJ.ok.done {s:cJ} (h:s.ok) (x:iu):(jG x s).ok:=by
 unfold jG
 split
 ·exact h.bW (Qi x)
 split
 ·split
  ·exact h.Qg _ _
  exact h
 split
 ·exact h.stop _ _
 split
 ·exact h.end_ _ _
 exact h.Qg _ _
theorem DB (n:Nat) (l:List iu) (k:Nat):(dh n l k).ok:=by
 unfold dh
 exact wV (P:=cJ.ok) (fun a b h=>h.done b) _ _ (Bv n)
end Dem
end
section
open Go Go.Proofs Go.ChangeShapes Go.WideShapes Go.RowKit
namespace Dem
section
variable {H:Type} {enc:TypeId×Value→H} {W:World} {v:Value} {d:DataW H} {p:List MemPlace} {base:Nat}
theorem wf_u8 {n:Int} (h:(Lit.int .u8 n).wf=true):∃k:Nat,n=k∧k<256:=by
 simp only [Lit.wf,Bool.and_eq_true,IntKind.min,IntKind.max,IntKind.signed,IntKind.bits] at h
 simp at h
 exact ⟨n.toNat,by omega,by omega⟩
theorem S9 {r:List D} (h:ct [.int .u8,.int .u8,.int .u8,.int .u8,.int .u8] r):∃x:iu,r=x.cells∧x.u:=by
 simp only [ct,qz] at h
 obtain ⟨_,_,rfl,⟨n0,rfl,h0⟩,_,_,rfl,⟨n1,rfl,h1⟩,_,_,rfl,⟨n2,rfl,h2⟩,_,_,rfl,⟨n3,rfl,h3⟩,_,_,rfl,⟨n4,rfl,h4⟩,rfl⟩:=h
 obtain ⟨k0,rfl,g0⟩:=wf_u8 h0
 obtain ⟨k1,rfl,g1⟩:=wf_u8 h1
 obtain ⟨k2,rfl,g2⟩:=wf_u8 h2
 obtain ⟨k3,rfl,g3⟩:=wf_u8 h3
 obtain ⟨k4,rfl,g4⟩:=wf_u8 h4
 exact ⟨⟨k0,k1,k2,k3,k4⟩,rfl,⟨g0,g1,g2,g3,g4⟩⟩
theorem Nb (hval:Value.okWide Tryz.prog W .any base 33 v) (h:DataW.Trod enc Tryz.prog W 0 (fun _=>true) true 33 v d p):
 ∃l:List iu,ah (fun _=>0) [] W (okW W) (SL (l.map iu.cells)) v∧(∀x∈l,x.u)∧l.length≤maxLen:=by
 obtain ⟨fuel,hf⟩:=h
 obtain ⟨a,len,cap,rfl⟩:=okWide_slice (show Tryz.prog.underlying 33=some (.slice 45) by kernel_rfl) hval
 obtain ⟨h1,h2⟩:=qA (P6 W) 8 fuel 33 [.slice a len cap] (d,p) [.sl [.int .u8,.int .u8,.int .u8,.int .u8,.int .u8]] hf (by kernel_rfl)
 simp only [ct,qz] at h2
 obtain ⟨_,_,e,⟨es,rfl,hl,hr⟩,rfl⟩:=h2
 rw [e] at h1
 simp only [b9] at h1
 obtain ⟨u,r,e2,h3,rfl⟩:=h1
 cases e2
 obtain ⟨l,rfl,oP⟩:=zw (cells:=iu.cells) (Q:=iu.u) es (fun r hm=>S9 (hr r hm))
 exact ⟨l,by simpa only [ah] using h3,oP,by simpa using hl⟩
theorem Qj (hval:Value.okWide Tryz.prog W .any base 5 v) (h:DataW.Trod enc Tryz.prog W 0 (fun _=>true) true 5 v d p):
 ∃k:Nat,ah (fun _=>0) [] W (okW W) (.d (.int .u8 (k:Int))) v∧k<256:=by
 obtain ⟨n,rfl,_,_,hw⟩:=open_int (show Tryz.prog.underlying 5=some (.int .u8) by kernel_rfl) hval h
 obtain ⟨k,rfl,hk⟩:=wf_u8 hw
 exact ⟨k,by simp only [ah,aH],hk⟩
end
end Dem
end
section
open Go
namespace Dem
theorem ET {l:List Jb} (ha:vM l) {i:Nat} {j:Jb} (hj:l[i]?=some j):l.findIdx? (fun x=>decide (x.id=j.id))=some i∧l.getD i Jb.zero=j∧dZ l j.id=(j,true):=by
 have h1:l.findIdx? (fun x=>decide (x.id=j.id))=some i:=by
  cases h:l.findIdx? (fun x=>decide (x.id=j.id)) with
  |none=>rw [List.findIdx?_eq_none_iff] at h;have:=h j (List.mem_of_getElem? hj);simp at this
  |some k=>
   obtain ⟨y,a,b,_⟩:=uk h
   rw [ER ha a hj b]
 refine ⟨h1,by rw [List.getD_eq_getElem?_getD,hj];rfl,?_⟩
 unfold dZ
 cases h:l.find? (fun x=>decide (x.id=j.id)) with
 |none=>rw [List.find?_eq_none] at h;have:=h j (List.mem_of_getElem? hj);simp at this
 |some y=>
  have e:=List.find?_some h
  simp only [decide_eq_true_eq] at e
  simp only
  rw [kN ha (List.mem_of_find?_eq_some h) (List.mem_of_getElem? hj) e]
abbrev Jb.begun (j:Jb):Jb:={j with runs:=true,left:=j.x.dO}
abbrev Jb.halted (j:Jb):Jb:={j with runs:=false,left:=0}
theorem Nc {s:cJ} (h:s.ok) {id:Int} {names:List aA} (e:(dK s id names).2=0):
 ∃(i:Nat) (j:Jb) (T:List aQ),s.aL[i]?=some j∧j.id=id∧j.runs=false∧(names.length:Int)=j.x.count∧fy s.tree T∧
  (dK s id names).1=fR ⟨s.round,s.next,⟨s.bC.nodes,s.bC.places++names.map (fun n=>⟨id,n,j.x.fZ⟩)⟩,T,s.aL.set i j.begun,s.queue.filter (fun q=>!decide (q.id=id)),s.ev,s.au⟩ id 2:=by
 unfold dK at e ⊢
 cases hf:s.aL.findIdx? (fun j=>decide (j.id=id)) with
 |none=>rw [hf] at e;cases e
 |some i=>
  obtain ⟨j,hj,hid,c⟩:=uk hf
  rw [hf] at e
  simp only at e ⊢
  rw [c] at e ⊢
  unfold jW at e ⊢
  by_cases h1:j.runs=true
  ·rw [if_pos h1] at e;cases e
  rw [if_neg h1] at e ⊢
  by_cases h2:(names.length:Int)≠j.x.count
  ·rw [if_pos h2] at e;cases e
  rw [if_neg h2] at e ⊢
  by_cases h3:(!(dG j.x).2)=true
  ·rw [if_pos h3] at e;cases e
  rw [if_neg h3] at e ⊢
  by_cases h4:(ic s.tree j.x.path (dG j.x).1).2≠0
  ·rw [if_pos h4] at e;exact absurd e h4
  rw [if_neg h4] at e ⊢
  simp only [Decidable.not_not] at h2 h4
  rcases Bo s.bC id names j.x.fZ with ⟨_,e2⟩|⟨e2,_⟩
  ·rw [if_pos e2] at e;exact absurd e e2
  rw [if_neg (by rw [e2];simp)]
  refine ⟨i,j,_,hj,hid,by simpa using h1,h2,(DA h h4).2.1,?_⟩
  rw [lG h.qb,e2];rfl
theorem Qk {s:cJ} (h:s.ok) {i:Nat} {j:Jb} (hj:s.aL[i]?=some j) (hr:j.runs=true) (kind:Int):
 ∃T Q,fy s.tree T∧nj s j.id kind=(fR ⟨s.round,s.next,vE s.bC j.id,T,s.aL.set i j.halted,Q,s.ev,s.au⟩ j.id kind,0):=by
 obtain ⟨h1,h2,_⟩:=ET h.ids hj
 refine ⟨_,(jF s.queue ⟨j.id,j.x.prio⟩).1,(oq h hj hr).2.2.1,?_⟩
 unfold nj
 rw [h1]
 simp only
 rw [h2,if_neg (by simp [hr]),h.jg hj hr]
 simp [Dr]
theorem L9 {s:cJ} (h:s.ok) {i:Nat} {j:Jb} (hj:s.aL[i]?=some j) (kind:Int):
 (send s j.id kind).2=0∧(j.runs=false→send s j.id kind=(fR ⟨s.round,s.next,s.bC,s.tree,s.aL.eraseIdx i,s.queue.filter (fun q=>!decide (q.id=j.id)),s.ev,s.au⟩ j.id kind,0))∧
 (j.runs=true→∃T,fy s.tree T∧send s j.id kind=(fR ⟨s.round,s.next,vE s.bC j.id,T,s.aL.eraseIdx i,s.queue,s.ev,s.au⟩ j.id kind,0)):=by
 obtain ⟨h1,h2,_⟩:=ET h.ids hj
 unfold send
 rw [h1]
 simp only
 rw [h2]
 refine ⟨trv,fun hr=>?_,fun hr=>?_⟩
 ·rw [hr,if_neg (by simp),lG h.qb]
 refine ⟨_,(oq h hj hr).2.2.1,?_⟩
 rw [if_pos hr,h.jg hj hr]
theorem Bw {s:cJ} (h:s.ok) {x:Ask} (e:(bW s x).2.2=0):
 (bW s x).2.1=s.next∧s.next+1<18446744073709551616∧
 (bW s x).1=fR ⟨s.round,s.next+1,s.bC,s.tree,s.aL++[⟨s.next,x,false,0⟩],s.queue.take (tZ s.queue ⟨s.next,x.prio⟩)++⟨s.next,x.prio⟩::s.queue.drop (tZ s.queue ⟨s.next,x.prio⟩),s.ev,s.au⟩ s.next 1:=by
 unfold bW at e ⊢
 by_cases h1:cI x≠0
 ·rw [if_pos h1] at e;exact absurd e h1
 rw [if_neg h1] at e ⊢
 by_cases h2:(!gz s.tree x.path)=true
 ·rw [if_pos h2] at e;cases e
 rw [if_neg h2] at e ⊢
 by_cases h3:32≤s.aL.length∨s.next=18446744073709551615
 ·rw [if_pos h3] at e;cases e
 rw [if_neg h3] at e ⊢
 have UO:=h.next
 rcases rj s.queue ⟨s.next,x.prio⟩ with ⟨_,e2,_⟩|⟨e2,_⟩
 ·rw [if_pos e2] at e;exact absurd e e2
 rw [e2,if_neg (by simp)]
 have hu:u64 (s.next+1)=s.next+1:=by unfold u64;omega
 rw [hu]
 exact ⟨rfl,by omega,rfl⟩
theorem DC {s:cJ} {x:Ask} (e:(bW s x).2.2≠0):(bW s x).1=s∧(bW s x).2.1=0∧(cI x=0∨(bW s x).2.2=cI x):=by
 unfold bW at e ⊢
 by_cases h1:cI x≠0
 ·rw [if_pos h1];exact ⟨rfl,rfl,.inr rfl⟩
 rw [if_neg h1] at e ⊢
 simp only [Decidable.not_not] at h1
 by_cases h2:(!gz s.tree x.path)=true
 ·rw [if_pos h2];exact ⟨rfl,rfl,.inl h1⟩
 rw [if_neg h2] at e ⊢
 by_cases h3:32≤s.aL.length∨s.next=18446744073709551615
 ·rw [if_pos h3];exact ⟨rfl,rfl,.inl h1⟩
 rw [if_neg h3] at e ⊢
 by_cases h4:(jF s.queue ⟨s.next,x.prio⟩).2≠0
 ·rw [if_pos h4];exact ⟨rfl,rfl,.inl h1⟩
 rw [if_neg h4] at e;exact absurd rfl e
theorem Ta {s:cJ} (h:s.ok) {x:Ask} (hx:x.fZ.w) (e:(bW s x).2.2=0):
 dZ (bW s x).1.aL s.next=(⟨s.next,x,false,0⟩,true)∧(bW s x).1.aL.length=s.aL.length+1∧0≤fQ (bW s x).1.queue s.next∧(bW s x).1.queue.length=s.queue.length+1∧
 (bW s x).1.next=s.next+1∧(bW s x).1.bC=s.bC∧
 (send (bW s x).1 s.next 4).2=0∧{(send (bW s x).1 s.next 4).1 with next:=s.next,ev:=s.ev}=s:=by
 have ho:=h.bW hx
 obtain ⟨_,_,e3⟩:=Bw h e
 generalize (bW s x).1=S at*
 have hj:S.aL[s.aL.length]?=some ⟨s.next,x,false,0⟩:=by rw [e3];simp [fR]
 have hmem:∃q∈S.queue,q.id=s.next:=⟨⟨s.next,x.prio⟩,by rw [e3];exact Bm.2 (.inr rfl),rfl⟩
 have ZY:0≤fQ S.queue s.next:=by
  obtain ⟨q,hq,g⟩:=hmem
  obtain ⟨i,hi⟩:=List.getElem?_of_mem hq
  have:=Dy ho.qb hi
  rw [g] at this;omega
 have hno:∀q∈s.queue,q.id≠s.next:=fun q hq g=>by
  obtain ⟨j,a,_,rfl⟩:=(h.sM q).1 hq
  have:=(h.Dz j a).2
  simp only at g;omega
 obtain ⟨f1,f2,_⟩:=L9 ho hj 4
 have f2:=f2 rfl
 refine ⟨(ET ho.ids hj).2.2,?_,ZY,?_,?_,?_,f1,?_⟩
 ·rw [e3];simp [fR]
 ·rw [e3]
  have:=(HD s.queue ⟨s.next,x.prio⟩).1
  simp [fR];omega
 ·rw [e3];rfl
 ·rw [e3];rfl
 have f2:send S s.next 4=_:=f2
 rw [f2,e3]
 simp only [fR]
 have g1:(s.aL++[(⟨s.next,x,false,0⟩:Jb)]).eraseIdx s.aL.length=s.aL:=by
  rw [List.eraseIdx_append_of_length_le (Nat.le_refl _)];simp
 have g2:(List.take (tZ s.queue ⟨s.next,x.prio⟩) s.queue++⟨s.next,x.prio⟩::List.drop (tZ s.queue ⟨s.next,x.prio⟩) s.queue).filter (fun q=>!decide (q.id=s.next))=s.queue:=by
  rw [List.filter_append,List.filter_cons]
  simp only [decide_true,Bool.not_true,Bool.false_eq_true,if_false]
  rw [←List.filter_append,List.take_append_drop,List.filter_eq_self]
  intro q hq;simpa using hno q hq
 rw [g1,g2]
structure cJ.c6 (A:Ask→Prop) (s:cJ):Prop where
 names:∀n∈s.bC.nodes,n.sm
 paths:∀e∈s.tree,e.path.length<1000
 xs:∀j∈s.aL,A j.x
structure mP (s t:cJ):Prop where
 nodes:t.bC.nodes=s.bC.nodes
 paths:∀e∈t.tree,∃f∈s.tree,e.path=f.path
 xs:∀j∈t.aL,∃k∈s.aL,j.x=k.x
theorem mP.refl (s:cJ):mP s s:=⟨rfl,fun e h=>⟨e,h,rfl⟩,fun j h=>⟨j,h,rfl⟩⟩
theorem mP.c6 {A:Ask→Prop} {s t:cJ} (h:mP s t) (l:s.c6 A):t.c6 A:=by
 refine ⟨by rw [h.nodes];exact l.names,fun e he=>?_,fun j hj=>?_⟩
 ·obtain ⟨f,hf,e1⟩:=h.paths e he;rw [e1];exact l.paths f hf
 obtain ⟨k,hk,e1⟩:=h.xs j hj;rw [e1];exact l.xs k hk
theorem Ql {l:List Jb} {k:Nat} {j y:Jb} (hk:l[k]?=some y) (hx:j.x=y.x):∀z∈l.set k j,∃w∈l,z.x=w.x:=by
 intro z hz
 rcases List.mem_or_eq_of_mem_set hz with h|rfl
 ·exact ⟨z,h,rfl⟩
 exact ⟨y,List.mem_of_getElem? hk,hx⟩
theorem Bx {t u:List aQ} (h:fy t u):∀e∈u,∃f∈t,e.path=f.path:=fun e he=>by
 obtain ⟨f,hf,h1,_⟩:=h.back he
 exact ⟨f,hf,h1⟩
theorem Ng {s:cJ} {id:Int} {names:List aA} (e:(dK s id names).2≠0):(dK s id names).1=s:=by
 unfold dK at e ⊢
 split
 ·rfl
 rename_i k hk
 rw [hk] at e
 simp only at e
 unfold jW at e ⊢
 by_cases h1:(s.aL.getD k Jb.zero).runs=true
 ·rw [if_pos h1]
 rw [if_neg h1] at e ⊢
 by_cases h2:(names.length:Int)≠(s.aL.getD k Jb.zero).x.count
 ·rw [if_pos h2]
 rw [if_neg h2] at e ⊢
 by_cases h3:(!(dG (s.aL.getD k Jb.zero).x).2)=true
 ·rw [if_pos h3]
 rw [if_neg h3] at e ⊢
 split
 ·rfl
 rename_i h4
 rw [if_neg h4] at e
 split
 ·rfl
 rename_i h5
 rw [if_neg h5] at e
 exact absurd rfl e
theorem yI {s:cJ} (h:s.ok) (id:Int) (names:List aA):mP s (dK s id names).1:=by
 by_cases e:(dK s id names).2=0
 ·obtain ⟨i,j,T,h1,h2,h3,h4,h5,h6⟩:=Nc h e
  rw [h6]
  exact ⟨rfl,Bx h5,Ql h1 rfl⟩
 rw [Ng e];exact mP.refl s
theorem Ki {s:cJ} (h:s.ok) (id kind:Int):mP s (nj s id kind).1:=by
 cases hf:s.aL.findIdx? (fun j=>decide (j.id=id)) with
 |none=>unfold nj;rw [hf];exact mP.refl s
 |some i=>
  obtain ⟨j,hj,rfl,c⟩:=uk hf
  by_cases hr:j.runs=true
  ·obtain ⟨T,Q,h1,h2⟩:=Qk h hj hr kind
   rw [h2]
   exact ⟨rfl,Bx h1,Ql hj rfl⟩
  unfold nj;rw [hf];simp only;rw [c,if_pos (by simpa using hr)];exact mP.refl s
theorem DD {s:cJ} (h:s.ok) (id kind:Int):mP s (send s id kind).1:=by
 cases hf:s.aL.findIdx? (fun j=>decide (j.id=id)) with
 |none=>unfold send;rw [hf];exact mP.refl s
 |some i=>
  obtain ⟨j,hj,rfl,c⟩:=uk hf
  obtain ⟨h1,h2,h3⟩:=L9 h hj kind
  have hx:∀z∈s.aL.eraseIdx i,∃w∈s.aL,z.x=w.x:=fun z hz=>⟨z,List.mem_of_mem_eraseIdx hz,rfl⟩
  by_cases hr:j.runs=true
  ·obtain ⟨T,h4,h5⟩:=h3 hr
   rw [h5]
   exact ⟨rfl,Bx h4,hx⟩
  rw [h2 (by simpa using hr)]
  exact ⟨rfl,fun e he=>⟨e,he,rfl⟩,hx⟩
theorem ul {A:Ask→Prop} {s:cJ} (l:s.c6 A) {x:Ask} (hx:A x):(bW s x).1.c6 A:=by
 by_cases e:(bW s x).2.2=0
 ·unfold bW at e ⊢
  split
  ·exact l
  split
  ·exact l
  split
  ·exact l
  split
  ·exact l
  refine ⟨l.names,l.paths,fun j hj=>?_⟩
  rcases List.mem_append.1 hj with h|h
  ·exact l.xs j h
  rw [List.mem_singleton.1 h];exact hx
 rw [(DC e).1];exact l
theorem Qm {A:Ask→Prop} (hA:∀x,A (Bt x)) {s:cJ} (h:s.ok) (l:s.c6 A) (x:iu):(jG x s).c6 A:=by
 unfold jG
 split
 ·exact ul l (hA x)
 split
 ·split
  ·exact (yI h _ _).c6 l
  exact l
 split
 ·exact (Ki h _ _).c6 l
 split
 ·exact (DD h _ _).c6 l
 exact (yI h _ _).c6 l
structure By (x:Ask):Prop where
 path:x.path.length≤4
 fZ:x.fZ.w
 bX:x.bX.length≤1
 key:∀m∈x.bX,m.key.length≤4∧m.fw.length≤1∧∀v∈m.fw,v.length≤1
theorem pz (x:iu):By (Bt x):=by
 refine ⟨?_,Qi x,?_,?_⟩
 ·unfold Bt
  simp only
  have:∀k<4,(Bs.getD k []).length≤4:=by decide
  exact this _ (Nat.mod_lt _ (by decide))
 ·unfold Bt;simp only;split<;>simp
 unfold Bt;simp only;split
 ·intro m hm
  rw [List.mem_singleton.1 hm]
  exact ⟨by show SZ.length≤4;decide,by simp,by simp⟩
 intro m hm;cases hm
theorem Kj {p:cQ} (h:∀n∈p.nodes,n.sm) {y:Node} (hy:y.sm):∀n∈(qZ p y).1.nodes,n.sm:=by
 rcases ue p y with ⟨e,_⟩|⟨_,_,_,e⟩
 ·rw [e];exact h
 rw [e]
 intro n hn
 rcases List.mem_append.1 hn with h1|h1
 ·exact h n (List.mem_of_mem_take h1)
 rcases List.mem_cons.1 h1 with rfl|h1
 ·exact hy
 exact h n (List.mem_of_mem_drop h1)
theorem HO (i:Nat):(⟨py.getD i [],⟨(4+2*i:Nat),9,9,9⟩,Bu i,false⟩:Node).sm:=by
 have h1:∀i,(py.getD i []).length≤2
  |0=>by decide
  |1=>by decide
  |2=>by decide
  |i+3=>by simp [py]
 have h2:∀i,(Bu i).length≤1∧∀q∈Bu i,q.sm:=by
  intro i
  unfold Bu
  split
  ·refine ⟨by simp,fun q hq=>?_⟩
   rw [List.mem_singleton.1 hq]
   have h3:∀i,(([[97],[98]]:List aA).getD i []).length≤1
    |0=>by decide
    |1=>by decide
    |i+2=>by simp
   have:=h3 i
   exact ⟨by show SZ.length<_;decide,by simp only;omega⟩
  exact ⟨by simp,fun q hq=>by cases hq⟩
 exact ⟨by have:=h1 i;simp only;omega,by have:=(h2 i).1;simp only;omega,(h2 i).2⟩
theorem um (n:Nat):∀i,∀x∈(eO n i).nodes,x.sm
 |0=>fun x hx=>by cases hx
 |i+1=>by
  unfold eO
  split
  ·exact Kj (um n i) (HO i)
  exact um n i
theorem HP (A:Ask→Prop) (n:Nat):(kO n).c6 A:=by
 refine ⟨um n 3,fun e he=>?_,fun j hj=>by cases hj⟩
 unfold kO at he
 rw [L7 _ (Nat.mod_lt _ (by decide))] at he
 simp only [pV,List.mem_cons,List.not_mem_nil,or_false] at he
 rcases he with rfl|rfl|rfl|rfl<;>simp
theorem Bz (n:Nat) (l:List iu) (k:Nat):(dh n l k).c6 By:=by
 have:(dh n l k).ok∧(dh n l k).c6 By:=by
  unfold dh
  exact wV (P:=fun s=>cJ.ok s∧s.c6 By) (fun a b h=>⟨h.1.done b,Qm pz h.1 h.2 b⟩) _ _ ⟨Bv n,HP _ n⟩
 exact this.2
theorem Tb (id:Int) (x:Place) (l:List Place):tc id (x::l)=(if x.bB=id then 1 else 0)+tc id l:=by
 unfold tc
 rw [List.filter_cons]
 split<;>simp_all<;>omega
theorem VS {js:List Jb} {f g:Jb→Nat} (h:∀j∈js,f j≤g j):(js.map f).sum≤(js.map g).sum:=by
 induction js with
 |nil=>simp
 |cons a l ih=>
  simp only [List.map_cons,List.sum_cons]
  have:=h a (List.mem_cons_self ..)
  have:=ih fun j hj=>h j (List.mem_cons_of_mem _ hj)
  omega
theorem Qn {js:List Jb} (f g:Jb→Nat):(js.map fun j=>f j+g j).sum=(js.map f).sum+(js.map g).sum:=by
 induction js with
 |nil=>simp
 |cons a l ih=>simp only [List.map_cons,List.sum_cons,ih];omega
theorem Tc {js:List Jb} {id:Int} {j:Jb} (hj:j∈js) (e:j.id=id):1≤(js.map fun j=>if id=j.id then 1 else 0).sum:=by
 induction js with
 |nil=>cases hj
 |cons a l ih=>
  simp only [List.map_cons,List.sum_cons]
  rcases List.mem_cons.1 hj with rfl|hj
  ·rw [if_pos e.symm];omega
  have:=ih hj;omega
theorem BA {js:List Jb}:∀{l:List Place},(∀x∈l,∃j∈js,j.id=x.bB)→l.length≤(js.map fun j=>tc j.id l).sum
 |[],_=>by simp
 |x::l,h=>by
  have ih:=BA (js:=js) (l:=l) fun y hy=>h y (List.mem_cons_of_mem _ hy)
  obtain ⟨j,hj,e⟩:=h x (List.mem_cons_self ..)
  have h1:=Tc hj e
  have:(fun j:Jb=>tc j.id (x::l))=fun j=>(if x.bB=j.id then 1 else 0)+tc j.id l:=by funext j;rw [Tb]
  rw [this,Qn]
  simp only [List.length_cons]
  omega
theorem cJ.ok.BB {s:cJ} (h:s.ok):s.bC.places.length≤256:=by
 have h1:=BA (js:=s.aL) (l:=s.bC.places) fun x hx=>by
  obtain ⟨j,hj,_,e,_⟩:=h.places x hx
  exact ⟨j,hj,e⟩
 have h2:∀j∈s.aL,tc j.id s.bC.places≤8:=by
  intro j hj
  cases hr:j.runs with
  |true=>
   have e1:=h.count j hj hr
   have e2:=gB.1 (h.Cf j hj).1
   omega
  |false=>
   have e1:=h.L6 hj hr
   have:tc j.id s.bC.places=0:=by
    unfold tc
    rw [List.length_eq_zero_iff,List.filter_eq_nil_iff]
    intro x hx;simpa using e1 x hx
   omega
 have h3:=VS (f:=fun j=>tc j.id s.bC.places) (g:=fun _=>8) h2
 have h4:(s.aL.map fun _=>8).sum=8*s.aL.length:=by
  generalize s.aL=l
  induction l with
  |nil=>rfl
  |cons a l ih=>simp only [List.map_cons,List.sum_cons,List.length_cons,ih];omega
 have:=h.most
 omega
end Dem
end
section
namespace Dem
theorem vN {es:List (List D)} {row z:List D} {i:Nat} (h:i≤es.length):wrote (wrote (es.take i++List.replicate (es.length+1-i) z) i [row]) (i+1) (es.drop i)=es.take i++row::es.drop i:=by
 have hl:(es.take i).length=i:=by simp;omega
 have e1:wrote (es.take i++List.replicate (es.length+1-i) z) i [row]=es.take i++row::List.replicate (es.length-i) z:=by
  unfold wrote
  rw [List.take_left' hl,show i+[row].length=(es.take i).length+1 by rw [hl];rfl,List.drop_length_add_append,List.drop_replicate]
  simp;omega
 rw [e1]
 unfold wrote
 rw [show i+1=(es.take i).length+1 by rw [hl],List.take_length_add_append]
 have e2:List.drop ((es.take i).length+1+(es.drop i).length) (es.take i++row::List.replicate (es.length-i) z)=[]:=by
  rw [List.drop_eq_nil_iff];simp;omega
 rw [e2]
 simp
theorem EU {es:List (List D)} {row:List D} {i:Nat} (h:i<es.length):wrote (wrote es (i+1) (es.drop i)) i [row]=es.take i++row::es.drop i:=by
 have e1:wrote es (i+1) (es.drop i)=es.take (i+1)++es.drop i:=by
  unfold wrote
  have:es.drop (i+1+(es.drop i).length)=[]:=by rw [List.drop_eq_nil_iff];simp;omega
  rw [this,List.append_nil]
 rw [e1]
 unfold wrote
 have hl:(es.take (i+1)).length=i+1:=by simp;omega
 rw [List.take_append_of_le_length (by omega),List.take_take,show i+[row].length=(es.take (i+1)).length by rw [hl];rfl,List.drop_left]
 rw [Nat.min_eq_left (by omega)];simp
theorem nL:∀(xs ys:List D),ys.length=xs.length→bG xs 0 ys=ys
 |[],[],_=>by simp [bG]
 |[],_::_,h=>by simp at h
 |_::_,[],h=>by simp at h
 |x::xs,y::ys,h=>by
  simp only [bG]
  rw [nL xs ys (by simpa using h)]
theorem nM {α:Type}:∀(l:List α) (i:Nat) (x:α),i<l.length→(l.set i x).take (i+1)=l.take i++[x]
 |[],i,x,h=>by simp at h
 |y::l,0,x,h=>by simp
 |y::l,i+1,x,h=>by
  simp only [List.set_cons_succ,List.take_succ_cons,List.cons_append]
  rw [nM l i x (by simpa using h)]
theorem ry {α:Type}:∀(l:List α) (i j:Nat) (x:α),i<j→(l.set i x).drop j=l.drop j
 |[],i,j,x,h=>by simp
 |y::l,0,j+1,x,h=>by simp
 |y::l,i+1,j+1,x,h=>by
  simp only [List.set_cons_succ,List.drop_succ_cons]
  exact ry l i j x (by omega)
 |y::l,_,0,x,h=>by omega
end Dem
end
section
open Go Dem Go.Proofs
namespace Dem
variable {t:Th}
theorem HQ (ht:TT t) {es:List (List D)} (aD:∀r∈es,r.length=7) (hs:es.length*80≤140737488355328) {m:Nat} (hm:m=es.length):
 FC 99 [SL es] [] (.ret (.ow 0 7 m)) [.row 7 es]:=by
 refine bA ht (aB:=[]) Tryz.func99 rfl rfl (N:=8) rfl rfl (n:=0) rfl rfl ?_
 cbv
 refine ⟨fun b hb=>?_⟩
 simp only [ht] at hb
 cbv
 refine ai (fun h=>?_) (fun h=>?_)
 ·have he:=hb h
  subst he
  cbv
  exact JE trv rfl rfl (by rw [hm];rfl) rfl
 clear hb h
 cbv
 refine ⟨?_,?_⟩
 ·simp only [ht];simp;exact ⟨hs,aD⟩
 refine EB trv rfl rfl rfl rfl ?_ ?_
 ·simp only [ht];rw [hm];simp
 simp only [ht];rfl
theorem vO (ht:TT t) {es:List (List D)} (aD:∀r∈es,r.length=6) (hs:es.length*56≤140737488355328) {m:Nat} (hm:m=es.length):
 FC 144 [SL es] [] (.ret (.ow 0 6 m)) [.row 6 es]:=by
 refine bA ht (aB:=[]) Tryz.func144 rfl rfl (N:=8) rfl rfl (n:=0) rfl rfl ?_
 cbv
 refine ⟨fun b hb=>?_⟩
 simp only [ht] at hb
 cbv
 refine ai (fun h=>?_) (fun h=>?_)
 ·have he:=hb h
  subst he
  cbv
  exact JE trv rfl rfl (by rw [hm];rfl) rfl
 clear hb h
 cbv
 refine ⟨?_,?_⟩
 ·simp only [ht];simp;exact ⟨hs,aD⟩
 refine EB trv rfl rfl rfl rfl ?_ ?_
 ·simp only [ht];rw [hm];simp
 simp only [ht];rfl
theorem Cx (ht:TT t) {es:List (List D)} {x:D} {row:List D} {i n c:Nat} (hn:n=es.length) (hi:i≤n) (hc:n≤c) (hc0:n=0→c=0) (aD:∀r∈es,r.length=7) (hrow:(x::row).length=7) (hs:n<1000000) {r:List (List D)} (hr:r=es.take i++(x::row)::es.drop i):
 FC 98 [.vw 0 7 0 n c true,bc (i:Int),SL [x::row]] [.row 7 es] (.ret (SL r)) [.dead]:=by
 obtain ⟨n1,Jh⟩:∃n1,n1=n+1:=⟨_,rfl⟩
 obtain ⟨i1,hi1⟩:∃i1,i1=i+1:=⟨_,rfl⟩
 obtain ⟨ni,hni⟩:∃ni,ni=n-i:=⟨_,rfl⟩
 obtain ⟨ci,uo⟩:∃ci,ci=c-i:=⟨_,rfl⟩
 obtain ⟨ze,Qo⟩:∃ze,ze=c-i1:=⟨_,rfl⟩
 obtain ⟨pE,uq⟩:∃pE,pE=n1-i:=⟨_,rfl⟩
 have hW:∀P:Prop,((IntKind.i64.wrap ((n:Int)+1)=(n1:Int))→(IntKind.i64.wrap ((n1:Int)-(i:Int))=(pE:Int))→(IntKind.i64.wrap ((i:Int)+1)=(i1:Int))→P)→P:=
  fun P h=>h (by rw [wrap64 (by omega) (by omega)];omega) (by rw [wrap64 (by omega) (by omega)];omega) (by rw [wrap64 (by omega) (by omega)];omega)
 have hrl:r.length=n1:=by rw [hr,List.length_append,List.length_cons,List.length_take,List.length_drop];omega
 have VT:n≠0→FC 153 [SL [x::row],.vw 0 7 i1 ni ze true] [.row 7 es] (.ret (BL false)) [.row 7 es]:=fun h0=>
  ia JF Tryz.func153 rfl rfl rfl rfl (tS:=34) (tR:=4) rfl rfl (by intro h;rw [h] at hn;exact h0 hn)
 refine bA ht (aB:=[.row 7 es]) Tryz.func98 rfl rfl (N:=95) rfl rfl (n:=1) rfl rfl ?_
 cbv
 refine bP (.vw 0 7 i ni ci true) [.row 7 es] ?_ ?_ rfl ?_
 ·simp [ht,dX,bQ];omega
 ·simp [ht,aT,aS,hni,uo]
 cbv
 refine pP (by simp [ht]) ?_
 cbv
 refine ai (fun h=>?_) (fun h=>?_)
 ·have hin:i=n:=by simp [ht,aa] at h;omega
  clear h
  cbv
  refine bP (.ow 1 7 n1) [.dead,.row 7 r] ?_ ?_ ?_ ?_
  ·simp only [ht]
   refine ⟨⟨hn,by simp;omega,?_⟩,rfl,hn,fun h=>⟨hc0 (by rw [hn,h];rfl),rfl⟩⟩
   intro r hr
   rcases List.mem_append.1 hr with hr|hr
   ·exact aD r hr
   simp at hr;subst hr;exact hrow
  ·simp [ht,Jh,hn]
  ·simp only [ht];rw [hr]
   have:i=es.length:=by omega
   subst this;simp
  cbv
  refine ak trv ?_ rfl rfl rfl rfl
  simp only [ht];exact hrl.symm
 have hin:i<n:=by simp [ht,aa] at h;omega
 clear h
 have wY:r=(r.drop 0).take n1:=by rw [List.drop_zero,List.take_of_length_le (by omega)]
 cbv
 refine ai (fun h2=>?_) (fun h2=>?_)
 ·have VU:c=n:=by
   refine hW _ fun e1 e2 e3=>?_
   simp [ht,aa,e1] at h2;omega
  clear h2
  obtain ⟨L,hL⟩:∃L:List (List D),L=es.take i++List.replicate (es.length+1-i) [D.str [],D.int IntKind.u64 0,D.int IntKind.u64 0,D.int IntKind.u64 0,D.int IntKind.u64 0,D.sl [],D.bool false]:=⟨_,rfl⟩
  have IU:L.length=n1:=by rw [hL];simp;omega
  obtain ⟨L1,ur⟩:∃L1,L1=wrote L i [x::row]:=⟨_,rfl⟩
  have mQ:L1.length=n1:=by rw [ur];simp [wrote,IU];omega
  have pY:r=wrote L1 i1 (es.drop i):=by rw [hi1,ur,hL,vN (by omega),hr]
  cbv
  refine bP (.vw 0 7 0 i c true) [.row 7 es] ?_ ?_ rfl ?_
  ·simp [ht,dX,bQ];omega
  ·simp [ht,aT,aS]
  cbv
  refine bP (.vw 1 7 0 n1 n1 false) [.row 7 es,.row 7 L] ?_ ?_ ?_ ?_
  ·refine hW _ fun e1 e2 e3=>?_
   simp [ht,aa,e1,e2];omega
  ·refine hW _ fun e1 e2 e3=>?_
   simp [ht,aa,e1,e2];omega
  ·refine hW _ fun e1 e2 e3=>?_
   simp [ht,aa,e1,e2,hL];omega
  cbv
  refine bP (.vw 1 7 i pE pE false) [.row 7 es,.row 7 L] ?_ ?_ rfl ?_
  ·simp [ht,dX,bQ];omega
  ·simp [ht,aT,aS,uq]
  cbv
  refine bP (bc 1) [.row 7 es,.row 7 L1] ?_ ?_ ?_ ?_
  ·simp only [ht,fe]
   refine ⟨⟨by omega,?_⟩,?_⟩
   ·intro h;rw [h] at IU;simp at IU;omega
   intro r hr;have:=List.mem_of_mem_take hr;simp at this;rw [this];exact hrow
  ·simp [ht,aa];omega
  ·simp [ht,ur,show min 1 pE=1 by omega]
  cbv
  refine bS [false,false,false,false,false,false,false,false,true] (by kernel_rfl) (by kernel_rfl) ?_
  cbv
  repeat (refine gI (by (simp;done)) ?_)
  refine iR (.vw 1 7 i1 ni ni false) (fun _=>⟨?_,?_⟩) ?_
  ·refine hW _ fun e1 e2 e3=>?_
   simp [ht,aa,e3,dX,bQ];omega
  ·refine hW _ fun e1 e2 e3=>?_
   simp [ht,aa,e3,aT,aS];omega
  cbv
  repeat (refine gI (by (simp;done)) ?_)
  refine iR (.vw 0 7 i ni ci true) (fun _=>⟨?_,?_⟩) ?_
  ·simp [ht,dX,bQ];omega
  ·simp [ht,aT,aS,hni,uo]
  cbv
  refine bP (bc (ni:Nat)) [.row 7 es,.row 7 r,.bt] ?_ ?_ ?_ ?_
  ·simp only [ht,fe]
   refine ⟨by omega,⟨by omega,?_⟩,?_⟩
   ·intro h;rw [h] at mQ;simp at mQ;omega
   intro r hr;exact aD r (List.mem_of_mem_drop (List.mem_of_mem_take hr))
  ·simp [ht,aa]
  ·simp only [ht,pY]
   rw [List.take_of_length_le (by simp;omega)]
  cbv
  refine AQ [true] trv ?_ rfl rfl rfl ?_
  ·simp only [ht];omega
  simp only [ht];rw [←wY]
 have VU:n<c:=by
  refine hW _ fun e1 e2 e3=>?_
  simp [ht,aa,e1] at h2;omega
 clear h2
 obtain ⟨L1,ur⟩:∃L1,L1=wrote es i1 (es.drop i):=⟨_,rfl⟩
 have pY:r=wrote L1 i [x::row]:=by rw [ur,hi1,EU (by omega),hr]
 have mQ:L1.length=n1:=by rw [ur];simp [wrote];omega
 cbv
 refine bP (.vw 0 7 0 n1 c true) [.row 7 es] ?_ ?_ rfl ?_
 ·refine hW _ fun e1 e2 e3=>?_
  simp [ht,aa,e1,dX,bQ];omega
 ·refine hW _ fun e1 e2 e3=>?_
  simp [ht,aa,e1,aT,aS]
 cbv
 refine bP (.vw 0 7 i1 ni ze true) [.row 7 es] ?_ ?_ rfl ?_
 ·refine hW _ fun e1 e2 e3=>?_
  simp [ht,aa,e3,dX,bQ];omega
 ·refine hW _ fun e1 e2 e3=>?_
  simp [ht,aa,e3,aT,aS];omega
 cbv
 refine de trv (VT (by omega)) ?_
 cbv
 refine mJ (by simp [ht]) ?_
 cbv
 refine bS [false,false,false,false,false,false,false,false,true] (by kernel_rfl) (by kernel_rfl) ?_
 cbv
 repeat (refine gI (by (simp;done)) ?_)
 refine iR (.vw 0 7 i1 ni ze true) (fun _=>⟨?_,?_⟩) ?_
 ·refine hW _ fun e1 e2 e3=>?_
  simp [ht,aa,e3,dX,bQ];omega
 ·refine hW _ fun e1 e2 e3=>?_
  simp [ht,aa,e3,aT,aS];omega
 cbv
 repeat (refine gI (by (simp;done)) ?_)
 refine iR (.vw 0 7 i pE ci true) (fun _=>⟨?_,?_⟩) ?_
 ·simp [ht,dX,bQ];omega
 ·simp [ht,aT,aS,uq,uo]
 cbv
 refine bP (bc (ni:Nat)) [.row 7 L1,.bt] ?_ ?_ ?_ ?_
 ·simp only [ht,fe]
  refine ⟨by omega,⟨by omega,?_⟩,?_⟩
  ·intro h;rw [h] at hn;simp at hn;omega
  intro r hr;exact aD r (List.mem_of_mem_drop (List.mem_of_mem_take hr))
 ·simp [ht,aa];omega
 ·simp only [ht,ur]
  rw [List.take_of_length_le (by simp;omega)]
 cbv
 refine bP (.vw 0 7 i pE ci true) [.row 7 L1,.bt] ?_ ?_ rfl ?_
 ·simp [ht,dX,bQ];omega
 ·simp [ht,aT,aS,uq,uo]
 cbv
 refine bP (bc 1) [.row 7 r,.bt] ?_ ?_ ?_ ?_
 ·simp only [ht,fe]
  refine ⟨⟨by omega,?_⟩,?_⟩
  ·intro h;rw [h] at mQ;simp at mQ;omega
  intro r hr;have:=List.mem_of_mem_take hr;simp at this;rw [this];exact hrow
 ·simp [ht,aa];omega
 ·simp [ht,pY,show min 1 pE=1 by omega]
 cbv
 refine AQ [true] trv ?_ rfl rfl rfl ?_
 ·simp only [ht];omega
 simp only [ht];rw [←wY]
theorem EV (ht:TT t) {es:List (List D)} {x:D} {row:List D} {i n:Nat} (hn:n=es.length) (hi:i≤n) (aD:∀r∈es,r.length=7) (hrow:(x::row).length=7) (hs:n<1000000) {r:List (List D)} (hr:r=es.take i++(x::row)::es.drop i):
 FC 98 [.ow 0 7 n,bc (i:Int),SL [x::row]] [.row 7 es] (.ret (SL r)) [.dead]:=
 fF fun c hc hc0=>Cx ht hn hi hc hc0 aD hrow hs hr
end Dem
end
