/- Parts of a proof, joined. -/
import Derived.Test.YtihohjnkkalgiaaGreatDoorP14
set_option linter.all false
set_option maxRecDepth 100000
set_option maxHeartbeats 4000000
section
open Go
namespace Dem
theorem MR {x:Ai} (h:x.l.length≤32) (n:eI):(tell x n).l.length≤32:=by
 unfold tell
 by_cases g:32<(x.l++[n]).length
 ·rw [if_pos g];simp;omega
 rw [if_neg g];simp only at*;omega
theorem bH.ok.event {s:bH} (h:s.ok) (id kind:Int):(iP s id kind).ok:=
 {h with notes:=⟨MR h.notes.1 _,h.notes.2⟩}
theorem JU {x:Ask} (h:eE x=0) (id:Int):pe ⟨id,x.prio⟩=false:=by
 obtain ⟨_,_,hp,_⟩:=gk.1 h
 simp [pe];omega
theorem GS {x:Ask} (h:eE x=0):named x.path=true:=by
 unfold named;rw [(gk.1 h).1];simp
theorem bH.ok.cN {s:bH} (h:s.ok) {x:Ask} (hx:x.gB.w):(cN s x).1.ok:=by
 unfold Dem.cN
 by_cases h1:eE x≠0
 ·rw [if_pos h1];exact h
 rw [if_neg h1];simp only [Decidable.not_not] at h1
 by_cases h2:(!iO s.tree x.path)=true
 ·rw [if_pos h2];exact h
 rw [if_neg h2]
 by_cases h3:32≤s.aG.length∨s.next=18446744073709551615
 ·rw [if_pos h3];exact h
 rw [if_neg h3]
 have Zs:=h.next
 rcases pu s.queue ⟨s.next,x.prio⟩ with ⟨_,e2,_⟩|⟨e,_,hno,_⟩
 ·rw [if_pos e2];exact h
 rw [e]
 rw [if_neg (by simp)]
 have hu:u64 (s.next+1)=s.next+1:=by unfold u64;omega
 have hn:kL=kL:=rfl
 refine bH.ok.event (s:=⟨s.round,u64 (s.next+1),s.bz,s.tree,s.aG++[⟨s.next,x,false,0⟩],_,s.ev,s.au⟩) ?_ _ _
 rw [hu]
 have hm:∀j,j∈s.aG++[(⟨s.next,x,false,0⟩:Jb)]↔j∈s.aG∨j=⟨s.next,x,false,0⟩:=fun j=>by simp
 exact {
  bz:=h.bz,kr:=h.kr,tree:=h.tree,notes:=h.notes
  used:=fun e he k hk=>by rw [h.used e he k hk];simp only [JT];simp [kL]
  most:=by simp only [List.length_append,List.length_singleton];omega
  next:=by simp only;omega
  ids:=by
   rw [tK,List.pairwise_append]
   refine ⟨h.ids,by simp,fun a ha b hb=>?_⟩
   simp at hb;subst hb;exact (h.yN a ha).2
  yN:=fun j hj=>by
   rcases (hm j).1 hj with g|rfl
   ·have:=h.yN j g;simp only;omega
   simp only;omega
  yO:=fun j hj=>by
   rcases (hm j).1 hj with g|rfl
   ·exact h.yO j g
   exact ⟨h1,hx,by simpa using h2⟩
  left:=fun j hj=>by
   rcases (hm j).1 hj with g|rfl
   ·exact h.left j g
   exact ⟨fun g=>(by cases g),fun _=>rfl⟩
  tL:=EJ h.tL hno
  nT:=EL h.nT hno _
  py:=fun q=>by
   show q∈List.take _ s.queue++_::List.drop _ s.queue↔_
   rw [EK,h.py q]
   constructor
   ·rintro (⟨j,a,b,c⟩|rfl)
    ·exact ⟨j,(hm j).2 (.inl a),b,c⟩
    exact ⟨_,(hm _).2 (.inr rfl),rfl,rfl⟩
   rintro ⟨j,a,b,c⟩
   rcases (hm j).1 a with g|rfl
   ·exact .inl ⟨j,g,b,c⟩
   exact .inr c
  places:=fun y hy=>by
   obtain ⟨j,a,b⟩:=h.places y hy
   exact ⟨j,(hm j).2 (.inl a),b⟩
  count:=fun j hj hr=>by
   rcases (hm j).1 hj with g|rfl
   ·exact h.count j g hr
   cases hr}
theorem A5 {s:bH} (h:s.ok) {p:aQ} {v:bM} (hc:(dg s.tree p v).2=0):
 Tree.ok (dg s.tree p v).1∧cK s.tree (dg s.tree p v).1∧∀e∈(dg s.tree p v).1,∀k<4,vk k e.used=lU k e.path s.aG+if e.path∈above p then vk k v else 0:=by
 unfold dg at*
 rcases pp (fe v) h.tree.zV p with ⟨_,e2,_⟩|⟨e,_,_,hf⟩
 ·exact absurd hc e2
 rw [e]
 have hk:cK s.tree (tH (fe v) (above p) s.tree):=yH fun e he hp=>by rw [vW (hf e he hp)];exact ⟨rfl,rfl⟩
 have hv:∀x∈tH (fe v) (above p) s.tree,x.used.w∧(∀k<4,vk k x.used≤vk k x.fT)∧∀k<4,vk k x.used=lU k x.path s.aG+if x.path∈above p then vk k v else 0:=by
  intro x hx
  obtain ⟨e,he,rfl⟩:=List.mem_map.1 hx
  by_cases hp:e.path∈above p
  ·rw [if_pos hp]
   have h0:=hf e he hp
   obtain ⟨c1,c2⟩:=nS.1 h0
   rw [vW h0]
   refine ⟨R4 c1,rQ.1 c2,fun k hk=>?_⟩
   simp only
   rw [Cp c1 hk,h.used e he k hk,if_pos hp]
  rw [if_neg hp]
  exact ⟨(h.tree.w e he).2,h.tree.fits e he,fun k hk=>by rw [h.used e he k hk,if_neg hp];rfl⟩
 exact ⟨hk.ok h.tree (fun e he=>(hv e he).2.1) (fun e he=>(hv e he).1),hk,fun e he=>(hv e he).2.2⟩
theorem m6 {s:bH} (h:s.ok) {i:Nat} {j:Jb} (hj:s.aG[i]?=some j) (hr:j.runs=true):
 qj s.tree j.x.path j.tot=(tH (dY j.tot) (above j.x.path) s.tree,0)∧
 Tree.ok (tH (dY j.tot) (above j.x.path) s.tree)∧cK s.tree (tH (dY j.tot) (above j.x.path) s.tree)∧∀e∈tH (dY j.tot) (above j.x.path) s.tree,∀k<4,vk k e.used+kL k e.path j=lU k e.path s.aG:=by
 have hm:=List.mem_of_getElem? hj
 obtain ⟨g1,g2,g3⟩:=h.yO j hm
 have hs:∀e∈s.tree,e.path∈above j.x.path→(dX e.used j.tot).2=true:=fun e he hp=>mh.2 fun k hk=>by
  have:=Px k e.path hm
  rw [←h.used e he k hk] at this
  rw [kL,if_pos ⟨hr,hp⟩] at this
  exact this
 have hz:∀e∈s.tree,e.path∈above j.x.path→(dY j.tot e).2=0:=fun e he hp=>tJ.2 (hs e he hp)
 have hk:cK s.tree (tH (dY j.tot) (above j.x.path) s.tree):=yH fun e he hp=>by rw [vX (hz e he hp)];exact ⟨rfl,rfl⟩
 have hv:∀x∈tH (dY j.tot) (above j.x.path) s.tree,x.used.w∧(∀k<4,vk k x.used≤vk k x.fT)∧∀k<4,vk k x.used+kL k x.path j=lU k x.path s.aG:=by
  intro x hx
  obtain ⟨e,he,rfl⟩:=List.mem_map.1 hx
  by_cases hp:e.path∈above j.x.path
  ·rw [if_pos hp]
   have h0:=hs e he hp
   rw [vX (hz e he hp)]
   have VL:=(h.tree.w e he).2
   refine ⟨GI h0,fun k hk=>?_,fun k hk=>?_⟩
   ·simp only;rw [Cq VL h0 hk];have:=h.tree.fits e he k hk;omega
   have h1:=mh.1 h0 k hk
   simp only;rw [Cq VL h0 hk,kL,if_pos ⟨hr,hp⟩,←h.used e he k hk]
   unfold vk;omega
  rw [if_neg hp]
  exact ⟨(h.tree.w e he).2,h.tree.fits e he,fun k hk=>by rw [h.used e he k hk,kL,if_neg (fun g=>hp g.2)];rfl⟩
 refine ⟨?_,hk.ok h.tree (fun e he=>(hv e he).2.1) (fun e he=>(hv e he).1),hk,fun e he=>(hv e he).2.2⟩
 unfold qj
 rcases pp (dY j.tot) h.tree.zV j.x.path with ⟨_,_,e|⟨q,hq,e⟩|⟨y,hy,hp,e⟩⟩|⟨e,_⟩
 ·rw [GS g1] at e;cases e
 ·obtain ⟨z,hz,g⟩:=yL.1 g3 q hq;exact absurd g (e z hz)
 ·exact absurd (hz y hy hp) e
 exact e
theorem bH.ok.II {s:bH} (h:s.ok) {j:Jb} (hj:j∈s.aG) (hr:j.runs=false):∀x∈s.bz.places,x.bS≠j.id:=by
 intro x hx g
 obtain ⟨y,a,b,c,_⟩:=h.places x hx
 have:=iR h.ids a hj (by rw [c,g])
 subst this;rw [hr] at b;cases b
theorem bH.ok.Cs {s:bH} (h:s.ok) {j:Jb} (hj:j∈s.aG) (hr:j.runs=true):∀q∈s.queue,q.id≠j.id:=by
 intro q hq g
 obtain ⟨y,a,b,rfl⟩:=(h.py q).1 hq
 have:=iR h.ids a hj g
 subst this;rw [hr] at b;cases b
theorem GU (id:Int) (a b:List Place):vY id (a++b)=vY id a+vY id b:=by simp [vY]
theorem MS (id bS:Int) (v:bM) (names:List aQ):vY id (names.map fun n=>(⟨bS,n,v⟩:Place))=if bS=id then names.length else 0:=by
 unfold vY
 by_cases h:bS=id
 ·rw [if_pos h,List.filter_eq_self.2 (by intro x hx;obtain ⟨n,_,rfl⟩:=List.mem_map.1 hx;simpa using h)];simp
 rw [if_neg h,List.filter_eq_nil_iff.2 (by intro x hx;obtain ⟨n,_,rfl⟩:=List.mem_map.1 hx;simpa using h)];rfl
theorem EQ (id bS:Int) (ps:List Place):vY id (ps.filter fun x=>!decide (x.bS=bS))=if id=bS then 0 else vY id ps:=by
 unfold vY
 rw [List.filter_filter]
 by_cases h:id=bS
 ·rw [if_pos h,List.length_eq_zero_iff,List.filter_eq_nil_iff];intro x _;simp;intro g;omega
 rw [if_neg h];congr 1;refine List.filter_congr fun x _=>?_
 by_cases g:x.bS=id
 ·simp [g,h]
 simp [g]
theorem bH.ok.jG {s:bH} (h:s.ok) {i:Nat} {j:Jb} (hj:s.aG[i]?=some j) (names:List aQ):(jG s i j j.id names).1.ok:=by
 have hm:=List.mem_of_getElem? hj
 obtain ⟨g1,g2,g3⟩:=h.yO j hm
 unfold Dem.jG
 by_cases h1:j.runs=true
 ·rw [if_pos h1];exact h
 rw [if_neg h1]
 by_cases h2:(names.length:Int)≠j.x.count
 ·rw [if_pos h2];exact h
 rw [if_neg h2]
 by_cases h3:(!(dR j.x).2)=true
 ·rw [if_pos h3];exact h
 rw [if_neg h3]
 by_cases h4:(dg s.tree j.x.path (dR j.x).1).2≠0
 ·rw [if_pos h4];exact h
 rw [if_neg h4]
 rcases yJ s.bz j.id names j.x.gB with ⟨_,e2⟩|⟨e,_⟩
 ·rw [if_pos e2];exact h
 rw [if_neg (by rw [e];simp)]
 simp only [Decidable.not_not] at h2 h4
 have hrf:j.runs=false:=by simpa using h1
 obtain ⟨c1,c2,c3⟩:=A5 h h4
 obtain ⟨p1,p2⟩:=RX h.bz h.kr j.id names g2
 rw [kM h.nT]
 rw [e] at p1 p2 ⊢
 refine bH.ok.event (s:=⟨s.round,s.next,_,_,s.aG.set i {j with runs:=true,left:=j.x.fB},_,s.ev,s.au⟩) ?_ _ _
 have hs:∀y,y∈s.aG.set i {j with runs:=true,left:=j.x.fB}↔y={j with runs:=true,left:=j.x.fB}∨(y∈s.aG∧y.id≠j.id):=fun y=>EO h.ids hj
 obtain ⟨_,_,_,R6,_⟩:=gk.1 g1
 exact {
  bz:=p1,kr:=p2,tree:=c1,notes:=h.notes
  used:=fun e he k hk=>by
   have:=yM k e.path {j with runs:=true,left:=j.x.fB} hj
   have t0:kL k e.path j=0:=by simp [kL,hrf]
   have t1:kL k e.path {j with runs:=true,left:=j.x.fB}=if e.path∈above j.x.path then vk k (dR j.x).1 else 0:=by simp [kL]
   rw [t0,t1] at this
   rw [c3 e he k hk];simp only;omega
  most:=by simp only [List.length_set];exact h.most
  next:=h.next
  ids:=EP h.ids hj rfl
  yN:=fun y hy=>by rcases (hs y).1 hy with rfl|⟨g,_⟩;exact h.yN j hm;exact h.yN y g
  yO:=fun y hy=>by
   rcases (hs y).1 hy with rfl|⟨g,_⟩
   ·exact ⟨g1,g2,iQ c2 g3⟩
   obtain ⟨a,b,c⟩:=h.yO y g;exact ⟨a,b,iQ c2 c⟩
  left:=fun y hy=>by
   rcases (hs y).1 hy with rfl|⟨g,_⟩
   ·exact ⟨fun _=>⟨R6.1,Int.le_refl _⟩,fun g=>by cases g⟩
   exact h.left y g
  tL:=h.tL.filter _
  nT:=h.nT.filter _
  py:=fun q=>by
   show q∈s.queue.filter _↔_
   rw [List.mem_filter,h.py q]
   constructor
   ·rintro ⟨⟨y,a,b,rfl⟩,c⟩
    exact ⟨y,(hs y).2 (.inr ⟨a,by simpa using c⟩),b,rfl⟩
   rintro ⟨y,a,b,rfl⟩
   rcases (hs y).1 a with rfl|⟨g,g4⟩
   ·cases b
   exact ⟨⟨y,g,b,rfl⟩,by simpa using g4⟩
  places:=fun x hx=>by
   rcases List.mem_append.1 hx with g|g
   ·obtain ⟨y,a,b,c,d⟩:=h.places x g
    refine ⟨y,(hs y).2 (.inr ⟨a,fun e2=>?_⟩),b,c,d⟩
    have:=iR h.ids a hm e2
    subst this;rw [hrf] at b;cases b
   obtain ⟨n,_,rfl⟩:=List.mem_map.1 g
   exact ⟨_,(hs _).2 (.inl rfl),rfl,rfl,rfl⟩
  count:=fun y hy hr=>by
   show ((vY y.id (s.bz.places++names.map fun n=>(⟨j.id,n,j.x.gB⟩:Place)):Nat):Int)=_
   rw [GU,MS]
   rcases (hs y).1 hy with rfl|⟨g,g4⟩
   ·have:vY j.id s.bz.places=0:=by
     unfold vY;rw [List.length_eq_zero_iff,List.filter_eq_nil_iff];intro x hx;simpa using h.II hm hrf x hx
    simp only [this];simp;exact h2
   rw [if_neg (fun e2=>g4 e2.symm),Nat.add_zero];exact h.count y g hr}
theorem bH.ok.MT {s:bH} (h:s.ok) (id:Int) (names:List aQ):(eF s id names).1.ok:=by
 unfold eF
 cases hf:s.aG.findIdx? (fun j=>decide (j.id=id)) with
 |none=>exact h
 |some k=>
  obtain ⟨j,a,b,c⟩:=mE hf
  simp only
  rw [c,←b];exact h.jG a names
theorem bH.ok.iS {s:bH} (h:s.ok) {i:Nat} {j:Jb} (hj:s.aG[i]?=some j) (hr:j.runs=true):
 mj s j=⟨s.round,s.next,pi s.bz j.id,tH (dY j.tot) (above j.x.path) s.tree,s.aG,s.queue,s.ev,s.au⟩:=by
 have hm:=List.mem_of_getElem? hj
 unfold mj
 rw [if_pos (gk.1 (h.yO j hm).1).2.2.2.2.2,(m6 h hj hr).1]
theorem bH.ok.R7 {s:bH} (h:s.ok) {j:Jb} (hm:j∈s.aG) (hr:j.runs=true):
 jh s.queue ⟨j.id,j.x.prio⟩=(s.queue.take (tD s.queue ⟨j.id,j.x.prio⟩)++⟨j.id,j.x.prio⟩::s.queue.drop (tD s.queue ⟨j.id,j.x.prio⟩),0):=by
 rcases pu s.queue ⟨j.id,j.x.prio⟩ with ⟨_,_,e|⟨q,hq,e⟩|e⟩|⟨e,_⟩
 ·rw [JU (h.yO j hm).1] at e;cases e
 ·exact absurd e (h.Cs hm hr q hq)
 ·have h1:=h.UM
  have h2:=h.most
  have h3:Cn s.aG<s.aG.length:=by
   unfold Cn
   exact List.length_filter_lt_length_iff_exists.2 ⟨j,hm,by simp [hr]⟩
  omega
 exact e
theorem bH.ok.stop {s:bH} (h:s.ok) (id kind:Int):(eJ s id kind).1.ok:=by
 unfold eJ
 cases hf:s.aG.findIdx? (fun j=>decide (j.id=id)) with
 |none=>exact h
 |some i=>
  obtain ⟨j,hj,hid,c⟩:=mE hf
  simp only
  rw [c]
  by_cases h1:(!j.runs)=true
  ·rw [if_pos h1];exact h
  rw [if_neg h1]
  have hr:j.runs=true:=by simpa using h1
  have hm:=List.mem_of_getElem? hj
  obtain ⟨g1,g2,g3⟩:=h.yO j hm
  obtain ⟨_,c1,c2,c3⟩:=m6 h hj hr
  rw [h.iS hj hr,←hid]
  simp only [A4]
  rw [h.R7 hm hr]
  obtain ⟨p1,p2⟩:=EM h.bz h.kr j.id
  refine bH.ok.event (s:=⟨s.round,s.next,_,_,s.aG.set i {j with runs:=false,left:=0},_,s.ev,s.au⟩) ?_ _ _
  have hs:∀y,y∈s.aG.set i {j with runs:=false,left:=0}↔y={j with runs:=false,left:=0}∨(y∈s.aG∧y.id≠j.id):=fun y=>EO h.ids hj
  exact {
   bz:=p1,kr:=p2,tree:=c1,notes:=h.notes
   used:=fun e he k hk=>by
    have:=yM k e.path {j with runs:=false,left:=0} hj
    have t1:kL k e.path {j with runs:=false,left:=0}=0:=by simp [kL]
    rw [t1] at this
    have:=c3 e he k hk;simp only;omega
   most:=by simp only [List.length_set];exact h.most
   next:=h.next
   ids:=EP h.ids hj rfl
   yN:=fun y hy=>by rcases (hs y).1 hy with rfl|⟨g,_⟩;exact h.yN j hm;exact h.yN y g
   yO:=fun y hy=>by
    rcases (hs y).1 hy with rfl|⟨g,_⟩
    ·exact ⟨g1,g2,iQ c2 g3⟩
    obtain ⟨a,b,c⟩:=h.yO y g;exact ⟨a,b,iQ c2 c⟩
   left:=fun y hy=>by
    rcases (hs y).1 hy with rfl|⟨g,_⟩
    ·exact ⟨fun g=>(by cases g),fun _=>rfl⟩
    exact h.left y g
   tL:=EJ h.tL (h.Cs hm hr)
   nT:=EL h.nT (h.Cs hm hr) _
   py:=fun q=>by
    show q∈List.take _ s.queue++_::List.drop _ s.queue↔_
    rw [EK,h.py q]
    constructor
    ·rintro (⟨y,a,b,rfl⟩|rfl)
     ·refine ⟨y,(hs y).2 (.inr ⟨a,fun e=>?_⟩),b,rfl⟩
      have:=iR h.ids a hm e
      subst this;rw [hr] at b;cases b
     exact ⟨_,(hs _).2 (.inl rfl),rfl,rfl⟩
    rintro ⟨y,a,b,rfl⟩
    rcases (hs y).1 a with rfl|⟨g,g4⟩
    ·exact .inr rfl
    exact .inl ⟨y,g,b,rfl⟩
   places:=fun x hx=>by
    obtain ⟨hx1,Lc⟩:=List.mem_filter.1 hx
    obtain ⟨y,a,b,c,d⟩:=h.places x hx1
    exact ⟨y,(hs y).2 (.inr ⟨a,by rw [c];simpa using Lc⟩),b,c,d⟩
   count:=fun y hy hr=>by
    rcases (hs y).1 hy with rfl|⟨g,g4⟩
    ·cases hr
    show ((vY y.id (s.bz.places.filter fun x=>!decide (x.bS=j.id)):Nat):Int)=_
    rw [EQ,if_neg g4];exact h.count y g hr}
theorem bH.ok.end_ {s:bH} (h:s.ok) (id kind:Int):(send s id kind).1.ok:=by
 unfold send
 cases hf:s.aG.findIdx? (fun j=>decide (j.id=id)) with
 |none=>exact h
 |some i=>
  obtain ⟨j,hj,hid,c⟩:=mE hf
  simp only
  rw [c]
  have hm:=List.mem_of_getElem? hj
  have hs:∀y,y∈s.aG.eraseIdx i↔y∈s.aG∧y.id≠j.id:=fun y=>GQ h.ids hj
  have hlen:(s.aG.eraseIdx i).length≤s.aG.length:=by rw [List.length_eraseIdx];split<;>omega
  have hsub:(s.aG.eraseIdx i).Sublist s.aG:=List.eraseIdx_sublist _ _
  by_cases hr:j.runs=true
  ·rw [if_pos hr,h.iS hj hr]
   obtain ⟨_,c1,c2,c3⟩:=m6 h hj hr
   obtain ⟨p1,p2⟩:=EM h.bz h.kr j.id
   refine bH.ok.event (s:=⟨s.round,s.next,_,_,s.aG.eraseIdx i,s.queue,s.ev,s.au⟩) ?_ _ _
   exact {
    bz:=p1,kr:=p2,tree:=c1,notes:=h.notes
    used:=fun e he k hk=>by
     have:=rS k e.path hj
     have:=c3 e he k hk;simp only;omega
    most:=Nat.le_trans hlen h.most
    next:=h.next
    ids:=h.ids.sublist hsub
    yN:=fun y hy=>h.yN y ((hs y).1 hy).1
    yO:=fun y hy=>by obtain ⟨a,b,c⟩:=h.yO y ((hs y).1 hy).1;exact ⟨a,b,iQ c2 c⟩
    left:=fun y hy=>h.left y ((hs y).1 hy).1
    tL:=h.tL,nT:=h.nT
    py:=fun q=>by
     rw [h.py q]
     constructor
     ·rintro ⟨y,a,b,rfl⟩
      refine ⟨y,(hs y).2 ⟨a,fun e=>?_⟩,b,rfl⟩
      have:=iR h.ids a hm e
      subst this;rw [hr] at b;cases b
     rintro ⟨y,a,b,rfl⟩;exact ⟨y,((hs y).1 a).1,b,rfl⟩
    places:=fun x hx=>by
     obtain ⟨hx1,Lc⟩:=List.mem_filter.1 hx
     obtain ⟨y,a,b,c,d⟩:=h.places x hx1
     exact ⟨y,(hs y).2 ⟨a,by rw [c];simpa using Lc⟩,b,c,d⟩
    count:=fun y hy hr=>by
     obtain ⟨g,g4⟩:=(hs y).1 hy
     show ((vY y.id (s.bz.places.filter fun x=>!decide (x.bS=j.id)):Nat):Int)=_
     rw [EQ,if_neg g4];exact h.count y g hr}
  have hrf:j.runs=false:=by simpa using hr
  rw [if_neg hr,kM h.nT,←hid]
  refine bH.ok.event (s:=⟨s.round,s.next,s.bz,s.tree,s.aG.eraseIdx i,_,s.ev,s.au⟩) ?_ _ _
  exact {
   bz:=h.bz,kr:=h.kr,tree:=h.tree,notes:=h.notes
   used:=fun e he k hk=>by
    have:=rS k e.path hj
    have t0:kL k e.path j=0:=by simp [kL,hrf]
    rw [h.used e he k hk];simp only;omega
   most:=Nat.le_trans hlen h.most
   next:=h.next
   ids:=h.ids.sublist hsub
   yN:=fun y hy=>h.yN y ((hs y).1 hy).1
   yO:=fun y hy=>h.yO y ((hs y).1 hy).1
   left:=fun y hy=>h.left y ((hs y).1 hy).1
   tL:=h.tL.filter _
   nT:=h.nT.filter _
   py:=fun q=>by
    show q∈s.queue.filter _↔_
    rw [List.mem_filter,h.py q]
    constructor
    ·rintro ⟨⟨y,a,b,rfl⟩,c⟩
     exact ⟨y,(hs y).2 ⟨a,by simpa using c⟩,b,rfl⟩
    rintro ⟨y,a,b,rfl⟩
    obtain ⟨g,g4⟩:=(hs y).1 a
    exact ⟨⟨y,g,b,rfl⟩,by simpa using g4⟩
   places:=fun x hx=>by
    obtain ⟨y,a,b,c,d⟩:=h.places x hx
    refine ⟨y,(hs y).2 ⟨a,fun e=>?_⟩,b,c,d⟩
    have:=iR h.ids a hm e
    subst this;rw [hrf] at b;cases b
   count:=fun y hy hr=>h.count y ((hs y).1 hy).1 hr}
structure je where
 kind:Nat
 a:Nat
 b:Nat
 c:Nat
 d:Nat
structure je.u (x:je):Prop where
 kind:x.kind<256
 a:x.a<256
 b:x.b<256
 c:x.c<256
 d:x.d<256
def je.cells (x:je):List D:=[.int .u8 x.kind,.int .u8 x.a,.int .u8 x.b,.int .u8 x.c,.int .u8 x.d]
def yP:List aQ:=[[97],[97,47,98],[98],[206,177,206,178]]
def fK:List aQ:=[[110,49],[110,50],[110,51]]
def Aj (x:je):Ask:=⟨yP.getD (x.a%4) [],⟨(x.b%5:Nat),(x.b / 5%5:Nat),0,(x.b / 25%3:Nat)⟩,(1+x.c%3:Nat),(x.c / 3%4:Nat),(1+x.d%5:Nat),if 200<x.d then [⟨Pv,decide (x.d%2=1),[[97]]⟩] else []⟩
def Q7:List aQ:=[[97],[97,47,98],[98]]
def j7 (m:Nat):Nat→List bu
 |0=>(tE [⟨[],bM.zero,bM.zero⟩] [] ⟨30,30,30,30⟩).1
 |i+1=>(tE (j7 m i) (Q7.getD i []) ⟨(6+4*i+m:Nat),20,20,20⟩).1
def pz (i:Nat):List cZ:=if i<2 then [⟨Pv,[[97],[98]].getD i []⟩] else []
def Py (n i:Nat):Bool:=decide (n / 2^(5+i)%2=0)
def dy (n:Nat):Nat→bf
 |0=>⟨[],[]⟩
 |i+1=>if Py n i then (o6 (dy n i) ⟨fK.getD i [],⟨(4+2*i:Nat),9,9,9⟩,pz i,false⟩).1 else dy n i
def iT (n:Nat):bH:=⟨0,1,dy n 3,j7 (n%5) 3,[],[],⟨0,[]⟩,⟨0,[]⟩⟩
def ol (m:Nat):List bu:=[⟨[],⟨30,30,30,30⟩,bM.zero⟩,⟨[97],⟨(6+m:Nat),20,20,20⟩,bM.zero⟩,⟨[97,47,98],⟨(10+m:Nat),20,20,20⟩,bM.zero⟩,⟨[98],⟨(14+m:Nat),20,20,20⟩,bM.zero⟩]
theorem IJ:∀m<5,j7 m 3=ol m:=by decide+kernel
theorem MU:∀m<5,∀i<4,(j7 m i).length≤4:=by decide+kernel
theorem Pz {n:Nat} (i:Nat):Py n i=Py (n / 32*32) i:=by
 unfold Py
 rw [show 5+i=5+i from rfl,Nat.pow_add,←Nat.div_div_eq_div_mul,←Nat.div_div_eq_div_mul,show (2:Nat)^5=32 from rfl,Nat.mul_div_cancel _ (by decide)]
theorem ER (n:Nat):∀i,dy n i=dy (n / 32*32) i
 |0=>rfl
 |i+1=>by rw [dy,dy,←ER n i,Pz]
theorem JV {m:Nat} (hm:m<5):Tree.ok (ol m)∧∀e∈ol m,e.used=bM.zero:=by
 have hz:∀e∈ol m,e.used=bM.zero:=by
  intro e he;simp only [ol,List.mem_cons,List.not_mem_nil,or_false] at he
  rcases he with rfl|rfl|rfl|rfl<;>rfl
 have hp:(ol m).map (·.path)=[[],[97],[97,47,98],[98]]:=rfl
 refine ⟨⟨⟨_,_,rfl,rfl⟩,by simp [ol],?_,?_,?_,?_,?_⟩,hz⟩
 ·have:(((ol m).map (·.path)).Pairwise (·<·)):=by rw [hp];decide
  exact List.pairwise_map.1 this
 ·intro e he
  have:e.path∈(ol m).map (·.path):=List.mem_map_of_mem he
  rw [hp] at this
  have hn:∀p∈([[],[97],[97,47,98],[98]]:List aQ),named p=true:=by decide+kernel
  exact hn _ this
 ·intro e he
  have h1:e.path∈(ol m).map (·.path):=List.mem_map_of_mem he
  have hn:∀p∈([[],[97],[97,47,98],[98]]:List aQ),parent p∈([[],[97],[97,47,98],[98]]:List aQ):=by decide+kernel
  rw [hp] at h1
  have h2:=hn _ h1
  rw [←hp] at h2
  obtain ⟨f,hf,g⟩:=List.mem_map.1 h2
  exact ⟨f,hf,g⟩
 ·intro e he k _;rw [hz e he,Co];omega
 intro e he
 refine ⟨?_,by rw [hz e he];exact GK⟩
 simp only [ol,List.mem_cons,List.not_mem_nil,or_false] at he
 rcases he with rfl|rfl|rfl|rfl<;>(intro k hk;unfold bM.at_;split<;>simp only<;>omega)
theorem UN (i:Nat) (hi:i<3):(⟨(4+2*i:Nat),9,9,9⟩:bM).w:=by intro k hk;unfold bM.at_;split<;>simp only<;>omega
theorem IK (n:Nat):∀i≤3,(dy n i).ok∧(dy n i).w
 |0,_=>⟨IF,ML⟩
 |i+1,h=>by
  obtain ⟨a,b⟩:=IK n i (by omega)
  unfold dy
  split
  ·exact RY a b (UN i (by omega))
  exact ⟨a,b⟩
theorem ES (p:bf) (n:Node):(o6 p n).1.places=p.places:=by
 rcases rP p n with ⟨e,_⟩|⟨_,_,_,e⟩
 ·rw [e]
 rw [e]
theorem pE (n:Nat):∀i,(dy n i).places=[]
 |0=>rfl
 |i+1=>by
  unfold dy;split
  ·rw [ES,pE n i]
  exact pE n i
theorem yQ (n:Nat):(iT n).ok:=by
 have hm:n%5<5:=Nat.mod_lt _ (by decide)
 obtain ⟨t1,t2⟩:=JV hm
 obtain ⟨p1,p2⟩:=IK n 3 (Nat.le_refl _)
 unfold iT
 rw [IJ _ hm]
 exact {
  bz:=p1,kr:=p2,tree:=t1
  used:=fun e he k _=>by simp only at he;rw [t2 e he,Co];rfl
  most:=by simp
  next:=by simp
  ids:=List.Pairwise.nil
  yN:=fun j hj=>by cases hj
  yO:=fun j hj=>by cases hj
  left:=fun j hj=>by cases hj
  tL:=List.Pairwise.nil
  nT:=List.Pairwise.nil
  py:=fun q=>by simp
  places:=fun x hx=>by simp only at hx;rw [pE] at hx;cases hx
  count:=fun j hj=>by cases hj
  notes:=by simp}
theorem MV (x:je):(Aj x).gB.w:=by intro k hk;unfold Aj bM.at_;split<;>simp only<;>omega
end Dem
end
section
open Go Go.Proofs Go.ChangeShapes Go.WideShapes Go.RowKit
namespace Dem
section
variable {H:Type} {enc:TypeId×Value→H} {W:World} {v:Value} {d:DataW H} {p:List MemPlace} {base:Nat}
theorem wf_u8 {n:Int} (h:(Lit.int .u8 n).wf=true):∃k:Nat,n=k∧k<256:=by
 simp only [Lit.wf,Bool.and_eq_true,IntKind.min,IntKind.max,IntKind.signed,IntKind.bits] at h
 simp at h
 exact ⟨n.toNat,by omega,by omega⟩
theorem PA {r:List D} (h:cW [.int .u8,.int .u8,.int .u8,.int .u8,.int .u8] r):∃x:je,r=x.cells∧x.u:=by
 simp only [cW,vF] at h
 obtain ⟨_,_,rfl,⟨n0,rfl,h0⟩,_,_,rfl,⟨n1,rfl,h1⟩,_,_,rfl,⟨n2,rfl,h2⟩,_,_,rfl,⟨n3,rfl,h3⟩,_,_,rfl,⟨n4,rfl,h4⟩,rfl⟩:=h
 obtain ⟨k0,rfl,g0⟩:=wf_u8 h0
 obtain ⟨k1,rfl,g1⟩:=wf_u8 h1
 obtain ⟨k2,rfl,g2⟩:=wf_u8 h2
 obtain ⟨k3,rfl,g3⟩:=wf_u8 h3
 obtain ⟨k4,rfl,g4⟩:=wf_u8 h4
 exact ⟨⟨k0,k1,k2,k3,k4⟩,rfl,⟨g0,g1,g2,g3,g4⟩⟩
theorem JW (hval:Value.okWide Tryz.prog W .any base 22 v) (h:DataW.Trod enc Tryz.prog W 0 (fun _=>true) true 22 v d p):
 ∃l:List je,aj (fun _=>0) [] W (okW W) (SL (l.map je.cells)) v∧(∀x∈l,x.u)∧l.length≤maxLen:=by
 obtain ⟨fuel,hf⟩:=h
 obtain ⟨a,len,cap,rfl⟩:=okWide_slice (show Tryz.prog.underlying 22=some (.slice 85) by kernel_rfl) hval
 obtain ⟨h1,h2⟩:=sS (RZ W) 8 fuel 22 [.slice a len cap] (d,p) [.sl [.int .u8,.int .u8,.int .u8,.int .u8,.int .u8]] hf (by kernel_rfl)
 simp only [cW,vF] at h2
 obtain ⟨_,_,e,⟨es,rfl,hl,hr⟩,rfl⟩:=h2
 rw [e] at h1
 simp only [ct] at h1
 obtain ⟨u,r,e2,h3,rfl⟩:=h1
 cases e2
 obtain ⟨l,rfl,OO⟩:=IG (cells:=je.cells) (Q:=je.u) es (fun r hm=>PA (hr r hm))
 exact ⟨l,by simpa only [aj] using h3,OO,by simpa using hl⟩
theorem yR (hval:Value.okWide Tryz.prog W .any base 5 v) (h:DataW.Trod enc Tryz.prog W 0 (fun _=>true) true 5 v d p):
 ∃k:Nat,aj (fun _=>0) [] W (okW W) (.d (.int .u8 (k:Int))) v∧k<256:=by
 obtain ⟨n,rfl,_,_,hw⟩:=open_int (show Tryz.prog.underlying 5=some (.int .u8) by kernel_rfl) hval h
 obtain ⟨k,rfl,hk⟩:=wf_u8 hw
 exact ⟨k,by simp only [aj,aF],hk⟩
end
end Dem
end
section
namespace Dem
theorem tM {es:List (List D)} {row z:List D} {i:Nat} (h:i≤es.length):wrote (wrote (es.take i++List.replicate (es.length+1-i) z) i [row]) (i+1) (es.drop i)=es.take i++row::es.drop i:=by
 have hl:(es.take i).length=i:=by simp;omega
 have e1:wrote (es.take i++List.replicate (es.length+1-i) z) i [row]=es.take i++row::List.replicate (es.length-i) z:=by
  unfold wrote
  rw [List.take_left' hl,show i+[row].length=(es.take i).length+1 by rw [hl];rfl,List.drop_length_add_append,List.drop_replicate]
  simp;omega
 rw [e1]
 unfold wrote
 rw [show i+1=(es.take i).length+1 by rw [hl],List.take_length_add_append]
 have e2:List.drop ((es.take i).length+1+(es.drop i).length) (es.take i++row::List.replicate (es.length-i) z)=[]:=by
  rw [List.drop_eq_nil_iff];simp;omega
 rw [e2]
 simp
theorem Ct {es:List (List D)} {row:List D} {i:Nat} (h:i<es.length):wrote (wrote es (i+1) (es.drop i)) i [row]=es.take i++row::es.drop i:=by
 have e1:wrote es (i+1) (es.drop i)=es.take (i+1)++es.drop i:=by
  unfold wrote
  have:es.drop (i+1+(es.drop i).length)=[]:=by rw [List.drop_eq_nil_iff];simp;omega
  rw [this,List.append_nil]
 rw [e1]
 unfold wrote
 have hl:(es.take (i+1)).length=i+1:=by simp;omega
 rw [List.take_append_of_le_length (by omega),List.take_take,show i+[row].length=(es.take (i+1)).length by rw [hl];rfl,List.drop_left]
 rw [Nat.min_eq_left (by omega)];simp
theorem jO:∀(xs ys:List D),ys.length=xs.length→be xs 0 ys=ys
 |[],[],_=>by simp [be]
 |[],_::_,h=>by simp at h
 |_::_,[],h=>by simp at h
 |x::xs,y::ys,h=>by
  simp only [be]
  rw [jO xs ys (by simpa using h)]
theorem jP {α:Type}:∀(l:List α) (i:Nat) (x:α),i<l.length→(l.set i x).take (i+1)=l.take i++[x]
 |[],i,x,h=>by simp at h
 |y::l,0,x,h=>by simp
 |y::l,i+1,x,h=>by
  simp only [List.set_cons_succ,List.take_succ_cons,List.cons_append]
  rw [jP l i x (by simpa using h)]
theorem mq {α:Type}:∀(l:List α) (i j:Nat) (x:α),i<j→(l.set i x).drop j=l.drop j
 |[],i,j,x,h=>by simp
 |y::l,0,j+1,x,h=>by simp
 |y::l,i+1,j+1,x,h=>by
  simp only [List.set_cons_succ,List.drop_succ_cons]
  exact mq l i j x (by omega)
 |y::l,_,0,x,h=>by omega
end Dem
end
section
open Go Dem Go.Proofs
namespace Dem
variable {t:Th}
theorem ET (ht:TT t) {es:List (List D)} (aA:∀r∈es,r.length=7) (hs:es.length*80≤140737488355328) {m:Nat} (hm:m=es.length):
 FC 147 [SL es] [] (.ret (.ow 0 7 m)) [.row 7 es]:=by
 refine bL ht (aI:=[]) Tryz.func147 rfl rfl (N:=8) rfl rfl (n:=0) rfl rfl ?_
 cbv
 refine ⟨fun b hb=>?_⟩
 simp only [ht] at hb
 cbv
 refine an (fun h=>?_) (fun h=>?_)
 ·have he:=hb h
  subst he
  cbv
  exact Er trv rfl rfl (by rw [hm];rfl) rfl
 clear hb h
 cbv
 refine ⟨?_,?_⟩
 ·simp only [ht];simp;exact ⟨hs,aA⟩
 refine Ad trv rfl rfl rfl rfl ?_ ?_
 ·simp only [ht];rw [hm];simp
 simp only [ht];rfl
theorem tN (ht:TT t) {es:List (List D)} (aA:∀r∈es,r.length=6) (hs:es.length*56≤140737488355328) {m:Nat} (hm:m=es.length):
 FC 118 [SL es] [] (.ret (.ow 0 6 m)) [.row 6 es]:=by
 refine bL ht (aI:=[]) Tryz.func118 rfl rfl (N:=8) rfl rfl (n:=0) rfl rfl ?_
 cbv
 refine ⟨fun b hb=>?_⟩
 simp only [ht] at hb
 cbv
 refine an (fun h=>?_) (fun h=>?_)
 ·have he:=hb h
  subst he
  cbv
  exact Er trv rfl rfl (by rw [hm];rfl) rfl
 clear hb h
 cbv
 refine ⟨?_,?_⟩
 ·simp only [ht];simp;exact ⟨hs,aA⟩
 refine Ad trv rfl rfl rfl rfl ?_ ?_
 ·simp only [ht];rw [hm];simp
 simp only [ht];rfl
theorem Ak (ht:TT t) {es:List (List D)} {x:D} {row:List D} {i n c:Nat} (hn:n=es.length) (hi:i≤n) (hc:n≤c) (hc0:n=0→c=0) (aA:∀r∈es,r.length=7) (hrow:(x::row).length=7) (hs:n<1000000) {r:List (List D)} (hr:r=es.take i++(x::row)::es.drop i):
 FC 146 [.vw 0 7 0 n c true,bG (i:Int),SL [x::row]] [.row 7 es] (.ret (SL r)) [.dead]:=by
 obtain ⟨n1,DE⟩:∃n1,n1=n+1:=⟨_,rfl⟩
 obtain ⟨i1,hi1⟩:∃i1,i1=i+1:=⟨_,rfl⟩
 obtain ⟨ni,hni⟩:∃ni,ni=n-i:=⟨_,rfl⟩
 obtain ⟨ci,ot⟩:∃ci,ci=c-i:=⟨_,rfl⟩
 obtain ⟨uN,GV⟩:∃uN,uN=c-i1:=⟨_,rfl⟩
 obtain ⟨nU,rT⟩:∃nU,nU=n1-i:=⟨_,rfl⟩
 have hW:∀P:Prop,((IntKind.i64.wrap ((n:Int)+1)=(n1:Int))→(IntKind.i64.wrap ((n1:Int)-(i:Int))=(nU:Int))→(IntKind.i64.wrap ((i:Int)+1)=(i1:Int))→P)→P:=
  fun P h=>h (by rw [wrap64 (by omega) (by omega)];omega) (by rw [wrap64 (by omega) (by omega)];omega) (by rw [wrap64 (by omega) (by omega)];omega)
 have hrl:r.length=n1:=by rw [hr,List.length_append,List.length_cons,List.length_take,List.length_drop];omega
 have R8:n≠0→FC 188 [SL [x::row],.vw 0 7 i1 ni uN true] [.row 7 es] (.ret (BL false)) [.row 7 es]:=fun h0=>
  gQ Q3 Tryz.func188 rfl rfl rfl rfl (tS:=25) (tR:=4) rfl rfl (by intro h;rw [h] at hn;exact h0 hn)
 refine bL ht (aI:=[.row 7 es]) Tryz.func146 rfl rfl (N:=95) rfl rfl (n:=1) rfl rfl ?_
 cbv
 refine bE (.vw 0 7 i ni ci true) [.row 7 es] ?_ ?_ rfl ?_
 ·simp [ht,dF,bJ];omega
 ·simp [ht,aS,aM,hni,ot]
 cbv
 refine mU (by simp [ht]) ?_
 cbv
 refine an (fun h=>?_) (fun h=>?_)
 ·have hin:i=n:=by simp [ht,aa] at h;omega
  clear h
  cbv
  refine bE (.ow 1 7 n1) [.dead,.row 7 r] ?_ ?_ ?_ ?_
  ·simp only [ht]
   refine ⟨⟨hn,by simp;omega,?_⟩,rfl,hn,fun h=>⟨hc0 (by rw [hn,h];rfl),rfl⟩⟩
   intro r hr
   rcases List.mem_append.1 hr with hr|hr
   ·exact aA r hr
   simp at hr;subst hr;exact hrow
  ·simp [ht,DE,hn]
  ·simp only [ht];rw [hr]
   have:i=es.length:=by omega
   subst this;simp
  cbv
  refine ax trv ?_ rfl rfl rfl rfl
  simp only [ht];exact hrl.symm
 have hin:i<n:=by simp [ht,aa] at h;omega
 clear h
 have yS:r=(r.drop 0).take n1:=by rw [List.drop_zero,List.take_of_length_le (by omega)]
 cbv
 refine an (fun h2=>?_) (fun h2=>?_)
 ·have R9:c=n:=by
   refine hW _ fun e1 e2 e3=>?_
   simp [ht,aa,e1] at h2;omega
  clear h2
  obtain ⟨L,hL⟩:∃L:List (List D),L=es.take i++List.replicate (es.length+1-i) [D.str [],D.int IntKind.u64 0,D.int IntKind.u64 0,D.int IntKind.u64 0,D.int IntKind.u64 0,D.sl [],D.bool false]:=⟨_,rfl⟩
  have FL:L.length=n1:=by rw [hL];simp;omega
  obtain ⟨L1,rU⟩:∃L1,L1=wrote L i [x::row]:=⟨_,rfl⟩
  have lH:L1.length=n1:=by rw [rU];simp [wrote,FL];omega
  have oI:r=wrote L1 i1 (es.drop i):=by rw [hi1,rU,hL,tM (by omega),hr]
  cbv
  refine bE (.vw 0 7 0 i c true) [.row 7 es] ?_ ?_ rfl ?_
  ·simp [ht,dF,bJ];omega
  ·simp [ht,aS,aM]
  cbv
  refine bE (.vw 1 7 0 n1 n1 false) [.row 7 es,.row 7 L] ?_ ?_ ?_ ?_
  ·refine hW _ fun e1 e2 e3=>?_
   simp [ht,aa,e1,e2];omega
  ·refine hW _ fun e1 e2 e3=>?_
   simp [ht,aa,e1,e2];omega
  ·refine hW _ fun e1 e2 e3=>?_
   simp [ht,aa,e1,e2,hL];omega
  cbv
  refine bE (.vw 1 7 i nU nU false) [.row 7 es,.row 7 L] ?_ ?_ rfl ?_
  ·simp [ht,dF,bJ];omega
  ·simp [ht,aS,aM,rT]
  cbv
  refine bE (bG 1) [.row 7 es,.row 7 L1] ?_ ?_ ?_ ?_
  ·simp only [ht,eB]
   refine ⟨⟨by omega,?_⟩,?_⟩
   ·intro h;rw [h] at FL;simp at FL;omega
   intro r hr;have:=List.mem_of_mem_take hr;simp at this;rw [this];exact hrow
  ·simp [ht,aa];omega
  ·simp [ht,rU,show min 1 nU=1 by omega]
  cbv
  refine c7 [false,false,false,false,false,false,false,false,true] (by kernel_rfl) (by kernel_rfl) ?_
  cbv
  repeat (refine gI (by (simp;done)) ?_)
  refine gE (.vw 1 7 i1 ni ni false) (fun _=>⟨?_,?_⟩) ?_
  ·refine hW _ fun e1 e2 e3=>?_
   simp [ht,aa,e3,dF,bJ];omega
  ·refine hW _ fun e1 e2 e3=>?_
   simp [ht,aa,e3,aS,aM];omega
  cbv
  repeat (refine gI (by (simp;done)) ?_)
  refine gE (.vw 0 7 i ni ci true) (fun _=>⟨?_,?_⟩) ?_
  ·simp [ht,dF,bJ];omega
  ·simp [ht,aS,aM,hni,ot]
  cbv
  refine bE (bG (ni:Nat)) [.row 7 es,.row 7 r,.bt] ?_ ?_ ?_ ?_
  ·simp only [ht,eB]
   refine ⟨by omega,⟨by omega,?_⟩,?_⟩
   ·intro h;rw [h] at lH;simp at lH;omega
   intro r hr;exact aA r (List.mem_of_mem_drop (List.mem_of_mem_take hr))
  ·simp [ht,aa]
  ·simp only [ht,oI]
   rw [List.take_of_length_le (by simp;omega)]
  cbv
  refine wG [true] trv ?_ rfl rfl rfl ?_
  ·simp only [ht];omega
  simp only [ht];rw [←yS]
 have R9:n<c:=by
  refine hW _ fun e1 e2 e3=>?_
  simp [ht,aa,e1] at h2;omega
 clear h2
 obtain ⟨L1,rU⟩:∃L1,L1=wrote es i1 (es.drop i):=⟨_,rfl⟩
 have oI:r=wrote L1 i [x::row]:=by rw [rU,hi1,Ct (by omega),hr]
 have lH:L1.length=n1:=by rw [rU];simp [wrote];omega
 cbv
 refine bE (.vw 0 7 0 n1 c true) [.row 7 es] ?_ ?_ rfl ?_
 ·refine hW _ fun e1 e2 e3=>?_
  simp [ht,aa,e1,dF,bJ];omega
 ·refine hW _ fun e1 e2 e3=>?_
  simp [ht,aa,e1,aS,aM]
 cbv
 refine bE (.vw 0 7 i1 ni uN true) [.row 7 es] ?_ ?_ rfl ?_
 ·refine hW _ fun e1 e2 e3=>?_
  simp [ht,aa,e3,dF,bJ];omega
 ·refine hW _ fun e1 e2 e3=>?_
  simp [ht,aa,e3,aS,aM];omega
 cbv
 refine dV trv (R8 (by omega)) ?_
 cbv
 refine jX (by simp [ht]) ?_
 cbv
 refine c7 [false,false,false,false,false,false,false,false,true] (by kernel_rfl) (by kernel_rfl) ?_
 cbv
 repeat (refine gI (by (simp;done)) ?_)
 refine gE (.vw 0 7 i1 ni uN true) (fun _=>⟨?_,?_⟩) ?_
 ·refine hW _ fun e1 e2 e3=>?_
  simp [ht,aa,e3,dF,bJ];omega
 ·refine hW _ fun e1 e2 e3=>?_
  simp [ht,aa,e3,aS,aM];omega
 cbv
 repeat (refine gI (by (simp;done)) ?_)
 refine gE (.vw 0 7 i nU ci true) (fun _=>⟨?_,?_⟩) ?_
 ·simp [ht,dF,bJ];omega
 ·simp [ht,aS,aM,rT,ot]
 cbv
 refine bE (bG (ni:Nat)) [.row 7 L1,.bt] ?_ ?_ ?_ ?_
 ·simp only [ht,eB]
  refine ⟨by omega,⟨by omega,?_⟩,?_⟩
  ·intro h;rw [h] at hn;simp at hn;omega
  intro r hr;exact aA r (List.mem_of_mem_drop (List.mem_of_mem_take hr))
 ·simp [ht,aa];omega
 ·simp only [ht,rU]
  rw [List.take_of_length_le (by simp;omega)]
 cbv
 refine bE (.vw 0 7 i nU ci true) [.row 7 L1,.bt] ?_ ?_ rfl ?_
 ·simp [ht,dF,bJ];omega
 ·simp [ht,aS,aM,rT,ot]
 cbv
 refine bE (bG 1) [.row 7 r,.bt] ?_ ?_ ?_ ?_
 ·simp only [ht,eB]
  refine ⟨⟨by omega,?_⟩,?_⟩
  ·intro h;rw [h] at lH;simp at lH;omega
  intro r hr;have:=List.mem_of_mem_take hr;simp at this;rw [this];exact hrow
 ·simp [ht,aa];omega
 ·simp [ht,oI,show min 1 nU=1 by omega]
 cbv
 refine wG [true] trv ?_ rfl rfl rfl ?_
 ·simp only [ht];omega
 simp only [ht];rw [←yS]
theorem Cu (ht:TT t) {es:List (List D)} {x:D} {row:List D} {i n:Nat} (hn:n=es.length) (hi:i≤n) (aA:∀r∈es,r.length=7) (hrow:(x::row).length=7) (hs:n<1000000) {r:List (List D)} (hr:r=es.take i++(x::row)::es.drop i):
 FC 146 [.ow 0 7 n,bG (i:Int),SL [x::row]] [.row 7 es] (.ret (SL r)) [.dead]:=
 dK fun c hc hc0=>Ak ht hn hi hc hc0 aA hrow hs hr
theorem EU (ht:TT t) (bS:Int) {l:List (Place)} {es:List (List D)} (aA:es=l.map Place.cells) (f:Nat) (p:Place→Bool) (hl:l.length<9223372036854775807)
 (hf:∀x∈l,FC f [.agg [.d (.int .u64 x.bS),.d (.str x.node),.d (.int .u64 x.v.a),.d (.int .u64 x.v.b),.d (.int .u64 x.v.c),.d (.int .u64 x.v.d)],.ptr 1 0] [.var [.d (.int .u64 bS)],.var [.fn 161 [.ptr 0 0]]] (.ret (BL (p x))) [.var [.d (.int .u64 bS)],.var [.fn 161 [.ptr 0 0]]]) {r:Int} (hr:r=idxOf p l):FC 173 [SL es,.fn f [.ptr 1 0]] [.var [.d (.int .u64 bS)],.var [.fn 161 [.ptr 0 0]]] (.ret (bG r)) [.var [.d (.int .u64 bS)],.var [.fn 161 [.ptr 0 0]]]:=by
 have hel:es.length=l.length:=by rw [aA,lgM]
 obtain ⟨J,hJ⟩:∃J:Nat→Nat→Prop,∀n v,J n v↔(v+n=l.length∧∀i<v,∀x,l[i]?=some x→p x=false):=⟨fun n v=>v+n=l.length∧∀i<v,∀x,l[i]?=some x→p x=false,fun _ _=>Iff.rfl⟩
 refine bL ht (aI:=[.var [.d (.int .u64 bS)],.var [.fn 161 [.ptr 0 0]]]) Tryz.func173 rfl rfl (N:=19) rfl rfl (n:=2) rfl rfl ?_
 cbv
 refine bI ⟨[0,1,7,8],[],[]⟩ (σ:=Nat) (fun k=>[(8,bG (t _ fun _=>(k:Int)))]) (fun _=>[]) J ?_
 cbv
 refine aC ⟨l.length,0,(hJ _ _).2 ⟨by omega,by intro i hi;simp at hi⟩,by simp only [ht];rfl,?_⟩
 rintro n k hj
 obtain ⟨h2,h3⟩:=(hJ _ _).1 hj
 clear hj
 cbv
 refine an (fun h=>?_) (fun h=>?_)
 ·simp only [ht,aa,decide_eq_true_eq] at h
  have hk:k<l.length:=by omega
  obtain ⟨x,hx⟩:∃x,l[k]?=some x:=⟨l[k],by simp⟩
  have oo:x∈l:=List.mem_of_getElem? hx
  have gG:=hf x oo
  obtain ⟨px,hpx⟩:∃b,b=p x:=⟨_,rfl⟩
  rw [←hpx] at gG
  obtain ⟨jb,nd,⟨v1,v2,v3,v4⟩⟩:=x
  cbv
  refine cI [.int .u64 jb,.str nd,.int .u64 v1,.int .u64 v2,.int .u64 v3,.int .u64 v4] ?_ ?_ ?_
  ·simp only [ht,aa];refine ⟨by omega,h,?_⟩;rw [aA];intro r hr;obtain ⟨y,_,rfl⟩:=List.mem_map.1 hr;rfl
  ·simp [ht,aa,aA,hx]
  cbv
  refine dV trv gG ?_
  cbv
  refine an (fun hb=>?_) (fun hb=>?_)
  ·cbv
   refine ax trv trv rfl rfl rfl ?_
   have e:=de hx (hpx▸hb) h3
   simp only [ht,aa,hr,idxOf,e]
  cbv
  refine aC ⟨n-1,k+1,⟨by omega,(hJ _ _).2 ⟨by omega,?_⟩⟩,?_⟩
  ·intro i hi y hy
   by_cases hik:i<k
   ·exact h3 i hik y hy
   have:i=k:=by omega
   subst this;rw [hx] at hy;cases hy;rw [←hpx];exact hb
  simp only [ht,aa,aD (show k<9223372036854775807 by omega)];rfl
 simp only [ht,aa,decide_eq_false_iff_not] at h
 have hk:¬k<l.length:=by omega
 clear h
 cbv
 refine ax trv trv rfl rfl rfl ?_
 rw [hr,idxOf,dA]
 intro i y hy
 have:i<l.length:=by
  rcases Nat.lt_or_ge i l.length with h'|h';· exact h'
  simp [List.getElem?_eq_none h'] at hy
 exact h3 i (by omega) y hy
theorem EV (ht:TT t) (bS:Int) {l:List (Place)} {es:List (List D)} (aA:es=l.map Place.cells) {m c:Nat} (hm:m=l.length) (hc:m≤c) (f:Nat) (p:Place→Bool) (hl:l.length<9223372036854775807)
 (hf:∀x∈l,FC f [.agg [.d (.int .u64 x.bS),.d (.str x.node),.d (.int .u64 x.v.a),.d (.int .u64 x.v.b),.d (.int .u64 x.v.c),.d (.int .u64 x.v.d)],.ptr 1 0] [.var [.d (.int .u64 bS)],.var [.fn 161 [.ptr 0 0]]] (.ret (BL (p x))) [.var [.d (.int .u64 bS)],.var [.fn 161 [.ptr 0 0]]]) {r:List (List D)} (hr:r=(l.filter (fun x=>!p x)).map Place.cells):
 FC 200 [.vw 2 6 0 m c true,.fn f [.ptr 1 0]] [.var [.d (.int .u64 bS)],.var [.fn 161 [.ptr 0 0]],.row 6 es] (.ret (SL r)) [.var [.d (.int .u64 bS)],.var [.fn 161 [.ptr 0 0]],.dead]:=by
 have hel:es.length=m:=by rw [aA,lgM,hm]
 have hrows:∀r∈es,r.length=6:=by rw [aA];intro r hr;obtain ⟨y,_,rfl⟩:=List.mem_map.1 hr;rfl
 obtain ⟨k,hk⟩:∃k,k=idxOf p l:=⟨_,rfl⟩
 have MW:(t (List (List D)) fun _=>(es.drop 0).take m)=l.map Place.cells:=by simp only [ht];rw [List.drop_zero,List.take_of_length_le (by omega),aA]
 have hidx:=EU ht bS MW f p hl hf hk
 obtain ⟨J,hJ⟩:∃J:Nat→Nat×Nat×List (List D)→Prop,∀n v,J n v↔(v.2.1+n=m∧v.1<v.2.1∧v.2.2.length=m∧(∀r∈v.2.2,r.length=6)∧v.2.2.take v.1=((l.take v.2.1).filter (fun x=>!p x)).map Place.cells∧v.2.2.drop v.2.1=es.drop v.2.1):=⟨fun n v=>v.2.1+n=m∧v.1<v.2.1∧v.2.2.length=m∧(∀r∈v.2.2,r.length=6)∧v.2.2.take v.1=((l.take v.2.1).filter (fun x=>!p x)).map Place.cells∧v.2.2.drop v.2.1=es.drop v.2.1,fun _ _=>Iff.rfl⟩
 refine bL ht (aI:=[.var [.d (.int .u64 bS)],.var [.fn 161 [.ptr 0 0]],.row 6 es]) Tryz.func200 rfl rfl (N:=42) rfl rfl (n:=3) rfl rfl ?_
 cbv
 refine MB (TT.eq ht) (v:=bG k) [false,false,true] [0,1] trv rfl ?_ rfl rfl rfl rfl rfl rfl rfl hidx ?_
 ·simp [ht];omega
 cbv
 refine an (fun h=>?_) (fun h=>?_)
 ·have wM:k=-1:=by simp [ht] at h;exact h
  have hnone:=mX (hk▸wM:idxOf p l=-1)
  clear h
  cbv
  refine wG [false,false,true] trv ?_ rfl rfl rfl ?_
  ·simp only [ht];omega
  simp only [ht,hr];rw [filter_all hnone,←aA,List.drop_zero,List.take_of_length_le (by omega)]
 have wM:k≠-1:=by simp [ht] at h;exact h
 clear h
 obtain ⟨i0,x0,Q8,hx0,UO,hb0⟩:=mY (hk▸wM:idxOf p l≠-1)
 rw [←hk] at Q8
 subst Q8
 have UP:i0<m:=by rw [hm];exact (List.getElem?_eq_some_iff.1 hx0).1
 cbv
 refine bI ⟨[0,1,5,6],[],[]⟩ (σ:=Nat×Nat×List (List D)) (fun v=>[(5,bG (t _ fun _=>(v.1:Int))),(6,bG (t _ fun _=>(v.2.1:Int)))]) (fun v=>[(2,.row 6 (t _ fun _=>v.2.2))]) J ?_
 cbv
 refine aC ⟨m-(i0+1),(i0,i0+1,es),(hJ _ _).2 ⟨?_,?_,hel,hrows,?_,rfl⟩,by simp only [ht,aa,Int.ofNat_eq_natCast,aD (show i0<9223372036854775807 by omega)];rfl,?_⟩
 ·show i0+1+(m-(i0+1))=m;omega
 ·show i0<i0+1;omega
 ·show es.take i0=_
  rw [ek hx0,List.filter_append,filter_all hb0,aA,←List.map_take];simp [UO]
 rintro n ⟨i,j,cur⟩ hj
 obtain ⟨j1,j2,j3,j4,j5,j6⟩:=(hJ _ _).1 hj
 clear hj
 simp only at j1 j2 j3 j4 j5 j6
 cbv
 refine an (fun h=>?_) (fun h=>?_)
 ·have Q9:j<m:=by simp [ht,aa] at h;omega
  clear h
  obtain ⟨x,hx⟩:∃x,l[j]?=some x:=⟨l[j]'(by omega),by simp⟩
  have oo:x∈l:=List.mem_of_getElem? hx
  have gG:=hf x oo
  have EW:cur[j]?=some (Place.cells x):=by
   have:(cur.drop j)[0]?=(es.drop j)[0]?:=by rw [j6]
   rw [List.getElem?_drop,List.getElem?_drop,Nat.add_zero,aA,List.getElem?_map,hx] at this
   exact this
  obtain ⟨px,hpx⟩:∃b,b=p x:=⟨_,rfl⟩
  rw [←hpx] at gG
  obtain ⟨cx,Cv⟩:∃cx,cx=Place.cells x:=⟨_,rfl⟩
  rw [←Cv] at EW
  have hstep:(l.take (j+1)).filter (fun x=>!p x)=(l.take j).filter (fun x=>!p x)++(if px then [] else [x]):=by
   rw [ek hx,List.filter_append];cases px<;>simp [←hpx]
  obtain ⟨jb,nd,⟨v1,v2,v3,v4⟩⟩:=x
  cbv
  refine ⟨?_,Ph [.int .u64 jb,.str nd,.int .u64 v1,.int .u64 v2,.int .u64 v3,.int .u64 v4] ?_ ?_ ?_⟩
  ·simp [ht,aa];omega
  ·simp [ht,aa,j3];omega
  ·simp [ht,aa,List.getD_eq_getElem?_getD,EW,Cv]
  cbv
  refine dx [0,1] trv rfl rfl gG (cj ?_)
  cbv
  refine an (fun hb=>?_) (fun hb=>?_)
  ·have hb':px=false:=by simpa [ht] using hb
   clear hb
   obtain ⟨nc,hnc⟩:∃nc,nc=cur.set i cx:=⟨_,rfl⟩
   have ot:(cur.getD i []).length=6:=j4 _ (by rw [List.getD_eq_getElem?_getD,List.getElem?_eq_getElem (by omega)];exact List.getElem_mem _)
   cbv
   refine ⟨?_,?_⟩
   ·simp [ht,aa];omega
   refine ⟨?_,?_⟩
   ·simp [ht,aa,j3];exact ⟨by omega,by simpa using ot.symm▸(Nat.le_refl _)⟩
   refine aC ⟨n-1,(i+1,j+1,nc),⟨by omega,(hJ _ _).2 ⟨?_,?_,?_,?_,?_,?_⟩⟩,?_⟩
   ·show j+1+(n-1)=m;omega
   ·show i+1<j+1;omega
   ·show nc.length=m;rw [hnc,List.length_set];exact j3
   ·show ∀r∈nc,r.length=6
    intro r hr;rw [hnc] at hr
    rcases List.mem_or_eq_of_mem_set hr with hr|rfl
    ·exact j4 r hr
    rw [Cv];rfl
   ·show nc.take (i+1)=_
    rw [hnc,jP _ _ _ (by omega),j5,hstep,hb',Cv];simp
   ·show nc.drop (j+1)=es.drop (j+1)
    rw [hnc,mq _ _ _ _ (by omega),←List.drop_drop,j6,List.drop_drop]
   simp only [ht,aa,Int.ofNat_eq_natCast,aD (show i<9223372036854775807 by omega),aD (show j<9223372036854775807 by omega)]
   have ei:0+((i:Int)).toNat=i:=by simp
   have e:cur.set i (be (cur.getD i []) 0 [.int .u64 jb,.str nd,.int .u64 v1,.int .u64 v2,.int .u64 v3,.int .u64 v4])=nc:=by rw [hnc,jO _ _ (by rw [ot];rfl),Cv]
   simp only [ei,e];rfl
  have hb':px=true:=by simpa [ht] using hb
  clear hb
  cbv
  refine aC ⟨n-1,(i,j+1,cur),⟨by omega,(hJ _ _).2 ⟨?_,?_,j3,j4,?_,?_⟩⟩,?_⟩
  ·show j+1+(n-1)=m;omega
  ·show i<j+1;omega
  ·show cur.take i=_
   rw [j5,hstep,hb'];simp
  ·show cur.drop (j+1)=es.drop (j+1)
   rw [←List.drop_drop,j6,List.drop_drop]
  simp only [ht,aa,Int.ofNat_eq_natCast,aD (show j<9223372036854775807 by omega)];rfl
 have Q9:j=m:=by simp [ht,aa] at h;omega
 clear h
 obtain ⟨mi,vM⟩:∃mi,mi=m-i:=⟨_,rfl⟩
 obtain ⟨ci,ot⟩:∃ci,ci=c-i:=⟨_,rfl⟩
 obtain ⟨nc,hnc⟩:∃nc,nc=wrote cur i (List.replicate mi [.int .u64 0,.str [],.int .u64 0,.int .u64 0,.int .u64 0,.int .u64 0]):=⟨_,rfl⟩
 have hnt:nc.take i=r:=by
  have hl':(cur.take i).length=i:=by simp;omega
  rw [hnc,wrote,List.append_assoc,List.take_left' hl',j5,hr,Q9,hm,List.take_length]
 have UQ:i≤nc.length:=by rw [hnc];simp [wrote];omega
 cbv
 refine bE (.vw 2 6 i mi ci true) [.var [.d (.int .u64 bS)],.var [.fn 161 [.ptr 0 0]],.row 6 cur] ?_ ?_ ?_ ?_
 ·simp [ht,aa,dF,bJ];omega
 ·simp [ht,aa,aS,aM,vM,ot]
 ·simp only [ht]
 cbv
 refine bE (.dL []) [.var [.d (.int .u64 bS)],.var [.fn 161 [.ptr 0 0]],.row 6 nc] ?_ rfl ?_ ?_
 ·simp [ht,eB]
  refine ⟨by omega,?_⟩
  intro h;rw [h] at j3;simp at j3;omega
 ·simp only [ht,hnc]
 cbv
 refine bE (.vw 2 6 0 i c true) [.var [.d (.int .u64 bS)],.var [.fn 161 [.ptr 0 0]],.row 6 nc] ?_ ?_ rfl ?_
 ·simp [ht,aa,dF,bJ];omega
 ·simp [ht,aa,aS,aM]
 cbv
 refine wG [false,false,true] trv ?_ rfl rfl rfl ?_
 ·simp only [ht];omega
 simp only [ht];rw [List.drop_zero,hnt]
theorem GW (ht:TT t) (bS:Int) {l:List (Place)} {es:List (List D)} (aA:es=l.map Place.cells) {m:Nat} (hm:m=l.length) (f:Nat) (p:Place→Bool) (hl:l.length<9223372036854775807)
 (hf:∀x∈l,FC f [.agg [.d (.int .u64 x.bS),.d (.str x.node),.d (.int .u64 x.v.a),.d (.int .u64 x.v.b),.d (.int .u64 x.v.c),.d (.int .u64 x.v.d)],.ptr 1 0] [.var [.d (.int .u64 bS)],.var [.fn 161 [.ptr 0 0]]] (.ret (BL (p x))) [.var [.d (.int .u64 bS)],.var [.fn 161 [.ptr 0 0]]]) {r:List (List D)} (hr:r=(l.filter (fun x=>!p x)).map Place.cells):
 FC 200 [.ow 2 6 m,.fn f [.ptr 1 0]] [.var [.d (.int .u64 bS)],.var [.fn 161 [.ptr 0 0]],.row 6 es] (.ret (SL r)) [.var [.d (.int .u64 bS)],.var [.fn 161 [.ptr 0 0]],.dead]:=
 dK fun c hc _=>EV ht bS aA hm hc f p hl hf hr
theorem PB (ht:TT t) (bS jb:Int) (nd:aQ) (v1 v2 v3 v4:Int) {r:Bool} (hr:r=!decide (jb=bS)):FC 161 [.agg [.d (.int .u64 jb),.d (.str nd),.d (.int .u64 v1),.d (.int .u64 v2),.d (.int .u64 v3),.d (.int .u64 v4)],.ptr 0 0] [.var [.d (.int .u64 bS)]] (.ret (BL r)) [.var [.d (.int .u64 bS)]]:=by
 refine bL ht (aI:=[.var [.d (.int .u64 bS)]]) Tryz.func161 rfl rfl (N:=8) rfl rfl (n:=1) rfl rfl ?_
 cbv
 refine ax trv trv rfl rfl rfl ?_
 simp only [ht,hr]
theorem PC (ht:TT t) (bS jb:Int) (nd:aQ) (v1 v2 v3 v4:Int) {r:Bool} (hr:r=decide (jb=bS)):FC 201 [.agg [.d (.int .u64 jb),.d (.str nd),.d (.int .u64 v1),.d (.int .u64 v2),.d (.int .u64 v3),.d (.int .u64 v4)],.ptr 1 0] [.var [.d (.int .u64 bS)],.var [.fn 161 [.ptr 0 0]]] (.ret (BL r)) [.var [.d (.int .u64 bS)],.var [.fn 161 [.ptr 0 0]]]:=by
 obtain ⟨q,hq⟩:∃q,q=!decide (jb=bS):=⟨_,rfl⟩
 refine bL ht (aI:=[.var [.d (.int .u64 bS)],.var [.fn 161 [.ptr 0 0]]]) Tryz.func201 rfl rfl (N:=8) rfl rfl (n:=2) rfl rfl ?_
 cbv
 refine dx [0] trv rfl rfl (PB ht bS jb nd v1 v2 v3 v4 hq) (cj ?_)
 cbv
 refine ax trv trv rfl rfl rfl ?_
 simp only [ht,hr,hq];simp
theorem GX (ht:TT t) (bS:Int) {l:List Place} {es:List (List D)} (aA:es=l.map Place.cells) (hl:l.length<1000000) {r:List (List D)} (hr:r=(l.filter (fun x=>!decide (x.bS=bS))).map Place.cells):
 FC 160 [SL es,.fn 161 [.ptr 0 0]] [.var [.d (.int .u64 bS)]] (.ret (SL r)) [.var [.d (.int .u64 bS)]]:=by
 have hrows:∀r∈es,r.length=6:=by rw [aA];intro r hr;obtain ⟨y,_,rfl⟩:=List.mem_map.1 hr;rfl
 obtain ⟨m,hm⟩:∃m,m=l.length:=⟨_,rfl⟩
 have hel:m=es.length:=by rw [aA,lgM,hm]
 refine bL ht (aI:=[.var [.d (.int .u64 bS)]]) Tryz.func160 rfl rfl (N:=9) rfl rfl (n:=1) rfl rfl ?_
 cbv
 refine jg trv (tN ht hrows (by rw [←hel];omega) hel) trv rfl (.inr rfl) ?_
 cbv
 refine dx [0,1,2] trv rfl rfl (GW ht bS aA hm 201 (fun x=>decide (x.bS=bS)) (by omega) (fun x _=>PC ht bS x.bS x.node x.v.a x.v.b x.v.c x.v.d rfl) hr) (cj ?_)
 cbv
 exact ax trv trv rfl rfl rfl rfl
theorem GY (ht:TT t) (bS:Int) {ns:List (List D)} {l:List Place} {es:List (List D)} (aA:es=l.map Place.cells) (hl:l.length<1000000) {r:List (List D)} (hr:r=(l.filter (fun x=>!decide (x.bS=bS))).map Place.cells):
 FC 108 [.agg [SL ns,SL es],az bS] [] (.ret (.agg [SL ns,SL r])) []:=by
 refine bL ht (aI:=[]) Tryz.func108 rfl rfl (N:=12) rfl rfl (n:=0) rfl rfl ?_
 cbv
 refine c7 [false,false,false,false,false,false,true,true] (by kernel_rfl) (by kernel_rfl) ?_
 cbv
 repeat (refine gI (by (simp;done)) ?_)
 refine .inl (RO [true,false,true] [1] (fun _=>⟨trv,trv,GX ht bS aA hl hr⟩) rfl rfl (.inr ⟨rfl,rfl⟩) rfl rfl rfl rfl ?_)
 cbv
 exact ax trv trv rfl rfl rfl rfl
theorem MX (ht:TT t) (name nm:aQ) (a b c d:Int) (lr:List (List D)) (up:Bool) {r:Bool} (hr:r=decide (nm=name)):
 FC 113 [.agg [.d (.str nm),.d (.int .u64 a),.d (.int .u64 b),.d (.int .u64 c),.d (.int .u64 d),.d (.sl lr),.d (.bool up)],.ptr 0 0] [.var [.d (.str name)]] (.ret (BL r)) [.var [.d (.str name)]]:=by
 refine bL ht (aI:=[.var [.d (.str name)]]) Tryz.func113 rfl rfl (N:=8) rfl rfl (n:=1) rfl rfl ?_
 cbv
 refine ax trv trv rfl rfl rfl ?_
 simp only [ht,hr]
theorem JX (ht:TT t) (name:aQ) {l:List (Node)} {es:List (List D)} (aA:es=l.map Node.cells) (f:Nat) (p:Node→Bool) (hl:l.length<9223372036854775807)
 (hf:∀x∈l,FC f [.agg [.d (.str x.name),.d (.int .u64 x.cap.a),.d (.int .u64 x.cap.b),.d (.int .u64 x.cap.c),.d (.int .u64 x.cap.d),.d (.sl (x.labels.map cZ.cells)),.d (.bool x.up)],.ptr 0 0] [.var [.d (.str name)]] (.ret (BL (p x))) [.var [.d (.str name)]]) {r:Int} (hr:r=idxOf p l):FC 112 [SL es,.fn f [.ptr 0 0]] [.var [.d (.str name)]] (.ret (bG r)) [.var [.d (.str name)]]:=by
 have hel:es.length=l.length:=by rw [aA,lgM]
 obtain ⟨J,hJ⟩:∃J:Nat→Nat→Prop,∀n v,J n v↔(v+n=l.length∧∀i<v,∀x,l[i]?=some x→p x=false):=⟨fun n v=>v+n=l.length∧∀i<v,∀x,l[i]?=some x→p x=false,fun _ _=>Iff.rfl⟩
 refine bL ht (aI:=[.var [.d (.str name)]]) Tryz.func112 rfl rfl (N:=19) rfl rfl (n:=1) rfl rfl ?_
 cbv
 refine bI ⟨[0,1,7,8],[],[]⟩ (σ:=Nat) (fun k=>[(8,bG (t _ fun _=>(k:Int)))]) (fun _=>[]) J ?_
 cbv
 refine aC ⟨l.length,0,(hJ _ _).2 ⟨by omega,by intro i hi;simp at hi⟩,by simp only [ht];rfl,?_⟩
 rintro n k hj
 obtain ⟨h2,h3⟩:=(hJ _ _).1 hj
 clear hj
 cbv
 refine an (fun h=>?_) (fun h=>?_)
 ·simp only [ht,aa,decide_eq_true_eq] at h
  have hk:k<l.length:=by omega
  obtain ⟨x,hx⟩:∃x,l[k]?=some x:=⟨l[k],by simp⟩
  have oo:x∈l:=List.mem_of_getElem? hx
  have gG:=hf x oo
  obtain ⟨px,hpx⟩:∃b,b=p x:=⟨_,rfl⟩
  rw [←hpx] at gG
  obtain ⟨nm,⟨a,b,c,d⟩,lb,up⟩:=x;obtain ⟨lr,hlr⟩:∃lr:List (List D),lr=lb.map cZ.cells:=⟨_,rfl⟩;simp only [←hlr] at gG
  cbv
  refine cI [.str nm,.int .u64 a,.int .u64 b,.int .u64 c,.int .u64 d,.sl lr,.bool up] ?_ ?_ ?_
  ·simp only [ht,aa];refine ⟨by omega,h,?_⟩;rw [aA];intro r hr;obtain ⟨y,_,rfl⟩:=List.mem_map.1 hr;rfl
  ·simp [ht,aa,aA,hx,hlr]
  cbv
  refine dV trv gG ?_
  cbv
  refine an (fun hb=>?_) (fun hb=>?_)
  ·cbv
   refine ax trv trv rfl rfl rfl ?_
   have e:=de hx (hpx▸hb) h3
   simp only [ht,aa,hr,idxOf,e]
  cbv
  refine aC ⟨n-1,k+1,⟨by omega,(hJ _ _).2 ⟨by omega,?_⟩⟩,?_⟩
  ·intro i hi y hy
   by_cases hik:i<k
   ·exact h3 i hik y hy
   have:i=k:=by omega
   subst this;rw [hx] at hy;cases hy;rw [←hpx];exact hb
  simp only [ht,aa,aD (show k<9223372036854775807 by omega)];rfl
 simp only [ht,aa,decide_eq_false_iff_not] at h
 have hk:¬k<l.length:=by omega
 clear h
 cbv
 refine ax trv trv rfl rfl rfl ?_
 rw [hr,idxOf,dA]
 intro i y hy
 have:i<l.length:=by
  rcases Nat.lt_or_ge i l.length with h'|h';· exact h'
  simp [List.getElem?_eq_none h'] at hy
 exact h3 i (by omega) y hy
theorem IL (ht:TT t) (name:aQ) {l:List Node} {es ps:List (List D)} (aA:es=l.map Node.cells) (hl:l.length<9223372036854775807) {r:Int} (hr:r=idxOf (fun x=>decide (x.name=name)) l):
 FC 73 [.agg [SL es,SL ps],ST name] [] (.ret (bG r)) []:=by
 refine bL ht (aI:=[]) Tryz.func73 rfl rfl (N:=9) rfl rfl (n:=0) rfl rfl ?_
 cbv
 refine dx [1] trv rfl rfl (JX ht name aA 113 (fun x=>decide (x.name=name)) hl (fun x _=>MX ht name x.name x.cap.a x.cap.b x.cap.c x.cap.d _ x.up rfl) hr) (cj ?_)
 cbv
 exact ax trv trv rfl rfl rfl rfl
theorem MY (ht:TT t) (name:aQ) {l:List Node} {es ps:List (List D)} (aA:es=l.map Node.cells) (hl:l.length<9223372036854775807) {nm:aQ} {a b c d:Int} {lb:List cZ} {up ok:Bool} (hr:dW name l=(⟨nm,⟨a,b,c,d⟩,lb,up⟩,ok)) {lr:List (List D)} (hlr:lr=lb.map cZ.cells):
 FC 33 [.agg [SL es,SL ps],ST name] [] (.ret (.dL [.agg [.d (.str nm),.d (.int .u64 a),.d (.int .u64 b),.d (.int .u64 c),.d (.int .u64 d),.d (.sl lr),.d (.bool up)],BL ok])) []:=by
 have hrows:∀r∈es,r.length=7:=by rw [aA];intro r hr;obtain ⟨y,_,rfl⟩:=List.mem_map.1 hr;rfl
 obtain ⟨k,hk⟩:∃k,k=idxOf (fun x:Node=>decide (x.name=name)) l:=⟨_,rfl⟩
 have hneg:k<0→k=-1:=by intro h;rw [hk] at h ⊢;unfold idxOf at h ⊢;split at h<;>omega
 refine bL ht (aI:=[]) Tryz.func33 rfl rfl (N:=18) rfl rfl (n:=0) rfl rfl ?_
 cbv
 refine fO trv (IL ht name aA hl hk) trv rfl rfl ?_
 cbv
 refine an (fun h=>?_) (fun h=>?_)
 ·have wM:k=-1:=hneg (by simpa [ht] using h)
  clear h hneg
  have hp:=JH (hk▸wM)
  rw [hr] at hp
  obtain ⟨⟨rfl,⟨rfl,rfl,rfl,rfl⟩,rfl,rfl⟩,rfl⟩:(nm=[]∧(a=0∧b=0∧c=0∧d=0)∧lb=[]∧up=false)∧ok=false:=by
   simpa [Node.zero,bM.zero] using hp
  have WM:lr=[]:=by rw [hlr];rfl
  subst WM
  clear hlr
  cbv
  exact ax trv trv rfl rfl rfl rfl
 have wM:k≠-1:=by intro h1;rw [h1] at h;simp [ht] at h
 clear h hneg
 obtain ⟨i,x,h1,h2,h3⟩:=JI (hk▸wM)
 rw [hr] at h3
 simp only [Prod.mk.injEq] at h3
 obtain ⟨rfl,rfl⟩:=h3
 rw [←hk] at h1
 subst h1
 have hi:i<l.length:=(List.getElem?_eq_some_iff.1 h2).1
 have hel:es.length=l.length:=by rw [aA,lgM]
 cbv
 refine cI [.str nm,.int .u64 a,.int .u64 b,.int .u64 c,.int .u64 d,.sl lr,.bool up] ?_ ?_ ?_
 ·simp only [ht,aa,Int.ofNat_eq_natCast];exact ⟨by omega,by omega,hrows⟩
 ·simp [ht,aA,h2,hlr]
 cbv
 exact ax trv trv rfl rfl rfl rfl
end Dem
end
