/- Parts of a proof, joined. -/
import Derived.Test.YtihohjnkkalgiaaGreatDoorS23
import Derived.Sort.LotA
set_option linter.all false
set_option maxRecDepth 100000
set_option maxHeartbeats 4000000
section
open Go
namespace Dem
def jP (s:aT) (p:Int):List Jb:=(s.ap.filter fun o=>o.runs&&decide (o.x.prio<p)).mergeSort fq
theorem DE {s:aT} {id:Int} {j:Jb} (h:bB s.ap id=(j,true)):bZ s id=(jP s j.x.prio).map (·.id):=by
 unfold bZ jP;rw [h];rfl
theorem tW {s:aT} {p:Int} {o:Jb}:o∈jP s p↔o∈s.ap∧o.runs=true∧o.x.prio<p:=by
 unfold jP
 rw [(List.mergeSort_perm _ _).mem_iff,List.mem_filter]
 simp
theorem KA (s:aT) (p:Int):(jP s p).length=(s.ap.filter fun o=>o.runs&&decide (o.x.prio<p)).length:=(List.mergeSort_perm _ _).length_eq
theorem KB {s:aT} (h:s.ok) (p:Int):(jP s p).Pairwise fun a b=>a.x.prio<b.x.prio∨(a.x.prio=b.x.prio∧b.id<a.id):=by
 have h1:(jP s p).Pairwise fun a b=>fq a b=true:=by
  refine List.pairwise_mergeSort ?_ ?_ _
  ·intro a b c;simp only [fq,Bool.or_eq_true,Bool.and_eq_true,decide_eq_true_eq];omega
  intro a b;simp only [fq,Bool.or_eq_true,Bool.and_eq_true,decide_eq_true_eq];omega
 have h2:(jP s p).Pairwise fun a b=>a.id≠b.id:=by
  have:(s.ap.filter fun o=>o.runs&&decide (o.x.prio<p)).Pairwise fun a b=>a.id≠b.id:=(h.ids.filter _).imp fun {a b} g=>by omega
  exact (List.mergeSort_perm _ _).symm.pairwise this fun {a b} g=>Ne.symm g
 refine (h1.and h2).imp fun {a b} g=>?_
 obtain ⟨g1,g2⟩:=g
 simp only [fq,Bool.or_eq_true,Bool.and_eq_true,decide_eq_true_eq] at g1
 omega
theorem NT {s:aT} (h:s.ok) {p:Int} {i:Nat} {a b:Jb} (ha:(jP s p)[i]?=some a) (hb:(jP s p)[i+1]?=some b):a.x.prio<b.x.prio∨(a.x.prio=b.x.prio∧b.id<a.id):=by
 obtain ⟨h1,rfl⟩:=List.getElem?_eq_some_iff.1 ha
 obtain ⟨h2,rfl⟩:=List.getElem?_eq_some_iff.1 hb
 exact List.pairwise_iff_getElem.1 (KB h p) i (i+1) h1 h2 (by omega)
theorem kS {s:aT} (h:s.ok) {id:Int} {j:Jb} (hj:bB s.ap id=(j,true)):
 (bZ s id).length=(s.ap.filter fun o=>o.runs&&decide (o.x.prio<j.x.prio)).length∧
 (∀(i:Nat) (x:Int),(bZ s id)[i]?=some x→∃o∈s.ap,o.id=x∧bB s.ap x=(o,true)∧o.runs=true∧o.x.prio<j.x.prio)∧
 ∀(i:Nat) (x y:Int),(bZ s id)[i]?=some x→(bZ s id)[i+1]?=some y→
  (bB s.ap x).1.x.prio<(bB s.ap y).1.x.prio∨((bB s.ap x).1.x.prio=(bB s.ap y).1.x.prio∧(bB s.ap y).1.id<(bB s.ap x).1.id):=by
 rw [DE hj]
 have hf:∀o∈jP s j.x.prio,bB s.ap o.id=(o,true):=fun o ho=>by
  obtain ⟨i,hi⟩:=List.getElem?_of_mem (tW.1 ho).1
  exact (dg h.ids hi).2.2
 refine ⟨by rw [lgM,KA],fun i x hx=>?_,fun i x y hx hy=>?_⟩
 ·rw [List.getElem?_map] at hx
  cases e:(jP s j.x.prio)[i]? with
  |none=>rw [e] at hx;cases hx
  |some o=>
   rw [e] at hx
   simp only [Option.map_some,osI] at hx
   have ho:=List.mem_of_getElem? e
   obtain ⟨g1,g2,g3⟩:=tW.1 ho
   exact ⟨o,g1,hx,by rw [←hx];exact hf o ho,g2,g3⟩
 rw [List.getElem?_map] at hx hy
 cases e:(jP s j.x.prio)[i]? with
 |none=>rw [e] at hx;cases hx
 |some a=>
  cases f:(jP s j.x.prio)[i+1]? with
  |none=>rw [f] at hy;cases hy
  |some b=>
   rw [e] at hx;rw [f] at hy
   simp only [Option.map_some,osI] at hx hy
   subst hx;subst hy
   rw [hf a (List.mem_of_getElem? e),hf b (List.mem_of_getElem? f)]
   exact NT h e f
theorem iS {s:aT} (h:s.ok) {id:Int} (hw:(∃j∈s.ap,j.id=id∧j.runs=false)∨∀j∈s.ap,j.id≠id):
 ((aB s id).2.2=false→(aB s id).1=[]∧(aB s id).2.1=[])∧
 ((
  aB s id).2.2=true→gj (aI s (aB s id).1) id=((aB s id).2.1,true)∧(∀x∈(aB s id).1,x∈bZ s id)∧
  ∀i<(aB s id).1.length,(gj (aI s ((aB s id).1.eraseIdx i)) id).2=false):=by
 rcases sN (H9 h hw) with ⟨h1,h2,h3,_⟩|⟨h1,h2,h3,_,_,_,h7⟩
 ·exact ⟨fun _=>⟨h2,h3⟩,fun e=>(show False by rw [h1] at e;exact Bool.noConfusion e).elim⟩
 exact ⟨fun e=>(show False by rw [h1] at e;exact Bool.noConfusion e).elim,fun _=>⟨h2,h3,h7⟩⟩
theorem By {name:aK} {l:List Node} {ps:List Place} (h:(cI name l ps).2=true) (x:Place):
 cI name l (ps++[x])=if (cO name (cI name l ps) x).2 then cO name (cI name l ps) x else (bM.zero,false):=by
 unfold cI at h ⊢
 simp only at h ⊢
 rw [List.foldl_append]
 split at h
 ·rename_i g;rw [if_pos g];rfl
 cases h
theorem Ia {name:aK} {l:List Node} {ps:List Place} (h:(cI name l ps).2=true) {x:Place} (hx:x.node≠name):cI name l (ps++[x])=cI name l ps:=by
 rw [By h]
 have:cO name (cI name l ps) x=cI name l ps:=by unfold cO;rw [if_neg (by simp [hx])]
 rw [this,if_pos h]
theorem KD {name:aK} {l:List Node} {ps:List Place} (h:(cI name l ps).2=true) {bI:Int} {v:bM} (hv:(ej (cI name l ps).1 v).2=true):cI name l (ps++[⟨bI,name,v⟩])=ej (cI name l ps).1 v:=by
 rw [By h]
 have:cO name (cI name l ps) ⟨bI,name,v⟩=ej (cI name l ps).1 v:=by unfold cO;rw [if_pos (by simp [h])]
 rw [this,if_pos hv]
theorem Ib {l:List Node} {v:bM} (hv:v.w) (bI:Int) (F:Node→Bool):∀(n:Nat) (ps:List Place) (out:List aK),cH.ok ⟨l,ps⟩→cH.w ⟨l,ps⟩→
 (nX v n (((l.filter (·.up)).filter F).map (iR ⟨l,ps⟩)) out).2=true→
 ∃new,(nX v n (((l.filter (·.up)).filter F).map (iR ⟨l,ps⟩)) out).1=out++new∧new.length=n∧(fB l bI v new ps).1=none
 |0,ps,out,_,_,_=>⟨[],by simp [nX],rfl,rfl⟩
 |n+1,ps,out,h,hw,e=>by
  have hN:∀m∈(l.filter (·.up)).filter F,m∈l∧m.up=true:=fun m hm=>List.mem_filter.1 (List.mem_filter.1 hm).1
  have hLw:∀s∈((l.filter (·.up)).filter F).map (iR ⟨l,ps⟩),s.free.w:=by
   intro s hs
   obtain ⟨m,hm,rfl⟩:=List.mem_map.1 hs
   exact Q3 h hw (hN m hm).1
  simp only [nX] at e ⊢
  cases hb:(best (((l.filter (·.up)).filter F).map (iR ⟨l,ps⟩)) v).ok with
  |false=>rw [hb] at e;exact (show False from Bool.noConfusion e).elim
  |true=>
   rw [hb] at e
   obtain ⟨s,h1,h2,h3⟩:=HZ hv hLw hb
   rw [show (!true)=false from rfl,if_neg (by decide)] at e ⊢
   generalize (best (((l.filter (·.up)).filter F).map (iR ⟨l,ps⟩)) v).at_=i at h1 e ⊢
   generalize (best (((l.filter (·.up)).filter F).map (iR ⟨l,ps⟩)) v).left=u at h3 e ⊢
   subst h3
   have hd:(((l.filter (·.up)).filter F).map (iR ⟨l,ps⟩)).getD i default=s:=by rw [List.getD_eq_getElem?_getD,h1];rfl
   rw [hd] at e ⊢
   rw [List.getElem?_map] at h1
   cases hi:((l.filter (·.up)).filter F)[i]? with
   |none=>rw [hi] at h1;cases h1
   |some m=>
    rw [hi] at h1
    simp only [Option.map_some,osI] at h1
    subst h1
    have hm:=hN m (List.mem_of_getElem? hi)
    have hf:=h.free m hm.1
    have Yu:=(h.xZ.filter (·.up)).filter F
    have Qa:(((l.filter (·.up)).filter F).map (iR ⟨l,ps⟩)).set i {iR ⟨l,ps⟩ m with free:=(ej (iR ⟨l,ps⟩ m).free v).1}=((l.filter (·.up)).filter F).map (iR ⟨l,ps++[⟨bI,m.name,v⟩]⟩):=by
     refine List.ext_getElem? fun k=>?_
     rw [List.getElem?_set,List.getElem?_map,List.getElem?_map,lgM]
     by_cases c:i=k
     ·subst c
      rw [if_pos rfl,if_pos (List.getElem?_eq_some_iff.1 hi).1,hi]
      simp only [Option.map_some,iR]
      rw [KD hf h2]
     rw [if_neg c]
     cases hk:((l.filter (·.up)).filter F)[k]? with
     |none=>rfl
     |some m'=>
      have hne:m.name≠m'.name:=by
       intro g
       obtain ⟨a1,a2⟩:=List.getElem?_eq_some_iff.1 hi
       obtain ⟨b1,b2⟩:=List.getElem?_eq_some_iff.1 hk
       rcases Nat.lt_or_gt_of_ne c with d|d
       ·have:=List.pairwise_iff_getElem.1 Yu i k a1 b1 d
        rw [a2,b2,g] at this;exact absurd this (List.lt_irrefl _)
       have:=List.pairwise_iff_getElem.1 Yu k i b1 a1 d
       rw [a2,b2,g] at this;exact absurd this (List.lt_irrefl _)
      simp only [Option.map_some,iR]
      rw [Ia (h.free m' (hN m' (List.mem_of_getElem? hk)).1) (x:=⟨bI,m.name,v⟩) hne]
    rw [Qa] at e ⊢
    have TB:m7 m.name v l ps=0:=by
     unfold m7
     rw [C2 h.xZ hm.1,hf]
     simp only [hm.2,Bool.not_true,Bool.false_or,Bool.false_eq_true,if_false]
     rw [show lq v (cI m.name l ps).1=true from h2]
     rfl
    obtain ⟨k1,k2⟩:=LB h hw hv bI TB
    obtain ⟨new,g1,g2,g3⟩:=Ib hv bI F n _ _ k1 k2 e
    refine ⟨m.name::new,by rw [g1];simp [iR],by simp [g2],?_⟩
    unfold fB
    rw [if_neg (by simp [TB])]
    exact g3
theorem Bz {s:aT} (h:s.ok) {i:Nat} {j:Jb} (hj:s.ap[i]?=some j) (hr:j.runs=false) {nodes:List aK} (e:gj s j.id=(nodes,true)):(cq s j.id nodes).2=0:=by
 have hroom:=(DB h hj hr).1 (by rw [e])
 obtain ⟨r1,r2⟩:=hroom
 have hm:=List.mem_of_getElem? hj
 have hc:=h.py j hm
 have hz:=c7.1 hc.1
 have UR:=hz.2.1
 obtain ⟨k1,k2,k3⟩:=dg h.ids hj
 have hfit:nodes=(fit (eT s.aX) j.x.cE j.x.gx j.x.count).1:=by
  have:(gj s j.id).1=(fit (eT s.aX) j.x.cE j.x.gx j.x.count).1:=by
   unfold gj ic eU
   rw [k3]
   simp only [hr,hz.2.2.2.2.2,r1,Bool.not_false,Bool.and_true,Bool.not_true,Bool.false_or]
   rw [show (c6 s.tree j.x.path (cZ j.x).1).2=0 from r2]
   rfl
  rw [e] at this;exact this
 have hf:(fit (eT s.aX) j.x.cE j.x.gx j.x.count)=nX j.x.gx j.x.count.toNat (((s.aX.nodes.filter (·.up)).filter fun n=>nD j.x.cE n.labels).map (iR s.aX)) []:=by
  unfold fit
  rw [if_neg (by omega),nu h.aX,show max j.x.count 0=j.x.count by omega]
 rw [hf] at r1 hfit
 obtain ⟨new,g1,g2,g3⟩:=Ib hc.2.1 j.id (fun n=>nD j.x.cE n.labels) _ s.aX.places [] h.aX h.gR r1
 have hn:nodes=new:=by rw [hfit];exact g1
 subst hn
 unfold cq
 rw [k1]
 simp only
 rw [k2]
 unfold jK
 rw [hr,if_neg (by decide),if_neg (by rw [g2];omega),hz.2.2.2.2.2,if_neg (by decide),if_neg (by simp [show (c6 s.tree j.x.path (cZ j.x).1).2=0 from r2])]
 have hp:(tH s.aX j.id nodes j.x.gx).2=0:=by
  unfold tH
  rw [g3]
 rw [if_neg (by simp [hp])]
theorem E4 {s:aT} (h:s.ok) {id:Int} (hw:(∃j∈s.ap,j.id=id∧j.runs=false)∨∀j∈s.ap,j.id≠id):
 ((gj s id).2=true→(cq s id (gj s id).1).2=0∧zi (cq s id (gj s id).1).1=true)∧
 ((aB s id).2.2=false→(gj s id).2=false)∧
 ((
  aB s id).2.2=true→(cq (aI s (aB s id).1) id (aB s id).2.1).2=0∧zi (cq (aI s (aB s id).1) id (aB s id).2.1).1=true∧
  (bB (cq (aI s (aB s id).1) id (aB s id).2.1).1.ap id).2=true∧(bB (cq (aI s (aB s id).1) id (aB s id).2.1).1.ap id).1.runs=true):=by
 have hs:=Bx h hw
 rcases hw with ⟨j,hj,rfl,hr⟩|hn
 ·obtain ⟨i,hi⟩:=List.getElem?_of_mem hj
  refine ⟨fun e=>⟨Bz h hi hr (by rw [←e]),(h.wK _ _).right⟩,fun e=>?_,fun e=>?_⟩
  ·rw [e] at hs
   cases c:(gj s j.id).2 with
   |false=>rfl
   |true=>rw [c] at hs;exact (show False by have:=hs.1;simp at this).elim
  have hq:=(iS h (.inl ⟨j,hj,rfl,hr⟩)).2 e
  have g:=de h (aB s j.id).1
  have hi2:(aI s (aB s j.id).1).ap[i]?=some j:=by
   rw [g.ap,List.getElem?_map,hi];simp [cg,hr]
  have hz:=Bz g.ok hi2 hr hq.1
  refine ⟨hz,(g.ok.wK _ _).right,?_⟩
  obtain ⟨i3,j3,T,b1,b2,b3,_,_,b6⟩:=rX g.ok hz
  have hok:=g.ok.wK j.id (aB s j.id).2.1
  rw [b6] at hok ⊢
  have hi4:(iI ⟨(aI s (aB s j.id).1).round,(aI s (aB s j.id).1).next,⟨(aI s (aB s j.id).1).aX.nodes,(aI s (aB s j.id).1).aX.places++(aB s j.id).2.1.map (fun n=>⟨j.id,n,j3.x.gx⟩)⟩,T,(aI s (aB s j.id).1).ap.set i3 j3.begun,(aI s (aB s j.id).1).queue.filter (fun q=>!decide (q.id=j.id)),(aI s (aB s j.id).1).ev,(aI s (aB s j.id).1).au⟩ j.id 2).ap[i3]?=some j3.begun:=by
   show ((aI s (aB s j.id).1).ap.set i3 j3.begun)[i3]?=_
   rw [List.getElem?_set,if_pos rfl,if_pos (List.getElem?_eq_some_iff.1 b1).1]
  have:=(dg hok.ids hi4).2.2
  rw [show j3.begun.id=j.id from b2] at this
  rw [this]
  exact ⟨rfl,rfl⟩
 have e1:gj s id=([],false):=E3 h hn []
 refine ⟨fun e=>by rw [e1] at e;exact (show False from Bool.noConfusion e).elim,fun _=>by rw [e1],fun e=>?_⟩
 rw [e1,E3 h hn] at hs
 have:=hs.1
 rw [e] at this
 exact (show False from Bool.noConfusion this).elim
end Dem
end
section
open Go Go.Sort
namespace Dem
def w8 (a b:Jb):Bool:=decide (a.x.prio<b.x.prio)||(decide (a.x.prio=b.x.prio)&&decide (b.id<a.id))
theorem Mb:SWO w8:=by
 refine ⟨?_,?_,?_⟩<;>simp only [w8]<;>simp<;>omega
theorem DF (L:List Jb):(Sort.insertionSort w8 L.toArray 0 L.length).toList.Perm L:=by
 obtain ⟨⟨h0,h1,h2⟩,h3⟩:=insertionSort_holds (lt:=w8) Mb L.toArray 0 L.length (Nat.zero_le _) (by simp)
 have hs:(Sort.insertionSort w8 L.toArray 0 L.length).size=L.length:=by rw [h0];simp
 have e1:(Sort.insertionSort w8 L.toArray 0 L.length).extract 0 L.length=Sort.insertionSort w8 L.toArray 0 L.length:=by
  apply Array.extract_eq_self_of_le;omega
 have e2:L.toArray.extract 0 L.length=L.toArray:=by apply Array.extract_eq_self_of_le;simp
 rw [e1,e2] at h2
 simpa using h2
theorem KE {L:List Jb} (hd:L.Pairwise fun a b=>a.id<b.id):(Sort.insertionSort w8 L.toArray 0 L.length).toList=L.mergeSort fq:=by
 obtain ⟨⟨h0,h1,h2⟩,h3⟩:=insertionSort_holds (lt:=w8) Mb L.toArray 0 L.length (Nat.zero_le _) (by simp)
 have hp:=DF L
 have h4:(L.mergeSort fq).Pairwise fun a b=>fq a b=true:=by
  refine List.pairwise_mergeSort ?_ ?_ _
  ·intro a b c;simp only [fq,Bool.or_eq_true,Bool.and_eq_true,decide_eq_true_eq];omega
  intro a b;simp only [fq,Bool.or_eq_true,Bool.and_eq_true,decide_eq_true_eq];omega
 refine (hp.trans (List.mergeSort_perm L fq).symm).eq_of_pairwise (le:=fun a b=>fq a b=true) ?_ ?_ h4
 ·intro a b ha hb g1 g2
  have ma:a∈L:=hp.mem_iff.1 ha
  have mb:b∈L:=(List.mergeSort_perm L fq).mem_iff.1 hb
  simp only [fq,Bool.or_eq_true,Bool.and_eq_true,decide_eq_true_eq] at g1 g2
  exact bN hd ma mb (by omega)
 rw [List.pairwise_iff_getElem]
 intro i j hi hj hij
 have hs:(Sort.insertionSort w8 L.toArray 0 L.length).size=L.length:=by rw [h0];simp
 simp only [Array.length_toList] at hi hj
 have:=h3 i j (Nat.zero_le _) hij (by omega)
 rw [getElem!_pos _ j hj,getElem!_pos _ i hi] at this
 simp only [Array.getElem_toList]
 simp only [w8,Bool.or_eq_false_iff,Bool.and_eq_false_iff,decide_eq_false_iff_not] at this
 simp only [fq,Bool.or_eq_true,Bool.and_eq_true,decide_eq_true_eq]
 omega
end Dem
end
section
open Go Dem Go.Proofs
namespace Dem
variable {t:Th}
theorem Q8 (ht:TT t) (x:Int):FC 101 [bG x] [] (.ret (dh (t _ fun _=>false))) []:=by
 refine bP ht (aQ:=[]) Tryz.func101 rfl rfl (N:=6) rfl rfl (n:=0) rfl rfl ?_
 cbv
 refine az trv trv rfl rfl rfl ?_
 (simp [ht,dh];done)
theorem TC (ht:TT t) (x y:Int):FC 50 [bG x,bG y] [] (.ret (gF (t _ fun _=>iW x y))) []:=by
 refine bP ht (aQ:=[]) Tryz.func50 rfl rfl (N:=20) rfl rfl (n:=0) rfl rfl ?_
 cbv
 refine bc trv (Q8 ht _) trv rfl rfl (fun r0 dj=>?_)
 simp only [ht] at dj
 cbv
 refine bc trv (Q8 ht _) trv rfl rfl (fun r1 cF=>?_)
 simp only [ht] at cF
 cbv
 refine av (fun h2=>?_) (fun h2=>?_)
 ·cbv
  refine av (fun h3=>?_) (fun h3=>?_)
  ·cbv
   refine az trv trv rfl rfl rfl ?_
   (simp only [ht,ah,gF,iW];grind)
  cbv
  refine az trv trv rfl rfl rfl ?_
  (simp only [ht,ah,gF,iW];grind)
 cbv
 refine av (fun h4=>?_) (fun h4=>?_)
 ·cbv
  refine az trv trv rfl rfl rfl ?_
  (simp only [ht,ah,gF,iW];grind)
 cbv
 refine av (fun h5=>?_) (fun h5=>?_)
 ·simp [ht,ah] at h5
  cbv
  refine az trv trv rfl rfl rfl ?_
  (simp [ht,gF,iW, *];done)
 simp [ht,ah] at h5
 cbv
 refine av (fun h6=>?_) (fun h6=>?_)
 ·simp [ht,ah] at h6
  cbv
  refine az trv trv rfl rfl rfl ?_
  (simp [ht,gF,iW, *];done)
 simp [ht,ah] at h6
 cbv
 refine az trv trv rfl rfl rfl ?_
 (simp only [ht,ah,gF,iW];grind)
def Q9:List Int→Int
 |[]=>0
 |x::r=>if x=0 then Q9 r else x
def V0 (x:Int):List D:=[.int .i64 x]
def TD (_:Th) (x:Int):List D:=[.int .i64 x]
theorem Yv (ht:TT t) {l:List Int} {es:List (List D)} (aE:es=l.map V0) (hl:l.length<1000000000):FC 49 [SL es] [] (.ret (gF (t _ fun _=>Q9 l))) []:=by
 refine bP ht (aQ:=[]) Tryz.func49 rfl rfl (N:=18) rfl rfl (n:=0) rfl rfl ?_
 cbv
 have aD:es.length=l.length:=by rw [aE,lgM]
 obtain ⟨J0,fI⟩:∃J0:Nat→Int→Prop,∀n i,J0 n i↔(∃k:Nat,i=k∧k+n=l.length∧Q9 l=Q9 (l.drop k)):=⟨fun n v=>match v with|i=>(∃k:Nat,i=k∧k+n=l.length∧Q9 l=Q9 (l.drop k)),fun _ _=>Iff.rfl⟩
 refine bH ⟨[3,6,7,8],[],[]⟩ (σ:=Int) (fun v=>[(8,.d (.int .i64 (t _ fun _=>v)))]) (fun v=>[]) J0 ?_
 cbv
 refine aH ⟨l.length,_,(fI _ _).2 ?_,by simp only [ht];rfl,?_⟩
 ·exact ⟨0,rfl,by simp,by simp⟩
 rintro n i hj
 replace hj:=(fI _ _).1 hj
 obtain ⟨k,rfl,j1,j4⟩:=hj
 cbv
 refine av (fun h1=>?_) (fun h1=>?_)
 ·simp [ht,ah,aD] at h1
  cbv
  (refine kp ht aE (cT:=TD t) (by simp only [ht];((try simp only [ah] at*);omega)) (by simp only [ht,ah];((try simp only [ah] at*);omega)) (fun _=>rfl) (fun _=>rfl) (fun x mx=>?_);simp only [ht,ah,Int.toNat_natCast] at mx;rw [jI mx,Q9] at j4)
  cbv
  refine av (fun h2=>?_) (fun h2=>?_)
  ·simp [ht,ah,aD] at h2
   cbv
   refine az trv trv rfl rfl rfl ?_
   (simp_all [Q9];done)
  simp [ht,ah,aD] at h2
  cbv
  refine cz _ (by simp only [ht];rfl) (n-1) ?_ ((fI _ _).2 ?_)
  ·omega
  simp only [ht,ah]
  exact ⟨k+1,aG (by ((try simp only [ah] at*);omega)),by ((try simp only [ah] at*);omega),by rw [j4,if_pos (by simp_all)]⟩
 simp [ht,ah,aD] at h1
 cbv
 refine az trv trv rfl rfl rfl ?_
 (rw [List.drop_eq_nil_of_le (by ((try simp only [ah] at*);omega)),Q9] at j4;simp only [ht,j4];done)
def KF (a b:Jb):Int:=Q9 [iW a.x.prio b.x.prio,iW b.id a.id]
theorem Mc {a b:Jb}:KF a b<0↔w8 a b=true:=by
 simp only [KF,Q9,iW,w8,Bool.or_eq_true,Bool.and_eq_true,decide_eq_true_eq]
 split<;>split<;>(try split)<;>(try split)<;>omega
theorem TE (ht:TT t) (a1 a3 a4 a5 a6 a7 a8 a9 a12 b1 b3 b4 b5 b6 b7 b8 b9 NU:Int) (a2 b2:aK) (V1 NV:Bool) {sa sb:List Term} {ar br:List (List D)} (har:ar=sa.map Term.cells) (NF:br=sb.map Term.cells):
 FC 48 [.agg [aC a1,ST a2,aC a3,aC a4,aC a5,aC a6,bG a7,bG a8,bG a9,SL ar,BL V1,bG a12],.agg [aC b1,ST b2,aC b3,aC b4,aC b5,aC b6,bG b7,bG b8,bG b9,SL br,BL NV,bG NU]] [] (.ret (gF (t _ fun _=>KF ⟨a1,⟨a2,⟨a3,a4,a5,a6⟩,a7,a8,a9,sa⟩,V1,a12⟩ ⟨b1,⟨b2,⟨b3,b4,b5,b6⟩,b7,b8,b9,sb⟩,NV,NU⟩))) []:=by
 obtain ⟨o,ho⟩:∃o,o=KF ⟨a1,⟨a2,⟨a3,a4,a5,a6⟩,a7,a8,a9,sa⟩,V1,a12⟩ ⟨b1,⟨b2,⟨b3,b4,b5,b6⟩,b7,b8,b9,sb⟩,NV,NU⟩:=⟨_,rfl⟩
 rw [←ho]
 refine bP ht (aQ:=[]) Tryz.func48 rfl rfl (N:=19) rfl rfl (n:=0) rfl rfl ?_
 cbv
 have aaE:ar.length=sa.length:=by rw [har,lgM]
 have aaF:br.length=sb.length:=by rw [NF,lgM]
 refine dO [false,false,false,false,false,false,false,false,false,false,false,true,true,true,true] (by kernel_rfl) (by kernel_rfl) ?_
 cbv
 iterate 6 refine gI (by simp [ht,aj]) ?_
 refine .inl ?_
 refine eY (fun g0=>⟨trv,trv,TC ht _ _⟩) rfl rfl (fun r1 cF=>?_)
 simp only [ht] at cF
 cbv
 iterate 4 refine gI (by simp [ht,aj]) ?_
 refine bc trv (Qy ht _ _) trv rfl rfl (fun r2 iJ=>?_)
 simp only [ht] at iJ
 cbv
 (refine bc trv (Yv ht (l:=[r1,r2]) rfl (by simp)) (by simp [ht]) rfl rfl (fun r3 mM=>?_);simp only [ht] at mM)
 cbv
 refine az trv trv rfl rfl rfl ?_
 (simp only [ht,gF];simp_all [KF];done)
theorem TF (ht:TT t) (a b n:Nat) (d:Array Jb) {es:List (List D)} {ai bi:Int} (ha:ai=a) (xu:bi=b) (aE:es=d.toList.map Jb.cells) (hn:n=d.size) (hb:b≤n) (hl:n<1000000) (RA:a<1000000000):
 FC 153 [.ow 0 12 n,bG ai,bG bi,.fn 48 []] [.row 12 es] (.ret (.eA [])) [.row 12 (t _ fun _=>(Sort.insertionSort w8 d a b).toList.map Jb.cells)]:=by
 refine bP ht (aQ:=[.row 12 es]) Tryz.func153 rfl rfl (N:=53) rfl rfl (n:=1) rfl rfl ?_
 cbv
 obtain ⟨J0,fI⟩:∃J0:Nat→Int×List (List D)→Prop,∀m i u,J0 m (i,u)↔(∃(k:Nat) (r:Array Jb),i=k∧b≤k+m∧a+1≤k∧k≤1000000000∧r.size=n∧u=r.toList.map Jb.cells∧Sort.insertionSort w8 d a b=Sort.insOuter w8 a b k r):=⟨fun m v=>match v with|(i,u)=>(∃(k:Nat) (r:Array Jb),i=k∧b≤k+m∧a+1≤k∧k≤1000000000∧r.size=n∧u=r.toList.map Jb.cells∧Sort.insertionSort w8 d a b=Sort.insOuter w8 a b k r),fun _ _ _=>Iff.rfl⟩
 refine bH ⟨[0,1,2,3,8],[],[]⟩ (σ:=Int×List (List D)) (fun v=>[(8,.d (.int .i64 (t _ fun _=>v.1)))]) (fun v=>[(0,.row 12 (t _ fun _=>v.2))]) J0 ?_
 cbv
 refine aH ⟨b,(_,_),(fI _ _ _).2 ?_,by simp only [ht];rfl,?_⟩
 ·exact ⟨a+1,d,by rw [ha];exact aG (by ((try simp only [ah] at*);omega)),by ((try simp only [ah] at*);omega),by ((try simp only [ah] at*);omega),by ((try simp only [ah] at*);omega),hn.symm,aE,rfl⟩
 rintro m ⟨i,u⟩ hj
 replace hj:=(fI _ _ _).1 hj
 obtain ⟨k,r,rfl,j1,j2,j3,j5,j6,j4⟩:=hj
 cbv
 refine av (fun h1=>?_) (fun h1=>?_)
 ·simp [ht,ah] at h1
  cbv
  obtain ⟨J2,ue⟩:∃J2:Nat→Int×List (List D)→Prop,∀m2 jj u,J2 m2 (jj,u)↔(∃(j:Nat) (q:Array Jb),jj=j∧j≤m2∧j≤k∧q.size=n∧u=q.toList.map Jb.cells∧Sort.insertionSort w8 d a b=Sort.insOuter w8 a b (k+1) (Sort.insInner w8 a j q)):=⟨fun m2 v=>match v with|(jj,u)=>(∃(j:Nat) (q:Array Jb),jj=j∧j≤m2∧j≤k∧q.size=n∧u=q.toList.map Jb.cells∧Sort.insertionSort w8 d a b=Sort.insOuter w8 a b (k+1) (Sort.insInner w8 a j q)),fun _ _ _=>Iff.rfl⟩
  refine bH ⟨[0,1,2,3,8,9],[],[]⟩ (σ:=Int×List (List D)) (fun v=>[(9,.d (.int .i64 (t _ fun _=>v.1)))]) (fun v=>[(0,.row 12 (t _ fun _=>v.2))]) J2 ?_
  cbv
  refine aH ⟨k,(_,_),(ue _ _ _).2 ?_,rfl,?_⟩
  ·exact ⟨k,r,rfl,by ((try simp only [ah] at*);omega),by ((try simp only [ah] at*);omega),j5,j6,by rw [j4,sL];((try simp only [ah] at*);omega)⟩
  rintro m2 ⟨jj,u⟩ hj
  replace hj:=(ue _ _ _).1 hj
  obtain ⟨j,q,rfl,q1,q2,q5,q6,q4⟩:=hj
  cbv
  refine dO [false,false,true,true,false,false,false,false,false,false,false,false,false,false,true,true,true] (by kernel_rfl) (by kernel_rfl) ?_
  cbv
  iterate 5 refine gI (by simp [ht,aj]) ?_
  refine gI (by simp [ht,aj,bS,ah,gF];grind) ?_
  (refine zm q6 (Jb.aZ t) (fun _=>by simp only [Jb.cells,Jb.aZ,ht]) j (fun g=>(by simp [ht,ah] at g ⊢;exact ⟨by ((try simp only [ah] at*);omega),fun h=>(by exact ⟨g,h⟩)⟩)) (fun y ey=>?_))
  cbv
  iterate 3 refine gI (by simp [ht,aj]) ?_
  refine gI (by (simp [ht,ah];intro g;rw [wrap64 (by ((try simp only [ah] at*);omega)) (by ((try simp only [ah] at*);omega))];((try simp only [ah] at*);omega))) ?_
  (refine zm q6 (Jb.aZ t) (fun _=>by simp only [Jb.cells,Jb.aZ,ht]) (j-1) (fun g=>(by simp only [ht,decide_eq_true_eq,ah] at g ⊢;rw [wrap64 (by ((try simp only [ah] at*);omega)) (by ((try simp only [ah] at*);omega)),show ((j:Int)-1).toNat=j-1 by ((try simp only [ah] at*);omega)];exact ⟨by ((try simp only [ah] at*);omega),rfl,fun h=>(by exact ⟨g,h⟩)⟩)) (fun z ez=>?_))
  cbv
  refine eY (fun g3=>⟨by simp [ht] at g3 ⊢;exact g3,trv,TE ht _ _ _ _ _ _ _ _ _ _ _ _ _ _ _ _ _ _ _ _ _ _ (kP ht rfl) (kP ht rfl)⟩) rfl rfl (fun r4 k9=>?_)
  simp only [ht] at k9
  cbv
  refine gI (by simp [ht,aj]) ?_
  refine pI (by simp [ht,aj]) ?_
  refine av (fun h5=>?_) (fun h5=>?_)
  ·simp [ht,ah] at h5
   cbv
   refine Gt [0,1,2,3,4,5,6,7,10,11] [false,false,false,false,false,false,false,false,false,false,false,false,false,false,true,true,true,true] (by kernel_rfl) (by kernel_rfl) (by kernel_rfl) (by kernel_rfl) (by kernel_rfl) ?_
   cbv
   iterate 8 refine gI (by simp [ht,aj]) ?_
   refine gI (by (simp [ht,ah];rw [wrap64 (by ((try simp only [ah] at*);omega)) (by ((try simp only [ah] at*);omega))];((try simp only [ah] at*);omega))) ?_
   (refine zm q6 (Jb.aZ t) (fun _=>by simp only [Jb.cells,Jb.aZ,ht]) (j-1) (fun g=>(by simp only [ht,ah];rw [wrap64 (by ((try simp only [ah] at*);omega)) (by ((try simp only [ah] at*);omega)),show ((j:Int)-1).toNat=j-1 by ((try simp only [ah] at*);omega)];exact ⟨by ((try simp only [ah] at*);omega),rfl,fun h=>h⟩)) (fun z2 ez2=>?_))
   cbv
   iterate 2 refine gI (by simp [ht,aj]) ?_
   refine gI (by simp [ht,aj,bS,ah,gF];grind) ?_
   (refine zm q6 (Jb.aZ t) (fun _=>by simp only [Jb.cells,Jb.aZ,ht]) j (fun g=>(by simp only [ht,ah,Int.toNat_natCast];exact ⟨by ((try simp only [ah] at*);omega),trv,fun h=>h⟩)) (fun y2 ey2=>?_))
   cbv
   refine ⟨?_,?_⟩
   ·(simp only [ht,ah] at*;omega)
   refine ⟨?_,?_⟩
   ·(simp only [ht,ah,Int.toNat_natCast];exact QL (n:=12) q6 (fun _=>rfl) (by ((try simp only [ah] at*);omega)) rfl)
   refine ⟨?_,?_⟩
   ·(simp only [ht,ah];rw [wrap64 (by ((try simp only [ah] at*);omega)) (by ((try simp only [ah] at*);omega))];((try simp only [ah] at*);omega))
   refine ⟨?_,?_⟩
   ·(simp only [ht,ah,Int.toNat_natCast];rw [wrap64 (by ((try simp only [ah] at*);omega)) (by ((try simp only [ah] at*);omega)),show ((j:Int)-1).toNat=j-1 by ((try simp only [ah] at*);omega)];exact QL (n:=12) (Kv (n:=12) q6 (fun _=>rfl) (by ((try simp only [ah] at*);omega)) z2) (fun _=>rfl) (by simp;((try simp only [ah] at*);omega)) rfl)
   cbv
   refine cz (_,_) (by simp only [ht];rfl) (m2-1) ?_ ((ue _ _ _).2 ?_)
   ·((try simp only [ah] at*);omega)
   simp only [ht,ah]
   exact ⟨j-1,Sort.swp q j (j-1),Ek (by ((try simp only [ah] at*);omega)) (by ((try simp only [ah] at*);omega)),by ((try simp only [ah] at*);omega),by ((try simp only [ah] at*);omega),by rw [swp_size];exact q5,by rw [wrap64 (by ((try simp only [ah] at*);omega)) (by ((try simp only [ah] at*);omega)),show ((j:Int)-1).toNat=j-1 by ((try simp only [ah] at*);omega),Int.toNat_natCast];exact QM (n:=12) q6 (fun _=>rfl) (by ((try simp only [ah] at*);omega)) (by ((try simp only [ah] at*);omega)) ey2 ez2,by rw [q4,yy (by ((try simp only [ah] at*);omega)) (by rw [←ey,←ez];exact Mc.1 (by have e:r4=KF y z:=k9;rw [←e];exact h5.2))]⟩
  simp [ht,ah] at h5
  cbv
  refine cz (_,_) (by simp only [ht];rfl) (m-1) ?_ ((fI _ _ _).2 ?_)
  ·((try simp only [ah] at*);omega)
  simp only [ht,ah]
  exact ⟨k+1,q,aG (by ((try simp only [ah] at*);omega)),by ((try simp only [ah] at*);omega),by ((try simp only [ah] at*);omega),by ((try simp only [ah] at*);omega),q5,q6,by rw [q4,sM (fun g=>by rw [←ey,←ez];exact Bool.eq_false_iff.2 fun e=>absurd (Mc.2 e) (by have e:r4=KF y z:=k9;rw [←e];have:=h5 (by ((try simp only [ah] at*);omega));((try simp only [ah] at*);omega)))]⟩
 simp [ht,ah] at h1
 cbv
 refine az trv trv rfl ?_ rfl rfl
 (simp only [ht];rw [j4,vK _ _ _ _ (by ((try simp only [ah] at*);omega)),←j6];rfl)
theorem KG (ht:TT t) (n:Nat) (d:Array Jb) {es:List (List D)} {ni:Int} (hni:ni=n) (aE:es=d.toList.map Jb.cells) (hn:n=d.size) (hl:n≤12):
 FC 100 [.ow 0 12 n,bG ni,.fn 48 []] [.row 12 es] (.ret (.eA [])) [.row 12 (t _ fun _=>(Sort.insertionSort w8 d 0 n).toList.map Jb.cells)]:=by
 refine bP ht (aQ:=[.row 12 es]) Tryz.func100 rfl rfl (N:=63) rfl rfl (n:=1) rfl rfl ?_
 cbv
 obtain ⟨J0,fI⟩:∃J0:Nat→Int×Int→Prop,∀m a b,J0 m (a,b)↔(a=0∧b=20):=⟨fun m v=>match v with|(a,b)=>(a=0∧b=20),fun _ _ _=>Iff.rfl⟩
 refine bH ⟨[0,1,2,6,7,8],[],[]⟩ (σ:=Int×Int) (fun v=>[(7,.d (.int .i64 (t _ fun _=>v.1))),(8,.d (.int .i64 (t _ fun _=>v.2)))]) (fun v=>[]) J0 ?_
 cbv
 refine aH ⟨1,(_,_),(fI _ _ _).2 ?_,by simp only [ht];rfl,?_⟩
 ·exact ⟨rfl,rfl⟩
 rintro m ⟨a,b⟩ hj
 replace hj:=(fI _ _ _).1 hj
 obtain ⟨OK,pX⟩:=hj
 cbv
 refine av (fun h1=>?_) (fun h1=>?_)
 ·simp [ht,ah] at h1
  (simp only [ah] at*;omega)
 simp [ht,ah] at h1
 cbv
 refine dP [0] trv rfl rfl (TF ht 0 n n d (by simp only [ht];exact OK) hni aE hn (Nat.le_refl _) (by ((try simp only [ah] at*);omega)) (by ((try simp only [ah] at*);omega))) (cK ?_)
 cbv
 obtain ⟨J2,ue⟩:∃J2:Nat→Int→Prop,∀m b,J2 m b↔(b=20):=⟨fun m v=>match v with|b=>(b=20),fun _ _=>Iff.rfl⟩
 refine bH ⟨[0,1,2,6],[],[]⟩ (σ:=Int) (fun v=>[(6,.d (.int .i64 (t _ fun _=>v)))]) (fun v=>[]) J2 ?_
 cbv
 refine aH ⟨1,_,(ue _ _).2 ?_,by simp only [ht];rfl,?_⟩
 ·rfl
 rintro m b hj
 replace hj:=(ue _ _).1 hj
 obtain sE:=hj
 cbv
 refine av (fun h3=>?_) (fun h3=>?_)
 ·simp [ht,ah] at h3
  omega
 simp [ht,ah] at h3
 cbv
 refine az trv trv rfl rfl rfl ?_
 rfl
theorem Ra (ht:TT t) (n:Nat) (d:Array Jb) {es:List (List D)} (aE:es=d.toList.map Jb.cells) (hn:n=d.size) (hl:n≤12):
 FC 47 [.ow 0 12 n,.fn 48 []] [.row 12 es] (.ret (.eA [])) [.row 12 (t _ fun _=>(Sort.insertionSort w8 d 0 n).toList.map Jb.cells)]:=by
 have hel:(es.length:Int)=n:=by rw [aE,hn];simp
 refine bP ht (aQ:=[.row 12 es]) Tryz.func47 rfl rfl (N:=9) rfl rfl (n:=1) rfl rfl ?_
 cbv
 refine ⟨?_,?_⟩
 ·(simp only [ht,ah] at*;omega)
 cbv
 refine dP [0] trv rfl rfl (KG ht n d (by simp only [ht];exact hel) aE hn hl) (cK ?_)
 cbv
 refine az trv trv rfl rfl rfl ?_
 rfl
theorem TG (ht:TT t):FC 153 [SL [],bG 0,bG 0,.fn 48 []] [] (.ret (.eA [])) []:=by
 refine bP ht (aQ:=[]) Tryz.func153 rfl rfl (N:=53) rfl rfl (n:=0) rfl rfl ?_
 cbv
 obtain ⟨J0,fI⟩:∃J0:Nat→Int→Prop,∀m a,J0 m a↔(a=1):=⟨fun m v=>match v with|a=>(a=1),fun _ _=>Iff.rfl⟩
 refine bH ⟨[0,1,2,3,8],[],[]⟩ (σ:=Int) (fun v=>[(8,.d (.int .i64 (t _ fun _=>v)))]) (fun v=>[]) J0 ?_
 cbv
 refine aH ⟨1,_,(fI _ _).2 ?_,rfl,?_⟩
 ·rfl
 rintro m a hj
 replace hj:=(fI _ _).1 hj
 obtain OK:=hj
 cbv
 refine av (fun h1=>?_) (fun h1=>?_)
 ·simp [ht] at h1
  omega
 simp [ht] at h1
 cbv
 refine az trv trv rfl rfl rfl ?_
 rfl
theorem KH (ht:TT t):FC 100 [SL [],bG 0,.fn 48 []] [] (.ret (.eA [])) []:=by
 refine bP ht (aQ:=[]) Tryz.func100 rfl rfl (N:=63) rfl rfl (n:=0) rfl rfl ?_
 cbv
 obtain ⟨J0,fI⟩:∃J0:Nat→Int×Int→Prop,∀m a b,J0 m (a,b)↔(a=0∧b=20):=⟨fun m v=>match v with|(a,b)=>(a=0∧b=20),fun _ _ _=>Iff.rfl⟩
 refine bH ⟨[0,1,2,6,7,8],[],[]⟩ (σ:=Int×Int) (fun v=>[(7,.d (.int .i64 (t _ fun _=>v.1))),(8,.d (.int .i64 (t _ fun _=>v.2)))]) (fun v=>[]) J0 ?_
 cbv
 refine aH ⟨1,(_,_),(fI _ _ _).2 ?_,by simp only [ht];rfl,?_⟩
 ·exact ⟨rfl,rfl⟩
 rintro m ⟨a,b⟩ hj
 replace hj:=(fI _ _ _).1 hj
 obtain ⟨OK,pX⟩:=hj
 cbv
 refine av (fun h1=>?_) (fun h1=>?_)
 ·simp [ht] at h1
  omega
 simp [ht] at h1
 cbv
 refine gB trv (by have:=TG ht;simpa only [ht,OK] using this) trv rfl rfl ?_
 cbv
 obtain ⟨J2,ue⟩:∃J2:Nat→Int→Prop,∀m b,J2 m b↔(b=20):=⟨fun m v=>match v with|b=>(b=20),fun _ _=>Iff.rfl⟩
 refine bH ⟨[0,1,2,6],[],[]⟩ (σ:=Int) (fun v=>[(6,.d (.int .i64 (t _ fun _=>v)))]) (fun v=>[]) J2 ?_
 cbv
 refine aH ⟨1,_,(ue _ _).2 ?_,by simp only [ht];rfl,?_⟩
 ·rfl
 rintro m b hj
 replace hj:=(ue _ _).1 hj
 obtain sE:=hj
 cbv
 refine av (fun h3=>?_) (fun h3=>?_)
 ·simp [ht] at h3
  omega
 simp [ht] at h3
 cbv
 refine az trv trv rfl rfl rfl ?_
 rfl
theorem Rb (ht:TT t):FC 47 [SL [],.fn 48 []] [] (.ret (.eA [])) []:=by
 refine bP ht (aQ:=[]) Tryz.func47 rfl rfl (N:=9) rfl rfl (n:=0) rfl rfl ?_
 cbv
 refine gB trv (by simp only [ht];exact KH ht) trv rfl rfl ?_
 cbv
 refine az trv trv rfl rfl rfl ?_
 rfl
theorem NW (ht:TT t) (jc:List D) {l:List (Jb)} {es:List (List D)} (aE:es=l.map Jb.cells) (f:Nat) (p:Jb→Bool) (hl:l.length<9223372036854775807)
 (hf:∀x∈l,FC f [.agg [aC x.id,ST x.x.path,aC x.x.gx.a,aC x.x.gx.b,aC x.x.gx.c,aC x.x.gx.d,bG x.x.count,bG x.x.prio,bG x.x.fH,SL (x.x.cE.map Term.cells),BL x.runs,bG x.left],.ep jc] [] (.ret (BL (p x))) []) {r:Int} (hr:r=idxOf p l):FC 70 [SL es,.fn f [.ep jc]] [] (.ret (bG r)) []:=by
 have hel:es.length=l.length:=by rw [aE,lgM]
 obtain ⟨J,hJ⟩:∃J:Nat→Nat→Prop,∀n v,J n v↔(v+n=l.length∧∀i<v,∀x,l[i]?=some x→p x=false):=⟨fun n v=>v+n=l.length∧∀i<v,∀x,l[i]?=some x→p x=false,fun _ _=>Iff.rfl⟩
 refine bP ht (aQ:=[]) Tryz.func70 rfl rfl (N:=19) rfl rfl (n:=0) rfl rfl ?_
 cbv
 refine bH ⟨[0,1,7,8],[],[]⟩ (σ:=Nat) (fun k=>[(8,bG (t _ fun _=>(k:Int)))]) (fun _=>[]) J ?_
 cbv
 refine aH ⟨l.length,0,(hJ _ _).2 ⟨by omega,by intro i hi;simp at hi⟩,by simp only [ht];rfl,?_⟩
 rintro n k hj
 obtain ⟨h2,h3⟩:=(hJ _ _).1 hj
 clear hj
 cbv
 refine av (fun h=>?_) (fun h=>?_)
 ·simp only [ht,ah,decide_eq_true_eq] at h
  have hk:k<l.length:=by omega
  obtain ⟨x,hx⟩:∃x,l[k]?=some x:=⟨l[k],by simp⟩
  have pG:x∈l:=List.mem_of_getElem? hx
  have ix:=hf x pG
  obtain ⟨px,hpx⟩:∃b,b=p x:=⟨_,rfl⟩
  rw [←hpx] at ix
  obtain ⟨id',⟨p',⟨a',b',c',d'⟩,n',Wy,Ld,sj⟩,Wz,WA⟩:=x;obtain ⟨Hr,mH⟩:∃lr:List (List D),lr=sj.map Term.cells:=⟨_,rfl⟩;simp only [←mH] at ix
  cbv
  refine jG [.int .u64 id',.str p',.int .u64 a',.int .u64 b',.int .u64 c',.int .u64 d',.int .i64 n',.int .i64 Wy,.int .i64 Ld,.sl Hr,.bool Wz,.int .i64 WA] ?_ ?_ ?_
  ·simp only [ht,ah];refine ⟨by omega,h,?_⟩;rw [aE];intro r hr;obtain ⟨y,_,rfl⟩:=List.mem_map.1 hr;rfl
  ·simp [ht,ah,aE,hx,mH,Jb.cells]
  cbv
  refine eG trv ix ?_
  cbv
  refine av (fun hb=>?_) (fun hb=>?_)
  ·cbv
   refine az trv trv rfl rfl rfl ?_
   have e:=dD hx (hpx▸hb) h3
   simp only [ht,ah,hr,idxOf,e]
  cbv
  refine aH ⟨n-1,k+1,⟨by omega,(hJ _ _).2 ⟨by omega,?_⟩⟩,?_⟩
  ·intro i hi y hy
   by_cases hik:i<k
   ·exact h3 i hik y hy
   have:i=k:=by omega
   subst this;rw [hx] at hy;cases hy;rw [←hpx];exact hb
  simp only [ht,ah,aG (show k<9223372036854775807 by omega)];rfl
 simp only [ht,ah,decide_eq_false_iff_not] at h
 have hk:¬k<l.length:=by omega
 clear h
 cbv
 refine az trv trv rfl rfl rfl ?_
 rw [hr,idxOf,dQ]
 intro i y hy
 have:i<l.length:=by
  rcases Nat.lt_or_ge i l.length with h'|h';· exact h'
  simp [List.getElem?_eq_none h'] at hy
 exact h3 i (by omega) y hy
theorem NY (ht:TT t) (jc:List D) {l:List (Jb)} {es:List (List D)} (aE:es=l.map Jb.cells) {m c:Nat} (hm:m=l.length) (hc:m≤c) (f:Nat) (p:Jb→Bool) (hl:l.length<9223372036854775807)
 (hf:∀x∈l,FC f [.agg [aC x.id,ST x.x.path,aC x.x.gx.a,aC x.x.gx.b,aC x.x.gx.c,aC x.x.gx.d,bG x.x.count,bG x.x.prio,bG x.x.fH,SL (x.x.cE.map Term.cells),BL x.runs,bG x.left],.ep jc] [] (.ret (BL (p x))) []) {r:List (List D)} (hr:r=(l.filter (fun x=>!p x)).map Jb.cells) {kk:Nat} (hkk:kk=r.length) {rz:List (List D)} (HM:rz=r++List.replicate (m-kk) [.int .u64 0,.str [],.int .u64 0,.int .u64 0,.int .u64 0,.int .u64 0,.int .i64 0,.int .i64 0,.int .i64 0,.sl [],.bool false,.int .i64 0]):
 FC 44 [.vw 0 12 0 m c true,.fn f [.ep jc]] [.row 12 es] (.ret (.vw 0 12 0 kk c true)) [.row 12 rz]:=by
 have hel:es.length=m:=by rw [aE,lgM,hm]
 have hrows:∀r∈es,r.length=12:=by rw [aE];intro r hr;obtain ⟨y,_,rfl⟩:=List.mem_map.1 hr;rfl
 obtain ⟨k,hk⟩:∃k,k=idxOf p l:=⟨_,rfl⟩
 have PW:(t (List (List D)) fun _=>(es.drop 0).take m)=l.map Jb.cells:=by simp only [ht];rw [List.drop_zero,List.take_of_length_le (by omega),aE]
 have hidx:=NW ht jc PW f p hl hf hk
 obtain ⟨J,hJ⟩:∃J:Nat→Nat×Nat×List (List D)→Prop,∀n v,J n v↔(v.2.1+n=m∧v.1<v.2.1∧v.2.2.length=m∧(∀r∈v.2.2,r.length=12)∧v.2.2.take v.1=((l.take v.2.1).filter (fun x=>!p x)).map Jb.cells∧v.2.2.drop v.2.1=es.drop v.2.1):=⟨fun n v=>v.2.1+n=m∧v.1<v.2.1∧v.2.2.length=m∧(∀r∈v.2.2,r.length=12)∧v.2.2.take v.1=((l.take v.2.1).filter (fun x=>!p x)).map Jb.cells∧v.2.2.drop v.2.1=es.drop v.2.1,fun _ _=>Iff.rfl⟩
 refine bP ht (aQ:=[.row 12 es]) Tryz.func44 rfl rfl (N:=42) rfl rfl (n:=1) rfl rfl ?_
 cbv
 refine Pu (TT.eq ht) (v:=bG k) [true] [] trv rfl ?_ rfl rfl rfl rfl rfl rfl rfl hidx ?_
 ·simp [ht];omega
 cbv
 refine av (fun h=>?_) (fun h=>?_)
 ·have vT:k=-1:=by simp [ht] at h;exact h
  have hnone:=nU (hk▸vT:idxOf p l=-1)
  clear h
  cbv
  have OI:r=es:=by rw [hr,filter_all hnone,←aE]
  have hkm:kk=m:=by rw [hkk,OI,hel]
  have VJ:rz=es:=by rw [HM,hkm,Nat.sub_self,OI];simp
  rw [VJ,hkm]
  exact Jl trv rfl rfl
 have vT:k≠-1:=by simp [ht] at h;exact h
 clear h
 obtain ⟨i0,x0,Uq,hx0,Ur,hb0⟩:=nV (hk▸vT:idxOf p l≠-1)
 rw [←hk] at Uq
 subst Uq
 have XX:i0<m:=by rw [hm];exact (List.getElem?_eq_some_iff.1 hx0).1
 cbv
 refine bH ⟨[0,1,5,6],[],[]⟩ (σ:=Nat×Nat×List (List D)) (fun v=>[(5,bG (t _ fun _=>(v.1:Int))),(6,bG (t _ fun _=>(v.2.1:Int)))]) (fun v=>[(0,.row 12 (t _ fun _=>v.2.2))]) J ?_
 cbv
 refine aH ⟨m-(i0+1),(i0,i0+1,es),(hJ _ _).2 ⟨?_,?_,hel,hrows,?_,rfl⟩,by simp only [ht,ah,Int.ofNat_eq_natCast,aG (show i0<9223372036854775807 by omega)];rfl,?_⟩
 ·show i0+1+(m-(i0+1))=m;omega
 ·show i0<i0+1;omega
 ·show es.take i0=_
  rw [dV hx0,List.filter_append,filter_all hb0,aE,←List.map_take];simp [Ur]
 rintro n ⟨i,j,cur⟩ hj
 obtain ⟨j1,j2,j3,j4,j5,j6⟩:=(hJ _ _).1 hj
 clear hj
 simp only at j1 j2 j3 j4 j5 j6
 cbv
 refine av (fun h=>?_) (fun h=>?_)
 ·have Us:j<m:=by simp [ht,ah] at h;omega
  clear h
  obtain ⟨x,hx⟩:∃x,l[j]?=some x:=⟨l[j]'(by omega),by simp⟩
  have pG:x∈l:=List.mem_of_getElem? hx
  have ix:=hf x pG
  have Hp:cur[j]?=some (Jb.cells x):=by
   have:(cur.drop j)[0]?=(es.drop j)[0]?:=by rw [j6]
   rw [List.getElem?_drop,List.getElem?_drop,Nat.add_zero,aE,List.getElem?_map,hx] at this
   exact this
  obtain ⟨px,hpx⟩:∃b,b=p x:=⟨_,rfl⟩
  rw [←hpx] at ix
  obtain ⟨cx,EE⟩:∃cx,cx=Jb.cells x:=⟨_,rfl⟩
  rw [←EE] at Hp
  have hstep:(l.take (j+1)).filter (fun x=>!p x)=(l.take j).filter (fun x=>!p x)++(if px then [] else [x]):=by
   rw [dV hx,List.filter_append];cases px<;>simp [←hpx]
  obtain ⟨id',⟨p',⟨a',b',c',d'⟩,n',Wy,Ld,sj⟩,Wz,WA⟩:=x;obtain ⟨Hr,mH⟩:∃lr:List (List D),lr=sj.map Term.cells:=⟨_,rfl⟩;simp only [Jb.cells,←mH] at ix EE
  cbv
  refine ⟨?_,Pq [.int .u64 id',.str p',.int .u64 a',.int .u64 b',.int .u64 c',.int .u64 d',.int .i64 n',.int .i64 Wy,.int .i64 Ld,.sl Hr,.bool Wz,.int .i64 WA] ?_ ?_ ?_⟩
  ·simp [ht,ah];omega
  ·simp [ht,ah,j3];omega
  ·simp [ht,ah,List.getD_eq_getElem?_getD,Hp,EE]
  cbv
  refine dP [] trv rfl rfl ix (cK ?_)
  cbv
  refine av (fun hb=>?_) (fun hb=>?_)
  ·have hb':px=false:=by simpa [ht] using hb
   clear hb
   obtain ⟨nc,hnc⟩:∃nc,nc=cur.set i cx:=⟨_,rfl⟩
   have pJ:(cur.getD i []).length=12:=j4 _ (by rw [List.getD_eq_getElem?_getD,List.getElem?_eq_getElem (by omega)];exact List.getElem_mem _)
   cbv
   refine ⟨?_,?_⟩
   ·simp [ht,ah];omega
   refine ⟨?_,?_⟩
   ·simp [ht,ah,j3];exact ⟨by omega,by simpa using pJ.symm▸(Nat.le_refl _)⟩
   refine aH ⟨n-1,(i+1,j+1,nc),⟨by omega,(hJ _ _).2 ⟨?_,?_,?_,?_,?_,?_⟩⟩,?_⟩
   ·show j+1+(n-1)=m;omega
   ·show i+1<j+1;omega
   ·show nc.length=m;rw [hnc,List.length_set];exact j3
   ·show ∀r∈nc,r.length=12
    intro r hr;rw [hnc] at hr
    rcases List.mem_or_eq_of_mem_set hr with hr|rfl
    ·exact j4 r hr
    rw [EE];rfl
   ·show nc.take (i+1)=_
    rw [hnc,kH _ _ _ (by omega),j5,hstep,hb',EE];simp [mH,Jb.cells]
   ·show nc.drop (j+1)=es.drop (j+1)
    rw [hnc,nj _ _ _ _ (by omega),←List.drop_drop,j6,List.drop_drop]
   simp only [ht,ah,Int.ofNat_eq_natCast,aG (show i<9223372036854775807 by omega),aG (show j<9223372036854775807 by omega)]
   have ei:0+((i:Int)).toNat=i:=by simp
   have e:cur.set i (be (cur.getD i []) 0 [.int .u64 id',.str p',.int .u64 a',.int .u64 b',.int .u64 c',.int .u64 d',.int .i64 n',.int .i64 Wy,.int .i64 Ld,.sl Hr,.bool Wz,.int .i64 WA])=nc:=by rw [hnc,kG _ _ (by rw [pJ];rfl),EE]
   simp only [ei,e];rfl
  have hb':px=true:=by simpa [ht] using hb
  clear hb
  cbv
  refine aH ⟨n-1,(i,j+1,cur),⟨by omega,(hJ _ _).2 ⟨?_,?_,j3,j4,?_,?_⟩⟩,?_⟩
  ·show j+1+(n-1)=m;omega
  ·show i<j+1;omega
  ·show cur.take i=_
   rw [j5,hstep,hb'];simp
  ·show cur.drop (j+1)=es.drop (j+1)
   rw [←List.drop_drop,j6,List.drop_drop]
  simp only [ht,ah,Int.ofNat_eq_natCast,aG (show j<9223372036854775807 by omega)];rfl
 have Us:j=m:=by simp [ht,ah] at h;omega
 clear h
 obtain ⟨mi,xP⟩:∃mi,mi=m-i:=⟨_,rfl⟩
 obtain ⟨ci,pJ⟩:∃ci,ci=c-i:=⟨_,rfl⟩
 obtain ⟨nc,hnc⟩:∃nc,nc=wrote cur i (List.replicate mi [.int .u64 0,.str [],.int .u64 0,.int .u64 0,.int .u64 0,.int .u64 0,.int .i64 0,.int .i64 0,.int .i64 0,.sl [],.bool false,.int .i64 0]):=⟨_,rfl⟩
 have hnt:nc.take i=r:=by
  have hl':(cur.take i).length=i:=by simp;omega
  rw [hnc,wrote,List.append_assoc,List.take_left' hl',j5,hr,Us,hm,List.take_length]
 have XY:i≤nc.length:=by rw [hnc];simp [wrote];omega
 cbv
 refine bL (.vw 0 12 i mi ci true) [.row 12 cur] ?_ ?_ ?_ ?_
 ·simp [ht,ah,dS,bS];omega
 ·simp [ht,ah,aW,aS,xP,pJ]
 ·simp only [ht]
 cbv
 refine bL (.eA []) [.row 12 nc] ?_ rfl ?_ ?_
 ·simp [ht,eP]
  refine ⟨by omega,?_⟩
  intro h;rw [h] at j3;simp at j3;omega
 ·simp only [ht,hnc]
 cbv
 refine bL (.vw 0 12 0 i c true) [.row 12 nc] ?_ ?_ rfl ?_
 ·simp [ht,ah,dS,bS];omega
 ·simp [ht,ah,aW,aS]
 cbv
 have hki:kk=i:=by rw [hkk,←hnt];simp;omega
 have VJ:rz=nc:=by
  rw [HM,hki,←hnt,hnc,wrote]
  have hl':(cur.take i).length=i:=by simp;omega
  rw [List.append_assoc,List.take_left' hl',List.drop_of_length_le (by simp;omega),List.append_nil,xP]
 rw [VJ,hki]
 exact Jl trv rfl rfl
theorem V2 (ht:TT t) (a1 a3 a4 a5 a6 a7 a8 a9 a12 b1 b3 b4 b5 b6 b7 b8 b9 NU:Int) (a2 b2:aK) (V1 NV:Bool) (ar br:List (List D)):
 FC 46 [.agg [aC a1,ST a2,aC a3,aC a4,aC a5,aC a6,bG a7,bG a8,bG a9,SL ar,BL V1,bG a12],.ep [.int .u64 b1,.str b2,.int .u64 b3,.int .u64 b4,.int .u64 b5,.int .u64 b6,.int .i64 b7,.int .i64 b8,.int .i64 b9,.sl br,.bool NV,.int .i64 NU]] [] (.ret (BL (!(V1&&decide (a8<b8))))) []:=by
 obtain ⟨H,hH⟩:∃H,H=!(V1&&decide (a8<b8)):=⟨_,rfl⟩
 rw [←hH]
 refine bP ht (aQ:=[]) Tryz.func46 rfl rfl (N:=16) rfl rfl (n:=0) rfl rfl ?_
 cbv
 iterate 7 refine gI (by simp [ht]) ?_
 refine pI (by simp [ht]) ?_
 refine az trv trv rfl rfl rfl ?_
 (simp [*];grind)
def Rc (t:Th) (l:List Int):AV:=SL (t _ fun _=>l.map Int.cells)
theorem Yw {α:Type} {l:List α} {cells:α→List D} {u:List (List D)} (hu:u=l.map cells) (cT:α→List D) (hT:∀x,cells x=cT x) (j:Nat) {c:Prop} {ds:List D} {K:List D→Prop} (hj:j<l.length) (hd:u.getD j []=ds) (hc:j<u.length→c) (hK:∀x,l[j]?=some x→K (cT x)):Ar true c ds K:=by
 refine U7 _ (fun _=>⟨hc (by rw [hu];simpa using hj),?_⟩) (hK l[j] (by simp [hj]))
 rw [←hd,hu,←hT];simp [hj]
def E5 (l:List Jb) (p:Int):List Jb:=l.filter fun o=>o.runs&&decide (o.x.prio<p)
theorem Ic (ht:TT t) {l:List Jb} {es:List (List D)} (aE:es=l.map Jb.cells) (hl:l.length<1000000) (b1 b3 b4 b5 b6 b7 b8 b9 NU:Int) (b2:aK) (NV:Bool) (br:List (List D))
 {m c k:Nat} (hm:m=l.length) (hc:m≤c) {r:List (List D)} (hr:r=(E5 l b8).map Jb.cells) (hk:k=r.length) {rz:List (List D)} (HM:rz=r++List.replicate (m-k) [.int .u64 0,.str [],.int .u64 0,.int .u64 0,.int .u64 0,.int .u64 0,.int .i64 0,.int .i64 0,.int .i64 0,.sl [],.bool false,.int .i64 0]):
 FC 44 [.vw 0 12 0 m c true,.fn 46 [.ep [.int .u64 b1,.str b2,.int .u64 b3,.int .u64 b4,.int .u64 b5,.int .u64 b6,.int .i64 b7,.int .i64 b8,.int .i64 b9,.sl br,.bool NV,.int .i64 NU]]] [.row 12 es] (.ret (.vw 0 12 0 k c true)) [.row 12 rz]:=
 NY ht _ aE hm hc 46 (fun o=>!(o.runs&&decide (o.x.prio<b8))) (by omega) (fun o _=>V2 ht _ _ _ _ _ _ _ _ _ _ _ _ _ _ _ _ _ _ _ _ _ _ _ _) (by rw [hr,E5];simp) hk HM
theorem V3 (ht:TT t) {l:List Jb} {es:List (List D)} (aE:es=l.map Jb.cells) (hl:l.length<1000000) (b1 b3 b4 b5 b6 b7 b8 b9 NU:Int) (b2:aK) (NV:Bool) (br:List (List D)) (h0:E5 l b8=[]) {m:Nat} (hm:m=l.length):
 FC 44 [.ow 1 12 m,.fn 46 [.ptr 0 0]] [.var [aC b1,ST b2,aC b3,aC b4,aC b5,aC b6,bG b7,bG b8,bG b9,SL br,BL NV,bG NU],.row 12 es] (.ret (SL [])) [.dead,.dead]:=
 oY rfl rfl rfl<|dK [1] rfl rfl rfl rfl<|dZ fun c hc _=>Be rfl (by simp) (by simp) rfl (Ic ht aE hl b1 b3 b4 b5 b6 b7 b8 b9 NU b2 NV br hm hc (r:=[]) (by rw [h0];rfl) (k:=0) rfl rfl)
theorem TH {r z:List (List D)} {k:Nat} (hk:k=r.length):r=(r++z).take k:=by rw [hk,List.take_left]
theorem V5 (ht:TT t) {l:List Jb} {es:List (List D)} (aE:es=l.map Jb.cells) (hl:l.length<1000000) (b1 b3 b4 b5 b6 b7 b8 b9 NU:Int) (b2:aK) (NV:Bool) (br:List (List D)) {m k:Nat} (hm:m=l.length) {r:List (List D)} (hr:r=(E5 l b8).map Jb.cells) (hk:k=r.length) (h0:0<k):
 FC 44 [.ow 1 12 m,.fn 46 [.ptr 0 0]] [.var [aC b1,ST b2,aC b3,aC b4,aC b5,aC b6,bG b7,bG b8,bG b9,SL br,BL NV,bG NU],.row 12 es] (.ret (.ow 1 12 k)) [.dead,.row 12 r]:=by
 obtain ⟨rz,HM⟩:∃rz,rz=r++List.replicate (m-k) [D.int .u64 0,.str [],.int .u64 0,.int .u64 0,.int .u64 0,.int .u64 0,.int .i64 0,.int .i64 0,.int .i64 0,.sl [],.bool false,.int .i64 0]:=⟨_,rfl⟩
 exact oY rfl rfl rfl<|dK [1] rfl rfl rfl rfl<|dZ fun c hc _=>Bd h0 rfl (by rw [HM,hk];simp) (by rw [HM];exact TH hk) rfl (Ic ht aE hl b1 b3 b4 b5 b6 b7 b8 b9 NU b2 NV br hm hc hr hk HM)
theorem Rd (ht:TT t) (rd nx ef af:Int) {nl:List Node} {pl:List Place} {tl:List bg} {jl:List Jb} {ql:List cu} {el al:List ek} {ns ps ts js qs es bW:List (List D)} (fF:ns=nl.map Node.cells) (hps:ps=pl.map Place.cells) (hts:ts=tl.map bg.cells) (eW:js=jl.map Jb.cells) (eM:qs=ql.map cu.cells) (aE:es=el.map ek.cells) (has:bW=al.map ek.cells) (id:Int) (hjl:jl.length<1000000) (hlo:E5 jl (bB jl id).1.x.prio=[]):FC 18 [.agg [aC rd,aC nx,SL ns,SL ps,SL ts,SL js,SL qs,aC ef,SL es,aC af,SL bW],aC id] [] (.ret (Rc t (t _ fun _=>bZ ⟨rd,nx,⟨nl,pl⟩,tl,jl,ql,⟨ef,el⟩,⟨af,al⟩⟩ id))) []:=by
 have he:bZ ⟨rd,nx,⟨nl,pl⟩,tl,jl,ql,⟨ef,el⟩,⟨af,al⟩⟩ id=[]:=by
  unfold bZ
  split
  ·rfl
  show (List.mergeSort (E5 jl (bB jl id).1.x.prio) fq).map _=[]
  rw [hlo];simp
 rw [he]
 obtain ⟨m,hm⟩:∃m,m=jl.length:=⟨_,rfl⟩
 have hel:m=js.length:=by rw [eW,lgM,hm]
 have hrows:∀r∈js,r.length=12:=by rw [eW];intro r hr;obtain ⟨y,_,rfl⟩:=List.mem_map.1 hr;rfl
 refine bP ht (aQ:=[]) Tryz.func18 rfl rfl (N:=39) rfl rfl (n:=0) rfl rfl ?_
 cbv
 have bJ:ns.length=nl.length:=by rw [fF,lgM]
 have bQ:ps.length=pl.length:=by rw [hps,lgM]
 have bK:ts.length=tl.length:=by rw [hts,lgM]
 have bT:js.length=jl.length:=by rw [eW,lgM]
 have bq:qs.length=ql.length:=by rw [eM,lgM]
 have aD:es.length=el.length:=by rw [aE,lgM]
 have bD:bW.length=al.length:=by rw [has,lgM]
 (refine aF trv (oa ht _ rd nx ef af ns ps ts qs es bW eW (by ((try simp only [ah] at*);omega))) (by simp) rfl rfl rfl (fun r1 cF=>?_);simp only [ht] at cF;rw [←cF] at hlo)
 cbv
 refine av (fun h0=>?_) (fun h0=>?_)
 ·simp [ht] at h0
  cbv
  refine az trv trv rfl rfl rfl ?_
  (simp [ht];done)
 simp [ht] at h0
 cbv
 (refine jY trv (tQ ht hrows (by omega) hel) trv rfl (.inr rfl) ?_)
 cbv
 (refine dP [1,2] trv rfl rfl (V3 ht eW (by ((try simp only [ah] at*);omega)) _ _ _ _ _ _ _ _ _ _ _ _ hlo hm) (cK ?_))
 cbv
 (refine gB trv (Rb ht) trv rfl rfl ?_)
 cbv
 obtain ⟨J1,pE⟩:∃J1:Nat→List (List D)×Int→Prop,∀n u i,J1 n (u,i)↔(i=0∧u=[]):=⟨fun n v=>match v with|(u,i)=>(i=0∧u=[]),fun _ _ _=>Iff.rfl⟩
 refine bH ⟨[8,26,27,28],[(8,1)],[]⟩ (σ:=List (List D)×Int) (fun v=>[(8,.ow 0 1 (t _ fun _=>(v.1).length)),(28,.d (.int .i64 (t _ fun _=>v.2)))]) (fun v=>[(0,.row 1 (t _ fun _=>v.1))]) J1 ?_
 cbv
 refine aH ⟨1,([],_),(pE _ _ _).2 ?_,by simp only [ht];rfl,?_⟩
 ·exact ⟨rfl,rfl⟩
 rintro n ⟨u,i⟩ hj
 replace hj:=(pE _ _ _).1 hj
 obtain ⟨ji,ju⟩:=hj
 cbv
 refine av (fun h2=>?_) (fun h2=>?_)
 ·simp [ht] at h2
  omega
 simp [ht] at h2
 cbv
 refine az trv (by simp [ht]) rfl rfl rfl ?_
 (simp only [ht,ju];rfl)
theorem Re (ht:TT t) (rd nx ef af:Int) {nl:List Node} {pl:List Place} {tl:List bg} {jl:List Jb} {ql:List cu} {el al:List ek} {ns ps ts js qs es bW:List (List D)} (fF:ns=nl.map Node.cells) (hps:ps=pl.map Place.cells) (hts:ts=tl.map bg.cells) (eW:js=jl.map Jb.cells) (eM:qs=ql.map cu.cells) (aE:es=el.map ek.cells) (has:bW=al.map ek.cells) (id:Int) (hjl:jl.length<1000000) {L:List Jb} (hL:L=E5 jl (bB jl id).1.x.prio) (hl0:0<L.length) (h12:L.length≤12) (hid:su jl):FC 18 [.agg [aC rd,aC nx,SL ns,SL ps,SL ts,SL js,SL qs,aC ef,SL es,aC af,SL bW],aC id] [] (.ret (Rc t (t _ fun _=>bZ ⟨rd,nx,⟨nl,pl⟩,tl,jl,ql,⟨ef,el⟩,⟨af,al⟩⟩ id))) []:=by
 obtain ⟨E,hE⟩:∃E,E=bZ ⟨rd,nx,⟨nl,pl⟩,tl,jl,ql,⟨ef,el⟩,⟨af,al⟩⟩ id:=⟨_,rfl⟩
 rw [←hE]
 obtain ⟨S,hS⟩:∃S,S=(Sort.insertionSort w8 L.toArray 0 L.length).toList:=⟨_,rfl⟩
 have hSe:(bB jl id).2=true→E=S.map (·.id):=by
  intro g
  rw [hE,hS,KE (by rw [hL];exact hid.filter _),hL];unfold bZ;rw [g];rfl
 have hE0:(bB jl id).2=false→E=[]:=by
  intro g
  rw [hE];unfold bZ;rw [g];rfl
 have hSl:S.length=L.length:=by rw [hS];exact (DF L).length_eq
 obtain ⟨k,hk⟩:∃k,k=L.length:=⟨_,rfl⟩
 obtain ⟨m,hm⟩:∃m,m=jl.length:=⟨_,rfl⟩
 obtain ⟨r,hr⟩:∃r,r=L.map Jb.cells:=⟨_,rfl⟩
 have hkr:k=r.length:=by rw [hr,lgM,hk]
 have hel:m=js.length:=by rw [eW,lgM,hm]
 have hrows:∀r∈js,r.length=12:=by rw [eW];intro r hr;obtain ⟨y,_,rfl⟩:=List.mem_map.1 hr;rfl
 rw [←hk] at hl0 h12
 have Yx:FC 47 [.ow 0 12 k,.fn 48 []] [.row 12 r] (.ret (.eA [])) [.row 12 (t _ fun _=>S.map Jb.cells)]:=by
  have:=Ra ht k L.toArray (es:=r) (by rw [hr]) (by rw [hk];simp) h12
  rw [hS,←hk];exact this
 have hkS:k=S.length:=hk.trans hSl.symm
 refine bP ht (aQ:=[]) Tryz.func18 rfl rfl (N:=39) rfl rfl (n:=0) rfl rfl ?_
 cbv
 have bJ:ns.length=nl.length:=by rw [fF,lgM]
 have bQ:ps.length=pl.length:=by rw [hps,lgM]
 have bK:ts.length=tl.length:=by rw [hts,lgM]
 have bT:js.length=jl.length:=by rw [eW,lgM]
 have bq:qs.length=ql.length:=by rw [eM,lgM]
 have aD:es.length=el.length:=by rw [aE,lgM]
 have bD:bW.length=al.length:=by rw [has,lgM]
 have Yb:r.length=L.length:=by rw [hr,lgM]
 (refine aF trv (oa ht _ rd nx ef af ns ps ts qs es bW eW (by ((try simp only [ah] at*);omega))) (by simp) rfl rfl rfl (fun r1 cF=>?_);simp only [ht] at cF;rw [←cF] at hL hSe hE0)
 cbv
 refine av (fun h0=>?_) (fun h0=>?_)
 ·simp [ht] at h0
  cbv
  refine az trv trv rfl rfl rfl ?_
  (simp only [ht,hE0 (by simp_all)];rfl)
 simp [ht] at h0
 cbv
 (refine jY trv (tQ ht hrows (by omega) hel) trv rfl (.inr rfl) ?_)
 cbv
 (refine dP [1,2] trv rfl rfl (V5 ht eW (by ((try simp only [ah] at*);omega)) _ _ _ _ _ _ _ _ _ _ _ _ hm (r:=r) (by rw [hr,hL]) hkr hl0) (cK ?_))
 cbv
 (refine dP [2] trv rfl rfl Yx (cK ?_))
 cbv
 refine ⟨?_,?_⟩
 ·(simp [ht];omega)
 cbv
 obtain ⟨J1,pE⟩:∃J1:Nat→List (List D)×Int→Prop,∀n u i,J1 n (u,i)↔(∃q:Nat,i=q∧q+n=k∧u=((S.take q).map (·.id)).map Int.cells):=⟨fun n v=>match v with|(u,i)=>(∃q:Nat,i=q∧q+n=k∧u=((S.take q).map (·.id)).map Int.cells),fun _ _ _=>Iff.rfl⟩
 refine bH ⟨[8,26,27,28],[(8,1)],[]⟩ (σ:=List (List D)×Int) (fun v=>[(8,.ow 0 1 (t _ fun _=>(v.1).length)),(28,.d (.int .i64 (t _ fun _=>v.2)))]) (fun v=>[(0,.row 1 (t _ fun _=>v.1))]) J1 ?_
 cbv
 refine aH ⟨k,([],_),(pE _ _ _).2 ?_,by simp only [ht];rfl,?_⟩
 ·exact ⟨0,rfl,by simp,rfl⟩
 rintro n ⟨u,i⟩ hj
 replace hj:=(pE _ _ _).1 hj
 obtain ⟨q,rfl,j1,j4⟩:=hj
 cbv
 refine av (fun h2=>?_) (fun h2=>?_)
 ·simp [ht,ah] at h2
  cbv
  refine ⟨?_,?_⟩
  ·(simp only [ht,ah] at*;omega)
  cbv
  (refine Yw (l:=S) (cells:=Jb.cells) rfl (Jb.aZ t) (fun _=>by simp only [Jb.cells,Jb.aZ,ht]) q (by ((try simp only [ah] at*);omega)) (by simp only [ht,ah,Int.toNat_natCast]) (fun h=>by simp only [ht,ah,Int.toNat_natCast];exact h) (fun x mx=>?_))
  cbv
  refine ⟨?_,?_⟩
  ·(have h9:=XO (l:=(S.take q).map (·.id)) (cells:=Int.cells) (u:=u) (row:=[D.int .u64 x.id]) (sz:=1) (b:=8) j4 (fun _=>rfl) rfl (by simp;((try simp only [ah] at*);omega)) (by decide);simp only [ht];exact ⟨trv,h9.2⟩)
  cbv
  refine cz (_,_) (by simp only [ht,←List.length_append];rfl) (n-1) ?_ ((pE _ _ _).2 ?_)
  ·omega
  simp only [ah]
  exact ⟨q+1,aG (by ((try simp only [ah] at*);omega)),by ((try simp only [ah] at*);omega),by rw [j4,dV mx];simp [Int.cells]⟩
 simp [ht,ah] at h2
 cbv
 refine az trv (by simp [ht]) rfl rfl rfl ?_
 (rw [List.take_of_length_le (by ((try simp only [ah] at*);omega))] at j4;simp only [ht,hSe ‹_›,j4];done)
theorem V6 (ht:TT t) (rd nx ef af:Int) {nl:List Node} {pl:List Place} {tl:List bg} {jl:List Jb} {ql:List cu} {el al:List ek} {ns ps ts js qs es bW:List (List D)} (fF:ns=nl.map Node.cells) (hps:ps=pl.map Place.cells) (hts:ts=tl.map bg.cells) (eW:js=jl.map Jb.cells) (eM:qs=ql.map cu.cells) (aE:es=el.map ek.cells) (has:bW=al.map ek.cells) (id:Int) {ids:List Int} {ir:List (List D)} (Yh:ir=ids.map Int.cells) (hil:ids.length<1000000) (hg:∀k,(aI ⟨rd,nx,⟨nl,pl⟩,tl,jl,ql,⟨ef,el⟩,⟨af,al⟩⟩ (ids.take k)).sm):
 FC 52 [SL ir,.ptr 0 0,.ptr 1 0] [.var [aC rd,aC nx,SL ns,SL ps,SL ts,SL js,SL qs,aC ef,SL es,aC af,SL bW],.var [aC id]] (.ret (Cf t (t _ fun _=>fQ ⟨rd,nx,⟨nl,pl⟩,tl,jl,ql,⟨ef,el⟩,⟨af,al⟩⟩ id ids))) [.var [aC rd,aC nx,SL ns,SL ps,SL ts,SL js,SL qs,aC ef,SL es,aC af,SL bW],.var [aC id]]:=by
 have wM:(aI ⟨rd,nx,⟨nl,pl⟩,tl,jl,ql,⟨ef,el⟩,⟨af,al⟩⟩ ids).sm:=by have:=hg ids.length;rwa [List.take_length] at this
 obtain ⟨w,hw⟩:∃w,w=aI ⟨rd,nx,⟨nl,pl⟩,tl,jl,ql,⟨ef,el⟩,⟨af,al⟩⟩ ids:=⟨_,rfl⟩
 have he:fQ ⟨rd,nx,⟨nl,pl⟩,tl,jl,ql,⟨ef,el⟩,⟨af,al⟩⟩ id ids=gj w id:=by rw [hw];rfl
 rw [he]
 have hW:=Km ht rd nx ef af fF hps hts eW eM aE has Yh hil hg
 rw [←hw] at hW wM
 refine bP ht (aQ:=[.var [aC rd,aC nx,SL ns,SL ps,SL ts,SL js,SL qs,aC ef,SL es,aC af,SL bW],.var [aC id]]) Tryz.func52 rfl rfl (N:=13) rfl rfl (n:=2) rfl rfl ?_
 cbv
 have bJ:ns.length=nl.length:=by rw [fF,lgM]
 have bQ:ps.length=pl.length:=by rw [hps,lgM]
 have bK:ts.length=tl.length:=by rw [hts,lgM]
 have bT:js.length=jl.length:=by rw [eW,lgM]
 have bq:qs.length=ql.length:=by rw [eM,lgM]
 have aD:es.length=el.length:=by rw [aE,lgM]
 have bD:bW.length=al.length:=by rw [has,lgM]
 have Kn:ir.length=ids.length:=by rw [Yh,lgM]
 refine dO [false,false,false,false,true,false,false,true,true] (by kernel_rfl) (by kernel_rfl) ?_
 cbv
 iterate 2 refine gI (by simp [ht,aj]) ?_
 refine .inl ?_
 (refine nB (fun g=>⟨by simp [ht],trv,hW⟩) rfl rfl rfl ?_)
 cbv
 refine gI (by simp [ht,aj]) ?_
 refine aF trv (Tl ht _ _ _ _ (kP ht rfl) (kP ht rfl) (kP ht rfl) (kP ht rfl) (kP ht rfl) (kP ht rfl) (kP ht rfl) (by (simp only [ht];((try simp only [ah] at*);omega))) _) trv rfl rfl rfl (fun r0 dj=>?_)
 simp only [ht] at dj
 cbv
 iterate 2 refine gI (by simp [ht,aj]) ?_
 refine az trv trv rfl rfl rfl ?_
 (simp [ht,Cf,dM, *];done)
theorem Rf (ht:TT t) {es:List (List D)} (aE:∀r∈es,r.length=1) (hs:es.length*8≤140737488355328) {m:Nat} (hm:m=es.length):
 FC 54 [SL es] [] (.ret (.ow 0 1 m)) [.row 1 es]:=by
 refine bP ht (aQ:=[]) Tryz.func54 rfl rfl (N:=8) rfl rfl (n:=0) rfl rfl ?_
 cbv
 refine ⟨fun b hb=>?_⟩
 simp only [ht] at hb
 cbv
 refine av (fun h=>?_) (fun h=>?_)
 ·have he:=hb h
  subst he
  cbv
  exact GK trv rfl rfl (by rw [hm];rfl) rfl
 clear hb h
 cbv
 refine ⟨?_,?_⟩
 ·simp only [ht];simp;exact ⟨hs,aE⟩
 refine B5 trv rfl rfl rfl rfl ?_ ?_
 ·simp only [ht];rw [hm];simp
 simp only [ht];rfl
theorem NZ (ht:TT t) {es:List (List D)} (aE:∀r∈es,r.length=1) (hs:es.length*8≤140737488355328):
 FC 54 [SL es] [] (.ret (SL es)) []:=by
 refine bP ht (aQ:=[]) Tryz.func54 rfl rfl (N:=8) rfl rfl (n:=0) rfl rfl ?_
 cbv
 refine ⟨fun b hb=>?_⟩
 simp only [ht] at hb
 cbv
 refine av (fun h=>?_) (fun h=>?_)
 ·have he:=hb h
  subst he
  cbv
  exact az trv trv rfl rfl rfl rfl
 clear hb h
 cbv
 refine ⟨?_,?_⟩
 ·simp only [ht];simp;exact ⟨hs,aE⟩
 refine az trv ?_ rfl rfl rfl ?_
 ·simp only [ht];simp
 simp only [ht];rfl
theorem KI (ht:TT t) {es:List (List D)} {i m c:Nat} (hm:m=es.length) (hi:i<m) (hc:m≤c) (aE:∀r∈es,r.length=1) (hs:m<1000000) {r:List (List D)} (hr:r=es.take i++es.drop (i+1)):
 FC 55 [.vw 0 1 0 m c true,bG (i:Int),bG ((i+1:Nat):Int)] [.row 1 es] (.ret (SL r)) [.dead]:=by
 obtain ⟨i1,hi1⟩:∃i1,i1=i+1:=⟨_,rfl⟩
 rw [←hi1] at hr ⊢
 refine bP ht (aQ:=[.row 1 es]) Tryz.func55 rfl rfl (N:=33) rfl rfl (n:=1) rfl rfl ?_
 cbv
 obtain ⟨mi,xP⟩:∃n,n=m-i:=⟨_,rfl⟩
 obtain ⟨Ti,VK⟩:∃n,n=m-i1:=⟨_,rfl⟩
 obtain ⟨wL,JK⟩:∃n,n=c-i1:=⟨_,rfl⟩
 refine bL (.vw 0 1 i 1 mi true) [.row 1 es] ?_ ?_ rfl ?_
 ·simp [ht,ah,bS];omega
 ·simp [ht,ah,aW,xP,hi1]
 cbv
 refine pp (by simp [ht,hi1];omega) ?_
 cbv
 refine dO [false,false,false,false,false,false,true,true] (by kernel_rfl) (by kernel_rfl) ?_
 cbv
 refine gI (by simp [ht]) (gI (by simp [ht]) ?_)
 refine iq (.vw 0 1 0 i c true) (fun _=>⟨?_,?_⟩) ?_
 ·simp [ht,ah,dS,bS];omega
 ·simp [ht,ah,aW,aS]
 cbv
 refine gI (by simp [ht]) (gI (by simp [ht]) ?_)
 refine iq (.vw 0 1 i1 Ti wL true) (fun _=>⟨?_,?_⟩) ?_
 ·simp [ht,ah,dS,bS];omega
 ·simp [ht,ah,aW,aS,VK,JK]
 cbv
 obtain ⟨m1,YT⟩:∃n,n=m-1:=⟨_,rfl⟩
 obtain ⟨cm1,VL⟩:∃n,n=c-m1:=⟨_,rfl⟩
 obtain ⟨R1,QB⟩:∃R,R=wrote es i (es.drop i1):=⟨_,rfl⟩
 have tk:(es.drop i1).take Ti=es.drop i1:=List.take_of_length_le (by rw [List.length_drop];omega)
 have dl:(es.drop i1).length=Ti:=by rw [List.length_drop];omega
 have wR:R1.length=m:=by rw [QB];simp [wrote];omega
 have VM:R1.take m1=r:=by
  rw [QB,hr]
  unfold wrote
  rw [List.take_append_of_le_length (by simp;omega),List.take_of_length_le (by simp;omega)]
 refine bL (.vw 0 1 0 m1 c true) [.row 1 R1,.bw] ?_ ?_ ?_ ?_
 ·simp only [ht,tk,dl,eP,Nat.zero_add]
  exact ⟨by omega,⟨by omega,fun h=>by rw [h] at hm;simp at hm;omega⟩,by omega,fun r h=>aE r (List.mem_of_mem_drop h)⟩
 ·simp only [ht,tk,dl];rw [show i+Ti=m1 by omega]
 ·simp only [ht,tk,Nat.zero_add,QB]
 cbv
 refine bL (.vw 0 1 m1 1 cm1 true) [.row 1 R1,.bw] ?_ ?_ rfl ?_
 ·simp [ht,ah,dS,bS];omega
 ·simp [ht,ah,aW,aS,VL];omega
 cbv
 obtain ⟨R2,QC⟩:∃R,R=wrote R1 m1 (List.replicate 1 [D.int IntKind.u64 0]):=⟨_,rfl⟩
 have Yd:R2.length=m:=by rw [QC];simp [wrote,wR];omega
 have VN:R2.take m1=r:=by
  rw [←VM,QC]
  unfold wrote
  rw [List.append_assoc,List.take_append_of_le_length (by simp [wR];omega),List.take_take,Nat.min_self]
 refine bL (.eA []) [.row 1 R2,.bw] ?_ rfl ?_ ?_
 ·simp only [ht,eP];exact ⟨by omega,fun h=>by rw [h] at wR;simp at wR;omega⟩
 ·simp only [ht,QC]
 cbv
 refine yM [true] trv ?_ rfl rfl rfl ?_
 ·simp only [ht];omega
 simp only [ht,List.drop_zero,VN]
end Dem
end
