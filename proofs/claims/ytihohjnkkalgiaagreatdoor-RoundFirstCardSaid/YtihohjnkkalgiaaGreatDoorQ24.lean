/- Parts of a proof, joined. -/
import Derived.Test.YtihohjnkkalgiaaGreatDoorQ23
import Derived.Sort.LotA
set_option linter.all false
set_option maxRecDepth 100000
set_option maxHeartbeats 4000000
section
open Go
namespace Dem
theorem wL (k:Nat) (p:aQ):∀l:List Jb,(∀j∈l,j.runs=false)→gQ k p l=0
 |[],_=>rfl
 |j::r,h=>by
  rw [gv,wL k p r fun x hx=>h x (by simp [hx])]
  unfold fO;rw [if_neg (by rw [h j (by simp)];simp)]
theorem jK.bare {s t:bg} {l:List Int} (h:s.ok) (g:jK s l t) (hl:∀j∈s.av,j.runs=true→j.id∈l):t.bf=⟨s.bf.nodes,[]⟩∧t.tree=nX s.tree:=by
 have hr:∀j∈t.av,j.runs=false:=by
  rw [g.av]
  intro x hx
  obtain ⟨j,hj,rfl⟩:=List.mem_map.1 hx
  cases e:(cA l j).runs with
  |false=>rfl
  |true=>rw [fw] at e;exact absurd (hl j hj e.1) e.2
 constructor
 ·have h1:=g.nodes
  have h2:t.bf.places=[]:=by
   rw [g.places,List.filter_eq_nil_iff]
   intro x hx
   obtain ⟨j,hj,hr,he,_⟩:=h.places x hx
   simp only [Bool.not_eq_true',decide_eq_false_iff_not,Classical.not_not]
   rw [←he];exact hl j hj hr
  cases hp:t.bf with
  |mk a b=>rw [hp] at h1 h2;simp only at h1 h2;rw [h1,h2]
 refine List.ext_getElem? fun i=>?_
 unfold nX
 rw [List.getElem?_map]
 cases hi:s.tree[i]? with
 |none=>rw [List.getElem?_eq_none_iff] at hi;rw [List.getElem?_eq_none_iff.2 (by rw [g.tree.len];exact hi)];rfl
 |some e=>
  obtain ⟨x,h1,h2,h3⟩:=g.tree.at_ i e hi
  rw [h1,Option.map_some]
  have hx:=List.mem_of_getElem? h1
  have hu:x.used=bO.zero:=Px (g.ok.tree.w x hx).2 wh fun k hk=>by rw [g.ok.used x hx k hk,wL k _ _ hr,mU]
  cases x;cases e;simp_all
theorem NE {s t:bg} {l:List Int} (h:s.ok) (g:jK s l t) (hl:∀j∈s.av,j.runs=true→j.id∈l) {i:Nat} {j:Jb} (hj:s.av[i]?=some j) (hr:j.runs=false):de s j.id=true↔Room t j:=by
 obtain ⟨_,_,h1⟩:=fq h.ids hj
 have h2:=(dh.1 (h.pe j (List.mem_of_getElem? hj)).1).2.2.2.2.2
 obtain ⟨b1,b2⟩:=g.bare h hl
 unfold de ic eR qy
 rw [h1]
 unfold Room
 rw [b1,b2]
 simp only [hr,h2,Bool.not_false,Bool.and_true,Bool.not_true,Bool.false_or]
 cases h3:(fit (eP ⟨s.bf.nodes,[]⟩) j.x.ct j.x.gu j.x.count).2<;>by_cases h4:(cY (nX s.tree) j.x.path (cU j.x).1).2=0<;>simp [h4]
theorem QT {s:bg} (h:s.ok) {i:Nat} {j:Jb} (hj:s.av[i]?=some j) (hr:j.runs=false) {l:List Int} (e:(fW s j.id l).2=true):de s j.id=true:=by
 have g:=dw h (s.av.map (·.id))
 rw [NE h g (fun x hx _=>List.mem_map_of_mem hx) hj hr]
 have g1:=dw h l
 have hc:=h.pe j (List.mem_of_getElem? hj)
 have g2:=dw h (l++s.av.map (·.id))
 have r:=HL h hj hr (m:=l++s.av.map (·.id)) (fun x hx=>by simp [hx]) e
 unfold fW at r
 rw [g2.fits hj hr] at r
 refine Room.mono g2.ok g.ok ?_ hc.1 hc.2.1 r
 have b:=g.bare h (fun x hx _=>List.mem_map_of_mem hx)
 have b2:=g2.bare h (fun x hx _=>by simp [List.mem_map_of_mem (f:=fun j:Jb=>j.id) hx])
 refine ⟨by rw [b.1,b2.1],fun n k hk=>by rw [b.1,b2.1];exact Nat.le_refl _,by rw [b.2,b2.2];exact cg.refl _,fun p k hk=>?_⟩
 have:∀{L:List Int} {t:bg},jK s L t→(∀x∈s.av,x.runs=true→x.id∈L)→gQ k p t.av=0:=by
  intro L t g hl
  refine wL k p _ ?_
  rw [g.av]
  intro x hx
  obtain ⟨j,hj,rfl⟩:=List.mem_map.1 hx
  cases e:(cA L j).runs with
  |false=>rfl
  |true=>rw [fw] at e;exact absurd (hl j hj e.1) e.2
 rw [this g (fun x hx _=>List.mem_map_of_mem hx)];exact Nat.zero_le _
theorem Kg {s:bg} (h:s.ok) {id:Int} (hw:(∃j∈s.av,j.id=id∧j.runs=false)∨∀j∈s.av,j.id≠id):
 (aC s id).2.2=((fW s id (cq s id)).2||(gi s id).2)∧((gi s id).2=true→(aC s id).1=[])∧((aC s id).2.2=true→de s id=true):=by
 have hm:=HM h hw
 have h0:(gi s id).2=true→(fW s id (cq s id)).2=true:=fun e=>hm [] _ (fun x hx=>by cases hx) e
 rcases sA hm with ⟨h1,h2,_,h4⟩|⟨h1,h2,_,_,h5,h6,_⟩
 ·refine ⟨?_,fun _=>h2,fun e=>by rw [h1] at e;cases e⟩
  rw [h1,h4]
  cases e:(gi s id).2 with
  |false=>rfl
  |true=>rw [h0 e] at h4;cases h4
 refine ⟨by rw [h1,h5];rfl,h6,fun _=>?_⟩
 rcases hw with ⟨j,hj,rfl,hr⟩|hn
 ·obtain ⟨i,hi⟩:=List.getElem?_of_mem hj
  exact QT h hi hr (by rw [h2])
 rw [EH h hn] at h5;cases h5
def jL (s:bg) (p:Int):List Jb:=(s.av.filter fun o=>o.runs&&decide (o.x.prio<p)).mergeSort fo
theorem NF {s:bg} {id:Int} {j:Jb} (h:bI s.av id=(j,true)):cq s id=(jL s j.x.prio).map (·.id):=by
 unfold cq jL;rw [h];rfl
theorem Bg {s:bg} {p:Int} {o:Jb}:o∈jL s p↔o∈s.av∧o.runs=true∧o.x.prio<p:=by
 unfold jL
 rw [(List.mergeSort_perm _ _).mem_iff,List.mem_filter]
 simp
theorem Kh (s:bg) (p:Int):(jL s p).length=(s.av.filter fun o=>o.runs&&decide (o.x.prio<p)).length:=(List.mergeSort_perm _ _).length_eq
theorem Ki {s:bg} (h:s.ok) (p:Int):(jL s p).Pairwise fun a b=>a.x.prio<b.x.prio∨(a.x.prio=b.x.prio∧b.id<a.id):=by
 have h1:(jL s p).Pairwise fun a b=>fo a b=true:=by
  refine List.pairwise_mergeSort ?_ ?_ _
  ·intro a b c;simp only [fo,Bool.or_eq_true,Bool.and_eq_true,decide_eq_true_eq];omega
  intro a b;simp only [fo,Bool.or_eq_true,Bool.and_eq_true,decide_eq_true_eq];omega
 have h2:(jL s p).Pairwise fun a b=>a.id≠b.id:=by
  have:(s.av.filter fun o=>o.runs&&decide (o.x.prio<p)).Pairwise fun a b=>a.id≠b.id:=(h.ids.filter _).imp fun {a b} g=>by omega
  exact (List.mergeSort_perm _ _).symm.pairwise this fun {a b} g=>Ne.symm g
 refine (h1.and h2).imp fun {a b} g=>?_
 obtain ⟨g1,g2⟩:=g
 simp only [fo,Bool.or_eq_true,Bool.and_eq_true,decide_eq_true_eq] at g1
 omega
theorem NG {s:bg} (h:s.ok) {p:Int} {i:Nat} {a b:Jb} (ha:(jL s p)[i]?=some a) (hb:(jL s p)[i+1]?=some b):a.x.prio<b.x.prio∨(a.x.prio=b.x.prio∧b.id<a.id):=by
 obtain ⟨h1,rfl⟩:=List.getElem?_eq_some_iff.1 ha
 obtain ⟨h2,rfl⟩:=List.getElem?_eq_some_iff.1 hb
 exact List.pairwise_iff_getElem.1 (Ki h p) i (i+1) h1 h2 (by omega)
theorem qK {s:bg} (h:s.ok) {id:Int} {j:Jb} (hj:bI s.av id=(j,true)):
 (cq s id).length=(s.av.filter fun o=>o.runs&&decide (o.x.prio<j.x.prio)).length∧
 (∀(i:Nat) (x:Int),(cq s id)[i]?=some x→∃o∈s.av,o.id=x∧bI s.av x=(o,true)∧o.runs=true∧o.x.prio<j.x.prio)∧
 ∀(i:Nat) (x y:Int),(cq s id)[i]?=some x→(cq s id)[i+1]?=some y→
  (bI s.av x).1.x.prio<(bI s.av y).1.x.prio∨((bI s.av x).1.x.prio=(bI s.av y).1.x.prio∧(bI s.av y).1.id<(bI s.av x).1.id):=by
 rw [NF hj]
 have hf:∀o∈jL s j.x.prio,bI s.av o.id=(o,true):=fun o ho=>by
  obtain ⟨i,hi⟩:=List.getElem?_of_mem (Bg.1 ho).1
  exact (fq h.ids hi).2.2
 refine ⟨by rw [lgM,Kh],fun i x hx=>?_,fun i x y hx hy=>?_⟩
 ·rw [List.getElem?_map] at hx
  cases e:(jL s j.x.prio)[i]? with
  |none=>rw [e] at hx;cases hx
  |some o=>
   rw [e] at hx
   simp only [Option.map_some,osI] at hx
   have ho:=List.mem_of_getElem? e
   obtain ⟨g1,g2,g3⟩:=Bg.1 ho
   exact ⟨o,g1,hx,by rw [←hx];exact hf o ho,g2,g3⟩
 rw [List.getElem?_map] at hx hy
 cases e:(jL s j.x.prio)[i]? with
 |none=>rw [e] at hx;cases hx
 |some a=>
  cases f:(jL s j.x.prio)[i+1]? with
  |none=>rw [f] at hy;cases hy
  |some b=>
   rw [e] at hx;rw [f] at hy
   simp only [Option.map_some,osI] at hx hy
   subst hx;subst hy
   rw [hf a (List.mem_of_getElem? e),hf b (List.mem_of_getElem? f)]
   exact NG h e f
theorem mZ {s:bg} (h:s.ok) {id:Int} (hw:(∃j∈s.av,j.id=id∧j.runs=false)∨∀j∈s.av,j.id≠id):
 ((aC s id).2.2=false→(aC s id).1=[]∧(aC s id).2.1=[])∧
 ((
  aC s id).2.2=true→gi (aI s (aC s id).1) id=((aC s id).2.1,true)∧(∀x∈(aC s id).1,x∈cq s id)∧
  ∀i<(aC s id).1.length,(gi (aI s ((aC s id).1.eraseIdx i)) id).2=false):=by
 rcases sA (HM h hw) with ⟨h1,h2,h3,_⟩|⟨h1,h2,h3,_,_,_,h7⟩
 ·exact ⟨fun _=>⟨h2,h3⟩,fun e=>(show False by rw [h1] at e;exact Bool.noConfusion e).elim⟩
 exact ⟨fun e=>(show False by rw [h1] at e;exact Bool.noConfusion e).elim,fun _=>⟨h2,h3,h7⟩⟩
theorem Bh {name:aQ} {l:List Node} {ps:List Place} (h:(cE name l ps).2=true) (x:Place):
 cE name l (ps++[x])=if (cI name (cE name l ps) x).2 then cI name (cE name l ps) x else (bO.zero,false):=by
 unfold cE at h ⊢
 simp only at h ⊢
 rw [List.foldl_append]
 split at h
 ·rename_i g;rw [if_pos g];rfl
 cases h
theorem HN {name:aQ} {l:List Node} {ps:List Place} (h:(cE name l ps).2=true) {x:Place} (hx:x.node≠name):cE name l (ps++[x])=cE name l ps:=by
 rw [Bh h]
 have:cI name (cE name l ps) x=cE name l ps:=by unfold cI;rw [if_neg (by simp [hx])]
 rw [this,if_pos h]
theorem Kj {name:aQ} {l:List Node} {ps:List Place} (h:(cE name l ps).2=true) {bK:Int} {v:bO} (hv:(dV (cE name l ps).1 v).2=true):cE name l (ps++[⟨bK,name,v⟩])=dV (cE name l ps).1 v:=by
 rw [Bh h]
 have:cI name (cE name l ps) ⟨bK,name,v⟩=dV (cE name l ps).1 v:=by unfold cI;rw [if_pos (by simp [h])]
 rw [this,if_pos hv]
theorem HO {l:List Node} {v:bO} (hv:v.w) (bK:Int) (F:Node→Bool):∀(n:Nat) (ps:List Place) (out:List aQ),cC.ok ⟨l,ps⟩→cC.w ⟨l,ps⟩→
 (nN v n (((l.filter (·.up)).filter F).map (iQ ⟨l,ps⟩)) out).2=true→
 ∃new,(nN v n (((l.filter (·.up)).filter F).map (iQ ⟨l,ps⟩)) out).1=out++new∧new.length=n∧(fD l bK v new ps).1=none
 |0,ps,out,_,_,_=>⟨[],by simp [nN],rfl,rfl⟩
 |n+1,ps,out,h,hw,e=>by
  have hN:∀m∈(l.filter (·.up)).filter F,m∈l∧m.up=true:=fun m hm=>List.mem_filter.1 (List.mem_filter.1 hm).1
  have hLw:∀s∈((l.filter (·.up)).filter F).map (iQ ⟨l,ps⟩),s.free.w:=by
   intro s hs
   obtain ⟨m,hm,rfl⟩:=List.mem_map.1 hs
   exact QN h hw (hN m hm).1
  simp only [nN] at e ⊢
  cases hb:(best (((l.filter (·.up)).filter F).map (iQ ⟨l,ps⟩)) v).ok with
  |false=>rw [hb] at e;exact (show False from Bool.noConfusion e).elim
  |true=>
   rw [hb] at e
   obtain ⟨s,h1,h2,h3⟩:=HI hv hLw hb
   rw [show (!true)=false from rfl,if_neg (by decide)] at e ⊢
   generalize (best (((l.filter (·.up)).filter F).map (iQ ⟨l,ps⟩)) v).at_=i at h1 e ⊢
   generalize (best (((l.filter (·.up)).filter F).map (iQ ⟨l,ps⟩)) v).left=u at h3 e ⊢
   subst h3
   have hd:(((l.filter (·.up)).filter F).map (iQ ⟨l,ps⟩)).getD i default=s:=by rw [List.getD_eq_getElem?_getD,h1];rfl
   rw [hd] at e ⊢
   rw [List.getElem?_map] at h1
   cases hi:((l.filter (·.up)).filter F)[i]? with
   |none=>rw [hi] at h1;cases h1
   |some m=>
    rw [hi] at h1
    simp only [Option.map_some,osI] at h1
    subst h1
    have hm:=hN m (List.mem_of_getElem? hi)
    have hf:=h.free m hm.1
    have X7:=(h.xM.filter (·.up)).filter F
    have PX:(((l.filter (·.up)).filter F).map (iQ ⟨l,ps⟩)).set i {iQ ⟨l,ps⟩ m with free:=(dV (iQ ⟨l,ps⟩ m).free v).1}=((l.filter (·.up)).filter F).map (iQ ⟨l,ps++[⟨bK,m.name,v⟩]⟩):=by
     refine List.ext_getElem? fun k=>?_
     rw [List.getElem?_set,List.getElem?_map,List.getElem?_map,lgM]
     by_cases c:i=k
     ·subst c
      rw [if_pos rfl,if_pos (List.getElem?_eq_some_iff.1 hi).1,hi]
      simp only [Option.map_some,iQ]
      rw [Kj hf h2]
     rw [if_neg c]
     cases hk:((l.filter (·.up)).filter F)[k]? with
     |none=>rfl
     |some m'=>
      have hne:m.name≠m'.name:=by
       intro g
       obtain ⟨a1,a2⟩:=List.getElem?_eq_some_iff.1 hi
       obtain ⟨b1,b2⟩:=List.getElem?_eq_some_iff.1 hk
       rcases Nat.lt_or_gt_of_ne c with d|d
       ·have:=List.pairwise_iff_getElem.1 X7 i k a1 b1 d
        rw [a2,b2,g] at this;exact absurd this (List.lt_irrefl _)
       have:=List.pairwise_iff_getElem.1 X7 k i b1 a1 d
       rw [a2,b2,g] at this;exact absurd this (List.lt_irrefl _)
      simp only [Option.map_some,iQ]
      rw [HN (h.free m' (hN m' (List.mem_of_getElem? hk)).1) (x:=⟨bK,m.name,v⟩) hne]
    rw [PX] at e ⊢
    have YF:mQ m.name v l ps=0:=by
     unfold mQ
     rw [CH h.xM hm.1,hf]
     simp only [hm.2,Bool.not_true,Bool.false_or,Bool.false_eq_true,if_false]
     rw [show kU v (cE m.name l ps).1=true from h2]
     rfl
    obtain ⟨k1,k2⟩:=Ld h hw hv bK YF
    obtain ⟨new,g1,g2,g3⟩:=HO hv bK F n _ _ k1 k2 e
    refine ⟨m.name::new,by rw [g1];simp [iQ],by simp [g2],?_⟩
    unfold fD
    rw [if_neg (by simp [YF])]
    exact g3
theorem Bk {s:bg} (h:s.ok) {i:Nat} {j:Jb} (hj:s.av[i]?=some j) (hr:j.runs=false) {nodes:List aQ} (e:gi s j.id=(nodes,true)):(bZ s j.id nodes).2=0:=by
 have hroom:=(Dc h hj hr).1 (by rw [e])
 obtain ⟨r1,r2⟩:=hroom
 have hm:=List.mem_of_getElem? hj
 have hc:=h.pe j hm
 have hz:=dh.1 hc.1
 have Ux:=hz.2.1
 obtain ⟨k1,k2,k3⟩:=fq h.ids hj
 have hfit:nodes=(fit (eP s.bf) j.x.ct j.x.gu j.x.count).1:=by
  have:(gi s j.id).1=(fit (eP s.bf) j.x.ct j.x.gu j.x.count).1:=by
   unfold gi ic eR
   rw [k3]
   simp only [hr,hz.2.2.2.2.2,r1,Bool.not_false,Bool.and_true,Bool.not_true,Bool.false_or]
   rw [show (cY s.tree j.x.path (cU j.x).1).2=0 from r2]
   rfl
  rw [e] at this;exact this
 have hf:(fit (eP s.bf) j.x.ct j.x.gu j.x.count)=nN j.x.gu j.x.count.toNat (((s.bf.nodes.filter (·.up)).filter fun n=>ng j.x.ct n.labels).map (iQ s.bf)) []:=by
  unfold fit
  rw [if_neg (by omega),mY h.bf,show max j.x.count 0=j.x.count by omega]
 rw [hf] at r1 hfit
 obtain ⟨new,g1,g2,g3⟩:=HO hc.2.1 j.id (fun n=>ng j.x.ct n.labels) _ s.bf.places [] h.bf h.gR r1
 have hn:nodes=new:=by rw [hfit];exact g1
 subst hn
 unfold bZ
 rw [k1]
 simp only
 rw [k2]
 unfold jF
 rw [hr,if_neg (by decide),if_neg (by rw [g2];omega),hz.2.2.2.2.2,if_neg (by decide),if_neg (by simp [show (cY s.tree j.x.path (cU j.x).1).2=0 from r2])]
 have hp:(sZ s.bf j.id nodes j.x.gu).2=0:=by
  unfold sZ
  rw [g3]
 rw [if_neg (by simp [hp])]
theorem EI {s:bg} (h:s.ok) {id:Int} (hw:(∃j∈s.av,j.id=id∧j.runs=false)∨∀j∈s.av,j.id≠id):
 ((gi s id).2=true→(bZ s id (gi s id).1).2=0∧yS (bZ s id (gi s id).1).1=true)∧
 ((aC s id).2.2=false→(gi s id).2=false)∧
 ((
  aC s id).2.2=true→(bZ (aI s (aC s id).1) id (aC s id).2.1).2=0∧yS (bZ (aI s (aC s id).1) id (aC s id).2.1).1=true∧
  (bI (bZ (aI s (aC s id).1) id (aC s id).2.1).1.av id).2=true∧(bI (bZ (aI s (aC s id).1) id (aC s id).2.1).1.av id).1.runs=true):=by
 have hs:=Kg h hw
 rcases hw with ⟨j,hj,rfl,hr⟩|hn
 ·obtain ⟨i,hi⟩:=List.getElem?_of_mem hj
  refine ⟨fun e=>⟨Bk h hi hr (by rw [←e]),(h.wm _ _).right⟩,fun e=>?_,fun e=>?_⟩
  ·rw [e] at hs
   cases c:(gi s j.id).2 with
   |false=>rfl
   |true=>rw [c] at hs;exact (show False by have:=hs.1;simp at this).elim
  have hq:=(mZ h (.inl ⟨j,hj,rfl,hr⟩)).2 e
  have g:=dw h (aC s j.id).1
  have hi2:(aI s (aC s j.id).1).av[i]?=some j:=by
   rw [g.av,List.getElem?_map,hi];simp [cA,hr]
  have hz:=Bk g.ok hi2 hr hq.1
  refine ⟨hz,(g.ok.wm _ _).right,?_⟩
  obtain ⟨i3,j3,T,b1,b2,b3,_,_,b6⟩:=rK g.ok hz
  have hok:=g.ok.wm j.id (aC s j.id).2.1
  rw [b6] at hok ⊢
  have hi4:(iI ⟨(aI s (aC s j.id).1).round,(aI s (aC s j.id).1).next,⟨(aI s (aC s j.id).1).bf.nodes,(aI s (aC s j.id).1).bf.places++(aC s j.id).2.1.map (fun n=>⟨j.id,n,j3.x.gu⟩)⟩,T,(aI s (aC s j.id).1).av.set i3 j3.begun,(aI s (aC s j.id).1).queue.filter (fun q=>!decide (q.id=j.id)),(aI s (aC s j.id).1).ev,(aI s (aC s j.id).1).au⟩ j.id 2).av[i3]?=some j3.begun:=by
   show ((aI s (aC s j.id).1).av.set i3 j3.begun)[i3]?=_
   rw [List.getElem?_set,if_pos rfl,if_pos (List.getElem?_eq_some_iff.1 b1).1]
  have:=(fq hok.ids hi4).2.2
  rw [show j3.begun.id=j.id from b2] at this
  rw [this]
  exact ⟨rfl,rfl⟩
 have e1:gi s id=([],false):=EH h hn []
 refine ⟨fun e=>by rw [e1] at e;exact (show False from Bool.noConfusion e).elim,fun _=>by rw [e1],fun e=>?_⟩
 rw [e1,EH h hn] at hs
 have:=hs.1
 rw [e] at this
 exact (show False from Bool.noConfusion this).elim
end Dem
end
section
open Go Go.Sort
namespace Dem
def wM (a b:Jb):Bool:=decide (a.x.prio<b.x.prio)||(decide (a.x.prio=b.x.prio)&&decide (b.id<a.id))
theorem LR:SWO wM:=by
 refine ⟨?_,?_,?_⟩<;>simp only [wM]<;>simp<;>omega
theorem Df (L:List Jb):(Sort.insertionSort wM L.toArray 0 L.length).toList.Perm L:=by
 obtain ⟨⟨h0,h1,h2⟩,h3⟩:=insertionSort_holds (lt:=wM) LR L.toArray 0 L.length (Nat.zero_le _) (by simp)
 have hs:(Sort.insertionSort wM L.toArray 0 L.length).size=L.length:=by rw [h0];simp
 have e1:(Sort.insertionSort wM L.toArray 0 L.length).extract 0 L.length=Sort.insertionSort wM L.toArray 0 L.length:=by
  apply Array.extract_eq_self_of_le;omega
 have e2:L.toArray.extract 0 L.length=L.toArray:=by apply Array.extract_eq_self_of_le;simp
 rw [e1,e2] at h2
 simpa using h2
theorem Kk {L:List Jb} (hd:L.Pairwise fun a b=>a.id<b.id):(Sort.insertionSort wM L.toArray 0 L.length).toList=L.mergeSort fo:=by
 obtain ⟨⟨h0,h1,h2⟩,h3⟩:=insertionSort_holds (lt:=wM) LR L.toArray 0 L.length (Nat.zero_le _) (by simp)
 have hp:=Df L
 have h4:(L.mergeSort fo).Pairwise fun a b=>fo a b=true:=by
  refine List.pairwise_mergeSort ?_ ?_ _
  ·intro a b c;simp only [fo,Bool.or_eq_true,Bool.and_eq_true,decide_eq_true_eq];omega
  intro a b;simp only [fo,Bool.or_eq_true,Bool.and_eq_true,decide_eq_true_eq];omega
 refine (hp.trans (List.mergeSort_perm L fo).symm).eq_of_pairwise (le:=fun a b=>fo a b=true) ?_ ?_ h4
 ·intro a b ha hb g1 g2
  have ma:a∈L:=hp.mem_iff.1 ha
  have mb:b∈L:=(List.mergeSort_perm L fo).mem_iff.1 hb
  simp only [fo,Bool.or_eq_true,Bool.and_eq_true,decide_eq_true_eq] at g1 g2
  exact c6 hd ma mb (by omega)
 rw [List.pairwise_iff_getElem]
 intro i j hi hj hij
 have hs:(Sort.insertionSort wM L.toArray 0 L.length).size=L.length:=by rw [h0];simp
 simp only [Array.length_toList] at hi hj
 have:=h3 i j (Nat.zero_le _) hij (by omega)
 rw [getElem!_pos _ j hj,getElem!_pos _ i hi] at this
 simp only [Array.getElem_toList]
 simp only [wM,Bool.or_eq_false_iff,Bool.and_eq_false_iff,decide_eq_false_iff_not] at this
 simp only [fo,Bool.or_eq_true,Bool.and_eq_true,decide_eq_true_eq]
 omega
end Dem
end
section
open Go Dem Go.Proofs
namespace Dem
variable {t:Th}
theorem QU (ht:TT t) (x:Int):FC 101 [bJ x] [] (.ret (dn (t _ fun _=>false))) []:=by
 refine bP ht (aV:=[]) Tryz.func101 rfl rfl (N:=6) rfl rfl (n:=0) rfl rfl ?_
 cbv
 refine aA trv trv rfl rfl rfl ?_
 (simp [ht,dn];done)
theorem Ti (ht:TT t) (x y:Int):FC 50 [bJ x,bJ y] [] (.ret (gE (t _ fun _=>iS x y))) []:=by
 refine bP ht (aV:=[]) Tryz.func50 rfl rfl (N:=20) rfl rfl (n:=0) rfl rfl ?_
 cbv
 refine bq trv (QU ht _) trv rfl rfl (fun r0 c7=>?_)
 simp only [ht] at c7
 cbv
 refine bq trv (QU ht _) trv rfl rfl (fun r1 cP=>?_)
 simp only [ht] at cP
 cbv
 refine ap (fun h2=>?_) (fun h2=>?_)
 ·cbv
  refine ap (fun h3=>?_) (fun h3=>?_)
  ·cbv
   refine aA trv trv rfl rfl rfl ?_
   (simp only [ht,ah,gE,iS];grind)
  cbv
  refine aA trv trv rfl rfl rfl ?_
  (simp only [ht,ah,gE,iS];grind)
 cbv
 refine ap (fun h4=>?_) (fun h4=>?_)
 ·cbv
  refine aA trv trv rfl rfl rfl ?_
  (simp only [ht,ah,gE,iS];grind)
 cbv
 refine ap (fun h5=>?_) (fun h5=>?_)
 ·simp [ht,ah] at h5
  cbv
  refine aA trv trv rfl rfl rfl ?_
  (simp [ht,gE,iS, *];done)
 simp [ht,ah] at h5
 cbv
 refine ap (fun h6=>?_) (fun h6=>?_)
 ·simp [ht,ah] at h6
  cbv
  refine aA trv trv rfl rfl rfl ?_
  (simp [ht,gE,iS, *];done)
 simp [ht,ah] at h6
 cbv
 refine aA trv trv rfl rfl rfl ?_
 (simp only [ht,ah,gE,iS];grind)
def QV:List Int→Int
 |[]=>0
 |x::r=>if x=0 then QV r else x
def VG (x:Int):List D:=[.int .i64 x]
def Tj (_:Th) (x:Int):List D:=[.int .i64 x]
theorem X8 (ht:TT t) {l:List Int} {es:List (List D)} (aG:es=l.map VG) (hl:l.length<1000000000):FC 49 [SL es] [] (.ret (gE (t _ fun _=>QV l))) []:=by
 refine bP ht (aV:=[]) Tryz.func49 rfl rfl (N:=18) rfl rfl (n:=0) rfl rfl ?_
 cbv
 have az:es.length=l.length:=by rw [aG,lgM]
 obtain ⟨J0,fH⟩:∃J0:Nat→Int→Prop,∀n i,J0 n i↔(∃k:Nat,i=k∧k+n=l.length∧QV l=QV (l.drop k)):=⟨fun n v=>match v with|i=>(∃k:Nat,i=k∧k+n=l.length∧QV l=QV (l.drop k)),fun _ _=>Iff.rfl⟩
 refine bM ⟨[3,6,7,8],[],[]⟩ (σ:=Int) (fun v=>[(8,.d (.int .i64 (t _ fun _=>v)))]) (fun v=>[]) J0 ?_
 cbv
 refine aJ ⟨l.length,_,(fH _ _).2 ?_,by simp only [ht];rfl,?_⟩
 ·exact ⟨0,rfl,by simp,by simp⟩
 rintro n i hj
 replace hj:=(fH _ _).1 hj
 obtain ⟨k,rfl,j1,j4⟩:=hj
 cbv
 refine ap (fun h1=>?_) (fun h1=>?_)
 ·simp [ht,ah,az] at h1
  cbv
  (refine kO ht aG (cT:=Tj t) (by simp only [ht];((try simp only [ah] at*);omega)) (by simp only [ht,ah];((try simp only [ah] at*);omega)) (fun _=>rfl) (fun _=>rfl) (fun x mx=>?_);simp only [ht,ah,Int.toNat_natCast] at mx;rw [jD mx,QV] at j4)
  cbv
  refine ap (fun h2=>?_) (fun h2=>?_)
  ·simp [ht,ah,az] at h2
   cbv
   refine aA trv trv rfl rfl rfl ?_
   (simp_all [QV];done)
  simp [ht,ah,az] at h2
  cbv
  refine cD _ (by simp only [ht];rfl) (n-1) ?_ ((fH _ _).2 ?_)
  ·omega
  simp only [ht,ah]
  exact ⟨k+1,aH (by ((try simp only [ah] at*);omega)),by ((try simp only [ah] at*);omega),by rw [j4,if_pos (by simp_all)]⟩
 simp [ht,ah,az] at h1
 cbv
 refine aA trv trv rfl rfl rfl ?_
 (rw [List.drop_eq_nil_of_le (by ((try simp only [ah] at*);omega)),QV] at j4;simp only [ht,j4];done)
def Kl (a b:Jb):Int:=QV [iS a.x.prio b.x.prio,iS b.id a.id]
theorem LS {a b:Jb}:Kl a b<0↔wM a b=true:=by
 simp only [Kl,QV,iS,wM,Bool.or_eq_true,Bool.and_eq_true,decide_eq_true_eq]
 split<;>split<;>(try split)<;>(try split)<;>omega
theorem Tk (ht:TT t) (a1 a3 a4 a5 a6 a7 a8 a9 a12 b1 b3 b4 b5 b6 b7 b8 b9 NH:Int) (a2 b2:aQ) (VH NI:Bool) {sa sb:List Term} {ar br:List (List D)} (har:ar=sa.map Term.cells) (Z3:br=sb.map Term.cells):
 FC 48 [.agg [aD a1,ST a2,aD a3,aD a4,aD a5,aD a6,bJ a7,bJ a8,bJ a9,SL ar,BL VH,bJ a12],.agg [aD b1,ST b2,aD b3,aD b4,aD b5,aD b6,bJ b7,bJ b8,bJ b9,SL br,BL NI,bJ NH]] [] (.ret (gE (t _ fun _=>Kl ⟨a1,⟨a2,⟨a3,a4,a5,a6⟩,a7,a8,a9,sa⟩,VH,a12⟩ ⟨b1,⟨b2,⟨b3,b4,b5,b6⟩,b7,b8,b9,sb⟩,NI,NH⟩))) []:=by
 obtain ⟨o,ho⟩:∃o,o=Kl ⟨a1,⟨a2,⟨a3,a4,a5,a6⟩,a7,a8,a9,sa⟩,VH,a12⟩ ⟨b1,⟨b2,⟨b3,b4,b5,b6⟩,b7,b8,b9,sb⟩,NI,NH⟩:=⟨_,rfl⟩
 rw [←ho]
 refine bP ht (aV:=[]) Tryz.func48 rfl rfl (N:=19) rfl rfl (n:=0) rfl rfl ?_
 cbv
 have aag:ar.length=sa.length:=by rw [har,lgM]
 have aah:br.length=sb.length:=by rw [Z3,lgM]
 refine dK [false,false,false,false,false,false,false,false,false,false,false,true,true,true,true] (by kernel_rfl) (by kernel_rfl) ?_
 cbv
 iterate 6 refine gI (by simp [ht,aj]) ?_
 refine .inl ?_
 refine eT (fun g0=>⟨trv,trv,Ti ht _ _⟩) rfl rfl (fun r1 cP=>?_)
 simp only [ht] at cP
 cbv
 iterate 4 refine gI (by simp [ht,aj]) ?_
 refine bq trv (Qn ht _ _) trv rfl rfl (fun r2 gS=>?_)
 simp only [ht] at gS
 cbv
 (refine bq trv (X8 ht (l:=[r1,r2]) rfl (by simp)) (by simp [ht]) rfl rfl (fun r3 kV=>?_);simp only [ht] at kV)
 cbv
 refine aA trv trv rfl rfl rfl ?_
 (simp only [ht,gE];simp_all [Kl];done)
theorem Tl (ht:TT t) (a b n:Nat) (d:Array Jb) {es:List (List D)} {ai bi:Int} (ha:ai=a) (wT:bi=b) (aG:es=d.toList.map Jb.cells) (hn:n=d.size) (hb:b≤n) (hl:n<1000000) (Rl:a<1000000000):
 FC 153 [.ow 0 12 n,bJ ai,bJ bi,.fn 48 []] [.row 12 es] (.ret (.dX [])) [.row 12 (t _ fun _=>(Sort.insertionSort wM d a b).toList.map Jb.cells)]:=by
 refine bP ht (aV:=[.row 12 es]) Tryz.func153 rfl rfl (N:=53) rfl rfl (n:=1) rfl rfl ?_
 cbv
 obtain ⟨J0,fH⟩:∃J0:Nat→Int×List (List D)→Prop,∀m i u,J0 m (i,u)↔(∃(k:Nat) (r:Array Jb),i=k∧b≤k+m∧a+1≤k∧k≤1000000000∧r.size=n∧u=r.toList.map Jb.cells∧Sort.insertionSort wM d a b=Sort.insOuter wM a b k r):=⟨fun m v=>match v with|(i,u)=>(∃(k:Nat) (r:Array Jb),i=k∧b≤k+m∧a+1≤k∧k≤1000000000∧r.size=n∧u=r.toList.map Jb.cells∧Sort.insertionSort wM d a b=Sort.insOuter wM a b k r),fun _ _ _=>Iff.rfl⟩
 refine bM ⟨[0,1,2,3,8],[],[]⟩ (σ:=Int×List (List D)) (fun v=>[(8,.d (.int .i64 (t _ fun _=>v.1)))]) (fun v=>[(0,.row 12 (t _ fun _=>v.2))]) J0 ?_
 cbv
 refine aJ ⟨b,(_,_),(fH _ _ _).2 ?_,by simp only [ht];rfl,?_⟩
 ·exact ⟨a+1,d,by rw [ha];exact aH (by ((try simp only [ah] at*);omega)),by ((try simp only [ah] at*);omega),by ((try simp only [ah] at*);omega),by ((try simp only [ah] at*);omega),hn.symm,aG,rfl⟩
 rintro m ⟨i,u⟩ hj
 replace hj:=(fH _ _ _).1 hj
 obtain ⟨k,r,rfl,j1,j2,j3,j5,j6,j4⟩:=hj
 cbv
 refine ap (fun h1=>?_) (fun h1=>?_)
 ·simp [ht,ah] at h1
  cbv
  obtain ⟨J2,yD⟩:∃J2:Nat→Int×List (List D)→Prop,∀m2 jj u,J2 m2 (jj,u)↔(∃(j:Nat) (q:Array Jb),jj=j∧j≤m2∧j≤k∧q.size=n∧u=q.toList.map Jb.cells∧Sort.insertionSort wM d a b=Sort.insOuter wM a b (k+1) (Sort.insInner wM a j q)):=⟨fun m2 v=>match v with|(jj,u)=>(∃(j:Nat) (q:Array Jb),jj=j∧j≤m2∧j≤k∧q.size=n∧u=q.toList.map Jb.cells∧Sort.insertionSort wM d a b=Sort.insOuter wM a b (k+1) (Sort.insInner wM a j q)),fun _ _ _=>Iff.rfl⟩
  refine bM ⟨[0,1,2,3,8,9],[],[]⟩ (σ:=Int×List (List D)) (fun v=>[(9,.d (.int .i64 (t _ fun _=>v.1)))]) (fun v=>[(0,.row 12 (t _ fun _=>v.2))]) J2 ?_
  cbv
  refine aJ ⟨k,(_,_),(yD _ _ _).2 ?_,rfl,?_⟩
  ·exact ⟨k,r,rfl,by ((try simp only [ah] at*);omega),by ((try simp only [ah] at*);omega),j5,j6,by rw [j4,sx];((try simp only [ah] at*);omega)⟩
  rintro m2 ⟨jj,u⟩ hj
  replace hj:=(yD _ _ _).1 hj
  obtain ⟨j,q,rfl,q1,q2,q5,q6,q4⟩:=hj
  cbv
  refine dK [false,false,true,true,false,false,false,false,false,false,false,false,false,false,true,true,true] (by kernel_rfl) (by kernel_rfl) ?_
  cbv
  iterate 5 refine gI (by simp [ht,aj]) ?_
  refine gI (by simp [ht,aj,bR,ah,gE];grind) ?_
  (refine yX q6 (Jb.bF t) (fun _=>by simp only [Jb.cells,Jb.bF,ht]) j (fun g=>(by simp [ht,ah] at g ⊢;exact ⟨by ((try simp only [ah] at*);omega),fun h=>(by first|exact h|exact ⟨g,h⟩|exact g|((try simp only [ah] at*);omega))⟩)) (fun y ey=>?_))
  cbv
  iterate 3 refine gI (by simp [ht,aj]) ?_
  refine gI (by (simp [ht,ah];intro g;rw [wrap64 (by ((try simp only [ah] at*);omega)) (by ((try simp only [ah] at*);omega))];((try simp only [ah] at*);omega))) ?_
  (refine yX q6 (Jb.bF t) (fun _=>by simp only [Jb.cells,Jb.bF,ht]) (j-1) (fun g=>(by simp only [ht,decide_eq_true_eq,ah] at g ⊢;rw [wrap64 (by ((try simp only [ah] at*);omega)) (by ((try simp only [ah] at*);omega)),show ((j:Int)-1).toNat=j-1 by ((try simp only [ah] at*);omega)];exact ⟨by ((try simp only [ah] at*);omega),rfl,fun h=>(by first|exact h|exact ⟨g,h⟩|exact ⟨trv,h⟩)⟩)) (fun z ez=>?_))
  cbv
  refine eT (fun g3=>⟨by simp [ht] at g3 ⊢;exact g3,trv,Tk ht _ _ _ _ _ _ _ _ _ _ _ _ _ _ _ _ _ _ _ _ _ _ (kI ht rfl) (kI ht rfl)⟩) rfl rfl (fun r4 kw=>?_)
  simp only [ht] at kw
  cbv
  refine gI (by simp [ht,aj]) ?_
  refine pI (by simp [ht,aj]) ?_
  refine ap (fun h5=>?_) (fun h5=>?_)
  ·simp [ht,ah] at h5
   cbv
   refine F9 [0,1,2,3,4,5,6,7,10,11] [false,false,false,false,false,false,false,false,false,false,false,false,false,false,true,true,true,true] (by kernel_rfl) (by kernel_rfl) (by kernel_rfl) (by kernel_rfl) (by kernel_rfl) ?_
   cbv
   iterate 8 refine gI (by simp [ht,aj]) ?_
   refine gI (by (simp [ht,ah];rw [wrap64 (by ((try simp only [ah] at*);omega)) (by ((try simp only [ah] at*);omega))];((try simp only [ah] at*);omega))) ?_
   (refine yX q6 (Jb.bF t) (fun _=>by simp only [Jb.cells,Jb.bF,ht]) (j-1) (fun g=>(by simp only [ht,ah];rw [wrap64 (by ((try simp only [ah] at*);omega)) (by ((try simp only [ah] at*);omega)),show ((j:Int)-1).toNat=j-1 by ((try simp only [ah] at*);omega)];exact ⟨by ((try simp only [ah] at*);omega),rfl,fun h=>h⟩)) (fun z2 Z9=>?_))
   cbv
   iterate 2 refine gI (by simp [ht,aj]) ?_
   refine gI (by simp [ht,aj,bR,ah,gE];grind) ?_
   (refine yX q6 (Jb.bF t) (fun _=>by simp only [Jb.cells,Jb.bF,ht]) j (fun g=>(by simp only [ht,ah,Int.toNat_natCast];exact ⟨by ((try simp only [ah] at*);omega),trv,fun h=>h⟩)) (fun y2 ey2=>?_))
   cbv
   refine ⟨?_,?_⟩
   ·(simp only [ht,ah] at*;omega)
   refine ⟨?_,?_⟩
   ·(simp only [ht,ah,Int.toNat_natCast];exact QA (n:=12) q6 (fun _=>rfl) (by ((try simp only [ah] at*);omega)) rfl)
   refine ⟨?_,?_⟩
   ·(simp only [ht,ah];rw [wrap64 (by ((try simp only [ah] at*);omega)) (by ((try simp only [ah] at*);omega))];((try simp only [ah] at*);omega))
   refine ⟨?_,?_⟩
   ·(simp only [ht,ah,Int.toNat_natCast];rw [wrap64 (by ((try simp only [ah] at*);omega)) (by ((try simp only [ah] at*);omega)),show ((j:Int)-1).toNat=j-1 by ((try simp only [ah] at*);omega)];exact QA (n:=12) (Ka (n:=12) q6 (fun _=>rfl) (by ((try simp only [ah] at*);omega)) z2) (fun _=>rfl) (by simp;((try simp only [ah] at*);omega)) rfl)
   cbv
   refine cD (_,_) (by simp only [ht];rfl) (m2-1) ?_ ((yD _ _ _).2 ?_)
   ·((try simp only [ah] at*);omega)
   simp only [ht,ah]
   exact ⟨j-1,Sort.swp q j (j-1),DX (by ((try simp only [ah] at*);omega)) (by ((try simp only [ah] at*);omega)),by ((try simp only [ah] at*);omega),by ((try simp only [ah] at*);omega),by rw [swp_size];exact q5,by rw [wrap64 (by ((try simp only [ah] at*);omega)) (by ((try simp only [ah] at*);omega)),show ((j:Int)-1).toNat=j-1 by ((try simp only [ah] at*);omega),Int.toNat_natCast];exact QB (n:=12) q6 (fun _=>rfl) (by ((try simp only [ah] at*);omega)) (by ((try simp only [ah] at*);omega)) ey2 Z9,by rw [q4,yc (by ((try simp only [ah] at*);omega)) (by rw [←ey,←ez];exact LS.1 (by have e:r4=Kl y z:=kw;rw [←e];exact h5.2))]⟩
  simp [ht,ah] at h5
  cbv
  refine cD (_,_) (by simp only [ht];rfl) (m-1) ?_ ((fH _ _ _).2 ?_)
  ·((try simp only [ah] at*);omega)
  simp only [ht,ah]
  exact ⟨k+1,q,aH (by ((try simp only [ah] at*);omega)),by ((try simp only [ah] at*);omega),by ((try simp only [ah] at*);omega),by ((try simp only [ah] at*);omega),q5,q6,by rw [q4,sy (fun g=>by rw [←ey,←ez];exact Bool.eq_false_iff.2 fun e=>absurd (LS.2 e) (by have e:r4=Kl y z:=kw;rw [←e];have:=h5 (by ((try simp only [ah] at*);omega));((try simp only [ah] at*);omega)))]⟩
 simp [ht,ah] at h1
 cbv
 refine aA trv trv rfl ?_ rfl rfl
 (simp only [ht];rw [j4,vu _ _ _ _ (by ((try simp only [ah] at*);omega)),←j6];rfl)
theorem Km (ht:TT t) (n:Nat) (d:Array Jb) {es:List (List D)} {ni:Int} (hni:ni=n) (aG:es=d.toList.map Jb.cells) (hn:n=d.size) (hl:n≤12):
 FC 100 [.ow 0 12 n,bJ ni,.fn 48 []] [.row 12 es] (.ret (.dX [])) [.row 12 (t _ fun _=>(Sort.insertionSort wM d 0 n).toList.map Jb.cells)]:=by
 refine bP ht (aV:=[.row 12 es]) Tryz.func100 rfl rfl (N:=63) rfl rfl (n:=1) rfl rfl ?_
 cbv
 obtain ⟨J0,fH⟩:∃J0:Nat→Int×Int→Prop,∀m a b,J0 m (a,b)↔(a=0∧b=20):=⟨fun m v=>match v with|(a,b)=>(a=0∧b=20),fun _ _ _=>Iff.rfl⟩
 refine bM ⟨[0,1,2,6,7,8],[],[]⟩ (σ:=Int×Int) (fun v=>[(7,.d (.int .i64 (t _ fun _=>v.1))),(8,.d (.int .i64 (t _ fun _=>v.2)))]) (fun v=>[]) J0 ?_
 cbv
 refine aJ ⟨1,(_,_),(fH _ _ _).2 ?_,by simp only [ht];rfl,?_⟩
 ·exact ⟨rfl,rfl⟩
 rintro m ⟨a,b⟩ hj
 replace hj:=(fH _ _ _).1 hj
 obtain ⟨TG,vD⟩:=hj
 cbv
 refine ap (fun h1=>?_) (fun h1=>?_)
 ·simp [ht,ah] at h1
  (simp only [ah] at*;omega)
 simp [ht,ah] at h1
 cbv
 refine dz [0] trv rfl rfl (Tl ht 0 n n d (by simp only [ht];exact TG) hni aG hn (Nat.le_refl _) (by ((try simp only [ah] at*);omega)) (by ((try simp only [ah] at*);omega))) (cz ?_)
 cbv
 obtain ⟨J2,yD⟩:∃J2:Nat→Int→Prop,∀m b,J2 m b↔(b=20):=⟨fun m v=>match v with|b=>(b=20),fun _ _=>Iff.rfl⟩
 refine bM ⟨[0,1,2,6],[],[]⟩ (σ:=Int) (fun v=>[(6,.d (.int .i64 (t _ fun _=>v)))]) (fun v=>[]) J2 ?_
 cbv
 refine aJ ⟨1,_,(yD _ _).2 ?_,by simp only [ht];rfl,?_⟩
 ·rfl
 rintro m b hj
 replace hj:=(yD _ _).1 hj
 obtain tK:=hj
 cbv
 refine ap (fun h3=>?_) (fun h3=>?_)
 ·simp [ht,ah] at h3
  omega
 simp [ht,ah] at h3
 cbv
 refine aA trv trv rfl rfl rfl ?_
 rfl
theorem QW (ht:TT t) (n:Nat) (d:Array Jb) {es:List (List D)} (aG:es=d.toList.map Jb.cells) (hn:n=d.size) (hl:n≤12):
 FC 47 [.ow 0 12 n,.fn 48 []] [.row 12 es] (.ret (.dX [])) [.row 12 (t _ fun _=>(Sort.insertionSort wM d 0 n).toList.map Jb.cells)]:=by
 have hel:(es.length:Int)=n:=by rw [aG,hn];simp
 refine bP ht (aV:=[.row 12 es]) Tryz.func47 rfl rfl (N:=9) rfl rfl (n:=1) rfl rfl ?_
 cbv
 refine ⟨?_,?_⟩
 ·(simp only [ht,ah] at*;omega)
 cbv
 refine dz [0] trv rfl rfl (Km ht n d (by simp only [ht];exact hel) aG hn hl) (cz ?_)
 cbv
 refine aA trv trv rfl rfl rfl ?_
 rfl
theorem Tm (ht:TT t):FC 153 [SL [],bJ 0,bJ 0,.fn 48 []] [] (.ret (.dX [])) []:=by
 refine bP ht (aV:=[]) Tryz.func153 rfl rfl (N:=53) rfl rfl (n:=0) rfl rfl ?_
 cbv
 obtain ⟨J0,fH⟩:∃J0:Nat→Int→Prop,∀m a,J0 m a↔(a=1):=⟨fun m v=>match v with|a=>(a=1),fun _ _=>Iff.rfl⟩
 refine bM ⟨[0,1,2,3,8],[],[]⟩ (σ:=Int) (fun v=>[(8,.d (.int .i64 (t _ fun _=>v)))]) (fun v=>[]) J0 ?_
 cbv
 refine aJ ⟨1,_,(fH _ _).2 ?_,rfl,?_⟩
 ·rfl
 rintro m a hj
 replace hj:=(fH _ _).1 hj
 obtain TG:=hj
 cbv
 refine ap (fun h1=>?_) (fun h1=>?_)
 ·simp [ht,ah] at h1
  omega
 simp [ht,ah] at h1
 cbv
 refine aA trv trv rfl rfl rfl ?_
 rfl
theorem Kn (ht:TT t):FC 100 [SL [],bJ 0,.fn 48 []] [] (.ret (.dX [])) []:=by
 refine bP ht (aV:=[]) Tryz.func100 rfl rfl (N:=63) rfl rfl (n:=0) rfl rfl ?_
 cbv
 obtain ⟨J0,fH⟩:∃J0:Nat→Int×Int→Prop,∀m a b,J0 m (a,b)↔(a=0∧b=20):=⟨fun m v=>match v with|(a,b)=>(a=0∧b=20),fun _ _ _=>Iff.rfl⟩
 refine bM ⟨[0,1,2,6,7,8],[],[]⟩ (σ:=Int×Int) (fun v=>[(7,.d (.int .i64 (t _ fun _=>v.1))),(8,.d (.int .i64 (t _ fun _=>v.2)))]) (fun v=>[]) J0 ?_
 cbv
 refine aJ ⟨1,(_,_),(fH _ _ _).2 ?_,by simp only [ht];rfl,?_⟩
 ·exact ⟨rfl,rfl⟩
 rintro m ⟨a,b⟩ hj
 replace hj:=(fH _ _ _).1 hj
 obtain ⟨TG,vD⟩:=hj
 cbv
 refine ap (fun h1=>?_) (fun h1=>?_)
 ·simp [ht,ah] at h1
  omega
 simp [ht,ah] at h1
 cbv
 refine gM trv (by have:=Tm ht;simpa only [ht,TG] using this) trv rfl rfl ?_
 cbv
 obtain ⟨J2,yD⟩:∃J2:Nat→Int→Prop,∀m b,J2 m b↔(b=20):=⟨fun m v=>match v with|b=>(b=20),fun _ _=>Iff.rfl⟩
 refine bM ⟨[0,1,2,6],[],[]⟩ (σ:=Int) (fun v=>[(6,.d (.int .i64 (t _ fun _=>v)))]) (fun v=>[]) J2 ?_
 cbv
 refine aJ ⟨1,_,(yD _ _).2 ?_,by simp only [ht];rfl,?_⟩
 ·rfl
 rintro m b hj
 replace hj:=(yD _ _).1 hj
 obtain tK:=hj
 cbv
 refine ap (fun h3=>?_) (fun h3=>?_)
 ·simp [ht,ah] at h3
  omega
 simp [ht,ah] at h3
 cbv
 refine aA trv trv rfl rfl rfl ?_
 rfl
theorem QX (ht:TT t):FC 47 [SL [],.fn 48 []] [] (.ret (.dX [])) []:=by
 refine bP ht (aV:=[]) Tryz.func47 rfl rfl (N:=9) rfl rfl (n:=0) rfl rfl ?_
 cbv
 refine gM trv (by simp only [ht];exact Kn ht) trv rfl rfl ?_
 cbv
 refine aA trv trv rfl rfl rfl ?_
 rfl
theorem NJ (ht:TT t) (jc:List D) {l:List (Jb)} {es:List (List D)} (aG:es=l.map Jb.cells) (f:Nat) (p:Jb→Bool) (hl:l.length<9223372036854775807)
 (hf:∀x∈l,FC f [.agg [aD x.id,ST x.x.path,aD x.x.gu.a,aD x.x.gu.b,aD x.x.gu.c,aD x.x.gu.d,bJ x.x.count,bJ x.x.prio,bJ x.x.fG,SL (x.x.ct.map Term.cells),BL x.runs,bJ x.left],.ep jc] [] (.ret (BL (p x))) []) {r:Int} (hr:r=idxOf p l):FC 70 [SL es,.fn f [.ep jc]] [] (.ret (bJ r)) []:=by
 have hel:es.length=l.length:=by rw [aG,lgM]
 obtain ⟨J,hJ⟩:∃J:Nat→Nat→Prop,∀n v,J n v↔(v+n=l.length∧∀i<v,∀x,l[i]?=some x→p x=false):=⟨fun n v=>v+n=l.length∧∀i<v,∀x,l[i]?=some x→p x=false,fun _ _=>Iff.rfl⟩
 refine bP ht (aV:=[]) Tryz.func70 rfl rfl (N:=19) rfl rfl (n:=0) rfl rfl ?_
 cbv
 refine bM ⟨[0,1,7,8],[],[]⟩ (σ:=Nat) (fun k=>[(8,bJ (t _ fun _=>(k:Int)))]) (fun _=>[]) J ?_
 cbv
 refine aJ ⟨l.length,0,(hJ _ _).2 ⟨by omega,by intro i hi;simp at hi⟩,by simp only [ht];rfl,?_⟩
 rintro n k hj
 obtain ⟨h2,h3⟩:=(hJ _ _).1 hj
 clear hj
 cbv
 refine ap (fun h=>?_) (fun h=>?_)
 ·simp only [ht,ah,decide_eq_true_eq] at h
  have hk:k<l.length:=by omega
  obtain ⟨x,hx⟩:∃x,l[k]?=some x:=⟨l[k],by simp⟩
  have pg:x∈l:=List.mem_of_getElem? hx
  have iw:=hf x pg
  obtain ⟨px,hpx⟩:∃b,b=p x:=⟨_,rfl⟩
  rw [←hpx] at iw
  obtain ⟨id',⟨p',⟨a',b',c',d'⟩,n',V7,KR,rQ⟩,V8,V9⟩:=x;obtain ⟨G2,mr⟩:∃lr:List (List D),lr=rQ.map Term.cells:=⟨_,rfl⟩;simp only [←mr] at iw
  cbv
  refine jA [.int .u64 id',.str p',.int .u64 a',.int .u64 b',.int .u64 c',.int .u64 d',.int .i64 n',.int .i64 V7,.int .i64 KR,.sl G2,.bool V8,.int .i64 V9] ?_ ?_ ?_
  ·simp only [ht,ah];refine ⟨by omega,h,?_⟩;rw [aG];intro r hr;obtain ⟨y,_,rfl⟩:=List.mem_map.1 hr;rfl
  ·simp [ht,ah,aG,hx,mr,Jb.cells]
  cbv
  refine eB trv iw ?_
  cbv
  refine ap (fun hb=>?_) (fun hb=>?_)
  ·cbv
   refine aA trv trv rfl rfl rfl ?_
   have e:=dA hx (hpx▸hb) h3
   simp only [ht,ah,hr,idxOf,e]
  cbv
  refine aJ ⟨n-1,k+1,⟨by omega,(hJ _ _).2 ⟨by omega,?_⟩⟩,?_⟩
  ·intro i hi y hy
   by_cases hik:i<k
   ·exact h3 i hik y hy
   have:i=k:=by omega
   subst this;rw [hx] at hy;cases hy;rw [←hpx];exact hb
  simp only [ht,ah,aH (show k<9223372036854775807 by omega)];rfl
 simp only [ht,ah,decide_eq_false_iff_not] at h
 have hk:¬k<l.length:=by omega
 clear h
 cbv
 refine aA trv trv rfl rfl rfl ?_
 rw [hr,idxOf,dL]
 intro i y hy
 have:i<l.length:=by
  rcases Nat.lt_or_ge i l.length with h'|h';· exact h'
  simp [List.getElem?_eq_none h'] at hy
 exact h3 i (by omega) y hy
theorem NK (ht:TT t) (jc:List D) {l:List (Jb)} {es:List (List D)} (aG:es=l.map Jb.cells) {m c:Nat} (hm:m=l.length) (hc:m≤c) (f:Nat) (p:Jb→Bool) (hl:l.length<9223372036854775807)
 (hf:∀x∈l,FC f [.agg [aD x.id,ST x.x.path,aD x.x.gu.a,aD x.x.gu.b,aD x.x.gu.c,aD x.x.gu.d,bJ x.x.count,bJ x.x.prio,bJ x.x.fG,SL (x.x.ct.map Term.cells),BL x.runs,bJ x.left],.ep jc] [] (.ret (BL (p x))) []) {r:List (List D)} (hr:r=(l.filter (fun x=>!p x)).map Jb.cells) {kk:Nat} (hkk:kk=r.length) {rz:List (List D)} (Ht:rz=r++List.replicate (m-kk) [.int .u64 0,.str [],.int .u64 0,.int .u64 0,.int .u64 0,.int .u64 0,.int .i64 0,.int .i64 0,.int .i64 0,.sl [],.bool false,.int .i64 0]):
 FC 44 [.vw 0 12 0 m c true,.fn f [.ep jc]] [.row 12 es] (.ret (.vw 0 12 0 kk c true)) [.row 12 rz]:=by
 have hel:es.length=m:=by rw [aG,lgM,hm]
 have hrows:∀r∈es,r.length=12:=by rw [aG];intro r hr;obtain ⟨y,_,rfl⟩:=List.mem_map.1 hr;rfl
 obtain ⟨k,hk⟩:∃k,k=idxOf p l:=⟨_,rfl⟩
 have PG:(t (List (List D)) fun _=>(es.drop 0).take m)=l.map Jb.cells:=by simp only [ht];rw [List.drop_zero,List.take_of_length_le (by omega),aG]
 have hidx:=NJ ht jc PG f p hl hf hk
 obtain ⟨J,hJ⟩:∃J:Nat→Nat×Nat×List (List D)→Prop,∀n v,J n v↔(v.2.1+n=m∧v.1<v.2.1∧v.2.2.length=m∧(∀r∈v.2.2,r.length=12)∧v.2.2.take v.1=((l.take v.2.1).filter (fun x=>!p x)).map Jb.cells∧v.2.2.drop v.2.1=es.drop v.2.1):=⟨fun n v=>v.2.1+n=m∧v.1<v.2.1∧v.2.2.length=m∧(∀r∈v.2.2,r.length=12)∧v.2.2.take v.1=((l.take v.2.1).filter (fun x=>!p x)).map Jb.cells∧v.2.2.drop v.2.1=es.drop v.2.1,fun _ _=>Iff.rfl⟩
 refine bP ht (aV:=[.row 12 es]) Tryz.func44 rfl rfl (N:=42) rfl rfl (n:=1) rfl rfl ?_
 cbv
 refine Pf (TT.eq ht) (v:=bJ k) [true] [] trv rfl ?_ rfl rfl rfl rfl rfl rfl rfl hidx ?_
 ·simp [ht];omega
 cbv
 refine ap (fun h=>?_) (fun h=>?_)
 ·have vC:k=-1:=by simp [ht] at h;exact h
  have hnone:=nK (hk▸vC:idxOf p l=-1)
  clear h
  cbv
  have Ow:r=es:=by rw [hr,filter_all hnone,←aG]
  have hkm:kk=m:=by rw [hkk,Ow,hel]
  have Vp:rz=es:=by rw [Ht,hkm,Nat.sub_self,Ow];simp
  rw [Vp,hkm]
  exact I3 trv rfl rfl
 have vC:k≠-1:=by simp [ht] at h;exact h
 clear h
 obtain ⟨i0,x0,T7,hx0,Xy,hb0⟩:=nL (hk▸vC:idxOf p l≠-1)
 rw [←hk] at T7
 subst T7
 have Xz:i0<m:=by rw [hm];exact (List.getElem?_eq_some_iff.1 hx0).1
 cbv
 refine bM ⟨[0,1,5,6],[],[]⟩ (σ:=Nat×Nat×List (List D)) (fun v=>[(5,bJ (t _ fun _=>(v.1:Int))),(6,bJ (t _ fun _=>(v.2.1:Int)))]) (fun v=>[(0,.row 12 (t _ fun _=>v.2.2))]) J ?_
 cbv
 refine aJ ⟨m-(i0+1),(i0,i0+1,es),(hJ _ _).2 ⟨?_,?_,hel,hrows,?_,rfl⟩,by simp only [ht,ah,Int.ofNat_eq_natCast,aH (show i0<9223372036854775807 by omega)];rfl,?_⟩
 ·show i0+1+(m-(i0+1))=m;omega
 ·show i0<i0+1;omega
 ·show es.take i0=_
  rw [dP hx0,List.filter_append,filter_all hb0,aG,←List.map_take];simp [Xy]
 rintro n ⟨i,j,cur⟩ hj
 obtain ⟨j1,j2,j3,j4,j5,j6⟩:=(hJ _ _).1 hj
 clear hj
 simp only at j1 j2 j3 j4 j5 j6
 cbv
 refine ap (fun h=>?_) (fun h=>?_)
 ·have T8:j<m:=by simp [ht,ah] at h;omega
  clear h
  obtain ⟨x,hx⟩:∃x,l[j]?=some x:=⟨l[j]'(by omega),by simp⟩
  have pg:x∈l:=List.mem_of_getElem? hx
  have iw:=hf x pg
  have G0:cur[j]?=some (Jb.cells x):=by
   have:(cur.drop j)[0]?=(es.drop j)[0]?:=by rw [j6]
   rw [List.getElem?_drop,List.getElem?_drop,Nat.add_zero,aG,List.getElem?_map,hx] at this
   exact this
  obtain ⟨px,hpx⟩:∃b,b=p x:=⟨_,rfl⟩
  rw [←hpx] at iw
  obtain ⟨cx,Eg⟩:∃cx,cx=Jb.cells x:=⟨_,rfl⟩
  rw [←Eg] at G0
  have hstep:(l.take (j+1)).filter (fun x=>!p x)=(l.take j).filter (fun x=>!p x)++(if px then [] else [x]):=by
   rw [dP hx,List.filter_append];cases px<;>simp [←hpx]
  obtain ⟨id',⟨p',⟨a',b',c',d'⟩,n',V7,KR,rQ⟩,V8,V9⟩:=x;obtain ⟨G2,mr⟩:∃lr:List (List D),lr=rQ.map Term.cells:=⟨_,rfl⟩;simp only [Jb.cells,←mr] at iw Eg
  cbv
  refine ⟨?_,Pb [.int .u64 id',.str p',.int .u64 a',.int .u64 b',.int .u64 c',.int .u64 d',.int .i64 n',.int .i64 V7,.int .i64 KR,.sl G2,.bool V8,.int .i64 V9] ?_ ?_ ?_⟩
  ·simp [ht,ah];omega
  ·simp [ht,ah,j3];omega
  ·simp [ht,ah,List.getD_eq_getElem?_getD,G0,Eg]
  cbv
  refine dz [] trv rfl rfl iw (cz ?_)
  cbv
  refine ap (fun hb=>?_) (fun hb=>?_)
  ·have hb':px=false:=by simpa [ht] using hb
   clear hb
   obtain ⟨nc,hnc⟩:∃nc,nc=cur.set i cx:=⟨_,rfl⟩
   have pi:(cur.getD i []).length=12:=j4 _ (by rw [List.getD_eq_getElem?_getD,List.getElem?_eq_getElem (by omega)];exact List.getElem_mem _)
   cbv
   refine ⟨?_,?_⟩
   ·simp [ht,ah];omega
   refine ⟨?_,?_⟩
   ·simp [ht,ah,j3];exact ⟨by omega,by simpa using pi.symm▸(Nat.le_refl _)⟩
   refine aJ ⟨n-1,(i+1,j+1,nc),⟨by omega,(hJ _ _).2 ⟨?_,?_,?_,?_,?_,?_⟩⟩,?_⟩
   ·show j+1+(n-1)=m;omega
   ·show i+1<j+1;omega
   ·show nc.length=m;rw [hnc,List.length_set];exact j3
   ·show ∀r∈nc,r.length=12
    intro r hr;rw [hnc] at hr
    rcases List.mem_or_eq_of_mem_set hr with hr|rfl
    ·exact j4 r hr
    rw [Eg];rfl
   ·show nc.take (i+1)=_
    rw [hnc,ku _ _ _ (by omega),j5,hstep,hb',Eg];simp [mr,Jb.cells]
   ·show nc.drop (j+1)=es.drop (j+1)
    rw [hnc,mV _ _ _ _ (by omega),←List.drop_drop,j6,List.drop_drop]
   simp only [ht,ah,Int.ofNat_eq_natCast,aH (show i<9223372036854775807 by omega),aH (show j<9223372036854775807 by omega)]
   have ei:0+((i:Int)).toNat=i:=by simp
   have e:cur.set i (bt (cur.getD i []) 0 [.int .u64 id',.str p',.int .u64 a',.int .u64 b',.int .u64 c',.int .u64 d',.int .i64 n',.int .i64 V7,.int .i64 KR,.sl G2,.bool V8,.int .i64 V9])=nc:=by rw [hnc,kr _ _ (by rw [pi];rfl),Eg]
   simp only [ei,e];rfl
  have hb':px=true:=by simpa [ht] using hb
  clear hb
  cbv
  refine aJ ⟨n-1,(i,j+1,cur),⟨by omega,(hJ _ _).2 ⟨?_,?_,j3,j4,?_,?_⟩⟩,?_⟩
  ·show j+1+(n-1)=m;omega
  ·show i<j+1;omega
  ·show cur.take i=_
   rw [j5,hstep,hb'];simp
  ·show cur.drop (j+1)=es.drop (j+1)
   rw [←List.drop_drop,j6,List.drop_drop]
  simp only [ht,ah,Int.ofNat_eq_natCast,aH (show j<9223372036854775807 by omega)];rfl
 have T8:j=m:=by simp [ht,ah] at h;omega
 clear h
 obtain ⟨mi,xA⟩:∃mi,mi=m-i:=⟨_,rfl⟩
 obtain ⟨ci,pi⟩:∃ci,ci=c-i:=⟨_,rfl⟩
 obtain ⟨nc,hnc⟩:∃nc,nc=wrote cur i (List.replicate mi [.int .u64 0,.str [],.int .u64 0,.int .u64 0,.int .u64 0,.int .u64 0,.int .i64 0,.int .i64 0,.int .i64 0,.sl [],.bool false,.int .i64 0]):=⟨_,rfl⟩
 have hnt:nc.take i=r:=by
  have hl':(cur.take i).length=i:=by simp;omega
  rw [hnc,wrote,List.append_assoc,List.take_left' hl',j5,hr,T8,hm,List.take_length]
 have XA:i≤nc.length:=by rw [hnc];simp [wrote];omega
 cbv
 refine bN (.vw 0 12 i mi ci true) [.row 12 cur] ?_ ?_ ?_ ?_
 ·simp [ht,ah,dN,bR];omega
 ·simp [ht,ah,be,aY,xA,pi]
 ·simp only [ht]
 cbv
 refine bN (.dX []) [.row 12 nc] ?_ rfl ?_ ?_
 ·simp [ht,eL]
  refine ⟨by omega,?_⟩
  intro h;rw [h] at j3;simp at j3;omega
 ·simp only [ht,hnc]
 cbv
 refine bN (.vw 0 12 0 i c true) [.row 12 nc] ?_ ?_ rfl ?_
 ·simp [ht,ah,dN,bR];omega
 ·simp [ht,ah,be,aY]
 cbv
 have hki:kk=i:=by rw [hkk,←hnt];simp;omega
 have Vp:rz=nc:=by
  rw [Ht,hki,←hnt,hnc,wrote]
  have hl':(cur.take i).length=i:=by simp;omega
  rw [List.append_assoc,List.take_left' hl',List.drop_of_length_le (by simp;omega),List.append_nil,xA]
 rw [Vp,hki]
 exact I3 trv rfl rfl
theorem VI (ht:TT t) (a1 a3 a4 a5 a6 a7 a8 a9 a12 b1 b3 b4 b5 b6 b7 b8 b9 NH:Int) (a2 b2:aQ) (VH NI:Bool) (ar br:List (List D)):
 FC 46 [.agg [aD a1,ST a2,aD a3,aD a4,aD a5,aD a6,bJ a7,bJ a8,bJ a9,SL ar,BL VH,bJ a12],.ep [.int .u64 b1,.str b2,.int .u64 b3,.int .u64 b4,.int .u64 b5,.int .u64 b6,.int .i64 b7,.int .i64 b8,.int .i64 b9,.sl br,.bool NI,.int .i64 NH]] [] (.ret (BL (!(VH&&decide (a8<b8))))) []:=by
 obtain ⟨H,hH⟩:∃H,H=!(VH&&decide (a8<b8)):=⟨_,rfl⟩
 rw [←hH]
 refine bP ht (aV:=[]) Tryz.func46 rfl rfl (N:=16) rfl rfl (n:=0) rfl rfl ?_
 cbv
 iterate 7 refine gI (by simp [ht,aj]) ?_
 refine pI (by simp [ht,aj]) ?_
 refine aA trv trv rfl rfl rfl ?_
 (simp [ht,dn, *];grind)
def EJ (t:Th) (l:List Int):AV:=SL (t _ fun _=>l.map Int.cells)
theorem X9 {α:Type} {l:List α} {cells:α→List D} {u:List (List D)} (hu:u=l.map cells) (cT:α→List D) (hT:∀x,cells x=cT x) (j:Nat) {c:Prop} {ds:List D} {K:List D→Prop} (hj:j<l.length) (hd:u.getD j []=ds) (hc:j<u.length→c) (hK:∀x,l[j]?=some x→K (cT x)):Af true c ds K:=by
 refine UM _ (fun _=>⟨hc (by rw [hu];simpa using hj),?_⟩) (hK l[j] (by simp [hj]))
 rw [←hd,hu,←hT];simp [hj]
def EK (l:List Jb) (p:Int):List Jb:=l.filter fun o=>o.runs&&decide (o.x.prio<p)
theorem HP (ht:TT t) {l:List Jb} {es:List (List D)} (aG:es=l.map Jb.cells) (hl:l.length<1000000) (b1 b3 b4 b5 b6 b7 b8 b9 NH:Int) (b2:aQ) (NI:Bool) (br:List (List D))
 {m c k:Nat} (hm:m=l.length) (hc:m≤c) {r:List (List D)} (hr:r=(EK l b8).map Jb.cells) (hk:k=r.length) {rz:List (List D)} (Ht:rz=r++List.replicate (m-k) [.int .u64 0,.str [],.int .u64 0,.int .u64 0,.int .u64 0,.int .u64 0,.int .i64 0,.int .i64 0,.int .i64 0,.sl [],.bool false,.int .i64 0]):
 FC 44 [.vw 0 12 0 m c true,.fn 46 [.ep [.int .u64 b1,.str b2,.int .u64 b3,.int .u64 b4,.int .u64 b5,.int .u64 b6,.int .i64 b7,.int .i64 b8,.int .i64 b9,.sl br,.bool NI,.int .i64 NH]]] [.row 12 es] (.ret (.vw 0 12 0 k c true)) [.row 12 rz]:=
 NK ht _ aG hm hc 46 (fun o=>!(o.runs&&decide (o.x.prio<b8))) (by omega) (fun o _=>VI ht _ _ _ _ _ _ _ _ _ _ _ _ _ _ _ _ _ _ _ _ _ _ _ _) (by rw [hr,EK];simp) hk Ht
theorem VJ (ht:TT t) {l:List Jb} {es:List (List D)} (aG:es=l.map Jb.cells) (hl:l.length<1000000) (b1 b3 b4 b5 b6 b7 b8 b9 NH:Int) (b2:aQ) (NI:Bool) (br:List (List D)) (h0:EK l b8=[]) {m:Nat} (hm:m=l.length):
 FC 44 [.ow 1 12 m,.fn 46 [.ptr 0 0]] [.var [aD b1,ST b2,aD b3,aD b4,aD b5,aD b6,bJ b7,bJ b8,bJ b9,SL br,BL NI,bJ NH],.row 12 es] (.ret (SL [])) [.dead,.dead]:=
 oS rfl rfl rfl<|dI [1] rfl rfl rfl rfl<|dU fun c hc _=>AZ rfl (by simp) (by simp) rfl (HP ht aG hl b1 b3 b4 b5 b6 b7 b8 b9 NH b2 NI br hm hc (r:=[]) (by rw [h0];rfl) (k:=0) rfl rfl)
theorem Tn {r z:List (List D)} {k:Nat} (hk:k=r.length):r=(r++z).take k:=by rw [hk,List.take_left]
theorem VK (ht:TT t) {l:List Jb} {es:List (List D)} (aG:es=l.map Jb.cells) (hl:l.length<1000000) (b1 b3 b4 b5 b6 b7 b8 b9 NH:Int) (b2:aQ) (NI:Bool) (br:List (List D)) {m k:Nat} (hm:m=l.length) {r:List (List D)} (hr:r=(EK l b8).map Jb.cells) (hk:k=r.length) (h0:0<k):
 FC 44 [.ow 1 12 m,.fn 46 [.ptr 0 0]] [.var [aD b1,ST b2,aD b3,aD b4,aD b5,aD b6,bJ b7,bJ b8,bJ b9,SL br,BL NI,bJ NH],.row 12 es] (.ret (.ow 1 12 k)) [.dead,.row 12 r]:=by
 obtain ⟨rz,Ht⟩:∃rz,rz=r++List.replicate (m-k) [D.int .u64 0,.str [],.int .u64 0,.int .u64 0,.int .u64 0,.int .u64 0,.int .i64 0,.int .i64 0,.int .i64 0,.sl [],.bool false,.int .i64 0]:=⟨_,rfl⟩
 exact oS rfl rfl rfl<|dI [1] rfl rfl rfl rfl<|dU fun c hc _=>AY h0 rfl (by rw [Ht,hk];simp) (by rw [Ht];exact Tn hk) rfl (HP ht aG hl b1 b3 b4 b5 b6 b7 b8 b9 NH b2 NI br hm hc hr hk Ht)
theorem QY (ht:TT t) (rd nx ef af:Int) {nl:List Node} {pl:List Place} {tl:List bw} {jl:List Jb} {ql:List cj} {el al:List dW} {ns ps ts js qs es bU:List (List D)} (fc:ns=nl.map Node.cells) (hps:ps=pl.map Place.cells) (hts:ts=tl.map bw.cells) (eN:js=jl.map Jb.cells) (eD:qs=ql.map cj.cells) (aG:es=el.map dW.cells) (has:bU=al.map dW.cells) (id:Int) (hjl:jl.length<1000000) (hlo:EK jl (bI jl id).1.x.prio=[]):FC 18 [.agg [aD rd,aD nx,SL ns,SL ps,SL ts,SL js,SL qs,aD ef,SL es,aD af,SL bU],aD id] [] (.ret (EJ t (t _ fun _=>cq ⟨rd,nx,⟨nl,pl⟩,tl,jl,ql,⟨ef,el⟩,⟨af,al⟩⟩ id))) []:=by
 have he:cq ⟨rd,nx,⟨nl,pl⟩,tl,jl,ql,⟨ef,el⟩,⟨af,al⟩⟩ id=[]:=by
  unfold cq
  split
  ·rfl
  show (List.mergeSort (EK jl (bI jl id).1.x.prio) fo).map _=[]
  rw [hlo];simp
 rw [he]
 obtain ⟨m,hm⟩:∃m,m=jl.length:=⟨_,rfl⟩
 have hel:m=js.length:=by rw [eN,lgM,hm]
 have hrows:∀r∈js,r.length=12:=by rw [eN];intro r hr;obtain ⟨y,_,rfl⟩:=List.mem_map.1 hr;rfl
 refine bP ht (aV:=[]) Tryz.func18 rfl rfl (N:=39) rfl rfl (n:=0) rfl rfl ?_
 cbv
 have aL:ns.length=nl.length:=by rw [fc,lgM]
 have aR:ps.length=pl.length:=by rw [hps,lgM]
 have aM:ts.length=tl.length:=by rw [hts,lgM]
 have aT:js.length=jl.length:=by rw [eN,lgM]
 have aF:qs.length=ql.length:=by rw [eD,lgM]
 have az:es.length=el.length:=by rw [aG,lgM]
 have aE:bU.length=al.length:=by rw [has,lgM]
 (refine aK trv (nU ht _ rd nx ef af ns ps ts qs es bU eN (by ((try simp only [ah] at*);omega))) (by simp [ht]) rfl rfl rfl (fun r1 cP=>?_);simp only [ht] at cP;rw [←cP] at hlo)
 cbv
 refine ap (fun h0=>?_) (fun h0=>?_)
 ·simp [ht,ah,aL,aR,aM,aT,aF,az,aE] at h0
  cbv
  refine aA trv trv rfl rfl rfl ?_
  (simp [ht,EJ,Yw,MS];done)
 simp [ht,ah,aL,aR,aM,aT,aF,az,aE] at h0
 cbv
 (refine jB trv (tC ht hrows (by omega) hel) trv rfl (.inr rfl) ?_)
 cbv
 (refine dz [1,2] trv rfl rfl (VJ ht eN (by ((try simp only [ah] at*);omega)) _ _ _ _ _ _ _ _ _ _ _ _ hlo hm) (cz ?_))
 cbv
 (refine gM trv (QX ht) trv rfl rfl ?_)
 cbv
 obtain ⟨J1,o8⟩:∃J1:Nat→List (List D)×Int→Prop,∀n u i,J1 n (u,i)↔(i=0∧u=[]):=⟨fun n v=>match v with|(u,i)=>(i=0∧u=[]),fun _ _ _=>Iff.rfl⟩
 refine bM ⟨[8,26,27,28],[(8,1)],[]⟩ (σ:=List (List D)×Int) (fun v=>[(8,.ow 0 1 (t _ fun _=>(v.1).length)),(28,.d (.int .i64 (t _ fun _=>v.2)))]) (fun v=>[(0,.row 1 (t _ fun _=>v.1))]) J1 ?_
 cbv
 refine aJ ⟨1,([],_),(o8 _ _ _).2 ?_,by simp only [ht];rfl,?_⟩
 ·exact ⟨rfl,rfl⟩
 rintro n ⟨u,i⟩ hj
 replace hj:=(o8 _ _ _).1 hj
 obtain ⟨ji,ju⟩:=hj
 cbv
 refine ap (fun h2=>?_) (fun h2=>?_)
 ·simp [ht,ah,aL,aR,aM,aT,aF,az,aE] at h2
  omega
 simp [ht,ah,aL,aR,aM,aT,aF,az,aE] at h2
 cbv
 refine aA trv (by simp [ht]) rfl rfl rfl ?_
 (simp only [ht,ju];rfl)
theorem QZ (ht:TT t) (rd nx ef af:Int) {nl:List Node} {pl:List Place} {tl:List bw} {jl:List Jb} {ql:List cj} {el al:List dW} {ns ps ts js qs es bU:List (List D)} (fc:ns=nl.map Node.cells) (hps:ps=pl.map Place.cells) (hts:ts=tl.map bw.cells) (eN:js=jl.map Jb.cells) (eD:qs=ql.map cj.cells) (aG:es=el.map dW.cells) (has:bU=al.map dW.cells) (id:Int) (hjl:jl.length<1000000) {L:List Jb} (hL:L=EK jl (bI jl id).1.x.prio) (hl0:0<L.length) (h12:L.length≤12) (hid:rT jl):FC 18 [.agg [aD rd,aD nx,SL ns,SL ps,SL ts,SL js,SL qs,aD ef,SL es,aD af,SL bU],aD id] [] (.ret (EJ t (t _ fun _=>cq ⟨rd,nx,⟨nl,pl⟩,tl,jl,ql,⟨ef,el⟩,⟨af,al⟩⟩ id))) []:=by
 obtain ⟨E,hE⟩:∃E,E=cq ⟨rd,nx,⟨nl,pl⟩,tl,jl,ql,⟨ef,el⟩,⟨af,al⟩⟩ id:=⟨_,rfl⟩
 rw [←hE]
 obtain ⟨S,hS⟩:∃S,S=(Sort.insertionSort wM L.toArray 0 L.length).toList:=⟨_,rfl⟩
 have hSe:(bI jl id).2=true→E=S.map (·.id):=by
  intro g
  rw [hE,hS,Kk (by rw [hL];exact hid.filter _),hL];unfold cq;rw [g];rfl
 have hE0:(bI jl id).2=false→E=[]:=by
  intro g
  rw [hE];unfold cq;rw [g];rfl
 have hSl:S.length=L.length:=by rw [hS];exact (Df L).length_eq
 obtain ⟨k,hk⟩:∃k,k=L.length:=⟨_,rfl⟩
 obtain ⟨m,hm⟩:∃m,m=jl.length:=⟨_,rfl⟩
 obtain ⟨r,hr⟩:∃r,r=L.map Jb.cells:=⟨_,rfl⟩
 have hkr:k=r.length:=by rw [hr,lgM,hk]
 have hel:m=js.length:=by rw [eN,lgM,hm]
 have hrows:∀r∈js,r.length=12:=by rw [eN];intro r hr;obtain ⟨y,_,rfl⟩:=List.mem_map.1 hr;rfl
 rw [←hk] at hl0 h12
 have Ya:FC 47 [.ow 0 12 k,.fn 48 []] [.row 12 r] (.ret (.dX [])) [.row 12 (t _ fun _=>S.map Jb.cells)]:=by
  have:=QW ht k L.toArray (es:=r) (by rw [hr]) (by rw [hk];simp) h12
  rw [hS,←hk];exact this
 have hkS:k=S.length:=hk.trans hSl.symm
 refine bP ht (aV:=[]) Tryz.func18 rfl rfl (N:=39) rfl rfl (n:=0) rfl rfl ?_
 cbv
 have aL:ns.length=nl.length:=by rw [fc,lgM]
 have aR:ps.length=pl.length:=by rw [hps,lgM]
 have aM:ts.length=tl.length:=by rw [hts,lgM]
 have aT:js.length=jl.length:=by rw [eN,lgM]
 have aF:qs.length=ql.length:=by rw [eD,lgM]
 have az:es.length=el.length:=by rw [aG,lgM]
 have aE:bU.length=al.length:=by rw [has,lgM]
 have Hw:r.length=L.length:=by rw [hr,lgM]
 (refine aK trv (nU ht _ rd nx ef af ns ps ts qs es bU eN (by ((try simp only [ah] at*);omega))) (by simp [ht]) rfl rfl rfl (fun r1 cP=>?_);simp only [ht] at cP;rw [←cP] at hL hSe hE0)
 cbv
 refine ap (fun h0=>?_) (fun h0=>?_)
 ·simp [ht,ah,aL,aR,aM,aT,aF,az,aE,Hw] at h0
  cbv
  refine aA trv trv rfl rfl rfl ?_
  (simp only [ht,EJ,hE0 (by simp_all)];rfl)
 simp [ht,ah,aL,aR,aM,aT,aF,az,aE,Hw] at h0
 cbv
 (refine jB trv (tC ht hrows (by omega) hel) trv rfl (.inr rfl) ?_)
 cbv
 (refine dz [1,2] trv rfl rfl (VK ht eN (by ((try simp only [ah] at*);omega)) _ _ _ _ _ _ _ _ _ _ _ _ hm (r:=r) (by rw [hr,hL]) hkr hl0) (cz ?_))
 cbv
 (refine dz [2] trv rfl rfl Ya (cz ?_))
 cbv
 refine ⟨?_,?_⟩
 ·(simp [ht,ah,fc,hps,hts,eN,eD,aG,has,hr];omega)
 cbv
 obtain ⟨J1,o8⟩:∃J1:Nat→List (List D)×Int→Prop,∀n u i,J1 n (u,i)↔(∃q:Nat,i=q∧q+n=k∧u=((S.take q).map (·.id)).map Int.cells):=⟨fun n v=>match v with|(u,i)=>(∃q:Nat,i=q∧q+n=k∧u=((S.take q).map (·.id)).map Int.cells),fun _ _ _=>Iff.rfl⟩
 refine bM ⟨[8,26,27,28],[(8,1)],[]⟩ (σ:=List (List D)×Int) (fun v=>[(8,.ow 0 1 (t _ fun _=>(v.1).length)),(28,.d (.int .i64 (t _ fun _=>v.2)))]) (fun v=>[(0,.row 1 (t _ fun _=>v.1))]) J1 ?_
 cbv
 refine aJ ⟨k,([],_),(o8 _ _ _).2 ?_,by simp only [ht];rfl,?_⟩
 ·exact ⟨0,rfl,by simp,rfl⟩
 rintro n ⟨u,i⟩ hj
 replace hj:=(o8 _ _ _).1 hj
 obtain ⟨q,rfl,j1,j4⟩:=hj
 cbv
 refine ap (fun h2=>?_) (fun h2=>?_)
 ·simp [ht,ah,aL,aR,aM,aT,aF,az,aE,Hw] at h2
  cbv
  refine ⟨?_,?_⟩
  ·(simp only [ht,ah] at*;omega)
  cbv
  (refine X9 (l:=S) (cells:=Jb.cells) rfl (Jb.bF t) (fun _=>by simp only [Jb.cells,Jb.bF,ht]) q (by ((try simp only [ah] at*);omega)) (by simp only [ht,ah,Int.toNat_natCast]) (fun h=>by simp only [ht,ah,Int.toNat_natCast];exact h) (fun x mx=>?_))
  cbv
  refine ⟨?_,?_⟩
  ·(have h9:=Xq (l:=(S.take q).map (·.id)) (cells:=Int.cells) (u:=u) (row:=[D.int .u64 x.id]) (sz:=1) (b:=8) j4 (fun _=>rfl) rfl (by simp;((try simp only [ah] at*);omega)) (by decide);simp only [ht];first|exact h9|exact ⟨trv,h9.2⟩)
  cbv
  refine cD (_,_) (by simp only [ht,←List.length_append];rfl) (n-1) ?_ ((o8 _ _ _).2 ?_)
  ·omega
  simp only [ht,ah]
  exact ⟨q+1,aH (by ((try simp only [ah] at*);omega)),by ((try simp only [ah] at*);omega),by rw [j4,dP mx];simp [Int.cells]⟩
 simp [ht,ah,aL,aR,aM,aT,aF,az,aE,Hw] at h2
 cbv
 refine aA trv (by simp [ht]) rfl rfl rfl ?_
 (rw [List.take_of_length_le (by ((try simp only [ah] at*);omega))] at j4;simp only [ht,EJ,hSe ‹_›,j4];done)
theorem VL (ht:TT t) (rd nx ef af:Int) {nl:List Node} {pl:List Place} {tl:List bw} {jl:List Jb} {ql:List cj} {el al:List dW} {ns ps ts js qs es bU:List (List D)} (fc:ns=nl.map Node.cells) (hps:ps=pl.map Place.cells) (hts:ts=tl.map bw.cells) (eN:js=jl.map Jb.cells) (eD:qs=ql.map cj.cells) (aG:es=el.map dW.cells) (has:bU=al.map dW.cells) (id:Int) {ids:List Int} {ir:List (List D)} (XR:ir=ids.map Int.cells) (hil:ids.length<1000000) (hg:∀k,(aI ⟨rd,nx,⟨nl,pl⟩,tl,jl,ql,⟨ef,el⟩,⟨af,al⟩⟩ (ids.take k)).sm):
 FC 52 [SL ir,.ptr 0 0,.ptr 1 0] [.var [aD rd,aD nx,SL ns,SL ps,SL ts,SL js,SL qs,aD ef,SL es,aD af,SL bU],.var [aD id]] (.ret (yB t (t _ fun _=>fW ⟨rd,nx,⟨nl,pl⟩,tl,jl,ql,⟨ef,el⟩,⟨af,al⟩⟩ id ids))) [.var [aD rd,aD nx,SL ns,SL ps,SL ts,SL js,SL qs,aD ef,SL es,aD af,SL bU],.var [aD id]]:=by
 have wq:(aI ⟨rd,nx,⟨nl,pl⟩,tl,jl,ql,⟨ef,el⟩,⟨af,al⟩⟩ ids).sm:=by have:=hg ids.length;rwa [List.take_length] at this
 obtain ⟨w,hw⟩:∃w,w=aI ⟨rd,nx,⟨nl,pl⟩,tl,jl,ql,⟨ef,el⟩,⟨af,al⟩⟩ ids:=⟨_,rfl⟩
 have he:fW ⟨rd,nx,⟨nl,pl⟩,tl,jl,ql,⟨ef,el⟩,⟨af,al⟩⟩ id ids=gi w id:=by rw [hw];rfl
 rw [he]
 have hW:=JY ht rd nx ef af fc hps hts eN eD aG has XR hil hg
 rw [←hw] at hW wq
 refine bP ht (aV:=[.var [aD rd,aD nx,SL ns,SL ps,SL ts,SL js,SL qs,aD ef,SL es,aD af,SL bU],.var [aD id]]) Tryz.func52 rfl rfl (N:=13) rfl rfl (n:=2) rfl rfl ?_
 cbv
 have aL:ns.length=nl.length:=by rw [fc,lgM]
 have aR:ps.length=pl.length:=by rw [hps,lgM]
 have aM:ts.length=tl.length:=by rw [hts,lgM]
 have aT:js.length=jl.length:=by rw [eN,lgM]
 have aF:qs.length=ql.length:=by rw [eD,lgM]
 have az:es.length=el.length:=by rw [aG,lgM]
 have aE:bU.length=al.length:=by rw [has,lgM]
 have JZ:ir.length=ids.length:=by rw [XR,lgM]
 refine dK [false,false,false,false,true,false,false,true,true] (by kernel_rfl) (by kernel_rfl) ?_
 cbv
 iterate 2 refine gI (by simp [ht,aj]) ?_
 refine .inl ?_
 (refine m8 (fun g=>⟨by simp [ht],trv,hW⟩) rfl rfl rfl ?_)
 cbv
 refine gI (by simp [ht,aj]) ?_
 refine aK trv (S3 ht _ _ _ _ (kI ht rfl) (kI ht rfl) (kI ht rfl) (kI ht rfl) (kI ht rfl) (kI ht rfl) (kI ht rfl) (by (simp only [ht];((try simp only [ah] at*);omega))) _) trv rfl rfl rfl (fun r0 c7=>?_)
 simp only [ht] at c7
 cbv
 iterate 2 refine gI (by simp [ht,aj]) ?_
 refine aA trv trv rfl rfl rfl ?_
 (simp [ht,yB,fm, *];done)
end Dem
end
