/- Parts of a proof, joined. -/
import Derived.Test.YtihohjnkkalgiaaGreatDoorV09
set_option linter.all false
set_option maxRecDepth 100000
set_option maxHeartbeats 4000000
section
open Go
namespace Dem
def aU.E9 (s:aU):Prop:=∀w∈s.av,w.runs=false→cO s w.id=true→∀o∈s.av,o.runs=true→o.x.prio<w.x.prio→o.id<12
structure aU.fair (s:aU):Prop where
 ok:s.ok
 eX:s.eX sQ
 E9:s.E9
theorem aU.good.fair {s:aU} (h:s.good):s.fair:=⟨h.ok,h.eX,fun _ _ _ _ o ho hr _=>h.zf o ho hr⟩
theorem fF.trans {s t u:aU} (h:fF s t) (g:fF t u):fF s u:=by
 refine ⟨g.nodes.trans h.nodes,fun e he=>?_,fun j hj=>?_⟩
 ·obtain ⟨f,hf,e1⟩:=g.paths e he
  obtain ⟨k,hk,e2⟩:=h.paths f hf
  exact ⟨k,hk,e1.trans e2⟩
 obtain ⟨f,hf,e1⟩:=g.xs j hj
 obtain ⟨k,hk,e2⟩:=h.xs f hf
 exact ⟨k,hk,e1.trans e2⟩
theorem Fa {s:aU} (h:s.ok) {i:Nat} {j:Jb} (hj:s.av[i]?=some j) (hr:j.runs=true):bV s.tree (bN s j.id).tree∧fF s (bN s j.id):=by
 obtain ⟨h1,h2,_⟩:=dP h.ids hj
 have hl:=(h.left j (List.mem_of_getElem? hj)).1 hr
 have e:sW s i={s with av:=s.av.set i (j.to (j.left-1))}:=by unfold sW;rw [h2]
 unfold bN
 rw [h1]
 simp only
 rw [h2,e]
 by_cases c:j.left=1
 ·rw [if_pos (by omega),E6 h hj]
  have hk:=Dn h j.id 3
  obtain ⟨_,_,g⟩:=vT h hj 3
  obtain ⟨T,gT,g2⟩:=g hr
  refine ⟨?_,hk⟩
  rw [g2];exact gT
 rw [if_neg (by omega)]
 exact ⟨bV.refl _,⟨rfl,fun e he=>⟨e,he,rfl⟩,Kc hj rfl⟩⟩
theorem pi:∀(R:List Int) {t:aU},t.ok→R.Nodup→(∀id∈R,∃j∈t.av,j.id=id∧j.runs=true)→
 bV t.tree (R.foldl bN t).tree∧fF t (R.foldl bN t)
 |[],t,_,_,_=>⟨bV.refl _,fF.refl _⟩
 |id::R,t,h,hn,hj=>by
  obtain ⟨Ac,hn2⟩:=List.nodup_cons.1 hn
  obtain ⟨o,hm,rfl,hr⟩:=hj id (by simp)
  obtain ⟨i,hi⟩:=List.getElem?_of_mem hm
  have c1:=(nw h hi hr).1
  have c4:=ug h hi hr
  have hj2:∀x∈R,∃y∈(bN t o.id).av,y.id=x∧y.runs=true:=by
   intro x hx
   obtain ⟨y,hy,rfl,zx⟩:=hj x (by simp [hx])
   have hne:y.id≠o.id:=fun e=>Ac (by rw [←e];exact hx)
   refine ⟨y,?_,rfl,zx⟩
   rw [c4,List.mem_filterMap]
   exact ⟨y,hy,by unfold cnt;rw [if_neg (by simp [hne])]⟩
  obtain ⟨g1,g2⟩:=pi R c1 hn2 hj2
  obtain ⟨k1,k2⟩:=Fa h hi hr
  rw [List.foldl_cons]
  exact ⟨k1.trans g1,k2.trans g2⟩
def Fb (s:aU):aU:={s with round:=u64 (s.round+1)}
theorem sg {s:aU} (h:s.ok):(Fb s).ok:={aG:=h.aG,gE:=h.gE,tree:=h.tree,used:=h.used,most:=h.most,next:=h.next,ids:=h.ids,vK:=h.vK,pG:=h.pG,left:=h.left,jS:=h.jS,kO:=h.kO,ia:=h.ia,places:=h.places,count:=h.count,notes:=h.notes}
theorem ul {s:aU} (h:s.ok):(cI s).Nodup∧∀id∈cI s,∃j∈s.av,j.id=id∧j.runs=true:=by
 refine ⟨?_,fun id hid=>?_⟩
 ·unfold cI
  rw [List.nodup_iff_pairwise_ne,List.pairwise_map]
  exact (h.ids.filter _).imp fun {a b} g=>by omega
 obtain ⟨j,hj,e⟩:=List.mem_map.1 hid
 obtain ⟨h1,h2⟩:=List.mem_filter.1 hj
 exact ⟨j,h1,e,h2⟩
theorem DG {s:aU} (h:s.ok) (l:s.eX sQ) (k:Nat):(((cI s).take k).foldl bN (Fb s)).ok∧(((cI s).take k).foldl bN (Fb s)).eX sQ:=by
 obtain ⟨r1,r2⟩:=ul h
 have n1:((cI s).take k).Nodup:=r1.sublist (List.take_sublist _ _)
 have n2:∀id∈(cI s).take k,∃j∈(Fb s).av,j.id=id∧j.runs=true:=fun id hid=>r2 id (List.mem_of_mem_take hid)
 exact ⟨(qX _ (sg h) n1 n2).1,(pi _ (sg h) n1 n2).2.eX ⟨l.names,l.paths,l.xs⟩⟩
theorem Ip {s:aU} (h:s.ok):bV s.tree (ek s).tree∧fF s (ek s):=by
 obtain ⟨r1,r2⟩:=ul h
 obtain ⟨a,b⟩:=pi (cI s) (sg h) r1 r2
 exact ⟨a,⟨b.nodes,b.paths,b.xs⟩⟩
theorem aU.fair.count {s:aU} (h:s.fair):(ek s).fair:=by
 obtain ⟨k1,k2⟩:=Ip h.ok
 obtain ⟨c1,c2,c3,c4⟩:=ny h.ok
 refine ⟨c1,k2.eX h.eX,fun w hw hr hc o ho uq hp=>?_⟩
 have hw':=hw
 rw [c4] at hw ho
 obtain ⟨y,hy,e⟩:=List.mem_filterMap.1 hw
 obtain ⟨z,hz,g⟩:=List.mem_filterMap.1 ho
 obtain ⟨e1,e2,e3,_⟩:=Mi e
 obtain ⟨g1,g2,g3,_⟩:=Mi g
 have hs:=mM h.ok c1 k2.nodes k1 hy (by rw [←e3];exact hr) hw' hr e1 e2
 rw [e1,hs] at hc
 rw [g1]
 exact h.E9 y hy (by rw [←e3];exact hr) hc z hz (by rw [←g3];exact uq) (by rw [←g2,←e2];exact hp)
theorem ri {s:aU} (h:s.ok) {a:Nat} (e:(aY s a).2.2=true):∃j∈s.av,j.id=(aY s a).1∧j.runs=false∧cO s j.id=true∧s.queue[(aY s a).2.1]?=some ⟨j.id,j.x.prio⟩∧∀k,a≤k→k<(aY s a).2.1→∀p,s.queue[k]?=some p→cO s p.id=false:=by
 obtain ⟨n1,q,n2,n3,n4,n5⟩:=(uk s a).1 e
 obtain ⟨o,ho,uq,rfl⟩:=(h.ia q).1 (List.mem_of_getElem? n2)
 exact ⟨o,ho,n3,uq,by rw [show o.id=(aY s a).1 from n3];exact n4,n2,n5⟩
theorem Rw {s:aU} (h:s.ok) (hl:s.E9) {w:Jb} (hw:w∈s.av) (hr:w.runs=false) (hc:cO s w.id=true):(s.av.filter fun o=>o.runs&&decide (o.x.prio<w.x.prio)).length≤12:=by
 have h1:=E0 ((s.av.filter fun o=>o.runs&&decide (o.x.prio<w.x.prio)).map (·.id)) 1 12 (List.pairwise_map.2 (h.ids.filter _)) fun x hx=>by
  obtain ⟨j,hj,rfl⟩:=List.mem_map.1 hx
  obtain ⟨a,b⟩:=List.mem_filter.1 hj
  simp only [Bool.and_eq_true,decide_eq_true_eq] at b
  exact ⟨(h.vK j a).1,hl w hw hr hc j a b.1 b.2⟩
 rw [lgM] at h1;omega
theorem aU.fair.step {s:aU} (h:s.fair) {a:Nat} (hn:mN s a) (e:(bK s a).2.2=true):(bK s a).1.fair:=by
 obtain ⟨c1,c2,c3,hok,rf,hkeep,i,j,hi,hid,hr,sX⟩:=ot h.ok e
 obtain ⟨j0,hj0,e1,_,e3,e4,e5⟩:=ri h.ok c1
 have hj:=List.mem_of_getElem? hi
 have:j0=j:=cm h.ok.ids hj0 hj (e1.trans hid.symm)
 subst this
 have Ij:∀x∈(aA s (aY s a).1).1,∃y∈s.av,y.id=x∧y.x.prio<j0.x.prio:=by
  intro x hx
  have h1:=((iT h.ok (.inl ⟨j0,hj,hid,hr⟩)).2 c2).2.1 x hx
  have h2:=(dP h.ok.ids hi).2.2
  rw [hid] at h2
  obtain ⟨k,hk⟩:=List.getElem?_of_mem h1
  obtain ⟨o,g1,g2,_,_,g5⟩:=(nv h.ok h2).2.1 k x hk
  exact ⟨o,g1,g2,g5⟩
 have hmem:∀o∈(bK s a).1.av,o=j0.begun∨∃y∈s.av,o=bY (aA s (aY s a).1).1 y:=by
  intro o ho
  rw [sX] at ho
  rcases List.mem_or_eq_of_mem_set ho with g|g
  ·obtain ⟨y,hy,rfl⟩:=List.mem_map.1 g
   exact .inr ⟨y,hy,rfl⟩
  exact .inl g
 have TP:∀w∈s.av,w.runs=false→cO s w.id=true→w.x.prio≤j0.x.prio:=by
  intro w hw Iq Fl
  obtain ⟨k,hk⟩:=List.getElem?_of_mem ((h.ok.ia ⟨w.id,w.x.prio⟩).2 ⟨w,hw,Iq,rfl⟩)
  have hle:(aY s a).2.1≤k:=by
   rcases Nat.lt_or_ge k (aY s a).2.1 with d|d
   ·have:cO s w.id=false:=by
     rcases Nat.lt_or_ge k a with f|f
     ·exact hn k f _ hk
     exact e5 k f d _ hk
    rw [this] at Fl;cases Fl
   exact d
  rcases Nat.eq_or_lt_of_le hle with d|d
  ·rw [←d,e4] at hk
   have:=congrArg ct.prio (Option.some.inj hk)
   simp only at this;omega
  have:=(List.pairwise_iff_getElem.1 h.ok.jS) (aY s a).2.1 k (List.getElem?_eq_some_iff.1 e4).1 (List.getElem?_eq_some_iff.1 hk).1 d
  rw [(List.getElem?_eq_some_iff.1 e4).2,(List.getElem?_eq_some_iff.1 hk).2,fD] at this
  simp only at this;omega
 refine ⟨hok,⟨by rw [rf];exact h.eX.names,fun x hx=>?_,fun o ho=>?_⟩,fun w hw Iq Fl o ho uq hp=>?_⟩
 ·obtain ⟨f,hf,e6⟩:=oo hkeep x hx
  rw [e6];exact h.eX.paths f hf
 ·rcases hmem o ho with rfl|⟨y,hy,rfl⟩
  ·exact h.eX.xs j0 hj
  rw [(bB _ y).2];exact h.eX.xs y hy
 have hw':=hw
 rcases hmem w hw with rfl|⟨y,hy,rfl⟩
 ·cases Iq
 rw [(bB _ y).2] at hp
 rw [(bB _ y).1] at Fl
 have key:∀z∈s.av,o=bY (aA s (aY s a).1).1 z→z.runs=true∧o.id=z.id∧o.x=z.x:=by
  intro z _ ez
  rw [ez] at uq
  exact ⟨((c5 _ z).1 uq).1,by rw [ez];exact (bB _ z).1,by rw [ez];exact (bB _ z).2⟩
 by_cases zx:y.runs=true
 ·have hv:y.id∈(aA s (aY s a).1).1:=by
   rcases Classical.em (y.id∈(aA s (aY s a).1).1) with g|g
   ·exact g
   have:=(c5 (aA s (aY s a).1).1 y).2 ⟨zx,g⟩
   rw [this] at Iq;cases Iq
  obtain ⟨y2,OZ,f1,f2⟩:=Ij _ hv
  have:=cm h.ok.ids OZ hy f1
  subst this
  rcases hmem o ho with rfl|⟨z,hz,ez⟩
  ·have:j0.x.prio<y2.x.prio:=hp
   omega
  obtain ⟨k1,k2,k3⟩:=key z hz ez
  rw [k2]
  exact h.E9 j0 hj hr e3 z hz k1 (by rw [←k3];omega)
 have RP:y.runs=false:=by simpa using zx
 have hs:=mM h.ok hok rf hkeep hy RP hw' Iq (bB _ y).1 (bB _ y).2
 rw [hs] at Fl
 have h3:=TP y hy RP Fl
 rcases hmem o ho with rfl|⟨z,hz,ez⟩
 ·have:j0.x.prio<y.x.prio:=hp
  omega
 obtain ⟨k1,k2,k3⟩:=key z hz ez
 rw [k2]
 exact h.E9 y hy RP Fl z hz k1 (by rw [←k3];exact hp)
theorem aU.fair.Rv {s t:aU} {l:List Int} (h:s.fair) (g:iz s l t) {j:Jb} (hj:j∈s.av) (hr:j.runs=false) (hc:cO s j.id=true) (hl:∀y∈s.av,y.id∈l→y.x.prio<j.x.prio):t.fair:=by
 refine ⟨g.ok,fF.eX ⟨g.nodes,oo g.tree,fun o ho=>?_⟩ h.eX,fun w hw Iq Fl o ho uq hp=>?_⟩
 ·rw [g.av] at ho
  obtain ⟨y,hy,rfl⟩:=List.mem_map.1 ho
  exact ⟨y,hy,(bB l y).2⟩
 have hw':=hw
 rw [g.av] at hw ho
 obtain ⟨y,hy,rfl⟩:=List.mem_map.1 hw
 obtain ⟨z,hz,rfl⟩:=List.mem_map.1 ho
 rw [(bB l y).2,(bB l z).2] at hp
 rw [(bB l z).1]
 have hzr:=((c5 l z).1 uq).1
 by_cases zx:y.runs=true
 ·have hv:y.id∈l:=by
   rcases Classical.em (y.id∈l) with f|f
   ·exact f
   rw [(c5 l y).2 ⟨zx,f⟩] at Iq;cases Iq
  have:=hl y hy hv
  exact h.E9 j hj hr hc z hz hzr (by omega)
 have RP:y.runs=false:=by simpa using zx
 have hs:=mM h.ok g.ok g.nodes g.tree hy RP hw' Iq (bB l y).1 (bB l y).2
 rw [(bB l y).1,hs] at Fl
 exact h.E9 y hy RP Fl z hz hzr hp
theorem aU.fair.stays {s:aU} (h:s.fair) {a:Nat} (e:(bK s a).2.2=false):(bK s a).1.fair:=by
 unfold bK at e ⊢
 split
 ·exact h
 rename_i c1
 rw [if_neg c1] at e
 split
 ·exact h
 rename_i c2
 rw [if_neg c2] at e
 split
 ·obtain ⟨j,hj,e1,hr,hc,_⟩:=ri h.ok (a:=a) (by simpa using c1)
  refine h.Rv (cP h.ok _) hj hr hc fun y hy hv=>?_
  have h1:=((iT h.ok (.inl ⟨j,hj,e1,hr⟩)).2 (by simpa using c2)).2.1 y.id hv
  obtain ⟨i,hi⟩:=List.getElem?_of_mem hj
  have h2:=(dP h.ok.ids hi).2.2
  rw [e1] at h2
  obtain ⟨k,hk⟩:=List.getElem?_of_mem h1
  obtain ⟨o,g1,g2,_,_,g5⟩:=(nv h.ok h2).2.1 k y.id hk
  rw [cm h.ok.ids g1 hy g2] at g5;exact g5
 rename_i c3
 rw [if_neg c3] at e;cases e
theorem wg:∀(n:Nat) {s:aU} {a:Nat},s.fair→mN s a→(cN n s a).fair
 |0,_,_,h,_=>h
 |n+1,s,a,h,hn=>by
  unfold cN
  cases e:(bK s a).2.2 with
  |true=>rw [if_pos rfl];exact wg n (h.step hn e) (q8 h.ok hn e)
  |false=>rw [if_neg (by decide)];exact h.stays e
theorem aU.fair.tick {s:aU} (h:s.fair):(iA s).fair:=wg 128 h.count (fun k hk=>by omega)
end Dem
end
section
open Go Dem Go.Proofs
namespace Dem
variable {t:Th}
theorem aU.fair.sm {s:aU} (h:s.fair):s.sm:=h.ok.small h.eX
theorem BN {s:aU} (h:s.fair) (l:List Int):(aH s l).sm:=by
 have g:=cP h.ok l
 refine g.ok.small (fF.eX ⟨g.nodes,oo g.tree,fun j hj=>?_⟩ h.eX)
 rw [g.av] at hj
 obtain ⟨y,hy,rfl⟩:=List.mem_map.1 hj
 exact ⟨y,hy,(bB l y).2⟩
theorem yL {s:aU} (h:s.ok) (id:Int):(bX s id).length<1000:=by
 have h1:=h.most
 unfold bX
 split
 ·simp
 rw [lgM,List.length_mergeSort]
 have:=List.length_filter_le (fun o:Jb=>o.runs&&decide (o.x.prio<(bD s.av id).1.x.prio)) s.av
 omega
theorem Cm {s:aU} (h:s.ok) (id:Int):(aA s id).1.length<1000000∧(aA s id).2.1.length<1000000:=by
 have ha:=yL h id
 unfold aA
 split
 ·simp
 rename_i l nodes e
 have h1:=BJ _ _ _ _ e
 have h2:=uf (s:=s) (id:=id) (l.length+1) 0 l nodes h1.2
 exact ⟨by have:=h2.1;simp only;omega,h2.2⟩
theorem KW (ht:TT t) {s:aU} (h:s.fair) {a:Nat} (e:(aY s a).2.2=true):FC 19 [.agg [aB s.round,aB s.next,SL (s.aG.nodes.map Node.cells),SL (s.aG.places.map Place.cells),SL (s.tree.map bc.cells),SL (s.av.map Jb.cells),SL (s.queue.map ct.cells),aB s.ev.first,SL (s.ev.l.map dU.cells),aB s.au.first,SL (s.au.l.map dU.cells)],aB (aY s a).1] [] (.ret (Wt t (t _ fun _=>aA s (aY s a).1))) []:=by
 obtain ⟨j,hj,e1,hr,hc,_⟩:=ri h.ok e
 obtain ⟨i,hi⟩:=List.getElem?_of_mem hj
 have hf:=(dP h.ok.ids hi).2.2
 rw [e1] at hf
 have h12:(E5 s.av (bD s.av (aY s a).1).1.x.prio).length≤12:=by rw [hf];exact Rw h.ok h.E9 hj hr hc
 have hjl:=h.sm.av.1
 refine KR ht s.round s.next s.ev.first s.au.first rfl rfl rfl rfl rfl rfl rfl _ ?_ (yL h.ok _) (BN h)
 rcases Nat.eq_zero_or_pos (E5 s.av (bD s.av (aY s a).1).1.x.prio).length with g|g
 ·exact Rl ht _ _ _ _ rfl rfl rfl rfl rfl rfl rfl _ hjl (List.length_eq_zero_iff.1 g)
 exact Rm ht _ _ _ _ rfl rfl rfl rfl rfl rfl rfl _ hjl rfl g h12 h.ok.ids
theorem Rx (ht:TT t) {s:aU} (h:s.fair) (a:Nat) (ha:a<1000000) {aa:Int} (RN:aa=a) {rd nx ef af:Int} {ns ps ts js qs es cu:List (List D)} (hT:Told s rd nx ns ps ts js qs ef es af cu):
 FC 72 [.agg [aB rd,aB nx,SL ns,SL ps,SL ts,SL js,SL qs,aB ef,SL es,aB af,SL cu,bF aa]] [] (.ret (Wy t (t _ fun _=>bK s a))) []:=by
 obtain ⟨rfl,rfl,rfl,rfl,rfl,rfl,rfl,rfl,rfl,rfl,rfl⟩:=hT
 refine Rs ht s.round s.next s.ev.first s.au.first rfl rfl rfl rfl rfl rfl rfl a RN (w:=aY s a) rfl (vi:=if (aY s a).2.2 then aA s (aY s a).1 else ([],[],false)) (fun e=>by rw [if_pos e]) ?_ (fun e=>?_) ?_ (fun k=>BN h _)
 ·exact Mh ht s.round s.next s.ev.first s.au.first rfl rfl rfl rfl rfl rfl rfl (fun id=>xw ht s.round s.next s.ev.first s.au.first rfl rfl rfl rfl rfl rfl rfl h.sm id) h.sm.queue a RN ha
 ·rw [if_pos e];exact KW ht h e
 split
 ·exact Cm h.ok _
 simp
theorem Ry {s:aU} (hf:s.fair) {a:Nat} (ha:a<1000000):(bK s a).2.1<1000000:=by
 have h:=hf.ok
 cases e:(bK s a).2.2 with
 |true=>
  obtain ⟨c1,_,c3,_⟩:=ot h e
  obtain ⟨j,_,_,_,_,e4,_⟩:=ri h c1
  have:=(List.getElem?_eq_some_iff.1 e4).1
  have h2:=hf.sm.queue
  omega
 |false=>
  unfold bK at e ⊢
  split
  ·exact ha
  split
  ·exact ha
  split
  ·exact ha
  rename_i g1 g2 g3;rw [if_neg g1,if_neg g2,if_neg g3] at e;cases e
theorem Ir (ht:TT t) (rd nx ef af:Int) {nl:List Node} {pl:List Place} {tl:List bc} {jl:List Jb} {ql:List ct} {el al:List dU} {ns ps ts js qs es cu:List (List D)} (fI:ns=nl.map Node.cells) (hps:ps=pl.map Place.cells) (hts:ts=tl.map bc.cells) (eW:js=jl.map Jb.cells) (dZ:qs=ql.map ct.cells) (aD:es=el.map dU.cells) (has:cu=al.map dU.cells) (h:(⟨rd,nx,⟨nl,pl⟩,tl,jl,ql,⟨ef,el⟩,⟨af,al⟩⟩:aU).fair):FC 29 [.agg [aB rd,aB nx,SL ns,SL ps,SL ts,SL js,SL qs,aB ef,SL es,aB af,SL cu]] [] (.ret (fZ t (t _ fun _=>ek ⟨rd,nx,⟨nl,pl⟩,tl,jl,ql,⟨ef,el⟩,⟨af,al⟩⟩))) []:=by
 refine Rr ht _ _ _ _ fI hps hts eW dZ aD has h.sm.av.1 (fun k=>?_) (fun k x hx=>?_)
 ·have:=DG h.ok h.eX k
  exact this.1.small this.2
 have g:=(DG h.ok h.eX k).1
 have h1:=g.left x hx
 have h2:=(cZ.1 (g.pG x hx).1)
 rcases Bool.eq_false_or_eq_true x.runs with r|r
 ·have:=h1.1 r;omega
 have:=h1.2 r;omega
theorem Rz (ht:TT t) {s:aU} (h:s.fair):FC 30 [fZ t s] [] (.ret (fZ t (t _ fun _=>xF s))) []:=
 Ob ht _ _ _ _ (by simp only [ht]) (by simp only [ht]) (by simp only [ht]) (by simp only [ht]) (by simp only [ht]) (by simp only [ht]) (by simp only [ht]) (fun T a=>T.fair∧mN T a∧a<1000000) ⟨h,fun k hk=>by omega,by omega⟩ (fun T a g e=>⟨g.1.step g.2.1 e,q8 g.1.ok g.2.1 e,Ry g.1 g.2.2⟩) (fun T a g rd nx ns ps ts js qs ef es af cu hT aa RN=>Rx ht g.1 a g.2.2 RN hT)
theorem Mj (ht:TT t) (rd nx ef af:Int) {nl:List Node} {pl:List Place} {tl:List bc} {jl:List Jb} {ql:List ct} {el al:List dU} {ns ps ts js qs es cu:List (List D)} (fI:ns=nl.map Node.cells) (hps:ps=pl.map Place.cells) (hts:ts=tl.map bc.cells) (eW:js=jl.map Jb.cells) (dZ:qs=ql.map ct.cells) (aD:es=el.map dU.cells) (has:cu=al.map dU.cells) (h:(⟨rd,nx,⟨nl,pl⟩,tl,jl,ql,⟨ef,el⟩,⟨af,al⟩⟩:aU).fair):FC 27 [.agg [aB rd,aB nx,SL ns,SL ps,SL ts,SL js,SL qs,aB ef,SL es,aB af,SL cu]] [] (.ret (fZ t (t _ fun _=>iA ⟨rd,nx,⟨nl,pl⟩,tl,jl,ql,⟨ef,el⟩,⟨af,al⟩⟩))) []:=by
 obtain ⟨C,hC⟩:∃C,C=ek ⟨rd,nx,⟨nl,pl⟩,tl,jl,ql,⟨ef,el⟩,⟨af,al⟩⟩:=⟨_,rfl⟩
 have fC:C.fair:=by rw [hC];exact h.count
 have cc:FC 29 [.agg [aB rd,aB nx,SL ns,SL ps,SL ts,SL js,SL qs,aB ef,SL es,aB af,SL cu]] [] (.ret (fZ t (t _ fun _=>C))) []:=by rw [hC];exact Ir ht _ _ _ _ fI hps hts eW dZ aD has h
 obtain ⟨R,hR⟩:∃R,R=iA ⟨rd,nx,⟨nl,pl⟩,tl,jl,ql,⟨ef,el⟩,⟨af,al⟩⟩:=⟨_,rfl⟩
 have cp:FC 30 [fZ t C] [] (.ret (fZ t (t _ fun _=>R))) []:=by
  rw [show R=xF C by rw [hR,hC];rfl];exact Rz ht fC
 rw [←hR]
 clear hR hC h
 refine cL ht Tryz.func27 (N:=6) ?_
 cbv
 obtain ⟨dS,eU,ej,eV,cW,aQ,dw⟩:=gF fI hps hts eW dZ aD has
 (refine aC cc (by simp) (fun r1 cR=>?_);simp only [ht] at cR;subst r1)
 cbv
 (refine aC cp (by simp) (fun r2 ix=>?_);simp only [ht] at ix;subst r2)
 cbv
 refine an ?_
 (simp only [ht];done)
theorem zy (ht:TT t) (s:aU) (h:s.fair):FC 27 [fZ t s] [] (.ret (fZ t (t _ fun _=>iA s))) []:=
 Mj ht _ _ _ _ (by simp only [ht]) (by simp only [ht]) (by simp only [ht]) (by simp only [ht]) (by simp only [ht]) (by simp only [ht]) (by simp only [ht]) h
theorem RA (ht:TT t) (s:aU) (h:s.fair):FC 29 [fZ t s] [] (.ret (fZ t (t _ fun _=>ek s))) []:=
 Ir ht _ _ _ _ (by simp only [ht]) (by simp only [ht]) (by simp only [ht]) (by simp only [ht]) (by simp only [ht]) (by simp only [ht]) (by simp only [ht]) h
theorem Mk (ht:TT t) (s:aU) (h:s.fair) (b:Nat) (hb:b<1000000) {bb:Int} (e:bb=b):FC 28 [fZ t s,bF bb] [] (.ret (Wx t (t _ fun _=>aY s b))) []:=by
 refine Mh ht _ _ _ _ (by simp only [ht]) (by simp only [ht]) (by simp only [ht]) (by simp only [ht]) (by simp only [ht]) (by simp only [ht]) (by simp only [ht]) (fun id=>?_) h.sm.queue b e hb
 exact xw ht _ _ _ _ (by simp only [ht]) (by simp only [ht]) (by simp only [ht]) (by simp only [ht]) (by simp only [ht]) (by simp only [ht]) (by simp only [ht]) h.sm id
theorem RB (ht:TT t) (s:aU) (h:s.fair) (id:Int):FC 23 [fZ t s,aB id] [] (.ret (dH (t _ fun _=>cO s id))) []:=
 xw ht _ _ _ _ (by simp only [ht]) (by simp only [ht]) (by simp only [ht]) (by simp only [ht]) (by simp only [ht]) (by simp only [ht]) (by simp only [ht]) h.sm id
theorem rj (ht:TT t) (s:aU) (h:s.fair) (id:Int):FC 17 [fZ t s,aB id] [] (.ret (VU t (t _ fun _=>bD s.av id))) []:=
 mH ht id _ _ _ _ _ _ _ _ _ _ (by simp only [ht]) (by have:=h.sm.av.1;omega)
end Dem
end
section
open Go
namespace Dem
def WA (c T:aU) (b:Jb):Prop:=b∈T.av∧b.runs=true∧∃o∈c.av,o.id=b.id∧o.runs=false
structure Yields (c T:aU):Prop where
 same:∀o∈T.av,∃p∈c.av,p.id=o.id∧p.x=o.x
 len:T.av.length=c.av.length
 out:∀o∈T.av,o.runs=false→(∃p∈c.av,p.id=o.id∧p.runs=true)→∃b,WA c T b∧o.x.prio<b.x.prio
 first:∀b,WA c T b→∀w∈T.av,w.runs=false→cO T w.id=true→bQ (E7 b) (E7 w)=true
theorem Yields.refl {c:aU} (h:c.ok):Yields c c where
 same:=fun o ho=>⟨o,ho,rfl,rfl⟩
 len:=rfl
 out:=fun o ho hr ⟨p,hp,e,TP⟩=>by
  have:=cm h.ids hp ho e
  rw [this,hr] at TP;cases TP
 first:=fun b ⟨hb,hr,o,ho,e,uq⟩=>by
  have:=cm h.ids ho hb e
  rw [this,hr] at uq;cases uq
theorem DH {V:List Int} {y:Jb} (h:y.id ∉ V):bY V y=y:=by unfold bY;rw [if_neg (by simp [h])]
theorem Yields.step {c T:aU} (hc:c.ok) (h:T.ok) (g:Yields c T) {a:Nat} (hn:mN T a) (e:(bK T a).2.2=true):Yields c (bK T a).1:=by
 obtain ⟨c1,c2,c3,hok,rf,hkeep,i,j,hi,hid,hr,sX⟩:=ot h e
 obtain ⟨j0,hj0,e1,_,e3,e4,e5⟩:=ri h c1
 have hj:=List.mem_of_getElem? hi
 have:j0=j:=cm h.ids hj0 hj (e1.trans hid.symm)
 subst this
 obtain ⟨V,hV⟩:∃V,V=(aA T (aY T a).1).1:=⟨_,rfl⟩
 have Ij:∀x∈V,∃y∈T.av,y.id=x∧y.x.prio<j0.x.prio:=by
  intro x hx
  rw [hV] at hx
  have h1:=((iT h (.inl ⟨j0,hj,hid,hr⟩)).2 c2).2.1 x hx
  have h2:=(dP h.ids hi).2.2
  rw [hid] at h2
  obtain ⟨k,hk⟩:=List.getElem?_of_mem h1
  obtain ⟨o,g1,g2,_,_,g5⟩:=(nv h h2).2.1 k x hk
  exact ⟨o,g1,g2,g5⟩
 rw [←hV] at sX
 have RC:∀y∈T.av,y.id∈V→y.x.prio<j0.x.prio:=by
  intro y hy hv
  obtain ⟨z,hz,f1,f2⟩:=Ij _ hv
  rw [cm h.ids hz hy f1] at f2;exact f2
 have hi2:i<T.av.length:=(List.getElem?_eq_some_iff.1 hi).1
 have YT:j0.begun∈(bK T a).1.av:=by
  rw [sX]
  exact List.mem_of_getElem? (i:=i) (by rw [List.getElem?_set_self (by simpa using hi2)])
 have hin:∀y∈T.av,y.id≠j0.id→bY V y∈(bK T a).1.av:=by
  intro y hy hne
  obtain ⟨k,hk⟩:=List.getElem?_of_mem hy
  have hki:i≠k:=fun e=>by subst e;rw [hi] at hk;cases hk;exact hne rfl
  rw [sX]
  exact List.mem_of_getElem? (i:=k) (by rw [List.getElem?_set_ne hki,List.getElem?_map,hk];rfl)
 have hmem:∀o∈(bK T a).1.av,o=j0.begun∨∃y∈T.av,y.id≠j0.id∧o=bY V y:=by
  intro o ho
  have ho':=ho
  rw [sX] at ho
  rcases List.mem_or_eq_of_mem_set ho with f|f
  ·obtain ⟨y,hy,rfl⟩:=List.mem_map.1 f
   by_cases hne:y.id=j0.id
   ·exact .inl (cm hok.ids ho' YT ((bB V y).1.trans hne))
   exact .inr ⟨y,hy,hne,rfl⟩
  exact .inl f
 have TP:∀w∈T.av,w.runs=false→cO T w.id=true→w.id≠j0.id→bQ (E7 j0) (E7 w)=true:=by
  intro w hw Iq Fl hne
  obtain ⟨k,hk⟩:=List.getElem?_of_mem ((h.ia ⟨w.id,w.x.prio⟩).2 ⟨w,hw,Iq,rfl⟩)
  have hle:(aY T a).2.1≤k:=by
   rcases Nat.lt_or_ge k (aY T a).2.1 with d|d
   ·have:cO T w.id=false:=by
     rcases Nat.lt_or_ge k a with f|f
     ·exact hn k f _ hk
     exact e5 k f d _ hk
    rw [this] at Fl;cases Fl
   exact d
  rcases Nat.eq_or_lt_of_le hle with d|d
  ·rw [←d,e4] at hk
   have:=congrArg ct.id (Option.some.inj hk)
   exact absurd this.symm hne
  have:=(List.pairwise_iff_getElem.1 h.jS) (aY T a).2.1 k (List.getElem?_eq_some_iff.1 e4).1 (List.getElem?_eq_some_iff.1 hk).1 d
  rw [(List.getElem?_eq_some_iff.1 e4).2,(List.getElem?_eq_some_iff.1 hk).2] at this
  exact this
 have hnew:∀b,WA c T b→b.id ∉ V∧b.id≠j0.id:=by
  rintro b ⟨hb,TA,Zr⟩
  refine ⟨fun hv=>?_,fun hb0=>?_⟩
  ·have h1:=RC b hb hv
   have h2:=g.first b ⟨hb,TA,Zr⟩ j0 hj0 hr e3
   rw [fD] at h2
   simp only [E7] at h2;omega
  have:=cm h.ids hb hj0 hb0
  rw [this,hr] at TA;cases TA
 have RD:∀b,WA c T b→WA c (bK T a).1 b:=by
  intro b hb
  obtain ⟨n1,n2⟩:=hnew b hb
  have:=hin b hb.1 n2
  rw [DH n1] at this
  exact ⟨this,hb.2.1,hb.2.2⟩
 have UU:∀b,WA c (bK T a).1 b→b=j0.begun∨WA c T b:=by
  rintro b ⟨hb,TA,Zr⟩
  rcases hmem b hb with f|⟨y,hy,_,rfl⟩
  ·exact .inl f
  obtain ⟨f1,f2⟩:=(c5 V y).1 TA
  rw [DH f2] at Zr ⊢
  exact .inr ⟨hy,f1,Zr⟩
 refine ⟨fun o ho=>?_,?_,fun o ho uq hp=>?_,fun b hb w hw Iq Fl=>?_⟩
 ·rcases hmem o ho with rfl|⟨y,hy,_,rfl⟩
  ·exact g.same j0 hj0
  obtain ⟨p,hp,p1,p2⟩:=g.same y hy
  exact ⟨p,hp,p1.trans (bB V y).1.symm,p2.trans (bB V y).2.symm⟩
 ·rw [sX];simp only [List.length_set,lgM];exact g.len
 ·rcases hmem o ho with rfl|⟨y,hy,_,rfl⟩
  ·cases uq
  rw [(bB V y).1] at hp
  rw [(bB V y).2]
  by_cases zx:y.runs=true
  ·have hv:y.id∈V:=by
    rcases Classical.em (y.id∈V) with f|f
    ·exact f
    have:=(c5 V y).2 ⟨zx,f⟩
    rw [this] at uq;cases uq
   have hlt:=RC y hy hv
   obtain ⟨p0,Qa,q1,_⟩:=g.same j0 hj0
   cases YU:p0.runs with
   |false=>exact ⟨j0.begun,⟨YT,rfl,p0,Qa,q1,YU⟩,hlt⟩
   |true=>
    obtain ⟨b,hb,hlt2⟩:=g.out j0 hj0 hr ⟨p0,Qa,q1,YU⟩
    exact ⟨b,RD b hb,by omega⟩
  obtain ⟨b,hb,hlt⟩:=g.out y hy (by simpa using zx) hp
  exact ⟨b,RD b hb,hlt⟩
 have hw':=hw
 rcases hmem w hw with rfl|⟨y,hy,hne,rfl⟩
 ·cases Iq
 have er:E7 (bY V y)=E7 y:=by unfold E7;rw [(bB V y).1,(bB V y).2]
 rw [(bB V y).1] at Fl
 rw [er]
 by_cases zx:y.runs=true
 ·have hv:y.id∈V:=by
   rcases Classical.em (y.id∈V) with f|f
   ·exact f
   have:=(c5 V y).2 ⟨zx,f⟩
   rw [this] at Iq;cases Iq
  have hlt:=RC y hy hv
  rcases UU b hb with rfl|hb
  ·rw [fD];exact .inl hlt
  have h2:=g.first b hb j0 hj0 hr e3
  rw [fD] at h2 ⊢
  simp only [E7] at h2 ⊢;omega
 have RP:y.runs=false:=by simpa using zx
 have hs:=mM h hok rf hkeep hy RP hw' Iq (bB V y).1 (bB V y).2
 rw [hs] at Fl
 rcases UU b hb with rfl|hb
 ·exact TP y hy RP Fl hne
 exact g.first b hb y hy RP Fl
theorem rm {c:aU} (hc:c.ok):∀(n:Nat) {s:aU} {a:Nat},s.ok→mN s a→Yields c s→Yields c (cN n s a)
 |0,_,_,_,_,g=>g
 |n+1,s,a,h,hn,g=>by
  unfold cN
  cases e:(bK s a).2.2 with
  |true=>rw [if_pos rfl];exact rm hc n (qZ h a) (q8 h hn e) (g.step hc h hn e)
  |false=>rw [if_neg (by decide),(Im h e).1];exact g
theorem Cn {s:aU} (h:s.ok):Yields s (xF s):=rm h 128 h (fun k hk=>by omega) (Yields.refl h)
theorem Od {s:aU} (h:s.ok) {p:Jb} (hp:p∈s.av) (hn:¬(p.runs=true∧p.left=1)):mO p.id (ek s).aG.places=mO p.id s.aG.places:=by
 obtain ⟨r1,r2⟩:=ul h
 exact (BM (cI s) (sg h) r1 r2).2 p hp (fun c=>hn ⟨c.1,c.2.2⟩)
theorem Ml {q p:Jb} (e:Ik q=some p):q.id=p.id∧q.x=p.x∧(p.runs=true→q.runs=true∧q.left≠1∧p.left=q.left-1):=by
 unfold Ik at e
 split at e
 ·rename_i hr
  split at e
  ·cases e
  rename_i hl
  cases e
  exact ⟨rfl,rfl,fun _=>⟨hr,hl,rfl⟩⟩
 rename_i hr
 cases e
 exact ⟨rfl,rfl,fun c=>absurd c hr⟩
theorem Oe {s:aU} (h:s.ok) {j:Jb} (hj:j∈(iA s).av) (hr:j.runs=true):
 ∃q,bD s.av j.id=(q,true)∧q∈s.av∧
 (q.runs=true∧j.left=q.left-1→mO j.id (iA s).aG.places=mO j.id s.aG.places)∧
 (¬(q.runs=true∧j.left=q.left-1)→j.left=j.x.eI∧((mO j.id (iA s).aG.places).length:Int)=j.x.count∧
  ∀n∈mO j.id (iA s).aG.places,∃d,dM n (iA s).aG.nodes=(d,true)∧d.up=true∧d∈(iA s).aG.nodes∧iL j.x.cg d.labels=true):=by
 obtain ⟨c1,_,_,cj⟩:=ny h
 obtain ⟨p0,Qa,e0,ex⟩:=(Cn c1).same j hj
 rw [cj,List.mem_filterMap] at Qa
 obtain ⟨q,hq,eq⟩:=Qa
 obtain ⟨q1,q2,_⟩:=Ml eq
 obtain ⟨i,hi⟩:=List.getElem?_of_mem hq
 have hqj:q.id=j.id:=q1.trans e0
 refine ⟨q,by rw [←hqj];exact (dP h.ids hi).2.2,hq,?_⟩
 rcases (E8 h).2 j hj hr with ⟨w,hw,w1,w2,w3,w4⟩|⟨a,b,c⟩
 ·rw [cj,List.mem_filterMap] at hw
  obtain ⟨p,hp,ep⟩:=hw
  obtain ⟨p1,_,p3⟩:=Ml ep
  obtain ⟨k1,k2,k3⟩:=p3 w2
  have:p=q:=cm h.ids hp hq (by rw [p1,w1,hqj])
  subst this
  refine ⟨fun _=>by rw [w4,←hqj];exact Od h hq (fun c=>k2 c.2),fun hn=>absurd ⟨k1,by rw [←w3,k3]⟩ hn⟩
 refine ⟨fun ⟨k1,k2⟩=>?_,fun _=>⟨a,b,fun n hn=>?_⟩⟩
 ·exfalso
  have h1:=(h.left q hq).1 k1
  rw [q2,ex] at h1
  omega
 obtain ⟨d,d1,d2,d3,d4⟩:=c n hn
 refine ⟨d,?_,d3,d1,d4⟩
 rw [←d2]
 exact wU (Rt h).aG.wT d1
end Dem
end
section
open Go Dem Go.Proofs
namespace Dem
variable {t:Th}
theorem KX (ht:TT t) {l m:List aI} {es fs:List (List D)} (aD:es=l.map bf) (Yq:fs=m.map bf) (hl:l.length<1000000000) (hm:m.length<1000000000):
 FC 32 [SL es,SL fs] [] (.ret (dH (t _ fun _=>decide (l=m)))) []:=by
 refine kM ht (bC:=[]) Tryz.func32 rfl rfl (N:=26) rfl rfl (n:=0) rfl rfl ?_
 cbv
 have aQ:es.length=l.length:=by rw [aD,lgM]
 have mJ:fs.length=m.length:=by rw [Yq,lgM]
 refine ap (fun h0=>?_) (fun h0=>?_)
 ·simp [ht,ah,aQ,mJ] at h0
  cbv
  refine iq trv trv rfl rfl rfl ?_
  (simp [ht];rintro rfl;simp_all;done)
 simp [ht,ah,aQ,mJ] at h0
 cbv
 obtain ⟨J1,oe⟩:∃J1:Nat→Int→Prop,∀n i,J1 n i↔(∃k:Nat,i=k∧k+n=l.length∧l.length=m.length∧decide (l=m)=decide (l.drop k=m.drop k)):=⟨fun n v=>match v with|i=>(∃k:Nat,i=k∧k+n=l.length∧l.length=m.length∧decide (l=m)=decide (l.drop k=m.drop k)),fun _ _=>Iff.rfl⟩
 refine bE ⟨[0,1,5],[],[]⟩ (σ:=Int) (fun v=>[(5,.d (.int .i64 (t _ fun _=>v)))]) (fun v=>[]) J1 ?_
 cbv
 refine aF ⟨l.length,_,(oe _ _).2 ?_,by simp only [ht];rfl,?_⟩
 ·exact ⟨0,rfl,by simp,by ((try simp only [ah] at*);omega),by simp⟩
 rintro n i hj
 replace hj:=(oe _ _).1 hj
 obtain ⟨k,rfl,j1,j2,j4⟩:=hj
 cbv
 refine ap (fun h2=>?_) (fun h2=>?_)
 ·simp [ht,ah,aQ,mJ] at h2
  cbv
  refine Ut [false,false,false,false,false,false,false,false,true] (by kernel_rfl) (by kernel_rfl) ?_
  cbv
  iterate 2 refine gI (by simp [ht,aJ]) ?_
  refine kL ht aD (cT:=eL t) (by (simp only [ht,ah];omega)) (by (simp only [ht,ah];omega)) (fun _=>rfl) (fun _=>rfl) (fun x3 mx3=>?_)
  simp [ht,ah] at mx3
  rw [gW mx3] at j4
  cbv
  iterate 3 refine gI (by simp [ht,aJ]) ?_
  refine kL ht Yq (cT:=eL t) (by (simp only [ht,ah];omega)) (by (simp only [ht,ah];omega)) (fun _=>rfl) (fun _=>rfl) (fun x4 NC=>?_)
  simp [ht,ah] at NC
  rw [gW NC] at j4
  cbv
  refine gI (by simp [ht,aJ]) ?_
  refine ap (fun h5=>?_) (fun h5=>?_)
  ·simp [ht,ah,aQ,mJ] at h5
   cbv
   refine iq trv trv rfl rfl rfl ?_
   (simp [ht];rintro rfl;simp_all;done)
  simp [ht,ah,aQ,mJ] at h5
  cbv
  refine cr _ (by simp only [ht];rfl) (n-1) ?_ ((oe _ _).2 ?_)
  ·omega
  simp only [ht,ah]
  refine ⟨k+1,aE (by omega),by omega,by omega,?_⟩
  (simp [ht,dH, *];done)
 simp [ht,ah,aQ,mJ] at h2
 cbv
 refine iq trv trv rfl rfl rfl ?_
 (simp [ht,j4,List.drop_eq_nil_of_le (show l.length≤k by omega),List.drop_eq_nil_of_le (show m.length≤k by omega)];done)
theorem Mm (ht:TT t) (bz:Int) {ps:List Place} {es qs:List (List D)} (dZ:qs=ps.map Place.cells) (Fi:ps.length<1000000):
 FC 31 [.agg [SL es,SL qs],aB bz] [] (.ret (AK t (t _ fun _=>mO bz ps))) []:=by
 simpa only [AK,ht] using aag ht bz (es:=es) dZ Fi rfl
theorem BO (bz:Int) (ps:List Place):(mO bz ps).length≤ps.length:=by
 unfold mO;rw [lgM];exact List.length_filter_le _ _
theorem Of {T u:aU} (fT:T.fair) (eu:u=iA T):u.fair∧∀(k:Nat) (x:Jb),u.av[k]?=some x→x.runs=true→∀o,o=bD T.av x.id→
 IntKind.i64.wrap (o.1.left-1)=o.1.left-1∧(o.1.runs=true∧x.left=o.1.left-1→mO x.id u.aG.places=mO x.id T.aG.places)∧
 (¬(o.1.runs=true∧x.left=o.1.left-1)→x.left=x.x.eI∧((mO x.id u.aG.places).length:Int)=x.x.count∧
  ∀n∈mO x.id u.aG.places,∃d,dM n u.aG.nodes=(d,true)∧d.up=true∧d∈u.aG.nodes∧iL x.x.cg d.labels=true):=by
 refine ⟨by rw [eu];exact fT.tick,fun k x hx hr o eo=>?_⟩
 have hm:=List.mem_of_getElem? hx
 rw [eu] at hm
 obtain ⟨q,h1,h2,h3,h4⟩:=Oe fT.ok hm hr
 rw [h1] at eo
 subst eo
 rw [←eu] at h3 h4
 have h5:=fT.ok.left q h2
 have h6:=(cZ.1 (fT.ok.pG q h2).1)
 refine ⟨wrap64 ?_ ?_,h3,h4⟩
 all_goals (
  rcases Bool.eq_false_or_eq_true q.runs with r|r
  ·have:=h5.1 r;simp only;omega
  have:=h5.2 r;simp only;omega)
theorem Fc (ht:TT t) (hx0:FC 25 [] [] (.ret (BL true)) []) (N:Nat) (hN:N<256) {a:Int} (ea:a=N) {l:List jU} {dl:List (List D)} (UZ:dl=l.map jU.cells) (hlu:∀x∈l,x.u) (hll:l.length<9223372036854775808) (r:Nat) (oG:r<256) {rr:Int} (hr:rr=r):
 FC 10 [U8 a,SL dl,U8 rr] [] (.ret (BL true)) []:=by
 obtain ⟨S,hS⟩:∃S,S=ie N l (min l.length 40):=⟨_,rfl⟩
 have fS:S.fair:=by rw [hS];exact (yG _ _ _).fair
 have hL:FC 26 [U8 a,SL dl] [] (.ret (fZ t (t _ fun _=>S))) []:=by rw [hS];exact NT ht N hN ea UZ hlu hll
 have r5:IntKind.i64.wrap (rr.tmod 5)=((r%5:Nat):Int):=by rw [hr,show ((r:Nat):Int).tmod 5=((r%5:Nat):Int) by rw [Int.tmod_eq_emod_of_nonneg (by omega)];rfl,M4 _ (by omega)]
 clear hS
 refine kM ht (bC:=[]) Tryz.func10 rfl rfl (N:=127) rfl rfl (n:=0) rfl rfl ?_
 cbv
 have fH:dl.length=l.length:=by rw [UZ,lgM]
 (refine gR trv hx0 trv rfl rfl ?_)
 cbv
 refine ap (fun h0=>?_) (fun h0=>?_)
 ·simp [ht,ah,fH,r5] at h0
 simp [ht,ah,fH,r5] at h0
 cbv
 (refine nF trv hL (by simp [ht]) rfl rfl rfl (fun r1 cR=>?_);simp only [ht] at cR;subst r1)
 cbv
 obtain ⟨J1,oe⟩:∃J1:Nat→Int×Int×Int×List (List D)×List (List D)×List (List D)×List (List D)×List (List D)×Int×List (List D)×Int×List (List D)→Prop,∀n i rd nx ns ps ts js qs ef es af cu,J1 n (i,rd,nx,ns,ps,ts,js,qs,ef,es,af,cu)↔(∃(k:Nat) (T:aU),i=k∧k+n=r%5+1∧T.fair∧Told T rd nx ns ps ts js qs ef es af cu):=⟨fun n v=>match v with|(i,rd,nx,ns,ps,ts,js,qs,ef,es,af,cu)=>(∃(k:Nat) (T:aU),i=k∧k+n=r%5+1∧T.fair∧Told T rd nx ns ps ts js qs ef es af cu),fun _ _ _ _ _ _ _ _ _ _ _ _ _=>Iff.rfl⟩
 refine bE ⟨[2,7,8,9],[],[]⟩ (σ:=Int×Int×Int×List (List D)×List (List D)×List (List D)×List (List D)×List (List D)×Int×List (List D)×Int×List (List D)) (fun v=>[(9,.d (.int .i64 (t _ fun _=>v.1)))]) (fun v=>[(0,.var [.d (.int .u64 (t _ fun _=>v.2.1)),.d (.int .u64 (t _ fun _=>v.2.2.1)),.d (.sl (t _ fun _=>v.2.2.2.1)),.d (.sl (t _ fun _=>v.2.2.2.2.1)),.d (.sl (t _ fun _=>v.2.2.2.2.2.1)),.d (.sl (t _ fun _=>v.2.2.2.2.2.2.1)),.d (.sl (t _ fun _=>v.2.2.2.2.2.2.2.1)),.d (.int .u64 (t _ fun _=>v.2.2.2.2.2.2.2.2.1)),.d (.sl (t _ fun _=>v.2.2.2.2.2.2.2.2.2.1)),.d (.int .u64 (t _ fun _=>v.2.2.2.2.2.2.2.2.2.2.1)),.d (.sl (t _ fun _=>v.2.2.2.2.2.2.2.2.2.2.2))])]) J1 ?_
 cbv
 refine aF ⟨(r%5+1),(_,_,_,_,_,_,_,_,_,_,_,_),(oe _ _ _ _ _ _ _ _ _ _ _ _ _).2 ?_,by simp only [ht];rfl,?_⟩
 ·exact ⟨0,S,rfl,by simp,fS,Told.self S⟩
 rintro n ⟨i,rd,nx,ns,ps,ts,js,qs,ef,es,af,cu⟩ hj
 replace hj:=(oe _ _ _ _ _ _ _ _ _ _ _ _ _).1 hj
 obtain ⟨k,T,rfl,j1,fT,jT⟩:=hj
 cbv
 refine ⟨?_,?_⟩
 ·(simp only [ht,ah] at*;omega)
 cbv
 refine ap (fun h2=>?_) (fun h2=>?_)
 ·simp [ht,ah,fH,r5] at h2
  cbv
  (refine nF trv (Mj ht _ _ _ _ (nl:=T.aG.nodes) (pl:=T.aG.places) (tl:=T.tree) (jl:=T.av) (ql:=T.queue) (el:=T.ev.l) (al:=T.au.l) (by simp only [ht];exact jT.n) (by simp only [ht];exact jT.p) (by simp only [ht];exact jT.t) (by simp only [ht];exact jT.j) (by simp only [ht];exact jT.q) (by simp only [ht];exact jT.e) (by simp only [ht];exact jT.a) (by simp only [ht];rw [jT.eq];exact fT)) (by simp [ht]) rfl rfl rfl (fun u eu=>?_);simp only [ht] at eu;rw [jT.eq] at eu;obtain ⟨fu,hw⟩:=Of fT eu;have su:=fu.sm;have sT:=fT.sm;have sJ:=su.av.1)
  cbv
  obtain ⟨J3,Wd⟩:∃J3:Nat→Int→Prop,∀n2 i,J3 n2 i↔(∃k:Nat,i=k∧k+n2=u.av.length):=⟨fun n2 v=>match v with|i=>(∃k:Nat,i=k∧k+n2=u.av.length),fun _ _=>Iff.rfl⟩
  refine bE ⟨[2,7,8,9,10,11],[],[]⟩ (σ:=Int) (fun v=>[(11,.d (.int .i64 (t _ fun _=>v)))]) (fun v=>[]) J3 ?_
  cbv
  refine aF ⟨u.av.length,_,(Wd _ _).2 ?_,by simp only [ht];rfl,?_⟩
  ·exact ⟨0,rfl,by simp⟩
  rintro n2 i hj
  replace hj:=(Wd _ _).1 hj
  obtain ⟨k2,rfl,j2⟩:=hj
  cbv
  refine ap (fun h4=>?_) (fun h4=>?_)
  ·simp [ht,ah,fH,r5] at h4
   cbv
   (first|(refine kL ht (l:=u.av) (cells:=Jb.cells) (cT:=Jb.bw t) (by simp only [ht]) (by simp only [ht,ah];((try simp only [ah] at*);omega)) (by simp only [ht,ah];((try simp only [ah] at*);omega)) (fun _=>rfl) (fun _=>by simp only [Jb.cells,Jb.bw,ht]) (fun x mx=>?_);simp [ht,ah] at mx))
   cbv
   (refine nF trv (mH ht x.id _ _ _ _ _ _ _ _ _ _ (l:=T.av) (by simp only [ht];exact jT.j) (by have:=sT.av.1;omega)) (by simp [ht]) rfl rfl rfl (fun o eo=>?_);simp only [ht] at eo;have y1:=fun hr=>hw k2 x mx hr o eo;clear eo)
   cbv
   (first|(have zA:List aI:=A;clear zA;refine nF trv (Mm ht x.id (ps:=T.aG.places) (by simp only [ht];exact jT.p) sT.places) (by simp [ht]) rfl rfl rfl (fun B eB=>?_);simp only [ht] at eB)|(refine nF trv (Mm ht x.id (ps:=u.aG.places) (by simp only [ht]) su.places) (by simp [ht]) rfl rfl rfl (fun A eA=>?_);simp only [ht] at eA;have lA:=BO x.id u.aG.places;have sP:=su.places;rw [←eA] at lA))
   cbv
   refine ap (fun h5=>?_) (fun h5=>?_)
   ·simp [ht,ah,fH,r5] at h5
    cbv
    refine cr _ (by simp only [ht];rfl) (n2-1) ?_ ((Wd _ _).2 ?_)
    ·omega
    simp only [ht,ah]
    exact ⟨k2+1,aE (by ((try simp only [ah] at*);omega)),by ((try simp only [ah] at*);omega)⟩
   simp [ht,ah,fH,r5] at h5
   cbv
   iterate 6 refine gI (by simp [ht,aJ]) ?_
   refine pI (by simp [ht,aJ]) ?_
   refine ap (fun h6=>?_) (fun h6=>?_)
   ·simp [ht,ah,fH,r5] at h6
    cbv
    (first|(have zA:List aI:=A;clear zA;refine nF trv (Mm ht x.id (ps:=T.aG.places) (by simp only [ht];exact jT.p) sT.places) (by simp [ht]) rfl rfl rfl (fun B eB=>?_);simp only [ht] at eB)|(refine nF trv (Mm ht x.id (ps:=u.aG.places) (by simp only [ht]) su.places) (by simp [ht]) rfl rfl rfl (fun A eA=>?_);simp only [ht] at eA;have lA:=BO x.id u.aG.places;have sP:=su.places;rw [←eA] at lA))
    cbv
    (have lB:=BO x.id T.aG.places;refine nF trv (KX ht (l:=A) (m:=B) (by simp only [ht]) (by simp only [ht]) (by omega) (by have:=sT.places;rw [eB];omega)) (by simp [ht]) rfl rfl rfl (fun r2 ix=>?_);simp only [ht] at ix)
    cbv
    refine ap (fun h7=>?_) (fun h7=>?_)
    ·simp [ht,ah,fH,r5] at h7
     cbv
     refine iq trv trv rfl rfl rfl ?_
     (exfalso;obtain ⟨w1,w2,w3⟩:=y1 h5;have w4:=w2 ⟨h6.1,by rw [←w1];exact h6.2⟩;rw [←eA,←eB] at w4;simp_all;done)
    simp [ht,ah,fH,r5] at h7
    cbv
    refine cr _ (by simp only [ht];rfl) (n2-1) ?_ ((Wd _ _).2 ?_)
    ·omega
    simp only [ht,ah]
    exact ⟨k2+1,aE (by ((try simp only [ah] at*);omega)),by ((try simp only [ah] at*);omega)⟩
   simp [ht,ah,fH,r5] at h6
   cbv
   obtain ⟨J8,hJ8⟩:∃J8:Nat→Int→Prop,∀n3 i,J8 n3 i↔(∃k:Nat,i=k∧k+n3=A.length):=⟨fun n3 v=>match v with|i=>(∃k:Nat,i=k∧k+n3=A.length),fun _ _=>Iff.rfl⟩
   refine bE ⟨[2,7,8,9,10,11,12,15,16],[],[]⟩ (σ:=Int) (fun v=>[(16,.d (.int .i64 (t _ fun _=>v)))]) (fun v=>[]) J8 ?_
   cbv
   refine aF ⟨A.length,_,(hJ8 _ _).2 ?_,by simp only [ht];rfl,?_⟩
   ·exact ⟨0,rfl,by simp⟩
   rintro n3 i hj
   replace hj:=(hJ8 _ _).1 hj
   obtain ⟨k3,rfl,j3⟩:=hj
   cbv
   refine ap (fun h9=>?_) (fun h9=>?_)
   ·simp [ht,ah,fH,r5] at h9
    cbv
    refine Uu [2,3] [2,3,7,8,9] [false,false,false,false,false,false,false,false,false,false,false,true,true] (by kernel_rfl) (by kernel_rfl) (by kernel_rfl) (by kernel_rfl) (by kernel_rfl) (by kernel_rfl) ?_
    cbv
    iterate 4 refine gI (by simp [ht,aJ]) ?_
    (refine kL ht (l:=A) (cells:=bf) (cT:=eL t) (by simp only [ht]) (by simp only [ht,ah];((try simp only [ah] at*);omega)) (by simp only [ht,ah];((try simp only [ah] at*);omega)) (fun _=>rfl) (fun _=>rfl) (fun nm mn=>?_);simp [ht,ah] at mn)
    cbv
    refine gI (by simp [ht,aJ]) ?_
    refine .inl ?_
    (obtain ⟨w1,w2,w3⟩:=y1 h5;obtain ⟨v1,v2,v3⟩:=w3 (fun c=>h6 c.1 (by rw [w1];exact c.2));obtain ⟨d0,v4,v5,v6,v7⟩:=v3 nm (by rw [←eA];exact List.mem_of_getElem? mn);refine jF (E:=Js t) (r0:=t _ fun _=>dM nm u.aG.nodes) (fun g=>⟨trv,by simp [ht],LN ht nm (l:=u.aG.nodes) (by simp only [ht]) (by have:=su.nodes.1;omega)⟩) rfl rfl rfl (fun d ed=>?_);simp only [ht] at ed;rw [v4] at ed;subst ed)
    cbv
    iterate 6 refine gI (by simp [ht,aJ]) ?_
    refine pI (by simp [ht,aJ]) ?_
    iterate 5 refine gI (by simp [ht,aJ]) ?_
    (have sx:=(su.av.2 x (List.mem_of_getElem? mx)).1.2.2;have sd:=su.nodes.2 d0 v6;refine eR (E:=dH) (r0:=t _ fun _=>iL x.x.cg d0.labels) (fun g=>⟨by first|(simp [ht];done)|(simpa [ht] using g)|(simp_all [ht];done),by simp [ht],Dp ht (x:=x.x.cg) (l:=d0.labels) (by simp only [ht]) sx.1 (fun m hm=>(sx.2 m hm).2.1) (by simp only [ht]) sd.2.1⟩) rfl rfl (fun r3 lm=>?_);simp only [ht] at lm;rw [v7] at lm;subst lm)
    cbv
    refine gI (by simp [ht,aJ]) ?_
    refine pI (by simp [ht,aJ]) ?_
    refine ap (fun h10=>?_) (fun h10=>?_)
    ·simp [ht,ah,fH,r5] at h10
     cbv
     refine iq trv trv rfl rfl rfl ?_
     (exfalso;obtain ⟨w1,w2,w3⟩:=y1 h5;obtain ⟨v1,v2,v3⟩:=w3 (fun c=>h6 c.1 (by rw [w1];exact c.2));rw [←eA] at v2;simp_all;done)
    simp [ht,ah,fH,r5] at h10
    cbv
    refine cr _ (by simp only [ht];rfl) (n3-1) ?_ ((hJ8 _ _).2 ?_)
    ·omega
    simp only [ht,ah]
    exact ⟨k3+1,aE (by ((try simp only [ah] at*);omega)),by ((try simp only [ah] at*);omega)⟩
   simp [ht,ah,fH,r5] at h9
   cbv
   iterate 6 refine gI (by simp [ht,aJ]) ?_
   refine pI (by simp [ht,aJ]) ?_
   refine ap (fun h11=>?_) (fun h11=>?_)
   ·simp [ht,ah,fH,r5] at h11
    cbv
    refine iq trv trv rfl rfl rfl ?_
    (exfalso;obtain ⟨w1,w2,w3⟩:=y1 h5;obtain ⟨v1,v2,v3⟩:=w3 (fun c=>h6 c.1 (by rw [w1];exact c.2));rw [←eA] at v2;simp_all;done)
   simp [ht,ah,fH,r5] at h11
   cbv
   refine cr _ (by simp only [ht];rfl) (n2-1) ?_ ((Wd _ _).2 ?_)
   ·omega
   simp only [ht,ah]
   exact ⟨k2+1,aE (by ((try simp only [ah] at*);omega)),by ((try simp only [ah] at*);omega)⟩
  simp [ht,ah,fH,r5] at h4
  cbv
  refine cr (_,_,_,_,_,_,_,_,_,_,_,_) (by simp only [ht];rfl) (n-1) ?_ ((oe _ _ _ _ _ _ _ _ _ _ _ _ _).2 ?_)
  ·((try simp only [ah] at*);omega)
  simp only [ht,ah]
  exact ⟨k+1,u,aE (by ((try simp only [ah] at*);omega)),by ((try simp only [ah] at*);omega),fu,Told.self u⟩
 simp [ht,ah,fH,r5] at h2
 cbv
 refine iq trv trv rfl rfl rfl ?_
 rfl
theorem T6 (ht:TT t):FC 66 [] [] (.ret (fZ t (t _ fun _=>Cl 2))) []:=by
 obtain ⟨A,hA⟩:∃A,A=Cl 2:=⟨_,rfl⟩
 have h0:=(vY 192).sm
 have h1:=BC.sm
 have h2:=BD.sm
 rw [←hA]
 refine cL ht Tryz.func66 (N:=29) ?_
 cbv
 (refine aC (yB ht 192 (by decide) rfl) (by simp) (fun r1 cR=>?_);simp only [ht] at cR;rw [←cR] at h0)
 cbv
 ((refine aC (lU ht _ _ _ _ (nl:=r1.aG.nodes) (pl:=r1.aG.places) (tl:=r1.tree) (jl:=r1.av) (ql:=r1.queue) (el:=r1.ev.l) (al:=r1.au.l) (by simp only [ht]) (by simp only [ht]) (by simp only [ht]) (by simp only [ht]) (by simp only [ht]) (by simp only [ht]) (by simp only [ht]) 3 0 0 0 1 1 5 [97] (pL:=[]) rfl (mK Dw) h0.tree.1 h0.av.1 h0.queue h0.notes.1) (by simp) (fun r2 ix=>?_);simp only [ht] at ix;have e2:r2.1=Q9:=(by rw [ix,cR];rfl);have e3:r2.2.1=Ra:=(by rw [ix,cR];rfl);rw [←e2] at h1))
 cbv
 (refine aC (vV ht _ _ _ _ (nl:=r2.1.aG.nodes) (pl:=r2.1.aG.places) (tl:=r2.1.tree) (jl:=r2.1.av) (ql:=r2.1.queue) (el:=r2.1.ev.l) (al:=r2.1.au.l) (by simp only [ht]) (by simp only [ht]) (by simp only [ht]) (by simp only [ht]) (by simp only [ht]) (by simp only [ht]) (by simp only [ht]) _ (names:=[[110,49]]) (by rfl) (ue h1) h1.tree.1 h1.av.1 h1.nodes.1 h1.places h1.queue h1.notes.1 (by simp)) (by simp) (fun r3 lm=>?_);simp only [ht] at lm;have e4:r3.1=H9:=(by rw [lm];unfold H9;rw [←e2,←e3]);rw [←e4] at h2)
 cbv
 ((refine aC (lU ht _ _ _ _ (nl:=r3.1.aG.nodes) (pl:=r3.1.aG.places) (tl:=r3.1.tree) (jl:=r3.1.av) (ql:=r3.1.queue) (el:=r3.1.ev.l) (al:=r3.1.au.l) (by simp only [ht]) (by simp only [ht]) (by simp only [ht]) (by simp only [ht]) (by simp only [ht]) (by simp only [ht]) (by simp only [ht]) 2 0 0 0 1 3 2 [98] (pL:=[]) rfl (mK (Dx 2)) h2.tree.1 h2.av.1 h2.queue h2.notes.1) (by simp) (fun r4 kW=>?_);simp only [ht] at kW;have e5:A=r4.1:=(by rw [kW,hA];show (c7 H9 (YL 2)).1=_;rw [←e4];rfl)))
 cbv
 refine an ?_
 (simp only [ht,e5];done)
end Dem
end
section
open Go
namespace Dem
theorem Is {s:aU} {id:Int} {L:List Int} (h:bX s id=L):aA s id=qV s id L:=by subst h;rfl
theorem Iu {s:aU} {a k:Nat} {id:Int} {L l:List Int} {nodes:List aI} (h1:aY s a=(id,k,true)) (h2:bX s id=L) (h3:qV s id L=(l,nodes,true)) (h4:(bS (aH s l) id nodes).2=0):
 bK s a=((bS (aH s l) id nodes).1,k,true):=by
 unfold bK
 rw [h1]
 simp only
 rw [Is h2,h3]
 simp only
 rw [if_neg (by decide),if_neg (by decide),if_neg (by simp [h4])]
theorem DI {s:aU} {a k:Nat} {id:Int} {L:List Int} (h1:aY s a=(id,k,true)) (h2:bX s id=L) (h3:(qV s id L).2.2=false):bK s a=(s,a,false):=by
 unfold bK
 rw [h1]
 simp only
 rw [Is h2,h3]
 rw [if_neg (by decide),if_pos (by decide)]
theorem BP {s:aU} {a:Nat} (h1:(aY s a).2.2=false):bK s a=(s,a,false):=by
 unfold bK;rw [h1,if_pos (by decide)]
theorem lP {n:Nat} {s:aU} {a:Nat} (h:bK s a=(s,a,false)):cN (n+1) s a=s:=by
 rw [cN,h,if_neg (by simp)]
theorem BQ {n:Nat} {s t:aU} {a k:Nat} (h:bK s a=(t,k,true)):cN (n+1) s a=cN n t k:=by
 rw [cN,h,if_pos rfl]
def xC:aU:=ek (Cl 2)
def Og:aU:=(bS (aH xC [1]) 2 [[110,49]]).1
def UW:aU:=ek Og
def YV:aU:=ek UW
def WB:aU:=(bS (aH YV []) 1 [[110,49]]).1
theorem yn1:aY (Cl 2) 0=(2,0,true):=by decide+kernel
theorem yn2:aY (Cl 2) 1=(0,0,false):=by decide+kernel
theorem ya1:aY xC 0=(2,0,true):=by decide+kernel
theorem ya2:bX xC 2=[1]:=KE (a:=⟨1,Ask.zero,false,0⟩) (by decide+kernel) (by decide+kernel)
theorem ya3:qV xC 2 [1]=([1],[[110,49]],true):=by decide+kernel
theorem ya4:(bS (aH xC [1]) 2 [[110,49]]).2=0:=by decide+kernel
theorem yb1:aY Og 0=(1,0,true):=by decide+kernel
theorem yb2:qV Og 1 []=([],[],false):=by decide+kernel
theorem yc1:aY UW 0=(1,0,true):=by decide+kernel
theorem yc2:qV UW 1 []=([],[],false):=by decide+kernel
theorem yd1:aY YV 0=(1,0,true):=by decide+kernel
theorem yd2:qV YV 1 []=([],[[110,49]],true):=by decide+kernel
theorem yd3:(bS (aH YV []) 1 [[110,49]]).2=0:=by decide+kernel
theorem yd4:(aY WB 0).2.2=false:=by decide+kernel
theorem UX:iA (Cl 2)=Og:=by
 show cN (126+1+1) xC 0=Og
 rw [BQ (Iu ya1 ya2 ya3 ya4)]
 exact lP (DI yb1 (qT (by decide+kernel)) (show (qV Og 1 []).2.2=false by rw [yb2]))
theorem YW:iA Og=UW:=show cN (127+1) UW 0=UW from lP (DI yc1 (qT (by decide+kernel)) (show (qV UW 1 []).2.2=false by rw [yc2]))
theorem YX:iA UW=WB:=by
 show cN (126+1+1) YV 0=WB
 rw [BQ (Iu yd1 (qT (by decide+kernel)) yd2 yd3)]
 exact lP (BP yd4)
theorem YY:iA Cg=ek Cg:=show cN (127+1) (ek Cg) 0=ek Cg from lP (BP (by decide+kernel))
theorem yv1:Og.round=1∧(bD Og.av 1).2=true∧(bD Og.av 1).1.runs=false∧(bD Og.av 2).2=true∧(bD Og.av 2).1.runs=true∧(bD Og.av 2).1.left=2:=by decide+kernel
theorem yv2:WB.round=3∧(bD WB.av 1).2=true∧(bD WB.av 1).1.runs=true∧(bD WB.av 2).2=false:=by decide+kernel
theorem yv3:(bD xC.av 1).1.left=4∧cO (Cl 2) 2=true∧(ek Cg).round=1:=by decide+kernel
end Dem
end
section
open Go Dem Go.Proofs
namespace Dem
variable {t:Th}
theorem Iv (ht:TT t):FC 25 [] [] (.ret (BL true)) []:=by
 obtain ⟨A,hA⟩:∃A,A=Cl 2:=⟨_,rfl⟩
 have fA:A.fair:=by rw [hA];exact (NU 2).fair
 have c0:FC 66 [] [] (.ret (fZ t (t _ fun _=>A))) []:=by rw [hA];exact T6 ht
 have n1:aY A 0=(2,0,true):=by rw [hA];exact yn1
 have n2:aY A 1=(0,0,false):=by rw [hA];exact yn2
 obtain ⟨T,hT⟩:∃T,T=iA A:=⟨_,rfl⟩
 have fT:T.fair:=by rw [hT];exact fA.tick
 obtain ⟨U,hU⟩:∃U,U=iA T:=⟨_,rfl⟩
 have fU:U.fair:=by rw [hU];exact fT.tick
 obtain ⟨V,hV⟩:∃V,V=iA U:=⟨_,rfl⟩
 have fV:V.fair:=by rw [hV];exact fU.tick
 obtain ⟨C,hC⟩:∃C,C=ek A:=⟨_,rfl⟩
 have fC:C.fair:=by rw [hC];exact fA.count
 obtain ⟨E,hE⟩:∃E,E=Cg:=⟨_,rfl⟩
 have fE:E.fair:=by rw [hE];exact NV.fair
 obtain ⟨F,hF⟩:∃F,F=iA E:=⟨_,rfl⟩
 have ct1:FC 27 [fZ t A] [] (.ret (fZ t (t _ fun _=>T))) []:=by rw [hT];exact zy ht A fA
 have ct2:FC 27 [fZ t T] [] (.ret (fZ t (t _ fun _=>U))) []:=by rw [hU];exact zy ht T fT
 have ct3:FC 27 [fZ t U] [] (.ret (fZ t (t _ fun _=>V))) []:=by rw [hV];exact zy ht U fU
 have ct4:FC 27 [fZ t E] [] (.ret (fZ t (t _ fun _=>F))) []:=by rw [hF];exact zy ht E fE
 have cc:FC 29 [fZ t A] [] (.ret (fZ t (t _ fun _=>C))) []:=by rw [hC];exact RA ht A fA
 have cn:FC 38 [] [] (.ret (fZ t (t _ fun _=>E))) []:=by rw [hE];exact L0 ht
 have v1:=yv1
 have v2:=yv2
 have v3:=yv3
 rw [←UX,←hA,←hT] at v1
 rw [←YX,←YW,←UX,←hA,←hT,←hU,←hV] at v2
 rw [show xC=ek (Cl 2) from rfl,←hA,←hC,←YY,←hE,←hF] at v3
 obtain ⟨w1,w2,w3⟩:=v3
 obtain ⟨p1,p2,p3,p4,p5,p6⟩:=v1
 obtain ⟨q1,q2,q3,q4⟩:=v2
 clear hA hT hU hV hC hE hF
 refine cL ht Tryz.func25 (N:=135) ?_
 cbv
 (refine aC c0 (by simp) (fun r1 cR=>?_);simp only [ht] at cR;subst r1)
 cbv
 ((refine aC (Mk ht A fA 0 (by decide) (bb:=0) rfl) (by simp) (fun r1 cR=>?_);simp only [ht] at cR;rw [n1] at cR;subst r1))
 cbv
 ((refine aC (Mk ht A fA 1 (by decide) (bb:=1) rfl) (by simp) (fun r1 cR=>?_);simp only [ht] at cR;rw [n2] at cR;subst r1))
 cbv
 ((refine aC ct1 (by simp) (fun r1 cR=>?_);simp only [ht] at cR;subst r1))
 cbv
 ((refine aC ct2 (by simp) (fun r1 cR=>?_);simp only [ht] at cR;subst r1))
 cbv
 ((refine aC ct3 (by simp) (fun r1 cR=>?_);simp only [ht] at cR;subst r1))
 cbv
 ((refine aC (rj ht T fT 1) (by simp) (fun o eo=>?_);simp only [ht] at eo;rw [←eo] at p2 p3))
 cbv
 ((refine aC (rj ht T fT 2) (by simp) (fun o eo=>?_);simp only [ht] at eo;rw [←eo] at p4 p5 p6))
 cbv
 ((refine aC (rj ht V fV 1) (by simp) (fun o eo=>?_);simp only [ht] at eo;rw [←eo] at q2 q3))
 cbv
 ((refine aC (rj ht V fV 2) (by simp) (fun o eo=>?_);simp only [ht] at eo;rw [←eo] at q4))
 cbv
 (refine aC cc (by simp) (fun r1 cR=>?_);simp only [ht] at cR;subst r1)
 cbv
 ((refine aC (rj ht C fC 1) (by simp) (fun o eo=>?_);simp only [ht] at eo;rw [←eo] at w1))
 cbv
 iterate 2 refine gI (by simp [ht]) ?_
 refine pI (by simp [ht]) ?_
 refine gI (by simp [ht]) ?_
 refine pI (by simp [ht]) ?_
 iterate 2 refine gI (by simp [ht]) ?_
 refine pI (by simp [ht]) ?_
 iterate 3 refine gI (by simp [ht]) ?_
 refine pI (by simp [ht]) ?_
 refine gI (by simp [ht]) ?_
 refine pI (by simp [ht]) ?_
 iterate 3 refine gI (by simp [ht]) ?_
 refine pI (by simp [ht]) ?_
 refine gI (by simp [ht]) ?_
 refine pI (by simp [ht]) ?_
 iterate 2 refine gI (by simp [ht]) ?_
 refine pI (by simp [ht]) ?_
 iterate 3 refine gI (by simp [ht]) ?_
 refine pI (by simp [ht]) ?_
 iterate 3 refine gI (by simp [ht]) ?_
 refine pI (by simp [ht]) ?_
 refine gI (by simp [ht]) ?_
 refine pI (by simp [ht]) ?_
 iterate 2 refine gI (by simp [ht]) ?_
 refine pI (by simp [ht]) ?_
 iterate 2 refine gI (by simp [ht]) ?_
 refine pI (by simp [ht]) ?_
 iterate 3 refine gI (by simp [ht]) ?_
 refine pI (by simp [ht]) ?_
 refine gI (by simp [ht]) ?_
 (refine eR (fun g9=>⟨(by trivial),by simp,RB ht A fA 2⟩) rfl rfl (fun q9 eq9=>?_);simp only [ht] at eq9;rw [w2] at eq9;subst eq9)
 cbv
 refine pI (by simp [ht]) ?_
 (refine jF (fun g9=>⟨(by trivial),(by trivial),cn⟩) rfl rfl rfl (fun r1 cR=>?_);simp only [ht] at cR;subst r1)
 cbv
 ((refine jF (fun g9=>⟨(by trivial),(by trivial),ct4⟩) rfl rfl rfl (fun r1 cR=>?_);simp only [ht] at cR;subst r1))
 cbv
 iterate 2 refine gI (by simp [ht]) ?_
 refine pI (by simp [ht]) ?_
 refine an ?_
 (simp only [ht,ah];grind)
end Dem
end
