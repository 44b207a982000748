/- Parts of a proof, joined. -/
import Derived.Test.YtjnbpclolnmimaaGreatDoorJ25
import Derived.Test.YtjnbpclolnmimaaGreatDoorJ31
set_option linter.unusedSimpArgs false
set_option linter.unusedVariables false
set_option maxRecDepth 100000
set_option maxHeartbeats 4000000
section
open Go
namespace Dem
section
variable {P:Program} {G:Nat→Option (List D)} {FC:Nat→List AV→List ax→fm→List ax→Prop} {kV:Prop} {f:Nat} {args args':List AV} {c:Prop} {bx:List ax} {K Kp:AV→List ax→Prop} {ρ:Type}
theorem WQ {E:ρ→AV} {r0:ρ} {fz:Option (Prop×List AV)} {iG:List ax} (ho:kV) (hfz:fz=some (c,args')) (hc:c) (h:FC f args' (eF bx args) (.ret (E r0)) iG) (hK:∀r,r=r0→K (E r) iG):qi FC kV f args fz bx K Kp:=
 VU ho hfz hc h (hK _ rfl)
end
end Dem
end
section
open Go
namespace Dem
theorem Rx {p:cO} {bu:Int} (hno:∀x∈p.places,x.bu≠bu) (names:List aD) (v:bz):C0 bu (p.places++names.map (fun n=>⟨bu,n,v⟩))=names:=by
 unfold C0
 rw [List.filter_append,List.filter_eq_nil_iff.2 (by intro x hx;simp [hno x hx]),List.filter_eq_self.2 (by intro x hx;obtain ⟨n,_,rfl⟩:=List.mem_map.1 hx;simp)]
 simp [Function.comp_def]
theorem Ca {p:cO} {bu:Int} (hno:∀x∈p.places,x.bu≠bu) (names:List aD) (v:bz):lC ⟨p.nodes,p.places++names.map (fun n=>⟨bu,n,v⟩)⟩ bu=p:=by
 unfold lC
 simp only
 rw [List.filter_append,List.filter_eq_self.2 (by intro x hx;simp [hno x hx]),List.filter_eq_nil_iff.2 (by intro x hx;obtain ⟨n,_,rfl⟩:=List.mem_map.1 hx;simp),List.append_nil]
end Dem
end
section
open Go Dem Go.Proofs
namespace Dem
variable {t:Th}
theorem Sl (ht:TT t) {l m:List aD} {es fs:List (List D)} (aF:es=l.map aT) (qL:fs=m.map aT) (hl:l.length<1000000000) (hm:m.length<1000000000):
 FC 31 [SL es,SL fs] [] (.ret (bY (t _ fun _=>decide (l=m)))) []:=by
 refine bC ht (aE:=[]) Tryz.func31 (c:=_) rfl rfl (N:=26) rfl (rs:=_) rfl (n:=0) rfl rfl ?_
 cbv
 have ar:es.length=l.length:=by rw [aF,lgM]
 have cD:fs.length=m.length:=by rw [qL,lgM]
 refine ai (fun h0=>?_) (fun h0=>?_)
 ·simp [ht,aa,ar,cD] at h0
  cbv
  refine an trivial trivial rfl rfl rfl ?_
  (simp [ht];rintro rfl;simp_all;done)
 simp [ht,aa,ar,cD] at h0
 cbv
 obtain ⟨J1,fe⟩:∃J1:Nat→Int→Prop,∀n i,J1 n i↔(∃k:Nat,i=k∧k+n=l.length∧l.length=m.length∧decide (l=m)=decide (l.drop k=m.drop k)):=⟨fun n v=>match v with|i=>(∃k:Nat,i=k∧k+n=l.length∧l.length=m.length∧decide (l=m)=decide (l.drop k=m.drop k)),fun _ _=>Iff.rfl⟩
 refine aZ ⟨[0,1,5],[],[]⟩ (σ:=Int) (fun v=>[(5,.d (.int .i64 (t _ fun _=>v)))]) (fun v=>[]) J1 ?_
 cbv
 refine aA ⟨l.length,_,(fe _ _).2 ?_,by simp only [ht];rfl,?_⟩
 ·exact ⟨0,rfl,by simp,by ((try simp only [aa] at*);omega),by simp⟩
 rintro n i hj
 replace hj:=(fe _ _).1 hj
 obtain ⟨k,rfl,j1,j2,j4⟩:=hj
 cbv
 refine ai (fun h2=>?_) (fun h2=>?_)
 ·simp [ht,aa,ar] at h2
  cbv
  refine bJ [false,false,false,false,false,false,false,false,true] (by kernel_rfl) (by kernel_rfl) ?_
  cbv
  iterate 2 refine gI (by simp) ?_
  refine dg ht aF (cT:=dR t) (by (simp only [ht,aa];omega)) (by (simp only [ht,aa];omega)) (fun _=>rfl) (fun _=>rfl) (fun x3 ke=>?_)
  simp [ht,aa] at ke
  rw [bO ke] at j4
  cbv
  iterate 3 refine gI (by simp) ?_
  refine dg ht qL (cT:=dR t) (by (simp only [ht,aa];omega)) (by (simp only [ht,aa];omega)) (fun _=>rfl) (fun _=>rfl) (fun x4 qt=>?_)
  simp [ht,aa] at qt
  rw [bO qt] at j4
  cbv
  refine gI (by simp) ?_
  refine ai (fun h5=>?_) (fun h5=>?_)
  ·simp [ht] at h5
   cbv
   refine an trivial trivial rfl rfl rfl ?_
   (simp [ht];rintro rfl;simp_all;done)
  simp [ht] at h5
  cbv
  refine bf _ (by simp only [ht];rfl) (n-1) ?_ ((fe _ _).2 ?_)
  ·omega
  simp only [aa]
  refine ⟨k+1,aC (by omega),by omega,by omega,?_⟩
  (simp [*];done)
 simp [ht,aa,ar] at h2
 cbv
 refine an trivial trivial rfl rfl rfl ?_
 (simp [ht,j4,List.drop_eq_nil_of_le (show l.length≤k by omega),List.drop_eq_nil_of_le (show m.length≤k by omega)];done)
end Dem
end
section
open Go
namespace Dem
theorem Jn {l m:List bX} (hl:B4 l) (hm:B4 m) (h:∀q,q∈l↔q∈m):l=m:=by
 have hn:∀{r:List bX},B4 r→r.Nodup:=fun {r} hr=>by
  rw [List.nodup_iff_pairwise_ne]
  exact hr.imp fun {a b} g e=>by subst e;rw [pX] at g;omega
 exact ((List.perm_ext_iff_of_nodup (hn hl) (hn hm)).2 h).eq_of_pairwise (fun a b _ _ h1 h2=>by rw [pX] at h1 h2;omega) hl hm
theorem dJ.trans {a b c:List aR} (h:dJ a b) (g:dJ b c):dJ a c:=⟨by rw [g.len,h.len],fun i e hi=>by
 obtain ⟨x,h1,h2,h3⟩:=h.at_ i e hi
 obtain ⟨y,g1,g2,g3⟩:=g.at_ i x h1
 exact ⟨y,g1,by rw [g2,h2],by rw [g3,h3]⟩⟩
theorem Nc {s u:cH} (hs:s.ok) (hu:u.ok) (hk:dJ s.tree u.tree) (hj:∀k p,iB k p s.aI=iB k p u.aI):u.tree=s.tree:=by
 refine List.ext_getElem? fun i=>?_
 cases hi:s.tree[i]? with
 |none=>rw [List.getElem?_eq_none_iff] at hi ⊢;rw [hk.len];exact hi
 |some e=>
  obtain ⟨x,h1,h2,h3⟩:=hk.at_ i e hi
  rw [h1]
  have he:=List.mem_of_getElem? hi
  have hx:=List.mem_of_getElem? h1
  have:x.used=e.used:=FI (hu.tree.w x hx).2 (hs.tree.w e he).2 fun k hk=>by rw [hu.used x hx k hk,hs.used e he k hk,h2,hj]
  cases x;cases e;simp only at h2 h3 this;subst h2 h3 this;rfl
theorem Jp {s:cH} (h:s.ok) {id:Int} {names:List aD} (e:(cw s id names).2=0) (kind:Int):
 (jJ (cw s id names).1 id kind).2=0∧{(jJ (cw s id names).1 id kind).1 with ev:=s.ev}=s∧C0 id (cw s id names).1.aW.places=names:=by
 have hb:=h.Ce id names
 have hs:=hb.stop id kind
 obtain ⟨i,j,T,hj,hid,hr,_,hT,qK⟩:=yA h e
 subst hid
 have hm:=List.mem_of_getElem? hj
 have hil:=(List.getElem?_eq_some_iff.1 hj).1
 have hno:=h.wH hm hr
 generalize hB:(cw s j.id names).1=B at*
 have hBj:B.aI[i]?=some j.begun:=by rw [qK];exact List.getElem?_set_self hil
 obtain ⟨T2,Q,hT2,hst⟩:=Jo hb hBj rfl kind
 have hst:jJ B j.id kind=_:=hst
 rw [hst] at hs ⊢
 have Eu:B.aI.set i (Jb.halted j.begun)=s.aI:=by
  rw [qK]
  show (s.aI.set i j.begun).set i (Jb.halted j.begun)=s.aI
  rw [List.set_set]
  have:Jb.halted j.begun=j:=by
   have:=(h.left j hm).2 hr
   cases j;simp only [Jb.halted] at*;subst this hr;rfl
  rw [this]
  refine List.ext_getElem? fun n=>?_
  by_cases g:i=n
  ·subst g;rw [List.getElem?_set_self hil,hj]
  rw [List.getElem?_set_ne g]
 have Sx:lC B.aW j.id=s.aW:=by rw [qK];exact Ca hno names j.x.fQ
 have hBt:dJ s.tree B.tree:=by rw [qK];exact hT
 have hr1:B.round=s.round:=by rw [qK];rfl
 have CR:B.next=s.next:=by rw [qK];rfl
 have Yz:B.au=s.au:=by rw [qK];rfl
 have Jq:=Nc (u:=fO ⟨B.round,B.next,lC B.aW j.id,T2,B.aI.set i (Jb.halted j.begun),Q,B.ev,B.au⟩ j.id kind) h hs (hBt.trans hT2) (fun k p=>by
  show _=iB k p (B.aI.set i (Jb.halted j.begun));rw [Eu])
 have hq:Q=s.queue:=Jn hs.wG h.wG fun q=>by
  have h1:=hs.qJ q
  have h2:=h.qJ q
  have h3:(fO ⟨B.round,B.next,lC B.aW j.id,T2,B.aI.set i (Jb.halted j.begun),Q,B.ev,B.au⟩ j.id kind).aI=s.aI:=Eu
  rw [h3] at h1
  exact h1.trans h2.symm
 refine ⟨rfl,?_,?_⟩
 ·have Jq:T2=s.tree:=Jq
  simp only [fO]
  rw [Eu,Sx,Jq,hq,hr1,CR,Yz]
 rw [qK];exact Rx hno names j.x.fQ
theorem LK {s:cH} (h:s.ok) {id:Int} {names:List aD} (e:(cw s id names).2=0) (kind:Int):
 (send (cw s id names).1 id kind).2=0∧(send s id kind).2=0∧{(send (cw s id names).1 id kind).1 with ev:=(send s id kind).1.ev}=(send s id kind).1:=by
 have hb:=h.Ce id names
 have hs:=hb.end_ id kind
 obtain ⟨i,j,T,hj,hid,hr,_,hT,qK⟩:=yA h e
 subst hid
 have hm:=List.mem_of_getElem? hj
 have hil:=(List.getElem?_eq_some_iff.1 hj).1
 have hno:=h.wH hm hr
 generalize hB:(cw s j.id names).1=B at*
 have hBj:B.aI[i]?=some j.begun:=by rw [qK];exact List.getElem?_set_self hil
 obtain ⟨_,_,hst⟩:=F7 hb hBj kind
 obtain ⟨T2,hT2,hst⟩:=hst rfl
 have hst:send B j.id kind=_:=hst
 obtain ⟨_,hd,_⟩:=F7 h hj kind
 have hd:=hd hr
 have hdo:=h.end_ j.id kind
 rw [hst] at hs ⊢
 rw [hd] at hdo ⊢
 have Eu:B.aI.eraseIdx i=s.aI.eraseIdx i:=by
  rw [qK]
  show (s.aI.set i j.begun).eraseIdx i=_
  refine List.ext_getElem? fun n=>?_
  rw [List.getElem?_eraseIdx,List.getElem?_eraseIdx]
  split
  ·rw [List.getElem?_set_ne (by omega)]
  rw [List.getElem?_set_ne (by omega)]
 have Sx:lC B.aW j.id=s.aW:=by rw [qK];exact Ca hno names j.x.fQ
 have hBt:dJ s.tree B.tree:=by rw [qK];exact hT
 have hr1:B.round=s.round:=by rw [qK];rfl
 have CR:B.next=s.next:=by rw [qK];rfl
 have Yz:B.au=s.au:=by rw [qK];rfl
 have hq:B.queue=s.queue.filter (fun q=>!decide (q.id=j.id)):=by rw [qK];rfl
 have Jq:T2=s.tree:=Nc (s:=fO ⟨s.round,s.next,s.aW,s.tree,s.aI.eraseIdx i,s.queue.filter (fun q=>!decide (q.id=j.id)),s.ev,s.au⟩ j.id kind)
  (u:=fO ⟨B.round,B.next,lC B.aW j.id,T2,B.aI.eraseIdx i,B.queue,B.ev,B.au⟩ j.id kind) hdo hs (hBt.trans hT2) (fun k p=>by
  show iB k p (s.aI.eraseIdx i)=iB k p (B.aI.eraseIdx i);rw [Eu])
 refine ⟨rfl,rfl,?_⟩
 simp only [fO]
 rw [Eu,Sx,Jq,hq,hr1,CR,Yz]
end Dem
end
section
open Go Go.Proofs Go.ChangeShapes Go.WideShapes Go.RowKit
namespace Dem
section
variable {H:Type} {enc:TypeId×Value→H} {W:World} {v:Value} {d:DataW H} {p:List MemPlace} {base:Nat}
structure L4 where
 n:Nat
def L4.cells (x:L4):List D:=[.int .u8 x.n]
instance:Inhabited L4:=⟨⟨0⟩⟩
theorem Pn (hval:Value.okWide Tryz.prog W .any base 85 v) (h:DataW.Trod enc Tryz.prog W 0 (fun _=>true) true 85 v d p):
 ∃l:List L4,ah (fun _=>0) [] W (okW W) (SL (l.map L4.cells)) v∧(∀x∈l,x.n<256)∧l.length≤maxLen:=by
 obtain ⟨fuel,hf⟩:=h
 obtain ⟨a,len,cap,rfl⟩:=okWide_slice (show Tryz.prog.underlying 85=some (.slice 5) by kernel_rfl) hval
 obtain ⟨h1,h2⟩:=oB (KT W) 8 fuel 85 [.slice a len cap] (d,p) [.sl [.int .u8]] hf (by kernel_rfl)
 simp only [cG,rm] at h2
 obtain ⟨_,_,e,⟨es,rfl,hl,hr⟩,rfl⟩:=h2
 rw [e] at h1
 simp only [cq] at h1
 obtain ⟨u,r,e2,h3,rfl⟩:=h1
 cases e2
 obtain ⟨l,rfl,oe⟩:=Ab (cells:=L4.cells) (Q:=fun k=>k.n<256) es (fun r hm=>by
  obtain ⟨_,_,rfl,⟨n,rfl,hn⟩,rfl⟩:=hr r hm
  obtain ⟨k,rfl,hk⟩:=wf_u8 hn
  exact ⟨⟨k⟩,rfl,hk⟩)
 exact ⟨l,by simpa only [ah] using h3,oe,by simpa using hl⟩
end
end Dem
end
section
open Go Dem Go.Proofs
namespace Dem
variable {t:Th}
def L4.aH (_:Th) (x:L4):List D:=[.int .u8 x.n]
def Po (l:List L4) (k:Nat):List aD:=(l.take k).map fun b=>kw.getD (b.n%3) []
theorem ac4 (a m:Nat):(a:Int).tmod (m:Int)=((a%m:Nat):Int):=by rw [Int.tmod_eq_emod_of_nonneg (by omega)];rfl
theorem SM {w:List L4} {k:Nat} {x:L4} (h:w[k]?=some x):Po w (k+1)=Po w k++[kw.getD (x.n%3) []]:=by rw [Po,eU h];simp [Po]
theorem Ah {w:List L4} {k:Nat} (h:k≤w.length):(Po w k).length=k:=by simp [Po];omega
def CF:List (List D):=[[D.str [110,49]],[D.str [110,50]],[D.str [110,51]]]
theorem SN (k:Nat):(0≤((k%3:Nat):Int))∧((k%3:Nat):Int)<CF.length∧∀r,r∈CF→r.length=1:=by
 refine ⟨by omega,by simp [CF];omega,?_⟩
 intro r hr;simp [CF] at hr;rcases hr with rfl|rfl|rfl<;>rfl
theorem SO (k:Nat):CF.getD (((k%3:Nat):Int)).toNat []=[.str (kw.getD (k%3) [])]:=by
 have h:k%3=0∨k%3=1∨k%3=2:=by omega
 rcases h with h|h|h<;>rw [h]<;>rfl
theorem Vq {s:cH} (h:s.sm):∀x∈s.aI,x.x.fQ.u'∧x.x.path.length<1000000000000:=fun x hx=>⟨(h.aI.2 x hx).1.2.1,(h.aI.2 x hx).1.1⟩
theorem SP {s u:cH} (h:s.sm) (g:u.sm):s.aW.nodes.length<1000000∧s.aW.places.length<1000000∧s.tree.length<100000∧s.aI.length<1000000∧s.queue.length<1000000∧u.ev.l.length<1000000∧s.au.l.length<1000000:=
 ⟨h.nodes.1,h.places,h.tree.1,h.aI.1,h.queue,g.notes.1,h.notes.2⟩
theorem Vr {s:cH} (h:s.sm):s.aW.nodes.length<1000000∧s.aW.places.length<1000000∧s.tree.length<100000∧s.aI.length<1000000∧s.queue.length<1000000∧s.ev.l.length<1000000∧s.au.l.length<1000000:=SP h h
theorem Pp {s:cH} (h:s.sm):∀x∈s.aW.nodes,x.labels.length<1000000000:=fun x hx=>(h.nodes.2 x hx).2.1
theorem Pq {s:cH} (h:s.sm):∀x∈s.aI,x.x.sm:=fun x hx=>(h.aI.2 x hx).1
theorem uT (s:cH):wz s s=true:=by simp [wz]
theorem C8 (ht:TT t) (hx0:FC 9 [] [] (.ret (BL true)) []) (N:Nat) (hN:N<256) {a:Int} (ea:a=N) {l:List gw} {dl:List (List D)} (Nq:dl=l.map gw.cells) (Vm:∀x∈l,x.u) (hll:l.length<9223372036854775808)
 (K:Nat) (hK:K<256) {b:Int} (eb:b=K) {w:List L4} {wr:List (List D)} (hwr:wr=w.map L4.cells) (hwu:∀x∈w,x.n<256) (hwl:w.length<9223372036854775808):
 FC 8 [U8 a,SL dl,U8 b,SL wr] [] (.ret (BL true)) []:=by
 have hbz:IntKind.i64.wrap b=(K:Int):=by rw [eb];exact O1 K (by omega)
 refine bC ht (aE:=[]) Tryz.func8 (c:=_) rfl rfl (N:=134) rfl (rs:=_) rfl (n:=0) rfl rfl ?_
 cbv
 have c7:dl.length=l.length:=by rw [Nq,lgM]
 have oa:wr.length=w.length:=by rw [hwr,lgM]
 (refine gj trivial hx0 trivial rfl rfl ?_)
 cbv
 refine ai (fun h0=>?_) (fun h0=>?_)
 ·simp [ht] at h0
 simp [ht] at h0
 cbv
 (refine aS trivial (Jz ht N hN ea Nq Vm hll) (by simp) rfl rfl rfl (fun r1 cX=>?_);simp only [ht] at cX;have hok:r1.ok:=(by rw [cX];exact tc N l _);have X9:r1.dc zJ:=(by rw [cX];exact Cz N l _);have fR:=hok.small X9;obtain ⟨⟨s1,s2⟩,s3,⟨s4,s5⟩,⟨s6,s7⟩,s8,s9,Z4⟩:=id fR)
 cbv
 refine ai (fun h1=>?_) (fun h1=>?_)
 ·simp [ht,aa] at h1
  cbv
  refine an trivial trivial rfl rfl rfl ?_
  rfl
 simp [ht,aa] at h1
 cbv
 refine bJ [false,false,false,false,false,false,false,false,true,true,true,true] (by kernel_rfl) (by kernel_rfl) ?_
 cbv
 iterate 7 refine gI (by simp) ?_
 refine gI (by simp [ht];intros;simp_all) ?_
 (obtain ⟨x2,Mc⟩:∃x,r1.aI[K%r1.aI.length]?=some x:=⟨_,List.getElem?_eq_getElem (Nat.mod_lt _ (List.length_pos_iff.2 h1))⟩;refine Bz ht (l:=r1.aI) (cells:=Jb.cells) (cT:=Jb.aH t) (by simp only [ht]<;>rfl) (i:=K%r1.aI.length) Mc (by simp only [ht,hbz,lgM,ac4]) (fun _=>rfl) (fun _=>by simp only [Jb.cells,Jb.aH,ht]) ?_)
 cbv
 obtain ⟨J2,FM⟩:∃J2:Nat→List (List D)×Int→Prop,∀n o i,J2 n (o,i)↔(∃k:Nat,i=k∧k+n=4∧k≤w.length∧o=(Po w k).map aT):=⟨fun n v=>match v with|(o,i)=>(∃k:Nat,i=k∧k+n=4∧k≤w.length∧o=(Po w k).map aT),fun _ _ _=>Iff.rfl⟩
 refine aZ ⟨[3,9,10,11,12,13],[(12,1)],[]⟩ (σ:=List (List D)×Int) (fun v=>[(12,.ow 1 1 (t _ fun _=>(v.1).length)),(13,.d (.int .i64 (t _ fun _=>v.2)))]) (fun v=>[(1,.row 1 (t _ fun _=>v.1))]) J2 ?_
 cbv
 refine aA ⟨4,([],_),(FM _ _ _).2 ?_,by simp only [ht];rfl,?_⟩
 ·exact ⟨0,rfl,by omega,by omega,rfl⟩
 rintro n ⟨o,i⟩ hj
 replace hj:=(FM _ _ _).1 hj
 obtain ⟨k,rfl,j1,j2,jo⟩:=hj
 cbv
 iterate 2 refine gI (by simp [ht]) ?_
 refine pI (by simp [ht]) ?_
 refine ai (fun h3=>?_) (fun h3=>?_)
 ·simp [ht,aa,oa] at h3
  cbv
  refine dg ht hwr (cT:=L4.aH t) (by (simp only [ht,aa];omega)) (by (simp only [ht,aa];omega)) (fun _=>rfl) (fun _=>rfl) (fun x4 qt=>?_)
  simp [ht,aa] at qt
  cbv
  refine ⟨?_,?_⟩
  ·(simp only [ht,aa] at*;omega)
  cbv
  (obtain ⟨nm,hnm⟩:∃nm,nm=kw.getD (x4.n%3) []:=⟨_,rfl⟩;refine gS [.str nm] (by simp only [ht];rw [show Int.ofNat x4.n=(x4.n:Int) from rfl,tm3];exact SN _) (by simp only [ht];rw [show Int.ofNat x4.n=(x4.n:Int) from rfl,tm3,hnm];exact SO _) ?_)
  cbv
  refine ⟨?_,?_⟩
  ·(simp only [ht];exact ⟨by first|rfl|trivial,zb (sz:=1) (b:=16) jo (fun _=>rfl) rfl (by rw [Ah j2];omega) (by decide)⟩)
  cbv
  refine bf (_,_) (by simp only [ht,←List.length_append];rfl) (n-1) ?_ ((FM _ _ _).2 ?_)
  ·((try simp only [aa] at*);omega)
  simp only [aa]
  exact ⟨k+1,aC (by omega),by ((try simp only [aa] at*);omega),by omega,by rw [SM qt,List.map_append,jo,hnm];rfl⟩
 simp [ht,aa,oa] at h3
 cbv
 (refine WQ (E:=Jd t) (r0:=t _ fun _=>cw r1 x2.id (Po w k)) trivial rfl (by simp [ht]) (by exact eZ [] rfl rfl rfl rfl (m5 ht _ _ _ _ (nl:=r1.aW.nodes) (pl:=r1.aW.places) (tl:=r1.tree) (jl:=r1.aI) (ql:=r1.queue) (el:=r1.ev.l) (al:=r1.au.l) (by simp only [ht]<;>rfl) (by simp only [ht]<;>rfl) (by simp only [ht]<;>rfl) (by simp only [ht]<;>rfl) (by simp only [ht]<;>rfl) (by simp only [ht]<;>rfl) (by simp only [ht]<;>rfl) _ (names:=Po w k) (by simp only [ht];exact jo) (Vq fR) s4 s6 s1 s3 s8 s9 (by rw [Ah j2];omega))) (fun r2 cP=>?_);simp only [ht] at cP;have hb:r2.1.ok:=(by rw [cP];exact hok.Ce _ _);have hbl:r2.1.dc zJ:=(by rw [cP];exact (sn hok _ _).dc X9);have DI:=hb.small hbl)
 cbv
 refine ai (fun h5=>?_) (fun h5=>?_)
 ·simp [ht] at h5
  cbv
  iterate 2 refine gI (by simp) ?_
  (refine aM (fun g=>⟨by first|(simp;done)|(simpa [ht] using g)|(simp_all [ht];done),by simp,(tB ht _ _ _ _ (nl:=r1.aW.nodes) (pl:=r1.aW.places) (tl:=r1.tree) (jl:=r1.aI) (ql:=r1.queue) (el:=r1.ev.l) (al:=r1.au.l) (by simp only [ht]<;>rfl) (by simp only [ht]<;>rfl) (by simp only [ht]<;>rfl) (by simp only [ht]<;>rfl) (by simp only [ht]<;>rfl) (by simp only [ht]<;>rfl) (by simp only [ht]<;>rfl) _ _ _ _ (nl':=r2.1.aW.nodes) (V6:=r2.1.aW.places) (V7:=r2.1.tree) (Va:=r2.1.aI) (V8:=r2.1.queue) (V9:=r2.1.ev.l) (Wa:=r2.1.au.l) (by simp only [ht]<;>rfl) (by simp only [ht]<;>rfl) (by simp only [ht]<;>rfl) (by simp only [ht]<;>rfl) (by simp only [ht]<;>rfl) (by simp only [ht]<;>rfl) (by simp only [ht]<;>rfl) (Vr fR) (Vr DI) (Pp fR) (Pp DI) (Pq fR) (Pq DI))⟩) rfl rfl (fun r6 gv=>?_);simp only [ht] at gv;replace gv:r6=wz r1 r2.1:=gv)
  cbv
  refine pI (by simp) ?_
  refine an trivial trivial rfl rfl rfl ?_
  (have q:r2.1=r1:=(by rw [cP];exact Ev (by rw [←cP];assumption));simp only [ht];rw [gv,q,uT];rfl)
 simp [ht] at h5
 cbv
 (refine aS trivial (F1 ht _ _ _ _ (nl:=r2.1.aW.nodes) (pl:=r2.1.aW.places) (tl:=r2.1.tree) (jl:=r2.1.aI) (ql:=r2.1.queue) (el:=r2.1.ev.l) (al:=r2.1.au.l) (by simp only [ht]<;>rfl) (by simp only [ht]<;>rfl) (by simp only [ht]<;>rfl) (by simp only [ht]<;>rfl) (by simp only [ht]<;>rfl) (by simp only [ht]<;>rfl) (by simp only [ht]<;>rfl) _ _ (Vq DI) DI.tree.1 DI.aI.1 DI.places DI.queue DI.notes.1) (by simp) rfl rfl rfl (fun r3 gH=>?_);simp only [ht] at gH;replace gH:r3=jJ r2.1 x2.id 6:=gH;have h3s:r3.1.sm:=(by rw [gH];exact (hb.stop _ _).small ((Cy hb _ _).dc hbl)))
 cbv
 (refine aS trivial (F2 ht _ _ _ _ (nl:=r2.1.aW.nodes) (pl:=r2.1.aW.places) (tl:=r2.1.tree) (jl:=r2.1.aI) (ql:=r2.1.queue) (el:=r2.1.ev.l) (al:=r2.1.au.l) (by simp only [ht]<;>rfl) (by simp only [ht]<;>rfl) (by simp only [ht]<;>rfl) (by simp only [ht]<;>rfl) (by simp only [ht]<;>rfl) (by simp only [ht]<;>rfl) (by simp only [ht]<;>rfl) _ _ (Vq DI) DI.tree.1 DI.aI.1 DI.places DI.queue DI.notes.1) (by simp) rfl rfl rfl (fun r4 dO=>?_);simp only [ht] at dO;replace dO:r4=send r2.1 x2.id 3:=dO;have h4s:r4.1.sm:=(by rw [dO];exact (hb.end_ _ _).small ((yB hb _ _).dc hbl)))
 cbv
 (refine aS trivial (F2 ht _ _ _ _ (nl:=r1.aW.nodes) (pl:=r1.aW.places) (tl:=r1.tree) (jl:=r1.aI) (ql:=r1.queue) (el:=r1.ev.l) (al:=r1.au.l) (by simp only [ht]<;>rfl) (by simp only [ht]<;>rfl) (by simp only [ht]<;>rfl) (by simp only [ht]<;>rfl) (by simp only [ht]<;>rfl) (by simp only [ht]<;>rfl) (by simp only [ht]<;>rfl) _ _ (Vq fR) fR.tree.1 fR.aI.1 fR.places fR.queue fR.notes.1) (by simp) rfl rfl rfl (fun r5 jA=>?_);simp only [ht] at jA;replace jA:r5=send r1 x2.id 3:=jA;have h5s:r5.1.sm:=(by rw [jA];exact (hok.end_ _ _).small ((yB hok _ _).dc X9));have e2:(cw r1 x2.id (Po w k)).2=0:=(by rw [←cP];assumption);obtain ⟨f1,f2,f3⟩:=Jp hok e2 6;obtain ⟨g1,g2,g3⟩:=LK hok e2 3;rw [←cP] at f1 f2 f3 g1 g3;rw [←gH] at f1 f2;rw [←dO] at g1 g3;rw [←jA] at g2 g3)
 cbv
 iterate 2 refine gI (by simp [ht]) ?_
 refine pI (by simp [ht]) ?_
 iterate 2 refine gI (by simp [ht]) ?_
 refine pI (by simp [ht]) ?_
 iterate 3 refine gI (by simp [ht]) ?_
 (obtain ⟨pr,Sv⟩:∃pr,pr=(C0 x2.id r2.1.aW.places).map aT:=⟨_,rfl⟩;refine mT (fun g=>⟨by first|(simp [ht];done)|(simpa [ht] using g)|(simp_all [ht];done),by simp,W8 ht _ (ps:=r2.1.aW.places) (by simp only [ht]<;>rfl) DI.places Sv⟩) rfl rfl rfl ?_)
 cbv
 refine gI (by simp [ht]) ?_
 (refine aM (fun g=>⟨⟨g,g,trivial⟩,by simp [ht],Sl ht (l:=Po w k) (m:=Po w k) (by rw [Sv,f3]) (by simp only [ht];exact jo) (by rw [Ah j2];omega) (by rw [Ah j2];omega)⟩) rfl rfl (fun r8 qy=>?_);simp only [ht] at qy;replace qy:r8=true:=(by simpa using qy))
 cbv
 refine gI (by simp [ht]) ?_
 refine pI (by simp [ht]) ?_
 refine ai (fun h6=>?_) (fun h6=>?_)
 ·simp [ht] at h6
  cbv
  refine an trivial trivial rfl rfl rfl ?_
  (simp_all;done)
 simp [ht] at h6
 cbv
 iterate 2 refine gI (by simp) ?_
 (refine aM (fun g=>⟨by first|(simp;done)|(simpa [ht] using g)|(simp_all [ht];done),by simp,(tB ht _ _ _ _ (nl:=r3.1.aW.nodes) (pl:=r3.1.aW.places) (tl:=r3.1.tree) (jl:=r3.1.aI) (ql:=r3.1.queue) (el:=r1.ev.l) (al:=r3.1.au.l) (by simp only [ht]<;>rfl) (by simp only [ht]<;>rfl) (by simp only [ht]<;>rfl) (by simp only [ht]<;>rfl) (by simp only [ht]<;>rfl) (by simp only [ht]<;>rfl) (by simp only [ht]<;>rfl) _ _ _ _ (nl':=r1.aW.nodes) (V6:=r1.aW.places) (V7:=r1.tree) (Va:=r1.aI) (V8:=r1.queue) (V9:=r1.ev.l) (Wa:=r1.au.l) (by simp only [ht]<;>rfl) (by simp only [ht]<;>rfl) (by simp only [ht]<;>rfl) (by simp only [ht]<;>rfl) (by simp only [ht]<;>rfl) (by simp only [ht]<;>rfl) (by simp only [ht]<;>rfl) (SP h3s fR) (Vr fR) (Pp h3s) (Pp fR) (Pq h3s) (Pq fR))⟩) rfl rfl (fun r6 gv=>?_);simp only [ht] at gv;replace gv:r6=wz {r3.1 with ev:=r1.ev} r1:=gv)
 cbv
 refine pI (by simp) ?_
 iterate 2 refine gI (by simp [ht]) ?_
 (refine aM (fun g=>⟨by first|(simp [ht];done)|(simpa [ht] using g)|(simp_all [ht];done),by simp,(tB ht _ _ _ _ (nl:=r4.1.aW.nodes) (pl:=r4.1.aW.places) (tl:=r4.1.tree) (jl:=r4.1.aI) (ql:=r4.1.queue) (el:=r5.1.ev.l) (al:=r4.1.au.l) (by simp only [ht]<;>rfl) (by simp only [ht]<;>rfl) (by simp only [ht]<;>rfl) (by simp only [ht]<;>rfl) (by simp only [ht]<;>rfl) (by simp only [ht]<;>rfl) (by simp only [ht]<;>rfl) _ _ _ _ (nl':=r5.1.aW.nodes) (V6:=r5.1.aW.places) (V7:=r5.1.tree) (Va:=r5.1.aI) (V8:=r5.1.queue) (V9:=r5.1.ev.l) (Wa:=r5.1.au.l) (by simp only [ht]<;>rfl) (by simp only [ht]<;>rfl) (by simp only [ht]<;>rfl) (by simp only [ht]<;>rfl) (by simp only [ht]<;>rfl) (by simp only [ht]<;>rfl) (by simp only [ht]<;>rfl) (SP h4s h5s) (Vr h5s) (Pp h4s) (Pp h5s) (Pq h4s) (Pq h5s))⟩) rfl rfl (fun r7 gL=>?_);simp only [ht] at gL;replace gL:r7=wz {r4.1 with ev:=r5.1.ev} r5.1:=gL)
 cbv
 refine pI (by simp [ht]) ?_
 refine an trivial trivial rfl rfl rfl ?_
 (simp only [ht];rw [gv,gL,f2,g3,uT,uT];rfl)
end Dem
end
