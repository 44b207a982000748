/- Parts of a proof, joined. -/
import Derived.Test.YtihohjnkkalgiaaGreatDoorP23
import Derived.Sort.LotA
set_option linter.all false
set_option maxRecDepth 100000
set_option maxHeartbeats 4000000
section
open Go Dem Go.Proofs
namespace Dem
variable {t:Th}
theorem SP (ht:TT t):FC 37 [] [] (.ret (fL t (t _ fun _=>u9 5))) []:=by
 obtain ⟨A,hA⟩:∃A,A=u9 5:=⟨_,rfl⟩
 have h0:=(tY 192).sm
 have h1:=zH.sm
 have h2:=zI.sm
 rw [←hA]
 refine bL ht (aI:=[]) Tryz.func37 rfl rfl (N:=29) rfl rfl (n:=0) rfl rfl ?_
 cbv
 (refine aB trv (zf ht 192 (by decide) rfl) (by simp [ht]) rfl rfl rfl (fun r1 dM=>?_);simp only [ht] at dM;rw [←dM] at h0)
 cbv
 (first|(refine aB trv (iv ht _ _ _ _ (nl:=r1.bz.nodes) (pl:=r1.bz.places) (tl:=r1.tree) (jl:=r1.aG) (ql:=r1.queue) (el:=r1.ev.l) (al:=r1.au.l) (by simp only [ht]) (by simp only [ht]) (by simp only [ht]) (by simp only [ht]) (by simp only [ht]) (by simp only [ht]) (by simp only [ht]) 3 0 0 0 1 1 5 [97] (m8:=[]) rfl (iW uZ) h0.tree.1 h0.aG.1 h0.queue h0.notes.1) (by simp [ht]) rfl rfl rfl (fun r2 fh=>?_);simp only [ht] at fh;have e2:r2.1=Jd:=(by rw [fh,dM];rfl);have e3:r2.2.1=Je:=(by rw [fh,dM];rfl);rw [←e2] at h1)|(refine aB trv (iv ht _ _ _ _ (nl:=r3.1.bz.nodes) (pl:=r3.1.bz.places) (tl:=r3.1.tree) (jl:=r3.1.aG) (ql:=r3.1.queue) (el:=r3.1.ev.l) (al:=r3.1.au.l) (by simp only [ht]) (by simp only [ht]) (by simp only [ht]) (by simp only [ht]) (by simp only [ht]) (by simp only [ht]) (by simp only [ht]) 2 0 0 0 1 3 5 [98] (m8:=[]) rfl (iW (u7 5)) h2.tree.1 h2.aG.1 h2.queue h2.notes.1) (by simp [ht]) rfl rfl rfl (fun r4 eK=>?_);simp only [ht] at eK;have e5:A=r4.1:=(by rw [eK,hA];show (cN Bu (TB 5)).1=_;rw [←e4];rfl)))
 cbv
 (refine aB trv (zw ht _ _ _ _ (nl:=r2.1.bz.nodes) (pl:=r2.1.bz.places) (tl:=r2.1.tree) (jl:=r2.1.aG) (ql:=r2.1.queue) (el:=r2.1.ev.l) (al:=r2.1.au.l) (by simp only [ht]) (by simp only [ht]) (by simp only [ht]) (by simp only [ht]) (by simp only [ht]) (by simp only [ht]) (by simp only [ht]) _ (names:=[[110,49]]) (by first|rfl|(simp only [ht];rfl)) (zB h1) h1.tree.1 h1.aG.1 h1.nodes.1 h1.places h1.queue h1.notes.1 (by simp)) (by simp [ht]) rfl rfl rfl (fun r3 ku=>?_);simp only [ht] at ku;have e4:r3.1=Bu:=(by rw [ku];unfold Bu;rw [←e2,←e3]);rw [←e4] at h2)
 cbv
 (first|(refine aB trv (iv ht _ _ _ _ (nl:=r1.bz.nodes) (pl:=r1.bz.places) (tl:=r1.tree) (jl:=r1.aG) (ql:=r1.queue) (el:=r1.ev.l) (al:=r1.au.l) (by simp only [ht]) (by simp only [ht]) (by simp only [ht]) (by simp only [ht]) (by simp only [ht]) (by simp only [ht]) (by simp only [ht]) 3 0 0 0 1 1 5 [97] (m8:=[]) rfl (iW uZ) h0.tree.1 h0.aG.1 h0.queue h0.notes.1) (by simp [ht]) rfl rfl rfl (fun r2 fh=>?_);simp only [ht] at fh;have e2:r2.1=Jd:=(by rw [fh,dM];rfl);have e3:r2.2.1=Je:=(by rw [fh,dM];rfl);rw [←e2] at h1)|(refine aB trv (iv ht _ _ _ _ (nl:=r3.1.bz.nodes) (pl:=r3.1.bz.places) (tl:=r3.1.tree) (jl:=r3.1.aG) (ql:=r3.1.queue) (el:=r3.1.ev.l) (al:=r3.1.au.l) (by simp only [ht]) (by simp only [ht]) (by simp only [ht]) (by simp only [ht]) (by simp only [ht]) (by simp only [ht]) (by simp only [ht]) 2 0 0 0 1 3 5 [98] (m8:=[]) rfl (iW (u7 5)) h2.tree.1 h2.aG.1 h2.queue h2.notes.1) (by simp [ht]) rfl rfl rfl (fun r4 eK=>?_);simp only [ht] at eK;have e5:A=r4.1:=(by rw [eK,hA];show (cN Bu (TB 5)).1=_;rw [←e4];rfl)))
 cbv
 refine ax trv trv rfl rfl rfl ?_
 (simp only [ht,e5];done)
theorem HH (ht:TT t) (rd nx ef af:Int) {nl:List Node} {pl:List Place} {tl:List bu} {jl:List Jb} {ql:List cR} {el al:List eI} {ns ps ts js qs es cQ:List (List D)} (fC:ns=nl.map Node.cells) (hps:ps=pl.map Place.cells) (hts:ts=tl.map bu.cells) (eZ:js=jl.map Jb.cells) (eU:qs=ql.map cR.cells) (aA:es=el.map eI.cells) (has:cQ=al.map eI.cells) (k:Nat) {kk:Int} (hk:kk=k) (hk2:k<256) (Rd:ql.length<1000000):FC 16 [.agg [az rd,az nx,SL ns,SL ps,SL ts,SL js,SL qs,az ef,SL es,az af,SL cQ],U8 kk] [] (.ret (EC (t _ fun _=>ke ⟨rd,nx,⟨nl,pl⟩,tl,jl,ql,⟨ef,el⟩,⟨af,al⟩⟩ k))) []:=by
 have hm:(k:Int).tmod (ql.length:Int)=((k%ql.length:Nat):Int):=by rw [Int.tmod_eq_emod_of_nonneg (by omega)];rfl
 have hw:IntKind.i64.wrap (k:Int)=k:=wrap64 (by omega) (by omega)
 refine bL ht (aI:=[]) Tryz.func16 rfl rfl (N:=20) rfl rfl (n:=0) rfl rfl ?_
 cbv
 have aU:ns.length=nl.length:=by rw [fC,lgM]
 have aW:ps.length=pl.length:=by rw [hps,lgM]
 have aV:ts.length=tl.length:=by rw [hts,lgM]
 have aX:js.length=jl.length:=by rw [eZ,lgM]
 have aK:qs.length=ql.length:=by rw [eU,lgM]
 have av:es.length=el.length:=by rw [aA,lgM]
 have aJ:cQ.length=al.length:=by rw [has,lgM]
 refine an (fun h0=>?_) (fun h0=>?_)
 ·simp [ht,aa,aU,aW,aV,aX,aK,av,aJ] at h0
  cbv
  refine ax trv trv rfl rfl rfl ?_
  (simp [ht,EC,ke, *];done)
 simp [ht,aa,aU,aW,aV,aX,aK,av,aJ] at h0
 cbv
 refine c7 [false,false,false,false,false,false,false,false,true,true,true,true] (by kernel_rfl) (by kernel_rfl) ?_
 cbv
 iterate 7 refine gI (by simp [ht,ah]) ?_
 refine gI (by simp [ht,ah];intros;simp_all) ?_
 (have hl:(qs.length:Int)=ql.length:=(by rw [eU,lgM]);have XD:0<ql.length:=(List.length_pos_iff.2 h0);refine jZ ht (l:=ql) (cells:=cR.cells) (cT:=cR.bC t) eU (by simp only [ht,aa,hk,hw,hl,hm];omega) (by simp only [ht,aa,hk,hw,hl,hm];have:=Nat.mod_lt k XD;omega) (fun _=>rfl) (fun _=>rfl) (fun x2 nj=>?_);simp only [ht,aa,hk,hw,hl,hm,Int.toNat_natCast] at nj)
 cbv
 refine ax trv trv rfl rfl rfl ?_
 (simp [ht,EC,ke, *];done)
end Dem
end
section
open Go Go.Sort
namespace Dem
def vc (a b:Jb):Bool:=decide (a.x.prio<b.x.prio)||(decide (a.x.prio=b.x.prio)&&decide (b.id<a.id))
theorem Jj:SWO vc:=by
 refine ⟨?_,?_,?_⟩<;>simp only [vc]<;>simp<;>omega
theorem Bw (L:List Jb):(Sort.insertionSort vc L.toArray 0 L.length).toList.Perm L:=by
 obtain ⟨⟨h0,h1,h2⟩,h3⟩:=insertionSort_holds (lt:=vc) Jj L.toArray 0 L.length (Nat.zero_le _) (by simp)
 have hs:(Sort.insertionSort vc L.toArray 0 L.length).size=L.length:=by rw [h0];simp
 have e1:(Sort.insertionSort vc L.toArray 0 L.length).extract 0 L.length=Sort.insertionSort vc L.toArray 0 L.length:=by
  apply Array.extract_eq_self_of_le;omega
 have e2:L.toArray.extract 0 L.length=L.toArray:=by apply Array.extract_eq_self_of_le;simp
 rw [e1,e2] at h2
 simpa using h2
theorem HI {L:List Jb} (hd:L.Pairwise fun a b=>a.id<b.id):(Sort.insertionSort vc L.toArray 0 L.length).toList=L.mergeSort gR:=by
 obtain ⟨⟨h0,h1,h2⟩,h3⟩:=insertionSort_holds (lt:=vc) Jj L.toArray 0 L.length (Nat.zero_le _) (by simp)
 have hp:=Bw L
 have h4:(L.mergeSort gR).Pairwise fun a b=>gR a b=true:=by
  refine List.pairwise_mergeSort ?_ ?_ _
  ·intro a b c;simp only [gR,Bool.or_eq_true,Bool.and_eq_true,decide_eq_true_eq];omega
  intro a b;simp only [gR,Bool.or_eq_true,Bool.and_eq_true,decide_eq_true_eq];omega
 refine (hp.trans (List.mergeSort_perm L gR).symm).eq_of_pairwise (le:=fun a b=>gR a b=true) ?_ ?_ h4
 ·intro a b ha hb g1 g2
  have ma:a∈L:=hp.mem_iff.1 ha
  have mb:b∈L:=(List.mergeSort_perm L gR).mem_iff.1 hb
  simp only [gR,Bool.or_eq_true,Bool.and_eq_true,decide_eq_true_eq] at g1 g2
  exact iR hd ma mb (by omega)
 rw [List.pairwise_iff_getElem]
 intro i j hi hj hij
 have hs:(Sort.insertionSort vc L.toArray 0 L.length).size=L.length:=by rw [h0];simp
 simp only [Array.length_toList] at hi hj
 have:=h3 i j (Nat.zero_le _) hij (by omega)
 rw [getElem!_pos _ j hj,getElem!_pos _ i hi] at this
 simp only [Array.getElem_toList]
 simp only [vc,Bool.or_eq_false_iff,Bool.and_eq_false_iff,decide_eq_false_iff_not] at this
 simp only [gR,Bool.or_eq_true,Bool.and_eq_true,decide_eq_true_eq]
 omega
end Dem
end
section
open Go Dem Go.Proofs
namespace Dem
variable {t:Th}
theorem N9 (ht:TT t) (x:Int):FC 101 [bG x] [] (.ret (cP (t _ fun _=>false))) []:=by
 refine bL ht (aI:=[]) Tryz.func101 rfl rfl (N:=6) rfl rfl (n:=0) rfl rfl ?_
 cbv
 refine ax trv trv rfl rfl rfl ?_
 (simp [ht,cP];done)
theorem Qp (ht:TT t) (x y:Int):FC 50 [bG x,bG y] [] (.ret (fQ (t _ fun _=>ix x y))) []:=by
 refine bL ht (aI:=[]) Tryz.func50 rfl rfl (N:=20) rfl rfl (n:=0) rfl rfl ?_
 cbv
 refine aZ trv (N9 ht _) trv rfl rfl (fun r0 cF=>?_)
 simp only [ht] at cF
 cbv
 refine aZ trv (N9 ht _) trv rfl rfl (fun r1 dM=>?_)
 simp only [ht] at dM
 cbv
 refine an (fun h2=>?_) (fun h2=>?_)
 ·cbv
  refine an (fun h3=>?_) (fun h3=>?_)
  ·cbv
   refine ax trv trv rfl rfl rfl ?_
   (simp only [ht,aa,fQ,ix];grind)
  cbv
  refine ax trv trv rfl rfl rfl ?_
  (simp only [ht,aa,fQ,ix];grind)
 cbv
 refine an (fun h4=>?_) (fun h4=>?_)
 ·cbv
  refine ax trv trv rfl rfl rfl ?_
  (simp only [ht,aa,fQ,ix];grind)
 cbv
 refine an (fun h5=>?_) (fun h5=>?_)
 ·simp [ht,aa] at h5
  cbv
  refine ax trv trv rfl rfl rfl ?_
  (simp [ht,fQ,ix, *];done)
 simp [ht,aa] at h5
 cbv
 refine an (fun h6=>?_) (fun h6=>?_)
 ·simp [ht,aa] at h6
  cbv
  refine ax trv trv rfl rfl rfl ?_
  (simp [ht,fQ,ix, *];done)
 simp [ht,aa] at h6
 cbv
 refine ax trv trv rfl rfl rfl ?_
 (simp only [ht,aa,fQ,ix];grind)
def Oa:List Int→Int
 |[]=>0
 |x::r=>if x=0 then Oa r else x
def SQ (x:Int):List D:=[.int .i64 x]
def Qq (_:Th) (x:Int):List D:=[.int .i64 x]
theorem Vn (ht:TT t) {l:List Int} {es:List (List D)} (aA:es=l.map SQ) (hl:l.length<1000000000):FC 49 [SL es] [] (.ret (fQ (t _ fun _=>Oa l))) []:=by
 refine bL ht (aI:=[]) Tryz.func49 rfl rfl (N:=18) rfl rfl (n:=0) rfl rfl ?_
 cbv
 have av:es.length=l.length:=by rw [aA,lgM]
 obtain ⟨J0,fI⟩:∃J0:Nat→Int→Prop,∀n i,J0 n i↔(∃k:Nat,i=k∧k+n=l.length∧Oa l=Oa (l.drop k)):=⟨fun n v=>match v with|i=>(∃k:Nat,i=k∧k+n=l.length∧Oa l=Oa (l.drop k)),fun _ _=>Iff.rfl⟩
 refine bI ⟨[3,6,7,8],[],[]⟩ (σ:=Int) (fun v=>[(8,.d (.int .i64 (t _ fun _=>v)))]) (fun v=>[]) J0 ?_
 cbv
 refine aC ⟨l.length,_,(fI _ _).2 ?_,by simp only [ht];rfl,?_⟩
 ·exact ⟨0,rfl,by simp,by simp⟩
 rintro n i hj
 replace hj:=(fI _ _).1 hj
 obtain ⟨k,rfl,j1,j4⟩:=hj
 cbv
 refine an (fun h1=>?_) (fun h1=>?_)
 ·simp [ht,aa,av] at h1
  cbv
  (refine jZ ht aA (cT:=Qq t) (by simp only [ht];((try simp only [aa] at*);omega)) (by simp only [ht,aa];((try simp only [aa] at*);omega)) (fun _=>rfl) (fun _=>rfl) (fun x mx=>?_);simp only [ht,aa,Int.toNat_natCast] at mx;rw [gu mx,Oa] at j4)
  cbv
  refine an (fun h2=>?_) (fun h2=>?_)
  ·simp [ht,aa,av] at h2
   cbv
   refine ax trv trv rfl rfl rfl ?_
   (simp_all [Oa];done)
  simp [ht,aa,av] at h2
  cbv
  refine cL _ (by simp only [ht];rfl) (n-1) ?_ ((fI _ _).2 ?_)
  ·omega
  simp only [ht,aa]
  exact ⟨k+1,aD (by ((try simp only [aa] at*);omega)),by ((try simp only [aa] at*);omega),by rw [j4,if_pos (by simp_all)]⟩
 simp [ht,aa,av] at h1
 cbv
 refine ax trv trv rfl rfl rfl ?_
 (rw [List.drop_eq_nil_of_le (by ((try simp only [aa] at*);omega)),Oa] at j4;simp only [ht,j4];done)
def HJ (a b:Jb):Int:=Oa [ix a.x.prio b.x.prio,ix b.id a.id]
theorem Jk {a b:Jb}:HJ a b<0↔vc a b=true:=by
 simp only [HJ,Oa,ix,vc,Bool.or_eq_true,Bool.and_eq_true,decide_eq_true_eq]
 split<;>split<;>(try split)<;>(try split)<;>omega
theorem Qr (ht:TT t) (a1 a3 a4 a5 a6 a7 a8 a9 a12 b1 b3 b4 b5 b6 b7 b8 b9 K8:Int) (a2 b2:aQ) (SR K9:Bool) {sa sb:List Term} {ar br:List (List D)} (har:ar=sa.map Term.cells) (Xq:br=sb.map Term.cells):
 FC 48 [.agg [az a1,ST a2,az a3,az a4,az a5,az a6,bG a7,bG a8,bG a9,SL ar,BL SR,bG a12],.agg [az b1,ST b2,az b3,az b4,az b5,az b6,bG b7,bG b8,bG b9,SL br,BL K9,bG K8]] [] (.ret (fQ (t _ fun _=>HJ ⟨a1,⟨a2,⟨a3,a4,a5,a6⟩,a7,a8,a9,sa⟩,SR,a12⟩ ⟨b1,⟨b2,⟨b3,b4,b5,b6⟩,b7,b8,b9,sb⟩,K9,K8⟩))) []:=by
 obtain ⟨o,ho⟩:∃o,o=HJ ⟨a1,⟨a2,⟨a3,a4,a5,a6⟩,a7,a8,a9,sa⟩,SR,a12⟩ ⟨b1,⟨b2,⟨b3,b4,b5,b6⟩,b7,b8,b9,sb⟩,K9,K8⟩:=⟨_,rfl⟩
 rw [←ho]
 refine bL ht (aI:=[]) Tryz.func48 rfl rfl (N:=19) rfl rfl (n:=0) rfl rfl ?_
 cbv
 have XE:ar.length=sa.length:=by rw [har,lgM]
 have XF:br.length=sb.length:=by rw [Xq,lgM]
 refine c7 [false,false,false,false,false,false,false,false,false,false,false,true,true,true,true] (by kernel_rfl) (by kernel_rfl) ?_
 cbv
 iterate 6 refine gI (by simp [ht,ah]) ?_
 refine .inl ?_
 refine cY (fun g0=>⟨trv,trv,Qp ht _ _⟩) rfl rfl (fun r1 dM=>?_)
 simp only [ht] at dM
 cbv
 iterate 4 refine gI (by simp [ht,ah]) ?_
 refine aZ trv (ND ht _ _) trv rfl rfl (fun r2 fh=>?_)
 simp only [ht] at fh
 cbv
 (refine aZ trv (Vn ht (l:=[r1,r2]) rfl (by simp)) (by simp [ht]) rfl rfl (fun r3 ku=>?_);simp only [ht] at ku)
 cbv
 refine ax trv trv rfl rfl rfl ?_
 (simp only [ht,fQ];simp_all [HJ];done)
theorem Qs (ht:TT t) (a b n:Nat) (d:Array Jb) {es:List (List D)} {ai bi:Int} (ha:ai=a) (vn:bi=b) (aA:es=d.toList.map Jb.cells) (hn:n=d.size) (hb:b≤n) (hl:n<1000000) (ZV:a<1000000000):
 FC 153 [.ow 0 12 n,bG ai,bG bi,.fn 48 []] [.row 12 es] (.ret (.dL [])) [.row 12 (t _ fun _=>(Sort.insertionSort vc d a b).toList.map Jb.cells)]:=by
 refine bL ht (aI:=[.row 12 es]) Tryz.func153 rfl rfl (N:=53) rfl rfl (n:=1) rfl rfl ?_
 cbv
 obtain ⟨J0,fI⟩:∃J0:Nat→Int×List (List D)→Prop,∀m i u,J0 m (i,u)↔(∃(k:Nat) (r:Array Jb),i=k∧b≤k+m∧a+1≤k∧k≤1000000000∧r.size=n∧u=r.toList.map Jb.cells∧Sort.insertionSort vc d a b=Sort.insOuter vc a b k r):=⟨fun m v=>match v with|(i,u)=>(∃(k:Nat) (r:Array Jb),i=k∧b≤k+m∧a+1≤k∧k≤1000000000∧r.size=n∧u=r.toList.map Jb.cells∧Sort.insertionSort vc d a b=Sort.insOuter vc a b k r),fun _ _ _=>Iff.rfl⟩
 refine bI ⟨[0,1,2,3,8],[],[]⟩ (σ:=Int×List (List D)) (fun v=>[(8,.d (.int .i64 (t _ fun _=>v.1)))]) (fun v=>[(0,.row 12 (t _ fun _=>v.2))]) J0 ?_
 cbv
 refine aC ⟨b,(_,_),(fI _ _ _).2 ?_,by simp only [ht];rfl,?_⟩
 ·exact ⟨a+1,d,by rw [ha];exact aD (by ((try simp only [aa] at*);omega)),by ((try simp only [aa] at*);omega),by ((try simp only [aa] at*);omega),by ((try simp only [aa] at*);omega),hn.symm,aA,rfl⟩
 rintro m ⟨i,u⟩ hj
 replace hj:=(fI _ _ _).1 hj
 obtain ⟨k,r,rfl,j1,j2,j3,j5,j6,j4⟩:=hj
 cbv
 refine an (fun h1=>?_) (fun h1=>?_)
 ·simp [ht,aa] at h1
  cbv
  obtain ⟨J2,Am⟩:∃J2:Nat→Int×List (List D)→Prop,∀m2 jj u,J2 m2 (jj,u)↔(∃(j:Nat) (q:Array Jb),jj=j∧j≤m2∧j≤k∧q.size=n∧u=q.toList.map Jb.cells∧Sort.insertionSort vc d a b=Sort.insOuter vc a b (k+1) (Sort.insInner vc a j q)):=⟨fun m2 v=>match v with|(jj,u)=>(∃(j:Nat) (q:Array Jb),jj=j∧j≤m2∧j≤k∧q.size=n∧u=q.toList.map Jb.cells∧Sort.insertionSort vc d a b=Sort.insOuter vc a b (k+1) (Sort.insInner vc a j q)),fun _ _ _=>Iff.rfl⟩
  refine bI ⟨[0,1,2,3,8,9],[],[]⟩ (σ:=Int×List (List D)) (fun v=>[(9,.d (.int .i64 (t _ fun _=>v.1)))]) (fun v=>[(0,.row 12 (t _ fun _=>v.2))]) J2 ?_
  cbv
  refine aC ⟨k,(_,_),(Am _ _ _).2 ?_,rfl,?_⟩
  ·exact ⟨k,r,rfl,by ((try simp only [aa] at*);omega),by ((try simp only [aa] at*);omega),j5,j6,by rw [j4,qR];((try simp only [aa] at*);omega)⟩
  rintro m2 ⟨jj,u⟩ hj
  replace hj:=(Am _ _ _).1 hj
  obtain ⟨j,q,rfl,q1,q2,q5,q6,q4⟩:=hj
  cbv
  refine c7 [false,false,true,true,false,false,false,false,false,false,false,false,false,false,true,true,true] (by kernel_rfl) (by kernel_rfl) ?_
  cbv
  iterate 5 refine gI (by simp [ht,ah]) ?_
  refine gI (by simp [ht,ah,bJ,aa,fQ];grind) ?_
  (refine wZ q6 (Jb.bC t) (fun _=>by simp only [Jb.cells,Jb.bC,ht]) j (fun g=>(by simp [ht,aa] at g ⊢;exact ⟨by ((try simp only [aa] at*);omega),fun h=>(by first|exact h|exact ⟨g,h⟩|exact g|((try simp only [aa] at*);omega))⟩)) (fun y ey=>?_))
  cbv
  iterate 3 refine gI (by simp [ht,ah]) ?_
  refine gI (by (simp [ht,aa];intro g;rw [wrap64 (by ((try simp only [aa] at*);omega)) (by ((try simp only [aa] at*);omega))];((try simp only [aa] at*);omega))) ?_
  (refine wZ q6 (Jb.bC t) (fun _=>by simp only [Jb.cells,Jb.bC,ht]) (j-1) (fun g=>(by simp only [ht,decide_eq_true_eq,aa] at g ⊢;rw [wrap64 (by ((try simp only [aa] at*);omega)) (by ((try simp only [aa] at*);omega)),show ((j:Int)-1).toNat=j-1 by ((try simp only [aa] at*);omega)];exact ⟨by ((try simp only [aa] at*);omega),rfl,fun h=>(by first|exact h|exact ⟨g,h⟩|exact ⟨trv,h⟩)⟩)) (fun z ez=>?_))
  cbv
  refine cY (fun g3=>⟨by simp [ht] at g3 ⊢;exact g3,trv,Qr ht _ _ _ _ _ _ _ _ _ _ _ _ _ _ _ _ _ _ _ _ _ _ (jY ht rfl) (jY ht rfl)⟩) rfl rfl (fun r4 eK=>?_)
  simp only [ht] at eK
  cbv
  refine gI (by simp [ht,ah]) ?_
  refine pI (by simp [ht,ah]) ?_
  refine an (fun h5=>?_) (fun h5=>?_)
  ·simp [ht,aa] at h5
   cbv
   refine Ea [0,1,2,3,4,5,6,7,10,11] [false,false,false,false,false,false,false,false,false,false,false,false,false,false,true,true,true,true] (by kernel_rfl) (by kernel_rfl) (by kernel_rfl) (by kernel_rfl) (by kernel_rfl) ?_
   cbv
   iterate 8 refine gI (by simp [ht,ah]) ?_
   refine gI (by (simp [ht,aa];rw [wrap64 (by ((try simp only [aa] at*);omega)) (by ((try simp only [aa] at*);omega))];((try simp only [aa] at*);omega))) ?_
   (refine wZ q6 (Jb.bC t) (fun _=>by simp only [Jb.cells,Jb.bC,ht]) (j-1) (fun g=>(by simp only [ht,aa];rw [wrap64 (by ((try simp only [aa] at*);omega)) (by ((try simp only [aa] at*);omega)),show ((j:Int)-1).toNat=j-1 by ((try simp only [aa] at*);omega)];exact ⟨by ((try simp only [aa] at*);omega),rfl,fun h=>h⟩)) (fun z2 Xw=>?_))
   cbv
   iterate 2 refine gI (by simp [ht,ah]) ?_
   refine gI (by simp [ht,ah,bJ,aa,fQ];grind) ?_
   (refine wZ q6 (Jb.bC t) (fun _=>by simp only [Jb.cells,Jb.bC,ht]) j (fun g=>(by simp only [ht,aa,Int.toNat_natCast];exact ⟨by ((try simp only [aa] at*);omega),trv,fun h=>h⟩)) (fun y2 Xx=>?_))
   cbv
   refine ⟨?_,?_⟩
   ·(simp only [ht,aa] at*;omega)
   refine ⟨?_,?_⟩
   ·(simp only [ht,aa,Int.toNat_natCast];exact NO (n:=12) q6 (fun _=>rfl) (by ((try simp only [aa] at*);omega)) rfl)
   refine ⟨?_,?_⟩
   ·(simp only [ht,aa];rw [wrap64 (by ((try simp only [aa] at*);omega)) (by ((try simp only [aa] at*);omega))];((try simp only [aa] at*);omega))
   refine ⟨?_,?_⟩
   ·(simp only [ht,aa,Int.toNat_natCast];rw [wrap64 (by ((try simp only [aa] at*);omega)) (by ((try simp only [aa] at*);omega)),show ((j:Int)-1).toNat=j-1 by ((try simp only [aa] at*);omega)];exact NO (n:=12) (HB (n:=12) q6 (fun _=>rfl) (by ((try simp only [aa] at*);omega)) z2) (fun _=>rfl) (by simp;((try simp only [aa] at*);omega)) rfl)
   cbv
   refine cL (_,_) (by simp only [ht];rfl) (m2-1) ?_ ((Am _ _ _).2 ?_)
   ·((try simp only [aa] at*);omega)
   simp only [ht,aa]
   exact ⟨j-1,Sort.swp q j (j-1),Ce (by ((try simp only [aa] at*);omega)) (by ((try simp only [aa] at*);omega)),by ((try simp only [aa] at*);omega),by ((try simp only [aa] at*);omega),by rw [swp_size];exact q5,by rw [wrap64 (by ((try simp only [aa] at*);omega)) (by ((try simp only [aa] at*);omega)),show ((j:Int)-1).toNat=j-1 by ((try simp only [aa] at*);omega),Int.toNat_natCast];exact NP (n:=12) q6 (fun _=>rfl) (by ((try simp only [aa] at*);omega)) (by ((try simp only [aa] at*);omega)) Xx Xw,by rw [q4,wq (by ((try simp only [aa] at*);omega)) (by rw [←ey,←ez];exact Jk.1 (by have e:r4=HJ y z:=eK;rw [←e];exact h5.2))]⟩
  simp [ht,aa] at h5
  cbv
  refine cL (_,_) (by simp only [ht];rfl) (m-1) ?_ ((fI _ _ _).2 ?_)
  ·((try simp only [aa] at*);omega)
  simp only [ht,aa]
  exact ⟨k+1,q,aD (by ((try simp only [aa] at*);omega)),by ((try simp only [aa] at*);omega),by ((try simp only [aa] at*);omega),by ((try simp only [aa] at*);omega),q5,q6,by rw [q4,qT (fun g=>by rw [←ey,←ez];exact Bool.eq_false_iff.2 fun e=>absurd (Jk.2 e) (by have e:r4=HJ y z:=eK;rw [←e];have:=h5 (by ((try simp only [aa] at*);omega));((try simp only [aa] at*);omega)))]⟩
 simp [ht,aa] at h1
 cbv
 refine ax trv trv rfl ?_ rfl rfl
 (simp only [ht];rw [j4,tX _ _ _ _ (by ((try simp only [aa] at*);omega)),←j6];rfl)
theorem HK (ht:TT t) (n:Nat) (d:Array Jb) {es:List (List D)} {ni:Int} (hni:ni=n) (aA:es=d.toList.map Jb.cells) (hn:n=d.size) (hl:n≤12):
 FC 100 [.ow 0 12 n,bG ni,.fn 48 []] [.row 12 es] (.ret (.dL [])) [.row 12 (t _ fun _=>(Sort.insertionSort vc d 0 n).toList.map Jb.cells)]:=by
 refine bL ht (aI:=[.row 12 es]) Tryz.func100 rfl rfl (N:=63) rfl rfl (n:=1) rfl rfl ?_
 cbv
 obtain ⟨J0,fI⟩:∃J0:Nat→Int×Int→Prop,∀m a b,J0 m (a,b)↔(a=0∧b=20):=⟨fun m v=>match v with|(a,b)=>(a=0∧b=20),fun _ _ _=>Iff.rfl⟩
 refine bI ⟨[0,1,2,6,7,8],[],[]⟩ (σ:=Int×Int) (fun v=>[(7,.d (.int .i64 (t _ fun _=>v.1))),(8,.d (.int .i64 (t _ fun _=>v.2)))]) (fun v=>[]) J0 ?_
 cbv
 refine aC ⟨1,(_,_),(fI _ _ _).2 ?_,by simp only [ht];rfl,?_⟩
 ·exact ⟨rfl,rfl⟩
 rintro m ⟨a,b⟩ hj
 replace hj:=(fI _ _ _).1 hj
 obtain ⟨QJ,vz⟩:=hj
 cbv
 refine an (fun h1=>?_) (fun h1=>?_)
 ·simp [ht,aa] at h1
  (simp only [aa] at*;omega)
 simp [ht,aa] at h1
 cbv
 refine dx [0] trv rfl rfl (Qs ht 0 n n d (by simp only [ht];exact QJ) hni aA hn (Nat.le_refl _) (by ((try simp only [aa] at*);omega)) (by ((try simp only [aa] at*);omega))) (cj ?_)
 cbv
 obtain ⟨J2,Am⟩:∃J2:Nat→Int→Prop,∀m b,J2 m b↔(b=20):=⟨fun m v=>match v with|b=>(b=20),fun _ _=>Iff.rfl⟩
 refine bI ⟨[0,1,2,6],[],[]⟩ (σ:=Int) (fun v=>[(6,.d (.int .i64 (t _ fun _=>v)))]) (fun v=>[]) J2 ?_
 cbv
 refine aC ⟨1,_,(Am _ _).2 ?_,by simp only [ht];rfl,?_⟩
 ·rfl
 rintro m b hj
 replace hj:=(Am _ _).1 hj
 obtain sN:=hj
 cbv
 refine an (fun h3=>?_) (fun h3=>?_)
 ·simp [ht,aa] at h3
  omega
 simp [ht,aa] at h3
 cbv
 refine ax trv trv rfl rfl rfl ?_
 rfl
theorem Ob (ht:TT t) (n:Nat) (d:Array Jb) {es:List (List D)} (aA:es=d.toList.map Jb.cells) (hn:n=d.size) (hl:n≤12):
 FC 47 [.ow 0 12 n,.fn 48 []] [.row 12 es] (.ret (.dL [])) [.row 12 (t _ fun _=>(Sort.insertionSort vc d 0 n).toList.map Jb.cells)]:=by
 have hel:(es.length:Int)=n:=by rw [aA,hn];simp
 refine bL ht (aI:=[.row 12 es]) Tryz.func47 rfl rfl (N:=9) rfl rfl (n:=1) rfl rfl ?_
 cbv
 refine ⟨?_,?_⟩
 ·(simp only [ht,aa] at*;omega)
 cbv
 refine dx [0] trv rfl rfl (HK ht n d (by simp only [ht];exact hel) aA hn hl) (cj ?_)
 cbv
 refine ax trv trv rfl rfl rfl ?_
 rfl
theorem Qt (ht:TT t):FC 153 [SL [],bG 0,bG 0,.fn 48 []] [] (.ret (.dL [])) []:=by
 refine bL ht (aI:=[]) Tryz.func153 rfl rfl (N:=53) rfl rfl (n:=0) rfl rfl ?_
 cbv
 obtain ⟨J0,fI⟩:∃J0:Nat→Int→Prop,∀m a,J0 m a↔(a=1):=⟨fun m v=>match v with|a=>(a=1),fun _ _=>Iff.rfl⟩
 refine bI ⟨[0,1,2,3,8],[],[]⟩ (σ:=Int) (fun v=>[(8,.d (.int .i64 (t _ fun _=>v)))]) (fun v=>[]) J0 ?_
 cbv
 refine aC ⟨1,_,(fI _ _).2 ?_,rfl,?_⟩
 ·rfl
 rintro m a hj
 replace hj:=(fI _ _).1 hj
 obtain QJ:=hj
 cbv
 refine an (fun h1=>?_) (fun h1=>?_)
 ·simp [ht,aa] at h1
  omega
 simp [ht,aa] at h1
 cbv
 refine ax trv trv rfl rfl rfl ?_
 rfl
theorem HL (ht:TT t):FC 100 [SL [],bG 0,.fn 48 []] [] (.ret (.dL [])) []:=by
 refine bL ht (aI:=[]) Tryz.func100 rfl rfl (N:=63) rfl rfl (n:=0) rfl rfl ?_
 cbv
 obtain ⟨J0,fI⟩:∃J0:Nat→Int×Int→Prop,∀m a b,J0 m (a,b)↔(a=0∧b=20):=⟨fun m v=>match v with|(a,b)=>(a=0∧b=20),fun _ _ _=>Iff.rfl⟩
 refine bI ⟨[0,1,2,6,7,8],[],[]⟩ (σ:=Int×Int) (fun v=>[(7,.d (.int .i64 (t _ fun _=>v.1))),(8,.d (.int .i64 (t _ fun _=>v.2)))]) (fun v=>[]) J0 ?_
 cbv
 refine aC ⟨1,(_,_),(fI _ _ _).2 ?_,by simp only [ht];rfl,?_⟩
 ·exact ⟨rfl,rfl⟩
 rintro m ⟨a,b⟩ hj
 replace hj:=(fI _ _ _).1 hj
 obtain ⟨QJ,vz⟩:=hj
 cbv
 refine an (fun h1=>?_) (fun h1=>?_)
 ·simp [ht,aa] at h1
  omega
 simp [ht,aa] at h1
 cbv
 refine fO trv (by have:=Qt ht;simpa only [ht,QJ] using this) trv rfl rfl ?_
 cbv
 obtain ⟨J2,Am⟩:∃J2:Nat→Int→Prop,∀m b,J2 m b↔(b=20):=⟨fun m v=>match v with|b=>(b=20),fun _ _=>Iff.rfl⟩
 refine bI ⟨[0,1,2,6],[],[]⟩ (σ:=Int) (fun v=>[(6,.d (.int .i64 (t _ fun _=>v)))]) (fun v=>[]) J2 ?_
 cbv
 refine aC ⟨1,_,(Am _ _).2 ?_,by simp only [ht];rfl,?_⟩
 ·rfl
 rintro m b hj
 replace hj:=(Am _ _).1 hj
 obtain sN:=hj
 cbv
 refine an (fun h3=>?_) (fun h3=>?_)
 ·simp [ht,aa] at h3
  omega
 simp [ht,aa] at h3
 cbv
 refine ax trv trv rfl rfl rfl ?_
 rfl
theorem Oc (ht:TT t):FC 47 [SL [],.fn 48 []] [] (.ret (.dL [])) []:=by
 refine bL ht (aI:=[]) Tryz.func47 rfl rfl (N:=9) rfl rfl (n:=0) rfl rfl ?_
 cbv
 refine fO trv (by simp only [ht];exact HL ht) trv rfl rfl ?_
 cbv
 refine ax trv trv rfl rfl rfl ?_
 rfl
theorem La (ht:TT t) (jc:List D) {l:List (Jb)} {es:List (List D)} (aA:es=l.map Jb.cells) (f:Nat) (p:Jb→Bool) (hl:l.length<9223372036854775807)
 (hf:∀x∈l,FC f [.agg [az x.id,ST x.x.path,az x.x.gB.a,az x.x.gB.b,az x.x.gB.c,az x.x.gB.d,bG x.x.count,bG x.x.prio,bG x.x.fB,SL (x.x.bZ.map Term.cells),BL x.runs,bG x.left],.ep jc] [] (.ret (BL (p x))) []) {r:Int} (hr:r=idxOf p l):FC 70 [SL es,.fn f [.ep jc]] [] (.ret (bG r)) []:=by
 have hel:es.length=l.length:=by rw [aA,lgM]
 obtain ⟨J,hJ⟩:∃J:Nat→Nat→Prop,∀n v,J n v↔(v+n=l.length∧∀i<v,∀x,l[i]?=some x→p x=false):=⟨fun n v=>v+n=l.length∧∀i<v,∀x,l[i]?=some x→p x=false,fun _ _=>Iff.rfl⟩
 refine bL ht (aI:=[]) Tryz.func70 rfl rfl (N:=19) rfl rfl (n:=0) rfl rfl ?_
 cbv
 refine bI ⟨[0,1,7,8],[],[]⟩ (σ:=Nat) (fun k=>[(8,bG (t _ fun _=>(k:Int)))]) (fun _=>[]) J ?_
 cbv
 refine aC ⟨l.length,0,(hJ _ _).2 ⟨by omega,by intro i hi;simp at hi⟩,by simp only [ht];rfl,?_⟩
 rintro n k hj
 obtain ⟨h2,h3⟩:=(hJ _ _).1 hj
 clear hj
 cbv
 refine an (fun h=>?_) (fun h=>?_)
 ·simp only [ht,aa,decide_eq_true_eq] at h
  have hk:k<l.length:=by omega
  obtain ⟨x,hx⟩:∃x,l[k]?=some x:=⟨l[k],by simp⟩
  have oo:x∈l:=List.mem_of_getElem? hx
  have gG:=hf x oo
  obtain ⟨px,hpx⟩:∃b,b=p x:=⟨_,rfl⟩
  rw [←hpx] at gG
  obtain ⟨id',⟨p',⟨a',b',c',d'⟩,n',Ts,Ii,qB⟩,Tt,Tu⟩:=x;obtain ⟨EY,lI⟩:∃lr:List (List D),lr=qB.map Term.cells:=⟨_,rfl⟩;simp only [←lI] at gG
  cbv
  refine cI [.int .u64 id',.str p',.int .u64 a',.int .u64 b',.int .u64 c',.int .u64 d',.int .i64 n',.int .i64 Ts,.int .i64 Ii,.sl EY,.bool Tt,.int .i64 Tu] ?_ ?_ ?_
  ·simp only [ht,aa];refine ⟨by omega,h,?_⟩;rw [aA];intro r hr;obtain ⟨y,_,rfl⟩:=List.mem_map.1 hr;rfl
  ·simp [ht,aa,aA,hx,lI,Jb.cells]
  cbv
  refine dV trv gG ?_
  cbv
  refine an (fun hb=>?_) (fun hb=>?_)
  ·cbv
   refine ax trv trv rfl rfl rfl ?_
   have e:=de hx (hpx▸hb) h3
   simp only [ht,aa,hr,idxOf,e]
  cbv
  refine aC ⟨n-1,k+1,⟨by omega,(hJ _ _).2 ⟨by omega,?_⟩⟩,?_⟩
  ·intro i hi y hy
   by_cases hik:i<k
   ·exact h3 i hik y hy
   have:i=k:=by omega
   subst this;rw [hx] at hy;cases hy;rw [←hpx];exact hb
  simp only [ht,aa,aD (show k<9223372036854775807 by omega)];rfl
 simp only [ht,aa,decide_eq_false_iff_not] at h
 have hk:¬k<l.length:=by omega
 clear h
 cbv
 refine ax trv trv rfl rfl rfl ?_
 rw [hr,idxOf,dA]
 intro i y hy
 have:i<l.length:=by
  rcases Nat.lt_or_ge i l.length with h'|h';· exact h'
  simp [List.getElem?_eq_none h'] at hy
 exact h3 i (by omega) y hy
theorem Lb (ht:TT t) (jc:List D) {l:List (Jb)} {es:List (List D)} (aA:es=l.map Jb.cells) {m c:Nat} (hm:m=l.length) (hc:m≤c) (f:Nat) (p:Jb→Bool) (hl:l.length<9223372036854775807)
 (hf:∀x∈l,FC f [.agg [az x.id,ST x.x.path,az x.x.gB.a,az x.x.gB.b,az x.x.gB.c,az x.x.gB.d,bG x.x.count,bG x.x.prio,bG x.x.fB,SL (x.x.bZ.map Term.cells),BL x.runs,bG x.left],.ep jc] [] (.ret (BL (p x))) []) {r:List (List D)} (hr:r=(l.filter (fun x=>!p x)).map Jb.cells) {kk:Nat} (hkk:kk=r.length) {rz:List (List D)} (Fh:rz=r++List.replicate (m-kk) [.int .u64 0,.str [],.int .u64 0,.int .u64 0,.int .u64 0,.int .u64 0,.int .i64 0,.int .i64 0,.int .i64 0,.sl [],.bool false,.int .i64 0]):
 FC 44 [.vw 0 12 0 m c true,.fn f [.ep jc]] [.row 12 es] (.ret (.vw 0 12 0 kk c true)) [.row 12 rz]:=by
 have hel:es.length=m:=by rw [aA,lgM,hm]
 have hrows:∀r∈es,r.length=12:=by rw [aA];intro r hr;obtain ⟨y,_,rfl⟩:=List.mem_map.1 hr;rfl
 obtain ⟨k,hk⟩:∃k,k=idxOf p l:=⟨_,rfl⟩
 have MW:(t (List (List D)) fun _=>(es.drop 0).take m)=l.map Jb.cells:=by simp only [ht];rw [List.drop_zero,List.take_of_length_le (by omega),aA]
 have hidx:=La ht jc MW f p hl hf hk
 obtain ⟨J,hJ⟩:∃J:Nat→Nat×Nat×List (List D)→Prop,∀n v,J n v↔(v.2.1+n=m∧v.1<v.2.1∧v.2.2.length=m∧(∀r∈v.2.2,r.length=12)∧v.2.2.take v.1=((l.take v.2.1).filter (fun x=>!p x)).map Jb.cells∧v.2.2.drop v.2.1=es.drop v.2.1):=⟨fun n v=>v.2.1+n=m∧v.1<v.2.1∧v.2.2.length=m∧(∀r∈v.2.2,r.length=12)∧v.2.2.take v.1=((l.take v.2.1).filter (fun x=>!p x)).map Jb.cells∧v.2.2.drop v.2.1=es.drop v.2.1,fun _ _=>Iff.rfl⟩
 refine bL ht (aI:=[.row 12 es]) Tryz.func44 rfl rfl (N:=42) rfl rfl (n:=1) rfl rfl ?_
 cbv
 refine MB (TT.eq ht) (v:=bG k) [true] [] trv rfl ?_ rfl rfl rfl rfl rfl rfl rfl hidx ?_
 ·simp [ht];omega
 cbv
 refine an (fun h=>?_) (fun h=>?_)
 ·have wM:k=-1:=by simp [ht] at h;exact h
  have hnone:=mX (hk▸wM:idxOf p l=-1)
  clear h
  cbv
  have LQ:r=es:=by rw [hr,filter_all hnone,←aA]
  have hkm:kk=m:=by rw [hkk,LQ,hel]
  have Ss:rz=es:=by rw [Fh,hkm,Nat.sub_self,LQ];simp
  rw [Ss,hkm]
  exact Gz trv rfl rfl
 have wM:k≠-1:=by simp [ht] at h;exact h
 clear h
 obtain ⟨i0,x0,Q8,hx0,UO,hb0⟩:=mY (hk▸wM:idxOf p l≠-1)
 rw [←hk] at Q8
 subst Q8
 have UP:i0<m:=by rw [hm];exact (List.getElem?_eq_some_iff.1 hx0).1
 cbv
 refine bI ⟨[0,1,5,6],[],[]⟩ (σ:=Nat×Nat×List (List D)) (fun v=>[(5,bG (t _ fun _=>(v.1:Int))),(6,bG (t _ fun _=>(v.2.1:Int)))]) (fun v=>[(0,.row 12 (t _ fun _=>v.2.2))]) J ?_
 cbv
 refine aC ⟨m-(i0+1),(i0,i0+1,es),(hJ _ _).2 ⟨?_,?_,hel,hrows,?_,rfl⟩,by simp only [ht,aa,Int.ofNat_eq_natCast,aD (show i0<9223372036854775807 by omega)];rfl,?_⟩
 ·show i0+1+(m-(i0+1))=m;omega
 ·show i0<i0+1;omega
 ·show es.take i0=_
  rw [ek hx0,List.filter_append,filter_all hb0,aA,←List.map_take];simp [UO]
 rintro n ⟨i,j,cur⟩ hj
 obtain ⟨j1,j2,j3,j4,j5,j6⟩:=(hJ _ _).1 hj
 clear hj
 simp only at j1 j2 j3 j4 j5 j6
 cbv
 refine an (fun h=>?_) (fun h=>?_)
 ·have Q9:j<m:=by simp [ht,aa] at h;omega
  clear h
  obtain ⟨x,hx⟩:∃x,l[j]?=some x:=⟨l[j]'(by omega),by simp⟩
  have oo:x∈l:=List.mem_of_getElem? hx
  have gG:=hf x oo
  have EW:cur[j]?=some (Jb.cells x):=by
   have:(cur.drop j)[0]?=(es.drop j)[0]?:=by rw [j6]
   rw [List.getElem?_drop,List.getElem?_drop,Nat.add_zero,aA,List.getElem?_map,hx] at this
   exact this
  obtain ⟨px,hpx⟩:∃b,b=p x:=⟨_,rfl⟩
  rw [←hpx] at gG
  obtain ⟨cx,Cv⟩:∃cx,cx=Jb.cells x:=⟨_,rfl⟩
  rw [←Cv] at EW
  have hstep:(l.take (j+1)).filter (fun x=>!p x)=(l.take j).filter (fun x=>!p x)++(if px then [] else [x]):=by
   rw [ek hx,List.filter_append];cases px<;>simp [←hpx]
  obtain ⟨id',⟨p',⟨a',b',c',d'⟩,n',Ts,Ii,qB⟩,Tt,Tu⟩:=x;obtain ⟨EY,lI⟩:∃lr:List (List D),lr=qB.map Term.cells:=⟨_,rfl⟩;simp only [Jb.cells,←lI] at gG Cv
  cbv
  refine ⟨?_,Ph [.int .u64 id',.str p',.int .u64 a',.int .u64 b',.int .u64 c',.int .u64 d',.int .i64 n',.int .i64 Ts,.int .i64 Ii,.sl EY,.bool Tt,.int .i64 Tu] ?_ ?_ ?_⟩
  ·simp [ht,aa];omega
  ·simp [ht,aa,j3];omega
  ·simp [ht,aa,List.getD_eq_getElem?_getD,EW,Cv]
  cbv
  refine dx [] trv rfl rfl gG (cj ?_)
  cbv
  refine an (fun hb=>?_) (fun hb=>?_)
  ·have hb':px=false:=by simpa [ht] using hb
   clear hb
   obtain ⟨nc,hnc⟩:∃nc,nc=cur.set i cx:=⟨_,rfl⟩
   have ot:(cur.getD i []).length=12:=j4 _ (by rw [List.getD_eq_getElem?_getD,List.getElem?_eq_getElem (by omega)];exact List.getElem_mem _)
   cbv
   refine ⟨?_,?_⟩
   ·simp [ht,aa];omega
   refine ⟨?_,?_⟩
   ·simp [ht,aa,j3];exact ⟨by omega,by simpa using ot.symm▸(Nat.le_refl _)⟩
   refine aC ⟨n-1,(i+1,j+1,nc),⟨by omega,(hJ _ _).2 ⟨?_,?_,?_,?_,?_,?_⟩⟩,?_⟩
   ·show j+1+(n-1)=m;omega
   ·show i+1<j+1;omega
   ·show nc.length=m;rw [hnc,List.length_set];exact j3
   ·show ∀r∈nc,r.length=12
    intro r hr;rw [hnc] at hr
    rcases List.mem_or_eq_of_mem_set hr with hr|rfl
    ·exact j4 r hr
    rw [Cv];rfl
   ·show nc.take (i+1)=_
    rw [hnc,jP _ _ _ (by omega),j5,hstep,hb',Cv];simp [lI,Jb.cells]
   ·show nc.drop (j+1)=es.drop (j+1)
    rw [hnc,mq _ _ _ _ (by omega),←List.drop_drop,j6,List.drop_drop]
   simp only [ht,aa,Int.ofNat_eq_natCast,aD (show i<9223372036854775807 by omega),aD (show j<9223372036854775807 by omega)]
   have ei:0+((i:Int)).toNat=i:=by simp
   have e:cur.set i (be (cur.getD i []) 0 [.int .u64 id',.str p',.int .u64 a',.int .u64 b',.int .u64 c',.int .u64 d',.int .i64 n',.int .i64 Ts,.int .i64 Ii,.sl EY,.bool Tt,.int .i64 Tu])=nc:=by rw [hnc,jO _ _ (by rw [ot];rfl),Cv]
   simp only [ei,e];rfl
  have hb':px=true:=by simpa [ht] using hb
  clear hb
  cbv
  refine aC ⟨n-1,(i,j+1,cur),⟨by omega,(hJ _ _).2 ⟨?_,?_,j3,j4,?_,?_⟩⟩,?_⟩
  ·show j+1+(n-1)=m;omega
  ·show i<j+1;omega
  ·show cur.take i=_
   rw [j5,hstep,hb'];simp
  ·show cur.drop (j+1)=es.drop (j+1)
   rw [←List.drop_drop,j6,List.drop_drop]
  simp only [ht,aa,Int.ofNat_eq_natCast,aD (show j<9223372036854775807 by omega)];rfl
 have Q9:j=m:=by simp [ht,aa] at h;omega
 clear h
 obtain ⟨mi,vM⟩:∃mi,mi=m-i:=⟨_,rfl⟩
 obtain ⟨ci,ot⟩:∃ci,ci=c-i:=⟨_,rfl⟩
 obtain ⟨nc,hnc⟩:∃nc,nc=wrote cur i (List.replicate mi [.int .u64 0,.str [],.int .u64 0,.int .u64 0,.int .u64 0,.int .u64 0,.int .i64 0,.int .i64 0,.int .i64 0,.sl [],.bool false,.int .i64 0]):=⟨_,rfl⟩
 have hnt:nc.take i=r:=by
  have hl':(cur.take i).length=i:=by simp;omega
  rw [hnc,wrote,List.append_assoc,List.take_left' hl',j5,hr,Q9,hm,List.take_length]
 have UQ:i≤nc.length:=by rw [hnc];simp [wrote];omega
 cbv
 refine bE (.vw 0 12 i mi ci true) [.row 12 cur] ?_ ?_ ?_ ?_
 ·simp [ht,aa,dF,bJ];omega
 ·simp [ht,aa,aS,aM,vM,ot]
 ·simp only [ht]
 cbv
 refine bE (.dL []) [.row 12 nc] ?_ rfl ?_ ?_
 ·simp [ht,eB]
  refine ⟨by omega,?_⟩
  intro h;rw [h] at j3;simp at j3;omega
 ·simp only [ht,hnc]
 cbv
 refine bE (.vw 0 12 0 i c true) [.row 12 nc] ?_ ?_ rfl ?_
 ·simp [ht,aa,dF,bJ];omega
 ·simp [ht,aa,aS,aM]
 cbv
 have hki:kk=i:=by rw [hkk,←hnt];simp;omega
 have Ss:rz=nc:=by
  rw [Fh,hki,←hnt,hnc,wrote]
  have hl':(cur.take i).length=i:=by simp;omega
  rw [List.append_assoc,List.take_left' hl',List.drop_of_length_le (by simp;omega),List.append_nil,vM]
 rw [Ss,hki]
 exact Gz trv rfl rfl
theorem SS (ht:TT t) (a1 a3 a4 a5 a6 a7 a8 a9 a12 b1 b3 b4 b5 b6 b7 b8 b9 K8:Int) (a2 b2:aQ) (SR K9:Bool) (ar br:List (List D)):
 FC 46 [.agg [az a1,ST a2,az a3,az a4,az a5,az a6,bG a7,bG a8,bG a9,SL ar,BL SR,bG a12],.ep [.int .u64 b1,.str b2,.int .u64 b3,.int .u64 b4,.int .u64 b5,.int .u64 b6,.int .i64 b7,.int .i64 b8,.int .i64 b9,.sl br,.bool K9,.int .i64 K8]] [] (.ret (BL (!(SR&&decide (a8<b8))))) []:=by
 obtain ⟨H,hH⟩:∃H,H=!(SR&&decide (a8<b8)):=⟨_,rfl⟩
 rw [←hH]
 refine bL ht (aI:=[]) Tryz.func46 rfl rfl (N:=16) rfl rfl (n:=0) rfl rfl ?_
 cbv
 iterate 7 refine gI (by simp [ht,ah]) ?_
 refine pI (by simp [ht,ah]) ?_
 refine ax trv trv rfl rfl rfl ?_
 (simp [ht,cP, *];grind)
def ve (t:Th) (l:List Int):AV:=SL (t _ fun _=>l.map Int.cells)
theorem XG {α:Type} {l:List α} {cells:α→List D} {u:List (List D)} (hu:u=l.map cells) (cT:α→List D) (hT:∀x,cells x=cT x) (j:Nat) {c:Prop} {ds:List D} {K:List D→Prop} (hj:j<l.length) (hd:u.getD j []=ds) (hc:j<u.length→c) (hK:∀x,l[j]?=some x→K (cT x)):yo true c ds K:=by
 refine RN _ (fun _=>⟨hc (by rw [hu];simpa using hj),?_⟩) (hK l[j] (by simp [hj]))
 rw [←hd,hu,←hT];simp [hj]
def zK (l:List Jb) (p:Int):List Jb:=l.filter fun o=>o.runs&&decide (o.x.prio<p)
theorem FD (ht:TT t) {l:List Jb} {es:List (List D)} (aA:es=l.map Jb.cells) (hl:l.length<1000000) (b1 b3 b4 b5 b6 b7 b8 b9 K8:Int) (b2:aQ) (K9:Bool) (br:List (List D))
 {m c k:Nat} (hm:m=l.length) (hc:m≤c) {r:List (List D)} (hr:r=(zK l b8).map Jb.cells) (hk:k=r.length) {rz:List (List D)} (Fh:rz=r++List.replicate (m-k) [.int .u64 0,.str [],.int .u64 0,.int .u64 0,.int .u64 0,.int .u64 0,.int .i64 0,.int .i64 0,.int .i64 0,.sl [],.bool false,.int .i64 0]):
 FC 44 [.vw 0 12 0 m c true,.fn 46 [.ep [.int .u64 b1,.str b2,.int .u64 b3,.int .u64 b4,.int .u64 b5,.int .u64 b6,.int .i64 b7,.int .i64 b8,.int .i64 b9,.sl br,.bool K9,.int .i64 K8]]] [.row 12 es] (.ret (.vw 0 12 0 k c true)) [.row 12 rz]:=
 Lb ht _ aA hm hc 46 (fun o=>!(o.runs&&decide (o.x.prio<b8))) (by omega) (fun o _=>SS ht _ _ _ _ _ _ _ _ _ _ _ _ _ _ _ _ _ _ _ _ _ _ _ _) (by rw [hr,zK];simp) hk Fh
theorem SU (ht:TT t) {l:List Jb} {es:List (List D)} (aA:es=l.map Jb.cells) (hl:l.length<1000000) (b1 b3 b4 b5 b6 b7 b8 b9 K8:Int) (b2:aQ) (K9:Bool) (br:List (List D)) (h0:zK l b8=[]) {m:Nat} (hm:m=l.length):
 FC 44 [.ow 1 12 m,.fn 46 [.ptr 0 0]] [.var [az b1,ST b2,az b3,az b4,az b5,az b6,bG b7,bG b8,bG b9,SL br,BL K9,bG K8],.row 12 es] (.ret (SL [])) [.dead,.dead]:=
 nY rfl rfl rfl<|dw [1] rfl rfl rfl rfl<|dK fun c hc _=>zn rfl (by simp) (by simp) rfl (FD ht aA hl b1 b3 b4 b5 b6 b7 b8 b9 K8 b2 K9 br hm hc (r:=[]) (by rw [h0];rfl) (k:=0) rfl rfl)
theorem Qu {r z:List (List D)} {k:Nat} (hk:k=r.length):r=(r++z).take k:=by rw [hk,List.take_left]
theorem SV (ht:TT t) {l:List Jb} {es:List (List D)} (aA:es=l.map Jb.cells) (hl:l.length<1000000) (b1 b3 b4 b5 b6 b7 b8 b9 K8:Int) (b2:aQ) (K9:Bool) (br:List (List D)) {m k:Nat} (hm:m=l.length) {r:List (List D)} (hr:r=(zK l b8).map Jb.cells) (hk:k=r.length) (h0:0<k):
 FC 44 [.ow 1 12 m,.fn 46 [.ptr 0 0]] [.var [az b1,ST b2,az b3,az b4,az b5,az b6,bG b7,bG b8,bG b9,SL br,BL K9,bG K8],.row 12 es] (.ret (.ow 1 12 k)) [.dead,.row 12 r]:=by
 obtain ⟨rz,Fh⟩:∃rz,rz=r++List.replicate (m-k) [D.int .u64 0,.str [],.int .u64 0,.int .u64 0,.int .u64 0,.int .u64 0,.int .i64 0,.int .i64 0,.int .i64 0,.sl [],.bool false,.int .i64 0]:=⟨_,rfl⟩
 exact nY rfl rfl rfl<|dw [1] rfl rfl rfl rfl<|dK fun c hc _=>zm h0 rfl (by rw [Fh,hk];simp) (by rw [Fh];exact Qu hk) rfl (FD ht aA hl b1 b3 b4 b5 b6 b7 b8 b9 K8 b2 K9 br hm hc hr hk Fh)
theorem Od (ht:TT t) (rd nx ef af:Int) {nl:List Node} {pl:List Place} {tl:List bu} {jl:List Jb} {ql:List cR} {el al:List eI} {ns ps ts js qs es cQ:List (List D)} (fC:ns=nl.map Node.cells) (hps:ps=pl.map Place.cells) (hts:ts=tl.map bu.cells) (eZ:js=jl.map Jb.cells) (eU:qs=ql.map cR.cells) (aA:es=el.map eI.cells) (has:cQ=al.map eI.cells) (id:Int) (hjl:jl.length<1000000) (hlo:zK jl (cG jl id).1.x.prio=[]):FC 18 [.agg [az rd,az nx,SL ns,SL ps,SL ts,SL js,SL qs,az ef,SL es,az af,SL cQ],az id] [] (.ret (ve t (t _ fun _=>cm ⟨rd,nx,⟨nl,pl⟩,tl,jl,ql,⟨ef,el⟩,⟨af,al⟩⟩ id))) []:=by
 have he:cm ⟨rd,nx,⟨nl,pl⟩,tl,jl,ql,⟨ef,el⟩,⟨af,al⟩⟩ id=[]:=by
  unfold cm
  split
  ·rfl
  show (List.mergeSort (zK jl (cG jl id).1.x.prio) gR).map _=[]
  rw [hlo];simp
 rw [he]
 obtain ⟨m,hm⟩:∃m,m=jl.length:=⟨_,rfl⟩
 have hel:m=js.length:=by rw [eZ,lgM,hm]
 have hrows:∀r∈js,r.length=12:=by rw [eZ];intro r hr;obtain ⟨y,_,rfl⟩:=List.mem_map.1 hr;rfl
 refine bL ht (aI:=[]) Tryz.func18 rfl rfl (N:=39) rfl rfl (n:=0) rfl rfl ?_
 cbv
 have aU:ns.length=nl.length:=by rw [fC,lgM]
 have aW:ps.length=pl.length:=by rw [hps,lgM]
 have aV:ts.length=tl.length:=by rw [hts,lgM]
 have aX:js.length=jl.length:=by rw [eZ,lgM]
 have aK:qs.length=ql.length:=by rw [eU,lgM]
 have av:es.length=el.length:=by rw [aA,lgM]
 have aJ:cQ.length=al.length:=by rw [has,lgM]
 (refine aB trv (pG ht _ rd nx ef af ns ps ts qs es cQ eZ (by ((try simp only [aa] at*);omega))) (by simp [ht]) rfl rfl rfl (fun r1 dM=>?_);simp only [ht] at dM;rw [←dM] at hlo)
 cbv
 refine an (fun h0=>?_) (fun h0=>?_)
 ·simp [ht,aa,aU,aW,aV,aX,aK,av,aJ] at h0
  cbv
  refine ax trv trv rfl rfl rfl ?_
  (simp [ht,ve,UW,Kj];done)
 simp [ht,aa,aU,aW,aV,aX,aK,av,aJ] at h0
 cbv
 (refine jg trv (rW ht hrows (by omega) hel) trv rfl (.inr rfl) ?_)
 cbv
 (refine dx [1,2] trv rfl rfl (SU ht eZ (by ((try simp only [aa] at*);omega)) _ _ _ _ _ _ _ _ _ _ _ _ hlo hm) (cj ?_))
 cbv
 (refine fO trv (Oc ht) trv rfl rfl ?_)
 cbv
 obtain ⟨J1,pF⟩:∃J1:Nat→List (List D)×Int→Prop,∀n u i,J1 n (u,i)↔(i=0∧u=[]):=⟨fun n v=>match v with|(u,i)=>(i=0∧u=[]),fun _ _ _=>Iff.rfl⟩
 refine bI ⟨[8,26,27,28],[(8,1)],[]⟩ (σ:=List (List D)×Int) (fun v=>[(8,.ow 0 1 (t _ fun _=>(v.1).length)),(28,.d (.int .i64 (t _ fun _=>v.2)))]) (fun v=>[(0,.row 1 (t _ fun _=>v.1))]) J1 ?_
 cbv
 refine aC ⟨1,([],_),(pF _ _ _).2 ?_,by simp only [ht];rfl,?_⟩
 ·exact ⟨rfl,rfl⟩
 rintro n ⟨u,i⟩ hj
 replace hj:=(pF _ _ _).1 hj
 obtain ⟨ji,ju⟩:=hj
 cbv
 refine an (fun h2=>?_) (fun h2=>?_)
 ·simp [ht,aa,aU,aW,aV,aX,aK,av,aJ] at h2
  omega
 simp [ht,aa,aU,aW,aV,aX,aK,av,aJ] at h2
 cbv
 refine ax trv (by simp [ht]) rfl rfl rfl ?_
 (simp only [ht,ju];rfl)
theorem Oe (ht:TT t) (rd nx ef af:Int) {nl:List Node} {pl:List Place} {tl:List bu} {jl:List Jb} {ql:List cR} {el al:List eI} {ns ps ts js qs es cQ:List (List D)} (fC:ns=nl.map Node.cells) (hps:ps=pl.map Place.cells) (hts:ts=tl.map bu.cells) (eZ:js=jl.map Jb.cells) (eU:qs=ql.map cR.cells) (aA:es=el.map eI.cells) (has:cQ=al.map eI.cells) (id:Int) (hjl:jl.length<1000000) {L:List Jb} (hL:L=zK jl (cG jl id).1.x.prio) (hl0:0<L.length) (h12:L.length≤12) (hid:tK jl):FC 18 [.agg [az rd,az nx,SL ns,SL ps,SL ts,SL js,SL qs,az ef,SL es,az af,SL cQ],az id] [] (.ret (ve t (t _ fun _=>cm ⟨rd,nx,⟨nl,pl⟩,tl,jl,ql,⟨ef,el⟩,⟨af,al⟩⟩ id))) []:=by
 obtain ⟨E,hE⟩:∃E,E=cm ⟨rd,nx,⟨nl,pl⟩,tl,jl,ql,⟨ef,el⟩,⟨af,al⟩⟩ id:=⟨_,rfl⟩
 rw [←hE]
 obtain ⟨S,hS⟩:∃S,S=(Sort.insertionSort vc L.toArray 0 L.length).toList:=⟨_,rfl⟩
 have YK:(cG jl id).2=true→E=S.map (·.id):=by
  intro g
  rw [hE,hS,HI (by rw [hL];exact hid.filter _),hL];unfold cm;rw [g];rfl
 have YL:(cG jl id).2=false→E=[]:=by
  intro g
  rw [hE];unfold cm;rw [g];rfl
 have Z6:S.length=L.length:=by rw [hS];exact (Bw L).length_eq
 obtain ⟨k,hk⟩:∃k,k=L.length:=⟨_,rfl⟩
 obtain ⟨m,hm⟩:∃m,m=jl.length:=⟨_,rfl⟩
 obtain ⟨r,hr⟩:∃r,r=L.map Jb.cells:=⟨_,rfl⟩
 have hkr:k=r.length:=by rw [hr,lgM,hk]
 have hel:m=js.length:=by rw [eZ,lgM,hm]
 have hrows:∀r∈js,r.length=12:=by rw [eZ];intro r hr;obtain ⟨y,_,rfl⟩:=List.mem_map.1 hr;rfl
 rw [←hk] at hl0 h12
 have Vo:FC 47 [.ow 0 12 k,.fn 48 []] [.row 12 r] (.ret (.dL [])) [.row 12 (t _ fun _=>S.map Jb.cells)]:=by
  have:=Ob ht k L.toArray (es:=r) (by rw [hr]) (by rw [hk];simp) h12
  rw [hS,←hk];exact this
 have hkS:k=S.length:=hk.trans Z6.symm
 refine bL ht (aI:=[]) Tryz.func18 rfl rfl (N:=39) rfl rfl (n:=0) rfl rfl ?_
 cbv
 have aU:ns.length=nl.length:=by rw [fC,lgM]
 have aW:ps.length=pl.length:=by rw [hps,lgM]
 have aV:ts.length=tl.length:=by rw [hts,lgM]
 have aX:js.length=jl.length:=by rw [eZ,lgM]
 have aK:qs.length=ql.length:=by rw [eU,lgM]
 have av:es.length=el.length:=by rw [aA,lgM]
 have aJ:cQ.length=al.length:=by rw [has,lgM]
 have Fk:r.length=L.length:=by rw [hr,lgM]
 (refine aB trv (pG ht _ rd nx ef af ns ps ts qs es cQ eZ (by ((try simp only [aa] at*);omega))) (by simp [ht]) rfl rfl rfl (fun r1 dM=>?_);simp only [ht] at dM;rw [←dM] at hL YK YL)
 cbv
 refine an (fun h0=>?_) (fun h0=>?_)
 ·simp [ht,aa,aU,aW,aV,aX,aK,av,aJ,Fk] at h0
  cbv
  refine ax trv trv rfl rfl rfl ?_
  (simp only [ht,ve,YL (by simp_all)];rfl)
 simp [ht,aa,aU,aW,aV,aX,aK,av,aJ,Fk] at h0
 cbv
 (refine jg trv (rW ht hrows (by omega) hel) trv rfl (.inr rfl) ?_)
 cbv
 (refine dx [1,2] trv rfl rfl (SV ht eZ (by ((try simp only [aa] at*);omega)) _ _ _ _ _ _ _ _ _ _ _ _ hm (r:=r) (by rw [hr,hL]) hkr hl0) (cj ?_))
 cbv
 (refine dx [2] trv rfl rfl Vo (cj ?_))
 cbv
 refine ⟨?_,?_⟩
 ·(simp [ht,aa,fC,hps,hts,eZ,eU,aA,has,hr];omega)
 cbv
 obtain ⟨J1,pF⟩:∃J1:Nat→List (List D)×Int→Prop,∀n u i,J1 n (u,i)↔(∃q:Nat,i=q∧q+n=k∧u=((S.take q).map (·.id)).map Int.cells):=⟨fun n v=>match v with|(u,i)=>(∃q:Nat,i=q∧q+n=k∧u=((S.take q).map (·.id)).map Int.cells),fun _ _ _=>Iff.rfl⟩
 refine bI ⟨[8,26,27,28],[(8,1)],[]⟩ (σ:=List (List D)×Int) (fun v=>[(8,.ow 0 1 (t _ fun _=>(v.1).length)),(28,.d (.int .i64 (t _ fun _=>v.2)))]) (fun v=>[(0,.row 1 (t _ fun _=>v.1))]) J1 ?_
 cbv
 refine aC ⟨k,([],_),(pF _ _ _).2 ?_,by simp only [ht];rfl,?_⟩
 ·exact ⟨0,rfl,by simp,rfl⟩
 rintro n ⟨u,i⟩ hj
 replace hj:=(pF _ _ _).1 hj
 obtain ⟨q,rfl,j1,j4⟩:=hj
 cbv
 refine an (fun h2=>?_) (fun h2=>?_)
 ·simp [ht,aa,aU,aW,aV,aX,aK,av,aJ,Fk] at h2
  cbv
  refine ⟨?_,?_⟩
  ·(simp only [ht,aa] at*;omega)
  cbv
  (refine XG (l:=S) (cells:=Jb.cells) rfl (Jb.bC t) (fun _=>by simp only [Jb.cells,Jb.bC,ht]) q (by ((try simp only [aa] at*);omega)) (by simp only [ht,aa,Int.toNat_natCast]) (fun h=>by simp only [ht,aa,Int.toNat_natCast];exact h) (fun x mx=>?_))
  cbv
  refine ⟨?_,?_⟩
  ·(have h9:=WI (l:=(S.take q).map (·.id)) (cells:=Int.cells) (u:=u) (row:=[D.int .u64 x.id]) (sz:=1) (b:=8) j4 (fun _=>rfl) rfl (by simp;((try simp only [aa] at*);omega)) (by decide);simp only [ht];first|exact h9|exact ⟨trv,h9.2⟩)
  cbv
  refine cL (_,_) (by simp only [ht,←List.length_append];rfl) (n-1) ?_ ((pF _ _ _).2 ?_)
  ·omega
  simp only [ht,aa]
  exact ⟨q+1,aD (by ((try simp only [aa] at*);omega)),by ((try simp only [aa] at*);omega),by rw [j4,ek mx];simp [Int.cells]⟩
 simp [ht,aa,aU,aW,aV,aX,aK,av,aJ,Fk] at h2
 cbv
 refine ax trv (by simp [ht]) rfl rfl rfl ?_
 (rw [List.take_of_length_le (by ((try simp only [aa] at*);omega))] at j4;simp only [ht,ve,YK ‹_›,j4];done)
theorem Of (ht:TT t) (rd nx ef af:Int) {nl:List Node} {pl:List Place} {tl:List bu} {jl:List Jb} {ql:List cR} {el al:List eI} {ns ps ts js qs es cQ:List (List D)} (fC:ns=nl.map Node.cells) (hps:ps=pl.map Place.cells) (hts:ts=tl.map bu.cells) (eZ:js=jl.map Jb.cells) (eU:qs=ql.map cR.cells) (aA:es=el.map eI.cells) (has:cQ=al.map eI.cells) (id:Int) (hjl:jl.length<1000000) (h12:∀p,(zK jl p).length≤12) (hid:tK jl):FC 18 [.agg [az rd,az nx,SL ns,SL ps,SL ts,SL js,SL qs,az ef,SL es,az af,SL cQ],az id] [] (.ret (ve t (t _ fun _=>cm ⟨rd,nx,⟨nl,pl⟩,tl,jl,ql,⟨ef,el⟩,⟨af,al⟩⟩ id))) []:=by
 rcases Nat.eq_zero_or_pos (zK jl (cG jl id).1.x.prio).length with h|h
 ·exact Od ht rd nx ef af fC hps hts eZ eU aA has id hjl (List.length_eq_zero_iff.1 h)
 exact Oe ht rd nx ef af fC hps hts eZ eU aA has id hjl rfl h (h12 _) hid
theorem SW (ht:TT t) (rd nx ef af:Int) {nl:List Node} {pl:List Place} {tl:List bu} {jl:List Jb} {ql:List cR} {el al:List eI} {ns ps ts js qs es cQ:List (List D)} (fC:ns=nl.map Node.cells) (hps:ps=pl.map Place.cells) (hts:ts=tl.map bu.cells) (eZ:js=jl.map Jb.cells) (eU:qs=ql.map cR.cells) (aA:es=el.map eI.cells) (has:cQ=al.map eI.cells) (id:Int) {ids:List Int} {ir:List (List D)} (Rf:ir=ids.map Int.cells) (hil:ids.length<1000000) (hg:∀k,(bB ⟨rd,nx,⟨nl,pl⟩,tl,jl,ql,⟨ef,el⟩,⟨af,al⟩⟩ (ids.take k)).sm):
 FC 52 [SL ir,.ptr 0 0,.ptr 1 0] [.var [az rd,az nx,SL ns,SL ps,SL ts,SL js,SL qs,az ef,SL es,az af,SL cQ],.var [az id]] (.ret (qD t (t _ fun _=>fR ⟨rd,nx,⟨nl,pl⟩,tl,jl,ql,⟨ef,el⟩,⟨af,al⟩⟩ id ids))) [.var [az rd,az nx,SL ns,SL ps,SL ts,SL js,SL qs,az ef,SL es,az af,SL cQ],.var [az id]]:=by
 have uO:(bB ⟨rd,nx,⟨nl,pl⟩,tl,jl,ql,⟨ef,el⟩,⟨af,al⟩⟩ ids).sm:=by have:=hg ids.length;rwa [List.take_length] at this
 obtain ⟨w,hw⟩:∃w,w=bB ⟨rd,nx,⟨nl,pl⟩,tl,jl,ql,⟨ef,el⟩,⟨af,al⟩⟩ ids:=⟨_,rfl⟩
 have he:fR ⟨rd,nx,⟨nl,pl⟩,tl,jl,ql,⟨ef,el⟩,⟨af,al⟩⟩ id ids=gH w id:=by rw [hw];rfl
 rw [he]
 have hW:=Hu ht rd nx ef af fC hps hts eZ eU aA has Rf hil hg
 rw [←hw] at hW uO
 refine bL ht (aI:=[.var [az rd,az nx,SL ns,SL ps,SL ts,SL js,SL qs,az ef,SL es,az af,SL cQ],.var [az id]]) Tryz.func52 rfl rfl (N:=13) rfl rfl (n:=2) rfl rfl ?_
 cbv
 have aU:ns.length=nl.length:=by rw [fC,lgM]
 have aW:ps.length=pl.length:=by rw [hps,lgM]
 have aV:ts.length=tl.length:=by rw [hts,lgM]
 have aX:js.length=jl.length:=by rw [eZ,lgM]
 have aK:qs.length=ql.length:=by rw [eU,lgM]
 have av:es.length=el.length:=by rw [aA,lgM]
 have aJ:cQ.length=al.length:=by rw [has,lgM]
 have uU:ir.length=ids.length:=by rw [Rf,lgM]
 refine c7 [false,false,false,false,true,false,false,true,true] (by kernel_rfl) (by kernel_rfl) ?_
 cbv
 iterate 2 refine gI (by simp [ht,ah]) ?_
 refine .inl ?_
 (refine mB (fun g=>⟨by simp [ht],trv,hW⟩) rfl rfl rfl ?_)
 cbv
 refine gI (by simp [ht,ah]) ?_
 refine aB trv (I4 ht _ _ _ _ (jY ht rfl) (jY ht rfl) (jY ht rfl) (jY ht rfl) (jY ht rfl) (jY ht rfl) (jY ht rfl) (by (simp only [ht];((try simp only [aa] at*);omega))) _) trv rfl rfl rfl (fun r0 cF=>?_)
 simp only [ht] at cF
 cbv
 iterate 2 refine gI (by simp [ht,ah]) ?_
 refine ax trv trv rfl rfl rfl ?_
 (simp [ht,qD,fL, *];done)
theorem FE (ht:TT t) {es:List (List D)} (aA:∀r∈es,r.length=1) (hs:es.length*8≤140737488355328) {m:Nat} (hm:m=es.length):
 FC 54 [SL es] [] (.ret (.ow 0 1 m)) [.row 1 es]:=by
 refine bL ht (aI:=[]) Tryz.func54 rfl rfl (N:=8) rfl rfl (n:=0) rfl rfl ?_
 cbv
 refine ⟨fun b hb=>?_⟩
 simp only [ht] at hb
 cbv
 refine an (fun h=>?_) (fun h=>?_)
 ·have he:=hb h
  subst he
  cbv
  exact Er trv rfl rfl (by rw [hm];rfl) rfl
 clear hb h
 cbv
 refine ⟨?_,?_⟩
 ·simp only [ht];simp;exact ⟨hs,aA⟩
 refine Ad trv rfl rfl rfl rfl ?_ ?_
 ·simp only [ht];rw [hm];simp
 simp only [ht];rfl
theorem Bx (ht:TT t) {es:List (List D)} (aA:∀r∈es,r.length=1) (hs:es.length*8≤140737488355328):
 FC 54 [SL es] [] (.ret (SL es)) []:=by
 refine bL ht (aI:=[]) Tryz.func54 rfl rfl (N:=8) rfl rfl (n:=0) rfl rfl ?_
 cbv
 refine ⟨fun b hb=>?_⟩
 simp only [ht] at hb
 cbv
 refine an (fun h=>?_) (fun h=>?_)
 ·have he:=hb h
  subst he
  cbv
  exact ax trv trv rfl rfl rfl rfl
 clear hb h
 cbv
 refine ⟨?_,?_⟩
 ·simp only [ht];simp;exact ⟨hs,aA⟩
 refine ax trv ?_ rfl rfl rfl ?_
 ·simp only [ht];simp
 simp only [ht];rfl
theorem HM (ht:TT t) {es:List (List D)} {i m c:Nat} (hm:m=es.length) (hi:i<m) (hc:m≤c) (aA:∀r∈es,r.length=1) (hs:m<1000000) {r:List (List D)} (hr:r=es.take i++es.drop (i+1)):
 FC 55 [.vw 0 1 0 m c true,bG (i:Int),bG ((i+1:Nat):Int)] [.row 1 es] (.ret (SL r)) [.dead]:=by
 obtain ⟨i1,hi1⟩:∃i1,i1=i+1:=⟨_,rfl⟩
 rw [←hi1] at hr ⊢
 refine bL ht (aI:=[.row 1 es]) Tryz.func55 rfl rfl (N:=33) rfl rfl (n:=1) rfl rfl ?_
 cbv
 obtain ⟨mi,vM⟩:∃n,n=m-i:=⟨_,rfl⟩
 obtain ⟨P7,Su⟩:∃n,n=m-i1:=⟨_,rfl⟩
 obtain ⟨uN,GV⟩:∃n,n=c-i1:=⟨_,rfl⟩
 refine bE (.vw 0 1 i 1 mi true) [.row 1 es] ?_ ?_ rfl ?_
 ·simp [ht,aa,bJ];omega
 ·simp [ht,aa,aS,vM,hi1]
 cbv
 refine mU (by simp [ht,hi1];omega) ?_
 cbv
 refine c7 [false,false,false,false,false,false,true,true] (by kernel_rfl) (by kernel_rfl) ?_
 cbv
 refine gI (by simp [ht]) (gI (by simp [ht]) ?_)
 refine gE (.vw 0 1 0 i c true) (fun _=>⟨?_,?_⟩) ?_
 ·simp [ht,aa,dF,bJ];omega
 ·simp [ht,aa,aS,aM]
 cbv
 refine gI (by simp [ht]) (gI (by simp [ht]) ?_)
 refine gE (.vw 0 1 i1 P7 uN true) (fun _=>⟨?_,?_⟩) ?_
 ·simp [ht,aa,dF,bJ];omega
 ·simp [ht,aa,aS,aM,Su,GV]
 cbv
 obtain ⟨m1,VK⟩:∃n,n=m-1:=⟨_,rfl⟩
 obtain ⟨Xe,Sv⟩:∃n,n=c-m1:=⟨_,rfl⟩
 obtain ⟨R1,NG⟩:∃R,R=wrote es i (es.drop i1):=⟨_,rfl⟩
 have tk:(es.drop i1).take P7=es.drop i1:=List.take_of_length_le (by rw [List.length_drop];omega)
 have dl:(es.drop i1).length=P7:=by rw [List.length_drop];omega
 have uQ:R1.length=m:=by rw [NG];simp [wrote];omega
 have Sw:R1.take m1=r:=by
  rw [NG,hr]
  unfold wrote
  rw [List.take_append_of_le_length (by simp;omega),List.take_of_length_le (by simp;omega)]
 refine bE (.vw 0 1 0 m1 c true) [.row 1 R1,.bt] ?_ ?_ ?_ ?_
 ·simp only [ht,tk,dl,eB,Nat.zero_add]
  exact ⟨by omega,⟨by omega,fun h=>by rw [h] at hm;simp at hm;omega⟩,by omega,fun r h=>aA r (List.mem_of_mem_drop h)⟩
 ·simp only [ht,tk,dl];rw [show i+P7=m1 by omega]
 ·simp only [ht,tk,Nat.zero_add,NG]
 cbv
 refine bE (.vw 0 1 m1 1 Xe true) [.row 1 R1,.bt] ?_ ?_ rfl ?_
 ·simp [ht,aa,dF,bJ];omega
 ·simp [ht,aa,aS,aM,Sv];omega
 cbv
 obtain ⟨R2,NH⟩:∃R,R=wrote R1 m1 (List.replicate 1 [D.int IntKind.u64 0]):=⟨_,rfl⟩
 have U6:R2.length=m:=by rw [NH];simp [wrote,uQ];omega
 have Sx:R2.take m1=r:=by
  rw [←Sw,NH]
  unfold wrote
  rw [List.append_assoc,List.take_append_of_le_length (by simp [uQ];omega),List.take_take,Nat.min_self]
 refine bE (.dL []) [.row 1 R2,.bt] ?_ rfl ?_ ?_
 ·simp only [ht,eB];exact ⟨by omega,fun h=>by rw [h] at uQ;simp at uQ;omega⟩
 ·simp only [ht,NH]
 cbv
 refine wG [true] trv ?_ rfl rfl rfl ?_
 ·simp only [ht];omega
 simp only [ht,List.drop_zero,Sx]
end Dem
end
