/- Parts of a proof, joined. -/
import Derived.Test.YtihohjnkkalgiaaGreatDoorP19
set_option linter.all false
set_option maxRecDepth 100000
set_option maxHeartbeats 4000000
section
open Go Dem Go.Proofs
namespace Dem
variable {t:Th}
theorem KD (ht:TT t) (q:aQ) {l:List (cZ)} {es:List (List D)} (aA:es=l.map cZ.cells) (f:Nat) (p:cZ→Bool) (hl:l.length<9223372036854775807)
 (hf:∀x∈l,FC f [.agg [ST x.key,ST x.value],.ptr 0 0] [.var [ST q]] (.ret (BL (p x))) [.var [ST q]]) {r:Int} (hr:r=idxOf p l):FC 165 [SL es,.fn f [.ptr 0 0]] [.var [ST q]] (.ret (bG r)) [.var [ST q]]:=by
 have hel:es.length=l.length:=by rw [aA,lgM]
 obtain ⟨J,hJ⟩:∃J:Nat→Nat→Prop,∀n v,J n v↔(v+n=l.length∧∀i<v,∀x,l[i]?=some x→p x=false):=⟨fun n v=>v+n=l.length∧∀i<v,∀x,l[i]?=some x→p x=false,fun _ _=>Iff.rfl⟩
 refine bL ht (aI:=[.var [ST q]]) Tryz.func165 rfl rfl (N:=19) rfl rfl (n:=1) rfl rfl ?_
 cbv
 refine bI ⟨[0,1,7,8],[],[]⟩ (σ:=Nat) (fun k=>[(8,bG (t _ fun _=>(k:Int)))]) (fun _=>[]) J ?_
 cbv
 refine aC ⟨l.length,0,(hJ _ _).2 ⟨by omega,by intro i hi;simp at hi⟩,by simp only [ht];rfl,?_⟩
 rintro n k hj
 obtain ⟨h2,h3⟩:=(hJ _ _).1 hj
 clear hj
 cbv
 refine an (fun h=>?_) (fun h=>?_)
 ·simp only [ht,aa,decide_eq_true_eq] at h
  have hk:k<l.length:=by omega
  obtain ⟨x,hx⟩:∃x,l[k]?=some x:=⟨l[k],by simp⟩
  have oo:x∈l:=List.mem_of_getElem? hx
  have gG:=hf x oo
  obtain ⟨px,hpx⟩:∃b,b=p x:=⟨_,rfl⟩
  rw [←hpx] at gG
  obtain ⟨k',v'⟩:=x
  cbv
  refine cI [.str k',.str v'] ?_ ?_ ?_
  ·simp only [ht,aa];refine ⟨by omega,h,?_⟩;rw [aA];intro r hr;obtain ⟨y,_,rfl⟩:=List.mem_map.1 hr;rfl
  ·simp [ht,aa,aA,hx]
  cbv
  refine dV trv gG ?_
  cbv
  refine an (fun hb=>?_) (fun hb=>?_)
  ·cbv
   refine ax trv trv rfl rfl rfl ?_
   have e:=de hx (hpx▸hb) h3
   simp only [ht,aa,hr,idxOf,e]
  cbv
  refine aC ⟨n-1,k+1,⟨by omega,(hJ _ _).2 ⟨by omega,?_⟩⟩,?_⟩
  ·intro i hi y hy
   by_cases hik:i<k
   ·exact h3 i hik y hy
   have:i=k:=by omega
   subst this;rw [hx] at hy;cases hy;rw [←hpx];exact hb
  simp only [ht,aa,aD (show k<9223372036854775807 by omega)];rfl
 simp only [ht,aa,decide_eq_false_iff_not] at h
 have hk:¬k<l.length:=by omega
 clear h
 cbv
 refine ax trv trv rfl rfl rfl ?_
 rw [hr,idxOf,dA]
 intro i y hy
 have:i<l.length:=by
  rcases Nat.lt_or_ge i l.length with h'|h';· exact h'
  simp [List.getElem?_eq_none h'] at hy
 exact h3 i (by omega) y hy
theorem NA (ht:TT t) (q k v:aQ):FC 166 [.agg [ST k,ST v],.ptr 0 0] [.var [ST q]] (.ret (BL (decide (k=q)))) [.var [ST q]]:=by
 refine bL ht (aI:=[.var [ST q]]) Tryz.func166 rfl rfl (N:=8) rfl rfl (n:=1) rfl rfl ?_
 cbv
 refine ax trv trv rfl rfl rfl ?_
 simp [ht]
def ZB (r:aQ×Bool):AV:=.dL [ST r.1,BL r.2]
theorem Fe (ht:TT t) (q:aQ) {l:List cZ} {es:List (List D)} (aA:es=l.map cZ.cells) (hl:l.length<1000000000):
 FC 115 [SL es,ST q] [] (.ret (ZB (t _ fun _=>EE l q))) []:=by
 obtain ⟨r9,j8⟩:∃r,r=idxOf (fun x:cZ=>decide (x.key=q)) l:=⟨_,rfl⟩
 refine bL ht (aI:=[]) Tryz.func115 rfl rfl (N:=17) rfl rfl (n:=0) rfl rfl ?_
 cbv
 have av:es.length=l.length:=by rw [aA,lgM]
 (refine dx [0] trv rfl rfl (KD ht q aA 166 (fun x=>decide (x.key=q)) (by omega) (fun x _=>NA ht q _ _) j8) (cj ?_);have ec:=cE j8;clear j8;rcases ec with ⟨e1,e2,e3⟩|⟨i,x,hi,hil,e1,e2,e3,e4⟩)
 ·cbv
  refine an (fun h0=>?_) (fun h0=>?_)
  ·simp [ht] at h0
   cbv
   refine ax trv trv rfl rfl rfl ?_
   (simp [ht,EE,e3];done)
  simp [ht] at h0
  omega
 cbv
 refine an (fun h1=>?_) (fun h1=>?_)
 ·simp [ht] at h1
  (simp only [aa] at*;omega)
 simp [ht] at h1
 cbv
 refine yC ht aA (cT:=cZ.bC t) e1 ‹_› (fun _=>rfl) (fun _=>rfl) ?_
 cbv
 refine ax trv trv rfl rfl rfl ?_
 (simp [ht,EE,e4];done)
theorem KE (ht:TT t) (a:aQ) {l:List aQ} {es:List (List D)} (aA:es=l.map bg) (hl:l.length<1000000000):
 FC 293 [SL es,ST a] [] (.ret (fQ (t _ fun _=>G3 a l))) []:=by
 refine bL ht (aI:=[]) Tryz.func293 rfl rfl (N:=19) rfl rfl (n:=0) rfl rfl ?_
 cbv
 have av:es.length=l.length:=by rw [aA,lgM]
 obtain ⟨J0,fI⟩:∃J0:Nat→Int→Prop,∀n i,J0 n i↔(∃k:Nat,i=k∧k+n=l.length∧∀i<k,∀y,l[i]?=some y→a≠y):=⟨fun n v=>match v with|i=>(∃k:Nat,i=k∧k+n=l.length∧∀i<k,∀y,l[i]?=some y→a≠y),fun _ _=>Iff.rfl⟩
 refine bI ⟨[0,1,7,8],[],[]⟩ (σ:=Int) (fun v=>[(8,.d (.int .i64 (t _ fun _=>v)))]) (fun v=>[]) J0 ?_
 cbv
 refine aC ⟨l.length,_,(fI _ _).2 ?_,by simp only [ht];rfl,?_⟩
 ·exact ⟨0,rfl,by simp,fun i hi=>by omega⟩
 rintro n i hj
 replace hj:=(fI _ _).1 hj
 obtain ⟨k,rfl,j1,j4⟩:=hj
 cbv
 refine an (fun h1=>?_) (fun h1=>?_)
 ·simp [ht,aa,av] at h1
  cbv
  refine jZ ht aA (cT:=dN t) (by (simp only [ht,aa];omega)) (by (simp only [ht,aa];omega)) (fun _=>rfl) (fun _=>rfl) (fun x2 nj=>?_)
  simp [ht,aa] at nj
  cbv
  refine an (fun h3=>?_) (fun h3=>?_)
  ·simp [ht] at h3
   cbv
   refine ax trv trv rfl rfl rfl ?_
   (simp only [ht];rw [IS ‹_› ‹_› j4];done)
  simp [ht] at h3
  cbv
  refine cL _ (by simp only [ht];rfl) (n-1) ?_ ((fI _ _).2 ?_)
  ·omega
  simp only [aa]
  exact ⟨k+1,aD (by omega),by omega,A8 j4 ‹_› ‹_›⟩
 simp [ht,aa,av] at h1
 cbv
 refine ax trv trv rfl rfl rfl ?_
 (simp only [ht];rw [IT (by omega) j4];done)
theorem KF (ht:TT t) (a:aQ) {l:List aQ} {es:List (List D)} (aA:es=l.map bg) (hl:l.length<1000000000):
 FC 292 [SL es,ST a] [] (.ret (cP (t _ fun _=>l.contains a))) []:=by
 refine bL ht (aI:=[]) Tryz.func292 rfl rfl (N:=9) rfl rfl (n:=0) rfl rfl ?_
 cbv
 have av:es.length=l.length:=by rw [aA,lgM]
 refine aZ trv (KE ht _ ‹_› ‹_›) trv rfl rfl (fun r0 cF=>?_)
 simp only [ht] at cF
 cbv
 refine ax trv trv rfl rfl rfl ?_
 (simp [ht,cF,E3];done)
theorem Ff (ht:TT t) (a:aQ) {l:List aQ} {es:List (List D)} (aA:es=l.map bg) (hl:l.length<1000000000):
 FC 291 [SL es,ST a] [] (.ret (cP (t _ fun _=>l.contains a))) []:=by
 refine bL ht (aI:=[]) Tryz.func291 rfl rfl (N:=8) rfl rfl (n:=0) rfl rfl ?_
 cbv
 have av:es.length=l.length:=by rw [aA,lgM]
 refine aZ trv (KF ht _ ‹_› ‹_›) trv rfl rfl (fun r0 cF=>?_)
 simp only [ht] at cF
 cbv
 refine ax trv trv rfl rfl rfl ?_
 (simp [*];done)
theorem Fg (ht:TT t) (a:aQ):FC 290 [.agg [],ST a] [] (.ret (BL true)) []:=by
 refine bL ht (aI:=[]) Tryz.func290 rfl rfl (N:=5) rfl rfl (n:=0) rfl rfl ?_
 cbv
 refine ax trv trv rfl rfl rfl ?_
 simp
theorem P1 (ht:TT t) (k:aQ) (n:Bool):FC 116 [.agg [ST k,BL n,SL []]] [] (.ret (.qx 227 (.agg []))) []:=by
 refine bL ht (aI:=[]) Tryz.func116 rfl rfl (N:=12) rfl rfl (n:=0) rfl rfl ?_
 cbv
 refine jX (by simp [ht]) ?_
 cbv
 refine ax trv trv rfl rfl rfl ?_
 simp
theorem P2 (ht:TT t) (k:aQ) (n:Bool) {vr:List (List D)} (hv:vr.length≠0):FC 116 [.agg [ST k,BL n,SL vr]] [] (.ret (.qx 228 (SL vr))) []:=by
 refine bL ht (aI:=[]) Tryz.func116 rfl rfl (N:=12) rfl rfl (n:=0) rfl rfl ?_
 cbv
 refine mU (by simp only [ht,aa,decide_eq_false_iff_not];omega) ?_
 cbv
 refine ax trv trv rfl rfl rfl ?_
 simp
theorem Hh (ht:TT t) (k:aQ) (n:Bool) {vs:List aQ} {vr:List (List D)} (wH:vr=vs.map bg) (hv:vs.length<1000000000) {l:List cZ} {ls:List (List D)} (hls:ls=l.map cZ.cells) (hl:l.length<1000000000) (h0:vr=[]):
 FC 76 [.agg [ST k,BL n,SL vr],SL ls] [] (.ret (cP (t _ fun _=>ki ⟨k,n,vs⟩ l))) []:=by
 have hlen:vr.length=vs.length:=by rw [wH,lgM]
 obtain ⟨H,hH⟩:∃H,H=ki ⟨k,n,vs⟩ l:=⟨_,rfl⟩
 rw [←hH]
 simp only [ki] at hH
 subst h0
 have RS:vs.length=0:=by simpa using hlen.symm
 rw [if_pos (show vs.length=0 from RS)] at hH
 clear wH hlen
 refine bL ht (aI:=[]) Tryz.func76 rfl rfl (N:=24) rfl rfl (n:=0) rfl rfl ?_
 cbv
 have pK:ls.length=l.length:=by rw [hls,lgM]
 refine aZ trv (Fe ht _ ‹_› ‹_›) trv rfl rfl (fun r0 cF=>?_)
 simp only [ht] at cF
 cbv
 refine c7 [false,false,false,false,false,false,false,false,false,true,true] (by kernel_rfl) (by kernel_rfl) ?_
 cbv
 iterate 3 refine gI (by simp) ?_
 (refine mB (fun g=>⟨by simpa [ht] using g,trv,P1 ht k n⟩) rfl rfl rfl ?_)
 cbv
 refine gI (by simp) ?_
 (refine QV (Eo (fun g=>⟨by simpa [ht] using g,trv,Fg ht _⟩) rfl rfl ?_))
 cbv
 refine gI (by simp [ah]) ?_
 iterate 2 refine gI (by simp) ?_
 refine ax trv trv rfl rfl rfl ?_
 (simp only [ht];grind)
theorem Hi (ht:TT t) (k:aQ) (n:Bool) {vs:List aQ} {vr:List (List D)} (wH:vr=vs.map bg) (hv:vs.length<1000000000) {l:List cZ} {ls:List (List D)} (hls:ls=l.map cZ.cells) (hl:l.length<1000000000) (h0:vr.length≠0):
 FC 76 [.agg [ST k,BL n,SL vr],SL ls] [] (.ret (cP (t _ fun _=>ki ⟨k,n,vs⟩ l))) []:=by
 have hlen:vr.length=vs.length:=by rw [wH,lgM]
 obtain ⟨H,hH⟩:∃H,H=ki ⟨k,n,vs⟩ l:=⟨_,rfl⟩
 rw [←hH]
 simp only [ki] at hH
 rw [if_neg (show ¬vs.length=0 by omega)] at hH
 refine bL ht (aI:=[]) Tryz.func76 rfl rfl (N:=24) rfl rfl (n:=0) rfl rfl ?_
 cbv
 have eG:vr.length=vs.length:=by rw [wH,lgM]
 have pK:ls.length=l.length:=by rw [hls,lgM]
 refine aZ trv (Fe ht _ ‹_› ‹_›) trv rfl rfl (fun r0 cF=>?_)
 simp only [ht] at cF
 cbv
 refine c7 [false,false,false,false,false,false,false,false,false,true,true] (by kernel_rfl) (by kernel_rfl) ?_
 cbv
 iterate 3 refine gI (by simp) ?_
 (refine mB (fun g=>⟨by simpa [ht] using g,trv,P2 ht k n (by omega)⟩) rfl rfl rfl ?_)
 cbv
 refine gI (by simp) ?_
 (refine QV (cY (fun g=>⟨by simpa [ht] using g,trv,Ff ht _ wH hv⟩) rfl rfl (fun r1 dM=>?_));simp only [ht] at dM)
 cbv
 refine gI (by simp [ah]) ?_
 iterate 2 refine gI (by simp) ?_
 refine ax trv trv rfl rfl rfl ?_
 (simp only [ht];grind)
theorem KG (ht:TT t) (k:aQ) (n:Bool) {vs:List aQ} {vr:List (List D)} (wH:vr=vs.map bg) (hv:vs.length<1000000000) {l:List cZ} {ls:List (List D)} (hls:ls=l.map cZ.cells) (hl:l.length<1000000000):
 FC 76 [.agg [ST k,BL n,SL vr],SL ls] [] (.ret (cP (t _ fun _=>ki ⟨k,n,vs⟩ l))) []:=by
 by_cases h0:vr=[]
 ·exact Hh ht k n wH hv hls hl h0
 exact Hi ht k n wH hv hls hl (by intro h;exact h0 (List.length_eq_zero_iff.1 h))
theorem Hj (ht:TT t) (ls:List (List D)) {l:List (Term)} {es:List (List D)} (aA:es=l.map Term.cells) (f:Nat) (p:Term→Bool) (hl:l.length<9223372036854775807)
 (hf:∀x∈l,FC f [.agg [ST x.key,BL x.no,SL (x.lS.map bg)],.ptr 0 0] [.var [SL ls]] (.ret (BL (p x))) [.var [SL ls]]) {r:Int} (hr:r=idxOf p l):FC 114 [SL es,.fn f [.ptr 0 0]] [.var [SL ls]] (.ret (bG r)) [.var [SL ls]]:=by
 have hel:es.length=l.length:=by rw [aA,lgM]
 obtain ⟨J,hJ⟩:∃J:Nat→Nat→Prop,∀n v,J n v↔(v+n=l.length∧∀i<v,∀x,l[i]?=some x→p x=false):=⟨fun n v=>v+n=l.length∧∀i<v,∀x,l[i]?=some x→p x=false,fun _ _=>Iff.rfl⟩
 refine bL ht (aI:=[.var [SL ls]]) Tryz.func114 rfl rfl (N:=19) rfl rfl (n:=1) rfl rfl ?_
 cbv
 refine bI ⟨[0,1,7,8],[],[]⟩ (σ:=Nat) (fun k=>[(8,bG (t _ fun _=>(k:Int)))]) (fun _=>[]) J ?_
 cbv
 refine aC ⟨l.length,0,(hJ _ _).2 ⟨by omega,by intro i hi;simp at hi⟩,by simp only [ht];rfl,?_⟩
 rintro n k hj
 obtain ⟨h2,h3⟩:=(hJ _ _).1 hj
 clear hj
 cbv
 refine an (fun h=>?_) (fun h=>?_)
 ·simp only [ht,aa,decide_eq_true_eq] at h
  have hk:k<l.length:=by omega
  obtain ⟨x,hx⟩:∃x,l[k]?=some x:=⟨l[k],by simp⟩
  have oo:x∈l:=List.mem_of_getElem? hx
  have gG:=hf x oo
  obtain ⟨px,hpx⟩:∃b,b=p x:=⟨_,rfl⟩
  rw [←hpx] at gG
  obtain ⟨a,b,c⟩:=x;obtain ⟨EY,lI⟩:∃lr:List (List D),lr=c.map bg:=⟨_,rfl⟩;simp only [←lI] at gG
  cbv
  refine cI [.str a,.bool b,.sl EY] ?_ ?_ ?_
  ·simp only [ht,aa];refine ⟨by omega,h,?_⟩;rw [aA];intro r hr;obtain ⟨y,_,rfl⟩:=List.mem_map.1 hr;rfl
  ·simp [ht,aa,aA,hx,lI,Term.cells]
  cbv
  refine dV trv gG ?_
  cbv
  refine an (fun hb=>?_) (fun hb=>?_)
  ·cbv
   refine ax trv trv rfl rfl rfl ?_
   have e:=de hx (hpx▸hb) h3
   simp only [ht,aa,hr,idxOf,e]
  cbv
  refine aC ⟨n-1,k+1,⟨by omega,(hJ _ _).2 ⟨by omega,?_⟩⟩,?_⟩
  ·intro i hi y hy
   by_cases hik:i<k
   ·exact h3 i hik y hy
   have:i=k:=by omega
   subst this;rw [hx] at hy;cases hy;rw [←hpx];exact hb
  simp only [ht,aa,aD (show k<9223372036854775807 by omega)];rfl
 simp only [ht,aa,decide_eq_false_iff_not] at h
 have hk:¬k<l.length:=by omega
 clear h
 cbv
 refine ax trv trv rfl rfl rfl ?_
 rw [hr,idxOf,dA]
 intro i y hy
 have:i<l.length:=by
  rcases Nat.lt_or_ge i l.length with h'|h';· exact h'
  simp [List.getElem?_eq_none h'] at hy
 exact h3 i (by omega) y hy
theorem Hl (ht:TT t) (ls:List (List D)) {l:List (Term)} {es:List (List D)} (aA:es=l.map Term.cells) (f:Nat) (p:Term→Bool) (hl:l.length<9223372036854775807)
 (hf:∀x∈l,FC f [.agg [ST x.key,BL x.no,SL (x.lS.map bg)],.ptr 0 0] [.var [SL ls]] (.ret (BL (p x))) [.var [SL ls]]) {r:Bool} (hr:r=l.any p):FC 74 [SL es,.fn f [.ptr 0 0]] [.var [SL ls]] (.ret (BL r)) [.var [SL ls]]:=by
 obtain ⟨k,hk⟩:∃k,k=idxOf p l:=⟨_,rfl⟩
 refine bL ht (aI:=[.var [SL ls]]) Tryz.func74 rfl rfl (N:=9) rfl rfl (n:=1) rfl rfl ?_
 cbv
 refine dV trv (Hj ht ls aA f p hl hf hk) ?_
 cbv
 refine ax trv trv rfl rfl rfl ?_
 simp only [ht,hr,iu,hk]
theorem NB (ht:TT t) (k:aQ) (n:Bool) {vs:List aQ} {vr:List (List D)} (wH:vr=vs.map bg) (hv:vs.length<1000000000) {l:List cZ} {ls:List (List D)} (hls:ls=l.map cZ.cells) (hl:l.length<1000000000) {r:Bool} (hr:r=!ki ⟨k,n,vs⟩ l):
 FC 75 [.agg [ST k,BL n,SL vr],.ptr 0 0] [.var [SL ls]] (.ret (BL r)) [.var [SL ls]]:=by
 obtain ⟨H,hH⟩:∃H,H=ki ⟨k,n,vs⟩ l:=⟨_,rfl⟩
 rw [←hH] at hr
 refine bL ht (aI:=[.var [SL ls]]) Tryz.func75 rfl rfl (N:=8) rfl rfl (n:=1) rfl rfl ?_
 cbv
 have eG:vr.length=vs.length:=by rw [wH,lgM]
 have pK:ls.length=l.length:=by rw [hls,lgM]
 refine aZ trv (KG ht _ _ ‹_› ‹_› ‹_› ‹_›) trv rfl rfl (fun r1 dM=>?_)
 simp only [ht] at dM
 cbv
 refine ax trv trv rfl rfl rfl ?_
 (simp [*];done)
theorem KH (ht:TT t) {x:List Term} {xr:List (List D)} (CI:xr=x.map Term.cells) (hx:x.length<1000000000) (CY:∀m∈x,m.lS.length<1000000000) {l:List cZ} {ls:List (List D)} (hls:ls=l.map cZ.cells) (hl:l.length<1000000000):
 FC 34 [SL xr,SL ls] [] (.ret (cP (t _ fun _=>o8 x l))) []:=by
 obtain ⟨r9,j8⟩:∃r,r=x.any (fun m=>!ki m l):=⟨_,rfl⟩
 refine bL ht (aI:=[]) Tryz.func34 rfl rfl (N:=9) rfl rfl (n:=0) rfl rfl ?_
 cbv
 have Ho:xr.length=x.length:=by rw [CI,lgM]
 have pK:ls.length=l.length:=by rw [hls,lgM]
 (refine dx [0] trv rfl rfl (Hl ht ls CI 75 (fun m=>!ki m l) (by omega) (fun m hm=>NB ht _ _ rfl (CY m hm) hls hl rfl) j8) (cj ?_))
 cbv
 refine ax trv trv rfl rfl rfl ?_
 (simp [ht,o8,j8];done)
end Dem
end
section
open Go
namespace Dem
section
variable {P:Program} {G:Nat→Option (List D)}
theorem wj {f:Nat} {args:List AV} {bx aP oB:List ay} {v v2:AV} (h:bA P G f args bx (.ret v) aP)
 (hs:∀β w X u,cz G β aP w X→aj β aP w (bc β aP w X) v u→Ext β aP w β oB w∧cz G β oB w X∧aj β oB w (bc β oB w X) v2 u):bA P G f args bx (.ret v2) oB:=by
 intro β w vs X cx hx
 refine iK.mono (h β w vs X cx hx) ?_
 rintro e w' ⟨β',ex,lQ,hr⟩
 cases e with
 |returned u=>
  obtain ⟨a,b,c⟩:=hs β' w' X u lQ hr
  exact ⟨β',ex.trans a,b,c⟩
 |panicked ch=>exact hr.elim
 |outgrown=>exact hr.elim
theorem NC {β:Nat→Nat} {bx:List ay} {w:World} {b:Nat} {B B':ay} (hb:bx[b]?=some B) (hl:B.live=true) (dG:B'.born=true):Ext β bx w β (bx.set b B') w:=by
 refine ⟨rfl,rfl,rfl,Nat.le_refl _,fun _ _ _=>rfl,fun k c e f h=>⟨c,h,rfl⟩,fun i hi=>⟨rfl,gV dG hi⟩,?_⟩
 intro i b' h1 h2
 rcases aH h1 with ⟨rfl,rfl,_⟩|⟨_,h3⟩
 ·exact .inr ⟨_,B,hb,hl,rfl⟩
 exact .inr ⟨i,b',h3,h2,rfl⟩
theorem zm {f b sz k c:Nat} {ex:Bool} {args:List AV} {bx aP oB:List ay} {es r:List (List D)} (hk:0<k) (hb:aP[b]?=some (.row sz es)) (Sr:k≤es.length) (hr:r=es.take k) (h2:oB=aP.set b (.row sz r))
 (h:bA P G f args bx (.ret (.vw b sz 0 k c ex)) aP):bA P G f args bx (.ret (.ow b sz k)) oB:=by
 subst hr h2
 refine wj h fun β w X u cx hv=>?_
 have hne:es≠[]:=by intro h;rw [h] at Sr;simp at Sr;omega
 have bY:(ay.row sz es).live=true:=by cases es with
  |nil=>exact absurd rfl hne
  |cons _ _=>rfl
 have ht:es.take k≠[]:=by
  intro h;have:=congrArg List.length h;simp at this;rcases this with h|h
  ·omega
  exact hne h
 have Xb:(ay.row sz (es.take k)).live=true:=by
  cases hq:es.take k with
  |nil=>exact absurd hq ht
  |cons _ _=>rfl
 have ext:Ext β aP w β (aP.set b (.row sz (es.take k))) w:=NC hb bY rfl
 simp only [aj] at hv
 obtain ⟨h1,base,cap,cs,e,f',rfl,h3,h4,h5,h6⟩:=hv
 refine ⟨ext,cx.step ext ?_ ?_,?_⟩
 ·intro i b' hi
  rcases aH hi with ⟨rfl,rfl,_⟩|⟨h7,h8⟩
  ·refine .inr ?_
   rcases cx.box _ _ hb with h|⟨c2,e2,g1,g2⟩
   ·exact absurd h hne
   exact .inr ⟨c2,e2,g1,ap.mono (ext.keeps X) _ _ (fun _=>rfl) _ _ (ap.C9 k _ _ g2)⟩
  exact .inl ⟨h8,fun _=>rfl⟩
 ·intro i j bi bj hi hj li lj he
  rcases aH hi with ⟨rfl,rfl,_⟩|⟨h7,h8⟩<;>rcases aH hj with ⟨rfl,rfl,_⟩|⟨h9,h10⟩
  ·rfl
  ·exact cx.inj _ _ _ _ hb h10 bY lj he
  ·exact cx.inj _ _ _ _ h8 hb li bY he
  exact cx.inj _ _ _ _ h8 h10 li lj he
 simp only [aj]
 refine ⟨(ext.born b h1).2,.inr ⟨by omega,cap,?_⟩⟩
 rcases h6 with h6|⟨rfl,h7,h8⟩
 ·omega
 exact ⟨cs,e,f',by simp,h3,h7,by simpa using h8⟩
theorem zn {f b sz k c:Nat} {ex:Bool} {args:List AV} {bx aP oB:List ay} {es r:List (List D)} (hb:aP[b]?=some (.row sz es)) (Sr:k≤es.length) (hr:r=es.take k) (h2:oB=aP.set b .dead)
 (h:bA P G f args bx (.ret (.vw b sz 0 k c ex)) aP):bA P G f args bx (.ret (.d (.sl r))) oB:=by
 subst hr h2
 refine wj h fun β w X u cx hv=>?_
 have ext:Ext β aP w β (aP.set b .dead) w:=gX hb rfl rfl
 simp only [aj] at hv
 obtain ⟨h1,base,cap,cs,e,f',rfl,h3,h4,h5,h6⟩:=hv
 refine ⟨ext,jv cx hb rfl rfl (by simp [c6]),?_⟩
 have hl:(es.take k).length=k:=by simp;omega
 simp only [aj,aF]
 refine ⟨base,cap,by rw [hl],by rw [hl];exact h3,?_⟩
 by_cases hk:k=0
 ·exact .inl (by rw [hk];rfl)
 refine .inr ?_
 rcases h6 with h6|⟨rfl,h7,h8⟩
 ·omega
 rcases cx.box _ _ hb with h|⟨c2,e2,g1,g2⟩
 ·rw [h] at Sr;simp at Sr;omega
 refine ⟨β b,0,sz,by simp,⟨eO g1,?_,?_⟩,ap.mono (ext.keeps X) _ _ (fun _=>rfl) _ _ (ap.C9 k _ _ g2)⟩
 ·refine cx.apart b _ hb ?_
  cases es with
  |nil=>simp at Sr;omega
  |cons _ _=>rfl
 intro i b' h9 h10 he
 rcases aH h9 with ⟨rfl,rfl,_⟩|⟨h11,h12⟩
 ·simp [ay.live] at h10
 refine h11 (cx.inj i b b' _ h12 hb h10 ?_ he)
 cases es with
 |nil=>simp at Sr;omega
 |cons _ _=>rfl
theorem ak.split {β:Nat→Nat} {bx:List ay} {w:World} {ok:Nat→Prop}:∀{xs ys:List AV} {vs:List Value},ak β bx w ok (xs++ys) vs→∃us ws,vs=us++ws∧ak β bx w ok xs us∧ak β bx w ok ys ws
 |[],_,vs,h=>⟨[],vs,rfl,by simp only [ak],h⟩
 |x::xs,ys,vs,h=>by
  rw [List.cons_append] at h
  simp only [ak] at h ⊢
  obtain ⟨u,us,rfl,h1,h2⟩:=h
  obtain ⟨a,b,rfl,h3,h4⟩:=ak.split h2
  exact ⟨u::a,b,rfl,⟨u,a,rfl,h1,h3⟩,h4⟩
theorem pL {f g b:Nat} {xs:List AV} {cs:List AV} {ds:List D} {bx oA aP:List ay} {res:iy} (hb:bx[b]?=some (.var cs)) (hd:iw [] cs=some ds) (h1:oA=bx.set b .dead)
 (h:bA P G f (xs++[.fn g [.ep ds]]) oA res aP):bA P G f (xs++[.fn g [.ptr b 0]]) bx res aP:=by
 subst h1
 intro β w vs X cx hx
 have ext:Ext β bx w β (bx.set b .dead) w:=gX hb rfl rfl
 have lQ:cz G β (bx.set b .dead) w X:=jv cx hb rfl rfl (by simp [c6])
 obtain ⟨c2,e2,g1,g2⟩:=cx.box _ _ hb
 have hok:bc β (bx.set b .dead) w X (β b):=by
  refine ⟨eO g1,cx.apart b _ hb rfl,?_⟩
  intro i b' h3 h4 he
  rcases aH h3 with ⟨rfl,rfl,_⟩|⟨h5,h6⟩
  ·simp [ay.live] at h4
  exact h5 (cx.inj i b b' _ h6 hb h4 rfl he)
 have hrow:aT w (bc β bx w X) (β b) ds 0:=by
  refine BH ds 0 c2.toList ?_ (p8 hd g2)
  intro j v hj
  simp only [World.cell?,g1]
  simpa using hj
 have Bl:=aT.mono (ext.keeps X) _ (fun _=>rfl) _ _ hrow
 obtain ⟨us,ws0,rfl,hu,hw⟩:=ak.split hx
 simp only [ak,aj] at hw
 obtain ⟨v,vs',rfl,⟨ws,rfl,w1,ws',rfl,⟨rfl,BO⟩,rfl⟩,rfl⟩:=hw
 refine iK.mono (h β w _ X lQ ?_) ?_
 ·refine ak.append (ak.mono (ext.eN X) _ _ hu) ?_
  simp only [ak,aj]
  exact ⟨_,_,rfl,⟨_,rfl,_,_,rfl,⟨β b,0,rfl,hok,Bl⟩,rfl⟩,rfl⟩
 rintro e w' ⟨β',ex,Xc,hr⟩
 exact ⟨β',ext.trans ex,Xc,hr⟩
theorem nY {f g b:Nat} {x:AV} {cs:List AV} {ds:List D} {bx oA aP:List ay} {res:iy} (hb:bx[b]?=some (.var cs)) (hd:iw [] cs=some ds) (h1:oA=bx.set b .dead)
 (h:bA P G f [x,.fn g [.ep ds]] oA res aP):bA P G f [x,.fn g [.ptr b 0]] bx res aP:=pL (xs:=[x]) hb hd h1 h
end
end Dem
end
section
open Go Dem Go.Proofs
namespace Dem
variable {t:Th}
theorem wk (ht:TT t) {es:List (List D)} (aA:∀r∈es,r.length=6) (hs:es.length*72≤140737488355328) {m:Nat} (hm:m=es.length):
 FC 191 [SL es] [] (.ret (.ow 0 6 m)) [.row 6 es]:=by
 refine bL ht (aI:=[]) Tryz.func191 rfl rfl (N:=8) rfl rfl (n:=0) rfl rfl ?_
 cbv
 refine ⟨fun b hb=>?_⟩
 simp only [ht] at hb
 cbv
 refine an (fun h=>?_) (fun h=>?_)
 ·have he:=hb h
  subst he
  cbv
  exact Er trv rfl rfl (by rw [hm];rfl) rfl
 clear hb h
 cbv
 refine ⟨?_,?_⟩
 ·simp only [ht];simp;exact ⟨hs,aA⟩
 refine Ad trv rfl rfl rfl rfl ?_ ?_
 ·simp only [ht];rw [hm];simp
 simp only [ht];rfl
theorem KI (ht:TT t) (xr:List (List D)) {l:List (bO)} {es:List (List D)} (aA:es=l.map bO.cells) (f:Nat) (p:bO→Bool) (hl:l.length<9223372036854775807)
 (hf:∀x∈l,FC f [.agg [ST x.node,az x.free.a,az x.free.b,az x.free.c,az x.free.d,SL (x.labels.map cZ.cells)],.ep [.sl xr]] [] (.ret (BL (p x))) []) {r:Int} (hr:r=idxOf p l):FC 216 [SL es,.fn f [.ep [.sl xr]]] [] (.ret (bG r)) []:=by
 have hel:es.length=l.length:=by rw [aA,lgM]
 obtain ⟨J,hJ⟩:∃J:Nat→Nat→Prop,∀n v,J n v↔(v+n=l.length∧∀i<v,∀x,l[i]?=some x→p x=false):=⟨fun n v=>v+n=l.length∧∀i<v,∀x,l[i]?=some x→p x=false,fun _ _=>Iff.rfl⟩
 refine bL ht (aI:=[]) Tryz.func216 rfl rfl (N:=19) rfl rfl (n:=0) rfl rfl ?_
 cbv
 refine bI ⟨[0,1,7,8],[],[]⟩ (σ:=Nat) (fun k=>[(8,bG (t _ fun _=>(k:Int)))]) (fun _=>[]) J ?_
 cbv
 refine aC ⟨l.length,0,(hJ _ _).2 ⟨by omega,by intro i hi;simp at hi⟩,by simp only [ht];rfl,?_⟩
 rintro n k hj
 obtain ⟨h2,h3⟩:=(hJ _ _).1 hj
 clear hj
 cbv
 refine an (fun h=>?_) (fun h=>?_)
 ·simp only [ht,aa,decide_eq_true_eq] at h
  have hk:k<l.length:=by omega
  obtain ⟨x,hx⟩:∃x,l[k]?=some x:=⟨l[k],by simp⟩
  have oo:x∈l:=List.mem_of_getElem? hx
  have gG:=hf x oo
  obtain ⟨px,hpx⟩:∃b,b=p x:=⟨_,rfl⟩
  rw [←hpx] at gG
  obtain ⟨nd,⟨v1,v2,v3,v4⟩,lb⟩:=x;obtain ⟨EY,lI⟩:∃lr:List (List D),lr=lb.map cZ.cells:=⟨_,rfl⟩;simp only [←lI] at gG
  cbv
  refine cI [.str nd,.int .u64 v1,.int .u64 v2,.int .u64 v3,.int .u64 v4,.sl EY] ?_ ?_ ?_
  ·simp only [ht,aa];refine ⟨by omega,h,?_⟩;rw [aA];intro r hr;obtain ⟨y,_,rfl⟩:=List.mem_map.1 hr;rfl
  ·simp [ht,aa,aA,hx,lI,bO.cells]
  cbv
  refine dV trv gG ?_
  cbv
  refine an (fun hb=>?_) (fun hb=>?_)
  ·cbv
   refine ax trv trv rfl rfl rfl ?_
   have e:=de hx (hpx▸hb) h3
   simp only [ht,aa,hr,idxOf,e]
  cbv
  refine aC ⟨n-1,k+1,⟨by omega,(hJ _ _).2 ⟨by omega,?_⟩⟩,?_⟩
  ·intro i hi y hy
   by_cases hik:i<k
   ·exact h3 i hik y hy
   have:i=k:=by omega
   subst this;rw [hx] at hy;cases hy;rw [←hpx];exact hb
  simp only [ht,aa,aD (show k<9223372036854775807 by omega)];rfl
 simp only [ht,aa,decide_eq_false_iff_not] at h
 have hk:¬k<l.length:=by omega
 clear h
 cbv
 refine ax trv trv rfl rfl rfl ?_
 rw [hr,idxOf,dA]
 intro i y hy
 have:i<l.length:=by
  rcases Nat.lt_or_ge i l.length with h'|h';· exact h'
  simp [List.getElem?_eq_none h'] at hy
 exact h3 i (by omega) y hy
theorem Hp (ht:TT t) (xr:List (List D)) {l:List (bO)} {es:List (List D)} (aA:es=l.map bO.cells) {m c:Nat} (hm:m=l.length) (hc:m≤c) (f:Nat) (p:bO→Bool) (hl:l.length<9223372036854775807)
 (hf:∀x∈l,FC f [.agg [ST x.node,az x.free.a,az x.free.b,az x.free.c,az x.free.d,SL (x.labels.map cZ.cells)],.ep [.sl xr]] [] (.ret (BL (p x))) []) {r:List (List D)} (hr:r=(l.filter (fun x=>!p x)).map bO.cells) {kk:Nat} (hkk:kk=r.length) {rz:List (List D)} (Fh:rz=r++List.replicate (m-kk) [.str [],.int .u64 0,.int .u64 0,.int .u64 0,.int .u64 0,.sl []]):
 FC 190 [.vw 0 6 0 m c true,.fn f [.ep [.sl xr]]] [.row 6 es] (.ret (.vw 0 6 0 kk c true)) [.row 6 rz]:=by
 have hel:es.length=m:=by rw [aA,lgM,hm]
 have hrows:∀r∈es,r.length=6:=by rw [aA];intro r hr;obtain ⟨y,_,rfl⟩:=List.mem_map.1 hr;rfl
 obtain ⟨k,hk⟩:∃k,k=idxOf p l:=⟨_,rfl⟩
 have MW:(t (List (List D)) fun _=>(es.drop 0).take m)=l.map bO.cells:=by simp only [ht];rw [List.drop_zero,List.take_of_length_le (by omega),aA]
 have hidx:=KI ht xr MW f p hl hf hk
 obtain ⟨J,hJ⟩:∃J:Nat→Nat×Nat×List (List D)→Prop,∀n v,J n v↔(v.2.1+n=m∧v.1<v.2.1∧v.2.2.length=m∧(∀r∈v.2.2,r.length=6)∧v.2.2.take v.1=((l.take v.2.1).filter (fun x=>!p x)).map bO.cells∧v.2.2.drop v.2.1=es.drop v.2.1):=⟨fun n v=>v.2.1+n=m∧v.1<v.2.1∧v.2.2.length=m∧(∀r∈v.2.2,r.length=6)∧v.2.2.take v.1=((l.take v.2.1).filter (fun x=>!p x)).map bO.cells∧v.2.2.drop v.2.1=es.drop v.2.1,fun _ _=>Iff.rfl⟩
 refine bL ht (aI:=[.row 6 es]) Tryz.func190 rfl rfl (N:=42) rfl rfl (n:=1) rfl rfl ?_
 cbv
 refine MB (TT.eq ht) (v:=bG k) [true] [] trv rfl ?_ rfl rfl rfl rfl rfl rfl rfl hidx ?_
 ·simp [ht];omega
 cbv
 refine an (fun h=>?_) (fun h=>?_)
 ·have wM:k=-1:=by simp [ht] at h;exact h
  have hnone:=mX (hk▸wM:idxOf p l=-1)
  clear h
  cbv
  have LQ:r=es:=by rw [hr,filter_all hnone,←aA]
  have hkm:kk=m:=by rw [hkk,LQ,hel]
  have Ss:rz=es:=by rw [Fh,hkm,Nat.sub_self,LQ];simp
  rw [Ss,hkm]
  exact Gz trv rfl rfl
 have wM:k≠-1:=by simp [ht] at h;exact h
 clear h
 obtain ⟨i0,x0,Q8,hx0,UO,hb0⟩:=mY (hk▸wM:idxOf p l≠-1)
 rw [←hk] at Q8
 subst Q8
 have UP:i0<m:=by rw [hm];exact (List.getElem?_eq_some_iff.1 hx0).1
 cbv
 refine bI ⟨[0,1,5,6],[],[]⟩ (σ:=Nat×Nat×List (List D)) (fun v=>[(5,bG (t _ fun _=>(v.1:Int))),(6,bG (t _ fun _=>(v.2.1:Int)))]) (fun v=>[(0,.row 6 (t _ fun _=>v.2.2))]) J ?_
 cbv
 refine aC ⟨m-(i0+1),(i0,i0+1,es),(hJ _ _).2 ⟨?_,?_,hel,hrows,?_,rfl⟩,by simp only [ht,aa,Int.ofNat_eq_natCast,aD (show i0<9223372036854775807 by omega)];rfl,?_⟩
 ·show i0+1+(m-(i0+1))=m;omega
 ·show i0<i0+1;omega
 ·show es.take i0=_
  rw [ek hx0,List.filter_append,filter_all hb0,aA,←List.map_take];simp [UO]
 rintro n ⟨i,j,cur⟩ hj
 obtain ⟨j1,j2,j3,j4,j5,j6⟩:=(hJ _ _).1 hj
 clear hj
 simp only at j1 j2 j3 j4 j5 j6
 cbv
 refine an (fun h=>?_) (fun h=>?_)
 ·have Q9:j<m:=by simp [ht,aa] at h;omega
  clear h
  obtain ⟨x,hx⟩:∃x,l[j]?=some x:=⟨l[j]'(by omega),by simp⟩
  have oo:x∈l:=List.mem_of_getElem? hx
  have gG:=hf x oo
  have EW:cur[j]?=some (bO.cells x):=by
   have:(cur.drop j)[0]?=(es.drop j)[0]?:=by rw [j6]
   rw [List.getElem?_drop,List.getElem?_drop,Nat.add_zero,aA,List.getElem?_map,hx] at this
   exact this
  obtain ⟨px,hpx⟩:∃b,b=p x:=⟨_,rfl⟩
  rw [←hpx] at gG
  obtain ⟨cx,Cv⟩:∃cx,cx=bO.cells x:=⟨_,rfl⟩
  rw [←Cv] at EW
  have hstep:(l.take (j+1)).filter (fun x=>!p x)=(l.take j).filter (fun x=>!p x)++(if px then [] else [x]):=by
   rw [ek hx,List.filter_append];cases px<;>simp [←hpx]
  obtain ⟨nd,⟨v1,v2,v3,v4⟩,lb⟩:=x;obtain ⟨EY,lI⟩:∃lr:List (List D),lr=lb.map cZ.cells:=⟨_,rfl⟩;simp only [bO.cells,←lI] at gG Cv
  cbv
  refine ⟨?_,Ph [.str nd,.int .u64 v1,.int .u64 v2,.int .u64 v3,.int .u64 v4,.sl EY] ?_ ?_ ?_⟩
  ·simp [ht,aa];omega
  ·simp [ht,aa,j3];omega
  ·simp [ht,aa,List.getD_eq_getElem?_getD,EW,Cv]
  cbv
  refine dx [] trv rfl rfl gG (cj ?_)
  cbv
  refine an (fun hb=>?_) (fun hb=>?_)
  ·have hb':px=false:=by simpa [ht] using hb
   clear hb
   obtain ⟨nc,hnc⟩:∃nc,nc=cur.set i cx:=⟨_,rfl⟩
   have ot:(cur.getD i []).length=6:=j4 _ (by rw [List.getD_eq_getElem?_getD,List.getElem?_eq_getElem (by omega)];exact List.getElem_mem _)
   cbv
   refine ⟨?_,?_⟩
   ·simp [ht,aa];omega
   refine ⟨?_,?_⟩
   ·simp [ht,aa,j3];exact ⟨by omega,by simpa using ot.symm▸(Nat.le_refl _)⟩
   refine aC ⟨n-1,(i+1,j+1,nc),⟨by omega,(hJ _ _).2 ⟨?_,?_,?_,?_,?_,?_⟩⟩,?_⟩
   ·show j+1+(n-1)=m;omega
   ·show i+1<j+1;omega
   ·show nc.length=m;rw [hnc,List.length_set];exact j3
   ·show ∀r∈nc,r.length=6
    intro r hr;rw [hnc] at hr
    rcases List.mem_or_eq_of_mem_set hr with hr|rfl
    ·exact j4 r hr
    rw [Cv];rfl
   ·show nc.take (i+1)=_
    rw [hnc,jP _ _ _ (by omega),j5,hstep,hb',Cv];simp [lI,bO.cells]
   ·show nc.drop (j+1)=es.drop (j+1)
    rw [hnc,mq _ _ _ _ (by omega),←List.drop_drop,j6,List.drop_drop]
   simp only [ht,aa,Int.ofNat_eq_natCast,aD (show i<9223372036854775807 by omega),aD (show j<9223372036854775807 by omega)]
   have ei:0+((i:Int)).toNat=i:=by simp
   have e:cur.set i (be (cur.getD i []) 0 [.str nd,.int .u64 v1,.int .u64 v2,.int .u64 v3,.int .u64 v4,.sl EY])=nc:=by rw [hnc,jO _ _ (by rw [ot];rfl),Cv]
   simp only [ei,e];rfl
  have hb':px=true:=by simpa [ht] using hb
  clear hb
  cbv
  refine aC ⟨n-1,(i,j+1,cur),⟨by omega,(hJ _ _).2 ⟨?_,?_,j3,j4,?_,?_⟩⟩,?_⟩
  ·show j+1+(n-1)=m;omega
  ·show i<j+1;omega
  ·show cur.take i=_
   rw [j5,hstep,hb'];simp
  ·show cur.drop (j+1)=es.drop (j+1)
   rw [←List.drop_drop,j6,List.drop_drop]
  simp only [ht,aa,Int.ofNat_eq_natCast,aD (show j<9223372036854775807 by omega)];rfl
 have Q9:j=m:=by simp [ht,aa] at h;omega
 clear h
 obtain ⟨mi,vM⟩:∃mi,mi=m-i:=⟨_,rfl⟩
 obtain ⟨ci,ot⟩:∃ci,ci=c-i:=⟨_,rfl⟩
 obtain ⟨nc,hnc⟩:∃nc,nc=wrote cur i (List.replicate mi [.str [],.int .u64 0,.int .u64 0,.int .u64 0,.int .u64 0,.sl []]):=⟨_,rfl⟩
 have hnt:nc.take i=r:=by
  have hl':(cur.take i).length=i:=by simp;omega
  rw [hnc,wrote,List.append_assoc,List.take_left' hl',j5,hr,Q9,hm,List.take_length]
 have UQ:i≤nc.length:=by rw [hnc];simp [wrote];omega
 cbv
 refine bE (.vw 0 6 i mi ci true) [.row 6 cur] ?_ ?_ ?_ ?_
 ·simp [ht,aa,dF,bJ];omega
 ·simp [ht,aa,aS,aM,vM,ot]
 ·simp only [ht]
 cbv
 refine bE (.dL []) [.row 6 nc] ?_ rfl ?_ ?_
 ·simp [ht,eB]
  refine ⟨by omega,?_⟩
  intro h;rw [h] at j3;simp at j3;omega
 ·simp only [ht,hnc]
 cbv
 refine bE (.vw 0 6 0 i c true) [.row 6 nc] ?_ ?_ rfl ?_
 ·simp [ht,aa,dF,bJ];omega
 ·simp [ht,aa,aS,aM]
 cbv
 have hki:kk=i:=by rw [hkk,←hnt];simp;omega
 have Ss:rz=nc:=by
  rw [Fh,hki,←hnt,hnc,wrote]
  have hl':(cur.take i).length=i:=by simp;omega
  rw [List.append_assoc,List.take_left' hl',List.drop_of_length_le (by simp;omega),List.append_nil,vM]
 rw [Ss,hki]
 exact Gz trv rfl rfl
theorem Hq (ht:TT t) (nd:aQ) (v1 v2 v3 v4:Int) {lb:List cZ} {lr:List (List D)} (hlr:lr=lb.map cZ.cells) (hlb:lb.length<1000000000) {x:List Term} {xr:List (List D)} (CI:xr=x.map Term.cells) (hx:x.length<1000000000) (CY:∀m∈x,m.lS.length<1000000000) {r:Bool} (hr:r=!o8 x lb):
 FC 192 [.agg [ST nd,az v1,az v2,az v3,az v4,SL lr],.ep [.sl xr]] [] (.ret (BL r)) []:=by
 obtain ⟨H,hH⟩:∃H,H=o8 x lb:=⟨_,rfl⟩
 rw [←hH] at hr
 refine bL ht (aI:=[]) Tryz.func192 rfl rfl (N:=9) rfl rfl (n:=0) rfl rfl ?_
 cbv
 have gz:lr.length=lb.length:=by rw [hlr,lgM]
 have Ho:xr.length=x.length:=by rw [CI,lgM]
 refine aZ trv (KH ht ‹_› ‹_› ‹_› ‹_› ‹_›) trv rfl rfl (fun r0 cF=>?_)
 simp only [ht] at cF
 cbv
 refine ax trv trv rfl rfl rfl ?_
 (simp [ht,hr,hH,cF];done)
def Int.cells (x:Int):List D:=[.int .u64 x]
def Int.bC (_:Th) (x:Int):List D:=[.int .u64 x]
theorem CJ (ht:TT t) (x:Int):FC 102 [az x] [] (.ret (cP (t _ fun _=>false))) []:=by
 refine bL ht (aI:=[]) Tryz.func102 rfl rfl (N:=6) rfl rfl (n:=0) rfl rfl ?_
 cbv
 refine ax trv trv rfl rfl rfl ?_
 (simp [ht];done)
theorem ND (ht:TT t) (x y:Int):FC 51 [az x,az y] [] (.ret (fQ (t _ fun _=>ix x y))) []:=by
 refine bL ht (aI:=[]) Tryz.func51 rfl rfl (N:=20) rfl rfl (n:=0) rfl rfl ?_
 cbv
 refine aZ trv (CJ ht _) trv rfl rfl (fun r0 cF=>?_)
 simp only [ht] at cF
 cbv
 refine aZ trv (CJ ht _) trv rfl rfl (fun r1 dM=>?_)
 simp only [ht] at dM
 cbv
 refine an (fun h2=>?_) (fun h2=>?_)
 ·cbv
  refine an (fun h3=>?_) (fun h3=>?_)
  ·cbv
   refine ax trv trv rfl rfl rfl ?_
   (simp only [ht,ix];grind)
  cbv
  refine ax trv trv rfl rfl rfl ?_
  (simp only [ht,ix];grind)
 cbv
 refine an (fun h4=>?_) (fun h4=>?_)
 ·cbv
  refine ax trv trv rfl rfl rfl ?_
  (simp only [ht,ix];grind)
 cbv
 refine an (fun h5=>?_) (fun h5=>?_)
 ·simp [ht] at h5
  cbv
  refine ax trv trv rfl rfl rfl ?_
  (simp [ix, *];done)
 simp [ht] at h5
 cbv
 refine an (fun h6=>?_) (fun h6=>?_)
 ·simp [ht] at h6
  cbv
  refine ax trv trv rfl rfl rfl ?_
  (simp [ix, *];done)
 simp [ht] at h6
 cbv
 refine ax trv trv rfl rfl rfl ?_
 (simp only [ht,ix];grind)
def cmpL:List Int→List Int→Int
 |x::r,y::s=>if ix x y≠0 then ix x y else cmpL r s
 |_,_=>0
theorem Hr (ht:TT t) {l m:List Int} {es fs:List (List D)} (aA:es=l.map Int.cells) (Rb:fs=m.map Int.cells) (hlm:l.length=m.length) (hl:l.length<1000000000):
 FC 217 [SL es,SL fs] [] (.ret (fQ (t _ fun _=>cmpL l m))) []:=by
 refine bL ht (aI:=[]) Tryz.func217 rfl rfl (N:=36) rfl rfl (n:=0) rfl rfl ?_
 cbv
 have av:es.length=l.length:=by rw [aA,lgM]
 have fM:fs.length=m.length:=by rw [Rb,lgM]
 obtain ⟨J0,fI⟩:∃J0:Nat→Int→Prop,∀n i,J0 n i↔(∃k:Nat,i=k∧k+n=l.length∧l.length=m.length∧cmpL l m=cmpL (l.drop k) (m.drop k)):=⟨fun n v=>match v with|i=>(∃k:Nat,i=k∧k+n=l.length∧l.length=m.length∧cmpL l m=cmpL (l.drop k) (m.drop k)),fun _ _=>Iff.rfl⟩
 refine bI ⟨[0,1,9,10,11],[],[]⟩ (σ:=Int) (fun v=>[(11,.d (.int .i64 (t _ fun _=>v)))]) (fun v=>[]) J0 ?_
 cbv
 refine aC ⟨l.length,_,(fI _ _).2 ?_,by simp only [ht];rfl,?_⟩
 ·exact ⟨0,rfl,by simp,by omega,by simp⟩
 rintro n i hj
 replace hj:=(fI _ _).1 hj
 obtain ⟨k,rfl,j1,j2,j4⟩:=hj
 cbv
 refine an (fun h1=>?_) (fun h1=>?_)
 ·simp [ht,aa,av] at h1
  cbv
  refine jZ ht aA (cT:=Int.bC t) (by (simp only [ht,aa];omega)) (by (simp only [ht,aa];omega)) (fun _=>rfl) (fun _=>rfl) (fun x2 nj=>?_)
  simp [ht,aa] at nj
  rw [gu nj] at j4
  cbv
  refine an (fun h3=>?_) (fun h3=>?_)
  ·simp [ht,aa,fM] at h3
   omega
  simp [ht,aa,fM] at h3
  cbv
  refine jZ ht Rb (cT:=Int.bC t) (by (simp only [ht,aa];omega)) (by (simp only [ht,aa];omega)) (fun _=>rfl) (fun _=>rfl) (fun x4 FN=>?_)
  simp [ht,aa] at FN
  rw [gu FN] at j4
  cbv
  refine aZ trv (ND ht _ _) trv rfl rfl (fun r5 tP=>?_)
  simp only [ht] at tP
  cbv
  refine an (fun h6=>?_) (fun h6=>?_)
  ·simp [ht] at h6
   cbv
   refine ax trv trv rfl rfl rfl ?_
   (simp only [ht];rw [j4,cmpL,←tP,if_pos ‹_›];done)
  simp [ht] at h6
  cbv
  refine cL _ (by simp only [ht];rfl) (n-1) ?_ ((fI _ _).2 ?_)
  ·omega
  simp only [aa]
  exact ⟨k+1,aD (by omega),by omega,by omega,by rw [j4,cmpL,←tP,if_neg (by omega)]⟩
 simp [ht,aa,av] at h1
 cbv
 refine an (fun h7=>?_) (fun h7=>?_)
 ·simp [ht,aa,av,fM] at h7
  omega
 simp [ht,aa,av,fM] at h7
 cbv
 refine ax trv trv rfl rfl rfl ?_
 (simp [ht,j4,List.drop_eq_nil_of_le (show l.length≤k by omega),cmpL];done)
theorem NE (a0 a1 a2 a3 b0 b1 b2 b3:Int):cmpL [a0,a1,a2,a3] [b0,b1,b2,b3]=o9 ⟨a0,a1,a2,a3⟩ ⟨b0,b1,b2,b3⟩:=by
 simp only [cmpL,o9]
 by_cases h0:ix a0 b0=0<;>by_cases h1:ix a1 b1=0<;>by_cases h2:ix a2 b2=0<;>by_cases h3:ix a3 b3=0<;>simp [h0,h1,h2,h3]
theorem KJ (ht:TT t) (a0 a1 a2 a3 b0 b1 b2 b3:Int):FC 193 [V4 a0 a1 a2 a3,V4 b0 b1 b2 b3] [] (.ret (fQ (t _ fun _=>o9 ⟨a0,a1,a2,a3⟩ ⟨b0,b1,b2,b3⟩))) []:=by
 obtain ⟨o,ho⟩:∃o,o=o9 ⟨a0,a1,a2,a3⟩ ⟨b0,b1,b2,b3⟩:=⟨_,rfl⟩
 rw [←ho]
 refine bL ht (aI:=[]) Tryz.func193 rfl rfl (N:=8) rfl rfl (n:=0) rfl rfl ?_
 cbv
 (apply Is [] (.more 0 (.one 1 (.one 2 (.one 3 .done))) (.one 1 (.one 0 (.one 2 (.one 3 .done)))));kernel_rfl;kernel_rfl;kernel_rfl;kernel_rfl;(next=>cbv;repeat (first|(refine aB trv (Hr ht (l:=[a0,a1,a2,a3]) (m:=[b0,b1,b2,b3]) rfl rfl rfl (by simp)) trv rfl rfl rfl (fun r0 cF=>?_);simp only [ht,NE,←ho] at cF;subst r0;cbv)|refine And.intro ?_ ?_)))
 cbv
 refine ax trv trv rfl rfl rfl ?_
 (simp [ht];done)
theorem zo (ht:TT t) {l:List bO} {es:List (List D)} (aA:es=l.map bO.cells) (hl:l.length<1000000) (hlb:∀s∈l,s.labels.length<1000000000) {x:List Term} {xr:List (List D)} (CI:xr=x.map Term.cells) (hx:x.length<1000000000) (CY:∀m∈x,m.lS.length<1000000000)
 {m c k:Nat} (hm:m=l.length) (hc:m≤c) {r:List (List D)} (hr:r=(fitting l x).map bO.cells) (hk:k=r.length) {rz:List (List D)} (Fh:rz=r++List.replicate (m-k) [.str [],.int .u64 0,.int .u64 0,.int .u64 0,.int .u64 0,.sl []]):
 FC 190 [.vw 0 6 0 m c true,.fn 192 [.ep [.sl xr]]] [.row 6 es] (.ret (.vw 0 6 0 k c true)) [.row 6 rz]:=
 Hp ht xr aA hm hc 192 (fun s=>!o8 x s.labels) (by omega) (fun s hs=>Hq ht _ _ _ _ _ rfl (hlb s hs) CI hx CY rfl) (by rw [hr,fitting];simp) hk Fh
theorem P3 {r z:List (List D)} {k:Nat} (hk:k=r.length):r=(r++z).take k:=by rw [hk,List.take_left]
theorem Hs (ht:TT t) {l:List bO} {es:List (List D)} (aA:es=l.map bO.cells) (hl:l.length<1000000) (hlb:∀s∈l,s.labels.length<1000000000) {x:List Term} {xr:List (List D)} (CI:xr=x.map Term.cells) (hx:x.length<1000000000) (CY:∀m∈x,m.lS.length<1000000000)
 (h0:fitting l x=[]):FC 148 [SL es,SL xr] [] (.ret (SL [])) []:=by
 obtain ⟨m,hm⟩:∃m,m=l.length:=⟨_,rfl⟩
 have hel:m=es.length:=by rw [aA,lgM,hm]
 have hrows:∀r∈es,r.length=6:=by rw [aA];intro r hr;obtain ⟨y,_,rfl⟩:=List.mem_map.1 hr;rfl
 have hD:FC 190 [.ow 1 6 m,.fn 192 [.ptr 0 0]] [.var [SL xr],.row 6 es] (.ret (SL [])) [.dead,.dead]:=
  nY rfl rfl rfl<|dw [1] rfl rfl rfl rfl<|dK fun c hc _=>zn rfl (by simp) (by simp) rfl (zo ht aA hl hlb CI hx CY hm hc (r:=[]) (by rw [h0];rfl) (k:=0) rfl rfl)
 refine bL ht (aI:=[]) Tryz.func148 rfl rfl (N:=9) rfl rfl (n:=0) rfl rfl ?_
 cbv
 refine jg trv (wk ht hrows (by omega) hel) trv rfl (.inr rfl) ?_
 cbv
 refine dV trv hD ?_
 cbv
 refine ax trv trv rfl rfl rfl ?_
 simp
theorem KL (ht:TT t) {l:List bO} {es:List (List D)} (aA:es=l.map bO.cells) (hl:l.length<1000000) (hlb:∀s∈l,s.labels.length<1000000000) {x:List Term} {xr:List (List D)} (CI:xr=x.map Term.cells) (hx:x.length<1000000000) (CY:∀m∈x,m.lS.length<1000000000)
 {r:List (List D)} (hr:r=(fitting l x).map bO.cells) {k:Nat} (hk:k=r.length) (h0:0<k):FC 148 [SL es,SL xr] [] (.ret (.ow 0 6 k)) [.row 6 r]:=by
 obtain ⟨m,hm⟩:∃m,m=l.length:=⟨_,rfl⟩
 have hel:m=es.length:=by rw [aA,lgM,hm]
 have hrows:∀r∈es,r.length=6:=by rw [aA];intro r hr;obtain ⟨y,_,rfl⟩:=List.mem_map.1 hr;rfl
 obtain ⟨rz,Fh⟩:∃rz,rz=r++List.replicate (m-k) [.str [],.int .u64 0,.int .u64 0,.int .u64 0,.int .u64 0,.sl []]:=⟨_,rfl⟩
 have hD:FC 190 [.ow 1 6 m,.fn 192 [.ptr 0 0]] [.var [SL xr],.row 6 es] (.ret (.ow 1 6 k)) [.dead,.row 6 r]:=
  nY rfl rfl rfl<|dw [1] rfl rfl rfl rfl<|dK fun c hc _=>zm h0 rfl (by rw [Fh,hk];simp) (by rw [Fh];exact P3 hk) rfl (zo ht aA hl hlb CI hx CY hm hc hr hk Fh)
 refine bL ht (aI:=[]) Tryz.func148 rfl rfl (N:=9) rfl rfl (n:=0) rfl rfl ?_
 cbv
 refine jg trv (wk ht hrows (by omega) hel) trv rfl (.inr rfl) ?_
 cbv
 refine dV trv hD ?_
 cbv
 exact Ad trv rfl rfl rfl rfl rfl rfl
theorem IZ {x:bO} {v:bM} {B C:Ch} {r:bM×Bool} {o:Int} (er:r=dX x.free v) (eo:o=o9 r.1 B.left) (h:r.2=true→B.ok=true∧0≤o):
 (if (dX x.free v).2&&(!B.ok||decide (o9 (dX x.free v).1 B.left<0)) then C else B)=B:=by
 rw [←er,←eo,if_neg]
 intro g
 simp only [Bool.and_eq_true,Bool.or_eq_true,Bool.not_eq_true',decide_eq_true_eq] at g
 obtain ⟨g1,g2⟩:=g
 obtain ⟨g3,g4⟩:=h g1
 rcases g2 with g2|g2
 ·rw [g3] at g2;cases g2
 omega
def U4 (r:Ch):AV:=.dL [bG r.at_,V4 r.left.a r.left.b r.left.c r.left.d,BL r.ok]
theorem I0 (ht:TT t) (d1 d2 d3 d4:Int) {l:List bO} {es:List (List D)} (aA:es=l.map bO.cells) (hl:l.length<1000000):
 FC 149 [SL es,V4 d1 d2 d3 d4] [] (.ret (U4 (t _ fun _=>best l ⟨d1,d2,d3,d4⟩))) []:=by
 refine bL ht (aI:=[]) Tryz.func149 rfl rfl (N:=42) rfl rfl (n:=0) rfl rfl ?_
 cbv
 have av:es.length=l.length:=by rw [aA,lgM]
 obtain ⟨J0,fI⟩:∃J0:Nat→Int×Bool×Int×Int×Int×Int×Int→Prop,∀n A K i a b c d,J0 n (A,K,i,a,b,c,d)↔(∃(k:Nat) (B:Ch),i=k∧k+n=l.length∧A=B.at_∧K=B.ok∧a=B.left.a∧b=B.left.b∧c=B.left.c∧d=B.left.d∧best l ⟨d1,d2,d3,d4⟩=lG ⟨d1,d2,d3,d4⟩ (l.drop k) k B):=⟨fun n v=>match v with|(A,K,i,a,b,c,d)=>(∃(k:Nat) (B:Ch),i=k∧k+n=l.length∧A=B.at_∧K=B.ok∧a=B.left.a∧b=B.left.b∧c=B.left.c∧d=B.left.d∧best l ⟨d1,d2,d3,d4⟩=lG ⟨d1,d2,d3,d4⟩ (l.drop k) k B),fun _ _ _ _ _ _ _ _=>Iff.rfl⟩
 refine bI ⟨[0,3,4,5,6,11,12],[],[]⟩ (σ:=Int×Bool×Int×Int×Int×Int×Int) (fun v=>[(4,.d (.int .i64 (t _ fun _=>v.1))),(6,.d (.bool (t _ fun _=>v.2.1))),(12,.d (.int .i64 (t _ fun _=>v.2.2.1)))]) (fun v=>[(1,.var [.d (.int .u64 (t _ fun _=>v.2.2.2.1)),.d (.int .u64 (t _ fun _=>v.2.2.2.2.1)),.d (.int .u64 (t _ fun _=>v.2.2.2.2.2.1)),.d (.int .u64 (t _ fun _=>v.2.2.2.2.2.2))])]) J0 ?_
 cbv
 refine aC ⟨l.length,(_,_,_,_,_,_,_),(fI _ _ _ _ _ _ _ _).2 ?_,by simp only [ht];rfl,?_⟩
 ·exact ⟨0,⟨0,bM.zero,false⟩,rfl,by simp,rfl,rfl,rfl,rfl,rfl,rfl,rfl⟩
 rintro n ⟨A,K,i,a,b,c,d⟩ hj
 replace hj:=(fI _ _ _ _ _ _ _ _).1 hj
 obtain ⟨k,⟨q1,⟨q2,q3,q4,q5⟩,q6⟩,rfl,j1,rfl,rfl,rfl,rfl,rfl,rfl,j4⟩:=hj
 cbv
 refine an (fun h1=>?_) (fun h1=>?_)
 ·simp [ht,aa,av] at h1
  cbv
  refine tn [0,1] [0,1,7,8,9] [false,false,false,false,false,false,false,false,false,false,false,true,true] (by kernel_rfl) (by kernel_rfl) (by kernel_rfl) (by kernel_rfl) (by kernel_rfl) (by kernel_rfl) ?_
  cbv
  iterate 2 refine gI (by simp) ?_
  refine jZ ht aA (cT:=bO.bC t) (by (simp only [ht,aa];omega)) (by (simp only [ht,aa];omega)) (fun _=>rfl) (fun _=>(by (simp only [ht,bO.bC];rfl))) (fun x2 nj=>?_)
  simp [ht,aa] at nj
  rw [gu nj,lG] at j4
  cbv
  iterate 3 refine gI (by simp) ?_
  refine .inl ?_
  refine cY (fun g3=>⟨trv,trv,PX ht _ _ _ _ _ _ _ _⟩) rfl rfl (fun r4 eK=>?_)
  simp only [ht] at eK
  cbv
  iterate 6 refine gI (by simp) ?_
  iterate 2 refine gI (by simp [ht]) ?_
  refine cY (fun g5=>⟨by simp [ht] at g5 ⊢;exact g5,trv,KJ ht _ _ _ _ _ _ _ _⟩) rfl rfl (fun r6 mG=>?_)
  simp only [ht] at mG
  cbv
  refine gI (by simp [ht]) ?_
  refine gI (by simp [ht,ah];intros;simp_all) ?_
  refine pI (by simp) ?_
  refine an (fun h7=>?_) (fun h7=>?_)
  ·simp [ht] at h7
   cbv
   refine c7 [false,false,false,true,true] (by kernel_rfl) (by kernel_rfl) ?_
   cbv
   iterate 3 refine gI (by simp) ?_
   refine cL (_,_,_,_,_,_,_) (by simp only [ht];rfl) (n-1) ?_ ((fI _ _ _ _ _ _ _ _).2 ?_)
   ·omega
   simp only [aa]
   first|exact ⟨k+1,⟨k,_,true⟩,aD (by omega),by omega,rfl,rfl,rfl,rfl,rfl,rfl,by rw [j4];congr 1;simp_all⟩|exact ⟨k+1,⟨q1,⟨a,b,c,d⟩,K⟩,aD (by ((try simp only [aa] at*);omega)),by ((try simp only [aa] at*);omega),rfl,rfl,rfl,rfl,rfl,rfl,by rw [j4,IZ (B:=⟨q1,⟨a,b,c,d⟩,K⟩) eK mG h7]⟩
  simp [ht] at h7
  cbv
  refine cL (_,_,_,_,_,_,_) (by simp only [ht];rfl) (n-1) ?_ ((fI _ _ _ _ _ _ _ _).2 ?_)
  ·omega
  simp only [aa]
  first|exact ⟨k+1,⟨k,_,true⟩,aD (by omega),by omega,rfl,rfl,rfl,rfl,rfl,rfl,by rw [j4];congr 1;simp_all⟩|exact ⟨k+1,⟨q1,⟨a,b,c,d⟩,K⟩,aD (by omega),by omega,rfl,rfl,rfl,rfl,rfl,rfl,by rw [j4,IZ (B:=⟨q1,⟨a,b,c,d⟩,K⟩) eK mG h7]⟩
 simp [ht,aa,av] at h1
 cbv
 refine Ea [0,2] [false,false,false,false,true,true] (by kernel_rfl) (by kernel_rfl) (by kernel_rfl) (by kernel_rfl) (by kernel_rfl) ?_
 cbv
 iterate 4 refine gI (by simp) ?_
 refine ax trv trv rfl rfl rfl ?_
 (rw [List.drop_eq_nil_of_le (by omega),lG] at j4;simp only [ht,j4];rfl)
theorem Fi {v:bM} {n:Nat} {l:List bO} {out:List aQ} (h:0<n):rM v n l out=if !(best l v).ok then ([],false) else
 rM v (n-1) (l.set (best l v).at_ {l.getD (best l v).at_ default with free:=(best l v).left}) (out++[(l.getD (best l v).at_ default).node]):=by
 obtain ⟨n',rfl⟩:∃n',n=n'+1:=⟨n-1,by omega⟩
 rfl
theorem Fj {v:bM}:∀(l:List bO) (k:Nat) (b:Ch),(b.ok=true→b.at_<k)→(lG v l k b).ok=true→(lG v l k b).at_<k+l.length
 |[],k,b,h,g=>h g
 |s::r,k,b,h,g=>by
  rw [lG] at g ⊢
  have:=Fj r (k+1) _ (by
   intro g2
   split
   ·show k<k+1;omega
   rename_i hh;rw [if_neg hh] at g2;have:=h g2;omega) g
  simp only [List.length_cons];omega
theorem P4 {v:bM} {l:List bO} (h:(best l v).ok=true):(best l v).at_<l.length:=by
 have:=Fj l 0 _ (by simp) h
 simpa [best] using this
theorem I1 {l:List bO} {x:List Term} {v:bM} {c:Int} (h:8<c):fit l x v c=([],false):=by rw [fit,if_pos h]
theorem CK {l L:List bO} {x:List Term} {v:bM} {c:Int} {m:Nat} (h:c≤8) (hm:(m:Int)=max c 0) (hL:L=fitting l x):fit l x v c=rM v m L []:=by
 rw [fit,if_neg (by omega),hL];congr 1;omega
theorem NF {cur:List bO} {y:bO} {i:Nat} {u:List (List D)} (ju:u=cur.map bO.cells) (hy:cur[i]?=some y) (v:bM):
 u.set i (be (u.getD i []) 1 [.int .u64 v.a,.int .u64 v.b,.int .u64 v.c,.int .u64 v.d])=(cur.set i {y with free:=v}).map bO.cells:=by
 rw [List.map_set,ju];congr 1
 simp [List.getD_eq_getElem?_getD,hy,bO.cells,be]
def qD (t:Th) (r:List aQ×Bool):AV:=.dL [SL (t _ fun _=>r.1.map bg),BL r.2]
theorem P5 (ht:TT t) (d1 d2 d3 d4 c:Int) {l:List bO} {es:List (List D)} (aA:es=l.map bO.cells) (hl:l.length<1000000) (hlb:∀s∈l,s.labels.length<1000000000) {x:List Term} {xr:List (List D)} (CI:xr=x.map Term.cells) (hx:x.length<1000000000) (CY:∀m∈x,m.lS.length<1000000000)
 (h0:fitting l x≠[]):FC 95 [SL es,SL xr,V4 d1 d2 d3 d4,bG c] [] (.ret (qD t (t _ fun _=>fit l x ⟨d1,d2,d3,d4⟩ c))) []:=by
 obtain ⟨L,hL⟩:∃L,L=fitting l x:=⟨_,rfl⟩
 have FL:L.length<1000000:=by rw [hL];exact Nat.lt_of_le_of_lt (List.length_filter_le _ _) hl
 obtain ⟨r,hr⟩:∃r,r=L.map bO.cells:=⟨_,rfl⟩
 obtain ⟨k,hk⟩:∃k,k=r.length:=⟨_,rfl⟩
 have Yw:k=L.length:=by rw [hk,hr,lgM]
 have hk0:0<k:=by rw [Yw,hL];exact List.length_pos_iff.2 h0
 obtain ⟨m,hm⟩:∃m:Nat,(m:Int)=max c 0:=⟨(max c 0).toNat,by omega⟩
 refine bL ht (aI:=[]) Tryz.func95 rfl rfl (N:=47) rfl rfl (n:=0) rfl rfl ?_
 cbv
 have av:es.length=l.length:=by rw [aA,lgM]
 have Ho:xr.length=x.length:=by rw [CI,lgM]
 have Fk:r.length=L.length:=by rw [hr,lgM]
 refine an (fun h0=>?_) (fun h0=>?_)
 ·simp [ht] at h0
  cbv
  refine ax trv trv rfl rfl rfl ?_
  (simp only [ht];rw [I1 ‹_›];rfl)
 simp [ht] at h0
 cbv
 (refine jg trv (KL ht aA hl hlb CI hx CY (hL▸hr) hk hk0) trv rfl (.inr rfl) ?_)
 cbv
 obtain ⟨J1,pF⟩:∃J1:Nat→List (List D)×Int×List (List D)→Prop,∀n o i u,J1 n (o,i,u)↔(∃(q:Nat) (cur:List bO) (out:List aQ),i=q∧q+n=m∧u=cur.map bO.cells∧o=out.map bg∧cur.length=k∧out.length=q∧rM ⟨d1,d2,d3,d4⟩ m L []=rM ⟨d1,d2,d3,d4⟩ n cur out):=⟨fun n v=>match v with|(o,i,u)=>(∃(q:Nat) (cur:List bO) (out:List aQ),i=q∧q+n=m∧u=cur.map bO.cells∧o=out.map bg∧cur.length=k∧out.length=q∧rM ⟨d1,d2,d3,d4⟩ m L []=rM ⟨d1,d2,d3,d4⟩ n cur out),fun _ _ _ _=>Iff.rfl⟩
 refine bI ⟨[0,6,10,20,21],[(10,1)],[]⟩ (σ:=List (List D)×Int×List (List D)) (fun v=>[(10,.ow 2 1 (t _ fun _=>(v.1).length)),(21,.d (.int .i64 (t _ fun _=>v.2.1)))]) (fun v=>[(2,.row 1 (t _ fun _=>v.1)),(0,.row 6 (t _ fun _=>v.2.2))]) J1 ?_
 cbv
 refine aC ⟨m,([],_,_),(pF _ _ _ _).2 ?_,by simp only [ht];rfl,?_⟩
 ·exact ⟨0,L,[],rfl,by simp,hr,rfl,Yw.symm,rfl,rfl⟩
 rintro n ⟨o,i,u⟩ hj
 replace hj:=(pF _ _ _ _).1 hj
 obtain ⟨q,cur,out,rfl,j1,ju,jo,j2,j3,j4⟩:=hj
 have v8:u.length=cur.length:=by rw [ju,lgM]
 have US:o.length=out.length:=by rw [jo,lgM]
 cbv
 refine an (fun h2=>?_) (fun h2=>?_)
 ·simp [ht,aa] at h2
  cbv
  (refine aZ trv (I0 ht _ _ _ _ (l:=cur) (by simp only [ht];exact ju) (by omega)) (by simp only [ht];exact ⟨by rw [ju,lgM];exact j2.symm,trv⟩) rfl rfl (fun rb Rc=>?_);simp only [ht] at Rc;rw [Fi (show 0<n by ((try simp only [aa] at*);omega)),←Rc] at j4;have hlt:rb.ok=true→rb.at_<cur.length:=fun g=>by rw [Rc] at g ⊢;exact P4 g)
  cbv
  refine an (fun h3=>?_) (fun h3=>?_)
  ·simp [ht] at h3
   cbv
   refine ax trv trv rfl rfl rfl ?_
   (simp only [ht];rw [CK ‹_› hm hL,j4,h3];rfl)
  simp [ht] at h3
  cbv
  refine ⟨?_,?_⟩
  ·(simp only [ht];have U5:rb.at_<cur.length:=hlt ‹_›;exact ⟨Int.natCast_nonneg _,by rw [←j2];exact Int.ofNat_lt.2 U5⟩)
  cbv
  (have Xd:=hlt ‹_›;obtain ⟨y,hy⟩:∃y,cur[rb.at_]?=some y:=⟨_,List.getElem?_eq_getElem Xd⟩;have ZC:cur.getD rb.at_ default=y:=(by simp [List.getD_eq_getElem?_getD,hy]);rw [ZC] at j4;refine Ph (bO.bC t y) (by simp only [ht];rw [ju,lgM];exact Xd) (by simp only [ht];rw [ju];simp [List.getD_eq_getElem?_getD,hy,bO.cells,bO.bC,ht]) ?_)
  cbv
  refine ⟨?_,?_⟩
  ·(simp only [ht];grind)
  refine ⟨?_,?_⟩
  ·(simp only [ht];have U5:rb.at_<cur.length:=hlt ‹_›;exact ⟨Int.natCast_nonneg _,by rw [←j2];exact Int.ofNat_lt.2 U5⟩)
  refine ⟨?_,?_⟩
  ·(simp only [ht];rw [ju,lgM];refine ⟨Xd,?_⟩;simp [List.getD_eq_getElem?_getD,hy,bO.cells];done)
  cbv
  refine cL (_,_,_) (by simp only [ht,←List.length_append];rfl) (n-1) ?_ ((pF _ _ _ _).2 ?_)
  ·((try simp only [aa] at*);omega)
  simp only [aa]
  (exact ⟨q+1,cur.set rb.at_ {y with free:=rb.left},out++[y.node],aD (by ((try simp only [aa] at*);omega)),by ((try simp only [aa] at*);omega),NF ju hy _,by simp [jo],by simp [j2],by simp [j3],by rw [j4,h3];rfl⟩)
 simp [ht,aa] at h2
 cbv
 refine ax trv (by simp [ht]) rfl rfl rfl ?_
 (simp only [ht];rw [CK ‹_› hm hL,j4,show n=0 by ((try simp only [aa] at*);omega)];simp [rM,jo];done)
theorem P6 (ht:TT t) (d1 d2 d3 d4 c:Int) {l:List bO} {es:List (List D)} (aA:es=l.map bO.cells) (hl:l.length<1000000) (hlb:∀s∈l,s.labels.length<1000000000) {x:List Term} {xr:List (List D)} (CI:xr=x.map Term.cells) (hx:x.length<1000000000) (CY:∀m∈x,m.lS.length<1000000000)
 (h9:fitting l x=[]):FC 95 [SL es,SL xr,V4 d1 d2 d3 d4,bG c] [] (.ret (qD t (t _ fun _=>fit l x ⟨d1,d2,d3,d4⟩ c))) []:=by
 obtain ⟨m,hm⟩:∃m:Nat,(m:Int)=max c 0:=⟨(max c 0).toNat,by omega⟩
 refine bL ht (aI:=[]) Tryz.func95 rfl rfl (N:=47) rfl rfl (n:=0) rfl rfl ?_
 cbv
 have av:es.length=l.length:=by rw [aA,lgM]
 have Ho:xr.length=x.length:=by rw [CI,lgM]
 refine an (fun h0=>?_) (fun h0=>?_)
 ·simp [ht] at h0
  cbv
  refine ax trv trv rfl rfl rfl ?_
  (simp only [ht];rw [I1 ‹_›];rfl)
 simp [ht] at h0
 cbv
 (refine o4 trv (Hs ht aA hl hlb CI hx CY h9) trv rfl rfl rfl ?_)
 cbv
 obtain ⟨J1,pF⟩:∃J1:Nat→List (List D)×Int→Prop,∀n o i,J1 n (o,i)↔(i=0∧n=m∧o=[]):=⟨fun n v=>match v with|(o,i)=>(i=0∧n=m∧o=[]),fun _ _ _=>Iff.rfl⟩
 refine bI ⟨[0,6,10,20,21],[(10,1)],[]⟩ (σ:=List (List D)×Int) (fun v=>[(10,.ow 1 1 (t _ fun _=>(v.1).length)),(21,.d (.int .i64 (t _ fun _=>v.2)))]) (fun v=>[(1,.row 1 (t _ fun _=>v.1))]) J1 ?_
 cbv
 refine aC ⟨m,([],_),(pF _ _ _).2 ?_,by simp only [ht];rfl,?_⟩
 ·exact ⟨rfl,rfl,rfl⟩
 rintro n ⟨o,i⟩ hj
 replace hj:=(pF _ _ _).1 hj
 obtain ⟨rfl,j1,rfl⟩:=hj
 cbv
 refine an (fun h2=>?_) (fun h2=>?_)
 ·simp [ht] at h2
  cbv
  (refine aZ trv (I0 ht _ _ _ _ (l:=[]) rfl (by simp)) (by simp) rfl rfl (fun rb Rc=>?_);simp only [ht] at Rc;replace Rc:rb=⟨0,bM.zero,false⟩:=Rc;subst Rc)
  cbv
  refine an (fun h3=>?_) (fun h3=>?_)
  ·simp [ht] at h3
   cbv
   refine ax trv trv rfl rfl rfl ?_
   (simp only [ht];rw [CK ‹_› hm h9.symm,Fi (show 0<m by ((try simp only [aa] at*);omega))];rfl)
  simp [ht] at h3
 simp [ht] at h2
 cbv
 refine ax trv (by simp [ht]) rfl rfl rfl ?_
 (simp only [ht];rw [CK ‹_› hm h9.symm,show m=0 by ((try simp only [aa] at*);omega)];rfl)
theorem zq (ht:TT t) (d1 d2 d3 d4 c:Int) {l:List bO} {es:List (List D)} (aA:es=l.map bO.cells) (hl:l.length<1000000) (hlb:∀s∈l,s.labels.length<1000000000) {x:List Term} {xr:List (List D)} (CI:xr=x.map Term.cells) (hx:x.length<1000000000) (CY:∀m∈x,m.lS.length<1000000000):
 FC 95 [SL es,SL xr,V4 d1 d2 d3 d4,bG c] [] (.ret (qD t (t _ fun _=>fit l x ⟨d1,d2,d3,d4⟩ c))) []:=by
 by_cases h9:fitting l x=[]
 ·exact P6 ht d1 d2 d3 d4 c aA hl hlb CI hx CY h9
 exact P5 ht d1 d2 d3 d4 c aA hl hlb CI hx CY h9
theorem I2 (ht:TT t) (bS:Int) {l:List Node} {ps:List Place} {es qs:List (List D)} (aA:es=l.map Node.cells) (eU:qs=ps.map Place.cells) (hl:ps.length<1000000):
 FC 108 [.agg [SL es,SL qs],az bS] [] (.ret (o7 t (t _ fun _=>pi ⟨l,ps⟩ bS))) []:=by
 simp only [ht,o7,pi];rw [←aA];exact GY ht bS eU hl rfl
theorem I3 (ht:TT t) (rd nx ef af:Int) {nl:List Node} {pl:List Place} {tl:List bu} {jl:List Jb} {ql:List cR} {el al:List eI} {ns ps ts js qs es cQ:List (List D)} (fC:ns=nl.map Node.cells) (hps:ps=pl.map Place.cells) (hts:ts=tl.map bu.cells) (eZ:js=jl.map Jb.cells) (eU:qs=ql.map cR.cells) (aA:es=el.map eI.cells) (has:cQ=al.map eI.cells) (ji ja jb jc jd jn jp jt jf:Int) (jq:aQ) (jr:Bool) {m8:List Term} {CL:List (List D)} (wJ:CL=m8.map Term.cells) {z:Int} {k:Nat} (hz:z=k) (hk:k<jl.length) (hjl:jl.length<1000000):
 FC 79 [.agg [az rd,az nx,SL ns,SL ps,SL ts,SL js,SL qs,az ef,SL es,az af,SL cQ],bG z,.agg [az ji,ST jq,az ja,az jb,az jc,az jd,bG jn,bG jp,bG jt,SL CL,BL jr,bG jf]] [] (.ret (fL t (t _ fun _=>A4 ⟨rd,nx,⟨nl,pl⟩,tl,jl,ql,⟨ef,el⟩,⟨af,al⟩⟩ k ⟨ji,⟨jq,⟨ja,jb,jc,jd⟩,jn,jp,jt,m8⟩,jr,jf⟩))) []:=by
 refine bL ht (aI:=[]) Tryz.func79 rfl rfl (N:=17) rfl rfl (n:=0) rfl rfl ?_
 cbv
 have aU:ns.length=nl.length:=by rw [fC,lgM]
 have aW:ps.length=pl.length:=by rw [hps,lgM]
 have aV:ts.length=tl.length:=by rw [hts,lgM]
 have aX:js.length=jl.length:=by rw [eZ,lgM]
 have aK:qs.length=ql.length:=by rw [eU,lgM]
 have av:es.length=el.length:=by rw [aA,lgM]
 have aJ:cQ.length=al.length:=by rw [has,lgM]
 have CM:CL.length=m8.length:=by rw [wJ,lgM]
 refine jg trv (pJ ht ‹_› ‹_›) trv rfl (.inr rfl) ?_
 cbv
 refine ⟨?_,?_⟩
 ·(simp [*];done)
 refine ⟨?_,?_⟩
 ·(simp [Jb.cells, *];done)
 cbv
 refine ax trv (by simp [ht]) rfl rfl rfl ?_
 (simp [A4,Jb.cells,List.map_set,be, *];done)
theorem Fl (ht:TT t) (rd nx ef af:Int) {nl:List Node} {pl:List Place} {tl:List bu} {jl:List Jb} {ql:List cR} {el al:List eI} {ns ps ts js qs es cQ:List (List D)} (fC:ns=nl.map Node.cells) (hps:ps=pl.map Place.cells) (hts:ts=tl.map bu.cells) (eZ:js=jl.map Jb.cells) (eU:qs=ql.map cR.cells) (aA:es=el.map eI.cells) (has:cQ=al.map eI.cells) (ji ja jb jc jd jn jp jt jf:Int) (jq:aQ) (jr:Bool) {m8:List Term} {CL:List (List D)} (wJ:CL=m8.map Term.cells) (hu:(⟨ja,jb,jc,jd⟩:bM).u') (hjq:jq.length<1000000000000) (htl:tl.length<100000) (Ge:pl.length<1000000):
 FC 62 [.agg [az rd,az nx,SL ns,SL ps,SL ts,SL js,SL qs,az ef,SL es,az af,SL cQ],.agg [az ji,ST jq,az ja,az jb,az jc,az jd,bG jn,bG jp,bG jt,SL CL,BL jr,bG jf]] [] (.ret (fL t (t _ fun _=>mj ⟨rd,nx,⟨nl,pl⟩,tl,jl,ql,⟨ef,el⟩,⟨af,al⟩⟩ ⟨ji,⟨jq,⟨ja,jb,jc,jd⟩,jn,jp,jt,m8⟩,jr,jf⟩))) []:=by
 obtain ⟨⟨⟨v1,v2,v3,v4⟩,vk⟩,hv⟩:∃r,r=dR ⟨jq,⟨ja,jb,jc,jd⟩,jn,jp,jt,m8⟩:=⟨_,rfl⟩
 obtain ⟨⟨t9,e9⟩,h9⟩:∃r,r=qj tl jq ⟨v1,v2,v3,v4⟩:=⟨_,rfl⟩
 have hF:mj ⟨rd,nx,⟨nl,pl⟩,tl,jl,ql,⟨ef,el⟩,⟨af,al⟩⟩ ⟨ji,⟨jq,⟨ja,jb,jc,jd⟩,jn,jp,jt,m8⟩,jr,jf⟩=⟨rd,nx,pi ⟨nl,pl⟩ ji,(if vk then t9 else tl),jl,ql,⟨ef,el⟩,⟨af,al⟩⟩:=by
  simp only [mj,←hv,←h9]
 rw [hF]
 refine bL ht (aI:=[]) Tryz.func62 rfl rfl (N:=32) rfl rfl (n:=0) rfl rfl ?_
 cbv
 have aU:ns.length=nl.length:=by rw [fC,lgM]
 have aW:ps.length=pl.length:=by rw [hps,lgM]
 have aV:ts.length=tl.length:=by rw [hts,lgM]
 have aX:js.length=jl.length:=by rw [eZ,lgM]
 have aK:qs.length=ql.length:=by rw [eU,lgM]
 have av:es.length=el.length:=by rw [aA,lgM]
 have aJ:cQ.length=al.length:=by rw [has,lgM]
 have CM:CL.length=m8.length:=by rw [wJ,lgM]
 (refine aZ trv (qt ht jq ja jb jc jd jn jp jt (sl:=m8) CL hu) trv rfl rfl (fun r9 j8=>?_);simp only [ht] at j8;rw [←hv] at j8;subst j8)
 cbv
 refine an (fun h0=>?_) (fun h0=>?_)
 ·cbv
  refine aB trv (G7 ht _ _ _ _ _ ‹_› ‹_› ‹_›) trv rfl rfl rfl (fun r1 dM=>?_)
  simp only [ht] at dM
  rw [←h9] at dM
  subst r1
  cbv
  refine aB trv (I2 ht _ ‹_› ‹_› ‹_›) trv rfl rfl rfl (fun r2 fh=>?_)
  simp only [ht] at fh
  cbv
  refine ax trv trv rfl rfl rfl ?_
  (subst fh;simp [*];done)
 cbv
 refine aB trv (I2 ht _ ‹_› ‹_› ‹_›) trv rfl rfl rfl (fun r3 ku=>?_)
 simp only [ht] at ku
 cbv
 refine ax trv trv rfl rfl rfl ?_
 (simp [*];done)
theorem CN (ht:TT t) {es:List (List D)} {i m c:Nat} (hm:m=es.length) (hi:i<m) (hc:m≤c) (aA:∀r∈es,r.length=12) (hs:m<1000000) {r:List (List D)} (hr:r=es.take i++es.drop (i+1)):
 FC 64 [.vw 0 12 0 m c true,bG (i:Int),bG ((i+1:Nat):Int)] [.row 12 es] (.ret (SL r)) [.dead]:=by
 obtain ⟨i1,hi1⟩:∃i1,i1=i+1:=⟨_,rfl⟩
 rw [←hi1] at hr ⊢
 refine bL ht (aI:=[.row 12 es]) Tryz.func64 rfl rfl (N:=33) rfl rfl (n:=1) rfl rfl ?_
 cbv
 obtain ⟨mi,vM⟩:∃n,n=m-i:=⟨_,rfl⟩
 obtain ⟨P7,Su⟩:∃n,n=m-i1:=⟨_,rfl⟩
 obtain ⟨uN,GV⟩:∃n,n=c-i1:=⟨_,rfl⟩
 refine bE (.vw 0 12 i 1 mi true) [.row 12 es] ?_ ?_ rfl ?_
 ·simp [ht,aa,bJ];omega
 ·simp [ht,aa,aS,vM,hi1]
 cbv
 refine mU (by simp [ht,hi1];omega) ?_
 cbv
 refine c7 [false,false,false,false,false,false,true,true] (by kernel_rfl) (by kernel_rfl) ?_
 cbv
 refine gI (by simp) (gI (by simp) ?_)
 refine gE (.vw 0 12 0 i c true) (fun _=>⟨?_,?_⟩) ?_
 ·simp [ht,dF,bJ];omega
 ·simp [ht,aS,aM]
 cbv
 refine gI (by simp) (gI (by simp) ?_)
 refine gE (.vw 0 12 i1 P7 uN true) (fun _=>⟨?_,?_⟩) ?_
 ·simp [ht,dF,bJ];omega
 ·simp [ht,aS,aM,Su,GV]
 cbv
 obtain ⟨m1,VK⟩:∃n,n=m-1:=⟨_,rfl⟩
 obtain ⟨Xe,Sv⟩:∃n,n=c-m1:=⟨_,rfl⟩
 obtain ⟨R1,NG⟩:∃R,R=wrote es i (es.drop i1):=⟨_,rfl⟩
 have tk:(es.drop i1).take P7=es.drop i1:=List.take_of_length_le (by rw [List.length_drop];omega)
 have dl:(es.drop i1).length=P7:=by rw [List.length_drop];omega
 have uQ:R1.length=m:=by rw [NG];simp [wrote];omega
 have Sw:R1.take m1=r:=by
  rw [NG,hr]
  unfold wrote
  rw [List.take_append_of_le_length (by simp;omega),List.take_of_length_le (by simp;omega)]
 refine bE (.vw 0 12 0 m1 c true) [.row 12 R1,.bt] ?_ ?_ ?_ ?_
 ·simp only [ht,tk,dl,eB,Nat.zero_add]
  exact ⟨by omega,⟨by omega,fun h=>by rw [h] at hm;simp at hm;omega⟩,by omega,fun r h=>aA r (List.mem_of_mem_drop h)⟩
 ·simp only [ht,tk,dl];rw [show i+P7=m1 by omega]
 ·simp only [ht,tk,Nat.zero_add,NG]
 cbv
 refine bE (.vw 0 12 m1 1 Xe true) [.row 12 R1,.bt] ?_ ?_ rfl ?_
 ·simp [ht,aa,dF,bJ];omega
 ·simp [ht,aa,aS,aM,Sv];omega
 cbv
 obtain ⟨R2,NH⟩:∃R,R=wrote R1 m1 (List.replicate 1 [D.int IntKind.u64 0,D.str [],D.int IntKind.u64 0,D.int IntKind.u64 0,D.int IntKind.u64 0,D.int IntKind.u64 0,D.int IntKind.i64 0,D.int IntKind.i64 0,D.int IntKind.i64 0,D.sl [],D.bool false,D.int IntKind.i64 0]):=⟨_,rfl⟩
 have U6:R2.length=m:=by rw [NH];simp [wrote,uQ];omega
 have Sx:R2.take m1=r:=by
  rw [←Sw,NH]
  unfold wrote
  rw [List.append_assoc,List.take_append_of_le_length (by simp [uQ];omega),List.take_take,Nat.min_self]
 refine bE (.dL []) [.row 12 R2,.bt] ?_ rfl ?_ ?_
 ·simp only [ht,eB];exact ⟨by omega,fun h=>by rw [h] at uQ;simp at uQ;omega⟩
 ·simp only [ht,NH]
 cbv
 refine wG [true] trv ?_ rfl rfl rfl ?_
 ·simp only [ht];omega
 simp only [ht,List.drop_zero,Sx]
theorem tW (ht:TT t) {l:List Jb} {i:Nat} {z z1:Int} (hz:z=i) (hz1:z1=(i:Int)+1) (hi:i<l.length) (hs:l.length<1000000):
 FC 64 [.ow 0 12 (t _ fun _=>(l.map Jb.cells).length),bG z,bG z1] [.row 12 (t _ fun _=>l.map Jb.cells)] (.ret (SL (t _ fun _=>(l.eraseIdx i).map Jb.cells))) [.dead]:=by
 simp only [ht]
 have e1:z1=((i+1:Nat):Int):=by omega
 subst hz
 rw [e1]
 refine dK (fun c hc hc0=>CN ht (es:=l.map Jb.cells) (i:=i) rfl (by simpa using hi) hc ?_ (by simpa using hs) ?_)
 ·intro r hr;obtain ⟨y,_,rfl⟩:=List.mem_map.1 hr;rfl
 rw [List.eraseIdx_eq_take_drop_succ,List.map_append,List.map_take,List.map_drop]
end Dem
end
