/- Parts of a proof, joined. -/
import Derived.Test.YtihohjnkkalgiaaGreatDoorQ18
set_option linter.all false
set_option maxRecDepth 100000
set_option maxHeartbeats 4000000
section
open Go Dem Go.Proofs
namespace Dem
variable {t:Th}
def P9 (r:bw×Int):AV:=.dX [XD r.1,bJ r.2]
theorem SP (ht:TT t) (a0 a1 a2 a3 b0 b1 b2 b3:Int):FC 170 [V4 a0 a1 a2 a3,V4 b0 b1 b2 b3] [] (.ret (Xs (t _ fun _=>dV ⟨a0,a1,a2,a3⟩ ⟨b0,b1,b2,b3⟩))) []:=by
 simp only [ht];exact Eh ht _ _ _ _ _ _ _ _ rfl
theorem JF (ht:TT t) (v1 v2 v3 v4:Int) (p:aQ) (a b c d e f g h:Int):
 FC 105 [V4 v1 v2 v3 v4,.agg [ST p,aD a,aD b,aD c,aD d,aD e,aD f,aD g,aD h]] [] (.ret (P9 (t _ fun _=>fJ ⟨v1,v2,v3,v4⟩ ⟨p,⟨a,b,c,d⟩,⟨e,f,g,h⟩⟩))) []:=by
 obtain ⟨⟨⟨s1,s2,s3,s4⟩,k⟩,hS⟩:∃r,r=jR ⟨e,f,g,h⟩ ⟨v1,v2,v3,v4⟩:=⟨_,rfl⟩
 refine bP ht (aV:=[]) Tryz.func105 rfl rfl (N:=28) rfl rfl (n:=0) rfl rfl ?_
 cbv
 refine gM trv (U7 ht _ _ _ _ _ _ _ _ ‹_›) trv rfl rfl ?_
 cbv
 refine ap (fun h0=>?_) (fun h0=>?_)
 ·simp [ht] at h0
  cbv
  refine aA trv trv rfl rfl rfl ?_
  (simp only [ht,fJ,←hS];simp_all;done)
 simp [ht] at h0
 cbv
 refine bq trv (ve ht _ _ _ _ _ _ _ _) trv rfl rfl (fun r1 cP=>?_)
 simp only [ht] at cP
 cbv
 refine ap (fun h2=>?_) (fun h2=>?_)
 ·simp [ht] at h2
  cbv
  refine aA trv trv rfl rfl rfl ?_
  (simp only [ht,fJ,←hS];simp_all;done)
 simp [ht] at h2
 cbv
 refine aA trv trv rfl rfl rfl ?_
 (simp only [ht,fJ,←hS];simp_all;done)
theorem JG (ht:TT t) (v1 v2 v3 v4:Int) (p:aQ) (a b c d e f g h:Int):
 FC 159 [V4 v1 v2 v3 v4,.agg [ST p,aD a,aD b,aD c,aD d,aD e,aD f,aD g,aD h]] [] (.ret (P9 (t _ fun _=>eE ⟨v1,v2,v3,v4⟩ ⟨p,⟨a,b,c,d⟩,⟨e,f,g,h⟩⟩))) []:=by
 obtain ⟨⟨⟨s1,s2,s3,s4⟩,k⟩,hS⟩:∃r,r=dV ⟨e,f,g,h⟩ ⟨v1,v2,v3,v4⟩:=⟨_,rfl⟩
 refine bP ht (aV:=[]) Tryz.func159 rfl rfl (N:=22) rfl rfl (n:=0) rfl rfl ?_
 cbv
 refine gM trv (Eh ht _ _ _ _ _ _ _ _ ‹_›) trv rfl rfl ?_
 cbv
 refine ap (fun h0=>?_) (fun h0=>?_)
 ·simp [ht] at h0
  cbv
  refine aA trv trv rfl rfl rfl ?_
  (simp only [ht,eE,←hS];simp_all;done)
 simp [ht] at h0
 cbv
 refine aA trv trv rfl rfl rfl ?_
 (simp only [ht,eE,←hS];simp_all;done)
theorem SQ (ht:TT t) (q:aQ) {l:List bw} {es:List (List D)} (aG:es=l.map bw.cells) (hl:l.length<1000000000) {r:Bool} (hr:r=decide (bY l q<0)):
 FC 157 [ST q,.ptr 0 0] [.var [SL es]] (.ret (BL r)) [.var [SL es]]:=by
 refine bP ht (aV:=[.var [SL es]]) Tryz.func157 rfl rfl (N:=8) rfl rfl (n:=1) rfl rfl ?_
 cbv
 have az:es.length=l.length:=by rw [aG,lgM]
 refine bq trv (lH ht _ ‹_› ‹_›) trv rfl rfl (fun r0 c7=>?_)
 simp only [ht] at c7
 cbv
 refine aA trv trv rfl rfl rfl ?_
 (simp [*];done)
theorem MZ (ht:TT t) (ts:List (List D)) {l:List (aQ)} {es:List (List D)} (aG:es=l.map bE) (f:Nat) (p:aQ→Bool) (hl:l.length<9223372036854775807)
 (hf:∀x∈l,FC f [.d (.str x),.ptr 0 0] [.var [SL ts]] (.ret (BL (p x))) [.var [SL ts]]) {r:Int} (hr:r=idxOf p l):FC 199 [SL es,.fn f [.ptr 0 0]] [.var [SL ts]] (.ret (bJ r)) [.var [SL ts]]:=by
 have hel:es.length=l.length:=by rw [aG,lgM]
 obtain ⟨J,hJ⟩:∃J:Nat→Nat→Prop,∀n v,J n v↔(v+n=l.length∧∀i<v,∀x,l[i]?=some x→p x=false):=⟨fun n v=>v+n=l.length∧∀i<v,∀x,l[i]?=some x→p x=false,fun _ _=>Iff.rfl⟩
 refine bP ht (aV:=[.var [SL ts]]) Tryz.func199 rfl rfl (N:=19) rfl rfl (n:=1) rfl rfl ?_
 cbv
 refine bM ⟨[0,1,7,8],[],[]⟩ (σ:=Nat) (fun k=>[(8,bJ (t _ fun _=>(k:Int)))]) (fun _=>[]) J ?_
 cbv
 refine aJ ⟨l.length,0,(hJ _ _).2 ⟨by omega,by intro i hi;simp at hi⟩,by simp only [ht];rfl,?_⟩
 rintro n k hj
 obtain ⟨h2,h3⟩:=(hJ _ _).1 hj
 clear hj
 cbv
 refine ap (fun h=>?_) (fun h=>?_)
 ·simp only [ht,ah,decide_eq_true_eq] at h
  have hk:k<l.length:=by omega
  obtain ⟨x,hx⟩:∃x,l[k]?=some x:=⟨l[k],by simp⟩
  have pg:x∈l:=List.mem_of_getElem? hx
  have iw:=hf x pg
  obtain ⟨px,hpx⟩:∃b,b=p x:=⟨_,rfl⟩
  rw [←hpx] at iw
  skip
  cbv
  refine jA [.str x] ?_ ?_ ?_
  ·simp only [ht,ah];refine ⟨by omega,h,?_⟩;rw [aG];intro r hr;obtain ⟨y,_,rfl⟩:=List.mem_map.1 hr;rfl
  ·simp [ht,ah,aG,hx]
  cbv
  refine eB trv iw ?_
  cbv
  refine ap (fun hb=>?_) (fun hb=>?_)
  ·cbv
   refine aA trv trv rfl rfl rfl ?_
   have e:=dA hx (hpx▸hb) h3
   simp only [ht,ah,hr,idxOf,e]
  cbv
  refine aJ ⟨n-1,k+1,⟨by omega,(hJ _ _).2 ⟨by omega,?_⟩⟩,?_⟩
  ·intro i hi y hy
   by_cases hik:i<k
   ·exact h3 i hik y hy
   have:i=k:=by omega
   subst this;rw [hx] at hy;cases hy;rw [←hpx];exact hb
  simp only [ht,ah,aH (show k<9223372036854775807 by omega)];rfl
 simp only [ht,ah,decide_eq_false_iff_not] at h
 have hk:¬k<l.length:=by omega
 clear h
 cbv
 refine aA trv trv rfl rfl rfl ?_
 rw [hr,idxOf,dL]
 intro i y hy
 have:i<l.length:=by
  rcases Nat.lt_or_ge i l.length with h'|h';· exact h'
  simp [List.getElem?_eq_none h'] at hy
 exact h3 i (by omega) y hy
theorem M0 (ht:TT t) (ts:List (List D)) {l:List (aQ)} {es:List (List D)} (aG:es=l.map bE) (f:Nat) (p:aQ→Bool) (hl:l.length<9223372036854775807)
 (hf:∀x∈l,FC f [.d (.str x),.ptr 0 0] [.var [SL ts]] (.ret (BL (p x))) [.var [SL ts]]) {r:Bool} (hr:r=l.any p):FC 156 [SL es,.fn f [.ptr 0 0]] [.var [SL ts]] (.ret (BL r)) [.var [SL ts]]:=by
 obtain ⟨k,hk⟩:∃k,k=idxOf p l:=⟨_,rfl⟩
 refine bP ht (aV:=[.var [SL ts]]) Tryz.func156 rfl rfl (N:=9) rfl rfl (n:=1) rfl rfl ?_
 cbv
 refine eB trv (MZ ht ts aG f p hl hf hk) ?_
 cbv
 refine aA trv trv rfl rfl rfl ?_
 simp only [ht,hr,iO,hk]
theorem M1 (ht:TT t) {l:List bw} {qs:List aQ} {es ss:List (List D)} (aG:es=l.map bw.cells) (ZN:ss=qs.map bE) (hl:l.length<1000000000) (hq:qs.length<1000000000) {r:Bool} (hr:r=qs.any (fun q=>decide (bY l q<0))):
 FC 156 [SL ss,.fn 157 [.ptr 0 0]] [.var [SL es]] (.ret (BL r)) [.var [SL es]]:=
 M0 ht es ZN 157 (fun q=>decide (bY l q<0)) (by omega) (fun x _=>SQ ht x aG hl rfl) hr
theorem Hj (ht:TT t) {es:List (List D)} (aG:∀r∈es,r.length=9) (hs:es.length*80≤140737488355328) {m:Nat} (hm:m=es.length):
 FC 158 [SL es] [] (.ret (.ow 0 9 m)) [.row 9 es]:=by
 refine bP ht (aV:=[]) Tryz.func158 rfl rfl (N:=8) rfl rfl (n:=0) rfl rfl ?_
 cbv
 refine ⟨fun b hb=>?_⟩
 simp only [ht] at hb
 cbv
 refine ap (fun h=>?_) (fun h=>?_)
 ·have he:=hb h
  subst he
  cbv
  exact Gr trv rfl rfl (by rw [hm];rfl) rfl
 clear hb h
 cbv
 refine ⟨?_,?_⟩
 ·simp only [ht];simp;exact ⟨hs,aG⟩
 refine BO trv rfl rfl rfl rfl ?_ ?_
 ·simp only [ht];rw [hm];simp
 simp only [ht];rfl
theorem Ep (ht:TT t) {l:List bw} {es:List (List D)} (aG:es=l.map bw.cells) (hs:l.length<1000000000):
 FC 158 [SL es] [] (.ret (.ow 0 9 (t _ fun _=>(l.map bw.cells).length))) [.row 9 (t _ fun _=>l.map bw.cells)]:=by
 simp only [ht];subst aG
 refine Hj ht ?_ ?_ (by simp)
 ·intro r hr;obtain ⟨y,_,rfl⟩:=List.mem_map.1 hr;rfl
 simp;omega
theorem M2 (q:aQ):(above q).length≤4:=by
 have h1:=iu q
 have h2:=ke q
 simp only [above,List.length_cons];omega
theorem Vi {l:List bw} {qs:List aQ} {k:Nat} {x:aQ} (h:qs.any (fun q=>decide (bY l q<0))=false) (hx:qs[k]?=some x):∃(i:Nat) (y:bw),bY l x=i∧l[i]?=some y∧i<l.length:=by
 have h1:¬bY l x<0:=by
  intro h2
  have:qs.any (fun q=>decide (bY l q<0))=true:=List.any_eq_true.2 ⟨x,List.mem_of_getElem? hx,by simpa using h2⟩
  rw [h] at this;cases this
 rcases qx (q:=x) (r:=bY l x) rfl with ⟨e1,_,_⟩|⟨i,y,e1,_,e2,e3,_⟩
 ·omega
 exact ⟨i,y,e1,e3,e2⟩
theorem Lv (ht:TT t) (f:Nat) (g:bw→bw×Int) (v1 v2 v3 v4:Int) (q:aQ) {l:List bw} {es:List (List D)} (aG:es=l.map bw.cells) (hl:l.length<100000) (hq:q.length<1000000000000)
 (hf:∀(p:aQ) (a b c d e z g0 h:Int),FC f [V4 v1 v2 v3 v4,.agg [ST p,aD a,aD b,aD c,aD d,aD e,aD z,aD g0,aD h]] [] (.ret (P9 (t _ fun _=>g ⟨p,⟨a,b,c,d⟩,⟨e,z,g0,h⟩⟩))) []):
 FC 104 [SL es,ST q,.fn f [.dX [V4 v1 v2 v3 v4]]] [] (.ret (AP t (t _ fun _=>o6 g l q))) []:=by
 have hal:=M2 q
 obtain ⟨nq,EW⟩:∃p,p=named q:=⟨_,rfl⟩
 obtain ⟨aq,XI⟩:∃p,p=above q:=⟨_,rfl⟩
 rw [←XI] at hal
 refine bP ht (aV:=[]) Tryz.func104 rfl rfl (N:=55) rfl rfl (n:=0) rfl rfl ?_
 cbv
 have az:es.length=l.length:=by rw [aG,lgM]
 refine bq trv (AO ht _ ‹_›) trv rfl rfl (fun r0 c7=>?_)
 simp only [ht] at c7
 rw [←EW] at c7
 subst r0
 cbv
 refine ap (fun h1=>?_) (fun h1=>?_)
 ·simp [ht] at h1
  cbv
  refine aA trv trv rfl rfl rfl ?_
  (simp only [ht,o6,←EW,←XI];simp_all;done)
 simp [ht] at h1
 cbv
 refine aK trv (Hg ht _ ‹_›) trv rfl rfl rfl (fun r2 gS=>?_)
 simp only [ht] at gS
 rw [←XI] at gS
 subst r2
 cbv
 (obtain ⟨r9,jP⟩:∃r,r=aq.any (fun q=>decide (bY l q<0)):=⟨_,rfl⟩;refine dz [0] trv rfl rfl (M1 ht aG (qs:=aq) (by simp only [ht]) (by omega) (by omega) jP) (cz ?_))
 cbv
 refine ap (fun h3=>?_) (fun h3=>?_)
 ·cbv
  refine aA trv trv rfl rfl rfl ?_
  (simp only [ht,o6,←EW,←XI];simp_all;done)
 cbv
 refine jB trv (Ep ht ‹_› (by omega)) trv rfl (.inr rfl) ?_
 cbv
 obtain ⟨J4,NS⟩:∃J4:Nat→Int×List (List D)→Prop,∀n i u,J4 n (i,u)↔(∃(k:Nat) (o:List bw),i=k∧k+n=aq.length∧u=o.map bw.cells∧o.length=l.length∧o6 g l q=kf g l (aq.drop k) o):=⟨fun n v=>match v with|(i,u)=>(∃(k:Nat) (o:List bw),i=k∧k+n=aq.length∧u=o.map bw.cells∧o.length=l.length∧o6 g l q=kf g l (aq.drop k) o),fun _ _ _=>Iff.rfl⟩
 refine bM ⟨[2,3,9,27,28,29],[],[]⟩ (σ:=Int×List (List D)) (fun v=>[(29,.d (.int .i64 (t _ fun _=>v.1)))]) (fun v=>[(1,.row 9 (t _ fun _=>v.2))]) J4 ?_
 cbv
 refine aJ ⟨aq.length,(_,_),(NS _ _ _).2 ?_,by simp only [ht];rfl,?_⟩
 ·exact ⟨0,l,rfl,by simp,rfl,rfl,by rw [o6,←EW,←XI,←jP];simp_all⟩
 rintro n ⟨i,u⟩ hj
 replace hj:=(NS _ _ _).1 hj
 obtain ⟨k,o,rfl,j1,j2,j3,j4⟩:=hj
 have xW:u.length=o.length:=by rw [j2,lgM]
 cbv
 refine ap (fun h5=>?_) (fun h5=>?_)
 ·simp [ht,ah] at h5
  cbv
  (refine kO ht (l:=aq) (cells:=bE) (cT:=eW t) (by simp only [ht];done) (by simp only [ht,ah];omega) (by simp only [ht,ah];omega) (fun _=>rfl) (fun _=>rfl) (fun xn Qa=>?_);simp only [ht] at Qa;replace Qa:aq[k]?=some xn:=Qa;rw [jD Qa,kf] at j4;obtain ⟨zz,y,e1,e2,e3⟩:=Vi (jP.symm.trans ‹_›) Qa;rw [e1] at j4;simp only [Int.toNat_natCast,List.getD_eq_getElem?_getD,e2,Option.getD_some] at j4)
  cbv
  refine bq trv (lH ht _ ‹_› (by omega)) trv rfl rfl (fun r6 nu=>?_)
  simp only [ht] at nu
  rw [e1] at nu
  cbv
  refine v8 ht aG (cT:=bw.bF t) e2 ‹_› (fun _=>rfl) (fun _=>rfl) ?_
  cbv
  (refine bq trv (hf _ _ _ _ _ _ _ _ _) trv rfl rfl (fun rg Yx=>?_);simp only [ht] at Yx;obtain ⟨⟨gp,⟨ga,gb,gc,gd⟩,⟨ge,gf,gg,gh⟩⟩,ge0⟩:=rg;replace Yx:_=g y:=Yx;rw [←Yx] at j4;simp only at j4)
  cbv
  refine ap (fun h8=>?_) (fun h8=>?_)
  ·simp [ht] at h8
   cbv
   refine aA trv trv rfl rfl rfl ?_
   (simp [*];done)
  simp [ht] at h8
  cbv
  refine ⟨?_,?_⟩
  ·(simp only [ht];simp_all;done)
  refine ⟨?_,?_⟩
  ·(simp only [ht];simp_all;done)
  cbv
  refine cD (_,_) (by simp only [ht];rfl) (n-1) ?_ ((NS _ _ _).2 ?_)
  ·omega
  simp only [ah]
  (refine ⟨k+1,o.set zz ⟨gp,⟨ga,gb,gc,gd⟩,⟨ge,gf,gg,gh⟩⟩,aH (by omega),by omega,?_,by simp [j3],?_⟩<;>simp_all [bt,List.map_set])
 simp [ht,ah] at h5
 cbv
 (refine aA trv (by simp only [ht];simp [xW,j3]) rfl rfl rfl ?_;rw [List.drop_eq_nil_of_le (by omega),kf] at j4;simp only [ht,j4,j2];done)
theorem tB (ht:TT t) (q:aQ) (v1 v2 v3 v4:Int) {l:List bw} {es:List (List D)} (aG:es=l.map bw.cells) (hl:l.length<100000) (hq:q.length<1000000000000):
 FC 58 [SL es,ST q,V4 v1 v2 v3 v4] [] (.ret (AP t (t _ fun _=>cY l q ⟨v1,v2,v3,v4⟩))) []:=by
 have hc:=Lv ht 105 (fJ ⟨v1,v2,v3,v4⟩) v1 v2 v3 v4 q aG hl hq (fun p a b c d e z g0 h=>JF ht v1 v2 v3 v4 p a b c d e z g0 h)
 refine bP ht (aV:=[]) Tryz.func58 rfl rfl (N:=16) rfl rfl (n:=0) rfl rfl ?_
 cbv
 have az:es.length=l.length:=by rw [aG,lgM]
 (refine aK trv hc trv rfl rfl rfl (fun r9 jP=>?_);simp only [ht] at jP)
 cbv
 refine aA trv trv rfl rfl rfl ?_
 (simp [cY, *];done)
theorem JH (ht:TT t) (q:aQ) (v1 v2 v3 v4:Int) {l:List bw} {es:List (List D)} (aG:es=l.map bw.cells) (hl:l.length<100000) (hq:q.length<1000000000000):
 FC 107 [SL es,ST q,V4 v1 v2 v3 v4] [] (.ret (AP t (t _ fun _=>rC l q ⟨v1,v2,v3,v4⟩))) []:=by
 have hc:=Lv ht 159 (eE ⟨v1,v2,v3,v4⟩) v1 v2 v3 v4 q aG hl hq (fun p a b c d e z g0 h=>JG ht v1 v2 v3 v4 p a b c d e z g0 h)
 refine bP ht (aV:=[]) Tryz.func107 rfl rfl (N:=16) rfl rfl (n:=0) rfl rfl ?_
 cbv
 have az:es.length=l.length:=by rw [aG,lgM]
 (refine aK trv hc trv rfl rfl rfl (fun r9 jP=>?_);simp only [ht] at jP)
 cbv
 refine aA trv trv rfl rfl rfl ?_
 (simp [rC, *];done)
def cj.bF (_:Th) (q:cj):List D:=[.int .u64 q.id,.int .i64 q.prio]
def XJ (t:Th) (r:List cj×Int):AV:=.dX [SL (t _ fun _=>r.1.map cj.cells),bJ r.2]
def XK (t:Th) (r:List cj×Bool):AV:=.dX [SL (t _ fun _=>r.1.map cj.cells),BL r.2]
theorem Qb (ht:TT t) (id:Int) {l:List (cj)} {es:List (List D)} (aG:es=l.map cj.cells) (f:Nat) (p:cj→Bool) (hl:l.length<9223372036854775807)
 (hf:∀x∈l,FC f [.agg [aD x.id,bJ x.prio],.ptr 0 0] [.var [aD id]] (.ret (BL (p x))) [.var [aD id]]) {r:Int} (hr:r=idxOf p l):FC 162 [SL es,.fn f [.ptr 0 0]] [.var [aD id]] (.ret (bJ r)) [.var [aD id]]:=by
 have hel:es.length=l.length:=by rw [aG,lgM]
 obtain ⟨J,hJ⟩:∃J:Nat→Nat→Prop,∀n v,J n v↔(v+n=l.length∧∀i<v,∀x,l[i]?=some x→p x=false):=⟨fun n v=>v+n=l.length∧∀i<v,∀x,l[i]?=some x→p x=false,fun _ _=>Iff.rfl⟩
 refine bP ht (aV:=[.var [aD id]]) Tryz.func162 rfl rfl (N:=19) rfl rfl (n:=1) rfl rfl ?_
 cbv
 refine bM ⟨[0,1,7,8],[],[]⟩ (σ:=Nat) (fun k=>[(8,bJ (t _ fun _=>(k:Int)))]) (fun _=>[]) J ?_
 cbv
 refine aJ ⟨l.length,0,(hJ _ _).2 ⟨by omega,by intro i hi;simp at hi⟩,by simp only [ht];rfl,?_⟩
 rintro n k hj
 obtain ⟨h2,h3⟩:=(hJ _ _).1 hj
 clear hj
 cbv
 refine ap (fun h=>?_) (fun h=>?_)
 ·simp only [ht,ah,decide_eq_true_eq] at h
  have hk:k<l.length:=by omega
  obtain ⟨x,hx⟩:∃x,l[k]?=some x:=⟨l[k],by simp⟩
  have pg:x∈l:=List.mem_of_getElem? hx
  have iw:=hf x pg
  obtain ⟨px,hpx⟩:∃b,b=p x:=⟨_,rfl⟩
  rw [←hpx] at iw
  obtain ⟨a,b⟩:=x
  cbv
  refine jA [.int .u64 a,.int .i64 b] ?_ ?_ ?_
  ·simp only [ht,ah];refine ⟨by omega,h,?_⟩;rw [aG];intro r hr;obtain ⟨y,_,rfl⟩:=List.mem_map.1 hr;rfl
  ·simp [ht,ah,aG,hx,cj.cells]
  cbv
  refine eB trv iw ?_
  cbv
  refine ap (fun hb=>?_) (fun hb=>?_)
  ·cbv
   refine aA trv trv rfl rfl rfl ?_
   have e:=dA hx (hpx▸hb) h3
   simp only [ht,ah,hr,idxOf,e]
  cbv
  refine aJ ⟨n-1,k+1,⟨by omega,(hJ _ _).2 ⟨by omega,?_⟩⟩,?_⟩
  ·intro i hi y hy
   by_cases hik:i<k
   ·exact h3 i hik y hy
   have:i=k:=by omega
   subst this;rw [hx] at hy;cases hy;rw [←hpx];exact hb
  simp only [ht,ah,aH (show k<9223372036854775807 by omega)];rfl
 simp only [ht,ah,decide_eq_false_iff_not] at h
 have hk:¬k<l.length:=by omega
 clear h
 cbv
 refine aA trv trv rfl rfl rfl ?_
 rw [hr,idxOf,dL]
 intro i y hy
 have:i<l.length:=by
  rcases Nat.lt_or_ge i l.length with h'|h';· exact h'
  simp [List.getElem?_eq_none h'] at hy
 exact h3 i (by omega) y hy
theorem M3 (ht:TT t) (id:Int) (x:cj):FC 163 [.agg [aD x.id,bJ x.prio],.ptr 0 0] [.var [aD id]] (.ret (BL (decide (x.id=id)))) [.var [aD id]]:=by
 obtain ⟨a,b⟩:=x
 refine bP ht (aV:=[.var [aD id]]) Tryz.func163 rfl rfl (N:=8) rfl rfl (n:=1) rfl rfl ?_
 cbv
 refine aA trv trv rfl rfl rfl ?_
 simp [ht]
theorem C0 (ht:TT t) (id:Int) {l:List cj} {es:List (List D)} (aG:es=l.map cj.cells) (hl:l.length<1000000000):
 FC 109 [SL es,aD id] [] (.ret (gE (t _ fun _=>nh l id))) []:=by
 obtain ⟨r,hr⟩:∃r,r=nh l id:=⟨_,rfl⟩
 refine bP ht (aV:=[]) Tryz.func109 rfl rfl (N:=8) rfl rfl (n:=0) rfl rfl ?_
 cbv
 refine eB trv (Qb ht id aG 163 (fun x=>decide (x.id=id)) (by omega) (fun x _=>M3 ht id x) (r:=r) hr) ?_
 cbv
 exact aA trv trv rfl rfl rfl (by simp [ht,hr])
theorem M4 (ht:TT t) (a b:Int):FC 130 [.agg [aD a,bJ b]] [] (.ret (dn (t _ fun _=>kQ ⟨a,b⟩))) []:=by
 refine bP ht (aV:=[]) Tryz.func130 rfl rfl (N:=11) rfl rfl (n:=0) rfl rfl ?_
 cbv
 iterate 3 refine gI (by simp [ht]) ?_
 refine pI (by simp [ht]) ?_
 refine aA trv trv rfl rfl rfl ?_
 (simp [ht,kQ];done)
theorem M5 (ht:TT t) (a b c d:Int):FC 131 [.agg [aD a,bJ b],.agg [aD c,bJ d]] [] (.ret (dn (t _ fun _=>bG ⟨a,b⟩ ⟨c,d⟩))) []:=by
 refine bP ht (aV:=[]) Tryz.func131 rfl rfl (N:=24) rfl rfl (n:=0) rfl rfl ?_
 cbv
 iterate 11 refine gI (by simp [ht]) ?_
 refine gI (by simp [ht,aj];intros;simp_all) ?_
 refine pI (by simp [ht]) ?_
 refine aA trv trv rfl rfl rfl ?_
 (simp [ht,bG];done)
theorem Vj {l:List cj} {e x:cj} {k:Nat} (hx:l[k]?=some x) (h:bG e x=true) (h3:∀i<k,∀y,l[i]?=some y→bG e y=false):uO l e=k:=by
 simp only [uO];rw [dA hx h h3]
theorem Vk {l:List cj} {e:cj} {k:Nat} (hk:l.length≤k) (h3:∀i<k,∀y,l[i]?=some y→bG e y=false):uO l e=l.length:=by
 simp only [uO]
 rw [dL]
 intro i y hy
 have:i<l.length:=(List.getElem?_eq_some_iff.1 hy).1
 exact h3 i (by omega) y hy
theorem Qd {l:List cj} {e x:cj} {k:Nat} (h3:∀i<k,∀y,l[i]?=some y→bG e y=false) (hx:l[k]?=some x) (h:bG e x=false):∀i<k+1,∀y,l[i]?=some y→bG e y=false:=by
 intro i hi y hy
 rcases Nat.lt_or_ge i k with h1|h1
 ·exact h3 i h1 y hy
 have:i=k:=by omega
 subst this;rw [hx] at hy;cases hy;exact h
theorem Vl (ht:TT t) (a b:Int) {l:List cj} {es:List (List D)} (aG:es=l.map cj.cells) (hl:l.length<1000000000):
 FC 141 [.agg [.fn 131 []],SL es,.agg [aD a,bJ b]] [] (.ret (gE (t _ fun _=>(uO l ⟨a,b⟩:Int)))) []:=by
 refine bP ht (aV:=[]) Tryz.func141 rfl rfl (N:=25) rfl rfl (n:=0) rfl rfl ?_
 cbv
 have az:es.length=l.length:=by rw [aG,lgM]
 obtain ⟨J0,fH⟩:∃J0:Nat→Int→Prop,∀n i,J0 n i↔(∃k:Nat,i=k∧k+n=l.length∧∀i<k,∀y,l[i]?=some y→bG ⟨a,b⟩ y=false):=⟨fun n v=>match v with|i=>(∃k:Nat,i=k∧k+n=l.length∧∀i<k,∀y,l[i]?=some y→bG ⟨a,b⟩ y=false),fun _ _=>Iff.rfl⟩
 refine bM ⟨[1,3,5,9,10,11],[],[]⟩ (σ:=Int) (fun v=>[(11,.d (.int .i64 (t _ fun _=>v)))]) (fun v=>[]) J0 ?_
 cbv
 refine aJ ⟨l.length,_,(fH _ _).2 ?_,by simp only [ht];rfl,?_⟩
 ·exact ⟨0,rfl,by simp,fun i hi=>by omega⟩
 rintro n i hj
 replace hj:=(fH _ _).1 hj
 obtain ⟨k,rfl,j1,j4⟩:=hj
 cbv
 refine ap (fun h1=>?_) (fun h1=>?_)
 ·simp [ht,ah,az] at h1
  cbv
  refine kO ht aG (cT:=cj.bF t) (by (simp only [ht,ah];omega)) (by (simp only [ht,ah];omega)) (fun _=>rfl) (fun _=>rfl) (fun x2 nT=>?_)
  simp [ht,ah] at nT
  cbv
  refine bq trv (M5 ht _ _ _ _) trv rfl rfl (fun r3 kV=>?_)
  simp only [ht] at kV
  cbv
  refine ap (fun h4=>?_) (fun h4=>?_)
  ·cbv
   refine aA trv trv rfl rfl rfl ?_
   (simp only [ht];rw [Vj nT (by rw [h4] at kV;exact kV.symm) j4])
  cbv
  refine cD _ (by simp only [ht];rfl) (n-1) ?_ ((fH _ _).2 ?_)
  ·omega
  simp only [ah]
  exact ⟨k+1,aH (by omega),by omega,Qd j4 ‹_› (by simp_all)⟩
 simp [ht,ah,az] at h1
 cbv
 refine aA trv trv rfl rfl rfl ?_
 (simp only [ht];rw [Vk (by omega) j4];simp [aG];done)
theorem JI (ht:TT t) {es:List (List D)} (aG:∀r∈es,r.length=2) (hs:es.length*16≤140737488355328) {m:Nat} (hm:m=es.length):
 FC 140 [SL es] [] (.ret (.ow 0 2 m)) [.row 2 es]:=by
 refine bP ht (aV:=[]) Tryz.func140 rfl rfl (N:=8) rfl rfl (n:=0) rfl rfl ?_
 cbv
 refine ⟨fun b hb=>?_⟩
 simp only [ht] at hb
 cbv
 refine ap (fun h=>?_) (fun h=>?_)
 ·have he:=hb h
  subst he
  cbv
  exact Gr trv rfl rfl (by rw [hm];rfl) rfl
 clear hb h
 cbv
 refine ⟨?_,?_⟩
 ·simp only [ht];simp;exact ⟨hs,aG⟩
 refine BO trv rfl rfl rfl rfl ?_ ?_
 ·simp only [ht];rw [hm];simp
 simp only [ht];rfl
theorem Er (ht:TT t) {es:List (List D)} {x:D} {row:List D} {i n c:Nat} (hn:n=es.length) (hi:i≤n) (hc:n≤c) (hc0:n=0→c=0) (aG:∀r∈es,r.length=2) (hrow:(x::row).length=2) (hs:n<1000000) {r:List (List D)} (hr:r=es.take i++(x::row)::es.drop i):
 FC 139 [.vw 0 2 0 n c true,bJ (i:Int),SL [x::row]] [.row 2 es] (.ret (SL r)) [.dead]:=by
 obtain ⟨n1,BD⟩:∃n1,n1=n+1:=⟨_,rfl⟩
 obtain ⟨i1,hi1⟩:∃i1,i1=i+1:=⟨_,rfl⟩
 obtain ⟨ni,hni⟩:∃ni,ni=n-i:=⟨_,rfl⟩
 obtain ⟨ci,pi⟩:∃ci,ci=c-i:=⟨_,rfl⟩
 obtain ⟨wo,Ju⟩:∃wo,wo=c-i1:=⟨_,rfl⟩
 obtain ⟨oQ,tv⟩:∃oQ,oQ=n1-i:=⟨_,rfl⟩
 have hW:∀P:Prop,((IntKind.i64.wrap ((n:Int)+1)=(n1:Int))→(IntKind.i64.wrap ((n1:Int)-(i:Int))=(oQ:Int))→(IntKind.i64.wrap ((i:Int)+1)=(i1:Int))→P)→P:=
  fun P h=>h (by rw [wrap64 (by omega) (by omega)];omega) (by rw [wrap64 (by omega) (by omega)];omega) (by rw [wrap64 (by omega) (by omega)];omega)
 have hrl:r.length=n1:=by rw [hr,List.length_append,List.length_cons,List.length_take,List.length_drop];omega
 have U4:n≠0→FC 184 [SL [x::row],.vw 0 2 i1 ni wo true] [.row 2 es] (.ret (BL false)) [.row 2 es]:=fun h0=>
  iC T0 Tryz.func184 rfl rfl rfl rfl (tS:=31) (tR:=4) rfl rfl (by intro h;rw [h] at hn;exact h0 hn)
 refine bP ht (aV:=[.row 2 es]) Tryz.func139 rfl rfl (N:=95) rfl rfl (n:=1) rfl rfl ?_
 cbv
 refine bN (.vw 0 2 i ni ci true) [.row 2 es] ?_ ?_ rfl ?_
 ·simp [ht,dN,bR];omega
 ·simp [ht,be,aY,hni,pi]
 cbv
 refine nJ (by simp [ht]) ?_
 cbv
 refine ap (fun h=>?_) (fun h=>?_)
 ·have hin:i=n:=by simp [ht,ah] at h;omega
  clear h
  cbv
  refine bN (.ow 1 2 n1) [.dead,.row 2 r] ?_ ?_ ?_ ?_
  ·simp only [ht]
   refine ⟨⟨hn,by simp;omega,?_⟩,rfl,hn,fun h=>⟨hc0 (by rw [hn,h];rfl),rfl⟩⟩
   intro r hr
   rcases List.mem_append.1 hr with hr|hr
   ·exact aG r hr
   simp at hr;subst hr;exact hrow
  ·simp [ht,BD,hn]
  ·simp only [ht];rw [hr]
   have:i=es.length:=by omega
   subst this;simp
  cbv
  refine aA trv ?_ rfl rfl rfl rfl
  simp only [ht];exact hrl.symm
 have hin:i<n:=by simp [ht,ah] at h;omega
 clear h
 have AK:r=(r.drop 0).take n1:=by rw [List.drop_zero,List.take_of_length_le (by omega)]
 cbv
 refine ap (fun h2=>?_) (fun h2=>?_)
 ·have U5:c=n:=by
   refine hW _ fun e1 e2 e3=>?_
   simp [ht,ah,e1] at h2;omega
  clear h2
  obtain ⟨L,hL⟩:∃L:List (List D),L=es.take i++List.replicate (es.length+1-i) [D.int IntKind.u64 0,D.int IntKind.i64 0]:=⟨_,rfl⟩
  have Ib:L.length=n1:=by rw [hL];simp;omega
  obtain ⟨L1,tw⟩:∃L1,L1=wrote L i [x::row]:=⟨_,rfl⟩
  have mq:L1.length=n1:=by rw [tw];simp [wrote,Ib];omega
  have oo:r=wrote L1 i1 (es.drop i):=by rw [hi1,tw,hL,vb (by omega),hr]
  cbv
  refine bN (.vw 0 2 0 i c true) [.row 2 es] ?_ ?_ rfl ?_
  ·simp [ht,dN,bR];omega
  ·simp [ht,be,aY]
  cbv
  refine bN (.vw 1 2 0 n1 n1 false) [.row 2 es,.row 2 L] ?_ ?_ ?_ ?_
  ·refine hW _ fun e1 e2 e3=>?_
   simp [ht,ah,e1,e2];omega
  ·refine hW _ fun e1 e2 e3=>?_
   simp [ht,ah,e1,e2];omega
  ·refine hW _ fun e1 e2 e3=>?_
   simp [ht,ah,e1,e2,hL];omega
  cbv
  refine bN (.vw 1 2 i oQ oQ false) [.row 2 es,.row 2 L] ?_ ?_ rfl ?_
  ·simp [ht,dN,bR];omega
  ·simp [ht,be,aY,tv]
  cbv
  refine bN (bJ 1) [.row 2 es,.row 2 L1] ?_ ?_ ?_ ?_
  ·simp only [ht,eL]
   refine ⟨⟨by omega,?_⟩,?_⟩
   ·intro h;rw [h] at Ib;simp at Ib;omega
   intro r hr;have:=List.mem_of_mem_take hr;simp at this;rw [this];exact hrow
  ·simp [ht,ah];omega
  ·simp [ht,tw,show min 1 oQ=1 by omega]
  cbv
  refine dK [false,false,false,false,false,false,false,false,true] (by kernel_rfl) (by kernel_rfl) ?_
  cbv
  repeat (refine gI (by (simp;done)) ?_)
  refine iq (.vw 1 2 i1 ni ni false) (fun _=>⟨?_,?_⟩) ?_
  ·refine hW _ fun e1 e2 e3=>?_
   simp [ht,ah,e3,dN,bR];omega
  ·refine hW _ fun e1 e2 e3=>?_
   simp [ht,ah,e3,be,aY];omega
  cbv
  repeat (refine gI (by (simp;done)) ?_)
  refine iq (.vw 0 2 i ni ci true) (fun _=>⟨?_,?_⟩) ?_
  ·simp [ht,dN,bR];omega
  ·simp [ht,be,aY,hni,pi]
  cbv
  refine bN (bJ (ni:Nat)) [.row 2 es,.row 2 r,.bC] ?_ ?_ ?_ ?_
  ·simp only [ht,eL]
   refine ⟨by omega,⟨by omega,?_⟩,?_⟩
   ·intro h;rw [h] at mq;simp at mq;omega
   intro r hr;exact aG r (List.mem_of_mem_drop (List.mem_of_mem_take hr))
  ·simp [ht,ah]
  ·simp only [ht,oo]
   rw [List.take_of_length_le (by simp;omega)]
  cbv
  refine yx [true] trv ?_ rfl rfl rfl ?_
  ·simp only [ht];omega
  simp only [ht];rw [←AK]
 have U5:n<c:=by
  refine hW _ fun e1 e2 e3=>?_
  simp [ht,ah,e1] at h2;omega
 clear h2
 obtain ⟨L1,tw⟩:∃L1,L1=wrote es i1 (es.drop i):=⟨_,rfl⟩
 have oo:r=wrote L1 i [x::row]:=by rw [tw,hi1,Ee (by omega),hr]
 have mq:L1.length=n1:=by rw [tw];simp [wrote];omega
 cbv
 refine bN (.vw 0 2 0 n1 c true) [.row 2 es] ?_ ?_ rfl ?_
 ·refine hW _ fun e1 e2 e3=>?_
  simp [ht,ah,e1,dN,bR];omega
 ·refine hW _ fun e1 e2 e3=>?_
  simp [ht,ah,e1,be,aY]
 cbv
 refine bN (.vw 0 2 i1 ni wo true) [.row 2 es] ?_ ?_ rfl ?_
 ·refine hW _ fun e1 e2 e3=>?_
  simp [ht,ah,e3,dN,bR];omega
 ·refine hW _ fun e1 e2 e3=>?_
  simp [ht,ah,e3,be,aY];omega
 cbv
 refine eB trv (U4 (by omega)) ?_
 cbv
 refine kH (by simp [ht]) ?_
 cbv
 refine dK [false,false,false,false,false,false,false,false,true] (by kernel_rfl) (by kernel_rfl) ?_
 cbv
 repeat (refine gI (by (simp;done)) ?_)
 refine iq (.vw 0 2 i1 ni wo true) (fun _=>⟨?_,?_⟩) ?_
 ·refine hW _ fun e1 e2 e3=>?_
  simp [ht,ah,e3,dN,bR];omega
 ·refine hW _ fun e1 e2 e3=>?_
  simp [ht,ah,e3,be,aY];omega
 cbv
 repeat (refine gI (by (simp;done)) ?_)
 refine iq (.vw 0 2 i oQ ci true) (fun _=>⟨?_,?_⟩) ?_
 ·simp [ht,dN,bR];omega
 ·simp [ht,be,aY,tv,pi]
 cbv
 refine bN (bJ (ni:Nat)) [.row 2 L1,.bC] ?_ ?_ ?_ ?_
 ·simp only [ht,eL]
  refine ⟨by omega,⟨by omega,?_⟩,?_⟩
  ·intro h;rw [h] at hn;simp at hn;omega
  intro r hr;exact aG r (List.mem_of_mem_drop (List.mem_of_mem_take hr))
 ·simp [ht,ah];omega
 ·simp only [ht,tw]
  rw [List.take_of_length_le (by simp;omega)]
 cbv
 refine bN (.vw 0 2 i oQ ci true) [.row 2 L1,.bC] ?_ ?_ rfl ?_
 ·simp [ht,dN,bR];omega
 ·simp [ht,be,aY,tv,pi]
 cbv
 refine bN (bJ 1) [.row 2 r,.bC] ?_ ?_ ?_ ?_
 ·simp only [ht,eL]
  refine ⟨⟨by omega,?_⟩,?_⟩
  ·intro h;rw [h] at mq;simp at mq;omega
  intro r hr;have:=List.mem_of_mem_take hr;simp at this;rw [this];exact hrow
 ·simp [ht,ah];omega
 ·simp [ht,oo,show min 1 oQ=1 by omega]
 cbv
 refine yx [true] trv ?_ rfl rfl rfl ?_
 ·simp only [ht];omega
 simp only [ht];rw [←AK]
theorem Hl (ht:TT t) {es:List (List D)} {x:D} {row:List D} {i n:Nat} (hn:n=es.length) (hi:i≤n) (aG:∀r∈es,r.length=2) (hrow:(x::row).length=2) (hs:n<1000000) {r:List (List D)} (hr:r=es.take i++(x::row)::es.drop i):
 FC 139 [.ow 0 2 n,bJ (i:Int),SL [x::row]] [.row 2 es] (.ret (SL r)) [.dead]:=
 dU fun c hc hc0=>Er ht hn hi hc hc0 aG hrow hs hr
theorem Ho (ht:TT t) {l:List cj} {es:List (List D)} (aG:es=l.map cj.cells) (hs:l.length<1000000000):
 FC 140 [SL es] [] (.ret (.ow 0 2 (t _ fun _=>(l.map cj.cells).length))) [.row 2 (t _ fun _=>l.map cj.cells)]:=by
 simp only [ht];subst aG
 refine JI ht ?_ ?_ (by simp)
 ·intro r hr;obtain ⟨y,_,rfl⟩:=List.mem_map.1 hr;rfl
 simp;omega
theorem Es (ht:TT t) {l:List cj} {x:cj} {k:Nat} {i:Int} (hi:i=k) (hk:k≤l.length) (hl:l.length<1000000):
 FC 139 [.ow 0 2 (t _ fun _=>(l.map cj.cells).length),bJ i,.cl [cj.cells x]] [.row 2 (t _ fun _=>l.map cj.cells)] (.ret (SL (t _ fun _=>(l.take k++x::l.drop k).map cj.cells))) [.dead]:=by
 simp only [ht];subst hi
 refine oH (args':=[.ow 0 2 (l.map cj.cells).length,bJ k,SL [cj.cells x]]) ?_ (Hl ht (by simp) (by simpa using hk) ?_ rfl (by simpa using hl) (by simp [cj.cells]))
 ·intro β w ok vs h
  simp only [an] at h ⊢
  obtain ⟨u1,Yr,rfl,h1,u2,Oe,rfl,h2,u3,Vc,rfl,h3,h4⟩:=h
  exact ⟨u1,_,rfl,h1,u2,_,rfl,h2,u3,Vc,rfl,K9 h3,h4⟩
 intro r hr;obtain ⟨y,_,rfl⟩:=List.mem_map.1 hr;rfl
theorem Vm (l:List cj) (e:cj):uO l e≤l.length:=by
 unfold uO
 cases h:l.findIdx? (fun x=>bG e x) with
 |none=>exact Nat.le_refl _
 |some k=>exact Nat.le_of_lt (List.findIdx?_eq_some_iff_getElem.1 h).1
theorem AR (ht:TT t) (a b:Int) {l:List cj} {es:List (List D)} (aG:es=l.map cj.cells) (hl:l.length<1000000):
 FC 91 [SL es,.agg [aD a,bJ b]] [] (.ret (XJ t (t _ fun _=>jU l ⟨a,b⟩))) []:=by
 have hq:=Vm l ⟨a,b⟩
 obtain ⟨qa,hqa⟩:∃n,n=uO l ⟨a,b⟩:=⟨_,rfl⟩
 refine bP ht (aV:=[]) Tryz.func91 rfl rfl (N:=31) rfl rfl (n:=0) rfl rfl ?_
 cbv
 have az:es.length=l.length:=by rw [aG,lgM]
 refine bq trv (M4 ht _ _) trv rfl rfl (fun r0 c7=>?_)
 simp only [ht] at c7
 cbv
 refine ap (fun h1=>?_) (fun h1=>?_)
 ·cbv
  refine aA trv trv rfl rfl rfl ?_
  (simp only [ht];simp_all [jU];done)
 cbv
 refine bq trv (C0 ht _ ‹_› (by omega)) trv rfl rfl (fun r2 gS=>?_)
 simp only [ht] at gS
 cbv
 refine ap (fun h3=>?_) (fun h3=>?_)
 ·simp [ht] at h3
  cbv
  refine aA trv trv rfl rfl rfl ?_
  (simp only [ht];simp_all [jU];done)
 simp [ht] at h3
 cbv
 refine ap (fun h4=>?_) (fun h4=>?_)
 ·simp [ht,ah,az] at h4
  cbv
  refine aA trv trv rfl rfl rfl ?_
  (simp only [ht,jU];grind)
 simp [ht,ah,az] at h4
 cbv
 refine dK [false,false,false,false,false,false,false,false,true,true,true] (by kernel_rfl) (by kernel_rfl) ?_
 cbv
 refine gI (by simp) ?_
 refine .inr (Gq trv (Ho ht ‹_› (by omega)) trv rfl (.inr rfl) rfl ?_)
 cbv
 iterate 3 refine gI (by simp) ?_
 refine .inl ?_
 refine eT (fun g5=>⟨trv,trv,Vl ht _ _ ‹_› (by omega)⟩) rfl rfl (fun r6 nu=>?_)
 simp only [ht] at nu
 rw [←hqa] at nu
 cbv
 iterate 2 refine gI (by simp) ?_
 refine dz [1] trv rfl rfl (Es ht (l:=l) (x:=⟨a,b⟩) (k:=qa) ‹_› (by omega) (by omega)) (cz ?_)
 cbv
 refine aA trv trv rfl rfl rfl ?_
 (simp only [ht,jU];grind)
def fm (t:Th) (s:bg):AV:=.agg [aD s.round,aD s.next,SL (t _ fun _=>s.bf.nodes.map Node.cells),SL (t _ fun _=>s.bf.places.map Place.cells),SL (t _ fun _=>s.tree.map bw.cells),SL (t _ fun _=>s.av.map Jb.cells),SL (t _ fun _=>s.queue.map cj.cells),aD s.ev.first,SL (t _ fun _=>s.ev.l.map dW.cells),aD s.au.first,SL (t _ fun _=>s.au.l.map dW.cells)]
def Lw (t:Th) (r:bg×Int):AV:=.dX [fm t r.1,bJ r.2]
def Qe (t:Th) (r:bg×Int×Int):AV:=.dX [fm t r.1,aD r.2.1,bJ r.2.2]
theorem nV (ht:TT t) (rd nx ef af id kd:Int) {nl:List Node} {pl:List Place} {tl:List bw} {jl:List Jb} {ql:List cj} {el al:List dW} {ns ps ts js qs es bU:List (List D)}
 (fc:ns=nl.map Node.cells) (hps:ps=pl.map Place.cells) (hts:ts=tl.map bw.cells) (eN:js=jl.map Jb.cells) (eD:qs=ql.map cj.cells) (aG:es=el.map dW.cells) (has:bU=al.map dW.cells) (hel:el.length<1000000):
 FC 65 [.agg [aD rd,aD nx,SL ns,SL ps,SL ts,SL js,SL qs,aD ef,SL es,aD af,SL bU],aD id,bJ kd] [] (.ret (fm t (t _ fun _=>iI ⟨rd,nx,⟨nl,pl⟩,tl,jl,ql,⟨ef,el⟩,⟨af,al⟩⟩ id kd))) []:=by
 obtain ⟨⟨f9,l9⟩,h9⟩:∃r,r=tell ⟨ef,el⟩ ⟨rd,id,kd⟩:=⟨_,rfl⟩
 refine bP ht (aV:=[]) Tryz.func65 rfl rfl (N:=17) rfl rfl (n:=0) rfl rfl ?_
 cbv
 have aL:ns.length=nl.length:=by rw [fc,lgM]
 have aR:ps.length=pl.length:=by rw [hps,lgM]
 have aM:ts.length=tl.length:=by rw [hts,lgM]
 have aT:js.length=jl.length:=by rw [eN,lgM]
 have aF:qs.length=ql.length:=by rw [eD,lgM]
 have az:es.length=el.length:=by rw [aG,lgM]
 have aE:bU.length=al.length:=by rw [has,lgM]
 refine aK trv (SH ht _ _ _ _ ‹_› ‹_›) trv rfl rfl rfl (fun r0 c7=>?_)
 simp only [ht] at c7
 rw [←h9] at c7
 subst r0
 cbv
 refine aA trv trv rfl rfl rfl ?_
 (simp only [ht,iI];grind)
theorem Lx (ht:TT t):FC 38 [] [] (.ret (fm t (t _ fun _=>BT))) []:=by
 refine bP ht (aV:=[]) Tryz.func38 rfl rfl (N:=4) rfl rfl (n:=0) rfl rfl ?_
 cbv
 refine aK trv (SN ht _ _ _ _) trv rfl rfl rfl (fun r0 c7=>?_)
 simp only [ht] at c7
 cbv
 refine aA trv trv rfl rfl rfl ?_
 (simp [BT,bg.zero,bO.zero, *];done)
theorem tC (ht:TT t) {es:List (List D)} (aG:∀r∈es,r.length=12) (hs:es.length*120≤140737488355328) {m:Nat} (hm:m=es.length):
 FC 45 [SL es] [] (.ret (.ow 0 12 m)) [.row 12 es]:=by
 refine bP ht (aV:=[]) Tryz.func45 rfl rfl (N:=8) rfl rfl (n:=0) rfl rfl ?_
 cbv
 refine ⟨fun b hb=>?_⟩
 simp only [ht] at hb
 cbv
 refine ap (fun h=>?_) (fun h=>?_)
 ·have he:=hb h
  subst he
  cbv
  exact Gr trv rfl rfl (by rw [hm];rfl) rfl
 clear hb h
 cbv
 refine ⟨?_,?_⟩
 ·simp only [ht];simp;exact ⟨hs,aG⟩
 refine BO trv rfl rfl rfl rfl ?_ ?_
 ·simp only [ht];rw [hm];simp
 simp only [ht];rfl
theorem mX (ht:TT t) {l:List Jb} {es:List (List D)} (aG:es=l.map Jb.cells) (hs:l.length<1000000):
 FC 45 [SL es] [] (.ret (.ow 0 12 (t _ fun _=>(l.map Jb.cells).length))) [.row 12 (t _ fun _=>l.map Jb.cells)]:=by
 simp only [ht];subst aG
 refine tC ht ?_ ?_ (by simp)
 ·intro r hr;obtain ⟨y,_,rfl⟩:=List.mem_map.1 hr;rfl
 simp;omega
theorem M6:∀c<8,∀i<4,(eV (c*32) i).nodes.length≤4:=by decide+kernel
theorem AS {N i:Nat} (hN:N<256) (hi:i<4):(eV N i).nodes.length<1000000000:=by
 rw [GS]
 have:=M6 (N / 32) (by omega) i hi
 omega
theorem JJ:∀k,∀p∈AI k,p.sm:=by
 intro k p hp
 unfold AI at hp
 split at hp
 ·rw [List.mem_singleton.1 hp]
  rename_i h
  have:k=0∨k=1:=by omega
  rcases this with rfl|rfl<;>exact ⟨by decide,by decide⟩
 cases hp
theorem Qf:∀k<3,∀N<256,(((N:Nat):Int).fdiv (2^min (IntKind.i64.wrap (5+((k:Nat):Int))).toNat IntKind.u8.bits)).tmod 2=0↔Ss N k=true:=by decide+kernel
theorem wz {a z:Int} {N k:Nat} (hN:N<256) (ea:a=N) (h:(a.fdiv (2^min (IntKind.i64.wrap z).toNat IntKind.u8.bits)).tmod 2=0) (hk:k<3) (hz:z=5+((k:Nat):Int)):Ss N k=true:=by
 subst ea hz;exact (Qf k hk N hN).1 h
theorem C1 {a z:Int} {N k:Nat} (hN:N<256) (ea:a=N) (h:¬(a.fdiv (2^min (IntKind.i64.wrap z).toNat IntKind.u8.bits)).tmod 2=0) (hk:k<3) (hz:z=5+((k:Nat):Int)):¬Ss N k=true:=by
 subst ea hz;exact fun g=>h ((Qf k hk N hN).2 g)
theorem nW {N k:Nat} {nm:aQ} {w:Int} {r:cC×Int} (h:r=qf ⟨(eV N k).nodes,(eV N k).places⟩ ⟨nm,⟨w,9,9,9⟩,AI k,false⟩) (hnm:nm=gz.getD k []) (hw:w=((4+2*k:Nat):Int)) (hu:Ss N k=true):eV N (k+1)=r.1:=by
 subst hw hnm h;rw [eV,if_pos hu]
theorem rJ {N k:Nat} (hu:¬Ss N k=true):eV N (k+1)=eV N k:=by rw [eV,if_neg hu]
theorem AT:∀k<3,∀m<5,IntKind.u64.wrap (IntKind.i64.wrap (IntKind.i64.wrap (6+IntKind.i64.wrap (4*((k:Nat):Int)))+IntKind.i64.wrap ((m:Nat):Int)))=((6+4*k+m:Nat):Int):=by decide+kernel
theorem wA {m k:Nat} {p:aQ} {w:Int} {r:List bw×Int} (h:r=uP (qu m k) p ⟨w,20,20,20⟩) (hp:p=T6.getD k []) (hw:w=((6+4*k+m:Nat):Int)):r.1=qu m (k+1):=by subst hw hp h;rfl
theorem vo (ht:TT t) (k a b c d:Int) (x:jS) (hx:x.u) (hk:k=x.kind) (ha:a=x.a) (hb:b=x.b) (hc:c=x.c) (hd:d=x.d):
 FC 111 [.agg [U8 k,U8 a,U8 b,U8 c,U8 d]] [] (.ret (ZD t (t _ fun _=>BU x))) []:=by
 obtain ⟨u1,u2,u3,u4,u5⟩:=hx
 obtain ⟨nm,hnm⟩:∃nm,nm=AH.getD (x.a%4) []:=⟨_,rfl⟩
 have w1:IntKind.u64.wrap (b.tmod 5)=((x.b%5:Nat):Int):=by rw [hb,V5,SE _ (by omega)]
 have w2:IntKind.u64.wrap ((IntKind.u8.wrap (b.tdiv 5)).tmod 5)=((x.b / 5%5:Nat):Int):=by rw [hb,td5,ZC _ (by omega),V5,SE _ (by omega)]
 have w3:IntKind.u64.wrap ((IntKind.u8.wrap (b.tdiv 25)).tmod 3)=((x.b / 25%3:Nat):Int):=by rw [hb,ZB,ZC _ (by omega),ZA,SE _ (by omega)]
 have w4:IntKind.i64.wrap (1+IntKind.i64.wrap (c.tmod 3))=((1+x.c%3:Nat):Int):=by rw [hc,ZA,MH _ (by omega),show (1:Int)+((x.c%3:Nat):Int)=((1+x.c%3:Nat):Int) by omega,MH _ (by omega)]
 have w5:IntKind.i64.wrap ((IntKind.u8.wrap (c.tdiv 3)).tmod 4)=((x.c / 3%4:Nat):Int):=by rw [hc,td3,ZC _ (by omega),Zz,MH _ (by omega)]
 have w6:IntKind.i64.wrap (1+IntKind.i64.wrap (d.tmod 5))=((1+x.d%5:Nat):Int):=by rw [hd,V5,MH _ (by omega),show (1:Int)+((x.d%5:Nat):Int)=((1+x.d%5:Nat):Int) by omega,MH _ (by omega)]
 have w7:decide (d.tmod 2=1)=decide (x.d%2=1):=by rw [decide_eq_decide,hd,tm2];omega
 refine bP ht (aV:=[]) Tryz.func111 rfl rfl (N:=53) rfl rfl (n:=0) rfl rfl ?_
 cbv
 refine dK [false,false,false,false,false,false,false,false,false,false,false,false,false,false,false,false,false,false,false,false,false,false,false,false,false,false,false,false,false,false,false,false,false,false,false,false,false,false,true] (by kernel_rfl) (by kernel_rfl) ?_
 cbv
 iterate 4 refine gI (by simp [ht,aj]) ?_
 (refine jA [.str nm] (by simp only [ht,ha,Zz];exact PO x.a) (by simp only [ht,ha,Zz];rw [hnm];exact PR x.a) ?_)
 cbv
 iterate 32 refine gI (by simp [ht,aj]) ?_
 refine ap (fun h0=>?_) (fun h0=>?_)
 ·simp [ht,ah] at h0
  cbv
  refine ⟨?_,?_⟩
  ·(simp only [ht,ah] at*;omega)
  cbv
  refine aA trv trv rfl rfl rfl ?_
  (simp only [ht,w1,w2,w3,w4,w5,w6,w7,hnm,BU];rw [if_pos (show 200<x.d by ((try simp only [ah] at*);omega))];rfl)
 simp [ht,ah] at h0
 cbv
 refine aA trv trv rfl rfl rfl ?_
 (simp only [ht,w1,w2,w3,w4,w5,w6,hnm,BU];rw [if_neg (show ¬200<x.d by ((try simp only [ah] at*);omega))];rfl)
theorem xZ (ht:TT t) (N:Nat) (hN:N<256) {a:Int} (ea:a=N):FC 67 [.d (.int .u8 a)] [] (.ret (fm t (t _ fun _=>jI N))) []:=by
 have hm:N%5<5:=Nat.mod_lt _ (by decide)
 have hl0:=PE (N%5) hm
 refine bP ht (aV:=[]) Tryz.func67 rfl rfl (N:=81) rfl rfl (n:=0) rfl rfl ?_
 cbv
 refine aK trv (Lx ht) trv rfl rfl rfl (fun r0 c7=>?_)
 simp only [ht] at c7
 cbv
 ((refine aK trv (yT ht _ _ _ _ _ (l:=[⟨[],bO.zero,bO.zero⟩]) (by simp only [ht,c7];rfl) (by decide) (by decide) (by decide)) (by simp [ht]) rfl rfl rfl (fun r1 cP=>?_)))
 cbv
 obtain ⟨J1,o8⟩:∃J1:Nat→Int×List (List D)→Prop,∀m i tr,J1 m (i,tr)↔((i=0∧m=3∧tr=(qu (N%5) 0).map bw.cells)∨(i=1∧m=2∧tr=(qu (N%5) 1).map bw.cells)∨(i=2∧m=1∧tr=(qu (N%5) 2).map bw.cells)∨(i=3∧m=0∧tr=(qu (N%5) 3).map bw.cells)):=⟨fun m v=>match v with|(i,tr)=>((i=0∧m=3∧tr=(qu (N%5) 0).map bw.cells)∨(i=1∧m=2∧tr=(qu (N%5) 1).map bw.cells)∨(i=2∧m=1∧tr=(qu (N%5) 2).map bw.cells)∨(i=3∧m=0∧tr=(qu (N%5) 3).map bw.cells)),fun _ _ _=>Iff.rfl⟩
 refine bM ⟨[0,2,3,18,19,20],[],[]⟩ (σ:=Int×List (List D)) (fun v=>[(20,.d (.int .i64 (t _ fun _=>v.1)))]) (fun v=>[(1,.var [AV.d (D.int IntKind.u64 r0.1),AV.d (D.int IntKind.u64 r0.2),AV.d (D.sl (t (List (List D)) fun x=>List.map (fun x=>[D.str (Node.name x),D.int IntKind.u64 (bO.a (Node.cap x)),D.int IntKind.u64 (bO.b (Node.cap x)),D.int IntKind.u64 (bO.c (Node.cap x)),D.int IntKind.u64 (bO.d (Node.cap x)),D.sl (List.map (fun p=>[D.str (dj.key p),D.str (dj.value p)]) (Node.labels x)),D.bool (Node.up x)]) (cC.nodes (bg.bf r0)))),AV.d (D.sl (t (List (List D)) fun x=>List.map (fun x=>[D.int IntKind.u64 (Place.bK x),D.str (Place.node x),D.int IntKind.u64 (bO.a (Place.v x)),D.int IntKind.u64 (bO.b (Place.v x)),D.int IntKind.u64 (bO.c (Place.v x)),D.int IntKind.u64 (bO.d (Place.v x))]) (cC.places (bg.bf r0)))),.d (.sl (t _ fun _=>v.2)),AV.d (D.sl (t (List (List D)) fun x=>List.map Jb.cells (bg.av r0))),AV.d (D.sl (t (List (List D)) fun x=>List.map cj.cells (bg.queue r0))),AV.d (D.int IntKind.u64 r0.7.1),AV.d (D.sl (t (List (List D)) fun x=>List.map dW.cells (BS.l (bg.ev r0)))),AV.d (D.int IntKind.u64 r0.8.1),AV.d (D.sl (t (List (List D)) fun x=>List.map dW.cells (BS.l (bg.au r0))))])]) J1 ?_
 cbv
 refine aJ ⟨3,(_,_),(o8 _ _ _).2 ?_,by simp only [ht];rfl,?_⟩
 ·exact .inl ⟨rfl,rfl,by simp only [ht,cP];rfl⟩
 rintro m ⟨i,tr⟩ hj
 replace hj:=(o8 _ _ _).1 hj
 (rcases hj with ⟨rfl,jm,jt⟩|⟨rfl,jm,jt⟩|⟨rfl,jm,jt⟩|⟨rfl,jm,jt⟩)
 ·cbv
  refine ap (fun h2=>?_) (fun h2=>?_)
  ·simp [ht,ah] at h2
   cbv
   ((refine jA [.str [97]] (by simp only [ht];decide) (by simp only [ht];rfl) ?_))
   cbv
   refine ⟨?_,?_⟩
   ·(simp only [ht];decide)
   cbv
   ((refine aK trv (yT ht _ _ _ _ _ (l:=qu (N%5) 0) (by simp only [ht];exact jt) (by have:=hl0 0 (by decide);((try simp only [ah] at*);omega)) (by decide) (by decide)) (by simp [ht]) rfl rfl rfl (fun r2 gS=>?_)))
   cbv
   refine cD (_,_) (by simp only [ht];rfl) (m-1) ?_ ((o8 _ _ _).2 ?_)
   ·omega
   exact .inr (.inl ⟨by rw [lA (by decide) (by decide)];rfl,by omega,congrArg _ (wA (k:=0) (gS.trans (ht _ _)) rfl (by simp only [ht,ea,V5];exact AT 0 (by decide) _ hm))⟩)
  simp [ht,ah] at h2
 ·cbv
  refine ap (fun h3=>?_) (fun h3=>?_)
  ·simp [ht,ah] at h3
   cbv
   ((refine jA [.str [97,47,98]] (by simp only [ht];decide) (by simp only [ht];rfl) ?_))
   cbv
   refine ⟨?_,?_⟩
   ·(simp only [ht];decide)
   cbv
   ((refine aK trv (yT ht _ _ _ _ _ (l:=qu (N%5) 1) (by simp only [ht];exact jt) (by have:=hl0 1 (by decide);((try simp only [ah] at*);omega)) (by decide) (by decide)) (by simp [ht]) rfl rfl rfl (fun r2 gS=>?_)))
   cbv
   refine cD (_,_) (by simp only [ht];rfl) (m-1) ?_ ((o8 _ _ _).2 ?_)
   ·omega
   exact .inr (.inr (.inl ⟨by rw [lA (by decide) (by decide)];rfl,by omega,congrArg _ (wA (k:=1) (gS.trans (ht _ _)) rfl (by simp only [ht,ea,V5];exact AT 1 (by decide) _ hm))⟩))
  simp [ht,ah] at h3
 ·cbv
  refine ap (fun h4=>?_) (fun h4=>?_)
  ·simp [ht,ah] at h4
   cbv
   ((refine jA [.str [98]] (by simp only [ht];decide) (by simp only [ht];rfl) ?_))
   cbv
   refine ⟨?_,?_⟩
   ·(simp only [ht];decide)
   cbv
   ((refine aK trv (yT ht _ _ _ _ _ (l:=qu (N%5) 2) (by simp only [ht];exact jt) (by have:=hl0 2 (by decide);((try simp only [ah] at*);omega)) (by decide) (by decide)) (by simp [ht]) rfl rfl rfl (fun r2 gS=>?_)))
   cbv
   refine cD (_,_) (by simp only [ht];rfl) (m-1) ?_ ((o8 _ _ _).2 ?_)
   ·omega
   exact .inr (.inr (.inr ⟨by rw [lA (by decide) (by decide)];rfl,by omega,congrArg _ (wA (k:=2) (gS.trans (ht _ _)) rfl (by simp only [ht,ea,V5];exact AT 2 (by decide) _ hm))⟩))
  simp [ht,ah] at h4
 cbv
 refine ap (fun h5=>?_) (fun h5=>?_)
 ·simp [ht,ah] at h5
 simp [ht,ah] at h5
 cbv
 obtain ⟨J6,Ua⟩:∃J6:Nat→Int×List (List D)×List (List D)→Prop,∀m i x y,J6 m (i,x,y)↔((i=0∧m=3∧x=(eV N 0).nodes.map Node.cells∧y=(eV N 0).places.map Place.cells)∨(i=1∧m=2∧x=(eV N 1).nodes.map Node.cells∧y=(eV N 1).places.map Place.cells)∨(i=2∧m=1∧x=(eV N 2).nodes.map Node.cells∧y=(eV N 2).places.map Place.cells)∨(i=3∧m=0∧x=(eV N 3).nodes.map Node.cells∧y=(eV N 3).places.map Place.cells)):=⟨fun m v=>match v with|(i,x,y)=>((i=0∧m=3∧x=(eV N 0).nodes.map Node.cells∧y=(eV N 0).places.map Place.cells)∨(i=1∧m=2∧x=(eV N 1).nodes.map Node.cells∧y=(eV N 1).places.map Place.cells)∨(i=2∧m=1∧x=(eV N 2).nodes.map Node.cells∧y=(eV N 2).places.map Place.cells)∨(i=3∧m=0∧x=(eV N 3).nodes.map Node.cells∧y=(eV N 3).places.map Place.cells)),fun _ _ _ _=>Iff.rfl⟩
 refine bM ⟨[0,2,3,43,44,45],[],[]⟩ (σ:=Int×List (List D)×List (List D)) (fun v=>[(45,.d (.int .i64 (t _ fun _=>v.1)))]) (fun v=>[(1,.var [AV.d (D.int IntKind.u64 r0.1),AV.d (D.int IntKind.u64 r0.2),.d (.sl (t _ fun _=>v.2.1)),.d (.sl (t _ fun _=>v.2.2)),AV.d (D.sl (t (List (List D)) fun x=>Prod.snd (3,tr))),AV.d (D.sl (t (List (List D)) fun x=>List.map Jb.cells (bg.av r0))),AV.d (D.sl (t (List (List D)) fun x=>List.map cj.cells (bg.queue r0))),AV.d (D.int IntKind.u64 r0.7.1),AV.d (D.sl (t (List (List D)) fun x=>List.map dW.cells (BS.l (bg.ev r0)))),AV.d (D.int IntKind.u64 r0.8.1),AV.d (D.sl (t (List (List D)) fun x=>List.map dW.cells (BS.l (bg.au r0))))])]) J6 ?_
 cbv
 refine aJ ⟨3,(_,_,_),(Ua _ _ _ _).2 ?_,by simp only [ht];rfl,?_⟩
 ·exact .inl ⟨rfl,rfl,by rw [c7];rfl,by rw [c7];rfl⟩
 rintro m ⟨i,x,y⟩ hj
 replace hj:=(Ua _ _ _ _).1 hj
 (rcases hj with ⟨rfl,jm,jx,jy⟩|⟨rfl,jm,jx,jy⟩|⟨rfl,jm,jx,jy⟩|⟨rfl,jm,jx,jy⟩)
 ·cbv
  refine ap (fun h7=>?_) (fun h7=>?_)
  ·simp [ht,ah] at h7
   cbv
   ((refine jA [.str [110,49]] (by simp only [ht];decide) (by simp only [ht];rfl) ?_))
   cbv
   refine ⟨?_,?_⟩
   ·(simp only [ht];decide)
   refine ⟨?_,?_⟩
   ·(simp only [ht];decide)
   cbv
   refine ap (fun h8=>?_) (fun h8=>?_)
   ·simp [ht,ah] at h8
    cbv
    refine ap (fun h9=>?_) (fun h9=>?_)
    ·simp [ht,ah] at h9
     cbv
     ((refine jA [.str [97]] (by simp only [ht];decide) (by simp only [ht];rfl) ?_))
     cbv
     ((refine aK trv (Jz ht (l:=(eV N 0).nodes) (ps:=(eV N 0).places) (by simp only [ht];exact jx) (by simp only [ht];exact jy) _ _ _ _ _ (lb:=AI 0) rfl false (AS hN (by decide)) (by decide) (by decide) (JJ _)) (by simp [ht]) rfl rfl rfl (fun r4 kw=>?_)))
     cbv
     refine cD (_,_,_) (by simp only [ht];rfl) (m-1) ?_ ((Ua _ _ _ _).2 ?_)
     ·omega
     (refine .inr (.inl ⟨(by rw [lA (by decide) (by decide)];rfl),by omega,?_,?_⟩);((exact congrArg (fun p:cC=>List.map Node.cells p.nodes) (nW (k:=0) (kw.trans (ht _ _)) rfl (by simp only [ht];decide) (wz hN ea ‹_› (by decide) (by decide))).symm));((exact congrArg (fun p:cC=>List.map Place.cells p.places) (nW (k:=0) (kw.trans (ht _ _)) rfl (by simp only [ht];decide) (wz hN ea ‹_› (by decide) (by decide))).symm)))
    simp [ht,ah] at h9
   simp [ht,ah] at h8
   cbv
   refine cD (_,_,_) (by simp only [ht];rfl) (m-1) ?_ ((Ua _ _ _ _).2 ?_)
   ·omega
   (refine .inr (.inl ⟨(by rw [lA (by decide) (by decide)];rfl),by omega,?_,?_⟩);((exact jx.trans (congrArg (fun p:cC=>List.map Node.cells p.nodes) (rJ (N:=N) (k:=0) (C1 hN ea ‹_› (by decide) (by decide))).symm)));((exact jy.trans (congrArg (fun p:cC=>List.map Place.cells p.places) (rJ (N:=N) (k:=0) (C1 hN ea ‹_› (by decide) (by decide))).symm))))
  simp [ht,ah] at h7
 ·cbv
  refine ap (fun h10=>?_) (fun h10=>?_)
  ·simp [ht,ah] at h10
   cbv
   ((refine jA [.str [110,50]] (by simp only [ht];decide) (by simp only [ht];rfl) ?_))
   cbv
   refine ⟨?_,?_⟩
   ·(simp only [ht];decide)
   refine ⟨?_,?_⟩
   ·(simp only [ht];decide)
   cbv
   refine ap (fun h11=>?_) (fun h11=>?_)
   ·simp [ht,ah] at h11
    cbv
    refine ap (fun h12=>?_) (fun h12=>?_)
    ·simp [ht,ah] at h12
     cbv
     ((refine jA [.str [98]] (by simp only [ht];decide) (by simp only [ht];rfl) ?_))
     cbv
     ((refine aK trv (Jz ht (l:=(eV N 1).nodes) (ps:=(eV N 1).places) (by simp only [ht];exact jx) (by simp only [ht];exact jy) _ _ _ _ _ (lb:=AI 1) rfl false (AS hN (by decide)) (by decide) (by decide) (JJ _)) (by simp [ht]) rfl rfl rfl (fun r4 kw=>?_)))
     cbv
     refine cD (_,_,_) (by simp only [ht];rfl) (m-1) ?_ ((Ua _ _ _ _).2 ?_)
     ·omega
     (refine .inr (.inr (.inl ⟨(by rw [lA (by decide) (by decide)];rfl),by omega,?_,?_⟩));((exact congrArg (fun p:cC=>List.map Node.cells p.nodes) (nW (k:=1) (kw.trans (ht _ _)) rfl (by simp only [ht];decide) (wz hN ea ‹_› (by decide) (by decide))).symm));((exact congrArg (fun p:cC=>List.map Place.cells p.places) (nW (k:=1) (kw.trans (ht _ _)) rfl (by simp only [ht];decide) (wz hN ea ‹_› (by decide) (by decide))).symm)))
    simp [ht,ah] at h12
   simp [ht,ah] at h11
   cbv
   refine cD (_,_,_) (by simp only [ht];rfl) (m-1) ?_ ((Ua _ _ _ _).2 ?_)
   ·omega
   (refine .inr (.inr (.inl ⟨(by rw [lA (by decide) (by decide)];rfl),by omega,?_,?_⟩));((exact jx.trans (congrArg (fun p:cC=>List.map Node.cells p.nodes) (rJ (N:=N) (k:=1) (C1 hN ea ‹_› (by decide) (by decide))).symm)));((exact jy.trans (congrArg (fun p:cC=>List.map Place.cells p.places) (rJ (N:=N) (k:=1) (C1 hN ea ‹_› (by decide) (by decide))).symm))))
  simp [ht,ah] at h10
 ·cbv
  refine ap (fun P7=>?_) (fun P7=>?_)
  ·simp [ht,ah] at P7
   cbv
   ((refine jA [.str [110,51]] (by simp only [ht];decide) (by simp only [ht];rfl) ?_))
   cbv
   refine ⟨?_,?_⟩
   ·(simp only [ht];decide)
   refine ⟨?_,?_⟩
   ·(simp only [ht];decide)
   cbv
   refine ap (fun MY=>?_) (fun MY=>?_)
   ·simp [ht,ah] at MY
    cbv
    refine ap (fun ZO=>?_) (fun ZO=>?_)
    ·simp [ht,ah] at ZO
    simp [ht,ah] at ZO
    cbv
    ((refine aK trv (Jz ht (l:=(eV N 2).nodes) (ps:=(eV N 2).places) (by simp only [ht];exact jx) (by simp only [ht];exact jy) _ _ _ _ _ (lb:=AI 2) rfl false (AS hN (by decide)) (by decide) (by decide) (JJ _)) (by simp [ht]) rfl rfl rfl (fun r4 kw=>?_)))
    cbv
    refine cD (_,_,_) (by simp only [ht];rfl) (m-1) ?_ ((Ua _ _ _ _).2 ?_)
    ·omega
    (refine .inr (.inr (.inr ⟨(by rw [lA (by decide) (by decide)];rfl),by omega,?_,?_⟩));((exact congrArg (fun p:cC=>List.map Node.cells p.nodes) (nW (k:=2) (kw.trans (ht _ _)) rfl (by simp only [ht];decide) (wz hN ea ‹_› (by decide) (by decide))).symm));((exact congrArg (fun p:cC=>List.map Place.cells p.places) (nW (k:=2) (kw.trans (ht _ _)) rfl (by simp only [ht];decide) (wz hN ea ‹_› (by decide) (by decide))).symm)))
   simp [ht,ah] at MY
   cbv
   refine cD (_,_,_) (by simp only [ht];rfl) (m-1) ?_ ((Ua _ _ _ _).2 ?_)
   ·omega
   (refine .inr (.inr (.inr ⟨(by rw [lA (by decide) (by decide)];rfl),by omega,?_,?_⟩));((exact jx.trans (congrArg (fun p:cC=>List.map Node.cells p.nodes) (rJ (N:=N) (k:=2) (C1 hN ea ‹_› (by decide) (by decide))).symm)));((exact jy.trans (congrArg (fun p:cC=>List.map Place.cells p.places) (rJ (N:=N) (k:=2) (C1 hN ea ‹_› (by decide) (by decide))).symm))))
  simp [ht,ah] at P7
 cbv
 refine ap (fun P8=>?_) (fun P8=>?_)
 ·simp [ht,ah] at P8
 simp [ht,ah] at P8
 cbv
 refine aA trv trv rfl rfl rfl ?_
 (simp only [ht,c7,jt,jx,jy];rfl)
end Dem
end
section
open Go
namespace Dem
def eR (s:bg) (id:Int):Jb×Bool:=((bI s.av id).1,(bI s.av id).2&&!(bI s.av id).1.runs)
def ic (s:bg) (id:Int) (of:cC) (within:aQ→bO→Bool):List aQ×Bool:=
 if !(eR s id).2 then ([],false) else
 if !(cU (eR s id).1.x).2||!(fit (eP of) (eR s id).1.x.ct (eR s id).1.x.gu (eR s id).1.x.count).2||!within (eR s id).1.x.path (cU (eR s id).1.x).1 then ([],false) else
 ((fit (eP of) (eR s id).1.x.ct (eR s id).1.x.gu (eR s id).1.x.count).1,true)
def gi (s:bg) (id:Int):List aQ×Bool:=ic s id s.bf fun p v=>decide ((cY s.tree p v).2=0)
def nX (t:List bw):List bw:=t.map fun e=>{e with used:=bO.zero}
def qy (t:List bw) (p:aQ) (v:bO):Bool:=decide ((cY (nX t) p v).2=0)
def de (s:bg) (id:Int):Bool:=(ic s id ⟨s.bf.nodes,[]⟩ fun p v=>qy s.tree p v).2
def fo (a b:Jb):Bool:=decide (a.x.prio<b.x.prio)||(decide (a.x.prio=b.x.prio)&&decide (b.id≤a.id))
def cq (s:bg) (id:Int):List Int:=
 if !(bI s.av id).2 then [] else
 ((s.av.filter fun o=>o.runs&&decide (o.x.prio<(bI s.av id).1.x.prio)).mergeSort fo).map (·.id)
def aI (s:bg) (l:List Int):bg:=l.foldl (fun s id=>(gB s id 5).1) s
def fW (s:bg) (id:Int) (l:List Int):List aQ×Bool:=gi (aI s l) id
def kR (s:bg) (id:Int) (all:List Int):Nat→Nat→Option (List Int×List aQ)
 |0,_=>none
 |n+1,k=>if (fW s id (all.take k)).2 then some (all.take k,(fW s id (all.take k)).1) else kR s id all n (k+1)
def gm (s:bg) (id:Int):Nat→Nat→List Int→List aQ→List Int×List aQ
 |0,_,l,nodes=>(l,nodes)
 |n+1,k,l,nodes=>if k<l.length then
  (if (fW s id (l.eraseIdx k)).2 then gm s id n k (l.eraseIdx k) (fW s id (l.eraseIdx k)).1 else gm s id n (k+1) l nodes)
  else (l,nodes)
def aC (s:bg) (id:Int):List Int×List aQ×Bool:=match kR s id (cq s id) ((cq s id).length+1) 0 with
 |none=>([],[],false)
 |some (l,nodes)=>((gm s id (l.length+1) 0 l nodes).1,(gm s id (l.length+1) 0 l nodes).2,true)
end Dem
end
section
open Go Dem Go.Proofs
namespace Dem
variable {t:Th}
def bw.bare (e:bw):bw:={e with used:=bO.zero}
theorem Qg (l:List bw):nX l=l.map bw.bare:=rfl
theorem M7 {l:List bw} {k:Nat} {x:bw} {u:List (List D)} (hx:l[k]?=some x) (hu:u=((l.take k).map bw.bare++l.drop k).map bw.cells):
 u.set k (bt (u.getD k []) 5 [.int .u64 0,.int .u64 0,.int .u64 0,.int .u64 0])=((l.take (k+1)).map bw.bare++l.drop (k+1)).map bw.cells:=by
 have hk:k<l.length:=(List.getElem?_eq_some_iff.1 hx).1
 have e1:u.getD k []=bw.cells x:=by
  rw [hu,List.getD_eq_getElem?_getD,List.getElem?_map,List.getElem?_append_right (by simp;omega),List.getElem?_drop]
  simp [show min k l.length=k by omega,hx]
 rw [e1,hu,dP hx,jD hx]
 simp only [List.map_append,List.map_cons,List.map_nil,List.append_assoc,List.singleton_append]
 rw [List.set_append_right _ _ (by simp;omega)]
 simp [show min k l.length=k by omega,bw.bare,bw.cells,bt,bO.zero]
theorem Qh {l:List bw} {k:Nat} {u:List (List D)} (hk:k<l.length) (hu:u=((l.take k).map bw.bare++l.drop k).map bw.cells):k<u.length∧5+4≤(u.getD k []).length:=by
 obtain ⟨x,hx⟩:∃x,l[k]?=some x:=⟨l[k],by simp⟩
 have e1:u.getD k []=bw.cells x:=by
  rw [hu,List.getD_eq_getElem?_getD,List.getElem?_map,List.getElem?_append_right (by simp;omega),List.getElem?_drop]
  simp [show min k l.length=k by omega,hx]
 rw [e1]
 exact ⟨by rw [hu];simp;omega,Nat.le_refl _⟩
theorem Qi (ht:TT t) (q:aQ) (v1 v2 v3 v4:Int) {l:List bw} {es:List (List D)} (aG:es=l.map bw.cells) (hl:l.length<100000) (hq:q.length<1000000000000):
 FC 61 [SL es,ST q,V4 v1 v2 v3 v4] [] (.ret (dn (t _ fun _=>qy l q ⟨v1,v2,v3,v4⟩))) []:=by
 obtain ⟨m,hm⟩:∃m,m=l.length:=⟨_,rfl⟩
 have hel:m=es.length:=by rw [aG,lgM,hm]
 have hrows:∀r∈es,r.length=9:=by rw [aG];intro r hr;obtain ⟨y,_,rfl⟩:=List.mem_map.1 hr;rfl
 obtain ⟨R,hR⟩:∃R,R=qy l q ⟨v1,v2,v3,v4⟩:=⟨_,rfl⟩
 rw [←hR]
 refine bP ht (aV:=[]) Tryz.func61 rfl rfl (N:=33) rfl rfl (n:=0) rfl rfl ?_
 cbv
 have az:es.length=l.length:=by rw [aG,lgM]
 (refine jB trv (AQ ht hrows (by omega) hel) trv rfl (.inr rfl) ?_)
 cbv
 refine ⟨?_,?_⟩
 ·(simp only [ht,ah] at*;omega)
 cbv
 obtain ⟨J0,fH⟩:∃J0:Nat→Int×List (List D)→Prop,∀n i u,J0 n (i,u)↔(∃k:Nat,i=k∧k+n=m∧u=((l.take k).map bw.bare++l.drop k).map bw.cells):=⟨fun n v=>match v with|(i,u)=>(∃k:Nat,i=k∧k+n=m∧u=((l.take k).map bw.bare++l.drop k).map bw.cells),fun _ _ _=>Iff.rfl⟩
 refine bM ⟨[1,5,7,14,15],[],[]⟩ (σ:=Int×List (List D)) (fun v=>[(15,.d (.int .i64 (t _ fun _=>v.1)))]) (fun v=>[(1,.row 9 (t _ fun _=>v.2))]) J0 ?_
 cbv
 refine aJ ⟨m,(_,_),(fH _ _ _).2 ?_,by simp only [ht];rfl,?_⟩
 ·exact ⟨0,rfl,by simp,by simp [aG]⟩
 rintro n ⟨i,u⟩ hj
 replace hj:=(fH _ _ _).1 hj
 obtain ⟨k,rfl,j1,j4⟩:=hj
 cbv
 refine ap (fun h1=>?_) (fun h1=>?_)
 ·simp [ht,ah,az] at h1
  cbv
  refine ⟨?_,?_⟩
  ·(simp only [ht,ah] at*;omega)
  refine ⟨?_,?_⟩
  ·(simp only [ht,ah,Int.toNat_natCast];exact Qh (by ((try simp only [ah] at*);omega)) j4)
  cbv
  refine cD (_,_) (by simp only [ht];rfl) (n-1) ?_ ((fH _ _ _).2 ?_)
  ·omega
  simp only [ht,ah]
  (obtain ⟨x,hx⟩:∃x,l[k]?=some x:=⟨l[k]'(by ((try simp only [ah] at*);omega)),by simp⟩;exact ⟨k+1,aH (by ((try simp only [ah] at*);omega)),by ((try simp only [ah] at*);omega),M7 hx j4⟩)
 simp [ht,ah,az] at h1
 cbv
 (have j5:u=(nX l).map bw.cells:=(by rw [j4,List.take_of_length_le (by ((try simp only [ah] at*);omega)),List.drop_eq_nil_of_le (by ((try simp only [ah] at*);omega))];simp [Qg]);have h5:(nX l).length=l.length:=(by simp [nX]);refine I5 (E:=AP t) (r0:=t _ fun _=>cY (nX l) q ⟨v1,v2,v3,v4⟩) trv rfl (by simp [ht,j5,h5,hm]) (by exact dI [] rfl rfl rfl rfl (tB ht q v1 v2 v3 v4 (l:=nX l) (by simp only [ht];exact j5) (by ((try simp only [ah] at*);omega)) hq)) (fun r1 cP=>?_);simp only [ht] at cP)
 cbv
 refine aA trv trv rfl rfl rfl ?_
 (simp only [ht,hR,qy,←cP,dn];done)
end Dem
end
section
open Go
namespace Dem
theorem x5 {l m:List cj} (hl:yz l) (hm:yz m) (h:∀q,q∈l↔q∈m):l=m:=by
 have hn:∀{r:List cj},yz r→r.Nodup:=fun {r} hr=>by
  rw [List.nodup_iff_pairwise_ne]
  exact hr.imp fun {a b} g e=>by subst e;rw [gk] at g;omega
 exact ((List.perm_ext_iff_of_nodup (hn hl) (hn hm)).2 h).eq_of_pairwise (fun a b _ _ h1 h2=>by rw [gk] at h1 h2;omega) hl hm
theorem cg.trans {a b c:List bw} (h:cg a b) (g:cg b c):cg a c:=⟨by rw [g.len,h.len],fun i e hi=>by
 obtain ⟨x,h1,h2,h3⟩:=h.at_ i e hi
 obtain ⟨y,g1,g2,g3⟩:=g.at_ i x h1
 exact ⟨y,g1,by rw [g2,h2],by rw [g3,h3]⟩⟩
theorem cg.refl (a:List bw):cg a a:=⟨rfl,fun _ e hi=>⟨e,hi,rfl,rfl⟩⟩
theorem fq {l:List Jb} (ha:rT l) {i:Nat} {j:Jb} (hj:l[i]?=some j):l.findIdx? (fun x=>decide (x.id=j.id))=some i∧l.getD i Jb.zero=j∧bI l j.id=(j,true):=by
 have h1:l.findIdx? (fun x=>decide (x.id=j.id))=some i:=by
  cases h:l.findIdx? (fun x=>decide (x.id=j.id)) with
  |none=>rw [List.findIdx?_eq_none_iff] at h;have:=h j (List.mem_of_getElem? hj);simp at this
  |some k=>
   obtain ⟨y,a,b,_⟩:=nt h
   rw [uY ha a hj b]
 refine ⟨h1,by rw [List.getD_eq_getElem?_getD,hj];rfl,?_⟩
 unfold bI
 cases h:l.find? (fun x=>decide (x.id=j.id)) with
 |none=>rw [List.find?_eq_none] at h;have:=h j (List.mem_of_getElem? hj);simp at this
 |some y=>
  have e:=List.find?_some h
  simp only [decide_eq_true_eq] at e
  simp only
  rw [c6 ha (List.mem_of_find?_eq_some h) (List.mem_of_getElem? hj) e]
abbrev Jb.begun (j:Jb):Jb:={j with runs:=true,left:=j.x.fG}
abbrev Jb.halted (j:Jb):Jb:={j with runs:=false,left:=0}
theorem rK {s:bg} (h:s.ok) {id:Int} {names:List aQ} (e:(bZ s id names).2=0):
 ∃(i:Nat) (j:Jb) (T:List bw),s.av[i]?=some j∧j.id=id∧j.runs=false∧(names.length:Int)=j.x.count∧cg s.tree T∧
  (bZ s id names).1=iI ⟨s.round,s.next,⟨s.bf.nodes,s.bf.places++names.map (fun n=>⟨id,n,j.x.gu⟩)⟩,T,s.av.set i j.begun,s.queue.filter (fun q=>!decide (q.id=id)),s.ev,s.au⟩ id 2:=by
 unfold bZ at e ⊢
 cases hf:s.av.findIdx? (fun j=>decide (j.id=id)) with
 |none=>rw [hf] at e;cases e
 |some i=>
  obtain ⟨j,hj,hid,c⟩:=nt hf
  rw [hf] at e
  simp only at e ⊢
  rw [c] at e ⊢
  unfold jF at e ⊢
  by_cases h1:j.runs=true
  ·rw [if_pos h1] at e;cases e
  rw [if_neg h1] at e ⊢
  by_cases h2:(names.length:Int)≠j.x.count
  ·rw [if_pos h2] at e;cases e
  rw [if_neg h2] at e ⊢
  by_cases h3:(!(cU j.x).2)=true
  ·rw [if_pos h3] at e;cases e
  rw [if_neg h3] at e ⊢
  by_cases h4:(cY s.tree j.x.path (cU j.x).1).2≠0
  ·rw [if_pos h4] at e;exact absurd e h4
  rw [if_neg h4] at e ⊢
  simp only [Decidable.not_not] at h2 h4
  rcases AD s.bf id names j.x.gu with ⟨_,e2⟩|⟨e2,_⟩
  ·rw [if_pos e2] at e;exact absurd e e2
  rw [if_neg (by rw [e2];simp)]
  refine ⟨i,j,_,hj,hid,by simpa using h1,h2,(CR h h4).2.1,?_⟩
  rw [lB h.kK,e2];rfl
theorem AU {s:bg} (h:s.ok) {i:Nat} {j:Jb} (hj:s.av[i]?=some j) (hr:j.runs=true) (kind:Int):
 ∃T Q,cg s.tree T∧gB s j.id kind=(iI ⟨s.round,s.next,qo s.bf j.id,T,s.av.set i j.halted,Q,s.ev,s.au⟩ j.id kind,0):=by
 obtain ⟨h1,h2,_⟩:=fq h.ids hj
 refine ⟨_,(jU s.queue ⟨j.id,j.x.prio⟩).1,(nS h hj hr).2.2.1,?_⟩
 unfold gB
 rw [h1]
 simp only
 rw [h2,if_neg (by simp [hr]),h.jH hj hr]
 simp [CK]
theorem yU {s:bg} (h:s.ok) {i:Nat} {j:Jb} (hj:s.av[i]?=some j) (kind:Int):
 (send s j.id kind).2=0∧(j.runs=false→send s j.id kind=(iI ⟨s.round,s.next,s.bf,s.tree,s.av.eraseIdx i,s.queue.filter (fun q=>!decide (q.id=j.id)),s.ev,s.au⟩ j.id kind,0))∧
 (j.runs=true→∃T,cg s.tree T∧send s j.id kind=(iI ⟨s.round,s.next,qo s.bf j.id,T,s.av.eraseIdx i,s.queue,s.ev,s.au⟩ j.id kind,0)):=by
 obtain ⟨h1,h2,_⟩:=fq h.ids hj
 unfold send
 rw [h1]
 simp only
 rw [h2]
 refine ⟨trv,fun hr=>?_,fun hr=>?_⟩
 ·rw [hr,if_neg (by simp),lB h.kK]
 refine ⟨_,(nS h hj hr).2.2.1,?_⟩
 rw [if_pos hr,h.jH hj hr]
theorem JK {s:bg} (h:s.ok) {x:Ask} (e:(cW s x).2.2=0):
 (cW s x).2.1=s.next∧s.next+1<18446744073709551616∧
 (cW s x).1=iI ⟨s.round,s.next+1,s.bf,s.tree,s.av++[⟨s.next,x,false,0⟩],s.queue.take (uO s.queue ⟨s.next,x.prio⟩)++⟨s.next,x.prio⟩::s.queue.drop (uO s.queue ⟨s.next,x.prio⟩),s.ev,s.au⟩ s.next 1:=by
 unfold cW at e ⊢
 by_cases h1:eO x≠0
 ·rw [if_pos h1] at e;exact absurd e h1
 rw [if_neg h1] at e ⊢
 by_cases h2:(!jE s.tree x.path)=true
 ·rw [if_pos h2] at e;cases e
 rw [if_neg h2] at e ⊢
 by_cases h3:32≤s.av.length∨s.next=18446744073709551615
 ·rw [if_pos h3] at e;cases e
 rw [if_neg h3] at e ⊢
 have hnx:=h.next
 rcases qt s.queue ⟨s.next,x.prio⟩ with ⟨_,e2,_⟩|⟨e2,_⟩
 ·rw [if_pos e2] at e;exact absurd e e2
 rw [e2,if_neg (by simp)]
 have hu:u64 (s.next+1)=s.next+1:=by unfold u64;omega
 rw [hu]
 exact ⟨rfl,by omega,rfl⟩
theorem C2 {s:bg} {x:Ask} (e:(cW s x).2.2≠0):(cW s x).1=s∧(cW s x).2.1=0∧(eO x=0∨(cW s x).2.2=eO x):=by
 unfold cW at e ⊢
 by_cases h1:eO x≠0
 ·rw [if_pos h1];exact ⟨rfl,rfl,.inr rfl⟩
 rw [if_neg h1] at e ⊢
 simp only [Decidable.not_not] at h1
 by_cases h2:(!jE s.tree x.path)=true
 ·rw [if_pos h2];exact ⟨rfl,rfl,.inl h1⟩
 rw [if_neg h2] at e ⊢
 by_cases h3:32≤s.av.length∨s.next=18446744073709551615
 ·rw [if_pos h3];exact ⟨rfl,rfl,.inl h1⟩
 rw [if_neg h3] at e ⊢
 by_cases h4:(jU s.queue ⟨s.next,x.prio⟩).2≠0
 ·rw [if_pos h4];exact ⟨rfl,rfl,.inl h1⟩
 rw [if_neg h4] at e;exact absurd rfl e
end Dem
end
