/- Parts of a proof, joined. -/
import Derived.Test.YtihohjnkkalgiaaGreatDoorS18
set_option linter.all false
set_option maxRecDepth 100000
set_option maxHeartbeats 4000000
section
open Go Dem Go.Proofs
namespace Dem
variable {t:Th}
def Qm (r:bg×Int):AV:=.eA [X2 r.1,bG r.2]
theorem S7 (ht:TT t) (a0 a1 a2 a3 b0 b1 b2 b3:Int):FC 170 [V4 a0 a1 a2 a3,V4 b0 b1 b2 b3] [] (.ret (YR (t _ fun _=>ej ⟨a0,a1,a2,a3⟩ ⟨b0,b1,b2,b3⟩))) []:=by
 simp only [ht];exact EF ht _ _ _ _ _ _ _ _ rfl
theorem JV (ht:TT t) (v1 v2 v3 v4:Int) (p:aK) (a b c d e f g h:Int):
 FC 105 [V4 v1 v2 v3 v4,.agg [ST p,aC a,aC b,aC c,aC d,aC e,aC f,aC g,aC h]] [] (.ret (Qm (t _ fun _=>fK ⟨v1,v2,v3,v4⟩ ⟨p,⟨a,b,c,d⟩,⟨e,f,g,h⟩⟩))) []:=by
 obtain ⟨⟨⟨s1,s2,s3,s4⟩,k⟩,hS⟩:∃r,r=jX ⟨e,f,g,h⟩ ⟨v1,v2,v3,v4⟩:=⟨_,rfl⟩
 refine bP ht (aQ:=[]) Tryz.func105 rfl rfl (N:=28) rfl rfl (n:=0) rfl rfl ?_
 cbv
 refine gB trv (Vs ht _ _ _ _ _ _ _ _ ‹_›) trv rfl rfl ?_
 cbv
 refine av (fun h0=>?_) (fun h0=>?_)
 ·simp [ht] at h0
  cbv
  refine az trv trv rfl rfl rfl ?_
  (simp only [ht,fK,←hS];simp_all;done)
 simp [ht] at h0
 cbv
 refine bc trv (vC ht _ _ _ _ _ _ _ _) trv rfl rfl (fun r1 cF=>?_)
 simp only [ht] at cF
 cbv
 refine av (fun h2=>?_) (fun h2=>?_)
 ·simp [ht] at h2
  cbv
  refine az trv trv rfl rfl rfl ?_
  (simp only [ht,fK,←hS];simp_all;done)
 simp [ht] at h2
 cbv
 refine az trv trv rfl rfl rfl ?_
 (simp only [ht,fK,←hS];simp_all;done)
theorem JW (ht:TT t) (v1 v2 v3 v4:Int) (p:aK) (a b c d e f g h:Int):
 FC 159 [V4 v1 v2 v3 v4,.agg [ST p,aC a,aC b,aC c,aC d,aC e,aC f,aC g,aC h]] [] (.ret (Qm (t _ fun _=>eI ⟨v1,v2,v3,v4⟩ ⟨p,⟨a,b,c,d⟩,⟨e,f,g,h⟩⟩))) []:=by
 obtain ⟨⟨⟨s1,s2,s3,s4⟩,k⟩,hS⟩:∃r,r=ej ⟨e,f,g,h⟩ ⟨v1,v2,v3,v4⟩:=⟨_,rfl⟩
 refine bP ht (aQ:=[]) Tryz.func159 rfl rfl (N:=22) rfl rfl (n:=0) rfl rfl ?_
 cbv
 refine gB trv (EF ht _ _ _ _ _ _ _ _ ‹_›) trv rfl rfl ?_
 cbv
 refine av (fun h0=>?_) (fun h0=>?_)
 ·simp [ht] at h0
  cbv
  refine az trv trv rfl rfl rfl ?_
  (simp only [ht,eI,←hS];simp_all;done)
 simp [ht] at h0
 cbv
 refine az trv trv rfl rfl rfl ?_
 (simp only [ht,eI,←hS];simp_all;done)
theorem S8 (ht:TT t) (q:aK) {l:List bg} {es:List (List D)} (aE:es=l.map bg.cells) (hl:l.length<1000000000) {r:Bool} (hr:r=decide (cm l q<0)):
 FC 157 [ST q,.ptr 0 0] [.var [SL es]] (.ret (BL r)) [.var [SL es]]:=by
 refine bP ht (aQ:=[.var [SL es]]) Tryz.func157 rfl rfl (N:=8) rfl rfl (n:=1) rfl rfl ?_
 cbv
 have aD:es.length=l.length:=by rw [aE,lgM]
 refine bc trv (lU ht _ ‹_› ‹_›) trv rfl rfl (fun r0 dj=>?_)
 simp only [ht] at dj
 cbv
 refine az trv trv rfl rfl rfl ?_
 (simp [*];done)
theorem Nc (ht:TT t) (ts:List (List D)) {l:List (aK)} {es:List (List D)} (aE:es=l.map bE) (f:Nat) (p:aK→Bool) (hl:l.length<9223372036854775807)
 (hf:∀x∈l,FC f [.d (.str x),.ptr 0 0] [.var [SL ts]] (.ret (BL (p x))) [.var [SL ts]]) {r:Int} (hr:r=idxOf p l):FC 199 [SL es,.fn f [.ptr 0 0]] [.var [SL ts]] (.ret (bG r)) [.var [SL ts]]:=by
 have hel:es.length=l.length:=by rw [aE,lgM]
 obtain ⟨J,hJ⟩:∃J:Nat→Nat→Prop,∀n v,J n v↔(v+n=l.length∧∀i<v,∀x,l[i]?=some x→p x=false):=⟨fun n v=>v+n=l.length∧∀i<v,∀x,l[i]?=some x→p x=false,fun _ _=>Iff.rfl⟩
 refine bP ht (aQ:=[.var [SL ts]]) Tryz.func199 rfl rfl (N:=19) rfl rfl (n:=1) rfl rfl ?_
 cbv
 refine bH ⟨[0,1,7,8],[],[]⟩ (σ:=Nat) (fun k=>[(8,bG (t _ fun _=>(k:Int)))]) (fun _=>[]) J ?_
 cbv
 refine aH ⟨l.length,0,(hJ _ _).2 ⟨by omega,by intro i hi;simp at hi⟩,by simp only [ht];rfl,?_⟩
 rintro n k hj
 obtain ⟨h2,h3⟩:=(hJ _ _).1 hj
 clear hj
 cbv
 refine av (fun h=>?_) (fun h=>?_)
 ·simp only [ht,ah,decide_eq_true_eq] at h
  have hk:k<l.length:=by omega
  obtain ⟨x,hx⟩:∃x,l[k]?=some x:=⟨l[k],by simp⟩
  have pG:x∈l:=List.mem_of_getElem? hx
  have ix:=hf x pG
  obtain ⟨px,hpx⟩:∃b,b=p x:=⟨_,rfl⟩
  rw [←hpx] at ix
  skip
  cbv
  refine jG [.str x] ?_ ?_ ?_
  ·simp only [ht,ah];refine ⟨by omega,h,?_⟩;rw [aE];intro r hr;obtain ⟨y,_,rfl⟩:=List.mem_map.1 hr;rfl
  ·simp [ht,ah,aE,hx]
  cbv
  refine eG trv ix ?_
  cbv
  refine av (fun hb=>?_) (fun hb=>?_)
  ·cbv
   refine az trv trv rfl rfl rfl ?_
   have e:=dD hx (hpx▸hb) h3
   simp only [ht,ah,hr,idxOf,e]
  cbv
  refine aH ⟨n-1,k+1,⟨by omega,(hJ _ _).2 ⟨by omega,?_⟩⟩,?_⟩
  ·intro i hi y hy
   by_cases hik:i<k
   ·exact h3 i hik y hy
   have:i=k:=by omega
   subst this;rw [hx] at hy;cases hy;rw [←hpx];exact hb
  simp only [ht,ah,aG (show k<9223372036854775807 by omega)];rfl
 simp only [ht,ah,decide_eq_false_iff_not] at h
 have hk:¬k<l.length:=by omega
 clear h
 cbv
 refine az trv trv rfl rfl rfl ?_
 rw [hr,idxOf,dQ]
 intro i y hy
 have:i<l.length:=by
  rcases Nat.lt_or_ge i l.length with h'|h';· exact h'
  simp [List.getElem?_eq_none h'] at hy
 exact h3 i (by omega) y hy
theorem Ng (ht:TT t) (ts:List (List D)) {l:List (aK)} {es:List (List D)} (aE:es=l.map bE) (f:Nat) (p:aK→Bool) (hl:l.length<9223372036854775807)
 (hf:∀x∈l,FC f [.d (.str x),.ptr 0 0] [.var [SL ts]] (.ret (BL (p x))) [.var [SL ts]]) {r:Bool} (hr:r=l.any p):FC 156 [SL es,.fn f [.ptr 0 0]] [.var [SL ts]] (.ret (BL r)) [.var [SL ts]]:=by
 obtain ⟨k,hk⟩:∃k,k=idxOf p l:=⟨_,rfl⟩
 refine bP ht (aQ:=[.var [SL ts]]) Tryz.func156 rfl rfl (N:=9) rfl rfl (n:=1) rfl rfl ?_
 cbv
 refine eG trv (Nc ht ts aE f p hl hf hk) ?_
 cbv
 refine az trv trv rfl rfl rfl ?_
 simp only [ht,hr,iQ,hk]
theorem Nh (ht:TT t) {l:List bg} {qs:List aK} {es ss:List (List D)} (aE:es=l.map bg.cells) (hss:ss=qs.map bE) (hl:l.length<1000000000) (hq:qs.length<1000000000) {r:Bool} (hr:r=qs.any (fun q=>decide (cm l q<0))):
 FC 156 [SL ss,.fn 157 [.ptr 0 0]] [.var [SL es]] (.ret (BL r)) [.var [SL es]]:=
 Ng ht es hss 157 (fun q=>decide (cm l q<0)) (by omega) (fun x _=>S8 ht x aE hl rfl) hr
theorem HF (ht:TT t) {es:List (List D)} (aE:∀r∈es,r.length=9) (hs:es.length*80≤140737488355328) {m:Nat} (hm:m=es.length):
 FC 158 [SL es] [] (.ret (.ow 0 9 m)) [.row 9 es]:=by
 refine bP ht (aQ:=[]) Tryz.func158 rfl rfl (N:=8) rfl rfl (n:=0) rfl rfl ?_
 cbv
 refine ⟨fun b hb=>?_⟩
 simp only [ht] at hb
 cbv
 refine av (fun h=>?_) (fun h=>?_)
 ·have he:=hb h
  subst he
  cbv
  exact GK trv rfl rfl (by rw [hm];rfl) rfl
 clear hb h
 cbv
 refine ⟨?_,?_⟩
 ·simp only [ht];simp;exact ⟨hs,aE⟩
 refine B5 trv rfl rfl rfl rfl ?_ ?_
 ·simp only [ht];rw [hm];simp
 simp only [ht];rfl
theorem EN (ht:TT t) {l:List bg} {es:List (List D)} (aE:es=l.map bg.cells) (hs:l.length<1000000000):
 FC 158 [SL es] [] (.ret (.ow 0 9 (t _ fun _=>(l.map bg.cells).length))) [.row 9 (t _ fun _=>l.map bg.cells)]:=by
 simp only [ht];subst aE
 refine HF ht ?_ ?_ (by simp)
 ·intro r hr;obtain ⟨y,_,rfl⟩:=List.mem_map.1 hr;rfl
 simp;omega
theorem Ni (q:aK):(above q).length≤4:=by
 have h1:=iu q
 have h2:=kq q
 simp only [above,List.length_cons];omega
theorem VC {l:List bg} {qs:List aK} {k:Nat} {x:aK} (h:qs.any (fun q=>decide (cm l q<0))=false) (hx:qs[k]?=some x):∃(i:Nat) (y:bg),cm l x=i∧l[i]?=some y∧i<l.length:=by
 have h1:¬cm l x<0:=by
  intro h2
  have:qs.any (fun q=>decide (cm l q<0))=true:=List.any_eq_true.2 ⟨x,List.mem_of_getElem? hx,by simpa using h2⟩
  rw [h] at this;cases this
 rcases qM (q:=x) (r:=cm l x) rfl with ⟨e1,_,_⟩|⟨i,y,e1,_,e2,e3,_⟩
 ·omega
 exact ⟨i,y,e1,e3,e2⟩
theorem LU (ht:TT t) (f:Nat) (g:bg→bg×Int) (v1 v2 v3 v4:Int) (q:aK) {l:List bg} {es:List (List D)} (aE:es=l.map bg.cells) (hl:l.length<100000) (hq:q.length<1000000000000)
 (hf:∀(p:aK) (a b c d e z g0 h:Int),FC f [V4 v1 v2 v3 v4,.agg [ST p,aC a,aC b,aC c,aC d,aC e,aC z,aC g0,aC h]] [] (.ret (Qm (t _ fun _=>g ⟨p,⟨a,b,c,d⟩,⟨e,z,g0,h⟩⟩))) []):
 FC 104 [SL es,ST q,.fn f [.eA [V4 v1 v2 v3 v4]]] [] (.ret (A5 t (t _ fun _=>pu g l q))) []:=by
 have hal:=Ni q
 obtain ⟨nq,Fg⟩:∃p,p=named q:=⟨_,rfl⟩
 obtain ⟨aq,X7⟩:∃p,p=above q:=⟨_,rfl⟩
 rw [←X7] at hal
 refine bP ht (aQ:=[]) Tryz.func104 rfl rfl (N:=55) rfl rfl (n:=0) rfl rfl ?_
 cbv
 have aD:es.length=l.length:=by rw [aE,lgM]
 refine bc trv (A4 ht _ ‹_›) trv rfl rfl (fun r0 dj=>?_)
 simp only [ht] at dj
 rw [←Fg] at dj
 subst r0
 cbv
 refine av (fun h1=>?_) (fun h1=>?_)
 ·simp [ht] at h1
  cbv
  refine az trv trv rfl rfl rfl ?_
  (simp only [ht,pu,←Fg,←X7];simp_all;done)
 simp [ht] at h1
 cbv
 refine aF trv (HC ht _ ‹_›) trv rfl rfl rfl (fun r2 iJ=>?_)
 simp only [ht] at iJ
 rw [←X7] at iJ
 subst r2
 cbv
 (obtain ⟨r9,jU⟩:∃r,r=aq.any (fun q=>decide (cm l q<0)):=⟨_,rfl⟩;refine dP [0] trv rfl rfl (Nh ht aE (qs:=aq) (by simp only [ht]) (by omega) (by omega) jU) (cK ?_))
 cbv
 refine av (fun h3=>?_) (fun h3=>?_)
 ·cbv
  refine az trv trv rfl rfl rfl ?_
  (simp only [ht,pu,←Fg,←X7];simp_all;done)
 cbv
 refine jY trv (EN ht ‹_› (by omega)) trv rfl (.inr rfl) ?_
 cbv
 obtain ⟨J4,Iw⟩:∃J4:Nat→Int×List (List D)→Prop,∀n i u,J4 n (i,u)↔(∃(k:Nat) (o:List bg),i=k∧k+n=aq.length∧u=o.map bg.cells∧o.length=l.length∧pu g l q=kr g l (aq.drop k) o):=⟨fun n v=>match v with|(i,u)=>(∃(k:Nat) (o:List bg),i=k∧k+n=aq.length∧u=o.map bg.cells∧o.length=l.length∧pu g l q=kr g l (aq.drop k) o),fun _ _ _=>Iff.rfl⟩
 refine bH ⟨[2,3,9,27,28,29],[],[]⟩ (σ:=Int×List (List D)) (fun v=>[(29,.d (.int .i64 (t _ fun _=>v.1)))]) (fun v=>[(1,.row 9 (t _ fun _=>v.2))]) J4 ?_
 cbv
 refine aH ⟨aq.length,(_,_),(Iw _ _ _).2 ?_,by simp only [ht];rfl,?_⟩
 ·exact ⟨0,l,rfl,by simp,rfl,rfl,by rw [pu,←Fg,←X7,←jU];simp_all⟩
 rintro n ⟨i,u⟩ hj
 replace hj:=(Iw _ _ _).1 hj
 obtain ⟨k,o,rfl,j1,j2,j3,j4⟩:=hj
 have yg:u.length=o.length:=by rw [j2,lgM]
 cbv
 refine av (fun h5=>?_) (fun h5=>?_)
 ·simp [ht,ah] at h5
  cbv
  (refine kp ht (l:=aq) (cells:=bE) (cT:=gw t) (by simp only [ht];done) (by simp only [ht,ah];omega) (by simp only [ht,ah];omega) (fun _=>rfl) (fun _=>rfl) (fun xn Uv=>?_);simp only [ht] at Uv;replace Uv:aq[k]?=some xn:=Uv;rw [jI Uv,kr] at j4;obtain ⟨zz,y,e1,e2,e3⟩:=VC (jU.symm.trans ‹_›) Uv;rw [e1] at j4;simp only [Int.toNat_natCast,List.getD_eq_getElem?_getD,e2,Option.getD_some] at j4)
  cbv
  refine bc trv (lU ht _ ‹_› (by omega)) trv rfl rfl (fun r6 ol=>?_)
  simp only [ht] at ol
  rw [e1] at ol
  cbv
  refine so ht aE (cT:=bg.aZ t) e2 ‹_› (fun _=>rfl) (fun _=>rfl) ?_
  cbv
  (refine bc trv (hf _ _ _ _ _ _ _ _ _) trv rfl rfl (fun rg YV=>?_);simp only [ht] at YV;obtain ⟨⟨gp,⟨ga,gb,gc,gd⟩,⟨ge,gf,gg,gh⟩⟩,ge0⟩:=rg;replace YV:_=g y:=YV;rw [←YV] at j4;simp only at j4)
  cbv
  refine av (fun h8=>?_) (fun h8=>?_)
  ·simp [ht] at h8
   cbv
   refine az trv trv rfl rfl rfl ?_
   (simp [*];done)
  simp [ht] at h8
  cbv
  refine ⟨?_,?_⟩
  ·(simp only [ht];simp_all;done)
  refine ⟨?_,?_⟩
  ·(simp only [ht];simp_all;done)
  cbv
  refine cz (_,_) (by simp only [ht];rfl) (n-1) ?_ ((Iw _ _ _).2 ?_)
  ·omega
  simp only [ah]
  (refine ⟨k+1,o.set zz ⟨gp,⟨ga,gb,gc,gd⟩,⟨ge,gf,gg,gh⟩⟩,aG (by omega),by omega,?_,by simp [j3],?_⟩<;>simp_all [be,List.map_set])
 simp [ht,ah] at h5
 cbv
 (refine az trv (by simp only [ht];simp [yg,j3]) rfl rfl rfl ?_;rw [List.drop_eq_nil_of_le (by omega),kr] at j4;simp only [ht,j4,j2];done)
theorem tP (ht:TT t) (q:aK) (v1 v2 v3 v4:Int) {l:List bg} {es:List (List D)} (aE:es=l.map bg.cells) (hl:l.length<100000) (hq:q.length<1000000000000):
 FC 58 [SL es,ST q,V4 v1 v2 v3 v4] [] (.ret (A5 t (t _ fun _=>c6 l q ⟨v1,v2,v3,v4⟩))) []:=by
 have hc:=LU ht 105 (fK ⟨v1,v2,v3,v4⟩) v1 v2 v3 v4 q aE hl hq (fun p a b c d e z g0 h=>JV ht v1 v2 v3 v4 p a b c d e z g0 h)
 refine bP ht (aQ:=[]) Tryz.func58 rfl rfl (N:=16) rfl rfl (n:=0) rfl rfl ?_
 cbv
 have aD:es.length=l.length:=by rw [aE,lgM]
 (refine aF trv hc trv rfl rfl rfl (fun r9 jU=>?_);simp only [ht] at jU)
 cbv
 refine az trv trv rfl rfl rfl ?_
 (simp [c6, *];done)
theorem JX (ht:TT t) (q:aK) (v1 v2 v3 v4:Int) {l:List bg} {es:List (List D)} (aE:es=l.map bg.cells) (hl:l.length<100000) (hq:q.length<1000000000000):
 FC 107 [SL es,ST q,V4 v1 v2 v3 v4] [] (.ret (A5 t (t _ fun _=>rP l q ⟨v1,v2,v3,v4⟩))) []:=by
 have hc:=LU ht 159 (eI ⟨v1,v2,v3,v4⟩) v1 v2 v3 v4 q aE hl hq (fun p a b c d e z g0 h=>JW ht v1 v2 v3 v4 p a b c d e z g0 h)
 refine bP ht (aQ:=[]) Tryz.func107 rfl rfl (N:=16) rfl rfl (n:=0) rfl rfl ?_
 cbv
 have aD:es.length=l.length:=by rw [aE,lgM]
 (refine aF trv hc trv rfl rfl rfl (fun r9 jU=>?_);simp only [ht] at jU)
 cbv
 refine az trv trv rfl rfl rfl ?_
 (simp [rP, *];done)
def cu.aZ (_:Th) (q:cu):List D:=[.int .u64 q.id,.int .i64 q.prio]
def X8 (t:Th) (r:List cu×Int):AV:=.eA [SL (t _ fun _=>r.1.map cu.cells),bG r.2]
def X9 (t:Th) (r:List cu×Bool):AV:=.eA [SL (t _ fun _=>r.1.map cu.cells),BL r.2]
theorem Qn (ht:TT t) (id:Int) {l:List (cu)} {es:List (List D)} (aE:es=l.map cu.cells) (f:Nat) (p:cu→Bool) (hl:l.length<9223372036854775807)
 (hf:∀x∈l,FC f [.agg [aC x.id,bG x.prio],.ptr 0 0] [.var [aC id]] (.ret (BL (p x))) [.var [aC id]]) {r:Int} (hr:r=idxOf p l):FC 162 [SL es,.fn f [.ptr 0 0]] [.var [aC id]] (.ret (bG r)) [.var [aC id]]:=by
 have hel:es.length=l.length:=by rw [aE,lgM]
 obtain ⟨J,hJ⟩:∃J:Nat→Nat→Prop,∀n v,J n v↔(v+n=l.length∧∀i<v,∀x,l[i]?=some x→p x=false):=⟨fun n v=>v+n=l.length∧∀i<v,∀x,l[i]?=some x→p x=false,fun _ _=>Iff.rfl⟩
 refine bP ht (aQ:=[.var [aC id]]) Tryz.func162 rfl rfl (N:=19) rfl rfl (n:=1) rfl rfl ?_
 cbv
 refine bH ⟨[0,1,7,8],[],[]⟩ (σ:=Nat) (fun k=>[(8,bG (t _ fun _=>(k:Int)))]) (fun _=>[]) J ?_
 cbv
 refine aH ⟨l.length,0,(hJ _ _).2 ⟨by omega,by intro i hi;simp at hi⟩,by simp only [ht];rfl,?_⟩
 rintro n k hj
 obtain ⟨h2,h3⟩:=(hJ _ _).1 hj
 clear hj
 cbv
 refine av (fun h=>?_) (fun h=>?_)
 ·simp only [ht,ah,decide_eq_true_eq] at h
  have hk:k<l.length:=by omega
  obtain ⟨x,hx⟩:∃x,l[k]?=some x:=⟨l[k],by simp⟩
  have pG:x∈l:=List.mem_of_getElem? hx
  have ix:=hf x pG
  obtain ⟨px,hpx⟩:∃b,b=p x:=⟨_,rfl⟩
  rw [←hpx] at ix
  obtain ⟨a,b⟩:=x
  cbv
  refine jG [.int .u64 a,.int .i64 b] ?_ ?_ ?_
  ·simp only [ht,ah];refine ⟨by omega,h,?_⟩;rw [aE];intro r hr;obtain ⟨y,_,rfl⟩:=List.mem_map.1 hr;rfl
  ·simp [ht,ah,aE,hx,cu.cells]
  cbv
  refine eG trv ix ?_
  cbv
  refine av (fun hb=>?_) (fun hb=>?_)
  ·cbv
   refine az trv trv rfl rfl rfl ?_
   have e:=dD hx (hpx▸hb) h3
   simp only [ht,ah,hr,idxOf,e]
  cbv
  refine aH ⟨n-1,k+1,⟨by omega,(hJ _ _).2 ⟨by omega,?_⟩⟩,?_⟩
  ·intro i hi y hy
   by_cases hik:i<k
   ·exact h3 i hik y hy
   have:i=k:=by omega
   subst this;rw [hx] at hy;cases hy;rw [←hpx];exact hb
  simp only [ht,ah,aG (show k<9223372036854775807 by omega)];rfl
 simp only [ht,ah,decide_eq_false_iff_not] at h
 have hk:¬k<l.length:=by omega
 clear h
 cbv
 refine az trv trv rfl rfl rfl ?_
 rw [hr,idxOf,dQ]
 intro i y hy
 have:i<l.length:=by
  rcases Nat.lt_or_ge i l.length with h'|h';· exact h'
  simp [List.getElem?_eq_none h'] at hy
 exact h3 i (by omega) y hy
theorem Nj (ht:TT t) (id:Int) (x:cu):FC 163 [.agg [aC x.id,bG x.prio],.ptr 0 0] [.var [aC id]] (.ret (BL (decide (x.id=id)))) [.var [aC id]]:=by
 obtain ⟨a,b⟩:=x
 refine bP ht (aQ:=[.var [aC id]]) Tryz.func163 rfl rfl (N:=8) rfl rfl (n:=1) rfl rfl ?_
 cbv
 refine az trv trv rfl rfl rfl ?_
 simp [ht]
theorem Dm (ht:TT t) (id:Int) {l:List cu} {es:List (List D)} (aE:es=l.map cu.cells) (hl:l.length<1000000000):
 FC 109 [SL es,aC id] [] (.ret (gF (t _ fun _=>nE l id))) []:=by
 obtain ⟨r,hr⟩:∃r,r=nE l id:=⟨_,rfl⟩
 refine bP ht (aQ:=[]) Tryz.func109 rfl rfl (N:=8) rfl rfl (n:=0) rfl rfl ?_
 cbv
 refine eG trv (Qn ht id aE 163 (fun x=>decide (x.id=id)) (by omega) (fun x _=>Nj ht id x) (r:=r) hr) ?_
 cbv
 exact az trv trv rfl rfl rfl (by simp [ht,hr])
theorem Nk (ht:TT t) (a b:Int):FC 130 [.agg [aC a,bG b]] [] (.ret (dh (t _ fun _=>kY ⟨a,b⟩))) []:=by
 refine bP ht (aQ:=[]) Tryz.func130 rfl rfl (N:=11) rfl rfl (n:=0) rfl rfl ?_
 cbv
 iterate 3 refine gI (by simp [ht]) ?_
 refine pI (by simp [ht]) ?_
 refine az trv trv rfl rfl rfl ?_
 (simp [ht,kY];done)
theorem Nl (ht:TT t) (a b c d:Int):FC 131 [.agg [aC a,bG b],.agg [aC c,bG d]] [] (.ret (dh (t _ fun _=>bA ⟨a,b⟩ ⟨c,d⟩))) []:=by
 refine bP ht (aQ:=[]) Tryz.func131 rfl rfl (N:=24) rfl rfl (n:=0) rfl rfl ?_
 cbv
 iterate 11 refine gI (by simp [ht]) ?_
 refine gI (by simp [ht,aj];intros;simp_all) ?_
 refine pI (by simp [ht]) ?_
 refine az trv trv rfl rfl rfl ?_
 (simp [ht,bA];done)
theorem VD {l:List cu} {e x:cu} {k:Nat} (hx:l[k]?=some x) (h:bA e x=true) (h3:∀i<k,∀y,l[i]?=some y→bA e y=false):vb l e=k:=by
 simp only [vb];rw [dD hx h h3]
theorem VE {l:List cu} {e:cu} {k:Nat} (hk:l.length≤k) (h3:∀i<k,∀y,l[i]?=some y→bA e y=false):vb l e=l.length:=by
 simp only [vb]
 rw [dQ]
 intro i y hy
 have:i<l.length:=(List.getElem?_eq_some_iff.1 hy).1
 exact h3 i (by omega) y hy
theorem Qo {l:List cu} {e x:cu} {k:Nat} (h3:∀i<k,∀y,l[i]?=some y→bA e y=false) (hx:l[k]?=some x) (h:bA e x=false):∀i<k+1,∀y,l[i]?=some y→bA e y=false:=by
 intro i hi y hy
 rcases Nat.lt_or_ge i k with h1|h1
 ·exact h3 i h1 y hy
 have:i=k:=by omega
 subst this;rw [hx] at hy;cases hy;exact h
theorem VF (ht:TT t) (a b:Int) {l:List cu} {es:List (List D)} (aE:es=l.map cu.cells) (hl:l.length<1000000000):
 FC 141 [.agg [.fn 131 []],SL es,.agg [aC a,bG b]] [] (.ret (gF (t _ fun _=>(vb l ⟨a,b⟩:Int)))) []:=by
 refine bP ht (aQ:=[]) Tryz.func141 rfl rfl (N:=25) rfl rfl (n:=0) rfl rfl ?_
 cbv
 have aD:es.length=l.length:=by rw [aE,lgM]
 obtain ⟨J0,fI⟩:∃J0:Nat→Int→Prop,∀n i,J0 n i↔(∃k:Nat,i=k∧k+n=l.length∧∀i<k,∀y,l[i]?=some y→bA ⟨a,b⟩ y=false):=⟨fun n v=>match v with|i=>(∃k:Nat,i=k∧k+n=l.length∧∀i<k,∀y,l[i]?=some y→bA ⟨a,b⟩ y=false),fun _ _=>Iff.rfl⟩
 refine bH ⟨[1,3,5,9,10,11],[],[]⟩ (σ:=Int) (fun v=>[(11,.d (.int .i64 (t _ fun _=>v)))]) (fun v=>[]) J0 ?_
 cbv
 refine aH ⟨l.length,_,(fI _ _).2 ?_,by simp only [ht];rfl,?_⟩
 ·exact ⟨0,rfl,by simp,fun i hi=>by omega⟩
 rintro n i hj
 replace hj:=(fI _ _).1 hj
 obtain ⟨k,rfl,j1,j4⟩:=hj
 cbv
 refine av (fun h1=>?_) (fun h1=>?_)
 ·simp [ht,ah,aD] at h1
  cbv
  refine kp ht aE (cT:=cu.aZ t) (by (simp only [ht,ah];omega)) (by (simp only [ht,ah];omega)) (fun _=>rfl) (fun _=>rfl) (fun x2 n9=>?_)
  simp [ht,ah] at n9
  cbv
  refine bc trv (Nl ht _ _ _ _) trv rfl rfl (fun r3 mM=>?_)
  simp only [ht] at mM
  cbv
  refine av (fun h4=>?_) (fun h4=>?_)
  ·cbv
   refine az trv trv rfl rfl rfl ?_
   (simp only [ht];rw [VD n9 (by rw [h4] at mM;exact mM.symm) j4])
  cbv
  refine cz _ (by simp only [ht];rfl) (n-1) ?_ ((fI _ _).2 ?_)
  ·omega
  simp only [ah]
  exact ⟨k+1,aG (by omega),by omega,Qo j4 ‹_› (by simp_all)⟩
 simp [ht,ah,aD] at h1
 cbv
 refine az trv trv rfl rfl rfl ?_
 (simp only [ht];rw [VE (by omega) j4];simp [aE];done)
theorem JY (ht:TT t) {es:List (List D)} (aE:∀r∈es,r.length=2) (hs:es.length*16≤140737488355328) {m:Nat} (hm:m=es.length):
 FC 140 [SL es] [] (.ret (.ow 0 2 m)) [.row 2 es]:=by
 refine bP ht (aQ:=[]) Tryz.func140 rfl rfl (N:=8) rfl rfl (n:=0) rfl rfl ?_
 cbv
 refine ⟨fun b hb=>?_⟩
 simp only [ht] at hb
 cbv
 refine av (fun h=>?_) (fun h=>?_)
 ·have he:=hb h
  subst he
  cbv
  exact GK trv rfl rfl (by rw [hm];rfl) rfl
 clear hb h
 cbv
 refine ⟨?_,?_⟩
 ·simp only [ht];simp;exact ⟨hs,aE⟩
 refine B5 trv rfl rfl rfl rfl ?_ ?_
 ·simp only [ht];rw [hm];simp
 simp only [ht];rfl
theorem EO (ht:TT t) {es:List (List D)} {x:D} {row:List D} {i n c:Nat} (hn:n=es.length) (hi:i≤n) (hc:n≤c) (hc0:n=0→c=0) (aE:∀r∈es,r.length=2) (hrow:(x::row).length=2) (hs:n<1000000) {r:List (List D)} (hr:r=es.take i++(x::row)::es.drop i):
 FC 139 [.vw 0 2 0 n c true,bG (i:Int),SL [x::row]] [.row 2 es] (.ret (SL r)) [.dead]:=by
 obtain ⟨n1,BU⟩:∃n1,n1=n+1:=⟨_,rfl⟩
 obtain ⟨i1,hi1⟩:∃i1,i1=i+1:=⟨_,rfl⟩
 obtain ⟨ni,hni⟩:∃ni,ni=n-i:=⟨_,rfl⟩
 obtain ⟨ci,pJ⟩:∃ci,ci=c-i:=⟨_,rfl⟩
 obtain ⟨wL,JK⟩:∃wL,wL=c-i1:=⟨_,rfl⟩
 obtain ⟨oW,tN⟩:∃oW,oW=n1-i:=⟨_,rfl⟩
 have hW:∀P:Prop,((IntKind.i64.wrap ((n:Int)+1)=(n1:Int))→(IntKind.i64.wrap ((n1:Int)-(i:Int))=(oW:Int))→(IntKind.i64.wrap ((i:Int)+1)=(i1:Int))→P)→P:=
  fun P h=>h (by rw [wrap64 (by omega) (by omega)];omega) (by rw [wrap64 (by omega) (by omega)];omega) (by rw [wrap64 (by omega) (by omega)];omega)
 have hrl:r.length=n1:=by rw [hr,List.length_append,List.length_cons,List.length_take,List.length_drop];omega
 have Vp:n≠0→FC 184 [SL [x::row],.vw 0 2 i1 ni wL true] [.row 2 es] (.ret (BL false)) [.row 2 es]:=fun h0=>
  iC Ul Tryz.func184 rfl rfl rfl rfl (tS:=31) (tR:=4) rfl rfl (by intro h;rw [h] at hn;exact h0 hn)
 refine bP ht (aQ:=[.row 2 es]) Tryz.func139 rfl rfl (N:=95) rfl rfl (n:=1) rfl rfl ?_
 cbv
 refine bL (.vw 0 2 i ni ci true) [.row 2 es] ?_ ?_ rfl ?_
 ·simp [ht,dS,bS];omega
 ·simp [ht,aW,aS,hni,pJ]
 cbv
 refine pp (by simp [ht]) ?_
 cbv
 refine av (fun h=>?_) (fun h=>?_)
 ·have hin:i=n:=by simp [ht,ah] at h;omega
  clear h
  cbv
  refine bL (.ow 1 2 n1) [.dead,.row 2 r] ?_ ?_ ?_ ?_
  ·simp only [ht]
   refine ⟨⟨hn,by simp;omega,?_⟩,rfl,hn,fun h=>⟨hc0 (by rw [hn,h];rfl),rfl⟩⟩
   intro r hr
   rcases List.mem_append.1 hr with hr|hr
   ·exact aE r hr
   simp at hr;subst hr;exact hrow
  ·simp [ht,BU,hn]
  ·simp only [ht];rw [hr]
   have:i=es.length:=by omega
   subst this;simp
  cbv
  refine az trv ?_ rfl rfl rfl rfl
  simp only [ht];exact hrl.symm
 have hin:i<n:=by simp [ht,ah] at h;omega
 clear h
 have AY:r=(r.drop 0).take n1:=by rw [List.drop_zero,List.take_of_length_le (by omega)]
 cbv
 refine av (fun h2=>?_) (fun h2=>?_)
 ·have Vq:c=n:=by
   refine hW _ fun e1 e2 e3=>?_
   simp [ht,ah,e1] at h2;omega
  clear h2
  obtain ⟨L,hL⟩:∃L:List (List D),L=es.take i++List.replicate (es.length+1-i) [D.int IntKind.u64 0,D.int IntKind.i64 0]:=⟨_,rfl⟩
  have Iv:L.length=n1:=by rw [hL];simp;omega
  obtain ⟨L1,tO⟩:∃L1,L1=wrote L i [x::row]:=⟨_,rfl⟩
  have mG:L1.length=n1:=by rw [tO];simp [wrote,Iv];omega
  have ph:r=wrote L1 i1 (es.drop i):=by rw [hi1,tO,hL,vA (by omega),hr]
  cbv
  refine bL (.vw 0 2 0 i c true) [.row 2 es] ?_ ?_ rfl ?_
  ·simp [ht,dS,bS];omega
  ·simp [ht,aW,aS]
  cbv
  refine bL (.vw 1 2 0 n1 n1 false) [.row 2 es,.row 2 L] ?_ ?_ ?_ ?_
  ·refine hW _ fun e1 e2 e3=>?_
   simp [ht,ah,e1,e2];omega
  ·refine hW _ fun e1 e2 e3=>?_
   simp [ht,ah,e1,e2];omega
  ·refine hW _ fun e1 e2 e3=>?_
   simp [ht,ah,e1,e2,hL];omega
  cbv
  refine bL (.vw 1 2 i oW oW false) [.row 2 es,.row 2 L] ?_ ?_ rfl ?_
  ·simp [ht,dS,bS];omega
  ·simp [ht,aW,aS,tN]
  cbv
  refine bL (bG 1) [.row 2 es,.row 2 L1] ?_ ?_ ?_ ?_
  ·simp only [ht,eP]
   refine ⟨⟨by omega,?_⟩,?_⟩
   ·intro h;rw [h] at Iv;simp at Iv;omega
   intro r hr;have:=List.mem_of_mem_take hr;simp at this;rw [this];exact hrow
  ·simp [ht,ah];omega
  ·simp [ht,tO,show min 1 oW=1 by omega]
  cbv
  refine dO [false,false,false,false,false,false,false,false,true] (by kernel_rfl) (by kernel_rfl) ?_
  cbv
  repeat (refine gI (by (simp;done)) ?_)
  refine iq (.vw 1 2 i1 ni ni false) (fun _=>⟨?_,?_⟩) ?_
  ·refine hW _ fun e1 e2 e3=>?_
   simp [ht,ah,e3,dS,bS];omega
  ·refine hW _ fun e1 e2 e3=>?_
   simp [ht,ah,e3,aW,aS];omega
  cbv
  repeat (refine gI (by (simp;done)) ?_)
  refine iq (.vw 0 2 i ni ci true) (fun _=>⟨?_,?_⟩) ?_
  ·simp [ht,dS,bS];omega
  ·simp [ht,aW,aS,hni,pJ]
  cbv
  refine bL (bG (ni:Nat)) [.row 2 es,.row 2 r,.bw] ?_ ?_ ?_ ?_
  ·simp only [ht,eP]
   refine ⟨by omega,⟨by omega,?_⟩,?_⟩
   ·intro h;rw [h] at mG;simp at mG;omega
   intro r hr;exact aE r (List.mem_of_mem_drop (List.mem_of_mem_take hr))
  ·simp [ht,ah]
  ·simp only [ht,ph]
   rw [List.take_of_length_le (by simp;omega)]
  cbv
  refine yM [true] trv ?_ rfl rfl rfl ?_
  ·simp only [ht];omega
  simp only [ht];rw [←AY]
 have Vq:n<c:=by
  refine hW _ fun e1 e2 e3=>?_
  simp [ht,ah,e1] at h2;omega
 clear h2
 obtain ⟨L1,tO⟩:∃L1,L1=wrote es i1 (es.drop i):=⟨_,rfl⟩
 have ph:r=wrote L1 i [x::row]:=by rw [tO,hi1,EC (by omega),hr]
 have mG:L1.length=n1:=by rw [tO];simp [wrote];omega
 cbv
 refine bL (.vw 0 2 0 n1 c true) [.row 2 es] ?_ ?_ rfl ?_
 ·refine hW _ fun e1 e2 e3=>?_
  simp [ht,ah,e1,dS,bS];omega
 ·refine hW _ fun e1 e2 e3=>?_
  simp [ht,ah,e1,aW,aS]
 cbv
 refine bL (.vw 0 2 i1 ni wL true) [.row 2 es] ?_ ?_ rfl ?_
 ·refine hW _ fun e1 e2 e3=>?_
  simp [ht,ah,e3,dS,bS];omega
 ·refine hW _ fun e1 e2 e3=>?_
  simp [ht,ah,e3,aW,aS];omega
 cbv
 refine eG trv (Vp (by omega)) ?_
 cbv
 refine lp (by simp [ht]) ?_
 cbv
 refine dO [false,false,false,false,false,false,false,false,true] (by kernel_rfl) (by kernel_rfl) ?_
 cbv
 repeat (refine gI (by (simp;done)) ?_)
 refine iq (.vw 0 2 i1 ni wL true) (fun _=>⟨?_,?_⟩) ?_
 ·refine hW _ fun e1 e2 e3=>?_
  simp [ht,ah,e3,dS,bS];omega
 ·refine hW _ fun e1 e2 e3=>?_
  simp [ht,ah,e3,aW,aS];omega
 cbv
 repeat (refine gI (by (simp;done)) ?_)
 refine iq (.vw 0 2 i oW ci true) (fun _=>⟨?_,?_⟩) ?_
 ·simp [ht,dS,bS];omega
 ·simp [ht,aW,aS,tN,pJ]
 cbv
 refine bL (bG (ni:Nat)) [.row 2 L1,.bw] ?_ ?_ ?_ ?_
 ·simp only [ht,eP]
  refine ⟨by omega,⟨by omega,?_⟩,?_⟩
  ·intro h;rw [h] at hn;simp at hn;omega
  intro r hr;exact aE r (List.mem_of_mem_drop (List.mem_of_mem_take hr))
 ·simp [ht,ah];omega
 ·simp only [ht,tO]
  rw [List.take_of_length_le (by simp;omega)]
 cbv
 refine bL (.vw 0 2 i oW ci true) [.row 2 L1,.bw] ?_ ?_ rfl ?_
 ·simp [ht,dS,bS];omega
 ·simp [ht,aW,aS,tN,pJ]
 cbv
 refine bL (bG 1) [.row 2 r,.bw] ?_ ?_ ?_ ?_
 ·simp only [ht,eP]
  refine ⟨⟨by omega,?_⟩,?_⟩
  ·intro h;rw [h] at mG;simp at mG;omega
  intro r hr;have:=List.mem_of_mem_take hr;simp at this;rw [this];exact hrow
 ·simp [ht,ah];omega
 ·simp [ht,ph,show min 1 oW=1 by omega]
 cbv
 refine yM [true] trv ?_ rfl rfl rfl ?_
 ·simp only [ht];omega
 simp only [ht];rw [←AY]
theorem HG (ht:TT t) {es:List (List D)} {x:D} {row:List D} {i n:Nat} (hn:n=es.length) (hi:i≤n) (aE:∀r∈es,r.length=2) (hrow:(x::row).length=2) (hs:n<1000000) {r:List (List D)} (hr:r=es.take i++(x::row)::es.drop i):
 FC 139 [.ow 0 2 n,bG (i:Int),SL [x::row]] [.row 2 es] (.ret (SL r)) [.dead]:=
 dZ fun c hc hc0=>EO ht hn hi hc hc0 aE hrow hs hr
theorem HH (ht:TT t) {l:List cu} {es:List (List D)} (aE:es=l.map cu.cells) (hs:l.length<1000000000):
 FC 140 [SL es] [] (.ret (.ow 0 2 (t _ fun _=>(l.map cu.cells).length))) [.row 2 (t _ fun _=>l.map cu.cells)]:=by
 simp only [ht];subst aE
 refine JY ht ?_ ?_ (by simp)
 ·intro r hr;obtain ⟨y,_,rfl⟩:=List.mem_map.1 hr;rfl
 simp;omega
theorem EP (ht:TT t) {l:List cu} {x:cu} {k:Nat} {i:Int} (hi:i=k) (hk:k≤l.length) (hl:l.length<1000000):
 FC 139 [.ow 0 2 (t _ fun _=>(l.map cu.cells).length),bG i,.cl [cu.cells x]] [.row 2 (t _ fun _=>l.map cu.cells)] (.ret (SL (t _ fun _=>(l.take k++x::l.drop k).map cu.cells))) [.dead]:=by
 simp only [ht];subst hi
 refine oN (args':=[.ow 0 2 (l.map cu.cells).length,bG k,SL [cu.cells x]]) ?_ (HG ht (by simp) (by simpa using hk) ?_ rfl (by simpa using hl) (by simp [cu.cells]))
 ·intro β w ok vs h
  simp only [an] at h ⊢
  obtain ⟨u1,YP,rfl,h1,u2,Ot,rfl,h2,u3,Vw,rfl,h3,h4⟩:=h
  exact ⟨u1,_,rfl,h1,u2,_,rfl,h2,u3,Vw,rfl,Lw h3,h4⟩
 intro r hr;obtain ⟨y,_,rfl⟩:=List.mem_map.1 hr;rfl
theorem VG (l:List cu) (e:cu):vb l e≤l.length:=by
 unfold vb
 cases h:l.findIdx? (fun x=>bA e x) with
 |none=>exact Nat.le_refl _
 |some k=>exact Nat.le_of_lt (List.findIdx?_eq_some_iff_getElem.1 h).1
theorem A7 (ht:TT t) (a b:Int) {l:List cu} {es:List (List D)} (aE:es=l.map cu.cells) (hl:l.length<1000000):
 FC 91 [SL es,.agg [aC a,bG b]] [] (.ret (X8 t (t _ fun _=>jZ l ⟨a,b⟩))) []:=by
 have hq:=VG l ⟨a,b⟩
 obtain ⟨qa,hqa⟩:∃n,n=vb l ⟨a,b⟩:=⟨_,rfl⟩
 refine bP ht (aQ:=[]) Tryz.func91 rfl rfl (N:=31) rfl rfl (n:=0) rfl rfl ?_
 cbv
 have aD:es.length=l.length:=by rw [aE,lgM]
 refine bc trv (Nk ht _ _) trv rfl rfl (fun r0 dj=>?_)
 simp only [ht] at dj
 cbv
 refine av (fun h1=>?_) (fun h1=>?_)
 ·cbv
  refine az trv trv rfl rfl rfl ?_
  (simp only [ht];simp_all [jZ];done)
 cbv
 refine bc trv (Dm ht _ ‹_› (by omega)) trv rfl rfl (fun r2 iJ=>?_)
 simp only [ht] at iJ
 cbv
 refine av (fun h3=>?_) (fun h3=>?_)
 ·simp [ht] at h3
  cbv
  refine az trv trv rfl rfl rfl ?_
  (simp only [ht];simp_all [jZ];done)
 simp [ht] at h3
 cbv
 refine av (fun h4=>?_) (fun h4=>?_)
 ·simp [ht,ah,aD] at h4
  cbv
  refine az trv trv rfl rfl rfl ?_
  (simp only [ht,jZ];grind)
 simp [ht,ah,aD] at h4
 cbv
 refine dO [false,false,false,false,false,false,false,false,true,true,true] (by kernel_rfl) (by kernel_rfl) ?_
 cbv
 refine gI (by simp) ?_
 refine .inr (GJ trv (HH ht ‹_› (by omega)) trv rfl (.inr rfl) rfl ?_)
 cbv
 iterate 3 refine gI (by simp) ?_
 refine .inl ?_
 refine eY (fun g5=>⟨trv,trv,VF ht _ _ ‹_› (by omega)⟩) rfl rfl (fun r6 ol=>?_)
 simp only [ht] at ol
 rw [←hqa] at ol
 cbv
 iterate 2 refine gI (by simp) ?_
 refine dP [1] trv rfl rfl (EP ht (l:=l) (x:=⟨a,b⟩) (k:=qa) ‹_› (by omega) (by omega)) (cK ?_)
 cbv
 refine az trv trv rfl rfl rfl ?_
 (simp only [ht,jZ];grind)
def dM (t:Th) (s:aT):AV:=.agg [aC s.round,aC s.next,SL (t _ fun _=>s.aX.nodes.map Node.cells),SL (t _ fun _=>s.aX.places.map Place.cells),SL (t _ fun _=>s.tree.map bg.cells),SL (t _ fun _=>s.ap.map Jb.cells),SL (t _ fun _=>s.queue.map cu.cells),aC s.ev.first,SL (t _ fun _=>s.ev.l.map ek.cells),aC s.au.first,SL (t _ fun _=>s.au.l.map ek.cells)]
def LV (t:Th) (r:aT×Int):AV:=.eA [dM t r.1,bG r.2]
def Qp (t:Th) (r:aT×Int×Int):AV:=.eA [dM t r.1,aC r.2.1,bG r.2.2]
theorem oc (ht:TT t) (rd nx ef af id kd:Int) {nl:List Node} {pl:List Place} {tl:List bg} {jl:List Jb} {ql:List cu} {el al:List ek} {ns ps ts js qs es bW:List (List D)}
 (fF:ns=nl.map Node.cells) (hps:ps=pl.map Place.cells) (hts:ts=tl.map bg.cells) (eW:js=jl.map Jb.cells) (eM:qs=ql.map cu.cells) (aE:es=el.map ek.cells) (has:bW=al.map ek.cells) (hel:el.length<1000000):
 FC 65 [.agg [aC rd,aC nx,SL ns,SL ps,SL ts,SL js,SL qs,aC ef,SL es,aC af,SL bW],aC id,bG kd] [] (.ret (dM t (t _ fun _=>iI ⟨rd,nx,⟨nl,pl⟩,tl,jl,ql,⟨ef,el⟩,⟨af,al⟩⟩ id kd))) []:=by
 obtain ⟨⟨f9,l9⟩,h9⟩:∃r,r=tell ⟨ef,el⟩ ⟨rd,id,kd⟩:=⟨_,rfl⟩
 refine bP ht (aQ:=[]) Tryz.func65 rfl rfl (N:=17) rfl rfl (n:=0) rfl rfl ?_
 cbv
 have bJ:ns.length=nl.length:=by rw [fF,lgM]
 have bQ:ps.length=pl.length:=by rw [hps,lgM]
 have bK:ts.length=tl.length:=by rw [hts,lgM]
 have bT:js.length=jl.length:=by rw [eW,lgM]
 have bq:qs.length=ql.length:=by rw [eM,lgM]
 have aD:es.length=el.length:=by rw [aE,lgM]
 have bD:bW.length=al.length:=by rw [has,lgM]
 refine aF trv (S0 ht _ _ _ _ ‹_› ‹_›) trv rfl rfl rfl (fun r0 dj=>?_)
 simp only [ht] at dj
 rw [←h9] at dj
 subst r0
 cbv
 refine az trv trv rfl rfl rfl ?_
 (simp only [ht,iI];grind)
theorem LW (ht:TT t):FC 38 [] [] (.ret (dM t (t _ fun _=>Ca))) []:=by
 refine bP ht (aQ:=[]) Tryz.func38 rfl rfl (N:=4) rfl rfl (n:=0) rfl rfl ?_
 cbv
 refine aF trv (S5 ht _ _ _ _) trv rfl rfl rfl (fun r0 dj=>?_)
 simp only [ht] at dj
 cbv
 refine az trv trv rfl rfl rfl ?_
 (simp [Ca,aT.zero,bM.zero, *];done)
theorem tQ (ht:TT t) {es:List (List D)} (aE:∀r∈es,r.length=12) (hs:es.length*120≤140737488355328) {m:Nat} (hm:m=es.length):
 FC 45 [SL es] [] (.ret (.ow 0 12 m)) [.row 12 es]:=by
 refine bP ht (aQ:=[]) Tryz.func45 rfl rfl (N:=8) rfl rfl (n:=0) rfl rfl ?_
 cbv
 refine ⟨fun b hb=>?_⟩
 simp only [ht] at hb
 cbv
 refine av (fun h=>?_) (fun h=>?_)
 ·have he:=hb h
  subst he
  cbv
  exact GK trv rfl rfl (by rw [hm];rfl) rfl
 clear hb h
 cbv
 refine ⟨?_,?_⟩
 ·simp only [ht];simp;exact ⟨hs,aE⟩
 refine B5 trv rfl rfl rfl rfl ?_ ?_
 ·simp only [ht];rw [hm];simp
 simp only [ht];rfl
theorem nt (ht:TT t) {l:List Jb} {es:List (List D)} (aE:es=l.map Jb.cells) (hs:l.length<1000000):
 FC 45 [SL es] [] (.ret (.ow 0 12 (t _ fun _=>(l.map Jb.cells).length))) [.row 12 (t _ fun _=>l.map Jb.cells)]:=by
 simp only [ht];subst aE
 refine tQ ht ?_ ?_ (by simp)
 ·intro r hr;obtain ⟨y,_,rfl⟩:=List.mem_map.1 hr;rfl
 simp;omega
theorem Nn:∀c<8,∀i<4,(fc (c*32) i).nodes.length≤4:=by decide+kernel
theorem A8 {N i:Nat} (hN:N<256) (hi:i<4):(fc N i).nodes.length<1000000000:=by
 rw [Hg]
 have:=Nn (N / 32) (by omega) i hi
 omega
theorem JZ:∀k,∀p∈AW k,p.sm:=by
 intro k p hp
 unfold AW at hp
 split at hp
 ·rw [List.mem_singleton.1 hp]
  rename_i h
  have:k=0∨k=1:=by omega
  rcases this with rfl|rfl<;>exact ⟨by decide,by decide⟩
 cases hp
theorem Qq:∀k<3,∀N<256,(((N:Nat):Int).fdiv (2^min (IntKind.i64.wrap (5+((k:Nat):Int))).toNat IntKind.u8.bits)).tmod 2=0↔SK N k=true:=by decide+kernel
theorem wO {a z:Int} {N k:Nat} (hN:N<256) (ea:a=N) (h:(a.fdiv (2^min (IntKind.i64.wrap z).toNat IntKind.u8.bits)).tmod 2=0) (hk:k<3) (hz:z=5+((k:Nat):Int)):SK N k=true:=by
 subst ea hz;exact (Qq k hk N hN).1 h
theorem Dn {a z:Int} {N k:Nat} (hN:N<256) (ea:a=N) (h:¬(a.fdiv (2^min (IntKind.i64.wrap z).toNat IntKind.u8.bits)).tmod 2=0) (hk:k<3) (hz:z=5+((k:Nat):Int)):¬SK N k=true:=by
 subst ea hz;exact fun g=>h ((Qq k hk N hN).2 g)
theorem oe {N k:Nat} {nm:aK} {w:Int} {r:cH×Int} (h:r=qy ⟨(fc N k).nodes,(fc N k).places⟩ ⟨nm,⟨w,9,9,9⟩,AW k,false⟩) (hnm:nm=kZ.getD k []) (hw:w=((4+2*k:Nat):Int)) (hu:SK N k=true):fc N (k+1)=r.1:=by
 subst hw hnm h;rw [fc,if_pos hu]
theorem rW {N k:Nat} (hu:¬SK N k=true):fc N (k+1)=fc N k:=by rw [fc,if_neg hu]
theorem A9:∀k<3,∀m<5,IntKind.u64.wrap (IntKind.i64.wrap (IntKind.i64.wrap (6+IntKind.i64.wrap (4*((k:Nat):Int)))+IntKind.i64.wrap ((m:Nat):Int)))=((6+4*k+m:Nat):Int):=by decide+kernel
theorem wP {m k:Nat} {p:aK} {w:Int} {r:List bg×Int} (h:r=vc (qK m k) p ⟨w,20,20,20⟩) (hp:p=Up.getD k []) (hw:w=((6+4*k+m:Nat):Int)):r.1=qK m (k+1):=by subst hw hp h;rfl
theorem vG (ht:TT t) (k a b c d:Int) (x:iX) (hx:x.u) (hk:k=x.kind) (ha:a=x.a) (hb:b=x.b) (hc:c=x.c) (hd:d=x.d):
 FC 111 [.agg [U8 k,U8 a,U8 b,U8 c,U8 d]] [] (.ret (Z5 t (t _ fun _=>Cb x))) []:=by
 obtain ⟨u1,u2,u3,u4,u5⟩:=hx
 obtain ⟨nm,hnm⟩:∃nm,nm=AU.getD (x.a%4) []:=⟨_,rfl⟩
 have w1:IntKind.u64.wrap (b.tmod 5)=((x.b%5:Nat):Int):=by rw [hb,Wu,SX _ (by omega)]
 have w2:IntKind.u64.wrap ((IntKind.u8.wrap (b.tdiv 5)).tmod 5)=((x.b / 5%5:Nat):Int):=by rw [hb,td5,Z4 _ (by omega),Wu,SX _ (by omega)]
 have w3:IntKind.u64.wrap ((IntKind.u8.wrap (b.tdiv 25)).tmod 3)=((x.b / 25%3:Nat):Int):=by rw [hb,Z3,Z4 _ (by omega),Z2,SX _ (by omega)]
 have w4:IntKind.i64.wrap (1+IntKind.i64.wrap (c.tmod 3))=((1+x.c%3:Nat):Int):=by rw [hc,Z2,P3 _ (by omega),show (1:Int)+((x.c%3:Nat):Int)=((1+x.c%3:Nat):Int) by omega,P3 _ (by omega)]
 have w5:IntKind.i64.wrap ((IntKind.u8.wrap (c.tdiv 3)).tmod 4)=((x.c / 3%4:Nat):Int):=by rw [hc,td3,Z4 _ (by omega),Z1,P3 _ (by omega)]
 have w6:IntKind.i64.wrap (1+IntKind.i64.wrap (d.tmod 5))=((1+x.d%5:Nat):Int):=by rw [hd,Wu,P3 _ (by omega),show (1:Int)+((x.d%5:Nat):Int)=((1+x.d%5:Nat):Int) by omega,P3 _ (by omega)]
 have w7:decide (d.tmod 2=1)=decide (x.d%2=1):=by rw [decide_eq_decide,hd,tm2];omega
 refine bP ht (aQ:=[]) Tryz.func111 rfl rfl (N:=53) rfl rfl (n:=0) rfl rfl ?_
 cbv
 refine dO [false,false,false,false,false,false,false,false,false,false,false,false,false,false,false,false,false,false,false,false,false,false,false,false,false,false,false,false,false,false,false,false,false,false,false,false,false,false,true] (by kernel_rfl) (by kernel_rfl) ?_
 cbv
 iterate 4 refine gI (by simp [ht,aj]) ?_
 (refine jG [.str nm] (by simp only [ht,ha,Z1];exact P4 x.a) (by simp only [ht,ha,Z1];rw [hnm];exact P5 x.a) ?_)
 cbv
 iterate 32 refine gI (by simp [ht,aj]) ?_
 refine av (fun h0=>?_) (fun h0=>?_)
 ·simp [ht,ah] at h0
  cbv
  refine ⟨?_,?_⟩
  ·(simp only [ht,ah] at*;omega)
  cbv
  refine az trv trv rfl rfl rfl ?_
  (simp only [ht,w1,w2,w3,w4,w5,w6,w7,hnm,Cb];rw [if_pos (show 200<x.d by ((try simp only [ah] at*);omega))];rfl)
 simp [ht,ah] at h0
 cbv
 refine az trv trv rfl rfl rfl ?_
 (simp only [ht,w1,w2,w3,w4,w5,w6,hnm,Cb];rw [if_neg (show ¬200<x.d by ((try simp only [ah] at*);omega))];rfl)
theorem yl (ht:TT t) (N:Nat) (hN:N<256) {a:Int} (ea:a=N):FC 67 [.d (.int .u8 a)] [] (.ret (dM t (t _ fun _=>jN N))) []:=by
 have hm:N%5<5:=Nat.mod_lt _ (by decide)
 have hl0:=PU (N%5) hm
 refine bP ht (aQ:=[]) Tryz.func67 rfl rfl (N:=81) rfl rfl (n:=0) rfl rfl ?_
 cbv
 refine aF trv (LW ht) trv rfl rfl rfl (fun r0 dj=>?_)
 simp only [ht] at dj
 cbv
 ((refine aF trv (zk ht _ _ _ _ _ (l:=[⟨[],bM.zero,bM.zero⟩]) (by simp only [ht,dj];rfl) (by decide) (by decide) (by decide)) (by simp) rfl rfl rfl (fun r1 cF=>?_)))
 cbv
 obtain ⟨J1,pE⟩:∃J1:Nat→Int×List (List D)→Prop,∀m i tr,J1 m (i,tr)↔((i=0∧m=3∧tr=(qK (N%5) 0).map bg.cells)∨(i=1∧m=2∧tr=(qK (N%5) 1).map bg.cells)∨(i=2∧m=1∧tr=(qK (N%5) 2).map bg.cells)∨(i=3∧m=0∧tr=(qK (N%5) 3).map bg.cells)):=⟨fun m v=>match v with|(i,tr)=>((i=0∧m=3∧tr=(qK (N%5) 0).map bg.cells)∨(i=1∧m=2∧tr=(qK (N%5) 1).map bg.cells)∨(i=2∧m=1∧tr=(qK (N%5) 2).map bg.cells)∨(i=3∧m=0∧tr=(qK (N%5) 3).map bg.cells)),fun _ _ _=>Iff.rfl⟩
 refine bH ⟨[0,2,3,18,19,20],[],[]⟩ (σ:=Int×List (List D)) (fun v=>[(20,.d (.int .i64 (t _ fun _=>v.1)))]) (fun v=>[(1,.var [AV.d (D.int IntKind.u64 r0.1),AV.d (D.int IntKind.u64 r0.2),AV.d (D.sl (t (List (List D)) fun x=>List.map (fun x=>[D.str (Node.name x),D.int IntKind.u64 (bM.a (Node.cap x)),D.int IntKind.u64 (bM.b (Node.cap x)),D.int IntKind.u64 (bM.c (Node.cap x)),D.int IntKind.u64 (bM.d (Node.cap x)),D.sl (List.map (fun p=>[D.str (dx.key p),D.str (dx.value p)]) (Node.labels x)),D.bool (Node.up x)]) (cH.nodes (aT.aX r0)))),AV.d (D.sl (t (List (List D)) fun x=>List.map (fun x=>[D.int IntKind.u64 (Place.bI x),D.str (Place.node x),D.int IntKind.u64 (bM.a (Place.v x)),D.int IntKind.u64 (bM.b (Place.v x)),D.int IntKind.u64 (bM.c (Place.v x)),D.int IntKind.u64 (bM.d (Place.v x))]) (cH.places (aT.aX r0)))),.d (.sl (t _ fun _=>v.2)),AV.d (D.sl (t (List (List D)) fun x=>List.map Jb.cells (aT.ap r0))),AV.d (D.sl (t (List (List D)) fun x=>List.map cu.cells (aT.queue r0))),AV.d (D.int IntKind.u64 r0.7.1),AV.d (D.sl (t (List (List D)) fun x=>List.map ek.cells (B9.l (aT.ev r0)))),AV.d (D.int IntKind.u64 r0.8.1),AV.d (D.sl (t (List (List D)) fun x=>List.map ek.cells (B9.l (aT.au r0))))])]) J1 ?_
 cbv
 refine aH ⟨3,(_,_),(pE _ _ _).2 ?_,by simp only [ht];rfl,?_⟩
 ·exact .inl ⟨rfl,rfl,by simp only [ht,cF];rfl⟩
 rintro m ⟨i,tr⟩ hj
 replace hj:=(pE _ _ _).1 hj
 (rcases hj with ⟨rfl,jm,jt⟩|⟨rfl,jm,jt⟩|⟨rfl,jm,jt⟩|⟨rfl,jm,jt⟩)
 ·cbv
  refine av (fun h2=>?_) (fun h2=>?_)
  ·simp [ht] at h2
   cbv
   ((refine jG [.str [97]] (by simp only [ht];decide) (by simp only [ht];rfl) ?_))
   cbv
   refine ⟨?_,?_⟩
   ·(simp only [ht];decide)
   cbv
   ((refine aF trv (zk ht _ _ _ _ _ (l:=qK (N%5) 0) (by simp only [ht];exact jt) (by have:=hl0 0 (by decide);((try simp only [ah] at*);omega)) (by decide) (by decide)) (by simp) rfl rfl rfl (fun r2 iJ=>?_)))
   cbv
   refine cz (_,_) (by simp only [ht];rfl) (m-1) ?_ ((pE _ _ _).2 ?_)
   ·omega
   exact .inr (.inl ⟨by rw [lK (by decide) (by decide)];rfl,by omega,congrArg _ (wP (k:=0) (iJ.trans (ht _ _)) rfl (by simp only [ht,ea,Wu];exact A9 0 (by decide) _ hm))⟩)
  simp [ht] at h2
 ·cbv
  refine av (fun h3=>?_) (fun h3=>?_)
  ·simp [ht] at h3
   cbv
   ((refine jG [.str [97,47,98]] (by simp only [ht];decide) (by simp only [ht];rfl) ?_))
   cbv
   refine ⟨?_,?_⟩
   ·(simp only [ht];decide)
   cbv
   ((refine aF trv (zk ht _ _ _ _ _ (l:=qK (N%5) 1) (by simp only [ht];exact jt) (by have:=hl0 1 (by decide);((try simp only [ah] at*);omega)) (by decide) (by decide)) (by simp) rfl rfl rfl (fun r2 iJ=>?_)))
   cbv
   refine cz (_,_) (by simp only [ht];rfl) (m-1) ?_ ((pE _ _ _).2 ?_)
   ·omega
   exact .inr (.inr (.inl ⟨by rw [lK (by decide) (by decide)];rfl,by omega,congrArg _ (wP (k:=1) (iJ.trans (ht _ _)) rfl (by simp only [ht,ea,Wu];exact A9 1 (by decide) _ hm))⟩))
  simp [ht] at h3
 ·cbv
  refine av (fun h4=>?_) (fun h4=>?_)
  ·simp [ht] at h4
   cbv
   ((refine jG [.str [98]] (by simp only [ht];decide) (by simp only [ht];rfl) ?_))
   cbv
   refine ⟨?_,?_⟩
   ·(simp only [ht];decide)
   cbv
   ((refine aF trv (zk ht _ _ _ _ _ (l:=qK (N%5) 2) (by simp only [ht];exact jt) (by have:=hl0 2 (by decide);((try simp only [ah] at*);omega)) (by decide) (by decide)) (by simp) rfl rfl rfl (fun r2 iJ=>?_)))
   cbv
   refine cz (_,_) (by simp only [ht];rfl) (m-1) ?_ ((pE _ _ _).2 ?_)
   ·omega
   exact .inr (.inr (.inr ⟨by rw [lK (by decide) (by decide)];rfl,by omega,congrArg _ (wP (k:=2) (iJ.trans (ht _ _)) rfl (by simp only [ht,ea,Wu];exact A9 2 (by decide) _ hm))⟩))
  simp [ht] at h4
 cbv
 refine av (fun h5=>?_) (fun h5=>?_)
 ·simp [ht] at h5
 simp [ht] at h5
 cbv
 obtain ⟨J6,Uw⟩:∃J6:Nat→Int×List (List D)×List (List D)→Prop,∀m i x y,J6 m (i,x,y)↔((i=0∧m=3∧x=(fc N 0).nodes.map Node.cells∧y=(fc N 0).places.map Place.cells)∨(i=1∧m=2∧x=(fc N 1).nodes.map Node.cells∧y=(fc N 1).places.map Place.cells)∨(i=2∧m=1∧x=(fc N 2).nodes.map Node.cells∧y=(fc N 2).places.map Place.cells)∨(i=3∧m=0∧x=(fc N 3).nodes.map Node.cells∧y=(fc N 3).places.map Place.cells)):=⟨fun m v=>match v with|(i,x,y)=>((i=0∧m=3∧x=(fc N 0).nodes.map Node.cells∧y=(fc N 0).places.map Place.cells)∨(i=1∧m=2∧x=(fc N 1).nodes.map Node.cells∧y=(fc N 1).places.map Place.cells)∨(i=2∧m=1∧x=(fc N 2).nodes.map Node.cells∧y=(fc N 2).places.map Place.cells)∨(i=3∧m=0∧x=(fc N 3).nodes.map Node.cells∧y=(fc N 3).places.map Place.cells)),fun _ _ _ _=>Iff.rfl⟩
 refine bH ⟨[0,2,3,43,44,45],[],[]⟩ (σ:=Int×List (List D)×List (List D)) (fun v=>[(45,.d (.int .i64 (t _ fun _=>v.1)))]) (fun v=>[(1,.var [AV.d (D.int IntKind.u64 r0.1),AV.d (D.int IntKind.u64 r0.2),.d (.sl (t _ fun _=>v.2.1)),.d (.sl (t _ fun _=>v.2.2)),AV.d (D.sl (t (List (List D)) fun x=>Prod.snd (3,tr))),AV.d (D.sl (t (List (List D)) fun x=>List.map Jb.cells (aT.ap r0))),AV.d (D.sl (t (List (List D)) fun x=>List.map cu.cells (aT.queue r0))),AV.d (D.int IntKind.u64 r0.7.1),AV.d (D.sl (t (List (List D)) fun x=>List.map ek.cells (B9.l (aT.ev r0)))),AV.d (D.int IntKind.u64 r0.8.1),AV.d (D.sl (t (List (List D)) fun x=>List.map ek.cells (B9.l (aT.au r0))))])]) J6 ?_
 cbv
 refine aH ⟨3,(_,_,_),(Uw _ _ _ _).2 ?_,by simp only [ht];rfl,?_⟩
 ·exact .inl ⟨rfl,rfl,by rw [dj];rfl,by rw [dj];rfl⟩
 rintro m ⟨i,x,y⟩ hj
 replace hj:=(Uw _ _ _ _).1 hj
 (rcases hj with ⟨rfl,jm,jx,jy⟩|⟨rfl,jm,jx,jy⟩|⟨rfl,jm,jx,jy⟩|⟨rfl,jm,jx,jy⟩)
 ·cbv
  refine av (fun h7=>?_) (fun h7=>?_)
  ·simp [ht] at h7
   cbv
   ((refine jG [.str [110,49]] (by simp only [ht];decide) (by simp only [ht];rfl) ?_))
   cbv
   refine ⟨?_,?_⟩
   ·(simp only [ht];decide)
   refine ⟨?_,?_⟩
   ·(simp only [ht];decide)
   cbv
   refine av (fun h8=>?_) (fun h8=>?_)
   ·simp [ht] at h8
    cbv
    refine av (fun h9=>?_) (fun h9=>?_)
    ·simp [ht] at h9
     cbv
     ((refine jG [.str [97]] (by simp only [ht];decide) (by simp only [ht];rfl) ?_))
     cbv
     ((refine aF trv (JP ht (l:=(fc N 0).nodes) (ps:=(fc N 0).places) (by simp only [ht];exact jx) (by simp only [ht];exact jy) _ _ _ _ _ (lb:=AW 0) rfl false (A8 hN (by decide)) (by decide) (by decide) (JZ _)) (by simp) rfl rfl rfl (fun r4 k9=>?_)))
     cbv
     refine cz (_,_,_) (by simp only [ht];rfl) (m-1) ?_ ((Uw _ _ _ _).2 ?_)
     ·omega
     (refine .inr (.inl ⟨(by rw [lK (by decide) (by decide)];rfl),by omega,?_,?_⟩);((exact congrArg (fun p:cH=>List.map Node.cells p.nodes) (oe (k:=0) (k9.trans (ht _ _)) rfl (by simp only [ht];decide) (wO hN ea ‹_› (by decide) (by decide))).symm));((exact congrArg (fun p:cH=>List.map Place.cells p.places) (oe (k:=0) (k9.trans (ht _ _)) rfl (by simp only [ht];decide) (wO hN ea ‹_› (by decide) (by decide))).symm)))
    simp [ht] at h9
   simp [ht] at h8
   cbv
   refine cz (_,_,_) (by simp only [ht];rfl) (m-1) ?_ ((Uw _ _ _ _).2 ?_)
   ·omega
   (refine .inr (.inl ⟨(by rw [lK (by decide) (by decide)];rfl),by omega,?_,?_⟩);((exact jx.trans (congrArg (fun p:cH=>List.map Node.cells p.nodes) (rW (N:=N) (k:=0) (Dn hN ea ‹_› (by decide) (by decide))).symm)));((exact jy.trans (congrArg (fun p:cH=>List.map Place.cells p.places) (rW (N:=N) (k:=0) (Dn hN ea ‹_› (by decide) (by decide))).symm))))
  simp [ht] at h7
 ·cbv
  refine av (fun h10=>?_) (fun h10=>?_)
  ·simp [ht] at h10
   cbv
   ((refine jG [.str [110,50]] (by simp only [ht];decide) (by simp only [ht];rfl) ?_))
   cbv
   refine ⟨?_,?_⟩
   ·(simp only [ht];decide)
   refine ⟨?_,?_⟩
   ·(simp only [ht];decide)
   cbv
   refine av (fun h11=>?_) (fun h11=>?_)
   ·simp [ht] at h11
    cbv
    refine av (fun h12=>?_) (fun h12=>?_)
    ·simp [ht] at h12
     cbv
     ((refine jG [.str [98]] (by simp only [ht];decide) (by simp only [ht];rfl) ?_))
     cbv
     ((refine aF trv (JP ht (l:=(fc N 1).nodes) (ps:=(fc N 1).places) (by simp only [ht];exact jx) (by simp only [ht];exact jy) _ _ _ _ _ (lb:=AW 1) rfl false (A8 hN (by decide)) (by decide) (by decide) (JZ _)) (by simp) rfl rfl rfl (fun r4 k9=>?_)))
     cbv
     refine cz (_,_,_) (by simp only [ht];rfl) (m-1) ?_ ((Uw _ _ _ _).2 ?_)
     ·omega
     (refine .inr (.inr (.inl ⟨(by rw [lK (by decide) (by decide)];rfl),by omega,?_,?_⟩));((exact congrArg (fun p:cH=>List.map Node.cells p.nodes) (oe (k:=1) (k9.trans (ht _ _)) rfl (by simp only [ht];decide) (wO hN ea ‹_› (by decide) (by decide))).symm));((exact congrArg (fun p:cH=>List.map Place.cells p.places) (oe (k:=1) (k9.trans (ht _ _)) rfl (by simp only [ht];decide) (wO hN ea ‹_› (by decide) (by decide))).symm)))
    simp [ht] at h12
   simp [ht] at h11
   cbv
   refine cz (_,_,_) (by simp only [ht];rfl) (m-1) ?_ ((Uw _ _ _ _).2 ?_)
   ·omega
   (refine .inr (.inr (.inl ⟨(by rw [lK (by decide) (by decide)];rfl),by omega,?_,?_⟩));((exact jx.trans (congrArg (fun p:cH=>List.map Node.cells p.nodes) (rW (N:=N) (k:=1) (Dn hN ea ‹_› (by decide) (by decide))).symm)));((exact jy.trans (congrArg (fun p:cH=>List.map Place.cells p.places) (rW (N:=N) (k:=1) (Dn hN ea ‹_› (by decide) (by decide))).symm))))
  simp [ht] at h10
 ·cbv
  refine av (fun Qk=>?_) (fun Qk=>?_)
  ·simp [ht] at Qk
   cbv
   ((refine jG [.str [110,51]] (by simp only [ht];decide) (by simp only [ht];rfl) ?_))
   cbv
   refine ⟨?_,?_⟩
   ·(simp only [ht];decide)
   refine ⟨?_,?_⟩
   ·(simp only [ht];decide)
   cbv
   refine av (fun Nb=>?_) (fun Nb=>?_)
   ·simp [ht] at Nb
    cbv
    refine av (fun h15=>?_) (fun h15=>?_)
    ·simp [ht] at h15
    simp [ht] at h15
    cbv
    ((refine aF trv (JP ht (l:=(fc N 2).nodes) (ps:=(fc N 2).places) (by simp only [ht];exact jx) (by simp only [ht];exact jy) _ _ _ _ _ (lb:=AW 2) rfl false (A8 hN (by decide)) (by decide) (by decide) (JZ _)) (by simp) rfl rfl rfl (fun r4 k9=>?_)))
    cbv
    refine cz (_,_,_) (by simp only [ht];rfl) (m-1) ?_ ((Uw _ _ _ _).2 ?_)
    ·omega
    (refine .inr (.inr (.inr ⟨(by rw [lK (by decide) (by decide)];rfl),by omega,?_,?_⟩));((exact congrArg (fun p:cH=>List.map Node.cells p.nodes) (oe (k:=2) (k9.trans (ht _ _)) rfl (by simp only [ht];decide) (wO hN ea ‹_› (by decide) (by decide))).symm));((exact congrArg (fun p:cH=>List.map Place.cells p.places) (oe (k:=2) (k9.trans (ht _ _)) rfl (by simp only [ht];decide) (wO hN ea ‹_› (by decide) (by decide))).symm)))
   simp [ht] at Nb
   cbv
   refine cz (_,_,_) (by simp only [ht];rfl) (m-1) ?_ ((Uw _ _ _ _).2 ?_)
   ·omega
   (refine .inr (.inr (.inr ⟨(by rw [lK (by decide) (by decide)];rfl),by omega,?_,?_⟩));((exact jx.trans (congrArg (fun p:cH=>List.map Node.cells p.nodes) (rW (N:=N) (k:=2) (Dn hN ea ‹_› (by decide) (by decide))).symm)));((exact jy.trans (congrArg (fun p:cH=>List.map Place.cells p.places) (rW (N:=N) (k:=2) (Dn hN ea ‹_› (by decide) (by decide))).symm))))
  simp [ht] at Qk
 cbv
 refine av (fun Ql=>?_) (fun Ql=>?_)
 ·simp [ht] at Ql
 simp [ht] at Ql
 cbv
 refine az trv trv rfl rfl rfl ?_
 (simp only [ht,dj,jt,jx,jy];rfl)
end Dem
end
section
open Go
namespace Dem
def eU (s:aT) (id:Int):Jb×Bool:=((bB s.ap id).1,(bB s.ap id).2&&!(bB s.ap id).1.runs)
def ic (s:aT) (id:Int) (of:cH) (within:aK→bM→Bool):List aK×Bool:=
 if !(eU s id).2 then ([],false) else
 if !(cZ (eU s id).1.x).2||!(fit (eT of) (eU s id).1.x.cE (eU s id).1.x.gx (eU s id).1.x.count).2||!within (eU s id).1.x.path (cZ (eU s id).1.x).1 then ([],false) else
 ((fit (eT of) (eU s id).1.x.cE (eU s id).1.x.gx (eU s id).1.x.count).1,true)
def gj (s:aT) (id:Int):List aK×Bool:=ic s id s.aX fun p v=>decide ((c6 s.tree p v).2=0)
def og (t:List bg):List bg:=t.map fun e=>{e with used:=bM.zero}
def qN (t:List bg) (p:aK) (v:bM):Bool:=decide ((c6 (og t) p v).2=0)
def cL (s:aT) (id:Int):Bool:=(ic s id ⟨s.aX.nodes,[]⟩ fun p v=>qN s.tree p v).2
def fq (a b:Jb):Bool:=decide (a.x.prio<b.x.prio)||(decide (a.x.prio=b.x.prio)&&decide (b.id≤a.id))
def bZ (s:aT) (id:Int):List Int:=
 if !(bB s.ap id).2 then [] else
 ((s.ap.filter fun o=>o.runs&&decide (o.x.prio<(bB s.ap id).1.x.prio)).mergeSort fq).map (·.id)
def aI (s:aT) (l:List Int):aT:=l.foldl (fun s id=>(gC s id 5).1) s
def fQ (s:aT) (id:Int) (l:List Int):List aK×Bool:=gj (aI s l) id
def ld (s:aT) (id:Int) (all:List Int):Nat→Nat→Option (List Int×List aK)
 |0,_=>none
 |n+1,k=>if (fQ s id (all.take k)).2 then some (all.take k,(fQ s id (all.take k)).1) else ld s id all n (k+1)
def gq (s:aT) (id:Int):Nat→Nat→List Int→List aK→List Int×List aK
 |0,_,l,nodes=>(l,nodes)
 |n+1,k,l,nodes=>if k<l.length then
  (if (fQ s id (l.eraseIdx k)).2 then gq s id n k (l.eraseIdx k) (fQ s id (l.eraseIdx k)).1 else gq s id n (k+1) l nodes)
  else (l,nodes)
def aB (s:aT) (id:Int):List Int×List aK×Bool:=match ld s id (bZ s id) ((bZ s id).length+1) 0 with
 |none=>([],[],false)
 |some (l,nodes)=>((gq s id (l.length+1) 0 l nodes).1,(gq s id (l.length+1) 0 l nodes).2,true)
end Dem
end
section
open Go Dem Go.Proofs
namespace Dem
variable {t:Th}
def bg.bare (e:bg):bg:={e with used:=bM.zero}
theorem Qr (l:List bg):og l=l.map bg.bare:=rfl
theorem No {l:List bg} {k:Nat} {x:bg} {u:List (List D)} (hx:l[k]?=some x) (hu:u=((l.take k).map bg.bare++l.drop k).map bg.cells):
 u.set k (be (u.getD k []) 5 [.int .u64 0,.int .u64 0,.int .u64 0,.int .u64 0])=((l.take (k+1)).map bg.bare++l.drop (k+1)).map bg.cells:=by
 have hk:k<l.length:=(List.getElem?_eq_some_iff.1 hx).1
 have e1:u.getD k []=bg.cells x:=by
  rw [hu,List.getD_eq_getElem?_getD,List.getElem?_map,List.getElem?_append_right (by simp;omega),List.getElem?_drop]
  simp [show min k l.length=k by omega,hx]
 rw [e1,hu,dV hx,jI hx]
 simp only [List.map_append,List.map_cons,List.map_nil,List.append_assoc,List.singleton_append]
 rw [List.set_append_right _ _ (by simp;omega)]
 simp [show min k l.length=k by omega,bg.bare,bg.cells,be,bM.zero]
theorem Qs {l:List bg} {k:Nat} {u:List (List D)} (hk:k<l.length) (hu:u=((l.take k).map bg.bare++l.drop k).map bg.cells):k<u.length∧5+4≤(u.getD k []).length:=by
 obtain ⟨x,hx⟩:∃x,l[k]?=some x:=⟨l[k],by simp⟩
 have e1:u.getD k []=bg.cells x:=by
  rw [hu,List.getD_eq_getElem?_getD,List.getElem?_map,List.getElem?_append_right (by simp;omega),List.getElem?_drop]
  simp [show min k l.length=k by omega,hx]
 rw [e1]
 exact ⟨by rw [hu];simp;omega,Nat.le_refl _⟩
theorem Qt (ht:TT t) (q:aK) (v1 v2 v3 v4:Int) {l:List bg} {es:List (List D)} (aE:es=l.map bg.cells) (hl:l.length<100000) (hq:q.length<1000000000000):
 FC 61 [SL es,ST q,V4 v1 v2 v3 v4] [] (.ret (dh (t _ fun _=>qN l q ⟨v1,v2,v3,v4⟩))) []:=by
 obtain ⟨m,hm⟩:∃m,m=l.length:=⟨_,rfl⟩
 have hel:m=es.length:=by rw [aE,lgM,hm]
 have hrows:∀r∈es,r.length=9:=by rw [aE];intro r hr;obtain ⟨y,_,rfl⟩:=List.mem_map.1 hr;rfl
 obtain ⟨R,hR⟩:∃R,R=qN l q ⟨v1,v2,v3,v4⟩:=⟨_,rfl⟩
 rw [←hR]
 refine bP ht (aQ:=[]) Tryz.func61 rfl rfl (N:=33) rfl rfl (n:=0) rfl rfl ?_
 cbv
 have aD:es.length=l.length:=by rw [aE,lgM]
 (refine jY trv (A6 ht hrows (by omega) hel) trv rfl (.inr rfl) ?_)
 cbv
 refine ⟨?_,?_⟩
 ·(simp only [ht,ah] at*;omega)
 cbv
 obtain ⟨J0,fI⟩:∃J0:Nat→Int×List (List D)→Prop,∀n i u,J0 n (i,u)↔(∃k:Nat,i=k∧k+n=m∧u=((l.take k).map bg.bare++l.drop k).map bg.cells):=⟨fun n v=>match v with|(i,u)=>(∃k:Nat,i=k∧k+n=m∧u=((l.take k).map bg.bare++l.drop k).map bg.cells),fun _ _ _=>Iff.rfl⟩
 refine bH ⟨[1,5,7,14,15],[],[]⟩ (σ:=Int×List (List D)) (fun v=>[(15,.d (.int .i64 (t _ fun _=>v.1)))]) (fun v=>[(1,.row 9 (t _ fun _=>v.2))]) J0 ?_
 cbv
 refine aH ⟨m,(_,_),(fI _ _ _).2 ?_,by simp only [ht];rfl,?_⟩
 ·exact ⟨0,rfl,by simp,by simp [aE]⟩
 rintro n ⟨i,u⟩ hj
 replace hj:=(fI _ _ _).1 hj
 obtain ⟨k,rfl,j1,j4⟩:=hj
 cbv
 refine av (fun h1=>?_) (fun h1=>?_)
 ·simp [ht,ah,aD] at h1
  cbv
  refine ⟨?_,?_⟩
  ·(simp only [ht,ah] at*;omega)
  refine ⟨?_,?_⟩
  ·(simp only [ht,ah,Int.toNat_natCast];exact Qs (by ((try simp only [ah] at*);omega)) j4)
  cbv
  refine cz (_,_) (by simp only [ht];rfl) (n-1) ?_ ((fI _ _ _).2 ?_)
  ·omega
  simp only [ht,ah]
  (obtain ⟨x,hx⟩:∃x,l[k]?=some x:=⟨l[k]'(by ((try simp only [ah] at*);omega)),by simp⟩;exact ⟨k+1,aG (by ((try simp only [ah] at*);omega)),by ((try simp only [ah] at*);omega),No hx j4⟩)
 simp [ht,ah,aD] at h1
 cbv
 (have j5:u=(og l).map bg.cells:=(by rw [j4,List.take_of_length_le (by ((try simp only [ah] at*);omega)),List.drop_eq_nil_of_le (by ((try simp only [ah] at*);omega))];simp [Qr]);have h5:(og l).length=l.length:=(by simp [og]);refine Jn (E:=A5 t) (r0:=t _ fun _=>c6 (og l) q ⟨v1,v2,v3,v4⟩) trv rfl (by simp [ht,j5,h5,hm]) (by exact dK [] rfl rfl rfl rfl (tP ht q v1 v2 v3 v4 (l:=og l) (by simp only [ht];exact j5) (by ((try simp only [ah] at*);omega)) hq)) (fun r1 cF=>?_);simp only [ht] at cF)
 cbv
 refine az trv trv rfl rfl rfl ?_
 (simp only [ht,hR,qN,←cF,dh];done)
end Dem
end
section
open Go
namespace Dem
theorem ym {l m:List cu} (hl:yO l) (hm:yO m) (h:∀q,q∈l↔q∈m):l=m:=by
 have hn:∀{r:List cu},yO r→r.Nodup:=fun {r} hr=>by
  rw [List.nodup_iff_pairwise_ne]
  exact hr.imp fun {a b} g e=>by subst e;rw [dF] at g;omega
 exact ((List.perm_ext_iff_of_nodup (hn hl) (hn hm)).2 h).eq_of_pairwise (fun a b _ _ h1 h2=>by rw [dF] at h1 h2;omega) hl hm
theorem cr.trans {a b c:List bg} (h:cr a b) (g:cr b c):cr a c:=⟨by rw [g.len,h.len],fun i e hi=>by
 obtain ⟨x,h1,h2,h3⟩:=h.at_ i e hi
 obtain ⟨y,g1,g2,g3⟩:=g.at_ i x h1
 exact ⟨y,g1,by rw [g2,h2],by rw [g3,h3]⟩⟩
theorem cr.refl (a:List bg):cr a a:=⟨rfl,fun _ e hi=>⟨e,hi,rfl,rfl⟩⟩
theorem dg {l:List Jb} (ha:su l) {i:Nat} {j:Jb} (hj:l[i]?=some j):l.findIdx? (fun x=>decide (x.id=j.id))=some i∧l.getD i Jb.zero=j∧bB l j.id=(j,true):=by
 have h1:l.findIdx? (fun x=>decide (x.id=j.id))=some i:=by
  cases h:l.findIdx? (fun x=>decide (x.id=j.id)) with
  |none=>rw [List.findIdx?_eq_none_iff] at h;have:=h j (List.mem_of_getElem? hj);simp at this
  |some k=>
   obtain ⟨y,a,b,_⟩:=nH h
   rw [vt ha a hj b]
 refine ⟨h1,by rw [List.getD_eq_getElem?_getD,hj];rfl,?_⟩
 unfold bB
 cases h:l.find? (fun x=>decide (x.id=j.id)) with
 |none=>rw [List.find?_eq_none] at h;have:=h j (List.mem_of_getElem? hj);simp at this
 |some y=>
  have e:=List.find?_some h
  simp only [decide_eq_true_eq] at e
  simp only
  rw [bN ha (List.mem_of_find?_eq_some h) (List.mem_of_getElem? hj) e]
abbrev Jb.begun (j:Jb):Jb:={j with runs:=true,left:=j.x.fH}
abbrev Jb.halted (j:Jb):Jb:={j with runs:=false,left:=0}
theorem rX {s:aT} (h:s.ok) {id:Int} {names:List aK} (e:(cq s id names).2=0):
 ∃(i:Nat) (j:Jb) (T:List bg),s.ap[i]?=some j∧j.id=id∧j.runs=false∧(names.length:Int)=j.x.count∧cr s.tree T∧
  (cq s id names).1=iI ⟨s.round,s.next,⟨s.aX.nodes,s.aX.places++names.map (fun n=>⟨id,n,j.x.gx⟩)⟩,T,s.ap.set i j.begun,s.queue.filter (fun q=>!decide (q.id=id)),s.ev,s.au⟩ id 2:=by
 unfold cq at e ⊢
 cases hf:s.ap.findIdx? (fun j=>decide (j.id=id)) with
 |none=>rw [hf] at e;cases e
 |some i=>
  obtain ⟨j,hj,hid,c⟩:=nH hf
  rw [hf] at e
  simp only at e ⊢
  rw [c] at e ⊢
  unfold jK at e ⊢
  by_cases h1:j.runs=true
  ·rw [if_pos h1] at e;cases e
  rw [if_neg h1] at e ⊢
  by_cases h2:(names.length:Int)≠j.x.count
  ·rw [if_pos h2] at e;cases e
  rw [if_neg h2] at e ⊢
  by_cases h3:(!(cZ j.x).2)=true
  ·rw [if_pos h3] at e;cases e
  rw [if_neg h3] at e ⊢
  by_cases h4:(c6 s.tree j.x.path (cZ j.x).1).2≠0
  ·rw [if_pos h4] at e;exact absurd e h4
  rw [if_neg h4] at e ⊢
  simp only [Decidable.not_not] at h2 h4
  rcases AQ s.aX id names j.x.gx with ⟨_,e2⟩|⟨e2,_⟩
  ·rw [if_pos e2] at e;exact absurd e e2
  rw [if_neg (by rw [e2];simp)]
  refine ⟨i,j,_,hj,hid,by simpa using h1,h2,(Dc h h4).2.1,?_⟩
  rw [lM h.kR,e2];rfl
theorem Ba {s:aT} (h:s.ok) {i:Nat} {j:Jb} (hj:s.ap[i]?=some j) (hr:j.runs=true) (kind:Int):
 ∃T Q,cr s.tree T∧gC s j.id kind=(iI ⟨s.round,s.next,qE s.aX j.id,T,s.ap.set i j.halted,Q,s.ev,s.au⟩ j.id kind,0):=by
 obtain ⟨h1,h2,_⟩:=dg h.ids hj
 refine ⟨_,(jZ s.queue ⟨j.id,j.x.prio⟩).1,(n8 h hj hr).2.2.1,?_⟩
 unfold gC
 rw [h1]
 simp only
 rw [h2,if_neg (by simp [hr]),h.jM hj hr]
 simp [C5]
theorem zl {s:aT} (h:s.ok) {i:Nat} {j:Jb} (hj:s.ap[i]?=some j) (kind:Int):
 (send s j.id kind).2=0∧(j.runs=false→send s j.id kind=(iI ⟨s.round,s.next,s.aX,s.tree,s.ap.eraseIdx i,s.queue.filter (fun q=>!decide (q.id=j.id)),s.ev,s.au⟩ j.id kind,0))∧
 (j.runs=true→∃T,cr s.tree T∧send s j.id kind=(iI ⟨s.round,s.next,qE s.aX j.id,T,s.ap.eraseIdx i,s.queue,s.ev,s.au⟩ j.id kind,0)):=by
 obtain ⟨h1,h2,_⟩:=dg h.ids hj
 unfold send
 rw [h1]
 simp only
 rw [h2]
 refine ⟨trv,fun hr=>?_,fun hr=>?_⟩
 ·rw [hr,if_neg (by simp),lM h.kR]
 refine ⟨_,(n8 h hj hr).2.2.1,?_⟩
 rw [if_pos hr,h.jM hj hr]
theorem J3 {s:aT} (h:s.ok) {x:Ask} (e:(dc s x).2.2=0):
 (dc s x).2.1=s.next∧s.next+1<18446744073709551616∧
 (dc s x).1=iI ⟨s.round,s.next+1,s.aX,s.tree,s.ap++[⟨s.next,x,false,0⟩],s.queue.take (vb s.queue ⟨s.next,x.prio⟩)++⟨s.next,x.prio⟩::s.queue.drop (vb s.queue ⟨s.next,x.prio⟩),s.ev,s.au⟩ s.next 1:=by
 unfold dc at e ⊢
 by_cases h1:eS x≠0
 ·rw [if_pos h1] at e;exact absurd e h1
 rw [if_neg h1] at e ⊢
 by_cases h2:(!jJ s.tree x.path)=true
 ·rw [if_pos h2] at e;cases e
 rw [if_neg h2] at e ⊢
 by_cases h3:32≤s.ap.length∨s.next=18446744073709551615
 ·rw [if_pos h3] at e;cases e
 rw [if_neg h3] at e ⊢
 have hnx:=h.next
 rcases qJ s.queue ⟨s.next,x.prio⟩ with ⟨_,e2,_⟩|⟨e2,_⟩
 ·rw [if_pos e2] at e;exact absurd e e2
 rw [e2,if_neg (by simp)]
 have hu:u64 (s.next+1)=s.next+1:=by unfold u64;omega
 rw [hu]
 exact ⟨rfl,by omega,rfl⟩
theorem Dp {s:aT} {x:Ask} (e:(dc s x).2.2≠0):(dc s x).1=s∧(dc s x).2.1=0∧(eS x=0∨(dc s x).2.2=eS x):=by
 unfold dc at e ⊢
 by_cases h1:eS x≠0
 ·rw [if_pos h1];exact ⟨rfl,rfl,.inr rfl⟩
 rw [if_neg h1] at e ⊢
 simp only [Decidable.not_not] at h1
 by_cases h2:(!jJ s.tree x.path)=true
 ·rw [if_pos h2];exact ⟨rfl,rfl,.inl h1⟩
 rw [if_neg h2] at e ⊢
 by_cases h3:32≤s.ap.length∨s.next=18446744073709551615
 ·rw [if_pos h3];exact ⟨rfl,rfl,.inl h1⟩
 rw [if_neg h3] at e ⊢
 by_cases h4:(jZ s.queue ⟨s.next,x.prio⟩).2≠0
 ·rw [if_pos h4];exact ⟨rfl,rfl,.inl h1⟩
 rw [if_neg h4] at e;exact absurd rfl e
end Dem
end
