/- Parts of a proof, joined. -/
import Derived.Test.YtjnbpclolnmimaaGreatDoorK17
import Derived.Shelf.Strings.OnBuilder
import Derived.Test.YtjnbpclolnmimaaGreatDoorProg
set_option linter.all false
set_option maxRecDepth 100000
set_option maxHeartbeats 4000000
section
open Go Dem Go.Proofs
namespace Dem
variable {t:Th}
theorem HU (ht:TT t) (nm Un:aA) (a b c d a' b' c' d':Int) {lb lb':List bR} {lr IV:List (List D)} (hlr:lr=lb.map bR.cells) (pF:IV=lb'.map bR.cells) (up Xc:Bool) (hl:lb.length<1000000000) (hl':lb'.length<1000000000):
 FC 70 [.agg [ST nm,ax a,ax b,ax c,ax d,SL lr,BL up],.agg [ST Un,ax a',ax b',ax c',ax d',SL IV,BL Xc]] [] (.ret (cu (t _ fun _=>decide ((⟨nm,⟨a,b,c,d⟩,lb,up⟩:Node)=⟨Un,⟨a',b',c',d'⟩,lb',Xc⟩)))) []:=by
 refine bA ht (aB:=[]) Tryz.func70 rfl rfl (N:=31) rfl rfl (n:=0) rfl rfl ?_
 cbv
 have Kq:lr.length=lb.length:=by rw [hlr,lgM]
 have Zl:IV.length=lb'.length:=by rw [pF,lgM]
 iterate 5 refine gI (by simp [ht]) ?_
 refine pI (by simp [ht]) ?_
 iterate 5 refine gI (by simp [ht]) ?_
 refine pI (by simp [ht]) ?_
 iterate 4 refine gI (by simp [ht]) ?_
 refine aJ (fun g0=>⟨by simp [ht] at g0 ⊢;exact g0,trv,Nk ht ‹_› ‹_› ‹_› ‹_›⟩) rfl rfl (fun r1 eb=>?_)
 simp only [ht] at eb
 cbv
 refine pI (by simp [ht]) ?_
 refine ak trv trv rfl rfl rfl ?_
 (simp [*];grind)
theorem No (ht:TT t) {l m:List Node} {es fs:List (List D)} (aD:es=l.map Node.cells) (sN:fs=m.map Node.cells) (hl:l.length<1000000000) (hm:m.length<1000000000) (hls:∀x∈l,x.labels.length<1000000000) (Si:∀x∈m,x.labels.length<1000000000):
 FC 69 [SL es,SL fs,.fn 70 []] [] (.ret (cu (t _ fun _=>decide (l=m)))) []:=by
 refine bA ht (aB:=[]) Tryz.func69 rfl rfl (N:=32) rfl rfl (n:=0) rfl rfl ?_
 cbv
 have av:es.length=l.length:=by rw [aD,lgM]
 have cK:fs.length=m.length:=by rw [sN,lgM]
 refine ai (fun h0=>?_) (fun h0=>?_)
 ·simp [ht,aa,av,cK] at h0
  cbv
  refine ak trv trv rfl rfl rfl ?_
  (simp [ht];rintro rfl;simp_all;done)
 simp [ht,aa,av,cK] at h0
 cbv
 obtain ⟨J1,gj⟩:∃J1:Nat→Int→Prop,∀n i,J1 n i↔(∃k:Nat,i=k∧k+n=l.length∧l.length=m.length∧decide (l=m)=decide (l.drop k=m.drop k)):=⟨fun n v=>match v with|i=>(∃k:Nat,i=k∧k+n=l.length∧l.length=m.length∧decide (l=m)=decide (l.drop k=m.drop k)),fun _ _=>Iff.rfl⟩
 refine bg ⟨[1,2,15,16,17],[],[]⟩ (σ:=Int) (fun v=>[(17,.d (.int .i64 (t _ fun _=>v)))]) (fun v=>[]) J1 ?_
 cbv
 refine aC ⟨l.length,_,(gj _ _).2 ?_,by simp only [ht];rfl,?_⟩
 ·(simp only [aa];grind)
 rintro n i hj
 replace hj:=(gj _ _).1 hj
 obtain ⟨k,rfl,j1,j2,j4⟩:=hj
 cbv
 refine ai (fun h2=>?_) (fun h2=>?_)
 ·simp [ht,aa,av] at h2
  cbv
  refine dS ht aD (cT:=Node.aK t) (by (simp only [ht,aa];omega)) (by (simp only [ht,aa];omega)) (fun _=>rfl) (fun _=>(by (simp only [ht,Node.aK];done))) (fun x3 nv=>?_)
  simp [ht,aa] at nv
  rw [bV nv] at j4
  have Zm:=hls _ (List.mem_of_getElem? nv)
  cbv
  refine dS ht sN (cT:=Node.aK t) (by (simp only [ht,aa];omega)) (by (simp only [ht,aa];omega)) (fun _=>rfl) (fun _=>(by (simp only [ht,Node.aK];done))) (fun x4 tg=>?_)
  simp [ht,aa] at tg
  rw [bV tg] at j4
  have sx4:=Si _ (List.mem_of_getElem? tg)
  cbv
  refine ay trv (HU ht _ _ _ _ _ _ _ _ _ _ (jE ht rfl) (jE ht rfl) _ _ ‹_› ‹_›) trv rfl rfl (fun r5 jh=>?_)
  simp only [ht] at jh
  cbv
  refine ai (fun h6=>?_) (fun h6=>?_)
  ·simp [ht] at h6
   cbv
   refine ak trv trv rfl rfl rfl ?_
   (simp [ht];rintro rfl;simp_all;done)
  simp [ht] at h6
  cbv
  refine bu _ rfl (n-1) ?_ ((gj _ _).2 ?_)
  ·omega
  simp only [ht,aa]
  refine ⟨k+1,aE (by omega),by omega,by omega,?_⟩
  (simp_all [SM,nG];done)
 simp [ht,aa,av] at h2
 cbv
 refine ak trv trv rfl rfl rfl ?_
 (simp [ht,j4,List.drop_eq_nil_of_le (show l.length≤k by omega),List.drop_eq_nil_of_le (show m.length≤k by omega)];done)
theorem Md (ht:TT t) {l l':List Node} {ps ps':List Place} {es es' qs VY:List (List D)} (aD:es=l.map Node.cells) (Kk:es'=l'.map Node.cells) (fG:qs=ps.map Place.cells) (VZ:VY=ps'.map Place.cells)
 (hl:l.length<1000000000) (hl':l'.length<1000000000) (pO:ps.length<1000000000) (adA:ps'.length<1000000000) (hls:∀x∈l,x.labels.length<1000000000) (aaF:∀x∈l',x.labels.length<1000000000):
 FC 23 [.agg [SL es,SL qs],.agg [SL es',SL VY]] [] (.ret (cu (t _ fun _=>decide (l=l'∧ps=ps')))) []:=by
 refine bA ht (aB:=[]) Tryz.func23 rfl rfl (N:=17) rfl rfl (n:=0) rfl rfl ?_
 cbv
 have av:es.length=l.length:=by rw [aD,lgM]
 have Tm:es'.length=l'.length:=by rw [Kk,lgM]
 have dL:qs.length=ps.length:=by rw [fG,lgM]
 have Tn:VY.length=ps'.length:=by rw [VZ,lgM]
 refine ay trv (No ht ‹_› ‹_› ‹_› ‹_› ‹_› ‹_›) trv rfl rfl (fun r0 bF=>?_)
 simp only [ht] at bF
 cbv
 iterate 4 refine gI (by simp) ?_
 refine aJ (fun g1=>⟨by simp at g1 ⊢;exact g1,trv,Ko ht ‹_› ‹_› ‹_› ‹_›⟩) rfl rfl (fun r2 cU=>?_)
 simp only [ht] at cU
 cbv
 refine pI (by simp) ?_
 refine ak trv trv rfl rfl rfl ?_
 (simp [*];done)
theorem HV (ht:TT t) {l:List Node} {ps:List Place} {es qs:List (List D)} (aD:es=l.map Node.cells) (fG:qs=ps.map Place.cells) (hl:l.length<1000000000) (pO:ps.length<1000000000):
 FC 38 [.agg [SL es,SL qs]] [] (.ret (VG t (t _ fun _=>l.filterMap (sY l ps)))) []:=by
 refine bA ht (aB:=[]) Tryz.func38 rfl rfl (N:=38) rfl rfl (n:=0) rfl rfl ?_
 cbv
 have av:es.length=l.length:=by rw [aD,lgM]
 have dL:qs.length=ps.length:=by rw [fG,lgM]
 obtain ⟨J0,ee⟩:∃J0:Nat→List (List D)×Int→Prop,∀n o i,J0 n (o,i)↔(∃(k:Nat) (rs:List cw),i=k∧k+n=l.length∧o=rs.map cw.cells∧rs.length≤k∧l.filterMap (sY l ps)=rs++(l.drop k).filterMap (sY l ps)):=⟨fun n v=>match v with|(o,i)=>(∃(k:Nat) (rs:List cw),i=k∧k+n=l.length∧o=rs.map cw.cells∧rs.length≤k∧l.filterMap (sY l ps)=rs++(l.drop k).filterMap (sY l ps)),fun _ _ _=>Iff.rfl⟩
 refine bg ⟨[1,3,9,10,11],[(3,6)],[]⟩ (σ:=List (List D)×Int) (fun v=>[(3,.ow 1 6 (t _ fun _=>(v.1).length)),(11,.d (.int .i64 (t _ fun _=>v.2)))]) (fun v=>[(1,.row 6 (t _ fun _=>v.1))]) J0 ?_
 cbv
 refine aC ⟨l.length,([],_),(ee _ _ _).2 ?_,by simp only [ht];rfl,?_⟩
 ·exact ⟨0,[],rfl,by simp,rfl,by simp,by simp⟩
 rintro n ⟨o,i⟩ hj
 replace hj:=(ee _ _ _).1 hj
 obtain ⟨k,rs,rfl,j1,j2,j3,j4⟩:=hj
 have tj:o.length=rs.length:=by rw [j2,lgM]
 cbv
 refine ai (fun h1=>?_) (fun h1=>?_)
 ·simp [ht,aa,av] at h1
  cbv
  refine dS ht aD (cT:=Node.aK t) (by (simp only [ht,aa];omega)) (by (simp only [ht,aa];omega)) (fun _=>rfl) (fun _=>(by (simp only [ht,Node.aK];done))) (fun x2 iC=>?_)
  simp [ht,aa] at iC
  rw [bV iC,List.filterMap_cons,sY] at j4
  cbv
  refine ay trv (EX ht _ ‹_› ‹_› (by omega) (by omega)) trv rfl rfl (fun r3 gQ=>?_)
  simp only [ht] at gQ
  cbv
  iterate 2 refine gI (by simp) ?_
  refine pI (by simp) ?_
  refine ai (fun h4=>?_) (fun h4=>?_)
  ·simp [ht] at h4
   cbv
   refine ⟨?_,?_⟩
   ·(simp only [ht,true_and];exact AY j2 (fun _=>rfl) rfl (by omega) (by decide))
   cbv
   refine bu (_,_) (by simp only [ht,←List.length_append];rfl) (n-1) ?_ ((ee _ _ _).2 ?_)
   ·omega
   simp only [aa]
   refine ⟨k+1,rs++[⟨(x2).name,(gv (x2).name l ps).1,(x2).labels⟩],aE (by omega),by omega,?_,by simp;omega,?_⟩
   ·(simp [cw.cells, *];done)
   (simp_all;done)
  simp [ht] at h4
  cbv
  refine bu (_,_) (by simp only [ht];rfl) (n-1) ?_ ((ee _ _ _).2 ?_)
  ·omega
  simp only [aa]
  exact ⟨k+1,rs,aE (by omega),by omega,j2,by omega,by grind⟩
 simp [ht,aa,av] at h1
 cbv
 refine ak trv (by simp [ht]) rfl rfl rfl ?_
 (rw [List.drop_eq_nil_of_le (by omega)] at j4;simp [*];done)
theorem ou (ht:TT t) (s:aA) (hs:s.length<9223372036854775807):FC 93 [ST s] [] (.ret (cu (t _ fun _=>dU s))) []:=by
 simp only [ht];exact BC ht s hs rfl
theorem sy (ht:TT t) {l:List bR} {es:List (List D)} (aD:es=l.map bR.cells) (hl:l.length<1000000000) (gD:∀p∈l,p.sm):FC 94 [SL es] [] (.ret (cu (t _ fun _=>oY l))) []:=by
 simp only [ht];exact Qw ht l (by omega) gD aD rfl
theorem To (ht:TT t) (jb:Int) (nd:aA) (v1 v2 v3 v4:Int) {l:List Node} {es qs:List (List D)} (aD:es=l.map Node.cells) (hl:l.length<1000000000) {r:Bool} (hr:r=AX l ⟨jb,nd,⟨v1,v2,v3,v4⟩⟩):
 FC 103 [.agg [ax jb,ST nd,ax v1,ax v2,ax v3,ax v4],.ptr 0 0] [.var [SL es,SL qs]] (.ret (BL r)) [.var [SL es,SL qs]]:=by
 refine bA ht (aB:=[.var [SL es,SL qs]]) Tryz.func103 rfl rfl (N:=9) rfl rfl (n:=1) rfl rfl ?_
 cbv
 have av:es.length=l.length:=by rw [aD,lgM]
 refine ay trv (HT ht _ ‹_› (by omega)) trv rfl rfl (fun r0 bF=>?_)
 simp only [ht] at bF
 cbv
 refine ak trv trv rfl rfl rfl ?_
 (simp [AX,eP, *];grind)
theorem HW (ht:TT t) (ns qs:List (List D)) {l:List (Place)} {es:List (List D)} (aD:es=l.map Place.cells) (f:Nat) (p:Place→Bool) (hl:l.length<9223372036854775807)
 (hf:∀x∈l,FC f [.agg [.d (.int .u64 x.bB),.d (.str x.node),.d (.int .u64 x.v.a),.d (.int .u64 x.v.b),.d (.int .u64 x.v.c),.d (.int .u64 x.v.d)],.ptr 0 0] [.var [SL ns,SL qs]] (.ret (BL (p x))) [.var [SL ns,SL qs]]) {r:Int} (hr:r=idxOf p l):FC 161 [SL es,.fn f [.ptr 0 0]] [.var [SL ns,SL qs]] (.ret (bc r)) [.var [SL ns,SL qs]]:=by
 have hel:es.length=l.length:=by rw [aD,lgM]
 obtain ⟨J,hJ⟩:∃J:Nat→Nat→Prop,∀n v,J n v↔(v+n=l.length∧∀i<v,∀x,l[i]?=some x→p x=false):=⟨fun n v=>v+n=l.length∧∀i<v,∀x,l[i]?=some x→p x=false,fun _ _=>Iff.rfl⟩
 refine bA ht (aB:=[.var [SL ns,SL qs]]) Tryz.func161 rfl rfl (N:=19) rfl rfl (n:=1) rfl rfl ?_
 cbv
 refine bg ⟨[0,1,7,8],[],[]⟩ (σ:=Nat) (fun k=>[(8,bc (t _ fun _=>(k:Int)))]) (fun _=>[]) J ?_
 cbv
 refine aC ⟨l.length,0,(hJ _ _).2 ⟨by omega,by intro i hi;simp at hi⟩,by simp only [ht];rfl,?_⟩
 rintro n k hj
 obtain ⟨h2,h3⟩:=(hJ _ _).1 hj
 clear hj
 cbv
 refine ai (fun h=>?_) (fun h=>?_)
 ·simp only [ht,aa,decide_eq_true_eq] at h
  have hk:k<l.length:=by omega
  obtain ⟨x,hx⟩:∃x,l[k]?=some x:=⟨l[k],by simp⟩
  have nO:x∈l:=List.mem_of_getElem? hx
  have gS:=hf x nO
  obtain ⟨px,hpx⟩:∃b,b=p x:=⟨_,rfl⟩
  rw [←hpx] at gS
  obtain ⟨jb,nd,⟨v1,v2,v3,v4⟩⟩:=x
  cbv
  refine iq [.int .u64 jb,.str nd,.int .u64 v1,.int .u64 v2,.int .u64 v3,.int .u64 v4] ?_ ?_ ?_
  ·simp only [ht,aa];refine ⟨by omega,h,?_⟩;rw [aD];intro r hr;obtain ⟨y,_,rfl⟩:=List.mem_map.1 hr;rfl
  ·simp [ht,aa,aD,hx]
  cbv
  refine de trv gS ?_
  cbv
  refine ai (fun hb=>?_) (fun hb=>?_)
  ·cbv
   refine ak trv trv rfl rfl rfl ?_
   have e:=cO hx (hpx▸hb) h3
   simp only [ht,aa,hr,idxOf,e]
  cbv
  refine aC ⟨n-1,k+1,⟨by omega,(hJ _ _).2 ⟨by omega,?_⟩⟩,?_⟩
  ·intro i hi y hy
   by_cases hik:i<k
   ·exact h3 i hik y hy
   have:i=k:=by omega
   subst this;rw [hx] at hy;cases hy;rw [←hpx];exact hb
  simp only [ht,aa,aE (show k<9223372036854775807 by omega)];rfl
 simp only [ht,aa,decide_eq_false_iff_not] at h
 have hk:¬k<l.length:=by omega
 clear h
 cbv
 refine ak trv trv rfl rfl rfl ?_
 rw [hr,idxOf,cR]
 intro i y hy
 have:i<l.length:=by
  rcases Nat.lt_or_ge i l.length with h'|h';· exact h'
  simp [List.getElem?_eq_none h'] at hy
 exact h3 i (by omega) y hy
theorem HX (ht:TT t) (ns qs:List (List D)) {l:List (Place)} {es:List (List D)} (aD:es=l.map Place.cells) (f:Nat) (p:Place→Bool) (hl:l.length<9223372036854775807)
 (hf:∀x∈l,FC f [.agg [.d (.int .u64 x.bB),.d (.str x.node),.d (.int .u64 x.v.a),.d (.int .u64 x.v.b),.d (.int .u64 x.v.c),.d (.int .u64 x.v.d)],.ptr 0 0] [.var [SL ns,SL qs]] (.ret (BL (p x))) [.var [SL ns,SL qs]]) {r:Bool} (hr:r=l.any p):FC 104 [SL es,.fn f [.ptr 0 0]] [.var [SL ns,SL qs]] (.ret (BL r)) [.var [SL ns,SL qs]]:=by
 obtain ⟨k,hk⟩:∃k,k=idxOf p l:=⟨_,rfl⟩
 refine bA ht (aB:=[.var [SL ns,SL qs]]) Tryz.func104 rfl rfl (N:=9) rfl rfl (n:=1) rfl rfl ?_
 cbv
 refine de trv (HW ht ns qs aD f p hl hf hk) ?_
 cbv
 refine ak trv trv rfl rfl rfl ?_
 simp only [ht,hr,eP,hk]
theorem Np (ht:TT t) {l:List Node} {ps:List Place} {es qs:List (List D)} (aD:es=l.map Node.cells) (fG:qs=ps.map Place.cells) (hl:l.length<1000000000) (pO:ps.length<1000000000) {r:Bool} (hr:r=ps.any (AX l)):
 FC 104 [SL qs,.fn 103 [.ptr 0 0]] [.var [SL es,SL qs]] (.ret (BL r)) [.var [SL es,SL qs]]:=
 HX ht es qs fG 103 (AX l) (by omega) (fun x _=>To ht x.bB x.node x.v.a x.v.b x.v.c x.v.d aD hl rfl) hr
theorem DE (ht:TT t) {l:List Node} {ps:List Place} {es qs:List (List D)} (aD:es=l.map Node.cells) (fG:qs=ps.map Place.cells) (hl:l.length<1000000000) (pO:ps.length<1000000000) (gD:∀x∈l,x.sm):
 FC 39 [.agg [SL es,SL qs]] [] (.ret (cu (t _ fun _=>nH ⟨l,ps⟩))) []:=by
 refine bA ht (aB:=[]) Tryz.func39 rfl rfl (N:=66) rfl rfl (n:=0) rfl rfl ?_
 cbv
 have av:es.length=l.length:=by rw [aD,lgM]
 have dL:qs.length=ps.length:=by rw [fG,lgM]
 obtain ⟨J0,ee⟩:∃J0:Nat→Int→Prop,∀n i,J0 n i↔(∃k:Nat,i=k∧k+n=l.length∧iU l ps none l=iU l ps (oh l k) (l.drop k)):=⟨fun n v=>match v with|i=>(∃k:Nat,i=k∧k+n=l.length∧iU l ps none l=iU l ps (oh l k) (l.drop k)),fun _ _=>Iff.rfl⟩
 refine bg ⟨[1,9,10,11],[],[]⟩ (σ:=Int) (fun v=>[(11,.d (.int .i64 (t _ fun _=>v)))]) (fun v=>[]) J0 ?_
 cbv
 refine aC ⟨l.length,_,(ee _ _).2 ?_,by simp only [ht];rfl,?_⟩
 ·exact ⟨0,rfl,by simp,by simp [oh]⟩
 rintro n i hj
 replace hj:=(ee _ _).1 hj
 obtain ⟨k,rfl,j1,j4⟩:=hj
 cbv
 refine ai (fun h1=>?_) (fun h1=>?_)
 ·simp [ht,aa,av] at h1
  cbv
  refine dS ht aD (cT:=Node.aK t) (by (simp only [ht,aa];omega)) (by (simp only [ht,aa];omega)) (fun _=>rfl) (fun _=>(by (simp only [ht,Node.aK];done))) (fun x2 iC=>?_)
  simp [ht,aa] at iC
  simp only [bV iC,iU] at j4
  first|obtain ⟨s1,s2,s3⟩:=gD _ (List.mem_of_getElem? iC)|skip
  cbv
  refine ay trv (EX ht _ ‹_› ‹_› (by omega) (by omega)) trv rfl rfl (fun r3 gQ=>?_)
  simp only [ht] at gQ
  cbv
  refine bS [true,true,true,true,true,true,true,true,true,true,true,true,true,true,true,true,true,true,false,false,false,false,false,false,false,false,false,true,true,true] (by kernel_rfl) (by kernel_rfl) ?_
  cbv
  iterate 2 refine gI (by simp [ht]) ?_
  refine aJ (fun g4=>⟨by simp [ht] at g4 ⊢;exact g4,trv,ou ht _ ‹_›⟩) rfl rfl (fun r5 jh=>?_)
  simp only [ht] at jh
  cbv
  refine gI (by simp [ht]) ?_
  refine pI (by simp [ht]) ?_
  iterate 2 refine gI (by simp [ht]) ?_
  refine aJ (fun g6=>⟨by simp [ht] at g6 ⊢;exact g6,trv,sy ht (jE ht rfl) ‹_› ‹_›⟩) rfl rfl (fun r7 gE=>?_)
  simp only [ht] at gE
  cbv
  refine gI (by simp [ht]) ?_
  refine pI (by simp [ht]) ?_
  iterate 9 refine gI (by simp [ht]) ?_
  (refine Hh ht aD (cT:=Node.aK t) (k-1) (fun g=>by simp [ht,aa] at g ⊢;simp [g]) (fun g=>by simp [ht,aa] at g;simp only [ht,aa];exact ⟨vv (by omega) (by omega),by omega⟩) (fun _=>rfl) (fun _=>by simp only [ht,Node.aK]) (fun y my=>?_);simp [ht,aa] at my)
  cbv
  iterate 3 refine gI (by simp [ht]) ?_
  refine gI (by simp [ht,bq];intros;simp_all) ?_
  refine pI (by simp [ht]) ?_
  refine ai (fun h8=>?_) (fun h8=>?_)
  ·simp [ht,aa] at h8
   cbv
   refine ak trv trv rfl rfl rfl ?_
   (simp only [ht];rw [Dc] at j4;grind [nH,sle])
  simp [ht,aa] at h8
  cbv
  refine bu _ rfl (n-1) ?_ ((ee _ _).2 ?_)
  ·omega
  simp only [ht,aa]
  refine ⟨k+1,aE (by omega),by omega,?_⟩
  (rw [Dc] at j4;simp only [oh,iC,Option.map_some];grind [sle])
 simp [ht,aa,av] at h1
 cbv
 iterate 3 refine gI (by simp [ht]) ?_
 (obtain ⟨r9,dz⟩:∃r,r=ps.any (AX l):=⟨_,rfl⟩;refine Vz [0] (fun g=>⟨by simp [ht] at g ⊢;exact g,Np ht aD fG hl pO dz⟩) rfl rfl rfl rfl ?_)
 cbv
 refine gI (by simp [ht]) ?_
 refine pI (by simp [ht]) ?_
 refine ak trv trv rfl rfl rfl ?_
 (rw [List.drop_eq_nil_of_le (by omega),iU] at j4;simp [ht,aa,nH,j4,dz,av];congr 1;rw [decide_eq_decide];omega)
def Term.aK (t:Th) (x:Term):List D:=[.str x.key,.bool x.no,.sl (t _ fun _=>x.fw.map aV)]
def Term.sm (x:Term):Prop:=x.key.length<9223372036854775807∧x.fw.length<1000000000∧∀v∈x.fw,v.length<9223372036854775807
theorem Tp {x y:Term}:x=y↔x.key=y.key∧x.no=y.no∧x.fw=y.fw:=by cases x;cases y;simp
def prevStr (l:List aA) (k:Nat):Option aA:=match k with
 |0=>none
 |k+1=>l[k]?
theorem Qx (ht:TT t) {l m:List aA} {es fs:List (List D)} (aD:es=l.map aV) (sN:fs=m.map aV) (hl:l.length<1000000000) (hm:m.length<1000000000):
 FC 172 [SL es,SL fs] [] (.ret (cu (t _ fun _=>decide (l=m)))) []:=by
 refine bA ht (aB:=[]) Tryz.func172 rfl rfl (N:=26) rfl rfl (n:=0) rfl rfl ?_
 cbv
 have av:es.length=l.length:=by rw [aD,lgM]
 have cK:fs.length=m.length:=by rw [sN,lgM]
 refine ai (fun h0=>?_) (fun h0=>?_)
 ·simp [ht,aa,av,cK] at h0
  cbv
  refine ak trv trv rfl rfl rfl ?_
  (simp [ht];rintro rfl;simp_all;done)
 simp [ht,aa,av,cK] at h0
 cbv
 obtain ⟨J1,gj⟩:∃J1:Nat→Int→Prop,∀n i,J1 n i↔(∃k:Nat,i=k∧k+n=l.length∧l.length=m.length∧decide (l=m)=decide (l.drop k=m.drop k)):=⟨fun n v=>match v with|i=>(∃k:Nat,i=k∧k+n=l.length∧l.length=m.length∧decide (l=m)=decide (l.drop k=m.drop k)),fun _ _=>Iff.rfl⟩
 refine bg ⟨[0,1,12,13],[],[]⟩ (σ:=Int) (fun v=>[(13,.d (.int .i64 (t _ fun _=>v)))]) (fun v=>[]) J1 ?_
 cbv
 refine aC ⟨l.length,_,(gj _ _).2 ?_,by simp only [ht];rfl,?_⟩
 ·(simp only [aa];grind)
 rintro n i hj
 replace hj:=(gj _ _).1 hj
 obtain ⟨k,rfl,j1,j2,j4⟩:=hj
 cbv
 refine ai (fun h2=>?_) (fun h2=>?_)
 ·simp [ht,aa,av] at h2
  cbv
  refine bS [false,false,false,false,false,false,false,false,true] (by kernel_rfl) (by kernel_rfl) ?_
  cbv
  iterate 2 refine gI (by simp) ?_
  refine dS ht aD (cT:=eR t) (by (simp only [ht,aa];omega)) (by (simp only [ht,aa];omega)) (fun _=>rfl) (fun _=>rfl) (fun x3 nv=>?_)
  simp [ht,aa] at nv
  rw [bV nv] at j4
  cbv
  iterate 3 refine gI (by simp) ?_
  refine dS ht sN (cT:=eR t) (by (simp only [ht,aa];omega)) (by (simp only [ht,aa];omega)) (fun _=>rfl) (fun _=>rfl) (fun x4 tg=>?_)
  simp [ht,aa] at tg
  rw [bV tg] at j4
  cbv
  refine gI (by simp) ?_
  refine ai (fun h5=>?_) (fun h5=>?_)
  ·simp [ht] at h5
   cbv
   refine ak trv trv rfl rfl rfl ?_
   (simp [ht];rintro rfl;simp_all;done)
  simp [ht] at h5
  cbv
  refine bu _ (by simp only [ht];rfl) (n-1) ?_ ((gj _ _).2 ?_)
  ·omega
  simp only [aa]
  refine ⟨k+1,aE (by omega),by omega,by omega,?_⟩
  (simp [*];done)
 simp [ht,aa,av] at h2
 cbv
 refine ak trv trv rfl rfl rfl ?_
 (simp [ht,j4,List.drop_eq_nil_of_le (show l.length≤k by omega),List.drop_eq_nil_of_le (show m.length≤k by omega)];done)
theorem HY (ht:TT t) (k k':aA) (n n':Bool) {vs vs':List aA} {vr vr':List (List D)} (uz:vr=vs.map aV) (aaH:vr'=vs'.map aV) (hl:vs.length<1000000000) (hl':vs'.length<1000000000):
 FC 125 [.agg [ST k,BL n,SL vr],.agg [ST k',BL n',SL vr']] [] (.ret (cu (t _ fun _=>decide ((⟨k,n,vs⟩:Term)=⟨k',n',vs'⟩)))) []:=by
 refine bA ht (aB:=[]) Tryz.func125 rfl rfl (N:=24) rfl rfl (n:=0) rfl rfl ?_
 cbv
 have jY:vr.length=vs.length:=by rw [uz,lgM]
 have Zn:vr'.length=vs'.length:=by rw [aaH,lgM]
 iterate 5 refine gI (by simp [ht]) ?_
 refine pI (by simp [ht]) ?_
 iterate 4 refine gI (by simp [ht]) ?_
 refine aJ (fun g0=>⟨by simp [ht] at g0 ⊢;exact g0,trv,Qx ht ‹_› ‹_› ‹_› ‹_›⟩) rfl rfl (fun r1 eb=>?_)
 simp only [ht] at eb
 cbv
 refine pI (by simp [ht]) ?_
 refine ak trv trv rfl rfl rfl ?_
 (simp [*];grind)
theorem Nq (ht:TT t) {l m:List Term} {es fs:List (List D)} (aD:es=l.map Term.cells) (sN:fs=m.map Term.cells) (hl:l.length<1000000000) (hm:m.length<1000000000) (hls:∀x∈l,x.fw.length<1000000000) (Si:∀x∈m,x.fw.length<1000000000):
 FC 124 [SL es,SL fs,.fn 125 []] [] (.ret (cu (t _ fun _=>decide (l=m)))) []:=by
 refine bA ht (aB:=[]) Tryz.func124 rfl rfl (N:=32) rfl rfl (n:=0) rfl rfl ?_
 cbv
 have av:es.length=l.length:=by rw [aD,lgM]
 have cK:fs.length=m.length:=by rw [sN,lgM]
 refine ai (fun h0=>?_) (fun h0=>?_)
 ·simp [ht,aa,av,cK] at h0
  cbv
  refine ak trv trv rfl rfl rfl ?_
  (simp [ht];rintro rfl;simp_all;done)
 simp [ht,aa,av,cK] at h0
 cbv
 obtain ⟨J1,gj⟩:∃J1:Nat→Int→Prop,∀n i,J1 n i↔(∃k:Nat,i=k∧k+n=l.length∧l.length=m.length∧decide (l=m)=decide (l.drop k=m.drop k)):=⟨fun n v=>match v with|i=>(∃k:Nat,i=k∧k+n=l.length∧l.length=m.length∧decide (l=m)=decide (l.drop k=m.drop k)),fun _ _=>Iff.rfl⟩
 refine bg ⟨[1,2,15,16,17],[],[]⟩ (σ:=Int) (fun v=>[(17,.d (.int .i64 (t _ fun _=>v)))]) (fun v=>[]) J1 ?_
 cbv
 refine aC ⟨l.length,_,(gj _ _).2 ?_,by simp only [ht];rfl,?_⟩
 ·(simp only [aa];grind)
 rintro n i hj
 replace hj:=(gj _ _).1 hj
 obtain ⟨k,rfl,j1,j2,j4⟩:=hj
 cbv
 refine ai (fun h2=>?_) (fun h2=>?_)
 ·simp [ht,aa,av] at h2
  cbv
  refine dS ht aD (cT:=Term.aK t) (by (simp only [ht,aa];omega)) (by (simp only [ht,aa];omega)) (fun _=>rfl) (fun _=>(by (simp only [ht,Term.aK];rfl))) (fun x3 nv=>?_)
  simp [ht,aa] at nv
  rw [bV nv] at j4
  have Zm:=hls _ (List.mem_of_getElem? nv)
  cbv
  refine dS ht sN (cT:=Term.aK t) (by (simp only [ht,aa];omega)) (by (simp only [ht,aa];omega)) (fun _=>rfl) (fun _=>(by (simp only [ht,Term.aK];rfl))) (fun x4 tg=>?_)
  simp [ht,aa] at tg
  rw [bV tg] at j4
  have sx4:=Si _ (List.mem_of_getElem? tg)
  cbv
  refine ay trv (HY ht _ _ _ _ (jE ht rfl) (jE ht rfl) ‹_› ‹_›) trv rfl rfl (fun r5 jh=>?_)
  simp only [ht] at jh
  cbv
  refine ai (fun h6=>?_) (fun h6=>?_)
  ·simp [ht] at h6
   cbv
   refine ak trv trv rfl rfl rfl ?_
   (simp [ht];rintro rfl;simp_all;done)
  simp [ht] at h6
  cbv
  refine bu _ (by simp only [ht];rfl) (n-1) ?_ ((gj _ _).2 ?_)
  ·omega
  simp only [aa]
  refine ⟨k+1,aE (by omega),by omega,by omega,?_⟩
  (simp_all [Tp];done)
 simp [ht,aa,av] at h2
 cbv
 refine ak trv trv rfl rfl rfl ?_
 (simp [ht,j4,List.drop_eq_nil_of_le (show l.length≤k by omega),List.drop_eq_nil_of_le (show m.length≤k by omega)];done)
theorem Qy (ht:TT t) {l m:List Term} {es fs:List (List D)} (aD:es=l.map Term.cells) (sN:fs=m.map Term.cells) (hl:l.length<1000000000) (hm:m.length<1000000000) (hls:∀x∈l,x.fw.length<1000000000) (Si:∀x∈m,x.fw.length<1000000000):
 FC 62 [SL es,SL fs] [] (.ret (cu (t _ fun _=>decide (l=m)))) []:=by
 refine bA ht (aB:=[]) Tryz.func62 rfl rfl (N:=8) rfl rfl (n:=0) rfl rfl ?_
 cbv
 have av:es.length=l.length:=by rw [aD,lgM]
 have cK:fs.length=m.length:=by rw [sN,lgM]
 refine ay trv (Nq ht ‹_› ‹_› ‹_› ‹_› ‹_› ‹_›) trv rfl rfl (fun r0 bF=>?_)
 simp only [ht] at bF
 cbv
 refine ak trv trv rfl rfl rfl ?_
 (simp [*];done)
theorem V0 (ht:TT t) (nm:aA) (a b c d:Int) {lb:List (List D)} (up:Bool) (Un:aA) (a' b' c' d':Int) {lb':List (List D)} (Xc:Bool) {r:Bool} (hr:r=!Op.bytesLess Un nm):
 FC 97 [.agg [ST Un,ax a',ax b',ax c',ax d',SL lb',BL Xc],.ptr 0 0] [.var [ST nm,ax a,ax b,ax c,ax d,SL lb,BL up]] (.ret (BL r)) [.var [ST nm,ax a,ax b,ax c,ax d,SL lb,BL up]]:=by
 refine bA ht (aB:=[.var [ST nm,ax a,ax b,ax c,ax d,SL lb,BL up]]) Tryz.func97 rfl rfl (N:=9) rfl rfl (n:=1) rfl rfl ?_
 cbv
 refine ak trv trv rfl rfl rfl ?_
 (simp only [ht,hr];done)
theorem Kr (ht:TT t) (nm:aA) (a b c d:Int) (lb:List (List D)) (up:Bool) {l:List (Node)} {es:List (List D)} (aD:es=l.map Node.cells) (f:Nat) (p:Node→Bool) (hl:l.length<9223372036854775807)
 (hf:∀x∈l,FC f [.agg [.d (.str x.name),.d (.int .u64 x.cap.a),.d (.int .u64 x.cap.b),.d (.int .u64 x.cap.c),.d (.int .u64 x.cap.d),.d (.sl (x.labels.map bR.cells)),.d (.bool x.up)],.ptr 0 0] [.var [ST nm,ax a,ax b,ax c,ax d,SL lb,BL up]] (.ret (BL (p x))) [.var [ST nm,ax a,ax b,ax c,ax d,SL lb,BL up]]) {r:Int} (hr:r=idxOf p l):FC 96 [SL es,.fn f [.ptr 0 0]] [.var [ST nm,ax a,ax b,ax c,ax d,SL lb,BL up]] (.ret (bc r)) [.var [ST nm,ax a,ax b,ax c,ax d,SL lb,BL up]]:=by
 have hel:es.length=l.length:=by rw [aD,lgM]
 obtain ⟨J,hJ⟩:∃J:Nat→Nat→Prop,∀n v,J n v↔(v+n=l.length∧∀i<v,∀x,l[i]?=some x→p x=false):=⟨fun n v=>v+n=l.length∧∀i<v,∀x,l[i]?=some x→p x=false,fun _ _=>Iff.rfl⟩
 refine bA ht (aB:=[.var [ST nm,ax a,ax b,ax c,ax d,SL lb,BL up]]) Tryz.func96 rfl rfl (N:=19) rfl rfl (n:=1) rfl rfl ?_
 cbv
 refine bg ⟨[0,1,7,8],[],[]⟩ (σ:=Nat) (fun k=>[(8,bc (t _ fun _=>(k:Int)))]) (fun _=>[]) J ?_
 cbv
 refine aC ⟨l.length,0,(hJ _ _).2 ⟨by omega,by intro i hi;simp at hi⟩,by simp only [ht];rfl,?_⟩
 rintro n k hj
 obtain ⟨h2,h3⟩:=(hJ _ _).1 hj
 clear hj
 cbv
 refine ai (fun h=>?_) (fun h=>?_)
 ·simp only [ht,aa,decide_eq_true_eq] at h
  have hk:k<l.length:=by omega
  obtain ⟨x,hx⟩:∃x,l[k]?=some x:=⟨l[k],by simp⟩
  have nO:x∈l:=List.mem_of_getElem? hx
  have gS:=hf x nO
  obtain ⟨px,hpx⟩:∃b,b=p x:=⟨_,rfl⟩
  rw [←hpx] at gS
  obtain ⟨Un,⟨a',b',c',d'⟩,lb',Xc⟩:=x;obtain ⟨IV,pF⟩:∃lr:List (List D),lr=lb'.map bR.cells:=⟨_,rfl⟩;simp only [←pF] at gS
  cbv
  refine iq [.str Un,.int .u64 a',.int .u64 b',.int .u64 c',.int .u64 d',.sl IV,.bool Xc] ?_ ?_ ?_
  ·simp only [ht,aa];refine ⟨by omega,h,?_⟩;rw [aD];intro r hr;obtain ⟨y,_,rfl⟩:=List.mem_map.1 hr;rfl
  ·simp [ht,aa,aD,hx,pF]
  cbv
  refine de trv gS ?_
  cbv
  refine ai (fun hb=>?_) (fun hb=>?_)
  ·cbv
   refine ak trv trv rfl rfl rfl ?_
   have e:=cO hx (hpx▸hb) h3
   simp only [ht,aa,hr,idxOf,e]
  cbv
  refine aC ⟨n-1,k+1,⟨by omega,(hJ _ _).2 ⟨by omega,?_⟩⟩,?_⟩
  ·intro i hi y hy
   by_cases hik:i<k
   ·exact h3 i hik y hy
   have:i=k:=by omega
   subst this;rw [hx] at hy;cases hy;rw [←hpx];exact hb
  simp only [ht,aa,aE (show k<9223372036854775807 by omega)];rfl
 simp only [ht,aa,decide_eq_false_iff_not] at h
 have hk:¬k<l.length:=by omega
 clear h
 cbv
 refine ak trv trv rfl rfl rfl ?_
 rw [hr,idxOf,cR]
 intro i y hy
 have:i<l.length:=by
  rcases Nat.lt_or_ge i l.length with h'|h';· exact h'
  simp [List.getElem?_eq_none h'] at hy
 exact h3 i (by omega) y hy
theorem tq (ht:TT t) {l:List Node} {x:Node} {k:Nat} {i:Int} {lr:List (List D)} (hi:i=k) (hk:k≤l.length) (hl:l.length<1000000) (hlr:lr=x.labels.map bR.cells):
 FC 98 [.ow 0 7 (t _ fun _=>(l.map Node.cells).length),bc i,.cl [[.str x.name,.int .u64 x.cap.a,.int .u64 x.cap.b,.int .u64 x.cap.c,.int .u64 x.cap.d,.sl lr,.bool x.up]]] [.row 7 (t _ fun _=>l.map Node.cells)] (.ret (SL (t _ fun _=>(l.take k++x::l.drop k).map Node.cells))) [.dead]:=by
 simp only [ht];subst hi hlr
 refine oZ (args':=[.ow 0 7 (l.map Node.cells).length,bc k,SL [Node.cells x]]) ?_ (EV ht (by simp) (by simpa using hk) ?_ rfl (by simpa using hl) (by simp))
 ·intro β w ok vs h
  simp only [aj] at h ⊢
  obtain ⟨u1,Zg,rfl,h1,u2,OR,rfl,h2,u3,V1,rfl,h3,h4⟩:=h
  exact ⟨u1,_,rfl,h1,u2,_,rfl,h2,u3,V1,rfl,LU h3,h4⟩
 intro r hr;obtain ⟨y,_,rfl⟩:=List.mem_map.1 hr;rfl
theorem Ks (ht:TT t) {l:List Node} {ps:List Place} {es qs:List (List D)} (aD:es=l.map Node.cells) (fG:qs=ps.map Place.cells) (nm:aA) (a b c d:Int) {lb:List bR} {lr:List (List D)} (hlr:lr=lb.map bR.cells) (up:Bool) (hl:l.length<1000000000) (hn:nm.length<9223372036854775807) (hlb:lb.length<1000000000) (gD:∀p∈lb,p.sm):
 FC 35 [.agg [SL es,SL qs],.agg [ST nm,ax a,ax b,ax c,ax d,SL lr,BL up]] [] (.ret (P0 t (t _ fun _=>qZ ⟨l,ps⟩ ⟨nm,⟨a,b,c,d⟩,lb,up⟩))) []:=by
 refine bA ht (aB:=[]) Tryz.func35 rfl rfl (N:=51) rfl rfl (n:=0) rfl rfl ?_
 cbv
 have av:es.length=l.length:=by rw [aD,lgM]
 have dL:qs.length=ps.length:=by rw [fG,lgM]
 have Kq:lr.length=lb.length:=by rw [hlr,lgM]
 refine ay trv (ou ht _ ‹_›) trv rfl rfl (fun r0 bF=>?_)
 simp only [ht] at bF
 cbv
 refine ai (fun h1=>?_) (fun h1=>?_)
 ·simp [ht] at h1
  cbv
  refine ak trv trv rfl rfl rfl ?_
  (simp only [ht,qZ];grind)
 simp [ht] at h1
 cbv
 refine ay trv (sy ht ‹_› ‹_› ‹_›) trv rfl rfl (fun r2 cU=>?_)
 simp only [ht] at cU
 cbv
 refine ai (fun h3=>?_) (fun h3=>?_)
 ·simp [ht] at h3
  cbv
  refine ak trv trv rfl rfl rfl ?_
  (simp only [ht,qZ];grind)
 simp [ht] at h3
 cbv
 refine ay trv (HT ht _ ‹_› (by omega)) trv rfl rfl (fun r4 dV=>?_)
 simp only [ht] at dV
 cbv
 refine ai (fun h5=>?_) (fun h5=>?_)
 ·simp [ht] at h5
  cbv
  refine ak trv trv rfl rfl rfl ?_
  (simp only [ht,qZ];grind)
 simp [ht] at h5
 cbv
 refine ai (fun h6=>?_) (fun h6=>?_)
 ·simp [ht,aa,av] at h6
  cbv
  refine ak trv trv rfl rfl rfl ?_
  (simp only [ht,qZ];grind)
 simp [ht,aa,av] at h6
 cbv
 (obtain ⟨r9,dz⟩:∃r,r=idxOf (fun o:Node=>!Op.bytesLess o.name nm) l:=⟨_,rfl⟩;refine cD [1] trv rfl rfl (Kr ht nm a b c d lr true aD 97 (fun o:Node=>!Op.bytesLess o.name nm) (by omega) (fun x _=>V0 ht nm a b c d true x.name x.cap.a x.cap.b x.cap.c x.cap.d x.up rfl) dz) (bK ?_);have ec:=cS dz;clear dz;rcases ec with ⟨e1,e2,e3⟩|⟨i,x,hi,hil,e1,e2,e3,e4⟩)
 ·cbv
  refine ai (fun h7=>?_) (fun h7=>?_)
  ·simp [ht] at h7
   cbv
   refine bS [false,false,false,false,false,false,true,true,true] (by kernel_rfl) (by kernel_rfl) ?_
   cbv
   iterate 2 refine gI (by simp) ?_
   refine .inr (LP trv (vP ht ‹_› ‹_›) trv rfl (.inr rfl) rfl ?_)
   cbv
   iterate 3 refine gI (by simp) ?_
   refine cD [3] trv rfl rfl (tq ht (l:=l) (x:=⟨nm,⟨a,b,c,d⟩,lb,true⟩) (k:=pat l nm) (by (simp [ht,pat,e2,av];done)) (by (simp [pat,e2];done)) (by simp only [aa] at*;omega) hlr) (bK ?_)
   cbv
   refine ak trv trv rfl rfl rfl ?_
   (simp only [ht,qZ];grind)
  simp [ht] at h7
  omega
 cbv
 refine ai (fun h8=>?_) (fun h8=>?_)
 ·simp [ht] at h8
  (simp only [aa] at*;omega)
 simp [ht] at h8
 cbv
 refine bS [false,false,false,false,false,false,true,true,true] (by kernel_rfl) (by kernel_rfl) ?_
 cbv
 iterate 2 refine gI (by simp) ?_
 refine .inr (LP trv (vP ht ‹_› ‹_›) trv rfl (.inr rfl) rfl ?_)
 cbv
 iterate 3 refine gI (by simp) ?_
 refine cD [3] trv rfl rfl (tq ht (l:=l) (x:=⟨nm,⟨a,b,c,d⟩,lb,true⟩) (k:=pat l nm) (by (simp only [pat,e3];exact hi)) (by (simp only [pat,e3];omega)) (by simp only [aa] at*;omega) hlr) (bK ?_)
 cbv
 refine ak trv trv rfl rfl rfl ?_
 (simp only [ht,qZ];grind)
theorem HZ {l:List aA} {k:Nat} {x:aA}:EH (prevStr l k) x=(decide (k=0)||match l[k-1]? with|none=>true|some y=>!sle x y):=by
 cases k with
 |zero=>rfl
 |succ k=>simp only [prevStr,EH];cases h:l[k]?<;>simp [h]
theorem Nr (ht:TT t) (k:aA) (n:Bool) {vs:List aA} {vr:List (List D)} (uz:vr=vs.map aV) (hk:k.length<9223372036854775807) (hl:vs.length<1000000000) (hs:∀v∈vs,v.length<9223372036854775807):
 FC 121 [.agg [ST k,BL n,SL vr]] [] (.ret (cu (t _ fun _=>mright ⟨k,n,vs⟩))) []:=by
 refine bA ht (aB:=[]) Tryz.func121 rfl rfl (N:=40) rfl rfl (n:=0) rfl rfl ?_
 cbv
 have jY:vr.length=vs.length:=by rw [uz,lgM]
 obtain ⟨J0,ee⟩:∃J0:Nat→Int→Prop,∀n i,J0 n i↔(∃q:Nat,i=q∧q+n=vs.length∧yp none vs=yp (prevStr vs q) (vs.drop q)):=⟨fun n v=>match v with|i=>(∃q:Nat,i=q∧q+n=vs.length∧yp none vs=yp (prevStr vs q) (vs.drop q)),fun _ _=>Iff.rfl⟩
 refine bg ⟨[1,6,7,8],[],[]⟩ (σ:=Int) (fun v=>[(8,.d (.int .i64 (t _ fun _=>v)))]) (fun v=>[]) J0 ?_
 cbv
 refine aC ⟨vs.length,_,(ee _ _).2 ?_,by simp only [ht];rfl,?_⟩
 ·exact ⟨0,rfl,by simp,by simp [prevStr]⟩
 rintro n i hj
 replace hj:=(ee _ _).1 hj
 obtain ⟨k,rfl,j1,j4⟩:=hj
 cbv
 refine ai (fun h1=>?_) (fun h1=>?_)
 ·simp [ht,aa,jY] at h1
  cbv
  refine dS ht uz (cT:=eR t) (by (simp only [ht,aa];omega)) (by (simp only [ht,aa];omega)) (fun _=>rfl) (fun _=>rfl) (fun x2 iC=>?_)
  simp [ht,aa] at iC
  simp only [bV iC,yp] at j4
  have sx2:=hs _ (List.mem_of_getElem? iC)
  cbv
  refine ay trv (ou ht _ ‹_›) trv rfl rfl (fun r3 gQ=>?_)
  simp only [ht] at gQ
  cbv
  iterate 8 refine gI (by simp [ht]) ?_
  (refine Hh ht uz (cT:=eR t) (k-1) (fun g=>by simp [ht,aa] at g ⊢;simp [g]) (fun g=>by simp [ht,aa] at g;simp only [ht,aa];exact ⟨vv (by omega) (by omega),by omega⟩) (fun _=>rfl) (fun _=>by simp only [eR]) (fun y my=>?_);simp [ht,aa] at my)
  cbv
  iterate 2 refine gI (by simp [ht]) ?_
  refine gI (by simp [ht,bq];intros;simp_all) ?_
  refine pI (by simp [ht]) ?_
  refine ai (fun h4=>?_) (fun h4=>?_)
  ·simp [ht,aa] at h4
   cbv
   refine ak trv trv rfl rfl rfl ?_
   (simp only [ht];rw [HZ] at j4;grind [mright,sle])
  simp [ht,aa] at h4
  cbv
  refine bu _ (by simp only [ht];rfl) (n-1) ?_ ((ee _ _).2 ?_)
  ·omega
  simp only [aa]
  refine ⟨k+1,aE (by omega),by omega,?_⟩
  (rw [HZ] at j4;simp only [prevStr];rw [iC];grind [sle])
 simp [ht,aa,jY] at h1
 cbv
 refine ay trv (ou ht _ ‹_›) trv rfl rfl (fun r5 jh=>?_)
 simp only [ht] at jh
 cbv
 iterate 4 refine gI (by simp) ?_
 refine pI (by simp) ?_
 refine ak trv trv rfl rfl rfl ?_
 (rw [List.drop_eq_nil_of_le (by omega),yp] at j4;have e:decide ((vs.length:Int)≤4)=decide (vs.length≤4):=(by rw [decide_eq_decide];omega);simp [ht,aa,mright,j4,jh,jY,e];done)
theorem Ns (ht:TT t) {l:List (Term)} {es:List (List D)} (aD:es=l.map Term.cells) (f:Nat) (p:Term→Bool) (hl:l.length<9223372036854775807)
 (hf:∀x∈l,FC f [.agg [ST x.key,BL x.no,SL (x.fw.map aV)]] [] (.ret (BL (p x))) []) {r:Int} (hr:r=idxOf p l):FC 171 [SL es,.fn f []] [] (.ret (bc r)) []:=by
 have hel:es.length=l.length:=by rw [aD,lgM]
 obtain ⟨J,hJ⟩:∃J:Nat→Nat→Prop,∀n v,J n v↔(v+n=l.length∧∀i<v,∀x,l[i]?=some x→p x=false):=⟨fun n v=>v+n=l.length∧∀i<v,∀x,l[i]?=some x→p x=false,fun _ _=>Iff.rfl⟩
 refine bA ht (aB:=[]) Tryz.func171 rfl rfl (N:=19) rfl rfl (n:=0) rfl rfl ?_
 cbv
 refine bg ⟨[0,1,7,8],[],[]⟩ (σ:=Nat) (fun k=>[(8,bc (t _ fun _=>(k:Int)))]) (fun _=>[]) J ?_
 cbv
 refine aC ⟨l.length,0,(hJ _ _).2 ⟨by omega,by intro i hi;simp at hi⟩,by simp only [ht];rfl,?_⟩
 rintro n k hj
 obtain ⟨h2,h3⟩:=(hJ _ _).1 hj
 clear hj
 cbv
 refine ai (fun h=>?_) (fun h=>?_)
 ·simp only [ht,aa,decide_eq_true_eq] at h
  have hk:k<l.length:=by omega
  obtain ⟨x,hx⟩:∃x,l[k]?=some x:=⟨l[k],by simp⟩
  have nO:x∈l:=List.mem_of_getElem? hx
  have gS:=hf x nO
  obtain ⟨px,hpx⟩:∃b,b=p x:=⟨_,rfl⟩
  rw [←hpx] at gS
  obtain ⟨a,b,c⟩:=x;obtain ⟨IV,pF⟩:∃lr:List (List D),lr=c.map aV:=⟨_,rfl⟩;simp only [←pF] at gS
  cbv
  refine iq [.str a,.bool b,.sl IV] ?_ ?_ ?_
  ·simp only [ht,aa];refine ⟨by omega,h,?_⟩;rw [aD];intro r hr;obtain ⟨y,_,rfl⟩:=List.mem_map.1 hr;rfl
  ·simp [ht,aa,aD,hx,pF,Term.cells]
  cbv
  refine de trv gS ?_
  cbv
  refine ai (fun hb=>?_) (fun hb=>?_)
  ·cbv
   refine ak trv trv rfl rfl rfl ?_
   have e:=cO hx (hpx▸hb) h3
   simp only [ht,aa,hr,idxOf,e]
  cbv
  refine aC ⟨n-1,k+1,⟨by omega,(hJ _ _).2 ⟨by omega,?_⟩⟩,?_⟩
  ·intro i hi y hy
   by_cases hik:i<k
   ·exact h3 i hik y hy
   have:i=k:=by omega
   subst this;rw [hx] at hy;cases hy;rw [←hpx];exact hb
  simp only [ht,aa,aE (show k<9223372036854775807 by omega)];rfl
 simp only [ht,aa,decide_eq_false_iff_not] at h
 have hk:¬k<l.length:=by omega
 clear h
 cbv
 refine ak trv trv rfl rfl rfl ?_
 rw [hr,idxOf,cR]
 intro i y hy
 have:i<l.length:=by
  rcases Nat.lt_or_ge i l.length with h'|h';· exact h'
  simp [List.getElem?_eq_none h'] at hy
 exact h3 i (by omega) y hy
theorem Nt (ht:TT t) {l:List (Term)} {es:List (List D)} (aD:es=l.map Term.cells) (f:Nat) (p:Term→Bool) (hl:l.length<9223372036854775807)
 (hf:∀x∈l,FC f [.agg [ST x.key,BL x.no,SL (x.fw.map aV)]] [] (.ret (BL (p x))) []) {r:Bool} (hr:r=l.any p):FC 119 [SL es,.fn f []] [] (.ret (BL r)) []:=by
 obtain ⟨k,hk⟩:∃k,k=idxOf p l:=⟨_,rfl⟩
 refine bA ht (aB:=[]) Tryz.func119 rfl rfl (N:=9) rfl rfl (n:=0) rfl rfl ?_
 cbv
 refine de trv (Ns ht aD f p hl hf hk) ?_
 cbv
 refine ak trv trv rfl rfl rfl ?_
 simp only [ht,hr,eP,hk]
theorem Kt (ht:TT t) (k:aA) (n:Bool) {vs:List aA} {vr:List (List D)} (uz:vr=vs.map aV) (hk:k.length<9223372036854775807) (hl:vs.length<1000000000) (hs:∀v∈vs,v.length<9223372036854775807):
 FC 120 [.agg [ST k,BL n,SL vr]] [] (.ret (cu (t _ fun _=>!mright ⟨k,n,vs⟩))) []:=by
 refine bA ht (aB:=[]) Tryz.func120 rfl rfl (N:=6) rfl rfl (n:=0) rfl rfl ?_
 cbv
 have jY:vr.length=vs.length:=by rw [uz,lgM]
 refine ay trv (Nr ht _ _ ‹_› ‹_› ‹_› ‹_›) trv rfl rfl (fun r0 bF=>?_)
 simp only [ht] at bF
 cbv
 refine ak trv trv rfl rfl rfl ?_
 (simp [*];done)
theorem H6 (ht:TT t) {l:List Term} {es:List (List D)} (aD:es=l.map Term.cells) (hl:l.length<1000000000) (gD:∀x∈l,x.sm):
 FC 119 [SL es,.fn 120 []] [] (.ret (cu (t _ fun _=>l.any fun x=>!mright x))) []:=by
 simp only [ht];exact Nt ht aD _ _ (by omega) (fun x hx=>by have h:=Kt ht x.key x.no (vs:=x.fw) rfl (gD x hx).1 (gD x hx).2.1 (gD x hx).2.2;simp only [ht,cu] at h;exact h) rfl
theorem wZ (ht:TT t) {l:List Term} {es:List (List D)} (aD:es=l.map Term.cells) (hl:l.length<1000000000) (gD:∀x∈l,x.sm):
 FC 60 [SL es] [] (.ret (cu (t _ fun _=>pe l))) []:=by
 refine bA ht (aB:=[]) Tryz.func60 rfl rfl (N:=11) rfl rfl (n:=0) rfl rfl ?_
 cbv
 have av:es.length=l.length:=by rw [aD,lgM]
 refine gI (by simp [ht]) ?_
 refine aJ (fun g0=>⟨by simp [ht] at g0 ⊢;exact g0,trv,H6 ht ‹_› ‹_› ‹_›⟩) rfl rfl (fun r1 eb=>?_)
 simp only [ht] at eb
 cbv
 refine gI (by simp [ht]) ?_
 refine pI (by simp [ht]) ?_
 refine ak trv trv rfl rfl rfl ?_
 (simp only [ht,aa,pe];grind)
theorem H7 (ht:TT t) (s:aA) {z:Int} (hz:z=47):FC 242 [ST s,.d (.int .u8 z)] [] (.ret (mR (t _ fun _=>(s.count 47:Nat)))) []:=by
 subst hz
 refine Zh Tryz.func242 (by kernel_rfl) (by kernel_rfl) (by kernel_rfl) (e:=Extern.BytealgCount.count) (by kernel_rfl) ?_
 intro β w vs ok h
 simp only [aj,ah,aH] at h
 obtain ⟨_,_,rfl,rfl,_,_,rfl,rfl,rfl⟩:=h
 refine ⟨_,Lib.run_countString _ _ _,?_⟩
 simp [mR,ah,aH,Lib.countByte,ht]
theorem zf (ht:TT t) (s:aA) {z:Int} (hz:z=47):FC 249 [ST s,.d (.int .u8 z)] [] (.ret (mR (t _ fun _=>Lib.indexByte s 47))) []:=by
 subst hz
 refine Zh Tryz.func249 (by kernel_rfl) (by kernel_rfl) (by kernel_rfl) (e:=Extern.BytealgIndexByte.indexByte) (by kernel_rfl) ?_
 intro β w vs ok h
 simp only [aj,ah,aH] at h
 obtain ⟨_,_,rfl,rfl,_,_,rfl,rfl,rfl⟩:=h
 refine ⟨_,Lib.run_indexByteString _ _ _,?_⟩
 simp [mR,ah,aH,ht]
theorem Qz (ht:TT t) (s:aA):FC 235 [ST s,ST [47]] [] (.ret (mR (t _ fun _=>(s.count 47:Nat)))) []:=by
 refine bA ht (aB:=[]) Tryz.func235 rfl rfl (N:=34) rfl rfl (n:=0) rfl rfl ?_
 cbv
 refine ai (fun h0=>?_) (fun h0=>?_)
 ·simp [ht] at h0
 simp [ht] at h0
 cbv
 refine ai (fun h1=>?_) (fun h1=>?_)
 ·simp [ht] at h1
  cbv
  refine ⟨?_,?_⟩
  ·(simp [ht];done)
  cbv
  refine ay trv (H7 ht _ (jE ht rfl)) trv rfl rfl (fun r2 cU=>?_)
  simp only [ht] at cU
  cbv
  refine ak trv trv rfl rfl rfl ?_
  (simp [*];done)
 simp [ht] at h1
theorem EY (ht:TT t) (s:aA) {z:Int} (hz:z=47):FC 245 [ST s,.d (.int .u8 z)] [] (.ret (mR (t _ fun _=>Lib.indexByte s 47))) []:=by
 refine bA ht (aB:=[]) Tryz.func245 rfl rfl (N:=8) rfl rfl (n:=0) rfl rfl ?_
 cbv
 refine ay trv (zf ht _ ‹_›) trv rfl rfl (fun r0 bF=>?_)
 simp only [ht] at bF
 cbv
 refine ak trv trv rfl rfl rfl ?_
 (simp [*];done)
theorem Ku (ht:TT t) (s:aA):FC 243 [ST s,ST [47]] [] (.ret (mR (t _ fun _=>Lib.indexByte s 47))) []:=by
 refine bA ht (aB:=[]) Tryz.func243 rfl rfl (N:=143) rfl rfl (n:=0) rfl rfl ?_
 cbv
 iterate 3 refine gI (by simp [ht]) ?_
 refine pI (by simp [ht]) ?_
 refine ai (fun h0=>?_) (fun h0=>?_)
 ·simp [ht] at h0
  cbv
  refine ak trv trv rfl rfl rfl ?_
  (subst h0;(try simp only [ht]);rfl)
 simp [ht] at h0
 cbv
 refine ai (fun h1=>?_) (fun h1=>?_)
 ·simp [ht] at h1
  cbv
  refine ⟨?_,?_⟩
  ·(simp [ht];done)
  cbv
  refine ay trv (EY ht _ (jE ht rfl)) trv rfl rfl (fun r2 cU=>?_)
  simp only [ht] at cU
  cbv
  refine ak trv trv rfl rfl rfl ?_
  (simp [*];done)
 simp [ht] at h1
theorem QA (ht:TT t) (s:aA):FC 236 [ST s,ST [47]] [] (.ret (mR (t _ fun _=>Lib.indexByte s 47))) []:=by
 refine bA ht (aB:=[]) Tryz.func236 rfl rfl (N:=8) rfl rfl (n:=0) rfl rfl ?_
 cbv
 refine ay trv (Ku ht _) trv rfl rfl (fun r0 bF=>?_)
 simp only [ht] at bF
 cbv
 refine ak trv trv rfl rfl rfl ?_
 (simp [*];done)
theorem V2 {pre:List aA} {m k:Nat} {x:aA} {u:List (List D)} (h:pre.length=k) (hk:k≤m) (hu:u=(pre++List.replicate (m+1-k) []).map aV):
 u.set k (bG (u.getD k []) 0 [D.str x])=((pre++[x])++List.replicate (m-k) []).map aV:=by
 obtain ⟨d,rfl⟩:∃d,m=k+d:=⟨m-k,by omega⟩
 have e:k+d+1-k=d+1:=by omega
 rw [hu,e,Nat.add_sub_cancel_left,List.replicate_succ]
 simp [bG,←h,aV]
theorem QB {pre:List aA} {m k:Nat} {x:aA} {V:List (List D)} (hV:V=((pre++[x])++List.replicate (m-k) []).map aV) (h:pre.length=k) (hk:k≤m) (hm:m<1000000000001):
 m+1=V.length∧(bQ V.length none (some (IntKind.i64.wrap ((k:Int)+1)))∧∀r∈V,r.length=1)∧fX V none (some (IntKind.i64.wrap ((k:Int)+1)))=(pre++[x]).map aV:=by
 have e:IntKind.i64.wrap ((k:Int)+1)=((k+1:Nat):Int):=by rw [wrap64 (by omega) (by omega)];omega
 have hl:V.length=m+1:=by rw [hV];simp [h];omega
 refine ⟨hl.symm,⟨?_,?_⟩,?_⟩
 ·rw [e,hl];simp only [bQ];omega
 ·intro r hr;rw [hV] at hr;obtain ⟨y,_,rfl⟩:=List.mem_map.1 hr;rfl
 rw [e,hV];simp only [fX,Int.toNat_natCast];rw [List.map_append,List.take_append_of_le_length (by simp [h]),List.take_of_length_le (by simp [h])]
theorem H8 (ht:TT t) (s:aA) (hs:s.length<1000000000000):FC 221 [ST s,ST [47],bc 0,bc (-1)] [] (.ret (Hg t (t _ fun _=>bO 47 s))) []:=by
 obtain ⟨m,hm⟩:∃m,m=s.count 47:=⟨_,rfl⟩
 have Si:m≤s.length:=by rw [hm];exact List.count_le_length
 have hmin:∀r:Int,r=(m:Nat)→min (IntKind.i64.wrap (r+1)) (IntKind.i64.wrap ((s.length:Int)+1))=((m+1:Nat):Int):=fun r hr=>by rw [hr,wrap64 (by omega) (by omega),wrap64 (by omega) (by omega)];omega
 have hmv:IntKind.i64.wrap (m:Int)=(m:Int):=wrap64 (by omega) (by omega)
 have Tq:IntKind.i64.wrap (((m+1:Nat):Int)-1)=(m:Int):=by rw [wrap64 (by omega) (by omega)];omega
 refine bA ht (aB:=[]) Tryz.func221 rfl rfl (N:=66) rfl rfl (n:=0) rfl rfl ?_
 cbv
 refine ai (fun h0=>?_) (fun h0=>?_)
 ·simp [ht] at h0
 simp [ht] at h0
 cbv
 refine ai (fun h1=>?_) (fun h1=>?_)
 ·simp [ht] at h1
 simp [ht] at h1
 cbv
 refine ai (fun h2=>?_) (fun h2=>?_)
 ·simp [ht] at h2
  cbv
  refine ay trv (Qz ht _) trv rfl rfl (fun r3 gQ=>?_)
  simp only [ht] at gQ
  (rw [←hm] at gQ;replace hmin:=hmin _ gQ)
  cbv
  refine ⟨?_,?_⟩
  ·(simp only [ht,aa];grind)
  cbv
  obtain ⟨J4,FB⟩:∃J4:Nat→List UInt8×Int×List (List D)→Prop,∀n s2 i u,J4 n (s2,i,u)↔(∃(k:Nat) (pre:List aA),i=k∧pre.length=k∧bO 47 s=pre++bO 47 s2∧k+s2.count 47=m∧k+n=m∧u=(pre++List.replicate (m+1-k) []).map aV∧s2.length≤s.length):=⟨fun n v=>match v with|(s2,i,u)=>(∃(k:Nat) (pre:List aA),i=k∧pre.length=k∧bO 47 s=pre++bO 47 s2∧k+s2.count 47=m∧k+n=m∧u=(pre++List.replicate (m+1-k) []).map aV∧s2.length≤s.length),fun _ _ _ _=>Iff.rfl⟩
  refine bg ⟨[0,1,2,3,9,10],[],[]⟩ (σ:=List UInt8×Int×List (List D)) (fun v=>[(0,.d (.str (t _ fun _=>v.1))),(10,.d (.int .i64 (t _ fun _=>v.2.1)))]) (fun v=>[(0,.row 1 (t _ fun _=>v.2.2))]) J4 ?_
  cbv
  refine aC ⟨m,(_,_,_),(FB _ _ _ _).2 ?_,by simp only [ht];rfl,?_⟩
  ·exact ⟨0,[],rfl,rfl,rfl,by omega,by omega,by simp only [hmin];simp,by omega⟩
  rintro n ⟨s2,i,u⟩ hj
  replace hj:=(FB _ _ _ _).1 hj
  obtain ⟨k,pre,rfl,j1,j2,j3,j4,j5,j6⟩:=hj
  have V3:=fun x=>V2 (x:=x) j1 (show k≤m by omega) j5
  cbv
  refine ai (fun h5=>?_) (fun h5=>?_)
  ·simp [ht,aa,hmin,hmv] at h5
   cbv
   refine ay trv (QA ht _) trv rfl rfl (fun r6 gk=>?_)
   simp only [ht] at gk
   cbv
   refine ai (fun h7=>?_) (fun h7=>?_)
   ·simp [ht] at h7
    cbv
    refine ⟨?_,?_⟩
    ·(exfalso;have q:=EK gk h7;omega)
    refine ⟨?_,?_⟩
    ·(exfalso;have q:=EK gk h7;omega)
    refine ⟨?_,?_⟩
    ·(exfalso;have q:=EK gk h7;omega)
    cbv
    refine ak trv trv rfl rfl rfl ?_
    (exfalso;have q:=EK gk h7;omega)
   simp [ht] at h7
   cbv
   refine ⟨?_,?_⟩
   ·(obtain ⟨j,e1,e2,e3,e4⟩:=EL gk h7;simp only [ht,e1];simp [bQ];rw [wrap64 (by omega) (by omega)];omega)
   refine ⟨?_,?_⟩
   ·(simp only [ht,aa] at*;omega)
   refine ⟨?_,?_⟩
   ·(simp only [ht,aa];grind)
   refine ⟨?_,?_⟩
   ·(obtain ⟨j,e1,e2,e3,e4⟩:=EL gk h7;simp only [ht,e1];simp [bQ];rw [wrap64 (by omega) (by omega)];omega)
   cbv
   refine bu (_,_,_) (by simp only [ht];rfl) (n-1) ?_ ((FB _ _ _ _).2 ?_)
   ·omega
   simp only [aa]
   (obtain ⟨j,e1,e2,e3,e4⟩:=EL gk h7;subst e1;have ew:IntKind.i64.wrap ((j:Int)+([47]:aA).length)=((j+1:Nat):Int):=(by simp;rw [wrap64 (by omega) (by omega)]);have ez:IntKind.i64.wrap ((j:Int)+0)=(j:Nat):=(by rw [wrap64 (by omega) (by omega)];omega);rw [ew,ez];simp only [fX,Int.toNat_natCast];exact ⟨k+1,pre++[s2.take j],aE (by omega),by simp [j1],by rw [j2,e3];simp,by omega,by omega,by rw [V3];simp,by simp;omega⟩)
  simp [ht,aa,hmin,hmv] at h5
  cbv
  refine ⟨?_,?_⟩
  ·(simp only [ht,aa] at*;omega)
  refine ⟨?_,?_⟩
  ·(simp only [ht,aa];grind)
  refine ⟨?_,?_⟩
  ·(have q:=QB (V3 s2) j1 (by omega) (by omega);simp only [ht,Int.toNat_natCast,hmin];exact ⟨q.1,q.2.1⟩)
  cbv
  refine ak trv trv rfl rfl rfl ?_
  (have q:=QB (V3 s2) j1 (by omega) (by omega);simp only [ht,Int.toNat_natCast];rw [q.2.2,j2,A7 (by omega)])
 simp [ht] at h2
theorem QC (ht:TT t) (s:aA) (hs:s.length<1000000000000):FC 198 [ST s,ST [47]] [] (.ret (Hg t (t _ fun _=>bO 47 s))) []:=by
 refine bA ht (aB:=[]) Tryz.func198 rfl rfl (N:=8) rfl rfl (n:=0) rfl rfl ?_
 cbv
 refine aU trv (H8 ht _ ‹_›) trv rfl rfl rfl (fun r0 bF=>?_)
 simp only [ht] at bF
 cbv
 refine ak trv trv rfl rfl rfl ?_
 (simp [*];done)
end Dem
end
section
namespace Go.Proofs
open Go.Shelf
def Tryz.yJ:Go.Shelf.Ren:=⟨fun|156=>165|165=>200|166=>201|169=>202|240=>222|241=>223|276=>237|277=>238|n=>n,fun|31=>79|9=>9|3=>3|4=>4|0=>0|20=>20|72=>270|76=>274|70=>268|37=>85|75=>273|127=>299|164=>315|5=>5|80=>147|n=>n,fun|n=>n⟩
theorem Tryz.Me:Go.Proofs.Lays.n156 Tryz.prog Tryz.yJ:={
 mixed:=by kernel_rfl
 f156:=Tryz.func165.trans (congrArg some (by kernel_rfl))
 f165:=Tryz.func200.trans (congrArg some (by kernel_rfl))
 f166:=Tryz.func201.trans (congrArg some (by kernel_rfl))
 f169:=Tryz.func202.trans (congrArg some (by kernel_rfl))
 f240:=Tryz.func222.trans (congrArg some (by kernel_rfl))
 f241:=Tryz.func223.trans (congrArg some (by kernel_rfl))
 f276:=Tryz.func237.trans (congrArg some (by kernel_rfl))
 f277:=Tryz.func238.trans (congrArg some (by kernel_rfl))
 t0:=Tryz.underlying0
 a0:=Tryz.isAgg0
 z0:=Tryz.sizeOf0
 v0:=Tryz.zeroValue0
 t3:=Tryz.underlying3
 a3:=Tryz.isAgg3
 z3:=Tryz.sizeOf3
 v3:=Tryz.zeroValue3
 t4:=Tryz.underlying4
 a4:=Tryz.isAgg4
 z4:=Tryz.sizeOf4
 v4:=Tryz.zeroValue4
 t9:=Tryz.underlying9
 a9:=Tryz.isAgg9
 z9:=Tryz.sizeOf9
 v9:=Tryz.zeroValue9
 t20:=Tryz.underlying20
 a20:=Tryz.isAgg20
 z20:=Tryz.sizeOf20
 v20:=Tryz.zeroValue20
 t31:=Tryz.underlying79
 a31:=Tryz.isAgg79
 z31:=Tryz.sizeOf79
 v31:=Tryz.zeroValue79
 t37:=Tryz.underlying85
 a37:=Tryz.isAgg85
 z37:=Tryz.sizeOf85
 v37:=Tryz.zeroValue85
 t70:=Tryz.underlying268
 a70:=Tryz.isAgg268
 z70:=Tryz.sizeOf268
 v70:=Tryz.zeroValue268
 t72:=Tryz.underlying270
 a72:=Tryz.isAgg270
 z72:=Tryz.sizeOf270
 v72:=Tryz.zeroValue270
 t75:=Tryz.underlying273
 a75:=Tryz.isAgg273
 z75:=Tryz.sizeOf273
 v75:=Tryz.zeroValue273
 t76:=Tryz.underlying274
 a76:=Tryz.isAgg274
 z76:=Tryz.sizeOf274
 v76:=Tryz.zeroValue274
 t127:=Tryz.underlying299
 a127:=Tryz.isAgg299
 z127:=Tryz.sizeOf299
 v127:=Tryz.zeroValue299
 t164:=Tryz.underlying315
 a164:=Tryz.isAgg315
 z164:=Tryz.sizeOf315
 v164:=Tryz.zeroValue315}
theorem Tryz.nw:Builder.Extra Tryz.prog Tryz.yJ:={
 sizeBuilder:=by kernel_rfl
 liesBuilder:=by kernel_rfl
 t5:=Tryz.underlying5
 a5:=Tryz.isAgg5
 z5:=Tryz.sizeOf5
 v5:=Tryz.zeroValue5
 infoByte:=by kernel_rfl
 cellsByte:=by kernel_rfl
 sizeByte:=by kernel_rfl
 neB5:=by decide}
open Go.RowKit in
theorem Tryz.strings_Join_none (a:Option Addr) (c:Nat) (sep:ByteArray) (w:World):
 Calls Tryz.prog 165 #[.slice a 0 c,.string sep] w fun e w'=>e=.returned (.string ⟨#[]⟩)∧w'=w:=Any.strings_Join_none Tryz.Me Tryz.nw a c sep w
open Go.RowKit in
theorem Tryz.strings_Join (bk o c:Nat) (xs:List ByteArray) (sep:ByteArray) (w:World) (hcells:∀(j:Nat) x,xs[j]?=some x→w.cell? ⟨bk,o+j,none⟩=some (.string x)) (hbk:bk<w.heap.size) (hN:xs.length≤140737488355328) (hcap:xs.length≤c) (hlen:(Lib.join (xs.map (·.data.toList)) sep.data.toList).length≤140737488355328):
 Calls Tryz.prog 165 #[.slice (some ⟨bk,o,none⟩) xs.length c,.string sep] w fun e w'=>e=.returned (.string ⟨(Lib.join (xs.map (·.data.toList)) sep.data.toList).toArray⟩)∧Below w.heap.size w w':=Any.strings_Join Tryz.Me Tryz.nw bk o c xs sep w hcells hbk hN hcap hlen
end Go.Proofs
end
section
open Go Dem Go.Proofs
namespace Dem
variable {t:Th}
theorem DF {w:World} {ok:Nat→Prop} {az sz:Nat}:∀{l:List aA} {off:Nat},an w ok az sz (l.map aV) off→∀(j:Nat) x,(l.map fun s=>(⟨s.toArray⟩:ByteArray))[j]?=some x→w.cell? ⟨az,off+j,none⟩=some (.string x)
 |[],_,_,j,x,hx=>by simp at hx
 |s::l,off,h,j,x,hx=>by
  simp only [List.map_cons,an,aW,aH,and_true] at h
  obtain ⟨rfl,⟨u,hu,rfl⟩,h3⟩:=h
  cases j with
  |zero=>simp at hx;subst hx;exact hu
  |succ j=>
   have:=DF h3 j x (by simpa using hx)
   rw [show off+(j+1)=off+[D.str s].length+j by simp;omega]
   exact this
theorem DG {β:Nat→Nat} {w w':World} (hb:RowKit.Below w.heap.size w w'):Ext β [] w β [] w':=
 ⟨hb.os,hb.tape,hb.output,hb.size,fun k hk _=>hb.block k hk,fun k c e f hk=>⟨c,by rw [hb.block k (Array.getElem?_eq_some_iff.1 hk).1];exact hk,rfl⟩,fun i h=>by obtain ⟨b,h1,_⟩:=h;simp at h1,fun i b h=>by simp at h⟩
theorem Mf (ht:TT t) {l:List aA} {es:List (List D)} (aD:es=l.map aV) (hl:l.length<1000000000) (hlen:(eW l).length≤140737488355328):FC 165 [SL es,ST [47]] [] (.ret (sK (t _ fun _=>eW l))) []:=by
 simp only [ht]
 subst aD
 intro β w vs X cx hx
 simp only [aj,ah,aH] at hx
 obtain ⟨_,_,rfl,⟨base,cap,rfl,hcap,h1⟩,_,_,rfl,rfl,rfl⟩:=hx
 rcases h1 with h1|⟨az,off,sz,rfl,hok,hrows⟩
 ·have hl0:l=[]:=by simpa using h1
  subst hl0
  refine .inl ⟨enters_of Tryz.func165 (by kernel_rfl) rfl _ _,(Tryz.strings_Join_none base cap ⟨#[47]⟩ w).mono ?_⟩
  rintro e w' ⟨rfl,rfl⟩
  exact ⟨β,Ext.refl _ _ _,cx,by simp [fq,sK,ah,aH,eW,Lib.join_nil]⟩
 have hx:((l.map fun s=>(⟨s.toArray⟩:ByteArray)).map (·.data.toList))=l:=by simp [Function.comp_def]
 have hn:(l.map fun s=>(⟨s.toArray⟩:ByteArray)).length=(l.map aV).length:=by simp
 have key:=Tryz.strings_Join az off cap (l.map fun s=>(⟨s.toArray⟩:ByteArray)) ⟨#[47]⟩ w (DF hrows) hok.1 (by simp;omega) (by simpa using hcap) (by rw [hx];exact hlen)
 rw [hx,hn] at key
 refine .inl ⟨enters_of Tryz.func165 (by kernel_rfl) rfl _ _,key.mono ?_⟩
 rintro e w' ⟨rfl,hb⟩
 exact ⟨β,DG hb,cx.step (DG hb) (fun i b h=>by simp at h) (fun i j bi bj hi=>by simp at hi),by simp [fq,sK,ah,aH,eW]⟩
theorem QD (ht:TT t) {l:List (aA)} {es:List (List D)} (aD:es=l.map aV) (f:Nat) (p:aA→Bool) (hl:l.length<9223372036854775807)
 (hf:∀x∈l,FC f [.d (.str x)] [] (.ret (BL (p x))) []) {r:Int} (hr:r=idxOf p l):FC 163 [SL es,.fn f []] [] (.ret (bc r)) []:=by
 have hel:es.length=l.length:=by rw [aD,lgM]
 obtain ⟨J,hJ⟩:∃J:Nat→Nat→Prop,∀n v,J n v↔(v+n=l.length∧∀i<v,∀x,l[i]?=some x→p x=false):=⟨fun n v=>v+n=l.length∧∀i<v,∀x,l[i]?=some x→p x=false,fun _ _=>Iff.rfl⟩
 refine bA ht (aB:=[]) Tryz.func163 rfl rfl (N:=19) rfl rfl (n:=0) rfl rfl ?_
 cbv
 refine bg ⟨[0,1,7,8],[],[]⟩ (σ:=Nat) (fun k=>[(8,bc (t _ fun _=>(k:Int)))]) (fun _=>[]) J ?_
 cbv
 refine aC ⟨l.length,0,(hJ _ _).2 ⟨by omega,by intro i hi;simp at hi⟩,by simp only [ht];rfl,?_⟩
 rintro n k hj
 obtain ⟨h2,h3⟩:=(hJ _ _).1 hj
 clear hj
 cbv
 refine ai (fun h=>?_) (fun h=>?_)
 ·simp only [ht,aa,decide_eq_true_eq] at h
  have hk:k<l.length:=by omega
  obtain ⟨x,hx⟩:∃x,l[k]?=some x:=⟨l[k],by simp⟩
  have nO:x∈l:=List.mem_of_getElem? hx
  have gS:=hf x nO
  obtain ⟨px,hpx⟩:∃b,b=p x:=⟨_,rfl⟩
  rw [←hpx] at gS
  skip
  cbv
  refine iq [.str x] ?_ ?_ ?_
  ·simp only [ht,aa];refine ⟨by omega,h,?_⟩;rw [aD];intro r hr;obtain ⟨y,_,rfl⟩:=List.mem_map.1 hr;rfl
  ·simp [ht,aa,aD,hx]
  cbv
  refine de trv gS ?_
  cbv
  refine ai (fun hb=>?_) (fun hb=>?_)
  ·cbv
   refine ak trv trv rfl rfl rfl ?_
   have e:=cO hx (hpx▸hb) h3
   simp only [ht,aa,hr,idxOf,e]
  cbv
  refine aC ⟨n-1,k+1,⟨by omega,(hJ _ _).2 ⟨by omega,?_⟩⟩,?_⟩
  ·intro i hi y hy
   by_cases hik:i<k
   ·exact h3 i hik y hy
   have:i=k:=by omega
   subst this;rw [hx] at hy;cases hy;rw [←hpx];exact hb
  simp only [ht,aa,aE (show k<9223372036854775807 by omega)];rfl
 simp only [ht,aa,decide_eq_false_iff_not] at h
 have hk:¬k<l.length:=by omega
 clear h
 cbv
 refine ak trv trv rfl rfl rfl ?_
 rw [hr,idxOf,cR]
 intro i y hy
 have:i<l.length:=by
  rcases Nat.lt_or_ge i l.length with h'|h';· exact h'
  simp [List.getElem?_eq_none h'] at hy
 exact h3 i (by omega) y hy
theorem QE (ht:TT t) {l:List (aA)} {es:List (List D)} (aD:es=l.map aV) (f:Nat) (p:aA→Bool) (hl:l.length<9223372036854775807)
 (hf:∀x∈l,FC f [.d (.str x)] [] (.ret (BL (p x))) []) {r:Bool} (hr:r=l.any p):FC 110 [SL es,.fn f []] [] (.ret (BL r)) []:=by
 obtain ⟨k,hk⟩:∃k,k=idxOf p l:=⟨_,rfl⟩
 refine bA ht (aB:=[]) Tryz.func110 rfl rfl (N:=9) rfl rfl (n:=0) rfl rfl ?_
 cbv
 refine de trv (QD ht aD f p hl hf hk) ?_
 cbv
 refine ak trv trv rfl rfl rfl ?_
 simp only [ht,hr,eP,hk]
theorem Kv (ht:TT t) (s:aA) (hs:s.length<9223372036854775807):FC 199 [ST s] [] (.ret (cu (t _ fun _=>!dU s))) []:=by
 refine bA ht (aB:=[]) Tryz.func199 rfl rfl (N:=6) rfl rfl (n:=0) rfl rfl ?_
 cbv
 refine ay trv (ou ht _ ‹_›) trv rfl rfl (fun r0 bF=>?_)
 simp only [ht] at bF
 cbv
 refine ak trv trv rfl rfl rfl ?_
 (simp [*];done)
theorem vQ:∀(s:aA),∀x∈bO 47 s,x.length≤s.length
 |[],x,hx=>by simp [bO] at hx;subst hx;exact Nat.le_refl _
 |c::s,x,hx=>by
  have ih:=vQ s
  unfold bO at hx
  split at hx
  ·rcases List.mem_cons.1 hx with rfl|hx
   ·simp
   exact Nat.le_trans (ih x hx) (by simp)
  split at hx
  ·rename_i h r e
   rw [e] at ih
   rcases List.mem_cons.1 hx with rfl|hx
   ·have:=ih h (by simp);simp;omega
   exact Nat.le_trans (ih x (by simp [hx])) (by simp)
  simp at hx;subst hx;simp
theorem Nu (ht:TT t) {l:List aA} {es:List (List D)} (aD:es=l.map aV) (hl:l.length<9223372036854775807) (hw:∀x∈l,x.length<9223372036854775807):
 FC 110 [SL es,.fn 199 []] [] (.ret (cu (t _ fun _=>l.any fun n=>!dU n))) []:=by
 simp only [ht];exact QE ht aD _ _ hl (fun x hx=>by have h:=Kv ht x (hw x hx);simp only [ht,cu] at h;exact h) rfl
theorem vR (ht:TT t) (s:aA) (hs:s.length<1000000000000):FC 164 [ST s] [] (.ret (Hg t (t _ fun _=>parts s))) []:=by
 have Vb:=pg 47 s
 have hsc:s.count 47≤s.length:=List.count_le_length
 have gD:∀x∈bO 47 s,x.length<9223372036854775807:=fun x hx=>Nat.lt_of_le_of_lt (vQ s x hx) (by omega)
 refine bA ht (aB:=[]) Tryz.func164 rfl rfl (N:=14) rfl rfl (n:=0) rfl rfl ?_
 cbv
 refine aU trv (QC ht _ ‹_›) trv rfl rfl rfl (fun r0 bF=>?_)
 simp only [ht] at bF
 have hr0:(r0).length<1000000000001:=by rw [bF];omega
 have hs0:∀x∈r0,x.length<9223372036854775807:=by rw [bF];exact gD
 cbv
 refine gI (by simp [ht]) ?_
 refine aJ (fun g1=>⟨by simp [ht] at g1 ⊢;exact g1,trv,Nu ht (jE ht rfl) (by omega) ‹_›⟩) rfl rfl (fun r2 cU=>?_)
 simp only [ht] at cU
 cbv
 refine pI (by simp [ht]) ?_
 refine ai (fun h3=>?_) (fun h3=>?_)
 ·simp [ht,aa] at h3
  cbv
  refine ak trv trv rfl rfl rfl ?_
  (simp only [ht,parts];grind)
 simp [ht,aa] at h3
 cbv
 refine ak trv trv rfl rfl rfl ?_
 (simp only [ht,parts];grind)
end Dem
end
