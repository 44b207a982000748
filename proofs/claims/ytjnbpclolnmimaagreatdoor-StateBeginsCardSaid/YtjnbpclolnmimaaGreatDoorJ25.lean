/- Parts of a proof, joined. -/
import Derived.Test.YtjnbpclolnmimaaGreatDoorJ24
set_option linter.unusedSimpArgs false
set_option linter.unusedVariables false
set_option maxRecDepth 100000
set_option maxHeartbeats 4000000
open Go Dem Go.Proofs
namespace Dem
variable {t:Th}
theorem U9 {x y:aR}:x=y↔x.path=y.path∧x.dc=y.dc∧x.used=y.used:=by cases x;cases y;simp
theorem aab {x y:Jb}:x=y↔x.id=y.id∧x.x=y.x∧x.runs=y.runs∧x.left=y.left:=by cases x;cases y;simp
theorem Sp (ht:TT t) {l m:List aR} {es fs:List (List D)} (aF:es=l.map aR.cells) (qL:fs=m.map aR.cells) (hl:l.length<1000000000) (hm:m.length<1000000000):
 FC 52 [SL es,SL fs] [] (.ret (bY (t _ fun _=>decide (l=m)))) []:=by
 refine bC ht (aE:=[]) Tryz.func52 (c:=_) rfl rfl (N:=26) rfl (rs:=_) rfl (n:=0) rfl rfl ?_
 cbv
 have ar:es.length=l.length:=by rw [aF,lgM]
 have cD:fs.length=m.length:=by rw [qL,lgM]
 refine ai (fun h0=>?_) (fun h0=>?_)
 ·simp [ht,aa,ar,cD] at h0
  cbv
  refine an trivial trivial rfl rfl rfl ?_
  (simp [ht];rintro rfl;simp_all;done)
 simp [ht,aa,ar,cD] at h0
 cbv
 obtain ⟨J1,fe⟩:∃J1:Nat→Int→Prop,∀n i,J1 n i↔(∃k:Nat,i=k∧k+n=l.length∧l.length=m.length∧decide (l=m)=decide (l.drop k=m.drop k)):=⟨fun n v=>match v with|i=>(∃k:Nat,i=k∧k+n=l.length∧l.length=m.length∧decide (l=m)=decide (l.drop k=m.drop k)),fun _ _=>Iff.rfl⟩
 refine aZ ⟨[0,1,12,13],[],[]⟩ (σ:=Int) (fun v=>[(13,.d (.int .i64 (t _ fun _=>v)))]) (fun v=>[]) J1 ?_
 cbv
 refine aA ⟨l.length,_,(fe _ _).2 ?_,by simp only [ht];rfl,?_⟩
 ·(simp only [aa];grind)
 rintro n i hj
 replace hj:=(fe _ _).1 hj
 obtain ⟨k,rfl,j1,j2,j4⟩:=hj
 cbv
 refine ai (fun h2=>?_) (fun h2=>?_)
 ·simp [ht,aa,ar] at h2
  cbv
  refine bJ [false,false,false,false,false,false,false,false,true] (by kernel_rfl) (by kernel_rfl) ?_
  cbv
  iterate 2 refine gI (by simp) ?_
  refine dg ht aF (cT:=aR.aH t) (by (simp only [ht,aa];omega)) (by (simp only [ht,aa];omega)) (fun _=>rfl) (fun _=>rfl) (fun x3 ke=>?_)
  simp [ht,aa] at ke
  rw [bO ke] at j4
  cbv
  iterate 3 refine gI (by simp) ?_
  refine dg ht qL (cT:=aR.aH t) (by (simp only [ht,aa];omega)) (by (simp only [ht,aa];omega)) (fun _=>rfl) (fun _=>rfl) (fun x4 qt=>?_)
  simp [ht,aa] at qt
  rw [bO qt] at j4
  cbv
  refine gI (by simp) ?_
  refine ai (fun h5=>?_) (fun h5=>?_)
  ·simp [ht] at h5
   cbv
   refine an trivial trivial rfl rfl rfl ?_
   (simp [ht];rintro rfl;simp_all;done)
  simp [ht] at h5
  cbv
  refine bf _ (by simp only [ht];rfl) (n-1) ?_ ((fe _ _).2 ?_)
  ·omega
  simp only [aa]
  refine ⟨k+1,aC (by omega),by omega,by omega,?_⟩
  (simp [U9,nT, *];done)
 simp [ht,aa,ar] at h2
 cbv
 refine an trivial trivial rfl rfl rfl ?_
 (simp [ht,j4,List.drop_eq_nil_of_le (show l.length≤k by omega),List.drop_eq_nil_of_le (show m.length≤k by omega)];done)
theorem Sq (ht:TT t) {l m:List bX} {es fs:List (List D)} (aF:es=l.map bX.cells) (qL:fs=m.map bX.cells) (hl:l.length<1000000000) (hm:m.length<1000000000):
 FC 53 [SL es,SL fs] [] (.ret (bY (t _ fun _=>decide (l=m)))) []:=by
 refine bC ht (aE:=[]) Tryz.func53 (c:=_) rfl rfl (N:=26) rfl (rs:=_) rfl (n:=0) rfl rfl ?_
 cbv
 have ar:es.length=l.length:=by rw [aF,lgM]
 have cD:fs.length=m.length:=by rw [qL,lgM]
 refine ai (fun h0=>?_) (fun h0=>?_)
 ·simp [ht,aa,ar,cD] at h0
  cbv
  refine an trivial trivial rfl rfl rfl ?_
  (simp [ht];rintro rfl;simp_all;done)
 simp [ht,aa,ar,cD] at h0
 cbv
 obtain ⟨J1,fe⟩:∃J1:Nat→Int→Prop,∀n i,J1 n i↔(∃k:Nat,i=k∧k+n=l.length∧l.length=m.length∧decide (l=m)=decide (l.drop k=m.drop k)):=⟨fun n v=>match v with|i=>(∃k:Nat,i=k∧k+n=l.length∧l.length=m.length∧decide (l=m)=decide (l.drop k=m.drop k)),fun _ _=>Iff.rfl⟩
 refine aZ ⟨[0,1,12,13],[],[]⟩ (σ:=Int) (fun v=>[(13,.d (.int .i64 (t _ fun _=>v)))]) (fun v=>[]) J1 ?_
 cbv
 refine aA ⟨l.length,_,(fe _ _).2 ?_,by simp only [ht];rfl,?_⟩
 ·(simp only [aa];grind)
 rintro n i hj
 replace hj:=(fe _ _).1 hj
 obtain ⟨k,rfl,j1,j2,j4⟩:=hj
 cbv
 refine ai (fun h2=>?_) (fun h2=>?_)
 ·simp [ht,aa,ar] at h2
  cbv
  refine bJ [false,false,false,false,false,false,false,false,true] (by kernel_rfl) (by kernel_rfl) ?_
  cbv
  iterate 2 refine gI (by simp) ?_
  refine dg ht aF (cT:=bX.aH t) (by (simp only [ht,aa];omega)) (by (simp only [ht,aa];omega)) (fun _=>rfl) (fun _=>rfl) (fun x3 ke=>?_)
  simp [ht,aa] at ke
  rw [bO ke] at j4
  cbv
  iterate 3 refine gI (by simp) ?_
  refine dg ht qL (cT:=bX.aH t) (by (simp only [ht,aa];omega)) (by (simp only [ht,aa];omega)) (fun _=>rfl) (fun _=>rfl) (fun x4 qt=>?_)
  simp [ht,aa] at qt
  rw [bO qt] at j4
  cbv
  refine gI (by simp) ?_
  refine ai (fun h5=>?_) (fun h5=>?_)
  ·simp [ht] at h5
   cbv
   refine an trivial trivial rfl rfl rfl ?_
   (simp [ht];rintro rfl;simp_all;done)
  simp [ht] at h5
  cbv
  refine bf _ (by simp only [ht];rfl) (n-1) ?_ ((fe _ _).2 ?_)
  ·omega
  simp only [aa]
  refine ⟨k+1,aC (by omega),by omega,by omega,?_⟩
  (simp [Lx, *];done)
 simp [ht,aa,ar] at h2
 cbv
 refine an trivial trivial rfl rfl rfl ?_
 (simp [ht,j4,List.drop_eq_nil_of_le (show l.length≤k by omega),List.drop_eq_nil_of_le (show m.length≤k by omega)];done)
theorem Sr (ht:TT t) (ji ja jb jc jd jn jp jt jf ki ka kb kc kd kn kp kt kf:Int) (jq kq:aD) (jr kr:Bool) {jB ksl:List Term} {tn ksr:List (List D)} (m8:tn=jB.map Term.cells) (acD:ksr=ksl.map Term.cells)
 (hl:jB.length<1000000000) (hl':ksl.length<1000000000) (hs:∀x∈jB,x.fW.length<1000000000) (hs':∀x∈ksl,x.fW.length<1000000000):
 FC 55 [.agg [az ji,ST jq,az ja,az jb,az jc,az jd,bq jn,bq jp,bq jt,SL tn,BL jr,bq jf],.agg [az ki,ST kq,az ka,az kb,az kc,az kd,bq kn,bq kp,bq kt,SL ksr,BL kr,bq kf]] [] (.ret (bY (t _ fun _=>decide ((⟨ji,⟨jq,⟨ja,jb,jc,jd⟩,jn,jp,jt,jB⟩,jr,jf⟩:Jb)=⟨ki,⟨kq,⟨ka,kb,kc,kd⟩,kn,kp,kt,ksl⟩,kr,kf⟩)))) []:=by
 refine bC ht (aE:=[]) Tryz.func55 (c:=_) rfl rfl (N:=31) rfl (rs:=_) rfl (n:=0) rfl rfl ?_
 cbv
 have tq:tn.length=jB.length:=by rw [m8,lgM]
 have aaH:ksr.length=ksl.length:=by rw [acD,lgM]
 iterate 5 refine gI (by simp [ht]) ?_
 refine pI (by simp [ht]) ?_
 iterate 5 refine gI (by simp [ht]) ?_
 refine pI (by simp [ht]) ?_
 iterate 4 refine gI (by simp [ht]) ?_
 refine aM (fun g0=>⟨by simp [ht] at g0 ⊢;exact g0,trivial,RU ht _ _ _ _ _ _ _ _ _ _ _ _ _ _ _ _ (by assumption) (by assumption) (by assumption) (by assumption) (by assumption) (by assumption)⟩) rfl rfl (fun r1 cX=>?_)
 simp only [ht] at cX
 cbv
 refine pI (by simp [ht]) ?_
 refine an trivial trivial rfl rfl rfl ?_
 (simp [*];grind)
theorem Ss (ht:TT t) {l m:List Jb} {es fs:List (List D)} (aF:es=l.map Jb.cells) (qL:fs=m.map Jb.cells) (hl:l.length<1000000000) (hm:m.length<1000000000) (hls:∀x∈l,x.x.sm) (Tl:∀x∈m,x.x.sm):
 FC 54 [SL es,SL fs,.fn 55 []] [] (.ret (bY (t _ fun _=>decide (l=m)))) []:=by
 refine bC ht (aE:=[]) Tryz.func54 (c:=_) rfl rfl (N:=32) rfl (rs:=_) rfl (n:=0) rfl rfl ?_
 cbv
 have ar:es.length=l.length:=by rw [aF,lgM]
 have cD:fs.length=m.length:=by rw [qL,lgM]
 refine ai (fun h0=>?_) (fun h0=>?_)
 ·simp [ht,aa,ar,cD] at h0
  cbv
  refine an trivial trivial rfl rfl rfl ?_
  (simp [ht];rintro rfl;simp_all;done)
 simp [ht,aa,ar,cD] at h0
 cbv
 obtain ⟨J1,fe⟩:∃J1:Nat→Int→Prop,∀n i,J1 n i↔(∃k:Nat,i=k∧k+n=l.length∧l.length=m.length∧decide (l=m)=decide (l.drop k=m.drop k)):=⟨fun n v=>match v with|i=>(∃k:Nat,i=k∧k+n=l.length∧l.length=m.length∧decide (l=m)=decide (l.drop k=m.drop k)),fun _ _=>Iff.rfl⟩
 refine aZ ⟨[1,2,15,16,17],[],[]⟩ (σ:=Int) (fun v=>[(17,.d (.int .i64 (t _ fun _=>v)))]) (fun v=>[]) J1 ?_
 cbv
 refine aA ⟨l.length,_,(fe _ _).2 ?_,by simp only [ht];rfl,?_⟩
 ·(simp only [aa];grind)
 rintro n i hj
 replace hj:=(fe _ _).1 hj
 obtain ⟨k,rfl,j1,j2,j4⟩:=hj
 cbv
 refine ai (fun h2=>?_) (fun h2=>?_)
 ·simp [ht,aa,ar] at h2
  cbv
  refine dg ht aF (cT:=Jb.aH t) (by (simp only [ht,aa];omega)) (by (simp only [ht,aa];omega)) (fun _=>rfl) (fun _=>(by (simp only [ht,Jb.aH];rfl))) (fun x3 ke=>?_)
  simp [ht,aa] at ke
  rw [bO ke] at j4
  have sx3:=hls _ (List.mem_of_getElem? ke)
  obtain ⟨afT,afU,afV,acE⟩:=sx3
  have afW:∀y∈(x3).x.b9,y.fW.length<1000000000:=fun y hy=>(acE y hy).2.1
  cbv
  refine dg ht qL (cT:=Jb.aH t) (by (simp only [ht,aa];omega)) (by (simp only [ht,aa];omega)) (fun _=>rfl) (fun _=>(by (simp only [ht,Jb.aH];rfl))) (fun x4 qt=>?_)
  simp [ht,aa] at qt
  rw [bO qt] at j4
  have sx4:=Tl _ (List.mem_of_getElem? qt)
  obtain ⟨afX,afY,afZ,acF⟩:=sx4
  have af0:∀y∈(x4).x.b9,y.fW.length<1000000000:=fun y hy=>(acF y hy).2.1
  cbv
  refine ay trivial (Sr ht _ _ _ _ _ _ _ _ _ _ _ _ _ _ _ _ _ _ _ _ _ _ (jH ht rfl) (jH ht rfl) (by assumption) (by assumption) (by assumption) (by assumption)) trivial rfl rfl (fun r5 jA=>?_)
  simp only [ht] at jA
  cbv
  refine ai (fun h6=>?_) (fun h6=>?_)
  ·simp [ht] at h6
   cbv
   refine an trivial trivial rfl rfl rfl ?_
   (simp [ht];rintro rfl;simp_all;done)
  simp [ht] at h6
  cbv
  refine bf _ (by simp only [ht];rfl) (n-1) ?_ ((fe _ _).2 ?_)
  ·omega
  simp only [aa]
  refine ⟨k+1,aC (by omega),by omega,by omega,?_⟩
  (simp_all [aab,XB,nT];done)
 simp [ht,aa,ar] at h2
 cbv
 refine an trivial trivial rfl rfl rfl ?_
 (simp [ht,j4,List.drop_eq_nil_of_le (show l.length≤k by omega),List.drop_eq_nil_of_le (show m.length≤k by omega)];done)
theorem tB (ht:TT t) (rd nx ef af:Int) {nl:List Node} {pl:List Place} {tl:List aR} {jl:List Jb} {ql:List bX} {el al:List bU} {ns ps ts js qs es cY:List (List D)} (gX:ns=nl.map Node.cells) (hps:ps=pl.map Place.cells) (hts:ts=tl.map aR.cells) (gi:js=jl.map Jb.cells) (fq:qs=ql.map bX.cells) (aF:es=el.map bU.cells) (has:cY=al.map bU.cells) (rd' nx' ef' af':Int) {nl':List Node} {V6:List Place} {V7:List aR} {Va:List Jb} {V8:List bX} {V9 Wa:List bU} {ns' ps' ts' js' Xa es' XZ:List (List D)} (acH:ns'=nl'.map Node.cells) (acI:ps'=V6.map Place.cells) (acJ:ts'=V7.map aR.cells) (acK:js'=Va.map Jb.cells) (Xb:Xa=V8.map bX.cells) (KU:es'=V9.map bU.cells) (acL:XZ=Wa.map bU.cells)
 (hb:nl.length<1000000∧pl.length<1000000∧tl.length<100000∧jl.length<1000000∧ql.length<1000000∧el.length<1000000∧al.length<1000000) (hb':nl'.length<1000000∧V6.length<1000000∧V7.length<100000∧Va.length<1000000∧V8.length<1000000∧V9.length<1000000∧Wa.length<1000000)
 (hls:∀x∈nl,x.labels.length<1000000000) (abL:∀x∈nl',x.labels.length<1000000000) (hjl:∀x∈jl,x.x.sm) (af1:∀x∈Va,x.x.sm):
 FC 17 [.agg [az rd,az nx,SL ns,SL ps,SL ts,SL js,SL qs,az ef,SL es,az af,SL cY],.agg [az rd',az nx',SL ns',SL ps',SL ts',SL js',SL Xa,az ef',SL es',az af',SL XZ]] [] (.ret (bY (t _ fun _=>wz ⟨rd,nx,⟨nl,pl⟩,tl,jl,ql,⟨ef,el⟩,⟨af,al⟩⟩ ⟨rd',nx',⟨nl',V6⟩,V7,Va,V8,⟨ef',V9⟩,⟨af',Wa⟩⟩))) []:=by
 obtain ⟨b1,b2,b3,b4,b5,b6,b7⟩:=hb
 obtain ⟨d1,d2,d3,d4,d5,d6,d7⟩:=hb'
 refine bC ht (aE:=[]) Tryz.func17 (c:=_) rfl rfl (N:=61) rfl (rs:=_) rfl (n:=0) rfl rfl ?_
 cbv
 have fj:ns.length=nl.length:=by rw [gX,lgM]
 have fE:ps.length=pl.length:=by rw [hps,lgM]
 have fZ:ts.length=tl.length:=by rw [hts,lgM]
 have dy:js.length=jl.length:=by rw [gi,lgM]
 have dM:qs.length=ql.length:=by rw [fq,lgM]
 have ar:es.length=el.length:=by rw [aF,lgM]
 have dU:cY.length=al.length:=by rw [has,lgM]
 have aaI:ns'.length=nl'.length:=by rw [acH,lgM]
 have aaJ:ps'.length=V6.length:=by rw [acI,lgM]
 have aaK:ts'.length=V7.length:=by rw [acJ,lgM]
 have aaL:js'.length=Va.length:=by rw [acK,lgM]
 have Uk:Xa.length=V8.length:=by rw [Xb,lgM]
 have Uj:es'.length=V9.length:=by rw [KU,lgM]
 have aad:XZ.length=Wa.length:=by rw [acL,lgM]
 iterate 5 refine gI (by simp [ht]) ?_
 refine pI (by simp [ht]) ?_
 iterate 4 refine gI (by simp [ht]) ?_
 refine aM (fun g0=>⟨by simp [ht] at g0 ⊢;exact g0,trivial,Sp ht (by assumption) (by assumption) (by omega) (by omega)⟩) rfl rfl (fun r1 cX=>?_)
 simp only [ht] at cX
 cbv
 refine pI (by simp [ht]) ?_
 iterate 4 refine gI (by simp [ht]) ?_
 refine aM (fun g2=>⟨by simp [ht] at g2 ⊢;exact g2,trivial,Sq ht (by assumption) (by assumption) (by omega) (by omega)⟩) rfl rfl (fun r3 gH=>?_)
 simp only [ht] at gH
 cbv
 refine pI (by simp [ht]) ?_
 iterate 4 refine gI (by simp [ht]) ?_
 refine aM (fun g4=>⟨by simp [ht] at g4 ⊢;exact g4,trivial,Ui ht (by assumption) (by assumption) (by assumption) (by assumption) (by omega) (by omega) (by omega) (by omega) (by assumption) (by assumption)⟩) rfl rfl (fun r5 jA=>?_)
 simp only [ht] at jA
 cbv
 refine pI (by simp [ht]) ?_
 iterate 4 refine gI (by simp [ht]) ?_
 refine aM (fun g6=>⟨by simp [ht] at g6 ⊢;exact g6,trivial,Ss ht (by assumption) (by assumption) (by omega) (by omega) (by assumption) (by assumption)⟩) rfl rfl (fun r7 gL=>?_)
 simp only [ht] at gL
 cbv
 refine pI (by simp [ht]) ?_
 iterate 4 refine gI (by simp [ht]) ?_
 refine aM (fun g8=>⟨by simp [ht] at g8 ⊢;exact g8,trivial,zI ht _ _ (by assumption) (by assumption) (by omega) (by omega)⟩) rfl rfl (fun r9 dN=>?_)
 simp only [ht] at dN
 cbv
 refine pI (by simp [ht]) ?_
 iterate 4 refine gI (by simp [ht]) ?_
 refine aM (fun g10=>⟨by simp [ht] at g10 ⊢;exact g10,trivial,zI ht _ _ (by assumption) (by assumption) (by omega) (by omega)⟩) rfl rfl (fun Yn pZ=>?_)
 simp only [ht] at pZ
 cbv
 refine pI (by simp [ht]) ?_
 refine an trivial trivial rfl rfl rfl ?_
 (simp [wz, *];done)
end Dem
