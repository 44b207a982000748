/- Parts of a proof, joined. -/
import Derived.Test.YtihohjnkkalgiaaGreatDoorM20
import Derived.Sort.MapsRangeIn
import Derived.Sort.KeysCollected
import Derived.Test.YtihohjnkkalgiaaGreatDoorProg
set_option linter.all false
set_option maxRecDepth 100000
set_option maxHeartbeats 4000000
section
open Go Dem Go.Proofs
namespace Dem
variable {t:Th}
theorem DC (ht:TT t) {es:List (List D)} (hr:∀r∈es,r.length=12):FC 138 [SL es] [] (.ret (.cl es)) []:=by
 refine bH ht (aF:=[]) Tryz.func138 rfl rfl (N:=9) rfl rfl (n:=0) rfl rfl ?_
 cbv
 refine ⟨?_,JE trv rfl ?_⟩
 ·simp only [ht,aa,bO];exact ⟨⟨⟨by omega,Int.le_refl _⟩,trv⟩,hr⟩
 simp [ht,aa,iB]
theorem Og (ht:TT t) (rd nx ef af:Int) {nl:List Node} {pl:List Place} {tl:List be} {jl:List Jb} {ql:List bZ} {el al:List dQ} {ns ps ts js qs es bV:List (List D)} (eV:ns=nl.map Node.cells) (hps:ps=pl.map Place.cells) (hts:ts=tl.map be.cells) (ek:js=jl.map Jb.cells) (dV:qs=ql.map bZ.cells) (aB:es=el.map dQ.cells) (has:bV=al.map dQ.cells) (ja jb jc jd jn jp jt:Int) (jq:aH) {mF:List Term} {BE:List (List D)} (vM:BE=mF.map Term.cells) (e0:List D) (er:List (List D)) (hj:js=e0::er) (hx:(⟨jq,⟨ja,jb,jc,jd⟩,jn,jp,jt,mF⟩:Ask).sm) (htl:tl.length<100000) (hjl:jl.length<1000000) (TV:ql.length<1000000) (hel:el.length<1000000):
 FC 89 [.agg [aA rd,aA nx,SL ns,SL ps,SL ts,SL js,SL qs,aA ef,SL es,aA af,SL bV],.agg [ST jq,aA ja,aA jb,aA jc,aA jd,bI jn,bI jp,bI jt,SL BE]] [] (.ret (Q7 t (t _ fun _=>cX ⟨rd,nx,⟨nl,pl⟩,tl,jl,ql,⟨ef,el⟩,⟨af,al⟩⟩ ⟨jq,⟨ja,jb,jc,jd⟩,jn,jp,jt,mF⟩))) []:=by
 subst hj
 obtain ⟨ck,YZ⟩:∃ck,ck=dZ ⟨jq,⟨ja,jb,jc,jd⟩,jn,jp,jt,mF⟩:=⟨_,rfl⟩
 obtain ⟨th,Y0⟩:∃th,th=gH tl jq:=⟨_,rfl⟩
 obtain ⟨⟨q9,e9⟩,h9⟩:∃r,r=jW ql ⟨nx,jp⟩:=⟨_,rfl⟩
 have hS:cX ⟨rd,nx,⟨nl,pl⟩,tl,jl,ql,⟨ef,el⟩,⟨af,al⟩⟩ ⟨jq,⟨ja,jb,jc,jd⟩,jn,jp,jt,mF⟩=if ck≠0 then (⟨rd,nx,⟨nl,pl⟩,tl,jl,ql,⟨ef,el⟩,⟨af,al⟩⟩,0,ck) else if !th then (⟨rd,nx,⟨nl,pl⟩,tl,jl,ql,⟨ef,el⟩,⟨af,al⟩⟩,0,7) else if 32≤jl.length∨nx=18446744073709551615 then (⟨rd,nx,⟨nl,pl⟩,tl,jl,ql,⟨ef,el⟩,⟨af,al⟩⟩,0,9) else if e9≠0 then (⟨rd,nx,⟨nl,pl⟩,tl,jl,ql,⟨ef,el⟩,⟨af,al⟩⟩,0,e9) else
  (iH ⟨rd,IntKind.u64.wrap (nx+1),⟨nl,pl⟩,tl,jl++[⟨nx,⟨jq,⟨ja,jb,jc,jd⟩,jn,jp,jt,mF⟩,false,0⟩],q9,⟨ef,el⟩,⟨af,al⟩⟩ nx 1,nx,0):=by
  simp only [cX,←YZ,←Y0,←h9,u64,←ph]
 rw [hS]
 clear hS
 have hr:∀r∈e0::er,r.length=12:=by rw [ek];intro r hr;obtain ⟨y,_,rfl⟩:=List.mem_map.1 hr;rfl
 have hle:er.length+1=jl.length:=by have:=congrArg List.length ek;simpa using this
 obtain ⟨h1,h2,h3,h4⟩:=id hx
 simp only at h1 h2 h3 h4
 refine bH ht (aF:=[]) Tryz.func89 rfl rfl (N:=68) rfl rfl (n:=0) rfl rfl ?_
 cbv
 have aX:ns.length=nl.length:=by rw [eV,lgM]
 have aZ:ps.length=pl.length:=by rw [hps,lgM]
 have bc:ts.length=tl.length:=by rw [hts,lgM]
 have aI:qs.length=ql.length:=by rw [dV,lgM]
 have ap:es.length=el.length:=by rw [aB,lgM]
 have aG:bV.length=al.length:=by rw [has,lgM]
 have zB:BE.length=mF.length:=by rw [vM,lgM]
 refine aM trv (wR ht _ _ _ _ _ _ _ _ ‹_› ‹_›) trv rfl rfl (fun r0 cN=>?_)
 simp only [ht] at cN
 rw [←YZ] at cN
 subst r0
 cbv
 refine an (fun h1=>?_) (fun h1=>?_)
 ·simp [ht] at h1
  cbv
  refine av trv trv rfl rfl rfl ?_
  (simp only [ht];grind)
 simp [ht] at h1
 cbv
 refine aM trv (wS ht _ ‹_› (by omega) ‹_›) trv rfl rfl (fun r2 fQ=>?_)
 simp only [ht] at fQ
 rw [←Y0] at fQ
 subst r2
 cbv
 refine an (fun h3=>?_) (fun h3=>?_)
 ·simp [ht] at h3
  cbv
  refine av trv trv rfl rfl rfl ?_
  (simp only [ht];grind)
 simp [ht] at h3
 cbv
 iterate 3 refine gI (by simp [ht]) ?_
 refine pI (by simp [ht]) ?_
 refine an (fun h4=>?_) (fun h4=>?_)
 ·simp [ht,aa] at h4
  cbv
  refine av trv trv rfl rfl rfl ?_
  (simp only [ht];grind)
 simp [ht,aa] at h4
 cbv
 refine aE trv (Br ht _ _ ‹_› ‹_›) trv rfl rfl rfl (fun r5 pH=>?_)
 simp only [ht] at pH
 rw [←h9] at pH
 subst r5
 cbv
 refine an (fun h6=>?_) (fun h6=>?_)
 ·simp [ht] at h6
  cbv
  refine av trv trv rfl rfl rfl ?_
  (simp only [ht];grind)
 simp [ht] at h6
 cbv
 refine Gw [0,4,9,10] [false,false,false,false,false,false,false,false,false,false,false,false,true,true,true,true,true] (by kernel_rfl) (by kernel_rfl) (by kernel_rfl) (by kernel_rfl) (by kernel_rfl) ?_
 cbv
 iterate 3 refine gI (by simp) ?_
 refine .inl ?_
 (refine nv (fun g=>⟨trv,trv,DC ht hr⟩) rfl rfl rfl ?_)
 cbv
 iterate 4 refine gI (by simp) ?_
 refine gI (by (simp only [ht];intro _;refine ⟨by simp only [List.length_cons,List.length_nil];omega,?_⟩;intro r h;rcases List.mem_append.1 h with h|h;exact hr r h;simp at h;subst h;rfl)) ?_
 iterate 3 refine gI (by simp) ?_
 (refine aE trv (oq ht rd _ ef af nx 1 (nl:=nl) (pl:=pl) (tl:=tl) (jl:=jl++[⟨nx,⟨jq,⟨ja,jb,jc,jd⟩,jn,jp,jt,mF⟩,false,0⟩]) (ql:=q9) (el:=el) (al:=al) eV hps hts (by simp only [ht,ek];simp [Jb.cells,vM]) (by simp only [ht]) aB has hel) trv rfl rfl rfl (fun r9 gK=>?_);simp only [ht] at gK)
 cbv
 refine av trv trv rfl rfl rfl ?_
 (simp only [ht];grind)
theorem Oh (ht:TT t) (rd nx ef af:Int) {nl:List Node} {pl:List Place} {tl:List be} {jl:List Jb} {ql:List bZ} {el al:List dQ} {ns ps ts js qs es bV:List (List D)} (eV:ns=nl.map Node.cells) (hps:ps=pl.map Place.cells) (hts:ts=tl.map be.cells) (ek:js=jl.map Jb.cells) (dV:qs=ql.map bZ.cells) (aB:es=el.map dQ.cells) (has:bV=al.map dQ.cells) (ja jb jc jd jn jp jt:Int) (jq:aH) {mF:List Term} {BE:List (List D)} (vM:BE=mF.map Term.cells) (hj:js=[]) (hx:(⟨jq,⟨ja,jb,jc,jd⟩,jn,jp,jt,mF⟩:Ask).sm) (htl:tl.length<100000) (hjl:jl.length<1000000) (TV:ql.length<1000000) (hel:el.length<1000000):
 FC 89 [.agg [aA rd,aA nx,SL ns,SL ps,SL ts,SL js,SL qs,aA ef,SL es,aA af,SL bV],.agg [ST jq,aA ja,aA jb,aA jc,aA jd,bI jn,bI jp,bI jt,SL BE]] [] (.ret (Q7 t (t _ fun _=>cX ⟨rd,nx,⟨nl,pl⟩,tl,jl,ql,⟨ef,el⟩,⟨af,al⟩⟩ ⟨jq,⟨ja,jb,jc,jd⟩,jn,jp,jt,mF⟩))) []:=by
 subst hj
 obtain ⟨ck,YZ⟩:∃ck,ck=dZ ⟨jq,⟨ja,jb,jc,jd⟩,jn,jp,jt,mF⟩:=⟨_,rfl⟩
 obtain ⟨th,Y0⟩:∃th,th=gH tl jq:=⟨_,rfl⟩
 obtain ⟨⟨q9,e9⟩,h9⟩:∃r,r=jW ql ⟨nx,jp⟩:=⟨_,rfl⟩
 have hS:cX ⟨rd,nx,⟨nl,pl⟩,tl,jl,ql,⟨ef,el⟩,⟨af,al⟩⟩ ⟨jq,⟨ja,jb,jc,jd⟩,jn,jp,jt,mF⟩=if ck≠0 then (⟨rd,nx,⟨nl,pl⟩,tl,jl,ql,⟨ef,el⟩,⟨af,al⟩⟩,0,ck) else if !th then (⟨rd,nx,⟨nl,pl⟩,tl,jl,ql,⟨ef,el⟩,⟨af,al⟩⟩,0,7) else if 32≤jl.length∨nx=18446744073709551615 then (⟨rd,nx,⟨nl,pl⟩,tl,jl,ql,⟨ef,el⟩,⟨af,al⟩⟩,0,9) else if e9≠0 then (⟨rd,nx,⟨nl,pl⟩,tl,jl,ql,⟨ef,el⟩,⟨af,al⟩⟩,0,e9) else
  (iH ⟨rd,IntKind.u64.wrap (nx+1),⟨nl,pl⟩,tl,jl++[⟨nx,⟨jq,⟨ja,jb,jc,jd⟩,jn,jp,jt,mF⟩,false,0⟩],q9,⟨ef,el⟩,⟨af,al⟩⟩ nx 1,nx,0):=by
  simp only [cX,←YZ,←Y0,←h9,u64,←ph]
 rw [hS]
 clear hS
 have hle:jl=[]:=by cases jl with
  |nil=>rfl
  |cons x l=>cases ek
 obtain ⟨h1,h2,h3,h4⟩:=id hx
 simp only at h1 h2 h3 h4
 refine bH ht (aF:=[]) Tryz.func89 rfl rfl (N:=68) rfl rfl (n:=0) rfl rfl ?_
 cbv
 have aX:ns.length=nl.length:=by rw [eV,lgM]
 have aZ:ps.length=pl.length:=by rw [hps,lgM]
 have bc:ts.length=tl.length:=by rw [hts,lgM]
 have aI:qs.length=ql.length:=by rw [dV,lgM]
 have ap:es.length=el.length:=by rw [aB,lgM]
 have aG:bV.length=al.length:=by rw [has,lgM]
 have zB:BE.length=mF.length:=by rw [vM,lgM]
 refine aM trv (wR ht _ _ _ _ _ _ _ _ ‹_› ‹_›) trv rfl rfl (fun r0 cN=>?_)
 simp only [ht] at cN
 rw [←YZ] at cN
 subst r0
 cbv
 refine an (fun h1=>?_) (fun h1=>?_)
 ·simp [ht] at h1
  cbv
  refine av trv trv rfl rfl rfl ?_
  (simp only [ht];grind)
 simp [ht] at h1
 cbv
 refine aM trv (wS ht _ ‹_› (by omega) ‹_›) trv rfl rfl (fun r2 fQ=>?_)
 simp only [ht] at fQ
 rw [←Y0] at fQ
 subst r2
 cbv
 refine an (fun h3=>?_) (fun h3=>?_)
 ·simp [ht] at h3
  cbv
  refine av trv trv rfl rfl rfl ?_
  (simp only [ht];grind)
 simp [ht] at h3
 cbv
 iterate 3 refine gI (by simp [ht]) ?_
 refine pI (by simp [ht]) ?_
 refine an (fun h4=>?_) (fun h4=>?_)
 ·simp [ht] at h4
  cbv
  refine av trv trv rfl rfl rfl ?_
  (simp only [ht];grind)
 simp [ht] at h4
 cbv
 refine aE trv (Br ht _ _ ‹_› ‹_›) trv rfl rfl rfl (fun r5 pH=>?_)
 simp only [ht] at pH
 rw [←h9] at pH
 subst r5
 cbv
 refine an (fun h6=>?_) (fun h6=>?_)
 ·simp [ht] at h6
  cbv
  refine av trv trv rfl rfl rfl ?_
  (simp only [ht];grind)
 simp [ht] at h6
 cbv
 refine Gw [0,4,9,10] [false,false,false,false,false,false,false,false,false,false,false,false,true,true,true,true,true] (by kernel_rfl) (by kernel_rfl) (by kernel_rfl) (by kernel_rfl) (by kernel_rfl) ?_
 cbv
 iterate 3 refine gI (by simp) ?_
 refine .inl ?_
 (refine nv (fun g=>⟨trv,trv,DC ht (by simp)⟩) rfl rfl rfl ?_)
 cbv
 iterate 4 refine gI (by simp) ?_
 refine gI (by simp [ht]) ?_
 iterate 3 refine gI (by simp) ?_
 (refine aE trv (oq ht rd _ ef af nx 1 (nl:=nl) (pl:=pl) (tl:=tl) (jl:=jl++[⟨nx,⟨jq,⟨ja,jb,jc,jd⟩,jn,jp,jt,mF⟩,false,0⟩]) (ql:=q9) (el:=el) (al:=al) eV hps hts (by simp only [ht,hle];simp [Jb.cells,vM]) (by simp only [ht]) aB has hel) trv rfl rfl rfl (fun r9 gK=>?_);simp only [ht] at gK)
 cbv
 refine av trv trv rfl rfl rfl ?_
 (simp only [ht];grind)
theorem iM (ht:TT t) (rd nx ef af:Int) {nl:List Node} {pl:List Place} {tl:List be} {jl:List Jb} {ql:List bZ} {el al:List dQ} {ns ps ts js qs es bV:List (List D)} (eV:ns=nl.map Node.cells) (hps:ps=pl.map Place.cells) (hts:ts=tl.map be.cells) (ek:js=jl.map Jb.cells) (dV:qs=ql.map bZ.cells) (aB:es=el.map dQ.cells) (has:bV=al.map dQ.cells) (ja jb jc jd jn jp jt:Int) (jq:aH) {mF:List Term} {BE:List (List D)} (vM:BE=mF.map Term.cells) (hx:(⟨jq,⟨ja,jb,jc,jd⟩,jn,jp,jt,mF⟩:Ask).sm) (htl:tl.length<100000) (hjl:jl.length<1000000) (TV:ql.length<1000000) (hel:el.length<1000000):
 FC 89 [.agg [aA rd,aA nx,SL ns,SL ps,SL ts,SL js,SL qs,aA ef,SL es,aA af,SL bV],.agg [ST jq,aA ja,aA jb,aA jc,aA jd,bI jn,bI jp,bI jt,SL BE]] [] (.ret (Q7 t (t _ fun _=>cX ⟨rd,nx,⟨nl,pl⟩,tl,jl,ql,⟨ef,el⟩,⟨af,al⟩⟩ ⟨jq,⟨ja,jb,jc,jd⟩,jn,jp,jt,mF⟩))) []:=by
 cases js with
 |nil=>exact Oh ht rd nx ef af eV hps hts ek dV aB has ja jb jc jd jn jp jt jq vM rfl hx htl hjl TV hel
 |cons e0 er=>exact Og ht rd nx ef af eV hps hts ek dV aB has ja jb jc jd jn jp jt jq vM e0 er rfl hx htl hjl TV hel
theorem vR (ht:TT t) (rd nx ef af:Int) {nl:List Node} {pl:List Place} {tl:List be} {jl:List Jb} {ql:List bZ} {el al:List dQ} {ns ps ts js qs es bV:List (List D)} (eV:ns=nl.map Node.cells) (hps:ps=pl.map Place.cells) (hts:ts=tl.map be.cells) (ek:js=jl.map Jb.cells) (dV:qs=ql.map bZ.cells) (aB:es=el.map dQ.cells) (has:bV=al.map dQ.cells) (id:Int) {names:List aH} {nr:List (List D)} (hnr:nr=names.map bu) (nD:∀x∈jl,x.x.fK.u'∧x.x.path.length<1000000000000) (htl:tl.length<100000) (hjl:jl.length<1000000) (Ph:nl.length<1000000) (Ed:pl.length<1000000) (TV:ql.length<1000000) (hel:el.length<1000000) (hnn:names.length<1000000):
 FC 35 [.agg [aA rd,aA nx,SL ns,SL ps,SL ts,SL js,SL qs,aA ef,SL es,aA af,SL bV],aA id,SL nr] [] (.ret (ng t (t _ fun _=>cM ⟨rd,nx,⟨nl,pl⟩,tl,jl,ql,⟨ef,el⟩,⟨af,al⟩⟩ id names))) []:=by
 refine bH ht (aF:=[]) Tryz.func35 rfl rfl (N:=100) rfl rfl (n:=0) rfl rfl ?_
 cbv
 have aX:ns.length=nl.length:=by rw [eV,lgM]
 have aZ:ps.length=pl.length:=by rw [hps,lgM]
 have bc:ts.length=tl.length:=by rw [hts,lgM]
 have aQ:js.length=jl.length:=by rw [ek,lgM]
 have aI:qs.length=ql.length:=by rw [dV,lgM]
 have ap:es.length=el.length:=by rw [aB,lgM]
 have aG:bV.length=al.length:=by rw [has,lgM]
 have Rw:nr.length=names.length:=by rw [hnr,lgM]
 refine aM trv (sE ht _ _ _ _ _ _ _ _ _ _ _ ‹_› (by omega)) trv rfl rfl (fun r0 cN=>?_)
 simp only [ht] at cN
 have ec:=KG cN nD
 clear cN
 rcases ec with ⟨e1,e2⟩|⟨i,xi,xa,xb,xc,xd,xn,xp,xt,xf,xq,xr,xl,e1,e2,e3,e4,e5,⟨e6,e7⟩,e8⟩
 ·cbv
  refine an (fun h1=>?_) (fun h1=>?_)
  ·simp [ht] at h1
   cbv
   refine av trv trv rfl rfl rfl ?_
   (simp [cM, *];done)
  simp [ht] at h1
  omega
 cbv
 refine an (fun h2=>?_) (fun h2=>?_)
 ·simp [ht] at h2
  (simp only [aa] at*;omega)
 simp [ht] at h2
 cbv
 refine wI ht ek (cT:=Jb.aU t) e3 ‹_› (fun _=>rfl) (fun _=>(by (simp only [ht,Jb.aU];rfl))) ?_
 cbv
 refine an (fun h4=>?_) (fun h4=>?_)
 ·cbv
  refine av trv trv rfl rfl rfl ?_
  (simp only [ht,cM,e4,e5,jG];simp [*];done)
 cbv
 refine an (fun h5=>?_) (fun h5=>?_)
 ·simp [ht,aa,Rw] at h5
  cbv
  refine av trv trv rfl rfl rfl ?_
  (simp only [ht,cM,e4,e5,jG];simp [*];done)
 simp [ht,aa,Rw] at h5
 cbv
 (obtain ⟨⟨⟨v1,v2,v3,v4⟩,vk⟩,hv⟩:∃r,r=cU ⟨xq,⟨xa,xb,xc,xd⟩,xn,xp,xt,xl⟩:=⟨_,rfl⟩;refine aM trv (oo ht xq xa xb xc xd xn xp xt (sl:=xl) _ e6) trv rfl rfl (fun r9 gK=>?_);simp only [ht] at gK;rw [←hv] at gK;subst gK)
 cbv
 refine an (fun h6=>?_) (fun h6=>?_)
 ·simp [ht] at h6
  cbv
  refine av trv trv rfl rfl rfl ?_
  (simp only [ht,cM,e4,e5,jG,←hv];(try (simp only [←pK];clear pK));(try (simp only [←gK];clear gK));simp [*];done)
 simp [ht] at h6
 cbv
 refine aE trv (uj ht _ _ _ _ _ ‹_› ‹_› ‹_›) trv rfl rfl rfl (fun r7 pK=>?_)
 simp only [ht] at pK
 cbv
 refine an (fun h8=>?_) (fun h8=>?_)
 ·simp [ht] at h8
  cbv
  refine av trv trv rfl rfl rfl ?_
  (simp only [ht,cM,e4,e5,jG,←hv];(try (simp only [←pK];clear pK));(try (simp only [←gK];clear gK));simp [*];done)
 simp [ht] at h8
 cbv
 refine aE trv (V2 ht _ _ _ _ _ ‹_› ‹_› ‹_› (by omega) (by omega) (by omega)) trv rfl rfl rfl (fun r9 gK=>?_)
 simp only [ht] at gK
 cbv
 refine an (fun h10=>?_) (fun h10=>?_)
 ·simp [ht] at h10
  cbv
  refine av trv trv rfl rfl rfl ?_
  (simp only [ht,cM,e4,e5,jG,←hv];(try (simp only [←pK];clear pK));(try (simp only [←gK];clear gK));simp [*];done)
 simp [ht] at h10
 cbv
 refine aE trv (H6 ht _ ‹_› ‹_›) trv rfl rfl rfl (fun r11 aa4=>?_)
 simp only [ht] at aa4
 cbv
 (refine LM [0,2] (.more 0 (.more 1 (.one 2 (.one 3 (.one 4 (.one 5 (.one 6 (.one 7 (.one 8 .done))))))) (.one 2 (.more 1 (.one 3 (.one 4 (.one 5 (.one 6 (.one 7 (.one 8 .done)))))) (.one 3 (.more 1 (.one 4 (.one 5 (.one 6 (.one 7 (.one 8 .done))))) (.one 4 (.one 1 (.one 5 (.one 6 (.one 7 (.one 8 .done))))))))))) (.one 2 (.one 0 (.more 1 (.one 3 (.one 4 (.one 5 (.one 6 (.one 7 (.one 8 .done)))))) (.one 3 (.more 1 (.one 4 (.one 5 (.one 6 (.one 7 (.one 8 .done))))) (.one 4 (.one 1 (.one 5 (.one 6 (.one 7 (.one 8 .done)))))))))))) _ (by kernel_rfl) (by kernel_rfl) (by kernel_rfl) (by kernel_rfl) (by cbv;repeat' (first|exact rfl|refine ⟨?_,?_⟩)) ?_)
 cbv
 refine aE trv (Ml ht _ _ _ _ (jR ht rfl) (jR ht rfl) (jR ht rfl) ‹_› (jR ht rfl) ‹_› ‹_› _ _ _ _ _ _ _ _ _ _ _ (jR ht rfl) ‹_› ‹_› ‹_›) trv rfl rfl rfl (fun r12 E0=>?_)
 simp only [ht] at E0
 have ZB:(r12).ev.l.length<1000000:=by rw [E0];exact hel
 cbv
 refine aE trv (oq ht _ _ _ _ _ _ (jR ht rfl) (jR ht rfl) (jR ht rfl) (jR ht rfl) (jR ht rfl) (jR ht rfl) (jR ht rfl) ‹_›) trv rfl rfl rfl (fun r13 aa5=>?_)
 simp only [ht] at aa5
 cbv
 refine av trv trv rfl rfl rfl ?_
 (simp only [ht,cM,e4,e5,jG,←hv];(try (simp only [←pK];clear pK));(try (simp only [←gK];clear gK));simp [*];done)
theorem jM {x:Ask} (h:yE x):x.sm:=
 ⟨by have:=h.path;omega,⟨h.fK 0 (by decide),h.fK 1 (by decide),h.fK 2 (by decide),h.fK 3 (by decide)⟩,by have:=h.bY;omega,
  fun m hm=>by obtain ⟨a,b,c⟩:=h.key m hm;exact ⟨by omega,by omega,fun v hv=>by have:=c v hv;omega⟩⟩
theorem bE.ok.small {s:bE} (h:s.ok) (l:s.eH yE):s.sm where
 nodes:=⟨by have:=h.bg.most;omega,l.names⟩
 places:=by have:=h.Kv;omega
 tree:=⟨by have:=h.tree.most;omega,fun e he=>by have:=l.paths e he;omega⟩
 ay:=⟨by have:=h.most;omega,fun x hx=>⟨jM (l.xs x hx),⟨by have:=h.zx x hx;omega,by have:=h.zx x hx;have:=h.next;omega⟩,by
  have:=(h.uw x hx).1
  unfold dZ Sa at this
  split at this
  ·cases this
  split at this
  ·cases this
  simp_all;omega⟩⟩
 queue:=by
  have h1:=h.VV
  have h2:gY s.ay≤s.ay.length:=List.length_filter_le _ _
  have:=h.most;omega
 notes:=by have:=h.notes;omega
theorem BH {l:List Jb} {id:Int} (h:∀x∈l,x.x.sm):(bG l id).1.x.sm:=by
 unfold bG
 split
 ·rename_i x hx;exact h _ (List.mem_of_find?_eq_some hx)
 exact ⟨by decide,by decide,by decide,fun m hm=>by cases hm⟩
theorem Ie {nl:List Node} {pl:List Place} (h:nl.length<1000000) (h2:∀x∈nl,x.sm):(nl.filterMap (nU nl pl)).length<1000000∧∀s∈nl.filterMap (nU nl pl),s.labels.length<1000000000:=by
 refine ⟨Nat.lt_of_le_of_lt (List.length_filterMap_le _ _) h,fun s hs=>?_⟩
 obtain ⟨n,hn,e⟩:=List.mem_filterMap.1 hs
 unfold nU at e
 split at e
 ·cases e;exact (h2 n hn).2.1
 cases e
theorem BI {v:bK}:∀(n:Nat) (l:List bS) (out:List aH),out.length+n≤8→(nW v n l out).1.length≤8
 |0,_,out,h=>by simpa [nW] using h
 |n+1,l,out,h=>by
  rw [nW]
  split
  ·simp
  exact BI n _ _ (by simp;omega)
theorem w8 (l:List bS) (x:List Term) (v:bK) (c:Int):(fit l x v c).1.length<1000000:=by
 unfold fit
 split
 ·simp
 have:=BI (v:=v) (max c 0).toNat (fitting l x) [] (by simp;omega)
 omega
theorem Oi (ht:TT t) (rd nx ef af:Int) {nl:List Node} {pl:List Place} {tl:List be} {jl:List Jb} {ql:List bZ} {el al:List dQ} {ns ps ts js qs es bV:List (List D)} (eV:ns=nl.map Node.cells) (hps:ps=pl.map Place.cells) (hts:ts=tl.map be.cells) (ek:js=jl.map Jb.cells) (dV:qs=ql.map bZ.cells) (aB:es=el.map dQ.cells) (has:bV=al.map dQ.cells) (id:Int) (hjl:jl.length<1000000):
 FC 103 [.agg [aA rd,aA nx,SL ns,SL ps,SL ts,SL js,SL qs,aA ef,SL es,aA af,SL bV],aA id] [] (.ret (Bp t (t _ fun _=>fL ⟨rd,nx,⟨nl,pl⟩,tl,jl,ql,⟨ef,el⟩,⟨af,al⟩⟩ id))) []:=by
 obtain ⟨R,hR⟩:∃R,R=fL ⟨rd,nx,⟨nl,pl⟩,tl,jl,ql,⟨ef,el⟩,⟨af,al⟩⟩ id:=⟨_,rfl⟩
 have ZE:R=((bG jl id).1,(bG jl id).2&&!(bG jl id).1.runs):=hR
 rw [←hR]
 refine bH ht (aF:=[]) Tryz.func103 rfl rfl (N:=21) rfl rfl (n:=0) rfl rfl ?_
 cbv
 have aX:ns.length=nl.length:=by rw [eV,lgM]
 have aZ:ps.length=pl.length:=by rw [hps,lgM]
 have bc:ts.length=tl.length:=by rw [hts,lgM]
 have aQ:js.length=jl.length:=by rw [ek,lgM]
 have aI:qs.length=ql.length:=by rw [dV,lgM]
 have ap:es.length=el.length:=by rw [aB,lgM]
 have aG:bV.length=al.length:=by rw [has,lgM]
 refine aE trv (ij ht _ _ _ _ _ _ _ _ _ _ _ ‹_› (by omega)) trv rfl rfl rfl (fun r0 cN=>?_)
 simp only [ht] at cN
 rw [←cN] at ZE
 clear cN
 obtain ⟨⟨jid,⟨jq,⟨ja,jb,jc,jd⟩,jn,jp,jt,mF⟩,jr,jlf⟩,Sb⟩:=r0
 simp only at ZE
 cases Sb
 ·cbv
  (apply LM [] (.more 0 (.one 1 (.one 2 (.more 3 (.more 4 (.more 5 (.more 6 (.one 7 (.one 8 .done)) (.one 7 (.one 6 (.one 8 .done)))) (.one 7 (.one 5 (.one 6 (.one 8 .done))))) (.one 7 (.one 4 (.one 5 (.one 6 (.one 8 .done)))))) (.one 7 (.one 3 (.one 4 (.one 5 (.one 6 (.one 8 .done))))))))) (.one 1 (.more 0 (.one 2 (.more 3 (.more 4 (.more 5 (.more 6 (.one 7 (.one 8 .done)) (.one 7 (.one 6 (.one 8 .done)))) (.one 7 (.one 5 (.one 6 (.one 8 .done))))) (.one 7 (.one 4 (.one 5 (.one 6 (.one 8 .done)))))) (.one 7 (.one 3 (.one 4 (.one 5 (.one 6 (.one 8 .done)))))))) (.one 2 (.more 0 (.more 3 (.more 4 (.more 5 (.more 6 (.one 7 (.one 8 .done)) (.one 7 (.one 6 (.one 8 .done)))) (.one 7 (.one 5 (.one 6 (.one 8 .done))))) (.one 7 (.one 4 (.one 5 (.one 6 (.one 8 .done)))))) (.one 7 (.one 3 (.one 4 (.one 5 (.one 6 (.one 8 .done))))))) (.one 3 (.more 0 (.more 4 (.more 5 (.more 6 (.one 7 (.one 8 .done)) (.one 7 (.one 6 (.one 8 .done)))) (.one 7 (.one 5 (.one 6 (.one 8 .done))))) (.one 7 (.one 4 (.one 5 (.one 6 (.one 8 .done)))))) (.one 4 (.more 0 (.more 5 (.more 6 (.one 7 (.one 8 .done)) (.one 7 (.one 6 (.one 8 .done)))) (.one 7 (.one 5 (.one 6 (.one 8 .done))))) (.one 5 (.more 0 (.more 6 (.one 7 (.one 8 .done)) (.one 7 (.one 6 (.one 8 .done)))) (.one 6 (.one 0 (.one 7 (.one 8 .done)))))))))))))));kernel_rfl;kernel_rfl;kernel_rfl;kernel_rfl;(next=>cbv;repeat (first|(refine nR rfl ?_;cbv)|(refine kM rfl ?_;cbv)|refine And.intro ?_ ?_|exact rfl|exact True.intro|exact ⟨⟨by simp,by simp⟩⟩)))
  cbv
  refine av trv trv rfl rfl rfl ?_
  (clear hR;simp [ht,ZE];done)
 cbv
 (apply LM [] (.more 0 (.one 1 (.one 2 (.more 3 (.more 4 (.more 5 (.more 6 (.one 7 (.one 8 .done)) (.one 7 (.one 6 (.one 8 .done)))) (.one 7 (.one 5 (.one 6 (.one 8 .done))))) (.one 7 (.one 4 (.one 5 (.one 6 (.one 8 .done)))))) (.one 7 (.one 3 (.one 4 (.one 5 (.one 6 (.one 8 .done))))))))) (.one 1 (.more 0 (.one 2 (.more 3 (.more 4 (.more 5 (.more 6 (.one 7 (.one 8 .done)) (.one 7 (.one 6 (.one 8 .done)))) (.one 7 (.one 5 (.one 6 (.one 8 .done))))) (.one 7 (.one 4 (.one 5 (.one 6 (.one 8 .done)))))) (.one 7 (.one 3 (.one 4 (.one 5 (.one 6 (.one 8 .done)))))))) (.one 2 (.more 0 (.more 3 (.more 4 (.more 5 (.more 6 (.one 7 (.one 8 .done)) (.one 7 (.one 6 (.one 8 .done)))) (.one 7 (.one 5 (.one 6 (.one 8 .done))))) (.one 7 (.one 4 (.one 5 (.one 6 (.one 8 .done)))))) (.one 7 (.one 3 (.one 4 (.one 5 (.one 6 (.one 8 .done))))))) (.one 3 (.more 0 (.more 4 (.more 5 (.more 6 (.one 7 (.one 8 .done)) (.one 7 (.one 6 (.one 8 .done)))) (.one 7 (.one 5 (.one 6 (.one 8 .done))))) (.one 7 (.one 4 (.one 5 (.one 6 (.one 8 .done)))))) (.one 4 (.more 0 (.more 5 (.more 6 (.one 7 (.one 8 .done)) (.one 7 (.one 6 (.one 8 .done)))) (.one 7 (.one 5 (.one 6 (.one 8 .done))))) (.one 5 (.more 0 (.more 6 (.one 7 (.one 8 .done)) (.one 7 (.one 6 (.one 8 .done)))) (.one 6 (.one 0 (.one 7 (.one 8 .done)))))))))))))));kernel_rfl;kernel_rfl;kernel_rfl;kernel_rfl;(next=>cbv;repeat (first|(refine nR rfl ?_;cbv)|(refine kM rfl ?_;cbv)|refine And.intro ?_ ?_|exact rfl|exact True.intro|exact ⟨⟨by simp,by simp⟩⟩)))
 cbv
 refine av trv trv rfl rfl rfl ?_
 (clear hR;simp [ht,ZE];done)
theorem Ig (ht:TT t) (rd nx ef af:Int) {nl:List Node} {pl:List Place} {tl:List be} {jl:List Jb} {ql:List bZ} {el al:List dQ} {ns ps ts js qs es bV:List (List D)} (eV:ns=nl.map Node.cells) (hps:ps=pl.map Place.cells) (hts:ts=tl.map be.cells) (ek:js=jl.map Jb.cells) (dV:qs=ql.map bZ.cells) (aB:es=el.map dQ.cells) (has:bV=al.map dQ.cells) (hs:(⟨rd,nx,⟨nl,pl⟩,tl,jl,ql,⟨ef,el⟩,⟨af,al⟩⟩:bE).sm) (id:Int) {on:List Node} {op:List Place} {onr ZF:List (List D)} (hon:onr=on.map Node.cells) (hop:ZF=op.map Place.cells) (ho1:on.length<1000000) (Zs:∀x∈on,x.sm) (ho3:op.length<1000000) (f:Nat) (cs:List D) (W:aH→bK→Bool)
 (hw:∀(q:aH) (a b c d:Int),q.length<1000000000000→FC f [ST q,V4 a b c d,.ep cs] [] (.ret (bX (t _ fun _=>W q ⟨a,b,c,d⟩))) []):
 FC 56 [.agg [aA rd,aA nx,SL ns,SL ps,SL ts,SL js,SL qs,aA ef,SL es,aA af,SL bV],aA id,.agg [SL onr,SL ZF],.fn f [.ep cs]] [] (.ret (ou t (t _ fun _=>iI ⟨rd,nx,⟨nl,pl⟩,tl,jl,ql,⟨ef,el⟩,⟨af,al⟩⟩ id ⟨on,op⟩ W))) []:=by
 obtain ⟨⟨s1,s2⟩,s3,⟨s4,s5⟩,⟨s6,s7⟩,s8,s9,T1⟩:=(show bE.sm _ from hs)
 simp only at s1 s2 s3 s4 s5 s6 s7 s8 s9 T1
 obtain ⟨Xk,Xl⟩:=Ie ho1 Zs (pl:=op)
 obtain ⟨S,hS⟩:∃S,S=iI ⟨rd,nx,⟨nl,pl⟩,tl,jl,ql,⟨ef,el⟩,⟨af,al⟩⟩ id ⟨on,op⟩ W:=⟨_,rfl⟩
 have Xm:=hS
 unfold iI at Xm
 rw [←hS]
 obtain ⟨w,hw1⟩:∃w,w=fL ⟨rd,nx,⟨nl,pl⟩,tl,jl,ql,⟨ef,el⟩,⟨af,al⟩⟩ id:=⟨_,rfl⟩
 have ZG:w.1.x.sm:=by rw [hw1];exact BH (fun x hx=>(s7 x hx).1)
 rw [←hw1] at Xm
 refine bH ht (aF:=[]) Tryz.func56 rfl rfl (N:=60) rfl rfl (n:=0) rfl rfl ?_
 cbv
 have aX:ns.length=nl.length:=by rw [eV,lgM]
 have aZ:ps.length=pl.length:=by rw [hps,lgM]
 have bc:ts.length=tl.length:=by rw [hts,lgM]
 have aQ:js.length=jl.length:=by rw [ek,lgM]
 have aI:qs.length=ql.length:=by rw [dV,lgM]
 have ap:es.length=el.length:=by rw [aB,lgM]
 have aG:bV.length=al.length:=by rw [has,lgM]
 have zD:onr.length=on.length:=by rw [hon,lgM]
 have zE:ZF.length=op.length:=by rw [hop,lgM]
 (refine aE trv (Oi ht rd nx ef af eV hps hts ek dV aB has _ s6) (by simp [ht]) rfl rfl rfl (fun r1 dL=>?_);simp only [ht] at dL;rw [←hw1] at dL;subst r1)
 cbv
 refine an (fun h0=>?_) (fun h0=>?_)
 ·simp [ht,aa,aX,aZ,bc,aQ,aI,ap,aG,zD,zE] at h0
  cbv
  refine av trv trv rfl rfl rfl ?_
  (simp only [ht,aa,ou,Bp,U4,Xe,Qh,bX];grind)
 simp [ht,aa,aX,aZ,bc,aQ,aI,ap,aG,zD,zE] at h0
 cbv
 (refine aM trv (oo ht _ _ _ _ _ _ _ _ (sl:=w.1.x.bY) _ ZG.2.1) (by simp [ht]) rfl rfl (fun rv erv=>?_);simp only [ht] at erv)
 cbv
 refine cO [false,false,false,false,false,false,false,false,false,false,false,true,true,false,false,false,true] (by kernel_rfl) (by kernel_rfl) ?_
 cbv
 refine gI (by simp [ht,ah]) ?_
 refine .inl ?_
 (refine dy (fun g=>⟨by simp [ht],trv,Bh ht hon hop (by ((try simp only [aa] at*);omega)) (by ((try simp only [aa] at*);omega))⟩) rfl rfl rfl (fun r3 iV=>?_);simp only [ht] at iV)
 cbv
 iterate 9 refine gI (by simp [ht,ah]) ?_
 (refine aE trv (BD ht _ _ _ _ _ (l:=r3) (by simp only [ht]) (by rw [iV];exact Xk) (by rw [iV];exact Xl) (x:=w.1.x.bY) (by simp only [ht]) ZG.2.2.1 (fun m hm=>(ZG.2.2.2 m hm).2.1)) (by simp [ht]) rfl rfl rfl (fun r4 iA=>?_);simp only [ht] at iA)
 cbv
 iterate 5 refine gI (by simp [ht,ah]) ?_
 refine pI (by simp [ht,ah]) ?_
 iterate 5 refine gI (by simp [ht,ah]) ?_
 (refine bJ (fun g=>⟨⟨g,g,g,trv⟩,trv,hw _ _ _ _ _ ZG.1⟩) rfl rfl (fun r6 lF=>?_);simp only [ht] at lF)
 cbv
 refine gI (by simp [ht,ah]) ?_
 refine pI (by simp [ht,ah]) ?_
 refine an (fun h1=>?_) (fun h1=>?_)
 ·simp [ht,aa,aX,aZ,bc,aQ,aI,ap,aG,zD,zE] at h1
  cbv
  refine av trv trv rfl rfl rfl ?_
  (have e4:fit (eR ⟨on,op⟩) w.1.x.bY w.1.x.fK w.1.x.count=r4:=(by rw [iA,iV];rfl);have e2:cU w.1.x=rv:=erv.symm;have e6:W w.1.x.path rv.1=r6:=lF.symm;have e7:S=if r6=true∧rv.2=true∧r4.2=true then (r4.1,true) else ([],false):=(by rw [Xm,e4,e2,e6,if_neg (by simp [h0])];cases r6<;>cases rv.2<;>cases r4.2<;>simp);clear Xm hS;(first|(rw [if_pos ⟨h1.2,h1.1.1,h1.1.2⟩] at e7;simp [ht,e7];done)|(rw [if_neg (by rintro ⟨g1,g2,g3⟩;rw [g1,g2,g3] at h1;simp at h1)] at e7;simp [ht,e7];done)))
 simp [ht,aa,aX,aZ,bc,aQ,aI,ap,aG,zD,zE] at h1
 cbv
 refine av trv trv rfl rfl rfl ?_
 (have e4:fit (eR ⟨on,op⟩) w.1.x.bY w.1.x.fK w.1.x.count=r4:=(by rw [iA,iV];rfl);have e2:cU w.1.x=rv:=erv.symm;have e6:W w.1.x.path rv.1=r6:=lF.symm;have e7:S=if r6=true∧rv.2=true∧r4.2=true then (r4.1,true) else ([],false):=(by rw [Xm,e4,e2,e6,if_neg (by simp [h0])];cases r6<;>cases rv.2<;>cases r4.2<;>simp);clear Xm hS;(first|(rw [if_pos ⟨h1.2,h1.1.1,h1.1.2⟩] at e7;simp [ht,e7];done)|(rw [if_neg (by rintro ⟨g1,g2,g3⟩;rw [g1,g2,g3] at h1;simp at h1)] at e7;simp [ht,e7];done)))
theorem T2 (ht:TT t) (rd nx ef af:Int) {tl:List be} {ns ps ts js qs es bV:List (List D)} (hts:ts=tl.map be.cells) (htl:tl.length<100000) (q:aH) (a b c d:Int) (hq:q.length<1000000000000):
 FC 57 [ST q,V4 a b c d,.ep [.int .u64 rd,.int .u64 nx,.sl ns,.sl ps,.sl ts,.sl js,.sl qs,.int .u64 ef,.sl es,.int .u64 af,.sl bV]] [] (.ret (bX (t _ fun _=>decide ((cZ tl q ⟨a,b,c,d⟩).2=0)))) []:=by
 refine bH ht (aF:=[]) Tryz.func57 rfl rfl (N:=18) rfl rfl (n:=0) rfl rfl ?_
 cbv
 have bc:ts.length=tl.length:=by rw [hts,lgM]
 (refine aE trv (uj ht _ _ _ _ _ hts htl hq) (by simp [ht]) rfl rfl rfl (fun r1 dL=>?_);simp only [ht] at dL)
 cbv
 refine av trv trv rfl rfl rfl ?_
 (simp only [ht,←dL];done)
theorem Rx (ht:TT t) (rd nx ef af:Int) {tl:List be} {ns ps ts js qs es bV:List (List D)} (hts:ts=tl.map be.cells) (htl:tl.length<100000) (q:aH) (a b c d:Int) (hq:q.length<1000000000000):
 FC 60 [ST q,V4 a b c d,.ep [.int .u64 rd,.int .u64 nx,.sl ns,.sl ps,.sl ts,.sl js,.sl qs,.int .u64 ef,.sl es,.int .u64 af,.sl bV]] [] (.ret (bX (t _ fun _=>ul tl q ⟨a,b,c,d⟩))) []:=by
 refine bH ht (aF:=[]) Tryz.func60 rfl rfl (N:=11) rfl rfl (n:=0) rfl rfl ?_
 cbv
 have bc:ts.length=tl.length:=by rw [hts,lgM]
 (refine aM trv (Rb ht _ _ _ _ _ hts htl hq) (by simp [ht]) rfl rfl (fun r1 dL=>?_);simp only [ht] at dL)
 cbv
 refine av trv trv rfl rfl rfl ?_
 (simp only [ht,←dL];done)
theorem T3 (ht:TT t) (ns ps:List (List D)):FC 59 [.agg [SL ns,SL ps]] [] (.ret (.agg [SL ns,SL []])) []:=by
 refine bH ht (aF:=[]) Tryz.func59 rfl rfl (N:=6) rfl rfl (n:=0) rfl rfl ?_
 cbv
 refine av trv trv rfl rfl rfl ?_
 rfl
theorem E1 (ht:TT t) (rd nx ef af:Int) {nl:List Node} {pl:List Place} {tl:List be} {jl:List Jb} {ql:List bZ} {el al:List dQ} {ns ps ts js qs es bV:List (List D)} (eV:ns=nl.map Node.cells) (hps:ps=pl.map Place.cells) (hts:ts=tl.map be.cells) (ek:js=jl.map Jb.cells) (dV:qs=ql.map bZ.cells) (aB:es=el.map dQ.cells) (has:bV=al.map dQ.cells) (hs:(⟨rd,nx,⟨nl,pl⟩,tl,jl,ql,⟨ef,el⟩,⟨af,al⟩⟩:bE).sm) (id:Int):FC 20 [.agg [aA rd,aA nx,SL ns,SL ps,SL ts,SL js,SL qs,aA ef,SL es,aA af,SL bV],aA id] [] (.ret (ou t (t _ fun _=>dH ⟨rd,nx,⟨nl,pl⟩,tl,jl,ql,⟨ef,el⟩,⟨af,al⟩⟩ id))) []:=by
 obtain ⟨⟨s1,s2⟩,s3,⟨s4,s5⟩,⟨s6,s7⟩,s8,s9,T1⟩:=(show bE.sm _ from hs)
 simp only at s1 s2 s3 s4 s5 s6 s7 s8 s9 T1
 obtain ⟨W,hW⟩:∃W:aH→bK→Bool,W=fun p v=>decide ((cZ tl p v).2=0):=⟨_,rfl⟩
 have hA:=Ig ht rd nx ef af eV hps hts ek dV aB has hs id eV hps s1 s2 s3 57 [.int .u64 rd,.int .u64 nx,.sl ns,.sl ps,.sl ts,.sl js,.sl qs,.int .u64 ef,.sl es,.int .u64 af,.sl bV] W (fun q a b c d hq=>by rw [hW];exact T2 ht rd nx ef af hts s4 q a b c d hq)
 have hE:dH ⟨rd,nx,⟨nl,pl⟩,tl,jl,ql,⟨ef,el⟩,⟨af,al⟩⟩ id=iI ⟨rd,nx,⟨nl,pl⟩,tl,jl,ql,⟨ef,el⟩,⟨af,al⟩⟩ id ⟨nl,pl⟩ W:=by rw [hW];rfl
 rw [hE]
 have hB:=rF (bx:=[.var [aA rd,aA nx,SL ns,SL ps,SL ts,SL js,SL qs,aA ef,SL es,aA af,SL bV]]) (b:=0) (xs:=[.agg [aA rd,aA nx,SL ns,SL ps,SL ts,SL js,SL qs,aA ef,SL es,aA af,SL bV],aA id,.agg [SL ns,SL ps]]) rfl rfl rfl (de [] rfl rfl rfl rfl hA)
 refine bH ht (aF:=[]) Tryz.func20 rfl rfl (N:=14) rfl rfl (n:=0) rfl rfl ?_
 cbv
 have aX:ns.length=nl.length:=by rw [eV,lgM]
 have aZ:ps.length=pl.length:=by rw [hps,lgM]
 have bc:ts.length=tl.length:=by rw [hts,lgM]
 have aQ:js.length=jl.length:=by rw [ek,lgM]
 have aI:qs.length=ql.length:=by rw [dV,lgM]
 have ap:es.length=el.length:=by rw [aB,lgM]
 have aG:bV.length=al.length:=by rw [has,lgM]
 (refine Qd (E:=ou t) (r0:=t _ fun _=>iI ⟨rd,nx,⟨nl,pl⟩,tl,jl,ql,⟨ef,el⟩,⟨af,al⟩⟩ id ⟨nl,pl⟩ W) trv rfl (by simp [ht]) hB (fun r1 dL=>?_);simp only [ht] at dL)
 cbv
 refine av trv trv rfl rfl rfl ?_
 (simp [ht,ou, *];done)
theorem Oj (ht:TT t) (rd nx ef af:Int) {nl:List Node} {pl:List Place} {tl:List be} {jl:List Jb} {ql:List bZ} {el al:List dQ} {ns ps ts js qs es bV:List (List D)} (eV:ns=nl.map Node.cells) (hps:ps=pl.map Place.cells) (hts:ts=tl.map be.cells) (ek:js=jl.map Jb.cells) (dV:qs=ql.map bZ.cells) (aB:es=el.map dQ.cells) (has:bV=al.map dQ.cells) (hs:(⟨rd,nx,⟨nl,pl⟩,tl,jl,ql,⟨ef,el⟩,⟨af,al⟩⟩:bE).sm) (id:Int):FC 23 [.agg [aA rd,aA nx,SL ns,SL ps,SL ts,SL js,SL qs,aA ef,SL es,aA af,SL bV],aA id] [] (.ret (bX (t _ fun _=>jL ⟨rd,nx,⟨nl,pl⟩,tl,jl,ql,⟨ef,el⟩,⟨af,al⟩⟩ id))) []:=by
 obtain ⟨⟨s1,s2⟩,s3,⟨s4,s5⟩,⟨s6,s7⟩,s8,s9,T1⟩:=(show bE.sm _ from hs)
 simp only at s1 s2 s3 s4 s5 s6 s7 s8 s9 T1
 obtain ⟨W,hW⟩:∃W:aH→bK→Bool,W=fun p v=>ul tl p v:=⟨_,rfl⟩
 have hA:=Ig ht rd nx ef af eV hps hts ek dV aB has hs id (op:=[]) (ZF:=[]) eV rfl s1 s2 (by simp) 60 [.int .u64 rd,.int .u64 nx,.sl ns,.sl ps,.sl ts,.sl js,.sl qs,.int .u64 ef,.sl es,.int .u64 af,.sl bV] W (fun q a b c d hq=>by rw [hW];exact Rx ht rd nx ef af hts s4 q a b c d hq)
 have hE:jL ⟨rd,nx,⟨nl,pl⟩,tl,jl,ql,⟨ef,el⟩,⟨af,al⟩⟩ id=(iI ⟨rd,nx,⟨nl,pl⟩,tl,jl,ql,⟨ef,el⟩,⟨af,al⟩⟩ id ⟨nl,[]⟩ W).2:=by rw [hW];rfl
 obtain ⟨r,hr⟩:∃r,r=iI ⟨rd,nx,⟨nl,pl⟩,tl,jl,ql,⟨ef,el⟩,⟨af,al⟩⟩ id ⟨nl,[]⟩ W:=⟨_,rfl⟩
 rw [←hr] at hE hA
 rw [hE]
 have hB:=rF (bx:=[.var [aA rd,aA nx,SL ns,SL ps,SL ts,SL js,SL qs,aA ef,SL es,aA af,SL bV]]) (b:=0) (xs:=[.agg [aA rd,aA nx,SL ns,SL ps,SL ts,SL js,SL qs,aA ef,SL es,aA af,SL bV],aA id,.agg [SL ns,SL []]]) rfl rfl rfl (de [] rfl rfl rfl rfl hA)
 refine bH ht (aF:=[]) Tryz.func23 rfl rfl (N:=18) rfl rfl (n:=0) rfl rfl ?_
 cbv
 have aX:ns.length=nl.length:=by rw [eV,lgM]
 have aZ:ps.length=pl.length:=by rw [hps,lgM]
 have bc:ts.length=tl.length:=by rw [hts,lgM]
 have aQ:js.length=jl.length:=by rw [ek,lgM]
 have aI:qs.length=ql.length:=by rw [dV,lgM]
 have ap:es.length=el.length:=by rw [aB,lgM]
 have aG:bV.length=al.length:=by rw [has,lgM]
 refine cO [false,false,false,false,false,false,true,true,false,false,false,true] (by kernel_rfl) (by kernel_rfl) ?_
 cbv
 iterate 4 refine gI (by simp [ht,ah]) ?_
 refine .inl ?_
 (refine nv (fun g=>⟨by simp [ht],trv,T3 ht ns ps⟩) rfl rfl rfl ?_)
 cbv
 refine gI (by simp [ht,ah]) ?_
 (refine dx [0] trv rfl rfl hB (cz ?_))
 cbv
 iterate 3 refine gI (by simp [ht,ah]) ?_
 refine av trv trv rfl rfl rfl ?_
 (simp only [ht];done)
def gR.aU (_:Th) (x:gR):List D:=[.int .u8 x.kind,.int .u8 x.a,.int .u8 x.b,.int .u8 x.c,.int .u8 x.d]
instance:Inhabited gR:=⟨⟨0,0,0,0,0⟩⟩
structure Told (s:bE) (rd nx:Int) (ns ps ts js qs:List (List D)) (ef:Int) (es:List (List D)) (af:Int) (bV:List (List D)):Prop where
 r:rd=s.round
 x:nx=s.next
 n:ns=s.bg.nodes.map Node.cells
 p:ps=s.bg.places.map Place.cells
 t:ts=s.tree.map be.cells
 j:js=s.ay.map Jb.cells
 q:qs=s.queue.map bZ.cells
 f:ef=s.ev.first
 e:es=s.ev.l.map dQ.cells
 g:af=s.au.first
 a:bV=s.au.l.map dQ.cells
theorem Told.self (s:bE):Told s s.round s.next (s.bg.nodes.map Node.cells) (s.bg.places.map Place.cells) (s.tree.map be.cells) (s.ay.map Jb.cells) (s.queue.map bZ.cells) s.ev.first (s.ev.l.map dQ.cells) s.au.first (s.au.l.map dQ.cells):=
 ⟨rfl,rfl,rfl,rfl,rfl,rfl,rfl,rfl,rfl,rfl,rfl⟩
theorem Told.eq {s:bE} {rd nx ef af:Int} {ns ps ts js qs es bV:List (List D)} (h:Told s rd nx ns ps ts js qs ef es af bV):(⟨rd,nx,⟨s.bg.nodes,s.bg.places⟩,s.tree,s.ay,s.queue,⟨ef,s.ev.l⟩,⟨af,s.au.l⟩⟩:bE)=s:=by
 rw [h.r,h.x,h.f,h.g]
end Dem
end
section
open Go
namespace Dem
def iq (s:bE) (p:cB):bE:=⟨s.round,s.next,p,s.tree,s.ay,s.queue,s.ev,s.au⟩
theorem AJ (p:cB) (ha:JI p.nodes) (name:aH) (up:Bool):(fm p name up).1.places=p.places∧∀n∈(fm p name up).1.nodes,∃m∈p.nodes,n.name=m.name∧n.labels=m.labels:=by
 rcases Hi p ha name up with ⟨e,_⟩|⟨i,x,hx,hn,_,⟨_,e⟩|⟨_,e⟩⟩
 ·rw [e];exact ⟨rfl,fun n hn=>⟨n,hn,rfl,rfl⟩⟩
 ·rw [e];exact ⟨rfl,fun n hn=>⟨n,hn,rfl,rfl⟩⟩
 rw [e]
 refine ⟨rfl,fun n hn=>?_⟩
 rcases List.mem_or_eq_of_mem_set hn with h|rfl
 ·exact ⟨n,h,rfl,rfl⟩
 exact ⟨x,List.mem_of_getElem? hx,rfl,rfl⟩
theorem bE.ok.Ck {s:bE} (h:s.ok) (name:aH) (up:Bool):(iq s (fm s.bg name up).1).ok:=by
 obtain ⟨a,b⟩:=Te h.bg h.kN name up
 have e:=(AJ s.bg h.bg.ym name up).1
 exact {bg:=a,kN:=b,tree:=h.tree,used:=h.used,most:=h.most,next:=h.next,ids:=h.ids,zx:=h.zx,uw:=h.uw,left:=h.left,uf:=h.uf,og:=h.og,pF:=h.pF,places:=fun x hx=>h.places x (by rw [←e];exact hx),count:=fun j hj hr=>(by show (sO j.id (fm s.bg name up).1.places:Int)=_;rw [e];exact h.count j hj hr),notes:=h.notes}
theorem Ry {A:Ask→Prop} {s:bE} (h:s.ok) (l:s.eH A) (name:aH) (up:Bool):(iq s (fm s.bg name up).1).eH A:=by
 refine ⟨fun n hn=>?_,l.paths,l.xs⟩
 obtain ⟨m,hm,e1,e2⟩:=(AJ s.bg h.bg.ym name up).2 n hn
 obtain ⟨a,b,c⟩:=l.names m hm
 exact ⟨by rw [e1];exact a,by rw [e2];exact b,by rw [e2];exact c⟩
def gx (s:bE) (l:List Int):bE:=l.foldl (fun s id=>(eZ s id 6).1) s
def Mm (s:bE) (name:aH) (c:Nat):bE:=if (sZ s.bg name).2.2=0∧c%2=0 then gx (iq s (sZ s.bg name).1) (sZ s.bg name).2.1 else iq s (fm s.bg name true).1
def kP (x:gR) (s:bE):bE:=
 if x.kind%8≤3 then (cX s (Cu x)).1 else
 if x.kind%8≤5 then (if (fit (eR s.bg) (bG s.ay (x.a%12:Nat)).1.x.bY (bG s.ay (x.a%12:Nat)).1.x.fK (bG s.ay (x.a%12:Nat)).1.x.count).2 then
  (cM s (x.a%12:Nat) (fit (eR s.bg) (bG s.ay (x.a%12:Nat)).1.x.bY (bG s.ay (x.a%12:Nat)).1.x.fK (bG s.ay (x.a%12:Nat)).1.x.count).1).1 else s) else
 if x.kind%8=6 then (send s (x.a%12:Nat) 4).1 else
 Mm s (gv.getD (x.b%3) []) x.c
def ee (n:Nat) (l:List gR) (k:Nat):bE:=(l.take k).foldl (fun s x=>kP x s) (jK n)
theorem yJ {n:Nat} {l:List gR} {k:Nat} {x:gR} (h:l[k]?=some x):ee n l (k+1)=kP x (ee n l k):=by
 unfold ee;rw [dA h,List.foldl_append];rfl
def RK (s t:bE):Prop:=∀j∈t.ay,j.runs=true→∃k∈s.ay,k.runs=true∧k.id=j.id
theorem T4 {s:bE} (h:s.ok) (id kind:Int):RK s (eZ s id kind).1:=by
 cases hf:s.ay.findIdx? (fun j=>decide (j.id=id)) with
 |none=>unfold eZ;rw [hf];exact fun j hj hr=>⟨j,hj,hr,rfl⟩
 |some i=>
  obtain ⟨j,hj,rfl,c⟩:=mu hf
  by_cases hr:j.runs=true
  ·obtain ⟨T,Q,h1,h2⟩:=Bw h hj hr kind
   rw [h2]
   intro y hy hry
   rcases List.mem_or_eq_of_mem_set hy with g|rfl
   ·exact ⟨y,g,hry,rfl⟩
   cases hry
  unfold eZ;rw [hf];simp only;rw [c,if_pos (by simpa using hr)];exact fun j hj hr=>⟨j,hj,hr,rfl⟩
theorem Wy {s:bE} (h:s.ok) (id kind:Int):RK s (send s id kind).1:=by
 cases hf:s.ay.findIdx? (fun j=>decide (j.id=id)) with
 |none=>unfold send;rw [hf];exact fun j hj hr=>⟨j,hj,hr,rfl⟩
 |some i=>
  obtain ⟨j,hj,rfl,c⟩:=mu hf
  obtain ⟨h1,h2,h3⟩:=EV h hj kind
  have hx:∀z∈s.ay.eraseIdx i,z.runs=true→∃w∈s.ay,w.runs=true∧w.id=z.id:=fun z hz hr=>⟨z,List.mem_of_mem_eraseIdx hz,hr,rfl⟩
  by_cases hr:j.runs=true
  ·obtain ⟨T,h4,h5⟩:=h3 hr
   rw [h5];exact hx
  rw [h2 (by simpa using hr)];exact hx
def bE.DD (s:bE):Prop:=∀j∈s.ay,j.runs=true→j.id<12
theorem RK.DD {s t:bE} (h:RK s t) (f:s.DD):t.DD:=fun j hj hr=>by
 obtain ⟨k,a,b,c⟩:=h j hj hr
 rw [←c];exact f k a b
theorem DE {s:bE} (h:s.ok) (f:s.DD) {id:Int} (hi:id<12) (names:List aH):(cM s id names).1.DD:=by
 by_cases e:(cM s id names).2=0
 ·obtain ⟨i,j,T,h1,h2,h3,h4,h5,h6⟩:=wW h e
  rw [h6]
  intro y hy hr
  rcases List.mem_or_eq_of_mem_set hy with g|rfl
  ·exact f y g hr
  show j.id<12;rw [h2];exact hi
 rw [Dz e];exact f
theorem BJ {s:bE} (h:s.ok) (f:s.DD) (x:Ask):(cX s x).1.DD:=by
 by_cases e:(cX s x).2.2=0
 ·rw [(Kr h e).2.2]
  intro y hy hr
  rcases List.mem_append.1 hy with g|g
  ·exact f y g hr
  rw [List.mem_singleton.1 g] at hr;cases hr
 rw [(Dy e).1];exact f
structure bE.good (s:bE):Prop where
 ok:s.ok
 eH:s.eH yE
 DD:s.DD
theorem xe {s:bE} (h:s.good) (id kind:Int):(eZ s id kind).1.good:=⟨h.ok.stop id kind,(Kt h.ok id kind).eH h.eH,(T4 h.ok id kind).DD h.DD⟩
theorem Ih {s:bE} (h:s.good) (id kind:Int):(send s id kind).1.good:=⟨h.ok.end_ id kind,(NQ h.ok id kind).eH h.eH,(Wy h.ok id kind).DD h.DD⟩
theorem uq {s:bE} (h:s.good) (l:List Int):(gx s l).good:=nY (P:=bE.good) (fun a b g=>xe g b 6) _ _ h
theorem lG {s:bE} (h:s.good) (l:List Int):(aW s l).good:=nY (P:=bE.good) (fun a b g=>xe g b 5) _ _ h
theorem sG {s:bE} (h:s.good) (name:aH) (up:Bool):(iq s (fm s.bg name up).1).good:=⟨h.ok.Ck name up,Ry h.ok h.eH name up,h.DD⟩
theorem xg (p:cB) (name:aH):(sZ p name).1=(fm p name false).1:=by unfold sZ;split<;>rfl
theorem Ok {s:bE} (h:s.good) (x:gR):(kP x s).good:=by
 unfold kP
 split
 ·exact ⟨h.ok.cX (Qx x),By h.eH (mB x),BJ h.ok h.DD _⟩
 split
 ·split
  ·exact ⟨h.ok.wN _ _,(rD h.ok _ _).eH h.eH,DE h.ok h.DD (by omega) _⟩
  exact h
 split
 ·exact Ih h _ _
 unfold Mm
 split
 ·rw [xg];exact uq (sG h _ _) _
 exact sG h _ _
theorem iN (n:Nat) (l:List gR) (k:Nat):(ee n l k).good:=
 nY (P:=bE.good) (fun a b h=>Ok h b) _ _ ⟨Bd n,yF _ n,fun j hj=>by cases hj⟩
theorem E2:∀(l:List Int) (a b:Int),l.Pairwise (·<·)→(∀x∈l,a≤x∧x<b)→l.length≤(b-a).toNat
 |[],_,_,_,_=>by simp
 |x::r,a,b,h,g=>by
  obtain ⟨h1,h2⟩:=List.pairwise_cons.1 h
  have h3:=E2 r (x+1) b h2 fun y hy=>⟨h1 y hy,(g y (by simp [hy])).2⟩
  have h4:=g x (by simp)
  simp only [List.length_cons];omega
theorem T6 {s:bE} (h:s.good) (p:Jb→Bool) (hp:∀j,p j=true→j.runs=true):(s.ay.filter p).length≤12:=by
 have h1:=E2 ((s.ay.filter p).map (·.id)) 1 12 (List.pairwise_map.2 (h.ok.ids.filter _)) fun x hx=>by
  obtain ⟨j,hj,rfl⟩:=List.mem_map.1 hx
  obtain ⟨a,b⟩:=List.mem_filter.1 hj
  exact ⟨(h.ok.zx j a).1,h.DD j a (hp j b)⟩
 rw [lgM] at h1;omega
theorem Mn {s:bE} (h:s.good) (name:aH):(EA name s.bg.places).length≤12:=by
 have h1:=E2 (EA name s.bg.places) 1 12 (Qp _ _) fun x hx=>by
  obtain ⟨y,hy,_,rfl⟩:=Qo.1 hx
  obtain ⟨j,hj,hr,e,_⟩:=h.ok.places y hy
  rw [←e]
  exact ⟨(h.ok.zx j hj).1,h.DD j hj hr⟩
 omega
end Dem
end
section
open Go Dem Go.Proofs
namespace Dem
variable {t:Th}
theorem ur {s:bE} (h:s.sm):∀x∈s.ay,x.x.fK.u'∧x.x.path.length<1000000000000:=fun x hx=>⟨(h.ay.2 x hx).1.2.1,(h.ay.2 x hx).1.1⟩
theorem tj {s:bE} {l:List Int} {k:Nat} {x:Int} (h:l[k]?=some x):aW s (l.take (k+1))=(eZ (aW s (l.take k)) x 5).1:=by
 unfold aW;rw [dA h,List.foldl_append];rfl
theorem bE.good.sm {s:bE} (h:s.good):s.sm:=h.ok.small h.eH
theorem KP (ht:TT t) (rd nx ef af:Int) {nl:List Node} {pl:List Place} {tl:List be} {jl:List Jb} {ql:List bZ} {el al:List dQ} {ns ps ts js qs es bV:List (List D)} (eV:ns=nl.map Node.cells) (hps:ps=pl.map Place.cells) (hts:ts=tl.map be.cells) (ek:js=jl.map Jb.cells) (dV:qs=ql.map bZ.cells) (aB:es=el.map dQ.cells) (has:bV=al.map dQ.cells) {ids:List Int} {ir:List (List D)} (U7:ir=ids.map Int.cells) (hil:ids.length<1000000) (hg:∀k,(aW ⟨rd,nx,⟨nl,pl⟩,tl,jl,ql,⟨ef,el⟩,⟨af,al⟩⟩ (ids.take k)).sm):
 FC 53 [.agg [aA rd,aA nx,SL ns,SL ps,SL ts,SL js,SL qs,aA ef,SL es,aA af,SL bV],SL ir] [] (.ret (dM t (t _ fun _=>aW ⟨rd,nx,⟨nl,pl⟩,tl,jl,ql,⟨ef,el⟩,⟨af,al⟩⟩ ids))) []:=by
 obtain ⟨S,hS⟩:∃S:bE,S=⟨rd,nx,⟨nl,pl⟩,tl,jl,ql,⟨ef,el⟩,⟨af,al⟩⟩:=⟨_,rfl⟩
 rw [←hS] at hg ⊢
 have hT0:Told S rd nx ns ps ts js qs ef es af bV:=by rw [hS];exact ⟨rfl,rfl,eV,hps,hts,ek,dV,rfl,aB,rfl,has⟩
 clear hS
 refine bH ht (aF:=[]) Tryz.func53 rfl rfl (N:=21) rfl rfl (n:=0) rfl rfl ?_
 cbv
 have aX:ns.length=nl.length:=by rw [eV,lgM]
 have aZ:ps.length=pl.length:=by rw [hps,lgM]
 have bc:ts.length=tl.length:=by rw [hts,lgM]
 have aQ:js.length=jl.length:=by rw [ek,lgM]
 have aI:qs.length=ql.length:=by rw [dV,lgM]
 have ap:es.length=el.length:=by rw [aB,lgM]
 have aG:bV.length=al.length:=by rw [has,lgM]
 have xj:ir.length=ids.length:=by rw [U7,lgM]
 obtain ⟨J0,dR⟩:∃J0:Nat→Int×Int×Int×List (List D)×List (List D)×List (List D)×List (List D)×List (List D)×Int×List (List D)×Int×List (List D)→Prop,∀n i rd nx ns ps ts js qs ef es af bV,J0 n (i,rd,nx,ns,ps,ts,js,qs,ef,es,af,bV)↔(∃k:Nat,i=k∧k+n=ids.length∧Told (aW S (ids.take k)) rd nx ns ps ts js qs ef es af bV):=⟨fun n v=>match v with|(i,rd,nx,ns,ps,ts,js,qs,ef,es,af,bV)=>(∃k:Nat,i=k∧k+n=ids.length∧Told (aW S (ids.take k)) rd nx ns ps ts js qs ef es af bV),fun _ _ _ _ _ _ _ _ _ _ _ _ _=>Iff.rfl⟩
 refine bF ⟨[2,4,7,8,9],[],[]⟩ (σ:=Int×Int×Int×List (List D)×List (List D)×List (List D)×List (List D)×List (List D)×Int×List (List D)×Int×List (List D)) (fun v=>[(9,.d (.int .i64 (t _ fun _=>v.1)))]) (fun v=>[(0,.var [.d (.int .u64 (t _ fun _=>v.2.1)),.d (.int .u64 (t _ fun _=>v.2.2.1)),.d (.sl (t _ fun _=>v.2.2.2.1)),.d (.sl (t _ fun _=>v.2.2.2.2.1)),.d (.sl (t _ fun _=>v.2.2.2.2.2.1)),.d (.sl (t _ fun _=>v.2.2.2.2.2.2.1)),.d (.sl (t _ fun _=>v.2.2.2.2.2.2.2.1)),.d (.int .u64 (t _ fun _=>v.2.2.2.2.2.2.2.2.1)),.d (.sl (t _ fun _=>v.2.2.2.2.2.2.2.2.2.1)),.d (.int .u64 (t _ fun _=>v.2.2.2.2.2.2.2.2.2.2.1)),.d (.sl (t _ fun _=>v.2.2.2.2.2.2.2.2.2.2.2))])]) J0 ?_
 cbv
 refine aD ⟨ids.length,(_,_,_,_,_,_,_,_,_,_,_,_),(dR _ _ _ _ _ _ _ _ _ _ _ _ _).2 ?_,by simp only [ht];rfl,?_⟩
 ·exact ⟨0,rfl,by simp,hT0⟩
 rintro n ⟨i,rd,nx,ns,ps,ts,js,qs,ef,es,af,bV⟩ hj
 replace hj:=(dR _ _ _ _ _ _ _ _ _ _ _ _ _).1 hj
 obtain ⟨k,rfl,j1,jT⟩:=hj
 cbv
 refine an (fun h1=>?_) (fun h1=>?_)
 ·simp [ht,aa,aX,aZ,bc,aQ,aI,ap,aG,xj] at h1
  cbv
  refine fP ht U7 (cT:=Int.aU t) (by (simp only [ht,aa];omega)) (by (simp only [ht,aa];omega)) (fun _=>rfl) (fun _=>rfl) (fun x2 fZ=>?_)
  simp [ht,aa] at fZ
  cbv
  (have xk:=hg k;refine aE trv (zC ht _ _ _ _ (nl:=(aW S (ids.take k)).bg.nodes) (pl:=(aW S (ids.take k)).bg.places) (tl:=(aW S (ids.take k)).tree) (jl:=(aW S (ids.take k)).ay) (ql:=(aW S (ids.take k)).queue) (el:=(aW S (ids.take k)).ev.l) (al:=(aW S (ids.take k)).au.l) (by simp only [ht];exact jT.n) (by simp only [ht];exact jT.p) (by simp only [ht];exact jT.t) (by simp only [ht];exact jT.j) (by simp only [ht];exact jT.q) (by simp only [ht];exact jT.e) (by simp only [ht];exact jT.a) _ _ (ur xk) xk.tree.1 xk.ay.1 xk.places xk.queue xk.notes.1) (by simp [ht]) rfl rfl rfl (fun r1 dL=>?_);simp only [ht] at dL;rw [jT.eq] at dL)
  cbv
  refine bQ (_,_,_,_,_,_,_,_,_,_,_,_) (by simp only [ht];rfl) (n-1) ?_ ((dR _ _ _ _ _ _ _ _ _ _ _ _ _).2 ?_)
  ·omega
  simp only [ht,aa]
  exact ⟨k+1,aC (by ((try simp only [aa] at*);omega)),by ((try simp only [aa] at*);omega),by rw [tj fZ,←dL];exact Told.self r1.1⟩
 simp [ht,aa,aX,aZ,bc,aQ,aI,ap,aG,xj] at h1
 cbv
 refine av trv trv rfl rfl rfl ?_
 (rw [List.take_of_length_le (by ((try simp only [aa] at*);omega))] at jT;simp only [ht,jT.r,jT.x,jT.n,jT.p,jT.t,jT.j,jT.q,jT.f,jT.e,jT.g,jT.a];done)
end Dem
end
section
open Go Go.Maps
namespace Dem
abbrev gA:Int→Value:=Value.int .u64
def yK:Lit→Int
 |.int _ a=>a
 |_=>0
def pO {H:Type}:DataW H→List Int
 |.map es=>es.map fun p=>yK p.1
 |_=>[]
theorem BK {x y:Int} (h:gA x=gA y):x=y:=by
 injection h
theorem oz {P:Program} {k:TypeId} (hk:P.underlying k=some (.int .u64)) {key:Value} {kl:Lit} (h:keyOf P k key=some kl):∃x:Int,key=gA x∧kl=.int .u64 x∧(Lit.int .u64 x).wf=true:=by
 cases key<;>simp [keyOf,hk,mapKey] at h
 rename_i q a
 obtain ⟨⟨rfl,hw⟩,rfl⟩:=h
 exact ⟨a,rfl,rfl,hw⟩
def fC {H:Type} (D0:DataW H) (left:Lit→Bool) (ss:List Int):Prop:=ss.Nodup∧∀x,x∈ss↔(has D0 (.int .u64 x)=true∧left (.int .u64 x)=false)
section
variable {H:Type} {D0:DataW H} {left:Lit→Bool} {ss:List Int}
theorem fC.start (D0:DataW H):fC D0 (has D0) []:=by
 refine ⟨List.nodup_nil,fun x=>?_⟩
 cases has D0 (.int .u64 x)<;>simp
theorem fC.step (h:fC D0 left ss) {x:Int} {y:DataW H} (hlk:left (.int .u64 x)=true) (hat:∀zd,D0.atKey (.int .u64 x) zd=y):fC D0 (fun z=>left z&&!z.sameKey (.int .u64 x)) (ss++[x]):=by
 obtain ⟨h1,h2⟩:=h
 have hh:=has_true_of_atKey hat
 have hn:x ∉ ss:=by
  intro hx
  rw [((h2 x).1 hx).2] at hlk
  cases hlk
 constructor
 ·rw [List.nodup_append]
  refine ⟨h1,by simp,?_⟩
  intro a ha b hb e
  simp only [List.mem_singleton] at hb
  exact hn (by rw [←hb,←e];exact ha)
 intro z
 by_cases hz:z=x
 ·subst hz;simp [hh,Lit.sameKey]
 simp [h2 z,hz,Lit.sameKey]
variable {P:Program} {k:TypeId} {R:Value→Option (DataW H×List MemPlace)} {w:World} {b n:Nat}
theorem fC.perm (h:fC D0 left ss) (hown:w.ownsMap P k R b n D0) (K:Keyed P k) (hk:P.underlying k=some (.int .u64)) (hl:∀kl,left kl=false):ss.Perm (pO D0):=by
 obtain ⟨es,hD,hpw,_⟩:=hown.entries K
 obtain ⟨es',hD',hko⟩:=hown.keysOf
 rw [hD] at hD'
 obtain rfl:es=es':=by simpa using hD'
 subst hD
 have hkey:∀p∈es,∃x,p.1=.int .u64 x:=by
  intro p hp
  obtain ⟨v,hv⟩:=hko p hp
  obtain ⟨x,_,hx,_⟩:=oz hk hv
  exact ⟨x,hx⟩
 refine (List.perm_ext_iff_of_nodup h.1 ?_).2 ?_
 ·show (es.map fun p=>yK p.1).Nodup
  refine List.pairwise_map.2 (hpw.imp_of_mem ?_)
  intro p q hp hq hne e
  obtain ⟨a,ha⟩:=hkey p hp
  obtain ⟨c,hc⟩:=hkey q hq
  rw [ha,hc] at hne e
  exact hne (congrArg _ e)
 intro x
 rw [h.2 x,hl]
 simp only [and_true]
 rw [has_eq,List.any_eq_true]
 show _↔x∈es.map fun p=>yK p.1
 rw [List.mem_map]
 constructor
 ·rintro ⟨p,hp,hs⟩
  obtain ⟨a,ha⟩:=hkey p hp
  refine ⟨p,hp,?_⟩
  rw [ha] at hs ⊢
  simpa [Lit.sameKey,yK] using hs
 rintro ⟨p,hp,rfl⟩
 obtain ⟨a,ha⟩:=hkey p hp
 exact ⟨p,hp,by rw [ha];simp [Lit.sameKey,yK]⟩
end
end Dem
end
