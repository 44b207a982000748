/- Parts of a proof, joined. -/
import Derived.Test.YtjnbpclolnmimaaGreatDoorJ27
set_option linter.unusedSimpArgs false
set_option linter.unusedVariables false
set_option maxRecDepth 100000
set_option maxHeartbeats 4000000
section
open Go Dem Go.Proofs
namespace Dem
variable {t:Th}
theorem OW (ht:TT t) (rd nx ef af:Int) (ns ps ts js qs es' cY:List (List D)) {l:List (aR)} {es:List (List D)} (aF:es=l.map aR.cells) (f:Nat) (p:aR→Bool) (hl:l.length<9223372036854775807)
 (hf:∀x∈l,FC f [.agg [ST x.path,az x.dc.a,az x.dc.b,az x.dc.c,az x.dc.d,az x.used.a,az x.used.b,az x.used.c,az x.used.d],.ptr 0 0] [.var [az rd,az nx,SL ns,SL ps,SL ts,SL js,SL qs,az ef,SL es',az af,SL cY]] (.ret (BL (p x))) [.var [az rd,az nx,SL ns,SL ps,SL ts,SL js,SL qs,az ef,SL es',az af,SL cY]]) {r:Int} (hr:r=idxOf p l):FC 90 [SL es,.fn f [.ptr 0 0]] [.var [az rd,az nx,SL ns,SL ps,SL ts,SL js,SL qs,az ef,SL es',az af,SL cY]] (.ret (bq r)) [.var [az rd,az nx,SL ns,SL ps,SL ts,SL js,SL qs,az ef,SL es',az af,SL cY]]:=by
 have hel:es.length=l.length:=by rw [aF,List.length_map]
 obtain ⟨J,hJ⟩:∃J:Nat→Nat→Prop,∀n v,J n v↔(v+n=l.length∧∀i<v,∀x,l[i]?=some x→p x=false):=⟨fun n v=>v+n=l.length∧∀i<v,∀x,l[i]?=some x→p x=false,fun _ _=>Iff.rfl⟩
 refine bC ht (aE:=[.var [az rd,az nx,SL ns,SL ps,SL ts,SL js,SL qs,az ef,SL es',az af,SL cY]]) Tryz.func90 (c:=_) rfl rfl (N:=19) rfl (rs:=_) rfl (n:=1) rfl rfl ?_
 cbv
 refine aZ ⟨[0,1,7,8],[],[]⟩ (σ:=Nat) (fun k=>[(8,bq (t _ fun _=>(k:Int)))]) (fun _=>[]) J ?_
 cbv
 refine aA ⟨l.length,0,(hJ _ _).2 ⟨by omega,by intro i hi;simp at hi⟩,by simp only [ht];rfl,?_⟩
 rintro n k hj
 obtain ⟨h2,h3⟩:=(hJ _ _).1 hj
 clear hj
 cbv
 refine ai (fun h=>?_) (fun h=>?_)
 ·simp only [ht,aa,decide_eq_true_eq] at h
  have hk:k<l.length:=by omega
  obtain ⟨x,hx⟩:∃x,l[k]?=some x:=⟨l[k],by simp⟩
  have og:x∈l:=List.mem_of_getElem? hx
  have gY:=hf x og
  obtain ⟨px,hpx⟩:∃b,b=p x:=⟨_,rfl⟩
  rw [←hpx] at gY
  obtain ⟨nm,⟨a,b,c,d⟩,⟨e,g,u,v⟩⟩:=x
  cbv
  refine gS [.str nm,.int .u64 a,.int .u64 b,.int .u64 c,.int .u64 d,.int .u64 e,.int .u64 g,.int .u64 u,.int .u64 v] ?_ ?_ ?_
  ·simp only [ht,aa];refine ⟨by omega,h,?_⟩;rw [aF];intro r hr;obtain ⟨y,_,rfl⟩:=List.mem_map.1 hr;rfl
  ·simp [ht,aa,aF,hx]
  cbv
  refine dn trivial gY ?_
  cbv
  refine ai (fun hb=>?_) (fun hb=>?_)
  ·cbv
   refine an trivial trivial rfl rfl rfl ?_
   have e:=cN hx (hpx▸hb) h3
   simp only [ht,aa,hr,idxOf,e]
  cbv
  refine aA ⟨n-1,k+1,⟨by omega,(hJ _ _).2 ⟨by omega,?_⟩⟩,?_⟩
  ·intro i hi y hy
   by_cases hik:i<k
   ·exact h3 i hik y hy
   have:i=k:=by omega
   subst this;rw [hx] at hy;cases hy;rw [←hpx];exact hb
  simp only [ht,aa,aC (show k<9223372036854775807 by omega)];rfl
 simp only [ht,aa,decide_eq_false_iff_not] at h
 have hk:¬k<l.length:=by omega
 clear h
 cbv
 refine an trivial trivial rfl rfl rfl ?_
 rw [hr,idxOf,cS]
 intro i y hy
 have:i<l.length:=by
  rcases Nat.lt_or_ge i l.length with h'|h';· exact h'
  simp [List.getElem?_eq_none h'] at hy
 exact h3 i (by omega) y hy
theorem OX (ht:TT t) (rd nx ef af:Int) (ns ps ts js qs es' cY:List (List D)) {l:List (aR)} {es:List (List D)} (aF:es=l.map aR.cells) (f:Nat) (p:aR→Bool) (hl:l.length<9223372036854775807)
 (hf:∀x∈l,FC f [.agg [ST x.path,az x.dc.a,az x.dc.b,az x.dc.c,az x.dc.d,az x.used.a,az x.used.b,az x.used.c,az x.used.d],.ptr 0 0] [.var [az rd,az nx,SL ns,SL ps,SL ts,SL js,SL qs,az ef,SL es',az af,SL cY]] (.ret (BL (p x))) [.var [az rd,az nx,SL ns,SL ps,SL ts,SL js,SL qs,az ef,SL es',az af,SL cY]]) {r:Bool} (hr:r=l.any p):FC 45 [SL es,.fn f [.ptr 0 0]] [.var [az rd,az nx,SL ns,SL ps,SL ts,SL js,SL qs,az ef,SL es',az af,SL cY]] (.ret (BL r)) [.var [az rd,az nx,SL ns,SL ps,SL ts,SL js,SL qs,az ef,SL es',az af,SL cY]]:=by
 obtain ⟨k,hk⟩:∃k,k=idxOf p l:=⟨_,rfl⟩
 refine bC ht (aE:=[.var [az rd,az nx,SL ns,SL ps,SL ts,SL js,SL qs,az ef,SL es',az af,SL cY]]) Tryz.func45 (c:=_) rfl rfl (N:=9) rfl (rs:=_) rfl (n:=1) rfl rfl ?_
 cbv
 refine dn trivial (OW ht rd nx ef af ns ps ts js qs es' cY aF f p hl hf hk) ?_
 cbv
 refine an trivial trivial rfl rfl rfl ?_
 simp only [ht,hr,eT,hk]
theorem LG (ht:TT t) (rd nx ef af:Int) {nl:List Node} {pl:List Place} {tl:List aR} {jl:List Jb} {ql:List bX} {el al:List bU} {ns ps ts js qs es cY:List (List D)} (gX:ns=nl.map Node.cells) (hps:ps=pl.map Place.cells) (hts:ts=tl.map aR.cells) (gi:js=jl.map Jb.cells) (fq:qs=ql.map bX.cells) (aF:es=el.map bU.cells) (has:cY=al.map bU.cells) (p:aD) (a b c d e f g h:Int) (hjl:jl.length<1000000) (fR:∀x∈jl,x.x.path.length<1000000000000∧x.x.fQ.u') {r:Bool} (hr:r=!qu ⟨rd,nx,⟨nl,pl⟩,tl,jl,ql,⟨ef,el⟩,⟨af,al⟩⟩ ⟨p,⟨a,b,c,d⟩,⟨e,f,g,h⟩⟩):
 FC 46 [.agg [ST p,az a,az b,az c,az d,az e,az f,az g,az h],.ptr 0 0] [.var [az rd,az nx,SL ns,SL ps,SL ts,SL js,SL qs,az ef,SL es,az af,SL cY]] (.ret (BL r)) [.var [az rd,az nx,SL ns,SL ps,SL ts,SL js,SL qs,az ef,SL es,az af,SL cY]]:=by
 refine bC ht (aE:=[.var [az rd,az nx,SL ns,SL ps,SL ts,SL js,SL qs,az ef,SL es,az af,SL cY]]) Tryz.func46 (c:=_) rfl rfl (N:=8) rfl (rs:=_) rfl (n:=1) rfl rfl ?_
 cbv
 have fj:ns.length=nl.length:=by rw [gX,List.length_map]
 have fE:ps.length=pl.length:=by rw [hps,List.length_map]
 have fZ:ts.length=tl.length:=by rw [hts,List.length_map]
 have dy:js.length=jl.length:=by rw [gi,List.length_map]
 have dM:qs.length=ql.length:=by rw [fq,List.length_map]
 have ar:es.length=el.length:=by rw [aF,List.length_map]
 have dU:cY.length=al.length:=by rw [has,List.length_map]
 refine ay trivial (Sh ht _ _ _ _ (by assumption) (by assumption) (by assumption) (by assumption) (by assumption) (by assumption) (by assumption) _ _ _ _ _ _ _ _ _ (by assumption) (by assumption)) trivial rfl rfl (fun r0 bE=>?_)
 simp only [ht] at bE
 cbv
 refine an trivial trivial rfl rfl rfl ?_
 (simp [*];done)
theorem OY (ht:TT t) (rd nx ef af:Int) {nl:List Node} {pl:List Place} {tl:List aR} {jl:List Jb} {ql:List bX} {el al:List bU} {ns ps ts js qs es cY:List (List D)} (gX:ns=nl.map Node.cells) (hps:ps=pl.map Place.cells) (hts:ts=tl.map aR.cells) (gi:js=jl.map Jb.cells) (fq:qs=ql.map bX.cells) (aF:es=el.map bU.cells) (has:cY=al.map bU.cells) (htl:tl.length<100000) (hjl:jl.length<1000000) (fR:∀x∈jl,x.x.path.length<1000000000000∧x.x.fQ.u') {r:Bool} (hr:r=tl.any fun e=>!qu ⟨rd,nx,⟨nl,pl⟩,tl,jl,ql,⟨ef,el⟩,⟨af,al⟩⟩ e):
 FC 45 [SL ts,.fn 46 [.ptr 0 0]] [.var [az rd,az nx,SL ns,SL ps,SL ts,SL js,SL qs,az ef,SL es,az af,SL cY]] (.ret (BL r)) [.var [az rd,az nx,SL ns,SL ps,SL ts,SL js,SL qs,az ef,SL es,az af,SL cY]]:=
 OX ht rd nx ef af ns ps ts js qs es cY hts 46 (fun e=>!qu ⟨rd,nx,⟨nl,pl⟩,tl,jl,ql,⟨ef,el⟩,⟨af,al⟩⟩ e) (by omega) (fun x _=>LG ht rd nx ef af gX hps hts gi fq aF has x.path x.dc.a x.dc.b x.dc.c x.dc.d x.used.a x.used.b x.used.c x.used.d hjl fR rfl) hr
structure cH.sm (s:cH):Prop where
 nodes:s.aW.nodes.length<1000000∧∀x∈s.aW.nodes,x.sm
 places:s.aW.places.length<1000000
 tree:s.tree.length<100000∧∀x∈s.tree,x.path.length<1000000000000
 aI:s.aI.length<1000000∧∀x∈s.aI,x.x.sm∧(0≤x.id∧x.id<18446744073709551616)∧x.x.count<9223372036854775808
 queue:s.queue.length<1000000
 notes:s.ev.l.length<1000000∧s.au.l.length<1000000
theorem LH {s:cH} {k:Nat} {x:Jb} (hx:s.aI[k]?=some x):mZ s (lp s.aI k) (s.aI.drop k)=(VX s (lp s.aI k) x&&mZ s (lp s.aI (k+1)) (s.aI.drop (k+1))):=by
 rw [bO hx,mZ]
 have:lp s.aI (k+1)=some x.id:=by simp [lp,hx]
 rw [this]
theorem XQ {s:cH} (h:((((nU s.aW=false∨gU s.tree=false)∨nX s.queue=false)∨(32:Int)<(s.aI.length:Int))∨s.next<1)∨(32:Int)<max (s.ev.l.length:Int) (s.au.l.length:Int)):gq s=false:=by
 unfold gq
 rcases h with ((((h|h)|h)|h)|h)|h
 ·rw [h];rfl
 ·rw [h];split<;>rfl
 ·rw [h];split;rfl;split<;>rfl
 ·rw [if_pos (show 32<s.aI.length by omega)];split;rfl;split;rfl;split<;>rfl
 ·rw [if_pos h];split;rfl;split;rfl;split;rfl;split<;>rfl
 rw [if_pos (show 32<max s.ev.l.length s.au.l.length by omega)];split;rfl;split;rfl;split;rfl;split;rfl;split<;>rfl
theorem XR {s:cH} (h:mZ s none s.aI=false):gq s=false:=by
 unfold gq
 rw [h];split;rfl;split;rfl;split;rfl;split;rfl;split;rfl;split<;>rfl
theorem XS {a b c:Bool}:(bif (bif a then b else false) then c else false)=(a&&b&&c):=by cases a<;>cases b<;>rfl
theorem XT {a b:Nat}:decide ((a:Int)=(b:Int))=decide (a=b):=by rw [decide_eq_decide];omega
theorem U2 {s:cH} (h:((((nU s.aW=true∧gU s.tree=true)∧nX s.queue=true)∧(s.aI.length:Int)≤(32:Int))∧1≤s.next)∧max (s.ev.l.length:Int) (s.au.l.length:Int)≤(32:Int)) (hj:mZ s none s.aI=true):
 gq s=(decide (gW s.aI=s.queue.length)&&lZ s&&!(s.tree.any fun e=>!qu s e)):=by
 obtain ⟨⟨⟨⟨⟨h1,h2⟩,h3⟩,h4⟩,h5⟩,h6⟩:=h
 unfold gq
 rw [h1,h2,h3,hj]
 simp only [Bool.not_true,Bool.false_eq_true,if_false]
 rw [if_neg (by omega),if_neg (by omega),if_neg (by omega)]
theorem p9 (ht:TT t) (rd nx ef af:Int) {nl:List Node} {pl:List Place} {tl:List aR} {jl:List Jb} {ql:List bX} {el al:List bU} {ns ps ts js qs es cY:List (List D)} (gX:ns=nl.map Node.cells) (hps:ps=pl.map Place.cells) (hts:ts=tl.map aR.cells) (gi:js=jl.map Jb.cells) (fq:qs=ql.map bX.cells) (aF:es=el.map bU.cells) (has:cY=al.map bU.cells) (hs:(⟨rd,nx,⟨nl,pl⟩,tl,jl,ql,⟨ef,el⟩,⟨af,al⟩⟩:cH).sm):
 FC 14 [.agg [az rd,az nx,SL ns,SL ps,SL ts,SL js,SL qs,az ef,SL es,az af,SL cY]] [] (.ret (bY (t _ fun _=>gq ⟨rd,nx,⟨nl,pl⟩,tl,jl,ql,⟨ef,el⟩,⟨af,al⟩⟩))) []:=by
 obtain ⟨⟨s1,s2⟩,s3,⟨s4,s5⟩,⟨s6,s7⟩,s8,s9,Z4⟩:=id hs
 simp only at s1 s2 s3 s4 s5 s6 s7 s8 s9 Z4
 have s11:∀x∈jl,x.x.path.length<1000000000000∧x.x.fQ.u':=fun x hx=>⟨(s7 x hx).1.1,(s7 x hx).1.2.1⟩
 have s12:∀x∈jl,(0≤x.id∧x.id<18446744073709551616)∧x.x.count<9223372036854775808:=fun x hx=>⟨(s7 x hx).2.1,(s7 x hx).2.2⟩
 refine bC ht (aE:=[]) Tryz.func14 (c:=_) rfl rfl (N:=78) rfl (rs:=_) rfl (n:=0) rfl rfl ?_
 cbv
 have fj:ns.length=nl.length:=by rw [gX,List.length_map]
 have fE:ps.length=pl.length:=by rw [hps,List.length_map]
 have fZ:ts.length=tl.length:=by rw [hts,List.length_map]
 have dy:js.length=jl.length:=by rw [gi,List.length_map]
 have dM:qs.length=ql.length:=by rw [fq,List.length_map]
 have ar:es.length=el.length:=by rw [aF,List.length_map]
 have dU:cY.length=al.length:=by rw [has,List.length_map]
 refine ay trivial (D2 ht (by assumption) (by assumption) (by omega) (by omega) (by assumption)) trivial rfl rfl (fun r0 bE=>?_)
 simp only [ht] at bE
 cbv
 iterate 2 refine gI (by simp [ht]) ?_
 refine aM (fun g1=>⟨by simp [ht] at g1 ⊢;exact g1,trivial,Ej ht (by assumption) (by assumption) (by assumption)⟩) rfl rfl (fun r2 cP=>?_)
 simp only [ht] at cP
 cbv
 refine gI (by simp [ht]) ?_
 refine pI (by simp [ht]) ?_
 iterate 2 refine gI (by simp [ht]) ?_
 refine aM (fun g3=>⟨by simp [ht] at g3 ⊢;exact g3,trivial,OP ht (by assumption) (by assumption)⟩) rfl rfl (fun r4 dO=>?_)
 simp only [ht] at dO
 cbv
 refine gI (by simp [ht]) ?_
 refine pI (by simp [ht]) ?_
 iterate 4 refine gI (by simp [ht]) ?_
 refine pI (by simp [ht]) ?_
 iterate 3 refine gI (by simp [ht]) ?_
 refine pI (by simp [ht]) ?_
 iterate 10 refine gI (by simp [ht]) ?_
 refine pI (by simp [ht]) ?_
 refine ai (fun h5=>?_) (fun h5=>?_)
 ·simp [ht,aa,dy,ar,dU] at h5
  cbv
  refine an trivial trivial rfl rfl rfl ?_
  (simp only [ht];rw [XQ (by simp only [←bE,←cP,←dO];exact h5)];done)
 simp [ht,aa,dy,ar,dU] at h5
 cbv
 obtain ⟨J6,Jl⟩:∃J6:Nat→Int→Prop,∀n i,J6 n i↔(∃k:Nat,i=k∧k+n=jl.length∧mZ ⟨rd,nx,⟨nl,pl⟩,tl,jl,ql,⟨ef,el⟩,⟨af,al⟩⟩ none jl=mZ ⟨rd,nx,⟨nl,pl⟩,tl,jl,ql,⟨ef,el⟩,⟨af,al⟩⟩ (lp jl k) (jl.drop k)):=⟨fun n v=>match v with|i=>(∃k:Nat,i=k∧k+n=jl.length∧mZ ⟨rd,nx,⟨nl,pl⟩,tl,jl,ql,⟨ef,el⟩,⟨af,al⟩⟩ none jl=mZ ⟨rd,nx,⟨nl,pl⟩,tl,jl,ql,⟨ef,el⟩,⟨af,al⟩⟩ (lp jl k) (jl.drop k)),fun _ _=>Iff.rfl⟩
 refine aZ ⟨[1,3,48,49,50],[],[]⟩ (σ:=Int) (fun v=>[(50,.d (.int .i64 (t _ fun _=>v)))]) (fun v=>[]) J6 ?_
 cbv
 refine aA ⟨jl.length,_,(Jl _ _).2 ?_,by simp only [ht];rfl,?_⟩
 ·exact ⟨0,rfl,by simp,rfl⟩
 rintro n i hj
 replace hj:=(Jl _ _).1 hj
 obtain ⟨k,rfl,j1,j4⟩:=hj
 cbv
 refine ai (fun h7=>?_) (fun h7=>?_)
 ·simp [ht,aa,dy] at h7
  cbv
  refine dg ht gi (cT:=Jb.aH t) (by (simp only [ht,aa];omega)) (by (simp only [ht,aa];omega)) (fun _=>rfl) (fun _=>(by (simp only [ht,Jb.aH];rfl))) (fun x8 mx8=>?_)
  simp [ht,aa] at mx8
  have j5:=LH (s:=⟨rd,nx,⟨nl,pl⟩,tl,jl,ql,⟨ef,el⟩,⟨af,al⟩⟩) mx8
  simp only at j5
  rw [j5] at j4
  have sx8:=(s7 _ (List.mem_of_getElem? mx8)).1
  cbv
  refine ay trivial (XP ht _ _ _ _ (by assumption) (by assumption) (by assumption) (by assumption) (by assumption) (by assumption) (by assumption) _ (by (simp only [ht];rfl)) (by assumption) _ _ _ _ _ _ _ _ _ _ _ (jH ht rfl) (by assumption) (by assumption) (by assumption) (by assumption)) trivial rfl rfl (fun r9 dN=>?_)
  simp only [ht] at dN
  (have e9:VX ⟨rd,nx,⟨nl,pl⟩,tl,jl,ql,⟨ef,el⟩,⟨af,al⟩⟩ (lp jl k) x8=r9:=(dN).symm;rw [e9] at j4)
  cbv
  refine ai (fun h10=>?_) (fun h10=>?_)
  ·simp [ht] at h10
   cbv
   refine an trivial trivial rfl rfl rfl ?_
   (simp only [ht];rw [XR (by rw [j4,h10];rfl)];done)
  simp [ht] at h10
  cbv
  refine bf _ (by simp only [ht];rfl) (n-1) ?_ ((Jl _ _).2 ?_)
  ·omega
  simp only [aa]
  exact ⟨k+1,aC (by ((try simp only [aa] at*);omega)),by ((try simp only [aa] at*);omega),by rw [j4,h10];rfl⟩
 simp [ht,aa,dy] at h7
 cbv
 refine bJ [false,false,false,false,false,true,true,true,true,true,true,false,false,false,true,true,true,true] (by kernel_rfl) (by kernel_rfl) ?_
 cbv
 refine gI (by simp) ?_
 refine .inl ?_
 refine aM (fun g11=>⟨trivial,trivial,Sg ht _ _ _ _ (by assumption) (by assumption) (by assumption) (by assumption) (by assumption) (by assumption) (by assumption) (by assumption)⟩) rfl rfl (fun Xw oN=>?_)
 simp only [ht] at oN
 cbv
 iterate 3 refine gI (by simp) ?_
 refine gI (by simp [ht]) ?_
 refine aM (fun g13=>⟨by simp [ht] at g13 ⊢;exact g13,trivial,OS ht _ _ _ _ (by assumption) (by assumption) (by assumption) (by assumption) (by assumption) (by assumption) (by assumption) (by assumption) (by assumption) (by assumption)⟩) rfl rfl (fun r14 wK=>?_)
 simp only [ht] at wK
 cbv
 refine pI (by simp [ht]) ?_
 iterate 3 refine gI (by simp [ht]) ?_
 (obtain ⟨r19,Z5⟩:∃r,r=tl.any (fun e=>!qu ⟨rd,nx,⟨nl,pl⟩,tl,jl,ql,⟨ef,el⟩,⟨af,al⟩⟩ e):=⟨_,rfl⟩;refine TL [true,false] [1] (fun g=>⟨⟨g,g,trivial⟩,trivial,OY ht rd nx ef af gX hps hts gi fq aF has s4 s6 s11 Z5⟩) rfl rfl rfl (.inl rfl) rfl rfl rfl rfl ?_)
 cbv
 refine gI (by simp [ht]) ?_
 refine pI (by simp [ht]) ?_
 refine an trivial trivial rfl rfl rfl ?_
 (rw [List.drop_eq_nil_of_le (by ((try simp only [aa] at*);omega)),mZ] at j4;simp only [ht];rw [U2 (by simp only [←bE,←cP,←dO];exact h5) j4];simp only [oN,wK,Z5,dM,XS,XT];done)
end Dem
end
section
open Go Dem Go.Proofs
namespace Dem
variable {t:Th}
theorem Si (ht:TT t) (rd nx ef af p:Int) (ns ps ts js qs es cY:List (List D)) (ok:Bool) (s:aD):FDR 77 [.ptr 0 0,.ptr 1 0] [.var [az rd,az nx,SL ns,SL ps,SL ts,SL js,SL qs,az ef,SL es,az af,SL cY],.var [BL ok],.var [ST s,bq p]] (.ret (.dF [])) [.var [az rd,az nx,SL ns,SL ps,SL ts,SL js,SL qs,az ef,SL es,az af,SL cY],.var [BL ok],.var [ST s,bq p]]:=by
 refine ZK ht (aE:=[.var [az rd,az nx,SL ns,SL ps,SL ts,SL js,SL qs,az ef,SL es,az af,SL cY],.var [BL ok],.var [ST s,bq p]]) Tryz.func77 (c:=_) rfl rfl (N:=11) rfl (rs:=_) rfl (n:=3) rfl rfl rfl ?_
 cbv
 refine qj rfl ?_
 cbv
 exact an trivial trivial rfl rfl rfl rfl
theorem U3 (ht:TT t) (s:aD) {p1 p2 p3 p4 p5 p6 p7 c e:Int} (rd nx ef af:Int) {nl:List Node} {pl:List Place} {tl:List aR} {jl:List Jb} {ql:List bX} {el al:List bU} {ns ps ts js qs es cY:List (List D)} (gX:ns=nl.map Node.cells) (hps:ps=pl.map Place.cells) (hts:ts=tl.map aR.cells) (gi:js=jl.map Jb.cells) (fq:qs=ql.map bX.cells) (aF:es=el.map bU.cells) (has:cY=al.map bU.cells) (hs:s.length<9223372036854775000) (hq:ql=[]) (he:e=s.length)
 (g1:bD s 0=⟨rd,p1,true⟩) (g2:bD s p1=⟨nx,p2,true⟩) (g3:Ib s p2=⟨⟨nl,pl⟩,p3,true⟩) (l3:p3≤s.length) (g4:BJ s p3=⟨tl,p4,true⟩) (l4:p4≤s.length)
 (g5:bD s p4=⟨c,p5,true⟩) (g6:kB s c.toNat [] p5=some (jl,p6)) (g7:lm s p6=some (⟨ef,el⟩,p7)) (g8:lm s p7=some (⟨af,al⟩,e))
 (fR:(⟨rd,nx,⟨nl,pl⟩,tl,jl,ql,⟨ef,el⟩,⟨af,al⟩⟩:cH).sm) (hr:gq ⟨rd,nx,⟨nl,pl⟩,tl,jl,ql,⟨ef,el⟩,⟨af,al⟩⟩=true):
 FC 25 [ST s] [] (.ret (.dF [.agg [az rd,az nx,SL ns,SL ps,SL ts,SL js,SL qs,az ef,SL es,az af,SL cY],BL true])) []:=by
 have h6:=fR.aI
 have h7:=fR.notes
 simp only at h6 h7
 refine ZJ ht (aE:=[]) Tryz.func25 (c:=_) rfl rfl (N:=25) rfl (rs:=_) rfl (n:=0) rfl rfl rfl ?_
 cbv
 have fj:ns.length=nl.length:=by rw [gX,List.length_map]
 have fE:ps.length=pl.length:=by rw [hps,List.length_map]
 have fZ:ts.length=tl.length:=by rw [hts,List.length_map]
 have dy:js.length=jl.length:=by rw [gi,List.length_map]
 have dM:qs.length=ql.length:=by rw [fq,List.length_map]
 have ar:es.length=el.length:=by rw [aF,List.length_map]
 have dU:cY.length=al.length:=by rw [has,List.length_map]
 (refine cE [2] trivial rfl rfl (OJ ht s rd nx ef af gX hps hts gi fq aF has hs (by decide) hq g1 g2 g3 l3 g4 l4 g5 g6 h6.1 (fun j hj=>(h6.2 j hj).1) g7 h7.1 g8 h7.2) (bK ?_))
 cbv
 refine gI (by simp [ht]) ?_
 refine aM (fun g0=>⟨by simp [ht] at g0 ⊢;exact g0,trivial,p9 ht _ _ _ _ (by assumption) (by assumption) (by assumption) (by assumption) (by assumption) (by assumption) (by assumption) (by assumption)⟩) rfl rfl (fun r1 cX=>?_)
 simp only [ht] at cX
 (rw [hr] at cX;subst cX)
 cbv
 refine gI (by simp [ht]) ?_
 refine pI (by simp [ht]) ?_
 refine ai (fun h2=>?_) (fun h2=>?_)
 ·simp [ht,aa] at h2
  contradiction
 simp [ht,aa] at h2
 cbv
 (refine KF (Si ht _ _ _ _ _ _ _ _ _ _ _ _ _ _) ?_)
 cbv
 refine an trivial trivial rfl rfl rfl ?_
 rfl
end Dem
end
section
open Go Dem Go.Proofs
namespace Dem
variable {t:Th}
theorem OZ (ht:TT t) {l m:List bU} {es fs:List (List D)} (aF:es=l.map bU.cells) (qL:fs=m.map bU.cells) (hl:l.length<1000000000) (hm:m.length<1000000000):
 FC 116 [SL es,SL fs] [] (.ret (bY (t _ fun _=>decide (l=m)))) []:=by
 refine bC ht (aE:=[]) Tryz.func116 (c:=_) rfl rfl (N:=26) rfl (rs:=_) rfl (n:=0) rfl rfl ?_
 cbv
 have ar:es.length=l.length:=by rw [aF,List.length_map]
 have cD:fs.length=m.length:=by rw [qL,List.length_map]
 refine ai (fun h0=>?_) (fun h0=>?_)
 ·simp [ht,aa,ar,cD] at h0
  cbv
  refine an trivial trivial rfl rfl rfl ?_
  (simp [ht];rintro rfl;simp_all;done)
 simp [ht,aa,ar,cD] at h0
 cbv
 obtain ⟨J1,fe⟩:∃J1:Nat→Int→Prop,∀n i,J1 n i↔(∃k:Nat,i=k∧k+n=l.length∧l.length=m.length∧decide (l=m)=decide (l.drop k=m.drop k)):=⟨fun n v=>match v with|i=>(∃k:Nat,i=k∧k+n=l.length∧l.length=m.length∧decide (l=m)=decide (l.drop k=m.drop k)),fun _ _=>Iff.rfl⟩
 refine aZ ⟨[0,1,12,13],[],[]⟩ (σ:=Int) (fun v=>[(13,.d (.int .i64 (t _ fun _=>v)))]) (fun v=>[]) J1 ?_
 cbv
 refine aA ⟨l.length,_,(fe _ _).2 ?_,by simp only [ht];rfl,?_⟩
 ·(simp only [aa];grind)
 rintro n i hj
 replace hj:=(fe _ _).1 hj
 obtain ⟨k,rfl,j1,j2,j4⟩:=hj
 cbv
 refine ai (fun h2=>?_) (fun h2=>?_)
 ·simp [ht,aa,ar] at h2
  cbv
  refine bJ [false,false,false,false,false,false,false,false,true] (by kernel_rfl) (by kernel_rfl) ?_
  cbv
  iterate 2 refine gI (by simp) ?_
  refine dg ht aF (cT:=bU.aH t) (by (simp only [ht,aa];omega)) (by (simp only [ht,aa];omega)) (fun _=>rfl) (fun _=>rfl) (fun x3 ke=>?_)
  simp [ht,aa] at ke
  rw [bO ke] at j4
  cbv
  iterate 3 refine gI (by simp) ?_
  refine dg ht qL (cT:=bU.aH t) (by (simp only [ht,aa];omega)) (by (simp only [ht,aa];omega)) (fun _=>rfl) (fun _=>rfl) (fun x4 qt=>?_)
  simp [ht,aa] at qt
  rw [bO qt] at j4
  cbv
  refine gI (by simp) ?_
  refine ai (fun h5=>?_) (fun h5=>?_)
  ·simp [ht] at h5
   cbv
   refine an trivial trivial rfl rfl rfl ?_
   (simp [ht];rintro rfl;simp_all;done)
  simp [ht] at h5
  cbv
  refine bf _ (by simp only [ht];rfl) (n-1) ?_ ((fe _ _).2 ?_)
  ·omega
  simp only [aa]
  refine ⟨k+1,aC (by omega),by omega,by omega,?_⟩
  (simp [Xe, *];done)
 simp [ht,aa,ar] at h2
 cbv
 refine an trivial trivial rfl rfl rfl ?_
 (simp [ht,j4,List.drop_eq_nil_of_le (show l.length≤k by omega),List.drop_eq_nil_of_le (show m.length≤k by omega)];done)
theorem zI (ht:TT t) (f g:Int) {l m:List bU} {es fs:List (List D)} (aF:es=l.map bU.cells) (qL:fs=m.map bU.cells) (hl:l.length<1000000000) (hm:m.length<1000000000):
 FC 56 [.agg [az f,SL es],.agg [az g,SL fs]] [] (.ret (bY (t _ fun _=>decide ((⟨f,l⟩:qG)=⟨g,m⟩)))) []:=by
 refine bC ht (aE:=[]) Tryz.func56 (c:=_) rfl rfl (N:=17) rfl (rs:=_) rfl (n:=0) rfl rfl ?_
 cbv
 have ar:es.length=l.length:=by rw [aF,List.length_map]
 have cD:fs.length=m.length:=by rw [qL,List.length_map]
 iterate 4 refine gI (by simp [ht]) ?_
 refine aM (fun g0=>⟨by simp [ht] at g0 ⊢;exact g0,trivial,OZ ht (by assumption) (by assumption) (by assumption) (by assumption)⟩) rfl rfl (fun r1 cX=>?_)
 simp only [ht] at cX
 cbv
 refine pI (by simp [ht]) ?_
 refine an trivial trivial rfl rfl rfl ?_
 (simp [*];done)
theorem Ct (ht:TT t) (f:Int) {l:List bU} {es:List (List D)} (aF:es=l.map bU.cells) (hf:f<18446744073709551616) (hl:l.length<1000000000) (hu:∀x∈l,x.round<18446744073709551616∧x.id<18446744073709551616) (hn:(jk ⟨f,l⟩).length<9223372036854775000):
 FC 76 [.agg [az f,SL es]] [] (.ret (tG (t _ fun _=>jk ⟨f,l⟩))) []:=by
 have C7:IntKind.u64.wrap (es.length:Int)=l.length:=by rw [bG,aF,List.length_map];omega
 have w10:∀u,(ej u).length≤10:=c6
 refine bC ht (aE:=[]) Tryz.func76 (c:=_) rfl rfl (N:=38) rfl (rs:=_) rfl (n:=0) rfl rfl ?_
 cbv
 have ar:es.length=l.length:=by rw [aF,List.length_map]
 refine bJ [false,false,false,false,false,false,false,true,true,true] (by kernel_rfl) (by kernel_rfl) ?_
 cbv
 iterate 2 refine gI (by simp) ?_
 refine .inl ?_
 refine aM (fun g0=>⟨trivial,trivial,cK ht _ (by assumption)⟩) rfl rfl (fun r1 cX=>?_)
 simp only [ht] at cX
 (try rw [C7] at cX)
 have Xy:(r1).length≤10:=by rw [cX];exact c6 _
 cbv
 iterate 4 refine gI (by simp) ?_
 refine ay trivial (cK ht _ (by (simp only [ht];((try simp only [aa] at*);omega)))) trivial rfl rfl (fun r2 cP=>?_)
 simp only [ht] at cP
 (try rw [C7] at cP)
 have Xv:(r2).length≤10:=by rw [cP];exact c6 _
 cbv
 refine ⟨?_,?_⟩
 ·(simp only [ht,aa] at*;omega)
 cbv
 obtain ⟨J3,FN⟩:∃J3:Nat→List UInt8×Int→Prop,∀n o i,J3 n (o,i)↔(∃k:Nat,i=k∧k+n=l.length∧jk ⟨f,l⟩=o++((l.drop k).map MV).flatten):=⟨fun n v=>match v with|(o,i)=>(∃k:Nat,i=k∧k+n=l.length∧jk ⟨f,l⟩=o++((l.drop k).map MV).flatten),fun _ _ _=>Iff.rfl⟩
 refine aZ ⟨[3,16,17,18],[],[]⟩ (σ:=List UInt8×Int) (fun v=>[(3,.d (.str (t _ fun _=>v.1))),(18,.d (.int .i64 (t _ fun _=>v.2)))]) (fun v=>[]) J3 ?_
 cbv
 refine aA ⟨l.length,(_,_),(FN _ _ _).2 ?_,by simp only [ht];rfl,?_⟩
 ·exact ⟨0,rfl,by simp,by simp [jk, *]⟩
 rintro n ⟨o,i⟩ hj
 replace hj:=(FN _ _ _).1 hj
 obtain ⟨k,rfl,j1,j4⟩:=hj
 cbv
 refine ai (fun h4=>?_) (fun h4=>?_)
 ·simp [ht,aa,ar] at h4
  cbv
  refine dg ht aF (cT:=bU.aH t) (by (simp only [ht,aa];omega)) (by (simp only [ht,aa];omega)) (fun _=>rfl) (fun _=>rfl) (fun x5 Ot=>?_)
  simp [ht,aa] at Ot
  rw [kG Ot,MV] at j4
  have oe:=congrArg List.length j4
  simp only [List.length_append] at oe
  obtain ⟨Pu,hu2⟩:=hu _ (List.mem_of_getElem? Ot)
  cbv
  refine bJ [false,false,false,false,false,false,false,false,false,false,false,false,false,true,true] (by kernel_rfl) (by kernel_rfl) ?_
  cbv
  iterate 3 refine gI (by simp) ?_
  refine .inl ?_
  refine aM (fun g6=>⟨trivial,trivial,cK ht _ (by assumption)⟩) rfl rfl (fun r7 gL=>?_)
  simp only [ht] at gL
  (try rw [C7] at gL)
  have RQ:(r7).length≤10:=by rw [gL];exact c6 _
  cbv
  iterate 2 refine gI (by simp) ?_
  refine .inl ?_
  refine aM (fun g8=>⟨trivial,trivial,cK ht _ (by assumption)⟩) rfl rfl (fun r9 dN=>?_)
  simp only [ht] at dN
  (try rw [C7] at dN)
  have Xx:(r9).length≤10:=by rw [dN];exact c6 _
  cbv
  refine gI (by simp [ht];omega) ?_
  iterate 3 refine gI (by simp) ?_
  refine .inl ?_
  refine aM (fun g10=>⟨trivial,trivial,cK ht _ (by (simp only [ht,bG];((try simp only [aa] at*);omega)))⟩) rfl rfl (fun Yn pZ=>?_)
  simp only [ht] at pZ
  (try rw [C7] at pZ)
  have V1:(Yn).length≤10:=by rw [pZ];exact c6 _
  cbv
  refine gI (by simp [ht];omega) ?_
  refine ⟨?_,?_⟩
  ·(simp [ht];omega)
  cbv
  refine bf (_,_) (by simp only [ht];rfl) (n-1) ?_ ((FN _ _ _).2 ?_)
  ·omega
  simp only [aa]
  exact ⟨k+1,aC (by ((try simp only [aa] at*);omega)),by ((try simp only [aa] at*);omega),by rw [j4];simp only [u64,←bG];simp [*]⟩
 simp [ht,aa,ar] at h4
 cbv
 refine an trivial trivial rfl rfl rfl ?_
 (rw [List.drop_eq_nil_of_le (by ((try simp only [aa] at*);omega)),List.map_nil,List.flatten_nil,List.append_nil] at j4;simp only [ht,j4];done)
end Dem
end
section
open Go Dem Go.Proofs
namespace Dem
variable {t:Th}
def Sj (z:Int):List D:=[.int .i64 z]
theorem O0 {x:Ask} (h:cR x=0):mX x.path x.path=true∧(1≤x.count∧x.count≤8)∧(0≤x.prio∧x.prio≤9)∧(1≤x.dS∧x.dS≤100)∧pP x.b9=true∧(cW x).2=true:=by
 unfold cR Q3 at h
 split at h;· cases h
 split at h;· cases h
 split at h;· cases h
 split at h;· cases h
 simp_all
theorem U4 (ht:TT t) (p:aD) (a b c d n pr tk:Int) {sl:List Term} {sr:List (List D)} (V2:sr=sl.map Term.cells) (fR:(⟨p,⟨a,b,c,d⟩,n,pr,tk,sl⟩:Ask).sm) (hn:(NO ⟨p,⟨a,b,c,d⟩,n,pr,tk,sl⟩).length<9223372036854775000):
 FC 75 [.agg [ST p,az a,az b,az c,az d,bq n,bq pr,bq tk,SL sr]] [] (.ret (tG (t _ fun _=>NO ⟨p,⟨a,b,c,d⟩,n,pr,tk,sl⟩))) []:=by
 obtain ⟨h1,h2,h3,h4⟩:=id fR
 simp only at h1 h2 h3 h4
 have hu:(⟨a,b,c,d⟩:bz).u:=⟨h2.1.2,h2.2.1.2,h2.2.2.1.2,h2.2.2.2.2⟩
 obtain ⟨nl,GU⟩:∃nl:List Int,nl=[n,pr,tk]:=⟨_,rfl⟩
 have aco:nl.length=3:=by rw [GU];rfl
 obtain ⟨ck,SX⟩:∃ck,ck=cR ⟨p,⟨a,b,c,d⟩,n,pr,tk,sl⟩:=⟨_,rfl⟩
 obtain ⟨ap,hap⟩:∃ap,ap=NO ⟨p,⟨a,b,c,d⟩,n,pr,tk,sl⟩:=⟨_,rfl⟩
 have hno:¬ck=0→ap=[]:=fun h=>by rw [hap,NO,if_pos (by rw [←SX];exact h)]
 have XU:ck=0→ap=bH p++CX ⟨a,b,c,d⟩++(nl.map ej).flatten++BD sl∧∀z∈nl,0≤z∧z<1000:=fun h=>by
  have ok:=O0 (SX.symm.trans h)
  simp only at ok
  refine ⟨by rw [hap,NO,if_neg (by rw [←SX,h];simp),GU];simp,?_⟩
  rw [GU];intro z hz;simp at hz;rcases hz with rfl|rfl|rfl<;>omega
 rw [←hap] at hn ⊢
 have Wm:ck=0→(BD sl).length<9223372036854775000:=fun h=>by
  have:=congrArg List.length (XU h).1
  simp only [List.length_append] at this;omega
 refine bC ht (aE:=[]) Tryz.func75 (c:=_) rfl rfl (N:=39) rfl (rs:=_) rfl (n:=0) rfl rfl ?_
 cbv
 have eI:sr.length=sl.length:=by rw [V2,List.length_map]
 refine ay trivial (oO ht _ _ _ _ _ _ _ _ (by assumption) (by assumption)) trivial rfl rfl (fun r0 bE=>?_)
 simp only [ht] at bE
 rw [←SX] at bE
 subst r0
 cbv
 refine ai (fun h1=>?_) (fun h1=>?_)
 ·simp [ht] at h1
  cbv
  refine an trivial trivial rfl rfl rfl ?_
  (simp_all;done)
 simp [ht] at h1
 cbv
 refine bJ [false,false,false,false,false,true,true,true] (by kernel_rfl) (by kernel_rfl) ?_
 cbv
 iterate 2 refine gI (by simp) ?_
 refine .inl ?_
 refine aM (fun g2=>⟨trivial,trivial,dP ht _ (by omega)⟩) rfl rfl (fun r3 gH=>?_)
 simp only [ht] at gH
 have acp:(r3).length=(ej p.length).length+p.length:=by rw [gH,bH,List.length_append]
 cbv
 iterate 2 refine gI (by simp) ?_
 refine ay trivial (tg ht _ _ _ _ (by assumption)) trivial rfl rfl (fun r4 dO=>?_)
 simp only [ht] at dO
 have ZM:(r4).length≤40:=by rw [dO];exact BI _
 cbv
 refine ⟨?_,?_⟩
 ·(simp only [ht];grind)
 cbv
 obtain ⟨J5,RP⟩:∃J5:Nat→List UInt8×Int→Prop,∀m o i,J5 m (o,i)↔(∃k:Nat,i=k∧k+m=3∧ap=o++((nl.drop k).map ej).flatten++BD sl):=⟨fun m v=>match v with|(o,i)=>(∃k:Nat,i=k∧k+m=3∧ap=o++((nl.drop k).map ej).flatten++BD sl),fun _ _ _=>Iff.rfl⟩
 refine aZ ⟨[1,3,22,23,24],[],[]⟩ (σ:=List UInt8×Int) (fun v=>[(3,.d (.str (t _ fun _=>v.1))),(24,.d (.int .i64 (t _ fun _=>v.2)))]) (fun v=>[]) J5 ?_
 cbv
 refine aA ⟨3,(_,_),(RP _ _ _).2 ?_,by simp only [ht];rfl,?_⟩
 ·(refine ⟨0,rfl,rfl,?_⟩;rw [(XU (by assumption)).1,gH,dO];simp)
 rintro m ⟨o,i⟩ hj
 replace hj:=(RP _ _ _).1 hj
 obtain ⟨k,rfl,j1,j4⟩:=hj
 cbv
 refine ai (fun h6=>?_) (fun h6=>?_)
 ·simp [ht,aa] at h6
  cbv
  (simp only [aa] at h6;refine dg ht (l:=nl) (cells:=Sj) (cT:=Sj) (by rw [GU];rfl) (by simp only [ht,aa];omega) (by simp only [ht,aa,aco];omega) (fun _=>rfl) (fun _=>rfl) (fun xn RX=>?_);simp only [ht] at RX;replace RX:nl[k]?=some xn:=RX;rw [kG RX] at j4;have oe:=congrArg List.length j4;simp at oe;obtain ⟨z1,z2⟩:=(XU (by assumption)).2 xn (List.mem_of_getElem? RX);have hzw:IntKind.u64.wrap xn=xn:=(by rw [bG];omega))
  cbv
  refine ay trivial (cK ht _ (by (simp only [ht];((try simp only [aa] at*);omega)))) trivial rfl rfl (fun r7 gL=>?_)
  simp only [ht] at gL
  have RQ:=congrArg List.length gL
  (try rw [hzw] at gL)
  cbv
  refine ⟨?_,?_⟩
  ·(simp only [ht];grind)
  cbv
  refine bf (_,_) (by simp only [ht];rfl) (m-1) ?_ ((RP _ _ _).2 ?_)
  ·((try simp only [aa] at*);omega)
  simp only [aa]
  exact ⟨k+1,aC (by ((try simp only [aa] at*);omega)),by ((try simp only [aa] at*);omega),by rw [j4];simp [*]⟩
 simp [ht,aa] at h6
 cbv
 refine ay trivial (UI ht (by assumption) (by assumption) (by assumption) (by omega)) trivial rfl rfl (fun r8 qy=>?_)
 simp only [ht] at qy
 have ZO:=congrArg List.length qy
 cbv
 refine ⟨?_,?_⟩
 ·(simp only [ht];grind)
 cbv
 refine an trivial trivial rfl rfl rfl ?_
 (simp only [ht];grind)
end Dem
end
section
open Go Dem Go.Proofs
namespace Dem
variable {t:Th}
theorem U5 (ht:TT t) {l:List aR} {es:List (List D)} (aF:es=l.map aR.cells) (hl:l.length<1000000000) (hu:∀x∈l,x.dc.u∧x.used.u) (hn:(Ih l).length<9223372036854775000):
 FC 74 [SL es] [] (.ret (tG (t _ fun _=>Ih l))) []:=by
 have C7:IntKind.u64.wrap (es.length:Int)=l.length:=by rw [bG,aF,List.length_map];omega
 refine bC ht (aE:=[]) Tryz.func74 (c:=_) rfl rfl (N:=31) rfl (rs:=_) rfl (n:=0) rfl rfl ?_
 cbv
 have ar:es.length=l.length:=by rw [aF,List.length_map]
 refine ay trivial (cK ht _ (by (simp only [ht];((try simp only [aa] at*);omega)))) trivial rfl rfl (fun r0 bE=>?_)
 simp only [ht] at bE
 (try rw [C7] at bE)
 have Xs:=congrArg List.length bE
 cbv
 obtain ⟨J1,fe⟩:∃J1:Nat→List UInt8×Int→Prop,∀n o i,J1 n (o,i)↔(∃k:Nat,i=k∧k+n=l.length∧Ih l=o++((l.drop k).map MJ).flatten):=⟨fun n v=>match v with|(o,i)=>(∃k:Nat,i=k∧k+n=l.length∧Ih l=o++((l.drop k).map MJ).flatten),fun _ _ _=>Iff.rfl⟩
 refine aZ ⟨[3,10,11,12],[],[]⟩ (σ:=List UInt8×Int) (fun v=>[(3,.d (.str (t _ fun _=>v.1))),(12,.d (.int .i64 (t _ fun _=>v.2)))]) (fun v=>[]) J1 ?_
 cbv
 refine aA ⟨l.length,(_,_),(fe _ _ _).2 ?_,by simp only [ht];rfl,?_⟩
 ·exact ⟨0,rfl,by simp,by simp [Ih, *]⟩
 rintro n ⟨o,i⟩ hj
 replace hj:=(fe _ _ _).1 hj
 obtain ⟨k,rfl,j1,j4⟩:=hj
 cbv
 refine ai (fun h2=>?_) (fun h2=>?_)
 ·simp [ht,aa,ar] at h2
  cbv
  refine dg ht aF (cT:=aR.aH t) (by (simp only [ht,aa];omega)) (by (simp only [ht,aa];omega)) (fun _=>rfl) (fun _=>rfl) (fun x3 ke=>?_)
  simp [ht,aa] at ke
  rw [kG ke,MJ] at j4
  have oe:=congrArg List.length j4
  simp only [List.length_append,bH] at oe
  obtain ⟨Pu,hu2⟩:=hu _ (List.mem_of_getElem? ke)
  clear ke
  obtain ⟨pp,⟨q1,q2,q3,q4⟩,⟨q5,q6,q7,q8⟩⟩:=x3
  simp only at oe
  cbv
  refine bJ [false,false,false,false,false,false,false,false,false,false,false,false,true,true] (by kernel_rfl) (by kernel_rfl) ?_
  cbv
  iterate 3 refine gI (by simp) ?_
  refine .inl ?_
  refine aM (fun g4=>⟨trivial,trivial,dP ht _ (by omega)⟩) rfl rfl (fun r5 jA=>?_)
  simp only [ht] at jA
  have Z6:=congrArg List.length jA
  simp only [bH,List.length_append] at Z6
  cbv
  iterate 2 refine gI (by simp) ?_
  refine .inl ?_
  refine aM (fun g6=>⟨trivial,trivial,tg ht _ _ _ _ (by assumption)⟩) rfl rfl (fun r7 gL=>?_)
  simp only [ht] at gL
  have RQ:=congrArg List.length gL
  cbv
  refine gI (by simp [ht];omega) ?_
  iterate 2 refine gI (by simp) ?_
  refine .inl ?_
  refine aM (fun g8=>⟨trivial,trivial,tg ht _ _ _ _ (by assumption)⟩) rfl rfl (fun r9 dN=>?_)
  simp only [ht] at dN
  have Xx:=congrArg List.length dN
  cbv
  refine gI (by simp [ht];omega) ?_
  refine ⟨?_,?_⟩
  ·(simp [ht];omega)
  cbv
  refine bf (_,_) (by simp only [ht];rfl) (n-1) ?_ ((fe _ _ _).2 ?_)
  ·omega
  simp only [aa]
  exact ⟨k+1,aC (by ((try simp only [aa] at*);omega)),by ((try simp only [aa] at*);omega),by rw [j4];simp [*]⟩
 simp [ht,aa,ar] at h2
 cbv
 refine an trivial trivial rfl rfl rfl ?_
 (rw [List.drop_eq_nil_of_le (by omega)] at j4;simp [*];done)
end Dem
end
section
open Go Dem Go.Proofs
namespace Dem
variable {t:Th}
def F3 (s:cH):aD:=ej s.round++ej s.next++C3 s.aW++Ih s.tree++ej s.aI.length++(s.aI.map IC).flatten
theorem Jm (s:cH):m0 s=F3 s++jk s.ev++jk s.au:=rfl
theorem Sk (ht:TT t) (rd nx ef af:Int) {nl:List Node} {pl:List Place} {tl:List aR} {jl:List Jb} {ql:List bX} {el al:List bU} {ns ps ts js qs es cY:List (List D)} (gX:ns=nl.map Node.cells) (hps:ps=pl.map Place.cells) (hts:ts=tl.map aR.cells) (gi:js=jl.map Jb.cells) (fq:qs=ql.map bX.cells) (aF:es=el.map bU.cells) (has:cY=al.map bU.cells) (hrd:rd<18446744073709551616) (Xm:nx<18446744073709551616) (GU:nl.length<1000000000) (nQ:pl.length<1000000000) (afh:∀x∈nl,x.sm) (hnu:∀x∈nl,x.cap.u) (hpu:∀x∈pl,x.v.u∧x.bu<18446744073709551616)
 (htl:tl.length<1000000000) (htu:∀x∈tl,x.dc.u∧x.used.u) (hjl:jl.length<1000000) (hju:∀x∈jl,x.x.sm∧x.id<18446744073709551616) (hef:ef<18446744073709551616) (hel:el.length<1000000000) (heu:∀x∈el,x.round<18446744073709551616∧x.id<18446744073709551616)
 (haf:af<18446744073709551616) (hal:al.length<1000000000) (hau:∀x∈al,x.round<18446744073709551616∧x.id<18446744073709551616) (hn:(m0 ⟨rd,nx,⟨nl,pl⟩,tl,jl,ql,⟨ef,el⟩,⟨af,al⟩⟩).length<9223372036854775000):
 FC 24 [.agg [az rd,az nx,SL ns,SL ps,SL ts,SL js,SL qs,az ef,SL es,az af,SL cY]] [] (.ret (tG (t _ fun _=>m0 ⟨rd,nx,⟨nl,pl⟩,tl,jl,ql,⟨ef,el⟩,⟨af,al⟩⟩))) []:=by
 have C7:IntKind.u64.wrap (js.length:Int)=jl.length:=by rw [bG,gi,List.length_map];omega
 obtain ⟨z,hz⟩:∃z,z=F3 ⟨rd,nx,⟨nl,pl⟩,tl,jl,ql,⟨ef,el⟩,⟨af,al⟩⟩:=⟨_,rfl⟩
 have CR:=hn
 rw [Jm,←hz] at CR
 simp only [List.length_append] at CR
 have hz1:=congrArg List.length hz
 simp only [F3,List.length_append] at hz1
 have hn2:(C3 ⟨nl,pl⟩).length<9223372036854775000:=by omega
 have hn3:(Ih tl).length<9223372036854775000:=by omega
 have hn4:(jk ⟨ef,el⟩).length<9223372036854775000:=by omega
 have hn5:(jk ⟨af,al⟩).length<9223372036854775000:=by omega
 refine bC ht (aE:=[]) Tryz.func24 (c:=_) rfl rfl (N:=58) rfl (rs:=_) rfl (n:=0) rfl rfl ?_
 cbv
 have fj:ns.length=nl.length:=by rw [gX,List.length_map]
 have fE:ps.length=pl.length:=by rw [hps,List.length_map]
 have fZ:ts.length=tl.length:=by rw [hts,List.length_map]
 have dy:js.length=jl.length:=by rw [gi,List.length_map]
 have dM:qs.length=ql.length:=by rw [fq,List.length_map]
 have ar:es.length=el.length:=by rw [aF,List.length_map]
 have dU:cY.length=al.length:=by rw [has,List.length_map]
 refine bJ [false,false,false,false,false,false,false,false,false,false,false,false,false,false,false,false,false,false,false,false,true,true] (by kernel_rfl) (by kernel_rfl) ?_
 cbv
 iterate 2 refine gI (by simp) ?_
 refine .inl ?_
 refine aM (fun g0=>⟨trivial,trivial,cK ht _ (by assumption)⟩) rfl rfl (fun r1 cX=>?_)
 simp only [ht] at cX
 (try rw [C7] at cX)
 have Xy:=congrArg List.length cX
 cbv
 iterate 2 refine gI (by simp) ?_
 refine .inl ?_
 refine aM (fun g2=>⟨trivial,trivial,cK ht _ (by assumption)⟩) rfl rfl (fun r3 gH=>?_)
 simp only [ht] at gH
 (try rw [C7] at gH)
 have acp:=congrArg List.length gH
 cbv
 refine gI (by simp [ht];omega) ?_
 iterate 2 refine gI (by simp) ?_
 refine .inl ?_
 refine aM (fun g4=>⟨trivial,trivial,UG ht (by assumption) (by assumption) (by assumption) (by assumption) (by assumption) (by assumption) (by assumption) (by assumption)⟩) rfl rfl (fun r5 jA=>?_)
 simp only [ht] at jA
 have Z6:=congrArg List.length jA
 cbv
 refine gI (by simp [ht];omega) ?_
 iterate 2 refine gI (by simp) ?_
 refine .inl ?_
 refine aM (fun g6=>⟨trivial,trivial,U5 ht (by assumption) (by assumption) (by assumption) (by assumption)⟩) rfl rfl (fun r7 gL=>?_)
 simp only [ht] at gL
 have RQ:=congrArg List.length gL
 cbv
 refine gI (by simp [ht];omega) ?_
 iterate 4 refine gI (by simp) ?_
 refine .inl ?_
 refine aM (fun g8=>⟨trivial,trivial,cK ht _ (by (simp only [ht];((try simp only [aa] at*);omega)))⟩) rfl rfl (fun r9 dN=>?_)
 simp only [ht] at dN
 (try rw [C7] at dN)
 have Xx:=congrArg List.length dN
 cbv
 refine ⟨?_,?_⟩
 ·(simp [ht];omega)
 cbv
 obtain ⟨J10,XW⟩:∃J10:Nat→List UInt8×Int→Prop,∀n o i,J10 n (o,i)↔(∃k:Nat,i=k∧k+n=jl.length∧z=o++((jl.drop k).map IC).flatten):=⟨fun n v=>match v with|(o,i)=>(∃k:Nat,i=k∧k+n=jl.length∧z=o++((jl.drop k).map IC).flatten),fun _ _ _=>Iff.rfl⟩
 refine aZ ⟨[1,3,28,29,30],[],[]⟩ (σ:=List UInt8×Int) (fun v=>[(3,.d (.str (t _ fun _=>v.1))),(30,.d (.int .i64 (t _ fun _=>v.2)))]) (fun v=>[]) J10 ?_
 cbv
 refine aA ⟨jl.length,(_,_),(XW _ _ _).2 ?_,by simp only [ht];rfl,?_⟩
 ·exact ⟨0,rfl,by simp,by rw [hz];simp [F3, *]⟩
 rintro n ⟨o,i⟩ hj
 replace hj:=(XW _ _ _).1 hj
 obtain ⟨k,rfl,j1,j4⟩:=hj
 cbv
 refine ai (fun h11=>?_) (fun h11=>?_)
 ·simp [ht,aa,dy] at h11
  cbv
  refine dg ht gi (cT:=Jb.aH t) (by (simp only [ht,aa];omega)) (by (simp only [ht,aa];omega)) (fun _=>rfl) (fun _=>(by (simp only [ht,Jb.aH];rfl))) (fun x12 U6=>?_)
  simp [ht,aa] at U6
  rw [kG U6,IC] at j4
  have oe:=congrArg List.length j4
  simp only [List.length_append,u64,←bG] at oe
  obtain ⟨Pu,hu2⟩:=hju _ (List.mem_of_getElem? U6)
  clear U6
  obtain ⟨ji,⟨jq,⟨ja,jb,jc,jd⟩,jn,jp,jt,jB⟩,jr,jf⟩:=x12
  simp only at oe
  cbv
  refine bJ [false,false,false,false,false,false,false,false,false,false,false,false,false,true,true] (by kernel_rfl) (by kernel_rfl) ?_
  cbv
  iterate 3 refine gI (by simp) ?_
  refine .inl ?_
  refine aM (fun g13=>⟨trivial,trivial,cK ht _ (by assumption)⟩) rfl rfl (fun r14 wK=>?_)
  simp only [ht] at wK
  (try rw [C7] at wK)
  have ZP:=congrArg List.length wK
  cbv
  iterate 2 refine gI (by simp) ?_
  refine .inl ?_
  refine aM (fun g15=>⟨trivial,trivial,U4 ht _ _ _ _ _ _ _ _ (jH ht rfl) (by assumption) (by ((try simp only [aa] at*);omega))⟩) rfl rfl (fun r16 FO=>?_)
  simp only [ht] at FO
  have ZQ:=congrArg List.length FO
  cbv
  refine gI (by simp [ht];omega) ?_
  iterate 3 refine gI (by simp) ?_
  refine .inl ?_
  refine aM (fun g17=>⟨trivial,trivial,cK ht _ (by (simp only [ht,bG];((try simp only [aa] at*);omega)))⟩) rfl rfl (fun r18 Oa=>?_)
  simp only [ht] at Oa
  (try rw [C7] at Oa)
  have adS:=congrArg List.length Oa
  cbv
  refine gI (by simp [ht];omega) ?_
  refine ⟨?_,?_⟩
  ·(simp [ht];omega)
  cbv
  refine bf (_,_) (by simp only [ht];rfl) (n-1) ?_ ((XW _ _ _).2 ?_)
  ·omega
  simp only [aa]
  exact ⟨k+1,aC (by ((try simp only [aa] at*);omega)),by ((try simp only [aa] at*);omega),by rw [j4];simp only [u64,←bG];simp [*]⟩
 simp [ht,aa,dy] at h11
 cbv
 refine bJ [false,false,false,false,false,false,false,false,true,true] (by kernel_rfl) (by kernel_rfl) ?_
 cbv
 iterate 3 refine gI (by simp) ?_
 refine .inl ?_
 refine aM (fun g19=>⟨trivial,trivial,Ct ht _ (by assumption) (by assumption) (by assumption) (by assumption) (by assumption)⟩) rfl rfl (fun r20 Ob=>?_)
 simp only [ht] at Ob
 have adT:=congrArg List.length Ob
 cbv
 refine gI (by simp [ht];grind) ?_
 iterate 2 refine gI (by simp) ?_
 refine .inl ?_
 refine aM (fun g21=>⟨trivial,trivial,Ct ht _ (by assumption) (by assumption) (by assumption) (by assumption) (by assumption)⟩) rfl rfl (fun r22 Z7=>?_)
 simp only [ht] at Z7
 have adU:=congrArg List.length Z7
 cbv
 refine ⟨?_,?_⟩
 ·(simp only [ht];grind)
 cbv
 refine an trivial trivial rfl rfl rfl ?_
 (rw [List.drop_eq_nil_of_le (by ((try simp only [aa] at*);omega)),List.map_nil,List.flatten_nil,List.append_nil] at j4;simp only [ht,Jm,←hz,j4];simp [*];done)
end Dem
end
section
open Go
namespace Dem
deriving instance DecidableEq for cO
deriving instance DecidableEq for cH
deriving instance DecidableEq for bB
deriving instance DecidableEq for z8
def xA:Ask:=⟨[97],⟨2,0,0,0⟩,2,0,3,[]⟩
def xN:List Node:=[⟨[110,49],⟨4,9,9,9⟩,[⟨[122,111,110,101],[97]⟩],true⟩,⟨[110,50],⟨6,9,9,9⟩,[⟨[122,111,110,101],[98]⟩],true⟩,⟨[110,51],⟨8,9,9,9⟩,[],true⟩]
def xT:List aR:=[⟨[],⟨30,30,30,30⟩,⟨0,0,0,0⟩⟩,⟨[97],⟨6,20,20,20⟩,⟨0,0,0,0⟩⟩,⟨[97,47,98],⟨10,20,20,20⟩,⟨0,0,0,0⟩⟩,⟨[98],⟨14,20,20,20⟩,⟨0,0,0,0⟩⟩]
def xU:List aR:=[⟨[],⟨30,30,30,30⟩,⟨4,0,0,0⟩⟩,⟨[97],⟨6,20,20,20⟩,⟨4,0,0,0⟩⟩,⟨[97,47,98],⟨10,20,20,20⟩,⟨0,0,0,0⟩⟩,⟨[98],⟨14,20,20,20⟩,⟨0,0,0,0⟩⟩]
def xP:List Place:=[⟨1,[110,49],⟨2,0,0,0⟩⟩,⟨1,[110,49],⟨2,0,0,0⟩⟩]
def xJ:List Jb:=[⟨1,xA,false,0⟩]
def xR:List Jb:=[⟨1,xA,true,3⟩]
def xQ:List bX:=[⟨1,0⟩]
def Z8:List bU:=[⟨0,1,1⟩]
def V5:List bU:=[⟨0,1,1⟩,⟨0,1,2⟩]
def xE3:List bU:=[⟨0,1,1⟩,⟨0,1,2⟩,⟨0,1,5⟩]
def xE4:List bU:=[⟨0,1,1⟩,⟨0,1,2⟩,⟨0,1,3⟩]
def xW:List aR:=[⟨[],bz.zero,bz.zero⟩]
theorem xf0:kU 0=⟨0,1,⟨xN,[]⟩,xT,[],[],⟨0,[]⟩,⟨0,[]⟩⟩:=by decide+kernel
theorem xfn:T7=⟨0,1,⟨[],[]⟩,xW,[],[],⟨0,[]⟩,⟨0,[]⟩⟩:=by decide+kernel
theorem xf1:eA ⟨0,1,⟨[],[]⟩,xW,[],[],⟨0,[]⟩,⟨0,[]⟩⟩ ⟨[97],⟨2,0,0,0⟩,2,0,3,[]⟩=(⟨0,1,⟨[],[]⟩,xW,[],[],⟨0,[]⟩,⟨0,[]⟩⟩,0,7):=by decide+kernel
theorem xf2:eA ⟨0,1,⟨xN,[]⟩,xT,[],[],⟨0,[]⟩,⟨0,[]⟩⟩ ⟨[97],⟨2,0,0,0⟩,2,0,3,[]⟩=(⟨0,2,⟨xN,[]⟩,xT,xJ,xQ,⟨0,Z8⟩,⟨0,[]⟩⟩,1,0):=by decide+kernel
theorem xf3:cw ⟨0,2,⟨xN,[]⟩,xT,xJ,xQ,⟨0,Z8⟩,⟨0,[]⟩⟩ 1 [[110,49],[110,49]]=(⟨0,2,⟨xN,xP⟩,xU,xR,[],⟨0,V5⟩,⟨0,[]⟩⟩,0):=by decide+kernel
theorem xf4:cw ⟨0,2,⟨xN,xP⟩,xU,xR,[],⟨0,V5⟩,⟨0,[]⟩⟩ 1 []=(⟨0,2,⟨xN,xP⟩,xU,xR,[],⟨0,V5⟩,⟨0,[]⟩⟩,15):=by decide+kernel
theorem xf5:cw ⟨0,2,⟨xN,[]⟩,xT,xJ,xQ,⟨0,Z8⟩,⟨0,[]⟩⟩ 9 []=(⟨0,2,⟨xN,[]⟩,xT,xJ,xQ,⟨0,Z8⟩,⟨0,[]⟩⟩,7):=by decide+kernel
theorem xf6:jJ ⟨0,2,⟨xN,xP⟩,xU,xR,[],⟨0,V5⟩,⟨0,[]⟩⟩ 1 5=(⟨0,2,⟨xN,[]⟩,xT,xJ,xQ,⟨0,xE3⟩,⟨0,[]⟩⟩,0):=by decide+kernel
theorem xf7:send ⟨0,2,⟨xN,xP⟩,xU,xR,[],⟨0,V5⟩,⟨0,[]⟩⟩ 1 3=(⟨0,2,⟨xN,[]⟩,xT,[],[],⟨0,xE4⟩,⟨0,[]⟩⟩,0):=by decide+kernel
theorem xf8:lA xU []=(⟨[],⟨30,30,30,30⟩,⟨4,0,0,0⟩⟩,true):=by decide+kernel
theorem xf9:eH xR 1=(⟨1,xA,true,3⟩,true):=by decide+kernel
theorem acs:tU ⟨0,xE4⟩ 1=([⟨0,1,2⟩,⟨0,1,3⟩],3):=by decide+kernel
def xB:cH:=⟨0,2,⟨xN,xP⟩,xU,xR,[],⟨0,V5⟩,⟨0,[]⟩⟩
theorem xg1:bD (m0 xB) 0=⟨0,1,true⟩:=by decide+kernel
theorem xg2:bD (m0 xB) 1=⟨2,2,true⟩:=by decide+kernel
theorem xg3:Ib (m0 xB) 2=⟨⟨xN,xP⟩,61,true⟩:=by decide+kernel
theorem xg4:BJ (m0 xB) 61=⟨xU,103,true⟩:=by decide+kernel
theorem xg5:bD (m0 xB) 103=⟨1,104,true⟩:=by decide+kernel
theorem xg6:kB (m0 xB) (1:Int).toNat [] 104=some (xR,116):=by decide+kernel
theorem xg7:lm (m0 xB) 116=some (⟨0,V5⟩,124):=by decide+kernel
theorem xg8:lm (m0 xB) 124=some (⟨0,[]⟩,126):=by decide+kernel
theorem xgl:(m0 xB).length=126:=by decide+kernel
theorem xr1:gq xB=true:=by decide+kernel
theorem xr2:gq ⟨0,0,⟨[],[]⟩,[],[],[],⟨0,[]⟩,⟨0,[]⟩⟩=false:=by decide+kernel
theorem xs1:wz xB xB=true:=by decide+kernel
theorem XX:xA.sm:=⟨by decide,by decide,by decide,by intro m hm;cases hm⟩
theorem Z9:∀x∈xN,x.sm:=by
 intro x hx;simp only [xN,List.mem_cons,List.not_mem_nil,or_false] at hx
 rcases hx with rfl|rfl|rfl<;>refine ⟨by decide,by decide,?_⟩<;>intro p hp<;>simp only [List.mem_cons,List.not_mem_nil,or_false] at hp<;>first|(subst hp;exact ⟨by decide,by decide⟩)|cases hp
theorem xNl:∀x∈xN,x.labels.length<1000000000:=by decide+kernel
theorem xNu:∀x∈xN,x.cap.u:=by
 intro x hx;simp only [xN,List.mem_cons,List.not_mem_nil,or_false] at hx
 rcases hx with rfl|rfl|rfl<;>exact ⟨by decide,by decide,by decide,by decide⟩
theorem xPu:∀x∈xP,x.v.u∧x.bu<18446744073709551616:=by
 intro x hx;simp only [xP,List.mem_cons,List.not_mem_nil,or_false] at hx
 rcases hx with rfl|rfl<;>exact ⟨⟨by decide,by decide,by decide,by decide⟩,by decide⟩
theorem xUu:∀x∈xU,x.dc.u∧x.used.u:=by
 intro x hx;simp only [xU,List.mem_cons,List.not_mem_nil,or_false] at hx
 rcases hx with rfl|rfl|rfl|rfl<;>exact ⟨⟨by decide,by decide,by decide,by decide⟩,by decide,by decide,by decide,by decide⟩
theorem xUp:∀x∈xU,x.path.length<1000000000000:=by decide+kernel
theorem XY:∀x∈xR,x.x.sm:=by intro x hx;rw [List.mem_singleton.1 hx];exact XX
theorem xJw:∀x∈xJ,x.x.fQ.u'∧x.x.path.length<1000000000000:=by decide+kernel
theorem xRw:∀x∈xR,x.x.fQ.u'∧x.x.path.length<1000000000000:=by decide+kernel
theorem acu:xB.sm:=⟨⟨by decide,Z9⟩,by decide,⟨by decide,xUp⟩,⟨by decide,fun x hx=>⟨XY x hx,by rw [List.mem_singleton.1 hx];decide,by rw [List.mem_singleton.1 hx];decide⟩⟩,by decide,by decide,by decide⟩
theorem acv:(⟨0,0,⟨[],[]⟩,[],[],[],⟨0,[]⟩,⟨0,[]⟩⟩:cH).sm:=⟨⟨by decide,by intro x hx;cases hx⟩,by decide,⟨by decide,by intro x hx;cases hx⟩,⟨by decide,by intro x hx;cases hx⟩,by decide,by decide,by decide⟩
end Dem
end
section
open Go Dem Go.Proofs
namespace Dem
variable {t:Th}
theorem Yp (a:Nat):(a:Int).tmod 5=((a%5:Nat):Int):=by rw [Int.tmod_eq_emod_of_nonneg (by omega)];rfl
end Dem
end
