/- Parts of a proof, joined. -/
import Derived.Test.YtjnbpclolnmimaaGreatDoorK23
set_option linter.all false
set_option maxRecDepth 100000
set_option maxHeartbeats 4000000
section
open Go Dem Go.Proofs
namespace Dem
variable {t:Th}
theorem N9 (ht:TT t) (rd nx ef af:Int) (ns ps ts js qs es' dm:List (List D)) {l:List (aQ)} {es:List (List D)} (aD:es=l.map aQ.cells) (f:Nat) (p:aQ→Bool) (hl:l.length<9223372036854775807)
 (hf:∀x∈l,FC f [.agg [ST x.path,ax x.c6.a,ax x.c6.b,ax x.c6.c,ax x.c6.d,ax x.used.a,ax x.used.b,ax x.used.c,ax x.used.d],.ptr 0 0] [.var [ax rd,ax nx,SL ns,SL ps,SL ts,SL js,SL qs,ax ef,SL es',ax af,SL dm]] (.ret (BL (p x))) [.var [ax rd,ax nx,SL ns,SL ps,SL ts,SL js,SL qs,ax ef,SL es',ax af,SL dm]]) {r:Int} (hr:r=idxOf p l):FC 90 [SL es,.fn f [.ptr 0 0]] [.var [ax rd,ax nx,SL ns,SL ps,SL ts,SL js,SL qs,ax ef,SL es',ax af,SL dm]] (.ret (bc r)) [.var [ax rd,ax nx,SL ns,SL ps,SL ts,SL js,SL qs,ax ef,SL es',ax af,SL dm]]:=by
 have hel:es.length=l.length:=by rw [aD,lgM]
 obtain ⟨J,hJ⟩:∃J:Nat→Nat→Prop,∀n v,J n v↔(v+n=l.length∧∀i<v,∀x,l[i]?=some x→p x=false):=⟨fun n v=>v+n=l.length∧∀i<v,∀x,l[i]?=some x→p x=false,fun _ _=>Iff.rfl⟩
 refine bA ht (aB:=[.var [ax rd,ax nx,SL ns,SL ps,SL ts,SL js,SL qs,ax ef,SL es',ax af,SL dm]]) Tryz.func90 rfl rfl (N:=19) rfl rfl (n:=1) rfl rfl ?_
 cbv
 refine bg ⟨[0,1,7,8],[],[]⟩ (σ:=Nat) (fun k=>[(8,bc (t _ fun _=>(k:Int)))]) (fun _=>[]) J ?_
 cbv
 refine aC ⟨l.length,0,(hJ _ _).2 ⟨by omega,by intro i hi;simp at hi⟩,by simp only [ht];rfl,?_⟩
 rintro n k hj
 obtain ⟨h2,h3⟩:=(hJ _ _).1 hj
 clear hj
 cbv
 refine ai (fun h=>?_) (fun h=>?_)
 ·simp only [ht,aa,decide_eq_true_eq] at h
  have hk:k<l.length:=by omega
  obtain ⟨x,hx⟩:∃x,l[k]?=some x:=⟨l[k],by simp⟩
  have nO:x∈l:=List.mem_of_getElem? hx
  have gS:=hf x nO
  obtain ⟨px,hpx⟩:∃b,b=p x:=⟨_,rfl⟩
  rw [←hpx] at gS
  obtain ⟨nm,⟨a,b,c,d⟩,⟨e,g,u,v⟩⟩:=x
  cbv
  refine iq [.str nm,.int .u64 a,.int .u64 b,.int .u64 c,.int .u64 d,.int .u64 e,.int .u64 g,.int .u64 u,.int .u64 v] ?_ ?_ ?_
  ·simp only [ht,aa];refine ⟨by omega,h,?_⟩;rw [aD];intro r hr;obtain ⟨y,_,rfl⟩:=List.mem_map.1 hr;rfl
  ·simp [ht,aa,aD,hx]
  cbv
  refine de trv gS ?_
  cbv
  refine ai (fun hb=>?_) (fun hb=>?_)
  ·cbv
   refine ak trv trv rfl rfl rfl ?_
   have e:=cO hx (hpx▸hb) h3
   simp only [ht,aa,hr,idxOf,e]
  cbv
  refine aC ⟨n-1,k+1,⟨by omega,(hJ _ _).2 ⟨by omega,?_⟩⟩,?_⟩
  ·intro i hi y hy
   by_cases hik:i<k
   ·exact h3 i hik y hy
   have:i=k:=by omega
   subst this;rw [hx] at hy;cases hy;rw [←hpx];exact hb
  simp only [ht,aa,aE (show k<9223372036854775807 by omega)];rfl
 simp only [ht,aa,decide_eq_false_iff_not] at h
 have hk:¬k<l.length:=by omega
 clear h
 cbv
 refine ak trv trv rfl rfl rfl ?_
 rw [hr,idxOf,cR]
 intro i y hy
 have:i<l.length:=by
  rcases Nat.lt_or_ge i l.length with h'|h';· exact h'
  simp [List.getElem?_eq_none h'] at hy
 exact h3 i (by omega) y hy
theorem Oa (ht:TT t) (rd nx ef af:Int) (ns ps ts js qs es' dm:List (List D)) {l:List (aQ)} {es:List (List D)} (aD:es=l.map aQ.cells) (f:Nat) (p:aQ→Bool) (hl:l.length<9223372036854775807)
 (hf:∀x∈l,FC f [.agg [ST x.path,ax x.c6.a,ax x.c6.b,ax x.c6.c,ax x.c6.d,ax x.used.a,ax x.used.b,ax x.used.c,ax x.used.d],.ptr 0 0] [.var [ax rd,ax nx,SL ns,SL ps,SL ts,SL js,SL qs,ax ef,SL es',ax af,SL dm]] (.ret (BL (p x))) [.var [ax rd,ax nx,SL ns,SL ps,SL ts,SL js,SL qs,ax ef,SL es',ax af,SL dm]]) {r:Bool} (hr:r=l.any p):FC 45 [SL es,.fn f [.ptr 0 0]] [.var [ax rd,ax nx,SL ns,SL ps,SL ts,SL js,SL qs,ax ef,SL es',ax af,SL dm]] (.ret (BL r)) [.var [ax rd,ax nx,SL ns,SL ps,SL ts,SL js,SL qs,ax ef,SL es',ax af,SL dm]]:=by
 obtain ⟨k,hk⟩:∃k,k=idxOf p l:=⟨_,rfl⟩
 refine bA ht (aB:=[.var [ax rd,ax nx,SL ns,SL ps,SL ts,SL js,SL qs,ax ef,SL es',ax af,SL dm]]) Tryz.func45 rfl rfl (N:=9) rfl rfl (n:=1) rfl rfl ?_
 cbv
 refine de trv (N9 ht rd nx ef af ns ps ts js qs es' dm aD f p hl hf hk) ?_
 cbv
 refine ak trv trv rfl rfl rfl ?_
 simp only [ht,hr,eP,hk]
theorem K4 (ht:TT t) (rd nx ef af:Int) {nl:List Node} {pl:List Place} {tl:List aQ} {jl:List Jb} {ql:List bZ} {el al:List cF} {ns ps ts js qs es dm:List (List D)} (gR:ns=nl.map Node.cells) (hps:ps=pl.map Place.cells) (hts:ts=tl.map aQ.cells) (fU:js=jl.map Jb.cells) (fG:qs=ql.map bZ.cells) (aD:es=el.map cF.cells) (has:dm=al.map cF.cells) (p:aA) (a b c d e f g h:Int) (hjl:jl.length<1000000) (gD:∀x∈jl,x.x.path.length<1000000000000∧x.x.fZ.u') {r:Bool} (hr:r=!pU ⟨rd,nx,⟨nl,pl⟩,tl,jl,ql,⟨ef,el⟩,⟨af,al⟩⟩ ⟨p,⟨a,b,c,d⟩,⟨e,f,g,h⟩⟩):
 FC 46 [.agg [ST p,ax a,ax b,ax c,ax d,ax e,ax f,ax g,ax h],.ptr 0 0] [.var [ax rd,ax nx,SL ns,SL ps,SL ts,SL js,SL qs,ax ef,SL es,ax af,SL dm]] (.ret (BL r)) [.var [ax rd,ax nx,SL ns,SL ps,SL ts,SL js,SL qs,ax ef,SL es,ax af,SL dm]]:=by
 refine bA ht (aB:=[.var [ax rd,ax nx,SL ns,SL ps,SL ts,SL js,SL qs,ax ef,SL es,ax af,SL dm]]) Tryz.func46 rfl rfl (N:=8) rfl rfl (n:=1) rfl rfl ?_
 cbv
 have fc:ns.length=nl.length:=by rw [gR,lgM]
 have fA:ps.length=pl.length:=by rw [hps,lgM]
 have fT:ts.length=tl.length:=by rw [hts,lgM]
 have dj:js.length=jl.length:=by rw [fU,lgM]
 have dL:qs.length=ql.length:=by rw [fG,lgM]
 have av:es.length=el.length:=by rw [aD,lgM]
 have dP:dm.length=al.length:=by rw [has,lgM]
 refine ay trv (Rg ht _ _ _ _ ‹_› ‹_› ‹_› ‹_› ‹_› ‹_› ‹_› _ _ _ _ _ _ _ _ _ ‹_› ‹_›) trv rfl rfl (fun r0 bF=>?_)
 simp only [ht] at bF
 cbv
 refine ak trv trv rfl rfl rfl ?_
 (simp [*];done)
theorem Ob (ht:TT t) (rd nx ef af:Int) {nl:List Node} {pl:List Place} {tl:List aQ} {jl:List Jb} {ql:List bZ} {el al:List cF} {ns ps ts js qs es dm:List (List D)} (gR:ns=nl.map Node.cells) (hps:ps=pl.map Place.cells) (hts:ts=tl.map aQ.cells) (fU:js=jl.map Jb.cells) (fG:qs=ql.map bZ.cells) (aD:es=el.map cF.cells) (has:dm=al.map cF.cells) (htl:tl.length<100000) (hjl:jl.length<1000000) (gD:∀x∈jl,x.x.path.length<1000000000000∧x.x.fZ.u') {r:Bool} (hr:r=tl.any fun e=>!pU ⟨rd,nx,⟨nl,pl⟩,tl,jl,ql,⟨ef,el⟩,⟨af,al⟩⟩ e):
 FC 45 [SL ts,.fn 46 [.ptr 0 0]] [.var [ax rd,ax nx,SL ns,SL ps,SL ts,SL js,SL qs,ax ef,SL es,ax af,SL dm]] (.ret (BL r)) [.var [ax rd,ax nx,SL ns,SL ps,SL ts,SL js,SL qs,ax ef,SL es,ax af,SL dm]]:=
 Oa ht rd nx ef af ns ps ts js qs es dm hts 46 (fun e=>!pU ⟨rd,nx,⟨nl,pl⟩,tl,jl,ql,⟨ef,el⟩,⟨af,al⟩⟩ e) (by omega) (fun x _=>K4 ht rd nx ef af gR hps hts fU fG aD has x.path x.c6.a x.c6.b x.c6.c x.c6.d x.used.a x.used.b x.used.c x.used.d hjl gD rfl) hr
structure cJ.sm (s:cJ):Prop where
 nodes:s.bC.nodes.length<1000000∧∀x∈s.bC.nodes,x.sm
 places:s.bC.places.length<1000000
 tree:s.tree.length<100000∧∀x∈s.tree,x.path.length<1000000000000
 aL:s.aL.length<1000000∧∀x∈s.aL,x.x.sm∧(0≤x.id∧x.id<18446744073709551616)∧x.x.count<9223372036854775808
 queue:s.queue.length<1000000
 notes:s.ev.l.length<1000000∧s.au.l.length<1000000
theorem K5 {s:cJ} {k:Nat} {x:Jb} (hx:s.aL[k]?=some x):mN s (kV s.aL k) (s.aL.drop k)=(UN s (kV s.aL k) x&&mN s (kV s.aL (k+1)) (s.aL.drop (k+1))):=by
 rw [bV hx,mN]
 have:kV s.aL (k+1)=some x.id:=by simp [kV,hx]
 rw [this]
theorem Wr {s:cJ} (h:((((nH s.bC=false∨gP s.tree=false)∨nK s.queue=false)∨(32:Int)<(s.aL.length:Int))∨s.next<1)∨(32:Int)<max (s.ev.l.length:Int) (s.au.l.length:Int)):gH s=false:=by
 unfold gH
 rcases h with ((((h|h)|h)|h)|h)|h
 ·rw [h];rfl
 ·rw [h];split<;>rfl
 ·rw [h];split;rfl;split<;>rfl
 ·rw [if_pos (show 32<s.aL.length by omega)];split;rfl;split;rfl;split<;>rfl
 ·rw [if_pos h];split;rfl;split;rfl;split;rfl;split<;>rfl
 rw [if_pos (show 32<max s.ev.l.length s.au.l.length by omega)];split;rfl;split;rfl;split;rfl;split;rfl;split<;>rfl
theorem Ws {s:cJ} (h:mN s none s.aL=false):gH s=false:=by
 unfold gH
 rw [h];split;rfl;split;rfl;split;rfl;split;rfl;split;rfl;split<;>rfl
theorem Wt {a b c:Bool}:(bif (bif a then b else false) then c else false)=(a&&b&&c):=by cases a<;>cases b<;>rfl
theorem Wu {a b:Nat}:decide ((a:Int)=(b:Int))=decide (a=b):=by rw [decide_eq_decide];omega
theorem TO {s:cJ} (h:((((nH s.bC=true∧gP s.tree=true)∧nK s.queue=true)∧(s.aL.length:Int)≤(32:Int))∧1≤s.next)∧max (s.ev.l.length:Int) (s.au.l.length:Int)≤(32:Int)) (hj:mN s none s.aL=true):
 gH s=(decide (gA s.aL=s.queue.length)&&lF s&&!(s.tree.any fun e=>!pU s e)):=by
 obtain ⟨⟨⟨⟨⟨h1,h2⟩,h3⟩,h4⟩,h5⟩,h6⟩:=h
 unfold gH
 rw [h1,h2,h3,hj]
 simp only [Bool.not_true,Bool.false_eq_true,if_false]
 rw [if_neg (by omega),if_neg (by omega),if_neg (by omega)]
theorem pJ (ht:TT t) (rd nx ef af:Int) {nl:List Node} {pl:List Place} {tl:List aQ} {jl:List Jb} {ql:List bZ} {el al:List cF} {ns ps ts js qs es dm:List (List D)} (gR:ns=nl.map Node.cells) (hps:ps=pl.map Place.cells) (hts:ts=tl.map aQ.cells) (fU:js=jl.map Jb.cells) (fG:qs=ql.map bZ.cells) (aD:es=el.map cF.cells) (has:dm=al.map cF.cells) (hs:(⟨rd,nx,⟨nl,pl⟩,tl,jl,ql,⟨ef,el⟩,⟨af,al⟩⟩:cJ).sm):
 FC 14 [.agg [ax rd,ax nx,SL ns,SL ps,SL ts,SL js,SL qs,ax ef,SL es,ax af,SL dm]] [] (.ret (cu (t _ fun _=>gH ⟨rd,nx,⟨nl,pl⟩,tl,jl,ql,⟨ef,el⟩,⟨af,al⟩⟩))) []:=by
 obtain ⟨⟨s1,s2⟩,s3,⟨s4,s5⟩,⟨s6,s7⟩,s8,s9,Zy⟩:=id hs
 simp only at s1 s2 s3 s4 s5 s6 s7 s8 s9 Zy
 have s11:∀x∈jl,x.x.path.length<1000000000000∧x.x.fZ.u':=fun x hx=>⟨(s7 x hx).1.1,(s7 x hx).1.2.1⟩
 have s12:∀x∈jl,(0≤x.id∧x.id<18446744073709551616)∧x.x.count<9223372036854775808:=fun x hx=>⟨(s7 x hx).2.1,(s7 x hx).2.2⟩
 refine bA ht (aB:=[]) Tryz.func14 rfl rfl (N:=78) rfl rfl (n:=0) rfl rfl ?_
 cbv
 have fc:ns.length=nl.length:=by rw [gR,lgM]
 have fA:ps.length=pl.length:=by rw [hps,lgM]
 have fT:ts.length=tl.length:=by rw [hts,lgM]
 have dj:js.length=jl.length:=by rw [fU,lgM]
 have dL:qs.length=ql.length:=by rw [fG,lgM]
 have av:es.length=el.length:=by rw [aD,lgM]
 have dP:dm.length=al.length:=by rw [has,lgM]
 refine ay trv (DE ht ‹_› ‹_› (by omega) (by omega) ‹_›) trv rfl rfl (fun r0 bF=>?_)
 simp only [ht] at bF
 cbv
 iterate 2 refine gI (by simp [ht]) ?_
 refine aJ (fun g1=>⟨by simp [ht] at g1 ⊢;exact g1,trv,DP ht ‹_› ‹_› ‹_›⟩) rfl rfl (fun r2 cU=>?_)
 simp only [ht] at cU
 cbv
 refine gI (by simp [ht]) ?_
 refine pI (by simp [ht]) ?_
 iterate 2 refine gI (by simp [ht]) ?_
 refine aJ (fun g3=>⟨by simp [ht] at g3 ⊢;exact g3,trv,NU ht ‹_› ‹_›⟩) rfl rfl (fun r4 dV=>?_)
 simp only [ht] at dV
 cbv
 refine gI (by simp [ht]) ?_
 refine pI (by simp [ht]) ?_
 iterate 4 refine gI (by simp [ht]) ?_
 refine pI (by simp [ht]) ?_
 iterate 3 refine gI (by simp [ht]) ?_
 refine pI (by simp [ht]) ?_
 iterate 10 refine gI (by simp [ht]) ?_
 refine pI (by simp [ht]) ?_
 refine ai (fun h5=>?_) (fun h5=>?_)
 ·simp [ht,aa,dj,av,dP] at h5
  cbv
  refine ak trv trv rfl rfl rfl ?_
  (simp only [ht];rw [Wr (by simp only [←bF,←cU,←dV];exact h5)];done)
 simp [ht,aa,dj,av,dP] at h5
 cbv
 obtain ⟨J6,Ow⟩:∃J6:Nat→Int→Prop,∀n i,J6 n i↔(∃k:Nat,i=k∧k+n=jl.length∧mN ⟨rd,nx,⟨nl,pl⟩,tl,jl,ql,⟨ef,el⟩,⟨af,al⟩⟩ none jl=mN ⟨rd,nx,⟨nl,pl⟩,tl,jl,ql,⟨ef,el⟩,⟨af,al⟩⟩ (kV jl k) (jl.drop k)):=⟨fun n v=>match v with|i=>(∃k:Nat,i=k∧k+n=jl.length∧mN ⟨rd,nx,⟨nl,pl⟩,tl,jl,ql,⟨ef,el⟩,⟨af,al⟩⟩ none jl=mN ⟨rd,nx,⟨nl,pl⟩,tl,jl,ql,⟨ef,el⟩,⟨af,al⟩⟩ (kV jl k) (jl.drop k)),fun _ _=>Iff.rfl⟩
 refine bg ⟨[1,3,48,49,50],[],[]⟩ (σ:=Int) (fun v=>[(50,.d (.int .i64 (t _ fun _=>v)))]) (fun v=>[]) J6 ?_
 cbv
 refine aC ⟨jl.length,_,(Ow _ _).2 ?_,by simp only [ht];rfl,?_⟩
 ·exact ⟨0,rfl,by simp,rfl⟩
 rintro n i hj
 replace hj:=(Ow _ _).1 hj
 obtain ⟨k,rfl,j1,j4⟩:=hj
 cbv
 refine ai (fun h7=>?_) (fun h7=>?_)
 ·simp [ht,aa,dj] at h7
  cbv
  refine dS ht fU (cT:=Jb.aK t) (by (simp only [ht,aa];omega)) (by (simp only [ht,aa];omega)) (fun _=>rfl) (fun _=>(by (simp only [ht,Jb.aK];rfl))) (fun x8 mx8=>?_)
  simp [ht,aa] at mx8
  have j5:=K5 (s:=⟨rd,nx,⟨nl,pl⟩,tl,jl,ql,⟨ef,el⟩,⟨af,al⟩⟩) mx8
  simp only at j5
  rw [j5] at j4
  have sx8:=(s7 _ (List.mem_of_getElem? mx8)).1
  cbv
  refine ay trv (Wq ht _ _ _ _ ‹_› ‹_› ‹_› ‹_› ‹_› ‹_› ‹_› _ (by (simp only [ht];rfl)) ‹_› _ _ _ _ _ _ _ _ _ _ _ (jE ht rfl) ‹_› ‹_› ‹_› ‹_›) trv rfl rfl (fun r9 dz=>?_)
  simp only [ht] at dz
  (have e9:UN ⟨rd,nx,⟨nl,pl⟩,tl,jl,ql,⟨ef,el⟩,⟨af,al⟩⟩ (kV jl k) x8=r9:=(dz).symm;rw [e9] at j4)
  cbv
  refine ai (fun h10=>?_) (fun h10=>?_)
  ·simp [ht] at h10
   cbv
   refine ak trv trv rfl rfl rfl ?_
   (simp only [ht];rw [Ws (by rw [j4,h10];rfl)];done)
  simp [ht] at h10
  cbv
  refine bu _ (by simp only [ht];rfl) (n-1) ?_ ((Ow _ _).2 ?_)
  ·omega
  simp only [aa]
  exact ⟨k+1,aE (by omega),by omega,by rw [j4,h10];rfl⟩
 simp [ht,aa,dj] at h7
 cbv
 refine bS [false,false,false,false,false,true,true,true,true,true,true,false,false,false,true,true,true,true] (by kernel_rfl) (by kernel_rfl) ?_
 cbv
 refine gI (by simp) ?_
 refine .inl ?_
 refine aJ (fun g11=>⟨trv,trv,Rf ht _ _ _ _ ‹_› ‹_› ‹_› ‹_› ‹_› ‹_› ‹_› ‹_›⟩) rfl rfl (fun Wv oB=>?_)
 simp only [ht] at oB
 cbv
 iterate 3 refine gI (by simp) ?_
 refine gI (by simp [ht]) ?_
 refine aJ (fun g13=>⟨by simp [ht] at g13 ⊢;exact g13,trv,NZ ht _ _ _ _ ‹_› ‹_› ‹_› ‹_› ‹_› ‹_› ‹_› ‹_› ‹_› ‹_›⟩) rfl rfl (fun Zz vZ=>?_)
 simp only [ht] at vZ
 cbv
 refine pI (by simp [ht]) ?_
 iterate 3 refine gI (by simp [ht]) ?_
 (obtain ⟨r19,YQ⟩:∃r,r=tl.any (fun e=>!pU ⟨rd,nx,⟨nl,pl⟩,tl,jl,ql,⟨ef,el⟩,⟨af,al⟩⟩ e):=⟨_,rfl⟩;refine SI [true,false] [1] (fun g=>⟨⟨g,g,trv⟩,trv,Ob ht rd nx ef af gR hps hts fU fG aD has s4 s6 s11 YQ⟩) rfl rfl rfl (.inl rfl) rfl rfl rfl rfl ?_)
 cbv
 refine gI (by simp [ht]) ?_
 refine pI (by simp [ht]) ?_
 refine ak trv trv rfl rfl rfl ?_
 (rw [List.drop_eq_nil_of_le (by omega),mN] at j4;simp only [ht];rw [TO (by simp only [←bF,←cU,←dV];exact h5) j4];simp only [oB,vZ,YQ,dL,Wt,Wu];done)
theorem DQ (ht:TT t) {es:List (List D)} (hr:∀r∈es,r.length=12):FC 50 [SL es] [] (.ret (.cl es)) []:=by
 refine bA ht (aB:=[]) Tryz.func50 rfl rfl (N:=9) rfl rfl (n:=0) rfl rfl ?_
 cbv
 refine ⟨?_,PO trv rfl ?_⟩
 ·simp only [ht,aa,bQ];exact ⟨⟨⟨by omega,Int.le_refl _⟩,trv⟩,hr⟩
 simp [ht,aa,fX]
theorem Oc (ht:TT t) (rd nx ef af:Int) {nl:List Node} {pl:List Place} {tl:List aQ} {jl:List Jb} {ql:List bZ} {el al:List cF} {ns ps ts js qs es dm:List (List D)} (gR:ns=nl.map Node.cells) (hps:ps=pl.map Place.cells) (hts:ts=tl.map aQ.cells) (fU:js=jl.map Jb.cells) (fG:qs=ql.map bZ.cells) (aD:es=el.map cF.cells) (has:dm=al.map cF.cells) (ja jb jc jd jn jp jt:Int) (jq:aA) {gL:List Term} {pW:List (List D)} (jw:pW=gL.map Term.cells) (e0:List D) (er:List (List D)) (hj:js=e0::er) (hx:(⟨jq,⟨ja,jb,jc,jd⟩,jn,jp,jt,gL⟩:Ask).sm) (htl:tl.length<100000) (hjl:jl.length<1000000) (UU:ql.length<1000000) (hel:el.length<1000000):
 FC 16 [.agg [ax rd,ax nx,SL ns,SL ps,SL ts,SL js,SL qs,ax ef,SL es,ax af,SL dm],.agg [ST jq,ax ja,ax jb,ax jc,ax jd,bc jn,bc jp,bc jt,SL pW]] [] (.ret (Q6 t (t _ fun _=>bW ⟨rd,nx,⟨nl,pl⟩,tl,jl,ql,⟨ef,el⟩,⟨af,al⟩⟩ ⟨jq,⟨ja,jb,jc,jd⟩,jn,jp,jt,gL⟩))) []:=by
 subst hj
 obtain ⟨ck,RR⟩:∃ck,ck=cI ⟨jq,⟨ja,jb,jc,jd⟩,jn,jp,jt,gL⟩:=⟨_,rfl⟩
 obtain ⟨th,YR⟩:∃th,th=gz tl jq:=⟨_,rfl⟩
 obtain ⟨⟨q9,e9⟩,h9⟩:∃r,r=jF ql ⟨nx,jp⟩:=⟨_,rfl⟩
 have hS:bW ⟨rd,nx,⟨nl,pl⟩,tl,jl,ql,⟨ef,el⟩,⟨af,al⟩⟩ ⟨jq,⟨ja,jb,jc,jd⟩,jn,jp,jt,gL⟩=if ck≠0 then (⟨rd,nx,⟨nl,pl⟩,tl,jl,ql,⟨ef,el⟩,⟨af,al⟩⟩,0,ck) else if !th then (⟨rd,nx,⟨nl,pl⟩,tl,jl,ql,⟨ef,el⟩,⟨af,al⟩⟩,0,7) else if 32≤jl.length∨nx=18446744073709551615 then (⟨rd,nx,⟨nl,pl⟩,tl,jl,ql,⟨ef,el⟩,⟨af,al⟩⟩,0,9) else if e9≠0 then (⟨rd,nx,⟨nl,pl⟩,tl,jl,ql,⟨ef,el⟩,⟨af,al⟩⟩,0,e9) else
  (fR ⟨rd,IntKind.u64.wrap (nx+1),⟨nl,pl⟩,tl,jl++[⟨nx,⟨jq,⟨ja,jb,jc,jd⟩,jn,jp,jt,gL⟩,false,0⟩],q9,⟨ef,el⟩,⟨af,al⟩⟩ nx 1,nx,0):=by
  simp only [bW,←RR,←YR,←h9,u64,←bI]
 rw [hS]
 clear hS
 have hr:∀r∈e0::er,r.length=12:=by rw [fU];intro r hr;obtain ⟨y,_,rfl⟩:=List.mem_map.1 hr;rfl
 have hle:er.length+1=jl.length:=by have:=congrArg List.length fU;simpa using this
 obtain ⟨h1,h2,h3,h4⟩:=id hx
 simp only at h1 h2 h3 h4
 refine bA ht (aB:=[]) Tryz.func16 rfl rfl (N:=68) rfl rfl (n:=0) rfl rfl ?_
 cbv
 have fc:ns.length=nl.length:=by rw [gR,lgM]
 have fA:ps.length=pl.length:=by rw [hps,lgM]
 have fT:ts.length=tl.length:=by rw [hts,lgM]
 have dL:qs.length=ql.length:=by rw [fG,lgM]
 have av:es.length=el.length:=by rw [aD,lgM]
 have dP:dm.length=al.length:=by rw [has,lgM]
 have pG:pW.length=gL.length:=by rw [jw,lgM]
 refine ay trv (j9 ht _ _ _ _ _ _ _ _ ‹_› ‹_›) trv rfl rfl (fun r0 bF=>?_)
 simp only [ht] at bF
 rw [←RR] at bF
 subst r0
 cbv
 refine ai (fun h1=>?_) (fun h1=>?_)
 ·simp [ht] at h1
  cbv
  refine ak trv trv rfl rfl rfl ?_
  (simp only [ht];grind)
 simp [ht] at h1
 cbv
 refine ay trv (xe ht _ ‹_› (by omega) ‹_›) trv rfl rfl (fun r2 cU=>?_)
 simp only [ht] at cU
 rw [←YR] at cU
 subst r2
 cbv
 refine ai (fun h3=>?_) (fun h3=>?_)
 ·simp [ht] at h3
  cbv
  refine ak trv trv rfl rfl rfl ?_
  (simp only [ht];grind)
 simp [ht] at h3
 cbv
 iterate 3 refine gI (by simp [ht]) ?_
 refine pI (by simp [ht]) ?_
 refine ai (fun h4=>?_) (fun h4=>?_)
 ·simp [ht,aa] at h4
  cbv
  refine ak trv trv rfl rfl rfl ?_
  (simp only [ht];grind)
 simp [ht,aa] at h4
 cbv
 refine aU trv (BJ ht _ _ ‹_› ‹_›) trv rfl rfl rfl (fun r5 jh=>?_)
 simp only [ht] at jh
 rw [←h9] at jh
 subst r5
 cbv
 refine ai (fun h6=>?_) (fun h6=>?_)
 ·simp [ht] at h6
  cbv
  refine ak trv trv rfl rfl rfl ?_
  (simp only [ht];grind)
 simp [ht] at h6
 cbv
 refine Py [0,4,9,10] [false,false,false,false,false,false,false,false,false,false,false,false,true,true,true,true,true] (by kernel_rfl) (by kernel_rfl) (by kernel_rfl) (by kernel_rfl) (by kernel_rfl) ?_
 cbv
 iterate 3 refine gI (by simp) ?_
 refine .inl ?_
 (refine qT (fun g=>⟨trv,trv,DQ ht hr⟩) rfl rfl rfl ?_)
 cbv
 iterate 4 refine gI (by simp) ?_
 refine gI (by (simp only [ht];intro _;refine ⟨by simp only [List.length_cons,List.length_nil];omega,?_⟩;intro r h;rcases List.mem_append.1 h with h|h;exact hr r h;simp at h;subst h;rfl)) ?_
 iterate 3 refine gI (by simp) ?_
 (refine aU trv (oy ht rd _ ef af nx 1 (nl:=nl) (pl:=pl) (tl:=tl) (jl:=jl++[⟨nx,⟨jq,⟨ja,jb,jc,jd⟩,jn,jp,jt,gL⟩,false,0⟩]) (ql:=q9) (el:=el) (al:=al) gR hps hts (by simp only [ht,fU];simp [Jb.cells,jw]) (by simp only [ht]) aD has hel) trv rfl rfl rfl (fun r9 dz=>?_);simp only [ht] at dz)
 cbv
 refine ak trv trv rfl rfl rfl ?_
 (simp only [ht];grind)
theorem Od (ht:TT t) (rd nx ef af:Int) {nl:List Node} {pl:List Place} {tl:List aQ} {jl:List Jb} {ql:List bZ} {el al:List cF} {ns ps ts js qs es dm:List (List D)} (gR:ns=nl.map Node.cells) (hps:ps=pl.map Place.cells) (hts:ts=tl.map aQ.cells) (fU:js=jl.map Jb.cells) (fG:qs=ql.map bZ.cells) (aD:es=el.map cF.cells) (has:dm=al.map cF.cells) (ja jb jc jd jn jp jt:Int) (jq:aA) {gL:List Term} {pW:List (List D)} (jw:pW=gL.map Term.cells) (hj:js=[]) (hx:(⟨jq,⟨ja,jb,jc,jd⟩,jn,jp,jt,gL⟩:Ask).sm) (htl:tl.length<100000) (hjl:jl.length<1000000) (UU:ql.length<1000000) (hel:el.length<1000000):
 FC 16 [.agg [ax rd,ax nx,SL ns,SL ps,SL ts,SL js,SL qs,ax ef,SL es,ax af,SL dm],.agg [ST jq,ax ja,ax jb,ax jc,ax jd,bc jn,bc jp,bc jt,SL pW]] [] (.ret (Q6 t (t _ fun _=>bW ⟨rd,nx,⟨nl,pl⟩,tl,jl,ql,⟨ef,el⟩,⟨af,al⟩⟩ ⟨jq,⟨ja,jb,jc,jd⟩,jn,jp,jt,gL⟩))) []:=by
 subst hj
 obtain ⟨ck,RR⟩:∃ck,ck=cI ⟨jq,⟨ja,jb,jc,jd⟩,jn,jp,jt,gL⟩:=⟨_,rfl⟩
 obtain ⟨th,YR⟩:∃th,th=gz tl jq:=⟨_,rfl⟩
 obtain ⟨⟨q9,e9⟩,h9⟩:∃r,r=jF ql ⟨nx,jp⟩:=⟨_,rfl⟩
 have hS:bW ⟨rd,nx,⟨nl,pl⟩,tl,jl,ql,⟨ef,el⟩,⟨af,al⟩⟩ ⟨jq,⟨ja,jb,jc,jd⟩,jn,jp,jt,gL⟩=if ck≠0 then (⟨rd,nx,⟨nl,pl⟩,tl,jl,ql,⟨ef,el⟩,⟨af,al⟩⟩,0,ck) else if !th then (⟨rd,nx,⟨nl,pl⟩,tl,jl,ql,⟨ef,el⟩,⟨af,al⟩⟩,0,7) else if 32≤jl.length∨nx=18446744073709551615 then (⟨rd,nx,⟨nl,pl⟩,tl,jl,ql,⟨ef,el⟩,⟨af,al⟩⟩,0,9) else if e9≠0 then (⟨rd,nx,⟨nl,pl⟩,tl,jl,ql,⟨ef,el⟩,⟨af,al⟩⟩,0,e9) else
  (fR ⟨rd,IntKind.u64.wrap (nx+1),⟨nl,pl⟩,tl,jl++[⟨nx,⟨jq,⟨ja,jb,jc,jd⟩,jn,jp,jt,gL⟩,false,0⟩],q9,⟨ef,el⟩,⟨af,al⟩⟩ nx 1,nx,0):=by
  simp only [bW,←RR,←YR,←h9,u64,←bI]
 rw [hS]
 clear hS
 have hle:jl=[]:=by cases jl with
  |nil=>rfl
  |cons x l=>cases fU
 obtain ⟨h1,h2,h3,h4⟩:=id hx
 simp only at h1 h2 h3 h4
 refine bA ht (aB:=[]) Tryz.func16 rfl rfl (N:=68) rfl rfl (n:=0) rfl rfl ?_
 cbv
 have fc:ns.length=nl.length:=by rw [gR,lgM]
 have fA:ps.length=pl.length:=by rw [hps,lgM]
 have fT:ts.length=tl.length:=by rw [hts,lgM]
 have dL:qs.length=ql.length:=by rw [fG,lgM]
 have av:es.length=el.length:=by rw [aD,lgM]
 have dP:dm.length=al.length:=by rw [has,lgM]
 have pG:pW.length=gL.length:=by rw [jw,lgM]
 refine ay trv (j9 ht _ _ _ _ _ _ _ _ ‹_› ‹_›) trv rfl rfl (fun r0 bF=>?_)
 simp only [ht] at bF
 rw [←RR] at bF
 subst r0
 cbv
 refine ai (fun h1=>?_) (fun h1=>?_)
 ·simp [ht] at h1
  cbv
  refine ak trv trv rfl rfl rfl ?_
  (simp only [ht];grind)
 simp [ht] at h1
 cbv
 refine ay trv (xe ht _ ‹_› (by omega) ‹_›) trv rfl rfl (fun r2 cU=>?_)
 simp only [ht] at cU
 rw [←YR] at cU
 subst r2
 cbv
 refine ai (fun h3=>?_) (fun h3=>?_)
 ·simp [ht] at h3
  cbv
  refine ak trv trv rfl rfl rfl ?_
  (simp only [ht];grind)
 simp [ht] at h3
 cbv
 iterate 3 refine gI (by simp [ht]) ?_
 refine pI (by simp [ht]) ?_
 refine ai (fun h4=>?_) (fun h4=>?_)
 ·simp [ht] at h4
  cbv
  refine ak trv trv rfl rfl rfl ?_
  (simp only [ht];grind)
 simp [ht] at h4
 cbv
 refine aU trv (BJ ht _ _ ‹_› ‹_›) trv rfl rfl rfl (fun r5 jh=>?_)
 simp only [ht] at jh
 rw [←h9] at jh
 subst r5
 cbv
 refine ai (fun h6=>?_) (fun h6=>?_)
 ·simp [ht] at h6
  cbv
  refine ak trv trv rfl rfl rfl ?_
  (simp only [ht];grind)
 simp [ht] at h6
 cbv
 refine Py [0,4,9,10] [false,false,false,false,false,false,false,false,false,false,false,false,true,true,true,true,true] (by kernel_rfl) (by kernel_rfl) (by kernel_rfl) (by kernel_rfl) (by kernel_rfl) ?_
 cbv
 iterate 3 refine gI (by simp) ?_
 refine .inl ?_
 (refine qT (fun g=>⟨trv,trv,DQ ht (by simp)⟩) rfl rfl rfl ?_)
 cbv
 iterate 4 refine gI (by simp) ?_
 refine gI (by simp [ht]) ?_
 iterate 3 refine gI (by simp) ?_
 (refine aU trv (oy ht rd _ ef af nx 1 (nl:=nl) (pl:=pl) (tl:=tl) (jl:=jl++[⟨nx,⟨jq,⟨ja,jb,jc,jd⟩,jn,jp,jt,gL⟩,false,0⟩]) (ql:=q9) (el:=el) (al:=al) gR hps hts (by simp only [ht,hle];simp [Jb.cells,jw]) (by simp only [ht]) aD has hel) trv rfl rfl rfl (fun r9 dz=>?_);simp only [ht] at dz)
 cbv
 refine ak trv trv rfl rfl rfl ?_
 (simp only [ht];grind)
theorem mb (ht:TT t) (rd nx ef af:Int) {nl:List Node} {pl:List Place} {tl:List aQ} {jl:List Jb} {ql:List bZ} {el al:List cF} {ns ps ts js qs es dm:List (List D)} (gR:ns=nl.map Node.cells) (hps:ps=pl.map Place.cells) (hts:ts=tl.map aQ.cells) (fU:js=jl.map Jb.cells) (fG:qs=ql.map bZ.cells) (aD:es=el.map cF.cells) (has:dm=al.map cF.cells) (ja jb jc jd jn jp jt:Int) (jq:aA) {gL:List Term} {pW:List (List D)} (jw:pW=gL.map Term.cells) (hx:(⟨jq,⟨ja,jb,jc,jd⟩,jn,jp,jt,gL⟩:Ask).sm) (htl:tl.length<100000) (hjl:jl.length<1000000) (UU:ql.length<1000000) (hel:el.length<1000000):
 FC 16 [.agg [ax rd,ax nx,SL ns,SL ps,SL ts,SL js,SL qs,ax ef,SL es,ax af,SL dm],.agg [ST jq,ax ja,ax jb,ax jc,ax jd,bc jn,bc jp,bc jt,SL pW]] [] (.ret (Q6 t (t _ fun _=>bW ⟨rd,nx,⟨nl,pl⟩,tl,jl,ql,⟨ef,el⟩,⟨af,al⟩⟩ ⟨jq,⟨ja,jb,jc,jd⟩,jn,jp,jt,gL⟩))) []:=by
 cases js with
 |nil=>exact Od ht rd nx ef af gR hps hts fU fG aD has ja jb jc jd jn jp jt jq jw rfl hx htl hjl UU hel
 |cons e0 er=>exact Oc ht rd nx ef af gR hps hts fU fG aD has ja jb jc jd jn jp jt jq jw e0 er rfl hx htl hjl UU hel
theorem oC (ht:TT t) (rd nx ef af:Int) {nl:List Node} {pl:List Place} {tl:List aQ} {jl:List Jb} {ql:List bZ} {el al:List cF} {ns ps ts js qs es dm:List (List D)} (gR:ns=nl.map Node.cells) (hps:ps=pl.map Place.cells) (hts:ts=tl.map aQ.cells) (fU:js=jl.map Jb.cells) (fG:qs=ql.map bZ.cells) (aD:es=el.map cF.cells) (has:dm=al.map cF.cells) (id:Int) {names:List aA} {nr:List (List D)} (Ww:nr=names.map aV) (gD:∀x∈jl,x.x.fZ.u'∧x.x.path.length<1000000000000) (htl:tl.length<100000) (hjl:jl.length<1000000) (Ge:nl.length<1000000) (pO:pl.length<1000000) (UU:ql.length<1000000) (hel:el.length<1000000) (hnn:names.length<1000000):
 FC 29 [.agg [ax rd,ax nx,SL ns,SL ps,SL ts,SL js,SL qs,ax ef,SL es,ax af,SL dm],ax id,SL nr] [] (.ret (Q5 t (t _ fun _=>dK ⟨rd,nx,⟨nl,pl⟩,tl,jl,ql,⟨ef,el⟩,⟨af,al⟩⟩ id names))) []:=by
 refine bA ht (aB:=[]) Tryz.func29 rfl rfl (N:=100) rfl rfl (n:=0) rfl rfl ?_
 cbv
 have fc:ns.length=nl.length:=by rw [gR,lgM]
 have fA:ps.length=pl.length:=by rw [hps,lgM]
 have fT:ts.length=tl.length:=by rw [hts,lgM]
 have dj:js.length=jl.length:=by rw [fU,lgM]
 have dL:qs.length=ql.length:=by rw [fG,lgM]
 have av:es.length=el.length:=by rw [aD,lgM]
 have dP:dm.length=al.length:=by rw [has,lgM]
 have Fm:nr.length=names.length:=by rw [Ww,lgM]
 refine ay trv (sC ht _ _ _ _ _ _ _ _ _ _ _ ‹_› (by omega)) trv rfl rfl (fun r0 bF=>?_)
 simp only [ht] at bF
 have ec:=KY bF gD
 clear bF
 rcases ec with ⟨e1,e2⟩|⟨i,xi,xa,xb,xc,xd,xn,xp,xt,xf,xq,xr,xl,e1,e2,e3,e4,e5,⟨e6,e7⟩,e8⟩
 ·cbv
  refine ai (fun h1=>?_) (fun h1=>?_)
  ·simp [ht] at h1
   cbv
   refine ak trv trv rfl rfl rfl ?_
   (simp [dK, *];done)
  simp [ht] at h1
  omega
 cbv
 refine ai (fun h2=>?_) (fun h2=>?_)
 ·simp [ht] at h2
  (simp only [aa] at*;omega)
 simp [ht] at h2
 cbv
 refine Cs ht fU (cT:=Jb.aK t) e3 ‹_› (fun _=>rfl) (fun _=>(by (simp only [ht,Jb.aK];rfl))) ?_
 cbv
 refine ai (fun h4=>?_) (fun h4=>?_)
 ·cbv
  refine ak trv trv rfl rfl rfl ?_
  (simp only [ht,dK,e4,e5,jW];simp [*];done)
 cbv
 refine ai (fun h5=>?_) (fun h5=>?_)
 ·simp [ht,aa,Fm] at h5
  cbv
  refine ak trv trv rfl rfl rfl ?_
  (simp only [ht,dK,e4,e5,jW];simp [*];done)
 simp [ht,aa,Fm] at h5
 cbv
 (obtain ⟨⟨⟨v1,v2,v3,v4⟩,vk⟩,hv⟩:∃r,r=dG ⟨xq,⟨xa,xb,xc,xd⟩,xn,xp,xt,xl⟩:=⟨_,rfl⟩;refine ay trv (sB ht xq xa xb xc xd xn xp xt (sl:=xl) _ e6) trv rfl rfl (fun r9 dz=>?_);simp only [ht] at dz;rw [←hv] at dz;subst dz)
 cbv
 refine ai (fun h6=>?_) (fun h6=>?_)
 ·simp [ht] at h6
  cbv
  refine ak trv trv rfl rfl rfl ?_
  (simp only [ht,dK,e4,e5,jW,←hv];(try (simp only [←gE];clear gE));(try (simp only [←dz];clear dz));simp [*];done)
 simp [ht] at h6
 cbv
 refine aU trv (KR ht _ _ _ _ _ ‹_› ‹_› ‹_›) trv rfl rfl rfl (fun r7 gE=>?_)
 simp only [ht] at gE
 cbv
 refine ai (fun h8=>?_) (fun h8=>?_)
 ·simp [ht] at h8
  cbv
  refine ak trv trv rfl rfl rfl ?_
  (simp only [ht,dK,e4,e5,jW,←hv];(try (simp only [←gE];clear gE));(try (simp only [←dz];clear dz));simp [*];done)
 simp [ht] at h8
 cbv
 refine aU trv (VX ht _ _ _ _ _ ‹_› ‹_› ‹_› (by omega) (by omega) (by omega)) trv rfl rfl rfl (fun r9 dz=>?_)
 simp only [ht] at dz
 cbv
 refine ai (fun h10=>?_) (fun h10=>?_)
 ·simp [ht] at h10
  cbv
  refine ak trv trv rfl rfl rfl ?_
  (simp only [ht,dK,e4,e5,jW,←hv];(try (simp only [←gE];clear gE));(try (simp only [←dz];clear dz));simp [*];done)
 simp [ht] at h10
 cbv
 refine aU trv (Ix ht _ ‹_› ‹_›) trv rfl rfl rfl (fun Xf pK=>?_)
 simp only [ht] at pK
 cbv
 (refine C4 [0,2] (.more 0 (.more 1 (.one 2 (.one 3 (.one 4 (.one 5 (.one 6 (.one 7 (.one 8 .done))))))) (.one 2 (.more 1 (.one 3 (.one 4 (.one 5 (.one 6 (.one 7 (.one 8 .done)))))) (.one 3 (.more 1 (.one 4 (.one 5 (.one 6 (.one 7 (.one 8 .done))))) (.one 4 (.one 1 (.one 5 (.one 6 (.one 7 (.one 8 .done))))))))))) (.one 2 (.one 0 (.more 1 (.one 3 (.one 4 (.one 5 (.one 6 (.one 7 (.one 8 .done)))))) (.one 3 (.more 1 (.one 4 (.one 5 (.one 6 (.one 7 (.one 8 .done))))) (.one 4 (.one 1 (.one 5 (.one 6 (.one 7 (.one 8 .done)))))))))))) _ (by kernel_rfl) (by kernel_rfl) (by kernel_rfl) (by kernel_rfl) (by cbv;repeat' (first|exact rfl|refine ⟨?_,?_⟩)) ?_)
 cbv
 refine aU trv (Mp ht _ _ _ _ (jE ht rfl) (jE ht rfl) (jE ht rfl) ‹_› (jE ht rfl) ‹_› ‹_› _ _ _ _ _ _ _ _ _ _ _ (jE ht rfl) ‹_› ‹_› ‹_›) trv rfl rfl rfl (fun Wv oB=>?_)
 simp only [ht] at oB
 have Zk:(Wv).ev.l.length<1000000:=by rw [oB];exact hel
 cbv
 refine aU trv (oy ht _ _ _ _ _ _ (jE ht rfl) (jE ht rfl) (jE ht rfl) (jE ht rfl) (jE ht rfl) (jE ht rfl) (jE ht rfl) ‹_›) trv rfl rfl rfl (fun r13 Fo=>?_)
 simp only [ht] at Fo
 cbv
 refine ak trv trv rfl rfl rfl ?_
 (simp only [ht,dK,e4,e5,jW,←hv];(try (simp only [←gE];clear gE));(try (simp only [←dz];clear dz));simp [*];done)
theorem rG {x:Ask} (h:By x):x.sm:=
 ⟨by have:=h.path;omega,⟨h.fZ 0 (by decide),h.fZ 1 (by decide),h.fZ 2 (by decide),h.fZ 3 (by decide)⟩,by have:=h.bX;omega,
  fun m hm=>by obtain ⟨a,b,c⟩:=h.key m hm;exact ⟨by omega,by omega,fun v hv=>by have:=c v hv;omega⟩⟩
theorem cJ.ok.small {s:cJ} (h:s.ok) (l:s.c6 By):s.sm where
 nodes:=⟨by have:=h.bC.most;omega,l.names⟩
 places:=by have:=h.BB;omega
 tree:=⟨by have:=h.tree.most;omega,fun e he=>by have:=l.paths e he;omega⟩
 aL:=⟨by have:=h.most;omega,fun x hx=>⟨rG (l.xs x hx),⟨by have:=h.Dz x hx;omega,by have:=h.Dz x hx;have:=h.next;omega⟩,by
  have:=(h.Cf x hx).1
  unfold cI Ou at this
  split at this
  ·cases this
  split at this
  ·cases this
  simp_all;omega⟩⟩
 queue:=by
  have h1:=h.S6
  have h2:gA s.aL≤s.aL.length:=List.length_filter_le _ _
  have:=h.most;omega
 notes:=by have:=h.notes;omega
theorem IE {l:List Jb} {id:Int} (h:∀x∈l,x.x.sm):(dZ l id).1.x.sm:=by
 unfold dZ
 split
 ·rename_i x hx;exact h _ (List.mem_of_find?_eq_some hx)
 exact ⟨by decide,by decide,by decide,fun m hm=>by cases hm⟩
theorem Ri {nl:List Node} {pl:List Place} (h:nl.length<1000000) (h2:∀x∈nl,x.sm):(nl.filterMap (sY nl pl)).length<1000000∧∀s∈nl.filterMap (sY nl pl),s.labels.length<1000000000:=by
 refine ⟨Nat.lt_of_le_of_lt (List.length_filterMap_le _ _) h,fun s hs=>?_⟩
 obtain ⟨n,hn,e⟩:=List.mem_filterMap.1 hs
 unfold sY at e
 split at e
 ·cases e;exact (h2 n hn).2.1
 cases e
theorem BS {v:bz}:∀(n:Nat) (l:List cw) (out:List aA),out.length+n≤8→(wS v n l out).1.length≤8
 |0,_,out,h=>by simpa [wS] using h
 |n+1,l,out,h=>by
  rw [wS]
  split
  ·simp
  exact BS n _ _ (by simp;omega)
theorem DR (l:List cw) (x:List Term) (v:bz) (c:Int):(fit l x v c).1.length<1000000:=by
 unfold fit
 split
 ·simp
 have:=BS (v:=v) (max c 0).toNat (fitting l x) [] (by simp;omega)
 omega
theorem Oe (k:Nat):fX [[D.str [110,49]],[D.str [110,50]],[D.str [110,51]]] none (some (k:Int))=(py.take k).map aV:=by
 rw [List.map_take];rfl
theorem Mr (ht:TT t) (x:iu) (hx:x.u) {k a b c d:Int} (hk:k=x.kind) (ha:a=x.a) (hb:b=x.b) (hc:c=x.c) (hd:d=x.d) (rd nx ef af:Int) {nl:List Node} {pl:List Place} {tl:List aQ} {jl:List Jb} {ql:List bZ} {el al:List cF} {ns ps ts js qs es dm:List (List D)} (gR:ns=nl.map Node.cells) (hps:ps=pl.map Place.cells) (hts:ts=tl.map aQ.cells) (fU:js=jl.map Jb.cells) (fG:qs=ql.map bZ.cells) (aD:es=el.map cF.cells) (has:dm=al.map cF.cells) (hs:(⟨rd,nx,⟨nl,pl⟩,tl,jl,ql,⟨ef,el⟩,⟨af,al⟩⟩:cJ).sm):
 FC 13 [.agg [U8 k,U8 a,U8 b,U8 c,U8 d],.agg [ax rd,ax nx,SL ns,SL ps,SL ts,SL js,SL qs,ax ef,SL es,ax af,SL dm]] [] (.ret (Fk t (t _ fun _=>jG x ⟨rd,nx,⟨nl,pl⟩,tl,jl,ql,⟨ef,el⟩,⟨af,al⟩⟩))) []:=by
 obtain ⟨⟨s1,s2⟩,s3,⟨s4,s5⟩,⟨s6,s7⟩,s8,s9,Zy⟩:=id hs
 simp only at s1 s2 s3 s4 s5 s6 s7 s8 s9 Zy
 have gD:∀x∈jl,x.x.fZ.u'∧x.x.path.length<1000000000000:=fun x hx=>⟨(s7 x hx).1.2.1,(s7 x hx).1.1⟩
 obtain ⟨u1,u2,u3,u4,u5⟩:=id hx
 obtain ⟨S,hS⟩:∃S,S=jG x ⟨rd,nx,⟨nl,pl⟩,tl,jl,ql,⟨ef,el⟩,⟨af,al⟩⟩:=⟨_,rfl⟩
 rw [←hS]
 obtain ⟨K,hK⟩:∃K:Nat,K=x.kind%8:=⟨_,rfl⟩
 obtain ⟨I,hI⟩:∃I:Int,I=(x.a%12:Nat):=⟨_,rfl⟩
 have k8:k.tmod 8=(K:Int):=by rw [hk,tm8,hK]
 have a12:IntKind.u64.wrap (a.tmod 12)=I:=by rw [ha,aaP,hI,TB _ (by omega)]
 have b4:b.tmod 4=((x.b%4:Nat):Int):=by rw [hb,Zp]
 obtain ⟨ZA,ZB⟩:=Ri s1 s2 (pl:=pl)
 refine bA ht (aB:=[]) Tryz.func13 rfl rfl (N:=92) rfl rfl (n:=0) rfl rfl ?_
 cbv
 have fc:ns.length=nl.length:=by rw [gR,lgM]
 have fA:ps.length=pl.length:=by rw [hps,lgM]
 have fT:ts.length=tl.length:=by rw [hts,lgM]
 have dj:js.length=jl.length:=by rw [fU,lgM]
 have dL:qs.length=ql.length:=by rw [fG,lgM]
 have av:es.length=el.length:=by rw [aD,lgM]
 have dP:dm.length=al.length:=by rw [has,lgM]
 refine ⟨?_,?_⟩
 ·(simp only [ht,aa] at*;omega)
 refine ⟨?_,?_⟩
 ·(simp only [ht,aa] at*;omega)
 cbv
 refine ai (fun h0=>?_) (fun h0=>?_)
 ·simp [ht,aa,k8] at h0
  cbv
  refine ai (fun h1=>?_) (fun h1=>?_)
  ·simp [ht,aa,k8] at h1
   cbv
   refine yh [] [4,5,6,7] [false,false,false,true,true,false,false,false,true] (by kernel_rfl) (by kernel_rfl) (by kernel_rfl) (by kernel_rfl) (by kernel_rfl) (by kernel_rfl) ?_
   cbv
   iterate 2 refine gI (by simp) ?_
   refine .inl ?_
   (refine iS (fun g=>⟨by simp,trv,Fg ht _ _ _ _ _ x hx hk ha hb hc hd⟩) rfl rfl rfl (fun r1 eb=>?_);simp only [ht] at eb;have K6:r1.sm:=(by rw [eb];exact rG (pz x)))
   cbv
   (refine aU trv (mb ht rd nx ef af gR hps hts fU fG aD has _ _ _ _ _ _ _ _ (gL:=r1.bX) (by simp only [ht]) K6 s4 s6 s8 s9) (by simp) rfl rfl rfl (fun r2 cU=>?_);simp only [ht] at cU)
   cbv
   iterate 3 refine gI (by simp) ?_
   refine ak trv trv rfl rfl rfl ?_
   (have e:S=r2.1:=(by rw [hS];unfold jG;rw [if_pos (by omega),cU,eb]);simp only [ht,e];done)
  simp [ht,aa,k8] at h1
  omega
 simp [ht,aa,k8] at h0
 cbv
 refine ai (fun h2=>?_) (fun h2=>?_)
 ·simp [ht,aa,k8] at h2
  cbv
  refine ai (fun h3=>?_) (fun h3=>?_)
  ·simp [ht,aa,k8] at h3
   cbv
   refine yh [] [4,5,6,7] [false,false,false,true,true,false,false,false,true] (by kernel_rfl) (by kernel_rfl) (by kernel_rfl) (by kernel_rfl) (by kernel_rfl) (by kernel_rfl) ?_
   cbv
   iterate 2 refine gI (by simp) ?_
   refine .inl ?_
   (refine iS (fun g=>⟨by simp,trv,Fg ht _ _ _ _ _ x hx hk ha hb hc hd⟩) rfl rfl rfl (fun r1 eb=>?_);simp only [ht] at eb;have K6:r1.sm:=(by rw [eb];exact rG (pz x)))
   cbv
   (refine aU trv (mb ht rd nx ef af gR hps hts fU fG aD has _ _ _ _ _ _ _ _ (gL:=r1.bX) (by simp only [ht]) K6 s4 s6 s8 s9) (by simp) rfl rfl rfl (fun r2 cU=>?_);simp only [ht] at cU)
   cbv
   iterate 3 refine gI (by simp) ?_
   refine ak trv trv rfl rfl rfl ?_
   (have e:S=r2.1:=(by rw [hS];unfold jG;rw [if_pos (by ((try simp only [aa] at*);omega)),cU,eb]);simp only [ht,e];done)
  simp [ht,aa,k8] at h3
  contradiction
 simp [ht,aa,k8] at h2
 cbv
 refine ai (fun h4=>?_) (fun h4=>?_)
 ·simp [ht,aa,k8] at h4
  cbv
  refine yh [] [4,5,6,7] [false,false,false,true,true,false,false,false,true] (by kernel_rfl) (by kernel_rfl) (by kernel_rfl) (by kernel_rfl) (by kernel_rfl) (by kernel_rfl) ?_
  cbv
  iterate 2 refine gI (by simp) ?_
  refine .inl ?_
  (refine iS (fun g=>⟨by simp,trv,Fg ht _ _ _ _ _ x hx hk ha hb hc hd⟩) rfl rfl rfl (fun r1 eb=>?_);simp only [ht] at eb;have K6:r1.sm:=(by rw [eb];exact rG (pz x)))
  cbv
  (refine aU trv (mb ht rd nx ef af gR hps hts fU fG aD has _ _ _ _ _ _ _ _ (gL:=r1.bX) (by simp only [ht]) K6 s4 s6 s8 s9) (by simp) rfl rfl rfl (fun r2 cU=>?_);simp only [ht] at cU)
  cbv
  iterate 3 refine gI (by simp) ?_
  refine ak trv trv rfl rfl rfl ?_
  (have e:S=r2.1:=(by rw [hS];unfold jG;rw [if_pos (by ((try simp only [aa] at*);omega)),cU,eb]);simp only [ht,e];done)
 simp [ht,aa,k8] at h4
 cbv
 refine ai (fun h5=>?_) (fun h5=>?_)
 ·simp [ht,aa,k8] at h5
  cbv
  refine ai (fun h6=>?_) (fun h6=>?_)
  ·simp [ht,aa,k8] at h6
   cbv
   (refine aU trv (rB ht _ rd nx ef af ns ps ts qs es dm fU (by omega)) (by simp) rfl rfl rfl (fun r1 eb=>?_);simp only [ht,a12] at eb;have K6:r1.1.x.sm:=(by rw [eb];exact IE (fun x hx=>(s7 x hx).1)))
   cbv
   refine bS [false,false,false,false,false,false,false,false,false,false,false,false,true,true,false,false,false,true] (by kernel_rfl) (by kernel_rfl) ?_
   cbv
   iterate 2 refine gI (by simp) ?_
   refine .inl ?_
   (refine iS (fun g=>⟨by simp,trv,HV ht gR hps (by omega) (by omega)⟩) rfl rfl rfl (fun r2 cU=>?_);simp only [ht] at cU)
   cbv
   iterate 9 refine gI (by simp) ?_
   (first|(refine aU trv (Fe ht _ _ _ _ _ (l:=r2) (by simp only [ht]) (by rw [cU];exact ZA) (by rw [cU];exact ZB) (x:=r1.1.x.bX) (by simp only [ht]) K6.2.2.1 (fun m hm=>(K6.2.2.2 m hm).2.1)) (by simp) rfl rfl rfl (fun r3 gQ=>?_);simp only [ht] at gQ)|(refine iS (fun g=>⟨by simp [ht],by simp [ht],Fe ht _ _ _ _ _ (l:=r2) (by simp only [ht]) (by rw [cU];exact ZA) (by rw [cU];exact ZB) (x:=r1.1.x.bX) (by simp only [ht]) K6.2.2.1 (fun m hm=>(K6.2.2.2 m hm).2.1)⟩) rfl rfl rfl (fun r3 gQ=>?_);simp only [ht] at gQ))
   cbv
   iterate 3 refine gI (by simp) ?_
   refine ai (fun h7=>?_) (fun h7=>?_)
   ·cbv
    (refine aU trv (oC ht rd nx ef af gR hps hts fU fG aD has _ (names:=r3.1) (by simp only [ht]) gD s4 s6 s1 s3 s8 s9 (by rw [gQ];exact DR _ _ _ _)) (by simp) rfl rfl rfl (fun r4 dV=>?_);simp only [ht,a12] at dV)
    cbv
    refine ak trv trv rfl rfl rfl ?_
    (have e3:fit (wX ⟨nl,pl⟩) (dZ jl (x.a%12:Nat)).1.x.bX (dZ jl (x.a%12:Nat)).1.x.fZ (dZ jl (x.a%12:Nat)).1.x.count=r3:=(by rw [gQ,cU,eb,hI];rfl);have e:S=r4.1:=(by rw [hS];unfold jG;dsimp only;rw [if_neg (by ((try simp only [aa] at*);omega)),if_pos (by ((try simp only [aa] at*);omega)),e3,if_pos ‹_›,dV,hI]);simp only [ht,e];done)
   cbv
   refine ak trv trv rfl rfl rfl ?_
   (have e3:fit (wX ⟨nl,pl⟩) (dZ jl (x.a%12:Nat)).1.x.bX (dZ jl (x.a%12:Nat)).1.x.fZ (dZ jl (x.a%12:Nat)).1.x.count=r3:=(by rw [gQ,cU,eb,hI];rfl);have e:S=⟨rd,nx,⟨nl,pl⟩,tl,jl,ql,⟨ef,el⟩,⟨af,al⟩⟩:=(by rw [hS];unfold jG;dsimp only;rw [if_neg (by ((try simp only [aa] at*);omega)),if_pos (by ((try simp only [aa] at*);omega)),e3,if_neg (by simp_all)]);simp only [ht,e,gR,hps,hts,fU,fG,aD,has];done)
  simp [ht,aa,k8] at h6
  contradiction
 simp [ht,aa,k8] at h5
 cbv
 refine ai (fun h8=>?_) (fun h8=>?_)
 ·simp [ht,aa,k8] at h8
  cbv
  (refine aU trv (rB ht _ rd nx ef af ns ps ts qs es dm fU (by omega)) (by simp) rfl rfl rfl (fun r1 eb=>?_);simp only [ht,a12] at eb;have K6:r1.1.x.sm:=(by rw [eb];exact IE (fun x hx=>(s7 x hx).1)))
  cbv
  refine bS [false,false,false,false,false,false,false,false,false,false,false,false,true,true,false,false,false,true] (by kernel_rfl) (by kernel_rfl) ?_
  cbv
  iterate 2 refine gI (by simp) ?_
  refine .inl ?_
  (refine iS (fun g=>⟨by simp,trv,HV ht gR hps (by omega) (by omega)⟩) rfl rfl rfl (fun r2 cU=>?_);simp only [ht] at cU)
  cbv
  iterate 9 refine gI (by simp) ?_
  (first|(refine aU trv (Fe ht _ _ _ _ _ (l:=r2) (by simp only [ht]) (by rw [cU];exact ZA) (by rw [cU];exact ZB) (x:=r1.1.x.bX) (by simp only [ht]) K6.2.2.1 (fun m hm=>(K6.2.2.2 m hm).2.1)) (by simp) rfl rfl rfl (fun r3 gQ=>?_);simp only [ht] at gQ)|(refine iS (fun g=>⟨by simp [ht],by simp [ht],Fe ht _ _ _ _ _ (l:=r2) (by simp only [ht]) (by rw [cU];exact ZA) (by rw [cU];exact ZB) (x:=r1.1.x.bX) (by simp only [ht]) K6.2.2.1 (fun m hm=>(K6.2.2.2 m hm).2.1)⟩) rfl rfl rfl (fun r3 gQ=>?_);simp only [ht] at gQ))
  cbv
  iterate 3 refine gI (by simp) ?_
  refine ai (fun h9=>?_) (fun h9=>?_)
  ·cbv
   (refine aU trv (oC ht rd nx ef af gR hps hts fU fG aD has _ (names:=r3.1) (by simp only [ht]) gD s4 s6 s1 s3 s8 s9 (by rw [gQ];exact DR _ _ _ _)) (by simp) rfl rfl rfl (fun r4 dV=>?_);simp only [ht,a12] at dV)
   cbv
   refine ak trv trv rfl rfl rfl ?_
   (have e3:fit (wX ⟨nl,pl⟩) (dZ jl (x.a%12:Nat)).1.x.bX (dZ jl (x.a%12:Nat)).1.x.fZ (dZ jl (x.a%12:Nat)).1.x.count=r3:=(by rw [gQ,cU,eb,hI];rfl);have e:S=r4.1:=(by rw [hS];unfold jG;dsimp only;rw [if_neg (by ((try simp only [aa] at*);omega)),if_pos (by ((try simp only [aa] at*);omega)),e3,if_pos ‹_›,dV,hI]);simp only [ht,e];done)
  cbv
  refine ak trv trv rfl rfl rfl ?_
  (have e3:fit (wX ⟨nl,pl⟩) (dZ jl (x.a%12:Nat)).1.x.bX (dZ jl (x.a%12:Nat)).1.x.fZ (dZ jl (x.a%12:Nat)).1.x.count=r3:=(by rw [gQ,cU,eb,hI];rfl);have e:S=⟨rd,nx,⟨nl,pl⟩,tl,jl,ql,⟨ef,el⟩,⟨af,al⟩⟩:=(by rw [hS];unfold jG;dsimp only;rw [if_neg (by ((try simp only [aa] at*);omega)),if_pos (by ((try simp only [aa] at*);omega)),e3,if_neg (by simp_all)]);simp only [ht,e,gR,hps,hts,fU,fG,aD,has];done)
 simp [ht,aa,k8] at h8
 cbv
 refine ai (fun h10=>?_) (fun h10=>?_)
 ·simp [ht,aa,k8] at h10
  cbv
  (refine aU trv (Mq ht rd nx ef af gR hps hts fU fG aD has _ _ gD s4 s6 s3 s8 s9) (by simp) rfl rfl rfl (fun r4 dV=>?_);simp only [ht,a12] at dV)
  cbv
  refine ak trv trv rfl rfl rfl ?_
  (have e:S=r4.1:=(by rw [hS];unfold jG;rw [if_neg (by ((try simp only [aa] at*);omega)),if_neg (by ((try simp only [aa] at*);omega)),if_pos (by ((try simp only [aa] at*);omega)),dV,hI]);simp only [ht,e];done)
 simp [ht,aa,k8] at h10
 cbv
 refine ai (fun h11=>?_) (fun h11=>?_)
 ·simp [ht,aa,k8] at h11
  cbv
  (refine aU trv (KZ ht rd nx ef af gR hps hts fU fG aD has _ _ gD s4 s6 s3 s8 s9) (by simp) rfl rfl rfl (fun r4 dV=>?_);simp only [ht,a12] at dV)
  cbv
  refine ak trv trv rfl rfl rfl ?_
  (have e:S=r4.1:=(by rw [hS];unfold jG;rw [if_neg (by ((try simp only [aa] at*);omega)),if_neg (by ((try simp only [aa] at*);omega)),if_neg (by ((try simp only [aa] at*);omega)),if_pos (by ((try simp only [aa] at*);omega)),dV,hI]);simp only [ht,e];done)
 simp [ht,aa,k8] at h11
 cbv
 refine ai (fun h12=>?_) (fun h12=>?_)
 ·simp [ht,aa,k8] at h12
  cbv
  refine yh [1] [1,8,9,10] [false,false,false,false,false,false,false,true,true,false,false,true] (by kernel_rfl) (by kernel_rfl) (by kernel_rfl) (by kernel_rfl) (by kernel_rfl) (by kernel_rfl) ?_
  cbv
  iterate 5 refine gI (by simp) ?_
  refine gI (by simp [ht]) ?_
  refine gI (by simp [ht,bQ];grind) ?_
  (refine aU trv (oC ht rd nx ef af gR hps hts fU fG aD has _ (names:=py.take (x.b%4)) (by simp only [ht];rw [b4];exact Oe _) gD s4 s6 s1 s3 s8 s9 (by simp [py];omega)) (by simp) rfl rfl rfl (fun r4 dV=>?_);simp only [ht,a12] at dV)
  cbv
  iterate 2 refine gI (by simp) ?_
  refine ak trv trv rfl rfl rfl ?_
  (have e:S=r4.1:=(by rw [hS];unfold jG;rw [if_neg (by ((try simp only [aa] at*);omega)),if_neg (by ((try simp only [aa] at*);omega)),if_neg (by ((try simp only [aa] at*);omega)),if_neg (by ((try simp only [aa] at*);omega)),dV,hI]);simp only [ht,e];done)
 simp [ht,aa,k8] at h12
 (simp only [aa] at*;omega)
def iu.aK (_:Th) (x:iu):List D:=[.int .u8 x.kind,.int .u8 x.a,.int .u8 x.b,.int .u8 x.c,.int .u8 x.d]
instance:Inhabited iu:=⟨⟨0,0,0,0,0⟩⟩
theorem DS (n:Nat) (l:List iu) (k:Nat):(dh n l k).sm:=(DB n l k).small (Bz n l k)
structure Told (s:cJ) (rd nx:Int) (ns ps ts js qs:List (List D)) (ef:Int) (es:List (List D)) (af:Int) (dm:List (List D)):Prop where
 r:rd=s.round
 x:nx=s.next
 n:ns=s.bC.nodes.map Node.cells
 p:ps=s.bC.places.map Place.cells
 t:ts=s.tree.map aQ.cells
 j:js=s.aL.map Jb.cells
 q:qs=s.queue.map bZ.cells
 f:ef=s.ev.first
 e:es=s.ev.l.map cF.cells
 g:af=s.au.first
 a:dm=s.au.l.map cF.cells
theorem Told.self (s:cJ):Told s s.round s.next (s.bC.nodes.map Node.cells) (s.bC.places.map Place.cells) (s.tree.map aQ.cells) (s.aL.map Jb.cells) (s.queue.map bZ.cells) s.ev.first (s.ev.l.map cF.cells) s.au.first (s.au.l.map cF.cells):=
 ⟨rfl,rfl,rfl,rfl,rfl,rfl,rfl,rfl,rfl,rfl,rfl⟩
theorem Told.eq {s:cJ} {rd nx ef af:Int} {ns ps ts js qs es dm:List (List D)} (h:Told s rd nx ns ps ts js qs ef es af dm):(⟨rd,nx,⟨s.bC.nodes,s.bC.places⟩,s.tree,s.aL,s.queue,⟨ef,s.ev.l⟩,⟨af,s.au.l⟩⟩:cJ)=s:=by
 rw [h.r,h.x,h.f,h.g]
theorem Rj (ht:TT t) (N:Nat) (hN:N<256) {a:Int} (ea:a=N) {l:List iu} {dl:List (List D)} (U2:dl=l.map iu.cells) (ZC:∀x∈l,x.u) (hll:l.length<9223372036854775808):
 FC 15 [U8 a,SL dl] [] (.ret (Fk t (t _ fun _=>dh N l (min l.length 40)))) []:=by
 refine bA ht (aB:=[]) Tryz.func15 rfl rfl (N:=26) rfl rfl (n:=0) rfl rfl ?_
 cbv
 have K7:dl.length=l.length:=by rw [U2,lgM]
 (refine aU trv (BN ht N hN ea) (by simp) rfl rfl rfl (fun r1 eb=>?_);simp only [ht] at eb)
 cbv
 obtain ⟨J0,ee⟩:∃J0:Nat→Int×Int×Int×List (List D)×List (List D)×List (List D)×List (List D)×List (List D)×Int×List (List D)×Int×List (List D)→Prop,∀n i rd nx ns ps ts js qs ef es af dm,J0 n (i,rd,nx,ns,ps,ts,js,qs,ef,es,af,dm)↔(∃k:Nat,i=k∧k+n=40∧k≤l.length∧Told (dh N l k) rd nx ns ps ts js qs ef es af dm):=⟨fun n v=>match v with|(i,rd,nx,ns,ps,ts,js,qs,ef,es,af,dm)=>(∃k:Nat,i=k∧k+n=40∧k≤l.length∧Told (dh N l k) rd nx ns ps ts js qs ef es af dm),fun _ _ _ _ _ _ _ _ _ _ _ _ _=>Iff.rfl⟩
 refine bg ⟨[1,4,5,6],[],[]⟩ (σ:=Int×Int×Int×List (List D)×List (List D)×List (List D)×List (List D)×List (List D)×Int×List (List D)×Int×List (List D)) (fun v=>[(6,.d (.int .i64 (t _ fun _=>v.1)))]) (fun v=>[(1,.var [.d (.int .u64 (t _ fun _=>v.2.1)),.d (.int .u64 (t _ fun _=>v.2.2.1)),.d (.sl (t _ fun _=>v.2.2.2.1)),.d (.sl (t _ fun _=>v.2.2.2.2.1)),.d (.sl (t _ fun _=>v.2.2.2.2.2.1)),.d (.sl (t _ fun _=>v.2.2.2.2.2.2.1)),.d (.sl (t _ fun _=>v.2.2.2.2.2.2.2.1)),.d (.int .u64 (t _ fun _=>v.2.2.2.2.2.2.2.2.1)),.d (.sl (t _ fun _=>v.2.2.2.2.2.2.2.2.2.1)),.d (.int .u64 (t _ fun _=>v.2.2.2.2.2.2.2.2.2.2.1)),.d (.sl (t _ fun _=>v.2.2.2.2.2.2.2.2.2.2.2))])]) J0 ?_
 cbv
 refine aC ⟨40,(_,_,_,_,_,_,_,_,_,_,_,_),(ee _ _ _ _ _ _ _ _ _ _ _ _ _).2 ?_,by simp only [ht];rfl,?_⟩
 ·exact ⟨0,rfl,by omega,by omega,by rw [show dh N l 0=r1 from eb.symm];exact Told.self r1⟩
 rintro n ⟨i,rd,nx,ns,ps,ts,js,qs,ef,es,af,dm⟩ hj
 replace hj:=(ee _ _ _ _ _ _ _ _ _ _ _ _ _).1 hj
 obtain ⟨k,rfl,j1,j2,jT⟩:=hj
 cbv
 iterate 2 refine gI (by simp [ht]) ?_
 refine pI (by simp [ht]) ?_
 refine ai (fun h1=>?_) (fun h1=>?_)
 ·simp [ht,aa,K7] at h1
  cbv
  refine bS [false,false,false,false,false,true,true] (by kernel_rfl) (by kernel_rfl) ?_
  cbv
  iterate 2 refine gI (by simp) ?_
  refine dS ht U2 (cT:=iu.aK t) (by (simp only [ht,aa];omega)) (by (simp only [ht,aa];omega)) (fun _=>rfl) (fun _=>rfl) (fun x2 iC=>?_)
  simp [ht,aa] at iC
  cbv
  iterate 2 refine gI (by simp) ?_
  (first|(refine aU trv (Mr ht x2 (ZC x2 (List.mem_of_getElem? iC)) rfl rfl rfl rfl rfl _ _ _ _ (nl:=(dh N l k).bC.nodes) (pl:=(dh N l k).bC.places) (tl:=(dh N l k).tree) (jl:=(dh N l k).aL) (ql:=(dh N l k).queue) (el:=(dh N l k).ev.l) (al:=(dh N l k).au.l) (by simp only [ht];exact jT.n) (by simp only [ht];exact jT.p) (by simp only [ht];exact jT.t) (by simp only [ht];exact jT.j) (by simp only [ht];exact jT.q) (by simp only [ht];exact jT.e) (by simp only [ht];exact jT.a) (by simp only [ht];rw [jT.eq];exact DS N l k)) (by simp) rfl rfl rfl (fun r1 eb=>?_);simp only [ht] at eb;rw [jT.eq,←yH iC] at eb)|(refine iS (fun g=>⟨by simp [ht],by simp [ht],(Mr ht x2 (ZC x2 (List.mem_of_getElem? iC)) rfl rfl rfl rfl rfl rd nx ef af (nl:=(dh N l k).bC.nodes) (pl:=(dh N l k).bC.places) (tl:=(dh N l k).tree) (jl:=(dh N l k).aL) (ql:=(dh N l k).queue) (el:=(dh N l k).ev.l) (al:=(dh N l k).au.l) (by simp only [ht];exact jT.n) (by simp only [ht];exact jT.p) (by simp only [ht];exact jT.t) (by simp only [ht];exact jT.j) (by simp only [ht];exact jT.q) (by simp only [ht];exact jT.e) (by simp only [ht];exact jT.a) (by simp only [ht];rw [jT.eq];exact DS N l k))⟩) rfl rfl rfl (fun r1 eb=>?_);simp only [ht] at eb;rw [jT.eq,←yH iC] at eb))
  cbv
  refine bu (_,_,_,_,_,_,_,_,_,_,_,_) (by simp only [ht];rfl) (n-1) ?_ ((ee _ _ _ _ _ _ _ _ _ _ _ _ _).2 ?_)
  ·((try simp only [aa] at*);omega)
  simp only [aa]
  exact ⟨k+1,aE (by omega),by ((try simp only [aa] at*);omega),by omega,by rw [←eb];exact Told.self r1⟩
 simp [ht,aa,K7] at h1
 cbv
 refine ak trv trv rfl rfl rfl ?_
 (have hk:min l.length 40=k:=(by ((try simp only [aa] at*);omega));simp only [ht,hk,jT.r,jT.x,jT.n,jT.p,jT.t,jT.j,jT.q,jT.f,jT.e,jT.g,jT.a];done)
theorem YS (u:Int) (hu:0≤u):UInt8.ofNat (IntKind.u8.wrap ((BitVec.ofInt IntKind.u8.bits (IntKind.u8.wrap u) ||| BitVec.ofInt IntKind.u8.bits 128).toNat)).toNat=UInt8.ofNat (u.toNat%128+128):=by
 have key:∀n:Nat,n<256→UInt8.ofNat (IntKind.u8.wrap ((BitVec.ofInt IntKind.u8.bits (n:Int) ||| BitVec.ofInt IntKind.u8.bits 128).toNat)).toNat=UInt8.ofNat (n%128+128):=by decide
 obtain ⟨n,rfl⟩:=Int.eq_ofNat_of_zero_le hu
 have e:IntKind.u8.wrap (n:Int)=((n%256:Nat):Int):=by simp [IntKind.wrap,IntKind.signed,IntKind.bits]
 rw [e,key _ (by omega),Int.toNat_natCast]
 congr 2;omega
theorem Rk (ht:TT t) (u:Int) (hu:u<18446744073709551616) {s:aA} (h:s=eg u):FC 72 [ax u] [] (.ret (ST s)) []:=by
 obtain ⟨J,hJ⟩:∃J:Nat→Int×List (List D)→Prop,∀n v,J n v↔(v.1<128^(n+1)∧v.2.length+n=9∧(∀r∈v.2,lS r)∧v.2.map iE++qW n v.1=s):=⟨fun n v=>v.1<128^(n+1)∧v.2.length+n=9∧(∀r∈v.2,lS r)∧v.2.map iE++qW n v.1=s,fun _ _=>Iff.rfl⟩
 refine bA ht (aB:=[]) Tryz.func72 rfl rfl (N:=20) rfl rfl (n:=0) rfl rfl ?_
 cbv
 refine bg ⟨[0,2,3],[(3,1)],[]⟩ (σ:=Int×List (List D)) (fun v=>[(0,ax v.1),(3,.ow 0 1 (t _ fun _=>v.2.length))]) (fun v=>[(0,.row 1 (t _ fun _=>v.2))]) J ?_
 cbv
 refine aC ⟨9,(u,[]),(hJ _ _).2 ⟨Int.lt_of_lt_of_le hu (by decide),rfl,by simp,by simp [h,eg]⟩,by simp only [ht];rfl,?_⟩
 rintro n ⟨v,es⟩ hj
 obtain ⟨g1,g2,g4,g5⟩:=(hJ _ _).1 hj
 clear hj
 simp only at g1 g2 g4 g5
 cbv
 refine ai (fun hc=>?_) (fun hc=>?_)
 ·simp only [ht,decide_eq_true_eq] at hc
  cbv
  have hv:0≤v:=by omega
  have e1:v.fdiv (2^min (Int.toNat 7) IntKind.u64.bits)=v / 128:=Int.fdiv_eq_ediv_of_nonneg _ (by decide)
  have hn:1≤n:=by
   rcases Nat.lt_or_ge n 1 with h1|h1
   ·have:n=0:=by omega
    subst this;simp at g1;omega
   exact h1
  obtain ⟨m,rfl⟩:∃m,n=m+1:=⟨n-1,by omega⟩
  refine ⟨?_,by simp [ht],aC ⟨m,(v / 128,es++[[.int .u8 (IntKind.u8.wrap ((BitVec.ofInt IntKind.u8.bits (IntKind.u8.wrap v) ||| BitVec.ofInt IntKind.u8.bits 128).toNat))]]),⟨by omega,(hJ _ _).2 ⟨?_,?_,?_,?_⟩⟩,?_⟩⟩
  ·simp only [ht]
   refine ⟨trv,by simp;omega,?_⟩
   intro r hr
   rcases List.mem_append.1 hr with hr|hr
   ·obtain ⟨z,rfl⟩:=g4 r hr;rfl
   simp at hr;subst hr;rfl
  ·show v / 128<128^(m+1)
   rw [Int.pow_succ] at g1
   omega
  ·simp;omega
  ·intro r hr
   rcases List.mem_append.1 hr with hr|hr
   ·exact g4 r hr
   simp at hr;subst hr;exact ⟨_,rfl⟩
  ·rw [←g5]
   show List.map iE (es++_)++qW m (v / 128)=_
   rw [qW,if_pos hc,List.map_append,List.append_assoc]
   congr 1
   simp only [List.map_cons,List.map_nil,iE,List.cons_append,List.nil_append]
   rw [YS v hv]
  simp only [ht,e1,List.length_append];rfl
 simp only [ht,decide_eq_false_iff_not] at hc
 cbv
 simp only [ht]
 refine ⟨⟨trv,by simp;omega,?_⟩,⟨by simp,?_⟩,ak trv trv rfl rfl rfl ?_⟩
 ·intro r hr
  rcases List.mem_append.1 hr with hr|hr
  ·obtain ⟨z,rfl⟩:=g4 r hr;rfl
  simp at hr;subst hr;rfl
 ·intro r hr
  rcases List.mem_append.1 hr with hr|hr
  ·exact g4 r hr
  simp at hr;subst hr;exact ⟨_,rfl⟩
 rw [←g5]
 have e2:qW n v=[UInt8.ofNat (v%256).toNat]:=by
  cases n with
  |zero=>rfl
  |succ m=>rw [qW,if_neg hc]
 rw [e2]
 simp only [List.map_append,List.map_cons,List.map_nil,iE]
 rfl
theorem K8 (ht:TT t) (s:aA) (hs:s.length<9223372036854775000) {r:aA} (h:r=bH s):FC 130 [ST s] [] (.ret (ST r)) []:=by
 obtain ⟨k,hk⟩:∃k,k=eg s.length:=⟨_,rfl⟩
 have e:IntKind.u64.wrap (s.length:Int)=s.length:=by simp [IntKind.wrap,IntKind.signed,IntKind.bits];omega
 have hkl:k.length≤10:=hk▸cY _
 refine bA ht (aB:=[]) Tryz.func130 rfl rfl (N:=9) rfl rfl (n:=0) rfl rfl ?_
 cbv
 refine gV trv (Rk ht _ ?_ (s:=k) ?_) trv rfl rfl ?_
 ·simp only [ht,aa,e];omega
 ·simp only [ht,aa,e];exact hk
 cbv
 refine ⟨by simp only [ht];omega,ak trv trv rfl rfl rfl ?_⟩
 simp only [ht,h,bH,hk]
theorem cL (ht:TT t) (u:Int) (hu:u<18446744073709551616):FC 72 [ax u] [] (.ret (sK (t _ fun _=>eg u))) []:=by
 simp only [ht];exact Rk ht u hu rfl
theorem Rl (ht:TT t) (s:aA) (p u next:Int) (ok:Bool) (hu:u<18446744073709551616) (hn:0<next→0≤p∧p≤next∧next≤s.length) {r:zq} (hr:r=nI s p u next):
 FD 207 [.ptr 3 0,.ptr 2 0,.ptr 0 0,.ptr 1 0,.ptr 4 0] [.var [ST s],.var [bc p],.var [ax u],.var [bc next],.var [BL ok]] (.ret (.dA [])) [.var [ST s],.var [bc p],.var [ax r.u],.var [bc r.next],.var [BL r.ok]]:=by
 refine fdC ht (aB:=[.var [ST s],.var [bc p],.var [ax u],.var [bc next],.var [BL ok]]) Tryz.func207 rfl rfl (N:=18) rfl rfl (n:=5) rfl rfl ?_
 cbv
 refine bS [true,true,true,false,false,false,false,false,false,true,true,true] (by kernel_rfl) (by kernel_rfl) ?_
 cbv
 refine gI (by simp [ht]) ?_
 refine aJ (fun g0=>⟨by simp [ht] at g0 ⊢;exact g0,trv,cL ht _ ‹_›⟩) rfl rfl (fun r1 eb=>?_)
 simp only [ht] at eb
 cbv
 iterate 3 refine gI (by simp [ht]) ?_
 refine gI (by simp [ht,bQ];grind) ?_
 refine gI (by simp [ht]) ?_
 refine pI (by simp [ht]) ?_
 refine ai (fun h2=>?_) (fun h2=>?_)
 ·simp [ht] at h2
  cbv
  refine ak trv trv rfl ?_ rfl rfl
  (have e:nI s p u next=zq.no:=(by rw [nI,if_neg];rintro ⟨g1,g2⟩;rw [←eb] at g2;rcases h2 with h2|h2;(· omega);(· exact h2 (by simp [fX,g2])));have e2:(decide (0<next)&&decide (r1=fX s (some p) (some next)))=false:=(by rcases h2 with h2|h2;(· simp;intro h;omega);(· simp [h2]));rw [hr,e];simp [qj,eL,ht,zq.no,e2];done)
 simp [ht] at h2
 cbv
 refine ak trv trv rfl ?_ rfl rfl
 (have e:nI s p u next=⟨u,next,true⟩:=(by rw [nI,if_pos];refine ⟨h2.1,?_⟩;obtain ⟨g1,g2,g3⟩:=hn h2.1;rw [←eb,h2.2];simp [fX]);rw [hr,e];simp [qj,eL,ht,h2.1,h2.2];done)
def TP (s:aA) (p:Int) (r:zq):List ar:=[.var [ST s],.var [bc p],.var [ax r.u],.var [bc r.next],.var [BL r.ok]]
theorem xw (ht:TT t) (s:aA) (p u next:Int) (ok:Bool) (hu:u<18446744073709551616) (hn:0<next→0≤p∧p≤next∧next≤s.length):
 FD 207 [.ptr 3 0,.ptr 2 0,.ptr 0 0,.ptr 1 0,.ptr 4 0] [.var [ST s],.var [bc p],.var [ax u],.var [bc next],.var [BL ok]] (.ret (.dA [])) (TP s p (t _ fun _=>nI s p u next)):=by
 simp only [ht];exact Rl ht s p u next ok hu hn rfl
theorem K9 {ρ:Type} {FD:Nat→List AV→List ar→ff→List ar→Prop} {f:Nat} {dB:List AV} {bx:List ar} {K:List ar→Prop} {B:ρ→List ar} {r0:ρ} (h:FD f dB bx (.ret (.dA [])) (B r0)) (hK:∀r,r=r0→K (B r)):vu FD f dB bx K:=JI h (hK _ rfl)
def aa9 (r:zq):AV:=.dA [ax r.u,bc r.next,BL r.ok]
theorem fh (ht:TT t) (s:aA) (p:Int) (hs:s.length<9223372036854775000) (hp:p<9223372036854775808):FC 178 [ST s,bc p] [] (.ret (aa9 (t _ fun _=>bE s p))) []:=by
 refine fcD ht (aB:=[]) Tryz.func178 rfl rfl (N:=48) rfl rfl (n:=0) rfl rfl rfl ?_
 cbv
 iterate 4 refine gI (by simp [ht]) ?_
 refine pI (by simp [ht]) ?_
 refine ai (fun h0=>?_) (fun h0=>?_)
 ·simp [ht,aa] at h0
  cbv
  (refine K9 (xw ht s p _ _ _ (by decide) (by intro h;cases h)) (fun q hq=>?_);simp only [ht] at hq)
  cbv
  refine ak trv trv rfl rfl rfl ?_
  (have e:bE s p=q:=(by rw [hq,nI,if_neg (by omega),bE,rf,if_pos (by omega)]);simp only [ht,e];done)
 simp [ht,aa] at h0
 cbv
 obtain ⟨a,ha⟩:∃a:Nat,p=a:=⟨p.toNat,by omega⟩
 have hw:IntKind.i64.wrap (p+10)=p+10:=bY (by omega) (by ((try simp only [aa] at*);omega))
 obtain ⟨J1,gj⟩:∃J1:Nat→Int×Int→Prop,∀n i u,J1 n (i,u)↔(∃j:Nat,i=p+j∧j+n=10∧j≤10∧(0≤u∧u<2^(7*j)∧u<18446744073709551616)∧iV 10 0 (s.drop a) 0=iV n j (s.drop (a+j)) u):=⟨fun n v=>match v with|(i,u)=>(∃j:Nat,i=p+j∧j+n=10∧j≤10∧(0≤u∧u<2^(7*j)∧u<18446744073709551616)∧iV 10 0 (s.drop a) 0=iV n j (s.drop (a+j)) u),fun _ _ _=>Iff.rfl⟩
 refine bg ⟨[2,3,4,5,6,7],[],[]⟩ (σ:=Int×Int) (fun v=>[(7,.d (.int .i64 (t _ fun _=>v.1)))]) (fun v=>[(2,.var [.d (.int .u64 (t _ fun _=>v.2))]),(3,.var [AV.d (D.int IntKind.i64 0)])]) J1 ?_
 cbv
 refine aC ⟨10,(_,_),(gj _ _ _).2 ?_,by simp only [ht];rfl,?_⟩
 ·exact ⟨0,by simp,by simp,by simp,by simp,by simp⟩
 rintro n ⟨i,u⟩ hj
 replace hj:=(gj _ _ _).1 hj
 obtain ⟨j,hi,j1,j2,j3,j4⟩:=hj
 cbv
 iterate 4 refine gI (by simp [ht]) ?_
 refine pI (by simp [ht]) ?_
 refine ai (fun h2=>?_) (fun h2=>?_)
 ·simp [ht,aa,hw] at h2
  cbv
  refine bS [false,false,false,false,false,false,false,false,false,false,false,true,true] (by kernel_rfl) (by kernel_rfl) ?_
  cbv
  iterate 3 refine gI (by simp) ?_
  refine gI (by simp [ht,aa];grind) ?_
  iterate 6 refine gI (by simp) ?_
  refine gI (by (simp only [ht];intro _;exact aav hi (by ((try simp only [aa] at*);omega)))) ?_
  refine ⟨?_,?_⟩
  ·(simp only [ht,aa] at*;omega)
  cbv
  refine ai (fun h3=>?_) (fun h3=>?_)
  ·simp [ht,aa] at h3
   cbv
   (refine K9 (xw ht s p _ _ _ (by simp only [ht];rw [JK hi (by ((try simp only [aa] at*);omega)) j3];exact (EI (by ((try simp only [aa] at*);omega)) j3).2.2) (by simp only [ht];intro _;rw [bY (by ((try simp only [aa] at*);omega)) (by ((try simp only [aa] at*);omega))];((try simp only [aa] at*);omega))) (fun q hq=>?_);simp only [ht] at hq;rw [JK hi (by ((try simp only [aa] at*);omega)) j3,bY (x:=i+1) (by ((try simp only [aa] at*);omega)) (by ((try simp only [aa] at*);omega))] at hq)
   cbv
   refine ak trv trv rfl rfl rfl ?_
   (have e:bE s p=q:=(by rw [hq];exact JM ha hi (by ((try simp only [aa] at*);omega)) (by ((try simp only [aa] at*);omega)) j4 (by rw [List.getD_eq_getElem?_getD];assumption));simp only [ht,e];done)
  simp [ht,aa] at h3
  cbv
  refine bu (_,_) (by simp only [ht];rfl) (n-1) ?_ ((gj _ _ _).2 ?_)
  ·((try simp only [aa] at*);omega)
  simp only [aa]
  rw [JK hi (by ((try simp only [aa] at*);omega)) j3,bY (x:=i+1) (by ((try simp only [aa] at*);omega)) (by ((try simp only [aa] at*);omega))]
  refine ⟨j+1,by ((try simp only [aa] at*);omega),by ((try simp only [aa] at*);omega),by ((try simp only [aa] at*);omega),EI (by ((try simp only [aa] at*);omega)) j3,?_⟩
  (rw [j4,AZ (by ((try simp only [aa] at*);omega)) (by ((try simp only [aa] at*);omega)),if_neg (by have e0:i.toNat=a+j:=(by ((try simp only [aa] at*);omega));rw [←e0,List.getD_eq_getElem?_getD];((try simp only [aa] at*);omega)),show i.toNat=a+j by ((try simp only [aa] at*);omega)])
 simp [ht,aa,hw] at h2
 cbv
 (refine K9 (xw ht s p _ _ _ (by simp only [ht];omega) (by intro h;cases h)) (fun q hq=>?_);simp only [ht] at hq)
 cbv
 refine ak trv trv rfl rfl rfl ?_
 (have e:bE s p=q:=(by rw [hq,nI,if_neg (by omega),bE,MX ha (by ((try simp only [aa] at*);omega)) j4]);simp only [ht,e];done)
end Dem
end
