/- Parts of a proof, joined. -/
import Derived.Test.YtihohjnkkalgiaaGreatDoorP22
set_option linter.all false
set_option maxRecDepth 100000
set_option maxHeartbeats 4000000
section
open Go Dem Go.Proofs
namespace Dem
variable {t:Th}
def NV (t:Th) (r:bf×List Int×Int):AV:=.dL [o7 t r.1,SL (t _ fun _=>r.2.1.map cO),bG r.2.2]
theorem Qo {u:List (List D)} {l:List kK} (hu:u=l.map kK.cells) {j:Int} {c:Prop} {o:Option (List D)} {K:Option (List D)→Prop} (hc:c) (ho:o=uf u (.int .u64 j)) (h0:K none) (h1:∀x,K (some [.int .i64 x])):FP true c o K:=by
 subst hu
 rcases EG l j with h|⟨x,h⟩
 ·exact ⟨none,fun _=>⟨hc,ho.trans h⟩,h0⟩
 exact ⟨_,fun _=>⟨hc,ho.trans h⟩,h1 x⟩
theorem zG {u:List (List D)} {l:List kK} (hu:u=l.map kK.cells):∀r∈u,rowIs (.int .u64) 1 r:=by
 subst hu;intro r hr;obtain ⟨m,_,rfl⟩:=List.mem_map.1 hr;exact ⟨_,_,rfl,rfl,rfl⟩
theorem gw {name:aQ} {ps:List Place} {k:Nat} {x:Place} (h:ps[k]?=some x):ff name (ps.take (k+1))=fP name (ff name (ps.take k)) x:=by
 unfold ff;rw [ek h,List.foldl_append];rfl
theorem Jc (ht:TT t) (name:aQ) {l:List Node} {ps:List Place} {es qs:List (List D)} (aA:es=l.map Node.cells) (eU:qs=ps.map Place.cells) (hl:l.length<1000000000) (Ge:ps.length<1000000000)
 (hj:∀x∈ps,0≤x.bS∧x.bS<18446744073709551616) (h12:(ff name ps).length≤12):
 FC 97 [.agg [SL es,SL qs],ST name] [] (.ret (NV t (t _ fun _=>qO ⟨l,ps⟩ name))) []:=by
 refine bL ht (aI:=[]) Tryz.func97 rfl rfl (N:=44) rfl rfl (n:=0) rfl rfl ?_
 cbv
 have av:es.length=l.length:=by rw [aA,lgM]
 have aK:qs.length=ps.length:=by rw [eU,lgM]
 refine aB trv (I9 ht _ _ ‹_› ‹_› ‹_›) trv rfl rfl rfl (fun r0 cF=>?_)
 simp only [ht] at cF
 cbv
 refine an (fun h1=>?_) (fun h1=>?_)
 ·simp [ht,aa,av,aK] at h1
  cbv
  refine ax trv trv rfl rfl rfl ?_
  (simp only [ht,aa,NV,mC,o7,qO];grind)
 simp [ht,aa,av,aK] at h1
 cbv
 obtain ⟨J2,Am⟩:∃J2:Nat→Int×List (List D)→Prop,∀n i u,J2 n (i,u)↔(∃(k:Nat) (w:List kK),i=k∧k+n=ps.length∧u=w.map kK.cells∧w.map kK.bS=ff name (ps.take k)):=⟨fun n v=>match v with|(i,u)=>(∃(k:Nat) (w:List kK),i=k∧k+n=ps.length∧u=w.map kK.cells∧w.map kK.bS=ff name (ps.take k)),fun _ _ _=>Iff.rfl⟩
 refine bI ⟨[1,4,7,9,24,25,26],[],[]⟩ (σ:=Int×List (List D)) (fun v=>[(26,.d (.int .i64 (t _ fun _=>v.1)))]) (fun v=>[(2,.mp false (t _ fun _=>v.2))]) J2 ?_
 cbv
 refine aC ⟨ps.length,(_,_),(Am _ _ _).2 ?_,by simp only [ht];rfl,?_⟩
 ·exact ⟨0,[],rfl,by simp,by simp [ht],rfl⟩
 rintro n ⟨i,u⟩ hj
 replace hj:=(Am _ _ _).1 hj
 obtain ⟨k,w,rfl,q1,q6,q4⟩:=hj
 have v8:u.length=w.length:=by rw [q6,lgM]
 have hnd:(w.map kK.bS).Nodup:=by rw [q4];exact mD _ _ _ List.nodup_nil
 have hwj:∀m∈w,0≤m.bS∧m.bS<18446744073709551616:=(by intro m hm;have h9:m.bS∈ff name (ps.take k):=(by rw [←q4];exact List.mem_map.2 ⟨m,hm,rfl⟩);rw [ff,pn] at h9;obtain ⟨x,hx,_,e⟩:=h9.resolve_left (by simp);rw [←e];exact hj x (List.mem_of_mem_take hx))
 have hlen:w.length≤12:=by have:=congrArg List.length q4;rw [lgM] at this;have:=EH name ps k;omega
 have hmk:ps.length≤k→m5 (w.map kK.bS)=Cm name ps:=(by intro h9;rw [q4,List.take_of_length_le h9];rfl)
 cbv
 refine an (fun h3=>?_) (fun h3=>?_)
 ·simp [ht,aa,av,aK,v8] at h3
  cbv
  refine jZ ht eU (cT:=Place.bC t) (by (simp only [ht,aa];omega)) (by (simp only [ht,aa];omega)) (fun _=>rfl) (fun _=>rfl) (fun x4 FN=>?_)
  simp [ht,aa] at FN
  cbv
  refine an (fun h5=>?_) (fun h5=>?_)
  ·simp [ht,aa,av,aK,v8] at h5
   cbv
   (refine Qo q6 (by simp only [ht];exact ⟨rfl,rfl,zG q6⟩) (by simp only [ht]<;>rfl) ?_ (fun c9=>?_))
   ·cbv
    refine ⟨?_,?_⟩
    ·(simp only [ht];exact ⟨⟨rfl,rfl,zG q6⟩,trv⟩)
    cbv
    refine cL (_,_) (by simp only [ht];rfl) (n-1) ?_ ((Am _ _ _).2 ?_)
    ·omega
    simp only [ht,aa]
    first|exact ⟨k+1,w,aD (by ((try simp only [aa] at*);omega)),by ((try simp only [aa] at*);omega),q6,by rw [gw FN,fP,if_neg ‹_›];exact q4⟩|exact ⟨k+1,nR w (x4).bS _,aD (by ((try simp only [aa] at*);omega)),by ((try simp only [aa] at*);omega),by rw [q6,tF],by rw [gw FN,fP,if_pos ‹_›,mo,q4]⟩
   cbv
   refine ⟨?_,?_⟩
   ·(simp only [ht];exact ⟨⟨rfl,rfl,zG q6⟩,trv⟩)
   cbv
   refine cL (_,_) (by simp only [ht];rfl) (n-1) ?_ ((Am _ _ _).2 ?_)
   ·omega
   simp only [ht,aa]
   first|exact ⟨k+1,w,aD (by ((try simp only [aa] at*);omega)),by ((try simp only [aa] at*);omega),q6,by rw [gw FN,fP,if_neg ‹_›];exact q4⟩|exact ⟨k+1,nR w (x4).bS _,aD (by ((try simp only [aa] at*);omega)),by ((try simp only [aa] at*);omega),by rw [q6,tF],by rw [gw FN,fP,if_pos ‹_›,mo,q4]⟩
  simp [ht,aa,av,aK,v8] at h5
  cbv
  refine cL (_,_) (by simp only [ht];rfl) (n-1) ?_ ((Am _ _ _).2 ?_)
  ·omega
  simp only [ht,aa]
  first|exact ⟨k+1,w,aD (by ((try simp only [aa] at*);omega)),by ((try simp only [aa] at*);omega),q6,by rw [gw FN,fP,if_neg ‹_›];exact q4⟩|exact ⟨k+1,nR w (x4).bS _,aD (by ((try simp only [aa] at*);omega)),by ((try simp only [aa] at*);omega),by rw [q6,tF],by rw [gw FN,fP,if_pos ‹_›,mo,q4]⟩
 simp [ht,aa,av,aK,v8] at h3
 cbv
 (refine ⟨.inr ⟨2,false,_,rfl,?_⟩⟩)
 cbv
 refine c7 [false,false,false,false,true,true,true] (by kernel_rfl) (by kernel_rfl) ?_
 cbv
 iterate 2 refine gI (by simp [ht,ah]) ?_
 refine .inl ?_
 refine mB (fun g9=>⟨trv,trv,Qn ht _⟩) rfl rfl rfl ?_
 cbv
 refine .inr (Ep trv (An ht (by (simp only [ht];((try simp only [aa] at*);omega))) ‹_› ‹_› ‹_›) trv rfl (.inr rfl) rfl ?_)
 cbv
 refine ax trv (by simp [ht]) rfl rfl rfl ?_
 (simp only [ht,NV,o7,qO];rw [←cF,if_pos h1];simp only [hmk (by ((try simp only [aa] at*);omega))];done)
theorem Fv {s:bH} {l:List Int} {k:Nat} {x:Int} (h:l[k]?=some x):fN s (l.take (k+1))=(eJ (fN s (l.take k)) x 6).1:=by
 unfold fN;rw [ek h,List.foldl_append];rfl
theorem KY {s:bH} (h:s.good):∀x∈s.bz.places,0≤x.bS∧x.bS<18446744073709551616:=fun x hx=>by
 obtain ⟨j,hj,_,e,_⟩:=h.ok.places x hx
 have h1:=h.ok.yN j hj
 have h2:=h.ok.next
 rw [←e];omega
theorem NW {s:bH} (h:s.good) (name:aQ):(ff name s.bz.places).length≤12:=by
 have:=I6 h name
 rwa [Cm,Cl] at this
theorem Bt {s:bH} (h:s.good) (name:aQ):(qO s.bz name).2.1.length≤12:=by
 unfold qO;split
 ·exact I6 h name
 simp
theorem Fw (ht:TT t) (x:je) (hx:x.u) {k a b c d:Int} (hk:k=x.kind) (ha:a=x.a) (hb:b=x.b) (hc:c=x.c) (hd:d=x.d) (rd nx ef af:Int) {nl:List Node} {pl:List Place} {tl:List bu} {jl:List Jb} {ql:List cR} {el al:List eI} {ns ps ts js qs es cQ:List (List D)} (fC:ns=nl.map Node.cells) (hps:ps=pl.map Place.cells) (hts:ts=tl.map bu.cells) (eZ:js=jl.map Jb.cells) (eU:qs=ql.map cR.cells) (aA:es=el.map eI.cells) (has:cQ=al.map eI.cells) (hgd:(⟨rd,nx,⟨nl,pl⟩,tl,jl,ql,⟨ef,el⟩,⟨af,al⟩⟩:bH).good):
 FC 42 [.agg [U8 k,U8 a,U8 b,U8 c,U8 d],.agg [az rd,az nx,SL ns,SL ps,SL ts,SL js,SL qs,az ef,SL es,az af,SL cQ]] [] (.ret (fL t (t _ fun _=>j9 x ⟨rd,nx,⟨nl,pl⟩,tl,jl,ql,⟨ef,el⟩,⟨af,al⟩⟩))) []:=by
 obtain ⟨⟨s1,s2⟩,s3,⟨s4,s5⟩,⟨s6,s7⟩,s8,s9,SA⟩:=(show bH.sm _ from hgd.sm)
 simp only at s1 s2 s3 s4 s5 s6 s7 s8 s9 SA
 have uO:∀x∈jl,x.x.gB.u'∧x.x.path.length<1000000000000:=fun x hx=>⟨(s7 x hx).1.2.1,(s7 x hx).1.1⟩
 have Xy:=KY hgd
 have Xz:=NW hgd
 simp only at Xy Xz
 obtain ⟨u1,u2,u3,u4,u5⟩:=id hx
 obtain ⟨Z,hZ⟩:∃Z:bH,Z=⟨rd,nx,⟨nl,pl⟩,tl,jl,ql,⟨ef,el⟩,⟨af,al⟩⟩:=⟨_,rfl⟩
 obtain ⟨S,hS⟩:∃S,S=j9 x ⟨rd,nx,⟨nl,pl⟩,tl,jl,ql,⟨ef,el⟩,⟨af,al⟩⟩:=⟨_,rfl⟩
 rw [←hS]
 obtain ⟨K,hK⟩:∃K:Nat,K=x.kind%8:=⟨_,rfl⟩
 obtain ⟨I,hI⟩:∃I:Int,I=(x.a%12:Nat):=⟨_,rfl⟩
 have k8:k.tmod 8=(K:Int):=by rw [hk,Zt,hK]
 have a12:IntKind.u64.wrap (a.tmod 12)=I:=by rw [ha,WQ,hI,PK _ (by omega)]
 have b3:b.tmod 3=((x.b%3:Nat):Int):=by rw [hb,WS]
 have c2:c.tmod 2=((x.c%2:Nat):Int):=by rw [hc,Yu]
 obtain ⟨Tv,Tw⟩:=Fp s1 s2 (pl:=pl)
 refine bL ht (aI:=[]) Tryz.func42 rfl rfl (N:=129) rfl rfl (n:=0) rfl rfl ?_
 cbv
 have aU:ns.length=nl.length:=by rw [fC,lgM]
 have aW:ps.length=pl.length:=by rw [hps,lgM]
 have aV:ts.length=tl.length:=by rw [hts,lgM]
 have aX:js.length=jl.length:=by rw [eZ,lgM]
 have aK:qs.length=ql.length:=by rw [eU,lgM]
 have av:es.length=el.length:=by rw [aA,lgM]
 have aJ:cQ.length=al.length:=by rw [has,lgM]
 refine ⟨?_,?_⟩
 ·(simp only [ht,aa] at*;omega)
 refine ⟨?_,?_⟩
 ·(simp only [ht,aa] at*;omega)
 cbv
 refine an (fun h0=>?_) (fun h0=>?_)
 ·simp [ht,aa,aU,aW,aV,aX,aK,av,aJ,k8,a12,b3,c2] at h0
  cbv
  refine an (fun h1=>?_) (fun h1=>?_)
  ·simp [ht,aa,aU,aW,aV,aX,aK,av,aJ,k8,a12,b3,c2] at h1
   cbv
   refine tn [] [4,5,6,7] [false,false,false,true,true,false,false,false,true] (by kernel_rfl) (by kernel_rfl) (by kernel_rfl) (by kernel_rfl) (by kernel_rfl) (by kernel_rfl) ?_
   cbv
   iterate 2 refine gI (by simp [ht,ah]) ?_
   refine .inl ?_
   (refine fc (fun g=>⟨by simp [ht],trv,wV ht _ _ _ _ _ x hx hk ha hb hc hd⟩) rfl rfl rfl (fun r1 dM=>?_);simp only [ht] at dM;have Fx:r1.sm:=(by rw [dM];exact iW (lK x)))
   cbv
   (refine aB trv (iv ht rd nx ef af fC hps hts eZ eU aA has _ _ _ _ _ _ _ _ (m8:=r1.bZ) (by simp only [ht]) Fx s4 s6 s8 s9) (by simp [ht]) rfl rfl rfl (fun r2 fh=>?_);simp only [ht] at fh)
   cbv
   iterate 3 refine gI (by simp [ht,ah]) ?_
   refine ax trv trv rfl rfl rfl ?_
   (have e:S=r2.1:=(by rw [hS];unfold j9;rw [if_pos (by ((try simp only [aa] at*);omega)),fh,dM]);simp only [ht,e];done)
  simp [ht,aa,aU,aW,aV,aX,aK,av,aJ,k8,a12,b3,c2] at h1
  omega
 simp [ht,aa,aU,aW,aV,aX,aK,av,aJ,k8,a12,b3,c2] at h0
 cbv
 refine an (fun h2=>?_) (fun h2=>?_)
 ·simp [ht,aa,aU,aW,aV,aX,aK,av,aJ,k8,a12,b3,c2] at h2
  cbv
  refine an (fun h3=>?_) (fun h3=>?_)
  ·simp [ht,aa,aU,aW,aV,aX,aK,av,aJ,k8,a12,b3,c2] at h3
   cbv
   refine tn [] [4,5,6,7] [false,false,false,true,true,false,false,false,true] (by kernel_rfl) (by kernel_rfl) (by kernel_rfl) (by kernel_rfl) (by kernel_rfl) (by kernel_rfl) ?_
   cbv
   iterate 2 refine gI (by simp [ht,ah]) ?_
   refine .inl ?_
   (refine fc (fun g=>⟨by simp [ht],trv,wV ht _ _ _ _ _ x hx hk ha hb hc hd⟩) rfl rfl rfl (fun r1 dM=>?_);simp only [ht] at dM;have Fx:r1.sm:=(by rw [dM];exact iW (lK x)))
   cbv
   (refine aB trv (iv ht rd nx ef af fC hps hts eZ eU aA has _ _ _ _ _ _ _ _ (m8:=r1.bZ) (by simp only [ht]) Fx s4 s6 s8 s9) (by simp [ht]) rfl rfl rfl (fun r2 fh=>?_);simp only [ht] at fh)
   cbv
   iterate 3 refine gI (by simp [ht,ah]) ?_
   refine ax trv trv rfl rfl rfl ?_
   (have e:S=r2.1:=(by rw [hS];unfold j9;rw [if_pos (by ((try simp only [aa] at*);omega)),fh,dM]);simp only [ht,e];done)
  simp [ht,aa,aU,aW,aV,aX,aK,av,aJ,k8,a12,b3,c2] at h3
  contradiction
 simp [ht,aa,aU,aW,aV,aX,aK,av,aJ,k8,a12,b3,c2] at h2
 cbv
 refine an (fun h4=>?_) (fun h4=>?_)
 ·simp [ht,aa,aU,aW,aV,aX,aK,av,aJ,k8,a12,b3,c2] at h4
  cbv
  refine an (fun h5=>?_) (fun h5=>?_)
  ·simp [ht,aa,aU,aW,aV,aX,aK,av,aJ,k8,a12,b3,c2] at h5
   cbv
   refine tn [] [4,5,6,7] [false,false,false,true,true,false,false,false,true] (by kernel_rfl) (by kernel_rfl) (by kernel_rfl) (by kernel_rfl) (by kernel_rfl) (by kernel_rfl) ?_
   cbv
   iterate 2 refine gI (by simp [ht,ah]) ?_
   refine .inl ?_
   (refine fc (fun g=>⟨by simp [ht],trv,wV ht _ _ _ _ _ x hx hk ha hb hc hd⟩) rfl rfl rfl (fun r1 dM=>?_);simp only [ht] at dM;have Fx:r1.sm:=(by rw [dM];exact iW (lK x)))
   cbv
   (refine aB trv (iv ht rd nx ef af fC hps hts eZ eU aA has _ _ _ _ _ _ _ _ (m8:=r1.bZ) (by simp only [ht]) Fx s4 s6 s8 s9) (by simp [ht]) rfl rfl rfl (fun r2 fh=>?_);simp only [ht] at fh)
   cbv
   iterate 3 refine gI (by simp [ht,ah]) ?_
   refine ax trv trv rfl rfl rfl ?_
   (have e:S=r2.1:=(by rw [hS];unfold j9;rw [if_pos (by ((try simp only [aa] at*);omega)),fh,dM]);simp only [ht,e];done)
  simp [ht,aa,aU,aW,aV,aX,aK,av,aJ,k8,a12,b3,c2] at h5
  contradiction
 simp [ht,aa,aU,aW,aV,aX,aK,av,aJ,k8,a12,b3,c2] at h4
 cbv
 refine an (fun h6=>?_) (fun h6=>?_)
 ·simp [ht,aa,aU,aW,aV,aX,aK,av,aJ,k8,a12,b3,c2] at h6
  cbv
  refine tn [] [4,5,6,7] [false,false,false,true,true,false,false,false,true] (by kernel_rfl) (by kernel_rfl) (by kernel_rfl) (by kernel_rfl) (by kernel_rfl) (by kernel_rfl) ?_
  cbv
  iterate 2 refine gI (by simp [ht,ah]) ?_
  refine .inl ?_
  (refine fc (fun g=>⟨by simp [ht],trv,wV ht _ _ _ _ _ x hx hk ha hb hc hd⟩) rfl rfl rfl (fun r1 dM=>?_);simp only [ht] at dM;have Fx:r1.sm:=(by rw [dM];exact iW (lK x)))
  cbv
  (refine aB trv (iv ht rd nx ef af fC hps hts eZ eU aA has _ _ _ _ _ _ _ _ (m8:=r1.bZ) (by simp only [ht]) Fx s4 s6 s8 s9) (by simp [ht]) rfl rfl rfl (fun r2 fh=>?_);simp only [ht] at fh)
  cbv
  iterate 3 refine gI (by simp [ht,ah]) ?_
  refine ax trv trv rfl rfl rfl ?_
  (have e:S=r2.1:=(by rw [hS];unfold j9;rw [if_pos (by ((try simp only [aa] at*);omega)),fh,dM]);simp only [ht,e];done)
 simp [ht,aa,aU,aW,aV,aX,aK,av,aJ,k8,a12,b3,c2] at h6
 cbv
 refine an (fun h7=>?_) (fun h7=>?_)
 ·simp [ht,aa,aU,aW,aV,aX,aK,av,aJ,k8,a12,b3,c2] at h7
  cbv
  refine an (fun h8=>?_) (fun h8=>?_)
  ·simp [ht,aa,aU,aW,aV,aX,aK,av,aJ,k8,a12,b3,c2] at h8
   cbv
   (refine aB trv (pG ht _ rd nx ef af ns ps ts qs es cQ eZ (by ((try simp only [aa] at*);omega))) (by simp [ht]) rfl rfl rfl (fun r1 dM=>?_);simp only [ht,a12] at dM;have Fx:r1.1.x.sm:=(by rw [dM];exact zx (fun x hx=>(s7 x hx).1)))
   cbv
   refine c7 [false,false,false,false,false,false,false,false,false,false,false,false,true,true,false,false,false,true] (by kernel_rfl) (by kernel_rfl) ?_
   cbv
   iterate 2 refine gI (by simp [ht,ah]) ?_
   refine .inl ?_
   (refine fc (fun g=>⟨by simp [ht],trv,yU ht fC hps (by ((try simp only [aa] at*);omega)) (by ((try simp only [aa] at*);omega))⟩) rfl rfl rfl (fun r2 fh=>?_);simp only [ht] at fh)
   cbv
   iterate 9 refine gI (by simp [ht,ah]) ?_
   (first|(refine aB trv (zq ht _ _ _ _ _ (l:=r2) (by simp only [ht]) (by rw [fh];exact Tv) (by rw [fh];exact Tw) (x:=r1.1.x.bZ) (by simp only [ht]) Fx.2.2.1 (fun m hm=>(Fx.2.2.2 m hm).2.1)) (by simp [ht]) rfl rfl rfl (fun r3 ku=>?_);simp only [ht] at ku)|(refine fc (fun g=>⟨by simp [ht],by simp [ht],zq ht _ _ _ _ _ (l:=r2) (by simp only [ht]) (by rw [fh];exact Tv) (by rw [fh];exact Tw) (x:=r1.1.x.bZ) (by simp only [ht]) Fx.2.2.1 (fun m hm=>(Fx.2.2.2 m hm).2.1)⟩) rfl rfl rfl (fun r3 ku=>?_);simp only [ht] at ku))
   cbv
   iterate 3 refine gI (by simp [ht,ah]) ?_
   refine an (fun h9=>?_) (fun h9=>?_)
   ·cbv
    (refine aB trv (zw ht rd nx ef af fC hps hts eZ eU aA has _ (names:=r3.1) (by simp only [ht]) uO s4 s6 s1 s3 s8 s9 (by rw [ku];exact uR _ _ _ _)) (by simp [ht]) rfl rfl rfl (fun r4 eK=>?_);simp only [ht,a12] at eK)
    cbv
    refine ax trv trv rfl rfl rfl ?_
    (have e3:fit (fE ⟨nl,pl⟩) (cG jl (x.a%12:Nat)).1.x.bZ (cG jl (x.a%12:Nat)).1.x.gB (cG jl (x.a%12:Nat)).1.x.count=r3:=(by rw [ku,fh,dM,hI];rfl);have e:S=r4.1:=(by rw [hS];unfold j9;dsimp only;rw [if_neg (by ((try simp only [aa] at*);omega)),if_pos (by ((try simp only [aa] at*);omega)),e3,if_pos ‹_›,eK,hI]);simp only [ht,e];done)
   cbv
   refine ax trv trv rfl rfl rfl ?_
   (have e3:fit (fE ⟨nl,pl⟩) (cG jl (x.a%12:Nat)).1.x.bZ (cG jl (x.a%12:Nat)).1.x.gB (cG jl (x.a%12:Nat)).1.x.count=r3:=(by rw [ku,fh,dM,hI];rfl);have e:S=⟨rd,nx,⟨nl,pl⟩,tl,jl,ql,⟨ef,el⟩,⟨af,al⟩⟩:=(by rw [hS];unfold j9;dsimp only;rw [if_neg (by ((try simp only [aa] at*);omega)),if_pos (by ((try simp only [aa] at*);omega)),e3,if_neg (by simp_all)]);simp only [ht,e,fC,hps,hts,eZ,eU,aA,has];done)
  simp [ht,aa,aU,aW,aV,aX,aK,av,aJ,k8,a12,b3,c2] at h8
  contradiction
 simp [ht,aa,aU,aW,aV,aX,aK,av,aJ,k8,a12,b3,c2] at h7
 cbv
 refine an (fun h10=>?_) (fun h10=>?_)
 ·simp [ht,aa,aU,aW,aV,aX,aK,av,aJ,k8,a12,b3,c2] at h10
  cbv
  (refine aB trv (pG ht _ rd nx ef af ns ps ts qs es cQ eZ (by ((try simp only [aa] at*);omega))) (by simp [ht]) rfl rfl rfl (fun r1 dM=>?_);simp only [ht,a12] at dM;have Fx:r1.1.x.sm:=(by rw [dM];exact zx (fun x hx=>(s7 x hx).1)))
  cbv
  refine c7 [false,false,false,false,false,false,false,false,false,false,false,false,true,true,false,false,false,true] (by kernel_rfl) (by kernel_rfl) ?_
  cbv
  iterate 2 refine gI (by simp [ht,ah]) ?_
  refine .inl ?_
  (refine fc (fun g=>⟨by simp [ht],trv,yU ht fC hps (by ((try simp only [aa] at*);omega)) (by ((try simp only [aa] at*);omega))⟩) rfl rfl rfl (fun r2 fh=>?_);simp only [ht] at fh)
  cbv
  iterate 9 refine gI (by simp [ht,ah]) ?_
  (first|(refine aB trv (zq ht _ _ _ _ _ (l:=r2) (by simp only [ht]) (by rw [fh];exact Tv) (by rw [fh];exact Tw) (x:=r1.1.x.bZ) (by simp only [ht]) Fx.2.2.1 (fun m hm=>(Fx.2.2.2 m hm).2.1)) (by simp [ht]) rfl rfl rfl (fun r3 ku=>?_);simp only [ht] at ku)|(refine fc (fun g=>⟨by simp [ht],by simp [ht],zq ht _ _ _ _ _ (l:=r2) (by simp only [ht]) (by rw [fh];exact Tv) (by rw [fh];exact Tw) (x:=r1.1.x.bZ) (by simp only [ht]) Fx.2.2.1 (fun m hm=>(Fx.2.2.2 m hm).2.1)⟩) rfl rfl rfl (fun r3 ku=>?_);simp only [ht] at ku))
  cbv
  iterate 3 refine gI (by simp [ht,ah]) ?_
  refine an (fun h11=>?_) (fun h11=>?_)
  ·cbv
   (refine aB trv (zw ht rd nx ef af fC hps hts eZ eU aA has _ (names:=r3.1) (by simp only [ht]) uO s4 s6 s1 s3 s8 s9 (by rw [ku];exact uR _ _ _ _)) (by simp [ht]) rfl rfl rfl (fun r4 eK=>?_);simp only [ht,a12] at eK)
   cbv
   refine ax trv trv rfl rfl rfl ?_
   (have e3:fit (fE ⟨nl,pl⟩) (cG jl (x.a%12:Nat)).1.x.bZ (cG jl (x.a%12:Nat)).1.x.gB (cG jl (x.a%12:Nat)).1.x.count=r3:=(by rw [ku,fh,dM,hI];rfl);have e:S=r4.1:=(by rw [hS];unfold j9;dsimp only;rw [if_neg (by ((try simp only [aa] at*);omega)),if_pos (by ((try simp only [aa] at*);omega)),e3,if_pos ‹_›,eK,hI]);simp only [ht,e];done)
  cbv
  refine ax trv trv rfl rfl rfl ?_
  (have e3:fit (fE ⟨nl,pl⟩) (cG jl (x.a%12:Nat)).1.x.bZ (cG jl (x.a%12:Nat)).1.x.gB (cG jl (x.a%12:Nat)).1.x.count=r3:=(by rw [ku,fh,dM,hI];rfl);have e:S=⟨rd,nx,⟨nl,pl⟩,tl,jl,ql,⟨ef,el⟩,⟨af,al⟩⟩:=(by rw [hS];unfold j9;dsimp only;rw [if_neg (by ((try simp only [aa] at*);omega)),if_pos (by ((try simp only [aa] at*);omega)),e3,if_neg (by simp_all)]);simp only [ht,e,fC,hps,hts,eZ,eU,aA,has];done)
 simp [ht,aa,aU,aW,aV,aX,aK,av,aJ,k8,a12,b3,c2] at h10
 cbv
 refine an (fun h12=>?_) (fun h12=>?_)
 ·simp [ht,aa,aU,aW,aV,aX,aK,av,aJ,k8,a12,b3,c2] at h12
  cbv
  (refine aB trv (Sz ht rd nx ef af fC hps hts eZ eU aA has _ _ uO s4 s6 s3 s8 s9) (by simp [ht]) rfl rfl rfl (fun r4 eK=>?_);simp only [ht,a12] at eK)
  cbv
  refine ax trv trv rfl rfl rfl ?_
  (have e:S=r4.1:=(by rw [hS];unfold j9;rw [if_neg (by ((try simp only [aa] at*);omega)),if_neg (by ((try simp only [aa] at*);omega)),if_pos (by ((try simp only [aa] at*);omega)),eK,hI]);simp only [ht,e];done)
 simp [ht,aa,aU,aW,aV,aX,aK,av,aJ,k8,a12,b3,c2] at h12
 cbv
 refine an (fun Nn=>?_) (fun Nn=>?_)
 ·simp [ht,aa,aU,aW,aV,aX,aK,av,aJ,k8,a12,b3,c2] at Nn
  cbv
  refine tn [] [9,10,11,12] [false,false,false,false,false,false,false,false,false,false,false,false,false,false,true,true,true] (by kernel_rfl) (by kernel_rfl) (by kernel_rfl) (by kernel_rfl) (by kernel_rfl) (by kernel_rfl) ?_
  cbv
  iterate 6 refine gI (by simp [ht,ah]) ?_
  (first|(refine jZ ht (l:=fK) (cells:=bg) (cT:=dN t) rfl (by simp only [ht,b3];((try simp only [aa] at*);omega)) (by simp only [ht,b3];simp only [fK,List.length_cons,List.length_nil];((try simp only [aa] at*);omega)) (fun _=>rfl) (fun _=>rfl) (fun xm Vj=>?_);have Vk:fK.getD (x.b%3) []=xm:=(by simp only [ht,b3,Int.toNat_natCast] at Vj;rw [List.getD_eq_getElem?_getD,Vj];rfl);rw [Vl] at Vk;subst Vk)|(refine jZ ht (l:=fK) (cells:=bg) (cT:=dN t) rfl (by simp only [ht,b3];((try simp only [aa] at*);omega)) (by simp only [ht,b3];simp only [fK,List.length_cons,List.length_nil];((try simp only [aa] at*);omega)) (fun _=>rfl) (fun _=>rfl) (fun xn Nq=>?_);have Vl:fK.getD (x.b%3) []=xn:=(by simp only [ht,b3,Int.toNat_natCast] at Nq;rw [List.getD_eq_getElem?_getD,Nq];rfl)))
  cbv
  refine gI (by simp [ht,ah]) ?_
  refine .inl ?_
  (first|(refine aB trv (Jc ht xn fC hps (by ((try simp only [aa] at*);omega)) (by ((try simp only [aa] at*);omega)) Xy (Xz _)) (by simp [ht]) rfl rfl rfl (fun r5 tP=>?_);simp only [ht] at tP;have ZW:r5.2.1.length≤12:=(by rw [tP];exact Bt hgd xn);have YH:∀l,(fN (gJ Z r5.1) l).good:=(fun l=>rZ (by have:=qw hgd xn false;rw [←uT] at this;rw [tP,hZ];exact this) l);have e5:K=7→S=if r5.2.2=0∧x.c%2=0 then fN (gJ Z r5.1) r5.2.1 else gJ Z (eT ⟨nl,pl⟩ xn true).1:=(by intro ZX;rw [hS,hZ,tP,←Vl];unfold j9;rw [if_neg (by ((try simp only [aa] at*);omega)),if_neg (by ((try simp only [aa] at*);omega)),if_neg (by ((try simp only [aa] at*);omega))];rfl))|(refine fc (fun g=>⟨by simp [ht],trv,Jc ht xn fC hps (by ((try simp only [aa] at*);omega)) (by ((try simp only [aa] at*);omega)) Xy (Xz _)⟩) rfl rfl rfl (fun r5 tP=>?_);simp only [ht] at tP;have ZW:r5.2.1.length≤12:=(by rw [tP];exact Bt hgd xn);have YH:∀l,(fN (gJ Z r5.1) l).good:=(fun l=>rZ (by have:=qw hgd xn false;rw [←uT] at this;rw [tP,hZ];exact this) l);have e5:K=7→S=if r5.2.2=0∧x.c%2=0 then fN (gJ Z r5.1) r5.2.1 else gJ Z (eT ⟨nl,pl⟩ xn true).1:=(by intro ZX;rw [hS,hZ,tP,←Vl];unfold j9;rw [if_neg (by ((try simp only [aa] at*);omega)),if_neg (by ((try simp only [aa] at*);omega)),if_neg (by ((try simp only [aa] at*);omega))];rfl)))
  cbv
  iterate 8 refine gI (by simp [ht,ah]) ?_
  refine pI (by simp [ht,ah]) ?_
  refine an (fun Kq=>?_) (fun Kq=>?_)
  ·simp [ht,aa,aU,aW,aV,aX,aK,av,aJ,k8,a12,b3,c2] at Kq
   cbv
   obtain ⟨XA,SK⟩:∃XA:Nat→Int×Int×Int×List (List D)×List (List D)×List (List D)×List (List D)×List (List D)×Int×List (List D)×Int×List (List D)→Prop,∀n i rd nx ns ps ts js qs ef es af cQ,XA n (i,rd,nx,ns,ps,ts,js,qs,ef,es,af,cQ)↔(∃q:Nat,i=q∧q+n=r5.2.1.length∧Told (fN (gJ Z r5.1) (r5.2.1.take q)) rd nx ns ps ts js qs ef es af cQ):=⟨fun n v=>match v with|(i,rd,nx,ns,ps,ts,js,qs,ef,es,af,cQ)=>(∃q:Nat,i=q∧q+n=r5.2.1.length∧Told (fN (gJ Z r5.1) (r5.2.1.take q)) rd nx ns ps ts js qs ef es af cQ),fun _ _ _ _ _ _ _ _ _ _ _ _ _=>Iff.rfl⟩
   refine bI ⟨[3,4,11,13],[],[]⟩ (σ:=Int×Int×Int×List (List D)×List (List D)×List (List D)×List (List D)×List (List D)×Int×List (List D)×Int×List (List D)) (fun v=>[(13,.d (.int .i64 (t _ fun _=>v.1)))]) (fun v=>[(0,.var [.d (.int .u64 (t _ fun _=>v.2.1)),.d (.int .u64 (t _ fun _=>v.2.2.1)),.d (.sl (t _ fun _=>v.2.2.2.1)),.d (.sl (t _ fun _=>v.2.2.2.2.1)),.d (.sl (t _ fun _=>v.2.2.2.2.2.1)),.d (.sl (t _ fun _=>v.2.2.2.2.2.2.1)),.d (.sl (t _ fun _=>v.2.2.2.2.2.2.2.1)),.d (.int .u64 (t _ fun _=>v.2.2.2.2.2.2.2.2.1)),.d (.sl (t _ fun _=>v.2.2.2.2.2.2.2.2.2.1)),.d (.int .u64 (t _ fun _=>v.2.2.2.2.2.2.2.2.2.2.1)),.d (.sl (t _ fun _=>v.2.2.2.2.2.2.2.2.2.2.2))])]) XA ?_
   cbv
   refine aC ⟨r5.2.1.length,(_,_,_,_,_,_,_,_,_,_,_,_),(SK _ _ _ _ _ _ _ _ _ _ _ _ _).2 ?_,by simp only [ht];rfl,?_⟩
   ·exact ⟨0,rfl,by simp,by rw [hZ];exact ⟨rfl,rfl,by first|rfl|simp only [ht],by first|rfl|simp only [ht],hts,eZ,eU,rfl,aA,rfl,has⟩⟩
   rintro n ⟨i,rd,nx,ns,ps,ts,js,qs,ef,es,af,cQ⟩ hj
   replace hj:=(SK _ _ _ _ _ _ _ _ _ _ _ _ _).1 hj
   obtain ⟨q,rfl,j1,jT⟩:=hj
   cbv
   refine an (fun No=>?_) (fun No=>?_)
   ·simp [ht,aa,aU,aW,aV,aX,aK,av,aJ,k8,a12,b3,c2] at No
    cbv
    refine tn [1,2] [1,2,6,7,8] [false,false,false,false,false,true,true,false,false,true] (by kernel_rfl) (by kernel_rfl) (by kernel_rfl) (by kernel_rfl) (by kernel_rfl) (by kernel_rfl) ?_
    cbv
    iterate 3 refine gI (by simp [ht,ah]) ?_
    (refine jZ ht (l:=r5.2.1) (cells:=cO) (cT:=Qg t) (by simp only [ht]<;>rfl) (by simp only [ht,aa];omega) (by simp only [ht,aa];((try simp only [aa] at*);omega)) (fun _=>rfl) (fun _=>rfl) (fun x2 nj=>?_);simp [ht,aa] at nj)
    cbv
    refine gI (by simp [ht,ah]) ?_
    (have Bq:=(YH (r5.2.1.take q)).sm;refine aB trv (wW ht _ _ _ _ (nl:=(fN (gJ Z r5.1) (r5.2.1.take q)).bz.nodes) (pl:=(fN (gJ Z r5.1) (r5.2.1.take q)).bz.places) (tl:=(fN (gJ Z r5.1) (r5.2.1.take q)).tree) (jl:=(fN (gJ Z r5.1) (r5.2.1.take q)).aG) (ql:=(fN (gJ Z r5.1) (r5.2.1.take q)).queue) (el:=(fN (gJ Z r5.1) (r5.2.1.take q)).ev.l) (al:=(fN (gJ Z r5.1) (r5.2.1.take q)).au.l) (by simp only [ht];exact jT.n) (by simp only [ht];exact jT.p) (by simp only [ht];exact jT.t) (by simp only [ht];exact jT.j) (by simp only [ht];exact jT.q) (by simp only [ht];exact jT.e) (by simp only [ht];exact jT.a) _ _ (zB Bq) Bq.tree.1 Bq.aG.1 Bq.places Bq.queue Bq.notes.1) (by simp [ht]) rfl rfl rfl (fun r7 Bn=>?_);simp only [ht] at Bn;rw [jT.eq] at Bn)
    cbv
    iterate 2 refine gI (by simp [ht,ah]) ?_
    refine cL (_,_,_,_,_,_,_,_,_,_,_,_) (by simp only [ht];rfl) (n-1) ?_ ((SK _ _ _ _ _ _ _ _ _ _ _ _ _).2 ?_)
    ·omega
    simp only [ht,aa]
    exact ⟨q+1,aD (by ((try simp only [aa] at*);omega)),by ((try simp only [aa] at*);omega),by rw [Fv nj,←Bn];exact Told.self r7.1⟩
   simp [ht,aa,aU,aW,aV,aX,aK,av,aJ,k8,a12,b3,c2] at No
   cbv
   refine ax trv trv rfl rfl rfl ?_
   (have e:=e5 (by ((try simp only [aa] at*);omega));rw [if_pos ⟨Kq.1,by ((try simp only [aa] at*);omega)⟩] at e;rw [List.take_of_length_le (by ((try simp only [aa] at*);omega))] at jT;simp only [ht,e,jT.r,jT.x,jT.n,jT.p,jT.t,jT.j,jT.q,jT.f,jT.e,jT.g,jT.a];done)
  simp [ht,aa,aU,aW,aV,aX,aK,av,aJ,k8,a12,b3,c2] at Kq
  cbv
  refine tn [] [9,10,11] [false,false,false,false,false,false,false,false,true,true,false,false,true,true] (by kernel_rfl) (by kernel_rfl) (by kernel_rfl) (by kernel_rfl) (by kernel_rfl) (by kernel_rfl) ?_
  cbv
  iterate 6 refine gI (by simp [ht,ah]) ?_
  (first|(refine jZ ht (l:=fK) (cells:=bg) (cT:=dN t) rfl (by simp only [ht,b3];((try simp only [aa] at*);omega)) (by simp only [ht,b3];simp only [fK,List.length_cons,List.length_nil];((try simp only [aa] at*);omega)) (fun _=>rfl) (fun _=>rfl) (fun xm Vj=>?_);have Vk:fK.getD (x.b%3) []=xm:=(by simp only [ht,b3,Int.toNat_natCast] at Vj;rw [List.getD_eq_getElem?_getD,Vj];rfl);rw [Vl] at Vk;subst Vk)|(refine jZ ht (l:=fK) (cells:=bg) (cT:=dN t) rfl (by simp only [ht,b3];((try simp only [aa] at*);omega)) (by simp only [ht,b3];simp only [fK,List.length_cons,List.length_nil];((try simp only [aa] at*);omega)) (fun _=>rfl) (fun _=>rfl) (fun xn Nq=>?_);have Vl:fK.getD (x.b%3) []=xn:=(by simp only [ht,b3,Int.toNat_natCast] at Nq;rw [List.getD_eq_getElem?_getD,Nq];rfl)))
  cbv
  refine gI (by simp [ht,ah]) ?_
  (first|(refine aB trv (Ja ht xn fC hps (by ((try simp only [aa] at*);omega))) (by simp [ht]) rfl rfl rfl (fun r6 mG=>?_);simp only [ht] at mG)|(refine fc (fun g=>⟨by simp [ht],trv,Ja ht xn fC hps (by ((try simp only [aa] at*);omega))⟩) rfl rfl rfl (fun r6 mG=>?_);simp only [ht] at mG))
  cbv
  iterate 2 refine gI (by simp [ht,ah]) ?_
  refine ax trv trv rfl rfl rfl ?_
  (have e:=e5 (by ((try simp only [aa] at*);omega));rw [if_neg (by intro h;have:=Kq h.1;((try simp only [aa] at*);omega))] at e;rw [←mG] at e;simp only [ht,e,hZ,gJ,hts,eZ,eU,aA,has];done)
 simp [ht,aa,aU,aW,aV,aX,aK,av,aJ,k8,a12,b3,c2] at Nn
 (simp only [aa] at*;omega)
theorem KZ (ht:TT t) (N:Nat) (hN:N<256) {a:Int} (ea:a=N) {l:List je} {dl:List (List D)} (Tf:dl=l.map je.cells) (VT:∀x∈l,x.u) (YI:l.length<9223372036854775808):
 FC 15 [U8 a,SL dl] [] (.ret (fL t (t _ fun _=>eH N l (min l.length 40)))) []:=by
 refine bL ht (aI:=[]) Tryz.func15 rfl rfl (N:=26) rfl rfl (n:=0) rfl rfl ?_
 cbv
 have NY:dl.length=l.length:=by rw [Tf,lgM]
 (refine aB trv (zf ht N hN ea) (by simp [ht]) rfl rfl rfl (fun r1 dM=>?_);simp only [ht] at dM)
 cbv
 obtain ⟨J0,fI⟩:∃J0:Nat→Int×Int×Int×List (List D)×List (List D)×List (List D)×List (List D)×List (List D)×Int×List (List D)×Int×List (List D)→Prop,∀n i rd nx ns ps ts js qs ef es af cQ,J0 n (i,rd,nx,ns,ps,ts,js,qs,ef,es,af,cQ)↔(∃k:Nat,i=k∧k+n=40∧k≤l.length∧Told (eH N l k) rd nx ns ps ts js qs ef es af cQ):=⟨fun n v=>match v with|(i,rd,nx,ns,ps,ts,js,qs,ef,es,af,cQ)=>(∃k:Nat,i=k∧k+n=40∧k≤l.length∧Told (eH N l k) rd nx ns ps ts js qs ef es af cQ),fun _ _ _ _ _ _ _ _ _ _ _ _ _=>Iff.rfl⟩
 refine bI ⟨[1,4,5,6],[],[]⟩ (σ:=Int×Int×Int×List (List D)×List (List D)×List (List D)×List (List D)×List (List D)×Int×List (List D)×Int×List (List D)) (fun v=>[(6,.d (.int .i64 (t _ fun _=>v.1)))]) (fun v=>[(1,.var [.d (.int .u64 (t _ fun _=>v.2.1)),.d (.int .u64 (t _ fun _=>v.2.2.1)),.d (.sl (t _ fun _=>v.2.2.2.1)),.d (.sl (t _ fun _=>v.2.2.2.2.1)),.d (.sl (t _ fun _=>v.2.2.2.2.2.1)),.d (.sl (t _ fun _=>v.2.2.2.2.2.2.1)),.d (.sl (t _ fun _=>v.2.2.2.2.2.2.2.1)),.d (.int .u64 (t _ fun _=>v.2.2.2.2.2.2.2.2.1)),.d (.sl (t _ fun _=>v.2.2.2.2.2.2.2.2.2.1)),.d (.int .u64 (t _ fun _=>v.2.2.2.2.2.2.2.2.2.2.1)),.d (.sl (t _ fun _=>v.2.2.2.2.2.2.2.2.2.2.2))])]) J0 ?_
 cbv
 refine aC ⟨40,(_,_,_,_,_,_,_,_,_,_,_,_),(fI _ _ _ _ _ _ _ _ _ _ _ _ _).2 ?_,by simp only [ht];rfl,?_⟩
 ·exact ⟨0,rfl,by omega,by omega,by rw [show eH N l 0=r1 from dM.symm];exact Told.self r1⟩
 rintro n ⟨i,rd,nx,ns,ps,ts,js,qs,ef,es,af,cQ⟩ hj
 replace hj:=(fI _ _ _ _ _ _ _ _ _ _ _ _ _).1 hj
 obtain ⟨k,rfl,j1,j2,jT⟩:=hj
 cbv
 iterate 2 refine gI (by simp [ht,ah]) ?_
 refine pI (by simp [ht,ah]) ?_
 refine an (fun h1=>?_) (fun h1=>?_)
 ·simp [ht,aa,NY] at h1
  cbv
  refine c7 [false,false,false,false,false,true,true] (by kernel_rfl) (by kernel_rfl) ?_
  cbv
  iterate 2 refine gI (by simp [ht,ah]) ?_
  refine jZ ht Tf (cT:=je.bC t) (by (simp only [ht,aa];omega)) (by (simp only [ht,aa];omega)) (fun _=>rfl) (fun _=>rfl) (fun x2 nj=>?_)
  simp [ht,aa] at nj
  cbv
  iterate 2 refine gI (by simp [ht,ah]) ?_
  (first|(refine aB trv (Fw ht x2 (VT x2 (List.mem_of_getElem? nj)) rfl rfl rfl rfl rfl _ _ _ _ (nl:=(eH N l k).bz.nodes) (pl:=(eH N l k).bz.places) (tl:=(eH N l k).tree) (jl:=(eH N l k).aG) (ql:=(eH N l k).queue) (el:=(eH N l k).ev.l) (al:=(eH N l k).au.l) (by simp only [ht];exact jT.n) (by simp only [ht];exact jT.p) (by simp only [ht];exact jT.t) (by simp only [ht];exact jT.j) (by simp only [ht];exact jT.q) (by simp only [ht];exact jT.e) (by simp only [ht];exact jT.a) (by simp only [ht];rw [jT.eq];exact pM N l k)) (by simp [ht]) rfl rfl rfl (fun r1 dM=>?_);simp only [ht] at dM;rw [jT.eq,←wm nj] at dM)|(refine fc (fun g=>⟨by simp [ht],by simp [ht],(Fw ht x2 (VT x2 (List.mem_of_getElem? nj)) rfl rfl rfl rfl rfl rd nx ef af (nl:=(eH N l k).bz.nodes) (pl:=(eH N l k).bz.places) (tl:=(eH N l k).tree) (jl:=(eH N l k).aG) (ql:=(eH N l k).queue) (el:=(eH N l k).ev.l) (al:=(eH N l k).au.l) (by simp only [ht];exact jT.n) (by simp only [ht];exact jT.p) (by simp only [ht];exact jT.t) (by simp only [ht];exact jT.j) (by simp only [ht];exact jT.q) (by simp only [ht];exact jT.e) (by simp only [ht];exact jT.a) (by simp only [ht];rw [jT.eq];exact pM N l k))⟩) rfl rfl rfl (fun r1 dM=>?_);simp only [ht] at dM;rw [jT.eq,←wm nj] at dM))
  cbv
  refine cL (_,_,_,_,_,_,_,_,_,_,_,_) (by simp only [ht];rfl) (n-1) ?_ ((fI _ _ _ _ _ _ _ _ _ _ _ _ _).2 ?_)
  ·((try simp only [aa] at*);omega)
  simp only [ht,aa]
  exact ⟨k+1,aD (by ((try simp only [aa] at*);omega)),by ((try simp only [aa] at*);omega),by ((try simp only [aa] at*);omega),by rw [←dM];exact Told.self r1⟩
 simp [ht,aa,NY] at h1
 cbv
 refine ax trv trv rfl rfl rfl ?_
 (have hk:min l.length 40=k:=(by ((try simp only [aa] at*);omega));simp only [ht,hk,jT.r,jT.x,jT.n,jT.p,jT.t,jT.j,jT.q,jT.f,jT.e,jT.g,jT.a];done)
end Dem
end
section
open Go
namespace Dem
theorem wz {s:bH} (h:s.good) {x:Ask} (hx:zk x):(cN s x).1.good:=⟨h.ok.cN hx.gB,zj h.fT hx,zA h.ok h.wD x⟩
theorem HD {s:bH} (h:s.good) {id:Int} (hi:id<12) (names:List aQ):(eF s id names).1.good:=⟨h.ok.MT _ _,(wh h.ok _ _).fT h.fT,Bp h.ok h.wD hi _⟩
theorem tY (n:Nat):(iT n).good:=⟨yQ n,wi _ n,fun j hj=>by cases hj⟩
def XB:Ask:=⟨[97],⟨3,0,0,0⟩,1,1,5,[]⟩
def TB (tk:Int):Ask:=⟨[98],⟨2,0,0,0⟩,1,3,tk,[]⟩
theorem NZ {a b c d:Int} (h:∀x∈[a,b,c,d],0≤x∧x<18446744073709551616):(⟨a,b,c,d⟩:bM).w:=by
 intro k hk;unfold bM.at_;split<;>exact h _ (by simp)
theorem uZ:zk XB:=⟨by decide,NZ (by decide),by decide,fun m hm=>by cases hm⟩
theorem u7 (tk:Int):zk (TB tk):=⟨by simp [TB],NZ (by decide),by simp [TB],fun m hm=>by cases hm⟩
def Jd:bH:=(cN (iT 192) XB).1
def Je:Int:=(cN (iT 192) XB).2.1
def Bu:bH:=(eF Jd Je [[110,49]]).1
def u9 (tk:Int):bH:=(cN Bu (TB tk)).1
theorem N0:Je<12:=by decide+kernel
theorem zH:Jd.good:=wz (tY 192) uZ
theorem zI:Bu.good:=HD zH N0 _
theorem K0 (tk:Int):(u9 tk).good:=wz zI (u7 tk)
theorem K1:JR.good:=by
 have e:JR=⟨0,1,⟨[],[]⟩,[⟨[],bM.zero,bM.zero⟩],[],[],⟨0,[]⟩,⟨0,[]⟩⟩:=rfl
 refine ⟨?_,⟨fun n hn=>(by cases hn),fun e he=>?_,fun j hj=>(by cases hj)⟩,fun j hj=>(by cases hj)⟩
 ·exact {
   bz:=IF,kr:=ML
   tree:=⟨⟨_,_,rfl,rfl⟩,by decide,by rw [e];exact List.pairwise_singleton _ _,by decide+kernel,by decide+kernel,by decide+kernel,fun x hx=>by rw [List.mem_singleton.1 hx];exact ⟨GK,GK⟩⟩
   used:=fun x hx k _=>by rw [List.mem_singleton.1 hx,Co];rfl
   most:=by decide
   next:=by decide
   ids:=List.Pairwise.nil
   yN:=fun j hj=>by cases hj
   yO:=fun j hj=>by cases hj
   left:=fun j hj=>by cases hj
   tL:=List.Pairwise.nil
   nT:=List.Pairwise.nil
   py:=fun q=>by simp [e]
   places:=fun x hx=>by cases hx
   count:=fun j hj=>by cases hj
   notes:=by decide}
 rw [List.mem_singleton.1 he];decide
theorem ZY:(gH (u9 5) 2).2=false:=by decide+kernel
theorem ZZ:rX (u9 5) 2=true:=by decide+kernel
theorem Z0:rX (u9 5) 1=false:=by decide+kernel
theorem HE {s:bH} {id:Int} {a:Jb} (h:(cG s.aG id).2=true) (g:(s.aG.filter fun o=>o.runs&&decide (o.x.prio<(cG s.aG id).1.x.prio)).map (·.id)=[a.id]):cm s id=[a.id]:=by
 unfold cm
 rw [h]
 obtain ⟨b,hb⟩:∃b,(s.aG.filter fun o=>o.runs&&decide (o.x.prio<(cG s.aG id).1.x.prio))=[b]:=List.length_eq_one_iff.1 (by have:=congrArg List.length g;simpa using this)
 rw [hb] at g ⊢
 simpa using g
theorem wA {s:bH} {id:Int} (g:(s.aG.filter fun o=>o.runs&&decide (o.x.prio<(cG s.aG id).1.x.prio)).map (·.id)=[]):cm s id=[]:=by
 unfold cm
 split
 ·rfl
 rw [List.map_eq_nil_iff.1 g];simp
theorem YJ:cm (u9 5) 2=[1]:=HE (a:=⟨1,Ask.zero,false,0⟩) (by decide+kernel) (by decide+kernel)
theorem Z1:cm (u9 5) 1=[]:=wA (by decide+kernel)
def N1 (s:bH) (id:Int) (A:List Int):List Int×List aQ×Bool:=match kn s id A (A.length+1) 0 with
 |none=>([],[],false)
 |some (l,nodes)=>((fF s id (l.length+1) 0 l nodes).1,(fF s id (l.length+1) 0 l nodes).2,true)
theorem Jf (s:bH) (id:Int):bF s id=N1 s id (cm s id):=rfl
theorem Z2:bF (u9 5) 2=([1],[[110,49]],true):=by rw [Jf,YJ];decide+kernel
theorem Z3:bF JR 1=([],[],false):=by rw [Jf,wA (by decide+kernel)];decide+kernel
theorem Z4:(eJ (u9 5) 1 5).2=0:=by decide+kernel
theorem Z5:gH (eJ (u9 5) 1 5).1 2=([[110,49]],true):=by decide+kernel
theorem XC:(gH (eJ (u9 5) 1 5).1 1).2=true:=by decide+kernel
def gK (v:bM):List bO→Nat→Prop
 |[],n=>n=0
 |s::r,n=>∃m≤n,(∀k<4,m*vk k v≤vk k s.free)∧gK v r (n-m)
theorem gK.zero (v:bM):∀l:List bO,gK v l 0
 |[]=>rfl
 |_::r=>⟨0,Nat.le_refl _,fun k _=>by simp,gK.zero v r⟩
theorem gK.less {v:bM}:∀{l:List bO} {n:Nat},gK v l (n+1)→gK v l n
 |[],n,h=>by cases h
 |s::r,n,⟨m,hm,h1,h2⟩=>by
  cases m with
  |zero=>exact ⟨0,Nat.zero_le _,h1,by simpa using gK.less (l:=r) (n:=n) (by simpa using h2)⟩
  |succ m=>
   refine ⟨m,by omega,fun k hk=>Nat.le_trans (Nat.mul_le_mul_right _ (Nat.le_succ m)) (h1 k hk),?_⟩
   rwa [show n+1-(m+1)=n-m by omega] at h2
theorem gK.put {v:bM} {s':bO}:∀{l:List bO} {i n:Nat} {s:bO},l[i]?=some s→(∀k<4,vk k v≤vk k s.free)→(∀k<4,vk k s'.free=vk k s.free-vk k v)→gK v (l.set i s') n→gK v l (n+1)
 |[],i,n,s,h,_,_,_=>by simp at h
 |x::r,0,n,s,h,hf,he,⟨m,hm,h1,h2⟩=>by
  simp only [List.getElem?_cons_zero,osI] at h;subst h
  refine ⟨m+1,by omega,fun k hk=>?_,by rwa [show n+1-(m+1)=n-m by omega]⟩
  have a:=h1 k hk;have b:=he k hk;have c:=hf k hk
  rw [b] at a
  rw [Nat.add_mul,Nat.one_mul];omega
 |x::r,i+1,n,s,h,hf,he,⟨m,hm,h1,h2⟩=>by
  simp only [List.getElem?_cons_succ] at h
  refine ⟨m,by omega,h1,?_⟩
  rw [show n+1-m=(n-m)+1 by omega]
  exact gK.put h hf he h2
theorem gK.take {v:bM} {s':bO}:∀{l:List bO} {i n:Nat} {s:bO},l[i]?=some s→(∀k<4,vk k s'.free=vk k s.free-vk k v)→gK v l (n+1)→gK v (l.set i s') n
 |[],i,n,s,h,_,_=>by simp at h
 |x::r,0,n,s,h,he,⟨m,hm,h1,h2⟩=>by
  simp only [List.getElem?_cons_zero,osI] at h;subst h
  cases m with
  |zero=>exact ⟨0,Nat.zero_le _,fun k _=>by simp,by simpa using gK.less (l:=r) (n:=n) (by simpa using h2)⟩
  |succ m=>
   refine ⟨m,by omega,fun k hk=>?_,by rwa [show n+1-(m+1)=n-m by omega] at h2⟩
   have a:=h1 k hk;have b:=he k hk
   rw [Nat.add_mul,Nat.one_mul] at a
   rw [b];omega
 |x::r,i+1,n,s,h,he,⟨m,hm,h1,h2⟩=>by
  simp only [List.getElem?_cons_succ] at h
  by_cases e:m=n+1
  ·subst e
   refine ⟨n,Nat.le_refl _,fun k hk=>Nat.le_trans (Nat.mul_le_mul_right _ (Nat.le_succ n)) (h1 k hk),?_⟩
   rw [Nat.sub_self];exact gK.zero v _
  refine ⟨m,by omega,h1,gK.take h he ?_⟩
  rwa [show n+1-m=(n-m)+1 by omega] at h2
theorem gK.one {v:bM}:∀{l:List bO} {n:Nat},gK v l (n+1)→∃s∈l,∀k<4,vk k v≤vk k s.free
 |[],n,h=>by cases h
 |x::r,n,⟨m,hm,h1,h2⟩=>by
  cases m with
  |zero=>
   obtain ⟨s,hs,h⟩:=gK.one (l:=r) (n:=n) (by simpa using h2)
   exact ⟨s,by simp [hs],h⟩
  |succ m=>exact ⟨x,by simp,fun k hk=>by have:=h1 k hk;rw [Nat.add_mul,Nat.one_mul] at this;omega⟩
theorem gK.mono {v:bM}:∀{l l':List bO} {n:Nat},l.length=l'.length→(∀(i:Nat) (s s':bO),l[i]?=some s→l'[i]?=some s'→∀k<4,vk k s.free≤vk k s'.free)→gK v l n→gK v l' n
 |[],[],n,_,_,h=>h
 |[],_::_,_,h,_,_=>by cases h
 |_::_,[],_,h,_,_=>by cases h
 |x::r,y::q,n,hl,hf,⟨m,hm,h1,h2⟩=>
  ⟨m,hm,fun k hk=>Nat.le_trans (h1 k hk) (hf 0 x y rfl rfl k hk),gK.mono (by simpa using hl) (fun i s s' a b=>hf (i+1) s s' (by simpa using a) (by simpa using b)) h2⟩
theorem n6 (v:bM) (hv:v.w):∀(l:List bO) (k:Nat) (b:Ch) (L:List bO),(∀s∈L,s.free.w)→L.drop k=l→
 (b.ok=true→∃s,L[b.at_]?=some s∧(dX s.free v).2=true∧b.left=(dX s.free v).1)→
 ((
  (lG v l k b).ok=true→∃s,L[(lG v l k b).at_]?=some s∧(dX s.free v).2=true∧(lG v l k b).left=(dX s.free v).1)∧
  ((lG v l k b).ok=false→b.ok=false∧∀s∈l,(dX s.free v).2=false))
 |[],k,b,L,_,_,hb=>by simp only [lG];exact ⟨hb,fun h=>⟨h,by simp⟩⟩
 |s::r,k,b,L,hw,hd,hb=>by
  have hs:L[k]?=some s:=by
   have:=congrArg (fun x=>x[0]?) hd
   simpa using this
  have hr:L.drop (k+1)=r:=by rw [←List.drop_drop,hd];rfl
  simp only [lG]
  by_cases c:((dX s.free v).2&&(!b.ok||decide (o9 (dX s.free v).1 b.left<0)))=true
  ·rw [if_pos c]
   rw [Bool.and_eq_true] at c
   obtain ⟨g1,g2⟩:=n6 v hv r (k+1) ⟨k,(dX s.free v).1,true⟩ L hw hr (fun _=>⟨s,hs,c.1,rfl⟩)
   exact ⟨g1,fun h=>absurd (g2 h).1 (by simp)⟩
  rw [if_neg c]
  obtain ⟨g1,g2⟩:=n6 v hv r (k+1) b L hw hr hb
  refine ⟨g1,fun h=>⟨(g2 h).1,fun x hx=>?_⟩⟩
  rcases List.mem_cons.1 hx with rfl|hx
  ·have:=(g2 h).1
   rw [this] at c
   simpa using c
  exact (g2 h).2 x hx
theorem N2 {v:bM} (hv:v.w) {l:List bO} (hw:∀s∈l,s.free.w) (h:(best l v).ok=true):∃s,l[(best l v).at_]?=some s∧(dX s.free v).2=true∧(best l v).left=(dX s.free v).1:=
 (n6 v hv l 0 ⟨0,bM.zero,false⟩ l hw rfl (fun h=>by cases h)).1 h
theorem N3 {v:bM} (hv:v.w) {l:List bO} (hw:∀s∈l,s.free.w) (h:(best l v).ok=false):∀s∈l,(dX s.free v).2=false:=
 ((n6 v hv l 0 ⟨0,bM.zero,false⟩ l hw rfl (fun h=>by cases h)).2 h).2
theorem Fy {v:bM} (hv:v.w):∀(n:Nat) (l:List bO) (out:List aQ),(∀s∈l,s.free.w)→((rM v n l out).2=true↔gK v l n)
 |0,l,out,_=>⟨fun _=>gK.zero v l,fun _=>rfl⟩
 |n+1,l,out,hw=>by
  simp only [rM]
  cases hb:(best l v).ok with
  |false=>
   rw [show (!false)=true from rfl,if_pos rfl]
   refine ⟨fun h=>Bool.noConfusion h,fun h=>?_⟩
   obtain ⟨s,hs,hf⟩:=gK.one h
   have:=N3 hv hw hb s hs
   rw [←Bool.not_eq_true,mh] at this
   exact absurd hf this
  |true=>
   obtain ⟨s,h1,h2,h3⟩:=N2 hv hw hb
   rw [show (!true)=false from rfl,if_neg (by decide)]
   have uO:s∈l:=List.mem_of_getElem? h1
   have hd:l.getD (best l v).at_ default=s:=by rw [List.getD_eq_getElem?_getD,h1];rfl
   rw [hd,h3]
   have hle:∀k<4,vk k ({s with free:=(dX s.free v).1}:bO).free=vk k s.free-vk k v:=fun k hk=>Cq (hw s uO) h2 hk
   have hw':∀x∈l.set (best l v).at_ {s with free:=(dX s.free v).1},x.free.w:=fun x hx=>by
    rcases wS hx with hx|rfl
    ·exact hw x hx
    exact GI h2
   rw [Fy hv n _ _ hw']
   exact ⟨fun h=>gK.put h1 (mh.1 h2) hle h,fun h=>gK.take h1 hle h⟩
theorem K2 {name:aQ} {ps:List Place} {v:bM} {l:List Node} {n:Node} (ha:ID l) (hn:n∈l) (h:(eD n.name l ps).2=true):eD n.name l ps=left n.name ps (n.cap,true):=by
 have h2:=uL ha hn ps
 rw [gj ha hn] at h
 rw [h2,if_pos h]
theorem Jg {p:bf} (h:p.ok) (hw:p.w) {n:Node} (hn:n∈p.nodes) {k:Nat} (hk:k<4):(eD n.name p.nodes p.places).1.at_ k=((vk k n.cap-fJ k (here n.name p.places):Nat):Int):=by
 have h1:=h.free n hn
 rw [gj h.zV hn] at h1
 rw [K2 (name:=n.name) (v:=n.cap) h.zV hn (h.free n hn)]
 exact (m0 n.name p.places n.cap (hw.cap n hn)).2 h1 k hk
theorem Jh {p:bf} (h:p.ok) (hw:p.w) {n:Node} (hn:n∈p.nodes) {k:Nat} (hk:k<4):vk k (eD n.name p.nodes p.places).1=vk k n.cap-fJ k (here n.name p.places):=by
 unfold vk;rw [Jg h hw hn hk];rfl
theorem SM {p:bf} (h:p.ok) (hw:p.w) {n:Node} (hn:n∈p.nodes):(eD n.name p.nodes p.places).1.w:=by
 intro k hk
 have h1:=Jg h hw hn hk
 have h2:=(R3 (hw.cap n hn) hk).2
 rw [h1];omega
def Fz (p:bf) (n:Node):bO:=⟨n.name,(eD n.name p.nodes p.places).1,n.labels⟩
theorem K3 {p:bf} (h:p.ok):fE p=(p.nodes.filter (·.up)).map (Fz p):=by
 have:∀r:List Node,(∀n∈r,n∈p.nodes)→r.filterMap (mZ p.nodes p.places)=(r.filter (·.up)).map (Fz p):=by
  intro r
  induction r with
  |nil=>intro _;rfl
  |cons n r ih=>
   intro hr
   have h1:=h.free n (hr n (by simp))
   have h2:=ih fun m hm=>hr m (by simp [hm])
   rw [List.filterMap_cons,List.filter_cons]
   cases hu:n.up
   ·simp [mZ,hu,h2]
   simp [mZ,hu,h1,h2,Fz]
 exact this p.nodes fun n hn=>hn
theorem pP {p:bf} (h:p.ok) (x:List Term):fitting (fE p) x=((p.nodes.filter (·.up)).filter fun n=>o8 x n.labels).map (Fz p):=by
 rw [K3 h,fitting,List.filter_map];rfl
theorem K4 {p:bf} (h:p.ok) (hw:p.w) (x:List Term):∀s∈fitting (fE p) x,s.free.w:=by
 rw [pP h]
 intro s hs
 obtain ⟨n,hn,rfl⟩:=List.mem_map.1 hs
 exact SM h hw (List.mem_filter.1 (List.mem_filter.1 hn).1).1
theorem Ji {p:bf} (h:p.ok) (hw:p.w) {x:List Term} {v:bM} (hv:v.w) {c:Int} (hc:0≤c∧c≤8):(fit (fE p) x v c).2=true↔gK v (fitting (fE p) x) c.toNat:=by
 unfold fit
 rw [if_neg (by omega),Fy hv _ _ _ (K4 h hw x),show max c 0=c by omega]
theorem N4 {p q:bf} (h:p.ok) (hw:p.w) (h':q.ok) (hw':q.w) (hn:q.nodes=p.nodes) (hu:∀n,∀k<4,fJ k (here n q.places)≤fJ k (here n p.places)) {x:List Term} {v:bM} (hv:v.w) {c:Int} (hc:0≤c∧c≤8)
 (e:(fit (fE p) x v c).2=true):(fit (fE q) x v c).2=true:=by
 rw [Ji h hw hv hc] at e
 rw [Ji h' hw' hv hc]
 rw [pP h] at e
 rw [pP h',hn]
 refine gK.mono (by simp) (fun i s s' a b k hk=>?_) e
 rw [List.getElem?_map] at a b
 cases hi:(List.filter (fun n=>o8 x n.labels) (List.filter (·.up) p.nodes))[i]? with
 |none=>rw [hi] at a;cases a
 |some n=>
  rw [hi] at a b
  simp only [Option.map_some,osI] at a b
  subst a;subst b
  have hm:=(List.mem_filter.1 (List.mem_filter.1 (List.mem_of_getElem? hi)).1).1
  have h1:=Jh h hw hm hk
  have h2:=Jh h' hw' (n:=n) (by rw [hn];exact hm) hk
  have h3:=hu n.name k hk
  simp only [Fz]
  rw [h1,h2];omega
theorem zJ {s:bH} (h:s.ok) {p:aQ} {v:bM}:(dg s.tree p v).2=0↔named p=true∧(∀q∈above p,∃e∈s.tree,e.path=q)∧∀e∈s.tree,e.path∈above p→∀k<4,lU k e.path s.aG+vk k v≤vk k e.fT:=by
 have hz:∀e∈s.tree,(fe v e).2=0↔∀k<4,lU k e.path s.aG+vk k v≤vk k e.fT:=by
  intro e he
  rw [nS,uM]
  constructor
  ·rintro ⟨h1,h2⟩ k hk
   have h3:=rQ.1 h2 k hk
   rw [Cp (uM.2 h1) hk,h.used e he k hk] at h3
   exact h3
  intro h1
  have h2:∀k<4,vk k e.used+vk k v<18446744073709551616:=fun k hk=>by
   have a:=h1 k hk;have b:=(R3 (h.tree.w e he).1 hk).2
   rw [h.used e he k hk];omega
  refine ⟨h2,rQ.2 fun k hk=>?_⟩
  rw [Cp (uM.2 h2) hk,h.used e he k hk]
  exact h1 k hk
 unfold dg
 rcases pp (fe v) h.tree.zV p with ⟨_,e2,e3⟩|⟨e,h1,h2,h3⟩
 ·refine ⟨fun g=>absurd g e2,fun ⟨g1,g2,g3⟩=>?_⟩
  rcases e3 with e3|⟨q,hq,e3⟩|⟨e,he,hp,e3⟩
  ·rw [g1] at e3;cases e3
  ·obtain ⟨e,he,hp⟩:=g2 q hq;exact absurd hp (e3 e he)
  exact absurd ((hz e he).2 (g3 e he hp)) e3
 rw [e]
 exact ⟨fun _=>⟨h1,h2,fun e he hp=>(hz e he).1 (h3 e he hp)⟩,fun _=>rfl⟩
structure N5 (s t:bH):Prop where
 nodes:t.bz.nodes=s.bz.nodes
 places:∀n,∀k<4,fJ k (here n t.bz.places)≤fJ k (here n s.bz.places)
 tree:cK s.tree t.tree
 less:∀p,∀k<4,lU k p t.aG≤lU k p s.aG
theorem FA {s t:bH} (h:s.ok) (h':t.ok) (g:N5 s t) {p:aQ} {v:bM} (e:(dg s.tree p v).2=0):(dg t.tree p v).2=0:=by
 rw [zJ h] at e
 rw [zJ h']
 obtain ⟨e1,e2,e3⟩:=e
 refine ⟨e1,fun q hq=>?_,fun x hx hp k hk=>?_⟩
 ·obtain ⟨e,he,hp⟩:=e2 q hq
  obtain ⟨x,hx,h1⟩:=g.tree.mem he
  exact ⟨x,hx,by rw [h1,hp]⟩
 obtain ⟨e,he,h1,h2⟩:=g.tree.back hx
 have a:=e3 e he (by rw [←h1];exact hp) k hk
 have b:=g.less x.path k hk
 rw [h2];rw [←h1] at a;omega
def Room (s:bH) (j:Jb):Prop:=(fit (fE s.bz) j.x.bZ j.x.gB j.x.count).2=true∧(dg s.tree j.x.path j.tot).2=0
theorem Room.mono {s t:bH} (h:s.ok) (h':t.ok) (g:N5 s t) {j:Jb} (hc:eE j.x=0) (hv:j.x.gB.w) (r:Room s j):Room t j:=by
 have zU:=(gk.1 hc).2.1
 exact ⟨N4 h.bz h.kr h'.bz h'.kr g.nodes g.places hv (by omega) r.1,FA h h' g r.2⟩
theorem K5 {s:bH} (h:s.ok) {i:Nat} {j:Jb} (hj:s.aG[i]?=some j) (hr:j.runs=false):(gH s j.id).2=true↔Room s j:=by
 obtain ⟨_,_,h1⟩:=CH h.ids hj
 have h2:=(gk.1 (h.yO j (List.mem_of_getElem? hj)).1).2.2.2.2.2
 unfold gH kj gA
 rw [h1]
 simp only [hr,h2,Bool.not_false,Bool.and_true,Bool.not_true,Bool.false_or,Room]
 cases h3:(fit (fE s.bz) j.x.bZ j.x.gB j.x.count).2<;>by_cases h4:(dg s.tree j.x.path (dR j.x).1).2=0<;>simp [h4]
theorem N6 {s:bH} {id:Int} (h:(gA s id).2=false):gH s id=([],false):=by
 unfold gH kj;rw [h];rfl
def dZ (l:List Int) (j:Jb):Jb:=if j.runs=true∧j.id∈l then j.halted else j
theorem vb (l:List Int) (j:Jb):(dZ l j).id=j.id∧(dZ l j).x=j.x:=by unfold dZ;split<;>exact ⟨rfl,rfl⟩
theorem pQ (l:List Int) (j:Jb):(dZ l j).runs=true↔j.runs=true∧j.id ∉ l:=by
 unfold dZ
 split
 ·rename_i h;simp [h.2]
 rename_i h;exact ⟨fun g=>⟨g,fun m=>h ⟨g,m⟩⟩,fun g=>g.1⟩
theorem HF (l m:List Int) (j:Jb):dZ m (dZ l j)=dZ (l++m) j:=by
 unfold dZ
 by_cases h1:j.runs=true∧j.id∈l
 ·rw [if_pos h1,if_neg (by simp),if_pos ⟨h1.1,by simp [h1.2]⟩]
 rw [if_neg h1]
 by_cases h2:j.runs=true∧j.id∈m
 ·rw [if_pos h2,if_pos ⟨h2.1,by simp [h2.2]⟩]
 rw [if_neg h2,if_neg (by rintro ⟨a,b⟩;rcases List.mem_append.1 b with b|b;exact h1 ⟨a,b⟩;exact h2 ⟨a,b⟩)]
structure lM (s:bH) (l:List Int) (t:bH):Prop where
 ok:t.ok
 aG:t.aG=s.aG.map (dZ l)
 nodes:t.bz.nodes=s.bz.nodes
 places:t.bz.places=s.bz.places.filter fun x=>!decide (x.bS∈l)
 tree:cK s.tree t.tree
theorem lM.nil {s:bH} (h:s.ok):lM s [] s where
 ok:=h
 aG:=by rw [show dZ []=id from funext fun j=>by simp [dZ],List.map_id]
 nodes:=rfl
 places:=(List.filter_eq_self.2 fun x _=>by simp).symm
 tree:=cK.refl _
theorem lM.app {s t u:bH} {l m:List Int} (h:lM s l t) (g:lM t m u):lM s (l++m) u where
 ok:=g.ok
 aG:=by rw [g.aG,h.aG,List.map_map];exact List.map_congr_left fun j _=>HF l m j
 nodes:=by rw [g.nodes,h.nodes]
 places:=by
  rw [g.places,h.places,List.filter_filter]
  refine List.filter_congr fun x _=>?_
  by_cases h1:x.bS∈l<;>by_cases h2:x.bS∈m<;>simp [h1,h2]
 tree:=h.tree.trans g.tree
theorem Bv {s:bH} (h:s.ok) {id:Int} (hn:∀j∈s.aG,j.id=id→j.runs=false):lM s [id] s where
 ok:=h
 aG:=by
  conv=>lhs;rw [←List.map_id s.aG]
  refine List.map_congr_left fun j hj=>?_
  unfold dZ
  rw [if_neg]
  ·rfl
  rintro ⟨a,b⟩
  rw [hn j hj (by simpa using b)] at a;cases a
 nodes:=rfl
 places:=by
  refine (List.filter_eq_self.2 fun x hx=>?_).symm
  obtain ⟨j,hj,hr,he,_⟩:=h.places x hx
  simp only [List.mem_singleton,Bool.not_eq_true',decide_eq_false_iff_not]
  intro e
  rw [hn j hj (by rw [he,e])] at hr;cases hr
 tree:=cK.refl _
theorem K6 {s:bH} (h:s.ok) (id kind:Int):lM s [id] (eJ s id kind).1:=by
 cases hf:s.aG.findIdx? (fun j=>decide (j.id=id)) with
 |none=>
  have e:(eJ s id kind).1=s:=by unfold eJ;rw [hf]
  rw [e]
  rw [List.findIdx?_eq_none_iff] at hf
  exact Bv h fun j hj he=>by have:=hf j hj;simp [he] at this
 |some i=>
  obtain ⟨j,hj,he,hd⟩:=mE hf
  subst he
  cases hr:j.runs with
  |false=>
   have e:(eJ s j.id kind).1=s:=by unfold eJ;rw [hf];simp only;rw [hd,hr];rfl
   rw [e]
   exact Bv h fun x hx Oi=>by rw [iR h.ids hx (List.mem_of_getElem? hj) Oi,hr]
  |true=>
   obtain ⟨T,Q,h1,h2⟩:=zh h hj hr kind
   have hok:=h.stop j.id kind
   rw [h2] at hok ⊢
   refine ⟨hok,?_,rfl,?_,h1⟩
   ·show s.aG.set i j.halted=_
    refine List.ext_getElem? fun k=>?_
    rw [List.getElem?_map,List.getElem?_set]
    by_cases e:i=k
    ·subst e
     rw [if_pos rfl,hj,if_pos (List.getElem?_eq_some_iff.1 hj).1]
     simp [dZ,hr]
    rw [if_neg e]
    cases hk:s.aG[k]? with
    |none=>rfl
    |some x=>
     have:x.id≠j.id:=fun c=>e (wU h.ids hj hk c.symm)
     simp [dZ,this]
   show (pi s.bz j.id).places=_
   simp [pi]
theorem mF {s:bH} (h:s.ok):∀l:List Int,lM s l (bB s l):=by
 intro l
 induction l generalizing s with
 |nil=>exact lM.nil h
 |cons id l ih=>
  have h1:=K6 h id 5
  exact h1.app (ih h1.ok)
theorem cK.SN {s t u:List bu} (h:cK s t) (g:cK s u):cK t u where
 len:=by rw [g.len,h.len]
 at_:=by
  intro i e hi
  have hl:=(List.getElem?_eq_some_iff.1 hi).1
  rw [h.len] at hl
  obtain ⟨x,h1,h2,h3⟩:=h.at_ i s[i] (List.getElem?_eq_getElem hl)
  obtain ⟨y,g1,g2,g3⟩:=g.at_ i s[i] (List.getElem?_eq_getElem hl)
  rw [hi] at h1;cases h1
  exact ⟨y,g1,by rw [g2,h2],by rw [g3,h3]⟩
theorem n7 {α:Type} {p q:α→Bool} (h:∀x,p x=true→q x=true):∀l:List α,(l.filter p).Sublist (l.filter q)
 |[]=>List.Sublist.slnil
 |x::r=>by
  rw [List.filter_cons,List.filter_cons]
  cases hp:p x
  ·cases hq:q x
   ·simpa using n7 h r
   simpa using (n7 h r).cons x
  rw [h x hp]
  simpa using (n7 h r).cons_cons x
theorem lM.Vm {s t u:bH} {l m:List Int} (h:lM s l t) (g:lM s m u) (hl:∀x∈l,x∈m):N5 t u where
 nodes:=by rw [h.nodes,g.nodes]
 places:=by
  intro n k hk
  rw [h.places,g.places]
  refine yF ?_
  unfold here
  refine List.Sublist.filter _ (n7 (fun x hx=>?_) _)
  simp only [Bool.not_eq_true',decide_eq_false_iff_not] at*
  exact fun c=>hx (hl _ c)
 tree:=h.tree.SN g.tree
 less:=by
  intro p k hk
  rw [h.aG,g.aG]
  have:∀r:List Jb,lU k p (r.map (dZ m))≤lU k p (r.map (dZ l)):=by
   intro r
   induction r with
   |nil=>exact Nat.le_refl _
   |cons j r ih=>
    rw [List.map_cons,List.map_cons,jI,jI]
    refine Nat.add_le_add ?_ ih
    unfold kL
    by_cases c:(dZ m j).runs=true∧p∈above (dZ m j).x.path
    ·obtain ⟨c1,c2⟩:=c
     rw [pQ] at c1
     have d1:(dZ l j).runs=true:=(pQ l j).2 ⟨c1.1,fun c=>c1.2 (hl _ c)⟩
     have e1:(dZ l j).x=(dZ m j).x:=by rw [(vb l j).2,(vb m j).2]
     rw [if_pos ⟨(pQ m j).2 c1,c2⟩,if_pos ⟨d1,by rw [e1];exact c2⟩]
     unfold Jb.tot;rw [e1];exact Nat.le_refl _
    rw [if_neg c];exact Nat.zero_le _
  exact this s.aG
theorem lM.fits {s t:bH} {l:List Int} (g:lM s l t) {i:Nat} {j:Jb} (hj:s.aG[i]?=some j) (hr:j.runs=false):(gH t j.id).2=true↔Room t j:=by
 refine K5 g.ok (i:=i) ?_ hr
 rw [g.aG,List.getElem?_map,hj]
 simp [dZ,hr]
theorem N7 {s:bH} (h:s.ok) {i:Nat} {j:Jb} (hj:s.aG[i]?=some j) (hr:j.runs=false) {l m:List Int} (hl:∀x∈l,x∈m) (e:(fR s j.id l).2=true):(fR s j.id m).2=true:=by
 have h1:=mF h l
 have h2:=mF h m
 have hc:=h.yO j (List.mem_of_getElem? hj)
 unfold fR at*
 rw [h1.fits hj hr] at e
 rw [h2.fits hj hr]
 exact Room.mono h1.ok h2.ok (h1.Vm h2 hl) hc.1 hc.2.1 e
end Dem
end
section
open Go
namespace Dem
section
variable {s:bH} {id:Int}
theorem wB (all:List Int):∀n k:Nat,(match kn s id all n k with|none=>∀m,k≤m→m<k+n→(fR s id (all.take m)).2=false|some (l,nodes)=>∃m,k≤m∧m<k+n∧l=all.take m∧fR s id l=(nodes,true)∧∀m',k≤m'→m'<m→(fR s id (all.take m')).2=false)
 |0,k=>by simp only [kn];intro m h1 h2;omega
 |n+1,k=>by
  simp only [kn]
  by_cases c:(fR s id (all.take k)).2=true
  ·rw [if_pos c]
   exact ⟨k,Nat.le_refl _,by omega,rfl,by rw [←c],fun m' h1 h2=>by omega⟩
  rw [if_neg c]
  have ih:=wB all n (k+1)
  cases h:kn s id all n (k+1) with
  |none=>
   rw [h] at ih
   intro m h1 h2
   by_cases e:m=k
   ·subst e;simpa using c
   exact ih m (by omega) (by omega)
  |some x=>
   obtain ⟨l,nodes⟩:=x
   rw [h] at ih
   obtain ⟨m,h1,h2,h3,h4,h5⟩:=ih
   refine ⟨m,by omega,by omega,h3,h4,fun m' g1 g2=>?_⟩
   by_cases e:m'=k
   ·subst e;simpa using c
   exact h5 m' (by omega) g2
theorem K7 {l:List Int} {i k:Nat} (h:i<k):∀x∈(l.eraseIdx k).eraseIdx i,x∈l.eraseIdx i:=by
 intro x hx
 rw [List.mem_eraseIdx_iff_getElem?] at hx ⊢
 obtain ⟨a,ha,e⟩:=hx
 rw [List.getElem?_eraseIdx] at e
 split at e
 ·exact ⟨a,ha,e⟩
 exact ⟨a+1,by omega,e⟩
theorem pR (hm:∀l m:List Int,(∀x∈l,x∈m)→(fR s id l).2=true→(fR s id m).2=true):∀(n k:Nat) (l:List Int) (nodes:List aQ),l.length≤k+n→fR s id l=(nodes,true)→
 (∀i,i<k→i<l.length→(fR s id (l.eraseIdx i)).2=false)→
 fR s id (fF s id n k l nodes).1=((fF s id n k l nodes).2,true)∧(fF s id n k l nodes).1.Sublist l∧∀i<(fF s id n k l nodes).1.length,(fR s id ((fF s id n k l nodes).1.eraseIdx i)).2=false
 |0,k,l,nodes,hl,he,hn=>by
  simp only [fF]
  exact ⟨he,List.Sublist.refl _,fun i hi=>hn i (by omega) hi⟩
 |n+1,k,l,nodes,hl,he,hn=>by
  simp only [fF]
  by_cases c:k<l.length
  ·rw [if_pos c]
   by_cases d:(fR s id (l.eraseIdx k)).2=true
   ·rw [if_pos d]
    have e:fR s id (l.eraseIdx k)=((fR s id (l.eraseIdx k)).1,true):=by rw [←d]
    have g:=pR hm n k (l.eraseIdx k) _ (by rw [List.length_eraseIdx,if_pos c];omega) e (fun i hi hi2=>by
     cases q:(fR s id ((l.eraseIdx k).eraseIdx i)).2 with
     |false=>rfl
     |true=>
      have:=hm _ _ (K7 hi) q
      rw [hn i hi (by omega)] at this;cases this)
    exact ⟨g.1,g.2.1.trans (List.eraseIdx_sublist _ _),g.2.2⟩
   rw [if_neg d]
   refine pR hm n (k+1) l nodes (by omega) he fun i hi hi2=>?_
   by_cases e:i=k
   ·subst e;simpa using d
   exact hn i (by omega) hi2
  rw [if_neg c]
  exact ⟨he,List.Sublist.refl _,fun i hi=>hn i (by have:i<l.length:=hi;omega) hi⟩
theorem Ao (hm:∀l m:List Int,(∀x∈l,x∈m)→(fR s id l).2=true→(fR s id m).2=true):
 ((bF s id).2.2=false∧(bF s id).1=[]∧(bF s id).2.1=[]∧(fR s id (cm s id)).2=false)∨
 ((
  bF s id).2.2=true∧fR s id (bF s id).1=((bF s id).2.1,true)∧(∀x∈(bF s id).1,x∈cm s id)∧(bF s id).1.Sublist (cm s id)∧(fR s id (cm s id)).2=true∧
  ((fR s id []).2=true→(bF s id).1=[])∧∀i<(bF s id).1.length,(fR s id ((bF s id).1.eraseIdx i)).2=false):=by
 have h:=wB (s:=s) (id:=id) (cm s id) ((cm s id).length+1) 0
 unfold bF
 cases e:kn s id (cm s id) ((cm s id).length+1) 0 with
 |none=>
  rw [e] at h
  refine .inl ⟨rfl,rfl,rfl,?_⟩
  have:=h (cm s id).length (Nat.zero_le _) (by omega)
  rwa [List.take_length] at this
 |some x=>
  obtain ⟨l,nodes⟩:=x
  rw [e] at h
  obtain ⟨m,_,h2,rfl,h4,h5⟩:=h
  obtain ⟨g1,g2,g3⟩:=pR hm (((cm s id).take m).length+1) 0 ((cm s id).take m) nodes (by omega) h4 (fun i hi=>by omega)
  refine .inr ⟨rfl,g1,fun x hx=>List.mem_of_mem_take (g2.subset hx),g2.trans (List.take_sublist _ _),hm _ _ (fun x hx=>List.mem_of_mem_take hx) (by rw [h4]),fun hz=>?_,g3⟩
  have:m=0:=by
   cases m with
   |zero=>rfl
   |succ m=>have:=h5 0 (Nat.le_refl _) (by omega);rw [List.take_zero] at this;rw [hz] at this;cases this
  subst this
  exact List.eq_nil_of_length_eq_zero (by have:=g2.length_le;simp only [List.take_zero,List.length_nil] at this ⊢;omega)
end
theorem SO {s:bH} (h:s.ok) {id:Int} (hn:∀j∈s.aG,j.id≠id) (l:List Int):fR s id l=([],false):=by
 have g:=mF h l
 refine N6 ?_
 have:(cG (bB s l).aG id).2=false:=by
  rw [g.aG]
  unfold cG
  cases e:(s.aG.map (dZ l)).find? (fun j=>decide (j.id=id)) with
  |none=>rfl
  |some x=>
   have h1:=List.mem_of_find?_eq_some e
   have h2:=List.find?_some e
   obtain ⟨j,hj,rfl⟩:=List.mem_map.1 h1
   rw [decide_eq_true_eq,(vb l j).1] at h2
   exact absurd h2 (hn j hj)
 unfold gA;rw [this];rfl
theorem N8 {s:bH} (h:s.ok) {id:Int} (hw:(∃j∈s.aG,j.id=id∧j.runs=false)∨∀j∈s.aG,j.id≠id):
 ∀l m:List Int,(∀x∈l,x∈m)→(fR s id l).2=true→(fR s id m).2=true:=by
 intro l m hl e
 rcases hw with ⟨j,hj,rfl,hr⟩|hn
 ·obtain ⟨i,hi⟩:=List.getElem?_of_mem hj
  exact N7 h hi hr hl e
 rw [SO h hn] at e;cases e
end Dem
end
section
open Go
namespace Dem
theorem FB {s:bH} (h:s.ok) {id:Int} (hw:(∃j∈s.aG,j.id=id∧j.runs=false)∨∀j∈s.aG,j.id≠id):
 ((bF s id).2.2=false→(bF s id).1=[]∧(bF s id).2.1=[])∧
 ((
  bF s id).2.2=true→gH (bB s (bF s id).1) id=((bF s id).2.1,true)∧(∀x∈(bF s id).1,x∈cm s id)∧
  ∀i<(bF s id).1.length,(gH (bB s ((bF s id).1.eraseIdx i)) id).2=false):=by
 rcases Ao (N8 h hw) with ⟨h1,h2,h3,_⟩|⟨h1,h2,h3,_,_,_,h7⟩
 ·exact ⟨fun _=>⟨h2,h3⟩,fun e=>(show False by rw [h1] at e;exact Bool.noConfusion e).elim⟩
 exact ⟨fun e=>(show False by rw [h1] at e;exact Bool.noConfusion e).elim,fun _=>⟨h2,h3,h7⟩⟩
def ke (s:bH) (k:Nat):Int:=if s.queue.length=0 then 0 else (s.queue.getD (k%s.queue.length) ⟨0,0⟩).id
theorem HG {s:bH} (h:s.ok) (k:Nat):(∃j∈s.aG,j.id=ke s k∧j.runs=false)∨∀j∈s.aG,j.id≠ke s k:=by
 unfold ke
 split
 ·exact .inr fun j hj e=>by have:=h.yN j hj;omega
 rename_i hl
 have hk:=Nat.mod_lt k (Nat.pos_of_ne_zero hl)
 have hq:s.queue[k%s.queue.length]?=some s.queue[k%s.queue.length]:=List.getElem?_eq_getElem hk
 rw [List.getD_eq_getElem?_getD,hq]
 obtain ⟨j,hj,hr,e⟩:=(h.py _).1 (List.getElem_mem hk)
 exact .inl ⟨j,hj,by rw [Option.getD_some,e],hr⟩
end Dem
end
