/- Parts of a proof, joined. -/
import Derived.Test.YtihohjnkkalgiaaGreatDoorM22
import Derived.Sort.LotA
set_option linter.all false
set_option maxRecDepth 100000
set_option maxHeartbeats 4000000
section
open Go Dem Go.Proofs
namespace Dem
variable {t:Th}
theorem Ik {s:bE} {l:List Int} {k:Nat} {x:Int} (h:l[k]?=some x):gx s (l.take (k+1))=(eZ (gx s (l.take k)) x 6).1:=by
 unfold gx;rw [dA h,List.foldl_append];rfl
theorem Ot {s:bE} (h:s.good):∀x∈s.bg.places,0≤x.bA∧x.bA<18446744073709551616:=fun x hx=>by
 obtain ⟨j,hj,_,e,_⟩:=h.ok.places x hx
 have h1:=h.ok.zx j hj
 have h2:=h.ok.next
 rw [←e];omega
theorem RL {s:bE} (h:s.good) (name:aH):(fE name s.bg.places).length≤12:=by
 have:=Mn h name
 rwa [EA,Ez] at this
theorem DG {s:bE} (h:s.good) (name:aH):(sZ s.bg name).2.1.length≤12:=by
 unfold sZ;split
 ·exact Mn h name
 simp
theorem Il (ht:TT t) (x:gR) (hx:x.u) {k a b c d:Int} (hk:k=x.kind) (ha:a=x.a) (hb:b=x.b) (hc:c=x.c) (hd:d=x.d) (rd nx ef af:Int) {nl:List Node} {pl:List Place} {tl:List be} {jl:List Jb} {ql:List bZ} {el al:List dQ} {ns ps ts js qs es bV:List (List D)} (eV:ns=nl.map Node.cells) (hps:ps=pl.map Place.cells) (hts:ts=tl.map be.cells) (ek:js=jl.map Jb.cells) (dV:qs=ql.map bZ.cells) (aB:es=el.map dQ.cells) (has:bV=al.map dQ.cells) (hgd:(⟨rd,nx,⟨nl,pl⟩,tl,jl,ql,⟨ef,el⟩,⟨af,al⟩⟩:bE).good):
 FC 42 [.agg [U8 k,U8 a,U8 b,U8 c,U8 d],.agg [aA rd,aA nx,SL ns,SL ps,SL ts,SL js,SL qs,aA ef,SL es,aA af,SL bV]] [] (.ret (dM t (t _ fun _=>kP x ⟨rd,nx,⟨nl,pl⟩,tl,jl,ql,⟨ef,el⟩,⟨af,al⟩⟩))) []:=by
 obtain ⟨⟨s1,s2⟩,s3,⟨s4,s5⟩,⟨s6,s7⟩,s8,s9,T1⟩:=(show bE.sm _ from hgd.sm)
 simp only at s1 s2 s3 s4 s5 s6 s7 s8 s9 T1
 have nD:∀x∈jl,x.x.fK.u'∧x.x.path.length<1000000000000:=fun x hx=>⟨(s7 x hx).1.2.1,(s7 x hx).1.1⟩
 have hpj:=Ot hgd
 have hpm:=RL hgd
 simp only at hpj hpm
 obtain ⟨u1,u2,u3,u4,u5⟩:=id hx
 obtain ⟨Z,hZ⟩:∃Z:bE,Z=⟨rd,nx,⟨nl,pl⟩,tl,jl,ql,⟨ef,el⟩,⟨af,al⟩⟩:=⟨_,rfl⟩
 obtain ⟨S,hS⟩:∃S,S=kP x ⟨rd,nx,⟨nl,pl⟩,tl,jl,ql,⟨ef,el⟩,⟨af,al⟩⟩:=⟨_,rfl⟩
 rw [←hS]
 obtain ⟨K,hK⟩:∃K:Nat,K=x.kind%8:=⟨_,rfl⟩
 obtain ⟨I,hI⟩:∃I:Int,I=(x.a%12:Nat):=⟨_,rfl⟩
 have k8:k.tmod 8=(K:Int):=by rw [hk,tm8,hK]
 have a12:IntKind.u64.wrap (a.tmod 12)=I:=by rw [ha,aaE,hI,Ty _ (by omega)]
 have b3:b.tmod 3=((x.b%3:Nat):Int):=by rw [hb,tm3]
 have c2:c.tmod 2=((x.c%2:Nat):Int):=by rw [hc,tm2]
 obtain ⟨Xk,Xl⟩:=Ie s1 s2 (pl:=pl)
 refine bH ht (aF:=[]) Tryz.func42 rfl rfl (N:=129) rfl rfl (n:=0) rfl rfl ?_
 cbv
 have aX:ns.length=nl.length:=by rw [eV,lgM]
 have aZ:ps.length=pl.length:=by rw [hps,lgM]
 have bc:ts.length=tl.length:=by rw [hts,lgM]
 have aQ:js.length=jl.length:=by rw [ek,lgM]
 have aI:qs.length=ql.length:=by rw [dV,lgM]
 have ap:es.length=el.length:=by rw [aB,lgM]
 have aG:bV.length=al.length:=by rw [has,lgM]
 refine ⟨?_,?_⟩
 ·(simp only [ht,aa] at*;omega)
 refine ⟨?_,?_⟩
 ·(simp only [ht,aa] at*;omega)
 cbv
 refine an (fun h0=>?_) (fun h0=>?_)
 ·simp [ht,aa,aX,aZ,bc,aQ,aI,ap,aG,k8,a12,b3,c2] at h0
  cbv
  refine an (fun h1=>?_) (fun h1=>?_)
  ·simp [ht,aa,aX,aZ,bc,aQ,aI,ap,aG,k8,a12,b3,c2] at h1
   cbv
   refine pZ [] [4,5,6,7] [false,false,false,true,true,false,false,false,true] (by kernel_rfl) (by kernel_rfl) (by kernel_rfl) (by kernel_rfl) (by kernel_rfl) (by kernel_rfl) ?_
   cbv
   iterate 2 refine gI (by simp [ht,ah]) ?_
   refine .inl ?_
   (refine dy (fun g=>⟨by simp [ht],trv,zA ht _ _ _ _ _ x hx hk ha hb hc hd⟩) rfl rfl rfl (fun r1 dL=>?_);simp only [ht] at dL;have Im:r1.sm:=(by rw [dL];exact jM (mB x)))
   cbv
   (refine aE trv (iM ht rd nx ef af eV hps hts ek dV aB has _ _ _ _ _ _ _ _ (mF:=r1.bY) (by simp only [ht]) Im s4 s6 s8 s9) (by simp [ht]) rfl rfl rfl (fun r2 fQ=>?_);simp only [ht] at fQ)
   cbv
   iterate 3 refine gI (by simp [ht,ah]) ?_
   refine av trv trv rfl rfl rfl ?_
   (have e:S=r2.1:=(by rw [hS];unfold kP;rw [if_pos (by ((try simp only [aa] at*);omega)),fQ,dL]);simp only [ht,e];done)
  simp [ht,aa,aX,aZ,bc,aQ,aI,ap,aG,k8,a12,b3,c2] at h1
  omega
 simp [ht,aa,aX,aZ,bc,aQ,aI,ap,aG,k8,a12,b3,c2] at h0
 cbv
 refine an (fun h2=>?_) (fun h2=>?_)
 ·simp [ht,aa,aX,aZ,bc,aQ,aI,ap,aG,k8,a12,b3,c2] at h2
  cbv
  refine an (fun h3=>?_) (fun h3=>?_)
  ·simp [ht,aa,aX,aZ,bc,aQ,aI,ap,aG,k8,a12,b3,c2] at h3
   cbv
   refine pZ [] [4,5,6,7] [false,false,false,true,true,false,false,false,true] (by kernel_rfl) (by kernel_rfl) (by kernel_rfl) (by kernel_rfl) (by kernel_rfl) (by kernel_rfl) ?_
   cbv
   iterate 2 refine gI (by simp [ht,ah]) ?_
   refine .inl ?_
   (refine dy (fun g=>⟨by simp [ht],trv,zA ht _ _ _ _ _ x hx hk ha hb hc hd⟩) rfl rfl rfl (fun r1 dL=>?_);simp only [ht] at dL;have Im:r1.sm:=(by rw [dL];exact jM (mB x)))
   cbv
   (refine aE trv (iM ht rd nx ef af eV hps hts ek dV aB has _ _ _ _ _ _ _ _ (mF:=r1.bY) (by simp only [ht]) Im s4 s6 s8 s9) (by simp [ht]) rfl rfl rfl (fun r2 fQ=>?_);simp only [ht] at fQ)
   cbv
   iterate 3 refine gI (by simp [ht,ah]) ?_
   refine av trv trv rfl rfl rfl ?_
   (have e:S=r2.1:=(by rw [hS];unfold kP;rw [if_pos (by ((try simp only [aa] at*);omega)),fQ,dL]);simp only [ht,e];done)
  simp [ht,aa,aX,aZ,bc,aQ,aI,ap,aG,k8,a12,b3,c2] at h3
  contradiction
 simp [ht,aa,aX,aZ,bc,aQ,aI,ap,aG,k8,a12,b3,c2] at h2
 cbv
 refine an (fun h4=>?_) (fun h4=>?_)
 ·simp [ht,aa,aX,aZ,bc,aQ,aI,ap,aG,k8,a12,b3,c2] at h4
  cbv
  refine an (fun h5=>?_) (fun h5=>?_)
  ·simp [ht,aa,aX,aZ,bc,aQ,aI,ap,aG,k8,a12,b3,c2] at h5
   cbv
   refine pZ [] [4,5,6,7] [false,false,false,true,true,false,false,false,true] (by kernel_rfl) (by kernel_rfl) (by kernel_rfl) (by kernel_rfl) (by kernel_rfl) (by kernel_rfl) ?_
   cbv
   iterate 2 refine gI (by simp [ht,ah]) ?_
   refine .inl ?_
   (refine dy (fun g=>⟨by simp [ht],trv,zA ht _ _ _ _ _ x hx hk ha hb hc hd⟩) rfl rfl rfl (fun r1 dL=>?_);simp only [ht] at dL;have Im:r1.sm:=(by rw [dL];exact jM (mB x)))
   cbv
   (refine aE trv (iM ht rd nx ef af eV hps hts ek dV aB has _ _ _ _ _ _ _ _ (mF:=r1.bY) (by simp only [ht]) Im s4 s6 s8 s9) (by simp [ht]) rfl rfl rfl (fun r2 fQ=>?_);simp only [ht] at fQ)
   cbv
   iterate 3 refine gI (by simp [ht,ah]) ?_
   refine av trv trv rfl rfl rfl ?_
   (have e:S=r2.1:=(by rw [hS];unfold kP;rw [if_pos (by ((try simp only [aa] at*);omega)),fQ,dL]);simp only [ht,e];done)
  simp [ht,aa,aX,aZ,bc,aQ,aI,ap,aG,k8,a12,b3,c2] at h5
  contradiction
 simp [ht,aa,aX,aZ,bc,aQ,aI,ap,aG,k8,a12,b3,c2] at h4
 cbv
 refine an (fun h6=>?_) (fun h6=>?_)
 ·simp [ht,aa,aX,aZ,bc,aQ,aI,ap,aG,k8,a12,b3,c2] at h6
  cbv
  refine pZ [] [4,5,6,7] [false,false,false,true,true,false,false,false,true] (by kernel_rfl) (by kernel_rfl) (by kernel_rfl) (by kernel_rfl) (by kernel_rfl) (by kernel_rfl) ?_
  cbv
  iterate 2 refine gI (by simp [ht,ah]) ?_
  refine .inl ?_
  (refine dy (fun g=>⟨by simp [ht],trv,zA ht _ _ _ _ _ x hx hk ha hb hc hd⟩) rfl rfl rfl (fun r1 dL=>?_);simp only [ht] at dL;have Im:r1.sm:=(by rw [dL];exact jM (mB x)))
  cbv
  (refine aE trv (iM ht rd nx ef af eV hps hts ek dV aB has _ _ _ _ _ _ _ _ (mF:=r1.bY) (by simp only [ht]) Im s4 s6 s8 s9) (by simp [ht]) rfl rfl rfl (fun r2 fQ=>?_);simp only [ht] at fQ)
  cbv
  iterate 3 refine gI (by simp [ht,ah]) ?_
  refine av trv trv rfl rfl rfl ?_
  (have e:S=r2.1:=(by rw [hS];unfold kP;rw [if_pos (by ((try simp only [aa] at*);omega)),fQ,dL]);simp only [ht,e];done)
 simp [ht,aa,aX,aZ,bc,aQ,aI,ap,aG,k8,a12,b3,c2] at h6
 cbv
 refine an (fun h7=>?_) (fun h7=>?_)
 ·simp [ht,aa,aX,aZ,bc,aQ,aI,ap,aG,k8,a12,b3,c2] at h7
  cbv
  refine an (fun h8=>?_) (fun h8=>?_)
  ·simp [ht,aa,aX,aZ,bc,aQ,aI,ap,aG,k8,a12,b3,c2] at h8
   cbv
   (refine aE trv (ij ht _ rd nx ef af ns ps ts qs es bV ek (by ((try simp only [aa] at*);omega))) (by simp [ht]) rfl rfl rfl (fun r1 dL=>?_);simp only [ht,a12] at dL;have Im:r1.1.x.sm:=(by rw [dL];exact BH (fun x hx=>(s7 x hx).1)))
   cbv
   refine cO [false,false,false,false,false,false,false,false,false,false,false,false,true,true,false,false,false,true] (by kernel_rfl) (by kernel_rfl) ?_
   cbv
   iterate 2 refine gI (by simp [ht,ah]) ?_
   refine .inl ?_
   (refine dy (fun g=>⟨by simp [ht],trv,Bh ht eV hps (by ((try simp only [aa] at*);omega)) (by ((try simp only [aa] at*);omega))⟩) rfl rfl rfl (fun r2 fQ=>?_);simp only [ht] at fQ)
   cbv
   iterate 9 refine gI (by simp [ht,ah]) ?_
   (first|(refine aE trv (BD ht _ _ _ _ _ (l:=r2) (by simp only [ht]) (by rw [fQ];exact Xk) (by rw [fQ];exact Xl) (x:=r1.1.x.bY) (by simp only [ht]) Im.2.2.1 (fun m hm=>(Im.2.2.2 m hm).2.1)) (by simp [ht]) rfl rfl rfl (fun r3 iV=>?_);simp only [ht] at iV)|(refine dy (fun g=>⟨by simp [ht],by simp [ht],BD ht _ _ _ _ _ (l:=r2) (by simp only [ht]) (by rw [fQ];exact Xk) (by rw [fQ];exact Xl) (x:=r1.1.x.bY) (by simp only [ht]) Im.2.2.1 (fun m hm=>(Im.2.2.2 m hm).2.1)⟩) rfl rfl rfl (fun r3 iV=>?_);simp only [ht] at iV))
   cbv
   iterate 3 refine gI (by simp [ht,ah]) ?_
   refine an (fun h9=>?_) (fun h9=>?_)
   ·cbv
    (refine aE trv (vR ht rd nx ef af eV hps hts ek dV aB has _ (names:=r3.1) (by simp only [ht]) nD s4 s6 s1 s3 s8 s9 (by rw [iV];exact w8 _ _ _ _)) (by simp [ht]) rfl rfl rfl (fun r4 iA=>?_);simp only [ht,a12] at iA)
    cbv
    refine av trv trv rfl rfl rfl ?_
    (have e3:fit (eR ⟨nl,pl⟩) (bG jl (x.a%12:Nat)).1.x.bY (bG jl (x.a%12:Nat)).1.x.fK (bG jl (x.a%12:Nat)).1.x.count=r3:=(by rw [iV,fQ,dL,hI];rfl);have e:S=r4.1:=(by rw [hS];unfold kP;dsimp only;rw [if_neg (by ((try simp only [aa] at*);omega)),if_pos (by ((try simp only [aa] at*);omega)),e3,if_pos ‹_›,iA,hI]);simp only [ht,e];done)
   cbv
   refine av trv trv rfl rfl rfl ?_
   (have e3:fit (eR ⟨nl,pl⟩) (bG jl (x.a%12:Nat)).1.x.bY (bG jl (x.a%12:Nat)).1.x.fK (bG jl (x.a%12:Nat)).1.x.count=r3:=(by rw [iV,fQ,dL,hI];rfl);have e:S=⟨rd,nx,⟨nl,pl⟩,tl,jl,ql,⟨ef,el⟩,⟨af,al⟩⟩:=(by rw [hS];unfold kP;dsimp only;rw [if_neg (by ((try simp only [aa] at*);omega)),if_pos (by ((try simp only [aa] at*);omega)),e3,if_neg (by simp_all)]);simp only [ht,e,eV,hps,hts,ek,dV,aB,has];done)
  simp [ht,aa,aX,aZ,bc,aQ,aI,ap,aG,k8,a12,b3,c2] at h8
  contradiction
 simp [ht,aa,aX,aZ,bc,aQ,aI,ap,aG,k8,a12,b3,c2] at h7
 cbv
 refine an (fun h10=>?_) (fun h10=>?_)
 ·simp [ht,aa,aX,aZ,bc,aQ,aI,ap,aG,k8,a12,b3,c2] at h10
  cbv
  (refine aE trv (ij ht _ rd nx ef af ns ps ts qs es bV ek (by ((try simp only [aa] at*);omega))) (by simp [ht]) rfl rfl rfl (fun r1 dL=>?_);simp only [ht,a12] at dL;have Im:r1.1.x.sm:=(by rw [dL];exact BH (fun x hx=>(s7 x hx).1)))
  cbv
  refine cO [false,false,false,false,false,false,false,false,false,false,false,false,true,true,false,false,false,true] (by kernel_rfl) (by kernel_rfl) ?_
  cbv
  iterate 2 refine gI (by simp [ht,ah]) ?_
  refine .inl ?_
  (refine dy (fun g=>⟨by simp [ht],trv,Bh ht eV hps (by ((try simp only [aa] at*);omega)) (by ((try simp only [aa] at*);omega))⟩) rfl rfl rfl (fun r2 fQ=>?_);simp only [ht] at fQ)
  cbv
  iterate 9 refine gI (by simp [ht,ah]) ?_
  (first|(refine aE trv (BD ht _ _ _ _ _ (l:=r2) (by simp only [ht]) (by rw [fQ];exact Xk) (by rw [fQ];exact Xl) (x:=r1.1.x.bY) (by simp only [ht]) Im.2.2.1 (fun m hm=>(Im.2.2.2 m hm).2.1)) (by simp [ht]) rfl rfl rfl (fun r3 iV=>?_);simp only [ht] at iV)|(refine dy (fun g=>⟨by simp [ht],by simp [ht],BD ht _ _ _ _ _ (l:=r2) (by simp only [ht]) (by rw [fQ];exact Xk) (by rw [fQ];exact Xl) (x:=r1.1.x.bY) (by simp only [ht]) Im.2.2.1 (fun m hm=>(Im.2.2.2 m hm).2.1)⟩) rfl rfl rfl (fun r3 iV=>?_);simp only [ht] at iV))
  cbv
  iterate 3 refine gI (by simp [ht,ah]) ?_
  refine an (fun h11=>?_) (fun h11=>?_)
  ·cbv
   (refine aE trv (vR ht rd nx ef af eV hps hts ek dV aB has _ (names:=r3.1) (by simp only [ht]) nD s4 s6 s1 s3 s8 s9 (by rw [iV];exact w8 _ _ _ _)) (by simp [ht]) rfl rfl rfl (fun r4 iA=>?_);simp only [ht,a12] at iA)
   cbv
   refine av trv trv rfl rfl rfl ?_
   (have e3:fit (eR ⟨nl,pl⟩) (bG jl (x.a%12:Nat)).1.x.bY (bG jl (x.a%12:Nat)).1.x.fK (bG jl (x.a%12:Nat)).1.x.count=r3:=(by rw [iV,fQ,dL,hI];rfl);have e:S=r4.1:=(by rw [hS];unfold kP;dsimp only;rw [if_neg (by ((try simp only [aa] at*);omega)),if_pos (by ((try simp only [aa] at*);omega)),e3,if_pos ‹_›,iA,hI]);simp only [ht,e];done)
  cbv
  refine av trv trv rfl rfl rfl ?_
  (have e3:fit (eR ⟨nl,pl⟩) (bG jl (x.a%12:Nat)).1.x.bY (bG jl (x.a%12:Nat)).1.x.fK (bG jl (x.a%12:Nat)).1.x.count=r3:=(by rw [iV,fQ,dL,hI];rfl);have e:S=⟨rd,nx,⟨nl,pl⟩,tl,jl,ql,⟨ef,el⟩,⟨af,al⟩⟩:=(by rw [hS];unfold kP;dsimp only;rw [if_neg (by ((try simp only [aa] at*);omega)),if_pos (by ((try simp only [aa] at*);omega)),e3,if_neg (by simp_all)]);simp only [ht,e,eV,hps,hts,ek,dV,aB,has];done)
 simp [ht,aa,aX,aZ,bc,aQ,aI,ap,aG,k8,a12,b3,c2] at h10
 cbv
 refine an (fun h12=>?_) (fun h12=>?_)
 ·simp [ht,aa,aX,aZ,bc,aQ,aI,ap,aG,k8,a12,b3,c2] at h12
  cbv
  (refine aE trv (Rn ht rd nx ef af eV hps hts ek dV aB has _ _ nD s4 s6 s3 s8 s9) (by simp [ht]) rfl rfl rfl (fun r4 iA=>?_);simp only [ht,a12] at iA)
  cbv
  refine av trv trv rfl rfl rfl ?_
  (have e:S=r4.1:=(by rw [hS];unfold kP;rw [if_neg (by ((try simp only [aa] at*);omega)),if_neg (by ((try simp only [aa] at*);omega)),if_pos (by ((try simp only [aa] at*);omega)),iA,hI]);simp only [ht,e];done)
 simp [ht,aa,aX,aZ,bc,aQ,aI,ap,aG,k8,a12,b3,c2] at h12
 cbv
 refine an (fun IV=>?_) (fun IV=>?_)
 ·simp [ht,aa,aX,aZ,bc,aQ,aI,ap,aG,k8,a12,b3,c2] at IV
  cbv
  refine pZ [] [9,10,11,12] [false,false,false,false,false,false,false,false,false,false,false,false,false,false,true,true,true] (by kernel_rfl) (by kernel_rfl) (by kernel_rfl) (by kernel_rfl) (by kernel_rfl) (by kernel_rfl) ?_
  cbv
  iterate 6 refine gI (by simp [ht,ah]) ?_
  (first|(refine fP ht (l:=gv) (cells:=bu) (cT:=eA t) rfl (by simp only [ht,b3];((try simp only [aa] at*);omega)) (by simp only [ht,b3];simp only [gv,List.length_cons,List.length_nil];((try simp only [aa] at*);omega)) (fun _=>rfl) (fun _=>rfl) (fun xm Zb=>?_);have Zc:gv.getD (x.b%3) []=xm:=(by simp only [ht,b3,Int.toNat_natCast] at Zb;rw [List.getD_eq_getElem?_getD,Zb];rfl);rw [Zd] at Zc;subst Zc)|(refine fP ht (l:=gv) (cells:=bu) (cT:=eA t) rfl (by simp only [ht,b3];((try simp only [aa] at*);omega)) (by simp only [ht,b3];simp only [gv,List.length_cons,List.length_nil];((try simp only [aa] at*);omega)) (fun _=>rfl) (fun _=>rfl) (fun xn Q3=>?_);have Zd:gv.getD (x.b%3) []=xn:=(by simp only [ht,b3,Int.toNat_natCast] at Q3;rw [List.getD_eq_getElem?_getD,Q3];rfl)))
  cbv
  refine gI (by simp [ht,ah]) ?_
  refine .inl ?_
  (first|(refine aE trv (Ms ht xn eV hps (by ((try simp only [aa] at*);omega)) (by ((try simp only [aa] at*);omega)) hpj (hpm _)) (by simp [ht]) rfl rfl rfl (fun r5 pH=>?_);simp only [ht] at pH;have hl5:r5.2.1.length≤12:=(by rw [pH];exact DG hgd xn);have hG5:∀l,(gx (iq Z r5.1) l).good:=(fun l=>uq (by have:=sG hgd xn false;rw [←xg] at this;rw [pH,hZ];exact this) l);have e5:K=7→S=if r5.2.2=0∧x.c%2=0 then gx (iq Z r5.1) r5.2.1 else iq Z (fm ⟨nl,pl⟩ xn true).1:=(by intro hK7;rw [hS,hZ,pH,←Zd];unfold kP;rw [if_neg (by ((try simp only [aa] at*);omega)),if_neg (by ((try simp only [aa] at*);omega)),if_neg (by ((try simp only [aa] at*);omega))];rfl))|(refine dy (fun g=>⟨by simp [ht],trv,Ms ht xn eV hps (by ((try simp only [aa] at*);omega)) (by ((try simp only [aa] at*);omega)) hpj (hpm _)⟩) rfl rfl rfl (fun r5 pH=>?_);simp only [ht] at pH;have hl5:r5.2.1.length≤12:=(by rw [pH];exact DG hgd xn);have hG5:∀l,(gx (iq Z r5.1) l).good:=(fun l=>uq (by have:=sG hgd xn false;rw [←xg] at this;rw [pH,hZ];exact this) l);have e5:K=7→S=if r5.2.2=0∧x.c%2=0 then gx (iq Z r5.1) r5.2.1 else iq Z (fm ⟨nl,pl⟩ xn true).1:=(by intro hK7;rw [hS,hZ,pH,←Zd];unfold kP;rw [if_neg (by ((try simp only [aa] at*);omega)),if_neg (by ((try simp only [aa] at*);omega)),if_neg (by ((try simp only [aa] at*);omega))];rfl)))
  cbv
  iterate 8 refine gI (by simp [ht,ah]) ?_
  refine pI (by simp [ht,ah]) ?_
  refine an (fun NG=>?_) (fun NG=>?_)
  ·simp [ht,aa,aX,aZ,bc,aQ,aI,ap,aG,k8,a12,b3,c2] at NG
   cbv
   obtain ⟨J15,WJ⟩:∃J15:Nat→Int×Int×Int×List (List D)×List (List D)×List (List D)×List (List D)×List (List D)×Int×List (List D)×Int×List (List D)→Prop,∀n i rd nx ns ps ts js qs ef es af bV,J15 n (i,rd,nx,ns,ps,ts,js,qs,ef,es,af,bV)↔(∃q:Nat,i=q∧q+n=r5.2.1.length∧Told (gx (iq Z r5.1) (r5.2.1.take q)) rd nx ns ps ts js qs ef es af bV):=⟨fun n v=>match v with|(i,rd,nx,ns,ps,ts,js,qs,ef,es,af,bV)=>(∃q:Nat,i=q∧q+n=r5.2.1.length∧Told (gx (iq Z r5.1) (r5.2.1.take q)) rd nx ns ps ts js qs ef es af bV),fun _ _ _ _ _ _ _ _ _ _ _ _ _=>Iff.rfl⟩
   refine bF ⟨[3,4,11,13],[],[]⟩ (σ:=Int×Int×Int×List (List D)×List (List D)×List (List D)×List (List D)×List (List D)×Int×List (List D)×Int×List (List D)) (fun v=>[(13,.d (.int .i64 (t _ fun _=>v.1)))]) (fun v=>[(0,.var [.d (.int .u64 (t _ fun _=>v.2.1)),.d (.int .u64 (t _ fun _=>v.2.2.1)),.d (.sl (t _ fun _=>v.2.2.2.1)),.d (.sl (t _ fun _=>v.2.2.2.2.1)),.d (.sl (t _ fun _=>v.2.2.2.2.2.1)),.d (.sl (t _ fun _=>v.2.2.2.2.2.2.1)),.d (.sl (t _ fun _=>v.2.2.2.2.2.2.2.1)),.d (.int .u64 (t _ fun _=>v.2.2.2.2.2.2.2.2.1)),.d (.sl (t _ fun _=>v.2.2.2.2.2.2.2.2.2.1)),.d (.int .u64 (t _ fun _=>v.2.2.2.2.2.2.2.2.2.2.1)),.d (.sl (t _ fun _=>v.2.2.2.2.2.2.2.2.2.2.2))])]) J15 ?_
   cbv
   refine aD ⟨r5.2.1.length,(_,_,_,_,_,_,_,_,_,_,_,_),(WJ _ _ _ _ _ _ _ _ _ _ _ _ _).2 ?_,by simp only [ht];rfl,?_⟩
   ·exact ⟨0,rfl,by simp,by rw [hZ];exact ⟨rfl,rfl,by first|rfl|simp only [ht],by first|rfl|simp only [ht],hts,ek,dV,rfl,aB,rfl,has⟩⟩
   rintro n ⟨i,rd,nx,ns,ps,ts,js,qs,ef,es,af,bV⟩ hj
   replace hj:=(WJ _ _ _ _ _ _ _ _ _ _ _ _ _).1 hj
   obtain ⟨q,rfl,j1,jT⟩:=hj
   cbv
   refine an (fun Q0=>?_) (fun Q0=>?_)
   ·simp [ht,aa,aX,aZ,bc,aQ,aI,ap,aG,k8,a12,b3,c2] at Q0
    cbv
    refine pZ [1,2] [1,2,6,7,8] [false,false,false,false,false,true,true,false,false,true] (by kernel_rfl) (by kernel_rfl) (by kernel_rfl) (by kernel_rfl) (by kernel_rfl) (by kernel_rfl) ?_
    cbv
    iterate 3 refine gI (by simp [ht,ah]) ?_
    (refine fP ht (l:=r5.2.1) (cells:=cY) (cT:=Uc t) (by simp only [ht]<;>rfl) (by simp only [ht,aa];omega) (by simp only [ht,aa];((try simp only [aa] at*);omega)) (fun _=>rfl) (fun _=>rfl) (fun x2 fZ=>?_);simp [ht,aa] at fZ)
    cbv
    refine gI (by simp [ht,ah]) ?_
    (have xk:=(hG5 (r5.2.1.take q)).sm;refine aE trv (zC ht _ _ _ _ (nl:=(gx (iq Z r5.1) (r5.2.1.take q)).bg.nodes) (pl:=(gx (iq Z r5.1) (r5.2.1.take q)).bg.places) (tl:=(gx (iq Z r5.1) (r5.2.1.take q)).tree) (jl:=(gx (iq Z r5.1) (r5.2.1.take q)).ay) (ql:=(gx (iq Z r5.1) (r5.2.1.take q)).queue) (el:=(gx (iq Z r5.1) (r5.2.1.take q)).ev.l) (al:=(gx (iq Z r5.1) (r5.2.1.take q)).au.l) (by simp only [ht];exact jT.n) (by simp only [ht];exact jT.p) (by simp only [ht];exact jT.t) (by simp only [ht];exact jT.j) (by simp only [ht];exact jT.q) (by simp only [ht];exact jT.e) (by simp only [ht];exact jT.a) _ _ (ur xk) xk.tree.1 xk.ay.1 xk.places xk.queue xk.notes.1) (by simp [ht]) rfl rfl rfl (fun r7 pK=>?_);simp only [ht] at pK;rw [jT.eq] at pK)
    cbv
    iterate 2 refine gI (by simp [ht,ah]) ?_
    refine bQ (_,_,_,_,_,_,_,_,_,_,_,_) (by simp only [ht];rfl) (n-1) ?_ ((WJ _ _ _ _ _ _ _ _ _ _ _ _ _).2 ?_)
    ·omega
    simp only [ht,aa]
    exact ⟨q+1,aC (by ((try simp only [aa] at*);omega)),by ((try simp only [aa] at*);omega),by rw [Ik fZ,←pK];exact Told.self r7.1⟩
   simp [ht,aa,aX,aZ,bc,aQ,aI,ap,aG,k8,a12,b3,c2] at Q0
   cbv
   refine av trv trv rfl rfl rfl ?_
   (have e:=e5 (by ((try simp only [aa] at*);omega));rw [if_pos ⟨NG.1,by ((try simp only [aa] at*);omega)⟩] at e;rw [List.take_of_length_le (by ((try simp only [aa] at*);omega))] at jT;simp only [ht,e,jT.r,jT.x,jT.n,jT.p,jT.t,jT.j,jT.q,jT.f,jT.e,jT.g,jT.a];done)
  simp [ht,aa,aX,aZ,bc,aQ,aI,ap,aG,k8,a12,b3,c2] at NG
  cbv
  refine pZ [] [9,10,11] [false,false,false,false,false,false,false,false,true,true,false,false,true,true] (by kernel_rfl) (by kernel_rfl) (by kernel_rfl) (by kernel_rfl) (by kernel_rfl) (by kernel_rfl) ?_
  cbv
  iterate 6 refine gI (by simp [ht,ah]) ?_
  (first|(refine fP ht (l:=gv) (cells:=bu) (cT:=eA t) rfl (by simp only [ht,b3];((try simp only [aa] at*);omega)) (by simp only [ht,b3];simp only [gv,List.length_cons,List.length_nil];((try simp only [aa] at*);omega)) (fun _=>rfl) (fun _=>rfl) (fun xm Zb=>?_);have Zc:gv.getD (x.b%3) []=xm:=(by simp only [ht,b3,Int.toNat_natCast] at Zb;rw [List.getD_eq_getElem?_getD,Zb];rfl);rw [Zd] at Zc;subst Zc)|(refine fP ht (l:=gv) (cells:=bu) (cT:=eA t) rfl (by simp only [ht,b3];((try simp only [aa] at*);omega)) (by simp only [ht,b3];simp only [gv,List.length_cons,List.length_nil];((try simp only [aa] at*);omega)) (fun _=>rfl) (fun _=>rfl) (fun xn Q3=>?_);have Zd:gv.getD (x.b%3) []=xn:=(by simp only [ht,b3,Int.toNat_natCast] at Q3;rw [List.getD_eq_getElem?_getD,Q3];rfl)))
  cbv
  refine gI (by simp [ht,ah]) ?_
  (first|(refine aE trv (Mr ht xn eV hps (by ((try simp only [aa] at*);omega))) (by simp [ht]) rfl rfl rfl (fun r6 lF=>?_);simp only [ht] at lF)|(refine dy (fun g=>⟨by simp [ht],trv,Mr ht xn eV hps (by ((try simp only [aa] at*);omega))⟩) rfl rfl rfl (fun r6 lF=>?_);simp only [ht] at lF))
  cbv
  iterate 2 refine gI (by simp [ht,ah]) ?_
  refine av trv trv rfl rfl rfl ?_
  (have e:=e5 (by ((try simp only [aa] at*);omega));rw [if_neg (by intro h;have:=NG h.1;((try simp only [aa] at*);omega))] at e;rw [←lF] at e;simp only [ht,e,hZ,iq,hts,ek,dV,aB,has];done)
 simp [ht,aa,aX,aZ,bc,aQ,aI,ap,aG,k8,a12,b3,c2] at IV
 (simp only [aa] at*;omega)
theorem sH (ht:TT t) (N:Nat) (hN:N<256) {a:Int} (ea:a=N) {l:List gR} {dl:List (List D)} (IP:dl=l.map gR.cells) (Se:∀x∈l,x.u) (Vd:l.length<9223372036854775808):
 FC 15 [U8 a,SL dl] [] (.ret (dM t (t _ fun _=>ee N l (min l.length 40)))) []:=by
 refine bH ht (aF:=[]) Tryz.func15 rfl rfl (N:=26) rfl rfl (n:=0) rfl rfl ?_
 cbv
 have cC:dl.length=l.length:=by rw [IP,lgM]
 (refine aE trv (Bv ht N hN ea) (by simp [ht]) rfl rfl rfl (fun r1 dL=>?_);simp only [ht] at dL)
 cbv
 obtain ⟨J0,dR⟩:∃J0:Nat→Int×Int×Int×List (List D)×List (List D)×List (List D)×List (List D)×List (List D)×Int×List (List D)×Int×List (List D)→Prop,∀n i rd nx ns ps ts js qs ef es af bV,J0 n (i,rd,nx,ns,ps,ts,js,qs,ef,es,af,bV)↔(∃k:Nat,i=k∧k+n=40∧k≤l.length∧Told (ee N l k) rd nx ns ps ts js qs ef es af bV):=⟨fun n v=>match v with|(i,rd,nx,ns,ps,ts,js,qs,ef,es,af,bV)=>(∃k:Nat,i=k∧k+n=40∧k≤l.length∧Told (ee N l k) rd nx ns ps ts js qs ef es af bV),fun _ _ _ _ _ _ _ _ _ _ _ _ _=>Iff.rfl⟩
 refine bF ⟨[1,4,5,6],[],[]⟩ (σ:=Int×Int×Int×List (List D)×List (List D)×List (List D)×List (List D)×List (List D)×Int×List (List D)×Int×List (List D)) (fun v=>[(6,.d (.int .i64 (t _ fun _=>v.1)))]) (fun v=>[(1,.var [.d (.int .u64 (t _ fun _=>v.2.1)),.d (.int .u64 (t _ fun _=>v.2.2.1)),.d (.sl (t _ fun _=>v.2.2.2.1)),.d (.sl (t _ fun _=>v.2.2.2.2.1)),.d (.sl (t _ fun _=>v.2.2.2.2.2.1)),.d (.sl (t _ fun _=>v.2.2.2.2.2.2.1)),.d (.sl (t _ fun _=>v.2.2.2.2.2.2.2.1)),.d (.int .u64 (t _ fun _=>v.2.2.2.2.2.2.2.2.1)),.d (.sl (t _ fun _=>v.2.2.2.2.2.2.2.2.2.1)),.d (.int .u64 (t _ fun _=>v.2.2.2.2.2.2.2.2.2.2.1)),.d (.sl (t _ fun _=>v.2.2.2.2.2.2.2.2.2.2.2))])]) J0 ?_
 cbv
 refine aD ⟨40,(_,_,_,_,_,_,_,_,_,_,_,_),(dR _ _ _ _ _ _ _ _ _ _ _ _ _).2 ?_,by simp only [ht];rfl,?_⟩
 ·exact ⟨0,rfl,by omega,by omega,by rw [show ee N l 0=r1 from dL.symm];exact Told.self r1⟩
 rintro n ⟨i,rd,nx,ns,ps,ts,js,qs,ef,es,af,bV⟩ hj
 replace hj:=(dR _ _ _ _ _ _ _ _ _ _ _ _ _).1 hj
 obtain ⟨k,rfl,j1,j2,jT⟩:=hj
 cbv
 iterate 2 refine gI (by simp [ht,ah]) ?_
 refine pI (by simp [ht,ah]) ?_
 refine an (fun h1=>?_) (fun h1=>?_)
 ·simp [ht,aa,cC] at h1
  cbv
  refine cO [false,false,false,false,false,true,true] (by kernel_rfl) (by kernel_rfl) ?_
  cbv
  iterate 2 refine gI (by simp [ht,ah]) ?_
  refine fP ht IP (cT:=gR.aU t) (by (simp only [ht,aa];omega)) (by (simp only [ht,aa];omega)) (fun _=>rfl) (fun _=>rfl) (fun x2 fZ=>?_)
  simp [ht,aa] at fZ
  cbv
  iterate 2 refine gI (by simp [ht,ah]) ?_
  (first|(refine aE trv (Il ht x2 (Se x2 (List.mem_of_getElem? fZ)) rfl rfl rfl rfl rfl _ _ _ _ (nl:=(ee N l k).bg.nodes) (pl:=(ee N l k).bg.places) (tl:=(ee N l k).tree) (jl:=(ee N l k).ay) (ql:=(ee N l k).queue) (el:=(ee N l k).ev.l) (al:=(ee N l k).au.l) (by simp only [ht];exact jT.n) (by simp only [ht];exact jT.p) (by simp only [ht];exact jT.t) (by simp only [ht];exact jT.j) (by simp only [ht];exact jT.q) (by simp only [ht];exact jT.e) (by simp only [ht];exact jT.a) (by simp only [ht];rw [jT.eq];exact iN N l k)) (by simp [ht]) rfl rfl rfl (fun r1 dL=>?_);simp only [ht] at dL;rw [jT.eq,←yJ fZ] at dL)|(refine dy (fun g=>⟨by simp [ht],by simp [ht],(Il ht x2 (Se x2 (List.mem_of_getElem? fZ)) rfl rfl rfl rfl rfl rd nx ef af (nl:=(ee N l k).bg.nodes) (pl:=(ee N l k).bg.places) (tl:=(ee N l k).tree) (jl:=(ee N l k).ay) (ql:=(ee N l k).queue) (el:=(ee N l k).ev.l) (al:=(ee N l k).au.l) (by simp only [ht];exact jT.n) (by simp only [ht];exact jT.p) (by simp only [ht];exact jT.t) (by simp only [ht];exact jT.j) (by simp only [ht];exact jT.q) (by simp only [ht];exact jT.e) (by simp only [ht];exact jT.a) (by simp only [ht];rw [jT.eq];exact iN N l k))⟩) rfl rfl rfl (fun r1 dL=>?_);simp only [ht] at dL;rw [jT.eq,←yJ fZ] at dL))
  cbv
  refine bQ (_,_,_,_,_,_,_,_,_,_,_,_) (by simp only [ht];rfl) (n-1) ?_ ((dR _ _ _ _ _ _ _ _ _ _ _ _ _).2 ?_)
  ·((try simp only [aa] at*);omega)
  simp only [ht,aa]
  exact ⟨k+1,aC (by ((try simp only [aa] at*);omega)),by ((try simp only [aa] at*);omega),by ((try simp only [aa] at*);omega),by rw [←dL];exact Told.self r1⟩
 simp [ht,aa,cC] at h1
 cbv
 refine av trv trv rfl rfl rfl ?_
 (have hk:min l.length 40=k:=(by ((try simp only [aa] at*);omega));simp only [ht,hk,jT.r,jT.x,jT.n,jT.p,jT.t,jT.j,jT.q,jT.f,jT.e,jT.g,jT.a];done)
end Dem
end
section
open Go
namespace Dem
theorem yO {s:bE} (h:s.good) {x:Ask} (hx:yE x):(cX s x).1.good:=⟨h.ok.cX hx.fK,By h.eH hx,BJ h.ok h.DD x⟩
theorem KY {s:bE} (h:s.good) {id:Int} (hi:id<12) (names:List aH):(cM s id names).1.good:=⟨h.ok.wN _ _,(rD h.ok _ _).eH h.eH,DE h.ok h.DD hi _⟩
theorem vT (n:Nat):(jK n).good:=⟨Bd n,yF _ n,fun j hj=>by cases hj⟩
def xA1:Ask:=⟨[97],⟨3,0,0,0⟩,1,1,5,[]⟩
def Xq (tk:Int):Ask:=⟨[98],⟨2,0,0,0⟩,1,3,tk,[]⟩
theorem RM {a b c d:Int} (h:∀x∈[a,b,c,d],0≤x∧x<18446744073709551616):(⟨a,b,c,d⟩:bK).w:=by
 intro k hk;unfold bK.at_;split<;>exact h _ (by simp)
theorem xy:yE xA1:=⟨by decide,RM (by decide),by decide,fun m hm=>by cases hm⟩
theorem xz (tk:Int):yE (Xq tk):=⟨by simp [Xq],RM (by decide),by simp [Xq],fun m hm=>by cases hm⟩
def Mt:bE:=(cX (jK 192) xA1).1
def Mu:Int:=(cX (jK 192) xA1).2.1
def DH:bE:=(cM Mt Mu [[110,49]]).1
def xA (tk:Int):bE:=(cX DH (Xq tk)).1
theorem RN:Mu<12:=by decide+kernel
theorem BR:Mt.good:=yO (vT 192) xy
theorem BS:DH.good:=KY BR RN _
theorem Ou (tk:Int):(xA tk).good:=yO BS (xz tk)
theorem Ov:M9.good:=by
 have e:M9=⟨0,1,⟨[],[]⟩,[⟨[],bK.zero,bK.zero⟩],[],[],⟨0,[]⟩,⟨0,[]⟩⟩:=rfl
 refine ⟨?_,⟨fun n hn=>(by cases hn),fun e he=>?_,fun j hj=>(by cases hj)⟩,fun j hj=>(by cases hj)⟩
 ·exact {
   bg:=L0,kN:=Qk
   tree:=⟨⟨_,_,rfl,rfl⟩,by decide,by rw [e];exact List.pairwise_singleton _ _,by decide+kernel,by decide+kernel,by decide+kernel,fun x hx=>by rw [List.mem_singleton.1 hx];exact ⟨wL,wL⟩⟩
   used:=fun x hx k _=>by rw [List.mem_singleton.1 hx,m5];rfl
   most:=by decide
   next:=by decide
   ids:=List.Pairwise.nil
   zx:=fun j hj=>by cases hj
   uw:=fun j hj=>by cases hj
   left:=fun j hj=>by cases hj
   uf:=List.Pairwise.nil
   og:=List.Pairwise.nil
   pF:=fun q=>by simp [e]
   places:=fun x hx=>by cases hx
   count:=fun j hj=>by cases hj
   notes:=by decide}
 rw [List.mem_singleton.1 he];decide
theorem xe1:(dH (xA 5) 2).2=false:=by decide+kernel
theorem xe2:jL (xA 5) 2=true:=by decide+kernel
theorem xe3:jL (xA 5) 1=false:=by decide+kernel
theorem KZ {s:bE} {id:Int} {a:Jb} (h:(bG s.ay id).2=true) (g:(s.ay.filter fun o=>o.runs&&decide (o.x.prio<(bG s.ay id).1.x.prio)).map (·.id)=[a.id]):bM s id=[a.id]:=by
 unfold bM
 rw [h]
 obtain ⟨b,hb⟩:∃b,(s.ay.filter fun o=>o.runs&&decide (o.x.prio<(bG s.ay id).1.x.prio))=[b]:=List.length_eq_one_iff.1 (by have:=congrArg List.length g;simpa using this)
 rw [hb] at g ⊢
 simpa using g
theorem yP {s:bE} {id:Int} (g:(s.ay.filter fun o=>o.runs&&decide (o.x.prio<(bG s.ay id).1.x.prio)).map (·.id)=[]):bM s id=[]:=by
 unfold bM
 split
 ·rfl
 rw [List.map_eq_nil_iff.1 g];simp
theorem xe4:bM (xA 5) 2=[1]:=KZ (a:=⟨1,Ask.zero,false,0⟩) (by decide+kernel) (by decide+kernel)
theorem xe5:bM (xA 5) 1=[]:=yP (by decide+kernel)
def RO (s:bE) (id:Int) (A:List Int):List Int×List aH×Bool:=match kV s id A (A.length+1) 0 with
 |none=>([],[],false)
 |some (l,nodes)=>((gi s id (l.length+1) 0 l nodes).1,(gi s id (l.length+1) 0 l nodes).2,true)
theorem Mv (s:bE) (id:Int):aP s id=RO s id (bM s id):=rfl
theorem xe6:aP (xA 5) 2=([1],[[110,49]],true):=by rw [Mv,xe4];decide+kernel
theorem xe7:aP M9 1=([],[],false):=by rw [Mv,yP (by decide+kernel)];decide+kernel
theorem xe8:(eZ (xA 5) 1 5).2=0:=by decide+kernel
theorem xe9:dH (eZ (xA 5) 1 5).1 2=([[110,49]],true):=by decide+kernel
theorem abq:(dH (eZ (xA 5) 1 5).1 1).2=true:=by decide+kernel
def gL (s:bE) (k:Nat):Int:=if s.queue.length=0 then 0 else (s.queue.getD (k%s.queue.length) ⟨0,0⟩).id
end Dem
end
section
open Go Dem Go.Proofs
namespace Dem
variable {t:Th}
theorem WK (ht:TT t):FC 37 [] [] (.ret (dM t (t _ fun _=>xA 5))) []:=by
 obtain ⟨A,hA⟩:∃A,A=xA 5:=⟨_,rfl⟩
 have h0:=(vT 192).sm
 have h1:=BR.sm
 have h2:=BS.sm
 rw [←hA]
 refine bH ht (aF:=[]) Tryz.func37 rfl rfl (N:=29) rfl rfl (n:=0) rfl rfl ?_
 cbv
 (refine aE trv (Bv ht 192 (by decide) rfl) (by simp [ht]) rfl rfl rfl (fun r1 dL=>?_);simp only [ht] at dL;rw [←dL] at h0)
 cbv
 (first|(refine aE trv (iM ht _ _ _ _ (nl:=r1.bg.nodes) (pl:=r1.bg.places) (tl:=r1.tree) (jl:=r1.ay) (ql:=r1.queue) (el:=r1.ev.l) (al:=r1.au.l) (by simp only [ht]) (by simp only [ht]) (by simp only [ht]) (by simp only [ht]) (by simp only [ht]) (by simp only [ht]) (by simp only [ht]) 3 0 0 0 1 1 5 [97] (mF:=[]) rfl (jM xy) h0.tree.1 h0.ay.1 h0.queue h0.notes.1) (by simp [ht]) rfl rfl rfl (fun r2 fQ=>?_);simp only [ht] at fQ;have e2:r2.1=Mt:=(by rw [fQ,dL];rfl);have e3:r2.2.1=Mu:=(by rw [fQ,dL];rfl);rw [←e2] at h1)|(refine aE trv (iM ht _ _ _ _ (nl:=r3.1.bg.nodes) (pl:=r3.1.bg.places) (tl:=r3.1.tree) (jl:=r3.1.ay) (ql:=r3.1.queue) (el:=r3.1.ev.l) (al:=r3.1.au.l) (by simp only [ht]) (by simp only [ht]) (by simp only [ht]) (by simp only [ht]) (by simp only [ht]) (by simp only [ht]) (by simp only [ht]) 2 0 0 0 1 3 5 [98] (mF:=[]) rfl (jM (xz 5)) h2.tree.1 h2.ay.1 h2.queue h2.notes.1) (by simp [ht]) rfl rfl rfl (fun r4 iA=>?_);simp only [ht] at iA;have e5:A=r4.1:=(by rw [iA,hA];show (cX DH (Xq 5)).1=_;rw [←e4];rfl)))
 cbv
 (refine aE trv (vR ht _ _ _ _ (nl:=r2.1.bg.nodes) (pl:=r2.1.bg.places) (tl:=r2.1.tree) (jl:=r2.1.ay) (ql:=r2.1.queue) (el:=r2.1.ev.l) (al:=r2.1.au.l) (by simp only [ht]) (by simp only [ht]) (by simp only [ht]) (by simp only [ht]) (by simp only [ht]) (by simp only [ht]) (by simp only [ht]) _ (names:=[[110,49]]) (by first|rfl|(simp only [ht];rfl)) (ur h1) h1.tree.1 h1.ay.1 h1.nodes.1 h1.places h1.queue h1.notes.1 (by simp)) (by simp [ht]) rfl rfl rfl (fun r3 iV=>?_);simp only [ht] at iV;have e4:r3.1=DH:=(by rw [iV];unfold DH;rw [←e2,←e3]);rw [←e4] at h2)
 cbv
 (first|(refine aE trv (iM ht _ _ _ _ (nl:=r1.bg.nodes) (pl:=r1.bg.places) (tl:=r1.tree) (jl:=r1.ay) (ql:=r1.queue) (el:=r1.ev.l) (al:=r1.au.l) (by simp only [ht]) (by simp only [ht]) (by simp only [ht]) (by simp only [ht]) (by simp only [ht]) (by simp only [ht]) (by simp only [ht]) 3 0 0 0 1 1 5 [97] (mF:=[]) rfl (jM xy) h0.tree.1 h0.ay.1 h0.queue h0.notes.1) (by simp [ht]) rfl rfl rfl (fun r2 fQ=>?_);simp only [ht] at fQ;have e2:r2.1=Mt:=(by rw [fQ,dL];rfl);have e3:r2.2.1=Mu:=(by rw [fQ,dL];rfl);rw [←e2] at h1)|(refine aE trv (iM ht _ _ _ _ (nl:=r3.1.bg.nodes) (pl:=r3.1.bg.places) (tl:=r3.1.tree) (jl:=r3.1.ay) (ql:=r3.1.queue) (el:=r3.1.ev.l) (al:=r3.1.au.l) (by simp only [ht]) (by simp only [ht]) (by simp only [ht]) (by simp only [ht]) (by simp only [ht]) (by simp only [ht]) (by simp only [ht]) 2 0 0 0 1 3 5 [98] (mF:=[]) rfl (jM (xz 5)) h2.tree.1 h2.ay.1 h2.queue h2.notes.1) (by simp [ht]) rfl rfl rfl (fun r4 iA=>?_);simp only [ht] at iA;have e5:A=r4.1:=(by rw [iA,hA];show (cX DH (Xq 5)).1=_;rw [←e4];rfl)))
 cbv
 refine av trv trv rfl rfl rfl ?_
 (simp only [ht,e5];done)
theorem K5 (ht:TT t) (rd nx ef af:Int) {nl:List Node} {pl:List Place} {tl:List be} {jl:List Jb} {ql:List bZ} {el al:List dQ} {ns ps ts js qs es bV:List (List D)} (eV:ns=nl.map Node.cells) (hps:ps=pl.map Place.cells) (hts:ts=tl.map be.cells) (ek:js=jl.map Jb.cells) (dV:qs=ql.map bZ.cells) (aB:es=el.map dQ.cells) (has:bV=al.map dQ.cells) (k:Nat) {kk:Int} (hk:kk=k) (hk2:k<256) (TV:ql.length<1000000):FC 16 [.agg [aA rd,aA nx,SL ns,SL ps,SL ts,SL js,SL qs,aA ef,SL es,aA af,SL bV],U8 kk] [] (.ret (vt (t _ fun _=>gL ⟨rd,nx,⟨nl,pl⟩,tl,jl,ql,⟨ef,el⟩,⟨af,al⟩⟩ k))) []:=by
 have hm:(k:Int).tmod (ql.length:Int)=((k%ql.length:Nat):Int):=by rw [Int.tmod_eq_emod_of_nonneg (by omega)];rfl
 have hw:IntKind.i64.wrap (k:Int)=k:=wrap64 (by omega) (by omega)
 refine bH ht (aF:=[]) Tryz.func16 rfl rfl (N:=20) rfl rfl (n:=0) rfl rfl ?_
 cbv
 have aX:ns.length=nl.length:=by rw [eV,lgM]
 have aZ:ps.length=pl.length:=by rw [hps,lgM]
 have bc:ts.length=tl.length:=by rw [hts,lgM]
 have aQ:js.length=jl.length:=by rw [ek,lgM]
 have aI:qs.length=ql.length:=by rw [dV,lgM]
 have ap:es.length=el.length:=by rw [aB,lgM]
 have aG:bV.length=al.length:=by rw [has,lgM]
 refine an (fun h0=>?_) (fun h0=>?_)
 ·simp [ht,aa,aX,aZ,bc,aQ,aI,ap,aG] at h0
  cbv
  refine av trv trv rfl rfl rfl ?_
  (simp [ht,vt,gL, *];done)
 simp [ht,aa,aX,aZ,bc,aQ,aI,ap,aG] at h0
 cbv
 refine cO [false,false,false,false,false,false,false,false,true,true,true,true] (by kernel_rfl) (by kernel_rfl) ?_
 cbv
 iterate 7 refine gI (by simp [ht,ah]) ?_
 refine gI (by simp [ht,ah];intros;simp_all) ?_
 (have hl:(qs.length:Int)=ql.length:=(by rw [dV,lgM]);have abr:0<ql.length:=(List.length_pos_iff.2 h0);refine fP ht (l:=ql) (cells:=bZ.cells) (cT:=bZ.aU t) dV (by simp only [ht,aa,hk,hw,hl,hm];omega) (by simp only [ht,aa,hk,hw,hl,hm];have:=Nat.mod_lt k abr;omega) (fun _=>rfl) (fun _=>rfl) (fun x2 fZ=>?_);simp only [ht,aa,hk,hw,hl,hm,Int.toNat_natCast] at fZ)
 cbv
 refine av trv trv rfl rfl rfl ?_
 (simp [ht,vt,gL, *];done)
end Dem
end
section
open Go Go.Sort
namespace Dem
def xD (a b:Jb):Bool:=decide (a.x.prio<b.x.prio)||(decide (a.x.prio=b.x.prio)&&decide (b.id<a.id))
theorem Mz:SWO xD:=by
 refine ⟨?_,?_,?_⟩<;>simp only [xD]<;>simp<;>omega
theorem DK (L:List Jb):(Sort.insertionSort xD L.toArray 0 L.length).toList.Perm L:=by
 obtain ⟨⟨h0,h1,h2⟩,h3⟩:=insertionSort_holds (lt:=xD) Mz L.toArray 0 L.length (Nat.zero_le _) (by simp)
 have hs:(Sort.insertionSort xD L.toArray 0 L.length).size=L.length:=by rw [h0];simp
 have e1:(Sort.insertionSort xD L.toArray 0 L.length).extract 0 L.length=Sort.insertionSort xD L.toArray 0 L.length:=by
  apply Array.extract_eq_self_of_le;omega
 have e2:L.toArray.extract 0 L.length=L.toArray:=by apply Array.extract_eq_self_of_le;simp
 rw [e1,e2] at h2
 simpa using h2
theorem K6 {L:List Jb} (hd:L.Pairwise fun a b=>a.id<b.id):(Sort.insertionSort xD L.toArray 0 L.length).toList=L.mergeSort fu:=by
 obtain ⟨⟨h0,h1,h2⟩,h3⟩:=insertionSort_holds (lt:=xD) Mz L.toArray 0 L.length (Nat.zero_le _) (by simp)
 have hp:=DK L
 have h4:(L.mergeSort fu).Pairwise fun a b=>fu a b=true:=by
  refine List.pairwise_mergeSort ?_ ?_ _
  ·intro a b c;simp only [fu,Bool.or_eq_true,Bool.and_eq_true,decide_eq_true_eq];omega
  intro a b;simp only [fu,Bool.or_eq_true,Bool.and_eq_true,decide_eq_true_eq];omega
 refine (hp.trans (List.mergeSort_perm L fu).symm).eq_of_pairwise (le:=fun a b=>fu a b=true) ?_ ?_ h4
 ·intro a b ha hb g1 g2
  have ma:a∈L:=hp.mem_iff.1 ha
  have mb:b∈L:=(List.mergeSort_perm L fu).mem_iff.1 hb
  simp only [fu,Bool.or_eq_true,Bool.and_eq_true,decide_eq_true_eq] at g1 g2
  exact gJ hd ma mb (by omega)
 rw [List.pairwise_iff_getElem]
 intro i j hi hj hij
 have hs:(Sort.insertionSort xD L.toArray 0 L.length).size=L.length:=by rw [h0];simp
 simp only [Array.length_toList] at hi hj
 have:=h3 i j (Nat.zero_le _) hij (by omega)
 rw [getElem!_pos _ j hj,getElem!_pos _ i hi] at this
 simp only [Array.getElem_toList]
 simp only [xD,Bool.or_eq_false_iff,Bool.and_eq_false_iff,decide_eq_false_iff_not] at this
 simp only [fu,Bool.or_eq_true,Bool.and_eq_true,decide_eq_true_eq]
 omega
end Dem
end
section
open Go Dem Go.Proofs
namespace Dem
variable {t:Th}
theorem RT (ht:TT t) (x:Int):FC 101 [bI x] [] (.ret (bX (t _ fun _=>false))) []:=by
 refine bH ht (aF:=[]) Tryz.func101 rfl rfl (N:=6) rfl rfl (n:=0) rfl rfl ?_
 cbv
 refine av trv trv rfl rfl rfl ?_
 (simp [ht,bX];done)
theorem Ul (ht:TT t) (x y:Int):FC 50 [bI x,bI y] [] (.ret (gm (t _ fun _=>iU x y))) []:=by
 refine bH ht (aF:=[]) Tryz.func50 rfl rfl (N:=20) rfl rfl (n:=0) rfl rfl ?_
 cbv
 refine aM trv (RT ht _) trv rfl rfl (fun r0 cN=>?_)
 simp only [ht] at cN
 cbv
 refine aM trv (RT ht _) trv rfl rfl (fun r1 dL=>?_)
 simp only [ht] at dL
 cbv
 refine an (fun h2=>?_) (fun h2=>?_)
 ·cbv
  refine an (fun h3=>?_) (fun h3=>?_)
  ·cbv
   refine av trv trv rfl rfl rfl ?_
   (simp only [ht,aa,gm,iU];grind)
  cbv
  refine av trv trv rfl rfl rfl ?_
  (simp only [ht,aa,gm,iU];grind)
 cbv
 refine an (fun h4=>?_) (fun h4=>?_)
 ·cbv
  refine av trv trv rfl rfl rfl ?_
  (simp only [ht,aa,gm,iU];grind)
 cbv
 refine an (fun h5=>?_) (fun h5=>?_)
 ·simp [ht,aa] at h5
  cbv
  refine av trv trv rfl rfl rfl ?_
  (simp [ht,gm,iU, *];done)
 simp [ht,aa] at h5
 cbv
 refine an (fun h6=>?_) (fun h6=>?_)
 ·simp [ht,aa] at h6
  cbv
  refine av trv trv rfl rfl rfl ?_
  (simp [ht,gm,iU, *];done)
 simp [ht,aa] at h6
 cbv
 refine av trv trv rfl rfl rfl ?_
 (simp only [ht,aa,gm,iU];grind)
def RU:List Int→Int
 |[]=>0
 |x::r=>if x=0 then RU r else x
def WL (x:Int):List D:=[.int .i64 x]
def Um (_:Th) (x:Int):List D:=[.int .i64 x]
theorem Zg (ht:TT t) {l:List Int} {es:List (List D)} (aB:es=l.map WL) (hl:l.length<1000000000):FC 49 [SL es] [] (.ret (gm (t _ fun _=>RU l))) []:=by
 refine bH ht (aF:=[]) Tryz.func49 rfl rfl (N:=18) rfl rfl (n:=0) rfl rfl ?_
 cbv
 have ap:es.length=l.length:=by rw [aB,lgM]
 obtain ⟨J0,dR⟩:∃J0:Nat→Int→Prop,∀n i,J0 n i↔(∃k:Nat,i=k∧k+n=l.length∧RU l=RU (l.drop k)):=⟨fun n v=>match v with|i=>(∃k:Nat,i=k∧k+n=l.length∧RU l=RU (l.drop k)),fun _ _=>Iff.rfl⟩
 refine bF ⟨[3,6,7,8],[],[]⟩ (σ:=Int) (fun v=>[(8,.d (.int .i64 (t _ fun _=>v)))]) (fun v=>[]) J0 ?_
 cbv
 refine aD ⟨l.length,_,(dR _ _).2 ?_,by simp only [ht];rfl,?_⟩
 ·exact ⟨0,rfl,by simp,by simp⟩
 rintro n i hj
 replace hj:=(dR _ _).1 hj
 obtain ⟨k,rfl,j1,j4⟩:=hj
 cbv
 refine an (fun h1=>?_) (fun h1=>?_)
 ·simp [ht,aa,ap] at h1
  cbv
  (refine fP ht aB (cT:=Um t) (by simp only [ht];((try simp only [aa] at*);omega)) (by simp only [ht,aa];((try simp only [aa] at*);omega)) (fun _=>rfl) (fun _=>rfl) (fun x mx=>?_);simp only [ht,aa,Int.toNat_natCast] at mx;rw [dU mx,RU] at j4)
  cbv
  refine an (fun h2=>?_) (fun h2=>?_)
  ·simp [ht,aa,ap] at h2
   cbv
   refine av trv trv rfl rfl rfl ?_
   (simp_all [RU];done)
  simp [ht,aa,ap] at h2
  cbv
  refine bQ _ (by simp only [ht];rfl) (n-1) ?_ ((dR _ _).2 ?_)
  ·omega
  simp only [ht,aa]
  exact ⟨k+1,aC (by ((try simp only [aa] at*);omega)),by ((try simp only [aa] at*);omega),by rw [j4,if_pos (by simp_all)]⟩
 simp [ht,aa,ap] at h1
 cbv
 refine av trv trv rfl rfl rfl ?_
 (rw [List.drop_eq_nil_of_le (by ((try simp only [aa] at*);omega)),RU] at j4;simp only [ht,j4];done)
def K7 (a b:Jb):Int:=RU [iU a.x.prio b.x.prio,iU b.id a.id]
theorem MA {a b:Jb}:K7 a b<0↔xD a b=true:=by
 simp only [K7,RU,iU,xD,Bool.or_eq_true,Bool.and_eq_true,decide_eq_true_eq]
 split<;>split<;>(try split)<;>(try split)<;>omega
theorem Un (ht:TT t) (a1 a3 a4 a5 a6 a7 a8 a9 a12 b1 b3 b4 b5 b6 b7 b8 b9 OE:Int) (a2 b2:aH) (WM OF:Bool) {sa sb:List Term} {ar br:List (List D)} (har:ar=sa.map Term.cells) (hbr:br=sb.map Term.cells):
 FC 48 [.agg [aA a1,ST a2,aA a3,aA a4,aA a5,aA a6,bI a7,bI a8,bI a9,SL ar,BL WM,bI a12],.agg [aA b1,ST b2,aA b3,aA b4,aA b5,aA b6,bI b7,bI b8,bI b9,SL br,BL OF,bI OE]] [] (.ret (gm (t _ fun _=>K7 ⟨a1,⟨a2,⟨a3,a4,a5,a6⟩,a7,a8,a9,sa⟩,WM,a12⟩ ⟨b1,⟨b2,⟨b3,b4,b5,b6⟩,b7,b8,b9,sb⟩,OF,OE⟩))) []:=by
 obtain ⟨o,ho⟩:∃o,o=K7 ⟨a1,⟨a2,⟨a3,a4,a5,a6⟩,a7,a8,a9,sa⟩,WM,a12⟩ ⟨b1,⟨b2,⟨b3,b4,b5,b6⟩,b7,b8,b9,sb⟩,OF,OE⟩:=⟨_,rfl⟩
 rw [←ho]
 refine bH ht (aF:=[]) Tryz.func48 rfl rfl (N:=19) rfl rfl (n:=0) rfl rfl ?_
 cbv
 have abt:ar.length=sa.length:=by rw [har,lgM]
 have abu:br.length=sb.length:=by rw [hbr,lgM]
 refine cO [false,false,false,false,false,false,false,false,false,false,false,true,true,true,true] (by kernel_rfl) (by kernel_rfl) ?_
 cbv
 iterate 6 refine gI (by simp [ht,ah]) ?_
 refine .inl ?_
 refine bJ (fun g0=>⟨trv,trv,Ul ht _ _⟩) rfl rfl (fun r1 dL=>?_)
 simp only [ht] at dL
 cbv
 iterate 4 refine gI (by simp [ht,ah]) ?_
 refine aM trv (Rh ht _ _) trv rfl rfl (fun r2 fQ=>?_)
 simp only [ht] at fQ
 cbv
 (refine aM trv (Zg ht (l:=[r1,r2]) rfl (by simp)) (by simp [ht]) rfl rfl (fun r3 iV=>?_);simp only [ht] at iV)
 cbv
 refine av trv trv rfl rfl rfl ?_
 (simp only [ht,gm];simp_all [K7];done)
theorem Uo (ht:TT t) (a b n:Nat) (d:Array Jb) {es:List (List D)} {ai bi:Int} (ha:ai=a) (xJ:bi=b) (aB:es=d.toList.map Jb.cells) (hn:n=d.size) (hb:b≤n) (hl:n<1000000) (haa:a<1000000000):
 FC 153 [.ow 0 12 n,bI ai,bI bi,.fn 48 []] [.row 12 es] (.ret (.eE [])) [.row 12 (t _ fun _=>(Sort.insertionSort xD d a b).toList.map Jb.cells)]:=by
 refine bH ht (aF:=[.row 12 es]) Tryz.func153 rfl rfl (N:=53) rfl rfl (n:=1) rfl rfl ?_
 cbv
 obtain ⟨J0,dR⟩:∃J0:Nat→Int×List (List D)→Prop,∀m i u,J0 m (i,u)↔(∃(k:Nat) (r:Array Jb),i=k∧b≤k+m∧a+1≤k∧k≤1000000000∧r.size=n∧u=r.toList.map Jb.cells∧Sort.insertionSort xD d a b=Sort.insOuter xD a b k r):=⟨fun m v=>match v with|(i,u)=>(∃(k:Nat) (r:Array Jb),i=k∧b≤k+m∧a+1≤k∧k≤1000000000∧r.size=n∧u=r.toList.map Jb.cells∧Sort.insertionSort xD d a b=Sort.insOuter xD a b k r),fun _ _ _=>Iff.rfl⟩
 refine bF ⟨[0,1,2,3,8],[],[]⟩ (σ:=Int×List (List D)) (fun v=>[(8,.d (.int .i64 (t _ fun _=>v.1)))]) (fun v=>[(0,.row 12 (t _ fun _=>v.2))]) J0 ?_
 cbv
 refine aD ⟨b,(_,_),(dR _ _ _).2 ?_,by simp only [ht];rfl,?_⟩
 ·exact ⟨a+1,d,by rw [ha];exact aC (by ((try simp only [aa] at*);omega)),by ((try simp only [aa] at*);omega),by ((try simp only [aa] at*);omega),by ((try simp only [aa] at*);omega),hn.symm,aB,rfl⟩
 rintro m ⟨i,u⟩ hj
 replace hj:=(dR _ _ _).1 hj
 obtain ⟨k,r,rfl,j1,j2,j3,j5,j6,j4⟩:=hj
 cbv
 refine an (fun h1=>?_) (fun h1=>?_)
 ·simp [ht,aa] at h1
  cbv
  obtain ⟨J2,yL⟩:∃J2:Nat→Int×List (List D)→Prop,∀m2 jj u,J2 m2 (jj,u)↔(∃(j:Nat) (q:Array Jb),jj=j∧j≤m2∧j≤k∧q.size=n∧u=q.toList.map Jb.cells∧Sort.insertionSort xD d a b=Sort.insOuter xD a b (k+1) (Sort.insInner xD a j q)):=⟨fun m2 v=>match v with|(jj,u)=>(∃(j:Nat) (q:Array Jb),jj=j∧j≤m2∧j≤k∧q.size=n∧u=q.toList.map Jb.cells∧Sort.insertionSort xD d a b=Sort.insOuter xD a b (k+1) (Sort.insInner xD a j q)),fun _ _ _=>Iff.rfl⟩
  refine bF ⟨[0,1,2,3,8,9],[],[]⟩ (σ:=Int×List (List D)) (fun v=>[(9,.d (.int .i64 (t _ fun _=>v.1)))]) (fun v=>[(0,.row 12 (t _ fun _=>v.2))]) J2 ?_
  cbv
  refine aD ⟨k,(_,_),(yL _ _ _).2 ?_,rfl,?_⟩
  ·exact ⟨k,r,rfl,by ((try simp only [aa] at*);omega),by ((try simp only [aa] at*);omega),j5,j6,by rw [j4,tn];((try simp only [aa] at*);omega)⟩
  rintro m2 ⟨jj,u⟩ hj
  replace hj:=(yL _ _ _).1 hj
  obtain ⟨j,q,rfl,q1,q2,q5,q6,q4⟩:=hj
  cbv
  refine cO [false,false,true,true,false,false,false,false,false,false,false,false,false,false,true,true,true] (by kernel_rfl) (by kernel_rfl) ?_
  cbv
  iterate 5 refine gI (by simp [ht,ah]) ?_
  refine gI (by simp [ht,ah,bO,aa,gm];grind) ?_
  (refine zF q6 (Jb.aU t) (fun _=>by simp only [Jb.cells,Jb.aU,ht]) j (fun g=>(by simp [ht,aa] at g ⊢;exact ⟨by ((try simp only [aa] at*);omega),fun h=>(by first|exact h|exact ⟨g,h⟩|exact g|((try simp only [aa] at*);omega))⟩)) (fun y ey=>?_))
  cbv
  iterate 3 refine gI (by simp [ht,ah]) ?_
  refine gI (by (simp [ht,aa];intro g;rw [wrap64 (by ((try simp only [aa] at*);omega)) (by ((try simp only [aa] at*);omega))];((try simp only [aa] at*);omega))) ?_
  (refine zF q6 (Jb.aU t) (fun _=>by simp only [Jb.cells,Jb.aU,ht]) (j-1) (fun g=>(by simp only [ht,decide_eq_true_eq,aa] at g ⊢;rw [wrap64 (by ((try simp only [aa] at*);omega)) (by ((try simp only [aa] at*);omega)),show ((j:Int)-1).toNat=j-1 by ((try simp only [aa] at*);omega)];exact ⟨by ((try simp only [aa] at*);omega),rfl,fun h=>(by first|exact h|exact ⟨g,h⟩|exact ⟨trv,h⟩)⟩)) (fun z ez=>?_))
  cbv
  refine bJ (fun g3=>⟨by simp [ht] at g3 ⊢;exact g3,trv,Un ht _ _ _ _ _ _ _ _ _ _ _ _ _ _ _ _ _ _ _ _ _ _ (jR ht rfl) (jR ht rfl)⟩) rfl rfl (fun r4 iA=>?_)
  simp only [ht] at iA
  cbv
  refine gI (by simp [ht,ah]) ?_
  refine pI (by simp [ht,ah]) ?_
  refine an (fun h5=>?_) (fun h5=>?_)
  ·simp [ht,aa] at h5
   cbv
   refine Gw [0,1,2,3,4,5,6,7,10,11] [false,false,false,false,false,false,false,false,false,false,false,false,false,false,true,true,true,true] (by kernel_rfl) (by kernel_rfl) (by kernel_rfl) (by kernel_rfl) (by kernel_rfl) ?_
   cbv
   iterate 8 refine gI (by simp [ht,ah]) ?_
   refine gI (by (simp [ht,aa];rw [wrap64 (by ((try simp only [aa] at*);omega)) (by ((try simp only [aa] at*);omega))];((try simp only [aa] at*);omega))) ?_
   (refine zF q6 (Jb.aU t) (fun _=>by simp only [Jb.cells,Jb.aU,ht]) (j-1) (fun g=>(by simp only [ht,aa];rw [wrap64 (by ((try simp only [aa] at*);omega)) (by ((try simp only [aa] at*);omega)),show ((j:Int)-1).toNat=j-1 by ((try simp only [aa] at*);omega)];exact ⟨by ((try simp only [aa] at*);omega),rfl,fun h=>h⟩)) (fun z2 ez2=>?_))
   cbv
   iterate 2 refine gI (by simp [ht,ah]) ?_
   refine gI (by simp [ht,ah,bO,aa,gm];grind) ?_
   (refine zF q6 (Jb.aU t) (fun _=>by simp only [Jb.cells,Jb.aU,ht]) j (fun g=>(by simp only [ht,aa,Int.toNat_natCast];exact ⟨by ((try simp only [aa] at*);omega),trv,fun h=>h⟩)) (fun y2 ey2=>?_))
   cbv
   refine ⟨?_,?_⟩
   ·(simp only [ht,aa] at*;omega)
   refine ⟨?_,?_⟩
   ·(simp only [ht,aa,Int.toNat_natCast];exact RC (n:=12) q6 (fun _=>rfl) (by ((try simp only [aa] at*);omega)) rfl)
   refine ⟨?_,?_⟩
   ·(simp only [ht,aa];rw [wrap64 (by ((try simp only [aa] at*);omega)) (by ((try simp only [aa] at*);omega))];((try simp only [aa] at*);omega))
   refine ⟨?_,?_⟩
   ·(simp only [ht,aa,Int.toNat_natCast];rw [wrap64 (by ((try simp only [aa] at*);omega)) (by ((try simp only [aa] at*);omega)),show ((j:Int)-1).toNat=j-1 by ((try simp only [aa] at*);omega)];exact RC (n:=12) (KW (n:=12) q6 (fun _=>rfl) (by ((try simp only [aa] at*);omega)) z2) (fun _=>rfl) (by simp;((try simp only [aa] at*);omega)) rfl)
   cbv
   refine bQ (_,_) (by simp only [ht];rfl) (m2-1) ?_ ((yL _ _ _).2 ?_)
   ·((try simp only [aa] at*);omega)
   simp only [ht,aa]
   exact ⟨j-1,Sort.swp q j (j-1),pe (by ((try simp only [aa] at*);omega)) (by ((try simp only [aa] at*);omega)),by ((try simp only [aa] at*);omega),by ((try simp only [aa] at*);omega),by rw [swp_size];exact q5,by rw [wrap64 (by ((try simp only [aa] at*);omega)) (by ((try simp only [aa] at*);omega)),show ((j:Int)-1).toNat=j-1 by ((try simp only [aa] at*);omega),Int.toNat_natCast];exact RD (n:=12) q6 (fun _=>rfl) (by ((try simp only [aa] at*);omega)) (by ((try simp only [aa] at*);omega)) ey2 ez2,by rw [q4,yM (by ((try simp only [aa] at*);omega)) (by rw [←ey,←ez];exact MA.1 (by have e:r4=K7 y z:=iA;rw [←e];exact h5.2))]⟩
  simp [ht,aa] at h5
  cbv
  refine bQ (_,_) (by simp only [ht];rfl) (m-1) ?_ ((dR _ _ _).2 ?_)
  ·((try simp only [aa] at*);omega)
  simp only [ht,aa]
  exact ⟨k+1,q,aC (by ((try simp only [aa] at*);omega)),by ((try simp only [aa] at*);omega),by ((try simp only [aa] at*);omega),by ((try simp only [aa] at*);omega),q5,q6,by rw [q4,tq (fun g=>by rw [←ey,←ez];exact Bool.eq_false_iff.2 fun e=>absurd (MA.2 e) (by have e:r4=K7 y z:=iA;rw [←e];have:=h5 (by ((try simp only [aa] at*);omega));((try simp only [aa] at*);omega)))]⟩
 simp [ht,aa] at h1
 cbv
 refine av trv trv rfl ?_ rfl rfl
 (simp only [ht];rw [j4,vS _ _ _ _ (by ((try simp only [aa] at*);omega)),←j6];rfl)
theorem K8 (ht:TT t) (n:Nat) (d:Array Jb) {es:List (List D)} {ni:Int} (hni:ni=n) (aB:es=d.toList.map Jb.cells) (hn:n=d.size) (hl:n≤12):
 FC 100 [.ow 0 12 n,bI ni,.fn 48 []] [.row 12 es] (.ret (.eE [])) [.row 12 (t _ fun _=>(Sort.insertionSort xD d 0 n).toList.map Jb.cells)]:=by
 refine bH ht (aF:=[.row 12 es]) Tryz.func100 rfl rfl (N:=63) rfl rfl (n:=1) rfl rfl ?_
 cbv
 obtain ⟨J0,dR⟩:∃J0:Nat→Int×Int→Prop,∀m a b,J0 m (a,b)↔(a=0∧b=20):=⟨fun m v=>match v with|(a,b)=>(a=0∧b=20),fun _ _ _=>Iff.rfl⟩
 refine bF ⟨[0,1,2,6,7,8],[],[]⟩ (σ:=Int×Int) (fun v=>[(7,.d (.int .i64 (t _ fun _=>v.1))),(8,.d (.int .i64 (t _ fun _=>v.2)))]) (fun v=>[]) J0 ?_
 cbv
 refine aD ⟨1,(_,_),(dR _ _ _).2 ?_,by simp only [ht];rfl,?_⟩
 ·exact ⟨rfl,rfl⟩
 rintro m ⟨a,b⟩ hj
 replace hj:=(dR _ _ _).1 hj
 obtain ⟨UF,xQ⟩:=hj
 cbv
 refine an (fun h1=>?_) (fun h1=>?_)
 ·simp [ht,aa] at h1
  (simp only [aa] at*;omega)
 simp [ht,aa] at h1
 cbv
 refine dx [0] trv rfl rfl (Uo ht 0 n n d (by simp only [ht];exact UF) hni aB hn (Nat.le_refl _) (by ((try simp only [aa] at*);omega)) (by ((try simp only [aa] at*);omega))) (cz ?_)
 cbv
 obtain ⟨J2,yL⟩:∃J2:Nat→Int→Prop,∀m b,J2 m b↔(b=20):=⟨fun m v=>match v with|b=>(b=20),fun _ _=>Iff.rfl⟩
 refine bF ⟨[0,1,2,6],[],[]⟩ (σ:=Int) (fun v=>[(6,.d (.int .i64 (t _ fun _=>v)))]) (fun v=>[]) J2 ?_
 cbv
 refine aD ⟨1,_,(yL _ _).2 ?_,by simp only [ht];rfl,?_⟩
 ·rfl
 rintro m b hj
 replace hj:=(yL _ _).1 hj
 obtain uS:=hj
 cbv
 refine an (fun h3=>?_) (fun h3=>?_)
 ·simp [ht,aa] at h3
  omega
 simp [ht,aa] at h3
 cbv
 refine av trv trv rfl rfl rfl ?_
 rfl
theorem RV (ht:TT t) (n:Nat) (d:Array Jb) {es:List (List D)} (aB:es=d.toList.map Jb.cells) (hn:n=d.size) (hl:n≤12):
 FC 47 [.ow 0 12 n,.fn 48 []] [.row 12 es] (.ret (.eE [])) [.row 12 (t _ fun _=>(Sort.insertionSort xD d 0 n).toList.map Jb.cells)]:=by
 have hel:(es.length:Int)=n:=by rw [aB,hn];simp
 refine bH ht (aF:=[.row 12 es]) Tryz.func47 rfl rfl (N:=9) rfl rfl (n:=1) rfl rfl ?_
 cbv
 refine ⟨?_,?_⟩
 ·(simp only [ht,aa] at*;omega)
 cbv
 refine dx [0] trv rfl rfl (K8 ht n d (by simp only [ht];exact hel) aB hn hl) (cz ?_)
 cbv
 refine av trv trv rfl rfl rfl ?_
 rfl
end Dem
end
