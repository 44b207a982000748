/- Parts of a proof, joined. -/
import Derived.Test.YtihohjnkkalgiaaGreatDoorS22
set_option linter.all false
set_option maxRecDepth 100000
set_option maxHeartbeats 4000000
section
open Go Dem Go.Proofs
namespace Dem
variable {t:Th}
theorem L7 (ht:TT t) (name:aK) (up:Bool) {l:List Node} {ps:List Place} {es qs:List (List D)} (aE:es=l.map Node.cells) (eM:qs=ps.map Place.cells) (hl:l.length<1000000000):
 FC 150 [.agg [SL es,SL qs],ST name,BL up] [] (.ret (nC t (t _ fun _=>fG ⟨l,ps⟩ name up))) []:=by
 refine bP ht (aQ:=[]) Tryz.func150 rfl rfl (N:=35) rfl rfl (n:=0) rfl rfl ?_
 cbv
 have aD:es.length=l.length:=by rw [aE,lgM]
 have bq:qs.length=ps.length:=by rw [eM,lgM]
 refine bc trv (Hq ht _ ‹_› (by omega)) trv rfl rfl (fun r0 dj=>?_)
 simp only [ht] at dj
 have ec:=cJ dj
 clear dj
 rcases ec with ⟨e1,e2,e3⟩|⟨i,x,hi,hil,e1,e2,e3,e4⟩
 ·cbv
  refine av (fun h1=>?_) (fun h1=>?_)
  ·simp [ht,ah,aD,bq] at h1
   cbv
   refine az trv trv rfl rfl rfl ?_
   (simp [ht,nC,qz,fG, *];done)
  simp [ht,ah,aD,bq] at h1
  omega
 cbv
 refine av (fun h2=>?_) (fun h2=>?_)
 ·simp [ht,ah,aD,bq] at h2
  cbv
  refine az trv trv rfl rfl rfl ?_
  (simp only [ht,ah,nC,qz,fG];grind)
 simp [ht,ah,aD,bq] at h2
 cbv
 refine so ht aE (cT:=Node.aZ t) e1 ‹_› (fun _=>rfl) (fun _=>(by (simp only [ht,Node.aZ];done))) ?_
 cbv
 refine av (fun h4=>?_) (fun h4=>?_)
 ·simp [ht,ah,aD,bq] at h4
  cbv
  refine az trv trv rfl rfl rfl ?_
  (obtain ⟨_,rfl⟩:=List.getElem?_eq_some_iff.1 e1;simp [ht,nC,qz,fG,be,List.map_set, *];done)
 simp [ht,ah,aD,bq] at h4
 cbv
 refine jY trv (oX ht ‹_› ‹_›) trv rfl (.inr rfl) ?_
 cbv
 refine ⟨?_,?_⟩
 ·(simp [ht,hi,e1,hil];done)
 refine ⟨?_,?_⟩
 ·(simp [ht,hi,e1,hil];done)
 cbv
 refine az trv (by simp [ht]) rfl rfl rfl ?_
 (obtain ⟨_,rfl⟩:=List.getElem?_eq_some_iff.1 e1;simp [ht,nC,qz,fG,be,List.map_set, *];done)
theorem Ty (ht:TT t) (name:aK) {l:List Node} {ps:List Place} {es qs:List (List D)} (aE:es=l.map Node.cells) (eM:qs=ps.map Place.cells) (hl:l.length<1000000000):
 FC 98 [.agg [SL es,SL qs],ST name] [] (.ret (nC t (t _ fun _=>fG ⟨l,ps⟩ name true))) []:=by
 refine bP ht (aQ:=[]) Tryz.func98 rfl rfl (N:=11) rfl rfl (n:=0) rfl rfl ?_
 cbv
 have aD:es.length=l.length:=by rw [aE,lgM]
 have bq:qs.length=ps.length:=by rw [eM,lgM]
 refine aF trv (L7 ht _ _ ‹_› ‹_› ‹_›) trv rfl rfl rfl (fun r0 dj=>?_)
 simp only [ht] at dj
 cbv
 refine az trv trv rfl rfl rfl ?_
 (simp [ht,nC,qz, *];done)
def QU (t:Th) (r:cH×List Int×Int):AV:=.eA [qz t r.1,SL (t _ fun _=>r.2.1.map c5),bG r.2.2]
theorem Tz {u:List (List D)} {l:List iv} (hu:u=l.map iv.cells) {j:Int} {c:Prop} {o:Option (List D)} {K:Option (List D)→Prop} (hc:c) (ho:o=vV u (.int .u64 j)) (h0:K none) (h1:∀x,K (some [.int .i64 x])):Iy true c o K:=by
 subst hu
 rcases G0 l j with h|⟨x,h⟩
 ·exact ⟨none,fun _=>⟨hc,ho.trans h⟩,h0⟩
 exact ⟨_,fun _=>⟨hc,ho.trans h⟩,h1 x⟩
theorem Bt {u:List (List D)} {l:List iv} (hu:u=l.map iv.cells):∀r∈u,rowIs (.int .u64) 1 r:=by
 subst hu;intro r hr;obtain ⟨m,_,rfl⟩:=List.mem_map.1 hr;exact ⟨_,_,rfl,rfl,rfl⟩
theorem gY {name:aK} {ps:List Place} {k:Nat} {x:Place} (h:ps[k]?=some x):fL name (ps.take (k+1))=gD name (fL name (ps.take k)) x:=by
 unfold fL;rw [dV h,List.foldl_append];rfl
theorem TA (ht:TT t) (name:aK) {l:List Node} {ps:List Place} {es qs:List (List D)} (aE:es=l.map Node.cells) (eM:qs=ps.map Place.cells) (hl:l.length<1000000000) (I0:ps.length<1000000000)
 (hj:∀x∈ps,0≤x.bI∧x.bI<18446744073709551616) (h12:(fL name ps).length≤12):
 FC 97 [.agg [SL es,SL qs],ST name] [] (.ret (QU t (t _ fun _=>sH ⟨l,ps⟩ name))) []:=by
 refine bP ht (aQ:=[]) Tryz.func97 rfl rfl (N:=44) rfl rfl (n:=0) rfl rfl ?_
 cbv
 have aD:es.length=l.length:=by rw [aE,lgM]
 have bq:qs.length=ps.length:=by rw [eM,lgM]
 refine aF trv (L7 ht _ _ ‹_› ‹_› ‹_›) trv rfl rfl rfl (fun r0 dj=>?_)
 simp only [ht] at dj
 cbv
 refine av (fun h1=>?_) (fun h1=>?_)
 ·simp [ht,ah,aD,bq] at h1
  cbv
  refine az trv trv rfl rfl rfl ?_
  (simp only [ht,ah,QU,nC,qz,sH];grind)
 simp [ht,ah,aD,bq] at h1
 cbv
 obtain ⟨J2,ue⟩:∃J2:Nat→Int×List (List D)→Prop,∀n i u,J2 n (i,u)↔(∃(k:Nat) (w:List iv),i=k∧k+n=ps.length∧u=w.map iv.cells∧w.map iv.bI=fL name (ps.take k)):=⟨fun n v=>match v with|(i,u)=>(∃(k:Nat) (w:List iv),i=k∧k+n=ps.length∧u=w.map iv.cells∧w.map iv.bI=fL name (ps.take k)),fun _ _ _=>Iff.rfl⟩
 refine bH ⟨[1,4,7,9,24,25,26],[],[]⟩ (σ:=Int×List (List D)) (fun v=>[(26,.d (.int .i64 (t _ fun _=>v.1)))]) (fun v=>[(2,.mp false (t _ fun _=>v.2))]) J2 ?_
 cbv
 refine aH ⟨ps.length,(_,_),(ue _ _ _).2 ?_,by simp only [ht];rfl,?_⟩
 ·exact ⟨0,[],rfl,by simp,by simp [ht],rfl⟩
 rintro n ⟨i,u⟩ hj
 replace hj:=(ue _ _ _).1 hj
 obtain ⟨k,w,rfl,q1,q6,q4⟩:=hj
 have yg:u.length=w.length:=by rw [q6,lgM]
 have hnd:(w.map iv.bI).Nodup:=by rw [q4];exact nG _ _ _ List.nodup_nil
 have hwj:∀m∈w,0≤m.bI∧m.bI<18446744073709551616:=(by intro m hm;have h9:m.bI∈fL name (ps.take k):=(by rw [←q4];exact List.mem_map.2 ⟨m,hm,rfl⟩);rw [fL,qG] at h9;obtain ⟨x,hx,_,e⟩:=h9.resolve_left (by simp);rw [←e];exact hj x (List.mem_of_mem_take hx))
 have hlen:w.length≤12:=by have:=congrArg List.length q4;rw [lgM] at this;have:=G1 name ps k;omega
 have hmk:ps.length≤k→n6 (w.map iv.bI)=Ey name ps:=(by intro h9;rw [q4,List.take_of_length_le h9];rfl)
 cbv
 refine av (fun h3=>?_) (fun h3=>?_)
 ·simp [ht,ah,aD,bq,yg] at h3
  cbv
  refine kp ht eM (cT:=Place.aZ t) (by (simp only [ht,ah];omega)) (by (simp only [ht,ah];omega)) (fun _=>rfl) (fun _=>rfl) (fun x4 Rz=>?_)
  simp [ht,ah] at Rz
  cbv
  refine av (fun h5=>?_) (fun h5=>?_)
  ·simp [ht,ah,aD,bq,yg] at h5
   cbv
   (refine Tz q6 (by simp only [ht];exact ⟨rfl,rfl,Bt q6⟩) (by simp only [ht]<;>rfl) ?_ (fun c9=>?_))
   ·cbv
    refine ⟨?_,?_⟩
    ·(simp only [ht];exact ⟨⟨rfl,rfl,Bt q6⟩,trv⟩)
    cbv
    refine cz (_,_) (by simp only [ht];rfl) (n-1) ?_ ((ue _ _ _).2 ?_)
    ·omega
    simp only [ht,ah]
    first|exact ⟨k+1,w,aG (by ((try simp only [ah] at*);omega)),by ((try simp only [ah] at*);omega),q6,by rw [gY Rz,gD,if_neg ‹_›];exact q4⟩|exact ⟨k+1,gA w (x4).bI _,aG (by ((try simp only [ah] at*);omega)),by ((try simp only [ah] at*);omega),by rw [q6,ve],by rw [gY Rz,gD,if_pos ‹_›,kQ,q4]⟩
   cbv
   refine ⟨?_,?_⟩
   ·(simp only [ht];exact ⟨⟨rfl,rfl,Bt q6⟩,trv⟩)
   cbv
   refine cz (_,_) (by simp only [ht];rfl) (n-1) ?_ ((ue _ _ _).2 ?_)
   ·omega
   simp only [ht,ah]
   first|exact ⟨k+1,w,aG (by ((try simp only [ah] at*);omega)),by ((try simp only [ah] at*);omega),q6,by rw [gY Rz,gD,if_neg ‹_›];exact q4⟩|exact ⟨k+1,gA w (x4).bI _,aG (by ((try simp only [ah] at*);omega)),by ((try simp only [ah] at*);omega),by rw [q6,ve],by rw [gY Rz,gD,if_pos ‹_›,kQ,q4]⟩
  simp [ht,ah,aD,bq,yg] at h5
  cbv
  refine cz (_,_) (by simp only [ht];rfl) (n-1) ?_ ((ue _ _ _).2 ?_)
  ·omega
  simp only [ht,ah]
  first|exact ⟨k+1,w,aG (by ((try simp only [ah] at*);omega)),by ((try simp only [ah] at*);omega),q6,by rw [gY Rz,gD,if_neg ‹_›];exact q4⟩|exact ⟨k+1,gA w (x4).bI _,aG (by ((try simp only [ah] at*);omega)),by ((try simp only [ah] at*);omega),by rw [q6,ve],by rw [gY Rz,gD,if_pos ‹_›,kQ,q4]⟩
 simp [ht,ah,aD,bq,yg] at h3
 cbv
 (refine ⟨.inr ⟨2,false,_,rfl,?_⟩⟩)
 cbv
 refine dO [false,false,false,false,true,true,true] (by kernel_rfl) (by kernel_rfl) ?_
 cbv
 iterate 2 refine gI (by simp [ht,aj]) ?_
 refine .inl ?_
 refine nB (fun g9=>⟨trv,trv,Tx ht _⟩) rfl rfl rfl ?_
 cbv
 refine .inr (GJ trv (Cg ht (by (simp only [ht];((try simp only [ah] at*);omega))) ‹_› ‹_› ‹_›) trv rfl (.inr rfl) rfl ?_)
 cbv
 refine az trv (by simp [ht]) rfl rfl rfl ?_
 (simp only [ht,QU,qz,sH];rw [←dj,if_pos h1];simp only [hmk (by ((try simp only [ah] at*);omega))];done)
theorem HX {s:aT} {l:List Int} {k:Nat} {x:Int} (h:l[k]?=some x):ie s (l.take (k+1))=(gC (ie s (l.take k)) x 6).1:=by
 unfold ie;rw [dV h,List.foldl_append];rfl
theorem NJ {s:aT} (h:s.good):∀x∈s.aX.places,0≤x.bI∧x.bI<18446744073709551616:=fun x hx=>by
 obtain ⟨j,hj,_,e,_⟩:=h.ok.places x hx
 have h1:=h.ok.vz j hj
 have h2:=h.ok.next
 rw [←e];omega
theorem QV {s:aT} (h:s.good) (name:aK):(fL name s.aX.places).length≤12:=by
 have:=L4 h name
 rwa [Ey,Ew] at this
theorem NK {s:aT} (h:s.good) (name:aK):(sH s.aX name).2.1.length≤12:=by
 unfold sH;split
 ·exact L4 h name
 simp
theorem QW (ht:TT t) (x:iX) (hx:x.u) {k a b c d:Int} (hk:k=x.kind) (ha:a=x.a) (hb:b=x.b) (hc:c=x.c) (hd:d=x.d) (rd nx ef af:Int) {nl:List Node} {pl:List Place} {tl:List bg} {jl:List Jb} {ql:List cu} {el al:List ek} {ns ps ts js qs es bW:List (List D)} (fF:ns=nl.map Node.cells) (hps:ps=pl.map Place.cells) (hts:ts=tl.map bg.cells) (eW:js=jl.map Jb.cells) (eM:qs=ql.map cu.cells) (aE:es=el.map ek.cells) (has:bW=al.map ek.cells) (hgd:(⟨rd,nx,⟨nl,pl⟩,tl,jl,ql,⟨ef,el⟩,⟨af,al⟩⟩:aT).good):
 FC 68 [.agg [U8 k,U8 a,U8 b,U8 c,U8 d],.agg [aC rd,aC nx,SL ns,SL ps,SL ts,SL js,SL qs,aC ef,SL es,aC af,SL bW]] [] (.ret (dM t (t _ fun _=>lu x ⟨rd,nx,⟨nl,pl⟩,tl,jl,ql,⟨ef,el⟩,⟨af,al⟩⟩))) []:=by
 obtain ⟨⟨s1,s2⟩,s3,⟨s4,s5⟩,⟨s6,s7⟩,s8,s9,VP⟩:=(show aT.sm _ from hgd.sm)
 simp only at s1 s2 s3 s4 s5 s6 s7 s8 s9 VP
 have wM:∀x∈jl,x.x.gx.u'∧x.x.path.length<1000000000000:=fun x hx=>⟨(s7 x hx).1.2.1,(s7 x hx).1.1⟩
 have hpj:=NJ hgd
 have hpm:=QV hgd
 simp only at hpj hpm
 obtain ⟨u1,u2,u3,u4,u5⟩:=id hx
 obtain ⟨Z,hZ⟩:∃Z:aT,Z=⟨rd,nx,⟨nl,pl⟩,tl,jl,ql,⟨ef,el⟩,⟨af,al⟩⟩:=⟨_,rfl⟩
 obtain ⟨S,hS⟩:∃S,S=lu x ⟨rd,nx,⟨nl,pl⟩,tl,jl,ql,⟨ef,el⟩,⟨af,al⟩⟩:=⟨_,rfl⟩
 rw [←hS]
 obtain ⟨K,hK⟩:∃K:Nat,K=x.kind%8:=⟨_,rfl⟩
 obtain ⟨I,hI⟩:∃I:Int,I=(x.a%12:Nat):=⟨_,rfl⟩
 have k8:k.tmod 8=(K:Int):=by rw [hk,tm8,hK]
 have a12:IntKind.u64.wrap (a.tmod 12)=I:=by rw [ha,Z0,hI,SX _ (by omega)]
 have b3:b.tmod 3=((x.b%3:Nat):Int):=by rw [hb,Z2]
 have c2:c.tmod 2=((x.c%2:Nat):Int):=by rw [hc,tm2]
 obtain ⟨YY,YZ⟩:=HS s1 s2 (pl:=pl)
 refine bP ht (aQ:=[]) Tryz.func68 rfl rfl (N:=129) rfl rfl (n:=0) rfl rfl ?_
 cbv
 have bJ:ns.length=nl.length:=by rw [fF,lgM]
 have bQ:ps.length=pl.length:=by rw [hps,lgM]
 have bK:ts.length=tl.length:=by rw [hts,lgM]
 have bT:js.length=jl.length:=by rw [eW,lgM]
 have bq:qs.length=ql.length:=by rw [eM,lgM]
 have aD:es.length=el.length:=by rw [aE,lgM]
 have bD:bW.length=al.length:=by rw [has,lgM]
 refine ⟨?_,?_⟩
 ·(simp only [ht,ah] at*;omega)
 refine ⟨?_,?_⟩
 ·(simp only [ht,ah] at*;omega)
 cbv
 refine av (fun h0=>?_) (fun h0=>?_)
 ·simp [ht,ah,k8] at h0
  cbv
  refine av (fun h1=>?_) (fun h1=>?_)
  ·simp [ht,ah,k8] at h1
   cbv
   refine uV [] [4,5,6,7] [false,false,false,true,true,false,false,false,true] (by kernel_rfl) (by kernel_rfl) (by kernel_rfl) (by kernel_rfl) (by kernel_rfl) (by kernel_rfl) ?_
   cbv
   iterate 2 refine gI (by simp) ?_
   refine .inl ?_
   (refine gX (fun g=>⟨by simp,trv,vG ht _ _ _ _ _ x hx hk ha hb hc hd⟩) rfl rfl rfl (fun r1 cF=>?_);simp only [ht] at cF;have NL:r1.sm:=(by rw [cF];exact mJ (mI x)))
   cbv
   (refine aF trv (lV ht rd nx ef af fF hps hts eW eM aE has _ _ _ _ _ _ _ _ (oZ:=r1.cE) (by simp only [ht]) NL s4 s6 s8 s9) (by simp) rfl rfl rfl (fun r2 iJ=>?_);simp only [ht] at iJ)
   cbv
   iterate 3 refine gI (by simp) ?_
   refine az trv trv rfl rfl rfl ?_
   (have e:S=r2.1:=(by rw [hS];unfold lu;rw [if_pos (by ((try simp only [ah] at*);omega)),iJ,cF]);simp only [ht,e];done)
  simp [ht,ah,k8] at h1
  omega
 simp [ht,ah,k8] at h0
 cbv
 refine av (fun h2=>?_) (fun h2=>?_)
 ·simp [ht,ah,k8] at h2
  cbv
  refine av (fun h3=>?_) (fun h3=>?_)
  ·simp [ht,ah,k8] at h3
   cbv
   refine uV [] [4,5,6,7] [false,false,false,true,true,false,false,false,true] (by kernel_rfl) (by kernel_rfl) (by kernel_rfl) (by kernel_rfl) (by kernel_rfl) (by kernel_rfl) ?_
   cbv
   iterate 2 refine gI (by simp) ?_
   refine .inl ?_
   (refine gX (fun g=>⟨by simp,trv,vG ht _ _ _ _ _ x hx hk ha hb hc hd⟩) rfl rfl rfl (fun r1 cF=>?_);simp only [ht] at cF;have NL:r1.sm:=(by rw [cF];exact mJ (mI x)))
   cbv
   (refine aF trv (lV ht rd nx ef af fF hps hts eW eM aE has _ _ _ _ _ _ _ _ (oZ:=r1.cE) (by simp only [ht]) NL s4 s6 s8 s9) (by simp) rfl rfl rfl (fun r2 iJ=>?_);simp only [ht] at iJ)
   cbv
   iterate 3 refine gI (by simp) ?_
   refine az trv trv rfl rfl rfl ?_
   (have e:S=r2.1:=(by rw [hS];unfold lu;rw [if_pos (by ((try simp only [ah] at*);omega)),iJ,cF]);simp only [ht,e];done)
  simp [ht,ah,k8] at h3
  contradiction
 simp [ht,ah,k8] at h2
 cbv
 refine av (fun h4=>?_) (fun h4=>?_)
 ·simp [ht,ah,k8] at h4
  cbv
  refine av (fun h5=>?_) (fun h5=>?_)
  ·simp [ht,ah,k8] at h5
   cbv
   refine uV [] [4,5,6,7] [false,false,false,true,true,false,false,false,true] (by kernel_rfl) (by kernel_rfl) (by kernel_rfl) (by kernel_rfl) (by kernel_rfl) (by kernel_rfl) ?_
   cbv
   iterate 2 refine gI (by simp) ?_
   refine .inl ?_
   (refine gX (fun g=>⟨by simp,trv,vG ht _ _ _ _ _ x hx hk ha hb hc hd⟩) rfl rfl rfl (fun r1 cF=>?_);simp only [ht] at cF;have NL:r1.sm:=(by rw [cF];exact mJ (mI x)))
   cbv
   (refine aF trv (lV ht rd nx ef af fF hps hts eW eM aE has _ _ _ _ _ _ _ _ (oZ:=r1.cE) (by simp only [ht]) NL s4 s6 s8 s9) (by simp) rfl rfl rfl (fun r2 iJ=>?_);simp only [ht] at iJ)
   cbv
   iterate 3 refine gI (by simp) ?_
   refine az trv trv rfl rfl rfl ?_
   (have e:S=r2.1:=(by rw [hS];unfold lu;rw [if_pos (by ((try simp only [ah] at*);omega)),iJ,cF]);simp only [ht,e];done)
  simp [ht,ah,k8] at h5
  contradiction
 simp [ht,ah,k8] at h4
 cbv
 refine av (fun h6=>?_) (fun h6=>?_)
 ·simp [ht,ah,k8] at h6
  cbv
  refine uV [] [4,5,6,7] [false,false,false,true,true,false,false,false,true] (by kernel_rfl) (by kernel_rfl) (by kernel_rfl) (by kernel_rfl) (by kernel_rfl) (by kernel_rfl) ?_
  cbv
  iterate 2 refine gI (by simp) ?_
  refine .inl ?_
  (refine gX (fun g=>⟨by simp,trv,vG ht _ _ _ _ _ x hx hk ha hb hc hd⟩) rfl rfl rfl (fun r1 cF=>?_);simp only [ht] at cF;have NL:r1.sm:=(by rw [cF];exact mJ (mI x)))
  cbv
  (refine aF trv (lV ht rd nx ef af fF hps hts eW eM aE has _ _ _ _ _ _ _ _ (oZ:=r1.cE) (by simp only [ht]) NL s4 s6 s8 s9) (by simp) rfl rfl rfl (fun r2 iJ=>?_);simp only [ht] at iJ)
  cbv
  iterate 3 refine gI (by simp) ?_
  refine az trv trv rfl rfl rfl ?_
  (have e:S=r2.1:=(by rw [hS];unfold lu;rw [if_pos (by ((try simp only [ah] at*);omega)),iJ,cF]);simp only [ht,e];done)
 simp [ht,ah,k8] at h6
 cbv
 refine av (fun h7=>?_) (fun h7=>?_)
 ·simp [ht,ah,k8] at h7
  cbv
  refine av (fun h8=>?_) (fun h8=>?_)
  ·simp [ht,ah,k8] at h8
   cbv
   (refine aF trv (oa ht _ rd nx ef af ns ps ts qs es bW eW (by ((try simp only [ah] at*);omega))) (by simp) rfl rfl rfl (fun r1 cF=>?_);simp only [ht,a12] at cF;have NL:r1.1.x.sm:=(by rw [cF];exact Bh (fun x hx=>(s7 x hx).1)))
   cbv
   refine dO [false,false,false,false,false,false,false,false,false,false,false,false,true,true,false,false,false,true] (by kernel_rfl) (by kernel_rfl) ?_
   cbv
   iterate 2 refine gI (by simp) ?_
   refine .inl ?_
   (refine gX (fun g=>⟨by simp,trv,A2 ht fF hps (by ((try simp only [ah] at*);omega)) (by ((try simp only [ah] at*);omega))⟩) rfl rfl rfl (fun r2 iJ=>?_);simp only [ht] at iJ)
   cbv
   iterate 9 refine gI (by simp) ?_
   ((refine aF trv (Kl ht _ _ _ _ _ (l:=r2) (by simp only [ht]) (by rw [iJ];exact YY) (by rw [iJ];exact YZ) (x:=r1.1.x.cE) (by simp only [ht]) NL.2.2.1 (fun m hm=>(NL.2.2.2 m hm).2.1)) (by simp) rfl rfl rfl (fun r3 mM=>?_);simp only [ht] at mM))
   cbv
   iterate 3 refine gI (by simp) ?_
   refine av (fun h9=>?_) (fun h9=>?_)
   ·cbv
    (refine aF trv (vI ht rd nx ef af fF hps hts eW eM aE has _ (names:=r3.1) (by simp only [ht]) wM s4 s6 s1 s3 s8 s9 (by rw [mM];exact wS _ _ _ _)) (by simp) rfl rfl rfl (fun r4 k9=>?_);simp only [ht,a12] at k9)
    cbv
    refine az trv trv rfl rfl rfl ?_
    (have e3:fit (eT ⟨nl,pl⟩) (bB jl (x.a%12:Nat)).1.x.cE (bB jl (x.a%12:Nat)).1.x.gx (bB jl (x.a%12:Nat)).1.x.count=r3:=(by rw [mM,iJ,cF,hI];rfl);have e:S=r4.1:=(by rw [hS];unfold lu;dsimp only;rw [if_neg (by ((try simp only [ah] at*);omega)),if_pos (by ((try simp only [ah] at*);omega)),e3,if_pos ‹_›,k9,hI]);simp only [ht,e];done)
   cbv
   refine az trv trv rfl rfl rfl ?_
   (have e3:fit (eT ⟨nl,pl⟩) (bB jl (x.a%12:Nat)).1.x.cE (bB jl (x.a%12:Nat)).1.x.gx (bB jl (x.a%12:Nat)).1.x.count=r3:=(by rw [mM,iJ,cF,hI];rfl);have e:S=⟨rd,nx,⟨nl,pl⟩,tl,jl,ql,⟨ef,el⟩,⟨af,al⟩⟩:=(by rw [hS];unfold lu;dsimp only;rw [if_neg (by ((try simp only [ah] at*);omega)),if_pos (by ((try simp only [ah] at*);omega)),e3,if_neg (by simp_all)]);simp only [ht,e,fF,hps,hts,eW,eM,aE,has];done)
  simp [ht,ah,k8] at h8
  contradiction
 simp [ht,ah,k8] at h7
 cbv
 refine av (fun h10=>?_) (fun h10=>?_)
 ·simp [ht,ah,k8] at h10
  cbv
  (refine aF trv (oa ht _ rd nx ef af ns ps ts qs es bW eW (by ((try simp only [ah] at*);omega))) (by simp) rfl rfl rfl (fun r1 cF=>?_);simp only [ht,a12] at cF;have NL:r1.1.x.sm:=(by rw [cF];exact Bh (fun x hx=>(s7 x hx).1)))
  cbv
  refine dO [false,false,false,false,false,false,false,false,false,false,false,false,true,true,false,false,false,true] (by kernel_rfl) (by kernel_rfl) ?_
  cbv
  iterate 2 refine gI (by simp) ?_
  refine .inl ?_
  (refine gX (fun g=>⟨by simp,trv,A2 ht fF hps (by ((try simp only [ah] at*);omega)) (by ((try simp only [ah] at*);omega))⟩) rfl rfl rfl (fun r2 iJ=>?_);simp only [ht] at iJ)
  cbv
  iterate 9 refine gI (by simp) ?_
  ((refine aF trv (Kl ht _ _ _ _ _ (l:=r2) (by simp only [ht]) (by rw [iJ];exact YY) (by rw [iJ];exact YZ) (x:=r1.1.x.cE) (by simp only [ht]) NL.2.2.1 (fun m hm=>(NL.2.2.2 m hm).2.1)) (by simp) rfl rfl rfl (fun r3 mM=>?_);simp only [ht] at mM))
  cbv
  iterate 3 refine gI (by simp) ?_
  refine av (fun h11=>?_) (fun h11=>?_)
  ·cbv
   (refine aF trv (vI ht rd nx ef af fF hps hts eW eM aE has _ (names:=r3.1) (by simp only [ht]) wM s4 s6 s1 s3 s8 s9 (by rw [mM];exact wS _ _ _ _)) (by simp) rfl rfl rfl (fun r4 k9=>?_);simp only [ht,a12] at k9)
   cbv
   refine az trv trv rfl rfl rfl ?_
   (have e3:fit (eT ⟨nl,pl⟩) (bB jl (x.a%12:Nat)).1.x.cE (bB jl (x.a%12:Nat)).1.x.gx (bB jl (x.a%12:Nat)).1.x.count=r3:=(by rw [mM,iJ,cF,hI];rfl);have e:S=r4.1:=(by rw [hS];unfold lu;dsimp only;rw [if_neg (by ((try simp only [ah] at*);omega)),if_pos (by ((try simp only [ah] at*);omega)),e3,if_pos ‹_›,k9,hI]);simp only [ht,e];done)
  cbv
  refine az trv trv rfl rfl rfl ?_
  (have e3:fit (eT ⟨nl,pl⟩) (bB jl (x.a%12:Nat)).1.x.cE (bB jl (x.a%12:Nat)).1.x.gx (bB jl (x.a%12:Nat)).1.x.count=r3:=(by rw [mM,iJ,cF,hI];rfl);have e:S=⟨rd,nx,⟨nl,pl⟩,tl,jl,ql,⟨ef,el⟩,⟨af,al⟩⟩:=(by rw [hS];unfold lu;dsimp only;rw [if_neg (by ((try simp only [ah] at*);omega)),if_pos (by ((try simp only [ah] at*);omega)),e3,if_neg (by simp_all)]);simp only [ht,e,fF,hps,hts,eW,eM,aE,has];done)
 simp [ht,ah,k8] at h10
 cbv
 refine av (fun h12=>?_) (fun h12=>?_)
 ·simp [ht,ah,k8] at h12
  cbv
  (refine aF trv (QE ht rd nx ef af fF hps hts eW eM aE has _ _ wM s4 s6 s3 s8 s9) (by simp) rfl rfl rfl (fun r4 k9=>?_);simp only [ht,a12] at k9)
  cbv
  refine az trv trv rfl rfl rfl ?_
  (have e:S=r4.1:=(by rw [hS];unfold lu;rw [if_neg (by ((try simp only [ah] at*);omega)),if_neg (by ((try simp only [ah] at*);omega)),if_pos (by ((try simp only [ah] at*);omega)),k9,hI]);simp only [ht,e];done)
 simp [ht,ah,k8] at h12
 cbv
 refine av (fun Qk=>?_) (fun Qk=>?_)
 ·simp [ht,ah,k8] at Qk
  cbv
  refine uV [] [9,10,11,12] [false,false,false,false,false,false,false,false,false,false,false,false,false,false,true,true,true] (by kernel_rfl) (by kernel_rfl) (by kernel_rfl) (by kernel_rfl) (by kernel_rfl) (by kernel_rfl) ?_
  cbv
  iterate 5 refine gI (by simp) ?_
  refine gI (by simp [ht]) ?_
  ((refine kp ht (l:=kZ) (cells:=bE) (cT:=gw t) rfl (by simp only [ht,b3];((try simp only [ah] at*);omega)) (by simp only [ht,b3];simp only [kZ,List.length_cons,List.length_nil];((try simp only [ah] at*);omega)) (fun _=>rfl) (fun _=>rfl) (fun xn Uv=>?_);have exn:kZ.getD (x.b%3) []=xn:=(by simp only [ht,b3,Int.toNat_natCast] at Uv;rw [List.getD_eq_getElem?_getD,Uv];rfl)))
  cbv
  refine gI (by simp) ?_
  refine .inl ?_
  ((refine gX (fun g=>⟨by simp,trv,TA ht xn fF hps (by ((try simp only [ah] at*);omega)) (by ((try simp only [ah] at*);omega)) hpj (hpm _)⟩) rfl rfl rfl (fun r5 zj=>?_);simp only [ht] at zj;have hl5:r5.2.1.length≤12:=(by rw [zj];exact NK hgd xn);have hG5:∀l,(ie (j7 Z r5.1) l).good:=(fun l=>Bn (by have:=wU hgd xn false;rw [←Dw] at this;rw [zj,hZ];exact this) l);have e5:K=7→S=if r5.2.2=0∧x.c%2=0 then ie (j7 Z r5.1) r5.2.1 else j7 Z (fG ⟨nl,pl⟩ xn true).1:=(by intro hK7;rw [hS,hZ,zj,←exn];unfold lu;rw [if_neg (by ((try simp only [ah] at*);omega)),if_neg (by ((try simp only [ah] at*);omega)),if_neg (by ((try simp only [ah] at*);omega))];rfl)))
  cbv
  iterate 4 refine gI (by simp) ?_
  iterate 4 refine gI (by simp [ht]) ?_
  refine pI (by simp [ht]) ?_
  refine av (fun Nb=>?_) (fun Nb=>?_)
  ·simp [ht,ah,c2] at Nb
   cbv
   obtain ⟨J15,VY⟩:∃J15:Nat→Int×Int×Int×List (List D)×List (List D)×List (List D)×List (List D)×List (List D)×Int×List (List D)×Int×List (List D)→Prop,∀n i rd nx ns ps ts js qs ef es af bW,J15 n (i,rd,nx,ns,ps,ts,js,qs,ef,es,af,bW)↔(∃q:Nat,i=q∧q+n=r5.2.1.length∧Told (ie (j7 Z r5.1) (r5.2.1.take q)) rd nx ns ps ts js qs ef es af bW):=⟨fun n v=>match v with|(i,rd,nx,ns,ps,ts,js,qs,ef,es,af,bW)=>(∃q:Nat,i=q∧q+n=r5.2.1.length∧Told (ie (j7 Z r5.1) (r5.2.1.take q)) rd nx ns ps ts js qs ef es af bW),fun _ _ _ _ _ _ _ _ _ _ _ _ _=>Iff.rfl⟩
   refine bH ⟨[3,4,11,13],[],[]⟩ (σ:=Int×Int×Int×List (List D)×List (List D)×List (List D)×List (List D)×List (List D)×Int×List (List D)×Int×List (List D)) (fun v=>[(13,.d (.int .i64 (t _ fun _=>v.1)))]) (fun v=>[(0,.var [.d (.int .u64 (t _ fun _=>v.2.1)),.d (.int .u64 (t _ fun _=>v.2.2.1)),.d (.sl (t _ fun _=>v.2.2.2.1)),.d (.sl (t _ fun _=>v.2.2.2.2.1)),.d (.sl (t _ fun _=>v.2.2.2.2.2.1)),.d (.sl (t _ fun _=>v.2.2.2.2.2.2.1)),.d (.sl (t _ fun _=>v.2.2.2.2.2.2.2.1)),.d (.int .u64 (t _ fun _=>v.2.2.2.2.2.2.2.2.1)),.d (.sl (t _ fun _=>v.2.2.2.2.2.2.2.2.2.1)),.d (.int .u64 (t _ fun _=>v.2.2.2.2.2.2.2.2.2.2.1)),.d (.sl (t _ fun _=>v.2.2.2.2.2.2.2.2.2.2.2))])]) J15 ?_
   cbv
   refine aH ⟨r5.2.1.length,(_,_,_,_,_,_,_,_,_,_,_,_),(VY _ _ _ _ _ _ _ _ _ _ _ _ _).2 ?_,by simp only [ht];rfl,?_⟩
   ·exact ⟨0,rfl,by simp,by rw [hZ];exact ⟨rfl,rfl,by rfl,by rfl,hts,eW,eM,rfl,aE,rfl,has⟩⟩
   rintro n ⟨i,rd,nx,ns,ps,ts,js,qs,ef,es,af,bW⟩ hj
   replace hj:=(VY _ _ _ _ _ _ _ _ _ _ _ _ _).1 hj
   obtain ⟨q,rfl,j1,jT⟩:=hj
   cbv
   refine av (fun Ql=>?_) (fun Ql=>?_)
   ·simp [ht,ah] at Ql
    cbv
    refine uV [1,2] [1,2,6,7,8] [false,false,false,false,false,true,true,false,false,true] (by kernel_rfl) (by kernel_rfl) (by kernel_rfl) (by kernel_rfl) (by kernel_rfl) (by kernel_rfl) ?_
    cbv
    iterate 3 refine gI (by simp) ?_
    (refine kp ht (l:=r5.2.1) (cells:=c5) (cT:=Tq t) (by simp only [ht]<;>rfl) (by simp only [ht,ah];omega) (by simp only [ht,ah];((try simp only [ah] at*);omega)) (fun _=>rfl) (fun _=>rfl) (fun x2 n9=>?_);simp [ht,ah] at n9)
    cbv
    refine gI (by simp) ?_
    (have pK:=(hG5 (r5.2.1.take q)).sm;refine aF trv (EY ht _ _ _ _ (nl:=(ie (j7 Z r5.1) (r5.2.1.take q)).aX.nodes) (pl:=(ie (j7 Z r5.1) (r5.2.1.take q)).aX.places) (tl:=(ie (j7 Z r5.1) (r5.2.1.take q)).tree) (jl:=(ie (j7 Z r5.1) (r5.2.1.take q)).ap) (ql:=(ie (j7 Z r5.1) (r5.2.1.take q)).queue) (el:=(ie (j7 Z r5.1) (r5.2.1.take q)).ev.l) (al:=(ie (j7 Z r5.1) (r5.2.1.take q)).au.l) (by simp only [ht];exact jT.n) (by simp only [ht];exact jT.p) (by simp only [ht];exact jT.t) (by simp only [ht];exact jT.j) (by simp only [ht];exact jT.q) (by simp only [ht];exact jT.e) (by simp only [ht];exact jT.a) _ _ (tV pK) pK.tree.1 pK.ap.1 pK.places pK.queue pK.notes.1) (by simp) rfl rfl rfl (fun r7 Dt=>?_);simp only [ht] at Dt;rw [jT.eq] at Dt)
    cbv
    iterate 2 refine gI (by simp) ?_
    refine cz (_,_,_,_,_,_,_,_,_,_,_,_) (by simp only [ht];rfl) (n-1) ?_ ((VY _ _ _ _ _ _ _ _ _ _ _ _ _).2 ?_)
    ·omega
    simp only [ah]
    exact ⟨q+1,aG (by ((try simp only [ah] at*);omega)),by ((try simp only [ah] at*);omega),by rw [HX n9,←Dt];exact Told.self r7.1⟩
   simp [ht,ah] at Ql
   cbv
   refine az trv trv rfl rfl rfl ?_
   (have e:=e5 (by ((try simp only [ah] at*);omega));rw [if_pos ⟨Nb.1,by ((try simp only [ah] at*);omega)⟩] at e;rw [List.take_of_length_le (by ((try simp only [ah] at*);omega))] at jT;simp only [ht,e,jT.r,jT.x,jT.n,jT.p,jT.t,jT.j,jT.q,jT.f,jT.e,jT.g,jT.a];done)
  simp [ht,ah,c2] at Nb
  cbv
  refine uV [] [9,10,11] [false,false,false,false,false,false,false,false,true,true,false,false,true,true] (by kernel_rfl) (by kernel_rfl) (by kernel_rfl) (by kernel_rfl) (by kernel_rfl) (by kernel_rfl) ?_
  cbv
  iterate 5 refine gI (by simp) ?_
  refine gI (by simp [ht]) ?_
  ((refine kp ht (l:=kZ) (cells:=bE) (cT:=gw t) rfl (by simp only [ht,b3];((try simp only [ah] at*);omega)) (by simp only [ht,b3];simp only [kZ,List.length_cons,List.length_nil];((try simp only [ah] at*);omega)) (fun _=>rfl) (fun _=>rfl) (fun xm mxm=>?_);have exm:kZ.getD (x.b%3) []=xm:=(by simp only [ht,b3,Int.toNat_natCast] at mxm;rw [List.getD_eq_getElem?_getD,mxm];rfl);rw [exn] at exm;subst exm))
  cbv
  refine gI (by simp) ?_
  ((refine aF trv (Ty ht xn fF hps (by ((try simp only [ah] at*);omega))) (by simp) rfl rfl rfl (fun r6 ol=>?_);simp only [ht] at ol))
  cbv
  iterate 2 refine gI (by simp) ?_
  refine az trv trv rfl rfl rfl ?_
  (have e:=e5 (by ((try simp only [ah] at*);omega));rw [if_neg (by intro h;have:=Nb h.1;((try simp only [ah] at*);omega))] at e;rw [←ol] at e;simp only [ht,e,hZ,j7,hts,eW,eM,aE,has];done)
 simp [ht,ah,k8] at Qk
 (simp only [ah] at*;omega)
theorem Dy (ht:TT t) (N:Nat) (hN:N<256) {a:Int} (ea:a=N) {l:List iX} {dl:List (List D)} (Ru:dl=l.map iX.cells) (Yr:∀x∈l,x.u) (Y8:l.length<9223372036854775808):
 FC 26 [U8 a,SL dl] [] (.ret (dM t (t _ fun _=>gS N l (min l.length 40)))) []:=by
 refine bP ht (aQ:=[]) Tryz.func26 rfl rfl (N:=26) rfl rfl (n:=0) rfl rfl ?_
 cbv
 have dy:dl.length=l.length:=by rw [Ru,lgM]
 (refine aF trv (yl ht N hN ea) (by simp [ht]) rfl rfl rfl (fun r1 cF=>?_);simp only [ht] at cF)
 cbv
 obtain ⟨J0,fI⟩:∃J0:Nat→Int×Int×Int×List (List D)×List (List D)×List (List D)×List (List D)×List (List D)×Int×List (List D)×Int×List (List D)→Prop,∀n i rd nx ns ps ts js qs ef es af bW,J0 n (i,rd,nx,ns,ps,ts,js,qs,ef,es,af,bW)↔(∃k:Nat,i=k∧k+n=40∧k≤l.length∧Told (gS N l k) rd nx ns ps ts js qs ef es af bW):=⟨fun n v=>match v with|(i,rd,nx,ns,ps,ts,js,qs,ef,es,af,bW)=>(∃k:Nat,i=k∧k+n=40∧k≤l.length∧Told (gS N l k) rd nx ns ps ts js qs ef es af bW),fun _ _ _ _ _ _ _ _ _ _ _ _ _=>Iff.rfl⟩
 refine bH ⟨[1,4,5,6],[],[]⟩ (σ:=Int×Int×Int×List (List D)×List (List D)×List (List D)×List (List D)×List (List D)×Int×List (List D)×Int×List (List D)) (fun v=>[(6,.d (.int .i64 (t _ fun _=>v.1)))]) (fun v=>[(1,.var [.d (.int .u64 (t _ fun _=>v.2.1)),.d (.int .u64 (t _ fun _=>v.2.2.1)),.d (.sl (t _ fun _=>v.2.2.2.1)),.d (.sl (t _ fun _=>v.2.2.2.2.1)),.d (.sl (t _ fun _=>v.2.2.2.2.2.1)),.d (.sl (t _ fun _=>v.2.2.2.2.2.2.1)),.d (.sl (t _ fun _=>v.2.2.2.2.2.2.2.1)),.d (.int .u64 (t _ fun _=>v.2.2.2.2.2.2.2.2.1)),.d (.sl (t _ fun _=>v.2.2.2.2.2.2.2.2.2.1)),.d (.int .u64 (t _ fun _=>v.2.2.2.2.2.2.2.2.2.2.1)),.d (.sl (t _ fun _=>v.2.2.2.2.2.2.2.2.2.2.2))])]) J0 ?_
 cbv
 refine aH ⟨40,(_,_,_,_,_,_,_,_,_,_,_,_),(fI _ _ _ _ _ _ _ _ _ _ _ _ _).2 ?_,by simp only [ht];rfl,?_⟩
 ·exact ⟨0,rfl,by omega,by omega,by rw [show gS N l 0=r1 from cF.symm];exact Told.self r1⟩
 rintro n ⟨i,rd,nx,ns,ps,ts,js,qs,ef,es,af,bW⟩ hj
 replace hj:=(fI _ _ _ _ _ _ _ _ _ _ _ _ _).1 hj
 obtain ⟨k,rfl,j1,j2,jT⟩:=hj
 cbv
 iterate 2 refine gI (by simp [ht,aj]) ?_
 refine pI (by simp [ht,aj]) ?_
 refine av (fun h1=>?_) (fun h1=>?_)
 ·simp [ht,ah,dy] at h1
  cbv
  refine dO [false,false,false,false,false,true,true] (by kernel_rfl) (by kernel_rfl) ?_
  cbv
  iterate 2 refine gI (by simp [ht,aj]) ?_
  refine kp ht Ru (cT:=iX.aZ t) (by (simp only [ht,ah];omega)) (by (simp only [ht,ah];omega)) (fun _=>rfl) (fun _=>rfl) (fun x2 n9=>?_)
  simp [ht,ah] at n9
  cbv
  iterate 2 refine gI (by simp [ht,aj]) ?_
  ((refine aF trv (QW ht x2 (Yr x2 (List.mem_of_getElem? n9)) rfl rfl rfl rfl rfl _ _ _ _ (nl:=(gS N l k).aX.nodes) (pl:=(gS N l k).aX.places) (tl:=(gS N l k).tree) (jl:=(gS N l k).ap) (ql:=(gS N l k).queue) (el:=(gS N l k).ev.l) (al:=(gS N l k).au.l) (by simp only [ht];exact jT.n) (by simp only [ht];exact jT.p) (by simp only [ht];exact jT.t) (by simp only [ht];exact jT.j) (by simp only [ht];exact jT.q) (by simp only [ht];exact jT.e) (by simp only [ht];exact jT.a) (by simp only [ht];rw [jT.eq];exact qQ N l k)) (by simp [ht]) rfl rfl rfl (fun r1 cF=>?_);simp only [ht] at cF;rw [jT.eq,←HU n9] at cF))
  cbv
  refine cz (_,_,_,_,_,_,_,_,_,_,_,_) (by simp only [ht];rfl) (n-1) ?_ ((fI _ _ _ _ _ _ _ _ _ _ _ _ _).2 ?_)
  ·((try simp only [ah] at*);omega)
  simp only [ht,ah]
  exact ⟨k+1,aG (by ((try simp only [ah] at*);omega)),by ((try simp only [ah] at*);omega),by ((try simp only [ah] at*);omega),by rw [←cF];exact Told.self r1⟩
 simp [ht,ah,dy] at h1
 cbv
 refine az trv trv rfl rfl rfl ?_
 (have hk:min l.length 40=k:=(by ((try simp only [ah] at*);omega));simp only [ht,hk,jT.r,jT.x,jT.n,jT.p,jT.t,jT.j,jT.q,jT.f,jT.e,jT.g,jT.a];done)
end Dem
end
section
open Go
namespace Dem
theorem yA {s:aT} (h:s.good) {x:Ask} (hx:sJ x):(dc s x).1.good:=⟨h.ok.dc hx.gx,Bb h.eZ hx,Bl h.ok h.yW x⟩
theorem Kx {s:aT} (h:s.good) {id:Int} (hi:id<12) (names:List aK):(cq s id names).1.good:=⟨h.ok.wK _ _,(yo h.ok _ _).eZ h.eZ,Dv h.ok h.yW hi _⟩
theorem vL (n:Nat):(jN n).good:=⟨AX n,yq _ n,fun j hj=>by cases hj⟩
def xA1:Ask:=⟨[97],⟨3,0,0,0⟩,1,1,5,[]⟩
def Ys (tk:Int):Ask:=⟨[98],⟨2,0,0,0⟩,1,3,tk,[]⟩
theorem QX {a b c d:Int} (h:∀x∈[a,b,c,d],0≤x∧x<18446744073709551616):(⟨a,b,c,d⟩:bM).w:=by
 intro k hk;unfold bM.at_;split<;>exact h _ (by simp)
theorem Dz:sJ xA1:=⟨by decide,QX (by decide),by decide,fun m hm=>by cases hm⟩
theorem DA (tk:Int):sJ (Ys tk):=⟨by simp [Ys],QX (by decide),by simp [Ys],fun m hm=>by cases hm⟩
def QY:aT:=(dc (jN 192) xA1).1
def QZ:Int:=(dc (jN 192) xA1).2.1
def HY:aT:=(cq QY QZ [[110,49]]).1
def Ch (tk:Int):aT:=(dc HY (Ys tk)).1
theorem Q0:QZ<12:=by decide+kernel
theorem Bu:QY.good:=yA (vL 192) Dz
theorem Bv:HY.good:=Kx Bu Q0 _
theorem NM (tk:Int):(Ch tk).good:=yA Bv (DA tk)
theorem NN:Ca.good:=by
 have e:Ca=⟨0,1,⟨[],[]⟩,[⟨[],bM.zero,bM.zero⟩],[],[],⟨0,[]⟩,⟨0,[]⟩⟩:=rfl
 refine ⟨?_,⟨fun n hn=>(by cases hn),fun e he=>?_,fun j hj=>(by cases hj)⟩,fun j hj=>(by cases hj)⟩
 ·exact {
   aX:=LC,gR:=PC
   tree:=⟨⟨_,_,rfl,rfl⟩,by decide,by rw [e];exact List.pairwise_singleton _ _,by decide+kernel,by decide+kernel,by decide+kernel,fun x hx=>by rw [List.mem_singleton.1 hx];exact ⟨wG,wG⟩⟩
   used:=fun x hx k _=>by rw [List.mem_singleton.1 hx,nh];rfl
   most:=by decide
   next:=by decide
   ids:=List.Pairwise.nil
   vz:=fun j hj=>by cases hj
   py:=fun j hj=>by cases hj
   left:=fun j hj=>by cases hj
   iw:=List.Pairwise.nil
   kR:=List.Pairwise.nil
   gm:=fun q=>by simp [e]
   places:=fun x hx=>by cases hx
   count:=fun j hj=>by cases hj
   notes:=by decide}
 rw [List.mem_singleton.1 he];decide
theorem Ky {s:aT} {id:Int} {a:Jb} (h:(bB s.ap id).2=true) (g:(s.ap.filter fun o=>o.runs&&decide (o.x.prio<(bB s.ap id).1.x.prio)).map (·.id)=[a.id]):bZ s id=[a.id]:=by
 unfold bZ
 rw [h]
 obtain ⟨b,hb⟩:∃b,(s.ap.filter fun o=>o.runs&&decide (o.x.prio<(bB s.ap id).1.x.prio))=[b]:=List.length_eq_one_iff.1 (by have:=congrArg List.length g;simpa using this)
 rw [hb] at g ⊢
 simpa using g
theorem qV {s:aT} {id:Int} (g:(s.ap.filter fun o=>o.runs&&decide (o.x.prio<(bB s.ap id).1.x.prio)).map (·.id)=[]):bZ s id=[]:=by
 unfold bZ
 split
 ·rfl
 rw [List.map_eq_nil_iff.1 g];simp
def qW (s:aT) (id:Int) (A:List Int):List Int×List aK×Bool:=match ld s id A (A.length+1) 0 with
 |none=>([],[],false)
 |some (l,nodes)=>((gq s id (l.length+1) 0 l nodes).1,(gq s id (l.length+1) 0 l nodes).2,true)
def iy (v:bM):List bV→Nat→Prop
 |[],n=>n=0
 |s::r,n=>∃m≤n,(∀k<4,m*vk k v≤vk k s.free)∧iy v r (n-m)
theorem iy.zero (v:bM):∀l:List bV,iy v l 0
 |[]=>rfl
 |_::r=>⟨0,Nat.le_refl _,fun k _=>by simp,iy.zero v r⟩
theorem iy.less {v:bM}:∀{l:List bV} {n:Nat},iy v l (n+1)→iy v l n
 |[],n,h=>by cases h
 |s::r,n,⟨m,hm,h1,h2⟩=>by
  cases m with
  |zero=>exact ⟨0,Nat.zero_le _,h1,by simpa using iy.less (l:=r) (n:=n) (by simpa using h2)⟩
  |succ m=>
   refine ⟨m,by omega,fun k hk=>Nat.le_trans (Nat.mul_le_mul_right _ (Nat.le_succ m)) (h1 k hk),?_⟩
   rwa [show n+1-(m+1)=n-m by omega] at h2
theorem iy.put {v:bM} {s':bV}:∀{l:List bV} {i n:Nat} {s:bV},l[i]?=some s→(∀k<4,vk k v≤vk k s.free)→(∀k<4,vk k s'.free=vk k s.free-vk k v)→iy v (l.set i s') n→iy v l (n+1)
 |[],i,n,s,h,_,_,_=>by simp at h
 |x::r,0,n,s,h,hf,he,⟨m,hm,h1,h2⟩=>by
  simp only [List.getElem?_cons_zero,osI] at h;subst h
  refine ⟨m+1,by omega,fun k hk=>?_,by rwa [show n+1-(m+1)=n-m by omega]⟩
  have a:=h1 k hk;have b:=he k hk;have c:=hf k hk
  rw [b] at a
  rw [Nat.add_mul,Nat.one_mul];omega
 |x::r,i+1,n,s,h,hf,he,⟨m,hm,h1,h2⟩=>by
  simp only [List.getElem?_cons_succ] at h
  refine ⟨m,by omega,h1,?_⟩
  rw [show n+1-m=(n-m)+1 by omega]
  exact iy.put h hf he h2
theorem iy.take {v:bM} {s':bV}:∀{l:List bV} {i n:Nat} {s:bV},l[i]?=some s→(∀k<4,vk k s'.free=vk k s.free-vk k v)→iy v l (n+1)→iy v (l.set i s') n
 |[],i,n,s,h,_,_=>by simp at h
 |x::r,0,n,s,h,he,⟨m,hm,h1,h2⟩=>by
  simp only [List.getElem?_cons_zero,osI] at h;subst h
  cases m with
  |zero=>exact ⟨0,Nat.zero_le _,fun k _=>by simp,by simpa using iy.less (l:=r) (n:=n) (by simpa using h2)⟩
  |succ m=>
   refine ⟨m,by omega,fun k hk=>?_,by rwa [show n+1-(m+1)=n-m by omega] at h2⟩
   have a:=h1 k hk;have b:=he k hk
   rw [Nat.add_mul,Nat.one_mul] at a
   rw [b];omega
 |x::r,i+1,n,s,h,he,⟨m,hm,h1,h2⟩=>by
  simp only [List.getElem?_cons_succ] at h
  by_cases e:m=n+1
  ·subst e
   refine ⟨n,Nat.le_refl _,fun k hk=>Nat.le_trans (Nat.mul_le_mul_right _ (Nat.le_succ n)) (h1 k hk),?_⟩
   rw [Nat.sub_self];exact iy.zero v _
  refine ⟨m,by omega,h1,iy.take h he ?_⟩
  rwa [show n+1-m=(n-m)+1 by omega] at h2
theorem iy.one {v:bM}:∀{l:List bV} {n:Nat},iy v l (n+1)→∃s∈l,∀k<4,vk k v≤vk k s.free
 |[],n,h=>by cases h
 |x::r,n,⟨m,hm,h1,h2⟩=>by
  cases m with
  |zero=>
   obtain ⟨s,hs,h⟩:=iy.one (l:=r) (n:=n) (by simpa using h2)
   exact ⟨s,by simp [hs],h⟩
  |succ m=>exact ⟨x,by simp,fun k hk=>by have:=h1 k hk;rw [Nat.add_mul,Nat.one_mul] at this;omega⟩
theorem iy.mono {v:bM}:∀{l l':List bV} {n:Nat},l.length=l'.length→(∀(i:Nat) (s s':bV),l[i]?=some s→l'[i]?=some s'→∀k<4,vk k s.free≤vk k s'.free)→iy v l n→iy v l' n
 |[],[],n,_,_,h=>h
 |[],_::_,_,h,_,_=>by cases h
 |_::_,[],_,h,_,_=>by cases h
 |x::r,y::q,n,hl,hf,⟨m,hm,h1,h2⟩=>
  ⟨m,hm,fun k hk=>Nat.le_trans (h1 k hk) (hf 0 x y rfl rfl k hk),iy.mono (by simpa using hl) (fun i s s' a b=>hf (i+1) s s' (by simpa using a) (by simpa using b)) h2⟩
theorem o5 (v:bM) (hv:v.w):∀(l:List bV) (k:Nat) (b:Eo) (L:List bV),(∀s∈L,s.free.w)→L.drop k=l→
 (b.ok=true→∃s,L[b.at_]?=some s∧(ej s.free v).2=true∧b.left=(ej s.free v).1)→
 ((
  (mD v l k b).ok=true→∃s,L[(mD v l k b).at_]?=some s∧(ej s.free v).2=true∧(mD v l k b).left=(ej s.free v).1)∧
  ((mD v l k b).ok=false→b.ok=false∧∀s∈l,(ej s.free v).2=false))
 |[],k,b,L,_,_,hb=>by simp only [mD];exact ⟨hb,fun h=>⟨h,by simp⟩⟩
 |s::r,k,b,L,hw,hd,hb=>by
  have hs:L[k]?=some s:=by
   have:=congrArg (fun x=>x[0]?) hd
   simpa using this
  have hr:L.drop (k+1)=r:=by rw [←List.drop_drop,hd];rfl
  simp only [mD]
  by_cases c:((ej s.free v).2&&(!b.ok||decide (qA (ej s.free v).1 b.left<0)))=true
  ·rw [if_pos c]
   rw [Bool.and_eq_true] at c
   obtain ⟨g1,g2⟩:=o5 v hv r (k+1) ⟨k,(ej s.free v).1,true⟩ L hw hr (fun _=>⟨s,hs,c.1,rfl⟩)
   exact ⟨g1,fun h=>absurd (g2 h).1 (by simp)⟩
  rw [if_neg c]
  obtain ⟨g1,g2⟩:=o5 v hv r (k+1) b L hw hr hb
  refine ⟨g1,fun h=>⟨(g2 h).1,fun x hx=>?_⟩⟩
  rcases List.mem_cons.1 hx with rfl|hx
  ·have:=(g2 h).1
   rw [this] at c
   simpa using c
  exact (g2 h).2 x hx
theorem HZ {v:bM} (hv:v.w) {l:List bV} (hw:∀s∈l,s.free.w) (h:(best l v).ok=true):∃s,l[(best l v).at_]?=some s∧(ej s.free v).2=true∧(best l v).left=(ej s.free v).1:=
 (o5 v hv l 0 ⟨0,bM.zero,false⟩ l hw rfl (fun h=>by cases h)).1 h
theorem Q2 {v:bM} (hv:v.w) {l:List bV} (hw:∀s∈l,s.free.w) (h:(best l v).ok=false):∀s∈l,(ej s.free v).2=false:=
 ((o5 v hv l 0 ⟨0,bM.zero,false⟩ l hw rfl (fun h=>by cases h)).2 h).2
theorem H6 {v:bM} (hv:v.w):∀(n:Nat) (l:List bV) (out:List aK),(∀s∈l,s.free.w)→((nX v n l out).2=true↔iy v l n)
 |0,l,out,_=>⟨fun _=>iy.zero v l,fun _=>rfl⟩
 |n+1,l,out,hw=>by
  simp only [nX]
  cases hb:(best l v).ok with
  |false=>
   rw [show (!false)=true from rfl,if_pos rfl]
   refine ⟨fun h=>Bool.noConfusion h,fun h=>?_⟩
   obtain ⟨s,hs,hf⟩:=iy.one h
   have:=Q2 hv hw hb s hs
   rw [←Bool.not_eq_true,m8] at this
   exact absurd hf this
  |true=>
   obtain ⟨s,h1,h2,h3⟩:=HZ hv hw hb
   rw [show (!true)=false from rfl,if_neg (by decide)]
   have wM:s∈l:=List.mem_of_getElem? h1
   have hd:l.getD (best l v).at_ default=s:=by rw [List.getD_eq_getElem?_getD,h1];rfl
   rw [hd,h3]
   have hle:∀k<4,vk k ({s with free:=(ej s.free v).1}:bV).free=vk k s.free-vk k v:=fun k hk=>EA (hw s wM) h2 hk
   have hw':∀x∈l.set (best l v).at_ {s with free:=(ej s.free v).1},x.free.w:=fun x hx=>by
    rcases zf hx with hx|rfl
    ·exact hw x hx
    exact Jv h2
   rw [H6 hv n _ _ hw']
   exact ⟨fun h=>iy.put h1 (m8.1 h2) hle h,fun h=>iy.take h1 hle h⟩
theorem NO {name:aK} {ps:List Place} {v:bM} {l:List Node} {n:Node} (ha:Jr l) (hn:n∈l) (h:(cI n.name l ps).2=true):cI n.name l ps=left n.name ps (n.cap,true):=by
 have h2:=wF ha hn ps
 rw [gP ha hn] at h
 rw [h2,if_pos h]
theorem L8 {p:cH} (h:p.ok) (hw:p.w) {n:Node} (hn:n∈p.nodes) {k:Nat} (hk:k<4):(cI n.name p.nodes p.places).1.at_ k=((vk k n.cap-gz k (here n.name p.places):Nat):Int):=by
 have h1:=h.free n hn
 rw [gP h.xZ hn] at h1
 rw [NO (name:=n.name) (v:=n.cap) h.xZ hn (h.free n hn)]
 exact (nY n.name p.places n.cap (hw.cap n hn)).2 h1 k hk
theorem L9 {p:cH} (h:p.ok) (hw:p.w) {n:Node} (hn:n∈p.nodes) {k:Nat} (hk:k<4):vk k (cI n.name p.nodes p.places).1=vk k n.cap-gz k (here n.name p.places):=by
 unfold vk;rw [L8 h hw hn hk];rfl
theorem Q3 {p:cH} (h:p.ok) (hw:p.w) {n:Node} (hn:n∈p.nodes):(cI n.name p.nodes p.places).1.w:=by
 intro k hk
 have h1:=L8 h hw hn hk
 have h2:=(JA (hw.cap n hn) hk).2
 rw [h1];omega
def iR (p:cH) (n:Node):bV:=⟨n.name,(cI n.name p.nodes p.places).1,n.labels⟩
theorem NP {p:cH} (h:p.ok):eT p=(p.nodes.filter (·.up)).map (iR p):=by
 have:∀r:List Node,(∀n∈r,n∈p.nodes)→r.filterMap (nW p.nodes p.places)=(r.filter (·.up)).map (iR p):=by
  intro r
  induction r with
  |nil=>intro _;rfl
  |cons n r ih=>
   intro hr
   have h1:=h.free n (hr n (by simp))
   have h2:=ih fun m hm=>hr m (by simp [hm])
   rw [List.filterMap_cons,List.filter_cons]
   cases hu:n.up
   ·simp [nW,hu,h2]
   simp [nW,hu,h1,h2,iR]
 exact this p.nodes fun n hn=>hn
theorem nu {p:cH} (h:p.ok) (x:List Term):fitting (eT p) x=((p.nodes.filter (·.up)).filter fun n=>nD x n.labels).map (iR p):=by
 rw [NP h,fitting,List.filter_map];rfl
theorem NQ {p:cH} (h:p.ok) (hw:p.w) (x:List Term):∀s∈fitting (eT p) x,s.free.w:=by
 rw [nu h]
 intro s hs
 obtain ⟨n,hn,rfl⟩:=List.mem_map.1 hs
 exact Q3 h hw (List.mem_filter.1 (List.mem_filter.1 hn).1).1
theorem Ma {p:cH} (h:p.ok) (hw:p.w) {x:List Term} {v:bM} (hv:v.w) {c:Int} (hc:0≤c∧c≤8):(fit (eT p) x v c).2=true↔iy v (fitting (eT p) x) c.toNat:=by
 unfold fit
 rw [if_neg (by omega),H6 hv _ _ _ (NQ h hw x),show max c 0=c by omega]
theorem Q4 {p q:cH} (h:p.ok) (hw:p.w) (h':q.ok) (hw':q.w) (hn:q.nodes=p.nodes) (hu:∀n,∀k<4,gz k (here n q.places)≤gz k (here n p.places)) {x:List Term} {v:bM} (hv:v.w) {c:Int} (hc:0≤c∧c≤8)
 (e:(fit (eT p) x v c).2=true):(fit (eT q) x v c).2=true:=by
 rw [Ma h hw hv hc] at e
 rw [Ma h' hw' hv hc]
 rw [nu h] at e
 rw [nu h',hn]
 refine iy.mono (by simp) (fun i s s' a b k hk=>?_) e
 rw [List.getElem?_map] at a b
 cases hi:(List.filter (fun n=>nD x n.labels) (List.filter (·.up) p.nodes))[i]? with
 |none=>rw [hi] at a;cases a
 |some n=>
  rw [hi] at a b
  simp only [Option.map_some,osI] at a b
  subst a;subst b
  have hm:=(List.mem_filter.1 (List.mem_filter.1 (List.mem_of_getElem? hi)).1).1
  have h1:=L9 h hw hm hk
  have h2:=L9 h' hw' (n:=n) (by rw [hn];exact hm) hk
  have h3:=hu n.name k hk
  simp only [iR]
  rw [h1,h2];omega
theorem Bw {s:aT} (h:s.ok) {p:aK} {v:bM}:(c6 s.tree p v).2=0↔named p=true∧(∀q∈above p,∃e∈s.tree,e.path=q)∧∀e∈s.tree,e.path∈above p→∀k<4,gQ k e.path s.ap+vk k v≤vk k e.eZ:=by
 have hz:∀e∈s.tree,(fK v e).2=0↔∀k<4,gQ k e.path s.ap+vk k v≤vk k e.eZ:=by
  intro e he
  rw [oT,n7]
  constructor
  ·rintro ⟨h1,h2⟩ k hk
   have h3:=mF.1 h2 k hk
   rw [oR (n7.2 h1) hk,h.used e he k hk] at h3
   exact h3
  intro h1
  have h2:∀k<4,vk k e.used+vk k v<18446744073709551616:=fun k hk=>by
   have a:=h1 k hk;have b:=(JA (h.tree.w e he).1 hk).2
   rw [h.used e he k hk];omega
  refine ⟨h2,mF.2 fun k hk=>?_⟩
  rw [oR (n7.2 h2) hk,h.used e he k hk]
  exact h1 k hk
 unfold c6
 rcases qH (fK v) h.tree.xZ p with ⟨_,e2,e3⟩|⟨e,h1,h2,h3⟩
 ·refine ⟨fun g=>absurd g e2,fun ⟨g1,g2,g3⟩=>?_⟩
  rcases e3 with e3|⟨q,hq,e3⟩|⟨e,he,hp,e3⟩
  ·rw [g1] at e3;cases e3
  ·obtain ⟨e,he,hp⟩:=g2 q hq;exact absurd hp (e3 e he)
  exact absurd ((hz e he).2 (g3 e he hp)) e3
 rw [e]
 exact ⟨fun _=>⟨h1,h2,fun e he hp=>(hz e he).1 (h3 e he hp)⟩,fun _=>rfl⟩
structure Q5 (s t:aT):Prop where
 nodes:t.aX.nodes=s.aX.nodes
 places:∀n,∀k<4,gz k (here n t.aX.places)≤gz k (here n s.aX.places)
 tree:cr s.tree t.tree
 less:∀p,∀k<4,gQ k p t.ap≤gQ k p s.ap
theorem H7 {s t:aT} (h:s.ok) (h':t.ok) (g:Q5 s t) {p:aK} {v:bM} (e:(c6 s.tree p v).2=0):(c6 t.tree p v).2=0:=by
 rw [Bw h] at e
 rw [Bw h']
 obtain ⟨e1,e2,e3⟩:=e
 refine ⟨e1,fun q hq=>?_,fun x hx hp k hk=>?_⟩
 ·obtain ⟨e,he,hp⟩:=e2 q hq
  obtain ⟨x,hx,h1⟩:=g.tree.mem he
  exact ⟨x,hx,by rw [h1,hp]⟩
 obtain ⟨e,he,h1,h2⟩:=g.tree.back hx
 have a:=e3 e he (by rw [←h1];exact hp) k hk
 have b:=g.less x.path k hk
 rw [h2];rw [←h1] at a;omega
def Room (s:aT) (j:Jb):Prop:=(fit (eT s.aX) j.x.cE j.x.gx j.x.count).2=true∧(c6 s.tree j.x.path j.tot).2=0
theorem Room.mono {s t:aT} (h:s.ok) (h':t.ok) (g:Q5 s t) {j:Jb} (hc:eS j.x=0) (hv:j.x.gx.w) (r:Room s j):Room t j:=by
 have BP:=(c7.1 hc).2.1
 exact ⟨Q4 h.aX h.gR h'.aX h'.gR g.nodes g.places hv (by omega) r.1,H7 h h' g r.2⟩
theorem DB {s:aT} (h:s.ok) {i:Nat} {j:Jb} (hj:s.ap[i]?=some j) (hr:j.runs=false):(gj s j.id).2=true↔Room s j:=by
 obtain ⟨_,_,h1⟩:=dg h.ids hj
 have h2:=(c7.1 (h.py j (List.mem_of_getElem? hj)).1).2.2.2.2.2
 unfold gj ic eU
 rw [h1]
 simp only [hr,h2,Bool.not_false,Bool.and_true,Bool.not_true,Bool.false_or,Room]
 cases h3:(fit (eT s.aX) j.x.cE j.x.gx j.x.count).2<;>by_cases h4:(c6 s.tree j.x.path (cZ j.x).1).2=0<;>simp [h4]
theorem Q6 {s:aT} {id:Int} (h:(eU s id).2=false):gj s id=([],false):=by
 unfold gj ic;rw [h];rfl
def cg (l:List Int) (j:Jb):Jb:=if j.runs=true∧j.id∈l then j.halted else j
theorem bO (l:List Int) (j:Jb):(cg l j).id=j.id∧(cg l j).x=j.x:=by unfold cg;split<;>exact ⟨rfl,rfl⟩
theorem dL (l:List Int) (j:Jb):(cg l j).runs=true↔j.runs=true∧j.id ∉ l:=by
 unfold cg
 split
 ·rename_i h;simp [h.2]
 rename_i h;exact ⟨fun g=>⟨g,fun m=>h ⟨g,m⟩⟩,fun g=>g.1⟩
theorem Kz (l m:List Int) (j:Jb):cg m (cg l j)=cg (l++m) j:=by
 unfold cg
 by_cases h1:j.runs=true∧j.id∈l
 ·rw [if_pos h1,if_neg (by simp),if_pos ⟨h1.1,by simp [h1.2]⟩]
 rw [if_neg h1]
 by_cases h2:j.runs=true∧j.id∈m
 ·rw [if_pos h2,if_pos ⟨h2.1,by simp [h2.2]⟩]
 rw [if_neg h2,if_neg (by rintro ⟨a,b⟩;rcases List.mem_append.1 b with b|b;exact h1 ⟨a,b⟩;exact h2 ⟨a,b⟩)]
structure jO (s:aT) (l:List Int) (t:aT):Prop where
 ok:t.ok
 ap:t.ap=s.ap.map (cg l)
 nodes:t.aX.nodes=s.aX.nodes
 places:t.aX.places=s.aX.places.filter fun x=>!decide (x.bI∈l)
 tree:cr s.tree t.tree
theorem jO.nil {s:aT} (h:s.ok):jO s [] s where
 ok:=h
 ap:=by rw [show cg []=id from funext fun j=>by simp [cg],List.map_id]
 nodes:=rfl
 places:=(List.filter_eq_self.2 fun x _=>by simp).symm
 tree:=cr.refl _
theorem jO.app {s t u:aT} {l m:List Int} (h:jO s l t) (g:jO t m u):jO s (l++m) u where
 ok:=g.ok
 ap:=by rw [g.ap,h.ap,List.map_map];exact List.map_congr_left fun j _=>Kz l m j
 nodes:=by rw [g.nodes,h.nodes]
 places:=by
  rw [g.places,h.places,List.filter_filter]
  refine List.filter_congr fun x _=>?_
  by_cases h1:x.bI∈l<;>by_cases h2:x.bI∈m<;>simp [h1,h2]
 tree:=h.tree.trans g.tree
theorem DC {s:aT} (h:s.ok) {id:Int} (hn:∀j∈s.ap,j.id=id→j.runs=false):jO s [id] s where
 ok:=h
 ap:=by
  conv=>lhs;rw [←List.map_id s.ap]
  refine List.map_congr_left fun j hj=>?_
  unfold cg
  rw [if_neg]
  ·rfl
  rintro ⟨a,b⟩
  rw [hn j hj (by simpa using b)] at a;cases a
 nodes:=rfl
 places:=by
  refine (List.filter_eq_self.2 fun x hx=>?_).symm
  obtain ⟨j,hj,hr,he,_⟩:=h.places x hx
  simp only [List.mem_singleton,Bool.not_eq_true',decide_eq_false_iff_not]
  intro e
  rw [hn j hj (by rw [he,e])] at hr;cases hr
 tree:=cr.refl _
theorem NR {s:aT} (h:s.ok) (id kind:Int):jO s [id] (gC s id kind).1:=by
 cases hf:s.ap.findIdx? (fun j=>decide (j.id=id)) with
 |none=>
  have e:(gC s id kind).1=s:=by unfold gC;rw [hf]
  rw [e]
  rw [List.findIdx?_eq_none_iff] at hf
  exact DC h fun j hj he=>by have:=hf j hj;simp [he] at this
 |some i=>
  obtain ⟨j,hj,he,hd⟩:=nH hf
  subst he
  cases hr:j.runs with
  |false=>
   have e:(gC s j.id kind).1=s:=by unfold gC;rw [hf];simp only;rw [hd,hr];rfl
   rw [e]
   exact DC h fun x hx Rv=>by rw [bN h.ids hx (List.mem_of_getElem? hj) Rv,hr]
  |true=>
   obtain ⟨T,Q,h1,h2⟩:=Ba h hj hr kind
   have hok:=h.stop j.id kind
   rw [h2] at hok ⊢
   refine ⟨hok,?_,rfl,?_,h1⟩
   ·show s.ap.set i j.halted=_
    refine List.ext_getElem? fun k=>?_
    rw [List.getElem?_map,List.getElem?_set]
    by_cases e:i=k
    ·subst e
     rw [if_pos rfl,hj,if_pos (List.getElem?_eq_some_iff.1 hj).1]
     simp [cg,hr]
    rw [if_neg e]
    cases hk:s.ap[k]? with
    |none=>rfl
    |some x=>
     have:x.id≠j.id:=fun c=>e (vt h.ids hj hk c.symm)
     simp [cg,this]
   show (qE s.aX j.id).places=_
   simp [qE]
theorem de {s:aT} (h:s.ok):∀l:List Int,jO s l (aI s l):=by
 intro l
 induction l generalizing s with
 |nil=>exact jO.nil h
 |cons id l ih=>
  have h1:=NR h id 5
  exact h1.app (ih h1.ok)
theorem cr.VZ {s t u:List bg} (h:cr s t) (g:cr s u):cr t u where
 len:=by rw [g.len,h.len]
 at_:=by
  intro i e hi
  have hl:=(List.getElem?_eq_some_iff.1 hi).1
  rw [h.len] at hl
  obtain ⟨x,h1,h2,h3⟩:=h.at_ i s[i] (List.getElem?_eq_getElem hl)
  obtain ⟨y,g1,g2,g3⟩:=g.at_ i s[i] (List.getElem?_eq_getElem hl)
  rw [hi] at h1;cases h1
  exact ⟨y,g1,by rw [g2,h2],by rw [g3,h3]⟩
theorem o6 {α:Type} {p q:α→Bool} (h:∀x,p x=true→q x=true):∀l:List α,(l.filter p).Sublist (l.filter q)
 |[]=>List.Sublist.slnil
 |x::r=>by
  rw [List.filter_cons,List.filter_cons]
  cases hp:p x
  ·cases hq:q x
   ·simpa using o6 h r
   simpa using (o6 h r).cons x
  rw [h x hp]
  simpa using (o6 h r).cons_cons x
theorem jO.Yt {s t u:aT} {l m:List Int} (h:jO s l t) (g:jO s m u) (hl:∀x∈l,x∈m):Q5 t u where
 nodes:=by rw [h.nodes,g.nodes]
 places:=by
  intro n k hk
  rw [h.places,g.places]
  refine AE ?_
  unfold here
  refine List.Sublist.filter _ (o6 (fun x hx=>?_) _)
  simp only [Bool.not_eq_true',decide_eq_false_iff_not] at*
  exact fun c=>hx (hl _ c)
 tree:=h.tree.VZ g.tree
 less:=by
  intro p k hk
  rw [h.ap,g.ap]
  have:∀r:List Jb,gQ k p (r.map (cg m))≤gQ k p (r.map (cg l)):=by
   intro r
   induction r with
   |nil=>exact Nat.le_refl _
   |cons j r ih=>
    rw [List.map_cons,List.map_cons,gy,gy]
    refine Nat.add_le_add ?_ ih
    unfold fP
    by_cases c:(cg m j).runs=true∧p∈above (cg m j).x.path
    ·obtain ⟨c1,c2⟩:=c
     rw [dL] at c1
     have d1:(cg l j).runs=true:=(dL l j).2 ⟨c1.1,fun c=>c1.2 (hl _ c)⟩
     have e1:(cg l j).x=(cg m j).x:=by rw [(bO l j).2,(bO m j).2]
     rw [if_pos ⟨(dL m j).2 c1,c2⟩,if_pos ⟨d1,by rw [e1];exact c2⟩]
     unfold Jb.tot;rw [e1];exact Nat.le_refl _
    rw [if_neg c];exact Nat.zero_le _
  exact this s.ap
theorem jO.fits {s t:aT} {l:List Int} (g:jO s l t) {i:Nat} {j:Jb} (hj:s.ap[i]?=some j) (hr:j.runs=false):(gj t j.id).2=true↔Room t j:=by
 refine DB g.ok (i:=i) ?_ hr
 rw [g.ap,List.getElem?_map,hj]
 simp [cg,hr]
theorem H8 {s:aT} (h:s.ok) {i:Nat} {j:Jb} (hj:s.ap[i]?=some j) (hr:j.runs=false) {l m:List Int} (hl:∀x∈l,x∈m) (e:(fQ s j.id l).2=true):(fQ s j.id m).2=true:=by
 have h1:=de h l
 have h2:=de h m
 have hc:=h.py j (List.mem_of_getElem? hj)
 unfold fQ at*
 rw [h1.fits hj hr] at e
 rw [h2.fits hj hr]
 exact Room.mono h1.ok h2.ok (h1.Yt h2 hl) hc.1 hc.2.1 e
end Dem
end
section
open Go
namespace Dem
section
variable {s:aT} {id:Int}
theorem yB (all:List Int):∀n k:Nat,(match ld s id all n k with|none=>∀m,k≤m→m<k+n→(fQ s id (all.take m)).2=false|some (l,nodes)=>∃m,k≤m∧m<k+n∧l=all.take m∧fQ s id l=(nodes,true)∧∀m',k≤m'→m'<m→(fQ s id (all.take m')).2=false)
 |0,k=>by simp only [ld];intro m h1 h2;omega
 |n+1,k=>by
  simp only [ld]
  by_cases c:(fQ s id (all.take k)).2=true
  ·rw [if_pos c]
   exact ⟨k,Nat.le_refl _,by omega,rfl,by rw [←c],fun m' h1 h2=>by omega⟩
  rw [if_neg c]
  have ih:=yB all n (k+1)
  cases h:ld s id all n (k+1) with
  |none=>
   rw [h] at ih
   intro m h1 h2
   by_cases e:m=k
   ·subst e;simpa using c
   exact ih m (by omega) (by omega)
  |some x=>
   obtain ⟨l,nodes⟩:=x
   rw [h] at ih
   obtain ⟨m,h1,h2,h3,h4,h5⟩:=ih
   refine ⟨m,by omega,by omega,h3,h4,fun m' g1 g2=>?_⟩
   by_cases e:m'=k
   ·subst e;simpa using c
   exact h5 m' (by omega) g2
theorem NS {l:List Int} {i k:Nat} (h:i<k):∀x∈(l.eraseIdx k).eraseIdx i,x∈l.eraseIdx i:=by
 intro x hx
 rw [List.mem_eraseIdx_iff_getElem?] at hx ⊢
 obtain ⟨a,ha,e⟩:=hx
 rw [List.getElem?_eraseIdx] at e
 split at e
 ·exact ⟨a,ha,e⟩
 exact ⟨a+1,by omega,e⟩
theorem qX (hm:∀l m:List Int,(∀x∈l,x∈m)→(fQ s id l).2=true→(fQ s id m).2=true):∀(n k:Nat) (l:List Int) (nodes:List aK),l.length≤k+n→fQ s id l=(nodes,true)→
 (∀i,i<k→i<l.length→(fQ s id (l.eraseIdx i)).2=false)→
 fQ s id (gq s id n k l nodes).1=((gq s id n k l nodes).2,true)∧(gq s id n k l nodes).1.Sublist l∧∀i<(gq s id n k l nodes).1.length,(fQ s id ((gq s id n k l nodes).1.eraseIdx i)).2=false
 |0,k,l,nodes,hl,he,hn=>by
  simp only [gq]
  exact ⟨he,List.Sublist.refl _,fun i hi=>hn i (by omega) hi⟩
 |n+1,k,l,nodes,hl,he,hn=>by
  simp only [gq]
  by_cases c:k<l.length
  ·rw [if_pos c]
   by_cases d:(fQ s id (l.eraseIdx k)).2=true
   ·rw [if_pos d]
    have e:fQ s id (l.eraseIdx k)=((fQ s id (l.eraseIdx k)).1,true):=by rw [←d]
    have g:=qX hm n k (l.eraseIdx k) _ (by rw [List.length_eraseIdx,if_pos c];omega) e (fun i hi hi2=>by
     cases q:(fQ s id ((l.eraseIdx k).eraseIdx i)).2 with
     |false=>rfl
     |true=>
      have:=hm _ _ (NS hi) q
      rw [hn i hi (by omega)] at this;cases this)
    exact ⟨g.1,g.2.1.trans (List.eraseIdx_sublist _ _),g.2.2⟩
   rw [if_neg d]
   refine qX hm n (k+1) l nodes (by omega) he fun i hi hi2=>?_
   by_cases e:i=k
   ·subst e;simpa using d
   exact hn i (by omega) hi2
  rw [if_neg c]
  exact ⟨he,List.Sublist.refl _,fun i hi=>hn i (by have:i<l.length:=hi;omega) hi⟩
theorem sN (hm:∀l m:List Int,(∀x∈l,x∈m)→(fQ s id l).2=true→(fQ s id m).2=true):
 ((aB s id).2.2=false∧(aB s id).1=[]∧(aB s id).2.1=[]∧(fQ s id (bZ s id)).2=false)∨
 ((
  aB s id).2.2=true∧fQ s id (aB s id).1=((aB s id).2.1,true)∧(∀x∈(aB s id).1,x∈bZ s id)∧(aB s id).1.Sublist (bZ s id)∧(fQ s id (bZ s id)).2=true∧
  ((fQ s id []).2=true→(aB s id).1=[])∧∀i<(aB s id).1.length,(fQ s id ((aB s id).1.eraseIdx i)).2=false):=by
 have h:=yB (s:=s) (id:=id) (bZ s id) ((bZ s id).length+1) 0
 unfold aB
 cases e:ld s id (bZ s id) ((bZ s id).length+1) 0 with
 |none=>
  rw [e] at h
  refine .inl ⟨rfl,rfl,rfl,?_⟩
  have:=h (bZ s id).length (Nat.zero_le _) (by omega)
  rwa [List.take_length] at this
 |some x=>
  obtain ⟨l,nodes⟩:=x
  rw [e] at h
  obtain ⟨m,_,h2,rfl,h4,h5⟩:=h
  obtain ⟨g1,g2,g3⟩:=qX hm (((bZ s id).take m).length+1) 0 ((bZ s id).take m) nodes (by omega) h4 (fun i hi=>by omega)
  refine .inr ⟨rfl,g1,fun x hx=>List.mem_of_mem_take (g2.subset hx),g2.trans (List.take_sublist _ _),hm _ _ (fun x hx=>List.mem_of_mem_take hx) (by rw [h4]),fun hz=>?_,g3⟩
  have:m=0:=by
   cases m with
   |zero=>rfl
   |succ m=>have:=h5 0 (Nat.le_refl _) (by omega);rw [List.take_zero] at this;rw [hz] at this;cases this
  subst this
  exact List.eq_nil_of_length_eq_zero (by have:=g2.length_le;simp only [List.take_zero,List.length_nil] at this ⊢;omega)
end
theorem E3 {s:aT} (h:s.ok) {id:Int} (hn:∀j∈s.ap,j.id≠id) (l:List Int):fQ s id l=([],false):=by
 have g:=de h l
 refine Q6 ?_
 have:(bB (aI s l).ap id).2=false:=by
  rw [g.ap]
  unfold bB
  cases e:(s.ap.map (cg l)).find? (fun j=>decide (j.id=id)) with
  |none=>rfl
  |some x=>
   have h1:=List.mem_of_find?_eq_some e
   have h2:=List.find?_some e
   obtain ⟨j,hj,rfl⟩:=List.mem_map.1 h1
   rw [decide_eq_true_eq,(bO l j).1] at h2
   exact absurd h2 (hn j hj)
 unfold eU;rw [this];rfl
theorem H9 {s:aT} (h:s.ok) {id:Int} (hw:(∃j∈s.ap,j.id=id∧j.runs=false)∨∀j∈s.ap,j.id≠id):
 ∀l m:List Int,(∀x∈l,x∈m)→(fQ s id l).2=true→(fQ s id m).2=true:=by
 intro l m hl e
 rcases hw with ⟨j,hj,rfl,hr⟩|hn
 ·obtain ⟨i,hi⟩:=List.getElem?_of_mem hj
  exact H8 h hi hr hl e
 rw [E3 h hn] at e;cases e
end Dem
end
section
open Go
namespace Dem
theorem wZ (k:Nat) (p:aK):∀l:List Jb,(∀j∈l,j.runs=false)→gQ k p l=0
 |[],_=>rfl
 |j::r,h=>by
  rw [gy,wZ k p r fun x hx=>h x (by simp [hx])]
  unfold fP;rw [if_neg (by rw [h j (by simp)];simp)]
theorem jO.bare {s t:aT} {l:List Int} (h:s.ok) (g:jO s l t) (hl:∀j∈s.ap,j.runs=true→j.id∈l):t.aX=⟨s.aX.nodes,[]⟩∧t.tree=og s.tree:=by
 have hr:∀j∈t.ap,j.runs=false:=by
  rw [g.ap]
  intro x hx
  obtain ⟨j,hj,rfl⟩:=List.mem_map.1 hx
  cases e:(cg l j).runs with
  |false=>rfl
  |true=>rw [dL] at e;exact absurd (hl j hj e.1) e.2
 constructor
 ·have h1:=g.nodes
  have h2:t.aX.places=[]:=by
   rw [g.places,List.filter_eq_nil_iff]
   intro x hx
   obtain ⟨j,hj,hr,he,_⟩:=h.places x hx
   simp only [Bool.not_eq_true',decide_eq_false_iff_not,Classical.not_not]
   rw [←he];exact hl j hj hr
  cases hp:t.aX with
  |mk a b=>rw [hp] at h1 h2;simp only at h1 h2;rw [h1,h2]
 refine List.ext_getElem? fun i=>?_
 unfold og
 rw [List.getElem?_map]
 cases hi:s.tree[i]? with
 |none=>rw [List.getElem?_eq_none_iff] at hi;rw [List.getElem?_eq_none_iff.2 (by rw [g.tree.len];exact hi)];rfl
 |some e=>
  obtain ⟨x,h1,h2,h3⟩:=g.tree.at_ i e hi
  rw [h1,Option.map_some]
  have hx:=List.mem_of_getElem? h1
  have hu:x.used=bM.zero:=PK (g.ok.tree.w x hx).2 wG fun k hk=>by rw [g.ok.used x hx k hk,wZ k _ _ hr,nh]
  cases x;cases e;simp_all
theorem DD {s t:aT} {l:List Int} (h:s.ok) (g:jO s l t) (hl:∀j∈s.ap,j.runs=true→j.id∈l) {i:Nat} {j:Jb} (hj:s.ap[i]?=some j) (hr:j.runs=false):cL s j.id=true↔Room t j:=by
 obtain ⟨_,_,h1⟩:=dg h.ids hj
 have h2:=(c7.1 (h.py j (List.mem_of_getElem? hj)).1).2.2.2.2.2
 obtain ⟨b1,b2⟩:=g.bare h hl
 unfold cL ic eU qN
 rw [h1]
 unfold Room
 rw [b1,b2]
 simp only [hr,h2,Bool.not_false,Bool.and_true,Bool.not_true,Bool.false_or]
 cases h3:(fit (eT ⟨s.aX.nodes,[]⟩) j.x.cE j.x.gx j.x.count).2<;>by_cases h4:(c6 (og s.tree) j.x.path (cZ j.x).1).2=0<;>simp [h4]
theorem Q7 {s:aT} (h:s.ok) {i:Nat} {j:Jb} (hj:s.ap[i]?=some j) (hr:j.runs=false) {l:List Int} (e:(fQ s j.id l).2=true):cL s j.id=true:=by
 have g:=de h (s.ap.map (·.id))
 rw [DD h g (fun x hx _=>List.mem_map_of_mem hx) hj hr]
 have g1:=de h l
 have hc:=h.py j (List.mem_of_getElem? hj)
 have g2:=de h (l++s.ap.map (·.id))
 have r:=H8 h hj hr (m:=l++s.ap.map (·.id)) (fun x hx=>by simp [hx]) e
 unfold fQ at r
 rw [g2.fits hj hr] at r
 refine Room.mono g2.ok g.ok ?_ hc.1 hc.2.1 r
 have b:=g.bare h (fun x hx _=>List.mem_map_of_mem hx)
 have b2:=g2.bare h (fun x hx _=>by simp [List.mem_map_of_mem (f:=fun j:Jb=>j.id) hx])
 refine ⟨by rw [b.1,b2.1],fun n k hk=>by rw [b.1,b2.1];exact Nat.le_refl _,by rw [b.2,b2.2];exact cr.refl _,fun p k hk=>?_⟩
 have:∀{L:List Int} {t:aT},jO s L t→(∀x∈s.ap,x.runs=true→x.id∈L)→gQ k p t.ap=0:=by
  intro L t g hl
  refine wZ k p _ ?_
  rw [g.ap]
  intro x hx
  obtain ⟨j,hj,rfl⟩:=List.mem_map.1 hx
  cases e:(cg L j).runs with
  |false=>rfl
  |true=>rw [dL] at e;exact absurd (hl j hj e.1) e.2
 rw [this g (fun x hx _=>List.mem_map_of_mem hx)];exact Nat.zero_le _
theorem Bx {s:aT} (h:s.ok) {id:Int} (hw:(∃j∈s.ap,j.id=id∧j.runs=false)∨∀j∈s.ap,j.id≠id):
 (aB s id).2.2=((fQ s id (bZ s id)).2||(gj s id).2)∧((gj s id).2=true→(aB s id).1=[])∧((aB s id).2.2=true→cL s id=true):=by
 have hm:=H9 h hw
 have h0:(gj s id).2=true→(fQ s id (bZ s id)).2=true:=fun e=>hm [] _ (fun x hx=>by cases hx) e
 rcases sN hm with ⟨h1,h2,_,h4⟩|⟨h1,h2,_,_,h5,h6,_⟩
 ·refine ⟨?_,fun _=>h2,fun e=>by rw [h1] at e;cases e⟩
  rw [h1,h4]
  cases e:(gj s id).2 with
  |false=>rfl
  |true=>rw [h0 e] at h4;cases h4
 refine ⟨by rw [h1,h5];rfl,h6,fun _=>?_⟩
 rcases hw with ⟨j,hj,rfl,hr⟩|hn
 ·obtain ⟨i,hi⟩:=List.getElem?_of_mem hj
  exact Q7 h hi hr (by rw [h2])
 rw [E3 h hn] at h5;cases h5
end Dem
end
