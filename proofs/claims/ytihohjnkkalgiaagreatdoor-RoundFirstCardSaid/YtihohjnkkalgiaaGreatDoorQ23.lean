/- Parts of a proof, joined. -/
import Derived.Test.YtihohjnkkalgiaaGreatDoorQ22
set_option linter.all false
set_option maxRecDepth 100000
set_option maxHeartbeats 4000000
section
open Go Dem Go.Proofs
namespace Dem
variable {t:Th}
theorem LJ (ht:TT t) (name:aQ) (up:Bool) {l:List Node} {ps:List Place} {es qs:List (List D)} (aG:es=l.map Node.cells) (eD:qs=ps.map Place.cells) (hl:l.length<1000000000):
 FC 150 [.agg [SL es,SL qs],ST name,BL up] [] (.ret (m9 t (t _ fun _=>fj ⟨l,ps⟩ name up))) []:=by
 refine bP ht (aV:=[]) Tryz.func150 rfl rfl (N:=35) rfl rfl (n:=0) rfl rfl ?_
 cbv
 have az:es.length=l.length:=by rw [aG,lgM]
 have aF:qs.length=ps.length:=by rw [eD,lgM]
 refine bq trv (G1 ht _ ‹_› (by omega)) trv rfl rfl (fun r0 c7=>?_)
 simp only [ht] at c7
 have ec:=cF c7
 clear c7
 rcases ec with ⟨e1,e2,e3⟩|⟨i,x,hi,hil,e1,e2,e3,e4⟩
 ·cbv
  refine ap (fun h1=>?_) (fun h1=>?_)
  ·simp [ht,ah,az,aF] at h1
   cbv
   refine aA trv trv rfl rfl rfl ?_
   (simp [ht,m9,qg,fj, *];done)
  simp [ht,ah,az,aF] at h1
  omega
 cbv
 refine ap (fun h2=>?_) (fun h2=>?_)
 ·simp [ht,ah,az,aF] at h2
  cbv
  refine aA trv trv rfl rfl rfl ?_
  (simp only [ht,ah,m9,qg,fj];grind)
 simp [ht,ah,az,aF] at h2
 cbv
 refine v8 ht aG (cT:=Node.bF t) e1 ‹_› (fun _=>rfl) (fun _=>(by (simp only [ht,Node.bF];done))) ?_
 cbv
 refine ap (fun h4=>?_) (fun h4=>?_)
 ·simp [ht,ah,az,aF] at h4
  cbv
  refine aA trv trv rfl rfl rfl ?_
  (obtain ⟨_,rfl⟩:=List.getElem?_eq_some_iff.1 e1;simp [ht,m9,qg,fj,bt,List.map_set, *];done)
 simp [ht,ah,az,aF] at h4
 cbv
 refine jB trv (oR ht ‹_› ‹_›) trv rfl (.inr rfl) ?_
 cbv
 refine ⟨?_,?_⟩
 ·(simp [ht,hi,e1,hil];done)
 refine ⟨?_,?_⟩
 ·(simp [ht,hi,e1,hil];done)
 cbv
 refine aA trv (by simp [ht]) rfl rfl rfl ?_
 (obtain ⟨_,rfl⟩:=List.getElem?_eq_some_iff.1 e1;simp [ht,m9,qg,fj,bt,List.map_set, *];done)
theorem LK (ht:TT t) (name:aQ) {l:List Node} {ps:List Place} {es qs:List (List D)} (aG:es=l.map Node.cells) (eD:qs=ps.map Place.cells) (hl:l.length<1000000000):
 FC 98 [.agg [SL es,SL qs],ST name] [] (.ret (m9 t (t _ fun _=>fj ⟨l,ps⟩ name true))) []:=by
 refine bP ht (aV:=[]) Tryz.func98 rfl rfl (N:=11) rfl rfl (n:=0) rfl rfl ?_
 cbv
 have az:es.length=l.length:=by rw [aG,lgM]
 have aF:qs.length=ps.length:=by rw [eD,lgM]
 refine aK trv (LJ ht _ _ ‹_› ‹_› ‹_›) trv rfl rfl rfl (fun r0 c7=>?_)
 simp only [ht] at c7
 cbv
 refine aA trv trv rfl rfl rfl ?_
 (simp [ht,m9,qg, *];done)
def QH (t:Th) (r:cC×List Int×Int):AV:=.dX [qg t r.1,SL (t _ fun _=>r.2.1.map cX),bJ r.2.2]
theorem Tg {u:List (List D)} {l:List iv} (hu:u=l.map iv.cells) {j:Int} {c:Prop} {o:Option (List D)} {K:Option (List D)→Prop} (hc:c) (ho:o=vF u (.int .u64 j)) (h0:K none) (h1:∀x,K (some [.int .i64 x])):Ie true c o K:=by
 subst hu
 rcases GG l j with h|⟨x,h⟩
 ·exact ⟨none,fun _=>⟨hc,ho.trans h⟩,h0⟩
 exact ⟨_,fun _=>⟨hc,ho.trans h⟩,h1 x⟩
theorem Bc {u:List (List D)} {l:List iv} (hu:u=l.map iv.cells):∀r∈u,rowIs (.int .u64) 1 r:=by
 subst hu;intro r hr;obtain ⟨m,_,rfl⟩:=List.mem_map.1 hr;exact ⟨_,_,rfl,rfl,rfl⟩
theorem gY {name:aQ} {ps:List Place} {k:Nat} {x:Place} (h:ps[k]?=some x):fK name (ps.take (k+1))=gC name (fK name (ps.take k)) x:=by
 unfold fK;rw [dP h,List.foldl_append];rfl
theorem LL (ht:TT t) (name:aQ) {l:List Node} {ps:List Place} {es qs:List (List D)} (aG:es=l.map Node.cells) (eD:qs=ps.map Place.cells) (hl:l.length<1000000000) (IG:ps.length<1000000000)
 (hj:∀x∈ps,0≤x.bK∧x.bK<18446744073709551616) (h12:(fK name ps).length≤12):
 FC 97 [.agg [SL es,SL qs],ST name] [] (.ret (QH t (t _ fun _=>so ⟨l,ps⟩ name))) []:=by
 refine bP ht (aV:=[]) Tryz.func97 rfl rfl (N:=44) rfl rfl (n:=0) rfl rfl ?_
 cbv
 have az:es.length=l.length:=by rw [aG,lgM]
 have aF:qs.length=ps.length:=by rw [eD,lgM]
 refine aK trv (LJ ht _ _ ‹_› ‹_› ‹_›) trv rfl rfl rfl (fun r0 c7=>?_)
 simp only [ht] at c7
 cbv
 refine ap (fun h1=>?_) (fun h1=>?_)
 ·simp [ht,ah,az,aF] at h1
  cbv
  refine aA trv trv rfl rfl rfl ?_
  (simp only [ht,ah,QH,m9,qg,so];grind)
 simp [ht,ah,az,aF] at h1
 cbv
 obtain ⟨J2,yD⟩:∃J2:Nat→Int×List (List D)→Prop,∀n i u,J2 n (i,u)↔(∃(k:Nat) (w:List iv),i=k∧k+n=ps.length∧u=w.map iv.cells∧w.map iv.bK=fK name (ps.take k)):=⟨fun n v=>match v with|(i,u)=>(∃(k:Nat) (w:List iv),i=k∧k+n=ps.length∧u=w.map iv.cells∧w.map iv.bK=fK name (ps.take k)),fun _ _ _=>Iff.rfl⟩
 refine bM ⟨[1,4,7,9,24,25,26],[],[]⟩ (σ:=Int×List (List D)) (fun v=>[(26,.d (.int .i64 (t _ fun _=>v.1)))]) (fun v=>[(2,.mp false (t _ fun _=>v.2))]) J2 ?_
 cbv
 refine aJ ⟨ps.length,(_,_),(yD _ _ _).2 ?_,by simp only [ht];rfl,?_⟩
 ·exact ⟨0,[],rfl,by simp,by simp [ht],rfl⟩
 rintro n ⟨i,u⟩ hj
 replace hj:=(yD _ _ _).1 hj
 obtain ⟨k,w,rfl,q1,q6,q4⟩:=hj
 have xW:u.length=w.length:=by rw [q6,lgM]
 have hnd:(w.map iv.bK).Nodup:=by rw [q4];exact nk _ _ _ List.nodup_nil
 have hwj:∀m∈w,0≤m.bK∧m.bK<18446744073709551616:=(by intro m hm;have h9:m.bK∈fK name (ps.take k):=(by rw [←q4];exact List.mem_map.2 ⟨m,hm,rfl⟩);rw [fK,qp] at h9;obtain ⟨x,hx,_,e⟩:=h9.resolve_left (by simp);rw [←e];exact hj x (List.mem_of_mem_take hx))
 have hlen:w.length≤12:=by have:=congrArg List.length q4;rw [lgM] at this;have:=GH name ps k;omega
 have hmk:ps.length≤k→nQ (w.map iv.bK)=Ea name ps:=(by intro h9;rw [q4,List.take_of_length_le h9];rfl)
 cbv
 refine ap (fun h3=>?_) (fun h3=>?_)
 ·simp [ht,ah,az,aF,xW] at h3
  cbv
  refine kO ht eD (cT:=Place.bF t) (by (simp only [ht,ah];omega)) (by (simp only [ht,ah];omega)) (fun _=>rfl) (fun _=>rfl) (fun x4 Rk=>?_)
  simp [ht,ah] at Rk
  cbv
  refine ap (fun h5=>?_) (fun h5=>?_)
  ·simp [ht,ah,az,aF,xW] at h5
   cbv
   (refine Tg q6 (by simp only [ht];exact ⟨rfl,rfl,Bc q6⟩) (by simp only [ht]<;>rfl) ?_ (fun c9=>?_))
   ·cbv
    refine ⟨?_,?_⟩
    ·(simp only [ht];exact ⟨⟨rfl,rfl,Bc q6⟩,trv⟩)
    cbv
    refine cD (_,_) (by simp only [ht];rfl) (n-1) ?_ ((yD _ _ _).2 ?_)
    ·omega
    simp only [ht,ah]
    first|exact ⟨k+1,w,aH (by ((try simp only [ah] at*);omega)),by ((try simp only [ah] at*);omega),q6,by rw [gY Rk,gC,if_neg ‹_›];exact q4⟩|exact ⟨k+1,gx w (x4).bK _,aH (by ((try simp only [ah] at*);omega)),by ((try simp only [ah] at*);omega),by rw [q6,uQ],by rw [gY Rk,gC,if_pos ‹_›,kJ,q4]⟩
   cbv
   refine ⟨?_,?_⟩
   ·(simp only [ht];exact ⟨⟨rfl,rfl,Bc q6⟩,trv⟩)
   cbv
   refine cD (_,_) (by simp only [ht];rfl) (n-1) ?_ ((yD _ _ _).2 ?_)
   ·omega
   simp only [ht,ah]
   first|exact ⟨k+1,w,aH (by ((try simp only [ah] at*);omega)),by ((try simp only [ah] at*);omega),q6,by rw [gY Rk,gC,if_neg ‹_›];exact q4⟩|exact ⟨k+1,gx w (x4).bK _,aH (by ((try simp only [ah] at*);omega)),by ((try simp only [ah] at*);omega),by rw [q6,uQ],by rw [gY Rk,gC,if_pos ‹_›,kJ,q4]⟩
  simp [ht,ah,az,aF,xW] at h5
  cbv
  refine cD (_,_) (by simp only [ht];rfl) (n-1) ?_ ((yD _ _ _).2 ?_)
  ·omega
  simp only [ht,ah]
  first|exact ⟨k+1,w,aH (by ((try simp only [ah] at*);omega)),by ((try simp only [ah] at*);omega),q6,by rw [gY Rk,gC,if_neg ‹_›];exact q4⟩|exact ⟨k+1,gx w (x4).bK _,aH (by ((try simp only [ah] at*);omega)),by ((try simp only [ah] at*);omega),by rw [q6,uQ],by rw [gY Rk,gC,if_pos ‹_›,kJ,q4]⟩
 simp [ht,ah,az,aF,xW] at h3
 cbv
 (refine ⟨.inr ⟨2,false,_,rfl,?_⟩⟩)
 cbv
 refine dK [false,false,false,false,true,true,true] (by kernel_rfl) (by kernel_rfl) ?_
 cbv
 iterate 2 refine gI (by simp [ht,aj]) ?_
 refine .inl ?_
 refine m8 (fun g9=>⟨trv,trv,Tf ht _⟩) rfl rfl rfl ?_
 cbv
 refine .inr (Gq trv (BY ht (by (simp only [ht];((try simp only [ah] at*);omega))) ‹_› ‹_› ‹_›) trv rfl (.inr rfl) rfl ?_)
 cbv
 refine aA trv (by simp [ht]) rfl rfl rfl ?_
 (simp only [ht,QH,qg,so];rw [←c7,if_pos h1];simp only [hmk (by ((try simp only [ah] at*);omega))];done)
theorem HG {s:bg} {l:List Int} {k:Nat} {x:Int} (h:l[k]?=some x):gA s (l.take (k+1))=(gB (gA s (l.take k)) x 6).1:=by
 unfold gA;rw [dP h,List.foldl_append];rfl
theorem Nv {s:bg} (h:s.good):∀x∈s.bf.places,0≤x.bK∧x.bK<18446744073709551616:=fun x hx=>by
 obtain ⟨j,hj,_,e,_⟩:=h.ok.places x hx
 have h1:=h.ok.u9 j hj
 have h2:=h.ok.next
 rw [←e];omega
theorem QI {s:bg} (h:s.good) (name:aQ):(fK name s.bf.places).length≤12:=by
 have:=LG h name
 rwa [Ea,D9] at this
theorem Da {s:bg} (h:s.good) (name:aQ):(so s.bf name).2.1.length≤12:=by
 unfold so;split
 ·exact LG h name
 simp
theorem QJ (ht:TT t) (x:jS) (hx:x.u) {k a b c d:Int} (hk:k=x.kind) (ha:a=x.a) (hb:b=x.b) (hc:c=x.c) (hd:d=x.d) (rd nx ef af:Int) {nl:List Node} {pl:List Place} {tl:List bw} {jl:List Jb} {ql:List cj} {el al:List dW} {ns ps ts js qs es bU:List (List D)} (fc:ns=nl.map Node.cells) (hps:ps=pl.map Place.cells) (hts:ts=tl.map bw.cells) (eN:js=jl.map Jb.cells) (eD:qs=ql.map cj.cells) (aG:es=el.map dW.cells) (has:bU=al.map dW.cells) (hgd:(⟨rd,nx,⟨nl,pl⟩,tl,jl,ql,⟨ef,el⟩,⟨af,al⟩⟩:bg).good):
 FC 68 [.agg [U8 k,U8 a,U8 b,U8 c,U8 d],.agg [aD rd,aD nx,SL ns,SL ps,SL ts,SL js,SL qs,aD ef,SL es,aD af,SL bU]] [] (.ret (fm t (t _ fun _=>kL x ⟨rd,nx,⟨nl,pl⟩,tl,jl,ql,⟨ef,el⟩,⟨af,al⟩⟩))) []:=by
 obtain ⟨⟨s1,s2⟩,s3,⟨s4,s5⟩,⟨s6,s7⟩,s8,s9,Vv⟩:=(show bg.sm _ from hgd.sm)
 simp only at s1 s2 s3 s4 s5 s6 s7 s8 s9 Vv
 have wq:∀x∈jl,x.x.gu.u'∧x.x.path.length<1000000000000:=fun x hx=>⟨(s7 x hx).1.2.1,(s7 x hx).1.1⟩
 have hpj:=Nv hgd
 have hpm:=QI hgd
 simp only at hpj hpm
 obtain ⟨u1,u2,u3,u4,u5⟩:=id hx
 obtain ⟨Z,hZ⟩:∃Z:bg,Z=⟨rd,nx,⟨nl,pl⟩,tl,jl,ql,⟨ef,el⟩,⟨af,al⟩⟩:=⟨_,rfl⟩
 obtain ⟨S,hS⟩:∃S,S=kL x ⟨rd,nx,⟨nl,pl⟩,tl,jl,ql,⟨ef,el⟩,⟨af,al⟩⟩:=⟨_,rfl⟩
 rw [←hS]
 obtain ⟨K,hK⟩:∃K:Nat,K=x.kind%8:=⟨_,rfl⟩
 obtain ⟨I,hI⟩:∃I:Int,I=(x.a%12:Nat):=⟨_,rfl⟩
 have k8:k.tmod 8=(K:Int):=by rw [hk,tm8,hK]
 have a12:IntKind.u64.wrap (a.tmod 12)=I:=by rw [ha,Zy,hI,SE _ (by omega)]
 have b3:b.tmod 3=((x.b%3:Nat):Int):=by rw [hb,ZA]
 have c2:c.tmod 2=((x.c%2:Nat):Int):=by rw [hc,tm2]
 obtain ⟨Wa,Wb⟩:=HB s1 s2 (pl:=pl)
 refine bP ht (aV:=[]) Tryz.func68 rfl rfl (N:=129) rfl rfl (n:=0) rfl rfl ?_
 cbv
 have aL:ns.length=nl.length:=by rw [fc,lgM]
 have aR:ps.length=pl.length:=by rw [hps,lgM]
 have aM:ts.length=tl.length:=by rw [hts,lgM]
 have aT:js.length=jl.length:=by rw [eN,lgM]
 have aF:qs.length=ql.length:=by rw [eD,lgM]
 have az:es.length=el.length:=by rw [aG,lgM]
 have aE:bU.length=al.length:=by rw [has,lgM]
 refine ⟨?_,?_⟩
 ·(simp only [ht,ah] at*;omega)
 refine ⟨?_,?_⟩
 ·(simp only [ht,ah] at*;omega)
 cbv
 refine ap (fun h0=>?_) (fun h0=>?_)
 ·simp [ht,ah,aL,aR,aM,aT,aF,az,aE,k8,a12,b3,c2] at h0
  cbv
  refine ap (fun h1=>?_) (fun h1=>?_)
  ·simp [ht,ah,aL,aR,aM,aT,aF,az,aE,k8,a12,b3,c2] at h1
   cbv
   refine xD [] [4,5,6,7] [false,false,false,true,true,false,false,false,true] (by kernel_rfl) (by kernel_rfl) (by kernel_rfl) (by kernel_rfl) (by kernel_rfl) (by kernel_rfl) ?_
   cbv
   iterate 2 refine gI (by simp [ht,aj]) ?_
   refine .inl ?_
   (refine gX (fun g=>⟨by simp [ht],trv,vo ht _ _ _ _ _ x hx hk ha hb hc hd⟩) rfl rfl rfl (fun r1 cP=>?_);simp only [ht] at cP;have HH:r1.sm:=(by rw [cP];exact jJ (mu x)))
   cbv
   (refine aK trv (iP ht rd nx ef af fc hps hts eN eD aG has _ _ _ _ _ _ _ _ (nY:=r1.ct) (by simp only [ht]) HH s4 s6 s8 s9) (by simp [ht]) rfl rfl rfl (fun r2 gS=>?_);simp only [ht] at gS)
   cbv
   iterate 3 refine gI (by simp [ht,aj]) ?_
   refine aA trv trv rfl rfl rfl ?_
   (have e:S=r2.1:=(by rw [hS];unfold kL;rw [if_pos (by ((try simp only [ah] at*);omega)),gS,cP]);simp only [ht,e];done)
  simp [ht,ah,aL,aR,aM,aT,aF,az,aE,k8,a12,b3,c2] at h1
  omega
 simp [ht,ah,aL,aR,aM,aT,aF,az,aE,k8,a12,b3,c2] at h0
 cbv
 refine ap (fun h2=>?_) (fun h2=>?_)
 ·simp [ht,ah,aL,aR,aM,aT,aF,az,aE,k8,a12,b3,c2] at h2
  cbv
  refine ap (fun h3=>?_) (fun h3=>?_)
  ·simp [ht,ah,aL,aR,aM,aT,aF,az,aE,k8,a12,b3,c2] at h3
   cbv
   refine xD [] [4,5,6,7] [false,false,false,true,true,false,false,false,true] (by kernel_rfl) (by kernel_rfl) (by kernel_rfl) (by kernel_rfl) (by kernel_rfl) (by kernel_rfl) ?_
   cbv
   iterate 2 refine gI (by simp [ht,aj]) ?_
   refine .inl ?_
   (refine gX (fun g=>⟨by simp [ht],trv,vo ht _ _ _ _ _ x hx hk ha hb hc hd⟩) rfl rfl rfl (fun r1 cP=>?_);simp only [ht] at cP;have HH:r1.sm:=(by rw [cP];exact jJ (mu x)))
   cbv
   (refine aK trv (iP ht rd nx ef af fc hps hts eN eD aG has _ _ _ _ _ _ _ _ (nY:=r1.ct) (by simp only [ht]) HH s4 s6 s8 s9) (by simp [ht]) rfl rfl rfl (fun r2 gS=>?_);simp only [ht] at gS)
   cbv
   iterate 3 refine gI (by simp [ht,aj]) ?_
   refine aA trv trv rfl rfl rfl ?_
   (have e:S=r2.1:=(by rw [hS];unfold kL;rw [if_pos (by ((try simp only [ah] at*);omega)),gS,cP]);simp only [ht,e];done)
  simp [ht,ah,aL,aR,aM,aT,aF,az,aE,k8,a12,b3,c2] at h3
  contradiction
 simp [ht,ah,aL,aR,aM,aT,aF,az,aE,k8,a12,b3,c2] at h2
 cbv
 refine ap (fun h4=>?_) (fun h4=>?_)
 ·simp [ht,ah,aL,aR,aM,aT,aF,az,aE,k8,a12,b3,c2] at h4
  cbv
  refine ap (fun h5=>?_) (fun h5=>?_)
  ·simp [ht,ah,aL,aR,aM,aT,aF,az,aE,k8,a12,b3,c2] at h5
   cbv
   refine xD [] [4,5,6,7] [false,false,false,true,true,false,false,false,true] (by kernel_rfl) (by kernel_rfl) (by kernel_rfl) (by kernel_rfl) (by kernel_rfl) (by kernel_rfl) ?_
   cbv
   iterate 2 refine gI (by simp [ht,aj]) ?_
   refine .inl ?_
   (refine gX (fun g=>⟨by simp [ht],trv,vo ht _ _ _ _ _ x hx hk ha hb hc hd⟩) rfl rfl rfl (fun r1 cP=>?_);simp only [ht] at cP;have HH:r1.sm:=(by rw [cP];exact jJ (mu x)))
   cbv
   (refine aK trv (iP ht rd nx ef af fc hps hts eN eD aG has _ _ _ _ _ _ _ _ (nY:=r1.ct) (by simp only [ht]) HH s4 s6 s8 s9) (by simp [ht]) rfl rfl rfl (fun r2 gS=>?_);simp only [ht] at gS)
   cbv
   iterate 3 refine gI (by simp [ht,aj]) ?_
   refine aA trv trv rfl rfl rfl ?_
   (have e:S=r2.1:=(by rw [hS];unfold kL;rw [if_pos (by ((try simp only [ah] at*);omega)),gS,cP]);simp only [ht,e];done)
  simp [ht,ah,aL,aR,aM,aT,aF,az,aE,k8,a12,b3,c2] at h5
  contradiction
 simp [ht,ah,aL,aR,aM,aT,aF,az,aE,k8,a12,b3,c2] at h4
 cbv
 refine ap (fun h6=>?_) (fun h6=>?_)
 ·simp [ht,ah,aL,aR,aM,aT,aF,az,aE,k8,a12,b3,c2] at h6
  cbv
  refine xD [] [4,5,6,7] [false,false,false,true,true,false,false,false,true] (by kernel_rfl) (by kernel_rfl) (by kernel_rfl) (by kernel_rfl) (by kernel_rfl) (by kernel_rfl) ?_
  cbv
  iterate 2 refine gI (by simp [ht,aj]) ?_
  refine .inl ?_
  (refine gX (fun g=>⟨by simp [ht],trv,vo ht _ _ _ _ _ x hx hk ha hb hc hd⟩) rfl rfl rfl (fun r1 cP=>?_);simp only [ht] at cP;have HH:r1.sm:=(by rw [cP];exact jJ (mu x)))
  cbv
  (refine aK trv (iP ht rd nx ef af fc hps hts eN eD aG has _ _ _ _ _ _ _ _ (nY:=r1.ct) (by simp only [ht]) HH s4 s6 s8 s9) (by simp [ht]) rfl rfl rfl (fun r2 gS=>?_);simp only [ht] at gS)
  cbv
  iterate 3 refine gI (by simp [ht,aj]) ?_
  refine aA trv trv rfl rfl rfl ?_
  (have e:S=r2.1:=(by rw [hS];unfold kL;rw [if_pos (by ((try simp only [ah] at*);omega)),gS,cP]);simp only [ht,e];done)
 simp [ht,ah,aL,aR,aM,aT,aF,az,aE,k8,a12,b3,c2] at h6
 cbv
 refine ap (fun h7=>?_) (fun h7=>?_)
 ·simp [ht,ah,aL,aR,aM,aT,aF,az,aE,k8,a12,b3,c2] at h7
  cbv
  refine ap (fun h8=>?_) (fun h8=>?_)
  ·simp [ht,ah,aL,aR,aM,aT,aF,az,aE,k8,a12,b3,c2] at h8
   cbv
   (refine aK trv (nU ht _ rd nx ef af ns ps ts qs es bU eN (by ((try simp only [ah] at*);omega))) (by simp [ht]) rfl rfl rfl (fun r1 cP=>?_);simp only [ht,a12] at cP;have HH:r1.1.x.sm:=(by rw [cP];exact A5 (fun x hx=>(s7 x hx).1)))
   cbv
   refine dK [false,false,false,false,false,false,false,false,false,false,false,false,true,true,false,false,false,true] (by kernel_rfl) (by kernel_rfl) ?_
   cbv
   iterate 2 refine gI (by simp [ht,aj]) ?_
   refine .inl ?_
   (refine gX (fun g=>⟨by simp [ht],trv,AM ht fc hps (by ((try simp only [ah] at*);omega)) (by ((try simp only [ah] at*);omega))⟩) rfl rfl rfl (fun r2 gS=>?_);simp only [ht] at gS)
   cbv
   iterate 9 refine gI (by simp [ht,aj]) ?_
   (first|(refine aK trv (A3 ht _ _ _ _ _ (l:=r2) (by simp only [ht]) (by rw [gS];exact Wa) (by rw [gS];exact Wb) (x:=r1.1.x.ct) (by simp only [ht]) HH.2.2.1 (fun m hm=>(HH.2.2.2 m hm).2.1)) (by simp [ht]) rfl rfl rfl (fun r3 kV=>?_);simp only [ht] at kV)|(refine gX (fun g=>⟨by simp [ht],by simp [ht],A3 ht _ _ _ _ _ (l:=r2) (by simp only [ht]) (by rw [gS];exact Wa) (by rw [gS];exact Wb) (x:=r1.1.x.ct) (by simp only [ht]) HH.2.2.1 (fun m hm=>(HH.2.2.2 m hm).2.1)⟩) rfl rfl rfl (fun r3 kV=>?_);simp only [ht] at kV))
   cbv
   iterate 3 refine gI (by simp [ht,aj]) ?_
   refine ap (fun h9=>?_) (fun h9=>?_)
   ·cbv
    (refine aK trv (vq ht rd nx ef af fc hps hts eN eD aG has _ (names:=r3.1) (by simp only [ht]) wq s4 s6 s1 s3 s8 s9 (by rw [kV];exact wC _ _ _ _)) (by simp [ht]) rfl rfl rfl (fun r4 kw=>?_);simp only [ht,a12] at kw)
    cbv
    refine aA trv trv rfl rfl rfl ?_
    (have e3:fit (eP ⟨nl,pl⟩) (bI jl (x.a%12:Nat)).1.x.ct (bI jl (x.a%12:Nat)).1.x.gu (bI jl (x.a%12:Nat)).1.x.count=r3:=(by rw [kV,gS,cP,hI];rfl);have e:S=r4.1:=(by rw [hS];unfold kL;dsimp only;rw [if_neg (by ((try simp only [ah] at*);omega)),if_pos (by ((try simp only [ah] at*);omega)),e3,if_pos ‹_›,kw,hI]);simp only [ht,e];done)
   cbv
   refine aA trv trv rfl rfl rfl ?_
   (have e3:fit (eP ⟨nl,pl⟩) (bI jl (x.a%12:Nat)).1.x.ct (bI jl (x.a%12:Nat)).1.x.gu (bI jl (x.a%12:Nat)).1.x.count=r3:=(by rw [kV,gS,cP,hI];rfl);have e:S=⟨rd,nx,⟨nl,pl⟩,tl,jl,ql,⟨ef,el⟩,⟨af,al⟩⟩:=(by rw [hS];unfold kL;dsimp only;rw [if_neg (by ((try simp only [ah] at*);omega)),if_pos (by ((try simp only [ah] at*);omega)),e3,if_neg (by simp_all)]);simp only [ht,e,fc,hps,hts,eN,eD,aG,has];done)
  simp [ht,ah,aL,aR,aM,aT,aF,az,aE,k8,a12,b3,c2] at h8
  contradiction
 simp [ht,ah,aL,aR,aM,aT,aF,az,aE,k8,a12,b3,c2] at h7
 cbv
 refine ap (fun h10=>?_) (fun h10=>?_)
 ·simp [ht,ah,aL,aR,aM,aT,aF,az,aE,k8,a12,b3,c2] at h10
  cbv
  (refine aK trv (nU ht _ rd nx ef af ns ps ts qs es bU eN (by ((try simp only [ah] at*);omega))) (by simp [ht]) rfl rfl rfl (fun r1 cP=>?_);simp only [ht,a12] at cP;have HH:r1.1.x.sm:=(by rw [cP];exact A5 (fun x hx=>(s7 x hx).1)))
  cbv
  refine dK [false,false,false,false,false,false,false,false,false,false,false,false,true,true,false,false,false,true] (by kernel_rfl) (by kernel_rfl) ?_
  cbv
  iterate 2 refine gI (by simp [ht,aj]) ?_
  refine .inl ?_
  (refine gX (fun g=>⟨by simp [ht],trv,AM ht fc hps (by ((try simp only [ah] at*);omega)) (by ((try simp only [ah] at*);omega))⟩) rfl rfl rfl (fun r2 gS=>?_);simp only [ht] at gS)
  cbv
  iterate 9 refine gI (by simp [ht,aj]) ?_
  (first|(refine aK trv (A3 ht _ _ _ _ _ (l:=r2) (by simp only [ht]) (by rw [gS];exact Wa) (by rw [gS];exact Wb) (x:=r1.1.x.ct) (by simp only [ht]) HH.2.2.1 (fun m hm=>(HH.2.2.2 m hm).2.1)) (by simp [ht]) rfl rfl rfl (fun r3 kV=>?_);simp only [ht] at kV)|(refine gX (fun g=>⟨by simp [ht],by simp [ht],A3 ht _ _ _ _ _ (l:=r2) (by simp only [ht]) (by rw [gS];exact Wa) (by rw [gS];exact Wb) (x:=r1.1.x.ct) (by simp only [ht]) HH.2.2.1 (fun m hm=>(HH.2.2.2 m hm).2.1)⟩) rfl rfl rfl (fun r3 kV=>?_);simp only [ht] at kV))
  cbv
  iterate 3 refine gI (by simp [ht,aj]) ?_
  refine ap (fun h11=>?_) (fun h11=>?_)
  ·cbv
   (refine aK trv (vq ht rd nx ef af fc hps hts eN eD aG has _ (names:=r3.1) (by simp only [ht]) wq s4 s6 s1 s3 s8 s9 (by rw [kV];exact wC _ _ _ _)) (by simp [ht]) rfl rfl rfl (fun r4 kw=>?_);simp only [ht,a12] at kw)
   cbv
   refine aA trv trv rfl rfl rfl ?_
   (have e3:fit (eP ⟨nl,pl⟩) (bI jl (x.a%12:Nat)).1.x.ct (bI jl (x.a%12:Nat)).1.x.gu (bI jl (x.a%12:Nat)).1.x.count=r3:=(by rw [kV,gS,cP,hI];rfl);have e:S=r4.1:=(by rw [hS];unfold kL;dsimp only;rw [if_neg (by ((try simp only [ah] at*);omega)),if_pos (by ((try simp only [ah] at*);omega)),e3,if_pos ‹_›,kw,hI]);simp only [ht,e];done)
  cbv
  refine aA trv trv rfl rfl rfl ?_
  (have e3:fit (eP ⟨nl,pl⟩) (bI jl (x.a%12:Nat)).1.x.ct (bI jl (x.a%12:Nat)).1.x.gu (bI jl (x.a%12:Nat)).1.x.count=r3:=(by rw [kV,gS,cP,hI];rfl);have e:S=⟨rd,nx,⟨nl,pl⟩,tl,jl,ql,⟨ef,el⟩,⟨af,al⟩⟩:=(by rw [hS];unfold kL;dsimp only;rw [if_neg (by ((try simp only [ah] at*);omega)),if_pos (by ((try simp only [ah] at*);omega)),e3,if_neg (by simp_all)]);simp only [ht,e,fc,hps,hts,eN,eD,aG,has];done)
 simp [ht,ah,aL,aR,aM,aT,aF,az,aE,k8,a12,b3,c2] at h10
 cbv
 refine ap (fun h12=>?_) (fun h12=>?_)
 ·simp [ht,ah,aL,aR,aM,aT,aF,az,aE,k8,a12,b3,c2] at h12
  cbv
  (refine aK trv (Qt ht rd nx ef af fc hps hts eN eD aG has _ _ wq s4 s6 s3 s8 s9) (by simp [ht]) rfl rfl rfl (fun r4 kw=>?_);simp only [ht,a12] at kw)
  cbv
  refine aA trv trv rfl rfl rfl ?_
  (have e:S=r4.1:=(by rw [hS];unfold kL;rw [if_neg (by ((try simp only [ah] at*);omega)),if_neg (by ((try simp only [ah] at*);omega)),if_pos (by ((try simp only [ah] at*);omega)),kw,hI]);simp only [ht,e];done)
 simp [ht,ah,aL,aR,aM,aT,aF,az,aE,k8,a12,b3,c2] at h12
 cbv
 refine ap (fun P7=>?_) (fun P7=>?_)
 ·simp [ht,ah,aL,aR,aM,aT,aF,az,aE,k8,a12,b3,c2] at P7
  cbv
  refine xD [] [9,10,11,12] [false,false,false,false,false,false,false,false,false,false,false,false,false,false,true,true,true] (by kernel_rfl) (by kernel_rfl) (by kernel_rfl) (by kernel_rfl) (by kernel_rfl) (by kernel_rfl) ?_
  cbv
  iterate 6 refine gI (by simp [ht,aj]) ?_
  (first|(refine kO ht (l:=gz) (cells:=bE) (cT:=eW t) rfl (by simp only [ht,b3];((try simp only [ah] at*);omega)) (by simp only [ht,b3];simp only [gz,List.length_cons,List.length_nil];((try simp only [ah] at*);omega)) (fun _=>rfl) (fun _=>rfl) (fun xm X3=>?_);have X4:gz.getD (x.b%3) []=xm:=(by simp only [ht,b3,Int.toNat_natCast] at X3;rw [List.getD_eq_getElem?_getD,X3];rfl);rw [X5] at X4;subst X4)|(refine kO ht (l:=gz) (cells:=bE) (cT:=eW t) rfl (by simp only [ht,b3];((try simp only [ah] at*);omega)) (by simp only [ht,b3];simp only [gz,List.length_cons,List.length_nil];((try simp only [ah] at*);omega)) (fun _=>rfl) (fun _=>rfl) (fun xn Qa=>?_);have X5:gz.getD (x.b%3) []=xn:=(by simp only [ht,b3,Int.toNat_natCast] at Qa;rw [List.getD_eq_getElem?_getD,Qa];rfl)))
  cbv
  refine gI (by simp [ht,aj]) ?_
  refine .inl ?_
  (first|(refine aK trv (LL ht xn fc hps (by ((try simp only [ah] at*);omega)) (by ((try simp only [ah] at*);omega)) hpj (hpm _)) (by simp [ht]) rfl rfl rfl (fun r5 vf=>?_);simp only [ht] at vf;have hl5:r5.2.1.length≤12:=(by rw [vf];exact Da hgd xn);have hG5:∀l,(gA (ix Z r5.1) l).good:=(fun l=>tE (by have:=rL hgd xn false;rw [←wE] at this;rw [vf,hZ];exact this) l);have e5:K=7→S=if r5.2.2=0∧x.c%2=0 then gA (ix Z r5.1) r5.2.1 else ix Z (fj ⟨nl,pl⟩ xn true).1:=(by intro hK7;rw [hS,hZ,vf,←X5];unfold kL;rw [if_neg (by ((try simp only [ah] at*);omega)),if_neg (by ((try simp only [ah] at*);omega)),if_neg (by ((try simp only [ah] at*);omega))];rfl))|(refine gX (fun g=>⟨by simp [ht],trv,LL ht xn fc hps (by ((try simp only [ah] at*);omega)) (by ((try simp only [ah] at*);omega)) hpj (hpm _)⟩) rfl rfl rfl (fun r5 vf=>?_);simp only [ht] at vf;have hl5:r5.2.1.length≤12:=(by rw [vf];exact Da hgd xn);have hG5:∀l,(gA (ix Z r5.1) l).good:=(fun l=>tE (by have:=rL hgd xn false;rw [←wE] at this;rw [vf,hZ];exact this) l);have e5:K=7→S=if r5.2.2=0∧x.c%2=0 then gA (ix Z r5.1) r5.2.1 else ix Z (fj ⟨nl,pl⟩ xn true).1:=(by intro hK7;rw [hS,hZ,vf,←X5];unfold kL;rw [if_neg (by ((try simp only [ah] at*);omega)),if_neg (by ((try simp only [ah] at*);omega)),if_neg (by ((try simp only [ah] at*);omega))];rfl)))
  cbv
  iterate 8 refine gI (by simp [ht,aj]) ?_
  refine pI (by simp [ht,aj]) ?_
  refine ap (fun MY=>?_) (fun MY=>?_)
  ·simp [ht,ah,aL,aR,aM,aT,aF,az,aE,k8,a12,b3,c2] at MY
   cbv
   obtain ⟨J15,VE⟩:∃J15:Nat→Int×Int×Int×List (List D)×List (List D)×List (List D)×List (List D)×List (List D)×Int×List (List D)×Int×List (List D)→Prop,∀n i rd nx ns ps ts js qs ef es af bU,J15 n (i,rd,nx,ns,ps,ts,js,qs,ef,es,af,bU)↔(∃q:Nat,i=q∧q+n=r5.2.1.length∧Told (gA (ix Z r5.1) (r5.2.1.take q)) rd nx ns ps ts js qs ef es af bU):=⟨fun n v=>match v with|(i,rd,nx,ns,ps,ts,js,qs,ef,es,af,bU)=>(∃q:Nat,i=q∧q+n=r5.2.1.length∧Told (gA (ix Z r5.1) (r5.2.1.take q)) rd nx ns ps ts js qs ef es af bU),fun _ _ _ _ _ _ _ _ _ _ _ _ _=>Iff.rfl⟩
   refine bM ⟨[3,4,11,13],[],[]⟩ (σ:=Int×Int×Int×List (List D)×List (List D)×List (List D)×List (List D)×List (List D)×Int×List (List D)×Int×List (List D)) (fun v=>[(13,.d (.int .i64 (t _ fun _=>v.1)))]) (fun v=>[(0,.var [.d (.int .u64 (t _ fun _=>v.2.1)),.d (.int .u64 (t _ fun _=>v.2.2.1)),.d (.sl (t _ fun _=>v.2.2.2.1)),.d (.sl (t _ fun _=>v.2.2.2.2.1)),.d (.sl (t _ fun _=>v.2.2.2.2.2.1)),.d (.sl (t _ fun _=>v.2.2.2.2.2.2.1)),.d (.sl (t _ fun _=>v.2.2.2.2.2.2.2.1)),.d (.int .u64 (t _ fun _=>v.2.2.2.2.2.2.2.2.1)),.d (.sl (t _ fun _=>v.2.2.2.2.2.2.2.2.2.1)),.d (.int .u64 (t _ fun _=>v.2.2.2.2.2.2.2.2.2.2.1)),.d (.sl (t _ fun _=>v.2.2.2.2.2.2.2.2.2.2.2))])]) J15 ?_
   cbv
   refine aJ ⟨r5.2.1.length,(_,_,_,_,_,_,_,_,_,_,_,_),(VE _ _ _ _ _ _ _ _ _ _ _ _ _).2 ?_,by simp only [ht];rfl,?_⟩
   ·exact ⟨0,rfl,by simp,by rw [hZ];exact ⟨rfl,rfl,by first|rfl|simp only [ht],by first|rfl|simp only [ht],hts,eN,eD,rfl,aG,rfl,has⟩⟩
   rintro n ⟨i,rd,nx,ns,ps,ts,js,qs,ef,es,af,bU⟩ hj
   replace hj:=(VE _ _ _ _ _ _ _ _ _ _ _ _ _).1 hj
   obtain ⟨q,rfl,j1,jT⟩:=hj
   cbv
   refine ap (fun P8=>?_) (fun P8=>?_)
   ·simp [ht,ah,aL,aR,aM,aT,aF,az,aE,k8,a12,b3,c2] at P8
    cbv
    refine xD [1,2] [1,2,6,7,8] [false,false,false,false,false,true,true,false,false,true] (by kernel_rfl) (by kernel_rfl) (by kernel_rfl) (by kernel_rfl) (by kernel_rfl) (by kernel_rfl) ?_
    cbv
    iterate 3 refine gI (by simp [ht,aj]) ?_
    (refine kO ht (l:=r5.2.1) (cells:=cX) (cT:=S8 t) (by simp only [ht]<;>rfl) (by simp only [ht,ah];omega) (by simp only [ht,ah];((try simp only [ah] at*);omega)) (fun _=>rfl) (fun _=>rfl) (fun x2 nT=>?_);simp [ht,ah] at nT)
    cbv
    refine gI (by simp [ht,aj]) ?_
    (have pn:=(hG5 (r5.2.1.take q)).sm;refine aK trv (EC ht _ _ _ _ (nl:=(gA (ix Z r5.1) (r5.2.1.take q)).bf.nodes) (pl:=(gA (ix Z r5.1) (r5.2.1.take q)).bf.places) (tl:=(gA (ix Z r5.1) (r5.2.1.take q)).tree) (jl:=(gA (ix Z r5.1) (r5.2.1.take q)).av) (ql:=(gA (ix Z r5.1) (r5.2.1.take q)).queue) (el:=(gA (ix Z r5.1) (r5.2.1.take q)).ev.l) (al:=(gA (ix Z r5.1) (r5.2.1.take q)).au.l) (by simp only [ht];exact jT.n) (by simp only [ht];exact jT.p) (by simp only [ht];exact jT.t) (by simp only [ht];exact jT.j) (by simp only [ht];exact jT.q) (by simp only [ht];exact jT.e) (by simp only [ht];exact jT.a) _ _ (tF pn) pn.tree.1 pn.av.1 pn.places pn.queue pn.notes.1) (by simp [ht]) rfl rfl rfl (fun r7 C6=>?_);simp only [ht] at C6;rw [jT.eq] at C6)
    cbv
    iterate 2 refine gI (by simp [ht,aj]) ?_
    refine cD (_,_,_,_,_,_,_,_,_,_,_,_) (by simp only [ht];rfl) (n-1) ?_ ((VE _ _ _ _ _ _ _ _ _ _ _ _ _).2 ?_)
    ·omega
    simp only [ht,ah]
    exact ⟨q+1,aH (by ((try simp only [ah] at*);omega)),by ((try simp only [ah] at*);omega),by rw [HG nT,←C6];exact Told.self r7.1⟩
   simp [ht,ah,aL,aR,aM,aT,aF,az,aE,k8,a12,b3,c2] at P8
   cbv
   refine aA trv trv rfl rfl rfl ?_
   (have e:=e5 (by ((try simp only [ah] at*);omega));rw [if_pos ⟨MY.1,by ((try simp only [ah] at*);omega)⟩] at e;rw [List.take_of_length_le (by ((try simp only [ah] at*);omega))] at jT;simp only [ht,e,jT.r,jT.x,jT.n,jT.p,jT.t,jT.j,jT.q,jT.f,jT.e,jT.g,jT.a];done)
  simp [ht,ah,aL,aR,aM,aT,aF,az,aE,k8,a12,b3,c2] at MY
  cbv
  refine xD [] [9,10,11] [false,false,false,false,false,false,false,false,true,true,false,false,true,true] (by kernel_rfl) (by kernel_rfl) (by kernel_rfl) (by kernel_rfl) (by kernel_rfl) (by kernel_rfl) ?_
  cbv
  iterate 6 refine gI (by simp [ht,aj]) ?_
  (first|(refine kO ht (l:=gz) (cells:=bE) (cT:=eW t) rfl (by simp only [ht,b3];((try simp only [ah] at*);omega)) (by simp only [ht,b3];simp only [gz,List.length_cons,List.length_nil];((try simp only [ah] at*);omega)) (fun _=>rfl) (fun _=>rfl) (fun xm X3=>?_);have X4:gz.getD (x.b%3) []=xm:=(by simp only [ht,b3,Int.toNat_natCast] at X3;rw [List.getD_eq_getElem?_getD,X3];rfl);rw [X5] at X4;subst X4)|(refine kO ht (l:=gz) (cells:=bE) (cT:=eW t) rfl (by simp only [ht,b3];((try simp only [ah] at*);omega)) (by simp only [ht,b3];simp only [gz,List.length_cons,List.length_nil];((try simp only [ah] at*);omega)) (fun _=>rfl) (fun _=>rfl) (fun xn Qa=>?_);have X5:gz.getD (x.b%3) []=xn:=(by simp only [ht,b3,Int.toNat_natCast] at Qa;rw [List.getD_eq_getElem?_getD,Qa];rfl)))
  cbv
  refine gI (by simp [ht,aj]) ?_
  (first|(refine aK trv (LK ht xn fc hps (by ((try simp only [ah] at*);omega))) (by simp [ht]) rfl rfl rfl (fun r6 nu=>?_);simp only [ht] at nu)|(refine gX (fun g=>⟨by simp [ht],trv,LK ht xn fc hps (by ((try simp only [ah] at*);omega))⟩) rfl rfl rfl (fun r6 nu=>?_);simp only [ht] at nu))
  cbv
  iterate 2 refine gI (by simp [ht,aj]) ?_
  refine aA trv trv rfl rfl rfl ?_
  (have e:=e5 (by ((try simp only [ah] at*);omega));rw [if_neg (by intro h;have:=MY h.1;((try simp only [ah] at*);omega))] at e;rw [←nu] at e;simp only [ht,e,hZ,ix,hts,eN,eD,aG,has];done)
 simp [ht,ah,aL,aR,aM,aT,aF,az,aE,k8,a12,b3,c2] at P7
 (simp only [ah] at*;omega)
theorem Nw (ht:TT t) (N:Nat) (hN:N<256) {a:Int} (ea:a=N) {l:List jS} {dl:List (List D)} (Uk:dl=l.map jS.cells) (hlu:∀x∈l,x.u) (hll:l.length<9223372036854775808):
 FC 26 [U8 a,SL dl] [] (.ret (fm t (t _ fun _=>ie N l (min l.length 40)))) []:=by
 refine bP ht (aV:=[]) Tryz.func26 rfl rfl (N:=26) rfl rfl (n:=0) rfl rfl ?_
 cbv
 have mw:dl.length=l.length:=by rw [Uk,lgM]
 (refine aK trv (xZ ht N hN ea) (by simp [ht]) rfl rfl rfl (fun r1 cP=>?_);simp only [ht] at cP)
 cbv
 obtain ⟨J0,fH⟩:∃J0:Nat→Int×Int×Int×List (List D)×List (List D)×List (List D)×List (List D)×List (List D)×Int×List (List D)×Int×List (List D)→Prop,∀n i rd nx ns ps ts js qs ef es af bU,J0 n (i,rd,nx,ns,ps,ts,js,qs,ef,es,af,bU)↔(∃k:Nat,i=k∧k+n=40∧k≤l.length∧Told (ie N l k) rd nx ns ps ts js qs ef es af bU):=⟨fun n v=>match v with|(i,rd,nx,ns,ps,ts,js,qs,ef,es,af,bU)=>(∃k:Nat,i=k∧k+n=40∧k≤l.length∧Told (ie N l k) rd nx ns ps ts js qs ef es af bU),fun _ _ _ _ _ _ _ _ _ _ _ _ _=>Iff.rfl⟩
 refine bM ⟨[1,4,5,6],[],[]⟩ (σ:=Int×Int×Int×List (List D)×List (List D)×List (List D)×List (List D)×List (List D)×Int×List (List D)×Int×List (List D)) (fun v=>[(6,.d (.int .i64 (t _ fun _=>v.1)))]) (fun v=>[(1,.var [.d (.int .u64 (t _ fun _=>v.2.1)),.d (.int .u64 (t _ fun _=>v.2.2.1)),.d (.sl (t _ fun _=>v.2.2.2.1)),.d (.sl (t _ fun _=>v.2.2.2.2.1)),.d (.sl (t _ fun _=>v.2.2.2.2.2.1)),.d (.sl (t _ fun _=>v.2.2.2.2.2.2.1)),.d (.sl (t _ fun _=>v.2.2.2.2.2.2.2.1)),.d (.int .u64 (t _ fun _=>v.2.2.2.2.2.2.2.2.1)),.d (.sl (t _ fun _=>v.2.2.2.2.2.2.2.2.2.1)),.d (.int .u64 (t _ fun _=>v.2.2.2.2.2.2.2.2.2.2.1)),.d (.sl (t _ fun _=>v.2.2.2.2.2.2.2.2.2.2.2))])]) J0 ?_
 cbv
 refine aJ ⟨40,(_,_,_,_,_,_,_,_,_,_,_,_),(fH _ _ _ _ _ _ _ _ _ _ _ _ _).2 ?_,by simp only [ht];rfl,?_⟩
 ·exact ⟨0,rfl,by omega,by omega,by rw [show ie N l 0=r1 from cP.symm];exact Told.self r1⟩
 rintro n ⟨i,rd,nx,ns,ps,ts,js,qs,ef,es,af,bU⟩ hj
 replace hj:=(fH _ _ _ _ _ _ _ _ _ _ _ _ _).1 hj
 obtain ⟨k,rfl,j1,j2,jT⟩:=hj
 cbv
 iterate 2 refine gI (by simp [ht,aj]) ?_
 refine pI (by simp [ht,aj]) ?_
 refine ap (fun h1=>?_) (fun h1=>?_)
 ·simp [ht,ah,mw] at h1
  cbv
  refine dK [false,false,false,false,false,true,true] (by kernel_rfl) (by kernel_rfl) ?_
  cbv
  iterate 2 refine gI (by simp [ht,aj]) ?_
  refine kO ht Uk (cT:=jS.bF t) (by (simp only [ht,ah];omega)) (by (simp only [ht,ah];omega)) (fun _=>rfl) (fun _=>rfl) (fun x2 nT=>?_)
  simp [ht,ah] at nT
  cbv
  iterate 2 refine gI (by simp [ht,aj]) ?_
  ((refine aK trv (QJ ht x2 (hlu x2 (List.mem_of_getElem? nT)) rfl rfl rfl rfl rfl _ _ _ _ (nl:=(ie N l k).bf.nodes) (pl:=(ie N l k).bf.places) (tl:=(ie N l k).tree) (jl:=(ie N l k).av) (ql:=(ie N l k).queue) (el:=(ie N l k).ev.l) (al:=(ie N l k).au.l) (by simp only [ht];exact jT.n) (by simp only [ht];exact jT.p) (by simp only [ht];exact jT.t) (by simp only [ht];exact jT.j) (by simp only [ht];exact jT.q) (by simp only [ht];exact jT.e) (by simp only [ht];exact jT.a) (by simp only [ht];rw [jT.eq];exact ya N l k)) (by simp [ht]) rfl rfl rfl (fun r1 cP=>?_);simp only [ht] at cP;rw [jT.eq,←HD nT] at cP))
  cbv
  refine cD (_,_,_,_,_,_,_,_,_,_,_,_) (by simp only [ht];rfl) (n-1) ?_ ((fH _ _ _ _ _ _ _ _ _ _ _ _ _).2 ?_)
  ·((try simp only [ah] at*);omega)
  simp only [ht,ah]
  exact ⟨k+1,aH (by ((try simp only [ah] at*);omega)),by ((try simp only [ah] at*);omega),by ((try simp only [ah] at*);omega),by rw [←cP];exact Told.self r1⟩
 simp [ht,ah,mw] at h1
 cbv
 refine aA trv trv rfl rfl rfl ?_
 (have hk:min l.length 40=k:=(by ((try simp only [ah] at*);omega));simp only [ht,hk,jT.r,jT.x,jT.n,jT.p,jT.t,jT.j,jT.q,jT.f,jT.e,jT.g,jT.a];done)
end Dem
end
section
open Go
namespace Dem
theorem yf {s:bg} (h:s.good) {x:Ask} (hx:su x):(cW s x).1.good:=⟨h.ok.cW hx.gu,AW h.eU hx,A7 h.ok h.yJ x⟩
theorem Kc {s:bg} (h:s.good) {id:Int} (hi:id<12) (names:List aQ):(bZ s id names).1.good:=⟨h.ok.wm _ _,(x6 h.ok _ _).eU h.eU,C8 h.ok h.yJ hi _⟩
theorem vv (n:Nat):(jI n).good:=⟨AJ n,x7 _ n,fun j hj=>by cases hj⟩
def xA1:Ask:=⟨[97],⟨3,0,0,0⟩,1,1,5,[]⟩
def Wf (tk:Int):Ask:=⟨[98],⟨2,0,0,0⟩,1,3,tk,[]⟩
theorem QK {a b c d:Int} (h:∀x∈[a,b,c,d],0≤x∧x<18446744073709551616):(⟨a,b,c,d⟩:bO).w:=by
 intro k hk;unfold bO.at_;split<;>exact h _ (by simp)
theorem wJ:su xA1:=⟨by decide,QK (by decide),by decide,fun m hm=>by cases hm⟩
theorem wK (tk:Int):su (Wf tk):=⟨by simp [Wf],QK (by decide),by simp [Wf],fun m hm=>by cases hm⟩
def LM:bg:=(cW (jI 192) xA1).1
def LN:Int:=(cW (jI 192) xA1).2.1
def Db:bg:=(bZ LM LN [[110,49]]).1
def BZ (tk:Int):bg:=(cW Db (Wf tk)).1
theorem QL:LN<12:=by decide+kernel
theorem Bd:LM.good:=yf (vv 192) wJ
theorem Be:Db.good:=Kc Bd QL _
theorem Nx (tk:Int):(BZ tk).good:=yf Be (wK tk)
theorem Ny:BT.good:=by
 have e:BT=⟨0,1,⟨[],[]⟩,[⟨[],bO.zero,bO.zero⟩],[],[],⟨0,[]⟩,⟨0,[]⟩⟩:=rfl
 refine ⟨?_,⟨fun n hn=>(by cases hn),fun e he=>?_,fun j hj=>(by cases hj)⟩,fun j hj=>(by cases hj)⟩
 ·exact {
   bf:=Le,gR:=Pq
   tree:=⟨⟨_,_,rfl,rfl⟩,by decide,by rw [e];exact List.pairwise_singleton _ _,by decide+kernel,by decide+kernel,by decide+kernel,fun x hx=>by rw [List.mem_singleton.1 hx];exact ⟨wh,wh⟩⟩
   used:=fun x hx k _=>by rw [List.mem_singleton.1 hx,mU];rfl
   most:=by decide
   next:=by decide
   ids:=List.Pairwise.nil
   u9:=fun j hj=>by cases hj
   pe:=fun j hj=>by cases hj
   left:=fun j hj=>by cases hj
   iJ:=List.Pairwise.nil
   kK:=List.Pairwise.nil
   gy:=fun q=>by simp [e]
   places:=fun x hx=>by cases hx
   count:=fun j hj=>by cases hj
   notes:=by decide}
 rw [List.mem_singleton.1 he];decide
theorem Ke {s:bg} {id:Int} {a:Jb} (h:(bI s.av id).2=true) (g:(s.av.filter fun o=>o.runs&&decide (o.x.prio<(bI s.av id).1.x.prio)).map (·.id)=[a.id]):cq s id=[a.id]:=by
 unfold cq
 rw [h]
 obtain ⟨b,hb⟩:∃b,(s.av.filter fun o=>o.runs&&decide (o.x.prio<(bI s.av id).1.x.prio))=[b]:=List.length_eq_one_iff.1 (by have:=congrArg List.length g;simpa using this)
 rw [hb] at g ⊢
 simpa using g
theorem qG {s:bg} {id:Int} (g:(s.av.filter fun o=>o.runs&&decide (o.x.prio<(bI s.av id).1.x.prio)).map (·.id)=[]):cq s id=[]:=by
 unfold cq
 split
 ·rfl
 rw [List.map_eq_nil_iff.1 g];simp
def qH (s:bg) (id:Int) (A:List Int):List Int×List aQ×Bool:=match kR s id A (A.length+1) 0 with
 |none=>([],[],false)
 |some (l,nodes)=>((gm s id (l.length+1) 0 l nodes).1,(gm s id (l.length+1) 0 l nodes).2,true)
def iy (v:bO):List bT→Nat→Prop
 |[],n=>n=0
 |s::r,n=>∃m≤n,(∀k<4,m*vk k v≤vk k s.free)∧iy v r (n-m)
theorem iy.zero (v:bO):∀l:List bT,iy v l 0
 |[]=>rfl
 |_::r=>⟨0,Nat.le_refl _,fun k _=>by simp,iy.zero v r⟩
theorem iy.less {v:bO}:∀{l:List bT} {n:Nat},iy v l (n+1)→iy v l n
 |[],n,h=>by cases h
 |s::r,n,⟨m,hm,h1,h2⟩=>by
  cases m with
  |zero=>exact ⟨0,Nat.zero_le _,h1,by simpa using iy.less (l:=r) (n:=n) (by simpa using h2)⟩
  |succ m=>
   refine ⟨m,by omega,fun k hk=>Nat.le_trans (Nat.mul_le_mul_right _ (Nat.le_succ m)) (h1 k hk),?_⟩
   rwa [show n+1-(m+1)=n-m by omega] at h2
theorem iy.put {v:bO} {s':bT}:∀{l:List bT} {i n:Nat} {s:bT},l[i]?=some s→(∀k<4,vk k v≤vk k s.free)→(∀k<4,vk k s'.free=vk k s.free-vk k v)→iy v (l.set i s') n→iy v l (n+1)
 |[],i,n,s,h,_,_,_=>by simp at h
 |x::r,0,n,s,h,hf,he,⟨m,hm,h1,h2⟩=>by
  simp only [List.getElem?_cons_zero,osI] at h;subst h
  refine ⟨m+1,by omega,fun k hk=>?_,by rwa [show n+1-(m+1)=n-m by omega]⟩
  have a:=h1 k hk;have b:=he k hk;have c:=hf k hk
  rw [b] at a
  rw [Nat.add_mul,Nat.one_mul];omega
 |x::r,i+1,n,s,h,hf,he,⟨m,hm,h1,h2⟩=>by
  simp only [List.getElem?_cons_succ] at h
  refine ⟨m,by omega,h1,?_⟩
  rw [show n+1-m=(n-m)+1 by omega]
  exact iy.put h hf he h2
theorem iy.take {v:bO} {s':bT}:∀{l:List bT} {i n:Nat} {s:bT},l[i]?=some s→(∀k<4,vk k s'.free=vk k s.free-vk k v)→iy v l (n+1)→iy v (l.set i s') n
 |[],i,n,s,h,_,_=>by simp at h
 |x::r,0,n,s,h,he,⟨m,hm,h1,h2⟩=>by
  simp only [List.getElem?_cons_zero,osI] at h;subst h
  cases m with
  |zero=>exact ⟨0,Nat.zero_le _,fun k _=>by simp,by simpa using iy.less (l:=r) (n:=n) (by simpa using h2)⟩
  |succ m=>
   refine ⟨m,by omega,fun k hk=>?_,by rwa [show n+1-(m+1)=n-m by omega] at h2⟩
   have a:=h1 k hk;have b:=he k hk
   rw [Nat.add_mul,Nat.one_mul] at a
   rw [b];omega
 |x::r,i+1,n,s,h,he,⟨m,hm,h1,h2⟩=>by
  simp only [List.getElem?_cons_succ] at h
  by_cases e:m=n+1
  ·subst e
   refine ⟨n,Nat.le_refl _,fun k hk=>Nat.le_trans (Nat.mul_le_mul_right _ (Nat.le_succ n)) (h1 k hk),?_⟩
   rw [Nat.sub_self];exact iy.zero v _
  refine ⟨m,by omega,h1,iy.take h he ?_⟩
  rwa [show n+1-m=(n-m)+1 by omega] at h2
theorem iy.one {v:bO}:∀{l:List bT} {n:Nat},iy v l (n+1)→∃s∈l,∀k<4,vk k v≤vk k s.free
 |[],n,h=>by cases h
 |x::r,n,⟨m,hm,h1,h2⟩=>by
  cases m with
  |zero=>
   obtain ⟨s,hs,h⟩:=iy.one (l:=r) (n:=n) (by simpa using h2)
   exact ⟨s,by simp [hs],h⟩
  |succ m=>exact ⟨x,by simp,fun k hk=>by have:=h1 k hk;rw [Nat.add_mul,Nat.one_mul] at this;omega⟩
theorem iy.mono {v:bO}:∀{l l':List bT} {n:Nat},l.length=l'.length→(∀(i:Nat) (s s':bT),l[i]?=some s→l'[i]?=some s'→∀k<4,vk k s.free≤vk k s'.free)→iy v l n→iy v l' n
 |[],[],n,_,_,h=>h
 |[],_::_,_,h,_,_=>by cases h
 |_::_,[],_,h,_,_=>by cases h
 |x::r,y::q,n,hl,hf,⟨m,hm,h1,h2⟩=>
  ⟨m,hm,fun k hk=>Nat.le_trans (h1 k hk) (hf 0 x y rfl rfl k hk),iy.mono (by simpa using hl) (fun i s s' a b=>hf (i+1) s s' (by simpa using a) (by simpa using b)) h2⟩
theorem oU (v:bO) (hv:v.w):∀(l:List bT) (k:Nat) (b:D2) (L:List bT),(∀s∈L,s.free.w)→L.drop k=l→
 (b.ok=true→∃s,L[b.at_]?=some s∧(dV s.free v).2=true∧b.left=(dV s.free v).1)→
 ((
  (mh v l k b).ok=true→∃s,L[(mh v l k b).at_]?=some s∧(dV s.free v).2=true∧(mh v l k b).left=(dV s.free v).1)∧
  ((mh v l k b).ok=false→b.ok=false∧∀s∈l,(dV s.free v).2=false))
 |[],k,b,L,_,_,hb=>by simp only [mh];exact ⟨hb,fun h=>⟨h,by simp⟩⟩
 |s::r,k,b,L,hw,hd,hb=>by
  have hs:L[k]?=some s:=by
   have:=congrArg (fun x=>x[0]?) hd
   simpa using this
  have hr:L.drop (k+1)=r:=by rw [←List.drop_drop,hd];rfl
  simp only [mh]
  by_cases c:((dV s.free v).2&&(!b.ok||decide (qi (dV s.free v).1 b.left<0)))=true
  ·rw [if_pos c]
   rw [Bool.and_eq_true] at c
   obtain ⟨g1,g2⟩:=oU v hv r (k+1) ⟨k,(dV s.free v).1,true⟩ L hw hr (fun _=>⟨s,hs,c.1,rfl⟩)
   exact ⟨g1,fun h=>absurd (g2 h).1 (by simp)⟩
  rw [if_neg c]
  obtain ⟨g1,g2⟩:=oU v hv r (k+1) b L hw hr hb
  refine ⟨g1,fun h=>⟨(g2 h).1,fun x hx=>?_⟩⟩
  rcases List.mem_cons.1 hx with rfl|hx
  ·have:=(g2 h).1
   rw [this] at c
   simpa using c
  exact (g2 h).2 x hx
theorem HI {v:bO} (hv:v.w) {l:List bT} (hw:∀s∈l,s.free.w) (h:(best l v).ok=true):∃s,l[(best l v).at_]?=some s∧(dV s.free v).2=true∧(best l v).left=(dV s.free v).1:=
 (oU v hv l 0 ⟨0,bO.zero,false⟩ l hw rfl (fun h=>by cases h)).1 h
theorem QM {v:bO} (hv:v.w) {l:List bT} (hw:∀s∈l,s.free.w) (h:(best l v).ok=false):∀s∈l,(dV s.free v).2=false:=
 ((oU v hv l 0 ⟨0,bO.zero,false⟩ l hw rfl (fun h=>by cases h)).2 h).2
theorem HJ {v:bO} (hv:v.w):∀(n:Nat) (l:List bT) (out:List aQ),(∀s∈l,s.free.w)→((nN v n l out).2=true↔iy v l n)
 |0,l,out,_=>⟨fun _=>iy.zero v l,fun _=>rfl⟩
 |n+1,l,out,hw=>by
  simp only [nN]
  cases hb:(best l v).ok with
  |false=>
   rw [show (!false)=true from rfl,if_pos rfl]
   refine ⟨fun h=>Bool.noConfusion h,fun h=>?_⟩
   obtain ⟨s,hs,hf⟩:=iy.one h
   have:=QM hv hw hb s hs
   rw [←Bool.not_eq_true,mR] at this
   exact absurd hf this
  |true=>
   obtain ⟨s,h1,h2,h3⟩:=HI hv hw hb
   rw [show (!true)=false from rfl,if_neg (by decide)]
   have wq:s∈l:=List.mem_of_getElem? h1
   have hd:l.getD (best l v).at_ default=s:=by rw [List.getD_eq_getElem?_getD,h1];rfl
   rw [hd,h3]
   have hle:∀k<4,vk k ({s with free:=(dV s.free v).1}:bT).free=vk k s.free-vk k v:=fun k hk=>Ec (hw s wq) h2 hk
   have hw':∀x∈l.set (best l v).at_ {s with free:=(dV s.free v).1},x.free.w:=fun x hx=>by
    rcases yP hx with hx|rfl
    ·exact hw x hx
    exact Jf h2
   rw [HJ hv n _ _ hw']
   exact ⟨fun h=>iy.put h1 (mR.1 h2) hle h,fun h=>iy.take h1 hle h⟩
theorem Nz {name:aQ} {ps:List Place} {v:bO} {l:List Node} {n:Node} (ha:Ja l) (hn:n∈l) (h:(cE n.name l ps).2=true):cE n.name l ps=left n.name ps (n.cap,true):=by
 have h2:=wg ha hn ps
 rw [gP ha hn] at h
 rw [h2,if_pos h]
theorem LO {p:cC} (h:p.ok) (hw:p.w) {n:Node} (hn:n∈p.nodes) {k:Nat} (hk:k<4):(cE n.name p.nodes p.places).1.at_ k=((vk k n.cap-gw k (here n.name p.places):Nat):Int):=by
 have h1:=h.free n hn
 rw [gP h.xM hn] at h1
 rw [Nz (name:=n.name) (v:=n.cap) h.xM hn (h.free n hn)]
 exact (nO n.name p.places n.cap (hw.cap n hn)).2 h1 k hk
theorem LP {p:cC} (h:p.ok) (hw:p.w) {n:Node} (hn:n∈p.nodes) {k:Nat} (hk:k<4):vk k (cE n.name p.nodes p.places).1=vk k n.cap-gw k (here n.name p.places):=by
 unfold vk;rw [LO h hw hn hk];rfl
theorem QN {p:cC} (h:p.ok) (hw:p.w) {n:Node} (hn:n∈p.nodes):(cE n.name p.nodes p.places).1.w:=by
 intro k hk
 have h1:=LO h hw hn hk
 have h2:=(Jk (hw.cap n hn) hk).2
 rw [h1];omega
def iQ (p:cC) (n:Node):bT:=⟨n.name,(cE n.name p.nodes p.places).1,n.labels⟩
theorem NA {p:cC} (h:p.ok):eP p=(p.nodes.filter (·.up)).map (iQ p):=by
 have:∀r:List Node,(∀n∈r,n∈p.nodes)→r.filterMap (nM p.nodes p.places)=(r.filter (·.up)).map (iQ p):=by
  intro r
  induction r with
  |nil=>intro _;rfl
  |cons n r ih=>
   intro hr
   have h1:=h.free n (hr n (by simp))
   have h2:=ih fun m hm=>hr m (by simp [hm])
   rw [List.filterMap_cons,List.filter_cons]
   cases hu:n.up
   ·simp [nM,hu,h2]
   simp [nM,hu,h1,h2,iQ]
 exact this p.nodes fun n hn=>hn
theorem mY {p:cC} (h:p.ok) (x:List Term):fitting (eP p) x=((p.nodes.filter (·.up)).filter fun n=>ng x n.labels).map (iQ p):=by
 rw [NA h,fitting,List.filter_map];rfl
theorem NB {p:cC} (h:p.ok) (hw:p.w) (x:List Term):∀s∈fitting (eP p) x,s.free.w:=by
 rw [mY h]
 intro s hs
 obtain ⟨n,hn,rfl⟩:=List.mem_map.1 hs
 exact QN h hw (List.mem_filter.1 (List.mem_filter.1 hn).1).1
theorem LQ {p:cC} (h:p.ok) (hw:p.w) {x:List Term} {v:bO} (hv:v.w) {c:Int} (hc:0≤c∧c≤8):(fit (eP p) x v c).2=true↔iy v (fitting (eP p) x) c.toNat:=by
 unfold fit
 rw [if_neg (by omega),HJ hv _ _ _ (NB h hw x),show max c 0=c by omega]
theorem QO {p q:cC} (h:p.ok) (hw:p.w) (h':q.ok) (hw':q.w) (hn:q.nodes=p.nodes) (hu:∀n,∀k<4,gw k (here n q.places)≤gw k (here n p.places)) {x:List Term} {v:bO} (hv:v.w) {c:Int} (hc:0≤c∧c≤8)
 (e:(fit (eP p) x v c).2=true):(fit (eP q) x v c).2=true:=by
 rw [LQ h hw hv hc] at e
 rw [LQ h' hw' hv hc]
 rw [mY h] at e
 rw [mY h',hn]
 refine iy.mono (by simp) (fun i s s' a b k hk=>?_) e
 rw [List.getElem?_map] at a b
 cases hi:(List.filter (fun n=>ng x n.labels) (List.filter (·.up) p.nodes))[i]? with
 |none=>rw [hi] at a;cases a
 |some n=>
  rw [hi] at a b
  simp only [Option.map_some,osI] at a b
  subst a;subst b
  have hm:=(List.mem_filter.1 (List.mem_filter.1 (List.mem_of_getElem? hi)).1).1
  have h1:=LP h hw hm hk
  have h2:=LP h' hw' (n:=n) (by rw [hn];exact hm) hk
  have h3:=hu n.name k hk
  simp only [iQ]
  rw [h1,h2];omega
theorem Bf {s:bg} (h:s.ok) {p:aQ} {v:bO}:(cY s.tree p v).2=0↔named p=true∧(∀q∈above p,∃e∈s.tree,e.path=q)∧∀e∈s.tree,e.path∈above p→∀k<4,gQ k e.path s.av+vk k v≤vk k e.eU:=by
 have hz:∀e∈s.tree,(fJ v e).2=0↔∀k<4,gQ k e.path s.av+vk k v≤vk k e.eU:=by
  intro e he
  rw [oN,nR]
  constructor
  ·rintro ⟨h1,h2⟩ k hk
   have h3:=mo.1 h2 k hk
   rw [oL (nR.2 h1) hk,h.used e he k hk] at h3
   exact h3
  intro h1
  have h2:∀k<4,vk k e.used+vk k v<18446744073709551616:=fun k hk=>by
   have a:=h1 k hk;have b:=(Jk (h.tree.w e he).1 hk).2
   rw [h.used e he k hk];omega
  refine ⟨h2,mo.2 fun k hk=>?_⟩
  rw [oL (nR.2 h2) hk,h.used e he k hk]
  exact h1 k hk
 unfold cY
 rcases qq (fJ v) h.tree.xM p with ⟨_,e2,e3⟩|⟨e,h1,h2,h3⟩
 ·refine ⟨fun g=>absurd g e2,fun ⟨g1,g2,g3⟩=>?_⟩
  rcases e3 with e3|⟨q,hq,e3⟩|⟨e,he,hp,e3⟩
  ·rw [g1] at e3;cases e3
  ·obtain ⟨e,he,hp⟩:=g2 q hq;exact absurd hp (e3 e he)
  exact absurd ((hz e he).2 (g3 e he hp)) e3
 rw [e]
 exact ⟨fun _=>⟨h1,h2,fun e he hp=>(hz e he).1 (h3 e he hp)⟩,fun _=>rfl⟩
structure QR (s t:bg):Prop where
 nodes:t.bf.nodes=s.bf.nodes
 places:∀n,∀k<4,gw k (here n t.bf.places)≤gw k (here n s.bf.places)
 tree:cg s.tree t.tree
 less:∀p,∀k<4,gQ k p t.av≤gQ k p s.av
theorem HK {s t:bg} (h:s.ok) (h':t.ok) (g:QR s t) {p:aQ} {v:bO} (e:(cY s.tree p v).2=0):(cY t.tree p v).2=0:=by
 rw [Bf h] at e
 rw [Bf h']
 obtain ⟨e1,e2,e3⟩:=e
 refine ⟨e1,fun q hq=>?_,fun x hx hp k hk=>?_⟩
 ·obtain ⟨e,he,hp⟩:=e2 q hq
  obtain ⟨x,hx,h1⟩:=g.tree.mem he
  exact ⟨x,hx,by rw [h1,hp]⟩
 obtain ⟨e,he,h1,h2⟩:=g.tree.back hx
 have a:=e3 e he (by rw [←h1];exact hp) k hk
 have b:=g.less x.path k hk
 rw [h2];rw [←h1] at a;omega
def Room (s:bg) (j:Jb):Prop:=(fit (eP s.bf) j.x.ct j.x.gu j.x.count).2=true∧(cY s.tree j.x.path j.tot).2=0
theorem Room.mono {s t:bg} (h:s.ok) (h':t.ok) (g:QR s t) {j:Jb} (hc:eO j.x=0) (hv:j.x.gu.w) (r:Room s j):Room t j:=by
 have BC:=(dh.1 hc).2.1
 exact ⟨QO h.bf h.gR h'.bf h'.gR g.nodes g.places hv (by omega) r.1,HK h h' g r.2⟩
theorem Dc {s:bg} (h:s.ok) {i:Nat} {j:Jb} (hj:s.av[i]?=some j) (hr:j.runs=false):(gi s j.id).2=true↔Room s j:=by
 obtain ⟨_,_,h1⟩:=fq h.ids hj
 have h2:=(dh.1 (h.pe j (List.mem_of_getElem? hj)).1).2.2.2.2.2
 unfold gi ic eR
 rw [h1]
 simp only [hr,h2,Bool.not_false,Bool.and_true,Bool.not_true,Bool.false_or,Room]
 cases h3:(fit (eP s.bf) j.x.ct j.x.gu j.x.count).2<;>by_cases h4:(cY s.tree j.x.path (cU j.x).1).2=0<;>simp [h4]
theorem QS {s:bg} {id:Int} (h:(eR s id).2=false):gi s id=([],false):=by
 unfold gi ic;rw [h];rfl
def cA (l:List Int) (j:Jb):Jb:=if j.runs=true∧j.id∈l then j.halted else j
theorem cZ (l:List Int) (j:Jb):(cA l j).id=j.id∧(cA l j).x=j.x:=by unfold cA;split<;>exact ⟨rfl,rfl⟩
theorem fw (l:List Int) (j:Jb):(cA l j).runs=true↔j.runs=true∧j.id ∉ l:=by
 unfold cA
 split
 ·rename_i h;simp [h.2]
 rename_i h;exact ⟨fun g=>⟨g,fun m=>h ⟨g,m⟩⟩,fun g=>g.1⟩
theorem Kf (l m:List Int) (j:Jb):cA m (cA l j)=cA (l++m) j:=by
 unfold cA
 by_cases h1:j.runs=true∧j.id∈l
 ·rw [if_pos h1,if_neg (by simp),if_pos ⟨h1.1,by simp [h1.2]⟩]
 rw [if_neg h1]
 by_cases h2:j.runs=true∧j.id∈m
 ·rw [if_pos h2,if_pos ⟨h2.1,by simp [h2.2]⟩]
 rw [if_neg h2,if_neg (by rintro ⟨a,b⟩;rcases List.mem_append.1 b with b|b;exact h1 ⟨a,b⟩;exact h2 ⟨a,b⟩)]
structure jK (s:bg) (l:List Int) (t:bg):Prop where
 ok:t.ok
 av:t.av=s.av.map (cA l)
 nodes:t.bf.nodes=s.bf.nodes
 places:t.bf.places=s.bf.places.filter fun x=>!decide (x.bK∈l)
 tree:cg s.tree t.tree
theorem jK.nil {s:bg} (h:s.ok):jK s [] s where
 ok:=h
 av:=by rw [show cA []=id from funext fun j=>by simp [cA],List.map_id]
 nodes:=rfl
 places:=(List.filter_eq_self.2 fun x _=>by simp).symm
 tree:=cg.refl _
theorem jK.app {s t u:bg} {l m:List Int} (h:jK s l t) (g:jK t m u):jK s (l++m) u where
 ok:=g.ok
 av:=by rw [g.av,h.av,List.map_map];exact List.map_congr_left fun j _=>Kf l m j
 nodes:=by rw [g.nodes,h.nodes]
 places:=by
  rw [g.places,h.places,List.filter_filter]
  refine List.filter_congr fun x _=>?_
  by_cases h1:x.bK∈l<;>by_cases h2:x.bK∈m<;>simp [h1,h2]
 tree:=h.tree.trans g.tree
theorem De {s:bg} (h:s.ok) {id:Int} (hn:∀j∈s.av,j.id=id→j.runs=false):jK s [id] s where
 ok:=h
 av:=by
  conv=>lhs;rw [←List.map_id s.av]
  refine List.map_congr_left fun j hj=>?_
  unfold cA
  rw [if_neg]
  ·rfl
  rintro ⟨a,b⟩
  rw [hn j hj (by simpa using b)] at a;cases a
 nodes:=rfl
 places:=by
  refine (List.filter_eq_self.2 fun x hx=>?_).symm
  obtain ⟨j,hj,hr,he,_⟩:=h.places x hx
  simp only [List.mem_singleton,Bool.not_eq_true',decide_eq_false_iff_not]
  intro e
  rw [hn j hj (by rw [he,e])] at hr;cases hr
 tree:=cg.refl _
theorem NC {s:bg} (h:s.ok) (id kind:Int):jK s [id] (gB s id kind).1:=by
 cases hf:s.av.findIdx? (fun j=>decide (j.id=id)) with
 |none=>
  have e:(gB s id kind).1=s:=by unfold gB;rw [hf]
  rw [e]
  rw [List.findIdx?_eq_none_iff] at hf
  exact De h fun j hj he=>by have:=hf j hj;simp [he] at this
 |some i=>
  obtain ⟨j,hj,he,hd⟩:=nt hf
  subst he
  cases hr:j.runs with
  |false=>
   have e:(gB s j.id kind).1=s:=by unfold gB;rw [hf];simp only;rw [hd,hr];rfl
   rw [e]
   exact De h fun x hx Rf=>by rw [c6 h.ids hx (List.mem_of_getElem? hj) Rf,hr]
  |true=>
   obtain ⟨T,Q,h1,h2⟩:=AU h hj hr kind
   have hok:=h.stop j.id kind
   rw [h2] at hok ⊢
   refine ⟨hok,?_,rfl,?_,h1⟩
   ·show s.av.set i j.halted=_
    refine List.ext_getElem? fun k=>?_
    rw [List.getElem?_map,List.getElem?_set]
    by_cases e:i=k
    ·subst e
     rw [if_pos rfl,hj,if_pos (List.getElem?_eq_some_iff.1 hj).1]
     simp [cA,hr]
    rw [if_neg e]
    cases hk:s.av[k]? with
    |none=>rfl
    |some x=>
     have:x.id≠j.id:=fun c=>e (uY h.ids hj hk c.symm)
     simp [cA,this]
   show (qo s.bf j.id).places=_
   simp [qo]
theorem dw {s:bg} (h:s.ok):∀l:List Int,jK s l (aI s l):=by
 intro l
 induction l generalizing s with
 |nil=>exact jK.nil h
 |cons id l ih=>
  have h1:=NC h id 5
  exact h1.app (ih h1.ok)
theorem cg.VF {s t u:List bw} (h:cg s t) (g:cg s u):cg t u where
 len:=by rw [g.len,h.len]
 at_:=by
  intro i e hi
  have hl:=(List.getElem?_eq_some_iff.1 hi).1
  rw [h.len] at hl
  obtain ⟨x,h1,h2,h3⟩:=h.at_ i s[i] (List.getElem?_eq_getElem hl)
  obtain ⟨y,g1,g2,g3⟩:=g.at_ i s[i] (List.getElem?_eq_getElem hl)
  rw [hi] at h1;cases h1
  exact ⟨y,g1,by rw [g2,h2],by rw [g3,h3]⟩
theorem oV {α:Type} {p q:α→Bool} (h:∀x,p x=true→q x=true):∀l:List α,(l.filter p).Sublist (l.filter q)
 |[]=>List.Sublist.slnil
 |x::r=>by
  rw [List.filter_cons,List.filter_cons]
  cases hp:p x
  ·cases hq:q x
   ·simpa using oV h r
   simpa using (oV h r).cons x
  rw [h x hp]
  simpa using (oV h r).cons_cons x
theorem jK.X6 {s t u:bg} {l m:List Int} (h:jK s l t) (g:jK s m u) (hl:∀x∈l,x∈m):QR t u where
 nodes:=by rw [h.nodes,g.nodes]
 places:=by
  intro n k hk
  rw [h.places,g.places]
  refine Aq ?_
  unfold here
  refine List.Sublist.filter _ (oV (fun x hx=>?_) _)
  simp only [Bool.not_eq_true',decide_eq_false_iff_not] at*
  exact fun c=>hx (hl _ c)
 tree:=h.tree.VF g.tree
 less:=by
  intro p k hk
  rw [h.av,g.av]
  have:∀r:List Jb,gQ k p (r.map (cA m))≤gQ k p (r.map (cA l)):=by
   intro r
   induction r with
   |nil=>exact Nat.le_refl _
   |cons j r ih=>
    rw [List.map_cons,List.map_cons,gv,gv]
    refine Nat.add_le_add ?_ ih
    unfold fO
    by_cases c:(cA m j).runs=true∧p∈above (cA m j).x.path
    ·obtain ⟨c1,c2⟩:=c
     rw [fw] at c1
     have d1:(cA l j).runs=true:=(fw l j).2 ⟨c1.1,fun c=>c1.2 (hl _ c)⟩
     have e1:(cA l j).x=(cA m j).x:=by rw [(cZ l j).2,(cZ m j).2]
     rw [if_pos ⟨(fw m j).2 c1,c2⟩,if_pos ⟨d1,by rw [e1];exact c2⟩]
     unfold Jb.tot;rw [e1];exact Nat.le_refl _
    rw [if_neg c];exact Nat.zero_le _
  exact this s.av
theorem jK.fits {s t:bg} {l:List Int} (g:jK s l t) {i:Nat} {j:Jb} (hj:s.av[i]?=some j) (hr:j.runs=false):(gi t j.id).2=true↔Room t j:=by
 refine Dc g.ok (i:=i) ?_ hr
 rw [g.av,List.getElem?_map,hj]
 simp [cA,hr]
theorem HL {s:bg} (h:s.ok) {i:Nat} {j:Jb} (hj:s.av[i]?=some j) (hr:j.runs=false) {l m:List Int} (hl:∀x∈l,x∈m) (e:(fW s j.id l).2=true):(fW s j.id m).2=true:=by
 have h1:=dw h l
 have h2:=dw h m
 have hc:=h.pe j (List.mem_of_getElem? hj)
 unfold fW at*
 rw [h1.fits hj hr] at e
 rw [h2.fits hj hr]
 exact Room.mono h1.ok h2.ok (h1.X6 h2 hl) hc.1 hc.2.1 e
end Dem
end
section
open Go
namespace Dem
section
variable {s:bg} {id:Int}
theorem yg (all:List Int):∀n k:Nat,(match kR s id all n k with|none=>∀m,k≤m→m<k+n→(fW s id (all.take m)).2=false|some (l,nodes)=>∃m,k≤m∧m<k+n∧l=all.take m∧fW s id l=(nodes,true)∧∀m',k≤m'→m'<m→(fW s id (all.take m')).2=false)
 |0,k=>by simp only [kR];intro m h1 h2;omega
 |n+1,k=>by
  simp only [kR]
  by_cases c:(fW s id (all.take k)).2=true
  ·rw [if_pos c]
   exact ⟨k,Nat.le_refl _,by omega,rfl,by rw [←c],fun m' h1 h2=>by omega⟩
  rw [if_neg c]
  have ih:=yg all n (k+1)
  cases h:kR s id all n (k+1) with
  |none=>
   rw [h] at ih
   intro m h1 h2
   by_cases e:m=k
   ·subst e;simpa using c
   exact ih m (by omega) (by omega)
  |some x=>
   obtain ⟨l,nodes⟩:=x
   rw [h] at ih
   obtain ⟨m,h1,h2,h3,h4,h5⟩:=ih
   refine ⟨m,by omega,by omega,h3,h4,fun m' g1 g2=>?_⟩
   by_cases e:m'=k
   ·subst e;simpa using c
   exact h5 m' (by omega) g2
theorem ND {l:List Int} {i k:Nat} (h:i<k):∀x∈(l.eraseIdx k).eraseIdx i,x∈l.eraseIdx i:=by
 intro x hx
 rw [List.mem_eraseIdx_iff_getElem?] at hx ⊢
 obtain ⟨a,ha,e⟩:=hx
 rw [List.getElem?_eraseIdx] at e
 split at e
 ·exact ⟨a,ha,e⟩
 exact ⟨a+1,by omega,e⟩
theorem qJ (hm:∀l m:List Int,(∀x∈l,x∈m)→(fW s id l).2=true→(fW s id m).2=true):∀(n k:Nat) (l:List Int) (nodes:List aQ),l.length≤k+n→fW s id l=(nodes,true)→
 (∀i,i<k→i<l.length→(fW s id (l.eraseIdx i)).2=false)→
 fW s id (gm s id n k l nodes).1=((gm s id n k l nodes).2,true)∧(gm s id n k l nodes).1.Sublist l∧∀i<(gm s id n k l nodes).1.length,(fW s id ((gm s id n k l nodes).1.eraseIdx i)).2=false
 |0,k,l,nodes,hl,he,hn=>by
  simp only [gm]
  exact ⟨he,List.Sublist.refl _,fun i hi=>hn i (by omega) hi⟩
 |n+1,k,l,nodes,hl,he,hn=>by
  simp only [gm]
  by_cases c:k<l.length
  ·rw [if_pos c]
   by_cases d:(fW s id (l.eraseIdx k)).2=true
   ·rw [if_pos d]
    have e:fW s id (l.eraseIdx k)=((fW s id (l.eraseIdx k)).1,true):=by rw [←d]
    have g:=qJ hm n k (l.eraseIdx k) _ (by rw [List.length_eraseIdx,if_pos c];omega) e (fun i hi hi2=>by
     cases q:(fW s id ((l.eraseIdx k).eraseIdx i)).2 with
     |false=>rfl
     |true=>
      have:=hm _ _ (ND hi) q
      rw [hn i hi (by omega)] at this;cases this)
    exact ⟨g.1,g.2.1.trans (List.eraseIdx_sublist _ _),g.2.2⟩
   rw [if_neg d]
   refine qJ hm n (k+1) l nodes (by omega) he fun i hi hi2=>?_
   by_cases e:i=k
   ·subst e;simpa using d
   exact hn i (by omega) hi2
  rw [if_neg c]
  exact ⟨he,List.Sublist.refl _,fun i hi=>hn i (by have:i<l.length:=hi;omega) hi⟩
theorem sA (hm:∀l m:List Int,(∀x∈l,x∈m)→(fW s id l).2=true→(fW s id m).2=true):
 ((aC s id).2.2=false∧(aC s id).1=[]∧(aC s id).2.1=[]∧(fW s id (cq s id)).2=false)∨
 ((
  aC s id).2.2=true∧fW s id (aC s id).1=((aC s id).2.1,true)∧(∀x∈(aC s id).1,x∈cq s id)∧(aC s id).1.Sublist (cq s id)∧(fW s id (cq s id)).2=true∧
  ((fW s id []).2=true→(aC s id).1=[])∧∀i<(aC s id).1.length,(fW s id ((aC s id).1.eraseIdx i)).2=false):=by
 have h:=yg (s:=s) (id:=id) (cq s id) ((cq s id).length+1) 0
 unfold aC
 cases e:kR s id (cq s id) ((cq s id).length+1) 0 with
 |none=>
  rw [e] at h
  refine .inl ⟨rfl,rfl,rfl,?_⟩
  have:=h (cq s id).length (Nat.zero_le _) (by omega)
  rwa [List.take_length] at this
 |some x=>
  obtain ⟨l,nodes⟩:=x
  rw [e] at h
  obtain ⟨m,_,h2,rfl,h4,h5⟩:=h
  obtain ⟨g1,g2,g3⟩:=qJ hm (((cq s id).take m).length+1) 0 ((cq s id).take m) nodes (by omega) h4 (fun i hi=>by omega)
  refine .inr ⟨rfl,g1,fun x hx=>List.mem_of_mem_take (g2.subset hx),g2.trans (List.take_sublist _ _),hm _ _ (fun x hx=>List.mem_of_mem_take hx) (by rw [h4]),fun hz=>?_,g3⟩
  have:m=0:=by
   cases m with
   |zero=>rfl
   |succ m=>have:=h5 0 (Nat.le_refl _) (by omega);rw [List.take_zero] at this;rw [hz] at this;cases this
  subst this
  exact List.eq_nil_of_length_eq_zero (by have:=g2.length_le;simp only [List.take_zero,List.length_nil] at this ⊢;omega)
end
theorem EH {s:bg} (h:s.ok) {id:Int} (hn:∀j∈s.av,j.id≠id) (l:List Int):fW s id l=([],false):=by
 have g:=dw h l
 refine QS ?_
 have:(bI (aI s l).av id).2=false:=by
  rw [g.av]
  unfold bI
  cases e:(s.av.map (cA l)).find? (fun j=>decide (j.id=id)) with
  |none=>rfl
  |some x=>
   have h1:=List.mem_of_find?_eq_some e
   have h2:=List.find?_some e
   obtain ⟨j,hj,rfl⟩:=List.mem_map.1 h1
   rw [decide_eq_true_eq,(cZ l j).1] at h2
   exact absurd h2 (hn j hj)
 unfold eR;rw [this];rfl
theorem HM {s:bg} (h:s.ok) {id:Int} (hw:(∃j∈s.av,j.id=id∧j.runs=false)∨∀j∈s.av,j.id≠id):
 ∀l m:List Int,(∀x∈l,x∈m)→(fW s id l).2=true→(fW s id m).2=true:=by
 intro l m hl e
 rcases hw with ⟨j,hj,rfl,hr⟩|hn
 ·obtain ⟨i,hi⟩:=List.getElem?_of_mem hj
  exact HL h hi hr hl e
 rw [EH h hn] at e;cases e
end Dem
end
