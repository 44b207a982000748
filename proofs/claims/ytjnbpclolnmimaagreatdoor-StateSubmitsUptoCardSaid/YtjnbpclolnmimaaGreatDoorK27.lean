/- Parts of a proof, joined. -/
import Derived.Test.YtjnbpclolnmimaaGreatDoorK26
set_option linter.all false
set_option maxRecDepth 100000
set_option maxHeartbeats 4000000
open Go Dem Go.Proofs
namespace Dem
variable {t:Th}
def DW (s:aA) (p:Int):Option (Ask×Int):=
 match aR s p 98 with
 |⟨path,p1,true⟩=>match iB s p1 with
  |⟨v,p2,true⟩=>match bE s p2 with
   |⟨n,p3,true⟩=>match bE s p3 with
    |⟨pr,p4,true⟩=>match bE s p4 with
     |⟨tk,p5,true⟩=>match Dh s p5 with
      |some (sl,e)=>if n≤100∧pr≤100∧tk≤100∧cI ⟨path,v,n,pr,tk,sl⟩=0 then some (⟨path,v,n,pr,tk,sl⟩,e) else none
      |none=>none
     |_=>none
    |_=>none
   |_=>none
  |_=>none
 |_=>none
theorem B7 {s:aA} {p e:Int} {x:Ask} (h:DW s p=some (x,e)):∃p1 p2 p3 p4 p5,aR s p 98=⟨x.path,p1,true⟩∧iB s p1=⟨x.fZ,p2,true⟩∧bE s p2=⟨x.count,p3,true⟩∧bE s p3=⟨x.prio,p4,true⟩∧bE s p4=⟨x.dO,p5,true⟩∧
 Dh s p5=some (x.bX,e)∧x.count≤100∧x.prio≤100∧x.dO≤100∧cI x=0:=by
 unfold DW at h
 split at h
 ·rename_i path p1 e1
  split at h
  ·rename_i v p2 e2
   split at h
   ·rename_i n p3 e3
    split at h
    ·rename_i pr p4 e4
     split at h
     ·rename_i tk p5 e5
      split at h
      ·rename_i sl e' e6
       split at h
       ·rename_i g
        simp only [osI,Prod.mk.injEq] at h
        obtain ⟨rfl,rfl⟩:=h
        exact ⟨p1,p2,p3,p4,p5,e1,e2,e3,e4,e5,e6,g.1,g.2.1,g.2.2.1,g.2.2.2⟩
       cases h
      cases h
     cases h
    cases h
   cases h
  cases h
 cases h
theorem RC {F:Nat→List AV→List ar→ff→List ar→Prop} {T:Nat→Option TI} {G:Nat→Option (List D)} {N:Nat} {ops:List Oper} {Q:Ex→St→Prop} {S:List St} {k:Nat} {l:List Nd} (h:∀Q:Ex→St→Prop,AK t F T G N ops Q S k l):AK t F T G N ops Q S k l:=h Q
theorem WS (ht:TT t) (s:aA) {p e a b c d n pr tk:Int} {path:aA} {sl:List Term} {sr:List (List D)} (hs:s.length<9223372036854775000) (hp:p<9223372036854775808) (US:sr=sl.map Term.cells)
 (gD:(⟨path,⟨a,b,c,d⟩,n,pr,tk,sl⟩:Ask).sm) (h:DW s p=some (⟨path,⟨a,b,c,d⟩,n,pr,tk,sl⟩,e)):
 FC 184 [ST s,bc p] [] (.ret (.dA [.agg [ST path,ax a,ax b,ax c,ax d,bc n,bc pr,bc tk,SL sr],bc e,BL true])) []:=by
 obtain ⟨p1,p2,p3,p4,p5,e0,e1,e2,e3,e4,e5,l1,l2,l3,ec⟩:=B7 h
 simp only at e0 e1 e2 e3 e4 e5 l1 l2 l3
 have b0:=dg (s:=s) (p:=p) (m:=98) hs
 rw [e0] at b0
 simp only at b0
 have b1:=sj (s:=s) (p:=p1)
 rw [e1] at b1
 simp only at b1
 have b2:=fj e2
 have b3:=fj e3
 have b4:=fj e4
 have w1:IntKind.i64.wrap n=n:=by rw [bY (by omega) (by omega)]
 have w2:IntKind.i64.wrap pr=pr:=by rw [bY (by omega) (by omega)]
 have w3:IntKind.i64.wrap tk=tk:=by rw [bY (by omega) (by omega)]
 refine bA ht (aB:=[]) Tryz.func184 rfl rfl (N:=83) rfl rfl (n:=0) rfl rfl ?_
 cbv
 have eE:sr.length=sl.length:=by rw [US,lgM]
 refine ay trv (gC ht _ _ _ ‹_› ‹_› (by omega)) trv rfl rfl (fun r0 bF=>?_)
 simp only [ht] at bF
 (rw [e0] at bF;subst bF)
 cbv
 refine ai (fun h1=>?_) (fun h1=>?_)
 ·simp [ht,aa,eE] at h1
 simp [ht,aa,eE] at h1
 cbv
 refine ay trv (v7 ht _ _ ‹_› (by ((try simp only [aa] at*);omega))) trv rfl rfl (fun r2 cU=>?_)
 simp only [ht] at cU
 (rw [e1] at cU;subst cU)
 cbv
 refine ai (fun h3=>?_) (fun h3=>?_)
 ·simp [ht,aa,eE] at h3
 simp [ht,aa,eE] at h3
 cbv
 obtain ⟨J4,FB⟩:∃J4:Nat→Int×Int×Int×Int×Int→Prop,∀m a0 i x0 x1 x2,J4 m (a0,i,x0,x1,x2)↔((i=0∧m=3∧a0=p2∧x0=0∧x1=0∧x2=0)∨(i=1∧m=2∧a0=p3∧x0=n∧x1=0∧x2=0)∨(i=2∧m=1∧a0=p4∧x0=n∧x1=pr∧x2=0)∨(i=3∧m=0∧a0=p5∧x0=n∧x1=pr∧x2=tk)):=⟨fun m v=>match v with|(a0,i,x0,x1,x2)=>((i=0∧m=3∧a0=p2∧x0=0∧x1=0∧x2=0)∨(i=1∧m=2∧a0=p3∧x0=n∧x1=0∧x2=0)∨(i=2∧m=1∧a0=p4∧x0=n∧x1=pr∧x2=0)∨(i=3∧m=0∧a0=p5∧x0=n∧x1=pr∧x2=tk)),fun _ _ _ _ _ _=>Iff.rfl⟩
 refine bg ⟨[0,1,4,7,31],[],[]⟩ (σ:=Int×Int×Int×Int×Int) (fun v=>[(1,.d (.int .i64 (t _ fun _=>v.1))),(31,.d (.int .i64 (v.2.1)))]) (fun v=>[(0,.var [AV.d (D.str path),AV.d (D.int IntKind.u64 a),AV.d (D.int IntKind.u64 b),AV.d (D.int IntKind.u64 c),AV.d (D.int IntKind.u64 d),AV.d (D.int IntKind.i64 0),AV.d (D.int IntKind.i64 0),AV.d (D.int IntKind.i64 0),AV.cl []]),(1,.var [.d (.int .u64 (t _ fun _=>v.2.2.1)),.d (.int .u64 (t _ fun _=>v.2.2.2.1)),.d (.int .u64 (t _ fun _=>v.2.2.2.2))])]) J4 ?_
 cbv
 refine aC ⟨3,(_,_,_,_,_),(FB _ _ _ _ _ _).2 ?_,by simp only [ht];rfl,?_⟩
 ·exact .inl ⟨rfl,rfl,rfl,rfl,rfl,rfl⟩
 rintro m ⟨a0,i,x0,x1,x2⟩ hj
 replace hj:=(FB _ _ _ _ _ _).1 hj
 (rcases hj with ⟨rfl,jm,rfl,rfl,rfl,rfl⟩|⟨rfl,jm,rfl,rfl,rfl,rfl⟩|⟨rfl,jm,rfl,rfl,rfl,rfl⟩|⟨rfl,jm,rfl,rfl,rfl,rfl⟩)
 ·cbv
  refine ai (fun h5=>?_) (fun h5=>?_)
  ·simp [ht,aa,eE] at h5
   cbv
   refine ay trv (fh ht _ _ ‹_› (by (simp only [ht];((try simp only [aa] at*);omega)))) trv rfl rfl (fun r6 gk=>?_)
   simp only [ht] at gk
   ((rw [e2] at gk;subst gk))
   cbv
   refine ⟨?_,?_⟩
   ·(simp only [ht,aa] at*;omega)
   iterate 4 refine gI (by simp [ht,bq]) ?_
   refine pI (by simp [ht,bq]) ?_
   refine ai (fun h7=>?_) (fun h7=>?_)
   ·simp [ht,aa,eE] at h7
    omega
   simp [ht,aa,eE] at h7
   cbv
   refine bu (_,_,_,_,_) (by simp only [ht];rfl) (m-1) ?_ ((FB _ _ _ _ _ _).2 ?_)
   ·omega
   simp only [ht,aa]
   exact .inr (.inl ⟨by rw [bY (by decide) (by decide)];rfl,by omega,trv,trv,trv,trv⟩)
  simp [ht,aa,eE] at h5
 ·cbv
  refine ai (fun h8=>?_) (fun h8=>?_)
  ·simp [ht,aa,eE] at h8
   cbv
   refine ay trv (fh ht _ _ ‹_› (by (simp only [ht];((try simp only [aa] at*);omega)))) trv rfl rfl (fun r9 dz=>?_)
   simp only [ht] at dz
   ((rw [e3] at dz;subst dz))
   cbv
   refine ⟨?_,?_⟩
   ·(simp only [ht,aa] at*;omega)
   iterate 4 refine gI (by simp [ht,bq]) ?_
   refine pI (by simp [ht,bq]) ?_
   refine ai (fun h10=>?_) (fun h10=>?_)
   ·simp [ht,aa,eE] at h10
    omega
   simp [ht,aa,eE] at h10
   cbv
   refine bu (_,_,_,_,_) (by simp only [ht];rfl) (m-1) ?_ ((FB _ _ _ _ _ _).2 ?_)
   ·omega
   simp only [ht,aa]
   exact .inr (.inr (.inl ⟨by rw [bY (by decide) (by decide)];rfl,by omega,trv,trv,trv,trv⟩))
  simp [ht,aa,eE] at h8
 ·cbv
  refine ai (fun h11=>?_) (fun h11=>?_)
  ·simp [ht,aa,eE] at h11
   cbv
   refine ay trv (fh ht _ _ ‹_› (by (simp only [ht];((try simp only [aa] at*);omega)))) trv rfl rfl (fun Wv oB=>?_)
   simp only [ht] at oB
   ((rw [e4] at oB;subst oB))
   cbv
   refine ⟨?_,?_⟩
   ·(simp only [ht,aa] at*;omega)
   iterate 4 refine gI (by simp [ht,bq]) ?_
   refine pI (by simp [ht,bq]) ?_
   refine ai (fun KJ=>?_) (fun KJ=>?_)
   ·simp [ht,aa,eE] at KJ
    omega
   simp [ht,aa,eE] at KJ
   cbv
   refine bu (_,_,_,_,_) (by simp only [ht];rfl) (m-1) ?_ ((FB _ _ _ _ _ _).2 ?_)
   ·omega
   simp only [ht,aa]
   exact .inr (.inr (.inr ⟨by rw [bY (by decide) (by decide)];rfl,by omega,trv,trv,trv,trv⟩))
  simp [ht,aa,eE] at h11
 cbv
 refine ai (fun QL=>?_) (fun QL=>?_)
 ·simp [ht,aa,eE] at QL
 simp [ht,aa,eE] at QL
 cbv
 (apply UF (cj 15 1 [(0,0)]::cj 15 8 [(0,3)]::cj 15 64 [(0,6)]::cj 15 3 [(1,1)]::cj 15 9 [(1,3),(2,0)]::cj 15 24 [(2,4)]::cj 15 65 [(1,6),(3,0)]::cj 15 72 [(2,6),(3,3)]::cj 15 192 [(3,7)]::cj 15 7 [(4,2)]::cj 15 11 [(4,3),(5,1)]::cj 15 25 [(5,4),(6,0)]::cj 15 56 [(6,5)]::cj 15 67 [(4,6),(7,1)]::cj 15 73 [(5,6),(7,3),(8,0)]::cj 15 88 [(6,6),(8,4)]::cj 15 193 [(7,7),(9,0)]::cj 15 200 [(8,7),(9,3)]::cj 15 448 [(9,8)]::cj 15 15 [(10,3),(11,2)]::cj 15 27 [(11,4),(12,1)]::cj 15 57 [(12,5),(13,0)]::cj 15 71 [(10,6),(14,2)]::cj 15 75 [(11,6),(14,3),(15,1)]::cj 15 89 [(12,6),(15,4),(16,0)]::cj 15 120 [(13,6),(16,5)]::cj 15 195 [(14,7),(17,1)]::cj 15 201 [(15,7),(17,3),(18,0)]::cj 15 216 [(16,7),(18,4)]::cj 15 449 [(17,8),(19,0)]::cj 15 456 [(18,8),(19,3)]::cj 15 519 [(10,9)]::cj 15 31 [(20,4),(21,2)]::cj 15 59 [(21,5),(22,1)]::cj 15 79 [(20,6),(23,3),(24,2)]::cj 15 91 [(21,6),(24,4),(25,1)]::cj 15 121 [(22,6),(25,5),(26,0)]::cj 15 199 [(23,7),(27,2)]::cj 15 203 [(24,7),(27,3),(28,1)]::cj 15 217 [(25,7),(28,4),(29,0)]::cj 15 248 [(26,7),(29,5)]::cj 15 451 [(27,8),(30,1)]::cj 15 457 [(28,8),(30,3),(31,0)]::cj 15 472 [(29,8),(31,4)]::cj 15 527 [(20,9),(32,3)]::cj 15 583 [(23,9),(32,6)]::cj 15 1543 [(32,10)]::cj 15 63 [(33,5),(34,2)]::cj 15 95 [(33,6),(35,4),(36,2)]::cj 15 123 [(34,6),(36,5),(37,1)]::cj 15 207 [(35,7),(38,3),(39,2)]::cj 15 219 [(36,7),(39,4),(40,1)]::cj 15 249 [(37,7),(40,5),(41,0)]::cj 15 455 [(38,8),(42,2)]::cj 15 459 [(39,8),(42,3),(43,1)]::cj 15 473 [(40,8),(43,4),(44,0)]::cj 15 504 [(41,8),(44,5)]::cj 15 543 [(33,9),(45,4)]::cj 15 591 [(35,9),(45,6),(46,3)]::cj 15 711 [(38,9),(46,7)]::cj 15 1551 [(45,10),(47,3)]::cj 15 1607 [(46,10),(47,6)]::cj 15 127 [(48,6),(49,5),(50,2)]::cj 15 223 [(49,7),(51,4),(52,2)]::cj 15 251 [(50,7),(52,5),(53,1)]::cj 15 463 [(51,8),(54,3),(55,2)]::cj 15 475 [(52,8),(55,4),(56,1)]::cj 15 505 [(53,8),(56,5),(57,0)]::cj 15 575 [(48,9),(58,5)]::cj 15 607 [(49,9),(58,6),(59,4)]::cj 15 719 [(51,9),(59,7),(60,3)]::cj 15 967 [(54,9),(60,8)]::cj 15 1567 [(58,10),(61,4)]::cj 15 1615 [(59,10),(61,6),(62,3)]::cj 15 1735 [(60,10),(62,7)]::cj 15 255 [(63,7),(64,5),(65,2)]::cj 15 479 [(64,8),(66,4),(67,2)]::cj 15 507 [(65,8),(67,5),(68,1)]::cj 15 639 [(63,9),(69,6),(70,5)]::cj 15 735 [(64,9),(70,7),(71,4)]::cj 15 975 [(66,9),(71,8),(72,3)]::cj 15 1599 [(69,10),(73,5)]::cj 15 1631 [(70,10),(73,6),(74,4)]::cj 15 1743 [(71,10),(74,7),(75,3)]::cj 15 1991 [(72,10),(75,8)]::cj 15 511 [(76,8),(77,5),(78,2)]::cj 15 767 [(76,9),(79,7),(80,5)]::cj 15 991 [(77,9),(80,8),(81,4)]::cj 15 1663 [(79,10),(82,6),(83,5)]::cj 15 1759 [(80,10),(83,7),(84,4)]::cj 15 1999 [(81,10),(84,8),(85,3)]::cj 15 3647 [(82,11)]::cj 15 1023 [(86,9),(87,8),(88,5)]::cj 15 1791 [(87,10),(89,7),(90,5)]::cj 15 2015 [(88,10),(90,8),(91,4)]::cj 15 3711 [(89,11),(92,6)]::cj 15 7743 [(92,12)]::cj 15 2047 [(93,10),(94,8),(95,5)]::cj 15 3839 [(94,11),(96,7)]::cj 15 7807 [(96,12),(97,6)]::cj 15 4095 [(98,11),(99,8)]::cj 15 7935 [(99,12),(100,7)]::cj 15 8191 [(101,12),(102,8)]::cj 15 16383 [(103,13)]::cj 15 32767 [(104,14)]::[]) (_::_::_::_::_::_::_::_::_::_::_::_::_::_::_::_::_::_::_::_::_::_::_::_::_::_::_::_::_::_::_::_::_::_::_::_::_::_::_::_::_::_::_::_::_::_::_::_::_::_::_::_::_::_::_::_::_::_::_::_::_::_::_::_::_::_::_::_::_::_::_::_::_::_::_::_::_::_::_::_::_::_::_::_::_::_::_::_::_::_::_::_::_::_::_::_::_::_::_::_::_::_::_::_::_::_::[]);kernel_rfl;(next=>refine Vt.mk rfl (RC fun Q=>?_);repeat (first|((with_reducible apply AK.cons);exact rfl)|(with_reducible exact AK.nil)|((with_reducible apply Mv);focus (cbv;first|done|(refine And.intro ?_ ?_;(next=>simp [ht]);(first|exact rfl|exact True.intro))))|(apply vg.cons;exact rfl)|exact vg.nil));(next=>exact rfl))
 cbv
 (refine GZ trv (WR ht s hs (by simp only [ht];((try simp only [aa] at*);omega)) US gD.2.2.2 (by simp only [ht];exact e5)) trv rfl rfl rfl ?_)
 cbv
 refine gI (by simp [ht,bq]) ?_
 refine aJ (fun g15=>⟨(by (simp [ht];done)),by simp [ht],j9 ht _ _ _ _ _ _ _ _ ‹_› ‹_›⟩) rfl rfl (fun r16 Fq=>?_)
 simp only [ht] at Fq
 (simp only [ht,w1,w2,w3,ec] at Fq;subst Fq)
 cbv
 refine gI (by simp [ht,bq]) ?_
 refine pI (by simp [ht,bq]) ?_
 refine ai (fun h17=>?_) (fun h17=>?_)
 ·simp [ht,aa,eE] at h17
 simp [ht,aa,eE] at h17
 cbv
 (exact ak trv (by simp [ht]) rfl rfl rfl (by simp only [ht,w1,w2,w3]))
end Dem
