/- Parts of a proof, joined. -/
import Derived.Test.YtjnbpclolnmimaaGreatDoorJ19
set_option linter.unusedSimpArgs false
set_option linter.unusedVariables false
set_option maxRecDepth 100000
set_option maxHeartbeats 4000000
open Go Dem Go.Proofs
namespace Dem
variable {t:Th}
def Eh (s:aD) (p:Int):Option (Ask×Int):=
 match aU s p 98 with
 |⟨path,p1,true⟩=>match iI s p1 with
  |⟨v,p2,true⟩=>match bD s p2 with
   |⟨n,p3,true⟩=>match bD s p3 with
    |⟨pr,p4,true⟩=>match bD s p4 with
     |⟨tk,p5,true⟩=>match DS s p5 with
      |some (sl,e)=>if n≤100∧pr≤100∧tk≤100∧cR ⟨path,v,n,pr,tk,sl⟩=0 then some (⟨path,v,n,pr,tk,sl⟩,e) else none
      |none=>none
     |_=>none
    |_=>none
   |_=>none
  |_=>none
 |_=>none
theorem Cp {s:aD} {p e:Int} {x:Ask} (h:Eh s p=some (x,e)):∃p1 p2 p3 p4 p5,aU s p 98=⟨x.path,p1,true⟩∧iI s p1=⟨x.fQ,p2,true⟩∧bD s p2=⟨x.count,p3,true⟩∧bD s p3=⟨x.prio,p4,true⟩∧bD s p4=⟨x.dS,p5,true⟩∧
 DS s p5=some (x.b9,e)∧x.count≤100∧x.prio≤100∧x.dS≤100∧cR x=0:=by
 unfold Eh at h
 split at h
 ·rename_i path p1 e1
  split at h
  ·rename_i v p2 e2
   split at h
   ·rename_i n p3 e3
    split at h
    ·rename_i pr p4 e4
     split at h
     ·rename_i tk p5 e5
      split at h
      ·rename_i sl e' e6
       split at h
       ·rename_i g
        simp only [osI,Prod.mk.injEq] at h
        obtain ⟨rfl,rfl⟩:=h
        exact ⟨p1,p2,p3,p4,p5,e1,e2,e3,e4,e5,e6,g.1,g.2.1,g.2.2.1,g.2.2.2⟩
       cases h
      cases h
     cases h
    cases h
   cases h
  cases h
 cases h
theorem RV {F:Nat→List AV→List ax→fm→List ax→Prop} {T:Nat→Option TI} {G:Nat→Option (List D)} {N:Nat} {ops:List Oper} {Q:Ex→St→Prop} {S:List St} {k:Nat} {l:List Nd} (h:∀Q:Ex→St→Prop,Bn t F T G N ops Q S k l):Bn t F T G N ops Q S k l:=h Q
theorem XC (ht:TT t) (s:aD) {p e a b c d n pr tk:Int} {path:aD} {sl:List Term} {sr:List (List D)} (hs:s.length<9223372036854775000) (hp:p<9223372036854775808) (V2:sr=sl.map Term.cells)
 (fR:(⟨path,⟨a,b,c,d⟩,n,pr,tk,sl⟩:Ask).sm) (h:Eh s p=some (⟨path,⟨a,b,c,d⟩,n,pr,tk,sl⟩,e)):
 FC 184 [ST s,bq p] [] (.ret (.dF [.agg [ST path,az a,az b,az c,az d,bq n,bq pr,bq tk,SL sr],bq e,BL true])) []:=by
 obtain ⟨p1,p2,p3,p4,p5,e0,e1,e2,e3,e4,e5,l1,l2,l3,ec⟩:=Cp h
 simp only at e0 e1 e2 e3 e4 e5 l1 l2 l3
 have b0:=dw (s:=s) (p:=p) (m:=98) hs
 rw [e0] at b0
 simp only at b0
 have b1:=sP (s:=s) (p:=p1)
 rw [e1] at b1
 simp only at b1
 have b2:=fw e2
 have b3:=fw e3
 have b4:=fw e4
 have w1:IntKind.i64.wrap n=n:=by rw [bZ (by omega) (by omega)]
 have w2:IntKind.i64.wrap pr=pr:=by rw [bZ (by omega) (by omega)]
 have w3:IntKind.i64.wrap tk=tk:=by rw [bZ (by omega) (by omega)]
 refine bC ht (aE:=[]) Tryz.func184 (c:=_) rfl rfl (N:=83) rfl (rs:=_) rfl (n:=0) rfl rfl ?_
 cbv
 have eI:sr.length=sl.length:=by rw [V2,lgM]
 refine ay trivial (gJ ht _ _ _ (by assumption) (by assumption) (by omega)) trivial rfl rfl (fun r0 bE=>?_)
 simp only [ht] at bE
 (rw [e0] at bE;subst bE)
 cbv
 refine ai (fun h1=>?_) (fun h1=>?_)
 ·simp [ht,aa,eI] at h1
 simp [ht,aa,eI] at h1
 cbv
 refine ay trivial (wI ht _ _ (by assumption) (by ((try simp only [aa] at*);omega))) trivial rfl rfl (fun r2 cP=>?_)
 simp only [ht] at cP
 (rw [e1] at cP;subst cP)
 cbv
 refine ai (fun h3=>?_) (fun h3=>?_)
 ·simp [ht,aa,eI] at h3
 simp [ht,aa,eI] at h3
 cbv
 obtain ⟨J4,Gh⟩:∃J4:Nat→Int×Int×Int×Int×Int→Prop,∀m a0 i x0 x1 x2,J4 m (a0,i,x0,x1,x2)↔((i=0∧m=3∧a0=p2∧x0=0∧x1=0∧x2=0)∨(i=1∧m=2∧a0=p3∧x0=n∧x1=0∧x2=0)∨(i=2∧m=1∧a0=p4∧x0=n∧x1=pr∧x2=0)∨(i=3∧m=0∧a0=p5∧x0=n∧x1=pr∧x2=tk)):=⟨fun m v=>match v with|(a0,i,x0,x1,x2)=>((i=0∧m=3∧a0=p2∧x0=0∧x1=0∧x2=0)∨(i=1∧m=2∧a0=p3∧x0=n∧x1=0∧x2=0)∨(i=2∧m=1∧a0=p4∧x0=n∧x1=pr∧x2=0)∨(i=3∧m=0∧a0=p5∧x0=n∧x1=pr∧x2=tk)),fun _ _ _ _ _ _=>Iff.rfl⟩
 refine aZ ⟨[0,1,4,7,31],[],[]⟩ (σ:=Int×Int×Int×Int×Int) (fun v=>[(1,.d (.int .i64 (t _ fun _=>v.1))),(31,.d (.int .i64 (v.2.1)))]) (fun v=>[(0,.var [AV.d (D.str path),AV.d (D.int IntKind.u64 a),AV.d (D.int IntKind.u64 b),AV.d (D.int IntKind.u64 c),AV.d (D.int IntKind.u64 d),AV.d (D.int IntKind.i64 0),AV.d (D.int IntKind.i64 0),AV.d (D.int IntKind.i64 0),AV.cl []]),(1,.var [.d (.int .u64 (t _ fun _=>v.2.2.1)),.d (.int .u64 (t _ fun _=>v.2.2.2.1)),.d (.int .u64 (t _ fun _=>v.2.2.2.2))])]) J4 ?_
 cbv
 refine aA ⟨3,(_,_,_,_,_),(Gh _ _ _ _ _ _).2 ?_,by simp only [ht];rfl,?_⟩
 ·exact .inl ⟨rfl,rfl,rfl,rfl,rfl,rfl⟩
 rintro m ⟨a0,i,x0,x1,x2⟩ hj
 replace hj:=(Gh _ _ _ _ _ _).1 hj
 (rcases hj with ⟨rfl,jm,rfl,rfl,rfl,rfl⟩|⟨rfl,jm,rfl,rfl,rfl,rfl⟩|⟨rfl,jm,rfl,rfl,rfl,rfl⟩|⟨rfl,jm,rfl,rfl,rfl,rfl⟩)
 ·cbv
  refine ai (fun h5=>?_) (fun h5=>?_)
  ·simp [ht,aa,eI] at h5
   cbv
   refine ay trivial (fu ht _ _ (by assumption) (by (simp only [ht];((try simp only [aa] at*);omega)))) trivial rfl rfl (fun r6 gv=>?_)
   simp only [ht] at gv
   ((rw [e2] at gv;subst gv))
   cbv
   refine ⟨?_,?_⟩
   ·(simp only [ht,aa] at*;omega)
   iterate 4 refine gI (by simp [ht,ak]) ?_
   refine pI (by simp [ht,ak]) ?_
   refine ai (fun h7=>?_) (fun h7=>?_)
   ·simp [ht,aa,eI] at h7
    omega
   simp [ht,aa,eI] at h7
   cbv
   refine bf (_,_,_,_,_) (by simp only [ht];rfl) (m-1) ?_ ((Gh _ _ _ _ _ _).2 ?_)
   ·omega
   simp only [ht,aa]
   exact .inr (.inl ⟨by rw [bZ (by decide) (by decide)];rfl,by omega,trivial,trivial,trivial,trivial⟩)
  simp [ht,aa,eI] at h5
 ·cbv
  refine ai (fun h8=>?_) (fun h8=>?_)
  ·simp [ht,aa,eI] at h8
   cbv
   refine ay trivial (fu ht _ _ (by assumption) (by (simp only [ht];((try simp only [aa] at*);omega)))) trivial rfl rfl (fun r9 dN=>?_)
   simp only [ht] at dN
   ((rw [e3] at dN;subst dN))
   cbv
   refine ⟨?_,?_⟩
   ·(simp only [ht,aa] at*;omega)
   iterate 4 refine gI (by simp [ht,ak]) ?_
   refine pI (by simp [ht,ak]) ?_
   refine ai (fun h10=>?_) (fun h10=>?_)
   ·simp [ht,aa,eI] at h10
    omega
   simp [ht,aa,eI] at h10
   cbv
   refine bf (_,_,_,_,_) (by simp only [ht];rfl) (m-1) ?_ ((Gh _ _ _ _ _ _).2 ?_)
   ·omega
   simp only [ht,aa]
   exact .inr (.inr (.inl ⟨by rw [bZ (by decide) (by decide)];rfl,by omega,trivial,trivial,trivial,trivial⟩))
  simp [ht,aa,eI] at h8
 ·cbv
  refine ai (fun h11=>?_) (fun h11=>?_)
  ·simp [ht,aa,eI] at h11
   cbv
   refine ay trivial (fu ht _ _ (by assumption) (by (simp only [ht];((try simp only [aa] at*);omega)))) trivial rfl rfl (fun Xw oN=>?_)
   simp only [ht] at oN
   ((rw [e4] at oN;subst oN))
   cbv
   refine ⟨?_,?_⟩
   ·(simp only [ht,aa] at*;omega)
   iterate 4 refine gI (by simp [ht,ak]) ?_
   refine pI (by simp [ht,ak]) ?_
   refine ai (fun K7=>?_) (fun K7=>?_)
   ·simp [ht,aa,eI] at K7
    omega
   simp [ht,aa,eI] at K7
   cbv
   refine bf (_,_,_,_,_) (by simp only [ht];rfl) (m-1) ?_ ((Gh _ _ _ _ _ _).2 ?_)
   ·omega
   simp only [ht,aa]
   exact .inr (.inr (.inr ⟨by rw [bZ (by decide) (by decide)];rfl,by omega,trivial,trivial,trivial,trivial⟩))
  simp [ht,aa,eI] at h11
 cbv
 refine ai (fun Rq=>?_) (fun Rq=>?_)
 ·simp [ht,aa,eI] at Rq
 simp [ht,aa,eI] at Rq
 cbv
 (apply VO (cj 15 1 [(0,0)]::cj 15 8 [(0,3)]::cj 15 64 [(0,6)]::cj 15 3 [(1,1)]::cj 15 9 [(1,3),(2,0)]::cj 15 24 [(2,4)]::cj 15 65 [(1,6),(3,0)]::cj 15 72 [(2,6),(3,3)]::cj 15 192 [(3,7)]::cj 15 7 [(4,2)]::cj 15 11 [(4,3),(5,1)]::cj 15 25 [(5,4),(6,0)]::cj 15 56 [(6,5)]::cj 15 67 [(4,6),(7,1)]::cj 15 73 [(5,6),(7,3),(8,0)]::cj 15 88 [(6,6),(8,4)]::cj 15 193 [(7,7),(9,0)]::cj 15 200 [(8,7),(9,3)]::cj 15 448 [(9,8)]::cj 15 15 [(10,3),(11,2)]::cj 15 27 [(11,4),(12,1)]::cj 15 57 [(12,5),(13,0)]::cj 15 71 [(10,6),(14,2)]::cj 15 75 [(11,6),(14,3),(15,1)]::cj 15 89 [(12,6),(15,4),(16,0)]::cj 15 120 [(13,6),(16,5)]::cj 15 195 [(14,7),(17,1)]::cj 15 201 [(15,7),(17,3),(18,0)]::cj 15 216 [(16,7),(18,4)]::cj 15 449 [(17,8),(19,0)]::cj 15 456 [(18,8),(19,3)]::cj 15 519 [(10,9)]::cj 15 31 [(20,4),(21,2)]::cj 15 59 [(21,5),(22,1)]::cj 15 79 [(20,6),(23,3),(24,2)]::cj 15 91 [(21,6),(24,4),(25,1)]::cj 15 121 [(22,6),(25,5),(26,0)]::cj 15 199 [(23,7),(27,2)]::cj 15 203 [(24,7),(27,3),(28,1)]::cj 15 217 [(25,7),(28,4),(29,0)]::cj 15 248 [(26,7),(29,5)]::cj 15 451 [(27,8),(30,1)]::cj 15 457 [(28,8),(30,3),(31,0)]::cj 15 472 [(29,8),(31,4)]::cj 15 527 [(20,9),(32,3)]::cj 15 583 [(23,9),(32,6)]::cj 15 1543 [(32,10)]::cj 15 63 [(33,5),(34,2)]::cj 15 95 [(33,6),(35,4),(36,2)]::cj 15 123 [(34,6),(36,5),(37,1)]::cj 15 207 [(35,7),(38,3),(39,2)]::cj 15 219 [(36,7),(39,4),(40,1)]::cj 15 249 [(37,7),(40,5),(41,0)]::cj 15 455 [(38,8),(42,2)]::cj 15 459 [(39,8),(42,3),(43,1)]::cj 15 473 [(40,8),(43,4),(44,0)]::cj 15 504 [(41,8),(44,5)]::cj 15 543 [(33,9),(45,4)]::cj 15 591 [(35,9),(45,6),(46,3)]::cj 15 711 [(38,9),(46,7)]::cj 15 1551 [(45,10),(47,3)]::cj 15 1607 [(46,10),(47,6)]::cj 15 127 [(48,6),(49,5),(50,2)]::cj 15 223 [(49,7),(51,4),(52,2)]::cj 15 251 [(50,7),(52,5),(53,1)]::cj 15 463 [(51,8),(54,3),(55,2)]::cj 15 475 [(52,8),(55,4),(56,1)]::cj 15 505 [(53,8),(56,5),(57,0)]::cj 15 575 [(48,9),(58,5)]::cj 15 607 [(49,9),(58,6),(59,4)]::cj 15 719 [(51,9),(59,7),(60,3)]::cj 15 967 [(54,9),(60,8)]::cj 15 1567 [(58,10),(61,4)]::cj 15 1615 [(59,10),(61,6),(62,3)]::cj 15 1735 [(60,10),(62,7)]::cj 15 255 [(63,7),(64,5),(65,2)]::cj 15 479 [(64,8),(66,4),(67,2)]::cj 15 507 [(65,8),(67,5),(68,1)]::cj 15 639 [(63,9),(69,6),(70,5)]::cj 15 735 [(64,9),(70,7),(71,4)]::cj 15 975 [(66,9),(71,8),(72,3)]::cj 15 1599 [(69,10),(73,5)]::cj 15 1631 [(70,10),(73,6),(74,4)]::cj 15 1743 [(71,10),(74,7),(75,3)]::cj 15 1991 [(72,10),(75,8)]::cj 15 511 [(76,8),(77,5),(78,2)]::cj 15 767 [(76,9),(79,7),(80,5)]::cj 15 991 [(77,9),(80,8),(81,4)]::cj 15 1663 [(79,10),(82,6),(83,5)]::cj 15 1759 [(80,10),(83,7),(84,4)]::cj 15 1999 [(81,10),(84,8),(85,3)]::cj 15 3647 [(82,11)]::cj 15 1023 [(86,9),(87,8),(88,5)]::cj 15 1791 [(87,10),(89,7),(90,5)]::cj 15 2015 [(88,10),(90,8),(91,4)]::cj 15 3711 [(89,11),(92,6)]::cj 15 7743 [(92,12)]::cj 15 2047 [(93,10),(94,8),(95,5)]::cj 15 3839 [(94,11),(96,7)]::cj 15 7807 [(96,12),(97,6)]::cj 15 4095 [(98,11),(99,8)]::cj 15 7935 [(99,12),(100,7)]::cj 15 8191 [(101,12),(102,8)]::cj 15 16383 [(103,13)]::cj 15 32767 [(104,14)]::[]) (_::_::_::_::_::_::_::_::_::_::_::_::_::_::_::_::_::_::_::_::_::_::_::_::_::_::_::_::_::_::_::_::_::_::_::_::_::_::_::_::_::_::_::_::_::_::_::_::_::_::_::_::_::_::_::_::_::_::_::_::_::_::_::_::_::_::_::_::_::_::_::_::_::_::_::_::_::_::_::_::_::_::_::_::_::_::_::_::_::_::_::_::_::_::_::_::_::_::_::_::_::_::_::_::_::_::[]);kernel_rfl;(next=>refine WE.mk rfl (RV fun Q=>?_);repeat (first|((with_reducible apply Bn.cons);exact rfl)|(with_reducible exact Bn.nil)|((with_reducible apply M3);focus (cbv;first|done|(refine And.intro ?_ ?_;(next=>simp [ht]);(first|exact rfl|exact True.intro))))|(apply vN.cons;exact rfl)|exact vN.nil));(next=>exact rfl))
 cbv
 (refine HK trivial (Xz ht s hs (by simp only [ht];((try simp only [aa] at*);omega)) V2 fR.2.2.2 (by simp only [ht];exact e5)) trivial rfl rfl rfl ?_)
 cbv
 refine gI (by simp [ht,ak]) ?_
 refine aM (fun g15=>⟨(by (simp [ht];done)),by simp [ht],oO ht _ _ _ _ _ _ _ _ (by assumption) (by assumption)⟩) rfl rfl (fun r16 FO=>?_)
 simp only [ht] at FO
 (simp only [ht,w1,w2,w3,ec] at FO;subst FO)
 cbv
 refine gI (by simp [ht,ak]) ?_
 refine pI (by simp [ht,ak]) ?_
 refine ai (fun h17=>?_) (fun h17=>?_)
 ·simp [ht,aa,eI] at h17
 simp [ht,aa,eI] at h17
 cbv
 (exact an trivial (by simp [ht]) rfl rfl rfl (by simp only [ht,w1,w2,w3]))
end Dem
