/- Parts of a proof, joined. -/
import Derived.Test.YtjnbpclolnmimaaGreatDoorJ23
set_option linter.unusedSimpArgs false
set_option linter.unusedVariables false
set_option maxRecDepth 100000
set_option maxHeartbeats 4000000
section
open Go Dem Go.Proofs
namespace Dem
variable {t:Th}
theorem RT (ht:TT t) (m x y:Int) (hx:0≤x∧x<18446744073709551616) (hm:0≤m∧m<18446744073709551616) {r:Int} {ok:Bool} (h:(r,ok)=BF x m):
 FC 168 [az x,az y,.ptr 0 0] [.var [az m]] (.ret (.dF [az r,BL ok])) [.var [az m]]:=by
 refine bC ht (aE:=[.var [az m]]) Tryz.func168 (c:=_) rfl rfl (N:=12) rfl (rs:=_) rfl (n:=1) rfl rfl ?_
 cbv
 refine gj trivial (Ow ht x m hx hm h) trivial rfl rfl ?_
 cbv
 exact an trivial trivial rfl rfl rfl rfl
theorem UO (ht:TT t) (m:Int) (a0 a1 a2 a3 b0 b1 b2 b3:Int) (op:Int→Int→Int×Bool) (F:Nat) (hop:∀(x y r:Int) (ok:Bool),(r,ok)=op x y→0≤x∧x<18446744073709551616→FC F [.d (.int .u64 x),.d (.int .u64 y),.ptr 0 0] [.var [az m]] (.ret (.dF [.d (.int .u64 r),.d (.bool ok)])) [.var [az m]])
 (u0:0≤a0∧a0<18446744073709551616) (u1:0≤a1∧a1<18446744073709551616) (u2:0≤a2∧a2<18446744073709551616) (u3:0≤a3∧a3<18446744073709551616)
 {r0 r1 r2 r3:Int} {ok:Bool} (h:(⟨r0,r1,r2,r3⟩,ok)=both op ⟨a0,a1,a2,a3⟩ ⟨b0,b1,b2,b3⟩):
 FC 79 [.agg [.d (.int .u64 a0),.d (.int .u64 a1),.d (.int .u64 a2),.d (.int .u64 a3)],.agg [.d (.int .u64 b0),.d (.int .u64 b1),.d (.int .u64 b2),.d (.int .u64 b3)],.fn F [.ptr 0 0]] [.var [az m]]
  (.ret (.dF [.agg [.d (.int .u64 r0),.d (.int .u64 r1),.d (.int .u64 r2),.d (.int .u64 r3)],.d (.bool ok)])) [.var [az m]]:=by
 obtain ⟨⟨s0,k0⟩,e0⟩:∃s,s=op a0 b0:=⟨_,rfl⟩
 obtain ⟨⟨s1,k1⟩,e1⟩:∃s,s=op a1 b1:=⟨_,rfl⟩
 obtain ⟨⟨s2,k2⟩,e2⟩:∃s,s=op a2 b2:=⟨_,rfl⟩
 obtain ⟨⟨s3,k3⟩,e3⟩:∃s,s=op a3 b3:=⟨_,rfl⟩
 have h0:(k0&&k1&&k2&&k3)=false→r0=0∧r1=0∧r2=0∧r3=0∧ok=false:=by
  intro hk;simp only [both,←e0,←e1,←e2,←e3] at h;rw [if_neg (by rw [hk];simp)] at h;cases h;exact ⟨rfl,rfl,rfl,rfl,rfl⟩
 have h1:(k0&&k1&&k2&&k3)=true→r0=s0∧r1=s1∧r2=s2∧r3=s3∧ok=true:=by
  intro hk;simp only [both,←e0,←e1,←e2,←e3] at h;rw [if_pos hk] at h;cases h;exact ⟨rfl,rfl,rfl,rfl,rfl⟩
 clear h
 have fin:∀{B:List ax},(k0&&k1&&k2&&k3)=false→Bq 1 True (AV.dF [.agg [.d (.int .u64 0),.d (.int .u64 0),.d (.int .u64 0),.d (.int .u64 0)],.d (.bool false)]) (.var [az m]::B) (some (True,AV.dF [.agg [.d (.int .u64 0),.d (.int .u64 0),.d (.int .u64 0),.d (.int .u64 0)],.d (.bool false)]))
  (.ret (.dF [.agg [.d (.int .u64 r0),.d (.int .u64 r1),.d (.int .u64 r2),.d (.int .u64 r3)],.d (.bool ok)])) [.var [az m]]:=by
  intro bx hk
  obtain ⟨rfl,rfl,rfl,rfl,rfl⟩:=h0 hk
  exact an trivial trivial rfl rfl rfl rfl
 refine bC ht (aE:=[.var [az m]]) Tryz.func79 (c:=_) rfl rfl (N:=34) rfl (rs:=_) rfl (n:=1) rfl rfl ?_
 cbv
 refine aZ ⟨[2,3,4,6,12,13],[],[]⟩ (σ:=Nat) (fun j=>[(13,.d (.int .i64 j))]) (fun j=>[(1,.var [.d (.int .u64 (bif Nat.blt 0 j then s0 else a0)),.d (.int .u64 (bif Nat.blt 1 j then s1 else a1)),.d (.int .u64 (bif Nat.blt 2 j then s2 else a2)),.d (.int .u64 (bif Nat.blt 3 j then s3 else a3))])])
  (fun n j=>n+j=4∧(0<j→k0=true)∧(1<j→k1=true)∧(2<j→k2=true)∧(3<j→k3=true)) ?_
 cbv
 refine aA ⟨4,0,⟨rfl,by omega,by omega,by omega,by omega⟩,rfl,?_⟩
 rintro n j ⟨hn,g0,g1,g2,g3⟩
 have hj:j=0∨j=1∨j=2∨j=3∨j=4:=by omega
 rcases hj with rfl|rfl|rfl|rfl|rfl
 ·cbv
  refine mS (by simp [ht]) ?_
  cbv
  refine ⟨by simp [ht],by simp [ht],cE [0] trivial rfl rfl (hop _ _ _ _ e0 u0) (bK ?_)⟩
  cbv
  refine ai (fun hc=>?_) (fun hc=>?_)
  ·simp only [ht,Bool.not_eq_true'] at hc
   cbv
   exact fin (by simp [hc])
  simp only [ht,Bool.not_eq_false'] at hc
  cbv
  refine ⟨by simp [ht],?_⟩
  refine aA ⟨3-0,0+1,⟨⟨by omega,by omega,by simp_all,by simp_all,by simp_all,by simp_all⟩,?_⟩⟩
  simp only [ht];rfl
 ·cbv
  refine mS (by simp [ht]) ?_
  cbv
  refine ⟨by simp [ht],by simp [ht],cE [0] trivial rfl rfl (hop _ _ _ _ e1 u1) (bK ?_)⟩
  cbv
  refine ai (fun hc=>?_) (fun hc=>?_)
  ·simp only [ht,Bool.not_eq_true'] at hc
   cbv
   exact fin (by simp [hc])
  simp only [ht,Bool.not_eq_false'] at hc
  cbv
  refine ⟨by simp [ht],?_⟩
  refine aA ⟨3-1,1+1,⟨⟨by omega,by omega,by simp_all,by simp_all,by simp_all,by simp_all⟩,?_⟩⟩
  simp only [ht];rfl
 ·cbv
  refine mS (by simp [ht]) ?_
  cbv
  refine ⟨by simp [ht],by simp [ht],cE [0] trivial rfl rfl (hop _ _ _ _ e2 u2) (bK ?_)⟩
  cbv
  refine ai (fun hc=>?_) (fun hc=>?_)
  ·simp only [ht,Bool.not_eq_true'] at hc
   cbv
   exact fin (by simp [hc])
  simp only [ht,Bool.not_eq_false'] at hc
  cbv
  refine ⟨by simp [ht],?_⟩
  refine aA ⟨3-2,2+1,⟨⟨by omega,by omega,by simp_all,by simp_all,by simp_all,by simp_all⟩,?_⟩⟩
  simp only [ht];rfl
 ·cbv
  refine mS (by simp [ht]) ?_
  cbv
  refine ⟨by simp [ht],by simp [ht],cE [0] trivial rfl rfl (hop _ _ _ _ e3 u3) (bK ?_)⟩
  cbv
  refine ai (fun hc=>?_) (fun hc=>?_)
  ·simp only [ht,Bool.not_eq_true'] at hc
   cbv
   exact fin (by simp [hc])
  simp only [ht,Bool.not_eq_false'] at hc
  cbv
  refine ⟨by simp [ht],?_⟩
  refine aA ⟨3-3,3+1,⟨⟨by omega,by omega,by simp_all,by simp_all,by simp_all,by simp_all⟩,?_⟩⟩
  simp only [ht];rfl
 cbv
 refine qj (by simp [ht]) ?_
 cbv
 obtain ⟨rfl,rfl,rfl,rfl,rfl⟩:=h1 (by simp [g0,g1,g2,g3])
 exact an trivial trivial rfl rfl rfl rfl
theorem Ox (ht:TT t) (a0 a1 a2 a3 n:Int) (hu:(⟨a0,a1,a2,a3⟩:bz).u') (hn:0≤n∧n<18446744073709551616):
 FC 117 [V4 a0 a1 a2 a3,az n] [] (.ret (TP (t _ fun _=>rQ ⟨a0,a1,a2,a3⟩ n))) []:=by
 obtain ⟨⟨⟨r0,r1,r2,r3⟩,ok⟩,h⟩:∃r,r=rQ ⟨a0,a1,a2,a3⟩ n:=⟨_,rfl⟩
 rw [←h]
 obtain ⟨u0,u1,u2,u3⟩:=hu
 refine bC ht (aE:=[]) Tryz.func117 (c:=_) rfl rfl (N:=12) rfl (rs:=_) rfl (n:=0) rfl rfl ?_
 cbv
 refine cE [1] trivial rfl rfl (UO ht n a0 a1 a2 a3 0 0 0 0 (fun x _=>BF x n) 168 (fun x y r ok e hx=>RT ht n x y hx hn e) u0 u1 u2 u3 h) (bK ?_)
 cbv
 refine an trivial trivial rfl rfl rfl ?_
 simp only [ht]
end Dem
end
section
open Go Dem Go.Proofs
namespace Dem
variable {t:Th}
def Ask.sm (x:Ask):Prop:=x.path.length<1000000000000∧x.fQ.u'∧x.b9.length<1000000000∧∀m∈x.b9,m.sm
theorem XB {x y:Ask}:x=y↔x.path=y.path∧x.fQ=y.fQ∧x.count=y.count∧x.prio=y.prio∧x.dS=y.dS∧x.b9=y.b9:=by cases x;cases y;simp
theorem tj (ht:TT t) (p:aD) (a b c d n pr tk:Int) {sl:List Term} (sr:List (List D)) (hu:(⟨a,b,c,d⟩:bz).u'):
 FC 58 [.agg [ST p,az a,az b,az c,az d,bq n,bq pr,bq tk,SL sr]] [] (.ret (TP (t _ fun _=>cW ⟨p,⟨a,b,c,d⟩,n,pr,tk,sl⟩))) []:=by
 refine bC ht (aE:=[]) Tryz.func58 (c:=_) rfl rfl (N:=12) rfl (rs:=_) rfl (n:=0) rfl rfl ?_
 cbv
 (refine ay trivial (Ox ht a b c d _ hu (by simp only [ht];rw [bG];omega)) trivial rfl rfl (fun r9 dN=>?_);simp only [ht,bG] at dN)
 cbv
 refine an trivial trivial rfl rfl rfl ?_
 (simp [cW, *];done)
theorem Lp (ht:TT t) (n a b:Int):FC 57 [bq n,bq a,bq b] [] (.ret (bY (t _ fun _=>Q3 n a b))) []:=by
 refine bC ht (aE:=[]) Tryz.func57 (c:=_) rfl rfl (N:=15) rfl (rs:=_) rfl (n:=0) rfl rfl ?_
 cbv
 iterate 3 refine gI (by simp [ht]) ?_
 refine pI (by simp [ht]) ?_
 refine an trivial trivial rfl rfl rfl ?_
 (simp [ht,Q3];done)
theorem oO (ht:TT t) (p:aD) (a b c d n pr tk:Int) {sl:List Term} {sr:List (List D)} (V2:sr=sl.map Term.cells) (fR:(⟨p,⟨a,b,c,d⟩,n,pr,tk,sl⟩:Ask).sm):
 FC 18 [.agg [ST p,az a,az b,az c,az d,bq n,bq pr,bq tk,SL sr]] [] (.ret (kR (t _ fun _=>cR ⟨p,⟨a,b,c,d⟩,n,pr,tk,sl⟩))) []:=by
 obtain ⟨h1,h2,h3,h4⟩:=fR
 simp only at h1 h2 h3 h4
 refine bC ht (aE:=[]) Tryz.func18 (c:=_) rfl rfl (N:=46) rfl (rs:=_) rfl (n:=0) rfl rfl ?_
 cbv
 have eI:sr.length=sl.length:=by rw [V2,List.length_map]
 (refine ay trivial (tj ht p a b c d n pr tk (sl:=sl) sr h2) trivial rfl rfl (fun r9 dN=>?_);simp only [ht] at dN)
 cbv
 refine ay trivial (BP ht _ _ (by assumption)) trivial rfl rfl (fun r0 bE=>?_)
 simp only [ht] at bE
 cbv
 refine ai (fun h1=>?_) (fun h1=>?_)
 ·simp [ht] at h1
  cbv
  refine an trivial trivial rfl rfl rfl ?_
  (simp only [ht,cR];grind)
 simp [ht] at h1
 cbv
 refine ay trivial (Lp ht _ _ _) trivial rfl rfl (fun r2 cP=>?_)
 simp only [ht] at cP
 cbv
 iterate 3 refine gI (by simp [ht]) ?_
 refine aM (fun g3=>⟨by simp [ht] at g3 ⊢;exact g3,trivial,Lp ht _ _ _⟩) rfl rfl (fun r4 dO=>?_)
 simp only [ht] at dO
 cbv
 refine gI (by simp [ht]) ?_
 refine pI (by simp [ht]) ?_
 iterate 3 refine gI (by simp [ht]) ?_
 refine aM (fun g5=>⟨by simp [ht] at g5 ⊢;exact g5,trivial,Lp ht _ _ _⟩) rfl rfl (fun r6 gv=>?_)
 simp only [ht] at gv
 cbv
 refine gI (by simp [ht]) ?_
 refine pI (by simp [ht]) ?_
 refine ai (fun h7=>?_) (fun h7=>?_)
 ·simp [ht] at h7
  cbv
  refine an trivial trivial rfl rfl rfl ?_
  (simp only [ht,cR];grind)
 simp [ht] at h7
 cbv
 refine ay trivial (yj ht (by assumption) (by assumption) (by assumption)) trivial rfl rfl (fun r8 qy=>?_)
 simp only [ht] at qy
 cbv
 refine ai (fun h9=>?_) (fun h9=>?_)
 ·simp [ht] at h9
  cbv
  refine an trivial trivial rfl rfl rfl ?_
  (simp only [ht,cR];grind)
 simp [ht] at h9
 cbv
 refine ai (fun h10=>?_) (fun h10=>?_)
 ·simp [ht] at h10
  cbv
  refine an trivial trivial rfl rfl rfl ?_
  (simp only [ht,cR];grind)
 simp [ht] at h10
 cbv
 refine an trivial trivial rfl rfl rfl ?_
 (simp only [ht,cR];grind)
theorem RU (ht:TT t) (p p':aD) (a b c d n pr tk a' b' c' d' n' pr' Pr:Int) {sl ru:List Term} {sr sr':List (List D)} (V2:sr=sl.map Term.cells) (ab5:sr'=ru.map Term.cells)
 (hl:sl.length<1000000000) (hl':ru.length<1000000000) (hs:∀x∈sl,x.fW.length<1000000000) (hs':∀x∈ru,x.fW.length<1000000000):
 FC 20 [.agg [ST p,az a,az b,az c,az d,bq n,bq pr,bq tk,SL sr],.agg [ST p',az a',az b',az c',az d',bq n',bq pr',bq Pr,SL sr']] [] (.ret (bY (t _ fun _=>decide ((⟨p,⟨a,b,c,d⟩,n,pr,tk,sl⟩:Ask)=⟨p',⟨a',b',c',d'⟩,n',pr',Pr,ru⟩)))) []:=by
 refine bC ht (aE:=[]) Tryz.func20 (c:=_) rfl rfl (N:=47) rfl (rs:=_) rfl (n:=0) rfl rfl ?_
 cbv
 have eI:sr.length=sl.length:=by rw [V2,List.length_map]
 have aaA:sr'.length=ru.length:=by rw [ab5,List.length_map]
 iterate 5 refine gI (by simp [ht]) ?_
 refine pI (by simp [ht]) ?_
 iterate 5 refine gI (by simp [ht]) ?_
 refine pI (by simp [ht]) ?_
 iterate 5 refine gI (by simp [ht]) ?_
 refine pI (by simp [ht]) ?_
 iterate 5 refine gI (by simp [ht]) ?_
 refine pI (by simp [ht]) ?_
 iterate 4 refine gI (by simp [ht]) ?_
 refine aM (fun g0=>⟨by simp [ht] at g0 ⊢;exact g0,trivial,RI ht (by assumption) (by assumption) (by assumption) (by assumption) (by assumption) (by assumption)⟩) rfl rfl (fun r1 cX=>?_)
 simp only [ht] at cX
 cbv
 refine pI (by simp [ht]) ?_
 refine an trivial trivial rfl rfl rfl ?_
 (simp [*];grind)
end Dem
end
section
open Go Dem Go.Proofs
namespace Dem
variable {t:Th}
def Eh (s:aD) (p:Int):Option (Ask×Int):=
 match aU s p 98 with
 |⟨path,p1,true⟩=>match iI s p1 with
  |⟨v,p2,true⟩=>match bD s p2 with
   |⟨n,p3,true⟩=>match bD s p3 with
    |⟨pr,p4,true⟩=>match bD s p4 with
     |⟨tk,p5,true⟩=>match DS s p5 with
      |some (sl,e)=>if n≤100∧pr≤100∧tk≤100∧cR ⟨path,v,n,pr,tk,sl⟩=0 then some (⟨path,v,n,pr,tk,sl⟩,e) else none
      |none=>none
     |_=>none
    |_=>none
   |_=>none
  |_=>none
 |_=>none
theorem Cp {s:aD} {p e:Int} {x:Ask} (h:Eh s p=some (x,e)):∃p1 p2 p3 p4 p5,aU s p 98=⟨x.path,p1,true⟩∧iI s p1=⟨x.fQ,p2,true⟩∧bD s p2=⟨x.count,p3,true⟩∧bD s p3=⟨x.prio,p4,true⟩∧bD s p4=⟨x.dS,p5,true⟩∧
 DS s p5=some (x.b9,e)∧x.count≤100∧x.prio≤100∧x.dS≤100∧cR x=0:=by
 unfold Eh at h
 split at h
 ·rename_i path p1 e1
  split at h
  ·rename_i v p2 e2
   split at h
   ·rename_i n p3 e3
    split at h
    ·rename_i pr p4 e4
     split at h
     ·rename_i tk p5 e5
      split at h
      ·rename_i sl e' e6
       split at h
       ·rename_i g
        simp only [Option.some.injEq,Prod.mk.injEq] at h
        obtain ⟨rfl,rfl⟩:=h
        exact ⟨p1,p2,p3,p4,p5,e1,e2,e3,e4,e5,e6,g.1,g.2.1,g.2.2.1,g.2.2.2⟩
       cases h
      cases h
     cases h
    cases h
   cases h
  cases h
 cases h
theorem RV {F:Nat→List AV→List ax→fm→List ax→Prop} {T:Nat→Option TI} {G:Nat→Option (List D)} {N:Nat} {ops:List Oper} {Q:Ex→St→Prop} {S:List St} {k:Nat} {l:List Nd} (h:∀Q:Ex→St→Prop,Bn t F T G N ops Q S k l):Bn t F T G N ops Q S k l:=h Q
theorem XC (ht:TT t) (s:aD) {p e a b c d n pr tk:Int} {path:aD} {sl:List Term} {sr:List (List D)} (hs:s.length<9223372036854775000) (hp:p<9223372036854775808) (V2:sr=sl.map Term.cells)
 (fR:(⟨path,⟨a,b,c,d⟩,n,pr,tk,sl⟩:Ask).sm) (h:Eh s p=some (⟨path,⟨a,b,c,d⟩,n,pr,tk,sl⟩,e)):
 FC 184 [ST s,bq p] [] (.ret (.dF [.agg [ST path,az a,az b,az c,az d,bq n,bq pr,bq tk,SL sr],bq e,BL true])) []:=by
 obtain ⟨p1,p2,p3,p4,p5,e0,e1,e2,e3,e4,e5,l1,l2,l3,ec⟩:=Cp h
 simp only at e0 e1 e2 e3 e4 e5 l1 l2 l3
 have b0:=dw (s:=s) (p:=p) (m:=98) hs
 rw [e0] at b0
 simp only at b0
 have b1:=sP (s:=s) (p:=p1)
 rw [e1] at b1
 simp only at b1
 have b2:=fw e2
 have b3:=fw e3
 have b4:=fw e4
 have w1:IntKind.i64.wrap n=n:=by rw [bZ (by omega) (by omega)]
 have w2:IntKind.i64.wrap pr=pr:=by rw [bZ (by omega) (by omega)]
 have w3:IntKind.i64.wrap tk=tk:=by rw [bZ (by omega) (by omega)]
 refine bC ht (aE:=[]) Tryz.func184 (c:=_) rfl rfl (N:=83) rfl (rs:=_) rfl (n:=0) rfl rfl ?_
 cbv
 have eI:sr.length=sl.length:=by rw [V2,List.length_map]
 refine ay trivial (gJ ht _ _ _ (by assumption) (by assumption) (by omega)) trivial rfl rfl (fun r0 bE=>?_)
 simp only [ht] at bE
 (rw [e0] at bE;subst bE)
 cbv
 refine ai (fun h1=>?_) (fun h1=>?_)
 ·simp [ht,aa,eI] at h1
 simp [ht,aa,eI] at h1
 cbv
 refine ay trivial (wI ht _ _ (by assumption) (by ((try simp only [aa] at*);omega))) trivial rfl rfl (fun r2 cP=>?_)
 simp only [ht] at cP
 (rw [e1] at cP;subst cP)
 cbv
 refine ai (fun h3=>?_) (fun h3=>?_)
 ·simp [ht,aa,eI] at h3
 simp [ht,aa,eI] at h3
 cbv
 obtain ⟨J4,Gh⟩:∃J4:Nat→Int×Int×Int×Int×Int→Prop,∀m a0 i x0 x1 x2,J4 m (a0,i,x0,x1,x2)↔((i=0∧m=3∧a0=p2∧x0=0∧x1=0∧x2=0)∨(i=1∧m=2∧a0=p3∧x0=n∧x1=0∧x2=0)∨(i=2∧m=1∧a0=p4∧x0=n∧x1=pr∧x2=0)∨(i=3∧m=0∧a0=p5∧x0=n∧x1=pr∧x2=tk)):=⟨fun m v=>match v with|(a0,i,x0,x1,x2)=>((i=0∧m=3∧a0=p2∧x0=0∧x1=0∧x2=0)∨(i=1∧m=2∧a0=p3∧x0=n∧x1=0∧x2=0)∨(i=2∧m=1∧a0=p4∧x0=n∧x1=pr∧x2=0)∨(i=3∧m=0∧a0=p5∧x0=n∧x1=pr∧x2=tk)),fun _ _ _ _ _ _=>Iff.rfl⟩
 refine aZ ⟨[0,1,4,7,31],[],[]⟩ (σ:=Int×Int×Int×Int×Int) (fun v=>[(1,.d (.int .i64 (t _ fun _=>v.1))),(31,.d (.int .i64 (v.2.1)))]) (fun v=>[(0,.var [AV.d (D.str path),AV.d (D.int IntKind.u64 a),AV.d (D.int IntKind.u64 b),AV.d (D.int IntKind.u64 c),AV.d (D.int IntKind.u64 d),AV.d (D.int IntKind.i64 0),AV.d (D.int IntKind.i64 0),AV.d (D.int IntKind.i64 0),AV.cl []]),(1,.var [.d (.int .u64 (t _ fun _=>v.2.2.1)),.d (.int .u64 (t _ fun _=>v.2.2.2.1)),.d (.int .u64 (t _ fun _=>v.2.2.2.2))])]) J4 ?_
 cbv
 refine aA ⟨3,(_,_,_,_,_),(Gh _ _ _ _ _ _).2 ?_,by simp only [ht];rfl,?_⟩
 ·exact .inl ⟨rfl,rfl,rfl,rfl,rfl,rfl⟩
 rintro m ⟨a0,i,x0,x1,x2⟩ hj
 replace hj:=(Gh _ _ _ _ _ _).1 hj
 (rcases hj with ⟨rfl,jm,rfl,rfl,rfl,rfl⟩|⟨rfl,jm,rfl,rfl,rfl,rfl⟩|⟨rfl,jm,rfl,rfl,rfl,rfl⟩|⟨rfl,jm,rfl,rfl,rfl,rfl⟩)
 ·cbv
  refine ai (fun h5=>?_) (fun h5=>?_)
  ·simp [ht,aa,eI] at h5
   cbv
   refine ay trivial (fu ht _ _ (by assumption) (by (simp only [ht];((try simp only [aa] at*);omega)))) trivial rfl rfl (fun r6 gv=>?_)
   simp only [ht] at gv
   ((rw [e2] at gv;subst gv))
   cbv
   refine ⟨?_,?_⟩
   ·(simp only [ht,aa] at*;omega)
   iterate 4 refine gI (by simp [ht,ak]) ?_
   refine pI (by simp [ht,ak]) ?_
   refine ai (fun h7=>?_) (fun h7=>?_)
   ·simp [ht,aa,eI] at h7
    omega
   simp [ht,aa,eI] at h7
   cbv
   refine bf (_,_,_,_,_) (by simp only [ht];rfl) (m-1) ?_ ((Gh _ _ _ _ _ _).2 ?_)
   ·omega
   simp only [ht,aa]
   exact .inr (.inl ⟨by rw [bZ (by decide) (by decide)];rfl,by omega,trivial,trivial,trivial,trivial⟩)
  simp [ht,aa,eI] at h5
 ·cbv
  refine ai (fun h8=>?_) (fun h8=>?_)
  ·simp [ht,aa,eI] at h8
   cbv
   refine ay trivial (fu ht _ _ (by assumption) (by (simp only [ht];((try simp only [aa] at*);omega)))) trivial rfl rfl (fun r9 dN=>?_)
   simp only [ht] at dN
   ((rw [e3] at dN;subst dN))
   cbv
   refine ⟨?_,?_⟩
   ·(simp only [ht,aa] at*;omega)
   iterate 4 refine gI (by simp [ht,ak]) ?_
   refine pI (by simp [ht,ak]) ?_
   refine ai (fun h10=>?_) (fun h10=>?_)
   ·simp [ht,aa,eI] at h10
    omega
   simp [ht,aa,eI] at h10
   cbv
   refine bf (_,_,_,_,_) (by simp only [ht];rfl) (m-1) ?_ ((Gh _ _ _ _ _ _).2 ?_)
   ·omega
   simp only [ht,aa]
   exact .inr (.inr (.inl ⟨by rw [bZ (by decide) (by decide)];rfl,by omega,trivial,trivial,trivial,trivial⟩))
  simp [ht,aa,eI] at h8
 ·cbv
  refine ai (fun h11=>?_) (fun h11=>?_)
  ·simp [ht,aa,eI] at h11
   cbv
   refine ay trivial (fu ht _ _ (by assumption) (by (simp only [ht];((try simp only [aa] at*);omega)))) trivial rfl rfl (fun Xw oN=>?_)
   simp only [ht] at oN
   ((rw [e4] at oN;subst oN))
   cbv
   refine ⟨?_,?_⟩
   ·(simp only [ht,aa] at*;omega)
   iterate 4 refine gI (by simp [ht,ak]) ?_
   refine pI (by simp [ht,ak]) ?_
   refine ai (fun K7=>?_) (fun K7=>?_)
   ·simp [ht,aa,eI] at K7
    omega
   simp [ht,aa,eI] at K7
   cbv
   refine bf (_,_,_,_,_) (by simp only [ht];rfl) (m-1) ?_ ((Gh _ _ _ _ _ _).2 ?_)
   ·omega
   simp only [ht,aa]
   exact .inr (.inr (.inr ⟨by rw [bZ (by decide) (by decide)];rfl,by omega,trivial,trivial,trivial,trivial⟩))
  simp [ht,aa,eI] at h11
 cbv
 refine ai (fun Rq=>?_) (fun Rq=>?_)
 ·simp [ht,aa,eI] at Rq
 simp [ht,aa,eI] at Rq
 cbv
 (apply VO (cj 15 1 [(0,0)]::cj 15 8 [(0,3)]::cj 15 64 [(0,6)]::cj 15 3 [(1,1)]::cj 15 9 [(1,3),(2,0)]::cj 15 24 [(2,4)]::cj 15 65 [(1,6),(3,0)]::cj 15 72 [(2,6),(3,3)]::cj 15 192 [(3,7)]::cj 15 7 [(4,2)]::cj 15 11 [(4,3),(5,1)]::cj 15 25 [(5,4),(6,0)]::cj 15 56 [(6,5)]::cj 15 67 [(4,6),(7,1)]::cj 15 73 [(5,6),(7,3),(8,0)]::cj 15 88 [(6,6),(8,4)]::cj 15 193 [(7,7),(9,0)]::cj 15 200 [(8,7),(9,3)]::cj 15 448 [(9,8)]::cj 15 15 [(10,3),(11,2)]::cj 15 27 [(11,4),(12,1)]::cj 15 57 [(12,5),(13,0)]::cj 15 71 [(10,6),(14,2)]::cj 15 75 [(11,6),(14,3),(15,1)]::cj 15 89 [(12,6),(15,4),(16,0)]::cj 15 120 [(13,6),(16,5)]::cj 15 195 [(14,7),(17,1)]::cj 15 201 [(15,7),(17,3),(18,0)]::cj 15 216 [(16,7),(18,4)]::cj 15 449 [(17,8),(19,0)]::cj 15 456 [(18,8),(19,3)]::cj 15 519 [(10,9)]::cj 15 31 [(20,4),(21,2)]::cj 15 59 [(21,5),(22,1)]::cj 15 79 [(20,6),(23,3),(24,2)]::cj 15 91 [(21,6),(24,4),(25,1)]::cj 15 121 [(22,6),(25,5),(26,0)]::cj 15 199 [(23,7),(27,2)]::cj 15 203 [(24,7),(27,3),(28,1)]::cj 15 217 [(25,7),(28,4),(29,0)]::cj 15 248 [(26,7),(29,5)]::cj 15 451 [(27,8),(30,1)]::cj 15 457 [(28,8),(30,3),(31,0)]::cj 15 472 [(29,8),(31,4)]::cj 15 527 [(20,9),(32,3)]::cj 15 583 [(23,9),(32,6)]::cj 15 1543 [(32,10)]::cj 15 63 [(33,5),(34,2)]::cj 15 95 [(33,6),(35,4),(36,2)]::cj 15 123 [(34,6),(36,5),(37,1)]::cj 15 207 [(35,7),(38,3),(39,2)]::cj 15 219 [(36,7),(39,4),(40,1)]::cj 15 249 [(37,7),(40,5),(41,0)]::cj 15 455 [(38,8),(42,2)]::cj 15 459 [(39,8),(42,3),(43,1)]::cj 15 473 [(40,8),(43,4),(44,0)]::cj 15 504 [(41,8),(44,5)]::cj 15 543 [(33,9),(45,4)]::cj 15 591 [(35,9),(45,6),(46,3)]::cj 15 711 [(38,9),(46,7)]::cj 15 1551 [(45,10),(47,3)]::cj 15 1607 [(46,10),(47,6)]::cj 15 127 [(48,6),(49,5),(50,2)]::cj 15 223 [(49,7),(51,4),(52,2)]::cj 15 251 [(50,7),(52,5),(53,1)]::cj 15 463 [(51,8),(54,3),(55,2)]::cj 15 475 [(52,8),(55,4),(56,1)]::cj 15 505 [(53,8),(56,5),(57,0)]::cj 15 575 [(48,9),(58,5)]::cj 15 607 [(49,9),(58,6),(59,4)]::cj 15 719 [(51,9),(59,7),(60,3)]::cj 15 967 [(54,9),(60,8)]::cj 15 1567 [(58,10),(61,4)]::cj 15 1615 [(59,10),(61,6),(62,3)]::cj 15 1735 [(60,10),(62,7)]::cj 15 255 [(63,7),(64,5),(65,2)]::cj 15 479 [(64,8),(66,4),(67,2)]::cj 15 507 [(65,8),(67,5),(68,1)]::cj 15 639 [(63,9),(69,6),(70,5)]::cj 15 735 [(64,9),(70,7),(71,4)]::cj 15 975 [(66,9),(71,8),(72,3)]::cj 15 1599 [(69,10),(73,5)]::cj 15 1631 [(70,10),(73,6),(74,4)]::cj 15 1743 [(71,10),(74,7),(75,3)]::cj 15 1991 [(72,10),(75,8)]::cj 15 511 [(76,8),(77,5),(78,2)]::cj 15 767 [(76,9),(79,7),(80,5)]::cj 15 991 [(77,9),(80,8),(81,4)]::cj 15 1663 [(79,10),(82,6),(83,5)]::cj 15 1759 [(80,10),(83,7),(84,4)]::cj 15 1999 [(81,10),(84,8),(85,3)]::cj 15 3647 [(82,11)]::cj 15 1023 [(86,9),(87,8),(88,5)]::cj 15 1791 [(87,10),(89,7),(90,5)]::cj 15 2015 [(88,10),(90,8),(91,4)]::cj 15 3711 [(89,11),(92,6)]::cj 15 7743 [(92,12)]::cj 15 2047 [(93,10),(94,8),(95,5)]::cj 15 3839 [(94,11),(96,7)]::cj 15 7807 [(96,12),(97,6)]::cj 15 4095 [(98,11),(99,8)]::cj 15 7935 [(99,12),(100,7)]::cj 15 8191 [(101,12),(102,8)]::cj 15 16383 [(103,13)]::cj 15 32767 [(104,14)]::[]) (_::_::_::_::_::_::_::_::_::_::_::_::_::_::_::_::_::_::_::_::_::_::_::_::_::_::_::_::_::_::_::_::_::_::_::_::_::_::_::_::_::_::_::_::_::_::_::_::_::_::_::_::_::_::_::_::_::_::_::_::_::_::_::_::_::_::_::_::_::_::_::_::_::_::_::_::_::_::_::_::_::_::_::_::_::_::_::_::_::_::_::_::_::_::_::_::_::_::_::_::_::_::_::_::_::_::[]);kernel_rfl;(next=>refine WE.mk rfl (RV fun Q=>?_);repeat (first|((with_reducible apply Bn.cons);exact rfl)|(with_reducible exact Bn.nil)|((with_reducible apply M3);focus (cbv;first|done|(refine And.intro ?_ ?_;(next=>simp [ht]);(first|exact rfl|exact True.intro))))|(apply vN.cons;exact rfl)|exact vN.nil));(next=>exact rfl))
 cbv
 (refine HK trivial (Xz ht s hs (by simp only [ht];((try simp only [aa] at*);omega)) V2 fR.2.2.2 (by simp only [ht];exact e5)) trivial rfl rfl rfl ?_)
 cbv
 refine gI (by simp [ht,ak]) ?_
 refine aM (fun g15=>⟨(by (simp [ht];done)),by simp [ht],oO ht _ _ _ _ _ _ _ _ (by assumption) (by assumption)⟩) rfl rfl (fun r16 FO=>?_)
 simp only [ht] at FO
 (simp only [ht,w1,w2,w3,ec] at FO;subst FO)
 cbv
 refine gI (by simp [ht,ak]) ?_
 refine pI (by simp [ht,ak]) ?_
 refine ai (fun h17=>?_) (fun h17=>?_)
 ·simp [ht,aa,eI] at h17
 simp [ht,aa,eI] at h17
 cbv
 (exact an trivial (by simp [ht]) rfl rfl rfl (by simp only [ht,w1,w2,w3]))
end Dem
end
section
open Go Dem Go.Proofs
namespace Dem
variable {t:Th}
def Ei (s:aD) (p:Int):Option (Jb×Int):=
 match bD s p with
 |⟨i,p1,true⟩=>match Eh s p1 with
  |some (x,p2)=>match bD s p2 with
   |⟨f,e,true⟩=>if 0<f∧f<9223372036854775808 then some (⟨i,x,true,f⟩,e) else none
   |_=>none
  |none=>none
 |_=>none
theorem ym {s:aD} {p e:Int} {j:Jb} (h:Ei s p=some (j,e)):∃p1 p2,bD s p=⟨j.id,p1,true⟩∧Eh s p1=some (j.x,p2)∧bD s p2=⟨j.left,e,true⟩∧j.runs=true∧0<j.left∧j.left<9223372036854775808:=by
 unfold Ei at h
 split at h
 ·rename_i i p1 e1
  split at h
  ·rename_i x p2 e2
   split at h
   ·rename_i f q e3
    split at h
    ·rename_i g
     simp only [Option.some.injEq,Prod.mk.injEq] at h
     obtain ⟨rfl,rfl⟩:=h
     exact ⟨p1,p2,e1,e2,e3,rfl,g.1,g.2⟩
    cases h
   cases h
  cases h
 cases h
theorem UP {s:aD} {p e:Int} {l:List Term} (hs:s.length<9223372036854775000) (h:DS s p=some (l,e)):0≤e∧e≤s.length:=by
 obtain ⟨n,q,g1,g2,g3⟩:=Cn h
 have b:=Af g1
 have:∀(n:Nat) (l L:List Term) (p e:Int),jV s n l p=some (L,e)→0≤p→p≤s.length→0≤e∧e≤s.length:=by
  intro n
  induction n with
  |zero=>intro l L p e h h1 h2;rw [jV] at h;simp only [Option.some.injEq,Prod.mk.injEq] at h;omega
  |succ n ih=>
   intro l L p e h h1 h2
   obtain ⟨x,q,g1,g2⟩:=zE h
   have:=I0 hs g1
   exact ih _ _ _ _ g2 this.1 this.2
 exact this _ _ _ _ _ g2 b.2.2.1 b.2.2.2
theorem UQ {s:aD} {p e:Int} {x:Ask} (hs:s.length<9223372036854775000) (h:Eh s p=some (x,e)):0≤e∧e≤s.length:=by
 obtain ⟨p1,p2,p3,p4,p5,e0,e1,e2,e3,e4,e5,_⟩:=Cp h
 exact UP hs e5
theorem M6 {s:aD} {p e:Int} {j:Jb} (h:Ei s p=some (j,e)):0≤e∧e≤s.length:=by
 obtain ⟨p1,p2,g1,g2,g3,_⟩:=ym h
 exact (fw g3).2.2
theorem UR (ht:TT t) (s:aD) {p e:Int} (ji ja jb jc jd jn jp jt jf:Int) (jq:aD) (jr:Bool) {jB:List Term} {tn:List (List D)} (m8:tn=jB.map Term.cells) (hs:s.length<9223372036854775000) (hp:p<9223372036854775808) (fR:(⟨jq,⟨ja,jb,jc,jd⟩,jn,jp,jt,jB⟩:Ask).sm) (h:Ei s p=some (⟨ji,⟨jq,⟨ja,jb,jc,jd⟩,jn,jp,jt,jB⟩,jr,jf⟩,e)):
 FC 137 [.ptr 0 0] [.var [ST s,bq p]] (.ret (.agg [az ji,ST jq,az ja,az jb,az jc,az jd,bq jn,bq jp,bq jt,SL tn,BL jr,bq jf])) [.var [ST s,bq e]]:=by
 obtain ⟨p1,p2,g1,g2,g3,g4,g5,g6⟩:=ym h
 simp only at g1 g2 g3 g4 g5 g6
 have b1:=fw g1
 have b2:=UQ hs g2
 have b3:=fw g3
 have hw:IntKind.i64.wrap jf=jf:=by rw [bZ (by omega) (by omega)]
 subst g4
 refine bC ht (aE:=[.var [ST s,bq p]]) Tryz.func137 (c:=_) rfl rfl (N:=38) rfl (rs:=_) rfl (n:=1) rfl rfl ?_
 cbv
 have tq:tn.length=jB.length:=by rw [m8,List.length_map]
 (refine cE [0] trivial rfl rfl (kH ht s hs (by ((try simp only [aa] at*);omega)) g1) (bK ?_))
 cbv
 refine vM [0,4] [0,4,9,10,11,12] [false,false,false,false,false,false,false,false,false,false,false,false,false,false,true,true,true] (by kernel_rfl) (by kernel_rfl) (by kernel_rfl) (by kernel_rfl) (by kernel_rfl) (by kernel_rfl) ?_
 cbv
 iterate 8 refine gI (by simp) ?_
 refine .inl ?_
 (refine mT (fun g9=>⟨by simp,by simp,XC ht s hs (by ((try simp only [aa] at*);omega)) m8 fR g2⟩) rfl rfl rfl ?_)
 cbv
 iterate 4 refine gI (by simp) ?_
 (refine cE [0] trivial rfl rfl (wM ht s _ _) (bK ?_))
 cbv
 (apply DF [1] (.more 0 (.one 1 (.more 2 (.more 3 (.one 4 (.one 5 (.one 6 (.one 7 .done)))) (.one 4 (.more 3 (.one 5 (.one 6 (.one 7 .done))) (.one 5 (.one 3 (.one 6 (.one 7 .done))))))) (.one 4 (.one 2 (.more 3 (.one 5 (.one 6 (.one 7 .done))) (.one 5 (.one 3 (.one 6 (.one 7 .done))))))))) (.one 1 (.more 0 (.more 2 (.more 3 (.one 4 (.one 5 (.one 6 (.one 7 .done)))) (.one 4 (.more 3 (.one 5 (.one 6 (.one 7 .done))) (.one 5 (.one 3 (.one 6 (.one 7 .done))))))) (.one 4 (.one 2 (.more 3 (.one 5 (.one 6 (.one 7 .done))) (.one 5 (.one 3 (.one 6 (.one 7 .done)))))))) (.one 2 (.more 0 (.more 3 (.one 4 (.one 5 (.one 6 (.one 7 .done)))) (.one 4 (.more 3 (.one 5 (.one 6 (.one 7 .done))) (.one 5 (.one 3 (.one 6 (.one 7 .done))))))) (.one 3 (.one 0 (.one 4 (.one 5 (.one 6 (.one 7 .done)))))))))));kernel_rfl;kernel_rfl;kernel_rfl;kernel_rfl;(next=>cbv;repeat (first|(refine cE [0] trivial rfl rfl (kH ht s hs (by ((try simp only [aa] at*);omega)) g3) (bK ?_);cbv)|refine And.intro ?_ ?_|exact rfl|exact True.intro)))
 cbv
 (exact an trivial (by simp) rfl rfl rfl (by simp only [ht,hw];simp;omega))
end Dem
end
section
open Go Dem Go.Proofs
namespace Dem
variable {t:Th}
def RW (r:aR×Int):AV:=.dF [N6 r.1,bq r.2]
theorem FW (ht:TT t) (a0 a1 a2 a3 b0 b1 b2 b3:Int):FC 26 [V4 a0 a1 a2 a3,V4 b0 b1 b2 b3] [] (.ret (TP (t _ fun _=>gT ⟨a0,a1,a2,a3⟩ ⟨b0,b1,b2,b3⟩))) []:=by
 simp only [ht];exact Rb ht _ _ _ _ _ _ _ _ rfl
theorem Lq (ht:TT t) (v1 v2 v3 v4:Int) (p:aD) (a b c d e f g h:Int):
 FC 143 [V4 v1 v2 v3 v4,.agg [ST p,az a,az b,az c,az d,az e,az f,az g,az h]] [] (.ret (RW (t _ fun _=>gm ⟨v1,v2,v3,v4⟩ ⟨p,⟨a,b,c,d⟩,⟨e,f,g,h⟩⟩))) []:=by
 obtain ⟨⟨⟨s1,s2,s3,s4⟩,k⟩,hS⟩:∃r,r=gT ⟨e,f,g,h⟩ ⟨v1,v2,v3,v4⟩:=⟨_,rfl⟩
 refine bC ht (aE:=[]) Tryz.func143 (c:=_) rfl rfl (N:=28) rfl (rs:=_) rfl (n:=0) rfl rfl ?_
 cbv
 refine gj trivial (Rb ht _ _ _ _ _ _ _ _ (by assumption)) trivial rfl rfl ?_
 cbv
 refine ai (fun h0=>?_) (fun h0=>?_)
 ·simp [ht] at h0
  cbv
  refine an trivial trivial rfl rfl rfl ?_
  (simp only [ht,gm,←hS];simp_all;done)
 simp [ht] at h0
 cbv
 refine ay trivial (oJ ht _ _ _ _ _ _ _ _) trivial rfl rfl (fun r1 cX=>?_)
 simp only [ht] at cX
 cbv
 refine ai (fun h2=>?_) (fun h2=>?_)
 ·simp [ht] at h2
  cbv
  refine an trivial trivial rfl rfl rfl ?_
  (simp only [ht,gm,←hS];simp_all;done)
 simp [ht] at h2
 cbv
 refine an trivial trivial rfl rfl rfl ?_
 (simp only [ht,gm,←hS];simp_all;done)
theorem Lr (ht:TT t) (v1 v2 v3 v4:Int) (p:aD) (a b c d e f g h:Int):
 FC 173 [V4 v1 v2 v3 v4,.agg [ST p,az a,az b,az c,az d,az e,az f,az g,az h]] [] (.ret (RW (t _ fun _=>ek ⟨v1,v2,v3,v4⟩ ⟨p,⟨a,b,c,d⟩,⟨e,f,g,h⟩⟩))) []:=by
 obtain ⟨⟨⟨s1,s2,s3,s4⟩,k⟩,hS⟩:∃r,r=gu ⟨e,f,g,h⟩ ⟨v1,v2,v3,v4⟩:=⟨_,rfl⟩
 refine bC ht (aE:=[]) Tryz.func173 (c:=_) rfl rfl (N:=22) rfl (rs:=_) rfl (n:=0) rfl rfl ?_
 cbv
 refine gj trivial (Fu ht _ _ _ _ _ _ _ _ (by assumption)) trivial rfl rfl ?_
 cbv
 refine ai (fun h0=>?_) (fun h0=>?_)
 ·simp [ht] at h0
  cbv
  refine an trivial trivial rfl rfl rfl ?_
  (simp only [ht,ek,←hS];simp_all;done)
 simp [ht] at h0
 cbv
 refine an trivial trivial rfl rfl rfl ?_
 (simp only [ht,ek,←hS];simp_all;done)
theorem UT (ht:TT t) (q:aD) {l:List aR} {es:List (List D)} (aF:es=l.map aR.cells) (hl:l.length<1000000000) {r:Bool} (hr:r=decide (bM l q<0)):
 FC 185 [ST q,.ptr 0 0] [.var [SL es]] (.ret (BL r)) [.var [SL es]]:=by
 refine bC ht (aE:=[.var [SL es]]) Tryz.func185 (c:=_) rfl rfl (N:=8) rfl (rs:=_) rfl (n:=1) rfl rfl ?_
 cbv
 have ar:es.length=l.length:=by rw [aF,List.length_map]
 refine ay trivial (kj ht _ (by assumption) (by assumption)) trivial rfl rfl (fun r0 bE=>?_)
 simp only [ht] at bE
 cbv
 refine an trivial trivial rfl rfl rfl ?_
 (simp [*];done)
theorem Oy (ht:TT t) (ts:List (List D)) {l:List (aD)} {es:List (List D)} (aF:es=l.map aT) (f:Nat) (p:aD→Bool) (hl:l.length<9223372036854775807)
 (hf:∀x∈l,FC f [.d (.str x),.ptr 0 0] [.var [SL ts]] (.ret (BL (p x))) [.var [SL ts]]) {r:Int} (hr:r=idxOf p l):FC 163 [SL es,.fn f [.ptr 0 0]] [.var [SL ts]] (.ret (bq r)) [.var [SL ts]]:=by
 have hel:es.length=l.length:=by rw [aF,List.length_map]
 obtain ⟨J,hJ⟩:∃J:Nat→Nat→Prop,∀n v,J n v↔(v+n=l.length∧∀i<v,∀x,l[i]?=some x→p x=false):=⟨fun n v=>v+n=l.length∧∀i<v,∀x,l[i]?=some x→p x=false,fun _ _=>Iff.rfl⟩
 refine bC ht (aE:=[.var [SL ts]]) Tryz.func163 (c:=_) rfl rfl (N:=19) rfl (rs:=_) rfl (n:=1) rfl rfl ?_
 cbv
 refine aZ ⟨[0,1,7,8],[],[]⟩ (σ:=Nat) (fun k=>[(8,bq (t _ fun _=>(k:Int)))]) (fun _=>[]) J ?_
 cbv
 refine aA ⟨l.length,0,(hJ _ _).2 ⟨by omega,by intro i hi;simp at hi⟩,by simp only [ht];rfl,?_⟩
 rintro n k hj
 obtain ⟨h2,h3⟩:=(hJ _ _).1 hj
 clear hj
 cbv
 refine ai (fun h=>?_) (fun h=>?_)
 ·simp only [ht,aa,decide_eq_true_eq] at h
  have hk:k<l.length:=by omega
  obtain ⟨x,hx⟩:∃x,l[k]?=some x:=⟨l[k],by simp⟩
  have og:x∈l:=List.mem_of_getElem? hx
  have gY:=hf x og
  obtain ⟨px,hpx⟩:∃b,b=p x:=⟨_,rfl⟩
  rw [←hpx] at gY
  skip
  cbv
  refine gS [.str x] ?_ ?_ ?_
  ·simp only [ht,aa];refine ⟨by omega,h,?_⟩;rw [aF];intro r hr;obtain ⟨y,_,rfl⟩:=List.mem_map.1 hr;rfl
  ·simp [ht,aa,aF,hx]
  cbv
  refine dn trivial gY ?_
  cbv
  refine ai (fun hb=>?_) (fun hb=>?_)
  ·cbv
   refine an trivial trivial rfl rfl rfl ?_
   have e:=cN hx (hpx▸hb) h3
   simp only [ht,aa,hr,idxOf,e]
  cbv
  refine aA ⟨n-1,k+1,⟨by omega,(hJ _ _).2 ⟨by omega,?_⟩⟩,?_⟩
  ·intro i hi y hy
   by_cases hik:i<k
   ·exact h3 i hik y hy
   have:i=k:=by omega
   subst this;rw [hx] at hy;cases hy;rw [←hpx];exact hb
  simp only [ht,aa,aC (show k<9223372036854775807 by omega)];rfl
 simp only [ht,aa,decide_eq_false_iff_not] at h
 have hk:¬k<l.length:=by omega
 clear h
 cbv
 refine an trivial trivial rfl rfl rfl ?_
 rw [hr,idxOf,cS]
 intro i y hy
 have:i<l.length:=by
  rcases Nat.lt_or_ge i l.length with h'|h';· exact h'
  simp [List.getElem?_eq_none h'] at hy
 exact h3 i (by omega) y hy
theorem Oz (ht:TT t) (ts:List (List D)) {l:List (aD)} {es:List (List D)} (aF:es=l.map aT) (f:Nat) (p:aD→Bool) (hl:l.length<9223372036854775807)
 (hf:∀x∈l,FC f [.d (.str x),.ptr 0 0] [.var [SL ts]] (.ret (BL (p x))) [.var [SL ts]]) {r:Bool} (hr:r=l.any p):FC 110 [SL es,.fn f [.ptr 0 0]] [.var [SL ts]] (.ret (BL r)) [.var [SL ts]]:=by
 obtain ⟨k,hk⟩:∃k,k=idxOf p l:=⟨_,rfl⟩
 refine bC ht (aE:=[.var [SL ts]]) Tryz.func110 (c:=_) rfl rfl (N:=9) rfl (rs:=_) rfl (n:=1) rfl rfl ?_
 cbv
 refine dn trivial (Oy ht ts aF f p hl hf hk) ?_
 cbv
 refine an trivial trivial rfl rfl rfl ?_
 simp only [ht,hr,eT,hk]
theorem OA (ht:TT t) {l:List aR} {qs:List aD} {es ss:List (List D)} (aF:es=l.map aR.cells) (hss:ss=qs.map aT) (hl:l.length<1000000000) (hq:qs.length<1000000000) {r:Bool} (hr:r=qs.any (fun q=>decide (bM l q<0))):
 FC 110 [SL ss,.fn 185 [.ptr 0 0]] [.var [SL es]] (.ret (BL r)) [.var [SL es]]:=
 Oz ht es hss 185 (fun q=>decide (bM l q<0)) (by omega) (fun x _=>UT ht x aF hl rfl) hr
theorem I3 (ht:TT t) {es:List (List D)} (aF:∀r∈es,r.length=9) (hs:es.length*80≤140737488355328) {m:Nat} (hm:m=es.length):
 FC 186 [SL es] [] (.ret (.ow 0 9 m)) [.row 9 es]:=by
 refine bC ht (aE:=[]) Tryz.func186 (c:=_) rfl rfl (N:=8) rfl (rs:=_) rfl (n:=0) rfl rfl ?_
 cbv
 refine ⟨fun b hb=>?_⟩
 simp only [ht] at hb
 cbv
 refine ai (fun h=>?_) (fun h=>?_)
 ·have he:=hb h
  subst he
  cbv
  exact Kz trivial rfl rfl (by rw [hm];rfl) rfl
 clear hb h
 cbv
 refine ⟨?_,?_⟩
 ·simp only [ht];simp;exact ⟨hs,aF⟩
 refine Fb trivial rfl rfl rfl rfl ?_ ?_
 ·simp only [ht];rw [hm];simp
 simp only [ht];rfl
theorem FX (ht:TT t) {l:List aR} {es:List (List D)} (aF:es=l.map aR.cells) (hs:l.length<1000000000):
 FC 186 [SL es] [] (.ret (.ow 0 9 (t _ fun _=>(l.map aR.cells).length))) [.row 9 (t _ fun _=>l.map aR.cells)]:=by
 simp only [ht];subst aF
 refine I3 ht ?_ ?_ (by simp)
 ·intro r hr;obtain ⟨y,_,rfl⟩:=List.mem_map.1 hr;rfl
 simp;omega
end Dem
end
section
open Go Dem Go.Proofs
namespace Dem
variable {t:Th}
theorem OB (q:aD):(above q).length≤4:=by
 have h1:=ic q
 have h2:=jW q
 simp only [above,List.length_cons];omega
theorem XD {l:List aR} {qs:List aD} {k:Nat} {x:aD} (h:qs.any (fun q=>decide (bM l q<0))=false) (hx:qs[k]?=some x):∃(i:Nat) (y:aR),bM l x=i∧l[i]?=some y∧i<l.length:=by
 have h1:¬bM l x<0:=by
  intro h2
  have:qs.any (fun q=>decide (bM l q<0))=true:=List.any_eq_true.2 ⟨x,List.mem_of_getElem? hx,by simpa using h2⟩
  rw [h] at this;cases this
 rcases rT (q:=x) (r:=bM l x) rfl with ⟨e1,_,_⟩|⟨i,y,e1,_,e2,e3,_⟩
 ·omega
 exact ⟨i,y,e1,e3,e2⟩
theorem M7 (ht:TT t) (f:Nat) (g:aR→aR×Int) (v1 v2 v3 v4:Int) (q:aD) {l:List aR} {es:List (List D)} (aF:es=l.map aR.cells) (hl:l.length<100000) (hq:q.length<1000000000000)
 (hf:∀(p:aD) (a b c d e z g0 h:Int),FC f [V4 v1 v2 v3 v4,.agg [ST p,az a,az b,az c,az d,az e,az z,az g0,az h]] [] (.ret (RW (t _ fun _=>g ⟨p,⟨a,b,c,d⟩,⟨e,z,g0,h⟩⟩))) []):
 FC 142 [SL es,ST q,.fn f [.dF [V4 v1 v2 v3 v4]]] [] (.ret (FE t (t _ fun _=>qp g l q))) []:=by
 have hal:=OB q
 obtain ⟨nq,Gi⟩:∃p,p=named q:=⟨_,rfl⟩
 obtain ⟨aq,ZT⟩:∃p,p=above q:=⟨_,rfl⟩
 rw [←ZT] at hal
 refine bC ht (aE:=[]) Tryz.func142 (c:=_) rfl rfl (N:=55) rfl (rs:=_) rfl (n:=0) rfl rfl ?_
 cbv
 have ar:es.length=l.length:=by rw [aF,List.length_map]
 refine ay trivial (wq ht _ (by assumption)) trivial rfl rfl (fun r0 bE=>?_)
 simp only [ht] at bE
 rw [←Gi] at bE
 subst r0
 cbv
 refine ai (fun h1=>?_) (fun h1=>?_)
 ·simp [ht] at h1
  cbv
  refine an trivial trivial rfl rfl rfl ?_
  (simp only [ht,qp,←Gi,←ZT];simp_all;done)
 simp [ht] at h1
 cbv
 refine aS trivial (Iy ht _ (by assumption)) trivial rfl rfl rfl (fun r2 cP=>?_)
 simp only [ht] at cP
 rw [←ZT] at cP
 subst r2
 cbv
 (obtain ⟨r9,dN⟩:∃r,r=aq.any (fun q=>decide (bM l q<0)):=⟨_,rfl⟩;refine cE [0] trivial rfl rfl (OA ht aF (qs:=aq) (by simp only [ht]) (by omega) (by omega) dN) (bK ?_))
 cbv
 refine ai (fun h3=>?_) (fun h3=>?_)
 ·cbv
  refine an trivial trivial rfl rfl rfl ?_
  (simp only [ht,qp,←Gi,←ZT];simp_all;done)
 cbv
 refine qn trivial (FX ht (by assumption) (by omega)) trivial rfl (.inr rfl) ?_
 cbv
 obtain ⟨J4,Gh⟩:∃J4:Nat→Int×List (List D)→Prop,∀n i u,J4 n (i,u)↔(∃(k:Nat) (o:List aR),i=k∧k+n=aq.length∧u=o.map aR.cells∧o.length=l.length∧qp g l q=jX g l (aq.drop k) o):=⟨fun n v=>match v with|(i,u)=>(∃(k:Nat) (o:List aR),i=k∧k+n=aq.length∧u=o.map aR.cells∧o.length=l.length∧qp g l q=jX g l (aq.drop k) o),fun _ _ _=>Iff.rfl⟩
 refine aZ ⟨[2,3,9,27,28,29],[],[]⟩ (σ:=Int×List (List D)) (fun v=>[(29,.d (.int .i64 (t _ fun _=>v.1)))]) (fun v=>[(1,.row 9 (t _ fun _=>v.2))]) J4 ?_
 cbv
 refine aA ⟨aq.length,(_,_),(Gh _ _ _).2 ?_,by simp only [ht];rfl,?_⟩
 ·exact ⟨0,l,rfl,by simp,rfl,rfl,by rw [qp,←Gi,←ZT,←dN];simp_all⟩
 rintro n ⟨i,u⟩ hj
 replace hj:=(Gh _ _ _).1 hj
 obtain ⟨k,o,rfl,j1,j2,j3,j4⟩:=hj
 have MO:u.length=o.length:=by rw [j2,List.length_map]
 cbv
 refine ai (fun h5=>?_) (fun h5=>?_)
 ·simp [ht,aa] at h5
  cbv
  (refine dg ht (l:=aq) (cells:=aT) (cT:=dR t) (by simp only [ht];done) (by simp only [ht,aa];omega) (by simp only [ht,aa];omega) (fun _=>rfl) (fun _=>rfl) (fun xn RX=>?_);simp only [ht] at RX;replace RX:aq[k]?=some xn:=RX;rw [bO RX,jX] at j4;obtain ⟨zz,y,e1,e2,e3⟩:=XD (dN.symm.trans (by assumption)) RX;rw [e1] at j4;simp only [Int.toNat_natCast,List.getD_eq_getElem?_getD,e2,Option.getD_some] at j4)
  cbv
  refine ay trivial (kj ht _ (by assumption) (by omega)) trivial rfl rfl (fun r6 gv=>?_)
  simp only [ht] at gv
  rw [e1] at gv
  cbv
  refine Bz ht aF (cT:=aR.aH t) e2 (by assumption) (fun _=>rfl) (fun _=>rfl) ?_
  cbv
  (refine ay trivial (hf _ _ _ _ _ _ _ _ _) trivial rfl rfl (fun rg erg=>?_);simp only [ht] at erg;obtain ⟨⟨gp,⟨ga,gb,gc,gd⟩,⟨ge,gf,gg,gh⟩⟩,ge0⟩:=rg;replace erg:_=g y:=erg;rw [←erg] at j4;simp only at j4)
  cbv
  refine ai (fun h8=>?_) (fun h8=>?_)
  ·simp [ht] at h8
   cbv
   refine an trivial trivial rfl rfl rfl ?_
   (simp [*];done)
  simp [ht] at h8
  cbv
  refine ⟨?_,?_⟩
  ·(simp only [ht];simp_all;done)
  refine ⟨?_,?_⟩
  ·(simp only [ht];simp_all;done)
  cbv
  refine bf (_,_) (by simp only [ht];rfl) (n-1) ?_ ((Gh _ _ _).2 ?_)
  ·omega
  simp only [aa]
  (refine ⟨k+1,o.set zz ⟨gp,⟨ga,gb,gc,gd⟩,⟨ge,gf,gg,gh⟩⟩,aC (by omega),by omega,?_,by simp [j3],?_⟩<;>simp_all [bF,List.map_set])
 simp [ht,aa] at h5
 cbv
 (refine an trivial (by simp only [ht];simp [MO,j3]) rfl rfl rfl ?_;rw [List.drop_eq_nil_of_le (by omega),jX] at j4;simp only [ht,j4,j2];done)
end Dem
end
section
open Go Dem Go.Proofs
namespace Dem
variable {t:Th}
theorem Ls (ht:TT t) (q:aD) (v1 v2 v3 v4:Int) {l:List aR} {es:List (List D)} (aF:es=l.map aR.cells) (hl:l.length<100000) (hq:q.length<1000000000000):
 FC 82 [SL es,ST q,V4 v1 v2 v3 v4] [] (.ret (FE t (t _ fun _=>iv l q ⟨v1,v2,v3,v4⟩))) []:=by
 have hc:=M7 ht 143 (gm ⟨v1,v2,v3,v4⟩) v1 v2 v3 v4 q aF hl hq (fun p a b c d e z g0 h=>Lq ht v1 v2 v3 v4 p a b c d e z g0 h)
 refine bC ht (aE:=[]) Tryz.func82 (c:=_) rfl rfl (N:=16) rfl (rs:=_) rfl (n:=0) rfl rfl ?_
 cbv
 have ar:es.length=l.length:=by rw [aF,List.length_map]
 (refine aS trivial hc trivial rfl rfl rfl (fun r9 dN=>?_);simp only [ht] at dN)
 cbv
 refine an trivial trivial rfl rfl rfl ?_
 (simp [iv, *];done)
theorem Lt (ht:TT t) (q:aD) (v1 v2 v3 v4:Int) {l:List aR} {es:List (List D)} (aF:es=l.map aR.cells) (hl:l.length<100000) (hq:q.length<1000000000000):
 FC 126 [SL es,ST q,V4 v1 v2 v3 v4] [] (.ret (FE t (t _ fun _=>sQ l q ⟨v1,v2,v3,v4⟩))) []:=by
 have hc:=M7 ht 173 (ek ⟨v1,v2,v3,v4⟩) v1 v2 v3 v4 q aF hl hq (fun p a b c d e z g0 h=>Lr ht v1 v2 v3 v4 p a b c d e z g0 h)
 refine bC ht (aE:=[]) Tryz.func126 (c:=_) rfl rfl (N:=16) rfl (rs:=_) rfl (n:=0) rfl rfl ?_
 cbv
 have ar:es.length=l.length:=by rw [aF,List.length_map]
 (refine aS trivial hc trivial rfl rfl rfl (fun r9 dN=>?_);simp only [ht] at dN)
 cbv
 refine an trivial trivial rfl rfl rfl ?_
 (simp [sQ, *];done)
end Dem
end
section
open Go Dem Go.Proofs
namespace Dem
variable {t:Th}
theorem OC (ht:TT t) (p:aD) (a b c d e f g h:Int) {l:List aR} {es:List (List D)} (aF:es=l.map aR.cells) (hl:l.length<100000) (fR:∀x∈l,x.path.length<1000000000000):
 FC 106 [SL es,.agg [ST p,az a,az b,az c,az d,az e,az f,az g,az h]] [] (.ret (bY (t _ fun _=>k9 l ⟨p,⟨a,b,c,d⟩,⟨e,f,g,h⟩⟩))) []:=by
 refine bC ht (aE:=[]) Tryz.func106 (c:=_) rfl rfl (N:=49) rfl (rs:=_) rfl (n:=0) rfl rfl ?_
 cbv
 have ar:es.length=l.length:=by rw [aF,List.length_map]
 obtain ⟨J0,eg⟩:∃J0:Nat→Int×Int×Int×Int×Int→Prop,∀n i s1 s2 s3 s4,J0 n (i,s1,s2,s3,s4)↔(∃k:Nat,i=k∧k+n=l.length∧qq p l bz.zero=qq p (l.drop k) ⟨s1,s2,s3,s4⟩):=⟨fun n v=>match v with|(i,s1,s2,s3,s4)=>(∃k:Nat,i=k∧k+n=l.length∧qq p l bz.zero=qq p (l.drop k) ⟨s1,s2,s3,s4⟩),fun _ _ _ _ _ _=>Iff.rfl⟩
 refine aZ ⟨[3,5,10,11,12],[],[]⟩ (σ:=Int×Int×Int×Int×Int) (fun v=>[(12,.d (.int .i64 (t _ fun _=>v.1)))]) (fun v=>[(1,.var [.d (.int .u64 (t _ fun _=>v.2.1)),.d (.int .u64 (t _ fun _=>v.2.2.1)),.d (.int .u64 (t _ fun _=>v.2.2.2.1)),.d (.int .u64 (t _ fun _=>v.2.2.2.2))])]) J0 ?_
 cbv
 refine aA ⟨l.length,(_,_,_,_,_),(eg _ _ _ _ _ _).2 ?_,by simp only [ht];rfl,?_⟩
 ·exact ⟨0,rfl,by simp,rfl⟩
 rintro n ⟨i,s1,s2,s3,s4⟩ hj
 replace hj:=(eg _ _ _ _ _ _).1 hj
 obtain ⟨k,rfl,j1,j4⟩:=hj
 cbv
 refine ai (fun h1=>?_) (fun h1=>?_)
 ·simp [ht,aa,ar] at h1
  cbv
  refine dg ht aF (cT:=aR.aH t) (by (simp only [ht,aa];omega)) (by (simp only [ht,aa];omega)) (fun _=>rfl) (fun _=>rfl) (fun x2 iw=>?_)
  simp [ht,aa] at iw
  obtain ⟨pp,JI⟩:∃pp,pp=parent (x2).path:=⟨_,rfl⟩
  obtain ⟨⟨⟨w1,w2,w3,w4⟩,wk⟩,hW⟩:∃r,r=gT ⟨s1,s2,s3,s4⟩ (x2).used:=⟨_,rfl⟩
  rw [bO iw,qq,←JI,←hW] at j4
  have sx2:=fR _ (List.mem_of_getElem? iw)
  cbv
  refine bJ [true,true,true,true,false,false,false,false,false,true,true] (by kernel_rfl) (by kernel_rfl) ?_
  cbv
  iterate 2 refine gI (by simp [ht]) ?_
  refine aM (fun g3=>⟨by simp [ht] at g3 ⊢;exact g3,trivial,sV ht _ (by assumption)⟩) rfl rfl (fun r4 dO=>?_)
  simp only [ht] at dO
  rw [←JI] at dO
  subst r4
  cbv
  iterate 3 refine gI (by simp [ht]) ?_
  refine pI (by simp [ht]) ?_
  refine ai (fun h5=>?_) (fun h5=>?_)
  ·simp [ht] at h5
   cbv
   refine bf (_,_,_,_,_) (by simp only [ht];rfl) (n-1) ?_ ((eg _ _ _ _ _ _).2 ?_)
   ·omega
   simp only [aa]
   (refine ⟨k+1,aC (by omega),by omega,?_⟩;rw [j4];clear j4 eg;rcases h5 with h5|h5<;>simp [h5];done)
  simp [ht] at h5
  cbv
  refine ay trivial (FW ht _ _ _ _ _ _ _ _) trivial rfl rfl (fun r6 gv=>?_)
  simp only [ht] at gv
  replace gv:=gv.trans (show _=((⟨w1,w2,w3,w4⟩,wk):bz×Bool) from hW.symm)
  subst r6
  cbv
  refine ai (fun h7=>?_) (fun h7=>?_)
  ·simp [ht] at h7
   cbv
   refine an trivial trivial rfl rfl rfl ?_
   (simp only [ht,k9];rw [j4];simp_all;done)
  simp [ht] at h7
  cbv
  refine bf (_,_,_,_,_) (by simp only [ht];rfl) (n-1) ?_ ((eg _ _ _ _ _ _).2 ?_)
  ·omega
  simp only [aa]
  (refine ⟨k+1,aC (by omega),by omega,?_⟩;simp only at j4;rw [j4];simp_all;done)
 simp [ht,aa,ar] at h1
 cbv
 refine ay trivial (oJ ht _ _ _ _ _ _ _ _) trivial rfl rfl (fun r8 qy=>?_)
 simp only [ht] at qy
 cbv
 iterate 3 refine gI (by simp) ?_
 refine aM (fun g9=>⟨by simp at g9 ⊢;exact g9,trivial,oJ ht _ _ _ _ _ _ _ _⟩) rfl rfl (fun r10 BR=>?_)
 simp only [ht] at BR
 cbv
 refine pI (by simp) ?_
 refine an trivial trivial rfl rfl rfl ?_
 (rw [List.drop_eq_nil_of_le (by omega),qq] at j4;simp [k9, *];done)
theorem RY (ht:TT t) (x:aR) {l:List aR} {es:List (List D)} (aF:es=l.map aR.cells) (hl:l.length<100000) (fR:∀x∈l,x.path.length<1000000000000) {r:Bool} (hr:r=!k9 l x):
 FC 105 [.agg [ST x.path,az x.dc.a,az x.dc.b,az x.dc.c,az x.dc.d,az x.used.a,az x.used.b,az x.used.c,az x.used.d],.ptr 0 0] [.var [SL es]] (.ret (BL r)) [.var [SL es]]:=by
 obtain ⟨nm,⟨a,b,c,d⟩,⟨e,g,u,v⟩⟩:=x
 refine bC ht (aE:=[.var [SL es]]) Tryz.func105 (c:=_) rfl rfl (N:=8) rfl (rs:=_) rfl (n:=1) rfl rfl ?_
 cbv
 have ar:es.length=l.length:=by rw [aF,List.length_map]
 refine ay trivial (OC ht _ _ _ _ _ _ _ _ _ (by assumption) (by assumption) (by assumption)) trivial rfl rfl (fun r0 bE=>?_)
 simp only [ht] at bE
 cbv
 refine an trivial trivial rfl rfl rfl ?_
 (simp [*];done)
theorem OD (ht:TT t) (ts:List (List D)) {l:List (aR)} {es:List (List D)} (aF:es=l.map aR.cells) (f:Nat) (p:aR→Bool) (hl:l.length<9223372036854775807)
 (hf:∀x∈l,FC f [.agg [ST x.path,az x.dc.a,az x.dc.b,az x.dc.c,az x.dc.d,az x.used.a,az x.used.b,az x.used.c,az x.used.d],.ptr 0 0] [.var [SL ts]] (.ret (BL (p x))) [.var [SL ts]]) {r:Int} (hr:r=idxOf p l):FC 90 [SL es,.fn f [.ptr 0 0]] [.var [SL ts]] (.ret (bq r)) [.var [SL ts]]:=by
 have hel:es.length=l.length:=by rw [aF,List.length_map]
 obtain ⟨J,hJ⟩:∃J:Nat→Nat→Prop,∀n v,J n v↔(v+n=l.length∧∀i<v,∀x,l[i]?=some x→p x=false):=⟨fun n v=>v+n=l.length∧∀i<v,∀x,l[i]?=some x→p x=false,fun _ _=>Iff.rfl⟩
 refine bC ht (aE:=[.var [SL ts]]) Tryz.func90 (c:=_) rfl rfl (N:=19) rfl (rs:=_) rfl (n:=1) rfl rfl ?_
 cbv
 refine aZ ⟨[0,1,7,8],[],[]⟩ (σ:=Nat) (fun k=>[(8,bq (t _ fun _=>(k:Int)))]) (fun _=>[]) J ?_
 cbv
 refine aA ⟨l.length,0,(hJ _ _).2 ⟨by omega,by intro i hi;simp at hi⟩,by simp only [ht];rfl,?_⟩
 rintro n k hj
 obtain ⟨h2,h3⟩:=(hJ _ _).1 hj
 clear hj
 cbv
 refine ai (fun h=>?_) (fun h=>?_)
 ·simp only [ht,aa,decide_eq_true_eq] at h
  have hk:k<l.length:=by omega
  obtain ⟨x,hx⟩:∃x,l[k]?=some x:=⟨l[k],by simp⟩
  have og:x∈l:=List.mem_of_getElem? hx
  have gY:=hf x og
  obtain ⟨px,hpx⟩:∃b,b=p x:=⟨_,rfl⟩
  rw [←hpx] at gY
  obtain ⟨nm,⟨a,b,c,d⟩,⟨e,g,u,v⟩⟩:=x
  cbv
  refine gS [.str nm,.int .u64 a,.int .u64 b,.int .u64 c,.int .u64 d,.int .u64 e,.int .u64 g,.int .u64 u,.int .u64 v] ?_ ?_ ?_
  ·simp only [ht,aa];refine ⟨by omega,h,?_⟩;rw [aF];intro r hr;obtain ⟨y,_,rfl⟩:=List.mem_map.1 hr;rfl
  ·simp [ht,aa,aF,hx]
  cbv
  refine dn trivial gY ?_
  cbv
  refine ai (fun hb=>?_) (fun hb=>?_)
  ·cbv
   refine an trivial trivial rfl rfl rfl ?_
   have e:=cN hx (hpx▸hb) h3
   simp only [ht,aa,hr,idxOf,e]
  cbv
  refine aA ⟨n-1,k+1,⟨by omega,(hJ _ _).2 ⟨by omega,?_⟩⟩,?_⟩
  ·intro i hi y hy
   by_cases hik:i<k
   ·exact h3 i hik y hy
   have:i=k:=by omega
   subst this;rw [hx] at hy;cases hy;rw [←hpx];exact hb
  simp only [ht,aa,aC (show k<9223372036854775807 by omega)];rfl
 simp only [ht,aa,decide_eq_false_iff_not] at h
 have hk:¬k<l.length:=by omega
 clear h
 cbv
 refine an trivial trivial rfl rfl rfl ?_
 rw [hr,idxOf,cS]
 intro i y hy
 have:i<l.length:=by
  rcases Nat.lt_or_ge i l.length with h'|h';· exact h'
  simp [List.getElem?_eq_none h'] at hy
 exact h3 i (by omega) y hy
theorem OE (ht:TT t) (ts:List (List D)) {l:List (aR)} {es:List (List D)} (aF:es=l.map aR.cells) (f:Nat) (p:aR→Bool) (hl:l.length<9223372036854775807)
 (hf:∀x∈l,FC f [.agg [ST x.path,az x.dc.a,az x.dc.b,az x.dc.c,az x.dc.d,az x.used.a,az x.used.b,az x.used.c,az x.used.d],.ptr 0 0] [.var [SL ts]] (.ret (BL (p x))) [.var [SL ts]]) {r:Bool} (hr:r=l.any p):FC 45 [SL es,.fn f [.ptr 0 0]] [.var [SL ts]] (.ret (BL r)) [.var [SL ts]]:=by
 obtain ⟨k,hk⟩:∃k,k=idxOf p l:=⟨_,rfl⟩
 refine bC ht (aE:=[.var [SL ts]]) Tryz.func45 (c:=_) rfl rfl (N:=9) rfl (rs:=_) rfl (n:=1) rfl rfl ?_
 cbv
 refine dn trivial (OD ht ts aF f p hl hf hk) ?_
 cbv
 refine an trivial trivial rfl rfl rfl ?_
 simp only [ht,hr,eT,hk]
theorem OF (ht:TT t) {l:List aR} {es:List (List D)} (aF:es=l.map aR.cells) (hl:l.length<100000) (fR:∀x∈l,x.path.length<1000000000000) {r:Bool} (hr:r=l.any (fun e=>!k9 l e)):
 FC 45 [SL es,.fn 105 [.ptr 0 0]] [.var [SL es]] (.ret (BL r)) [.var [SL es]]:=
 OE ht es aF 105 (fun e=>!k9 l e) (by omega) (fun x _=>RY ht x aF hl fR rfl) hr
end Dem
end
