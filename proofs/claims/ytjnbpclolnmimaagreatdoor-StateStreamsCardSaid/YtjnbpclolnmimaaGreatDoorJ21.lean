/- Parts of a proof, joined. -/
import Derived.Test.YtjnbpclolnmimaaGreatDoorJ20
set_option linter.unusedSimpArgs false
set_option linter.unusedVariables false
set_option maxRecDepth 100000
set_option maxHeartbeats 4000000
section
open Go Dem Go.Proofs
namespace Dem
variable {t:Th}
theorem elemAt {α:Type} [Inhabited α] (l:List α) (k:Nat):∃x,k<l.length→l[k]?=some x:=by
 by_cases h:k<l.length
 ·exact ⟨l[k],fun _=>List.getElem?_eq_getElem h⟩
 exact ⟨default,fun h'=>absurd h' h⟩
theorem IA {t:Th} (ht:TT t) {α:Type} {l:List α} {cells cT:α→List D} {es:List (List D)} {g:Bool} {c:Prop} (aF:es=l.map cells) {z:Int} {n:Nat} (i:Nat) (x:α) {K:List D→Prop} (hi:g=true→z=i∧l[i]?=some x) (hn:∀x,(cells x).length=n) (hT:∀x,cells x=cT x)
 (hc:g=true→c) (hK:K (cT x)):ol g (c∧(t Prop fun _=>0≤z∧z<es.length∧∀r∈es,r.length=n)) (t _ fun _=>es.getD z.toNat []) K:=by
 refine QK (cT x) (fun hg=>?_) hK
 obtain ⟨h1,h2⟩:=hi hg
 obtain ⟨ds,h,hk⟩:=Bz (K:=fun ds=>ds=cT x) ht aF h2 h1 hn hT rfl
 obtain ⟨h3,h4⟩:=h rfl
 exact ⟨⟨hc hg,h3⟩,h4.trans hk⟩
theorem rT {l:List aR} {q:aD} {r:Int} (h:r=bM l q):(r=-1∧bM l q=-1∧l.findIdx? (fun e=>decide (e.path=q))=none)∨∃(k:Nat) (x:aR),r=k∧bM l q=k∧k<l.length∧l[k]?=some x∧l.findIdx? (fun e=>decide (e.path=q))=some k:=by
 rcases cU (p:=fun e:aR=>decide (e.path=q)) (l:=l) (r:=r) h with ⟨e1,e2,e3⟩|⟨i,x,hi,hil,e1,e2,e3,e4⟩
 ·exact .inl ⟨e1,by rw [←h,e1],e2⟩
 exact .inr ⟨i,x,hi,by rw [←h,hi],hil,e1,e3⟩
def Ur (l:List aR) (q:aD):Nat:=match l.findIdx? (fun e=>!Op.bytesLess e.path q) with
 |some k=>k
 |none=>l.length
theorem D5 {l:List aR} {q:aD} {v:bz} (h:l.findIdx? (fun e=>decide (e.path=q))=none) (h1:named q=true) (h2:¬q=[]→0≤bM l (parent q)) (h3:bM l q<0→(l.length:Int)<16):
 we l q v=(l.take (Ur l q)++⟨q,v,bz.zero⟩::l.drop (Ur l q),0):=by
 have e0:bM l q=-1:=by unfold bM idxOf;rw [h]
 have h3:=h3 (by omega)
 unfold we Ur
 rw [if_neg (by simp [h1]),if_neg (by simp;exact fun g=>by have:=h2 g;omega),if_neg (by simp;omega)]
 simp only [h]
 cases l.findIdx? (fun e=>!Op.bytesLess e.path q)<;>simp
theorem N9 {l:List aR} {q:aD} {v:bz} (h1:named q=true) (h2:¬q=[]→0≤bM l (parent q)) (h3:bM l q<0) (h4:(16:Int)≤l.length):we l q v=(l,9):=by
 unfold we
 rw [if_neg (by simp [h1]),if_neg (by simp;exact fun g=>by have:=h2 g;omega),if_pos (by simp;omega)]
theorem D6 {l:List aR} {q:aD} {v:bz} {k:Nat} {x:aR} (h:l.findIdx? (fun e=>decide (e.path=q))=some k) (hx:l[k]?=some x) (h1:named q=true) (h2:¬q=[]→0≤bM l (parent q)):
 we l q v=if mU x.used v then (l.set k {x with dc:=v},0) else (l,10):=by
 have e0:bM l q=k:=by unfold bM idxOf;rw [h]
 unfold we
 rw [if_neg (by simp [h1]),if_neg (by simp;exact fun g=>by have:=h2 g;omega),if_neg (by simp;omega)]
 simp only [h,List.getD_eq_getElem?_getD,hx,Option.getD_some]
 cases mU x.used v<;>simp
theorem Ac (ht:TT t) (q:aD) (a b c d:Int) {l:List aR} {es:List (List D)} (aF:es=l.map aR.cells) (hl:l.length<100000) (hq:q.length<1000000000000) (hpq:(parent q).length<1000000000000):
 FC 34 [SL es,ST q,V4 a b c d] [] (.ret (FE t (t _ fun _=>we l q ⟨a,b,c,d⟩))) []:=by
 obtain ⟨pq,JI⟩:∃p,p=parent q:=⟨_,rfl⟩
 obtain ⟨nq,Gi⟩:∃p,p=named q:=⟨_,rfl⟩
 refine bC ht (aE:=[]) Tryz.func34 (c:=_) rfl rfl (N:=77) rfl (rs:=_) rfl (n:=0) rfl rfl ?_
 cbv
 have ar:es.length=l.length:=by rw [aF,List.length_map]
 refine ay trivial (kj ht _ (by assumption) (by omega)) trivial rfl rfl (fun r0 bE=>?_)
 simp only [ht] at bE
 (rcases rT (q:=q) bE with ⟨e1,e0,e2⟩|⟨i,x,e1,e0,hil,e3,e2⟩)
 ·cbv
  refine ay trivial (wq ht _ (by assumption)) trivial rfl rfl (fun r1 cX=>?_)
  simp only [ht] at cX
  rw [←Gi] at cX
  subst r1
  cbv
  refine ai (fun h2=>?_) (fun h2=>?_)
  ·simp [ht] at h2
   cbv
   refine an trivial trivial rfl rfl rfl ?_
   (subst JI Gi;simp_all [we];done)
  simp [ht] at h2
  cbv
  iterate 2 refine gI (by simp [ht]) ?_
  refine aM (fun g3=>⟨by simp [ht] at g3 ⊢;exact g3,trivial,sV ht _ (by assumption)⟩) rfl rfl (fun r4 dO=>?_)
  simp only [ht] at dO
  rw [←JI] at dO
  subst r4
  cbv
  refine aM (fun g5=>⟨by simp [ht] at g5 ⊢;exact g5,trivial,kj ht _ (by assumption) (by omega)⟩) rfl rfl (fun r6 gv=>?_)
  simp only [ht] at gv
  skip
  cbv
  refine gI (by simp [ht]) ?_
  refine pI (by simp [ht]) ?_
  refine ai (fun h7=>?_) (fun h7=>?_)
  ·simp [ht] at h7
   cbv
   refine an trivial trivial rfl rfl rfl ?_
   (subst JI Gi;simp_all [we];done)
  simp [ht] at h7
  cbv
  iterate 3 refine gI (by simp [ht]) ?_
  refine pI (by simp [ht]) ?_
  refine ai (fun h8=>?_) (fun h8=>?_)
  ·simp [ht,aa,ar] at h8
   cbv
   refine an trivial trivial rfl rfl rfl ?_
   (simp only [ht];rw [N9 (by rw [←Gi];assumption) (fun g=>by rw [←JI,←gv];exact h7 g) (by omega) h8.2];simp [aF];done)
  simp [ht,aa,ar] at h8
  cbv
  refine bJ [true,true,true,false,false,false,false,false,false,true,true,true,true] (by kernel_rfl) (by kernel_rfl) ?_
  cbv
  iterate 2 refine gI (by simp [ht]) ?_
  (refine IA ht aF (cT:=aR.aH t) 0 default (fun g=>absurd g (by simp [ht,e1])) (fun _=>rfl) (fun _=>by simp only [aR.aH]) (fun g=>by exact ⟨g,g,trivial⟩) ?_)
  cbv
  iterate 3 refine gI (by simp [ht]) ?_
  refine aM (fun g9=>⟨by simp [ht] at g9 ⊢;exact g9,trivial,oJ ht _ _ _ _ _ _ _ _⟩) rfl rfl (fun r10 BR=>?_)
  simp only [ht] at BR
  cbv
  refine gI (by simp [ht]) ?_
  refine pI (by simp [ht]) ?_
  refine ai (fun h11=>?_) (fun h11=>?_)
  ·simp [ht] at h11
   omega
  simp [ht] at h11
  cbv
  refine qn trivial (zk ht (by assumption) (by omega)) trivial rfl (.inr rfl) ?_
  cbv
  refine ai (fun h12=>?_) (fun h12=>?_)
  ·simp [ht] at h12
   omega
  simp [ht] at h12
  cbv
  (obtain ⟨r9,dN⟩:∃r,r=idxOf (fun o:aR=>!Op.bytesLess o.path q) l:=⟨_,rfl⟩;refine cE [0] trivial rfl rfl (Rp ht q aF 91 (fun o:aR=>!Op.bytesLess o.path q) (by omega) (fun x _=>Xi ht q x rfl) dN) (bK ?_);have ec:=cU dN;clear dN;rcases ec with ⟨f1,f2,f3⟩|⟨z,y,f0,fz,f1,f2,f3,f4⟩)
  ·cbv
   refine ai (fun K7=>?_) (fun K7=>?_)
   ·simp [ht] at K7
    cbv
    refine cE [3] trivial rfl rfl (wu ht (l:=l) (x:=⟨q,⟨a,b,c,d⟩,bz.zero⟩) (k:=Ur l q) (by (simp [ht,Ur,f2,ar];done)) (by (simp [Ur,f2];done)) (by simp only [aa] at*;omega)) (bK ?_)
    cbv
    refine an trivial trivial rfl rfl rfl ?_
    (simp only [ht];rw [D5 e2 (by rw [←Gi];assumption) (fun g=>by rw [←JI,←gv];exact h7 g) (fun g=>h8 (by omega))])
   simp [ht] at K7
   omega
  cbv
  refine ai (fun Rq=>?_) (fun Rq=>?_)
  ·simp [ht] at Rq
   (simp only [aa] at*;omega)
  simp [ht] at Rq
  cbv
  refine cE [3] trivial rfl rfl (wu ht (l:=l) (x:=⟨q,⟨a,b,c,d⟩,bz.zero⟩) (k:=Ur l q) (by (simp only [Ur,f3];exact f0)) (by (simp only [Ur,f3];omega)) (by simp only [aa] at*;omega)) (bK ?_)
  cbv
  refine an trivial trivial rfl rfl rfl ?_
  (simp only [ht];rw [D5 e2 (by rw [←Gi];assumption) (fun g=>by rw [←JI,←gv];exact h7 g) (fun g=>h8 (by omega))])
 cbv
 refine ay trivial (wq ht _ (by assumption)) trivial rfl rfl (fun r15 K8=>?_)
 simp only [ht] at K8
 rw [←Gi] at K8
 subst r15
 cbv
 refine ai (fun Xj=>?_) (fun Xj=>?_)
 ·simp [ht] at Xj
  cbv
  refine an trivial trivial rfl rfl rfl ?_
  (subst JI Gi;simp_all [we];done)
 simp [ht] at Xj
 cbv
 iterate 2 refine gI (by simp [ht]) ?_
 refine aM (fun g17=>⟨by simp [ht] at g17 ⊢;exact g17,trivial,sV ht _ (by assumption)⟩) rfl rfl (fun r18 Oa=>?_)
 simp only [ht] at Oa
 rw [←JI] at Oa
 subst r18
 cbv
 refine aM (fun g19=>⟨by simp [ht] at g19 ⊢;exact g19,trivial,kj ht _ (by assumption) (by omega)⟩) rfl rfl (fun r20 Ob=>?_)
 simp only [ht] at Ob
 skip
 cbv
 refine gI (by simp [ht]) ?_
 refine pI (by simp [ht]) ?_
 refine ai (fun ZE=>?_) (fun ZE=>?_)
 ·simp [ht] at ZE
  cbv
  refine an trivial trivial rfl rfl rfl ?_
  (subst JI Gi;simp_all [we];done)
 simp [ht] at ZE
 cbv
 iterate 3 refine gI (by simp [ht]) ?_
 refine pI (by simp [ht]) ?_
 refine ai (fun h22=>?_) (fun h22=>?_)
 ·simp [ht,aa,ar] at h22
  (simp only [aa] at*;omega)
 simp [ht,aa,ar] at h22
 cbv
 refine bJ [true,true,true,false,false,false,false,false,false,true,true,true,true] (by kernel_rfl) (by kernel_rfl) ?_
 cbv
 iterate 2 refine gI (by simp [ht]) ?_
 (refine IA ht aF (cT:=aR.aH t) i x (fun g=>⟨e1,e3⟩) (fun _=>rfl) (fun _=>by simp only [aR.aH]) (fun g=>by exact ⟨g,g,trivial⟩) ?_)
 cbv
 iterate 3 refine gI (by simp [ht]) ?_
 refine aM (fun g23=>⟨by simp [ht] at g23 ⊢;exact g23,trivial,oJ ht _ _ _ _ _ _ _ _⟩) rfl rfl (fun r24 abO=>?_)
 simp only [ht] at abO
 cbv
 refine gI (by simp [ht]) ?_
 refine pI (by simp [ht]) ?_
 refine ai (fun h25=>?_) (fun h25=>?_)
 ·simp [ht] at h25
  cbv
  refine an trivial trivial rfl rfl rfl ?_
  (have ts:=D6 (v:=⟨a,b,c,d⟩) e2 e3 (by rw [←Gi];assumption) (fun g=>by rw [←JI,←Ob];exact ZE g);simp only [ht];rw [ts];simp_all;done)
 simp [ht] at h25
 cbv
 refine qn trivial (zk ht (by assumption) (by omega)) trivial rfl (.inr rfl) ?_
 cbv
 refine ai (fun h26=>?_) (fun h26=>?_)
 ·simp [ht] at h26
  cbv
  refine ⟨?_,?_⟩
  ·(subst JI Gi;simp_all;done)
  refine ⟨?_,?_⟩
  ·(subst JI Gi;simp_all;done)
  cbv
  refine an trivial (by simp [ht]) rfl rfl rfl ?_
  (have ts:=D6 (v:=⟨a,b,c,d⟩) e2 e3 (by rw [←Gi];assumption) (fun g=>by rw [←JI,←Ob];exact ZE g);simp only [ht];rw [ts];simp_all [List.map_set,bF];done)
 simp [ht] at h26
 (simp only [aa] at*;omega)
end Dem
end
section
open Go Dem Go.Proofs
namespace Dem
variable {t:Th}
theorem X5 (x:Int):IntKind.i64.wrap x=(x+9223372036854775808)%18446744073709551616-9223372036854775808:=by
 simp only [IntKind.wrap];simp [IntKind.bits,IntKind.signed];omega
theorem mw {l:List bU} {k:Nat} (hk:k≤l.length) (h:k≤60):(fK l k).l.length=min k 32∧(fK l k).first=((k-32:Nat):Int):=by
 rw [pT l k hk (by omega)]
 simp only [List.length_drop,List.length_take]
 exact ⟨by omega,trivial⟩
theorem Ey {l:List bU} {k:Nat} {x:bU} {r:qG} {a b c u:Int} (hx:l[k]?=some x) (ha:a=x.round) (hb:b=x.id) (hc:c=x.kind) (hu:u=(fK l k).first) (hr:r=tell ⟨u,(fK l k).l⟩ ⟨a,b,c⟩):r=fK l (k+1):=by
 subst ha hb hc hu;rw [hr,K2 hx]
theorem L3 (n:Nat):dx n 0=n-32:=by unfold dx;omega
theorem Wd {k n:Nat} {len:Nat} (h1:k+n=60) (h2:k≤len) (h:k<len→60≤(k:Int)):k=min len 60:=by
 by_cases g:k<len
 ·have:=h g;omega
 omega
theorem Vn {l:List bU} {k n:Nat} {v:List (List D)} {u:Int} (h1:k+n=60) (h2:k≤l.length) (h:k<l.length→60≤(k:Int)) (j3:u=(fK l k).first) (j4:v=(fK l k).l.map bU.cells)
 (h4:¬(v.length:Int)=min (l.length:Int) (min 60 32)∨¬u=IntKind.u64.wrap (IntKind.i64.wrap (min (l.length:Int) 60-(v.length:Int)))):False:=by
 have hk:=Wd h1 h2 h
 have lv:v.length=min k 32:=by rw [j4,List.length_map];exact (mw h2 (by omega)).1
 have lu:=(mw h2 (by omega)).2
 rw [←j3] at lu
 simp only [X5,bG] at h4
 omega
theorem Vo {M:List bU} {k N len:Nat} {kk:Int} (hk:k=min len 60) (hN:N≤k) (lM:M.length=min 8 (k-N)) (i3:kk=(N:Int)) (h:8<(M.length:Int)∨(M.length:Int)<min 8 (IntKind.i64.wrap (min (len:Int) 60-kk))):False:=by
 subst i3;simp only [X5] at h;omega
theorem SI (n i:Nat):dx n i≤n:=by unfold dx;omega
theorem SJ {l M:List bU} {k c N:Nat} (hk:k≤l.length) (hM:M=((l.take k).drop (dx k c)).take 8) (hN:N=dx k c) (q:Nat):∃y,q<M.length→M[q]?=some y∧l[N+q]?=some y∧N+q<k:=by
 by_cases h:q<M.length
 ·subst hM hN
  have:=Uo (n:=k) (i:=c) (z:=q) hk h
  exact ⟨_,fun _=>⟨List.getElem?_eq_getElem h,by rw [←this.1];exact List.getElem?_eq_getElem h,this.2⟩⟩
 exact ⟨⟨0,0,0⟩,fun g=>absurd g h⟩
theorem Vp {l:List bU} {k N c n:Nat} {a kk f u:Int} {r:List bU×Int} {es:List (List D)} (aF:es.length=l.length) (i1:c+n=9) (h6:9≤(c:Int)) (i2:a=((kg k c:Nat):Int)) (hN:N=dx k c) (i3:kk=(N:Int)) (hk:k=min l.length 60) (j3:u=(fK l k).first) (er:r=tU ⟨u,(fK l k).l⟩ f):
 (bif (bif (bif true then decide (kk=min (es.length:Int) 60) else false) then decide (a=IntKind.u64.wrap (min (es.length:Int) 60)) else false) then (bif decide (f<IntKind.u64.wrap (min (es.length:Int) 60)) then true else (bif decide (((r.1.map bU.cells).length:Int)=0) then decide (r.2=f) else false)) else false)=true:=by
 have hc:c=9:=by omega
 subst hc
 obtain ⟨e1,e2⟩:=Rg k
 rw [e2] at i2
 rw [e1] at hN
 have hmin:min (es.length:Int) 60=(k:Int):=by omega
 have hw:IntKind.u64.wrap (k:Int)=(k:Int):=by rw [bG];omega
 rw [hmin,hw,i2,i3,hN]
 rcases Int.lt_or_le f (k:Int) with g|g
 ·simp [g]
 have e3:r=([],f):=by rw [er,j3];exact N3 (by omega) (by omega) g
 rw [e3];simp
instance:Inhabited bU:=⟨⟨0,0,0⟩⟩
theorem Pk (ht:TT t) (hx0:FC 9 [] [] (.ret (BL true)) []) {l:List bU} {es:List (List D)} (aF:es=l.map bU.cells) (hl:l.length<9223372036854775808) {f:Int} (hf:0≤f∧f<18446744073709551616):
 FC 3 [SL es,az f] [] (.ret (BL true)) []:=by
 refine bC ht (aE:=[]) Tryz.func3 (c:=_) rfl rfl (N:=139) rfl (rs:=_) rfl (n:=0) rfl rfl ?_
 cbv
 have ar:es.length=l.length:=by rw [aF,List.length_map]
 (refine gj trivial hx0 trivial rfl rfl ?_)
 cbv
 refine ai (fun h0=>?_) (fun h0=>?_)
 ·simp [ht] at h0
 simp [ht] at h0
 cbv
 obtain ⟨J1,fe⟩:∃J1:Nat→Int×Int×List (List D)→Prop,∀n i u v,J1 n (i,u,v)↔(∃k:Nat,i=k∧k+n=60∧k≤l.length∧u=(fK l k).first∧v=(fK l k).l.map bU.cells):=⟨fun n v=>match v with|(i,u,v)=>(∃k:Nat,i=k∧k+n=60∧k≤l.length∧u=(fK l k).first∧v=(fK l k).l.map bU.cells),fun _ _ _ _=>Iff.rfl⟩
 refine aZ ⟨[0,1,5,6,7],[],[(0,1,0)]⟩ (σ:=Int×Int×List (List D)) (fun v=>[(7,.d (.int .i64 (t _ fun _=>v.1)))]) (fun v=>[(0,.var [.d (.int .u64 (t _ fun _=>v.2.1)),.d (.sl (t _ fun _=>v.2.2))])]) J1 ?_
 cbv
 refine aA ⟨60,(_,_,_),(fe _ _ _ _).2 ?_,by simp only [ht];rfl,?_⟩
 ·exact ⟨0,rfl,by omega,by omega,rfl,rfl⟩
 rintro n ⟨i,u,v⟩ hj
 replace hj:=(fe _ _ _ _).1 hj
 obtain ⟨k,rfl,j1,j2,j3,j4⟩:=hj
 cbv
 iterate 2 refine gI (by simp [ht]) ?_
 refine pI (by simp [ht]) ?_
 refine ai (fun h2=>?_) (fun h2=>?_)
 ·simp [ht,aa,ar] at h2
  cbv
  refine bJ [false,false,false,false,false,true,true] (by kernel_rfl) (by kernel_rfl) ?_
  cbv
  iterate 3 refine gI (by simp) ?_
  refine dg ht aF (cT:=bU.aH t) (by (simp only [ht,aa];omega)) (by (simp only [ht,aa];omega)) (fun _=>rfl) (fun _=>rfl) (fun x3 ke=>?_)
  simp [ht,aa] at ke
  cbv
  refine gI (by simp) ?_
  ((refine aS trivial (MQ ht _ _ _ _ (l:=(fK l k).l) (by simp only [ht];exact j4) (by have:=(mw j2 (by omega)).1;omega)) (by simp) rfl rfl rfl (fun r1 cX=>?_);simp only [ht] at cX))
  cbv
  refine bf (_,_,_) (by simp only [ht];rfl) (n-1) ?_ ((fe _ _ _ _).2 ?_)
  ·((try simp only [aa] at*);omega)
  simp only [aa]
  exact ⟨k+1,aC (by ((try simp only [aa] at*);omega)),by ((try simp only [aa] at*);omega),by ((try simp only [aa] at*);omega),by rw [Ey (by assumption) rfl rfl rfl j3 cX],by rw [Ey (by assumption) rfl rfl rfl j3 cX]⟩
 simp [ht,aa,ar] at h2
 cbv
 iterate 9 refine gI (by simp [ht]) ?_
 refine pI (by simp [ht]) ?_
 refine ai (fun h4=>?_) (fun h4=>?_)
 ·simp [ht,aa,ar] at h4
  (exact (Vn j1 j2 h2 j3 j4 h4).elim)
 simp [ht,aa,ar] at h4
 cbv
 obtain ⟨J5,RP⟩:∃J5:Nat→Int×Int×Int→Prop,∀n2 a kk i,J5 n2 (a,kk,i)↔(∃c:Nat,i=c∧c+n2=9∧a=((kg k c:Nat):Int)∧kk=((dx k c:Nat):Int)):=⟨fun n2 v=>match v with|(a,kk,i)=>(∃c:Nat,i=c∧c+n2=9∧a=((kg k c:Nat):Int)∧kk=((dx k c:Nat):Int)),fun _ _ _ _=>Iff.rfl⟩
 refine aZ ⟨[0,1,5,6,8,9,10,11],[],[]⟩ (σ:=Int×Int×Int) (fun v=>[(9,.d (.int .u64 (t _ fun _=>v.1))),(10,.d (.int .i64 (t _ fun _=>v.2.1))),(11,.d (.int .i64 (t _ fun _=>v.2.2)))]) (fun v=>[]) J5 ?_
 cbv
 refine aA ⟨9,(_,_,_),(RP _ _ _ _).2 ?_,by simp only [ht];rfl,?_⟩
 ·exact ⟨0,rfl,by omega,rfl,by have lu:=(mw j2 (by omega)).2;rw [←j3] at lu;simp only [lu,X5,L3];((try simp only [aa] at*);omega)⟩
 rintro n2 ⟨a,kk,i⟩ hj
 replace hj:=(RP _ _ _ _).1 hj
 obtain ⟨c,rfl,i1,i2,i3⟩:=hj
 have hk:=Wd j1 j2 h2
 obtain ⟨M,hM⟩:∃M,M=((l.take k).drop (dx k c)).take 8:=⟨_,rfl⟩
 have lM:M.length=min 8 (k-dx k c):=(by rw [hM];exact Rh j2)
 obtain ⟨A,hA⟩:∃A,A=((kg k (c+1):Nat):Int):=⟨_,rfl⟩
 obtain ⟨N,hN⟩:∃N,N=dx k c:=⟨_,rfl⟩
 have hNk:N≤k:=(by rw [hN];exact SI k c)
 rw [←hN] at i3 lM
 cbv
 refine ai (fun h6=>?_) (fun h6=>?_)
 ·simp [ht,aa] at h6
  cbv
  ((refine aS trivial (Fw ht _ _ (l:=(fK l k).l) (by simp only [ht];exact j4) (by have:=(mw j2 (by omega)).1;omega)) (by simp) rfl rfl rfl (fun r2 cP=>?_);simp only [ht] at cP;replace cP:=cP.trans (show _=(M,A) from (by rw [hM,hA,j3,i2];exact N2 j2 (by omega) c));subst cP))
  cbv
  iterate 7 refine gI (by simp [ht]) ?_
  refine pI (by simp [ht]) ?_
  refine ai (fun h7=>?_) (fun h7=>?_)
  ·simp [ht,aa,ar] at h7
   (exact (Vo hk hNk lM i3 h7).elim)
  simp [ht,aa,ar] at h7
  cbv
  obtain ⟨J8,hJ8⟩:∃J8:Nat→Int×Int→Prop,∀n3 kk z,J8 n3 (kk,z)↔(∃q:Nat,z=q∧q+n3=M.length∧kk=((N+q:Nat):Int)):=⟨fun n3 v=>match v with|(kk,z)=>(∃q:Nat,z=q∧q+n3=M.length∧kk=((N+q:Nat):Int)),fun _ _ _=>Iff.rfl⟩
  refine aZ ⟨[0,1,5,6,8,9,10,11,12,13,14],[],[]⟩ (σ:=Int×Int) (fun v=>[(10,.d (.int .i64 (t _ fun _=>v.1))),(14,.d (.int .i64 (t _ fun _=>v.2)))]) (fun v=>[]) J8 ?_
  cbv
  refine aA ⟨M.length,(_,_),(hJ8 _ _ _).2 ?_,by simp only [ht];rfl,?_⟩
  ·exact ⟨0,rfl,by omega,by simp only [i3];rfl⟩
  rintro n3 ⟨kk,z⟩ hj
  replace hj:=(hJ8 _ _ _).1 hj
  obtain ⟨q,rfl,q1,q2⟩:=hj
  obtain ⟨y,hy⟩:=SJ j2 hM hN q
  cbv
  refine ai (fun h9=>?_) (fun h9=>?_)
  ·simp [ht,aa] at h9
   cbv
   refine bJ [false,false,true,true,false,false,false,false,false,false,false,false,true,true] (by kernel_rfl) (by kernel_rfl) ?_
   cbv
   iterate 2 refine gI (by simp) ?_
   iterate 2 refine gI (by simp [ht]) ?_
   (refine IA ht (l:=M) (cells:=bU.cells) (cT:=bU.aH t) (by (simp only [ht];done)) q y (fun _=>⟨(by simp only [ht]),(hy (by ((try simp only [aa] at*);omega))).1⟩) (fun _=>rfl) (fun _=>rfl) (fun g=>by exact ⟨g,g,trivial⟩) ?_)
   cbv
   iterate 3 refine gI (by simp [ht]) ?_
   (refine IA ht (l:=l) (cells:=bU.cells) (cT:=bU.aH t) (by exact aF) (N+q) y (fun _=>⟨(by simp only [ht];exact q2),(hy (by ((try simp only [aa] at*);omega))).2.1⟩) (fun _=>rfl) (fun _=>rfl) (fun g=>by exact ⟨g,g,trivial⟩) ?_)
   cbv
   iterate 2 refine gI (by simp [ht]) ?_
   refine pI (by simp [ht]) ?_
   refine ai (fun h10=>?_) (fun h10=>?_)
   ·simp [ht,aa,ar] at h10
    (simp only [aa] at*;omega)
   simp [ht,aa,ar] at h10
   cbv
   refine bf (_,_) (by simp only [ht];rfl) (n3-1) ?_ ((hJ8 _ _ _).2 ?_)
   ·omega
   simp only [aa]
   exact ⟨q+1,aC (by ((try simp only [aa] at*);omega)),by ((try simp only [aa] at*);omega),by rw [q2];exact aC (by ((try simp only [aa] at*);omega))⟩
  simp [ht,aa] at h9
  cbv
  refine bf (_,_,_) (by simp only [ht];rfl) (n2-1) ?_ ((RP _ _ _ _).2 ?_)
  ·((try simp only [aa] at*);omega)
  simp only [aa]
  exact ⟨c+1,aC (by ((try simp only [aa] at*);omega)),by ((try simp only [aa] at*);omega),hA,by rw [q2,K3,←hN];((try simp only [aa] at*);omega)⟩
 simp [ht,aa] at h6
 cbv
 ((refine aS trivial (Fw ht _ _ (l:=(fK l k).l) (by simp only [ht];exact j4) (by have:=(mw j2 (by omega)).1;omega)) (by simp) rfl rfl rfl (fun r3 gH=>?_);simp only [ht] at gH))
 cbv
 iterate 3 refine gI (by simp) ?_
 refine pI (by simp) ?_
 iterate 4 refine gI (by simp [ht]) ?_
 refine pI (by simp [ht]) ?_
 iterate 12 refine gI (by simp [ht]) ?_
 iterate 2 refine gI (by simp [ht,ak];intros;simp_all) ?_
 refine pI (by simp [ht]) ?_
 refine an trivial trivial rfl rfl rfl ?_
 (simp only [ht];exact congrArg (fun b=>fm.ret (BL b)) (Vp (by rw [aF,List.length_map]) i1 h6 i2 hN i3 hk j3 gH).symm)
end Dem
end
section
open Go
namespace Dem
end Dem
end
section
open Go
namespace Dem
structure gz where
 bu:Int
 cnt:Int
def gz.cells (m:gz):List D:=[.int .u64 m.bu,.int .i64 m.cnt]
def eR:List gz→Int→Int→List gz
 |[],j,c=>[⟨j,c⟩]
 |m::l,j,c=>if j=m.bu then ⟨j,c⟩::l else m::eR l j c
theorem BU:∀(l:List gz) (j c:Int),tE (l.map gz.cells) (.int .u64 j) [.int .i64 c]=(eR l j c).map gz.cells
 |[],_,_=>rfl
 |m::l,j,c=>by
  simp only [List.map_cons,eR]
  by_cases h:j=m.bu
  ·subst h;simp [gz.cells,tE,qf]
  simp only [if_neg h,List.map_cons]
  rw [←BU l j c]
  simp [gz.cells,tE,qf,h]
theorem kS:∀(l:List gz) (j c:Int),(eR l j c).map gz.bu=if j∈l.map gz.bu then l.map gz.bu else l.map gz.bu++[j]
 |[],_,_=>by simp [eR]
 |m::l,j,c=>by
  simp only [eR]
  by_cases h:j=m.bu
  ·subst h;simp
  rw [if_neg h,List.map_cons,List.map_cons,kS l j c]
  by_cases h2:j∈l.map gz.bu
  ·simp [h2]
  rw [if_neg h2,if_neg (by simp only [List.mem_cons];rintro (g|g);exact h g;exact h2 g)];rfl
end Dem
end
section
open Go
namespace Dem
def VX (s:cH) (prev:Option Int) (j:Jb):Bool:=
 if j.id<1 then false else if s.next≤j.id then false else if (match prev with|none=>false|some p=>decide (j.id≤p)) then false else
 if cR j.x≠0 then false else if !gV s.tree j.x.path then false else
 if j.runs then decide (1≤j.left)&&decide (j.left≤j.x.dS) else decide (j.left=0)&&s.queue.contains ⟨j.id,j.x.prio⟩
def mZ (s:cH):Option Int→List Jb→Bool
 |_,[]=>true
 |q,j::r=>VX s q j&&mZ s (some j.id) r
def gW (l:List Jb):Nat:=(l.filter fun j=>!j.runs).length
def jj:List Jb→List gz
 |l=>l.foldl (fun m j=>if j.runs then eR m j.id j.x.count else m) []
def fk (m:List gz) (id:Int):Int:=match m.find? (fun x=>decide (x.bu=id)) with
 |some x=>x.cnt
 |none=>0
def gM (l:List Jb):List Place→List gz→Option (List gz)
 |[],m=>some m
 |x::r,m=>if fk m x.bu<1 then none else if x.v≠(eH l x.bu).1.x.fQ then none else gM l r (eR m x.bu (fk m x.bu-1))
def lZ (s:cH):Bool:=match gM s.aI s.aW.places (jj s.aI) with
 |none=>false
 |some m=>m.all fun x=>decide (x.cnt=0)
def nI (p:aD):List Jb→bz→Option bz
 |[],v=>some v
 |j::r,v=>if !j.runs then nI p r v else if !decide (p=[])&&!mX p j.x.path then nI p r v else
  if !(cW j.x).2||!(gT v (cW j.x).1).2 then none else nI p r (gT v (cW j.x).1).1
def qu (s:cH) (e:aR):Bool:=match nI e.path s.aI bz.zero with
 |none=>false
 |some v=>decide (v=e.used)
def gq (s:cH):Bool:=
 if !nU s.aW then false else if !gU s.tree then false else if !nX s.queue then false else if 32<s.aI.length then false else if s.next<1 then false else
 if 32<max s.ev.l.length s.au.l.length then false else if !mZ s none s.aI then false else
 decide (gW s.aI=s.queue.length)&&lZ s&&!(s.tree.any fun e=>!qu s e)
def wz (a b:cH):Bool:=
 decide (a.round=b.round)&&decide (a.next=b.next)&&decide (a.tree=b.tree)&&decide (a.queue=b.queue)&&decide (a.aW.nodes=b.aW.nodes∧a.aW.places=b.aW.places)&&decide (a.aI=b.aI)&&decide (a.ev=b.ev)&&decide (a.au=b.au)
def MV (n:bU):aD:=ej n.round++ej n.id++ej (u64 n.kind)
def jk (x:qG):aD:=ej x.first++ej x.l.length++(x.l.map MV).flatten
def IC (j:Jb):aD:=ej j.id++NO j.x++ej (u64 j.left)
def m0 (s:cH):aD:=ej s.round++ej s.next++C3 s.aW++Ih s.tree++ej s.aI.length++(s.aI.map IC).flatten++jk s.ev++jk s.au
end Dem
end
section
open Go
namespace Dem
abbrev vk (k:Nat) (v:bz):Nat:=(v.at_ k).toNat
end Dem
end
section
open Go
namespace Dem
theorem pY {m:List gz} (h:(m.map gz.bu).Nodup) (j c:Int):((eR m j c).map gz.bu).Nodup:=by
 rw [kS];split
 ·exact h
 rename_i g
 rw [List.nodup_append]
 exact ⟨h,by simp,fun a ha b hb e=>g (by simp at hb;rw [←hb,←e];exact ha)⟩
end Dem
end
section
open Go
namespace Dem
end Dem
end
section
open Go
namespace Dem
end Dem
end
section
open Go
namespace Dem
end Dem
end
section
open Go
namespace Dem
end Dem
end
section
open Go
namespace Dem
def kw:List aD:=[[110,49],[110,50],[110,51]]
def VY:List aD:=[[97],[97,47,98],[98]]
def rX (m:Nat):Nat→List aR
 |0=>(we [⟨[],bz.zero,bz.zero⟩] [] ⟨30,30,30,30⟩).1
 |i+1=>(we (rX m i) (VY.getD i []) ⟨(6+4*i+m:Nat),20,20,20⟩).1
def Ch (i:Nat):List bT:=if i<2 then [⟨T4,[[97],[98]].getD i []⟩] else []
def Ux (n i:Nat):Bool:=decide (n / 2^(5+i)%2=0)
def eS (n:Nat):Nat→cO
 |0=>⟨[],[]⟩
 |i+1=>if Ux n i then (rO (eS n i) ⟨kw.getD i [],⟨(4+2*i:Nat),9,9,9⟩,Ch i,false⟩).1 else eS n i
def kU (n:Nat):cH:=⟨0,1,eS n 3,rX (n%5) 3,[],[],⟨0,[]⟩,⟨0,[]⟩⟩
theorem RA:∀m<5,∀i<4,(rX m i).length≤4:=by decide+kernel
theorem Uy {n:Nat} (i:Nat):Ux n i=Ux (n / 32*32) i:=by
 unfold Ux
 rw [show 5+i=5+i from rfl,Nat.pow_add,←Nat.div_div_eq_div_mul,←Nat.div_div_eq_div_mul,show (2:Nat)^5=32 from rfl,Nat.mul_div_cancel _ (by decide)]
theorem IT (n:Nat):∀i,eS n i=eS (n / 32*32) i
 |0=>rfl
 |i+1=>by rw [eS,eS,←IT n i,Uy]
end Dem
end
section
open Go Dem Go.Proofs
namespace Dem
variable {t:Th}
theorem ZG (u:Int) (hu:0≤u):UInt8.ofNat (IntKind.u8.wrap ((BitVec.ofInt IntKind.u8.bits (IntKind.u8.wrap u) ||| BitVec.ofInt IntKind.u8.bits 128).toNat)).toNat=UInt8.ofNat (u.toNat%128+128):=by
 have key:∀n:Nat,n<256→UInt8.ofNat (IntKind.u8.wrap ((BitVec.ofInt IntKind.u8.bits (n:Int) ||| BitVec.ofInt IntKind.u8.bits 128).toNat)).toNat=UInt8.ofNat (n%128+128):=by decide
 obtain ⟨n,rfl⟩:=Int.eq_ofNat_of_zero_le hu
 have e:IntKind.u8.wrap (n:Int)=((n%256:Nat):Int):=by simp [IntKind.wrap,IntKind.signed,IntKind.bits]
 rw [e,key _ (by omega),Int.toNat_natCast]
 congr 2;omega
theorem RC (ht:TT t) (u:Int) (hu:u<18446744073709551616) {s:aD} (h:s=ej u):FC 72 [az u] [] (.ret (ST s)) []:=by
 obtain ⟨J,hJ⟩:∃J:Nat→Int×List (List D)→Prop,∀n v,J n v↔(v.1<128^(n+1)∧v.2.length+n=9∧(∀r∈v.2,mo r)∧v.2.map iK++rM n v.1=s):=⟨fun n v=>v.1<128^(n+1)∧v.2.length+n=9∧(∀r∈v.2,mo r)∧v.2.map iK++rM n v.1=s,fun _ _=>Iff.rfl⟩
 refine bC ht (aE:=[]) Tryz.func72 (c:=_) rfl rfl (N:=20) rfl (rs:=_) rfl (n:=0) rfl rfl ?_
 cbv
 refine aZ ⟨[0,2,3],[(3,1)],[]⟩ (σ:=Int×List (List D)) (fun v=>[(0,az v.1),(3,.ow 0 1 (t _ fun _=>v.2.length))]) (fun v=>[(0,.row 1 (t _ fun _=>v.2))]) J ?_
 cbv
 refine aA ⟨9,(u,[]),(hJ _ _).2 ⟨Int.lt_of_lt_of_le hu (by decide),rfl,by simp,by simp [h,ej]⟩,by simp only [ht];rfl,?_⟩
 rintro n ⟨v,es⟩ hj
 obtain ⟨g1,g2,g4,g5⟩:=(hJ _ _).1 hj
 clear hj
 simp only at g1 g2 g4 g5
 cbv
 refine ai (fun hc=>?_) (fun hc=>?_)
 ·simp only [ht,decide_eq_true_eq] at hc
  cbv
  have hv:0≤v:=by omega
  have e1:v.fdiv (2^min (Int.toNat 7) IntKind.u64.bits)=v / 128:=Int.fdiv_eq_ediv_of_nonneg _ (by decide)
  have hn:1≤n:=by
   rcases Nat.lt_or_ge n 1 with h1|h1
   ·have:n=0:=by omega
    subst this;simp at g1;omega
   exact h1
  obtain ⟨m,rfl⟩:∃m,n=m+1:=⟨n-1,by omega⟩
  refine ⟨?_,by simp [ht],aA ⟨m,(v / 128,es++[[.int .u8 (IntKind.u8.wrap ((BitVec.ofInt IntKind.u8.bits (IntKind.u8.wrap v) ||| BitVec.ofInt IntKind.u8.bits 128).toNat))]]),⟨by omega,(hJ _ _).2 ⟨?_,?_,?_,?_⟩⟩,?_⟩⟩
  ·simp only [ht]
   refine ⟨trivial,by simp;omega,?_⟩
   intro r hr
   rcases List.mem_append.1 hr with hr|hr
   ·obtain ⟨z,rfl⟩:=g4 r hr;rfl
   simp at hr;subst hr;rfl
  ·show v / 128<128^(m+1)
   rw [Int.pow_succ] at g1
   omega
  ·simp;omega
  ·intro r hr
   rcases List.mem_append.1 hr with hr|hr
   ·exact g4 r hr
   simp at hr;subst hr;exact ⟨_,rfl⟩
  ·rw [←g5]
   show List.map iK (es++_)++rM m (v / 128)=_
   rw [rM,if_pos hc,List.map_append,List.append_assoc]
   congr 1
   simp only [List.map_cons,List.map_nil,iK,List.cons_append,List.nil_append]
   rw [ZG v hv]
  simp only [ht,e1,List.length_append];rfl
 simp only [ht,decide_eq_false_iff_not] at hc
 cbv
 simp only [ht]
 refine ⟨⟨trivial,by simp;omega,?_⟩,⟨by simp,?_⟩,an trivial trivial rfl rfl rfl ?_⟩
 ·intro r hr
  rcases List.mem_append.1 hr with hr|hr
  ·obtain ⟨z,rfl⟩:=g4 r hr;rfl
  simp at hr;subst hr;rfl
 ·intro r hr
  rcases List.mem_append.1 hr with hr|hr
  ·exact g4 r hr
  simp at hr;subst hr;exact ⟨_,rfl⟩
 rw [←g5]
 have e2:rM n v=[UInt8.ofNat (v%256).toNat]:=by
  cases n with
  |zero=>rfl
  |succ m=>rw [rM,if_neg hc]
 rw [e2]
 simp only [List.map_append,List.map_cons,List.map_nil,iK]
 rfl
theorem Ll (ht:TT t) (s:aD) (hs:s.length<9223372036854775000) {r:aD} (h:r=bH s):FC 130 [ST s] [] (.ret (ST r)) []:=by
 obtain ⟨k,hk⟩:∃k,k=ej s.length:=⟨_,rfl⟩
 have e:IntKind.u64.wrap (s.length:Int)=s.length:=by simp [IntKind.wrap,IntKind.signed,IntKind.bits];omega
 have hkl:k.length≤10:=hk▸c6 _
 refine bC ht (aE:=[]) Tryz.func130 (c:=_) rfl rfl (N:=9) rfl (rs:=_) rfl (n:=0) rfl rfl ?_
 cbv
 refine gj trivial (RC ht _ ?_ (s:=k) ?_) trivial rfl rfl ?_
 ·simp only [ht,aa,e];omega
 ·simp only [ht,aa,e];exact hk
 cbv
 refine ⟨by simp only [ht];omega,an trivial trivial rfl rfl rfl ?_⟩
 simp only [ht,h,bH,hk]
end Dem
end
section
open Go Dem Go.Proofs
namespace Dem
variable {t:Th}
theorem cK (ht:TT t) (u:Int) (hu:u<18446744073709551616):FC 72 [az u] [] (.ret (tG (t _ fun _=>ej u))) []:=by
 simp only [ht];exact RC ht u hu rfl
theorem RD (ht:TT t) (s:aD) (p u next:Int) (ok:Bool) (hu:u<18446744073709551616) (hn:0<next→0≤p∧p≤next∧next≤s.length) {r:z8} (hr:r=nV s p u next):
 FD 207 [.ptr 3 0,.ptr 2 0,.ptr 0 0,.ptr 1 0,.ptr 4 0] [.var [ST s],.var [bq p],.var [az u],.var [bq next],.var [BL ok]] (.ret (.dF [])) [.var [ST s],.var [bq p],.var [az r.u],.var [bq r.next],.var [BL r.ok]]:=by
 refine fdC ht (aE:=[.var [ST s],.var [bq p],.var [az u],.var [bq next],.var [BL ok]]) Tryz.func207 (c:=_) rfl rfl (N:=18) rfl (rs:=_) rfl (n:=5) rfl rfl ?_
 cbv
 refine bJ [true,true,true,false,false,false,false,false,false,true,true,true] (by kernel_rfl) (by kernel_rfl) ?_
 cbv
 refine gI (by simp [ht]) ?_
 refine aM (fun g0=>⟨by simp [ht] at g0 ⊢;exact g0,trivial,cK ht _ (by assumption)⟩) rfl rfl (fun r1 cX=>?_)
 simp only [ht] at cX
 cbv
 iterate 3 refine gI (by simp [ht]) ?_
 refine gI (by simp [ht,bS];grind) ?_
 refine gI (by simp [ht]) ?_
 refine pI (by simp [ht]) ?_
 refine ai (fun h2=>?_) (fun h2=>?_)
 ·simp [ht] at h2
  cbv
  refine an trivial trivial rfl ?_ rfl rfl
  (have e:nV s p u next=z8.no:=(by rw [nV,if_neg];rintro ⟨g1,g2⟩;rw [←cX] at g2;rcases h2 with h2|h2;(· omega);(· exact h2 (by simp [gr,g2])));have e2:(decide (0<next)&&decide (r1=gr s (some p) (some next)))=false:=(by rcases h2 with h2|h2;(· simp;intro h;omega);(· simp [h2]));rw [hr,e];simp [qQ,eF,ht,z8.no,e2];done)
 simp [ht] at h2
 cbv
 refine an trivial trivial rfl ?_ rfl rfl
 (have e:nV s p u next=⟨u,next,true⟩:=(by rw [nV,if_pos];refine ⟨h2.1,?_⟩;obtain ⟨g1,g2,g3⟩:=hn h2.1;rw [←cX,h2.2];simp [gr]);rw [hr,e];simp [qQ,eF,ht,h2.1,h2.2];done)
def Uz (s:aD) (p:Int) (r:z8):List ax:=[.var [ST s],.var [bq p],.var [az r.u],.var [bq r.next],.var [BL r.ok]]
theorem yg (ht:TT t) (s:aD) (p u next:Int) (ok:Bool) (hu:u<18446744073709551616) (hn:0<next→0≤p∧p≤next∧next≤s.length):
 FD 207 [.ptr 3 0,.ptr 2 0,.ptr 0 0,.ptr 1 0,.ptr 4 0] [.var [ST s],.var [bq p],.var [az u],.var [bq next],.var [BL ok]] (.ret (.dF [])) (Uz s p (t _ fun _=>nV s p u next)):=by
 simp only [ht];exact RD ht s p u next ok hu hn rfl
theorem Lm {ρ:Type} {FD:Nat→List AV→List ax→fm→List ax→Prop} {f:Nat} {dG:List AV} {bx:List ax} {K:List ax→Prop} {B:ρ→List ax} {r0:ρ} (h:FD f dG bx (.ret (.dF [])) (B r0)) (hK:∀r,r=r0→K (B r)):vV FD f dG bx K:=KF h (hK _ rfl)
def abS (r:z8):AV:=.dF [az r.u,bq r.next,BL r.ok]
theorem fu (ht:TT t) (s:aD) (p:Int) (hs:s.length<9223372036854775000) (hp:p<9223372036854775808):FC 178 [ST s,bq p] [] (.ret (abS (t _ fun _=>bD s p))) []:=by
 refine fcD ht (aE:=[]) Tryz.func178 (c:=_) rfl rfl (N:=48) rfl (rs:=_) rfl (n:=0) rfl rfl rfl ?_
 cbv
 iterate 4 refine gI (by simp [ht]) ?_
 refine pI (by simp [ht]) ?_
 refine ai (fun h0=>?_) (fun h0=>?_)
 ·simp [ht,aa] at h0
  cbv
  (refine Lm (yg ht s p _ _ _ (by decide) (by intro h;cases h)) (fun q hq=>?_);simp only [ht] at hq)
  cbv
  refine an trivial trivial rfl rfl rfl ?_
  (have e:bD s p=q:=(by rw [hq,nV,if_neg (by ((try simp only [aa] at*);omega)),bD,rP,if_pos (by ((try simp only [aa] at*);omega))]);simp only [ht,e];done)
 simp [ht,aa] at h0
 cbv
 obtain ⟨a,ha⟩:∃a:Nat,p=a:=⟨p.toNat,by ((try simp only [aa] at*);omega)⟩
 have hw:IntKind.i64.wrap (p+10)=p+10:=bZ (by ((try simp only [aa] at*);omega)) (by ((try simp only [aa] at*);omega))
 obtain ⟨J1,fe⟩:∃J1:Nat→Int×Int→Prop,∀n i u,J1 n (i,u)↔(∃j:Nat,i=p+j∧j+n=10∧j≤10∧(0≤u∧u<2^(7*j)∧u<18446744073709551616)∧je 10 0 (s.drop a) 0=je n j (s.drop (a+j)) u):=⟨fun n v=>match v with|(i,u)=>(∃j:Nat,i=p+j∧j+n=10∧j≤10∧(0≤u∧u<2^(7*j)∧u<18446744073709551616)∧je 10 0 (s.drop a) 0=je n j (s.drop (a+j)) u),fun _ _ _=>Iff.rfl⟩
 refine aZ ⟨[2,3,4,5,6,7],[],[]⟩ (σ:=Int×Int) (fun v=>[(7,.d (.int .i64 (t _ fun _=>v.1)))]) (fun v=>[(2,.var [.d (.int .u64 (t _ fun _=>v.2))]),(3,.var [AV.d (D.int IntKind.i64 0)])]) J1 ?_
 cbv
 refine aA ⟨10,(_,_),(fe _ _ _).2 ?_,by simp only [ht];rfl,?_⟩
 ·exact ⟨0,by simp,by simp,by simp,by simp,by simp⟩
 rintro n ⟨i,u⟩ hj
 replace hj:=(fe _ _ _).1 hj
 obtain ⟨j,hi,j1,j2,j3,j4⟩:=hj
 cbv
 iterate 4 refine gI (by simp [ht]) ?_
 refine pI (by simp [ht]) ?_
 refine ai (fun h2=>?_) (fun h2=>?_)
 ·simp [ht,aa,hw] at h2
  cbv
  refine bJ [false,false,false,false,false,false,false,false,false,false,false,true,true] (by kernel_rfl) (by kernel_rfl) ?_
  cbv
  iterate 3 refine gI (by simp) ?_
  refine gI (by simp [ht,aa];grind) ?_
  iterate 6 refine gI (by simp) ?_
  refine gI (by (simp only [ht];intro _;exact abC hi (by ((try simp only [aa] at*);omega)))) ?_
  refine ⟨?_,?_⟩
  ·(simp only [ht,aa] at*;omega)
  cbv
  refine ai (fun h3=>?_) (fun h3=>?_)
  ·simp [ht,aa] at h3
   cbv
   (refine Lm (yg ht s p _ _ _ (by simp only [ht];rw [KG hi (by ((try simp only [aa] at*);omega)) j3];exact (Fj (by ((try simp only [aa] at*);omega)) j3).2.2) (by simp only [ht];intro _;rw [bZ (by ((try simp only [aa] at*);omega)) (by ((try simp only [aa] at*);omega))];((try simp only [aa] at*);omega))) (fun q hq=>?_);simp only [ht] at hq;rw [KG hi (by ((try simp only [aa] at*);omega)) j3,bZ (x:=i+1) (by ((try simp only [aa] at*);omega)) (by ((try simp only [aa] at*);omega))] at hq)
   cbv
   refine an trivial trivial rfl rfl rfl ?_
   (have e:bD s p=q:=(by rw [hq];exact KI ha hi (by ((try simp only [aa] at*);omega)) (by ((try simp only [aa] at*);omega)) j4 (by rw [List.getD_eq_getElem?_getD];assumption));simp only [ht,e];done)
  simp [ht,aa] at h3
  cbv
  refine bf (_,_) (by simp only [ht];rfl) (n-1) ?_ ((fe _ _ _).2 ?_)
  ·((try simp only [aa] at*);omega)
  simp only [aa]
  rw [KG hi (by ((try simp only [aa] at*);omega)) j3,bZ (x:=i+1) (by ((try simp only [aa] at*);omega)) (by ((try simp only [aa] at*);omega))]
  refine ⟨j+1,by ((try simp only [aa] at*);omega),by ((try simp only [aa] at*);omega),by ((try simp only [aa] at*);omega),Fj (by ((try simp only [aa] at*);omega)) j3,?_⟩
  (rw [j4,BA (by ((try simp only [aa] at*);omega)) (by ((try simp only [aa] at*);omega)),if_neg (by have e0:i.toNat=a+j:=(by ((try simp only [aa] at*);omega));rw [←e0,List.getD_eq_getElem?_getD];((try simp only [aa] at*);omega)),show i.toNat=a+j by ((try simp only [aa] at*);omega)])
 simp [ht,aa,hw] at h2
 cbv
 (refine Lm (yg ht s p _ _ _ (by simp only [ht];((try simp only [aa] at*);omega)) (by intro h;cases h)) (fun q hq=>?_);simp only [ht] at hq)
 cbv
 refine an trivial trivial rfl rfl rfl ?_
 (have e:bD s p=q:=(by rw [hq,nV,if_neg (by ((try simp only [aa] at*);omega)),bD,NL ha (by ((try simp only [aa] at*);omega)) j4]);simp only [ht,e];done)
end Dem
end
section
open Go Dem Go.Proofs
namespace Dem
variable {t:Th}
def ZH (r:Fk):AV:=.dF [ST r.t,bq r.next,BL r.ok]
theorem gJ (ht:TT t) (s:aD) (p most:Int) (hs:s.length<9223372036854775000) (hp:p<9223372036854775808) (hm:most<9223372036854775808):FC 208 [ST s,bq p,bq most] [] (.ret (ZH (t _ fun _=>aU s p most))) []:=by
 refine bC ht (aE:=[]) Tryz.func208 (c:=_) rfl rfl (N:=44) rfl (rs:=_) rfl (n:=0) rfl rfl ?_
 cbv
 refine ay trivial (fu ht _ _ (by assumption) (by assumption)) trivial rfl rfl (fun r0 bE=>?_)
 simp only [ht] at bE
 have gb:=eM (s:=s) (p:=p)
 rw [←bE] at gb
 cbv
 iterate 2 refine gI (by simp [ht]) ?_
 refine pI (by simp [ht]) ?_
 iterate 9 refine gI (by simp [ht]) ?_
 refine pI (by simp [ht]) ?_
 refine ai (fun h1=>?_) (fun h1=>?_)
 ·simp [ht,aa] at h1
  have q:=TQ bE gb hs hm h1
  cbv
  refine an trivial trivial rfl rfl rfl ?_
  (simp only [ht,q,Fk.no];done)
 simp [ht,aa] at h1
 have q:=QY bE gb hs hm h1
 cbv
 refine ⟨?_,?_⟩
 ·(simp only [ht];exact q.2)
 cbv
 refine an trivial trivial rfl rfl rfl ?_
 (simp only [ht,q];done)
def ZI (r:xO):AV:=.dF [V4 r.v.a r.v.b r.v.c r.v.d,bq r.next,BL r.ok]
theorem wI (ht:TT t) (s:aD) (p:Int) (hs:s.length<9223372036854775000) (hp:p<9223372036854775808):FC 209 [ST s,bq p] [] (.ret (ZI (t _ fun _=>iI s p))) []:=by
 refine bC ht (aE:=[]) Tryz.func209 (c:=_) rfl rfl (N:=31) rfl (rs:=_) rfl (n:=0) rfl rfl ?_
 cbv
 obtain ⟨J0,eg⟩:∃J0:Nat→Int×Int×Int×Int×Int×Int→Prop,∀n b i x0 x1 x2 x3,J0 n (b,i,x0,x1,x2,x3)↔(b<9223372036854775808∧(∃k:Nat,i=k∧k+n=4)∧jS s 4 bz.zero p=jS s n ⟨x0,x1,x2,x3⟩ b):=⟨fun n v=>match v with|(b,i,x0,x1,x2,x3)=>(b<9223372036854775808∧(∃k:Nat,i=k∧k+n=4)∧jS s 4 bz.zero p=jS s n ⟨x0,x1,x2,x3⟩ b),fun _ _ _ _ _ _ _=>Iff.rfl⟩
 refine aZ ⟨[0,1,4,11],[],[]⟩ (σ:=Int×Int×Int×Int×Int×Int) (fun v=>[(1,.d (.int .i64 (t _ fun _=>v.1))),(11,.d (.int .i64 (v.2.1)))]) (fun v=>[(0,.var [.d (.int .u64 (t _ fun _=>v.2.2.1)),.d (.int .u64 (t _ fun _=>v.2.2.2.1)),.d (.int .u64 (t _ fun _=>v.2.2.2.2.1)),.d (.int .u64 (t _ fun _=>v.2.2.2.2.2))])]) J0 ?_
 cbv
 refine aA ⟨4,(_,_,_,_,_,_),(eg _ _ _ _ _ _ _).2 ?_,by simp only [ht];rfl,?_⟩
 ·exact ⟨hp,⟨0,rfl,rfl⟩,rfl⟩
 rintro n ⟨b,i,x0,x1,x2,x3⟩ hj
 replace hj:=(eg _ _ _ _ _ _ _).1 hj
 obtain ⟨j1,⟨k,j2,j3⟩,j4⟩:=hj
 have hk:i=0∨i=1∨i=2∨i=3∨i=4:=by ((try simp only [aa] at*);omega)
 rcases hk with rfl|rfl|rfl|rfl|rfl
 ·cbv
  refine ai (fun h1=>?_) (fun h1=>?_)
  ·simp [ht] at h1
   cbv
   refine ay trivial (fu ht _ _ (by assumption) (by (simp only [ht];((try simp only [aa] at*);omega)))) trivial rfl rfl (fun r2 cP=>?_)
   simp only [ht] at cP
   have gb:=eM (s:=s) (p:=b)
   rw [←cP] at gb
   obtain ⟨m,rfl⟩:∃m,n=m+1:=⟨n-1,by ((try simp only [aa] at*);omega)⟩
   rw [nD cP] at j4
   rw [show 3-m=0 by ((try simp only [aa] at*);omega)] at j4
   cbv
   refine ai (fun h3=>?_) (fun h3=>?_)
   ·simp [ht] at h3
    cbv
    refine an trivial trivial rfl rfl rfl ?_
    (simp only [ht,iI];simp_all [xO.no,bz.zero];done)
   simp [ht] at h3
   cbv
   refine ⟨?_,?_⟩
   ·(simp only [ht,aa] at*;omega)
   cbv
   refine bf (_,_,_,_,_,_) (by simp only [ht];rfl) m ?_ ((eg _ _ _ _ _ _ _).2 ?_)
   ·omega
   simp only [aa]
   (have g:=gb (by assumption);exact ⟨Int.lt_of_le_of_lt g.2.2.1 (by ((try simp only [aa] at*);omega)),⟨k+1,by rw [bZ (by decide) (by decide)];((try simp only [aa] at*);omega),by ((try simp only [aa] at*);omega)⟩,by rw [j4,if_pos (by assumption)];rfl⟩)
  simp [ht] at h1
 ·cbv
  refine ai (fun h4=>?_) (fun h4=>?_)
  ·simp [ht] at h4
   cbv
   refine ay trivial (fu ht _ _ (by assumption) (by (simp only [ht];((try simp only [aa] at*);omega)))) trivial rfl rfl (fun r5 jA=>?_)
   simp only [ht] at jA
   have gb:=eM (s:=s) (p:=b)
   rw [←jA] at gb
   obtain ⟨m,rfl⟩:∃m,n=m+1:=⟨n-1,by ((try simp only [aa] at*);omega)⟩
   rw [nD jA] at j4
   rw [show 3-m=1 by ((try simp only [aa] at*);omega)] at j4
   cbv
   refine ai (fun h6=>?_) (fun h6=>?_)
   ·simp [ht] at h6
    cbv
    refine an trivial trivial rfl rfl rfl ?_
    (simp only [ht,iI];simp_all [xO.no,bz.zero];done)
   simp [ht] at h6
   cbv
   refine ⟨?_,?_⟩
   ·(simp only [ht,aa] at*;omega)
   cbv
   refine bf (_,_,_,_,_,_) (by simp only [ht];rfl) m ?_ ((eg _ _ _ _ _ _ _).2 ?_)
   ·omega
   simp only [aa]
   (have g:=gb (by assumption);exact ⟨Int.lt_of_le_of_lt g.2.2.1 (by ((try simp only [aa] at*);omega)),⟨k+1,by rw [bZ (by decide) (by decide)];((try simp only [aa] at*);omega),by ((try simp only [aa] at*);omega)⟩,by rw [j4,if_pos (by assumption)];rfl⟩)
  simp [ht] at h4
 ·cbv
  refine ai (fun h7=>?_) (fun h7=>?_)
  ·simp [ht] at h7
   cbv
   refine ay trivial (fu ht _ _ (by assumption) (by (simp only [ht];((try simp only [aa] at*);omega)))) trivial rfl rfl (fun r8 qy=>?_)
   simp only [ht] at qy
   have gb:=eM (s:=s) (p:=b)
   rw [←qy] at gb
   obtain ⟨m,rfl⟩:∃m,n=m+1:=⟨n-1,by ((try simp only [aa] at*);omega)⟩
   rw [nD qy] at j4
   rw [show 3-m=2 by ((try simp only [aa] at*);omega)] at j4
   cbv
   refine ai (fun h9=>?_) (fun h9=>?_)
   ·simp [ht] at h9
    cbv
    refine an trivial trivial rfl rfl rfl ?_
    (simp only [ht,iI];simp_all [xO.no,bz.zero];done)
   simp [ht] at h9
   cbv
   refine ⟨?_,?_⟩
   ·(simp only [ht,aa] at*;omega)
   cbv
   refine bf (_,_,_,_,_,_) (by simp only [ht];rfl) m ?_ ((eg _ _ _ _ _ _ _).2 ?_)
   ·omega
   simp only [aa]
   (have g:=gb (by assumption);exact ⟨Int.lt_of_le_of_lt g.2.2.1 (by ((try simp only [aa] at*);omega)),⟨k+1,by rw [bZ (by decide) (by decide)];((try simp only [aa] at*);omega),by ((try simp only [aa] at*);omega)⟩,by rw [j4,if_pos (by assumption)];rfl⟩)
  simp [ht] at h7
 ·cbv
  refine ai (fun h10=>?_) (fun h10=>?_)
  ·simp [ht] at h10
   cbv
   refine ay trivial (fu ht _ _ (by assumption) (by (simp only [ht];((try simp only [aa] at*);omega)))) trivial rfl rfl (fun Yn pZ=>?_)
   simp only [ht] at pZ
   have gb:=eM (s:=s) (p:=b)
   rw [←pZ] at gb
   obtain ⟨m,rfl⟩:∃m,n=m+1:=⟨n-1,by ((try simp only [aa] at*);omega)⟩
   rw [nD pZ] at j4
   rw [show 3-m=3 by ((try simp only [aa] at*);omega)] at j4
   cbv
   refine ai (fun h12=>?_) (fun h12=>?_)
   ·simp [ht] at h12
    cbv
    refine an trivial trivial rfl rfl rfl ?_
    (simp only [ht,iI];simp_all [xO.no,bz.zero];done)
   simp [ht] at h12
   cbv
   refine ⟨?_,?_⟩
   ·(simp only [ht,aa] at*;omega)
   cbv
   refine bf (_,_,_,_,_,_) (by simp only [ht];rfl) m ?_ ((eg _ _ _ _ _ _ _).2 ?_)
   ·omega
   simp only [aa]
   (have g:=gb (by assumption);exact ⟨Int.lt_of_le_of_lt g.2.2.1 (by ((try simp only [aa] at*);omega)),⟨k+1,by rw [bZ (by decide) (by decide)];((try simp only [aa] at*);omega),by ((try simp only [aa] at*);omega)⟩,by rw [j4,if_pos (by assumption)];rfl⟩)
  simp [ht] at h10
 cbv
 refine ai (fun K7=>?_) (fun K7=>?_)
 ·simp [ht] at K7
 simp [ht] at K7
 cbv
 refine an trivial trivial rfl rfl rfl ?_
 (have hn:n=0:=(by ((try simp only [aa] at*);omega));rw [hn,jS] at j4;simp only [ht,iI,j4];done)
end Dem
end
section
open Go
namespace Dem
section
variable {P:Program} {T:Nat→Option TI} {G:Nat→Option (List D)} {N K:Nat}
theorem rZ (hT:iH P T) (hD:kX P T G) {f N:Nat} {fn:Func} {c:Code} {args:List AV} {aE aG:List ax} {res:fm} (hf:P.funcs[f]?=some fn) (hb:fn.body=some c)
 (hname:(fn.name== "runtime.NumGoroutine")=false) (hN:fn.ntmps=N) (hlen:Nat.ble args.length N=true) {pre rest:List Code} (hc:flat c=pre++rest) (R:St→Prop)
 (hr:∀(X:Nat→Prop) (β0:Nat→Nat) (w0:World) (β:Nat→Nat) (w:World) (s:St) (a:Act),Ext β0 aE w0 β s.bx w→Fr G N [] β w X s a→R s→
  qE P rest (ee G N [] X β0 aE w0 (jE t0 T fn.results.toList aE.length res aG)) a w)
 (h:Bv t0 (bg P G) T G N aE.length pre (fun e s=>match e with|.normal=>R s|e=>jE t0 T fn.results.toList aE.length res aG e s) ⟨gA 0 args,aE⟩):bg P G f args aE res aG:=by
 refine vA hT hf hb hname hN hlen fun β w X a hF=>wp_mono (vU c ?_) (fun _ _ _ hl=>ee.imp (fun _ _ hq=>pL hq) hl)
 rw [hc]
 refine nC (oG ?_ (fM (X:=X) (β0:=β) (aE:=aE) (w0:=w) hT hD (Nat.le_refl _) pre _ β w _ a (Ext.refl _ _ _) hF h))
 intro e a1 w1 hl
 cases e<;>simp only [ee,Exit.then] at hl ⊢
 ·obtain ⟨β1,s1,vq,CM,hR⟩:=hl
  exact hr X β w β1 w1 s1 a1 vq CM hR
 all_goals exact hl
structure Xp (n:Nat) (K:Nat→Prop):Prop where
 ok:∀c,n≤c→(n=0→c=0)→K c
def RE (t:Th) (FC:Nat→List AV→List ax→fm→List ax→Prop) (T:Nat→Option TI) (G:Nat→Option (List D)) (N K:Nat) (post:List Code) (i:Nat) (Q:Ex→St→Prop) (s:St):Prop:=
 match fY i s.sl with
 |.ow b sz n=>Xp n fun c=>Bv t FC T G N K post Q ⟨put i (.vw b sz 0 n c true) s.sl,s.bx⟩
 |_=>False
theorem IV (hT:iH P T) (hD:kX P T G) {aE:List ax} (hK:aE.length≤K) {post:List Code} {i:Nat} {Q:Ex→St→Prop} {X:Nat→Prop} {β0:Nat→Nat} {w0:World} {β:Nat→Nat} {w:World} {s:St} {a:Act} (ex:Ext β0 aE w0 β s.bx w) (hF:Fr G N [] β w X s a)
 (h:RE t0 (bg P G) T G N K post i Q s):qE P post (ee G N [] X β0 aE w0 Q) a w:=by
 unfold RE at h
 split at h
 case h_2=>exact h.elim
 rename_i b sz n hi
 obtain ⟨h⟩:=h
 have hx:=hF.xz i
 rw [hi] at hx
 simp only [ah] at hx
 have key:∀c,n≤c→(n=0→c=0)→ah β s.bx w (be β s.bx w X) (.vw b sz 0 n c true) (a.tmps.getD i undef)→qE P post (ee G N [] X β0 aE w0 Q) a w:=by
  intro c h1 h2 h3
  refine fM hT hD hK post Q β w ⟨put i (.vw b sz 0 n c true) s.sl,s.bx⟩ a ex ⟨hF.cx,hF.defers,hF.size,fun t=>?_⟩ (h c h1 h2)
  rw [sE]
  by_cases ht:t=i
  ·subst ht;rw [if_pos rfl];exact h3
  rw [if_neg ht];exact hF.xz t
 obtain ⟨hb,⟨rfl,base,e⟩|⟨h0,cap,c,e1,f',e,h1,h2,h3⟩⟩:=hx
 ·refine key 0 (Nat.le_refl _) (fun _=>rfl) ?_
  rw [e]
  simp only [ah]
  exact ⟨hb,base,0,#[],0,(0,0),rfl,Nat.le_refl _,Nat.le_refl _,fun _=>rfl,.inl rfl⟩
 refine key cap h1 (fun h=>absurd h h0) ?_
 rw [e]
 simp only [ah]
 exact ⟨hb,_,cap,c,e1,f',rfl,h1,Nat.le_refl _,fun _=>rfl,.inr ⟨by simp,h2,by simpa using h3⟩⟩
end
end Dem
end
