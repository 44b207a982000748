/- Parts of a proof, joined. -/
import Derived.Test.YtjnbpclolnmimaaGreatDoorK27
set_option linter.all false
set_option maxRecDepth 100000
set_option maxHeartbeats 4000000
section
open Go Dem Go.Proofs
namespace Dem
variable {t:Th}
def DX (s:aA) (p:Int):Option (Jb×Int):=
 match bE s p with
 |⟨i,p1,true⟩=>match DW s p1 with
  |some (x,p2)=>match bE s p2 with
   |⟨f,e,true⟩=>if 0<f∧f<9223372036854775808 then some (⟨i,x,true,f⟩,e) else none
   |_=>none
  |none=>none
 |_=>none
theorem xE {s:aA} {p e:Int} {j:Jb} (h:DX s p=some (j,e)):∃p1 p2,bE s p=⟨j.id,p1,true⟩∧DW s p1=some (j.x,p2)∧bE s p2=⟨j.left,e,true⟩∧j.runs=true∧0<j.left∧j.left<9223372036854775808:=by
 unfold DX at h
 split at h
 ·rename_i i p1 e1
  split at h
  ·rename_i x p2 e2
   split at h
   ·rename_i f q e3
    split at h
    ·rename_i g
     simp only [osI,Prod.mk.injEq] at h
     obtain ⟨rfl,rfl⟩:=h
     exact ⟨p1,p2,e1,e2,e3,rfl,g.1,g.2⟩
    cases h
   cases h
  cases h
 cases h
theorem T7 {s:aA} {p e:Int} {l:List Term} (hs:s.length<9223372036854775000) (h:Dh s p=some (l,e)):0≤e∧e≤s.length:=by
 obtain ⟨n,q,g1,g2,g3⟩:=B5 h
 have b:=zA g1
 have:∀(n:Nat) (l L:List Term) (p e:Int),jQ s n l p=some (L,e)→0≤p→p≤s.length→0≤e∧e≤s.length:=by
  intro n
  induction n with
  |zero=>intro l L p e h h1 h2;rw [jQ] at h;simp only [osI,Prod.mk.injEq] at h;omega
  |succ n ih=>
   intro l L p e h h1 h2
   obtain ⟨x,q,g1,g2⟩:=yT h
   have:=IF hs g1
   exact ih _ _ _ _ g2 this.1 this.2
 exact this _ _ _ _ _ g2 b.2.2.1 b.2.2.2
theorem T8 {s:aA} {p e:Int} {x:Ask} (hs:s.length<9223372036854775000) (h:DW s p=some (x,e)):0≤e∧e≤s.length:=by
 obtain ⟨p1,p2,p3,p4,p5,e0,e1,e2,e3,e4,e5,_⟩:=B7 h
 exact T7 hs e5
theorem Mx {s:aA} {p e:Int} {j:Jb} (h:DX s p=some (j,e)):0≤e∧e≤s.length:=by
 obtain ⟨p1,p2,g1,g2,g3,_⟩:=xE h
 exact (fj g3).2.2
theorem T9 (ht:TT t) (s:aA) {p e:Int} (ji ja jb jc jd jn jp jt jf:Int) (jq:aA) (jr:Bool) {gL:List Term} {pW:List (List D)} (jw:pW=gL.map Term.cells) (hs:s.length<9223372036854775000) (hp:p<9223372036854775808) (gD:(⟨jq,⟨ja,jb,jc,jd⟩,jn,jp,jt,gL⟩:Ask).sm) (h:DX s p=some (⟨ji,⟨jq,⟨ja,jb,jc,jd⟩,jn,jp,jt,gL⟩,jr,jf⟩,e)):
 FC 137 [.ptr 0 0] [.var [ST s,bc p]] (.ret (.agg [ax ji,ST jq,ax ja,ax jb,ax jc,ax jd,bc jn,bc jp,bc jt,SL pW,BL jr,bc jf])) [.var [ST s,bc e]]:=by
 obtain ⟨p1,p2,g1,g2,g3,g4,g5,g6⟩:=xE h
 simp only at g1 g2 g3 g4 g5 g6
 have b1:=fj g1
 have b2:=T8 hs g2
 have b3:=fj g3
 have hw:IntKind.i64.wrap jf=jf:=by rw [bY (by omega) (by omega)]
 subst g4
 refine bA ht (aB:=[.var [ST s,bc p]]) Tryz.func137 rfl rfl (N:=38) rfl rfl (n:=1) rfl rfl ?_
 cbv
 have pG:pW.length=gL.length:=by rw [jw,lgM]
 (refine cD [0] trv rfl rfl (kB ht s hs (by omega) g1) (bK ?_))
 cbv
 refine yh [0,4] [0,4,9,10,11,12] [false,false,false,false,false,false,false,false,false,false,false,false,false,false,true,true,true] (by kernel_rfl) (by kernel_rfl) (by kernel_rfl) (by kernel_rfl) (by kernel_rfl) (by kernel_rfl) ?_
 cbv
 iterate 8 refine gI (by simp) ?_
 refine .inl ?_
 (refine qT (fun g9=>⟨by simp,by simp,WS ht s hs (by ((try simp only [aa] at*);omega)) jw gD g2⟩) rfl rfl rfl ?_)
 cbv
 iterate 4 refine gI (by simp) ?_
 (refine cD [0] trv rfl rfl (we ht s _ _) (bK ?_))
 cbv
 (apply C4 [1] (.more 0 (.one 1 (.more 2 (.more 3 (.one 4 (.one 5 (.one 6 (.one 7 .done)))) (.one 4 (.more 3 (.one 5 (.one 6 (.one 7 .done))) (.one 5 (.one 3 (.one 6 (.one 7 .done))))))) (.one 4 (.one 2 (.more 3 (.one 5 (.one 6 (.one 7 .done))) (.one 5 (.one 3 (.one 6 (.one 7 .done))))))))) (.one 1 (.more 0 (.more 2 (.more 3 (.one 4 (.one 5 (.one 6 (.one 7 .done)))) (.one 4 (.more 3 (.one 5 (.one 6 (.one 7 .done))) (.one 5 (.one 3 (.one 6 (.one 7 .done))))))) (.one 4 (.one 2 (.more 3 (.one 5 (.one 6 (.one 7 .done))) (.one 5 (.one 3 (.one 6 (.one 7 .done)))))))) (.one 2 (.more 0 (.more 3 (.one 4 (.one 5 (.one 6 (.one 7 .done)))) (.one 4 (.more 3 (.one 5 (.one 6 (.one 7 .done))) (.one 5 (.one 3 (.one 6 (.one 7 .done))))))) (.one 3 (.one 0 (.one 4 (.one 5 (.one 6 (.one 7 .done)))))))))));kernel_rfl;kernel_rfl;kernel_rfl;kernel_rfl;(next=>cbv;repeat (first|(refine cD [0] trv rfl rfl (kB ht s hs (by ((try simp only [aa] at*);omega)) g3) (bK ?_);cbv)|refine And.intro ?_ ?_|exact rfl|exact True.intro)))
 cbv
 (exact ak trv (by simp) rfl rfl rfl (by simp only [ht,hw];simp;omega))
theorem IJ {s:aA} {p m:Int}:((aR s p m).t.length:Int)≤max m 0:=by
 unfold aR
 split
 ·rename_i h
  simp only [List.length_take,List.length_drop];omega
 simp [EJ.no];omega
def Y5 (r:bw aQ):AV:=.dA [V7 r.x,bc r.next,BL r.ok]
def WT (t:Th) (r:bw (List aQ)):AV:=.dA [QI t r.x,bc r.next,BL r.ok]
theorem Ua (ht:TT t) (s:aA) (p:Int) (hs:s.length<9223372036854775000) (hp:p<9223372036854775808):FC 183 [ST s,bc p] [] (.ret (Y5 (t _ fun _=>wT s p))) []:=by
 refine bA ht (aB:=[]) Tryz.func183 rfl rfl (N:=40) rfl rfl (n:=0) rfl rfl ?_
 cbv
 refine ay trv (gC ht _ _ _ ‹_› ‹_› (by omega)) trv rfl rfl (fun r0 bF=>?_)
 simp only [ht] at bF
 have Rn:=dg (s:=s) (p:=p) (m:=98) hs
 (try rw [←bF] at Rn)
 (try obtain ⟨aba,abb,abc⟩:=Rn)
 cbv
 refine ai (fun h1=>?_) (fun h1=>?_)
 ·simp [ht] at h1
  cbv
  refine ak trv trv rfl rfl rfl ?_
  (simp only [ht,wT,bw.SR,aQ.zero,bz.zero];grind)
 simp [ht] at h1
 cbv
 refine ay trv (v7 ht _ _ ‹_› (by (refine Int.lt_of_le_of_lt ‹_› (by ((try simp only [aa] at*);omega))))) trv rfl rfl (fun r2 cU=>?_)
 simp only [ht] at cU
 have aed:(r2).next≤s.length:=by rw [cU];exact sj
 cbv
 refine ai (fun h3=>?_) (fun h3=>?_)
 ·simp [ht] at h3
  cbv
  refine ak trv trv rfl rfl rfl ?_
  (simp only [ht,wT,bw.SR,aQ.zero,bz.zero];grind)
 simp [ht] at h3
 cbv
 refine ay trv (v7 ht _ _ ‹_› (by (refine Int.lt_of_le_of_lt ‹_› (by ((try simp only [aa] at*);omega))))) trv rfl rfl (fun r4 dV=>?_)
 simp only [ht] at dV
 have aee:(r4).next≤s.length:=by rw [dV];exact sj
 cbv
 refine ak trv trv rfl rfl rfl ?_
 (simp only [ht,wT,bw.SR,aQ.zero,bz.zero];grind)
theorem Ub {s:aA} {p:Int}:(wT s p).next≤s.length:=by
 unfold wT;split;· simp [bw.SR]
 split;· simp [bw.SR]
 exact sj
theorem Uc {s:aA} {p:Int}:(wT s p).x.path.length<1000000000000:=by
 have:=IJ (s:=s) (p:=p) (m:=98)
 unfold wT;split;· simp [bw.SR,aQ.zero]
 split;· simp [bw.SR,aQ.zero]
 simp only;omega
theorem Ld {s:aA} {n:Nat} {l:List aQ} {p:Int} {r:bw aQ} (e:r=wT s p):k9 s (n+1) l p=if !r.ok then bw.nJ else if decide (r.x=aQ.zero)&&decide (0<l.length) then bw.nJ else k9 s n (l++[r.x]) r.next:=by rw [k9,e]
theorem WU {x y:aQ}:x=y↔x.path=y.path∧x.c6=y.c6∧x.used=y.used:=by cases x;cases y;simp
theorem IK {x:aQ}:x=aQ.zero↔x.path=[]∧(x.c6.a=0∧x.c6.b=0∧x.c6.c=0∧x.c6.d=0)∧x.used.a=0∧x.used.b=0∧x.used.c=0∧x.used.d=0:=by
 rw [WU,nG,nG];simp [aQ.zero,bz.zero]
theorem RD {s:aA} {p:Int} {r:zq} (e:r=bE s p) (h:r.ok=false∨16<r.u):A9 s p=bw.nJ:=by
 unfold A9
 rw [←e]
 by_cases a:r.ok=true
 ·rcases h with h|h
  ·rw [a] at h;cases h
  simp [a,h]
 simp [a]
theorem RE {s:aA} {p:Int} {r:zq} (e:r=bE s p) (h:r.ok=true∧r.u≤16) (j:k9 s r.u.toNat [] r.next=bw.nJ):A9 s p=bw.nJ:=by
 unfold A9
 rw [←e,j]
 simp only [h.1,bw.nJ]
 split<;>simp
theorem IL {s:aA} {p a:Int} {r:zq} {rs:List aQ} (e:r=bE s p) (h:r.ok=true∧r.u≤16) (j:k9 s r.u.toNat [] r.next=⟨rs,a,true⟩):A9 s p=if gP rs then ⟨rs,a,true⟩ else bw.nJ:=by
 unfold A9
 rw [←e,j]
 have:¬16<r.u:=by omega
 cases hr:gP rs<;>simp [h.1,this]
theorem Le {r:bw aQ} {rs:List aQ} {z:bw (List aQ)} (h:r.ok=false∨(r.x.path=[]∧(r.x.c6.a=0∧r.x.c6.b=0∧r.x.c6.c=0∧r.x.c6.d=0)∧r.x.used.a=0∧r.x.used.b=0∧r.x.used.c=0∧r.x.used.d=0)∧0<rs.length):
 (if (!r.ok)=true then bw.nJ else if (decide (r.x=aQ.zero)&&decide (0<rs.length))=true then bw.nJ else z)=bw.nJ:=by
 rcases h with h|⟨h,h2⟩
 ·simp [h]
 rw [←IK] at h
 split;· rfl
 rw [if_pos (by simp [h,h2])]
theorem RF {r:bw aQ} {rs:List aQ} {z:bw (List aQ)} (h:r.ok=true∧(r.x.path=[]→r.x.c6.a=0→r.x.c6.b=0→r.x.c6.c=0→r.x.c6.d=0→r.x.used.a=0→r.x.used.b=0→r.x.used.c=0→r.x.used.d=0→rs=[])):
 (if (!r.ok)=true then bw.nJ else if (decide (r.x=aQ.zero)&&decide (0<rs.length))=true then bw.nJ else z)=z:=by
 rw [if_neg (by simp [h.1]),if_neg]
 rw [Bool.and_eq_true]
 rintro ⟨h1,h2⟩
 rw [decide_eq_true_eq,IK] at h1
 obtain ⟨a,⟨b,c,d,e⟩,f,g,i,j⟩:=h1
 rw [h.2 a b c d e f g i j] at h2
 simp at h2
theorem Ud (ht:TT t) (s:aA) (p:Int) (hs:s.length<9223372036854775000) (hp:p<9223372036854775808):FC 136 [ST s,bc p] [] (.ret (WT t (t _ fun _=>A9 s p))) []:=by
 refine bA ht (aB:=[]) Tryz.func136 rfl rfl (N:=57) rfl rfl (n:=0) rfl rfl ?_
 cbv
 refine ay trv (fh ht _ _ ‹_› ‹_›) trv rfl rfl (fun r0 bF=>?_)
 simp only [ht] at bF
 have gb:=eI (s:=s) (p:=p)
 rw [←bF] at gb
 cbv
 iterate 2 refine gI (by simp [ht]) ?_
 refine pI (by simp [ht]) ?_
 refine ai (fun h1=>?_) (fun h1=>?_)
 ·simp [ht] at h1
  cbv
  refine ak trv trv rfl rfl rfl ?_
  (simp only [ht,RD bF h1,bw.nJ];rfl)
 simp [ht] at h1
 cbv
 obtain ⟨J2,La⟩:∃J2:Nat→Int×List (List D)×Int→Prop,∀n a o i,J2 n (a,o,i)↔(∃(k:Nat) (rs:List aQ),i=k∧k+n=r0.u.toNat∧o=rs.map aQ.cells∧rs.length=k∧a<9223372036854775808∧(∀x∈rs,x.path.length<1000000000000)∧k9 s r0.u.toNat [] r0.next=k9 s n rs a):=⟨fun n v=>match v with|(a,o,i)=>(∃(k:Nat) (rs:List aQ),i=k∧k+n=r0.u.toNat∧o=rs.map aQ.cells∧rs.length=k∧a<9223372036854775808∧(∀x∈rs,x.path.length<1000000000000)∧k9 s r0.u.toNat [] r0.next=k9 s n rs a),fun _ _ _ _=>Iff.rfl⟩
 refine bg ⟨[0,1,4,24,25],[(4,9)],[]⟩ (σ:=Int×List (List D)×Int) (fun v=>[(1,.d (.int .i64 (t _ fun _=>v.1))),(4,.ow 0 9 (t _ fun _=>(v.2.1).length)),(25,.d (.int .u64 (t _ fun _=>v.2.2)))]) (fun v=>[(0,.row 9 (t _ fun _=>v.2.1))]) J2 ?_
 cbv
 refine aC ⟨r0.u.toNat,(_,[],_),(La _ _ _ _).2 ?_,by simp only [ht];rfl,?_⟩
 ·(have g:=gb (by simp_all);exact ⟨0,[],rfl,by omega,rfl,rfl,Int.lt_of_le_of_lt g.2.2.1 (by ((try simp only [aa] at*);omega)),by simp,rfl⟩)
 rintro n ⟨a,o,i⟩ hj
 replace hj:=(La _ _ _ _).1 hj
 obtain ⟨k,rs,j1,j3,j2,j5,j6,j7,j4⟩:=hj
 have tj:o.length=rs.length:=by rw [j2,lgM]
 cbv
 refine ai (fun h3=>?_) (fun h3=>?_)
 ·simp [ht] at h3
  cbv
  refine ay trv (Ua ht _ _ ‹_› (by (simp only [ht];omega))) trv rfl rfl (fun r4 dV=>?_)
  simp only [ht] at dV
  have Ro:=Ub (s:=s) (p:=a)
  have gb3:=Uc (s:=s) (p:=a)
  rw [←dV] at Ro gb3
  obtain ⟨m,rfl⟩:∃m,n=m+1:=⟨n-1,by ((try simp only [aa] at*);omega)⟩
  rw [Ld dV] at j4
  cbv
  iterate 7 refine gI (by simp [ht]) ?_
  refine gI (by simp [ht,bq];intros;simp_all) ?_
  refine pI (by simp [ht]) ?_
  refine ai (fun h5=>?_) (fun h5=>?_)
  ·simp [ht,aa,tj] at h5
   cbv
   refine ak trv trv rfl rfl rfl ?_
   (simp only [ht,RE bF h1 (j4.trans (Le h5)),bw.nJ];rfl)
  simp [ht,aa,tj] at h5
  cbv
  refine ⟨?_,?_⟩
  ·(simp only [ht,true_and];exact AY j2 (fun _=>rfl) rfl (by omega) (by decide))
  cbv
  refine bu (_,_,_) (by simp only [ht,←List.length_append];rfl) m ?_ ((La _ _ _ _).2 ?_)
  ·omega
  simp only [aa]
  exact ⟨k+1,rs++[(r4).x],by rw [bI];((try simp only [aa] at*);omega),by omega,by rw [j2];simp,by simp;omega,Int.lt_of_le_of_lt Ro (by ((try simp only [aa] at*);omega)),(by intro y hy;rcases List.mem_append.1 hy with hy|hy;exact j7 y hy;simp at hy;rw [hy];exact gb3),j4.trans (RF h5)⟩
 simp [ht] at h3
 cbv
 refine ay trv (DP ht (by (simp only [ht];omega)) (by omega) ‹_›) (by simp [ht]) rfl rfl (fun r6 gk=>?_)
 simp only [ht] at gk
 cbv
 refine ai (fun h7=>?_) (fun h7=>?_)
 ·simp [ht] at h7
  cbv
  refine ak trv trv rfl rfl rfl ?_
  (have n0:n=0:=(by ((try simp only [aa] at*);omega));subst n0;rw [k9] at j4;have te:=IL bF h1 j4;rw [←gk,h7] at te;simp only [ht,te,bw.nJ];rfl)
 simp [ht] at h7
 cbv
 refine ak trv (by simp [ht]) rfl rfl rfl ?_
 (have n0:n=0:=(by ((try simp only [aa] at*);omega));subst n0;rw [k9] at j4;have te:=IL bF h1 j4;rw [←gk,h7] at te;simp [ht,te,j2];done)
def kg (s:aA):Nat→List Jb→Int→Option (List Jb×Int)
 |0,l,p=>some (l,p)
 |n+1,l,p=>match DX s p with
  |some (j,q)=>kg s n (l++[j]) q
  |none=>none
theorem yV {s:aA} {n:Nat} {l L:List Jb} {p e:Int} (h:kg s n l p=some (L,e)):n=0∨∃m j q,n=m+1∧DX s p=some (j,q)∧kg s m (l++[j]) q=some (L,e):=by
 cases n with
 |zero=>exact .inl rfl
 |succ m=>
  rw [kg] at h
  split at h
  ·rename_i j q g;exact .inr ⟨m,j,q,rfl,g,h⟩
  cases h
theorem xF {s:aA}:∀{n:Nat} {l L:List Jb} {p e:Int},kg s n l p=some (L,e)→0≤p→p≤s.length→(0≤e∧e≤s.length)∧L.length=l.length+n∧∀x∈l,x∈L
 |0,l,L,p,e,h,h1,h2=>by rw [kg] at h;simp only [osI,Prod.mk.injEq] at h;obtain ⟨rfl,rfl⟩:=h;exact ⟨⟨h1,h2⟩,rfl,fun x h=>h⟩
 |n+1,l,L,p,e,h,h1,h2=>by
  rcases yV h with h0|⟨m,j,q,e1,g1,g2⟩
  ·cases h0
  cases e1
  have b:=Mx g1
  have:=xF g2 b.1 b.2
  simp only [List.length_append,List.length_singleton,List.mem_append,List.mem_singleton] at this
  exact ⟨this.1,by omega,fun x hx=>this.2.2 x (.inl hx)⟩
theorem RG {l:List Jb} {a b c d e f g h j:Int} {q:aA} {r:Bool} {sr:List (List D)} (hl:l.length<1000000):((l.map Jb.cells).length+[[D.int .u64 a,D.str q,D.int .u64 b,D.int .u64 c,D.int .u64 d,D.int .u64 e,D.int .i64 f,D.int .i64 g,D.int .i64 h,D.sl sr,D.bool r,D.int .i64 j]].length)*120≤140737488355328∧∀x,x∈l.map Jb.cells++[[D.int .u64 a,D.str q,D.int .u64 b,D.int .u64 c,D.int .u64 d,D.int .u64 e,D.int .i64 f,D.int .i64 g,D.int .i64 h,D.sl sr,D.bool r,D.int .i64 j]]→x.length=12:=by
 refine ⟨by simp;omega,?_⟩
 intro x hx
 rcases List.mem_append.1 hx with hx|hx
 ·obtain ⟨y,_,rfl⟩:=List.mem_map.1 hx;rfl
 rw [List.mem_singleton.1 hx];rfl
theorem Om (ht:TT t) (s:aA) {p p1 p2 p3 p4 p5 p6 p7 e c:Int} (rd nx ef af:Int) {nl:List Node} {pl:List Place} {tl:List aQ} {jl:List Jb} {ql:List bZ} {el al:List cF} {ns ps ts js qs es dm:List (List D)} (gR:ns=nl.map Node.cells) (hps:ps=pl.map Place.cells) (hts:ts=tl.map aQ.cells) (fU:js=jl.map Jb.cells) (fG:qs=ql.map bZ.cells) (aD:es=el.map cF.cells) (has:dm=al.map cF.cells) (hs:s.length<9223372036854775000) (hp:p<9223372036854775808) (hq:ql=[])
 (g1:bE s p=⟨rd,p1,true⟩) (g2:bE s p1=⟨nx,p2,true⟩) (g3:Hr s p2=⟨⟨nl,pl⟩,p3,true⟩) (l3:p3≤s.length) (g4:A9 s p3=⟨tl,p4,true⟩) (l4:p4≤s.length)
 (g5:bE s p4=⟨c,p5,true⟩) (g6:kg s c.toNat [] p5=some (jl,p6)) (hjl:jl.length<1000000) (gD:∀j∈jl,j.x.sm)
 (g7:kW s p6=some (⟨ef,el⟩,p7)) (hel:el.length<1000000) (g8:kW s p7=some (⟨af,al⟩,e)) (hal:al.length<1000000):
 FC 78 [.ptr 0 0] [.var [ST s,bc p]] (.ret (.agg [ax rd,ax nx,SL ns,SL ps,SL ts,SL js,SL qs,ax ef,SL es,ax af,SL dm])) [.var [ST s,bc e]]:=by
 have b1:=fj g1
 have b2:=fj g2
 have b5:=fj g5
 have b6:=xF g6 b5.2.2.1 b5.2.2.2
 have b7:=IG g7
 have b8:=IG g8
 have b60:=b6.1
 have b61:=b6.2.1
 simp only [List.length_nil,Nat.zero_add] at b61
 subst hq
 refine bA ht (aB:=[.var [ST s,bc p]]) Tryz.func78 rfl rfl (N:=89) rfl rfl (n:=1) rfl rfl ?_
 cbv
 have fc:ns.length=nl.length:=by rw [gR,lgM]
 have fA:ps.length=pl.length:=by rw [hps,lgM]
 have fT:ts.length=tl.length:=by rw [hts,lgM]
 have dj:js.length=jl.length:=by rw [fU,lgM]
 have av:es.length=el.length:=by rw [aD,lgM]
 have dP:dm.length=al.length:=by rw [has,lgM]
 (refine cD [0] trv rfl rfl (kB ht s hs (by omega) g1) (bK ?_))
 cbv
 (refine cD [0] trv rfl rfl (kB ht s hs (by ((try simp only [aa] at*);omega)) g2) (bK ?_))
 cbv
 refine yh [0,4] [0,4,9,10,11,12] [false,false,false,false,false,false,false,false,false,false,false,false,false,false,true,true,true] (by kernel_rfl) (by kernel_rfl) (by kernel_rfl) (by kernel_rfl) (by kernel_rfl) (by kernel_rfl) ?_
 cbv
 iterate 8 refine gI (by simp) ?_
 refine .inl ?_
 refine iS (fun g0=>⟨trv,trv,TU ht _ _ ‹_› (by ((try simp only [aa] at*);omega))⟩) rfl rfl rfl (fun r1 eb=>?_)
 simp only [ht] at eb
 (rw [g3] at eb;subst eb)
 cbv
 iterate 4 refine gI (by simp) ?_
 (refine cD [0] trv rfl rfl (we ht s _ _) (bK ?_))
 cbv
 refine bS [false,false,false,false,false,false,false,false,true,true,false,false,false,false,false,true] (by kernel_rfl) (by kernel_rfl) ?_
 cbv
 iterate 8 refine gI (by simp) ?_
 refine aU trv (Ud ht _ _ ‹_› (by ((try simp only [aa] at*);omega))) trv rfl rfl rfl (fun r2 cU=>?_)
 simp only [ht] at cU
 (rw [g4] at cU;subst cU)
 cbv
 iterate 5 refine gI (by simp) ?_
 (refine cD [0] trv rfl rfl (we ht s _ _) (bK ?_))
 cbv
 (refine cD [0] trv rfl rfl (kB ht s hs (by ((try simp only [aa] at*);omega)) g5) (bK ?_))
 cbv
 obtain ⟨J3,Fp⟩:∃J3:Nat→Int×List (List D)×Int→Prop,∀n i o a,J3 n (i,o,a)↔(∃(k:Nat) (l:List Jb),i=k∧k+n=c.toNat∧o=l.map Jb.cells∧l.length=k∧0≤a∧a≤s.length∧kg s n l a=some (jl,p6)):=⟨fun n v=>match v with|(i,o,a)=>(∃(k:Nat) (l:List Jb),i=k∧k+n=c.toNat∧o=l.map Jb.cells∧l.length=k∧0≤a∧a≤s.length∧kg s n l a=some (jl,p6)),fun _ _ _ _=>Iff.rfl⟩
 refine bg ⟨[0,2,3,54,55],[],[(2,5,12)]⟩ (σ:=Int×List (List D)×Int) (fun v=>[(55,.d (.int .u64 (t _ fun _=>v.1)))]) (fun v=>[(3,.row 12 (t _ fun _=>v.2.1)),(2,.var [AV.d (D.int IntKind.u64 rd),AV.d (D.int IntKind.u64 nx),AV.d (D.sl (t (List (List D)) fun x=>List.map (fun x=>[D.str (Node.name x),D.int IntKind.u64 (bz.a (Node.cap x)),D.int IntKind.u64 (bz.b (Node.cap x)),D.int IntKind.u64 (bz.c (Node.cap x)),D.int IntKind.u64 (bz.d (Node.cap x)),D.sl (List.map (fun p=>[D.str (bR.key p),D.str (bR.value p)]) (Node.labels x)),D.bool (Node.up x)]) (cQ.nodes {nodes:=nl,places:=pl}))),AV.d (D.sl (t (List (List D)) fun x=>List.map (fun x=>[D.int IntKind.u64 (Place.bB x),D.str (Place.node x),D.int IntKind.u64 (bz.a (Place.v x)),D.int IntKind.u64 (bz.b (Place.v x)),D.int IntKind.u64 (bz.c (Place.v x)),D.int IntKind.u64 (bz.d (Place.v x))]) (cQ.places {nodes:=nl,places:=pl}))),AV.d (D.sl (t (List (List D)) fun x=>List.map (fun e=>[D.str (aQ.path e),D.int IntKind.u64 (bz.a (aQ.c6 e)),D.int IntKind.u64 (bz.b (aQ.c6 e)),D.int IntKind.u64 (bz.c (aQ.c6 e)),D.int IntKind.u64 (bz.d (aQ.c6 e)),D.int IntKind.u64 (bz.a (aQ.used e)),D.int IntKind.u64 (bz.b (aQ.used e)),D.int IntKind.u64 (bz.c (aQ.used e)),D.int IntKind.u64 (bz.d (aQ.used e))]) tl)),.ow 3 12 (t _ fun _=>(v.2.1).length),AV.cl [],AV.d (D.int IntKind.u64 0),AV.cl [],AV.d (D.int IntKind.u64 0),AV.cl []]),(0,.var [AV.d (D.str s),.d (.int .i64 (t _ fun _=>v.2.2))])]) J3 ?_
 cbv
 refine aC ⟨c.toNat,(_,[],_),(Fp _ _ _ _).2 ?_,by simp only [ht];rfl,?_⟩
 ·exact ⟨0,[],rfl,by omega,rfl,rfl,b5.2.2.1,b5.2.2.2,g6⟩
 rintro n ⟨i,o,a⟩ hj
 replace hj:=(Fp _ _ _ _).1 hj
 obtain ⟨k,l,rfl,j1,rfl,j3,j4,j5,j6⟩:=hj
 have hx:=yV j6
 cbv
 refine ai (fun h4=>?_) (fun h4=>?_)
 ·simp [ht,aa] at h4
  cbv
  (obtain ⟨m,⟨ji,⟨jq,⟨ja,jb,jc,jd⟩,jn,jp,jt,gL⟩,jr,jf⟩,q,rfl,gx,gy⟩:=hx.resolve_left (by ((try simp only [aa] at*);omega));have bx:=Mx gx;have bm:=(xF gy bx.1 bx.2).2.2 _ (List.mem_append_right _ (List.mem_singleton.2 rfl));have bs:=gD _ bm;obtain ⟨_,_,_,_,_,br,_,_⟩:=xE gx;simp only at br;subst br;obtain ⟨pW,jw⟩:∃pW,pW=gL.map Term.cells:=⟨_,rfl⟩;refine cD [0] trv rfl rfl (T9 ht s ji ja jb jc jd jn jp jt jf jq true jw hs (by simp only [ht];((try simp only [aa] at*);omega)) bs (by simp only [ht];exact gx)) (bK ?_))
  cbv
  refine ⟨?_,?_⟩
  ·(simp only [ht,true_and];exact RG (l:=l) (by omega))
  cbv
  refine ai (fun h5=>?_) (fun h5=>?_)
  ·simp [ht] at h5
  simp [ht] at h5
  cbv
  refine bu (_,_,_) (by simp only [ht,←List.length_append];rfl) m ?_ ((Fp _ _ _ _).2 ?_)
  ·omega
  simp only [aa]
  exact ⟨k+1,l++[⟨ji,⟨jq,⟨ja,jb,jc,jd⟩,jn,jp,jt,gL⟩,true,jf⟩],Mw (by omega),by omega,by simp [Jb.cells,jw],by simp;omega,bx.1,bx.2,gy⟩
 simp [ht,aa] at h4
 cbv
 ((have hn:n=0:=(by ((try simp only [aa] at*);omega));subst hn;rw [kg] at j6;simp only [osI,Prod.mk.injEq] at j6;obtain ⟨j7,j8⟩:=j6;refine cD [0] trv rfl rfl (II ht s hs (by simp only [ht];((try simp only [aa] at*);omega)) hel aD (by simp only [ht];rw [j8];exact g7)) (bK ?_)))
 cbv
 ((refine cD [0] trv rfl rfl (II ht s hs (by ((try simp only [aa] at*);omega)) hal has g8) (bK ?_)))
 cbv
 (exact ak trv (by simp [ht]) rfl (by simp only [ht];rfl) rfl (by simp only [ht,gR,hps,hts,fU,fG,j7];rfl))
theorem RH (ht:TT t) (rd nx ef af p:Int) (ns ps ts js qs es dm:List (List D)) (ok:Bool) (s:aA):Zv 77 [.ptr 0 0,.ptr 1 0] [.var [ax rd,ax nx,SL ns,SL ps,SL ts,SL js,SL qs,ax ef,SL es,ax af,SL dm],.var [BL ok],.var [ST s,bc p]] (.ret (.dA [])) [.var [ax rd,ax nx,SL ns,SL ps,SL ts,SL js,SL qs,ax ef,SL es,ax af,SL dm],.var [BL ok],.var [ST s,bc p]]:=by
 refine YJ ht (aB:=[.var [ax rd,ax nx,SL ns,SL ps,SL ts,SL js,SL qs,ax ef,SL es,ax af,SL dm],.var [BL ok],.var [ST s,bc p]]) Tryz.func77 rfl rfl (N:=11) rfl rfl (n:=3) rfl rfl rfl ?_
 cbv
 refine pP rfl ?_
 cbv
 exact ak trv trv rfl rfl rfl rfl
theorem Ue (ht:TT t) (s:aA) {p1 p2 p3 p4 p5 p6 p7 c e:Int} (rd nx ef af:Int) {nl:List Node} {pl:List Place} {tl:List aQ} {jl:List Jb} {ql:List bZ} {el al:List cF} {ns ps ts js qs es dm:List (List D)} (gR:ns=nl.map Node.cells) (hps:ps=pl.map Place.cells) (hts:ts=tl.map aQ.cells) (fU:js=jl.map Jb.cells) (fG:qs=ql.map bZ.cells) (aD:es=el.map cF.cells) (has:dm=al.map cF.cells) (hs:s.length<9223372036854775000) (hq:ql=[]) (he:e=s.length)
 (g1:bE s 0=⟨rd,p1,true⟩) (g2:bE s p1=⟨nx,p2,true⟩) (g3:Hr s p2=⟨⟨nl,pl⟩,p3,true⟩) (l3:p3≤s.length) (g4:A9 s p3=⟨tl,p4,true⟩) (l4:p4≤s.length)
 (g5:bE s p4=⟨c,p5,true⟩) (g6:kg s c.toNat [] p5=some (jl,p6)) (g7:kW s p6=some (⟨ef,el⟩,p7)) (g8:kW s p7=some (⟨af,al⟩,e))
 (gD:(⟨rd,nx,⟨nl,pl⟩,tl,jl,ql,⟨ef,el⟩,⟨af,al⟩⟩:cJ).sm) (hr:gH ⟨rd,nx,⟨nl,pl⟩,tl,jl,ql,⟨ef,el⟩,⟨af,al⟩⟩=true):
 FC 25 [ST s] [] (.ret (.dA [.agg [ax rd,ax nx,SL ns,SL ps,SL ts,SL js,SL qs,ax ef,SL es,ax af,SL dm],BL true])) []:=by
 have h6:=gD.aL
 have h7:=gD.notes
 simp only at h6 h7
 refine YI ht (aB:=[]) Tryz.func25 rfl rfl (N:=25) rfl rfl (n:=0) rfl rfl rfl ?_
 cbv
 have fc:ns.length=nl.length:=by rw [gR,lgM]
 have fA:ps.length=pl.length:=by rw [hps,lgM]
 have fT:ts.length=tl.length:=by rw [hts,lgM]
 have dj:js.length=jl.length:=by rw [fU,lgM]
 have dL:qs.length=ql.length:=by rw [fG,lgM]
 have av:es.length=el.length:=by rw [aD,lgM]
 have dP:dm.length=al.length:=by rw [has,lgM]
 (refine cD [2] trv rfl rfl (Om ht s rd nx ef af gR hps hts fU fG aD has hs (by decide) hq g1 g2 g3 l3 g4 l4 g5 g6 h6.1 (fun j hj=>(h6.2 j hj).1) g7 h7.1 g8 h7.2) (bK ?_))
 cbv
 refine gI (by simp [ht]) ?_
 refine aJ (fun g0=>⟨by simp [ht] at g0 ⊢;exact g0,trv,pJ ht _ _ _ _ ‹_› ‹_› ‹_› ‹_› ‹_› ‹_› ‹_› ‹_›⟩) rfl rfl (fun r1 eb=>?_)
 simp only [ht] at eb
 (rw [hr] at eb;subst eb)
 cbv
 refine gI (by simp [ht]) ?_
 refine pI (by simp [ht]) ?_
 refine ai (fun h2=>?_) (fun h2=>?_)
 ·simp [ht,aa] at h2
  contradiction
 simp [ht,aa] at h2
 cbv
 (refine JI (RH ht _ _ _ _ _ _ _ _ _ _ _ _ _ _) ?_)
 cbv
 refine ak trv trv rfl rfl rfl ?_
 rfl
def RI (z:Int):List D:=[.int .i64 z]
theorem On {x:Ask} (h:cI x=0):mM x.path x.path=true∧(1≤x.count∧x.count≤8)∧(0≤x.prio∧x.prio≤9)∧(1≤x.dO∧x.dO≤100)∧pe x.bX=true∧(dG x).2=true:=by
 unfold cI Ou at h
 split at h;· cases h
 split at h;· cases h
 split at h;· cases h
 split at h;· cases h
 simp_all
theorem Uf (ht:TT t) (p:aA) (a b c d n pr tk:Int) {sl:List Term} {sr:List (List D)} (US:sr=sl.map Term.cells) (gD:(⟨p,⟨a,b,c,d⟩,n,pr,tk,sl⟩:Ask).sm) (hn:(M1 ⟨p,⟨a,b,c,d⟩,n,pr,tk,sl⟩).length<9223372036854775000):
 FC 75 [.agg [ST p,ax a,ax b,ax c,ax d,bc n,bc pr,bc tk,SL sr]] [] (.ret (sK (t _ fun _=>M1 ⟨p,⟨a,b,c,d⟩,n,pr,tk,sl⟩))) []:=by
 obtain ⟨h1,h2,h3,h4⟩:=id gD
 simp only at h1 h2 h3 h4
 have hu:(⟨a,b,c,d⟩:bz).u:=⟨h2.1.2,h2.2.1.2,h2.2.2.1.2,h2.2.2.2.2⟩
 obtain ⟨nl,Ge⟩:∃nl:List Int,nl=[n,pr,tk]:=⟨_,rfl⟩
 have abx:nl.length=3:=by rw [Ge];rfl
 obtain ⟨ck,RR⟩:∃ck,ck=cI ⟨p,⟨a,b,c,d⟩,n,pr,tk,sl⟩:=⟨_,rfl⟩
 obtain ⟨ap,hap⟩:∃ap,ap=M1 ⟨p,⟨a,b,c,d⟩,n,pr,tk,sl⟩:=⟨_,rfl⟩
 have hno:¬ck=0→ap=[]:=fun h=>by rw [hap,M1,if_pos (by rw [←RR];exact h)]
 have WV:ck=0→ap=bH p++Cp ⟨a,b,c,d⟩++(nl.map eg).flatten++A4 sl∧∀z∈nl,0≤z∧z<1000:=fun h=>by
  have ok:=On (RR.symm.trans h)
  simp only at ok
  refine ⟨by rw [hap,M1,if_neg (by rw [←RR,h];simp),Ge];simp,?_⟩
  rw [Ge];intro z hz;simp at hz;rcases hz with rfl|rfl|rfl<;>omega
 rw [←hap] at hn ⊢
 have Vb:ck=0→(A4 sl).length<9223372036854775000:=fun h=>by
  have:=congrArg List.length (WV h).1
  simp only [List.length_append] at this;omega
 refine bA ht (aB:=[]) Tryz.func75 rfl rfl (N:=39) rfl rfl (n:=0) rfl rfl ?_
 cbv
 have eE:sr.length=sl.length:=by rw [US,lgM]
 refine ay trv (j9 ht _ _ _ _ _ _ _ _ ‹_› ‹_›) trv rfl rfl (fun r0 bF=>?_)
 simp only [ht] at bF
 rw [←RR] at bF
 subst r0
 cbv
 refine ai (fun h1=>?_) (fun h1=>?_)
 ·simp [ht] at h1
  cbv
  refine ak trv trv rfl rfl rfl ?_
  (simp_all;done)
 simp [ht] at h1
 cbv
 refine bS [false,false,false,false,false,true,true,true] (by kernel_rfl) (by kernel_rfl) ?_
 cbv
 iterate 2 refine gI (by simp) ?_
 refine .inl ?_
 refine aJ (fun g2=>⟨trv,trv,dM ht _ (by omega)⟩) rfl rfl (fun r3 gQ=>?_)
 simp only [ht] at gQ
 have aby:(r3).length=(eg p.length).length+p.length:=by rw [gQ,bH,List.length_append]
 cbv
 iterate 2 refine gI (by simp) ?_
 refine ay trv (sF ht _ _ _ _ ‹_›) trv rfl rfl (fun r4 dV=>?_)
 simp only [ht] at dV
 have YW:(r4).length≤40:=by rw [dV];exact A8 _
 cbv
 refine ⟨?_,?_⟩
 ·(simp only [ht];grind)
 cbv
 obtain ⟨J5,WC⟩:∃J5:Nat→List UInt8×Int→Prop,∀m o i,J5 m (o,i)↔(∃k:Nat,i=k∧k+m=3∧ap=o++((nl.drop k).map eg).flatten++A4 sl):=⟨fun m v=>match v with|(o,i)=>(∃k:Nat,i=k∧k+m=3∧ap=o++((nl.drop k).map eg).flatten++A4 sl),fun _ _ _=>Iff.rfl⟩
 refine bg ⟨[1,3,22,23,24],[],[]⟩ (σ:=List UInt8×Int) (fun v=>[(3,.d (.str (t _ fun _=>v.1))),(24,.d (.int .i64 (t _ fun _=>v.2)))]) (fun v=>[]) J5 ?_
 cbv
 refine aC ⟨3,(_,_),(WC _ _ _).2 ?_,by simp only [ht];rfl,?_⟩
 ·(refine ⟨0,rfl,rfl,?_⟩;rw [(WV ‹_›).1,gQ,dV];simp)
 rintro m ⟨o,i⟩ hj
 replace hj:=(WC _ _ _).1 hj
 obtain ⟨k,rfl,j1,j4⟩:=hj
 cbv
 refine ai (fun h6=>?_) (fun h6=>?_)
 ·simp [ht,aa] at h6
  cbv
  (simp only [aa] at h6;refine dS ht (l:=nl) (cells:=RI) (cT:=RI) (by rw [Ge];rfl) (by simp only [ht,aa];omega) (by simp only [ht,aa,abx];omega) (fun _=>rfl) (fun _=>rfl) (fun xn Q0=>?_);simp only [ht] at Q0;replace Q0:nl[k]?=some xn:=Q0;rw [kx Q0] at j4;have oP:=congrArg List.length j4;simp at oP;obtain ⟨z1,z2⟩:=(WV ‹_›).2 xn (List.mem_of_getElem? Q0);have hzw:IntKind.u64.wrap xn=xn:=(by rw [bI];omega))
  cbv
  refine ay trv (cL ht _ (by (simp only [ht];omega))) trv rfl rfl (fun r7 gE=>?_)
  simp only [ht] at gE
  have Rs:=congrArg List.length gE
  (try rw [hzw] at gE)
  cbv
  refine ⟨?_,?_⟩
  ·(simp only [ht];grind)
  cbv
  refine bu (_,_) (by simp only [ht];rfl) (m-1) ?_ ((WC _ _ _).2 ?_)
  ·((try simp only [aa] at*);omega)
  simp only [aa]
  exact ⟨k+1,aE (by omega),by ((try simp only [aa] at*);omega),by rw [j4];simp [*]⟩
 simp [ht,aa] at h6
 cbv
 refine ay trv (T3 ht ‹_› ‹_› ‹_› (by omega)) trv rfl rfl (fun r8 sO=>?_)
 simp only [ht] at sO
 have YY:=congrArg List.length sO
 cbv
 refine ⟨?_,?_⟩
 ·(simp only [ht];grind)
 cbv
 refine ak trv trv rfl rfl rfl ?_
 (simp only [ht];grind)
theorem Ug (ht:TT t) {l:List aQ} {es:List (List D)} (aD:es=l.map aQ.cells) (hl:l.length<1000000000) (hu:∀x∈l,x.c6.u∧x.used.u) (hn:(Hv l).length<9223372036854775000):
 FC 74 [SL es] [] (.ret (sK (t _ fun _=>Hv l))) []:=by
 have Cz:IntKind.u64.wrap (es.length:Int)=l.length:=by rw [bI,aD,lgM];omega
 refine bA ht (aB:=[]) Tryz.func74 rfl rfl (N:=31) rfl rfl (n:=0) rfl rfl ?_
 cbv
 have av:es.length=l.length:=by rw [aD,lgM]
 refine ay trv (cL ht _ (by (simp only [ht];((try simp only [aa] at*);omega)))) trv rfl rfl (fun r0 bF=>?_)
 simp only [ht] at bF
 (try rw [Cz] at bF)
 have Wy:=congrArg List.length bF
 cbv
 obtain ⟨J1,gj⟩:∃J1:Nat→List UInt8×Int→Prop,∀n o i,J1 n (o,i)↔(∃k:Nat,i=k∧k+n=l.length∧Hv l=o++((l.drop k).map LY).flatten):=⟨fun n v=>match v with|(o,i)=>(∃k:Nat,i=k∧k+n=l.length∧Hv l=o++((l.drop k).map LY).flatten),fun _ _ _=>Iff.rfl⟩
 refine bg ⟨[3,10,11,12],[],[]⟩ (σ:=List UInt8×Int) (fun v=>[(3,.d (.str (t _ fun _=>v.1))),(12,.d (.int .i64 (t _ fun _=>v.2)))]) (fun v=>[]) J1 ?_
 cbv
 refine aC ⟨l.length,(_,_),(gj _ _ _).2 ?_,by simp only [ht];rfl,?_⟩
 ·exact ⟨0,rfl,by simp,by simp [Hv, *]⟩
 rintro n ⟨o,i⟩ hj
 replace hj:=(gj _ _ _).1 hj
 obtain ⟨k,rfl,j1,j4⟩:=hj
 cbv
 refine ai (fun h2=>?_) (fun h2=>?_)
 ·simp [ht,aa,av] at h2
  cbv
  refine dS ht aD (cT:=aQ.aK t) (by (simp only [ht,aa];omega)) (by (simp only [ht,aa];omega)) (fun _=>rfl) (fun _=>rfl) (fun x3 nv=>?_)
  simp [ht,aa] at nv
  rw [kx nv,LY] at j4
  have oP:=congrArg List.length j4
  simp only [List.length_append,bH] at oP
  obtain ⟨UX,hu2⟩:=hu _ (List.mem_of_getElem? nv)
  clear nv
  obtain ⟨pp,⟨q1,q2,q3,q4⟩,⟨q5,q6,q7,q8⟩⟩:=x3
  simp only at oP
  cbv
  refine bS [false,false,false,false,false,false,false,false,false,false,false,false,true,true] (by kernel_rfl) (by kernel_rfl) ?_
  cbv
  iterate 3 refine gI (by simp) ?_
  refine .inl ?_
  refine aJ (fun g4=>⟨trv,trv,dM ht _ (by omega)⟩) rfl rfl (fun r5 jh=>?_)
  simp only [ht] at jh
  have Y6:=congrArg List.length jh
  simp only [bH,List.length_append] at Y6
  cbv
  iterate 2 refine gI (by simp) ?_
  refine .inl ?_
  refine aJ (fun g6=>⟨trv,trv,sF ht _ _ _ _ ‹_›⟩) rfl rfl (fun r7 gE=>?_)
  simp only [ht] at gE
  have Rs:=congrArg List.length gE
  cbv
  refine gI (by simp [ht];omega) ?_
  iterate 2 refine gI (by simp) ?_
  refine .inl ?_
  refine aJ (fun g8=>⟨trv,trv,sF ht _ _ _ _ ‹_›⟩) rfl rfl (fun r9 dz=>?_)
  simp only [ht] at dz
  have WD:=congrArg List.length dz
  cbv
  refine gI (by simp [ht];omega) ?_
  refine ⟨?_,?_⟩
  ·(simp [ht];omega)
  cbv
  refine bu (_,_) (by simp only [ht];rfl) (n-1) ?_ ((gj _ _ _).2 ?_)
  ·omega
  simp only [aa]
  exact ⟨k+1,aE (by omega),by omega,by rw [j4];simp [*]⟩
 simp [ht,aa,av] at h2
 cbv
 refine ak trv trv rfl rfl rfl ?_
 (rw [List.drop_eq_nil_of_le (by omega)] at j4;simp [*];done)
def Fv (s:cJ):aA:=eg s.round++eg s.next++Cv s.bC++Hv s.tree++eg s.aL.length++(s.aL.map HA).flatten
theorem IM (s:cJ):mO s=Fv s++iZ s.ev++iZ s.au:=rfl
theorem RJ (ht:TT t) (rd nx ef af:Int) {nl:List Node} {pl:List Place} {tl:List aQ} {jl:List Jb} {ql:List bZ} {el al:List cF} {ns ps ts js qs es dm:List (List D)} (gR:ns=nl.map Node.cells) (hps:ps=pl.map Place.cells) (hts:ts=tl.map aQ.cells) (fU:js=jl.map Jb.cells) (fG:qs=ql.map bZ.cells) (aD:es=el.map cF.cells) (has:dm=al.map cF.cells) (hrd:rd<18446744073709551616) (UO:nx<18446744073709551616) (Ge:nl.length<1000000000) (pO:pl.length<1000000000) (aeh:∀x∈nl,x.sm) (hnu:∀x∈nl,x.cap.u) (hpu:∀x∈pl,x.v.u∧x.bB<18446744073709551616)
 (htl:tl.length<1000000000) (htu:∀x∈tl,x.c6.u∧x.used.u) (hjl:jl.length<1000000) (hju:∀x∈jl,x.x.sm∧x.id<18446744073709551616) (hef:ef<18446744073709551616) (hel:el.length<1000000000) (heu:∀x∈el,x.round<18446744073709551616∧x.id<18446744073709551616)
 (haf:af<18446744073709551616) (hal:al.length<1000000000) (hau:∀x∈al,x.round<18446744073709551616∧x.id<18446744073709551616) (hn:(mO ⟨rd,nx,⟨nl,pl⟩,tl,jl,ql,⟨ef,el⟩,⟨af,al⟩⟩).length<9223372036854775000):
 FC 24 [.agg [ax rd,ax nx,SL ns,SL ps,SL ts,SL js,SL qs,ax ef,SL es,ax af,SL dm]] [] (.ret (sK (t _ fun _=>mO ⟨rd,nx,⟨nl,pl⟩,tl,jl,ql,⟨ef,el⟩,⟨af,al⟩⟩))) []:=by
 have Cz:IntKind.u64.wrap (js.length:Int)=jl.length:=by rw [bI,fU,lgM];omega
 obtain ⟨z,hz⟩:∃z,z=Fv ⟨rd,nx,⟨nl,pl⟩,tl,jl,ql,⟨ef,el⟩,⟨af,al⟩⟩:=⟨_,rfl⟩
 have Jh:=hn
 rw [IM,←hz] at Jh
 simp only [List.length_append] at Jh
 have hz1:=congrArg List.length hz
 simp only [Fv,List.length_append] at hz1
 have hn2:(Cv ⟨nl,pl⟩).length<9223372036854775000:=by omega
 have hn3:(Hv tl).length<9223372036854775000:=by omega
 have hn4:(iZ ⟨ef,el⟩).length<9223372036854775000:=by omega
 have hn5:(iZ ⟨af,al⟩).length<9223372036854775000:=by omega
 refine bA ht (aB:=[]) Tryz.func24 rfl rfl (N:=58) rfl rfl (n:=0) rfl rfl ?_
 cbv
 have fc:ns.length=nl.length:=by rw [gR,lgM]
 have fA:ps.length=pl.length:=by rw [hps,lgM]
 have fT:ts.length=tl.length:=by rw [hts,lgM]
 have dj:js.length=jl.length:=by rw [fU,lgM]
 have dL:qs.length=ql.length:=by rw [fG,lgM]
 have av:es.length=el.length:=by rw [aD,lgM]
 have dP:dm.length=al.length:=by rw [has,lgM]
 refine bS [false,false,false,false,false,false,false,false,false,false,false,false,false,false,false,false,false,false,false,false,true,true] (by kernel_rfl) (by kernel_rfl) ?_
 cbv
 iterate 2 refine gI (by simp) ?_
 refine .inl ?_
 refine aJ (fun g0=>⟨trv,trv,cL ht _ ‹_›⟩) rfl rfl (fun r1 eb=>?_)
 simp only [ht] at eb
 (try rw [Cz] at eb)
 have WE:=congrArg List.length eb
 cbv
 iterate 2 refine gI (by simp) ?_
 refine .inl ?_
 refine aJ (fun g2=>⟨trv,trv,cL ht _ ‹_›⟩) rfl rfl (fun r3 gQ=>?_)
 simp only [ht] at gQ
 (try rw [Cz] at gQ)
 have aby:=congrArg List.length gQ
 cbv
 refine gI (by simp [ht];omega) ?_
 iterate 2 refine gI (by simp) ?_
 refine .inl ?_
 refine aJ (fun g4=>⟨trv,trv,TW ht ‹_› ‹_› ‹_› ‹_› ‹_› ‹_› ‹_› ‹_›⟩) rfl rfl (fun r5 jh=>?_)
 simp only [ht] at jh
 have Y6:=congrArg List.length jh
 cbv
 refine gI (by simp [ht];omega) ?_
 iterate 2 refine gI (by simp) ?_
 refine .inl ?_
 refine aJ (fun g6=>⟨trv,trv,Ug ht ‹_› ‹_› ‹_› ‹_›⟩) rfl rfl (fun r7 gE=>?_)
 simp only [ht] at gE
 have Rs:=congrArg List.length gE
 cbv
 refine gI (by simp [ht];omega) ?_
 iterate 4 refine gI (by simp) ?_
 refine .inl ?_
 refine aJ (fun g8=>⟨trv,trv,cL ht _ (by (simp only [ht];((try simp only [aa] at*);omega)))⟩) rfl rfl (fun r9 dz=>?_)
 simp only [ht] at dz
 (try rw [Cz] at dz)
 have WD:=congrArg List.length dz
 cbv
 refine ⟨?_,?_⟩
 ·(simp [ht];omega)
 cbv
 obtain ⟨J10,WW⟩:∃J10:Nat→List UInt8×Int→Prop,∀n o i,J10 n (o,i)↔(∃k:Nat,i=k∧k+n=jl.length∧z=o++((jl.drop k).map HA).flatten):=⟨fun n v=>match v with|(o,i)=>(∃k:Nat,i=k∧k+n=jl.length∧z=o++((jl.drop k).map HA).flatten),fun _ _ _=>Iff.rfl⟩
 refine bg ⟨[1,3,28,29,30],[],[]⟩ (σ:=List UInt8×Int) (fun v=>[(3,.d (.str (t _ fun _=>v.1))),(30,.d (.int .i64 (t _ fun _=>v.2)))]) (fun v=>[]) J10 ?_
 cbv
 refine aC ⟨jl.length,(_,_),(WW _ _ _).2 ?_,by simp only [ht];rfl,?_⟩
 ·exact ⟨0,rfl,by simp,by rw [hz];simp [Fv, *]⟩
 rintro n ⟨o,i⟩ hj
 replace hj:=(WW _ _ _).1 hj
 obtain ⟨k,rfl,j1,j4⟩:=hj
 cbv
 refine ai (fun h11=>?_) (fun h11=>?_)
 ·simp [ht,aa,dj] at h11
  cbv
  refine dS ht fU (cT:=Jb.aK t) (by (simp only [ht,aa];omega)) (by (simp only [ht,aa];omega)) (fun _=>rfl) (fun _=>(by (simp only [ht,Jb.aK];rfl))) (fun x12 Uh=>?_)
  simp [ht,aa] at Uh
  rw [kx Uh,HA] at j4
  have oP:=congrArg List.length j4
  simp only [List.length_append,u64,←bI] at oP
  obtain ⟨UX,hu2⟩:=hju _ (List.mem_of_getElem? Uh)
  clear Uh
  obtain ⟨ji,⟨jq,⟨ja,jb,jc,jd⟩,jn,jp,jt,gL⟩,jr,jf⟩:=x12
  simp only at oP
  cbv
  refine bS [false,false,false,false,false,false,false,false,false,false,false,false,false,true,true] (by kernel_rfl) (by kernel_rfl) ?_
  cbv
  iterate 3 refine gI (by simp) ?_
  refine .inl ?_
  refine aJ (fun g13=>⟨trv,trv,cL ht _ ‹_›⟩) rfl rfl (fun Zz vZ=>?_)
  simp only [ht] at vZ
  (try rw [Cz] at vZ)
  have YZ:=congrArg List.length vZ
  cbv
  iterate 2 refine gI (by simp) ?_
  refine .inl ?_
  refine aJ (fun g15=>⟨trv,trv,Uf ht _ _ _ _ _ _ _ _ (jE ht rfl) ‹_› (by ((try simp only [aa] at*);omega))⟩) rfl rfl (fun r16 Fq=>?_)
  simp only [ht] at Fq
  have Y0:=congrArg List.length Fq
  cbv
  refine gI (by simp [ht];omega) ?_
  iterate 3 refine gI (by simp) ?_
  refine .inl ?_
  refine aJ (fun g17=>⟨trv,trv,cL ht _ (by (simp only [ht,bI];omega))⟩) rfl rfl (fun r18 NF=>?_)
  simp only [ht] at NF
  (try rw [Cz] at NF)
  have acH:=congrArg List.length NF
  cbv
  refine gI (by simp [ht];omega) ?_
  refine ⟨?_,?_⟩
  ·(simp [ht];omega)
  cbv
  refine bu (_,_) (by simp only [ht];rfl) (n-1) ?_ ((WW _ _ _).2 ?_)
  ·omega
  simp only [aa]
  exact ⟨k+1,aE (by omega),by omega,by rw [j4];simp only [u64,←bI];simp [*]⟩
 simp [ht,aa,dj] at h11
 cbv
 refine bS [false,false,false,false,false,false,false,false,true,true] (by kernel_rfl) (by kernel_rfl) ?_
 cbv
 iterate 3 refine gI (by simp) ?_
 refine .inl ?_
 refine aJ (fun g19=>⟨trv,trv,BT ht _ ‹_› ‹_› ‹_› ‹_› ‹_›⟩) rfl rfl (fun r20 NG=>?_)
 simp only [ht] at NG
 have acI:=congrArg List.length NG
 cbv
 refine gI (by simp [ht];grind) ?_
 iterate 2 refine gI (by simp) ?_
 refine .inl ?_
 refine aJ (fun g21=>⟨trv,trv,BT ht _ ‹_› ‹_› ‹_› ‹_› ‹_›⟩) rfl rfl (fun r22 Y7=>?_)
 simp only [ht] at Y7
 have acJ:=congrArg List.length Y7
 cbv
 refine ⟨?_,?_⟩
 ·(simp only [ht];grind)
 cbv
 refine ak trv trv rfl rfl rfl ?_
 (rw [List.drop_eq_nil_of_le (by omega),List.map_nil,List.flatten_nil,List.append_nil] at j4;simp only [ht,IM,←hz,j4];simp [*];done)
end Dem
end
section
open Go
namespace Dem
deriving instance DecidableEq for cQ
deriving instance DecidableEq for cJ
deriving instance DecidableEq for bw
deriving instance DecidableEq for zq
def xA:Ask:=⟨[97],⟨2,0,0,0⟩,2,0,3,[]⟩
def xN:List Node:=[⟨[110,49],⟨4,9,9,9⟩,[⟨[122,111,110,101],[97]⟩],true⟩,⟨[110,50],⟨6,9,9,9⟩,[⟨[122,111,110,101],[98]⟩],true⟩,⟨[110,51],⟨8,9,9,9⟩,[],true⟩]
def xT:List aQ:=[⟨[],⟨30,30,30,30⟩,⟨0,0,0,0⟩⟩,⟨[97],⟨6,20,20,20⟩,⟨0,0,0,0⟩⟩,⟨[97,47,98],⟨10,20,20,20⟩,⟨0,0,0,0⟩⟩,⟨[98],⟨14,20,20,20⟩,⟨0,0,0,0⟩⟩]
def xU:List aQ:=[⟨[],⟨30,30,30,30⟩,⟨4,0,0,0⟩⟩,⟨[97],⟨6,20,20,20⟩,⟨4,0,0,0⟩⟩,⟨[97,47,98],⟨10,20,20,20⟩,⟨0,0,0,0⟩⟩,⟨[98],⟨14,20,20,20⟩,⟨0,0,0,0⟩⟩]
def xP:List Place:=[⟨1,[110,49],⟨2,0,0,0⟩⟩,⟨1,[110,49],⟨2,0,0,0⟩⟩]
def xJ:List Jb:=[⟨1,xA,false,0⟩]
def xR:List Jb:=[⟨1,xA,true,3⟩]
def xQ:List bZ:=[⟨1,0⟩]
def Y8:List cF:=[⟨0,1,1⟩]
def U0:List cF:=[⟨0,1,1⟩,⟨0,1,2⟩]
def xE3:List cF:=[⟨0,1,1⟩,⟨0,1,2⟩,⟨0,1,5⟩]
def xE4:List cF:=[⟨0,1,1⟩,⟨0,1,2⟩,⟨0,1,3⟩]
def xW:List aQ:=[⟨[],bz.zero,bz.zero⟩]
theorem xf0:kO 0=⟨0,1,⟨xN,[]⟩,xT,[],[],⟨0,[]⟩,⟨0,[]⟩⟩:=by decide+kernel
theorem xfn:S1=⟨0,1,⟨[],[]⟩,xW,[],[],⟨0,[]⟩,⟨0,[]⟩⟩:=by decide+kernel
theorem xf1:bW ⟨0,1,⟨[],[]⟩,xW,[],[],⟨0,[]⟩,⟨0,[]⟩⟩ ⟨[97],⟨2,0,0,0⟩,2,0,3,[]⟩=(⟨0,1,⟨[],[]⟩,xW,[],[],⟨0,[]⟩,⟨0,[]⟩⟩,0,7):=by decide+kernel
theorem xf2:bW ⟨0,1,⟨xN,[]⟩,xT,[],[],⟨0,[]⟩,⟨0,[]⟩⟩ ⟨[97],⟨2,0,0,0⟩,2,0,3,[]⟩=(⟨0,2,⟨xN,[]⟩,xT,xJ,xQ,⟨0,Y8⟩,⟨0,[]⟩⟩,1,0):=by decide+kernel
theorem xf3:dK ⟨0,2,⟨xN,[]⟩,xT,xJ,xQ,⟨0,Y8⟩,⟨0,[]⟩⟩ 1 [[110,49],[110,49]]=(⟨0,2,⟨xN,xP⟩,xU,xR,[],⟨0,U0⟩,⟨0,[]⟩⟩,0):=by decide+kernel
theorem xf4:dK ⟨0,2,⟨xN,xP⟩,xU,xR,[],⟨0,U0⟩,⟨0,[]⟩⟩ 1 []=(⟨0,2,⟨xN,xP⟩,xU,xR,[],⟨0,U0⟩,⟨0,[]⟩⟩,15):=by decide+kernel
theorem xf5:dK ⟨0,2,⟨xN,[]⟩,xT,xJ,xQ,⟨0,Y8⟩,⟨0,[]⟩⟩ 9 []=(⟨0,2,⟨xN,[]⟩,xT,xJ,xQ,⟨0,Y8⟩,⟨0,[]⟩⟩,7):=by decide+kernel
theorem xf6:nj ⟨0,2,⟨xN,xP⟩,xU,xR,[],⟨0,U0⟩,⟨0,[]⟩⟩ 1 5=(⟨0,2,⟨xN,[]⟩,xT,xJ,xQ,⟨0,xE3⟩,⟨0,[]⟩⟩,0):=by decide+kernel
theorem xf7:send ⟨0,2,⟨xN,xP⟩,xU,xR,[],⟨0,U0⟩,⟨0,[]⟩⟩ 1 3=(⟨0,2,⟨xN,[]⟩,xT,[],[],⟨0,xE4⟩,⟨0,[]⟩⟩,0):=by decide+kernel
theorem xf8:om xU []=(⟨[],⟨30,30,30,30⟩,⟨4,0,0,0⟩⟩,true):=by decide+kernel
theorem xf9:dZ xR 1=(⟨1,xA,true,3⟩,true):=by decide+kernel
theorem abB:Hy ⟨0,xE4⟩ 1=([⟨0,1,2⟩,⟨0,1,3⟩],3):=by decide+kernel
def xB:cJ:=⟨0,2,⟨xN,xP⟩,xU,xR,[],⟨0,U0⟩,⟨0,[]⟩⟩
theorem xg1:bE (mO xB) 0=⟨0,1,true⟩:=by decide+kernel
theorem xg2:bE (mO xB) 1=⟨2,2,true⟩:=by decide+kernel
theorem xg3:Hr (mO xB) 2=⟨⟨xN,xP⟩,61,true⟩:=by decide+kernel
theorem xg4:A9 (mO xB) 61=⟨xU,103,true⟩:=by decide+kernel
theorem xg5:bE (mO xB) 103=⟨1,104,true⟩:=by decide+kernel
theorem xg6:kg (mO xB) (1:Int).toNat [] 104=some (xR,116):=by decide+kernel
theorem xg7:kW (mO xB) 116=some (⟨0,U0⟩,124):=by decide+kernel
theorem xg8:kW (mO xB) 124=some (⟨0,[]⟩,126):=by decide+kernel
theorem xgl:(mO xB).length=126:=by decide+kernel
theorem xr1:gH xB=true:=by decide+kernel
theorem xr2:gH ⟨0,0,⟨[],[]⟩,[],[],[],⟨0,[]⟩,⟨0,[]⟩⟩=false:=by decide+kernel
theorem xs1:yB xB xB=true:=by decide+kernel
theorem WX:xA.sm:=⟨by decide,by decide,by decide,by intro m hm;cases hm⟩
theorem Y9:∀x∈xN,x.sm:=by
 intro x hx;simp only [xN,List.mem_cons,List.not_mem_nil,or_false] at hx
 rcases hx with rfl|rfl|rfl<;>refine ⟨by decide,by decide,?_⟩<;>intro p hp<;>simp only [List.mem_cons,List.not_mem_nil,or_false] at hp<;>first|(subst hp;exact ⟨by decide,by decide⟩)|cases hp
theorem xNl:∀x∈xN,x.labels.length<1000000000:=by decide+kernel
theorem xNu:∀x∈xN,x.cap.u:=by
 intro x hx;simp only [xN,List.mem_cons,List.not_mem_nil,or_false] at hx
 rcases hx with rfl|rfl|rfl<;>exact ⟨by decide,by decide,by decide,by decide⟩
theorem xPu:∀x∈xP,x.v.u∧x.bB<18446744073709551616:=by
 intro x hx;simp only [xP,List.mem_cons,List.not_mem_nil,or_false] at hx
 rcases hx with rfl|rfl<;>exact ⟨⟨by decide,by decide,by decide,by decide⟩,by decide⟩
theorem xUu:∀x∈xU,x.c6.u∧x.used.u:=by
 intro x hx;simp only [xU,List.mem_cons,List.not_mem_nil,or_false] at hx
 rcases hx with rfl|rfl|rfl|rfl<;>exact ⟨⟨by decide,by decide,by decide,by decide⟩,by decide,by decide,by decide,by decide⟩
theorem xUp:∀x∈xU,x.path.length<1000000000000:=by decide+kernel
theorem WY:∀x∈xR,x.x.sm:=by intro x hx;rw [List.mem_singleton.1 hx];exact WX
theorem xJw:∀x∈xJ,x.x.fZ.u'∧x.x.path.length<1000000000000:=by decide+kernel
theorem xRw:∀x∈xR,x.x.fZ.u'∧x.x.path.length<1000000000000:=by decide+kernel
theorem abC:xB.sm:=⟨⟨by decide,Y9⟩,by decide,⟨by decide,xUp⟩,⟨by decide,fun x hx=>⟨WY x hx,by rw [List.mem_singleton.1 hx];decide,by rw [List.mem_singleton.1 hx];decide⟩⟩,by decide,by decide,by decide⟩
theorem abD:(⟨0,0,⟨[],[]⟩,[],[],[],⟨0,[]⟩,⟨0,[]⟩⟩:cJ).sm:=⟨⟨by decide,by intro x hx;cases hx⟩,by decide,⟨by decide,by intro x hx;cases hx⟩,⟨by decide,by intro x hx;cases hx⟩,by decide,by decide,by decide⟩
end Dem
end
