/- Parts of a proof, joined. -/
import Derived.Test.YtjnbpclolnmimaaGreatDoorK24
set_option linter.all false
set_option maxRecDepth 100000
set_option maxHeartbeats 4000000
section
open Go Dem Go.Proofs
namespace Dem
variable {t:Th}
def YT (r:EJ):AV:=.dA [ST r.t,bc r.next,BL r.ok]
theorem gC (ht:TT t) (s:aA) (p most:Int) (hs:s.length<9223372036854775000) (hp:p<9223372036854775808) (hm:most<9223372036854775808):FC 208 [ST s,bc p,bc most] [] (.ret (YT (t _ fun _=>aR s p most))) []:=by
 refine bA ht (aB:=[]) Tryz.func208 rfl rfl (N:=44) rfl rfl (n:=0) rfl rfl ?_
 cbv
 refine ay trv (fh ht _ _ ‹_› ‹_›) trv rfl rfl (fun r0 bF=>?_)
 simp only [ht] at bF
 have gb:=eI (s:=s) (p:=p)
 rw [←bF] at gb
 cbv
 iterate 2 refine gI (by simp [ht]) ?_
 refine pI (by simp [ht]) ?_
 iterate 9 refine gI (by simp [ht]) ?_
 refine pI (by simp [ht]) ?_
 refine ai (fun h1=>?_) (fun h1=>?_)
 ·simp [ht,aa] at h1
  have q:=SN bF gb hs hm h1
  cbv
  refine ak trv trv rfl rfl rfl ?_
  (simp only [ht,q,EJ.no];done)
 simp [ht,aa] at h1
 have q:=P1 bF gb hs hm h1
 cbv
 refine ⟨?_,?_⟩
 ·(simp only [ht];exact q.2)
 cbv
 refine ak trv trv rfl rfl rfl ?_
 (simp only [ht,q];done)
def YU (r:wQ):AV:=.dA [V4 r.v.a r.v.b r.v.c r.v.d,bc r.next,BL r.ok]
theorem v7 (ht:TT t) (s:aA) (p:Int) (hs:s.length<9223372036854775000) (hp:p<9223372036854775808):FC 209 [ST s,bc p] [] (.ret (YU (t _ fun _=>iB s p))) []:=by
 refine bA ht (aB:=[]) Tryz.func209 rfl rfl (N:=31) rfl rfl (n:=0) rfl rfl ?_
 cbv
 obtain ⟨J0,ee⟩:∃J0:Nat→Int×Int×Int×Int×Int×Int→Prop,∀n b i x0 x1 x2 x3,J0 n (b,i,x0,x1,x2,x3)↔(b<9223372036854775808∧(∃k:Nat,i=k∧k+n=4)∧jO s 4 bz.zero p=jO s n ⟨x0,x1,x2,x3⟩ b):=⟨fun n v=>match v with|(b,i,x0,x1,x2,x3)=>(b<9223372036854775808∧(∃k:Nat,i=k∧k+n=4)∧jO s 4 bz.zero p=jO s n ⟨x0,x1,x2,x3⟩ b),fun _ _ _ _ _ _ _=>Iff.rfl⟩
 refine bg ⟨[0,1,4,11],[],[]⟩ (σ:=Int×Int×Int×Int×Int×Int) (fun v=>[(1,.d (.int .i64 (t _ fun _=>v.1))),(11,.d (.int .i64 (v.2.1)))]) (fun v=>[(0,.var [.d (.int .u64 (t _ fun _=>v.2.2.1)),.d (.int .u64 (t _ fun _=>v.2.2.2.1)),.d (.int .u64 (t _ fun _=>v.2.2.2.2.1)),.d (.int .u64 (t _ fun _=>v.2.2.2.2.2))])]) J0 ?_
 cbv
 refine aC ⟨4,(_,_,_,_,_,_),(ee _ _ _ _ _ _ _).2 ?_,by simp only [ht];rfl,?_⟩
 ·exact ⟨hp,⟨0,rfl,rfl⟩,rfl⟩
 rintro n ⟨b,i,x0,x1,x2,x3⟩ hj
 replace hj:=(ee _ _ _ _ _ _ _).1 hj
 obtain ⟨j1,⟨k,j2,j3⟩,j4⟩:=hj
 have hk:i=0∨i=1∨i=2∨i=3∨i=4:=by ((try simp only [aa] at*);omega)
 rcases hk with rfl|rfl|rfl|rfl|rfl
 ·cbv
  refine ai (fun h1=>?_) (fun h1=>?_)
  ·simp [ht] at h1
   cbv
   refine ay trv (fh ht _ _ ‹_› (by (simp only [ht];omega))) trv rfl rfl (fun r2 cU=>?_)
   simp only [ht] at cU
   have gb:=eI (s:=s) (p:=b)
   rw [←cU] at gb
   obtain ⟨m,rfl⟩:∃m,n=m+1:=⟨n-1,by ((try simp only [aa] at*);omega)⟩
   rw [m9 cU] at j4
   rw [show 3-m=0 by ((try simp only [aa] at*);omega)] at j4
   cbv
   refine ai (fun h3=>?_) (fun h3=>?_)
   ·simp [ht] at h3
    cbv
    refine ak trv trv rfl rfl rfl ?_
    (simp only [ht,iB];simp_all [wQ.no,bz.zero];done)
   simp [ht] at h3
   cbv
   refine ⟨?_,?_⟩
   ·(simp only [ht,aa] at*;omega)
   cbv
   refine bu (_,_,_,_,_,_) (by simp only [ht];rfl) m ?_ ((ee _ _ _ _ _ _ _).2 ?_)
   ·omega
   simp only [aa]
   (have g:=gb ‹_›;exact ⟨Int.lt_of_le_of_lt g.2.2.1 (by ((try simp only [aa] at*);omega)),⟨k+1,by rw [bY (by decide) (by decide)];((try simp only [aa] at*);omega),by omega⟩,by rw [j4,if_pos ‹_›];rfl⟩)
  simp [ht] at h1
 ·cbv
  refine ai (fun h4=>?_) (fun h4=>?_)
  ·simp [ht] at h4
   cbv
   refine ay trv (fh ht _ _ ‹_› (by (simp only [ht];omega))) trv rfl rfl (fun r5 jh=>?_)
   simp only [ht] at jh
   have gb:=eI (s:=s) (p:=b)
   rw [←jh] at gb
   obtain ⟨m,rfl⟩:∃m,n=m+1:=⟨n-1,by ((try simp only [aa] at*);omega)⟩
   rw [m9 jh] at j4
   rw [show 3-m=1 by ((try simp only [aa] at*);omega)] at j4
   cbv
   refine ai (fun h6=>?_) (fun h6=>?_)
   ·simp [ht] at h6
    cbv
    refine ak trv trv rfl rfl rfl ?_
    (simp only [ht,iB];simp_all [wQ.no,bz.zero];done)
   simp [ht] at h6
   cbv
   refine ⟨?_,?_⟩
   ·(simp only [ht,aa] at*;omega)
   cbv
   refine bu (_,_,_,_,_,_) (by simp only [ht];rfl) m ?_ ((ee _ _ _ _ _ _ _).2 ?_)
   ·omega
   simp only [aa]
   (have g:=gb ‹_›;exact ⟨Int.lt_of_le_of_lt g.2.2.1 (by ((try simp only [aa] at*);omega)),⟨k+1,by rw [bY (by decide) (by decide)];((try simp only [aa] at*);omega),by omega⟩,by rw [j4,if_pos ‹_›];rfl⟩)
  simp [ht] at h4
 ·cbv
  refine ai (fun h7=>?_) (fun h7=>?_)
  ·simp [ht] at h7
   cbv
   refine ay trv (fh ht _ _ ‹_› (by (simp only [ht];omega))) trv rfl rfl (fun r8 sO=>?_)
   simp only [ht] at sO
   have gb:=eI (s:=s) (p:=b)
   rw [←sO] at gb
   obtain ⟨m,rfl⟩:∃m,n=m+1:=⟨n-1,by ((try simp only [aa] at*);omega)⟩
   rw [m9 sO] at j4
   rw [show 3-m=2 by ((try simp only [aa] at*);omega)] at j4
   cbv
   refine ai (fun h9=>?_) (fun h9=>?_)
   ·simp [ht] at h9
    cbv
    refine ak trv trv rfl rfl rfl ?_
    (simp only [ht,iB];simp_all [wQ.no,bz.zero];done)
   simp [ht] at h9
   cbv
   refine ⟨?_,?_⟩
   ·(simp only [ht,aa] at*;omega)
   cbv
   refine bu (_,_,_,_,_,_) (by simp only [ht];rfl) m ?_ ((ee _ _ _ _ _ _ _).2 ?_)
   ·omega
   simp only [aa]
   (have g:=gb ‹_›;exact ⟨Int.lt_of_le_of_lt g.2.2.1 (by ((try simp only [aa] at*);omega)),⟨k+1,by rw [bY (by decide) (by decide)];((try simp only [aa] at*);omega),by omega⟩,by rw [j4,if_pos ‹_›];rfl⟩)
  simp [ht] at h7
 ·cbv
  refine ai (fun h10=>?_) (fun h10=>?_)
  ·simp [ht] at h10
   cbv
   refine ay trv (fh ht _ _ ‹_› (by (simp only [ht];omega))) trv rfl rfl (fun Xf pK=>?_)
   simp only [ht] at pK
   have gb:=eI (s:=s) (p:=b)
   rw [←pK] at gb
   obtain ⟨m,rfl⟩:∃m,n=m+1:=⟨n-1,by ((try simp only [aa] at*);omega)⟩
   rw [m9 pK] at j4
   rw [show 3-m=3 by ((try simp only [aa] at*);omega)] at j4
   cbv
   refine ai (fun h12=>?_) (fun h12=>?_)
   ·simp [ht] at h12
    cbv
    refine ak trv trv rfl rfl rfl ?_
    (simp only [ht,iB];simp_all [wQ.no,bz.zero];done)
   simp [ht] at h12
   cbv
   refine ⟨?_,?_⟩
   ·(simp only [ht,aa] at*;omega)
   cbv
   refine bu (_,_,_,_,_,_) (by simp only [ht];rfl) m ?_ ((ee _ _ _ _ _ _ _).2 ?_)
   ·omega
   simp only [aa]
   (have g:=gb ‹_›;exact ⟨Int.lt_of_le_of_lt g.2.2.1 (by ((try simp only [aa] at*);omega)),⟨k+1,by rw [bY (by decide) (by decide)];((try simp only [aa] at*);omega),by omega⟩,by rw [j4,if_pos ‹_›];rfl⟩)
  simp [ht] at h10
 cbv
 refine ai (fun KJ=>?_) (fun KJ=>?_)
 ·simp [ht] at KJ
 simp [ht] at KJ
 cbv
 refine ak trv trv rfl rfl rfl ?_
 (have hn:n=0:=(by ((try simp only [aa] at*);omega));rw [hn,jO] at j4;simp only [ht,iB,j4];done)
def Wx (r:bw bR):AV:=.dA [.agg [ST r.x.key,ST r.x.value],bc r.next,BL r.ok]
def Ms (t:Th) (r:bw (List bR)):AV:=.dA [SL (t _ fun _=>r.x.map bR.cells),bc r.next,BL r.ok]
theorem Rm (ht:TT t) (s:aA) (p:Int) (hs:s.length<9223372036854775000) (hp:p<9223372036854775808):FC 226 [ST s,bc p] [] (.ret (Wx (t _ fun _=>iW s p))) []:=by
 refine bA ht (aB:=[]) Tryz.func226 rfl rfl (N:=27) rfl rfl (n:=0) rfl rfl ?_
 cbv
 refine ay trv (gC ht _ _ _ ‹_› ‹_› (by omega)) trv rfl rfl (fun r0 bF=>?_)
 simp only [ht] at bF
 have Rn:=dg (s:=s) (p:=p) (m:=32) hs
 (try rw [←bF] at Rn)
 (try obtain ⟨aba,abb,abc⟩:=Rn)
 cbv
 refine ai (fun h1=>?_) (fun h1=>?_)
 ·cbv
  refine ay trv (gC ht _ _ _ ‹_› (by (refine Int.lt_of_le_of_lt ‹_› (by ((try simp only [aa] at*);omega)))) (by omega)) trv rfl rfl (fun r2 cU=>?_)
  simp only [ht] at cU
  have YV:=dg (s:=s) (p:=p) (m:=32) hs
  (try rw [←cU] at YV)
  (try obtain ⟨adW,adX,adY⟩:=YV)
  cbv
  refine ak trv trv rfl rfl rfl ?_
  (simp only [ht,iW];grind)
 cbv
 refine ak trv trv rfl rfl rfl ?_
 (simp only [ht,iW];grind)
theorem Of (ht:TT t) (s:aA) (p most:Int) (hs:s.length<9223372036854775000) (hp:p<9223372036854775808) (hm:0≤most∧most<100000000):FC 225 [ST s,bc p,bc most,.fn 226 []] [] (.ret (Ms t (t _ fun _=>fN s p most (iW s)))) []:=by
 have Tq:IntKind.u64.wrap most=most:=by rw [bI];omega
 refine bA ht (aB:=[]) Tryz.func225 rfl rfl (N:=51) rfl rfl (n:=0) rfl rfl ?_
 cbv
 refine ay trv (fh ht _ _ ‹_› ‹_›) trv rfl rfl (fun r0 bF=>?_)
 simp only [ht] at bF
 have gb:=eI (s:=s) (p:=p)
 rw [←bF] at gb
 cbv
 iterate 4 refine gI (by simp [ht]) ?_
 refine pI (by simp [ht]) ?_
 refine ai (fun h1=>?_) (fun h1=>?_)
 ·simp [ht,Tq] at h1
  cbv
  refine ak trv trv rfl rfl rfl ?_
  (rw [show fN s p most (iW s)=bw.nJ from by rw [fN,if_neg (by rw [←bF];rintro ⟨g1,g2⟩;simp_all;omega)]];simp [ht,bw.nJ];done)
 simp [ht,Tq] at h1
 cbv
 obtain ⟨J2,La⟩:∃J2:Nat→Int×List (List D)×Int→Prop,∀n a o i,J2 n (a,o,i)↔(∃(k:Nat) (rs:List bR),i=k∧k+n=r0.u.toNat∧o=rs.map bR.cells∧rs.length=k∧a<9223372036854775808∧fN s p most (iW s)=gW (iW s) n rs a):=⟨fun n v=>match v with|(a,o,i)=>(∃(k:Nat) (rs:List bR),i=k∧k+n=r0.u.toNat∧o=rs.map bR.cells∧rs.length=k∧a<9223372036854775808∧fN s p most (iW s)=gW (iW s) n rs a),fun _ _ _ _=>Iff.rfl⟩
 refine bg ⟨[0,1,3,8,30,31],[(8,2)],[]⟩ (σ:=Int×List (List D)×Int) (fun v=>[(1,.d (.int .i64 (t _ fun _=>v.1))),(8,.ow 0 2 (t _ fun _=>(v.2.1).length)),(31,.d (.int .u64 (t _ fun _=>v.2.2)))]) (fun v=>[(0,.row 2 (t _ fun _=>v.2.1))]) J2 ?_
 cbv
 refine aC ⟨r0.u.toNat,(_,[],_),(La _ _ _ _).2 ?_,by simp only [ht];rfl,?_⟩
 ·(have g:=gb h1.1;exact ⟨0,[],rfl,by omega,rfl,rfl,Int.lt_of_le_of_lt g.2.2.1 (by ((try simp only [aa] at*);omega)),by rw [fN,if_pos (by rw [←bF];exact h1),←bF]⟩)
 rintro n ⟨a,o,i⟩ hj
 replace hj:=(La _ _ _ _).1 hj
 obtain ⟨k,rs,j1,j3,j2,j5,j6,j4⟩:=hj
 have tj:o.length=rs.length:=by rw [j2,lgM]
 cbv
 refine ai (fun h3=>?_) (fun h3=>?_)
 ·simp [ht] at h3
  cbv
  refine ay trv (Rm ht _ _ ‹_› (by (simp only [ht];omega))) trv rfl rfl (fun r4 dV=>?_)
  simp only [ht] at dV
  have Ro:=Hl (s:=s) (p:=a) hs
  rw [←dV] at Ro
  obtain ⟨m,rfl⟩:∃m,n=m+1:=⟨n-1,by ((try simp only [aa] at*);omega)⟩
  rw [tX dV] at j4
  cbv
  refine ai (fun h5=>?_) (fun h5=>?_)
  ·simp [ht] at h5
   cbv
   refine ak trv trv rfl rfl rfl ?_
   (simp only [ht];simp_all [bw.nJ];done)
  simp [ht] at h5
  cbv
  refine ⟨?_,?_⟩
  ·(simp only [ht,true_and];exact AY j2 (fun _=>rfl) rfl (by omega) (by decide))
  cbv
  refine bu (_,_,_) (by simp only [ht,←List.length_append];rfl) m ?_ ((La _ _ _ _).2 ?_)
  ·omega
  simp only [aa]
  exact ⟨k+1,rs++[(r4).x],by rw [bI];((try simp only [aa] at*);omega),by omega,by rw [j2];simp,by simp;omega,Int.lt_of_le_of_lt Ro (by ((try simp only [aa] at*);omega)),by rw [j4,if_pos ‹_›]⟩
 simp [ht] at h3
 cbv
 refine ak trv (by simp [ht]) rfl rfl rfl ?_
 (have hn:n=0:=(by ((try simp only [aa] at*);omega));rw [hn,gW] at j4;simp only [ht,j4,j2];done)
theorem TQ (ht:TT t) (s:aA) (p:Int) (hs:s.length<9223372036854775000) (hp:p<9223372036854775808):FC 210 [ST s,bc p] [] (.ret (Ms t (t _ fun _=>vA s p))) []:=by
 refine bA ht (aB:=[]) Tryz.func210 rfl rfl (N:=23) rfl rfl (n:=0) rfl rfl ?_
 cbv
 refine aU trv (Of ht _ _ _ ‹_› ‹_› (by omega)) trv rfl rfl rfl (fun r0 bF=>?_)
 simp only [ht] at bF
 have Wy:=vz (s:=s) (p:=p) (m:=8) (get:=iW s)
 have abd:=A2 (s:=s) (p:=p) (m:=8) (get:=iW s) (q:=bR.sm) (fun p=>Ho hs)
 rw [←bF] at Wy abd
 cbv
 refine gI (by simp [ht]) ?_
 refine aJ (fun g1=>⟨by simp [ht] at g1 ⊢;exact g1,trv,sy ht (jE ht rfl) (by ((try simp only [aa] at*);omega)) ‹_›⟩) rfl rfl (fun r2 cU=>?_)
 simp only [ht] at cU
 cbv
 refine gI (by simp [ht]) ?_
 refine pI (by simp [ht]) ?_
 refine ai (fun h3=>?_) (fun h3=>?_)
 ·simp [ht] at h3
  cbv
  refine ak trv trv rfl rfl rfl ?_
  (simp only [ht,bw.nJ,vA];grind)
 simp [ht] at h3
 cbv
 refine ak trv trv rfl rfl rfl ?_
 (simp only [ht,bw.nJ,vA];grind)
def Wz (t:Th) (r:bw Node):AV:=.dA [PY t r.x,bc r.next,BL r.ok]
def TR (r:bw Place):AV:=.dA [.agg [ax r.x.bB,ST r.x.node,ax r.x.v.a,ax r.x.v.b,ax r.x.v.c,ax r.x.v.d],bc r.next,BL r.ok]
def TS (t:Th) (r:bw (List Node)):AV:=.dA [SL (t _ fun _=>r.x.map Node.cells),bc r.next,BL r.ok]
def Rp (t:Th) (r:bw (List Place)):AV:=.dA [SL (t _ fun _=>r.x.map Place.cells),bc r.next,BL r.ok]
def WA (t:Th) (r:bw cQ):AV:=.dA [LS t r.x,bc r.next,BL r.ok]
theorem Rq (ht:TT t) (s:aA) (p:Int) (hs:s.length<9223372036854775000) (hp:p<9223372036854775808):FC 180 [ST s,bc p] [] (.ret (Wz t (t _ fun _=>gK s p))) []:=by
 refine bA ht (aB:=[]) Tryz.func180 rfl rfl (N:=58) rfl rfl (n:=0) rfl rfl ?_
 cbv
 refine ay trv (gC ht _ _ _ ‹_› ‹_› (by omega)) trv rfl rfl (fun r0 bF=>?_)
 simp only [ht] at bF
 have gr0:=(dg (s:=s) (p:=p) (m:=32) hs).2.1
 rw [←bF] at gr0
 cbv
 refine ai (fun h1=>?_) (fun h1=>?_)
 ·simp [ht] at h1
  cbv
  refine ak trv trv rfl rfl rfl ?_
  (simp only [ht,gK,bw.RO,Node.zero,bz.zero];grind)
 simp [ht] at h1
 cbv
 refine ay trv (v7 ht _ _ ‹_› (by (refine Int.lt_of_le_of_lt ‹_› (by ((try simp only [aa] at*);omega))))) trv rfl rfl (fun r2 cU=>?_)
 simp only [ht] at cU
 have gr2:=sj (s:=s) (p:=r0.next)
 rw [←cU] at gr2
 cbv
 refine ai (fun h3=>?_) (fun h3=>?_)
 ·simp [ht] at h3
  cbv
  refine ak trv trv rfl rfl rfl ?_
  (simp only [ht,gK,bw.RO,Node.zero,bz.zero];grind)
 simp [ht] at h3
 cbv
 refine aU trv (TQ ht _ _ ‹_› (by (refine Int.lt_of_le_of_lt ‹_› (by ((try simp only [aa] at*);omega))))) trv rfl rfl rfl (fun r4 dV=>?_)
 simp only [ht] at dV
 have gr4:(r4).next≤s.length:=by rw [dV];exact SO hs
 cbv
 refine ai (fun h5=>?_) (fun h5=>?_)
 ·simp [ht] at h5
  cbv
  refine ak trv trv rfl rfl rfl ?_
  (simp only [ht,gK,bw.RO,Node.zero,bz.zero];grind)
 simp [ht] at h5
 cbv
 refine ay trv (fh ht _ _ ‹_› (by (refine Int.lt_of_le_of_lt ‹_› (by ((try simp only [aa] at*);omega))))) trv rfl rfl (fun r6 gk=>?_)
 simp only [ht] at gk
 cbv
 iterate 2 refine gI (by simp) ?_
 refine pI (by simp) ?_
 refine ak trv trv rfl rfl rfl ?_
 (simp only [ht,gK,bw.RO,Node.zero,bz.zero];grind)
theorem Rr (ht:TT t) (s:aA) (p:Int) (hs:s.length<9223372036854775000) (hp:p<9223372036854775808):FC 182 [ST s,bc p] [] (.ret (TR (t _ fun _=>kZ s p))) []:=by
 refine bA ht (aB:=[]) Tryz.func182 rfl rfl (N:=40) rfl rfl (n:=0) rfl rfl ?_
 cbv
 refine ay trv (fh ht _ _ ‹_› ‹_›) trv rfl rfl (fun r0 bF=>?_)
 simp only [ht] at bF
 have gr0:(r0).next≤s.length:=by rw [bF];exact LW
 cbv
 refine ai (fun h1=>?_) (fun h1=>?_)
 ·simp [ht] at h1
  cbv
  refine ak trv trv rfl rfl rfl ?_
  (simp only [ht,kZ,bw.VI,bz.zero];grind)
 simp [ht] at h1
 cbv
 refine ay trv (gC ht _ _ _ ‹_› (by (refine Int.lt_of_le_of_lt ‹_› (by ((try simp only [aa] at*);omega)))) (by omega)) trv rfl rfl (fun r2 cU=>?_)
 simp only [ht] at cU
 have gr2:(r2).next≤s.length:=by rw [cU];exact (dg hs).2.1
 cbv
 refine ai (fun h3=>?_) (fun h3=>?_)
 ·simp [ht] at h3
  cbv
  refine ak trv trv rfl rfl rfl ?_
  (simp only [ht,kZ,bw.VI,bz.zero];grind)
 simp [ht] at h3
 cbv
 refine ay trv (v7 ht _ _ ‹_› (by (refine Int.lt_of_le_of_lt ‹_› (by ((try simp only [aa] at*);omega))))) trv rfl rfl (fun r4 dV=>?_)
 simp only [ht] at dV
 cbv
 refine ak trv trv rfl rfl rfl ?_
 (simp only [ht,kZ,bw.VI,bz.zero];grind)
theorem Og (ht:TT t) (s:aA) (p most:Int) (hs:s.length<9223372036854775000) (hp:p<9223372036854775808) (hm:0≤most∧most<100000000):FC 179 [ST s,bc p,bc most,.fn 180 []] [] (.ret (TS t (t _ fun _=>fN s p most (gK s)))) []:=by
 have Tq:IntKind.u64.wrap most=most:=by rw [bI];omega
 refine bA ht (aB:=[]) Tryz.func179 rfl rfl (N:=51) rfl rfl (n:=0) rfl rfl ?_
 cbv
 refine ay trv (fh ht _ _ ‹_› ‹_›) trv rfl rfl (fun r0 bF=>?_)
 simp only [ht] at bF
 have gb:=eI (s:=s) (p:=p)
 rw [←bF] at gb
 cbv
 iterate 4 refine gI (by simp [ht]) ?_
 refine pI (by simp [ht]) ?_
 refine ai (fun h1=>?_) (fun h1=>?_)
 ·simp [ht,Tq] at h1
  cbv
  refine ak trv trv rfl rfl rfl ?_
  (rw [show fN s p most (gK s)=bw.nJ from by rw [fN,if_neg (by rw [←bF];rintro ⟨g1,g2⟩;simp_all;omega)]];simp [ht,bw.nJ];done)
 simp [ht,Tq] at h1
 cbv
 obtain ⟨J2,La⟩:∃J2:Nat→Int×List (List D)×Int→Prop,∀n a o i,J2 n (a,o,i)↔(∃(k:Nat) (rs:List Node),i=k∧k+n=r0.u.toNat∧o=rs.map Node.cells∧rs.length=k∧a<9223372036854775808∧fN s p most (gK s)=gW (gK s) n rs a):=⟨fun n v=>match v with|(a,o,i)=>(∃(k:Nat) (rs:List Node),i=k∧k+n=r0.u.toNat∧o=rs.map Node.cells∧rs.length=k∧a<9223372036854775808∧fN s p most (gK s)=gW (gK s) n rs a),fun _ _ _ _=>Iff.rfl⟩
 refine bg ⟨[0,1,3,8,30,31],[(8,7)],[]⟩ (σ:=Int×List (List D)×Int) (fun v=>[(1,.d (.int .i64 (t _ fun _=>v.1))),(8,.ow 0 7 (t _ fun _=>(v.2.1).length)),(31,.d (.int .u64 (t _ fun _=>v.2.2)))]) (fun v=>[(0,.row 7 (t _ fun _=>v.2.1))]) J2 ?_
 cbv
 refine aC ⟨r0.u.toNat,(_,[],_),(La _ _ _ _).2 ?_,by simp only [ht];rfl,?_⟩
 ·(have g:=gb h1.1;exact ⟨0,[],rfl,by omega,rfl,rfl,Int.lt_of_le_of_lt g.2.2.1 (by ((try simp only [aa] at*);omega)),by rw [fN,if_pos (by rw [←bF];exact h1),←bF]⟩)
 rintro n ⟨a,o,i⟩ hj
 replace hj:=(La _ _ _ _).1 hj
 obtain ⟨k,rs,j1,j3,j2,j5,j6,j4⟩:=hj
 have tj:o.length=rs.length:=by rw [j2,lgM]
 cbv
 refine ai (fun h3=>?_) (fun h3=>?_)
 ·simp [ht] at h3
  cbv
  refine aU trv (Rq ht _ _ ‹_› (by (simp only [ht];omega))) trv rfl rfl rfl (fun r4 dV=>?_)
  simp only [ht] at dV
  have Ro:=Hq (s:=s) (p:=a)
  rw [←dV] at Ro
  obtain ⟨m,rfl⟩:∃m,n=m+1:=⟨n-1,by ((try simp only [aa] at*);omega)⟩
  rw [tX dV] at j4
  cbv
  refine ai (fun h5=>?_) (fun h5=>?_)
  ·simp [ht] at h5
   cbv
   refine ak trv trv rfl rfl rfl ?_
   (simp only [ht];simp_all [bw.nJ];done)
  simp [ht] at h5
  cbv
  refine ⟨?_,?_⟩
  ·(simp only [ht,true_and];exact AY j2 (fun _=>rfl) rfl (by omega) (by decide))
  cbv
  refine bu (_,_,_) (by simp only [ht,←List.length_append];rfl) m ?_ ((La _ _ _ _).2 ?_)
  ·omega
  simp only [aa]
  exact ⟨k+1,rs++[(r4).x],by rw [bI];((try simp only [aa] at*);omega),by omega,by rw [j2];simp,by simp;omega,Int.lt_of_le_of_lt Ro (by ((try simp only [aa] at*);omega)),by rw [j4,if_pos ‹_›]⟩
 simp [ht] at h3
 cbv
 refine ak trv (by simp [ht]) rfl rfl rfl ?_
 (have hn:n=0:=(by ((try simp only [aa] at*);omega));rw [hn,gW] at j4;simp only [ht,j4,j2];done)
theorem Lb (ht:TT t) (s:aA) (p most:Int) (hs:s.length<9223372036854775000) (hp:p<9223372036854775808) (hm:0≤most∧most<100000000):FC 181 [ST s,bc p,bc most,.fn 182 []] [] (.ret (Rp t (t _ fun _=>fN s p most (kZ s)))) []:=by
 have Tq:IntKind.u64.wrap most=most:=by rw [bI];omega
 refine bA ht (aB:=[]) Tryz.func181 rfl rfl (N:=51) rfl rfl (n:=0) rfl rfl ?_
 cbv
 refine ay trv (fh ht _ _ ‹_› ‹_›) trv rfl rfl (fun r0 bF=>?_)
 simp only [ht] at bF
 have gb:=eI (s:=s) (p:=p)
 rw [←bF] at gb
 cbv
 iterate 4 refine gI (by simp [ht]) ?_
 refine pI (by simp [ht]) ?_
 refine ai (fun h1=>?_) (fun h1=>?_)
 ·simp [ht,Tq] at h1
  cbv
  refine ak trv trv rfl rfl rfl ?_
  (rw [show fN s p most (kZ s)=bw.nJ from by rw [fN,if_neg (by rw [←bF];rintro ⟨g1,g2⟩;simp_all;omega)]];simp [ht,bw.nJ];done)
 simp [ht,Tq] at h1
 cbv
 obtain ⟨J2,La⟩:∃J2:Nat→Int×List (List D)×Int→Prop,∀n a o i,J2 n (a,o,i)↔(∃(k:Nat) (rs:List Place),i=k∧k+n=r0.u.toNat∧o=rs.map Place.cells∧rs.length=k∧a<9223372036854775808∧fN s p most (kZ s)=gW (kZ s) n rs a):=⟨fun n v=>match v with|(a,o,i)=>(∃(k:Nat) (rs:List Place),i=k∧k+n=r0.u.toNat∧o=rs.map Place.cells∧rs.length=k∧a<9223372036854775808∧fN s p most (kZ s)=gW (kZ s) n rs a),fun _ _ _ _=>Iff.rfl⟩
 refine bg ⟨[0,1,3,8,30,31],[(8,6)],[]⟩ (σ:=Int×List (List D)×Int) (fun v=>[(1,.d (.int .i64 (t _ fun _=>v.1))),(8,.ow 0 6 (t _ fun _=>(v.2.1).length)),(31,.d (.int .u64 (t _ fun _=>v.2.2)))]) (fun v=>[(0,.row 6 (t _ fun _=>v.2.1))]) J2 ?_
 cbv
 refine aC ⟨r0.u.toNat,(_,[],_),(La _ _ _ _).2 ?_,by simp only [ht];rfl,?_⟩
 ·(have g:=gb h1.1;exact ⟨0,[],rfl,by omega,rfl,rfl,Int.lt_of_le_of_lt g.2.2.1 (by ((try simp only [aa] at*);omega)),by rw [fN,if_pos (by rw [←bF];exact h1),←bF]⟩)
 rintro n ⟨a,o,i⟩ hj
 replace hj:=(La _ _ _ _).1 hj
 obtain ⟨k,rs,j1,j3,j2,j5,j6,j4⟩:=hj
 have tj:o.length=rs.length:=by rw [j2,lgM]
 cbv
 refine ai (fun h3=>?_) (fun h3=>?_)
 ·simp [ht] at h3
  cbv
  refine ay trv (Rr ht _ _ ‹_› (by (simp only [ht];omega))) trv rfl rfl (fun r4 dV=>?_)
  simp only [ht] at dV
  have Ro:=P2 (s:=s) (p:=a)
  rw [←dV] at Ro
  obtain ⟨m,rfl⟩:∃m,n=m+1:=⟨n-1,by ((try simp only [aa] at*);omega)⟩
  rw [tX dV] at j4
  cbv
  refine ai (fun h5=>?_) (fun h5=>?_)
  ·simp [ht] at h5
   cbv
   refine ak trv trv rfl rfl rfl ?_
   (simp only [ht];simp_all [bw.nJ];done)
  simp [ht] at h5
  cbv
  refine ⟨?_,?_⟩
  ·(simp only [ht,true_and];exact AY j2 (fun _=>rfl) rfl (by omega) (by decide))
  cbv
  refine bu (_,_,_) (by simp only [ht,←List.length_append];rfl) m ?_ ((La _ _ _ _).2 ?_)
  ·omega
  simp only [aa]
  exact ⟨k+1,rs++[(r4).x],by rw [bI];((try simp only [aa] at*);omega),by omega,by rw [j2];simp,by simp;omega,Int.lt_of_le_of_lt Ro (by ((try simp only [aa] at*);omega)),by rw [j4,if_pos ‹_›]⟩
 simp [ht] at h3
 cbv
 refine ak trv (by simp [ht]) rfl rfl rfl ?_
 (have hn:n=0:=(by ((try simp only [aa] at*);omega));rw [hn,gW] at j4;simp only [ht,j4,j2];done)
theorem TU (ht:TT t) (s:aA) (p:Int) (hs:s.length<9223372036854775000) (hp:p<9223372036854775808):FC 134 [ST s,bc p] [] (.ret (WA t (t _ fun _=>Hr s p))) []:=by
 refine bA ht (aB:=[]) Tryz.func134 rfl rfl (N:=36) rfl rfl (n:=0) rfl rfl ?_
 cbv
 refine aU trv (Og ht _ _ _ ‹_› ‹_› (by omega)) trv rfl rfl rfl (fun r0 bF=>?_)
 simp only [ht] at bF
 have gr0:(r0).next≤s.length:=by rw [bF];exact LV (fun p=>Hq)
 have lr0:((r0).x.length:Int)≤16:=by rw [bF];exact vz
 have sr0:∀x∈(r0).x,x.sm:=by rw [bF];exact A2 (fun p=>P3 hs)
 cbv
 refine ai (fun h1=>?_) (fun h1=>?_)
 ·simp [ht] at h1
  cbv
  refine ak trv trv rfl rfl rfl ?_
  (simp only [ht,Hr,bw.A3];grind)
 simp [ht] at h1
 cbv
 refine aU trv (Lb ht _ _ _ ‹_› (by (refine Int.lt_of_le_of_lt ‹_› (by ((try simp only [aa] at*);omega)))) (by omega)) trv rfl rfl rfl (fun r2 cU=>?_)
 simp only [ht] at cU
 have lr2:((r2).x.length:Int)≤256:=by rw [cU];exact vz
 cbv
 refine gI (by simp [ht]) ?_
 refine aJ (fun g3=>⟨by simp [ht] at g3 ⊢;exact g3,trv,DE ht (jE ht rfl) (jE ht rfl) (by ((try simp only [aa] at*);omega)) (by ((try simp only [aa] at*);omega)) ‹_›⟩) rfl rfl (fun r4 dV=>?_)
 simp only [ht] at dV
 cbv
 refine gI (by simp [ht]) ?_
 refine pI (by simp [ht]) ?_
 refine ai (fun h5=>?_) (fun h5=>?_)
 ·simp [ht] at h5
  cbv
  refine ak trv trv rfl rfl rfl ?_
  (simp only [ht,Hr,bw.A3];grind)
 simp [ht] at h5
 cbv
 refine ak trv trv rfl rfl rfl ?_
 (simp only [ht,Hr,bw.A3];grind)
theorem dM (ht:TT t) (s:aA) (hs:s.length<9223372036854775000):FC 130 [ST s] [] (.ret (sK (t _ fun _=>bH s))) []:=by
 simp only [ht];exact K8 ht s hs rfl
theorem sF (ht:TT t) (a b c d:Int) (hu:(⟨a,b,c,d⟩:bz).u):FC 131 [V4 a b c d] [] (.ret (sK (t _ fun _=>Cp ⟨a,b,c,d⟩))) []:=by
 obtain ⟨ha,hb,hc,hd⟩:a<18446744073709551616∧b<18446744073709551616∧c<18446744073709551616∧d<18446744073709551616:=hu
 have la:=cY a
 have lb:=cY b
 have lc:=cY c
 have ld:=cY d
 refine bA ht (aB:=[]) Tryz.func131 rfl rfl (N:=16) rfl rfl (n:=0) rfl rfl ?_
 cbv
 obtain ⟨J0,ee⟩:∃J0:Nat→List UInt8×Int→Prop,∀n o i,J0 n (o,i)↔(∃k:Nat,i=k∧k+n=4∧o=yZ ⟨a,b,c,d⟩ k):=⟨fun n v=>match v with|(o,i)=>(∃k:Nat,i=k∧k+n=4∧o=yZ ⟨a,b,c,d⟩ k),fun _ _ _=>Iff.rfl⟩
 refine bg ⟨[3,6,7],[],[]⟩ (σ:=List UInt8×Int) (fun v=>[(3,.d (.str (t _ fun _=>v.1))),(7,.d (.int .i64 (v.2)))]) (fun v=>[]) J0 ?_
 cbv
 refine aC ⟨4,(_,_),(ee _ _ _).2 ?_,by simp only [ht];rfl,?_⟩
 ·exact ⟨0,rfl,rfl,rfl⟩
 rintro n ⟨o,i⟩ hj
 replace hj:=(ee _ _ _).1 hj
 obtain ⟨k,j1,j2,j3⟩:=hj
 have hk:(i=0∧k=0)∨(i=1∧k=1)∨(i=2∧k=2)∨(i=3∧k=3)∨(i=4∧k=4):=by ((try simp only [aa] at*);omega)
 rcases hk with ⟨rfl,rfl⟩|⟨rfl,rfl⟩|⟨rfl,rfl⟩|⟨rfl,rfl⟩|⟨rfl,rfl⟩
 ·cbv
  refine ai (fun h1=>?_) (fun h1=>?_)
  ·simp [ht] at h1
   cbv
   refine ⟨?_,?_⟩
   ·(simp [ht];done)
   cbv
   refine ay trv (cL ht _ ‹_›) trv rfl rfl (fun r2 cU=>?_)
   simp only [ht] at cU
   cbv
   refine ⟨?_,?_⟩
   ·(simp [yZ, *];omega)
   cbv
   refine bu (_,_) (by simp only [ht];rfl) (n-1) ?_ ((ee _ _ _).2 ?_)
   ·omega
   simp only [aa]
   exact ⟨1,by decide,by omega,by simp [yZ,bz.at_, *]⟩
  simp [ht] at h1
 ·cbv
  refine ai (fun h3=>?_) (fun h3=>?_)
  ·simp [ht] at h3
   cbv
   refine ⟨?_,?_⟩
   ·(simp [ht];done)
   cbv
   refine ay trv (cL ht _ ‹_›) trv rfl rfl (fun r4 dV=>?_)
   simp only [ht] at dV
   cbv
   refine ⟨?_,?_⟩
   ·(simp [yZ,bz.at_, *];omega)
   cbv
   refine bu (_,_) (by simp only [ht];rfl) (n-1) ?_ ((ee _ _ _).2 ?_)
   ·omega
   simp only [aa]
   exact ⟨2,by decide,by omega,by simp [yZ,bz.at_, *]⟩
  simp [ht] at h3
 ·cbv
  refine ai (fun h5=>?_) (fun h5=>?_)
  ·simp [ht] at h5
   cbv
   refine ⟨?_,?_⟩
   ·(simp [ht];done)
   cbv
   refine ay trv (cL ht _ ‹_›) trv rfl rfl (fun r6 gk=>?_)
   simp only [ht] at gk
   cbv
   refine ⟨?_,?_⟩
   ·(simp [yZ,bz.at_, *];omega)
   cbv
   refine bu (_,_) (by simp only [ht];rfl) (n-1) ?_ ((ee _ _ _).2 ?_)
   ·omega
   simp only [aa]
   exact ⟨3,by decide,by omega,by simp [yZ,bz.at_, *]⟩
  simp [ht] at h5
 ·cbv
  refine ai (fun h7=>?_) (fun h7=>?_)
  ·simp [ht] at h7
   cbv
   refine ⟨?_,?_⟩
   ·(simp [ht];done)
   cbv
   refine ay trv (cL ht _ ‹_›) trv rfl rfl (fun r8 sO=>?_)
   simp only [ht] at sO
   cbv
   refine ⟨?_,?_⟩
   ·(simp [yZ,bz.at_, *];omega)
   cbv
   refine bu (_,_) (by simp only [ht];rfl) (n-1) ?_ ((ee _ _ _).2 ?_)
   ·omega
   simp only [aa]
   exact ⟨4,by decide,by omega,by simp [yZ,bz.at_, *]⟩
  simp [ht] at h7
 cbv
 refine ai (fun h9=>?_) (fun h9=>?_)
 ·simp [ht] at h9
 simp [ht] at h9
 cbv
 refine ak trv trv rfl rfl rfl ?_
 (simp [ht,j3,Cp,yZ,bz.at_];done)
theorem Mt (ht:TT t) {l:List bR} {es:List (List D)} (aD:es=l.map bR.cells) (hl:l.length<1000000000) (gD:∀p∈l,p.sm) (hn:(EM l).length<9223372036854775000):FC 176 [SL es] [] (.ret (sK (t _ fun _=>EM l))) []:=by
 have Cz:IntKind.u64.wrap (es.length:Int)=l.length:=by rw [bI,aD,lgM];omega
 refine bA ht (aB:=[]) Tryz.func176 rfl rfl (N:=30) rfl rfl (n:=0) rfl rfl ?_
 cbv
 have av:es.length=l.length:=by rw [aD,lgM]
 refine ay trv (sy ht ‹_› ‹_› ‹_›) trv rfl rfl (fun r0 bF=>?_)
 simp only [ht] at bF
 cbv
 refine ai (fun h1=>?_) (fun h1=>?_)
 ·simp [ht] at h1
  cbv
  refine ak trv trv rfl rfl rfl ?_
  (simp only [ht,EM];grind)
 simp [ht] at h1
 cbv
 refine ay trv (cL ht _ (by (simp only [ht];((try simp only [aa] at*);omega)))) trv rfl rfl (fun r2 cU=>?_)
 simp only [ht] at cU
 (try rw [Cz] at cU)
 cbv
 obtain ⟨J3,Fp⟩:∃J3:Nat→List UInt8×Int→Prop,∀n o i,J3 n (o,i)↔(∃k:Nat,i=k∧k+n=l.length∧EM l=o++((l.drop k).map LX).flatten):=⟨fun n v=>match v with|(o,i)=>(∃k:Nat,i=k∧k+n=l.length∧EM l=o++((l.drop k).map LX).flatten),fun _ _ _=>Iff.rfl⟩
 refine bg ⟨[3,13,14,15],[],[]⟩ (σ:=List UInt8×Int) (fun v=>[(3,.d (.str (t _ fun _=>v.1))),(15,.d (.int .i64 (t _ fun _=>v.2)))]) (fun v=>[]) J3 ?_
 cbv
 refine aC ⟨l.length,(_,_),(Fp _ _ _).2 ?_,by simp only [ht];rfl,?_⟩
 ·(simp only [aa,EM];grind)
 rintro n ⟨o,i⟩ hj
 replace hj:=(Fp _ _ _).1 hj
 obtain ⟨k,rfl,j1,j4⟩:=hj
 cbv
 refine ai (fun h4=>?_) (fun h4=>?_)
 ·simp [ht,aa,av] at h4
  cbv
  refine dS ht aD (cT:=bR.aK t) (by (simp only [ht,aa];omega)) (by (simp only [ht,aa];omega)) (fun _=>rfl) (fun _=>rfl) (fun x5 Oh=>?_)
  simp [ht,aa] at Oh
  rw [kx Oh,LX] at j4
  have oP:=congrArg List.length j4
  simp [bH] at oP
  have Ci:(x5).key.length<9223372036854775000:=by omega
  have Zi:(x5).value.length<9223372036854775000:=by omega
  cbv
  refine bS [false,false,false,false,false,false,false,false,true,true] (by kernel_rfl) (by kernel_rfl) ?_
  cbv
  iterate 3 refine gI (by simp) ?_
  refine .inl ?_
  refine aJ (fun g6=>⟨trv,trv,dM ht _ ‹_›⟩) rfl rfl (fun r7 gE=>?_)
  simp only [ht] at gE
  cbv
  iterate 2 refine gI (by simp) ?_
  refine .inl ?_
  refine aJ (fun g8=>⟨trv,trv,dM ht _ ‹_›⟩) rfl rfl (fun r9 dz=>?_)
  simp only [ht] at dz
  cbv
  refine gI (by simp [ht];grind) ?_
  refine ⟨?_,?_⟩
  ·(simp [bH, *];((try simp only [aa] at*);omega))
  cbv
  refine bu (_,_) (by simp only [ht];rfl) (n-1) ?_ ((Fp _ _ _).2 ?_)
  ·omega
  simp only [aa]
  exact ⟨k+1,aE (by omega),by omega,by rw [j4];simp [*]⟩
 simp [ht,aa,av] at h4
 cbv
 refine ak trv trv rfl rfl rfl ?_
 (rw [List.drop_eq_nil_of_le (by omega),List.map_nil,List.flatten_nil,List.append_nil] at j4;simp only [ht,j4];done)
theorem TV (ht:TT t) (nm:aA) (a b c d:Int) {lb:List bR} {lr:List (List D)} (hlr:lr=lb.map bR.cells) (up:Bool) (hu:(⟨a,b,c,d⟩:bz).u) (hl:lb.length<1000000000) (gD:∀p∈lb,p.sm) (hn:(Cu ⟨nm,⟨a,b,c,d⟩,lb,up⟩).length<9223372036854775000):
 FC 129 [.agg [ST nm,ax a,ax b,ax c,ax d,SL lr,BL up]] [] (.ret (sK (t _ fun _=>Cu ⟨nm,⟨a,b,c,d⟩,lb,up⟩))) []:=by
 have hn2:=hn
 simp only [Cu,bH,List.length_append] at hn2
 refine bA ht (aB:=[]) Tryz.func129 rfl rfl (N:=20) rfl rfl (n:=0) rfl rfl ?_
 cbv
 have Kq:lr.length=lb.length:=by rw [hlr,lgM]
 refine ai (fun h0=>?_) (fun h0=>?_)
 ·cbv
  refine bS [false,false,false,false,false,false,false,false,false,false,false,false,false,true,true] (by kernel_rfl) (by kernel_rfl) ?_
  cbv
  iterate 2 refine gI (by simp) ?_
  refine .inl ?_
  refine aJ (fun g1=>⟨trv,trv,dM ht _ (by omega)⟩) rfl rfl (fun r2 cU=>?_)
  simp only [ht] at cU
  have WB:(r2).length=(eg nm.length).length+nm.length:=by rw [cU,bH,List.length_append]
  cbv
  iterate 2 refine gI (by simp) ?_
  refine .inl ?_
  refine aJ (fun g3=>⟨trv,trv,sF ht _ _ _ _ ‹_›⟩) rfl rfl (fun r4 dV=>?_)
  simp only [ht] at dV
  have YW:(r4).length≤40:=by rw [dV];exact A8 _
  cbv
  refine gI (by simp [ht];omega) ?_
  iterate 2 refine gI (by simp) ?_
  refine .inl ?_
  refine aJ (fun g5=>⟨trv,trv,Mt ht ‹_› ‹_› ‹_› (by omega)⟩) rfl rfl (fun r6 gk=>?_)
  simp only [ht] at gk
  have YX:(r6).length=(EM lb).length:=by rw [gk]
  cbv
  refine gI (by simp [ht];omega) ?_
  refine gI (by simp) ?_
  refine .inl ?_
  refine aJ (fun g7=>⟨trv,trv,cL ht _ (by omega)⟩) rfl rfl (fun r8 sO=>?_)
  simp only [ht] at sO
  have YY:(r8).length≤10:=by rw [sO];exact cY _
  cbv
  refine ⟨?_,?_⟩
  ·(simp [ht];omega)
  cbv
  refine ak trv trv rfl rfl rfl ?_
  (simp [Cu, *];done)
 cbv
 refine bS [false,false,false,false,false,false,false,false,false,false,false,false,false,true,true] (by kernel_rfl) (by kernel_rfl) ?_
 cbv
 iterate 2 refine gI (by simp) ?_
 refine .inl ?_
 refine aJ (fun g9=>⟨trv,trv,dM ht _ (by omega)⟩) rfl rfl (fun Zo BG=>?_)
 simp only [ht] at BG
 have acz:(Zo).length=(eg nm.length).length+nm.length:=by rw [BG,bH,List.length_append]
 cbv
 iterate 2 refine gI (by simp) ?_
 refine .inl ?_
 refine aJ (fun g11=>⟨trv,trv,sF ht _ _ _ _ ‹_›⟩) rfl rfl (fun Wv oB=>?_)
 simp only [ht] at oB
 have UW:(Wv).length≤40:=by rw [oB];exact A8 _
 cbv
 refine gI (by simp [ht];omega) ?_
 iterate 2 refine gI (by simp) ?_
 refine .inl ?_
 refine aJ (fun g13=>⟨trv,trv,Mt ht ‹_› ‹_› ‹_› (by omega)⟩) rfl rfl (fun Zz vZ=>?_)
 simp only [ht] at vZ
 have YZ:(Zz).length=(EM lb).length:=by rw [vZ]
 cbv
 refine gI (by simp [ht];omega) ?_
 refine gI (by simp) ?_
 refine .inl ?_
 refine aJ (fun g15=>⟨trv,trv,cL ht _ (by omega)⟩) rfl rfl (fun r16 Fq=>?_)
 simp only [ht] at Fq
 have Y0:(r16).length≤10:=by rw [Fq];exact cY _
 cbv
 refine ⟨?_,?_⟩
 ·(simp [ht];omega)
 cbv
 refine ak trv trv rfl rfl rfl ?_
 (simp [Cu, *];done)
theorem TW (ht:TT t) {l:List Node} {ps:List Place} {es qs:List (List D)} (aD:es=l.map Node.cells) (fG:qs=ps.map Place.cells) (hl:l.length<1000000000) (pO:ps.length<1000000000) (gD:∀x∈l,x.sm) (hu:∀x∈l,x.cap.u)
 (hxu:∀x∈ps,x.v.u∧x.bB<18446744073709551616) (hn:(Cv ⟨l,ps⟩).length<9223372036854775000):
 FC 73 [.agg [SL es,SL qs]] [] (.ret (sK (t _ fun _=>Cv ⟨l,ps⟩))) []:=by
 have Cz:IntKind.u64.wrap (es.length:Int)=l.length:=by rw [bI,aD,lgM];omega
 have hqw:IntKind.u64.wrap (qs.length:Int)=ps.length:=by rw [bI,fG,lgM];omega
 refine bA ht (aB:=[]) Tryz.func73 rfl rfl (N:=54) rfl rfl (n:=0) rfl rfl ?_
 cbv
 have av:es.length=l.length:=by rw [aD,lgM]
 have dL:qs.length=ps.length:=by rw [fG,lgM]
 refine ay trv (cL ht _ (by (simp only [ht];((try simp only [aa] at*);omega)))) trv rfl rfl (fun r0 bF=>?_)
 simp only [ht] at bF
 (try rw [Cz] at bF)
 (try rw [hqw] at bF)
 have Wy:=congrArg List.length bF
 (try have eps:r0=eg (ps.length:Int):=bF)
 cbv
 obtain ⟨J1,gj⟩:∃J1:Nat→List UInt8×Int→Prop,∀n o i,J1 n (o,i)↔(∃k:Nat,i=k∧k+n=l.length∧Cv ⟨l,ps⟩=o++((l.drop k).map Cu).flatten++eg ps.length++(ps.map M0).flatten):=⟨fun n v=>match v with|(o,i)=>(∃k:Nat,i=k∧k+n=l.length∧Cv ⟨l,ps⟩=o++((l.drop k).map Cu).flatten++eg ps.length++(ps.map M0).flatten),fun _ _ _=>Iff.rfl⟩
 refine bg ⟨[1,3,14,15,16],[],[]⟩ (σ:=List UInt8×Int) (fun v=>[(3,.d (.str (t _ fun _=>v.1))),(16,.d (.int .i64 (t _ fun _=>v.2)))]) (fun v=>[]) J1 ?_
 cbv
 refine aC ⟨l.length,(_,_),(gj _ _ _).2 ?_,by simp only [ht];rfl,?_⟩
 ·exact ⟨0,rfl,by simp,by simp [Cv, *]⟩
 rintro n ⟨o,i⟩ hj
 replace hj:=(gj _ _ _).1 hj
 obtain ⟨k,rfl,j1,j4⟩:=hj
 cbv
 refine ai (fun h2=>?_) (fun h2=>?_)
 ·simp [ht,aa,av] at h2
  cbv
  refine dS ht aD (cT:=Node.aK t) (by (simp only [ht,aa];omega)) (by (simp only [ht,aa];omega)) (fun _=>rfl) (fun _=>(by (simp only [ht,Node.aK];done))) (fun x3 nv=>?_)
  simp [ht,aa] at nv
  rw [kx nv] at j4
  have oP:=congrArg List.length j4
  simp at oP
  have hs1:=gD _ (List.mem_of_getElem? nv)
  have UX:=hu _ (List.mem_of_getElem? nv)
  have hnp:(Cu x3).length<9223372036854775000:=by omega
  obtain ⟨nx,UO⟩:∃nx,nx=Cu x3:=⟨_,rfl⟩
  rw [←UO] at oP j4
  cbv
  (refine ay trv (TV ht _ _ _ _ _ (by simp only [ht]) _ UX hs1.2.1 hs1.2.2 hnp) trv rfl rfl (fun r9 dz=>?_);simp only [ht] at dz;have gl9:r9=nx:=dz.trans UO.symm;subst gl9)
  cbv
  refine ⟨?_,?_⟩
  ·(simp only [ht,aa] at*;omega)
  cbv
  refine bu (_,_) (by simp only [ht];rfl) (n-1) ?_ ((gj _ _ _).2 ?_)
  ·omega
  simp only [aa]
  exact ⟨k+1,aE (by omega),by omega,by rw [j4];simp [*]⟩
 simp [ht,aa,av] at h2
 cbv
 refine ay trv (cL ht _ (by (simp only [ht];((try simp only [aa] at*);omega)))) trv rfl rfl (fun r4 dV=>?_)
 simp only [ht] at dV
 (try rw [Cz] at dV)
 (try rw [hqw] at dV)
 have YW:=congrArg List.length dV
 (try have eps:r4=eg (ps.length:Int):=dV)
 cbv
 refine ⟨?_,?_⟩
 ·(simp only [ht];grind)
 cbv
 obtain ⟨J5,WC⟩:∃J5:Nat→List UInt8×Int→Prop,∀n o i,J5 n (o,i)↔(∃k:Nat,i=k∧k+n=ps.length∧Cv ⟨l,ps⟩=o++((ps.drop k).map M0).flatten):=⟨fun n v=>match v with|(o,i)=>(∃k:Nat,i=k∧k+n=ps.length∧Cv ⟨l,ps⟩=o++((ps.drop k).map M0).flatten),fun _ _ _=>Iff.rfl⟩
 refine bg ⟨[3,33,34,35],[],[]⟩ (σ:=List UInt8×Int) (fun v=>[(3,.d (.str (t _ fun _=>v.1))),(35,.d (.int .i64 (t _ fun _=>v.2)))]) (fun v=>[]) J5 ?_
 cbv
 refine aC ⟨ps.length,(_,_),(WC _ _ _).2 ?_,by simp only [ht];rfl,?_⟩
 ·exact ⟨0,rfl,by simp,by rw [j4,List.drop_eq_nil_of_le (show l.length≤k by omega)];simp [eps]⟩
 rintro n ⟨o,i⟩ hj
 replace hj:=(WC _ _ _).1 hj
 obtain ⟨k,rfl,j1,j4⟩:=hj
 cbv
 refine ai (fun h6=>?_) (fun h6=>?_)
 ·simp [ht,aa,dL] at h6
  cbv
  refine dS ht fG (cT:=Place.aK t) (by (simp only [ht,aa];omega)) (by (simp only [ht,aa];omega)) (fun _=>rfl) (fun _=>rfl) (fun x7 ZD=>?_)
  simp [ht,aa] at ZD
  rw [kx ZD,M0] at j4
  have oP:=congrArg List.length j4
  simp [bH] at oP
  have UX:=hxu _ (List.mem_of_getElem? ZD)
  clear ZD
  obtain ⟨jb,nd,⟨v1,v2,v3,v4⟩⟩:=x7
  simp only at UX oP
  cbv
  refine bS [false,false,false,false,false,false,false,false,false,false,false,false,true,true] (by kernel_rfl) (by kernel_rfl) ?_
  cbv
  iterate 3 refine gI (by simp) ?_
  refine .inl ?_
  refine aJ (fun g8=>⟨trv,trv,cL ht _ (by omega)⟩) rfl rfl (fun r9 dz=>?_)
  simp only [ht] at dz
  (try rw [Cz] at dz)
  (try rw [hqw] at dz)
  have WD:=congrArg List.length dz
  (try have eps:r9=eg (ps.length:Int):=dz)
  cbv
  iterate 2 refine gI (by simp) ?_
  refine .inl ?_
  refine aJ (fun g10=>⟨trv,trv,dM ht _ (by omega)⟩) rfl rfl (fun Xf pK=>?_)
  simp only [ht] at pK
  have UY:=congrArg List.length pK
  simp only [bH,List.length_append] at UY
  cbv
  refine gI (by simp [ht];omega) ?_
  iterate 2 refine gI (by simp) ?_
  refine .inl ?_
  refine aJ (fun g12=>⟨trv,trv,sF ht _ _ _ _ (by (simp [*];done))⟩) rfl rfl (fun r13 Fo=>?_)
  simp only [ht] at Fo
  have acA:=congrArg List.length Fo
  cbv
  refine gI (by simp [ht];omega) ?_
  refine ⟨?_,?_⟩
  ·(simp [ht];omega)
  cbv
  refine bu (_,_) (by simp only [ht];rfl) (n-1) ?_ ((WC _ _ _).2 ?_)
  ·omega
  simp only [aa]
  exact ⟨k+1,aE (by omega),by omega,by rw [j4];simp [*]⟩
 simp [ht,aa,dL] at h6
 cbv
 refine ak trv trv rfl rfl rfl ?_
 (rw [List.drop_eq_nil_of_le (by omega)] at j4;simp only [ht];grind)
theorem Oi (ht:TT t) {l m:List cF} {es fs:List (List D)} (aD:es=l.map cF.cells) (sN:fs=m.map cF.cells) (hl:l.length<1000000000) (hm:m.length<1000000000):
 FC 116 [SL es,SL fs] [] (.ret (cu (t _ fun _=>decide (l=m)))) []:=by
 refine bA ht (aB:=[]) Tryz.func116 rfl rfl (N:=26) rfl rfl (n:=0) rfl rfl ?_
 cbv
 have av:es.length=l.length:=by rw [aD,lgM]
 have cK:fs.length=m.length:=by rw [sN,lgM]
 refine ai (fun h0=>?_) (fun h0=>?_)
 ·simp [ht,aa,av,cK] at h0
  cbv
  refine ak trv trv rfl rfl rfl ?_
  (simp [ht];rintro rfl;simp_all;done)
 simp [ht,aa,av,cK] at h0
 cbv
 obtain ⟨J1,gj⟩:∃J1:Nat→Int→Prop,∀n i,J1 n i↔(∃k:Nat,i=k∧k+n=l.length∧l.length=m.length∧decide (l=m)=decide (l.drop k=m.drop k)):=⟨fun n v=>match v with|i=>(∃k:Nat,i=k∧k+n=l.length∧l.length=m.length∧decide (l=m)=decide (l.drop k=m.drop k)),fun _ _=>Iff.rfl⟩
 refine bg ⟨[0,1,12,13],[],[]⟩ (σ:=Int) (fun v=>[(13,.d (.int .i64 (t _ fun _=>v)))]) (fun v=>[]) J1 ?_
 cbv
 refine aC ⟨l.length,_,(gj _ _).2 ?_,by simp only [ht];rfl,?_⟩
 ·(simp only [aa];grind)
 rintro n i hj
 replace hj:=(gj _ _).1 hj
 obtain ⟨k,rfl,j1,j2,j4⟩:=hj
 cbv
 refine ai (fun h2=>?_) (fun h2=>?_)
 ·simp [ht,aa,av] at h2
  cbv
  refine bS [false,false,false,false,false,false,false,false,true] (by kernel_rfl) (by kernel_rfl) ?_
  cbv
  iterate 2 refine gI (by simp) ?_
  refine dS ht aD (cT:=cF.aK t) (by (simp only [ht,aa];omega)) (by (simp only [ht,aa];omega)) (fun _=>rfl) (fun _=>rfl) (fun x3 nv=>?_)
  simp [ht,aa] at nv
  rw [bV nv] at j4
  cbv
  iterate 3 refine gI (by simp) ?_
  refine dS ht sN (cT:=cF.aK t) (by (simp only [ht,aa];omega)) (by (simp only [ht,aa];omega)) (fun _=>rfl) (fun _=>rfl) (fun x4 tg=>?_)
  simp [ht,aa] at tg
  rw [bV tg] at j4
  cbv
  refine gI (by simp) ?_
  refine ai (fun h5=>?_) (fun h5=>?_)
  ·simp [ht] at h5
   cbv
   refine ak trv trv rfl rfl rfl ?_
   (simp [ht];rintro rfl;simp_all;done)
  simp [ht] at h5
  cbv
  refine bu _ (by simp only [ht];rfl) (n-1) ?_ ((gj _ _).2 ?_)
  ·omega
  simp only [aa]
  refine ⟨k+1,aE (by omega),by omega,by omega,?_⟩
  (simp [Wc, *];done)
 simp [ht,aa,av] at h2
 cbv
 refine ak trv trv rfl rfl rfl ?_
 (simp [ht,j4,List.drop_eq_nil_of_le (show l.length≤k by omega),List.drop_eq_nil_of_le (show m.length≤k by omega)];done)
theorem yQ (ht:TT t) (f g:Int) {l m:List cF} {es fs:List (List D)} (aD:es=l.map cF.cells) (sN:fs=m.map cF.cells) (hl:l.length<1000000000) (hm:m.length<1000000000):
 FC 56 [.agg [ax f,SL es],.agg [ax g,SL fs]] [] (.ret (cu (t _ fun _=>decide ((⟨f,l⟩:sL)=⟨g,m⟩)))) []:=by
 refine bA ht (aB:=[]) Tryz.func56 rfl rfl (N:=17) rfl rfl (n:=0) rfl rfl ?_
 cbv
 have av:es.length=l.length:=by rw [aD,lgM]
 have cK:fs.length=m.length:=by rw [sN,lgM]
 iterate 4 refine gI (by simp [ht]) ?_
 refine aJ (fun g0=>⟨by simp [ht] at g0 ⊢;exact g0,trv,Oi ht ‹_› ‹_› ‹_› ‹_›⟩) rfl rfl (fun r1 eb=>?_)
 simp only [ht] at eb
 cbv
 refine pI (by simp [ht]) ?_
 refine ak trv trv rfl rfl rfl ?_
 (simp [*];done)
theorem BT (ht:TT t) (f:Int) {l:List cF} {es:List (List D)} (aD:es=l.map cF.cells) (hf:f<18446744073709551616) (hl:l.length<1000000000) (hu:∀x∈l,x.round<18446744073709551616∧x.id<18446744073709551616) (hn:(iZ ⟨f,l⟩).length<9223372036854775000):
 FC 76 [.agg [ax f,SL es]] [] (.ret (sK (t _ fun _=>iZ ⟨f,l⟩))) []:=by
 have Cz:IntKind.u64.wrap (es.length:Int)=l.length:=by rw [bI,aD,lgM];omega
 have Zw:∀u,(eg u).length≤10:=cY
 refine bA ht (aB:=[]) Tryz.func76 rfl rfl (N:=38) rfl rfl (n:=0) rfl rfl ?_
 cbv
 have av:es.length=l.length:=by rw [aD,lgM]
 refine bS [false,false,false,false,false,false,false,true,true,true] (by kernel_rfl) (by kernel_rfl) ?_
 cbv
 iterate 2 refine gI (by simp) ?_
 refine .inl ?_
 refine aJ (fun g0=>⟨trv,trv,cL ht _ ‹_›⟩) rfl rfl (fun r1 eb=>?_)
 simp only [ht] at eb
 (try rw [Cz] at eb)
 have WE:(r1).length≤10:=by rw [eb];exact cY _
 cbv
 iterate 4 refine gI (by simp) ?_
 refine ay trv (cL ht _ (by (simp only [ht];((try simp only [aa] at*);omega)))) trv rfl rfl (fun r2 cU=>?_)
 simp only [ht] at cU
 (try rw [Cz] at cU)
 have WB:(r2).length≤10:=by rw [cU];exact cY _
 cbv
 refine ⟨?_,?_⟩
 ·(simp only [ht,aa] at*;omega)
 cbv
 obtain ⟨J3,Fp⟩:∃J3:Nat→List UInt8×Int→Prop,∀n o i,J3 n (o,i)↔(∃k:Nat,i=k∧k+n=l.length∧iZ ⟨f,l⟩=o++((l.drop k).map L3).flatten):=⟨fun n v=>match v with|(o,i)=>(∃k:Nat,i=k∧k+n=l.length∧iZ ⟨f,l⟩=o++((l.drop k).map L3).flatten),fun _ _ _=>Iff.rfl⟩
 refine bg ⟨[3,16,17,18],[],[]⟩ (σ:=List UInt8×Int) (fun v=>[(3,.d (.str (t _ fun _=>v.1))),(18,.d (.int .i64 (t _ fun _=>v.2)))]) (fun v=>[]) J3 ?_
 cbv
 refine aC ⟨l.length,(_,_),(Fp _ _ _).2 ?_,by simp only [ht];rfl,?_⟩
 ·exact ⟨0,rfl,by simp,by simp [iZ, *]⟩
 rintro n ⟨o,i⟩ hj
 replace hj:=(Fp _ _ _).1 hj
 obtain ⟨k,rfl,j1,j4⟩:=hj
 cbv
 refine ai (fun h4=>?_) (fun h4=>?_)
 ·simp [ht,aa,av] at h4
  cbv
  refine dS ht aD (cT:=cF.aK t) (by (simp only [ht,aa];omega)) (by (simp only [ht,aa];omega)) (fun _=>rfl) (fun _=>rfl) (fun x5 Oh=>?_)
  simp [ht,aa] at Oh
  rw [kx Oh,L3] at j4
  have oP:=congrArg List.length j4
  simp only [List.length_append] at oP
  obtain ⟨UX,hu2⟩:=hu _ (List.mem_of_getElem? Oh)
  cbv
  refine bS [false,false,false,false,false,false,false,false,false,false,false,false,false,true,true] (by kernel_rfl) (by kernel_rfl) ?_
  cbv
  iterate 3 refine gI (by simp) ?_
  refine .inl ?_
  refine aJ (fun g6=>⟨trv,trv,cL ht _ ‹_›⟩) rfl rfl (fun r7 gE=>?_)
  simp only [ht] at gE
  (try rw [Cz] at gE)
  have Rs:(r7).length≤10:=by rw [gE];exact cY _
  cbv
  iterate 2 refine gI (by simp) ?_
  refine .inl ?_
  refine aJ (fun g8=>⟨trv,trv,cL ht _ ‹_›⟩) rfl rfl (fun r9 dz=>?_)
  simp only [ht] at dz
  (try rw [Cz] at dz)
  have WD:(r9).length≤10:=by rw [dz];exact cY _
  cbv
  refine gI (by simp [ht];omega) ?_
  iterate 3 refine gI (by simp) ?_
  refine .inl ?_
  refine aJ (fun g10=>⟨trv,trv,cL ht _ (by (simp only [ht,bI];omega))⟩) rfl rfl (fun Xf pK=>?_)
  simp only [ht] at pK
  (try rw [Cz] at pK)
  have UY:(Xf).length≤10:=by rw [pK];exact cY _
  cbv
  refine gI (by simp [ht];omega) ?_
  refine ⟨?_,?_⟩
  ·(simp [ht];omega)
  cbv
  refine bu (_,_) (by simp only [ht];rfl) (n-1) ?_ ((Fp _ _ _).2 ?_)
  ·omega
  simp only [aa]
  exact ⟨k+1,aE (by omega),by omega,by rw [j4];simp only [u64,←bI];simp [*]⟩
 simp [ht,aa,av] at h4
 cbv
 refine ak trv trv rfl rfl rfl ?_
 (rw [List.drop_eq_nil_of_le (by omega),List.map_nil,List.flatten_nil,List.append_nil] at j4;simp only [ht,j4];done)
theorem TX {x y:aQ}:x=y↔x.path=y.path∧x.c6=y.c6∧x.used=y.used:=by cases x;cases y;simp
theorem Y1 {x y:Jb}:x=y↔x.id=y.id∧x.x=y.x∧x.runs=y.runs∧x.left=y.left:=by cases x;cases y;simp
theorem Rt (ht:TT t) {l m:List aQ} {es fs:List (List D)} (aD:es=l.map aQ.cells) (sN:fs=m.map aQ.cells) (hl:l.length<1000000000) (hm:m.length<1000000000):
 FC 52 [SL es,SL fs] [] (.ret (cu (t _ fun _=>decide (l=m)))) []:=by
 refine bA ht (aB:=[]) Tryz.func52 rfl rfl (N:=26) rfl rfl (n:=0) rfl rfl ?_
 cbv
 have av:es.length=l.length:=by rw [aD,lgM]
 have cK:fs.length=m.length:=by rw [sN,lgM]
 refine ai (fun h0=>?_) (fun h0=>?_)
 ·simp [ht,aa,av,cK] at h0
  cbv
  refine ak trv trv rfl rfl rfl ?_
  (simp [ht];rintro rfl;simp_all;done)
 simp [ht,aa,av,cK] at h0
 cbv
 obtain ⟨J1,gj⟩:∃J1:Nat→Int→Prop,∀n i,J1 n i↔(∃k:Nat,i=k∧k+n=l.length∧l.length=m.length∧decide (l=m)=decide (l.drop k=m.drop k)):=⟨fun n v=>match v with|i=>(∃k:Nat,i=k∧k+n=l.length∧l.length=m.length∧decide (l=m)=decide (l.drop k=m.drop k)),fun _ _=>Iff.rfl⟩
 refine bg ⟨[0,1,12,13],[],[]⟩ (σ:=Int) (fun v=>[(13,.d (.int .i64 (t _ fun _=>v)))]) (fun v=>[]) J1 ?_
 cbv
 refine aC ⟨l.length,_,(gj _ _).2 ?_,by simp only [ht];rfl,?_⟩
 ·(simp only [aa];grind)
 rintro n i hj
 replace hj:=(gj _ _).1 hj
 obtain ⟨k,rfl,j1,j2,j4⟩:=hj
 cbv
 refine ai (fun h2=>?_) (fun h2=>?_)
 ·simp [ht,aa,av] at h2
  cbv
  refine bS [false,false,false,false,false,false,false,false,true] (by kernel_rfl) (by kernel_rfl) ?_
  cbv
  iterate 2 refine gI (by simp) ?_
  refine dS ht aD (cT:=aQ.aK t) (by (simp only [ht,aa];omega)) (by (simp only [ht,aa];omega)) (fun _=>rfl) (fun _=>rfl) (fun x3 nv=>?_)
  simp [ht,aa] at nv
  rw [bV nv] at j4
  cbv
  iterate 3 refine gI (by simp) ?_
  refine dS ht sN (cT:=aQ.aK t) (by (simp only [ht,aa];omega)) (by (simp only [ht,aa];omega)) (fun _=>rfl) (fun _=>rfl) (fun x4 tg=>?_)
  simp [ht,aa] at tg
  rw [bV tg] at j4
  cbv
  refine gI (by simp) ?_
  refine ai (fun h5=>?_) (fun h5=>?_)
  ·simp [ht] at h5
   cbv
   refine ak trv trv rfl rfl rfl ?_
   (simp [ht];rintro rfl;simp_all;done)
  simp [ht] at h5
  cbv
  refine bu _ (by simp only [ht];rfl) (n-1) ?_ ((gj _ _).2 ?_)
  ·omega
  simp only [aa]
  refine ⟨k+1,aE (by omega),by omega,by omega,?_⟩
  (simp [TX,nG, *];done)
 simp [ht,aa,av] at h2
 cbv
 refine ak trv trv rfl rfl rfl ?_
 (simp [ht,j4,List.drop_eq_nil_of_le (show l.length≤k by omega),List.drop_eq_nil_of_le (show m.length≤k by omega)];done)
theorem Ru (ht:TT t) {l m:List bZ} {es fs:List (List D)} (aD:es=l.map bZ.cells) (sN:fs=m.map bZ.cells) (hl:l.length<1000000000) (hm:m.length<1000000000):
 FC 53 [SL es,SL fs] [] (.ret (cu (t _ fun _=>decide (l=m)))) []:=by
 refine bA ht (aB:=[]) Tryz.func53 rfl rfl (N:=26) rfl rfl (n:=0) rfl rfl ?_
 cbv
 have av:es.length=l.length:=by rw [aD,lgM]
 have cK:fs.length=m.length:=by rw [sN,lgM]
 refine ai (fun h0=>?_) (fun h0=>?_)
 ·simp [ht,aa,av,cK] at h0
  cbv
  refine ak trv trv rfl rfl rfl ?_
  (simp [ht];rintro rfl;simp_all;done)
 simp [ht,aa,av,cK] at h0
 cbv
 obtain ⟨J1,gj⟩:∃J1:Nat→Int→Prop,∀n i,J1 n i↔(∃k:Nat,i=k∧k+n=l.length∧l.length=m.length∧decide (l=m)=decide (l.drop k=m.drop k)):=⟨fun n v=>match v with|i=>(∃k:Nat,i=k∧k+n=l.length∧l.length=m.length∧decide (l=m)=decide (l.drop k=m.drop k)),fun _ _=>Iff.rfl⟩
 refine bg ⟨[0,1,12,13],[],[]⟩ (σ:=Int) (fun v=>[(13,.d (.int .i64 (t _ fun _=>v)))]) (fun v=>[]) J1 ?_
 cbv
 refine aC ⟨l.length,_,(gj _ _).2 ?_,by simp only [ht];rfl,?_⟩
 ·(simp only [aa];grind)
 rintro n i hj
 replace hj:=(gj _ _).1 hj
 obtain ⟨k,rfl,j1,j2,j4⟩:=hj
 cbv
 refine ai (fun h2=>?_) (fun h2=>?_)
 ·simp [ht,aa,av] at h2
  cbv
  refine bS [false,false,false,false,false,false,false,false,true] (by kernel_rfl) (by kernel_rfl) ?_
  cbv
  iterate 2 refine gI (by simp) ?_
  refine dS ht aD (cT:=bZ.aK t) (by (simp only [ht,aa];omega)) (by (simp only [ht,aa];omega)) (fun _=>rfl) (fun _=>rfl) (fun x3 nv=>?_)
  simp [ht,aa] at nv
  rw [bV nv] at j4
  cbv
  iterate 3 refine gI (by simp) ?_
  refine dS ht sN (cT:=bZ.aK t) (by (simp only [ht,aa];omega)) (by (simp only [ht,aa];omega)) (fun _=>rfl) (fun _=>rfl) (fun x4 tg=>?_)
  simp [ht,aa] at tg
  rw [bV tg] at j4
  cbv
  refine gI (by simp) ?_
  refine ai (fun h5=>?_) (fun h5=>?_)
  ·simp [ht] at h5
   cbv
   refine ak trv trv rfl rfl rfl ?_
   (simp [ht];rintro rfl;simp_all;done)
  simp [ht] at h5
  cbv
  refine bu _ (by simp only [ht];rfl) (n-1) ?_ ((gj _ _).2 ?_)
  ·omega
  simp only [aa]
  refine ⟨k+1,aE (by omega),by omega,by omega,?_⟩
  (simp [KU, *];done)
 simp [ht,aa,av] at h2
 cbv
 refine ak trv trv rfl rfl rfl ?_
 (simp [ht,j4,List.drop_eq_nil_of_le (show l.length≤k by omega),List.drop_eq_nil_of_le (show m.length≤k by omega)];done)
theorem Rv (ht:TT t) (ji ja jb jc jd jn jp jt jf ki ka kb kc kd kn kp kt kf:Int) (jq kq:aA) (jr kr:Bool) {gL Y2:List Term} {pW ksr:List (List D)} (jw:pW=gL.map Term.cells) (abj:ksr=Y2.map Term.cells)
 (hl:gL.length<1000000000) (hl':Y2.length<1000000000) (hs:∀x∈gL,x.fw.length<1000000000) (hs':∀x∈Y2,x.fw.length<1000000000):
 FC 55 [.agg [ax ji,ST jq,ax ja,ax jb,ax jc,ax jd,bc jn,bc jp,bc jt,SL pW,BL jr,bc jf],.agg [ax ki,ST kq,ax ka,ax kb,ax kc,ax kd,bc kn,bc kp,bc kt,SL ksr,BL kr,bc kf]] [] (.ret (cu (t _ fun _=>decide ((⟨ji,⟨jq,⟨ja,jb,jc,jd⟩,jn,jp,jt,gL⟩,jr,jf⟩:Jb)=⟨ki,⟨kq,⟨ka,kb,kc,kd⟩,kn,kp,kt,Y2⟩,kr,kf⟩)))) []:=by
 refine bA ht (aB:=[]) Tryz.func55 rfl rfl (N:=31) rfl rfl (n:=0) rfl rfl ?_
 cbv
 have pG:pW.length=gL.length:=by rw [jw,lgM]
 have ZE:ksr.length=Y2.length:=by rw [abj,lgM]
 iterate 5 refine gI (by simp [ht]) ?_
 refine pI (by simp [ht]) ?_
 iterate 5 refine gI (by simp [ht]) ?_
 refine pI (by simp [ht]) ?_
 iterate 4 refine gI (by simp [ht]) ?_
 refine aJ (fun g0=>⟨by simp [ht] at g0 ⊢;exact g0,trv,Io ht _ _ _ _ _ _ _ _ _ _ _ _ _ _ _ _ ‹_› ‹_› ‹_› ‹_› ‹_› ‹_›⟩) rfl rfl (fun r1 eb=>?_)
 simp only [ht] at eb
 cbv
 refine pI (by simp [ht]) ?_
 refine ak trv trv rfl rfl rfl ?_
 (simp [*];grind)
theorem Rw (ht:TT t) {l m:List Jb} {es fs:List (List D)} (aD:es=l.map Jb.cells) (sN:fs=m.map Jb.cells) (hl:l.length<1000000000) (hm:m.length<1000000000) (hls:∀x∈l,x.x.sm) (Si:∀x∈m,x.x.sm):
 FC 54 [SL es,SL fs,.fn 55 []] [] (.ret (cu (t _ fun _=>decide (l=m)))) []:=by
 refine bA ht (aB:=[]) Tryz.func54 rfl rfl (N:=32) rfl rfl (n:=0) rfl rfl ?_
 cbv
 have av:es.length=l.length:=by rw [aD,lgM]
 have cK:fs.length=m.length:=by rw [sN,lgM]
 refine ai (fun h0=>?_) (fun h0=>?_)
 ·simp [ht,aa,av,cK] at h0
  cbv
  refine ak trv trv rfl rfl rfl ?_
  (simp [ht];rintro rfl;simp_all;done)
 simp [ht,aa,av,cK] at h0
 cbv
 obtain ⟨J1,gj⟩:∃J1:Nat→Int→Prop,∀n i,J1 n i↔(∃k:Nat,i=k∧k+n=l.length∧l.length=m.length∧decide (l=m)=decide (l.drop k=m.drop k)):=⟨fun n v=>match v with|i=>(∃k:Nat,i=k∧k+n=l.length∧l.length=m.length∧decide (l=m)=decide (l.drop k=m.drop k)),fun _ _=>Iff.rfl⟩
 refine bg ⟨[1,2,15,16,17],[],[]⟩ (σ:=Int) (fun v=>[(17,.d (.int .i64 (t _ fun _=>v)))]) (fun v=>[]) J1 ?_
 cbv
 refine aC ⟨l.length,_,(gj _ _).2 ?_,by simp only [ht];rfl,?_⟩
 ·(simp only [aa];grind)
 rintro n i hj
 replace hj:=(gj _ _).1 hj
 obtain ⟨k,rfl,j1,j2,j4⟩:=hj
 cbv
 refine ai (fun h2=>?_) (fun h2=>?_)
 ·simp [ht,aa,av] at h2
  cbv
  refine dS ht aD (cT:=Jb.aK t) (by (simp only [ht,aa];omega)) (by (simp only [ht,aa];omega)) (fun _=>rfl) (fun _=>(by (simp only [ht,Jb.aK];rfl))) (fun x3 nv=>?_)
  simp [ht,aa] at nv
  rw [bV nv] at j4
  have Zm:=hls _ (List.mem_of_getElem? nv)
  obtain ⟨ad0,ad1,ad2,abk⟩:=Zm
  have ad3:∀y∈(x3).x.bX,y.fw.length<1000000000:=fun y hy=>(abk y hy).2.1
  cbv
  refine dS ht sN (cT:=Jb.aK t) (by (simp only [ht,aa];omega)) (by (simp only [ht,aa];omega)) (fun _=>rfl) (fun _=>(by (simp only [ht,Jb.aK];rfl))) (fun x4 tg=>?_)
  simp [ht,aa] at tg
  rw [bV tg] at j4
  have sx4:=Si _ (List.mem_of_getElem? tg)
  obtain ⟨ad4,ad5,ad6,abl⟩:=sx4
  have ad7:∀y∈(x4).x.bX,y.fw.length<1000000000:=fun y hy=>(abl y hy).2.1
  cbv
  refine ay trv (Rv ht _ _ _ _ _ _ _ _ _ _ _ _ _ _ _ _ _ _ _ _ _ _ (jE ht rfl) (jE ht rfl) ‹_› ‹_› ‹_› ‹_›) trv rfl rfl (fun r5 jh=>?_)
  simp only [ht] at jh
  cbv
  refine ai (fun h6=>?_) (fun h6=>?_)
  ·simp [ht] at h6
   cbv
   refine ak trv trv rfl rfl rfl ?_
   (simp [ht];rintro rfl;simp_all;done)
  simp [ht] at h6
  cbv
  refine bu _ (by simp only [ht];rfl) (n-1) ?_ ((gj _ _).2 ?_)
  ·omega
  simp only [aa]
  refine ⟨k+1,aE (by omega),by omega,by omega,?_⟩
  (simp_all [Y1,Wd,nG];done)
 simp [ht,aa,av] at h2
 cbv
 refine ak trv trv rfl rfl rfl ?_
 (simp [ht,j4,List.drop_eq_nil_of_le (show l.length≤k by omega),List.drop_eq_nil_of_le (show m.length≤k by omega)];done)
theorem xx (ht:TT t) (rd nx ef af:Int) {nl:List Node} {pl:List Place} {tl:List aQ} {jl:List Jb} {ql:List bZ} {el al:List cF} {ns ps ts js qs es dm:List (List D)} (gR:ns=nl.map Node.cells) (hps:ps=pl.map Place.cells) (hts:ts=tl.map aQ.cells) (fU:js=jl.map Jb.cells) (fG:qs=ql.map bZ.cells) (aD:es=el.map cF.cells) (has:dm=al.map cF.cells) (rd' nx' ef' af':Int) {nl':List Node} {WG:List Place} {WH:List aQ} {Rx:List Jb} {RS:List bZ} {WI WJ:List cF} {ns' ps' ts' js' VY es' WK:List (List D)} (abn:ns'=nl'.map Node.cells) (abo:ps'=WG.map Place.cells) (abp:ts'=WH.map aQ.cells) (abq:js'=Rx.map Jb.cells) (VZ:VY=RS.map bZ.cells) (Kk:es'=WI.map cF.cells) (abr:WK=WJ.map cF.cells)
 (hb:nl.length<1000000∧pl.length<1000000∧tl.length<100000∧jl.length<1000000∧ql.length<1000000∧el.length<1000000∧al.length<1000000) (hb':nl'.length<1000000∧WG.length<1000000∧WH.length<100000∧Rx.length<1000000∧RS.length<1000000∧WI.length<1000000∧WJ.length<1000000)
 (hls:∀x∈nl,x.labels.length<1000000000) (aaF:∀x∈nl',x.labels.length<1000000000) (hjl:∀x∈jl,x.x.sm) (ad8:∀x∈Rx,x.x.sm):
 FC 17 [.agg [ax rd,ax nx,SL ns,SL ps,SL ts,SL js,SL qs,ax ef,SL es,ax af,SL dm],.agg [ax rd',ax nx',SL ns',SL ps',SL ts',SL js',SL VY,ax ef',SL es',ax af',SL WK]] [] (.ret (cu (t _ fun _=>yB ⟨rd,nx,⟨nl,pl⟩,tl,jl,ql,⟨ef,el⟩,⟨af,al⟩⟩ ⟨rd',nx',⟨nl',WG⟩,WH,Rx,RS,⟨ef',WI⟩,⟨af',WJ⟩⟩))) []:=by
 obtain ⟨b1,b2,b3,b4,b5,b6,b7⟩:=hb
 obtain ⟨d1,d2,d3,d4,d5,d6,d7⟩:=hb'
 refine bA ht (aB:=[]) Tryz.func17 rfl rfl (N:=61) rfl rfl (n:=0) rfl rfl ?_
 cbv
 have fc:ns.length=nl.length:=by rw [gR,lgM]
 have fA:ps.length=pl.length:=by rw [hps,lgM]
 have fT:ts.length=tl.length:=by rw [hts,lgM]
 have dj:js.length=jl.length:=by rw [fU,lgM]
 have dL:qs.length=ql.length:=by rw [fG,lgM]
 have av:es.length=el.length:=by rw [aD,lgM]
 have dP:dm.length=al.length:=by rw [has,lgM]
 have ZF:ns'.length=nl'.length:=by rw [abn,lgM]
 have ZG:ps'.length=WG.length:=by rw [abo,lgM]
 have ZH:ts'.length=WH.length:=by rw [abp,lgM]
 have ZI:js'.length=Rx.length:=by rw [abq,lgM]
 have Tn:VY.length=RS.length:=by rw [VZ,lgM]
 have Tm:es'.length=WI.length:=by rw [Kk,lgM]
 have Y3:WK.length=WJ.length:=by rw [abr,lgM]
 iterate 5 refine gI (by simp [ht]) ?_
 refine pI (by simp [ht]) ?_
 iterate 4 refine gI (by simp [ht]) ?_
 refine aJ (fun g0=>⟨by simp [ht] at g0 ⊢;exact g0,trv,Rt ht ‹_› ‹_› (by omega) (by omega)⟩) rfl rfl (fun r1 eb=>?_)
 simp only [ht] at eb
 cbv
 refine pI (by simp [ht]) ?_
 iterate 4 refine gI (by simp [ht]) ?_
 refine aJ (fun g2=>⟨by simp [ht] at g2 ⊢;exact g2,trv,Ru ht ‹_› ‹_› (by omega) (by omega)⟩) rfl rfl (fun r3 gQ=>?_)
 simp only [ht] at gQ
 cbv
 refine pI (by simp [ht]) ?_
 iterate 4 refine gI (by simp [ht]) ?_
 refine aJ (fun g4=>⟨by simp [ht] at g4 ⊢;exact g4,trv,Md ht ‹_› ‹_› ‹_› ‹_› (by omega) (by omega) (by omega) (by omega) ‹_› ‹_›⟩) rfl rfl (fun r5 jh=>?_)
 simp only [ht] at jh
 cbv
 refine pI (by simp [ht]) ?_
 iterate 4 refine gI (by simp [ht]) ?_
 refine aJ (fun g6=>⟨by simp [ht] at g6 ⊢;exact g6,trv,Rw ht ‹_› ‹_› (by omega) (by omega) ‹_› ‹_›⟩) rfl rfl (fun r7 gE=>?_)
 simp only [ht] at gE
 cbv
 refine pI (by simp [ht]) ?_
 iterate 4 refine gI (by simp [ht]) ?_
 refine aJ (fun g8=>⟨by simp [ht] at g8 ⊢;exact g8,trv,yQ ht _ _ ‹_› ‹_› (by omega) (by omega)⟩) rfl rfl (fun r9 dz=>?_)
 simp only [ht] at dz
 cbv
 refine pI (by simp [ht]) ?_
 iterate 4 refine gI (by simp [ht]) ?_
 refine aJ (fun g10=>⟨by simp [ht] at g10 ⊢;exact g10,trv,yQ ht _ _ ‹_› ‹_› (by omega) (by omega)⟩) rfl rfl (fun Xf pK=>?_)
 simp only [ht] at pK
 cbv
 refine pI (by simp [ht]) ?_
 refine ak trv trv rfl rfl rfl ?_
 (simp [yB, *];done)
end Dem
end
section
open Go Go.Proofs Go.ChangeShapes Go.WideShapes Go.RowKit
namespace Dem
section
variable {H:Type} {enc:TypeId×Value→H} {W:World} {v:Value} {d:DataW H} {p:List MemPlace} {base:Nat}
structure Byt where
 n:Nat
instance:Inhabited Byt:=⟨⟨0⟩⟩
end
end Dem
end
section
open Go Dem Go.Proofs
namespace Dem
variable {t:Th}
theorem abt {s:cJ} (h:s.sm):∀x∈s.aL,x.x.fZ.u'∧x.x.path.length<1000000000000:=fun x hx=>⟨(h.aL.2 x hx).1.2.1,(h.aL.2 x hx).1.1⟩
theorem UZ {s u:cJ} (h:s.sm) (g:u.sm):s.bC.nodes.length<1000000∧s.bC.places.length<1000000∧s.tree.length<100000∧s.aL.length<1000000∧s.queue.length<1000000∧u.ev.l.length<1000000∧s.au.l.length<1000000:=
 ⟨h.nodes.1,h.places,h.tree.1,h.aL.1,h.queue,g.notes.1,h.notes.2⟩
theorem WL {s:cJ} (h:s.sm):s.bC.nodes.length<1000000∧s.bC.places.length<1000000∧s.tree.length<100000∧s.aL.length<1000000∧s.queue.length<1000000∧s.ev.l.length<1000000∧s.au.l.length<1000000:=UZ h h
theorem Oj {s:cJ} (h:s.sm):∀x∈s.bC.nodes,x.labels.length<1000000000:=fun x hx=>(h.nodes.2 x hx).2.1
theorem TY {s:cJ} (h:s.sm):∀x∈s.aL,x.x.sm:=fun x hx=>(h.aL.2 x hx).1
theorem BU (s:cJ):yB s s=true:=by simp [yB]
end Dem
end
