/- Parts of a proof, joined. -/
import Derived.Test.YtihohjnkkalgiaaGreatDoorM18
set_option linter.all false
set_option maxRecDepth 100000
set_option maxHeartbeats 4000000
section
open Go Dem Go.Proofs
namespace Dem
variable {t:Th}
def dM (t:Th) (s:bE):AV:=.agg [aA s.round,aA s.next,SL (t _ fun _=>s.bg.nodes.map Node.cells),SL (t _ fun _=>s.bg.places.map Place.cells),SL (t _ fun _=>s.tree.map be.cells),SL (t _ fun _=>s.ay.map Jb.cells),SL (t _ fun _=>s.queue.map bZ.cells),aA s.ev.first,SL (t _ fun _=>s.ev.l.map dQ.cells),aA s.au.first,SL (t _ fun _=>s.au.l.map dQ.cells)]
def ng (t:Th) (r:bE×Int):AV:=.eE [dM t r.1,bI r.2]
def Q7 (t:Th) (r:bE×Int×Int):AV:=.eE [dM t r.1,aA r.2.1,bI r.2.2]
theorem oq (ht:TT t) (rd nx ef af id kd:Int) {nl:List Node} {pl:List Place} {tl:List be} {jl:List Jb} {ql:List bZ} {el al:List dQ} {ns ps ts js qs es bV:List (List D)}
 (eV:ns=nl.map Node.cells) (hps:ps=pl.map Place.cells) (hts:ts=tl.map be.cells) (ek:js=jl.map Jb.cells) (dV:qs=ql.map bZ.cells) (aB:es=el.map dQ.cells) (has:bV=al.map dQ.cells) (hel:el.length<1000000):
 FC 65 [.agg [aA rd,aA nx,SL ns,SL ps,SL ts,SL js,SL qs,aA ef,SL es,aA af,SL bV],aA id,bI kd] [] (.ret (dM t (t _ fun _=>iH ⟨rd,nx,⟨nl,pl⟩,tl,jl,ql,⟨ef,el⟩,⟨af,al⟩⟩ id kd))) []:=by
 obtain ⟨⟨f9,l9⟩,h9⟩:∃r,r=tell ⟨ef,el⟩ ⟨rd,id,kd⟩:=⟨_,rfl⟩
 refine bH ht (aF:=[]) Tryz.func65 rfl rfl (N:=17) rfl rfl (n:=0) rfl rfl ?_
 cbv
 have aX:ns.length=nl.length:=by rw [eV,lgM]
 have aZ:ps.length=pl.length:=by rw [hps,lgM]
 have bc:ts.length=tl.length:=by rw [hts,lgM]
 have aQ:js.length=jl.length:=by rw [ek,lgM]
 have aI:qs.length=ql.length:=by rw [dV,lgM]
 have ap:es.length=el.length:=by rw [aB,lgM]
 have aG:bV.length=al.length:=by rw [has,lgM]
 refine aE trv (TB ht _ _ _ _ ‹_› ‹_›) trv rfl rfl rfl (fun r0 cN=>?_)
 simp only [ht] at cN
 rw [←h9] at cN
 subst r0
 cbv
 refine av trv trv rfl rfl rfl ?_
 (simp only [ht,iH];grind)
theorem Mg (ht:TT t):FC 38 [] [] (.ret (dM t (t _ fun _=>M9))) []:=by
 refine bH ht (aF:=[]) Tryz.func38 rfl rfl (N:=4) rfl rfl (n:=0) rfl rfl ?_
 cbv
 refine aE trv (TG ht _ _ _ _) trv rfl rfl rfl (fun r0 cN=>?_)
 simp only [ht] at cN
 cbv
 refine av trv trv rfl rfl rfl ?_
 (simp [M9,bE.zero,bK.zero, *];done)
theorem uk (ht:TT t) {es:List (List D)} (aB:∀r∈es,r.length=12) (hs:es.length*120≤140737488355328) {m:Nat} (hm:m=es.length):
 FC 45 [SL es] [] (.ret (.ow 0 12 m)) [.row 12 es]:=by
 refine bH ht (aF:=[]) Tryz.func45 rfl rfl (N:=8) rfl rfl (n:=0) rfl rfl ?_
 cbv
 refine ⟨fun b hb=>?_⟩
 simp only [ht] at hb
 cbv
 refine an (fun h=>?_) (fun h=>?_)
 ·have he:=hb h
  subst he
  cbv
  exact GO trv rfl rfl (by rw [hm];rfl) rfl
 clear hb h
 cbv
 refine ⟨?_,?_⟩
 ·simp only [ht];simp;exact ⟨hs,aB⟩
 refine Cp trv rfl rfl rfl rfl ?_ ?_
 ·simp only [ht];rw [hm];simp
 simp only [ht];rfl
theorem rC (ht:TT t) {l:List Jb} {es:List (List D)} (aB:es=l.map Jb.cells) (hs:l.length<1000000):
 FC 45 [SL es] [] (.ret (.ow 0 12 (t _ fun _=>(l.map Jb.cells).length))) [.row 12 (t _ fun _=>l.map Jb.cells)]:=by
 simp only [ht];subst aB
 refine uk ht ?_ ?_ (by simp)
 ·intro r hr;obtain ⟨y,_,rfl⟩:=List.mem_map.1 hr;rfl
 simp;omega
theorem NO:∀c<8,∀i<4,(fc (c*32) i).nodes.length≤4:=by decide+kernel
theorem Bt {N i:Nat} (hN:N<256) (hi:i<4):(fc N i).nodes.length<1000000000:=by
 rw [Hq]
 have:=NO (N / 32) (by omega) i hi
 omega
theorem Kq:∀k,∀p∈Bc k,p.sm:=by
 intro k p hp
 unfold Bc at hp
 split at hp
 ·rw [List.mem_singleton.1 hp]
  rename_i h
  have:k=0∨k=1:=by omega
  rcases this with rfl|rfl<;>exact ⟨by decide,by decide⟩
 cases hp
theorem Q8:∀k<3,∀N<256,(((N:Nat):Int).fdiv (2^min (IntKind.i64.wrap (5+((k:Nat):Int))).toNat IntKind.u8.bits)).tmod 2=0↔Tm N k=true:=by decide+kernel
theorem wU {a z:Int} {N k:Nat} (hN:N<256) (ea:a=N) (h:(a.fdiv (2^min (IntKind.i64.wrap z).toNat IntKind.u8.bits)).tmod 2=0) (hk:k<3) (hz:z=5+((k:Nat):Int)):Tm N k=true:=by
 subst ea hz;exact (Q8 k hk N hN).1 h
theorem Dw {a z:Int} {N k:Nat} (hN:N<256) (ea:a=N) (h:¬(a.fdiv (2^min (IntKind.i64.wrap z).toNat IntKind.u8.bits)).tmod 2=0) (hk:k<3) (hz:z=5+((k:Nat):Int)):¬Tm N k=true:=by
 subst ea hz;exact fun g=>h ((Q8 k hk N hN).2 g)
theorem ot {N k:Nat} {nm:aH} {w:Int} {r:cB×Int} (h:r=qW ⟨(fc N k).nodes,(fc N k).places⟩ ⟨nm,⟨w,9,9,9⟩,Bc k,false⟩) (hnm:nm=gv.getD k []) (hw:w=((4+2*k:Nat):Int)) (hu:Tm N k=true):fc N (k+1)=r.1:=by
 subst hw hnm h;rw [fc,if_pos hu]
theorem sF {N k:Nat} (hu:¬Tm N k=true):fc N (k+1)=fc N k:=by rw [fc,if_neg hu]
theorem Bu:∀k<3,∀m<5,IntKind.u64.wrap (IntKind.i64.wrap (IntKind.i64.wrap (6+IntKind.i64.wrap (4*((k:Nat):Int)))+IntKind.i64.wrap ((m:Nat):Int)))=((6+4*k+m:Nat):Int):=by decide+kernel
theorem wV {m k:Nat} {p:aH} {w:Int} {r:List be×Int} (h:r=vv (ry m k) p ⟨w,20,20,20⟩) (hp:p=U0.getD k []) (hw:w=((6+4*k+m:Nat):Int)):r.1=ry m (k+1):=by subst hw hp h;rfl
theorem HP (ht:TT t) {l m:List aH} {es fs:List (List D)} (aB:es=l.map bu) (U5:fs=m.map bu) (hl:l.length<1000000000) (hm:m.length<1000000000):
 FC 22 [SL es,SL fs] [] (.ret (bX (t _ fun _=>decide (l=m)))) []:=by
 refine bH ht (aF:=[]) Tryz.func22 rfl rfl (N:=26) rfl rfl (n:=0) rfl rfl ?_
 cbv
 have ap:es.length=l.length:=by rw [aB,lgM]
 have gw:fs.length=m.length:=by rw [U5,lgM]
 refine an (fun h0=>?_) (fun h0=>?_)
 ·simp [ht,aa,ap,gw] at h0
  cbv
  refine av trv trv rfl rfl rfl ?_
  (simp [ht];rintro rfl;simp_all;done)
 simp [ht,aa,ap,gw] at h0
 cbv
 obtain ⟨J1,m8⟩:∃J1:Nat→Int→Prop,∀n i,J1 n i↔(∃k:Nat,i=k∧k+n=l.length∧l.length=m.length∧decide (l=m)=decide (l.drop k=m.drop k)):=⟨fun n v=>match v with|i=>(∃k:Nat,i=k∧k+n=l.length∧l.length=m.length∧decide (l=m)=decide (l.drop k=m.drop k)),fun _ _=>Iff.rfl⟩
 refine bF ⟨[0,1,5],[],[]⟩ (σ:=Int) (fun v=>[(5,.d (.int .i64 (t _ fun _=>v)))]) (fun v=>[]) J1 ?_
 cbv
 refine aD ⟨l.length,_,(m8 _ _).2 ?_,by simp only [ht];rfl,?_⟩
 ·exact ⟨0,rfl,by simp,by ((try simp only [aa] at*);omega),by simp⟩
 rintro n i hj
 replace hj:=(m8 _ _).1 hj
 obtain ⟨k,rfl,j1,j2,j4⟩:=hj
 cbv
 refine an (fun h2=>?_) (fun h2=>?_)
 ·simp [ht,aa,ap,gw] at h2
  cbv
  refine cO [false,false,false,false,false,false,false,false,true] (by kernel_rfl) (by kernel_rfl) ?_
  cbv
  iterate 2 refine gI (by simp [ht,ah]) ?_
  refine fP ht aB (cT:=eA t) (by (simp only [ht,aa];omega)) (by (simp only [ht,aa];omega)) (fun _=>rfl) (fun _=>rfl) (fun x3 IW=>?_)
  simp [ht,aa] at IW
  rw [dU IW] at j4
  cbv
  iterate 3 refine gI (by simp [ht,ah]) ?_
  refine fP ht U5 (cT:=eA t) (by (simp only [ht,aa];omega)) (by (simp only [ht,aa];omega)) (fun _=>rfl) (fun _=>rfl) (fun x4 Dx=>?_)
  simp [ht,aa] at Dx
  rw [dU Dx] at j4
  cbv
  refine gI (by simp [ht,ah]) ?_
  refine an (fun h5=>?_) (fun h5=>?_)
  ·simp [ht,aa,ap,gw] at h5
   cbv
   refine av trv trv rfl rfl rfl ?_
   (simp [ht];rintro rfl;simp_all;done)
  simp [ht,aa,ap,gw] at h5
  cbv
  refine bQ _ (by simp only [ht];rfl) (n-1) ?_ ((m8 _ _).2 ?_)
  ·omega
  simp only [ht,aa]
  refine ⟨k+1,aC (by omega),by omega,by omega,?_⟩
  (simp [ht,bX, *];done)
 simp [ht,aa,ap,gw] at h2
 cbv
 refine av trv trv rfl rfl rfl ?_
 (simp [ht,j4,List.drop_eq_nil_of_le (show l.length≤k by omega),List.drop_eq_nil_of_le (show m.length≤k by omega)];done)
theorem zA (ht:TT t) (k a b c d:Int) (x:gR) (hx:x.u) (hk:k=x.kind) (ha:a=x.a) (hb:b=x.b) (hc:c=x.c) (hd:d=x.d):
 FC 94 [.agg [U8 k,U8 a,U8 b,U8 c,U8 d]] [] (.ret (aaJ t (t _ fun _=>Cu x))) []:=by
 obtain ⟨u1,u2,u3,u4,u5⟩:=hx
 obtain ⟨nm,hnm⟩:∃nm,nm=Bb.getD (x.a%4) []:=⟨_,rfl⟩
 have w1:IntKind.u64.wrap (b.tmod 5)=((x.b%5:Nat):Int):=by rw [hb,Xf,Ty _ (by omega)]
 have w2:IntKind.u64.wrap ((IntKind.u8.wrap (b.tdiv 5)).tmod 5)=((x.b / 5%5:Nat):Int):=by rw [hb,td5,wu8 _ (by omega),Xf,Ty _ (by omega)]
 have w3:IntKind.u64.wrap ((IntKind.u8.wrap (b.tdiv 25)).tmod 3)=((x.b / 25%3:Nat):Int):=by rw [hb,aaH,wu8 _ (by omega),tm3,Ty _ (by omega)]
 have w4:IntKind.i64.wrap (1+IntKind.i64.wrap (c.tmod 3))=((1+x.c%3:Nat):Int):=by rw [hc,tm3,QG _ (by omega),show (1:Int)+((x.c%3:Nat):Int)=((1+x.c%3:Nat):Int) by omega,QG _ (by omega)]
 have w5:IntKind.i64.wrap ((IntKind.u8.wrap (c.tdiv 3)).tmod 4)=((x.c / 3%4:Nat):Int):=by rw [hc,td3,wu8 _ (by omega),tm4,QG _ (by omega)]
 have w6:IntKind.i64.wrap (1+IntKind.i64.wrap (d.tmod 5))=((1+x.d%5:Nat):Int):=by rw [hd,Xf,QG _ (by omega),show (1:Int)+((x.d%5:Nat):Int)=((1+x.d%5:Nat):Int) by omega,QG _ (by omega)]
 have w7:decide (d.tmod 2=1)=decide (x.d%2=1):=by rw [decide_eq_decide,hd,tm2];omega
 refine bH ht (aF:=[]) Tryz.func94 rfl rfl (N:=53) rfl rfl (n:=0) rfl rfl ?_
 cbv
 refine cO [false,false,false,false,false,false,false,false,false,false,false,false,false,false,false,false,false,false,false,false,false,false,false,false,false,false,false,false,false,false,false,false,false,false,false,false,false,false,true] (by kernel_rfl) (by kernel_rfl) ?_
 cbv
 iterate 4 refine gI (by simp [ht,ah]) ?_
 (refine ic [.str nm] (by simp only [ht,ha,tm4];exact QH x.a) (by simp only [ht,ha,tm4];rw [hnm];exact QI x.a) ?_)
 cbv
 iterate 32 refine gI (by simp [ht,ah]) ?_
 refine an (fun h0=>?_) (fun h0=>?_)
 ·simp [ht,aa] at h0
  cbv
  refine ⟨?_,?_⟩
  ·(simp only [ht,aa] at*;omega)
  cbv
  refine av trv trv rfl rfl rfl ?_
  (simp only [ht,w1,w2,w3,w4,w5,w6,w7,hnm,Cu];rw [if_pos (show 200<x.d by ((try simp only [aa] at*);omega))];rfl)
 simp [ht,aa] at h0
 cbv
 refine av trv trv rfl rfl rfl ?_
 (simp only [ht,w1,w2,w3,w4,w5,w6,hnm,Cu];rw [if_neg (show ¬200<x.d by ((try simp only [aa] at*);omega))];rfl)
theorem Bv (ht:TT t) (N:Nat) (hN:N<256) {a:Int} (ea:a=N):FC 41 [.d (.int .u8 a)] [] (.ret (dM t (t _ fun _=>jK N))) []:=by
 have hm:N%5<5:=Nat.mod_lt _ (by decide)
 have hl0:=Qw (N%5) hm
 refine bH ht (aF:=[]) Tryz.func41 rfl rfl (N:=81) rfl rfl (n:=0) rfl rfl ?_
 cbv
 refine aE trv (Mg ht) trv rfl rfl rfl (fun r0 cN=>?_)
 simp only [ht] at cN
 cbv
 ((refine aE trv (zy ht _ _ _ _ _ (l:=[⟨[],bK.zero,bK.zero⟩]) (by simp only [ht,cN];rfl) (by decide) (by decide) (by decide)) (by simp [ht]) rfl rfl rfl (fun r1 dL=>?_)))
 cbv
 obtain ⟨J1,m8⟩:∃J1:Nat→Int×List (List D)→Prop,∀m i tr,J1 m (i,tr)↔((i=0∧m=3∧tr=(ry (N%5) 0).map be.cells)∨(i=1∧m=2∧tr=(ry (N%5) 1).map be.cells)∨(i=2∧m=1∧tr=(ry (N%5) 2).map be.cells)∨(i=3∧m=0∧tr=(ry (N%5) 3).map be.cells)):=⟨fun m v=>match v with|(i,tr)=>((i=0∧m=3∧tr=(ry (N%5) 0).map be.cells)∨(i=1∧m=2∧tr=(ry (N%5) 1).map be.cells)∨(i=2∧m=1∧tr=(ry (N%5) 2).map be.cells)∨(i=3∧m=0∧tr=(ry (N%5) 3).map be.cells)),fun _ _ _=>Iff.rfl⟩
 refine bF ⟨[0,2,3,18,19,20],[],[]⟩ (σ:=Int×List (List D)) (fun v=>[(20,.d (.int .i64 (t _ fun _=>v.1)))]) (fun v=>[(1,.var [AV.d (D.int IntKind.u64 r0.1),AV.d (D.int IntKind.u64 r0.2),AV.d (D.sl (t (List (List D)) fun x=>List.map (fun x=>[D.str (Node.name x),D.int IntKind.u64 (bK.a (Node.cap x)),D.int IntKind.u64 (bK.b (Node.cap x)),D.int IntKind.u64 (bK.c (Node.cap x)),D.int IntKind.u64 (bK.d (Node.cap x)),D.sl (List.map (fun p=>[D.str (dg.key p),D.str (dg.value p)]) (Node.labels x)),D.bool (Node.up x)]) (cB.nodes (bE.bg r0)))),AV.d (D.sl (t (List (List D)) fun x=>List.map (fun x=>[D.int IntKind.u64 (Place.bA x),D.str (Place.node x),D.int IntKind.u64 (bK.a (Place.v x)),D.int IntKind.u64 (bK.b (Place.v x)),D.int IntKind.u64 (bK.c (Place.v x)),D.int IntKind.u64 (bK.d (Place.v x))]) (cB.places (bE.bg r0)))),.d (.sl (t _ fun _=>v.2)),AV.d (D.sl (t (List (List D)) fun x=>List.map Jb.cells (bE.ay r0))),AV.d (D.sl (t (List (List D)) fun x=>List.map bZ.cells (bE.queue r0))),AV.d (D.int IntKind.u64 r0.7.1),AV.d (D.sl (t (List (List D)) fun x=>List.map dQ.cells (Ct.l (bE.ev r0)))),AV.d (D.int IntKind.u64 r0.8.1),AV.d (D.sl (t (List (List D)) fun x=>List.map dQ.cells (Ct.l (bE.au r0))))])]) J1 ?_
 cbv
 refine aD ⟨3,(_,_),(m8 _ _ _).2 ?_,by simp only [ht];rfl,?_⟩
 ·exact .inl ⟨rfl,rfl,by simp only [ht,dL];rfl⟩
 rintro m ⟨i,tr⟩ hj
 replace hj:=(m8 _ _ _).1 hj
 (rcases hj with ⟨rfl,jm,jt⟩|⟨rfl,jm,jt⟩|⟨rfl,jm,jt⟩|⟨rfl,jm,jt⟩)
 ·cbv
  refine an (fun h2=>?_) (fun h2=>?_)
  ·simp [ht,aa] at h2
   cbv
   ((refine ic [.str [97]] (by simp only [ht];decide) (by simp only [ht];rfl) ?_))
   cbv
   refine ⟨?_,?_⟩
   ·(simp only [ht];decide)
   cbv
   ((refine aE trv (zy ht _ _ _ _ _ (l:=ry (N%5) 0) (by simp only [ht];exact jt) (by have:=hl0 0 (by decide);((try simp only [aa] at*);omega)) (by decide) (by decide)) (by simp [ht]) rfl rfl rfl (fun r2 fQ=>?_)))
   cbv
   refine bQ (_,_) (by simp only [ht];rfl) (m-1) ?_ ((m8 _ _ _).2 ?_)
   ·omega
   exact .inr (.inl ⟨by rw [lC (by decide) (by decide)];rfl,by omega,congrArg _ (wV (k:=0) (fQ.trans (ht _ _)) rfl (by simp only [ht,ea,Xf];exact Bu 0 (by decide) _ hm))⟩)
  simp [ht,aa] at h2
 ·cbv
  refine an (fun h3=>?_) (fun h3=>?_)
  ·simp [ht,aa] at h3
   cbv
   ((refine ic [.str [97,47,98]] (by simp only [ht];decide) (by simp only [ht];rfl) ?_))
   cbv
   refine ⟨?_,?_⟩
   ·(simp only [ht];decide)
   cbv
   ((refine aE trv (zy ht _ _ _ _ _ (l:=ry (N%5) 1) (by simp only [ht];exact jt) (by have:=hl0 1 (by decide);((try simp only [aa] at*);omega)) (by decide) (by decide)) (by simp [ht]) rfl rfl rfl (fun r2 fQ=>?_)))
   cbv
   refine bQ (_,_) (by simp only [ht];rfl) (m-1) ?_ ((m8 _ _ _).2 ?_)
   ·omega
   exact .inr (.inr (.inl ⟨by rw [lC (by decide) (by decide)];rfl,by omega,congrArg _ (wV (k:=1) (fQ.trans (ht _ _)) rfl (by simp only [ht,ea,Xf];exact Bu 1 (by decide) _ hm))⟩))
  simp [ht,aa] at h3
 ·cbv
  refine an (fun h4=>?_) (fun h4=>?_)
  ·simp [ht,aa] at h4
   cbv
   ((refine ic [.str [98]] (by simp only [ht];decide) (by simp only [ht];rfl) ?_))
   cbv
   refine ⟨?_,?_⟩
   ·(simp only [ht];decide)
   cbv
   ((refine aE trv (zy ht _ _ _ _ _ (l:=ry (N%5) 2) (by simp only [ht];exact jt) (by have:=hl0 2 (by decide);((try simp only [aa] at*);omega)) (by decide) (by decide)) (by simp [ht]) rfl rfl rfl (fun r2 fQ=>?_)))
   cbv
   refine bQ (_,_) (by simp only [ht];rfl) (m-1) ?_ ((m8 _ _ _).2 ?_)
   ·omega
   exact .inr (.inr (.inr ⟨by rw [lC (by decide) (by decide)];rfl,by omega,congrArg _ (wV (k:=2) (fQ.trans (ht _ _)) rfl (by simp only [ht,ea,Xf];exact Bu 2 (by decide) _ hm))⟩))
  simp [ht,aa] at h4
 cbv
 refine an (fun h5=>?_) (fun h5=>?_)
 ·simp [ht,aa] at h5
 simp [ht,aa] at h5
 cbv
 obtain ⟨J6,OJ⟩:∃J6:Nat→Int×List (List D)×List (List D)→Prop,∀m i x y,J6 m (i,x,y)↔((i=0∧m=3∧x=(fc N 0).nodes.map Node.cells∧y=(fc N 0).places.map Place.cells)∨(i=1∧m=2∧x=(fc N 1).nodes.map Node.cells∧y=(fc N 1).places.map Place.cells)∨(i=2∧m=1∧x=(fc N 2).nodes.map Node.cells∧y=(fc N 2).places.map Place.cells)∨(i=3∧m=0∧x=(fc N 3).nodes.map Node.cells∧y=(fc N 3).places.map Place.cells)):=⟨fun m v=>match v with|(i,x,y)=>((i=0∧m=3∧x=(fc N 0).nodes.map Node.cells∧y=(fc N 0).places.map Place.cells)∨(i=1∧m=2∧x=(fc N 1).nodes.map Node.cells∧y=(fc N 1).places.map Place.cells)∨(i=2∧m=1∧x=(fc N 2).nodes.map Node.cells∧y=(fc N 2).places.map Place.cells)∨(i=3∧m=0∧x=(fc N 3).nodes.map Node.cells∧y=(fc N 3).places.map Place.cells)),fun _ _ _ _=>Iff.rfl⟩
 refine bF ⟨[0,2,3,43,44,45],[],[]⟩ (σ:=Int×List (List D)×List (List D)) (fun v=>[(45,.d (.int .i64 (t _ fun _=>v.1)))]) (fun v=>[(1,.var [AV.d (D.int IntKind.u64 r0.1),AV.d (D.int IntKind.u64 r0.2),.d (.sl (t _ fun _=>v.2.1)),.d (.sl (t _ fun _=>v.2.2)),AV.d (D.sl (t (List (List D)) fun x=>Prod.snd (3,tr))),AV.d (D.sl (t (List (List D)) fun x=>List.map Jb.cells (bE.ay r0))),AV.d (D.sl (t (List (List D)) fun x=>List.map bZ.cells (bE.queue r0))),AV.d (D.int IntKind.u64 r0.7.1),AV.d (D.sl (t (List (List D)) fun x=>List.map dQ.cells (Ct.l (bE.ev r0)))),AV.d (D.int IntKind.u64 r0.8.1),AV.d (D.sl (t (List (List D)) fun x=>List.map dQ.cells (Ct.l (bE.au r0))))])]) J6 ?_
 cbv
 refine aD ⟨3,(_,_,_),(OJ _ _ _ _).2 ?_,by simp only [ht];rfl,?_⟩
 ·exact .inl ⟨rfl,rfl,by rw [cN];rfl,by rw [cN];rfl⟩
 rintro m ⟨i,x,y⟩ hj
 replace hj:=(OJ _ _ _ _).1 hj
 (rcases hj with ⟨rfl,jm,jx,jy⟩|⟨rfl,jm,jx,jy⟩|⟨rfl,jm,jx,jy⟩|⟨rfl,jm,jx,jy⟩)
 ·cbv
  refine an (fun h7=>?_) (fun h7=>?_)
  ·simp [ht,aa] at h7
   cbv
   ((refine ic [.str [110,49]] (by simp only [ht];decide) (by simp only [ht];rfl) ?_))
   cbv
   refine ⟨?_,?_⟩
   ·(simp only [ht];decide)
   refine ⟨?_,?_⟩
   ·(simp only [ht];decide)
   cbv
   refine an (fun h8=>?_) (fun h8=>?_)
   ·simp [ht,aa] at h8
    cbv
    refine an (fun h9=>?_) (fun h9=>?_)
    ·simp [ht,aa] at h9
     cbv
     ((refine ic [.str [97]] (by simp only [ht];decide) (by simp only [ht];rfl) ?_))
     cbv
     ((refine aE trv (Kg ht (l:=(fc N 0).nodes) (ps:=(fc N 0).places) (by simp only [ht];exact jx) (by simp only [ht];exact jy) _ _ _ _ _ (lb:=Bc 0) rfl false (Bt hN (by decide)) (by decide) (by decide) (Kq _)) (by simp [ht]) rfl rfl rfl (fun r4 iA=>?_)))
     cbv
     refine bQ (_,_,_) (by simp only [ht];rfl) (m-1) ?_ ((OJ _ _ _ _).2 ?_)
     ·omega
     (refine .inr (.inl ⟨(by rw [lC (by decide) (by decide)];rfl),by omega,?_,?_⟩);((exact congrArg (fun p:cB=>List.map Node.cells p.nodes) (ot (k:=0) (iA.trans (ht _ _)) rfl (by simp only [ht];decide) (wU hN ea ‹_› (by decide) (by decide))).symm));((exact congrArg (fun p:cB=>List.map Place.cells p.places) (ot (k:=0) (iA.trans (ht _ _)) rfl (by simp only [ht];decide) (wU hN ea ‹_› (by decide) (by decide))).symm)))
    simp [ht,aa] at h9
   simp [ht,aa] at h8
   cbv
   refine bQ (_,_,_) (by simp only [ht];rfl) (m-1) ?_ ((OJ _ _ _ _).2 ?_)
   ·omega
   (refine .inr (.inl ⟨(by rw [lC (by decide) (by decide)];rfl),by omega,?_,?_⟩);((exact jx.trans (congrArg (fun p:cB=>List.map Node.cells p.nodes) (sF (N:=N) (k:=0) (Dw hN ea ‹_› (by decide) (by decide))).symm)));((exact jy.trans (congrArg (fun p:cB=>List.map Place.cells p.places) (sF (N:=N) (k:=0) (Dw hN ea ‹_› (by decide) (by decide))).symm))))
  simp [ht,aa] at h7
 ·cbv
  refine an (fun h10=>?_) (fun h10=>?_)
  ·simp [ht,aa] at h10
   cbv
   ((refine ic [.str [110,50]] (by simp only [ht];decide) (by simp only [ht];rfl) ?_))
   cbv
   refine ⟨?_,?_⟩
   ·(simp only [ht];decide)
   refine ⟨?_,?_⟩
   ·(simp only [ht];decide)
   cbv
   refine an (fun h11=>?_) (fun h11=>?_)
   ·simp [ht,aa] at h11
    cbv
    refine an (fun h12=>?_) (fun h12=>?_)
    ·simp [ht,aa] at h12
     cbv
     ((refine ic [.str [98]] (by simp only [ht];decide) (by simp only [ht];rfl) ?_))
     cbv
     ((refine aE trv (Kg ht (l:=(fc N 1).nodes) (ps:=(fc N 1).places) (by simp only [ht];exact jx) (by simp only [ht];exact jy) _ _ _ _ _ (lb:=Bc 1) rfl false (Bt hN (by decide)) (by decide) (by decide) (Kq _)) (by simp [ht]) rfl rfl rfl (fun r4 iA=>?_)))
     cbv
     refine bQ (_,_,_) (by simp only [ht];rfl) (m-1) ?_ ((OJ _ _ _ _).2 ?_)
     ·omega
     (refine .inr (.inr (.inl ⟨(by rw [lC (by decide) (by decide)];rfl),by omega,?_,?_⟩));((exact congrArg (fun p:cB=>List.map Node.cells p.nodes) (ot (k:=1) (iA.trans (ht _ _)) rfl (by simp only [ht];decide) (wU hN ea ‹_› (by decide) (by decide))).symm));((exact congrArg (fun p:cB=>List.map Place.cells p.places) (ot (k:=1) (iA.trans (ht _ _)) rfl (by simp only [ht];decide) (wU hN ea ‹_› (by decide) (by decide))).symm)))
    simp [ht,aa] at h12
   simp [ht,aa] at h11
   cbv
   refine bQ (_,_,_) (by simp only [ht];rfl) (m-1) ?_ ((OJ _ _ _ _).2 ?_)
   ·omega
   (refine .inr (.inr (.inl ⟨(by rw [lC (by decide) (by decide)];rfl),by omega,?_,?_⟩));((exact jx.trans (congrArg (fun p:cB=>List.map Node.cells p.nodes) (sF (N:=N) (k:=1) (Dw hN ea ‹_› (by decide) (by decide))).symm)));((exact jy.trans (congrArg (fun p:cB=>List.map Place.cells p.places) (sF (N:=N) (k:=1) (Dw hN ea ‹_› (by decide) (by decide))).symm))))
  simp [ht,aa] at h10
 ·cbv
  refine an (fun IV=>?_) (fun IV=>?_)
  ·simp [ht,aa] at IV
   cbv
   ((refine ic [.str [110,51]] (by simp only [ht];decide) (by simp only [ht];rfl) ?_))
   cbv
   refine ⟨?_,?_⟩
   ·(simp only [ht];decide)
   refine ⟨?_,?_⟩
   ·(simp only [ht];decide)
   cbv
   refine an (fun NG=>?_) (fun NG=>?_)
   ·simp [ht,aa] at NG
    cbv
    refine an (fun h15=>?_) (fun h15=>?_)
    ·simp [ht,aa] at h15
    simp [ht,aa] at h15
    cbv
    ((refine aE trv (Kg ht (l:=(fc N 2).nodes) (ps:=(fc N 2).places) (by simp only [ht];exact jx) (by simp only [ht];exact jy) _ _ _ _ _ (lb:=Bc 2) rfl false (Bt hN (by decide)) (by decide) (by decide) (Kq _)) (by simp [ht]) rfl rfl rfl (fun r4 iA=>?_)))
    cbv
    refine bQ (_,_,_) (by simp only [ht];rfl) (m-1) ?_ ((OJ _ _ _ _).2 ?_)
    ·omega
    (refine .inr (.inr (.inr ⟨(by rw [lC (by decide) (by decide)];rfl),by omega,?_,?_⟩));((exact congrArg (fun p:cB=>List.map Node.cells p.nodes) (ot (k:=2) (iA.trans (ht _ _)) rfl (by simp only [ht];decide) (wU hN ea ‹_› (by decide) (by decide))).symm));((exact congrArg (fun p:cB=>List.map Place.cells p.places) (ot (k:=2) (iA.trans (ht _ _)) rfl (by simp only [ht];decide) (wU hN ea ‹_› (by decide) (by decide))).symm)))
   simp [ht,aa] at NG
   cbv
   refine bQ (_,_,_) (by simp only [ht];rfl) (m-1) ?_ ((OJ _ _ _ _).2 ?_)
   ·omega
   (refine .inr (.inr (.inr ⟨(by rw [lC (by decide) (by decide)];rfl),by omega,?_,?_⟩));((exact jx.trans (congrArg (fun p:cB=>List.map Node.cells p.nodes) (sF (N:=N) (k:=2) (Dw hN ea ‹_› (by decide) (by decide))).symm)));((exact jy.trans (congrArg (fun p:cB=>List.map Place.cells p.places) (sF (N:=N) (k:=2) (Dw hN ea ‹_› (by decide) (by decide))).symm))))
  simp [ht,aa] at IV
 cbv
 refine an (fun Q0=>?_) (fun Q0=>?_)
 ·simp [ht,aa] at Q0
 simp [ht,aa] at Q0
 cbv
 refine av trv trv rfl rfl rfl ?_
 (simp only [ht,cN,jt,jx,jy];rfl)
end Dem
end
section
open Go
namespace Dem
def fL (s:bE) (id:Int):Jb×Bool:=((bG s.ay id).1,(bG s.ay id).2&&!(bG s.ay id).1.runs)
def iI (s:bE) (id:Int) (of:cB) (within:aH→bK→Bool):List aH×Bool:=
 if !(fL s id).2 then ([],false) else
 if !(cU (fL s id).1.x).2||!(fit (eR of) (fL s id).1.x.bY (fL s id).1.x.fK (fL s id).1.x.count).2||!within (fL s id).1.x.path (cU (fL s id).1.x).1 then ([],false) else
 ((fit (eR of) (fL s id).1.x.bY (fL s id).1.x.fK (fL s id).1.x.count).1,true)
def dH (s:bE) (id:Int):List aH×Bool:=iI s id s.bg fun p v=>decide ((cZ s.tree p v).2=0)
def tg (t:List be):List be:=t.map fun e=>{e with used:=bK.zero}
def ul (t:List be) (p:aH) (v:bK):Bool:=decide ((cZ (tg t) p v).2=0)
def jL (s:bE) (id:Int):Bool:=(iI s id ⟨s.bg.nodes,[]⟩ fun p v=>ul s.tree p v).2
def fu (a b:Jb):Bool:=decide (a.x.prio<b.x.prio)||(decide (a.x.prio=b.x.prio)&&decide (b.id≤a.id))
def bM (s:bE) (id:Int):List Int:=
 if !(bG s.ay id).2 then [] else
 ((s.ay.filter fun o=>o.runs&&decide (o.x.prio<(bG s.ay id).1.x.prio)).mergeSort fu).map (·.id)
def aW (s:bE) (l:List Int):bE:=l.foldl (fun s id=>(eZ s id 5).1) s
def fM (s:bE) (id:Int) (l:List Int):List aH×Bool:=dH (aW s l) id
def kV (s:bE) (id:Int) (all:List Int):Nat→Nat→Option (List Int×List aH)
 |0,_=>none
 |n+1,k=>if (fM s id (all.take k)).2 then some (all.take k,(fM s id (all.take k)).1) else kV s id all n (k+1)
def gi (s:bE) (id:Int):Nat→Nat→List Int→List aH→List Int×List aH
 |0,_,l,nodes=>(l,nodes)
 |n+1,k,l,nodes=>if k<l.length then
  (if (fM s id (l.eraseIdx k)).2 then gi s id n k (l.eraseIdx k) (fM s id (l.eraseIdx k)).1 else gi s id n (k+1) l nodes)
  else (l,nodes)
def aP (s:bE) (id:Int):List Int×List aH×Bool:=match kV s id (bM s id) ((bM s id).length+1) 0 with
 |none=>([],[],false)
 |some (l,nodes)=>((gi s id (l.length+1) 0 l nodes).1,(gi s id (l.length+1) 0 l nodes).2,true)
end Dem
end
section
open Go Dem Go.Proofs
namespace Dem
variable {t:Th}
def be.bare (e:be):be:={e with used:=bK.zero}
theorem Q9 (l:List be):tg l=l.map be.bare:=rfl
theorem NP {l:List be} {k:Nat} {x:be} {u:List (List D)} (hx:l[k]?=some x) (hu:u=((l.take k).map be.bare++l.drop k).map be.cells):
 u.set k (bw (u.getD k []) 5 [.int .u64 0,.int .u64 0,.int .u64 0,.int .u64 0])=((l.take (k+1)).map be.bare++l.drop (k+1)).map be.cells:=by
 have hk:k<l.length:=(List.getElem?_eq_some_iff.1 hx).1
 have e1:u.getD k []=be.cells x:=by
  rw [hu,List.getD_eq_getElem?_getD,List.getElem?_map,List.getElem?_append_right (by simp;omega),List.getElem?_drop]
  simp [show min k l.length=k by omega,hx]
 rw [e1,hu,dA hx,dU hx]
 simp only [List.map_append,List.map_cons,List.map_nil,List.append_assoc,List.singleton_append]
 rw [List.set_append_right _ _ (by simp;omega)]
 simp [show min k l.length=k by omega,be.bare,be.cells,bw,bK.zero]
theorem Ra {l:List be} {k:Nat} {u:List (List D)} (hk:k<l.length) (hu:u=((l.take k).map be.bare++l.drop k).map be.cells):k<u.length∧5+4≤(u.getD k []).length:=by
 obtain ⟨x,hx⟩:∃x,l[k]?=some x:=⟨l[k],by simp⟩
 have e1:u.getD k []=be.cells x:=by
  rw [hu,List.getD_eq_getElem?_getD,List.getElem?_map,List.getElem?_append_right (by simp;omega),List.getElem?_drop]
  simp [show min k l.length=k by omega,hx]
 rw [e1]
 exact ⟨by rw [hu];simp;omega,Nat.le_refl _⟩
theorem Rb (ht:TT t) (q:aH) (v1 v2 v3 v4:Int) {l:List be} {es:List (List D)} (aB:es=l.map be.cells) (hl:l.length<100000) (hq:q.length<1000000000000):
 FC 61 [SL es,ST q,V4 v1 v2 v3 v4] [] (.ret (bX (t _ fun _=>ul l q ⟨v1,v2,v3,v4⟩))) []:=by
 obtain ⟨m,hm⟩:∃m,m=l.length:=⟨_,rfl⟩
 have hel:m=es.length:=by rw [aB,lgM,hm]
 have hrows:∀r∈es,r.length=9:=by rw [aB];intro r hr;obtain ⟨y,_,rfl⟩:=List.mem_map.1 hr;rfl
 obtain ⟨R,hR⟩:∃R,R=ul l q ⟨v1,v2,v3,v4⟩:=⟨_,rfl⟩
 rw [←hR]
 refine bH ht (aF:=[]) Tryz.func61 rfl rfl (N:=33) rfl rfl (n:=0) rfl rfl ?_
 cbv
 have ap:es.length=l.length:=by rw [aB,lgM]
 (refine jV trv (Bq ht hrows (by omega) hel) trv rfl (.inr rfl) ?_)
 cbv
 refine ⟨?_,?_⟩
 ·(simp only [ht,aa] at*;omega)
 cbv
 obtain ⟨J0,dR⟩:∃J0:Nat→Int×List (List D)→Prop,∀n i u,J0 n (i,u)↔(∃k:Nat,i=k∧k+n=m∧u=((l.take k).map be.bare++l.drop k).map be.cells):=⟨fun n v=>match v with|(i,u)=>(∃k:Nat,i=k∧k+n=m∧u=((l.take k).map be.bare++l.drop k).map be.cells),fun _ _ _=>Iff.rfl⟩
 refine bF ⟨[1,5,7,14,15],[],[]⟩ (σ:=Int×List (List D)) (fun v=>[(15,.d (.int .i64 (t _ fun _=>v.1)))]) (fun v=>[(1,.row 9 (t _ fun _=>v.2))]) J0 ?_
 cbv
 refine aD ⟨m,(_,_),(dR _ _ _).2 ?_,by simp only [ht];rfl,?_⟩
 ·exact ⟨0,rfl,by simp,by simp [aB]⟩
 rintro n ⟨i,u⟩ hj
 replace hj:=(dR _ _ _).1 hj
 obtain ⟨k,rfl,j1,j4⟩:=hj
 cbv
 refine an (fun h1=>?_) (fun h1=>?_)
 ·simp [ht,aa,ap] at h1
  cbv
  refine ⟨?_,?_⟩
  ·(simp only [ht,aa] at*;omega)
  refine ⟨?_,?_⟩
  ·(simp only [ht,aa,Int.toNat_natCast];exact Ra (by ((try simp only [aa] at*);omega)) j4)
  cbv
  refine bQ (_,_) (by simp only [ht];rfl) (n-1) ?_ ((dR _ _ _).2 ?_)
  ·omega
  simp only [ht,aa]
  (obtain ⟨x,hx⟩:∃x,l[k]?=some x:=⟨l[k]'(by ((try simp only [aa] at*);omega)),by simp⟩;exact ⟨k+1,aC (by ((try simp only [aa] at*);omega)),by ((try simp only [aa] at*);omega),NP hx j4⟩)
 simp [ht,aa,ap] at h1
 cbv
 (have j5:u=(tg l).map be.cells:=(by rw [j4,List.take_of_length_le (by ((try simp only [aa] at*);omega)),List.drop_eq_nil_of_le (by ((try simp only [aa] at*);omega))];simp [Q9]);have h5:(tg l).length=l.length:=(by simp [tg]);refine Qd (E:=Bo t) (r0:=t _ fun _=>cZ (tg l) q ⟨v1,v2,v3,v4⟩) trv rfl (by simp [ht,j5,h5,hm]) (by exact de [] rfl rfl rfl rfl (uj ht q v1 v2 v3 v4 (l:=tg l) (by simp only [ht];exact j5) (by ((try simp only [aa] at*);omega)) hq)) (fun r1 dL=>?_);simp only [ht] at dL)
 cbv
 refine av trv trv rfl rfl rfl ?_
 (simp only [ht,hR,ul,←dL,bX];done)
end Dem
end
section
open Go
namespace Dem
theorem pL {l:List Jb} (ha:sP l) {i:Nat} {j:Jb} (hj:l[i]?=some j):l.findIdx? (fun x=>decide (x.id=j.id))=some i∧l.getD i Jb.zero=j∧bG l j.id=(j,true):=by
 have h1:l.findIdx? (fun x=>decide (x.id=j.id))=some i:=by
  cases h:l.findIdx? (fun x=>decide (x.id=j.id)) with
  |none=>rw [List.findIdx?_eq_none_iff] at h;have:=h j (List.mem_of_getElem? hj);simp at this
  |some k=>
   obtain ⟨y,a,b,_⟩:=mu h
   rw [zw ha a hj b]
 refine ⟨h1,by rw [List.getD_eq_getElem?_getD,hj];rfl,?_⟩
 unfold bG
 cases h:l.find? (fun x=>decide (x.id=j.id)) with
 |none=>rw [List.find?_eq_none] at h;have:=h j (List.mem_of_getElem? hj);simp at this
 |some y=>
  have e:=List.find?_some h
  simp only [decide_eq_true_eq] at e
  simp only
  rw [gJ ha (List.mem_of_find?_eq_some h) (List.mem_of_getElem? hj) e]
abbrev Jb.begun (j:Jb):Jb:={j with runs:=true,left:=j.x.fq}
abbrev Jb.halted (j:Jb):Jb:={j with runs:=false,left:=0}
theorem wW {s:bE} (h:s.ok) {id:Int} {names:List aH} (e:(cM s id names).2=0):
 ∃(i:Nat) (j:Jb) (T:List be),s.ay[i]?=some j∧j.id=id∧j.runs=false∧(names.length:Int)=j.x.count∧cr s.tree T∧
  (cM s id names).1=iH ⟨s.round,s.next,⟨s.bg.nodes,s.bg.places++names.map (fun n=>⟨id,n,j.x.fK⟩)⟩,T,s.ay.set i j.begun,s.queue.filter (fun q=>!decide (q.id=id)),s.ev,s.au⟩ id 2:=by
 unfold cM at e ⊢
 cases hf:s.ay.findIdx? (fun j=>decide (j.id=id)) with
 |none=>rw [hf] at e;cases e
 |some i=>
  obtain ⟨j,hj,hid,c⟩:=mu hf
  rw [hf] at e
  simp only at e ⊢
  rw [c] at e ⊢
  unfold jG at e ⊢
  by_cases h1:j.runs=true
  ·rw [if_pos h1] at e;cases e
  rw [if_neg h1] at e ⊢
  by_cases h2:(names.length:Int)≠j.x.count
  ·rw [if_pos h2] at e;cases e
  rw [if_neg h2] at e ⊢
  by_cases h3:(!(cU j.x).2)=true
  ·rw [if_pos h3] at e;cases e
  rw [if_neg h3] at e ⊢
  by_cases h4:(cZ s.tree j.x.path (cU j.x).1).2≠0
  ·rw [if_pos h4] at e;exact absurd e h4
  rw [if_neg h4] at e ⊢
  simp only [Decidable.not_not] at h2 h4
  rcases A7 s.bg id names j.x.fK with ⟨_,e2⟩|⟨e2,_⟩
  ·rw [if_pos e2] at e;exact absurd e e2
  rw [if_neg (by rw [e2];simp)]
  refine ⟨i,j,_,hj,hid,by simpa using h1,h2,(Dm h h4).2.1,?_⟩
  rw [lE h.og,e2];rfl
theorem Bw {s:bE} (h:s.ok) {i:Nat} {j:Jb} (hj:s.ay[i]?=some j) (hr:j.runs=true) (kind:Int):
 ∃T Q,cr s.tree T∧eZ s j.id kind=(iH ⟨s.round,s.next,rj s.bg j.id,T,s.ay.set i j.halted,Q,s.ev,s.au⟩ j.id kind,0):=by
 obtain ⟨h1,h2,_⟩:=pL h.ids hj
 refine ⟨_,(jW s.queue ⟨j.id,j.x.prio⟩).1,(oh h hj hr).2.2.1,?_⟩
 unfold eZ
 rw [h1]
 simp only
 rw [h2,if_neg (by simp [hr]),h.jJ hj hr]
 simp [Dg]
theorem EV {s:bE} (h:s.ok) {i:Nat} {j:Jb} (hj:s.ay[i]?=some j) (kind:Int):
 (send s j.id kind).2=0∧(j.runs=false→send s j.id kind=(iH ⟨s.round,s.next,s.bg,s.tree,s.ay.eraseIdx i,s.queue.filter (fun q=>!decide (q.id=j.id)),s.ev,s.au⟩ j.id kind,0))∧
 (j.runs=true→∃T,cr s.tree T∧send s j.id kind=(iH ⟨s.round,s.next,rj s.bg j.id,T,s.ay.eraseIdx i,s.queue,s.ev,s.au⟩ j.id kind,0)):=by
 obtain ⟨h1,h2,_⟩:=pL h.ids hj
 unfold send
 rw [h1]
 simp only
 rw [h2]
 refine ⟨trv,fun hr=>?_,fun hr=>?_⟩
 ·rw [hr,if_neg (by simp),lE h.og]
 refine ⟨_,(oh h hj hr).2.2.1,?_⟩
 rw [if_pos hr,h.jJ hj hr]
theorem Kr {s:bE} (h:s.ok) {x:Ask} (e:(cX s x).2.2=0):
 (cX s x).2.1=s.next∧s.next+1<18446744073709551616∧
 (cX s x).1=iH ⟨s.round,s.next+1,s.bg,s.tree,s.ay++[⟨s.next,x,false,0⟩],s.queue.take (vu s.queue ⟨s.next,x.prio⟩)++⟨s.next,x.prio⟩::s.queue.drop (vu s.queue ⟨s.next,x.prio⟩),s.ev,s.au⟩ s.next 1:=by
 unfold cX at e ⊢
 by_cases h1:dZ x≠0
 ·rw [if_pos h1] at e;exact absurd e h1
 rw [if_neg h1] at e ⊢
 by_cases h2:(!gH s.tree x.path)=true
 ·rw [if_pos h2] at e;cases e
 rw [if_neg h2] at e ⊢
 by_cases h3:32≤s.ay.length∨s.next=18446744073709551615
 ·rw [if_pos h3] at e;cases e
 rw [if_neg h3] at e ⊢
 have hnx:=h.next
 rcases ru s.queue ⟨s.next,x.prio⟩ with ⟨_,e2,_⟩|⟨e2,_⟩
 ·rw [if_pos e2] at e;exact absurd e e2
 rw [e2,if_neg (by simp)]
 have hu:u64 (s.next+1)=s.next+1:=by unfold u64;omega
 rw [hu]
 exact ⟨rfl,by omega,rfl⟩
theorem Dy {s:bE} {x:Ask} (e:(cX s x).2.2≠0):(cX s x).1=s∧(cX s x).2.1=0∧(dZ x=0∨(cX s x).2.2=dZ x):=by
 unfold cX at e ⊢
 by_cases h1:dZ x≠0
 ·rw [if_pos h1];exact ⟨rfl,rfl,.inr rfl⟩
 rw [if_neg h1] at e ⊢
 simp only [Decidable.not_not] at h1
 by_cases h2:(!gH s.tree x.path)=true
 ·rw [if_pos h2];exact ⟨rfl,rfl,.inl h1⟩
 rw [if_neg h2] at e ⊢
 by_cases h3:32≤s.ay.length∨s.next=18446744073709551615
 ·rw [if_pos h3];exact ⟨rfl,rfl,.inl h1⟩
 rw [if_neg h3] at e ⊢
 by_cases h4:(jW s.queue ⟨s.next,x.prio⟩).2≠0
 ·rw [if_pos h4];exact ⟨rfl,rfl,.inl h1⟩
 rw [if_neg h4] at e;exact absurd rfl e
structure bE.eH (A:Ask→Prop) (s:bE):Prop where
 names:∀n∈s.bg.nodes,n.sm
 paths:∀e∈s.tree,e.path.length<1000
 xs:∀j∈s.ay,A j.x
structure mA (s t:bE):Prop where
 nodes:t.bg.nodes=s.bg.nodes
 paths:∀e∈t.tree,∃f∈s.tree,e.path=f.path
 xs:∀j∈t.ay,∃k∈s.ay,j.x=k.x
theorem mA.refl (s:bE):mA s s:=⟨rfl,fun e h=>⟨e,h,rfl⟩,fun j h=>⟨j,h,rfl⟩⟩
theorem mA.eH {A:Ask→Prop} {s t:bE} (h:mA s t) (l:s.eH A):t.eH A:=by
 refine ⟨by rw [h.nodes];exact l.names,fun e he=>?_,fun j hj=>?_⟩
 ·obtain ⟨f,hf,e1⟩:=h.paths e he;rw [e1];exact l.paths f hf
 obtain ⟨k,hk,e1⟩:=h.xs j hj;rw [e1];exact l.xs k hk
theorem Rc {l:List Jb} {k:Nat} {j y:Jb} (hk:l[k]?=some y) (hx:j.x=y.x):∀z∈l.set k j,∃w∈l,z.x=w.x:=by
 intro z hz
 rcases List.mem_or_eq_of_mem_set hz with h|rfl
 ·exact ⟨z,h,rfl⟩
 exact ⟨y,List.mem_of_getElem? hk,hx⟩
theorem Bx {t u:List be} (h:cr t u):∀e∈u,∃f∈t,e.path=f.path:=fun e he=>by
 obtain ⟨f,hf,h1,_⟩:=h.back he
 exact ⟨f,hf,h1⟩
theorem Dz {s:bE} {id:Int} {names:List aH} (e:(cM s id names).2≠0):(cM s id names).1=s:=by
 unfold cM at e ⊢
 split
 ·rfl
 rename_i k hk
 rw [hk] at e
 simp only at e
 unfold jG at e ⊢
 by_cases h1:(s.ay.getD k Jb.zero).runs=true
 ·rw [if_pos h1]
 rw [if_neg h1] at e ⊢
 by_cases h2:(names.length:Int)≠(s.ay.getD k Jb.zero).x.count
 ·rw [if_pos h2]
 rw [if_neg h2] at e ⊢
 by_cases h3:(!(cU (s.ay.getD k Jb.zero).x).2)=true
 ·rw [if_pos h3]
 rw [if_neg h3] at e ⊢
 split
 ·rfl
 rename_i h4
 rw [if_neg h4] at e
 split
 ·rfl
 rename_i h5
 rw [if_neg h5] at e
 exact absurd rfl e
theorem rD {s:bE} (h:s.ok) (id:Int) (names:List aH):mA s (cM s id names).1:=by
 by_cases e:(cM s id names).2=0
 ·obtain ⟨i,j,T,h1,h2,h3,h4,h5,h6⟩:=wW h e
  rw [h6]
  exact ⟨rfl,Bx h5,Rc h1 rfl⟩
 rw [Dz e];exact mA.refl s
theorem Kt {s:bE} (h:s.ok) (id kind:Int):mA s (eZ s id kind).1:=by
 cases hf:s.ay.findIdx? (fun j=>decide (j.id=id)) with
 |none=>unfold eZ;rw [hf];exact mA.refl s
 |some i=>
  obtain ⟨j,hj,rfl,c⟩:=mu hf
  by_cases hr:j.runs=true
  ·obtain ⟨T,Q,h1,h2⟩:=Bw h hj hr kind
   rw [h2]
   exact ⟨rfl,Bx h1,Rc hj rfl⟩
  unfold eZ;rw [hf];simp only;rw [c,if_pos (by simpa using hr)];exact mA.refl s
theorem NQ {s:bE} (h:s.ok) (id kind:Int):mA s (send s id kind).1:=by
 cases hf:s.ay.findIdx? (fun j=>decide (j.id=id)) with
 |none=>unfold send;rw [hf];exact mA.refl s
 |some i=>
  obtain ⟨j,hj,rfl,c⟩:=mu hf
  obtain ⟨h1,h2,h3⟩:=EV h hj kind
  have hx:∀z∈s.ay.eraseIdx i,∃w∈s.ay,z.x=w.x:=fun z hz=>⟨z,List.mem_of_mem_eraseIdx hz,rfl⟩
  by_cases hr:j.runs=true
  ·obtain ⟨T,h4,h5⟩:=h3 hr
   rw [h5]
   exact ⟨rfl,Bx h4,hx⟩
  rw [h2 (by simpa using hr)]
  exact ⟨rfl,fun e he=>⟨e,he,rfl⟩,hx⟩
theorem By {A:Ask→Prop} {s:bE} (l:s.eH A) {x:Ask} (hx:A x):(cX s x).1.eH A:=by
 by_cases e:(cX s x).2.2=0
 ·unfold cX at e ⊢
  split
  ·exact l
  split
  ·exact l
  split
  ·exact l
  split
  ·exact l
  refine ⟨l.names,l.paths,fun j hj=>?_⟩
  rcases List.mem_append.1 hj with h|h
  ·exact l.xs j h
  rw [List.mem_singleton.1 h];exact hx
 rw [(Dy e).1];exact l
structure yE (x:Ask):Prop where
 path:x.path.length≤4
 fK:x.fK.w
 bY:x.bY.length≤1
 key:∀m∈x.bY,m.key.length≤4∧m.mI.length≤1∧∀v∈m.mI,v.length≤1
theorem mB (x:gR):yE (Cu x):=by
 refine ⟨?_,Qx x,?_,?_⟩
 ·unfold Cu
  simp only
  have:∀k<4,(Bb.getD k []).length≤4:=by decide
  exact this _ (Nat.mod_lt _ (by decide))
 ·unfold Cu;simp only;split<;>simp
 unfold Cu;simp only;split
 ·intro m hm
  rw [List.mem_singleton.1 hm]
  exact ⟨by show Tg.length≤4;decide,by simp,by simp⟩
 intro m hm;cases hm
theorem Ku {p:cB} (h:∀n∈p.nodes,n.sm) {y:Node} (hy:y.sm):∀n∈(qW p y).1.nodes,n.sm:=by
 rcases tY p y with ⟨e,_⟩|⟨_,_,_,e⟩
 ·rw [e];exact h
 rw [e]
 intro n hn
 rcases List.mem_append.1 hn with h1|h1
 ·exact h n (List.mem_of_mem_take h1)
 rcases List.mem_cons.1 h1 with rfl|h1
 ·exact hy
 exact h n (List.mem_of_mem_drop h1)
theorem HQ (i:Nat):(⟨gv.getD i [],⟨(4+2*i:Nat),9,9,9⟩,Bc i,false⟩:Node).sm:=by
 have h1:∀i,(gv.getD i []).length≤2
  |0=>by decide
  |1=>by decide
  |2=>by decide
  |i+3=>by simp [gv]
 have h2:∀i,(Bc i).length≤1∧∀q∈Bc i,q.sm:=by
  intro i
  unfold Bc
  split
  ·refine ⟨by simp,fun q hq=>?_⟩
   rw [List.mem_singleton.1 hq]
   have h3:∀i,(([[97],[98]]:List aH).getD i []).length≤1
    |0=>by decide
    |1=>by decide
    |i+2=>by simp
   have:=h3 i
   exact ⟨by show Tg.length<_;decide,by simp only;omega⟩
  exact ⟨by simp,fun q hq=>by cases hq⟩
 exact ⟨by have:=h1 i;simp only;omega,by have:=(h2 i).1;simp only;omega,(h2 i).2⟩
theorem um (n:Nat):∀i,∀x∈(fc n i).nodes,x.sm
 |0=>fun x hx=>by cases hx
 |i+1=>by
  unfold fc
  split
  ·exact Ku (um n i) (HQ i)
  exact um n i
theorem yF (A:Ask→Prop) (n:Nat):(jK n).eH A:=by
 refine ⟨um n 3,fun e he=>?_,fun j hj=>by cases hj⟩
 unfold jK at he
 rw [L5 _ (Nat.mod_lt _ (by decide))] at he
 simp only [p9,List.mem_cons,List.not_mem_nil,or_false] at he
 rcases he with rfl|rfl|rfl|rfl<;>simp
theorem TL (id:Int) (x:Place) (l:List Place):sO id (x::l)=(if x.bA=id then 1 else 0)+sO id l:=by
 unfold sO
 rw [List.filter_cons]
 split<;>simp_all<;>omega
theorem Wh {js:List Jb} {f g:Jb→Nat} (h:∀j∈js,f j≤g j):(js.map f).sum≤(js.map g).sum:=by
 induction js with
 |nil=>simp
 |cons a l ih=>
  simp only [List.map_cons,List.sum_cons]
  have:=h a (List.mem_cons_self ..)
  have:=ih fun j hj=>h j (List.mem_cons_of_mem _ hj)
  omega
theorem Rd {js:List Jb} (f g:Jb→Nat):(js.map fun j=>f j+g j).sum=(js.map f).sum+(js.map g).sum:=by
 induction js with
 |nil=>simp
 |cons a l ih=>simp only [List.map_cons,List.sum_cons,ih];omega
theorem TM {js:List Jb} {id:Int} {j:Jb} (hj:j∈js) (e:j.id=id):1≤(js.map fun j=>if id=j.id then 1 else 0).sum:=by
 induction js with
 |nil=>cases hj
 |cons a l ih=>
  simp only [List.map_cons,List.sum_cons]
  rcases List.mem_cons.1 hj with rfl|hj
  ·rw [if_pos e.symm];omega
  have:=ih hj;omega
theorem Bz {js:List Jb}:∀{l:List Place},(∀x∈l,∃j∈js,j.id=x.bA)→l.length≤(js.map fun j=>sO j.id l).sum
 |[],_=>by simp
 |x::l,h=>by
  have ih:=Bz (js:=js) (l:=l) fun y hy=>h y (List.mem_cons_of_mem _ hy)
  obtain ⟨j,hj,e⟩:=h x (List.mem_cons_self ..)
  have h1:=TM hj e
  have:(fun j:Jb=>sO j.id (x::l))=fun j=>(if x.bA=j.id then 1 else 0)+sO j.id l:=by funext j;rw [TL]
  rw [this,Rd]
  simp only [List.length_cons]
  omega
theorem bE.ok.Kv {s:bE} (h:s.ok):s.bg.places.length≤256:=by
 have h1:=Bz (js:=s.ay) (l:=s.bg.places) fun x hx=>by
  obtain ⟨j,hj,_,e,_⟩:=h.places x hx
  exact ⟨j,hj,e⟩
 have h2:∀j∈s.ay,sO j.id s.bg.places≤8:=by
  intro j hj
  cases hr:j.runs with
  |true=>
   have e1:=h.count j hj hr
   have e2:=eb.1 (h.uw j hj).1
   omega
  |false=>
   have e1:=h.L4 hj hr
   have:sO j.id s.bg.places=0:=by
    unfold sO
    rw [List.length_eq_zero_iff,List.filter_eq_nil_iff]
    intro x hx;simpa using e1 x hx
   omega
 have h3:=Wh (f:=fun j=>sO j.id s.bg.places) (g:=fun _=>8) h2
 have h4:(s.ay.map fun _=>8).sum=8*s.ay.length:=by
  generalize s.ay=l
  induction l with
  |nil=>rfl
  |cons a l ih=>simp only [List.map_cons,List.sum_cons,List.length_cons,ih];omega
 have:=h.most
 omega
end Dem
end
section
open Go Dem Go.Proofs
namespace Dem
variable {t:Th}
theorem NR (ht:TT t) (q:aH) {l:List (dg)} {es:List (List D)} (aB:es=l.map dg.cells) (f:Nat) (p:dg→Bool) (hl:l.length<9223372036854775807)
 (hf:∀x∈l,FC f [.agg [ST x.key,ST x.value],.ptr 0 0] [.var [ST q]] (.ret (BL (p x))) [.var [ST q]]) {r:Int} (hr:r=idxOf p l):FC 165 [SL es,.fn f [.ptr 0 0]] [.var [ST q]] (.ret (bI r)) [.var [ST q]]:=by
 have hel:es.length=l.length:=by rw [aB,lgM]
 obtain ⟨J,hJ⟩:∃J:Nat→Nat→Prop,∀n v,J n v↔(v+n=l.length∧∀i<v,∀x,l[i]?=some x→p x=false):=⟨fun n v=>v+n=l.length∧∀i<v,∀x,l[i]?=some x→p x=false,fun _ _=>Iff.rfl⟩
 refine bH ht (aF:=[.var [ST q]]) Tryz.func165 rfl rfl (N:=19) rfl rfl (n:=1) rfl rfl ?_
 cbv
 refine bF ⟨[0,1,7,8],[],[]⟩ (σ:=Nat) (fun k=>[(8,bI (t _ fun _=>(k:Int)))]) (fun _=>[]) J ?_
 cbv
 refine aD ⟨l.length,0,(hJ _ _).2 ⟨by omega,by intro i hi;simp at hi⟩,by simp only [ht];rfl,?_⟩
 rintro n k hj
 obtain ⟨h2,h3⟩:=(hJ _ _).1 hj
 clear hj
 cbv
 refine an (fun h=>?_) (fun h=>?_)
 ·simp only [ht,aa,decide_eq_true_eq] at h
  have hk:k<l.length:=by omega
  obtain ⟨x,hx⟩:∃x,l[k]?=some x:=⟨l[k],by simp⟩
  have mE:x∈l:=List.mem_of_getElem? hx
  have gz:=hf x mE
  obtain ⟨px,hpx⟩:∃b,b=p x:=⟨_,rfl⟩
  rw [←hpx] at gz
  obtain ⟨k',v'⟩:=x
  cbv
  refine ic [.str k',.str v'] ?_ ?_ ?_
  ·simp only [ht,aa];refine ⟨by omega,h,?_⟩;rw [aB];intro r hr;obtain ⟨y,_,rfl⟩:=List.mem_map.1 hr;rfl
  ·simp [ht,aa,aB,hx]
  cbv
  refine dw trv gz ?_
  cbv
  refine an (fun hb=>?_) (fun hb=>?_)
  ·cbv
   refine av trv trv rfl rfl rfl ?_
   have e:=cV hx (hpx▸hb) h3
   simp only [ht,aa,hr,idxOf,e]
  cbv
  refine aD ⟨n-1,k+1,⟨by omega,(hJ _ _).2 ⟨by omega,?_⟩⟩,?_⟩
  ·intro i hi y hy
   by_cases hik:i<k
   ·exact h3 i hik y hy
   have:i=k:=by omega
   subst this;rw [hx] at hy;cases hy;rw [←hpx];exact hb
  simp only [ht,aa,aC (show k<9223372036854775807 by omega)];rfl
 simp only [ht,aa,decide_eq_false_iff_not] at h
 have hk:¬k<l.length:=by omega
 clear h
 cbv
 refine av trv trv rfl rfl rfl ?_
 rw [hr,idxOf,c7]
 intro i y hy
 have:i<l.length:=by
  rcases Nat.lt_or_ge i l.length with h'|h';· exact h'
  simp [List.getElem?_eq_none h'] at hy
 exact h3 i (by omega) y hy
theorem Re (ht:TT t) (q k v:aH):FC 166 [.agg [ST k,ST v],.ptr 0 0] [.var [ST q]] (.ret (BL (decide (k=q)))) [.var [ST q]]:=by
 refine bH ht (aF:=[.var [ST q]]) Tryz.func166 rfl rfl (N:=8) rfl rfl (n:=1) rfl rfl ?_
 cbv
 refine av trv trv rfl rfl rfl ?_
 simp [ht]
def ESB (r:aH×Bool):AV:=.eE [ST r.1,BL r.2]
theorem HR (ht:TT t) (q:aH) {l:List dg} {es:List (List D)} (aB:es=l.map dg.cells) (hl:l.length<1000000000):
 FC 115 [SL es,ST q] [] (.ret (ESB (t _ fun _=>G2 l q))) []:=by
 obtain ⟨r9,gK⟩:∃r,r=idxOf (fun x:dg=>decide (x.key=q)) l:=⟨_,rfl⟩
 refine bH ht (aF:=[]) Tryz.func115 rfl rfl (N:=17) rfl rfl (n:=0) rfl rfl ?_
 cbv
 have ap:es.length=l.length:=by rw [aB,lgM]
 (refine dx [0] trv rfl rfl (NR ht q aB 166 (fun x=>decide (x.key=q)) (by omega) (fun x _=>Re ht q _ _) gK) (cz ?_);have ec:=cF gK;clear gK;rcases ec with ⟨e1,e2,e3⟩|⟨i,x,hi,hil,e1,e2,e3,e4⟩)
 ·cbv
  refine an (fun h0=>?_) (fun h0=>?_)
  ·simp [ht] at h0
   cbv
   refine av trv trv rfl rfl rfl ?_
   (simp [ht,G2,e3];done)
  simp [ht] at h0
  omega
 cbv
 refine an (fun h1=>?_) (fun h1=>?_)
 ·simp [ht] at h1
  (simp only [aa] at*;omega)
 simp [ht] at h1
 cbv
 refine wI ht aB (cT:=dg.aU t) e1 ‹_› (fun _=>rfl) (fun _=>rfl) ?_
 cbv
 refine av trv trv rfl rfl rfl ?_
 (simp [ht,G2,e4];done)
theorem NS (ht:TT t) (a:aH) {l:List aH} {es:List (List D)} (aB:es=l.map bu) (hl:l.length<1000000000):
 FC 293 [SL es,ST a] [] (.ret (gm (t _ fun _=>HG a l))) []:=by
 refine bH ht (aF:=[]) Tryz.func293 rfl rfl (N:=19) rfl rfl (n:=0) rfl rfl ?_
 cbv
 have ap:es.length=l.length:=by rw [aB,lgM]
 obtain ⟨J0,dR⟩:∃J0:Nat→Int→Prop,∀n i,J0 n i↔(∃k:Nat,i=k∧k+n=l.length∧∀i<k,∀y,l[i]?=some y→a≠y):=⟨fun n v=>match v with|i=>(∃k:Nat,i=k∧k+n=l.length∧∀i<k,∀y,l[i]?=some y→a≠y),fun _ _=>Iff.rfl⟩
 refine bF ⟨[0,1,7,8],[],[]⟩ (σ:=Int) (fun v=>[(8,.d (.int .i64 (t _ fun _=>v)))]) (fun v=>[]) J0 ?_
 cbv
 refine aD ⟨l.length,_,(dR _ _).2 ?_,by simp only [ht];rfl,?_⟩
 ·exact ⟨0,rfl,by simp,fun i hi=>by omega⟩
 rintro n i hj
 replace hj:=(dR _ _).1 hj
 obtain ⟨k,rfl,j1,j4⟩:=hj
 cbv
 refine an (fun h1=>?_) (fun h1=>?_)
 ·simp [ht,aa,ap] at h1
  cbv
  refine fP ht aB (cT:=eA t) (by (simp only [ht,aa];omega)) (by (simp only [ht,aa];omega)) (fun _=>rfl) (fun _=>rfl) (fun x2 fZ=>?_)
  simp [ht,aa] at fZ
  cbv
  refine an (fun h3=>?_) (fun h3=>?_)
  ·simp [ht] at h3
   cbv
   refine av trv trv rfl rfl rfl ?_
   (simp only [ht];rw [EL ‹_› ‹_› j4];done)
  simp [ht] at h3
  cbv
  refine bQ _ (by simp only [ht];rfl) (n-1) ?_ ((dR _ _).2 ?_)
  ·omega
  simp only [aa]
  exact ⟨k+1,aC (by omega),by omega,wQ j4 ‹_› ‹_›⟩
 simp [ht,aa,ap] at h1
 cbv
 refine av trv trv rfl rfl rfl ?_
 (simp only [ht];rw [EM (by omega) j4];done)
theorem NT (ht:TT t) (a:aH) {l:List aH} {es:List (List D)} (aB:es=l.map bu) (hl:l.length<1000000000):
 FC 292 [SL es,ST a] [] (.ret (bX (t _ fun _=>l.contains a))) []:=by
 refine bH ht (aF:=[]) Tryz.func292 rfl rfl (N:=9) rfl rfl (n:=0) rfl rfl ?_
 cbv
 have ap:es.length=l.length:=by rw [aB,lgM]
 refine aM trv (NS ht _ ‹_› ‹_›) trv rfl rfl (fun r0 cN=>?_)
 simp only [ht] at cN
 cbv
 refine av trv trv rfl rfl rfl ?_
 (simp [ht,cN,Bl];done)
theorem HS (ht:TT t) (a:aH) {l:List aH} {es:List (List D)} (aB:es=l.map bu) (hl:l.length<1000000000):
 FC 291 [SL es,ST a] [] (.ret (bX (t _ fun _=>l.contains a))) []:=by
 refine bH ht (aF:=[]) Tryz.func291 rfl rfl (N:=8) rfl rfl (n:=0) rfl rfl ?_
 cbv
 have ap:es.length=l.length:=by rw [aB,lgM]
 refine aM trv (NT ht _ ‹_› ‹_›) trv rfl rfl (fun r0 cN=>?_)
 simp only [ht] at cN
 cbv
 refine av trv trv rfl rfl rfl ?_
 (simp [*];done)
theorem HT (ht:TT t) (a:aH):FC 290 [.agg [],ST a] [] (.ret (BL true)) []:=by
 refine bH ht (aF:=[]) Tryz.func290 rfl rfl (N:=5) rfl rfl (n:=0) rfl rfl ?_
 cbv
 refine av trv trv rfl rfl rfl ?_
 simp
theorem TN (ht:TT t) (k:aH) (n:Bool):FC 116 [.agg [ST k,BL n,SL []]] [] (.ret (.sI 227 (.agg []))) []:=by
 refine bH ht (aF:=[]) Tryz.func116 rfl rfl (N:=12) rfl rfl (n:=0) rfl rfl ?_
 cbv
 refine kM (by simp [ht]) ?_
 cbv
 refine av trv trv rfl rfl rfl ?_
 simp
theorem TO (ht:TT t) (k:aH) (n:Bool) {vr:List (List D)} (hv:vr.length≠0):FC 116 [.agg [ST k,BL n,SL vr]] [] (.ret (.sI 228 (SL vr))) []:=by
 refine bH ht (aF:=[]) Tryz.func116 rfl rfl (N:=12) rfl rfl (n:=0) rfl rfl ?_
 cbv
 refine nR (by simp only [ht,aa,decide_eq_false_iff_not];omega) ?_
 cbv
 refine av trv trv rfl rfl rfl ?_
 simp
theorem Kw (ht:TT t) (k:aH) (n:Bool) {vs:List aH} {vr:List (List D)} (HB:vr=vs.map bu) (hv:vs.length<1000000000) {l:List dg} {ls:List (List D)} (hls:ls=l.map dg.cells) (hl:l.length<1000000000) (h0:vr=[]):
 FC 76 [.agg [ST k,BL n,SL vr],SL ls] [] (.ret (bX (t _ fun _=>kT ⟨k,n,vs⟩ l))) []:=by
 have hlen:vr.length=vs.length:=by rw [HB,lgM]
 obtain ⟨H,hH⟩:∃H,H=kT ⟨k,n,vs⟩ l:=⟨_,rfl⟩
 rw [←hH]
 simp only [kT] at hH
 subst h0
 have M0:vs.length=0:=by simpa using hlen.symm
 rw [if_pos (show vs.length=0 from M0)] at hH
 clear HB hlen
 refine bH ht (aF:=[]) Tryz.func76 rfl rfl (N:=24) rfl rfl (n:=0) rfl rfl ?_
 cbv
 have rE:ls.length=l.length:=by rw [hls,lgM]
 refine aM trv (HR ht _ ‹_› ‹_›) trv rfl rfl (fun r0 cN=>?_)
 simp only [ht] at cN
 cbv
 refine cO [false,false,false,false,false,false,false,false,false,true,true] (by kernel_rfl) (by kernel_rfl) ?_
 cbv
 iterate 3 refine gI (by simp) ?_
 (refine nv (fun g=>⟨by simpa [ht] using g,trv,TN ht k n⟩) rfl rfl rfl ?_)
 cbv
 refine gI (by simp) ?_
 (refine UP (GM (fun g=>⟨by simpa [ht] using g,trv,HT ht _⟩) rfl rfl ?_))
 cbv
 refine gI (by simp [ah]) ?_
 iterate 2 refine gI (by simp) ?_
 refine av trv trv rfl rfl rfl ?_
 (simp only [ht];grind)
theorem Kx (ht:TT t) (k:aH) (n:Bool) {vs:List aH} {vr:List (List D)} (HB:vr=vs.map bu) (hv:vs.length<1000000000) {l:List dg} {ls:List (List D)} (hls:ls=l.map dg.cells) (hl:l.length<1000000000) (h0:vr.length≠0):
 FC 76 [.agg [ST k,BL n,SL vr],SL ls] [] (.ret (bX (t _ fun _=>kT ⟨k,n,vs⟩ l))) []:=by
 have hlen:vr.length=vs.length:=by rw [HB,lgM]
 obtain ⟨H,hH⟩:∃H,H=kT ⟨k,n,vs⟩ l:=⟨_,rfl⟩
 rw [←hH]
 simp only [kT] at hH
 rw [if_neg (show ¬vs.length=0 by omega)] at hH
 refine bH ht (aF:=[]) Tryz.func76 rfl rfl (N:=24) rfl rfl (n:=0) rfl rfl ?_
 cbv
 have wP:vr.length=vs.length:=by rw [HB,lgM]
 have rE:ls.length=l.length:=by rw [hls,lgM]
 refine aM trv (HR ht _ ‹_› ‹_›) trv rfl rfl (fun r0 cN=>?_)
 simp only [ht] at cN
 cbv
 refine cO [false,false,false,false,false,false,false,false,false,true,true] (by kernel_rfl) (by kernel_rfl) ?_
 cbv
 iterate 3 refine gI (by simp) ?_
 (refine nv (fun g=>⟨by simpa [ht] using g,trv,TO ht k n (by omega)⟩) rfl rfl rfl ?_)
 cbv
 refine gI (by simp) ?_
 (refine UP (bJ (fun g=>⟨by simpa [ht] using g,trv,HS ht _ HB hv⟩) rfl rfl (fun r1 dL=>?_));simp only [ht] at dL)
 cbv
 refine gI (by simp [ah]) ?_
 iterate 2 refine gI (by simp) ?_
 refine av trv trv rfl rfl rfl ?_
 (simp only [ht];grind)
theorem NU (ht:TT t) (k:aH) (n:Bool) {vs:List aH} {vr:List (List D)} (HB:vr=vs.map bu) (hv:vs.length<1000000000) {l:List dg} {ls:List (List D)} (hls:ls=l.map dg.cells) (hl:l.length<1000000000):
 FC 76 [.agg [ST k,BL n,SL vr],SL ls] [] (.ret (bX (t _ fun _=>kT ⟨k,n,vs⟩ l))) []:=by
 by_cases h0:vr=[]
 ·exact Kw ht k n HB hv hls hl h0
 exact Kx ht k n HB hv hls hl (by intro h;exact h0 (List.length_eq_zero_iff.1 h))
theorem Ky (ht:TT t) (ls:List (List D)) {l:List (Term)} {es:List (List D)} (aB:es=l.map Term.cells) (f:Nat) (p:Term→Bool) (hl:l.length<9223372036854775807)
 (hf:∀x∈l,FC f [.agg [ST x.key,BL x.no,SL (x.mI.map bu)],.ptr 0 0] [.var [SL ls]] (.ret (BL (p x))) [.var [SL ls]]) {r:Int} (hr:r=idxOf p l):FC 114 [SL es,.fn f [.ptr 0 0]] [.var [SL ls]] (.ret (bI r)) [.var [SL ls]]:=by
 have hel:es.length=l.length:=by rw [aB,lgM]
 obtain ⟨J,hJ⟩:∃J:Nat→Nat→Prop,∀n v,J n v↔(v+n=l.length∧∀i<v,∀x,l[i]?=some x→p x=false):=⟨fun n v=>v+n=l.length∧∀i<v,∀x,l[i]?=some x→p x=false,fun _ _=>Iff.rfl⟩
 refine bH ht (aF:=[.var [SL ls]]) Tryz.func114 rfl rfl (N:=19) rfl rfl (n:=1) rfl rfl ?_
 cbv
 refine bF ⟨[0,1,7,8],[],[]⟩ (σ:=Nat) (fun k=>[(8,bI (t _ fun _=>(k:Int)))]) (fun _=>[]) J ?_
 cbv
 refine aD ⟨l.length,0,(hJ _ _).2 ⟨by omega,by intro i hi;simp at hi⟩,by simp only [ht];rfl,?_⟩
 rintro n k hj
 obtain ⟨h2,h3⟩:=(hJ _ _).1 hj
 clear hj
 cbv
 refine an (fun h=>?_) (fun h=>?_)
 ·simp only [ht,aa,decide_eq_true_eq] at h
  have hk:k<l.length:=by omega
  obtain ⟨x,hx⟩:∃x,l[k]?=some x:=⟨l[k],by simp⟩
  have mE:x∈l:=List.mem_of_getElem? hx
  have gz:=hf x mE
  obtain ⟨px,hpx⟩:∃b,b=p x:=⟨_,rfl⟩
  rw [←hpx] at gz
  obtain ⟨a,b,c⟩:=x;obtain ⟨Hz,mz⟩:∃lr:List (List D),lr=c.map bu:=⟨_,rfl⟩;simp only [←mz] at gz
  cbv
  refine ic [.str a,.bool b,.sl Hz] ?_ ?_ ?_
  ·simp only [ht,aa];refine ⟨by omega,h,?_⟩;rw [aB];intro r hr;obtain ⟨y,_,rfl⟩:=List.mem_map.1 hr;rfl
  ·simp [ht,aa,aB,hx,mz,Term.cells]
  cbv
  refine dw trv gz ?_
  cbv
  refine an (fun hb=>?_) (fun hb=>?_)
  ·cbv
   refine av trv trv rfl rfl rfl ?_
   have e:=cV hx (hpx▸hb) h3
   simp only [ht,aa,hr,idxOf,e]
  cbv
  refine aD ⟨n-1,k+1,⟨by omega,(hJ _ _).2 ⟨by omega,?_⟩⟩,?_⟩
  ·intro i hi y hy
   by_cases hik:i<k
   ·exact h3 i hik y hy
   have:i=k:=by omega
   subst this;rw [hx] at hy;cases hy;rw [←hpx];exact hb
  simp only [ht,aa,aC (show k<9223372036854775807 by omega)];rfl
 simp only [ht,aa,decide_eq_false_iff_not] at h
 have hk:¬k<l.length:=by omega
 clear h
 cbv
 refine av trv trv rfl rfl rfl ?_
 rw [hr,idxOf,c7]
 intro i y hy
 have:i<l.length:=by
  rcases Nat.lt_or_ge i l.length with h'|h';· exact h'
  simp [List.getElem?_eq_none h'] at hy
 exact h3 i (by omega) y hy
theorem Kz (ht:TT t) (ls:List (List D)) {l:List (Term)} {es:List (List D)} (aB:es=l.map Term.cells) (f:Nat) (p:Term→Bool) (hl:l.length<9223372036854775807)
 (hf:∀x∈l,FC f [.agg [ST x.key,BL x.no,SL (x.mI.map bu)],.ptr 0 0] [.var [SL ls]] (.ret (BL (p x))) [.var [SL ls]]) {r:Bool} (hr:r=l.any p):FC 74 [SL es,.fn f [.ptr 0 0]] [.var [SL ls]] (.ret (BL r)) [.var [SL ls]]:=by
 obtain ⟨k,hk⟩:∃k,k=idxOf p l:=⟨_,rfl⟩
 refine bH ht (aF:=[.var [SL ls]]) Tryz.func74 rfl rfl (N:=9) rfl rfl (n:=1) rfl rfl ?_
 cbv
 refine dw trv (Ky ht ls aB f p hl hf hk) ?_
 cbv
 refine av trv trv rfl rfl rfl ?_
 simp only [ht,hr,fe,hk]
theorem Rf (ht:TT t) (k:aH) (n:Bool) {vs:List aH} {vr:List (List D)} (HB:vr=vs.map bu) (hv:vs.length<1000000000) {l:List dg} {ls:List (List D)} (hls:ls=l.map dg.cells) (hl:l.length<1000000000) {r:Bool} (hr:r=!kT ⟨k,n,vs⟩ l):
 FC 75 [.agg [ST k,BL n,SL vr],.ptr 0 0] [.var [SL ls]] (.ret (BL r)) [.var [SL ls]]:=by
 obtain ⟨H,hH⟩:∃H,H=kT ⟨k,n,vs⟩ l:=⟨_,rfl⟩
 rw [←hH] at hr
 refine bH ht (aF:=[.var [SL ls]]) Tryz.func75 rfl rfl (N:=8) rfl rfl (n:=1) rfl rfl ?_
 cbv
 have wP:vr.length=vs.length:=by rw [HB,lgM]
 have rE:ls.length=l.length:=by rw [hls,lgM]
 refine aM trv (NU ht _ _ ‹_› ‹_› ‹_› ‹_›) trv rfl rfl (fun r1 dL=>?_)
 simp only [ht] at dL
 cbv
 refine av trv trv rfl rfl rfl ?_
 (simp [*];done)
theorem NV (ht:TT t) {x:List Term} {xr:List (List D)} (EW:xr=x.map Term.cells) (hx:x.length<1000000000) (Fh:∀m∈x,m.mI.length<1000000000) {l:List dg} {ls:List (List D)} (hls:ls=l.map dg.cells) (hl:l.length<1000000000):
 FC 34 [SL xr,SL ls] [] (.ret (bX (t _ fun _=>ny x l))) []:=by
 obtain ⟨r9,gK⟩:∃r,r=x.any (fun m=>!kT m l):=⟨_,rfl⟩
 refine bH ht (aF:=[]) Tryz.func34 rfl rfl (N:=9) rfl rfl (n:=0) rfl rfl ?_
 cbv
 have KA:xr.length=x.length:=by rw [EW,lgM]
 have rE:ls.length=l.length:=by rw [hls,lgM]
 (refine dx [0] trv rfl rfl (Kz ht ls EW 75 (fun m=>!kT m l) (by omega) (fun m hm=>Rf ht _ _ rfl (Fh m hm) hls hl rfl) gK) (cz ?_))
 cbv
 refine av trv trv rfl rfl rfl ?_
 (simp [ht,ny,gK];done)
end Dem
end
section
open Go
namespace Dem
section
variable {P:Program} {G:Nat→Option (List D)}
theorem yG {f:Nat} {args:List AV} {bx aR qo:List az} {v v2:AV} (h:bC P G f args bx (.ret v) aR)
 (hs:∀β w X u,cI G β aR w X→aj β aR w (bt β aR w X) v u→Ext β aR w β qo w∧cI G β qo w X∧aj β qo w (bt β qo w X) v2 u):bC P G f args bx (.ret v2) qo:=by
 intro β w vs X cx hx
 refine jA.mono (h β w vs X cx hx) ?_
 rintro e w' ⟨β',ex,mG,hr⟩
 cases e with
 |returned u=>
  obtain ⟨a,b,c⟩:=hs β' w' X u mG hr
  exact ⟨β',ex.trans a,b,c⟩
 |panicked ch=>exact hr.elim
 |outgrown=>exact hr.elim
theorem Rg {β:Nat→Nat} {bx:List az} {w:World} {b:Nat} {B B':az} (hb:bx[b]?=some B) (hl:B.live=true) (dF:B'.born=true):Ext β bx w β (bx.set b B') w:=by
 refine ⟨rfl,rfl,rfl,Nat.le_refl _,fun _ _ _=>rfl,fun k c e f h=>⟨c,h,rfl⟩,fun i hi=>⟨rfl,iC dF hi⟩,?_⟩
 intro i b' h1 h2
 rcases aL h1 with ⟨rfl,rfl,_⟩|⟨_,h3⟩
 ·exact .inr ⟨_,B,hb,hl,rfl⟩
 exact .inr ⟨i,b',h3,h2,rfl⟩
theorem BA {f b sz k c:Nat} {ex:Bool} {args:List AV} {bx aR qo:List az} {es r:List (List D)} (hk:0<k) (hb:aR[b]?=some (.row sz es)) (Wi:k≤es.length) (hr:r=es.take k) (h2:qo=aR.set b (.row sz r))
 (h:bC P G f args bx (.ret (.vw b sz 0 k c ex)) aR):bC P G f args bx (.ret (.ow b sz k)) qo:=by
 subst hr h2
 refine yG h fun β w X u cx hv=>?_
 have hne:es≠[]:=by intro h;rw [h] at Wi;simp at Wi;omega
 have cA:(az.row sz es).live=true:=by cases es with
  |nil=>exact absurd rfl hne
  |cons _ _=>rfl
 have ht:es.take k≠[]:=by
  intro h;have:=congrArg List.length h;simp at this;rcases this with h|h
  ·omega
  exact hne h
 have aaU:(az.row sz (es.take k)).live=true:=by
  cases hq:es.take k with
  |nil=>exact absurd hq ht
  |cons _ _=>rfl
 have ext:Ext β aR w β (aR.set b (.row sz (es.take k))) w:=Rg hb cA rfl
 simp only [aj] at hv
 obtain ⟨h1,base,cap,cs,e,f',rfl,h3,h4,h5,h6⟩:=hv
 refine ⟨ext,cx.step ext ?_ ?_,?_⟩
 ·intro i b' hi
  rcases aL hi with ⟨rfl,rfl,_⟩|⟨h7,h8⟩
  ·refine .inr ?_
   rcases cx.box _ _ hb with h|⟨c2,e2,g1,g2⟩
   ·exact absurd h hne
   exact .inr ⟨c2,e2,g1,ax.mono (ext.keeps X) _ _ (fun _=>rfl) _ _ (ax.Fu k _ _ g2)⟩
  exact .inl ⟨h8,fun _=>rfl⟩
 ·intro i j bi bj hi hj li lj he
  rcases aL hi with ⟨rfl,rfl,_⟩|⟨h7,h8⟩<;>rcases aL hj with ⟨rfl,rfl,_⟩|⟨h9,h10⟩
  ·rfl
  ·exact cx.inj _ _ _ _ hb h10 cA lj he
  ·exact cx.inj _ _ _ _ h8 hb li cA he
  exact cx.inj _ _ _ _ h8 h10 li lj he
 simp only [aj]
 refine ⟨(ext.born b h1).2,.inr ⟨by omega,cap,?_⟩⟩
 rcases h6 with h6|⟨rfl,h7,h8⟩
 ·omega
 exact ⟨cs,e,f',by simp,h3,h7,by simpa using h8⟩
theorem BB {f b sz k c:Nat} {ex:Bool} {args:List AV} {bx aR qo:List az} {es r:List (List D)} (hb:aR[b]?=some (.row sz es)) (Wi:k≤es.length) (hr:r=es.take k) (h2:qo=aR.set b .dead)
 (h:bC P G f args bx (.ret (.vw b sz 0 k c ex)) aR):bC P G f args bx (.ret (.d (.sl r))) qo:=by
 subst hr h2
 refine yG h fun β w X u cx hv=>?_
 have ext:Ext β aR w β (aR.set b .dead) w:=iD hb rfl rfl
 simp only [aj] at hv
 obtain ⟨h1,base,cap,cs,e,f',rfl,h3,h4,h5,h6⟩:=hv
 refine ⟨ext,jY cx hb rfl rfl (by simp [dj]),?_⟩
 have hl:(es.take k).length=k:=by simp;omega
 simp only [aj,aK]
 refine ⟨base,cap,by rw [hl],by rw [hl];exact h3,?_⟩
 by_cases hk:k=0
 ·exact .inl (by rw [hk];rfl)
 refine .inr ?_
 rcases h6 with h6|⟨rfl,h7,h8⟩
 ·omega
 rcases cx.box _ _ hb with h|⟨c2,e2,g1,g2⟩
 ·rw [h] at Wi;simp at Wi;omega
 refine ⟨β b,0,sz,by simp,⟨eT g1,?_,?_⟩,ax.mono (ext.keeps X) _ _ (fun _=>rfl) _ _ (ax.Fu k _ _ g2)⟩
 ·refine cx.apart b _ hb ?_
  cases es with
  |nil=>simp at Wi;omega
  |cons _ _=>rfl
 intro i b' h9 h10 he
 rcases aL h9 with ⟨rfl,rfl,_⟩|⟨h11,h12⟩
 ·simp [az.live] at h10
 refine h11 (cx.inj i b b' _ h12 hb h10 ?_ he)
 cases es with
 |nil=>simp at Wi;omega
 |cons _ _=>rfl
theorem ak.split {β:Nat→Nat} {bx:List az} {w:World} {ok:Nat→Prop}:∀{xs ys:List AV} {vs:List Value},ak β bx w ok (xs++ys) vs→∃us ws,vs=us++ws∧ak β bx w ok xs us∧ak β bx w ok ys ws
 |[],_,vs,h=>⟨[],vs,rfl,by simp only [ak],h⟩
 |x::xs,ys,vs,h=>by
  rw [List.cons_append] at h
  simp only [ak] at h ⊢
  obtain ⟨u,us,rfl,h1,h2⟩:=h
  obtain ⟨a,b,rfl,h3,h4⟩:=ak.split h2
  exact ⟨u::a,b,rfl,⟨u,a,rfl,h1,h3⟩,h4⟩
theorem rF {f g b:Nat} {xs:List AV} {cs:List AV} {ds:List D} {bx qn aR:List az} {res:iR} (hb:bx[b]?=some (.var cs)) (hd:iS [] cs=some ds) (h1:qn=bx.set b .dead)
 (h:bC P G f (xs++[.fn g [.ep ds]]) qn res aR):bC P G f (xs++[.fn g [.ptr b 0]]) bx res aR:=by
 subst h1
 intro β w vs X cx hx
 have ext:Ext β bx w β (bx.set b .dead) w:=iD hb rfl rfl
 have mG:cI G β (bx.set b .dead) w X:=jY cx hb rfl rfl (by simp [dj])
 obtain ⟨c2,e2,g1,g2⟩:=cx.box _ _ hb
 have hok:bt β (bx.set b .dead) w X (β b):=by
  refine ⟨eT g1,cx.apart b _ hb rfl,?_⟩
  intro i b' h3 h4 he
  rcases aL h3 with ⟨rfl,rfl,_⟩|⟨h5,h6⟩
  ·simp [az.live] at h4
  exact h5 (cx.inj i b b' _ h6 hb h4 rfl he)
 have hrow:bf w (bt β bx w X) (β b) ds 0:=by
  refine DX ds 0 c2.toList ?_ (rY hd g2)
  intro j v hj
  simp only [World.cell?,g1]
  simpa using hj
 have DA:=bf.mono (ext.keeps X) _ (fun _=>rfl) _ _ hrow
 obtain ⟨us,ws0,rfl,hu,hw⟩:=ak.split hx
 simp only [ak,aj] at hw
 obtain ⟨v,vs',rfl,⟨ws,rfl,w1,ws',rfl,⟨rfl,D3⟩,rfl⟩,rfl⟩:=hw
 refine jA.mono (h β w _ X mG ?_) ?_
 ·refine ak.append (ak.mono (ext.eY X) _ _ hu) ?_
  simp only [ak,aj]
  exact ⟨_,_,rfl,⟨_,rfl,_,_,rfl,⟨β b,0,rfl,hok,DA⟩,rfl⟩,rfl⟩
 rintro e w' ⟨β',ex,aaV,hr⟩
 exact ⟨β',ext.trans ex,aaV,hr⟩
theorem pM {f g b:Nat} {x:AV} {cs:List AV} {ds:List D} {bx qn aR:List az} {res:iR} (hb:bx[b]?=some (.var cs)) (hd:iS [] cs=some ds) (h1:qn=bx.set b .dead)
 (h:bC P G f [x,.fn g [.ep ds]] qn res aR):bC P G f [x,.fn g [.ptr b 0]] bx res aR:=rF (xs:=[x]) hb hd h1 h
end
end Dem
end
