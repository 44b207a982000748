/- Parts of a proof, joined. -/
import Derived.Test.YtjnbpclolnmimaaGreatDoorK21
import Derived.Recover
set_option linter.all false
set_option maxRecDepth 100000
set_option maxHeartbeats 4000000
section
open Go Dem Go.Proofs
namespace Dem
variable {t:Th}
theorem NV:∀c<8,∀i<4,(eO (c*32) i).nodes.length≤4:=by decide+kernel
theorem BK {N i:Nat} (hN:N<256) (hi:i<4):(eO N i).nodes.length<1000000000:=by
 rw [HM]
 have:=NV (N / 32) (by omega) i hi
 omega
theorem KX:∀k,∀p∈Bu k,p.sm:=by
 intro k p hp
 unfold Bu at hp
 split at hp
 ·rw [List.mem_singleton.1 hp]
  rename_i h
  have:k=0∨k=1:=by omega
  rcases this with rfl|rfl<;>exact ⟨by decide,by decide⟩
 cases hp
theorem Q7:∀k<3,∀N<256,(((N:Nat):Int).fdiv (2^min (IntKind.i64.wrap (5+((k:Nat):Int))).toNat IntKind.u8.bits)).tmod 2=0↔S7 N k=true:=by decide+kernel
theorem xg {a z:Int} {N k:Nat} (hN:N<256) (ea:a=N) (h:(a.fdiv (2^min (IntKind.i64.wrap z).toNat IntKind.u8.bits)).tmod 2=0) (hk:k<3) (hz:z=5+((k:Nat):Int)):S7 N k=true:=by
 subst ea hz;exact (Q7 k hk N hN).1 h
theorem DM {a z:Int} {N k:Nat} (hN:N<256) (ea:a=N) (h:¬(a.fdiv (2^min (IntKind.i64.wrap z).toNat IntKind.u8.bits)).tmod 2=0) (hk:k<3) (hz:z=5+((k:Nat):Int)):¬S7 N k=true:=by
 subst ea hz;exact fun g=>h ((Q7 k hk N hN).2 g)
theorem oz {N k:Nat} {nm:aA} {w:Int} {r:cQ×Int} (h:r=qZ ⟨(eO N k).nodes,(eO N k).places⟩ ⟨nm,⟨w,9,9,9⟩,Bu k,false⟩) (hnm:nm=py.getD k []) (hw:w=((4+2*k:Nat):Int)) (hu:S7 N k=true):eO N (k+1)=r.1:=by
 subst hw hnm h;rw [eO,if_pos hu]
theorem sE {N k:Nat} (hu:¬S7 N k=true):eO N (k+1)=eO N k:=by rw [eO,if_neg hu]
theorem BM:∀k<3,∀m<5,IntKind.u64.wrap (IntKind.i64.wrap (IntKind.i64.wrap (6+IntKind.i64.wrap (4*((k:Nat):Int)))+IntKind.i64.wrap ((m:Nat):Int)))=((6+4*k+m:Nat):Int):=by decide+kernel
theorem xj {m k:Nat} {p:aA} {w:Int} {r:List aQ×Int} (h:r=vD (rq m k) p ⟨w,20,20,20⟩) (hp:p=UP.getD k []) (hw:w=((6+4*k+m:Nat):Int)):r.1=rq m (k+1):=by subst hw hp h;rfl
theorem BN (ht:TT t) (N:Nat) (hN:N<256) {a:Int} (ea:a=N):FC 12 [.d (.int .u8 a)] [] (.ret (Fk t (t _ fun _=>kO N))) []:=by
 have hm:N%5<5:=Nat.mod_lt _ (by decide)
 have hl0:=Qh (N%5) hm
 refine bA ht (aB:=[]) Tryz.func12 rfl rfl (N:=81) rfl rfl (n:=0) rfl rfl ?_
 cbv
 refine aU trv (Mn ht) trv rfl rfl rfl (fun r0 bF=>?_)
 simp only [ht] at bF
 cbv
 ((refine aU trv (zx ht _ _ _ _ _ (l:=[⟨[],bz.zero,bz.zero⟩]) (by simp only [ht,bF];rfl) (by decide) (by decide) (by decide)) (by simp) rfl rfl rfl (fun r1 eb=>?_)))
 cbv
 obtain ⟨J1,gj⟩:∃J1:Nat→Int×List (List D)→Prop,∀m i tr,J1 m (i,tr)↔((i=0∧m=3∧tr=(rq (N%5) 0).map aQ.cells)∨(i=1∧m=2∧tr=(rq (N%5) 1).map aQ.cells)∨(i=2∧m=1∧tr=(rq (N%5) 2).map aQ.cells)∨(i=3∧m=0∧tr=(rq (N%5) 3).map aQ.cells)):=⟨fun m v=>match v with|(i,tr)=>((i=0∧m=3∧tr=(rq (N%5) 0).map aQ.cells)∨(i=1∧m=2∧tr=(rq (N%5) 1).map aQ.cells)∨(i=2∧m=1∧tr=(rq (N%5) 2).map aQ.cells)∨(i=3∧m=0∧tr=(rq (N%5) 3).map aQ.cells)),fun _ _ _=>Iff.rfl⟩
 refine bg ⟨[0,2,3,18,19,20],[],[]⟩ (σ:=Int×List (List D)) (fun v=>[(20,.d (.int .i64 (t _ fun _=>v.1)))]) (fun v=>[(1,.var [AV.d (D.int IntKind.u64 r0.1),AV.d (D.int IntKind.u64 r0.2),AV.d (D.sl (t (List (List D)) fun x=>List.map (fun x=>[D.str (Node.name x),D.int IntKind.u64 (bz.a (Node.cap x)),D.int IntKind.u64 (bz.b (Node.cap x)),D.int IntKind.u64 (bz.c (Node.cap x)),D.int IntKind.u64 (bz.d (Node.cap x)),D.sl (List.map (fun p=>[D.str (bR.key p),D.str (bR.value p)]) (Node.labels x)),D.bool (Node.up x)]) (cQ.nodes (cJ.bC r0)))),AV.d (D.sl (t (List (List D)) fun x=>List.map (fun x=>[D.int IntKind.u64 (Place.bB x),D.str (Place.node x),D.int IntKind.u64 (bz.a (Place.v x)),D.int IntKind.u64 (bz.b (Place.v x)),D.int IntKind.u64 (bz.c (Place.v x)),D.int IntKind.u64 (bz.d (Place.v x))]) (cQ.places (cJ.bC r0)))),.d (.sl (t _ fun _=>v.2)),AV.d (D.sl (t (List (List D)) fun x=>List.map Jb.cells (cJ.aL r0))),AV.d (D.sl (t (List (List D)) fun x=>List.map bZ.cells (cJ.queue r0))),AV.d (D.int IntKind.u64 r0.7.1),AV.d (D.sl (t (List (List D)) fun x=>List.map cF.cells (sL.l (cJ.ev r0)))),AV.d (D.int IntKind.u64 r0.8.1),AV.d (D.sl (t (List (List D)) fun x=>List.map cF.cells (sL.l (cJ.au r0))))])]) J1 ?_
 cbv
 refine aC ⟨3,(_,_),(gj _ _ _).2 ?_,by simp only [ht];rfl,?_⟩
 ·exact .inl ⟨rfl,rfl,by simp only [ht,eb];rfl⟩
 rintro m ⟨i,tr⟩ hj
 replace hj:=(gj _ _ _).1 hj
 (rcases hj with ⟨rfl,jm,jt⟩|⟨rfl,jm,jt⟩|⟨rfl,jm,jt⟩|⟨rfl,jm,jt⟩)
 ·cbv
  refine ai (fun h2=>?_) (fun h2=>?_)
  ·simp [ht] at h2
   cbv
   ((refine iq [.str [97]] (by simp only [ht];decide) (by simp only [ht];rfl) ?_))
   cbv
   refine ⟨?_,?_⟩
   ·(simp only [ht];decide)
   cbv
   ((refine aU trv (zx ht _ _ _ _ _ (l:=rq (N%5) 0) (by simp only [ht];exact jt) (by have:=hl0 0 (by decide);omega) (by decide) (by decide)) (by simp) rfl rfl rfl (fun r2 cU=>?_)))
   cbv
   refine bu (_,_) (by simp only [ht];rfl) (m-1) ?_ ((gj _ _ _).2 ?_)
   ·omega
   exact .inr (.inl ⟨by rw [bY (by decide) (by decide)];rfl,by omega,congrArg _ (xj (k:=0) (cU.trans (ht _ _)) rfl (by simp only [ht,ea,Xd];exact BM 0 (by decide) _ hm))⟩)
  simp [ht] at h2
 ·cbv
  refine ai (fun h3=>?_) (fun h3=>?_)
  ·simp [ht] at h3
   cbv
   ((refine iq [.str [97,47,98]] (by simp only [ht];decide) (by simp only [ht];rfl) ?_))
   cbv
   refine ⟨?_,?_⟩
   ·(simp only [ht];decide)
   cbv
   ((refine aU trv (zx ht _ _ _ _ _ (l:=rq (N%5) 1) (by simp only [ht];exact jt) (by have:=hl0 1 (by decide);omega) (by decide) (by decide)) (by simp) rfl rfl rfl (fun r2 cU=>?_)))
   cbv
   refine bu (_,_) (by simp only [ht];rfl) (m-1) ?_ ((gj _ _ _).2 ?_)
   ·omega
   exact .inr (.inr (.inl ⟨by rw [bY (by decide) (by decide)];rfl,by omega,congrArg _ (xj (k:=1) (cU.trans (ht _ _)) rfl (by simp only [ht,ea,Xd];exact BM 1 (by decide) _ hm))⟩))
  simp [ht] at h3
 ·cbv
  refine ai (fun h4=>?_) (fun h4=>?_)
  ·simp [ht] at h4
   cbv
   ((refine iq [.str [98]] (by simp only [ht];decide) (by simp only [ht];rfl) ?_))
   cbv
   refine ⟨?_,?_⟩
   ·(simp only [ht];decide)
   cbv
   ((refine aU trv (zx ht _ _ _ _ _ (l:=rq (N%5) 2) (by simp only [ht];exact jt) (by have:=hl0 2 (by decide);omega) (by decide) (by decide)) (by simp) rfl rfl rfl (fun r2 cU=>?_)))
   cbv
   refine bu (_,_) (by simp only [ht];rfl) (m-1) ?_ ((gj _ _ _).2 ?_)
   ·omega
   exact .inr (.inr (.inr ⟨by rw [bY (by decide) (by decide)];rfl,by omega,congrArg _ (xj (k:=2) (cU.trans (ht _ _)) rfl (by simp only [ht,ea,Xd];exact BM 2 (by decide) _ hm))⟩))
  simp [ht] at h4
 cbv
 refine ai (fun h5=>?_) (fun h5=>?_)
 ·simp [ht] at h5
 simp [ht] at h5
 cbv
 obtain ⟨J6,Ow⟩:∃J6:Nat→Int×List (List D)×List (List D)→Prop,∀m i x y,J6 m (i,x,y)↔((i=0∧m=3∧x=(eO N 0).nodes.map Node.cells∧y=(eO N 0).places.map Place.cells)∨(i=1∧m=2∧x=(eO N 1).nodes.map Node.cells∧y=(eO N 1).places.map Place.cells)∨(i=2∧m=1∧x=(eO N 2).nodes.map Node.cells∧y=(eO N 2).places.map Place.cells)∨(i=3∧m=0∧x=(eO N 3).nodes.map Node.cells∧y=(eO N 3).places.map Place.cells)):=⟨fun m v=>match v with|(i,x,y)=>((i=0∧m=3∧x=(eO N 0).nodes.map Node.cells∧y=(eO N 0).places.map Place.cells)∨(i=1∧m=2∧x=(eO N 1).nodes.map Node.cells∧y=(eO N 1).places.map Place.cells)∨(i=2∧m=1∧x=(eO N 2).nodes.map Node.cells∧y=(eO N 2).places.map Place.cells)∨(i=3∧m=0∧x=(eO N 3).nodes.map Node.cells∧y=(eO N 3).places.map Place.cells)),fun _ _ _ _=>Iff.rfl⟩
 refine bg ⟨[0,2,3,43,44,45],[],[]⟩ (σ:=Int×List (List D)×List (List D)) (fun v=>[(45,.d (.int .i64 (t _ fun _=>v.1)))]) (fun v=>[(1,.var [AV.d (D.int IntKind.u64 r0.1),AV.d (D.int IntKind.u64 r0.2),.d (.sl (t _ fun _=>v.2.1)),.d (.sl (t _ fun _=>v.2.2)),AV.d (D.sl (t (List (List D)) fun x=>Prod.snd (3,tr))),AV.d (D.sl (t (List (List D)) fun x=>List.map Jb.cells (cJ.aL r0))),AV.d (D.sl (t (List (List D)) fun x=>List.map bZ.cells (cJ.queue r0))),AV.d (D.int IntKind.u64 r0.7.1),AV.d (D.sl (t (List (List D)) fun x=>List.map cF.cells (sL.l (cJ.ev r0)))),AV.d (D.int IntKind.u64 r0.8.1),AV.d (D.sl (t (List (List D)) fun x=>List.map cF.cells (sL.l (cJ.au r0))))])]) J6 ?_
 cbv
 refine aC ⟨3,(_,_,_),(Ow _ _ _ _).2 ?_,by simp only [ht];rfl,?_⟩
 ·exact .inl ⟨rfl,rfl,by rw [bF];rfl,by rw [bF];rfl⟩
 rintro m ⟨i,x,y⟩ hj
 replace hj:=(Ow _ _ _ _).1 hj
 (rcases hj with ⟨rfl,jm,jx,jy⟩|⟨rfl,jm,jx,jy⟩|⟨rfl,jm,jx,jy⟩|⟨rfl,jm,jx,jy⟩)
 ·cbv
  refine ai (fun h7=>?_) (fun h7=>?_)
  ·simp [ht] at h7
   cbv
   ((refine iq [.str [110,49]] (by simp only [ht];decide) (by simp only [ht];rfl) ?_))
   cbv
   refine ⟨?_,?_⟩
   ·(simp only [ht];decide)
   refine ⟨?_,?_⟩
   ·(simp only [ht];decide)
   cbv
   refine ai (fun h8=>?_) (fun h8=>?_)
   ·simp [ht] at h8
    cbv
    refine ai (fun h9=>?_) (fun h9=>?_)
    ·simp [ht] at h9
     cbv
     ((refine iq [.str [97]] (by simp only [ht];decide) (by simp only [ht];rfl) ?_))
     cbv
     ((refine aU trv (Ks ht (l:=(eO N 0).nodes) (ps:=(eO N 0).places) (by simp only [ht];exact jx) (by simp only [ht];exact jy) _ _ _ _ _ (lb:=Bu 0) rfl false (BK hN (by decide)) (by decide) (by decide) (KX _)) (by simp) rfl rfl rfl (fun r4 dV=>?_)))
     cbv
     refine bu (_,_,_) (by simp only [ht];rfl) (m-1) ?_ ((Ow _ _ _ _).2 ?_)
     ·omega
     (refine .inr (.inl ⟨(by rw [bY (by decide) (by decide)];rfl),by omega,?_,?_⟩);((exact congrArg (fun p:cQ=>List.map Node.cells p.nodes) (oz (k:=0) (dV.trans (ht _ _)) rfl (by simp only [ht];decide) (xg hN ea ‹_› (by decide) (by decide))).symm));((exact congrArg (fun p:cQ=>List.map Place.cells p.places) (oz (k:=0) (dV.trans (ht _ _)) rfl (by simp only [ht];decide) (xg hN ea ‹_› (by decide) (by decide))).symm)))
    simp [ht] at h9
   simp [ht] at h8
   cbv
   refine bu (_,_,_) (by simp only [ht];rfl) (m-1) ?_ ((Ow _ _ _ _).2 ?_)
   ·omega
   (refine .inr (.inl ⟨(by rw [bY (by decide) (by decide)];rfl),by omega,?_,?_⟩);((exact jx.trans (congrArg (fun p:cQ=>List.map Node.cells p.nodes) (sE (N:=N) (k:=0) (DM hN ea ‹_› (by decide) (by decide))).symm)));((exact jy.trans (congrArg (fun p:cQ=>List.map Place.cells p.places) (sE (N:=N) (k:=0) (DM hN ea ‹_› (by decide) (by decide))).symm))))
  simp [ht] at h7
 ·cbv
  refine ai (fun h10=>?_) (fun h10=>?_)
  ·simp [ht] at h10
   cbv
   ((refine iq [.str [110,50]] (by simp only [ht];decide) (by simp only [ht];rfl) ?_))
   cbv
   refine ⟨?_,?_⟩
   ·(simp only [ht];decide)
   refine ⟨?_,?_⟩
   ·(simp only [ht];decide)
   cbv
   refine ai (fun h11=>?_) (fun h11=>?_)
   ·simp [ht] at h11
    cbv
    refine ai (fun h12=>?_) (fun h12=>?_)
    ·simp [ht] at h12
     cbv
     ((refine iq [.str [98]] (by simp only [ht];decide) (by simp only [ht];rfl) ?_))
     cbv
     ((refine aU trv (Ks ht (l:=(eO N 1).nodes) (ps:=(eO N 1).places) (by simp only [ht];exact jx) (by simp only [ht];exact jy) _ _ _ _ _ (lb:=Bu 1) rfl false (BK hN (by decide)) (by decide) (by decide) (KX _)) (by simp) rfl rfl rfl (fun r4 dV=>?_)))
     cbv
     refine bu (_,_,_) (by simp only [ht];rfl) (m-1) ?_ ((Ow _ _ _ _).2 ?_)
     ·omega
     (refine .inr (.inr (.inl ⟨(by rw [bY (by decide) (by decide)];rfl),by omega,?_,?_⟩));((exact congrArg (fun p:cQ=>List.map Node.cells p.nodes) (oz (k:=1) (dV.trans (ht _ _)) rfl (by simp only [ht];decide) (xg hN ea ‹_› (by decide) (by decide))).symm));((exact congrArg (fun p:cQ=>List.map Place.cells p.places) (oz (k:=1) (dV.trans (ht _ _)) rfl (by simp only [ht];decide) (xg hN ea ‹_› (by decide) (by decide))).symm)))
    simp [ht] at h12
   simp [ht] at h11
   cbv
   refine bu (_,_,_) (by simp only [ht];rfl) (m-1) ?_ ((Ow _ _ _ _).2 ?_)
   ·omega
   (refine .inr (.inr (.inl ⟨(by rw [bY (by decide) (by decide)];rfl),by omega,?_,?_⟩));((exact jx.trans (congrArg (fun p:cQ=>List.map Node.cells p.nodes) (sE (N:=N) (k:=1) (DM hN ea ‹_› (by decide) (by decide))).symm)));((exact jy.trans (congrArg (fun p:cQ=>List.map Place.cells p.places) (sE (N:=N) (k:=1) (DM hN ea ‹_› (by decide) (by decide))).symm))))
  simp [ht] at h10
 ·cbv
  refine ai (fun KJ=>?_) (fun KJ=>?_)
  ·simp [ht] at KJ
   cbv
   ((refine iq [.str [110,51]] (by simp only [ht];decide) (by simp only [ht];rfl) ?_))
   cbv
   refine ⟨?_,?_⟩
   ·(simp only [ht];decide)
   refine ⟨?_,?_⟩
   ·(simp only [ht];decide)
   cbv
   refine ai (fun QL=>?_) (fun QL=>?_)
   ·simp [ht] at QL
    cbv
    refine ai (fun h15=>?_) (fun h15=>?_)
    ·simp [ht] at h15
    simp [ht] at h15
    cbv
    ((refine aU trv (Ks ht (l:=(eO N 2).nodes) (ps:=(eO N 2).places) (by simp only [ht];exact jx) (by simp only [ht];exact jy) _ _ _ _ _ (lb:=Bu 2) rfl false (BK hN (by decide)) (by decide) (by decide) (KX _)) (by simp) rfl rfl rfl (fun r4 dV=>?_)))
    cbv
    refine bu (_,_,_) (by simp only [ht];rfl) (m-1) ?_ ((Ow _ _ _ _).2 ?_)
    ·omega
    (refine .inr (.inr (.inr ⟨(by rw [bY (by decide) (by decide)];rfl),by omega,?_,?_⟩));((exact congrArg (fun p:cQ=>List.map Node.cells p.nodes) (oz (k:=2) (dV.trans (ht _ _)) rfl (by simp only [ht];decide) (xg hN ea ‹_› (by decide) (by decide))).symm));((exact congrArg (fun p:cQ=>List.map Place.cells p.places) (oz (k:=2) (dV.trans (ht _ _)) rfl (by simp only [ht];decide) (xg hN ea ‹_› (by decide) (by decide))).symm)))
   simp [ht] at QL
   cbv
   refine bu (_,_,_) (by simp only [ht];rfl) (m-1) ?_ ((Ow _ _ _ _).2 ?_)
   ·omega
   (refine .inr (.inr (.inr ⟨(by rw [bY (by decide) (by decide)];rfl),by omega,?_,?_⟩));((exact jx.trans (congrArg (fun p:cQ=>List.map Node.cells p.nodes) (sE (N:=N) (k:=2) (DM hN ea ‹_› (by decide) (by decide))).symm)));((exact jy.trans (congrArg (fun p:cQ=>List.map Place.cells p.places) (sE (N:=N) (k:=2) (DM hN ea ‹_› (by decide) (by decide))).symm))))
  simp [ht] at KJ
 cbv
 refine ai (fun V9=>?_) (fun V9=>?_)
 ·simp [ht] at V9
 simp [ht] at V9
 cbv
 refine ak trv trv rfl rfl rfl ?_
 (simp only [ht,bF,jt,jx,jy];rfl)
theorem Mo (ht:TT t) (bB:Int) {l:List Node} {ps:List Place} {es qs:List (List D)} (aD:es=l.map Node.cells) (fG:qs=ps.map Place.cells) (hl:ps.length<1000000):
 FC 127 [.agg [SL es,SL qs],ax bB] [] (.ret (LS t (t _ fun _=>vE ⟨l,ps⟩ bB))) []:=by
 simp only [ht,LS,vE];rw [←aD];exact Kn ht bB fG hl rfl
theorem Mp (ht:TT t) (rd nx ef af:Int) {nl:List Node} {pl:List Place} {tl:List aQ} {jl:List Jb} {ql:List bZ} {el al:List cF} {ns ps ts js qs es dm:List (List D)} (gR:ns=nl.map Node.cells) (hps:ps=pl.map Place.cells) (hts:ts=tl.map aQ.cells) (fU:js=jl.map Jb.cells) (fG:qs=ql.map bZ.cells) (aD:es=el.map cF.cells) (has:dm=al.map cF.cells) (ji ja jb jc jd jn jp jt jf:Int) (jq:aA) (jr:Bool) {gL:List Term} {pW:List (List D)} (jw:pW=gL.map Term.cells) {z:Int} {k:Nat} (hz:z=k) (hk:k<jl.length) (hjl:jl.length<1000000):
 FC 84 [.agg [ax rd,ax nx,SL ns,SL ps,SL ts,SL js,SL qs,ax ef,SL es,ax af,SL dm],bc z,.agg [ax ji,ST jq,ax ja,ax jb,ax jc,ax jd,bc jn,bc jp,bc jt,SL pW,BL jr,bc jf]] [] (.ret (Fk t (t _ fun _=>Dr ⟨rd,nx,⟨nl,pl⟩,tl,jl,ql,⟨ef,el⟩,⟨af,al⟩⟩ k ⟨ji,⟨jq,⟨ja,jb,jc,jd⟩,jn,jp,jt,gL⟩,jr,jf⟩))) []:=by
 refine bA ht (aB:=[]) Tryz.func84 rfl rfl (N:=17) rfl rfl (n:=0) rfl rfl ?_
 cbv
 have fc:ns.length=nl.length:=by rw [gR,lgM]
 have fA:ps.length=pl.length:=by rw [hps,lgM]
 have fT:ts.length=tl.length:=by rw [hts,lgM]
 have dj:js.length=jl.length:=by rw [fU,lgM]
 have dL:qs.length=ql.length:=by rw [fG,lgM]
 have av:es.length=el.length:=by rw [aD,lgM]
 have dP:dm.length=al.length:=by rw [has,lgM]
 have pG:pW.length=gL.length:=by rw [jw,lgM]
 refine pQ trv (rC ht ‹_› ‹_›) trv rfl (.inr rfl) ?_
 cbv
 refine ⟨?_,?_⟩
 ·(simp [*];done)
 refine ⟨?_,?_⟩
 ·(simp [Jb.cells, *];done)
 cbv
 refine ak trv (by simp [ht]) rfl rfl rfl ?_
 (simp [Dr,Jb.cells,List.map_set,bG, *];done)
theorem Is (ht:TT t) (rd nx ef af:Int) {nl:List Node} {pl:List Place} {tl:List aQ} {jl:List Jb} {ql:List bZ} {el al:List cF} {ns ps ts js qs es dm:List (List D)} (gR:ns=nl.map Node.cells) (hps:ps=pl.map Place.cells) (hts:ts=tl.map aQ.cells) (fU:js=jl.map Jb.cells) (fG:qs=ql.map bZ.cells) (aD:es=el.map cF.cells) (has:dm=al.map cF.cells) (ji ja jb jc jd jn jp jt jf:Int) (jq:aA) (jr:Bool) {gL:List Term} {pW:List (List D)} (jw:pW=gL.map Term.cells) (hu:(⟨ja,jb,jc,jd⟩:bz).u') (hjq:jq.length<1000000000000) (htl:tl.length<100000) (pO:pl.length<1000000):
 FC 65 [.agg [ax rd,ax nx,SL ns,SL ps,SL ts,SL js,SL qs,ax ef,SL es,ax af,SL dm],.agg [ax ji,ST jq,ax ja,ax jb,ax jc,ax jd,bc jn,bc jp,bc jt,SL pW,BL jr,bc jf]] [] (.ret (Fk t (t _ fun _=>nh ⟨rd,nx,⟨nl,pl⟩,tl,jl,ql,⟨ef,el⟩,⟨af,al⟩⟩ ⟨ji,⟨jq,⟨ja,jb,jc,jd⟩,jn,jp,jt,gL⟩,jr,jf⟩))) []:=by
 obtain ⟨⟨⟨v1,v2,v3,v4⟩,vk⟩,hv⟩:∃r,r=dG ⟨jq,⟨ja,jb,jc,jd⟩,jn,jp,jt,gL⟩:=⟨_,rfl⟩
 obtain ⟨⟨t9,e9⟩,h9⟩:∃r,r=sn tl jq ⟨v1,v2,v3,v4⟩:=⟨_,rfl⟩
 have hF:nh ⟨rd,nx,⟨nl,pl⟩,tl,jl,ql,⟨ef,el⟩,⟨af,al⟩⟩ ⟨ji,⟨jq,⟨ja,jb,jc,jd⟩,jn,jp,jt,gL⟩,jr,jf⟩=⟨rd,nx,vE ⟨nl,pl⟩ ji,(if vk then t9 else tl),jl,ql,⟨ef,el⟩,⟨af,al⟩⟩:=by
  simp only [nh,←hv,←h9]
 rw [hF]
 refine bA ht (aB:=[]) Tryz.func65 rfl rfl (N:=32) rfl rfl (n:=0) rfl rfl ?_
 cbv
 have fc:ns.length=nl.length:=by rw [gR,lgM]
 have fA:ps.length=pl.length:=by rw [hps,lgM]
 have fT:ts.length=tl.length:=by rw [hts,lgM]
 have dj:js.length=jl.length:=by rw [fU,lgM]
 have dL:qs.length=ql.length:=by rw [fG,lgM]
 have av:es.length=el.length:=by rw [aD,lgM]
 have dP:dm.length=al.length:=by rw [has,lgM]
 have pG:pW.length=gL.length:=by rw [jw,lgM]
 (refine ay trv (sB ht jq ja jb jc jd jn jp jt (sl:=gL) pW hu) trv rfl rfl (fun r9 dz=>?_);simp only [ht] at dz;rw [←hv] at dz;subst dz)
 cbv
 refine ai (fun h0=>?_) (fun h0=>?_)
 ·cbv
  refine aU trv (KT ht _ _ _ _ _ ‹_› ‹_› ‹_›) trv rfl rfl rfl (fun r1 eb=>?_)
  simp only [ht] at eb
  rw [←h9] at eb
  subst r1
  cbv
  refine aU trv (Mo ht _ ‹_› ‹_› ‹_›) trv rfl rfl rfl (fun r2 cU=>?_)
  simp only [ht] at cU
  cbv
  refine ak trv trv rfl rfl rfl ?_
  (subst cU;simp [*];done)
 cbv
 refine aU trv (Mo ht _ ‹_› ‹_› ‹_›) trv rfl rfl rfl (fun r3 gQ=>?_)
 simp only [ht] at gQ
 cbv
 refine ak trv trv rfl rfl rfl ?_
 (simp [*];done)
theorem Fl (ht:TT t) {es:List (List D)} {i m c:Nat} (hm:m=es.length) (hi:i<m) (hc:m≤c) (aD:∀r∈es,r.length=12) (hs:m<1000000) {r:List (List D)} (hr:r=es.take i++es.drop (i+1)):
 FC 67 [.vw 0 12 0 m c true,bc (i:Int),bc ((i+1:Nat):Int)] [.row 12 es] (.ret (SL r)) [.dead]:=by
 obtain ⟨i1,hi1⟩:∃i1,i1=i+1:=⟨_,rfl⟩
 rw [←hi1] at hr ⊢
 refine bA ht (aB:=[.row 12 es]) Tryz.func67 rfl rfl (N:=33) rfl rfl (n:=1) rfl rfl ?_
 cbv
 obtain ⟨mi,Ck⟩:∃n,n=m-i:=⟨_,rfl⟩
 obtain ⟨Zu,aaY⟩:∃n,n=m-i1:=⟨_,rfl⟩
 obtain ⟨ze,Qo⟩:∃n,n=c-i1:=⟨_,rfl⟩
 refine bP (.vw 0 12 i 1 mi true) [.row 12 es] ?_ ?_ rfl ?_
 ·simp [ht,aa,bQ];omega
 ·simp [ht,aa,aT,Ck,hi1]
 cbv
 refine pP (by simp [ht,hi1];omega) ?_
 cbv
 refine bS [false,false,false,false,false,false,true,true] (by kernel_rfl) (by kernel_rfl) ?_
 cbv
 refine gI (by simp) (gI (by simp) ?_)
 refine iR (.vw 0 12 0 i c true) (fun _=>⟨?_,?_⟩) ?_
 ·simp [ht,dX,bQ];omega
 ·simp [ht,aT,aS]
 cbv
 refine gI (by simp) (gI (by simp) ?_)
 refine iR (.vw 0 12 i1 Zu ze true) (fun _=>⟨?_,?_⟩) ?_
 ·simp [ht,dX,bQ];omega
 ·simp [ht,aT,aS,aaY,Qo]
 cbv
 obtain ⟨m1,hm1⟩:∃n,n=m-1:=⟨_,rfl⟩
 obtain ⟨cm1,aaZ⟩:∃n,n=c-m1:=⟨_,rfl⟩
 obtain ⟨R1,Wj⟩:∃R,R=wrote es i (es.drop i1):=⟨_,rfl⟩
 have tk:(es.drop i1).take Zu=es.drop i1:=List.take_of_length_le (by rw [List.length_drop];omega)
 have dl:(es.drop i1).length=Zu:=by rw [List.length_drop];omega
 have Iu:R1.length=m:=by rw [Wj];simp [wrote];omega
 have aa0:R1.take m1=r:=by
  rw [Wj,hr]
  unfold wrote
  rw [List.take_append_of_le_length (by simp;omega),List.take_of_length_le (by simp;omega)]
 refine bP (.vw 0 12 0 m1 c true) [.row 12 R1,.bt] ?_ ?_ ?_ ?_
 ·simp only [ht,tk,dl,fe,Nat.zero_add]
  exact ⟨by omega,⟨by omega,fun h=>by rw [h] at hm;simp at hm;omega⟩,by omega,fun r h=>aD r (List.mem_of_mem_drop h)⟩
 ·simp only [ht,tk,dl];rw [show i+Zu=m1 by omega]
 ·simp only [ht,tk,Nat.zero_add,Wj]
 cbv
 refine bP (.vw 0 12 m1 1 cm1 true) [.row 12 R1,.bt] ?_ ?_ rfl ?_
 ·simp [ht,aa,dX,bQ];omega
 ·simp [ht,aa,aT,aS,aaZ];omega
 cbv
 obtain ⟨R2,Wk⟩:∃R,R=wrote R1 m1 (List.replicate 1 [D.int IntKind.u64 0,D.str [],D.int IntKind.u64 0,D.int IntKind.u64 0,D.int IntKind.u64 0,D.int IntKind.u64 0,D.int IntKind.i64 0,D.int IntKind.i64 0,D.int IntKind.i64 0,D.sl [],D.bool false,D.int IntKind.i64 0]):=⟨_,rfl⟩
 have aa1:R2.length=m:=by rw [Wk];simp [wrote,Iu];omega
 have aa2:R2.take m1=r:=by
  rw [←aa0,Wk]
  unfold wrote
  rw [List.append_assoc,List.take_append_of_le_length (by simp [Iu];omega),List.take_take,Nat.min_self]
 refine bP (.dA []) [.row 12 R2,.bt] ?_ rfl ?_ ?_
 ·simp only [ht,fe];exact ⟨by omega,fun h=>by rw [h] at Iu;simp at Iu;omega⟩
 ·simp only [ht,Wk]
 cbv
 refine AQ [true] trv ?_ rfl rfl rfl ?_
 ·simp only [ht];omega
 simp only [ht,List.drop_zero,aa2]
theorem vU (ht:TT t) {l:List Jb} {i:Nat} {z z1:Int} (hz:z=i) (hz1:z1=(i:Int)+1) (hi:i<l.length) (hs:l.length<1000000):
 FC 67 [.ow 0 12 (t _ fun _=>(l.map Jb.cells).length),bc z,bc z1] [.row 12 (t _ fun _=>l.map Jb.cells)] (.ret (SL (t _ fun _=>(l.eraseIdx i).map Jb.cells))) [.dead]:=by
 simp only [ht]
 have e1:z1=((i+1:Nat):Int):=by omega
 subst hz
 rw [e1]
 refine fF (fun c hc hc0=>Fl ht (es:=l.map Jb.cells) (i:=i) rfl (by simpa using hi) hc ?_ (by simpa using hs) ?_)
 ·intro r hr;obtain ⟨y,_,rfl⟩:=List.mem_map.1 hr;rfl
 rw [List.eraseIdx_eq_take_drop_succ,List.map_append,List.map_take,List.map_drop]
end Dem
end
section
open Go
namespace Dem
section
variable {P:Program} {T:Nat→Option TI} {G:Nat→Option (List D)} {N K:Nat}
theorem rD (hT:iz P T) (hD:kQ P T G) {f N:Nat} {fn:Func} {c:Code} {args:List AV} {aB aF:List ar} {res:ff} (hf:P.funcs[f]?=some fn) (hb:fn.body=some c)
 (hname:(fn.name== "runtime.NumGoroutine")=false) (hN:fn.ntmps=N) (hlen:Nat.ble args.length N=true) {pre rest:List Code} (hc:flat c=pre++rest) (R:St→Prop)
 (hr:∀(X:Nat→Prop) (β0:Nat→Nat) (w0:World) (β:Nat→Nat) (w:World) (s:St) (a:Act),Ext β0 aB w0 β s.bx w→Fr G N [] β w X s a→R s→
  p9 P rest (dY G N [] X β0 aB w0 (jB t0 T fn.results.toList aB.length res aF)) a w)
 (h:AS t0 (aZ P G) T G N aB.length pre (fun e s=>match e with|.normal=>R s|e=>jB t0 T fn.results.toList aB.length res aF e s) ⟨gm 0 args,aB⟩):aZ P G f args aB res aF:=by
 refine uV hT hf hb hname hN hlen fun β w X a hF=>wp_mono (vt c ?_) (fun _ _ _ hl=>dY.imp (fun _ _ hq=>oX hq) hl)
 rw [hc]
 refine m8 (og ?_ (fI (X:=X) (β0:=β) (aB:=aB) (w0:=w) hT hD (Nat.le_refl _) pre _ β w _ a (Ext.refl _ _ _) hF h))
 intro e a1 w1 hl
 cases e<;>simp only [dY,Exit.then] at hl ⊢
 ·obtain ⟨β1,s1,uQ,Ce,hR⟩:=hl
  exact hr X β w β1 w1 s1 a1 uQ Ce hR
 all_goals exact hl
structure Wl (n:Nat) (K:Nat→Prop):Prop where
 ok:∀c,n≤c→(n=0→c=0)→K c
def Q8 (t:Th) (FC:Nat→List AV→List ar→ff→List ar→Prop) (T:Nat→Option TI) (G:Nat→Option (List D)) (N K:Nat) (post:List Code) (i:Nat) (Q:Ex→St→Prop) (s:St):Prop:=
 match fP i s.sl with
 |.ow b sz n=>Wl n fun c=>AS t FC T G N K post Q ⟨put i (.vw b sz 0 n c true) s.sl,s.bx⟩
 |_=>False
theorem Iv (hT:iz P T) (hD:kQ P T G) {aB:List ar} (hK:aB.length≤K) {post:List Code} {i:Nat} {Q:Ex→St→Prop} {X:Nat→Prop} {β0:Nat→Nat} {w0:World} {β:Nat→Nat} {w:World} {s:St} {a:Act} (ex:Ext β0 aB w0 β s.bx w) (hF:Fr G N [] β w X s a)
 (h:Q8 t0 (aZ P G) T G N K post i Q s):p9 P post (dY G N [] X β0 aB w0 Q) a w:=by
 unfold Q8 at h
 split at h
 case h_2=>exact h.elim
 rename_i b sz n hi
 obtain ⟨h⟩:=h
 have hx:=hF.wF i
 rw [hi] at hx
 simp only [ah] at hx
 have key:∀c,n≤c→(n=0→c=0)→ah β s.bx w (aY β s.bx w X) (.vw b sz 0 n c true) (a.tmps.getD i undef)→p9 P post (dY G N [] X β0 aB w0 Q) a w:=by
  intro c h1 h2 h3
  refine fI hT hD hK post Q β w ⟨put i (.vw b sz 0 n c true) s.sl,s.bx⟩ a ex ⟨hF.cx,hF.defers,hF.size,fun t=>?_⟩ (h c h1 h2)
  rw [rS]
  by_cases ht:t=i
  ·subst ht;rw [if_pos rfl];exact h3
  rw [if_neg ht];exact hF.wF t
 obtain ⟨hb,⟨rfl,base,e⟩|⟨h0,cap,c,e1,f',e,h1,h2,h3⟩⟩:=hx
 ·refine key 0 (Nat.le_refl _) (fun _=>rfl) ?_
  rw [e]
  simp only [ah]
  exact ⟨hb,base,0,#[],0,(0,0),rfl,Nat.le_refl _,Nat.le_refl _,fun _=>rfl,.inl rfl⟩
 refine key cap h1 (fun h=>absurd h h0) ?_
 rw [e]
 simp only [ah]
 exact ⟨hb,_,cap,c,e1,f',rfl,h1,Nat.le_refl _,fun _=>rfl,.inr ⟨by simp,h2,by simpa using h3⟩⟩
end
end Dem
end
section
open Go
namespace Dem
section
variable {P:Program} {T:Nat→Option TI} {G:Nat→Option (List D)} {N:Nat}
theorem Q9 {o:Oper} {a:Act} {K K':Act→World→Prop} {Q Q':Exit→Act→World→Prop} (hK:∀a w,K a w→K' a w) (hQ:∀e a w,Q e a w→Q' e a w):∀r,o.upon P a K Q r→o.upon P a K' Q' r:=by
 intro r h
 unfold Oper.upon at h ⊢
 split at h
 ·exact hK _ _ h
 ·exact hK _ _ h
 ·exact hK _ _ h
 ·refine Calls.mono h ?_
  intro e w' hh
  cases e with
  |returned v=>exact hK _ _ hh
  |panicked ch=>exact hQ _ _ _ hh
  |outgrown=>obtain ⟨a,w,q⟩:=hh;exact ⟨a,w,hQ _ _ _ q⟩
 ·intro fr cs
  obtain ⟨v,w'',hR,hs⟩:=h fr cs
  exact ⟨v,w'',hK _ _ hR,hs⟩
 ·exact hQ _ _ _ h
 exact h.elim
theorem Iw {ops:Array Oper} {Q:Exit→Act→World→Prop} (hQ:∀a w,¬Q .outgrown a w) (cs:List Frame):∀(l:List Oper) (k:Nat) (a:Act) (w:World),(∀j,l[j]?=ops[k+j]?)→wpList P ops Q l a w→
 wpOpsS P ops (fun e a cs' w=>cs'=cs∧Q e a w) (List.range' k l.length) a cs w
 |[],k,a,w,h,hw=>⟨rfl,hw⟩
 |o::l,k,a,w,h,hw=>by
  have h0:ops[k]?=some o:=by simpa using (h 0).symm
  have ih:∀a w,wpList P ops Q l a w→wpOpsS P ops (fun e a cs' w=>cs'=cs∧Q e a w) (List.range' (k+1) l.length) a cs w:=fun a w=>
   Iw hQ cs l (k+1) a w (fun j=>by have:=h (j+1);simpa [Nat.add_assoc,Nat.add_comm 1 j] using this)
  simp only [List.length_cons,List.range'_succ,wpOpsS,h0]
  unfold wpList at hw
  by_cases UT:Region.wanted o (yielded ops a.tmps)=true
  ·simp only [UT,if_true] at hw ⊢
   have hw:=hw.resolve_right (fun h=>let ⟨a,w,q⟩:=h.2;hQ a w q)
   unfold Oper.wp at hw
   split
   ·rename_i w' hr
    rw [hr] at hw
    exact hw.elim
   exact Q9 (fun a w hh=>ih a w hh) (fun e a w hh=>⟨trv,hh⟩) _ hw
  simp only [UT,if_false,Bool.false_eq_true] at hw ⊢
  exact ih _ _ hw
def vV (P:Program):List Code→(Exit→Act→List Frame→World→Prop)→Act→List Frame→World→Prop
 |[],Q=>Q .normal
 |c::r,Q=>c.wpS P (Exit.thenS (vV P r Q) Q)
theorem rE {c:Code} {Q Q':Exit→Act→List Frame→World→Prop} {a:Act} {cs:List Frame} {w:World} (h:c.wpS P Q a cs w) (hq:∀e a cs w,Q e a cs w→Q' e a cs w):c.wpS P Q' a cs w:=
 fun b k hb hr=>let ⟨e,a',cs',w',q,r⟩:=h b k hb hr;⟨e,a',cs',w',hq _ _ _ _ q,r⟩
theorem yN:∀{l1 l2:List Code} {Q:Exit→Act→List Frame→World→Prop} {a:Act} {cs:List Frame} {w:World},vV P (l1++l2) Q a cs w→vV P l1 (Exit.thenS (vV P l2 Q) Q) a cs w
 |[],_,_,_,_,_,h=>h
 |c::l1,l2,Q,a,cs,w,h=>by
  refine rE (show c.wpS P (Exit.thenS (vV P (l1++l2) Q) Q) a cs w from h) ?_
  intro e a cs w hh
  cases e<;>simp only [Exit.thenS] at hh ⊢<;>first|exact yN hh|exact hh
theorem DN:∀{l:List Code} {Q Q':Exit→Act→List Frame→World→Prop} {a:Act} {cs:List Frame} {w:World},(∀e a cs w,Q e a cs w→Q' e a cs w)→vV P l Q a cs w→vV P l Q' a cs w
 |[],_,_,_,_,_,hq,h=>hq _ _ _ _ h
 |c::l,Q,Q',a,cs,w,hq,h=>by
  refine rE (show c.wpS P (Exit.thenS (vV P l Q) Q) a cs w from h) ?_
  intro e a cs w hh
  cases e<;>simp only [Exit.thenS] at hh ⊢<;>first|exact DN hq hh|exact hq _ _ _ _ hh
theorem fO {c:Code} {Q:Exit→Act→List Frame→World→Prop} {a:Act} {cs:List Frame} {w:World} (h:vV P [c] Q a cs w):c.wpS P Q a cs w:=by
 refine rE (show c.wpS P (Exit.thenS (vV P [] Q) Q) a cs w from h) ?_
 intro e a cs w hh
 cases e<;>simpa only [Exit.thenS,vV] using hh
theorem BO:∀(c:Code) {Q:Exit→Act→List Frame→World→Prop} {a:Act} {cs:List Frame} {w:World},vV P (flat c) Q a cs w→c.wpS P Q a cs w
 |.seq x y,Q,a,cs,w,h=>by
  have h:=yN (show vV P (flat x++flat y) Q a cs w from h)
  refine wpS_seq (rE (BO x h) ?_)
  intro e a cs w hh
  cases e<;>simp only [Exit.thenS] at hh ⊢<;>first|exact BO y hh|exact hh
 |.skip,_,_,_,_,h=>fO h
 |.region ..,_,_,_,_,h=>fO h
 |.cond ..,_,_,_,_,h=>fO h
 |.block ..,_,_,_,_,h=>fO h
 |.loop ..,_,_,_,_,h=>fO h
 |.rangeFunc ..,_,_,_,_,h=>fO h
 |.exit ..,_,_,_,_,h=>fO h
 |.scope ..,_,_,_,_,h=>fO h
 |.label ..,_,_,_,_,h=>fO h
 |.goto ..,_,_,_,_,h=>fO h
 |.ret,_,_,_,_,h=>fO h
 |.refuse ..,_,_,_,_,h=>fO h
theorem yO {cs:List Frame}:∀{l:List Code} {Q:Exit→Act→World→Prop} {a:Act} {w:World},p9 P l Q a w→vV P l (fun e a cs' w=>cs'=cs∧Q e a w) a cs w
 |[],_,_,_,h=>⟨rfl,h⟩
 |c::l,Q,a,w,h=>by
  refine wpS_of_wp (wp_mono (show c.wp P (Exit.then (p9 P l Q) Q) a w from h) ?_)
  intro e a w hh
  cases e<;>simp only [Exit.then,Exit.thenS] at hh ⊢<;>first|exact yO hh|exact ⟨trv,hh⟩
def zy (P:Program) (G:Nat→Option (List D)) (f:Nat) (args:List AV) (bx:List ar) (res:ff) (aF:List ar):Prop:=
 ∀(β:Nat→Nat) (w:World) (vs:List Value) (X:Nat→Prop),cr G β bx w X→aj β bx w (aY β bx w X) args vs→(callFunc f ⟨vs⟩).run P w=.ok (.enter f ⟨vs⟩) w∧
  CallsD P f ⟨vs⟩ .returning w fun e u' w'=>u'=.returning∧∃β',Ext β bx w β' aF w'∧cr G β' aF w' X∧fq β' aF w' (aY β' aF w' X) res e
def Wm (t:Th) (FC:Nat→List AV→List ar→ff→List ar→Prop) (T:Nat→Option TI) (G:Nat→Option (List D)) (N K:Nat) (ops:List Oper) (rest:List Code) (Q:Ex→St→Prop) (s:St):Prop:=
 match ops with
 |o::l=>match o.op,o.guard with
  |.call {callee:=.builtin .recover,args,..},none=>args=#[]∧fK N o.dst=true∧Jz t FC T G N ops l (fun e s=>mY (fun s=>AS t FC T G N K rest Q s) Q e s) ⟨dQ o.dst (.k .nilIface) s.sl,s.bx⟩
  |_,_=>False
 |[]=>False
theorem BP (hT:iz P T) (hD:kQ P T G) {f:Nat} {fn:Func} {c:Code} {args:List AV} {aB aF:List ar} {res:ff} (hf:P.funcs[f]?=some fn) (hb:fn.body=some c)
 (hname:(fn.name== "runtime.NumGoroutine")=false) (hN:fn.ntmps=N) (hlen:Nat.ble args.length N=true) {id:Nat} {ops:Array Oper} {rest:List Code} (hc:flat c=.region id ops false::rest)
 (h:Wm t0 (aZ P G) T G N aB.length ops.toList rest (jB t0 T fn.results.toList aB.length res aF) ⟨gm 0 args,aB⟩):zy P G f args aB res aF:=by
 intro β w vs X cx hx
 refine ⟨by simp [callFunc,run_program,hf,hb];simpa using hname,callsD_of_wpS hf hb fun c₀ cs hm=>BO c ?_⟩
 rw [hc]
 have hF:=AT (G:=G) (X:=X) hN hlen cx hx
 unfold Wm at h
 split at h
 case h_2=>exact h.elim
 rename_i o l GI
 split at h
 case h_2=>exact h.elim
 rename_i args' ats ho hg
 obtain ⟨ha,hd,h⟩:=h
 have hc0:({c₀ with mode:=.returning}:Frame)=c₀:=by rw [←hm]
 have hsz:ops.size=l.length+1:=by rw [←Array.length_toList,GI];rfl
 have h0:ops[0]?=some o:=by rw [←Array.getElem?_toList,GI];rfl
 refine rE (Q:=fun e a cs' w'=>cs'=c₀::cs∧dY G N [] X β aB w (fun e s=>mY (fun s=>AS t0 (aZ P G) T G N aB.length rest (jB t0 T fn.results.toList aB.length res aF) s) (jB t0 T fn.results.toList aB.length res aF) e s) e a w') (wpS_region ?_) ?_
 ·rw [hsz,List.range_eq_range',List.range'_succ]
  simp only [wpOpsS,h0]
  rw [if_pos (by simp [Region.wanted,hg])]
  have hr:∀ev,(execOp ev o).run P w=.ok .recover w:=by
   intro ev
   simp [execOp,ho,ha,resolve,invoke]
   rfl
  rw [hr]
  have wY:recoverD (c₀::cs)=none:=by simp only [recoverD,hm]
  simp only [wY]
  refine Iw (fun a w hh=>by simp [dY] at hh) (c₀::cs) l 1 _ _ (fun j=>by rw [←Array.getElem?_toList,GI,Nat.add_comm];rfl) ?_
  refine jL hT l β w _ _ (Ext.refl _ _ _) (hF.put (Ext.refl _ _ _) hF.cx hd ?_) (Ev _ _ h)
  simp only [ah];rfl
 rintro e a1 cs1 w1 ⟨rfl,hl⟩
 have fin:∀(e:Exit) (a2:Act) (w2:World),dY G N [] X β aB w (jB t0 T fn.results.toList aB.length res aF) e a2 w2→
  bodyPostS P fn c₀ cs (fun e u' w'=>u'=.returning∧∃β',Ext β aB w β' aF w'∧cr G β' aF w' X∧fq β' aF w' (aY β' aF w' X) res e) e a2 (c₀::cs) w2:=by
  intro e a2 w2 hl
  have out:∀β' s,Ext β aB w β' s.bx w2→Fr G N [] β' w2 X s a2→(∃e',CF T fn.results.toList aB.length res aF e' s∧(e'=.normal∨e'=.ret))→
   a2.defers=[]∧∃u',(c₀::cs)={c₀ with mode:=u'}::cs∧∃v,(results fn a2.tmps).run P w2=.ok v w2∧u'=.returning∧∃β',Ext β aB w β' aF w2∧cr G β' aF w2 X∧fq β' aF w2 (aY β' aF w2 X) res (.returned v):=by
   rintro β' s ex zl ⟨e',hq,he⟩
   obtain ⟨v,k1,k2⟩:=EC hT ex zl (res:=res) (aF:=aF) (by rcases he with rfl|rfl<;>exact hq)
   exact ⟨zl.defers,.returning,by rw [hc0],v,k1,rfl,k2⟩
  cases e<;>simp only [dY,bodyPostS] at hl ⊢
  ·obtain ⟨β',s,k1,k2,k3⟩:=hl
   exact out β' s k1 k2 ⟨.normal,oX k3,.inl rfl⟩
  ·obtain ⟨β',s,k1,k2,k3⟩:=hl;exact k3
  ·obtain ⟨β',s,k1,k2,k3⟩:=hl
   exact out β' s k1 k2 ⟨.ret,oX k3,.inr rfl⟩
  obtain ⟨β',jk,v,u,k1,k2,k3,k4,k5,k6⟩:=hl
  obtain ⟨rfl,rfl⟩:=OH.ok k6
  exact ⟨k5,.returning,by rw [hc0],rfl,β',k2,k3,u,k1,k4⟩
 cases e<;>simp only [Exit.thenS,dY,mY] at hl ⊢
 ·obtain ⟨β1,s1,uQ,Ce,h1⟩:=hl
  refine DN ?_ (yO (fI (X:=X) (β0:=β) (aB:=aB) (w0:=w) hT hD (Nat.le_refl _) rest _ β1 w1 s1 a1 uQ Ce h1))
  rintro e a2 cs2 w2 ⟨rfl,oP⟩
  exact fin e a2 w2 oP
 all_goals exact fin _ a1 w1 hl
theorem xk (hT:iz P T) (hD:kQ P T G) {f N:Nat} {fn:Func} {c:Code} {args:List AV} {aB aF:List ar} {res:ff} (hf:P.funcs[f]?=some fn) (hb:fn.body=some c)
 (hname:(fn.name== "runtime.NumGoroutine")=false) (hN:fn.ntmps=N) (hlen:Nat.ble args.length N=true) {pre post:List Code} {id:Nat} {ops:Array Oper} (hc:flat c=pre++.region id ops false::post)
 (h:ED t0 (aZ P G) (zy P G) T G N pre ops.toList post fn.results.toList aB.length res aF ⟨gm 0 args,aB⟩):aZ P G f args aB res aF:=by
 intro β w vs X cx hx
 refine .inl ⟨by simp [callFunc,run_program,hf,hb];simpa using hname,calls_of_wp_defers hf hb (vt c ?_)⟩
 rw [hc]
 refine m8 (og ?_ (fI hT hD (Nat.le_refl _) pre _ β w _ _ (Ext.refl _ _ _) (AT hN hlen cx hx) h))
 intro e a1 w1 hl
 cases e<;>simp only [dY,Exit.then] at hl ⊢
 case normal=>
  obtain ⟨β1,s1,uQ,Ce,hop⟩:=hl
  show (Code.region id ops false).wp P (Exit.then (p9 P post _) _) a1 w1
  refine wp_region_list (qV (β0:=β) (aB:=aB) (w0:=w) hT ?_ ?_ ops.toList β1 w1 s1 a1 uQ Ce hop)
  ·intro β2 w2 s2 a2 x v R9 zl hk hv hr
   simp only [Exit.then]
   split at hk
   case h_2=>exact hk.elim
   rename_i g dB
   cases pO:eA dB with
   |false=>simp [pO] at hk
   |true=>
   simp only [pO,cond_true] at hk
   simp only [ah] at hv
   obtain ⟨MU,rfl,uT⟩:=hv
   rw [kE pO uT] at hr ⊢
   simp only
   have VC:Fr G N [{target:=.fn (.func g) ⟨MU⟩,args:=#[]}] β2 w2 X s2 {a2 with defers:={target:=.fn (.func g) ⟨MU⟩,args:=#[]}::a2.defers}:=
    ⟨zl.cx,by rw [zl.defers],zl.size,zl.wF⟩
   refine og ?_ (fI (β0:=β2) (aB:=s2.bx) (w0:=w2) hT hD (Nat.le_refl _) post _ β2 w2 s2 _ (Ext.refl _ _ _) VC hk)
   have fin:∀(β3:Nat→Nat) (w3:World) (s3:St) (a3:Act),Ext β2 s2.bx w2 β3 s3.bx w3→Fr G N [{target:=.fn (.func g) ⟨MU⟩,args:=#[]}] β3 w3 X s3 a3→
    vu (zy P G) g dB s3.bx (fun jk=>match uE T s3.sl jk fn.results.toList with
     |some (c,vs)=>AN aB.length c (nT vs) jk (C2 t0 jk (nT vs)) res aF
     |none=>False)→Leaves P fn a3.tmps (fun e w'=>∃β',Ext β aB w β' aF w'∧cr G β' aF w' X∧fq β' aF w' (aY β' aF w' X) res e) a3.defers .returning w3:=by
    intro β3 w3 s3 a3 Yk Ez hdf
    obtain ⟨jk,hfd,hq⟩:=hdf
    rw [Ez.defers]
    have JH:=aj.mono (Yk.dN X) _ _ uT
    obtain ⟨hi,hcd⟩:=hfd β3 w3 MU X Ez.cx JH
    refine leaves_cons (f:=g) (args:=⟨MU⟩) (by simp) (by simpa [invoke] using hi) (hcd.mono ?_)
    rintro e u' w4 ⟨rfl,β4,Yl,cx4,hres⟩
    cases e with
    |returned v=>
     simp only [Leaves,settle]
     have hF4:Fr G N [{target:=.fn (.func g) ⟨MU⟩,args:=#[]}] β4 w4 X ⟨s3.sl,jk⟩ a3:=⟨cx4,Ez.defers,Ez.size,fun t=>ah.mono (Yl.dN X) _ _ (Ez.wF t)⟩
     have Ym:=oX (T:=T) (results:=fn.results.toList) (n:=aB.length) (res:=res) (aF:=aF) (e:=.ret) (s:=⟨s3.sl,jk⟩) hq
     exact EC hT (((R9.trans Yk)).trans Yl) hF4 Ym
    |panicked ch=>simp [fq] at hres
    |outgrown=>simp [fq] at hres
   intro e a3 w3 G5
   cases e<;>simp only [dY,bodyPostD,JG] at G5 ⊢
   ·obtain ⟨β3,s3,k1,k2,k3⟩:=G5;exact fin β3 w3 s3 a3 k1 k2 k3
   ·obtain ⟨β3,s3,k1,k2,k3⟩:=G5;exact k3
   ·obtain ⟨β3,s3,k1,k2,k3⟩:=G5;exact fin β3 w3 s3 a3 k1 k2 k3
   obtain ⟨_,_,_,_,_,_,_,_,_,k3⟩:=G5;exact k3.elim
  intro x s hk
  split at hk
  ·rename_i g dB
   cases pO:eA dB with
   |false=>simp [pO] at hk
   |true=>exact ⟨_,_,rfl,pO⟩
  exact hk.elim
 case exit=>obtain ⟨_,_,_,_,k⟩:=hl;exact k.elim
 case ret=>obtain ⟨_,_,_,_,k⟩:=hl;exact k.elim
 case panic=>obtain ⟨_,_,_,_,_,_,_,_,_,k⟩:=hl;exact k.elim
end
end Dem
end
section
open Go Dem Go.Proofs
namespace Dem
theorem fcV {t:Th} (ht:TT t) (k i:Nat) {f N:Nat} {fn:Func} {c:Code} {args:List AV} {aB aF:List ar} {res:ff} (hf:Tryz.prog.funcs[f]?=some fn) (hb:fn.body=some c)
 (hname:(fn.name== "runtime.NumGoroutine")=false) (hN:fn.ntmps=N) {rs:List ResultVar} (D9:fn.results.toList=rs) {n:Nat} (hn:aB.length=n) (hlen:Nat.ble args.length N=true)
 (h:AS t FC tT gl N n ((flat c).take k) (fun e s=>match e with|.normal=>Q8 t FC tT gl N n ((flat c).drop k) i (jB t tT rs n res aF) s|e=>jB t tT rs n res aF e s) ⟨gm 0 args,aB⟩):FC f args aB res aF:=by
 subst D9;subst hn
 have e:=ht.eq
 subst e
 exact rD JF nF hf hb hname hN hlen (List.take_append_drop k (flat c)).symm _ (fun X β0 w0 β w s a ex hF hR=>Iv JF nF (Nat.le_refl _) ex hF hR) h
def Zv:Nat→List AV→List ar→ff→List ar→Prop:=zy Tryz.prog gl
theorem YI {t:Th} (ht:TT t) {f N:Nat} {fn:Func} {c:Code} {args:List AV} {aB aF:List ar} {res:ff} (hf:Tryz.prog.funcs[f]?=some fn) (hb:fn.body=some c)
 (hname:(fn.name== "runtime.NumGoroutine")=false) (hN:fn.ntmps=N) {rs:List ResultVar} (D9:fn.results.toList=rs) {n:Nat} (hn:aB.length=n) (hlen:Nat.ble args.length N=true)
 {pre post:List Code} {id:Nat} {ops:Array Oper} (hs:tW (flat c)=some (pre,id,ops,post))
 (h:ED t FC Zv tT gl N pre ops.toList post rs n res aF ⟨gm 0 args,aB⟩):FC f args aB res aF:=by
 subst D9;subst hn
 have e:=ht.eq
 subst e
 exact xk JF nF hf hb hname hN hlen (rZ hs) h
theorem YJ {t:Th} (ht:TT t) {f N:Nat} {fn:Func} {c:Code} {args:List AV} {aB aF:List ar} {res:ff} (hf:Tryz.prog.funcs[f]?=some fn) (hb:fn.body=some c)
 (hname:(fn.name== "runtime.NumGoroutine")=false) (hN:fn.ntmps=N) {rs:List ResultVar} (D9:fn.results.toList=rs) {n:Nat} (hn:aB.length=n) (hlen:Nat.ble args.length N=true)
 {id:Nat} {ops:Array Oper} {rest:List Code} (hs:flat c=.region id ops false::rest)
 (h:Wm t FC tT gl N n ops.toList rest (jB t tT rs n res aF) ⟨gm 0 args,aB⟩):Zv f args aB res aF:=by
 subst D9;subst hn
 have e:=ht.eq
 subst e
 exact BP JF nF hf hb hname hN hlen hs h
end Dem
end
section
open Go Dem Go.Proofs
namespace Dem
variable {t:Th}
theorem NW {l:List bZ} {es:List (List D)} {i m:Nat} (aD:es=l.map bZ.cells) (hi:i<l.length) (hm:m+1=l.length):
 wrote (wrote (List.replicate m [D.int IntKind.u64 0,D.int IntKind.i64 0]) 0 (es.take i)) i (es.drop (i+1))=(l.eraseIdx i).map bZ.cells:=by
 have hl:es.length=l.length:=by rw [aD,lgM]
 simp only [wrote,List.take_zero,List.nil_append,Nat.zero_add,List.length_take,List.length_drop,List.drop_replicate,List.eraseIdx_eq_take_drop_succ,List.map_append,List.map_take,List.map_drop,←aD]
 have d1:(List.take i es).length=i:=by rw [List.length_take];omega
 have d2:List.drop (i+(es.length-(i+1))) (List.take i es++List.replicate (m-i) [D.int IntKind.u64 0,D.int IntKind.i64 0])=[]:=List.drop_eq_nil_of_le (by rw [List.length_append,d1,List.length_replicate];omega)
 rw [Nat.min_eq_left (by omega),List.take_append_of_le_length (by omega),List.take_take,Nat.min_self,d2,List.append_nil]
theorem Ix (ht:TT t) (id:Int) {l:List bZ} {es:List (List D)} (aD:es=l.map bZ.cells) (hl:l.length<1000000):
 FC 66 [SL es,ax id] [] (.ret (YH t (t _ fun _=>A6 l id))) []:=by
 refine fcV ht 5 7 (aB:=[]) Tryz.func66 rfl rfl (N:=32) rfl rfl (n:=0) rfl rfl ?_
 cbv
 have av:es.length=l.length:=by rw [aD,lgM]
 refine ay trv (sD ht _ ‹_› (by omega)) trv rfl rfl (fun r0 bF=>?_)
 simp only [ht] at bF
 have ec:=cS bF
 clear bF
 rcases ec with ⟨e1,e2,e3⟩|⟨i,x,hi,hil,e1,e2,e3,e4⟩
 ·cbv
  refine ai (fun h1=>?_) (fun h1=>?_)
  ·simp [ht] at h1
   cbv
   refine ak trv trv rfl rfl rfl ?_
   (simp [A6, *];done)
  simp [ht] at h1
  omega
 obtain ⟨m,hm⟩:∃m,m+1=l.length:=⟨l.length-1,by omega⟩
 obtain ⟨i1,hi1⟩:∃n,n=i+1:=⟨_,rfl⟩
 obtain ⟨mi,Ck⟩:∃n,n=m-i:=⟨_,rfl⟩
 have tr:=NW aD hil hm
 rw [←hi1] at tr
 obtain ⟨R1,Wj⟩:∃R,R=wrote (List.replicate m [D.int IntKind.u64 0,D.int IntKind.i64 0]) 0 (es.take i):=⟨_,rfl⟩
 obtain ⟨R2,Wk⟩:∃R,R=wrote R1 i (es.drop i1):=⟨_,rfl⟩
 have hr:∀r∈es,r.length=2:=by rw [aD];intro r hr;obtain ⟨y,_,rfl⟩:=List.mem_map.1 hr;rfl
 have hw:IntKind.i64.wrap ((es.length:Int)-1)=(m:Int):=by rw [wrap64 (by omega) (by omega)];omega
 have hw1:IntKind.i64.wrap (r0+1)=(i1:Int):=by rw [wrap64 (by omega) (by omega)];omega
 have Iu:R1.length=m:=by rw [Wj];simp [wrote];omega
 have aa1:R2.length=m:=by rw [Wk];simp [wrote,Iu];omega
 rw [←Wj,←Wk] at tr
 cbv
 refine ai (fun h2=>?_) (fun h2=>?_)
 ·simp [ht] at h2
  rw [hi] at h2;simp only [aa] at h2;exact absurd h2 (by omega)
 simp [ht] at h2
 cbv
 refine ⟨?_,?_⟩
 ·simp only [aa] at hw;simp only [ht,aa,hw];refine ⟨by omega,trv,?_⟩;simp only [Int.toNat_natCast];omega
 refine ⟨fun c hc hc0=>?_⟩
 cbv
 simp only [aa] at hw hi hw1 tr
 have hcm:m≤c:=by simpa only [ht,aa,hw,Int.toNat_natCast] using hc
 refine ⟨?_,?_⟩
 ·simp only [ht,bQ];exact ⟨⟨h2,by omega⟩,hr⟩
 refine bP (bc (i:Int)) [.row 2 R1] ?_ ?_ ?_ ?_
 ·simp only [ht,aa,hw,hi,fX,Int.toNat_natCast,fe,List.length_take,List.length_replicate]
  refine ⟨⟨by omega,fun h=>?_⟩,fun r h=>hr r (List.mem_of_mem_take (List.mem_of_mem_take h))⟩
  have:=congrArg List.length h
  simp only [List.length_replicate,List.length_nil] at this
  omega
 ·simp only [ht,aa,hw,hi,fX,Int.toNat_natCast,List.length_take]
  rw [Nat.min_eq_left (by omega),Nat.min_eq_left (by omega)]
 ·simp only [ht,aa,hw,hi,fX,Int.toNat_natCast,List.length_take]
  rw [Wj,Nat.min_eq_left (by omega),Nat.min_eq_left (by omega),List.take_take,Nat.min_self]
 cbv
 refine bS [false,false,false,false,false,false,false,true] (by kernel_rfl) (by kernel_rfl) ?_
 cbv
 refine gI (by simp) (gI (by simp) ?_)
 obtain ⟨ci,uo⟩:∃n,n=c-i:=⟨_,rfl⟩
 refine iR (.vw 0 2 i mi ci true) (fun _=>⟨?_,?_⟩) ?_
 ·simp only [ht,aa,hw,hi,dX,bQ,Int.toNat_natCast];omega
 ·simp only [ht,aa,hw,hi,aT,aS,Int.toNat_natCast,Option.getD_some,Nat.zero_add];rw [Ck,uo]
 cbv
 refine gI (by simp) (gI (by simp) (gI (by simp) (gI (fun _=>?_) ?_)))
 ·simp only [ht,aa,hw1,bQ];exact ⟨⟨by omega,by omega⟩,hr⟩
 refine bP (bc (mi:Int)) [.row 2 R2,.bt] ?_ ?_ ?_ ?_
 ·simp only [ht,aa,hw1,fX,Int.toNat_natCast,fe,List.length_drop]
  refine ⟨⟨by omega,fun h=>?_⟩,fun r h=>hr r (List.mem_of_mem_drop (List.mem_of_mem_take h))⟩
  rw [h] at Iu;simp only [List.length_nil] at Iu;omega
 ·simp only [ht,aa,hw1,fX,Int.toNat_natCast,List.length_drop]
  rw [Nat.min_eq_right (by omega)]
 ·simp only [ht,aa,hw1,fX,Int.toNat_natCast,List.length_drop]
  rw [Wk,List.take_of_length_le (by rw [List.length_drop];omega)]
 cbv
 refine ak trv ?_ rfl rfl rfl ?_
 ·simp only [ht,aa,hw,Int.toNat_natCast];exact ⟨by omega,trv⟩
 simp only [ht,aa,hw,Int.toNat_natCast,A6,e3,List.drop_zero,tr]
 rw [List.take_of_length_le (by rw [←tr];omega)]
theorem KY {l:List Jb} {id r:Int} (h:r=JV l id) {P:Jb→Prop} (hP:∀x∈l,P x):(r=-1∧l.findIdx? (fun j=>decide (j.id=id))=none)∨
 ∃(i:Nat) (xi xa xb xc xd xn xp xt xf:Int) (xq:aA) (xr:Bool) (xl:List Term),r=i∧i<l.length∧l[i]?=some ⟨xi,⟨xq,⟨xa,xb,xc,xd⟩,xn,xp,xt,xl⟩,xr,xf⟩∧l.findIdx? (fun j=>decide (j.id=id))=some i∧
  l.getD i Jb.zero=⟨xi,⟨xq,⟨xa,xb,xc,xd⟩,xn,xp,xt,xl⟩,xr,xf⟩∧P ⟨xi,⟨xq,⟨xa,xb,xc,xd⟩,xn,xp,xt,xl⟩,xr,xf⟩∧xi=id:=by
 rcases cS h with ⟨e1,e2,_⟩|⟨i,⟨xi,⟨xq,⟨xa,xb,xc,xd⟩,xn,xp,xt,xl⟩,xr,xf⟩,e1,e2,e3,e4,e5,_⟩
 ·exact .inl ⟨e1,e2⟩
 exact .inr ⟨i,xi,xa,xb,xc,xd,xn,xp,xt,xf,xq,xr,xl,e1,e2,e3,e5,by rw [List.getD_eq_getElem?_getD,e3];rfl,hP _ (List.mem_of_getElem? e3),by simpa using e4⟩
theorem jg (s:cJ) (j:Jb):nh s j=⟨s.round,s.next,(nh s j).bC,(nh s j).tree,s.aL,s.queue,s.ev,s.au⟩:=rfl
theorem Mq (ht:TT t) (rd nx ef af:Int) {nl:List Node} {pl:List Place} {tl:List aQ} {jl:List Jb} {ql:List bZ} {el al:List cF} {ns ps ts js qs es dm:List (List D)} (gR:ns=nl.map Node.cells) (hps:ps=pl.map Place.cells) (hts:ts=tl.map aQ.cells) (fU:js=jl.map Jb.cells) (fG:qs=ql.map bZ.cells) (aD:es=el.map cF.cells) (has:dm=al.map cF.cells) (id kd:Int) (gD:∀x∈jl,x.x.fZ.u'∧x.x.path.length<1000000000000) (htl:tl.length<100000) (hjl:jl.length<1000000) (pO:pl.length<1000000) (UU:ql.length<1000000) (hel:el.length<1000000):
 FC 30 [.agg [ax rd,ax nx,SL ns,SL ps,SL ts,SL js,SL qs,ax ef,SL es,ax af,SL dm],ax id,bc kd] [] (.ret (Q5 t (t _ fun _=>nj ⟨rd,nx,⟨nl,pl⟩,tl,jl,ql,⟨ef,el⟩,⟨af,al⟩⟩ id kd))) []:=by
 refine bA ht (aB:=[]) Tryz.func30 rfl rfl (N:=49) rfl rfl (n:=0) rfl rfl ?_
 cbv
 have fc:ns.length=nl.length:=by rw [gR,lgM]
 have fA:ps.length=pl.length:=by rw [hps,lgM]
 have fT:ts.length=tl.length:=by rw [hts,lgM]
 have dj:js.length=jl.length:=by rw [fU,lgM]
 have dL:qs.length=ql.length:=by rw [fG,lgM]
 have av:es.length=el.length:=by rw [aD,lgM]
 have dP:dm.length=al.length:=by rw [has,lgM]
 refine ay trv (sC ht _ _ _ _ _ _ _ _ _ _ _ ‹_› (by omega)) trv rfl rfl (fun r0 bF=>?_)
 simp only [ht] at bF
 have ec:=KY bF gD
 clear bF
 rcases ec with ⟨e1,e2⟩|⟨i,xi,xa,xb,xc,xd,xn,xp,xt,xf,xq,xr,xl,e1,e2,e3,e4,e5,⟨e6,e7⟩,e8⟩
 ·cbv
  refine ai (fun h1=>?_) (fun h1=>?_)
  ·simp [ht] at h1
   cbv
   refine ak trv trv rfl rfl rfl ?_
   (simp [nj, *];done)
  simp [ht] at h1
  omega
 cbv
 refine ai (fun h2=>?_) (fun h2=>?_)
 ·simp [ht] at h2
  (simp only [aa] at*;omega)
 simp [ht] at h2
 cbv
 refine Cs ht fU (cT:=Jb.aK t) e3 ‹_› (fun _=>rfl) (fun _=>(by (simp only [ht,Jb.aK];rfl))) ?_
 cbv
 refine ai (fun h4=>?_) (fun h4=>?_)
 ·simp [ht] at h4
  cbv
  refine ak trv trv rfl rfl rfl ?_
  (simp only [ht,nj,e4,e5];simp [*];done)
 simp [ht] at h4
 cbv
 refine aU trv (Is ht _ _ _ _ ‹_› ‹_› ‹_› ‹_› ‹_› ‹_› ‹_› _ _ _ _ _ _ _ _ _ _ _ (jE ht rfl) ‹_› ‹_› ‹_› ‹_›) trv rfl rfl rfl (fun r5 jh=>?_)
 simp only [ht] at jh
 (rw [jg] at jh;generalize Pf:(nh ⟨rd,nx,⟨nl,pl⟩,tl,jl,ql,⟨ef,el⟩,⟨af,al⟩⟩ ⟨xi,⟨xq,⟨xa,xb,xc,xd⟩,xn,xp,xt,xl⟩,xr,xf⟩).bC=fp at jh;generalize hft:(nh ⟨rd,nx,⟨nl,pl⟩,tl,jl,ql,⟨ef,el⟩,⟨af,al⟩⟩ ⟨xi,⟨xq,⟨xa,xb,xc,xd⟩,xn,xp,xt,xl⟩,xr,xf⟩).tree=ft at jh;subst r5)
 cbv
 refine aU trv (BJ ht _ _ (jE ht rfl) ‹_›) trv rfl rfl rfl (fun r6 gk=>?_)
 simp only [ht] at gk
 cbv
 refine aU trv (Mp ht _ _ _ _ (jE ht rfl) (jE ht rfl) (jE ht rfl) (jE ht rfl) (jE ht rfl) (jE ht rfl) (jE ht rfl) _ _ _ _ _ _ _ _ _ _ _ (jE ht rfl) ‹_› ‹_› ‹_›) trv rfl rfl rfl (fun r7 gE=>?_)
 simp only [ht] at gE
 have Zk:(r7).ev.l.length<1000000:=by rw [gE];exact hel
 cbv
 refine aU trv (oy ht _ _ _ _ _ _ (jE ht rfl) (jE ht rfl) (jE ht rfl) (jE ht rfl) (jE ht rfl) (jE ht rfl) (jE ht rfl) ‹_›) trv rfl rfl rfl (fun r8 sO=>?_)
 simp only [ht] at sO
 cbv
 refine ak trv trv rfl rfl rfl ?_
 (simp only [ht,nj,e4,e5,sO,gE,gk];rw [jg,Pf,hft];simp [*];done)
theorem KZ (ht:TT t) (rd nx ef af:Int) {nl:List Node} {pl:List Place} {tl:List aQ} {jl:List Jb} {ql:List bZ} {el al:List cF} {ns ps ts js qs es dm:List (List D)} (gR:ns=nl.map Node.cells) (hps:ps=pl.map Place.cells) (hts:ts=tl.map aQ.cells) (fU:js=jl.map Jb.cells) (fG:qs=ql.map bZ.cells) (aD:es=el.map cF.cells) (has:dm=al.map cF.cells) (id kd:Int) (gD:∀x∈jl,x.x.fZ.u'∧x.x.path.length<1000000000000) (htl:tl.length<100000) (hjl:jl.length<1000000) (pO:pl.length<1000000) (UU:ql.length<1000000) (hel:el.length<1000000):
 FC 22 [.agg [ax rd,ax nx,SL ns,SL ps,SL ts,SL js,SL qs,ax ef,SL es,ax af,SL dm],ax id,bc kd] [] (.ret (Q5 t (t _ fun _=>send ⟨rd,nx,⟨nl,pl⟩,tl,jl,ql,⟨ef,el⟩,⟨af,al⟩⟩ id kd))) []:=by
 refine bA ht (aB:=[]) Tryz.func22 rfl rfl (N:=48) rfl rfl (n:=0) rfl rfl ?_
 cbv
 have fc:ns.length=nl.length:=by rw [gR,lgM]
 have fA:ps.length=pl.length:=by rw [hps,lgM]
 have fT:ts.length=tl.length:=by rw [hts,lgM]
 have dj:js.length=jl.length:=by rw [fU,lgM]
 have dL:qs.length=ql.length:=by rw [fG,lgM]
 have av:es.length=el.length:=by rw [aD,lgM]
 have dP:dm.length=al.length:=by rw [has,lgM]
 refine ay trv (sC ht _ _ _ _ _ _ _ _ _ _ _ ‹_› (by omega)) trv rfl rfl (fun r0 bF=>?_)
 simp only [ht] at bF
 have ec:=KY bF gD
 clear bF
 rcases ec with ⟨e1,e2⟩|⟨i,xi,xa,xb,xc,xd,xn,xp,xt,xf,xq,xr,xl,e1,e2,e3,e4,e5,⟨e6,e7⟩,e8⟩
 ·cbv
  refine ai (fun h1=>?_) (fun h1=>?_)
  ·simp [ht] at h1
   cbv
   refine ak trv trv rfl rfl rfl ?_
   (simp [send, *];done)
  simp [ht] at h1
  omega
 cbv
 refine ai (fun h2=>?_) (fun h2=>?_)
 ·simp [ht] at h2
  (simp only [aa] at*;omega)
 simp [ht] at h2
 cbv
 refine Cs ht fU (cT:=Jb.aK t) e3 ‹_› (fun _=>rfl) (fun _=>(by (simp only [ht,Jb.aK];rfl))) ?_
 cbv
 refine ai (fun h4=>?_) (fun h4=>?_)
 ·cbv
  refine bS [false,false,false,false,false,false,true,true] (by kernel_rfl) (by kernel_rfl) ?_
  cbv
  iterate 4 refine gI (by simp) ?_
  refine Cs ht fU (cT:=Jb.aK t) e3 ‹_› (fun _=>rfl) (fun _=>(by (simp only [ht,Jb.aK];rfl))) ?_
  cbv
  refine gI (by simp) ?_
  refine aU trv (Is ht _ _ _ _ ‹_› ‹_› ‹_› ‹_› ‹_› ‹_› ‹_› _ _ _ _ _ _ _ _ _ _ _ (jE ht rfl) ‹_› ‹_› ‹_› ‹_›) trv rfl rfl rfl (fun r6 gk=>?_)
  simp only [ht] at gk
  (rw [jg] at gk;generalize Pf:(nh ⟨rd,nx,⟨nl,pl⟩,tl,jl,ql,⟨ef,el⟩,⟨af,al⟩⟩ ⟨xi,⟨xq,⟨xa,xb,xc,xd⟩,xn,xp,xt,xl⟩,xr,xf⟩).bC=fp at gk;generalize hft:(nh ⟨rd,nx,⟨nl,pl⟩,tl,jl,ql,⟨ef,el⟩,⟨af,al⟩⟩ ⟨xi,⟨xq,⟨xa,xb,xc,xd⟩,xn,xp,xt,xl⟩,xr,xf⟩).tree=ft at gk;subst r6)
  cbv
  refine pQ trv (rC ht (jE ht rfl) ‹_›) trv rfl (.inr rfl) ?_
  cbv
  (simp only [aa] at e1;refine cD [3] trv rfl rfl (vU ht (l:=jl) (i:=i) ‹_› (by simp only [ht];rw [wrap64 (by omega) (by omega),e1]) e2 (by omega)) (bK ?_))
  cbv
  refine aU trv (oy ht _ _ _ _ _ _ (jE ht rfl) (jE ht rfl) (jE ht rfl) (jE ht rfl) (jE ht rfl) (jE ht rfl) (jE ht rfl) ‹_›) trv rfl rfl rfl (fun r7 gE=>?_)
  simp only [ht] at gE
  cbv
  refine ak trv trv rfl rfl rfl ?_
  (subst h4;simp only [ht,send,e4,e5,gE,if_true];rw [jg,Pf,hft];done)
 cbv
 refine aU trv (Ix ht _ ‹_› ‹_›) trv rfl rfl rfl (fun r8 sO=>?_)
 simp only [ht] at sO
 cbv
 refine pQ trv (rC ht ‹_› ‹_›) trv rfl (.inr rfl) ?_
 cbv
 (simp only [aa] at e1;refine cD [2] trv rfl rfl (vU ht (l:=jl) (i:=i) ‹_› (by simp only [ht];rw [wrap64 (by omega) (by omega),e1]) e2 (by omega)) (bK ?_))
 cbv
 refine aU trv (oy ht _ _ _ _ _ _ ‹_› ‹_› ‹_› (jE ht rfl) (jE ht rfl) ‹_› ‹_› ‹_›) trv rfl rfl rfl (fun r9 dz=>?_)
 simp only [ht] at dz
 cbv
 refine ak trv trv rfl rfl rfl ?_
 (simp only [ht,send,e4,e5];simp [*];done)
end Dem
end
