/- Parts of a proof, joined. -/
import Derived.Test.YtjnbpclolnmimaaGreatDoorJ28
set_option linter.unusedSimpArgs false
set_option linter.unusedVariables false
set_option maxRecDepth 100000
set_option maxHeartbeats 4000000
section
open Go Dem Go.Proofs
namespace Dem
variable {t:Th}
theorem O2:∀c<8,∀i<4,(eS (c*32) i).nodes.length≤4:=by decide+kernel
theorem Cu {N i:Nat} (hN:N<256) (hi:i<4):(eS N i).nodes.length<1000000000:=by
 rw [IT]
 have:=O2 (N / 32) (by omega) i hi
 omega
theorem LI:∀k,∀p∈Ch k,p.sm:=by
 intro k p hp
 unfold Ch at hp
 split at hp
 ·rw [List.mem_singleton.1 hp]
  rename_i h
  have:k=0∨k=1:=by omega
  rcases this with rfl|rfl<;>exact ⟨by decide,by decide⟩
 cases hp
theorem So:∀k<3,∀N<256,(((N:Nat):Int).fdiv (2^min (IntKind.i64.wrap (5+((k:Nat):Int))).toNat IntKind.u8.bits)).tmod 2=0↔Ux N k=true:=by decide+kernel
theorem yx {a z:Int} {N k:Nat} (hN:N<256) (ea:a=N) (h:(a.fdiv (2^min (IntKind.i64.wrap z).toNat IntKind.u8.bits)).tmod 2=0) (hk:k<3) (hz:z=5+((k:Nat):Int)):Ux N k=true:=by
 subst ea hz;exact (So k hk N hN).1 h
theorem Eo {a z:Int} {N k:Nat} (hN:N<256) (ea:a=N) (h:¬(a.fdiv (2^min (IntKind.i64.wrap z).toNat IntKind.u8.bits)).tmod 2=0) (hk:k<3) (hz:z=5+((k:Nat):Int)):¬Ux N k=true:=by
 subst ea hz;exact fun g=>h ((So k hk N hN).2 g)
theorem oS {N k:Nat} {nm:aD} {w:Int} {r:cO×Int} (h:r=rO ⟨(eS N k).nodes,(eS N k).places⟩ ⟨nm,⟨w,9,9,9⟩,Ch k,false⟩) (hnm:nm=kw.getD k []) (hw:w=((4+2*k:Nat):Int)) (hu:Ux N k=true):eS N (k+1)=r.1:=by
 subst hw hnm h;rw [eS,if_pos hu]
theorem tw {N k:Nat} (hu:¬Ux N k=true):eS N (k+1)=eS N k:=by rw [eS,if_neg hu]
theorem Cv:∀k<3,∀m<5,IntKind.u64.wrap (IntKind.i64.wrap (IntKind.i64.wrap (6+IntKind.i64.wrap (4*((k:Nat):Int)))+IntKind.i64.wrap ((m:Nat):Int)))=((6+4*k+m:Nat):Int):=by decide+kernel
theorem yy {m k:Nat} {p:aD} {w:Int} {r:List aR×Int} (h:r=we (rX m k) p ⟨w,20,20,20⟩) (hp:p=VY.getD k []) (hw:w=((6+4*k+m:Nat):Int)):r.1=rX m (k+1):=by subst hw hp h;rfl
theorem uQ (ht:TT t) (N:Nat) (hN:N<256) {a:Int} (ea:a=N):FC 12 [.d (.int .u8 a)] [] (.ret (yq t (t _ fun _=>kU N))) []:=by
 have hm:N%5<5:=Nat.mod_lt _ (by decide)
 have hl0:=RA (N%5) hm
 refine bC ht (aE:=[]) Tryz.func12 (c:=_) rfl rfl (N:=81) rfl (rs:=_) rfl (n:=0) rfl rfl ?_
 cbv
 refine aS trivial (M8 ht) trivial rfl rfl rfl (fun r0 bE=>?_)
 simp only [ht] at bE
 cbv
 ((refine aS trivial (Ac ht _ _ _ _ _ (l:=[⟨[],bz.zero,bz.zero⟩]) (by simp only [ht,bE];rfl) (by decide) (by decide) (by decide)) (by simp) rfl rfl rfl (fun r1 cX=>?_)))
 cbv
 obtain ⟨J1,fe⟩:∃J1:Nat→Int×List (List D)→Prop,∀m i tr,J1 m (i,tr)↔((i=0∧m=3∧tr=(rX (N%5) 0).map aR.cells)∨(i=1∧m=2∧tr=(rX (N%5) 1).map aR.cells)∨(i=2∧m=1∧tr=(rX (N%5) 2).map aR.cells)∨(i=3∧m=0∧tr=(rX (N%5) 3).map aR.cells)):=⟨fun m v=>match v with|(i,tr)=>((i=0∧m=3∧tr=(rX (N%5) 0).map aR.cells)∨(i=1∧m=2∧tr=(rX (N%5) 1).map aR.cells)∨(i=2∧m=1∧tr=(rX (N%5) 2).map aR.cells)∨(i=3∧m=0∧tr=(rX (N%5) 3).map aR.cells)),fun _ _ _=>Iff.rfl⟩
 refine aZ ⟨[0,2,3,18,19,20],[],[]⟩ (σ:=Int×List (List D)) (fun v=>[(20,.d (.int .i64 (t _ fun _=>v.1)))]) (fun v=>[(1,.var [AV.d (D.int IntKind.u64 r0.1),AV.d (D.int IntKind.u64 r0.2),AV.d (D.sl (t (List (List D)) fun x=>List.map (fun x=>[D.str (Node.name x),D.int IntKind.u64 (bz.a (Node.cap x)),D.int IntKind.u64 (bz.b (Node.cap x)),D.int IntKind.u64 (bz.c (Node.cap x)),D.int IntKind.u64 (bz.d (Node.cap x)),D.sl (List.map (fun p=>[D.str (bT.key p),D.str (bT.value p)]) (Node.labels x)),D.bool (Node.up x)]) (cO.nodes (cH.aW r0)))),AV.d (D.sl (t (List (List D)) fun x=>List.map (fun x=>[D.int IntKind.u64 (Place.bu x),D.str (Place.node x),D.int IntKind.u64 (bz.a (Place.v x)),D.int IntKind.u64 (bz.b (Place.v x)),D.int IntKind.u64 (bz.c (Place.v x)),D.int IntKind.u64 (bz.d (Place.v x))]) (cO.places (cH.aW r0)))),.d (.sl (t _ fun _=>v.2)),AV.d (D.sl (t (List (List D)) fun x=>List.map Jb.cells (cH.aI r0))),AV.d (D.sl (t (List (List D)) fun x=>List.map bX.cells (cH.queue r0))),AV.d (D.int IntKind.u64 r0.7.1),AV.d (D.sl (t (List (List D)) fun x=>List.map bU.cells (qG.l (cH.ev r0)))),AV.d (D.int IntKind.u64 r0.8.1),AV.d (D.sl (t (List (List D)) fun x=>List.map bU.cells (qG.l (cH.au r0))))])]) J1 ?_
 cbv
 refine aA ⟨3,(_,_),(fe _ _ _).2 ?_,by simp only [ht];rfl,?_⟩
 ·exact .inl ⟨rfl,rfl,by simp only [ht,cX];rfl⟩
 rintro m ⟨i,tr⟩ hj
 replace hj:=(fe _ _ _).1 hj
 (rcases hj with ⟨rfl,jm,jt⟩|⟨rfl,jm,jt⟩|⟨rfl,jm,jt⟩|⟨rfl,jm,jt⟩)
 ·cbv
  refine ai (fun h2=>?_) (fun h2=>?_)
  ·simp [ht] at h2
   cbv
   ((refine gS [.str [97]] (by simp only [ht];decide) (by simp only [ht];rfl) ?_))
   cbv
   refine ⟨?_,?_⟩
   ·(simp only [ht];decide)
   cbv
   ((refine aS trivial (Ac ht _ _ _ _ _ (l:=rX (N%5) 0) (by simp only [ht];exact jt) (by have:=hl0 0 (by decide);((try simp only [aa] at*);omega)) (by decide) (by decide)) (by simp) rfl rfl rfl (fun r2 cP=>?_)))
   cbv
   refine bf (_,_) (by simp only [ht];rfl) (m-1) ?_ ((fe _ _ _).2 ?_)
   ·omega
   exact .inr (.inl ⟨by rw [bZ (by decide) (by decide)];rfl,by omega,congrArg _ (yy (k:=0) (cP.trans (ht _ _)) rfl (by simp only [ht,ea,Yp];exact Cv 0 (by decide) _ hm))⟩)
  simp [ht] at h2
 ·cbv
  refine ai (fun h3=>?_) (fun h3=>?_)
  ·simp [ht] at h3
   cbv
   ((refine gS [.str [97,47,98]] (by simp only [ht];decide) (by simp only [ht];rfl) ?_))
   cbv
   refine ⟨?_,?_⟩
   ·(simp only [ht];decide)
   cbv
   ((refine aS trivial (Ac ht _ _ _ _ _ (l:=rX (N%5) 1) (by simp only [ht];exact jt) (by have:=hl0 1 (by decide);((try simp only [aa] at*);omega)) (by decide) (by decide)) (by simp) rfl rfl rfl (fun r2 cP=>?_)))
   cbv
   refine bf (_,_) (by simp only [ht];rfl) (m-1) ?_ ((fe _ _ _).2 ?_)
   ·omega
   exact .inr (.inr (.inl ⟨by rw [bZ (by decide) (by decide)];rfl,by omega,congrArg _ (yy (k:=1) (cP.trans (ht _ _)) rfl (by simp only [ht,ea,Yp];exact Cv 1 (by decide) _ hm))⟩))
  simp [ht] at h3
 ·cbv
  refine ai (fun h4=>?_) (fun h4=>?_)
  ·simp [ht] at h4
   cbv
   ((refine gS [.str [98]] (by simp only [ht];decide) (by simp only [ht];rfl) ?_))
   cbv
   refine ⟨?_,?_⟩
   ·(simp only [ht];decide)
   cbv
   ((refine aS trivial (Ac ht _ _ _ _ _ (l:=rX (N%5) 2) (by simp only [ht];exact jt) (by have:=hl0 2 (by decide);((try simp only [aa] at*);omega)) (by decide) (by decide)) (by simp) rfl rfl rfl (fun r2 cP=>?_)))
   cbv
   refine bf (_,_) (by simp only [ht];rfl) (m-1) ?_ ((fe _ _ _).2 ?_)
   ·omega
   exact .inr (.inr (.inr ⟨by rw [bZ (by decide) (by decide)];rfl,by omega,congrArg _ (yy (k:=2) (cP.trans (ht _ _)) rfl (by simp only [ht,ea,Yp];exact Cv 2 (by decide) _ hm))⟩))
  simp [ht] at h4
 cbv
 refine ai (fun h5=>?_) (fun h5=>?_)
 ·simp [ht] at h5
 simp [ht] at h5
 cbv
 obtain ⟨J6,Jl⟩:∃J6:Nat→Int×List (List D)×List (List D)→Prop,∀m i x y,J6 m (i,x,y)↔((i=0∧m=3∧x=(eS N 0).nodes.map Node.cells∧y=(eS N 0).places.map Place.cells)∨(i=1∧m=2∧x=(eS N 1).nodes.map Node.cells∧y=(eS N 1).places.map Place.cells)∨(i=2∧m=1∧x=(eS N 2).nodes.map Node.cells∧y=(eS N 2).places.map Place.cells)∨(i=3∧m=0∧x=(eS N 3).nodes.map Node.cells∧y=(eS N 3).places.map Place.cells)):=⟨fun m v=>match v with|(i,x,y)=>((i=0∧m=3∧x=(eS N 0).nodes.map Node.cells∧y=(eS N 0).places.map Place.cells)∨(i=1∧m=2∧x=(eS N 1).nodes.map Node.cells∧y=(eS N 1).places.map Place.cells)∨(i=2∧m=1∧x=(eS N 2).nodes.map Node.cells∧y=(eS N 2).places.map Place.cells)∨(i=3∧m=0∧x=(eS N 3).nodes.map Node.cells∧y=(eS N 3).places.map Place.cells)),fun _ _ _ _=>Iff.rfl⟩
 refine aZ ⟨[0,2,3,43,44,45],[],[]⟩ (σ:=Int×List (List D)×List (List D)) (fun v=>[(45,.d (.int .i64 (t _ fun _=>v.1)))]) (fun v=>[(1,.var [AV.d (D.int IntKind.u64 r0.1),AV.d (D.int IntKind.u64 r0.2),.d (.sl (t _ fun _=>v.2.1)),.d (.sl (t _ fun _=>v.2.2)),AV.d (D.sl (t (List (List D)) fun x=>Prod.snd (3,tr))),AV.d (D.sl (t (List (List D)) fun x=>List.map Jb.cells (cH.aI r0))),AV.d (D.sl (t (List (List D)) fun x=>List.map bX.cells (cH.queue r0))),AV.d (D.int IntKind.u64 r0.7.1),AV.d (D.sl (t (List (List D)) fun x=>List.map bU.cells (qG.l (cH.ev r0)))),AV.d (D.int IntKind.u64 r0.8.1),AV.d (D.sl (t (List (List D)) fun x=>List.map bU.cells (qG.l (cH.au r0))))])]) J6 ?_
 cbv
 refine aA ⟨3,(_,_,_),(Jl _ _ _ _).2 ?_,by simp only [ht];rfl,?_⟩
 ·exact .inl ⟨rfl,rfl,by rw [bE];rfl,by rw [bE];rfl⟩
 rintro m ⟨i,x,y⟩ hj
 replace hj:=(Jl _ _ _ _).1 hj
 (rcases hj with ⟨rfl,jm,jx,jy⟩|⟨rfl,jm,jx,jy⟩|⟨rfl,jm,jx,jy⟩|⟨rfl,jm,jx,jy⟩)
 ·cbv
  refine ai (fun h7=>?_) (fun h7=>?_)
  ·simp [ht] at h7
   cbv
   ((refine gS [.str [110,49]] (by simp only [ht];decide) (by simp only [ht];rfl) ?_))
   cbv
   refine ⟨?_,?_⟩
   ·(simp only [ht];decide)
   refine ⟨?_,?_⟩
   ·(simp only [ht];decide)
   cbv
   refine ai (fun h8=>?_) (fun h8=>?_)
   ·simp [ht] at h8
    cbv
    refine ai (fun h9=>?_) (fun h9=>?_)
    ·simp [ht] at h9
     cbv
     ((refine gS [.str [97]] (by simp only [ht];decide) (by simp only [ht];rfl) ?_))
     cbv
     ((refine aS trivial (K1 ht (l:=(eS N 0).nodes) (ps:=(eS N 0).places) (by simp only [ht];exact jx) (by simp only [ht];exact jy) _ _ _ _ _ (lb:=Ch 0) rfl false (Cu hN (by decide)) (by decide) (by decide) (LI _)) (by simp) rfl rfl rfl (fun r4 dO=>?_)))
     cbv
     refine bf (_,_,_) (by simp only [ht];rfl) (m-1) ?_ ((Jl _ _ _ _).2 ?_)
     ·omega
     (refine .inr (.inl ⟨(by rw [bZ (by decide) (by decide)];rfl),by omega,?_,?_⟩);((exact congrArg (fun p:cO=>List.map Node.cells p.nodes) (oS (k:=0) (dO.trans (ht _ _)) rfl (by simp only [ht];decide) (yx hN ea (by assumption) (by decide) (by decide))).symm));((exact congrArg (fun p:cO=>List.map Place.cells p.places) (oS (k:=0) (dO.trans (ht _ _)) rfl (by simp only [ht];decide) (yx hN ea (by assumption) (by decide) (by decide))).symm)))
    simp [ht] at h9
   simp [ht] at h8
   cbv
   refine bf (_,_,_) (by simp only [ht];rfl) (m-1) ?_ ((Jl _ _ _ _).2 ?_)
   ·omega
   (refine .inr (.inl ⟨(by rw [bZ (by decide) (by decide)];rfl),by omega,?_,?_⟩);((exact jx.trans (congrArg (fun p:cO=>List.map Node.cells p.nodes) (tw (N:=N) (k:=0) (Eo hN ea (by assumption) (by decide) (by decide))).symm)));((exact jy.trans (congrArg (fun p:cO=>List.map Place.cells p.places) (tw (N:=N) (k:=0) (Eo hN ea (by assumption) (by decide) (by decide))).symm))))
  simp [ht] at h7
 ·cbv
  refine ai (fun h10=>?_) (fun h10=>?_)
  ·simp [ht] at h10
   cbv
   ((refine gS [.str [110,50]] (by simp only [ht];decide) (by simp only [ht];rfl) ?_))
   cbv
   refine ⟨?_,?_⟩
   ·(simp only [ht];decide)
   refine ⟨?_,?_⟩
   ·(simp only [ht];decide)
   cbv
   refine ai (fun h11=>?_) (fun h11=>?_)
   ·simp [ht] at h11
    cbv
    refine ai (fun h12=>?_) (fun h12=>?_)
    ·simp [ht] at h12
     cbv
     ((refine gS [.str [98]] (by simp only [ht];decide) (by simp only [ht];rfl) ?_))
     cbv
     ((refine aS trivial (K1 ht (l:=(eS N 1).nodes) (ps:=(eS N 1).places) (by simp only [ht];exact jx) (by simp only [ht];exact jy) _ _ _ _ _ (lb:=Ch 1) rfl false (Cu hN (by decide)) (by decide) (by decide) (LI _)) (by simp) rfl rfl rfl (fun r4 dO=>?_)))
     cbv
     refine bf (_,_,_) (by simp only [ht];rfl) (m-1) ?_ ((Jl _ _ _ _).2 ?_)
     ·omega
     (refine .inr (.inr (.inl ⟨(by rw [bZ (by decide) (by decide)];rfl),by omega,?_,?_⟩));((exact congrArg (fun p:cO=>List.map Node.cells p.nodes) (oS (k:=1) (dO.trans (ht _ _)) rfl (by simp only [ht];decide) (yx hN ea (by assumption) (by decide) (by decide))).symm));((exact congrArg (fun p:cO=>List.map Place.cells p.places) (oS (k:=1) (dO.trans (ht _ _)) rfl (by simp only [ht];decide) (yx hN ea (by assumption) (by decide) (by decide))).symm)))
    simp [ht] at h12
   simp [ht] at h11
   cbv
   refine bf (_,_,_) (by simp only [ht];rfl) (m-1) ?_ ((Jl _ _ _ _).2 ?_)
   ·omega
   (refine .inr (.inr (.inl ⟨(by rw [bZ (by decide) (by decide)];rfl),by omega,?_,?_⟩));((exact jx.trans (congrArg (fun p:cO=>List.map Node.cells p.nodes) (tw (N:=N) (k:=1) (Eo hN ea (by assumption) (by decide) (by decide))).symm)));((exact jy.trans (congrArg (fun p:cO=>List.map Place.cells p.places) (tw (N:=N) (k:=1) (Eo hN ea (by assumption) (by decide) (by decide))).symm))))
  simp [ht] at h10
 ·cbv
  refine ai (fun K7=>?_) (fun K7=>?_)
  ·simp [ht] at K7
   cbv
   ((refine gS [.str [110,51]] (by simp only [ht];decide) (by simp only [ht];rfl) ?_))
   cbv
   refine ⟨?_,?_⟩
   ·(simp only [ht];decide)
   refine ⟨?_,?_⟩
   ·(simp only [ht];decide)
   cbv
   refine ai (fun Rq=>?_) (fun Rq=>?_)
   ·simp [ht] at Rq
    cbv
    refine ai (fun h15=>?_) (fun h15=>?_)
    ·simp [ht] at h15
    simp [ht] at h15
    cbv
    ((refine aS trivial (K1 ht (l:=(eS N 2).nodes) (ps:=(eS N 2).places) (by simp only [ht];exact jx) (by simp only [ht];exact jy) _ _ _ _ _ (lb:=Ch 2) rfl false (Cu hN (by decide)) (by decide) (by decide) (LI _)) (by simp) rfl rfl rfl (fun r4 dO=>?_)))
    cbv
    refine bf (_,_,_) (by simp only [ht];rfl) (m-1) ?_ ((Jl _ _ _ _).2 ?_)
    ·omega
    (refine .inr (.inr (.inr ⟨(by rw [bZ (by decide) (by decide)];rfl),by omega,?_,?_⟩));((exact congrArg (fun p:cO=>List.map Node.cells p.nodes) (oS (k:=2) (dO.trans (ht _ _)) rfl (by simp only [ht];decide) (yx hN ea (by assumption) (by decide) (by decide))).symm));((exact congrArg (fun p:cO=>List.map Place.cells p.places) (oS (k:=2) (dO.trans (ht _ _)) rfl (by simp only [ht];decide) (yx hN ea (by assumption) (by decide) (by decide))).symm)))
   simp [ht] at Rq
   cbv
   refine bf (_,_,_) (by simp only [ht];rfl) (m-1) ?_ ((Jl _ _ _ _).2 ?_)
   ·omega
   (refine .inr (.inr (.inr ⟨(by rw [bZ (by decide) (by decide)];rfl),by omega,?_,?_⟩));((exact jx.trans (congrArg (fun p:cO=>List.map Node.cells p.nodes) (tw (N:=N) (k:=2) (Eo hN ea (by assumption) (by decide) (by decide))).symm)));((exact jy.trans (congrArg (fun p:cO=>List.map Place.cells p.places) (tw (N:=N) (k:=2) (Eo hN ea (by assumption) (by decide) (by decide))).symm))))
  simp [ht] at K7
 cbv
 refine ai (fun Xj=>?_) (fun Xj=>?_)
 ·simp [ht] at Xj
 simp [ht] at Xj
 cbv
 refine an trivial trivial rfl rfl rfl ?_
 (simp only [ht,bE,jt,jx,jy];rfl)
end Dem
end
section
open Go Dem Go.Proofs
namespace Dem
variable {t:Th}
theorem Ep (ht:TT t) {es:List (List D)} (hr:∀r∈es,r.length=12):FC 50 [SL es] [] (.ret (.cl es)) []:=by
 refine bC ht (aE:=[]) Tryz.func50 (c:=_) rfl rfl (N:=9) rfl (rs:=_) rfl (n:=0) rfl rfl ?_
 cbv
 refine ⟨?_,QM trivial rfl ?_⟩
 ·simp only [ht,aa,bS];exact ⟨⟨⟨by omega,Int.le_refl _⟩,trivial⟩,hr⟩
 simp [ht,aa,gr]
theorem O3 (ht:TT t) (rd nx ef af:Int) {nl:List Node} {pl:List Place} {tl:List aR} {jl:List Jb} {ql:List bX} {el al:List bU} {ns ps ts js qs es cY:List (List D)} (gX:ns=nl.map Node.cells) (hps:ps=pl.map Place.cells) (hts:ts=tl.map aR.cells) (gi:js=jl.map Jb.cells) (fq:qs=ql.map bX.cells) (aF:es=el.map bU.cells) (has:cY=al.map bU.cells) (ja jb jc jd jn jp jt:Int) (jq:aD) {jB:List Term} {tn:List (List D)} (m8:tn=jB.map Term.cells) (e0:List D) (er:List (List D)) (hj:js=e0::er) (hx:(⟨jq,⟨ja,jb,jc,jd⟩,jn,jp,jt,jB⟩:Ask).sm) (htl:tl.length<100000) (hjl:jl.length<1000000) (V3:ql.length<1000000) (hel:el.length<1000000):
 FC 16 [.agg [az rd,az nx,SL ns,SL ps,SL ts,SL js,SL qs,az ef,SL es,az af,SL cY],.agg [ST jq,az ja,az jb,az jc,az jd,bq jn,bq jp,bq jt,SL tn]] [] (.ret (Sa t (t _ fun _=>eA ⟨rd,nx,⟨nl,pl⟩,tl,jl,ql,⟨ef,el⟩,⟨af,al⟩⟩ ⟨jq,⟨ja,jb,jc,jd⟩,jn,jp,jt,jB⟩))) []:=by
 subst hj
 obtain ⟨ck,SX⟩:∃ck,ck=cR ⟨jq,⟨ja,jb,jc,jd⟩,jn,jp,jt,jB⟩:=⟨_,rfl⟩
 obtain ⟨th,hth⟩:∃th,th=gV tl jq:=⟨_,rfl⟩
 obtain ⟨⟨q9,e9⟩,h9⟩:∃r,r=jI ql ⟨nx,jp⟩:=⟨_,rfl⟩
 have hS:eA ⟨rd,nx,⟨nl,pl⟩,tl,jl,ql,⟨ef,el⟩,⟨af,al⟩⟩ ⟨jq,⟨ja,jb,jc,jd⟩,jn,jp,jt,jB⟩=if ck≠0 then (⟨rd,nx,⟨nl,pl⟩,tl,jl,ql,⟨ef,el⟩,⟨af,al⟩⟩,0,ck) else if !th then (⟨rd,nx,⟨nl,pl⟩,tl,jl,ql,⟨ef,el⟩,⟨af,al⟩⟩,0,7) else if 32≤jl.length∨nx=18446744073709551615 then (⟨rd,nx,⟨nl,pl⟩,tl,jl,ql,⟨ef,el⟩,⟨af,al⟩⟩,0,9) else if e9≠0 then (⟨rd,nx,⟨nl,pl⟩,tl,jl,ql,⟨ef,el⟩,⟨af,al⟩⟩,0,e9) else
  (fO ⟨rd,IntKind.u64.wrap (nx+1),⟨nl,pl⟩,tl,jl++[⟨nx,⟨jq,⟨ja,jb,jc,jd⟩,jn,jp,jt,jB⟩,false,0⟩],q9,⟨ef,el⟩,⟨af,al⟩⟩ nx 1,nx,0):=by
  simp only [eA,←SX,←hth,←h9,u64,←bG]
 rw [hS]
 clear hS
 have hr:∀r∈e0::er,r.length=12:=by rw [gi];intro r hr;obtain ⟨y,_,rfl⟩:=List.mem_map.1 hr;rfl
 have hle:er.length+1=jl.length:=by have:=congrArg List.length gi;simpa using this
 obtain ⟨h1,h2,h3,h4⟩:=id hx
 simp only at h1 h2 h3 h4
 refine bC ht (aE:=[]) Tryz.func16 (c:=_) rfl rfl (N:=68) rfl (rs:=_) rfl (n:=0) rfl rfl ?_
 cbv
 have fj:ns.length=nl.length:=by rw [gX,List.length_map]
 have fE:ps.length=pl.length:=by rw [hps,List.length_map]
 have fZ:ts.length=tl.length:=by rw [hts,List.length_map]
 have dM:qs.length=ql.length:=by rw [fq,List.length_map]
 have ar:es.length=el.length:=by rw [aF,List.length_map]
 have dU:cY.length=al.length:=by rw [has,List.length_map]
 have tq:tn.length=jB.length:=by rw [m8,List.length_map]
 refine ay trivial (oO ht _ _ _ _ _ _ _ _ (by assumption) (by assumption)) trivial rfl rfl (fun r0 bE=>?_)
 simp only [ht] at bE
 rw [←SX] at bE
 subst r0
 cbv
 refine ai (fun h1=>?_) (fun h1=>?_)
 ·simp [ht] at h1
  cbv
  refine an trivial trivial rfl rfl rfl ?_
  (simp only [ht];grind)
 simp [ht] at h1
 cbv
 refine ay trivial (yp ht _ (by assumption) (by omega) (by assumption)) trivial rfl rfl (fun r2 cP=>?_)
 simp only [ht] at cP
 rw [←hth] at cP
 subst r2
 cbv
 refine ai (fun h3=>?_) (fun h3=>?_)
 ·simp [ht] at h3
  cbv
  refine an trivial trivial rfl rfl rfl ?_
  (simp only [ht];grind)
 simp [ht] at h3
 cbv
 iterate 3 refine gI (by simp [ht]) ?_
 refine pI (by simp [ht]) ?_
 refine ai (fun h4=>?_) (fun h4=>?_)
 ·simp [ht,aa] at h4
  cbv
  refine an trivial trivial rfl rfl rfl ?_
  (simp only [ht];grind)
 simp [ht,aa] at h4
 cbv
 refine aS trivial (Cq ht _ _ (by assumption) (by assumption)) trivial rfl rfl rfl (fun r5 jA=>?_)
 simp only [ht] at jA
 rw [←h9] at jA
 subst r5
 cbv
 refine ai (fun h6=>?_) (fun h6=>?_)
 ·simp [ht] at h6
  cbv
  refine an trivial trivial rfl rfl rfl ?_
  (simp only [ht];grind)
 simp [ht] at h6
 cbv
 refine Qx [0,4,9,10] [false,false,false,false,false,false,false,false,false,false,false,false,true,true,true,true,true] (by kernel_rfl) (by kernel_rfl) (by kernel_rfl) (by kernel_rfl) (by kernel_rfl) ?_
 cbv
 iterate 3 refine gI (by simp) ?_
 refine .inl ?_
 (refine mT (fun g=>⟨trivial,trivial,Ep ht hr⟩) rfl rfl rfl ?_)
 cbv
 iterate 4 refine gI (by simp) ?_
 refine gI (by (simp only [ht];intro _;refine ⟨by simp only [List.length_cons,List.length_nil];omega,?_⟩;intro r h;rcases List.mem_append.1 h with h|h;exact hr r h;simp at h;subst h;rfl)) ?_
 iterate 3 refine gI (by simp) ?_
 (refine aS trivial (oR ht rd _ ef af nx 1 (nl:=nl) (pl:=pl) (tl:=tl) (jl:=jl++[⟨nx,⟨jq,⟨ja,jb,jc,jd⟩,jn,jp,jt,jB⟩,false,0⟩]) (ql:=q9) (el:=el) (al:=al) gX hps hts (by simp only [ht,gi];simp [Jb.cells,m8]) (by simp only [ht]) aF has hel) trivial rfl rfl rfl (fun r9 dN=>?_);simp only [ht] at dN)
 cbv
 refine an trivial trivial rfl rfl rfl ?_
 (simp only [ht];grind)
end Dem
end
section
open Go Dem Go.Proofs
namespace Dem
variable {t:Th}
theorem O4 (ht:TT t) (rd nx ef af:Int) {nl:List Node} {pl:List Place} {tl:List aR} {jl:List Jb} {ql:List bX} {el al:List bU} {ns ps ts js qs es cY:List (List D)} (gX:ns=nl.map Node.cells) (hps:ps=pl.map Place.cells) (hts:ts=tl.map aR.cells) (gi:js=jl.map Jb.cells) (fq:qs=ql.map bX.cells) (aF:es=el.map bU.cells) (has:cY=al.map bU.cells) (ja jb jc jd jn jp jt:Int) (jq:aD) {jB:List Term} {tn:List (List D)} (m8:tn=jB.map Term.cells) (hj:js=[]) (hx:(⟨jq,⟨ja,jb,jc,jd⟩,jn,jp,jt,jB⟩:Ask).sm) (htl:tl.length<100000) (hjl:jl.length<1000000) (V3:ql.length<1000000) (hel:el.length<1000000):
 FC 16 [.agg [az rd,az nx,SL ns,SL ps,SL ts,SL js,SL qs,az ef,SL es,az af,SL cY],.agg [ST jq,az ja,az jb,az jc,az jd,bq jn,bq jp,bq jt,SL tn]] [] (.ret (Sa t (t _ fun _=>eA ⟨rd,nx,⟨nl,pl⟩,tl,jl,ql,⟨ef,el⟩,⟨af,al⟩⟩ ⟨jq,⟨ja,jb,jc,jd⟩,jn,jp,jt,jB⟩))) []:=by
 subst hj
 obtain ⟨ck,SX⟩:∃ck,ck=cR ⟨jq,⟨ja,jb,jc,jd⟩,jn,jp,jt,jB⟩:=⟨_,rfl⟩
 obtain ⟨th,hth⟩:∃th,th=gV tl jq:=⟨_,rfl⟩
 obtain ⟨⟨q9,e9⟩,h9⟩:∃r,r=jI ql ⟨nx,jp⟩:=⟨_,rfl⟩
 have hS:eA ⟨rd,nx,⟨nl,pl⟩,tl,jl,ql,⟨ef,el⟩,⟨af,al⟩⟩ ⟨jq,⟨ja,jb,jc,jd⟩,jn,jp,jt,jB⟩=if ck≠0 then (⟨rd,nx,⟨nl,pl⟩,tl,jl,ql,⟨ef,el⟩,⟨af,al⟩⟩,0,ck) else if !th then (⟨rd,nx,⟨nl,pl⟩,tl,jl,ql,⟨ef,el⟩,⟨af,al⟩⟩,0,7) else if 32≤jl.length∨nx=18446744073709551615 then (⟨rd,nx,⟨nl,pl⟩,tl,jl,ql,⟨ef,el⟩,⟨af,al⟩⟩,0,9) else if e9≠0 then (⟨rd,nx,⟨nl,pl⟩,tl,jl,ql,⟨ef,el⟩,⟨af,al⟩⟩,0,e9) else
  (fO ⟨rd,IntKind.u64.wrap (nx+1),⟨nl,pl⟩,tl,jl++[⟨nx,⟨jq,⟨ja,jb,jc,jd⟩,jn,jp,jt,jB⟩,false,0⟩],q9,⟨ef,el⟩,⟨af,al⟩⟩ nx 1,nx,0):=by
  simp only [eA,←SX,←hth,←h9,u64,←bG]
 rw [hS]
 clear hS
 have hle:jl=[]:=by cases jl with
  |nil=>rfl
  |cons x l=>cases gi
 obtain ⟨h1,h2,h3,h4⟩:=id hx
 simp only at h1 h2 h3 h4
 refine bC ht (aE:=[]) Tryz.func16 (c:=_) rfl rfl (N:=68) rfl (rs:=_) rfl (n:=0) rfl rfl ?_
 cbv
 have fj:ns.length=nl.length:=by rw [gX,List.length_map]
 have fE:ps.length=pl.length:=by rw [hps,List.length_map]
 have fZ:ts.length=tl.length:=by rw [hts,List.length_map]
 have dM:qs.length=ql.length:=by rw [fq,List.length_map]
 have ar:es.length=el.length:=by rw [aF,List.length_map]
 have dU:cY.length=al.length:=by rw [has,List.length_map]
 have tq:tn.length=jB.length:=by rw [m8,List.length_map]
 refine ay trivial (oO ht _ _ _ _ _ _ _ _ (by assumption) (by assumption)) trivial rfl rfl (fun r0 bE=>?_)
 simp only [ht] at bE
 rw [←SX] at bE
 subst r0
 cbv
 refine ai (fun h1=>?_) (fun h1=>?_)
 ·simp [ht] at h1
  cbv
  refine an trivial trivial rfl rfl rfl ?_
  (simp only [ht];grind)
 simp [ht] at h1
 cbv
 refine ay trivial (yp ht _ (by assumption) (by omega) (by assumption)) trivial rfl rfl (fun r2 cP=>?_)
 simp only [ht] at cP
 rw [←hth] at cP
 subst r2
 cbv
 refine ai (fun h3=>?_) (fun h3=>?_)
 ·simp [ht] at h3
  cbv
  refine an trivial trivial rfl rfl rfl ?_
  (simp only [ht];grind)
 simp [ht] at h3
 cbv
 iterate 3 refine gI (by simp [ht]) ?_
 refine pI (by simp [ht]) ?_
 refine ai (fun h4=>?_) (fun h4=>?_)
 ·simp [ht] at h4
  cbv
  refine an trivial trivial rfl rfl rfl ?_
  (simp only [ht];grind)
 simp [ht] at h4
 cbv
 refine aS trivial (Cq ht _ _ (by assumption) (by assumption)) trivial rfl rfl rfl (fun r5 jA=>?_)
 simp only [ht] at jA
 rw [←h9] at jA
 subst r5
 cbv
 refine ai (fun h6=>?_) (fun h6=>?_)
 ·simp [ht] at h6
  cbv
  refine an trivial trivial rfl rfl rfl ?_
  (simp only [ht];grind)
 simp [ht] at h6
 cbv
 refine Qx [0,4,9,10] [false,false,false,false,false,false,false,false,false,false,false,false,true,true,true,true,true] (by kernel_rfl) (by kernel_rfl) (by kernel_rfl) (by kernel_rfl) (by kernel_rfl) ?_
 cbv
 iterate 3 refine gI (by simp) ?_
 refine .inl ?_
 (refine mT (fun g=>⟨trivial,trivial,Ep ht (by simp)⟩) rfl rfl rfl ?_)
 cbv
 iterate 4 refine gI (by simp) ?_
 refine gI (by simp [ht]) ?_
 iterate 3 refine gI (by simp) ?_
 (refine aS trivial (oR ht rd _ ef af nx 1 (nl:=nl) (pl:=pl) (tl:=tl) (jl:=jl++[⟨nx,⟨jq,⟨ja,jb,jc,jd⟩,jn,jp,jt,jB⟩,false,0⟩]) (ql:=q9) (el:=el) (al:=al) gX hps hts (by simp only [ht,hle];simp [Jb.cells,m8]) (by simp only [ht]) aF has hel) trivial rfl rfl rfl (fun r9 dN=>?_);simp only [ht] at dN)
 cbv
 refine an trivial trivial rfl rfl rfl ?_
 (simp only [ht];grind)
theorem oT (ht:TT t) (rd nx ef af:Int) {nl:List Node} {pl:List Place} {tl:List aR} {jl:List Jb} {ql:List bX} {el al:List bU} {ns ps ts js qs es cY:List (List D)} (gX:ns=nl.map Node.cells) (hps:ps=pl.map Place.cells) (hts:ts=tl.map aR.cells) (gi:js=jl.map Jb.cells) (fq:qs=ql.map bX.cells) (aF:es=el.map bU.cells) (has:cY=al.map bU.cells) (ja jb jc jd jn jp jt:Int) (jq:aD) {jB:List Term} {tn:List (List D)} (m8:tn=jB.map Term.cells) (hx:(⟨jq,⟨ja,jb,jc,jd⟩,jn,jp,jt,jB⟩:Ask).sm) (htl:tl.length<100000) (hjl:jl.length<1000000) (V3:ql.length<1000000) (hel:el.length<1000000):
 FC 16 [.agg [az rd,az nx,SL ns,SL ps,SL ts,SL js,SL qs,az ef,SL es,az af,SL cY],.agg [ST jq,az ja,az jb,az jc,az jd,bq jn,bq jp,bq jt,SL tn]] [] (.ret (Sa t (t _ fun _=>eA ⟨rd,nx,⟨nl,pl⟩,tl,jl,ql,⟨ef,el⟩,⟨af,al⟩⟩ ⟨jq,⟨ja,jb,jc,jd⟩,jn,jp,jt,jB⟩))) []:=by
 cases js with
 |nil=>exact O4 ht rd nx ef af gX hps hts gi fq aF has ja jb jc jd jn jp jt jq m8 rfl hx htl hjl V3 hel
 |cons e0 er=>exact O3 ht rd nx ef af gX hps hts gi fq aF has ja jb jc jd jn jp jt jq m8 e0 er rfl hx htl hjl V3 hel
end Dem
end
section
open Go Dem Go.Proofs
namespace Dem
variable {t:Th}
theorem m5 (ht:TT t) (rd nx ef af:Int) {nl:List Node} {pl:List Place} {tl:List aR} {jl:List Jb} {ql:List bX} {el al:List bU} {ns ps ts js qs es cY:List (List D)} (gX:ns=nl.map Node.cells) (hps:ps=pl.map Place.cells) (hts:ts=tl.map aR.cells) (gi:js=jl.map Jb.cells) (fq:qs=ql.map bX.cells) (aF:es=el.map bU.cells) (has:cY=al.map bU.cells) (id:Int) {names:List aD} {nr:List (List D)} (XA:nr=names.map aT) (fR:∀x∈jl,x.x.fQ.u'∧x.x.path.length<1000000000000) (htl:tl.length<100000) (hjl:jl.length<1000000) (GU:nl.length<1000000) (nQ:pl.length<1000000) (V3:ql.length<1000000) (hel:el.length<1000000) (hnn:names.length<1000000):
 FC 29 [.agg [az rd,az nx,SL ns,SL ps,SL ts,SL js,SL qs,az ef,SL es,az af,SL cY],az id,SL nr] [] (.ret (Jd t (t _ fun _=>cw ⟨rd,nx,⟨nl,pl⟩,tl,jl,ql,⟨ef,el⟩,⟨af,al⟩⟩ id names))) []:=by
 refine bC ht (aE:=[]) Tryz.func29 (c:=_) rfl rfl (N:=100) rfl (rs:=_) rfl (n:=0) rfl rfl ?_
 cbv
 have fj:ns.length=nl.length:=by rw [gX,List.length_map]
 have fE:ps.length=pl.length:=by rw [hps,List.length_map]
 have fZ:ts.length=tl.length:=by rw [hts,List.length_map]
 have dy:js.length=jl.length:=by rw [gi,List.length_map]
 have dM:qs.length=ql.length:=by rw [fq,List.length_map]
 have ar:es.length=el.length:=by rw [aF,List.length_map]
 have dU:cY.length=al.length:=by rw [has,List.length_map]
 have FU:nr.length=names.length:=by rw [XA,List.length_map]
 refine ay trivial (tv ht _ _ _ _ _ _ _ _ _ _ _ (by assumption) (by omega)) trivial rfl rfl (fun r0 bE=>?_)
 simp only [ht] at bE
 have ec:=LB bE fR
 clear bE
 rcases ec with ⟨e1,e2⟩|⟨i,xi,xa,xb,xc,xd,xn,xp,xt,xf,xq,xr,xl,e1,e2,e3,e4,e5,⟨e6,e7⟩,e8⟩
 ·cbv
  refine ai (fun h1=>?_) (fun h1=>?_)
  ·simp [ht] at h1
   cbv
   refine an trivial trivial rfl rfl rfl ?_
   (simp [cw, *];done)
  simp [ht] at h1
  omega
 cbv
 refine ai (fun h2=>?_) (fun h2=>?_)
 ·simp [ht] at h2
  (simp only [aa] at*;omega)
 simp [ht] at h2
 cbv
 refine Bz ht gi (cT:=Jb.aH t) e3 (by assumption) (fun _=>rfl) (fun _=>(by (simp only [ht,Jb.aH];rfl))) ?_
 cbv
 refine ai (fun h4=>?_) (fun h4=>?_)
 ·cbv
  refine an trivial trivial rfl rfl rfl ?_
  (simp only [ht,cw,e4,e5,j9];simp [*];done)
 cbv
 refine ai (fun h5=>?_) (fun h5=>?_)
 ·simp [ht,aa,FU] at h5
  cbv
  refine an trivial trivial rfl rfl rfl ?_
  (simp only [ht,cw,e4,e5,j9];simp [*];done)
 simp [ht,aa,FU] at h5
 cbv
 (obtain ⟨⟨⟨v1,v2,v3,v4⟩,vk⟩,hv⟩:∃r,r=cW ⟨xq,⟨xa,xb,xc,xd⟩,xn,xp,xt,xl⟩:=⟨_,rfl⟩;refine ay trivial (tj ht xq xa xb xc xd xn xp xt (sl:=xl) _ e6) trivial rfl rfl (fun r9 dN=>?_);simp only [ht] at dN;rw [←hv] at dN;subst dN)
 cbv
 refine ai (fun h6=>?_) (fun h6=>?_)
 ·simp [ht] at h6
  cbv
  refine an trivial trivial rfl rfl rfl ?_
  (simp only [ht,cw,e4,e5,j9,←hv];(try (simp only [←gL];clear gL));(try (simp only [←dN];clear dN));simp [*];done)
 simp [ht] at h6
 cbv
 refine aS trivial (Ls ht _ _ _ _ _ (by assumption) (by assumption) (by assumption)) trivial rfl rfl rfl (fun r7 gL=>?_)
 simp only [ht] at gL
 cbv
 refine ai (fun h8=>?_) (fun h8=>?_)
 ·simp [ht] at h8
  cbv
  refine an trivial trivial rfl rfl rfl ?_
  (simp only [ht,cw,e4,e5,j9,←hv];(try (simp only [←gL];clear gL));(try (simp only [←dN];clear dN));simp [*];done)
 simp [ht] at h8
 cbv
 refine aS trivial (W9 ht _ _ _ _ _ (by assumption) (by assumption) (by assumption) (by omega) (by omega) (by omega)) trivial rfl rfl rfl (fun r9 dN=>?_)
 simp only [ht] at dN
 cbv
 refine ai (fun h10=>?_) (fun h10=>?_)
 ·simp [ht] at h10
  cbv
  refine an trivial trivial rfl rfl rfl ?_
  (simp only [ht,cw,e4,e5,j9,←hv];(try (simp only [←gL];clear gL));(try (simp only [←dN];clear dN));simp [*];done)
 simp [ht] at h10
 cbv
 refine aS trivial (Jg ht _ (by assumption) (by assumption)) trivial rfl rfl rfl (fun Yn pZ=>?_)
 simp only [ht] at pZ
 cbv
 (refine DF [0,2] (.more 0 (.more 1 (.one 2 (.one 3 (.one 4 (.one 5 (.one 6 (.one 7 (.one 8 .done))))))) (.one 2 (.more 1 (.one 3 (.one 4 (.one 5 (.one 6 (.one 7 (.one 8 .done)))))) (.one 3 (.more 1 (.one 4 (.one 5 (.one 6 (.one 7 (.one 8 .done))))) (.one 4 (.one 1 (.one 5 (.one 6 (.one 7 (.one 8 .done))))))))))) (.one 2 (.one 0 (.more 1 (.one 3 (.one 4 (.one 5 (.one 6 (.one 7 (.one 8 .done)))))) (.one 3 (.more 1 (.one 4 (.one 5 (.one 6 (.one 7 (.one 8 .done))))) (.one 4 (.one 1 (.one 5 (.one 6 (.one 7 (.one 8 .done)))))))))))) _ (by kernel_rfl) (by kernel_rfl) (by kernel_rfl) (by kernel_rfl) (by cbv;repeat' (first|exact rfl|refine ⟨?_,?_⟩)) ?_)
 cbv
 refine aS trivial (Na ht _ _ _ _ (jH ht rfl) (jH ht rfl) (jH ht rfl) (by assumption) (jH ht rfl) (by assumption) (by assumption) _ _ _ _ _ _ _ _ _ _ _ (jH ht rfl) (by assumption) (by assumption) (by assumption)) trivial rfl rfl rfl (fun Xw oN=>?_)
 simp only [ht] at oN
 have hwe:(Xw).ev.l.length<1000000:=by rw [oN];exact hel
 cbv
 refine aS trivial (oR ht _ _ _ _ _ _ (jH ht rfl) (jH ht rfl) (jH ht rfl) (jH ht rfl) (jH ht rfl) (jH ht rfl) (jH ht rfl) (by assumption)) trivial rfl rfl rfl (fun r13 FP=>?_)
 simp only [ht] at FP
 cbv
 refine an trivial trivial rfl rfl rfl ?_
 (simp only [ht,cw,e4,e5,j9,←hv];(try (simp only [←gL];clear gL));(try (simp only [←dN];clear dN));simp [*];done)
end Dem
end
section
open Go Dem Go.Proofs
namespace Dem
variable {t:Th}
theorem U9 {x y:aR}:x=y↔x.path=y.path∧x.dc=y.dc∧x.used=y.used:=by cases x;cases y;simp
theorem aab {x y:Jb}:x=y↔x.id=y.id∧x.x=y.x∧x.runs=y.runs∧x.left=y.left:=by cases x;cases y;simp
theorem Sp (ht:TT t) {l m:List aR} {es fs:List (List D)} (aF:es=l.map aR.cells) (qL:fs=m.map aR.cells) (hl:l.length<1000000000) (hm:m.length<1000000000):
 FC 52 [SL es,SL fs] [] (.ret (bY (t _ fun _=>decide (l=m)))) []:=by
 refine bC ht (aE:=[]) Tryz.func52 (c:=_) rfl rfl (N:=26) rfl (rs:=_) rfl (n:=0) rfl rfl ?_
 cbv
 have ar:es.length=l.length:=by rw [aF,List.length_map]
 have cD:fs.length=m.length:=by rw [qL,List.length_map]
 refine ai (fun h0=>?_) (fun h0=>?_)
 ·simp [ht,aa,ar,cD] at h0
  cbv
  refine an trivial trivial rfl rfl rfl ?_
  (simp [ht];rintro rfl;simp_all;done)
 simp [ht,aa,ar,cD] at h0
 cbv
 obtain ⟨J1,fe⟩:∃J1:Nat→Int→Prop,∀n i,J1 n i↔(∃k:Nat,i=k∧k+n=l.length∧l.length=m.length∧decide (l=m)=decide (l.drop k=m.drop k)):=⟨fun n v=>match v with|i=>(∃k:Nat,i=k∧k+n=l.length∧l.length=m.length∧decide (l=m)=decide (l.drop k=m.drop k)),fun _ _=>Iff.rfl⟩
 refine aZ ⟨[0,1,12,13],[],[]⟩ (σ:=Int) (fun v=>[(13,.d (.int .i64 (t _ fun _=>v)))]) (fun v=>[]) J1 ?_
 cbv
 refine aA ⟨l.length,_,(fe _ _).2 ?_,by simp only [ht];rfl,?_⟩
 ·(simp only [aa];grind)
 rintro n i hj
 replace hj:=(fe _ _).1 hj
 obtain ⟨k,rfl,j1,j2,j4⟩:=hj
 cbv
 refine ai (fun h2=>?_) (fun h2=>?_)
 ·simp [ht,aa,ar] at h2
  cbv
  refine bJ [false,false,false,false,false,false,false,false,true] (by kernel_rfl) (by kernel_rfl) ?_
  cbv
  iterate 2 refine gI (by simp) ?_
  refine dg ht aF (cT:=aR.aH t) (by (simp only [ht,aa];omega)) (by (simp only [ht,aa];omega)) (fun _=>rfl) (fun _=>rfl) (fun x3 ke=>?_)
  simp [ht,aa] at ke
  rw [bO ke] at j4
  cbv
  iterate 3 refine gI (by simp) ?_
  refine dg ht qL (cT:=aR.aH t) (by (simp only [ht,aa];omega)) (by (simp only [ht,aa];omega)) (fun _=>rfl) (fun _=>rfl) (fun x4 qt=>?_)
  simp [ht,aa] at qt
  rw [bO qt] at j4
  cbv
  refine gI (by simp) ?_
  refine ai (fun h5=>?_) (fun h5=>?_)
  ·simp [ht] at h5
   cbv
   refine an trivial trivial rfl rfl rfl ?_
   (simp [ht];rintro rfl;simp_all;done)
  simp [ht] at h5
  cbv
  refine bf _ (by simp only [ht];rfl) (n-1) ?_ ((fe _ _).2 ?_)
  ·omega
  simp only [aa]
  refine ⟨k+1,aC (by omega),by omega,by omega,?_⟩
  (simp [U9,nT, *];done)
 simp [ht,aa,ar] at h2
 cbv
 refine an trivial trivial rfl rfl rfl ?_
 (simp [ht,j4,List.drop_eq_nil_of_le (show l.length≤k by omega),List.drop_eq_nil_of_le (show m.length≤k by omega)];done)
theorem Sq (ht:TT t) {l m:List bX} {es fs:List (List D)} (aF:es=l.map bX.cells) (qL:fs=m.map bX.cells) (hl:l.length<1000000000) (hm:m.length<1000000000):
 FC 53 [SL es,SL fs] [] (.ret (bY (t _ fun _=>decide (l=m)))) []:=by
 refine bC ht (aE:=[]) Tryz.func53 (c:=_) rfl rfl (N:=26) rfl (rs:=_) rfl (n:=0) rfl rfl ?_
 cbv
 have ar:es.length=l.length:=by rw [aF,List.length_map]
 have cD:fs.length=m.length:=by rw [qL,List.length_map]
 refine ai (fun h0=>?_) (fun h0=>?_)
 ·simp [ht,aa,ar,cD] at h0
  cbv
  refine an trivial trivial rfl rfl rfl ?_
  (simp [ht];rintro rfl;simp_all;done)
 simp [ht,aa,ar,cD] at h0
 cbv
 obtain ⟨J1,fe⟩:∃J1:Nat→Int→Prop,∀n i,J1 n i↔(∃k:Nat,i=k∧k+n=l.length∧l.length=m.length∧decide (l=m)=decide (l.drop k=m.drop k)):=⟨fun n v=>match v with|i=>(∃k:Nat,i=k∧k+n=l.length∧l.length=m.length∧decide (l=m)=decide (l.drop k=m.drop k)),fun _ _=>Iff.rfl⟩
 refine aZ ⟨[0,1,12,13],[],[]⟩ (σ:=Int) (fun v=>[(13,.d (.int .i64 (t _ fun _=>v)))]) (fun v=>[]) J1 ?_
 cbv
 refine aA ⟨l.length,_,(fe _ _).2 ?_,by simp only [ht];rfl,?_⟩
 ·(simp only [aa];grind)
 rintro n i hj
 replace hj:=(fe _ _).1 hj
 obtain ⟨k,rfl,j1,j2,j4⟩:=hj
 cbv
 refine ai (fun h2=>?_) (fun h2=>?_)
 ·simp [ht,aa,ar] at h2
  cbv
  refine bJ [false,false,false,false,false,false,false,false,true] (by kernel_rfl) (by kernel_rfl) ?_
  cbv
  iterate 2 refine gI (by simp) ?_
  refine dg ht aF (cT:=bX.aH t) (by (simp only [ht,aa];omega)) (by (simp only [ht,aa];omega)) (fun _=>rfl) (fun _=>rfl) (fun x3 ke=>?_)
  simp [ht,aa] at ke
  rw [bO ke] at j4
  cbv
  iterate 3 refine gI (by simp) ?_
  refine dg ht qL (cT:=bX.aH t) (by (simp only [ht,aa];omega)) (by (simp only [ht,aa];omega)) (fun _=>rfl) (fun _=>rfl) (fun x4 qt=>?_)
  simp [ht,aa] at qt
  rw [bO qt] at j4
  cbv
  refine gI (by simp) ?_
  refine ai (fun h5=>?_) (fun h5=>?_)
  ·simp [ht] at h5
   cbv
   refine an trivial trivial rfl rfl rfl ?_
   (simp [ht];rintro rfl;simp_all;done)
  simp [ht] at h5
  cbv
  refine bf _ (by simp only [ht];rfl) (n-1) ?_ ((fe _ _).2 ?_)
  ·omega
  simp only [aa]
  refine ⟨k+1,aC (by omega),by omega,by omega,?_⟩
  (simp [Lx, *];done)
 simp [ht,aa,ar] at h2
 cbv
 refine an trivial trivial rfl rfl rfl ?_
 (simp [ht,j4,List.drop_eq_nil_of_le (show l.length≤k by omega),List.drop_eq_nil_of_le (show m.length≤k by omega)];done)
theorem Sr (ht:TT t) (ji ja jb jc jd jn jp jt jf ki ka kb kc kd kn kp kt kf:Int) (jq kq:aD) (jr kr:Bool) {jB ksl:List Term} {tn ksr:List (List D)} (m8:tn=jB.map Term.cells) (acD:ksr=ksl.map Term.cells)
 (hl:jB.length<1000000000) (hl':ksl.length<1000000000) (hs:∀x∈jB,x.fW.length<1000000000) (hs':∀x∈ksl,x.fW.length<1000000000):
 FC 55 [.agg [az ji,ST jq,az ja,az jb,az jc,az jd,bq jn,bq jp,bq jt,SL tn,BL jr,bq jf],.agg [az ki,ST kq,az ka,az kb,az kc,az kd,bq kn,bq kp,bq kt,SL ksr,BL kr,bq kf]] [] (.ret (bY (t _ fun _=>decide ((⟨ji,⟨jq,⟨ja,jb,jc,jd⟩,jn,jp,jt,jB⟩,jr,jf⟩:Jb)=⟨ki,⟨kq,⟨ka,kb,kc,kd⟩,kn,kp,kt,ksl⟩,kr,kf⟩)))) []:=by
 refine bC ht (aE:=[]) Tryz.func55 (c:=_) rfl rfl (N:=31) rfl (rs:=_) rfl (n:=0) rfl rfl ?_
 cbv
 have tq:tn.length=jB.length:=by rw [m8,List.length_map]
 have aaH:ksr.length=ksl.length:=by rw [acD,List.length_map]
 iterate 5 refine gI (by simp [ht]) ?_
 refine pI (by simp [ht]) ?_
 iterate 5 refine gI (by simp [ht]) ?_
 refine pI (by simp [ht]) ?_
 iterate 4 refine gI (by simp [ht]) ?_
 refine aM (fun g0=>⟨by simp [ht] at g0 ⊢;exact g0,trivial,RU ht _ _ _ _ _ _ _ _ _ _ _ _ _ _ _ _ (by assumption) (by assumption) (by assumption) (by assumption) (by assumption) (by assumption)⟩) rfl rfl (fun r1 cX=>?_)
 simp only [ht] at cX
 cbv
 refine pI (by simp [ht]) ?_
 refine an trivial trivial rfl rfl rfl ?_
 (simp [*];grind)
theorem Ss (ht:TT t) {l m:List Jb} {es fs:List (List D)} (aF:es=l.map Jb.cells) (qL:fs=m.map Jb.cells) (hl:l.length<1000000000) (hm:m.length<1000000000) (hls:∀x∈l,x.x.sm) (Tl:∀x∈m,x.x.sm):
 FC 54 [SL es,SL fs,.fn 55 []] [] (.ret (bY (t _ fun _=>decide (l=m)))) []:=by
 refine bC ht (aE:=[]) Tryz.func54 (c:=_) rfl rfl (N:=32) rfl (rs:=_) rfl (n:=0) rfl rfl ?_
 cbv
 have ar:es.length=l.length:=by rw [aF,List.length_map]
 have cD:fs.length=m.length:=by rw [qL,List.length_map]
 refine ai (fun h0=>?_) (fun h0=>?_)
 ·simp [ht,aa,ar,cD] at h0
  cbv
  refine an trivial trivial rfl rfl rfl ?_
  (simp [ht];rintro rfl;simp_all;done)
 simp [ht,aa,ar,cD] at h0
 cbv
 obtain ⟨J1,fe⟩:∃J1:Nat→Int→Prop,∀n i,J1 n i↔(∃k:Nat,i=k∧k+n=l.length∧l.length=m.length∧decide (l=m)=decide (l.drop k=m.drop k)):=⟨fun n v=>match v with|i=>(∃k:Nat,i=k∧k+n=l.length∧l.length=m.length∧decide (l=m)=decide (l.drop k=m.drop k)),fun _ _=>Iff.rfl⟩
 refine aZ ⟨[1,2,15,16,17],[],[]⟩ (σ:=Int) (fun v=>[(17,.d (.int .i64 (t _ fun _=>v)))]) (fun v=>[]) J1 ?_
 cbv
 refine aA ⟨l.length,_,(fe _ _).2 ?_,by simp only [ht];rfl,?_⟩
 ·(simp only [aa];grind)
 rintro n i hj
 replace hj:=(fe _ _).1 hj
 obtain ⟨k,rfl,j1,j2,j4⟩:=hj
 cbv
 refine ai (fun h2=>?_) (fun h2=>?_)
 ·simp [ht,aa,ar] at h2
  cbv
  refine dg ht aF (cT:=Jb.aH t) (by (simp only [ht,aa];omega)) (by (simp only [ht,aa];omega)) (fun _=>rfl) (fun _=>(by (simp only [ht,Jb.aH];rfl))) (fun x3 ke=>?_)
  simp [ht,aa] at ke
  rw [bO ke] at j4
  have sx3:=hls _ (List.mem_of_getElem? ke)
  obtain ⟨afT,afU,afV,acE⟩:=sx3
  have afW:∀y∈(x3).x.b9,y.fW.length<1000000000:=fun y hy=>(acE y hy).2.1
  cbv
  refine dg ht qL (cT:=Jb.aH t) (by (simp only [ht,aa];omega)) (by (simp only [ht,aa];omega)) (fun _=>rfl) (fun _=>(by (simp only [ht,Jb.aH];rfl))) (fun x4 qt=>?_)
  simp [ht,aa] at qt
  rw [bO qt] at j4
  have sx4:=Tl _ (List.mem_of_getElem? qt)
  obtain ⟨afX,afY,afZ,acF⟩:=sx4
  have af0:∀y∈(x4).x.b9,y.fW.length<1000000000:=fun y hy=>(acF y hy).2.1
  cbv
  refine ay trivial (Sr ht _ _ _ _ _ _ _ _ _ _ _ _ _ _ _ _ _ _ _ _ _ _ (jH ht rfl) (jH ht rfl) (by assumption) (by assumption) (by assumption) (by assumption)) trivial rfl rfl (fun r5 jA=>?_)
  simp only [ht] at jA
  cbv
  refine ai (fun h6=>?_) (fun h6=>?_)
  ·simp [ht] at h6
   cbv
   refine an trivial trivial rfl rfl rfl ?_
   (simp [ht];rintro rfl;simp_all;done)
  simp [ht] at h6
  cbv
  refine bf _ (by simp only [ht];rfl) (n-1) ?_ ((fe _ _).2 ?_)
  ·omega
  simp only [aa]
  refine ⟨k+1,aC (by omega),by omega,by omega,?_⟩
  (simp_all [aab,XB,nT];done)
 simp [ht,aa,ar] at h2
 cbv
 refine an trivial trivial rfl rfl rfl ?_
 (simp [ht,j4,List.drop_eq_nil_of_le (show l.length≤k by omega),List.drop_eq_nil_of_le (show m.length≤k by omega)];done)
theorem tB (ht:TT t) (rd nx ef af:Int) {nl:List Node} {pl:List Place} {tl:List aR} {jl:List Jb} {ql:List bX} {el al:List bU} {ns ps ts js qs es cY:List (List D)} (gX:ns=nl.map Node.cells) (hps:ps=pl.map Place.cells) (hts:ts=tl.map aR.cells) (gi:js=jl.map Jb.cells) (fq:qs=ql.map bX.cells) (aF:es=el.map bU.cells) (has:cY=al.map bU.cells) (rd' nx' ef' af':Int) {nl':List Node} {V6:List Place} {V7:List aR} {Va:List Jb} {V8:List bX} {V9 Wa:List bU} {ns' ps' ts' js' Xa es' XZ:List (List D)} (acH:ns'=nl'.map Node.cells) (acI:ps'=V6.map Place.cells) (acJ:ts'=V7.map aR.cells) (acK:js'=Va.map Jb.cells) (Xb:Xa=V8.map bX.cells) (KU:es'=V9.map bU.cells) (acL:XZ=Wa.map bU.cells)
 (hb:nl.length<1000000∧pl.length<1000000∧tl.length<100000∧jl.length<1000000∧ql.length<1000000∧el.length<1000000∧al.length<1000000) (hb':nl'.length<1000000∧V6.length<1000000∧V7.length<100000∧Va.length<1000000∧V8.length<1000000∧V9.length<1000000∧Wa.length<1000000)
 (hls:∀x∈nl,x.labels.length<1000000000) (abL:∀x∈nl',x.labels.length<1000000000) (hjl:∀x∈jl,x.x.sm) (af1:∀x∈Va,x.x.sm):
 FC 17 [.agg [az rd,az nx,SL ns,SL ps,SL ts,SL js,SL qs,az ef,SL es,az af,SL cY],.agg [az rd',az nx',SL ns',SL ps',SL ts',SL js',SL Xa,az ef',SL es',az af',SL XZ]] [] (.ret (bY (t _ fun _=>wz ⟨rd,nx,⟨nl,pl⟩,tl,jl,ql,⟨ef,el⟩,⟨af,al⟩⟩ ⟨rd',nx',⟨nl',V6⟩,V7,Va,V8,⟨ef',V9⟩,⟨af',Wa⟩⟩))) []:=by
 obtain ⟨b1,b2,b3,b4,b5,b6,b7⟩:=hb
 obtain ⟨d1,d2,d3,d4,d5,d6,d7⟩:=hb'
 refine bC ht (aE:=[]) Tryz.func17 (c:=_) rfl rfl (N:=61) rfl (rs:=_) rfl (n:=0) rfl rfl ?_
 cbv
 have fj:ns.length=nl.length:=by rw [gX,List.length_map]
 have fE:ps.length=pl.length:=by rw [hps,List.length_map]
 have fZ:ts.length=tl.length:=by rw [hts,List.length_map]
 have dy:js.length=jl.length:=by rw [gi,List.length_map]
 have dM:qs.length=ql.length:=by rw [fq,List.length_map]
 have ar:es.length=el.length:=by rw [aF,List.length_map]
 have dU:cY.length=al.length:=by rw [has,List.length_map]
 have aaI:ns'.length=nl'.length:=by rw [acH,List.length_map]
 have aaJ:ps'.length=V6.length:=by rw [acI,List.length_map]
 have aaK:ts'.length=V7.length:=by rw [acJ,List.length_map]
 have aaL:js'.length=Va.length:=by rw [acK,List.length_map]
 have Uk:Xa.length=V8.length:=by rw [Xb,List.length_map]
 have Uj:es'.length=V9.length:=by rw [KU,List.length_map]
 have aad:XZ.length=Wa.length:=by rw [acL,List.length_map]
 iterate 5 refine gI (by simp [ht]) ?_
 refine pI (by simp [ht]) ?_
 iterate 4 refine gI (by simp [ht]) ?_
 refine aM (fun g0=>⟨by simp [ht] at g0 ⊢;exact g0,trivial,Sp ht (by assumption) (by assumption) (by omega) (by omega)⟩) rfl rfl (fun r1 cX=>?_)
 simp only [ht] at cX
 cbv
 refine pI (by simp [ht]) ?_
 iterate 4 refine gI (by simp [ht]) ?_
 refine aM (fun g2=>⟨by simp [ht] at g2 ⊢;exact g2,trivial,Sq ht (by assumption) (by assumption) (by omega) (by omega)⟩) rfl rfl (fun r3 gH=>?_)
 simp only [ht] at gH
 cbv
 refine pI (by simp [ht]) ?_
 iterate 4 refine gI (by simp [ht]) ?_
 refine aM (fun g4=>⟨by simp [ht] at g4 ⊢;exact g4,trivial,Ui ht (by assumption) (by assumption) (by assumption) (by assumption) (by omega) (by omega) (by omega) (by omega) (by assumption) (by assumption)⟩) rfl rfl (fun r5 jA=>?_)
 simp only [ht] at jA
 cbv
 refine pI (by simp [ht]) ?_
 iterate 4 refine gI (by simp [ht]) ?_
 refine aM (fun g6=>⟨by simp [ht] at g6 ⊢;exact g6,trivial,Ss ht (by assumption) (by assumption) (by omega) (by omega) (by assumption) (by assumption)⟩) rfl rfl (fun r7 gL=>?_)
 simp only [ht] at gL
 cbv
 refine pI (by simp [ht]) ?_
 iterate 4 refine gI (by simp [ht]) ?_
 refine aM (fun g8=>⟨by simp [ht] at g8 ⊢;exact g8,trivial,zI ht _ _ (by assumption) (by assumption) (by omega) (by omega)⟩) rfl rfl (fun r9 dN=>?_)
 simp only [ht] at dN
 cbv
 refine pI (by simp [ht]) ?_
 iterate 4 refine gI (by simp [ht]) ?_
 refine aM (fun g10=>⟨by simp [ht] at g10 ⊢;exact g10,trivial,zI ht _ _ (by assumption) (by assumption) (by omega) (by omega)⟩) rfl rfl (fun Yn pZ=>?_)
 simp only [ht] at pZ
 cbv
 refine pI (by simp [ht]) ?_
 refine an trivial trivial rfl rfl rfl ?_
 (simp [wz, *];done)
end Dem
end
