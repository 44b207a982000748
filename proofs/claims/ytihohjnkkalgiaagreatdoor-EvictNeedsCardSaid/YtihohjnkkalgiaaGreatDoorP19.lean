/- Parts of a proof, joined. -/
import Derived.Test.YtihohjnkkalgiaaGreatDoorP18
set_option linter.all false
set_option maxRecDepth 100000
set_option maxHeartbeats 4000000
section
open Go Dem Go.Proofs
namespace Dem
variable {t:Th}
def fL (t:Th) (s:bH):AV:=.agg [az s.round,az s.next,SL (t _ fun _=>s.bz.nodes.map Node.cells),SL (t _ fun _=>s.bz.places.map Place.cells),SL (t _ fun _=>s.tree.map bu.cells),SL (t _ fun _=>s.aG.map Jb.cells),SL (t _ fun _=>s.queue.map cR.cells),az s.ev.first,SL (t _ fun _=>s.ev.l.map eI.cells),az s.au.first,SL (t _ fun _=>s.au.l.map eI.cells)]
def zb (t:Th) (r:bH×Int):AV:=.dL [fL t r.1,bG r.2]
def Nt (t:Th) (r:bH×Int×Int):AV:=.dL [fL t r.1,az r.2.1,bG r.2.2]
theorem m7 (ht:TT t) (rd nx ef af id kd:Int) {nl:List Node} {pl:List Place} {tl:List bu} {jl:List Jb} {ql:List cR} {el al:List eI} {ns ps ts js qs es cQ:List (List D)}
 (fC:ns=nl.map Node.cells) (hps:ps=pl.map Place.cells) (hts:ts=tl.map bu.cells) (eZ:js=jl.map Jb.cells) (eU:qs=ql.map cR.cells) (aA:es=el.map eI.cells) (has:cQ=al.map eI.cells) (hel:el.length<1000000):
 FC 65 [.agg [az rd,az nx,SL ns,SL ps,SL ts,SL js,SL qs,az ef,SL es,az af,SL cQ],az id,bG kd] [] (.ret (fL t (t _ fun _=>iP ⟨rd,nx,⟨nl,pl⟩,tl,jl,ql,⟨ef,el⟩,⟨af,al⟩⟩ id kd))) []:=by
 obtain ⟨⟨f9,l9⟩,h9⟩:∃r,r=tell ⟨ef,el⟩ ⟨rd,id,kd⟩:=⟨_,rfl⟩
 refine bL ht (aI:=[]) Tryz.func65 rfl rfl (N:=17) rfl rfl (n:=0) rfl rfl ?_
 cbv
 have aU:ns.length=nl.length:=by rw [fC,lgM]
 have aW:ps.length=pl.length:=by rw [hps,lgM]
 have aV:ts.length=tl.length:=by rw [hts,lgM]
 have aX:js.length=jl.length:=by rw [eZ,lgM]
 have aK:qs.length=ql.length:=by rw [eU,lgM]
 have av:es.length=el.length:=by rw [aA,lgM]
 have aJ:cQ.length=al.length:=by rw [has,lgM]
 refine aB trv (PN ht _ _ _ _ ‹_› ‹_›) trv rfl rfl rfl (fun r0 cF=>?_)
 simp only [ht] at cF
 rw [←h9] at cF
 subst r0
 cbv
 refine ax trv trv rfl rfl rfl ?_
 (simp only [ht,iP];grind)
theorem IX (ht:TT t):FC 38 [] [] (.ret (fL t (t _ fun _=>JR))) []:=by
 refine bL ht (aI:=[]) Tryz.func38 rfl rfl (N:=4) rfl rfl (n:=0) rfl rfl ?_
 cbv
 refine aB trv (PV ht _ _ _ _) trv rfl rfl rfl (fun r0 cF=>?_)
 simp only [ht] at cF
 cbv
 refine ax trv trv rfl rfl rfl ?_
 (simp [JR,bH.zero,bM.zero, *];done)
theorem rW (ht:TT t) {es:List (List D)} (aA:∀r∈es,r.length=12) (hs:es.length*120≤140737488355328) {m:Nat} (hm:m=es.length):
 FC 45 [SL es] [] (.ret (.ow 0 12 m)) [.row 12 es]:=by
 refine bL ht (aI:=[]) Tryz.func45 rfl rfl (N:=8) rfl rfl (n:=0) rfl rfl ?_
 cbv
 refine ⟨fun b hb=>?_⟩
 simp only [ht] at hb
 cbv
 refine an (fun h=>?_) (fun h=>?_)
 ·have he:=hb h
  subst he
  cbv
  exact Er trv rfl rfl (by rw [hm];rfl) rfl
 clear hb h
 cbv
 refine ⟨?_,?_⟩
 ·simp only [ht];simp;exact ⟨hs,aA⟩
 refine Ad trv rfl rfl rfl rfl ?_ ?_
 ·simp only [ht];rw [hm];simp
 simp only [ht];rfl
theorem pJ (ht:TT t) {l:List Jb} {es:List (List D)} (aA:es=l.map Jb.cells) (hs:l.length<1000000):
 FC 45 [SL es] [] (.ret (.ow 0 12 (t _ fun _=>(l.map Jb.cells).length))) [.row 12 (t _ fun _=>l.map Jb.cells)]:=by
 simp only [ht];subst aA
 refine rW ht ?_ ?_ (by simp)
 ·intro r hr;obtain ⟨y,_,rfl⟩:=List.mem_map.1 hr;rfl
 simp;omega
theorem Kz:∀c<8,∀i<4,(dy (c*32) i).nodes.length≤4:=by decide+kernel
theorem iU {N i:Nat} (hN:N<256) (hi:i<4):(dy N i).nodes.length<1000000000:=by
 rw [ER]
 have:=Kz (N / 32) (by omega) i hi
 omega
theorem nX:∀k,∀p∈pz k,p.sm:=by
 intro k p hp
 unfold pz at hp
 split at hp
 ·rw [List.mem_singleton.1 hp]
  rename_i h
  have:k=0∨k=1:=by omega
  rcases this with rfl|rfl<;>exact ⟨by decide,by decide⟩
 cases hp
theorem Nu:∀k<3,∀N<256,(((N:Nat):Int).fdiv (2^min (IntKind.i64.wrap (5+((k:Nat):Int))).toNat IntKind.u8.bits)).tmod 2=0↔Py N k=true:=by decide+kernel
theorem cC {a z:Int} {N k:Nat} (hN:N<256) (ea:a=N) (h:(a.fdiv (2^min (IntKind.i64.wrap z).toNat IntKind.u8.bits)).tmod 2=0) (hk:k<3) (hz:z=5+((k:Nat):Int)):Py N k=true:=by
 subst ea hz;exact (Nu k hk N hN).1 h
theorem dH {a z:Int} {N k:Nat} (hN:N<256) (ea:a=N) (h:¬(a.fdiv (2^min (IntKind.i64.wrap z).toNat IntKind.u8.bits)).tmod 2=0) (hk:k<3) (hz:z=5+((k:Nat):Int)):¬Py N k=true:=by
 subst ea hz;exact fun g=>h ((Nu k hk N hN).2 g)
theorem bD {N k:Nat} {nm:aQ} {w:Int} {r:bf×Int} (h:r=o6 ⟨(dy N k).nodes,(dy N k).places⟩ ⟨nm,⟨w,9,9,9⟩,pz k,false⟩) (hnm:nm=fK.getD k []) (hw:w=((4+2*k:Nat):Int)) (hu:Py N k=true):dy N (k+1)=r.1:=by
 subst hw hnm h;rw [dy,if_pos hu]
theorem bQ {N k:Nat} (hu:¬Py N k=true):dy N (k+1)=dy N k:=by rw [dy,if_neg hu]
theorem iV:∀k<3,∀m<5,IntKind.u64.wrap (IntKind.i64.wrap (IntKind.i64.wrap (6+IntKind.i64.wrap (4*((k:Nat):Int)))+IntKind.i64.wrap ((m:Nat):Int)))=((6+4*k+m:Nat):Int):=by decide+kernel
theorem gv {m k:Nat} {p:aQ} {w:Int} {r:List bu×Int} (h:r=tE (j7 m k) p ⟨w,20,20,20⟩) (hp:p=Q7.getD k []) (hw:w=((6+4*k+m:Nat):Int)):r.1=j7 m (k+1):=by subst hw hp h;rfl
theorem ze (ht:TT t) {l m:List aQ} {es fs:List (List D)} (aA:es=l.map bg) (Rb:fs=m.map bg) (hl:l.length<1000000000) (hm:m.length<1000000000):
 FC 22 [SL es,SL fs] [] (.ret (cP (t _ fun _=>decide (l=m)))) []:=by
 refine bL ht (aI:=[]) Tryz.func22 rfl rfl (N:=26) rfl rfl (n:=0) rfl rfl ?_
 cbv
 have av:es.length=l.length:=by rw [aA,lgM]
 have fM:fs.length=m.length:=by rw [Rb,lgM]
 refine an (fun h0=>?_) (fun h0=>?_)
 ·simp [ht,aa,av,fM] at h0
  cbv
  refine ax trv trv rfl rfl rfl ?_
  (simp [ht];rintro rfl;simp_all;done)
 simp [ht,aa,av,fM] at h0
 cbv
 obtain ⟨J1,pF⟩:∃J1:Nat→Int→Prop,∀n i,J1 n i↔(∃k:Nat,i=k∧k+n=l.length∧l.length=m.length∧decide (l=m)=decide (l.drop k=m.drop k)):=⟨fun n v=>match v with|i=>(∃k:Nat,i=k∧k+n=l.length∧l.length=m.length∧decide (l=m)=decide (l.drop k=m.drop k)),fun _ _=>Iff.rfl⟩
 refine bI ⟨[0,1,5],[],[]⟩ (σ:=Int) (fun v=>[(5,.d (.int .i64 (t _ fun _=>v)))]) (fun v=>[]) J1 ?_
 cbv
 refine aC ⟨l.length,_,(pF _ _).2 ?_,by simp only [ht];rfl,?_⟩
 ·exact ⟨0,rfl,by simp,by ((try simp only [aa] at*);omega),by simp⟩
 rintro n i hj
 replace hj:=(pF _ _).1 hj
 obtain ⟨k,rfl,j1,j2,j4⟩:=hj
 cbv
 refine an (fun h2=>?_) (fun h2=>?_)
 ·simp [ht,aa,av,fM] at h2
  cbv
  refine c7 [false,false,false,false,false,false,false,false,true] (by kernel_rfl) (by kernel_rfl) ?_
  cbv
  iterate 2 refine gI (by simp [ht,ah]) ?_
  refine jZ ht aA (cT:=dN t) (by (simp only [ht,aa];omega)) (by (simp only [ht,aa];omega)) (fun _=>rfl) (fun _=>rfl) (fun x3 U3=>?_)
  simp [ht,aa] at U3
  rw [gu U3] at j4
  cbv
  iterate 3 refine gI (by simp [ht,ah]) ?_
  refine jZ ht Rb (cT:=dN t) (by (simp only [ht,aa];omega)) (by (simp only [ht,aa];omega)) (fun _=>rfl) (fun _=>rfl) (fun x4 FN=>?_)
  simp [ht,aa] at FN
  rw [gu FN] at j4
  cbv
  refine gI (by simp [ht,ah]) ?_
  refine an (fun h5=>?_) (fun h5=>?_)
  ·simp [ht,aa,av,fM] at h5
   cbv
   refine ax trv trv rfl rfl rfl ?_
   (simp [ht];rintro rfl;simp_all;done)
  simp [ht,aa,av,fM] at h5
  cbv
  refine cL _ (by simp only [ht];rfl) (n-1) ?_ ((pF _ _).2 ?_)
  ·omega
  simp only [ht,aa]
  refine ⟨k+1,aD (by omega),by omega,by omega,?_⟩
  (simp [ht,cP, *];done)
 simp [ht,aa,av,fM] at h2
 cbv
 refine ax trv trv rfl rfl rfl ?_
 (simp [ht,j4,List.drop_eq_nil_of_le (show l.length≤k by omega),List.drop_eq_nil_of_le (show m.length≤k by omega)];done)
theorem wV (ht:TT t) (k a b c d:Int) (x:je) (hx:x.u) (hk:k=x.kind) (ha:a=x.a) (hb:b=x.b) (hc:c=x.c) (hd:d=x.d):
 FC 94 [.agg [U8 k,U8 a,U8 b,U8 c,U8 d]] [] (.ret (WV t (t _ fun _=>Aj x))) []:=by
 obtain ⟨u1,u2,u3,u4,u5⟩:=hx
 obtain ⟨nm,hnm⟩:∃nm,nm=yP.getD (x.a%4) []:=⟨_,rfl⟩
 have w1:IntKind.u64.wrap (b.tmod 5)=((x.b%5:Nat):Int):=by rw [hb,Le,PK _ (by omega)]
 have w2:IntKind.u64.wrap ((IntKind.u8.wrap (b.tdiv 5)).tmod 5)=((x.b / 5%5:Nat):Int):=by rw [hb,Zu,WU _ (by omega),Le,PK _ (by omega)]
 have w3:IntKind.u64.wrap ((IntKind.u8.wrap (b.tdiv 25)).tmod 3)=((x.b / 25%3:Nat):Int):=by rw [hb,WT,WU _ (by omega),WS,PK _ (by omega)]
 have w4:IntKind.i64.wrap (1+IntKind.i64.wrap (c.tmod 3))=((1+x.c%3:Nat):Int):=by rw [hc,WS,M3 _ (by omega),show (1:Int)+((x.c%3:Nat):Int)=((1+x.c%3:Nat):Int) by omega,M3 _ (by omega)]
 have w5:IntKind.i64.wrap ((IntKind.u8.wrap (c.tdiv 3)).tmod 4)=((x.c / 3%4:Nat):Int):=by rw [hc,Zv,WU _ (by omega),WR,M3 _ (by omega)]
 have w6:IntKind.i64.wrap (1+IntKind.i64.wrap (d.tmod 5))=((1+x.d%5:Nat):Int):=by rw [hd,Le,M3 _ (by omega),show (1:Int)+((x.d%5:Nat):Int)=((1+x.d%5:Nat):Int) by omega,M3 _ (by omega)]
 have w7:decide (d.tmod 2=1)=decide (x.d%2=1):=by rw [decide_eq_decide,hd,Yu];omega
 refine bL ht (aI:=[]) Tryz.func94 rfl rfl (N:=53) rfl rfl (n:=0) rfl rfl ?_
 cbv
 refine c7 [false,false,false,false,false,false,false,false,false,false,false,false,false,false,false,false,false,false,false,false,false,false,false,false,false,false,false,false,false,false,false,false,false,false,false,false,false,false,true] (by kernel_rfl) (by kernel_rfl) ?_
 cbv
 iterate 4 refine gI (by simp [ht,ah]) ?_
 (refine cI [.str nm] (by simp only [ht,ha,WR];exact M4 x.a) (by simp only [ht,ha,WR];rw [hnm];exact M5 x.a) ?_)
 cbv
 iterate 32 refine gI (by simp [ht,ah]) ?_
 refine an (fun h0=>?_) (fun h0=>?_)
 ·simp [ht,aa] at h0
  cbv
  refine ⟨?_,?_⟩
  ·(simp only [ht,aa] at*;omega)
  cbv
  refine ax trv trv rfl rfl rfl ?_
  (simp only [ht,w1,w2,w3,w4,w5,w6,w7,hnm,Aj];rw [if_pos (show 200<x.d by ((try simp only [aa] at*);omega))];rfl)
 simp [ht,aa] at h0
 cbv
 refine ax trv trv rfl rfl rfl ?_
 (simp only [ht,w1,w2,w3,w4,w5,w6,hnm,Aj];rw [if_neg (show ¬200<x.d by ((try simp only [aa] at*);omega))];rfl)
theorem zf (ht:TT t) (N:Nat) (hN:N<256) {a:Int} (ea:a=N):FC 41 [.d (.int .u8 a)] [] (.ret (fL t (t _ fun _=>iT N))) []:=by
 have hm:N%5<5:=Nat.mod_lt _ (by decide)
 have hl0:=MU (N%5) hm
 refine bL ht (aI:=[]) Tryz.func41 rfl rfl (N:=81) rfl rfl (n:=0) rfl rfl ?_
 cbv
 refine aB trv (IX ht) trv rfl rfl rfl (fun r0 cF=>?_)
 simp only [ht] at cF
 cbv
 (first|(refine aB trv (fj ht _ _ _ _ _ (l:=[⟨[],bM.zero,bM.zero⟩]) (by simp only [ht,cF];rfl) (by decide) (by decide) (by decide)) (by simp [ht]) rfl rfl rfl (fun r1 dM=>?_))|(refine aB trv (fj ht _ _ _ _ _ (l:=j7 (N%5) 0) (by simp only [ht];exact jt) (by have:=hl0 0 (by decide);((try simp only [aa] at*);omega)) (by decide) (by decide)) (by simp [ht]) rfl rfl rfl (fun r2 fh=>?_))|(refine aB trv (fj ht _ _ _ _ _ (l:=j7 (N%5) 1) (by simp only [ht];exact jt) (by have:=hl0 1 (by decide);((try simp only [aa] at*);omega)) (by decide) (by decide)) (by simp [ht]) rfl rfl rfl (fun r2 fh=>?_))|(refine aB trv (fj ht _ _ _ _ _ (l:=j7 (N%5) 2) (by simp only [ht];exact jt) (by have:=hl0 2 (by decide);((try simp only [aa] at*);omega)) (by decide) (by decide)) (by simp [ht]) rfl rfl rfl (fun r2 fh=>?_)))
 cbv
 obtain ⟨J1,pF⟩:∃J1:Nat→Int×List (List D)→Prop,∀m i tr,J1 m (i,tr)↔((i=0∧m=3∧tr=(j7 (N%5) 0).map bu.cells)∨(i=1∧m=2∧tr=(j7 (N%5) 1).map bu.cells)∨(i=2∧m=1∧tr=(j7 (N%5) 2).map bu.cells)∨(i=3∧m=0∧tr=(j7 (N%5) 3).map bu.cells)):=⟨fun m v=>match v with|(i,tr)=>((i=0∧m=3∧tr=(j7 (N%5) 0).map bu.cells)∨(i=1∧m=2∧tr=(j7 (N%5) 1).map bu.cells)∨(i=2∧m=1∧tr=(j7 (N%5) 2).map bu.cells)∨(i=3∧m=0∧tr=(j7 (N%5) 3).map bu.cells)),fun _ _ _=>Iff.rfl⟩
 refine bI ⟨[0,2,3,18,19,20],[],[]⟩ (σ:=Int×List (List D)) (fun v=>[(20,.d (.int .i64 (t _ fun _=>v.1)))]) (fun v=>[(1,.var [AV.d (D.int IntKind.u64 r0.1),AV.d (D.int IntKind.u64 r0.2),AV.d (D.sl (t (List (List D)) fun x=>List.map (fun x=>[D.str (Node.name x),D.int IntKind.u64 (bM.a (Node.cap x)),D.int IntKind.u64 (bM.b (Node.cap x)),D.int IntKind.u64 (bM.c (Node.cap x)),D.int IntKind.u64 (bM.d (Node.cap x)),D.sl (List.map (fun p=>[D.str (cZ.key p),D.str (cZ.value p)]) (Node.labels x)),D.bool (Node.up x)]) (bf.nodes (bH.bz r0)))),AV.d (D.sl (t (List (List D)) fun x=>List.map (fun x=>[D.int IntKind.u64 (Place.bS x),D.str (Place.node x),D.int IntKind.u64 (bM.a (Place.v x)),D.int IntKind.u64 (bM.b (Place.v x)),D.int IntKind.u64 (bM.c (Place.v x)),D.int IntKind.u64 (bM.d (Place.v x))]) (bf.places (bH.bz r0)))),.d (.sl (t _ fun _=>v.2)),AV.d (D.sl (t (List (List D)) fun x=>List.map Jb.cells (bH.aG r0))),AV.d (D.sl (t (List (List D)) fun x=>List.map cR.cells (bH.queue r0))),AV.d (D.int IntKind.u64 r0.7.1),AV.d (D.sl (t (List (List D)) fun x=>List.map eI.cells (Ai.l (bH.ev r0)))),AV.d (D.int IntKind.u64 r0.8.1),AV.d (D.sl (t (List (List D)) fun x=>List.map eI.cells (Ai.l (bH.au r0))))])]) J1 ?_
 cbv
 refine aC ⟨3,(_,_),(pF _ _ _).2 ?_,by simp only [ht];rfl,?_⟩
 ·exact .inl ⟨rfl,rfl,by simp only [ht,dM];rfl⟩
 rintro m ⟨i,tr⟩ hj
 replace hj:=(pF _ _ _).1 hj
 (rcases hj with ⟨rfl,jm,jt⟩|⟨rfl,jm,jt⟩|⟨rfl,jm,jt⟩|⟨rfl,jm,jt⟩)
 ·cbv
  refine an (fun h2=>?_) (fun h2=>?_)
  ·simp [ht,aa] at h2
   cbv
   (first|(refine cI [.str [97]] (by simp only [ht];decide) (by simp only [ht];rfl) ?_)|(refine cI [.str [97,47,98]] (by simp only [ht];decide) (by simp only [ht];rfl) ?_)|(refine cI [.str [98]] (by simp only [ht];decide) (by simp only [ht];rfl) ?_)|(refine cI [.str [110,49]] (by simp only [ht];decide) (by simp only [ht];rfl) ?_)|(refine cI [.str [110,50]] (by simp only [ht];decide) (by simp only [ht];rfl) ?_)|(refine cI [.str [110,51]] (by simp only [ht];decide) (by simp only [ht];rfl) ?_))
   cbv
   refine ⟨?_,?_⟩
   ·(simp only [ht];decide)
   cbv
   (first|(refine aB trv (fj ht _ _ _ _ _ (l:=[⟨[],bM.zero,bM.zero⟩]) (by simp only [ht,cF];rfl) (by decide) (by decide) (by decide)) (by simp [ht]) rfl rfl rfl (fun r1 dM=>?_))|(refine aB trv (fj ht _ _ _ _ _ (l:=j7 (N%5) 0) (by simp only [ht];exact jt) (by have:=hl0 0 (by decide);((try simp only [aa] at*);omega)) (by decide) (by decide)) (by simp [ht]) rfl rfl rfl (fun r2 fh=>?_))|(refine aB trv (fj ht _ _ _ _ _ (l:=j7 (N%5) 1) (by simp only [ht];exact jt) (by have:=hl0 1 (by decide);((try simp only [aa] at*);omega)) (by decide) (by decide)) (by simp [ht]) rfl rfl rfl (fun r2 fh=>?_))|(refine aB trv (fj ht _ _ _ _ _ (l:=j7 (N%5) 2) (by simp only [ht];exact jt) (by have:=hl0 2 (by decide);((try simp only [aa] at*);omega)) (by decide) (by decide)) (by simp [ht]) rfl rfl rfl (fun r2 fh=>?_)))
   cbv
   refine cL (_,_) (by simp only [ht];rfl) (m-1) ?_ ((pF _ _ _).2 ?_)
   ·omega
   first|exact .inr (.inl ⟨by rw [cJ (by decide) (by decide)];rfl,by omega,congrArg _ (gv (k:=0) (fh.trans (ht _ _)) rfl (by simp only [ht,ea,Le];exact iV 0 (by decide) _ hm))⟩)|exact .inr (.inr (.inl ⟨by rw [cJ (by decide) (by decide)];rfl,by omega,congrArg _ (gv (k:=1) (fh.trans (ht _ _)) rfl (by simp only [ht,ea,Le];exact iV 1 (by decide) _ hm))⟩))|exact .inr (.inr (.inr ⟨by rw [cJ (by decide) (by decide)];rfl,by omega,congrArg _ (gv (k:=2) (fh.trans (ht _ _)) rfl (by simp only [ht,ea,Le];exact iV 2 (by decide) _ hm))⟩))
  simp [ht,aa] at h2
 ·cbv
  refine an (fun h3=>?_) (fun h3=>?_)
  ·simp [ht,aa] at h3
   cbv
   (first|(refine cI [.str [97]] (by simp only [ht];decide) (by simp only [ht];rfl) ?_)|(refine cI [.str [97,47,98]] (by simp only [ht];decide) (by simp only [ht];rfl) ?_)|(refine cI [.str [98]] (by simp only [ht];decide) (by simp only [ht];rfl) ?_)|(refine cI [.str [110,49]] (by simp only [ht];decide) (by simp only [ht];rfl) ?_)|(refine cI [.str [110,50]] (by simp only [ht];decide) (by simp only [ht];rfl) ?_)|(refine cI [.str [110,51]] (by simp only [ht];decide) (by simp only [ht];rfl) ?_))
   cbv
   refine ⟨?_,?_⟩
   ·(simp only [ht];decide)
   cbv
   (first|(refine aB trv (fj ht _ _ _ _ _ (l:=[⟨[],bM.zero,bM.zero⟩]) (by simp only [ht,cF];rfl) (by decide) (by decide) (by decide)) (by simp [ht]) rfl rfl rfl (fun r1 dM=>?_))|(refine aB trv (fj ht _ _ _ _ _ (l:=j7 (N%5) 0) (by simp only [ht];exact jt) (by have:=hl0 0 (by decide);((try simp only [aa] at*);omega)) (by decide) (by decide)) (by simp [ht]) rfl rfl rfl (fun r2 fh=>?_))|(refine aB trv (fj ht _ _ _ _ _ (l:=j7 (N%5) 1) (by simp only [ht];exact jt) (by have:=hl0 1 (by decide);((try simp only [aa] at*);omega)) (by decide) (by decide)) (by simp [ht]) rfl rfl rfl (fun r2 fh=>?_))|(refine aB trv (fj ht _ _ _ _ _ (l:=j7 (N%5) 2) (by simp only [ht];exact jt) (by have:=hl0 2 (by decide);((try simp only [aa] at*);omega)) (by decide) (by decide)) (by simp [ht]) rfl rfl rfl (fun r2 fh=>?_)))
   cbv
   refine cL (_,_) (by simp only [ht];rfl) (m-1) ?_ ((pF _ _ _).2 ?_)
   ·omega
   first|exact .inr (.inl ⟨by rw [cJ (by decide) (by decide)];rfl,by omega,congrArg _ (gv (k:=0) (fh.trans (ht _ _)) rfl (by simp only [ht,ea,Le];exact iV 0 (by decide) _ hm))⟩)|exact .inr (.inr (.inl ⟨by rw [cJ (by decide) (by decide)];rfl,by omega,congrArg _ (gv (k:=1) (fh.trans (ht _ _)) rfl (by simp only [ht,ea,Le];exact iV 1 (by decide) _ hm))⟩))|exact .inr (.inr (.inr ⟨by rw [cJ (by decide) (by decide)];rfl,by omega,congrArg _ (gv (k:=2) (fh.trans (ht _ _)) rfl (by simp only [ht,ea,Le];exact iV 2 (by decide) _ hm))⟩))
  simp [ht,aa] at h3
 ·cbv
  refine an (fun h4=>?_) (fun h4=>?_)
  ·simp [ht,aa] at h4
   cbv
   (first|(refine cI [.str [97]] (by simp only [ht];decide) (by simp only [ht];rfl) ?_)|(refine cI [.str [97,47,98]] (by simp only [ht];decide) (by simp only [ht];rfl) ?_)|(refine cI [.str [98]] (by simp only [ht];decide) (by simp only [ht];rfl) ?_)|(refine cI [.str [110,49]] (by simp only [ht];decide) (by simp only [ht];rfl) ?_)|(refine cI [.str [110,50]] (by simp only [ht];decide) (by simp only [ht];rfl) ?_)|(refine cI [.str [110,51]] (by simp only [ht];decide) (by simp only [ht];rfl) ?_))
   cbv
   refine ⟨?_,?_⟩
   ·(simp only [ht];decide)
   cbv
   (first|(refine aB trv (fj ht _ _ _ _ _ (l:=[⟨[],bM.zero,bM.zero⟩]) (by simp only [ht,cF];rfl) (by decide) (by decide) (by decide)) (by simp [ht]) rfl rfl rfl (fun r1 dM=>?_))|(refine aB trv (fj ht _ _ _ _ _ (l:=j7 (N%5) 0) (by simp only [ht];exact jt) (by have:=hl0 0 (by decide);((try simp only [aa] at*);omega)) (by decide) (by decide)) (by simp [ht]) rfl rfl rfl (fun r2 fh=>?_))|(refine aB trv (fj ht _ _ _ _ _ (l:=j7 (N%5) 1) (by simp only [ht];exact jt) (by have:=hl0 1 (by decide);((try simp only [aa] at*);omega)) (by decide) (by decide)) (by simp [ht]) rfl rfl rfl (fun r2 fh=>?_))|(refine aB trv (fj ht _ _ _ _ _ (l:=j7 (N%5) 2) (by simp only [ht];exact jt) (by have:=hl0 2 (by decide);((try simp only [aa] at*);omega)) (by decide) (by decide)) (by simp [ht]) rfl rfl rfl (fun r2 fh=>?_)))
   cbv
   refine cL (_,_) (by simp only [ht];rfl) (m-1) ?_ ((pF _ _ _).2 ?_)
   ·omega
   first|exact .inr (.inl ⟨by rw [cJ (by decide) (by decide)];rfl,by omega,congrArg _ (gv (k:=0) (fh.trans (ht _ _)) rfl (by simp only [ht,ea,Le];exact iV 0 (by decide) _ hm))⟩)|exact .inr (.inr (.inl ⟨by rw [cJ (by decide) (by decide)];rfl,by omega,congrArg _ (gv (k:=1) (fh.trans (ht _ _)) rfl (by simp only [ht,ea,Le];exact iV 1 (by decide) _ hm))⟩))|exact .inr (.inr (.inr ⟨by rw [cJ (by decide) (by decide)];rfl,by omega,congrArg _ (gv (k:=2) (fh.trans (ht _ _)) rfl (by simp only [ht,ea,Le];exact iV 2 (by decide) _ hm))⟩))
  simp [ht,aa] at h4
 cbv
 refine an (fun h5=>?_) (fun h5=>?_)
 ·simp [ht,aa] at h5
 simp [ht,aa] at h5
 cbv
 obtain ⟨J6,Lf⟩:∃J6:Nat→Int×List (List D)×List (List D)→Prop,∀m i x y,J6 m (i,x,y)↔((i=0∧m=3∧x=(dy N 0).nodes.map Node.cells∧y=(dy N 0).places.map Place.cells)∨(i=1∧m=2∧x=(dy N 1).nodes.map Node.cells∧y=(dy N 1).places.map Place.cells)∨(i=2∧m=1∧x=(dy N 2).nodes.map Node.cells∧y=(dy N 2).places.map Place.cells)∨(i=3∧m=0∧x=(dy N 3).nodes.map Node.cells∧y=(dy N 3).places.map Place.cells)):=⟨fun m v=>match v with|(i,x,y)=>((i=0∧m=3∧x=(dy N 0).nodes.map Node.cells∧y=(dy N 0).places.map Place.cells)∨(i=1∧m=2∧x=(dy N 1).nodes.map Node.cells∧y=(dy N 1).places.map Place.cells)∨(i=2∧m=1∧x=(dy N 2).nodes.map Node.cells∧y=(dy N 2).places.map Place.cells)∨(i=3∧m=0∧x=(dy N 3).nodes.map Node.cells∧y=(dy N 3).places.map Place.cells)),fun _ _ _ _=>Iff.rfl⟩
 refine bI ⟨[0,2,3,43,44,45],[],[]⟩ (σ:=Int×List (List D)×List (List D)) (fun v=>[(45,.d (.int .i64 (t _ fun _=>v.1)))]) (fun v=>[(1,.var [AV.d (D.int IntKind.u64 r0.1),AV.d (D.int IntKind.u64 r0.2),.d (.sl (t _ fun _=>v.2.1)),.d (.sl (t _ fun _=>v.2.2)),AV.d (D.sl (t (List (List D)) fun x=>Prod.snd (3,tr))),AV.d (D.sl (t (List (List D)) fun x=>List.map Jb.cells (bH.aG r0))),AV.d (D.sl (t (List (List D)) fun x=>List.map cR.cells (bH.queue r0))),AV.d (D.int IntKind.u64 r0.7.1),AV.d (D.sl (t (List (List D)) fun x=>List.map eI.cells (Ai.l (bH.ev r0)))),AV.d (D.int IntKind.u64 r0.8.1),AV.d (D.sl (t (List (List D)) fun x=>List.map eI.cells (Ai.l (bH.au r0))))])]) J6 ?_
 cbv
 refine aC ⟨3,(_,_,_),(Lf _ _ _ _).2 ?_,by simp only [ht];rfl,?_⟩
 ·exact .inl ⟨rfl,rfl,by rw [cF];rfl,by rw [cF];rfl⟩
 rintro m ⟨i,x,y⟩ hj
 replace hj:=(Lf _ _ _ _).1 hj
 (rcases hj with ⟨rfl,jm,jx,jy⟩|⟨rfl,jm,jx,jy⟩|⟨rfl,jm,jx,jy⟩|⟨rfl,jm,jx,jy⟩)
 ·cbv
  refine an (fun h7=>?_) (fun h7=>?_)
  ·simp [ht,aa] at h7
   cbv
   (first|(refine cI [.str [97]] (by simp only [ht];decide) (by simp only [ht];rfl) ?_)|(refine cI [.str [97,47,98]] (by simp only [ht];decide) (by simp only [ht];rfl) ?_)|(refine cI [.str [98]] (by simp only [ht];decide) (by simp only [ht];rfl) ?_)|(refine cI [.str [110,49]] (by simp only [ht];decide) (by simp only [ht];rfl) ?_)|(refine cI [.str [110,50]] (by simp only [ht];decide) (by simp only [ht];rfl) ?_)|(refine cI [.str [110,51]] (by simp only [ht];decide) (by simp only [ht];rfl) ?_))
   cbv
   refine ⟨?_,?_⟩
   ·(simp only [ht];decide)
   refine ⟨?_,?_⟩
   ·(simp only [ht];decide)
   cbv
   refine an (fun h8=>?_) (fun h8=>?_)
   ·simp [ht,aa] at h8
    cbv
    refine an (fun h9=>?_) (fun h9=>?_)
    ·simp [ht,aa] at h9
     cbv
     (first|(refine cI [.str [97]] (by simp only [ht];decide) (by simp only [ht];rfl) ?_)|(refine cI [.str [97,47,98]] (by simp only [ht];decide) (by simp only [ht];rfl) ?_)|(refine cI [.str [98]] (by simp only [ht];decide) (by simp only [ht];rfl) ?_)|(refine cI [.str [110,49]] (by simp only [ht];decide) (by simp only [ht];rfl) ?_)|(refine cI [.str [110,50]] (by simp only [ht];decide) (by simp only [ht];rfl) ?_)|(refine cI [.str [110,51]] (by simp only [ht];decide) (by simp only [ht];rfl) ?_))
     cbv
     (first|(refine aB trv (nW ht (l:=(dy N 0).nodes) (ps:=(dy N 0).places) (by simp only [ht];exact jx) (by simp only [ht];exact jy) _ _ _ _ _ (lb:=pz 0) rfl false (iU hN (by decide)) (by decide) (by decide) (nX _)) (by simp [ht]) rfl rfl rfl (fun r4 eK=>?_))|(refine aB trv (nW ht (l:=(dy N 1).nodes) (ps:=(dy N 1).places) (by simp only [ht];exact jx) (by simp only [ht];exact jy) _ _ _ _ _ (lb:=pz 1) rfl false (iU hN (by decide)) (by decide) (by decide) (nX _)) (by simp [ht]) rfl rfl rfl (fun r4 eK=>?_))|(refine aB trv (nW ht (l:=(dy N 2).nodes) (ps:=(dy N 2).places) (by simp only [ht];exact jx) (by simp only [ht];exact jy) _ _ _ _ _ (lb:=pz 2) rfl false (iU hN (by decide)) (by decide) (by decide) (nX _)) (by simp [ht]) rfl rfl rfl (fun r4 eK=>?_)))
     cbv
     refine cL (_,_,_) (by simp only [ht];rfl) (m-1) ?_ ((Lf _ _ _ _).2 ?_)
     ·omega
     first|(refine .inr (.inl ⟨(by rw [cJ (by decide) (by decide)];rfl),by omega,?_,?_⟩);(first|(exact congrArg (fun p:bf=>List.map Node.cells p.nodes) (bD (k:=0) (eK.trans (ht _ _)) rfl (by simp only [ht];decide) (cC hN ea ‹_› (by decide) (by decide))).symm)|(exact jx.trans (congrArg (fun p:bf=>List.map Node.cells p.nodes) (bQ (N:=N) (k:=0) (dH hN ea ‹_› (by decide) (by decide))).symm)));(first|(exact congrArg (fun p:bf=>List.map Place.cells p.places) (bD (k:=0) (eK.trans (ht _ _)) rfl (by simp only [ht];decide) (cC hN ea ‹_› (by decide) (by decide))).symm)|(exact jy.trans (congrArg (fun p:bf=>List.map Place.cells p.places) (bQ (N:=N) (k:=0) (dH hN ea ‹_› (by decide) (by decide))).symm))))|(refine .inr (.inr (.inl ⟨(by rw [cJ (by decide) (by decide)];rfl),by omega,?_,?_⟩));(first|(exact congrArg (fun p:bf=>List.map Node.cells p.nodes) (bD (k:=1) (eK.trans (ht _ _)) rfl (by simp only [ht];decide) (cC hN ea ‹_› (by decide) (by decide))).symm)|(exact jx.trans (congrArg (fun p:bf=>List.map Node.cells p.nodes) (bQ (N:=N) (k:=1) (dH hN ea ‹_› (by decide) (by decide))).symm)));(first|(exact congrArg (fun p:bf=>List.map Place.cells p.places) (bD (k:=1) (eK.trans (ht _ _)) rfl (by simp only [ht];decide) (cC hN ea ‹_› (by decide) (by decide))).symm)|(exact jy.trans (congrArg (fun p:bf=>List.map Place.cells p.places) (bQ (N:=N) (k:=1) (dH hN ea ‹_› (by decide) (by decide))).symm))))|(refine .inr (.inr (.inr ⟨(by rw [cJ (by decide) (by decide)];rfl),by omega,?_,?_⟩));(first|(exact congrArg (fun p:bf=>List.map Node.cells p.nodes) (bD (k:=2) (eK.trans (ht _ _)) rfl (by simp only [ht];decide) (cC hN ea ‹_› (by decide) (by decide))).symm)|(exact jx.trans (congrArg (fun p:bf=>List.map Node.cells p.nodes) (bQ (N:=N) (k:=2) (dH hN ea ‹_› (by decide) (by decide))).symm)));(first|(exact congrArg (fun p:bf=>List.map Place.cells p.places) (bD (k:=2) (eK.trans (ht _ _)) rfl (by simp only [ht];decide) (cC hN ea ‹_› (by decide) (by decide))).symm)|(exact jy.trans (congrArg (fun p:bf=>List.map Place.cells p.places) (bQ (N:=N) (k:=2) (dH hN ea ‹_› (by decide) (by decide))).symm))))
    simp [ht,aa] at h9
   simp [ht,aa] at h8
   cbv
   refine cL (_,_,_) (by simp only [ht];rfl) (m-1) ?_ ((Lf _ _ _ _).2 ?_)
   ·omega
   first|(refine .inr (.inl ⟨(by rw [cJ (by decide) (by decide)];rfl),by omega,?_,?_⟩);(first|(exact congrArg (fun p:bf=>List.map Node.cells p.nodes) (bD (k:=0) (eK.trans (ht _ _)) rfl (by simp only [ht];decide) (cC hN ea ‹_› (by decide) (by decide))).symm)|(exact jx.trans (congrArg (fun p:bf=>List.map Node.cells p.nodes) (bQ (N:=N) (k:=0) (dH hN ea ‹_› (by decide) (by decide))).symm)));(first|(exact congrArg (fun p:bf=>List.map Place.cells p.places) (bD (k:=0) (eK.trans (ht _ _)) rfl (by simp only [ht];decide) (cC hN ea ‹_› (by decide) (by decide))).symm)|(exact jy.trans (congrArg (fun p:bf=>List.map Place.cells p.places) (bQ (N:=N) (k:=0) (dH hN ea ‹_› (by decide) (by decide))).symm))))|(refine .inr (.inr (.inl ⟨(by rw [cJ (by decide) (by decide)];rfl),by omega,?_,?_⟩));(first|(exact congrArg (fun p:bf=>List.map Node.cells p.nodes) (bD (k:=1) (eK.trans (ht _ _)) rfl (by simp only [ht];decide) (cC hN ea ‹_› (by decide) (by decide))).symm)|(exact jx.trans (congrArg (fun p:bf=>List.map Node.cells p.nodes) (bQ (N:=N) (k:=1) (dH hN ea ‹_› (by decide) (by decide))).symm)));(first|(exact congrArg (fun p:bf=>List.map Place.cells p.places) (bD (k:=1) (eK.trans (ht _ _)) rfl (by simp only [ht];decide) (cC hN ea ‹_› (by decide) (by decide))).symm)|(exact jy.trans (congrArg (fun p:bf=>List.map Place.cells p.places) (bQ (N:=N) (k:=1) (dH hN ea ‹_› (by decide) (by decide))).symm))))|(refine .inr (.inr (.inr ⟨(by rw [cJ (by decide) (by decide)];rfl),by omega,?_,?_⟩));(first|(exact congrArg (fun p:bf=>List.map Node.cells p.nodes) (bD (k:=2) (eK.trans (ht _ _)) rfl (by simp only [ht];decide) (cC hN ea ‹_› (by decide) (by decide))).symm)|(exact jx.trans (congrArg (fun p:bf=>List.map Node.cells p.nodes) (bQ (N:=N) (k:=2) (dH hN ea ‹_› (by decide) (by decide))).symm)));(first|(exact congrArg (fun p:bf=>List.map Place.cells p.places) (bD (k:=2) (eK.trans (ht _ _)) rfl (by simp only [ht];decide) (cC hN ea ‹_› (by decide) (by decide))).symm)|(exact jy.trans (congrArg (fun p:bf=>List.map Place.cells p.places) (bQ (N:=N) (k:=2) (dH hN ea ‹_› (by decide) (by decide))).symm))))
  simp [ht,aa] at h7
 ·cbv
  refine an (fun h10=>?_) (fun h10=>?_)
  ·simp [ht,aa] at h10
   cbv
   (first|(refine cI [.str [97]] (by simp only [ht];decide) (by simp only [ht];rfl) ?_)|(refine cI [.str [97,47,98]] (by simp only [ht];decide) (by simp only [ht];rfl) ?_)|(refine cI [.str [98]] (by simp only [ht];decide) (by simp only [ht];rfl) ?_)|(refine cI [.str [110,49]] (by simp only [ht];decide) (by simp only [ht];rfl) ?_)|(refine cI [.str [110,50]] (by simp only [ht];decide) (by simp only [ht];rfl) ?_)|(refine cI [.str [110,51]] (by simp only [ht];decide) (by simp only [ht];rfl) ?_))
   cbv
   refine ⟨?_,?_⟩
   ·(simp only [ht];decide)
   refine ⟨?_,?_⟩
   ·(simp only [ht];decide)
   cbv
   refine an (fun h11=>?_) (fun h11=>?_)
   ·simp [ht,aa] at h11
    cbv
    refine an (fun h12=>?_) (fun h12=>?_)
    ·simp [ht,aa] at h12
     cbv
     (first|(refine cI [.str [97]] (by simp only [ht];decide) (by simp only [ht];rfl) ?_)|(refine cI [.str [97,47,98]] (by simp only [ht];decide) (by simp only [ht];rfl) ?_)|(refine cI [.str [98]] (by simp only [ht];decide) (by simp only [ht];rfl) ?_)|(refine cI [.str [110,49]] (by simp only [ht];decide) (by simp only [ht];rfl) ?_)|(refine cI [.str [110,50]] (by simp only [ht];decide) (by simp only [ht];rfl) ?_)|(refine cI [.str [110,51]] (by simp only [ht];decide) (by simp only [ht];rfl) ?_))
     cbv
     (first|(refine aB trv (nW ht (l:=(dy N 0).nodes) (ps:=(dy N 0).places) (by simp only [ht];exact jx) (by simp only [ht];exact jy) _ _ _ _ _ (lb:=pz 0) rfl false (iU hN (by decide)) (by decide) (by decide) (nX _)) (by simp [ht]) rfl rfl rfl (fun r4 eK=>?_))|(refine aB trv (nW ht (l:=(dy N 1).nodes) (ps:=(dy N 1).places) (by simp only [ht];exact jx) (by simp only [ht];exact jy) _ _ _ _ _ (lb:=pz 1) rfl false (iU hN (by decide)) (by decide) (by decide) (nX _)) (by simp [ht]) rfl rfl rfl (fun r4 eK=>?_))|(refine aB trv (nW ht (l:=(dy N 2).nodes) (ps:=(dy N 2).places) (by simp only [ht];exact jx) (by simp only [ht];exact jy) _ _ _ _ _ (lb:=pz 2) rfl false (iU hN (by decide)) (by decide) (by decide) (nX _)) (by simp [ht]) rfl rfl rfl (fun r4 eK=>?_)))
     cbv
     refine cL (_,_,_) (by simp only [ht];rfl) (m-1) ?_ ((Lf _ _ _ _).2 ?_)
     ·omega
     first|(refine .inr (.inl ⟨(by rw [cJ (by decide) (by decide)];rfl),by omega,?_,?_⟩);(first|(exact congrArg (fun p:bf=>List.map Node.cells p.nodes) (bD (k:=0) (eK.trans (ht _ _)) rfl (by simp only [ht];decide) (cC hN ea ‹_› (by decide) (by decide))).symm)|(exact jx.trans (congrArg (fun p:bf=>List.map Node.cells p.nodes) (bQ (N:=N) (k:=0) (dH hN ea ‹_› (by decide) (by decide))).symm)));(first|(exact congrArg (fun p:bf=>List.map Place.cells p.places) (bD (k:=0) (eK.trans (ht _ _)) rfl (by simp only [ht];decide) (cC hN ea ‹_› (by decide) (by decide))).symm)|(exact jy.trans (congrArg (fun p:bf=>List.map Place.cells p.places) (bQ (N:=N) (k:=0) (dH hN ea ‹_› (by decide) (by decide))).symm))))|(refine .inr (.inr (.inl ⟨(by rw [cJ (by decide) (by decide)];rfl),by omega,?_,?_⟩));(first|(exact congrArg (fun p:bf=>List.map Node.cells p.nodes) (bD (k:=1) (eK.trans (ht _ _)) rfl (by simp only [ht];decide) (cC hN ea ‹_› (by decide) (by decide))).symm)|(exact jx.trans (congrArg (fun p:bf=>List.map Node.cells p.nodes) (bQ (N:=N) (k:=1) (dH hN ea ‹_› (by decide) (by decide))).symm)));(first|(exact congrArg (fun p:bf=>List.map Place.cells p.places) (bD (k:=1) (eK.trans (ht _ _)) rfl (by simp only [ht];decide) (cC hN ea ‹_› (by decide) (by decide))).symm)|(exact jy.trans (congrArg (fun p:bf=>List.map Place.cells p.places) (bQ (N:=N) (k:=1) (dH hN ea ‹_› (by decide) (by decide))).symm))))|(refine .inr (.inr (.inr ⟨(by rw [cJ (by decide) (by decide)];rfl),by omega,?_,?_⟩));(first|(exact congrArg (fun p:bf=>List.map Node.cells p.nodes) (bD (k:=2) (eK.trans (ht _ _)) rfl (by simp only [ht];decide) (cC hN ea ‹_› (by decide) (by decide))).symm)|(exact jx.trans (congrArg (fun p:bf=>List.map Node.cells p.nodes) (bQ (N:=N) (k:=2) (dH hN ea ‹_› (by decide) (by decide))).symm)));(first|(exact congrArg (fun p:bf=>List.map Place.cells p.places) (bD (k:=2) (eK.trans (ht _ _)) rfl (by simp only [ht];decide) (cC hN ea ‹_› (by decide) (by decide))).symm)|(exact jy.trans (congrArg (fun p:bf=>List.map Place.cells p.places) (bQ (N:=N) (k:=2) (dH hN ea ‹_› (by decide) (by decide))).symm))))
    simp [ht,aa] at h12
   simp [ht,aa] at h11
   cbv
   refine cL (_,_,_) (by simp only [ht];rfl) (m-1) ?_ ((Lf _ _ _ _).2 ?_)
   ·omega
   first|(refine .inr (.inl ⟨(by rw [cJ (by decide) (by decide)];rfl),by omega,?_,?_⟩);(first|(exact congrArg (fun p:bf=>List.map Node.cells p.nodes) (bD (k:=0) (eK.trans (ht _ _)) rfl (by simp only [ht];decide) (cC hN ea ‹_› (by decide) (by decide))).symm)|(exact jx.trans (congrArg (fun p:bf=>List.map Node.cells p.nodes) (bQ (N:=N) (k:=0) (dH hN ea ‹_› (by decide) (by decide))).symm)));(first|(exact congrArg (fun p:bf=>List.map Place.cells p.places) (bD (k:=0) (eK.trans (ht _ _)) rfl (by simp only [ht];decide) (cC hN ea ‹_› (by decide) (by decide))).symm)|(exact jy.trans (congrArg (fun p:bf=>List.map Place.cells p.places) (bQ (N:=N) (k:=0) (dH hN ea ‹_› (by decide) (by decide))).symm))))|(refine .inr (.inr (.inl ⟨(by rw [cJ (by decide) (by decide)];rfl),by omega,?_,?_⟩));(first|(exact congrArg (fun p:bf=>List.map Node.cells p.nodes) (bD (k:=1) (eK.trans (ht _ _)) rfl (by simp only [ht];decide) (cC hN ea ‹_› (by decide) (by decide))).symm)|(exact jx.trans (congrArg (fun p:bf=>List.map Node.cells p.nodes) (bQ (N:=N) (k:=1) (dH hN ea ‹_› (by decide) (by decide))).symm)));(first|(exact congrArg (fun p:bf=>List.map Place.cells p.places) (bD (k:=1) (eK.trans (ht _ _)) rfl (by simp only [ht];decide) (cC hN ea ‹_› (by decide) (by decide))).symm)|(exact jy.trans (congrArg (fun p:bf=>List.map Place.cells p.places) (bQ (N:=N) (k:=1) (dH hN ea ‹_› (by decide) (by decide))).symm))))|(refine .inr (.inr (.inr ⟨(by rw [cJ (by decide) (by decide)];rfl),by omega,?_,?_⟩));(first|(exact congrArg (fun p:bf=>List.map Node.cells p.nodes) (bD (k:=2) (eK.trans (ht _ _)) rfl (by simp only [ht];decide) (cC hN ea ‹_› (by decide) (by decide))).symm)|(exact jx.trans (congrArg (fun p:bf=>List.map Node.cells p.nodes) (bQ (N:=N) (k:=2) (dH hN ea ‹_› (by decide) (by decide))).symm)));(first|(exact congrArg (fun p:bf=>List.map Place.cells p.places) (bD (k:=2) (eK.trans (ht _ _)) rfl (by simp only [ht];decide) (cC hN ea ‹_› (by decide) (by decide))).symm)|(exact jy.trans (congrArg (fun p:bf=>List.map Place.cells p.places) (bQ (N:=N) (k:=2) (dH hN ea ‹_› (by decide) (by decide))).symm))))
  simp [ht,aa] at h10
 ·cbv
  refine an (fun Nn=>?_) (fun Nn=>?_)
  ·simp [ht,aa] at Nn
   cbv
   (first|(refine cI [.str [97]] (by simp only [ht];decide) (by simp only [ht];rfl) ?_)|(refine cI [.str [97,47,98]] (by simp only [ht];decide) (by simp only [ht];rfl) ?_)|(refine cI [.str [98]] (by simp only [ht];decide) (by simp only [ht];rfl) ?_)|(refine cI [.str [110,49]] (by simp only [ht];decide) (by simp only [ht];rfl) ?_)|(refine cI [.str [110,50]] (by simp only [ht];decide) (by simp only [ht];rfl) ?_)|(refine cI [.str [110,51]] (by simp only [ht];decide) (by simp only [ht];rfl) ?_))
   cbv
   refine ⟨?_,?_⟩
   ·(simp only [ht];decide)
   refine ⟨?_,?_⟩
   ·(simp only [ht];decide)
   cbv
   refine an (fun Kq=>?_) (fun Kq=>?_)
   ·simp [ht,aa] at Kq
    cbv
    refine an (fun Xa=>?_) (fun Xa=>?_)
    ·simp [ht,aa] at Xa
    simp [ht,aa] at Xa
    cbv
    (first|(refine aB trv (nW ht (l:=(dy N 0).nodes) (ps:=(dy N 0).places) (by simp only [ht];exact jx) (by simp only [ht];exact jy) _ _ _ _ _ (lb:=pz 0) rfl false (iU hN (by decide)) (by decide) (by decide) (nX _)) (by simp [ht]) rfl rfl rfl (fun r4 eK=>?_))|(refine aB trv (nW ht (l:=(dy N 1).nodes) (ps:=(dy N 1).places) (by simp only [ht];exact jx) (by simp only [ht];exact jy) _ _ _ _ _ (lb:=pz 1) rfl false (iU hN (by decide)) (by decide) (by decide) (nX _)) (by simp [ht]) rfl rfl rfl (fun r4 eK=>?_))|(refine aB trv (nW ht (l:=(dy N 2).nodes) (ps:=(dy N 2).places) (by simp only [ht];exact jx) (by simp only [ht];exact jy) _ _ _ _ _ (lb:=pz 2) rfl false (iU hN (by decide)) (by decide) (by decide) (nX _)) (by simp [ht]) rfl rfl rfl (fun r4 eK=>?_)))
    cbv
    refine cL (_,_,_) (by simp only [ht];rfl) (m-1) ?_ ((Lf _ _ _ _).2 ?_)
    ·omega
    first|(refine .inr (.inl ⟨(by rw [cJ (by decide) (by decide)];rfl),by omega,?_,?_⟩);(first|(exact congrArg (fun p:bf=>List.map Node.cells p.nodes) (bD (k:=0) (eK.trans (ht _ _)) rfl (by simp only [ht];decide) (cC hN ea ‹_› (by decide) (by decide))).symm)|(exact jx.trans (congrArg (fun p:bf=>List.map Node.cells p.nodes) (bQ (N:=N) (k:=0) (dH hN ea ‹_› (by decide) (by decide))).symm)));(first|(exact congrArg (fun p:bf=>List.map Place.cells p.places) (bD (k:=0) (eK.trans (ht _ _)) rfl (by simp only [ht];decide) (cC hN ea ‹_› (by decide) (by decide))).symm)|(exact jy.trans (congrArg (fun p:bf=>List.map Place.cells p.places) (bQ (N:=N) (k:=0) (dH hN ea ‹_› (by decide) (by decide))).symm))))|(refine .inr (.inr (.inl ⟨(by rw [cJ (by decide) (by decide)];rfl),by omega,?_,?_⟩));(first|(exact congrArg (fun p:bf=>List.map Node.cells p.nodes) (bD (k:=1) (eK.trans (ht _ _)) rfl (by simp only [ht];decide) (cC hN ea ‹_› (by decide) (by decide))).symm)|(exact jx.trans (congrArg (fun p:bf=>List.map Node.cells p.nodes) (bQ (N:=N) (k:=1) (dH hN ea ‹_› (by decide) (by decide))).symm)));(first|(exact congrArg (fun p:bf=>List.map Place.cells p.places) (bD (k:=1) (eK.trans (ht _ _)) rfl (by simp only [ht];decide) (cC hN ea ‹_› (by decide) (by decide))).symm)|(exact jy.trans (congrArg (fun p:bf=>List.map Place.cells p.places) (bQ (N:=N) (k:=1) (dH hN ea ‹_› (by decide) (by decide))).symm))))|(refine .inr (.inr (.inr ⟨(by rw [cJ (by decide) (by decide)];rfl),by omega,?_,?_⟩));(first|(exact congrArg (fun p:bf=>List.map Node.cells p.nodes) (bD (k:=2) (eK.trans (ht _ _)) rfl (by simp only [ht];decide) (cC hN ea ‹_› (by decide) (by decide))).symm)|(exact jx.trans (congrArg (fun p:bf=>List.map Node.cells p.nodes) (bQ (N:=N) (k:=2) (dH hN ea ‹_› (by decide) (by decide))).symm)));(first|(exact congrArg (fun p:bf=>List.map Place.cells p.places) (bD (k:=2) (eK.trans (ht _ _)) rfl (by simp only [ht];decide) (cC hN ea ‹_› (by decide) (by decide))).symm)|(exact jy.trans (congrArg (fun p:bf=>List.map Place.cells p.places) (bQ (N:=N) (k:=2) (dH hN ea ‹_› (by decide) (by decide))).symm))))
   simp [ht,aa] at Kq
   cbv
   refine cL (_,_,_) (by simp only [ht];rfl) (m-1) ?_ ((Lf _ _ _ _).2 ?_)
   ·omega
   first|(refine .inr (.inl ⟨(by rw [cJ (by decide) (by decide)];rfl),by omega,?_,?_⟩);(first|(exact congrArg (fun p:bf=>List.map Node.cells p.nodes) (bD (k:=0) (eK.trans (ht _ _)) rfl (by simp only [ht];decide) (cC hN ea ‹_› (by decide) (by decide))).symm)|(exact jx.trans (congrArg (fun p:bf=>List.map Node.cells p.nodes) (bQ (N:=N) (k:=0) (dH hN ea ‹_› (by decide) (by decide))).symm)));(first|(exact congrArg (fun p:bf=>List.map Place.cells p.places) (bD (k:=0) (eK.trans (ht _ _)) rfl (by simp only [ht];decide) (cC hN ea ‹_› (by decide) (by decide))).symm)|(exact jy.trans (congrArg (fun p:bf=>List.map Place.cells p.places) (bQ (N:=N) (k:=0) (dH hN ea ‹_› (by decide) (by decide))).symm))))|(refine .inr (.inr (.inl ⟨(by rw [cJ (by decide) (by decide)];rfl),by omega,?_,?_⟩));(first|(exact congrArg (fun p:bf=>List.map Node.cells p.nodes) (bD (k:=1) (eK.trans (ht _ _)) rfl (by simp only [ht];decide) (cC hN ea ‹_› (by decide) (by decide))).symm)|(exact jx.trans (congrArg (fun p:bf=>List.map Node.cells p.nodes) (bQ (N:=N) (k:=1) (dH hN ea ‹_› (by decide) (by decide))).symm)));(first|(exact congrArg (fun p:bf=>List.map Place.cells p.places) (bD (k:=1) (eK.trans (ht _ _)) rfl (by simp only [ht];decide) (cC hN ea ‹_› (by decide) (by decide))).symm)|(exact jy.trans (congrArg (fun p:bf=>List.map Place.cells p.places) (bQ (N:=N) (k:=1) (dH hN ea ‹_› (by decide) (by decide))).symm))))|(refine .inr (.inr (.inr ⟨(by rw [cJ (by decide) (by decide)];rfl),by omega,?_,?_⟩));(first|(exact congrArg (fun p:bf=>List.map Node.cells p.nodes) (bD (k:=2) (eK.trans (ht _ _)) rfl (by simp only [ht];decide) (cC hN ea ‹_› (by decide) (by decide))).symm)|(exact jx.trans (congrArg (fun p:bf=>List.map Node.cells p.nodes) (bQ (N:=N) (k:=2) (dH hN ea ‹_› (by decide) (by decide))).symm)));(first|(exact congrArg (fun p:bf=>List.map Place.cells p.places) (bD (k:=2) (eK.trans (ht _ _)) rfl (by simp only [ht];decide) (cC hN ea ‹_› (by decide) (by decide))).symm)|(exact jy.trans (congrArg (fun p:bf=>List.map Place.cells p.places) (bQ (N:=N) (k:=2) (dH hN ea ‹_› (by decide) (by decide))).symm))))
  simp [ht,aa] at Nn
 cbv
 refine an (fun No=>?_) (fun No=>?_)
 ·simp [ht,aa] at No
 simp [ht,aa] at No
 cbv
 refine ax trv trv rfl rfl rfl ?_
 (simp only [ht,cF,jt,jx,jy];rfl)
end Dem
end
section
open Go
namespace Dem
def gA (s:bH) (id:Int):Jb×Bool:=((cG s.aG id).1,(cG s.aG id).2&&!(cG s.aG id).1.runs)
def kj (s:bH) (id:Int) (of:bf) (within:aQ→bM→Bool):List aQ×Bool:=
 if !(gA s id).2 then ([],false) else
 if !(dR (gA s id).1.x).2||!(fit (fE of) (gA s id).1.x.bZ (gA s id).1.x.gB (gA s id).1.x.count).2||!within (gA s id).1.x.path (dR (gA s id).1.x).1 then ([],false) else
 ((fit (fE of) (gA s id).1.x.bZ (gA s id).1.x.gB (gA s id).1.x.count).1,true)
def gH (s:bH) (id:Int):List aQ×Bool:=kj s id s.bz fun p v=>decide ((dg s.tree p v).2=0)
def zg (t:List bu):List bu:=t.map fun e=>{e with used:=bM.zero}
def uP (t:List bu) (p:aQ) (v:bM):Bool:=decide ((dg (zg t) p v).2=0)
def rX (s:bH) (id:Int):Bool:=(kj s id ⟨s.bz.nodes,[]⟩ fun p v=>uP s.tree p v).2
def gR (a b:Jb):Bool:=decide (a.x.prio<b.x.prio)||(decide (a.x.prio=b.x.prio)&&decide (b.id≤a.id))
def cm (s:bH) (id:Int):List Int:=
 if !(cG s.aG id).2 then [] else
 ((s.aG.filter fun o=>o.runs&&decide (o.x.prio<(cG s.aG id).1.x.prio)).mergeSort gR).map (·.id)
def bB (s:bH) (l:List Int):bH:=l.foldl (fun s id=>(eJ s id 5).1) s
def fR (s:bH) (id:Int) (l:List Int):List aQ×Bool:=gH (bB s l) id
def kn (s:bH) (id:Int) (all:List Int):Nat→Nat→Option (List Int×List aQ)
 |0,_=>none
 |n+1,k=>if (fR s id (all.take k)).2 then some (all.take k,(fR s id (all.take k)).1) else kn s id all n (k+1)
def fF (s:bH) (id:Int):Nat→Nat→List Int→List aQ→List Int×List aQ
 |0,_,l,nodes=>(l,nodes)
 |n+1,k,l,nodes=>if k<l.length then
  (if (fR s id (l.eraseIdx k)).2 then fF s id n k (l.eraseIdx k) (fR s id (l.eraseIdx k)).1 else fF s id n (k+1) l nodes)
  else (l,nodes)
def bF (s:bH) (id:Int):List Int×List aQ×Bool:=match kn s id (cm s id) ((cm s id).length+1) 0 with
 |none=>([],[],false)
 |some (l,nodes)=>((fF s id (l.length+1) 0 l nodes).1,(fF s id (l.length+1) 0 l nodes).2,true)
end Dem
end
section
open Go Dem Go.Proofs
namespace Dem
variable {t:Th}
def bu.bare (e:bu):bu:={e with used:=bM.zero}
theorem Nv (l:List bu):zg l=l.map bu.bare:=rfl
theorem KA {l:List bu} {k:Nat} {x:bu} {u:List (List D)} (hx:l[k]?=some x) (hu:u=((l.take k).map bu.bare++l.drop k).map bu.cells):
 u.set k (be (u.getD k []) 5 [.int .u64 0,.int .u64 0,.int .u64 0,.int .u64 0])=((l.take (k+1)).map bu.bare++l.drop (k+1)).map bu.cells:=by
 have hk:k<l.length:=(List.getElem?_eq_some_iff.1 hx).1
 have e1:u.getD k []=bu.cells x:=by
  rw [hu,List.getD_eq_getElem?_getD,List.getElem?_map,List.getElem?_append_right (by simp;omega),List.getElem?_drop]
  simp [show min k l.length=k by omega,hx]
 rw [e1,hu,ek hx,gu hx]
 simp only [List.map_append,List.map_cons,List.map_nil,List.append_assoc,List.singleton_append]
 rw [List.set_append_right _ _ (by simp;omega)]
 simp [show min k l.length=k by omega,bu.bare,bu.cells,be,bM.zero]
theorem Nw {l:List bu} {k:Nat} {u:List (List D)} (hk:k<l.length) (hu:u=((l.take k).map bu.bare++l.drop k).map bu.cells):k<u.length∧5+4≤(u.getD k []).length:=by
 obtain ⟨x,hx⟩:∃x,l[k]?=some x:=⟨l[k],by simp⟩
 have e1:u.getD k []=bu.cells x:=by
  rw [hu,List.getD_eq_getElem?_getD,List.getElem?_map,List.getElem?_append_right (by simp;omega),List.getElem?_drop]
  simp [show min k l.length=k by omega,hx]
 rw [e1]
 exact ⟨by rw [hu];simp;omega,Nat.le_refl _⟩
theorem Nx (ht:TT t) (q:aQ) (v1 v2 v3 v4:Int) {l:List bu} {es:List (List D)} (aA:es=l.map bu.cells) (hl:l.length<100000) (hq:q.length<1000000000000):
 FC 61 [SL es,ST q,V4 v1 v2 v3 v4] [] (.ret (cP (t _ fun _=>uP l q ⟨v1,v2,v3,v4⟩))) []:=by
 obtain ⟨m,hm⟩:∃m,m=l.length:=⟨_,rfl⟩
 have hel:m=es.length:=by rw [aA,lgM,hm]
 have hrows:∀r∈es,r.length=9:=by rw [aA];intro r hr;obtain ⟨y,_,rfl⟩:=List.mem_map.1 hr;rfl
 obtain ⟨R,hR⟩:∃R,R=uP l q ⟨v1,v2,v3,v4⟩:=⟨_,rfl⟩
 rw [←hR]
 refine bL ht (aI:=[]) Tryz.func61 rfl rfl (N:=33) rfl rfl (n:=0) rfl rfl ?_
 cbv
 have av:es.length=l.length:=by rw [aA,lgM]
 (refine jg trv (yY ht hrows (by omega) hel) trv rfl (.inr rfl) ?_)
 cbv
 refine ⟨?_,?_⟩
 ·(simp only [ht,aa] at*;omega)
 cbv
 obtain ⟨J0,fI⟩:∃J0:Nat→Int×List (List D)→Prop,∀n i u,J0 n (i,u)↔(∃k:Nat,i=k∧k+n=m∧u=((l.take k).map bu.bare++l.drop k).map bu.cells):=⟨fun n v=>match v with|(i,u)=>(∃k:Nat,i=k∧k+n=m∧u=((l.take k).map bu.bare++l.drop k).map bu.cells),fun _ _ _=>Iff.rfl⟩
 refine bI ⟨[1,5,7,14,15],[],[]⟩ (σ:=Int×List (List D)) (fun v=>[(15,.d (.int .i64 (t _ fun _=>v.1)))]) (fun v=>[(1,.row 9 (t _ fun _=>v.2))]) J0 ?_
 cbv
 refine aC ⟨m,(_,_),(fI _ _ _).2 ?_,by simp only [ht];rfl,?_⟩
 ·exact ⟨0,rfl,by simp,by simp [aA]⟩
 rintro n ⟨i,u⟩ hj
 replace hj:=(fI _ _ _).1 hj
 obtain ⟨k,rfl,j1,j4⟩:=hj
 cbv
 refine an (fun h1=>?_) (fun h1=>?_)
 ·simp [ht,aa,av] at h1
  cbv
  refine ⟨?_,?_⟩
  ·(simp only [ht,aa] at*;omega)
  refine ⟨?_,?_⟩
  ·(simp only [ht,aa,Int.toNat_natCast];exact Nw (by ((try simp only [aa] at*);omega)) j4)
  cbv
  refine cL (_,_) (by simp only [ht];rfl) (n-1) ?_ ((fI _ _ _).2 ?_)
  ·omega
  simp only [ht,aa]
  (obtain ⟨x,hx⟩:∃x,l[k]?=some x:=⟨l[k]'(by ((try simp only [aa] at*);omega)),by simp⟩;exact ⟨k+1,aD (by ((try simp only [aa] at*);omega)),by ((try simp only [aa] at*);omega),KA hx j4⟩)
 simp [ht,aa,av] at h1
 cbv
 (have j5:u=(zg l).map bu.cells:=(by rw [j4,List.take_of_length_le (by ((try simp only [aa] at*);omega)),List.drop_eq_nil_of_le (by ((try simp only [aa] at*);omega))];simp [Nv]);have h5:(zg l).length=l.length:=(by simp [zg]);refine MC (E:=yX t) (r0:=t _ fun _=>dg (zg l) q ⟨v1,v2,v3,v4⟩) trv rfl (by simp [ht,j5,h5,hm]) (by exact dw [] rfl rfl rfl rfl (rV ht q v1 v2 v3 v4 (l:=zg l) (by simp only [ht];exact j5) (by ((try simp only [aa] at*);omega)) hq)) (fun r1 dM=>?_);simp only [ht] at dM)
 cbv
 refine ax trv trv rfl rfl rfl ?_
 (simp only [ht,hR,uP,←dM,cP];done)
end Dem
end
section
open Go
namespace Dem
theorem cK.trans {a b c:List bu} (h:cK a b) (g:cK b c):cK a c:=⟨by rw [g.len,h.len],fun i e hi=>by
 obtain ⟨x,h1,h2,h3⟩:=h.at_ i e hi
 obtain ⟨y,g1,g2,g3⟩:=g.at_ i x h1
 exact ⟨y,g1,by rw [g2,h2],by rw [g3,h3]⟩⟩
theorem cK.refl (a:List bu):cK a a:=⟨rfl,fun _ e hi=>⟨e,hi,rfl,rfl⟩⟩
theorem CH {l:List Jb} (ha:tK l) {i:Nat} {j:Jb} (hj:l[i]?=some j):l.findIdx? (fun x=>decide (x.id=j.id))=some i∧l.getD i Jb.zero=j∧cG l j.id=(j,true):=by
 have h1:l.findIdx? (fun x=>decide (x.id=j.id))=some i:=by
  cases h:l.findIdx? (fun x=>decide (x.id=j.id)) with
  |none=>rw [List.findIdx?_eq_none_iff] at h;have:=h j (List.mem_of_getElem? hj);simp at this
  |some k=>
   obtain ⟨y,a,b,_⟩:=mE h
   rw [wU ha a hj b]
 refine ⟨h1,by rw [List.getD_eq_getElem?_getD,hj];rfl,?_⟩
 unfold cG
 cases h:l.find? (fun x=>decide (x.id=j.id)) with
 |none=>rw [List.find?_eq_none] at h;have:=h j (List.mem_of_getElem? hj);simp at this
 |some y=>
  have e:=List.find?_some h
  simp only [decide_eq_true_eq] at e
  simp only
  rw [iR ha (List.mem_of_find?_eq_some h) (List.mem_of_getElem? hj) e]
abbrev Jb.begun (j:Jb):Jb:={j with runs:=true,left:=j.x.fB}
abbrev Jb.halted (j:Jb):Jb:={j with runs:=false,left:=0}
theorem Bg {s:bH} (h:s.ok) {id:Int} {names:List aQ} (e:(eF s id names).2=0):
 ∃(i:Nat) (j:Jb) (T:List bu),s.aG[i]?=some j∧j.id=id∧j.runs=false∧(names.length:Int)=j.x.count∧cK s.tree T∧
  (eF s id names).1=iP ⟨s.round,s.next,⟨s.bz.nodes,s.bz.places++names.map (fun n=>⟨id,n,j.x.gB⟩)⟩,T,s.aG.set i j.begun,s.queue.filter (fun q=>!decide (q.id=id)),s.ev,s.au⟩ id 2:=by
 unfold eF at e ⊢
 cases hf:s.aG.findIdx? (fun j=>decide (j.id=id)) with
 |none=>rw [hf] at e;cases e
 |some i=>
  obtain ⟨j,hj,hid,c⟩:=mE hf
  rw [hf] at e
  simp only at e ⊢
  rw [c] at e ⊢
  unfold jG at e ⊢
  by_cases h1:j.runs=true
  ·rw [if_pos h1] at e;cases e
  rw [if_neg h1] at e ⊢
  by_cases h2:(names.length:Int)≠j.x.count
  ·rw [if_pos h2] at e;cases e
  rw [if_neg h2] at e ⊢
  by_cases h3:(!(dR j.x).2)=true
  ·rw [if_pos h3] at e;cases e
  rw [if_neg h3] at e ⊢
  by_cases h4:(dg s.tree j.x.path (dR j.x).1).2≠0
  ·rw [if_pos h4] at e;exact absurd e h4
  rw [if_neg h4] at e ⊢
  simp only [Decidable.not_not] at h2 h4
  rcases yJ s.bz id names j.x.gB with ⟨_,e2⟩|⟨e2,_⟩
  ·rw [if_pos e2] at e;exact absurd e e2
  rw [if_neg (by rw [e2];simp)]
  refine ⟨i,j,_,hj,hid,by simpa using h1,h2,(A5 h h4).2.1,?_⟩
  rw [kM h.nT,e2];rfl
theorem zh {s:bH} (h:s.ok) {i:Nat} {j:Jb} (hj:s.aG[i]?=some j) (hr:j.runs=true) (kind:Int):
 ∃T Q,cK s.tree T∧eJ s j.id kind=(iP ⟨s.round,s.next,pi s.bz j.id,T,s.aG.set i j.halted,Q,s.ev,s.au⟩ j.id kind,0):=by
 obtain ⟨h1,h2,_⟩:=CH h.ids hj
 refine ⟨_,(jh s.queue ⟨j.id,j.x.prio⟩).1,(m6 h hj hr).2.2.1,?_⟩
 unfold eJ
 rw [h1]
 simp only
 rw [h2,if_neg (by simp [hr]),h.iS hj hr]
 simp [A4]
theorem IY {s:bH} (h:s.ok) {i:Nat} {j:Jb} (hj:s.aG[i]?=some j) (kind:Int):
 (send s j.id kind).2=0∧(j.runs=false→send s j.id kind=(iP ⟨s.round,s.next,s.bz,s.tree,s.aG.eraseIdx i,s.queue.filter (fun q=>!decide (q.id=j.id)),s.ev,s.au⟩ j.id kind,0))∧
 (j.runs=true→∃T,cK s.tree T∧send s j.id kind=(iP ⟨s.round,s.next,pi s.bz j.id,T,s.aG.eraseIdx i,s.queue,s.ev,s.au⟩ j.id kind,0)):=by
 obtain ⟨h1,h2,_⟩:=CH h.ids hj
 unfold send
 rw [h1]
 simp only
 rw [h2]
 refine ⟨trv,fun hr=>?_,fun hr=>?_⟩
 ·rw [hr,if_neg (by simp),kM h.nT]
 refine ⟨_,(m6 h hj hr).2.2.1,?_⟩
 rw [if_pos hr,h.iS hj hr]
theorem G9 {s:bH} (h:s.ok) {x:Ask} (e:(cN s x).2.2=0):
 (cN s x).2.1=s.next∧s.next+1<18446744073709551616∧
 (cN s x).1=iP ⟨s.round,s.next+1,s.bz,s.tree,s.aG++[⟨s.next,x,false,0⟩],s.queue.take (tD s.queue ⟨s.next,x.prio⟩)++⟨s.next,x.prio⟩::s.queue.drop (tD s.queue ⟨s.next,x.prio⟩),s.ev,s.au⟩ s.next 1:=by
 unfold cN at e ⊢
 by_cases h1:eE x≠0
 ·rw [if_pos h1] at e;exact absurd e h1
 rw [if_neg h1] at e ⊢
 by_cases h2:(!iO s.tree x.path)=true
 ·rw [if_pos h2] at e;cases e
 rw [if_neg h2] at e ⊢
 by_cases h3:32≤s.aG.length∨s.next=18446744073709551615
 ·rw [if_pos h3] at e;cases e
 rw [if_neg h3] at e ⊢
 have Zs:=h.next
 rcases pu s.queue ⟨s.next,x.prio⟩ with ⟨_,e2,_⟩|⟨e2,_⟩
 ·rw [if_pos e2] at e;exact absurd e e2
 rw [e2,if_neg (by simp)]
 have hu:u64 (s.next+1)=s.next+1:=by unfold u64;omega
 rw [hu]
 exact ⟨rfl,by omega,rfl⟩
theorem Bh {s:bH} {x:Ask} (e:(cN s x).2.2≠0):(cN s x).1=s∧(cN s x).2.1=0∧(eE x=0∨(cN s x).2.2=eE x):=by
 unfold cN at e ⊢
 by_cases h1:eE x≠0
 ·rw [if_pos h1];exact ⟨rfl,rfl,.inr rfl⟩
 rw [if_neg h1] at e ⊢
 simp only [Decidable.not_not] at h1
 by_cases h2:(!iO s.tree x.path)=true
 ·rw [if_pos h2];exact ⟨rfl,rfl,.inl h1⟩
 rw [if_neg h2] at e ⊢
 by_cases h3:32≤s.aG.length∨s.next=18446744073709551615
 ·rw [if_pos h3];exact ⟨rfl,rfl,.inl h1⟩
 rw [if_neg h3] at e ⊢
 by_cases h4:(jh s.queue ⟨s.next,x.prio⟩).2≠0
 ·rw [if_pos h4];exact ⟨rfl,rfl,.inl h1⟩
 rw [if_neg h4] at e;exact absurd rfl e
structure bH.fT (A:Ask→Prop) (s:bH):Prop where
 names:∀n∈s.bz.nodes,n.sm
 paths:∀e∈s.tree,e.path.length<1000
 xs:∀j∈s.aG,A j.x
structure lJ (s t:bH):Prop where
 nodes:t.bz.nodes=s.bz.nodes
 paths:∀e∈t.tree,∃f∈s.tree,e.path=f.path
 xs:∀j∈t.aG,∃k∈s.aG,j.x=k.x
theorem lJ.refl (s:bH):lJ s s:=⟨rfl,fun e h=>⟨e,h,rfl⟩,fun j h=>⟨j,h,rfl⟩⟩
theorem lJ.fT {A:Ask→Prop} {s t:bH} (h:lJ s t) (l:s.fT A):t.fT A:=by
 refine ⟨by rw [h.nodes];exact l.names,fun e he=>?_,fun j hj=>?_⟩
 ·obtain ⟨f,hf,e1⟩:=h.paths e he;rw [e1];exact l.paths f hf
 obtain ⟨k,hk,e1⟩:=h.xs j hj;rw [e1];exact l.xs k hk
theorem Ny {l:List Jb} {k:Nat} {j y:Jb} (hk:l[k]?=some y) (hx:j.x=y.x):∀z∈l.set k j,∃w∈l,z.x=w.x:=by
 intro z hz
 rcases List.mem_or_eq_of_mem_set hz with h|rfl
 ·exact ⟨z,h,rfl⟩
 exact ⟨y,List.mem_of_getElem? hk,hx⟩
theorem zi {t u:List bu} (h:cK t u):∀e∈u,∃f∈t,e.path=f.path:=fun e he=>by
 obtain ⟨f,hf,h1,_⟩:=h.back he
 exact ⟨f,hf,h1⟩
theorem Bk {s:bH} {id:Int} {names:List aQ} (e:(eF s id names).2≠0):(eF s id names).1=s:=by
 unfold eF at e ⊢
 split
 ·rfl
 rename_i k hk
 rw [hk] at e
 simp only at e
 unfold jG at e ⊢
 by_cases h1:(s.aG.getD k Jb.zero).runs=true
 ·rw [if_pos h1]
 rw [if_neg h1] at e ⊢
 by_cases h2:(names.length:Int)≠(s.aG.getD k Jb.zero).x.count
 ·rw [if_pos h2]
 rw [if_neg h2] at e ⊢
 by_cases h3:(!(dR (s.aG.getD k Jb.zero).x).2)=true
 ·rw [if_pos h3]
 rw [if_neg h3] at e ⊢
 split
 ·rfl
 rename_i h4
 rw [if_neg h4] at e
 split
 ·rfl
 rename_i h5
 rw [if_neg h5] at e
 exact absurd rfl e
theorem wh {s:bH} (h:s.ok) (id:Int) (names:List aQ):lJ s (eF s id names).1:=by
 by_cases e:(eF s id names).2=0
 ·obtain ⟨i,j,T,h1,h2,h3,h4,h5,h6⟩:=Bg h e
  rw [h6]
  exact ⟨rfl,zi h5,Ny h1 rfl⟩
 rw [Bk e];exact lJ.refl s
theorem He {s:bH} (h:s.ok) (id kind:Int):lJ s (eJ s id kind).1:=by
 cases hf:s.aG.findIdx? (fun j=>decide (j.id=id)) with
 |none=>unfold eJ;rw [hf];exact lJ.refl s
 |some i=>
  obtain ⟨j,hj,rfl,c⟩:=mE hf
  by_cases hr:j.runs=true
  ·obtain ⟨T,Q,h1,h2⟩:=zh h hj hr kind
   rw [h2]
   exact ⟨rfl,zi h1,Ny hj rfl⟩
  unfold eJ;rw [hf];simp only;rw [c,if_pos (by simpa using hr)];exact lJ.refl s
theorem KB {s:bH} (h:s.ok) (id kind:Int):lJ s (send s id kind).1:=by
 cases hf:s.aG.findIdx? (fun j=>decide (j.id=id)) with
 |none=>unfold send;rw [hf];exact lJ.refl s
 |some i=>
  obtain ⟨j,hj,rfl,c⟩:=mE hf
  obtain ⟨h1,h2,h3⟩:=IY h hj kind
  have hx:∀z∈s.aG.eraseIdx i,∃w∈s.aG,z.x=w.x:=fun z hz=>⟨z,List.mem_of_mem_eraseIdx hz,rfl⟩
  by_cases hr:j.runs=true
  ·obtain ⟨T,h4,h5⟩:=h3 hr
   rw [h5]
   exact ⟨rfl,zi h4,hx⟩
  rw [h2 (by simpa using hr)]
  exact ⟨rfl,fun e he=>⟨e,he,rfl⟩,hx⟩
theorem zj {A:Ask→Prop} {s:bH} (l:s.fT A) {x:Ask} (hx:A x):(cN s x).1.fT A:=by
 by_cases e:(cN s x).2.2=0
 ·unfold cN at e ⊢
  split
  ·exact l
  split
  ·exact l
  split
  ·exact l
  split
  ·exact l
  refine ⟨l.names,l.paths,fun j hj=>?_⟩
  rcases List.mem_append.1 hj with h|h
  ·exact l.xs j h
  rw [List.mem_singleton.1 h];exact hx
 rw [(Bh e).1];exact l
structure zk (x:Ask):Prop where
 path:x.path.length≤4
 gB:x.gB.w
 bZ:x.bZ.length≤1
 key:∀m∈x.bZ,m.key.length≤4∧m.lS.length≤1∧∀v∈m.lS,v.length≤1
theorem lK (x:je):zk (Aj x):=by
 refine ⟨?_,MV x,?_,?_⟩
 ·unfold Aj
  simp only
  have:∀k<4,(yP.getD k []).length≤4:=by decide
  exact this _ (Nat.mod_lt _ (by decide))
 ·unfold Aj;simp only;split<;>simp
 unfold Aj;simp only;split
 ·intro m hm
  rw [List.mem_singleton.1 hm]
  exact ⟨by show Pv.length≤4;decide,by simp,by simp⟩
 intro m hm;cases hm
theorem Hf {p:bf} (h:∀n∈p.nodes,n.sm) {y:Node} (hy:y.sm):∀n∈(o6 p y).1.nodes,n.sm:=by
 rcases rP p y with ⟨e,_⟩|⟨_,_,_,e⟩
 ·rw [e];exact h
 rw [e]
 intro n hn
 rcases List.mem_append.1 hn with h1|h1
 ·exact h n (List.mem_of_mem_take h1)
 rcases List.mem_cons.1 h1 with rfl|h1
 ·exact hy
 exact h n (List.mem_of_mem_drop h1)
theorem Fc (i:Nat):(⟨fK.getD i [],⟨(4+2*i:Nat),9,9,9⟩,pz i,false⟩:Node).sm:=by
 have h1:∀i,(fK.getD i []).length≤2
  |0=>by decide
  |1=>by decide
  |2=>by decide
  |i+3=>by simp [fK]
 have h2:∀i,(pz i).length≤1∧∀q∈pz i,q.sm:=by
  intro i
  unfold pz
  split
  ·refine ⟨by simp,fun q hq=>?_⟩
   rw [List.mem_singleton.1 hq]
   have h3:∀i,(([[97],[98]]:List aQ).getD i []).length≤1
    |0=>by decide
    |1=>by decide
    |i+2=>by simp
   have:=h3 i
   exact ⟨by show Pv.length<_;decide,by simp only;omega⟩
  exact ⟨by simp,fun q hq=>by cases hq⟩
 exact ⟨by have:=h1 i;simp only;omega,by have:=(h2 i).1;simp only;omega,(h2 i).2⟩
theorem rY (n:Nat):∀i,∀x∈(dy n i).nodes,x.sm
 |0=>fun x hx=>by cases hx
 |i+1=>by
  unfold dy
  split
  ·exact Hf (rY n i) (Fc i)
  exact rY n i
theorem wi (A:Ask→Prop) (n:Nat):(iT n).fT A:=by
 refine ⟨rY n 3,fun e he=>?_,fun j hj=>by cases hj⟩
 unfold iT at he
 rw [IJ _ (Nat.mod_lt _ (by decide))] at he
 simp only [ol,List.mem_cons,List.not_mem_nil,or_false] at he
 rcases he with rfl|rfl|rfl|rfl<;>simp
theorem PZ (id:Int) (x:Place) (l:List Place):vY id (x::l)=(if x.bS=id then 1 else 0)+vY id l:=by
 unfold vY
 rw [List.filter_cons]
 split<;>simp_all<;>omega
theorem Sq {js:List Jb} {f g:Jb→Nat} (h:∀j∈js,f j≤g j):(js.map f).sum≤(js.map g).sum:=by
 induction js with
 |nil=>simp
 |cons a l ih=>
  simp only [List.map_cons,List.sum_cons]
  have:=h a (List.mem_cons_self ..)
  have:=ih fun j hj=>h j (List.mem_cons_of_mem _ hj)
  omega
theorem Nz {js:List Jb} (f g:Jb→Nat):(js.map fun j=>f j+g j).sum=(js.map f).sum+(js.map g).sum:=by
 induction js with
 |nil=>simp
 |cons a l ih=>simp only [List.map_cons,List.sum_cons,ih];omega
theorem P0 {js:List Jb} {id:Int} {j:Jb} (hj:j∈js) (e:j.id=id):1≤(js.map fun j=>if id=j.id then 1 else 0).sum:=by
 induction js with
 |nil=>cases hj
 |cons a l ih=>
  simp only [List.map_cons,List.sum_cons]
  rcases List.mem_cons.1 hj with rfl|hj
  ·rw [if_pos e.symm];omega
  have:=ih hj;omega
theorem zl {js:List Jb}:∀{l:List Place},(∀x∈l,∃j∈js,j.id=x.bS)→l.length≤(js.map fun j=>vY j.id l).sum
 |[],_=>by simp
 |x::l,h=>by
  have ih:=zl (js:=js) (l:=l) fun y hy=>h y (List.mem_cons_of_mem _ hy)
  obtain ⟨j,hj,e⟩:=h x (List.mem_cons_self ..)
  have h1:=P0 hj e
  have:(fun j:Jb=>vY j.id (x::l))=fun j=>(if x.bS=j.id then 1 else 0)+vY j.id l:=by funext j;rw [PZ]
  rw [this,Nz]
  simp only [List.length_cons]
  omega
theorem bH.ok.Hg {s:bH} (h:s.ok):s.bz.places.length≤256:=by
 have h1:=zl (js:=s.aG) (l:=s.bz.places) fun x hx=>by
  obtain ⟨j,hj,_,e,_⟩:=h.places x hx
  exact ⟨j,hj,e⟩
 have h2:∀j∈s.aG,vY j.id s.bz.places≤8:=by
  intro j hj
  cases hr:j.runs with
  |true=>
   have e1:=h.count j hj hr
   have e2:=gk.1 (h.yO j hj).1
   omega
  |false=>
   have e1:=h.II hj hr
   have:vY j.id s.bz.places=0:=by
    unfold vY
    rw [List.length_eq_zero_iff,List.filter_eq_nil_iff]
    intro x hx;simpa using e1 x hx
   omega
 have h3:=Sq (f:=fun j=>vY j.id s.bz.places) (g:=fun _=>8) h2
 have h4:(s.aG.map fun _=>8).sum=8*s.aG.length:=by
  generalize s.aG=l
  induction l with
  |nil=>rfl
  |cons a l ih=>simp only [List.map_cons,List.sum_cons,List.length_cons,ih];omega
 have:=h.most
 omega
end Dem
end
