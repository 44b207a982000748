/- Parts of a proof, joined. -/
import Derived.Test.YtjnbpclolnmimaaGreatDoorK25
import Derived.Test.YtjnbpclolnmimaaGreatDoorRows
set_option linter.all false
set_option maxRecDepth 100000
set_option maxHeartbeats 4000000
section
open Go Dem Go.Proofs
namespace Dem
variable {t:Th}
theorem cJ.ok.Lc {s:cJ} (h:s.ok) (l:s.c6 (fun x=>x.sm)):s.sm where
 nodes:=⟨by have:=h.bC.most;omega,l.names⟩
 places:=by have:=h.BB;omega
 tree:=⟨by have:=h.tree.most;omega,fun e he=>by have:=l.paths e he;omega⟩
 aL:=⟨by have:=h.most;omega,fun x hx=>⟨l.xs x hx,⟨by have:=h.Dz x hx;omega,by have:=h.Dz x hx;have:=h.next;omega⟩,by
  have:=(h.Cf x hx).1
  unfold cI Ou at this
  split at this
  ·cases this
  split at this
  ·cases this
  simp_all;omega⟩⟩
 queue:=by
  have h1:=h.S6
  have h2:gA s.aL≤s.aL.length:=List.length_filter_le _ _
  have:=h.most;omega
 notes:=by have:=h.notes;omega
theorem WM {s:cJ} (l:s.c6 By):s.c6 (fun x=>x.sm):=⟨l.names,l.paths,fun j hj=>rG (l.xs j hj)⟩
theorem Ry {i nx tn r9:Int} {jl Rx ql RS:Nat} (y1:i=nx) (y0:1≤nx) (y2:nx+1<18446744073709551616) (z5:tn=nx+1) (z2:Rx=jl+1) (z4:RS=ql+1) (z3:0≤r9) (hj:jl<1000000) (hq:ql<1000000)
 (h:(((¬i=nx∨¬tn=IntKind.u64.wrap (i+1))∨¬(Rx:Int)=IntKind.i64.wrap ((jl:Int)+1))∨r9<0)∨¬(RS:Int)=IntKind.i64.wrap ((ql:Int)+1)):False:=by
 have e1:IntKind.u64.wrap (i+1)=i+1:=by rw [bI];omega
 have e2:IntKind.i64.wrap ((jl:Int)+1)=(jl:Int)+1:=wrap64 (by omega) (by omega)
 have e3:IntKind.i64.wrap ((ql:Int)+1)=(ql:Int)+1:=wrap64 (by omega) (by omega)
 rw [e1,e2,e3] at h
 omega
theorem BW (ht:TT t) (hx0:FC 9 [] [] (.ret (BL true)) []) (N:Nat) (hN:N<256) {a:Int} (ea:a=N) {l:List iu} {dl:List (List D)} (U2:dl=l.map iu.cells) (ZC:∀x∈l,x.u) (hll:l.length<9223372036854775808)
 (ja jb jc jd jn jp jt:Int) (jq:aA) {gL:List Term} {pW:List (List D)} (jw:pW=gL.map Term.cells) (TZ:(⟨jq,⟨ja,jb,jc,jd⟩,jn,jp,jt,gL⟩:Ask).sm) (hXw:(⟨jq,⟨ja,jb,jc,jd⟩,jn,jp,jt,gL⟩:Ask).fZ.w):
 FC 5 [U8 a,SL dl,.agg [ST jq,ax ja,ax jb,ax jc,ax jd,bc jn,bc jp,bc jt,SL pW]] [] (.ret (BL true)) []:=by
 obtain ⟨C,hC⟩:∃C,C=cI ⟨jq,⟨ja,jb,jc,jd⟩,jn,jp,jt,gL⟩:=⟨_,rfl⟩
 refine bA ht (aB:=[]) Tryz.func5 rfl rfl (N:=149) rfl rfl (n:=0) rfl rfl ?_
 cbv
 have K7:dl.length=l.length:=by rw [U2,lgM]
 have pG:pW.length=gL.length:=by rw [jw,lgM]
 (refine gV trv hx0 trv rfl rfl ?_)
 cbv
 refine ai (fun h0=>?_) (fun h0=>?_)
 ·simp [ht] at h0
 simp [ht] at h0
 cbv
 (refine aU trv (Rj ht N hN ea U2 ZC hll) (by simp) rfl rfl rfl (fun r1 eb=>?_);simp only [ht] at eb;have hok:r1.ok:=(by rw [eb];exact DB N l _);have WN:r1.c6 (fun x=>x.sm):=(by rw [eb];exact WM (Bz N l _));have gD:=hok.Lc WN;obtain ⟨⟨s1,s2⟩,s3,⟨s4,s5⟩,⟨s6,s7⟩,s8,s9,Zy⟩:=id gD)
 cbv
 (refine aU trv (mb ht _ _ _ _ (nl:=r1.bC.nodes) (pl:=r1.bC.places) (tl:=r1.tree) (jl:=r1.aL) (ql:=r1.queue) (el:=r1.ev.l) (al:=r1.au.l) (by simp only [ht]<;>rfl) (by simp only [ht]<;>rfl) (by simp only [ht]<;>rfl) (by simp only [ht]<;>rfl) (by simp only [ht]<;>rfl) (by simp only [ht]<;>rfl) (by simp only [ht]<;>rfl) _ _ _ _ _ _ _ _ jw TZ s4 s6 s8 s9) (by simp) rfl rfl rfl (fun r2 cU=>?_);simp only [ht] at cU;replace cU:r2=bW r1 ⟨jq,⟨ja,jb,jc,jd⟩,jn,jp,jt,gL⟩:=cU;have hb:r2.1.ok:=(by rw [cU];exact hok.bW hXw);have Ey:r2.1.sm:=hb.Lc (by rw [cU];exact ul WN TZ))
 cbv
 refine ai (fun h1=>?_) (fun h1=>?_)
 ·simp [ht] at h1
  cbv
  iterate 2 refine gI (by simp) ?_
  refine pI (by simp) ?_
  iterate 2 refine gI (by simp [ht]) ?_
  (refine aJ (fun g=>⟨by first|(simp [ht];done)|(simpa [ht] using g)|(simp_all [ht];done),by simp,(xx ht _ _ _ _ (nl:=r1.bC.nodes) (pl:=r1.bC.places) (tl:=r1.tree) (jl:=r1.aL) (ql:=r1.queue) (el:=r1.ev.l) (al:=r1.au.l) (by simp only [ht]<;>rfl) (by simp only [ht]<;>rfl) (by simp only [ht]<;>rfl) (by simp only [ht]<;>rfl) (by simp only [ht]<;>rfl) (by simp only [ht]<;>rfl) (by simp only [ht]<;>rfl) _ _ _ _ (nl':=r2.1.bC.nodes) (WG:=r2.1.bC.places) (WH:=r2.1.tree) (Rx:=r2.1.aL) (RS:=r2.1.queue) (WI:=r2.1.ev.l) (WJ:=r2.1.au.l) (by simp only [ht]<;>rfl) (by simp only [ht]<;>rfl) (by simp only [ht]<;>rfl) (by simp only [ht]<;>rfl) (by simp only [ht]<;>rfl) (by simp only [ht]<;>rfl) (by simp only [ht]<;>rfl) (WL gD) (WL Ey) (Oj gD) (Oj Ey) (TY gD) (TY Ey))⟩) rfl rfl (fun r6 gk=>?_);simp only [ht] at gk;replace gk:r6=yB r1 r2.1:=gk)
  cbv
  refine pI (by simp [ht]) ?_
  refine gI (by simp [ht]) ?_
  (refine aJ (fun g=>⟨by first|(simp [ht];done)|(simpa [ht] using g)|(simp_all [ht];done),by simp,j9 ht _ _ _ _ _ _ _ _ jw TZ⟩) rfl rfl (fun r7 gE=>?_);simp only [ht] at gE;rw [←hC] at gE;subst r7)
  cbv
  iterate 4 refine gI (by simp [ht]) ?_
  (refine aJ (fun g=>⟨by first|(simp [ht];done)|(simpa [ht] using g)|(simp_all [ht];done),by simp,j9 ht _ _ _ _ _ _ _ _ jw TZ⟩) rfl rfl (fun r7 gE=>?_);simp only [ht] at gE;rw [←hC] at gE;subst r7)
  cbv
  refine gI (by simp [ht]) ?_
  refine gI (by simp [ht,bq];intros;simp_all) ?_
  refine pI (by simp [ht]) ?_
  refine ak trv trv rfl rfl rfl ?_
  (obtain ⟨w1,w2,w3⟩:=DC (s:=r1) (x:=⟨jq,⟨ja,jb,jc,jd⟩,jn,jp,jt,gL⟩) (by rw [←cU];exact h1);rw [←cU] at w1 w2 w3;rw [←hC] at w3;simp only [ht];rw [gk,w1,BU,w2];rcases w3 with w3|w3<;>simp [w3];done)
 simp [ht] at h1
 cbv
 (refine aU trv (rB ht _ _ _ _ _ _ _ _ _ _ _ (l:=r2.1.aL) (by simp only [ht]<;>rfl) (by have:=Ey.aL.1;omega)) (by simp) rfl rfl rfl (fun r3 gQ=>?_);simp only [ht] at gQ;replace gQ:r3=dZ r2.1.aL r2.2.1:=gQ;have e2:(bW r1 ⟨jq,⟨ja,jb,jc,jd⟩,jn,jp,jt,gL⟩).2.2=0:=(by rw [←cU];assumption);obtain ⟨y1,y2,y3⟩:=Bw hok e2;obtain ⟨z1,z2,z3,z4,z5,z6,z7,z8⟩:=Ta hok hXw e2;rw [←cU] at y1 z1 z2 z3 z4 z5 z6 z7 z8;rw [y1,z1] at gQ;subst r3)
 cbv
 iterate 5 refine gI (by simp [ht]) ?_
 refine pI (by simp [ht]) ?_
 iterate 2 refine gI (by simp [ht]) ?_
 refine pI (by simp [ht]) ?_
 iterate 2 refine gI (by simp [ht]) ?_
 refine pI (by simp [ht]) ?_
 iterate 3 refine gI (by simp [ht]) ?_
 refine pI (by simp [ht]) ?_
 iterate 3 refine gI (by simp [ht]) ?_
 (refine aJ (fun g=>⟨by first|(simp [ht];done)|(simpa [ht] using g)|(simp_all [ht];done),by simp,Io ht _ _ _ _ _ _ _ _ _ _ _ _ _ _ _ _ (sl:=gL) (qc:=gL) (by simp only [ht]<;>rfl) jw TZ.2.2.1 TZ.2.2.1 (fun m hm=>(TZ.2.2.2 m hm).2.1) (fun m hm=>(TZ.2.2.2 m hm).2.1)⟩) rfl rfl (fun r8 sO=>?_);simp only [ht] at sO;replace sO:r8=true:=(by simpa using sO);subst r8)
 cbv
 refine gI (by simp [ht]) ?_
 refine pI (by simp [ht]) ?_
 iterate 8 refine gI (by simp [ht]) ?_
 refine pI (by simp [ht]) ?_
 iterate 3 refine gI (by simp [ht]) ?_
 (refine aJ (fun g=>⟨by first|(simp [ht];done)|(simpa [ht] using g)|(simp_all [ht];done),by simp,sD ht _ (l:=r2.1.queue) (by simp only [ht]<;>rfl) (by have:=Ey.queue;omega)⟩) rfl rfl (fun r9 dz=>?_);simp only [ht] at dz;replace dz:r9=fQ r2.1.queue r2.2.1:=dz;rw [y1] at dz;rw [←dz] at z3)
 cbv
 refine gI (by simp [ht]) ?_
 refine pI (by simp [ht]) ?_
 iterate 8 refine gI (by simp [ht]) ?_
 refine pI (by simp [ht]) ?_
 refine ai (fun h2=>?_) (fun h2=>?_)
 ·simp [ht,aa] at h2
  (exact (Ry y1 hok.next.1 y2 z5 z2 z4 z3 s6 s8 h2).elim)
 simp [ht,aa] at h2
 cbv
 (refine aU trv (KZ ht _ _ _ _ (nl:=r2.1.bC.nodes) (pl:=r2.1.bC.places) (tl:=r2.1.tree) (jl:=r2.1.aL) (ql:=r2.1.queue) (el:=r2.1.ev.l) (al:=r2.1.au.l) (by simp only [ht]<;>rfl) (by simp only [ht]<;>rfl) (by simp only [ht]<;>rfl) (by simp only [ht]<;>rfl) (by simp only [ht]<;>rfl) (by simp only [ht]<;>rfl) (by simp only [ht]<;>rfl) _ _ (abt Ey) Ey.tree.1 Ey.aL.1 Ey.places Ey.queue Ey.notes.1) (by simp) rfl rfl rfl (fun r5 jh=>?_);simp only [ht] at jh;replace jh:r5=send r2.1 r2.2.1 4:=jh;rw [y1] at jh;have h5s:r5.1.sm:=(by rw [jh];exact (hb.end_ _ _).Lc ((DD hb _ _).c6 (by rw [cU];exact ul WN TZ)));rw [←jh] at z7 z8)
 cbv
 iterate 2 refine gI (by simp) ?_
 refine pI (by simp) ?_
 iterate 2 refine gI (by simp [ht]) ?_
 (refine aJ (fun g=>⟨by first|(simp [ht];done)|(simpa [ht] using g)|(simp_all [ht];done),by simp,(xx ht _ _ _ _ (nl:=r5.1.bC.nodes) (pl:=r5.1.bC.places) (tl:=r5.1.tree) (jl:=r5.1.aL) (ql:=r5.1.queue) (el:=r1.ev.l) (al:=r5.1.au.l) (by simp only [ht]<;>rfl) (by simp only [ht]<;>rfl) (by simp only [ht]<;>rfl) (by simp only [ht]<;>rfl) (by simp only [ht]<;>rfl) (by simp only [ht]<;>rfl) (by simp only [ht]<;>rfl) _ _ _ _ (nl':=r1.bC.nodes) (WG:=r1.bC.places) (WH:=r1.tree) (Rx:=r1.aL) (RS:=r1.queue) (WI:=r1.ev.l) (WJ:=r1.au.l) (by simp only [ht]<;>rfl) (by simp only [ht]<;>rfl) (by simp only [ht]<;>rfl) (by simp only [ht]<;>rfl) (by simp only [ht]<;>rfl) (by simp only [ht]<;>rfl) (by simp only [ht]<;>rfl) (UZ h5s gD) (WL gD) (Oj h5s) (Oj gD) (TY h5s) (TY gD))⟩) rfl rfl (fun r6 gk=>?_);simp only [ht] at gk;replace gk:r6=true:=(by rw [gk];exact (congrArg (fun s=>yB s r1) z8).trans (BU r1));subst r6)
 cbv
 refine pI (by simp [ht]) ?_
 refine gI (by simp [ht]) ?_
 (refine aJ (fun g=>⟨by first|(simp [ht];done)|(simpa [ht] using g)|(simp_all [ht];done),by simp,pJ ht _ _ _ _ (nl:=r2.1.bC.nodes) (pl:=r2.1.bC.places) (tl:=r2.1.tree) (jl:=r2.1.aL) (ql:=r2.1.queue) (el:=r2.1.ev.l) (al:=r2.1.au.l) (by simp only [ht]<;>rfl) (by simp only [ht]<;>rfl) (by simp only [ht]<;>rfl) (by simp only [ht]<;>rfl) (by simp only [ht]<;>rfl) (by simp only [ht]<;>rfl) (by simp only [ht]<;>rfl) Ey⟩) rfl rfl (fun r7 gE=>?_);simp only [ht] at gE;replace gE:r7=true:=(by rw [gE];exact hb.right);subst r7)
 cbv
 refine pI (by simp [ht]) ?_
 iterate 4 refine gI (by simp [ht]) ?_
 (refine aJ (fun g=>⟨by first|(simp [ht];done)|(simpa [ht] using g)|(simp_all [ht];done),by simp,Md ht (l:=r1.bC.nodes) (l':=r2.1.bC.nodes) (ps:=r1.bC.places) (ps':=r2.1.bC.places) (by simp only [ht]<;>rfl) (by simp only [ht]<;>rfl) (by simp only [ht]<;>rfl) (by simp only [ht]<;>rfl) (by omega) (by have:=Ey.nodes.1;omega) (by omega) (by have:=Ey.places;omega) (Oj gD) (Oj Ey)⟩) rfl rfl (fun r4 dV=>?_);simp only [ht] at dV;replace dV:r4=true:=(by rw [dV];simp [z6]);subst r4)
 cbv
 refine pI (by simp [ht]) ?_
 refine ak trv trv rfl rfl rfl ?_
 (simp only [ht];grind)
end Dem
end
section
open Go Go.Proofs Go.ChangeShapes Go.WideShapes Go.RowKit
open Go.Proofs.YtjnbpclolnmimaaGreatDoor
namespace Dem
mutual
def bD:D→Nat
 |.str s=>s.length+1
 |.sl es=>rH es+1
 |_=>1
def jj:List D→Nat
 |[]=>0
 |d::r=>bD d+jj r
def rH:List (List D)→Nat
 |[]=>0
 |r::rs=>jj r+rH rs
end
theorem yR:∀(a b:List D),jj (a++b)=jj a+jj b
 |[],b=>by simp [jj]
 |d::a,b=>by simp only [List.cons_append,jj,yR a b];omega
theorem xy {d:List D}:∀{l:List (List D)},d∈l→jj d≤rH l
 |x::r,h=>by
  simp only [rH]
  rcases List.mem_cons.1 h with rfl|h
  ·omega
  have:=xy h;omega
theorem xz:∀l:List (List D),(∀r∈l,1≤jj r)→l.length≤rH l
 |[],_=>by simp [rH]
 |x::r,h=>by
  have h1:=xz r (fun y hy=>h y (by simp [hy]))
  have h2:=h x (by simp)
  simp only [rH,List.length_cons];omega
mutual
theorem xC {H:Type}:∀d:DataW H,jj (dJ d)≤Rows.uptoBulk d
 |.lit l=>by cases l<;>simp [dJ,jj,bD,Rows.uptoBulk]
 |.nil=>by simp [dJ,jj,bD,rH,Rows.uptoBulk]
 |.ptr d=>by simp [dJ,jj]
 |.slice elems spare=>by
  have:=BX elems
  simp only [dJ,jj,bD,Rows.uptoBulk];omega
 |.agg parts=>by
  have:=BY parts
  simp only [dJ,Rows.uptoBulk];omega
 |.iface t d=>by simp [dJ,jj]
 |.map es=>by simp [dJ,jj]
 |.held h=>by simp [dJ,jj]
theorem BX {H:Type}:∀l:List (DataW H),rH (mF l)≤Rows.uptoBulkAll l
 |[]=>by simp [mF,rH]
 |d::r=>by
  have h1:=xC d
  have h2:=BX r
  simp only [mF,rH,Rows.uptoBulkAll];omega
theorem BY {H:Type}:∀l:List (DataW H),jj (fH l)≤Rows.uptoBulkAll l
 |[]=>by simp [fH,jj]
 |d::r=>by
  have h1:=xC d
  have h2:=BY r
  simp only [fH,yR,Rows.uptoBulkAll];omega
end
section
variable {H:Type} {enc:TypeId×Value→H} {W:World} {v:Value} {d:DataW H} {p:List MemPlace} {base:Nat}
theorem WO {r:List D} (h:ct [.str] r):∃x:aA,r=aV x∧True:=by
 simp only [ct,qz] at h
 obtain ⟨_,_,rfl,⟨x,rfl,_⟩,rfl⟩:=h
 exact ⟨x,rfl,trv⟩
theorem T0 {r:List D} (h:ct [.str,.bool,.sl [.str]] r):∃x:Term,r=x.cells∧True:=by
 simp only [ct] at h
 obtain ⟨_,_,rfl,h0,_,_,rfl,h1,_,_,rfl,h2,rfl⟩:=h
 simp only [qz] at h0 h1 h2
 obtain ⟨k,rfl,_⟩:=h0
 obtain ⟨b,rfl⟩:=h1
 obtain ⟨es,rfl,_,hr⟩:=h2
 obtain ⟨l,rfl,_⟩:=zw (cells:=aV) (Q:=fun _=>True) es (fun r hm=>WO (hr r hm))
 exact ⟨⟨k,b,l⟩,rfl,trv⟩
theorem DT (x:Term):x.key.length+x.fw.length+3≤jj x.cells∧∀y∈x.fw,y.length<jj x.cells:=by
 have h:=xz (x.fw.map aV) (fun r hr=>by
  obtain ⟨y,_,rfl⟩:=List.mem_map.1 hr
  simp only [jj,bD];omega)
 rw [lgM] at h
 simp only [Term.cells,jj,bD]
 refine ⟨by omega,fun y hy=>?_⟩
 have h2:=xy (List.mem_map_of_mem (f:=aV) hy)
 have h3:jj (aV y)=y.length+1:=by simp only [jj,bD]
 omega
theorem WQ (x:Ask) (h:jj [.str x.path,.sl (x.bX.map Term.cells)]≤1048576) (hu':x.fZ.u'):x.sm:=by
 simp only [jj,bD] at h
 have h1:=xz (x.bX.map Term.cells) (fun r hr=>by
  obtain ⟨y,_,rfl⟩:=List.mem_map.1 hr
  have:=(DT y).1;omega)
 rw [lgM] at h1
 refine ⟨by omega,hu',by omega,fun m hm=>?_⟩
 have h2:=xy (List.mem_map_of_mem (f:=Term.cells) hm)
 obtain ⟨h3,h4⟩:=DT m
 exact ⟨by omega,by omega,fun y hy=>by have:=h4 y hy;omega⟩
theorem T1 {r:List D} (h:ct [.str,.int .u64,.int .u64,.int .u64,.int .u64,.int .i64,.int .i64,.int .i64,.sl [.str,.bool,.sl [.str]]] r) (hb:jj r≤1048576):
 ∃(q:aA) (a b c e n k t:Int) (l:List Term),r=[.str q,.int .u64 a,.int .u64 b,.int .u64 c,.int .u64 e,.int .i64 n,.int .i64 k,.int .i64 t,.sl (l.map Term.cells)]∧(⟨q,⟨a,b,c,e⟩,n,k,t,l⟩:Ask).sm∧(⟨q,⟨a,b,c,e⟩,n,k,t,l⟩:Ask).fZ.w:=by
 simp only [ct] at h
 obtain ⟨_,_,rfl,h0,_,_,rfl,h1,_,_,rfl,h2,_,_,rfl,h3,_,_,rfl,h4,_,_,rfl,h5,_,_,rfl,h6,_,_,rfl,h7,_,_,rfl,h8,rfl⟩:=h
 simp only [qz] at h0 h1 h2 h3 h4 h5 h6 h7 h8
 obtain ⟨q,rfl,_⟩:=h0
 obtain ⟨a,rfl,ha⟩:=h1
 obtain ⟨b,rfl,hb'⟩:=h2
 obtain ⟨c,rfl,hc⟩:=h3
 obtain ⟨e,rfl,he⟩:=h4
 obtain ⟨n,rfl,_⟩:=h5
 obtain ⟨k,rfl,_⟩:=h6
 obtain ⟨t,rfl,_⟩:=h7
 obtain ⟨es,rfl,_,hr⟩:=h8
 obtain ⟨l,rfl,_⟩:=zw (cells:=Term.cells) (Q:=fun _=>True) es (fun r hm=>T0 (by simpa only [ct] using hr r hm))
 have ga:=wf_u64 ha;have gb:=wf_u64 hb';have gc:=wf_u64 hc;have ge:=wf_u64 he
 refine ⟨q,a,b,c,e,n,k,t,l,rfl,WQ ⟨q,⟨a,b,c,e⟩,n,k,t,l⟩ ?_ ⟨ga,gb,gc,ge⟩,?_⟩
 ·simp only [jj,bD] at hb ⊢;omega
 intro i hi
 have:i=0∨i=1∨i=2∨i=3:=by omega
 rcases this with rfl|rfl|rfl|rfl<;>simp only [bz.at_]<;>assumption
theorem Rz (hval:Value.okWide Tryz.prog W .any base 53 v) (h:DataW.Trod enc Tryz.prog W 0 (fun _=>true) true 53 v d p) (hb:Rows.uptoBulk d≤1048576):
 ∃(q:aA) (a b c e n k t:Int) (l:List Term),ah (fun _=>0) [] W (okW W) (.agg [ST q,ax a,ax b,ax c,ax e,bc n,bc k,bc t,SL (l.map Term.cells)]) v∧(⟨q,⟨a,b,c,e⟩,n,k,t,l⟩:Ask).sm∧(⟨q,⟨a,b,c,e⟩,n,k,t,l⟩:Ask).fZ.w:=by
 obtain ⟨fuel,hf⟩:=h
 unfold Value.okWide at hval
 rw [Tryz.underlying53] at hval
 obtain ⟨cs,rfl,_,_⟩:=hval
 obtain ⟨h1,h2⟩:=qA (P6 W) 8 fuel 53 cs.toList (d,p) [.str,.int .u64,.int .u64,.int .u64,.int .u64,.int .i64,.int .i64,.int .i64,.sl [.str,.bool,.sl [.str]]] hf (by kernel_rfl)
 obtain ⟨q,a,b,c,e,n,k,t,l,he,hs,hw⟩:=T1 h2 (Nat.le_trans (xC d) hb)
 simp only at he
 rw [he] at h1
 refine ⟨q,a,b,c,e,n,k,t,l,?_,hs,hw⟩
 simp only [ah]
 exact ⟨cs.toList,by simp,h1.as⟩
end
end Dem
end
section
open Go Dem Go.Proofs
namespace Dem
variable {t:Th}
theorem DU {s:aA} {p m n q:Int} (h:Ht s p m=some (n,q)):(bE s p).ok=true∧(bE s p).u≤m∧n=(bE s p).u∧q=(bE s p).next:=by
 unfold Ht at h
 split at h
 ·rename_i g;simp only [osI,Prod.mk.injEq] at h;exact ⟨g.1,g.2,h.1.symm,h.2.symm⟩
 cases h
theorem BZ {s:aA} {p q:Int} {x:aA} (h:vB s p=some (x,q)):(aR s p 32).ok=true∧x=(aR s p 32).t∧q=(aR s p 32).next:=by
 unfold vB at h
 split at h
 ·rename_i g;simp only [osI,Prod.mk.injEq] at h;exact ⟨g,h.1.symm,h.2.symm⟩
 cases h
theorem RA (ht:TT t) (s:aA) {p m n q:Int} (hs:s.length<9223372036854775000) (hp:p<9223372036854775808) (hm:m<9223372036854775808) (h:Ht s p m=some (n,q)):
 FC 228 [.ptr 0 0,ax m] [.var [ST s,bc p]] (.ret (bc n)) [.var [ST s,bc q]]:=by
 obtain ⟨g1,g2,g3,g4⟩:=DU h
 have gb:=eI g1
 have hw:IntKind.i64.wrap n=n:=by rw [bY (by omega) (by omega)]
 refine bA ht (aB:=[.var [ST s,bc p]]) Tryz.func228 rfl rfl (N:=36) rfl rfl (n:=1) rfl rfl ?_
 cbv
 refine bS [false,false,false,false,false,false,false,false,true,true,false,false,false,false,false,true] (by kernel_rfl) (by kernel_rfl) ?_
 cbv
 iterate 8 refine gI (by simp) ?_
 refine ay trv (fh ht _ _ ‹_› ‹_›) trv rfl rfl (fun r0 bF=>?_)
 simp only [ht] at bF
 rw [←bF] at g1 g2 g3 g4
 cbv
 iterate 5 refine gI (by simp) ?_
 iterate 3 refine gI (by simp [ht]) ?_
 refine pI (by simp [ht]) ?_
 refine ai (fun h1=>?_) (fun h1=>?_)
 ·simp [ht] at h1
  cbv
  (exfalso;rcases h1 with h1|h1;(rw [g1] at h1;cases h1);omega)
 simp [ht] at h1
 cbv
 (subst g3 g4;exact ak trv trv rfl rfl rfl (by simp only [ht,hw]))
theorem Mu (ht:TT t) (s:aA) {p q:Int} {x:aA} (hs:s.length<9223372036854775000) (hp:p<9223372036854775808) (h:vB s p=some (x,q)):
 FC 239 [.ptr 0 0] [.var [ST s,bc p]] (.ret (ST x)) [.var [ST s,bc q]]:=by
 obtain ⟨g1,g3,g4⟩:=BZ h
 refine bA ht (aB:=[.var [ST s,bc p]]) Tryz.func239 rfl rfl (N:=28) rfl rfl (n:=1) rfl rfl ?_
 cbv
 refine bS [false,false,false,false,false,false,false,false,true,true,false,false,false,false,false,true] (by kernel_rfl) (by kernel_rfl) ?_
 cbv
 iterate 8 refine gI (by simp) ?_
 refine ay trv (gC ht _ _ _ ‹_› ‹_› (by omega)) trv rfl rfl (fun r0 bF=>?_)
 simp only [ht] at bF
 rw [←bF] at g1 g3 g4
 cbv
 iterate 5 refine gI (by simp) ?_
 refine ai (fun h1=>?_) (fun h1=>?_)
 ·simp [ht] at h1
  cbv
  (exfalso;rw [g1] at h1;cases h1)
 simp [ht] at h1
 cbv
 (subst g3 g4;exact ak trv trv rfl rfl rfl (by simp only))
theorem T2 (ht:TT t) (k:aA) (no:Bool) {vs:List aA} {vr:List (List D)} (uz:vr=vs.map aV) (hl:vs.length<1000000000) (hn:(ng ⟨k,no,vs⟩).length<9223372036854775000):
 FC 177 [.agg [ST k,BL no,SL vr]] [] (.ret (sK (t _ fun _=>ng ⟨k,no,vs⟩))) []:=by
 have YD:IntKind.i64.wrap (2*(vr.length:Int))=2*(vs.length:Int):=by rw [uz,lgM];exact wrap64 (by omega) (by omega)
 have hw3:IntKind.u64.wrap (2*(vs.length:Int))=2*(vs.length:Int):=by rw [bI];omega
 have hw4:IntKind.u64.wrap (IntKind.i64.wrap (2*(vs.length:Int)+1))=2*(vs.length:Int)+1:=by rw [wrap64 (by omega) (by omega),bI];omega
 have hn2:=hn
 simp only [ng,bH,List.length_append] at hn2
 refine bA ht (aB:=[]) Tryz.func177 rfl rfl (N:=35) rfl rfl (n:=0) rfl rfl ?_
 cbv
 have jY:vr.length=vs.length:=by rw [uz,lgM]
 refine ai (fun h0=>?_) (fun h0=>?_)
 ·cbv
  refine ay trv (dM ht _ (by omega)) trv rfl rfl (fun r1 eb=>?_)
  simp only [ht] at eb
  have WE:=congrArg List.length eb
  simp only [bH,List.length_append] at WE
  cbv
  refine ay trv (cL ht _ (by (simp only [ht,bI];omega))) trv rfl rfl (fun r2 cU=>?_)
  simp only [ht] at cU
  simp only [YD,hw4] at cU
  have WB:(r2).length≤10:=by rw [cU];exact cY _
  cbv
  refine ⟨?_,?_⟩
  ·(simp only [ht,aa] at*;omega)
  cbv
  obtain ⟨J3,Fp⟩:∃J3:Nat→List UInt8×Int→Prop,∀n o i,J3 n (o,i)↔(∃q:Nat,i=q∧q+n=vs.length∧ng ⟨k,no,vs⟩=o++((vs.drop q).map bH).flatten):=⟨fun n v=>match v with|(o,i)=>(∃q:Nat,i=q∧q+n=vs.length∧ng ⟨k,no,vs⟩=o++((vs.drop q).map bH).flatten),fun _ _ _=>Iff.rfl⟩
  refine bg ⟨[4,23,24,25],[],[]⟩ (σ:=List UInt8×Int) (fun v=>[(4,.d (.str (t _ fun _=>v.1))),(25,.d (.int .i64 (t _ fun _=>v.2)))]) (fun v=>[]) J3 ?_
  cbv
  refine aC ⟨vs.length,(_,_),(Fp _ _ _).2 ?_,by simp only [ht];rfl,?_⟩
  ·exact ⟨0,rfl,by simp,by simp [ng, *]⟩
  rintro n ⟨o,i⟩ hj
  replace hj:=(Fp _ _ _).1 hj
  obtain ⟨q,rfl,j1,j4⟩:=hj
  cbv
  refine ai (fun h4=>?_) (fun h4=>?_)
  ·simp [ht,aa,jY] at h4
   cbv
   refine dS ht uz (cT:=eR t) (by (simp only [ht,aa];omega)) (by (simp only [ht,aa];omega)) (fun _=>rfl) (fun _=>rfl) (fun x5 Oh=>?_)
   simp [ht,aa] at Oh
   rw [kx Oh] at j4
   have oP:=congrArg List.length j4
   simp [bH] at oP
   cbv
   refine ay trv (dM ht _ (by omega)) trv rfl rfl (fun r6 gk=>?_)
   simp only [ht] at gk
   have YX:=congrArg List.length gk
   simp only [bH,List.length_append] at YX
   cbv
   refine ⟨?_,?_⟩
   ·(simp only [ht,aa] at*;omega)
   cbv
   refine bu (_,_) (by simp only [ht];rfl) (n-1) ?_ ((Fp _ _ _).2 ?_)
   ·omega
   simp only [aa]
   exact ⟨q+1,aE (by omega),by omega,by rw [j4];simp [*]⟩
  simp [ht,aa,jY] at h4
  cbv
  refine ak trv trv rfl rfl rfl ?_
  (rw [List.drop_eq_nil_of_le (by omega),List.map_nil,List.flatten_nil,List.append_nil] at j4;simp only [ht,j4];done)
 cbv
 refine ay trv (dM ht _ (by omega)) trv rfl rfl (fun r7 gE=>?_)
 simp only [ht] at gE
 have Rs:=congrArg List.length gE
 simp only [bH,List.length_append] at Rs
 cbv
 refine ay trv (cL ht _ (by (simp only [ht,bI];omega))) trv rfl rfl (fun r8 sO=>?_)
 simp only [ht] at sO
 simp only [YD,hw3] at sO
 have YY:(r8).length≤10:=by rw [sO];exact cY _
 cbv
 refine ⟨?_,?_⟩
 ·(simp only [ht,aa] at*;omega)
 cbv
 obtain ⟨J9,hJ9⟩:∃J9:Nat→List UInt8×Int→Prop,∀n o i,J9 n (o,i)↔(∃q:Nat,i=q∧q+n=vs.length∧ng ⟨k,no,vs⟩=o++((vs.drop q).map bH).flatten):=⟨fun n v=>match v with|(o,i)=>(∃q:Nat,i=q∧q+n=vs.length∧ng ⟨k,no,vs⟩=o++((vs.drop q).map bH).flatten),fun _ _ _=>Iff.rfl⟩
 refine bg ⟨[4,23,24,25],[],[]⟩ (σ:=List UInt8×Int) (fun v=>[(4,.d (.str (t _ fun _=>v.1))),(25,.d (.int .i64 (t _ fun _=>v.2)))]) (fun v=>[]) J9 ?_
 cbv
 refine aC ⟨vs.length,(_,_),(hJ9 _ _ _).2 ?_,by simp only [ht];rfl,?_⟩
 ·exact ⟨0,rfl,by simp,by simp [ng, *]⟩
 rintro n ⟨o,i⟩ hj
 replace hj:=(hJ9 _ _ _).1 hj
 obtain ⟨q,rfl,j1,j4⟩:=hj
 cbv
 refine ai (fun h10=>?_) (fun h10=>?_)
 ·simp [ht,aa,jY] at h10
  cbv
  refine dS ht uz (cT:=eR t) (by (simp only [ht,aa];omega)) (by (simp only [ht,aa];omega)) (fun _=>rfl) (fun _=>rfl) (fun x11 Y4=>?_)
  simp [ht,aa] at Y4
  rw [kx Y4] at j4
  have oP:=congrArg List.length j4
  simp [bH] at oP
  cbv
  refine ay trv (dM ht _ (by omega)) trv rfl rfl (fun Wv oB=>?_)
  simp only [ht] at oB
  have UW:=congrArg List.length oB
  simp only [bH,List.length_append] at UW
  cbv
  refine ⟨?_,?_⟩
  ·(simp only [ht,aa] at*;omega)
  cbv
  refine bu (_,_) (by simp only [ht];rfl) (n-1) ?_ ((hJ9 _ _ _).2 ?_)
  ·omega
  simp only [aa]
  exact ⟨q+1,aE (by omega),by omega,by rw [j4];simp [*]⟩
 simp [ht,aa,jY] at h10
 cbv
 refine ak trv trv rfl rfl rfl ?_
 (rw [List.drop_eq_nil_of_le (by omega),List.map_nil,List.flatten_nil,List.append_nil] at j4;simp only [ht,j4];done)
theorem T3 (ht:TT t) {l:List Term} {es:List (List D)} (aD:es=l.map Term.cells) (hl:l.length<1000000000) (gD:∀x∈l,x.sm) (hn:(A4 l).length<9223372036854775000):
 FC 132 [SL es] [] (.ret (sK (t _ fun _=>A4 l))) []:=by
 have Cz:IntKind.u64.wrap (es.length:Int)=l.length:=by rw [bI,aD,lgM];omega
 refine bA ht (aB:=[]) Tryz.func132 rfl rfl (N:=25) rfl rfl (n:=0) rfl rfl ?_
 cbv
 have av:es.length=l.length:=by rw [aD,lgM]
 refine ay trv (wZ ht ‹_› ‹_› ‹_›) trv rfl rfl (fun r0 bF=>?_)
 simp only [ht] at bF
 cbv
 refine ai (fun h1=>?_) (fun h1=>?_)
 ·simp [ht] at h1
  cbv
  refine ak trv trv rfl rfl rfl ?_
  (simp_all [A4];done)
 simp [ht] at h1
 cbv
 refine ay trv (cL ht _ (by (simp only [ht];((try simp only [aa] at*);omega)))) trv rfl rfl (fun r2 cU=>?_)
 simp only [ht] at cU
 (try rw [Cz] at cU)
 have WB:=congrArg List.length cU
 cbv
 obtain ⟨J3,Fp⟩:∃J3:Nat→List UInt8×Int→Prop,∀n o i,J3 n (o,i)↔(∃k:Nat,i=k∧k+n=l.length∧A4 l=o++((l.drop k).map ng).flatten):=⟨fun n v=>match v with|(o,i)=>(∃k:Nat,i=k∧k+n=l.length∧A4 l=o++((l.drop k).map ng).flatten),fun _ _ _=>Iff.rfl⟩
 refine bg ⟨[3,13,14,15],[],[]⟩ (σ:=List UInt8×Int) (fun v=>[(3,.d (.str (t _ fun _=>v.1))),(15,.d (.int .i64 (t _ fun _=>v.2)))]) (fun v=>[]) J3 ?_
 cbv
 refine aC ⟨l.length,(_,_),(Fp _ _ _).2 ?_,by simp only [ht];rfl,?_⟩
 ·exact ⟨0,rfl,by simp,by simp_all [A4]⟩
 rintro n ⟨o,i⟩ hj
 replace hj:=(Fp _ _ _).1 hj
 obtain ⟨k,rfl,j1,j4⟩:=hj
 cbv
 refine ai (fun h4=>?_) (fun h4=>?_)
 ·simp [ht,aa,av] at h4
  cbv
  refine dS ht aD (cT:=Term.aK t) (by (simp only [ht,aa];omega)) (by (simp only [ht,aa];omega)) (fun _=>rfl) (fun _=>(by (simp only [ht,Term.aK];rfl))) (fun x5 Oh=>?_)
  simp [ht,aa] at Oh
  rw [kx Oh] at j4
  have oP:=congrArg List.length j4
  simp at oP
  have hs1:=gD _ (List.mem_of_getElem? Oh)
  have hnp:(ng x5).length<9223372036854775000:=by omega
  obtain ⟨nx,UO⟩:∃nx,nx=ng x5:=⟨_,rfl⟩
  rw [←UO] at oP j4
  cbv
  (refine ay trv (T2 ht _ _ (by simp only [ht]) hs1.2.1 hnp) trv rfl rfl (fun r9 dz=>?_);simp only [ht] at dz;have gl9:r9=nx:=dz.trans UO.symm;subst gl9)
  cbv
  refine ⟨?_,?_⟩
  ·(simp only [ht,aa] at*;omega)
  cbv
  refine bu (_,_) (by simp only [ht];rfl) (n-1) ?_ ((Fp _ _ _).2 ?_)
  ·omega
  simp only [aa]
  exact ⟨k+1,aE (by omega),by omega,by rw [j4];simp [*]⟩
 simp [ht,aa,av] at h4
 cbv
 refine ak trv trv rfl rfl rfl ?_
 (rw [List.drop_eq_nil_of_le (by omega),List.map_nil,List.flatten_nil,List.append_nil] at j4;simp only [ht,j4];done)
theorem zA {s:aA} {p m n q:Int} (h:Ht s p m=some (n,q)):0≤n∧n≤m∧0≤q∧q≤s.length:=by
 obtain ⟨g1,g2,rfl,rfl⟩:=DU h
 have:=eI g1
 omega
theorem v8 {s:aA} {p q:Int} {x:aA} (hs:s.length<9223372036854775000) (h:vB s p=some (x,q)):0≤q∧q≤s.length∧x.length≤s.length:=by
 obtain ⟨g1,rfl,rfl⟩:=BZ h
 have:=dg (s:=s) (p:=p) (m:=32) hs
 omega
theorem yS {s:aA} {n:Nat} {l L:List aA} {p e:Int} (h:jP s (n+1) l p=some (L,e)):∃x q,vB s p=some (x,q)∧jP s n (l++[x]) q=some (L,e):=by
 rw [jP] at h
 split at h
 ·rename_i x q g;exact ⟨x,q,g,h⟩
 cases h
theorem Fs {s:aA} {n:Nat} {l L:List aA} {p e:Int} (h:jP s n l p=some (L,e)):n=0∨∃m x q,n=m+1∧vB s p=some (x,q)∧jP s m (l++[x]) q=some (L,e):=by
 cases n with
 |zero=>exact .inl rfl
 |succ m=>obtain ⟨x,q,g1,g2⟩:=yS h;exact .inr ⟨m,x,q,rfl,g1,g2⟩
theorem B4 {s:aA} {p e:Int} {x:Term} (h:A5 s p=some (x,e)):∃q n r,vB s p=some (x.key,q)∧Ht s q 9=some (n,r)∧x.no=decide (n%2=1)∧jP s (n.toNat / 2) [] r=some (x.fw,e):=by
 unfold A5 at h
 split at h
 ·cases h
 rename_i k q g
 split at h
 ·cases h
 rename_i n r g2
 split at h
 ·cases h
 rename_i l e' g3
 simp only [osI,Prod.mk.injEq] at h
 obtain ⟨rfl,rfl⟩:=h
 exact ⟨q,n,r,g,g2,rfl,g3⟩
theorem RB {l:List aA} {x:aA} (h:l.length<1000000):((l.map aV).length+[aV x].length)*16≤140737488355328∧∀r,r∈l.map aV++[aV x]→r.length=1:=by
 refine ⟨by simp;omega,?_⟩
 intro r hr
 rcases List.mem_append.1 hr with hr|hr
 ·obtain ⟨y,_,rfl⟩:=List.mem_map.1 hr;rfl
 rw [List.mem_singleton.1 hr];rfl
theorem T4 (ht:TT t) (s:aA) {p e:Int} {k:aA} {no:Bool} {vs:List aA} {vr:List (List D)} (hs:s.length<9223372036854775000) (hp:p<9223372036854775808) (uz:vr=vs.map aV) (h:A5 s p=some (⟨k,no,vs⟩,e)):
 FC 229 [.ptr 0 0] [.var [ST s,bc p]] (.ret (.agg [ST k,BL no,SL vr])) [.var [ST s,bc e]]:=by
 obtain ⟨q,n0,r,g1,g2,g3,g4⟩:=B4 h
 simp only at g1 g3 g4
 have b1:=v8 hs g1
 have b2:=zA g2
 have b3:(n0.tmod 2=1)↔n0%2=1:=by rw [Int.tmod_eq_emod_of_nonneg (by omega)]
 have b4:IntKind.i64.wrap (n0.tdiv 2)=(n0.toNat / 2:Nat):=by rw [Int.tdiv_eq_ediv_of_nonneg (by omega),bY (by omega) (by omega)];omega
 refine bA ht (aB:=[.var [ST s,bc p]]) Tryz.func229 rfl rfl (N:=27) rfl rfl (n:=1) rfl rfl ?_
 cbv
 have jY:vr.length=vs.length:=by rw [uz,lgM]
 (refine cD [0] trv rfl rfl (Mu ht s hs (by omega) g1) (bK ?_))
 cbv
 (refine cD [0] trv rfl rfl (RA ht s hs (by ((try simp only [aa] at*);omega)) (by decide) g2) (bK ?_))
 cbv
 refine ⟨?_,?_⟩
 ·(simp only [ht,aa] at*;omega)
 refine ⟨?_,?_⟩
 ·(simp only [ht,aa] at*;omega)
 cbv
 obtain ⟨J0,ee⟩:∃J0:Nat→Int×List (List D)×Int→Prop,∀n i o a,J0 n (i,o,a)↔(∃(c:Nat) (l:List aA),i=c∧c+n=n0.toNat / 2∧o=l.map aV∧l.length=c∧0≤a∧a≤s.length∧jP s n l a=some (vs,e)):=⟨fun n v=>match v with|(i,o,a)=>(∃(c:Nat) (l:List aA),i=c∧c+n=n0.toNat / 2∧o=l.map aV∧l.length=c∧0≤a∧a≤s.length∧jP s n l a=some (vs,e)),fun _ _ _ _=>Iff.rfl⟩
 refine bg ⟨[0,2,3,15,16],[],[(2,2,1)]⟩ (σ:=Int×List (List D)×Int) (fun v=>[(16,.d (.int .i64 (t _ fun _=>v.1)))]) (fun v=>[(3,.row 1 (t _ fun _=>v.2.1)),(2,.var [AV.d (D.str k),AV.d (D.bool (t Bool fun x=>decide ((t Int fun x=>Int.tmod n0 2)=1))),.ow 3 1 (t _ fun _=>(v.2.1).length)]),(0,.var [AV.d (D.str s),.d (.int .i64 (t _ fun _=>v.2.2))])]) J0 ?_
 cbv
 refine aC ⟨n0.toNat / 2,(_,[],_),(ee _ _ _ _).2 ?_,by simp only [ht];rfl,?_⟩
 ·exact ⟨0,[],rfl,by omega,rfl,rfl,b2.2.2.1,b2.2.2.2,g4⟩
 rintro n ⟨i,o,a⟩ hj
 replace hj:=(ee _ _ _ _).1 hj
 obtain ⟨c,l,rfl,j1,rfl,j3,j4,j5,j6⟩:=hj
 have hx:=Fs j6
 cbv
 refine ai (fun h1=>?_) (fun h1=>?_)
 ·simp [ht,aa,b4] at h1
  cbv
  (obtain ⟨m,x,a2,rfl,jx,jy⟩:=hx.resolve_left (by ((try simp only [aa] at*);omega));have b5:=v8 hs jx;apply C4 [2] (.more 0 (.more 1 (.one 2 (.one 3 (.one 4 (.one 5 (.one 6 (.one 7 .done)))))) (.one 2 (.more 1 (.one 3 (.one 4 (.one 5 (.one 6 (.one 7 .done))))) (.one 3 (.more 1 (.one 4 (.one 5 (.one 6 (.one 7 .done)))) (.one 4 (.one 1 (.one 5 (.one 6 (.one 7 .done)))))))))) (.one 2 (.more 0 (.more 1 (.one 3 (.one 4 (.one 5 (.one 6 (.one 7 .done))))) (.one 3 (.more 1 (.one 4 (.one 5 (.one 6 (.one 7 .done)))) (.one 4 (.one 1 (.one 5 (.one 6 (.one 7 .done)))))))) (.one 3 (.more 0 (.more 1 (.one 4 (.one 5 (.one 6 (.one 7 .done)))) (.one 4 (.one 1 (.one 5 (.one 6 (.one 7 .done)))))) (.one 4 (.one 0 (.one 1 (.one 5 (.one 6 (.one 7 .done)))))))))));kernel_rfl;kernel_rfl;kernel_rfl;kernel_rfl;(next=>cbv;repeat (first|(refine cD [0] trv rfl rfl (Mu ht s hs (by simp only [ht];((try simp only [aa] at*);omega)) (by simp only [ht];exact jx)) (bK ?_);cbv)|refine And.intro ?_ ?_|exact rfl|(simp only [ht,true_and];exact RB (l:=l) (x:=x) (by omega))|exact True.intro)))
  cbv
  refine bu (_,_,_) (by simp only [ht,←List.length_append];rfl) m ?_ ((ee _ _ _ _).2 ?_)
  ·omega
  simp only [aa]
  exact ⟨c+1,l++[x],aE (by omega),by omega,by simp,by simp;omega,b5.1,b5.2.1,jy⟩
 simp [ht,aa,b4] at h1
 cbv
 (have hn:n=0:=(by ((try simp only [aa] at*);omega));subst hn;rw [jP] at j6;simp only [osI,Prod.mk.injEq] at j6;obtain ⟨rfl,rfl⟩:=j6;exact ak trv (by simp [ht]) rfl (by simp only [ht];rfl) rfl (by simp only [ht];subst g3 uz;simp only [b3]))
theorem T6 (ht:TT t) (s:aA) (p a:Int) (ok:Bool) (n:Nat) (es:List (List D)):Zv 227 [.ptr 0 0,.ptr 1 0,.ptr 2 0] [.var [.ow 4 3 n],.var [bc a],.var [BL ok],.var [ST s,bc p],.row 3 es] (.ret (.dA [])) [.var [.ow 4 3 n],.var [bc a],.var [BL ok],.var [ST s,bc p],.row 3 es]:=by
 refine YJ ht (aB:=[.var [.ow 4 3 n],.var [bc a],.var [BL ok],.var [ST s,bc p],.row 3 es]) Tryz.func227 rfl rfl (N:=9) rfl rfl (n:=5) rfl rfl rfl ?_
 cbv
 refine pP rfl ?_
 cbv
 exact PO trv rfl rfl
theorem yT {s:aA} {n:Nat} {l L:List Term} {p e:Int} (h:jQ s (n+1) l p=some (L,e)):∃x q,A5 s p=some (x,q)∧jQ s n (l++[x]) q=some (L,e):=by
 rw [jQ] at h
 split at h
 ·rename_i x q g;exact ⟨x,q,g,h⟩
 cases h
theorem Ft {s:aA} {n:Nat} {l L:List Term} {p e:Int} (h:jQ s n l p=some (L,e)):n=0∨∃m x q,n=m+1∧A5 s p=some (x,q)∧jQ s m (l++[x]) q=some (L,e):=by
 cases n with
 |zero=>exact .inl rfl
 |succ m=>obtain ⟨x,q,g1,g2⟩:=yT h;exact .inr ⟨m,x,q,rfl,g1,g2⟩
theorem DV {s:aA} (hs:s.length<9223372036854775000):∀{n:Nat} {l L:List aA} {p e:Int},jP s n l p=some (L,e)→0≤p→p≤s.length→0≤e∧e≤s.length
 |0,l,L,p,e,h,h1,h2=>by rw [jP] at h;simp only [osI,Prod.mk.injEq] at h;omega
 |n+1,l,L,p,e,h,h1,h2=>by
  obtain ⟨x,q,g1,g2⟩:=yS h
  have:=v8 hs g1
  exact DV hs g2 this.1 this.2.1
theorem IF {s:aA} {p e:Int} {x:Term} (hs:s.length<9223372036854775000) (h:A5 s p=some (x,e)):0≤e∧e≤s.length:=by
 obtain ⟨q,n,r,g1,g2,g3,g4⟩:=B4 h
 have b1:=v8 hs g1
 have b2:=zA g2
 exact DV hs g4 b2.2.2.1 b2.2.2.2
theorem B5 {s:aA} {p e:Int} {L:List Term} (h:Dh s p=some (L,e)):∃n q,Ht s p 4=some (n,q)∧jQ s n.toNat [] q=some (L,e)∧pe L=true:=by
 unfold Dh at h
 split at h
 ·cases h
 rename_i n q g
 split at h
 ·cases h
 rename_i l e' g2
 split at h
 ·rename_i g3
  simp only [osI,Prod.mk.injEq] at h
  obtain ⟨rfl,rfl⟩:=h
  exact ⟨n,q,g,g2,g3⟩
 cases h
theorem Ok {l:List Term} {k:aA} {no:Bool} {vr:List (List D)} (h:l.length<1000000):((l.map Term.cells).length+[[D.str k,D.bool no,D.sl vr]].length)*48≤140737488355328∧∀r,r∈l.map Term.cells++[[D.str k,D.bool no,D.sl vr]]→r.length=3:=by
 refine ⟨by simp;omega,?_⟩
 intro r hr
 rcases List.mem_append.1 hr with hr|hr
 ·obtain ⟨y,_,rfl⟩:=List.mem_map.1 hr;rfl
 rw [List.mem_singleton.1 hr];rfl
theorem WR (ht:TT t) (s:aA) {p e:Int} {L:List Term} {es:List (List D)} (hs:s.length<9223372036854775000) (hp:p<9223372036854775808) (aD:es=L.map Term.cells) (gD:∀x∈L,x.sm) (h:Dh s p=some (L,e)):
 FC 211 [ST s,bc p] [] (.ret (.dA [SL es,bc e,BL true])) []:=by
 obtain ⟨n0,q,g1,g2,g3⟩:=B5 h
 have b1:=zA g1
 refine YI ht (aB:=[]) Tryz.func211 rfl rfl (N:=33) rfl rfl (n:=0) rfl rfl rfl ?_
 cbv
 have av:es.length=L.length:=by rw [aD,lgM]
 (refine cD [3] trv rfl rfl (RA ht s hs (by omega) (by decide) g1) (bK ?_))
 cbv
 obtain ⟨J0,ee⟩:∃J0:Nat→Int×List (List D)×Int→Prop,∀n i o a,J0 n (i,o,a)↔(∃(c:Nat) (l:List Term),i=c∧c+n=n0.toNat∧o=l.map Term.cells∧l.length=c∧0≤a∧a≤s.length∧jQ s n l a=some (L,e)):=⟨fun n v=>match v with|(i,o,a)=>(∃(c:Nat) (l:List Term),i=c∧c+n=n0.toNat∧o=l.map Term.cells∧l.length=c∧0≤a∧a≤s.length∧jQ s n l a=some (L,e)),fun _ _ _ _=>Iff.rfl⟩
 refine bg ⟨[4,5,6,7,14,15],[],[(0,0,3)]⟩ (σ:=Int×List (List D)×Int) (fun v=>[(15,.d (.int .i64 (t _ fun _=>v.1)))]) (fun v=>[(4,.row 3 (t _ fun _=>v.2.1)),(0,.var [.ow 4 3 (t _ fun _=>(v.2.1).length)]),(3,.var [AV.d (D.str s),.d (.int .i64 (t _ fun _=>v.2.2))])]) J0 ?_
 cbv
 refine aC ⟨n0.toNat,(_,[],_),(ee _ _ _ _).2 ?_,by simp only [ht];rfl,?_⟩
 ·exact ⟨0,[],rfl,by omega,rfl,rfl,b1.2.2.1,b1.2.2.2,g2⟩
 rintro n ⟨i,o,a⟩ hj
 replace hj:=(ee _ _ _ _).1 hj
 obtain ⟨c,l,rfl,j1,rfl,j3,j4,j5,j6⟩:=hj
 have hx:=Ft j6
 cbv
 refine ai (fun h1=>?_) (fun h1=>?_)
 ·simp [ht,aa] at h1
  cbv
  (obtain ⟨m,⟨k,no,vs⟩,a2,rfl,jx,jy⟩:=hx.resolve_left (by ((try simp only [aa] at*);omega));have b5:=IF hs jx;obtain ⟨vr,uz⟩:∃vr,vr=vs.map aV:=⟨_,rfl⟩;apply C4 [1] (.more 0 (.one 1 (.one 2 (.one 3 (.one 4 (.one 5 .done))))) (.one 1 (.more 0 (.one 2 (.one 3 (.one 4 (.one 5 .done)))) (.one 2 (.more 0 (.one 3 (.one 4 (.one 5 .done))) (.one 3 (.one 0 (.one 4 (.one 5 .done)))))))));kernel_rfl;kernel_rfl;kernel_rfl;kernel_rfl;(next=>cbv;repeat (first|(refine cD [3] trv rfl rfl (T4 ht s hs (by simp only [ht];((try simp only [aa] at*);omega)) uz (by simp only [ht];exact jx)) (bK ?_);cbv)|refine And.intro ?_ ?_|exact rfl|(simp only [ht,true_and];exact Ok (l:=l) (k:=k) (no:=no) (vr:=vr) (by omega))|exact True.intro)))
  cbv
  refine bu (_,_,_) (by simp only [ht,←List.length_append];rfl) m ?_ ((ee _ _ _ _).2 ?_)
  ·omega
  simp only [aa]
  exact ⟨c+1,l++[⟨k,no,vs⟩],aE (by omega),by omega,by simp [Term.cells,uz],by simp;omega,b5.1,b5.2,jy⟩
 simp [ht,aa] at h1
 cbv
 (have hn:n=0:=(by ((try simp only [aa] at*);omega));subst hn;rw [jQ] at j6;simp only [osI,Prod.mk.injEq] at j6;refine ay trv (wZ ht (l:=L) (by simp only [ht];rw [j6.1]) (by rw [←j6.1];omega) gD) (by simp [ht]) rfl rfl (fun r7 gE=>?_);simp only [ht,g3] at gE)
 cbv
 refine ai (fun h2=>?_) (fun h2=>?_)
 ·simp [ht] at h2
  (rw [gE] at h2;cases h2)
 simp [ht] at h2
 cbv
 (apply C4 [1] (.more 0 (.one 1 (.more 2 (.more 3 (.more 4 (.one 5 (.one 6 (.one 7 .done))) (.one 5 (.one 4 (.one 6 (.one 7 .done))))) (.one 5 (.one 3 (.one 4 (.one 6 (.one 7 .done)))))) (.one 5 (.one 2 (.one 3 (.one 4 (.one 6 (.one 7 .done)))))))) (.one 1 (.more 0 (.more 2 (.more 3 (.more 4 (.one 5 (.one 6 (.one 7 .done))) (.one 5 (.one 4 (.one 6 (.one 7 .done))))) (.one 5 (.one 3 (.one 4 (.one 6 (.one 7 .done)))))) (.one 5 (.one 2 (.one 3 (.one 4 (.one 6 (.one 7 .done))))))) (.one 2 (.more 0 (.more 3 (.more 4 (.one 5 (.one 6 (.one 7 .done))) (.one 5 (.one 4 (.one 6 (.one 7 .done))))) (.one 5 (.one 3 (.one 4 (.one 6 (.one 7 .done)))))) (.one 3 (.more 0 (.more 4 (.one 5 (.one 6 (.one 7 .done))) (.one 5 (.one 4 (.one 6 (.one 7 .done))))) (.one 4 (.one 0 (.one 5 (.one 6 (.one 7 .done))))))))))));kernel_rfl;kernel_rfl;kernel_rfl;kernel_rfl;(next=>cbv;repeat (first|refine And.intro ?_ ?_|exact rfl)))
 cbv
 (refine JI (T6 ht _ _ _ _ _ _) ?_)
 cbv
 refine ak trv (by simp [ht]) rfl rfl rfl ?_
 (simp [*];done)
theorem fj {s:aA} {p u q:Int} (h:bE s p=⟨u,q,true⟩):0≤u∧u<18446744073709551616∧0≤q∧q≤s.length:=by
 have:=eI (s:=s) (p:=p) (by rw [h])
 rw [h] at this
 simp only at this
 omega
def gJ (s:aA):Nat→List cF→Int→Option (List cF×Int)
 |0,l,p=>some (l,p)
 |n+1,l,p=>match bE s p with
  |⟨a,p1,true⟩=>match bE s p1 with
   |⟨b,p2,true⟩=>match bE s p2 with
    |⟨c,p3,true⟩=>gJ s n (l++[⟨a,b,IntKind.i64.wrap c⟩]) p3
    |_=>none
   |_=>none
  |_=>none
def kW (s:aA) (p:Int):Option (sL×Int):=
 match bE s p with
 |⟨f,p1,true⟩=>match bE s p1 with
  |⟨n,p2,true⟩=>match gJ s n.toNat [] p2 with
   |some (l,e)=>some (⟨f,l⟩,e)
   |none=>none
  |_=>none
 |_=>none
theorem yU {s:aA} {n:Nat} {l L:List cF} {p e:Int} (h:gJ s (n+1) l p=some (L,e)):
 ∃a b c p1 p2 q,bE s p=⟨a,p1,true⟩∧bE s p1=⟨b,p2,true⟩∧bE s p2=⟨c,q,true⟩∧gJ s n (l++[⟨a,b,IntKind.i64.wrap c⟩]) q=some (L,e):=by
 rw [gJ] at h
 split at h
 ·rename_i a p1 e1
  split at h
  ·rename_i b p2 e2
   split at h
   ·rename_i c q e3
    exact ⟨a,b,c,p1,p2,q,e1,e2,e3,h⟩
   cases h
  cases h
 cases h
theorem Fu {s:aA} {n:Nat} {l L:List cF} {p e:Int} (h:gJ s n l p=some (L,e)):n=0∨∃m a b c p1 p2 q,n=m+1∧bE s p=⟨a,p1,true⟩∧bE s p1=⟨b,p2,true⟩∧bE s p2=⟨c,q,true⟩∧gJ s m (l++[⟨a,b,IntKind.i64.wrap c⟩]) q=some (L,e):=by
 cases n with
 |zero=>exact .inl rfl
 |succ m=>obtain ⟨a,b,c,p1,p2,q,g⟩:=yU h;exact .inr ⟨m,a,b,c,p1,p2,q,rfl,g⟩
theorem xD {s:aA}:∀{n:Nat} {l L:List cF} {p e:Int},gJ s n l p=some (L,e)→0≤p→p≤s.length→0≤e∧e≤s.length∧L.length=l.length+n
 |0,l,L,p,e,h,h1,h2=>by rw [gJ] at h;simp only [osI,Prod.mk.injEq] at h;obtain ⟨rfl,rfl⟩:=h;omega
 |n+1,l,L,p,e,h,h1,h2=>by
  obtain ⟨a,b,c,p1,p2,q,g1,g2,g3,g4⟩:=yU h
  have:=fj g3
  have:=xD g4 this.2.2.1 this.2.2.2
  simp only [List.length_append,List.length_singleton] at this
  omega
theorem B6 {s:aA} {p e:Int} {f:Int} {l:List cF} (h:kW s p=some (⟨f,l⟩,e)):∃n p1 p2,bE s p=⟨f,p1,true⟩∧bE s p1=⟨n,p2,true⟩∧gJ s n.toNat [] p2=some (l,e):=by
 unfold kW at h
 split at h
 ·rename_i f' p1 e1
  split at h
  ·rename_i n p2 e2
   split at h
   ·rename_i l' e' e3
    simp only [osI,Prod.mk.injEq,sL.mk.injEq] at h
    obtain ⟨⟨rfl,rfl⟩,rfl⟩:=h
    exact ⟨n,p1,p2,e1,e2,e3⟩
   cases h
  cases h
 cases h
theorem IG {s:aA} {p e:Int} {x:sL} (h:kW s p=some (x,e)):0≤e∧e≤s.length:=by
 obtain ⟨f,l⟩:=x
 obtain ⟨n,p1,p2,g1,g2,g3⟩:=B6 h
 have b:=fj g2
 have:=xD g3 b.2.2.1 b.2.2.2
 omega
theorem Ol {l:List cF} {a b c:Int} (h:l.length<1000000):((l.map cF.cells).length+[[D.int .u64 a,D.int .u64 b,D.int .i64 c]].length)*24≤140737488355328∧∀r,r∈l.map cF.cells++[[D.int .u64 a,D.int .u64 b,D.int .i64 c]]→r.length=3:=by
 refine ⟨by simp;omega,?_⟩
 intro r hr
 rcases List.mem_append.1 hr with hr|hr
 ·obtain ⟨y,_,rfl⟩:=List.mem_map.1 hr;rfl
 rw [List.mem_singleton.1 hr];rfl
theorem Mv {F:Nat→List AV→List ar→ff→List ar→Prop} {T:Nat→Option TI} {G:Nat→Option (List D)} {N:Nat} {ops:List Oper} {i:Nat} {K:St→Prop} {Q:Ex→St→Prop} {s:St} (h:tO t F T G N ops i K Q s):tO t F T G N ops i K Q s:=h
theorem Mw {k:Nat} (h:k<1000000):IntKind.u64.wrap ((k:Int)+1)=((k+1:Nat):Int):=by rw [bI];omega
theorem we (ht:TT t) (s:aA) (p q:Int):
 FC 135 [.ptr 0 0,bc q,BL true] [.var [ST s,bc p]] (.ret (.dA [])) [.var [ST s,bc q]]:=by
 refine bA ht (aB:=[.var [ST s,bc p]]) Tryz.func135 rfl rfl (N:=14) rfl rfl (n:=1) rfl rfl ?_
 cbv
 refine ai (fun h0=>?_) (fun h0=>?_)
 ·simp [ht] at h0
 simp [ht] at h0
 cbv
 refine ak trv trv rfl rfl rfl ?_
 rfl
theorem kB (ht:TT t) (s:aA) {p n q:Int} (hs:s.length<9223372036854775000) (hp:p<9223372036854775808) (h:bE s p=⟨n,q,true⟩):
 FC 133 [.ptr 0 0] [.var [ST s,bc p]] (.ret (ax n)) [.var [ST s,bc q]]:=by
 refine bA ht (aB:=[.var [ST s,bc p]]) Tryz.func133 rfl rfl (N:=24) rfl rfl (n:=1) rfl rfl ?_
 cbv
 refine bS [false,false,false,false,false,false,false,false,true,true,false,false,false,false,false,true] (by kernel_rfl) (by kernel_rfl) ?_
 cbv
 iterate 8 refine gI (by simp) ?_
 refine ay trv (fh ht _ _ ‹_› ‹_›) trv rfl rfl (fun r0 bF=>?_)
 simp only [ht] at bF
 (rw [h] at bF;subst bF)
 cbv
 iterate 5 refine gI (by simp) ?_
 (refine cD [0] trv rfl rfl (we ht s p q) (bK ?_))
 cbv
 refine ak trv trv rfl rfl rfl ?_
 rfl
theorem II (ht:TT t) (s:aA) {p e f:Int} {l:List cF} {nr:List (List D)} (hs:s.length<9223372036854775000) (hp:p<9223372036854775808) (hl:l.length<1000000) (Ww:nr=l.map cF.cells) (h:kW s p=some (⟨f,l⟩,e)):
 FC 138 [.ptr 0 0] [.var [ST s,bc p]] (.ret (.agg [ax f,SL nr])) [.var [ST s,bc e]]:=by
 obtain ⟨n0,p1,p2,g1,g2,g3⟩:=B6 h
 have b1:=fj g1
 have b2:=fj g2
 have b3:=xD g3 b2.2.2.1 b2.2.2.2
 simp only [List.length_nil,Nat.zero_add] at b3
 refine bA ht (aB:=[.var [ST s,bc p]]) Tryz.func138 rfl rfl (N:=30) rfl rfl (n:=1) rfl rfl ?_
 cbv
 have Fm:nr.length=l.length:=by rw [Ww,lgM]
 (refine cD [0] trv rfl rfl (kB ht s hs (by omega) g1) (bK ?_))
 cbv
 (refine cD [0] trv rfl rfl (kB ht s hs (by ((try simp only [aa] at*);omega)) g2) (bK ?_))
 cbv
 obtain ⟨J0,ee⟩:∃J0:Nat→Int×List (List D)×Int→Prop,∀n i o a,J0 n (i,o,a)↔(∃(c:Nat) (k:List cF),i=c∧c+n=n0.toNat∧o=k.map cF.cells∧k.length=c∧0≤a∧a≤s.length∧gJ s n k a=some (l,e)):=⟨fun n v=>match v with|(i,o,a)=>(∃(c:Nat) (k:List cF),i=c∧c+n=n0.toNat∧o=k.map cF.cells∧k.length=c∧0≤a∧a≤s.length∧gJ s n k a=some (l,e)),fun _ _ _ _=>Iff.rfl⟩
 refine bg ⟨[0,2,3,10,11],[],[(2,1,3)]⟩ (σ:=Int×List (List D)×Int) (fun v=>[(11,.d (.int .u64 (t _ fun _=>v.1)))]) (fun v=>[(3,.row 3 (t _ fun _=>v.2.1)),(2,.var [AV.d (D.int IntKind.u64 f),.ow 3 3 (t _ fun _=>(v.2.1).length)]),(0,.var [AV.d (D.str s),.d (.int .i64 (t _ fun _=>v.2.2))])]) J0 ?_
 cbv
 refine aC ⟨n0.toNat,(_,[],_),(ee _ _ _ _).2 ?_,by simp only [ht];rfl,?_⟩
 ·exact ⟨0,[],rfl,by omega,rfl,rfl,b2.2.2.1,b2.2.2.2,g3⟩
 rintro n ⟨i,o,a⟩ hj
 replace hj:=(ee _ _ _ _).1 hj
 obtain ⟨c,k,rfl,j1,rfl,j3,j4,j5,j6⟩:=hj
 have hx:=Fu j6
 cbv
 refine ai (fun h1=>?_) (fun h1=>?_)
 ·simp [ht,aa] at h1
  cbv
  ((obtain ⟨m,u1,u2,u3,q1,q2,q3,rfl,y1,y2,y3,jy⟩:=hx.resolve_left (by ((try simp only [aa] at*);omega));have d1:=fj y1;have d2:=fj y2;have d3:=fj y3;refine cD [0] trv rfl rfl (kB ht s hs (by simp only [ht];((try simp only [aa] at*);omega)) (by simp only [ht];exact y1)) (bK ?_)))
  cbv
  (refine cD [0] trv rfl rfl (kB ht s hs (by ((try simp only [aa] at*);omega)) y2) (bK ?_))
  cbv
  (apply UF (cj 12 1 [(0,0)]::cj 12 4 [(0,2)]::cj 12 8 [(0,3)]::cj 12 16 [(0,4)]::cj 12 3 [(1,1)]::cj 12 5 [(1,2),(2,0)]::cj 12 9 [(1,3),(3,0)]::cj 12 12 [(2,3),(3,2)]::cj 12 17 [(1,4),(4,0)]::cj 12 20 [(2,4),(4,2)]::cj 12 24 [(3,4),(4,3)]::cj 12 48 [(4,5)]::cj 12 7 [(5,2),(6,1)]::cj 12 11 [(5,3),(7,1)]::cj 12 13 [(6,3),(7,2),(8,0)]::cj 12 19 [(5,4),(9,1)]::cj 12 21 [(6,4),(9,2),(10,0)]::cj 12 25 [(7,4),(9,3),(11,0)]::cj 12 28 [(8,4),(10,3),(11,2)]::cj 12 49 [(9,5),(12,0)]::cj 12 52 [(10,5),(12,2)]::cj 12 56 [(11,5),(12,3)]::cj 12 112 [(12,6)]::cj 12 15 [(13,3),(14,2),(15,1)]::cj 12 23 [(13,4),(16,2),(17,1)]::cj 12 27 [(14,4),(16,3),(18,1)]::cj 12 29 [(15,4),(17,3),(18,2),(19,0)]::cj 12 51 [(16,5),(20,1)]::cj 12 53 [(17,5),(20,2),(21,0)]::cj 12 57 [(18,5),(20,3),(22,0)]::cj 12 60 [(19,5),(21,3),(22,2)]::cj 12 113 [(20,6),(23,0)]::cj 12 116 [(21,6),(23,2)]::cj 12 120 [(22,6),(23,3)]::cj 12 31 [(24,4),(25,3),(26,2),(27,1)]::cj 12 55 [(25,5),(28,2),(29,1)]::cj 12 59 [(26,5),(28,3),(30,1)]::cj 12 61 [(27,5),(29,3),(30,2),(31,0)]::cj 12 115 [(28,6),(32,1)]::cj 12 117 [(29,6),(32,2),(33,0)]::cj 12 121 [(30,6),(32,3),(34,0)]::cj 12 124 [(31,6),(33,3),(34,2)]::cj 12 63 [(35,5),(36,3),(37,2),(38,1)]::cj 12 119 [(36,6),(39,2),(40,1)]::cj 12 123 [(37,6),(39,3),(41,1)]::cj 12 125 [(38,6),(40,3),(41,2),(42,0)]::cj 12 252 [(42,7)]::cj 12 127 [(43,6),(44,3),(45,2),(46,1)]::cj 12 253 [(46,7),(47,0)]::cj 12 508 [(47,8)]::cj 12 255 [(48,7),(49,1)]::cj 12 509 [(49,8),(50,0)]::cj 12 511 [(51,8),(52,1)]::cj 12 1023 [(53,9)]::cj 12 2047 [(54,10)]::cj 12 4095 [(55,11)]::[]) (_::_::_::_::_::_::_::_::_::_::_::_::_::_::_::_::_::_::_::_::_::_::_::_::_::_::_::_::_::_::_::_::_::_::_::_::_::_::_::_::_::_::_::_::_::_::_::_::_::_::_::_::_::_::_::_::_::[]);kernel_rfl;(next=>refine Vt.mk rfl ?_;repeat (first|((with_reducible apply AK.cons);exact rfl)|(with_reducible exact AK.nil)|((with_reducible apply Mv);focus (cbv;first|done|(refine cD [0] trv rfl rfl (kB ht s hs (by ((try simp only [aa] at*);omega)) y3) (bK ?_);cbv;done)|(refine And.intro ?_ ?_;(next=>(simp only [ht,true_and];exact Ol (l:=k) (by omega)));exact rfl)))|(apply vg.cons;exact rfl)|exact vg.nil));(next=>exact rfl))
  cbv
  refine bu (_,_,_) (by simp only [ht,←List.length_append];rfl) m ?_ ((ee _ _ _ _).2 ?_)
  ·omega
  simp only [aa]
  exact ⟨c+1,k++[⟨u1,u2,IntKind.i64.wrap u3⟩],Mw (by omega),by omega,by simp [cF.cells],by simp;omega,d3.2.2.1,d3.2.2.2,jy⟩
 simp [ht,aa] at h1
 cbv
 (have hn:n=0:=(by ((try simp only [aa] at*);omega));subst hn;rw [gJ] at j6;simp only [osI,Prod.mk.injEq] at j6;obtain ⟨rfl,rfl⟩:=j6;exact ak trv (by simp [ht]) rfl (by simp only [ht];rfl) rfl (by simp only [ht];subst Ww;rfl))
end Dem
end
