/- Parts of a proof, joined. -/
import Derived.Test.YtjnbpclolnmimaaGreatDoorJ24
import Derived.Test.YtjnbpclolnmimaaGreatDoorJ27
set_option linter.unusedSimpArgs false
set_option linter.unusedVariables false
set_option maxRecDepth 100000
set_option maxHeartbeats 4000000
section
open Go
namespace Dem
structure gw where
 kind:Nat
 a:Nat
 b:Nat
 c:Nat
 d:Nat
structure gw.u (x:gw):Prop where
 kind:x.kind<256
 a:x.a<256
 b:x.b<256
 c:x.c<256
 d:x.d<256
def gw.cells (x:gw):List D:=[.int .u8 x.kind,.int .u8 x.a,.int .u8 x.b,.int .u8 x.c,.int .u8 x.d]
def Cf:List aD:=[[97],[97,47,98],[98],[206,177,206,178]]
def Cg (x:gw):Ask:=⟨Cf.getD (x.a%4) [],⟨(x.b%5:Nat),(x.b / 5%5:Nat),0,(x.b / 25%3:Nat)⟩,(1+x.c%3:Nat),(x.c / 3%4:Nat),(1+x.d%5:Nat),if 200<x.d then [⟨T4,decide (x.d%2=1),[[97]]⟩] else []⟩
def jK (x:gw) (s:cH):cH:=
 if x.kind%8≤2 then (eA s (Cg x)).1 else
 if x.kind%8≤4 then (if (fit (yf s.aW) (eH s.aI (x.a%12:Nat)).1.x.b9 (eH s.aI (x.a%12:Nat)).1.x.fQ (eH s.aI (x.a%12:Nat)).1.x.count).2 then
  (cw s (x.a%12:Nat) (fit (yf s.aW) (eH s.aI (x.a%12:Nat)).1.x.b9 (eH s.aI (x.a%12:Nat)).1.x.fQ (eH s.aI (x.a%12:Nat)).1.x.count).1).1 else s) else
 if x.kind%8=5 then (jJ s (x.a%12:Nat) 5).1 else
 if x.kind%8=6 then (send s (x.a%12:Nat) 4).1 else
 (cw s (x.a%12:Nat) (kw.take (x.b%4))).1
def bQ (n:Nat) (l:List gw) (k:Nat):cH:=(l.take k).foldl (fun s x=>jK x s) (kU n)
theorem nJ {n:Nat} {l:List gw} {k:Nat} {x:gw} (h:l[k]?=some x):bQ n l (k+1)=jK x (bQ n l k):=by
 unfold bQ;rw [eU h,List.foldl_append];rfl
def qx (m:Nat):List aR:=[⟨[],⟨30,30,30,30⟩,bz.zero⟩,⟨[97],⟨(6+m:Nat),20,20,20⟩,bz.zero⟩,⟨[97,47,98],⟨(10+m:Nat),20,20,20⟩,bz.zero⟩,⟨[98],⟨(14+m:Nat),20,20,20⟩,bz.zero⟩]
theorem MY:∀m<5,rX m 3=qx m:=by decide+kernel
theorem Oj {m:Nat} (hm:m<5):Tree.ok (qx m)∧∀e∈qx m,e.used=bz.zero:=by
 have hz:∀e∈qx m,e.used=bz.zero:=by
  intro e he;simp only [qx,List.mem_cons,List.not_mem_nil,or_false] at he
  rcases he with rfl|rfl|rfl|rfl<;>rfl
 have hp:(qx m).map (·.path)=[[],[97],[97,47,98],[98]]:=rfl
 refine ⟨⟨⟨_,_,rfl,rfl⟩,by simp [qx],?_,?_,?_,?_,?_⟩,hz⟩
 ·have:(((qx m).map (·.path)).Pairwise (·<·)):=by rw [hp];decide
  exact List.pairwise_map.1 this
 ·intro e he
  have:e.path∈(qx m).map (·.path):=List.mem_map_of_mem he
  rw [hp] at this
  have hn:∀p∈([[],[97],[97,47,98],[98]]:List aD),named p=true:=by decide+kernel
  exact hn _ this
 ·intro e he
  have h1:e.path∈(qx m).map (·.path):=List.mem_map_of_mem he
  have hn:∀p∈([[],[97],[97,47,98],[98]]:List aD),parent p∈([[],[97],[97,47,98],[98]]:List aD):=by decide+kernel
  rw [hp] at h1
  have h2:=hn _ h1
  rw [←hp] at h2
  obtain ⟨f,hf,g⟩:=List.mem_map.1 h2
  exact ⟨f,hf,g⟩
 ·intro e he k _;rw [hz e he,sY];omega
 intro e he
 refine ⟨?_,by rw [hz e he];exact KQ⟩
 simp only [qx,List.mem_cons,List.not_mem_nil,or_false] at he
 rcases he with rfl|rfl|rfl|rfl<;>(intro k hk;unfold bz.at_;split<;>simp only<;>omega)
theorem ZF (i:Nat) (hi:i<3):(⟨(4+2*i:Nat),9,9,9⟩:bz).w:=by intro k hk;unfold bz.at_;split<;>simp only<;>omega
theorem MZ (n:Nat):∀i≤3,(eS n i).ok∧(eS n i).w
 |0,_=>⟨T6,W3⟩
 |i+1,h=>by
  obtain ⟨a,b⟩:=MZ n i (by omega)
  unfold eS
  split
  ·exact W2 a b (ZF i (by omega))
  exact ⟨a,b⟩
theorem IU (p:cO) (n:Node):(rO p n).1.places=p.places:=by
 rcases uG p n with ⟨e,_⟩|⟨_,_,_,e⟩
 ·rw [e]
 rw [e]
theorem rY (n:Nat):∀i,(eS n i).places=[]
 |0=>rfl
 |i+1=>by
  unfold eS;split
  ·rw [IU,rY n i]
  exact rY n i
theorem Ci (n:Nat):(kU n).ok:=by
 have hm:n%5<5:=Nat.mod_lt _ (by decide)
 obtain ⟨t1,t2⟩:=Oj hm
 obtain ⟨p1,p2⟩:=MZ n 3 (Nat.le_refl _)
 unfold kU
 rw [MY _ hm]
 exact {
  aW:=p1,rW:=p2,tree:=t1
  used:=fun e he k _=>by simp only at he;rw [t2 e he,sY];rfl
  most:=by simp
  next:=by simp
  ids:=List.Pairwise.nil
  IP:=fun j hj=>by cases hj
  CN:=fun j hj=>by cases hj
  left:=fun j hj=>by cases hj
  wG:=List.Pairwise.nil
  qH:=List.Pairwise.nil
  qJ:=fun q=>by simp
  places:=fun x hx=>by simp only at hx;rw [rY] at hx;cases hx
  count:=fun j hj=>by cases hj
  notes:=by simp}
theorem RB (x:gw):(Cg x).fQ.w:=by intro k hk;unfold Cg bz.at_;split<;>simp only<;>omega
theorem cH.ok.done {s:cH} (h:s.ok) (x:gw):(jK x s).ok:=by
 unfold jK
 split
 ·exact h.eA (RB x)
 split
 ·split
  ·exact h.Ce _ _
  exact h
 split
 ·exact h.stop _ _
 split
 ·exact h.end_ _ _
 exact h.Ce _ _
theorem tc (n:Nat) (l:List gw) (k:Nat):(bQ n l k).ok:=by
 unfold bQ
 exact x9 (P:=cH.ok) (fun a b h=>h.done b) _ _ (Ci n)
end Dem
end
section
open Go Dem Go.Proofs
namespace Dem
variable {t:Th}
theorem US (ht:TT t) (a0 a1 a2 a3 b0 b1 b2 b3:Int):FC 147 [V4 a0 a1 a2 a3,V4 b0 b1 b2 b3] [] (.ret (TP (t _ fun _=>gu ⟨a0,a1,a2,a3⟩ ⟨b0,b1,b2,b3⟩))) []:=by
 simp only [ht];exact Fu ht _ _ _ _ _ _ _ _ rfl
theorem tm8 (a:Nat):(a:Int).tmod 8=((a%8:Nat):Int):=by rw [Int.tmod_eq_emod_of_nonneg (by omega)];rfl
theorem acw (a:Nat):(a:Int).tmod 12=((a%12:Nat):Int):=by rw [Int.tmod_eq_emod_of_nonneg (by omega)];rfl
theorem tm4 (a:Nat):(a:Int).tmod 4=((a%4:Nat):Int):=by rw [Int.tmod_eq_emod_of_nonneg (by omega)];rfl
theorem tm3 (a:Nat):(a:Int).tmod 3=((a%3:Nat):Int):=by rw [Int.tmod_eq_emod_of_nonneg (by omega)];rfl
theorem tm2 (a:Nat):(a:Int).tmod 2=((a%2:Nat):Int):=by rw [Int.tmod_eq_emod_of_nonneg (by omega)];rfl
theorem td5 (a:Nat):(a:Int).tdiv 5=((a / 5:Nat):Int):=by rw [Int.tdiv_eq_ediv_of_nonneg (by omega)];rfl
theorem acy (a:Nat):(a:Int).tdiv 25=((a / 25:Nat):Int):=by rw [Int.tdiv_eq_ediv_of_nonneg (by omega)];rfl
theorem td3 (a:Nat):(a:Int).tdiv 3=((a / 3:Nat):Int):=by rw [Int.tdiv_eq_ediv_of_nonneg (by omega)];rfl
theorem wu8 (a:Nat) (h:a<256):IntKind.u8.wrap (a:Int)=(a:Int):=by simp only [IntKind.wrap];simp [IntKind.bits,IntKind.signed];omega
theorem U7 (a:Nat) (h:a<256):IntKind.u64.wrap (a:Int)=(a:Int):=by simp only [IntKind.wrap];simp [IntKind.bits,IntKind.signed];omega
theorem O1 (a:Nat) (h:a<1000000000):IntKind.i64.wrap (a:Int)=(a:Int):=wrap64 (by omega) (by omega)
def acA (t:Th) (x:Ask):AV:=.agg [ST x.path,az x.fQ.a,az x.fQ.b,az x.fQ.c,az x.fQ.d,bq x.count,bq x.prio,bq x.dS,SL (t _ fun _=>x.b9.map Term.cells)]
abbrev U8 (x:Int):AV:=.d (.int .u8 x)
def F4:List (List D):=[[D.str [97]],[D.str [97,47,98]],[D.str [98]],[D.str [206,177,206,178]]]
theorem Sm (k:Nat):(0≤((k%4:Nat):Int))∧((k%4:Nat):Int)<F4.length∧∀r,r∈F4→r.length=1:=by
 refine ⟨by omega,?_,by decide+revert⟩
 show ((k%4:Nat):Int)<(4:Nat)
 omega
theorem Sn (k:Nat):F4.getD ((k%4:Nat):Int).toNat []=[D.str (Cf.getD (k%4) [])]:=by
 have:∀k<4,F4.getD ((k:Nat):Int).toNat []=[D.str (Cf.getD k [])]
  |0,_=>rfl
  |1,_=>rfl
  |2,_=>rfl
  |3,_=>rfl
  |k+4,h=>by omega
 exact this _ (Nat.mod_lt _ (by decide))
theorem F5 (ht:TT t) (k a b c d:Int) (x:gw) (hx:x.u) (hk:k=x.kind) (ha:a=x.a) (hb:b=x.b) (hc:c=x.c) (hd:d=x.d):
 FC 36 [.agg [U8 k,U8 a,U8 b,U8 c,U8 d]] [] (.ret (acA t (t _ fun _=>Cg x))) []:=by
 obtain ⟨u1,u2,u3,u4,u5⟩:=hx
 obtain ⟨nm,hnm⟩:∃nm,nm=Cf.getD (x.a%4) []:=⟨_,rfl⟩
 have w1:IntKind.u64.wrap (b.tmod 5)=((x.b%5:Nat):Int):=by rw [hb,Yp,U7 _ (by omega)]
 have w2:IntKind.u64.wrap ((IntKind.u8.wrap (b.tdiv 5)).tmod 5)=((x.b / 5%5:Nat):Int):=by rw [hb,td5,wu8 _ (by omega),Yp,U7 _ (by omega)]
 have w3:IntKind.u64.wrap ((IntKind.u8.wrap (b.tdiv 25)).tmod 3)=((x.b / 25%3:Nat):Int):=by rw [hb,acy,wu8 _ (by omega),tm3,U7 _ (by omega)]
 have w4:IntKind.i64.wrap (1+IntKind.i64.wrap (c.tmod 3))=((1+x.c%3:Nat):Int):=by rw [hc,tm3,O1 _ (by omega),show (1:Int)+((x.c%3:Nat):Int)=((1+x.c%3:Nat):Int) by omega,O1 _ (by omega)]
 have w5:IntKind.i64.wrap ((IntKind.u8.wrap (c.tdiv 3)).tmod 4)=((x.c / 3%4:Nat):Int):=by rw [hc,td3,wu8 _ (by omega),tm4,O1 _ (by omega)]
 have w6:IntKind.i64.wrap (1+IntKind.i64.wrap (d.tmod 5))=((1+x.d%5:Nat):Int):=by rw [hd,Yp,O1 _ (by omega),show (1:Int)+((x.d%5:Nat):Int)=((1+x.d%5:Nat):Int) by omega,O1 _ (by omega)]
 have w7:decide (d.tmod 2=1)=decide (x.d%2=1):=by rw [decide_eq_decide,hd,tm2];omega
 refine bC ht (aE:=[]) Tryz.func36 (c:=_) rfl rfl (N:=53) rfl (rs:=_) rfl (n:=0) rfl rfl ?_
 cbv
 refine bJ [false,false,false,false,false,false,false,false,false,false,false,false,false,false,false,false,false,false,false,false,false,false,false,false,false,false,false,false,false,false,false,false,false,false,false,false,false,false,true] (by kernel_rfl) (by kernel_rfl) ?_
 cbv
 iterate 3 refine gI (by simp) ?_
 refine gI (by simp [ht]) ?_
 (refine gS [.str nm] (by simp only [ht,ha,tm4];exact Sm x.a) (by simp only [ht,ha,tm4];rw [hnm];exact Sn x.a) ?_)
 cbv
 iterate 3 refine gI (by simp) ?_
 refine gI (by simp [ht]) ?_
 iterate 3 refine gI (by simp) ?_
 iterate 2 refine gI (by simp [ht]) ?_
 iterate 3 refine gI (by simp) ?_
 iterate 2 refine gI (by simp [ht]) ?_
 iterate 4 refine gI (by simp) ?_
 refine gI (by simp [ht]) ?_
 iterate 4 refine gI (by simp) ?_
 iterate 2 refine gI (by simp [ht]) ?_
 iterate 3 refine gI (by simp) ?_
 refine gI (by simp [ht]) ?_
 iterate 3 refine gI (by simp) ?_
 refine ai (fun h0=>?_) (fun h0=>?_)
 ·simp [ht] at h0
  cbv
  refine ⟨?_,?_⟩
  ·(simp only [ht,aa] at*;omega)
  cbv
  refine an trivial trivial rfl rfl rfl ?_
  (simp only [ht,w1,w2,w3,w4,w5,w6,w7,hnm,Cg];rw [if_pos (show 200<x.d by ((try simp only [aa] at*);omega))];rfl)
 simp [ht] at h0
 cbv
 refine an trivial trivial rfl rfl rfl ?_
 (simp only [ht,w1,w2,w3,w4,w5,w6,hnm,Cg];rw [if_neg (show ¬200<x.d by ((try simp only [aa] at*);omega))];rfl)
end Dem
end
section
open Go Go.Proofs Go.ChangeShapes Go.WideShapes Go.RowKit
namespace Dem
section
variable {H:Type} {enc:TypeId×Value→H} {W:World} {v:Value} {d:DataW H} {p:List MemPlace} {base:Nat}
theorem wf_u8 {n:Int} (h:(Lit.int .u8 n).wf=true):∃k:Nat,n=k∧k<256:=by
 simp only [Lit.wf,Bool.and_eq_true,IntKind.min,IntKind.max,IntKind.signed,IntKind.bits] at h
 simp at h
 exact ⟨n.toNat,by omega,by omega⟩
theorem Vc {r:List D} (h:cG [.int .u8,.int .u8,.int .u8,.int .u8,.int .u8] r):∃x:gw,r=x.cells∧x.u:=by
 simp only [cG,rm] at h
 obtain ⟨_,_,rfl,⟨n0,rfl,h0⟩,_,_,rfl,⟨n1,rfl,h1⟩,_,_,rfl,⟨n2,rfl,h2⟩,_,_,rfl,⟨n3,rfl,h3⟩,_,_,rfl,⟨n4,rfl,h4⟩,rfl⟩:=h
 obtain ⟨k0,rfl,g0⟩:=wf_u8 h0
 obtain ⟨k1,rfl,g1⟩:=wf_u8 h1
 obtain ⟨k2,rfl,g2⟩:=wf_u8 h2
 obtain ⟨k3,rfl,g3⟩:=wf_u8 h3
 obtain ⟨k4,rfl,g4⟩:=wf_u8 h4
 exact ⟨⟨k0,k1,k2,k3,k4⟩,rfl,⟨g0,g1,g2,g3,g4⟩⟩
theorem yz (hval:Value.okWide Tryz.prog W .any base 33 v) (h:DataW.Trod enc Tryz.prog W 0 (fun _=>true) true 33 v d p):
 ∃l:List gw,ah (fun _=>0) [] W (okW W) (SL (l.map gw.cells)) v∧(∀x∈l,x.u)∧l.length≤maxLen:=by
 obtain ⟨fuel,hf⟩:=h
 obtain ⟨a,len,cap,rfl⟩:=okWide_slice (show Tryz.prog.underlying 33=some (.slice 45) by kernel_rfl) hval
 obtain ⟨h1,h2⟩:=oB (KT W) 8 fuel 33 [.slice a len cap] (d,p) [.sl [.int .u8,.int .u8,.int .u8,.int .u8,.int .u8]] hf (by kernel_rfl)
 simp only [cG,rm] at h2
 obtain ⟨_,_,e,⟨es,rfl,hl,hr⟩,rfl⟩:=h2
 rw [e] at h1
 simp only [cq] at h1
 obtain ⟨u,r,e2,h3,rfl⟩:=h1
 cases e2
 obtain ⟨l,rfl,oe⟩:=Ab (cells:=gw.cells) (Q:=gw.u) es (fun r hm=>Vc (hr r hm))
 exact ⟨l,by simpa only [ah] using h3,oe,by simpa using hl⟩
theorem wS (hval:Value.okWide Tryz.prog W .any base 5 v) (h:DataW.Trod enc Tryz.prog W 0 (fun _=>true) true 5 v d p):
 ∃k:Nat,ah (fun _=>0) [] W (okW W) (.d (.int .u8 (k:Int))) v∧k<256:=by
 obtain ⟨n,rfl,_,_,hw⟩:=open_int (show Tryz.prog.underlying 5=some (.int .u8) by kernel_rfl) hval h
 obtain ⟨k,rfl,hk⟩:=wf_u8 hw
 exact ⟨k,by simp only [ah,aK],hk⟩
end
end Dem
end
section
open Go
namespace Dem
theorem Ng {l:List Jb} (ha:rV l) {i:Nat} {j:Jb} (hj:l[i]?=some j):l.findIdx? (fun x=>decide (x.id=j.id))=some i∧l.getD i Jb.zero=j∧eH l j.id=(j,true):=by
 have h1:l.findIdx? (fun x=>decide (x.id=j.id))=some i:=by
  cases h:l.findIdx? (fun x=>decide (x.id=j.id)) with
  |none=>rw [List.findIdx?_eq_none_iff] at h;have:=h j (List.mem_of_getElem? hj);simp at this
  |some k=>
   obtain ⟨y,a,b,_⟩:=uO h
   rw [FL ha a hj b]
 refine ⟨h1,by rw [List.getD_eq_getElem?_getD,hj];rfl,?_⟩
 unfold eH
 cases h:l.find? (fun x=>decide (x.id=j.id)) with
 |none=>rw [List.find?_eq_none] at h;have:=h j (List.mem_of_getElem? hj);simp at this
 |some y=>
  have e:=List.find?_some h
  simp only [decide_eq_true_eq] at e
  simp only
  rw [kT ha (List.mem_of_find?_eq_some h) (List.mem_of_getElem? hj) e]
abbrev Jb.begun (j:Jb):Jb:={j with runs:=true,left:=j.x.dS}
abbrev Jb.halted (j:Jb):Jb:={j with runs:=false,left:=0}
theorem yA {s:cH} (h:s.ok) {id:Int} {names:List aD} (e:(cw s id names).2=0):
 ∃(i:Nat) (j:Jb) (T:List aR),s.aI[i]?=some j∧j.id=id∧j.runs=false∧(names.length:Int)=j.x.count∧dJ s.tree T∧
  (cw s id names).1=fO ⟨s.round,s.next,⟨s.aW.nodes,s.aW.places++names.map (fun n=>⟨id,n,j.x.fQ⟩)⟩,T,s.aI.set i j.begun,s.queue.filter (fun q=>!decide (q.id=id)),s.ev,s.au⟩ id 2:=by
 unfold cw at e ⊢
 cases hf:s.aI.findIdx? (fun j=>decide (j.id=id)) with
 |none=>rw [hf] at e;cases e
 |some i=>
  obtain ⟨j,hj,hid,c⟩:=uO hf
  rw [hf] at e
  simp only at e ⊢
  rw [c] at e ⊢
  unfold j9 at e ⊢
  by_cases h1:j.runs=true
  ·rw [if_pos h1] at e;cases e
  rw [if_neg h1] at e ⊢
  by_cases h2:(names.length:Int)≠j.x.count
  ·rw [if_pos h2] at e;cases e
  rw [if_neg h2] at e ⊢
  by_cases h3:(!(cW j.x).2)=true
  ·rw [if_pos h3] at e;cases e
  rw [if_neg h3] at e ⊢
  by_cases h4:(iv s.tree j.x.path (cW j.x).1).2≠0
  ·rw [if_pos h4] at e;exact absurd e h4
  rw [if_neg h4] at e ⊢
  simp only [Decidable.not_not] at h2 h4
  rcases B9 s.aW id names j.x.fQ with ⟨_,e2⟩|⟨e2,_⟩
  ·rw [if_pos e2] at e;exact absurd e e2
  rw [if_neg (by rw [e2];simp)]
  refine ⟨i,j,_,hj,hid,by simpa using h1,h2,(Ed h h4).2.1,?_⟩
  rw [mb h.qH,e2];rfl
theorem Jo {s:cH} (h:s.ok) {i:Nat} {j:Jb} (hj:s.aI[i]?=some j) (hr:j.runs=true) (kind:Int):
 ∃T Q,dJ s.tree T∧jJ s j.id kind=(fO ⟨s.round,s.next,lC s.aW j.id,T,s.aI.set i j.halted,Q,s.ev,s.au⟩ j.id kind,0):=by
 obtain ⟨h1,h2,_⟩:=Ng h.ids hj
 refine ⟨_,(jI s.queue ⟨j.id,j.x.prio⟩).1,(oM h hj hr).2.2.1,?_⟩
 unfold jJ
 rw [h1]
 simp only
 rw [h2,if_neg (by simp [hr]),h.jw hj hr]
 simp [D1]
theorem F7 {s:cH} (h:s.ok) {i:Nat} {j:Jb} (hj:s.aI[i]?=some j) (kind:Int):
 (send s j.id kind).2=0∧(j.runs=false→send s j.id kind=(fO ⟨s.round,s.next,s.aW,s.tree,s.aI.eraseIdx i,s.queue.filter (fun q=>!decide (q.id=j.id)),s.ev,s.au⟩ j.id kind,0))∧
 (j.runs=true→∃T,dJ s.tree T∧send s j.id kind=(fO ⟨s.round,s.next,lC s.aW j.id,T,s.aI.eraseIdx i,s.queue,s.ev,s.au⟩ j.id kind,0)):=by
 obtain ⟨h1,h2,_⟩:=Ng h.ids hj
 unfold send
 rw [h1]
 simp only
 rw [h2]
 refine ⟨trivial,fun hr=>?_,fun hr=>?_⟩
 ·rw [hr,if_neg (by simp),mb h.qH]
 refine ⟨_,(oM h hj hr).2.2.1,?_⟩
 rw [if_pos hr,h.jw hj hr]
theorem O8 {s:cH} {x:Ask} (e:(eA s x).2.2≠0):(eA s x).1=s∧(eA s x).2.1=0∧(cR x=0∨(eA s x).2.2=cR x):=by
 unfold eA at e ⊢
 by_cases h1:cR x≠0
 ·rw [if_pos h1];exact ⟨rfl,rfl,.inr rfl⟩
 rw [if_neg h1] at e ⊢
 simp only [Decidable.not_not] at h1
 by_cases h2:(!gV s.tree x.path)=true
 ·rw [if_pos h2];exact ⟨rfl,rfl,.inl h1⟩
 rw [if_neg h2] at e ⊢
 by_cases h3:32≤s.aI.length∨s.next=18446744073709551615
 ·rw [if_pos h3];exact ⟨rfl,rfl,.inl h1⟩
 rw [if_neg h3] at e ⊢
 by_cases h4:(jI s.queue ⟨s.next,x.prio⟩).2≠0
 ·rw [if_pos h4];exact ⟨rfl,rfl,.inl h1⟩
 rw [if_neg h4] at e;exact absurd rfl e
structure cH.dc (A:Ask→Prop) (s:cH):Prop where
 names:∀n∈s.aW.nodes,n.sm
 paths:∀e∈s.tree,e.path.length<1000
 xs:∀j∈s.aI,A j.x
structure m6 (s t:cH):Prop where
 nodes:t.aW.nodes=s.aW.nodes
 paths:∀e∈t.tree,∃f∈s.tree,e.path=f.path
 xs:∀j∈t.aI,∃k∈s.aI,j.x=k.x
theorem m6.refl (s:cH):m6 s s:=⟨rfl,fun e h=>⟨e,h,rfl⟩,fun j h=>⟨j,h,rfl⟩⟩
theorem m6.dc {A:Ask→Prop} {s t:cH} (h:m6 s t) (l:s.dc A):t.dc A:=by
 refine ⟨by rw [h.nodes];exact l.names,fun e he=>?_,fun j hj=>?_⟩
 ·obtain ⟨f,hf,e1⟩:=h.paths e he;rw [e1];exact l.paths f hf
 obtain ⟨k,hk,e1⟩:=h.xs j hj;rw [e1];exact l.xs k hk
theorem Sy {l:List Jb} {k:Nat} {j y:Jb} (hk:l[k]?=some y) (hx:j.x=y.x):∀z∈l.set k j,∃w∈l,z.x=w.x:=by
 intro z hz
 rcases List.mem_or_eq_of_mem_set hz with h|rfl
 ·exact ⟨z,h,rfl⟩
 exact ⟨y,List.mem_of_getElem? hk,hx⟩
theorem Cx {t u:List aR} (h:dJ t u):∀e∈u,∃f∈t,e.path=f.path:=fun e he=>by
 obtain ⟨f,hf,h1,_⟩:=h.back he
 exact ⟨f,hf,h1⟩
theorem Ev {s:cH} {id:Int} {names:List aD} (e:(cw s id names).2≠0):(cw s id names).1=s:=by
 unfold cw at e ⊢
 split
 ·rfl
 rename_i k hk
 rw [hk] at e
 simp only at e
 unfold j9 at e ⊢
 by_cases h1:(s.aI.getD k Jb.zero).runs=true
 ·rw [if_pos h1]
 rw [if_neg h1] at e ⊢
 by_cases h2:(names.length:Int)≠(s.aI.getD k Jb.zero).x.count
 ·rw [if_pos h2]
 rw [if_neg h2] at e ⊢
 by_cases h3:(!(cW (s.aI.getD k Jb.zero).x).2)=true
 ·rw [if_pos h3]
 rw [if_neg h3] at e ⊢
 split
 ·rfl
 rename_i h4
 rw [if_neg h4] at e
 split
 ·rfl
 rename_i h5
 rw [if_neg h5] at e
 exact absurd rfl e
theorem sn {s:cH} (h:s.ok) (id:Int) (names:List aD):m6 s (cw s id names).1:=by
 by_cases e:(cw s id names).2=0
 ·obtain ⟨i,j,T,h1,h2,h3,h4,h5,h6⟩:=yA h e
  rw [h6]
  exact ⟨rfl,Cx h5,Sy h1 rfl⟩
 rw [Ev e];exact m6.refl s
theorem Cy {s:cH} (h:s.ok) (id kind:Int):m6 s (jJ s id kind).1:=by
 cases hf:s.aI.findIdx? (fun j=>decide (j.id=id)) with
 |none=>unfold jJ;rw [hf];exact m6.refl s
 |some i=>
  obtain ⟨j,hj,rfl,c⟩:=uO hf
  by_cases hr:j.runs=true
  ·obtain ⟨T,Q,h1,h2⟩:=Jo h hj hr kind
   rw [h2]
   exact ⟨rfl,Cx h1,Sy hj rfl⟩
  unfold jJ;rw [hf];simp only;rw [c,if_pos (by simpa using hr)];exact m6.refl s
theorem yB {s:cH} (h:s.ok) (id kind:Int):m6 s (send s id kind).1:=by
 cases hf:s.aI.findIdx? (fun j=>decide (j.id=id)) with
 |none=>unfold send;rw [hf];exact m6.refl s
 |some i=>
  obtain ⟨j,hj,rfl,c⟩:=uO hf
  obtain ⟨h1,h2,h3⟩:=F7 h hj kind
  have hx:∀z∈s.aI.eraseIdx i,∃w∈s.aI,z.x=w.x:=fun z hz=>⟨z,List.mem_of_mem_eraseIdx hz,rfl⟩
  by_cases hr:j.runs=true
  ·obtain ⟨T,h4,h5⟩:=h3 hr
   rw [h5]
   exact ⟨rfl,Cx h4,hx⟩
  rw [h2 (by simpa using hr)]
  exact ⟨rfl,fun e he=>⟨e,he,rfl⟩,hx⟩
theorem LL {A:Ask→Prop} {s:cH} (l:s.dc A) {x:Ask} (hx:A x):(eA s x).1.dc A:=by
 by_cases e:(eA s x).2.2=0
 ·unfold eA at e ⊢
  split
  ·exact l
  split
  ·exact l
  split
  ·exact l
  split
  ·exact l
  refine ⟨l.names,l.paths,fun j hj=>?_⟩
  rcases List.mem_append.1 hj with h|h
  ·exact l.xs j h
  rw [List.mem_singleton.1 h];exact hx
 rw [(O8 e).1];exact l
theorem Sz {A:Ask→Prop} (hA:∀x,A (Cg x)) {s:cH} (h:s.ok) (l:s.dc A) (x:gw):(jK x s).dc A:=by
 unfold jK
 split
 ·exact LL l (hA x)
 split
 ·split
  ·exact (sn h _ _).dc l
  exact l
 split
 ·exact (Cy h _ _).dc l
 split
 ·exact (yB h _ _).dc l
 exact (sn h _ _).dc l
structure zJ (x:Ask):Prop where
 path:x.path.length≤4
 fQ:x.fQ.w
 b9:x.b9.length≤1
 key:∀m∈x.b9,m.key.length≤4∧m.fW.length≤1∧∀v∈m.fW,v.length≤1
theorem qc (x:gw):zJ (Cg x):=by
 refine ⟨?_,RB x,?_,?_⟩
 ·unfold Cg
  simp only
  have:∀k<4,(Cf.getD k []).length≤4:=by decide
  exact this _ (Nat.mod_lt _ (by decide))
 ·unfold Cg;simp only;split<;>simp
 unfold Cg;simp only;split
 ·intro m hm
  rw [List.mem_singleton.1 hm]
  exact ⟨by show T4.length≤4;decide,by simp,by simp⟩
 intro m hm;cases hm
theorem LM {p:cO} (h:∀n∈p.nodes,n.sm) {y:Node} (hy:y.sm):∀n∈(rO p y).1.nodes,n.sm:=by
 rcases uG p y with ⟨e,_⟩|⟨_,_,_,e⟩
 ·rw [e];exact h
 rw [e]
 intro n hn
 rcases List.mem_append.1 hn with h1|h1
 ·exact h n (List.mem_of_mem_take h1)
 rcases List.mem_cons.1 h1 with rfl|h1
 ·exact hy
 exact h n (List.mem_of_mem_drop h1)
theorem Jr (i:Nat):(⟨kw.getD i [],⟨(4+2*i:Nat),9,9,9⟩,Ch i,false⟩:Node).sm:=by
 have h1:∀i,(kw.getD i []).length≤2
  |0=>by decide
  |1=>by decide
  |2=>by decide
  |i+3=>by simp [kw]
 have h2:∀i,(Ch i).length≤1∧∀q∈Ch i,q.sm:=by
  intro i
  unfold Ch
  split
  ·refine ⟨by simp,fun q hq=>?_⟩
   rw [List.mem_singleton.1 hq]
   have h3:∀i,(([[97],[98]]:List aD).getD i []).length≤1
    |0=>by decide
    |1=>by decide
    |i+2=>by simp
   have:=h3 i
   exact ⟨by show T4.length<_;decide,by simp only;omega⟩
  exact ⟨by simp,fun q hq=>by cases hq⟩
 exact ⟨by have:=h1 i;simp only;omega,by have:=(h2 i).1;simp only;omega,(h2 i).2⟩
theorem uS (n:Nat):∀i,∀x∈(eS n i).nodes,x.sm
 |0=>fun x hx=>by cases hx
 |i+1=>by
  unfold eS
  split
  ·exact LM (uS n i) (Jr i)
  exact uS n i
theorem Js (A:Ask→Prop) (n:Nat):(kU n).dc A:=by
 refine ⟨uS n 3,fun e he=>?_,fun j hj=>by cases hj⟩
 unfold kU at he
 rw [MY _ (Nat.mod_lt _ (by decide))] at he
 simp only [qx,List.mem_cons,List.not_mem_nil,or_false] at he
 rcases he with rfl|rfl|rfl|rfl<;>simp
theorem Cz (n:Nat) (l:List gw) (k:Nat):(bQ n l k).dc zJ:=by
 have:(bQ n l k).ok∧(bQ n l k).dc zJ:=by
  unfold bQ
  exact x9 (P:=fun s=>cH.ok s∧s.dc zJ) (fun a b h=>⟨h.1.done b,Sz qc h.1 h.2 b⟩) _ _ ⟨Ci n,Js _ n⟩
 exact this.2
theorem Ve (id:Int) (x:Place) (l:List Place):qw id (x::l)=(if x.bu=id then 1 else 0)+qw id l:=by
 unfold qw
 rw [List.filter_cons]
 split<;>simp_all<;>omega
theorem X1 {js:List Jb} {f g:Jb→Nat} (h:∀j∈js,f j≤g j):(js.map f).sum≤(js.map g).sum:=by
 induction js with
 |nil=>simp
 |cons a l ih=>
  simp only [List.map_cons,List.sum_cons]
  have:=h a (List.mem_cons_self ..)
  have:=ih fun j hj=>h j (List.mem_cons_of_mem _ hj)
  omega
theorem SA {js:List Jb} (f g:Jb→Nat):(js.map fun j=>f j+g j).sum=(js.map f).sum+(js.map g).sum:=by
 induction js with
 |nil=>simp
 |cons a l ih=>simp only [List.map_cons,List.sum_cons,ih];omega
theorem Vf {js:List Jb} {id:Int} {j:Jb} (hj:j∈js) (e:j.id=id):1≤(js.map fun j=>if id=j.id then 1 else 0).sum:=by
 induction js with
 |nil=>cases hj
 |cons a l ih=>
  simp only [List.map_cons,List.sum_cons]
  rcases List.mem_cons.1 hj with rfl|hj
  ·rw [if_pos e.symm];omega
  have:=ih hj;omega
theorem CA {js:List Jb}:∀{l:List Place},(∀x∈l,∃j∈js,j.id=x.bu)→l.length≤(js.map fun j=>qw j.id l).sum
 |[],_=>by simp
 |x::l,h=>by
  have ih:=CA (js:=js) (l:=l) fun y hy=>h y (List.mem_cons_of_mem _ hy)
  obtain ⟨j,hj,e⟩:=h x (List.mem_cons_self ..)
  have h1:=Vf hj e
  have:(fun j:Jb=>qw j.id (x::l))=fun j=>(if x.bu=j.id then 1 else 0)+qw j.id l:=by funext j;rw [Ve]
  rw [this,SA]
  simp only [List.length_cons]
  omega
theorem cH.ok.LN {s:cH} (h:s.ok):s.aW.places.length≤256:=by
 have h1:=CA (js:=s.aI) (l:=s.aW.places) fun x hx=>by
  obtain ⟨j,hj,_,e,_⟩:=h.places x hx
  exact ⟨j,hj,e⟩
 have h2:∀j∈s.aI,qw j.id s.aW.places≤8:=by
  intro j hj
  cases hr:j.runs with
  |true=>
   have e1:=h.count j hj hr
   have e2:=fL.1 (h.CN j hj).1
   omega
  |false=>
   have e1:=h.wH hj hr
   have:qw j.id s.aW.places=0:=by
    unfold qw
    rw [List.length_eq_zero_iff,List.filter_eq_nil_iff]
    intro x hx;simpa using e1 x hx
   omega
 have h3:=X1 (f:=fun j=>qw j.id s.aW.places) (g:=fun _=>8) h2
 have h4:(s.aI.map fun _=>8).sum=8*s.aI.length:=by
  generalize s.aI=l
  induction l with
  |nil=>rfl
  |cons a l ih=>simp only [List.map_cons,List.sum_cons,List.length_cons,ih];omega
 have:=h.most
 omega
end Dem
end
section
open Go Dem Go.Proofs
namespace Dem
variable {t:Th}
theorem O9 (ht:TT t) (q:aD) {l:List (bT)} {es:List (List D)} (aF:es=l.map bT.cells) (f:Nat) (p:bT→Bool) (hl:l.length<9223372036854775807)
 (hf:∀x∈l,FC f [.agg [ST x.key,ST x.value],.ptr 0 0] [.var [ST q]] (.ret (BL (p x))) [.var [ST q]]) {r:Int} (hr:r=idxOf p l):FC 231 [SL es,.fn f [.ptr 0 0]] [.var [ST q]] (.ret (bq r)) [.var [ST q]]:=by
 have hel:es.length=l.length:=by rw [aF,lgM]
 obtain ⟨J,hJ⟩:∃J:Nat→Nat→Prop,∀n v,J n v↔(v+n=l.length∧∀i<v,∀x,l[i]?=some x→p x=false):=⟨fun n v=>v+n=l.length∧∀i<v,∀x,l[i]?=some x→p x=false,fun _ _=>Iff.rfl⟩
 refine bC ht (aE:=[.var [ST q]]) Tryz.func231 (c:=_) rfl rfl (N:=19) rfl (rs:=_) rfl (n:=1) rfl rfl ?_
 cbv
 refine aZ ⟨[0,1,7,8],[],[]⟩ (σ:=Nat) (fun k=>[(8,bq (t _ fun _=>(k:Int)))]) (fun _=>[]) J ?_
 cbv
 refine aA ⟨l.length,0,(hJ _ _).2 ⟨by omega,by intro i hi;simp at hi⟩,by simp only [ht];rfl,?_⟩
 rintro n k hj
 obtain ⟨h2,h3⟩:=(hJ _ _).1 hj
 clear hj
 cbv
 refine ai (fun h=>?_) (fun h=>?_)
 ·simp only [ht,aa,decide_eq_true_eq] at h
  have hk:k<l.length:=by omega
  obtain ⟨x,hx⟩:∃x,l[k]?=some x:=⟨l[k],by simp⟩
  have og:x∈l:=List.mem_of_getElem? hx
  have gY:=hf x og
  obtain ⟨px,hpx⟩:∃b,b=p x:=⟨_,rfl⟩
  rw [←hpx] at gY
  obtain ⟨k',v'⟩:=x
  cbv
  refine gS [.str k',.str v'] ?_ ?_ ?_
  ·simp only [ht,aa];refine ⟨by omega,h,?_⟩;rw [aF];intro r hr;obtain ⟨y,_,rfl⟩:=List.mem_map.1 hr;rfl
  ·simp [ht,aa,aF,hx]
  cbv
  refine dn trivial gY ?_
  cbv
  refine ai (fun hb=>?_) (fun hb=>?_)
  ·cbv
   refine an trivial trivial rfl rfl rfl ?_
   have e:=cN hx (hpx▸hb) h3
   simp only [ht,aa,hr,idxOf,e]
  cbv
  refine aA ⟨n-1,k+1,⟨by omega,(hJ _ _).2 ⟨by omega,?_⟩⟩,?_⟩
  ·intro i hi y hy
   by_cases hik:i<k
   ·exact h3 i hik y hy
   have:i=k:=by omega
   subst this;rw [hx] at hy;cases hy;rw [←hpx];exact hb
  simp only [ht,aa,aC (show k<9223372036854775807 by omega)];rfl
 simp only [ht,aa,decide_eq_false_iff_not] at h
 have hk:¬k<l.length:=by omega
 clear h
 cbv
 refine an trivial trivial rfl rfl rfl ?_
 rw [hr,idxOf,cS]
 intro i y hy
 have:i<l.length:=by
  rcases Nat.lt_or_ge i l.length with h'|h';· exact h'
  simp [List.getElem?_eq_none h'] at hy
 exact h3 i (by omega) y hy
theorem SB (ht:TT t) (q k v:aD):FC 232 [.agg [ST k,ST v],.ptr 0 0] [.var [ST q]] (.ret (BL (decide (k=q)))) [.var [ST q]]:=by
 refine bC ht (aE:=[.var [ST q]]) Tryz.func232 (c:=_) rfl rfl (N:=8) rfl (rs:=_) rfl (n:=1) rfl rfl ?_
 cbv
 refine an trivial trivial rfl rfl rfl ?_
 simp [ht]
def ESB (r:aD×Bool):AV:=.dF [ST r.1,BL r.2]
theorem Jt (ht:TT t) (q:aD) {l:List bT} {es:List (List D)} (aF:es=l.map bT.cells) (hl:l.length<1000000000):
 FC 218 [SL es,ST q] [] (.ret (ESB (t _ fun _=>Ic l q))) []:=by
 obtain ⟨r9,dN⟩:∃r,r=idxOf (fun x:bT=>decide (x.key=q)) l:=⟨_,rfl⟩
 refine bC ht (aE:=[]) Tryz.func218 (c:=_) rfl rfl (N:=17) rfl (rs:=_) rfl (n:=0) rfl rfl ?_
 cbv
 have ar:es.length=l.length:=by rw [aF,lgM]
 (refine cE [0] trivial rfl rfl (O9 ht q aF 232 (fun x=>decide (x.key=q)) (by omega) (fun x _=>SB ht q _ _) dN) (bK ?_);have ec:=cU dN;clear dN;rcases ec with ⟨e1,e2,e3⟩|⟨i,x,hi,hil,e1,e2,e3,e4⟩)
 ·cbv
  refine ai (fun h0=>?_) (fun h0=>?_)
  ·simp [ht] at h0
   cbv
   refine an trivial trivial rfl rfl rfl ?_
   (simp [ht,Ic,e3];done)
  simp [ht] at h0
  omega
 cbv
 refine ai (fun h1=>?_) (fun h1=>?_)
 ·simp [ht] at h1
  (simp only [aa] at*;omega)
 simp [ht] at h1
 cbv
 refine Bz ht aF (cT:=bT.aH t) e1 (by assumption) (fun _=>rfl) (fun _=>rfl) ?_
 cbv
 refine an trivial trivial rfl rfl rfl ?_
 (simp [ht,Ic,e4];done)
theorem Pb (ht:TT t) (a:aD) {l:List aD} {es:List (List D)} (aF:es=l.map aT) (hl:l.length<1000000000):
 FC 270 [SL es,ST a] [] (.ret (kR (t _ fun _=>Iv a l))) []:=by
 refine bC ht (aE:=[]) Tryz.func270 (c:=_) rfl rfl (N:=19) rfl (rs:=_) rfl (n:=0) rfl rfl ?_
 cbv
 have ar:es.length=l.length:=by rw [aF,lgM]
 obtain ⟨J0,eg⟩:∃J0:Nat→Int→Prop,∀n i,J0 n i↔(∃k:Nat,i=k∧k+n=l.length∧∀i<k,∀y,l[i]?=some y→a≠y):=⟨fun n v=>match v with|i=>(∃k:Nat,i=k∧k+n=l.length∧∀i<k,∀y,l[i]?=some y→a≠y),fun _ _=>Iff.rfl⟩
 refine aZ ⟨[0,1,7,8],[],[]⟩ (σ:=Int) (fun v=>[(8,.d (.int .i64 (t _ fun _=>v)))]) (fun v=>[]) J0 ?_
 cbv
 refine aA ⟨l.length,_,(eg _ _).2 ?_,by simp only [ht];rfl,?_⟩
 ·exact ⟨0,rfl,by simp,fun i hi=>by omega⟩
 rintro n i hj
 replace hj:=(eg _ _).1 hj
 obtain ⟨k,rfl,j1,j4⟩:=hj
 cbv
 refine ai (fun h1=>?_) (fun h1=>?_)
 ·simp [ht,aa,ar] at h1
  cbv
  refine dg ht aF (cT:=dR t) (by (simp only [ht,aa];omega)) (by (simp only [ht,aa];omega)) (fun _=>rfl) (fun _=>rfl) (fun x2 iw=>?_)
  simp [ht,aa] at iw
  cbv
  refine ai (fun h3=>?_) (fun h3=>?_)
  ·simp [ht] at h3
   cbv
   refine an trivial trivial rfl rfl rfl ?_
   (simp only [ht];rw [Fy (by assumption) (by assumption) j4];done)
  simp [ht] at h3
  cbv
  refine bf _ (by simp only [ht];rfl) (n-1) ?_ ((eg _ _).2 ?_)
  ·omega
  simp only [aa]
  exact ⟨k+1,aC (by omega),by omega,yb j4 (by assumption) (by assumption)⟩
 simp [ht,aa,ar] at h1
 cbv
 refine an trivial trivial rfl rfl rfl ?_
 (simp only [ht];rw [Fz (by omega) j4];done)
theorem Pc (ht:TT t) (a:aD) {l:List aD} {es:List (List D)} (aF:es=l.map aT) (hl:l.length<1000000000):
 FC 269 [SL es,ST a] [] (.ret (bY (t _ fun _=>l.contains a))) []:=by
 refine bC ht (aE:=[]) Tryz.func269 (c:=_) rfl rfl (N:=9) rfl (rs:=_) rfl (n:=0) rfl rfl ?_
 cbv
 have ar:es.length=l.length:=by rw [aF,lgM]
 refine ay trivial (Pb ht _ (by assumption) (by assumption)) trivial rfl rfl (fun r0 bE=>?_)
 simp only [ht] at bE
 cbv
 refine an trivial trivial rfl rfl rfl ?_
 (simp [ht,bE,BO];done)
theorem Ju (ht:TT t) (a:aD) {l:List aD} {es:List (List D)} (aF:es=l.map aT) (hl:l.length<1000000000):
 FC 268 [SL es,ST a] [] (.ret (bY (t _ fun _=>l.contains a))) []:=by
 refine bC ht (aE:=[]) Tryz.func268 (c:=_) rfl rfl (N:=8) rfl (rs:=_) rfl (n:=0) rfl rfl ?_
 cbv
 have ar:es.length=l.length:=by rw [aF,lgM]
 refine ay trivial (Pc ht _ (by assumption) (by assumption)) trivial rfl rfl (fun r0 bE=>?_)
 simp only [ht] at bE
 cbv
 refine an trivial trivial rfl rfl rfl ?_
 (simp [*];done)
theorem Jv (ht:TT t) (a:aD):FC 267 [.agg [],ST a] [] (.ret (BL true)) []:=by
 refine bC ht (aE:=[]) Tryz.func267 (c:=_) rfl rfl (N:=5) rfl (rs:=_) rfl (n:=0) rfl rfl ?_
 cbv
 refine an trivial trivial rfl rfl rfl ?_
 simp
theorem Vg (ht:TT t) (k:aD) (n:Bool):FC 219 [.agg [ST k,BL n,SL []]] [] (.ret (.tC 310 (.agg []))) []:=by
 refine bC ht (aE:=[]) Tryz.func219 (c:=_) rfl rfl (N:=12) rfl (rs:=_) rfl (n:=0) rfl rfl ?_
 cbv
 refine mS (by simp [ht]) ?_
 cbv
 refine an trivial trivial rfl rfl rfl ?_
 simp
theorem Vh (ht:TT t) (k:aD) (n:Bool) {vr:List (List D)} (hv:vr.length≠0):FC 219 [.agg [ST k,BL n,SL vr]] [] (.ret (.tC 311 (SL vr))) []:=by
 refine bC ht (aE:=[]) Tryz.func219 (c:=_) rfl rfl (N:=12) rfl (rs:=_) rfl (n:=0) rfl rfl ?_
 cbv
 refine qj (by simp only [ht,aa,decide_eq_false_iff_not];omega) ?_
 cbv
 refine an trivial trivial rfl rfl rfl ?_
 simp
theorem LO (ht:TT t) (k:aD) (n:Bool) {vs:List aD} {vr:List (List D)} (uV:vr=vs.map aT) (hv:vs.length<1000000000) {l:List bT} {ls:List (List D)} (hls:ls=l.map bT.cells) (hl:l.length<1000000000) (h0:vr=[]):
 FC 196 [.agg [ST k,BL n,SL vr],SL ls] [] (.ret (bY (t _ fun _=>kZ ⟨k,n,vs⟩ l))) []:=by
 have hlen:vr.length=vs.length:=by rw [uV,lgM]
 obtain ⟨H,hH⟩:∃H,H=kZ ⟨k,n,vs⟩ l:=⟨_,rfl⟩
 rw [←hH]
 simp only [kZ] at hH
 subst h0
 have QT:vs.length=0:=by simpa using hlen.symm
 rw [if_pos (show vs.length=0 from QT)] at hH
 clear uV hlen
 refine bC ht (aE:=[]) Tryz.func196 (c:=_) rfl rfl (N:=24) rfl (rs:=_) rfl (n:=0) rfl rfl ?_
 cbv
 have LP:ls.length=l.length:=by rw [hls,lgM]
 refine ay trivial (Jt ht _ (by assumption) (by assumption)) trivial rfl rfl (fun r0 bE=>?_)
 simp only [ht] at bE
 cbv
 refine bJ [false,false,false,false,false,false,false,false,false,true,true] (by kernel_rfl) (by kernel_rfl) ?_
 cbv
 iterate 3 refine gI (by simp) ?_
 (refine mT (fun g=>⟨by simpa [ht] using g,trivial,Vg ht k n⟩) rfl rfl rfl ?_)
 cbv
 refine gI (by simp) ?_
 (refine VN (HL (fun g=>⟨by simpa [ht] using g,trivial,Jv ht _⟩) rfl rfl ?_))
 cbv
 refine gI (by simp [ak]) ?_
 iterate 2 refine gI (by simp) ?_
 refine an trivial trivial rfl rfl rfl ?_
 (simp only [ht];grind)
theorem LQ (ht:TT t) (k:aD) (n:Bool) {vs:List aD} {vr:List (List D)} (uV:vr=vs.map aT) (hv:vs.length<1000000000) {l:List bT} {ls:List (List D)} (hls:ls=l.map bT.cells) (hl:l.length<1000000000) (h0:vr.length≠0):
 FC 196 [.agg [ST k,BL n,SL vr],SL ls] [] (.ret (bY (t _ fun _=>kZ ⟨k,n,vs⟩ l))) []:=by
 have hlen:vr.length=vs.length:=by rw [uV,lgM]
 obtain ⟨H,hH⟩:∃H,H=kZ ⟨k,n,vs⟩ l:=⟨_,rfl⟩
 rw [←hH]
 simp only [kZ] at hH
 rw [if_neg (show ¬vs.length=0 by omega)] at hH
 refine bC ht (aE:=[]) Tryz.func196 (c:=_) rfl rfl (N:=24) rfl (rs:=_) rfl (n:=0) rfl rfl ?_
 cbv
 have kx:vr.length=vs.length:=by rw [uV,lgM]
 have LP:ls.length=l.length:=by rw [hls,lgM]
 refine ay trivial (Jt ht _ (by assumption) (by assumption)) trivial rfl rfl (fun r0 bE=>?_)
 simp only [ht] at bE
 cbv
 refine bJ [false,false,false,false,false,false,false,false,false,true,true] (by kernel_rfl) (by kernel_rfl) ?_
 cbv
 iterate 3 refine gI (by simp) ?_
 (refine mT (fun g=>⟨by simpa [ht] using g,trivial,Vh ht k n (by omega)⟩) rfl rfl rfl ?_)
 cbv
 refine gI (by simp) ?_
 (refine VN (aM (fun g=>⟨by simpa [ht] using g,trivial,Ju ht _ uV hv⟩) rfl rfl (fun r1 cX=>?_));simp only [ht] at cX)
 cbv
 refine gI (by simp [ak]) ?_
 iterate 2 refine gI (by simp) ?_
 refine an trivial trivial rfl rfl rfl ?_
 (simp only [ht];grind)
theorem Pd (ht:TT t) (k:aD) (n:Bool) {vs:List aD} {vr:List (List D)} (uV:vr=vs.map aT) (hv:vs.length<1000000000) {l:List bT} {ls:List (List D)} (hls:ls=l.map bT.cells) (hl:l.length<1000000000):
 FC 196 [.agg [ST k,BL n,SL vr],SL ls] [] (.ret (bY (t _ fun _=>kZ ⟨k,n,vs⟩ l))) []:=by
 by_cases h0:vr=[]
 ·exact LO ht k n uV hv hls hl h0
 exact LQ ht k n uV hv hls hl (by intro h;exact h0 (List.length_eq_zero_iff.1 h))
theorem LR (ht:TT t) (ls:List (List D)) {l:List (Term)} {es:List (List D)} (aF:es=l.map Term.cells) (f:Nat) (p:Term→Bool) (hl:l.length<9223372036854775807)
 (hf:∀x∈l,FC f [.agg [ST x.key,BL x.no,SL (x.fW.map aT)],.ptr 0 0] [.var [SL ls]] (.ret (BL (p x))) [.var [SL ls]]) {r:Int} (hr:r=idxOf p l):FC 171 [SL es,.fn f [.ptr 0 0]] [.var [SL ls]] (.ret (bq r)) [.var [SL ls]]:=by
 have hel:es.length=l.length:=by rw [aF,lgM]
 obtain ⟨J,hJ⟩:∃J:Nat→Nat→Prop,∀n v,J n v↔(v+n=l.length∧∀i<v,∀x,l[i]?=some x→p x=false):=⟨fun n v=>v+n=l.length∧∀i<v,∀x,l[i]?=some x→p x=false,fun _ _=>Iff.rfl⟩
 refine bC ht (aE:=[.var [SL ls]]) Tryz.func171 (c:=_) rfl rfl (N:=19) rfl (rs:=_) rfl (n:=1) rfl rfl ?_
 cbv
 refine aZ ⟨[0,1,7,8],[],[]⟩ (σ:=Nat) (fun k=>[(8,bq (t _ fun _=>(k:Int)))]) (fun _=>[]) J ?_
 cbv
 refine aA ⟨l.length,0,(hJ _ _).2 ⟨by omega,by intro i hi;simp at hi⟩,by simp only [ht];rfl,?_⟩
 rintro n k hj
 obtain ⟨h2,h3⟩:=(hJ _ _).1 hj
 clear hj
 cbv
 refine ai (fun h=>?_) (fun h=>?_)
 ·simp only [ht,aa,decide_eq_true_eq] at h
  have hk:k<l.length:=by omega
  obtain ⟨x,hx⟩:∃x,l[k]?=some x:=⟨l[k],by simp⟩
  have og:x∈l:=List.mem_of_getElem? hx
  have gY:=hf x og
  obtain ⟨px,hpx⟩:∃b,b=p x:=⟨_,rfl⟩
  rw [←hpx] at gY
  obtain ⟨a,b,c⟩:=x;obtain ⟨JH,pS⟩:∃lr:List (List D),lr=c.map aT:=⟨_,rfl⟩;simp only [←pS] at gY
  cbv
  refine gS [.str a,.bool b,.sl JH] ?_ ?_ ?_
  ·simp only [ht,aa];refine ⟨by omega,h,?_⟩;rw [aF];intro r hr;obtain ⟨y,_,rfl⟩:=List.mem_map.1 hr;rfl
  ·simp [ht,aa,aF,hx,pS,Term.cells]
  cbv
  refine dn trivial gY ?_
  cbv
  refine ai (fun hb=>?_) (fun hb=>?_)
  ·cbv
   refine an trivial trivial rfl rfl rfl ?_
   have e:=cN hx (hpx▸hb) h3
   simp only [ht,aa,hr,idxOf,e]
  cbv
  refine aA ⟨n-1,k+1,⟨by omega,(hJ _ _).2 ⟨by omega,?_⟩⟩,?_⟩
  ·intro i hi y hy
   by_cases hik:i<k
   ·exact h3 i hik y hy
   have:i=k:=by omega
   subst this;rw [hx] at hy;cases hy;rw [←hpx];exact hb
  simp only [ht,aa,aC (show k<9223372036854775807 by omega)];rfl
 simp only [ht,aa,decide_eq_false_iff_not] at h
 have hk:¬k<l.length:=by omega
 clear h
 cbv
 refine an trivial trivial rfl rfl rfl ?_
 rw [hr,idxOf,cS]
 intro i y hy
 have:i<l.length:=by
  rcases Nat.lt_or_ge i l.length with h'|h';· exact h'
  simp [List.getElem?_eq_none h'] at hy
 exact h3 i (by omega) y hy
theorem LS (ht:TT t) (ls:List (List D)) {l:List (Term)} {es:List (List D)} (aF:es=l.map Term.cells) (f:Nat) (p:Term→Bool) (hl:l.length<9223372036854775807)
 (hf:∀x∈l,FC f [.agg [ST x.key,BL x.no,SL (x.fW.map aT)],.ptr 0 0] [.var [SL ls]] (.ret (BL (p x))) [.var [SL ls]]) {r:Bool} (hr:r=l.any p):FC 119 [SL es,.fn f [.ptr 0 0]] [.var [SL ls]] (.ret (BL r)) [.var [SL ls]]:=by
 obtain ⟨k,hk⟩:∃k,k=idxOf p l:=⟨_,rfl⟩
 refine bC ht (aE:=[.var [SL ls]]) Tryz.func119 (c:=_) rfl rfl (N:=9) rfl (rs:=_) rfl (n:=1) rfl rfl ?_
 cbv
 refine dn trivial (LR ht ls aF f p hl hf hk) ?_
 cbv
 refine an trivial trivial rfl rfl rfl ?_
 simp only [ht,hr,eT,hk]
theorem SC (ht:TT t) (k:aD) (n:Bool) {vs:List aD} {vr:List (List D)} (uV:vr=vs.map aT) (hv:vs.length<1000000000) {l:List bT} {ls:List (List D)} (hls:ls=l.map bT.cells) (hl:l.length<1000000000) {r:Bool} (hr:r=!kZ ⟨k,n,vs⟩ l):
 FC 195 [.agg [ST k,BL n,SL vr],.ptr 0 0] [.var [SL ls]] (.ret (BL r)) [.var [SL ls]]:=by
 obtain ⟨H,hH⟩:∃H,H=kZ ⟨k,n,vs⟩ l:=⟨_,rfl⟩
 rw [←hH] at hr
 refine bC ht (aE:=[.var [SL ls]]) Tryz.func195 (c:=_) rfl rfl (N:=8) rfl (rs:=_) rfl (n:=1) rfl rfl ?_
 cbv
 have kx:vr.length=vs.length:=by rw [uV,lgM]
 have LP:ls.length=l.length:=by rw [hls,lgM]
 refine ay trivial (Pd ht _ _ (by assumption) (by assumption) (by assumption) (by assumption)) trivial rfl rfl (fun r1 cX=>?_)
 simp only [ht] at cX
 cbv
 refine an trivial trivial rfl rfl rfl ?_
 (simp [*];done)
theorem Pe (ht:TT t) {x:List Term} {xr:List (List D)} (F8:xr=x.map Term.cells) (hx:x.length<1000000000) (Gf:∀m∈x,m.fW.length<1000000000) {l:List bT} {ls:List (List D)} (hls:ls=l.map bT.cells) (hl:l.length<1000000000):
 FC 158 [SL xr,SL ls] [] (.ret (bY (t _ fun _=>xS x l))) []:=by
 obtain ⟨r9,dN⟩:∃r,r=x.any (fun m=>!kZ m l):=⟨_,rfl⟩
 refine bC ht (aE:=[]) Tryz.func158 (c:=_) rfl rfl (N:=9) rfl (rs:=_) rfl (n:=0) rfl rfl ?_
 cbv
 have LU:xr.length=x.length:=by rw [F8,lgM]
 have LP:ls.length=l.length:=by rw [hls,lgM]
 (refine cE [0] trivial rfl rfl (LS ht ls F8 195 (fun m=>!kZ m l) (by omega) (fun m hm=>SC ht _ _ rfl (Gf m hm) hls hl rfl) dN) (bK ?_))
 cbv
 refine an trivial trivial rfl rfl rfl ?_
 (simp [ht,xS,dN];done)
end Dem
end
section
open Go
namespace Dem
section
variable {P:Program} {G:Nat→Option (List D)}
theorem zK {f:Nat} {args:List AV} {bx aG iG:List ax} {v v2:AV} (h:bg P G f args bx (.ret v) aG)
 (hs:∀β w X u,ct G β aG w X→ah β aG w (be β aG w X) v u→Ext β aG w β iG w∧ct G β iG w X∧ah β iG w (be β iG w X) v2 u):bg P G f args bx (.ret v2) iG:=by
 intro β w vs X cx hx
 refine jD.mono (h β w vs X cx hx) ?_
 rintro e w' ⟨β',ex,nP,hr⟩
 cases e with
 |returned u=>
  obtain ⟨a,b,c⟩:=hs β' w' X u nP hr
  exact ⟨β',ex.trans a,b,c⟩
 |panicked ch=>exact hr.elim
 |outgrown=>exact hr.elim
theorem SD {β:Nat→Nat} {bx:List ax} {w:World} {b:Nat} {B B':ax} (hb:bx[b]?=some B) (hl:B.live=true) (dj:B'.born=true):Ext β bx w β (bx.set b B') w:=by
 refine ⟨rfl,rfl,rfl,Nat.le_refl _,fun _ _ _=>rfl,fun k c e f h=>⟨c,h,rfl⟩,fun i hi=>⟨rfl,ix dj hi⟩,?_⟩
 intro i b' h1 h2
 rcases aL h1 with ⟨rfl,rfl,_⟩|⟨_,h3⟩
 ·exact .inr ⟨_,B,hb,hl,rfl⟩
 exact .inr ⟨i,b',h3,h2,rfl⟩
theorem LV {f b sz k c:Nat} {ex:Bool} {args:List AV} {bx aG iG:List ax} {es r:List (List D)} (hk:0<k) (hb:aG[b]?=some (.row sz es)) (X2:k≤es.length) (hr:r=es.take k) (h2:iG=aG.set b (.row sz r))
 (h:bg P G f args bx (.ret (.vw b sz 0 k c ex)) aG):bg P G f args bx (.ret (.ow b sz k)) iG:=by
 subst hr h2
 refine zK h fun β w X u cx hv=>?_
 have hne:es≠[]:=by intro h;rw [h] at X2;simp at X2;omega
 have cr:(ax.row sz es).live=true:=by cases es with
  |nil=>exact absurd rfl hne
  |cons _ _=>rfl
 have ht:es.take k≠[]:=by
  intro h;have:=congrArg List.length h;simp at this;rcases this with h|h
  ·omega
  exact hne h
 have acX:(ax.row sz (es.take k)).live=true:=by
  cases hq:es.take k with
  |nil=>exact absurd hq ht
  |cons _ _=>rfl
 have ext:Ext β aG w β (aG.set b (.row sz (es.take k))) w:=SD hb cr rfl
 simp only [ah] at hv
 obtain ⟨h1,base,cap,cs,e,f',rfl,h3,h4,h5,h6⟩:=hv
 refine ⟨ext,cx.step ext ?_ ?_,?_⟩
 ·intro i b' hi
  rcases aL hi with ⟨rfl,rfl,_⟩|⟨h7,h8⟩
  ·refine .inr ?_
   rcases cx.box _ _ hb with h|⟨c2,e2,g1,g2⟩
   ·exact absurd h hne
   exact .inr ⟨c2,e2,g1,av.mono (ext.keeps X) _ _ (fun _=>rfl) _ _ (av.Gt k _ _ g2)⟩
  exact .inl ⟨h8,fun _=>rfl⟩
 ·intro i j bi bj hi hj li lj he
  rcases aL hi with ⟨rfl,rfl,_⟩|⟨h7,h8⟩<;>rcases aL hj with ⟨rfl,rfl,_⟩|⟨h9,h10⟩
  ·rfl
  ·exact cx.inj _ _ _ _ hb h10 cr lj he
  ·exact cx.inj _ _ _ _ h8 hb li cr he
  exact cx.inj _ _ _ _ h8 h10 li lj he
 simp only [ah]
 refine ⟨(ext.born b h1).2,.inr ⟨by omega,cap,?_⟩⟩
 rcases h6 with h6|⟨rfl,h7,h8⟩
 ·omega
 exact ⟨cs,e,f',by simp,h3,h7,by simpa using h8⟩
theorem LW {f b sz k c:Nat} {ex:Bool} {args:List AV} {bx aG iG:List ax} {es r:List (List D)} (hb:aG[b]?=some (.row sz es)) (X2:k≤es.length) (hr:r=es.take k) (h2:iG=aG.set b .dead)
 (h:bg P G f args bx (.ret (.vw b sz 0 k c ex)) aG):bg P G f args bx (.ret (.d (.sl r))) iG:=by
 subst hr h2
 refine zK h fun β w X u cx hv=>?_
 have ext:Ext β aG w β (aG.set b .dead) w:=iy hb rfl rfl
 simp only [ah] at hv
 obtain ⟨h1,base,cap,cs,e,f',rfl,h3,h4,h5,h6⟩:=hv
 refine ⟨ext,jL cx hb rfl rfl (by simp [dA]),?_⟩
 have hl:(es.take k).length=k:=by simp;omega
 simp only [ah,aK]
 refine ⟨base,cap,by rw [hl],by rw [hl];exact h3,?_⟩
 by_cases hk:k=0
 ·exact .inl (by rw [hk];rfl)
 refine .inr ?_
 rcases h6 with h6|⟨rfl,h7,h8⟩
 ·omega
 rcases cx.box _ _ hb with h|⟨c2,e2,g1,g2⟩
 ·rw [h] at X2;simp at X2;omega
 refine ⟨β b,0,sz,by simp,⟨eK g1,?_,?_⟩,av.mono (ext.keeps X) _ _ (fun _=>rfl) _ _ (av.Gt k _ _ g2)⟩
 ·refine cx.apart b _ hb ?_
  cases es with
  |nil=>simp at X2;omega
  |cons _ _=>rfl
 intro i b' h9 h10 he
 rcases aL h9 with ⟨rfl,rfl,_⟩|⟨h11,h12⟩
 ·simp [ax.live] at h10
 refine h11 (cx.inj i b b' _ h12 hb h10 ?_ he)
 cases es with
 |nil=>simp at X2;omega
 |cons _ _=>rfl
theorem CB {f g b:Nat} {x:AV} {cs:List AV} {ds:List D} {bx tH aG:List ax} {res:fm} (hb:bx[b]?=some (.var cs)) (hd:iJ [] cs=some ds) (h1:tH=bx.set b .dead)
 (h:bg P G f [x,.fn g [.ep ds]] tH res aG):bg P G f [x,.fn g [.ptr b 0]] bx res aG:=by
 subst h1
 intro β w vs X cx hx
 have ext:Ext β bx w β (bx.set b .dead) w:=iy hb rfl rfl
 have nP:ct G β (bx.set b .dead) w X:=jL cx hb rfl rfl (by simp [dA])
 obtain ⟨c2,e2,g1,g2⟩:=cx.box _ _ hb
 have hok:be β (bx.set b .dead) w X (β b):=by
  refine ⟨eK g1,cx.apart b _ hb rfl,?_⟩
  intro i b' h3 h4 he
  rcases aL h3 with ⟨rfl,rfl,_⟩|⟨h5,h6⟩
  ·simp [ax.live] at h4
  exact h5 (cx.inj i b b' _ h6 hb h4 rfl he)
 have hrow:aY w (be β bx w X) (β b) ds 0:=by
  refine EH ds 0 c2.toList ?_ (sC hd g2)
  intro j v hj
  simp only [World.cell?,g1]
  simpa using hj
 have aaf:=aY.mono (ext.keeps X) _ (fun _=>rfl) _ _ hrow
 simp only [aj,ah] at hx
 obtain ⟨u,us,rfl,hu,v,vs',rfl,⟨ws,rfl,w1,ws',rfl,⟨rfl,EN⟩,rfl⟩,rfl⟩:=hx
 refine jD.mono (h β w _ X nP ?_) ?_
 ·simp only [aj,ah]
  exact ⟨u,_,rfl,ah.mono (ext.dQ X) _ _ hu,_,_,rfl,⟨_,rfl,_,_,rfl,⟨β b,0,rfl,hok,aaf⟩,rfl⟩,rfl⟩
 rintro e w' ⟨β',ex,acY,hr⟩
 exact ⟨β',ext.trans ex,acY,hr⟩
end
end Dem
end
section
open Go Dem Go.Proofs
namespace Dem
variable {t:Th}
theorem zL (ht:TT t) {es:List (List D)} (aF:∀r∈es,r.length=6) (hs:es.length*72≤140737488355328) {m:Nat} (hm:m=es.length):
 FC 156 [SL es] [] (.ret (.ow 0 6 m)) [.row 6 es]:=by
 refine bC ht (aE:=[]) Tryz.func156 (c:=_) rfl rfl (N:=8) rfl (rs:=_) rfl (n:=0) rfl rfl ?_
 cbv
 refine ⟨fun b hb=>?_⟩
 simp only [ht] at hb
 cbv
 refine ai (fun h=>?_) (fun h=>?_)
 ·have he:=hb h
  subst he
  cbv
  exact Kz trivial rfl rfl (by rw [hm];rfl) rfl
 clear hb h
 cbv
 refine ⟨?_,?_⟩
 ·simp only [ht];simp;exact ⟨hs,aF⟩
 refine Fb trivial rfl rfl rfl rfl ?_ ?_
 ·simp only [ht];rw [hm];simp
 simp only [ht];rfl
theorem Pf (ht:TT t) (xr:List (List D)) {l:List (cu)} {es:List (List D)} (aF:es=l.map cu.cells) (f:Nat) (p:cu→Bool) (hl:l.length<9223372036854775807)
 (hf:∀x∈l,FC f [.agg [ST x.node,az x.free.a,az x.free.b,az x.free.c,az x.free.d,SL (x.labels.map bT.cells)],.ep [.sl xr]] [] (.ret (BL (p x))) []) {r:Int} (hr:r=idxOf p l):FC 194 [SL es,.fn f [.ep [.sl xr]]] [] (.ret (bq r)) []:=by
 have hel:es.length=l.length:=by rw [aF,lgM]
 obtain ⟨J,hJ⟩:∃J:Nat→Nat→Prop,∀n v,J n v↔(v+n=l.length∧∀i<v,∀x,l[i]?=some x→p x=false):=⟨fun n v=>v+n=l.length∧∀i<v,∀x,l[i]?=some x→p x=false,fun _ _=>Iff.rfl⟩
 refine bC ht (aE:=[]) Tryz.func194 (c:=_) rfl rfl (N:=19) rfl (rs:=_) rfl (n:=0) rfl rfl ?_
 cbv
 refine aZ ⟨[0,1,7,8],[],[]⟩ (σ:=Nat) (fun k=>[(8,bq (t _ fun _=>(k:Int)))]) (fun _=>[]) J ?_
 cbv
 refine aA ⟨l.length,0,(hJ _ _).2 ⟨by omega,by intro i hi;simp at hi⟩,by simp only [ht];rfl,?_⟩
 rintro n k hj
 obtain ⟨h2,h3⟩:=(hJ _ _).1 hj
 clear hj
 cbv
 refine ai (fun h=>?_) (fun h=>?_)
 ·simp only [ht,aa,decide_eq_true_eq] at h
  have hk:k<l.length:=by omega
  obtain ⟨x,hx⟩:∃x,l[k]?=some x:=⟨l[k],by simp⟩
  have og:x∈l:=List.mem_of_getElem? hx
  have gY:=hf x og
  obtain ⟨px,hpx⟩:∃b,b=p x:=⟨_,rfl⟩
  rw [←hpx] at gY
  obtain ⟨nd,⟨v1,v2,v3,v4⟩,lb⟩:=x;obtain ⟨JH,pS⟩:∃lr:List (List D),lr=lb.map bT.cells:=⟨_,rfl⟩;simp only [←pS] at gY
  cbv
  refine gS [.str nd,.int .u64 v1,.int .u64 v2,.int .u64 v3,.int .u64 v4,.sl JH] ?_ ?_ ?_
  ·simp only [ht,aa];refine ⟨by omega,h,?_⟩;rw [aF];intro r hr;obtain ⟨y,_,rfl⟩:=List.mem_map.1 hr;rfl
  ·simp [ht,aa,aF,hx,pS,cu.cells]
  cbv
  refine dn trivial gY ?_
  cbv
  refine ai (fun hb=>?_) (fun hb=>?_)
  ·cbv
   refine an trivial trivial rfl rfl rfl ?_
   have e:=cN hx (hpx▸hb) h3
   simp only [ht,aa,hr,idxOf,e]
  cbv
  refine aA ⟨n-1,k+1,⟨by omega,(hJ _ _).2 ⟨by omega,?_⟩⟩,?_⟩
  ·intro i hi y hy
   by_cases hik:i<k
   ·exact h3 i hik y hy
   have:i=k:=by omega
   subst this;rw [hx] at hy;cases hy;rw [←hpx];exact hb
  simp only [ht,aa,aC (show k<9223372036854775807 by omega)];rfl
 simp only [ht,aa,decide_eq_false_iff_not] at h
 have hk:¬k<l.length:=by omega
 clear h
 cbv
 refine an trivial trivial rfl rfl rfl ?_
 rw [hr,idxOf,cS]
 intro i y hy
 have:i<l.length:=by
  rcases Nat.lt_or_ge i l.length with h'|h';· exact h'
  simp [List.getElem?_eq_none h'] at hy
 exact h3 i (by omega) y hy
theorem LX (ht:TT t) (xr:List (List D)) {l:List (cu)} {es:List (List D)} (aF:es=l.map cu.cells) {m c:Nat} (hm:m=l.length) (hc:m≤c) (f:Nat) (p:cu→Bool) (hl:l.length<9223372036854775807)
 (hf:∀x∈l,FC f [.agg [ST x.node,az x.free.a,az x.free.b,az x.free.c,az x.free.d,SL (x.labels.map bT.cells)],.ep [.sl xr]] [] (.ret (BL (p x))) []) {r:List (List D)} (hr:r=(l.filter (fun x=>!p x)).map cu.cells) {kk:Nat} (hkk:kk=r.length) {rz:List (List D)} (Wb:rz=r++List.replicate (m-kk) [.str [],.int .u64 0,.int .u64 0,.int .u64 0,.int .u64 0,.sl []]):
 FC 155 [.vw 0 6 0 m c true,.fn f [.ep [.sl xr]]] [.row 6 es] (.ret (.vw 0 6 0 kk c true)) [.row 6 rz]:=by
 have hel:es.length=m:=by rw [aF,lgM,hm]
 have hrows:∀r∈es,r.length=6:=by rw [aF];intro r hr;obtain ⟨y,_,rfl⟩:=List.mem_map.1 hr;rfl
 obtain ⟨k,hk⟩:∃k,k=idxOf p l:=⟨_,rfl⟩
 have KU:(t (List (List D)) fun _=>(es.drop 0).take m)=l.map cu.cells:=by simp only [ht];rw [List.drop_zero,List.take_of_length_le (by omega),aF]
 have hidx:=Pf ht xr KU f p hl hf hk
 obtain ⟨J,hJ⟩:∃J:Nat→Nat×Nat×List (List D)→Prop,∀n v,J n v↔(v.2.1+n=m∧v.1<v.2.1∧v.2.2.length=m∧(∀r∈v.2.2,r.length=6)∧v.2.2.take v.1=((l.take v.2.1).filter (fun x=>!p x)).map cu.cells∧v.2.2.drop v.2.1=es.drop v.2.1):=⟨fun n v=>v.2.1+n=m∧v.1<v.2.1∧v.2.2.length=m∧(∀r∈v.2.2,r.length=6)∧v.2.2.take v.1=((l.take v.2.1).filter (fun x=>!p x)).map cu.cells∧v.2.2.drop v.2.1=es.drop v.2.1,fun _ _=>Iff.rfl⟩
 refine bC ht (aE:=[.row 6 es]) Tryz.func155 (c:=_) rfl rfl (N:=42) rfl (rs:=_) rfl (n:=1) rfl rfl ?_
 cbv
 refine VW (TT.eq ht) (v:=bq k) [true] [] trivial rfl ?_ rfl rfl rfl rfl rfl rfl rfl hidx ?_
 ·simp [ht];omega
 cbv
 refine ai (fun h=>?_) (fun h=>?_)
 ·have AD:k=-1:=by simp [ht] at h;exact h
  have hnone:=sN (hk▸AD:idxOf p l=-1)
  clear h
  cbv
  have VC:r=es:=by rw [hr,filter_all hnone,←aF]
  have hkm:kk=m:=by rw [hkk,VC,hel]
  have hze:rz=es:=by rw [Wb,hkm,Nat.sub_self,VC];simp
  rw [hze,hkm]
  exact QM trivial rfl rfl
 have AD:k≠-1:=by simp [ht] at h;exact h
 clear h
 obtain ⟨i0,x0,ZA,hx0,hp0,hb0⟩:=sO (hk▸AD:idxOf p l≠-1)
 rw [←hk] at ZA
 subst ZA
 have abF:i0<m:=by rw [hm];exact (List.getElem?_eq_some_iff.1 hx0).1
 cbv
 refine aZ ⟨[0,1,5,6],[],[]⟩ (σ:=Nat×Nat×List (List D)) (fun v=>[(5,bq (t _ fun _=>(v.1:Int))),(6,bq (t _ fun _=>(v.2.1:Int)))]) (fun v=>[(0,.row 6 (t _ fun _=>v.2.2))]) J ?_
 cbv
 refine aA ⟨m-(i0+1),(i0,i0+1,es),(hJ _ _).2 ⟨?_,?_,hel,hrows,?_,rfl⟩,by simp only [ht,aa,Int.ofNat_eq_natCast,aC (show i0<9223372036854775807 by omega)];rfl,?_⟩
 ·show i0+1+(m-(i0+1))=m;omega
 ·show i0<i0+1;omega
 ·show es.take i0=_
  rw [eU hx0,List.filter_append,filter_all hb0,aF,←List.map_take];simp [hp0]
 rintro n ⟨i,j,cur⟩ hj
 obtain ⟨j1,j2,j3,j4,j5,j6⟩:=(hJ _ _).1 hj
 clear hj
 simp only at j1 j2 j3 j4 j5 j6
 cbv
 refine ai (fun h=>?_) (fun h=>?_)
 ·have ZB:j<m:=by simp [ht,aa] at h;omega
  clear h
  obtain ⟨x,hx⟩:∃x,l[j]?=some x:=⟨l[j]'(by omega),by simp⟩
  have og:x∈l:=List.mem_of_getElem? hx
  have gY:=hf x og
  have Q7:cur[j]?=some (cu.cells x):=by
   have:(cur.drop j)[0]?=(es.drop j)[0]?:=by rw [j6]
   rw [List.getElem?_drop,List.getElem?_drop,Nat.add_zero,aF,List.getElem?_map,hx] at this
   exact this
  obtain ⟨px,hpx⟩:∃b,b=p x:=⟨_,rfl⟩
  rw [←hpx] at gY
  obtain ⟨cx,Pt⟩:∃cx,cx=cu.cells x:=⟨_,rfl⟩
  rw [←Pt] at Q7
  have hstep:(l.take (j+1)).filter (fun x=>!p x)=(l.take j).filter (fun x=>!p x)++(if px then [] else [x]):=by
   rw [eU hx,List.filter_append];cases px<;>simp [←hpx]
  obtain ⟨nd,⟨v1,v2,v3,v4⟩,lb⟩:=x;obtain ⟨JH,pS⟩:∃lr:List (List D),lr=lb.map bT.cells:=⟨_,rfl⟩;simp only [cu.cells,←pS] at gY Pt
  cbv
  refine ⟨?_,WK [.str nd,.int .u64 v1,.int .u64 v2,.int .u64 v3,.int .u64 v4,.sl JH] ?_ ?_ ?_⟩
  ·simp [ht,aa];omega
  ·simp [ht,aa,j3];omega
  ·simp [ht,aa,List.getD_eq_getElem?_getD,Q7,Pt]
  cbv
  refine cE [] trivial rfl rfl gY (bK ?_)
  cbv
  refine ai (fun hb=>?_) (fun hb=>?_)
  ·have hb':px=false:=by simpa [ht] using hb
   clear hb
   obtain ⟨nc,hnc⟩:∃nc,nc=cur.set i cx:=⟨_,rfl⟩
   have uH:(cur.getD i []).length=6:=j4 _ (by rw [List.getD_eq_getElem?_getD,List.getElem?_eq_getElem (by omega)];exact List.getElem_mem _)
   cbv
   refine ⟨?_,?_⟩
   ·simp [ht,aa];omega
   refine ⟨?_,?_⟩
   ·simp [ht,aa,j3];exact ⟨by omega,by simpa using uH.symm▸(Nat.le_refl _)⟩
   refine aA ⟨n-1,(i+1,j+1,nc),⟨by omega,(hJ _ _).2 ⟨?_,?_,?_,?_,?_,?_⟩⟩,?_⟩
   ·show j+1+(n-1)=m;omega
   ·show i+1<j+1;omega
   ·show nc.length=m;rw [hnc,List.length_set];exact j3
   ·show ∀r∈nc,r.length=6
    intro r hr;rw [hnc] at hr
    rcases List.mem_or_eq_of_mem_set hr with hr|rfl
    ·exact j4 r hr
    rw [Pt];rfl
   ·show nc.take (i+1)=_
    rw [hnc,nZ _ _ _ (by omega),j5,hstep,hb',Pt];simp [pS,cu.cells]
   ·show nc.drop (j+1)=es.drop (j+1)
    rw [hnc,rS _ _ _ _ (by omega),←List.drop_drop,j6,List.drop_drop]
   simp only [ht,aa,Int.ofNat_eq_natCast,aC (show i<9223372036854775807 by omega),aC (show j<9223372036854775807 by omega)]
   have ei:0+((i:Int)).toNat=i:=by simp
   have e:cur.set i (bF (cur.getD i []) 0 [.str nd,.int .u64 v1,.int .u64 v2,.int .u64 v3,.int .u64 v4,.sl JH])=nc:=by rw [hnc,nY _ _ (by rw [uH];rfl),Pt]
   simp only [ei,e];rfl
  have hb':px=true:=by simpa [ht] using hb
  clear hb
  cbv
  refine aA ⟨n-1,(i,j+1,cur),⟨by omega,(hJ _ _).2 ⟨?_,?_,j3,j4,?_,?_⟩⟩,?_⟩
  ·show j+1+(n-1)=m;omega
  ·show i<j+1;omega
  ·show cur.take i=_
   rw [j5,hstep,hb'];simp
  ·show cur.drop (j+1)=es.drop (j+1)
   rw [←List.drop_drop,j6,List.drop_drop]
  simp only [ht,aa,Int.ofNat_eq_natCast,aC (show j<9223372036854775807 by omega)];rfl
 have ZB:j=m:=by simp [ht,aa] at h;omega
 clear h
 obtain ⟨mi,CS⟩:∃mi,mi=m-i:=⟨_,rfl⟩
 obtain ⟨ci,uH⟩:∃ci,ci=c-i:=⟨_,rfl⟩
 obtain ⟨nc,hnc⟩:∃nc,nc=wrote cur i (List.replicate mi [.str [],.int .u64 0,.int .u64 0,.int .u64 0,.int .u64 0,.sl []]):=⟨_,rfl⟩
 have hnt:nc.take i=r:=by
  have hl':(cur.take i).length=i:=by simp;omega
  rw [hnc,wrote,List.append_assoc,List.take_left' hl',j5,hr,ZB,hm,List.take_length]
 have abG:i≤nc.length:=by rw [hnc];simp [wrote];omega
 cbv
 refine bR (.vw 0 6 i mi ci true) [.row 6 cur] ?_ ?_ ?_ ?_
 ·simp [ht,aa,dZ,bS];omega
 ·simp [ht,aa,aX,aV,CS,uH]
 ·simp only [ht]
 cbv
 refine bR (.dF []) [.row 6 nc] ?_ rfl ?_ ?_
 ·simp [ht,fo]
  refine ⟨by omega,?_⟩
  intro h;rw [h] at j3;simp at j3;omega
 ·simp only [ht,hnc]
 cbv
 refine bR (.vw 0 6 0 i c true) [.row 6 nc] ?_ ?_ rfl ?_
 ·simp [ht,aa,dZ,bS];omega
 ·simp [ht,aa,aX,aV]
 cbv
 have hki:kk=i:=by rw [hkk,←hnt];simp;omega
 have hze:rz=nc:=by
  rw [Wb,hki,←hnt,hnc,wrote]
  have hl':(cur.take i).length=i:=by simp;omega
  rw [List.append_assoc,List.take_left' hl',List.drop_of_length_le (by simp;omega),List.append_nil,CS]
 rw [hze,hki]
 exact QM trivial rfl rfl
theorem LY (ht:TT t) (nd:aD) (v1 v2 v3 v4:Int) {lb:List bT} {lr:List (List D)} (hlr:lr=lb.map bT.cells) (hlb:lb.length<1000000000) {x:List Term} {xr:List (List D)} (F8:xr=x.map Term.cells) (hx:x.length<1000000000) (Gf:∀m∈x,m.fW.length<1000000000) {r:Bool} (hr:r=!xS x lb):
 FC 157 [.agg [ST nd,az v1,az v2,az v3,az v4,SL lr],.ep [.sl xr]] [] (.ret (BL r)) []:=by
 obtain ⟨H,hH⟩:∃H,H=xS x lb:=⟨_,rfl⟩
 rw [←hH] at hr
 refine bC ht (aE:=[]) Tryz.func157 (c:=_) rfl rfl (N:=9) rfl (rs:=_) rfl (n:=0) rfl rfl ?_
 cbv
 have KZ:lr.length=lb.length:=by rw [hlr,lgM]
 have LU:xr.length=x.length:=by rw [F8,lgM]
 refine ay trivial (Pe ht (by assumption) (by assumption) (by assumption) (by assumption) (by assumption)) trivial rfl rfl (fun r0 bE=>?_)
 simp only [ht] at bE
 cbv
 refine an trivial trivial rfl rfl rfl ?_
 (simp [ht,hr,hH,bE];done)
def Int.cells (x:Int):List D:=[.int .u64 x]
def Int.aH (_:Th) (x:Int):List D:=[.int .u64 x]
theorem SE (ht:TT t) (x:Int):FC 233 [az x] [] (.ret (bY (t _ fun _=>false))) []:=by
 refine bC ht (aE:=[]) Tryz.func233 (c:=_) rfl rfl (N:=6) rfl (rs:=_) rfl (n:=0) rfl rfl ?_
 cbv
 refine an trivial trivial rfl rfl rfl ?_
 (simp [ht];done)
theorem X3 (ht:TT t) (x y:Int):FC 220 [az x,az y] [] (.ret (kR (t _ fun _=>oI x y))) []:=by
 refine bC ht (aE:=[]) Tryz.func220 (c:=_) rfl rfl (N:=20) rfl (rs:=_) rfl (n:=0) rfl rfl ?_
 cbv
 refine ay trivial (SE ht _) trivial rfl rfl (fun r0 bE=>?_)
 simp only [ht] at bE
 cbv
 refine ay trivial (SE ht _) trivial rfl rfl (fun r1 cX=>?_)
 simp only [ht] at cX
 cbv
 refine ai (fun h2=>?_) (fun h2=>?_)
 ·cbv
  refine ai (fun h3=>?_) (fun h3=>?_)
  ·cbv
   refine an trivial trivial rfl rfl rfl ?_
   (simp only [ht,oI];grind)
  cbv
  refine an trivial trivial rfl rfl rfl ?_
  (simp only [ht,oI];grind)
 cbv
 refine ai (fun h4=>?_) (fun h4=>?_)
 ·cbv
  refine an trivial trivial rfl rfl rfl ?_
  (simp only [ht,oI];grind)
 cbv
 refine ai (fun h5=>?_) (fun h5=>?_)
 ·simp [ht] at h5
  cbv
  refine an trivial trivial rfl rfl rfl ?_
  (simp [oI, *];done)
 simp [ht] at h5
 cbv
 refine ai (fun h6=>?_) (fun h6=>?_)
 ·simp [ht] at h6
  cbv
  refine an trivial trivial rfl rfl rfl ?_
  (simp [oI, *];done)
 simp [ht] at h6
 cbv
 refine an trivial trivial rfl rfl rfl ?_
 (simp only [ht,oI];grind)
def cmpL:List Int→List Int→Int
 |x::r,y::s=>if oI x y≠0 then oI x y else cmpL r s
 |_,_=>0
theorem LZ (ht:TT t) {l m:List Int} {es fs:List (List D)} (aF:es=l.map Int.cells) (qL:fs=m.map Int.cells) (hlm:l.length=m.length) (hl:l.length<1000000000):
 FC 197 [SL es,SL fs] [] (.ret (kR (t _ fun _=>cmpL l m))) []:=by
 refine bC ht (aE:=[]) Tryz.func197 (c:=_) rfl rfl (N:=36) rfl (rs:=_) rfl (n:=0) rfl rfl ?_
 cbv
 have ar:es.length=l.length:=by rw [aF,lgM]
 have cD:fs.length=m.length:=by rw [qL,lgM]
 obtain ⟨J0,eg⟩:∃J0:Nat→Int→Prop,∀n i,J0 n i↔(∃k:Nat,i=k∧k+n=l.length∧l.length=m.length∧cmpL l m=cmpL (l.drop k) (m.drop k)):=⟨fun n v=>match v with|i=>(∃k:Nat,i=k∧k+n=l.length∧l.length=m.length∧cmpL l m=cmpL (l.drop k) (m.drop k)),fun _ _=>Iff.rfl⟩
 refine aZ ⟨[0,1,9,10,11],[],[]⟩ (σ:=Int) (fun v=>[(11,.d (.int .i64 (t _ fun _=>v)))]) (fun v=>[]) J0 ?_
 cbv
 refine aA ⟨l.length,_,(eg _ _).2 ?_,by simp only [ht];rfl,?_⟩
 ·exact ⟨0,rfl,by simp,by omega,by simp⟩
 rintro n i hj
 replace hj:=(eg _ _).1 hj
 obtain ⟨k,rfl,j1,j2,j4⟩:=hj
 cbv
 refine ai (fun h1=>?_) (fun h1=>?_)
 ·simp [ht,aa,ar] at h1
  cbv
  refine dg ht aF (cT:=Int.aH t) (by (simp only [ht,aa];omega)) (by (simp only [ht,aa];omega)) (fun _=>rfl) (fun _=>rfl) (fun x2 iw=>?_)
  simp [ht,aa] at iw
  rw [bO iw] at j4
  cbv
  refine ai (fun h3=>?_) (fun h3=>?_)
  ·simp [ht,aa,cD] at h3
   omega
  simp [ht,aa,cD] at h3
  cbv
  refine dg ht qL (cT:=Int.aH t) (by (simp only [ht,aa];omega)) (by (simp only [ht,aa];omega)) (fun _=>rfl) (fun _=>rfl) (fun x4 qt=>?_)
  simp [ht,aa] at qt
  rw [bO qt] at j4
  cbv
  refine ay trivial (X3 ht _ _) trivial rfl rfl (fun r5 jA=>?_)
  simp only [ht] at jA
  cbv
  refine ai (fun h6=>?_) (fun h6=>?_)
  ·simp [ht] at h6
   cbv
   refine an trivial trivial rfl rfl rfl ?_
   (simp only [ht];rw [j4,cmpL,←jA,if_pos (by assumption)];done)
  simp [ht] at h6
  cbv
  refine bf _ (by simp only [ht];rfl) (n-1) ?_ ((eg _ _).2 ?_)
  ·omega
  simp only [aa]
  exact ⟨k+1,aC (by omega),by omega,by omega,by rw [j4,cmpL,←jA,if_neg (by omega)]⟩
 simp [ht,aa,ar] at h1
 cbv
 refine ai (fun h7=>?_) (fun h7=>?_)
 ·simp [ht,aa,ar,cD] at h7
  omega
 simp [ht,aa,ar,cD] at h7
 cbv
 refine an trivial trivial rfl rfl rfl ?_
 (simp [ht,j4,List.drop_eq_nil_of_le (show l.length≤k by omega),cmpL];done)
theorem SF (a0 a1 a2 a3 b0 b1 b2 b3:Int):cmpL [a0,a1,a2,a3] [b0,b1,b2,b3]=uE ⟨a0,a1,a2,a3⟩ ⟨b0,b1,b2,b3⟩:=by
 simp only [cmpL,uE]
 by_cases h0:oI a0 b0=0<;>by_cases h1:oI a1 b1=0<;>by_cases h2:oI a2 b2=0<;>by_cases h3:oI a3 b3=0<;>simp [h0,h1,h2,h3]
theorem Pg (ht:TT t) (a0 a1 a2 a3 b0 b1 b2 b3:Int):FC 159 [V4 a0 a1 a2 a3,V4 b0 b1 b2 b3] [] (.ret (kR (t _ fun _=>uE ⟨a0,a1,a2,a3⟩ ⟨b0,b1,b2,b3⟩))) []:=by
 obtain ⟨o,ho⟩:∃o,o=uE ⟨a0,a1,a2,a3⟩ ⟨b0,b1,b2,b3⟩:=⟨_,rfl⟩
 rw [←ho]
 refine bC ht (aE:=[]) Tryz.func159 (c:=_) rfl rfl (N:=8) rfl (rs:=_) rfl (n:=0) rfl rfl ?_
 cbv
 (apply DF [] (.more 0 (.one 1 (.one 2 (.one 3 .done))) (.one 1 (.one 0 (.one 2 (.one 3 .done)))));kernel_rfl;kernel_rfl;kernel_rfl;kernel_rfl;(next=>cbv;repeat (first|(refine aS trivial (LZ ht (l:=[a0,a1,a2,a3]) (m:=[b0,b1,b2,b3]) rfl rfl rfl (by simp)) trivial rfl rfl rfl (fun r0 bE=>?_);simp only [ht,SF,←ho] at bE;subst r0;cbv)|refine And.intro ?_ ?_)))
 cbv
 refine an trivial trivial rfl rfl rfl ?_
 (simp [ht];done)
end Dem
end
