/- Parts of a proof, joined. -/
import Derived.Test.YtihohjnkkalgiaaGreatDoorM26
import Derived.Test.YtihohjnkkalgiaaGreatDoorM39
set_option linter.all false
set_option maxRecDepth 100000
set_option maxHeartbeats 4000000
section
open Go Dem Go.Proofs
namespace Dem
variable {t:Th}
theorem DB (j:Int):∀(l:List ej),(qp (l.map ej.cells) (.int .u64 j)=none∧fB l j=0)∨(qp (l.map ej.cells) (.int .u64 j)=some [.int .i64 (fB l j)]∧j∈l.map ej.bA∧∃m∈l,fB l j=m.cnt)
 |[]=>.inl ⟨rfl,rfl⟩
 |m::l=>by
  simp only [List.map_cons,ej.cells,qp,nG]
  by_cases h:j=m.bA
  ·subst h
   have e:fB (m::l) m.bA=m.cnt:=by simp [fB]
   rw [e];exact .inr ⟨by simp,by simp,m,by simp,rfl⟩
  have h2:¬m.bA=j:=fun e=>h e.symm
  have e:fB (m::l) j=fB l j:=by simp [fB,h2]
  rw [e]
  simp only [h,decide_false]
  rcases DB j l with ⟨a,b⟩|⟨a,b,m',c,d⟩
  ·exact .inl ⟨by simpa using a,b⟩
  exact .inr ⟨by simpa using a,by simp [b],m',by simp [c],d⟩
theorem H8 {u:List (List D)} {l:List ej} (hu:u=l.map ej.cells) {j:Int} {c:Prop} {o:Option (List D)} {K:Option (List D)→Prop} (hc:c) (ho:o=qp u (.int .u64 j)) (h0:fB l j=0→K none) (h1:∀x,x=fB l j→j∈l.map ej.bA→(∃m∈l,x=m.cnt)→K (some [.int .i64 x])):DS true c o K:=by
 subst hu
 rcases DB j l with ⟨a,b⟩|⟨a,b,d⟩
 ·exact ⟨none,fun _=>⟨hc,ho.trans a⟩,h0 b⟩
 exact ⟨_,fun _=>⟨hc,ho.trans a⟩,h1 _ rfl b d⟩
theorem vP {u:List (List D)} {l:List ej} (hu:u=l.map ej.cells):∀r∈u,rowIs (.int .u64) 1 r:=by
 subst hu;intro r hr;obtain ⟨m,_,rfl⟩:=List.mem_map.1 hr;exact ⟨_,_,rfl,rfl,rfl⟩
def vQ (m:List ej) (j:Jb):List ej:=if j.runs then eD m j.id j.x.count else m
theorem uo {l:List Jb} {k:Nat} {x:Jb} (h:l[k]?=some x):jH (l.take (k+1))=vQ (jH (l.take k)) x:=by
 unfold jH;rw [dA h,List.foldl_append];rfl
structure KI (l:List Jb) (w:List ej):Prop where
 nodup:(w.map ej.bA).Nodup
 bA:∀m∈w,∃j∈l,m.bA=j.id
 cnt:∀m∈w,m.cnt<9223372036854775808
 len:w.length≤l.length
theorem pN {l:List ej} {j c:Int} {m:ej} (h:m∈eD l j c):m=⟨j,c⟩∨m∈l:=by
 induction l with
 |nil=>simp [eD] at h;exact .inl h
 |cons x l ih=>
  unfold eD at h
  split at h
  ·rcases List.mem_cons.1 h with h|h
   ·exact .inl h
   exact .inr (by simp [h])
  rcases List.mem_cons.1 h with h|h
  ·exact .inr (by simp [h])
  rcases ih h with h|h
  ·exact .inl h
  exact .inr (by simp [h])
theorem KJ (l:List ej) (j c:Int):(eD l j c).length≤l.length+1:=by
 have:=congrArg List.length (fV l j c)
 rw [lgM] at this
 rw [this];split<;>simp
theorem H9 (L:List Jb) (hc:∀x∈L,x.x.count<9223372036854775808):∀k≤L.length,KI L (jH (L.take k))∧(jH (L.take k)).length≤k
 |0,_=>⟨⟨by simp [jH],by simp [jH],by simp [jH],by simp [jH]⟩,by simp [jH]⟩
 |k+1,hk=>by
  obtain ⟨⟨a1,a2,a3,a4⟩,a5⟩:=H9 L hc k (by omega)
  obtain ⟨x,hx⟩:∃x,L[k]?=some x:=⟨_,List.getElem?_eq_getElem (by omega)⟩
  have mE:=List.mem_of_getElem? hx
  rw [uo hx]
  unfold vQ
  split
  ·have:=KJ (jH (L.take k)) x.id x.x.count
   refine ⟨⟨pE a1 _ _,fun m hm=>?_,fun m hm=>?_,by omega⟩,by omega⟩
   ·rcases pN hm with rfl|hm
    ·exact ⟨x,mE,rfl⟩
    exact a2 m hm
   rcases pN hm with rfl|hm
   ·exact hc x mE
   exact a3 m hm
  exact ⟨⟨a1,a2,a3,a4⟩,by omega⟩
theorem Rs {L:List Jb} {w W:List ej} (h:w.map ej.bA=W.map ej.bA) (hW:KI L W) (hid:∀x∈L,0≤x.id∧x.id<18446744073709551616) (hl:L.length<1000000):Ro w where
 nodup:=by rw [h];exact hW.nodup
 bA:=fun m hm=>by
  have:m.bA∈W.map ej.bA:=by rw [←h];exact List.mem_map_of_mem hm
  obtain ⟨m',hm',e⟩:=List.mem_map.1 this
  obtain ⟨j,hj,e2⟩:=hW.bA m' hm'
  rw [←e,e2];exact hid j hj
 len:=by have:=congrArg List.length h;simp at this;have:=hW.len;omega
theorem N2 (ht:TT t) (rd nx ef af:Int) {nl:List Node} {pl:List Place} {tl:List be} {jl:List Jb} {ql:List bZ} {el al:List dQ} {ns ps ts js qs es bV:List (List D)} (eV:ns=nl.map Node.cells) (hps:ps=pl.map Place.cells) (hts:ts=tl.map be.cells) (ek:js=jl.map Jb.cells) (dV:qs=ql.map bZ.cells) (aB:es=el.map dQ.cells) (has:bV=al.map dQ.cells) (hid:∀x∈jl,(0≤x.id∧x.id<18446744073709551616)∧x.x.count<9223372036854775808) (hjl:jl.length<1000000) (Ed:pl.length<1000000):
 FC 85 [.agg [aA rd,aA nx,SL ns,SL ps,SL ts,SL js,SL qs,aA ef,SL es,aA af,SL bV]] [] (.ret (bX (t _ fun _=>lD ⟨rd,nx,⟨nl,pl⟩,tl,jl,ql,⟨ef,el⟩,⟨af,al⟩⟩))) []:=by
 refine fcM ht 6 Tryz.func85 rfl rfl (N:=74) rfl rfl rfl (q:=2) (kv:=.d (.bool false)) rfl (by decide) (by decide) (by decide) ⟨rfl,rfl,rfl⟩ ⟨rfl,rfl,rfl⟩ ⟨rfl,rfl,rfl⟩ ⟨rfl,rfl,rfl⟩ ⟨rfl,rfl,rfl⟩ ⟨rfl,rfl,rfl⟩ ⟨rfl,rfl,rfl⟩ ⟨rfl,rfl,rfl⟩ ⟨rfl,rfl,rfl⟩ Tryz.underlying192 ?_
 cbv
 have aX:ns.length=nl.length:=by rw [eV,lgM]
 have aZ:ps.length=pl.length:=by rw [hps,lgM]
 have bc:ts.length=tl.length:=by rw [hts,lgM]
 have aQ:js.length=jl.length:=by rw [ek,lgM]
 have aI:qs.length=ql.length:=by rw [dV,lgM]
 have ap:es.length=el.length:=by rw [aB,lgM]
 have aG:bV.length=al.length:=by rw [has,lgM]
 obtain ⟨J0,dR⟩:∃J0:Nat→Int×List (List D)→Prop,∀n i u,J0 n (i,u)↔(∃(k:Nat),i=k∧k+n=jl.length∧u=(jH (jl.take k)).map ej.cells):=⟨fun n v=>match v with|(i,u)=>(∃(k:Nat),i=k∧k+n=jl.length∧u=(jH (jl.take k)).map ej.cells),fun _ _ _=>Iff.rfl⟩
 refine bF ⟨[1,2,3,15,16,17],[],[]⟩ (σ:=Int×List (List D)) (fun v=>[(17,.d (.int .i64 (t _ fun _=>v.1)))]) (fun v=>[(1,.mp false (t _ fun _=>v.2))]) J0 ?_
 cbv
 refine aD ⟨jl.length,(_,_),(dR _ _ _).2 ?_,by simp only [ht];rfl,?_⟩
 ·exact ⟨0,rfl,by simp,by simp [jH]⟩
 rintro n ⟨i,u⟩ hj
 replace hj:=(dR _ _ _).1 hj
 obtain ⟨k,rfl,q1,q6⟩:=hj
 cbv
 refine an (fun h1=>?_) (fun h1=>?_)
 ·simp [ht,aa,aQ] at h1
  cbv
  refine fP ht ek (cT:=Jb.aU t) (by (simp only [ht,aa];omega)) (by (simp only [ht,aa];omega)) (fun _=>rfl) (fun _=>(by (simp only [ht,Jb.aU];rfl))) (fun x2 fZ=>?_)
  simp [ht,aa] at fZ
  cbv
  refine an (fun h3=>?_) (fun h3=>?_)
  ·cbv
   refine ⟨?_,?_⟩
   ·(simp only [ht];exact ⟨⟨rfl,rfl,vP q6⟩,trv⟩)
   cbv
   refine bQ (_,_) (by simp only [ht];rfl) (n-1) ?_ ((dR _ _ _).2 ?_)
   ·omega
   simp only [aa]
   exact ⟨k+1,aC (by omega),by omega,by rw [uo fZ,vQ,q6,oc,if_pos h3]⟩
  cbv
  refine bQ (_,_) (by simp only [ht];rfl) (n-1) ?_ ((dR _ _ _).2 ?_)
  ·omega
  simp only [aa]
  exact ⟨k+1,aC (by omega),by omega,by rw [uo fZ,vQ,q6,if_neg (by simp [h3])]⟩
 simp [ht,aa,aQ] at h1
 cbv
 obtain ⟨W,hW⟩:∃W,W=jH jl:=⟨_,rfl⟩
 have hw0:jl.length≤k→jH (jl.take k)=W:=fun h=>by rw [hW,List.take_of_length_le h]
 have hWo:KI jl W:=by have:=(H9 jl (fun x hx=>(hid x hx).2) jl.length (Nat.le_refl _)).1;rw [List.take_length,←hW] at this;exact this
 obtain ⟨J4,HF⟩:∃J4:Nat→Bool×Int×List (List D)→Prop,∀m rb i u,J4 m (rb,i,u)↔(rb=false∧∃(k:Nat) (w:List ej),i=k∧k+m=pl.length∧u=w.map ej.cells∧w.map ej.bA=W.map ej.bA∧(∀x∈w,x.cnt<9223372036854775808)∧gP jl pl W=gP jl (pl.drop k) w):=⟨fun m v=>match v with|(rb,i,u)=>(rb=false∧∃(k:Nat) (w:List ej),i=k∧k+m=pl.length∧u=w.map ej.cells∧w.map ej.bA=W.map ej.bA∧(∀x∈w,x.cnt<9223372036854775808)∧gP jl pl W=gP jl (pl.drop k) w),fun _ _ _ _=>Iff.rfl⟩
 refine bF ⟨[1,2,3,33,34,35],[],[]⟩ (σ:=Bool×Int×List (List D)) (fun v=>[(2,.d (.bool (t _ fun _=>v.1))),(35,.d (.int .i64 (t _ fun _=>v.2.1)))]) (fun v=>[(1,.mp false (t _ fun _=>v.2.2))]) J4 ?_
 cbv
 refine aD ⟨pl.length,(_,_,_),(HF _ _ _ _).2 ?_,by simp only [ht];rfl,?_⟩
 ·exact ⟨rfl,0,W,rfl,by simp,by rw [q6,hw0 (by omega)],rfl,hWo.cnt,rfl⟩
 rintro m ⟨rb,i,u⟩ hj
 replace hj:=(HF _ _ _ _).1 hj
 obtain ⟨q0,k,w,rfl,q1,q6,q7,q8,q9⟩:=hj
 have vH:u.length=w.length:=by rw [q6,lgM]
 cbv
 refine an (fun h5=>?_) (fun h5=>?_)
 ·simp [ht,aa,aZ] at h5
  cbv
  refine fP ht hps (cT:=Place.aU t) (by (simp only [ht,aa];omega)) (by (simp only [ht,aa];omega)) (fun _=>rfl) (fun _=>rfl) (fun x6 mx6=>?_)
  simp [ht,aa] at mx6
  rw [dU mx6,gP] at q9
  cbv
  refine aE trv (ij ht _ _ _ _ _ _ _ _ _ _ _ ‹_› (by omega)) trv rfl rfl rfl (fun r7 pK=>?_)
  simp only [ht] at pK
  rw [←pK] at q9
  cbv
  refine H8 q6 (by simp only [ht];exact ⟨rfl,rfl,vP q6⟩) (by simp only [ht]<;>rfl) (fun w9=>?_) (fun c9 w9 w10 ZD=>?_)
  ·cbv
   iterate 6 refine gI (by simp [ht]) ?_
   refine pI (by simp [ht]) ?_
   refine an (fun h8=>?_) (fun h8=>?_)
   ·simp [ht] at h8
    cbv
    refine av trv trv rfl rfl rfl ?_
    have e:gP jl pl W=none:=(by rw [q9,if_pos (by omega)]);simp only [ht,lD,←hW,e];done
   simp [ht] at h8
  cbv
  iterate 6 refine gI (by simp [ht]) ?_
  refine pI (by simp [ht]) ?_
  refine an (fun h9=>?_) (fun h9=>?_)
  ·simp [ht] at h9
   cbv
   refine av trv trv rfl rfl rfl ?_
   have e:gP jl pl W=none:=(by rw [q9];split;rfl;rw [if_pos];rw [Ep];rcases h9 with h9|h9;(exfalso;omega);(intro hh;simp [hh] at h9));simp only [ht,lD,←hW,e];done
  simp [ht] at h9
  cbv
  refine H8 q6 (by simp only [ht];exact ⟨rfl,rfl,vP q6⟩) (by simp only [ht]<;>rfl) (fun w9=>?_) (fun c9 w9 w10 ZD=>?_)
  ·cbv
   refine ⟨?_,?_⟩
   ·(simp only [ht];exact ⟨⟨rfl,rfl,vP q6⟩,trv⟩)
   cbv
   refine bQ (_,_,_) (by simp only [ht];rfl) (m-1) ?_ ((HF _ _ _ _).2 ?_)
   ·omega
   simp only [aa]
   refine ⟨q0,k+1,eD w (x6).bA (c9-1),aC (by omega),by omega,?_,?_,?_,?_⟩
   ·(simp_all;done)
   ·(rw [fV,if_pos w10,q7];done)
   ·(intro y hy;obtain ⟨mm,MT,em⟩:=ZD;have hq8:=q8 mm MT;rcases pN hy with rfl|hy;(show c9-1<_;omega);exact q8 y hy)
   (simp_all;done)
  cbv
  refine ⟨?_,?_⟩
  ·(simp only [ht];exact ⟨⟨rfl,rfl,vP q6⟩,trv⟩)
  cbv
  refine bQ (_,_,_) (by simp only [ht];rfl) (m-1) ?_ ((HF _ _ _ _).2 ?_)
  ·omega
  simp only [aa]
  refine ⟨q0,k+1,eD w (x6).bA (c9-1),aC (by omega),by omega,?_,?_,?_,?_⟩
  ·(obtain ⟨mm,MT,em⟩:=ZD;have hq8:=q8 mm MT;rw [q6,oc,wrap64 (by omega) (by omega)];done)
  ·(rw [fV,if_pos w10,q7];done)
  ·(intro y hy;obtain ⟨mm,MT,em⟩:=ZD;have hq8:=q8 mm MT;rcases pN hy with rfl|hy;(show c9-1<_;omega);exact q8 y hy)
  rw [q9,if_neg (by omega),if_neg (by rw [Ep];simp [h9.2]),w9];done
 simp [ht,aa,aZ] at h5
 cbv
 refine ⟨?_,?_⟩
 ·(simp [ht];omega)
 cbv
 refine ⟨1,w,_,rfl,rfl,by simp only [ht];exact q6,Rs q7 hWo (fun x hx=>(hid x hx).1) hjl,fun hg=>?_,fun hg=>?_⟩
 ·cbv
  refine av trv trv rfl rfl rfl ?_
  rw [List.drop_eq_nil_of_le (by omega),gP] at q9;simp only [ht,lD,←hW,q9,hg];done
 cbv
 refine av trv trv rfl rfl rfl ?_
 rw [List.drop_eq_nil_of_le (by omega),gP] at q9;simp only [ht,lD,←hW,q9,hg];done
theorem Ia (ht:TT t) (a b:Int) {l:List bZ} {es:List (List D)} (aB:es=l.map bZ.cells) (hl:l.length<1000000000):
 FC 181 [SL es,.agg [aA a,bI b]] [] (.ret (gm (t _ fun _=>HG (⟨a,b⟩:bZ) l))) []:=by
 refine bH ht (aF:=[]) Tryz.func181 rfl rfl (N:=19) rfl rfl (n:=0) rfl rfl ?_
 cbv
 have ap:es.length=l.length:=by rw [aB,lgM]
 obtain ⟨J0,dR⟩:∃J0:Nat→Int→Prop,∀n i,J0 n i↔(∃k:Nat,i=k∧k+n=l.length∧∀i<k,∀y,l[i]?=some y→(⟨a,b⟩:bZ)≠y):=⟨fun n v=>match v with|i=>(∃k:Nat,i=k∧k+n=l.length∧∀i<k,∀y,l[i]?=some y→(⟨a,b⟩:bZ)≠y),fun _ _=>Iff.rfl⟩
 refine bF ⟨[0,3,7,8],[],[]⟩ (σ:=Int) (fun v=>[(8,.d (.int .i64 (t _ fun _=>v)))]) (fun v=>[]) J0 ?_
 cbv
 refine aD ⟨l.length,_,(dR _ _).2 ?_,by simp only [ht];rfl,?_⟩
 ·exact ⟨0,rfl,by simp,fun i hi=>by omega⟩
 rintro n i hj
 replace hj:=(dR _ _).1 hj
 obtain ⟨k,rfl,j1,j4⟩:=hj
 cbv
 refine an (fun h1=>?_) (fun h1=>?_)
 ·simp [ht,aa,ap] at h1
  cbv
  refine cO [false,false,false,false,false,true] (by kernel_rfl) (by kernel_rfl) ?_
  cbv
  iterate 3 refine gI (by simp) ?_
  refine fP ht aB (cT:=bZ.aU t) (by (simp only [ht,aa];omega)) (by (simp only [ht,aa];omega)) (fun _=>rfl) (fun _=>rfl) (fun x2 fZ=>?_)
  simp [ht,aa] at fZ
  cbv
  refine gI (by simp) ?_
  refine an (fun h3=>?_) (fun h3=>?_)
  ·simp [ht] at h3
   cbv
   refine av trv trv rfl rfl rfl ?_
   simp only [ht];rw [EL fZ (by rw [Q4];simp_all) j4];done
  simp [ht] at h3
  cbv
  refine bQ _ (by simp only [ht];rfl) (n-1) ?_ ((dR _ _).2 ?_)
  ·omega
  simp only [aa]
  exact ⟨k+1,aC (by omega),by omega,wQ j4 fZ (by rw [ne_eq,Q4];simp_all)⟩
 simp [ht,aa,ap] at h1
 cbv
 refine av trv trv rfl rfl rfl ?_
 simp only [ht];rw [EM (by omega) j4];done
theorem N3 (ht:TT t) (a b:Int) {l:List bZ} {es:List (List D)} (aB:es=l.map bZ.cells) (hl:l.length<1000000000):
 FC 134 [SL es,.agg [aA a,bI b]] [] (.ret (bX (t _ fun _=>l.contains ⟨a,b⟩))) []:=by
 refine bH ht (aF:=[]) Tryz.func134 rfl rfl (N:=9) rfl rfl (n:=0) rfl rfl ?_
 cbv
 have ap:es.length=l.length:=by rw [aB,lgM]
 refine aM trv (Ia ht _ _ ‹_› ‹_›) trv rfl rfl (fun r0 cN=>?_)
 simp only [ht] at cN
 cbv
 refine av trv trv rfl rfl rfl ?_
 simp [ht,cN,Bl];done
def kW (l:List Jb) (k:Nat):Option Int:=match k with
 |0=>none
 |k+1=>(l[k]?).map (·.id)
theorem TZ {s:bE} {l:List Jb} {k:Nat} {y:Jb} (hy:0<k→l[k-1]?=some y) (j:Jb):Sb s (kW l k) j=
 (if ((((decide (j.id<1)||decide (s.next≤j.id))||(decide (0<k)&&decide (j.id≤y.id)))||!decide (dZ j.x=0))||!gH s.tree j.x.path)=true then false else
  if j.runs then decide (1≤j.left)&&decide (j.left≤j.x.fq) else decide (j.left=0)&&s.queue.contains ⟨j.id,j.x.prio⟩):=by
 unfold Sb
 cases k with
 |zero=>
  simp only [kW]
  by_cases a:j.id<1
  ·simp [a]
  by_cases b:s.next≤j.id
  ·simp [a,b]
  by_cases c:dZ j.x=0
  ·cases d:gH s.tree j.x.path<;>simp [a,b,c]
  simp [a,b,c]
 |succ k=>
  have hy:=hy (by omega)
  simp only [Nat.add_sub_cancel] at hy
  simp only [kW,hy,Option.map_some]
  by_cases a:j.id<1
  ·simp [a]
  by_cases b:s.next≤j.id
  ·simp [a,b]
  by_cases e:j.id≤y.id
  ·simp [a,b,e]
  by_cases c:dZ j.x=0
  ·cases d:gH s.tree j.x.path<;>simp [a,b,c,e]
  simp [a,b,c,e]
theorem Wt (ht:TT t) (rd nx ef af:Int) {nl:List Node} {pl:List Place} {tl:List be} {jl:List Jb} {ql:List bZ} {el al:List dQ} {ns ps ts js qs es bV:List (List D)} (eV:ns=nl.map Node.cells) (hps:ps=pl.map Place.cells) (hts:ts=tl.map be.cells) (ek:js=jl.map Jb.cells) (dV:qs=ql.map bZ.cells) (aB:es=el.map dQ.cells) (has:bV=al.map dQ.cells) {z:Int} (k:Nat) (hz:z=k) (hk:k<jl.length) (ji ja jb jc jd jn jp jt jf:Int) (jq:aH) (jr:Bool) {mF:List Term} {BE:List (List D)} (vM:BE=mF.map Term.cells) (hx:(⟨jq,⟨ja,jb,jc,jd⟩,jn,jp,jt,mF⟩:Ask).sm) (htl:tl.length<100000) (hjl:jl.length<1000000) (TV:ql.length<1000000):
 FC 83 [.agg [aA rd,aA nx,SL ns,SL ps,SL ts,SL js,SL qs,aA ef,SL es,aA af,SL bV],bI z,.agg [aA ji,ST jq,aA ja,aA jb,aA jc,aA jd,bI jn,bI jp,bI jt,SL BE,BL jr,bI jf]] [] (.ret (bX (t _ fun _=>Sb ⟨rd,nx,⟨nl,pl⟩,tl,jl,ql,⟨ef,el⟩,⟨af,al⟩⟩ (kW jl k) ⟨ji,⟨jq,⟨ja,jb,jc,jd⟩,jn,jp,jt,mF⟩,jr,jf⟩))) []:=by
 subst hz
 obtain ⟨h1,h2,h3,h4⟩:=id hx
 simp only at h1 h2 h3 h4
 obtain ⟨y,hy⟩:∃y,0<k→jl[k-1]?=some y:=⟨jl.getD (k-1) Jb.zero,fun _=>by rw [List.getD_eq_getElem?_getD,List.getElem?_eq_getElem (by omega)];rfl⟩
 rw [TZ hy]
 refine bH ht (aF:=[]) Tryz.func83 rfl rfl (N:=79) rfl rfl (n:=0) rfl rfl ?_
 cbv
 have aX:ns.length=nl.length:=by rw [eV,lgM]
 have aZ:ps.length=pl.length:=by rw [hps,lgM]
 have bc:ts.length=tl.length:=by rw [hts,lgM]
 have aQ:js.length=jl.length:=by rw [ek,lgM]
 have aI:qs.length=ql.length:=by rw [dV,lgM]
 have ap:es.length=el.length:=by rw [aB,lgM]
 have aG:bV.length=al.length:=by rw [has,lgM]
 have zB:BE.length=mF.length:=by rw [vM,lgM]
 refine cO [true,true,true,true,false,false,false,false,false,true,true,true,true,true,true,false,false,false,false,false,false,false,false,false,false,true,true,true,true,true,true,true,true,true,true,false,false,false,false,false,false,true,true,true] (by kernel_rfl) (by kernel_rfl) ?_
 cbv
 iterate 17 first|refine gI (by simp [ht]) ?_|refine pI (by simp [ht]) ?_
 refine G1 ht ek (cT:=Jb.aU t) (k-1) (fun g=>by simp [ht] at g ⊢;simp [g]) (fun g=>by simp [ht] at g;simp only [ht];exact ⟨pe (by omega) (by omega),by omega⟩) (fun _=>rfl) (fun _=>by simp only [ht,Jb.aU];rfl) (fun y9 my=>?_);simp [ht] at my
 cbv
 iterate 3 refine gI (by simp [ht]) ?_
 refine gI (by simp [ht,ah];intros;simp_all) ?_
 refine pI (by simp [ht]) ?_
 iterate 2 refine gI (by simp [ht]) ?_
 refine bJ (fun g0=>⟨by simp [ht] at g0 ⊢;exact g0,trv,wR ht _ _ _ _ _ _ _ _ ‹_› ‹_›⟩) rfl rfl (fun r1 dL=>?_)
 simp only [ht] at dL
 cbv
 refine gI (by simp [ht]) ?_
 refine pI (by simp [ht];omega) ?_
 iterate 6 refine gI (by simp [ht]) ?_
 refine bJ (fun g2=>⟨by simp [ht] at g2 ⊢;exact g2,trv,wS ht _ ‹_› (by omega) ‹_›⟩) rfl rfl (fun r3 iV=>?_)
 simp only [ht] at iV
 cbv
 refine gI (by simp [ht]) ?_
 refine pI (by simp [ht];omega) ?_
 refine an (fun h4=>?_) (fun h4=>?_)
 ·simp [ht] at h4
  cbv
  refine av trv trv rfl rfl rfl ?_
  simp only [ht];grind
 simp [ht] at h4
 cbv
 refine an (fun h5=>?_) (fun h5=>?_)
 ·cbv
  iterate 6 refine gI (by simp [ht]) ?_
  refine pI (by simp [ht]) ?_
  refine av trv trv rfl rfl rfl ?_
  simp only [ht];grind
 cbv
 iterate 9 refine gI (by simp [ht]) ?_
 refine bJ (fun g6=>⟨by simp [ht] at g6 ⊢;exact g6,trv,N3 ht _ _ ‹_› (by omega)⟩) rfl rfl (fun r7 pK=>?_)
 simp only [ht] at pK
 cbv
 refine pI (by simp [ht]) ?_
 refine av trv trv rfl rfl rfl ?_
 simp only [ht];grind
theorem N4 {l:List Jb} {k:Nat} {x:Jb} (h:l[k]?=some x):gY (l.drop k)=(if x.runs then 0 else 1)+gY (l.drop (k+1)):=by
 rw [dU h]
 unfold gY
 cases hx:x.runs<;>simp [hx];omega
theorem Rt (ht:TT t) (rd nx ef af:Int) {nl:List Node} {pl:List Place} {tl:List be} {jl:List Jb} {ql:List bZ} {el al:List dQ} {ns ps ts js qs es bV:List (List D)} (eV:ns=nl.map Node.cells) (hps:ps=pl.map Place.cells) (hts:ts=tl.map be.cells) (ek:js=jl.map Jb.cells) (dV:qs=ql.map bZ.cells) (aB:es=el.map dQ.cells) (has:bV=al.map dQ.cells) (hjl:jl.length<1000000):
 FC 84 [.agg [aA rd,aA nx,SL ns,SL ps,SL ts,SL js,SL qs,aA ef,SL es,aA af,SL bV]] [] (.ret (gm (t _ fun _=>(gY jl:Int)))) []:=by
 refine bH ht (aF:=[]) Tryz.func84 rfl rfl (N:=21) rfl rfl (n:=0) rfl rfl ?_
 cbv
 have aX:ns.length=nl.length:=by rw [eV,lgM]
 have aZ:ps.length=pl.length:=by rw [hps,lgM]
 have bc:ts.length=tl.length:=by rw [hts,lgM]
 have aQ:js.length=jl.length:=by rw [ek,lgM]
 have aI:qs.length=ql.length:=by rw [dV,lgM]
 have ap:es.length=el.length:=by rw [aB,lgM]
 have aG:bV.length=al.length:=by rw [has,lgM]
 obtain ⟨J0,dR⟩:∃J0:Nat→Int×Int→Prop,∀n c i,J0 n (c,i)↔(∃k w:Nat,i=k∧c=w∧k+n=jl.length∧w≤k∧gY jl=w+gY (jl.drop k)):=⟨fun n v=>match v with|(c,i)=>(∃k w:Nat,i=k∧c=w∧k+n=jl.length∧w≤k∧gY jl=w+gY (jl.drop k)),fun _ _ _=>Iff.rfl⟩
 refine bF ⟨[3,8,9,10],[],[]⟩ (σ:=Int×Int) (fun v=>[(3,.d (.int .i64 (t _ fun _=>v.1))),(10,.d (.int .i64 (t _ fun _=>v.2)))]) (fun v=>[]) J0 ?_
 cbv
 refine aD ⟨jl.length,(_,_),(dR _ _ _).2 ?_,by simp only [ht];rfl,?_⟩
 ·exact ⟨0,0,rfl,rfl,by simp,by omega,by simp⟩
 rintro n ⟨c,i⟩ hj
 replace hj:=(dR _ _ _).1 hj
 obtain ⟨k,w,rfl,rfl,j1,j2,j4⟩:=hj
 cbv
 refine an (fun h1=>?_) (fun h1=>?_)
 ·simp [ht,aa,aQ] at h1
  cbv
  refine fP ht ek (cT:=Jb.aU t) (by (simp only [ht,aa];omega)) (by (simp only [ht,aa];omega)) (fun _=>rfl) (fun _=>(by (simp only [ht,Jb.aU];rfl))) (fun x2 fZ=>?_)
  simp [ht,aa] at fZ
  rw [N4 fZ] at j4
  cbv
  refine an (fun h3=>?_) (fun h3=>?_)
  ·simp [ht] at h3
   cbv
   refine bQ (_,_) (by simp only [ht];rfl) (n-1) ?_ ((dR _ _ _).2 ?_)
   ·omega
   simp only [aa]
   exact ⟨k+1,w+1,aC (by omega),aC (by omega),by omega,by omega,by rw [j4];simp [*];omega⟩
  simp [ht] at h3
  cbv
  refine bQ (_,_) (by simp only [ht];rfl) (n-1) ?_ ((dR _ _ _).2 ?_)
  ·omega
  simp only [aa]
  exact ⟨k+1,w,aC (by omega),rfl,by omega,by omega,by rw [j4];simp [*]⟩
 simp [ht,aa,aQ] at h1
 cbv
 refine av trv trv rfl rfl rfl ?_
 rw [List.drop_eq_nil_of_le (by omega)] at j4;simp only [ht];rw [j4];simp [gY];done
theorem Ru (ht:TT t) (rd nx ef af:Int) {nl:List Node} {pl:List Place} {tl:List be} {jl:List Jb} {ql:List bZ} {el al:List dQ} {ns ps ts js qs es bV:List (List D)} (eV:ns=nl.map Node.cells) (hps:ps=pl.map Place.cells) (hts:ts=tl.map be.cells) (ek:js=jl.map Jb.cells) (dV:qs=ql.map bZ.cells) (aB:es=el.map dQ.cells) (has:bV=al.map dQ.cells) (p:aH) (a b c d e f g h:Int) (hjl:jl.length<1000000) (nD:∀x∈jl,x.x.path.length<1000000000000∧x.x.fK.u'):
 FC 88 [.agg [aA rd,aA nx,SL ns,SL ps,SL ts,SL js,SL qs,aA ef,SL es,aA af,SL bV],.agg [ST p,aA a,aA b,aA c,aA d,aA e,aA f,aA g,aA h]] [] (.ret (bX (t _ fun _=>p8 ⟨rd,nx,⟨nl,pl⟩,tl,jl,ql,⟨ef,el⟩,⟨af,al⟩⟩ ⟨p,⟨a,b,c,d⟩,⟨e,f,g,h⟩⟩))) []:=by
 refine bH ht (aF:=[]) Tryz.func88 rfl rfl (N:=61) rfl rfl (n:=0) rfl rfl ?_
 cbv
 have aX:ns.length=nl.length:=by rw [eV,lgM]
 have aZ:ps.length=pl.length:=by rw [hps,lgM]
 have bc:ts.length=tl.length:=by rw [hts,lgM]
 have aQ:js.length=jl.length:=by rw [ek,lgM]
 have aI:qs.length=ql.length:=by rw [dV,lgM]
 have ap:es.length=el.length:=by rw [aB,lgM]
 have aG:bV.length=al.length:=by rw [has,lgM]
 obtain ⟨J0,dR⟩:∃J0:Nat→Int×Int×Int×Int×Int→Prop,∀n i a' b' c' d',J0 n (i,a',b',c',d')↔(∃k:Nat,i=k∧k+n=jl.length∧m0 p jl bK.zero=m0 p (jl.drop k) ⟨a',b',c',d'⟩):=⟨fun n v=>match v with|(i,a',b',c',d')=>(∃k:Nat,i=k∧k+n=jl.length∧m0 p jl bK.zero=m0 p (jl.drop k) ⟨a',b',c',d'⟩),fun _ _ _ _ _ _=>Iff.rfl⟩
 refine bF ⟨[3,5,14,15,16],[],[]⟩ (σ:=Int×Int×Int×Int×Int) (fun v=>[(16,.d (.int .i64 (t _ fun _=>v.1)))]) (fun v=>[(1,.var [.d (.int .u64 (t _ fun _=>v.2.1)),.d (.int .u64 (t _ fun _=>v.2.2.1)),.d (.int .u64 (t _ fun _=>v.2.2.2.1)),.d (.int .u64 (t _ fun _=>v.2.2.2.2))])]) J0 ?_
 cbv
 refine aD ⟨jl.length,(_,_,_,_,_),(dR _ _ _ _ _ _).2 ?_,by simp only [ht];rfl,?_⟩
 ·exact ⟨0,rfl,by simp,rfl⟩
 rintro n ⟨i,a',b',c',d'⟩ hj
 replace hj:=(dR _ _ _ _ _ _).1 hj
 obtain ⟨k,rfl,j1,j4⟩:=hj
 cbv
 refine an (fun h1=>?_) (fun h1=>?_)
 ·simp [ht,aa,aQ] at h1
  cbv
  refine fP ht ek (cT:=Jb.aU t) (by (simp only [ht,aa];omega)) (by (simp only [ht,aa];omega)) (fun _=>rfl) (fun _=>(by (simp only [ht,Jb.aU];rfl))) (fun x2 fZ=>?_)
  simp [ht,aa] at fZ
  rw [dU fZ,m0] at j4
  have sx2:=nD _ (List.mem_of_getElem? fZ)
  cbv
  iterate 9 refine gI (by simp [ht]) ?_
  refine bJ (fun g3=>⟨by simp [ht] at g3 ⊢;exact g3,trv,Bn ht _ _ (by (simp [*];done))⟩) rfl rfl (fun r4 iA=>?_)
  simp only [ht] at iA
  rw [←iA] at j4
  cbv
  refine gI (by simp [ht]) ?_
  refine gI (by simp [ht,ah];intros;simp_all) ?_
  refine pI (by simp [ht]) ?_
  refine an (fun h5=>?_) (fun h5=>?_)
  ·simp [ht] at h5
   cbv
   refine bQ (_,_,_,_,_) (by simp only [ht];rfl) (n-1) ?_ ((dR _ _ _ _ _ _).2 ?_)
   ·omega
   simp only [aa]
   refine ⟨k+1,aC (by omega),by omega,?_⟩;rw [j4];grind
  simp [ht] at h5
  cbv
  obtain ⟨⟨⟨v1,v2,v3,v4⟩,vk⟩,hv⟩:∃r,r=cU x2.x:=⟨_,rfl⟩;refine aM trv (oo ht x2.x.path x2.x.fK.a x2.x.fK.b x2.x.fK.c x2.x.fK.d x2.x.count x2.x.prio x2.x.fq (sl:=x2.x.bY) _ (nD _ (List.mem_of_getElem? fZ)).2) trv rfl rfl (fun r9 gK=>?_);simp only [ht] at gK;replace gK:=gK.trans hv.symm;subst gK;rw [←hv] at j4;simp only at j4
  cbv
  refine aM trv (Me ht _ _ _ _ _ _ _ _) trv rfl rfl (fun r6 lF=>?_)
  simp only [ht] at lF
  rw [←lF] at j4
  cbv
  iterate 2 refine gI (by simp [ht]) ?_
  refine pI (by simp [ht]) ?_
  refine an (fun h7=>?_) (fun h7=>?_)
  ·simp [ht] at h7
   cbv
   refine av trv trv rfl rfl rfl ?_
   have e:m0 p jl bK.zero=none:=(by rw [j4];grind);simp [ht,p8,e];done
  simp [ht] at h7
  cbv
  refine bQ (_,_,_,_,_) (by simp only [ht];rfl) (n-1) ?_ ((dR _ _ _ _ _ _).2 ?_)
  ·omega
  simp only [aa]
  refine ⟨k+1,aC (by omega),by omega,?_⟩;show _=m0 p (jl.drop (k+1)) (r6.1);rw [j4];grind
 simp [ht,aa,aQ] at h1
 cbv
 refine av trv trv rfl rfl rfl ?_
 rw [List.drop_eq_nil_of_le (by omega),m0] at j4;simp only [ht,p8,j4,Ep,Bool.decide_and];simp;done
theorem N5 (ht:TT t) (p:aH) (a b c d e f g h:Int) {l:List be} {es:List (List D)} (aB:es=l.map be.cells) (hl:l.length<100000) (nD:∀x∈l,x.path.length<1000000000000):
 FC 129 [SL es,.agg [ST p,aA a,aA b,aA c,aA d,aA e,aA f,aA g,aA h]] [] (.ret (bX (t _ fun _=>kU l ⟨p,⟨a,b,c,d⟩,⟨e,f,g,h⟩⟩))) []:=by
 refine bH ht (aF:=[]) Tryz.func129 rfl rfl (N:=49) rfl rfl (n:=0) rfl rfl ?_
 cbv
 have ap:es.length=l.length:=by rw [aB,lgM]
 obtain ⟨J0,dR⟩:∃J0:Nat→Int×Int×Int×Int×Int→Prop,∀n i s1 s2 s3 s4,J0 n (i,s1,s2,s3,s4)↔(∃k:Nat,i=k∧k+n=l.length∧p7 p l bK.zero=p7 p (l.drop k) ⟨s1,s2,s3,s4⟩):=⟨fun n v=>match v with|(i,s1,s2,s3,s4)=>(∃k:Nat,i=k∧k+n=l.length∧p7 p l bK.zero=p7 p (l.drop k) ⟨s1,s2,s3,s4⟩),fun _ _ _ _ _ _=>Iff.rfl⟩
 refine bF ⟨[3,5,10,11,12],[],[]⟩ (σ:=Int×Int×Int×Int×Int) (fun v=>[(12,.d (.int .i64 (t _ fun _=>v.1)))]) (fun v=>[(1,.var [.d (.int .u64 (t _ fun _=>v.2.1)),.d (.int .u64 (t _ fun _=>v.2.2.1)),.d (.int .u64 (t _ fun _=>v.2.2.2.1)),.d (.int .u64 (t _ fun _=>v.2.2.2.2))])]) J0 ?_
 cbv
 refine aD ⟨l.length,(_,_,_,_,_),(dR _ _ _ _ _ _).2 ?_,by simp only [ht];rfl,?_⟩
 ·exact ⟨0,rfl,by simp,rfl⟩
 rintro n ⟨i,s1,s2,s3,s4⟩ hj
 replace hj:=(dR _ _ _ _ _ _).1 hj
 obtain ⟨k,rfl,j1,j4⟩:=hj
 cbv
 refine an (fun h1=>?_) (fun h1=>?_)
 ·simp [ht,aa,ap] at h1
  cbv
  refine fP ht aB (cT:=be.aU t) (by (simp only [ht,aa];omega)) (by (simp only [ht,aa];omega)) (fun _=>rfl) (fun _=>rfl) (fun x2 fZ=>?_)
  simp [ht,aa] at fZ
  obtain ⟨pp,IU⟩:∃pp,pp=parent (x2).path:=⟨_,rfl⟩
  obtain ⟨⟨⟨w1,w2,w3,w4⟩,wk⟩,hW⟩:∃r,r=iT ⟨s1,s2,s3,s4⟩ (x2).used:=⟨_,rfl⟩
  rw [dU fZ,p7,←IU,←hW] at j4
  have sx2:=nD _ (List.mem_of_getElem? fZ)
  cbv
  refine cO [true,true,true,true,false,false,false,false,false,true,true] (by kernel_rfl) (by kernel_rfl) ?_
  cbv
  iterate 2 refine gI (by simp [ht]) ?_
  refine bJ (fun g3=>⟨by simp [ht] at g3 ⊢;exact g3,trv,sD ht _ ‹_›⟩) rfl rfl (fun r4 iA=>?_)
  simp only [ht] at iA
  rw [←IU] at iA
  subst r4
  cbv
  iterate 3 refine gI (by simp [ht]) ?_
  refine pI (by simp [ht]) ?_
  refine an (fun h5=>?_) (fun h5=>?_)
  ·simp [ht] at h5
   cbv
   refine bQ (_,_,_,_,_) (by simp only [ht];rfl) (n-1) ?_ ((dR _ _ _ _ _ _).2 ?_)
   ·omega
   simp only [aa]
   refine ⟨k+1,aC (by omega),by omega,?_⟩;rw [j4];clear j4 dR;rcases h5 with h5|h5<;>simp [h5];done
  simp [ht] at h5
  cbv
  refine aM trv (Me ht _ _ _ _ _ _ _ _) trv rfl rfl (fun r6 lF=>?_)
  simp only [ht] at lF
  replace lF:=lF.trans (show _=((⟨w1,w2,w3,w4⟩,wk):bK×Bool) from hW.symm)
  subst r6
  cbv
  refine an (fun h7=>?_) (fun h7=>?_)
  ·simp [ht] at h7
   cbv
   refine av trv trv rfl rfl rfl ?_
   simp only [ht,kU];rw [j4];simp_all;done
  simp [ht] at h7
  cbv
  refine bQ (_,_,_,_,_) (by simp only [ht];rfl) (n-1) ?_ ((dR _ _ _ _ _ _).2 ?_)
  ·omega
  simp only [aa]
  refine ⟨k+1,aC (by omega),by omega,?_⟩;simp only at j4;rw [j4];simp_all;done
 simp [ht,aa,ap] at h1
 cbv
 refine aM trv (ol ht _ _ _ _ _ _ _ _) trv rfl rfl (fun r8 Mc=>?_)
 simp only [ht] at Mc
 cbv
 iterate 3 refine gI (by simp) ?_
 refine bJ (fun g9=>⟨by simp at g9 ⊢;exact g9,trv,ol ht _ _ _ _ _ _ _ _⟩) rfl rfl (fun r10 Wa=>?_)
 simp only [ht] at Wa
 cbv
 refine pI (by simp) ?_
 refine av trv trv rfl rfl rfl ?_
 rw [List.drop_eq_nil_of_le (by omega),p7] at j4;simp [kU, *];done
theorem Rv (ht:TT t) (x:be) {l:List be} {es:List (List D)} (aB:es=l.map be.cells) (hl:l.length<100000) (nD:∀x∈l,x.path.length<1000000000000) {r:Bool} (hr:r=!kU l x):
 FC 128 [.agg [ST x.path,aA x.eH.a,aA x.eH.b,aA x.eH.c,aA x.eH.d,aA x.used.a,aA x.used.b,aA x.used.c,aA x.used.d],.ptr 0 0] [.var [SL es]] (.ret (BL r)) [.var [SL es]]:=by
 obtain ⟨nm,⟨a,b,c,d⟩,⟨e,g,u,v⟩⟩:=x
 refine bH ht (aF:=[.var [SL es]]) Tryz.func128 rfl rfl (N:=8) rfl rfl (n:=1) rfl rfl ?_
 cbv
 have ap:es.length=l.length:=by rw [aB,lgM]
 refine aM trv (N5 ht _ _ _ _ _ _ _ _ _ ‹_› ‹_› ‹_›) trv rfl rfl (fun r0 cN=>?_)
 simp only [ht] at cN
 cbv
 refine av trv trv rfl rfl rfl ?_
 simp [*];done
theorem N6 (ht:TT t) (ts:List (List D)) {l:List (be)} {es:List (List D)} (aB:es=l.map be.cells) (f:Nat) (p:be→Bool) (hl:l.length<9223372036854775807)
 (hf:∀x∈l,FC f [.agg [ST x.path,aA x.eH.a,aA x.eH.b,aA x.eH.c,aA x.eH.d,aA x.used.a,aA x.used.b,aA x.used.c,aA x.used.d],.ptr 0 0] [.var [SL ts]] (.ret (BL (p x))) [.var [SL ts]]) {r:Int} (hr:r=idxOf p l):FC 135 [SL es,.fn f [.ptr 0 0]] [.var [SL ts]] (.ret (bI r)) [.var [SL ts]]:=by
 have hel:es.length=l.length:=by rw [aB,lgM]
 obtain ⟨J,hJ⟩:∃J:Nat→Nat→Prop,∀n v,J n v↔(v+n=l.length∧∀i<v,∀x,l[i]?=some x→p x=false):=⟨fun n v=>v+n=l.length∧∀i<v,∀x,l[i]?=some x→p x=false,fun _ _=>Iff.rfl⟩
 refine bH ht (aF:=[.var [SL ts]]) Tryz.func135 rfl rfl (N:=19) rfl rfl (n:=1) rfl rfl ?_
 cbv
 refine bF ⟨[0,1,7,8],[],[]⟩ (σ:=Nat) (fun k=>[(8,bI (t _ fun _=>(k:Int)))]) (fun _=>[]) J ?_
 cbv
 refine aD ⟨l.length,0,(hJ _ _).2 ⟨by omega,by intro i hi;simp at hi⟩,by simp only [ht];rfl,?_⟩
 rintro n k hj
 obtain ⟨h2,h3⟩:=(hJ _ _).1 hj
 clear hj
 cbv
 refine an (fun h=>?_) (fun h=>?_)
 ·simp only [ht,aa,decide_eq_true_eq] at h
  have hk:k<l.length:=by omega
  obtain ⟨x,hx⟩:∃x,l[k]?=some x:=⟨l[k],by simp⟩
  have mE:x∈l:=List.mem_of_getElem? hx
  have gz:=hf x mE
  obtain ⟨px,hpx⟩:∃b,b=p x:=⟨_,rfl⟩
  rw [←hpx] at gz
  obtain ⟨nm,⟨a,b,c,d⟩,⟨e,g,u,v⟩⟩:=x
  cbv
  refine ic [.str nm,.int .u64 a,.int .u64 b,.int .u64 c,.int .u64 d,.int .u64 e,.int .u64 g,.int .u64 u,.int .u64 v] ?_ ?_ ?_
  ·simp only [ht,aa];refine ⟨by omega,h,?_⟩;rw [aB];intro r hr;obtain ⟨y,_,rfl⟩:=List.mem_map.1 hr;rfl
  ·simp [ht,aa,aB,hx]
  cbv
  refine dw trv gz ?_
  cbv
  refine an (fun hb=>?_) (fun hb=>?_)
  ·cbv
   refine av trv trv rfl rfl rfl ?_
   have e:=cV hx (hpx▸hb) h3
   simp only [ht,aa,hr,idxOf,e]
  cbv
  refine aD ⟨n-1,k+1,⟨by omega,(hJ _ _).2 ⟨by omega,?_⟩⟩,?_⟩
  ·intro i hi y hy
   by_cases hik:i<k
   ·exact h3 i hik y hy
   have:i=k:=by omega
   subst this;rw [hx] at hy;cases hy;rw [←hpx];exact hb
  simp only [ht,aa,aC (show k<9223372036854775807 by omega)];rfl
 simp only [ht,aa,decide_eq_false_iff_not] at h
 have hk:¬k<l.length:=by omega
 clear h
 cbv
 refine av trv trv rfl rfl rfl ?_
 rw [hr,idxOf,c7]
 intro i y hy
 have:i<l.length:=by
  rcases Nat.lt_or_ge i l.length with h'|h';· exact h'
  simp [List.getElem?_eq_none h'] at hy
 exact h3 i (by omega) y hy
theorem N7 (ht:TT t) (ts:List (List D)) {l:List (be)} {es:List (List D)} (aB:es=l.map be.cells) (f:Nat) (p:be→Bool) (hl:l.length<9223372036854775807)
 (hf:∀x∈l,FC f [.agg [ST x.path,aA x.eH.a,aA x.eH.b,aA x.eH.c,aA x.eH.d,aA x.used.a,aA x.used.b,aA x.used.c,aA x.used.d],.ptr 0 0] [.var [SL ts]] (.ret (BL (p x))) [.var [SL ts]]) {r:Bool} (hr:r=l.any p):FC 86 [SL es,.fn f [.ptr 0 0]] [.var [SL ts]] (.ret (BL r)) [.var [SL ts]]:=by
 obtain ⟨k,hk⟩:∃k,k=idxOf p l:=⟨_,rfl⟩
 refine bH ht (aF:=[.var [SL ts]]) Tryz.func86 rfl rfl (N:=9) rfl rfl (n:=1) rfl rfl ?_
 cbv
 refine dw trv (N6 ht ts aB f p hl hf hk) ?_
 cbv
 refine av trv trv rfl rfl rfl ?_
 simp only [ht,hr,fe,hk]
theorem N8 (ht:TT t) {l:List be} {es:List (List D)} (aB:es=l.map be.cells) (hl:l.length<100000) (nD:∀x∈l,x.path.length<1000000000000) {r:Bool} (hr:r=l.any (fun e=>!kU l e)):
 FC 86 [SL es,.fn 128 [.ptr 0 0]] [.var [SL es]] (.ret (BL r)) [.var [SL es]]:=
 N7 ht es aB 128 (fun e=>!kU l e) (by omega) (fun x _=>Rv ht x aB hl nD rfl) hr
def oy (l:List be) (k:Nat):Option aH:=match k with
 |0=>none
 |k+1=>(l[k]?).map (·.path)
def N9 (all:List be) (q:aH) (e:be):Bool:=!sle e.path q&&named e.path&&!decide (bT all (parent e.path)<0)
theorem Ib {all l:List be} {k:Nat} {x:be} (hx:all[k]?=some x):eW all (oy all k) (x::l)=((decide (k=0)||match all[k-1]? with|none=>true|some y=>N9 all y.path x)&&eW all (oy all (k+1)) l):=by
 cases k with
 |zero=>simp [oy,eW,hx]
 |succ k=>
  have hk:k<all.length:=by have:=(List.getElem?_eq_some_iff.1 hx).1;omega
  simp only [oy,hx,List.getElem?_eq_getElem hk,Option.map_some,eW,N9]
  simp [List.getElem?_eq_getElem hk]
theorem Oa {l:List be} (h:l.length<1∨16<l.length∨∃x,l[0]?=some x∧x.path≠[]):kj l=false:=by
 unfold kj
 rcases h with h|h|⟨x,h,h2⟩
 ·rw [if_pos h]
 ·rw [if_neg (by omega),if_pos h]
 by_cases a:l.length<1
 ·rw [if_pos a]
 by_cases b:16<l.length
 ·rw [if_neg a,if_pos b]
 rw [if_neg a,if_neg b,if_pos (by simpa [List.getD_eq_getElem?_getD,h] using h2)]
theorem KL {l:List be} {x0:be} (hx0:0<l.length→l[0]?=some x0) (h0:((l.length:Int)<1∨16<(l.length:Int))∨¬x0.path=[]):kj l=false:=by
 refine Oa ?_
 by_cases a:l.length<1
 ·exact .inl a
 rcases h0 with (h|h)|h
 ·omega
 ·exact .inr (.inl (by omega))
 exact .inr (.inr ⟨x0,hx0 (by omega),h⟩)
theorem yI {l:List be} {x0:be} (hx0:0<l.length→l[0]?=some x0) (h0:(1≤(l.length:Int)∧(l.length:Int)≤16)∧x0.path=[]):kj l=(eW l none l&&!(l.any fun e=>!kU l e)):=by
 unfold kj
 rw [if_neg (by omega),if_neg (by omega),if_neg (by have:=hx0 (by omega);simp [List.getD_eq_getElem?_getD,this,h0.2])]
theorem Ic {l:List be} {x0 x y:be} {k:Nat} {r5 rest:Bool} {r7:aH} {r9:Int} (hx0:0<l.length→l[0]?=some x0) (h0:(1≤(l.length:Int)∧(l.length:Int)≤16)∧x0.path=[])
 (j4:eW l none l=((decide (k=0)||match l[k-1]? with|none=>true|some y=>N9 l y.path x)&&rest)) (my:0<k→l[k-1]?=some y) (e5:r5=named x.path) (e7:r7=parent x.path) (e9:r9=bT l r7)
 (h:0<k∧(((Op.bytesLess x.path y.path=true∨x.path=y.path)∨r5=false)∨r9<0)):kj l=false:=by
 subst e7 e5 e9
 rw [yI hx0 h0,j4,my h.1]
 have k0:¬k=0:=by omega
 rcases h.2 with ((h1|h1)|h1)|h1<;>simp [k0,N9,sle,h1]
theorem Ob {l:List be} {x y:be} {k:Nat} {r5 rest:Bool} {r7:aH} {r9:Int}
 (my:0<k→l[k-1]?=some y) (e5:r5=named x.path) (e7:r7=parent x.path) (e9:r9=bT l r7)
 (h:0<k→((Op.bytesLess x.path y.path=false∧¬x.path=y.path)∧r5=true)∧0≤r9):((decide (k=0)||match l[k-1]? with|none=>true|some y=>N9 l y.path x)&&rest)=rest:=by
 subst e7 e5 e9
 by_cases k0:k=0
 ·simp [k0]
 have h:=h (by omega)
 rw [my (by omega)]
 have:=h.2
 simp [k0,N9,sle,h.1.1.1,h.1.1.2,h.1.2];omega
theorem Oc (ht:TT t) {l:List be} {es:List (List D)} (aB:es=l.map be.cells) (hl:l.length<100000) (nD:∀x∈l,x.path.length<1000000000000):
 FC 81 [SL es] [] (.ret (bX (t _ fun _=>kj l))) []:=by
 obtain ⟨x0,hx0⟩:=elemAt l 0
 refine bH ht (aF:=[]) Tryz.func81 rfl rfl (N:=59) rfl rfl (n:=0) rfl rfl ?_
 cbv
 have ap:es.length=l.length:=by rw [aB,lgM]
 iterate 5 first|refine gI (by simp [ht]) ?_|refine pI (by simp [ht]) ?_
 refine QZ ht aB (cT:=be.aU t) 0 x0 (fun g=>by simp [ht,aa] at g;exact ⟨rfl,hx0 (by omega)⟩) (fun _=>rfl) (fun _=>rfl) (fun g=>by exact ⟨g,trv⟩) ?_
 cbv
 iterate 3 refine gI (by simp [ht]) ?_
 refine pI (by simp [ht]) ?_
 refine an (fun h0=>?_) (fun h0=>?_)
 ·simp [ht,aa,ap] at h0
  cbv
  refine av trv trv rfl rfl rfl ?_
  simp only [ht];rw [KL hx0 h0]
 simp [ht,aa,ap] at h0
 cbv
 obtain ⟨J1,m8⟩:∃J1:Nat→Int→Prop,∀n i,J1 n i↔(∃k:Nat,i=k∧k+n=l.length∧eW l none l=eW l (oy l k) (l.drop k)):=⟨fun n v=>match v with|i=>(∃k:Nat,i=k∧k+n=l.length∧eW l none l=eW l (oy l k) (l.drop k)),fun _ _=>Iff.rfl⟩
 refine bF ⟨[1,20,21,22],[],[]⟩ (σ:=Int) (fun v=>[(22,.d (.int .i64 (t _ fun _=>v)))]) (fun v=>[]) J1 ?_
 cbv
 refine aD ⟨l.length,_,(m8 _ _).2 ?_,by simp only [ht];rfl,?_⟩
 ·exact ⟨0,rfl,by simp,rfl⟩
 rintro n i hj
 replace hj:=(m8 _ _).1 hj
 obtain ⟨k,rfl,j1,j4⟩:=hj
 cbv
 refine an (fun h2=>?_) (fun h2=>?_)
 ·simp [ht,aa,ap] at h2
  cbv
  refine fP ht aB (cT:=be.aU t) (by (simp only [ht,aa];omega)) (by (simp only [ht,aa];omega)) (fun _=>rfl) (fun _=>rfl) (fun x3 IW=>?_)
  simp [ht,aa] at IW
  rw [dU IW,Ib IW] at j4
  have sx3:=nD _ (List.mem_of_getElem? IW)
  cbv
  refine cO [true,true,true,false,false,false,false,false,false,false,false,true,true,true,true,true,true,true,true,false,false,false,false,true,true,true,true] (by kernel_rfl) (by kernel_rfl) ?_
  cbv
  iterate 5 refine gI (by simp [ht]) ?_
  refine G1 ht aB (cT:=be.aU t) (k-1) (fun g=>by simp [ht,aa] at g ⊢;simp [g]) (fun g=>by simp [ht,aa] at g;simp only [ht,aa];exact ⟨pe (by omega) (by omega),by omega⟩) (fun _=>rfl) (fun _=>rfl) (fun y my=>?_);simp [ht,aa] at my
  cbv
  iterate 6 refine gI (by simp [ht]) ?_
  refine bJ (fun g4=>⟨by simp [ht] at g4 ⊢;exact g4,trv,vK ht _ ‹_›⟩) rfl rfl (fun r5 pH=>?_)
  simp only [ht] at pH
  cbv
  refine gI (by simp [ht]) ?_
  refine gI (by simp [ht,ah];intros;simp_all) ?_
  iterate 4 refine gI (by simp [ht]) ?_
  refine bJ (fun g6=>⟨by simp [ht] at g6 ⊢;exact g6,trv,sD ht _ ‹_›⟩) rfl rfl (fun r7 pK=>?_)
  simp only [ht] at pK
  cbv
  refine bJ (fun g8=>⟨by simp [ht] at g8 ⊢;exact g8,trv,kp ht _ ‹_› (by omega)⟩) rfl rfl (fun r9 gK=>?_)
  simp only [ht] at gK
  cbv
  refine gI (by simp [ht]) ?_
  refine gI (by simp [ht,ah];intros;simp_all) ?_
  refine pI (by simp [ht]) ?_
  refine an (fun h10=>?_) (fun h10=>?_)
  ·simp [ht,aa] at h10
   cbv
   refine av trv trv rfl rfl rfl ?_
   simp only [ht];rw [Ic hx0 h0 j4 my pH pK gK h10]
  simp [ht,aa] at h10
  cbv
  refine bQ _ (by simp only [ht];rfl) (n-1) ?_ ((m8 _ _).2 ?_)
  ·omega
  simp only [aa]
  exact ⟨k+1,aC (by omega),by omega,j4.trans (Ob my pH pK gK h10)⟩
 simp [ht,aa,ap] at h2
 cbv
 obtain ⟨r9,gK⟩:∃r,r=l.any (fun e=>!kU l e):=⟨_,rfl⟩;refine dx [0] trv rfl rfl (N8 ht aB (by omega) nD gK) (cz ?_)
 cbv
 refine av trv trv rfl rfl rfl ?_
 rw [List.drop_eq_nil_of_le (by omega),eW] at j4;simp only [ht,yI hx0 h0,j4,Bool.true_and,←gK];done
theorem Od (ht:TT t) (rd nx ef af:Int) (ns ps ts js qs es' bV:List (List D)) {l:List (be)} {es:List (List D)} (aB:es=l.map be.cells) (f:Nat) (p:be→Bool) (hl:l.length<9223372036854775807)
 (hf:∀x∈l,FC f [.agg [ST x.path,aA x.eH.a,aA x.eH.b,aA x.eH.c,aA x.eH.d,aA x.used.a,aA x.used.b,aA x.used.c,aA x.used.d],.ptr 0 0] [.var [aA rd,aA nx,SL ns,SL ps,SL ts,SL js,SL qs,aA ef,SL es',aA af,SL bV]] (.ret (BL (p x))) [.var [aA rd,aA nx,SL ns,SL ps,SL ts,SL js,SL qs,aA ef,SL es',aA af,SL bV]]) {r:Int} (hr:r=idxOf p l):FC 135 [SL es,.fn f [.ptr 0 0]] [.var [aA rd,aA nx,SL ns,SL ps,SL ts,SL js,SL qs,aA ef,SL es',aA af,SL bV]] (.ret (bI r)) [.var [aA rd,aA nx,SL ns,SL ps,SL ts,SL js,SL qs,aA ef,SL es',aA af,SL bV]]:=by
 have hel:es.length=l.length:=by rw [aB,lgM]
 obtain ⟨J,hJ⟩:∃J:Nat→Nat→Prop,∀n v,J n v↔(v+n=l.length∧∀i<v,∀x,l[i]?=some x→p x=false):=⟨fun n v=>v+n=l.length∧∀i<v,∀x,l[i]?=some x→p x=false,fun _ _=>Iff.rfl⟩
 refine bH ht (aF:=[.var [aA rd,aA nx,SL ns,SL ps,SL ts,SL js,SL qs,aA ef,SL es',aA af,SL bV]]) Tryz.func135 rfl rfl (N:=19) rfl rfl (n:=1) rfl rfl ?_
 cbv
 refine bF ⟨[0,1,7,8],[],[]⟩ (σ:=Nat) (fun k=>[(8,bI (t _ fun _=>(k:Int)))]) (fun _=>[]) J ?_
 cbv
 refine aD ⟨l.length,0,(hJ _ _).2 ⟨by omega,by intro i hi;simp at hi⟩,by simp only [ht];rfl,?_⟩
 rintro n k hj
 obtain ⟨h2,h3⟩:=(hJ _ _).1 hj
 clear hj
 cbv
 refine an (fun h=>?_) (fun h=>?_)
 ·simp only [ht,aa,decide_eq_true_eq] at h
  have hk:k<l.length:=by omega
  obtain ⟨x,hx⟩:∃x,l[k]?=some x:=⟨l[k],by simp⟩
  have mE:x∈l:=List.mem_of_getElem? hx
  have gz:=hf x mE
  obtain ⟨px,hpx⟩:∃b,b=p x:=⟨_,rfl⟩
  rw [←hpx] at gz
  obtain ⟨nm,⟨a,b,c,d⟩,⟨e,g,u,v⟩⟩:=x
  cbv
  refine ic [.str nm,.int .u64 a,.int .u64 b,.int .u64 c,.int .u64 d,.int .u64 e,.int .u64 g,.int .u64 u,.int .u64 v] ?_ ?_ ?_
  ·simp only [ht,aa];refine ⟨by omega,h,?_⟩;rw [aB];intro r hr;obtain ⟨y,_,rfl⟩:=List.mem_map.1 hr;rfl
  ·simp [ht,aa,aB,hx]
  cbv
  refine dw trv gz ?_
  cbv
  refine an (fun hb=>?_) (fun hb=>?_)
  ·cbv
   refine av trv trv rfl rfl rfl ?_
   have e:=cV hx (hpx▸hb) h3
   simp only [ht,aa,hr,idxOf,e]
  cbv
  refine aD ⟨n-1,k+1,⟨by omega,(hJ _ _).2 ⟨by omega,?_⟩⟩,?_⟩
  ·intro i hi y hy
   by_cases hik:i<k
   ·exact h3 i hik y hy
   have:i=k:=by omega
   subst this;rw [hx] at hy;cases hy;rw [←hpx];exact hb
  simp only [ht,aa,aC (show k<9223372036854775807 by omega)];rfl
 simp only [ht,aa,decide_eq_false_iff_not] at h
 have hk:¬k<l.length:=by omega
 clear h
 cbv
 refine av trv trv rfl rfl rfl ?_
 rw [hr,idxOf,c7]
 intro i y hy
 have:i<l.length:=by
  rcases Nat.lt_or_ge i l.length with h'|h';· exact h'
  simp [List.getElem?_eq_none h'] at hy
 exact h3 i (by omega) y hy
theorem Oe (ht:TT t) (rd nx ef af:Int) (ns ps ts js qs es' bV:List (List D)) {l:List (be)} {es:List (List D)} (aB:es=l.map be.cells) (f:Nat) (p:be→Bool) (hl:l.length<9223372036854775807)
 (hf:∀x∈l,FC f [.agg [ST x.path,aA x.eH.a,aA x.eH.b,aA x.eH.c,aA x.eH.d,aA x.used.a,aA x.used.b,aA x.used.c,aA x.used.d],.ptr 0 0] [.var [aA rd,aA nx,SL ns,SL ps,SL ts,SL js,SL qs,aA ef,SL es',aA af,SL bV]] (.ret (BL (p x))) [.var [aA rd,aA nx,SL ns,SL ps,SL ts,SL js,SL qs,aA ef,SL es',aA af,SL bV]]) {r:Bool} (hr:r=l.any p):FC 86 [SL es,.fn f [.ptr 0 0]] [.var [aA rd,aA nx,SL ns,SL ps,SL ts,SL js,SL qs,aA ef,SL es',aA af,SL bV]] (.ret (BL r)) [.var [aA rd,aA nx,SL ns,SL ps,SL ts,SL js,SL qs,aA ef,SL es',aA af,SL bV]]:=by
 obtain ⟨k,hk⟩:∃k,k=idxOf p l:=⟨_,rfl⟩
 refine bH ht (aF:=[.var [aA rd,aA nx,SL ns,SL ps,SL ts,SL js,SL qs,aA ef,SL es',aA af,SL bV]]) Tryz.func86 rfl rfl (N:=9) rfl rfl (n:=1) rfl rfl ?_
 cbv
 refine dw trv (Od ht rd nx ef af ns ps ts js qs es' bV aB f p hl hf hk) ?_
 cbv
 refine av trv trv rfl rfl rfl ?_
 simp only [ht,hr,fe,hk]
theorem KM (ht:TT t) (rd nx ef af:Int) {nl:List Node} {pl:List Place} {tl:List be} {jl:List Jb} {ql:List bZ} {el al:List dQ} {ns ps ts js qs es bV:List (List D)} (eV:ns=nl.map Node.cells) (hps:ps=pl.map Place.cells) (hts:ts=tl.map be.cells) (ek:js=jl.map Jb.cells) (dV:qs=ql.map bZ.cells) (aB:es=el.map dQ.cells) (has:bV=al.map dQ.cells) (p:aH) (a b c d e f g h:Int) (hjl:jl.length<1000000) (nD:∀x∈jl,x.x.path.length<1000000000000∧x.x.fK.u') {r:Bool} (hr:r=!p8 ⟨rd,nx,⟨nl,pl⟩,tl,jl,ql,⟨ef,el⟩,⟨af,al⟩⟩ ⟨p,⟨a,b,c,d⟩,⟨e,f,g,h⟩⟩):
 FC 87 [.agg [ST p,aA a,aA b,aA c,aA d,aA e,aA f,aA g,aA h],.ptr 0 0] [.var [aA rd,aA nx,SL ns,SL ps,SL ts,SL js,SL qs,aA ef,SL es,aA af,SL bV]] (.ret (BL r)) [.var [aA rd,aA nx,SL ns,SL ps,SL ts,SL js,SL qs,aA ef,SL es,aA af,SL bV]]:=by
 refine bH ht (aF:=[.var [aA rd,aA nx,SL ns,SL ps,SL ts,SL js,SL qs,aA ef,SL es,aA af,SL bV]]) Tryz.func87 rfl rfl (N:=8) rfl rfl (n:=1) rfl rfl ?_
 cbv
 have aX:ns.length=nl.length:=by rw [eV,lgM]
 have aZ:ps.length=pl.length:=by rw [hps,lgM]
 have bc:ts.length=tl.length:=by rw [hts,lgM]
 have aQ:js.length=jl.length:=by rw [ek,lgM]
 have aI:qs.length=ql.length:=by rw [dV,lgM]
 have ap:es.length=el.length:=by rw [aB,lgM]
 have aG:bV.length=al.length:=by rw [has,lgM]
 refine aM trv (Ru ht _ _ _ _ ‹_› ‹_› ‹_› ‹_› ‹_› ‹_› ‹_› _ _ _ _ _ _ _ _ _ ‹_› ‹_›) trv rfl rfl (fun r0 cN=>?_)
 simp only [ht] at cN
 cbv
 refine av trv trv rfl rfl rfl ?_
 simp [*];done
theorem Of (ht:TT t) (rd nx ef af:Int) {nl:List Node} {pl:List Place} {tl:List be} {jl:List Jb} {ql:List bZ} {el al:List dQ} {ns ps ts js qs es bV:List (List D)} (eV:ns=nl.map Node.cells) (hps:ps=pl.map Place.cells) (hts:ts=tl.map be.cells) (ek:js=jl.map Jb.cells) (dV:qs=ql.map bZ.cells) (aB:es=el.map dQ.cells) (has:bV=al.map dQ.cells) (htl:tl.length<100000) (hjl:jl.length<1000000) (nD:∀x∈jl,x.x.path.length<1000000000000∧x.x.fK.u') {r:Bool} (hr:r=tl.any fun e=>!p8 ⟨rd,nx,⟨nl,pl⟩,tl,jl,ql,⟨ef,el⟩,⟨af,al⟩⟩ e):
 FC 86 [SL ts,.fn 87 [.ptr 0 0]] [.var [aA rd,aA nx,SL ns,SL ps,SL ts,SL js,SL qs,aA ef,SL es,aA af,SL bV]] (.ret (BL r)) [.var [aA rd,aA nx,SL ns,SL ps,SL ts,SL js,SL qs,aA ef,SL es,aA af,SL bV]]:=
 Oe ht rd nx ef af ns ps ts js qs es bV hts 87 (fun e=>!p8 ⟨rd,nx,⟨nl,pl⟩,tl,jl,ql,⟨ef,el⟩,⟨af,al⟩⟩ e) (by omega) (fun x _=>KM ht rd nx ef af eV hps hts ek dV aB has x.path x.eH.a x.eH.b x.eH.c x.eH.d x.used.a x.used.b x.used.c x.used.d hjl nD rfl) hr
theorem KN {s:bE} {k:Nat} {x:Jb} (hx:s.ay[k]?=some x):mq s (kW s.ay k) (s.ay.drop k)=(Sb s (kW s.ay k) x&&mq s (kW s.ay (k+1)) (s.ay.drop (k+1))):=by
 rw [dU hx,mq]
 have:kW s.ay (k+1)=some x.id:=by simp [kW,hx]
 rw [this]
theorem Wu {s:bE} (h:((((oZ s.bg=false∨kj s.tree=false)∨nA s.queue=false)∨(32:Int)<(s.ay.length:Int))∨s.next<1)∨(32:Int)<max (s.ev.l.length:Int) (s.au.l.length:Int)):fF s=false:=by
 unfold fF
 rcases h with ((((h|h)|h)|h)|h)|h
 ·rw [h];rfl
 ·rw [h];split<;>rfl
 ·rw [h];split;rfl;split<;>rfl
 ·rw [if_pos (show 32<s.ay.length by omega)];split;rfl;split;rfl;split<;>rfl
 ·rw [if_pos h];split;rfl;split;rfl;split;rfl;split<;>rfl
 rw [if_pos (show 32<max s.ev.l.length s.au.l.length by omega)];split;rfl;split;rfl;split;rfl;split;rfl;split<;>rfl
theorem Wv {s:bE} (h:mq s none s.ay=false):fF s=false:=by
 unfold fF
 rw [h];split;rfl;split;rfl;split;rfl;split;rfl;split;rfl;split<;>rfl
theorem Ww {a b c:Bool}:(bif (bif a then b else false) then c else false)=(a&&b&&c):=by cases a<;>cases b<;>rfl
theorem Wx {a b:Nat}:decide ((a:Int)=(b:Int))=decide (a=b):=by rw [decide_eq_decide];omega
theorem T0 {s:bE} (h:((((oZ s.bg=true∧kj s.tree=true)∧nA s.queue=true)∧(s.ay.length:Int)≤(32:Int))∧1≤s.next)∧max (s.ev.l.length:Int) (s.au.l.length:Int)≤(32:Int)) (hj:mq s none s.ay=true):
 fF s=(decide (gY s.ay=s.queue.length)&&lD s&&!(s.tree.any fun e=>!p8 s e)):=by
 obtain ⟨⟨⟨⟨⟨h1,h2⟩,h3⟩,h4⟩,h5⟩,h6⟩:=h
 unfold fF
 rw [h1,h2,h3,hj]
 simp only [Bool.not_true,Bool.false_eq_true,if_false]
 rw [if_neg (by omega),if_neg (by omega),if_neg (by omega)]
theorem KO (ht:TT t) (rd nx ef af:Int) {nl:List Node} {pl:List Place} {tl:List be} {jl:List Jb} {ql:List bZ} {el al:List dQ} {ns ps ts js qs es bV:List (List D)} (eV:ns=nl.map Node.cells) (hps:ps=pl.map Place.cells) (hts:ts=tl.map be.cells) (ek:js=jl.map Jb.cells) (dV:qs=ql.map bZ.cells) (aB:es=el.map dQ.cells) (has:bV=al.map dQ.cells) (hs:(⟨rd,nx,⟨nl,pl⟩,tl,jl,ql,⟨ef,el⟩,⟨af,al⟩⟩:bE).sm):
 FC 36 [.agg [aA rd,aA nx,SL ns,SL ps,SL ts,SL js,SL qs,aA ef,SL es,aA af,SL bV]] [] (.ret (bX (t _ fun _=>fF ⟨rd,nx,⟨nl,pl⟩,tl,jl,ql,⟨ef,el⟩,⟨af,al⟩⟩))) []:=by
 obtain ⟨⟨s1,s2⟩,s3,⟨s4,s5⟩,⟨s6,s7⟩,s8,s9,T1⟩:=id hs
 simp only at s1 s2 s3 s4 s5 s6 s7 s8 s9 T1
 have s11:∀x∈jl,x.x.path.length<1000000000000∧x.x.fK.u':=fun x hx=>⟨(s7 x hx).1.1,(s7 x hx).1.2.1⟩
 have s12:∀x∈jl,(0≤x.id∧x.id<18446744073709551616)∧x.x.count<9223372036854775808:=fun x hx=>⟨(s7 x hx).2.1,(s7 x hx).2.2⟩
 refine bH ht (aF:=[]) Tryz.func36 rfl rfl (N:=78) rfl rfl (n:=0) rfl rfl ?_
 cbv
 have aX:ns.length=nl.length:=by rw [eV,lgM]
 have aZ:ps.length=pl.length:=by rw [hps,lgM]
 have bc:ts.length=tl.length:=by rw [hts,lgM]
 have aQ:js.length=jl.length:=by rw [ek,lgM]
 have aI:qs.length=ql.length:=by rw [dV,lgM]
 have ap:es.length=el.length:=by rw [aB,lgM]
 have aG:bV.length=al.length:=by rw [has,lgM]
 refine aM trv (Nr ht ‹_› ‹_› (by omega) (by omega) ‹_›) trv rfl rfl (fun r0 cN=>?_)
 simp only [ht] at cN
 cbv
 iterate 2 refine gI (by simp [ht]) ?_
 refine bJ (fun g1=>⟨by simp [ht] at g1 ⊢;exact g1,trv,Oc ht ‹_› ‹_› ‹_›⟩) rfl rfl (fun r2 fQ=>?_)
 simp only [ht] at fQ
 cbv
 iterate 4 first|refine gI (by simp [ht]) ?_|refine pI (by simp [ht]) ?_
 refine bJ (fun g3=>⟨by simp [ht] at g3 ⊢;exact g3,trv,NN ht ‹_› ‹_›⟩) rfl rfl (fun r4 iA=>?_)
 simp only [ht] at iA
 cbv
 iterate 22 first|refine gI (by simp [ht]) ?_|refine pI (by simp [ht]) ?_
 refine an (fun h5=>?_) (fun h5=>?_)
 ·simp [ht,aa,aQ,ap,aG] at h5
  cbv
  refine av trv trv rfl rfl rfl ?_
  simp only [ht];rw [Wu (by simp only [←cN,←fQ,←iA];exact h5)];done
 simp [ht,aa,aQ,ap,aG] at h5
 cbv
 obtain ⟨J6,OJ⟩:∃J6:Nat→Int→Prop,∀n i,J6 n i↔(∃k:Nat,i=k∧k+n=jl.length∧mq ⟨rd,nx,⟨nl,pl⟩,tl,jl,ql,⟨ef,el⟩,⟨af,al⟩⟩ none jl=mq ⟨rd,nx,⟨nl,pl⟩,tl,jl,ql,⟨ef,el⟩,⟨af,al⟩⟩ (kW jl k) (jl.drop k)):=⟨fun n v=>match v with|i=>(∃k:Nat,i=k∧k+n=jl.length∧mq ⟨rd,nx,⟨nl,pl⟩,tl,jl,ql,⟨ef,el⟩,⟨af,al⟩⟩ none jl=mq ⟨rd,nx,⟨nl,pl⟩,tl,jl,ql,⟨ef,el⟩,⟨af,al⟩⟩ (kW jl k) (jl.drop k)),fun _ _=>Iff.rfl⟩
 refine bF ⟨[1,3,48,49,50],[],[]⟩ (σ:=Int) (fun v=>[(50,.d (.int .i64 (t _ fun _=>v)))]) (fun v=>[]) J6 ?_
 cbv
 refine aD ⟨jl.length,_,(OJ _ _).2 ?_,by simp only [ht];rfl,?_⟩
 ·exact ⟨0,rfl,by simp,rfl⟩
 rintro n i hj
 replace hj:=(OJ _ _).1 hj
 obtain ⟨k,rfl,j1,j4⟩:=hj
 cbv
 refine an (fun h7=>?_) (fun h7=>?_)
 ·simp [ht,aa,aQ] at h7
  cbv
  refine fP ht ek (cT:=Jb.aU t) (by (simp only [ht,aa];omega)) (by (simp only [ht,aa];omega)) (fun _=>rfl) (fun _=>(by (simp only [ht,Jb.aU];rfl))) (fun x8 mx8=>?_)
  simp [ht,aa] at mx8
  have j5:=KN (s:=⟨rd,nx,⟨nl,pl⟩,tl,jl,ql,⟨ef,el⟩,⟨af,al⟩⟩) mx8
  simp only at j5
  rw [j5] at j4
  have sx8:=(s7 _ (List.mem_of_getElem? mx8)).1
  cbv
  refine aM trv (Wt ht _ _ _ _ ‹_› ‹_› ‹_› ‹_› ‹_› ‹_› ‹_› _ (by (simp only [ht];rfl)) ‹_› _ _ _ _ _ _ _ _ _ _ _ (jR ht rfl) ‹_› ‹_› ‹_› ‹_›) trv rfl rfl (fun r9 gK=>?_)
  simp only [ht] at gK
  have e9:Sb ⟨rd,nx,⟨nl,pl⟩,tl,jl,ql,⟨ef,el⟩,⟨af,al⟩⟩ (kW jl k) x8=r9:=(gK).symm;rw [e9] at j4
  cbv
  refine an (fun h10=>?_) (fun h10=>?_)
  ·simp [ht] at h10
   cbv
   refine av trv trv rfl rfl rfl ?_
   simp only [ht];rw [Wv (by rw [j4,h10];rfl)];done
  simp [ht] at h10
  cbv
  refine bQ _ (by simp only [ht];rfl) (n-1) ?_ ((OJ _ _).2 ?_)
  ·omega
  simp only [aa]
  exact ⟨k+1,aC (by omega),by omega,by rw [j4,h10];rfl⟩
 simp [ht,aa,aQ] at h7
 cbv
 refine cO [false,false,false,false,false,true,true,true,true,true,true,false,false,false,true,true,true,true] (by kernel_rfl) (by kernel_rfl) ?_
 cbv
 refine gI (by simp) ?_
 refine .inl ?_
 refine bJ (fun g11=>⟨trv,trv,Rt ht _ _ _ _ ‹_› ‹_› ‹_› ‹_› ‹_› ‹_› ‹_› ‹_›⟩) rfl rfl (fun r12 E0=>?_)
 simp only [ht] at E0
 cbv
 iterate 3 refine gI (by simp) ?_
 refine gI (by simp [ht]) ?_
 refine bJ (fun g13=>⟨by simp [ht] at g13 ⊢;exact g13,trv,N2 ht _ _ _ _ ‹_› ‹_› ‹_› ‹_› ‹_› ‹_› ‹_› ‹_› ‹_› ‹_›⟩) rfl rfl (fun r14 YX=>?_)
 simp only [ht] at YX
 cbv
 refine pI (by simp [ht]) ?_
 iterate 3 refine gI (by simp [ht]) ?_
 obtain ⟨r19,YY⟩:∃r,r=tl.any (fun e=>!p8 ⟨rd,nx,⟨nl,pl⟩,tl,jl,ql,⟨ef,el⟩,⟨af,al⟩⟩ e):=⟨_,rfl⟩;refine S6 [true,false] [1] (fun g=>⟨⟨g,g,trv⟩,trv,Of ht rd nx ef af eV hps hts ek dV aB has s4 s6 s11 YY⟩) rfl rfl rfl (.inl rfl) rfl rfl rfl rfl ?_
 cbv
 refine gI (by simp [ht]) ?_
 refine pI (by simp [ht]) ?_
 refine av trv trv rfl rfl rfl ?_
 rw [List.drop_eq_nil_of_le (by omega),mq] at j4;simp only [ht];rw [T0 (by simp only [←cN,←fQ,←iA];exact h5) j4];simp only [E0,YX,YY,aI,Ww,Wx];done
end Dem
end
section
open Go
namespace Dem
theorem Iy {s:bE} (h:s.ok) {id:Int} (hw:(∃j∈s.ay,j.id=id∧j.runs=false)∨∀j∈s.ay,j.id≠id):
 ((aP s id).2.2=false→(aP s id).1=[]∧(aP s id).2.1=[])∧
 ((
  aP s id).2.2=true→dH (aW s (aP s id).1) id=((aP s id).2.1,true)∧(∀x∈(aP s id).1,x∈bM s id)∧
  ∀i<(aP s id).1.length,(dH (aW s ((aP s id).1.eraseIdx i)) id).2=false):=by
 rcases tv (Iu h hw) with ⟨h1,h2,h3,_⟩|⟨h1,h2,h3,_,_,_,h7⟩
 ·exact ⟨fun _=>⟨h2,h3⟩,fun e=>(show False by rw [h1] at e;exact Bool.noConfusion e).elim⟩
 exact ⟨fun e=>(show False by rw [h1] at e;exact Bool.noConfusion e).elim,fun _=>⟨h2,h3,h7⟩⟩
theorem BY {name:aH} {l:List Node} {ps:List Place} (h:(cE name l ps).2=true) (x:Place):
 cE name l (ps++[x])=if (cJ name (cE name l ps) x).2 then cJ name (cE name l ps) x else (bK.zero,false):=by
 unfold cE at h ⊢
 simp only at h ⊢
 rw [List.foldl_append]
 split at h
 ·rename_i g;rw [if_pos g];rfl
 cases h
theorem Iz {name:aH} {l:List Node} {ps:List Place} (h:(cE name l ps).2=true) {x:Place} (hx:x.node≠name):cE name l (ps++[x])=cE name l ps:=by
 rw [BY h]
 have:cJ name (cE name l ps) x=cE name l ps:=by unfold cJ;rw [if_neg (by simp [hx])]
 rw [this,if_pos h]
theorem K4 {name:aH} {l:List Node} {ps:List Place} (h:(cE name l ps).2=true) {bA:Int} {v:bK} (hv:(dY (cE name l ps).1 v).2=true):cE name l (ps++[⟨bA,name,v⟩])=dY (cE name l ps).1 v:=by
 rw [BY h]
 have:cJ name (cE name l ps) ⟨bA,name,v⟩=dY (cE name l ps).1 v:=by unfold cJ;rw [if_pos (by simp [h])]
 rw [this,if_pos hv]
theorem IA {l L:List Node} {v:bK} (hv:v.w) (bA:Int) (F:Node→Bool) (hL:L=(l.filter (·.up)).filter F):∀(n:Nat) (ps:List Place) (out:List aH),cB.ok ⟨l,ps⟩→cB.w ⟨l,ps⟩→
 (nW v n (L.map (iP ⟨l,ps⟩)) out).2=true→
 ∃new,(nW v n (L.map (iP ⟨l,ps⟩)) out).1=out++new∧new.length=n∧(fA l bA v new ps).1=none
 |0,ps,out,_,_,_=>⟨[],by simp [nW],rfl,rfl⟩
 |n+1,ps,out,h,hw,e=>by
  have hN:∀m∈L,m∈l∧m.up=true:=fun m hm=>by rw [hL] at hm;exact List.mem_filter.1 (List.mem_filter.1 hm).1
  have hLw:∀s∈L.map (iP ⟨l,ps⟩),s.free.w:=by
   intro s hs
   obtain ⟨m,hm,rfl⟩:=List.mem_map.1 hs
   exact RQ h hw (hN m hm).1
  simp only [nW] at e ⊢
  cases hb:(best (L.map (iP ⟨l,ps⟩)) v).ok with
  |false=>rw [hb] at e;simp at e
  |true=>
   rw [hb] at e
   obtain ⟨s,h1,h2,h3⟩:=Io hv hLw hb
   rw [show (!true)=false from rfl,if_neg (by decide)] at e ⊢
   generalize (best (L.map (iP ⟨l,ps⟩)) v).at_=i at h1 e ⊢
   generalize (best (L.map (iP ⟨l,ps⟩)) v).left=u at h3 e ⊢
   subst h3
   have hd:(L.map (iP ⟨l,ps⟩)).getD i default=s:=by rw [List.getD_eq_getElem?_getD,h1];rfl
   rw [hd] at e ⊢
   rw [List.getElem?_map] at h1
   cases hi:L[i]? with
   |none=>rw [hi] at h1;cases h1
   |some m=>
    rw [hi] at h1
    simp only [Option.map_some,osI] at h1
    subst h1
    have hm:=hN m (List.mem_of_getElem? hi)
    have hf:=h.free m hm.1
    have Zf:=(h.ym.filter (·.up)).filter F
    rw [←hL] at Zf
    have QN:(L.map (iP ⟨l,ps⟩)).set i {iP ⟨l,ps⟩ m with free:=(dY (iP ⟨l,ps⟩ m).free v).1}=L.map (iP ⟨l,ps++[⟨bA,m.name,v⟩]⟩):=by
     refine List.ext_getElem? fun k=>?_
     rw [List.getElem?_set,List.getElem?_map,List.getElem?_map,lgM]
     by_cases c:i=k
     ·subst c
      rw [if_pos rfl,if_pos (List.getElem?_eq_some_iff.1 hi).1,hi]
      simp only [Option.map_some,iP]
      rw [K4 hf h2]
     rw [if_neg c]
     cases hk:L[k]? with
     |none=>rfl
     |some m'=>
      have hne:m.name≠m'.name:=by
       intro g
       obtain ⟨a1,a2⟩:=List.getElem?_eq_some_iff.1 hi
       obtain ⟨b1,b2⟩:=List.getElem?_eq_some_iff.1 hk
       rcases Nat.lt_or_gt_of_ne c with d|d
       ·have:=List.pairwise_iff_getElem.1 Zf i k a1 b1 d
        rw [a2,b2,g] at this;exact absurd this (List.lt_irrefl _)
       have:=List.pairwise_iff_getElem.1 Zf k i b1 a1 d
       rw [a2,b2,g] at this;exact absurd this (List.lt_irrefl _)
      simp only [Option.map_some,iP]
      rw [Iz (h.free m' (hN m' (List.mem_of_getElem? hk)).1) (x:=⟨bA,m.name,v⟩) hne]
    rw [QN] at e ⊢
    have hpr:mW m.name v l ps=0:=by
     unfold mW
     rw [Dc h.ym hm.1,hf]
     simp only [hm.2,Bool.not_true,Bool.false_or,Bool.false_eq_true,if_false]
     rw [show kY v (cE m.name l ps).1=true from h2]
     rfl
    obtain ⟨k1,k2⟩:=LZ h hw hv bA hpr
    obtain ⟨new,g1,g2,g3⟩:=IA hv bA F hL n _ _ k1 k2 e
    refine ⟨m.name::new,by rw [g1];simp [iP],by simp [g2],?_⟩
    unfold fA
    rw [if_neg (by simp [hpr])]
    exact g3
theorem BZ {s:bE} (h:s.ok) {i:Nat} {j:Jb} (hj:s.ay[i]?=some j) (hr:j.runs=false) {nodes:List aH} (e:dH s j.id=(nodes,true)):(cM s j.id nodes).2=0:=by
 have hroom:=(xB h hj hr).1 (by rw [e])
 obtain ⟨r1,r2⟩:=hroom
 have hm:=List.mem_of_getElem? hj
 have hc:=h.uw j hm
 have hz:=eb.1 hc.1
 have Vt:=hz.2.1
 obtain ⟨k1,k2,k3⟩:=pL h.ids hj
 have hfit:nodes=(fit (eR s.bg) j.x.bY j.x.fK j.x.count).1:=by
  have:(dH s j.id).1=(fit (eR s.bg) j.x.bY j.x.fK j.x.count).1:=by
   unfold dH iI fL
   rw [k3]
   simp only [hr,hz.2.2.2.2.2,r1,Bool.not_false,Bool.and_true,Bool.not_true,Bool.false_or]
   rw [show (cZ s.tree j.x.path (cU j.x).1).2=0 from r2]
   rfl
  rw [e] at this;exact this
 have hf:(fit (eR s.bg) j.x.bY j.x.fK j.x.count)=nW j.x.fK j.x.count.toNat (((s.bg.nodes.filter (·.up)).filter fun n=>ny j.x.bY n.labels).map (iP s.bg)) []:=by
  unfold fit
  rw [if_neg (by omega),nh h.bg,show max j.x.count 0=j.x.count by omega]
 rw [hf] at r1 hfit
 obtain ⟨new,g1,g2,g3⟩:=IA hc.2.1 j.id (fun n=>ny j.x.bY n.labels) rfl _ s.bg.places [] h.bg h.kN r1
 have hn:nodes=new:=by rw [hfit];exact g1
 subst hn
 unfold cM
 rw [k1]
 simp only
 rw [k2]
 unfold jG
 rw [hr,if_neg (by decide),if_neg (by rw [g2];omega),hz.2.2.2.2.2,if_neg (by decide),if_neg (by simp [show (cZ s.tree j.x.path (cU j.x).1).2=0 from r2])]
 have hp:(tW s.bg j.id nodes j.x.fK).2=0:=by
  unfold tW
  rw [g3]
 rw [if_neg (by simp [hp])]
theorem E8 {s:bE} (h:s.ok) {id:Int} (hw:(∃j∈s.ay,j.id=id∧j.runs=false)∨∀j∈s.ay,j.id≠id):
 ((dH s id).2=true→(cM s id (dH s id).1).2=0∧fF (cM s id (dH s id).1).1=true)∧
 ((aP s id).2.2=false→(dH s id).2=false)∧
 ((
  aP s id).2.2=true→(cM (aW s (aP s id).1) id (aP s id).2.1).2=0∧fF (cM (aW s (aP s id).1) id (aP s id).2.1).1=true∧
  (bG (cM (aW s (aP s id).1) id (aP s id).2.1).1.ay id).2=true∧(bG (cM (aW s (aP s id).1) id (aP s id).2.1).1.ay id).1.runs=true):=by
 have hs:=BW h hw
 rcases hw with ⟨j,hj,rfl,hr⟩|hn
 ·obtain ⟨i,hi⟩:=List.getElem?_of_mem hj
  refine ⟨fun e=>⟨BZ h hi hr (by rw [←e]),(h.wN _ _).right⟩,fun e=>?_,fun e=>?_⟩
  ·rw [e] at hs
   cases c:(dH s j.id).2 with
   |false=>rfl
   |true=>simp [c] at hs
  have hq:=(Iy h (.inl ⟨j,hj,rfl,hr⟩)).2 e
  have g:=eK h (aP s j.id).1
  generalize aW s (aP s j.id).1=W at*
  have hi2:W.ay[i]?=some j:=by
   rw [g.ay,List.getElem?_map,hi];simp [dI,hr]
  have hz:=BZ g.ok hi2 hr hq.1
  refine ⟨hz,(g.ok.wN _ _).right,?_⟩
  obtain ⟨i3,j3,T,b1,b2,b3,_,_,b6⟩:=wW g.ok hz
  have hok:=g.ok.wN j.id (aP s j.id).2.1
  rw [b6] at hok ⊢
  have:=(pL (i:=i3) (j:=j3.begun) hok.ids (by show (W.ay.set i3 j3.begun)[i3]?=_;rw [List.getElem?_set,if_pos rfl,if_pos (List.getElem?_eq_some_iff.1 b1).1])).2.2
  rw [show j3.begun.id=j.id from b2] at this
  rw [this]
  exact ⟨rfl,rfl⟩
 have e1:dH s id=([],false):=E7 h hn []
 refine ⟨fun e=>by simp [e1] at e,fun _=>by rw [e1],fun e=>?_⟩
 rw [e1,E7 h hn] at hs
 simp [e] at hs
end Dem
end
