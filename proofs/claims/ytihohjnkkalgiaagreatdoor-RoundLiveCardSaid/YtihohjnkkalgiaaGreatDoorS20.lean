/- Parts of a proof, joined. -/
import Derived.Test.YtihohjnkkalgiaaGreatDoorS19
set_option linter.all false
set_option maxRecDepth 100000
set_option maxHeartbeats 4000000
section
open Go
namespace Dem
structure aT.eZ (A:Ask→Prop) (s:aT):Prop where
 names:∀n∈s.aX.nodes,n.sm
 paths:∀e∈s.tree,e.path.length<1000
 xs:∀j∈s.ap,A j.x
structure fR (s t:aT):Prop where
 nodes:t.aX.nodes=s.aX.nodes
 paths:∀e∈t.tree,∃f∈s.tree,e.path=f.path
 xs:∀j∈t.ap,∃k∈s.ap,j.x=k.x
theorem fR.refl (s:aT):fR s s:=⟨rfl,fun e h=>⟨e,h,rfl⟩,fun j h=>⟨j,h,rfl⟩⟩
theorem fR.eZ {A:Ask→Prop} {s t:aT} (h:fR s t) (l:s.eZ A):t.eZ A:=by
 refine ⟨by rw [h.nodes];exact l.names,fun e he=>?_,fun j hj=>?_⟩
 ·obtain ⟨f,hf,e1⟩:=h.paths e he;rw [e1];exact l.paths f hf
 obtain ⟨k,hk,e1⟩:=h.xs j hj;rw [e1];exact l.xs k hk
theorem J7 {l:List Jb} {k:Nat} {j y:Jb} (hk:l[k]?=some y) (hx:j.x=y.x):∀z∈l.set k j,∃w∈l,z.x=w.x:=by
 intro z hz
 rcases List.mem_or_eq_of_mem_set hz with h|rfl
 ·exact ⟨z,h,rfl⟩
 exact ⟨y,List.mem_of_getElem? hk,hx⟩
theorem qO {t u:List bg} (h:cr t u):∀e∈u,∃f∈t,e.path=f.path:=fun e he=>by
 obtain ⟨f,hf,h1,_⟩:=h.back he
 exact ⟨f,hf,h1⟩
theorem Dq {s:aT} {id:Int} {names:List aK} (e:(cq s id names).2≠0):(cq s id names).1=s:=by
 unfold cq at e ⊢
 split
 ·rfl
 rename_i k hk
 rw [hk] at e
 simp only at e
 unfold jK at e ⊢
 by_cases h1:(s.ap.getD k Jb.zero).runs=true
 ·rw [if_pos h1]
 rw [if_neg h1] at e ⊢
 by_cases h2:(names.length:Int)≠(s.ap.getD k Jb.zero).x.count
 ·rw [if_pos h2]
 rw [if_neg h2] at e ⊢
 by_cases h3:(!(cZ (s.ap.getD k Jb.zero).x).2)=true
 ·rw [if_pos h3]
 rw [if_neg h3] at e ⊢
 split
 ·rfl
 rename_i h4
 rw [if_neg h4] at e
 split
 ·rfl
 rename_i h5
 rw [if_neg h5] at e
 exact absurd rfl e
theorem yo {s:aT} (h:s.ok) (id:Int) (names:List aK):fR s (cq s id names).1:=by
 by_cases e:(cq s id names).2=0
 ·obtain ⟨i,j,T,h1,h2,h3,h4,h5,h6⟩:=rX h e
  rw [h6]
  exact ⟨rfl,qO h5,J7 h1 rfl⟩
 rw [Dq e];exact fR.refl s
theorem J8 {s:aT} (h:s.ok) (id kind:Int):fR s (gC s id kind).1:=by
 cases hf:s.ap.findIdx? (fun j=>decide (j.id=id)) with
 |none=>unfold gC;rw [hf];exact fR.refl s
 |some i=>
  obtain ⟨j,hj,rfl,c⟩:=nH hf
  by_cases hr:j.runs=true
  ·obtain ⟨T,Q,h1,h2⟩:=Ba h hj hr kind
   rw [h2]
   exact ⟨rfl,qO h1,J7 hj rfl⟩
  unfold gC;rw [hf];simp only;rw [c,if_pos (by simpa using hr)];exact fR.refl s
theorem Dr {s:aT} (h:s.ok) (id kind:Int):fR s (send s id kind).1:=by
 cases hf:s.ap.findIdx? (fun j=>decide (j.id=id)) with
 |none=>unfold send;rw [hf];exact fR.refl s
 |some i=>
  obtain ⟨j,hj,rfl,c⟩:=nH hf
  obtain ⟨h1,h2,h3⟩:=zl h hj kind
  have hx:∀z∈s.ap.eraseIdx i,∃w∈s.ap,z.x=w.x:=fun z hz=>⟨z,List.mem_of_mem_eraseIdx hz,rfl⟩
  by_cases hr:j.runs=true
  ·obtain ⟨T,h4,h5⟩:=h3 hr
   rw [h5]
   exact ⟨rfl,qO h4,hx⟩
  rw [h2 (by simpa using hr)]
  exact ⟨rfl,fun e he=>⟨e,he,rfl⟩,hx⟩
theorem Bb {A:Ask→Prop} {s:aT} (l:s.eZ A) {x:Ask} (hx:A x):(dc s x).1.eZ A:=by
 by_cases e:(dc s x).2.2=0
 ·unfold dc at e ⊢
  split
  ·exact l
  split
  ·exact l
  split
  ·exact l
  split
  ·exact l
  refine ⟨l.names,l.paths,fun j hj=>?_⟩
  rcases List.mem_append.1 hj with h|h
  ·exact l.xs j h
  rw [List.mem_singleton.1 h];exact hx
 rw [(Dp e).1];exact l
structure sJ (x:Ask):Prop where
 path:x.path.length≤4
 gx:x.gx.w
 cE:x.cE.length≤1
 key:∀m∈x.cE,m.key.length≤4∧m.mQ.length≤1∧∀v∈m.mQ,v.length≤1
theorem mI (x:iX):sJ (Cb x):=by
 refine ⟨?_,PV x,?_,?_⟩
 ·unfold Cb
  simp only
  have:∀k<4,(AU.getD k []).length≤4:=by decide
  exact this _ (Nat.mod_lt _ (by decide))
 ·unfold Cb;simp only;split<;>simp
 unfold Cb;simp only;split
 ·intro m hm
  rw [List.mem_singleton.1 hm]
  exact ⟨by show SF.length≤4;decide,by simp,by simp⟩
 intro m hm;cases hm
theorem J9 {p:cH} (h:∀n∈p.nodes,n.sm) {y:Node} (hy:y.sm):∀n∈(qy p y).1.nodes,n.sm:=by
 rcases tJ p y with ⟨e,_⟩|⟨_,_,_,e⟩
 ·rw [e];exact h
 rw [e]
 intro n hn
 rcases List.mem_append.1 hn with h1|h1
 ·exact h n (List.mem_of_mem_take h1)
 rcases List.mem_cons.1 h1 with rfl|h1
 ·exact hy
 exact h n (List.mem_of_mem_drop h1)
theorem HI (i:Nat):(⟨kZ.getD i [],⟨(4+2*i:Nat),9,9,9⟩,AW i,false⟩:Node).sm:=by
 have h1:∀i,(kZ.getD i []).length≤2
  |0=>by decide
  |1=>by decide
  |2=>by decide
  |i+3=>by simp [kZ]
 have h2:∀i,(AW i).length≤1∧∀q∈AW i,q.sm:=by
  intro i
  unfold AW
  split
  ·refine ⟨by simp,fun q hq=>?_⟩
   rw [List.mem_singleton.1 hq]
   have h3:∀i,(([[97],[98]]:List aK).getD i []).length≤1
    |0=>by decide
    |1=>by decide
    |i+2=>by simp
   have:=h3 i
   exact ⟨by show SF.length<_;decide,by simp only;omega⟩
  exact ⟨by simp,fun q hq=>by cases hq⟩
 exact ⟨by have:=h1 i;simp only;omega,by have:=(h2 i).1;simp only;omega,(h2 i).2⟩
theorem tU (n:Nat):∀i,∀x∈(fc n i).nodes,x.sm
 |0=>fun x hx=>by cases hx
 |i+1=>by
  unfold fc
  split
  ·exact J9 (tU n i) (HI i)
  exact tU n i
theorem yq (A:Ask→Prop) (n:Nat):(jN n).eZ A:=by
 refine ⟨tU n 3,fun e he=>?_,fun j hj=>by cases hj⟩
 unfold jN at he
 rw [LI _ (Nat.mod_lt _ (by decide))] at he
 simp only [pz,List.mem_cons,List.not_mem_nil,or_false] at he
 rcases he with rfl|rfl|rfl|rfl<;>simp
theorem S9 (id:Int) (x:Place) (l:List Place):sq id (x::l)=(if x.bI=id then 1 else 0)+sq id l:=by
 unfold sq
 rw [List.filter_cons]
 split<;>simp_all<;>omega
theorem VH {js:List Jb} {f g:Jb→Nat} (h:∀j∈js,f j≤g j):(js.map f).sum≤(js.map g).sum:=by
 induction js with
 |nil=>simp
 |cons a l ih=>
  simp only [List.map_cons,List.sum_cons]
  have:=h a (List.mem_cons_self ..)
  have:=ih fun j hj=>h j (List.mem_cons_of_mem _ hj)
  omega
theorem Qu {js:List Jb} (f g:Jb→Nat):(js.map fun j=>f j+g j).sum=(js.map f).sum+(js.map g).sum:=by
 induction js with
 |nil=>simp
 |cons a l ih=>simp only [List.map_cons,List.sum_cons,ih];omega
theorem Ta {js:List Jb} {id:Int} {j:Jb} (hj:j∈js) (e:j.id=id):1≤(js.map fun j=>if id=j.id then 1 else 0).sum:=by
 induction js with
 |nil=>cases hj
 |cons a l ih=>
  simp only [List.map_cons,List.sum_cons]
  rcases List.mem_cons.1 hj with rfl|hj
  ·rw [if_pos e.symm];omega
  have:=ih hj;omega
theorem Bc {js:List Jb}:∀{l:List Place},(∀x∈l,∃j∈js,j.id=x.bI)→l.length≤(js.map fun j=>sq j.id l).sum
 |[],_=>by simp
 |x::l,h=>by
  have ih:=Bc (js:=js) (l:=l) fun y hy=>h y (List.mem_cons_of_mem _ hy)
  obtain ⟨j,hj,e⟩:=h x (List.mem_cons_self ..)
  have h1:=Ta hj e
  have:(fun j:Jb=>sq j.id (x::l))=fun j=>(if x.bI=j.id then 1 else 0)+sq j.id l:=by funext j;rw [S9]
  rw [this,Qu]
  simp only [List.length_cons]
  omega
theorem aT.ok.Ka {s:aT} (h:s.ok):s.aX.places.length≤256:=by
 have h1:=Bc (js:=s.ap) (l:=s.aX.places) fun x hx=>by
  obtain ⟨j,hj,_,e,_⟩:=h.places x hx
  exact ⟨j,hj,e⟩
 have h2:∀j∈s.ap,sq j.id s.aX.places≤8:=by
  intro j hj
  cases hr:j.runs with
  |true=>
   have e1:=h.count j hj hr
   have e2:=c7.1 (h.py j hj).1
   omega
  |false=>
   have e1:=h.LH hj hr
   have:sq j.id s.aX.places=0:=by
    unfold sq
    rw [List.length_eq_zero_iff,List.filter_eq_nil_iff]
    intro x hx;simpa using e1 x hx
   omega
 have h3:=VH (f:=fun j=>sq j.id s.aX.places) (g:=fun _=>8) h2
 have h4:(s.ap.map fun _=>8).sum=8*s.ap.length:=by
  generalize s.ap=l
  induction l with
  |nil=>rfl
  |cons a l ih=>simp only [List.map_cons,List.sum_cons,List.length_cons,ih];omega
 have:=h.most
 omega
end Dem
end
section
open Go Dem Go.Proofs
namespace Dem
variable {t:Th}
theorem Np (ht:TT t) (q:aK) {l:List (dx)} {es:List (List D)} (aE:es=l.map dx.cells) (f:Nat) (p:dx→Bool) (hl:l.length<9223372036854775807)
 (hf:∀x∈l,FC f [.agg [ST x.key,ST x.value],.ptr 0 0] [.var [ST q]] (.ret (BL (p x))) [.var [ST q]]) {r:Int} (hr:r=idxOf p l):FC 165 [SL es,.fn f [.ptr 0 0]] [.var [ST q]] (.ret (bG r)) [.var [ST q]]:=by
 have hel:es.length=l.length:=by rw [aE,lgM]
 obtain ⟨J,hJ⟩:∃J:Nat→Nat→Prop,∀n v,J n v↔(v+n=l.length∧∀i<v,∀x,l[i]?=some x→p x=false):=⟨fun n v=>v+n=l.length∧∀i<v,∀x,l[i]?=some x→p x=false,fun _ _=>Iff.rfl⟩
 refine bP ht (aQ:=[.var [ST q]]) Tryz.func165 rfl rfl (N:=19) rfl rfl (n:=1) rfl rfl ?_
 cbv
 refine bH ⟨[0,1,7,8],[],[]⟩ (σ:=Nat) (fun k=>[(8,bG (t _ fun _=>(k:Int)))]) (fun _=>[]) J ?_
 cbv
 refine aH ⟨l.length,0,(hJ _ _).2 ⟨by omega,by intro i hi;simp at hi⟩,by simp only [ht];rfl,?_⟩
 rintro n k hj
 obtain ⟨h2,h3⟩:=(hJ _ _).1 hj
 clear hj
 cbv
 refine av (fun h=>?_) (fun h=>?_)
 ·simp only [ht,ah,decide_eq_true_eq] at h
  have hk:k<l.length:=by omega
  obtain ⟨x,hx⟩:∃x,l[k]?=some x:=⟨l[k],by simp⟩
  have pG:x∈l:=List.mem_of_getElem? hx
  have ix:=hf x pG
  obtain ⟨px,hpx⟩:∃b,b=p x:=⟨_,rfl⟩
  rw [←hpx] at ix
  obtain ⟨k',v'⟩:=x
  cbv
  refine jG [.str k',.str v'] ?_ ?_ ?_
  ·simp only [ht,ah];refine ⟨by omega,h,?_⟩;rw [aE];intro r hr;obtain ⟨y,_,rfl⟩:=List.mem_map.1 hr;rfl
  ·simp [ht,ah,aE,hx]
  cbv
  refine eG trv ix ?_
  cbv
  refine av (fun hb=>?_) (fun hb=>?_)
  ·cbv
   refine az trv trv rfl rfl rfl ?_
   have e:=dD hx (hpx▸hb) h3
   simp only [ht,ah,hr,idxOf,e]
  cbv
  refine aH ⟨n-1,k+1,⟨by omega,(hJ _ _).2 ⟨by omega,?_⟩⟩,?_⟩
  ·intro i hi y hy
   by_cases hik:i<k
   ·exact h3 i hik y hy
   have:i=k:=by omega
   subst this;rw [hx] at hy;cases hy;rw [←hpx];exact hb
  simp only [ht,ah,aG (show k<9223372036854775807 by omega)];rfl
 simp only [ht,ah,decide_eq_false_iff_not] at h
 have hk:¬k<l.length:=by omega
 clear h
 cbv
 refine az trv trv rfl rfl rfl ?_
 rw [hr,idxOf,dQ]
 intro i y hy
 have:i<l.length:=by
  rcases Nat.lt_or_ge i l.length with h'|h';· exact h'
  simp [List.getElem?_eq_none h'] at hy
 exact h3 i (by omega) y hy
theorem Qv (ht:TT t) (q k v:aK):FC 166 [.agg [ST k,ST v],.ptr 0 0] [.var [ST q]] (.ret (BL (decide (k=q)))) [.var [ST q]]:=by
 refine bP ht (aQ:=[.var [ST q]]) Tryz.func166 rfl rfl (N:=8) rfl rfl (n:=1) rfl rfl ?_
 cbv
 refine az trv trv rfl rfl rfl ?_
 simp [ht]
def ESB (r:aK×Bool):AV:=.eA [ST r.1,BL r.2]
theorem HJ (ht:TT t) (q:aK) {l:List dx} {es:List (List D)} (aE:es=l.map dx.cells) (hl:l.length<1000000000):
 FC 115 [SL es,ST q] [] (.ret (ESB (t _ fun _=>GX l q))) []:=by
 obtain ⟨r9,jU⟩:∃r,r=idxOf (fun x:dx=>decide (x.key=q)) l:=⟨_,rfl⟩
 refine bP ht (aQ:=[]) Tryz.func115 rfl rfl (N:=17) rfl rfl (n:=0) rfl rfl ?_
 cbv
 have aD:es.length=l.length:=by rw [aE,lgM]
 (refine dP [0] trv rfl rfl (Np ht q aE 166 (fun x=>decide (x.key=q)) (by omega) (fun x _=>Qv ht q _ _) jU) (cK ?_);have ec:=cJ jU;clear jU;rcases ec with ⟨e1,e2,e3⟩|⟨i,x,hi,hil,e1,e2,e3,e4⟩)
 ·cbv
  refine av (fun h0=>?_) (fun h0=>?_)
  ·simp [ht] at h0
   cbv
   refine az trv trv rfl rfl rfl ?_
   (simp [ht,GX,e3];done)
  simp [ht] at h0
  omega
 cbv
 refine av (fun h1=>?_) (fun h1=>?_)
 ·simp [ht] at h1
  (simp only [ah] at*;omega)
 simp [ht] at h1
 cbv
 refine so ht aE (cT:=dx.aZ t) e1 ‹_› (fun _=>rfl) (fun _=>rfl) ?_
 cbv
 refine az trv trv rfl rfl rfl ?_
 (simp [ht,GX,e4];done)
theorem Nq (ht:TT t) (a:aK) {l:List aK} {es:List (List D)} (aE:es=l.map bE) (hl:l.length<1000000000):
 FC 293 [SL es,ST a] [] (.ret (gF (t _ fun _=>JT a l))) []:=by
 refine bP ht (aQ:=[]) Tryz.func293 rfl rfl (N:=19) rfl rfl (n:=0) rfl rfl ?_
 cbv
 have aD:es.length=l.length:=by rw [aE,lgM]
 obtain ⟨J0,fI⟩:∃J0:Nat→Int→Prop,∀n i,J0 n i↔(∃k:Nat,i=k∧k+n=l.length∧∀i<k,∀y,l[i]?=some y→a≠y):=⟨fun n v=>match v with|i=>(∃k:Nat,i=k∧k+n=l.length∧∀i<k,∀y,l[i]?=some y→a≠y),fun _ _=>Iff.rfl⟩
 refine bH ⟨[0,1,7,8],[],[]⟩ (σ:=Int) (fun v=>[(8,.d (.int .i64 (t _ fun _=>v)))]) (fun v=>[]) J0 ?_
 cbv
 refine aH ⟨l.length,_,(fI _ _).2 ?_,by simp only [ht];rfl,?_⟩
 ·exact ⟨0,rfl,by simp,fun i hi=>by omega⟩
 rintro n i hj
 replace hj:=(fI _ _).1 hj
 obtain ⟨k,rfl,j1,j4⟩:=hj
 cbv
 refine av (fun h1=>?_) (fun h1=>?_)
 ·simp [ht,ah,aD] at h1
  cbv
  refine kp ht aE (cT:=gw t) (by (simp only [ht,ah];omega)) (by (simp only [ht,ah];omega)) (fun _=>rfl) (fun _=>rfl) (fun x2 n9=>?_)
  simp [ht,ah] at n9
  cbv
  refine av (fun h3=>?_) (fun h3=>?_)
  ·simp [ht] at h3
   cbv
   refine az trv trv rfl rfl rfl ?_
   (simp only [ht];rw [LP ‹_› ‹_› j4];done)
  simp [ht] at h3
  cbv
  refine cz _ (by simp only [ht];rfl) (n-1) ?_ ((fI _ _).2 ?_)
  ·omega
  simp only [ah]
  exact ⟨k+1,aG (by omega),by omega,Dg j4 ‹_› ‹_›⟩
 simp [ht,ah,aD] at h1
 cbv
 refine az trv trv rfl rfl rfl ?_
 (simp only [ht];rw [LQ (by omega) j4];done)
theorem Nr (ht:TT t) (a:aK) {l:List aK} {es:List (List D)} (aE:es=l.map bE) (hl:l.length<1000000000):
 FC 292 [SL es,ST a] [] (.ret (dh (t _ fun _=>l.contains a))) []:=by
 refine bP ht (aQ:=[]) Tryz.func292 rfl rfl (N:=9) rfl rfl (n:=0) rfl rfl ?_
 cbv
 have aD:es.length=l.length:=by rw [aE,lgM]
 refine bc trv (Nq ht _ ‹_› ‹_›) trv rfl rfl (fun r0 dj=>?_)
 simp only [ht] at dj
 cbv
 refine az trv trv rfl rfl rfl ?_
 (simp [ht,dj,Hy];done)
theorem HK (ht:TT t) (a:aK) {l:List aK} {es:List (List D)} (aE:es=l.map bE) (hl:l.length<1000000000):
 FC 291 [SL es,ST a] [] (.ret (dh (t _ fun _=>l.contains a))) []:=by
 refine bP ht (aQ:=[]) Tryz.func291 rfl rfl (N:=8) rfl rfl (n:=0) rfl rfl ?_
 cbv
 have aD:es.length=l.length:=by rw [aE,lgM]
 refine bc trv (Nr ht _ ‹_› ‹_›) trv rfl rfl (fun r0 dj=>?_)
 simp only [ht] at dj
 cbv
 refine az trv trv rfl rfl rfl ?_
 (simp [*];done)
theorem HL (ht:TT t) (a:aK):FC 290 [.agg [],ST a] [] (.ret (BL true)) []:=by
 refine bP ht (aQ:=[]) Tryz.func290 rfl rfl (N:=5) rfl rfl (n:=0) rfl rfl ?_
 cbv
 refine az trv trv rfl rfl rfl ?_
 simp
theorem Tb (ht:TT t) (k:aK) (n:Bool):FC 116 [.agg [ST k,BL n,SL []]] [] (.ret (.rY 227 (.agg []))) []:=by
 refine bP ht (aQ:=[]) Tryz.func116 rfl rfl (N:=12) rfl rfl (n:=0) rfl rfl ?_
 cbv
 refine lp (by simp [ht]) ?_
 cbv
 refine az trv trv rfl rfl rfl ?_
 simp
theorem Tc (ht:TT t) (k:aK) (n:Bool) {vr:List (List D)} (hv:vr.length≠0):FC 116 [.agg [ST k,BL n,SL vr]] [] (.ret (.rY 228 (SL vr))) []:=by
 refine bP ht (aQ:=[]) Tryz.func116 rfl rfl (N:=12) rfl rfl (n:=0) rfl rfl ?_
 cbv
 refine pp (by simp only [ht,ah,decide_eq_false_iff_not];omega) ?_
 cbv
 refine az trv trv rfl rfl rfl ?_
 simp
theorem Kb (ht:TT t) (k:aK) (n:Bool) {vs:List aK} {vr:List (List D)} (Ht:vr=vs.map bE) (hv:vs.length<1000000000) {l:List dx} {ls:List (List D)} (hls:ls=l.map dx.cells) (hl:l.length<1000000000) (h0:vr=[]):
 FC 76 [.agg [ST k,BL n,SL vr],SL ls] [] (.ret (dh (t _ fun _=>kX ⟨k,n,vs⟩ l))) []:=by
 have hlen:vr.length=vs.length:=by rw [Ht,lgM]
 obtain ⟨H,hH⟩:∃H,H=kX ⟨k,n,vs⟩ l:=⟨_,rfl⟩
 rw [←hH]
 simp only [kX] at hH
 subst h0
 have Sw:vs.length=0:=by simpa using hlen.symm
 rw [if_pos (show vs.length=0 from Sw)] at hH
 clear Ht hlen
 refine bP ht (aQ:=[]) Tryz.func76 rfl rfl (N:=24) rfl rfl (n:=0) rfl rfl ?_
 cbv
 have wQ:ls.length=l.length:=by rw [hls,lgM]
 refine bc trv (HJ ht _ ‹_› ‹_›) trv rfl rfl (fun r0 dj=>?_)
 simp only [ht] at dj
 cbv
 refine dO [false,false,false,false,false,false,false,false,false,true,true] (by kernel_rfl) (by kernel_rfl) ?_
 cbv
 iterate 3 refine gI (by simp) ?_
 (refine nB (fun g=>⟨by simpa [ht] using g,trv,Tb ht k n⟩) rfl rfl rfl ?_)
 cbv
 refine gI (by simp) ?_
 (refine Ud (GI (fun g=>⟨by simpa [ht] using g,trv,HL ht _⟩) rfl rfl ?_))
 cbv
 refine gI (by simp [aj]) ?_
 iterate 2 refine gI (by simp) ?_
 refine az trv trv rfl rfl rfl ?_
 (simp only [ht];grind)
theorem Kc (ht:TT t) (k:aK) (n:Bool) {vs:List aK} {vr:List (List D)} (Ht:vr=vs.map bE) (hv:vs.length<1000000000) {l:List dx} {ls:List (List D)} (hls:ls=l.map dx.cells) (hl:l.length<1000000000) (h0:vr.length≠0):
 FC 76 [.agg [ST k,BL n,SL vr],SL ls] [] (.ret (dh (t _ fun _=>kX ⟨k,n,vs⟩ l))) []:=by
 have hlen:vr.length=vs.length:=by rw [Ht,lgM]
 obtain ⟨H,hH⟩:∃H,H=kX ⟨k,n,vs⟩ l:=⟨_,rfl⟩
 rw [←hH]
 simp only [kX] at hH
 rw [if_neg (show ¬vs.length=0 by omega)] at hH
 refine bP ht (aQ:=[]) Tryz.func76 rfl rfl (N:=24) rfl rfl (n:=0) rfl rfl ?_
 cbv
 have wN:vr.length=vs.length:=by rw [Ht,lgM]
 have wQ:ls.length=l.length:=by rw [hls,lgM]
 refine bc trv (HJ ht _ ‹_› ‹_›) trv rfl rfl (fun r0 dj=>?_)
 simp only [ht] at dj
 cbv
 refine dO [false,false,false,false,false,false,false,false,false,true,true] (by kernel_rfl) (by kernel_rfl) ?_
 cbv
 iterate 3 refine gI (by simp) ?_
 (refine nB (fun g=>⟨by simpa [ht] using g,trv,Tc ht k n (by omega)⟩) rfl rfl rfl ?_)
 cbv
 refine gI (by simp) ?_
 (refine Ud (eY (fun g=>⟨by simpa [ht] using g,trv,HK ht _ Ht hv⟩) rfl rfl (fun r1 cF=>?_));simp only [ht] at cF)
 cbv
 refine gI (by simp [aj]) ?_
 iterate 2 refine gI (by simp) ?_
 refine az trv trv rfl rfl rfl ?_
 (simp only [ht];grind)
theorem Ns (ht:TT t) (k:aK) (n:Bool) {vs:List aK} {vr:List (List D)} (Ht:vr=vs.map bE) (hv:vs.length<1000000000) {l:List dx} {ls:List (List D)} (hls:ls=l.map dx.cells) (hl:l.length<1000000000):
 FC 76 [.agg [ST k,BL n,SL vr],SL ls] [] (.ret (dh (t _ fun _=>kX ⟨k,n,vs⟩ l))) []:=by
 by_cases h0:vr=[]
 ·exact Kb ht k n Ht hv hls hl h0
 exact Kc ht k n Ht hv hls hl (by intro h;exact h0 (List.length_eq_zero_iff.1 h))
theorem Ke (ht:TT t) (ls:List (List D)) {l:List (Term)} {es:List (List D)} (aE:es=l.map Term.cells) (f:Nat) (p:Term→Bool) (hl:l.length<9223372036854775807)
 (hf:∀x∈l,FC f [.agg [ST x.key,BL x.no,SL (x.mQ.map bE)],.ptr 0 0] [.var [SL ls]] (.ret (BL (p x))) [.var [SL ls]]) {r:Int} (hr:r=idxOf p l):FC 114 [SL es,.fn f [.ptr 0 0]] [.var [SL ls]] (.ret (bG r)) [.var [SL ls]]:=by
 have hel:es.length=l.length:=by rw [aE,lgM]
 obtain ⟨J,hJ⟩:∃J:Nat→Nat→Prop,∀n v,J n v↔(v+n=l.length∧∀i<v,∀x,l[i]?=some x→p x=false):=⟨fun n v=>v+n=l.length∧∀i<v,∀x,l[i]?=some x→p x=false,fun _ _=>Iff.rfl⟩
 refine bP ht (aQ:=[.var [SL ls]]) Tryz.func114 rfl rfl (N:=19) rfl rfl (n:=1) rfl rfl ?_
 cbv
 refine bH ⟨[0,1,7,8],[],[]⟩ (σ:=Nat) (fun k=>[(8,bG (t _ fun _=>(k:Int)))]) (fun _=>[]) J ?_
 cbv
 refine aH ⟨l.length,0,(hJ _ _).2 ⟨by omega,by intro i hi;simp at hi⟩,by simp only [ht];rfl,?_⟩
 rintro n k hj
 obtain ⟨h2,h3⟩:=(hJ _ _).1 hj
 clear hj
 cbv
 refine av (fun h=>?_) (fun h=>?_)
 ·simp only [ht,ah,decide_eq_true_eq] at h
  have hk:k<l.length:=by omega
  obtain ⟨x,hx⟩:∃x,l[k]?=some x:=⟨l[k],by simp⟩
  have pG:x∈l:=List.mem_of_getElem? hx
  have ix:=hf x pG
  obtain ⟨px,hpx⟩:∃b,b=p x:=⟨_,rfl⟩
  rw [←hpx] at ix
  obtain ⟨a,b,c⟩:=x;obtain ⟨Hr,mH⟩:∃lr:List (List D),lr=c.map bE:=⟨_,rfl⟩;simp only [←mH] at ix
  cbv
  refine jG [.str a,.bool b,.sl Hr] ?_ ?_ ?_
  ·simp only [ht,ah];refine ⟨by omega,h,?_⟩;rw [aE];intro r hr;obtain ⟨y,_,rfl⟩:=List.mem_map.1 hr;rfl
  ·simp [ht,ah,aE,hx,mH,Term.cells]
  cbv
  refine eG trv ix ?_
  cbv
  refine av (fun hb=>?_) (fun hb=>?_)
  ·cbv
   refine az trv trv rfl rfl rfl ?_
   have e:=dD hx (hpx▸hb) h3
   simp only [ht,ah,hr,idxOf,e]
  cbv
  refine aH ⟨n-1,k+1,⟨by omega,(hJ _ _).2 ⟨by omega,?_⟩⟩,?_⟩
  ·intro i hi y hy
   by_cases hik:i<k
   ·exact h3 i hik y hy
   have:i=k:=by omega
   subst this;rw [hx] at hy;cases hy;rw [←hpx];exact hb
  simp only [ht,ah,aG (show k<9223372036854775807 by omega)];rfl
 simp only [ht,ah,decide_eq_false_iff_not] at h
 have hk:¬k<l.length:=by omega
 clear h
 cbv
 refine az trv trv rfl rfl rfl ?_
 rw [hr,idxOf,dQ]
 intro i y hy
 have:i<l.length:=by
  rcases Nat.lt_or_ge i l.length with h'|h';· exact h'
  simp [List.getElem?_eq_none h'] at hy
 exact h3 i (by omega) y hy
theorem Kf (ht:TT t) (ls:List (List D)) {l:List (Term)} {es:List (List D)} (aE:es=l.map Term.cells) (f:Nat) (p:Term→Bool) (hl:l.length<9223372036854775807)
 (hf:∀x∈l,FC f [.agg [ST x.key,BL x.no,SL (x.mQ.map bE)],.ptr 0 0] [.var [SL ls]] (.ret (BL (p x))) [.var [SL ls]]) {r:Bool} (hr:r=l.any p):FC 74 [SL es,.fn f [.ptr 0 0]] [.var [SL ls]] (.ret (BL r)) [.var [SL ls]]:=by
 obtain ⟨k,hk⟩:∃k,k=idxOf p l:=⟨_,rfl⟩
 refine bP ht (aQ:=[.var [SL ls]]) Tryz.func74 rfl rfl (N:=9) rfl rfl (n:=1) rfl rfl ?_
 cbv
 refine eG trv (Ke ht ls aE f p hl hf hk) ?_
 cbv
 refine az trv trv rfl rfl rfl ?_
 simp only [ht,hr,iQ,hk]
theorem Qw (ht:TT t) (k:aK) (n:Bool) {vs:List aK} {vr:List (List D)} (Ht:vr=vs.map bE) (hv:vs.length<1000000000) {l:List dx} {ls:List (List D)} (hls:ls=l.map dx.cells) (hl:l.length<1000000000) {r:Bool} (hr:r=!kX ⟨k,n,vs⟩ l):
 FC 75 [.agg [ST k,BL n,SL vr],.ptr 0 0] [.var [SL ls]] (.ret (BL r)) [.var [SL ls]]:=by
 obtain ⟨H,hH⟩:∃H,H=kX ⟨k,n,vs⟩ l:=⟨_,rfl⟩
 rw [←hH] at hr
 refine bP ht (aQ:=[.var [SL ls]]) Tryz.func75 rfl rfl (N:=8) rfl rfl (n:=1) rfl rfl ?_
 cbv
 have wN:vr.length=vs.length:=by rw [Ht,lgM]
 have wQ:ls.length=l.length:=by rw [hls,lgM]
 refine bc trv (Ns ht _ _ ‹_› ‹_› ‹_› ‹_›) trv rfl rfl (fun r1 cF=>?_)
 simp only [ht] at cF
 cbv
 refine az trv trv rfl rfl rfl ?_
 (simp [*];done)
theorem Nt (ht:TT t) {x:List Term} {xr:List (List D)} (EQ:xr=x.map Term.cells) (hx:x.length<1000000000) (Fe:∀m∈x,m.mQ.length<1000000000) {l:List dx} {ls:List (List D)} (hls:ls=l.map dx.cells) (hl:l.length<1000000000):
 FC 34 [SL xr,SL ls] [] (.ret (dh (t _ fun _=>nD x l))) []:=by
 obtain ⟨r9,jU⟩:∃r,r=x.any (fun m=>!kX m l):=⟨_,rfl⟩
 refine bP ht (aQ:=[]) Tryz.func34 rfl rfl (N:=9) rfl rfl (n:=0) rfl rfl ?_
 cbv
 have Kg:xr.length=x.length:=by rw [EQ,lgM]
 have wQ:ls.length=l.length:=by rw [hls,lgM]
 (refine dP [0] trv rfl rfl (Kf ht ls EQ 75 (fun m=>!kX m l) (by omega) (fun m hm=>Qw ht _ _ rfl (Fe m hm) hls hl rfl) jU) (cK ?_))
 cbv
 refine az trv trv rfl rfl rfl ?_
 (simp [ht,nD,jU];done)
end Dem
end
section
open Go
namespace Dem
section
variable {P:Program} {G:Nat→Option (List D)}
theorem yu {f:Nat} {args:List AV} {bx aU pP:List aA} {v v2:AV} (h:bF P G f args bx (.ret v) aU)
 (hs:∀β w X u,cP G β aU w X→ak β aU w (bp β aU w X) v u→Ext β aU w β pP w∧cP G β pP w X∧ak β pP w (bp β pP w X) v2 u):bF P G f args bx (.ret v2) pP:=by
 intro β w vs X cx hx
 refine jD.mono (h β w vs X cx hx) ?_
 rintro e w' ⟨β',ex,mO,hr⟩
 cases e with
 |returned u=>
  obtain ⟨a,b,c⟩:=hs β' w' X u mO hr
  exact ⟨β',ex.trans a,b,c⟩
 |panicked ch=>exact hr.elim
 |outgrown=>exact hr.elim
theorem Qx {β:Nat→Nat} {bx:List aA} {w:World} {b:Nat} {B B':aA} (hb:bx[b]?=some B) (hl:B.live=true) (dW:B'.born=true):Ext β bx w β (bx.set b B') w:=by
 refine ⟨rfl,rfl,rfl,Nat.le_refl _,fun _ _ _=>rfl,fun k c e f h=>⟨c,h,rfl⟩,fun i hi=>⟨rfl,iE dW hi⟩,?_⟩
 intro i b' h1 h2
 rcases aP h1 with ⟨rfl,rfl,_⟩|⟨_,h3⟩
 ·exact .inr ⟨_,B,hb,hl,rfl⟩
 exact .inr ⟨i,b',h3,h2,rfl⟩
theorem Bd {f b sz k c:Nat} {ex:Bool} {args:List AV} {bx aU pP:List aA} {es r:List (List D)} (hk:0<k) (hb:aU[b]?=some (.row sz es)) (VI:k≤es.length) (hr:r=es.take k) (h2:pP=aU.set b (.row sz r))
 (h:bF P G f args bx (.ret (.vw b sz 0 k c ex)) aU):bF P G f args bx (.ret (.ow b sz k)) pP:=by
 subst hr h2
 refine yu h fun β w X u cx hv=>?_
 have hne:es≠[]:=by intro h;rw [h] at VI;simp at VI;omega
 have cG:(aA.row sz es).live=true:=by cases es with
  |nil=>exact absurd rfl hne
  |cons _ _=>rfl
 have ht:es.take k≠[]:=by
  intro h;have:=congrArg List.length h;simp at this;rcases this with h|h
  ·omega
  exact hne h
 have aag:(aA.row sz (es.take k)).live=true:=by
  cases hq:es.take k with
  |nil=>exact absurd hq ht
  |cons _ _=>rfl
 have ext:Ext β aU w β (aU.set b (.row sz (es.take k))) w:=Qx hb cG rfl
 simp only [ak] at hv
 obtain ⟨h1,base,cap,cs,e,f',rfl,h3,h4,h5,h6⟩:=hv
 refine ⟨ext,cx.step ext ?_ ?_,?_⟩
 ·intro i b' hi
  rcases aP hi with ⟨rfl,rfl,_⟩|⟨h7,h8⟩
  ·refine .inr ?_
   rcases cx.box _ _ hb with h|⟨c2,e2,g1,g2⟩
   ·exact absurd h hne
   exact .inr ⟨c2,e2,g1,ay.mono (ext.keeps X) _ _ (fun _=>rfl) _ _ (ay.Fq k _ _ g2)⟩
  exact .inl ⟨h8,fun _=>rfl⟩
 ·intro i j bi bj hi hj li lj he
  rcases aP hi with ⟨rfl,rfl,_⟩|⟨h7,h8⟩<;>rcases aP hj with ⟨rfl,rfl,_⟩|⟨h9,h10⟩
  ·rfl
  ·exact cx.inj _ _ _ _ hb h10 cG lj he
  ·exact cx.inj _ _ _ _ h8 hb li cG he
  exact cx.inj _ _ _ _ h8 h10 li lj he
 simp only [ak]
 refine ⟨(ext.born b h1).2,.inr ⟨by omega,cap,?_⟩⟩
 rcases h6 with h6|⟨rfl,h7,h8⟩
 ·omega
 exact ⟨cs,e,f',by simp,h3,h7,by simpa using h8⟩
theorem Be {f b sz k c:Nat} {ex:Bool} {args:List AV} {bx aU pP:List aA} {es r:List (List D)} (hb:aU[b]?=some (.row sz es)) (VI:k≤es.length) (hr:r=es.take k) (h2:pP=aU.set b .dead)
 (h:bF P G f args bx (.ret (.vw b sz 0 k c ex)) aU):bF P G f args bx (.ret (.d (.sl r))) pP:=by
 subst hr h2
 refine yu h fun β w X u cx hv=>?_
 have ext:Ext β aU w β (aU.set b .dead) w:=iF hb rfl rfl
 simp only [ak] at hv
 obtain ⟨h1,base,cap,cs,e,f',rfl,h3,h4,h5,h6⟩:=hv
 refine ⟨ext,ke cx hb rfl rfl (by simp [dz]),?_⟩
 have hl:(es.take k).length=k:=by simp;omega
 simp only [ak,aL]
 refine ⟨base,cap,by rw [hl],by rw [hl];exact h3,?_⟩
 by_cases hk:k=0
 ·exact .inl (by rw [hk];rfl)
 refine .inr ?_
 rcases h6 with h6|⟨rfl,h7,h8⟩
 ·omega
 rcases cx.box _ _ hb with h|⟨c2,e2,g1,g2⟩
 ·rw [h] at VI;simp at VI;omega
 refine ⟨β b,0,sz,by simp,⟨fh g1,?_,?_⟩,ay.mono (ext.keeps X) _ _ (fun _=>rfl) _ _ (ay.Fq k _ _ g2)⟩
 ·refine cx.apart b _ hb ?_
  cases es with
  |nil=>simp at VI;omega
  |cons _ _=>rfl
 intro i b' h9 h10 he
 rcases aP h9 with ⟨rfl,rfl,_⟩|⟨h11,h12⟩
 ·simp [aA.live] at h10
 refine h11 (cx.inj i b b' _ h12 hb h10 ?_ he)
 cases es with
 |nil=>simp at VI;omega
 |cons _ _=>rfl
theorem an.split {β:Nat→Nat} {bx:List aA} {w:World} {ok:Nat→Prop}:∀{xs ys:List AV} {vs:List Value},an β bx w ok (xs++ys) vs→∃us ws,vs=us++ws∧an β bx w ok xs us∧an β bx w ok ys ws
 |[],_,vs,h=>⟨[],vs,rfl,by simp only [an],h⟩
 |x::xs,ys,vs,h=>by
  rw [List.cons_append] at h
  simp only [an] at h ⊢
  obtain ⟨u,us,rfl,h1,h2⟩:=h
  obtain ⟨a,b,rfl,h3,h4⟩:=an.split h2
  exact ⟨u::a,b,rfl,⟨u,a,rfl,h1,h3⟩,h4⟩
theorem qP {f g b:Nat} {xs:List AV} {cs:List AV} {ds:List D} {bx pO aU:List aA} {res:jR} (hb:bx[b]?=some (.var cs)) (hd:iV [] cs=some ds) (h1:pO=bx.set b .dead)
 (h:bF P G f (xs++[.fn g [.ep ds]]) pO res aU):bF P G f (xs++[.fn g [.ptr b 0]]) bx res aU:=by
 subst h1
 intro β w vs X cx hx
 have ext:Ext β bx w β (bx.set b .dead) w:=iF hb rfl rfl
 have mO:cP G β (bx.set b .dead) w X:=ke cx hb rfl rfl (by simp [dz])
 obtain ⟨c2,e2,g1,g2⟩:=cx.box _ _ hb
 have hok:bp β (bx.set b .dead) w X (β b):=by
  refine ⟨fh g1,cx.apart b _ hb rfl,?_⟩
  intro i b' h3 h4 he
  rcases aP h3 with ⟨rfl,rfl,_⟩|⟨h5,h6⟩
  ·simp [aA.live] at h4
  exact h5 (cx.inj i b b' _ h6 hb h4 rfl he)
 have hrow:aY w (bp β bx w X) (β b) ds 0:=by
  refine DT ds 0 c2.toList ?_ (rH hd g2)
  intro j v hj
  simp only [World.cell?,g1]
  simpa using hj
 have Ds:=aY.mono (ext.keeps X) _ (fun _=>rfl) _ _ hrow
 obtain ⟨us,ws0,rfl,hu,hw⟩:=an.split hx
 simp only [an,ak] at hw
 obtain ⟨v,vs',rfl,⟨ws,rfl,w1,ws',rfl,⟨rfl,DY⟩,rfl⟩,rfl⟩:=hw
 refine jD.mono (h β w _ X mO ?_) ?_
 ·refine an.append (an.mono (ext.eX X) _ _ hu) ?_
  simp only [an,ak]
  exact ⟨_,_,rfl,⟨_,rfl,_,_,rfl,⟨β b,0,rfl,hok,Ds⟩,rfl⟩,rfl⟩
 rintro e w' ⟨β',ex,aah,hr⟩
 exact ⟨β',ext.trans ex,aah,hr⟩
theorem oY {f g b:Nat} {x:AV} {cs:List AV} {ds:List D} {bx pO aU:List aA} {res:jR} (hb:bx[b]?=some (.var cs)) (hd:iV [] cs=some ds) (h1:pO=bx.set b .dead)
 (h:bF P G f [x,.fn g [.ep ds]] pO res aU):bF P G f [x,.fn g [.ptr b 0]] bx res aU:=qP (xs:=[x]) hb hd h1 h
end
end Dem
end
section
open Go Dem Go.Proofs
namespace Dem
variable {t:Th}
theorem yw (ht:TT t) {es:List (List D)} (aE:∀r∈es,r.length=6) (hs:es.length*72≤140737488355328) {m:Nat} (hm:m=es.length):
 FC 191 [SL es] [] (.ret (.ow 0 6 m)) [.row 6 es]:=by
 refine bP ht (aQ:=[]) Tryz.func191 rfl rfl (N:=8) rfl rfl (n:=0) rfl rfl ?_
 cbv
 refine ⟨fun b hb=>?_⟩
 simp only [ht] at hb
 cbv
 refine av (fun h=>?_) (fun h=>?_)
 ·have he:=hb h
  subst he
  cbv
  exact GK trv rfl rfl (by rw [hm];rfl) rfl
 clear hb h
 cbv
 refine ⟨?_,?_⟩
 ·simp only [ht];simp;exact ⟨hs,aE⟩
 refine B5 trv rfl rfl rfl rfl ?_ ?_
 ·simp only [ht];rw [hm];simp
 simp only [ht];rfl
theorem Nu (ht:TT t) (xr:List (List D)) {l:List (bV)} {es:List (List D)} (aE:es=l.map bV.cells) (f:Nat) (p:bV→Bool) (hl:l.length<9223372036854775807)
 (hf:∀x∈l,FC f [.agg [ST x.node,aC x.free.a,aC x.free.b,aC x.free.c,aC x.free.d,SL (x.labels.map dx.cells)],.ep [.sl xr]] [] (.ret (BL (p x))) []) {r:Int} (hr:r=idxOf p l):FC 216 [SL es,.fn f [.ep [.sl xr]]] [] (.ret (bG r)) []:=by
 have hel:es.length=l.length:=by rw [aE,lgM]
 obtain ⟨J,hJ⟩:∃J:Nat→Nat→Prop,∀n v,J n v↔(v+n=l.length∧∀i<v,∀x,l[i]?=some x→p x=false):=⟨fun n v=>v+n=l.length∧∀i<v,∀x,l[i]?=some x→p x=false,fun _ _=>Iff.rfl⟩
 refine bP ht (aQ:=[]) Tryz.func216 rfl rfl (N:=19) rfl rfl (n:=0) rfl rfl ?_
 cbv
 refine bH ⟨[0,1,7,8],[],[]⟩ (σ:=Nat) (fun k=>[(8,bG (t _ fun _=>(k:Int)))]) (fun _=>[]) J ?_
 cbv
 refine aH ⟨l.length,0,(hJ _ _).2 ⟨by omega,by intro i hi;simp at hi⟩,by simp only [ht];rfl,?_⟩
 rintro n k hj
 obtain ⟨h2,h3⟩:=(hJ _ _).1 hj
 clear hj
 cbv
 refine av (fun h=>?_) (fun h=>?_)
 ·simp only [ht,ah,decide_eq_true_eq] at h
  have hk:k<l.length:=by omega
  obtain ⟨x,hx⟩:∃x,l[k]?=some x:=⟨l[k],by simp⟩
  have pG:x∈l:=List.mem_of_getElem? hx
  have ix:=hf x pG
  obtain ⟨px,hpx⟩:∃b,b=p x:=⟨_,rfl⟩
  rw [←hpx] at ix
  obtain ⟨nd,⟨v1,v2,v3,v4⟩,lb⟩:=x;obtain ⟨Hr,mH⟩:∃lr:List (List D),lr=lb.map dx.cells:=⟨_,rfl⟩;simp only [←mH] at ix
  cbv
  refine jG [.str nd,.int .u64 v1,.int .u64 v2,.int .u64 v3,.int .u64 v4,.sl Hr] ?_ ?_ ?_
  ·simp only [ht,ah];refine ⟨by omega,h,?_⟩;rw [aE];intro r hr;obtain ⟨y,_,rfl⟩:=List.mem_map.1 hr;rfl
  ·simp [ht,ah,aE,hx,mH,bV.cells]
  cbv
  refine eG trv ix ?_
  cbv
  refine av (fun hb=>?_) (fun hb=>?_)
  ·cbv
   refine az trv trv rfl rfl rfl ?_
   have e:=dD hx (hpx▸hb) h3
   simp only [ht,ah,hr,idxOf,e]
  cbv
  refine aH ⟨n-1,k+1,⟨by omega,(hJ _ _).2 ⟨by omega,?_⟩⟩,?_⟩
  ·intro i hi y hy
   by_cases hik:i<k
   ·exact h3 i hik y hy
   have:i=k:=by omega
   subst this;rw [hx] at hy;cases hy;rw [←hpx];exact hb
  simp only [ht,ah,aG (show k<9223372036854775807 by omega)];rfl
 simp only [ht,ah,decide_eq_false_iff_not] at h
 have hk:¬k<l.length:=by omega
 clear h
 cbv
 refine az trv trv rfl rfl rfl ?_
 rw [hr,idxOf,dQ]
 intro i y hy
 have:i<l.length:=by
  rcases Nat.lt_or_ge i l.length with h'|h';· exact h'
  simp [List.getElem?_eq_none h'] at hy
 exact h3 i (by omega) y hy
theorem Kh (ht:TT t) (xr:List (List D)) {l:List (bV)} {es:List (List D)} (aE:es=l.map bV.cells) {m c:Nat} (hm:m=l.length) (hc:m≤c) (f:Nat) (p:bV→Bool) (hl:l.length<9223372036854775807)
 (hf:∀x∈l,FC f [.agg [ST x.node,aC x.free.a,aC x.free.b,aC x.free.c,aC x.free.d,SL (x.labels.map dx.cells)],.ep [.sl xr]] [] (.ret (BL (p x))) []) {r:List (List D)} (hr:r=(l.filter (fun x=>!p x)).map bV.cells) {kk:Nat} (hkk:kk=r.length) {rz:List (List D)} (HM:rz=r++List.replicate (m-kk) [.str [],.int .u64 0,.int .u64 0,.int .u64 0,.int .u64 0,.sl []]):
 FC 190 [.vw 0 6 0 m c true,.fn f [.ep [.sl xr]]] [.row 6 es] (.ret (.vw 0 6 0 kk c true)) [.row 6 rz]:=by
 have hel:es.length=m:=by rw [aE,lgM,hm]
 have hrows:∀r∈es,r.length=6:=by rw [aE];intro r hr;obtain ⟨y,_,rfl⟩:=List.mem_map.1 hr;rfl
 obtain ⟨k,hk⟩:∃k,k=idxOf p l:=⟨_,rfl⟩
 have PW:(t (List (List D)) fun _=>(es.drop 0).take m)=l.map bV.cells:=by simp only [ht];rw [List.drop_zero,List.take_of_length_le (by omega),aE]
 have hidx:=Nu ht xr PW f p hl hf hk
 obtain ⟨J,hJ⟩:∃J:Nat→Nat×Nat×List (List D)→Prop,∀n v,J n v↔(v.2.1+n=m∧v.1<v.2.1∧v.2.2.length=m∧(∀r∈v.2.2,r.length=6)∧v.2.2.take v.1=((l.take v.2.1).filter (fun x=>!p x)).map bV.cells∧v.2.2.drop v.2.1=es.drop v.2.1):=⟨fun n v=>v.2.1+n=m∧v.1<v.2.1∧v.2.2.length=m∧(∀r∈v.2.2,r.length=6)∧v.2.2.take v.1=((l.take v.2.1).filter (fun x=>!p x)).map bV.cells∧v.2.2.drop v.2.1=es.drop v.2.1,fun _ _=>Iff.rfl⟩
 refine bP ht (aQ:=[.row 6 es]) Tryz.func190 rfl rfl (N:=42) rfl rfl (n:=1) rfl rfl ?_
 cbv
 refine Pu (TT.eq ht) (v:=bG k) [true] [] trv rfl ?_ rfl rfl rfl rfl rfl rfl rfl hidx ?_
 ·simp [ht];omega
 cbv
 refine av (fun h=>?_) (fun h=>?_)
 ·have vT:k=-1:=by simp [ht] at h;exact h
  have hnone:=nU (hk▸vT:idxOf p l=-1)
  clear h
  cbv
  have OI:r=es:=by rw [hr,filter_all hnone,←aE]
  have hkm:kk=m:=by rw [hkk,OI,hel]
  have VJ:rz=es:=by rw [HM,hkm,Nat.sub_self,OI];simp
  rw [VJ,hkm]
  exact Jl trv rfl rfl
 have vT:k≠-1:=by simp [ht] at h;exact h
 clear h
 obtain ⟨i0,x0,Uq,hx0,Ur,hb0⟩:=nV (hk▸vT:idxOf p l≠-1)
 rw [←hk] at Uq
 subst Uq
 have XX:i0<m:=by rw [hm];exact (List.getElem?_eq_some_iff.1 hx0).1
 cbv
 refine bH ⟨[0,1,5,6],[],[]⟩ (σ:=Nat×Nat×List (List D)) (fun v=>[(5,bG (t _ fun _=>(v.1:Int))),(6,bG (t _ fun _=>(v.2.1:Int)))]) (fun v=>[(0,.row 6 (t _ fun _=>v.2.2))]) J ?_
 cbv
 refine aH ⟨m-(i0+1),(i0,i0+1,es),(hJ _ _).2 ⟨?_,?_,hel,hrows,?_,rfl⟩,by simp only [ht,ah,Int.ofNat_eq_natCast,aG (show i0<9223372036854775807 by omega)];rfl,?_⟩
 ·show i0+1+(m-(i0+1))=m;omega
 ·show i0<i0+1;omega
 ·show es.take i0=_
  rw [dV hx0,List.filter_append,filter_all hb0,aE,←List.map_take];simp [Ur]
 rintro n ⟨i,j,cur⟩ hj
 obtain ⟨j1,j2,j3,j4,j5,j6⟩:=(hJ _ _).1 hj
 clear hj
 simp only at j1 j2 j3 j4 j5 j6
 cbv
 refine av (fun h=>?_) (fun h=>?_)
 ·have Us:j<m:=by simp [ht,ah] at h;omega
  clear h
  obtain ⟨x,hx⟩:∃x,l[j]?=some x:=⟨l[j]'(by omega),by simp⟩
  have pG:x∈l:=List.mem_of_getElem? hx
  have ix:=hf x pG
  have Hp:cur[j]?=some (bV.cells x):=by
   have:(cur.drop j)[0]?=(es.drop j)[0]?:=by rw [j6]
   rw [List.getElem?_drop,List.getElem?_drop,Nat.add_zero,aE,List.getElem?_map,hx] at this
   exact this
  obtain ⟨px,hpx⟩:∃b,b=p x:=⟨_,rfl⟩
  rw [←hpx] at ix
  obtain ⟨cx,EE⟩:∃cx,cx=bV.cells x:=⟨_,rfl⟩
  rw [←EE] at Hp
  have hstep:(l.take (j+1)).filter (fun x=>!p x)=(l.take j).filter (fun x=>!p x)++(if px then [] else [x]):=by
   rw [dV hx,List.filter_append];cases px<;>simp [←hpx]
  obtain ⟨nd,⟨v1,v2,v3,v4⟩,lb⟩:=x;obtain ⟨Hr,mH⟩:∃lr:List (List D),lr=lb.map dx.cells:=⟨_,rfl⟩;simp only [bV.cells,←mH] at ix EE
  cbv
  refine ⟨?_,Pq [.str nd,.int .u64 v1,.int .u64 v2,.int .u64 v3,.int .u64 v4,.sl Hr] ?_ ?_ ?_⟩
  ·simp [ht,ah];omega
  ·simp [ht,ah,j3];omega
  ·simp [ht,ah,List.getD_eq_getElem?_getD,Hp,EE]
  cbv
  refine dP [] trv rfl rfl ix (cK ?_)
  cbv
  refine av (fun hb=>?_) (fun hb=>?_)
  ·have hb':px=false:=by simpa [ht] using hb
   clear hb
   obtain ⟨nc,hnc⟩:∃nc,nc=cur.set i cx:=⟨_,rfl⟩
   have pJ:(cur.getD i []).length=6:=j4 _ (by rw [List.getD_eq_getElem?_getD,List.getElem?_eq_getElem (by omega)];exact List.getElem_mem _)
   cbv
   refine ⟨?_,?_⟩
   ·simp [ht,ah];omega
   refine ⟨?_,?_⟩
   ·simp [ht,ah,j3];exact ⟨by omega,by simpa using pJ.symm▸(Nat.le_refl _)⟩
   refine aH ⟨n-1,(i+1,j+1,nc),⟨by omega,(hJ _ _).2 ⟨?_,?_,?_,?_,?_,?_⟩⟩,?_⟩
   ·show j+1+(n-1)=m;omega
   ·show i+1<j+1;omega
   ·show nc.length=m;rw [hnc,List.length_set];exact j3
   ·show ∀r∈nc,r.length=6
    intro r hr;rw [hnc] at hr
    rcases List.mem_or_eq_of_mem_set hr with hr|rfl
    ·exact j4 r hr
    rw [EE];rfl
   ·show nc.take (i+1)=_
    rw [hnc,kH _ _ _ (by omega),j5,hstep,hb',EE];simp [mH,bV.cells]
   ·show nc.drop (j+1)=es.drop (j+1)
    rw [hnc,nj _ _ _ _ (by omega),←List.drop_drop,j6,List.drop_drop]
   simp only [ht,ah,Int.ofNat_eq_natCast,aG (show i<9223372036854775807 by omega),aG (show j<9223372036854775807 by omega)]
   have ei:0+((i:Int)).toNat=i:=by simp
   have e:cur.set i (be (cur.getD i []) 0 [.str nd,.int .u64 v1,.int .u64 v2,.int .u64 v3,.int .u64 v4,.sl Hr])=nc:=by rw [hnc,kG _ _ (by rw [pJ];rfl),EE]
   simp only [ei,e];rfl
  have hb':px=true:=by simpa [ht] using hb
  clear hb
  cbv
  refine aH ⟨n-1,(i,j+1,cur),⟨by omega,(hJ _ _).2 ⟨?_,?_,j3,j4,?_,?_⟩⟩,?_⟩
  ·show j+1+(n-1)=m;omega
  ·show i<j+1;omega
  ·show cur.take i=_
   rw [j5,hstep,hb'];simp
  ·show cur.drop (j+1)=es.drop (j+1)
   rw [←List.drop_drop,j6,List.drop_drop]
  simp only [ht,ah,Int.ofNat_eq_natCast,aG (show j<9223372036854775807 by omega)];rfl
 have Us:j=m:=by simp [ht,ah] at h;omega
 clear h
 obtain ⟨mi,xP⟩:∃mi,mi=m-i:=⟨_,rfl⟩
 obtain ⟨ci,pJ⟩:∃ci,ci=c-i:=⟨_,rfl⟩
 obtain ⟨nc,hnc⟩:∃nc,nc=wrote cur i (List.replicate mi [.str [],.int .u64 0,.int .u64 0,.int .u64 0,.int .u64 0,.sl []]):=⟨_,rfl⟩
 have hnt:nc.take i=r:=by
  have hl':(cur.take i).length=i:=by simp;omega
  rw [hnc,wrote,List.append_assoc,List.take_left' hl',j5,hr,Us,hm,List.take_length]
 have XY:i≤nc.length:=by rw [hnc];simp [wrote];omega
 cbv
 refine bL (.vw 0 6 i mi ci true) [.row 6 cur] ?_ ?_ ?_ ?_
 ·simp [ht,ah,dS,bS];omega
 ·simp [ht,ah,aW,aS,xP,pJ]
 ·simp only [ht]
 cbv
 refine bL (.eA []) [.row 6 nc] ?_ rfl ?_ ?_
 ·simp [ht,eP]
  refine ⟨by omega,?_⟩
  intro h;rw [h] at j3;simp at j3;omega
 ·simp only [ht,hnc]
 cbv
 refine bL (.vw 0 6 0 i c true) [.row 6 nc] ?_ ?_ rfl ?_
 ·simp [ht,ah,dS,bS];omega
 ·simp [ht,ah,aW,aS]
 cbv
 have hki:kk=i:=by rw [hkk,←hnt];simp;omega
 have VJ:rz=nc:=by
  rw [HM,hki,←hnt,hnc,wrote]
  have hl':(cur.take i).length=i:=by simp;omega
  rw [List.append_assoc,List.take_left' hl',List.drop_of_length_le (by simp;omega),List.append_nil,xP]
 rw [VJ,hki]
 exact Jl trv rfl rfl
theorem Ki (ht:TT t) (nd:aK) (v1 v2 v3 v4:Int) {lb:List dx} {lr:List (List D)} (hlr:lr=lb.map dx.cells) (hlb:lb.length<1000000000) {x:List Term} {xr:List (List D)} (EQ:xr=x.map Term.cells) (hx:x.length<1000000000) (Fe:∀m∈x,m.mQ.length<1000000000) {r:Bool} (hr:r=!nD x lb):
 FC 192 [.agg [ST nd,aC v1,aC v2,aC v3,aC v4,SL lr],.ep [.sl xr]] [] (.ret (BL r)) []:=by
 obtain ⟨H,hH⟩:∃H,H=nD x lb:=⟨_,rfl⟩
 rw [←hH] at hr
 refine bP ht (aQ:=[]) Tryz.func192 rfl rfl (N:=9) rfl rfl (n:=0) rfl rfl ?_
 cbv
 have Vx:lr.length=lb.length:=by rw [hlr,lgM]
 have Kg:xr.length=x.length:=by rw [EQ,lgM]
 refine bc trv (Nt ht ‹_› ‹_› ‹_› ‹_› ‹_›) trv rfl rfl (fun r0 dj=>?_)
 simp only [ht] at dj
 cbv
 refine az trv trv rfl rfl rfl ?_
 (simp [ht,hr,hH,dj];done)
def Int.cells (x:Int):List D:=[.int .u64 x]
def Int.aZ (_:Th) (x:Int):List D:=[.int .u64 x]
theorem ER (ht:TT t) (x:Int):FC 102 [aC x] [] (.ret (dh (t _ fun _=>false))) []:=by
 refine bP ht (aQ:=[]) Tryz.func102 rfl rfl (N:=6) rfl rfl (n:=0) rfl rfl ?_
 cbv
 refine az trv trv rfl rfl rfl ?_
 (simp [ht];done)
theorem Qy (ht:TT t) (x y:Int):FC 51 [aC x,aC y] [] (.ret (gF (t _ fun _=>iW x y))) []:=by
 refine bP ht (aQ:=[]) Tryz.func51 rfl rfl (N:=20) rfl rfl (n:=0) rfl rfl ?_
 cbv
 refine bc trv (ER ht _) trv rfl rfl (fun r0 dj=>?_)
 simp only [ht] at dj
 cbv
 refine bc trv (ER ht _) trv rfl rfl (fun r1 cF=>?_)
 simp only [ht] at cF
 cbv
 refine av (fun h2=>?_) (fun h2=>?_)
 ·cbv
  refine av (fun h3=>?_) (fun h3=>?_)
  ·cbv
   refine az trv trv rfl rfl rfl ?_
   (simp only [ht,iW];grind)
  cbv
  refine az trv trv rfl rfl rfl ?_
  (simp only [ht,iW];grind)
 cbv
 refine av (fun h4=>?_) (fun h4=>?_)
 ·cbv
  refine az trv trv rfl rfl rfl ?_
  (simp only [ht,iW];grind)
 cbv
 refine av (fun h5=>?_) (fun h5=>?_)
 ·simp [ht] at h5
  cbv
  refine az trv trv rfl rfl rfl ?_
  (simp [iW, *];done)
 simp [ht] at h5
 cbv
 refine av (fun h6=>?_) (fun h6=>?_)
 ·simp [ht] at h6
  cbv
  refine az trv trv rfl rfl rfl ?_
  (simp [iW, *];done)
 simp [ht] at h6
 cbv
 refine az trv trv rfl rfl rfl ?_
 (simp only [ht,iW];grind)
def cmpL:List Int→List Int→Int
 |x::r,y::s=>if iW x y≠0 then iW x y else cmpL r s
 |_,_=>0
theorem Kj (ht:TT t) {l m:List Int} {es fs:List (List D)} (aE:es=l.map Int.cells) (hfs:fs=m.map Int.cells) (hlm:l.length=m.length) (hl:l.length<1000000000):
 FC 217 [SL es,SL fs] [] (.ret (gF (t _ fun _=>cmpL l m))) []:=by
 refine bP ht (aQ:=[]) Tryz.func217 rfl rfl (N:=36) rfl rfl (n:=0) rfl rfl ?_
 cbv
 have aD:es.length=l.length:=by rw [aE,lgM]
 have ES:fs.length=m.length:=by rw [hfs,lgM]
 obtain ⟨J0,fI⟩:∃J0:Nat→Int→Prop,∀n i,J0 n i↔(∃k:Nat,i=k∧k+n=l.length∧l.length=m.length∧cmpL l m=cmpL (l.drop k) (m.drop k)):=⟨fun n v=>match v with|i=>(∃k:Nat,i=k∧k+n=l.length∧l.length=m.length∧cmpL l m=cmpL (l.drop k) (m.drop k)),fun _ _=>Iff.rfl⟩
 refine bH ⟨[0,1,9,10,11],[],[]⟩ (σ:=Int) (fun v=>[(11,.d (.int .i64 (t _ fun _=>v)))]) (fun v=>[]) J0 ?_
 cbv
 refine aH ⟨l.length,_,(fI _ _).2 ?_,by simp only [ht];rfl,?_⟩
 ·exact ⟨0,rfl,by simp,by omega,by simp⟩
 rintro n i hj
 replace hj:=(fI _ _).1 hj
 obtain ⟨k,rfl,j1,j2,j4⟩:=hj
 cbv
 refine av (fun h1=>?_) (fun h1=>?_)
 ·simp [ht,ah,aD] at h1
  cbv
  refine kp ht aE (cT:=Int.aZ t) (by (simp only [ht,ah];omega)) (by (simp only [ht,ah];omega)) (fun _=>rfl) (fun _=>rfl) (fun x2 n9=>?_)
  simp [ht,ah] at n9
  rw [jI n9] at j4
  cbv
  refine av (fun h3=>?_) (fun h3=>?_)
  ·simp [ht,ah,ES] at h3
   omega
  simp [ht,ah,ES] at h3
  cbv
  refine kp ht hfs (cT:=Int.aZ t) (by (simp only [ht,ah];omega)) (by (simp only [ht,ah];omega)) (fun _=>rfl) (fun _=>rfl) (fun x4 Rz=>?_)
  simp [ht,ah] at Rz
  rw [jI Rz] at j4
  cbv
  refine bc trv (Qy ht _ _) trv rfl rfl (fun r5 zj=>?_)
  simp only [ht] at zj
  cbv
  refine av (fun h6=>?_) (fun h6=>?_)
  ·simp [ht] at h6
   cbv
   refine az trv trv rfl rfl rfl ?_
   (simp only [ht];rw [j4,cmpL,←zj,if_pos ‹_›];done)
  simp [ht] at h6
  cbv
  refine cz _ (by simp only [ht];rfl) (n-1) ?_ ((fI _ _).2 ?_)
  ·omega
  simp only [ah]
  exact ⟨k+1,aG (by omega),by omega,by omega,by rw [j4,cmpL,←zj,if_neg (by omega)]⟩
 simp [ht,ah,aD] at h1
 cbv
 refine av (fun h7=>?_) (fun h7=>?_)
 ·simp [ht,ah,aD,ES] at h7
  omega
 simp [ht,ah,aD,ES] at h7
 cbv
 refine az trv trv rfl rfl rfl ?_
 (simp [ht,j4,List.drop_eq_nil_of_le (show l.length≤k by omega),cmpL];done)
theorem Qz (a0 a1 a2 a3 b0 b1 b2 b3:Int):cmpL [a0,a1,a2,a3] [b0,b1,b2,b3]=qA ⟨a0,a1,a2,a3⟩ ⟨b0,b1,b2,b3⟩:=by
 simp only [cmpL,qA]
 by_cases h0:iW a0 b0=0<;>by_cases h1:iW a1 b1=0<;>by_cases h2:iW a2 b2=0<;>by_cases h3:iW a3 b3=0<;>simp [h0,h1,h2,h3]
theorem Nv (ht:TT t) (a0 a1 a2 a3 b0 b1 b2 b3:Int):FC 193 [V4 a0 a1 a2 a3,V4 b0 b1 b2 b3] [] (.ret (gF (t _ fun _=>qA ⟨a0,a1,a2,a3⟩ ⟨b0,b1,b2,b3⟩))) []:=by
 obtain ⟨o,ho⟩:∃o,o=qA ⟨a0,a1,a2,a3⟩ ⟨b0,b1,b2,b3⟩:=⟨_,rfl⟩
 rw [←ho]
 refine bP ht (aQ:=[]) Tryz.func193 rfl rfl (N:=8) rfl rfl (n:=0) rfl rfl ?_
 cbv
 (apply Ln [] (.more 0 (.one 1 (.one 2 (.one 3 .done))) (.one 1 (.one 0 (.one 2 (.one 3 .done)))));kernel_rfl;kernel_rfl;kernel_rfl;kernel_rfl;(next=>cbv;repeat (first|(refine aF trv (Kj ht (l:=[a0,a1,a2,a3]) (m:=[b0,b1,b2,b3]) rfl rfl rfl (by simp)) trv rfl rfl rfl (fun r0 dj=>?_);simp only [ht,Qz,←ho] at dj;subst r0;cbv)|refine And.intro ?_ ?_)))
 cbv
 refine az trv trv rfl rfl rfl ?_
 (simp [ht];done)
theorem Bf (ht:TT t) {l:List bV} {es:List (List D)} (aE:es=l.map bV.cells) (hl:l.length<1000000) (hlb:∀s∈l,s.labels.length<1000000000) {x:List Term} {xr:List (List D)} (EQ:xr=x.map Term.cells) (hx:x.length<1000000000) (Fe:∀m∈x,m.mQ.length<1000000000)
 {m c k:Nat} (hm:m=l.length) (hc:m≤c) {r:List (List D)} (hr:r=(fitting l x).map bV.cells) (hk:k=r.length) {rz:List (List D)} (HM:rz=r++List.replicate (m-k) [.str [],.int .u64 0,.int .u64 0,.int .u64 0,.int .u64 0,.sl []]):
 FC 190 [.vw 0 6 0 m c true,.fn 192 [.ep [.sl xr]]] [.row 6 es] (.ret (.vw 0 6 0 k c true)) [.row 6 rz]:=
 Kh ht xr aE hm hc 192 (fun s=>!nD x s.labels) (by omega) (fun s hs=>Ki ht _ _ _ _ _ rfl (hlb s hs) EQ hx Fe rfl) (by rw [hr,fitting];simp) hk HM
theorem Td {r z:List (List D)} {k:Nat} (hk:k=r.length):r=(r++z).take k:=by rw [hk,List.take_left]
theorem Kk (ht:TT t) {l:List bV} {es:List (List D)} (aE:es=l.map bV.cells) (hl:l.length<1000000) (hlb:∀s∈l,s.labels.length<1000000000) {x:List Term} {xr:List (List D)} (EQ:xr=x.map Term.cells) (hx:x.length<1000000000) (Fe:∀m∈x,m.mQ.length<1000000000)
 (h0:fitting l x=[]):FC 148 [SL es,SL xr] [] (.ret (SL [])) []:=by
 obtain ⟨m,hm⟩:∃m,m=l.length:=⟨_,rfl⟩
 have hel:m=es.length:=by rw [aE,lgM,hm]
 have hrows:∀r∈es,r.length=6:=by rw [aE];intro r hr;obtain ⟨y,_,rfl⟩:=List.mem_map.1 hr;rfl
 have hD:FC 190 [.ow 1 6 m,.fn 192 [.ptr 0 0]] [.var [SL xr],.row 6 es] (.ret (SL [])) [.dead,.dead]:=
  oY rfl rfl rfl<|dK [1] rfl rfl rfl rfl<|dZ fun c hc _=>Be rfl (by simp) (by simp) rfl (Bf ht aE hl hlb EQ hx Fe hm hc (r:=[]) (by rw [h0];rfl) (k:=0) rfl rfl)
 refine bP ht (aQ:=[]) Tryz.func148 rfl rfl (N:=9) rfl rfl (n:=0) rfl rfl ?_
 cbv
 refine jY trv (yw ht hrows (by omega) hel) trv rfl (.inr rfl) ?_
 cbv
 refine eG trv hD ?_
 cbv
 refine az trv trv rfl rfl rfl ?_
 simp
theorem Nw (ht:TT t) {l:List bV} {es:List (List D)} (aE:es=l.map bV.cells) (hl:l.length<1000000) (hlb:∀s∈l,s.labels.length<1000000000) {x:List Term} {xr:List (List D)} (EQ:xr=x.map Term.cells) (hx:x.length<1000000000) (Fe:∀m∈x,m.mQ.length<1000000000)
 {r:List (List D)} (hr:r=(fitting l x).map bV.cells) {k:Nat} (hk:k=r.length) (h0:0<k):FC 148 [SL es,SL xr] [] (.ret (.ow 0 6 k)) [.row 6 r]:=by
 obtain ⟨m,hm⟩:∃m,m=l.length:=⟨_,rfl⟩
 have hel:m=es.length:=by rw [aE,lgM,hm]
 have hrows:∀r∈es,r.length=6:=by rw [aE];intro r hr;obtain ⟨y,_,rfl⟩:=List.mem_map.1 hr;rfl
 obtain ⟨rz,HM⟩:∃rz,rz=r++List.replicate (m-k) [.str [],.int .u64 0,.int .u64 0,.int .u64 0,.int .u64 0,.sl []]:=⟨_,rfl⟩
 have hD:FC 190 [.ow 1 6 m,.fn 192 [.ptr 0 0]] [.var [SL xr],.row 6 es] (.ret (.ow 1 6 k)) [.dead,.row 6 r]:=
  oY rfl rfl rfl<|dK [1] rfl rfl rfl rfl<|dZ fun c hc _=>Bd h0 rfl (by rw [HM,hk];simp) (by rw [HM];exact Td hk) rfl (Bf ht aE hl hlb EQ hx Fe hm hc hr hk HM)
 refine bP ht (aQ:=[]) Tryz.func148 rfl rfl (N:=9) rfl rfl (n:=0) rfl rfl ?_
 cbv
 refine jY trv (yw ht hrows (by omega) hel) trv rfl (.inr rfl) ?_
 cbv
 refine eG trv hD ?_
 cbv
 exact B5 trv rfl rfl rfl rfl rfl rfl
theorem LX {x:bV} {v:bM} {B C:Eo} {r:bM×Bool} {o:Int} (er:r=ej x.free v) (eo:o=qA r.1 B.left) (h:r.2=true→B.ok=true∧0≤o):
 (if (ej x.free v).2&&(!B.ok||decide (qA (ej x.free v).1 B.left<0)) then C else B)=B:=by
 rw [←er,←eo,if_neg]
 intro g
 simp only [Bool.and_eq_true,Bool.or_eq_true,Bool.not_eq_true',decide_eq_true_eq] at g
 obtain ⟨g1,g2⟩:=g
 obtain ⟨g3,g4⟩:=h g1
 rcases g2 with g2|g2
 ·rw [g3] at g2;cases g2
 omega
def Ya (r:Eo):AV:=.eA [bG r.at_,V4 r.left.a r.left.b r.left.c r.left.d,BL r.ok]
theorem LY (ht:TT t) (d1 d2 d3 d4:Int) {l:List bV} {es:List (List D)} (aE:es=l.map bV.cells) (hl:l.length<1000000):
 FC 149 [SL es,V4 d1 d2 d3 d4] [] (.ret (Ya (t _ fun _=>best l ⟨d1,d2,d3,d4⟩))) []:=by
 refine bP ht (aQ:=[]) Tryz.func149 rfl rfl (N:=42) rfl rfl (n:=0) rfl rfl ?_
 cbv
 have aD:es.length=l.length:=by rw [aE,lgM]
 obtain ⟨J0,fI⟩:∃J0:Nat→Int×Bool×Int×Int×Int×Int×Int→Prop,∀n A K i a b c d,J0 n (A,K,i,a,b,c,d)↔(∃(k:Nat) (B:Eo),i=k∧k+n=l.length∧A=B.at_∧K=B.ok∧a=B.left.a∧b=B.left.b∧c=B.left.c∧d=B.left.d∧best l ⟨d1,d2,d3,d4⟩=mD ⟨d1,d2,d3,d4⟩ (l.drop k) k B):=⟨fun n v=>match v with|(A,K,i,a,b,c,d)=>(∃(k:Nat) (B:Eo),i=k∧k+n=l.length∧A=B.at_∧K=B.ok∧a=B.left.a∧b=B.left.b∧c=B.left.c∧d=B.left.d∧best l ⟨d1,d2,d3,d4⟩=mD ⟨d1,d2,d3,d4⟩ (l.drop k) k B),fun _ _ _ _ _ _ _ _=>Iff.rfl⟩
 refine bH ⟨[0,3,4,5,6,11,12],[],[]⟩ (σ:=Int×Bool×Int×Int×Int×Int×Int) (fun v=>[(4,.d (.int .i64 (t _ fun _=>v.1))),(6,.d (.bool (t _ fun _=>v.2.1))),(12,.d (.int .i64 (t _ fun _=>v.2.2.1)))]) (fun v=>[(1,.var [.d (.int .u64 (t _ fun _=>v.2.2.2.1)),.d (.int .u64 (t _ fun _=>v.2.2.2.2.1)),.d (.int .u64 (t _ fun _=>v.2.2.2.2.2.1)),.d (.int .u64 (t _ fun _=>v.2.2.2.2.2.2))])]) J0 ?_
 cbv
 refine aH ⟨l.length,(_,_,_,_,_,_,_),(fI _ _ _ _ _ _ _ _).2 ?_,by simp only [ht];rfl,?_⟩
 ·exact ⟨0,⟨0,bM.zero,false⟩,rfl,by simp,rfl,rfl,rfl,rfl,rfl,rfl,rfl⟩
 rintro n ⟨A,K,i,a,b,c,d⟩ hj
 replace hj:=(fI _ _ _ _ _ _ _ _).1 hj
 obtain ⟨k,⟨q1,⟨q2,q3,q4,q5⟩,q6⟩,rfl,j1,rfl,rfl,rfl,rfl,rfl,rfl,j4⟩:=hj
 cbv
 refine av (fun h1=>?_) (fun h1=>?_)
 ·simp [ht,ah,aD] at h1
  cbv
  refine uV [0,1] [0,1,7,8,9] [false,false,false,false,false,false,false,false,false,false,false,true,true] (by kernel_rfl) (by kernel_rfl) (by kernel_rfl) (by kernel_rfl) (by kernel_rfl) (by kernel_rfl) ?_
  cbv
  iterate 2 refine gI (by simp) ?_
  refine kp ht aE (cT:=bV.aZ t) (by (simp only [ht,ah];omega)) (by (simp only [ht,ah];omega)) (fun _=>rfl) (fun _=>(by (simp only [ht,bV.aZ];rfl))) (fun x2 n9=>?_)
  simp [ht,ah] at n9
  rw [jI n9,mD] at j4
  cbv
  iterate 3 refine gI (by simp) ?_
  refine .inl ?_
  refine eY (fun g3=>⟨trv,trv,S7 ht _ _ _ _ _ _ _ _⟩) rfl rfl (fun r4 k9=>?_)
  simp only [ht] at k9
  cbv
  iterate 6 refine gI (by simp) ?_
  iterate 2 refine gI (by simp [ht]) ?_
  refine eY (fun g5=>⟨by simp [ht] at g5 ⊢;exact g5,trv,Nv ht _ _ _ _ _ _ _ _⟩) rfl rfl (fun r6 ol=>?_)
  simp only [ht] at ol
  cbv
  refine gI (by simp [ht]) ?_
  refine gI (by simp [ht,aj];intros;simp_all) ?_
  refine pI (by simp) ?_
  refine av (fun h7=>?_) (fun h7=>?_)
  ·simp [ht] at h7
   cbv
   refine dO [false,false,false,true,true] (by kernel_rfl) (by kernel_rfl) ?_
   cbv
   iterate 3 refine gI (by simp) ?_
   refine cz (_,_,_,_,_,_,_) (by simp only [ht];rfl) (n-1) ?_ ((fI _ _ _ _ _ _ _ _).2 ?_)
   ·omega
   simp only [ah]
   first|exact ⟨k+1,⟨k,_,true⟩,aG (by omega),by omega,rfl,rfl,rfl,rfl,rfl,rfl,by rw [j4];congr 1;simp_all⟩|exact ⟨k+1,⟨q1,⟨a,b,c,d⟩,K⟩,aG (by ((try simp only [ah] at*);omega)),by ((try simp only [ah] at*);omega),rfl,rfl,rfl,rfl,rfl,rfl,by rw [j4,LX (B:=⟨q1,⟨a,b,c,d⟩,K⟩) k9 ol h7]⟩
  simp [ht] at h7
  cbv
  refine cz (_,_,_,_,_,_,_) (by simp only [ht];rfl) (n-1) ?_ ((fI _ _ _ _ _ _ _ _).2 ?_)
  ·omega
  simp only [ah]
  first|exact ⟨k+1,⟨k,_,true⟩,aG (by omega),by omega,rfl,rfl,rfl,rfl,rfl,rfl,by rw [j4];congr 1;simp_all⟩|exact ⟨k+1,⟨q1,⟨a,b,c,d⟩,K⟩,aG (by omega),by omega,rfl,rfl,rfl,rfl,rfl,rfl,by rw [j4,LX (B:=⟨q1,⟨a,b,c,d⟩,K⟩) k9 ol h7]⟩
 simp [ht,ah,aD] at h1
 cbv
 refine Gt [0,2] [false,false,false,false,true,true] (by kernel_rfl) (by kernel_rfl) (by kernel_rfl) (by kernel_rfl) (by kernel_rfl) ?_
 cbv
 iterate 4 refine gI (by simp) ?_
 refine az trv trv rfl rfl rfl ?_
 (rw [List.drop_eq_nil_of_le (by omega),mD] at j4;simp only [ht,j4];rfl)
theorem HN {v:bM} {n:Nat} {l:List bV} {out:List aK} (h:0<n):nX v n l out=if !(best l v).ok then ([],false) else
 nX v (n-1) (l.set (best l v).at_ {l.getD (best l v).at_ default with free:=(best l v).left}) (out++[(l.getD (best l v).at_ default).node]):=by
 obtain ⟨n',rfl⟩:∃n',n=n'+1:=⟨n-1,by omega⟩
 rfl
theorem HO {v:bM}:∀(l:List bV) (k:Nat) (b:Eo),(b.ok=true→b.at_<k)→(mD v l k b).ok=true→(mD v l k b).at_<k+l.length
 |[],k,b,h,g=>h g
 |s::r,k,b,h,g=>by
  rw [mD] at g ⊢
  have:=HO r (k+1) _ (by
   intro g2
   split
   ·show k<k+1;omega
   rename_i hh;rw [if_neg hh] at g2;have:=h g2;omega) g
  simp only [List.length_cons];omega
theorem Te {v:bM} {l:List bV} (h:(best l v).ok=true):(best l v).at_<l.length:=by
 have:=HO l 0 _ (by simp) h
 simpa [best] using this
theorem LZ {l:List bV} {x:List Term} {v:bM} {c:Int} (h:8<c):fit l x v c=([],false):=by rw [fit,if_pos h]
theorem ET {l L:List bV} {x:List Term} {v:bM} {c:Int} {m:Nat} (h:c≤8) (hm:(m:Int)=max c 0) (hL:L=fitting l x):fit l x v c=nX v m L []:=by
 rw [fit,if_neg (by omega),hL];congr 1;omega
theorem QA {cur:List bV} {y:bV} {i:Nat} {u:List (List D)} (ju:u=cur.map bV.cells) (hy:cur[i]?=some y) (v:bM):
 u.set i (be (u.getD i []) 1 [.int .u64 v.a,.int .u64 v.b,.int .u64 v.c,.int .u64 v.d])=(cur.set i {y with free:=v}).map bV.cells:=by
 rw [List.map_set,ju];congr 1
 simp [List.getD_eq_getElem?_getD,hy,bV.cells,be]
def Cf (t:Th) (r:List aK×Bool):AV:=.eA [SL (t _ fun _=>r.1.map bE),BL r.2]
theorem Tf (ht:TT t) (d1 d2 d3 d4 c:Int) {l:List bV} {es:List (List D)} (aE:es=l.map bV.cells) (hl:l.length<1000000) (hlb:∀s∈l,s.labels.length<1000000000) {x:List Term} {xr:List (List D)} (EQ:xr=x.map Term.cells) (hx:x.length<1000000000) (Fe:∀m∈x,m.mQ.length<1000000000)
 (h0:fitting l x≠[]):FC 95 [SL es,SL xr,V4 d1 d2 d3 d4,bG c] [] (.ret (Cf t (t _ fun _=>fit l x ⟨d1,d2,d3,d4⟩ c))) []:=by
 obtain ⟨L,hL⟩:∃L,L=fitting l x:=⟨_,rfl⟩
 have Iv:L.length<1000000:=by rw [hL];exact Nat.lt_of_le_of_lt (List.length_filter_le _ _) hl
 obtain ⟨r,hr⟩:∃r,r=L.map bV.cells:=⟨_,rfl⟩
 obtain ⟨k,hk⟩:∃k,k=r.length:=⟨_,rfl⟩
 have hkL:k=L.length:=by rw [hk,hr,lgM]
 have hk0:0<k:=by rw [hkL,hL];exact List.length_pos_iff.2 h0
 obtain ⟨m,hm⟩:∃m:Nat,(m:Int)=max c 0:=⟨(max c 0).toNat,by omega⟩
 refine bP ht (aQ:=[]) Tryz.func95 rfl rfl (N:=47) rfl rfl (n:=0) rfl rfl ?_
 cbv
 have aD:es.length=l.length:=by rw [aE,lgM]
 have Kg:xr.length=x.length:=by rw [EQ,lgM]
 have Yb:r.length=L.length:=by rw [hr,lgM]
 refine av (fun h0=>?_) (fun h0=>?_)
 ·simp [ht] at h0
  cbv
  refine az trv trv rfl rfl rfl ?_
  (simp only [ht];rw [LZ ‹_›];rfl)
 simp [ht] at h0
 cbv
 (refine jY trv (Nw ht aE hl hlb EQ hx Fe (hL▸hr) hk hk0) trv rfl (.inr rfl) ?_)
 cbv
 obtain ⟨J1,pE⟩:∃J1:Nat→List (List D)×Int×List (List D)→Prop,∀n o i u,J1 n (o,i,u)↔(∃(q:Nat) (cur:List bV) (out:List aK),i=q∧q+n=m∧u=cur.map bV.cells∧o=out.map bE∧cur.length=k∧out.length=q∧nX ⟨d1,d2,d3,d4⟩ m L []=nX ⟨d1,d2,d3,d4⟩ n cur out):=⟨fun n v=>match v with|(o,i,u)=>(∃(q:Nat) (cur:List bV) (out:List aK),i=q∧q+n=m∧u=cur.map bV.cells∧o=out.map bE∧cur.length=k∧out.length=q∧nX ⟨d1,d2,d3,d4⟩ m L []=nX ⟨d1,d2,d3,d4⟩ n cur out),fun _ _ _ _=>Iff.rfl⟩
 refine bH ⟨[0,6,10,20,21],[(10,1)],[]⟩ (σ:=List (List D)×Int×List (List D)) (fun v=>[(10,.ow 2 1 (t _ fun _=>(v.1).length)),(21,.d (.int .i64 (t _ fun _=>v.2.1)))]) (fun v=>[(2,.row 1 (t _ fun _=>v.1)),(0,.row 6 (t _ fun _=>v.2.2))]) J1 ?_
 cbv
 refine aH ⟨m,([],_,_),(pE _ _ _ _).2 ?_,by simp only [ht];rfl,?_⟩
 ·exact ⟨0,L,[],rfl,by simp,hr,rfl,hkL.symm,rfl,rfl⟩
 rintro n ⟨o,i,u⟩ hj
 replace hj:=(pE _ _ _ _).1 hj
 obtain ⟨q,cur,out,rfl,j1,ju,jo,j2,j3,j4⟩:=hj
 have yg:u.length=cur.length:=by rw [ju,lgM]
 have X1:o.length=out.length:=by rw [jo,lgM]
 cbv
 refine av (fun h2=>?_) (fun h2=>?_)
 ·simp [ht,ah] at h2
  cbv
  (refine bc trv (LY ht _ _ _ _ (l:=cur) (by simp only [ht];exact ju) (by omega)) (by simp only [ht];exact ⟨by rw [ju,lgM];exact j2.symm,trv⟩) rfl rfl (fun rb Ux=>?_);simp only [ht] at Ux;rw [HN (show 0<n by ((try simp only [ah] at*);omega)),←Ux] at j4;have hlt:rb.ok=true→rb.at_<cur.length:=fun g=>by rw [Ux] at g ⊢;exact Te g)
  cbv
  refine av (fun h3=>?_) (fun h3=>?_)
  ·simp [ht] at h3
   cbv
   refine az trv trv rfl rfl rfl ?_
   (simp only [ht];rw [ET ‹_› hm hL,j4,h3];rfl)
  simp [ht] at h3
  cbv
  refine ⟨?_,?_⟩
  ·(simp only [ht];have Yc:rb.at_<cur.length:=hlt ‹_›;exact ⟨Int.natCast_nonneg _,by rw [←j2];exact Int.ofNat_lt.2 Yc⟩)
  cbv
  (have hl3:=hlt ‹_›;obtain ⟨y,hy⟩:∃y,cur[rb.at_]?=some y:=⟨_,List.getElem?_eq_getElem hl3⟩;have hyd:cur.getD rb.at_ default=y:=(by simp [List.getD_eq_getElem?_getD,hy]);rw [hyd] at j4;refine Pq (bV.aZ t y) (by simp only [ht];rw [ju,lgM];exact hl3) (by simp only [ht];rw [ju];simp [List.getD_eq_getElem?_getD,hy,bV.cells,bV.aZ,ht]) ?_)
  cbv
  refine ⟨?_,?_⟩
  ·(simp only [ht];grind)
  refine ⟨?_,?_⟩
  ·(simp only [ht];have Yc:rb.at_<cur.length:=hlt ‹_›;exact ⟨Int.natCast_nonneg _,by rw [←j2];exact Int.ofNat_lt.2 Yc⟩)
  refine ⟨?_,?_⟩
  ·(simp only [ht];rw [ju,lgM];refine ⟨hl3,?_⟩;simp [List.getD_eq_getElem?_getD,hy,bV.cells];done)
  cbv
  refine cz (_,_,_) (by simp only [ht,←List.length_append];rfl) (n-1) ?_ ((pE _ _ _ _).2 ?_)
  ·((try simp only [ah] at*);omega)
  simp only [ah]
  (exact ⟨q+1,cur.set rb.at_ {y with free:=rb.left},out++[y.node],aG (by ((try simp only [ah] at*);omega)),by ((try simp only [ah] at*);omega),QA ju hy _,by simp [jo],by simp [j2],by simp [j3],by rw [j4,h3];rfl⟩)
 simp [ht,ah] at h2
 cbv
 refine az trv (by simp [ht]) rfl rfl rfl ?_
 (simp only [ht];rw [ET ‹_› hm hL,j4,show n=0 by ((try simp only [ah] at*);omega)];simp [nX,jo];done)
theorem Tg (ht:TT t) (d1 d2 d3 d4 c:Int) {l:List bV} {es:List (List D)} (aE:es=l.map bV.cells) (hl:l.length<1000000) (hlb:∀s∈l,s.labels.length<1000000000) {x:List Term} {xr:List (List D)} (EQ:xr=x.map Term.cells) (hx:x.length<1000000000) (Fe:∀m∈x,m.mQ.length<1000000000)
 (h9:fitting l x=[]):FC 95 [SL es,SL xr,V4 d1 d2 d3 d4,bG c] [] (.ret (Cf t (t _ fun _=>fit l x ⟨d1,d2,d3,d4⟩ c))) []:=by
 obtain ⟨m,hm⟩:∃m:Nat,(m:Int)=max c 0:=⟨(max c 0).toNat,by omega⟩
 refine bP ht (aQ:=[]) Tryz.func95 rfl rfl (N:=47) rfl rfl (n:=0) rfl rfl ?_
 cbv
 have aD:es.length=l.length:=by rw [aE,lgM]
 have Kg:xr.length=x.length:=by rw [EQ,lgM]
 refine av (fun h0=>?_) (fun h0=>?_)
 ·simp [ht] at h0
  cbv
  refine az trv trv rfl rfl rfl ?_
  (simp only [ht];rw [LZ ‹_›];rfl)
 simp [ht] at h0
 cbv
 (refine Lt trv (Kk ht aE hl hlb EQ hx Fe h9) trv rfl rfl rfl ?_)
 cbv
 obtain ⟨J1,pE⟩:∃J1:Nat→List (List D)×Int→Prop,∀n o i,J1 n (o,i)↔(i=0∧n=m∧o=[]):=⟨fun n v=>match v with|(o,i)=>(i=0∧n=m∧o=[]),fun _ _ _=>Iff.rfl⟩
 refine bH ⟨[0,6,10,20,21],[(10,1)],[]⟩ (σ:=List (List D)×Int) (fun v=>[(10,.ow 1 1 (t _ fun _=>(v.1).length)),(21,.d (.int .i64 (t _ fun _=>v.2)))]) (fun v=>[(1,.row 1 (t _ fun _=>v.1))]) J1 ?_
 cbv
 refine aH ⟨m,([],_),(pE _ _ _).2 ?_,by simp only [ht];rfl,?_⟩
 ·exact ⟨rfl,rfl,rfl⟩
 rintro n ⟨o,i⟩ hj
 replace hj:=(pE _ _ _).1 hj
 obtain ⟨rfl,j1,rfl⟩:=hj
 cbv
 refine av (fun h2=>?_) (fun h2=>?_)
 ·simp [ht] at h2
  cbv
  (refine bc trv (LY ht _ _ _ _ (l:=[]) rfl (by simp)) (by simp) rfl rfl (fun rb Ux=>?_);simp only [ht] at Ux;replace Ux:rb=⟨0,bM.zero,false⟩:=Ux;subst Ux)
  cbv
  refine av (fun h3=>?_) (fun h3=>?_)
  ·simp [ht] at h3
   cbv
   refine az trv trv rfl rfl rfl ?_
   (simp only [ht];rw [ET ‹_› hm h9.symm,HN (show 0<m by ((try simp only [ah] at*);omega))];rfl)
  simp [ht] at h3
 simp [ht] at h2
 cbv
 refine az trv (by simp [ht]) rfl rfl rfl ?_
 (simp only [ht];rw [ET ‹_› hm h9.symm,show m=0 by ((try simp only [ah] at*);omega)];rfl)
theorem Kl (ht:TT t) (d1 d2 d3 d4 c:Int) {l:List bV} {es:List (List D)} (aE:es=l.map bV.cells) (hl:l.length<1000000) (hlb:∀s∈l,s.labels.length<1000000000) {x:List Term} {xr:List (List D)} (EQ:xr=x.map Term.cells) (hx:x.length<1000000000) (Fe:∀m∈x,m.mQ.length<1000000000):
 FC 95 [SL es,SL xr,V4 d1 d2 d3 d4,bG c] [] (.ret (Cf t (t _ fun _=>fit l x ⟨d1,d2,d3,d4⟩ c))) []:=by
 by_cases h9:fitting l x=[]
 ·exact Tg ht d1 d2 d3 d4 c aE hl hlb EQ hx Fe h9
 exact Tf ht d1 d2 d3 d4 c aE hl hlb EQ hx Fe h9
end Dem
end
