/- Parts of a proof, joined. -/
import Derived.Test.YtihohjnkkalgiaaGreatDoorQ19
set_option linter.all false
set_option maxRecDepth 100000
set_option maxHeartbeats 4000000
section
open Go
namespace Dem
structure bg.eU (A:Ask→Prop) (s:bg):Prop where
 names:∀n∈s.bf.nodes,n.sm
 paths:∀e∈s.tree,e.path.length<1000
 xs:∀j∈s.av,A j.x
structure fP (s t:bg):Prop where
 nodes:t.bf.nodes=s.bf.nodes
 paths:∀e∈t.tree,∃f∈s.tree,e.path=f.path
 xs:∀j∈t.av,∃k∈s.av,j.x=k.x
theorem fP.refl (s:bg):fP s s:=⟨rfl,fun e h=>⟨e,h,rfl⟩,fun j h=>⟨j,h,rfl⟩⟩
theorem fP.eU {A:Ask→Prop} {s t:bg} (h:fP s t) (l:s.eU A):t.eU A:=by
 refine ⟨by rw [h.nodes];exact l.names,fun e he=>?_,fun j hj=>?_⟩
 ·obtain ⟨f,hf,e1⟩:=h.paths e he;rw [e1];exact l.paths f hf
 obtain ⟨k,hk,e1⟩:=h.xs j hj;rw [e1];exact l.xs k hk
theorem JL {l:List Jb} {k:Nat} {j y:Jb} (hk:l[k]?=some y) (hx:j.x=y.x):∀z∈l.set k j,∃w∈l,z.x=w.x:=by
 intro z hz
 rcases List.mem_or_eq_of_mem_set hz with h|rfl
 ·exact ⟨z,h,rfl⟩
 exact ⟨y,List.mem_of_getElem? hk,hx⟩
theorem qz {t u:List bw} (h:cg t u):∀e∈u,∃f∈t,e.path=f.path:=fun e he=>by
 obtain ⟨f,hf,h1,_⟩:=h.back he
 exact ⟨f,hf,h1⟩
theorem C3 {s:bg} {id:Int} {names:List aQ} (e:(bZ s id names).2≠0):(bZ s id names).1=s:=by
 unfold bZ at e ⊢
 split
 ·rfl
 rename_i k hk
 rw [hk] at e
 simp only at e
 unfold jF at e ⊢
 by_cases h1:(s.av.getD k Jb.zero).runs=true
 ·rw [if_pos h1]
 rw [if_neg h1] at e ⊢
 by_cases h2:(names.length:Int)≠(s.av.getD k Jb.zero).x.count
 ·rw [if_pos h2]
 rw [if_neg h2] at e ⊢
 by_cases h3:(!(cU (s.av.getD k Jb.zero).x).2)=true
 ·rw [if_pos h3]
 rw [if_neg h3] at e ⊢
 split
 ·rfl
 rename_i h4
 rw [if_neg h4] at e
 split
 ·rfl
 rename_i h5
 rw [if_neg h5] at e
 exact absurd rfl e
theorem x6 {s:bg} (h:s.ok) (id:Int) (names:List aQ):fP s (bZ s id names).1:=by
 by_cases e:(bZ s id names).2=0
 ·obtain ⟨i,j,T,h1,h2,h3,h4,h5,h6⟩:=rK h e
  rw [h6]
  exact ⟨rfl,qz h5,JL h1 rfl⟩
 rw [C3 e];exact fP.refl s
theorem JM {s:bg} (h:s.ok) (id kind:Int):fP s (gB s id kind).1:=by
 cases hf:s.av.findIdx? (fun j=>decide (j.id=id)) with
 |none=>unfold gB;rw [hf];exact fP.refl s
 |some i=>
  obtain ⟨j,hj,rfl,c⟩:=nt hf
  by_cases hr:j.runs=true
  ·obtain ⟨T,Q,h1,h2⟩:=AU h hj hr kind
   rw [h2]
   exact ⟨rfl,qz h1,JL hj rfl⟩
  unfold gB;rw [hf];simp only;rw [c,if_pos (by simpa using hr)];exact fP.refl s
theorem C4 {s:bg} (h:s.ok) (id kind:Int):fP s (send s id kind).1:=by
 cases hf:s.av.findIdx? (fun j=>decide (j.id=id)) with
 |none=>unfold send;rw [hf];exact fP.refl s
 |some i=>
  obtain ⟨j,hj,rfl,c⟩:=nt hf
  obtain ⟨h1,h2,h3⟩:=yU h hj kind
  have hx:∀z∈s.av.eraseIdx i,∃w∈s.av,z.x=w.x:=fun z hz=>⟨z,List.mem_of_mem_eraseIdx hz,rfl⟩
  by_cases hr:j.runs=true
  ·obtain ⟨T,h4,h5⟩:=h3 hr
   rw [h5]
   exact ⟨rfl,qz h4,hx⟩
  rw [h2 (by simpa using hr)]
  exact ⟨rfl,fun e he=>⟨e,he,rfl⟩,hx⟩
theorem AW {A:Ask→Prop} {s:bg} (l:s.eU A) {x:Ask} (hx:A x):(cW s x).1.eU A:=by
 by_cases e:(cW s x).2.2=0
 ·unfold cW at e ⊢
  split
  ·exact l
  split
  ·exact l
  split
  ·exact l
  split
  ·exact l
  refine ⟨l.names,l.paths,fun j hj=>?_⟩
  rcases List.mem_append.1 hj with h|h
  ·exact l.xs j h
  rw [List.mem_singleton.1 h];exact hx
 rw [(C2 e).1];exact l
structure su (x:Ask):Prop where
 path:x.path.length≤4
 gu:x.gu.w
 ct:x.ct.length≤1
 key:∀m∈x.ct,m.key.length≤4∧m.mD.length≤1∧∀v∈m.mD,v.length≤1
theorem mu (x:jS):su (BU x):=by
 refine ⟨?_,PF x,?_,?_⟩
 ·unfold BU
  simp only
  have:∀k<4,(AH.getD k []).length≤4:=by decide
  exact this _ (Nat.mod_lt _ (by decide))
 ·unfold BU;simp only;split<;>simp
 unfold BU;simp only;split
 ·intro m hm
  rw [List.mem_singleton.1 hm]
  exact ⟨by show Sn.length≤4;decide,by simp,by simp⟩
 intro m hm;cases hm
theorem JN {p:cC} (h:∀n∈p.nodes,n.sm) {y:Node} (hy:y.sm):∀n∈(qf p y).1.nodes,n.sm:=by
 rcases tg p y with ⟨e,_⟩|⟨_,_,_,e⟩
 ·rw [e];exact h
 rw [e]
 intro n hn
 rcases List.mem_append.1 hn with h1|h1
 ·exact h n (List.mem_of_mem_take h1)
 rcases List.mem_cons.1 h1 with rfl|h1
 ·exact hy
 exact h n (List.mem_of_mem_drop h1)
theorem Hp (i:Nat):(⟨gz.getD i [],⟨(4+2*i:Nat),9,9,9⟩,AI i,false⟩:Node).sm:=by
 have h1:∀i,(gz.getD i []).length≤2
  |0=>by decide
  |1=>by decide
  |2=>by decide
  |i+3=>by simp [gz]
 have h2:∀i,(AI i).length≤1∧∀q∈AI i,q.sm:=by
  intro i
  unfold AI
  split
  ·refine ⟨by simp,fun q hq=>?_⟩
   rw [List.mem_singleton.1 hq]
   have h3:∀i,(([[97],[98]]:List aQ).getD i []).length≤1
    |0=>by decide
    |1=>by decide
    |i+2=>by simp
   have:=h3 i
   exact ⟨by show Sn.length<_;decide,by simp only;omega⟩
  exact ⟨by simp,fun q hq=>by cases hq⟩
 exact ⟨by have:=h1 i;simp only;omega,by have:=(h2 i).1;simp only;omega,(h2 i).2⟩
theorem tD (n:Nat):∀i,∀x∈(eV n i).nodes,x.sm
 |0=>fun x hx=>by cases hx
 |i+1=>by
  unfold eV
  split
  ·exact JN (tD n i) (Hp i)
  exact tD n i
theorem x7 (A:Ask→Prop) (n:Nat):(jI n).eU A:=by
 refine ⟨tD n 3,fun e he=>?_,fun j hj=>by cases hj⟩
 unfold jI at he
 rw [Lj _ (Nat.mod_lt _ (by decide))] at he
 simp only [o7,List.mem_cons,List.not_mem_nil,or_false] at he
 rcases he with rfl|rfl|rfl|rfl<;>simp
theorem SR (id:Int) (x:Place) (l:List Place):rS id (x::l)=(if x.bK=id then 1 else 0)+rS id l:=by
 unfold rS
 rw [List.filter_cons]
 split<;>simp_all<;>omega
theorem Vn {js:List Jb} {f g:Jb→Nat} (h:∀j∈js,f j≤g j):(js.map f).sum≤(js.map g).sum:=by
 induction js with
 |nil=>simp
 |cons a l ih=>
  simp only [List.map_cons,List.sum_cons]
  have:=h a (List.mem_cons_self ..)
  have:=ih fun j hj=>h j (List.mem_cons_of_mem _ hj)
  omega
theorem Qj {js:List Jb} (f g:Jb→Nat):(js.map fun j=>f j+g j).sum=(js.map f).sum+(js.map g).sum:=by
 induction js with
 |nil=>simp
 |cons a l ih=>simp only [List.map_cons,List.sum_cons,ih];omega
theorem SS {js:List Jb} {id:Int} {j:Jb} (hj:j∈js) (e:j.id=id):1≤(js.map fun j=>if id=j.id then 1 else 0).sum:=by
 induction js with
 |nil=>cases hj
 |cons a l ih=>
  simp only [List.map_cons,List.sum_cons]
  rcases List.mem_cons.1 hj with rfl|hj
  ·rw [if_pos e.symm];omega
  have:=ih hj;omega
theorem AX {js:List Jb}:∀{l:List Place},(∀x∈l,∃j∈js,j.id=x.bK)→l.length≤(js.map fun j=>rS j.id l).sum
 |[],_=>by simp
 |x::l,h=>by
  have ih:=AX (js:=js) (l:=l) fun y hy=>h y (List.mem_cons_of_mem _ hy)
  obtain ⟨j,hj,e⟩:=h x (List.mem_cons_self ..)
  have h1:=SS hj e
  have:(fun j:Jb=>rS j.id (x::l))=fun j=>(if x.bK=j.id then 1 else 0)+rS j.id l:=by funext j;rw [SR]
  rw [this,Qj]
  simp only [List.length_cons]
  omega
theorem bg.ok.JO {s:bg} (h:s.ok):s.bf.places.length≤256:=by
 have h1:=AX (js:=s.av) (l:=s.bf.places) fun x hx=>by
  obtain ⟨j,hj,_,e,_⟩:=h.places x hx
  exact ⟨j,hj,e⟩
 have h2:∀j∈s.av,rS j.id s.bf.places≤8:=by
  intro j hj
  cases hr:j.runs with
  |true=>
   have e1:=h.count j hj hr
   have e2:=dh.1 (h.pe j hj).1
   omega
  |false=>
   have e1:=h.Li hj hr
   have:rS j.id s.bf.places=0:=by
    unfold rS
    rw [List.length_eq_zero_iff,List.filter_eq_nil_iff]
    intro x hx;simpa using e1 x hx
   omega
 have h3:=Vn (f:=fun j=>rS j.id s.bf.places) (g:=fun _=>8) h2
 have h4:(s.av.map fun _=>8).sum=8*s.av.length:=by
  generalize s.av=l
  induction l with
  |nil=>rfl
  |cons a l ih=>simp only [List.map_cons,List.sum_cons,List.length_cons,ih];omega
 have:=h.most
 omega
end Dem
end
section
open Go Dem Go.Proofs
namespace Dem
variable {t:Th}
theorem M8 (ht:TT t) (q:aQ) {l:List (dj)} {es:List (List D)} (aG:es=l.map dj.cells) (f:Nat) (p:dj→Bool) (hl:l.length<9223372036854775807)
 (hf:∀x∈l,FC f [.agg [ST x.key,ST x.value],.ptr 0 0] [.var [ST q]] (.ret (BL (p x))) [.var [ST q]]) {r:Int} (hr:r=idxOf p l):FC 165 [SL es,.fn f [.ptr 0 0]] [.var [ST q]] (.ret (bJ r)) [.var [ST q]]:=by
 have hel:es.length=l.length:=by rw [aG,lgM]
 obtain ⟨J,hJ⟩:∃J:Nat→Nat→Prop,∀n v,J n v↔(v+n=l.length∧∀i<v,∀x,l[i]?=some x→p x=false):=⟨fun n v=>v+n=l.length∧∀i<v,∀x,l[i]?=some x→p x=false,fun _ _=>Iff.rfl⟩
 refine bP ht (aV:=[.var [ST q]]) Tryz.func165 rfl rfl (N:=19) rfl rfl (n:=1) rfl rfl ?_
 cbv
 refine bM ⟨[0,1,7,8],[],[]⟩ (σ:=Nat) (fun k=>[(8,bJ (t _ fun _=>(k:Int)))]) (fun _=>[]) J ?_
 cbv
 refine aJ ⟨l.length,0,(hJ _ _).2 ⟨by omega,by intro i hi;simp at hi⟩,by simp only [ht];rfl,?_⟩
 rintro n k hj
 obtain ⟨h2,h3⟩:=(hJ _ _).1 hj
 clear hj
 cbv
 refine ap (fun h=>?_) (fun h=>?_)
 ·simp only [ht,ah,decide_eq_true_eq] at h
  have hk:k<l.length:=by omega
  obtain ⟨x,hx⟩:∃x,l[k]?=some x:=⟨l[k],by simp⟩
  have pg:x∈l:=List.mem_of_getElem? hx
  have iw:=hf x pg
  obtain ⟨px,hpx⟩:∃b,b=p x:=⟨_,rfl⟩
  rw [←hpx] at iw
  obtain ⟨k',v'⟩:=x
  cbv
  refine jA [.str k',.str v'] ?_ ?_ ?_
  ·simp only [ht,ah];refine ⟨by omega,h,?_⟩;rw [aG];intro r hr;obtain ⟨y,_,rfl⟩:=List.mem_map.1 hr;rfl
  ·simp [ht,ah,aG,hx]
  cbv
  refine eB trv iw ?_
  cbv
  refine ap (fun hb=>?_) (fun hb=>?_)
  ·cbv
   refine aA trv trv rfl rfl rfl ?_
   have e:=dA hx (hpx▸hb) h3
   simp only [ht,ah,hr,idxOf,e]
  cbv
  refine aJ ⟨n-1,k+1,⟨by omega,(hJ _ _).2 ⟨by omega,?_⟩⟩,?_⟩
  ·intro i hi y hy
   by_cases hik:i<k
   ·exact h3 i hik y hy
   have:i=k:=by omega
   subst this;rw [hx] at hy;cases hy;rw [←hpx];exact hb
  simp only [ht,ah,aH (show k<9223372036854775807 by omega)];rfl
 simp only [ht,ah,decide_eq_false_iff_not] at h
 have hk:¬k<l.length:=by omega
 clear h
 cbv
 refine aA trv trv rfl rfl rfl ?_
 rw [hr,idxOf,dL]
 intro i y hy
 have:i<l.length:=by
  rcases Nat.lt_or_ge i l.length with h'|h';· exact h'
  simp [List.getElem?_eq_none h'] at hy
 exact h3 i (by omega) y hy
theorem Qk (ht:TT t) (q k v:aQ):FC 166 [.agg [ST k,ST v],.ptr 0 0] [.var [ST q]] (.ret (BL (decide (k=q)))) [.var [ST q]]:=by
 refine bP ht (aV:=[.var [ST q]]) Tryz.func166 rfl rfl (N:=8) rfl rfl (n:=1) rfl rfl ?_
 cbv
 refine aA trv trv rfl rfl rfl ?_
 simp [ht]
def ESB (r:aQ×Bool):AV:=.dX [ST r.1,BL r.2]
theorem Hq (ht:TT t) (q:aQ) {l:List dj} {es:List (List D)} (aG:es=l.map dj.cells) (hl:l.length<1000000000):
 FC 115 [SL es,ST q] [] (.ret (ESB (t _ fun _=>GC l q))) []:=by
 obtain ⟨r9,jP⟩:∃r,r=idxOf (fun x:dj=>decide (x.key=q)) l:=⟨_,rfl⟩
 refine bP ht (aV:=[]) Tryz.func115 rfl rfl (N:=17) rfl rfl (n:=0) rfl rfl ?_
 cbv
 have az:es.length=l.length:=by rw [aG,lgM]
 (refine dz [0] trv rfl rfl (M8 ht q aG 166 (fun x=>decide (x.key=q)) (by omega) (fun x _=>Qk ht q _ _) jP) (cz ?_);have ec:=cF jP;clear jP;rcases ec with ⟨e1,e2,e3⟩|⟨i,x,hi,hil,e1,e2,e3,e4⟩)
 ·cbv
  refine ap (fun h0=>?_) (fun h0=>?_)
  ·simp [ht] at h0
   cbv
   refine aA trv trv rfl rfl rfl ?_
   (simp [ht,GC,e3];done)
  simp [ht] at h0
  omega
 cbv
 refine ap (fun h1=>?_) (fun h1=>?_)
 ·simp [ht] at h1
  (simp only [ah] at*;omega)
 simp [ht] at h1
 cbv
 refine v8 ht aG (cT:=dj.bF t) e1 ‹_› (fun _=>rfl) (fun _=>rfl) ?_
 cbv
 refine aA trv trv rfl rfl rfl ?_
 (simp [ht,GC,e4];done)
theorem M9 (ht:TT t) (a:aQ) {l:List aQ} {es:List (List D)} (aG:es=l.map bE) (hl:l.length<1000000000):
 FC 293 [SL es,ST a] [] (.ret (gE (t _ fun _=>JD a l))) []:=by
 refine bP ht (aV:=[]) Tryz.func293 rfl rfl (N:=19) rfl rfl (n:=0) rfl rfl ?_
 cbv
 have az:es.length=l.length:=by rw [aG,lgM]
 obtain ⟨J0,fH⟩:∃J0:Nat→Int→Prop,∀n i,J0 n i↔(∃k:Nat,i=k∧k+n=l.length∧∀i<k,∀y,l[i]?=some y→a≠y):=⟨fun n v=>match v with|i=>(∃k:Nat,i=k∧k+n=l.length∧∀i<k,∀y,l[i]?=some y→a≠y),fun _ _=>Iff.rfl⟩
 refine bM ⟨[0,1,7,8],[],[]⟩ (σ:=Int) (fun v=>[(8,.d (.int .i64 (t _ fun _=>v)))]) (fun v=>[]) J0 ?_
 cbv
 refine aJ ⟨l.length,_,(fH _ _).2 ?_,by simp only [ht];rfl,?_⟩
 ·exact ⟨0,rfl,by simp,fun i hi=>by omega⟩
 rintro n i hj
 replace hj:=(fH _ _).1 hj
 obtain ⟨k,rfl,j1,j4⟩:=hj
 cbv
 refine ap (fun h1=>?_) (fun h1=>?_)
 ·simp [ht,ah,az] at h1
  cbv
  refine kO ht aG (cT:=eW t) (by (simp only [ht,ah];omega)) (by (simp only [ht,ah];omega)) (fun _=>rfl) (fun _=>rfl) (fun x2 nT=>?_)
  simp [ht,ah] at nT
  cbv
  refine ap (fun h3=>?_) (fun h3=>?_)
  ·simp [ht] at h3
   cbv
   refine aA trv trv rfl rfl rfl ?_
   (simp only [ht];rw [Lr ‹_› ‹_› j4];done)
  simp [ht] at h3
  cbv
  refine cD _ (by simp only [ht];rfl) (n-1) ?_ ((fH _ _).2 ?_)
  ·omega
  simp only [ah]
  exact ⟨k+1,aH (by omega),by omega,CU j4 ‹_› ‹_›⟩
 simp [ht,ah,az] at h1
 cbv
 refine aA trv trv rfl rfl rfl ?_
 (simp only [ht];rw [Ls (by omega) j4];done)
theorem Na (ht:TT t) (a:aQ) {l:List aQ} {es:List (List D)} (aG:es=l.map bE) (hl:l.length<1000000000):
 FC 292 [SL es,ST a] [] (.ret (dn (t _ fun _=>l.contains a))) []:=by
 refine bP ht (aV:=[]) Tryz.func292 rfl rfl (N:=9) rfl rfl (n:=0) rfl rfl ?_
 cbv
 have az:es.length=l.length:=by rw [aG,lgM]
 refine bq trv (M9 ht _ ‹_› ‹_›) trv rfl rfl (fun r0 c7=>?_)
 simp only [ht] at c7
 cbv
 refine aA trv trv rfl rfl rfl ?_
 (simp [ht,c7,G8];done)
theorem Hr (ht:TT t) (a:aQ) {l:List aQ} {es:List (List D)} (aG:es=l.map bE) (hl:l.length<1000000000):
 FC 291 [SL es,ST a] [] (.ret (dn (t _ fun _=>l.contains a))) []:=by
 refine bP ht (aV:=[]) Tryz.func291 rfl rfl (N:=8) rfl rfl (n:=0) rfl rfl ?_
 cbv
 have az:es.length=l.length:=by rw [aG,lgM]
 refine bq trv (Na ht _ ‹_› ‹_›) trv rfl rfl (fun r0 c7=>?_)
 simp only [ht] at c7
 cbv
 refine aA trv trv rfl rfl rfl ?_
 (simp [*];done)
theorem Hs (ht:TT t) (a:aQ):FC 290 [.agg [],ST a] [] (.ret (BL true)) []:=by
 refine bP ht (aV:=[]) Tryz.func290 rfl rfl (N:=5) rfl rfl (n:=0) rfl rfl ?_
 cbv
 refine aA trv trv rfl rfl rfl ?_
 simp
theorem SU (ht:TT t) (k:aQ) (n:Bool):FC 116 [.agg [ST k,BL n,SL []]] [] (.ret (.rN 227 (.agg []))) []:=by
 refine bP ht (aV:=[]) Tryz.func116 rfl rfl (N:=12) rfl rfl (n:=0) rfl rfl ?_
 cbv
 refine kH (by simp [ht]) ?_
 cbv
 refine aA trv trv rfl rfl rfl ?_
 simp
theorem SV (ht:TT t) (k:aQ) (n:Bool) {vr:List (List D)} (hv:vr.length≠0):FC 116 [.agg [ST k,BL n,SL vr]] [] (.ret (.rN 228 (SL vr))) []:=by
 refine bP ht (aV:=[]) Tryz.func116 rfl rfl (N:=12) rfl rfl (n:=0) rfl rfl ?_
 cbv
 refine nJ (by simp only [ht,ah,decide_eq_false_iff_not];omega) ?_
 cbv
 refine aA trv trv rfl rfl rfl ?_
 simp
theorem JP (ht:TT t) (k:aQ) (n:Bool) {vs:List aQ} {vr:List (List D)} (G4:vr=vs.map bE) (hv:vs.length<1000000000) {l:List dj} {ls:List (List D)} (hls:ls=l.map dj.cells) (hl:l.length<1000000000) (h0:vr=[]):
 FC 76 [.agg [ST k,BL n,SL vr],SL ls] [] (.ret (dn (t _ fun _=>kP ⟨k,n,vs⟩ l))) []:=by
 have hlen:vr.length=vs.length:=by rw [G4,lgM]
 obtain ⟨H,hH⟩:∃H,H=kP ⟨k,n,vs⟩ l:=⟨_,rfl⟩
 rw [←hH]
 simp only [kP] at hH
 subst h0
 have UR:vs.length=0:=by simpa using hlen.symm
 rw [if_pos (show vs.length=0 from UR)] at hH
 clear G4 hlen
 refine bP ht (aV:=[]) Tryz.func76 rfl rfl (N:=24) rfl rfl (n:=0) rfl rfl ?_
 cbv
 have qA:ls.length=l.length:=by rw [hls,lgM]
 refine bq trv (Hq ht _ ‹_› ‹_›) trv rfl rfl (fun r0 c7=>?_)
 simp only [ht] at c7
 cbv
 refine dK [false,false,false,false,false,false,false,false,false,true,true] (by kernel_rfl) (by kernel_rfl) ?_
 cbv
 iterate 3 refine gI (by simp) ?_
 (refine m8 (fun g=>⟨by simpa [ht] using g,trv,SU ht k n⟩) rfl rfl rfl ?_)
 cbv
 refine gI (by simp) ?_
 (refine TR (Gp (fun g=>⟨by simpa [ht] using g,trv,Hs ht _⟩) rfl rfl ?_))
 cbv
 refine gI (by simp [aj]) ?_
 iterate 2 refine gI (by simp) ?_
 refine aA trv trv rfl rfl rfl ?_
 (simp only [ht];grind)
theorem JQ (ht:TT t) (k:aQ) (n:Bool) {vs:List aQ} {vr:List (List D)} (G4:vr=vs.map bE) (hv:vs.length<1000000000) {l:List dj} {ls:List (List D)} (hls:ls=l.map dj.cells) (hl:l.length<1000000000) (h0:vr.length≠0):
 FC 76 [.agg [ST k,BL n,SL vr],SL ls] [] (.ret (dn (t _ fun _=>kP ⟨k,n,vs⟩ l))) []:=by
 have hlen:vr.length=vs.length:=by rw [G4,lgM]
 obtain ⟨H,hH⟩:∃H,H=kP ⟨k,n,vs⟩ l:=⟨_,rfl⟩
 rw [←hH]
 simp only [kP] at hH
 rw [if_neg (show ¬vs.length=0 by omega)] at hH
 refine bP ht (aV:=[]) Tryz.func76 rfl rfl (N:=24) rfl rfl (n:=0) rfl rfl ?_
 cbv
 have wu:vr.length=vs.length:=by rw [G4,lgM]
 have qA:ls.length=l.length:=by rw [hls,lgM]
 refine bq trv (Hq ht _ ‹_› ‹_›) trv rfl rfl (fun r0 c7=>?_)
 simp only [ht] at c7
 cbv
 refine dK [false,false,false,false,false,false,false,false,false,true,true] (by kernel_rfl) (by kernel_rfl) ?_
 cbv
 iterate 3 refine gI (by simp) ?_
 (refine m8 (fun g=>⟨by simpa [ht] using g,trv,SV ht k n (by omega)⟩) rfl rfl rfl ?_)
 cbv
 refine gI (by simp) ?_
 (refine TR (eT (fun g=>⟨by simpa [ht] using g,trv,Hr ht _ G4 hv⟩) rfl rfl (fun r1 cP=>?_));simp only [ht] at cP)
 cbv
 refine gI (by simp [aj]) ?_
 iterate 2 refine gI (by simp) ?_
 refine aA trv trv rfl rfl rfl ?_
 (simp only [ht];grind)
theorem Nb (ht:TT t) (k:aQ) (n:Bool) {vs:List aQ} {vr:List (List D)} (G4:vr=vs.map bE) (hv:vs.length<1000000000) {l:List dj} {ls:List (List D)} (hls:ls=l.map dj.cells) (hl:l.length<1000000000):
 FC 76 [.agg [ST k,BL n,SL vr],SL ls] [] (.ret (dn (t _ fun _=>kP ⟨k,n,vs⟩ l))) []:=by
 by_cases h0:vr=[]
 ·exact JP ht k n G4 hv hls hl h0
 exact JQ ht k n G4 hv hls hl (by intro h;exact h0 (List.length_eq_zero_iff.1 h))
theorem JR (ht:TT t) (ls:List (List D)) {l:List (Term)} {es:List (List D)} (aG:es=l.map Term.cells) (f:Nat) (p:Term→Bool) (hl:l.length<9223372036854775807)
 (hf:∀x∈l,FC f [.agg [ST x.key,BL x.no,SL (x.mD.map bE)],.ptr 0 0] [.var [SL ls]] (.ret (BL (p x))) [.var [SL ls]]) {r:Int} (hr:r=idxOf p l):FC 114 [SL es,.fn f [.ptr 0 0]] [.var [SL ls]] (.ret (bJ r)) [.var [SL ls]]:=by
 have hel:es.length=l.length:=by rw [aG,lgM]
 obtain ⟨J,hJ⟩:∃J:Nat→Nat→Prop,∀n v,J n v↔(v+n=l.length∧∀i<v,∀x,l[i]?=some x→p x=false):=⟨fun n v=>v+n=l.length∧∀i<v,∀x,l[i]?=some x→p x=false,fun _ _=>Iff.rfl⟩
 refine bP ht (aV:=[.var [SL ls]]) Tryz.func114 rfl rfl (N:=19) rfl rfl (n:=1) rfl rfl ?_
 cbv
 refine bM ⟨[0,1,7,8],[],[]⟩ (σ:=Nat) (fun k=>[(8,bJ (t _ fun _=>(k:Int)))]) (fun _=>[]) J ?_
 cbv
 refine aJ ⟨l.length,0,(hJ _ _).2 ⟨by omega,by intro i hi;simp at hi⟩,by simp only [ht];rfl,?_⟩
 rintro n k hj
 obtain ⟨h2,h3⟩:=(hJ _ _).1 hj
 clear hj
 cbv
 refine ap (fun h=>?_) (fun h=>?_)
 ·simp only [ht,ah,decide_eq_true_eq] at h
  have hk:k<l.length:=by omega
  obtain ⟨x,hx⟩:∃x,l[k]?=some x:=⟨l[k],by simp⟩
  have pg:x∈l:=List.mem_of_getElem? hx
  have iw:=hf x pg
  obtain ⟨px,hpx⟩:∃b,b=p x:=⟨_,rfl⟩
  rw [←hpx] at iw
  obtain ⟨a,b,c⟩:=x;obtain ⟨G2,mr⟩:∃lr:List (List D),lr=c.map bE:=⟨_,rfl⟩;simp only [←mr] at iw
  cbv
  refine jA [.str a,.bool b,.sl G2] ?_ ?_ ?_
  ·simp only [ht,ah];refine ⟨by omega,h,?_⟩;rw [aG];intro r hr;obtain ⟨y,_,rfl⟩:=List.mem_map.1 hr;rfl
  ·simp [ht,ah,aG,hx,mr,Term.cells]
  cbv
  refine eB trv iw ?_
  cbv
  refine ap (fun hb=>?_) (fun hb=>?_)
  ·cbv
   refine aA trv trv rfl rfl rfl ?_
   have e:=dA hx (hpx▸hb) h3
   simp only [ht,ah,hr,idxOf,e]
  cbv
  refine aJ ⟨n-1,k+1,⟨by omega,(hJ _ _).2 ⟨by omega,?_⟩⟩,?_⟩
  ·intro i hi y hy
   by_cases hik:i<k
   ·exact h3 i hik y hy
   have:i=k:=by omega
   subst this;rw [hx] at hy;cases hy;rw [←hpx];exact hb
  simp only [ht,ah,aH (show k<9223372036854775807 by omega)];rfl
 simp only [ht,ah,decide_eq_false_iff_not] at h
 have hk:¬k<l.length:=by omega
 clear h
 cbv
 refine aA trv trv rfl rfl rfl ?_
 rw [hr,idxOf,dL]
 intro i y hy
 have:i<l.length:=by
  rcases Nat.lt_or_ge i l.length with h'|h';· exact h'
  simp [List.getElem?_eq_none h'] at hy
 exact h3 i (by omega) y hy
theorem JS (ht:TT t) (ls:List (List D)) {l:List (Term)} {es:List (List D)} (aG:es=l.map Term.cells) (f:Nat) (p:Term→Bool) (hl:l.length<9223372036854775807)
 (hf:∀x∈l,FC f [.agg [ST x.key,BL x.no,SL (x.mD.map bE)],.ptr 0 0] [.var [SL ls]] (.ret (BL (p x))) [.var [SL ls]]) {r:Bool} (hr:r=l.any p):FC 74 [SL es,.fn f [.ptr 0 0]] [.var [SL ls]] (.ret (BL r)) [.var [SL ls]]:=by
 obtain ⟨k,hk⟩:∃k,k=idxOf p l:=⟨_,rfl⟩
 refine bP ht (aV:=[.var [SL ls]]) Tryz.func74 rfl rfl (N:=9) rfl rfl (n:=1) rfl rfl ?_
 cbv
 refine eB trv (JR ht ls aG f p hl hf hk) ?_
 cbv
 refine aA trv trv rfl rfl rfl ?_
 simp only [ht,hr,iO,hk]
theorem Ql (ht:TT t) (k:aQ) (n:Bool) {vs:List aQ} {vr:List (List D)} (G4:vr=vs.map bE) (hv:vs.length<1000000000) {l:List dj} {ls:List (List D)} (hls:ls=l.map dj.cells) (hl:l.length<1000000000) {r:Bool} (hr:r=!kP ⟨k,n,vs⟩ l):
 FC 75 [.agg [ST k,BL n,SL vr],.ptr 0 0] [.var [SL ls]] (.ret (BL r)) [.var [SL ls]]:=by
 obtain ⟨H,hH⟩:∃H,H=kP ⟨k,n,vs⟩ l:=⟨_,rfl⟩
 rw [←hH] at hr
 refine bP ht (aV:=[.var [SL ls]]) Tryz.func75 rfl rfl (N:=8) rfl rfl (n:=1) rfl rfl ?_
 cbv
 have wu:vr.length=vs.length:=by rw [G4,lgM]
 have qA:ls.length=l.length:=by rw [hls,lgM]
 refine bq trv (Nb ht _ _ ‹_› ‹_› ‹_› ‹_›) trv rfl rfl (fun r1 cP=>?_)
 simp only [ht] at cP
 cbv
 refine aA trv trv rfl rfl rfl ?_
 (simp [*];done)
theorem Nc (ht:TT t) {x:List Term} {xr:List (List D)} (Et:xr=x.map Term.cells) (hx:x.length<1000000000) (EU:∀m∈x,m.mD.length<1000000000) {l:List dj} {ls:List (List D)} (hls:ls=l.map dj.cells) (hl:l.length<1000000000):
 FC 34 [SL xr,SL ls] [] (.ret (dn (t _ fun _=>ng x l))) []:=by
 obtain ⟨r9,jP⟩:∃r,r=x.any (fun m=>!kP m l):=⟨_,rfl⟩
 refine bP ht (aV:=[]) Tryz.func34 rfl rfl (N:=9) rfl rfl (n:=0) rfl rfl ?_
 cbv
 have JT:xr.length=x.length:=by rw [Et,lgM]
 have qA:ls.length=l.length:=by rw [hls,lgM]
 (refine dz [0] trv rfl rfl (JS ht ls Et 75 (fun m=>!kP m l) (by omega) (fun m hm=>Ql ht _ _ rfl (EU m hm) hls hl rfl) jP) (cz ?_))
 cbv
 refine aA trv trv rfl rfl rfl ?_
 (simp [ht,ng,jP];done)
end Dem
end
section
open Go
namespace Dem
section
variable {P:Program} {G:Nat→Option (List D)}
theorem x8 {f:Nat} {args:List AV} {bx aZ pE:List aB} {v v2:AV} (h:bH P G f args bx (.ret v) aZ)
 (hs:∀β w X u,cJ G β aZ w X→ak β aZ w (bz β aZ w X) v u→Ext β aZ w β pE w∧cJ G β pE w X∧ak β pE w (bz β pE w X) v2 u):bH P G f args bx (.ret v2) pE:=by
 intro β w vs X cx hx
 refine jv.mono (h β w vs X cx hx) ?_
 rintro e w' ⟨β',ex,mB,hr⟩
 cases e with
 |returned u=>
  obtain ⟨a,b,c⟩:=hs β' w' X u mB hr
  exact ⟨β',ex.trans a,b,c⟩
 |panicked ch=>exact hr.elim
 |outgrown=>exact hr.elim
theorem Qm {β:Nat→Nat} {bx:List aB} {w:World} {b:Nat} {B B':aB} (hb:bx[b]?=some B) (hl:B.live=true) (dQ:B'.born=true):Ext β bx w β (bx.set b B') w:=by
 refine ⟨rfl,rfl,rfl,Nat.le_refl _,fun _ _ _=>rfl,fun k c e f h=>⟨c,h,rfl⟩,fun i hi=>⟨rfl,iE dQ hi⟩,?_⟩
 intro i b' h1 h2
 rcases aU h1 with ⟨rfl,rfl,_⟩|⟨_,h3⟩
 ·exact .inr ⟨_,B,hb,hl,rfl⟩
 exact .inr ⟨i,b',h3,h2,rfl⟩
theorem AY {f b sz k c:Nat} {ex:Bool} {args:List AV} {bx aZ pE:List aB} {es r:List (List D)} (hk:0<k) (hb:aZ[b]?=some (.row sz es)) (Vo:k≤es.length) (hr:r=es.take k) (h2:pE=aZ.set b (.row sz r))
 (h:bH P G f args bx (.ret (.vw b sz 0 k c ex)) aZ):bH P G f args bx (.ret (.ow b sz k)) pE:=by
 subst hr h2
 refine x8 h fun β w X u cx hv=>?_
 have hne:es≠[]:=by intro h;rw [h] at Vo;simp at Vo;omega
 have cB:(aB.row sz es).live=true:=by cases es with
  |nil=>exact absurd rfl hne
  |cons _ _=>rfl
 have ht:es.take k≠[]:=by
  intro h;have:=congrArg List.length h;simp at this;rcases this with h|h
  ·omega
  exact hne h
 have ZP:(aB.row sz (es.take k)).live=true:=by
  cases hq:es.take k with
  |nil=>exact absurd hq ht
  |cons _ _=>rfl
 have ext:Ext β aZ w β (aZ.set b (.row sz (es.take k))) w:=Qm hb cB rfl
 simp only [ak] at hv
 obtain ⟨h1,base,cap,cs,e,f',rfl,h3,h4,h5,h6⟩:=hv
 refine ⟨ext,cx.step ext ?_ ?_,?_⟩
 ·intro i b' hi
  rcases aU hi with ⟨rfl,rfl,_⟩|⟨h7,h8⟩
  ·refine .inr ?_
   rcases cx.box _ _ hb with h|⟨c2,e2,g1,g2⟩
   ·exact absurd h hne
   exact .inr ⟨c2,e2,g1,ay.mono (ext.keeps X) _ _ (fun _=>rfl) _ _ (ay.E5 k _ _ g2)⟩
  exact .inl ⟨h8,fun _=>rfl⟩
 ·intro i j bi bj hi hj li lj he
  rcases aU hi with ⟨rfl,rfl,_⟩|⟨h7,h8⟩<;>rcases aU hj with ⟨rfl,rfl,_⟩|⟨h9,h10⟩
  ·rfl
  ·exact cx.inj _ _ _ _ hb h10 cB lj he
  ·exact cx.inj _ _ _ _ h8 hb li cB he
  exact cx.inj _ _ _ _ h8 h10 li lj he
 simp only [ak]
 refine ⟨(ext.born b h1).2,.inr ⟨by omega,cap,?_⟩⟩
 rcases h6 with h6|⟨rfl,h7,h8⟩
 ·omega
 exact ⟨cs,e,f',by simp,h3,h7,by simpa using h8⟩
theorem AZ {f b sz k c:Nat} {ex:Bool} {args:List AV} {bx aZ pE:List aB} {es r:List (List D)} (hb:aZ[b]?=some (.row sz es)) (Vo:k≤es.length) (hr:r=es.take k) (h2:pE=aZ.set b .dead)
 (h:bH P G f args bx (.ret (.vw b sz 0 k c ex)) aZ):bH P G f args bx (.ret (.d (.sl r))) pE:=by
 subst hr h2
 refine x8 h fun β w X u cx hv=>?_
 have ext:Ext β aZ w β (aZ.set b .dead) w:=iF hb rfl rfl
 simp only [ak] at hv
 obtain ⟨h1,base,cap,cs,e,f',rfl,h3,h4,h5,h6⟩:=hv
 refine ⟨ext,jW cx hb rfl rfl (by simp [dm]),?_⟩
 have hl:(es.take k).length=k:=by simp;omega
 simp only [ak,aS]
 refine ⟨base,cap,by rw [hl],by rw [hl];exact h3,?_⟩
 by_cases hk:k=0
 ·exact .inl (by rw [hk];rfl)
 refine .inr ?_
 rcases h6 with h6|⟨rfl,h7,h8⟩
 ·omega
 rcases cx.box _ _ hb with h|⟨c2,e2,g1,g2⟩
 ·rw [h] at Vo;simp at Vo;omega
 refine ⟨β b,0,sz,by simp,⟨eZ g1,?_,?_⟩,ay.mono (ext.keeps X) _ _ (fun _=>rfl) _ _ (ay.E5 k _ _ g2)⟩
 ·refine cx.apart b _ hb ?_
  cases es with
  |nil=>simp at Vo;omega
  |cons _ _=>rfl
 intro i b' h9 h10 he
 rcases aU h9 with ⟨rfl,rfl,_⟩|⟨h11,h12⟩
 ·simp [aB.live] at h10
 refine h11 (cx.inj i b b' _ h12 hb h10 ?_ he)
 cases es with
 |nil=>simp at Vo;omega
 |cons _ _=>rfl
theorem an.split {β:Nat→Nat} {bx:List aB} {w:World} {ok:Nat→Prop}:∀{xs ys:List AV} {vs:List Value},an β bx w ok (xs++ys) vs→∃us ws,vs=us++ws∧an β bx w ok xs us∧an β bx w ok ys ws
 |[],_,vs,h=>⟨[],vs,rfl,by simp only [an],h⟩
 |x::xs,ys,vs,h=>by
  rw [List.cons_append] at h
  simp only [an] at h ⊢
  obtain ⟨u,us,rfl,h1,h2⟩:=h
  obtain ⟨a,b,rfl,h3,h4⟩:=an.split h2
  exact ⟨u::a,b,rfl,⟨u,a,rfl,h1,h3⟩,h4⟩
theorem qB {f g b:Nat} {xs:List AV} {cs:List AV} {ds:List D} {bx pz aZ:List aB} {res:jN} (hb:bx[b]?=some (.var cs)) (hd:iR [] cs=some ds) (h1:pz=bx.set b .dead)
 (h:bH P G f (xs++[.fn g [.ep ds]]) pz res aZ):bH P G f (xs++[.fn g [.ptr b 0]]) bx res aZ:=by
 subst h1
 intro β w vs X cx hx
 have ext:Ext β bx w β (bx.set b .dead) w:=iF hb rfl rfl
 have mB:cJ G β (bx.set b .dead) w X:=jW cx hb rfl rfl (by simp [dm])
 obtain ⟨c2,e2,g1,g2⟩:=cx.box _ _ hb
 have hok:bz β (bx.set b .dead) w X (β b):=by
  refine ⟨eZ g1,cx.apart b _ hb rfl,?_⟩
  intro i b' h3 h4 he
  rcases aU h3 with ⟨rfl,rfl,_⟩|⟨h5,h6⟩
  ·simp [aB.live] at h4
  exact h5 (cx.inj i b b' _ h6 hb h4 rfl he)
 have hrow:bp w (bz β bx w X) (β b) ds 0:=by
  refine Dw ds 0 c2.toList ?_ (ri hd g2)
  intro j v hj
  simp only [World.cell?,g1]
  simpa using hj
 have C5:=bp.mono (ext.keeps X) _ (fun _=>rfl) _ _ hrow
 obtain ⟨us,ws0,rfl,hu,hw⟩:=an.split hx
 simp only [an,ak] at hw
 obtain ⟨v,vs',rfl,⟨ws,rfl,w1,ws',rfl,⟨rfl,DC⟩,rfl⟩,rfl⟩:=hw
 refine jv.mono (h β w _ X mB ?_) ?_
 ·refine an.append (an.mono (ext.eS X) _ _ hu) ?_
  simp only [an,ak]
  exact ⟨_,_,rfl,⟨_,rfl,_,_,rfl,⟨β b,0,rfl,hok,C5⟩,rfl⟩,rfl⟩
 rintro e w' ⟨β',ex,ZQ,hr⟩
 exact ⟨β',ext.trans ex,ZQ,hr⟩
theorem oS {f g b:Nat} {x:AV} {cs:List AV} {ds:List D} {bx pz aZ:List aB} {res:jN} (hb:bx[b]?=some (.var cs)) (hd:iR [] cs=some ds) (h1:pz=bx.set b .dead)
 (h:bH P G f [x,.fn g [.ep ds]] pz res aZ):bH P G f [x,.fn g [.ptr b 0]] bx res aZ:=qB (xs:=[x]) hb hd h1 h
end
end Dem
end
section
open Go Dem Go.Proofs
namespace Dem
variable {t:Th}
theorem x9 (ht:TT t) {es:List (List D)} (aG:∀r∈es,r.length=6) (hs:es.length*72≤140737488355328) {m:Nat} (hm:m=es.length):
 FC 191 [SL es] [] (.ret (.ow 0 6 m)) [.row 6 es]:=by
 refine bP ht (aV:=[]) Tryz.func191 rfl rfl (N:=8) rfl rfl (n:=0) rfl rfl ?_
 cbv
 refine ⟨fun b hb=>?_⟩
 simp only [ht] at hb
 cbv
 refine ap (fun h=>?_) (fun h=>?_)
 ·have he:=hb h
  subst he
  cbv
  exact Gr trv rfl rfl (by rw [hm];rfl) rfl
 clear hb h
 cbv
 refine ⟨?_,?_⟩
 ·simp only [ht];simp;exact ⟨hs,aG⟩
 refine BO trv rfl rfl rfl rfl ?_ ?_
 ·simp only [ht];rw [hm];simp
 simp only [ht];rfl
theorem Ng (ht:TT t) (xr:List (List D)) {l:List (bT)} {es:List (List D)} (aG:es=l.map bT.cells) (f:Nat) (p:bT→Bool) (hl:l.length<9223372036854775807)
 (hf:∀x∈l,FC f [.agg [ST x.node,aD x.free.a,aD x.free.b,aD x.free.c,aD x.free.d,SL (x.labels.map dj.cells)],.ep [.sl xr]] [] (.ret (BL (p x))) []) {r:Int} (hr:r=idxOf p l):FC 216 [SL es,.fn f [.ep [.sl xr]]] [] (.ret (bJ r)) []:=by
 have hel:es.length=l.length:=by rw [aG,lgM]
 obtain ⟨J,hJ⟩:∃J:Nat→Nat→Prop,∀n v,J n v↔(v+n=l.length∧∀i<v,∀x,l[i]?=some x→p x=false):=⟨fun n v=>v+n=l.length∧∀i<v,∀x,l[i]?=some x→p x=false,fun _ _=>Iff.rfl⟩
 refine bP ht (aV:=[]) Tryz.func216 rfl rfl (N:=19) rfl rfl (n:=0) rfl rfl ?_
 cbv
 refine bM ⟨[0,1,7,8],[],[]⟩ (σ:=Nat) (fun k=>[(8,bJ (t _ fun _=>(k:Int)))]) (fun _=>[]) J ?_
 cbv
 refine aJ ⟨l.length,0,(hJ _ _).2 ⟨by omega,by intro i hi;simp at hi⟩,by simp only [ht];rfl,?_⟩
 rintro n k hj
 obtain ⟨h2,h3⟩:=(hJ _ _).1 hj
 clear hj
 cbv
 refine ap (fun h=>?_) (fun h=>?_)
 ·simp only [ht,ah,decide_eq_true_eq] at h
  have hk:k<l.length:=by omega
  obtain ⟨x,hx⟩:∃x,l[k]?=some x:=⟨l[k],by simp⟩
  have pg:x∈l:=List.mem_of_getElem? hx
  have iw:=hf x pg
  obtain ⟨px,hpx⟩:∃b,b=p x:=⟨_,rfl⟩
  rw [←hpx] at iw
  obtain ⟨nd,⟨v1,v2,v3,v4⟩,lb⟩:=x;obtain ⟨G2,mr⟩:∃lr:List (List D),lr=lb.map dj.cells:=⟨_,rfl⟩;simp only [←mr] at iw
  cbv
  refine jA [.str nd,.int .u64 v1,.int .u64 v2,.int .u64 v3,.int .u64 v4,.sl G2] ?_ ?_ ?_
  ·simp only [ht,ah];refine ⟨by omega,h,?_⟩;rw [aG];intro r hr;obtain ⟨y,_,rfl⟩:=List.mem_map.1 hr;rfl
  ·simp [ht,ah,aG,hx,mr,bT.cells]
  cbv
  refine eB trv iw ?_
  cbv
  refine ap (fun hb=>?_) (fun hb=>?_)
  ·cbv
   refine aA trv trv rfl rfl rfl ?_
   have e:=dA hx (hpx▸hb) h3
   simp only [ht,ah,hr,idxOf,e]
  cbv
  refine aJ ⟨n-1,k+1,⟨by omega,(hJ _ _).2 ⟨by omega,?_⟩⟩,?_⟩
  ·intro i hi y hy
   by_cases hik:i<k
   ·exact h3 i hik y hy
   have:i=k:=by omega
   subst this;rw [hx] at hy;cases hy;rw [←hpx];exact hb
  simp only [ht,ah,aH (show k<9223372036854775807 by omega)];rfl
 simp only [ht,ah,decide_eq_false_iff_not] at h
 have hk:¬k<l.length:=by omega
 clear h
 cbv
 refine aA trv trv rfl rfl rfl ?_
 rw [hr,idxOf,dL]
 intro i y hy
 have:i<l.length:=by
  rcases Nat.lt_or_ge i l.length with h'|h';· exact h'
  simp [List.getElem?_eq_none h'] at hy
 exact h3 i (by omega) y hy
theorem JU (ht:TT t) (xr:List (List D)) {l:List (bT)} {es:List (List D)} (aG:es=l.map bT.cells) {m c:Nat} (hm:m=l.length) (hc:m≤c) (f:Nat) (p:bT→Bool) (hl:l.length<9223372036854775807)
 (hf:∀x∈l,FC f [.agg [ST x.node,aD x.free.a,aD x.free.b,aD x.free.c,aD x.free.d,SL (x.labels.map dj.cells)],.ep [.sl xr]] [] (.ret (BL (p x))) []) {r:List (List D)} (hr:r=(l.filter (fun x=>!p x)).map bT.cells) {kk:Nat} (hkk:kk=r.length) {rz:List (List D)} (Ht:rz=r++List.replicate (m-kk) [.str [],.int .u64 0,.int .u64 0,.int .u64 0,.int .u64 0,.sl []]):
 FC 190 [.vw 0 6 0 m c true,.fn f [.ep [.sl xr]]] [.row 6 es] (.ret (.vw 0 6 0 kk c true)) [.row 6 rz]:=by
 have hel:es.length=m:=by rw [aG,lgM,hm]
 have hrows:∀r∈es,r.length=6:=by rw [aG];intro r hr;obtain ⟨y,_,rfl⟩:=List.mem_map.1 hr;rfl
 obtain ⟨k,hk⟩:∃k,k=idxOf p l:=⟨_,rfl⟩
 have PG:(t (List (List D)) fun _=>(es.drop 0).take m)=l.map bT.cells:=by simp only [ht];rw [List.drop_zero,List.take_of_length_le (by omega),aG]
 have hidx:=Ng ht xr PG f p hl hf hk
 obtain ⟨J,hJ⟩:∃J:Nat→Nat×Nat×List (List D)→Prop,∀n v,J n v↔(v.2.1+n=m∧v.1<v.2.1∧v.2.2.length=m∧(∀r∈v.2.2,r.length=6)∧v.2.2.take v.1=((l.take v.2.1).filter (fun x=>!p x)).map bT.cells∧v.2.2.drop v.2.1=es.drop v.2.1):=⟨fun n v=>v.2.1+n=m∧v.1<v.2.1∧v.2.2.length=m∧(∀r∈v.2.2,r.length=6)∧v.2.2.take v.1=((l.take v.2.1).filter (fun x=>!p x)).map bT.cells∧v.2.2.drop v.2.1=es.drop v.2.1,fun _ _=>Iff.rfl⟩
 refine bP ht (aV:=[.row 6 es]) Tryz.func190 rfl rfl (N:=42) rfl rfl (n:=1) rfl rfl ?_
 cbv
 refine Pf (TT.eq ht) (v:=bJ k) [true] [] trv rfl ?_ rfl rfl rfl rfl rfl rfl rfl hidx ?_
 ·simp [ht];omega
 cbv
 refine ap (fun h=>?_) (fun h=>?_)
 ·have vC:k=-1:=by simp [ht] at h;exact h
  have hnone:=nK (hk▸vC:idxOf p l=-1)
  clear h
  cbv
  have Ow:r=es:=by rw [hr,filter_all hnone,←aG]
  have hkm:kk=m:=by rw [hkk,Ow,hel]
  have Vp:rz=es:=by rw [Ht,hkm,Nat.sub_self,Ow];simp
  rw [Vp,hkm]
  exact I3 trv rfl rfl
 have vC:k≠-1:=by simp [ht] at h;exact h
 clear h
 obtain ⟨i0,x0,T7,hx0,Xy,hb0⟩:=nL (hk▸vC:idxOf p l≠-1)
 rw [←hk] at T7
 subst T7
 have Xz:i0<m:=by rw [hm];exact (List.getElem?_eq_some_iff.1 hx0).1
 cbv
 refine bM ⟨[0,1,5,6],[],[]⟩ (σ:=Nat×Nat×List (List D)) (fun v=>[(5,bJ (t _ fun _=>(v.1:Int))),(6,bJ (t _ fun _=>(v.2.1:Int)))]) (fun v=>[(0,.row 6 (t _ fun _=>v.2.2))]) J ?_
 cbv
 refine aJ ⟨m-(i0+1),(i0,i0+1,es),(hJ _ _).2 ⟨?_,?_,hel,hrows,?_,rfl⟩,by simp only [ht,ah,Int.ofNat_eq_natCast,aH (show i0<9223372036854775807 by omega)];rfl,?_⟩
 ·show i0+1+(m-(i0+1))=m;omega
 ·show i0<i0+1;omega
 ·show es.take i0=_
  rw [dP hx0,List.filter_append,filter_all hb0,aG,←List.map_take];simp [Xy]
 rintro n ⟨i,j,cur⟩ hj
 obtain ⟨j1,j2,j3,j4,j5,j6⟩:=(hJ _ _).1 hj
 clear hj
 simp only at j1 j2 j3 j4 j5 j6
 cbv
 refine ap (fun h=>?_) (fun h=>?_)
 ·have T8:j<m:=by simp [ht,ah] at h;omega
  clear h
  obtain ⟨x,hx⟩:∃x,l[j]?=some x:=⟨l[j]'(by omega),by simp⟩
  have pg:x∈l:=List.mem_of_getElem? hx
  have iw:=hf x pg
  have G0:cur[j]?=some (bT.cells x):=by
   have:(cur.drop j)[0]?=(es.drop j)[0]?:=by rw [j6]
   rw [List.getElem?_drop,List.getElem?_drop,Nat.add_zero,aG,List.getElem?_map,hx] at this
   exact this
  obtain ⟨px,hpx⟩:∃b,b=p x:=⟨_,rfl⟩
  rw [←hpx] at iw
  obtain ⟨cx,Eg⟩:∃cx,cx=bT.cells x:=⟨_,rfl⟩
  rw [←Eg] at G0
  have hstep:(l.take (j+1)).filter (fun x=>!p x)=(l.take j).filter (fun x=>!p x)++(if px then [] else [x]):=by
   rw [dP hx,List.filter_append];cases px<;>simp [←hpx]
  obtain ⟨nd,⟨v1,v2,v3,v4⟩,lb⟩:=x;obtain ⟨G2,mr⟩:∃lr:List (List D),lr=lb.map dj.cells:=⟨_,rfl⟩;simp only [bT.cells,←mr] at iw Eg
  cbv
  refine ⟨?_,Pb [.str nd,.int .u64 v1,.int .u64 v2,.int .u64 v3,.int .u64 v4,.sl G2] ?_ ?_ ?_⟩
  ·simp [ht,ah];omega
  ·simp [ht,ah,j3];omega
  ·simp [ht,ah,List.getD_eq_getElem?_getD,G0,Eg]
  cbv
  refine dz [] trv rfl rfl iw (cz ?_)
  cbv
  refine ap (fun hb=>?_) (fun hb=>?_)
  ·have hb':px=false:=by simpa [ht] using hb
   clear hb
   obtain ⟨nc,hnc⟩:∃nc,nc=cur.set i cx:=⟨_,rfl⟩
   have pi:(cur.getD i []).length=6:=j4 _ (by rw [List.getD_eq_getElem?_getD,List.getElem?_eq_getElem (by omega)];exact List.getElem_mem _)
   cbv
   refine ⟨?_,?_⟩
   ·simp [ht,ah];omega
   refine ⟨?_,?_⟩
   ·simp [ht,ah,j3];exact ⟨by omega,by simpa using pi.symm▸(Nat.le_refl _)⟩
   refine aJ ⟨n-1,(i+1,j+1,nc),⟨by omega,(hJ _ _).2 ⟨?_,?_,?_,?_,?_,?_⟩⟩,?_⟩
   ·show j+1+(n-1)=m;omega
   ·show i+1<j+1;omega
   ·show nc.length=m;rw [hnc,List.length_set];exact j3
   ·show ∀r∈nc,r.length=6
    intro r hr;rw [hnc] at hr
    rcases List.mem_or_eq_of_mem_set hr with hr|rfl
    ·exact j4 r hr
    rw [Eg];rfl
   ·show nc.take (i+1)=_
    rw [hnc,ku _ _ _ (by omega),j5,hstep,hb',Eg];simp [mr,bT.cells]
   ·show nc.drop (j+1)=es.drop (j+1)
    rw [hnc,mV _ _ _ _ (by omega),←List.drop_drop,j6,List.drop_drop]
   simp only [ht,ah,Int.ofNat_eq_natCast,aH (show i<9223372036854775807 by omega),aH (show j<9223372036854775807 by omega)]
   have ei:0+((i:Int)).toNat=i:=by simp
   have e:cur.set i (bt (cur.getD i []) 0 [.str nd,.int .u64 v1,.int .u64 v2,.int .u64 v3,.int .u64 v4,.sl G2])=nc:=by rw [hnc,kr _ _ (by rw [pi];rfl),Eg]
   simp only [ei,e];rfl
  have hb':px=true:=by simpa [ht] using hb
  clear hb
  cbv
  refine aJ ⟨n-1,(i,j+1,cur),⟨by omega,(hJ _ _).2 ⟨?_,?_,j3,j4,?_,?_⟩⟩,?_⟩
  ·show j+1+(n-1)=m;omega
  ·show i<j+1;omega
  ·show cur.take i=_
   rw [j5,hstep,hb'];simp
  ·show cur.drop (j+1)=es.drop (j+1)
   rw [←List.drop_drop,j6,List.drop_drop]
  simp only [ht,ah,Int.ofNat_eq_natCast,aH (show j<9223372036854775807 by omega)];rfl
 have T8:j=m:=by simp [ht,ah] at h;omega
 clear h
 obtain ⟨mi,xA⟩:∃mi,mi=m-i:=⟨_,rfl⟩
 obtain ⟨ci,pi⟩:∃ci,ci=c-i:=⟨_,rfl⟩
 obtain ⟨nc,hnc⟩:∃nc,nc=wrote cur i (List.replicate mi [.str [],.int .u64 0,.int .u64 0,.int .u64 0,.int .u64 0,.sl []]):=⟨_,rfl⟩
 have hnt:nc.take i=r:=by
  have hl':(cur.take i).length=i:=by simp;omega
  rw [hnc,wrote,List.append_assoc,List.take_left' hl',j5,hr,T8,hm,List.take_length]
 have XA:i≤nc.length:=by rw [hnc];simp [wrote];omega
 cbv
 refine bN (.vw 0 6 i mi ci true) [.row 6 cur] ?_ ?_ ?_ ?_
 ·simp [ht,ah,dN,bR];omega
 ·simp [ht,ah,be,aY,xA,pi]
 ·simp only [ht]
 cbv
 refine bN (.dX []) [.row 6 nc] ?_ rfl ?_ ?_
 ·simp [ht,eL]
  refine ⟨by omega,?_⟩
  intro h;rw [h] at j3;simp at j3;omega
 ·simp only [ht,hnc]
 cbv
 refine bN (.vw 0 6 0 i c true) [.row 6 nc] ?_ ?_ rfl ?_
 ·simp [ht,ah,dN,bR];omega
 ·simp [ht,ah,be,aY]
 cbv
 have hki:kk=i:=by rw [hkk,←hnt];simp;omega
 have Vp:rz=nc:=by
  rw [Ht,hki,←hnt,hnc,wrote]
  have hl':(cur.take i).length=i:=by simp;omega
  rw [List.append_assoc,List.take_left' hl',List.drop_of_length_le (by simp;omega),List.append_nil,xA]
 rw [Vp,hki]
 exact I3 trv rfl rfl
theorem JV (ht:TT t) (nd:aQ) (v1 v2 v3 v4:Int) {lb:List dj} {lr:List (List D)} (hlr:lr=lb.map dj.cells) (hlb:lb.length<1000000000) {x:List Term} {xr:List (List D)} (Et:xr=x.map Term.cells) (hx:x.length<1000000000) (EU:∀m∈x,m.mD.length<1000000000) {r:Bool} (hr:r=!ng x lb):
 FC 192 [.agg [ST nd,aD v1,aD v2,aD v3,aD v4,SL lr],.ep [.sl xr]] [] (.ret (BL r)) []:=by
 obtain ⟨H,hH⟩:∃H,H=ng x lb:=⟨_,rfl⟩
 rw [←hH] at hr
 refine bP ht (aV:=[]) Tryz.func192 rfl rfl (N:=9) rfl rfl (n:=0) rfl rfl ?_
 cbv
 have Vd:lr.length=lb.length:=by rw [hlr,lgM]
 have JT:xr.length=x.length:=by rw [Et,lgM]
 refine bq trv (Nc ht ‹_› ‹_› ‹_› ‹_› ‹_›) trv rfl rfl (fun r0 c7=>?_)
 simp only [ht] at c7
 cbv
 refine aA trv trv rfl rfl rfl ?_
 (simp [ht,hr,hH,c7];done)
def Int.cells (x:Int):List D:=[.int .u64 x]
def Int.bF (_:Th) (x:Int):List D:=[.int .u64 x]
theorem Eu (ht:TT t) (x:Int):FC 102 [aD x] [] (.ret (dn (t _ fun _=>false))) []:=by
 refine bP ht (aV:=[]) Tryz.func102 rfl rfl (N:=6) rfl rfl (n:=0) rfl rfl ?_
 cbv
 refine aA trv trv rfl rfl rfl ?_
 (simp [ht];done)
theorem Qn (ht:TT t) (x y:Int):FC 51 [aD x,aD y] [] (.ret (gE (t _ fun _=>iS x y))) []:=by
 refine bP ht (aV:=[]) Tryz.func51 rfl rfl (N:=20) rfl rfl (n:=0) rfl rfl ?_
 cbv
 refine bq trv (Eu ht _) trv rfl rfl (fun r0 c7=>?_)
 simp only [ht] at c7
 cbv
 refine bq trv (Eu ht _) trv rfl rfl (fun r1 cP=>?_)
 simp only [ht] at cP
 cbv
 refine ap (fun h2=>?_) (fun h2=>?_)
 ·cbv
  refine ap (fun h3=>?_) (fun h3=>?_)
  ·cbv
   refine aA trv trv rfl rfl rfl ?_
   (simp only [ht,iS];grind)
  cbv
  refine aA trv trv rfl rfl rfl ?_
  (simp only [ht,iS];grind)
 cbv
 refine ap (fun h4=>?_) (fun h4=>?_)
 ·cbv
  refine aA trv trv rfl rfl rfl ?_
  (simp only [ht,iS];grind)
 cbv
 refine ap (fun h5=>?_) (fun h5=>?_)
 ·simp [ht] at h5
  cbv
  refine aA trv trv rfl rfl rfl ?_
  (simp [iS, *];done)
 simp [ht] at h5
 cbv
 refine ap (fun h6=>?_) (fun h6=>?_)
 ·simp [ht] at h6
  cbv
  refine aA trv trv rfl rfl rfl ?_
  (simp [iS, *];done)
 simp [ht] at h6
 cbv
 refine aA trv trv rfl rfl rfl ?_
 (simp only [ht,iS];grind)
def cmpL:List Int→List Int→Int
 |x::r,y::s=>if iS x y≠0 then iS x y else cmpL r s
 |_,_=>0
theorem JW (ht:TT t) {l m:List Int} {es fs:List (List D)} (aG:es=l.map Int.cells) (hfs:fs=m.map Int.cells) (hlm:l.length=m.length) (hl:l.length<1000000000):
 FC 217 [SL es,SL fs] [] (.ret (gE (t _ fun _=>cmpL l m))) []:=by
 refine bP ht (aV:=[]) Tryz.func217 rfl rfl (N:=36) rfl rfl (n:=0) rfl rfl ?_
 cbv
 have az:es.length=l.length:=by rw [aG,lgM]
 have Ev:fs.length=m.length:=by rw [hfs,lgM]
 obtain ⟨J0,fH⟩:∃J0:Nat→Int→Prop,∀n i,J0 n i↔(∃k:Nat,i=k∧k+n=l.length∧l.length=m.length∧cmpL l m=cmpL (l.drop k) (m.drop k)):=⟨fun n v=>match v with|i=>(∃k:Nat,i=k∧k+n=l.length∧l.length=m.length∧cmpL l m=cmpL (l.drop k) (m.drop k)),fun _ _=>Iff.rfl⟩
 refine bM ⟨[0,1,9,10,11],[],[]⟩ (σ:=Int) (fun v=>[(11,.d (.int .i64 (t _ fun _=>v)))]) (fun v=>[]) J0 ?_
 cbv
 refine aJ ⟨l.length,_,(fH _ _).2 ?_,by simp only [ht];rfl,?_⟩
 ·exact ⟨0,rfl,by simp,by omega,by simp⟩
 rintro n i hj
 replace hj:=(fH _ _).1 hj
 obtain ⟨k,rfl,j1,j2,j4⟩:=hj
 cbv
 refine ap (fun h1=>?_) (fun h1=>?_)
 ·simp [ht,ah,az] at h1
  cbv
  refine kO ht aG (cT:=Int.bF t) (by (simp only [ht,ah];omega)) (by (simp only [ht,ah];omega)) (fun _=>rfl) (fun _=>rfl) (fun x2 nT=>?_)
  simp [ht,ah] at nT
  rw [jD nT] at j4
  cbv
  refine ap (fun h3=>?_) (fun h3=>?_)
  ·simp [ht,ah,Ev] at h3
   omega
  simp [ht,ah,Ev] at h3
  cbv
  refine kO ht hfs (cT:=Int.bF t) (by (simp only [ht,ah];omega)) (by (simp only [ht,ah];omega)) (fun _=>rfl) (fun _=>rfl) (fun x4 Rk=>?_)
  simp [ht,ah] at Rk
  rw [jD Rk] at j4
  cbv
  refine bq trv (Qn ht _ _) trv rfl rfl (fun r5 vf=>?_)
  simp only [ht] at vf
  cbv
  refine ap (fun h6=>?_) (fun h6=>?_)
  ·simp [ht] at h6
   cbv
   refine aA trv trv rfl rfl rfl ?_
   (simp only [ht];rw [j4,cmpL,←vf,if_pos ‹_›];done)
  simp [ht] at h6
  cbv
  refine cD _ (by simp only [ht];rfl) (n-1) ?_ ((fH _ _).2 ?_)
  ·omega
  simp only [ah]
  exact ⟨k+1,aH (by omega),by omega,by omega,by rw [j4,cmpL,←vf,if_neg (by omega)]⟩
 simp [ht,ah,az] at h1
 cbv
 refine ap (fun h7=>?_) (fun h7=>?_)
 ·simp [ht,ah,az,Ev] at h7
  omega
 simp [ht,ah,az,Ev] at h7
 cbv
 refine aA trv trv rfl rfl rfl ?_
 (simp [ht,j4,List.drop_eq_nil_of_le (show l.length≤k by omega),cmpL];done)
theorem Qo (a0 a1 a2 a3 b0 b1 b2 b3:Int):cmpL [a0,a1,a2,a3] [b0,b1,b2,b3]=qi ⟨a0,a1,a2,a3⟩ ⟨b0,b1,b2,b3⟩:=by
 simp only [cmpL,qi]
 by_cases h0:iS a0 b0=0<;>by_cases h1:iS a1 b1=0<;>by_cases h2:iS a2 b2=0<;>by_cases h3:iS a3 b3=0<;>simp [h0,h1,h2,h3]
theorem Nh (ht:TT t) (a0 a1 a2 a3 b0 b1 b2 b3:Int):FC 193 [V4 a0 a1 a2 a3,V4 b0 b1 b2 b3] [] (.ret (gE (t _ fun _=>qi ⟨a0,a1,a2,a3⟩ ⟨b0,b1,b2,b3⟩))) []:=by
 obtain ⟨o,ho⟩:∃o,o=qi ⟨a0,a1,a2,a3⟩ ⟨b0,b1,b2,b3⟩:=⟨_,rfl⟩
 rw [←ho]
 refine bP ht (aV:=[]) Tryz.func193 rfl rfl (N:=8) rfl rfl (n:=0) rfl rfl ?_
 cbv
 (apply K1 [] (.more 0 (.one 1 (.one 2 (.one 3 .done))) (.one 1 (.one 0 (.one 2 (.one 3 .done)))));kernel_rfl;kernel_rfl;kernel_rfl;kernel_rfl;(next=>cbv;repeat (first|(refine aK trv (JW ht (l:=[a0,a1,a2,a3]) (m:=[b0,b1,b2,b3]) rfl rfl rfl (by simp)) trv rfl rfl rfl (fun r0 c7=>?_);simp only [ht,Qo,←ho] at c7;subst r0;cbv)|refine And.intro ?_ ?_)))
 cbv
 refine aA trv trv rfl rfl rfl ?_
 (simp [ht];done)
theorem A2 (ht:TT t) {l:List bT} {es:List (List D)} (aG:es=l.map bT.cells) (hl:l.length<1000000) (hlb:∀s∈l,s.labels.length<1000000000) {x:List Term} {xr:List (List D)} (Et:xr=x.map Term.cells) (hx:x.length<1000000000) (EU:∀m∈x,m.mD.length<1000000000)
 {m c k:Nat} (hm:m=l.length) (hc:m≤c) {r:List (List D)} (hr:r=(fitting l x).map bT.cells) (hk:k=r.length) {rz:List (List D)} (Ht:rz=r++List.replicate (m-k) [.str [],.int .u64 0,.int .u64 0,.int .u64 0,.int .u64 0,.sl []]):
 FC 190 [.vw 0 6 0 m c true,.fn 192 [.ep [.sl xr]]] [.row 6 es] (.ret (.vw 0 6 0 k c true)) [.row 6 rz]:=
 JU ht xr aG hm hc 192 (fun s=>!ng x s.labels) (by omega) (fun s hs=>JV ht _ _ _ _ _ rfl (hlb s hs) Et hx EU rfl) (by rw [hr,fitting];simp) hk Ht
theorem SW {r z:List (List D)} {k:Nat} (hk:k=r.length):r=(r++z).take k:=by rw [hk,List.take_left]
theorem JX (ht:TT t) {l:List bT} {es:List (List D)} (aG:es=l.map bT.cells) (hl:l.length<1000000) (hlb:∀s∈l,s.labels.length<1000000000) {x:List Term} {xr:List (List D)} (Et:xr=x.map Term.cells) (hx:x.length<1000000000) (EU:∀m∈x,m.mD.length<1000000000)
 (h0:fitting l x=[]):FC 148 [SL es,SL xr] [] (.ret (SL [])) []:=by
 obtain ⟨m,hm⟩:∃m,m=l.length:=⟨_,rfl⟩
 have hel:m=es.length:=by rw [aG,lgM,hm]
 have hrows:∀r∈es,r.length=6:=by rw [aG];intro r hr;obtain ⟨y,_,rfl⟩:=List.mem_map.1 hr;rfl
 have hD:FC 190 [.ow 1 6 m,.fn 192 [.ptr 0 0]] [.var [SL xr],.row 6 es] (.ret (SL [])) [.dead,.dead]:=
  oS rfl rfl rfl<|dI [1] rfl rfl rfl rfl<|dU fun c hc _=>AZ rfl (by simp) (by simp) rfl (A2 ht aG hl hlb Et hx EU hm hc (r:=[]) (by rw [h0];rfl) (k:=0) rfl rfl)
 refine bP ht (aV:=[]) Tryz.func148 rfl rfl (N:=9) rfl rfl (n:=0) rfl rfl ?_
 cbv
 refine jB trv (x9 ht hrows (by omega) hel) trv rfl (.inr rfl) ?_
 cbv
 refine eB trv hD ?_
 cbv
 refine aA trv trv rfl rfl rfl ?_
 simp
theorem Ni (ht:TT t) {l:List bT} {es:List (List D)} (aG:es=l.map bT.cells) (hl:l.length<1000000) (hlb:∀s∈l,s.labels.length<1000000000) {x:List Term} {xr:List (List D)} (Et:xr=x.map Term.cells) (hx:x.length<1000000000) (EU:∀m∈x,m.mD.length<1000000000)
 {r:List (List D)} (hr:r=(fitting l x).map bT.cells) {k:Nat} (hk:k=r.length) (h0:0<k):FC 148 [SL es,SL xr] [] (.ret (.ow 0 6 k)) [.row 6 r]:=by
 obtain ⟨m,hm⟩:∃m,m=l.length:=⟨_,rfl⟩
 have hel:m=es.length:=by rw [aG,lgM,hm]
 have hrows:∀r∈es,r.length=6:=by rw [aG];intro r hr;obtain ⟨y,_,rfl⟩:=List.mem_map.1 hr;rfl
 obtain ⟨rz,Ht⟩:∃rz,rz=r++List.replicate (m-k) [.str [],.int .u64 0,.int .u64 0,.int .u64 0,.int .u64 0,.sl []]:=⟨_,rfl⟩
 have hD:FC 190 [.ow 1 6 m,.fn 192 [.ptr 0 0]] [.var [SL xr],.row 6 es] (.ret (.ow 1 6 k)) [.dead,.row 6 r]:=
  oS rfl rfl rfl<|dI [1] rfl rfl rfl rfl<|dU fun c hc _=>AY h0 rfl (by rw [Ht,hk];simp) (by rw [Ht];exact SW hk) rfl (A2 ht aG hl hlb Et hx EU hm hc hr hk Ht)
 refine bP ht (aV:=[]) Tryz.func148 rfl rfl (N:=9) rfl rfl (n:=0) rfl rfl ?_
 cbv
 refine jB trv (x9 ht hrows (by omega) hel) trv rfl (.inr rfl) ?_
 cbv
 refine eB trv hD ?_
 cbv
 exact BO trv rfl rfl rfl rfl rfl rfl
theorem Ly {x:bT} {v:bO} {B C:D2} {r:bO×Bool} {o:Int} (er:r=dV x.free v) (eo:o=qi r.1 B.left) (h:r.2=true→B.ok=true∧0≤o):
 (if (dV x.free v).2&&(!B.ok||decide (qi (dV x.free v).1 B.left<0)) then C else B)=B:=by
 rw [←er,←eo,if_neg]
 intro g
 simp only [Bool.and_eq_true,Bool.or_eq_true,Bool.not_eq_true',decide_eq_true_eq] at g
 obtain ⟨g1,g2⟩:=g
 obtain ⟨g3,g4⟩:=h g1
 rcases g2 with g2|g2
 ·rw [g3] at g2;cases g2
 omega
def XL (r:D2):AV:=.dX [bJ r.at_,V4 r.left.a r.left.b r.left.c r.left.d,BL r.ok]
theorem LA (ht:TT t) (d1 d2 d3 d4:Int) {l:List bT} {es:List (List D)} (aG:es=l.map bT.cells) (hl:l.length<1000000):
 FC 149 [SL es,V4 d1 d2 d3 d4] [] (.ret (XL (t _ fun _=>best l ⟨d1,d2,d3,d4⟩))) []:=by
 refine bP ht (aV:=[]) Tryz.func149 rfl rfl (N:=42) rfl rfl (n:=0) rfl rfl ?_
 cbv
 have az:es.length=l.length:=by rw [aG,lgM]
 obtain ⟨J0,fH⟩:∃J0:Nat→Int×Bool×Int×Int×Int×Int×Int→Prop,∀n A K i a b c d,J0 n (A,K,i,a,b,c,d)↔(∃(k:Nat) (B:D2),i=k∧k+n=l.length∧A=B.at_∧K=B.ok∧a=B.left.a∧b=B.left.b∧c=B.left.c∧d=B.left.d∧best l ⟨d1,d2,d3,d4⟩=mh ⟨d1,d2,d3,d4⟩ (l.drop k) k B):=⟨fun n v=>match v with|(A,K,i,a,b,c,d)=>(∃(k:Nat) (B:D2),i=k∧k+n=l.length∧A=B.at_∧K=B.ok∧a=B.left.a∧b=B.left.b∧c=B.left.c∧d=B.left.d∧best l ⟨d1,d2,d3,d4⟩=mh ⟨d1,d2,d3,d4⟩ (l.drop k) k B),fun _ _ _ _ _ _ _ _=>Iff.rfl⟩
 refine bM ⟨[0,3,4,5,6,11,12],[],[]⟩ (σ:=Int×Bool×Int×Int×Int×Int×Int) (fun v=>[(4,.d (.int .i64 (t _ fun _=>v.1))),(6,.d (.bool (t _ fun _=>v.2.1))),(12,.d (.int .i64 (t _ fun _=>v.2.2.1)))]) (fun v=>[(1,.var [.d (.int .u64 (t _ fun _=>v.2.2.2.1)),.d (.int .u64 (t _ fun _=>v.2.2.2.2.1)),.d (.int .u64 (t _ fun _=>v.2.2.2.2.2.1)),.d (.int .u64 (t _ fun _=>v.2.2.2.2.2.2))])]) J0 ?_
 cbv
 refine aJ ⟨l.length,(_,_,_,_,_,_,_),(fH _ _ _ _ _ _ _ _).2 ?_,by simp only [ht];rfl,?_⟩
 ·exact ⟨0,⟨0,bO.zero,false⟩,rfl,by simp,rfl,rfl,rfl,rfl,rfl,rfl,rfl⟩
 rintro n ⟨A,K,i,a,b,c,d⟩ hj
 replace hj:=(fH _ _ _ _ _ _ _ _).1 hj
 obtain ⟨k,⟨q1,⟨q2,q3,q4,q5⟩,q6⟩,rfl,j1,rfl,rfl,rfl,rfl,rfl,rfl,j4⟩:=hj
 cbv
 refine ap (fun h1=>?_) (fun h1=>?_)
 ·simp [ht,ah,az] at h1
  cbv
  refine xD [0,1] [0,1,7,8,9] [false,false,false,false,false,false,false,false,false,false,false,true,true] (by kernel_rfl) (by kernel_rfl) (by kernel_rfl) (by kernel_rfl) (by kernel_rfl) (by kernel_rfl) ?_
  cbv
  iterate 2 refine gI (by simp) ?_
  refine kO ht aG (cT:=bT.bF t) (by (simp only [ht,ah];omega)) (by (simp only [ht,ah];omega)) (fun _=>rfl) (fun _=>(by (simp only [ht,bT.bF];rfl))) (fun x2 nT=>?_)
  simp [ht,ah] at nT
  rw [jD nT,mh] at j4
  cbv
  iterate 3 refine gI (by simp) ?_
  refine .inl ?_
  refine eT (fun g3=>⟨trv,trv,SP ht _ _ _ _ _ _ _ _⟩) rfl rfl (fun r4 kw=>?_)
  simp only [ht] at kw
  cbv
  iterate 6 refine gI (by simp) ?_
  iterate 2 refine gI (by simp [ht]) ?_
  refine eT (fun g5=>⟨by simp [ht] at g5 ⊢;exact g5,trv,Nh ht _ _ _ _ _ _ _ _⟩) rfl rfl (fun r6 nu=>?_)
  simp only [ht] at nu
  cbv
  refine gI (by simp [ht]) ?_
  refine gI (by simp [ht,aj];intros;simp_all) ?_
  refine pI (by simp) ?_
  refine ap (fun h7=>?_) (fun h7=>?_)
  ·simp [ht] at h7
   cbv
   refine dK [false,false,false,true,true] (by kernel_rfl) (by kernel_rfl) ?_
   cbv
   iterate 3 refine gI (by simp) ?_
   refine cD (_,_,_,_,_,_,_) (by simp only [ht];rfl) (n-1) ?_ ((fH _ _ _ _ _ _ _ _).2 ?_)
   ·omega
   simp only [ah]
   first|exact ⟨k+1,⟨k,_,true⟩,aH (by omega),by omega,rfl,rfl,rfl,rfl,rfl,rfl,by rw [j4];congr 1;simp_all⟩|exact ⟨k+1,⟨q1,⟨a,b,c,d⟩,K⟩,aH (by ((try simp only [ah] at*);omega)),by ((try simp only [ah] at*);omega),rfl,rfl,rfl,rfl,rfl,rfl,by rw [j4,Ly (B:=⟨q1,⟨a,b,c,d⟩,K⟩) kw nu h7]⟩
  simp [ht] at h7
  cbv
  refine cD (_,_,_,_,_,_,_) (by simp only [ht];rfl) (n-1) ?_ ((fH _ _ _ _ _ _ _ _).2 ?_)
  ·omega
  simp only [ah]
  first|exact ⟨k+1,⟨k,_,true⟩,aH (by omega),by omega,rfl,rfl,rfl,rfl,rfl,rfl,by rw [j4];congr 1;simp_all⟩|exact ⟨k+1,⟨q1,⟨a,b,c,d⟩,K⟩,aH (by omega),by omega,rfl,rfl,rfl,rfl,rfl,rfl,by rw [j4,Ly (B:=⟨q1,⟨a,b,c,d⟩,K⟩) kw nu h7]⟩
 simp [ht,ah,az] at h1
 cbv
 refine F9 [0,2] [false,false,false,false,true,true] (by kernel_rfl) (by kernel_rfl) (by kernel_rfl) (by kernel_rfl) (by kernel_rfl) ?_
 cbv
 iterate 4 refine gI (by simp) ?_
 refine aA trv trv rfl rfl rfl ?_
 (rw [List.drop_eq_nil_of_le (by omega),mh] at j4;simp only [ht,j4];rfl)
theorem Hu {v:bO} {n:Nat} {l:List bT} {out:List aQ} (h:0<n):nN v n l out=if !(best l v).ok then ([],false) else
 nN v (n-1) (l.set (best l v).at_ {l.getD (best l v).at_ default with free:=(best l v).left}) (out++[(l.getD (best l v).at_ default).node]):=by
 obtain ⟨n',rfl⟩:∃n',n=n'+1:=⟨n-1,by omega⟩
 rfl
theorem Hv {v:bO}:∀(l:List bT) (k:Nat) (b:D2),(b.ok=true→b.at_<k)→(mh v l k b).ok=true→(mh v l k b).at_<k+l.length
 |[],k,b,h,g=>h g
 |s::r,k,b,h,g=>by
  rw [mh] at g ⊢
  have:=Hv r (k+1) _ (by
   intro g2
   split
   ·show k<k+1;omega
   rename_i hh;rw [if_neg hh] at g2;have:=h g2;omega) g
  simp only [List.length_cons];omega
theorem SX {v:bO} {l:List bT} (h:(best l v).ok=true):(best l v).at_<l.length:=by
 have:=Hv l 0 _ (by simp) h
 simpa [best] using this
theorem LB {l:List bT} {x:List Term} {v:bO} {c:Int} (h:8<c):fit l x v c=([],false):=by rw [fit,if_pos h]
theorem Ew {l L:List bT} {x:List Term} {v:bO} {c:Int} {m:Nat} (h:c≤8) (hm:(m:Int)=max c 0) (hL:L=fitting l x):fit l x v c=nN v m L []:=by
 rw [fit,if_neg (by omega),hL];congr 1;omega
theorem Qp {cur:List bT} {y:bT} {i:Nat} {u:List (List D)} (ju:u=cur.map bT.cells) (hy:cur[i]?=some y) (v:bO):
 u.set i (bt (u.getD i []) 1 [.int .u64 v.a,.int .u64 v.b,.int .u64 v.c,.int .u64 v.d])=(cur.set i {y with free:=v}).map bT.cells:=by
 rw [List.map_set,ju];congr 1
 simp [List.getD_eq_getElem?_getD,hy,bT.cells,bt]
def yB (t:Th) (r:List aQ×Bool):AV:=.dX [SL (t _ fun _=>r.1.map bE),BL r.2]
theorem SY (ht:TT t) (d1 d2 d3 d4 c:Int) {l:List bT} {es:List (List D)} (aG:es=l.map bT.cells) (hl:l.length<1000000) (hlb:∀s∈l,s.labels.length<1000000000) {x:List Term} {xr:List (List D)} (Et:xr=x.map Term.cells) (hx:x.length<1000000000) (EU:∀m∈x,m.mD.length<1000000000)
 (h0:fitting l x≠[]):FC 95 [SL es,SL xr,V4 d1 d2 d3 d4,bJ c] [] (.ret (yB t (t _ fun _=>fit l x ⟨d1,d2,d3,d4⟩ c))) []:=by
 obtain ⟨L,hL⟩:∃L,L=fitting l x:=⟨_,rfl⟩
 have Ib:L.length<1000000:=by rw [hL];exact Nat.lt_of_le_of_lt (List.length_filter_le _ _) hl
 obtain ⟨r,hr⟩:∃r,r=L.map bT.cells:=⟨_,rfl⟩
 obtain ⟨k,hk⟩:∃k,k=r.length:=⟨_,rfl⟩
 have hkL:k=L.length:=by rw [hk,hr,lgM]
 have hk0:0<k:=by rw [hkL,hL];exact List.length_pos_iff.2 h0
 obtain ⟨m,hm⟩:∃m:Nat,(m:Int)=max c 0:=⟨(max c 0).toNat,by omega⟩
 refine bP ht (aV:=[]) Tryz.func95 rfl rfl (N:=47) rfl rfl (n:=0) rfl rfl ?_
 cbv
 have az:es.length=l.length:=by rw [aG,lgM]
 have JT:xr.length=x.length:=by rw [Et,lgM]
 have Hw:r.length=L.length:=by rw [hr,lgM]
 refine ap (fun h0=>?_) (fun h0=>?_)
 ·simp [ht] at h0
  cbv
  refine aA trv trv rfl rfl rfl ?_
  (simp only [ht];rw [LB ‹_›];rfl)
 simp [ht] at h0
 cbv
 (refine jB trv (Ni ht aG hl hlb Et hx EU (hL▸hr) hk hk0) trv rfl (.inr rfl) ?_)
 cbv
 obtain ⟨J1,o8⟩:∃J1:Nat→List (List D)×Int×List (List D)→Prop,∀n o i u,J1 n (o,i,u)↔(∃(q:Nat) (cur:List bT) (out:List aQ),i=q∧q+n=m∧u=cur.map bT.cells∧o=out.map bE∧cur.length=k∧out.length=q∧nN ⟨d1,d2,d3,d4⟩ m L []=nN ⟨d1,d2,d3,d4⟩ n cur out):=⟨fun n v=>match v with|(o,i,u)=>(∃(q:Nat) (cur:List bT) (out:List aQ),i=q∧q+n=m∧u=cur.map bT.cells∧o=out.map bE∧cur.length=k∧out.length=q∧nN ⟨d1,d2,d3,d4⟩ m L []=nN ⟨d1,d2,d3,d4⟩ n cur out),fun _ _ _ _=>Iff.rfl⟩
 refine bM ⟨[0,6,10,20,21],[(10,1)],[]⟩ (σ:=List (List D)×Int×List (List D)) (fun v=>[(10,.ow 2 1 (t _ fun _=>(v.1).length)),(21,.d (.int .i64 (t _ fun _=>v.2.1)))]) (fun v=>[(2,.row 1 (t _ fun _=>v.1)),(0,.row 6 (t _ fun _=>v.2.2))]) J1 ?_
 cbv
 refine aJ ⟨m,([],_,_),(o8 _ _ _ _).2 ?_,by simp only [ht];rfl,?_⟩
 ·exact ⟨0,L,[],rfl,by simp,hr,rfl,hkL.symm,rfl,rfl⟩
 rintro n ⟨o,i,u⟩ hj
 replace hj:=(o8 _ _ _ _).1 hj
 obtain ⟨q,cur,out,rfl,j1,ju,jo,j2,j3,j4⟩:=hj
 have xW:u.length=cur.length:=by rw [ju,lgM]
 have XC:o.length=out.length:=by rw [jo,lgM]
 cbv
 refine ap (fun h2=>?_) (fun h2=>?_)
 ·simp [ht,ah] at h2
  cbv
  (refine bq trv (LA ht _ _ _ _ (l:=cur) (by simp only [ht];exact ju) (by omega)) (by simp only [ht];exact ⟨by rw [ju,lgM];exact j2.symm,trv⟩) rfl rfl (fun rb Ub=>?_);simp only [ht] at Ub;rw [Hu (show 0<n by ((try simp only [ah] at*);omega)),←Ub] at j4;have hlt:rb.ok=true→rb.at_<cur.length:=fun g=>by rw [Ub] at g ⊢;exact SX g)
  cbv
  refine ap (fun h3=>?_) (fun h3=>?_)
  ·simp [ht] at h3
   cbv
   refine aA trv trv rfl rfl rfl ?_
   (simp only [ht];rw [Ew ‹_› hm hL,j4,h3];rfl)
  simp [ht] at h3
  cbv
  refine ⟨?_,?_⟩
  ·(simp only [ht];have XM:rb.at_<cur.length:=hlt ‹_›;exact ⟨Int.natCast_nonneg _,by rw [←j2];exact Int.ofNat_lt.2 XM⟩)
  cbv
  (have ZR:=hlt ‹_›;obtain ⟨y,hy⟩:∃y,cur[rb.at_]?=some y:=⟨_,List.getElem?_eq_getElem ZR⟩;have hyd:cur.getD rb.at_ default=y:=(by simp [List.getD_eq_getElem?_getD,hy]);rw [hyd] at j4;refine Pb (bT.bF t y) (by simp only [ht];rw [ju,lgM];exact ZR) (by simp only [ht];rw [ju];simp [List.getD_eq_getElem?_getD,hy,bT.cells,bT.bF,ht]) ?_)
  cbv
  refine ⟨?_,?_⟩
  ·(simp only [ht];grind)
  refine ⟨?_,?_⟩
  ·(simp only [ht];have XM:rb.at_<cur.length:=hlt ‹_›;exact ⟨Int.natCast_nonneg _,by rw [←j2];exact Int.ofNat_lt.2 XM⟩)
  refine ⟨?_,?_⟩
  ·(simp only [ht];rw [ju,lgM];refine ⟨ZR,?_⟩;simp [List.getD_eq_getElem?_getD,hy,bT.cells];done)
  cbv
  refine cD (_,_,_) (by simp only [ht,←List.length_append];rfl) (n-1) ?_ ((o8 _ _ _ _).2 ?_)
  ·((try simp only [ah] at*);omega)
  simp only [ah]
  (exact ⟨q+1,cur.set rb.at_ {y with free:=rb.left},out++[y.node],aH (by ((try simp only [ah] at*);omega)),by ((try simp only [ah] at*);omega),Qp ju hy _,by simp [jo],by simp [j2],by simp [j3],by rw [j4,h3];rfl⟩)
 simp [ht,ah] at h2
 cbv
 refine aA trv (by simp [ht]) rfl rfl rfl ?_
 (simp only [ht];rw [Ew ‹_› hm hL,j4,show n=0 by ((try simp only [ah] at*);omega)];simp [nN,jo];done)
theorem SZ (ht:TT t) (d1 d2 d3 d4 c:Int) {l:List bT} {es:List (List D)} (aG:es=l.map bT.cells) (hl:l.length<1000000) (hlb:∀s∈l,s.labels.length<1000000000) {x:List Term} {xr:List (List D)} (Et:xr=x.map Term.cells) (hx:x.length<1000000000) (EU:∀m∈x,m.mD.length<1000000000)
 (h9:fitting l x=[]):FC 95 [SL es,SL xr,V4 d1 d2 d3 d4,bJ c] [] (.ret (yB t (t _ fun _=>fit l x ⟨d1,d2,d3,d4⟩ c))) []:=by
 obtain ⟨m,hm⟩:∃m:Nat,(m:Int)=max c 0:=⟨(max c 0).toNat,by omega⟩
 refine bP ht (aV:=[]) Tryz.func95 rfl rfl (N:=47) rfl rfl (n:=0) rfl rfl ?_
 cbv
 have az:es.length=l.length:=by rw [aG,lgM]
 have JT:xr.length=x.length:=by rw [Et,lgM]
 refine ap (fun h0=>?_) (fun h0=>?_)
 ·simp [ht] at h0
  cbv
  refine aA trv trv rfl rfl rfl ?_
  (simp only [ht];rw [LB ‹_›];rfl)
 simp [ht] at h0
 cbv
 (refine Gn trv (JX ht aG hl hlb Et hx EU h9) trv rfl rfl rfl ?_)
 cbv
 obtain ⟨J1,o8⟩:∃J1:Nat→List (List D)×Int→Prop,∀n o i,J1 n (o,i)↔(i=0∧n=m∧o=[]):=⟨fun n v=>match v with|(o,i)=>(i=0∧n=m∧o=[]),fun _ _ _=>Iff.rfl⟩
 refine bM ⟨[0,6,10,20,21],[(10,1)],[]⟩ (σ:=List (List D)×Int) (fun v=>[(10,.ow 1 1 (t _ fun _=>(v.1).length)),(21,.d (.int .i64 (t _ fun _=>v.2)))]) (fun v=>[(1,.row 1 (t _ fun _=>v.1))]) J1 ?_
 cbv
 refine aJ ⟨m,([],_),(o8 _ _ _).2 ?_,by simp only [ht];rfl,?_⟩
 ·exact ⟨rfl,rfl,rfl⟩
 rintro n ⟨o,i⟩ hj
 replace hj:=(o8 _ _ _).1 hj
 obtain ⟨rfl,j1,rfl⟩:=hj
 cbv
 refine ap (fun h2=>?_) (fun h2=>?_)
 ·simp [ht] at h2
  cbv
  (refine bq trv (LA ht _ _ _ _ (l:=[]) rfl (by simp)) (by simp) rfl rfl (fun rb Ub=>?_);simp only [ht] at Ub;replace Ub:rb=⟨0,bO.zero,false⟩:=Ub;subst Ub)
  cbv
  refine ap (fun h3=>?_) (fun h3=>?_)
  ·simp [ht] at h3
   cbv
   refine aA trv trv rfl rfl rfl ?_
   (simp only [ht];rw [Ew ‹_› hm h9.symm,Hu (show 0<m by ((try simp only [ah] at*);omega))];rfl)
  simp [ht] at h3
 simp [ht] at h2
 cbv
 refine aA trv (by simp [ht]) rfl rfl rfl ?_
 (simp only [ht];rw [Ew ‹_› hm h9.symm,show m=0 by ((try simp only [ah] at*);omega)];rfl)
theorem A3 (ht:TT t) (d1 d2 d3 d4 c:Int) {l:List bT} {es:List (List D)} (aG:es=l.map bT.cells) (hl:l.length<1000000) (hlb:∀s∈l,s.labels.length<1000000000) {x:List Term} {xr:List (List D)} (Et:xr=x.map Term.cells) (hx:x.length<1000000000) (EU:∀m∈x,m.mD.length<1000000000):
 FC 95 [SL es,SL xr,V4 d1 d2 d3 d4,bJ c] [] (.ret (yB t (t _ fun _=>fit l x ⟨d1,d2,d3,d4⟩ c))) []:=by
 by_cases h9:fitting l x=[]
 ·exact SZ ht d1 d2 d3 d4 c aG hl hlb Et hx EU h9
 exact SY ht d1 d2 d3 d4 c aG hl hlb Et hx EU h9
end Dem
end
