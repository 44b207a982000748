/- Parts of a proof, joined. -/
import Derived.Test.YtmlnckcbblcbbaaGreatDoorW09
set_option linter.all false
set_option maxRecDepth 100000
set_option maxHeartbeats 4000000
section
open Go
namespace Dem
theorem KY{l m:List bR}(hl:zS l)(hm:zS m)(h:∀q,q∈l↔q∈m):l=m:=by
 have hn:∀{r:List bR},zS r->r.Nodup:=λ{r} hr=>by rw[List.nodup_iff_pairwise_ne];exact hr.imp λ{a b} g e=>by subst e;rw[rK]at g;omega
 exact((List.perm_ext_iff_of_nodup (hn hl) (hn hm)).2 h).eq_of_pairwise (λa b _ _ h1 h2=>by rw[rK]at h1 h2;omega) hl hm
theorem O5{l:List Jb}(ha:wG l){i:Nat}{j:Jb}(hj:l[i]?=some j):l.findIdx? (λx=>decide (x.id=j.id))=some i/\l.getD i Jb.zero=j/\fy l j.id=(j,true):=by
 have h1:l.findIdx? (λx=>decide (x.id=j.id))=some i:=by
  cases h:l.findIdx? (λx=>decide (x.id=j.id))with
  |none=>rw[List.findIdx?_eq_none_iff]at h;have:=h j (vag hj);simp at this|some k=>obtain⟨y,a,b,_⟩:=wI h;rw[GQ ha a hj b]
 refine⟨h1,by rw[vam,hj];rfl,?_⟩;unfold fy;cases h:l.find? (λx=>decide (x.id=j.id))with
 |none=>rw[List.find?_eq_none]at h;have:=h j (vag hj);simp at this|some y=>have e:=List.find?_some h;simp only[vai]at e;simp only;rw[mK ha (List.mem_of_find?_eq_some h) (vag hj) e]
abbrev Jb.begun (j:Jb):Jb:={j with runs:=true,left:=j.x.dX}
abbrev Jb.halted (j:Jb):Jb:={j with runs:=false,left:=0}
theorem QO{s:cI}(h:s.ok){id:Int}{names:List az}(e:(dQ s id names).2=0):
 ∃(i:Nat) (j:Jb) (T:List aR),s.aJ[i]?=some j/\j.id=id/\j.runs=false/\(names.length:Int)=j.x.count/\gB s.tree T/\
  (dQ s id names).1=lI ⟨s.round,s.next,⟨s.bt.nodes,s.bt.places++names.map (λn=>⟨id,n,j.x.iI⟩)⟩,T,s.aJ.set i j.begun,s.queue.filter (λq=>!decide (q.id=id)),s.ev,s.au⟩ id 2:=by
 unfold dQ at e ⊢
 cases hf:s.aJ.findIdx? (λj=>decide (j.id=id))with
 |none=>rw[hf]at e;cases e
 |some i=>
  obtain⟨j,hj,hid,c⟩:=wI hf
  rw[hf]at e
  simp only at e ⊢
  rw[c]at e ⊢
  unfold kP at e ⊢
  by_cases h1:j.runs=true
  .rw[if_pos h1]at e;cases e
  rw[if_neg h1]at e ⊢
  by_cases h2:(names.length:Int)≠j.x.count
  .rw[if_pos h2]at e;cases e
  rw[if_neg h2]at e ⊢
  by_cases h3:(!(eC j.x).2)=true
  .rw[if_pos h3]at e;cases e
  rw[if_neg h3]at e ⊢
  by_cases h4:(jz s.tree j.x.path (eC j.x).1).2≠0
  .rw[if_pos h4]at e;exact absurd e h4
  rw[if_neg h4]at e ⊢
  simp only[Decidable.not_not]at h2 h4
  rcases Dq s.bt id names j.x.iI with⟨_,e2⟩|⟨e2,_⟩
  .rw[if_pos e2]at e;exact absurd e e2
  rw[if_neg (by rw[e2];simp)]
  refine⟨i,j,_,hj,hid,by simpa using h1,h2,(Ft h h4).2.1,?_⟩
  rw[nA h.tP,e2];rfl
theorem Ui{s:cI}(h:s.ok){i:Nat}{j:Jb}(hj:s.aJ[i]?=some j)(hr:j.runs=true)(kind:Int):
 ∃T Q,gB s.tree T/\m6 s j.id kind=(lI ⟨s.round,s.next,yB s.bt j.id,T,s.aJ.set i j.halted,Q,s.ev,s.au⟩ j.id kind,0):=by
 obtain⟨h1,h2,_⟩:=O5 h.ids hj;refine⟨_,(gk s.queue ⟨j.id,j.x.prio⟩).1,(qn h hj hr).2.2.1,?_⟩;unfold m6;rw[h1];simp only;rw[h2,if_neg (by simp[hr]),h.kS hj hr];simp[Fk]
theorem W5{s:cI}(h:s.ok){i:Nat}{j:Jb}(hj:s.aJ[i]?=some j)(kind:Int):
 (send s j.id kind).2=0/\(j.runs=false->send s j.id kind=(lI ⟨s.round,s.next,s.bt,s.tree,s.aJ.eraseIdx i,s.queue.filter (λq=>!decide (q.id=j.id)),s.ev,s.au⟩ j.id kind,0))/\
 (j.runs=true->∃T,gB s.tree T/\send s j.id kind=(lI ⟨s.round,s.next,yB s.bt j.id,T,s.aJ.eraseIdx i,s.queue,s.ev,s.au⟩ j.id kind,0)):=by
 obtain⟨h1,h2,_⟩:=O5 h.ids hj;unfold send;rw[h1];simp only;rw[h2];refine⟨hY,λhr=>?_,λhr=>?_⟩
 .rw[hr,if_neg (by simp),nA h.tP]
 refine⟨_,(qn h hj hr).2.2.1,?_⟩;rw[if_pos hr,h.kS hj hr]
theorem QR{s:cI}{x:Ask}(e:(dF s x).2.2≠0):(dF s x).1=s/\(dF s x).2.1=0/\(c8 x=0∨(dF s x).2.2=c8 x):=by
 unfold dF at e ⊢;by_cases h1:c8 x≠0
 .rw[if_pos h1];exact⟨rfl,rfl,.inr rfl⟩
 rw[if_neg h1]at e ⊢;simp only[Decidable.not_not]at h1;by_cases h2:(!iO s.tree x.path)=true
 .rw[if_pos h2];exact⟨rfl,rfl,.inl h1⟩
 rw[if_neg h2]at e ⊢;by_cases h3:32<=s.aJ.length∨s.next=18446744073709551615
 .rw[if_pos h3];exact⟨rfl,rfl,.inl h1⟩
 rw[if_neg h3]at e ⊢;by_cases h4:(gk s.queue ⟨s.next,x.prio⟩).2≠0
 .rw[if_pos h4];exact⟨rfl,rfl,.inl h1⟩
 rw[if_neg h4]at e;exact absurd rfl e
structure cI.cU (A:Ask->Prop) (s:cI):Prop where
 names:∀n∈s.bt.nodes,n.sm
 paths:∀e∈s.tree,e.path.length<1000
 xs:∀j∈s.aJ,A j.x
structure mY(s t:cI):Prop where
 nodes:t.bt.nodes=s.bt.nodes
 paths:∀e∈t.tree,∃f∈s.tree,e.path=f.path
 xs:∀j∈t.aJ,∃k∈s.aJ,j.x=k.x
theorem mY.refl (s:cI):mY s s:=⟨rfl,λe h=>⟨e,h,rfl⟩,λj h=>⟨j,h,rfl⟩⟩
theorem mY.cU {A:Ask->Prop} {s t:cI} (h:mY s t) (l:s.cU A):t.cU A:=by
 refine⟨by rw[h.nodes];exact l.names,λe he=>?_,λj hj=>?_⟩
 .obtain⟨f,hf,e1⟩:=h.paths e he;rw[e1];exact l.paths f hf
 obtain⟨k,hk,e1⟩:=h.xs j hj;rw[e1];exact l.xs k hk
theorem Uj{l:List Jb}{k:Nat}{j y:Jb}(hk:l[k]?=some y)(hx:j.x=y.x):∀z∈l.set k j,∃w∈l,z.x=w.x:=by
 intro z hz;rcases List.mem_or_eq_of_mem_set hz with h|rfl
 .exact⟨z,h,rfl⟩
 exact⟨y,vag hk,hx⟩
theorem DP{t u:List aR}(h:gB t u):∀e∈u,∃f∈t,e.path=f.path:=λe he=>by obtain⟨f,hf,h1,_⟩:=h.back he;exact⟨f,hf,h1⟩
theorem QS{s:cI}{id:Int}{names:List az}(e:(dQ s id names).2≠0):(dQ s id names).1=s:=by
 unfold dQ at e ⊢;split
 .rfl
 rename_i k hk;rw[hk]at e;simp only at e;unfold kP at e ⊢;by_cases h1:(s.aJ.getD k Jb.zero).runs=true
 .rw[if_pos h1]
 rw[if_neg h1]at e ⊢;by_cases h2:(names.length:Int)≠(s.aJ.getD k Jb.zero).x.count
 .rw[if_pos h2]
 rw[if_neg h2]at e ⊢;by_cases h3:(!(eC (s.aJ.getD k Jb.zero).x).2)=true
 .rw[if_pos h3]
 rw[if_neg h3]at e ⊢;split
 .rfl
 rename_i h4;rw[if_neg h4]at e;split
 .rfl
 rename_i h5;rw[if_neg h5]at e;exact absurd rfl e
theorem oX{s:cI}(h:s.ok)(id:Int)(names:List az):mY s (dQ s id names).1:=by
 by_cases e:(dQ s id names).2=0
 .obtain⟨i,j,T,h1,h2,h3,h4,h5,h6⟩:=QO h e;rw[h6];exact⟨rfl,DP h5,Uj h1 rfl⟩
 rw[QS e];exact mY.refl s
theorem DQ{s:cI}(h:s.ok)(id kind:Int):mY s (m6 s id kind).1:=by
 cases hf:s.aJ.findIdx? (λj=>decide (j.id=id))with
 |none=>unfold m6;rw[hf];exact mY.refl s|some i=>
  obtain⟨j,hj,rfl,c⟩:=wI hf;by_cases hr:j.runs=true
  .obtain⟨T,Q,h1,h2⟩:=Ui h hj hr kind;rw[h2];exact⟨rfl,DP h1,Uj hj rfl⟩
  unfold m6;rw[hf];simp only;rw[c,if_pos (by simpa using hr)];exact mY.refl s
theorem FK{s:cI}(h:s.ok)(id kind:Int):mY s (send s id kind).1:=by
 cases hf:s.aJ.findIdx? (λj=>decide (j.id=id))with
 |none=>unfold send;rw[hf];exact mY.refl s|some i=>
  obtain⟨j,hj,rfl,c⟩:=wI hf;obtain⟨h1,h2,h3⟩:=W5 h hj kind;have hx:∀z∈s.aJ.eraseIdx i,∃w∈s.aJ,z.x=w.x:=λz hz=>⟨z,List.mem_of_mem_eraseIdx hz,rfl⟩
  by_cases hr:j.runs=true
  .obtain⟨T,h4,h5⟩:=h3 hr;rw[h5];exact⟨rfl,DP h4,hx⟩
  rw[h2 (by simpa using hr)];exact⟨rfl,λe he=>⟨e,he,rfl⟩,hx⟩
theorem Nt{A:Ask->Prop}{s:cI}(l:s.cU A){x:Ask}(hx:A x):(dF s x).1.cU A:=by
 by_cases e:(dF s x).2.2=0
 .unfold dF at e ⊢;split
  .exact l
  split
  .exact l
  split
  .exact l
  split
  .exact l
  refine⟨l.names,l.paths,λj hj=>?_⟩;rcases List.mem_append.1 hj with h|h
  .exact l.xs j h
  rw[List.mem_singleton.1 h];exact hx
 rw[(QR e).1];exact l
theorem KZ{A:Ask->Prop}(hA:∀x,A (Bu x)){s:cI}(h:s.ok)(l:s.cU A)(x:iQ):(jS x s).cU A:=by
 unfold jS;split
 .exact Nt l (hA x)
 split
 .split
  .exact(oX h _ _).cU l
  exact l
 split
 .exact(DQ h _ _).cU l
 split
 .exact(FK h _ _).cU l
 exact(oX h _ _).cU l
structure Bc(x:Ask):Prop where
 path:x.path.length<=4
 iI:x.iI.w
 cj:x.cj.length<=1
 key:∀m∈x.cj,m.key.length<=4/\m.fk.length<=1/\∀v∈m.fk,v.length<=1
theorem oz(x:iQ):Bc (Bu x):=by
 refine⟨?_,S4 x,?_,?_⟩
 .unfold Bu;simp only;have:∀k<4,(Du.getD k []).length<=4:=by decide
  exact this _ (Nat.mod_lt _ (by decide))
 .unfold Bu;simp only;split<;>simp
 unfold Bu;simp only;split
 .intro m hm;rw[List.mem_singleton.1 hm];exact⟨by show V0.length<=4;decide,by simp,by simp⟩
 intro m hm;cases hm
theorem Nu{p:cR}(h:∀n∈p.nodes,n.sm){y:Node}(hy:y.sm):∀n∈(sD p y).1.nodes,n.sm:=by
 rcases rH p y with⟨e,_⟩|⟨_,_,_,e⟩
 .rw[e];exact h
 rw[e];intro n hn;rcases List.mem_append.1 hn with h1|h1
 .exact h n (van h1)
 rcases List.mem_cons.1 h1 with rfl|h1
 .exact hy
 exact h n (List.mem_of_mem_drop h1)
theorem K0(i:Nat):(⟨pH.getD i [],⟨(4+2*i:Nat),9,9,9⟩,Bv i,false⟩:Node).sm:=by
 have h1:∀i,(pH.getD i []).length<=2
  |0=>by decide|1=>by decide|2=>by decide|i+3=>by simp[pH]
 have h2:∀i,(Bv i).length<=1/\∀q∈Bv i,q.sm:=by
  intro i;unfold Bv;split
  .refine⟨by simp,λq hq=>?_⟩;rw[List.mem_singleton.1 hq];have h3:∀i,(([[97],[98]]:List az).getD i []).length<=1
    |0=>by decide|1=>by decide|i+2=>by simp
   have:=h3 i;exact⟨by show V0.length<_;decide,by simp only;omega⟩
  exact⟨by simp,λq hq=>by cases hq⟩
 exact⟨by have:=h1 i;simp only;omega,by have:=(h2 i).1;simp only;omega,(h2 i).2⟩
theorem wQ(n:Nat):∀i,∀x∈(fA n i).nodes,x.sm
 |0=>λx hx=>by cases hx
 |i+1=>by
  unfold fA;split
  .exact Nu (wQ n i) (K0 i)
  exact wQ n i
theorem Bd(A:Ask->Prop)(n:Nat):(dY n).cU A:=by refine⟨wQ n 3,λe he=>?_,λj hj=>by cases hj⟩;unfold dY at he;rw[GU _ (Nat.mod_lt _ (by decide))]at he;simp only[qo,vax,List.not_mem_nil,or_false]at he;rcases he with rfl|rfl|rfl|rfl<;>simp
theorem Nv(n:Nat)(l:List iQ)(k:Nat):(dh n l k).cU Bc:=by
 have:(dh n l k).ok/\(dh n l k).cU Bc:=by unfold dh;exact uR (P:=λs=>cI.ok s/\s.cU Bc) (λa b h=>⟨h.1.done b,KZ oz h.1 h.2 b⟩) _ _ ⟨wJ n,Bd _ n⟩
 exact this.2
theorem W6(id:Int)(x:Place)(l:List Place):vK id (x::l)=(if x.bL=id then 1 else 0)+vK id l:=by unfold vK;rw[List.filter_cons];split<;>simp_all<;>omega
theorem ZV{js:List Jb}{f g:Jb->Nat}(h:∀j∈js,f j<=g j):(js.map f).sum<=(js.map g).sum:=by
 induction js with
 |nil=>simp|cons a l ih=>
  simp only[List.map_cons,List.sum_cons];have:=h a (List.mem_cons_self ..)
  have:=ih λj hj=>h j (List.mem_cons_of_mem _ hj);omega
theorem Uk{js:List Jb}(f g:Jb->Nat):(js.map λj=>f j+g j).sum=(js.map f).sum+(js.map g).sum:=by
 induction js with
 |nil=>simp|cons a l ih=>simp only[List.map_cons,List.sum_cons,ih];omega
theorem W7{js:List Jb}{id:Int}{j:Jb}(hj:j∈js)(e:j.id=id):1<=(js.map λj=>if id=j.id then 1 else 0).sum:=by
 induction js with
 |nil=>cases hj
 |cons a l ih=>
  simp only[List.map_cons,List.sum_cons];rcases List.mem_cons.1 hj with rfl|hj
  .rw[if_pos e.symm];omega
  have:=ih hj;omega
theorem DR{js:List Jb}:∀{l:List Place},(∀x∈l,∃j∈js,j.id=x.bL)->l.length<=(js.map λj=>vK j.id l).sum
 |[],_=>by simp|x::l,h=>by
  have ih:=DR (js:=js) (l:=l) λy hy=>h y (List.mem_cons_of_mem _ hy);obtain⟨j,hj,e⟩:=h x (List.mem_cons_self ..);have h1:=W7 hj e
  have:(λj:Jb=>vK j.id (x::l))=λj=>(if x.bL=j.id then 1 else 0)+vK j.id l:=by funext j;rw[W6]
  rw[this,Uk];simp only[List.length_cons];omega
theorem cI.ok.DS {s:cI} (h:s.ok):s.bt.places.length<=256:=by
 have h1:=DR (js:=s.aJ) (l:=s.bt.places) λx hx=>by obtain⟨j,hj,_,e,_⟩:=h.places x hx;exact⟨j,hj,e⟩
 have h2:∀j∈s.aJ,vK j.id s.bt.places<=8:=by
  intro j hj;cases hr:j.runs with
  |true=>
   have e1:=h.count j hj hr;have e2:=fV.1 (h.yJ j hj).1
   omega
  |false=>
   have e1:=h.OF hj hr;have:vK j.id s.bt.places=0:=by unfold vK;rw[List.length_eq_zero_iff,List.filter_eq_nil_iff];intro x hx;simpa using e1 x hx
   omega
 have h3:=ZV (f:=λj=>vK j.id s.bt.places) (g:=λ_=>8) h2;have h4:(s.aJ.map λ_=>8).sum=8*s.aJ.length:=by
  generalize s.aJ=l;induction l with
  |nil=>rfl|cons a l ih=>simp only[List.map_cons,List.sum_cons,List.length_cons,ih];omega
 have:=h.most;omega
end Dem
end
section
open Go Dem Go.Proofs
namespace Dem
variable {t:Th}
theorem QT(ht:TT t)(q:az){l:List (bT)}{es:List (List D)}(aD:es=l.map bT.cells)(f:Nat)(p:bT->Bool)(hl:l.length<9223372036854775807)
 (hf:∀x∈l,FC f [.agg [ST x.key,ST x.value],.ptr 0 0] [.var [ST q]] (.ret (BL (p x))) [.var [ST q]]) {r:Int} (hr:r=idxOf p l):FC 230 [SL es,.fn f [.ptr 0 0]] [.var [ST q]] (.ret (bf r)) [.var [ST q]]:=by
 have hel:es.length=l.length:=by rw[aD,lgM]
 refine kJ ht (aK:=[.var [ST q]]) Tryz.func230 rfl rfl (N:=19) rfl rfl (n:=1) rfl rfl ?_;cbv;refine bw ⟨[0,1,7,8],[],[]⟩ (σ:=Nat) (λk=>[(8,bf (t _ λ_=>(k:Int)))]) (λ_=>[]) (wL p l) ?_;cbv;refine aC ⟨l.length,0,.nil,by simp only[ht];rfl,λn k hj=>?_⟩;cbv;apply aj<;>intro h
 .simp only[ht,aa,vai]at h;have hk:k<es.length:=by omega
  obtain⟨x,hx,pM,px,hpx⟩:=hj.get (by omega);have iS:=hf x pM
  rw[<-hpx]at iS;obtain⟨k',v'⟩:=x;cbv;refine jG [.str k',.str v'] ?_ ?_ ?_
  .simp only[ht,aa];exact sE aD hk λ_=>rfl
  .simp[ht,aa,aD,hx]
  cbv;refine dO hY iS ?_;cbv;apply aj<;>intro hb
  .cbv;refine ak ?_;simp only[ht,aa,hr,hj.hit hx (hpx▸hb)]
  cbv;refine aC ⟨n-1,k+1,⟨hj.lt hx,hj.next hx (hpx▸hb)⟩,?_⟩;simp only[ht,aa,aG (show k<9223372036854775807 by omega)];rfl
 simp only[ht,aa,vap]at h;have hk:l.length<=k:=by omega
 clear h;cbv;refine ak ?_;rw[hr,hj.none hk]
theorem Ul(ht:TT t)(q k v:az):FC 231 [.agg [ST k,ST v],.ptr 0 0] [.var [ST q]] (.ret (BL (decide (k=q)))) [.var [ST q]]:=by refine kJ ht (aK:=[.var [ST q]]) Tryz.func231 rfl rfl (N:=8) rfl rfl (n:=1) rfl rfl ?_;cbv;refine ak ?_;simp[ht]
def ESB(r:az×Bool):AV:=.c5 [ST r.1,BL r.2]
theorem K1(ht:TT t)(q:az){l:List bT}{es:List (List D)}(aD:es=l.map bT.cells)(hl:l.length<1000000000):
 FC 220 [SL es,ST q] [] (.ret (ESB (t _ λ_=>JI l q))) []:=by
 obtain⟨r9,dR⟩:∃r,r=idxOf (λx:bT=>decide (x.key=q)) l:=⟨_,rfl⟩;refine cC ht Tryz.func220 (N:=17) ?_;cbv;have ay:es.length=l.length:=by rw[aD,lgM]
 (refine aW [0] hY rfl rfl (QT ht q aD 231 (λx=>decide (x.key=q)) (by omega) (λx _=>Ul ht q _ _) dR) (aH ?_);have ec:=dw dR;clear dR;rcases ec with⟨e1,e2,e3⟩|⟨i,x,hi,hil,e1,e2,e3,e4⟩)
 .cbv;apply aj<;>intro h0
  .simp[ht]at h0;cbv;refine ak ?_;(simp[ht,JI,e3];done)
  simp[ht]at h0;omega
 cbv;apply aj<;>intro h1
 .simp[ht]at h1;(simp only[aa]at*;omega)
 simp[ht]at h1;cbv;refine El ht aD (cT:=bT.aS t) e1 ‹_› (λ_=>rfl) (λ_=>rfl) ?_;cbv;refine ak ?_;(simp[ht,JI,e4];done)
theorem QU(ht:TT t)(a:az){l:List az}{es:List (List D)}(aD:es=l.map bp)(hl:l.length<1000000000):
 FC 263 [SL es,ST a] [] (.ret (ol (t _ λ_=>Ko a l))) []:=by
 refine cC ht Tryz.func263 (N:=19) ?_;cbv;have ay:es.length=l.length:=by rw[aD,lgM]
 obtain⟨J0,dZ⟩:∃J0:Nat->Int->Prop,∀n i,J0 n i↔(∃k:Nat,i=k/\k+n=l.length/\∀i<k,∀y,l[i]?=some y->a≠y):=⟨λn v=>match v with|i=>(∃k:Nat,i=k/\k+n=l.length/\∀i<k,∀y,l[i]?=some y->a≠y),λ_ _=>Iff.rfl⟩;refine bw ⟨[0,1,7,8],[],[]⟩ (σ:=Int) (λv=>[(8,.d (.int .i64 (t _ λ_=>v)))]) (λv=>[]) J0 ?_;cbv;refine aC ⟨l.length,_,(dZ _ _).2 ?_,by simp only[ht];rfl,?_⟩
 .exact⟨0,rfl,by simp,λi hi=>by omega⟩
 rintro n i hj;replace hj:=(dZ _ _).1 hj;obtain⟨k,rfl,j1,j4⟩:=hj;cbv;apply aj<;>intro h1
 .simp[ht,aa,ay]at h1;cbv;refine eT ht aD (cT:=fM t) (by(simp only[ht,aa];omega)) (by(simp only[ht,aa];omega)) (λ_=>rfl) (λ_=>rfl) (λx2 jX=>?_);simp[ht,aa]at jX;cbv;apply aj<;>intro h3
  .simp[ht]at h3;cbv;refine ak ?_;(simp only[ht];rw[G8 ‹_› ‹_› j4];done)
  simp[ht]at h3;cbv;refine bA _ (by simp only[ht];rfl) (n-1) ?_ ((dZ _ _).2 ?_)
  .omega
  simp only[aa];exact⟨k+1,aG (by omega),by omega,z6 j4 ‹_› ‹_›⟩
 simp[ht,aa,ay]at h1;cbv;refine ak ?_;(simp only[ht];rw[G9 (by omega) j4];done)
theorem QV(ht:TT t)(a:az){l:List az}{es:List (List D)}(aD:es=l.map bp)(hl:l.length<1000000000):
 FC 262 [SL es,ST a] [] (.ret (cA (t _ λ_=>l.contains a))) []:=by
 refine cC ht Tryz.func262 (N:=9) ?_;cbv;have ay:es.length=l.length:=by rw[aD,lgM]
 refine ar (QU ht _ ‹_› ‹_›) hY (λr0 bM=>?_);simp only[ht]at bM;cbv;refine ak ?_;(simp[ht,bM,DE];done)
theorem K2(ht:TT t)(a:az){l:List az}{es:List (List D)}(aD:es=l.map bp)(hl:l.length<1000000000):
 FC 261 [SL es,ST a] [] (.ret (cA (t _ λ_=>l.contains a))) []:=by
 refine cC ht Tryz.func261 (N:=8) ?_;cbv;have ay:es.length=l.length:=by rw[aD,lgM]
 refine ar (QV ht _ ‹_› ‹_›) hY (λr0 bM=>?_);simp only[ht]at bM;cbv;refine ak ?_;(simp[*];done)
theorem K3(ht:TT t)(a:az):FC 260 [.agg [],ST a] [] (.ret (BL true)) []:=by refine cC ht Tryz.func260 (N:=5) ?_;cbv;refine ak ?_;simp
theorem W8(ht:TT t)(k:az)(n:Bool):FC 221 [.agg [ST k,BL n,SL []]] [] (.ret (.sG 311 (.agg []))) []:=by refine cC ht Tryz.func221 (N:=12) ?_;cbv;refine oe (by simp[ht]) ?_;cbv;refine ak ?_;simp
theorem W9(ht:TT t)(k:az)(n:Bool){vr:List (List D)}(hv:vr.length≠0):FC 221 [.agg [ST k,BL n,SL vr]] [] (.ret (.sG 312 (SL vr))) []:=by refine cC ht Tryz.func221 (N:=12) ?_;cbv;refine p9 (by simp only[ht,aa,vap];omega) ?_;cbv;refine ak ?_;simp
theorem Nw(ht:TT t)(k:az)(n:Bool){vs:List az}{vr:List (List D)}(vA:vr=vs.map bp)(hv:vs.length<1000000000){l:List bT}{ls:List (List D)}(hls:ls=l.map bT.cells)(hl:l.length<1000000000)(h0:vr=[]):
 FC 202 [.agg [ST k,BL n,SL vr],SL ls] [] (.ret (cA (t _ λ_=>mS ⟨k,n,vs⟩ l))) []:=by
 have hlen:vr.length=vs.length:=by rw[vA,lgM]
 obtain⟨H,hH⟩:∃H,H=mS ⟨k,n,vs⟩ l:=⟨_,rfl⟩;rw[<-hH];simp only[mS]at hH;subst h0;have hv0:vs.length=0:=by simpa using hlen.symm
 rw[if_pos (show vs.length=0 from hv0)]at hH;clear vA hlen;refine cC ht Tryz.func202 (N:=24) ?_;cbv;have Nx:ls.length=l.length:=by rw[hls,lgM]
 refine ar (K1 ht _ ‹_› ‹_›) hY (λr0 bM=>?_);simp only[ht]at bM;cbv;refine bE [false,false,false,false,false,false,false,false,false,true,true] ?_;cbv;iterate 3 refine gI (by simp) ?_
 (refine og (λg=>⟨by simpa[ht]using g,hY,W8 ht k n⟩) rfl rfl rfl ?_);cbv;refine gI (by simp) ?_;(refine XJ (Jq (λg=>⟨by simpa[ht]using g,hY,K3 ht _⟩) rfl rfl ?_));cbv;refine gI (by simp[ah]) ?_;iterate 2 refine gI (by simp) ?_
 refine ak ?_;(simp only[ht];grind)
theorem Ny(ht:TT t)(k:az)(n:Bool){vs:List az}{vr:List (List D)}(vA:vr=vs.map bp)(hv:vs.length<1000000000){l:List bT}{ls:List (List D)}(hls:ls=l.map bT.cells)(hl:l.length<1000000000)(h0:vr.length≠0):
 FC 202 [.agg [ST k,BL n,SL vr],SL ls] [] (.ret (cA (t _ λ_=>mS ⟨k,n,vs⟩ l))) []:=by
 have hlen:vr.length=vs.length:=by rw[vA,lgM]
 obtain⟨H,hH⟩:∃H,H=mS ⟨k,n,vs⟩ l:=⟨_,rfl⟩;rw[<-hH];simp only[mS]at hH;rw[if_neg (show¬vs.length=0 by omega)]at hH;refine cC ht Tryz.func202 (N:=24) ?_;cbv;have lR:vr.length=vs.length:=by rw[vA,lgM]
 have Nx:ls.length=l.length:=by rw[hls,lgM]
 refine ar (K1 ht _ ‹_› ‹_›) hY (λr0 bM=>?_);simp only[ht]at bM;cbv;refine bE [false,false,false,false,false,false,false,false,false,true,true] ?_;cbv;iterate 3 refine gI (by simp) ?_
 (refine og (λg=>⟨by simpa[ht]using g,hY,W9 ht k n (by omega)⟩) rfl rfl rfl ?_);cbv;refine gI (by simp) ?_;(refine XJ (aT (λg=>⟨by simpa[ht]using g,hY,K2 ht _ vA hv⟩) rfl rfl (λr1 ej=>?_));simp only[ht]at ej);cbv;refine gI (by simp[ah]) ?_;iterate 2 refine gI (by simp) ?_
 refine ak ?_;(simp only[ht];grind)
theorem QW(ht:TT t)(k:az)(n:Bool){vs:List az}{vr:List (List D)}(vA:vr=vs.map bp)(hv:vs.length<1000000000){l:List bT}{ls:List (List D)}(hls:ls=l.map bT.cells)(hl:l.length<1000000000):
 FC 202 [.agg [ST k,BL n,SL vr],SL ls] [] (.ret (cA (t _ λ_=>mS ⟨k,n,vs⟩ l))) []:=by
 by_cases h0:vr=[]
 .exact Nw ht k n vA hv hls hl h0
 exact Ny ht k n vA hv hls hl (by intro h;exact h0 (List.length_eq_zero_iff.1 h))
theorem Nz(ht:TT t)(ls:List (List D)){l:List (Term)}{es:List (List D)}(aD:es=l.map Term.cells)(f:Nat)(p:Term->Bool)(hl:l.length<9223372036854775807)
 (hf:∀x∈l,FC f [.agg [ST x.key,BL x.no,SL (x.fk.map bp)],.ptr 0 0] [.var [SL ls]] (.ret (BL (p x))) [.var [SL ls]]) {r:Int} (hr:r=idxOf p l):FC 189 [SL es,.fn f [.ptr 0 0]] [.var [SL ls]] (.ret (bf r)) [.var [SL ls]]:=by
 have hel:es.length=l.length:=by rw[aD,lgM]
 refine kJ ht (aK:=[.var [SL ls]]) Tryz.func189 rfl rfl (N:=19) rfl rfl (n:=1) rfl rfl ?_;cbv;refine bw ⟨[0,1,7,8],[],[]⟩ (σ:=Nat) (λk=>[(8,bf (t _ λ_=>(k:Int)))]) (λ_=>[]) (wL p l) ?_;cbv;refine aC ⟨l.length,0,.nil,by simp only[ht];rfl,λn k hj=>?_⟩;cbv;apply aj<;>intro h
 .simp only[ht,aa,vai]at h;have hk:k<es.length:=by omega
  obtain⟨x,hx,pM,px,hpx⟩:=hj.get (by omega);have iS:=hf x pM
  rw[<-hpx]at iS;obtain⟨a,b,c⟩:=x;obtain⟨Lr,rN⟩:∃lr:List (List D),lr=c.map bp:=⟨_,rfl⟩;simp only[<-rN]at iS;cbv;refine jG [.str a,.bool b,.sl Lr] ?_ ?_ ?_
  .simp only[ht,aa];exact sE aD hk λ_=>rfl
  .simp[ht,aa,aD,hx,rN,Term.cells]
  cbv;refine dO hY iS ?_;cbv;apply aj<;>intro hb
  .cbv;refine ak ?_;simp only[ht,aa,hr,hj.hit hx (hpx▸hb)]
  cbv;refine aC ⟨n-1,k+1,⟨hj.lt hx,hj.next hx (hpx▸hb)⟩,?_⟩;simp only[ht,aa,aG (show k<9223372036854775807 by omega)];rfl
 simp only[ht,aa,vap]at h;have hk:l.length<=k:=by omega
 clear h;cbv;refine ak ?_;rw[hr,hj.none hk]
theorem NA(ht:TT t)(ls:List (List D)){l:List (Term)}{es:List (List D)}(aD:es=l.map Term.cells)(f:Nat)(p:Term->Bool)(hl:l.length<9223372036854775807)
 (hf:∀x∈l,FC f [.agg [ST x.key,BL x.no,SL (x.fk.map bp)],.ptr 0 0] [.var [SL ls]] (.ret (BL (p x))) [.var [SL ls]]) {r:Bool} (hr:r=l.any p):FC 146 [SL es,.fn f [.ptr 0 0]] [.var [SL ls]] (.ret (BL r)) [.var [SL ls]]:=by
 obtain⟨k,hk⟩:∃k,k=idxOf p l:=⟨_,rfl⟩;refine kJ ht (aK:=[.var [SL ls]]) Tryz.func146 rfl rfl (N:=9) rfl rfl (n:=1) rfl rfl ?_;cbv;refine dO hY (Nz ht ls aD f p hl hf hk) ?_;cbv;refine ak ?_;simp only[ht,hr,fL,hk]
theorem Um(ht:TT t)(k:az)(n:Bool){vs:List az}{vr:List (List D)}(vA:vr=vs.map bp)(hv:vs.length<1000000000){l:List bT}{ls:List (List D)}(hls:ls=l.map bT.cells)(hl:l.length<1000000000){r:Bool}(hr:r=!mS ⟨k,n,vs⟩ l):
 FC 201 [.agg [ST k,BL n,SL vr],.ptr 0 0] [.var [SL ls]] (.ret (BL r)) [.var [SL ls]]:=by
 obtain⟨H,hH⟩:∃H,H=mS ⟨k,n,vs⟩ l:=⟨_,rfl⟩;rw[<-hH]at hr;refine kJ ht (aK:=[.var [SL ls]]) Tryz.func201 rfl rfl (N:=8) rfl rfl (n:=1) rfl rfl ?_;cbv;have lR:vr.length=vs.length:=by rw[vA,lgM]
 have Nx:ls.length=l.length:=by rw[hls,lgM]
 refine ar (QW ht _ _ ‹_› ‹_› ‹_› ‹_›) hY (λr1 ej=>?_);simp only[ht]at ej;cbv;refine ak ?_;(simp[*];done)
theorem QX(ht:TT t){x:List Term}{xr:List (List D)}(Hz:xr=x.map Term.cells)(hx:x.length<1000000000)(HO:∀m∈x,m.fk.length<1000000000){l:List bT}{ls:List (List D)}(hls:ls=l.map bT.cells)(hl:l.length<1000000000):
 FC 172 [SL xr,SL ls] [] (.ret (cA (t _ λ_=>zO x l))) []:=by
 obtain⟨r9,dR⟩:∃r,r=x.any (λm=>!mS m l):=⟨_,rfl⟩;refine cC ht Tryz.func172 (N:=9) ?_;cbv;have NB:xr.length=x.length:=by rw[Hz,lgM]
 have Nx:ls.length=l.length:=by rw[hls,lgM]
 (refine aW [0] hY rfl rfl (NA ht ls Hz 201 (λm=>!mS m l) (by omega) (λm hm=>Um ht _ _ rfl (HO m hm) hls hl rfl) dR) (aH ?_));cbv;refine ak ?_;(simp[ht,zO,dR];done)
end Dem
end
section
open Go
namespace Dem
section
variable {P:Program}{G:Nat->Option (List D)}
theorem Be{f:Nat}{args:List AV}{bx aE gY:List av}{v v2:AV}(h:be P G f args bx (.ret v) aE)
 (hs:∀β w X u,cB G β aE w X->ai β aE w (bq β aE w X) v u->Ext β aE w β gY w/\cB G β gY w X/\ai β gY w (bq β gY w X) v2 u):be P G f args bx (.ret v2) gY:=by
 intro β w vs X cx hx;refine lg.mono (h β w vs X cx hx) ?_;rintro e w' ⟨β',ex,oA,hr⟩;cases e with
 |returned u=>
  obtain⟨a,b,c⟩:=hs β' w' X u oA hr
  exact⟨β',ex.trans a,b,c⟩
 |panicked ch=>exact hr.elim|outgrown=>exact hr.elim
theorem Un{β:Nat->Nat}{bx:List av}{w:World}{b:Nat}{B B':av}(hb:bx[b]?=some B)(hl:B.live=true)(dM:B'.born=true):Ext β bx w β (bx.set b B') w:=by
 refine⟨rfl,rfl,rfl,vad _,λ_ _ _=>rfl,λk c e f h=>⟨c,h,rfl⟩,λi hi=>⟨rfl,jA dM hi⟩,?_⟩;intro i b' h1 h2;rcases aQ h1 with⟨rfl,rfl,_⟩|⟨_,h3⟩
 .exact .inr ⟨_,B,hb,hl,rfl⟩
 exact .inr ⟨i,b',h3,h2,rfl⟩
theorem NC{f b sz k c:Nat}{ex:Bool}{args:List AV}{bx aE gY:List av}{es r:List (List D)}(hk:0<k)(hb:aE[b]?=some (.row sz es))(ZW:k<=es.length)(hr:r=es.take k)(h2:gY=aE.set b (.row sz r))
 (h:be P G f args bx (.ret (.vw b sz 0 k c ex)) aE):be P G f args bx (.ret (.ow b sz k)) gY:=by
 subst hr h2;refine Be h λβ w X u cx hv=>?_;have hne:es≠[]:=by intro h;rw[h]at ZW;simp at ZW;omega
 have cH:(av.row sz es).live=true:=by cases es with
  |nil=>exact absurd rfl hne|cons _ _=>rfl
 have ht:es.take k≠[]:=by
  intro h;have:=vac List.length h;simp at this;rcases this with h|h
  .omega
  exact hne h
 have aeB:(av.row sz (es.take k)).live=true:=by
  cases hq:es.take k with
  |nil=>exact absurd hq ht|cons _ _=>rfl
 have ext:Ext β aE w β (aE.set b (.row sz (es.take k))) w:=Un hb cH rfl;simp only[ai]at hv;obtain⟨h1,base,cap,cs,e,f',rfl,h3,h4,h5,h6⟩:=hv;refine⟨ext,cx.step ext ?_ ?_,?_⟩
 .intro i b' hi;rcases aQ hi with⟨rfl,rfl,_⟩|⟨h7,h8⟩
  .refine .inr ?_;rcases cx.box _ _ hb with h|⟨c2,e2,g1,g2⟩
   .exact absurd h hne
   exact .inr ⟨c2,e2,g1,ax.mono (ext.keeps X) _ _ (λ_=>rfl) _ _ (ax.Ib k _ _ g2)⟩
  exact .inl ⟨h8,λ_=>rfl⟩
 .intro i j bi bj hi hj li lj he;rcases aQ hi with⟨rfl,rfl,_⟩|⟨h7,h8⟩<;>rcases aQ hj with⟨rfl,rfl,_⟩|⟨h9,h10⟩
  .rfl
  .exact cx.inj _ _ _ _ hb h10 cH lj he
  .exact cx.inj _ _ _ _ h8 hb li cH he
  exact cx.inj _ _ _ _ h8 h10 li lj he
 simp only[ai];refine⟨(ext.born b h1).2,.inr ⟨by omega,cap,?_⟩⟩;rcases h6 with h6|⟨rfl,h7,h8⟩
 .omega
 exact⟨cs,e,f',by simp,h3,h7,by simpa using h8⟩
theorem ND{f b sz k c:Nat}{ex:Bool}{args:List AV}{bx aE gY:List av}{es r:List (List D)}(hb:aE[b]?=some (.row sz es))(ZW:k<=es.length)(hr:r=es.take k)(h2:gY=aE.set b .dead)
 (h:be P G f args bx (.ret (.vw b sz 0 k c ex)) aE):be P G f args bx (.ret (.d (.sl r))) gY:=by
 subst hr h2;refine Be h λβ w X u cx hv=>?_;have ext:Ext β aE w β (aE.set b .dead) w:=jB hb rfl rfl
 simp only[ai]at hv;obtain⟨h1,base,cap,cs,e,f',rfl,h3,h4,h5,h6⟩:=hv;refine⟨ext,lq cx hb rfl rfl (by simp[dV]),?_⟩;have hl:(es.take k).length=k:=by simp;omega
 simp only[ai,aP];refine⟨base,cap,by rw[hl],by rw[hl];exact h3,?_⟩;by_cases hk:k=0
 .exact .inl (by rw[hk];rfl)
 refine .inr ?_;rcases h6 with h6|⟨rfl,h7,h8⟩
 .omega
 rcases cx.box _ _ hb with h|⟨c2,e2,g1,g2⟩
 .rw[h]at ZW;simp at ZW;omega
 refine⟨β b,0,sz,by simp,⟨fE g1,?_,?_⟩,ax.mono (ext.keeps X) _ _ (λ_=>rfl) _ _ (ax.Ib k _ _ g2)⟩
 .refine cx.apart b _ hb ?_;cases es with
  |nil=>simp at ZW;omega|cons _ _=>rfl
 intro i b' h9 h10 he;rcases aQ h9 with⟨rfl,rfl,_⟩|⟨h11,h12⟩
 .simp[av.live]at h10
 refine h11 (cx.inj i b b' _ h12 hb h10 ?_ he);cases es with
 |nil=>simp at ZW;omega|cons _ _=>rfl
theorem an.split {β:Nat->Nat} {bx:List av} {w:World} {ok:Nat->Prop}:∀{xs ys:List AV} {vs:List Value},an β bx w ok (xs++ys) vs->∃us ws,vs=us++ws/\an β bx w ok xs us/\an β bx w ok ys ws
 |[],_,vs,h=>⟨[],vs,rfl,by simp only[an],h⟩|x::xs,ys,vs,h=>by rw[List.cons_append]at h;simp only[an]at h ⊢;obtain⟨u,us,rfl,h1,h2⟩:=h;obtain⟨a,b,rfl,h3,h4⟩:=an.split h2;exact⟨u::a,b,rfl,⟨u,a,rfl,h1,h3⟩,h4⟩
theorem K4{f g b:Nat}{xs:List AV}{cs:List AV}{ds:List D}{bx sL aE:List av}{res:eP}(hb:bx[b]?=some (.var cs))(hd:jV [] cs=some ds)(h1:sL=bx.set b .dead)
 (h:be P G f (xs++[.fn g [.ep ds]]) sL res aE):be P G f (xs++[.fn g [.ptr b 0]]) bx res aE:=by
 subst h1;intro β w vs X cx hx;have ext:Ext β bx w β (bx.set b .dead) w:=jB hb rfl rfl
 have oA:cB G β (bx.set b .dead) w X:=lq cx hb rfl rfl (by simp[dV]);obtain⟨c2,e2,g1,g2⟩:=cx.box _ _ hb;have hok:bq β (bx.set b .dead) w X (β b):=by
  refine⟨fE g1,cx.apart b _ hb rfl,?_⟩;intro i b' h3 h4 he;rcases aQ h3 with⟨rfl,rfl,_⟩|⟨h5,h6⟩
  .simp[av.live]at h4
  exact h5 (cx.inj i b b' _ h6 hb h4 rfl he)
 have hrow:bg w (bq β bx w X) (β b) ds 0:=by refine Gb ds 0 c2.toList ?_ (uD hd g2);intro j v hj;simp only[World.cell?,g1];simpa using hj
 have ab8:=bg.mono (ext.keeps X) _ (λ_=>rfl) _ _ hrow;obtain⟨us,ws0,rfl,hu,hw⟩:=an.split hx;simp only[an,ai]at hw;obtain⟨v,vs',rfl,⟨ws,rfl,w1,ws',rfl,⟨rfl,Gh⟩,rfl⟩,rfl⟩:=hw;refine lg.mono (h β w _ X oA ?_) ?_
 .refine an.append (an.mono (ext.dL X) _ _ hu) ?_;simp only[an,ai];exact⟨_,_,rfl,⟨_,rfl,_,_,rfl,⟨β b,0,rfl,hok,ab8⟩,rfl⟩,rfl⟩
 rintro e w' ⟨β',ex,aeC,hr⟩;exact⟨β',ext.trans ex,aeC,hr⟩
theorem DT{f g b:Nat}{x:AV}{cs:List AV}{ds:List D}{bx sL aE:List av}{res:eP}(hb:bx[b]?=some (.var cs))(hd:jV [] cs=some ds)(h1:sL=bx.set b .dead)
 (h:be P G f [x,.fn g [.ep ds]] sL res aE):be P G f [x,.fn g [.ptr b 0]] bx res aE:=K4 (xs:=[x]) hb hd h1 h
end
end Dem
end
section
open Go Dem Go.Proofs
namespace Dem
variable {t:Th}
theorem Bf(ht:TT t){es:List (List D)}(aD:∀r∈es,r.length=6)(hs:es.length*72<=140737488355328){m:Nat}(hm:m=es.length):
 FC 170 [SL es] [] (.ret (.ow 0 6 m)) [.row 6 es]:=by
 refine cC ht Tryz.func170 (N:=8) ?_;cbv;refine⟨λb hb=>?_⟩;simp only[ht]at hb;cbv;apply aj<;>intro h
 .have he:=hb h;subst he;cbv;exact Mi hY rfl rfl (by rw[hm];rfl) rfl
 clear hb h;cbv;refine⟨?_,?_⟩
 .simp only[ht];simp;exact⟨hs,aD⟩
 refine GA hY rfl rfl rfl rfl ?_ ?_
 .simp only[ht];rw[hm];simp
 simp only[ht];rfl
theorem QY(ht:TT t)(xr:List (List D)){l:List (cK)}{es:List (List D)}(aD:es=l.map cK.cells)(f:Nat)(p:cK->Bool)(hl:l.length<9223372036854775807)
 (hf:∀x∈l,FC f [.agg [ST x.node,aA x.free.a,aA x.free.b,aA x.free.c,aA x.free.d,SL (x.labels.map bT.cells)],.ep [.sl xr]] [] (.ret (BL (p x))) []) {r:Int} (hr:r=idxOf p l):FC 200 [SL es,.fn f [.ep [.sl xr]]] [] (.ret (bf r)) []:=by
 have hel:es.length=l.length:=by rw[aD,lgM]
 refine cC ht Tryz.func200 (N:=19) ?_;cbv;refine bw ⟨[0,1,7,8],[],[]⟩ (σ:=Nat) (λk=>[(8,bf (t _ λ_=>(k:Int)))]) (λ_=>[]) (wL p l) ?_;cbv;refine aC ⟨l.length,0,.nil,by simp only[ht];rfl,λn k hj=>?_⟩;cbv;apply aj<;>intro h
 .simp only[ht,aa,vai]at h;have hk:k<es.length:=by omega
  obtain⟨x,hx,pM,px,hpx⟩:=hj.get (by omega);have iS:=hf x pM
  rw[<-hpx]at iS;obtain⟨nd,⟨v1,v2,v3,v4⟩,lb⟩:=x;obtain⟨Lr,rN⟩:∃lr:List (List D),lr=lb.map bT.cells:=⟨_,rfl⟩;simp only[<-rN]at iS;cbv;refine jG [.str nd,.int .u64 v1,.int .u64 v2,.int .u64 v3,.int .u64 v4,.sl Lr] ?_ ?_ ?_
  .simp only[ht,aa];exact sE aD hk λ_=>rfl
  .simp[ht,aa,aD,hx,rN,cK.cells]
  cbv;refine dO hY iS ?_;cbv;apply aj<;>intro hb
  .cbv;refine ak ?_;simp only[ht,aa,hr,hj.hit hx (hpx▸hb)]
  cbv;refine aC ⟨n-1,k+1,⟨hj.lt hx,hj.next hx (hpx▸hb)⟩,?_⟩;simp only[ht,aa,aG (show k<9223372036854775807 by omega)];rfl
 simp only[ht,aa,vap]at h;have hk:l.length<=k:=by omega
 clear h;cbv;refine ak ?_;rw[hr,hj.none hk]
theorem NE(ht:TT t)(xr:List (List D)){l:List (cK)}{es:List (List D)}(aD:es=l.map cK.cells){m c:Nat}(hm:m=l.length)(hc:m<=c)(f:Nat)(p:cK->Bool)(hl:l.length<9223372036854775807)
 (hf:∀x∈l,FC f [.agg [ST x.node,aA x.free.a,aA x.free.b,aA x.free.c,aA x.free.d,SL (x.labels.map bT.cells)],.ep [.sl xr]] [] (.ret (BL (p x))) []) {r:List (List D)} (hr:r=(l.filter (λx=>!p x)).map cK.cells) {kk:Nat} (hkk:kk=r.length) {rz:List (List D)} (X7:rz=r++List.replicate (m-kk) [.str [],.int .u64 0,.int .u64 0,.int .u64 0,.int .u64 0,.sl []]):
 FC 169 [.vw 0 6 0 m c true,.fn f [.ep [.sl xr]]] [.row 6 es] (.ret (.vw 0 6 0 kk c true)) [.row 6 rz]:=by
 have hel:es.length=m:=by rw[aD,lgM,hm]
 have hrows:∀r∈es,r.length=6:=by rw[aD];intro r hr;obtain⟨y,_,rfl⟩:=List.mem_map.1 hr;rfl
 obtain⟨k,hk⟩:∃k,k=idxOf p l:=⟨_,rfl⟩;have MM:(t (List (List D)) λ_=>(es.drop 0).take m)=l.map cK.cells:=by simp only[ht];rw[List.drop_zero,vao (by omega),aD]
 have hidx:=QY ht xr MM f p hl hf hk;obtain⟨J,hJ⟩:∃J:Nat->Nat×Nat×List (List D)->Prop,∀n v,J n v↔(v.2.1+n=m/\v.1<v.2.1/\v.2.2.length=m/\(∀r∈v.2.2,r.length=6)/\v.2.2.take v.1=((l.take v.2.1).filter (λx=>!p x)).map cK.cells/\v.2.2.drop v.2.1=es.drop v.2.1):=⟨λn v=>v.2.1+n=m/\v.1<v.2.1/\v.2.2.length=m/\(∀r∈v.2.2,r.length=6)/\v.2.2.take v.1=((l.take v.2.1).filter (λx=>!p x)).map cK.cells/\v.2.2.drop v.2.1=es.drop v.2.1,λ_ _=>Iff.rfl⟩;refine kJ ht (aK:=[.row 6 es]) Tryz.func169 rfl rfl (N:=42) rfl rfl (n:=1) rfl rfl ?_;cbv;refine XQ (TT.eq ht) (v:=bf k) [true] [] hY rfl ?_ rfl rfl rfl rfl rfl rfl rfl hidx ?_
 .simp[ht];omega
 cbv;apply aj<;>intro h
 .have iw:k=-1:=by simp[ht]at h;exact h
  have hnone:=uM (hk▸iw:idxOf p l=-1);clear h;cbv;have Xx:r=es:=by rw[hr,filter_all hnone,<-aD]
  have hkm:kk=m:=by rw[hkk,Xx,hel]
  have hze:rz=es:=by rw[X7,hkm,Nat.sub_self,Xx];simp
  rw[hze,hkm];exact SC hY rfl rfl
 have iw:k≠-1:=by simp[ht]at h;exact h
 clear h;obtain⟨i0,x0,hi0,hx0,hp0,hb0⟩:=uN (hk▸iw:idxOf p l≠-1);rw[<-hk]at hi0;subst hi0;have adU:i0<m:=by rw[hm];exact(List.getElem?_eq_some_iff.1 hx0).1
 cbv;refine bw ⟨[0,1,5,6],[],[]⟩ (σ:=Nat×Nat×List (List D)) (λv=>[(5,bf (t _ λ_=>(v.1:Int))),(6,bf (t _ λ_=>(v.2.1:Int)))]) (λv=>[(0,.row 6 (t _ λ_=>v.2.2))]) J ?_;cbv;refine aC ⟨m-(i0+1),(i0,i0+1,es),(hJ _ _).2 ⟨?_,?_,hel,hrows,?_,rfl⟩,by simp only[ht,aa,Int.ofNat_eq_natCast,aG (show i0<9223372036854775807 by omega)];rfl,?_⟩
 .show i0+1+(m-(i0+1))=m;omega
 .show i0<i0+1;omega
 .show es.take i0=_;rw[nJ hx0,List.filter_append,filter_all hb0,aD,<-List.map_take];simp[hp0]
 rintro n ⟨i,j,cur⟩ hj;obtain⟨j1,j2,j3,j4,j5,j6⟩:=(hJ _ _).1 hj;clear hj;simp only at j1 j2 j3 j4 j5 j6;cbv;apply aj<;>intro h
 .have hjm:j<m:=by simp[ht,aa]at h;omega
  clear h;obtain⟨x,hx⟩:∃x,l[j]?=some x:=⟨l[j]'(by omega),by simp⟩
  have pM:x∈l:=vag hx;have iS:=hf x pM
  have Tc:cur[j]?=some (cK.cells x):=by
   have:(cur.drop j)[0]?=(es.drop j)[0]?:=by rw[j6]
   rw[List.getElem?_drop,List.getElem?_drop,Nat.add_zero,aD,vaA,hx]at this;exact this
  obtain⟨px,hpx⟩:∃b,b=p x:=⟨_,rfl⟩;rw[<-hpx]at iS;obtain⟨cx,BF⟩:∃cx,cx=cK.cells x:=⟨_,rfl⟩;rw[<-BF]at Tc;have hstep:(l.take (j+1)).filter (λx=>!p x)=(l.take j).filter (λx=>!p x)++(if px then[]else[x]):=by rw[nJ hx,List.filter_append];cases px<;>simp[<-hpx]
  obtain⟨nd,⟨v1,v2,v3,v4⟩,lb⟩:=x;obtain⟨Lr,rN⟩:∃lr:List (List D),lr=lb.map bT.cells:=⟨_,rfl⟩;simp only[cK.cells,<-rN]at iS BF;cbv;refine⟨?_,YI [.str nd,.int .u64 v1,.int .u64 v2,.int .u64 v3,.int .u64 v4,.sl Lr] ?_ ?_ ?_⟩
  .simp[ht,aa];omega
  .simp[ht,aa,j3];omega
  .simp[ht,aa,vam,Tc,BF]
  cbv;refine aW [] hY rfl rfl iS (aH ?_);cbv;apply aj<;>intro hb
  .have hb':px=false:=by simpa[ht]using hb
   clear hb;obtain⟨nc,hnc⟩:∃nc,nc=cur.set i cx:=⟨_,rfl⟩;have wM:(cur.getD i []).length=6:=j4 _ (by rw[vam,vaj (by omega)];exact List.getElem_mem _)
   cbv;refine⟨?_,?_⟩
   .simp[ht,aa];omega
   refine⟨?_,?_⟩
   .simp[ht,aa,j3];exact⟨by omega,by simpa using wM.symm▸(vad _)⟩
   refine aC ⟨n-1,(i+1,j+1,nc),⟨by omega,(hJ _ _).2 ⟨?_,?_,?_,?_,?_,?_⟩⟩,?_⟩
   .show j+1+(n-1)=m;omega
   .show i+1<j+1;omega
   .show nc.length=m;rw[hnc,List.length_set];exact j3
   .show∀r∈nc,r.length=6;intro r hr;rw[hnc]at hr;rcases List.mem_or_eq_of_mem_set hr with hr|rfl
    .exact j4 r hr
    rw[BF];rfl
   .show nc.take (i+1)=_;rw[hnc,pK _ _ _ (by omega),j5,hstep,hb',BF];simp[rN,cK.cells]
   .show nc.drop (j+1)=es.drop (j+1);rw[hnc,tY _ _ _ _ (by omega),<-List.drop_drop,j6,List.drop_drop]
   simp only[ht,aa,Int.ofNat_eq_natCast,aG (show i<9223372036854775807 by omega),aG (show j<9223372036854775807 by omega)];have ei:0+((i:Int)).toNat=i:=by simp
   have e:cur.set i (bP (cur.getD i []) 0 [.str nd,.int .u64 v1,.int .u64 v2,.int .u64 v3,.int .u64 v4,.sl Lr])=nc:=by rw[hnc,pJ _ _ (by rw[wM];rfl),BF]
   simp only[ei,e];rfl
  have hb':px=true:=by simpa[ht]using hb
  clear hb;cbv;refine aC ⟨n-1,(i,j+1,cur),⟨by omega,(hJ _ _).2 ⟨?_,?_,j3,j4,?_,?_⟩⟩,?_⟩
  .show j+1+(n-1)=m;omega
  .show i<j+1;omega
  .show cur.take i=_;rw[j5,hstep,hb'];simp
  .show cur.drop (j+1)=es.drop (j+1);rw[<-List.drop_drop,j6,List.drop_drop]
  simp only[ht,aa,Int.ofNat_eq_natCast,aG (show j<9223372036854775807 by omega)];rfl
 have hjm:j=m:=by simp[ht,aa]at h;omega
 clear h;obtain⟨mi,Ee⟩:∃mi,mi=m-i:=⟨_,rfl⟩;obtain⟨ci,wM⟩:∃ci,ci=c-i:=⟨_,rfl⟩;obtain⟨nc,hnc⟩:∃nc,nc=wrote cur i (List.replicate mi [.str [],.int .u64 0,.int .u64 0,.int .u64 0,.int .u64 0,.sl []]):=⟨_,rfl⟩;have hnt:nc.take i=r:=by
  have hl':(cur.take i).length=i:=by simp;omega
  rw[hnc,wrote,vas,List.take_left' hl',j5,hr,hjm,hm,List.take_length]
 have adV:i<=nc.length:=by rw[hnc];simp[wrote];omega
 cbv;refine cq (.vw 0 6 i mi ci true) [.row 6 cur] ?_ ?_ ?_ ?_
 .simp[ht,aa,eX,b9];omega
 .simp[ht,aa,bc,aY,Ee,wM]
 .simp only[ht]
 cbv;refine cq (.c5 []) [.row 6 nc] ?_ rfl ?_ ?_
 .simp[ht,gj];refine⟨by omega,?_⟩;intro h;rw[h]at j3;simp at j3;omega
 .simp only[ht,hnc]
 cbv;refine cq (.vw 0 6 0 i c true) [.row 6 nc] ?_ ?_ rfl ?_
 .simp[ht,aa,eX,b9];omega
 .simp[ht,aa,bc,aY]
 cbv;have hki:kk=i:=by rw[hkk,<-hnt];simp;omega
 have hze:rz=nc:=by
  rw[X7,hki,<-hnt,hnc,wrote];have hl':(cur.take i).length=i:=by simp;omega
  rw[vas,List.take_left' hl',List.drop_of_length_le (by simp;omega),List.append_nil,Ee]
 rw[hze,hki];exact SC hY rfl rfl
theorem NG(ht:TT t)(nd:az)(v1 v2 v3 v4:Int){lb:List bT}{lr:List (List D)}(hlr:lr=lb.map bT.cells)(hlb:lb.length<1000000000){x:List Term}{xr:List (List D)}(Hz:xr=x.map Term.cells)(hx:x.length<1000000000)(HO:∀m∈x,m.fk.length<1000000000){r:Bool}(hr:r=!zO x lb):
 FC 171 [.agg [ST nd,aA v1,aA v2,aA v3,aA v4,SL lr],.ep [.sl xr]] [] (.ret (BL r)) []:=by
 obtain⟨H,hH⟩:∃H,H=zO x lb:=⟨_,rfl⟩;rw[<-hH]at hr;refine cC ht Tryz.func171 (N:=9) ?_;cbv;have MR:lr.length=lb.length:=by rw[hlr,lgM]
 have NB:xr.length=x.length:=by rw[Hz,lgM]
 refine ar (QX ht ‹_› ‹_› ‹_› ‹_› ‹_›) hY (λr0 bM=>?_);simp only[ht]at bM;cbv;refine ak ?_;(simp[ht,hr,hH,bM];done)
def Int.cells (x:Int):List D:=[.int .u64 x]
def Int.aS (_:Th) (x:Int):List D:=[.int .u64 x]
theorem Uo(ht:TT t)(x:Int):FC 232 [aA x] [] (.ret (cA (t _ λ_=>false))) []:=by refine cC ht Tryz.func232 (N:=6) ?_;cbv;refine ak ?_;(simp[ht];done)
theorem ZX(ht:TT t)(x y:Int):FC 222 [aA x,aA y] [] (.ret (ol (t _ λ_=>qf x y))) []:=by
 refine cC ht Tryz.func222 (N:=20) ?_;cbv;refine ar (Uo ht _) hY (λr0 bM=>?_);simp only[ht]at bM;cbv;refine ar (Uo ht _) hY (λr1 ej=>?_);simp only[ht]at ej;cbv;apply aj<;>intro h2
 .cbv;apply aj<;>intro h3
  .cbv;refine ak ?_;(simp only[ht,qf];grind)
  cbv;refine ak ?_;(simp only[ht,qf];grind)
 cbv;apply aj<;>intro h4
 .cbv;refine ak ?_;(simp only[ht,qf];grind)
 cbv;apply aj<;>intro h5
 .simp[ht]at h5;cbv;refine ak ?_;(simp[qf, *];done)
 simp[ht]at h5;cbv;apply aj<;>intro h6
 .simp[ht]at h6;cbv;refine ak ?_;(simp[qf, *];done)
 simp[ht]at h6;cbv;refine ak ?_;(simp only[ht,qf];grind)
def cmpL:List Int->List Int->Int
 |x::r,y::s=>if qf x y≠0 then qf x y else cmpL r s|_,_=>0
theorem NH(ht:TT t){l m:List Int}{es fs:List (List D)}(aD:es=l.map Int.cells)(vz:fs=m.map Int.cells)(hlm:l.length=m.length)(hl:l.length<1000000000):
 FC 203 [SL es,SL fs] [] (.ret (ol (t _ λ_=>cmpL l m))) []:=by
 refine cC ht Tryz.func203 (N:=36) ?_;cbv;have ay:es.length=l.length:=by rw[aD,lgM]
 have cY:fs.length=m.length:=by rw[vz,lgM]
 obtain⟨J0,dZ⟩:∃J0:Nat->Int->Prop,∀n i,J0 n i↔(∃k:Nat,i=k/\k+n=l.length/\l.length=m.length/\cmpL l m=cmpL (l.drop k) (m.drop k)):=⟨λn v=>match v with|i=>(∃k:Nat,i=k/\k+n=l.length/\l.length=m.length/\cmpL l m=cmpL (l.drop k) (m.drop k)),λ_ _=>Iff.rfl⟩;refine bw ⟨[0,1,9,10,11],[],[]⟩ (σ:=Int) (λv=>[(11,.d (.int .i64 (t _ λ_=>v)))]) (λv=>[]) J0 ?_;cbv;refine aC ⟨l.length,_,(dZ _ _).2 ?_,by simp only[ht];rfl,?_⟩
 .exact⟨0,rfl,by simp,by omega,by simp⟩
 rintro n i hj;replace hj:=(dZ _ _).1 hj;obtain⟨k,rfl,j1,j2,j4⟩:=hj;cbv;apply aj<;>intro h1
 .simp[ht,aa,ay]at h1;cbv;refine eT ht aD (cT:=Int.aS t) (by(simp only[ht,aa];omega)) (by(simp only[ht,aa];omega)) (λ_=>rfl) (λ_=>rfl) (λx2 jX=>?_);simp[ht,aa]at jX;rw[cu jX]at j4;cbv;apply aj<;>intro h3
  .simp[ht,aa,cY]at h3;omega
  simp[ht,aa,cY]at h3;cbv;refine eT ht vz (cT:=Int.aS t) (by(simp only[ht,aa];omega)) (by(simp only[ht,aa];omega)) (λ_=>rfl) (λ_=>rfl) (λx4 vL=>?_);simp[ht,aa]at vL;rw[cu vL]at j4;cbv;refine ar (ZX ht _ _) hY (λr5 lp=>?_);simp only[ht]at lp;cbv;apply aj<;>intro h6
  .simp[ht]at h6;cbv;refine ak ?_;(simp only[ht];rw[j4,cmpL,<-lp,if_pos ‹_›];done)
  simp[ht]at h6;cbv;refine bA _ (by simp only[ht];rfl) (n-1) ?_ ((dZ _ _).2 ?_)
  .omega
  simp only[aa];exact⟨k+1,aG (by omega),by omega,by omega,by rw[j4,cmpL,<-lp,if_neg (by omega)]⟩
 simp[ht,aa,ay]at h1;cbv;apply aj<;>intro h7
 .simp[ht,aa,ay,cY]at h7;omega
 simp[ht,aa,ay,cY]at h7;cbv;refine ak ?_;(simp[ht,j4,vah (show l.length<=k by omega),cmpL];done)
theorem Up(a0 a1 a2 a3 b0 b1 b2 b3:Int):cmpL [a0,a1,a2,a3] [b0,b1,b2,b3]=wA ⟨a0,a1,a2,a3⟩ ⟨b0,b1,b2,b3⟩:=by simp only[cmpL,wA];by_cases h0:qf a0 b0=0<;>by_cases h1:qf a1 b1=0<;>by_cases h2:qf a2 b2=0<;>by_cases h3:qf a3 b3=0<;>simp[h0,h1,h2,h3]
theorem QZ(ht:TT t)(a0 a1 a2 a3 b0 b1 b2 b3:Int):FC 173 [V4 a0 a1 a2 a3,V4 b0 b1 b2 b3] [] (.ret (ol (t _ λ_=>wA ⟨a0,a1,a2,a3⟩ ⟨b0,b1,b2,b3⟩))) []:=by obtain⟨o,ho⟩:∃o,o=wA ⟨a0,a1,a2,a3⟩ ⟨b0,b1,b2,b3⟩:=⟨_,rfl⟩;rw[<-ho];refine cC ht Tryz.func173 (N:=8) ?_;cbv;(apply yd [] (.more 0 (.one 1 (.one 2 (.one 3 .done))) (.one 1 (.one 0 (.one 2 (.one 3 .done)))));kernel_rfl;kernel_rfl;kernel_rfl;kernel_rfl;(next=>cbv;repeat (first|(refine YN hY (NH ht (l:=[a0,a1,a2,a3]) (m:=[b0,b1,b2,b3]) rfl rfl rfl (by simp)) hY rfl rfl rfl (λr0 bM=>?_);simp only[ht,Up,<-ho]at bM;subst r0;cbv)|refine And.intro ?_ ?_)));cbv;refine ak ?_;(simp[ht];done)
theorem DU(ht:TT t){l:List cK}{es:List (List D)}(aD:es=l.map cK.cells)(hl:l.length<1000000)(hlb:∀s∈l,s.labels.length<1000000000){x:List Term}{xr:List (List D)}(Hz:xr=x.map Term.cells)(hx:x.length<1000000000)(HO:∀m∈x,m.fk.length<1000000000)
 {m c k:Nat} (hm:m=l.length) (hc:m<=c) {r:List (List D)} (hr:r=(fitting l x).map cK.cells) (hk:k=r.length) {rz:List (List D)} (X7:rz=r++List.replicate (m-k) [.str [],.int .u64 0,.int .u64 0,.int .u64 0,.int .u64 0,.sl []]):
 FC 169 [.vw 0 6 0 m c true,.fn 171 [.ep [.sl xr]]] [.row 6 es] (.ret (.vw 0 6 0 k c true)) [.row 6 rz]:=
 NE ht xr aD hm hc 171 (λs=>!zO x s.labels) (by omega) (λs hs=>NG ht _ _ _ _ _ rfl (hlb s hs) Hz hx HO rfl) (by rw[hr,fitting];simp) hk X7
theorem Xa{r z:List (List D)}{k:Nat}(hk:k=r.length):r=(r++z).take k:=by rw[hk,List.take_left]
theorem NI(ht:TT t){l:List cK}{es:List (List D)}(aD:es=l.map cK.cells)(hl:l.length<1000000)(hlb:∀s∈l,s.labels.length<1000000000){x:List Term}{xr:List (List D)}(Hz:xr=x.map Term.cells)(hx:x.length<1000000000)(HO:∀m∈x,m.fk.length<1000000000)
 (h0:fitting l x=[]):FC 123 [SL es,SL xr] [] (.ret (SL [])) []:=by
 obtain⟨m,hm⟩:∃m,m=l.length:=⟨_,rfl⟩;have hel:m=es.length:=by rw[aD,lgM,hm]
 have hrows:∀r∈es,r.length=6:=by rw[aD];intro r hr;obtain⟨y,_,rfl⟩:=List.mem_map.1 hr;rfl
 have hD:FC 169 [.ow 1 6 m,.fn 171 [.ptr 0 0]] [.var [SL xr],.row 6 es] (.ret (SL [])) [.dead,.dead]:=
  DT rfl rfl rfl<|fR [1] rfl rfl rfl rfl<|gJ λc hc _=>ND rfl (by simp) (by simp) rfl (DU ht aD hl hlb Hz hx HO hm hc (r:=[]) (by rw[h0];rfl) (k:=0) rfl rfl)
 refine cC ht Tryz.func123 (N:=9) ?_;cbv;refine sj hY (Bf ht hrows (by omega) hel) hY rfl (.inr rfl) ?_;cbv;refine dO hY hD ?_;cbv;refine ak ?_;simp
theorem Q0(ht:TT t){l:List cK}{es:List (List D)}(aD:es=l.map cK.cells)(hl:l.length<1000000)(hlb:∀s∈l,s.labels.length<1000000000){x:List Term}{xr:List (List D)}(Hz:xr=x.map Term.cells)(hx:x.length<1000000000)(HO:∀m∈x,m.fk.length<1000000000)
 {r:List (List D)} (hr:r=(fitting l x).map cK.cells) {k:Nat} (hk:k=r.length) (h0:0<k):FC 123 [SL es,SL xr] [] (.ret (.ow 0 6 k)) [.row 6 r]:=by
 obtain⟨m,hm⟩:∃m,m=l.length:=⟨_,rfl⟩;have hel:m=es.length:=by rw[aD,lgM,hm]
 have hrows:∀r∈es,r.length=6:=by rw[aD];intro r hr;obtain⟨y,_,rfl⟩:=List.mem_map.1 hr;rfl
 obtain⟨rz,X7⟩:∃rz,rz=r++List.replicate (m-k) [.str [],.int .u64 0,.int .u64 0,.int .u64 0,.int .u64 0,.sl []]:=⟨_,rfl⟩;have hD:FC 169 [.ow 1 6 m,.fn 171 [.ptr 0 0]] [.var [SL xr],.row 6 es] (.ret (.ow 1 6 k)) [.dead,.row 6 r]:=
  DT rfl rfl rfl<|fR [1] rfl rfl rfl rfl<|gJ λc hc _=>NC h0 rfl (by rw[X7,hk];simp) (by rw[X7];exact Xa hk) rfl (DU ht aD hl hlb Hz hx HO hm hc hr hk X7)
 refine cC ht Tryz.func123 (N:=9) ?_;cbv;refine sj hY (Bf ht hrows (by omega) hel) hY rfl (.inr rfl) ?_;cbv;refine dO hY hD ?_;cbv;exact GA hY rfl rfl rfl rfl rfl rfl
theorem O6{x:cK}{v:bz}{B C:JJ}{r:bz×Bool}{o:Int}(er:r=ix x.free v)(eo:o=wA r.1 B.left)(h:r.2=true->B.ok=true/\0<=o):
 (if(ix x.free v).2&&(!B.ok||decide (wA (ix x.free v).1 B.left<0))then C else B)=B:=by
 rw[<-er,<-eo,if_neg];intro g;simp only[vae,vaB,Bool.not_eq_true',vai]at g;obtain⟨g1,g2⟩:=g;obtain⟨g3,g4⟩:=h g1;rcases g2 with g2|g2
 .rw[g3]at g2;cases g2
 omega
def ab9(r:JJ):AV:=.c5 [bf r.at_,V4 r.left.a r.left.b r.left.c r.left.d,BL r.ok]
theorem O7(ht:TT t)(d1 d2 d3 d4:Int){l:List cK}{es:List (List D)}(aD:es=l.map cK.cells)(hl:l.length<1000000):
 FC 124 [SL es,V4 d1 d2 d3 d4] [] (.ret (ab9 (t _ λ_=>best l ⟨d1,d2,d3,d4⟩))) []:=by
 refine cC ht Tryz.func124 (N:=42) ?_;cbv;have ay:es.length=l.length:=by rw[aD,lgM]
 obtain⟨J0,dZ⟩:∃J0:Nat->Int×Bool×Int×Int×Int×Int×Int->Prop,∀n A K i a b c d,J0 n (A,K,i,a,b,c,d)↔(∃(k:Nat) (B:JJ),i=k/\k+n=l.length/\A=B.at_/\K=B.ok/\a=B.left.a/\b=B.left.b/\c=B.left.c/\d=B.left.d/\best l ⟨d1,d2,d3,d4⟩=yz ⟨d1,d2,d3,d4⟩ (l.drop k) k B):=⟨λn v=>match v with|(A,K,i,a,b,c,d)=>(∃(k:Nat) (B:JJ),i=k/\k+n=l.length/\A=B.at_/\K=B.ok/\a=B.left.a/\b=B.left.b/\c=B.left.c/\d=B.left.d/\best l ⟨d1,d2,d3,d4⟩=yz ⟨d1,d2,d3,d4⟩ (l.drop k) k B),λ_ _ _ _ _ _ _ _=>Iff.rfl⟩;refine bw ⟨[0,3,4,5,6,11,12],[],[]⟩ (σ:=Int×Bool×Int×Int×Int×Int×Int) (λv=>[(4,.d (.int .i64 (t _ λ_=>v.1))),(6,.d (.bool (t _ λ_=>v.2.1))),(12,.d (.int .i64 (t _ λ_=>v.2.2.1)))]) (λv=>[(1,.var [.d (.int .u64 (t _ λ_=>v.2.2.2.1)),.d (.int .u64 (t _ λ_=>v.2.2.2.2.1)),.d (.int .u64 (t _ λ_=>v.2.2.2.2.2.1)),.d (.int .u64 (t _ λ_=>v.2.2.2.2.2.2))])]) J0 ?_;cbv;refine aC ⟨l.length,(_,_,_,_,_,_,_),(dZ _ _ _ _ _ _ _ _).2 ?_,by simp only[ht];rfl,?_⟩
 .exact⟨0,⟨0,bz.zero,false⟩,rfl,by simp,rfl,rfl,rfl,rfl,rfl,rfl,rfl⟩
 rintro n ⟨A,K,i,a,b,c,d⟩ hj;replace hj:=(dZ _ _ _ _ _ _ _ _).1 hj;obtain⟨k,⟨q1,⟨q2,q3,q4,q5⟩,q6⟩,rfl,j1,rfl,rfl,rfl,rfl,rfl,rfl,j4⟩:=hj;cbv;apply aj<;>intro h1
 .simp[ht,aa,ay]at h1;cbv;refine mV [0,1] [0,1,7,8,9] [false,false,false,false,false,false,false,false,false,false,false,true,true] ?_;cbv;iterate 2 refine gI (by simp) ?_
  refine eT ht aD (cT:=cK.aS t) (by(simp only[ht,aa];omega)) (by(simp only[ht,aa];omega)) (λ_=>rfl) (λ_=>(by(simp only[ht,cK.aS];rfl))) (λx2 jX=>?_);simp[ht,aa]at jX;rw[cu jX,yz]at j4;cbv;iterate 3 refine gI (by simp) ?_
  refine .inl ?_;refine aT (λg3=>⟨hY,hY,WM ht _ _ _ _ _ _ _ _⟩) rfl rfl (λr4 eY=>?_);simp only[ht]at eY;cbv;iterate 6 refine gI (by simp) ?_
  iterate 2 refine gI (by simp[ht]) ?_
  refine aT (λg5=>⟨by simp[ht]at g5 ⊢;exact g5,hY,QZ ht _ _ _ _ _ _ _ _⟩) rfl rfl (λr6 jK=>?_);simp only[ht]at jK;cbv;refine gI (by simp[ht]) ?_;refine gI (by simp[ht,ah];intros;simp_all) ?_;refine pI (by simp) ?_;apply aj<;>intro h7
  .simp[ht]at h7;cbv;refine bE [false,false,false,true,true] ?_;cbv;iterate 3 refine gI (by simp) ?_
   refine bA (_,_,_,_,_,_,_) (by simp only[ht];rfl) (n-1) ?_ ((dZ _ _ _ _ _ _ _ _).2 ?_)
   .omega
   simp only[aa];first|exact⟨k+1,⟨k,_,true⟩,aG (by omega),by omega,rfl,rfl,rfl,rfl,rfl,rfl,by rw[j4];congr 1;simp_all⟩|exact⟨k+1,⟨q1,⟨a,b,c,d⟩,K⟩,aG (by((try simp only[aa]at*);omega)),by((try simp only[aa]at*);omega),rfl,rfl,rfl,rfl,rfl,rfl,by rw[j4,O6 (B:=⟨q1,⟨a,b,c,d⟩,K⟩) eY jK h7]⟩
  simp[ht]at h7;cbv;refine bA (_,_,_,_,_,_,_) (by simp only[ht];rfl) (n-1) ?_ ((dZ _ _ _ _ _ _ _ _).2 ?_)
  .omega
  simp only[aa];first|exact⟨k+1,⟨k,_,true⟩,aG (by omega),by omega,rfl,rfl,rfl,rfl,rfl,rfl,by rw[j4];congr 1;simp_all⟩|exact⟨k+1,⟨q1,⟨a,b,c,d⟩,K⟩,aG (by omega),by omega,rfl,rfl,rfl,rfl,rfl,rfl,by rw[j4,O6 (B:=⟨q1,⟨a,b,c,d⟩,K⟩) eY jK h7]⟩
 simp[ht,aa,ay]at h1;cbv;refine So [0,2] [false,false,false,false,true,true] (by kernel_rfl) (by kernel_rfl) (by kernel_rfl) (by kernel_rfl) (by kernel_rfl) ?_;cbv;iterate 4 refine gI (by simp) ?_
 refine ak ?_;(rw[vah (by omega),yz]at j4;simp only[ht,j4];rfl)
theorem K5{v:bz}{n:Nat}{l:List cK}{out:List az}(h:0<n):zP v n l out=if !(best l v).ok then([],false)else
 zP v (n-1) (l.set (best l v).at_ {l.getD (best l v).at_ default with free:=(best l v).left}) (out++[(l.getD (best l v).at_ default).node]):=by
 obtain⟨n',rfl⟩:∃n',n=n'+1:=⟨n-1,by omega⟩;rfl
theorem K6{v:bz}:∀(l:List cK) (k:Nat) (b:JJ),(b.ok=true->b.at_<k)->(yz v l k b).ok=true->(yz v l k b).at_<k+l.length
 |[],k,b,h,g=>h g|s::r,k,b,h,g=>by
  rw[yz]at g ⊢;have:=K6 r (k+1) _ (by
   intro g2;split
   .show k<k+1;omega
   rename_i hh;rw[if_neg hh]at g2;have:=h g2;omega) g
  simp only[List.length_cons];omega
theorem Xb{v:bz}{l:List cK}(h:(best l v).ok=true):(best l v).at_<l.length:=by have:=K6 l 0 _ (by simp) h;simpa[best]using this
theorem O8{l:List cK}{x:List Term}{v:bz}{c:Int}(h:8<c):fit l x v c=([],false):=by rw[fit,if_pos h]
theorem HA{l L:List cK}{x:List Term}{v:bz}{c:Int}{m:Nat}(h:c<=8)(hm:(m:Int)=max c 0)(hL:L=fitting l x):fit l x v c=zP v m L []:=by rw[fit,if_neg (by omega),hL];congr 1;omega
theorem Uq{cur:List cK}{y:cK}{i:Nat}{u:List (List D)}(ju:u=cur.map cK.cells)(hy:cur[i]?=some y)(v:bz):
 u.set i (bP (u.getD i []) 1 [.int .u64 v.a,.int .u64 v.b,.int .u64 v.c,.int .u64 v.d])=(cur.set i {y with free:=v}).map cK.cells:=by
 rw[List.map_set,ju];congr 1;simp[vam,hy,cK.cells,bP]
def ZY(t:Th)(r:List az×Bool):AV:=.c5 [SL (t _ λ_=>r.1.map bp),BL r.2]
theorem Xc(ht:TT t)(d1 d2 d3 d4 c:Int){l:List cK}{es:List (List D)}(aD:es=l.map cK.cells)(hl:l.length<1000000)(hlb:∀s∈l,s.labels.length<1000000000){x:List Term}{xr:List (List D)}(Hz:xr=x.map Term.cells)(hx:x.length<1000000000)(HO:∀m∈x,m.fk.length<1000000000)
 (h0:fitting l x≠[]):FC 61 [SL es,SL xr,V4 d1 d2 d3 d4,bf c] [] (.ret (ZY t (t _ λ_=>fit l x ⟨d1,d2,d3,d4⟩ c))) []:=by
 obtain⟨L,hL⟩:∃L,L=fitting l x:=⟨_,rfl⟩;have Lq:L.length<1000000:=by rw[hL];exact Nat.lt_of_le_of_lt (List.length_filter_le _ _) hl
 obtain⟨r,hr⟩:∃r,r=L.map cK.cells:=⟨_,rfl⟩;obtain⟨k,hk⟩:∃k,k=r.length:=⟨_,rfl⟩;have hkL:k=L.length:=by rw[hk,hr,lgM]
 have hk0:0<k:=by rw[hkL,hL];exact List.length_pos_iff.2 h0
 obtain⟨m,hm⟩:∃m:Nat,(m:Int)=max c 0:=⟨(max c 0).toNat,by omega⟩;refine cC ht Tryz.func61 (N:=47) ?_;cbv;have ay:es.length=l.length:=by rw[aD,lgM]
 have NB:xr.length=x.length:=by rw[Hz,lgM]
 have afY:r.length=L.length:=by rw[hr,lgM]
 apply aj<;>intro h0
 .simp[ht]at h0;cbv;refine ak ?_;(simp only[ht];rw[O8 ‹_›];rfl)
 simp[ht]at h0;cbv;(refine sj hY (Q0 ht aD hl hlb Hz hx HO (hL▸hr) hk hk0) hY rfl (.inr rfl) ?_);cbv;obtain⟨J1,iB⟩:∃J1:Nat->List (List D)×Int×List (List D)->Prop,∀n o i u,J1 n (o,i,u)↔(∃(q:Nat) (cur:List cK) (out:List az),i=q/\q+n=m/\u=cur.map cK.cells/\o=out.map bp/\cur.length=k/\out.length=q/\zP ⟨d1,d2,d3,d4⟩ m L []=zP ⟨d1,d2,d3,d4⟩ n cur out):=⟨λn v=>match v with|(o,i,u)=>(∃(q:Nat) (cur:List cK) (out:List az),i=q/\q+n=m/\u=cur.map cK.cells/\o=out.map bp/\cur.length=k/\out.length=q/\zP ⟨d1,d2,d3,d4⟩ m L []=zP ⟨d1,d2,d3,d4⟩ n cur out),λ_ _ _ _=>Iff.rfl⟩;refine bw ⟨[0,6,10,20,21],[(10,1)],[]⟩ (σ:=List (List D)×Int×List (List D)) (λv=>[(10,.ow 2 1 (t _ λ_=>(v.1).length)),(21,.d (.int .i64 (t _ λ_=>v.2.1)))]) (λv=>[(2,.row 1 (t _ λ_=>v.1)),(0,.row 6 (t _ λ_=>v.2.2))]) J1 ?_;cbv;refine aC ⟨m,([],_,_),(iB _ _ _ _).2 ?_,by simp only[ht];rfl,?_⟩
 .exact⟨0,L,[],rfl,by simp,hr,rfl,hkL.symm,rfl,rfl⟩
 rintro n ⟨o,i,u⟩ hj;replace hj:=(iB _ _ _ _).1 hj;obtain⟨q,cur,out,rfl,j1,ju,jo,j2,j3,j4⟩:=hj;have OJ:u.length=cur.length:=by rw[ju,lgM]
 have vM:o.length=out.length:=by rw[jo,lgM]
 cbv;apply aj<;>intro h2
 .simp[ht,aa]at h2;cbv;(refine ar (O7 ht _ _ _ _ (l:=cur) (by simp only[ht];exact ju) (by omega)) (by simp only[ht];exact⟨by rw[ju,lgM];exact j2.symm,hY⟩) (λrb X8=>?_);simp only[ht]at X8;rw[K5 (show 0<n by((try simp only[aa]at*);omega)),<-X8]at j4;have hlt:rb.ok=true->rb.at_<cur.length:=λg=>by rw[X8]at g ⊢;exact Xb g);cbv;apply aj<;>intro h3
  .simp[ht]at h3;cbv;refine ak ?_;(simp only[ht];rw[HA ‹_› hm hL,j4,h3];rfl)
  simp[ht]at h3;cbv;refine⟨?_,?_⟩
  ·(simp only[ht];have hl4:rb.at_<cur.length:=hlt ‹_›;exact⟨Int.natCast_nonneg _,by rw[<-j2];exact Int.ofNat_lt.2 hl4⟩)
  cbv;(have BJ:=hlt ‹_›;obtain⟨y,hy⟩:∃y,cur[rb.at_]?=some y:=⟨_,vaj BJ⟩;have hyd:cur.getD rb.at_ default=y:=(by simp[vam,hy]);rw[hyd]at j4;refine YI (cK.aS t y) (by simp only[ht];rw[ju,lgM];exact BJ) (by simp only[ht];rw[ju];simp[vam,hy,cK.cells,cK.aS,ht]) ?_);cbv;refine⟨?_,?_⟩
  ·(simp only[ht];grind)
  refine⟨?_,?_⟩
  ·(simp only[ht];have hl4:rb.at_<cur.length:=hlt ‹_›;exact⟨Int.natCast_nonneg _,by rw[<-j2];exact Int.ofNat_lt.2 hl4⟩)
  refine⟨?_,?_⟩
  ·(simp only[ht];rw[ju,lgM];refine⟨BJ,?_⟩;simp[vam,hy,cK.cells];done)
  cbv;refine bA (_,_,_) (by simp only[ht,<-vaa];rfl) (n-1) ?_ ((iB _ _ _ _).2 ?_)
  ·((try simp only[aa]at*);omega)
  simp only[aa];(exact⟨q+1,cur.set rb.at_ {y with free:=rb.left},out++[y.node],aG (by((try simp only[aa]at*);omega)),by((try simp only[aa]at*);omega),Uq ju hy _,by simp[jo],by simp[j2],by simp[j3],by rw[j4,h3];rfl⟩)
 simp[ht,aa]at h2;cbv;refine ia hY (by simp[ht]) rfl rfl rfl ?_;(simp only[ht];rw[HA ‹_› hm hL,j4,show n=0 by((try simp only[aa]at*);omega)];simp[zP,jo];done)
theorem Xd(ht:TT t)(d1 d2 d3 d4 c:Int){l:List cK}{es:List (List D)}(aD:es=l.map cK.cells)(hl:l.length<1000000)(hlb:∀s∈l,s.labels.length<1000000000){x:List Term}{xr:List (List D)}(Hz:xr=x.map Term.cells)(hx:x.length<1000000000)(HO:∀m∈x,m.fk.length<1000000000)
 (h9:fitting l x=[]):FC 61 [SL es,SL xr,V4 d1 d2 d3 d4,bf c] [] (.ret (ZY t (t _ λ_=>fit l x ⟨d1,d2,d3,d4⟩ c))) []:=by
 obtain⟨m,hm⟩:∃m:Nat,(m:Int)=max c 0:=⟨(max c 0).toNat,by omega⟩;refine cC ht Tryz.func61 (N:=47) ?_;cbv;have ay:es.length=l.length:=by rw[aD,lgM]
 have NB:xr.length=x.length:=by rw[Hz,lgM]
 apply aj<;>intro h0
 .simp[ht]at h0;cbv;refine ak ?_;(simp only[ht];rw[O8 ‹_›];rfl)
 simp[ht]at h0;cbv;(refine yl hY (NI ht aD hl hlb Hz hx HO h9) hY rfl rfl rfl ?_);cbv;obtain⟨J1,iB⟩:∃J1:Nat->List (List D)×Int->Prop,∀n o i,J1 n (o,i)↔(i=0/\n=m/\o=[]):=⟨λn v=>match v with|(o,i)=>(i=0/\n=m/\o=[]),λ_ _ _=>Iff.rfl⟩;refine bw ⟨[0,6,10,20,21],[(10,1)],[]⟩ (σ:=List (List D)×Int) (λv=>[(10,.ow 1 1 (t _ λ_=>(v.1).length)),(21,.d (.int .i64 (t _ λ_=>v.2)))]) (λv=>[(1,.row 1 (t _ λ_=>v.1))]) J1 ?_;cbv;refine aC ⟨m,([],_),(iB _ _ _).2 ?_,by simp only[ht];rfl,?_⟩
 .exact⟨rfl,rfl,rfl⟩
 rintro n ⟨o,i⟩ hj;replace hj:=(iB _ _ _).1 hj;obtain⟨rfl,j1,rfl⟩:=hj;cbv;apply aj<;>intro h2
 .simp[ht]at h2;cbv;(refine ar (O7 ht _ _ _ _ (l:=[]) rfl (by simp)) (by simp) (λrb X8=>?_);simp only[ht]at X8;replace X8:rb=⟨0,bz.zero,false⟩:=X8;subst X8);cbv;apply aj<;>intro h3
  .simp[ht]at h3;cbv;refine ak ?_;(simp only[ht];rw[HA ‹_› hm h9.symm,K5 (show 0<m by((try simp only[aa]at*);omega))];rfl)
  simp[ht]at h3
 simp[ht]at h2;cbv;refine ia hY (by simp[ht]) rfl rfl rfl ?_;(simp only[ht];rw[HA ‹_› hm h9.symm,show m=0 by((try simp only[aa]at*);omega)];rfl)
theorem HB(ht:TT t)(d1 d2 d3 d4 c:Int){l:List cK}{es:List (List D)}(aD:es=l.map cK.cells)(hl:l.length<1000000)(hlb:∀s∈l,s.labels.length<1000000000){x:List Term}{xr:List (List D)}(Hz:xr=x.map Term.cells)(hx:x.length<1000000000)(HO:∀m∈x,m.fk.length<1000000000):
 FC 61 [SL es,SL xr,V4 d1 d2 d3 d4,bf c] [] (.ret (ZY t (t _ λ_=>fit l x ⟨d1,d2,d3,d4⟩ c))) []:=by
 by_cases h9:fitting l x=[]
 .exact Xd ht d1 d2 d3 d4 c aD hl hlb Hz hx HO h9
 exact Xc ht d1 d2 d3 d4 c aD hl hlb Hz hx HO h9
theorem tm8(a:Nat):(a:Int).tmod 8=((a%8:Nat):Int):=by rw[Int.tmod_eq_emod_of_nonneg (by omega)];rfl
theorem aeE(a:Nat):(a:Int).tmod 12=((a%12:Nat):Int):=by rw[Int.tmod_eq_emod_of_nonneg (by omega)];rfl
theorem tm5(a:Nat):(a:Int).tmod 5=((a%5:Nat):Int):=by rw[Int.tmod_eq_emod_of_nonneg (by omega)];rfl
theorem tm4(a:Nat):(a:Int).tmod 4=((a%4:Nat):Int):=by rw[Int.tmod_eq_emod_of_nonneg (by omega)];rfl
theorem tm3(a:Nat):(a:Int).tmod 3=((a%3:Nat):Int):=by rw[Int.tmod_eq_emod_of_nonneg (by omega)];rfl
theorem tm2(a:Nat):(a:Int).tmod 2=((a%2:Nat):Int):=by rw[Int.tmod_eq_emod_of_nonneg (by omega)];rfl
theorem td5(a:Nat):(a:Int).tdiv 5=((a / 5:Nat):Int):=by rw[Int.tdiv_eq_ediv_of_nonneg (by omega)];rfl
theorem aeF(a:Nat):(a:Int).tdiv 25=((a / 25:Nat):Int):=by rw[Int.tdiv_eq_ediv_of_nonneg (by omega)];rfl
theorem td3(a:Nat):(a:Int).tdiv 3=((a / 3:Nat):Int):=by rw[Int.tdiv_eq_ediv_of_nonneg (by omega)];rfl
theorem wu8(a:Nat)(h:a<256):IntKind.u8.wrap (a:Int)=(a:Int):=by simp only[IntKind.wrap];simp[IntKind.bits,IntKind.signed];omega
theorem Xe(a:Nat)(h:a<256):IntKind.u64.wrap (a:Int)=(a:Int):=by simp only[IntKind.wrap];simp[IntKind.bits,IntKind.signed];omega
theorem Ur(a:Nat)(h:a<1000000000):IntKind.i64.wrap (a:Int)=(a:Int):=wrap64 (by omega) (by omega)
def aeH(t:Th)(x:Ask):AV:=.agg [ST x.path,aA x.iI.a,aA x.iI.b,aA x.iI.c,aA x.iI.d,bf x.count,bf x.prio,bf x.dX,SL (t _ λ_=>x.cj.map Term.cells)]
abbrev U8(x:Int):AV:=.d (.int .u8 x)
def HC:List (List D):=[[D.str [97]],[D.str [97,47,98]],[D.str [98]],[D.str [206,177,206,178]]]
theorem Us(k:Nat):(0<=((k%4:Nat):Int))/\((k%4:Nat):Int)<HC.length/\∀r,r∈HC->r.length=1:=by
 refine⟨by omega,?_,by decide+revert⟩;show((k%4:Nat):Int)<(4:Nat)
 omega
theorem Ut(k:Nat):HC.getD ((k%4:Nat):Int).toNat []=[D.str (Du.getD (k%4) [])]:=by
 have:∀k<4,HC.getD ((k:Nat):Int).toNat []=[D.str (Du.getD k [])]
  |0,_=>rfl|1,_=>rfl|2,_=>rfl|3,_=>rfl|k+4,h=>by omega
 exact this _ (Nat.mod_lt _ (by decide))
theorem HD(ht:TT t)(k a b c d:Int)(x:iQ)(hx:x.u)(hk:k=x.kind)(ha:a=x.a)(hb:b=x.b)(hc:c=x.c)(hd:d=x.d):
 FC 60 [.agg [U8 k,U8 a,U8 b,U8 c,U8 d]] [] (.ret (aeH t (t _ λ_=>Bu x))) []:=by
 obtain⟨u1,u2,u3,u4,u5⟩:=hx;obtain⟨nm,hnm⟩:∃nm,nm=Du.getD (x.a%4) []:=⟨_,rfl⟩;have w1:IntKind.u64.wrap (b.tmod 5)=((x.b%5:Nat):Int):=by rw[hb,tm5,Xe _ (by omega)]
 have w2:IntKind.u64.wrap ((IntKind.u8.wrap (b.tdiv 5)).tmod 5)=((x.b / 5%5:Nat):Int):=by rw[hb,td5,wu8 _ (by omega),tm5,Xe _ (by omega)]
 have w3:IntKind.u64.wrap ((IntKind.u8.wrap (b.tdiv 25)).tmod 3)=((x.b / 25%3:Nat):Int):=by rw[hb,aeF,wu8 _ (by omega),tm3,Xe _ (by omega)]
 have w4:IntKind.i64.wrap (1+IntKind.i64.wrap (c.tmod 3))=((1+x.c%3:Nat):Int):=by rw[hc,tm3,Ur _ (by omega),show(1:Int)+((x.c%3:Nat):Int)=((1+x.c%3:Nat):Int) by omega,Ur _ (by omega)]
 have w5:IntKind.i64.wrap ((IntKind.u8.wrap (c.tdiv 3)).tmod 4)=((x.c / 3%4:Nat):Int):=by rw[hc,td3,wu8 _ (by omega),tm4,Ur _ (by omega)]
 have w6:IntKind.i64.wrap (1+IntKind.i64.wrap (d.tmod 5))=((1+x.d%5:Nat):Int):=by rw[hd,tm5,Ur _ (by omega),show(1:Int)+((x.d%5:Nat):Int)=((1+x.d%5:Nat):Int) by omega,Ur _ (by omega)]
 have w7:decide (d.tmod 2=1)=decide (x.d%2=1):=by rw[decide_eq_decide,hd,tm2];omega
 refine cC ht Tryz.func60 (N:=53) ?_;cbv;refine bE [false,false,false,false,false,false,false,false,false,false,false,false,false,false,false,false,false,false,false,false,false,false,false,false,false,false,false,false,false,false,false,false,false,false,false,false,false,false,true] ?_;cbv;iterate 3 refine gI (by simp) ?_
 refine gI (by simp[ht]) ?_;(refine jG [.str nm] (by simp only[ht,ha,tm4];exact Us x.a) (by simp only[ht,ha,tm4];rw[hnm];exact Ut x.a) ?_);cbv;iterate 3 refine gI (by simp) ?_
 refine gI (by simp[ht]) ?_;iterate 3 refine gI (by simp) ?_
 iterate 2 refine gI (by simp[ht]) ?_
 iterate 3 refine gI (by simp) ?_
 iterate 2 refine gI (by simp[ht]) ?_
 iterate 4 refine gI (by simp) ?_
 refine gI (by simp[ht]) ?_;iterate 4 refine gI (by simp) ?_
 iterate 2 refine gI (by simp[ht]) ?_
 iterate 3 refine gI (by simp) ?_
 refine gI (by simp[ht]) ?_;iterate 3 refine gI (by simp) ?_
 apply aj<;>intro h0
 .simp[ht]at h0;cbv;refine⟨?_,?_⟩
  ·(simp only[ht,aa]at*;omega)
  cbv;refine ak ?_;(simp only[ht,w1,w2,w3,w4,w5,w6,w7,hnm,Bu];rw[if_pos (show 200<x.d by((try simp only[aa]at*);omega))];rfl)
 simp[ht]at h0;cbv;refine ak ?_;(simp only[ht,w1,w2,w3,w4,w5,w6,hnm,Bu];rw[if_neg (show¬200<x.d by((try simp only[aa]at*);omega))];rfl)
theorem Q3:∀c<8,∀i<4,(fA (c*32) i).nodes.length<=4:=by decide+kernel
theorem DV{N i:Nat}(hN:N<256)(hi:i<4):(fA N i).nodes.length<1000000000:=by
 rw[JY];have:=Q3 (N / 32) (by omega) i hi
 omega
theorem NJ:∀k,∀p∈Bv k,p.sm:=by
 intro k p hp;unfold Bv at hp;split at hp
 .rw[List.mem_singleton.1 hp];rename_i h;have:k=0∨k=1:=by omega
  rcases this with rfl|rfl<;>exact⟨by decide,by decide⟩
 cases hp
theorem Uu:∀k<3,∀N<256,(((N:Nat):Int).fdiv (2^min (IntKind.i64.wrap (5+((k:Nat):Int))).toNat IntKind.u8.bits)).tmod 2=0↔V9 N k=true:=by decide+kernel
theorem Ah{a z:Int}{N k:Nat}(hN:N<256)(ea:a=N)(h:(a.fdiv (2^min (IntKind.i64.wrap z).toNat IntKind.u8.bits)).tmod 2=0)(hk:k<3)(hz:z=5+((k:Nat):Int)):V9 N k=true:=by subst ea hz;exact(Uu k hk N hN).1 h
theorem FL{a z:Int}{N k:Nat}(hN:N<256)(ea:a=N)(h:¬(a.fdiv (2^min (IntKind.i64.wrap z).toNat IntKind.u8.bits)).tmod 2=0)(hk:k<3)(hz:z=5+((k:Nat):Int)):¬V9 N k=true:=by subst ea hz;exact λg=>h ((Uu k hk N hN).2 g)
theorem qE{N k:Nat}{nm:az}{w:Int}{r:cR×Int}(h:r=sD ⟨(fA N k).nodes,(fA N k).places⟩ ⟨nm,⟨w,9,9,9⟩,Bv k,false⟩)(hnm:nm=pH.getD k [])(hw:w=((4+2*k:Nat):Int))(hu:V9 N k=true):fA N (k+1)=r.1:=by subst hw hnm h;rw[fA,if_pos hu]
theorem vg{N k:Nat}(hu:¬V9 N k=true):fA N (k+1)=fA N k:=by rw[fA,if_neg hu]
theorem DW:∀k<3,∀m<5,IntKind.u64.wrap (IntKind.i64.wrap (IntKind.i64.wrap (6+IntKind.i64.wrap (4*((k:Nat):Int)))+IntKind.i64.wrap ((m:Nat):Int)))=((6+4*k+m:Nat):Int):=by decide+kernel
theorem Ai{m k:Nat}{p:az}{w:Int}{r:List aR×Int}(h:r=yA (tQ m k) p ⟨w,20,20,20⟩)(hp:p=XU.getD k [])(hw:w=((6+4*k+m:Nat):Int)):r.1=tQ m (k+1):=by subst hw hp h;rfl
theorem DX(ht:TT t)(N:Nat)(hN:N<256){a:Int}(ea:a=N):FC 9 [.d (.int .u8 a)] [] (.ret (rS t (t _ λ_=>dY N))) []:=by
 have hm:N%5<5:=Nat.mod_lt _ (by decide);have hl0:=S3 (N%5) hm
 refine cC ht Tryz.func9 (N:=81) ?_;cbv;refine aM (O1 ht) hY (λr0 bM=>?_);simp only[ht]at bM;cbv;((refine aM (BQ ht _ _ _ _ _ (l:=[⟨[],bz.zero,bz.zero⟩]) (by simp only[ht,bM];rfl) (by decide) (by decide) (by decide)) (by simp) (λr1 ej=>?_)));cbv;obtain⟨J1,iB⟩:∃J1:Nat->Int×List (List D)->Prop,∀m i tr,J1 m (i,tr)↔((i=0/\m=3/\tr=(tQ (N%5) 0).map aR.cells)∨(i=1/\m=2/\tr=(tQ (N%5) 1).map aR.cells)∨(i=2/\m=1/\tr=(tQ (N%5) 2).map aR.cells)∨(i=3/\m=0/\tr=(tQ (N%5) 3).map aR.cells)):=⟨λm v=>match v with|(i,tr)=>((i=0/\m=3/\tr=(tQ (N%5) 0).map aR.cells)∨(i=1/\m=2/\tr=(tQ (N%5) 1).map aR.cells)∨(i=2/\m=1/\tr=(tQ (N%5) 2).map aR.cells)∨(i=3/\m=0/\tr=(tQ (N%5) 3).map aR.cells)),λ_ _ _=>Iff.rfl⟩;refine bw ⟨[0,2,3,18,19,20],[],[]⟩ (σ:=Int×List (List D)) (λv=>[(20,.d (.int .i64 (t _ λ_=>v.1)))]) (λv=>[(1,.var [AV.d (D.int IntKind.u64 r0.1),AV.d (D.int IntKind.u64 r0.2),AV.d (D.sl (t (List (List D)) λx=>List.map (λx=>[D.str (Node.name x),D.int IntKind.u64 (bz.a (Node.cap x)),D.int IntKind.u64 (bz.b (Node.cap x)),D.int IntKind.u64 (bz.c (Node.cap x)),D.int IntKind.u64 (bz.d (Node.cap x)),D.sl (List.map (λp=>[D.str (bT.key p),D.str (bT.value p)]) (Node.labels x)),D.bool (Node.up x)]) (cR.nodes (cI.bt r0)))),AV.d (D.sl (t (List (List D)) λx=>List.map (λx=>[D.int IntKind.u64 (Place.bL x),D.str (Place.node x),D.int IntKind.u64 (bz.a (Place.v x)),D.int IntKind.u64 (bz.b (Place.v x)),D.int IntKind.u64 (bz.c (Place.v x)),D.int IntKind.u64 (bz.d (Place.v x))]) (cR.places (cI.bt r0)))),.d (.sl (t _ λ_=>v.2)),AV.d (D.sl (t (List (List D)) λx=>List.map Jb.cells (cI.aJ r0))),AV.d (D.sl (t (List (List D)) λx=>List.map bR.cells (cI.queue r0))),AV.d (D.int IntKind.u64 r0.7.1),AV.d (D.sl (t (List (List D)) λx=>List.map cw.cells (oq.l (cI.ev r0)))),AV.d (D.int IntKind.u64 r0.8.1),AV.d (D.sl (t (List (List D)) λx=>List.map cw.cells (oq.l (cI.au r0))))])]) J1 ?_;cbv;refine aC ⟨3,(_,_),(iB _ _ _).2 ?_,by simp only[ht];rfl,?_⟩
 .exact .inl ⟨rfl,rfl,by simp only[ht,ej];rfl⟩
 rintro m ⟨i,tr⟩ hj;replace hj:=(iB _ _ _).1 hj;(rcases hj with⟨rfl,jm,jt⟩|⟨rfl,jm,jt⟩|⟨rfl,jm,jt⟩|⟨rfl,jm,jt⟩)
 .cbv;apply aj<;>intro h2
  .simp[ht]at h2;cbv;((refine jG [.str [97]] (by simp only[ht];decide) (by simp only[ht];rfl) ?_));cbv;refine⟨?_,?_⟩
   ·(simp only[ht];decide)
   cbv;((refine aM (BQ ht _ _ _ _ _ (l:=tQ (N%5) 0) (by simp only[ht];exact jt) (by have:=hl0 0 (by decide);omega) (by decide) (by decide)) (by simp) (λr2 dj=>?_)));cbv;refine bA (_,_) (by simp only[ht];rfl) (m-1) ?_ ((iB _ _ _).2 ?_)
   .omega
   exact .inr (.inl ⟨by rw[bN (by decide) (by decide)];rfl,by omega,vac _ (Ai (k:=0) (dj.trans (ht _ _)) rfl (by simp only[ht,ea,tm5];exact DW 0 (by decide) _ hm))⟩)
  simp[ht]at h2
 .cbv;apply aj<;>intro h3
  .simp[ht]at h3;cbv;((refine jG [.str [97,47,98]] (by simp only[ht];decide) (by simp only[ht];rfl) ?_));cbv;refine⟨?_,?_⟩
   ·(simp only[ht];decide)
   cbv;((refine aM (BQ ht _ _ _ _ _ (l:=tQ (N%5) 1) (by simp only[ht];exact jt) (by have:=hl0 1 (by decide);omega) (by decide) (by decide)) (by simp) (λr2 dj=>?_)));cbv;refine bA (_,_) (by simp only[ht];rfl) (m-1) ?_ ((iB _ _ _).2 ?_)
   .omega
   exact .inr (.inr (.inl ⟨by rw[bN (by decide) (by decide)];rfl,by omega,vac _ (Ai (k:=1) (dj.trans (ht _ _)) rfl (by simp only[ht,ea,tm5];exact DW 1 (by decide) _ hm))⟩))
  simp[ht]at h3
 .cbv;apply aj<;>intro h4
  .simp[ht]at h4;cbv;((refine jG [.str [98]] (by simp only[ht];decide) (by simp only[ht];rfl) ?_));cbv;refine⟨?_,?_⟩
   ·(simp only[ht];decide)
   cbv;((refine aM (BQ ht _ _ _ _ _ (l:=tQ (N%5) 2) (by simp only[ht];exact jt) (by have:=hl0 2 (by decide);omega) (by decide) (by decide)) (by simp) (λr2 dj=>?_)));cbv;refine bA (_,_) (by simp only[ht];rfl) (m-1) ?_ ((iB _ _ _).2 ?_)
   .omega
   exact .inr (.inr (.inr ⟨by rw[bN (by decide) (by decide)];rfl,by omega,vac _ (Ai (k:=2) (dj.trans (ht _ _)) rfl (by simp only[ht,ea,tm5];exact DW 2 (by decide) _ hm))⟩))
  simp[ht]at h4
 cbv;apply aj<;>intro h5
 .simp[ht]at h5
 simp[ht]at h5;cbv;obtain⟨J6,HU⟩:∃J6:Nat->Int×List (List D)×List (List D)->Prop,∀m i x y,J6 m (i,x,y)↔((i=0/\m=3/\x=(fA N 0).nodes.map Node.cells/\y=(fA N 0).places.map Place.cells)∨(i=1/\m=2/\x=(fA N 1).nodes.map Node.cells/\y=(fA N 1).places.map Place.cells)∨(i=2/\m=1/\x=(fA N 2).nodes.map Node.cells/\y=(fA N 2).places.map Place.cells)∨(i=3/\m=0/\x=(fA N 3).nodes.map Node.cells/\y=(fA N 3).places.map Place.cells)):=⟨λm v=>match v with|(i,x,y)=>((i=0/\m=3/\x=(fA N 0).nodes.map Node.cells/\y=(fA N 0).places.map Place.cells)∨(i=1/\m=2/\x=(fA N 1).nodes.map Node.cells/\y=(fA N 1).places.map Place.cells)∨(i=2/\m=1/\x=(fA N 2).nodes.map Node.cells/\y=(fA N 2).places.map Place.cells)∨(i=3/\m=0/\x=(fA N 3).nodes.map Node.cells/\y=(fA N 3).places.map Place.cells)),λ_ _ _ _=>Iff.rfl⟩;refine bw ⟨[0,2,3,43,44,45],[],[]⟩ (σ:=Int×List (List D)×List (List D)) (λv=>[(45,.d (.int .i64 (t _ λ_=>v.1)))]) (λv=>[(1,.var [AV.d (D.int IntKind.u64 r0.1),AV.d (D.int IntKind.u64 r0.2),.d (.sl (t _ λ_=>v.2.1)),.d (.sl (t _ λ_=>v.2.2)),AV.d (D.sl (t (List (List D)) λx=>Prod.snd (3,tr))),AV.d (D.sl (t (List (List D)) λx=>List.map Jb.cells (cI.aJ r0))),AV.d (D.sl (t (List (List D)) λx=>List.map bR.cells (cI.queue r0))),AV.d (D.int IntKind.u64 r0.7.1),AV.d (D.sl (t (List (List D)) λx=>List.map cw.cells (oq.l (cI.ev r0)))),AV.d (D.int IntKind.u64 r0.8.1),AV.d (D.sl (t (List (List D)) λx=>List.map cw.cells (oq.l (cI.au r0))))])]) J6 ?_;cbv;refine aC ⟨3,(_,_,_),(HU _ _ _ _).2 ?_,by simp only[ht];rfl,?_⟩
 .exact .inl ⟨rfl,rfl,by rw[bM];rfl,by rw[bM];rfl⟩
 rintro m ⟨i,x,y⟩ hj;replace hj:=(HU _ _ _ _).1 hj;(rcases hj with⟨rfl,jm,jx,jy⟩|⟨rfl,jm,jx,jy⟩|⟨rfl,jm,jx,jy⟩|⟨rfl,jm,jx,jy⟩)
 .cbv;apply aj<;>intro h7
  .simp[ht]at h7;cbv;((refine jG [.str [110,49]] (by simp only[ht];decide) (by simp only[ht];rfl) ?_));cbv;refine⟨?_,?_⟩
   ·(simp only[ht];decide)
   refine⟨?_,?_⟩
   ·(simp only[ht];decide)
   cbv;apply aj<;>intro h8
   .simp[ht]at h8;cbv;apply aj<;>intro h9
    .simp[ht]at h9;cbv;((refine jG [.str [97]] (by simp only[ht];decide) (by simp only[ht];rfl) ?_));cbv;((refine aM (MT ht (l:=(fA N 0).nodes) (ps:=(fA N 0).places) (by simp only[ht];exact jx) (by simp only[ht];exact jy) _ _ _ _ _ (lb:=Bv 0) rfl false (DV hN (by decide)) (by decide) (by decide) (NJ _)) (by simp) (λr4 eY=>?_)));cbv;refine bA (_,_,_) (by simp only[ht];rfl) (m-1) ?_ ((HU _ _ _ _).2 ?_)
     .omega
     (refine .inr (.inl ⟨(by rw[bN (by decide) (by decide)];rfl),by omega,?_,?_⟩);((exact vac (λp:cR=>List.map Node.cells p.nodes) (qE (k:=0) (eY.trans (ht _ _)) rfl (by simp only[ht];decide) (Ah hN ea ‹_› (by decide) (by decide))).symm));((exact vac (λp:cR=>List.map Place.cells p.places) (qE (k:=0) (eY.trans (ht _ _)) rfl (by simp only[ht];decide) (Ah hN ea ‹_› (by decide) (by decide))).symm)))
    simp[ht]at h9
   simp[ht]at h8;cbv;refine bA (_,_,_) (by simp only[ht];rfl) (m-1) ?_ ((HU _ _ _ _).2 ?_)
   .omega
   (refine .inr (.inl ⟨(by rw[bN (by decide) (by decide)];rfl),by omega,?_,?_⟩);((exact jx.trans (vac (λp:cR=>List.map Node.cells p.nodes) (vg (N:=N) (k:=0) (FL hN ea ‹_› (by decide) (by decide))).symm)));((exact jy.trans (vac (λp:cR=>List.map Place.cells p.places) (vg (N:=N) (k:=0) (FL hN ea ‹_› (by decide) (by decide))).symm))))
  simp[ht]at h7
 .cbv;apply aj<;>intro h10
  .simp[ht]at h10;cbv;((refine jG [.str [110,50]] (by simp only[ht];decide) (by simp only[ht];rfl) ?_));cbv;refine⟨?_,?_⟩
   ·(simp only[ht];decide)
   refine⟨?_,?_⟩
   ·(simp only[ht];decide)
   cbv;apply aj<;>intro h11
   .simp[ht]at h11;cbv;apply aj<;>intro h12
    .simp[ht]at h12;cbv;((refine jG [.str [98]] (by simp only[ht];decide) (by simp only[ht];rfl) ?_));cbv;((refine aM (MT ht (l:=(fA N 1).nodes) (ps:=(fA N 1).places) (by simp only[ht];exact jx) (by simp only[ht];exact jy) _ _ _ _ _ (lb:=Bv 1) rfl false (DV hN (by decide)) (by decide) (by decide) (NJ _)) (by simp) (λr4 eY=>?_)));cbv;refine bA (_,_,_) (by simp only[ht];rfl) (m-1) ?_ ((HU _ _ _ _).2 ?_)
     .omega
     (refine .inr (.inr (.inl ⟨(by rw[bN (by decide) (by decide)];rfl),by omega,?_,?_⟩));((exact vac (λp:cR=>List.map Node.cells p.nodes) (qE (k:=1) (eY.trans (ht _ _)) rfl (by simp only[ht];decide) (Ah hN ea ‹_› (by decide) (by decide))).symm));((exact vac (λp:cR=>List.map Place.cells p.places) (qE (k:=1) (eY.trans (ht _ _)) rfl (by simp only[ht];decide) (Ah hN ea ‹_› (by decide) (by decide))).symm)))
    simp[ht]at h12
   simp[ht]at h11;cbv;refine bA (_,_,_) (by simp only[ht];rfl) (m-1) ?_ ((HU _ _ _ _).2 ?_)
   .omega
   (refine .inr (.inr (.inl ⟨(by rw[bN (by decide) (by decide)];rfl),by omega,?_,?_⟩));((exact jx.trans (vac (λp:cR=>List.map Node.cells p.nodes) (vg (N:=N) (k:=1) (FL hN ea ‹_› (by decide) (by decide))).symm)));((exact jy.trans (vac (λp:cR=>List.map Place.cells p.places) (vg (N:=N) (k:=1) (FL hN ea ‹_› (by decide) (by decide))).symm))))
  simp[ht]at h10
 .cbv;apply aj<;>intro OH
  .simp[ht]at OH;cbv;((refine jG [.str [110,51]] (by simp only[ht];decide) (by simp only[ht];rfl) ?_));cbv;refine⟨?_,?_⟩
   ·(simp only[ht];decide)
   refine⟨?_,?_⟩
   ·(simp only[ht];decide)
   cbv;apply aj<;>intro X3
   .simp[ht]at X3;cbv;apply aj<;>intro h15
    .simp[ht]at h15
    simp[ht]at h15;cbv;((refine aM (MT ht (l:=(fA N 2).nodes) (ps:=(fA N 2).places) (by simp only[ht];exact jx) (by simp only[ht];exact jy) _ _ _ _ _ (lb:=Bv 2) rfl false (DV hN (by decide)) (by decide) (by decide) (NJ _)) (by simp) (λr4 eY=>?_)));cbv;refine bA (_,_,_) (by simp only[ht];rfl) (m-1) ?_ ((HU _ _ _ _).2 ?_)
    .omega
    (refine .inr (.inr (.inr ⟨(by rw[bN (by decide) (by decide)];rfl),by omega,?_,?_⟩));((exact vac (λp:cR=>List.map Node.cells p.nodes) (qE (k:=2) (eY.trans (ht _ _)) rfl (by simp only[ht];decide) (Ah hN ea ‹_› (by decide) (by decide))).symm));((exact vac (λp:cR=>List.map Place.cells p.places) (qE (k:=2) (eY.trans (ht _ _)) rfl (by simp only[ht];decide) (Ah hN ea ‹_› (by decide) (by decide))).symm)))
   simp[ht]at X3;cbv;refine bA (_,_,_) (by simp only[ht];rfl) (m-1) ?_ ((HU _ _ _ _).2 ?_)
   .omega
   (refine .inr (.inr (.inr ⟨(by rw[bN (by decide) (by decide)];rfl),by omega,?_,?_⟩));((exact jx.trans (vac (λp:cR=>List.map Node.cells p.nodes) (vg (N:=N) (k:=2) (FL hN ea ‹_› (by decide) (by decide))).symm)));((exact jy.trans (vac (λp:cR=>List.map Place.cells p.places) (vg (N:=N) (k:=2) (FL hN ea ‹_› (by decide) (by decide))).symm))))
  simp[ht]at OH
 cbv;apply aj<;>intro TG
 .simp[ht]at TG
 simp[ht]at TG;cbv;refine ak ?_;(simp only[ht,bM,jt,jx,jy];rfl)
theorem FM(ht:TT t){es:List (List D)}(hr:∀r∈es,r.length=12):FC 38 [SL es] [] (.ret (.cl es)) []:=by
 refine cC ht Tryz.func38 (N:=9) ?_;cbv;refine⟨?_,SC hY rfl ?_⟩
 .simp only[ht,aa,b9];exact⟨⟨⟨by omega,Int.le_refl _⟩,hY⟩,hr⟩
 simp[ht,aa,gZ]
theorem Q4(ht:TT t)(rd nx ef af:Int){nl:List Node}{pl:List Place}{tl:List aR}{jl:List Jb}{ql:List bR}{el al:List cw}{ns ps ts js qs es eO:List (List D)}(ij:ns=nl.map Node.cells)(hps:ps=pl.map Place.cells)(hts:ts=tl.map aR.cells)(gD:js=jl.map Jb.cells)(fX:qs=ql.map bR.cells)(aD:es=el.map cw.cells)(has:eO=al.map cw.cells)(ja jb jc jd jn jp jt:Int)(jq:az){iv:List Term}{oE:List (List D)}(gS:oE=iv.map Term.cells)(e0:List D)(er:List (List D))(hj:js=e0::er)(hx:(⟨jq,⟨ja,jb,jc,jd⟩,jn,jp,jt,iv⟩:Ask).sm)(htl:tl.length<100000)(hjl:jl.length<1000000)(X6:ql.length<1000000)(hel:el.length<1000000):
 FC 10 [.agg [aA rd,aA nx,SL ns,SL ps,SL ts,SL js,SL qs,aA ef,SL es,aA af,SL eO],.agg [ST jq,aA ja,aA jb,aA jc,aA jd,bf jn,bf jp,bf jt,SL oE]] [] (.ret (T3 t (t _ λ_=>dF ⟨rd,nx,⟨nl,pl⟩,tl,jl,ql,⟨ef,el⟩,⟨af,al⟩⟩ ⟨jq,⟨ja,jb,jc,jd⟩,jn,jp,jt,iv⟩))) []:=by
 subst hj;obtain⟨ck,UU⟩:∃ck,ck=c8 ⟨jq,⟨ja,jb,jc,jd⟩,jn,jp,jt,iv⟩:=⟨_,rfl⟩;obtain⟨th,hth⟩:∃th,th=iO tl jq:=⟨_,rfl⟩;obtain⟨⟨q9,e9⟩,h9⟩:∃r,r=gk ql ⟨nx,jp⟩:=⟨_,rfl⟩;have hS:dF ⟨rd,nx,⟨nl,pl⟩,tl,jl,ql,⟨ef,el⟩,⟨af,al⟩⟩ ⟨jq,⟨ja,jb,jc,jd⟩,jn,jp,jt,iv⟩=if ck≠0 then(⟨rd,nx,⟨nl,pl⟩,tl,jl,ql,⟨ef,el⟩,⟨af,al⟩⟩,0,ck)else if !th then(⟨rd,nx,⟨nl,pl⟩,tl,jl,ql,⟨ef,el⟩,⟨af,al⟩⟩,0,7)else if 32<=jl.length∨nx=18446744073709551615 then(⟨rd,nx,⟨nl,pl⟩,tl,jl,ql,⟨ef,el⟩,⟨af,al⟩⟩,0,9)else if e9≠0 then(⟨rd,nx,⟨nl,pl⟩,tl,jl,ql,⟨ef,el⟩,⟨af,al⟩⟩,0,e9)else
  (lI ⟨rd,IntKind.u64.wrap (nx+1),⟨nl,pl⟩,tl,jl++[⟨nx,⟨jq,⟨ja,jb,jc,jd⟩,jn,jp,jt,iv⟩,false,0⟩],q9,⟨ef,el⟩,⟨af,al⟩⟩ nx 1,nx,0):=by
  simp only[dF,<-UU,<-hth,<-h9,u64,<-bW]
 rw[hS];clear hS;have hr:∀r∈e0::er,r.length=12:=by rw[gD];intro r hr;obtain⟨y,_,rfl⟩:=List.mem_map.1 hr;rfl
 have hle:er.length+1=jl.length:=by have:=vac List.length gD;simpa using this
 obtain⟨h1,h2,h3,h4⟩:=id hx;simp only at h1 h2 h3 h4;refine cC ht Tryz.func10 (N:=68) ?_;cbv;obtain⟨dc,dm,dG,cM,ay,cG,rO⟩:=je ij hps hts fX aD has gS;refine ar (qA ht _ _ _ _ _ _ _ _ ‹_› ‹_›) hY (λr0 bM=>?_);simp only[ht]at bM;rw[<-UU]at bM;subst r0;cbv;apply aj<;>intro h1
 .simp[ht]at h1;cbv;refine ak ?_;(simp only[ht];grind)
 simp[ht]at h1;cbv;refine ar (Ae ht _ ‹_› (by omega) ‹_›) hY (λr2 dj=>?_);simp only[ht]at dj;rw[<-hth]at dj;subst r2;cbv;apply aj<;>intro h3
 .simp[ht]at h3;cbv;refine ak ?_;(simp only[ht];grind)
 simp[ht]at h3;cbv;iterate 3 refine gI (by simp[ht]) ?_
 refine pI (by simp[ht]) ?_;apply aj<;>intro h4
 .simp[ht,aa]at h4;cbv;refine ak ?_;(simp only[ht];grind)
 simp[ht,aa]at h4;cbv;refine aM (ue ht _ _ ‹_› ‹_›) hY (λr5 lp=>?_);simp only[ht]at lp;rw[<-h9]at lp;subst r5;cbv;apply aj<;>intro h6
 .simp[ht]at h6;cbv;refine ak ?_;(simp only[ht];grind)
 simp[ht]at h6;cbv;refine So [0,4,9,10] [false,false,false,false,false,false,false,false,false,false,false,false,true,true,true,true,true] (by kernel_rfl) (by kernel_rfl) (by kernel_rfl) (by kernel_rfl) (by kernel_rfl) ?_;cbv;iterate 3 refine gI (by simp) ?_
 refine .inl ?_;(refine og (λg=>⟨hY,hY,FM ht hr⟩) rfl rfl rfl ?_);cbv;iterate 4 refine gI (by simp) ?_
 refine gI (by(simp only[ht];intro _;refine⟨by simp only[List.length_cons,List.length_nil];omega,?_⟩;intro r h;rcases List.mem_append.1 h with h|h;exact hr r h;simp at h;subst h;rfl)) ?_;iterate 3 refine gI (by simp) ?_
 (refine aM (qD ht rd _ ef af nx 1 (nl:=nl) (pl:=pl) (tl:=tl) (jl:=jl++[⟨nx,⟨jq,⟨ja,jb,jc,jd⟩,jn,jp,jt,iv⟩,false,0⟩]) (ql:=q9) (el:=el) (al:=al) ij hps hts (by simp only[ht,gD];simp[Jb.cells,gS]) (by simp only[ht]) aD has hel) hY (λr9 dR=>?_);simp only[ht]at dR);cbv;refine ak ?_;(simp only[ht];grind)
theorem Q5(ht:TT t)(rd nx ef af:Int){nl:List Node}{pl:List Place}{tl:List aR}{jl:List Jb}{ql:List bR}{el al:List cw}{ns ps ts js qs es eO:List (List D)}(ij:ns=nl.map Node.cells)(hps:ps=pl.map Place.cells)(hts:ts=tl.map aR.cells)(gD:js=jl.map Jb.cells)(fX:qs=ql.map bR.cells)(aD:es=el.map cw.cells)(has:eO=al.map cw.cells)(ja jb jc jd jn jp jt:Int)(jq:az){iv:List Term}{oE:List (List D)}(gS:oE=iv.map Term.cells)(hj:js=[])(hx:(⟨jq,⟨ja,jb,jc,jd⟩,jn,jp,jt,iv⟩:Ask).sm)(htl:tl.length<100000)(hjl:jl.length<1000000)(X6:ql.length<1000000)(hel:el.length<1000000):
 FC 10 [.agg [aA rd,aA nx,SL ns,SL ps,SL ts,SL js,SL qs,aA ef,SL es,aA af,SL eO],.agg [ST jq,aA ja,aA jb,aA jc,aA jd,bf jn,bf jp,bf jt,SL oE]] [] (.ret (T3 t (t _ λ_=>dF ⟨rd,nx,⟨nl,pl⟩,tl,jl,ql,⟨ef,el⟩,⟨af,al⟩⟩ ⟨jq,⟨ja,jb,jc,jd⟩,jn,jp,jt,iv⟩))) []:=by
 subst hj;obtain⟨ck,UU⟩:∃ck,ck=c8 ⟨jq,⟨ja,jb,jc,jd⟩,jn,jp,jt,iv⟩:=⟨_,rfl⟩;obtain⟨th,hth⟩:∃th,th=iO tl jq:=⟨_,rfl⟩;obtain⟨⟨q9,e9⟩,h9⟩:∃r,r=gk ql ⟨nx,jp⟩:=⟨_,rfl⟩;have hS:dF ⟨rd,nx,⟨nl,pl⟩,tl,jl,ql,⟨ef,el⟩,⟨af,al⟩⟩ ⟨jq,⟨ja,jb,jc,jd⟩,jn,jp,jt,iv⟩=if ck≠0 then(⟨rd,nx,⟨nl,pl⟩,tl,jl,ql,⟨ef,el⟩,⟨af,al⟩⟩,0,ck)else if !th then(⟨rd,nx,⟨nl,pl⟩,tl,jl,ql,⟨ef,el⟩,⟨af,al⟩⟩,0,7)else if 32<=jl.length∨nx=18446744073709551615 then(⟨rd,nx,⟨nl,pl⟩,tl,jl,ql,⟨ef,el⟩,⟨af,al⟩⟩,0,9)else if e9≠0 then(⟨rd,nx,⟨nl,pl⟩,tl,jl,ql,⟨ef,el⟩,⟨af,al⟩⟩,0,e9)else
  (lI ⟨rd,IntKind.u64.wrap (nx+1),⟨nl,pl⟩,tl,jl++[⟨nx,⟨jq,⟨ja,jb,jc,jd⟩,jn,jp,jt,iv⟩,false,0⟩],q9,⟨ef,el⟩,⟨af,al⟩⟩ nx 1,nx,0):=by
  simp only[dF,<-UU,<-hth,<-h9,u64,<-bW]
 rw[hS];clear hS;have hle:jl=[]:=by cases jl with
  |nil=>rfl|cons x l=>cases gD
 obtain⟨h1,h2,h3,h4⟩:=id hx;simp only at h1 h2 h3 h4;refine cC ht Tryz.func10 (N:=68) ?_;cbv;obtain⟨dc,dm,dG,cM,ay,cG,rO⟩:=je ij hps hts fX aD has gS;refine ar (qA ht _ _ _ _ _ _ _ _ ‹_› ‹_›) hY (λr0 bM=>?_);simp only[ht]at bM;rw[<-UU]at bM;subst r0;cbv;apply aj<;>intro h1
 .simp[ht]at h1;cbv;refine ak ?_;(simp only[ht];grind)
 simp[ht]at h1;cbv;refine ar (Ae ht _ ‹_› (by omega) ‹_›) hY (λr2 dj=>?_);simp only[ht]at dj;rw[<-hth]at dj;subst r2;cbv;apply aj<;>intro h3
 .simp[ht]at h3;cbv;refine ak ?_;(simp only[ht];grind)
 simp[ht]at h3;cbv;iterate 3 refine gI (by simp[ht]) ?_
 refine pI (by simp[ht]) ?_;apply aj<;>intro h4
 .simp[ht]at h4;cbv;refine ak ?_;(simp only[ht];grind)
 simp[ht]at h4;cbv;refine aM (ue ht _ _ ‹_› ‹_›) hY (λr5 lp=>?_);simp only[ht]at lp;rw[<-h9]at lp;subst r5;cbv;apply aj<;>intro h6
 .simp[ht]at h6;cbv;refine ak ?_;(simp only[ht];grind)
 simp[ht]at h6;cbv;refine So [0,4,9,10] [false,false,false,false,false,false,false,false,false,false,false,false,true,true,true,true,true] (by kernel_rfl) (by kernel_rfl) (by kernel_rfl) (by kernel_rfl) (by kernel_rfl) ?_;cbv;iterate 3 refine gI (by simp) ?_
 refine .inl ?_;(refine og (λg=>⟨hY,hY,FM ht (by simp)⟩) rfl rfl rfl ?_);cbv;iterate 4 refine gI (by simp) ?_
 refine gI (by simp[ht]) ?_;iterate 3 refine gI (by simp) ?_
 (refine aM (qD ht rd _ ef af nx 1 (nl:=nl) (pl:=pl) (tl:=tl) (jl:=jl++[⟨nx,⟨jq,⟨ja,jb,jc,jd⟩,jn,jp,jt,iv⟩,false,0⟩]) (ql:=q9) (el:=el) (al:=al) ij hps hts (by simp only[ht,hle];simp[Jb.cells,gS]) (by simp only[ht]) aD has hel) hY (λr9 dR=>?_);simp only[ht]at dR);cbv;refine ak ?_;(simp only[ht];grind)
theorem qG(ht:TT t)(rd nx ef af:Int){nl:List Node}{pl:List Place}{tl:List aR}{jl:List Jb}{ql:List bR}{el al:List cw}{ns ps ts js qs es eO:List (List D)}(ij:ns=nl.map Node.cells)(hps:ps=pl.map Place.cells)(hts:ts=tl.map aR.cells)(gD:js=jl.map Jb.cells)(fX:qs=ql.map bR.cells)(aD:es=el.map cw.cells)(has:eO=al.map cw.cells)(ja jb jc jd jn jp jt:Int)(jq:az){iv:List Term}{oE:List (List D)}(gS:oE=iv.map Term.cells)(hx:(⟨jq,⟨ja,jb,jc,jd⟩,jn,jp,jt,iv⟩:Ask).sm)(htl:tl.length<100000)(hjl:jl.length<1000000)(X6:ql.length<1000000)(hel:el.length<1000000):
 FC 10 [.agg [aA rd,aA nx,SL ns,SL ps,SL ts,SL js,SL qs,aA ef,SL es,aA af,SL eO],.agg [ST jq,aA ja,aA jb,aA jc,aA jd,bf jn,bf jp,bf jt,SL oE]] [] (.ret (T3 t (t _ λ_=>dF ⟨rd,nx,⟨nl,pl⟩,tl,jl,ql,⟨ef,el⟩,⟨af,al⟩⟩ ⟨jq,⟨ja,jb,jc,jd⟩,jn,jp,jt,iv⟩))) []:=by
 cases js with
 |nil=>exact Q5 ht rd nx ef af ij hps hts gD fX aD has ja jb jc jd jn jp jt jq gS rfl hx htl hjl X6 hel|cons e0 er=>exact Q4 ht rd nx ef af ij hps hts gD fX aD has ja jb jc jd jn jp jt jq gS e0 er rfl hx htl hjl X6 hel
theorem qH(ht:TT t)(rd nx ef af:Int){nl:List Node}{pl:List Place}{tl:List aR}{jl:List Jb}{ql:List bR}{el al:List cw}{ns ps ts js qs es eO:List (List D)}(ij:ns=nl.map Node.cells)(hps:ps=pl.map Place.cells)(hts:ts=tl.map aR.cells)(gD:js=jl.map Jb.cells)(fX:qs=ql.map bR.cells)(aD:es=el.map cw.cells)(has:eO=al.map cw.cells)(id:Int){names:List az}{nr:List (List D)}(Zt:nr=names.map bp)(iC:∀x∈jl,x.x.iI.u'/\x.x.path.length<1000000000000)(htl:tl.length<100000)(hjl:jl.length<1000000)(IF:nl.length<1000000)(oB:pl.length<1000000)(X6:ql.length<1000000)(hel:el.length<1000000)(hnn:names.length<1000000):
 FC 12 [.agg [aA rd,aA nx,SL ns,SL ps,SL ts,SL js,SL qs,aA ef,SL es,aA af,SL eO],aA id,SL nr] [] (.ret (T2 t (t _ λ_=>dQ ⟨rd,nx,⟨nl,pl⟩,tl,jl,ql,⟨ef,el⟩,⟨af,al⟩⟩ id names))) []:=by
 refine cC ht Tryz.func12 (N:=100) ?_;cbv;obtain⟨dc,dm,dG,cF,cM,ay,cG⟩:=je ij hps hts gD fX aD has;have G6:nr.length=names.length:=by rw[Zt,lgM]
 refine ar (vf ht _ _ _ _ _ _ _ _ _ _ _ ‹_› (by omega)) hY (λr0 bM=>?_);simp only[ht]at bM;have ec:=Nn bM iC
 clear bM;rcases ec with⟨e1,e2⟩|⟨i,xi,xa,xb,xc,xd,xn,xp,xt,xf,xq,xr,xl,e1,e2,e3,e4,e5,⟨e6,e7⟩,e8⟩
 .cbv;apply aj<;>intro h1
  .simp[ht]at h1;cbv;refine ak ?_;(simp[dQ, *];done)
  simp[ht]at h1;omega
 cbv;apply aj<;>intro h2
 .simp[ht]at h2;(simp only[aa]at*;omega)
 simp[ht]at h2;cbv;refine El ht gD (cT:=Jb.aS t) e3 ‹_› (λ_=>rfl) (λ_=>(by(simp only[ht,Jb.aS];rfl))) ?_;cbv;apply aj<;>intro h4
 .cbv;refine ak ?_;(simp only[ht,dQ,e4,e5,kP];simp[*];done)
 cbv;apply aj<;>intro h5
 .simp[ht,aa,G6]at h5;cbv;refine ak ?_;(simp only[ht,dQ,e4,e5,kP];simp[*];done)
 simp[ht,aa,G6]at h5;cbv;(obtain⟨⟨⟨v1,v2,v3,v4⟩,vk⟩,hv⟩:∃r,r=eC ⟨xq,⟨xa,xb,xc,xd⟩,xn,xp,xt,xl⟩:=⟨_,rfl⟩;refine ar (uZ ht xq xa xb xc xd xn xp xt (sl:=xl) _ e6) hY (λr9 dR=>?_);simp only[ht]at dR;rw[<-hv]at dR;subst dR);cbv;apply aj<;>intro h6
 .simp[ht]at h6;cbv;refine ak ?_;(simp only[ht,dQ,e4,e5,kP,<-hv];(try (simp only[<-jU];clear jU));(try (simp only[<-dR];clear dR));simp[*];done)
 simp[ht]at h6;cbv;refine aM (M5 ht _ _ _ _ _ ‹_› ‹_› ‹_›) hY (λr7 jU=>?_);simp only[ht]at jU;cbv;apply aj<;>intro h8
 .simp[ht]at h8;cbv;refine ak ?_;(simp only[ht,dQ,e4,e5,kP,<-hv];(try (simp only[<-jU];clear jU));(try (simp only[<-dR];clear dR));simp[*];done)
 simp[ht]at h8;cbv;refine aM (Ze ht _ _ _ _ _ ‹_› ‹_› ‹_› (by omega) (by omega) (by omega)) hY (λr9 dR=>?_);simp only[ht]at dR;cbv;apply aj<;>intro h10
 .simp[ht]at h10;cbv;refine ak ?_;(simp only[ht,dQ,e4,e5,kP,<-hv];(try (simp only[<-jU];clear jU));(try (simp only[<-dR];clear dR));simp[*];done)
 simp[ht]at h10;cbv;refine aM (KR ht _ ‹_› ‹_›) hY (λWf mW=>?_);simp only[ht]at mW;cbv;(refine yd [0,2] (.more 0 (.more 1 (.one 2 (.one 3 (.one 4 (.one 5 (.one 6 (.one 7 (.one 8 .done))))))) (.one 2 (.more 1 (.one 3 (.one 4 (.one 5 (.one 6 (.one 7 (.one 8 .done)))))) (.one 3 (.more 1 (.one 4 (.one 5 (.one 6 (.one 7 (.one 8 .done))))) (.one 4 (.one 1 (.one 5 (.one 6 (.one 7 (.one 8 .done))))))))))) (.one 2 (.one 0 (.more 1 (.one 3 (.one 4 (.one 5 (.one 6 (.one 7 (.one 8 .done)))))) (.one 3 (.more 1 (.one 4 (.one 5 (.one 6 (.one 7 (.one 8 .done))))) (.one 4 (.one 1 (.one 5 (.one 6 (.one 7 (.one 8 .done)))))))))))) _ (by kernel_rfl) (by kernel_rfl) (by kernel_rfl) (by kernel_rfl) (by cbv;repeat' (first|exact rfl|refine⟨?_,?_⟩)) ?_);cbv;refine aM (O3 ht _ _ _ _ (lm ht rfl) (lm ht rfl) (lm ht rfl) ‹_› (lm ht rfl) ‹_› ‹_› _ _ _ _ _ _ _ _ _ _ _ (lm ht rfl) ‹_› ‹_› ‹_›) hY (λZn qx=>?_);simp only[ht]at qx;have hwe:(Zn).ev.l.length<1000000:=by rw[qx];exact hel
 cbv;refine aM (qD ht _ _ _ _ _ _ (lm ht rfl) (lm ht rfl) (lm ht rfl) (lm ht rfl) (lm ht rfl) (lm ht rfl) (lm ht rfl) ‹_›) hY (λr13 G2=>?_);simp only[ht]at G2;cbv;refine ak ?_;(simp only[ht,dQ,e4,e5,kP,<-hv];(try (simp only[<-jU];clear jU));(try (simp only[<-dR];clear dR));simp[*];done)
theorem uh{x:Ask}(h:Bc x):x.sm:=
 ⟨by have:=h.path;omega,⟨h.iI 0 (by decide),h.iI 1 (by decide),h.iI 2 (by decide),h.iI 3 (by decide)⟩,by have:=h.cj;omega,
  λm hm=>by obtain⟨a,b,c⟩:=h.key m hm;exact⟨by omega,by omega,λv hv=>by have:=c v hv;omega⟩⟩
theorem cI.ok.small {s:cI} (h:s.ok) (l:s.cU Bc):s.sm where
 nodes:=⟨by have:=h.bt.most;omega,l.names⟩
 places:=by have:=h.DS;omega
 tree:=⟨by have:=h.tree.most;omega,λe he=>by have:=l.paths e he;omega⟩
 aJ:=⟨by have:=h.most;omega,λx hx=>⟨uh (l.xs x hx),⟨by have:=h.GR x hx;omega,by have:=h.GR x hx;have:=h.next;omega⟩,by
  have:=(h.yJ x hx).1;unfold c8 Rm at this;split at this
  .cases this
  split at this
  .cases this
  simp_all;omega⟩⟩
 queue:=by
  have h1:=h.Y3;have h2:iP s.aJ<=s.aJ.length:=List.length_filter_le _ _
  have:=h.most;omega
 notes:=by have:=h.notes;omega
theorem K7{l:List Jb}{id:Int}(h:∀x∈l,x.x.sm):(fy l id).1.x.sm:=by
 unfold fy;split
 .rename_i x hx;exact h _ (List.mem_of_find?_eq_some hx)
 exact⟨by decide,by decide,by decide,λm hm=>by cases hm⟩
theorem Uv{nl:List Node}{pl:List Place}(h:nl.length<1000000)(h2:∀x∈nl,x.sm):(nl.filterMap (vI nl pl)).length<1000000/\∀s∈nl.filterMap (vI nl pl),s.labels.length<1000000000:=by
 refine⟨Nat.lt_of_le_of_lt (List.length_filterMap_le _ _) h,λs hs=>?_⟩;obtain⟨n,hn,e⟩:=List.mem_filterMap.1 hs;unfold vI at e;split at e
 .cases e;exact(h2 n hn).2.1
 cases e
theorem DY{v:bz}:∀(n:Nat) (l:List cK) (out:List az),out.length+n<=8->(zP v n l out).1.length<=8
 |0,_,out,h=>by simpa[zP]using h|n+1,l,out,h=>by
  rw[zP];split
  .simp
  exact DY n _ _ (by simp;omega)
theorem FN(l:List cK)(x:List Term)(v:bz)(c:Int):(fit l x v c).1.length<1000000:=by
 unfold fit;split
 .simp
 have:=DY (v:=v) (max c 0).toNat (fitting l x) [] (by simp;omega);omega
theorem Q6(k:Nat):gZ [[D.str [110,49]],[D.str [110,50]],[D.str [110,51]]] none (some (k:Int))=(pH.take k).map bp:=by rw[List.map_take];rfl
theorem O9(ht:TT t)(x:iQ)(hx:x.u){k a b c d:Int}(hk:k=x.kind)(ha:a=x.a)(hb:b=x.b)(hc:c=x.c)(hd:d=x.d)(rd nx ef af:Int){nl:List Node}{pl:List Place}{tl:List aR}{jl:List Jb}{ql:List bR}{el al:List cw}{ns ps ts js qs es eO:List (List D)}(ij:ns=nl.map Node.cells)(hps:ps=pl.map Place.cells)(hts:ts=tl.map aR.cells)(gD:js=jl.map Jb.cells)(fX:qs=ql.map bR.cells)(aD:es=el.map cw.cells)(has:eO=al.map cw.cells)(hs:(⟨rd,nx,⟨nl,pl⟩,tl,jl,ql,⟨ef,el⟩,⟨af,al⟩⟩:cI).sm):
 FC 19 [.agg [U8 k,U8 a,U8 b,U8 c,U8 d],.agg [aA rd,aA nx,SL ns,SL ps,SL ts,SL js,SL qs,aA ef,SL es,aA af,SL eO]] [] (.ret (rS t (t _ λ_=>jS x ⟨rd,nx,⟨nl,pl⟩,tl,jl,ql,⟨ef,el⟩,⟨af,al⟩⟩))) []:=by
 obtain⟨⟨s1,s2⟩,s3,⟨s4,s5⟩,⟨s6,s7⟩,s8,s9,s10⟩:=id hs;simp only at s1 s2 s3 s4 s5 s6 s7 s8 s9 s10;have iC:∀x∈jl,x.x.iI.u'/\x.x.path.length<1000000000000:=λx hx=>⟨(s7 x hx).1.2.1,(s7 x hx).1.1⟩
 obtain⟨u1,u2,u3,u4,u5⟩:=id hx;obtain⟨S,hS⟩:∃S,S=jS x ⟨rd,nx,⟨nl,pl⟩,tl,jl,ql,⟨ef,el⟩,⟨af,al⟩⟩:=⟨_,rfl⟩;rw[<-hS];obtain⟨K,hK⟩:∃K:Nat,K=x.kind%8:=⟨_,rfl⟩;obtain⟨I,hI⟩:∃I:Int,I=(x.a%12:Nat):=⟨_,rfl⟩;have k8:k.tmod 8=(K:Int):=by rw[hk,tm8,hK]
 have a12:IntKind.u64.wrap (a.tmod 12)=I:=by rw[ha,aeE,hI,Xe _ (by omega)]
 have b4:b.tmod 4=((x.b%4:Nat):Int):=by rw[hb,tm4]
 obtain⟨sl1,sl2⟩:=Uv s1 s2 (pl:=pl);refine cC ht Tryz.func19 (N:=92) ?_;cbv;obtain⟨dc,dm,dG,cF,cM,ay,cG⟩:=je ij hps hts gD fX aD has;refine⟨?_,?_⟩
 ·(simp only[ht,aa]at*;omega)
 refine⟨?_,?_⟩
 ·(simp only[ht,aa]at*;omega)
 cbv;apply aj<;>intro h0
 .simp[ht,aa,k8]at h0;cbv;apply aj<;>intro h1
  .simp[ht,aa,k8]at h1;cbv;refine mV [] [4,5,6,7] [false,false,false,true,true,false,false,false,true] ?_;cbv;iterate 2 refine gI (by simp) ?_
   refine .inl ?_;(refine iJ (λg=>⟨by simp,hY,HD ht _ _ _ _ _ x hx hk ha hb hc hd⟩) rfl rfl rfl (λr1 ej=>?_);simp only[ht]at ej;have NK:r1.sm:=(by rw[ej];exact uh (oz x)));cbv;(refine aM (qG ht rd nx ef af ij hps hts gD fX aD has _ _ _ _ _ _ _ _ (iv:=r1.cj) (by simp only[ht]) NK s4 s6 s8 s9) (by simp) (λr2 dj=>?_);simp only[ht]at dj);cbv;iterate 3 refine gI (by simp) ?_
   refine ak ?_;(have e:S=r2.1:=(by rw[hS];unfold jS;rw[if_pos (by omega),dj,ej]);simp only[ht,e];done)
  simp[ht,aa,k8]at h1;omega
 simp[ht,aa,k8]at h0;cbv;apply aj<;>intro h2
 .simp[ht,aa,k8]at h2;cbv;apply aj<;>intro h3
  .simp[ht,aa,k8]at h3;cbv;refine mV [] [4,5,6,7] [false,false,false,true,true,false,false,false,true] ?_;cbv;iterate 2 refine gI (by simp) ?_
   refine .inl ?_;(refine iJ (λg=>⟨by simp,hY,HD ht _ _ _ _ _ x hx hk ha hb hc hd⟩) rfl rfl rfl (λr1 ej=>?_);simp only[ht]at ej;have NK:r1.sm:=(by rw[ej];exact uh (oz x)));cbv;(refine aM (qG ht rd nx ef af ij hps hts gD fX aD has _ _ _ _ _ _ _ _ (iv:=r1.cj) (by simp only[ht]) NK s4 s6 s8 s9) (by simp) (λr2 dj=>?_);simp only[ht]at dj);cbv;iterate 3 refine gI (by simp) ?_
   refine ak ?_;(have e:S=r2.1:=(by rw[hS];unfold jS;rw[if_pos (by((try simp only[aa]at*);omega)),dj,ej]);simp only[ht,e];done)
  simp[ht,aa,k8]at h3;contradiction
 simp[ht,aa,k8]at h2;cbv;apply aj<;>intro h4
 .simp[ht,aa,k8]at h4;cbv;refine mV [] [4,5,6,7] [false,false,false,true,true,false,false,false,true] ?_;cbv;iterate 2 refine gI (by simp) ?_
  refine .inl ?_;(refine iJ (λg=>⟨by simp,hY,HD ht _ _ _ _ _ x hx hk ha hb hc hd⟩) rfl rfl rfl (λr1 ej=>?_);simp only[ht]at ej;have NK:r1.sm:=(by rw[ej];exact uh (oz x)));cbv;(refine aM (qG ht rd nx ef af ij hps hts gD fX aD has _ _ _ _ _ _ _ _ (iv:=r1.cj) (by simp only[ht]) NK s4 s6 s8 s9) (by simp) (λr2 dj=>?_);simp only[ht]at dj);cbv;iterate 3 refine gI (by simp) ?_
  refine ak ?_;(have e:S=r2.1:=(by rw[hS];unfold jS;rw[if_pos (by((try simp only[aa]at*);omega)),dj,ej]);simp only[ht,e];done)
 simp[ht,aa,k8]at h4;cbv;apply aj<;>intro h5
 .simp[ht,aa,k8]at h5;cbv;apply aj<;>intro h6
  .simp[ht,aa,k8]at h6;cbv;(refine aM (yX ht _ rd nx ef af ns ps ts qs es eO gD (by omega)) (by simp) (λr1 ej=>?_);simp only[ht,a12]at ej;have NK:r1.1.x.sm:=(by rw[ej];exact K7 (λx hx=>(s7 x hx).1)));cbv;refine bE [false,false,false,false,false,false,false,false,false,false,false,false,true,true,false,false,false,true] ?_;cbv;iterate 2 refine gI (by simp) ?_
   refine .inl ?_;(refine iJ (λg=>⟨by simp,hY,Kf ht ij hps (by omega) (by omega)⟩) rfl rfl rfl (λr2 dj=>?_);simp only[ht]at dj);cbv;iterate 9 refine gI (by simp) ?_
   (first|(refine aM (HB ht _ _ _ _ _ (l:=r2) (by simp only[ht]) (by rw[dj];exact sl1) (by rw[dj];exact sl2) (x:=r1.1.x.cj) (by simp only[ht]) NK.2.2.1 (λm hm=>(NK.2.2.2 m hm).2.1)) (by simp) (λr3 iR=>?_);simp only[ht]at iR)|(refine iJ (λg=>⟨by simp[ht],by simp[ht],HB ht _ _ _ _ _ (l:=r2) (by simp only[ht]) (by rw[dj];exact sl1) (by rw[dj];exact sl2) (x:=r1.1.x.cj) (by simp only[ht]) NK.2.2.1 (λm hm=>(NK.2.2.2 m hm).2.1)⟩) rfl rfl rfl (λr3 iR=>?_);simp only[ht]at iR));cbv;iterate 3 refine gI (by simp) ?_
   apply aj<;>intro h7
   .cbv;(refine aM (qH ht rd nx ef af ij hps hts gD fX aD has _ (names:=r3.1) (by simp only[ht]) iC s4 s6 s1 s3 s8 s9 (by rw[iR];exact FN _ _ _ _)) (by simp) (λr4 eY=>?_);simp only[ht,a12]at eY);cbv;refine ak ?_;(have e3:fit (zT ⟨nl,pl⟩) (fy jl (x.a%12:Nat)).1.x.cj (fy jl (x.a%12:Nat)).1.x.iI (fy jl (x.a%12:Nat)).1.x.count=r3:=(by rw[iR,dj,ej,hI];rfl);have e:S=r4.1:=(by rw[hS];unfold jS;dsimp only;rw[if_neg (by((try simp only[aa]at*);omega)),if_pos (by((try simp only[aa]at*);omega)),e3,if_pos ‹_›,eY,hI]);simp only[ht,e];done)
   cbv;refine ak ?_;(have e3:fit (zT ⟨nl,pl⟩) (fy jl (x.a%12:Nat)).1.x.cj (fy jl (x.a%12:Nat)).1.x.iI (fy jl (x.a%12:Nat)).1.x.count=r3:=(by rw[iR,dj,ej,hI];rfl);have e:S=⟨rd,nx,⟨nl,pl⟩,tl,jl,ql,⟨ef,el⟩,⟨af,al⟩⟩:=(by rw[hS];unfold jS;dsimp only;rw[if_neg (by((try simp only[aa]at*);omega)),if_pos (by((try simp only[aa]at*);omega)),e3,if_neg (by simp_all)]);simp only[ht,e,ij,hps,hts,gD,fX,aD,has];done)
  simp[ht,aa,k8]at h6;contradiction
 simp[ht,aa,k8]at h5;cbv;apply aj<;>intro h8
 .simp[ht,aa,k8]at h8;cbv;(refine aM (yX ht _ rd nx ef af ns ps ts qs es eO gD (by omega)) (by simp) (λr1 ej=>?_);simp only[ht,a12]at ej;have NK:r1.1.x.sm:=(by rw[ej];exact K7 (λx hx=>(s7 x hx).1)));cbv;refine bE [false,false,false,false,false,false,false,false,false,false,false,false,true,true,false,false,false,true] ?_;cbv;iterate 2 refine gI (by simp) ?_
  refine .inl ?_;(refine iJ (λg=>⟨by simp,hY,Kf ht ij hps (by omega) (by omega)⟩) rfl rfl rfl (λr2 dj=>?_);simp only[ht]at dj);cbv;iterate 9 refine gI (by simp) ?_
  (first|(refine aM (HB ht _ _ _ _ _ (l:=r2) (by simp only[ht]) (by rw[dj];exact sl1) (by rw[dj];exact sl2) (x:=r1.1.x.cj) (by simp only[ht]) NK.2.2.1 (λm hm=>(NK.2.2.2 m hm).2.1)) (by simp) (λr3 iR=>?_);simp only[ht]at iR)|(refine iJ (λg=>⟨by simp[ht],by simp[ht],HB ht _ _ _ _ _ (l:=r2) (by simp only[ht]) (by rw[dj];exact sl1) (by rw[dj];exact sl2) (x:=r1.1.x.cj) (by simp only[ht]) NK.2.2.1 (λm hm=>(NK.2.2.2 m hm).2.1)⟩) rfl rfl rfl (λr3 iR=>?_);simp only[ht]at iR));cbv;iterate 3 refine gI (by simp) ?_
  apply aj<;>intro h9
  .cbv;(refine aM (qH ht rd nx ef af ij hps hts gD fX aD has _ (names:=r3.1) (by simp only[ht]) iC s4 s6 s1 s3 s8 s9 (by rw[iR];exact FN _ _ _ _)) (by simp) (λr4 eY=>?_);simp only[ht,a12]at eY);cbv;refine ak ?_;(have e3:fit (zT ⟨nl,pl⟩) (fy jl (x.a%12:Nat)).1.x.cj (fy jl (x.a%12:Nat)).1.x.iI (fy jl (x.a%12:Nat)).1.x.count=r3:=(by rw[iR,dj,ej,hI];rfl);have e:S=r4.1:=(by rw[hS];unfold jS;dsimp only;rw[if_neg (by((try simp only[aa]at*);omega)),if_pos (by((try simp only[aa]at*);omega)),e3,if_pos ‹_›,eY,hI]);simp only[ht,e];done)
  cbv;refine ak ?_;(have e3:fit (zT ⟨nl,pl⟩) (fy jl (x.a%12:Nat)).1.x.cj (fy jl (x.a%12:Nat)).1.x.iI (fy jl (x.a%12:Nat)).1.x.count=r3:=(by rw[iR,dj,ej,hI];rfl);have e:S=⟨rd,nx,⟨nl,pl⟩,tl,jl,ql,⟨ef,el⟩,⟨af,al⟩⟩:=(by rw[hS];unfold jS;dsimp only;rw[if_neg (by((try simp only[aa]at*);omega)),if_pos (by((try simp only[aa]at*);omega)),e3,if_neg (by simp_all)]);simp only[ht,e,ij,hps,hts,gD,fX,aD,has];done)
 simp[ht,aa,k8]at h8;cbv;apply aj<;>intro h10
 .simp[ht,aa,k8]at h10;cbv;(refine aM (O4 ht rd nx ef af ij hps hts gD fX aD has _ _ iC s4 s6 s3 s8 s9) (by simp) (λr4 eY=>?_);simp only[ht,a12]at eY);cbv;refine ak ?_;(have e:S=r4.1:=(by rw[hS];unfold jS;rw[if_neg (by((try simp only[aa]at*);omega)),if_neg (by((try simp only[aa]at*);omega)),if_pos (by((try simp only[aa]at*);omega)),eY,hI]);simp only[ht,e];done)
 simp[ht,aa,k8]at h10;cbv;apply aj<;>intro h11
 .simp[ht,aa,k8]at h11;cbv;(refine aM (T4 ht rd nx ef af ij hps hts gD fX aD has _ _ iC s4 s6 s3 s8 s9) (by simp) (λr4 eY=>?_);simp only[ht,a12]at eY);cbv;refine ak ?_;(have e:S=r4.1:=(by rw[hS];unfold jS;rw[if_neg (by((try simp only[aa]at*);omega)),if_neg (by((try simp only[aa]at*);omega)),if_neg (by((try simp only[aa]at*);omega)),if_pos (by((try simp only[aa]at*);omega)),eY,hI]);simp only[ht,e];done)
 simp[ht,aa,k8]at h11;cbv;apply aj<;>intro h12
 .simp[ht,aa,k8]at h12;cbv;refine mV [1] [1,8,9,10] [false,false,false,false,false,false,false,true,true,false,false,true] ?_;cbv;iterate 5 refine gI (by simp) ?_
  refine gI (by simp[ht]) ?_;refine gI (by simp[ht,b9];grind) ?_;(refine aM (qH ht rd nx ef af ij hps hts gD fX aD has _ (names:=pH.take (x.b%4)) (by simp only[ht];rw[b4];exact Q6 _) iC s4 s6 s1 s3 s8 s9 (by simp[pH];omega)) (by simp) (λr4 eY=>?_);simp only[ht,a12]at eY);cbv;iterate 2 refine gI (by simp) ?_
  refine ak ?_;(have e:S=r4.1:=(by rw[hS];unfold jS;rw[if_neg (by((try simp only[aa]at*);omega)),if_neg (by((try simp only[aa]at*);omega)),if_neg (by((try simp only[aa]at*);omega)),if_neg (by((try simp only[aa]at*);omega)),eY,hI]);simp only[ht,e];done)
 simp[ht,aa,k8]at h12;(simp only[aa]at*;omega)
def iQ.aS (_:Th) (x:iQ):List D:=[.int .u8 x.kind,.int .u8 x.a,.int .u8 x.b,.int .u8 x.c,.int .u8 x.d]
instance:Inhabited iQ:=⟨⟨0,0,0,0,0⟩⟩
theorem FO(n:Nat)(l:List iQ)(k:Nat):(dh n l k).sm:=(PV n l k).small (Nv n l k)
structure Told(s:cI)(rd nx:Int)(ns ps ts js qs:List (List D))(ef:Int)(es:List (List D))(af:Int)(eO:List (List D)):Prop where
 r:rd=s.round
 x:nx=s.next
 n:ns=s.bt.nodes.map Node.cells
 p:ps=s.bt.places.map Place.cells
 t:ts=s.tree.map aR.cells
 j:js=s.aJ.map Jb.cells
 q:qs=s.queue.map bR.cells
 f:ef=s.ev.first
 e:es=s.ev.l.map cw.cells
 g:af=s.au.first
 a:eO=s.au.l.map cw.cells
theorem Told.self (s:cI):Told s s.round s.next (s.bt.nodes.map Node.cells) (s.bt.places.map Place.cells) (s.tree.map aR.cells) (s.aJ.map Jb.cells) (s.queue.map bR.cells) s.ev.first (s.ev.l.map cw.cells) s.au.first (s.au.l.map cw.cells):=
 ⟨rfl,rfl,rfl,rfl,rfl,rfl,rfl,rfl,rfl,rfl,rfl⟩
theorem Told.eq {s:cI} {rd nx ef af:Int} {ns ps ts js qs es eO:List (List D)} (h:Told s rd nx ns ps ts js qs ef es af eO):(⟨rd,nx,⟨s.bt.nodes,s.bt.places⟩,s.tree,s.aJ,s.queue,⟨ef,s.ev.l⟩,⟨af,s.au.l⟩⟩:cI)=s:=by rw[h.r,h.x,h.f,h.g]
theorem Uw(ht:TT t)(N:Nat)(hN:N<256){a:Int}(ea:a=N){l:List iQ}{dl:List (List D)}(Yd:dl=l.map iQ.cells)(hlu:∀x∈l,x.u)(hll:l.length<9223372036854775808):
 FC 5 [U8 a,SL dl] [] (.ret (rS t (t _ λ_=>dh N l (min l.length 40)))) []:=by
 refine cC ht Tryz.func5 (N:=26) ?_;cbv;have wR:dl.length=l.length:=by rw[Yd,lgM]
 (refine aM (DX ht N hN ea) (by simp) (λr1 ej=>?_);simp only[ht]at ej);cbv;obtain⟨J0,dZ⟩:∃J0:Nat->Int×Int×Int×List (List D)×List (List D)×List (List D)×List (List D)×List (List D)×Int×List (List D)×Int×List (List D)->Prop,∀n i rd nx ns ps ts js qs ef es af eO,J0 n (i,rd,nx,ns,ps,ts,js,qs,ef,es,af,eO)↔(∃k:Nat,i=k/\k+n=40/\k<=l.length/\Told (dh N l k) rd nx ns ps ts js qs ef es af eO):=⟨λn v=>match v with|(i,rd,nx,ns,ps,ts,js,qs,ef,es,af,eO)=>(∃k:Nat,i=k/\k+n=40/\k<=l.length/\Told (dh N l k) rd nx ns ps ts js qs ef es af eO),λ_ _ _ _ _ _ _ _ _ _ _ _ _=>Iff.rfl⟩;refine bw ⟨[1,4,5,6],[],[]⟩ (σ:=Int×Int×Int×List (List D)×List (List D)×List (List D)×List (List D)×List (List D)×Int×List (List D)×Int×List (List D)) (λv=>[(6,.d (.int .i64 (t _ λ_=>v.1)))]) (λv=>[(1,.var [.d (.int .u64 (t _ λ_=>v.2.1)),.d (.int .u64 (t _ λ_=>v.2.2.1)),.d (.sl (t _ λ_=>v.2.2.2.1)),.d (.sl (t _ λ_=>v.2.2.2.2.1)),.d (.sl (t _ λ_=>v.2.2.2.2.2.1)),.d (.sl (t _ λ_=>v.2.2.2.2.2.2.1)),.d (.sl (t _ λ_=>v.2.2.2.2.2.2.2.1)),.d (.int .u64 (t _ λ_=>v.2.2.2.2.2.2.2.2.1)),.d (.sl (t _ λ_=>v.2.2.2.2.2.2.2.2.2.1)),.d (.int .u64 (t _ λ_=>v.2.2.2.2.2.2.2.2.2.2.1)),.d (.sl (t _ λ_=>v.2.2.2.2.2.2.2.2.2.2.2))])]) J0 ?_;cbv;refine aC ⟨40,(_,_,_,_,_,_,_,_,_,_,_,_),(dZ _ _ _ _ _ _ _ _ _ _ _ _ _).2 ?_,by simp only[ht];rfl,?_⟩
 .exact⟨0,rfl,by omega,by omega,by rw[show dh N l 0=r1 from ej.symm];exact Told.self r1⟩
 rintro n ⟨i,rd,nx,ns,ps,ts,js,qs,ef,es,af,eO⟩ hj;replace hj:=(dZ _ _ _ _ _ _ _ _ _ _ _ _ _).1 hj;obtain⟨k,rfl,j1,j2,jT⟩:=hj;cbv;iterate 2 refine gI (by simp[ht]) ?_
 refine pI (by simp[ht]) ?_;apply aj<;>intro h1
 .simp[ht,aa,wR]at h1;cbv;refine bE [false,false,false,false,false,true,true] ?_;cbv;iterate 2 refine gI (by simp) ?_
  refine eT ht Yd (cT:=iQ.aS t) (by(simp only[ht,aa];omega)) (by(simp only[ht,aa];omega)) (λ_=>rfl) (λ_=>rfl) (λx2 jX=>?_);simp[ht,aa]at jX;cbv;iterate 2 refine gI (by simp) ?_
  (first|(refine aM (O9 ht x2 (hlu x2 (vag jX)) rfl rfl rfl rfl rfl _ _ _ _ (nl:=(dh N l k).bt.nodes) (pl:=(dh N l k).bt.places) (tl:=(dh N l k).tree) (jl:=(dh N l k).aJ) (ql:=(dh N l k).queue) (el:=(dh N l k).ev.l) (al:=(dh N l k).au.l) (by simp only[ht];exact jT.n) (by simp only[ht];exact jT.p) (by simp only[ht];exact jT.t) (by simp only[ht];exact jT.j) (by simp only[ht];exact jT.q) (by simp only[ht];exact jT.e) (by simp only[ht];exact jT.a) (by simp only[ht];rw[jT.eq];exact FO N l k)) (by simp) (λr1 ej=>?_);simp only[ht]at ej;rw[jT.eq,<-A3 jX]at ej)|(refine iJ (λg=>⟨by simp[ht],by simp[ht],(O9 ht x2 (hlu x2 (vag jX)) rfl rfl rfl rfl rfl rd nx ef af (nl:=(dh N l k).bt.nodes) (pl:=(dh N l k).bt.places) (tl:=(dh N l k).tree) (jl:=(dh N l k).aJ) (ql:=(dh N l k).queue) (el:=(dh N l k).ev.l) (al:=(dh N l k).au.l) (by simp only[ht];exact jT.n) (by simp only[ht];exact jT.p) (by simp only[ht];exact jT.t) (by simp only[ht];exact jT.j) (by simp only[ht];exact jT.q) (by simp only[ht];exact jT.e) (by simp only[ht];exact jT.a) (by simp only[ht];rw[jT.eq];exact FO N l k))⟩) rfl rfl rfl (λr1 ej=>?_);simp only[ht]at ej;rw[jT.eq,<-A3 jX]at ej));cbv;refine bA (_,_,_,_,_,_,_,_,_,_,_,_) (by simp only[ht];rfl) (n-1) ?_ ((dZ _ _ _ _ _ _ _ _ _ _ _ _ _).2 ?_)
  ·((try simp only[aa]at*);omega)
  simp only[aa];exact⟨k+1,aG (by omega),by((try simp only[aa]at*);omega),by omega,by rw[<-ej];exact Told.self r1⟩
 simp[ht,aa,wR]at h1;cbv;refine ak ?_;(have hk:min l.length 40=k:=(by((try simp only[aa]at*);omega));simp only[ht,hk,jT.r,jT.x,jT.n,jT.p,jT.t,jT.j,jT.q,jT.f,jT.e,jT.g,jT.a];done)
theorem Q7(ht:TT t){l m:List cw}{es fs:List (List D)}(aD:es=l.map cw.cells)(vz:fs=m.map cw.cells)(hl:l.length<1000000000)(hm:m.length<1000000000):
 FC 77 [SL es,SL fs] [] (.ret (cA (t _ λ_=>decide (l=m)))) []:=by
 refine cC ht Tryz.func77 (N:=26) ?_;cbv;have ay:es.length=l.length:=by rw[aD,lgM]
 have cY:fs.length=m.length:=by rw[vz,lgM]
 apply aj<;>intro h0
 .simp[ht,aa,ay,cY]at h0;cbv;refine ak ?_;(simp[ht];rintro rfl;simp_all;done)
 simp[ht,aa,ay,cY]at h0;cbv;obtain⟨J1,iB⟩:∃J1:Nat->Int->Prop,∀n i,J1 n i↔(∃k:Nat,i=k/\k+n=l.length/\l.length=m.length/\decide (l=m)=decide (l.drop k=m.drop k)):=⟨λn v=>match v with|i=>(∃k:Nat,i=k/\k+n=l.length/\l.length=m.length/\decide (l=m)=decide (l.drop k=m.drop k)),λ_ _=>Iff.rfl⟩;refine bw ⟨[0,1,12,13],[],[]⟩ (σ:=Int) (λv=>[(13,.d (.int .i64 (t _ λ_=>v)))]) (λv=>[]) J1 ?_;cbv;refine aC ⟨l.length,_,(iB _ _).2 ?_,by simp only[ht];rfl,?_⟩
 ·(simp only[aa];grind)
 rintro n i hj;replace hj:=(iB _ _).1 hj;obtain⟨k,rfl,j1,j2,j4⟩:=hj;cbv;apply aj<;>intro h2
 .simp[ht,aa,ay]at h2;cbv;refine bE [false,false,false,false,false,false,false,false,true] ?_;cbv;iterate 2 refine gI (by simp) ?_
  refine eT ht aD (cT:=cw.aS t) (by(simp only[ht,aa];omega)) (by(simp only[ht,aa];omega)) (λ_=>rfl) (λ_=>rfl) (λx3 oU=>?_);simp[ht,aa]at oU;rw[cu oU]at j4;cbv;iterate 3 refine gI (by simp) ?_
  refine eT ht vz (cT:=cw.aS t) (by(simp only[ht,aa];omega)) (by(simp only[ht,aa];omega)) (λ_=>rfl) (λ_=>rfl) (λx4 vL=>?_);simp[ht,aa]at vL;rw[cu vL]at j4;cbv;refine gI (by simp) ?_;apply aj<;>intro h5
  .simp[ht]at h5;cbv;refine ak ?_;(simp[ht];rintro rfl;simp_all;done)
  simp[ht]at h5;cbv;refine bA _ (by simp only[ht];rfl) (n-1) ?_ ((iB _ _).2 ?_)
  .omega
  simp only[aa];refine⟨k+1,aG (by omega),by omega,by omega,?_⟩;(simp[ZK, *];done)
 simp[ht,aa,ay]at h2;cbv;refine ak ?_;(simp[ht,j4,vah (show l.length<=k by omega),vah (show m.length<=k by omega)];done)
theorem Bg(ht:TT t)(f g:Int){l m:List cw}{es fs:List (List D)}(aD:es=l.map cw.cells)(vz:fs=m.map cw.cells)(hl:l.length<1000000000)(hm:m.length<1000000000):
 FC 32 [.agg [aA f,SL es],.agg [aA g,SL fs]] [] (.ret (cA (t _ λ_=>decide ((⟨f,l⟩:oq)=⟨g,m⟩)))) []:=by
 refine cC ht Tryz.func32 (N:=17) ?_;cbv;have ay:es.length=l.length:=by rw[aD,lgM]
 have cY:fs.length=m.length:=by rw[vz,lgM]
 iterate 4 refine gI (by simp[ht]) ?_
 refine aT (λg0=>⟨by simp[ht]at g0 ⊢;exact g0,hY,Q7 ht ‹_› ‹_› ‹_› ‹_›⟩) rfl rfl (λr1 ej=>?_);simp only[ht]at ej;cbv;refine pI (by simp[ht]) ?_;refine ak ?_;(simp[*];done)
theorem DZ(ht:TT t)(f:Int){l:List cw}{es:List (List D)}(aD:es=l.map cw.cells)(hf:f<18446744073709551616)(hl:l.length<1000000000)(hu:∀x∈l,x.round<18446744073709551616/\x.id<18446744073709551616)(hn:(bX ⟨f,l⟩).length<9223372036854775000):
 FC 24 [.agg [aA f,SL es]] [] (.ret (rD (t _ λ_=>bX ⟨f,l⟩))) []:=by
 have Ep:IntKind.u64.wrap (es.length:Int)=l.length:=by rw[bW,aD,lgM];omega
 have w10:∀u,(aF u).length<=10:=bG;refine cC ht Tryz.func24 (N:=38) ?_;cbv;have ay:es.length=l.length:=by rw[aD,lgM]
 refine bE [false,false,false,false,false,false,false,true,true,true] ?_;cbv;iterate 2 refine gI (by simp) ?_
 refine .inl ?_;refine aT (λg0=>⟨hY,hY,cZ ht _ ‹_›⟩) rfl rfl (λr1 ej=>?_);simp only[ht]at ej;(try rw[Ep]at ej);have Zr:(r1).length<=10:=by rw[ej];exact bG _
 cbv;iterate 4 refine gI (by simp) ?_
 refine ar (cZ ht _ (by(simp only[ht];((try simp only[aa]at*);omega)))) hY (λr2 dj=>?_);simp only[ht]at dj;(try rw[Ep]at dj);have Zm:(r2).length<=10:=by rw[dj];exact bG _
 cbv;refine⟨?_,?_⟩
 ·(simp only[ht,aa]at*;omega)
 cbv;obtain⟨J3,yP⟩:∃J3:Nat->List UInt8×Int->Prop,∀n o i,J3 n (o,i)↔(∃k:Nat,i=k/\k+n=l.length/\bX ⟨f,l⟩=o++((l.drop k).map oT).flatten):=⟨λn v=>match v with|(o,i)=>(∃k:Nat,i=k/\k+n=l.length/\bX ⟨f,l⟩=o++((l.drop k).map oT).flatten),λ_ _ _=>Iff.rfl⟩;refine bw ⟨[3,16,17,18],[],[]⟩ (σ:=List UInt8×Int) (λv=>[(3,.d (.str (t _ λ_=>v.1))),(18,.d (.int .i64 (t _ λ_=>v.2)))]) (λv=>[]) J3 ?_;cbv;refine aC ⟨l.length,(_,_),(yP _ _ _).2 ?_,by simp only[ht];rfl,?_⟩
 .exact⟨0,rfl,by simp,by simp[bX, *]⟩
 rintro n ⟨o,i⟩ hj;replace hj:=(yP _ _ _).1 hj;obtain⟨k,rfl,j1,j4⟩:=hj;cbv;apply aj<;>intro h4
 .simp[ht,aa,ay]at h4;cbv;refine eT ht aD (cT:=cw.aS t) (by(simp only[ht,aa];omega)) (by(simp only[ht,aa];omega)) (λ_=>rfl) (λ_=>rfl) (λx5 Qb=>?_);simp[ht,aa]at Qb;rw[mo Qb,oT]at j4;have pV:=vac List.length j4
  simp only[vaa]at pV;obtain⟨XZ,hu2⟩:=hu _ (vag Qb);cbv;refine bE [false,false,false,false,false,false,false,false,false,false,false,false,false,true,true] ?_;cbv;iterate 3 refine gI (by simp) ?_
  refine .inl ?_;refine aT (λg6=>⟨hY,hY,cZ ht _ ‹_›⟩) rfl rfl (λr7 jU=>?_);simp only[ht]at jU;(try rw[Ep]at jU);have Tu:(r7).length<=10:=by rw[jU];exact bG _
  cbv;iterate 2 refine gI (by simp) ?_
  refine .inl ?_;refine aT (λg8=>⟨hY,hY,cZ ht _ ‹_›⟩) rfl rfl (λr9 dR=>?_);simp only[ht]at dR;(try rw[Ep]at dR);have Zq:(r9).length<=10:=by rw[dR];exact bG _
  cbv;refine gI (by simp[ht];omega) ?_;iterate 3 refine gI (by simp) ?_
  refine .inl ?_;refine aT (λg10=>⟨hY,hY,cZ ht _ (by(simp only[ht,bW];omega))⟩) rfl rfl (λWf mW=>?_);simp only[ht]at mW;(try rw[Ep]at mW);have X1:(Wf).length<=10:=by rw[mW];exact bG _
  cbv;refine gI (by simp[ht];omega) ?_;refine⟨?_,?_⟩
  ·(simp[ht];omega)
  cbv;refine bA (_,_) (by simp only[ht];rfl) (n-1) ?_ ((yP _ _ _).2 ?_)
  .omega
  simp only[aa];exact⟨k+1,aG (by omega),by omega,by rw[j4];simp only[u64,<-bW];simp[*]⟩
 simp[ht,aa,ay]at h4;cbv;refine ak ?_;(rw[vah (by omega),List.map_nil,List.flatten_nil,List.append_nil]at j4;simp only[ht,j4];done)
def Ux(z:Int):List D:=[.int .i64 z]
theorem Q8{x:Ask}(h:c8 x=0):oo x.path x.path=true/\(1<=x.count/\x.count<=8)/\(0<=x.prio/\x.prio<=9)/\(1<=x.dX/\x.dX<=100)/\pz x.cj=true/\(eC x).2=true:=by
 unfold c8 Rm at h;split at h;· cases h
 split at h;· cases h
 split at h;· cases h
 split at h;· cases h
 simp_all
theorem Xf(ht:TT t)(p:az)(a b c d n pr tk:Int){sl:List Term}{sr:List (List D)}(X2:sr=sl.map Term.cells)(iC:(⟨p,⟨a,b,c,d⟩,n,pr,tk,sl⟩:Ask).sm)(hn:(tM ⟨p,⟨a,b,c,d⟩,n,pr,tk,sl⟩).length<9223372036854775000):
 FC 23 [.agg [ST p,aA a,aA b,aA c,aA d,bf n,bf pr,bf tk,SL sr]] [] (.ret (rD (t _ λ_=>tM ⟨p,⟨a,b,c,d⟩,n,pr,tk,sl⟩))) []:=by
 obtain⟨h1,h2,h3,h4⟩:=id iC;simp only at h1 h2 h3 h4;have hu:(⟨a,b,c,d⟩:bz).u:=⟨h2.1.2,h2.2.1.2,h2.2.2.1.2,h2.2.2.2.2⟩
 obtain⟨nl,IF⟩:∃nl:List Int,nl=[n,pr,tk]:=⟨_,rfl⟩;have aeJ:nl.length=3:=by rw[IF];rfl
 obtain⟨ck,UU⟩:∃ck,ck=c8 ⟨p,⟨a,b,c,d⟩,n,pr,tk,sl⟩:=⟨_,rfl⟩;obtain⟨ap,hap⟩:∃ap,ap=tM ⟨p,⟨a,b,c,d⟩,n,pr,tk,sl⟩:=⟨_,rfl⟩;have hno:¬ck=0->ap=[]:=λh=>by rw[hap,tM,if_pos (by rw[<-UU];exact h)]
 have ZZ:ck=0->ap=aB p++eZ ⟨a,b,c,d⟩++(nl.map aF).flatten++yx sl/\∀z∈nl,0<=z/\z<1000:=λh=>by have ok:=Q8 (UU.symm.trans h);simp only at ok;refine⟨by rw[hap,tM,if_neg (by rw[<-UU,h];simp),IF];simp,?_⟩;rw[IF];intro z hz;simp at hz;rcases hz with rfl|rfl|rfl<;>omega
 rw[<-hap]at hn ⊢;have Yl:ck=0->(yx sl).length<9223372036854775000:=λh=>by have:=vac List.length (ZZ h).1;simp only[vaa]at this;omega
 refine cC ht Tryz.func23 (N:=39) ?_;cbv;have fC:sr.length=sl.length:=by rw[X2,lgM]
 refine ar (qA ht _ _ _ _ _ _ _ _ ‹_› ‹_›) hY (λr0 bM=>?_);simp only[ht]at bM;rw[<-UU]at bM;subst r0;cbv;apply aj<;>intro h1
 .simp[ht]at h1;cbv;refine ak ?_;(simp_all;done)
 simp[ht]at h1;cbv;refine bE [false,false,false,false,false,true,true,true] ?_;cbv;iterate 2 refine gI (by simp) ?_
 refine .inl ?_;refine aT (λg2=>⟨hY,hY,eI ht _ (by omega)⟩) rfl rfl (λr3 iR=>?_);simp only[ht]at iR;have aeK:(r3).length=(aF p.length).length+p.length:=by rw[iR,aB,vaa]
 cbv;iterate 2 refine gI (by simp) ?_
 refine ar (uX ht _ _ _ _ ‹_›) hY (λr4 eY=>?_);simp only[ht]at eY;have abL:(r4).length<=40:=by rw[eY];exact mH _
 cbv;refine⟨?_,?_⟩
 ·(simp only[ht];grind)
 cbv;obtain⟨J5,Zp⟩:∃J5:Nat->List UInt8×Int->Prop,∀m o i,J5 m (o,i)↔(∃k:Nat,i=k/\k+m=3/\ap=o++((nl.drop k).map aF).flatten++yx sl):=⟨λm v=>match v with|(o,i)=>(∃k:Nat,i=k/\k+m=3/\ap=o++((nl.drop k).map aF).flatten++yx sl),λ_ _ _=>Iff.rfl⟩;refine bw ⟨[1,3,22,23,24],[],[]⟩ (σ:=List UInt8×Int) (λv=>[(3,.d (.str (t _ λ_=>v.1))),(24,.d (.int .i64 (t _ λ_=>v.2)))]) (λv=>[]) J5 ?_;cbv;refine aC ⟨3,(_,_),(Zp _ _ _).2 ?_,by simp only[ht];rfl,?_⟩
 ·(refine⟨0,rfl,rfl,?_⟩;rw[(ZZ ‹_›).1,iR,eY];simp)
 rintro m ⟨o,i⟩ hj;replace hj:=(Zp _ _ _).1 hj;obtain⟨k,rfl,j1,j4⟩:=hj;cbv;apply aj<;>intro h6
 .simp[ht,aa]at h6;cbv;(simp only[aa]at h6;refine eT ht (l:=nl) (cells:=Ux) (cT:=Ux) (by rw[IF];rfl) (by simp only[ht,aa];omega) (by simp only[ht,aa,aeJ];omega) (λ_=>rfl) (λ_=>rfl) (λxn TJ=>?_);simp only[ht]at TJ;replace TJ:nl[k]?=some xn:=TJ;rw[mo TJ]at j4;have pV:=vac List.length j4;simp at pV;obtain⟨z1,z2⟩:=(ZZ ‹_›).2 xn (vag TJ);have hzw:IntKind.u64.wrap xn=xn:=(by rw[bW];omega));cbv;refine ar (cZ ht _ (by(simp only[ht];omega))) hY (λr7 jU=>?_);simp only[ht]at jU;have Tu:=vac List.length jU
  (try rw[hzw]at jU);cbv;refine⟨?_,?_⟩
  ·(simp only[ht];grind)
  cbv;refine bA (_,_) (by simp only[ht];rfl) (m-1) ?_ ((Zp _ _ _).2 ?_)
  ·((try simp only[aa]at*);omega)
  simp only[aa];exact⟨k+1,aG (by omega),by((try simp only[aa]at*);omega),by rw[j4];simp[*]⟩
 simp[ht,aa]at h6;cbv;refine ar (WB ht ‹_› ‹_› ‹_› (by omega)) hY (λr8 tV=>?_);simp only[ht]at tV;have abN:=vac List.length tV
 cbv;refine⟨?_,?_⟩
 ·(simp only[ht];grind)
 cbv;refine ak ?_;(simp only[ht];grind)
theorem Xg(ht:TT t){l:List aR}{es:List (List D)}(aD:es=l.map aR.cells)(hl:l.length<1000000000)(hu:∀x∈l,x.cU.u/\x.used.u)(hn:(iY l).length<9223372036854775000):
 FC 22 [SL es] [] (.ret (rD (t _ λ_=>iY l))) []:=by
 have Ep:IntKind.u64.wrap (es.length:Int)=l.length:=by rw[bW,aD,lgM];omega
 refine cC ht Tryz.func22 (N:=31) ?_;cbv;have ay:es.length=l.length:=by rw[aD,lgM]
 refine ar (cZ ht _ (by(simp only[ht];((try simp only[aa]at*);omega)))) hY (λr0 bM=>?_);simp only[ht]at bM;(try rw[Ep]at bM);have Zk:=vac List.length bM
 cbv;obtain⟨J1,iB⟩:∃J1:Nat->List UInt8×Int->Prop,∀n o i,J1 n (o,i)↔(∃k:Nat,i=k/\k+n=l.length/\iY l=o++((l.drop k).map gm).flatten):=⟨λn v=>match v with|(o,i)=>(∃k:Nat,i=k/\k+n=l.length/\iY l=o++((l.drop k).map gm).flatten),λ_ _ _=>Iff.rfl⟩;refine bw ⟨[3,10,11,12],[],[]⟩ (σ:=List UInt8×Int) (λv=>[(3,.d (.str (t _ λ_=>v.1))),(12,.d (.int .i64 (t _ λ_=>v.2)))]) (λv=>[]) J1 ?_;cbv;refine aC ⟨l.length,(_,_),(iB _ _ _).2 ?_,by simp only[ht];rfl,?_⟩
 .exact⟨0,rfl,by simp,by simp[iY, *]⟩
 rintro n ⟨o,i⟩ hj;replace hj:=(iB _ _ _).1 hj;obtain⟨k,rfl,j1,j4⟩:=hj;cbv;apply aj<;>intro h2
 .simp[ht,aa,ay]at h2;cbv;refine eT ht aD (cT:=aR.aS t) (by(simp only[ht,aa];omega)) (by(simp only[ht,aa];omega)) (λ_=>rfl) (λ_=>rfl) (λx3 oU=>?_);simp[ht,aa]at oU;rw[mo oU,gm]at j4;have pV:=vac List.length j4
  simp only[vaa,aB]at pV;obtain⟨XZ,hu2⟩:=hu _ (vag oU);clear oU;obtain⟨pp,⟨q1,q2,q3,q4⟩,⟨q5,q6,q7,q8⟩⟩:=x3;simp only at pV;cbv;refine bE [false,false,false,false,false,false,false,false,false,false,false,false,true,true] ?_;cbv;iterate 3 refine gI (by simp) ?_
  refine .inl ?_;refine aT (λg4=>⟨hY,hY,eI ht _ (by omega)⟩) rfl rfl (λr5 lp=>?_);simp only[ht]at lp;have ace:=vac List.length lp
  simp only[aB,vaa]at ace;cbv;iterate 2 refine gI (by simp) ?_
  refine .inl ?_;refine aT (λg6=>⟨hY,hY,uX ht _ _ _ _ ‹_›⟩) rfl rfl (λr7 jU=>?_);simp only[ht]at jU;have Tu:=vac List.length jU
  cbv;refine gI (by simp[ht];omega) ?_;iterate 2 refine gI (by simp) ?_
  refine .inl ?_;refine aT (λg8=>⟨hY,hY,uX ht _ _ _ _ ‹_›⟩) rfl rfl (λr9 dR=>?_);simp only[ht]at dR;have Zq:=vac List.length dR
  cbv;refine gI (by simp[ht];omega) ?_;refine⟨?_,?_⟩
  ·(simp[ht];omega)
  cbv;refine bA (_,_) (by simp only[ht];rfl) (n-1) ?_ ((iB _ _ _).2 ?_)
  .omega
  simp only[aa];exact⟨k+1,aG (by omega),by omega,by rw[j4];simp[*]⟩
 simp[ht,aa,ay]at h2;cbv;refine ak ?_;(rw[vah (by omega)]at j4;simp[*];done)
def HE(s:cI):az:=aF s.round++aF s.next++iy s.bt++iY s.tree++aF s.aJ.length++(s.aJ.map eL).flatten
theorem K8(s:cI):eM s=HE s++bX s.ev++bX s.au:=rfl
theorem K9(ht:TT t)(rd nx ef af:Int){nl:List Node}{pl:List Place}{tl:List aR}{jl:List Jb}{ql:List bR}{el al:List cw}{ns ps ts js qs es eO:List (List D)}(ij:ns=nl.map Node.cells)(hps:ps=pl.map Place.cells)(hts:ts=tl.map aR.cells)(gD:js=jl.map Jb.cells)(fX:qs=ql.map bR.cells)(aD:es=el.map cw.cells)(has:eO=al.map cw.cells)(hrd:rd<18446744073709551616)(V8:nx<18446744073709551616)(IF:nl.length<1000000000)(oB:pl.length<1000000000)(ahC:∀x∈nl,x.sm)(hnu:∀x∈nl,x.cap.u)(hpu:∀x∈pl,x.v.u/\x.bL<18446744073709551616)
 (htl:tl.length<1000000000) (htu:∀x∈tl,x.cU.u/\x.used.u) (hjl:jl.length<1000000) (hju:∀x∈jl,x.x.sm/\x.id<18446744073709551616) (hef:ef<18446744073709551616) (hel:el.length<1000000000) (heu:∀x∈el,x.round<18446744073709551616/\x.id<18446744073709551616)
 (haf:af<18446744073709551616) (hal:al.length<1000000000) (hau:∀x∈al,x.round<18446744073709551616/\x.id<18446744073709551616) (hn:(eM ⟨rd,nx,⟨nl,pl⟩,tl,jl,ql,⟨ef,el⟩,⟨af,al⟩⟩).length<9223372036854775000):
 FC 6 [.agg [aA rd,aA nx,SL ns,SL ps,SL ts,SL js,SL qs,aA ef,SL es,aA af,SL eO]] [] (.ret (rD (t _ λ_=>eM ⟨rd,nx,⟨nl,pl⟩,tl,jl,ql,⟨ef,el⟩,⟨af,al⟩⟩))) []:=by
 have Ep:IntKind.u64.wrap (js.length:Int)=jl.length:=by rw[bW,gD,lgM];omega
 obtain⟨z,hz⟩:∃z,z=HE ⟨rd,nx,⟨nl,pl⟩,tl,jl,ql,⟨ef,el⟩,⟨af,al⟩⟩:=⟨_,rfl⟩;have LR:=hn
 rw[K8,<-hz]at LR;simp only[vaa]at LR;have hz1:=vac List.length hz
 simp only[HE,vaa]at hz1;have hn2:(iy ⟨nl,pl⟩).length<9223372036854775000:=by omega
 have X9:(iY tl).length<9223372036854775000:=by omega
 have hn4:(bX ⟨ef,el⟩).length<9223372036854775000:=by omega
 have hn5:(bX ⟨af,al⟩).length<9223372036854775000:=by omega
 refine cC ht Tryz.func6 (N:=58) ?_;cbv;obtain⟨dc,dm,dG,cF,cM,ay,cG⟩:=je ij hps hts gD fX aD has;refine bE [false,false,false,false,false,false,false,false,false,false,false,false,false,false,false,false,false,false,false,false,true,true] ?_;cbv;iterate 2 refine gI (by simp) ?_
 refine .inl ?_;refine aT (λg0=>⟨hY,hY,cZ ht _ ‹_›⟩) rfl rfl (λr1 ej=>?_);simp only[ht]at ej;(try rw[Ep]at ej);have Zr:=vac List.length ej
 cbv;iterate 2 refine gI (by simp) ?_
 refine .inl ?_;refine aT (λg2=>⟨hY,hY,cZ ht _ ‹_›⟩) rfl rfl (λr3 iR=>?_);simp only[ht]at iR;(try rw[Ep]at iR);have aeK:=vac List.length iR
 cbv;refine gI (by simp[ht];omega) ?_;iterate 2 refine gI (by simp) ?_
 refine .inl ?_;refine aT (λg4=>⟨hY,hY,Wz ht ‹_› ‹_› ‹_› ‹_› ‹_› ‹_› ‹_› ‹_›⟩) rfl rfl (λr5 lp=>?_);simp only[ht]at lp;have ace:=vac List.length lp
 cbv;refine gI (by simp[ht];omega) ?_;iterate 2 refine gI (by simp) ?_
 refine .inl ?_;refine aT (λg6=>⟨hY,hY,Xg ht ‹_› ‹_› ‹_› ‹_›⟩) rfl rfl (λr7 jU=>?_);simp only[ht]at jU;have Tu:=vac List.length jU
 cbv;refine gI (by simp[ht];omega) ?_;iterate 4 refine gI (by simp) ?_
 refine .inl ?_;refine aT (λg8=>⟨hY,hY,cZ ht _ (by(simp only[ht];((try simp only[aa]at*);omega)))⟩) rfl rfl (λr9 dR=>?_);simp only[ht]at dR;(try rw[Ep]at dR);have Zq:=vac List.length dR
 cbv;refine⟨?_,?_⟩
 ·(simp[ht];omega)
 cbv;obtain⟨J10,Z0⟩:∃J10:Nat->List UInt8×Int->Prop,∀n o i,J10 n (o,i)↔(∃k:Nat,i=k/\k+n=jl.length/\z=o++((jl.drop k).map eL).flatten):=⟨λn v=>match v with|(o,i)=>(∃k:Nat,i=k/\k+n=jl.length/\z=o++((jl.drop k).map eL).flatten),λ_ _ _=>Iff.rfl⟩;refine bw ⟨[1,3,28,29,30],[],[]⟩ (σ:=List UInt8×Int) (λv=>[(3,.d (.str (t _ λ_=>v.1))),(30,.d (.int .i64 (t _ λ_=>v.2)))]) (λv=>[]) J10 ?_;cbv;refine aC ⟨jl.length,(_,_),(Z0 _ _ _).2 ?_,by simp only[ht];rfl,?_⟩
 .exact⟨0,rfl,by simp,by rw[hz];simp[HE, *]⟩
 rintro n ⟨o,i⟩ hj;replace hj:=(Z0 _ _ _).1 hj;obtain⟨k,rfl,j1,j4⟩:=hj;cbv;apply aj<;>intro h11
 .simp[ht,aa,cF]at h11;cbv;refine eT ht gD (cT:=Jb.aS t) (by(simp only[ht,aa];omega)) (by(simp only[ht,aa];omega)) (λ_=>rfl) (λ_=>(by(simp only[ht,Jb.aS];rfl))) (λx12 Xh=>?_);simp[ht,aa]at Xh;rw[mo Xh,eL]at j4;have pV:=vac List.length j4
  simp only[vaa,u64,<-bW]at pV;obtain⟨XZ,hu2⟩:=hju _ (vag Xh);clear Xh;obtain⟨ji,⟨jq,⟨ja,jb,jc,jd⟩,jn,jp,jt,iv⟩,jr,jf⟩:=x12;simp only at pV;cbv;refine bE [false,false,false,false,false,false,false,false,false,false,false,false,false,true,true] ?_;cbv;iterate 3 refine gI (by simp) ?_
  refine .inl ?_;refine aT (λg13=>⟨hY,hY,cZ ht _ ‹_›⟩) rfl rfl (λZo qy=>?_);simp only[ht]at qy;(try rw[Ep]at qy);have abO:=vac List.length qy
  cbv;iterate 2 refine gI (by simp) ?_
  refine .inl ?_;refine aT (λg15=>⟨hY,hY,Xf ht _ _ _ _ _ _ _ _ (lm ht rfl) ‹_› (by((try simp only[aa]at*);omega))⟩) rfl rfl (λr16 G1=>?_);simp only[ht]at G1;have abP:=vac List.length G1
  cbv;refine gI (by simp[ht];omega) ?_;iterate 3 refine gI (by simp) ?_
  refine .inl ?_;refine aT (λg17=>⟨hY,hY,cZ ht _ (by(simp only[ht,bW];omega))⟩) rfl rfl (λr18 Qk=>?_);simp only[ht]at Qk;(try rw[Ep]at Qk);have af1:=vac List.length Qk
  cbv;refine gI (by simp[ht];omega) ?_;refine⟨?_,?_⟩
  ·(simp[ht];omega)
  cbv;refine bA (_,_) (by simp only[ht];rfl) (n-1) ?_ ((Z0 _ _ _).2 ?_)
  .omega
  simp only[aa];exact⟨k+1,aG (by omega),by omega,by rw[j4];simp only[u64,<-bW];simp[*]⟩
 simp[ht,aa,cF]at h11;cbv;refine bE [false,false,false,false,false,false,false,false,true,true] ?_;cbv;iterate 3 refine gI (by simp) ?_
 refine .inl ?_;refine aT (λg19=>⟨hY,hY,DZ ht _ ‹_› ‹_› ‹_› ‹_› ‹_›⟩) rfl rfl (λr20 Ql=>?_);simp only[ht]at Ql;have af2:=vac List.length Ql
 cbv;refine gI (by simp[ht];grind) ?_;iterate 2 refine gI (by simp) ?_
 refine .inl ?_;refine aT (λg21=>⟨hY,hY,DZ ht _ ‹_› ‹_› ‹_› ‹_› ‹_›⟩) rfl rfl (λr22 acf=>?_);simp only[ht]at acf;have af3:=vac List.length acf
 cbv;refine⟨?_,?_⟩
 ·(simp only[ht];grind)
 cbv;refine ak ?_;(rw[vah (by omega),List.map_nil,List.flatten_nil,List.append_nil]at j4;simp only[ht,K8,<-hz,j4];simp[*];done)
theorem Xi{x y:aR}:x=y↔x.path=y.path/\x.cU=y.cU/\x.used=y.used:=by cases x;cases y;simp
theorem acg{x y:Jb}:x=y↔x.id=y.id/\x.x=y.x/\x.runs=y.runs/\x.left=y.left:=by cases x;cases y;simp
theorem Uy(ht:TT t){l m:List aR}{es fs:List (List D)}(aD:es=l.map aR.cells)(vz:fs=m.map aR.cells)(hl:l.length<1000000000)(hm:m.length<1000000000):
 FC 27 [SL es,SL fs] [] (.ret (cA (t _ λ_=>decide (l=m)))) []:=by
 refine cC ht Tryz.func27 (N:=26) ?_;cbv;have ay:es.length=l.length:=by rw[aD,lgM]
 have cY:fs.length=m.length:=by rw[vz,lgM]
 apply aj<;>intro h0
 .simp[ht,aa,ay,cY]at h0;cbv;refine ak ?_;(simp[ht];rintro rfl;simp_all;done)
 simp[ht,aa,ay,cY]at h0;cbv;obtain⟨J1,iB⟩:∃J1:Nat->Int->Prop,∀n i,J1 n i↔(∃k:Nat,i=k/\k+n=l.length/\l.length=m.length/\decide (l=m)=decide (l.drop k=m.drop k)):=⟨λn v=>match v with|i=>(∃k:Nat,i=k/\k+n=l.length/\l.length=m.length/\decide (l=m)=decide (l.drop k=m.drop k)),λ_ _=>Iff.rfl⟩;refine bw ⟨[0,1,12,13],[],[]⟩ (σ:=Int) (λv=>[(13,.d (.int .i64 (t _ λ_=>v)))]) (λv=>[]) J1 ?_;cbv;refine aC ⟨l.length,_,(iB _ _).2 ?_,by simp only[ht];rfl,?_⟩
 ·(simp only[aa];grind)
 rintro n i hj;replace hj:=(iB _ _).1 hj;obtain⟨k,rfl,j1,j2,j4⟩:=hj;cbv;apply aj<;>intro h2
 .simp[ht,aa,ay]at h2;cbv;refine bE [false,false,false,false,false,false,false,false,true] ?_;cbv;iterate 2 refine gI (by simp) ?_
  refine eT ht aD (cT:=aR.aS t) (by(simp only[ht,aa];omega)) (by(simp only[ht,aa];omega)) (λ_=>rfl) (λ_=>rfl) (λx3 oU=>?_);simp[ht,aa]at oU;rw[cu oU]at j4;cbv;iterate 3 refine gI (by simp) ?_
  refine eT ht vz (cT:=aR.aS t) (by(simp only[ht,aa];omega)) (by(simp only[ht,aa];omega)) (λ_=>rfl) (λ_=>rfl) (λx4 vL=>?_);simp[ht,aa]at vL;rw[cu vL]at j4;cbv;refine gI (by simp) ?_;apply aj<;>intro h5
  .simp[ht]at h5;cbv;refine ak ?_;(simp[ht];rintro rfl;simp_all;done)
  simp[ht]at h5;cbv;refine bA _ (by simp only[ht];rfl) (n-1) ?_ ((iB _ _).2 ?_)
  .omega
  simp only[aa];refine⟨k+1,aG (by omega),by omega,by omega,?_⟩;(simp[Xi,pi, *];done)
 simp[ht,aa,ay]at h2;cbv;refine ak ?_;(simp[ht,j4,vah (show l.length<=k by omega),vah (show m.length<=k by omega)];done)
theorem Uz(ht:TT t){l m:List bR}{es fs:List (List D)}(aD:es=l.map bR.cells)(vz:fs=m.map bR.cells)(hl:l.length<1000000000)(hm:m.length<1000000000):
 FC 28 [SL es,SL fs] [] (.ret (cA (t _ λ_=>decide (l=m)))) []:=by
 refine cC ht Tryz.func28 (N:=26) ?_;cbv;have ay:es.length=l.length:=by rw[aD,lgM]
 have cY:fs.length=m.length:=by rw[vz,lgM]
 apply aj<;>intro h0
 .simp[ht,aa,ay,cY]at h0;cbv;refine ak ?_;(simp[ht];rintro rfl;simp_all;done)
 simp[ht,aa,ay,cY]at h0;cbv;obtain⟨J1,iB⟩:∃J1:Nat->Int->Prop,∀n i,J1 n i↔(∃k:Nat,i=k/\k+n=l.length/\l.length=m.length/\decide (l=m)=decide (l.drop k=m.drop k)):=⟨λn v=>match v with|i=>(∃k:Nat,i=k/\k+n=l.length/\l.length=m.length/\decide (l=m)=decide (l.drop k=m.drop k)),λ_ _=>Iff.rfl⟩;refine bw ⟨[0,1,12,13],[],[]⟩ (σ:=Int) (λv=>[(13,.d (.int .i64 (t _ λ_=>v)))]) (λv=>[]) J1 ?_;cbv;refine aC ⟨l.length,_,(iB _ _).2 ?_,by simp only[ht];rfl,?_⟩
 ·(simp only[aa];grind)
 rintro n i hj;replace hj:=(iB _ _).1 hj;obtain⟨k,rfl,j1,j2,j4⟩:=hj;cbv;apply aj<;>intro h2
 .simp[ht,aa,ay]at h2;cbv;refine bE [false,false,false,false,false,false,false,false,true] ?_;cbv;iterate 2 refine gI (by simp) ?_
  refine eT ht aD (cT:=bR.aS t) (by(simp only[ht,aa];omega)) (by(simp only[ht,aa];omega)) (λ_=>rfl) (λ_=>rfl) (λx3 oU=>?_);simp[ht,aa]at oU;rw[cu oU]at j4;cbv;iterate 3 refine gI (by simp) ?_
  refine eT ht vz (cT:=bR.aS t) (by(simp only[ht,aa];omega)) (by(simp only[ht,aa];omega)) (λ_=>rfl) (λ_=>rfl) (λx4 vL=>?_);simp[ht,aa]at vL;rw[cu vL]at j4;cbv;refine gI (by simp) ?_;apply aj<;>intro h5
  .simp[ht]at h5;cbv;refine ak ?_;(simp[ht];rintro rfl;simp_all;done)
  simp[ht]at h5;cbv;refine bA _ (by simp only[ht];rfl) (n-1) ?_ ((iB _ _).2 ?_)
  .omega
  simp only[aa];refine⟨k+1,aG (by omega),by omega,by omega,?_⟩;(simp[Ni, *];done)
 simp[ht,aa,ay]at h2;cbv;refine ak ?_;(simp[ht,j4,vah (show l.length<=k by omega),vah (show m.length<=k by omega)];done)
theorem UA(ht:TT t)(ji ja jb jc jd jn jp jt jf ki ka kb kc kd kn kp kt kf:Int)(jq kq:az)(jr kr:Bool){iv ksl:List Term}{oE ksr:List (List D)}(gS:oE=iv.map Term.cells)(aeN:ksr=ksl.map Term.cells)
 (hl:iv.length<1000000000) (hl':ksl.length<1000000000) (hs:∀x∈iv,x.fk.length<1000000000) (hs':∀x∈ksl,x.fk.length<1000000000):
 FC 31 [.agg [aA ji,ST jq,aA ja,aA jb,aA jc,aA jd,bf jn,bf jp,bf jt,SL oE,BL jr,bf jf],.agg [aA ki,ST kq,aA ka,aA kb,aA kc,aA kd,bf kn,bf kp,bf kt,SL ksr,BL kr,bf kf]] [] (.ret (cA (t _ λ_=>decide ((⟨ji,⟨jq,⟨ja,jb,jc,jd⟩,jn,jp,jt,iv⟩,jr,jf⟩:Jb)=⟨ki,⟨kq,⟨ka,kb,kc,kd⟩,kn,kp,kt,ksl⟩,kr,kf⟩)))) []:=by
 refine cC ht Tryz.func31 (N:=31) ?_;cbv;have rO:oE.length=iv.length:=by rw[gS,lgM]
 have acV:ksr.length=ksl.length:=by rw[aeN,lgM]
 iterate 5 refine gI (by simp[ht]) ?_
 refine pI (by simp[ht]) ?_;iterate 5 refine gI (by simp[ht]) ?_
 refine pI (by simp[ht]) ?_;iterate 4 refine gI (by simp[ht]) ?_
 refine aT (λg0=>⟨by simp[ht]at g0 ⊢;exact g0,hY,TD ht _ _ _ _ _ _ _ _ _ _ _ _ _ _ _ _ ‹_› ‹_› ‹_› ‹_› ‹_› ‹_›⟩) rfl rfl (λr1 ej=>?_);simp only[ht]at ej;cbv;refine pI (by simp[ht]) ?_;refine ak ?_;(simp[*];grind)
theorem UB(ht:TT t){l m:List Jb}{es fs:List (List D)}(aD:es=l.map Jb.cells)(vz:fs=m.map Jb.cells)(hl:l.length<1000000000)(hm:m.length<1000000000)(hls:∀x∈l,x.x.sm)(Vk:∀x∈m,x.x.sm):
 FC 30 [SL es,SL fs,.fn 31 []] [] (.ret (cA (t _ λ_=>decide (l=m)))) []:=by
 refine cC ht Tryz.func30 (N:=32) ?_;cbv;have ay:es.length=l.length:=by rw[aD,lgM]
 have cY:fs.length=m.length:=by rw[vz,lgM]
 apply aj<;>intro h0
 .simp[ht,aa,ay,cY]at h0;cbv;refine ak ?_;(simp[ht];rintro rfl;simp_all;done)
 simp[ht,aa,ay,cY]at h0;cbv;obtain⟨J1,iB⟩:∃J1:Nat->Int->Prop,∀n i,J1 n i↔(∃k:Nat,i=k/\k+n=l.length/\l.length=m.length/\decide (l=m)=decide (l.drop k=m.drop k)):=⟨λn v=>match v with|i=>(∃k:Nat,i=k/\k+n=l.length/\l.length=m.length/\decide (l=m)=decide (l.drop k=m.drop k)),λ_ _=>Iff.rfl⟩;refine bw ⟨[1,2,15,16,17],[],[]⟩ (σ:=Int) (λv=>[(17,.d (.int .i64 (t _ λ_=>v)))]) (λv=>[]) J1 ?_;cbv;refine aC ⟨l.length,_,(iB _ _).2 ?_,by simp only[ht];rfl,?_⟩
 ·(simp only[aa];grind)
 rintro n i hj;replace hj:=(iB _ _).1 hj;obtain⟨k,rfl,j1,j2,j4⟩:=hj;cbv;apply aj<;>intro h2
 .simp[ht,aa,ay]at h2;cbv;refine eT ht aD (cT:=Jb.aS t) (by(simp only[ht,aa];omega)) (by(simp only[ht,aa];omega)) (λ_=>rfl) (λ_=>(by(simp only[ht,Jb.aS];rfl))) (λx3 oU=>?_);simp[ht,aa]at oU;rw[cu oU]at j4;have sx3:=hls _ (vag oU)
  obtain⟨ahF,ahG,ahH,aeO⟩:=sx3;have ahI:∀y∈(x3).x.cj,y.fk.length<1000000000:=λy hy=>(aeO y hy).2.1
  cbv;refine eT ht vz (cT:=Jb.aS t) (by(simp only[ht,aa];omega)) (by(simp only[ht,aa];omega)) (λ_=>rfl) (λ_=>(by(simp only[ht,Jb.aS];rfl))) (λx4 vL=>?_);simp[ht,aa]at vL;rw[cu vL]at j4;have sx4:=Vk _ (vag vL)
  obtain⟨ahJ,ahK,ahL,aeP⟩:=sx4;have ahM:∀y∈(x4).x.cj,y.fk.length<1000000000:=λy hy=>(aeP y hy).2.1
  cbv;refine ar (UA ht _ _ _ _ _ _ _ _ _ _ _ _ _ _ _ _ _ _ _ _ _ _ (lm ht rfl) (lm ht rfl) ‹_› ‹_› ‹_› ‹_›) hY (λr5 lp=>?_);simp only[ht]at lp;cbv;apply aj<;>intro h6
  .simp[ht]at h6;cbv;refine ak ?_;(simp[ht];rintro rfl;simp_all;done)
  simp[ht]at h6;cbv;refine bA _ (by simp only[ht];rfl) (n-1) ?_ ((iB _ _).2 ?_)
  .omega
  simp only[aa];refine⟨k+1,aG (by omega),by omega,by omega,?_⟩;(simp_all[acg,Zx,pi];done)
 simp[ht,aa,ay]at h2;cbv;refine ak ?_;(simp[ht,j4,vah (show l.length<=k by omega),vah (show m.length<=k by omega)];done)
theorem FP(ht:TT t)(rd nx ef af:Int){nl:List Node}{pl:List Place}{tl:List aR}{jl:List Jb}{ql:List bR}{el al:List cw}{ns ps ts js qs es eO:List (List D)}(ij:ns=nl.map Node.cells)(hps:ps=pl.map Place.cells)(hts:ts=tl.map aR.cells)(gD:js=jl.map Jb.cells)(fX:qs=ql.map bR.cells)(aD:es=el.map cw.cells)(has:eO=al.map cw.cells)(rd' nx' ef' af':Int){nl':List Node}{pl':List Place}{tl':List aR}{Z1:List Jb}{ql':List bR}{el' al':List cw}{ns' ps' ts' js' Zf es' Z2:List (List D)}(aeR:ns'=nl'.map Node.cells)(aeS:ps'=pl'.map Place.cells)(aeT:ts'=tl'.map aR.cells)(aeU:js'=Z1.map Jb.cells)(Zg:Zf=ql'.map bR.cells)(MM:es'=el'.map cw.cells)(aeV:Z2=al'.map cw.cells)
 (hb:nl.length<1000000/\pl.length<1000000/\tl.length<100000/\jl.length<1000000/\ql.length<1000000/\el.length<1000000/\al.length<1000000) (hb':nl'.length<1000000/\pl'.length<1000000/\tl'.length<100000/\Z1.length<1000000/\ql'.length<1000000/\el'.length<1000000/\al'.length<1000000)
 (hls:∀x∈nl,x.labels.length<1000000000) (ad0:∀x∈nl',x.labels.length<1000000000) (hjl:∀x∈jl,x.x.sm) (ahN:∀x∈Z1,x.x.sm):
 FC 8 [.agg [aA rd,aA nx,SL ns,SL ps,SL ts,SL js,SL qs,aA ef,SL es,aA af,SL eO],.agg [aA rd',aA nx',SL ns',SL ps',SL ts',SL js',SL Zf,aA ef',SL es',aA af',SL Z2]] [] (.ret (cA (t _ λ_=>Dg ⟨rd,nx,⟨nl,pl⟩,tl,jl,ql,⟨ef,el⟩,⟨af,al⟩⟩ ⟨rd',nx',⟨nl',pl'⟩,tl',Z1,ql',⟨ef',el'⟩,⟨af',al'⟩⟩))) []:=by
 obtain⟨b1,b2,b3,b4,b5,b6,b7⟩:=hb;obtain⟨d1,d2,d3,d4,d5,d6,d7⟩:=hb';refine cC ht Tryz.func8 (N:=61) ?_;cbv;obtain⟨dc,dm,dG,cF,cM,ay,cG⟩:=je ij hps hts gD fX aD has;have acW:ns'.length=nl'.length:=by rw[aeR,lgM]
 have acX:ps'.length=pl'.length:=by rw[aeS,lgM]
 have acY:ts'.length=tl'.length:=by rw[aeT,lgM]
 have acZ:js'.length=Z1.length:=by rw[aeU,lgM]
 have Wr:Zf.length=ql'.length:=by rw[Zg,lgM]
 have Wq:es'.length=el'.length:=by rw[MM,lgM]
 have aci:Z2.length=al'.length:=by rw[aeV,lgM]
 iterate 5 refine gI (by simp[ht]) ?_
 refine pI (by simp[ht]) ?_;iterate 4 refine gI (by simp[ht]) ?_
 refine aT (λg0=>⟨by simp[ht]at g0 ⊢;exact g0,hY,Uy ht ‹_› ‹_› (by omega) (by omega)⟩) rfl rfl (λr1 ej=>?_);simp only[ht]at ej;cbv;refine pI (by simp[ht]) ?_;iterate 4 refine gI (by simp[ht]) ?_
 refine aT (λg2=>⟨by simp[ht]at g2 ⊢;exact g2,hY,Uz ht ‹_› ‹_› (by omega) (by omega)⟩) rfl rfl (λr3 iR=>?_);simp only[ht]at iR;cbv;refine pI (by simp[ht]) ?_;iterate 4 refine gI (by simp[ht]) ?_
 refine aT (λg4=>⟨by simp[ht]at g4 ⊢;exact g4,hY,Wp ht ‹_› ‹_› ‹_› ‹_› (by omega) (by omega) (by omega) (by omega) ‹_› ‹_›⟩) rfl rfl (λr5 lp=>?_);simp only[ht]at lp;cbv;refine pI (by simp[ht]) ?_;iterate 4 refine gI (by simp[ht]) ?_
 refine aT (λg6=>⟨by simp[ht]at g6 ⊢;exact g6,hY,UB ht ‹_› ‹_› (by omega) (by omega) ‹_› ‹_›⟩) rfl rfl (λr7 jU=>?_);simp only[ht]at jU;cbv;refine pI (by simp[ht]) ?_;iterate 4 refine gI (by simp[ht]) ?_
 refine aT (λg8=>⟨by simp[ht]at g8 ⊢;exact g8,hY,Bg ht _ _ ‹_› ‹_› (by omega) (by omega)⟩) rfl rfl (λr9 dR=>?_);simp only[ht]at dR;cbv;refine pI (by simp[ht]) ?_;iterate 4 refine gI (by simp[ht]) ?_
 refine aT (λg10=>⟨by simp[ht]at g10 ⊢;exact g10,hY,Bg ht _ _ ‹_› ‹_› (by omega) (by omega)⟩) rfl rfl (λWf mW=>?_);simp only[ht]at mW;cbv;refine pI (by simp[ht]) ?_;refine ak ?_;(simp[Dg, *];done)
end Dem
end
