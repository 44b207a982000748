/- Parts of a proof, joined. -/
import Derived.Test.YtihohjnkkalgiaaGreatDoorS24
set_option linter.all false
set_option maxRecDepth 100000
set_option maxHeartbeats 4000000
section
open Go Dem Go.Proofs
namespace Dem
variable {t:Th}
def V7 (t:Th) (r:List Int×List aK×Bool):AV:=.eA [SL (t _ fun _=>r.1.map Int.cells),SL (t _ fun _=>r.2.1.map bE),BL r.2.2]
theorem vM {l:List Int} {es:List (List D)} (h:es=l.map Int.cells):∀r∈es,r.length=1:=by rw [h];intro r hr;obtain ⟨y,_,rfl⟩:=List.mem_map.1 hr;rfl
theorem KJ (ht:TT t) {l:List Int} {es:List (List D)} (aE:es=l.map Int.cells) {i m:Nat} (hm:m=l.length) {z z1:Int} (hz:z=i) (hz1:z1=(i:Int)+1) (hi:i<l.length) (hs:l.length<1000000) {r:List (List D)} (hr:r=(l.eraseIdx i).map Int.cells):
 FC 55 [.ow 0 1 m,bG z,bG z1] [.row 1 es] (.ret (SL r)) [.dead]:=by
 have e1:z1=((i+1:Nat):Int):=by omega
 have hel:es.length=l.length:=by rw [aE,lgM]
 subst hz
 rw [e1]
 refine dZ (fun c hc hc0=>KI ht (es:=es) (i:=i) (by omega) (by omega) hc (vM aE) (by omega) ?_)
 rw [hr,aE,List.eraseIdx_eq_take_drop_succ,List.map_append,List.map_take,List.map_drop]
theorem vN (l:List Int) (k:Nat):iD (l.map Int.cells) none (some (k:Int))=(l.take k).map Int.cells:=by rw [List.map_take];rfl
theorem KL (ht:TT t) (rd nx ef af:Int) {nl:List Node} {pl:List Place} {tl:List bg} {jl:List Jb} {ql:List cu} {el al:List ek} {ns ps ts js qs es bW:List (List D)} (fF:ns=nl.map Node.cells) (hps:ps=pl.map Place.cells) (hts:ts=tl.map bg.cells) (eW:js=jl.map Jb.cells) (eM:qs=ql.map cu.cells) (aE:es=el.map ek.cells) (has:bW=al.map ek.cells) (id:Int) (Ci:FC 18 [.agg [aC rd,aC nx,SL ns,SL ps,SL ts,SL js,SL qs,aC ef,SL es,aC af,SL bW],aC id] [] (.ret (Rc t (t _ fun _=>bZ ⟨rd,nx,⟨nl,pl⟩,tl,jl,ql,⟨ef,el⟩,⟨af,al⟩⟩ id))) []) (hal:(bZ ⟨rd,nx,⟨nl,pl⟩,tl,jl,ql,⟨ef,el⟩,⟨af,al⟩⟩ id).length<1000) (hg:∀l,(aI ⟨rd,nx,⟨nl,pl⟩,tl,jl,ql,⟨ef,el⟩,⟨af,al⟩⟩ l).sm):
 FC 19 [.agg [aC rd,aC nx,SL ns,SL ps,SL ts,SL js,SL qs,aC ef,SL es,aC af,SL bW],aC id] [] (.ret (V7 t (t _ fun _=>aB ⟨rd,nx,⟨nl,pl⟩,tl,jl,ql,⟨ef,el⟩,⟨af,al⟩⟩ id))) []:=by
 obtain ⟨A,hA⟩:∃A,A=bZ ⟨rd,nx,⟨nl,pl⟩,tl,jl,ql,⟨ef,el⟩,⟨af,al⟩⟩ id:=⟨_,rfl⟩
 obtain ⟨R,hR⟩:∃R,R=aB ⟨rd,nx,⟨nl,pl⟩,tl,jl,ql,⟨ef,el⟩,⟨af,al⟩⟩ id:=⟨_,rfl⟩
 obtain ⟨F,hF⟩:∃F,F=ld ⟨rd,nx,⟨nl,pl⟩,tl,jl,ql,⟨ef,el⟩,⟨af,al⟩⟩ id A (A.length+1) 0:=⟨_,rfl⟩
 have hRF:(F=none→R=([],[],false))∧∀l nodes,F=some (l,nodes)→R=((gq ⟨rd,nx,⟨nl,pl⟩,tl,jl,ql,⟨ef,el⟩,⟨af,al⟩⟩ id (l.length+1) 0 l nodes).1,(gq ⟨rd,nx,⟨nl,pl⟩,tl,jl,ql,⟨ef,el⟩,⟨af,al⟩⟩ id (l.length+1) 0 l nodes).2,true):=by
  have e:R=qW ⟨rd,nx,⟨nl,pl⟩,tl,jl,ql,⟨ef,el⟩,⟨af,al⟩⟩ id A:=by rw [hR,hA];rfl
  unfold qW at e
  rw [←hF] at e
  exact ⟨fun h=>by rw [h] at e;exact e,fun l nodes h=>by rw [h] at e;exact e⟩
 rw [←hA] at Ci hal
 rw [←hR]
 have hT:∀(u:List Int) (us:List (List D)),us=u.map Int.cells→u.length<1000000→FC 52 [SL us,.ptr 0 0,.ptr 1 0] [.var [aC rd,aC nx,SL ns,SL ps,SL ts,SL js,SL qs,aC ef,SL es,aC af,SL bW],.var [aC id]] (.ret (Cf t (t _ fun _=>fQ ⟨rd,nx,⟨nl,pl⟩,tl,jl,ql,⟨ef,el⟩,⟨af,al⟩⟩ id u))) [.var [aC rd,aC nx,SL ns,SL ps,SL ts,SL js,SL qs,aC ef,SL es,aC af,SL bW],.var [aC id]]:=
  fun u us h1 h2=>V6 ht rd nx ef af fF hps hts eW eM aE has id h1 h2 (fun k=>hg _)
 obtain ⟨T,Y9⟩:∃T:List Int→List aK×Bool,T=fQ ⟨rd,nx,⟨nl,pl⟩,tl,jl,ql,⟨ef,el⟩,⟨af,al⟩⟩ id:=⟨_,rfl⟩
 obtain ⟨G,hG⟩:∃G:Nat→Nat→Option (List Int×List aK),G=ld ⟨rd,nx,⟨nl,pl⟩,tl,jl,ql,⟨ef,el⟩,⟨af,al⟩⟩ id A:=⟨_,rfl⟩
 obtain ⟨H,hH⟩:∃H:Nat→Nat→List Int→List aK→List Int×List aK,H=gq ⟨rd,nx,⟨nl,pl⟩,tl,jl,ql,⟨ef,el⟩,⟨af,al⟩⟩ id:=⟨_,rfl⟩
 have hGs:∀n k,G (n+1) k=if (T (A.take k)).2 then some (A.take k,(T (A.take k)).1) else G n (k+1):=by intro n k;rw [hG,Y9];rfl
 have hG0:∀k,G 0 k=none:=by intro k;rw [hG];rfl
 have hHs:∀n k l nodes,H (n+1) k l nodes=if k<l.length then (if (T (l.eraseIdx k)).2 then H n k (l.eraseIdx k) (T (l.eraseIdx k)).1 else H n (k+1) l nodes) else (l,nodes):=by intro n k l nodes;rw [hH,Y9];rfl
 rw [←hG] at hF
 rw [←hH] at hRF
 rw [←Y9] at hT
 clear hG hH Y9 hR hA
 refine bP ht (aQ:=[]) Tryz.func19 rfl rfl (N:=62) rfl rfl (n:=0) rfl rfl ?_
 cbv
 have hw:IntKind.i64.wrap ((A.length:Int)+1)=(A.length:Int)+1:=wrap64 (by omega) (by omega)
 have bJ:ns.length=nl.length:=by rw [fF,lgM]
 have bQ:ps.length=pl.length:=by rw [hps,lgM]
 have bK:ts.length=tl.length:=by rw [hts,lgM]
 have bT:js.length=jl.length:=by rw [eW,lgM]
 have bq:qs.length=ql.length:=by rw [eM,lgM]
 have aD:es.length=el.length:=by rw [aE,lgM]
 have bD:bW.length=al.length:=by rw [has,lgM]
 (refine aF trv Ci (by simp) rfl rfl rfl (fun r1 cF=>?_);simp only [ht] at cF;subst r1)
 cbv
 obtain ⟨J0,fI⟩:∃J0:Nat→List (List D)×List (List D)×Bool×Int→Prop,∀m ls nd ok i,J0 m (ls,nd,ok,i)↔(∃k:Nat,i=k∧k+m=A.length+1∧ok=false∧F=G m k):=⟨fun m v=>match v with|(ls,nd,ok,i)=>(∃k:Nat,i=k∧k+m=A.length+1∧ok=false∧F=G m k),fun _ _ _ _ _=>Iff.rfl⟩
 refine bH ⟨[4,5,6,7,8,20,21],[(4,0),(5,0)],[]⟩ (σ:=List (List D)×List (List D)×Bool×Int) (fun v=>[(4,.d (.sl (t _ fun _=>v.1))),(5,.d (.sl (t _ fun _=>v.2.1))),(6,.d (.bool (t _ fun _=>v.2.2.1))),(21,.d (.int .i64 (t _ fun _=>v.2.2.2)))]) (fun v=>[]) J0 ?_
 cbv
 refine aH ⟨A.length+1,(_,_,_,_),(fI _ _ _ _ _).2 ?_,by simp only [ht];rfl,?_⟩
 ·exact ⟨0,rfl,by simp,rfl,hF⟩
 rintro m ⟨ls,nd,ok,i⟩ hj
 replace hj:=(fI _ _ _ _ _).1 hj
 obtain ⟨k,rfl,j1,rfl,j4⟩:=hj
 cbv
 refine av (fun h1=>?_) (fun h1=>?_)
 ·simp [ht,ah,hw] at h1
  cbv
  refine ⟨?_,?_⟩
  ·(simp only [ht,bS,lgM];refine ⟨by ((try simp only [ah] at*);omega),?_⟩;exact vM rfl)
  cbv
  ((refine Lt trv (NZ ht (by simp only [ht,vN];exact vM rfl) (by simp only [ht,vN];simp;((try simp only [ah] at*);omega))) (by simp) rfl rfl rfl ?_))
  cbv
  ((obtain ⟨r,hr⟩:∃r,r=T (A.take k):=⟨_,rfl⟩;have hTk:=hT (A.take k) _ rfl (by simp;((try simp only [ah] at*);omega));rw [←hr] at hTk;rw [show m=(m-1)+1 by ((try simp only [ah] at*);omega),hGs,←hr] at j4;refine dP [0,1] trv rfl rfl (hT (A.take k) _ (by simp only [ht,vN]) (by simp;((try simp only [ah] at*);omega))) (cK ?_);rw [←hr]))
  cbv
  refine av (fun h2=>?_) (fun h2=>?_)
  ·simp [ht] at h2
   cbv
   refine av (fun h3=>?_) (fun h3=>?_)
   ·simp [ht] at h3
    cbv
    refine az trv trv rfl rfl rfl ?_
    (simp only [ht];grind)
   simp [ht] at h3
   cbv
   obtain ⟨J4,Iw⟩:∃J4:Nat→List (List D)×List (List D)×Int→Prop,∀m ls nd i,J4 m (ls,nd,i)↔(∃(k2:Nat) (L:List Int) (N:List aK),i=k2∧L.length=k2+m∧ls=L.map Int.cells∧nd=N.map bE∧L.length≤1000∧R=((H (m+1) k2 L N).1,(H (m+1) k2 L N).2,true)):=⟨fun m v=>match v with|(ls,nd,i)=>(∃(k2:Nat) (L:List Int) (N:List aK),i=k2∧L.length=k2+m∧ls=L.map Int.cells∧nd=N.map bE∧L.length≤1000∧R=((H (m+1) k2 L N).1,(H (m+1) k2 L N).2,true)),fun _ _ _ _=>Iff.rfl⟩
   refine bH ⟨[4,5,7,10],[],[]⟩ (σ:=List (List D)×List (List D)×Int) (fun v=>[(4,.d (.sl (t _ fun _=>v.1))),(5,.d (.sl (t _ fun _=>v.2.1))),(10,.d (.int .i64 (t _ fun _=>v.2.2)))]) (fun v=>[]) J4 ?_
   cbv
   refine aH ⟨(A.take k).length,(_,_,_),(Iw _ _ _ _).2 ?_,by simp only [ht];rfl,?_⟩
   ·exact ⟨0,A.take k,r.1,rfl,by simp,by simp only [vN],rfl,by simp;((try simp only [ah] at*);omega),hRF.2 _ _ (by rw [j4,if_pos (by simp_all)])⟩
   rintro m ⟨ls,nd,i⟩ hj
   replace hj:=(Iw _ _ _ _).1 hj
   obtain ⟨k2,L,N,rfl,i1,i4,i5,i6,i7⟩:=hj
   have wQ:ls.length=L.length:=by rw [i4,lgM]
   have aaI:nd.length=N.length:=by rw [i5,lgM]
   cbv
   refine av (fun h5=>?_) (fun h5=>?_)
   ·simp [ht,ah,wQ] at h5
    cbv
    ((obtain ⟨n1,BU⟩:∃n1,n1=L.length:=⟨_,rfl⟩;refine jY trv (Rf ht (m:=n1) (by simp only [ht];exact vM i4) (by simp only [ht];rw [i4];simp;((try simp only [ah] at*);omega)) (by simp only [ht];rw [i4];simp [BU])) (by simp) rfl (.inr rfl) ?_))
    cbv
    (obtain ⟨rd2,V8⟩:∃r,r=(L.eraseIdx k2).map Int.cells:=⟨_,rfl⟩;refine dP [2] trv rfl rfl (KJ ht (l:=L) (i:=k2) (by simp only [ht];exact i4) BU (by simp only [ht]) (by simp only [ht];exact aG (by ((try simp only [ah] at*);omega))) (by ((try simp only [ah] at*);omega)) (by ((try simp only [ah] at*);omega)) V8) (cK ?_))
    cbv
    ((obtain ⟨r,hr⟩:∃r,r=T (L.eraseIdx k2):=⟨_,rfl⟩;refine dP [0,1] trv rfl rfl (hT (L.eraseIdx k2) _ V8 (by rw [List.length_eraseIdx];split<;>((try simp only [ah] at*);omega))) (cK ?_);rw [←hr]))
    cbv
    refine av (fun h6=>?_) (fun h6=>?_)
    ·simp [ht] at h6
     cbv
     refine cz (_,_,_) (by simp only [ht];rfl) (m-1) ?_ ((Iw _ _ _ _).2 ?_)
     ·omega
     simp only [ah]
     exact ⟨k2+1,L,N,aG (by ((try simp only [ah] at*);omega)),by ((try simp only [ah] at*);omega),i4,i5,i6,(by have e:m-1+1=m:=(by ((try simp only [ah] at*);omega));rw [e,i7,hHs,if_pos (by ((try simp only [ah] at*);omega)),←hr,if_neg (by simp_all)])⟩
    simp [ht] at h6
    cbv
    refine cz (_,_,_) (by simp only [ht];rfl) (m-1) ?_ ((Iw _ _ _ _).2 ?_)
    ·omega
    simp only [ah]
    exact ⟨k2,L.eraseIdx k2,r.1,rfl,by rw [List.length_eraseIdx];split<;>((try simp only [ah] at*);omega),V8,rfl,by rw [List.length_eraseIdx];split<;>((try simp only [ah] at*);omega),(by have e:m-1+1=m:=(by ((try simp only [ah] at*);omega));rw [e,i7,hHs,if_pos (by ((try simp only [ah] at*);omega)),←hr,if_pos (by simp_all)])⟩
   simp [ht,ah,wQ] at h5
   cbv
   refine az trv trv rfl rfl rfl ?_
   (have e:R=(L,N,true):=(by rw [i7,show m=0 by ((try simp only [ah] at*);omega),hHs,if_neg (by ((try simp only [ah] at*);omega))]);simp [ht,e,i4,i5];done)
  cbv
  refine cz (_,_,_,_) (by simp only [ht];rfl) (m-1) ?_ ((fI _ _ _ _ _).2 ?_)
  ·((try simp only [ah] at*);omega)
  simp only [ah]
  exact ⟨k+1,aG (by ((try simp only [ah] at*);omega)),by ((try simp only [ah] at*);omega),by simp_all,by rw [j4,if_neg (by simp_all)]⟩
 cbv
 refine av (fun h7=>?_) (fun h7=>?_)
 ·cbv
  refine az trv trv rfl rfl rfl ?_
  (have hm0:m=0:=(by (simp [ht,ah,hw] at h1;((try simp only [ah] at*);omega)));subst hm0;have e:=hRF.1 (j4.trans (hG0 _));simp [ht,e];done)
 (exact absurd h7 (by simp [ht]))
theorem DG {s:aT} (id:Int):(gj s id).1.length<1000000:=by
 unfold gj ic
 split
 ·simp
 split
 ·simp
 exact wS _ _ _ _
theorem tX {s:aT} {id:Int}:∀(n k:Nat) (l:List Int) (nodes:List aK),nodes.length<1000000→(gq s id n k l nodes).1.length≤l.length∧(gq s id n k l nodes).2.length<1000000
 |0,_,_,_,h=>⟨Nat.le_refl _,h⟩
 |n+1,k,l,nodes,h=>by
  rw [gq]
  split
  ·split
   ·have:=tX (s:=s) (id:=id) n k (l.eraseIdx k) (fQ s id (l.eraseIdx k)).1 (DG id)
    have h2:(l.eraseIdx k).length≤l.length:=by rw [List.length_eraseIdx];split<;>omega
    exact ⟨by omega,this.2⟩
   exact tX n (k+1) l nodes h
  exact ⟨Nat.le_refl _,h⟩
theorem BA {s:aT} {id:Int} {all:List Int}:∀(n k:Nat) (l:List Int) (nodes:List aK),ld s id all n k=some (l,nodes)→l.length≤all.length∧nodes.length<1000000
 |0,_,_,_,h=>by cases h
 |n+1,k,l,nodes,h=>by
  rw [ld] at h
  split at h
  ·cases h;exact ⟨by simp;omega,DG id⟩
  exact BA n (k+1) l nodes h
end Dem
end
section
open Go
namespace Dem
def cW (s:aT):List Int:=(s.ap.filter (·.runs)).map (·.id)
def yC (s:aT) (k:Nat):aT:={s with ap:=s.ap.set k {s.ap.getD k Jb.zero with left:=(s.ap.getD k Jb.zero).left-1}}
def cV (s:aT) (id:Int):aT:=match s.ap.findIdx? (fun j=>decide (j.id=id)) with
 |none=>s
 |some k=>if (s.ap.getD k Jb.zero).left-1≤0 then (send (yC s k) id 3).1 else yC s k
def cA (s:aT):aT:=(cW s).foldl cV {s with round:=u64 (s.round+1)}
def j8 (s:aT):List cu→Nat→Int×Nat×Bool
 |[],_=>(0,0,false)
 |q::r,k=>if cL s q.id then (q.id,k,true) else j8 s r (k+1)
def aM (s:aT) (behind:Nat):Int×Nat×Bool:=j8 s (s.queue.drop behind) behind
def bC (s:aT) (at_:Nat):aT×Nat×Bool:=
 if !(aM s at_).2.2 then (s,at_,false) else
 if !(aB s (aM s at_).1).2.2 then (s,at_,false) else
 if (cq (aI s (aB s (aM s at_).1).1) (aM s at_).1 (aB s (aM s at_).1).2.1).2≠0 then (aI s (aB s (aM s at_).1).1,at_,false) else
 ((cq (aI s (aB s (aM s at_).1).1) (aM s at_).1 (aB s (aM s at_).1).2.1).1,(aM s at_).2.1,true)
def cw:Nat→aT→Nat→aT
 |0,s,_=>s
 |n+1,s,a=>if (bC s a).2.2 then cw n (bC s a).1 (bC s a).2.1 else (bC s a).1
def qZ (s:aT):aT:=cw 128 s 0
def gv (s:aT):aT:=qZ (cA s)
abbrev Jb.to (j:Jb) (z:Int):Jb:={j with left:=z}
theorem TJ (k:Nat) (p:aK) (j:Jb) (z:Int):fP k p (j.to z)=fP k p j:=rfl
theorem TK {s:aT} (h:s.ok) {i:Nat} {j:Jb} (hj:s.ap[i]?=some j) (hr:j.runs=true) {z:Int} (hz:1≤z∧z≤j.x.fH):aT.ok {s with ap:=s.ap.set i (j.to z)}:=by
 have hm:=List.mem_of_getElem? hj
 have hmem:∀{y:Jb},y∈s.ap.set i (j.to z)↔y=j.to z∨(y∈s.ap∧y.id≠j.id):=AT h.ids hj
 have uH:∀y∈s.ap.set i (j.to z),∃o∈s.ap,o.id=y.id∧o.x=y.x∧o.runs=y.runs:=by
  intro y hy
  rcases hmem.1 hy with rfl|⟨g,_⟩
  ·exact ⟨j,hm,rfl,rfl,rfl⟩
  exact ⟨y,g,rfl,rfl,rfl⟩
 have Yy:∀o∈s.ap,∃y∈s.ap.set i (j.to z),y.id=o.id∧y.x=o.x∧y.runs=o.runs:=by
  intro o ho
  by_cases e:o.id=j.id
  ·have:=bN h.ids ho hm e;subst this
   exact ⟨o.to z,hmem.2 (.inl rfl),rfl,rfl,rfl⟩
  exact ⟨o,hmem.2 (.inr ⟨ho,e⟩),rfl,rfl,rfl⟩
 refine {aX:=h.aX,gR:=h.gR,tree:=h.tree,used:=?_,most:=by simpa using h.most,next:=h.next,ids:=vu h.ids hj rfl,vz:=?_,py:=?_,left:=?_,iw:=h.iw,kR:=h.kR,gm:=?_,places:=?_,count:=?_,notes:=h.notes}
 ·intro e he k hk
  have:=vv k e.path (j.to z) hj
  have e2:=TJ k e.path j z
  rw [h.used e he k hk]
  show _=gQ k e.path (s.ap.set i (j.to z))
  omega
 ·intro y hy
  obtain ⟨o,ho,e1,_⟩:=uH y hy
  rw [←e1];exact h.vz o ho
 ·intro y hy
  obtain ⟨o,ho,_,e2,_⟩:=uH y hy
  rw [←e2];exact h.py o ho
 ·intro y hy
  rcases hmem.1 hy with rfl|⟨g,_⟩
  ·exact ⟨fun _=>hz,fun c=>by rw [show (j.to z).runs=j.runs from rfl,hr] at c;cases c⟩
  exact h.left y g
 ·intro q
  rw [h.gm q]
  constructor
  ·rintro ⟨o,ho,c,rfl⟩
   obtain ⟨y,hy,e1,e2,e3⟩:=Yy o ho
   exact ⟨y,hy,by rw [e3,c],by rw [e1,e2]⟩
  rintro ⟨y,hy,c,rfl⟩
  obtain ⟨o,ho,e1,e2,e3⟩:=uH y hy
  exact ⟨o,ho,by rw [e3,c],by rw [e1,e2]⟩
 ·intro x hx
  obtain ⟨o,ho,c1,c2,c3⟩:=h.places x hx
  obtain ⟨y,hy,e1,e2,e3⟩:=Yy o ho
  exact ⟨y,hy,by rw [e3,c1],by rw [e1,c2],by rw [e2];exact c3⟩
 intro y hy c
 obtain ⟨o,ho,e1,e2,e3⟩:=uH y hy
 have:=h.count o ho (by rw [e3,c])
 rw [←e1,←e2];exact this
theorem Md {s:aT} (h:s.ok) {i:Nat} {j:Jb} (hj:s.ap[i]?=some j) (z kind:Int):send {s with ap:=s.ap.set i (j.to z)} j.id kind=send s j.id kind:=by
 obtain ⟨h1,h2,_⟩:=dg h.ids hj
 have hi:=(List.getElem?_eq_some_iff.1 hj).1
 have e1:(s.ap.set i (j.to z)).findIdx? (fun x=>decide (x.id=j.id))=some i:=by
  have:=(dg (vu h.ids hj (x:=j.to z) rfl) (i:=i) (j:=j.to z) (by rw [List.getElem?_set,if_pos rfl,if_pos hi])).1
  exact this
 have e2:(s.ap.set i (j.to z)).getD i Jb.zero=j.to z:=by rw [List.getD_eq_getElem?_getD,List.getElem?_set,if_pos rfl,if_pos hi];rfl
 have e3:(s.ap.set i (j.to z)).eraseIdx i=s.ap.eraseIdx i:=by
  refine List.ext_getElem? fun k=>?_
  rw [List.getElem?_eraseIdx,List.getElem?_eraseIdx]
  split
  ·rw [List.getElem?_set,if_neg (by omega)]
  rw [List.getElem?_set,if_neg (by omega)]
 unfold send
 simp only
 rw [e1,h1]
 simp only
 rw [e2,h2,e3]
 cases hr:j.runs<;>rfl
theorem q7 {s:aT} (h:s.ok) {i:Nat} {j:Jb} (hj:s.ap[i]?=some j) (hr:j.runs=true):
 (cV s j.id).ok∧(cV s j.id).queue=s.queue∧(cV s j.id).round=s.round∧
  (cV s j.id).ap=if j.left=1 then s.ap.eraseIdx i else s.ap.set i (j.to (j.left-1)):=by
 obtain ⟨h1,h2,_⟩:=dg h.ids hj
 have hl:=(h.left j (List.mem_of_getElem? hj)).1 hr
 have e:yC s i={s with ap:=s.ap.set i (j.to (j.left-1))}:=by unfold yC;rw [h2]
 unfold cV
 rw [h1]
 simp only
 rw [h2,e]
 by_cases c:j.left=1
 ·rw [if_pos (by omega),if_pos c,Md h hj]
  obtain ⟨_,_,g⟩:=zl h hj 3
  obtain ⟨T,_,g2⟩:=g hr
  refine ⟨h.end_ _ _,?_⟩
  rw [g2]
  exact ⟨rfl,rfl,rfl⟩
 rw [if_neg (by omega),if_neg c]
 exact ⟨TK h hj hr (by omega),rfl,rfl,rfl⟩
def cnt (L:List Int) (j:Jb):Option Jb:=if j.runs=true∧j.id∈L then (if j.left=1 then none else some (j.to (j.left-1))) else some j
theorem DH {p:Jb→Bool} {f:Jb→Option Jb}:∀l:List Jb,(∀y∈l,f y=if p y=true then some y else none)→l.filterMap f=l.filter p
 |[],_=>rfl
 |x::r,h=>by
  have h1:=h x (by simp)
  have h2:=DH r fun y hy=>h y (by simp [hy])
  rw [List.filterMap_cons,List.filter_cons,h1,h2]
  cases p x<;>rfl
theorem Rg {g:Jb→Jb} {f:Jb→Option Jb}:∀l:List Jb,(∀y∈l,f y=some (g y))→l.filterMap f=l.map g
 |[],_=>rfl
 |x::r,h=>by
  rw [List.filterMap_cons,h x (by simp),Rg r fun y hy=>h y (by simp [hy])];rfl
theorem TL {l:List Jb} (ha:su l) {i:Nat} {j:Jb} (hj:l[i]?=some j) (x:Jb):l.set i x=l.map fun y=>if y.id=j.id then x else y:=by
 refine List.ext_getElem? fun k=>?_
 rw [List.getElem?_set,List.getElem?_map]
 by_cases c:i=k
 ·subst c
  rw [if_pos rfl,if_pos (List.getElem?_eq_some_iff.1 hj).1,hj];simp
 rw [if_neg c]
 cases hk:l[k]? with
 |none=>rfl
 |some y=>
  have:y.id≠j.id:=fun e=>c (vt ha hj hk e.symm)
  simp [this]
theorem BB {s:aT} (h:s.ok) {i:Nat} {j:Jb} (hj:s.ap[i]?=some j) (hr:j.runs=true):(cV s j.id).ap=s.ap.filterMap (cnt [j.id]):=by
 rw [(q7 h hj hr).2.2.2]
 have hm:=List.mem_of_getElem? hj
 by_cases c:j.left=1
 ·rw [if_pos c,PO h.ids hj]
  refine (DH _ fun y hy=>?_).symm
  unfold cnt
  by_cases e:y.id=j.id
  ·have:=bN h.ids hy hm e;subst this
   simp [hr,c]
  simp [e]
 rw [if_neg c,TL h.ids hj]
 refine (Rg _ fun y hy=>?_).symm
 unfold cnt
 by_cases e:y.id=j.id
 ·have:=bN h.ids hy hm e;subst this
  simp [hr,c]
 simp [e]
theorem TM {id:Int} {R:List Int} (hn:id ∉ R) (j:Jb):(cnt [id] j).bind (cnt R)=cnt (id::R) j:=by
 unfold cnt
 by_cases h1:j.runs=true∧j.id=id
 ·obtain ⟨h1,rfl⟩:=h1
  by_cases h2:j.left=1
  ·simp [h1,h2]
  simp [h1,h2,hn]
 by_cases h3:j.runs=true
 ·have h4:j.id≠id:=fun e=>h1 ⟨h3,e⟩
  simp [h3,h4]
 simp [h3]
theorem q8:∀(R:List Int) {t:aT},t.ok→R.Nodup→(∀id∈R,∃j∈t.ap,j.id=id∧j.runs=true)→
 (R.foldl cV t).ok∧(R.foldl cV t).queue=t.queue∧(R.foldl cV t).round=t.round∧(R.foldl cV t).ap=t.ap.filterMap (cnt R)
 |[],t,h,_,_=>⟨h,rfl,rfl,by rw [show cnt []=some from funext fun j=>by simp [cnt],List.filterMap_some];rfl⟩
 |id::R,t,h,hn,hj=>by
  obtain ⟨BU,hn2⟩:=List.nodup_cons.1 hn
  obtain ⟨j,hm,rfl,hr⟩:=hj id (by simp)
  obtain ⟨i,hi⟩:=List.getElem?_of_mem hm
  obtain ⟨c1,c2,c3,_⟩:=q7 h hi hr
  have c4:=BB h hi hr
  have hj2:∀x∈R,∃o∈(cV t j.id).ap,o.id=x∧o.runs=true:=by
   intro x hx
   obtain ⟨o,ho,rfl,mN⟩:=hj x (by simp [hx])
   have hne:o.id≠j.id:=fun e=>BU (by rw [←e];exact hx)
   refine ⟨o,?_,rfl,mN⟩
   rw [c4,List.mem_filterMap]
   exact ⟨o,ho,by unfold cnt;rw [if_neg (by simp [hne])]⟩
  obtain ⟨g1,g2,g3,g4⟩:=q8 R c1 hn2 hj2
  refine ⟨g1,by rw [List.foldl_cons,g2,c2],by rw [List.foldl_cons,g3,c3],?_⟩
  rw [List.foldl_cons,g4,c4,List.filterMap_filterMap]
  exact congrArg (fun f=>t.ap.filterMap f) (funext fun j=>TM BU j)
def Ie (j:Jb):Option Jb:=if j.runs=true then (if j.left=1 then none else some (j.to (j.left-1))) else some j
theorem kT {s:aT} (h:s.ok):(cA s).ok∧(cA s).queue=s.queue∧(cA s).round=u64 (s.round+1)∧(cA s).ap=s.ap.filterMap Ie:=by
 have h':aT.ok {s with round:=u64 (s.round+1)}:={aX:=h.aX,gR:=h.gR,tree:=h.tree,used:=h.used,most:=h.most,next:=h.next,ids:=h.ids,vz:=h.vz,py:=h.py,left:=h.left,iw:=h.iw,kR:=h.kR,gm:=h.gm,places:=h.places,count:=h.count,notes:=h.notes}
 have hn:(cW s).Nodup:=by
  unfold cW
  rw [List.nodup_iff_pairwise_ne,List.pairwise_map]
  exact (h.ids.filter _).imp fun {a b} g=>by omega
 have hj:∀id∈cW s,∃j∈s.ap,j.id=id∧j.runs=true:=by
  intro id hid
  obtain ⟨j,hj,e⟩:=List.mem_map.1 hid
  obtain ⟨h1,h2⟩:=List.mem_filter.1 hj
  exact ⟨j,h1,e,h2⟩
 obtain ⟨g1,g2,g3,g4⟩:=q8 (cW s) h' hn hj
 refine ⟨g1,g2,g3,?_⟩
 unfold cA
 rw [g4]
 have:∀l:List Jb,(∀y∈l,y∈s.ap)→l.filterMap (cnt (cW s))=l.filterMap Ie:=by
  intro l
  induction l with
  |nil=>intro _;rfl
  |cons x r ih=>
   intro hl
   have e:cnt (cW s) x=Ie x:=by
    unfold cnt Ie
    by_cases c:x.runs=true
    ·have:x.id∈cW s:=List.mem_map_of_mem (List.mem_filter.2 ⟨hl x (by simp),c⟩)
     simp [c,this]
    simp [c]
   rw [List.filterMap_cons,List.filterMap_cons,e,ih fun y hy=>hl y (by simp [hy])]
 exact this s.ap fun y hy=>hy
end Dem
end
section
open Go Dem Go.Proofs
namespace Dem
variable {t:Th}
theorem TN {l:List Jb} {q:Nat} {x:Jb} (hx:l[q]?=some x) (h:x.runs=true):((l.take (q+1)).filter (·.runs)).map (·.id)=((l.take q).filter (·.runs)).map (·.id)++[x.id]:=by rw [dV hx,List.filter_append];simp [h]
theorem V9 {l:List Jb} {q:Nat} {x:Jb} (hx:l[q]?=some x) (h:x.runs=false):((l.take (q+1)).filter (·.runs)).map (·.id)=((l.take q).filter (·.runs)).map (·.id):=by rw [dV hx,List.filter_append];simp [h]
theorem KM (ht:TT t) (rd nx ef af:Int) {nl:List Node} {pl:List Place} {tl:List bg} {jl:List Jb} {ql:List cu} {el al:List ek} {ns ps ts js qs es bW:List (List D)} (fF:ns=nl.map Node.cells) (hps:ps=pl.map Place.cells) (hts:ts=tl.map bg.cells) (eW:js=jl.map Jb.cells) (eM:qs=ql.map cu.cells) (aE:es=el.map ek.cells) (has:bW=al.map ek.cells) (hjl:jl.length<1000000):FC 69 [.agg [aC rd,aC nx,SL ns,SL ps,SL ts,SL js,SL qs,aC ef,SL es,aC af,SL bW]] [] (.ret (Rc t (t _ fun _=>cW ⟨rd,nx,⟨nl,pl⟩,tl,jl,ql,⟨ef,el⟩,⟨af,al⟩⟩))) []:=by
 refine bP ht (aQ:=[]) Tryz.func69 rfl rfl (N:=22) rfl rfl (n:=0) rfl rfl ?_
 cbv
 have bJ:ns.length=nl.length:=by rw [fF,lgM]
 have bQ:ps.length=pl.length:=by rw [hps,lgM]
 have bK:ts.length=tl.length:=by rw [hts,lgM]
 have bT:js.length=jl.length:=by rw [eW,lgM]
 have bq:qs.length=ql.length:=by rw [eM,lgM]
 have aD:es.length=el.length:=by rw [aE,lgM]
 have bD:bW.length=al.length:=by rw [has,lgM]
 obtain ⟨J0,fI⟩:∃J0:Nat→List (List D)×Int→Prop,∀n u i,J0 n (u,i)↔(∃q:Nat,i=q∧q+n=jl.length∧u=(((jl.take q).filter (·.runs)).map (·.id)).map Int.cells):=⟨fun n v=>match v with|(u,i)=>(∃q:Nat,i=q∧q+n=jl.length∧u=(((jl.take q).filter (·.runs)).map (·.id)).map Int.cells),fun _ _ _=>Iff.rfl⟩
 refine bH ⟨[3,7,8,9],[(3,1)],[]⟩ (σ:=List (List D)×Int) (fun v=>[(3,.ow 0 1 (t _ fun _=>(v.1).length)),(9,.d (.int .i64 (t _ fun _=>v.2)))]) (fun v=>[(0,.row 1 (t _ fun _=>v.1))]) J0 ?_
 cbv
 refine aH ⟨jl.length,([],_),(fI _ _ _).2 ?_,by simp only [ht];rfl,?_⟩
 ·exact ⟨0,rfl,by simp,rfl⟩
 rintro n ⟨u,i⟩ hj
 replace hj:=(fI _ _ _).1 hj
 obtain ⟨q,rfl,j1,j4⟩:=hj
 cbv
 refine av (fun h1=>?_) (fun h1=>?_)
 ·simp [ht,ah,bJ,bQ,bK,bT,bq,aD,bD] at h1
  cbv
  (refine kp ht eW (cT:=Jb.aZ t) (by simp only [ht,ah];((try simp only [ah] at*);omega)) (by simp only [ht,ah];((try simp only [ah] at*);omega)) (fun _=>rfl) (fun _=>by simp only [Jb.cells,Jb.aZ,ht]) (fun x mx=>?_);simp [ht,ah] at mx)
  cbv
  refine av (fun h2=>?_) (fun h2=>?_)
  ·cbv
   refine ⟨?_,?_⟩
   ·(have h9:=XO (l:=((jl.take q).filter (·.runs)).map (·.id)) (cells:=Int.cells) (u:=u) (row:=[D.int .u64 x.id]) (sz:=1) (b:=8) j4 (fun _=>rfl) rfl (by have:=List.length_filter_le (fun y:Jb=>y.runs) (jl.take q);simp at this ⊢;((try simp only [ah] at*);omega)) (by decide);simp only [ht];exact ⟨trv,h9.2⟩)
   cbv
   refine cz (_,_) (by simp only [ht,←List.length_append];rfl) (n-1) ?_ ((fI _ _ _).2 ?_)
   ·omega
   simp only [ht,ah]
   exact ⟨q+1,aG (by ((try simp only [ah] at*);omega)),by ((try simp only [ah] at*);omega),by rw [j4,TN mx (by simpa using h2)];simp [Int.cells]⟩
  cbv
  refine cz (_,_) (by simp only [ht];rfl) (n-1) ?_ ((fI _ _ _).2 ?_)
  ·omega
  simp only [ht,ah]
  exact ⟨q+1,aG (by ((try simp only [ah] at*);omega)),by ((try simp only [ah] at*);omega),by rw [j4,V9 mx (by simpa using h2)]⟩
 simp [ht,ah,bJ,bQ,bK,bT,bq,aD,bD] at h1
 cbv
 refine az trv (by simp [ht]) rfl rfl rfl ?_
 (rw [List.take_of_length_le (by ((try simp only [ah] at*);omega))] at j4;simp only [ht,Rc,cW,j4];done)
def jQ (s:aT) (l:List Int):aT:=l.foldl cV s
theorem tY {s:aT} {l:List Int} {k:Nat} {x:Int} (h:l[k]?=some x):jQ s (l.take (k+1))=cV (jQ s (l.take k)) x:=by
 unfold jQ;rw [dV h,List.foldl_append];rfl
theorem Rh {s:aT} (h:s.sm) {i:Nat} {x:Jb} (hx:s.ap[i]?=some x) (z:Int):∀y∈s.ap.set i {x with left:=z},y.x.gx.u'∧y.x.path.length<1000000000000:=fun y hy=>by
 rcases List.mem_or_eq_of_mem_set hy with g|rfl
 ·exact tV h y g
 exact tV h x (List.mem_of_getElem? hx)
theorem Told.aaJ {s:aT} {rd nx ef af:Int} {ns ps ts js js' qs es bW:List (List D)} {J:List Jb} (h:Told s rd nx ns ps ts js qs ef es af bW) (hj:js'=J.map Jb.cells):Told {s with ap:=J} rd nx ns ps ts js' qs ef es af bW:=
 ⟨h.r,h.x,h.n,h.p,h.t,hj,h.q,h.f,h.e,h.g,h.a⟩
theorem Told.eqJ {s:aT} {rd nx ef af:Int} {ns ps ts js qs es bW:List (List D)} (h:Told s rd nx ns ps ts js qs ef es af bW) (J:List Jb):(⟨rd,nx,⟨s.aX.nodes,s.aX.places⟩,s.tree,J,s.queue,⟨ef,s.ev.l⟩,⟨af,s.au.l⟩⟩:aT)={s with ap:=J}:=by
 rw [h.r,h.x,h.f,h.g]
theorem Ig {l:List Jb} {i:Nat} {x:Jb} (hx:l[i]?=some x) (z:Int):(l.map Jb.cells).set i (be ((l.map Jb.cells).getD i []) 11 [.int .i64 z])=(l.set i {x with left:=z}).map Jb.cells:=by
 obtain ⟨h,e⟩:=List.getElem?_eq_some_iff.1 hx
 rw [List.map_set];congr 1
 simp [h,e,be,Jb.cells]
theorem N0 {s:aT} {id:Int} (h:s.ap.findIdx? (fun j=>decide (j.id=id))=none):cV s id=s:=by unfold cV;rw [h]
theorem Ri {s:aT} {id:Int} {i:Nat} {x:Jb} (h:s.ap.findIdx? (fun j=>decide (j.id=id))=some i) (hd:s.ap.getD i Jb.zero=x) (hl:x.left-1≤0):cV s id=(send {s with ap:=s.ap.set i {x with left:=x.left-1}} id 3).1:=by
 unfold cV;rw [h];simp only;rw [hd,if_pos hl];unfold yC;rw [hd]
theorem N1 {s:aT} {id:Int} {i:Nat} {x:Jb} (h:s.ap.findIdx? (fun j=>decide (j.id=id))=some i) (hd:s.ap.getD i Jb.zero=x) (hl:0<x.left-1):cV s id={s with ap:=s.ap.set i {x with left:=x.left-1}}:=by
 unfold cV;rw [h];simp only;rw [hd,if_neg (by omega)];unfold yC;rw [hd]
theorem Wa (ht:TT t) (id i n k l a b c d:Int) (p:aK) (sr:List (List D)) (rn:Bool) (lf:Int):FC 71 [.agg [aC i,ST p,aC a,aC b,aC c,aC d,bG n,bG k,bG l,SL sr,BL rn,bG lf],.ptr 0 0] [.var [aC id]] (.ret (BL (decide (i=id)))) [.var [aC id]]:=by
 refine bP ht (aQ:=[.var [aC id]]) Tryz.func71 rfl rfl (N:=8) rfl rfl (n:=1) rfl rfl ?_
 cbv
 refine az trv trv rfl rfl rfl ?_
 simp [ht]
theorem Rj (ht:TT t) (rd nx ef af:Int) {nl:List Node} {pl:List Place} {tl:List bg} {jl:List Jb} {ql:List cu} {el al:List ek} {ns ps ts js qs es bW:List (List D)} (fF:ns=nl.map Node.cells) (hps:ps=pl.map Place.cells) (hts:ts=tl.map bg.cells) (eW:js=jl.map Jb.cells) (eM:qs=ql.map cu.cells) (aE:es=el.map ek.cells) (has:bW=al.map ek.cells) (hrl:jl.length<1000000) (hg:∀k,(jQ {(⟨rd,nx,⟨nl,pl⟩,tl,jl,ql,⟨ef,el⟩,⟨af,al⟩⟩:aT) with round:=u64 (rd+1)} ((cW ⟨rd,nx,⟨nl,pl⟩,tl,jl,ql,⟨ef,el⟩,⟨af,al⟩⟩).take k)).sm) (hf:∀k,∀x∈(jQ {(⟨rd,nx,⟨nl,pl⟩,tl,jl,ql,⟨ef,el⟩,⟨af,al⟩⟩:aT) with round:=u64 (rd+1)} ((cW ⟨rd,nx,⟨nl,pl⟩,tl,jl,ql,⟨ef,el⟩,⟨af,al⟩⟩).take k)).ap,0≤x.left∧x.left<9223372036854775808):
 FC 29 [.agg [aC rd,aC nx,SL ns,SL ps,SL ts,SL js,SL qs,aC ef,SL es,aC af,SL bW]] [] (.ret (dM t (t _ fun _=>cA ⟨rd,nx,⟨nl,pl⟩,tl,jl,ql,⟨ef,el⟩,⟨af,al⟩⟩))) []:=by
 obtain ⟨R,hR⟩:∃R,R=cW ⟨rd,nx,⟨nl,pl⟩,tl,jl,ql,⟨ef,el⟩,⟨af,al⟩⟩:=⟨_,rfl⟩
 obtain ⟨S,hS⟩:∃S:aT,S={(⟨rd,nx,⟨nl,pl⟩,tl,jl,ql,⟨ef,el⟩,⟨af,al⟩⟩:aT) with round:=u64 (rd+1)}:=⟨_,rfl⟩
 have hE:cA ⟨rd,nx,⟨nl,pl⟩,tl,jl,ql,⟨ef,el⟩,⟨af,al⟩⟩=jQ S R:=by rw [hR,hS];rfl
 have hRl:R.length<1000000:=by rw [hR];unfold cW;rw [lgM];have:=List.length_filter_le (fun y:Jb=>y.runs) jl;exact Nat.lt_of_le_of_lt this hrl
 have hRz:∀z:Int,cW {(⟨rd,nx,⟨nl,pl⟩,tl,jl,ql,⟨ef,el⟩,⟨af,al⟩⟩:aT) with round:=z}=R:=fun z=>by rw [hR];rfl
 rw [←hS,←hR] at hg hf
 have vJ:Told S (u64 (rd+1)) nx ns ps ts js qs ef es af bW:=by rw [hS];exact ⟨rfl,rfl,fF,hps,hts,eW,eM,rfl,aE,rfl,has⟩
 rw [hE]
 clear hS hE hR
 refine bP ht (aQ:=[]) Tryz.func29 rfl rfl (N:=51) rfl rfl (n:=0) rfl rfl ?_
 cbv
 have bJ:ns.length=nl.length:=by rw [fF,lgM]
 have bQ:ps.length=pl.length:=by rw [hps,lgM]
 have bK:ts.length=tl.length:=by rw [hts,lgM]
 have bT:js.length=jl.length:=by rw [eW,lgM]
 have bq:qs.length=ql.length:=by rw [eM,lgM]
 have aD:es.length=el.length:=by rw [aE,lgM]
 have bD:bW.length=al.length:=by rw [has,lgM]
 refine aF trv (KM ht _ _ _ _ ‹_› ‹_› ‹_› ‹_› ‹_› ‹_› ‹_› ‹_›) trv rfl rfl rfl (fun r0 dj=>?_)
 simp only [ht] at dj
 (replace dj:=(dj).trans (hRz _);subst r0)
 cbv
 obtain ⟨J1,pE⟩:∃J1:Nat→Int×Int×Int×List (List D)×List (List D)×List (List D)×List (List D)×List (List D)×Int×List (List D)×Int×List (List D)→Prop,∀n i rd nx ns ps ts js qs ef es af bW,J1 n (i,rd,nx,ns,ps,ts,js,qs,ef,es,af,bW)↔(∃k:Nat,i=k∧k+n=R.length∧Told (jQ S (R.take k)) rd nx ns ps ts js qs ef es af bW):=⟨fun n v=>match v with|(i,rd,nx,ns,ps,ts,js,qs,ef,es,af,bW)=>(∃k:Nat,i=k∧k+n=R.length∧Told (jQ S (R.take k)) rd nx ns ps ts js qs ef es af bW),fun _ _ _ _ _ _ _ _ _ _ _ _ _=>Iff.rfl⟩
 refine bH ⟨[1,2,11,12,13],[],[(0,5,0)]⟩ (σ:=Int×Int×Int×List (List D)×List (List D)×List (List D)×List (List D)×List (List D)×Int×List (List D)×Int×List (List D)) (fun v=>[(13,.d (.int .i64 (t _ fun _=>v.1)))]) (fun v=>[(0,.var [.d (.int .u64 (t _ fun _=>v.2.1)),.d (.int .u64 (t _ fun _=>v.2.2.1)),.d (.sl (t _ fun _=>v.2.2.2.1)),.d (.sl (t _ fun _=>v.2.2.2.2.1)),.d (.sl (t _ fun _=>v.2.2.2.2.2.1)),.d (.sl (t _ fun _=>v.2.2.2.2.2.2.1)),.d (.sl (t _ fun _=>v.2.2.2.2.2.2.2.1)),.d (.int .u64 (t _ fun _=>v.2.2.2.2.2.2.2.2.1)),.d (.sl (t _ fun _=>v.2.2.2.2.2.2.2.2.2.1)),.d (.int .u64 (t _ fun _=>v.2.2.2.2.2.2.2.2.2.2.1)),.d (.sl (t _ fun _=>v.2.2.2.2.2.2.2.2.2.2.2))])]) J1 ?_
 cbv
 refine aH ⟨R.length,(_,_,_,_,_,_,_,_,_,_,_,_),(pE _ _ _ _ _ _ _ _ _ _ _ _ _).2 ?_,by simp only [ht];rfl,?_⟩
 ·exact ⟨0,rfl,by simp,vJ⟩
 rintro n ⟨i,rd,nx,ns,ps,ts,js,qs,ef,es,af,bW⟩ hj
 replace hj:=(pE _ _ _ _ _ _ _ _ _ _ _ _ _).1 hj
 obtain ⟨k,rfl,j1,jT⟩:=hj
 cbv
 refine av (fun h2=>?_) (fun h2=>?_)
 ·simp [ht,ah,bJ,bQ,bK,bT,bq,aD,bD] at h2
  cbv
  (refine kp ht (l:=R) (cells:=Int.cells) (cT:=Int.aZ t) (by simp only [ht]<;>rfl) (by simp only [ht,ah];omega) (by simp only [ht,ah];((try simp only [ah] at*);omega)) (fun _=>rfl) (fun _=>rfl) (fun x2 n9=>?_);simp [ht,ah] at n9)
  cbv
  (obtain ⟨r9,jU⟩:∃r,r=Eu (jQ S (R.take k)).ap x2:=⟨_,rfl⟩;refine dP [2] trv rfl rfl (HD ht x2 (l:=(jQ S (R.take k)).ap) (by simp only [ht];exact jT.j) 71 (fun x=>decide (x.id=x2)) (by have:=(hg k).ap.1;((try simp only [ah] at*);omega)) (fun x _=>Wa ht x2 _ _ _ _ _ _ _ _ _ _ _ _) jU) (cK ?_);have ec:=EX jU (P:=fun _=>True) (fun _ _=>trivial);rcases ec with ⟨e1,e2⟩|⟨i,xi,xa,xb,xc,xd,xn,xp,xt,xf,xq,xr,xl,e1,e2,e3,e4,e5,_,e8⟩)
  ·cbv
   refine av (fun h3=>?_) (fun h3=>?_)
   ·simp [ht,ah,bJ,bQ,bK,bT,bq,aD,bD] at h3
    cbv
    refine cz (_,_,_,_,_,_,_,_,_,_,_,_) (by simp only [ht];rfl) (n-1) ?_ ((pE _ _ _ _ _ _ _ _ _ _ _ _ _).2 ?_)
    ·omega
    simp only [ht,ah]
    exact ⟨k+1,aG (by ((try simp only [ah] at*);omega)),by ((try simp only [ah] at*);omega),by rw [tY n9,N0 e2];exact jT⟩
   simp [ht,ah,bJ,bQ,bK,bT,bq,aD,bD] at h3
   omega
  cbv
  refine av (fun h4=>?_) (fun h4=>?_)
  ·simp [ht,ah,bJ,bQ,bK,bT,bq,aD,bD] at h4
   (simp only [ah] at*;omega)
  simp [ht,ah,bJ,bQ,bK,bT,bq,aD,bD] at h4
  cbv
  (refine jY trv (nt ht (l:=(jQ S (R.take k)).ap) (by simp only [ht];exact jT.j) (by have:=(hg k).ap.1;((try simp only [ah] at*);omega))) trv rfl (.inr rfl) ?_)
  cbv
  refine ⟨?_,?_⟩
  ·(obtain ⟨_,e9⟩:=List.getElem?_eq_some_iff.1 e3;simp [ht,ah,e1,e2,e9,Jb.cells];done)
  cbv
  ((refine Yw (l:=(jQ S (R.take k)).ap) (cells:=Jb.cells) rfl (Jb.aZ t) (fun _=>by simp only [Jb.cells,Jb.aZ,ht]) i e2 (by simp only [ht,ah,e1,Int.toNat_natCast]) (fun h=>by simp only [ht,ah,e1,Int.toNat_natCast];exact h) (fun x mx=>?_);rw [e3] at mx;cases mx))
  cbv
  refine ⟨?_,?_⟩
  ·(obtain ⟨_,e9⟩:=List.getElem?_eq_some_iff.1 e3;simp [ht,ah,e1,e2,e9,Jb.cells];done)
  refine ⟨?_,?_⟩
  ·(obtain ⟨_,e9⟩:=List.getElem?_eq_some_iff.1 e3;simp [ht,ah,e1,e2,e9,Jb.cells];done)
  refine ⟨?_,?_⟩
  ·(obtain ⟨_,e9⟩:=List.getElem?_eq_some_iff.1 e3;simp [ht,ah,e1,e2,e9,Jb.cells];done)
  cbv
  ((obtain ⟨z9,Yz⟩:∃z,z=IntKind.i64.wrap (xf-1):=⟨_,rfl⟩;refine Pq (Jb.aZ t ⟨xi,⟨xq,⟨xa,xb,xc,xd⟩,xn,xp,xt,xl⟩,xr,z9⟩) (by simp only [ht,ah,e1,Int.toNat_natCast,List.length_set,lgM];exact e2) (by obtain ⟨_,e9⟩:=List.getElem?_eq_some_iff.1 e3;simp [ht,ah,e1,e2,e9,Yz,be,Jb.cells,Jb.aZ]) ?_))
  cbv
  refine av (fun h5=>?_) (fun h5=>?_)
  ·simp [ht,ah,bJ,bQ,bK,bT,bq,aD,bD] at h5
   cbv
   (have pK:=hg k;have hz8:z9=xf-1:=(by have h8:=hf k _ (List.mem_of_getElem? e3);simp only at h8;rw [Yz];exact wrap64 (by omega) (by omega));refine Jn (E:=LV t) trv rfl (by simp [ht]) (by exact dK [] rfl rfl rfl rfl (QE ht _ _ _ _ (nl:=(jQ S (R.take k)).aX.nodes) (pl:=(jQ S (R.take k)).aX.places) (tl:=(jQ S (R.take k)).tree) (jl:=(jQ S (R.take k)).ap.set i ⟨xi,⟨xq,⟨xa,xb,xc,xd⟩,xn,xp,xt,xl⟩,xr,xf-1⟩) (ql:=(jQ S (R.take k)).queue) (el:=(jQ S (R.take k)).ev.l) (al:=(jQ S (R.take k)).au.l) (by simp only [ht];exact jT.n) (by simp only [ht];exact jT.p) (by simp only [ht];exact jT.t) (by simp only [ht,ah,e1,Int.toNat_natCast];rw [←Yz,hz8];exact Ig e3 _) (by simp only [ht];exact jT.q) (by simp only [ht];exact jT.e) (by simp only [ht];exact jT.a) x2 3 (Rh pK e3 _) pK.tree.1 (by rw [List.length_set];exact pK.ap.1) pK.places pK.queue pK.notes.1)) (fun r1 cF=>?_);simp only [ht] at cF;rw [jT.eqJ] at cF)
   cbv
   refine cz (_,_,_,_,_,_,_,_,_,_,_,_) (by simp only [ht];rfl) (n-1) ?_ ((pE _ _ _ _ _ _ _ _ _ _ _ _ _).2 ?_)
   ·omega
   simp only [ht,ah]
   exact ⟨k+1,aG (by ((try simp only [ah] at*);omega)),by ((try simp only [ah] at*);omega),by rw [tY n9,Ri e4 e5 (by simp only;omega),←cF];exact Told.self r1.1⟩
  simp [ht,ah,bJ,bQ,bK,bT,bq,aD,bD] at h5
  cbv
  refine ⟨?_,?_⟩
  ·(exact ⟨⟨by simp [ht]⟩,trv⟩)
  cbv
  refine cz (_,_,_,_,_,_,_,_,_,_,_,_) (by simp only [ht];rfl) (n-1) ?_ ((pE _ _ _ _ _ _ _ _ _ _ _ _ _).2 ?_)
  ·omega
  simp only [ht,ah]
  (have h8:=hf k _ (List.mem_of_getElem? e3);simp only at h8;have hz8:z9=xf-1:=(by rw [Yz];exact wrap64 (by omega) (by omega));simp only [ah] at e1;exact ⟨k+1,aG (by ((try simp only [ah] at*);omega)),by ((try simp only [ah] at*);omega),by rw [tY n9,N1 e4 e5 (by simp only;omega)];exact jT.aaJ (by simp only [e1,Int.toNat_natCast];rw [←Yz,hz8];exact Ig e3 _)⟩)
 simp [ht,ah,bJ,bQ,bK,bT,bq,aD,bD] at h2
 cbv
 refine az trv trv rfl rfl rfl ?_
 (rw [List.take_of_length_le (by ((try simp only [ah] at*);omega))] at jT;simp only [ht,jT.r,jT.x,jT.n,jT.p,jT.t,jT.j,jT.q,jT.f,jT.e,jT.g,jT.a];done)
def Cj (t:Th) (r:Int×Nat×Bool):AV:=.eA [aC r.1,bG (t _ fun _=>(r.2.1:Int)),BL r.2.2]
theorem Me (ht:TT t) (rd nx ef af:Int) {nl:List Node} {pl:List Place} {tl:List bg} {jl:List Jb} {ql:List cu} {el al:List ek} {ns ps ts js qs es bW:List (List D)} (fF:ns=nl.map Node.cells) (hps:ps=pl.map Place.cells) (hts:ts=tl.map bg.cells) (eW:js=jl.map Jb.cells) (eM:qs=ql.map cu.cells) (aE:es=el.map ek.cells) (has:bW=al.map ek.cells) (hC:∀id,FC 23 [.agg [aC rd,aC nx,SL ns,SL ps,SL ts,SL js,SL qs,aC ef,SL es,aC af,SL bW],aC id] [] (.ret (dh (t _ fun _=>cL ⟨rd,nx,⟨nl,pl⟩,tl,jl,ql,⟨ef,el⟩,⟨af,al⟩⟩ id))) []) (Uy:ql.length<1000000) (b:Nat) {bb:Int} (hb:bb=b) (sE:b<1000000):
 FC 28 [.agg [aC rd,aC nx,SL ns,SL ps,SL ts,SL js,SL qs,aC ef,SL es,aC af,SL bW],bG bb] [] (.ret (Cj t (t _ fun _=>aM ⟨rd,nx,⟨nl,pl⟩,tl,jl,ql,⟨ef,el⟩,⟨af,al⟩⟩ b))) []:=by
 obtain ⟨S,hS⟩:∃S:aT,S=⟨rd,nx,⟨nl,pl⟩,tl,jl,ql,⟨ef,el⟩,⟨af,al⟩⟩:=⟨_,rfl⟩
 rw [←hS] at hC ⊢
 have hE:aM S b=j8 S (ql.drop b) b:=by rw [hS];rfl
 rw [hE]
 clear hS hE
 refine bP ht (aQ:=[]) Tryz.func28 rfl rfl (N:=32) rfl rfl (n:=0) rfl rfl ?_
 cbv
 have bJ:ns.length=nl.length:=by rw [fF,lgM]
 have bQ:ps.length=pl.length:=by rw [hps,lgM]
 have bK:ts.length=tl.length:=by rw [hts,lgM]
 have bT:js.length=jl.length:=by rw [eW,lgM]
 have bq:qs.length=ql.length:=by rw [eM,lgM]
 have aD:es.length=el.length:=by rw [aE,lgM]
 have bD:bW.length=al.length:=by rw [has,lgM]
 obtain ⟨J0,fI⟩:∃J0:Nat→Int→Prop,∀n kk,J0 n kk↔(∃k:Nat,kk=k∧k+n=max b ql.length∧j8 S (ql.drop b) b=j8 S (ql.drop k) k):=⟨fun n v=>match v with|kk=>(∃k:Nat,kk=k∧k+n=max b ql.length∧j8 S (ql.drop b) b=j8 S (ql.drop k) k),fun _ _=>Iff.rfl⟩
 refine bH ⟨[2,7],[],[]⟩ (σ:=Int) (fun v=>[(7,.d (.int .i64 (t _ fun _=>v)))]) (fun v=>[]) J0 ?_
 cbv
 refine aH ⟨(max b ql.length-b),_,(fI _ _).2 ?_,rfl,?_⟩
 ·exact ⟨b,by ((try simp only [ah] at*);omega),by ((try simp only [ah] at*);omega),rfl⟩
 rintro n kk hj
 replace hj:=(fI _ _).1 hj
 obtain ⟨k,rfl,j1,j2⟩:=hj
 cbv
 refine av (fun h1=>?_) (fun h1=>?_)
 ·simp [ht,ah,bJ,bQ,bK,bT,bq,aD,bD] at h1
  cbv
  refine dO [false,false,false,false,false,false,false,true] (by kernel_rfl) (by kernel_rfl) ?_
  cbv
  iterate 4 refine gI (by simp [ht,aj]) ?_
  ((refine kp ht eM (cT:=cu.aZ t) (by simp only [ht,ah];((try simp only [ah] at*);omega)) (by simp only [ht,ah];((try simp only [ah] at*);omega)) (fun _=>rfl) (fun _=>rfl) (fun x mx=>?_);simp [ht,ah] at mx))
  cbv
  iterate 2 refine gI (by simp [ht,aj]) ?_
  (refine bc trv (hC _) (by simp [ht]) rfl rfl (fun r1 cF=>?_);simp only [ht] at cF)
  cbv
  refine av (fun h2=>?_) (fun h2=>?_)
  ·cbv
   ((refine so ht eM (cT:=cu.aZ t) mx (by simp only [ht]) (fun _=>rfl) (fun _=>rfl) ?_))
   cbv
   refine az trv trv rfl rfl rfl ?_
   (rw [cF] at h2;simp only [ht,j2,jI mx,j8];rw [if_pos h2];done)
  cbv
  refine cz _ (by simp only [ht];rfl) (n-1) ?_ ((fI _ _).2 ?_)
  ·omega
  simp only [ht,ah]
  exact ⟨k+1,aG (by ((try simp only [ah] at*);omega)),by ((try simp only [ah] at*);omega),by rw [j2,jI mx,j8,if_neg (by simp_all)]⟩
 simp [ht,ah,bJ,bQ,bK,bT,bq,aD,bD] at h1
 cbv
 refine az trv trv rfl rfl rfl ?_
 (simp only [ht,j2];rw [List.drop_eq_nil_of_le (by ((try simp only [ah] at*);omega))];rfl)
def Wb (t:Th) (r:aT×Nat×Bool):AV:=.eA [.agg [aC r.1.round,aC r.1.next,SL (t _ fun _=>r.1.aX.nodes.map Node.cells),SL (t _ fun _=>r.1.aX.places.map Place.cells),SL (t _ fun _=>r.1.tree.map bg.cells),SL (t _ fun _=>r.1.ap.map Jb.cells),SL (t _ fun _=>r.1.queue.map cu.cells),aC r.1.ev.first,SL (t _ fun _=>r.1.ev.l.map ek.cells),aC r.1.au.first,SL (t _ fun _=>r.1.au.l.map ek.cells),bG (t _ fun _=>(r.2.1:Int))],BL r.2.2]
theorem Rk (ht:TT t) (rd nx ef af:Int) {nl:List Node} {pl:List Place} {tl:List bg} {jl:List Jb} {ql:List cu} {el al:List ek} {ns ps ts js qs es bW:List (List D)} (fF:ns=nl.map Node.cells) (hps:ps=pl.map Place.cells) (hts:ts=tl.map bg.cells) (eW:js=jl.map Jb.cells) (eM:qs=ql.map cu.cells) (aE:es=el.map ek.cells) (has:bW=al.map ek.cells) (a:Nat) {aa:Int} (RA:aa=a) {w:Int×Nat×Bool} (hw:w=aM ⟨rd,nx,⟨nl,pl⟩,tl,jl,ql,⟨ef,el⟩,⟨af,al⟩⟩ a) {vi:List Int×List aK×Bool} (hv:w.2.2=true→vi=aB ⟨rd,nx,⟨nl,pl⟩,tl,jl,ql,⟨ef,el⟩,⟨af,al⟩⟩ w.1)
 (hN:FC 28 [.agg [aC rd,aC nx,SL ns,SL ps,SL ts,SL js,SL qs,aC ef,SL es,aC af,SL bW],bG aa] [] (.ret (Cj t (t _ fun _=>w))) []) (hV:w.2.2=true→FC 19 [.agg [aC rd,aC nx,SL ns,SL ps,SL ts,SL js,SL qs,aC ef,SL es,aC af,SL bW],aC w.1] [] (.ret (V7 t (t _ fun _=>vi))) [])
 (hvl:vi.1.length<1000000∧vi.2.1.length<1000000) (hg:∀k,(aI ⟨rd,nx,⟨nl,pl⟩,tl,jl,ql,⟨ef,el⟩,⟨af,al⟩⟩ (vi.1.take k)).sm):
 FC 72 [.agg [aC rd,aC nx,SL ns,SL ps,SL ts,SL js,SL qs,aC ef,SL es,aC af,SL bW,bG aa]] [] (.ret (Wb t (t _ fun _=>bC ⟨rd,nx,⟨nl,pl⟩,tl,jl,ql,⟨ef,el⟩,⟨af,al⟩⟩ a))) []:=by
 obtain ⟨S,hS⟩:∃S:aT,S=⟨rd,nx,⟨nl,pl⟩,tl,jl,ql,⟨ef,el⟩,⟨af,al⟩⟩:=⟨_,rfl⟩
 rw [←hS] at hg hw hv ⊢
 have vJ:Told S rd nx ns ps ts js qs ef es af bW:=by rw [hS];exact ⟨rfl,rfl,fF,hps,hts,eW,eM,rfl,aE,rfl,has⟩
 obtain ⟨R,hR⟩:∃R,R=bC S a:=⟨_,rfl⟩
 have r1:w.2.2=false→R=(S,a,false):=by intro h;rw [hR];unfold bC;rw [←hw,h];rfl
 have r2:w.2.2=true→vi.2.2=false→R=(S,a,false):=by intro h h2;rw [hR];unfold bC;rw [←hw,h,←hv h,h2];rfl
 have r3:w.2.2=true→vi.2.2=true→(cq (aI S vi.1) w.1 vi.2.1).2≠0→R=(aI S vi.1,a,false):=by intro h h2 h3;rw [hR];unfold bC;rw [←hw,h,←hv h,h2];simp only [Bool.not_true,Bool.false_eq_true,if_false];rw [if_pos h3]
 have r4:w.2.2=true→vi.2.2=true→(cq (aI S vi.1) w.1 vi.2.1).2=0→R=((cq (aI S vi.1) w.1 vi.2.1).1,w.2.1,true):=by intro h h2 h3;rw [hR];unfold bC;rw [←hw,h,←hv h,h2];simp only [Bool.not_true,Bool.false_eq_true,if_false];rw [if_neg (by simp [h3])]
 rw [←hR]
 clear hS hR hw hv
 refine bP ht (aQ:=[]) Tryz.func72 rfl rfl (N:=65) rfl rfl (n:=0) rfl rfl ?_
 cbv
 have bJ:ns.length=nl.length:=by rw [fF,lgM]
 have bQ:ps.length=pl.length:=by rw [hps,lgM]
 have bK:ts.length=tl.length:=by rw [hts,lgM]
 have bT:js.length=jl.length:=by rw [eW,lgM]
 have bq:qs.length=ql.length:=by rw [eM,lgM]
 have aD:es.length=el.length:=by rw [aE,lgM]
 have bD:bW.length=al.length:=by rw [has,lgM]
 (refine aF trv hN (by simp [ht]) rfl rfl rfl (fun r9 jU=>?_);simp only [ht] at jU;subst r9)
 cbv
 refine av (fun h0=>?_) (fun h0=>?_)
 ·simp [ht,ah,bJ,bQ,bK,bT,bq,aD,bD] at h0
  cbv
  refine az trv trv rfl rfl rfl ?_
  (simp only [ht,r1 (by simp_all),vJ.r,vJ.x,vJ.n,vJ.p,vJ.t,vJ.j,vJ.q,vJ.f,vJ.e,vJ.g,vJ.a,RA];done)
 simp [ht,ah,bJ,bQ,bK,bT,bq,aD,bD] at h0
 cbv
 (refine aF trv (hV ‹_›) (by simp [ht]) rfl rfl rfl (fun q2 eq2=>?_);simp only [ht] at eq2;subst q2)
 cbv
 refine av (fun h1=>?_) (fun h1=>?_)
 ·simp [ht,ah,bJ,bQ,bK,bT,bq,aD,bD] at h1
  cbv
  refine az trv trv rfl rfl rfl ?_
  (simp only [ht,r2 ‹_› (by simp_all),vJ.r,vJ.x,vJ.n,vJ.p,vJ.t,vJ.j,vJ.q,vJ.f,vJ.e,vJ.g,vJ.a,RA];done)
 simp [ht,ah,bJ,bQ,bK,bT,bq,aD,bD] at h1
 cbv
 obtain ⟨J2,ue⟩:∃J2:Nat→Int×Int×Int×List (List D)×List (List D)×List (List D)×List (List D)×List (List D)×Int×List (List D)×Int×List (List D)×Int→Prop,∀n i rd nx ns ps ts js qs ef es af bW ax,J2 n (i,rd,nx,ns,ps,ts,js,qs,ef,es,af,bW,ax)↔(∃k:Nat,i=k∧k+n=vi.1.length∧ax=aa∧Told (aI S (vi.1.take k)) rd nx ns ps ts js qs ef es af bW):=⟨fun n v=>match v with|(i,rd,nx,ns,ps,ts,js,qs,ef,es,af,bW,ax)=>(∃k:Nat,i=k∧k+n=vi.1.length∧ax=aa∧Told (aI S (vi.1.take k)) rd nx ns ps ts js qs ef es af bW),fun _ _ _ _ _ _ _ _ _ _ _ _ _ _=>Iff.rfl⟩
 refine bH ⟨[1,2,4,5,8,36,37,38],[],[]⟩ (σ:=Int×Int×Int×List (List D)×List (List D)×List (List D)×List (List D)×List (List D)×Int×List (List D)×Int×List (List D)×Int) (fun v=>[(38,.d (.int .i64 (t _ fun _=>v.1)))]) (fun v=>[(0,.var [.d (.int .u64 (t _ fun _=>v.2.1)),.d (.int .u64 (t _ fun _=>v.2.2.1)),.d (.sl (t _ fun _=>v.2.2.2.1)),.d (.sl (t _ fun _=>v.2.2.2.2.1)),.d (.sl (t _ fun _=>v.2.2.2.2.2.1)),.d (.sl (t _ fun _=>v.2.2.2.2.2.2.1)),.d (.sl (t _ fun _=>v.2.2.2.2.2.2.2.1)),.d (.int .u64 (t _ fun _=>v.2.2.2.2.2.2.2.2.1)),.d (.sl (t _ fun _=>v.2.2.2.2.2.2.2.2.2.1)),.d (.int .u64 (t _ fun _=>v.2.2.2.2.2.2.2.2.2.2.1)),.d (.sl (t _ fun _=>v.2.2.2.2.2.2.2.2.2.2.2.1)),.d (.int .i64 (t _ fun _=>v.2.2.2.2.2.2.2.2.2.2.2.2))])]) J2 ?_
 cbv
 refine aH ⟨vi.1.length,(_,_,_,_,_,_,_,_,_,_,_,_,_),(ue _ _ _ _ _ _ _ _ _ _ _ _ _ _).2 ?_,by simp only [ht];rfl,?_⟩
 ·exact ⟨0,rfl,by simp,rfl,vJ⟩
 rintro n ⟨i,rd,nx,ns,ps,ts,js,qs,ef,es,af,bW,ax⟩ hj
 replace hj:=(ue _ _ _ _ _ _ _ _ _ _ _ _ _ _).1 hj
 obtain ⟨k,rfl,j1,jx,jT⟩:=hj
 cbv
 refine av (fun h3=>?_) (fun h3=>?_)
 ·simp [ht,ah,bJ,bQ,bK,bT,bq,aD,bD] at h3
  cbv
  (refine kp ht (l:=vi.1) (cells:=Int.cells) (cT:=Int.aZ t) (by simp only [ht]<;>rfl) (by simp only [ht,ah];omega) (by simp only [ht,ah];((try simp only [ah] at*);omega)) (fun _=>rfl) (fun _=>rfl) (fun x2 n9=>?_);simp [ht,ah] at n9)
  cbv
  (have pK:=hg k;refine aF trv (EY ht _ _ _ _ (nl:=(aI S (vi.1.take k)).aX.nodes) (pl:=(aI S (vi.1.take k)).aX.places) (tl:=(aI S (vi.1.take k)).tree) (jl:=(aI S (vi.1.take k)).ap) (ql:=(aI S (vi.1.take k)).queue) (el:=(aI S (vi.1.take k)).ev.l) (al:=(aI S (vi.1.take k)).au.l) (by simp only [ht];exact jT.n) (by simp only [ht];exact jT.p) (by simp only [ht];exact jT.t) (by simp only [ht];exact jT.j) (by simp only [ht];exact jT.q) (by simp only [ht];exact jT.e) (by simp only [ht];exact jT.a) _ _ (tV pK) pK.tree.1 pK.ap.1 pK.places pK.queue pK.notes.1) (by simp [ht]) rfl rfl rfl (fun r1 cF=>?_);simp only [ht] at cF;rw [jT.eq] at cF)
  cbv
  refine cz (_,_,_,_,_,_,_,_,_,_,_,_,_) (by simp only [ht];rfl) (n-1) ?_ ((ue _ _ _ _ _ _ _ _ _ _ _ _ _ _).2 ?_)
  ·omega
  simp only [ht,ah]
  exact ⟨k+1,aG (by ((try simp only [ah] at*);omega)),by ((try simp only [ah] at*);omega),jx,by rw [sK n9,←cF];exact Told.self r1.1⟩
 simp [ht,ah,bJ,bQ,bK,bT,bq,aD,bD] at h3
 cbv
 (have pK:=hg k;rw [List.take_of_length_le (by ((try simp only [ah] at*);omega))] at jT pK;refine aF trv (vI ht _ _ _ _ (nl:=(aI S vi.1).aX.nodes) (pl:=(aI S vi.1).aX.places) (tl:=(aI S vi.1).tree) (jl:=(aI S vi.1).ap) (ql:=(aI S vi.1).queue) (el:=(aI S vi.1).ev.l) (al:=(aI S vi.1).au.l) (by simp only [ht];exact jT.n) (by simp only [ht];exact jT.p) (by simp only [ht];exact jT.t) (by simp only [ht];exact jT.j) (by simp only [ht];exact jT.q) (by simp only [ht];exact jT.e) (by simp only [ht];exact jT.a) w.1 (names:=vi.2.1) (by simp only [ht]) (tV pK) pK.tree.1 pK.ap.1 pK.nodes.1 pK.places pK.queue pK.notes.1 hvl.2) (by simp [ht]) rfl rfl rfl (fun b eb=>?_);simp only [ht] at eb;rw [jT.eq] at eb;rw [←eb] at r3 r4)
 cbv
 refine av (fun h4=>?_) (fun h4=>?_)
 ·simp [ht,ah,bJ,bQ,bK,bT,bq,aD,bD] at h4
  cbv
  refine az trv trv rfl rfl rfl ?_
  (simp only [ht,r3 ‹_› ‹_› ‹_›,jT.r,jT.x,jT.n,jT.p,jT.t,jT.j,jT.q,jT.f,jT.e,jT.g,jT.a,jx,RA];done)
 simp [ht,ah,bJ,bQ,bK,bT,bq,aD,bD] at h4
 cbv
 refine az trv trv rfl rfl rfl ?_
 (simp only [ht,r4 ‹_› ‹_› ‹_›];done)
theorem N2 (ht:TT t) (rd nx ef af:Int) {nl:List Node} {pl:List Place} {tl:List bg} {jl:List Jb} {ql:List cu} {el al:List ek} {ns ps ts js qs es bW:List (List D)} (fF:ns=nl.map Node.cells) (hps:ps=pl.map Place.cells) (hts:ts=tl.map bg.cells) (eW:js=jl.map Jb.cells) (eM:qs=ql.map cu.cells) (aE:es=el.map ek.cells) (has:bW=al.map ek.cells) (P:aT→Nat→Prop) (h0:P ⟨rd,nx,⟨nl,pl⟩,tl,jl,ql,⟨ef,el⟩,⟨af,al⟩⟩ 0) (hP:∀T a,P T a→(bC T a).2.2=true→P (bC T a).1 (bC T a).2.1)
 (hC:∀T a,P T a→∀rd nx ns ps ts js qs ef es af bW,Told T rd nx ns ps ts js qs ef es af bW→∀aa:Int,aa=a→FC 72 [.agg [aC rd,aC nx,SL ns,SL ps,SL ts,SL js,SL qs,aC ef,SL es,aC af,SL bW,bG aa]] [] (.ret (Wb t (t _ fun _=>bC T a))) []):
 FC 30 [.agg [aC rd,aC nx,SL ns,SL ps,SL ts,SL js,SL qs,aC ef,SL es,aC af,SL bW]] [] (.ret (dM t (t _ fun _=>qZ ⟨rd,nx,⟨nl,pl⟩,tl,jl,ql,⟨ef,el⟩,⟨af,al⟩⟩))) []:=by
 obtain ⟨S,hS⟩:∃S:aT,S=⟨rd,nx,⟨nl,pl⟩,tl,jl,ql,⟨ef,el⟩,⟨af,al⟩⟩:=⟨_,rfl⟩
 have vJ:Told S rd nx ns ps ts js qs ef es af bW:=by rw [hS];exact ⟨rfl,rfl,fF,hps,hts,eW,eM,rfl,aE,rfl,has⟩
 rw [←hS] at h0 ⊢
 obtain ⟨R,hR⟩:∃R,R=qZ S:=⟨_,rfl⟩
 have hR0:R=cw 128 S 0:=hR
 rw [←hR]
 clear hS hR
 refine bP ht (aQ:=[]) Tryz.func30 rfl rfl (N:=23) rfl rfl (n:=0) rfl rfl ?_
 cbv
 have bJ:ns.length=nl.length:=by rw [fF,lgM]
 have bQ:ps.length=pl.length:=by rw [hps,lgM]
 have bK:ts.length=tl.length:=by rw [hts,lgM]
 have bT:js.length=jl.length:=by rw [eW,lgM]
 have bq:qs.length=ql.length:=by rw [eM,lgM]
 have aD:es.length=el.length:=by rw [aE,lgM]
 have bD:bW.length=al.length:=by rw [has,lgM]
 obtain ⟨J0,fI⟩:∃J0:Nat→Int×Int×Int×List (List D)×List (List D)×List (List D)×List (List D)×List (List D)×Int×List (List D)×Int×List (List D)×Int→Prop,∀n i rd nx ns ps ts js qs ef es af bW ax,J0 n (i,rd,nx,ns,ps,ts,js,qs,ef,es,af,bW,ax)↔(∃(k:Nat) (T:aT) (a:Nat),i=k∧k+n=128∧ax=a∧Told T rd nx ns ps ts js qs ef es af bW∧P T a∧R=cw n T a):=⟨fun n v=>match v with|(i,rd,nx,ns,ps,ts,js,qs,ef,es,af,bW,ax)=>(∃(k:Nat) (T:aT) (a:Nat),i=k∧k+n=128∧ax=a∧Told T rd nx ns ps ts js qs ef es af bW∧P T a∧R=cw n T a),fun _ _ _ _ _ _ _ _ _ _ _ _ _ _=>Iff.rfl⟩
 refine bH ⟨[2,3,4,9],[],[]⟩ (σ:=Int×Int×Int×List (List D)×List (List D)×List (List D)×List (List D)×List (List D)×Int×List (List D)×Int×List (List D)×Int) (fun v=>[(9,.d (.int .i64 (t _ fun _=>v.1)))]) (fun v=>[(1,.var [.d (.int .u64 (t _ fun _=>v.2.1)),.d (.int .u64 (t _ fun _=>v.2.2.1)),.d (.sl (t _ fun _=>v.2.2.2.1)),.d (.sl (t _ fun _=>v.2.2.2.2.1)),.d (.sl (t _ fun _=>v.2.2.2.2.2.1)),.d (.sl (t _ fun _=>v.2.2.2.2.2.2.1)),.d (.sl (t _ fun _=>v.2.2.2.2.2.2.2.1)),.d (.int .u64 (t _ fun _=>v.2.2.2.2.2.2.2.2.1)),.d (.sl (t _ fun _=>v.2.2.2.2.2.2.2.2.2.1)),.d (.int .u64 (t _ fun _=>v.2.2.2.2.2.2.2.2.2.2.1)),.d (.sl (t _ fun _=>v.2.2.2.2.2.2.2.2.2.2.2.1)),.d (.int .i64 (t _ fun _=>v.2.2.2.2.2.2.2.2.2.2.2.2))])]) J0 ?_
 cbv
 refine aH ⟨128,(_,_,_,_,_,_,_,_,_,_,_,_,_),(fI _ _ _ _ _ _ _ _ _ _ _ _ _ _).2 ?_,by simp only [ht];rfl,?_⟩
 ·exact ⟨0,S,0,rfl,rfl,rfl,vJ,h0,hR0⟩
 rintro n ⟨i,rd,nx,ns,ps,ts,js,qs,ef,es,af,bW,ax⟩ hj
 replace hj:=(fI _ _ _ _ _ _ _ _ _ _ _ _ _ _).1 hj
 obtain ⟨k,T,a,rfl,j1,j2,j3,j4,j5⟩:=hj
 cbv
 refine av (fun h1=>?_) (fun h1=>?_)
 ·simp [ht,ah,bJ,bQ,bK,bT,bq,aD,bD] at h1
  cbv
  (refine aF trv (hC T a j4 _ _ _ _ _ _ _ _ _ _ _ (by simp only [ht];exact j3) _ (by simp only [ht];exact j2)) (by simp [ht]) rfl rfl rfl (fun r1 cF=>?_);simp only [ht] at cF)
  cbv
  refine av (fun h2=>?_) (fun h2=>?_)
  ·simp [ht,ah,bJ,bQ,bK,bT,bq,aD,bD] at h2
   cbv
   refine az trv trv rfl rfl rfl ?_
   (obtain ⟨m,rfl⟩:∃m,n=m+1:=⟨n-1,(by ((try simp only [ah] at*);omega))⟩;rw [cw,←cF,if_neg (by simp_all)] at j5;simp only [ht,j5];done)
  simp [ht,ah,bJ,bQ,bK,bT,bq,aD,bD] at h2
  cbv
  refine cz (_,_,_,_,_,_,_,_,_,_,_,_,_) (by simp only [ht];rfl) (n-1) ?_ ((fI _ _ _ _ _ _ _ _ _ _ _ _ _ _).2 ?_)
  ·((try simp only [ah] at*);omega)
  simp only [ht,ah]
  (obtain ⟨m,rfl⟩:∃m,n=m+1:=⟨n-1,(by ((try simp only [ah] at*);omega))⟩;rw [cw,if_pos (by rw [←cF];assumption)] at j5;exact ⟨k+1,r1.1,r1.2.1,aG (by ((try simp only [ah] at*);omega)),by ((try simp only [ah] at*);omega),rfl,Told.self r1.1,by rw [cF];exact hP _ _ j4 (by rw [←cF];assumption),by rw [cF];exact j5⟩)
 simp [ht,ah,bJ,bQ,bK,bT,bq,aD,bD] at h1
 cbv
 refine az trv trv rfl rfl rfl ?_
 (obtain rfl:n=0:=(by ((try simp only [ah] at*);omega));rw [cw] at j5;simp only [ht,j5,j3.r,j3.x,j3.n,j3.p,j3.t,j3.j,j3.q,j3.f,j3.e,j3.g,j3.a];done)
end Dem
end
section
open Go
namespace Dem
theorem mK {s:aT} (h:s.ok) (a:Nat):(bC s a).1.ok:=by
 have h1:=(de h (aB s (aM s a).1).1).ok
 unfold bC
 split
 ·exact h
 split
 ·exact h
 split
 ·exact h1
 exact h1.wK _ _
theorem tZ (s:aT):∀(l:List cu) (k:Nat),(match j8 s l k with|(id,at_,ok)=>(ok=true→k≤at_∧∃q,l[at_-k]?=some q∧q.id=id∧cL s id=true∧∀i<at_-k,∀p,l[i]?=some p→cL s p.id=false)∧
 (ok=false→id=0∧at_=0∧∀p∈l,cL s p.id=false))
 |[],k=>by simp [j8]
 |q::r,k=>by
  unfold j8
  by_cases c:cL s q.id=true
  ·rw [if_pos c]
   exact ⟨fun _=>⟨Nat.le_refl _,q,by simp,rfl,c,fun i hi=>by omega⟩,fun e=>by cases e⟩
  rw [if_neg c]
  have ih:=tZ s r (k+1)
  cases hn:j8 s r (k+1) with
  |mk id t=>
   obtain ⟨at_,ok⟩:=t
   rw [hn] at ih
   simp only at ih ⊢
   refine ⟨fun e=>?_,fun e=>?_⟩
   ·obtain ⟨h1,p,h2,h3,h4,h5⟩:=ih.1 e
    refine ⟨by omega,p,?_,h3,h4,fun i hi x hx=>?_⟩
    ·rw [show at_-k=(at_-(k+1))+1 by omega];simpa using h2
    cases i with
    |zero=>simp at hx;subst hx;simpa using c
    |succ i=>exact h5 i (by omega) x (by simpa using hx)
   obtain ⟨h1,h2,h3⟩:=ih.2 e
   refine ⟨h1,h2,fun x hx=>?_⟩
   rcases List.mem_cons.1 hx with rfl|hx
   ·simpa using c
   exact h3 x hx
theorem KN {t u:List bg} (h:cr t u):og u=og t:=by
 refine List.ext_getElem? fun i=>?_
 unfold og
 rw [List.getElem?_map,List.getElem?_map]
 cases hi:t[i]? with
 |none=>rw [List.getElem?_eq_none_iff] at hi;rw [List.getElem?_eq_none_iff.2 (by rw [h.len];exact hi)]
 |some e=>
  obtain ⟨x,h1,h2,h3⟩:=h.at_ i e hi
  rw [h1]
  cases x;cases e;simp_all
theorem DI {s:aT} (h:s.ok) {j:Jb} (hj:j∈s.ap) (hr:j.runs=false):eU s j.id=(j,true):=by
 obtain ⟨i,hi⟩:=List.getElem?_of_mem hj
 unfold eU
 rw [(dg h.ids hi).2.2]
 simp [hr]
theorem mL {s t:aT} (h:s.ok) (h':t.ok) (hn:t.aX.nodes=s.aX.nodes) (hk:cr s.tree t.tree) {j o:Jb} (hj:j∈s.ap) (hr:j.runs=false) (ho:o∈t.ap) (mN:o.runs=false) (e:o.id=j.id) (ex:o.x=j.x):
 cL t j.id=cL s j.id:=by
 have a:=DI h hj hr
 have b:=DI h' ho mN
 rw [e] at b
 unfold cL ic qN
 rw [a,b,hn,KN hk]
 simp only
 rw [ex]
theorem kB {s:aT} (h:s.ok) {a:Nat} (e:(bC s a).2.2=true):
 (aM s a).2.2=true∧(aB s (aM s a).1).2.2=true∧(bC s a).2.1=(aM s a).2.1∧(bC s a).1.ok∧(bC s a).1.aX.nodes=s.aX.nodes∧cr s.tree (bC s a).1.tree∧
 ∃(i:Nat) (j:Jb),s.ap[i]?=some j∧j.id=(aM s a).1∧j.runs=false∧(bC s a).1.ap=(s.ap.map (cg (aB s (aM s a).1).1)).set i j.begun:=by
 have hok:=mK h a
 have g:=de h (aB s (aM s a).1).1
 unfold bC at e hok ⊢
 cases c1:(aM s a).2.2 with
 |false=>rw [c1] at e;cases e
 |true=>
  rw [c1] at e hok
  rw [show (!true)=false from rfl,if_neg (by decide)] at e hok ⊢
  cases c2:(aB s (aM s a).1).2.2 with
  |false=>rw [c2] at e;cases e
  |true=>
   rw [c2] at e hok
   rw [show (!true)=false from rfl,if_neg (by decide)] at e hok ⊢
   by_cases c3:(cq (aI s (aB s (aM s a).1).1) (aM s a).1 (aB s (aM s a).1).2.1).2=0
   ·rw [if_neg (by simp [c3])] at e hok ⊢
    refine ⟨rfl,rfl,rfl,hok,?_⟩
    obtain ⟨i,j,T,b1,b2,b3,_,b5,b6⟩:=rX g.ok c3
    rw [b6]
    refine ⟨g.nodes,g.tree.trans b5,i,?_⟩
    rw [g.ap,List.getElem?_map] at b1
    cases hi:s.ap[i]? with
    |none=>rw [hi] at b1;cases b1
    |some o=>
     rw [hi] at b1
     simp only [Option.map_some,osI] at b1
     have hc:cL s (aM s a).1=true:=by
      have:=tZ s (s.queue.drop a) a
      rw [show j8 s (s.queue.drop a) a=aM s a from rfl] at this
      exact (this.1 c1).2.choose_spec.2.2.1
     have hw:(eU s (aM s a).1).2=true:=by
      cases hx:(eU s (aM s a).1).2 with
      |true=>rfl
      |false=>unfold cL ic at hc;rw [hx] at hc;exact (show False from Bool.noConfusion hc).elim
     have hid:o.id=(aM s a).1:=by rw [←b2,←b1,(bO _ o).1]
     have mN:o.runs=false:=by
      unfold eU at hw
      rw [←hid,(dg h.ids hi).2.2] at hw
      simpa using hw
     have:cg (aB s (aM s a).1).1 o=o:=by unfold cg;rw [if_neg (by simp [mN])]
     rw [this] at b1
     subst b1
     exact ⟨o,rfl,hid,mN,by rw [←g.ap];rfl⟩
   rw [if_pos c3] at e;cases e
end Dem
end
