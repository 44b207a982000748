/- Parts of a proof, joined. -/
import Derived.Test.YtihohjnkkalgiaaGreatDoorS21
import Derived.Sort.MapsRangeIn
import Derived.Sort.KeysCollected
import Derived.Test.YtihohjnkkalgiaaGreatDoorProg
import Derived.RangeFuncSeq
import Derived.WalkKit
import Derived.OwnWalkIn
import Derived.TacticsInMore
import Derived.RegionIn
import Derived.LoopNIn
import Derived.LoopIn
import Derived.RangeFuncGives
import Derived.RangeFuncBound
import Derived.Maps.AppendAt
import Derived.Shelf.Abstract
import Derived.Sort.Defs
import Derived.Sort.LotA
set_option linter.all false
set_option maxRecDepth 100000
set_option maxHeartbeats 4000000
section
open Go
namespace Dem
def j7 (s:aT) (p:cH):aT:=⟨s.round,s.next,p,s.tree,s.ap,s.queue,s.ev,s.au⟩
theorem Av (p:cH) (ha:Jr p.nodes) (name:aK) (up:Bool):(fG p name up).1.places=p.places∧∀n∈(fG p name up).1.nodes,∃m∈p.nodes,n.name=m.name∧n.labels=m.labels:=by
 rcases G9 p ha name up with ⟨e,_⟩|⟨i,x,hx,hn,_,⟨_,e⟩|⟨_,e⟩⟩
 ·rw [e];exact ⟨rfl,fun n hn=>⟨n,hn,rfl,rfl⟩⟩
 ·rw [e];exact ⟨rfl,fun n hn=>⟨n,hn,rfl,rfl⟩⟩
 rw [e]
 refine ⟨rfl,fun n hn=>?_⟩
 rcases List.mem_or_eq_of_mem_set hn with h|rfl
 ·exact ⟨n,h,rfl,rfl⟩
 exact ⟨x,List.mem_of_getElem? hx,rfl,rfl⟩
theorem aT.ok.BW {s:aT} (h:s.ok) (name:aK) (up:Bool):(j7 s (fG s.aX name up).1).ok:=by
 obtain ⟨a,b⟩:=SD h.aX h.gR name up
 have e:=(Av s.aX h.aX.xZ name up).1
 exact {aX:=a,gR:=b,tree:=h.tree,used:=h.used,most:=h.most,next:=h.next,ids:=h.ids,vz:=h.vz,py:=h.py,left:=h.left,iw:=h.iw,kR:=h.kR,gm:=h.gm,places:=fun x hx=>h.places x (by rw [←e];exact hx),count:=fun j hj hr=>(by show (sq j.id (fG s.aX name up).1.places:Int)=_;rw [e];exact h.count j hj hr),notes:=h.notes}
theorem QH {A:Ask→Prop} {s:aT} (h:s.ok) (l:s.eZ A) (name:aK) (up:Bool):(j7 s (fG s.aX name up).1).eZ A:=by
 refine ⟨fun n hn=>?_,l.paths,l.xs⟩
 obtain ⟨m,hm,e1,e2⟩:=(Av s.aX h.aX.xZ name up).2 n hn
 obtain ⟨a,b,c⟩:=l.names m hm
 exact ⟨by rw [e1];exact a,by rw [e2];exact b,by rw [e2];exact c⟩
def ie (s:aT) (l:List Int):aT:=l.foldl (fun s id=>(gC s id 6).1) s
def L3 (s:aT) (name:aK) (c:Nat):aT:=if (sH s.aX name).2.2=0∧c%2=0 then ie (j7 s (sH s.aX name).1) (sH s.aX name).2.1 else j7 s (fG s.aX name true).1
def lu (x:iX) (s:aT):aT:=
 if x.kind%8≤3 then (dc s (Cb x)).1 else
 if x.kind%8≤5 then (if (fit (eT s.aX) (bB s.ap (x.a%12:Nat)).1.x.cE (bB s.ap (x.a%12:Nat)).1.x.gx (bB s.ap (x.a%12:Nat)).1.x.count).2 then
  (cq s (x.a%12:Nat) (fit (eT s.aX) (bB s.ap (x.a%12:Nat)).1.x.cE (bB s.ap (x.a%12:Nat)).1.x.gx (bB s.ap (x.a%12:Nat)).1.x.count).1).1 else s) else
 if x.kind%8=6 then (send s (x.a%12:Nat) 4).1 else
 L3 s (kZ.getD (x.b%3) []) x.c
def gS (n:Nat) (l:List iX) (k:Nat):aT:=(l.take k).foldl (fun s x=>lu x s) (jN n)
theorem HU {n:Nat} {l:List iX} {k:Nat} {x:iX} (h:l[k]?=some x):gS n l (k+1)=lu x (gS n l k):=by
 unfold gS;rw [dV h,List.foldl_append];rfl
def RK (s t:aT):Prop:=∀j∈t.ap,j.runs=true→∃k∈s.ap,k.runs=true∧k.id=j.id
theorem Tm {s:aT} (h:s.ok) (id kind:Int):RK s (gC s id kind).1:=by
 cases hf:s.ap.findIdx? (fun j=>decide (j.id=id)) with
 |none=>unfold gC;rw [hf];exact fun j hj hr=>⟨j,hj,hr,rfl⟩
 |some i=>
  obtain ⟨j,hj,rfl,c⟩:=nH hf
  by_cases hr:j.runs=true
  ·obtain ⟨T,Q,h1,h2⟩:=Ba h hj hr kind
   rw [h2]
   intro y hy hry
   rcases List.mem_or_eq_of_mem_set hy with g|rfl
   ·exact ⟨y,g,hry,rfl⟩
   cases hry
  unfold gC;rw [hf];simp only;rw [c,if_pos (by simpa using hr)];exact fun j hj hr=>⟨j,hj,hr,rfl⟩
theorem VQ {s:aT} (h:s.ok) (id kind:Int):RK s (send s id kind).1:=by
 cases hf:s.ap.findIdx? (fun j=>decide (j.id=id)) with
 |none=>unfold send;rw [hf];exact fun j hj hr=>⟨j,hj,hr,rfl⟩
 |some i=>
  obtain ⟨j,hj,rfl,c⟩:=nH hf
  obtain ⟨h1,h2,h3⟩:=zl h hj kind
  have hx:∀z∈s.ap.eraseIdx i,z.runs=true→∃w∈s.ap,w.runs=true∧w.id=z.id:=fun z hz hr=>⟨z,List.mem_of_mem_eraseIdx hz,hr,rfl⟩
  by_cases hr:j.runs=true
  ·obtain ⟨T,h4,h5⟩:=h3 hr
   rw [h5];exact hx
  rw [h2 (by simpa using hr)];exact hx
def aT.yW (s:aT):Prop:=∀j∈s.ap,j.runs=true→j.id<12
theorem RK.yW {s t:aT} (h:RK s t) (f:s.yW):t.yW:=fun j hj hr=>by
 obtain ⟨k,a,b,c⟩:=h j hj hr
 rw [←c];exact f k a b
theorem Dv {s:aT} (h:s.ok) (f:s.yW) {id:Int} (hi:id<12) (names:List aK):(cq s id names).1.yW:=by
 by_cases e:(cq s id names).2=0
 ·obtain ⟨i,j,T,h1,h2,h3,h4,h5,h6⟩:=rX h e
  rw [h6]
  intro y hy hr
  rcases List.mem_or_eq_of_mem_set hy with g|rfl
  ·exact f y g hr
  show j.id<12;rw [h2];exact hi
 rw [Dq e];exact f
theorem Bl {s:aT} (h:s.ok) (f:s.yW) (x:Ask):(dc s x).1.yW:=by
 by_cases e:(dc s x).2.2=0
 ·rw [(J3 h e).2.2]
  intro y hy hr
  rcases List.mem_append.1 hy with g|g
  ·exact f y g hr
  rw [List.mem_singleton.1 g] at hr;cases hr
 rw [(Dp e).1];exact f
structure aT.good (s:aT):Prop where
 ok:s.ok
 eZ:s.eZ sJ
 yW:s.yW
theorem NB {s:aT} (h:s.good) (id kind:Int):(gC s id kind).1.good:=⟨h.ok.stop id kind,(J8 h.ok id kind).eZ h.eZ,(Tm h.ok id kind).yW h.yW⟩
theorem QI {s:aT} (h:s.good) (id kind:Int):(send s id kind).1.good:=⟨h.ok.end_ id kind,(Dr h.ok id kind).eZ h.eZ,(VQ h.ok id kind).yW h.yW⟩
theorem Bn {s:aT} (h:s.good) (l:List Int):(ie s l).good:=wH (P:=aT.good) (fun a b g=>NB g b 6) _ _ h
theorem wU {s:aT} (h:s.good) (name:aK) (up:Bool):(j7 s (fG s.aX name up).1).good:=⟨h.ok.BW name up,QH h.ok h.eZ name up,h.yW⟩
theorem Dw (p:cH) (name:aK):(sH p name).1=(fG p name false).1:=by unfold sH;split<;>rfl
theorem NC {s:aT} (h:s.good) (x:iX):(lu x s).good:=by
 unfold lu
 split
 ·exact ⟨h.ok.dc (PV x),Bb h.eZ (mI x),Bl h.ok h.yW _⟩
 split
 ·split
  ·exact ⟨h.ok.wK _ _,(yo h.ok _ _).eZ h.eZ,Dv h.ok h.yW (by omega) _⟩
  exact h
 split
 ·exact QI h _ _
 unfold L3
 split
 ·rw [Dw];exact Bn (wU h _ _) _
 exact wU h _ _
theorem qQ (n:Nat) (l:List iX) (k:Nat):(gS n l k).good:=
 wH (P:=aT.good) (fun a b h=>NC h b) _ _ ⟨AX n,yq _ n,fun j hj=>by cases hj⟩
theorem EZ:∀(l:List Int) (a b:Int),l.Pairwise (·<·)→(∀x∈l,a≤x∧x<b)→l.length≤(b-a).toNat
 |[],_,_,_,_=>by simp
 |x::r,a,b,h,g=>by
  obtain ⟨h1,h2⟩:=List.pairwise_cons.1 h
  have h3:=EZ r (x+1) b h2 fun y hy=>⟨h1 y hy,(g y (by simp [hy])).2⟩
  have h4:=g x (by simp)
  simp only [List.length_cons];omega
theorem L4 {s:aT} (h:s.good) (name:aK):(Ey name s.aX.places).length≤12:=by
 have h1:=EZ (Ey name s.aX.places) 1 12 (PI _ _) fun x hx=>by
  obtain ⟨y,hy,_,rfl⟩:=PG.1 hx
  obtain ⟨j,hj,hr,e,_⟩:=h.ok.places y hy
  rw [←e]
  exact ⟨(h.ok.vz j hj).1,h.yW j hj hr⟩
 omega
end Dem
end
section
open Go Dem Go.Proofs
namespace Dem
variable {t:Th}
theorem tV {s:aT} (h:s.sm):∀x∈s.ap,x.x.gx.u'∧x.x.path.length<1000000000000:=fun x hx=>⟨(h.ap.2 x hx).1.2.1,(h.ap.2 x hx).1.1⟩
theorem sK {s:aT} {l:List Int} {k:Nat} {x:Int} (h:l[k]?=some x):aI s (l.take (k+1))=(gC (aI s (l.take k)) x 5).1:=by
 unfold aI;rw [dV h,List.foldl_append];rfl
theorem aT.good.sm {s:aT} (h:s.good):s.sm:=h.ok.small h.eZ
theorem Km (ht:TT t) (rd nx ef af:Int) {nl:List Node} {pl:List Place} {tl:List bg} {jl:List Jb} {ql:List cu} {el al:List ek} {ns ps ts js qs es bW:List (List D)} (fF:ns=nl.map Node.cells) (hps:ps=pl.map Place.cells) (hts:ts=tl.map bg.cells) (eW:js=jl.map Jb.cells) (eM:qs=ql.map cu.cells) (aE:es=el.map ek.cells) (has:bW=al.map ek.cells) {ids:List Int} {ir:List (List D)} (Yh:ir=ids.map Int.cells) (hil:ids.length<1000000) (hg:∀k,(aI ⟨rd,nx,⟨nl,pl⟩,tl,jl,ql,⟨ef,el⟩,⟨af,al⟩⟩ (ids.take k)).sm):
 FC 53 [.agg [aC rd,aC nx,SL ns,SL ps,SL ts,SL js,SL qs,aC ef,SL es,aC af,SL bW],SL ir] [] (.ret (dM t (t _ fun _=>aI ⟨rd,nx,⟨nl,pl⟩,tl,jl,ql,⟨ef,el⟩,⟨af,al⟩⟩ ids))) []:=by
 obtain ⟨S,hS⟩:∃S:aT,S=⟨rd,nx,⟨nl,pl⟩,tl,jl,ql,⟨ef,el⟩,⟨af,al⟩⟩:=⟨_,rfl⟩
 rw [←hS] at hg ⊢
 have vJ:Told S rd nx ns ps ts js qs ef es af bW:=by rw [hS];exact ⟨rfl,rfl,fF,hps,hts,eW,eM,rfl,aE,rfl,has⟩
 clear hS
 refine bP ht (aQ:=[]) Tryz.func53 rfl rfl (N:=21) rfl rfl (n:=0) rfl rfl ?_
 cbv
 have bJ:ns.length=nl.length:=by rw [fF,lgM]
 have bQ:ps.length=pl.length:=by rw [hps,lgM]
 have bK:ts.length=tl.length:=by rw [hts,lgM]
 have bT:js.length=jl.length:=by rw [eW,lgM]
 have bq:qs.length=ql.length:=by rw [eM,lgM]
 have aD:es.length=el.length:=by rw [aE,lgM]
 have bD:bW.length=al.length:=by rw [has,lgM]
 have Kn:ir.length=ids.length:=by rw [Yh,lgM]
 obtain ⟨J0,fI⟩:∃J0:Nat→Int×Int×Int×List (List D)×List (List D)×List (List D)×List (List D)×List (List D)×Int×List (List D)×Int×List (List D)→Prop,∀n i rd nx ns ps ts js qs ef es af bW,J0 n (i,rd,nx,ns,ps,ts,js,qs,ef,es,af,bW)↔(∃k:Nat,i=k∧k+n=ids.length∧Told (aI S (ids.take k)) rd nx ns ps ts js qs ef es af bW):=⟨fun n v=>match v with|(i,rd,nx,ns,ps,ts,js,qs,ef,es,af,bW)=>(∃k:Nat,i=k∧k+n=ids.length∧Told (aI S (ids.take k)) rd nx ns ps ts js qs ef es af bW),fun _ _ _ _ _ _ _ _ _ _ _ _ _=>Iff.rfl⟩
 refine bH ⟨[2,4,7,8,9],[],[]⟩ (σ:=Int×Int×Int×List (List D)×List (List D)×List (List D)×List (List D)×List (List D)×Int×List (List D)×Int×List (List D)) (fun v=>[(9,.d (.int .i64 (t _ fun _=>v.1)))]) (fun v=>[(0,.var [.d (.int .u64 (t _ fun _=>v.2.1)),.d (.int .u64 (t _ fun _=>v.2.2.1)),.d (.sl (t _ fun _=>v.2.2.2.1)),.d (.sl (t _ fun _=>v.2.2.2.2.1)),.d (.sl (t _ fun _=>v.2.2.2.2.2.1)),.d (.sl (t _ fun _=>v.2.2.2.2.2.2.1)),.d (.sl (t _ fun _=>v.2.2.2.2.2.2.2.1)),.d (.int .u64 (t _ fun _=>v.2.2.2.2.2.2.2.2.1)),.d (.sl (t _ fun _=>v.2.2.2.2.2.2.2.2.2.1)),.d (.int .u64 (t _ fun _=>v.2.2.2.2.2.2.2.2.2.2.1)),.d (.sl (t _ fun _=>v.2.2.2.2.2.2.2.2.2.2.2))])]) J0 ?_
 cbv
 refine aH ⟨ids.length,(_,_,_,_,_,_,_,_,_,_,_,_),(fI _ _ _ _ _ _ _ _ _ _ _ _ _).2 ?_,by simp only [ht];rfl,?_⟩
 ·exact ⟨0,rfl,by simp,vJ⟩
 rintro n ⟨i,rd,nx,ns,ps,ts,js,qs,ef,es,af,bW⟩ hj
 replace hj:=(fI _ _ _ _ _ _ _ _ _ _ _ _ _).1 hj
 obtain ⟨k,rfl,j1,jT⟩:=hj
 cbv
 refine av (fun h1=>?_) (fun h1=>?_)
 ·simp [ht,ah,bJ,bQ,bK,bT,bq,aD,bD,Kn] at h1
  cbv
  refine kp ht Yh (cT:=Int.aZ t) (by (simp only [ht,ah];omega)) (by (simp only [ht,ah];omega)) (fun _=>rfl) (fun _=>rfl) (fun x2 n9=>?_)
  simp [ht,ah] at n9
  cbv
  (have pK:=hg k;refine aF trv (EY ht _ _ _ _ (nl:=(aI S (ids.take k)).aX.nodes) (pl:=(aI S (ids.take k)).aX.places) (tl:=(aI S (ids.take k)).tree) (jl:=(aI S (ids.take k)).ap) (ql:=(aI S (ids.take k)).queue) (el:=(aI S (ids.take k)).ev.l) (al:=(aI S (ids.take k)).au.l) (by simp only [ht];exact jT.n) (by simp only [ht];exact jT.p) (by simp only [ht];exact jT.t) (by simp only [ht];exact jT.j) (by simp only [ht];exact jT.q) (by simp only [ht];exact jT.e) (by simp only [ht];exact jT.a) _ _ (tV pK) pK.tree.1 pK.ap.1 pK.places pK.queue pK.notes.1) (by simp [ht]) rfl rfl rfl (fun r1 cF=>?_);simp only [ht] at cF;rw [jT.eq] at cF)
  cbv
  refine cz (_,_,_,_,_,_,_,_,_,_,_,_) (by simp only [ht];rfl) (n-1) ?_ ((fI _ _ _ _ _ _ _ _ _ _ _ _ _).2 ?_)
  ·omega
  simp only [ht,ah]
  exact ⟨k+1,aG (by ((try simp only [ah] at*);omega)),by ((try simp only [ah] at*);omega),by rw [sK n9,←cF];exact Told.self r1.1⟩
 simp [ht,ah,bJ,bQ,bK,bT,bq,aD,bD,Kn] at h1
 cbv
 refine az trv trv rfl rfl rfl ?_
 (rw [List.take_of_length_le (by ((try simp only [ah] at*);omega))] at jT;simp only [ht,jT.r,jT.x,jT.n,jT.p,jT.t,jT.j,jT.q,jT.f,jT.e,jT.g,jT.a];done)
end Dem
end
section
open Go Go.Maps
namespace Dem
abbrev gG:Int→Value:=Value.int .u64
def yx:Lit→Int
 |.int _ a=>a
 |_=>0
def o4 {H:Type}:DataW H→List Int
 |.map es=>es.map fun p=>yx p.1
 |_=>[]
theorem Bo {x y:Int} (h:gG x=gG y):x=y:=by
 injection h
theorem oh {P:Program} {k:TypeId} (hk:P.underlying k=some (.int .u64)) {key:Value} {kl:Lit} (h:keyOf P k key=some kl):∃x:Int,key=gG x∧kl=.int .u64 x∧(Lit.int .u64 x).wf=true:=by
 cases key<;>simp [keyOf,hk,mapKey] at h
 rename_i q a
 obtain ⟨⟨rfl,hw⟩,rfl⟩:=h
 exact ⟨a,rfl,rfl,hw⟩
def fD {H:Type} (D0:DataW H) (left:Lit→Bool) (ss:List Int):Prop:=ss.Nodup∧∀x,x∈ss↔(has D0 (.int .u64 x)=true∧left (.int .u64 x)=false)
section
variable {H:Type} {D0:DataW H} {left:Lit→Bool} {ss:List Int}
theorem fD.start (D0:DataW H):fD D0 (has D0) []:=by
 refine ⟨List.nodup_nil,fun x=>?_⟩
 cases has D0 (.int .u64 x)<;>simp
theorem fD.step (h:fD D0 left ss) {x:Int} {y:DataW H} (hlk:left (.int .u64 x)=true) (hat:∀zd,D0.atKey (.int .u64 x) zd=y):fD D0 (fun z=>left z&&!z.sameKey (.int .u64 x)) (ss++[x]):=by
 obtain ⟨h1,h2⟩:=h
 have hh:=has_true_of_atKey hat
 have hn:x ∉ ss:=by
  intro hx
  rw [((h2 x).1 hx).2] at hlk
  cases hlk
 constructor
 ·rw [List.nodup_append]
  refine ⟨h1,by simp,?_⟩
  intro a ha b hb e
  simp only [List.mem_singleton] at hb
  exact hn (by rw [←hb,←e];exact ha)
 intro z
 by_cases hz:z=x
 ·subst hz;simp [hh,Lit.sameKey]
 simp [h2 z,hz,Lit.sameKey]
variable {P:Program} {k:TypeId} {R:Value→Option (DataW H×List MemPlace)} {w:World} {b n:Nat}
theorem fD.perm (h:fD D0 left ss) (hown:w.ownsMap P k R b n D0) (K:Keyed P k) (hk:P.underlying k=some (.int .u64)) (hl:∀kl,left kl=false):ss.Perm (o4 D0):=by
 obtain ⟨es,hD,hpw,_⟩:=hown.entries K
 obtain ⟨es',hD',hko⟩:=hown.keysOf
 rw [hD] at hD'
 obtain rfl:es=es':=by simpa using hD'
 subst hD
 have hkey:∀p∈es,∃x,p.1=.int .u64 x:=by
  intro p hp
  obtain ⟨v,hv⟩:=hko p hp
  obtain ⟨x,_,hx,_⟩:=oh hk hv
  exact ⟨x,hx⟩
 refine (List.perm_ext_iff_of_nodup h.1 ?_).2 ?_
 ·show (es.map fun p=>yx p.1).Nodup
  refine List.pairwise_map.2 (hpw.imp_of_mem ?_)
  intro p q hp hq hne e
  obtain ⟨a,ha⟩:=hkey p hp
  obtain ⟨c,hc⟩:=hkey q hq
  rw [ha,hc] at hne e
  exact hne (congrArg _ e)
 intro x
 rw [h.2 x,hl]
 simp only [and_true]
 rw [has_eq,List.any_eq_true]
 show _↔x∈es.map fun p=>yx p.1
 rw [List.mem_map]
 constructor
 ·rintro ⟨p,hp,hs⟩
  obtain ⟨a,ha⟩:=hkey p hp
  refine ⟨p,hp,?_⟩
  rw [ha] at hs ⊢
  simpa [Lit.sameKey,yx] using hs
 rintro ⟨p,hp,rfl⟩
 obtain ⟨a,ha⟩:=hkey p hp
 exact ⟨p,hp,by rw [ha];simp [Lit.sameKey,yx]⟩
end
end Dem
end
section
namespace Go.Proofs
open Go.RowKit Go.Maps Go.Sort Go.Shelf
open Dem (gG o4 fD oh Bo)
set_option maxRecDepth 100000 in
set_option maxHeartbeats 1000000 in
theorem Ks.ND {H:Type} (F:Fence) (n:Nat) (h10:F.fn 196) (hro:F.round=none) (hn:1≤n) (l Bm off b nn:Nat) (D0:DataW H) {R:Value→Option (DataW H×List MemPlace)} (J:List Int→World→Prop)
 (hY:∀pre x W,J pre W→pre.length<Maps.size D0→YieldAt F (n-1) Tryz.prog l #[gG x] W fun e W'=>e=.returned (.bool true)∧J (pre++[x]) W'∧KeepsWalks W W')
 (W:World) (hJ:AbidesFrom W.heap.size J) (hm:W.cell? ⟨Bm,off,none⟩=some (.map (some b))) (hown:W.ownsMap Tryz.prog 24 R b nn D0) (h0:J [] W):
 CallsIn F n Tryz.prog 196 #[.func (.yield l) #[] #[],.pointer (some ⟨Bm,off,none⟩)] W fun e W'=>(∃v,e=.returned v)∧∃ss:List Int,ss.Perm (o4 D0)∧J ss W':=by
 refine callsIn_of_wp Tryz.func196 rfl h10 ?_ hro
 simp only [Tryz.ntmps196,List.size_toArray,List.length_cons,List.length_nil,Nat.reduceAdd,Nat.reduceSub,Array.replicate_succ,Array.replicate_zero,List.push_toArray,List.append_toArray,List.nil_append,List.cons_append]
 gi_wp2_with (first
  |(gi_at_range;refine wpListIn_range_own _ rfl _ 192 rfl 24 3 (Maps.int_keyed Tryz.underlying24) Tryz.underlying192 _ b nn _ rfl hown ?_;intro w0 hrg0 hg0 hs0)
  |gi_in)
 go_frame
 gi_loopw [3] (fun _ wr=>∃(left:Lit→Bool) (cnt:Nat) (ss:List Int),wr.ranges Tryz.prog 24 R b W.heap.size nn D0 left cnt∧ss.length+cnt≤Maps.size D0∧fD D0 left ss∧J ss wr)
  (fun _ wr=>wr.rangeLeft b W.heap.size)
 case atStart=>
  exact ⟨_,_,[],hrg0,by simp,fD.start D0,hJ [] W w0 none h0 hg0 (fun r e=>by cases e)⟩
 case round=>
  obtain ⟨left,cnt,ss,hrg,hcs,hC,hJs⟩:=hrel
  gi_wp2_with (first
   |(gi_at_next;refine wpListIn_next_ranges _ rfl _ rfl 24 (Maps.int_keyed Tryz.underlying24) R gG id (fun key kl hk=>by obtain ⟨x,hx,_⟩:=oh Tryz.underlying24 hk;exact ⟨x,hx⟩) (fun v _ _=>⟨v,rfl⟩) b W.heap.size nn _ _ _ rfl hrg ?_ ?_)
   |gi_in)
  ·
   intro hc0 hl0
   gi_wp2
   go_end0
   exact ⟨⟨_,rfl⟩,ss,hC.perm hown (Maps.int_keyed Tryz.underlying24) Tryz.underlying24 hl0,hJs⟩
  ·
   intro x c kl yd yp w2 cnt2 hkey hlk hv hat hrg2 hlt hg2 hs2 hen
   obtain ⟨x',ex,rfl,_⟩:=oh Tryz.underlying24 hkey
   obtain rfl:x=x':=Bo ex
   have hJ2:J ss w2:=hJ ss wr w2 (some W.heap.size) hJs hg2 (fun r e=>by cases e;exact ⟨Nat.le_refl _,hrg.iter_walk⟩)
   obtain ⟨fn,tmps,assign,body,hy,hR⟩:=hY ss x w2 hJ2 (by omega)
   clear hs2
   gi_wp2
   refine hR.mono ?_
   rintro e W3 ⟨rfl,hJ3,hk3⟩
   gi_wp2
   have hrg3:=hrg2.of_walks hk3
   go_roundw
   case rel=>exact ⟨_,cnt2,ss++[x],hrg3,by simp;omega,hC.step hlk hat,hJ3⟩
   case measure=>rw [hrg3.left_eq,hrg.left_eq];exact hlt
theorem Ks.Ko {H:Type} (F:Fence) (n:Nat) (h10:F.fn 196) (hro:F.round=none) (hn:1≤n) (Bm off b nn:Nat) (D0:DataW H) {R:Value→Option (DataW H×List MemPlace)} (w:World) (hBm:Bm<w.heap.size)
 (hm:w.cell? ⟨Bm,off,none⟩=some (.map (some b))) (hown:w.ownsMap Tryz.prog 24 R b nn D0):
 SeqGives F n Tryz.prog 196 #[.pointer (some ⟨Bm,off,none⟩)] gG (fun ss=>ss.Perm (o4 D0)) (Maps.size D0) w:=fun l J W hW hJ hY h0=>by
 have hown':W.ownsMap Tryz.prog 24 R b nn D0:=by
  have hbl:=hown.lt
  obtain ⟨es,clock,hb,Ft,hs,hD⟩:=hown
  exact ⟨es,clock,(hW.block b hbl).trans hb,Ft,hs,hD⟩
 exact Ks.ND F n h10 hro hn l Bm off b nn D0 J hY W hJ ((hW.cell (p:=⟨Bm,off,none⟩) hBm).trans hm) hown' h0
def Ks.Bp:Code:=(Code.region 2 #[{dst:=some 5,op:=Op.assign (Operand.tmp 7),type:=24,pos:= "iter.go:51",after:=#[],guard:=none}] false)
def Ks.Kq:Code:=(Code.block 1 (Code.region 3 #[{dst:=some 8,op:=Op.load 48 (Operand.tmp 2),type:=48,pos:= "iter.go:52",after:=#[],guard:=none},{dst:=some 9,op:=Op.move (Operand.tmp 5),type:=24,pos:= "iter.go:52",after:=#[],guard:=none},{dst:=some 10,op:=Op.buildSlice 48 1 #[(0,Operand.tmp 9)],type:=48,pos:= "iter.go:52",after:=#[{on:=1,ground:=Ground.data}],guard:=none},{dst:=some 11,op:=Op.call {callee:=Callee.builtin Builtin.append,args:=#[Operand.tmp 8,Operand.tmp 10],argTypes:=#[48,48]},type:=48,pos:= "iter.go:52",after:=#[{on:=0,ground:=Ground.data},{on:=2,ground:=Ground.data}],guard:=none},{dst:=none,op:=Op.store 48 (Operand.tmp 2) (Operand.tmp 11),type:=0,pos:= "iter.go:52",after:=#[{on:=3,ground:=Ground.data},{on:=3,ground:=Ground.chain},{on:=0,ground:=Ground.phase},{on:=1,ground:=Ground.phase},{on:=2,ground:=Ground.phase},{on:=3,ground:=Ground.phase}],guard:=none}] false))
def Ks.qR (fn:FuncId) (sv:Value) (Bs D:Nat) (st:LoopState) (pend:Option Code):Loop:=
 {state:=st,pending:=pend,fn,tmps:=#[.slice none 0 0,sv,.pointer (some ⟨Bs,0,none⟩),undef,.slice none 0 0,undef,sv,undef,undef,undef,undef,undef,undef],params:=#[7],assign:=Ks.Bp,body:=Ks.Kq,defers:=D}
structure Ks.QJ (w0:World) (fn:FuncId) (sv:Value) (Bs l D:Nat) (ss:List Int) (W:World):Prop where
 box:∃v,W.heap[Bs]?=some (.cells #[v] 48 (0,0))∧W.ownsRow w0.heap.size 24 1 v ss.length (ss.map gG)∧(v=.slice none 0 0↔ss=[])
 L:W.heap[l]?=some (.loop (Ks.qR fn sv Bs D .ready none))
 K:W.heap[D]?=some (.deferred (some []))
 below:Below w0.heap.size w0 W
theorem Bq {W W':World} {row:Option Nat} {base:Nat} {e:TypeId} {size:Nat} {v:Value} {k:Nat} {xs:List Value} (h:W.ownsRow base e size v k xs) (hg:W.grownBy W' row)
 (hrow:∀r,row=some r→∃o:Obj,W.heap[r]?=some o∧o.isWalk=true):W'.ownsRow base e size v k xs:=by
 refine h.kept hg ?_
 rcases h.2 with ⟨rfl,_⟩|⟨g,cap,cur,rfl,_,hgb,_⟩
 ·exact .inl rfl
 refine .inr fun e'=>?_
 obtain ⟨o,ho,hw⟩:=hrow g (by simpa [Value.ownBlock] using e'.symm)
 rw [hgb] at ho;cases ho;cases hw
theorem Ks.NE (w0:World) (fn:FuncId) (sv:Value) (Bs l D B:Nat) (hB:w0.heap.size≤B):AbidesFrom B (Ks.QJ w0 fn sv Bs l D):=fun s W W' row h hg hrow=>by
 have hrow':∀r,row=some r→∃o:Obj,W.heap[r]?=some o∧o.isWalk=true:=fun r e=>(hrow r e).2
 obtain ⟨v,hv,hr,hn⟩:=h.box
 exact ⟨⟨v,(grownBy_keeps hg hrow' hv rfl).trans hv,Bq hr hg hrow',hn⟩,(grownBy_keeps hg hrow' h.L rfl).trans h.L,(grownBy_keeps hg hrow' h.K rfl).trans h.K,
  h.below.grown hg h.below.size (fun k e=>Nat.le_trans hB (hrow k e).1)⟩
theorem fW (W:World) (l:Nat) (o:Obj):W.grownBy (W.putObj l o) (some l):=
 ⟨rfl,rfl,rfl,by simp,fun k _ hk=>World.putObj_heap_other (fun e=>hk (by rw [e]))⟩
theorem wV (W:World) (b:Nat) (v:Value):W.grownBy (W.setCell ⟨b,0,none⟩ v) (some b):=
 ⟨rfl,rfl,rfl,(KeepsWalks.setCell W _ v).size,fun k _ hk=>Below.heap_setCell _ _ _ k (fun e=>hk (by rw [e]))⟩
theorem kx {W:World} {base:Nat} {e:TypeId} {size:Nat} {v:Value} {k:Nat} {xs:List Value} (h:W.ownsRow base e size v k xs) {j:Nat} {o:Obj} (hj:W.heap[j]?=some o) (hno:∀cur,o≠.cells cur e (0,0)):
 v.ownBlock=none∨v.ownBlock≠some j:=by
 rcases h.2 with ⟨rfl,_⟩|⟨g,cap,cur,rfl,_,hgb,_⟩
 ·exact .inl rfl
 refine .inr fun e'=>?_
 have:g=j:=by simpa [Value.ownBlock] using e'
 subst this;rw [hgb] at hj;cases hj;exact hno cur rfl
theorem qT {W:World} {B:Nat} {v:Value} {t:TypeId} (h:W.heap[B]?=some (.cells #[v] t (0,0))):W.cell? ⟨B,0,none⟩=some v∧W.frozen? ⟨B,0,none⟩=false:=by
 constructor<;>simp [World.cell?,World.frozen?,h]
theorem wW {W:World} {B:Nat} {v:Value} {t:TypeId} (v':Value) (h:W.heap[B]?=some (.cells #[v] t (0,0))):(W.setCell ⟨B,0,none⟩ v').heap[B]?=some (.cells #[v'] t (0,0)):=by
 obtain ⟨hlt,hk⟩:=Array.getElem?_eq_some_iff.1 h
 show (W.heap.modify B _)[B]?=_
 rw [Array.getElem?_eq_getElem (by rw [Array.size_modify];exact hlt),Array.getElem_modify_self,hk]
 rfl
theorem wX {W:World} {base:Nat} {e:TypeId} {size:Nat} {v:Value} {k:Nat} {xs:List Value} (h:W.ownsRow base e size v k xs):∀(j:Nat) (o:Obj),v.ownBlock=some j→W.heap[j]?=some o→o.isWalk=false:=by
 intro j o hj ho
 rcases h.2 with ⟨rfl,_⟩|⟨g,cap,cur,rfl,_,hgb,_⟩
 ·simp [Value.ownBlock] at hj
 have:g=j:=by simpa [Value.ownBlock] using hj
 subst this;rw [hgb] at ho;cases ho;rfl
theorem Ks.Yk:(Tryz.prog.info? 24).map (fun i=>(i.zero,i.size,i.bytes))=some (some (.int .u64 0),1,8):=by kernel_rfl
set_option maxRecDepth 100000 in
set_option maxHeartbeats 2000000 in
theorem Ks.Tn (F:Fence) (m:Nat) (w0:World) (fn:FuncId) (hfn:F.fn fn) (sv:Value) (Bs l D:Nat) (hBl:Bs≠l) (hDl:D≠l) (hDB:D≠Bs) (h0B:w0.heap.size≤Bs) (h0l:w0.heap.size≤l)
 (N:Nat) (hN:N≤maxLen) (hNb:N*8≤140737488355328) (ss:List Int) (x:Int) (W:World) (h:Ks.QJ w0 fn sv Bs l D ss W) (hlen:ss.length<N):
 YieldAt F m Tryz.prog l #[gG x] W fun e W'=>e=.returned (.bool true)∧Ks.QJ w0 fn sv Bs l D (ss++[x]) W'∧KeepsWalks W W':=by
 obtain ⟨i0,hi,hz0,hz1,hz2⟩:=info_parts Ks.Yk
 obtain ⟨v,hv,hrow,_⟩:=h.box
 refine ⟨fn,#[.slice none 0 0,sv,.pointer (some ⟨Bs,0,none⟩),undef,.slice none 0 0,undef,sv,gG x,undef,undef,undef,undef,undef],Ks.Bp,Ks.Kq,by simpa [Ks.qR] using run_yield (P:=Tryz.prog) (args:=#[gG x]) h.L rfl,roundIn_of_wpIn hfn ?_⟩
 have hl:l<W.heap.size:=(Array.getElem?_eq_some_iff.1 h.L).1
 have hbr:=run_beginRound (P:=Tryz.prog) h.L rfl
 obtain ⟨W2,hW2⟩:∃W2,W.putObj l (.loop {Ks.qR fn sv Bs D .ready none with state:=.busy})=W2:=⟨_,rfl⟩
 rw [hW2] at hbr
 have hg2:W.grownBy W2 (some l):=by rw [←hW2];exact fW _ _ _
 have hk2:KeepsWalks W W2:=by rw [←hW2];exact KeepsWalks.putObj _ h.L rfl
 have hv2:W2.heap[Bs]?=some (.cells #[v] 48 (0,0)):=by rw [←hW2];exact (World.putObj_heap_other hBl).trans hv
 have hK2:W2.heap[D]?=some (.deferred (some [])):=by rw [←hW2];exact (World.putObj_heap_other hDl).trans h.K
 have hL2:W2.heap[l]?=some (.loop {Ks.qR fn sv Bs D .ready none with state:=.busy}):=by rw [←hW2];exact World.putObj_heap_same hl
 have hrow2:W2.ownsRow w0.heap.size 24 1 v ss.length (ss.map gG):=hrow.kept hg2 (kx hrow h.L (fun cur e=>by cases e))
 have hb2:Below w0.heap.size w0 W2:=h.below.grown hg2 h.below.size (fun k e=>by cases e;exact h0l)
 obtain ⟨hc2,hf2⟩:=qT hv2
 have hBlt:Bs<W2.heap.size:=(Array.getElem?_eq_some_iff.1 hv2).1
 have hl2:l<W2.heap.size:=(Array.getElem?_eq_some_iff.1 hL2).1
 have hDlt:D<W2.heap.size:=(Array.getElem?_eq_some_iff.1 hK2).1
 have ne_of:∀{j:Nat} {o:Obj},W2.heap[j]?=some o→(∀cur,o≠.cells cur 24 (0,0))→some j≠v.ownBlock:=fun hj hno=>by
  rcases kx hrow2 hj hno with e|e
  ·rw [e];simp
  exact fun e'=>e e'.symm
 clear hW2
 unfold Ks.Bp
 gi_wp2_with (rw [Oper.semAt_eq _ _ _ (fun c h=>by cases h)];go_simp;try go_bits)
 unfold Ks.Kq
 gi_wp2_with (first
  |(
   gi_at_builtin;refine wpListIn_append_own _ rfl _ _ 48 rfl w0.heap.size 24 i0 (.int .u64 0) 1 8 Tryz.underlying48 hi hz0 hz1 hz2 rfl (by decide) _ _ _ rfl (hrow2.alloc _) ⟨W2.heap.size,0,none⟩ 1 1 [gG x] rfl rfl (cell_one_new _ _ _) (by simp [Value.oneCell',gG]) (by omega) (by omega) (by have:=hb2.size;simp;omega) ?_;intro v' w3 hown' hg3 hnil3
   have hv3:w3.heap[Bs]?=some (.cells #[v] 48 (0,0)):=(hg3.block Bs (by simp;omega) (ne_of hv2 (fun cur e=>by cases e))).trans ((Below.heap_alloc _ _ Bs hBlt).trans hv2)
   obtain ⟨hc3,hf3⟩:=qT hv3
   obtain ⟨g',cap',cur',rfl,hbase',hgb',hr1,hr2,hr3,hr4⟩:∃g' cap' cur',v'=.slice (some ⟨g',0,none⟩) (ss.length+1) cap'∧w0.heap.size≤g'∧w3.heap[g']?=some (.cells cur' 24 (0,0))∧ss.length+1≤cap'∧cap'≤maxLen∧cur'.size=cap'*1∧cur'.toList.take ((ss.length+1)*1)=ss.map gG++[gG x]:=by
    rcases hown'.2 with ⟨_,h0⟩|h'
    ·exact absurd h0 (by omega)
    exact h'
   go_frame)
  |(rw [Oper.semAt_eq _ _ _ (fun c h=>by cases h)];go_simp;try go_bits))
 have hg3':(W2.alloc (.cells #[gG x] 24)).grownBy w3 v.ownBlock:=hg3
 have hL3:w3.heap[l]?=some (.loop {Ks.qR fn sv Bs D .ready none with state:=.busy}):=(hg3'.block l (by simp;omega) (ne_of hL2 (fun cur e=>by cases e))).trans ((Below.heap_alloc _ _ l hl2).trans hL2)
 have hK3:w3.heap[D]?=some (.deferred (some [])):=(hg3'.block D (by simp;omega) (ne_of hK2 (fun cur e=>by cases e))).trans ((Below.heap_alloc _ _ D hDlt).trans hK2)
 obtain ⟨w4,hw4⟩:∃w4,w3.setCell ⟨Bs,0,none⟩ (.slice (some ⟨g',0,none⟩) (ss.length+1) cap')=w4:=⟨_,rfl⟩
 rw [hw4]
 have hg4:w3.grownBy w4 (some Bs):=by rw [←hw4];exact wV _ _ _
 have hv4:w4.heap[Bs]?=some (.cells #[.slice (some ⟨g',0,none⟩) (ss.length+1) cap'] 48 (0,0)):=by rw [←hw4];exact wW _ hv3
 have hL4:w4.heap[l]?=some (.loop {Ks.qR fn sv Bs D .ready none with state:=.busy}):=(hg4.block l (Array.getElem?_eq_some_iff.1 hL3).1 (fun e=>hBl (by cases e;rfl))).trans hL3
 have hK4:w4.heap[D]?=some (.deferred (some [])):=(hg4.block D (Array.getElem?_eq_some_iff.1 hK3).1 (fun e=>hDB (by cases e;rfl))).trans hK3
 have hrow4:=hown'.kept hg4 (kx hown' hv3 (fun cur e=>by cases e))
 have hl4:l<w4.heap.size:=(Array.getElem?_eq_some_iff.1 hL4).1
 have hb3:Below w0.heap.size w0 w3:=(hb2.alloc hb2.size _).grown hg3' (by have:=hb2.size;simp;omega) (fun k e=>(hrow2.lt k e).1)
 have hb4:Below w0.heap.size w0 w4:=hb3.grown hg4 hb3.size (fun k e=>by cases e;exact h0B)
 have hk4:KeepsWalks W w4:=((hk2.trans (KeepsWalks.alloc _ _)).trans (KeepsWalks.of_grownBy hg3' (wX (hrow2.alloc _)))).trans (by rw [←hw4];exact KeepsWalks.setCell _ _ _)
 clear hw4
 refine ⟨_,_,run_endRound none hL4,rfl,⟨⟨_,(World.putObj_heap_other hBl).trans hv4,?_,by simp⟩,World.putObj_heap_same hl4,(World.putObj_heap_other hDl).trans hK4,hb4.grown (fW _ _ _) hb4.size (fun k e=>by cases e;exact h0l)⟩,hk4.trans (KeepsWalks.putObj _ hL4 rfl)⟩
 have:=hrow4.kept (fW w4 l (.loop {{Ks.qR fn sv Bs D .ready none with state:=.busy} with state:=if (none:Option Code).isNone then .ready else .done,pending:=none})) (kx hrow4 hL4 (fun cur e=>by cases e))
 simpa using this
set_option maxRecDepth 100000 in
set_option maxHeartbeats 2000000 in
theorem Ks.E0 (F:Fence) (n:Nat) (h11:F.fn 218) (hro:F.round=none) (hn:2≤n) (g:Nat) (lb:Array Value) (hFg:F.fn g) (eg:∀args w,(callFunc g args).run Tryz.prog w=.ok (.enter g args) w)
 (S:List Int→Prop) (N:Nat) (hN:N≤maxLen) (hNb:N*8≤140737488355328) (w:World) (hseq:SeqGives F (n-1) Tryz.prog g lb gG S N w):
 CallsIn F n Tryz.prog 218 #[.slice none 0 0,.func (.func g) #[] lb] w fun e w'=>∃(v:Value) (ss:List Int),e=.returned v∧S ss∧w'.ownsRow w.heap.size 24 1 v ss.length (ss.map gG)∧(v=.slice none 0 0↔ss=[])∧Below w.heap.size w w':=by
 have h1:1≤n:=by omega
 refine callsIn_of_wp_marks Tryz.func218 rfl h11 ?_ hro
 simp only [Tryz.ntmps218,List.size_toArray,List.length_cons,List.length_nil,Nat.reduceAdd,Nat.reduceSub,Array.replicate_succ,Array.replicate_zero,List.push_toArray,List.append_toArray,List.nil_append,List.cons_append]
 gi_wp2
 refine wpIn_rangeFunc ?_
 intro fn hfn
 rw [hro]
 obtain ⟨W0,hW0⟩:∃W0,w.alloc (.cells #[.slice none 0 0] 48)=W0:=⟨_,rfl⟩
 have hs0:W0.heap.size=w.heap.size+1:=by rw [←hW0];simp
 have hv0:W0.heap[w.heap.size]?=some (.cells #[.slice none 0 0] 48 (0,0)):=by rw [←hW0];exact World.alloc_heap_new w _
 have hb0:Below w.heap.size w W0:=by rw [←hW0];exact (Below.refl _ w).alloc (Nat.le_refl _) _
 rw [hW0]
 obtain ⟨W1,hW1⟩:∃W1,(W0.alloc (.deferred (some []))).alloc (.loop (Ks.qR fn (.func (.func g) #[] lb) w.heap.size W0.heap.size .ready none))=W1:=⟨_,rfl⟩
 have hold:∀k,k<W0.heap.size→W1.heap[k]?=W0.heap[k]?:=fun k hk=>by
  rw [←hW1];exact (Below.heap_alloc _ _ k (by simp;omega)).trans (Below.heap_alloc _ _ k hk)
 have hb1:Below w.heap.size w W1:=by rw [←hW1];exact (hb0.alloc hb0.size _).alloc (by have:=hb0.size;simp;omega) _
 have hs1:W1.heap.size=W0.heap.size+2:=by rw [←hW1];simp
 have hM:Ks.QJ w fn (.func (.func g) #[] lb) w.heap.size (W0.heap.size+1) W0.heap.size [] W1:=
  ⟨⟨_,(hold w.heap.size (by omega)).trans hv0,⟨rfl,.inl ⟨rfl,rfl⟩⟩,by simp⟩,
   by rw [←hW1];have:=World.alloc_heap_new (W0.alloc (.deferred (some []))) (.loop (Ks.qR fn (.func (.func g) #[] lb) w.heap.size W0.heap.size .ready none));rwa [World.size_alloc] at this,
   by rw [←hW1];exact (Below.heap_alloc _ _ _ (by simp)).trans (World.alloc_heap_new W0 _),hb1⟩
 refine ⟨W0.heap.size+1,[{target:=.collected W0.heap.size,args:=#[]}],W1,{target:=.fn (.func g) lb,args:=#[.func (.yield (W0.heap.size+1)) #[] #[]]},W1,g,
  #[.func (.yield (W0.heap.size+1)) #[] #[]]++lb,W1,?_,?_,?_,?_,fun _=>h1,?_⟩
 ·rw [←hW1];exact run_enterLoop_outer _ _ _ _ _
 ·simp [resolve,go_sem]
 ·intro f' hf';simp [Target.leads] at hf';subst hf';exact hFg
 ·simp [invoke,go_sem,eg]
 refine (hseq (W0.heap.size+1) (Ks.QJ w fn (.func (.func g) #[] lb) w.heap.size (W0.heap.size+1) W0.heap.size) W1 hb1 (Ks.NE _ _ _ _ _ _ _ hb1.size)
  (fun pre x W hJ hl=>Ks.Tn F (n-1-1) w fn hfn _ w.heap.size (W0.heap.size+1) W0.heap.size (by omega) (by omega) (by omega) (Nat.le_refl _) (by omega) N hN hNb pre x W hJ hl) hM).mono ?_
 rintro e W2 ⟨⟨v0,rfl⟩,ss,hS,h2⟩
 obtain ⟨v,hv,hrow,hnil⟩:=h2.box
 have hend:=run_endLoop (P:=Tryz.prog) h2.L (by simp [Ks.qR])
 obtain ⟨W3,hW3⟩:∃W3,W2.putObj (W0.heap.size+1) (.loop {Ks.qR fn (.func (.func g) #[] lb) w.heap.size W0.heap.size .ready none with state:=.exhausted})=W3:=⟨_,rfl⟩
 rw [hW3] at hend
 have hg3:W2.grownBy W3 (some (W0.heap.size+1)):=by rw [←hW3];exact fW _ _ _
 have hv3:W3.heap[w.heap.size]?=some (.cells #[v] 48 (0,0)):=by rw [←hW3];exact (World.putObj_heap_other (by omega)).trans hv
 have hK3:W3.heap[W0.heap.size]?=some (.deferred (some [])):=by rw [←hW3];exact (World.putObj_heap_other (by omega)).trans h2.K
 have hrow3:=hrow.kept hg3 (kx hrow h2.L (fun cur e=>by cases e))
 have hb3:Below w.heap.size w W3:=h2.below.grown hg3 h2.below.size (fun k e=>by cases e;omega)
 obtain ⟨hc3,hf3⟩:=qT hv3
 clear hW3
 refine ⟨none,W3,hend,?_⟩
 gi_wp2
 rw [←hs0]
 refine ⟨by simp,.inl ⟨_,_,rfl,run_takeDeferred hK3,?_⟩⟩
 exact ⟨_,results_tmp rfl _ _ _,v,ss,rfl,hS,hrow3.kept (fW _ _ _) (kx hrow3 hK3 (fun cur e=>by cases e)),hnil,hb3.grown (fW _ _ _) hb3.size (fun k e=>by cases e;omega)⟩
set_option maxHeartbeats 1000000 in
theorem Ks.Ku (F:Fence) (n:Nat) (h8:F.fn 194) (h11:F.fn 218) (hro:F.round=none) (hn:3≤n) (g:Nat) (lb:Array Value) (hFg:F.fn g) (eg:∀args w,(callFunc g args).run Tryz.prog w=.ok (.enter g args) w)
 (S:List Int→Prop) (N:Nat) (hN:N≤maxLen) (hNb:N*8≤140737488355328) (w:World) (hseq:SeqGives F (n-1-1) Tryz.prog g lb gG S N w):
 CallsIn F n Tryz.prog 194 #[.func (.func g) #[] lb] w fun e w'=>∃(v:Value) (ss:List Int),e=.returned v∧S ss∧w'.ownsRow w.heap.size 24 1 v ss.length (ss.map gG)∧(v=.slice none 0 0↔ss=[])∧Below w.heap.size w w':=by
 have h1:1≤n:=by omega
 refine callsIn_of_wp Tryz.func194 rfl h8 ?_ hro
 simp only [Tryz.ntmps194,List.size_toArray,List.length_cons,List.length_nil,Nat.reduceAdd,Nat.reduceSub,Array.replicate_succ,Array.replicate_zero,List.push_toArray,List.append_toArray,List.nil_append,List.cons_append]
 gi_wp2_with (gi_at_call 218;refine (Ks.E0 F (n-1) h11 hro (by omega) g lb hFg eg S N hN hNb _ hseq).mono ?_;rintro e w' ⟨v,ss,rfl,hS,hrow,hnil,hb⟩)
 go_ret
 exact ⟨v,ss,rfl,hS,hrow,hnil,hb⟩
end Go.Proofs
end
section
open Go
namespace Dem
section
variable {α:Type} [Inhabited α] {lt:α→α→Bool} {cells:α→List D}
theorem sL (a b i:Nat) (d:Array α) (h:i<b):Sort.insOuter lt a b i d=Sort.insOuter lt a b (i+1) (Sort.insInner lt a i d):=by rw [Sort.insOuter,if_pos h]
theorem vK (a b i:Nat) (d:Array α) (h:b≤i):Sort.insOuter lt a b i d=d:=by rw [Sort.insOuter,if_neg (by omega)]
theorem swp_size (q:Array α) (i j:Nat):(Sort.swp q i j).size=q.size:=by simp [Sort.swp]
theorem yy {a j:Nat} {q:Array α} (h:a<j) (hl:lt q[j]! q[j-1]! =true):Sort.insInner lt a j q=Sort.insInner lt a (j-1) (Sort.swp q j (j-1)):=by
 cases j with
 |zero=>omega
 |succ j=>rw [Sort.insInner,if_pos (by simpa using ⟨h,hl⟩)];simp
theorem sM {a j:Nat} {q:Array α} (h:a<j→lt q[j]! q[j-1]! =false):Sort.insInner lt a j q=q:=by
 cases j with
 |zero=>rfl
 |succ j=>rw [Sort.insInner,if_neg (by simp;intro g;simpa using h (by omega))]
theorem E1 {q:Array α} {u:List (List D)} (hu:u=q.toList.map cells) {j:Nat} (h:j<q.size):u.getD j []=cells q[j]!:=by
 subst hu;simp [List.getD,h]
theorem zm {q:Array α} {u:List (List D)} (hu:u=q.toList.map cells) (cT:α→List D) (hT:∀x,cells x=cT x) (j:Nat) {g:Bool} {c:Prop} {ds:List D} {K:List D→Prop} (h:g=true→j<q.size∧u.getD j []=ds∧(j<u.length→c)) (hK:∀x,x=q[j]!→K (cT x)):Ar g c ds K:=by
 refine U7 _ (fun hg=>?_) (hK _ rfl)
 obtain ⟨h1,h2,h3⟩:=h hg
 exact ⟨h3 (by rw [hu];simpa using h1),by rw [←h2,E1 hu h1,hT]⟩
theorem Br:∀{r s:List D},r.length=s.length→be r 0 s=s
 |[],[],_=>rfl
 |x::r,y::s,h=>by rw [be,Br (by simpa using h)]
theorem Kv {q:Array α} {u:List (List D)} (hu:u=q.toList.map cells) {n:Nat} (hn:∀x,(cells x).length=n) {i:Nat} (h:i<q.size) (y:α):u.set i (be (u.getD i []) 0 (cells y))=(q.setIfInBounds i y).toList.map cells:=by
 rw [E1 hu h,Br (by rw [hn,hn])];subst hu;simp [List.map_set]
theorem QL {q:Array α} {u:List (List D)} (hu:u=q.toList.map cells) {n:Nat} (hn:∀x,(cells x).length=n) {i:Nat} (h:i<q.size) {s:List D} (hs:s.length=n):i<u.length∧0+s.length≤(u.getD i []).length:=by
 refine ⟨by rw [hu];simpa using h,?_⟩
 rw [E1 hu h,hn];omega
theorem QM {q:Array α} {u:List (List D)} (hu:u=q.toList.map cells) {n:Nat} (hn:∀x,(cells x).length=n) {i j:Nat} (hi:i<q.size) (hj:j<q.size) {y z:α} (hy:y=q[i]!) (hz:z=q[j]!):
 (u.set i (be (u.getD i []) 0 (cells z))).set j (be ((u.set i (be (u.getD i []) 0 (cells z))).getD j []) 0 (cells y))=(Sort.swp q i j).toList.map cells:=by
 rw [Kv hu hn hi z,Kv rfl hn (by simpa using hj) y,hy,hz];rfl
end
end Dem
end
section
open Go Dem Go.Proofs
namespace Dem
variable {t:Th}
def c5 (x:Int):List D:=[.int .u64 x]
def Tq (_:Th) (x:Int):List D:=[.int .u64 x]
def yz (x y:Int):Bool:=decide (x<y)
theorem Tr (ht:TT t) (x y:Int):FC 240 [aC x,aC y] [] (.ret (dh (t _ fun _=>yz x y))) []:=by
 refine bP ht (aQ:=[]) Tryz.func240 rfl rfl (N:=17) rfl rfl (n:=0) rfl rfl ?_
 cbv
 refine bc trv (ER ht _) trv rfl rfl (fun r0 dj=>?_)
 simp only [ht] at dj
 cbv
 refine gI (by simp [ht,aj]) ?_
 refine eY (fun g1=>⟨by simp [ht] at g1 ⊢;exact g1,trv,ER ht _⟩) rfl rfl (fun r2 iJ=>?_)
 simp only [ht] at iJ
 cbv
 refine gI (by simp [ht,aj]) ?_
 refine pI (by simp [ht,aj]) ?_
 iterate 3 refine gI (by simp [ht,aj]) ?_
 refine pI (by simp [ht,aj];intros;simp_all) ?_
 refine az trv trv rfl rfl rfl ?_
 (simp [ht,dh,yz, *];done)
theorem E2 {q:Array Int} {u:List (List D)} (hu:u=q.toList.map c5) {j:Nat} (h:j<q.size):u.getD j []=[.int .u64 q[j]!]:=by
 subst hu;simp [List.getD,h,c5]
theorem Ts {q:Array Int} {u:List (List D)} (hu:u=q.toList.map c5) (j:Nat) {g:Bool} {c:Prop} {ds:List D} {K:List D→Prop} (h:g=true→j<q.size∧u.getD j []=ds∧(j<u.length→c)) (hK:∀x,x=q[j]!→K [.int .u64 x]):Ar g c ds K:=by
 refine U7 _ (fun hg=>?_) (hK _ rfl)
 obtain ⟨h1,h2,h3⟩:=h hg
 exact ⟨h3 (by rw [hu];simpa using h1),by rw [←h2,E2 hu h1]⟩
theorem Kw {q:Array Int} {u:List (List D)} (hu:u=q.toList.map c5) {i:Nat} (h:i<q.size) (y:Int):u.set i (be (u.getD i []) 0 [.int .u64 y])=(q.setIfInBounds i y).toList.map c5:=by
 rw [E2 hu h];subst hu;simp [be,List.map_set,c5]
theorem QN {q:Array Int} {u:List (List D)} (hu:u=q.toList.map c5) {i:Nat} (h:i<q.size) (x:D):i<u.length∧0+[x].length≤(u.getD i []).length:=by
 refine ⟨by rw [hu];simpa using h,?_⟩
 rw [E2 hu h];exact Nat.le_refl _
theorem VS (ht:TT t) (a b n:Nat) (d:Array Int) {es:List (List D)} {ai bi:Int} (ha:ai=a) (xu:bi=b) (aE:es=d.toList.map c5) (hn:n=d.size) (hb:b≤n) (hl:n<1000000000) (RA:a<1000000000):
 FC 234 [.ow 0 1 n,bG ai,bG bi] [.row 1 es] (.ret (.eA [])) [.row 1 (t _ fun _=>(Sort.insertionSort yz d a b).toList.map c5)]:=by
 refine bP ht (aQ:=[.row 1 es]) Tryz.func234 rfl rfl (N:=49) rfl rfl (n:=1) rfl rfl ?_
 cbv
 obtain ⟨J0,fI⟩:∃J0:Nat→Int×List (List D)→Prop,∀m i u,J0 m (i,u)↔(∃(k:Nat) (r:Array Int),i=k∧b≤k+m∧a+1≤k∧k≤1000000000∧r.size=n∧u=r.toList.map c5∧Sort.insertionSort yz d a b=Sort.insOuter yz a b k r):=⟨fun m v=>match v with|(i,u)=>(∃(k:Nat) (r:Array Int),i=k∧b≤k+m∧a+1≤k∧k≤1000000000∧r.size=n∧u=r.toList.map c5∧Sort.insertionSort yz d a b=Sort.insOuter yz a b k r),fun _ _ _=>Iff.rfl⟩
 refine bH ⟨[0,1,2,6],[],[]⟩ (σ:=Int×List (List D)) (fun v=>[(6,.d (.int .i64 (t _ fun _=>v.1)))]) (fun v=>[(0,.row 1 (t _ fun _=>v.2))]) J0 ?_
 cbv
 refine aH ⟨b,(_,_),(fI _ _ _).2 ?_,by simp only [ht];rfl,?_⟩
 ·exact ⟨a+1,d,by rw [ha];exact aG (by ((try simp only [ah] at*);omega)),by ((try simp only [ah] at*);omega),by ((try simp only [ah] at*);omega),by ((try simp only [ah] at*);omega),hn.symm,aE,rfl⟩
 rintro m ⟨i,u⟩ hj
 replace hj:=(fI _ _ _).1 hj
 obtain ⟨k,r,rfl,j1,j2,j3,j5,j6,j4⟩:=hj
 cbv
 refine av (fun h1=>?_) (fun h1=>?_)
 ·simp [ht,ah] at h1
  cbv
  obtain ⟨J2,ue⟩:∃J2:Nat→Int×List (List D)→Prop,∀m2 jj u,J2 m2 (jj,u)↔(∃(j:Nat) (q:Array Int),jj=j∧j≤m2∧j≤k∧q.size=n∧u=q.toList.map c5∧Sort.insertionSort yz d a b=Sort.insOuter yz a b (k+1) (Sort.insInner yz a j q)):=⟨fun m2 v=>match v with|(jj,u)=>(∃(j:Nat) (q:Array Int),jj=j∧j≤m2∧j≤k∧q.size=n∧u=q.toList.map c5∧Sort.insertionSort yz d a b=Sort.insOuter yz a b (k+1) (Sort.insInner yz a j q)),fun _ _ _=>Iff.rfl⟩
  refine bH ⟨[0,1,2,6,7],[],[]⟩ (σ:=Int×List (List D)) (fun v=>[(7,.d (.int .i64 (t _ fun _=>v.1)))]) (fun v=>[(0,.row 1 (t _ fun _=>v.2))]) J2 ?_
  cbv
  refine aH ⟨k,(_,_),(ue _ _ _).2 ?_,rfl,?_⟩
  ·exact ⟨k,r,rfl,by ((try simp only [ah] at*);omega),by ((try simp only [ah] at*);omega),j5,j6,by rw [j4,sL];((try simp only [ah] at*);omega)⟩
  rintro m2 ⟨jj,u⟩ hj
  replace hj:=(ue _ _ _).1 hj
  obtain ⟨j,q,rfl,q1,q2,q5,q6,q4⟩:=hj
  cbv
  refine dO [false,false,true,true,false,false,false,false,false,false,false,false,false,true,true] (by kernel_rfl) (by kernel_rfl) ?_
  cbv
  iterate 4 refine gI (by simp [ht,aj]) ?_
  refine gI (by simp [ht,aj,bS,ah,yz];grind) ?_
  (refine Ts q6 j (fun g=>(by simp [ht,ah] at g ⊢;exact ⟨by ((try simp only [ah] at*);omega),fun h=>(by exact ⟨g,h⟩)⟩)) (fun y ey=>?_))
  cbv
  iterate 3 refine gI (by simp [ht,aj]) ?_
  refine gI (by (simp [ht,ah];intro g;rw [wrap64 (by ((try simp only [ah] at*);omega)) (by ((try simp only [ah] at*);omega))];((try simp only [ah] at*);omega))) ?_
  (refine Ts q6 (j-1) (fun g=>(by simp only [ht,decide_eq_true_eq,ah] at g ⊢;rw [wrap64 (by ((try simp only [ah] at*);omega)) (by ((try simp only [ah] at*);omega)),show ((j:Int)-1).toNat=j-1 by ((try simp only [ah] at*);omega)];exact ⟨by ((try simp only [ah] at*);omega),rfl,fun h=>(by exact ⟨g,h⟩)⟩)) (fun z ez=>?_))
  cbv
  refine eY (fun g3=>⟨by simp [ht] at g3 ⊢;exact g3,trv,Tr ht _ _⟩) rfl rfl (fun r4 k9=>?_)
  simp only [ht] at k9
  cbv
  refine pI (by simp [ht,aj]) ?_
  refine av (fun h5=>?_) (fun h5=>?_)
  ·simp [ht,ah] at h5
   cbv
   refine Gt [0,1,2,3,4,5,6,7,10,11] [false,false,false,false,false,false,false,false,false,false,false,false,false,false,true,true,true,true] (by kernel_rfl) (by kernel_rfl) (by kernel_rfl) (by kernel_rfl) (by kernel_rfl) ?_
   cbv
   iterate 8 refine gI (by simp [ht,aj]) ?_
   refine gI (by (simp [ht,ah];rw [wrap64 (by ((try simp only [ah] at*);omega)) (by ((try simp only [ah] at*);omega))];((try simp only [ah] at*);omega))) ?_
   (refine Ts q6 (j-1) (fun g=>(by simp only [ht,ah];rw [wrap64 (by ((try simp only [ah] at*);omega)) (by ((try simp only [ah] at*);omega)),show ((j:Int)-1).toNat=j-1 by ((try simp only [ah] at*);omega)];exact ⟨by ((try simp only [ah] at*);omega),rfl,fun h=>h⟩)) (fun z2 ez2=>?_))
   cbv
   iterate 2 refine gI (by simp [ht,aj]) ?_
   refine gI (by simp [ht,aj,bS,ah,yz];grind) ?_
   (refine Ts q6 j (fun g=>(by simp only [ht,ah,Int.toNat_natCast];exact ⟨by ((try simp only [ah] at*);omega),trv,fun h=>h⟩)) (fun y2 ey2=>?_))
   cbv
   refine ⟨?_,?_⟩
   ·(simp only [ht,ah] at*;omega)
   refine ⟨?_,?_⟩
   ·(simp only [ht,ah,Int.toNat_natCast];exact QN q6 (by ((try simp only [ah] at*);omega)) _)
   refine ⟨?_,?_⟩
   ·(simp only [ht,ah];rw [wrap64 (by ((try simp only [ah] at*);omega)) (by ((try simp only [ah] at*);omega))];((try simp only [ah] at*);omega))
   refine ⟨?_,?_⟩
   ·(simp only [ht,ah,Int.toNat_natCast];rw [wrap64 (by ((try simp only [ah] at*);omega)) (by ((try simp only [ah] at*);omega)),show ((j:Int)-1).toNat=j-1 by ((try simp only [ah] at*);omega),Kw q6 (by ((try simp only [ah] at*);omega))];exact QN rfl (by simp;((try simp only [ah] at*);omega)) _)
   cbv
   refine cz (_,_) (by simp only [ht];rfl) (m2-1) ?_ ((ue _ _ _).2 ?_)
   ·((try simp only [ah] at*);omega)
   simp only [ht,ah]
   exact ⟨j-1,Sort.swp q j (j-1),Ek (by ((try simp only [ah] at*);omega)) (by ((try simp only [ah] at*);omega)),by ((try simp only [ah] at*);omega),by ((try simp only [ah] at*);omega),by rw [swp_size];exact q5,by rw [wrap64 (by ((try simp only [ah] at*);omega)) (by ((try simp only [ah] at*);omega)),show ((j:Int)-1).toNat=j-1 by ((try simp only [ah] at*);omega),Int.toNat_natCast,Kw q6 (by ((try simp only [ah] at*);omega)),Kw rfl (by simp;((try simp only [ah] at*);omega)),ez2,ey2];rfl,by rw [q4,yy (by ((try simp only [ah] at*);omega)) (by rw [←ey,←ez,←k9];exact h5.2)]⟩
  simp [ht,ah] at h5
  cbv
  refine cz (_,_) (by simp only [ht];rfl) (m-1) ?_ ((fI _ _ _).2 ?_)
  ·((try simp only [ah] at*);omega)
  simp only [ht,ah]
  exact ⟨k+1,q,aG (by ((try simp only [ah] at*);omega)),by ((try simp only [ah] at*);omega),by ((try simp only [ah] at*);omega),by ((try simp only [ah] at*);omega),q5,q6,by rw [q4,sM (fun g=>by rw [←ey,←ez,←k9];exact h5 (by ((try simp only [ah] at*);omega)))]⟩
 simp [ht,ah] at h1
 cbv
 refine az trv trv rfl ?_ rfl rfl
 (simp only [ht];rw [j4,vK _ _ _ _ (by ((try simp only [ah] at*);omega)),←j6];rfl)
def VT:List UInt8:=0::1::List.replicate 2 2++List.replicate 4 3++List.replicate 8 4++List.replicate 16 5++List.replicate 32 6++List.replicate 64 7++List.replicate 128 8
def VU (x:Int):Int:=(VT.getD x.toNat 0).toNat
theorem VV {x:Int} (h0:0≤x) (h1:x<256):IntKind.u8.wrap x=x:=by
 simp only [IntKind.wrap];simp [IntKind.bits,IntKind.signed];omega
theorem QO (b:UInt8):IntKind.i64.wrap (0+IntKind.i64.wrap (b.toNat:Int))=b.toNat:=by
 have:=b.toNat_lt
 rw [wrap64 (x:=(b.toNat:Int)) (by omega) (by omega),Int.zero_add,wrap64 (by omega) (by omega)]
theorem QR (ht:TT t) (x:Int) (hx0:0≤x) (hx:x<256):FC 244 [aC x] [] (.ret (gF (t _ fun _=>VU x))) []:=by
 have hw:=VV hx0 hx
 refine bP ht (aQ:=[]) Tryz.func244 rfl rfl (N:=25) rfl rfl (n:=0) rfl rfl ?_
 cbv
 refine av (fun h0=>?_) (fun h0=>?_)
 ·simp [ht,ah] at h0
  omega
 simp [ht,ah] at h0
 cbv
 refine av (fun h1=>?_) (fun h1=>?_)
 ·simp [ht,ah] at h1
  omega
 simp [ht,ah] at h1
 cbv
 refine av (fun h2=>?_) (fun h2=>?_)
 ·simp [ht,ah] at h2
  omega
 simp [ht,ah] at h2
 cbv
 refine ⟨?_,?_⟩
 ·(simp only [ht,hw];exact ⟨hx0,by simpa using hx⟩)
 cbv
 refine az trv trv rfl rfl rfl ?_
 (simp only [ht,hw,QO,gF,VU];rfl)
theorem VW (ht:TT t) (x:Int) (hx0:0≤x) (hx:x<256):FC 220 [aC x] [] (.ret (gF (t _ fun _=>VU x))) []:=by
 refine bP ht (aQ:=[]) Tryz.func220 rfl rfl (N:=8) rfl rfl (n:=0) rfl rfl ?_
 cbv
 refine av (fun h0=>?_) (fun h0=>?_)
 ·simp [ht,ah] at h0
 simp [ht,ah] at h0
 cbv
 refine bc trv (QR ht _ ‹_› ‹_›) trv rfl rfl (fun r1 cF=>?_)
 simp only [ht] at cF
 cbv
 refine az trv trv rfl rfl rfl ?_
 (simp [ht,gF, *];done)
theorem VX (ht:TT t) (n:Nat) (eZ:Int) (d:Array Int) {es:List (List D)} {ni:Int} (hni:ni=n) (aE:es=d.toList.map c5) (hn:n=d.size) (hl:n≤12):
 FC 219 [.ow 0 1 n,bG 0,bG ni,bG eZ] [.row 1 es] (.ret (.eA [])) [.row 1 (t _ fun _=>(Sort.insertionSort yz d 0 n).toList.map c5)]:=by
 have hw:IntKind.i64.wrap ni=ni:=wrap64 (by omega) (by omega)
 refine bP ht (aQ:=[.row 1 es]) Tryz.func219 rfl rfl (N:=134) rfl rfl (n:=1) rfl rfl ?_
 cbv
 obtain ⟨J0,fI⟩:∃J0:Nat→Int×Int×Int×Bool×Bool→Prop,∀m a b c f g,J0 m (a,b,c,f,g)↔(a=0∧b=ni):=⟨fun m v=>match v with|(a,b,c,f,g)=>(a=0∧b=ni),fun _ _ _ _ _ _=>Iff.rfl⟩
 refine bH ⟨[0,1,2,3,8,9],[],[]⟩ (σ:=Int×Int×Int×Bool×Bool) (fun v=>[(1,.d (.int .i64 (t _ fun _=>v.1))),(2,.d (.int .i64 (t _ fun _=>v.2.1))),(3,.d (.int .i64 (t _ fun _=>v.2.2.1))),(8,.d (.bool (t _ fun _=>v.2.2.2.1))),(9,.d (.bool (t _ fun _=>v.2.2.2.2)))]) (fun v=>[]) J0 ?_
 cbv
 refine aH ⟨1,(_,_,_,_,_),(fI _ _ _ _ _ _).2 ?_,by simp only [ht];rfl,?_⟩
 ·exact ⟨rfl,rfl⟩
 rintro m ⟨a,b,c,f,g⟩ hj
 replace hj:=(fI _ _ _ _ _ _).1 hj
 obtain ⟨OK,pX⟩:=hj
 have Wv:IntKind.i64.wrap (b-a)=ni:=by rw [OK,pX,Int.sub_zero,hw]
 cbv
 refine av (fun h1=>?_) (fun h1=>?_)
 ·simp [ht,ah,hw] at h1
  cbv
  refine dP [0] trv rfl rfl (VS ht 0 n n d (by simp only [ht];((try simp only [ah] at*);omega)) (by simp only [ht];((try simp only [ah] at*);omega)) aE hn (Nat.le_refl _) (by ((try simp only [ah] at*);omega)) (by ((try simp only [ah] at*);omega))) (cK ?_)
  cbv
  refine az trv trv rfl rfl rfl ?_
  rfl
 simp [ht,ah,hw] at h1
 (simp only [ah] at*;omega)
theorem Tt (ht:TT t) (n:Nat) (d:Array Int) {es:List (List D)} (aE:es=d.toList.map c5) (hn:n=d.size) (hl:n≤12):
 FC 195 [.ow 0 1 n] [.row 1 es] (.ret (.eA [])) [.row 1 (t _ fun _=>(Sort.insertionSort yz d 0 n).toList.map c5)]:=by
 have hw:IntKind.u64.wrap (n:Int)=n:=by simp only [IntKind.wrap];simp [IntKind.bits,IntKind.signed];omega
 have hel:(es.length:Int)=n:=by rw [aE,hn];simp
 refine bP ht (aQ:=[.row 1 es]) Tryz.func195 rfl rfl (N:=11) rfl rfl (n:=1) rfl rfl ?_
 cbv
 refine ⟨?_,?_⟩
 ·(simp only [ht,ah] at*;omega)
 cbv
 refine bc trv (VW ht _ (by simp only [ht];simp only [ah] at*;rw [hel,hw];omega) (by simp only [ht];simp only [ah] at*;rw [hel,hw];omega)) trv rfl rfl (fun r1 cF=>?_)
 cbv
 refine dP [0] trv rfl rfl (VX ht n _ d (by simp only [ht];exact hel) aE hn hl) (cK ?_)
 cbv
 refine az trv trv rfl rfl rfl ?_
 rfl
end Dem
end
section
namespace Dem
open Go Go.Proofs Go.RowKit Go.Maps Go.Sort Go.Shelf
variable {t:Th}
theorem Tu:SWO yz:=by
 refine ⟨?_,?_,?_⟩<;>simp only [yz]<;>simp<;>omega
theorem NG (ss:List Int):(Sort.insertionSort yz ss.toArray 0 ss.length).toList=n6 ss:=by
 obtain ⟨⟨h0,h1,h2⟩,h3⟩:=insertionSort_holds (lt:=yz) Tu ss.toArray 0 ss.length (Nat.zero_le _) (by simp)
 refine AH ?_ (rS ss) ?_
 ·rw [List.pairwise_iff_getElem]
  intro i j hi hj hij
  have hs:(Sort.insertionSort yz ss.toArray 0 ss.length).size=ss.length:=by rw [h0];simp
  simp only [Array.length_toList] at hi hj
  have:=h3 i j (Nat.zero_le _) hij (by omega)
  rw [getElem!_pos _ j hj,getElem!_pos _ i hi] at this
  simp only [Array.getElem_toList]
  simp [yz] at this
  exact this
 refine List.Perm.trans ?_ (kw ss).symm
 have hs:(Sort.insertionSort yz ss.toArray 0 ss.length).size=ss.length:=by rw [h0];simp
 have e1:(Sort.insertionSort yz ss.toArray 0 ss.length).extract 0 ss.length=Sort.insertionSort yz ss.toArray 0 ss.length:=by
  apply Array.extract_eq_self_of_le;omega
 have e2:ss.toArray.extract 0 ss.length=ss.toArray:=by apply Array.extract_eq_self_of_le;simp
 rw [e1,e2] at h2
 simpa using h2
end Dem
end
section
namespace Go.Proofs
open Go Go.RowKit Go.Maps Go.Sort Go.Shelf
open Dem (gG o4 oh yx)
theorem Ks.NH (F:Fence) (n:Nat) (h6:F.fn 151) (h8:F.fn 194) (h9:F.fn 195) (h11:F.fn 218) (hro:F.round=none) (hn:4≤n) (g:Nat) (lb:Array Value) (hFg:F.fn g) (eg:∀args w,(callFunc g args).run Tryz.prog w=.ok (.enter g args) w)
 (S:List Int→Prop) (N:Nat) (hN:N≤maxLen) (hNb:N*8≤140737488355328) (w:World) (hseq:SeqGives F (n-1-1-1) Tryz.prog g lb gG S N w)
 (Post:Value→List Int→World→Prop)
 (hsort:∀(v:Value) (ss:List Int) (W:World),S ss→W.ownsRow w.heap.size 24 1 v ss.length (ss.map gG)→(v=.slice none 0 0↔ss=[])→Below w.heap.size w W→CallsIn F (n-1) Tryz.prog 195 #[v] W fun e w'=>e=.returned (.tuple #[])∧Post v ss w'):
 CallsIn F n Tryz.prog 151 #[.func (.func g) #[] lb] w fun e w'=>∃(v:Value) (ss:List Int),e=.returned v∧S ss∧Post v ss w':=by
 have h1:1≤n:=by omega
 refine callsIn_of_wp Tryz.func151 rfl h6 ?_ hro
 simp only [Tryz.ntmps151,List.size_toArray,List.length_cons,List.length_nil,Nat.reduceAdd,Nat.reduceSub,Array.replicate_succ,Array.replicate_zero,List.push_toArray,List.append_toArray,List.nil_append,List.cons_append]
 gi_wp2_with (gi_at_call 194;refine (Ks.Ku F (n-1) h8 h11 hro (by omega) g lb hFg eg S N hN hNb _ hseq).mono ?_;rintro e W ⟨v,ss,rfl,hS,hrow,hnil,hb⟩)
 have cS:=hsort v ss W hS hrow hnil hb
 gi_wp2_with (gi_at_call 195;refine cS.mono ?_;rintro e w' ⟨rfl,hp⟩)
 go_ret
 exact ⟨v,ss,rfl,hS,hp⟩
end Go.Proofs
namespace Dem
open Go Go.Proofs Go.RowKit Go.Maps Go.Sort Go.Shelf
variable {t:Th}
theorem Dx {w:World} {ok:Nat→Prop}:∀(l:List iv) (ms:List MapEntry),bt w ok false (l.map iv.cells) ms→ms.map (·.key)=l.map (fun m=>gG m.bI)
 |[],ms,h=>by simp only [List.map_nil,bt] at h;subst h;rfl
 |m::l,ms,h=>by
  simp only [List.map_cons,bt] at h
  obtain ⟨e,r,rfl,h1,h2⟩:=h
  simp only [iv.cells,ia,aL] at h1
  rw [List.map_cons,List.map_cons,Dx l r h2,h1.1]
def Tv {H:Type} (_:Value):Option (DataW H×List MemPlace):=some (.nil,[])
theorem QS {x:Int} (h0:0≤x) (h1:x<18446744073709551616):keyOf Tryz.prog 24 (gG x)=some (.int .u64 x):=by
 simp only [keyOf,Tryz.underlying24,mapKey,gG]
 rw [if_pos (by simp [Lit.wf,IntKind.min,IntKind.max,IntKind.signed,IntKind.bits];omega)]
theorem NI {w:World} {ok:Nat→Prop} {l:List iv} {ms:Array MapEntry} {clock b:Nat} (hh:w.heap[b]?=some (.map ms clock)) (hs:lZ ms clock) (hr:bt w ok false (l.map iv.cells) ms.toList)
 (hnd:(l.map iv.bI).Nodup) (hw:∀m∈l,0≤m.bI∧m.bI<18446744073709551616) (hlen:l.length≤1000000):
 ∃D0:DataW Unit,w.ownsMap Tryz.prog 24 Tv b ms.size D0∧(o4 D0).Perm (l.map iv.bI)∧Maps.size D0=l.length:=by
 have hk:=Dx l ms.toList hr
 have hl:ms.size=l.length:=by have:=congrArg List.length hk;simpa using this
 have hrd:∀x∈ms.toList,∃m∈l,x.key=gG m.bI:=by
  intro x hx
  have:x.key∈ms.toList.map (·.key):=List.mem_map.2 ⟨x,hx,rfl⟩
  rw [hk] at this
  obtain ⟨m,hm,e⟩:=List.mem_map.1 this
  exact ⟨m,hm,e.symm⟩
 have hread:∀x∈ms.toList,∃m∈l,x.key=gG m.bI∧WideElems.rd Tryz.prog 24 (Tv (H:=Unit)) x=some (.int .u64 m.bI,.nil):=by
  intro x hx
  obtain ⟨m,hm,e⟩:=hrd x hx
  refine ⟨m,hm,e,?_⟩
  unfold WideElems.rd
  rw [e,QS (hw m hm).1 (hw m hm).2]
  rfl
 refine ⟨_,⟨ms,clock,hh,⟨?_,⟨?_,hs.2,?_⟩,?_⟩,Nat.le_refl _,rfl⟩,?_,?_⟩
 ·rw [hl];exact Nat.le_trans hlen (by decide)
 ·intro x hx
  have:=hs.1
  rw [Array.all_eq_true_iff_forall_mem] at this
  simpa using this x (by simpa using hx)
 ·rw [hk]
  have:(l.map (fun m=>gG m.bI))=(l.map iv.bI).map gG:=by simp
  rw [this]
  exact List.pairwise_map.2 (hnd.imp (fun h e=>h (Bo e)))
 ·intro x hx
  obtain ⟨m,hm,e,h⟩:=hread x hx
  exact ⟨_,h⟩
 ·show (List.map (fun p=>yx p.1) ((ms.toList.map (WideElems.rg Tryz.prog 24 Tv)).foldr DataW.insert [])).Perm _
  refine ((WideShapes.sorted_perm _).map _).trans ?_
  have e1:(ms.toList.map (WideElems.rg Tryz.prog 24 (Tv (H:=Unit)))).map (fun p=>yx p.1)=ms.toList.map (fun x=>match x.key with|.int _ a=>a|_=>0):=by
   rw [List.map_map]
   refine List.map_congr_left fun x hx=>?_
   obtain ⟨m,hm,e,h⟩:=hread x hx
   simp only [Function.comp,WideElems.rg,h,e,gG]
   rfl
  have e2:ms.toList.map (fun x=>match x.key with|.int _ a=>a|_=>0)=(ms.toList.map (·.key)).map (fun k=>match k with|.int _ a=>a|_=>0):=by rw [List.map_map];rfl
  rw [e1,e2,hk,List.map_map]
  exact List.Perm.refl _
 rw [Maps.size_eq,Go.length_sorted,lgM,Array.length_toList,hl]
end Dem
end
section
open Go Dem Go.Proofs
namespace Dem
variable {t:Th}
theorem Tw (ht:TT t) (es:List (List D)):FC 152 [.d (.mp false es)] [] (.ret (.fn 196 [.ptr 0 0])) [.var [.d (.mp false es)]]:=by
 refine bP ht (aQ:=[]) Tryz.func152 rfl rfl (N:=4) rfl rfl (n:=0) rfl rfl ?_
 cbv
 refine Jl trv ?_ ?_
 ·rfl
 rfl
theorem HW {P:Program} {G:Nat→Option (List D)} {f g:Nat} {args:List AV} {x:D} (h:bF P G f args [] (.ret (.fn g [.ptr 0 0])) [.var [.d x]]):bF P G f args [] (.ret (.fn g [.ep [x]])) []:=by
 intro β w vs X cx hx
 refine (h β w vs X cx hx).mono ?_
 rintro e w' ⟨β',ex,mO,hr⟩
 have hok:∀blk,bp β' [.var [.d x]] w' X blk→bp β' [] w' X blk:=fun blk ⟨h1,h2,_⟩=>⟨h1,h2,fun i b h=>by simp at h⟩
 have hk:jg w' w' (bp β' [.var [.d x]] w' X) (bp β' [] w' X):=fun blk hb=>⟨hok blk hb,rfl⟩
 have b0:=mO.box 0 _ rfl
 simp only [dz] at b0
 obtain ⟨c,e',v1,v2⟩:=b0
 simp only [an,ak] at v2
 obtain ⟨u,r,hc,hu,rfl⟩:=v2
 refine ⟨β',⟨ex.os,ex.tape,ex.output,ex.size,ex.block,ex.shape,fun i hi=>by obtain ⟨b,h1,_⟩:=hi;simp at h1,fun i b h=>by simp at h⟩,?_,?_⟩
 ·refine ⟨mO.xs,fun g ds hg=>?_,by simp,by simp,by simp⟩
  obtain ⟨h1,h2⟩:=mO.yH g ds hg
  exact ⟨hok g h1,aY.mono hk g (fun _=>rfl) _ _ h2⟩
 cases e with
 |returned v=>
  simp only [mh,ak,an] at hr ⊢
  obtain ⟨cs,rfl,p,ps,rfl,⟨rfl,_⟩,rfl⟩:=hr
  refine ⟨_,rfl,_,_,rfl,⟨β' 0,0,rfl,⟨(Array.getElem?_eq_some_iff.1 v1).1,mO.apart 0 _ rfl rfl,fun i b h=>by simp at h⟩,?_⟩,rfl⟩
  simp only [aY,and_true]
  refine ⟨u,?_,aL.mono hk _ _ hu⟩
  simp only [World.cell?,v1]
  have:c[0]?=some u:=by rw [←Array.getElem?_toList,hc];rfl
  simpa using this
 |_=>exact hr.elim
theorem Tx (ht:TT t) (es:List (List D)):FC 152 [.d (.mp false es)] [] (.ret (.fn 196 [.ep [.mp false es]])) []:=HW (Tw ht es)
theorem L6 {w:World} {ok:Nat→Prop} {g:Nat} {cur:Array Value} {e:TypeId} (hg:w.heap[g]?=some (.cells cur e (0,0))):∀(ss:List Int) (off:Nat),(∀i x,ss[i]?=some x→cur[off+i]?=some (gG x))→ay w ok g 1 (ss.map c5) off
 |[],_,_=>by simp [ay]
 |x::ss,off,h=>by
  simp only [List.map_cons,ay,c5,List.length_cons,List.length_nil,aY,aL,and_true,true_and]
  refine ⟨?_,L6 hg ss (off+1) (fun i y hy=>by rw [show off+1+i=off+(i+1) by omega];exact h (i+1) y (by simpa using hy))⟩
  refine ⟨gG x,?_,rfl⟩
  have:=h 0 x rfl
  simp only [World.cell?,hg]
  simpa using this
theorem wY {n f:Nat} {vs:Array Value} {w:World} {R:Ending→World→Prop} (he:∀args w,(callFunc f args).run Tryz.prog w=.ok (.enter f args) w) (h:jD Tryz.prog f vs w R):CallsIn Fence.wide n Tryz.prog f vs w R:=by
 rcases h with ⟨_,h⟩|⟨v,w',h,_⟩
 ·exact callsIn_wide.2 h
 rw [he] at h;cases h
theorem Cg (ht:TT t) {l:List iv} {es:List (List D)} (aE:es=l.map iv.cells) (hnd:(l.map iv.bI).Nodup) (hw:∀m∈l,0≤m.bI∧m.bI<18446744073709551616) (hlen:l.length≤12):
 FC 151 [.fn 196 [.ep [.mp false es]]] [] (.ret (.ow 0 1 (t _ fun _=>l.length))) [.row 1 (t _ fun _=>(n6 (l.map iv.bI)).map c5)]:=by
 simp only [ht]
 intro β w vs X cx hx
 subst aE
 simp only [an,ak] at hx
 obtain ⟨u,us,rfl,⟨cs,rfl,⟨p,ps,rfl,⟨bk,off,rfl,_,UB⟩,rfl⟩⟩,rfl⟩:=hx
 simp only [aY,aL,and_true] at UB
 obtain ⟨mv,QT,bm,ms,clock,rfl,_,m1,m2,m3⟩:=UB
 obtain ⟨D0,o1,o2,o3⟩:=NI m1 m2 m3 hnd hw (by omega)
 have hbk:bk<w.heap.size:=by
  rcases Nat.lt_or_ge bk w.heap.size with h|h
  ·exact h
  simp [World.cell?,h] at QT
 have Kr:=Ks.Ko Fence.wide 1 trv rfl (Nat.le_refl _) bk off bm _ D0 w hbk QT o1
 have hps:∀ss:List Int,ss.Perm (o4 D0)→ss.Perm (l.map iv.bI):=fun ss h=>h.trans o2
 have key:=Ks.NH Fence.wide 4 trv trv trv trv rfl (Nat.le_refl _) 196 _ trv (enters_of Tryz.func196 (by kernel_rfl) rfl) _ _ (by rw [o3];exact Nat.le_trans hlen (by decide)) (by rw [o3];omega) w Kr
  (fun v ss w'=>∃β',Ext β [] w β' [.row 1 ((n6 (l.map iv.bI)).map c5)] w'∧cP gl β' [.row 1 ((n6 (l.map iv.bI)).map c5)] w' X∧
   ak β' [.row 1 ((n6 (l.map iv.bI)).map c5)] w' (bp β' [.row 1 ((n6 (l.map iv.bI)).map c5)] w' X) (.ow 0 1 l.length) v) ?_
 ·refine .inl ⟨enters_of Tryz.func151 (by kernel_rfl) rfl _ _,(callsIn_wide.1 key).mono ?_⟩
  rintro e w' ⟨v,ss,rfl,_,β',h1,h2,h3⟩
  exact ⟨β',h1,h2,h3⟩
 intro v ss W hS hrow Kt hb
 have hp:=hps ss hS
 have hn:ss.length=l.length:=by rw [hp.length_eq];simp
 have Mn:∃β1,Ext β [] w β1 [.row 1 (ss.map c5)] W∧cP gl β1 [.row 1 (ss.map c5)] W X∧ak β1 [.row 1 (ss.map c5)] W (bp β1 [.row 1 (ss.map c5)] W X) (.ow 0 1 ss.length) v:=by
  rcases hrow.2 with ⟨rfl,hz⟩|⟨g,cap,cur,rfl,hbase,hg,r1,r2,r3,r4⟩
  ·have hss:ss=[]:=List.eq_nil_of_length_eq_zero hz
   subst hss
   have ex:Ext β [] w β [.row 1 (([]:List Int).map c5)] W:=by
    refine ⟨hb.os,hb.tape,hb.output,hb.size,fun k hk _=>hb.block k hk,fun k c e f hk=>⟨c,by rw [hb.block k (Array.getElem?_eq_some_iff.1 hk).1];exact hk,rfl⟩,fun i h=>?_,fun i b h hl=>?_⟩
    ·obtain ⟨b,h1,_⟩:=h;simp at h1
    cases i with
    |zero=>simp at h;subst h;simp [aA.live] at hl
    |succ i=>simp at h
   refine ⟨β,ex,?_,?_⟩
   ·refine cx.step ex (fun i b h=>?_) (fun i j bi bj hi hj mP oD _=>?_)
    ·cases i with
     |zero=>simp at h;subst h;exact .inr (by simp [dz])
     |succ i=>simp at h
    cases i with
    |zero=>simp at hi;subst hi;simp [aA.live] at mP
    |succ i=>simp at hi
   simp only [ak]
   exact ⟨⟨_,rfl,rfl⟩,.inl ⟨rfl,none,rfl⟩⟩
  have ex:Ext β [] w (fun _=>g) [.row 1 (ss.map c5)] W:=by
   refine ⟨hb.os,hb.tape,hb.output,hb.size,fun k hk _=>hb.block k hk,fun k c e f hk=>⟨c,by rw [hb.block k (Array.getElem?_eq_some_iff.1 hk).1];exact hk,rfl⟩,fun i h=>?_,fun i b h hl=>.inl hbase⟩
   obtain ⟨b,h1,_⟩:=h;simp at h1
  have wk:∀i x,ss[i]?=some x→cur[0+i]?=some (gG x):=by
   intro i x hx
   have h1:(cur.toList.take (ss.length*1))[i]?=some (gG x):=by rw [r4];simp [hx]
   rw [List.getElem?_take] at h1
   split at h1
   ·simpa using h1
   cases h1
  refine ⟨fun _=>g,ex,?_,?_⟩
  ·refine cx.step ex (fun i b h=>?_) (fun i j bi bj hi hj mP oD _=>?_)
   ·cases i with
    |zero=>
     simp only [List.getElem?_cons_zero,osI] at h;subst h
     refine .inr ?_
     simp only [dz]
     exact .inr ⟨cur,_,hg,L6 hg ss 0 wk⟩
    |succ i=>simp at h
   cases i with
   |zero=>cases j with
    |zero=>rfl
    |succ j=>simp at hj
   |succ i=>simp at hi
  simp only [ak]
  refine ⟨⟨_,rfl,rfl⟩,?_⟩
  by_cases hz:ss.length=0
  ·exact absurd (Kt.2 (List.eq_nil_of_length_eq_zero hz)) (by simp)
  exact .inr ⟨hz,cap,cur,_,(0,0),rfl,r1,hg,by rw [r3];exact Nat.le_refl _⟩
 obtain ⟨β1,x1,x2,x3⟩:=Mn
 have hs:=Tt ht ss.length ss.toArray (es:=ss.map c5) (by simp) (by simp) (by omega)
 simp only [ht] at hs
 have hc:=hs β1 W [v] _ x2 (by simp only [an];exact ⟨v,[],rfl,x3,rfl⟩)
 refine wY (enters_of Tryz.func195 (by kernel_rfl) rfl) (hc.mono ?_)
 rintro e w' ⟨β2,y1,y2,y3⟩
 cases e with
 |returned u=>
  simp only [mh,ak] at y3
  obtain ⟨us,rfl,hu⟩:=y3
  simp only [an] at hu;subst hu
  refine ⟨rfl,?_⟩
  rw [NG,show n6 ss=n6 (l.map iv.bI) from AH (rS _) (rS _) ((kw _).trans (hp.trans (kw _).symm))] at y1 y2
  have x4:=ak.mono (y1.eX _) _ _ x3
  rw [hn] at x4
  exact ⟨_,x1.trans y1,y2,x4⟩
 |_=>exact y3.elim
end Dem
end
