/- Parts of a proof, joined. -/
import Derived.Test.YtihohjnkkalgiaaGreatDoorM23
set_option linter.all false
set_option maxRecDepth 100000
set_option maxHeartbeats 4000000
section
open Go
namespace Dem
theorem Ep {x y:bK}:x=y↔x.a=y.a∧x.b=y.b∧x.c=y.c∧x.d=y.d:=by cases x;cases y;simp
theorem bK.VQ {a b:bK} (h:∀k<4,a.at_ k=b.at_ k):a=b:=by
 rw [Ep];exact ⟨h 0 (by decide),h 1 (by decide),h 2 (by decide),h 3 (by decide)⟩
theorem Qq {a b:bK} (ha:a.w) (hb:b.w) (h:∀k<4,vk k a=vk k b):a=b:=by
 refine bK.VQ fun k hk=>?_
 rw [(JS ha hk).1,(JS hb hk).1,h k hk]
theorem oe {a b:bK}:(iT a b).2=true↔∀k<4,vk k a+vk k b<18446744073709551616:=Ev
theorem cr.trans {a b c:List be} (h:cr a b) (g:cr b c):cr a c:=⟨by rw [g.len,h.len],fun i e hi=>by
 obtain ⟨x,h1,h2,h3⟩:=h.at_ i e hi
 obtain ⟨y,g1,g2,g3⟩:=g.at_ i x h1
 exact ⟨y,g1,by rw [g2,h2],by rw [g3,h3]⟩⟩
theorem cr.refl (a:List be):cr a a:=⟨rfl,fun _ e hi=>⟨e,hi,rfl,rfl⟩⟩
def iu (v:bK):List bS→Nat→Prop
 |[],n=>n=0
 |s::r,n=>∃m≤n,(∀k<4,m*vk k v≤vk k s.free)∧iu v r (n-m)
theorem iu.zero (v:bK):∀l:List bS,iu v l 0
 |[]=>rfl
 |_::r=>⟨0,Nat.le_refl _,fun k _=>by simp,iu.zero v r⟩
theorem iu.less {v:bK}:∀{l:List bS} {n:Nat},iu v l (n+1)→iu v l n
 |[],n,h=>by cases h
 |s::r,n,⟨m,hm,h1,h2⟩=>by
  cases m with
  |zero=>exact ⟨0,Nat.zero_le _,h1,by simpa using iu.less (l:=r) (n:=n) (by simpa using h2)⟩
  |succ m=>
   refine ⟨m,by omega,fun k hk=>Nat.le_trans (Nat.mul_le_mul_right _ (Nat.le_succ m)) (h1 k hk),?_⟩
   rwa [show n+1-(m+1)=n-m by omega] at h2
theorem iu.put {v:bK} {s':bS}:∀{l:List bS} {i n:Nat} {s:bS},l[i]?=some s→(∀k<4,vk k v≤vk k s.free)→(∀k<4,vk k s'.free=vk k s.free-vk k v)→iu v (l.set i s') n→iu v l (n+1)
 |[],i,n,s,h,_,_,_=>by simp at h
 |x::r,0,n,s,h,hf,he,⟨m,hm,h1,h2⟩=>by
  simp only [List.getElem?_cons_zero,osI] at h;subst h
  refine ⟨m+1,by omega,fun k hk=>?_,by rwa [show n+1-(m+1)=n-m by omega]⟩
  have a:=h1 k hk;have b:=he k hk;have c:=hf k hk
  rw [b] at a
  rw [Nat.add_mul,Nat.one_mul];omega
 |x::r,i+1,n,s,h,hf,he,⟨m,hm,h1,h2⟩=>by
  simp only [List.getElem?_cons_succ] at h
  refine ⟨m,by omega,h1,?_⟩
  rw [show n+1-m=(n-m)+1 by omega]
  exact iu.put h hf he h2
theorem iu.take {v:bK} {s':bS}:∀{l:List bS} {i n:Nat} {s:bS},l[i]?=some s→(∀k<4,vk k s'.free=vk k s.free-vk k v)→iu v l (n+1)→iu v (l.set i s') n
 |[],i,n,s,h,_,_=>by simp at h
 |x::r,0,n,s,h,he,⟨m,hm,h1,h2⟩=>by
  simp only [List.getElem?_cons_zero,osI] at h;subst h
  cases m with
  |zero=>exact ⟨0,Nat.zero_le _,fun k _=>by simp,by simpa using iu.less (l:=r) (n:=n) (by simpa using h2)⟩
  |succ m=>
   refine ⟨m,by omega,fun k hk=>?_,by rwa [show n+1-(m+1)=n-m by omega] at h2⟩
   have a:=h1 k hk;have b:=he k hk
   rw [Nat.add_mul,Nat.one_mul] at a
   rw [b];omega
 |x::r,i+1,n,s,h,he,⟨m,hm,h1,h2⟩=>by
  simp only [List.getElem?_cons_succ] at h
  by_cases e:m=n+1
  ·subst e
   refine ⟨n,Nat.le_refl _,fun k hk=>Nat.le_trans (Nat.mul_le_mul_right _ (Nat.le_succ n)) (h1 k hk),?_⟩
   rw [Nat.sub_self];exact iu.zero v _
  refine ⟨m,by omega,h1,iu.take h he ?_⟩
  rwa [show n+1-m=(n-m)+1 by omega] at h2
theorem iu.one {v:bK}:∀{l:List bS} {n:Nat},iu v l (n+1)→∃s∈l,∀k<4,vk k v≤vk k s.free
 |[],n,h=>by cases h
 |x::r,n,⟨m,hm,h1,h2⟩=>by
  cases m with
  |zero=>
   obtain ⟨s,hs,h⟩:=iu.one (l:=r) (n:=n) (by simpa using h2)
   exact ⟨s,by simp [hs],h⟩
  |succ m=>exact ⟨x,by simp,fun k hk=>by have:=h1 k hk;rw [Nat.add_mul,Nat.one_mul] at this;omega⟩
theorem iu.mono {v:bK}:∀{l l':List bS} {n:Nat},l.length=l'.length→(∀(i:Nat) (s s':bS),l[i]?=some s→l'[i]?=some s'→∀k<4,vk k s.free≤vk k s'.free)→iu v l n→iu v l' n
 |[],[],n,_,_,h=>h
 |[],_::_,_,h,_,_=>by cases h
 |_::_,[],_,h,_,_=>by cases h
 |x::r,y::q,n,hl,hf,⟨m,hm,h1,h2⟩=>
  ⟨m,hm,fun k hk=>Nat.le_trans (h1 k hk) (hf 0 x y rfl rfl k hk),iu.mono (by simpa using hl) (fun i s s' a b=>hf (i+1) s s' (by simpa using a) (by simpa using b)) h2⟩
theorem pP (v:bK) (hv:v.w):∀(l:List bS) (k:Nat) (b:Eu) (L:List bS),(∀s∈L,s.free.w)→L.drop k=l→
 (b.ok=true→∃s,L[b.at_]?=some s∧(dY s.free v).2=true∧b.left=(dY s.free v).1)→
 ((
  (mo v l k b).ok=true→∃s,L[(mo v l k b).at_]?=some s∧(dY s.free v).2=true∧(mo v l k b).left=(dY s.free v).1)∧
  ((mo v l k b).ok=false→b.ok=false∧∀s∈l,(dY s.free v).2=false))
 |[],k,b,L,_,_,hb=>by simp only [mo];exact ⟨hb,fun h=>⟨h,by simp⟩⟩
 |s::r,k,b,L,hw,hd,hb=>by
  have hs:L[k]?=some s:=by
   have:=congrArg (fun x=>x[0]?) hd
   simpa using this
  have hr:L.drop (k+1)=r:=by rw [←List.drop_drop,hd];rfl
  simp only [mo]
  by_cases c:((dY s.free v).2&&(!b.ok||decide (qZ (dY s.free v).1 b.left<0)))=true
  ·rw [if_pos c]
   rw [Bool.and_eq_true] at c
   obtain ⟨g1,g2⟩:=pP v hv r (k+1) ⟨k,(dY s.free v).1,true⟩ L hw hr (fun _=>⟨s,hs,c.1,rfl⟩)
   exact ⟨g1,fun h=>absurd (g2 h).1 (by simp)⟩
  rw [if_neg c]
  obtain ⟨g1,g2⟩:=pP v hv r (k+1) b L hw hr hb
  refine ⟨g1,fun h=>⟨(g2 h).1,fun x hx=>?_⟩⟩
  rcases List.mem_cons.1 hx with rfl|hx
  ·have:=(g2 h).1
   rw [this] at c
   simpa using c
  exact (g2 h).2 x hx
theorem Io {v:bK} (hv:v.w) {l:List bS} (hw:∀s∈l,s.free.w) (h:(best l v).ok=true):∃s,l[(best l v).at_]?=some s∧(dY s.free v).2=true∧(best l v).left=(dY s.free v).1:=
 (pP v hv l 0 ⟨0,bK.zero,false⟩ l hw rfl (fun h=>by cases h)).1 h
theorem RP {v:bK} (hv:v.w) {l:List bS} (hw:∀s∈l,s.free.w) (h:(best l v).ok=false):∀s∈l,(dY s.free v).2=false:=
 ((pP v hv l 0 ⟨0,bK.zero,false⟩ l hw rfl (fun h=>by cases h)).2 h).2
theorem Ip {v:bK} (hv:v.w):∀(n:Nat) (l:List bS) (out:List aH),(∀s∈l,s.free.w)→((nW v n l out).2=true↔iu v l n)
 |0,l,out,_=>⟨fun _=>iu.zero v l,fun _=>rfl⟩
 |n+1,l,out,hw=>by
  simp only [nW]
  cases hb:(best l v).ok with
  |false=>
   rw [show (!false)=true from rfl,if_pos rfl]
   refine ⟨fun h=>Bool.noConfusion h,fun h=>?_⟩
   obtain ⟨s,hs,hf⟩:=iu.one h
   have:=RP hv hw hb s hs
   rw [←Bool.not_eq_true,mX] at this
   exact absurd hf this
  |true=>
   obtain ⟨s,h1,h2,h3⟩:=Io hv hw hb
   rw [show (!true)=false from rfl,if_neg (by decide)]
   have nD:s∈l:=List.mem_of_getElem? h1
   have hd:l.getD (best l v).at_ default=s:=by rw [List.getD_eq_getElem?_getD,h1];rfl
   rw [hd,h3]
   have hle:∀k<4,vk k ({s with free:=(dY s.free v).1}:bS).free=vk k s.free-vk k v:=fun k hk=>EB (hw s nD) h2 hk
   have hw':∀x∈l.set (best l v).at_ {s with free:=(dY s.free v).1},x.free.w:=fun x hx=>by
    rcases zq hx with hx|rfl
    ·exact hw x hx
    exact JM h2
   rw [Ip hv n _ _ hw']
   exact ⟨fun h=>iu.put h1 (mX.1 h2) hle h,fun h=>iu.take h1 hle h⟩
theorem Ow {name:aH} {ps:List Place} {v:bK} {l:List Node} {n:Node} (ha:JI l) (hn:n∈l) (h:(cE n.name l ps).2=true):cE n.name l ps=left n.name ps (n.cap,true):=by
 have h2:=wK ha hn ps
 rw [gG ha hn] at h
 rw [h2,if_pos h]
theorem Mw {p:cB} (h:p.ok) (hw:p.w) {n:Node} (hn:n∈p.nodes) {k:Nat} (hk:k<4):(cE n.name p.nodes p.places).1.at_ k=((vk k n.cap-gu k (here n.name p.places):Nat):Int):=by
 have h1:=h.free n hn
 rw [gG h.ym hn] at h1
 rw [Ow (name:=n.name) (v:=n.cap) h.ym hn (h.free n hn)]
 exact (nX n.name p.places n.cap (hw.cap n hn)).2 h1 k hk
theorem Mx {p:cB} (h:p.ok) (hw:p.w) {n:Node} (hn:n∈p.nodes) {k:Nat} (hk:k<4):vk k (cE n.name p.nodes p.places).1=vk k n.cap-gu k (here n.name p.places):=by
 unfold vk;rw [Mw h hw hn hk];rfl
theorem RQ {p:cB} (h:p.ok) (hw:p.w) {n:Node} (hn:n∈p.nodes):(cE n.name p.nodes p.places).1.w:=by
 intro k hk
 have h1:=Mw h hw hn hk
 have h2:=(JS (hw.cap n hn) hk).2
 rw [h1];omega
def iP (p:cB) (n:Node):bS:=⟨n.name,(cE n.name p.nodes p.places).1,n.labels⟩
theorem Ox {p:cB} (h:p.ok):eR p=(p.nodes.filter (·.up)).map (iP p):=by
 have:∀r:List Node,(∀n∈r,n∈p.nodes)→r.filterMap (nU p.nodes p.places)=(r.filter (·.up)).map (iP p):=by
  intro r
  induction r with
  |nil=>intro _;rfl
  |cons n r ih=>
   intro hr
   have h1:=h.free n (hr n (by simp))
   have h2:=ih fun m hm=>hr m (by simp [hm])
   rw [List.filterMap_cons,List.filter_cons]
   cases hu:n.up
   ·simp [nU,hu,h2]
   simp [nU,hu,h1,h2,iP]
 exact this p.nodes fun n hn=>hn
theorem nh {p:cB} (h:p.ok) (x:List Term):fitting (eR p) x=((p.nodes.filter (·.up)).filter fun n=>ny x n.labels).map (iP p):=by
 rw [Ox h,fitting,List.filter_map];rfl
theorem Oy {p:cB} (h:p.ok) (hw:p.w) (x:List Term):∀s∈fitting (eR p) x,s.free.w:=by
 rw [nh h]
 intro s hs
 obtain ⟨n,hn,rfl⟩:=List.mem_map.1 hs
 exact RQ h hw (List.mem_filter.1 (List.mem_filter.1 hn).1).1
theorem My {p:cB} (h:p.ok) (hw:p.w) {x:List Term} {v:bK} (hv:v.w) {c:Int} (hc:0≤c∧c≤8):(fit (eR p) x v c).2=true↔iu v (fitting (eR p) x) c.toNat:=by
 unfold fit
 rw [if_neg (by omega),Ip hv _ _ _ (Oy h hw x),show max c 0=c by omega]
theorem RR {p q:cB} (h:p.ok) (hw:p.w) (h':q.ok) (hw':q.w) (hn:q.nodes=p.nodes) (hu:∀n,∀k<4,gu k (here n q.places)≤gu k (here n p.places)) {x:List Term} {v:bK} (hv:v.w) {c:Int} (hc:0≤c∧c≤8)
 (e:(fit (eR p) x v c).2=true):(fit (eR q) x v c).2=true:=by
 rw [My h hw hv hc] at e
 rw [My h' hw' hv hc]
 rw [nh h] at e
 rw [nh h',hn]
 refine iu.mono (by simp) (fun i s s' a b k hk=>?_) e
 rw [List.getElem?_map] at a b
 cases hi:(List.filter (fun n=>ny x n.labels) (List.filter (·.up) p.nodes))[i]? with
 |none=>rw [hi] at a;cases a
 |some n=>
  rw [hi] at a b
  simp only [Option.map_some,osI] at a b
  subst a;subst b
  have hm:=(List.mem_filter.1 (List.mem_filter.1 (List.mem_of_getElem? hi)).1).1
  have h1:=Mx h hw hm hk
  have h2:=Mx h' hw' (n:=n) (by rw [hn];exact hm) hk
  have h3:=hu n.name k hk
  simp only [iP]
  rw [h1,h2];omega
theorem BT {s:bE} (h:s.ok) {p:aH} {v:bK}:(cZ s.tree p v).2=0↔named p=true∧(∀q∈above p,∃e∈s.tree,e.path=q)∧∀e∈s.tree,e.path∈above p→∀k<4,gQ k e.path s.ay+vk k v≤vk k e.eH:=by
 have hz:∀e∈s.tree,(fD v e).2=0↔∀k<4,gQ k e.path s.ay+vk k v≤vk k e.eH:=by
  intro e he
  rw [py,oe]
  constructor
  ·rintro ⟨h1,h2⟩ k hk
   have h3:=mr.1 h2 k hk
   rw [pn (oe.2 h1) hk,h.used e he k hk] at h3
   exact h3
  intro h1
  have h2:∀k<4,vk k e.used+vk k v<18446744073709551616:=fun k hk=>by
   have a:=h1 k hk;have b:=(JS (h.tree.w e he).1 hk).2
   rw [h.used e he k hk];omega
  refine ⟨h2,mr.2 fun k hk=>?_⟩
  rw [pn (oe.2 h2) hk,h.used e he k hk]
  exact h1 k hk
 unfold cZ
 rcases rq (fD v) h.tree.ym p with ⟨_,e2,e3⟩|⟨e,h1,h2,h3⟩
 ·refine ⟨fun g=>absurd g e2,fun ⟨g1,g2,g3⟩=>?_⟩
  rcases e3 with e3|⟨q,hq,e3⟩|⟨e,he,hp,e3⟩
  ·rw [g1] at e3;cases e3
  ·obtain ⟨e,he,hp⟩:=g2 q hq;exact absurd hp (e3 e he)
  exact absurd ((hz e he).2 (g3 e he hp)) e3
 rw [e]
 exact ⟨fun _=>⟨h1,h2,fun e he hp=>(hz e he).1 (h3 e he hp)⟩,fun _=>rfl⟩
structure Iq (s t:bE):Prop where
 nodes:t.bg.nodes=s.bg.nodes
 places:∀n,∀k<4,gu k (here n t.bg.places)≤gu k (here n s.bg.places)
 tree:cr s.tree t.tree
 less:∀p,∀k<4,gQ k p t.ay≤gQ k p s.ay
theorem Ir {s t:bE} (h:s.ok) (h':t.ok) (g:Iq s t) {p:aH} {v:bK} (e:(cZ s.tree p v).2=0):(cZ t.tree p v).2=0:=by
 rw [BT h] at e
 rw [BT h']
 obtain ⟨e1,e2,e3⟩:=e
 refine ⟨e1,fun q hq=>?_,fun x hx hp k hk=>?_⟩
 ·obtain ⟨e,he,hp⟩:=e2 q hq
  obtain ⟨x,hx,h1⟩:=g.tree.mem he
  exact ⟨x,hx,by rw [h1,hp]⟩
 obtain ⟨e,he,h1,h2⟩:=g.tree.back hx
 have a:=e3 e he (by rw [←h1];exact hp) k hk
 have b:=g.less x.path k hk
 rw [h2];rw [←h1] at a;omega
def Room (s:bE) (j:Jb):Prop:=(fit (eR s.bg) j.x.bY j.x.fK j.x.count).2=true∧(cZ s.tree j.x.path j.tot).2=0
theorem Room.mono {s t:bE} (h:s.ok) (h':t.ok) (g:Iq s t) {j:Jb} (hc:dZ j.x=0) (hv:j.x.fK.w) (r:Room s j):Room t j:=by
 have Cf:=(eb.1 hc).2.1
 exact ⟨RR h.bg h.kN h'.bg h'.kN g.nodes g.places hv (by omega) r.1,Ir h h' g r.2⟩
theorem xB {s:bE} (h:s.ok) {i:Nat} {j:Jb} (hj:s.ay[i]?=some j) (hr:j.runs=false):(dH s j.id).2=true↔Room s j:=by
 obtain ⟨_,_,h1⟩:=pL h.ids hj
 have h2:=(eb.1 (h.uw j (List.mem_of_getElem? hj)).1).2.2.2.2.2
 unfold dH iI fL
 rw [h1]
 simp only [hr,h2,Bool.not_false,Bool.and_true,Bool.not_true,Bool.false_or,Room]
 cases h3:(fit (eR s.bg) j.x.bY j.x.fK j.x.count).2<;>by_cases h4:(cZ s.tree j.x.path (cU j.x).1).2=0<;>simp [h4]
theorem BU {s:bE} {id:Int} (h:(fL s id).2=false):dH s id=([],false):=by
 unfold dH iI;rw [h];rfl
def dI (l:List Int) (j:Jb):Jb:=if j.runs=true∧j.id∈l then j.halted else j
theorem xC (l:List Int) (j:Jb):(dI l j).id=j.id∧(dI l j).x=j.x:=by unfold dI;split<;>exact ⟨rfl,rfl⟩
theorem iQ (l:List Int) (j:Jb):(dI l j).runs=true↔j.runs=true∧j.id ∉ l:=by
 unfold dI
 split
 ·rename_i h;simp [h.2]
 rename_i h;exact ⟨fun g=>⟨g,fun m=>h ⟨g,m⟩⟩,fun g=>g.1⟩
theorem K0 (l m:List Int) (j:Jb):dI m (dI l j)=dI (l++m) j:=by
 unfold dI
 by_cases h1:j.runs=true∧j.id∈l
 ·rw [if_pos h1,if_neg (by simp),if_pos ⟨h1.1,by simp [h1.2]⟩]
 rw [if_neg h1]
 by_cases h2:j.runs=true∧j.id∈m
 ·rw [if_pos h2,if_pos ⟨h2.1,by simp [h2.2]⟩]
 rw [if_neg h2,if_neg (by rintro ⟨a,b⟩;rcases List.mem_append.1 b with b|b;exact h1 ⟨a,b⟩;exact h2 ⟨a,b⟩)]
structure jN (s:bE) (l:List Int) (t:bE):Prop where
 ok:t.ok
 ay:t.ay=s.ay.map (dI l)
 nodes:t.bg.nodes=s.bg.nodes
 places:t.bg.places=s.bg.places.filter fun x=>!decide (x.bA∈l)
 tree:cr s.tree t.tree
theorem jN.nil {s:bE} (h:s.ok):jN s [] s where
 ok:=h
 ay:=by rw [show dI []=id from funext fun j=>by simp [dI],List.map_id]
 nodes:=rfl
 places:=(List.filter_eq_self.2 fun x _=>by simp).symm
 tree:=cr.refl _
theorem jN.app {s t u:bE} {l m:List Int} (h:jN s l t) (g:jN t m u):jN s (l++m) u where
 ok:=g.ok
 ay:=by rw [g.ay,h.ay,List.map_map];exact List.map_congr_left fun j _=>K0 l m j
 nodes:=by rw [g.nodes,h.nodes]
 places:=by
  rw [g.places,h.places,List.filter_filter]
  refine List.filter_congr fun x _=>?_
  by_cases h1:x.bA∈l<;>by_cases h2:x.bA∈m<;>simp [h1,h2]
 tree:=h.tree.trans g.tree
theorem DI {s:bE} (h:s.ok) {id:Int} (hn:∀j∈s.ay,j.id=id→j.runs=false):jN s [id] s where
 ok:=h
 ay:=by
  conv=>lhs;rw [←List.map_id s.ay]
  refine List.map_congr_left fun j hj=>?_
  unfold dI
  rw [if_neg]
  ·rfl
  rintro ⟨a,b⟩
  rw [hn j hj (by simpa using b)] at a;cases a
 nodes:=rfl
 places:=by
  refine (List.filter_eq_self.2 fun x hx=>?_).symm
  obtain ⟨j,hj,hr,he,_⟩:=h.places x hx
  simp only [List.mem_singleton,Bool.not_eq_true',decide_eq_false_iff_not]
  intro e
  rw [hn j hj (by rw [he,e])] at hr;cases hr
 tree:=cr.refl _
theorem Oz {s:bE} (h:s.ok) (id kind:Int):jN s [id] (eZ s id kind).1:=by
 cases hf:s.ay.findIdx? (fun j=>decide (j.id=id)) with
 |none=>
  have e:(eZ s id kind).1=s:=by unfold eZ;rw [hf]
  rw [e]
  rw [List.findIdx?_eq_none_iff] at hf
  exact DI h fun j hj he=>by have:=hf j hj;simp [he] at this
 |some i=>
  obtain ⟨j,hj,he,hd⟩:=mu hf
  subst he
  cases hr:j.runs with
  |false=>
   have e:(eZ s j.id kind).1=s:=by unfold eZ;rw [hf];simp only;rw [hd,hr];rfl
   rw [e]
   exact DI h fun x hx R7=>by rw [gJ h.ids hx (List.mem_of_getElem? hj) R7,hr]
  |true=>
   obtain ⟨T,Q,h1,h2⟩:=Bw h hj hr kind
   have hok:=h.stop j.id kind
   rw [h2] at hok ⊢
   refine ⟨hok,?_,rfl,?_,h1⟩
   ·show s.ay.set i j.halted=_
    refine List.ext_getElem? fun k=>?_
    rw [List.getElem?_map,List.getElem?_set]
    by_cases e:i=k
    ·subst e
     rw [if_pos rfl,hj,if_pos (List.getElem?_eq_some_iff.1 hj).1]
     simp [dI,hr]
    rw [if_neg e]
    cases hk:s.ay[k]? with
    |none=>rfl
    |some x=>
     have:x.id≠j.id:=fun c=>e (zw h.ids hj hk c.symm)
     simp [dI,this]
   show (rj s.bg j.id).places=_
   simp [rj]
theorem eK {s:bE} (h:s.ok):∀l:List Int,jN s l (aW s l):=by
 intro l
 induction l generalizing s with
 |nil=>exact jN.nil h
 |cons id l ih=>
  have h1:=Oz h id 5
  exact h1.app (ih h1.ok)
theorem cr.K1 {s t u:List be} (h:cr s t) (g:cr s u):cr t u where
 len:=by rw [g.len,h.len]
 at_:=by
  intro i e hi
  have hl:=(List.getElem?_eq_some_iff.1 hi).1
  rw [h.len] at hl
  obtain ⟨x,h1,h2,h3⟩:=h.at_ i s[i] (List.getElem?_eq_getElem hl)
  obtain ⟨y,g1,g2,g3⟩:=g.at_ i s[i] (List.getElem?_eq_getElem hl)
  rw [hi] at h1;cases h1
  exact ⟨y,g1,by rw [g2,h2],by rw [g3,h3]⟩
theorem pQ {α:Type} {p q:α→Bool} (h:∀x,p x=true→q x=true):∀l:List α,(l.filter p).Sublist (l.filter q)
 |[]=>List.Sublist.slnil
 |x::r=>by
  rw [List.filter_cons,List.filter_cons]
  cases hp:p x
  ·cases hq:q x
   ·simpa using pQ h r
   simpa using (pQ h r).cons x
  rw [h x hp]
  simpa using (pQ h r).cons_cons x
theorem jN.Ze {s t u:bE} {l m:List Int} (h:jN s l t) (g:jN s m u) (hl:∀x∈l,x∈m):Iq t u where
 nodes:=by rw [h.nodes,g.nodes]
 places:=by
  intro n k hk
  rw [h.places,g.places]
  refine AS ?_
  unfold here
  refine List.Sublist.filter _ (pQ (fun x hx=>?_) _)
  simp only [Bool.not_eq_true',decide_eq_false_iff_not] at*
  exact fun c=>hx (hl _ c)
 tree:=h.tree.K1 g.tree
 less:=by
  intro p k hk
  rw [h.ay,g.ay]
  have:∀r:List Jb,gQ k p (r.map (dI m))≤gQ k p (r.map (dI l)):=by
   intro r
   induction r with
   |nil=>exact Nat.le_refl _
   |cons j r ih=>
    rw [List.map_cons,List.map_cons,gq,gq]
    refine Nat.add_le_add ?_ ih
    unfold fY
    by_cases c:(dI m j).runs=true∧p∈above (dI m j).x.path
    ·obtain ⟨c1,c2⟩:=c
     rw [iQ] at c1
     have d1:(dI l j).runs=true:=(iQ l j).2 ⟨c1.1,fun c=>c1.2 (hl _ c)⟩
     have e1:(dI l j).x=(dI m j).x:=by rw [(xC l j).2,(xC m j).2]
     rw [if_pos ⟨(iQ m j).2 c1,c2⟩,if_pos ⟨d1,by rw [e1];exact c2⟩]
     unfold Jb.tot;rw [e1];exact Nat.le_refl _
    rw [if_neg c];exact Nat.zero_le _
  exact this s.ay
theorem jN.fits {s t:bE} {l:List Int} (g:jN s l t) {i:Nat} {j:Jb} (hj:s.ay[i]?=some j) (hr:j.runs=false):(dH t j.id).2=true↔Room t j:=by
 refine xB g.ok (i:=i) ?_ hr
 rw [g.ay,List.getElem?_map,hj]
 simp [dI,hr]
theorem Is {s:bE} (h:s.ok) {i:Nat} {j:Jb} (hj:s.ay[i]?=some j) (hr:j.runs=false) {l m:List Int} (hl:∀x∈l,x∈m) (e:(fM s j.id l).2=true):(fM s j.id m).2=true:=by
 have h1:=eK h l
 have h2:=eK h m
 have hc:=h.uw j (List.mem_of_getElem? hj)
 unfold fM at*
 rw [h1.fits hj hr] at e
 rw [h2.fits hj hr]
 exact Room.mono h1.ok h2.ok (h1.Ze h2 hl) hc.1 hc.2.1 e
theorem oA (k:Nat) (p:aH):∀l:List Jb,(∀j∈l,j.runs=false)→gQ k p l=0
 |[],_=>rfl
 |j::r,h=>by
  rw [gq,oA k p r fun x hx=>h x (by simp [hx])]
  unfold fY;rw [if_neg (by rw [h j (by simp)];simp)]
theorem jN.bare {s t:bE} {l:List Int} (h:s.ok) (g:jN s l t) (hl:∀j∈s.ay,j.runs=true→j.id∈l):t.bg=⟨s.bg.nodes,[]⟩∧t.tree=tg s.tree:=by
 have hr:∀j∈t.ay,j.runs=false:=by
  rw [g.ay]
  intro x hx
  obtain ⟨j,hj,rfl⟩:=List.mem_map.1 hx
  cases e:(dI l j).runs with
  |false=>rfl
  |true=>rw [iQ] at e;exact absurd (hl j hj e.1) e.2
 constructor
 ·have h1:=g.nodes
  have h2:t.bg.places=[]:=by
   rw [g.places,List.filter_eq_nil_iff]
   intro x hx
   obtain ⟨j,hj,hr,he,_⟩:=h.places x hx
   simp only [Bool.not_eq_true',decide_eq_false_iff_not,Classical.not_not]
   rw [←he];exact hl j hj hr
  cases hp:t.bg with
  |mk a b=>rw [hp] at h1 h2;simp only at h1 h2;rw [h1,h2]
 refine List.ext_getElem? fun i=>?_
 unfold tg
 rw [List.getElem?_map]
 cases hi:s.tree[i]? with
 |none=>rw [List.getElem?_eq_none_iff] at hi;rw [List.getElem?_eq_none_iff.2 (by rw [g.tree.len];exact hi)];rfl
 |some e=>
  obtain ⟨x,h1,h2,h3⟩:=g.tree.at_ i e hi
  rw [h1,Option.map_some]
  have hx:=List.mem_of_getElem? h1
  have hu:x.used=bK.zero:=Qq (g.ok.tree.w x hx).2 wL fun k hk=>by rw [g.ok.used x hx k hk,oA k _ _ hr,m5]
  cases x;cases e;simp_all
theorem DJ {s t:bE} {l:List Int} (h:s.ok) (g:jN s l t) (hl:∀j∈s.ay,j.runs=true→j.id∈l) {i:Nat} {j:Jb} (hj:s.ay[i]?=some j) (hr:j.runs=false):jL s j.id=true↔Room t j:=by
 obtain ⟨_,_,h1⟩:=pL h.ids hj
 have h2:=(eb.1 (h.uw j (List.mem_of_getElem? hj)).1).2.2.2.2.2
 obtain ⟨b1,b2⟩:=g.bare h hl
 unfold jL iI fL ul
 rw [h1]
 unfold Room
 rw [b1,b2]
 simp only [hr,h2,Bool.not_false,Bool.and_true,Bool.not_true,Bool.false_or]
 cases h3:(fit (eR ⟨s.bg.nodes,[]⟩) j.x.bY j.x.fK j.x.count).2<;>by_cases h4:(cZ (tg s.tree) j.x.path (cU j.x).1).2=0<;>simp [h4]
theorem Iv {s:bE} (h:s.ok) {i:Nat} {j:Jb} (hj:s.ay[i]?=some j) (hr:j.runs=false) {l:List Int} (e:(fM s j.id l).2=true):jL s j.id=true:=by
 have g:=eK h (s.ay.map (·.id))
 rw [DJ h g (fun x hx _=>List.mem_map_of_mem hx) hj hr]
 have g1:=eK h l
 have hc:=h.uw j (List.mem_of_getElem? hj)
 have g2:=eK h (l++s.ay.map (·.id))
 have r:=Is h hj hr (m:=l++s.ay.map (·.id)) (fun x hx=>by simp [hx]) e
 unfold fM at r
 rw [g2.fits hj hr] at r
 refine Room.mono g2.ok g.ok ?_ hc.1 hc.2.1 r
 have b:=g.bare h (fun x hx _=>List.mem_map_of_mem hx)
 have b2:=g2.bare h (fun x hx _=>by simp [List.mem_map_of_mem (f:=fun j:Jb=>j.id) hx])
 refine ⟨by rw [b.1,b2.1],fun n k hk=>by rw [b.1,b2.1];exact Nat.le_refl _,by rw [b.2,b2.2];exact cr.refl _,fun p k hk=>?_⟩
 have:∀{L:List Int} {t:bE},jN s L t→(∀x∈s.ay,x.runs=true→x.id∈L)→gQ k p t.ay=0:=by
  intro L t g hl
  refine oA k p _ ?_
  rw [g.ay]
  intro x hx
  obtain ⟨j,hj,rfl⟩:=List.mem_map.1 hx
  cases e:(dI L j).runs with
  |false=>rfl
  |true=>rw [iQ] at e;exact absurd (hl j hj e.1) e.2
 rw [this g (fun x hx _=>List.mem_map_of_mem hx)];exact Nat.zero_le _
theorem uu {s:bE} (h:s.ok) (k:Nat):(∃j∈s.ay,j.id=gL s k∧j.runs=false)∨∀j∈s.ay,j.id≠gL s k:=by
 unfold gL
 split
 ·exact .inr fun j hj e=>by have:=h.zx j hj;omega
 rename_i hl
 have hk:=Nat.mod_lt k (Nat.pos_of_ne_zero hl)
 have hq:s.queue[k%s.queue.length]?=some s.queue[k%s.queue.length]:=List.getElem?_eq_getElem hk
 rw [List.getD_eq_getElem?_getD,hq]
 obtain ⟨j,hj,hr,e⟩:=(h.pF _).1 (List.getElem_mem hk)
 exact .inl ⟨j,hj,by rw [Option.getD_some,e],hr⟩
end Dem
end
