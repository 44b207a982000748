/- Parts of a proof, joined. -/
import Derived.Test.YtmlnckcbblcbbaaGreatDoorW05
import Derived.KernelRfl
import Derived.Recover
import Derived.Laws.Externs
set_option linter.all false
set_option maxRecDepth 100000
set_option maxHeartbeats 4000000
section
open Go
namespace Dem
theorem JW{x:oq}(h:x.l.length<=32)(n:cw):(tell x n).l.length<=32:=by
 unfold tell;by_cases g:32<(x.l++[n]).length
 .rw[if_pos g];simp;omega
 rw[if_neg g];simp only at*;omega
theorem cI.ok.event {s:cI} (h:s.ok) (id kind:Int):(lI s id kind).ok:=
 {h with notes:=⟨JW h.notes.1 _,h.notes.2⟩}
theorem PS{x:Ask}(h:c8 x=0)(id:Int):gA ⟨id,x.prio⟩=false:=by obtain⟨_,_,hp,_⟩:=fV.1 h;simp[gA];omega
theorem MH{x:Ask}(h:c8 x=0):named x.path=true:=by unfold named;rw[(fV.1 h).1];simp
theorem cI.ok.dF {s:cI} (h:s.ok) {x:Ask} (hx:x.iI.w):(dF s x).1.ok:=by
 unfold Dem.dF;by_cases h1:c8 x≠0
 .rw[if_pos h1];exact h
 rw[if_neg h1];simp only[Decidable.not_not]at h1;by_cases h2:(!iO s.tree x.path)=true
 .rw[if_pos h2];exact h
 rw[if_neg h2];by_cases h3:32<=s.aJ.length∨s.next=18446744073709551615
 .rw[if_pos h3];exact h
 rw[if_neg h3];have V8:=h.next
 rcases tO s.queue ⟨s.next,x.prio⟩with⟨_,e2,_⟩|⟨e,_,hno,_⟩
 .rw[if_pos e2];exact h
 rw[e];rw[if_neg (by simp)];have hu:u64 (s.next+1)=s.next+1:=by unfold u64;omega
 have hn:ie=ie:=rfl;refine cI.ok.event (s:=⟨s.round,u64 (s.next+1),s.bt,s.tree,s.aJ++[⟨s.next,x,false,0⟩],_,s.ev,s.au⟩) ?_ _ _;rw[hu];have hm:∀j,j∈s.aJ++[(⟨s.next,x,false,0⟩:Jb)]↔j∈s.aJ∨j=⟨s.next,x,false,0⟩:=λj=>by simp
 exact{
  bt:=h.bt,sx:=h.sx,tree:=h.tree,notes:=h.notes
  used:=λe he k hk=>by rw[h.used e he k hk];simp only[PR];simp[ie]
  most:=by simp only[vaa,List.length_singleton];omega
  next:=by simp only;omega
  ids:=by rw[wG,List.pairwise_append];refine⟨h.ids,by simp,λa ha b hb=>?_⟩;simp at hb;subst hb;exact(h.GR a ha).2
  GR:=λj hj=>by
   rcases(hm j).1 hj with g|rfl
   .have:=h.GR j g;simp only;omega
   simp only;omega
  yJ:=λj hj=>by
   rcases(hm j).1 hj with g|rfl
   .exact h.yJ j g
   exact⟨h1,hx,by simpa using h2⟩
  left:=λj hj=>by
   rcases(hm j).1 hj with g|rfl
   .exact h.left j g
   exact⟨λg=>(by cases g),λ_=>rfl⟩
  zU:=Dn h.zU hno
  tP:=JQ h.tP hno _
  vv:=λq=>by
   show q∈List.take _ s.queue++_::List.drop _ s.queue↔_;rw[JP,h.vv q];constructor
   .rintro(⟨j,a,b,c⟩|rfl)
    .exact⟨j,(hm j).2 (.inl a),b,c⟩
    exact⟨_,(hm _).2 (.inr rfl),rfl,rfl⟩
   rintro⟨j,a,b,c⟩;rcases(hm j).1 a with g|rfl
   .exact .inl ⟨j,g,b,c⟩
   exact .inr c
  places:=λy hy=>by obtain⟨j,a,b⟩:=h.places y hy;exact⟨j,(hm j).2 (.inl a),b⟩
  count:=λj hj hr=>by
   rcases(hm j).1 hj with g|rfl
   .exact h.count j g hr
   cases hr}
theorem Ft{s:cI}(h:s.ok){p:az}{v:bz}(hc:(jz s.tree p v).2=0):
 Tree.ok (jz s.tree p v).1/\gB s.tree (jz s.tree p v).1/\∀e∈(jz s.tree p v).1,∀k<4,vk k e.used=mJ k e.path s.aJ+if e.path∈above p then vk k v else 0:=by
 unfold jz at*;rcases AW (iu v) h.tree.GL p with⟨_,e2,_⟩|⟨e,_,_,hf⟩
 .exact absurd hc e2
 rw[e];have hk:gB s.tree (yD (iu v) (above p) s.tree):=Dk λe he hp=>by rw[AX (hf e he hp)];exact⟨rfl,rfl⟩
 have hv:∀x∈yD (iu v) (above p) s.tree,x.used.w/\(∀k<4,vk k x.used<=vk k x.cU)/\∀k<4,vk k x.used=mJ k x.path s.aJ+if x.path∈above p then vk k v else 0:=by
  intro x hx;obtain⟨e,he,rfl⟩:=List.mem_map.1 hx;by_cases hp:e.path∈above p
  .rw[if_pos hp];have h0:=hf e he hp
   obtain⟨c1,c2⟩:=yF.1 h0;rw[AX h0];refine⟨Mz c1,wD.1 c2,λk hk=>?_⟩;simp only;rw[yC c1 hk,h.used e he k hk,if_pos hp]
  rw[if_neg hp];exact⟨(h.tree.w e he).2,h.tree.fits e he,λk hk=>by rw[h.used e he k hk,if_neg hp];rfl⟩
 exact⟨hk.ok h.tree (λe he=>(hv e he).2.1) (λe he=>(hv e he).1),hk,λe he=>(hv e he).2.2⟩
theorem qn{s:cI}(h:s.ok){i:Nat}{j:Jb}(hj:s.aJ[i]?=some j)(hr:j.runs=true):
 uO s.tree j.x.path j.tot=(yD (ff j.tot) (above j.x.path) s.tree,0)/\
 Tree.ok (yD (ff j.tot) (above j.x.path) s.tree)/\gB s.tree (yD (ff j.tot) (above j.x.path) s.tree)/\∀e∈yD (ff j.tot) (above j.x.path) s.tree,∀k<4,vk k e.used+ie k e.path j=mJ k e.path s.aJ:=by
 have hm:=vag hj;obtain⟨g1,g2,g3⟩:=h.yJ j hm;have hs:∀e∈s.tree,e.path∈above j.x.path->(ix e.used j.tot).2=true:=λe he hp=>uP.2 λk hk=>by have:=V7 k e.path hm;rw[<-h.used e he k hk]at this;rw[ie,if_pos ⟨hr,hp⟩]at this;exact this
 have hz:∀e∈s.tree,e.path∈above j.x.path->(ff j.tot e).2=0:=λe he hp=>yG.2 (hs e he hp);have hk:gB s.tree (yD (ff j.tot) (above j.x.path) s.tree):=Dk λe he hp=>by rw[AY (hz e he hp)];exact⟨rfl,rfl⟩
 have hv:∀x∈yD (ff j.tot) (above j.x.path) s.tree,x.used.w/\(∀k<4,vk k x.used<=vk k x.cU)/\∀k<4,vk k x.used+ie k x.path j=mJ k x.path s.aJ:=by
  intro x hx;obtain⟨e,he,rfl⟩:=List.mem_map.1 hx;by_cases hp:e.path∈above j.x.path
  .rw[if_pos hp];have h0:=hs e he hp
   rw[AY (hz e he hp)];have hwe:=(h.tree.w e he).2
   refine⟨SS h0,λk hk=>?_,λk hk=>?_⟩
   .simp only;rw[OD hwe h0 hk];have:=h.tree.fits e he k hk;omega
   have h1:=uP.1 h0 k hk;simp only;rw[OD hwe h0 hk,ie,if_pos ⟨hr,hp⟩,<-h.used e he k hk];unfold vk;omega
  rw[if_neg hp];exact⟨(h.tree.w e he).2,h.tree.fits e he,λk hk=>by rw[h.used e he k hk,ie,if_neg (λg=>hp g.2)];rfl⟩
 refine⟨?_,hk.ok h.tree (λe he=>(hv e he).2.1) (λe he=>(hv e he).1),hk,λe he=>(hv e he).2.2⟩;unfold uO;rcases AW (ff j.tot) h.tree.GL j.x.path with⟨_,_,e|⟨q,hq,e⟩|⟨y,hy,hp,e⟩⟩|⟨e,_⟩
 .rw[MH g1]at e;cases e
 .obtain⟨z,hz,g⟩:=Ds.1 g3 q hq;exact absurd g (e z hz)
 .exact absurd (hz y hy hp) e
 exact e
theorem cI.ok.OF {s:cI} (h:s.ok) {j:Jb} (hj:j∈s.aJ) (hr:j.runs=false):∀x∈s.bt.places,x.bL≠j.id:=by
 intro x hx g;obtain⟨y,a,b,c,_⟩:=h.places x hx;have:=mK h.ids a hj (by rw[c,g])
 subst this;rw[hr]at b;cases b
theorem cI.ok.GS {s:cI} (h:s.ok) {j:Jb} (hj:j∈s.aJ) (hr:j.runs=true):∀q∈s.queue,q.id≠j.id:=by
 intro q hq g;obtain⟨y,a,b,rfl⟩:=(h.vv q).1 hq;have:=mK h.ids a hj g
 subst this;rw[hr]at b;cases b
theorem MI(id:Int)(a b:List Place):vK id (a++b)=vK id a+vK id b:=by simp[vK]
theorem S1(id bL:Int)(v:bz)(names:List az):vK id (names.map λn=>(⟨bL,n,v⟩:Place))=if bL=id then names.length else 0:=by
 unfold vK;by_cases h:bL=id
 .rw[if_pos h,List.filter_eq_self.2 (by intro x hx;obtain⟨n,_,rfl⟩:=List.mem_map.1 hx;simpa using h)];simp
 rw[if_neg h,List.filter_eq_nil_iff.2 (by intro x hx;obtain⟨n,_,rfl⟩:=List.mem_map.1 hx;simpa using h)];rfl
theorem JX(id bL:Int)(ps:List Place):vK id (ps.filter λx=>!decide (x.bL=bL))=if id=bL then 0 else vK id ps:=by
 unfold vK;rw[List.filter_filter];by_cases h:id=bL
 .rw[if_pos h,List.length_eq_zero_iff,List.filter_eq_nil_iff];intro x _;simp;intro g;omega
 rw[if_neg h];congr 1;refine List.filter_congr λx _=>?_;by_cases g:x.bL=id
 .simp[g,h]
 simp[g]
theorem cI.ok.kP {s:cI} (h:s.ok) {i:Nat} {j:Jb} (hj:s.aJ[i]?=some j) (names:List az):(kP s i j j.id names).1.ok:=by
 have hm:=vag hj;obtain⟨g1,g2,g3⟩:=h.yJ j hm;unfold Dem.kP;by_cases h1:j.runs=true
 .rw[if_pos h1];exact h
 rw[if_neg h1];by_cases h2:(names.length:Int)≠j.x.count
 .rw[if_pos h2];exact h
 rw[if_neg h2];by_cases h3:(!(eC j.x).2)=true
 .rw[if_pos h3];exact h
 rw[if_neg h3];by_cases h4:(jz s.tree j.x.path (eC j.x).1).2≠0
 .rw[if_pos h4];exact h
 rw[if_neg h4];rcases Dq s.bt j.id names j.x.iI with⟨_,e2⟩|⟨e,_⟩
 .rw[if_pos e2];exact h
 rw[if_neg (by rw[e];simp)];simp only[Decidable.not_not]at h2 h4;have hrf:j.runs=false:=by simpa using h1
 obtain⟨c1,c2,c3⟩:=Ft h h4;obtain⟨p1,p2⟩:=YX h.bt h.sx j.id names g2;rw[nA h.tP];rw[e]at p1 p2 ⊢;refine cI.ok.event (s:=⟨s.round,s.next,_,_,s.aJ.set i {j with runs:=true,left:=j.x.dX},_,s.ev,s.au⟩) ?_ _ _;have hs:∀y,y∈s.aJ.set i {j with runs:=true,left:=j.x.dX}↔y={j with runs:=true,left:=j.x.dX}∨(y∈s.aJ/\y.id≠j.id):=λy=>JT h.ids hj
 obtain⟨_,_,_,Y4,_⟩:=fV.1 g1;exact{
  bt:=p1,sx:=p2,tree:=c1,notes:=h.notes
  used:=λe he k hk=>by
   have:=Dt k e.path {j with runs:=true,left:=j.x.dX} hj;have t0:ie k e.path j=0:=by simp[ie,hrf]
   have t1:ie k e.path {j with runs:=true,left:=j.x.dX}=if e.path∈above j.x.path then vk k (eC j.x).1 else 0:=by simp[ie]
   rw[t0,t1]at this;rw[c3 e he k hk];simp only;omega
  most:=by simp only[List.length_set];exact h.most
  next:=h.next
  ids:=JU h.ids hj rfl
  GR:=λy hy=>by rcases(hs y).1 hy with rfl|⟨g,_⟩;exact h.GR j hm;exact h.GR y g
  yJ:=λy hy=>by
   rcases(hs y).1 hy with rfl|⟨g,_⟩
   .exact⟨g1,g2,kR c2 g3⟩
   obtain⟨a,b,c⟩:=h.yJ y g;exact⟨a,b,kR c2 c⟩
  left:=λy hy=>by
   rcases(hs y).1 hy with rfl|⟨g,_⟩
   .exact⟨λ_=>⟨Y4.1,Int.le_refl _⟩,λg=>by cases g⟩
   exact h.left y g
  zU:=h.zU.filter _
  tP:=h.tP.filter _
  vv:=λq=>by
   show q∈s.queue.filter _↔_;rw[vaK,h.vv q];constructor
   .rintro⟨⟨y,a,b,rfl⟩,c⟩;exact⟨y,(hs y).2 (.inr ⟨a,by simpa using c⟩),b,rfl⟩
   rintro⟨y,a,b,rfl⟩;rcases(hs y).1 a with rfl|⟨g,g4⟩
   .cases b
   exact⟨⟨y,g,b,rfl⟩,by simpa using g4⟩
  places:=λx hx=>by
   rcases List.mem_append.1 hx with g|g
   .obtain⟨y,a,b,c,d⟩:=h.places x g;refine⟨y,(hs y).2 (.inr ⟨a,λe2=>?_⟩),b,c,d⟩;have:=mK h.ids a hm e2
    subst this;rw[hrf]at b;cases b
   obtain⟨n,_,rfl⟩:=List.mem_map.1 g;exact⟨_,(hs _).2 (.inl rfl),rfl,rfl,rfl⟩
  count:=λy hy hr=>by
   show((vK y.id (s.bt.places++names.map λn=>(⟨j.id,n,j.x.iI⟩:Place)):Nat):Int)=_;rw[MI,S1];rcases(hs y).1 hy with rfl|⟨g,g4⟩
   .have:vK j.id s.bt.places=0:=by unfold vK;rw[List.length_eq_zero_iff,List.filter_eq_nil_iff];intro x hx;simpa using h.OF hm hrf x hx
    simp only[this];simp;exact h2
   rw[if_neg (λe2=>g4 e2.symm),Nat.add_zero];exact h.count y g hr}
theorem cI.ok.S2 {s:cI} (h:s.ok) (id:Int) (names:List az):(dQ s id names).1.ok:=by
 unfold dQ;cases hf:s.aJ.findIdx? (λj=>decide (j.id=id))with
 |none=>exact h|some k=>obtain⟨j,a,b,c⟩:=wI hf;simp only;rw[c,<-b];exact h.kP a names
theorem cI.ok.kS {s:cI} (h:s.ok) {i:Nat} {j:Jb} (hj:s.aJ[i]?=some j) (hr:j.runs=true):
 oQ s j=⟨s.round,s.next,yB s.bt j.id,yD (ff j.tot) (above j.x.path) s.tree,s.aJ,s.queue,s.ev,s.au⟩:=by
 have hm:=vag hj;unfold oQ;rw[if_pos (fV.1 (h.yJ j hm).1).2.2.2.2.2,(qn h hj hr).1]
theorem cI.ok.Y5 {s:cI} (h:s.ok) {j:Jb} (hm:j∈s.aJ) (hr:j.runs=true):
 gk s.queue ⟨j.id,j.x.prio⟩=(s.queue.take (vu s.queue ⟨j.id,j.x.prio⟩)++⟨j.id,j.x.prio⟩::s.queue.drop (vu s.queue ⟨j.id,j.x.prio⟩),0):=by
 rcases tO s.queue ⟨j.id,j.x.prio⟩with⟨_,_,e|⟨q,hq,e⟩|e⟩|⟨e,_⟩
 .rw[PS (h.yJ j hm).1]at e;cases e
 .exact absurd e (h.GS hm hr q hq)
 .have h1:=h.Y3;have h2:=h.most
  have h3:iP s.aJ<s.aJ.length:=by unfold iP;exact List.length_filter_lt_length_iff_exists.2 ⟨j,hm,by simp[hr]⟩
  omega
 exact e
theorem cI.ok.stop {s:cI} (h:s.ok) (id kind:Int):(m6 s id kind).1.ok:=by
 unfold m6;cases hf:s.aJ.findIdx? (λj=>decide (j.id=id))with
 |none=>exact h|some i=>
  obtain⟨j,hj,hid,c⟩:=wI hf;simp only;rw[c];by_cases h1:(!j.runs)=true
  .rw[if_pos h1];exact h
  rw[if_neg h1];have hr:j.runs=true:=by simpa using h1
  have hm:=vag hj;obtain⟨g1,g2,g3⟩:=h.yJ j hm;obtain⟨_,c1,c2,c3⟩:=qn h hj hr;rw[h.kS hj hr,<-hid];simp only[Fk];rw[h.Y5 hm hr];obtain⟨p1,p2⟩:=JS h.bt h.sx j.id;refine cI.ok.event (s:=⟨s.round,s.next,_,_,s.aJ.set i {j with runs:=false,left:=0},_,s.ev,s.au⟩) ?_ _ _;have hs:∀y,y∈s.aJ.set i {j with runs:=false,left:=0}↔y={j with runs:=false,left:=0}∨(y∈s.aJ/\y.id≠j.id):=λy=>JT h.ids hj
  exact{
   bt:=p1,sx:=p2,tree:=c1,notes:=h.notes
   used:=λe he k hk=>by
    have:=Dt k e.path {j with runs:=false,left:=0} hj;have t1:ie k e.path {j with runs:=false,left:=0}=0:=by simp[ie]
    rw[t1]at this;have:=c3 e he k hk;simp only;omega
   most:=by simp only[List.length_set];exact h.most
   next:=h.next
   ids:=JU h.ids hj rfl
   GR:=λy hy=>by rcases(hs y).1 hy with rfl|⟨g,_⟩;exact h.GR j hm;exact h.GR y g
   yJ:=λy hy=>by
    rcases(hs y).1 hy with rfl|⟨g,_⟩
    .exact⟨g1,g2,kR c2 g3⟩
    obtain⟨a,b,c⟩:=h.yJ y g;exact⟨a,b,kR c2 c⟩
   left:=λy hy=>by
    rcases(hs y).1 hy with rfl|⟨g,_⟩
    .exact⟨λg=>(by cases g),λ_=>rfl⟩
    exact h.left y g
   zU:=Dn h.zU (h.GS hm hr)
   tP:=JQ h.tP (h.GS hm hr) _
   vv:=λq=>by
    show q∈List.take _ s.queue++_::List.drop _ s.queue↔_;rw[JP,h.vv q];constructor
    .rintro(⟨y,a,b,rfl⟩|rfl)
     .refine⟨y,(hs y).2 (.inr ⟨a,λe=>?_⟩),b,rfl⟩;have:=mK h.ids a hm e
      subst this;rw[hr]at b;cases b
     exact⟨_,(hs _).2 (.inl rfl),rfl,rfl⟩
    rintro⟨y,a,b,rfl⟩;rcases(hs y).1 a with rfl|⟨g,g4⟩
    .exact .inr rfl
    exact .inl ⟨y,g,b,rfl⟩
   places:=λx hx=>by obtain⟨hx1,Rk⟩:=List.mem_filter.1 hx;obtain⟨y,a,b,c,d⟩:=h.places x hx1;exact⟨y,(hs y).2 (.inr ⟨a,by rw[c];simpa using Rk⟩),b,c,d⟩
   count:=λy hy hr=>by
    rcases(hs y).1 hy with rfl|⟨g,g4⟩
    .cases hr
    show((vK y.id (s.bt.places.filter λx=>!decide (x.bL=j.id)):Nat):Int)=_;rw[JX,if_neg g4];exact h.count y g hr}
theorem cI.ok.end_ {s:cI} (h:s.ok) (id kind:Int):(send s id kind).1.ok:=by
 unfold send;cases hf:s.aJ.findIdx? (λj=>decide (j.id=id))with
 |none=>exact h|some i=>
  obtain⟨j,hj,hid,c⟩:=wI hf;simp only;rw[c];have hm:=vag hj
  have hs:∀y,y∈s.aJ.eraseIdx i↔y∈s.aJ/\y.id≠j.id:=λy=>MF h.ids hj;have hlen:(s.aJ.eraseIdx i).length<=s.aJ.length:=by rw[List.length_eraseIdx];split<;>omega
  have hsub:(s.aJ.eraseIdx i).Sublist s.aJ:=List.eraseIdx_sublist _ _;by_cases hr:j.runs=true
  .rw[if_pos hr,h.kS hj hr];obtain⟨_,c1,c2,c3⟩:=qn h hj hr;obtain⟨p1,p2⟩:=JS h.bt h.sx j.id;refine cI.ok.event (s:=⟨s.round,s.next,_,_,s.aJ.eraseIdx i,s.queue,s.ev,s.au⟩) ?_ _ _;exact{
    bt:=p1,sx:=p2,tree:=c1,notes:=h.notes
    used:=λe he k hk=>by have:=wH k e.path hj;have:=c3 e he k hk;simp only;omega
    most:=Nat.le_trans hlen h.most
    next:=h.next
    ids:=h.ids.sublist hsub
    GR:=λy hy=>h.GR y ((hs y).1 hy).1
    yJ:=λy hy=>by obtain⟨a,b,c⟩:=h.yJ y ((hs y).1 hy).1;exact⟨a,b,kR c2 c⟩
    left:=λy hy=>h.left y ((hs y).1 hy).1
    zU:=h.zU,tP:=h.tP
    vv:=λq=>by
     rw[h.vv q];constructor
     .rintro⟨y,a,b,rfl⟩;refine⟨y,(hs y).2 ⟨a,λe=>?_⟩,b,rfl⟩;have:=mK h.ids a hm e
      subst this;rw[hr]at b;cases b
     rintro⟨y,a,b,rfl⟩;exact⟨y,((hs y).1 a).1,b,rfl⟩
    places:=λx hx=>by obtain⟨hx1,Rk⟩:=List.mem_filter.1 hx;obtain⟨y,a,b,c,d⟩:=h.places x hx1;exact⟨y,(hs y).2 ⟨a,by rw[c];simpa using Rk⟩,b,c,d⟩
    count:=λy hy hr=>by
     obtain⟨g,g4⟩:=(hs y).1 hy;show((vK y.id (s.bt.places.filter λx=>!decide (x.bL=j.id)):Nat):Int)=_
     rw[JX,if_neg g4];exact h.count y g hr}
  have hrf:j.runs=false:=by simpa using hr
  rw[if_neg hr,nA h.tP,<-hid];refine cI.ok.event (s:=⟨s.round,s.next,s.bt,s.tree,s.aJ.eraseIdx i,_,s.ev,s.au⟩) ?_ _ _;exact{
   bt:=h.bt,sx:=h.sx,tree:=h.tree,notes:=h.notes
   used:=λe he k hk=>by
    have:=wH k e.path hj;have t0:ie k e.path j=0:=by simp[ie,hrf]
    rw[h.used e he k hk];simp only;omega
   most:=Nat.le_trans hlen h.most
   next:=h.next
   ids:=h.ids.sublist hsub
   GR:=λy hy=>h.GR y ((hs y).1 hy).1
   yJ:=λy hy=>h.yJ y ((hs y).1 hy).1
   left:=λy hy=>h.left y ((hs y).1 hy).1
   zU:=h.zU.filter _
   tP:=h.tP.filter _
   vv:=λq=>by
    show q∈s.queue.filter _↔_;rw[vaK,h.vv q];constructor
    .rintro⟨⟨y,a,b,rfl⟩,c⟩;exact⟨y,(hs y).2 ⟨a,by simpa using c⟩,b,rfl⟩
    rintro⟨y,a,b,rfl⟩;obtain⟨g,g4⟩:=(hs y).1 a;exact⟨⟨y,g,b,rfl⟩,by simpa using g4⟩
   places:=λx hx=>by
    obtain⟨y,a,b,c,d⟩:=h.places x hx;refine⟨y,(hs y).2 ⟨a,λe=>?_⟩,b,c,d⟩;have:=mK h.ids a hm e
    subst this;rw[hrf]at b;cases b
   count:=λy hy hr=>h.count y ((hs y).1 hy).1 hr}
structure iQ where
 kind:Nat
 a:Nat
 b:Nat
 c:Nat
 d:Nat
structure iQ.u (x:iQ):Prop where
 kind:x.kind<256
 a:x.a<256
 b:x.b<256
 c:x.c<256
 d:x.d<256
def iQ.cells (x:iQ):List D:=[.int .u8 x.kind,.int .u8 x.a,.int .u8 x.b,.int .u8 x.c,.int .u8 x.d]
def Du:List az:=[[97],[97,47,98],[98],[206,177,206,178]]
def pH:List az:=[[110,49],[110,50],[110,51]]
def Bu(x:iQ):Ask:=⟨Du.getD (x.a%4) [],⟨(x.b%5:Nat),(x.b / 5%5:Nat),0,(x.b / 25%3:Nat)⟩,(1+x.c%3:Nat),(x.c / 3%4:Nat),(1+x.d%5:Nat),if 200<x.d then[⟨V0,decide (x.d%2=1),[[97]]⟩]else[]⟩
def XU:List az:=[[97],[97,47,98],[98]]
def tQ(m:Nat):Nat->List aR
 |0=>(yA [⟨[],bz.zero,bz.zero⟩] [] ⟨30,30,30,30⟩).1|i+1=>(yA (tQ m i) (XU.getD i []) ⟨(6+4*i+m:Nat),20,20,20⟩).1
def Bv(i:Nat):List bT:=if i<2 then[⟨V0,[[97],[98]].getD i []⟩]else[]
def V9(n i:Nat):Bool:=decide (n / 2^(5+i)%2=0)
def fA(n:Nat):Nat->cR
 |0=>⟨[],[]⟩|i+1=>if V9 n i then(sD (fA n i) ⟨pH.getD i [],⟨(4+2*i:Nat),9,9,9⟩,Bv i,false⟩).1 else fA n i
def dY(n:Nat):cI:=⟨0,1,fA n 3,tQ (n%5) 3,[],[],⟨0,[]⟩,⟨0,[]⟩⟩
def jS(x:iQ)(s:cI):cI:=
 if x.kind%8<=2 then(dF s (Bu x)).1 else
 if x.kind%8<=4 then(if(fit (zT s.bt) (fy s.aJ (x.a%12:Nat)).1.x.cj (fy s.aJ (x.a%12:Nat)).1.x.iI (fy s.aJ (x.a%12:Nat)).1.x.count).2 then
  (dQ s (x.a%12:Nat) (fit (zT s.bt) (fy s.aJ (x.a%12:Nat)).1.x.cj (fy s.aJ (x.a%12:Nat)).1.x.iI (fy s.aJ (x.a%12:Nat)).1.x.count).1).1 else s)else
 if x.kind%8=5 then(m6 s (x.a%12:Nat) 5).1 else
 if x.kind%8=6 then(send s (x.a%12:Nat) 4).1 else
 (dQ s (x.a%12:Nat) (pH.take (x.b%4))).1
def dh(n:Nat)(l:List iQ)(k:Nat):cI:=(l.take k).foldl (λs x=>jS x s) (dY n)
theorem A3{n:Nat}{l:List iQ}{k:Nat}{x:iQ}(h:l[k]?=some x):dh n l (k+1)=jS x (dh n l k):=by unfold dh;rw[nJ h,List.foldl_append];rfl
def qo(m:Nat):List aR:=[⟨[],⟨30,30,30,30⟩,bz.zero⟩,⟨[97],⟨(6+m:Nat),20,20,20⟩,bz.zero⟩,⟨[97,47,98],⟨(10+m:Nat),20,20,20⟩,bz.zero⟩,⟨[98],⟨(14+m:Nat),20,20,20⟩,bz.zero⟩]
theorem GU:∀m<5,tQ m 3=qo m:=by decide+kernel
theorem S3:∀m<5,∀i<4,(tQ m i).length<=4:=by decide+kernel
theorem Wa{n:Nat}(i:Nat):V9 n i=V9 (n / 32*32) i:=by unfold V9;rw[show 5+i=5+i from rfl,Nat.pow_add,<-Nat.div_div_eq_div_mul,<-Nat.div_div_eq_div_mul,show(2:Nat)^5=32 from rfl,Nat.mul_div_cancel _ (by decide)]
theorem JY(n:Nat):∀i,fA n i=fA (n / 32*32) i
 |0=>rfl|i+1=>by rw[fA,fA,<-JY n i,Wa]
theorem PU{m:Nat}(hm:m<5):Tree.ok (qo m)/\∀e∈qo m,e.used=bz.zero:=by
 have hz:∀e∈qo m,e.used=bz.zero:=by intro e he;simp only[qo,vax,List.not_mem_nil,or_false]at he;rcases he with rfl|rfl|rfl|rfl<;>rfl
 have hp:(qo m).map (·.path)=[[],[97],[97,47,98],[98]]:=rfl;refine⟨⟨⟨_,_,rfl,rfl⟩,by simp[qo],?_,?_,?_,?_,?_⟩,hz⟩
 .have:(((qo m).map (·.path)).Pairwise (·<·)):=by rw[hp];decide
  exact List.pairwise_map.1 this
 .intro e he;have:e.path∈(qo m).map (·.path):=List.mem_map_of_mem he
  rw[hp]at this;have hn:∀p∈([[],[97],[97,47,98],[98]]:List az),named p=true:=by decide+kernel
  exact hn _ this
 .intro e he;have h1:e.path∈(qo m).map (·.path):=List.mem_map_of_mem he
  have hn:∀p∈([[],[97],[97,47,98],[98]]:List az),parent p∈([[],[97],[97,47,98],[98]]:List az):=by decide+kernel
  rw[hp]at h1;have h2:=hn _ h1
  rw[<-hp]at h2;obtain⟨f,hf,g⟩:=List.mem_map.1 h2;exact⟨f,hf,g⟩
 .intro e he k _;rw[hz e he,uU];omega
 intro e he;refine⟨?_,by rw[hz e he];exact Mu⟩;simp only[qo,vax,List.not_mem_nil,or_false]at he;rcases he with rfl|rfl|rfl|rfl<;>(intro k hk;unfold bz.at_;split<;>simp only<;>omega)
theorem XW(i:Nat)(hi:i<3):(⟨(4+2*i:Nat),9,9,9⟩:bz).w:=by intro k hk;unfold bz.at_;split<;>simp only<;>omega
theorem OG(n:Nat):∀i≤3,(fA n i).ok/\(fA n i).w
 |0,_=>⟨V1,YZ⟩|i+1,h=>by
  obtain⟨a,b⟩:=OG n i (by omega);unfold fA;split
  .exact YY a b (XW i (by omega))
  exact⟨a,b⟩
theorem JZ(p:cR)(n:Node):(sD p n).1.places=p.places:=by
 rcases rH p n with⟨e,_⟩|⟨_,_,_,e⟩
 .rw[e]
 rw[e]
theorem tU(n:Nat):∀i,(fA n i).places=[]
 |0=>rfl|i+1=>by
  unfold fA;split
  .rw[JZ,tU n i]
  exact tU n i
theorem wJ(n:Nat):(dY n).ok:=by
 have hm:n%5<5:=Nat.mod_lt _ (by decide);obtain⟨t1,t2⟩:=PU hm;obtain⟨p1,p2⟩:=OG n 3 (vad _);unfold dY;rw[GU _ hm];exact{
  bt:=p1,sx:=p2,tree:=t1
  used:=λe he k _=>by simp only at he;rw[t2 e he,uU];rfl
  most:=by simp
  next:=by simp
  ids:=List.Pairwise.nil
  GR:=λj hj=>by cases hj
  yJ:=λj hj=>by cases hj
  left:=λj hj=>by cases hj
  zU:=List.Pairwise.nil
  tP:=List.Pairwise.nil
  vv:=λq=>by simp
  places:=λx hx=>by simp only at hx;rw[tU]at hx;cases hx
  count:=λj hj=>by cases hj
  notes:=by simp}
theorem S4(x:iQ):(Bu x).iI.w:=by intro k hk;unfold Bu bz.at_;split<;>simp only<;>omega
theorem cI.ok.done {s:cI} (h:s.ok) (x:iQ):(jS x s).ok:=by
 unfold jS;split
 .exact h.dF (S4 x)
 split
 .split
  .exact h.S2 _ _
  exact h
 split
 .exact h.stop _ _
 split
 .exact h.end_ _ _
 exact h.S2 _ _
theorem PV(n:Nat)(l:List iQ)(k:Nat):(dh n l k).ok:=by unfold dh;exact uR (P:=cI.ok) (λa b h=>h.done b) _ _ (wJ n)
end Dem
end
section
open Go Go.Proofs Go.ChangeShapes Go.WideShapes Go.RowKit
namespace Dem
section
variable {H:Type}{enc:TypeId×Value->H}{W:World}{v:Value}{d:DataW H}{p:List MemPlace}{base:Nat}
theorem wf_u8{n:Int}(h:(Lit.int .u8 n).wf=true):∃k:Nat,n=k/\k<256:=by simp only[Lit.wf,vae,IntKind.min,IntKind.max,IntKind.signed,IntKind.bits]at h;simp at h;exact⟨n.toNat,by omega,by omega⟩
theorem Wb{r:List D}(h:dg [.int .u8,.int .u8,.int .u8,.int .u8,.int .u8] r):∃x:iQ,r=x.cells/\x.u:=by simp only[dg,Ay]at h;obtain⟨_,_,rfl,⟨n0,rfl,h0⟩,_,_,rfl,⟨n1,rfl,h1⟩,_,_,rfl,⟨n2,rfl,h2⟩,_,_,rfl,⟨n3,rfl,h3⟩,_,_,rfl,⟨n4,rfl,h4⟩,rfl⟩:=h;obtain⟨k0,rfl,g0⟩:=wf_u8 h0;obtain⟨k1,rfl,g1⟩:=wf_u8 h1;obtain⟨k2,rfl,g2⟩:=wf_u8 h2;obtain⟨k3,rfl,g3⟩:=wf_u8 h3;obtain⟨k4,rfl,g4⟩:=wf_u8 h4;exact⟨⟨k0,k1,k2,k3,k4⟩,rfl,⟨g0,g1,g2,g3,g4⟩⟩
theorem PW(hval:Value.okWide Tryz.prog W .any base 22 v)(h:DataW.Trod enc Tryz.prog W 0 (λ_=>true) true 22 v d p):
 ∃l:List iQ,ai (λ_=>0) [] W (okW W) (SL (l.map iQ.cells)) v/\(∀x∈l,x.u)/\l.length<=maxLen:=by
 obtain⟨fuel,hf⟩:=h;obtain⟨a,len,cap,rfl⟩:=okWide_slice (show Tryz.prog.underlying 22=some (.slice 72) by kernel_rfl) hval;obtain⟨h1,h2⟩:=xK (Y0 W) 8 fuel 22 [.slice a len cap] (d,p) [.sl [.int .u8,.int .u8,.int .u8,.int .u8,.int .u8]] hf (by kernel_rfl);simp only[dg,Ay]at h2;obtain⟨_,_,e,⟨es,rfl,hl,hr⟩,rfl⟩:=h2;rw[e]at h1;simp only[cJ]at h1;obtain⟨u,r,e2,h3,rfl⟩:=h1;cases e2;obtain⟨l,rfl,pV⟩:=OC (cells:=iQ.cells) (Q:=iQ.u) es (λr hm=>Wb (hr r hm));exact⟨l,by simpa only[ai]using h3,pV,by simpa using hl⟩
theorem S5(hval:Value.okWide Tryz.prog W .any base 5 v)(h:DataW.Trod enc Tryz.prog W 0 (λ_=>true) true 5 v d p):
 ∃k:Nat,ai (λ_=>0) [] W (okW W) (.d (.int .u8 (k:Int))) v/\k<256:=by
 obtain⟨n,rfl,_,_,hw⟩:=open_int (show Tryz.prog.underlying 5=some (.int .u8) by kernel_rfl) hval h;obtain⟨k,rfl,hk⟩:=wf_u8 hw;exact⟨k,by simp only[ai,aP],hk⟩
end
end Dem
end
section
open Go Go.Proofs Go.ChangeShapes Go.WideShapes Go.RowKit
namespace Dem
theorem wf_u16{n:Int}(h:(Lit.int .u16 n).wf=true):∃k:Nat,n=k/\k<65536:=by simp only[Lit.wf,vae,vai,IntKind.min,IntKind.max,IntKind.signed,IntKind.bits]at h;simp at h;exact⟨n.toNat,by omega,by omega⟩
section
variable {H:Type}{enc:TypeId×Value->H}{W:World}{v:Value}{d:DataW H}{p:List MemPlace}{base:Nat}
theorem Wc(hval:Value.okWide Tryz.prog W .any base 23 v)(h:DataW.Trod enc Tryz.prog W 0 (λ_=>true) true 23 v d p):
 ∃k:Nat,ai (λ_=>0) [] W (okW W) (.d (.int .u16 (k:Int))) v/\k<65536:=by
 obtain⟨n,rfl,_,_,hw⟩:=open_int (show Tryz.prog.underlying 23=some (.int .u16) by kernel_rfl) hval h;obtain⟨k,rfl,hk⟩:=wf_u16 hw;exact⟨k,by simp only[ai,aP],hk⟩
theorem S6(hval:Value.okWide Tryz.prog W .any base 9 v)(h:DataW.Trod enc Tryz.prog W 0 (λ_=>true) true 9 v d p):
 ∃s:az,ai (λ_=>0) [] W (okW W) (ST s) v/\DataW.weights Tryz.prog 9 d=[s.length]:=by
 obtain⟨fuel,hf⟩:=h;obtain⟨s,rfl⟩:=okWide_string (show Tryz.prog.underlying 9=some .string by kernel_rfl) hval;obtain⟨b,hb,hd,_⟩:=DataW.trod_string (show Tryz.prog.underlying 9=some .string by kernel_rfl) hf;obtain rfl:s=b:=by injection hb with e1 e2;injection e1
 obtain⟨rfl,_⟩:=Prod.mk.inj hd;exact⟨s.data.toList,by simp only[ai,aP],by simp[DataW.weights]⟩
end
theorem Wd{C:Checked}{s:ChangeSpec}(hv:s.vars=[]):s.plain.varTypes C.prog=[]:=by simp[DataSpec.varTypes,ChangeSpec.plain,hv]
theorem MJ{H:Type}{enc:TypeId×Value->H}{os:Os}(started:os.Started){F:FuncId}{fn:Func}{s:ChangeSpec}(hfn:Tryz.checked.prog.funcs[F]?=some fn)(hni:Tryz.checked.prog.inits.idxOf? F=none)(hv:s.vars=[])(hrt:fn.resultTypes=#[4])
 (hts:(fn.params.toList.all λt=>Tryz.prog.readableRec t&&decide (t<Tryz.prog.types.size))=true)
 (hs:∀ds:List (DataW H),ds.length=fn.params.toList.length->(s.fn H ds).results=[.lit (.bool true)]/\(s.fn H ds).args=ds/\(s.fn H ds).vars=[])
 (witness:∃(w:World) (tape:Tape) (i:Input),w.os=os/\(w.forCall tape i).Shaped Tryz.checked.prog/\i.vars=[]/\Input.okWide Tryz.checked.prog (w.forCall tape i) .any w.heap.size F i/\
  ((s.pre enc Tryz.checked.prog fn [] false (w.forCall tape i).memory i.args/\laidMetH Tryz.prog yq (w.forCall tape i).memory)/\sizedMet enc Tryz.checked.prog fn (OpenSpec.ofChange s) false (w.forCall tape i).memory i.args)/\({}:Assume).holds Tryz.checked.prog (lone (Frame.enter Tryz.checked.prog F i.args .normal) [] (w.forCall tape i)))
 (Y6:∀(W:World) (args:Array Value) (ds:List (DataW H)) (p:List MemPlace),laidMetH Tryz.prog yq W->DataW.TrodAll enc Tryz.prog W 0 (λ_=>true) true fn.params.toList args.toList ds p->
  (∀(j:Nat) t v,fn.params[j]?=some t->args[j]?=some v->∃base,Value.okWide Tryz.prog W .any base t v)->
  (DataW.weightsEach Tryz.prog fn.params.toList ds).all (·<=reachBytes)=true->
  Calls Tryz.prog F args W λe w'=>e=.returned (.bool true)/\RowKit.Below W.heap.size W w'):
 ReturnsInHanded {} Tryz.checked os F .any (λw args=>(s.pre enc Tryz.checked.prog fn [] false w args/\laidMetH Tryz.prog yq w)/\sizedMet enc Tryz.checked.prog fn (OpenSpec.ofChange s) false w args) (s.post enc Tryz.checked.prog fn false true false false):=by
 refine returnsInHanded_of_change_and (C:=Tryz.checked) (X:=λw _=>laidMetH Tryz.prog yq w) (λ_ _ _ hh h=>h.of_heap hh) own started hni hfn witness ?_;intro W base args ds gs before hval hW _ hz hL _;have hW':=hW
 obtain⟨p,q,hA,hV,rfl,hfz,hnd⟩:=hW;rw[hv]at hV;obtain⟨rfl,rfl⟩:=trodVars_none hV;have hlen:ds.length=fn.params.toList.length:=Jx _ _ _ _ hA
 obtain⟨s1,s2,s3⟩:=hs ds hlen;refine(Y6 W args ds p hL hA (λj t v h1 h2=>⟨base,hval j t v h1 h2⟩) (by rw[Wd (C:=Tryz.checked) hv,List.append_nil,List.append_nil]at hz;exact hz)).mono λe w' ⟨he,hb⟩=>?_;refine⟨.bool true,he,ds,[],p++[],[],p,[],hW',?_,?_,?_,Ek hb _,λh=>by cases h⟩
 .rw[List.append_nil,s1,hrt];exact trodAll_mk1 (shut_bool aby _)
 .rw[List.append_nil,s2];exact Ej laidOut hb _ _ _ _ hts (λx hx=>hW'.lt x (by simpa using hx)) hA
 rw[List.append_nil,s3,hv];rfl
end Dem
end
section
open Go Go.Proofs
namespace Dem
theorem cC{t:Th}(ht:TT t){f N:Nat}{fn:Func}{c:Code}{args:List AV}{aE:List av}{res:eP}(hf:Tryz.prog.funcs[f]?=some fn){rs:List ResultVar}(h:ph t FC tT gl N 0 c (iq t tT rs 0 res aE) ⟨fH 0 args,[]⟩)
 (hb:fn.body=some c:=by rfl) (hname:(fn.name== "runtime.NumGoroutine")=false:=by rfl) (hN:fn.ntmps=N:=by rfl) (Bn:fn.results.toList=rs:=by rfl) (hlen:gq args.length N=true:=by rfl):FC f args [] res aE:=
 kJ ht (aK:=[]) hf hb hname hN Bn rfl hlen h
theorem ak{n:Nat}{c d:Prop}{v u:AV}{bx aE:List av}{res:eP}(hr:res=.ret u)(hc:c:=by trivial)(hd:d:=by trivial)(hw:u.within n=true:=by rfl)(hb:aE=(rZ bx v).take n:=by rfl)(VL:bY n aE=true:=by rfl):zJ n c v bx (some (d,u)) res aE:=
 ia hc hd hw hb VL hr
theorem mV{ops:List Oper}{A:Option Nat->List Bool->Prop}{X:List Nat->Prop}{B1:OT->Option St->Prop}{B2:St->Prop}{B3:List Nd->List St->Prop}(pre late:List Nat)(fs:List Bool)(h:A none fs)(hp:iM ops.toArray [] pre=true:=by kernel_rfl)(hs:m0 ops.toArray=true:=by kernel_rfl)(hl:uw (bQ pre 0 ops).toArray late=true:=by kernel_rfl)(hx:X pre:=by kernel_rfl)
 (h1:gP (gU (bQ pre 0 ops).toArray late 0 (bQ pre 0 ops)).toArray (cD (gU (bQ pre 0 ops).toArray late 0 (bQ pre 0 ops)) []) 0 (gU (bQ pre 0 ops).toArray late 0 (bQ pre 0 ops))=true:=by kernel_rfl)
 (h2:kE (cD (gU (bQ pre 0 ops).toArray late 0 (bQ pre 0 ops)) []) 0 ops=fs:=by kernel_rfl):yc ops A X B1 B2 B3:=
 aaP pre late fs hp hs hl hx h1 h2 h
theorem bE{ops:List Oper}{A:Option Nat->List Bool->Prop}{X:List Nat->Prop}{B1:OT->Option St->Prop}{B2:St->Prop}{B3:List Nd->List St->Prop}(fs:List Bool)(h:A none fs)(h1:gP ops.toArray (cD ops []) 0 ops=true:=by kernel_rfl)(h2:kE (cD ops []) 0 ops=fs:=by kernel_rfl):yc ops A X B1 B2 B3:=aaO fs h1 h2 h
section
variable {P:Program}{FC:Nat->List AV->List av->eP->List av->Prop}{kX:Prop}{f:Nat}{args args':List AV}{c:Prop}{bx:List av}{K Kp:AV->List av->Prop}{ρ:Type}
theorem aM{E:ρ->AV}{r0:ρ}(h:FC f args' [] (.ret (E r0)) [])(hc:c)(hK:∀r,r=r0->K (E r) bx)(ho:kX:=by trivial)(hs:AV.shut.mZ args'=true:=by rfl)(hz:fq [] args=some args':=by rfl)(hv:(E r0).shut=true:=by rfl):oM FC kX f args (some (c,args')) bx K Kp:=
 YN ho h hc hs hz hv hK
theorem ar{E:ρ->AV}{r0:ρ}(h:FC f args' [] (.ret (E r0)) [])(hc:c)(hK:∀r,r=r0->K (E r) bx)(ho:kX:=by trivial)(hs:AV.shut.mZ args'=true:=by rfl)(hf:(E r0).flat=true:=by rfl):oM FC kX f args (some (c,args')) bx K Kp:=
 YM ho h hc hs hf hK
end
theorem je{A B C D E F G R:Type}{a:A->R}{b:B->R}{c:C->R}{d:D->R}{e:E->R}{f:F->R}{g:G->R}{k l m n o p q:List R}{k':List A}{l':List B}{m':List C}{n':List D}{o':List E}{p':List F}{q':List G}(h1:k=k'.map a)(h2:l=l'.map b)(h3:m=m'.map c)(h4:n=n'.map d)(h5:o=o'.map e)(h6:p=p'.map f)(h7:q=q'.map g):
 k.length=k'.length/\l.length=l'.length/\m.length=m'.length/\n.length=n'.length/\o.length=o'.length/\p.length=p'.length/\q.length=q'.length:=by
 simp[*]
end Dem
end
section
open Go Dem Go.Proofs
namespace Dem
variable {t:Th}
theorem abD(u:Int)(hu:0<=u):UInt8.ofNat (IntKind.u8.wrap ((BitVec.ofInt IntKind.u8.bits (IntKind.u8.wrap u) ||| BitVec.ofInt IntKind.u8.bits 128).toNat)).toNat=UInt8.ofNat (u.toNat%128+128):=by
 have key:∀n:Nat,n<256->UInt8.ofNat (IntKind.u8.wrap ((BitVec.ofInt IntKind.u8.bits (n:Int) ||| BitVec.ofInt IntKind.u8.bits 128).toNat)).toNat=UInt8.ofNat (n%128+128):=by decide
 obtain⟨n,rfl⟩:=Int.eq_ofNat_of_zero_le hu;have e:IntKind.u8.wrap (n:Int)=((n%256:Nat):Int):=by simp[IntKind.wrap,IntKind.signed,IntKind.bits]
 rw[e,key _ (by omega),vak];congr 2;omega
theorem S7(ht:TT t)(u:Int)(hu:u<18446744073709551616){s:az}(h:s=aF u):FC 20 [aA u] [] (.ret (ST s)) []:=by
 obtain⟨J,hJ⟩:∃J:Nat->Int×List (List D)->Prop,∀n v,J n v↔(v.1<128^(n+1)/\v.2.length+n=9/\(∀r∈v.2,nF r)/\v.2.map jY++iL n v.1=s):=⟨λn v=>v.1<128^(n+1)/\v.2.length+n=9/\(∀r∈v.2,nF r)/\v.2.map jY++iL n v.1=s,λ_ _=>Iff.rfl⟩;refine cC ht Tryz.func20 (N:=20) ?_;cbv;refine bw ⟨[0,2,3],[(3,1)],[]⟩ (σ:=Int×List (List D)) (λv=>[(0,aA v.1),(3,.ow 0 1 (t _ λ_=>v.2.length))]) (λv=>[(0,.row 1 (t _ λ_=>v.2))]) J ?_;cbv;refine aC ⟨9,(u,[]),(hJ _ _).2 ⟨Int.lt_of_lt_of_le hu (by decide),rfl,by simp,by simp[h,aF]⟩,by simp only[ht];rfl,?_⟩;rintro n ⟨v,es⟩ hj;obtain⟨g1,g2,g4,g5⟩:=(hJ _ _).1 hj;clear hj;simp only at g1 g2 g4 g5;cbv;apply aj<;>intro hc
 .simp only[ht,vai]at hc;cbv;have hv:0<=v:=by omega
  have e1:v.fdiv (2^min (Int.toNat 7) IntKind.u64.bits)=v / 128:=Int.fdiv_eq_ediv_of_nonneg _ (by decide);have hn:1<=n:=by
   rcases Nat.lt_or_ge n 1 with h1|h1
   .have:n=0:=by omega
    subst this;simp at g1;omega
   exact h1
  obtain⟨m,rfl⟩:∃m,n=m+1:=⟨n-1,by omega⟩;refine⟨?_,by simp[ht],aC ⟨m,(v / 128,es++[[.int .u8 (IntKind.u8.wrap ((BitVec.ofInt IntKind.u8.bits (IntKind.u8.wrap v) ||| BitVec.ofInt IntKind.u8.bits 128).toNat))]]),⟨by omega,(hJ _ _).2 ⟨?_,?_,?_,?_⟩⟩,?_⟩⟩
  .simp only[ht];refine⟨hY,by simp;omega,?_⟩;intro r hr;rcases List.mem_append.1 hr with hr|hr
   .obtain⟨z,rfl⟩:=g4 r hr;rfl
   simp at hr;subst hr;rfl
  .show v / 128<128^(m+1);rw[Int.pow_succ]at g1;omega
  .simp;omega
  .intro r hr;rcases List.mem_append.1 hr with hr|hr
   .exact g4 r hr
   simp at hr;subst hr;exact⟨_,rfl⟩
  .rw[<-g5];show List.map jY (es++_)++iL m (v / 128)=_
   rw[iL,if_pos hc,List.map_append,vas];congr 1;simp only[List.map_cons,List.map_nil,jY,List.cons_append,List.nil_append];rw[abD v hv]
  simp only[ht,e1,vaa];rfl
 simp only[ht,vap]at hc;cbv;simp only[ht];refine⟨⟨hY,by simp;omega,?_⟩,⟨by simp,?_⟩,ak ?_⟩
 .intro r hr;rcases List.mem_append.1 hr with hr|hr
  .obtain⟨z,rfl⟩:=g4 r hr;rfl
  simp at hr;subst hr;rfl
 .intro r hr;rcases List.mem_append.1 hr with hr|hr
  .exact g4 r hr
  simp at hr;subst hr;exact⟨_,rfl⟩
 rw[<-g5];have e2:iL n v=[UInt8.ofNat (v%256).toNat]:=by
  cases n with
  |zero=>rfl|succ m=>rw[iL,if_neg hc]
 rw[e2];simp only[List.map_append,List.map_cons,List.map_nil,jY];rfl
theorem MK(ht:TT t)(s:az)(hs:s.length<9223372036854775000){r:az}(h:r=aB s):FC 64 [ST s] [] (.ret (ST r)) []:=by
 obtain⟨k,hk⟩:∃k,k=aF s.length:=⟨_,rfl⟩;have e:IntKind.u64.wrap (s.length:Int)=s.length:=by simp[IntKind.wrap,IntKind.signed,IntKind.bits];omega
 have hkl:k.length<=10:=hk▸bG _;refine cC ht Tryz.func64 (N:=9) ?_;cbv;refine iW hY (S7 ht _ ?_ (s:=k) ?_) hY rfl rfl ?_
 .simp only[ht,aa,e];omega
 .simp only[ht,aa,e];exact hk
 cbv;refine⟨by simp only[ht];omega,ak ?_⟩;simp only[ht,h,aB,hk]
theorem cZ(ht:TT t)(u:Int)(hu:u<18446744073709551616):FC 20 [aA u] [] (.ret (rD (t _ λ_=>aF u))) []:=by simp only[ht];exact S7 ht u hu rfl
theorem S8(ht:TT t)(s:az)(p u next:Int)(ok:Bool)(hu:u<18446744073709551616)(hn:0<next->0<=p/\p<=next/\next<=s.length){r:BK}(hr:r=pn s p u next):
 FD 174 [.ptr 3 0,.ptr 2 0,.ptr 0 0,.ptr 1 0,.ptr 4 0] [.var [ST s],.var [bf p],.var [aA u],.var [bf next],.var [BL ok]] (.ret (.c5 [])) [.var [ST s],.var [bf p],.var [aA r.u],.var [bf r.next],.var [BL r.ok]]:=by
 refine fdC ht (aK:=[.var [ST s],.var [bf p],.var [aA u],.var [bf next],.var [BL ok]]) Tryz.func174 rfl rfl (N:=18) rfl rfl (n:=5) rfl rfl ?_;cbv;refine bE [true,true,true,false,false,false,false,false,false,true,true,true] ?_;cbv;refine gI (by simp[ht]) ?_;refine aT (λg0=>⟨by simp[ht]at g0 ⊢;exact g0,hY,cZ ht _ ‹_›⟩) rfl rfl (λr1 ej=>?_);simp only[ht]at ej;cbv;iterate 3 refine gI (by simp[ht]) ?_
 refine gI (by simp[ht,b9];grind) ?_;refine gI (by simp[ht]) ?_;refine pI (by simp[ht]) ?_;apply aj<;>intro h2
 .simp[ht]at h2;cbv;refine ia hY hY rfl ?_ rfl rfl;(have e:pn s p u next=BK.no:=(by rw[pn,if_neg];rintro⟨g1,g2⟩;rw[<-ej]at g2;rcases h2 with h2|h2;(· omega);(· exact h2 (by simp[gZ,g2])));have e2:(decide (0<next)&&decide (r1=gZ s (some p) (some next)))=false:=(by rcases h2 with h2|h2;(· simp;intro h;omega);(· simp[h2]));rw[hr,e];simp[rZ,fI,ht,BK.no,e2];done)
 simp[ht]at h2;cbv;refine ia hY hY rfl ?_ rfl rfl;(have e:pn s p u next=⟨u,next,true⟩:=(by rw[pn,if_pos];refine⟨h2.1,?_⟩;obtain⟨g1,g2,g3⟩:=hn h2.1;rw[<-ej,h2.2];simp[gZ]);rw[hr,e];simp[rZ,fI,ht,h2.1,h2.2];done)
def We(s:az)(p:Int)(r:BK):List av:=[.var [ST s],.var [bf p],.var [aA r.u],.var [bf r.next],.var [BL r.ok]]
theorem zV(ht:TT t)(s:az)(p u next:Int)(ok:Bool)(hu:u<18446744073709551616)(hn:0<next->0<=p/\p<=next/\next<=s.length):
 FD 174 [.ptr 3 0,.ptr 2 0,.ptr 0 0,.ptr 1 0,.ptr 4 0] [.var [ST s],.var [bf p],.var [aA u],.var [bf next],.var [BL ok]] (.ret (.c5 [])) (We s p (t _ λ_=>pn s p u next)):=by
 simp only[ht];exact S8 ht s p u next ok hu hn rfl
theorem ML{ρ:Type}{FD:Nat->List AV->List av->eP->List av->Prop}{f:Nat}{cV:List AV}{bx:List av}{K:List av->Prop}{B:ρ->List av}{r0:ρ}(h:FD f cV bx (.ret (.c5 [])) (B r0))(hK:∀r,r=r0->K (B r)):yo FD f cV bx K:=C2 h (hK _ rfl)
def adS(r:BK):AV:=.c5 [aA r.u,bf r.next,BL r.ok]
theorem eF(ht:TT t)(s:az)(p:Int)(hs:s.length<9223372036854775000)(hp:p<9223372036854775808):FC 127 [ST s,bf p] [] (.ret (adS (t _ λ_=>aV s p))) []:=by
 refine fcD ht (aK:=[]) Tryz.func127 rfl rfl (N:=48) rfl rfl (n:=0) rfl rfl rfl ?_;cbv;iterate 4 refine gI (by simp[ht]) ?_
 refine pI (by simp[ht]) ?_;apply aj<;>intro h0
 .simp[ht,aa]at h0;cbv;(refine ML (zV ht s p _ _ _ (by decide) (by intro h;cases h)) (λq hq=>?_);simp only[ht]at hq);cbv;refine ak ?_;(have e:aV s p=q:=(by rw[hq,pn,if_neg (by omega),aV,mR,if_pos (by omega)]);simp only[ht,e];done)
 simp[ht,aa]at h0;cbv;obtain⟨a,ha⟩:∃a:Nat,p=a:=⟨p.toNat,by omega⟩;have hw:IntKind.i64.wrap (p+10)=p+10:=bN (by omega) (by((try simp only[aa]at*);omega))
 obtain⟨J1,iB⟩:∃J1:Nat->Int×Int->Prop,∀n i u,J1 n (i,u)↔(∃j:Nat,i=p+j/\j+n=10/\j<=10/\(0<=u/\u<2^(7*j)/\u<18446744073709551616)/\fS 10 0 (s.drop a) 0=fS n j (s.drop (a+j)) u):=⟨λn v=>match v with|(i,u)=>(∃j:Nat,i=p+j/\j+n=10/\j<=10/\(0<=u/\u<2^(7*j)/\u<18446744073709551616)/\fS 10 0 (s.drop a) 0=fS n j (s.drop (a+j)) u),λ_ _ _=>Iff.rfl⟩;refine bw ⟨[2,3,4,5,6,7],[],[]⟩ (σ:=Int×Int) (λv=>[(7,.d (.int .i64 (t _ λ_=>v.1)))]) (λv=>[(2,.var [.d (.int .u64 (t _ λ_=>v.2))]),(3,.var [AV.d (D.int IntKind.i64 0)])]) J1 ?_;cbv;refine aC ⟨10,(_,_),(iB _ _ _).2 ?_,by simp only[ht];rfl,?_⟩
 .exact⟨0,by simp,by simp,by simp,by simp,by simp⟩
 rintro n ⟨i,u⟩ hj;replace hj:=(iB _ _ _).1 hj;obtain⟨j,hi,j1,j2,j3,j4⟩:=hj;cbv;iterate 4 refine gI (by simp[ht]) ?_
 refine pI (by simp[ht]) ?_;apply aj<;>intro h2
 .simp[ht,aa,hw]at h2;cbv;refine bE [false,false,false,false,false,false,false,false,false,false,false,true,true] ?_;cbv;iterate 3 refine gI (by simp) ?_
  refine gI (by simp[ht,aa];grind) ?_;iterate 6 refine gI (by simp) ?_
  refine gI (by(simp only[ht];intro _;exact adP hi (by((try simp only[aa]at*);omega)))) ?_;refine⟨?_,?_⟩
  ·(simp only[ht,aa]at*;omega)
  cbv;apply aj<;>intro h3
  .simp[ht,aa]at h3;cbv;(refine ML (zV ht s p _ _ _ (by simp only[ht];rw[Ml hi (by((try simp only[aa]at*);omega)) j3];exact(GH (by((try simp only[aa]at*);omega)) j3).2.2) (by simp only[ht];intro _;rw[bN (by((try simp only[aa]at*);omega)) (by((try simp only[aa]at*);omega))];((try simp only[aa]at*);omega))) (λq hq=>?_);simp only[ht]at hq;rw[Ml hi (by((try simp only[aa]at*);omega)) j3,bN (x:=i+1) (by((try simp only[aa]at*);omega)) (by((try simp only[aa]at*);omega))]at hq);cbv;refine ak ?_;(have e:aV s p=q:=(by rw[hq];exact Mn ha hi (by((try simp only[aa]at*);omega)) (by((try simp only[aa]at*);omega)) j4 (by rw[vam];assumption));simp only[ht,e];done)
  simp[ht,aa]at h3;cbv;refine bA (_,_) (by simp only[ht];rfl) (n-1) ?_ ((iB _ _ _).2 ?_)
  ·((try simp only[aa]at*);omega)
  simp only[aa];rw[Ml hi (by((try simp only[aa]at*);omega)) j3,bN (x:=i+1) (by((try simp only[aa]at*);omega)) (by((try simp only[aa]at*);omega))];refine⟨j+1,by((try simp only[aa]at*);omega),by((try simp only[aa]at*);omega),by((try simp only[aa]at*);omega),GH (by((try simp only[aa]at*);omega)) j3,?_⟩;(rw[j4,C7 (by((try simp only[aa]at*);omega)) (by((try simp only[aa]at*);omega)),if_neg (by have e0:i.toNat=a+j:=(by((try simp only[aa]at*);omega));rw[<-e0,vam];((try simp only[aa]at*);omega)),show i.toNat=a+j by((try simp only[aa]at*);omega)])
 simp[ht,aa,hw]at h2;cbv;(refine ML (zV ht s p _ _ _ (by simp only[ht];omega) (by intro h;cases h)) (λq hq=>?_);simp only[ht]at hq);cbv;refine ak ?_;(have e:aV s p=q:=(by rw[hq,pn,if_neg (by omega),aV,PE ha (by((try simp only[aa]at*);omega)) j4]);simp only[ht,e];done)
def abE(r:GI):AV:=.c5 [ST r.t,bf r.next,BL r.ok]
theorem fW(ht:TT t)(s:az)(p most:Int)(hs:s.length<9223372036854775000)(hp:p<9223372036854775808)(hm:most<9223372036854775808):FC 175 [ST s,bf p,bf most] [] (.ret (abE (t _ λ_=>aI s p most))) []:=by
 refine cC ht Tryz.func175 (N:=44) ?_;cbv;refine ar (eF ht _ _ ‹_› ‹_›) hY (λr0 bM=>?_);simp only[ht]at bM;have gb:=eE (s:=s) (p:=p)
 rw[<-bM]at gb;cbv;iterate 2 refine gI (by simp[ht]) ?_
 refine pI (by simp[ht]) ?_;iterate 9 refine gI (by simp[ht]) ?_
 refine pI (by simp[ht]) ?_;apply aj<;>intro h1
 .simp[ht,aa]at h1;have q:=VP bM gb hs hm h1
  cbv;refine ak ?_;(simp only[ht,q,GI.no];done)
 simp[ht,aa]at h1;have q:=SO bM gb hs hm h1
 cbv;refine⟨?_,?_⟩
 ·(simp only[ht];exact q.2)
 cbv;refine ak ?_;(simp only[ht,q];done)
def abF(r:zN):AV:=.c5 [V4 r.v.a r.v.b r.v.c r.v.d,bf r.next,BL r.ok]
theorem uV(ht:TT t)(s:az)(p:Int)(hs:s.length<9223372036854775000)(hp:p<9223372036854775808):FC 176 [ST s,bf p] [] (.ret (abF (t _ λ_=>fc s p))) []:=by
 refine cC ht Tryz.func176 (N:=31) ?_;cbv;obtain⟨J0,dZ⟩:∃J0:Nat->Int×Int×Int×Int×Int×Int->Prop,∀n b i x0 x1 x2 x3,J0 n (b,i,x0,x1,x2,x3)↔(b<9223372036854775808/\(∃k:Nat,i=k/\k+n=4)/\fZ s 4 bz.zero p=fZ s n ⟨x0,x1,x2,x3⟩ b):=⟨λn v=>match v with|(b,i,x0,x1,x2,x3)=>(b<9223372036854775808/\(∃k:Nat,i=k/\k+n=4)/\fZ s 4 bz.zero p=fZ s n ⟨x0,x1,x2,x3⟩ b),λ_ _ _ _ _ _ _=>Iff.rfl⟩;refine bw ⟨[0,1,4,11],[],[]⟩ (σ:=Int×Int×Int×Int×Int×Int) (λv=>[(1,.d (.int .i64 (t _ λ_=>v.1))),(11,.d (.int .i64 (v.2.1)))]) (λv=>[(0,.var [.d (.int .u64 (t _ λ_=>v.2.2.1)),.d (.int .u64 (t _ λ_=>v.2.2.2.1)),.d (.int .u64 (t _ λ_=>v.2.2.2.2.1)),.d (.int .u64 (t _ λ_=>v.2.2.2.2.2))])]) J0 ?_;cbv;refine aC ⟨4,(_,_,_,_,_,_),(dZ _ _ _ _ _ _ _).2 ?_,by simp only[ht];rfl,?_⟩
 .exact⟨hp,⟨0,rfl,rfl⟩,rfl⟩
 rintro n ⟨b,i,x0,x1,x2,x3⟩ hj;replace hj:=(dZ _ _ _ _ _ _ _).1 hj;obtain⟨j1,⟨k,j2,j3⟩,j4⟩:=hj;have hk:i=0∨i=1∨i=2∨i=3∨i=4:=by((try simp only[aa]at*);omega)
 rcases hk with rfl|rfl|rfl|rfl|rfl
 .cbv;apply aj<;>intro h1
  .simp[ht]at h1;cbv;refine ar (eF ht _ _ ‹_› (by(simp only[ht];omega))) hY (λr2 dj=>?_);simp only[ht]at dj;have gb:=eE (s:=s) (p:=b)
   rw[<-dj]at gb;obtain⟨m,rfl⟩:∃m,n=m+1:=⟨n-1,by((try simp only[aa]at*);omega)⟩;rw[oP dj]at j4;rw[show 3-m=0 by((try simp only[aa]at*);omega)]at j4;cbv;apply aj<;>intro h3
   .simp[ht]at h3;cbv;refine ak ?_;(simp only[ht,fc];simp_all[zN.no,bz.zero];done)
   simp[ht]at h3;cbv;refine⟨?_,?_⟩
   ·(simp only[ht,aa]at*;omega)
   cbv;refine bA (_,_,_,_,_,_) (by simp only[ht];rfl) m ?_ ((dZ _ _ _ _ _ _ _).2 ?_)
   .omega
   simp only[aa];(have g:=gb ‹_›;exact⟨Int.lt_of_le_of_lt g.2.2.1 (by((try simp only[aa]at*);omega)),⟨k+1,by rw[bN (by decide) (by decide)];((try simp only[aa]at*);omega),by omega⟩,by rw[j4,if_pos ‹_›];rfl⟩)
  simp[ht]at h1
 .cbv;apply aj<;>intro h4
  .simp[ht]at h4;cbv;refine ar (eF ht _ _ ‹_› (by(simp only[ht];omega))) hY (λr5 lp=>?_);simp only[ht]at lp;have gb:=eE (s:=s) (p:=b)
   rw[<-lp]at gb;obtain⟨m,rfl⟩:∃m,n=m+1:=⟨n-1,by((try simp only[aa]at*);omega)⟩;rw[oP lp]at j4;rw[show 3-m=1 by((try simp only[aa]at*);omega)]at j4;cbv;apply aj<;>intro h6
   .simp[ht]at h6;cbv;refine ak ?_;(simp only[ht,fc];simp_all[zN.no,bz.zero];done)
   simp[ht]at h6;cbv;refine⟨?_,?_⟩
   ·(simp only[ht,aa]at*;omega)
   cbv;refine bA (_,_,_,_,_,_) (by simp only[ht];rfl) m ?_ ((dZ _ _ _ _ _ _ _).2 ?_)
   .omega
   simp only[aa];(have g:=gb ‹_›;exact⟨Int.lt_of_le_of_lt g.2.2.1 (by((try simp only[aa]at*);omega)),⟨k+1,by rw[bN (by decide) (by decide)];((try simp only[aa]at*);omega),by omega⟩,by rw[j4,if_pos ‹_›];rfl⟩)
  simp[ht]at h4
 .cbv;apply aj<;>intro h7
  .simp[ht]at h7;cbv;refine ar (eF ht _ _ ‹_› (by(simp only[ht];omega))) hY (λr8 tV=>?_);simp only[ht]at tV;have gb:=eE (s:=s) (p:=b)
   rw[<-tV]at gb;obtain⟨m,rfl⟩:∃m,n=m+1:=⟨n-1,by((try simp only[aa]at*);omega)⟩;rw[oP tV]at j4;rw[show 3-m=2 by((try simp only[aa]at*);omega)]at j4;cbv;apply aj<;>intro h9
   .simp[ht]at h9;cbv;refine ak ?_;(simp only[ht,fc];simp_all[zN.no,bz.zero];done)
   simp[ht]at h9;cbv;refine⟨?_,?_⟩
   ·(simp only[ht,aa]at*;omega)
   cbv;refine bA (_,_,_,_,_,_) (by simp only[ht];rfl) m ?_ ((dZ _ _ _ _ _ _ _).2 ?_)
   .omega
   simp only[aa];(have g:=gb ‹_›;exact⟨Int.lt_of_le_of_lt g.2.2.1 (by((try simp only[aa]at*);omega)),⟨k+1,by rw[bN (by decide) (by decide)];((try simp only[aa]at*);omega),by omega⟩,by rw[j4,if_pos ‹_›];rfl⟩)
  simp[ht]at h7
 .cbv;apply aj<;>intro h10
  .simp[ht]at h10;cbv;refine ar (eF ht _ _ ‹_› (by(simp only[ht];omega))) hY (λWf mW=>?_);simp only[ht]at mW;have gb:=eE (s:=s) (p:=b)
   rw[<-mW]at gb;obtain⟨m,rfl⟩:∃m,n=m+1:=⟨n-1,by((try simp only[aa]at*);omega)⟩;rw[oP mW]at j4;rw[show 3-m=3 by((try simp only[aa]at*);omega)]at j4;cbv;apply aj<;>intro h12
   .simp[ht]at h12;cbv;refine ak ?_;(simp only[ht,fc];simp_all[zN.no,bz.zero];done)
   simp[ht]at h12;cbv;refine⟨?_,?_⟩
   ·(simp only[ht,aa]at*;omega)
   cbv;refine bA (_,_,_,_,_,_) (by simp only[ht];rfl) m ?_ ((dZ _ _ _ _ _ _ _).2 ?_)
   .omega
   simp only[aa];(have g:=gb ‹_›;exact⟨Int.lt_of_le_of_lt g.2.2.1 (by((try simp only[aa]at*);omega)),⟨k+1,by rw[bN (by decide) (by decide)];((try simp only[aa]at*);omega),by omega⟩,by rw[j4,if_pos ‹_›];rfl⟩)
  simp[ht]at h10
 cbv;apply aj<;>intro OH
 .simp[ht]at OH
 simp[ht]at OH;cbv;refine ak ?_;(have hn:n=0:=(by((try simp only[aa]at*);omega));rw[hn,fZ]at j4;simp only[ht,fc,j4];done)
end Dem
end
section
open Go
namespace Dem
section
variable {P:Program}{T:Nat->Option TI}{G:Nat->Option (List D)}{N K:Nat}
theorem tW(hT:jj P T)(hD:jF P T G){f N:Nat}{fn:Func}{c:Code}{args:List AV}{aK aE:List av}{res:eP}(hf:P.funcs[f]?=some fn)(hb:fn.body=some c)
 (hname:(fn.name== "runtime.NumGoroutine")=false) (hN:fn.ntmps=N) (hlen:gq args.length N=true) {pre rest:List Code} (hc:flat c=pre++rest) (R:St->Prop)
 (hr:∀(X:Nat->Prop) (β0:Nat->Nat) (w0:World) (β:Nat->Nat) (w:World) (s:St) (a:Act),Ext β0 aK w0 β s.bx w->Fr G N Kp.no β w X s a->R s->
  sn P rest (dB G N Kp.no X β0 aK w0 (iq t0 T fn.results.toList aK.length res aE)) a w)
 (h:wu t0 (be P G) T G N aK.length pre (λe s=>match e with|.normal=>R s|e=>iq t0 T fn.results.toList aK.length res aE e s) ⟨fH 0 args,aK⟩):be P G f args aK res aE:=by
 refine xG hT hf hb hname hN hlen λβ w X a hF=>wp_mono (uL c ?_) (λ_ _ _ hl=>dB.imp (λ_ _ hq=>mj hq) hl);rw[hc];refine mG (mF ?_ (eU (X:=X) (β0:=β) (aK:=aK) (w0:=w) hT hD (vad _) pre _ β w _ a (Ext.refl _ _ _) hF h));intro e a1 w1 hl;cases e<;>simp only[dB,Exit.then]at hl ⊢
 .obtain⟨β1,s1,vo,xX,hR⟩:=hl;exact hr X β w β1 w1 s1 a1 vo xX hR
 all_goals exact hl
structure Y7(n:Nat)(K:Nat->Prop):Prop where
 ok:∀c,n<=c->(n=0->c=0)->K c
def S9(t:Th)(FC:Nat->List AV->List av->eP->List av->Prop)(T:Nat->Option TI)(G:Nat->Option (List D))(N K:Nat)(post:List Code)(i:Nat)(Q:Ex->St->Prop)(s:St):Prop:=
 match fK i s.sl with
 |.ow b sz n=>Y7 n λc=>wu t FC T G N K post Q ⟨put i (.vw b sz 0 n c true) s.sl,s.bx⟩|_=>False
theorem J7(hT:jj P T)(hD:jF P T G){aK:List av}(hK:aK.length<=K){post:List Code}{i:Nat}{Q:Ex->St->Prop}{X:Nat->Prop}{β0:Nat->Nat}{w0:World}{β:Nat->Nat}{w:World}{s:St}{a:Act}(ex:Ext β0 aK w0 β s.bx w)(hF:Fr G N Kp.no β w X s a)
 (h:S9 t0 (be P G) T G N K post i Q s):sn P post (dB G N Kp.no X β0 aK w0 Q) a w:=by
 unfold S9 at h;split at h;case h_2=>exact h.elim
 rename_i b sz n hi;obtain⟨h⟩:=h;have hx:=hF.sW i
 rw[hi]at hx;simp only[ai]at hx;have key:∀c,n<=c->(n=0->c=0)->ai β s.bx w (bq β s.bx w X) (.vw b sz 0 n c true) (a.tmps.getD i undef)->sn P post (dB G N Kp.no X β0 aK w0 Q) a w:=by
  intro c h1 h2 h3;refine eU hT hD hK post Q β w ⟨put i (.vw b sz 0 n c true) s.sl,s.bx⟩ a ex ⟨hF.cx,hF.defers,hF.size,hF.kept,λt=>?_⟩ (h c h1 h2);rw[rf];by_cases ht:t=i
  .subst ht;rw[if_pos rfl];exact h3
  rw[if_neg ht];exact hF.sW t
 obtain⟨hb,⟨rfl,base,e⟩|⟨h0,cap,c,e1,f',e,h1,h2,h3⟩⟩:=hx
 .refine key 0 (vad _) (λ_=>rfl) ?_;rw[e];simp only[ai];exact⟨hb,base,0,#[],0,(0,0),rfl,vad _,vad _,λ_=>rfl,.inl rfl⟩
 refine key cap h1 (λh=>absurd h h0) ?_;rw[e];simp only[ai];exact⟨hb,_,cap,c,e1,f',rfl,h1,vad _,λ_=>rfl,.inr ⟨by simp,h2,by simpa using h3⟩⟩
end
end Dem
end
section
open Go
namespace Dem
section
variable {P:Program}{T:Nat->Option TI}{G:Nat->Option (List D)}{N:Nat}
theorem Ta{o:Oper}{a:Act}{K K':Act->World->Prop}{Q Q':Exit->Act->World->Prop}(hK:∀a w,K a w->K' a w)(hQ:∀e a w,Q e a w->Q' e a w):∀r,o.upon P a K Q r->o.upon P a K' Q' r:=by
 intro r h;unfold Oper.upon at h ⊢;split at h
 .exact hK _ _ h
 .exact hK _ _ h
 .exact hK _ _ h
 .refine Calls.mono h ?_;intro e w' hh;cases e with
  |returned v=>exact hK _ _ hh|panicked ch=>exact hQ _ _ _ hh|outgrown=>obtain⟨a,w,q⟩:=hh;exact⟨a,w,hQ _ _ _ q⟩
 .intro fr cs;obtain⟨v,w'',hR,hs⟩:=h fr cs;exact⟨v,w'',hK _ _ hR,hs⟩
 .exact hQ _ _ _ h
 exact h.elim
theorem Dv{ops:Array Oper}{Q:Exit->Act->World->Prop}(hQ:∀a w,¬Q .outgrown a w)(cs:List Frame):∀(l:List Oper) (k:Nat) (a:Act) (w:World),(∀j,l[j]?=ops[k+j]?)->wpList P ops Q l a w->
 wpOpsS P ops (λe a cs' w=>cs'=cs/\Q e a w) (List.range' k l.length) a cs w
 |[],k,a,w,h,hw=>⟨rfl,hw⟩|o::l,k,a,w,h,hw=>by
  have h0:ops[k]?=some o:=by simpa using(h 0).symm
  have ih:∀a w,wpList P ops Q l a w->wpOpsS P ops (λe a cs' w=>cs'=cs/\Q e a w) (List.range' (k+1) l.length) a cs w:=λa w=>
   Dv hQ cs l (k+1) a w (λj=>by have:=h (j+1);simpa[Nat.add_assoc,Nat.add_comm 1 j]using this)
  simp only[List.length_cons,List.range'_succ,wpOpsS,h0];unfold wpList at hw;by_cases XX:Region.wanted o (yielded ops a.tmps)=true
  .simp only[XX,if_true]at hw ⊢;have hw:=hw.resolve_right (λh=>let⟨a,w,q⟩:=h.2;hQ a w q)
   unfold Oper.wp at hw;split
   .rename_i w' hr;rw[hr]at hw;exact hw.elim
   exact Ta (λa w hh=>ih a w hh) (λe a w hh=>⟨hY,hh⟩) _ hw
  simp only[XX,if_false,Bool.false_eq_true]at hw ⊢;exact ih _ _ hw
def yK(P:Program):List Code->(Exit->Act->List Frame->World->Prop)->Act->List Frame->World->Prop
 |[],Q=>Q .normal|c::r,Q=>c.wpS P (Exit.thenS (yK P r Q) Q)
theorem qp{c:Code}{Q Q':Exit->Act->List Frame->World->Prop}{a:Act}{cs:List Frame}{w:World}(h:c.wpS P Q a cs w)(hq:∀e a cs w,Q e a cs w->Q' e a cs w):c.wpS P Q' a cs w:=
 λb k hb hr=>let⟨e,a',cs',w',q,r⟩:=h b k hb hr;⟨e,a',cs',w',hq _ _ _ _ q,r⟩
theorem A4:∀{l1 l2:List Code} {Q:Exit->Act->List Frame->World->Prop} {a:Act} {cs:List Frame} {w:World},yK P (l1++l2) Q a cs w->yK P l1 (Exit.thenS (yK P l2 Q) Q) a cs w
 |[],_,_,_,_,_,h=>h|c::l1,l2,Q,a,cs,w,h=>by refine qp (show c.wpS P (Exit.thenS (yK P (l1++l2) Q) Q) a cs w from h) ?_;intro e a cs w hh;cases e<;>simp only[Exit.thenS]at hh ⊢<;>first|exact A4 hh|exact hh
theorem zW:∀{l:List Code} {Q Q':Exit->Act->List Frame->World->Prop} {a:Act} {cs:List Frame} {w:World},(∀e a cs w,Q e a cs w->Q' e a cs w)->yK P l Q a cs w->yK P l Q' a cs w
 |[],_,_,_,_,_,hq,h=>hq _ _ _ _ h|c::l,Q,Q',a,cs,w,hq,h=>by refine qp (show c.wpS P (Exit.thenS (yK P l Q) Q) a cs w from h) ?_;intro e a cs w hh;cases e<;>simp only[Exit.thenS]at hh ⊢<;>first|exact zW hq hh|exact hq _ _ _ _ hh
theorem gX{c:Code}{Q:Exit->Act->List Frame->World->Prop}{a:Act}{cs:List Frame}{w:World}(h:yK P [c] Q a cs w):c.wpS P Q a cs w:=by refine qp (show c.wpS P (Exit.thenS (yK P [] Q) Q) a cs w from h) ?_;intro e a cs w hh;cases e<;>simpa only[Exit.thenS,yK]using hh
theorem yL:∀(c:Code) {Q:Exit->Act->List Frame->World->Prop} {a:Act} {cs:List Frame} {w:World},yK P (flat c) Q a cs w->c.wpS P Q a cs w
 |.seq x y,Q,a,cs,w,h=>by have h:=A4 (show yK P (flat x++flat y) Q a cs w from h);refine wpS_seq (qp (yL x h) ?_);intro e a cs w hh;cases e<;>simp only[Exit.thenS]at hh ⊢<;>first|exact yL y hh|exact hh
 |.skip,_,_,_,_,h=>gX h|.region ..,_,_,_,_,h=>gX h|.cond ..,_,_,_,_,h=>gX h|.block ..,_,_,_,_,h=>gX h|.loop ..,_,_,_,_,h=>gX h|.rangeFunc ..,_,_,_,_,h=>gX h|.exit ..,_,_,_,_,h=>gX h|.scope ..,_,_,_,_,h=>gX h|.label ..,_,_,_,_,h=>gX h|.goto ..,_,_,_,_,h=>gX h|.ret,_,_,_,_,h=>gX h|.refuse ..,_,_,_,_,h=>gX h
theorem tX{cs:List Frame}:∀{l:List Code} {Q:Exit->Act->World->Prop} {a:Act} {w:World},sn P l Q a w->yK P l (λe a cs' w=>cs'=cs/\Q e a w) a cs w
 |[],_,_,_,h=>⟨rfl,h⟩|c::l,Q,a,w,h=>by refine wpS_of_wp (wp_mono (show c.wp P (Exit.then (sn P l Q) Q) a w from h) ?_);intro e a w hh;cases e<;>simp only[Exit.then,Exit.thenS]at hh ⊢<;>first|exact tX hh|exact⟨hY,hh⟩
def BN(P:Program)(G:Nat->Option (List D))(f:Nat)(args:List AV)(bx:List av)(res:eP)(aE:List av):Prop:=
 ∀(β:Nat->Nat) (w:World) (vs:List Value) (X:Nat->Prop),cB G β bx w X->an β bx w (bq β bx w X) args vs->(callFunc f ⟨vs⟩).run P w=.ok (.enter f ⟨vs⟩) w/\
  CallsD P f ⟨vs⟩ .returning w λe u' w'=>u'=.returning/\∃β',Ext β bx w β' aE w'/\cB G β' aE w' X/\eH β' aE w' (bq β' aE w' X) res e
def Y8(t:Th)(FC:Nat->List AV->List av->eP->List av->Prop)(T:Nat->Option TI)(G:Nat->Option (List D))(N K:Nat)(ops:List Oper)(rest:List Code)(Q:Ex->St->Prop)(s:St):Prop:=
 match ops with
 |o::l=>match o.op,o.guard with
  |.call {callee:=.builtin .recover,args,..},none=>args=#[]/\gr N o.dst=true/\Jf t FC T G N ops l (λe s=>mv (λs=>wu t FC T G N K rest Q s) Q e s) ⟨eJ o.dst (.k .nilIface) s.sl,s.bx⟩|_,_=>False
 |[]=>False
theorem Dw(hT:jj P T)(hD:jF P T G){f:Nat}{fn:Func}{c:Code}{args:List AV}{aK aE:List av}{res:eP}(hf:P.funcs[f]?=some fn)(hb:fn.body=some c)
 (hname:(fn.name== "runtime.NumGoroutine")=false) (hN:fn.ntmps=N) (hlen:gq args.length N=true) {id:Nat} {ops:Array Oper} {rest:List Code} (hc:flat c=.region id ops false::rest)
 (h:Y8 t0 (be P G) T G N aK.length ops.toList rest (iq t0 T fn.results.toList aK.length res aE) ⟨fH 0 args,aK⟩):BN P G f args aK res aE:=by
 intro β w vs X cx hx;refine⟨by simp[callFunc,run_program,hf,hb];simpa using hname,callsD_of_wpS hf hb λc₀ cs hm=>yL c ?_⟩;rw[hc];have hF:=qb (G:=G) (X:=X) hN hlen cx hx
 unfold Y8 at h;split at h;case h_2=>exact h.elim
 rename_i o l Bo;split at h;case h_2=>exact h.elim
 rename_i args' ats ho hg;obtain⟨ha,hd,h⟩:=h;have hc0:({c₀ with mode:=.returning}:Frame)=c₀:=by rw[<-hm]
 have hsz:ops.size=l.length+1:=by rw[<-Array.length_toList,Bo];rfl
 have h0:ops[0]?=some o:=by rw[<-Array.getElem?_toList,Bo];rfl
 refine qp (Q:=λe a cs' w'=>cs'=c₀::cs/\dB G N Kp.no X β aK w (λe s=>mv (λs=>wu t0 (be P G) T G N aK.length rest (iq t0 T fn.results.toList aK.length res aE) s) (iq t0 T fn.results.toList aK.length res aE) e s) e a w') (wpS_region ?_) ?_
 .rw[hsz,List.range_eq_range',List.range'_succ];simp only[wpOpsS,h0];rw[if_pos (by simp[Region.wanted,hg])];have hr:∀ev,(execOp ev o).run P w=.ok .recover w:=by intro ev;simp[execOp,ho,ha,resolve,invoke];rfl
  rw[hr];have wK:recoverD (c₀::cs)=none:=by simp only[recoverD,hm]
  simp only[wK];refine Dv (λa w hh=>by simp[dB]at hh) (c₀::cs) l 1 _ _ (λj=>by rw[<-Array.getElem?_toList,Bo,Nat.add_comm];rfl) ?_;refine jE hT l β w _ _ (Ext.refl _ _ _) (hF.put (Ext.refl _ _ _) hF.cx hd ?_) (CU _ _ h);simp only[ai];rfl
 rintro e a1 cs1 w1 ⟨rfl,hl⟩;have fin:∀(e:Exit) (a2:Act) (w2:World),dB G N Kp.no X β aK w (iq t0 T fn.results.toList aK.length res aE) e a2 w2->
  bodyPostS P fn c₀ cs (λe u' w'=>u'=.returning/\∃β',Ext β aK w β' aE w'/\cB G β' aE w' X/\eH β' aE w' (bq β' aE w' X) res e) e a2 (c₀::cs) w2:=by
  intro e a2 w2 hl;have out:∀β' s,Ext β aK w β' s.bx w2->Fr G N Kp.no β' w2 X s a2->(∃e',B5 T fn.results.toList aK.length res aE e' s/\(e'=.normal∨e'=.ret))->
   a2.defers=[]/\∃u',(c₀::cs)={c₀ with mode:=u'}::cs/\∃v,(results fn a2.tmps).run P w2=.ok v w2/\u'=.returning/\∃β',Ext β aK w β' aE w2/\cB G β' aE w2 X/\eH β' aE w2 (bq β' aE w2 X) res (.returned v):=by
   rintro β' s ex ru ⟨e',hq,he⟩;obtain⟨v,k1,k2⟩:=ym hT ex ru.cx ru.sW (res:=res) (aE:=aE) (by rcases he with rfl|rfl<;>exact hq);exact⟨ru.defers,.returning,by rw[hc0],v,k1,rfl,k2⟩
  cases e<;>simp only[dB,bodyPostS]at hl ⊢
  .obtain⟨β',s,k1,k2,k3⟩:=hl;exact out β' s k1 k2 ⟨.normal,mj k3,.inl rfl⟩
  .obtain⟨β',s,k1,k2,k3⟩:=hl;exact k3
  .obtain⟨β',s,k1,k2,k3⟩:=hl;exact out β' s k1 k2 ⟨.ret,mj k3,.inr rfl⟩
  obtain⟨β',gY,v,u,k1,k2,k3,k4,k5,_,k6⟩:=hl;obtain⟨rfl,rfl⟩:=NZ.ok k6;exact⟨k5,.returning,by rw[hc0],rfl,β',k2,k3,u,k1,k4⟩
 cases e<;>simp only[Exit.thenS,dB,mv]at hl ⊢
 .obtain⟨β1,s1,vo,xX,h1⟩:=hl;refine zW ?_ (tX (eU (X:=X) (β0:=β) (aK:=aK) (w0:=w) hT hD (vad _) rest _ β1 w1 s1 a1 vo xX h1));rintro e a2 cs2 w2 ⟨rfl,pV⟩;exact fin e a2 w2 pV
 all_goals exact fin _ a1 w1 hl
theorem zX(hT:jj P T)(hD:jF P T G){f N:Nat}{fn:Func}{c:Code}{args:List AV}{aK aE:List av}{res:eP}(hf:P.funcs[f]?=some fn)(hb:fn.body=some c)
 (hname:(fn.name== "runtime.NumGoroutine")=false) (hN:fn.ntmps=N) (hlen:gq args.length N=true) {pre post:List Code} {id:Nat} {ops:Array Oper} (hc:flat c=pre++.region id ops false::post)
 (h:GB t0 (be P G) (BN P G) T G N pre ops.toList post fn.results.toList aK.length res aE ⟨fH 0 args,aK⟩):be P G f args aK res aE:=by
 intro β w vs X cx hx;refine .inl ⟨by simp[callFunc,run_program,hf,hb];simpa using hname,calls_of_wp_defers hf hb (uL c ?_)⟩;rw[hc];refine mG (mF ?_ (eU hT hD (vad _) pre _ β w _ _ (Ext.refl _ _ _) (qb hN hlen cx hx) h));intro e a1 w1 hl;cases e<;>simp only[dB,Exit.then]at hl ⊢;case normal=>
  obtain⟨β1,s1,vo,xX,hop⟩:=hl
  show(Code.region id ops false).wp P (Exit.then (sn P post _) _) a1 w1
  refine wp_region_list (oO (β0:=β) (aK:=aK) (w0:=w) hT ?_ ?_ ops.toList β1 w1 s1 a1 vo xX hop)
  .intro β2 w2 s2 a2 x v RK ru hk hv hr;simp only[Exit.then];split at hk;case h_2=>exact hk.elim
   rename_i g cV;cases oB:dH cV with
   |false=>simp[oB]at hk|true=>
   simp only[oB,cond_true]at hk;simp only[ai]at hv;obtain⟨HR,rfl,sg⟩:=hv;rw[jN oB sg]at hr ⊢;simp only;have SF:Fr G N ⟨[{target:=.fn (.func g) ⟨HR⟩,args:=#[]}],λ_=>undef⟩ β2 w2 X s2 {a2 with defers:={target:=.fn (.func g) ⟨HR⟩,args:=#[]}::a2.defers}:=⟨ru.cx,by rw[ru.defers];rfl,ru.size,ru.kept,ru.sW⟩
   refine mF ?_ (eU (β0:=β2) (aK:=s2.bx) (w0:=w2) hT hD (vad _) post _ β2 w2 s2 _ (Ext.refl _ _ _) SF hk);have fin:∀(β3:Nat->Nat) (w3:World) (s3:St) (a3:Act),Ext β2 s2.bx w2 β3 s3.bx w3->Fr G N ⟨[{target:=.fn (.func g) ⟨HR⟩,args:=#[]}],λ_=>undef⟩ β3 w3 X s3 a3->
    yo (BN P G) g cV s3.bx (λgY=>match vR T s3.sl gY fn.results.toList with
     |some (c,vs)=>zJ aK.length c (nO vs) gY (CS t0 gY (nO vs)) res aE|none=>False)->Leaves P fn a3.tmps (λe w'=>∃β',Ext β aK w β' aE w'/\cB G β' aE w' X/\eH β' aE w' (bq β' aE w' X) res e) a3.defers .returning w3:=by
    intro β3 w3 s3 a3 VM CX hdf
    obtain⟨gY,hfd,hq⟩:=hdf
    rw[CX.defers]
    have C1:=an.mono (VM.dL X) _ _ sg
    obtain⟨hi,hcd⟩:=hfd β3 w3 HR X CX.cx C1
    refine leaves_cons (f:=g) (args:=⟨HR⟩) (by simp) (by simpa[invoke]using hi) (hcd.mono ?_)
    rintro e u' w4 ⟨rfl,β4,XR,cx4,hres⟩
    cases e with
    |returned v=>
     simp only[Leaves,settle]
     have hF4:Fr G N ⟨[{target:=.fn (.func g) ⟨HR⟩,args:=#[]}],λ_=>undef⟩ β4 w4 X ⟨s3.sl,gY⟩ a3:=⟨cx4,CX.defers,CX.size,CX.kept,λt=>ai.mono (XR.dL X) _ _ (CX.sW t)⟩
     have YO:=mj (T:=T) (results:=fn.results.toList) (n:=aK.length) (res:=res) (aE:=aE) (e:=.ret) (s:=⟨s3.sl,gY⟩) hq
     exact ym hT (((RK.trans VM)).trans XR) hF4.cx hF4.sW YO
    |panicked ch=>simp[eH]at hres|outgrown=>simp[eH]at hres
   intro e a3 w3 BJ;cases e<;>simp only[dB,bodyPostD,Mj]at BJ ⊢
   .obtain⟨β3,s3,k1,k2,k3⟩:=BJ;exact fin β3 w3 s3 a3 k1 k2 k3
   .obtain⟨β3,s3,k1,k2,k3⟩:=BJ;exact k3
   .obtain⟨β3,s3,k1,k2,k3⟩:=BJ;exact fin β3 w3 s3 a3 k1 k2 k3
   obtain⟨_,_,_,_,_,_,_,_,_,_,k3⟩:=BJ;exact k3.elim
  intro x s hk
  split at hk
  .rename_i g cV;cases oB:dH cV with
   |false=>simp[oB]at hk|true=>exact⟨_,_,rfl,oB⟩
  exact hk.elim
 case exit=>obtain⟨_,_,_,_,k⟩:=hl;exact k.elim
 case ret=>obtain⟨_,_,_,_,k⟩:=hl;exact k.elim
 case panic=>obtain⟨_,_,_,_,_,_,_,_,_,_,k⟩:=hl;exact k.elim
end
end Dem
end
section
open Go Dem Go.Proofs
namespace Dem
theorem fcV{t:Th}(ht:TT t)(k i:Nat){f N:Nat}{fn:Func}{c:Code}{args:List AV}{aK aE:List av}{res:eP}(hf:Tryz.prog.funcs[f]?=some fn)(hb:fn.body=some c)
 (hname:(fn.name== "runtime.NumGoroutine")=false) (hN:fn.ntmps=N) {rs:List ResultVar} (Bn:fn.results.toList=rs) {n:Nat} (hn:aK.length=n) (hlen:gq args.length N=true)
 (h:wu t FC tT gl N n ((flat c).take k) (λe s=>match e with|.normal=>S9 t FC tT gl N n ((flat c).drop k) i (iq t tT rs n res aE) s|e=>iq t tT rs n res aE e s) ⟨fH 0 args,aK⟩):FC f args aK res aE:=by
 subst Bn;subst hn;have e:=ht.eq
 subst e;exact tW HQ lE hf hb hname hN hlen (List.take_append_drop k (flat c)).symm _ (λX β0 w0 β w s a ex hF hR=>J7 HQ lE (vad _) ex hF hR) h
def FDR:Nat->List AV->List av->eP->List av->Prop:=BN Tryz.prog gl
theorem Wg{t:Th}(ht:TT t){f N:Nat}{fn:Func}{c:Code}{args:List AV}{aK aE:List av}{res:eP}(hf:Tryz.prog.funcs[f]?=some fn)(hb:fn.body=some c)
 (hname:(fn.name== "runtime.NumGoroutine")=false) (hN:fn.ntmps=N) {rs:List ResultVar} (Bn:fn.results.toList=rs) {n:Nat} (hn:aK.length=n) (hlen:gq args.length N=true)
 {pre post:List Code} {id:Nat} {ops:Array Oper} (hs:tH (flat c)=some (pre,id,ops,post))
 (h:GB t FC FDR tT gl N pre ops.toList post rs n res aE ⟨fH 0 args,aK⟩):FC f args aK res aE:=by
 subst Bn;subst hn;have e:=ht.eq
 subst e;exact zX HQ lE hf hb hname hN hlen (qc hs) h
theorem Y9{t:Th}(ht:TT t){f N:Nat}{fn:Func}{c:Code}{args:List AV}{aK aE:List av}{res:eP}(hf:Tryz.prog.funcs[f]?=some fn)(hb:fn.body=some c)
 (hname:(fn.name== "runtime.NumGoroutine")=false) (hN:fn.ntmps=N) {rs:List ResultVar} (Bn:fn.results.toList=rs) {n:Nat} (hn:aK.length=n) (hlen:gq args.length N=true)
 {id:Nat} {ops:Array Oper} {rest:List Code} (hs:flat c=.region id ops false::rest)
 (h:Y8 t FC tT gl N n ops.toList rest (iq t tT rs n res aE) ⟨fH 0 args,aK⟩):FDR f args aK res aE:=by
 subst Bn;subst hn;have e:=ht.eq
 subst e;exact Dw HQ lE hf hb hname hN hlen hs h
end Dem
end
section
open Go Dem Go.Proofs
namespace Dem
variable {t:Th}
theorem qt{s:az}{p m n q:Int}(h:dP s p m=some (n,q)):(aV s p).ok=true/\(aV s p).u<=m/\n=(aV s p).u/\q=(aV s p).next:=by
 unfold dP at h;split at h
 .rename_i g;simp only[osI,vab]at h;exact⟨g.1,g.2,h.1.symm,h.2.symm⟩
 cases h
theorem Dx{s:az}{p q:Int}{x:az}(h:fT s p=some (x,q)):(aI s p 32).ok=true/\x=(aI s p 32).t/\q=(aI s p 32).next:=by
 unfold fT at h;split at h
 .rename_i g;simp only[osI,vab]at h;exact⟨g,h.1.symm,h.2.symm⟩
 cases h
theorem GV(ht:TT t)(s:az){p m n q:Int}(hs:s.length<9223372036854775000)(hp:p<9223372036854775808)(hm:m<9223372036854775808)(h:dP s p m=some (n,q)):
 FC 207 [.ptr 0 0,aA m] [.var [ST s,bf p]] (.ret (bf n)) [.var [ST s,bf q]]:=by
 obtain⟨g1,g2,g3,g4⟩:=qt h;have gb:=eE g1
 have hw:IntKind.i64.wrap n=n:=by rw[bN (by omega) (by omega)]
 refine kJ ht (aK:=[.var [ST s,bf p]]) Tryz.func207 rfl rfl (N:=36) rfl rfl (n:=1) rfl rfl ?_;cbv;refine bE [false,false,false,false,false,false,false,false,true,true,false,false,false,false,false,true] ?_;cbv;iterate 8 refine gI (by simp) ?_
 refine ar (eF ht _ _ ‹_› ‹_›) hY (λr0 bM=>?_);simp only[ht]at bM;rw[<-bM]at g1 g2 g3 g4;cbv;iterate 5 refine gI (by simp) ?_
 iterate 3 refine gI (by simp[ht]) ?_
 refine pI (by simp[ht]) ?_;apply aj<;>intro h1
 .simp[ht]at h1;cbv;(exfalso;rcases h1 with h1|h1;(rw[g1]at h1;cases h1);omega)
 simp[ht]at h1;cbv;(subst g3 g4;exact ak (by simp only[ht,hw]))
theorem BO(ht:TT t)(s:az){p q:Int}{x:az}(hs:s.length<9223372036854775000)(hp:p<9223372036854775808)(h:fT s p=some (x,q)):
 FC 223 [.ptr 0 0] [.var [ST s,bf p]] (.ret (ST x)) [.var [ST s,bf q]]:=by
 obtain⟨g1,g3,g4⟩:=Dx h;refine kJ ht (aK:=[.var [ST s,bf p]]) Tryz.func223 rfl rfl (N:=28) rfl rfl (n:=1) rfl rfl ?_;cbv;refine bE [false,false,false,false,false,false,false,false,true,true,false,false,false,false,false,true] ?_;cbv;iterate 8 refine gI (by simp) ?_
 refine ar (fW ht _ _ _ ‹_› ‹_› (by omega)) hY (λr0 bM=>?_);simp only[ht]at bM;rw[<-bM]at g1 g3 g4;cbv;iterate 5 refine gI (by simp) ?_
 apply aj<;>intro h1
 .simp[ht]at h1;cbv;(exfalso;rw[g1]at h1;cases h1)
 simp[ht]at h1;cbv;(subst g3 g4;exact ak (by simp only))
end Dem
end
section
open Go
namespace Dem
structure wL{α:Type}(p:α->Bool)(l:List α)(n v:Nat):Prop where
 a:v+n=l.length
 b:∀i<v,∀x,l[i]?=some x->p x=false
theorem wL.nil {α:Type} {p:α->Bool} {l:List α}:wL p l l.length 0:=⟨by omega,λi hi=>by omega⟩
theorem wL.lt {α:Type} {p:α->Bool} {l:List α} {n k:Nat} {x:α} (h:wL p l n k) (hx:l[k]?=some x):n-1<n:=by have:=h.a;have:=(List.getElem?_eq_some_iff.1 hx).1;omega
theorem wL.next {α:Type} {p:α->Bool} {l:List α} {n k:Nat} {x:α} (h:wL p l n k) (hx:l[k]?=some x) (hb:p x=false):wL p l (n-1) (k+1):=by
 refine⟨by have:=h.a;have:=(List.getElem?_eq_some_iff.1 hx).1;omega,λi hi y hy=>?_⟩;by_cases e:i<k
 .exact h.b i e y hy
 have:i=k:=by omega
 subst this;rw[hx]at hy;cases hy;exact hb
theorem wL.hit {α:Type} {p:α->Bool} {l:List α} {n k:Nat} {x:α} (h:wL p l n k) (hx:l[k]?=some x) (hb:p x=true):idxOf p l=k:=by rw[idxOf,yp hx hb h.b]
theorem wL.none {α:Type} {p:α->Bool} {l:List α} {n k:Nat} (h:wL p l n k) (hk:l.length<=k):idxOf p l=-1:=by
 rw[idxOf,C3];intro i y hy;have:=(List.getElem?_eq_some_iff.1 hy).1
 exact h.b i (by omega) y hy
theorem wL.get {α:Type} {p:α->Bool} {l:List α} {n k:Nat} (_:wL p l n k) (hk:k<l.length):∃x,l[k]?=some x/\x∈l/\∃b,b=p x:=⟨l[k],by simp,by simp,_,rfl⟩
theorem sE{α:Type}{cells:α->List D}{l:List α}{es:List (List D)}(aD:es=l.map cells){k n:Nat}(h:k<es.length)(hn:∀x,(cells x).length=n):0<=(k:Int)/\(k:Int)<es.length/\∀r∈es,r.length=n:=by refine⟨by omega,by omega,λr hr=>?_⟩;rw[aD]at hr;obtain⟨y,_,rfl⟩:=List.mem_map.1 hr;exact hn y
end Dem
end
section
namespace Dem
theorem yM{es:List (List D)}{row z:List D}{i:Nat}(h:i<=es.length):wrote (wrote (es.take i++List.replicate (es.length+1-i) z) i [row]) (i+1) (es.drop i)=es.take i++row::es.drop i:=by
 have hl:(es.take i).length=i:=by simp;omega
 have e1:wrote (es.take i++List.replicate (es.length+1-i) z) i [row]=es.take i++row::List.replicate (es.length-i) z:=by unfold wrote;rw[List.take_left' hl,show i+[row].length=(es.take i).length+1 by rw[hl];rfl,List.drop_length_add_append,List.drop_replicate];simp;omega
 rw[e1];unfold wrote;rw[show i+1=(es.take i).length+1 by rw[hl],List.take_length_add_append];have e2:List.drop ((es.take i).length+1+(es.drop i).length) (es.take i++row::List.replicate (es.length-i) z)=[]:=by rw[List.drop_eq_nil_iff];simp;omega
 rw[e2];simp
theorem GW{es:List (List D)}{row:List D}{i:Nat}(h:i<es.length):wrote (wrote es (i+1) (es.drop i)) i [row]=es.take i++row::es.drop i:=by
 have e1:wrote es (i+1) (es.drop i)=es.take (i+1)++es.drop i:=by
  unfold wrote;have:es.drop (i+1+(es.drop i).length)=[]:=by rw[List.drop_eq_nil_iff];simp;omega
  rw[this,List.append_nil]
 rw[e1];unfold wrote;have hl:(es.take (i+1)).length=i+1:=by simp;omega
 rw[List.take_append_of_le_length (by omega),List.take_take,show i+[row].length=(es.take (i+1)).length by rw[hl];rfl,List.drop_left];rw[Nat.min_eq_left (by omega)];simp
theorem pJ:∀(xs ys:List D),ys.length=xs.length->bP xs 0 ys=ys
 |[],[],_=>by simp[bP]|[],_::_,h=>by simp at h|_::_,[],h=>by simp at h|x::xs,y::ys,h=>by simp only[bP];rw[pJ xs ys (by simpa using h)]
theorem pK{α:Type}:∀(l:List α) (i:Nat) (x:α),i<l.length->(l.set i x).take (i+1)=l.take i++[x]
 |[],i,x,h=>by simp at h|y::l,0,x,h=>by simp|y::l,i+1,x,h=>by simp only[List.set_cons_succ,List.take_succ_cons,List.cons_append];rw[pK l i x (by simpa using h)]
theorem tY{α:Type}:∀(l:List α) (i j:Nat) (x:α),i<j->(l.set i x).drop j=l.drop j
 |[],i,j,x,h=>by simp|y::l,0,j+1,x,h=>by simp|y::l,i+1,j+1,x,h=>by simp only[List.set_cons_succ,List.drop_succ_cons];exact tY l i j x (by omega)|y::l,_,0,x,h=>by omega
end Dem
end
section
open Go Dem Go.Proofs
namespace Dem
variable {t:Th}
theorem J8(ht:TT t){es:List (List D)}(aD:∀r∈es,r.length=7)(hs:es.length*80<=140737488355328){m:Nat}(hm:m=es.length):
 FC 91 [SL es] [] (.ret (.ow 0 7 m)) [.row 7 es]:=by
 refine cC ht Tryz.func91 (N:=8) ?_;cbv;refine⟨λb hb=>?_⟩;simp only[ht]at hb;cbv;apply aj<;>intro h
 .have he:=hb h;subst he;cbv;exact Mi hY rfl rfl (by rw[hm];rfl) rfl
 clear hb h;cbv;refine⟨?_,?_⟩
 .simp only[ht];simp;exact⟨hs,aD⟩
 refine GA hY rfl rfl rfl rfl ?_ ?_
 .simp only[ht];rw[hm];simp
 simp only[ht];rfl
theorem yN(ht:TT t){es:List (List D)}(aD:∀r∈es,r.length=6)(hs:es.length*56<=140737488355328){m:Nat}(hm:m=es.length):
 FC 110 [SL es] [] (.ret (.ow 0 6 m)) [.row 6 es]:=by
 refine cC ht Tryz.func110 (N:=8) ?_;cbv;refine⟨λb hb=>?_⟩;simp only[ht]at hb;cbv;apply aj<;>intro h
 .have he:=hb h;subst he;cbv;exact Mi hY rfl rfl (by rw[hm];rfl) rfl
 clear hb h;cbv;refine⟨?_,?_⟩
 .simp only[ht];simp;exact⟨hs,aD⟩
 refine GA hY rfl rfl rfl rfl ?_ ?_
 .simp only[ht];rw[hm];simp
 simp only[ht];rfl
theorem En(ht:TT t){es:List (List D)}{x:D}{row:List D}{i n c:Nat}(hn:n=es.length)(hi:i<=n)(hc:n<=c)(hc0:n=0->c=0)(aD:∀r∈es,r.length=7)(hrow:(x::row).length=7)(hs:n<1000000){r:List (List D)}(hr:r=es.take i++(x::row)::es.drop i):
 FC 90 [.vw 0 7 0 n c true,bf (i:Int),SL [x::row]] [.row 7 es] (.ret (SL r)) [.dead]:=by
 obtain⟨n1,LR⟩:∃n1,n1=n+1:=⟨_,rfl⟩;obtain⟨i1,hi1⟩:∃i1,i1=i+1:=⟨_,rfl⟩;obtain⟨ni,hni⟩:∃ni,ni=n-i:=⟨_,rfl⟩;obtain⟨ci,wM⟩:∃ci,ci=c-i:=⟨_,rfl⟩;obtain⟨Bw,Tb⟩:∃Bw,Bw=c-i1:=⟨_,rfl⟩;obtain⟨rM,wN⟩:∃rM,rM=n1-i:=⟨_,rfl⟩;have hW:∀P:Prop,((IntKind.i64.wrap ((n:Int)+1)=(n1:Int))->(IntKind.i64.wrap ((n1:Int)-(i:Int))=(rM:Int))->(IntKind.i64.wrap ((i:Int)+1)=(i1:Int))->P)->P:=
  λP h=>h (by rw[wrap64 (by omega) (by omega)];omega) (by rw[wrap64 (by omega) (by omega)];omega) (by rw[wrap64 (by omega) (by omega)];omega)
 have hrl:r.length=n1:=by rw[hr,vaa,List.length_cons,vav,vaw];omega
 have Za:n≠0->FC 143 [SL [x::row],.vw 0 7 i1 ni Bw true] [.row 7 es] (.ret (BL false)) [.row 7 es]:=λh0=>
  jw HQ Tryz.func143 rfl rfl rfl rfl (tS:=26) (tR:=4) rfl rfl (by intro h;rw[h]at hn;exact h0 hn)
 refine kJ ht (aK:=[.row 7 es]) Tryz.func90 rfl rfl (N:=95) rfl rfl (n:=1) rfl rfl ?_;cbv;refine cq (.vw 0 7 i ni ci true) [.row 7 es] ?_ ?_ rfl ?_
 .simp[ht,eX,b9];omega
 .simp[ht,bc,aY,hni,wM]
 cbv;refine p9 (by simp[ht]) ?_;cbv;apply aj<;>intro h
 .have hin:i=n:=by simp[ht,aa]at h;omega
  clear h;cbv;refine cq (.ow 1 7 n1) [.dead,.row 7 r] ?_ ?_ ?_ ?_
  .simp only[ht];refine⟨⟨hn,by simp;omega,?_⟩,rfl,hn,λh=>⟨hc0 (by rw[hn,h];rfl),rfl⟩⟩;intro r hr;rcases List.mem_append.1 hr with hr|hr
   .exact aD r hr
   simp at hr;subst hr;exact hrow
  .simp[ht,LR,hn]
  .simp only[ht];rw[hr];have:i=es.length:=by omega
   subst this;simp
  cbv;refine ia hY ?_ rfl rfl rfl rfl;simp only[ht];exact hrl.symm
 have hin:i<n:=by simp[ht,aa]at h;omega
 clear h;have wK:r=(r.drop 0).take n1:=by rw[List.drop_zero,vao (by omega)]
 cbv;apply aj<;>intro h2
 .have Zb:c=n:=by refine hW _ λe1 e2 e3=>?_;simp[ht,aa,e1]at h2;omega
  clear h2;obtain⟨L,hL⟩:∃L:List (List D),L=es.take i++List.replicate (es.length+1-i) [D.str [],D.int IntKind.u64 0,D.int IntKind.u64 0,D.int IntKind.u64 0,D.int IntKind.u64 0,D.sl [],D.bool false]:=⟨_,rfl⟩;have Lq:L.length=n1:=by rw[hL];simp;omega
  obtain⟨L1,wO⟩:∃L1,L1=wrote L i [x::row]:=⟨_,rfl⟩;have ou:L1.length=n1:=by rw[wO];simp[wrote,Lq];omega
  have sA:r=wrote L1 i1 (es.drop i):=by rw[hi1,wO,hL,yM (by omega),hr]
  cbv;refine cq (.vw 0 7 0 i c true) [.row 7 es] ?_ ?_ rfl ?_
  .simp[ht,eX,b9];omega
  .simp[ht,bc,aY]
  cbv;refine cq (.vw 1 7 0 n1 n1 false) [.row 7 es,.row 7 L] ?_ ?_ ?_ ?_
  .refine hW _ λe1 e2 e3=>?_;simp[ht,aa,e1,e2];omega
  .refine hW _ λe1 e2 e3=>?_;simp[ht,aa,e1,e2];omega
  .refine hW _ λe1 e2 e3=>?_;simp[ht,aa,e1,e2,hL];omega
  cbv;refine cq (.vw 1 7 i rM rM false) [.row 7 es,.row 7 L] ?_ ?_ rfl ?_
  .simp[ht,eX,b9];omega
  .simp[ht,bc,aY,wN]
  cbv;refine cq (bf 1) [.row 7 es,.row 7 L1] ?_ ?_ ?_ ?_
  .simp only[ht,gj];refine⟨⟨by omega,?_⟩,?_⟩
   .intro h;rw[h]at Lq;simp at Lq;omega
   intro r hr;have:=van hr;simp at this;rw[this];exact hrow
  .simp[ht,aa];omega
  .simp[ht,wO,show min 1 rM=1 by omega]
  cbv;refine bE [false,false,false,false,false,false,false,false,true] ?_;cbv;repeat (refine gI (by(simp;done)) ?_)
  refine kI (.vw 1 7 i1 ni ni false) (λ_=>⟨?_,?_⟩) ?_
  .refine hW _ λe1 e2 e3=>?_;simp[ht,aa,e3,eX,b9];omega
  .refine hW _ λe1 e2 e3=>?_;simp[ht,aa,e3,bc,aY];omega
  cbv;repeat (refine gI (by(simp;done)) ?_)
  refine kI (.vw 0 7 i ni ci true) (λ_=>⟨?_,?_⟩) ?_
  .simp[ht,eX,b9];omega
  .simp[ht,bc,aY,hni,wM]
  cbv;refine cq (bf (ni:Nat)) [.row 7 es,.row 7 r,.bJ] ?_ ?_ ?_ ?_
  .simp only[ht,gj];refine⟨by omega,⟨by omega,?_⟩,?_⟩
   .intro h;rw[h]at ou;simp at ou;omega
   intro r hr;exact aD r (List.mem_of_mem_drop (van hr))
  .simp[ht,aa]
  .simp only[ht,sA];rw[vao (by simp;omega)]
  cbv;refine CZ [true] hY ?_ rfl rfl rfl ?_
  .simp only[ht];omega
  simp only[ht];rw[<-wK]
 have Zb:n<c:=by refine hW _ λe1 e2 e3=>?_;simp[ht,aa,e1]at h2;omega
 clear h2;obtain⟨L1,wO⟩:∃L1,L1=wrote es i1 (es.drop i):=⟨_,rfl⟩;have sA:r=wrote L1 i [x::row]:=by rw[wO,hi1,GW (by omega),hr]
 have ou:L1.length=n1:=by rw[wO];simp[wrote];omega
 cbv;refine cq (.vw 0 7 0 n1 c true) [.row 7 es] ?_ ?_ rfl ?_
 .refine hW _ λe1 e2 e3=>?_;simp[ht,aa,e1,eX,b9];omega
 .refine hW _ λe1 e2 e3=>?_;simp[ht,aa,e1,bc,aY]
 cbv;refine cq (.vw 0 7 i1 ni Bw true) [.row 7 es] ?_ ?_ rfl ?_
 .refine hW _ λe1 e2 e3=>?_;simp[ht,aa,e3,eX,b9];omega
 .refine hW _ λe1 e2 e3=>?_;simp[ht,aa,e3,bc,aY];omega
 cbv;refine dO hY (Za (by omega)) ?_;cbv;refine oe (by simp[ht]) ?_;cbv;refine bE [false,false,false,false,false,false,false,false,true] ?_;cbv;repeat (refine gI (by(simp;done)) ?_)
 refine kI (.vw 0 7 i1 ni Bw true) (λ_=>⟨?_,?_⟩) ?_
 .refine hW _ λe1 e2 e3=>?_;simp[ht,aa,e3,eX,b9];omega
 .refine hW _ λe1 e2 e3=>?_;simp[ht,aa,e3,bc,aY];omega
 cbv;repeat (refine gI (by(simp;done)) ?_)
 refine kI (.vw 0 7 i rM ci true) (λ_=>⟨?_,?_⟩) ?_
 .simp[ht,eX,b9];omega
 .simp[ht,bc,aY,wN,wM]
 cbv;refine cq (bf (ni:Nat)) [.row 7 L1,.bJ] ?_ ?_ ?_ ?_
 .simp only[ht,gj];refine⟨by omega,⟨by omega,?_⟩,?_⟩
  .intro h;rw[h]at hn;simp at hn;omega
  intro r hr;exact aD r (List.mem_of_mem_drop (van hr))
 .simp[ht,aa];omega
 .simp only[ht,wO];rw[vao (by simp;omega)]
 cbv;refine cq (.vw 0 7 i rM ci true) [.row 7 L1,.bJ] ?_ ?_ rfl ?_
 .simp[ht,eX,b9];omega
 .simp[ht,bc,aY,wN,wM]
 cbv;refine cq (bf 1) [.row 7 r,.bJ] ?_ ?_ ?_ ?_
 .simp only[ht,gj];refine⟨⟨by omega,?_⟩,?_⟩
  .intro h;rw[h]at ou;simp at ou;omega
  intro r hr;have:=van hr;simp at this;rw[this];exact hrow
 .simp[ht,aa];omega
 .simp[ht,sA,show min 1 rM=1 by omega]
 cbv;refine CZ [true] hY ?_ rfl rfl rfl ?_
 .simp only[ht];omega
 simp only[ht];rw[<-wK]
theorem GX(ht:TT t){es:List (List D)}{x:D}{row:List D}{i n:Nat}(hn:n=es.length)(hi:i<=n)(aD:∀r∈es,r.length=7)(hrow:(x::row).length=7)(hs:n<1000000){r:List (List D)}(hr:r=es.take i++(x::row)::es.drop i):
 FC 90 [.ow 0 7 n,bf (i:Int),SL [x::row]] [.row 7 es] (.ret (SL r)) [.dead]:=
 gJ λc hc hc0=>En ht hn hi hc hc0 aD hrow hs hr
theorem Ka(ht:TT t)(bL:Int){l:List (Place)}{es:List (List D)}(aD:es=l.map Place.cells)(f:Nat)(p:Place->Bool)(hl:l.length<9223372036854775807)
 (hf:∀x∈l,FC f [.agg [.d (.int .u64 x.bL),.d (.str x.node),.d (.int .u64 x.v.a),.d (.int .u64 x.v.b),.d (.int .u64 x.v.c),.d (.int .u64 x.v.d)],.ptr 1 0] [.var [.d (.int .u64 bL)],.var [.fn 165 [.ptr 0 0]]] (.ret (BL (p x))) [.var [.d (.int .u64 bL)],.var [.fn 165 [.ptr 0 0]]]) {r:Int} (hr:r=idxOf p l):FC 166 [SL es,.fn f [.ptr 1 0]] [.var [.d (.int .u64 bL)],.var [.fn 165 [.ptr 0 0]]] (.ret (bf r)) [.var [.d (.int .u64 bL)],.var [.fn 165 [.ptr 0 0]]]:=by
 have hel:es.length=l.length:=by rw[aD,lgM]
 refine kJ ht (aK:=[.var [.d (.int .u64 bL)],.var [.fn 165 [.ptr 0 0]]]) Tryz.func166 rfl rfl (N:=19) rfl rfl (n:=2) rfl rfl ?_;cbv;refine bw ⟨[0,1,7,8],[],[]⟩ (σ:=Nat) (λk=>[(8,bf (t _ λ_=>(k:Int)))]) (λ_=>[]) (wL p l) ?_;cbv;refine aC ⟨l.length,0,.nil,by simp only[ht];rfl,λn k hj=>?_⟩;cbv;apply aj<;>intro h
 .simp only[ht,aa,vai]at h;have hk:k<es.length:=by omega
  obtain⟨x,hx,pM,px,hpx⟩:=hj.get (by omega);have iS:=hf x pM
  rw[<-hpx]at iS;obtain⟨jb,nd,⟨v1,v2,v3,v4⟩⟩:=x;cbv;refine jG [.int .u64 jb,.str nd,.int .u64 v1,.int .u64 v2,.int .u64 v3,.int .u64 v4] ?_ ?_ ?_
  .simp only[ht,aa];exact sE aD hk λ_=>rfl
  .simp[ht,aa,aD,hx]
  cbv;refine dO hY iS ?_;cbv;apply aj<;>intro hb
  .cbv;refine ak ?_;simp only[ht,aa,hr,hj.hit hx (hpx▸hb)]
  cbv;refine aC ⟨n-1,k+1,⟨hj.lt hx,hj.next hx (hpx▸hb)⟩,?_⟩;simp only[ht,aa,aG (show k<9223372036854775807 by omega)];rfl
 simp only[ht,aa,vap]at h;have hk:l.length<=k:=by omega
 clear h;cbv;refine ak ?_;rw[hr,hj.none hk]
theorem Kb(ht:TT t)(bL:Int){l:List (Place)}{es:List (List D)}(aD:es=l.map Place.cells){m c:Nat}(hm:m=l.length)(hc:m<=c)(f:Nat)(p:Place->Bool)(hl:l.length<9223372036854775807)
 (hf:∀x∈l,FC f [.agg [.d (.int .u64 x.bL),.d (.str x.node),.d (.int .u64 x.v.a),.d (.int .u64 x.v.b),.d (.int .u64 x.v.c),.d (.int .u64 x.v.d)],.ptr 1 0] [.var [.d (.int .u64 bL)],.var [.fn 165 [.ptr 0 0]]] (.ret (BL (p x))) [.var [.d (.int .u64 bL)],.var [.fn 165 [.ptr 0 0]]]) {r:List (List D)} (hr:r=(l.filter (λx=>!p x)).map Place.cells):
 FC 197 [.vw 2 6 0 m c true,.fn f [.ptr 1 0]] [.var [.d (.int .u64 bL)],.var [.fn 165 [.ptr 0 0]],.row 6 es] (.ret (SL r)) [.var [.d (.int .u64 bL)],.var [.fn 165 [.ptr 0 0]],.dead]:=by
 have hel:es.length=m:=by rw[aD,lgM,hm]
 have hrows:∀r∈es,r.length=6:=by rw[aD];intro r hr;obtain⟨y,_,rfl⟩:=List.mem_map.1 hr;rfl
 obtain⟨k,hk⟩:∃k,k=idxOf p l:=⟨_,rfl⟩;have MM:(t (List (List D)) λ_=>(es.drop 0).take m)=l.map Place.cells:=by simp only[ht];rw[List.drop_zero,vao (by omega),aD]
 have hidx:=Ka ht bL MM f p hl hf hk;obtain⟨J,hJ⟩:∃J:Nat->Nat×Nat×List (List D)->Prop,∀n v,J n v↔(v.2.1+n=m/\v.1<v.2.1/\v.2.2.length=m/\(∀r∈v.2.2,r.length=6)/\v.2.2.take v.1=((l.take v.2.1).filter (λx=>!p x)).map Place.cells/\v.2.2.drop v.2.1=es.drop v.2.1):=⟨λn v=>v.2.1+n=m/\v.1<v.2.1/\v.2.2.length=m/\(∀r∈v.2.2,r.length=6)/\v.2.2.take v.1=((l.take v.2.1).filter (λx=>!p x)).map Place.cells/\v.2.2.drop v.2.1=es.drop v.2.1,λ_ _=>Iff.rfl⟩;refine kJ ht (aK:=[.var [.d (.int .u64 bL)],.var [.fn 165 [.ptr 0 0]],.row 6 es]) Tryz.func197 rfl rfl (N:=42) rfl rfl (n:=3) rfl rfl ?_;cbv;refine XQ (TT.eq ht) (v:=bf k) [false,false,true] [0,1] hY rfl ?_ rfl rfl rfl rfl rfl rfl rfl hidx ?_
 .simp[ht];omega
 cbv;apply aj<;>intro h
 .have iw:k=-1:=by simp[ht]at h;exact h
  have hnone:=uM (hk▸iw:idxOf p l=-1);clear h;cbv;refine CZ [false,false,true] hY ?_ rfl rfl rfl ?_
  .simp only[ht];omega
  simp only[ht,hr];rw[filter_all hnone,<-aD,List.drop_zero,vao (by omega)]
 have iw:k≠-1:=by simp[ht]at h;exact h
 clear h;obtain⟨i0,x0,hi0,hx0,hp0,hb0⟩:=uN (hk▸iw:idxOf p l≠-1);rw[<-hk]at hi0;subst hi0;have adU:i0<m:=by rw[hm];exact(List.getElem?_eq_some_iff.1 hx0).1
 cbv;refine bw ⟨[0,1,5,6],[],[]⟩ (σ:=Nat×Nat×List (List D)) (λv=>[(5,bf (t _ λ_=>(v.1:Int))),(6,bf (t _ λ_=>(v.2.1:Int)))]) (λv=>[(2,.row 6 (t _ λ_=>v.2.2))]) J ?_;cbv;refine aC ⟨m-(i0+1),(i0,i0+1,es),(hJ _ _).2 ⟨?_,?_,hel,hrows,?_,rfl⟩,by simp only[ht,aa,Int.ofNat_eq_natCast,aG (show i0<9223372036854775807 by omega)];rfl,?_⟩
 .show i0+1+(m-(i0+1))=m;omega
 .show i0<i0+1;omega
 .show es.take i0=_;rw[nJ hx0,List.filter_append,filter_all hb0,aD,<-List.map_take];simp[hp0]
 rintro n ⟨i,j,cur⟩ hj;obtain⟨j1,j2,j3,j4,j5,j6⟩:=(hJ _ _).1 hj;clear hj;simp only at j1 j2 j3 j4 j5 j6;cbv;apply aj<;>intro h
 .have hjm:j<m:=by simp[ht,aa]at h;omega
  clear h;obtain⟨x,hx⟩:∃x,l[j]?=some x:=⟨l[j]'(by omega),by simp⟩
  have pM:x∈l:=vag hx;have iS:=hf x pM
  have Tc:cur[j]?=some (Place.cells x):=by
   have:(cur.drop j)[0]?=(es.drop j)[0]?:=by rw[j6]
   rw[List.getElem?_drop,List.getElem?_drop,Nat.add_zero,aD,vaA,hx]at this;exact this
  obtain⟨px,hpx⟩:∃b,b=p x:=⟨_,rfl⟩;rw[<-hpx]at iS;obtain⟨cx,BF⟩:∃cx,cx=Place.cells x:=⟨_,rfl⟩;rw[<-BF]at Tc;have hstep:(l.take (j+1)).filter (λx=>!p x)=(l.take j).filter (λx=>!p x)++(if px then[]else[x]):=by rw[nJ hx,List.filter_append];cases px<;>simp[<-hpx]
  obtain⟨jb,nd,⟨v1,v2,v3,v4⟩⟩:=x;cbv;refine⟨?_,YI [.int .u64 jb,.str nd,.int .u64 v1,.int .u64 v2,.int .u64 v3,.int .u64 v4] ?_ ?_ ?_⟩
  .simp[ht,aa];omega
  .simp[ht,aa,j3];omega
  .simp[ht,aa,vam,Tc,BF]
  cbv;refine aW [0,1] hY rfl rfl iS (aH ?_);cbv;apply aj<;>intro hb
  .have hb':px=false:=by simpa[ht]using hb
   clear hb;obtain⟨nc,hnc⟩:∃nc,nc=cur.set i cx:=⟨_,rfl⟩;have wM:(cur.getD i []).length=6:=j4 _ (by rw[vam,vaj (by omega)];exact List.getElem_mem _)
   cbv;refine⟨?_,?_⟩
   .simp[ht,aa];omega
   refine⟨?_,?_⟩
   .simp[ht,aa,j3];exact⟨by omega,by simpa using wM.symm▸(vad _)⟩
   refine aC ⟨n-1,(i+1,j+1,nc),⟨by omega,(hJ _ _).2 ⟨?_,?_,?_,?_,?_,?_⟩⟩,?_⟩
   .show j+1+(n-1)=m;omega
   .show i+1<j+1;omega
   .show nc.length=m;rw[hnc,List.length_set];exact j3
   .show∀r∈nc,r.length=6;intro r hr;rw[hnc]at hr;rcases List.mem_or_eq_of_mem_set hr with hr|rfl
    .exact j4 r hr
    rw[BF];rfl
   .show nc.take (i+1)=_;rw[hnc,pK _ _ _ (by omega),j5,hstep,hb',BF];simp
   .show nc.drop (j+1)=es.drop (j+1);rw[hnc,tY _ _ _ _ (by omega),<-List.drop_drop,j6,List.drop_drop]
   simp only[ht,aa,Int.ofNat_eq_natCast,aG (show i<9223372036854775807 by omega),aG (show j<9223372036854775807 by omega)];have ei:0+((i:Int)).toNat=i:=by simp
   have e:cur.set i (bP (cur.getD i []) 0 [.int .u64 jb,.str nd,.int .u64 v1,.int .u64 v2,.int .u64 v3,.int .u64 v4])=nc:=by rw[hnc,pJ _ _ (by rw[wM];rfl),BF]
   simp only[ei,e];rfl
  have hb':px=true:=by simpa[ht]using hb
  clear hb;cbv;refine aC ⟨n-1,(i,j+1,cur),⟨by omega,(hJ _ _).2 ⟨?_,?_,j3,j4,?_,?_⟩⟩,?_⟩
  .show j+1+(n-1)=m;omega
  .show i<j+1;omega
  .show cur.take i=_;rw[j5,hstep,hb'];simp
  .show cur.drop (j+1)=es.drop (j+1);rw[<-List.drop_drop,j6,List.drop_drop]
  simp only[ht,aa,Int.ofNat_eq_natCast,aG (show j<9223372036854775807 by omega)];rfl
 have hjm:j=m:=by simp[ht,aa]at h;omega
 clear h;obtain⟨mi,Ee⟩:∃mi,mi=m-i:=⟨_,rfl⟩;obtain⟨ci,wM⟩:∃ci,ci=c-i:=⟨_,rfl⟩;obtain⟨nc,hnc⟩:∃nc,nc=wrote cur i (List.replicate mi [.int .u64 0,.str [],.int .u64 0,.int .u64 0,.int .u64 0,.int .u64 0]):=⟨_,rfl⟩;have hnt:nc.take i=r:=by
  have hl':(cur.take i).length=i:=by simp;omega
  rw[hnc,wrote,vas,List.take_left' hl',j5,hr,hjm,hm,List.take_length]
 have adV:i<=nc.length:=by rw[hnc];simp[wrote];omega
 cbv;refine cq (.vw 2 6 i mi ci true) [.var [.d (.int .u64 bL)],.var [.fn 165 [.ptr 0 0]],.row 6 cur] ?_ ?_ ?_ ?_
 .simp[ht,aa,eX,b9];omega
 .simp[ht,aa,bc,aY,Ee,wM]
 .simp only[ht]
 cbv;refine cq (.c5 []) [.var [.d (.int .u64 bL)],.var [.fn 165 [.ptr 0 0]],.row 6 nc] ?_ rfl ?_ ?_
 .simp[ht,gj];refine⟨by omega,?_⟩;intro h;rw[h]at j3;simp at j3;omega
 .simp only[ht,hnc]
 cbv;refine cq (.vw 2 6 0 i c true) [.var [.d (.int .u64 bL)],.var [.fn 165 [.ptr 0 0]],.row 6 nc] ?_ ?_ rfl ?_
 .simp[ht,aa,eX,b9];omega
 .simp[ht,aa,bc,aY]
 cbv;refine CZ [false,false,true] hY ?_ rfl rfl rfl ?_
 .simp only[ht];omega
 simp only[ht];rw[List.drop_zero,hnt]
theorem MN(ht:TT t)(bL:Int){l:List (Place)}{es:List (List D)}(aD:es=l.map Place.cells){m:Nat}(hm:m=l.length)(f:Nat)(p:Place->Bool)(hl:l.length<9223372036854775807)
 (hf:∀x∈l,FC f [.agg [.d (.int .u64 x.bL),.d (.str x.node),.d (.int .u64 x.v.a),.d (.int .u64 x.v.b),.d (.int .u64 x.v.c),.d (.int .u64 x.v.d)],.ptr 1 0] [.var [.d (.int .u64 bL)],.var [.fn 165 [.ptr 0 0]]] (.ret (BL (p x))) [.var [.d (.int .u64 bL)],.var [.fn 165 [.ptr 0 0]]]) {r:List (List D)} (hr:r=(l.filter (λx=>!p x)).map Place.cells):
 FC 197 [.ow 2 6 m,.fn f [.ptr 1 0]] [.var [.d (.int .u64 bL)],.var [.fn 165 [.ptr 0 0]],.row 6 es] (.ret (SL r)) [.var [.d (.int .u64 bL)],.var [.fn 165 [.ptr 0 0]],.dead]:=
 gJ λc hc _=>Kb ht bL aD hm hc f p hl hf hr
theorem Wh(ht:TT t)(bL jb:Int)(nd:az)(v1 v2 v3 v4:Int){r:Bool}(hr:r=!decide (jb=bL)):FC 165 [.agg [.d (.int .u64 jb),.d (.str nd),.d (.int .u64 v1),.d (.int .u64 v2),.d (.int .u64 v3),.d (.int .u64 v4)],.ptr 0 0] [.var [.d (.int .u64 bL)]] (.ret (BL r)) [.var [.d (.int .u64 bL)]]:=by refine kJ ht (aK:=[.var [.d (.int .u64 bL)]]) Tryz.func165 rfl rfl (N:=8) rfl rfl (n:=1) rfl rfl ?_;cbv;refine ak ?_;simp only[ht,hr]
theorem Wi(ht:TT t)(bL jb:Int)(nd:az)(v1 v2 v3 v4:Int){r:Bool}(hr:r=decide (jb=bL)):FC 198 [.agg [.d (.int .u64 jb),.d (.str nd),.d (.int .u64 v1),.d (.int .u64 v2),.d (.int .u64 v3),.d (.int .u64 v4)],.ptr 1 0] [.var [.d (.int .u64 bL)],.var [.fn 165 [.ptr 0 0]]] (.ret (BL r)) [.var [.d (.int .u64 bL)],.var [.fn 165 [.ptr 0 0]]]:=by obtain⟨q,hq⟩:∃q,q=!decide (jb=bL):=⟨_,rfl⟩;refine kJ ht (aK:=[.var [.d (.int .u64 bL)],.var [.fn 165 [.ptr 0 0]]]) Tryz.func198 rfl rfl (N:=8) rfl rfl (n:=2) rfl rfl ?_;cbv;refine aW [0] hY rfl rfl (Wh ht bL jb nd v1 v2 v3 v4 hq) (aH ?_);cbv;refine ak ?_;simp only[ht,hr,hq];simp
theorem MO(ht:TT t)(bL:Int){l:List Place}{es:List (List D)}(aD:es=l.map Place.cells)(hl:l.length<1000000){r:List (List D)}(hr:r=(l.filter (λx=>!decide (x.bL=bL))).map Place.cells):
 FC 164 [SL es,.fn 165 [.ptr 0 0]] [.var [.d (.int .u64 bL)]] (.ret (SL r)) [.var [.d (.int .u64 bL)]]:=by
 have hrows:∀r∈es,r.length=6:=by rw[aD];intro r hr;obtain⟨y,_,rfl⟩:=List.mem_map.1 hr;rfl
 obtain⟨m,hm⟩:∃m,m=l.length:=⟨_,rfl⟩;have hel:m=es.length:=by rw[aD,lgM,hm]
 refine kJ ht (aK:=[.var [.d (.int .u64 bL)]]) Tryz.func164 rfl rfl (N:=9) rfl rfl (n:=1) rfl rfl ?_;cbv;refine sj hY (yN ht hrows (by rw[<-hel];omega) hel) hY rfl (.inr rfl) ?_;cbv;refine aW [0,1,2] hY rfl rfl (MN ht bL aD hm 198 (λx=>decide (x.bL=bL)) (by omega) (λx _=>Wi ht bL x.bL x.node x.v.a x.v.b x.v.c x.v.d rfl) hr) (aH ?_);cbv;exact ak rfl
theorem MP(ht:TT t)(bL:Int){ns:List (List D)}{l:List Place}{es:List (List D)}(aD:es=l.map Place.cells)(hl:l.length<1000000){r:List (List D)}(hr:r=(l.filter (λx=>!decide (x.bL=bL))).map Place.cells):
 FC 113 [.agg [SL ns,SL es],aA bL] [] (.ret (.agg [SL ns,SL r])) []:=by
 refine cC ht Tryz.func113 (N:=12) ?_;cbv;refine bE [false,false,false,false,false,false,true,true] ?_;cbv;repeat (refine gI (by(simp;done)) ?_)
 refine .inl (YJ [true,false,true] [1] (λ_=>⟨hY,hY,MO ht bL aD hl hr⟩) rfl rfl (.inr ⟨rfl,rfl⟩) rfl rfl rfl rfl ?_);cbv;exact ak rfl
theorem Td(ht:TT t)(name nm:az)(a b c d:Int)(lr:List (List D))(up:Bool){r:Bool}(hr:r=decide (nm=name)):
 FC 142 [.agg [.d (.str nm),.d (.int .u64 a),.d (.int .u64 b),.d (.int .u64 c),.d (.int .u64 d),.d (.sl lr),.d (.bool up)],.ptr 0 0] [.var [.d (.str name)]] (.ret (BL r)) [.var [.d (.str name)]]:=by
 refine kJ ht (aK:=[.var [.d (.str name)]]) Tryz.func142 rfl rfl (N:=8) rfl rfl (n:=1) rfl rfl ?_;cbv;refine ak ?_;simp only[ht,hr]
theorem PX(ht:TT t)(name:az){l:List (Node)}{es:List (List D)}(aD:es=l.map Node.cells)(f:Nat)(p:Node->Bool)(hl:l.length<9223372036854775807)
 (hf:∀x∈l,FC f [.agg [.d (.str x.name),.d (.int .u64 x.cap.a),.d (.int .u64 x.cap.b),.d (.int .u64 x.cap.c),.d (.int .u64 x.cap.d),.d (.sl (x.labels.map bT.cells)),.d (.bool x.up)],.ptr 0 0] [.var [.d (.str name)]] (.ret (BL (p x))) [.var [.d (.str name)]]) {r:Int} (hr:r=idxOf p l):FC 88 [SL es,.fn f [.ptr 0 0]] [.var [.d (.str name)]] (.ret (bf r)) [.var [.d (.str name)]]:=by
 have hel:es.length=l.length:=by rw[aD,lgM]
 refine kJ ht (aK:=[.var [.d (.str name)]]) Tryz.func88 rfl rfl (N:=19) rfl rfl (n:=1) rfl rfl ?_;cbv;refine bw ⟨[0,1,7,8],[],[]⟩ (σ:=Nat) (λk=>[(8,bf (t _ λ_=>(k:Int)))]) (λ_=>[]) (wL p l) ?_;cbv;refine aC ⟨l.length,0,.nil,by simp only[ht];rfl,λn k hj=>?_⟩;cbv;apply aj<;>intro h
 .simp only[ht,aa,vai]at h;have hk:k<es.length:=by omega
  obtain⟨x,hx,pM,px,hpx⟩:=hj.get (by omega);have iS:=hf x pM
  rw[<-hpx]at iS;obtain⟨nm,⟨a,b,c,d⟩,lb,up⟩:=x;obtain⟨lr,hlr⟩:∃lr:List (List D),lr=lb.map bT.cells:=⟨_,rfl⟩;simp only[<-hlr]at iS;cbv;refine jG [.str nm,.int .u64 a,.int .u64 b,.int .u64 c,.int .u64 d,.sl lr,.bool up] ?_ ?_ ?_
  .simp only[ht,aa];exact sE aD hk λ_=>rfl
  .simp[ht,aa,aD,hx,hlr]
  cbv;refine dO hY iS ?_;cbv;apply aj<;>intro hb
  .cbv;refine ak ?_;simp only[ht,aa,hr,hj.hit hx (hpx▸hb)]
  cbv;refine aC ⟨n-1,k+1,⟨hj.lt hx,hj.next hx (hpx▸hb)⟩,?_⟩;simp only[ht,aa,aG (show k<9223372036854775807 by omega)];rfl
 simp only[ht,aa,vap]at h;have hk:l.length<=k:=by omega
 clear h;cbv;refine ak ?_;rw[hr,hj.none hk]
theorem OI(ht:TT t)(name:az){l:List Node}{es ps:List (List D)}(aD:es=l.map Node.cells)(hl:l.length<9223372036854775807){r:Int}(hr:r=idxOf (λx=>decide (x.name=name)) l):
 FC 87 [.agg [SL es,SL ps],ST name] [] (.ret (bf r)) []:=by
 refine cC ht Tryz.func87 (N:=9) ?_;cbv;refine aW [1] hY rfl rfl (PX ht name aD 142 (λx=>decide (x.name=name)) hl (λx _=>Td ht name x.name x.cap.a x.cap.b x.cap.c x.cap.d _ x.up rfl) hr) (aH ?_);cbv;exact ak rfl
theorem Te(ht:TT t)(name:az){l:List Node}{es ps:List (List D)}(aD:es=l.map Node.cells)(hl:l.length<9223372036854775807){nm:az}{a b c d:Int}{lb:List bT}{up ok:Bool}(hr:ir name l=(⟨nm,⟨a,b,c,d⟩,lb,up⟩,ok)){lr:List (List D)}(hlr:lr=lb.map bT.cells):
 FC 162 [.agg [SL es,SL ps],ST name] [] (.ret (.c5 [.agg [.d (.str nm),.d (.int .u64 a),.d (.int .u64 b),.d (.int .u64 c),.d (.int .u64 d),.d (.sl lr),.d (.bool up)],BL ok])) []:=by
 have hrows:∀r∈es,r.length=7:=by rw[aD];intro r hr;obtain⟨y,_,rfl⟩:=List.mem_map.1 hr;rfl
 obtain⟨k,hk⟩:∃k,k=idxOf (λx:Node=>decide (x.name=name)) l:=⟨_,rfl⟩;have hneg:k<0->k=-1:=by intro h;rw[hk]at h ⊢;unfold idxOf at h ⊢;split at h<;>omega
 refine cC ht Tryz.func162 (N:=18) ?_;cbv;refine iW hY (OI ht name aD hl hk) hY rfl rfl ?_;cbv;apply aj<;>intro h
 .have iw:k=-1:=hneg (by simpa[ht]using h);clear h hneg;have hp:=PC (hk▸iw)
  rw[hr]at hp;obtain⟨⟨rfl,⟨rfl,rfl,rfl,rfl⟩,rfl,rfl⟩,rfl⟩:(nm=[]/\(a=0/\b=0/\c=0/\d=0)/\lb=[]/\up=false)/\ok=false:=by simpa[Node.zero,bz.zero]using hp
  have adW:lr=[]:=by rw[hlr];rfl
  subst adW;clear hlr;cbv;exact ak rfl
 have iw:k≠-1:=by intro h1;rw[h1]at h;simp[ht]at h
 clear h hneg;obtain⟨i,x,h1,h2,h3⟩:=PD (hk▸iw);rw[hr]at h3;simp only[vab]at h3;obtain⟨rfl,rfl⟩:=h3;rw[<-hk]at h1;subst h1;have hi:i<l.length:=(List.getElem?_eq_some_iff.1 h2).1
 have hel:es.length=l.length:=by rw[aD,lgM]
 cbv;refine jG [.str nm,.int .u64 a,.int .u64 b,.int .u64 c,.int .u64 d,.sl lr,.bool up] ?_ ?_ ?_
 .simp only[ht,aa,Int.ofNat_eq_natCast];exact⟨by omega,by omega,hrows⟩
 .simp[ht,aD,h2,hlr]
 cbv;exact ak rfl
theorem Wj(x y:Int){r s:Int}(hr:r=(((x.toNat+y.toNat)%18446744073709551616:Nat):Int))(hs:s=(((x.toNat+y.toNat) / 18446744073709551616:Nat):Int)):
 FC 199 [.d (.int .u64 x),.d (.int .u64 y),.d (.int .u64 0)] [] (.ret (.c5 [.d (.int .u64 r),.d (.int .u64 s)])) []:=by
 refine fcX Tryz.func199 (by kernel_rfl) (by kernel_rfl) (by kernel_rfl) (e:=add64Entry) (by kernel_rfl) ?_;intro β w vs ok h;simp only[an,ai,aP]at h;obtain⟨_,_,rfl,rfl,_,_,rfl,rfl,_,_,rfl,rfl,rfl⟩:=h;refine⟨.tuple #[.int .u64 r,.int .u64 s],?_,?_⟩
 .subst hr hs;rfl
 simp only[ai,an,aP];exact⟨_,rfl,_,_,rfl,rfl,_,_,rfl,rfl,rfl⟩
def Zc:Array Value->Sem Value:=λargs=>do
 let(x,y,b) <-Extern.MathBitsCarry.three "Sub64" args
 pure (Extern.MathBitsCarry.pair ((x+Extern.MathBitsCarry.m64-y-b)%Extern.MathBitsCarry.m64) (if x<y+b then 1 else 0))
theorem Wk(x y:Int){r s:Int}(hr:r=(((x.toNat+18446744073709551616-y.toNat)%18446744073709551616:Nat):Int))(hs:s=((if x.toNat<y.toNat then 1 else 0:Nat):Int)):
 FC 212 [.d (.int .u64 x),.d (.int .u64 y),.d (.int .u64 0)] [] (.ret (.c5 [.d (.int .u64 r),.d (.int .u64 s)])) []:=by
 refine fcX Tryz.func212 (by kernel_rfl) (by kernel_rfl) (by kernel_rfl) (e:=Zc) (by kernel_rfl) ?_;intro β w vs ok h;simp only[an,ai,aP]at h;obtain⟨_,_,rfl,rfl,_,_,rfl,rfl,_,_,rfl,rfl,rfl⟩:=h;refine⟨.tuple #[.int .u64 r,.int .u64 s],?_,?_⟩
 .subst hr hs;rfl
 simp only[ai,an,aP];exact⟨_,rfl,_,_,rfl,rfl,_,_,rfl,rfl,rfl⟩
theorem PY(ht:TT t)(x y:Int){r:Int}{ok:Bool}(h:(r,ok)=Ju x y):
 FC 168 [.d (.int .u64 x),.d (.int .u64 y)] [] (.ret (.c5 [.d (.int .u64 r),.d (.bool ok)])) []:=by
 obtain⟨a,ha⟩:∃a:Int,a=(((x.toNat+y.toNat)%18446744073709551616:Nat):Int):=⟨_,rfl⟩;obtain⟨b,hb⟩:∃b:Int,b=(((x.toNat+y.toNat) / 18446744073709551616:Nat):Int):=⟨_,rfl⟩;refine cC ht Tryz.func168 (N:=17) ?_;cbv;refine iW hY (Wj x y ha hb) hY rfl rfl ?_;cbv;apply aj<;>intro hc
 .cbv;refine ak ?_;simp only[ht,aa,Bool.not_eq_true',vap]at hc ha hb;simp only[Ju]at h;rw[if_neg (by omega)]at h;cases h;rfl
 cbv;refine ak ?_;simp only[ht,aa,Bool.not_eq_false',vai]at hc ha hb;simp only[Ju]at h;rw[if_pos (by omega)]at h;cases h;rw[ha,Nat.mod_eq_of_lt (by omega)]
theorem PZ(ht:TT t)(x y:Int){r:Int}{ok:Bool}(h:(r,ok)=Jv x y):
 FC 182 [.d (.int .u64 x),.d (.int .u64 y)] [] (.ret (.c5 [.d (.int .u64 r),.d (.bool ok)])) []:=by
 obtain⟨a,ha⟩:∃a:Int,a=(((x.toNat+18446744073709551616-y.toNat)%18446744073709551616:Nat):Int):=⟨_,rfl⟩;obtain⟨b,hb⟩:∃b:Int,b=((if x.toNat<y.toNat then 1 else 0:Nat):Int):=⟨_,rfl⟩;refine cC ht Tryz.func182 (N:=17) ?_;cbv;refine iW hY (Wk x y ha hb) hY rfl rfl ?_;cbv;apply aj<;>intro hc
 .cbv;refine ak ?_;simp only[ht,aa,Bool.not_eq_true',vap]at hc ha hb;simp only[Jv]at h;by_cases hlt:x.toNat<y.toNat
  .rw[if_pos hlt]at h;cases h;rfl
  rw[if_neg hlt]at hb;exact absurd (by rw[hb];rfl) hc
 cbv;refine ak ?_;simp only[ht,aa,Bool.not_eq_false',vai]at hc ha hb;simp only[Jv]at h;by_cases hlt:x.toNat<y.toNat
 .rw[if_pos hlt]at hb;rw[hb]at hc;exact absurd hc (by decide)
 rw[if_neg hlt]at h;cases h;have e:(x.toNat+18446744073709551616-y.toNat)%18446744073709551616=(x.toNat-y.toNat)%18446744073709551616:=by omega
 rw[ha,e]
theorem Tf(ht:TT t)(a0 a1 a2 a3 b0 b1 b2 b3:Int)(op:Int->Int->Int×Bool)(F:Nat)(hop:∀(x y r:Int) (ok:Bool),(r,ok)=op x y->FC F [.d (.int .u64 x),.d (.int .u64 y)] [] (.ret (.c5 [.d (.int .u64 r),.d (.bool ok)])) [])
 {r0 r1 r2 r3:Int} {ok:Bool} (h:(⟨r0,r1,r2,r3⟩,ok)=both op ⟨a0,a1,a2,a3⟩ ⟨b0,b1,b2,b3⟩):
 FC 157 [.agg [.d (.int .u64 a0),.d (.int .u64 a1),.d (.int .u64 a2),.d (.int .u64 a3)],.agg [.d (.int .u64 b0),.d (.int .u64 b1),.d (.int .u64 b2),.d (.int .u64 b3)],.fn F []] []
  (.ret (.c5 [.agg [.d (.int .u64 r0),.d (.int .u64 r1),.d (.int .u64 r2),.d (.int .u64 r3)],.d (.bool ok)])) []:=by
 obtain⟨⟨s0,k0⟩,e0⟩:∃s,s=op a0 b0:=⟨_,rfl⟩
 obtain⟨⟨s1,k1⟩,e1⟩:∃s,s=op a1 b1:=⟨_,rfl⟩
 obtain⟨⟨s2,k2⟩,e2⟩:∃s,s=op a2 b2:=⟨_,rfl⟩
 obtain⟨⟨s3,k3⟩,e3⟩:∃s,s=op a3 b3:=⟨_,rfl⟩
 have h0:(k0&&k1&&k2&&k3)=false->r0=0/\r1=0/\r2=0/\r3=0/\ok=false:=by intro hk;simp only[both,<-e0,<-e1,<-e2,<-e3]at h;rw[if_neg (by rw[hk];simp)]at h;cases h;exact⟨rfl,rfl,rfl,rfl,rfl⟩
 have h1:(k0&&k1&&k2&&k3)=true->r0=s0/\r1=s1/\r2=s2/\r3=s3/\ok=true:=by intro hk;simp only[both,<-e0,<-e1,<-e2,<-e3]at h;rw[if_pos hk]at h;cases h;exact⟨rfl,rfl,rfl,rfl,rfl⟩
 clear h
 have fin:∀{bx:List av},(k0&&k1&&k2&&k3)=false->zJ 0 True (AV.c5 [.agg [.d (.int .u64 0),.d (.int .u64 0),.d (.int .u64 0),.d (.int .u64 0)],.d (.bool false)]) bx (some (True,AV.c5 [.agg [.d (.int .u64 0),.d (.int .u64 0),.d (.int .u64 0),.d (.int .u64 0)],.d (.bool false)]))
  (.ret (.c5 [.agg [.d (.int .u64 r0),.d (.int .u64 r1),.d (.int .u64 r2),.d (.int .u64 r3)],.d (.bool ok)])) []:=by
  intro bx hk;obtain⟨rfl,rfl,rfl,rfl,rfl⟩:=h0 hk;exact ak rfl
 refine cC ht Tryz.func157 (N:=34) ?_
 cbv
 refine bw ⟨[2,3,4,6,12,13],[],[]⟩ (σ:=Nat) (λj=>[(13,.d (.int .i64 j))]) (λj=>[(0,.var [.d (.int .u64 (bif Nat.blt 0 j then s0 else a0)),.d (.int .u64 (bif Nat.blt 1 j then s1 else a1)),.d (.int .u64 (bif Nat.blt 2 j then s2 else a2)),.d (.int .u64 (bif Nat.blt 3 j then s3 else a3))])])
  (λn j=>n+j=4/\(0<j->k0=true)/\(1<j->k1=true)/\(2<j->k2=true)/\(3<j->k3=true)) ?_
 cbv
 refine aC ⟨4,0,⟨rfl,by omega,by omega,by omega,by omega⟩,rfl,?_⟩
 rintro n j ⟨hn,g0,g1,g2,g3⟩
 have hj:j=0∨j=1∨j=2∨j=3∨j=4:=by omega
 rcases hj with rfl|rfl|rfl|rfl|rfl
 .cbv;refine oe (by simp[ht]) ?_;cbv;refine⟨by simp[ht],by simp[ht],iW hY (hop _ _ _ _ e0) hY rfl rfl ?_⟩;cbv;apply aj<;>intro hc
  .simp only[ht,Bool.not_eq_true']at hc;cbv;exact fin (by simp[hc])
  simp only[ht,Bool.not_eq_false']at hc;cbv;refine⟨by simp[ht],?_⟩;trace_state;refine aC ⟨3-0,0+1,⟨⟨by omega,by omega,by simp_all,by simp_all,by simp_all,by simp_all⟩,?_⟩⟩;simp only[ht];rfl
 .cbv;refine oe (by simp[ht]) ?_;cbv;refine⟨by simp[ht],by simp[ht],iW hY (hop _ _ _ _ e1) hY rfl rfl ?_⟩;cbv;apply aj<;>intro hc
  .simp only[ht,Bool.not_eq_true']at hc;cbv;exact fin (by simp[hc])
  simp only[ht,Bool.not_eq_false']at hc;cbv;refine⟨by simp[ht],?_⟩;trace_state;refine aC ⟨3-1,1+1,⟨⟨by omega,by omega,by simp_all,by simp_all,by simp_all,by simp_all⟩,?_⟩⟩;simp only[ht];rfl
 .cbv;refine oe (by simp[ht]) ?_;cbv;refine⟨by simp[ht],by simp[ht],iW hY (hop _ _ _ _ e2) hY rfl rfl ?_⟩;cbv;apply aj<;>intro hc
  .simp only[ht,Bool.not_eq_true']at hc;cbv;exact fin (by simp[hc])
  simp only[ht,Bool.not_eq_false']at hc;cbv;refine⟨by simp[ht],?_⟩;trace_state;refine aC ⟨3-2,2+1,⟨⟨by omega,by omega,by simp_all,by simp_all,by simp_all,by simp_all⟩,?_⟩⟩;simp only[ht];rfl
 .cbv;refine oe (by simp[ht]) ?_;cbv;refine⟨by simp[ht],by simp[ht],iW hY (hop _ _ _ _ e3) hY rfl rfl ?_⟩;cbv;apply aj<;>intro hc
  .simp only[ht,Bool.not_eq_true']at hc;cbv;exact fin (by simp[hc])
  simp only[ht,Bool.not_eq_false']at hc;cbv;refine⟨by simp[ht],?_⟩;trace_state;refine aC ⟨3-3,3+1,⟨⟨by omega,by omega,by simp_all,by simp_all,by simp_all,by simp_all⟩,?_⟩⟩;simp only[ht];rfl
 cbv
 refine p9 (by simp[ht]) ?_
 cbv
 obtain⟨rfl,rfl,rfl,rfl,rfl⟩:=h1 (by simp[g0,g1,g2,g3])
 exact ak rfl
theorem Tg(ht:TT t)(a0 a1 a2 a3 b0 b1 b2 b3:Int){r0 r1 r2 r3:Int}{ok:Bool}(h:(⟨r0,r1,r2,r3⟩,ok)=jW ⟨a0,a1,a2,a3⟩ ⟨b0,b1,b2,b3⟩):
 FC 122 [V4 a0 a1 a2 a3,V4 b0 b1 b2 b3] [] (.ret (.c5 [V4 r0 r1 r2 r3,BL ok])) []:=by
 refine cC ht Tryz.func122 (N:=11) ?_;cbv;refine iW hY (Tf ht _ _ _ _ _ _ _ _ Ju 168 (λx y r ok=>PY ht x y) h) hY rfl rfl ?_;cbv;exact ak rfl
theorem GY(ht:TT t)(a0 a1 a2 a3 b0 b1 b2 b3:Int){r0 r1 r2 r3:Int}{ok:Bool}(h:(⟨r0,r1,r2,r3⟩,ok)=ix ⟨a0,a1,a2,a3⟩ ⟨b0,b1,b2,b3⟩):
 FC 137 [V4 a0 a1 a2 a3,V4 b0 b1 b2 b3] [] (.ret (.c5 [V4 r0 r1 r2 r3,BL ok])) []:=by
 refine cC ht Tryz.func137 (N:=11) ?_;cbv;refine iW hY (Tf ht _ _ _ _ _ _ _ _ Jv 182 (λx y r ok=>PZ ht x y) h) hY rfl rfl ?_;cbv;exact ak rfl
theorem Wl(ht:TT t)(a0 a1 a2 a3 b0 b1 b2 b3:Int){ok:Bool}(h:ok=oh ⟨a0,a1,a2,a3⟩ ⟨b0,b1,b2,b3⟩):
 FC 80 [V4 a0 a1 a2 a3,V4 b0 b1 b2 b3] [] (.ret (BL ok)) []:=by
 obtain⟨⟨⟨r0,r1,r2,r3⟩,k⟩,e⟩:∃s,s=ix ⟨b0,b1,b2,b3⟩ ⟨a0,a1,a2,a3⟩:=⟨_,rfl⟩;have hk:ok=k:=by rw[h];unfold oh;rw[<-e]
 refine cC ht Tryz.func80 (N:=14) ?_;cbv;refine iW hY (GY ht _ _ _ _ _ _ _ _ e) hY rfl rfl ?_;cbv;exact ak (by rw[hk])
theorem Zd(ht:TT t)(name:az){l:List Node}{ps:List Place}{es qs:List (List D)}(aD:es=l.map Node.cells)(fX:qs=ps.map Place.cells)(hl:l.length<9223372036854775807)(oB:ps.length<9223372036854775807){a b c d:Int}{ok:Bool}(hr:iG name l ps=(⟨a,b,c,d⟩,ok)):
 FC 116 [.agg [SL es,SL qs],ST name] [] (.ret (.c5 [V4 a b c d,BL ok])) []:=by
 have hrows:∀r∈qs,r.length=6:=by rw[fX];intro r hr;obtain⟨y,_,rfl⟩:=List.mem_map.1 hr;rfl
 have hel:qs.length=ps.length:=by rw[fX,lgM]
 obtain⟨x,ok0,hf⟩:∃x ok0,ir name l=(x,ok0):=⟨_,_,rfl⟩;obtain⟨nm,⟨a0,b0,c0,d0⟩,lb,up⟩:=x;obtain⟨lr,hlr⟩:∃lr,lr=lb.map bT.cells:=⟨_,rfl⟩;obtain⟨J,hJ⟩:∃J:Nat->(bz×Bool)×Nat->Prop,∀n v,J n v↔(v.2+n=ps.length/\(ps.drop v.2).foldl (dW name) v.1=ps.foldl (dW name) (⟨a0,b0,c0,d0⟩,ok0)):=⟨λn v=>v.2+n=ps.length/\(ps.drop v.2).foldl (dW name) v.1=ps.foldl (dW name) (⟨a0,b0,c0,d0⟩,ok0),λ_ _=>Iff.rfl⟩;refine cC ht Tryz.func116 (N:=45) ?_;cbv;refine yl hY (Te ht name aD hl hf hlr) hY rfl rfl rfl ?_;cbv;refine bw ⟨[1,4,7,8,20,21,22],[],[]⟩ (σ:=(bz×Bool)×Nat) (λv=>[(7,BL (t _ λ_=>v.1.2)),(22,bf (t _ λ_=>(v.2:Int)))]) (λv=>[(1,.var [.d (.int .u64 (t _ λ_=>v.1.1.a)),.d (.int .u64 (t _ λ_=>v.1.1.b)),.d (.int .u64 (t _ λ_=>v.1.1.c)),.d (.int .u64 (t _ λ_=>v.1.1.d))])]) J ?_;cbv;refine aC ⟨ps.length,((⟨a0,b0,c0,d0⟩,ok0),0),(hJ _ _).2 ⟨by simp,by simp⟩,by simp only[ht];rfl,?_⟩;rintro n ⟨⟨⟨a1,b1,c1,d1⟩,UT⟩,k⟩ hj;obtain⟨j1,j2⟩:=(hJ _ _).1 hj;clear hj;simp only at j1 j2;cbv;apply aj<;>intro h
 .have hk:k<ps.length:=by simp[ht,aa]at h;omega
  clear h;obtain⟨x,hx⟩:∃x,ps[k]?=some x:=⟨ps[k],by simp⟩;obtain⟨jb,nd,⟨v1,v2,v3,v4⟩⟩:=x;have hd:ps.drop k=⟨jb,nd,⟨v1,v2,v3,v4⟩⟩::ps.drop (k+1):=by rw[List.drop_eq_getElem_cons hk];congr 1;rw[vaj hk]at hx;exact Option.some.inj hx
  rw[hd,List.foldl_cons]at j2;cbv;refine jG [.int .u64 jb,.str nd,.int .u64 v1,.int .u64 v2,.int .u64 v3,.int .u64 v4] ?_ ?_ ?_
  .simp only[ht,aa];exact⟨by omega,by omega,hrows⟩
  .simp[ht,aa,fX,hx]
  cbv;repeat (first|refine gI (by(simp[ht];done)) ?_|refine pI (by(simp[ht];done)) ?_)
  apply aj<;>intro hb
  .have hb':(UT&&decide (nd=name))=true:=by simp[ht]at hb ⊢;exact hb
   clear hb;obtain⟨⟨⟨r0,r1,r2,r3⟩,okr⟩,hv⟩:∃s,s=ix ⟨a1,b1,c1,d1⟩ ⟨v1,v2,v3,v4⟩:=⟨_,rfl⟩;have hst:dW name (⟨a1,b1,c1,d1⟩,UT) ⟨jb,nd,⟨v1,v2,v3,v4⟩⟩=(⟨r0,r1,r2,r3⟩,okr):=by simp only[dW,hb',if_true];exact hv.symm
   rw[hst]at j2;cbv;refine iW hY (GY ht _ _ _ _ _ _ _ _ (by simp only[ht];exact hv)) hY rfl rfl ?_;cbv;refine aC ⟨n-1,((⟨r0,r1,r2,r3⟩,okr),k+1),⟨by omega,(hJ _ _).2 ⟨by show k+1+(n-1)=_;omega,j2⟩⟩,?_⟩;simp only[ht,aa,aG (show k<9223372036854775807 by omega)];rfl
  have hb':(UT&&decide (nd=name))=false:=by simp[ht]at hb ⊢;exact hb
  clear hb;have hst:dW name (⟨a1,b1,c1,d1⟩,UT) ⟨jb,nd,⟨v1,v2,v3,v4⟩⟩=(⟨a1,b1,c1,d1⟩,UT):=by simp[dW,hb']
  rw[hst]at j2;cbv;refine aC ⟨n-1,((⟨a1,b1,c1,d1⟩,UT),k+1),⟨by omega,(hJ _ _).2 ⟨by show k+1+(n-1)=_;omega,j2⟩⟩,?_⟩;simp only[ht,aa,aG (show k<9223372036854775807 by omega)];rfl
 have hk:k=ps.length:=by simp[ht,aa]at h;omega
 clear h;rw[hk,List.drop_length,List.foldl_nil]at j2;have Vc:(if UT then((⟨a1,b1,c1,d1⟩:bz),UT)else(bz.zero,false))=(⟨a,b,c,d⟩,ok):=by rw[<-hr,iG,hf,<-j2]
 cbv;apply aj<;>intro hb
 .have hb':UT=false:=by simpa[ht]using hb
  clear hb;subst hb';obtain⟨⟨rfl,rfl,rfl,rfl⟩,rfl⟩:(a=0/\b=0/\c=0/\d=0)/\ok=false:=by simpa[bz.zero,eq_comm]using Vc
  cbv;exact ak rfl
 have hb':UT=true:=by simpa[ht]using hb
 clear hb;subst hb';obtain⟨⟨rfl,rfl,rfl,rfl⟩,rfl⟩:(a1=a/\b1=b/\c1=c/\d1=d)/\true=ok:=by simpa using Vc
 cbv;refine ak ?_;simp only[ht]
theorem Wm(ht:TT t)(name:az){l:List Node}{es ps:List (List D)}(aD:es=l.map Node.cells)(hl:l.length<9223372036854775807):
 FC 162 [.agg [SL es,SL ps],ST name] [] (.ret (SM t (t _ λ_=>ir name l))) []:=by
 simp only[ht];generalize hr:ir name l=r;obtain⟨⟨nm,⟨a,b,c,d⟩,lb,up⟩,ok⟩:=r;exact(by simpa only[SM,SK,ht]using Te ht name aD hl hr rfl)
theorem GZ(ht:TT t)(name:az){l:List Node}{ps:List Place}{es qs:List (List D)}(aD:es=l.map Node.cells)(fX:qs=ps.map Place.cells)(hl:l.length<9223372036854775807)(oB:ps.length<9223372036854775807):
 FC 116 [.agg [SL es,SL qs],ST name] [] (.ret (EVB (t _ λ_=>iG name l ps))) []:=by
 simp only[ht];generalize hr:iG name l ps=r;obtain⟨⟨a,b,c,d⟩,ok⟩:=r;exact Zd ht name aD fX hl oB hr
theorem qu(ht:TT t)(a b c d e f g h:Int):FC 80 [V4 a b c d,V4 e f g h] [] (.ret (cA (t _ λ_=>oh ⟨a,b,c,d⟩ ⟨e,f,g,h⟩))) []:=by simp only[ht];exact Wl ht _ _ _ _ _ _ _ _ rfl
theorem Wn(ht:TT t)(name:az)(v0 v1 v2 v3:Int){l:List Node}{ps:List Place}{es qs:List (List D)}(aD:es=l.map Node.cells)(fX:qs=ps.map Place.cells)(hl:l.length<9223372036854775807)(oB:ps.length<9223372036854775807):
 FC 111 [.agg [SL es,SL qs],ST name,V4 v0 v1 v2 v3] [] (.ret (ol (t _ λ_=>so name ⟨v0,v1,v2,v3⟩ l ps))) []:=by
 refine cC ht Tryz.func111 (N:=39) ?_;cbv;refine aM (Wm ht _ ‹_› ‹_›) hY (λr0 bM=>?_);simp only[ht]at bM;cbv;refine ar (GZ ht _ ‹_› ‹_› ‹_› ‹_›) hY (λr1 ej=>?_);simp only[ht]at ej;cbv;apply aj<;>intro h2
 .simp[ht]at h2;cbv;refine ak ?_;(simp only[ht,so];grind)
 simp[ht]at h2;cbv;apply aj<;>intro h3
 .simp[ht]at h3;cbv;refine ak ?_;(simp only[ht,so];grind)
 simp[ht]at h3;cbv;iterate 2 refine gI (by simp[ht]) ?_
 refine aT (λg4=>⟨by simp[ht]at g4 ⊢;exact g4,hY,qu ht _ _ _ _ _ _ _ _⟩) rfl rfl (λr5 lp=>?_);simp only[ht]at lp;cbv;refine gI (by simp[ht]) ?_;refine pI (by simp[ht]) ?_;apply aj<;>intro h6
 .simp[ht]at h6;cbv;refine ak ?_;(simp_all[so];done)
 simp[ht]at h6;cbv;refine ak ?_;(simp_all[so];done)
theorem Eo(ht:TT t){ps:List Place}{es:List (List D)}(aD:es=ps.map Place.cells)(hs:ps.length<1000000000):
 FC 110 [SL es] [] (.ret (.ow 0 6 (t _ λ_=>(ps.map Place.cells).length))) [.row 6 (t _ λ_=>ps.map Place.cells)]:=by
 simp only[ht];subst aD;refine yN ht ?_ ?_ (by simp)
 .intro r hr;obtain⟨y,_,rfl⟩:=List.mem_map.1 hr;rfl
 simp;omega
theorem Ze(ht:TT t)(bL:Int)(v0 v1 v2 v3:Int){l:List Node}{ps:List Place}{names:List az}{es qs ns:List (List D)}(aD:es=l.map Node.cells)(fX:qs=ps.map Place.cells)(ij:ns=names.map bp)(hl:l.length<1000000000)(oB:ps.length<100000000)(IF:names.length<100000000):
 FC 44 [.agg [SL es,SL qs],aA bL,SL ns,V4 v0 v1 v2 v3] [] (.ret (SN t (t _ λ_=>zM ⟨l,ps⟩ bL names ⟨v0,v1,v2,v3⟩))) []:=by
 refine cC ht Tryz.func44 (N:=45) ?_;cbv;have ay:es.length=l.length:=by rw[aD,lgM]
 have cM:qs.length=ps.length:=by rw[fX,lgM]
 have dc:ns.length=names.length:=by rw[ij,lgM]
 refine bE [false,false,false,false,false,false,false,true] ?_;cbv;iterate 4 refine gI (by simp) ?_
 refine .inr (Ot hY (Eo ht ‹_› (by omega)) hY rfl (.inr rfl) rfl ?_);cbv;refine gI (by simp) ?_;obtain⟨J0,dZ⟩:∃J0:Nat->Int×List (List D)->Prop,∀n i u,J0 n (i,u)↔(∃(k:Nat) (rs:List Place),i=k/\k+n=names.length/\u=rs.map Place.cells/\rs.length=ps.length+k/\gQ l bL ⟨v0,v1,v2,v3⟩ names ps=gQ l bL ⟨v0,v1,v2,v3⟩ (names.drop k) rs):=⟨λn v=>match v with|(i,u)=>(∃(k:Nat) (rs:List Place),i=k/\k+n=names.length/\u=rs.map Place.cells/\rs.length=ps.length+k/\gQ l bL ⟨v0,v1,v2,v3⟩ names ps=gQ l bL ⟨v0,v1,v2,v3⟩ (names.drop k) rs),λ_ _ _=>Iff.rfl⟩;refine bw ⟨[1,4,7,8,10,20,21,22],[],[]⟩ (σ:=Int×List (List D)) (λv=>[(22,.d (.int .i64 (t _ λ_=>v.1)))]) (λv=>[(2,.var [AV.cl [],AV.cl []]),(4,.row 6 (t _ λ_=>v.2)),(3,.var [AV.d (D.sl es),.ow 4 6 (t _ λ_=>(v.2).length)])]) J0 ?_;cbv;refine aC ⟨names.length,(_,_),(dZ _ _ _).2 ?_,by simp only[ht];rfl,?_⟩
 .exact⟨0,ps,rfl,by simp,by simp,by simp,by simp⟩
 rintro n ⟨i,u⟩ hj;replace hj:=(dZ _ _ _).1 hj;obtain⟨k,rs,rfl,j1,j2,j3,j4⟩:=hj;have OJ:u.length=rs.length:=by rw[j2,lgM]
 cbv;apply aj<;>intro h1
 .simp[ht,aa,dc]at h1;cbv;refine eT ht ij (cT:=fM t) (by(simp only[ht,aa];omega)) (by(simp only[ht,aa];omega)) (λ_=>rfl) (λ_=>rfl) (λx2 jX=>?_);simp[ht,aa]at jX;rw[cu jX,gQ]at j4;cbv;refine ar (Wn ht _ _ _ _ _ ‹_› (by(simp only[ht];omega)) (by omega) (by omega)) (by simp[ht]) (λr3 iR=>?_);simp only[ht]at iR;cbv;apply aj<;>intro h4
  .simp[ht]at h4;cbv;refine ak ?_;(simp only[ht,zM];grind)
  simp[ht]at h4;cbv;refine⟨?_,?_⟩
  ·(simp only[ht,true_and];exact C6 j2 (λ_=>rfl) rfl (by omega) (by decide))
  cbv;refine bA (_,_) (by simp only[ht,<-vaa];rfl) (n-1) ?_ ((dZ _ _ _).2 ?_)
  .omega
  simp only[aa];refine⟨k+1,rs++[⟨bL,x2,⟨v0,v1,v2,v3⟩⟩],aG (by omega),by omega,?_,by simp;omega,?_⟩
  ·(simp[*];done)
  (simp_all;done)
 simp[ht,aa,dc]at h1;cbv;refine ia hY (by simp[ht]) rfl rfl rfl ?_;(rw[vah (by omega),gQ]at j4;simp[ht,zM,j4,aD,j2];done)
theorem Kc(ht:TT t)(name:az){l:List Node}{es ps:List (List D)}(aD:es=l.map Node.cells)(hl:l.length<9223372036854775807):
 FC 87 [.agg [SL es,SL ps],ST name] [] (.ret (ol (t _ λ_=>idxOf (λx=>decide (x.name=name)) l))) []:=by
 simp only[ht];exact OI ht name aD hl rfl
theorem yO(ht:TT t){l:List Node}{es:List (List D)}(aD:es=l.map Node.cells)(hs:l.length<1000000000):
 FC 91 [SL es] [] (.ret (.ow 0 7 (t _ λ_=>(l.map Node.cells).length))) [.row 7 (t _ λ_=>l.map Node.cells)]:=by
 simp only[ht];subst aD;refine J8 ht ?_ ?_ (by simp)
 .intro r hr;obtain⟨y,_,rfl⟩:=List.mem_map.1 hr;rfl
 simp;omega
def bT.aS (_:Th) (x:bT):List D:=[.str x.key,.str x.value]
theorem P0(ht:TT t){l m:List bT}{es fs:List (List D)}(aD:es=l.map bT.cells)(vz:fs=m.map bT.cells)(hl:l.length<1000000000)(hm:m.length<1000000000):
 FC 134 [SL es,SL fs] [] (.ret (cA (t _ λ_=>decide (l=m)))) []:=by
 refine cC ht Tryz.func134 (N:=26) ?_;cbv;have ay:es.length=l.length:=by rw[aD,lgM]
 have cY:fs.length=m.length:=by rw[vz,lgM]
 apply aj<;>intro h0
 .simp[ht,aa,ay,cY]at h0;cbv;refine ak ?_;(simp[ht];rintro rfl;simp_all;done)
 simp[ht,aa,ay,cY]at h0;cbv;obtain⟨J1,iB⟩:∃J1:Nat->Int->Prop,∀n i,J1 n i↔(∃k:Nat,i=k/\k+n=l.length/\l.length=m.length/\decide (l=m)=decide (l.drop k=m.drop k)):=⟨λn v=>match v with|i=>(∃k:Nat,i=k/\k+n=l.length/\l.length=m.length/\decide (l=m)=decide (l.drop k=m.drop k)),λ_ _=>Iff.rfl⟩;refine bw ⟨[0,1,12,13],[],[]⟩ (σ:=Int) (λv=>[(13,.d (.int .i64 (t _ λ_=>v)))]) (λv=>[]) J1 ?_;cbv;refine aC ⟨l.length,_,(iB _ _).2 ?_,by simp only[ht];rfl,?_⟩
 ·(simp only[aa];grind)
 rintro n i hj;replace hj:=(iB _ _).1 hj;obtain⟨k,rfl,j1,j2,j4⟩:=hj;cbv;apply aj<;>intro h2
 .simp[ht,aa,ay]at h2;cbv;refine bE [false,false,false,false,false,false,false,false,true] ?_;cbv;iterate 2 refine gI (by simp) ?_
  refine eT ht aD (cT:=bT.aS t) (by(simp only[ht,aa];omega)) (by(simp only[ht,aa];omega)) (λ_=>rfl) (λ_=>rfl) (λx3 oU=>?_);simp[ht,aa]at oU;rw[cu oU]at j4;cbv;iterate 3 refine gI (by simp) ?_
  refine eT ht vz (cT:=bT.aS t) (by(simp only[ht,aa];omega)) (by(simp only[ht,aa];omega)) (λ_=>rfl) (λ_=>rfl) (λx4 vL=>?_);simp[ht,aa]at vL;rw[cu vL]at j4;cbv;refine gI (by simp) ?_;apply aj<;>intro h5
  .simp[ht]at h5;cbv;refine ak ?_;(simp[ht];rintro rfl;simp_all;done)
  simp[ht]at h5;cbv;refine bA _ rfl (n-1) ?_ ((iB _ _).2 ?_)
  .omega
  simp only[ht,aa];refine⟨k+1,aG (by omega),by omega,by omega,?_⟩;(simp[VN, *];done)
 simp[ht,aa,ay]at h2;cbv;refine ak ?_;(simp[ht,j4,vah (show l.length<=k by omega),vah (show m.length<=k by omega)];done)
theorem MQ(ht:TT t){l m:List Place}{es fs:List (List D)}(aD:es=l.map Place.cells)(vz:fs=m.map Place.cells)(hl:l.length<1000000000)(hm:m.length<1000000000):
 FC 75 [SL es,SL fs] [] (.ret (cA (t _ λ_=>decide (l=m)))) []:=by
 refine cC ht Tryz.func75 (N:=26) ?_;cbv;have ay:es.length=l.length:=by rw[aD,lgM]
 have cY:fs.length=m.length:=by rw[vz,lgM]
 apply aj<;>intro h0
 .simp[ht,aa,ay,cY]at h0;cbv;refine ak ?_;(simp[ht];rintro rfl;simp_all;done)
 simp[ht,aa,ay,cY]at h0;cbv;obtain⟨J1,iB⟩:∃J1:Nat->Int->Prop,∀n i,J1 n i↔(∃k:Nat,i=k/\k+n=l.length/\l.length=m.length/\decide (l=m)=decide (l.drop k=m.drop k)):=⟨λn v=>match v with|i=>(∃k:Nat,i=k/\k+n=l.length/\l.length=m.length/\decide (l=m)=decide (l.drop k=m.drop k)),λ_ _=>Iff.rfl⟩;refine bw ⟨[0,1,12,13],[],[]⟩ (σ:=Int) (λv=>[(13,.d (.int .i64 (t _ λ_=>v)))]) (λv=>[]) J1 ?_;cbv;refine aC ⟨l.length,_,(iB _ _).2 ?_,by simp only[ht];rfl,?_⟩
 ·(simp only[aa];grind)
 rintro n i hj;replace hj:=(iB _ _).1 hj;obtain⟨k,rfl,j1,j2,j4⟩:=hj;cbv;apply aj<;>intro h2
 .simp[ht,aa,ay]at h2;cbv;refine bE [false,false,false,false,false,false,false,false,true] ?_;cbv;iterate 2 refine gI (by simp) ?_
  refine eT ht aD (cT:=Place.aS t) (by(simp only[ht,aa];omega)) (by(simp only[ht,aa];omega)) (λ_=>rfl) (λ_=>rfl) (λx3 oU=>?_);simp[ht,aa]at oU;rw[cu oU]at j4;cbv;iterate 3 refine gI (by simp) ?_
  refine eT ht vz (cT:=Place.aS t) (by(simp only[ht,aa];omega)) (by(simp only[ht,aa];omega)) (λ_=>rfl) (λ_=>rfl) (λx4 vL=>?_);simp[ht,aa]at vL;rw[cu vL]at j4;cbv;refine gI (by simp) ?_;apply aj<;>intro h5
  .simp[ht]at h5;cbv;refine ak ?_;(simp[ht];rintro rfl;simp_all;done)
  simp[ht]at h5;cbv;refine bA _ rfl (n-1) ?_ ((iB _ _).2 ?_)
  .omega
  simp only[ht,aa];refine⟨k+1,aG (by omega),by omega,by omega,?_⟩;(simp[SJ,pi, *];done)
 simp[ht,aa,ay]at h2;cbv;refine ak ?_;(simp[ht,j4,vah (show l.length<=k by omega),vah (show m.length<=k by omega)];done)
theorem P1(ht:TT t)(c:Int){l:List (Int×Int)}{es:List (List D)}(aD:es=l.map (λx=>[D.int .i32 x.1,D.int .i32 x.2]))(f:Nat)(p:Int×Int->Bool)(hl:l.length<9223372036854775807)
 (hf:∀x∈l,FC f [.agg [.d (.int .i32 x.1),.d (.int .i32 x.2)],.ptr 0 0] [.var [.d (.int .i32 c)]] (.ret (BL (p x))) [.var [.d (.int .i32 c)]]) {r:Int} (hr:r=idxOf p l):FC 214 [SL es,.fn f [.ptr 0 0]] [.var [.d (.int .i32 c)]] (.ret (bf r)) [.var [.d (.int .i32 c)]]:=by
 have hel:es.length=l.length:=by rw[aD,lgM]
 refine kJ ht (aK:=[.var [.d (.int .i32 c)]]) Tryz.func214 rfl rfl (N:=19) rfl rfl (n:=1) rfl rfl ?_;cbv;refine bw ⟨[0,1,7,8],[],[]⟩ (σ:=Nat) (λk=>[(8,bf (t _ λ_=>(k:Int)))]) (λ_=>[]) (wL p l) ?_;cbv;refine aC ⟨l.length,0,.nil,by simp only[ht];rfl,λn k hj=>?_⟩;cbv;apply aj<;>intro h
 .simp only[ht,aa,vai]at h;have hk:k<es.length:=by omega
  obtain⟨x,hx,pM,px,hpx⟩:=hj.get (by omega);have iS:=hf x pM
  rw[<-hpx]at iS;obtain⟨lo,hi⟩:=x;cbv;refine jG [.int .i32 lo,.int .i32 hi] ?_ ?_ ?_
  .simp only[ht,aa];exact sE aD hk λ_=>rfl
  .simp[ht,aa,aD,hx]
  cbv;refine dO hY iS ?_;cbv;apply aj<;>intro hb
  .cbv;refine ak ?_;simp only[ht,aa,hr,hj.hit hx (hpx▸hb)]
  cbv;refine aC ⟨n-1,k+1,⟨hj.lt hx,hj.next hx (hpx▸hb)⟩,?_⟩;simp only[ht,aa,aG (show k<9223372036854775807 by omega)];rfl
 simp only[ht,aa,vap]at h;have hk:l.length<=k:=by omega
 clear h;cbv;refine ak ?_;rw[hr,hj.none hk]
theorem P2(ht:TT t)(c:Int){l:List (Int×Int)}{es:List (List D)}(aD:es=l.map (λx=>[D.int .i32 x.1,D.int .i32 x.2]))(f:Nat)(p:Int×Int->Bool)(hl:l.length<9223372036854775807)
 (hf:∀x∈l,FC f [.agg [.d (.int .i32 x.1),.d (.int .i32 x.2)],.ptr 0 0] [.var [.d (.int .i32 c)]] (.ret (BL (p x))) [.var [.d (.int .i32 c)]]) {r:Bool} (hr:r=l.any p):FC 184 [SL es,.fn f [.ptr 0 0]] [.var [.d (.int .i32 c)]] (.ret (BL r)) [.var [.d (.int .i32 c)]]:=by
 obtain⟨k,hk⟩:∃k,k=idxOf p l:=⟨_,rfl⟩;refine kJ ht (aK:=[.var [.d (.int .i32 c)]]) Tryz.func184 rfl rfl (N:=9) rfl rfl (n:=1) rfl rfl ?_;cbv;refine dO hY (P1 ht c aD f p hl hf hk) ?_;cbv;refine ak ?_;simp only[ht,hr,fL,hk]
theorem Ti(ht:TT t)(c lo hi:Int){r:Bool}(hr:r=(decide (lo<=c)&&decide (c<=hi))):FC 185 [.agg [.d (.int .i32 lo),.d (.int .i32 hi)],.ptr 0 0] [.var [.d (.int .i32 c)]] (.ret (BL r)) [.var [.d (.int .i32 c)]]:=by
 refine kJ ht (aK:=[.var [.d (.int .i32 c)]]) Tryz.func185 rfl rfl (N:=14) rfl rfl (n:=1) rfl rfl ?_;cbv;repeat (first|refine gI (by(simp[ht];done)) ?_|refine pI (by(simp[ht];done)) ?_)
 refine ak ?_;simp[ht,hr]
theorem OK(ht:TT t)(c:Int)(l:List (Int×Int)){es:List (List D)}(aD:es=l.map (λx=>[D.int .i32 x.1,D.int .i32 x.2]))(hl:l.length<9223372036854775807){r:Bool}(hr:r=Jy c l):FC 140 [.d (.int .i32 c),SL es] [] (.ret (BL r)) []:=by refine cC ht Tryz.func140 (N:=8) ?_;cbv;refine dO hY (P2 ht c aD 185 (λx=>decide (x.1<=c)&&decide (c<=x.2)) hl (λx _=>Ti ht c x.1 x.2 rfl) hr) ?_;cbv;exact ak rfl
theorem Wo(ht:TT t)(s:az)(hs:s.length<9223372036854775807){r:Int}(hr:r=tI s):FC 186 [ST s] [] (.ret (bf r)) []:=by
 obtain⟨J,hJ⟩:∃J:Nat->Nat×Nat->Prop,∀n v,J n v↔(s.length<=v.1+n/\v.2+(jH s n v.1).length=tI s):=⟨λn v=>s.length<=v.1+n/\v.2+(jH s n v.1).length=tI s,λ_ _=>Iff.rfl⟩;have hc:tI s<=s.length:=C4 s _ _
 refine cC ht Tryz.func186 (N:=10) ?_;cbv;refine bw ⟨[2,4],[],[]⟩ (σ:=Nat×Nat) (λv=>[(2,bf (t _ λ_=>(v.2:Int)))]) (λv=>[(0,.it s (t _ λ_=>v.1))]) J ?_;cbv;refine aC ⟨s.length,(0,0),(hJ _ _).2 ⟨by simp,by simp[tI,E6]⟩,by simp only[ht];rfl,?_⟩;rintro n ⟨pos,k⟩ hj;obtain⟨hf,hj⟩:=(hJ _ _).1 hj;cbv;refine⟨λhp=>?_,λhp=>?_⟩
 .simp only[ht]at hp hj hf;cases n with
  |zero=>exfalso;omega|succ n=>
  rw[jH,if_pos hp]at hj;cbv;refine oe rfl ?_;cbv;have hd:=Ov s pos hp
  refine aC ⟨n,(pos+(dec s pos).2,k+1),⟨by omega,(hJ _ _).2 ⟨?_,?_⟩⟩,?_⟩
  .show s.length<=pos+_+n;omega
  .rw[<-hj];simp only[List.length_cons];omega
  simp only[ht,aa,aG (show k<9223372036854775807 by simp at hj;omega)];rfl
 simp only[ht]at hp hj;cbv;refine p9 rfl ?_;cbv;refine ak ?_;have e:jH s n pos=[]:=by cases n with
  |zero=>rfl|succ n=>rw[jH,if_neg hp]
 rw[e]at hj;simp only[ht,aa,hr,<-hj];rfl
theorem Tj(ht:TT t)(s:az)(hs:s.length<9223372036854775807){r:Int}(hr:r=tI s):FC 141 [ST s] [] (.ret (bf r)) []:=by refine cC ht Tryz.func141 (N:=5) ?_;cbv;refine iW hY (Wo ht s hs hr) hY rfl rfl ?_;cbv;exact ak rfl
theorem Dy(ht:TT t)(s:az)(hs:s.length<9223372036854775807){r:Bool}(hr:r=eV s):FC 85 [ST s] [] (.ret (BL r)) []:=by
 obtain⟨J,hJ⟩:∃J:Nat->Nat->Prop,∀n v,J n v↔(s.length<=v+n/\(E6 s).all YR=(jH s n v).all YR):=⟨λn v=>s.length<=v+n/\(E6 s).all YR=(jH s n v).all YR,λ_ _=>Iff.rfl⟩;refine cC ht Tryz.func85 (N:=32) ?_;cbv;refine bw ⟨[0,2,6],[],[]⟩ (σ:=Nat) (λ_=>[]) (λv=>[(0,.it s (t _ λ_=>v))]) J ?_;cbv;refine aC ⟨s.length,0,(hJ _ _).2 ⟨by simp,by simp[E6]⟩,by simp only[ht];rfl,?_⟩;rintro n pos hj;obtain⟨hf,hj⟩:=(hJ _ _).1 hj;cbv;refine⟨λhp=>?_,λhp=>?_⟩
 .simp only[ht]at hp hj hf;cases n with
  |zero=>exfalso;omega|succ n=>
  rw[jH,if_pos hp]at hj;obtain⟨b1,ED⟩:∃b,b=Jy (dec s pos).1 GD:=⟨_,rfl⟩;obtain⟨b2,Eb⟩:∃b,b=Jy (dec s pos).1 marks:=⟨_,rfl⟩;cbv;refine oe rfl ?_;cbv;refine iW hY (OK ht _ GD rfl (by decide) (r:=b1) (by simp only[ht,aa];exact ED)) hY rfl rfl ?_;cbv;repeat (refine gI (by(simp[ht];done)) ?_)
  refine Jq (λhg=>⟨by simp[ht]at hg ⊢;exact hg,hY,OK ht _ marks rfl (by decide) (r:=b2) (by simp only[ht,aa];exact Eb)⟩) rfl rfl ?_;cbv;repeat (first|refine gI (by first|(simp[ht,ah];done)|(simp[ht,ah];intros;simp_all;done)) ?_|refine pI (by(simp[ht];done)) ?_)
  obtain⟨b,hb⟩:∃b,b=(!b1&&(decide (pos=0)||!b2)):=⟨_,rfl⟩;have hw:YR (pos,(dec s pos).1)=!b:=by simp only[YR,<-ED,<-Eb,hb];cases b1<;>cases b2<;>simp
  apply aj<;>intro hc
  .have hbt:b=true:=by rw[hb];simp[ht,aa]at hc;revert hc;cases b1<;>cases b2<;>simp
   cbv;refine ak ?_;simp only[List.all_cons,hw,hbt]at hj;simp[hr,eV,hj]
  have hbf:b=false:=by rw[hb];simp[ht,aa]at hc;revert hc;cases b1<;>cases b2<;>simp
  cbv;have hd:=Ov s pos hp
  refine aC ⟨n,pos+(dec s pos).2,⟨by omega,(hJ _ _).2 ⟨by omega,?_⟩⟩,?_⟩
  .rw[hj,List.all_cons,hw,hbf];rfl
  simp only[ht];rfl
 simp only[ht]at hp hj;have e:jH s n pos=[]:=by cases n with
  |zero=>rfl|succ n=>rw[jH,if_neg hp]
 rw[e]at hj;obtain⟨k,hk⟩:∃k:Int,k=tI s:=⟨_,rfl⟩;cbv;refine p9 rfl ?_;cbv;repeat (refine gI (by(simp[ht];done)) ?_)
 refine Jq (λhg=>⟨by simp[ht]at hg ⊢;exact hg,hY,Tj ht s hs hk⟩) rfl rfl ?_;cbv;repeat (first|refine gI (by(simp[ht];done)) ?_|refine pI (by(simp[ht];done)) ?_)
 refine ak ?_;simp only[List.all_nil]at hj;simp only[ht,aa,hr,eV,hj,hk,Bool.true_and];simp;congr 1;rw[decide_eq_decide];omega
theorem Tk(ht:TT t)(l:List bT)(hl:l.length<9223372036854775807)(iC:∀p∈l,p.sm){es:List (List D)}(aD:es=l.map bT.cells){r:Bool}(hr:r=kL l):FC 86 [SL es] [] (.ret (BL r)) []:=by
 have hel:es.length=l.length:=by rw[aD,lgM]
 obtain⟨J,hJ⟩:∃J:Nat->Nat->Prop,∀n v,J n v↔(v+n=l.length/\kK none l=kK (nw l v) (l.drop v)):=⟨λn v=>v+n=l.length/\kK none l=kK (nw l v) (l.drop v),λ_ _=>Iff.rfl⟩;refine cC ht Tryz.func86 (N:=41) ?_;cbv;refine bw ⟨[0,2,5,6,7],[],[]⟩ (σ:=Nat) (λk=>[(7,bf (t _ λ_=>(k:Int)))]) (λ_=>[]) J ?_;cbv;refine aC ⟨l.length,0,(hJ _ _).2 ⟨by simp,by simp[nw]⟩,by simp only[ht];rfl,?_⟩;rintro n k hj;obtain⟨h2,h3⟩:=(hJ _ _).1 hj;clear hj;cbv;apply aj<;>intro h
 .simp only[ht,aa,vai]at h;have hk:k<l.length:=by omega
  obtain⟨⟨ky,vl⟩,hx⟩:∃x,l[k]?=some x:=⟨l[k],by simp⟩;obtain⟨sk,sv⟩:=iC _ (vag hx);obtain⟨b1,ED⟩:∃b,b=eV ky:=⟨_,rfl⟩;obtain⟨b2,Eb⟩:∃b,b=eV vl:=⟨_,rfl⟩;cbv;refine jG [.str ky,.str vl] ?_ ?_ ?_
  .simp only[ht,aa];refine⟨by omega,h,?_⟩;rw[aD];intro r hr;obtain⟨y,_,rfl⟩:=List.mem_map.1 hr;rfl
  .simp[ht,aa,aD,hx]
  cbv;refine bE [true,true,true,true,true,true,true,true,true,true,true,true,true,true,false,false,false,false,false,false,false,false,true,true,true] ?_;cbv;refine iW hY (Dy ht ky sk ED) hY rfl rfl ?_;cbv;repeat (refine gI (by(simp[ht];done)) ?_)
  refine Jq (λhg=>⟨by simp[ht]at hg ⊢;exact hg,hY,Dy ht vl sv Eb⟩) rfl rfl ?_;cbv;obtain⟨⟨qk,qv⟩,hq⟩:∃q:bT,k≠0->l[k-1]?=some q:=by
   by_cases h0:k=0
   .exact⟨⟨[],[]⟩,λh=>absurd h0 h⟩
   exact⟨l[k-1],λ_=>by simp⟩
  repeat (first|refine gI (by(simp[ht];done)) ?_|refine pI (by(simp[ht];done)) ?_)
  refine SA [.str qk,.str qv] ?_ ?_
  .intro hg;simp[ht,aa]at hg;have h0:k≠0:=by omega
   have hw:IntKind.i64.wrap ((k:Int)-1)=((k-1:Nat):Int):=by rw[wrap64 (by omega) (by omega)];omega
   refine⟨⟨?_,?_⟩,?_⟩
   .simp[ht,aa];omega
   .simp only[ht,aa,hw];refine⟨by omega,by omega,?_⟩;rw[aD];intro r hr;obtain⟨y,_,rfl⟩:=List.mem_map.1 hr;rfl
   simp[ht,aa,hw,aD,hq h0]
  cbv;repeat (first|refine gI (by first|(simp[ht,ah];done)|(simp[ht,ah];intros;simp_all;done)) ?_|refine pI (by(simp[ht];done)) ?_)
  obtain⟨b,hb⟩:∃b,b=(!b1||!b2||(decide (0<k)&&sle ky qk)):=⟨_,rfl⟩;have hstep:kK (nw l k) (l.drop k)=(!b&&kK (nw l (k+1)) (l.drop (k+1))):=by
   have e1:l.drop k=⟨ky,vl⟩::l.drop (k+1):=by rw[List.drop_eq_getElem_cons hk];congr 1;rw[vaj hk]at hx;exact Option.some.inj hx
   have e2:nw l (k+1)=some ky:=by simp[nw,hx]
   rw[e1,e2];cases k with
   |zero=>simp[kK,nw,<-ED,<-Eb,hb]|succ k=>have:=hq (by omega);simp only[Nat.add_sub_cancel]at this;simp[kK,nw,this,<-ED,<-Eb,hb]
  apply aj<;>intro hc
  .have hbt:b=true:=by rw[hb];simp[ht,aa,sle]at hc ⊢;revert hc;cases b1<;>cases b2<;>simp
   cbv;refine ak ?_;rw[hr,kL,h3,hstep,hbt];rfl
  have hbf:b=false:=by rw[hb];simp[ht,aa,sle]at hc ⊢;revert hc;cases b1<;>cases b2<;>simp
  cbv;refine aC ⟨n-1,k+1,⟨by omega,(hJ _ _).2 ⟨by omega,?_⟩⟩,?_⟩
  .rw[h3,hstep,hbf];rfl
  simp only[ht,aa,aG (show k<9223372036854775807 by omega)];rfl
 simp only[ht,aa,vap]at h;have hk:k=l.length:=by omega
 clear h;cbv;refine ak ?_;simp only[ht,aa,hel,hr,kL,h3,hk,List.drop_length,kK,Bool.true_and];simp;omega
end Dem
end
