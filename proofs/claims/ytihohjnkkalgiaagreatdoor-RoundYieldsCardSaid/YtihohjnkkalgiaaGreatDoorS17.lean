/- Parts of a proof, joined. -/
import Derived.Test.YtihohjnkkalgiaaGreatDoorS16
import Derived.Shelf.Strings.OnBuilder
import Derived.Test.YtihohjnkkalgiaaGreatDoorProg
import Derived.Lib.Mul64
set_option linter.all false
set_option maxRecDepth 100000
set_option maxHeartbeats 4000000
section
open Go Dem Go.Proofs
namespace Dem
variable {t:Th}
theorem P2 (ht:TT t) (l:List dx) (hl:l.length<9223372036854775807) (wM:∀p∈l,p.sm) {es:List (List D)} (aE:es=l.map dx.cells) {r:Bool} (hr:r=tG l):FC 122 [SL es] [] (.ret (BL r)) []:=by
 have hel:es.length=l.length:=by rw [aE,lgM]
 obtain ⟨J,hJ⟩:∃J:Nat→Nat→Prop,∀n v,J n v↔(v+n=l.length∧jH none l=jH (lJ l v) (l.drop v)):=⟨fun n v=>v+n=l.length∧jH none l=jH (lJ l v) (l.drop v),fun _ _=>Iff.rfl⟩
 refine bP ht (aQ:=[]) Tryz.func122 rfl rfl (N:=41) rfl rfl (n:=0) rfl rfl ?_
 cbv
 refine bH ⟨[0,2,5,6,7],[],[]⟩ (σ:=Nat) (fun k=>[(7,bG (t _ fun _=>(k:Int)))]) (fun _=>[]) J ?_
 cbv
 refine aH ⟨l.length,0,(hJ _ _).2 ⟨by simp,by simp [lJ]⟩,by simp only [ht];rfl,?_⟩
 rintro n k hj
 obtain ⟨h2,h3⟩:=(hJ _ _).1 hj
 clear hj
 cbv
 refine av (fun h=>?_) (fun h=>?_)
 ·simp only [ht,ah,decide_eq_true_eq] at h
  have hk:k<l.length:=by omega
  obtain ⟨⟨ky,vl⟩,hx⟩:∃x,l[k]?=some x:=⟨l[k],by simp⟩
  obtain ⟨sk,sv⟩:=wM _ (List.mem_of_getElem? hx)
  obtain ⟨b1,pX⟩:∃b,b=eD ky:=⟨_,rfl⟩
  obtain ⟨b2,sE⟩:∃b,b=eD vl:=⟨_,rfl⟩
  cbv
  refine jG [.str ky,.str vl] ?_ ?_ ?_
  ·simp only [ht,ah];refine ⟨by omega,h,?_⟩;rw [aE];intro r hr;obtain ⟨y,_,rfl⟩:=List.mem_map.1 hr;rfl
  ·simp [ht,ah,aE,hx]
  cbv
  refine dO [true,true,true,true,true,true,true,true,true,true,true,true,true,true,false,false,false,false,false,false,false,false,true,true,true] (by kernel_rfl) (by kernel_rfl) ?_
  cbv
  refine gB trv (AZ ht ky sk pX) trv rfl rfl ?_
  cbv
  repeat (refine gI (by (simp [ht];done)) ?_)
  refine GI (fun hg=>⟨by simp [ht] at hg ⊢;exact hg,trv,AZ ht vl sv sE⟩) rfl rfl ?_
  cbv
  obtain ⟨⟨qk,qv⟩,hq⟩:∃q:dx,k≠0→l[k-1]?=some q:=by
   by_cases h0:k=0
   ·exact ⟨⟨[],[]⟩,fun h=>absurd h0 h⟩
   exact ⟨l[k-1],fun _=>by simp⟩
  repeat (first|refine gI (by (simp [ht];done)) ?_|refine pI (by (simp [ht];done)) ?_)
  refine Sv [.str qk,.str qv] ?_ ?_
  ·intro hg
   simp [ht,ah] at hg
   have h0:k≠0:=by omega
   have hw:IntKind.i64.wrap ((k:Int)-1)=((k-1:Nat):Int):=by rw [wrap64 (by omega) (by omega)];omega
   refine ⟨⟨?_,?_⟩,?_⟩
   ·simp [ht,ah];omega
   ·simp only [ht,ah,hw]
    refine ⟨by omega,by omega,?_⟩
    rw [aE];intro r hr;obtain ⟨y,_,rfl⟩:=List.mem_map.1 hr;rfl
   simp [ht,ah,hw,aE,hq h0]
  cbv
  repeat (first|refine gI (by first|(simp [ht,aj];done)|(simp [ht,aj];intros;simp_all;done)) ?_|refine pI (by (simp [ht];done)) ?_)
  obtain ⟨b,hb⟩:∃b,b=(!b1||!b2||(decide (0<k)&&sle ky qk)):=⟨_,rfl⟩
  have hstep:jH (lJ l k) (l.drop k)=(!b&&jH (lJ l (k+1)) (l.drop (k+1))):=by
   have e1:l.drop k=⟨ky,vl⟩::l.drop (k+1):=by
    rw [List.drop_eq_getElem_cons hk];congr 1
    rw [List.getElem?_eq_getElem hk] at hx;exact Option.some.inj hx
   have e2:lJ l (k+1)=some ky:=by simp [lJ,hx]
   rw [e1,e2]
   cases k with
   |zero=>simp [jH,lJ,←pX,←sE,hb]
   |succ k=>
    have:=hq (by omega)
    simp only [Nat.add_sub_cancel] at this
    simp [jH,lJ,this,←pX,←sE,hb]
  refine av (fun hc=>?_) (fun hc=>?_)
  ·have ZY:b=true:=by rw [hb];simp [ht,ah,sle] at hc ⊢;revert hc;cases b1<;>cases b2<;>simp
   cbv
   refine az trv trv rfl rfl rfl ?_
   rw [hr,tG,h3,hstep,ZY];rfl
  have ZZ:b=false:=by rw [hb];simp [ht,ah,sle] at hc ⊢;revert hc;cases b1<;>cases b2<;>simp
  cbv
  refine aH ⟨n-1,k+1,⟨by omega,(hJ _ _).2 ⟨by omega,?_⟩⟩,?_⟩
  ·rw [h3,hstep,ZZ];rfl
  simp only [ht,ah,aG (show k<9223372036854775807 by omega)];rfl
 simp only [ht,ah,decide_eq_false_iff_not] at h
 have hk:k=l.length:=by omega
 clear h
 cbv
 refine az trv trv rfl rfl rfl ?_
 simp only [ht,ah,hel,hr,tG,h3,hk,List.drop_length,jH,Bool.true_and]
 simp
 omega
theorem A2 (ht:TT t) {l:List Node} {ps:List Place} {es qs:List (List D)} (aE:es=l.map Node.cells) (eM:qs=ps.map Place.cells) (hl:l.length<1000000000) (I0:ps.length<1000000000):
 FC 96 [.agg [SL es,SL qs]] [] (.ret (Vg t (t _ fun _=>l.filterMap (nW l ps)))) []:=by
 refine bP ht (aQ:=[]) Tryz.func96 rfl rfl (N:=38) rfl rfl (n:=0) rfl rfl ?_
 cbv
 have aD:es.length=l.length:=by rw [aE,lgM]
 have bq:qs.length=ps.length:=by rw [eM,lgM]
 obtain ⟨J0,fI⟩:∃J0:Nat→List (List D)×Int→Prop,∀n o i,J0 n (o,i)↔(∃(k:Nat) (rs:List bV),i=k∧k+n=l.length∧o=rs.map bV.cells∧rs.length≤k∧l.filterMap (nW l ps)=rs++(l.drop k).filterMap (nW l ps)):=⟨fun n v=>match v with|(o,i)=>(∃(k:Nat) (rs:List bV),i=k∧k+n=l.length∧o=rs.map bV.cells∧rs.length≤k∧l.filterMap (nW l ps)=rs++(l.drop k).filterMap (nW l ps)),fun _ _ _=>Iff.rfl⟩
 refine bH ⟨[1,3,9,10,11],[(3,6)],[]⟩ (σ:=List (List D)×Int) (fun v=>[(3,.ow 1 6 (t _ fun _=>(v.1).length)),(11,.d (.int .i64 (t _ fun _=>v.2)))]) (fun v=>[(1,.row 6 (t _ fun _=>v.1))]) J0 ?_
 cbv
 refine aH ⟨l.length,([],_),(fI _ _ _).2 ?_,by simp only [ht];rfl,?_⟩
 ·exact ⟨0,[],rfl,by simp,rfl,by simp,by simp⟩
 rintro n ⟨o,i⟩ hj
 replace hj:=(fI _ _ _).1 hj
 obtain ⟨k,rs,rfl,j1,j2,j3,j4⟩:=hj
 have X1:o.length=rs.length:=by rw [j2,lgM]
 cbv
 refine av (fun h1=>?_) (fun h1=>?_)
 ·simp [ht,ah,aD] at h1
  cbv
  refine kp ht aE (cT:=Node.aZ t) (by (simp only [ht,ah];omega)) (by (simp only [ht,ah];omega)) (fun _=>rfl) (fun _=>(by (simp only [ht,Node.aZ];done))) (fun x2 n9=>?_)
  simp [ht,ah] at n9
  rw [jI n9,List.filterMap_cons,nW] at j4
  cbv
  refine bc trv (LL ht _ ‹_› ‹_› (by omega) (by omega)) trv rfl rfl (fun r3 mM=>?_)
  simp only [ht] at mM
  cbv
  iterate 2 refine gI (by simp) ?_
  refine pI (by simp) ?_
  refine av (fun h4=>?_) (fun h4=>?_)
  ·simp [ht] at h4
   cbv
   refine ⟨?_,?_⟩
   ·(simp only [ht,true_and];exact Uo j2 (fun _=>rfl) rfl (by omega) (by decide))
   cbv
   refine cz (_,_) (by simp only [ht,←List.length_append];rfl) (n-1) ?_ ((fI _ _ _).2 ?_)
   ·omega
   simp only [ah]
   refine ⟨k+1,rs++[⟨(x2).name,(cI (x2).name l ps).1,(x2).labels⟩],aG (by omega),by omega,?_,by simp;omega,?_⟩
   ·(simp [bV.cells, *];done)
   (simp_all;done)
  simp [ht] at h4
  cbv
  refine cz (_,_) (by simp only [ht];rfl) (n-1) ?_ ((fI _ _ _).2 ?_)
  ·omega
  simp only [ah]
  exact ⟨k+1,rs,aG (by omega),by omega,j2,by omega,by grind⟩
 simp [ht,ah,aD] at h1
 cbv
 refine az trv (by simp [ht]) rfl rfl rfl ?_
 (rw [List.drop_eq_nil_of_le (by omega)] at j4;simp [*];done)
theorem rT (ht:TT t) (s:aK) (hs:s.length<9223372036854775807):FC 121 [ST s] [] (.ret (dh (t _ fun _=>eD s))) []:=by
 simp only [ht];exact AZ ht s hs rfl
theorem MV (ht:TT t) {l:List dx} {es:List (List D)} (aE:es=l.map dx.cells) (hl:l.length<1000000000) (wM:∀p∈l,p.sm):FC 122 [SL es] [] (.ret (dh (t _ fun _=>tG l))) []:=by
 simp only [ht];exact P2 ht l (by omega) wM aE rfl
def Term.sm (x:Term):Prop:=x.key.length<9223372036854775807∧x.mQ.length<1000000000∧∀v∈x.mQ,v.length<9223372036854775807
def prevStr (l:List aK) (k:Nat):Option aK:=match k with
 |0=>none
 |k+1=>l[k]?
theorem tm8 (a:Nat):(a:Int).tmod 8=((a%8:Nat):Int):=by rw [Int.tmod_eq_emod_of_nonneg (by omega)];rfl
theorem Z0 (a:Nat):(a:Int).tmod 12=((a%12:Nat):Int):=by rw [Int.tmod_eq_emod_of_nonneg (by omega)];rfl
theorem Wu (a:Nat):(a:Int).tmod 5=((a%5:Nat):Int):=by rw [Int.tmod_eq_emod_of_nonneg (by omega)];rfl
theorem Z1 (a:Nat):(a:Int).tmod 4=((a%4:Nat):Int):=by rw [Int.tmod_eq_emod_of_nonneg (by omega)];rfl
theorem Z2 (a:Nat):(a:Int).tmod 3=((a%3:Nat):Int):=by rw [Int.tmod_eq_emod_of_nonneg (by omega)];rfl
theorem tm2 (a:Nat):(a:Int).tmod 2=((a%2:Nat):Int):=by rw [Int.tmod_eq_emod_of_nonneg (by omega)];rfl
theorem td5 (a:Nat):(a:Int).tdiv 5=((a / 5:Nat):Int):=by rw [Int.tdiv_eq_ediv_of_nonneg (by omega)];rfl
theorem Z3 (a:Nat):(a:Int).tdiv 25=((a / 25:Nat):Int):=by rw [Int.tdiv_eq_ediv_of_nonneg (by omega)];rfl
theorem td3 (a:Nat):(a:Int).tdiv 3=((a / 3:Nat):Int):=by rw [Int.tdiv_eq_ediv_of_nonneg (by omega)];rfl
theorem Z4 (a:Nat) (h:a<256):IntKind.u8.wrap (a:Int)=(a:Int):=by simp only [IntKind.wrap];simp [IntKind.bits,IntKind.signed];omega
theorem SX (a:Nat) (h:a<256):IntKind.u64.wrap (a:Int)=(a:Int):=by simp only [IntKind.wrap];simp [IntKind.bits,IntKind.signed];omega
theorem P3 (a:Nat) (h:a<1000000000):IntKind.i64.wrap (a:Int)=(a:Int):=wrap64 (by omega) (by omega)
def Z5 (t:Th) (x:Ask):AV:=.agg [ST x.path,aC x.gx.a,aC x.gx.b,aC x.gx.c,aC x.gx.d,bG x.count,bG x.prio,bG x.fH,SL (t _ fun _=>x.cE.map Term.cells)]
abbrev U8 (x:Int):AV:=.d (.int .u8 x)
def EG:List (List D):=[[D.str [97]],[D.str [97,47,98]],[D.str [98]],[D.str [206,177,206,178]]]
theorem P4 (k:Nat):(0≤((k%4:Nat):Int))∧((k%4:Nat):Int)<EG.length∧∀r,r∈EG→r.length=1:=by
 refine ⟨by omega,?_,by decide+revert⟩
 show ((k%4:Nat):Int)<(4:Nat)
 omega
theorem P5 (k:Nat):EG.getD ((k%4:Nat):Int).toNat []=[D.str (AU.getD (k%4) [])]:=by
 have:∀k<4,EG.getD ((k:Nat):Int).toNat []=[D.str (AU.getD k [])]
  |0,_=>rfl
  |1,_=>rfl
  |2,_=>rfl
  |3,_=>rfl
  |k+4,h=>by omega
 exact this _ (Nat.mod_lt _ (by decide))
theorem Vv (ht:TT t) (nm:aK) (a b c d:Int) {lb:List (List D)} (up:Bool) (WG:aK) (a' b' c' d':Int) {lb':List (List D)} (Z6:Bool) {r:Bool} (hr:r=!Op.bytesLess WG nm):
 FC 145 [.agg [ST WG,aC a',aC b',aC c',aC d',SL lb',BL Z6],.ptr 0 0] [.var [ST nm,aC a,aC b,aC c,aC d,SL lb,BL up]] (.ret (BL r)) [.var [ST nm,aC a,aC b,aC c,aC d,SL lb,BL up]]:=by
 refine bP ht (aQ:=[.var [ST nm,aC a,aC b,aC c,aC d,SL lb,BL up]]) Tryz.func145 rfl rfl (N:=9) rfl rfl (n:=1) rfl rfl ?_
 cbv
 refine az trv trv rfl rfl rfl ?_
 (simp only [ht,hr];done)
theorem JO (ht:TT t) (nm:aK) (a b c d:Int) (lb:List (List D)) (up:Bool) {l:List (Node)} {es:List (List D)} (aE:es=l.map Node.cells) (f:Nat) (p:Node→Bool) (hl:l.length<9223372036854775807)
 (hf:∀x∈l,FC f [.agg [.d (.str x.name),.d (.int .u64 x.cap.a),.d (.int .u64 x.cap.b),.d (.int .u64 x.cap.c),.d (.int .u64 x.cap.d),.d (.sl (x.labels.map dx.cells)),.d (.bool x.up)],.ptr 0 0] [.var [ST nm,aC a,aC b,aC c,aC d,SL lb,BL up]] (.ret (BL (p x))) [.var [ST nm,aC a,aC b,aC c,aC d,SL lb,BL up]]) {r:Int} (hr:r=idxOf p l):FC 112 [SL es,.fn f [.ptr 0 0]] [.var [ST nm,aC a,aC b,aC c,aC d,SL lb,BL up]] (.ret (bG r)) [.var [ST nm,aC a,aC b,aC c,aC d,SL lb,BL up]]:=by
 have hel:es.length=l.length:=by rw [aE,lgM]
 obtain ⟨J,hJ⟩:∃J:Nat→Nat→Prop,∀n v,J n v↔(v+n=l.length∧∀i<v,∀x,l[i]?=some x→p x=false):=⟨fun n v=>v+n=l.length∧∀i<v,∀x,l[i]?=some x→p x=false,fun _ _=>Iff.rfl⟩
 refine bP ht (aQ:=[.var [ST nm,aC a,aC b,aC c,aC d,SL lb,BL up]]) Tryz.func112 rfl rfl (N:=19) rfl rfl (n:=1) rfl rfl ?_
 cbv
 refine bH ⟨[0,1,7,8],[],[]⟩ (σ:=Nat) (fun k=>[(8,bG (t _ fun _=>(k:Int)))]) (fun _=>[]) J ?_
 cbv
 refine aH ⟨l.length,0,(hJ _ _).2 ⟨by omega,by intro i hi;simp at hi⟩,by simp only [ht];rfl,?_⟩
 rintro n k hj
 obtain ⟨h2,h3⟩:=(hJ _ _).1 hj
 clear hj
 cbv
 refine av (fun h=>?_) (fun h=>?_)
 ·simp only [ht,ah,decide_eq_true_eq] at h
  have hk:k<l.length:=by omega
  obtain ⟨x,hx⟩:∃x,l[k]?=some x:=⟨l[k],by simp⟩
  have pG:x∈l:=List.mem_of_getElem? hx
  have ix:=hf x pG
  obtain ⟨px,hpx⟩:∃b,b=p x:=⟨_,rfl⟩
  rw [←hpx] at ix
  obtain ⟨WG,⟨a',b',c',d'⟩,lb',Z6⟩:=x;obtain ⟨Hr,mH⟩:∃lr:List (List D),lr=lb'.map dx.cells:=⟨_,rfl⟩;simp only [←mH] at ix
  cbv
  refine jG [.str WG,.int .u64 a',.int .u64 b',.int .u64 c',.int .u64 d',.sl Hr,.bool Z6] ?_ ?_ ?_
  ·simp only [ht,ah];refine ⟨by omega,h,?_⟩;rw [aE];intro r hr;obtain ⟨y,_,rfl⟩:=List.mem_map.1 hr;rfl
  ·simp [ht,ah,aE,hx,mH]
  cbv
  refine eG trv ix ?_
  cbv
  refine av (fun hb=>?_) (fun hb=>?_)
  ·cbv
   refine az trv trv rfl rfl rfl ?_
   have e:=dD hx (hpx▸hb) h3
   simp only [ht,ah,hr,idxOf,e]
  cbv
  refine aH ⟨n-1,k+1,⟨by omega,(hJ _ _).2 ⟨by omega,?_⟩⟩,?_⟩
  ·intro i hi y hy
   by_cases hik:i<k
   ·exact h3 i hik y hy
   have:i=k:=by omega
   subst this;rw [hx] at hy;cases hy;rw [←hpx];exact hb
  simp only [ht,ah,aG (show k<9223372036854775807 by omega)];rfl
 simp only [ht,ah,decide_eq_false_iff_not] at h
 have hk:¬k<l.length:=by omega
 clear h
 cbv
 refine az trv trv rfl rfl rfl ?_
 rw [hr,idxOf,dQ]
 intro i y hy
 have:i<l.length:=by
  rcases Nat.lt_or_ge i l.length with h'|h';· exact h'
  simp [List.getElem?_eq_none h'] at hy
 exact h3 i (by omega) y hy
theorem sI (ht:TT t) {l:List Node} {x:Node} {k:Nat} {i:Int} {lr:List (List D)} (hi:i=k) (hk:k≤l.length) (hl:l.length<1000000) (hlr:lr=x.labels.map dx.cells):
 FC 146 [.ow 0 7 (t _ fun _=>(l.map Node.cells).length),bG i,.cl [[.str x.name,.int .u64 x.cap.a,.int .u64 x.cap.b,.int .u64 x.cap.c,.int .u64 x.cap.d,.sl lr,.bool x.up]]] [.row 7 (t _ fun _=>l.map Node.cells)] (.ret (SL (t _ fun _=>(l.take k++x::l.drop k).map Node.cells))) [.dead]:=by
 simp only [ht];subst hi hlr
 refine oN (args':=[.ow 0 7 (l.map Node.cells).length,bG k,SL [Node.cells x]]) ?_ (ED ht (by simp) (by simpa using hk) ?_ rfl (by simpa using hl) (by simp))
 ·intro β w ok vs h
  simp only [an] at h ⊢
  obtain ⟨u1,YP,rfl,h1,u2,Ot,rfl,h2,u3,Vw,rfl,h3,h4⟩:=h
  exact ⟨u1,_,rfl,h1,u2,_,rfl,h2,u3,Vw,rfl,Lw h3,h4⟩
 intro r hr;obtain ⟨y,_,rfl⟩:=List.mem_map.1 hr;rfl
theorem JP (ht:TT t) {l:List Node} {ps:List Place} {es qs:List (List D)} (aE:es=l.map Node.cells) (eM:qs=ps.map Place.cells) (nm:aK) (a b c d:Int) {lb:List dx} {lr:List (List D)} (hlr:lr=lb.map dx.cells) (up:Bool) (hl:l.length<1000000000) (hn:nm.length<9223372036854775807) (hlb:lb.length<1000000000) (wM:∀p∈lb,p.sm):
 FC 93 [.agg [SL es,SL qs],.agg [ST nm,aC a,aC b,aC c,aC d,SL lr,BL up]] [] (.ret (nC t (t _ fun _=>qy ⟨l,ps⟩ ⟨nm,⟨a,b,c,d⟩,lb,up⟩))) []:=by
 refine bP ht (aQ:=[]) Tryz.func93 rfl rfl (N:=51) rfl rfl (n:=0) rfl rfl ?_
 cbv
 have aD:es.length=l.length:=by rw [aE,lgM]
 have bq:qs.length=ps.length:=by rw [eM,lgM]
 have Vx:lr.length=lb.length:=by rw [hlr,lgM]
 refine bc trv (rT ht _ ‹_›) trv rfl rfl (fun r0 dj=>?_)
 simp only [ht] at dj
 cbv
 refine av (fun h1=>?_) (fun h1=>?_)
 ·simp [ht] at h1
  cbv
  refine az trv trv rfl rfl rfl ?_
  (simp only [ht,qy];grind)
 simp [ht] at h1
 cbv
 refine bc trv (MV ht ‹_› ‹_› ‹_›) trv rfl rfl (fun r2 iJ=>?_)
 simp only [ht] at iJ
 cbv
 refine av (fun h3=>?_) (fun h3=>?_)
 ·simp [ht] at h3
  cbv
  refine az trv trv rfl rfl rfl ?_
  (simp only [ht,qy];grind)
 simp [ht] at h3
 cbv
 refine bc trv (Hq ht _ ‹_› (by omega)) trv rfl rfl (fun r4 k9=>?_)
 simp only [ht] at k9
 cbv
 refine av (fun h5=>?_) (fun h5=>?_)
 ·simp [ht] at h5
  cbv
  refine az trv trv rfl rfl rfl ?_
  (simp only [ht,qy];grind)
 simp [ht] at h5
 cbv
 refine av (fun h6=>?_) (fun h6=>?_)
 ·simp [ht,ah,aD] at h6
  cbv
  refine az trv trv rfl rfl rfl ?_
  (simp only [ht,qy];grind)
 simp [ht,ah,aD] at h6
 cbv
 (obtain ⟨r9,jU⟩:∃r,r=idxOf (fun o:Node=>!Op.bytesLess o.name nm) l:=⟨_,rfl⟩;refine dP [1] trv rfl rfl (JO ht nm a b c d lr true aE 145 (fun o:Node=>!Op.bytesLess o.name nm) (by omega) (fun x _=>Vv ht nm a b c d true x.name x.cap.a x.cap.b x.cap.c x.cap.d x.up rfl) jU) (cK ?_);have ec:=cJ jU;clear jU;rcases ec with ⟨e1,e2,e3⟩|⟨i,x,hi,hil,e1,e2,e3,e4⟩)
 ·cbv
  refine av (fun h7=>?_) (fun h7=>?_)
  ·simp [ht] at h7
   cbv
   refine dO [false,false,false,false,false,false,true,true,true] (by kernel_rfl) (by kernel_rfl) ?_
   cbv
   iterate 2 refine gI (by simp) ?_
   refine .inr (GJ trv (oX ht ‹_› ‹_›) trv rfl (.inr rfl) rfl ?_)
   cbv
   iterate 3 refine gI (by simp) ?_
   refine dP [3] trv rfl rfl (sI ht (l:=l) (x:=⟨nm,⟨a,b,c,d⟩,lb,true⟩) (k:=pat l nm) (by (simp [ht,pat,e2,aD];done)) (by (simp [pat,e2];done)) (by simp only [ah] at*;omega) hlr) (cK ?_)
   cbv
   refine az trv trv rfl rfl rfl ?_
   (simp only [ht,qy];grind)
  simp [ht] at h7
  omega
 cbv
 refine av (fun h8=>?_) (fun h8=>?_)
 ·simp [ht] at h8
  (simp only [ah] at*;omega)
 simp [ht] at h8
 cbv
 refine dO [false,false,false,false,false,false,true,true,true] (by kernel_rfl) (by kernel_rfl) ?_
 cbv
 iterate 2 refine gI (by simp) ?_
 refine .inr (GJ trv (oX ht ‹_› ‹_›) trv rfl (.inr rfl) rfl ?_)
 cbv
 iterate 3 refine gI (by simp) ?_
 refine dP [3] trv rfl rfl (sI ht (l:=l) (x:=⟨nm,⟨a,b,c,d⟩,lb,true⟩) (k:=pat l nm) (by (simp only [pat,e3];exact hi)) (by (simp only [pat,e3];omega)) (by simp only [ah] at*;omega) hlr) (cK ?_)
 cbv
 refine az trv trv rfl rfl rfl ?_
 (simp only [ht,qy];grind)
def P6 (t:Th) (x:B9):AV:=.agg [aC x.first,SL (t _ fun _=>x.l.map ek.cells)]
theorem A3 (ht:TT t) {es:List (List D)} (hr:∀r∈es,r.length=3):FC 164 [SL es] [] (.ret (.cl es)) []:=by
 refine bP ht (aQ:=[]) Tryz.func164 rfl rfl (N:=9) rfl rfl (n:=0) rfl rfl ?_
 cbv
 refine ⟨?_,Jl trv rfl ?_⟩
 ·simp only [ht,ah,bS];exact ⟨⟨⟨by omega,Int.le_refl _⟩,trv⟩,hr⟩
 simp [ht,ah,iD]
theorem SY (ht:TT t) (first rd id kd:Int):
 FC 110 [.agg [aC first,SL []],.agg [aC rd,aC id,bG kd]] [] (.ret (P6 t (t _ fun _=>tell ⟨first,[]⟩ ⟨rd,id,kd⟩))) []:=by
 refine bP ht (aQ:=[]) Tryz.func110 rfl rfl (N:=25) rfl rfl (n:=0) rfl rfl ?_
 cbv
 refine dO [false,false,false,false,false,true,true,true] (by kernel_rfl) (by kernel_rfl) ?_
 cbv
 iterate 2 refine gI (by simp) ?_
 refine .inl ?_
 (refine nB (fun g=>⟨trv,trv,A3 ht (by simp)⟩) rfl rfl rfl ?_)
 cbv
 iterate 2 refine gI (by simp) ?_
 refine ⟨?_,?_⟩
 ·(simp [ht];done)
 refine ⟨?_,?_⟩
 ·(simp [ht];done)
 cbv
 refine av (fun h0=>?_) (fun h0=>?_)
 ·simp [ht] at h0
 simp [ht] at h0
 cbv
 refine az trv (by simp [ht]) rfl rfl rfl ?_
 (simp [ht,tell,ek.cells];done)
theorem SZ (ht:TT t) (first rd id kd:Int) (e0:List D) (er:List (List D)) {l:List ek} (aE:e0::er=l.map ek.cells) (hl:l.length<1000000):
 FC 110 [.agg [aC first,SL (e0::er)],.agg [aC rd,aC id,bG kd]] [] (.ret (P6 t (t _ fun _=>tell ⟨first,l⟩ ⟨rd,id,kd⟩))) []:=by
 have hr:∀r∈e0::er,r.length=3:=by rw [aE];intro r hr;obtain ⟨y,_,rfl⟩:=List.mem_map.1 hr;rfl
 have hle:(e0::er).length=l.length:=by rw [aE,lgM]
 refine bP ht (aQ:=[]) Tryz.func110 rfl rfl (N:=25) rfl rfl (n:=0) rfl rfl ?_
 cbv
 refine dO [false,false,false,false,false,true,true,true] (by kernel_rfl) (by kernel_rfl) ?_
 cbv
 iterate 2 refine gI (by simp) ?_
 refine .inl ?_
 (refine nB (fun g=>⟨trv,trv,A3 ht hr⟩) rfl rfl rfl ?_)
 cbv
 iterate 2 refine gI (by simp) ?_
 refine ⟨?_,?_⟩
 ·(simp only [ht];grind)
 refine ⟨?_,?_⟩
 ·(simp [ht];done)
 cbv
 refine av (fun h0=>?_) (fun h0=>?_)
 ·simp [ht,ah] at h0
  cbv
  refine ⟨?_,?_⟩
  ·(simp only [ht,bS];refine ⟨by simp,⟨by omega,by simp;omega⟩,?_⟩;intro r h;rcases List.mem_append.1 h with h|h;exact hr r h;simp at h;subst h;rfl)
  cbv
  refine az trv trv rfl rfl rfl ?_
  (simp only [ah] at h0;simp only [List.length_cons] at hle;have tl:tell ⟨first,l⟩ ⟨rd,id,kd⟩=⟨u64 (first+1),(l++[(⟨rd,id,kd⟩:ek)]).drop 1⟩:=(by unfold tell;rw [if_pos (by simp only [List.length_append,List.length_cons,List.length_nil];omega)]);simp only [ht,tl,aE,iD,u64,oO];rw [List.map_drop,List.map_append];rfl)
 simp [ht,ah] at h0
 cbv
 refine az trv (by simp [ht]) rfl rfl rfl ?_
 (simp only [ah] at h0;simp only [List.length_cons] at hle;have tl:tell ⟨first,l⟩ ⟨rd,id,kd⟩=⟨first,l++[(⟨rd,id,kd⟩:ek)]⟩:=(by unfold tell;rw [if_neg (by simp only [List.length_append,List.length_cons,List.length_nil];omega)]);simp only [ht,tl,aE];rw [List.map_append];rfl)
theorem S0 (ht:TT t) (first rd id kd:Int) {l:List ek} {es:List (List D)} (aE:es=l.map ek.cells) (hl:l.length<1000000):
 FC 110 [.agg [aC first,SL es],.agg [aC rd,aC id,bG kd]] [] (.ret (P6 t (t _ fun _=>tell ⟨first,l⟩ ⟨rd,id,kd⟩))) []:=by
 cases l with
 |nil=>subst aE;exact SY ht first rd id kd
 |cons x l=>subst aE;exact SZ ht first rd id kd _ _ rfl hl
theorem Hs {l:List aK} {k:Nat} {x:aK}:Jo (prevStr l k) x=(decide (k=0)||match l[k-1]? with|none=>true|some y=>!sle x y):=by
 cases k with
 |zero=>rfl
 |succ k=>simp only [prevStr,Jo];cases h:l[k]?<;>simp [h]
theorem MW (ht:TT t) (k:aK) (n:Bool) {vs:List aK} {vr:List (List D)} (Ht:vr=vs.map bE) (hk:k.length<9223372036854775807) (hl:vs.length<1000000000) (hs:∀v∈vs,v.length<9223372036854775807):
 FC 208 [.agg [ST k,BL n,SL vr]] [] (.ret (dh (t _ fun _=>mright ⟨k,n,vs⟩))) []:=by
 refine bP ht (aQ:=[]) Tryz.func208 rfl rfl (N:=40) rfl rfl (n:=0) rfl rfl ?_
 cbv
 have wN:vr.length=vs.length:=by rw [Ht,lgM]
 obtain ⟨J0,fI⟩:∃J0:Nat→Int→Prop,∀n i,J0 n i↔(∃q:Nat,i=q∧q+n=vs.length∧xW none vs=xW (prevStr vs q) (vs.drop q)):=⟨fun n v=>match v with|i=>(∃q:Nat,i=q∧q+n=vs.length∧xW none vs=xW (prevStr vs q) (vs.drop q)),fun _ _=>Iff.rfl⟩
 refine bH ⟨[1,6,7,8],[],[]⟩ (σ:=Int) (fun v=>[(8,.d (.int .i64 (t _ fun _=>v)))]) (fun v=>[]) J0 ?_
 cbv
 refine aH ⟨vs.length,_,(fI _ _).2 ?_,by simp only [ht];rfl,?_⟩
 ·exact ⟨0,rfl,by simp,by simp [prevStr]⟩
 rintro n i hj
 replace hj:=(fI _ _).1 hj
 obtain ⟨k,rfl,j1,j4⟩:=hj
 cbv
 refine av (fun h1=>?_) (fun h1=>?_)
 ·simp [ht,ah,wN] at h1
  cbv
  refine kp ht Ht (cT:=gw t) (by (simp only [ht,ah];omega)) (by (simp only [ht,ah];omega)) (fun _=>rfl) (fun _=>rfl) (fun x2 n9=>?_)
  simp [ht,ah] at n9
  simp only [jI n9,xW] at j4
  have sx2:=hs _ (List.mem_of_getElem? n9)
  cbv
  refine bc trv (rT ht _ ‹_›) trv rfl rfl (fun r3 mM=>?_)
  simp only [ht] at mM
  cbv
  iterate 8 refine gI (by simp [ht]) ?_
  (refine XR ht Ht (cT:=gw t) (k-1) (fun g=>by simp [ht,ah] at g ⊢;simp [g]) (fun g=>by simp [ht,ah] at g;simp only [ht,ah];exact ⟨Ek (by omega) (by omega),by omega⟩) (fun _=>rfl) (fun _=>by simp only [gw]) (fun y my=>?_);simp [ht,ah] at my)
  cbv
  iterate 2 refine gI (by simp [ht]) ?_
  refine gI (by simp [ht,aj];intros;simp_all) ?_
  refine pI (by simp [ht]) ?_
  refine av (fun h4=>?_) (fun h4=>?_)
  ·simp [ht,ah] at h4
   cbv
   refine az trv trv rfl rfl rfl ?_
   (simp only [ht];rw [Hs] at j4;grind [mright,sle])
  simp [ht,ah] at h4
  cbv
  refine cz _ (by simp only [ht];rfl) (n-1) ?_ ((fI _ _).2 ?_)
  ·omega
  simp only [ah]
  refine ⟨k+1,aG (by omega),by omega,?_⟩
  (rw [Hs] at j4;simp only [prevStr];rw [n9];grind [sle])
 simp [ht,ah,wN] at h1
 cbv
 refine bc trv (rT ht _ ‹_›) trv rfl rfl (fun r5 zj=>?_)
 simp only [ht] at zj
 cbv
 iterate 4 refine gI (by simp) ?_
 refine pI (by simp) ?_
 refine az trv trv rfl rfl rfl ?_
 (rw [List.drop_eq_nil_of_le (by omega),xW] at j4;have e:decide ((vs.length:Int)≤4)=decide (vs.length≤4):=(by rw [decide_eq_decide];omega);simp [ht,ah,mright,j4,zj,wN,e];done)
theorem MX (ht:TT t) {l:List (Term)} {es:List (List D)} (aE:es=l.map Term.cells) (f:Nat) (p:Term→Bool) (hl:l.length<9223372036854775807)
 (hf:∀x∈l,FC f [.agg [ST x.key,BL x.no,SL (x.mQ.map bE)]] [] (.ret (BL (p x))) []) {r:Int} (hr:r=idxOf p l):FC 114 [SL es,.fn f []] [] (.ret (bG r)) []:=by
 have hel:es.length=l.length:=by rw [aE,lgM]
 obtain ⟨J,hJ⟩:∃J:Nat→Nat→Prop,∀n v,J n v↔(v+n=l.length∧∀i<v,∀x,l[i]?=some x→p x=false):=⟨fun n v=>v+n=l.length∧∀i<v,∀x,l[i]?=some x→p x=false,fun _ _=>Iff.rfl⟩
 refine bP ht (aQ:=[]) Tryz.func114 rfl rfl (N:=19) rfl rfl (n:=0) rfl rfl ?_
 cbv
 refine bH ⟨[0,1,7,8],[],[]⟩ (σ:=Nat) (fun k=>[(8,bG (t _ fun _=>(k:Int)))]) (fun _=>[]) J ?_
 cbv
 refine aH ⟨l.length,0,(hJ _ _).2 ⟨by omega,by intro i hi;simp at hi⟩,by simp only [ht];rfl,?_⟩
 rintro n k hj
 obtain ⟨h2,h3⟩:=(hJ _ _).1 hj
 clear hj
 cbv
 refine av (fun h=>?_) (fun h=>?_)
 ·simp only [ht,ah,decide_eq_true_eq] at h
  have hk:k<l.length:=by omega
  obtain ⟨x,hx⟩:∃x,l[k]?=some x:=⟨l[k],by simp⟩
  have pG:x∈l:=List.mem_of_getElem? hx
  have ix:=hf x pG
  obtain ⟨px,hpx⟩:∃b,b=p x:=⟨_,rfl⟩
  rw [←hpx] at ix
  obtain ⟨a,b,c⟩:=x;obtain ⟨Hr,mH⟩:∃lr:List (List D),lr=c.map bE:=⟨_,rfl⟩;simp only [←mH] at ix
  cbv
  refine jG [.str a,.bool b,.sl Hr] ?_ ?_ ?_
  ·simp only [ht,ah];refine ⟨by omega,h,?_⟩;rw [aE];intro r hr;obtain ⟨y,_,rfl⟩:=List.mem_map.1 hr;rfl
  ·simp [ht,ah,aE,hx,mH,Term.cells]
  cbv
  refine eG trv ix ?_
  cbv
  refine av (fun hb=>?_) (fun hb=>?_)
  ·cbv
   refine az trv trv rfl rfl rfl ?_
   have e:=dD hx (hpx▸hb) h3
   simp only [ht,ah,hr,idxOf,e]
  cbv
  refine aH ⟨n-1,k+1,⟨by omega,(hJ _ _).2 ⟨by omega,?_⟩⟩,?_⟩
  ·intro i hi y hy
   by_cases hik:i<k
   ·exact h3 i hik y hy
   have:i=k:=by omega
   subst this;rw [hx] at hy;cases hy;rw [←hpx];exact hb
  simp only [ht,ah,aG (show k<9223372036854775807 by omega)];rfl
 simp only [ht,ah,decide_eq_false_iff_not] at h
 have hk:¬k<l.length:=by omega
 clear h
 cbv
 refine az trv trv rfl rfl rfl ?_
 rw [hr,idxOf,dQ]
 intro i y hy
 have:i<l.length:=by
  rcases Nat.lt_or_ge i l.length with h'|h';· exact h'
  simp [List.getElem?_eq_none h'] at hy
 exact h3 i (by omega) y hy
theorem MY (ht:TT t) {l:List (Term)} {es:List (List D)} (aE:es=l.map Term.cells) (f:Nat) (p:Term→Bool) (hl:l.length<9223372036854775807)
 (hf:∀x∈l,FC f [.agg [ST x.key,BL x.no,SL (x.mQ.map bE)]] [] (.ret (BL (p x))) []) {r:Bool} (hr:r=l.any p):FC 74 [SL es,.fn f []] [] (.ret (BL r)) []:=by
 obtain ⟨k,hk⟩:∃k,k=idxOf p l:=⟨_,rfl⟩
 refine bP ht (aQ:=[]) Tryz.func74 rfl rfl (N:=9) rfl rfl (n:=0) rfl rfl ?_
 cbv
 refine eG trv (MX ht aE f p hl hf hk) ?_
 cbv
 refine az trv trv rfl rfl rfl ?_
 simp only [ht,hr,iQ,hk]
theorem JQ (ht:TT t) (k:aK) (n:Bool) {vs:List aK} {vr:List (List D)} (Ht:vr=vs.map bE) (hk:k.length<9223372036854775807) (hl:vs.length<1000000000) (hs:∀v∈vs,v.length<9223372036854775807):
 FC 207 [.agg [ST k,BL n,SL vr]] [] (.ret (dh (t _ fun _=>!mright ⟨k,n,vs⟩))) []:=by
 refine bP ht (aQ:=[]) Tryz.func207 rfl rfl (N:=6) rfl rfl (n:=0) rfl rfl ?_
 cbv
 have wN:vr.length=vs.length:=by rw [Ht,lgM]
 refine bc trv (MW ht _ _ ‹_› ‹_› ‹_› ‹_›) trv rfl rfl (fun r0 dj=>?_)
 simp only [ht] at dj
 cbv
 refine az trv trv rfl rfl rfl ?_
 (simp [*];done)
theorem Hu (ht:TT t) {l:List Term} {es:List (List D)} (aE:es=l.map Term.cells) (hl:l.length<1000000000) (wM:∀x∈l,x.sm):
 FC 74 [SL es,.fn 207 []] [] (.ret (dh (t _ fun _=>l.any fun x=>!mright x))) []:=by
 simp only [ht];exact MY ht aE _ _ (by omega) (fun x hx=>by have h:=JQ ht x.key x.no (vs:=x.mQ) rfl (wM x hx).1 (wM x hx).2.1 (wM x hx).2.2;simp only [ht,dh] at h;exact h) rfl
theorem MZ (ht:TT t) {l:List Term} {es:List (List D)} (aE:es=l.map Term.cells) (hl:l.length<1000000000) (wM:∀x∈l,x.sm):
 FC 177 [SL es] [] (.ret (dh (t _ fun _=>AA l))) []:=by
 refine bP ht (aQ:=[]) Tryz.func177 rfl rfl (N:=11) rfl rfl (n:=0) rfl rfl ?_
 cbv
 have aD:es.length=l.length:=by rw [aE,lgM]
 refine gI (by simp [ht]) ?_
 refine eY (fun g0=>⟨by simp [ht] at g0 ⊢;exact g0,trv,Hu ht ‹_› ‹_› ‹_›⟩) rfl rfl (fun r1 cF=>?_)
 simp only [ht] at cF
 cbv
 refine gI (by simp [ht]) ?_
 refine pI (by simp [ht]) ?_
 refine az trv trv rfl rfl rfl ?_
 (simp only [ht,ah,AA];grind)
theorem Hv (ht:TT t) (s:aK) {z:Int} (hz:z=47):FC 262 [ST s,.d (.int .u8 z)] [] (.ret (gF (t _ fun _=>(s.count 47:Nat)))) []:=by
 subst hz
 refine YQ Tryz.func262 (by kernel_rfl) (by kernel_rfl) (by kernel_rfl) (e:=Extern.BytealgCount.count) (by kernel_rfl) ?_
 intro β w vs ok h
 simp only [an,ak,aL] at h
 obtain ⟨_,_,rfl,rfl,_,_,rfl,rfl,rfl⟩:=h
 refine ⟨_,Lib.run_countString _ _ _,?_⟩
 simp [gF,ak,aL,Lib.countByte,ht]
theorem yP (ht:TT t) (s:aK) {z:Int} (hz:z=47):FC 269 [ST s,.d (.int .u8 z)] [] (.ret (gF (t _ fun _=>Lib.indexByte s 47))) []:=by
 subst hz
 refine YQ Tryz.func269 (by kernel_rfl) (by kernel_rfl) (by kernel_rfl) (e:=Extern.BytealgIndexByte.indexByte) (by kernel_rfl) ?_
 intro β w vs ok h
 simp only [an,ak,aL] at h
 obtain ⟨_,_,rfl,rfl,_,_,rfl,rfl,rfl⟩:=h
 refine ⟨_,Lib.run_indexByteString _ _ _,?_⟩
 simp [gF,ak,aL,ht]
theorem P7 (ht:TT t) (s:aK):FC 256 [ST s,ST [47]] [] (.ret (gF (t _ fun _=>(s.count 47:Nat)))) []:=by
 refine bP ht (aQ:=[]) Tryz.func256 rfl rfl (N:=34) rfl rfl (n:=0) rfl rfl ?_
 cbv
 refine av (fun h0=>?_) (fun h0=>?_)
 ·simp [ht] at h0
 simp [ht] at h0
 cbv
 refine av (fun h1=>?_) (fun h1=>?_)
 ·simp [ht] at h1
  cbv
  refine ⟨?_,?_⟩
  ·(simp [ht];done)
  cbv
  refine bc trv (Hv ht _ (kP ht rfl)) trv rfl rfl (fun r2 iJ=>?_)
  simp only [ht] at iJ
  cbv
  refine az trv trv rfl rfl rfl ?_
  (simp [*];done)
 simp [ht] at h1
theorem EH (ht:TT t) (s:aK) {z:Int} (hz:z=47):FC 265 [ST s,.d (.int .u8 z)] [] (.ret (gF (t _ fun _=>Lib.indexByte s 47))) []:=by
 refine bP ht (aQ:=[]) Tryz.func265 rfl rfl (N:=8) rfl rfl (n:=0) rfl rfl ?_
 cbv
 refine bc trv (yP ht _ ‹_›) trv rfl rfl (fun r0 dj=>?_)
 simp only [ht] at dj
 cbv
 refine az trv trv rfl rfl rfl ?_
 (simp [*];done)
theorem JR (ht:TT t) (s:aK):FC 263 [ST s,ST [47]] [] (.ret (gF (t _ fun _=>Lib.indexByte s 47))) []:=by
 refine bP ht (aQ:=[]) Tryz.func263 rfl rfl (N:=143) rfl rfl (n:=0) rfl rfl ?_
 cbv
 iterate 3 refine gI (by simp [ht]) ?_
 refine pI (by simp [ht]) ?_
 refine av (fun h0=>?_) (fun h0=>?_)
 ·simp [ht] at h0
  cbv
  refine az trv trv rfl rfl rfl ?_
  (subst h0;(try simp only [ht]);rfl)
 simp [ht] at h0
 cbv
 refine av (fun h1=>?_) (fun h1=>?_)
 ·simp [ht] at h1
  cbv
  refine ⟨?_,?_⟩
  ·(simp [ht];done)
  cbv
  refine bc trv (EH ht _ (kP ht rfl)) trv rfl rfl (fun r2 iJ=>?_)
  simp only [ht] at iJ
  cbv
  refine az trv trv rfl rfl rfl ?_
  (simp [*];done)
 simp [ht] at h1
theorem P8 (ht:TT t) (s:aK):FC 257 [ST s,ST [47]] [] (.ret (gF (t _ fun _=>Lib.indexByte s 47))) []:=by
 refine bP ht (aQ:=[]) Tryz.func257 rfl rfl (N:=8) rfl rfl (n:=0) rfl rfl ?_
 cbv
 refine bc trv (JR ht _) trv rfl rfl (fun r0 dj=>?_)
 simp only [ht] at dj
 cbv
 refine az trv trv rfl rfl rfl ?_
 (simp [*];done)
theorem Vy {pre:List aK} {m k:Nat} {x:aK} {u:List (List D)} (h:pre.length=k) (hk:k≤m) (hu:u=(pre++List.replicate (m+1-k) []).map bE):
 u.set k (be (u.getD k []) 0 [D.str x])=((pre++[x])++List.replicate (m-k) []).map bE:=by
 obtain ⟨d,rfl⟩:∃d,m=k+d:=⟨m-k,by omega⟩
 have e:k+d+1-k=d+1:=by omega
 rw [hu,e,Nat.add_sub_cancel_left,List.replicate_succ]
 simp [be,←h,bE]
theorem P9 {pre:List aK} {m k:Nat} {x:aK} {V:List (List D)} (hV:V=((pre++[x])++List.replicate (m-k) []).map bE) (h:pre.length=k) (hk:k≤m) (hm:m<1000000000001):
 m+1=V.length∧(bS V.length none (some (IntKind.i64.wrap ((k:Int)+1)))∧∀r∈V,r.length=1)∧iD V none (some (IntKind.i64.wrap ((k:Int)+1)))=(pre++[x]).map bE:=by
 have e:IntKind.i64.wrap ((k:Int)+1)=((k+1:Nat):Int):=by rw [wrap64 (by omega) (by omega)];omega
 have hl:V.length=m+1:=by rw [hV];simp [h];omega
 refine ⟨hl.symm,⟨?_,?_⟩,?_⟩
 ·rw [e,hl];simp only [bS];omega
 ·intro r hr;rw [hV] at hr;obtain ⟨y,_,rfl⟩:=List.mem_map.1 hr;rfl
 rw [e,hV];simp only [iD,Int.toNat_natCast];rw [List.map_append,List.take_append_of_le_length (by simp [h]),List.take_of_length_le (by simp [h])]
theorem Hw (ht:TT t) (s:aK) (hs:s.length<1000000000000):FC 246 [ST s,ST [47],bG 0,bG (-1)] [] (.ret (GW t (t _ fun _=>bY 47 s))) []:=by
 obtain ⟨m,hm⟩:∃m,m=s.count 47:=⟨_,rfl⟩
 have hms:m≤s.length:=by rw [hm];exact List.count_le_length
 have hmin:∀r:Int,r=(m:Nat)→min (IntKind.i64.wrap (r+1)) (IntKind.i64.wrap ((s.length:Int)+1))=((m+1:Nat):Int):=fun r hr=>by rw [hr,wrap64 (by omega) (by omega),wrap64 (by omega) (by omega)];omega
 have hmv:IntKind.i64.wrap (m:Int)=(m:Int):=wrap64 (by omega) (by omega)
 have hmw:IntKind.i64.wrap (((m+1:Nat):Int)-1)=(m:Int):=by rw [wrap64 (by omega) (by omega)];omega
 refine bP ht (aQ:=[]) Tryz.func246 rfl rfl (N:=66) rfl rfl (n:=0) rfl rfl ?_
 cbv
 refine av (fun h0=>?_) (fun h0=>?_)
 ·simp [ht] at h0
 simp [ht] at h0
 cbv
 refine av (fun h1=>?_) (fun h1=>?_)
 ·simp [ht] at h1
 simp [ht] at h1
 cbv
 refine av (fun h2=>?_) (fun h2=>?_)
 ·simp [ht] at h2
  cbv
  refine bc trv (P7 ht _) trv rfl rfl (fun r3 mM=>?_)
  simp only [ht] at mM
  (rw [←hm] at mM;replace hmin:=hmin _ mM)
  cbv
  refine ⟨?_,?_⟩
  ·(simp only [ht,ah];grind)
  cbv
  obtain ⟨J4,Iw⟩:∃J4:Nat→List UInt8×Int×List (List D)→Prop,∀n s2 i u,J4 n (s2,i,u)↔(∃(k:Nat) (pre:List aK),i=k∧pre.length=k∧bY 47 s=pre++bY 47 s2∧k+s2.count 47=m∧k+n=m∧u=(pre++List.replicate (m+1-k) []).map bE∧s2.length≤s.length):=⟨fun n v=>match v with|(s2,i,u)=>(∃(k:Nat) (pre:List aK),i=k∧pre.length=k∧bY 47 s=pre++bY 47 s2∧k+s2.count 47=m∧k+n=m∧u=(pre++List.replicate (m+1-k) []).map bE∧s2.length≤s.length),fun _ _ _ _=>Iff.rfl⟩
  refine bH ⟨[0,1,2,3,9,10],[],[]⟩ (σ:=List UInt8×Int×List (List D)) (fun v=>[(0,.d (.str (t _ fun _=>v.1))),(10,.d (.int .i64 (t _ fun _=>v.2.1)))]) (fun v=>[(0,.row 1 (t _ fun _=>v.2.2))]) J4 ?_
  cbv
  refine aH ⟨m,(_,_,_),(Iw _ _ _ _).2 ?_,by simp only [ht];rfl,?_⟩
  ·exact ⟨0,[],rfl,rfl,rfl,by omega,by omega,by simp only [hmin];simp,by omega⟩
  rintro n ⟨s2,i,u⟩ hj
  replace hj:=(Iw _ _ _ _).1 hj
  obtain ⟨k,pre,rfl,j1,j2,j3,j4,j5,j6⟩:=hj
  have Qa:=fun x=>Vy (x:=x) j1 (show k≤m by omega) j5
  cbv
  refine av (fun h5=>?_) (fun h5=>?_)
  ·simp [ht,ah,hmin,hmv] at h5
   cbv
   refine bc trv (P8 ht _) trv rfl rfl (fun r6 ol=>?_)
   simp only [ht] at ol
   cbv
   refine av (fun h7=>?_) (fun h7=>?_)
   ·simp [ht] at h7
    cbv
    refine ⟨?_,?_⟩
    ·(exfalso;have q:=Em ol h7;omega)
    refine ⟨?_,?_⟩
    ·(exfalso;have q:=Em ol h7;omega)
    refine ⟨?_,?_⟩
    ·(exfalso;have q:=Em ol h7;omega)
    cbv
    refine az trv trv rfl rfl rfl ?_
    (exfalso;have q:=Em ol h7;omega)
   simp [ht] at h7
   cbv
   refine ⟨?_,?_⟩
   ·(obtain ⟨j,e1,e2,e3,e4⟩:=En ol h7;simp only [ht,e1];simp [bS];rw [wrap64 (by omega) (by omega)];omega)
   refine ⟨?_,?_⟩
   ·(simp only [ht,ah] at*;omega)
   refine ⟨?_,?_⟩
   ·(simp only [ht,ah];grind)
   refine ⟨?_,?_⟩
   ·(obtain ⟨j,e1,e2,e3,e4⟩:=En ol h7;simp only [ht,e1];simp [bS];rw [wrap64 (by omega) (by omega)];omega)
   cbv
   refine cz (_,_,_) (by simp only [ht];rfl) (n-1) ?_ ((Iw _ _ _ _).2 ?_)
   ·omega
   simp only [ah]
   (obtain ⟨j,e1,e2,e3,e4⟩:=En ol h7;subst e1;have ew:IntKind.i64.wrap ((j:Int)+([47]:aK).length)=((j+1:Nat):Int):=(by simp;rw [wrap64 (by omega) (by omega)]);have ez:IntKind.i64.wrap ((j:Int)+0)=(j:Nat):=(by rw [wrap64 (by omega) (by omega)];omega);rw [ew,ez];simp only [iD,Int.toNat_natCast];exact ⟨k+1,pre++[s2.take j],aG (by omega),by simp [j1],by rw [j2,e3];simp,by omega,by omega,by rw [Qa];simp,by simp;omega⟩)
  simp [ht,ah,hmin,hmv] at h5
  cbv
  refine ⟨?_,?_⟩
  ·(simp only [ht,ah] at*;omega)
  refine ⟨?_,?_⟩
  ·(simp only [ht,ah];grind)
  refine ⟨?_,?_⟩
  ·(have q:=P9 (Qa s2) j1 (by omega) (by omega);simp only [ht,Int.toNat_natCast,hmin];exact ⟨q.1,q.2.1⟩)
  cbv
  refine az trv trv rfl rfl rfl ?_
  (have q:=P9 (Qa s2) j1 (by omega) (by omega);simp only [ht,Int.toNat_natCast];rw [q.2.2,j2,AD (by omega)])
 simp [ht] at h2
theorem Qb (ht:TT t) (s:aK) (hs:s.length<1000000000000):FC 226 [ST s,ST [47]] [] (.ret (GW t (t _ fun _=>bY 47 s))) []:=by
 refine bP ht (aQ:=[]) Tryz.func226 rfl rfl (N:=8) rfl rfl (n:=0) rfl rfl ?_
 cbv
 refine aF trv (Hw ht _ ‹_›) trv rfl rfl rfl (fun r0 dj=>?_)
 simp only [ht] at dj
 cbv
 refine az trv trv rfl rfl rfl ?_
 (simp [*];done)
end Dem
end
section
namespace Go.Proofs
open Go.Shelf
def Tryz.yh:Go.Shelf.Ren:=⟨fun|156=>210|165=>228|166=>229|169=>230|240=>247|241=>248|276=>258|277=>259|n=>n,fun|31=>51|9=>9|3=>3|4=>4|0=>0|20=>20|72=>277|76=>281|70=>274|37=>275|75=>280|127=>299|164=>309|5=>5|80=>283|n=>n,fun|n=>n⟩
theorem Tryz.LN:Go.Proofs.Lays.n156 Tryz.prog Tryz.yh:={
 mixed:=by kernel_rfl
 f156:=Tryz.func210.trans (congrArg some (by kernel_rfl))
 f165:=Tryz.func228.trans (congrArg some (by kernel_rfl))
 f166:=Tryz.func229.trans (congrArg some (by kernel_rfl))
 f169:=Tryz.func230.trans (congrArg some (by kernel_rfl))
 f240:=Tryz.func247.trans (congrArg some (by kernel_rfl))
 f241:=Tryz.func248.trans (congrArg some (by kernel_rfl))
 f276:=Tryz.func258.trans (congrArg some (by kernel_rfl))
 f277:=Tryz.func259.trans (congrArg some (by kernel_rfl))
 t0:=Tryz.underlying0
 a0:=Tryz.isAgg0
 z0:=Tryz.sizeOf0
 v0:=Tryz.zeroValue0
 t3:=Tryz.underlying3
 a3:=Tryz.isAgg3
 z3:=Tryz.sizeOf3
 v3:=Tryz.zeroValue3
 t4:=Tryz.underlying4
 a4:=Tryz.isAgg4
 z4:=Tryz.sizeOf4
 v4:=Tryz.zeroValue4
 t9:=Tryz.underlying9
 a9:=Tryz.isAgg9
 z9:=Tryz.sizeOf9
 v9:=Tryz.zeroValue9
 t20:=Tryz.underlying20
 a20:=Tryz.isAgg20
 z20:=Tryz.sizeOf20
 v20:=Tryz.zeroValue20
 t31:=Tryz.underlying51
 a31:=Tryz.isAgg51
 z31:=Tryz.sizeOf51
 v31:=Tryz.zeroValue51
 t37:=Tryz.underlying275
 a37:=Tryz.isAgg275
 z37:=Tryz.sizeOf275
 v37:=Tryz.zeroValue275
 t70:=Tryz.underlying274
 a70:=Tryz.isAgg274
 z70:=Tryz.sizeOf274
 v70:=Tryz.zeroValue274
 t72:=Tryz.underlying277
 a72:=Tryz.isAgg277
 z72:=Tryz.sizeOf277
 v72:=Tryz.zeroValue277
 t75:=Tryz.underlying280
 a75:=Tryz.isAgg280
 z75:=Tryz.sizeOf280
 v75:=Tryz.zeroValue280
 t76:=Tryz.underlying281
 a76:=Tryz.isAgg281
 z76:=Tryz.sizeOf281
 v76:=Tryz.zeroValue281
 t127:=Tryz.underlying299
 a127:=Tryz.isAgg299
 z127:=Tryz.sizeOf299
 v127:=Tryz.zeroValue299
 t164:=Tryz.underlying309
 a164:=Tryz.isAgg309
 z164:=Tryz.sizeOf309
 v164:=Tryz.zeroValue309}
theorem Tryz.nk:Builder.Extra Tryz.prog Tryz.yh:={
 sizeBuilder:=by kernel_rfl
 liesBuilder:=by kernel_rfl
 t5:=Tryz.underlying5
 a5:=Tryz.isAgg5
 z5:=Tryz.sizeOf5
 v5:=Tryz.zeroValue5
 infoByte:=by kernel_rfl
 cellsByte:=by kernel_rfl
 sizeByte:=by kernel_rfl
 neB5:=by decide}
open Go.RowKit in
theorem Tryz.strings_Join_none (a:Option Addr) (c:Nat) (sep:ByteArray) (w:World):
 Calls Tryz.prog 210 #[.slice a 0 c,.string sep] w fun e w'=>e=.returned (.string ⟨#[]⟩)∧w'=w:=Any.strings_Join_none Tryz.LN Tryz.nk a c sep w
open Go.RowKit in
theorem Tryz.strings_Join (bk o c:Nat) (xs:List ByteArray) (sep:ByteArray) (w:World) (hcells:∀(j:Nat) x,xs[j]?=some x→w.cell? ⟨bk,o+j,none⟩=some (.string x)) (hbk:bk<w.heap.size) (hN:xs.length≤140737488355328) (hcap:xs.length≤c) (hlen:(Lib.join (xs.map (·.data.toList)) sep.data.toList).length≤140737488355328):
 Calls Tryz.prog 210 #[.slice (some ⟨bk,o,none⟩) xs.length c,.string sep] w fun e w'=>e=.returned (.string ⟨(Lib.join (xs.map (·.data.toList)) sep.data.toList).toArray⟩)∧Below w.heap.size w w':=Any.strings_Join Tryz.LN Tryz.nk bk o c xs sep w hcells hbk hN hcap hlen
end Go.Proofs
end
section
open Go Dem Go.Proofs
namespace Dem
variable {t:Th}
theorem De {w:World} {ok:Nat→Prop} {blk sz:Nat}:∀{l:List aK} {off:Nat},ay w ok blk sz (l.map bE) off→∀(j:Nat) x,(l.map fun s=>(⟨s.toArray⟩:ByteArray))[j]?=some x→w.cell? ⟨blk,off+j,none⟩=some (.string x)
 |[],_,_,j,x,hx=>by simp at hx
 |s::l,off,h,j,x,hx=>by
  simp only [List.map_cons,ay,aY,aL,and_true] at h
  obtain ⟨rfl,⟨u,hu,rfl⟩,h3⟩:=h
  cases j with
  |zero=>simp at hx;subst hx;exact hu
  |succ j=>
   have:=De h3 j x (by simpa using hx)
   rw [show off+(j+1)=off+[D.str s].length+j by simp;omega]
   exact this
theorem Df {β:Nat→Nat} {w w':World} (hb:RowKit.Below w.heap.size w w'):Ext β [] w β [] w':=
 ⟨hb.os,hb.tape,hb.output,hb.size,fun k hk _=>hb.block k hk,fun k c e f hk=>⟨c,by rw [hb.block k (Array.getElem?_eq_some_iff.1 hk).1];exact hk,rfl⟩,fun i h=>by obtain ⟨b,h1,_⟩:=h;simp at h1,fun i b h=>by simp at h⟩
theorem LO (ht:TT t) {l:List aK} {es:List (List D)} (aE:es=l.map bE) (hl:l.length<1000000000) (hlen:(fo l).length≤140737488355328):FC 210 [SL es,ST [47]] [] (.ret (Sx (t _ fun _=>fo l))) []:=by
 simp only [ht]
 subst aE
 intro β w vs X cx hx
 simp only [an,ak,aL] at hx
 obtain ⟨_,_,rfl,⟨base,cap,rfl,hcap,h1⟩,_,_,rfl,rfl,rfl⟩:=hx
 rcases h1 with h1|⟨blk,off,sz,rfl,hok,hrows⟩
 ·have hl0:l=[]:=by simpa using h1
  subst hl0
  refine .inl ⟨enters_of Tryz.func210 (by kernel_rfl) rfl _ _,(Tryz.strings_Join_none base cap ⟨#[47]⟩ w).mono ?_⟩
  rintro e w' ⟨rfl,rfl⟩
  exact ⟨β,Ext.refl _ _ _,cx,by simp [mh,Sx,ak,aL,fo,Lib.join_nil]⟩
 have hx:((l.map fun s=>(⟨s.toArray⟩:ByteArray)).map (·.data.toList))=l:=by simp [Function.comp_def]
 have hn:(l.map fun s=>(⟨s.toArray⟩:ByteArray)).length=(l.map bE).length:=by simp
 have key:=Tryz.strings_Join blk off cap (l.map fun s=>(⟨s.toArray⟩:ByteArray)) ⟨#[47]⟩ w (De hrows) hok.1 (by simp;omega) (by simpa using hcap) (by rw [hx];exact hlen)
 rw [hx,hn] at key
 refine .inl ⟨enters_of Tryz.func210 (by kernel_rfl) rfl _ _,key.mono ?_⟩
 rintro e w' ⟨rfl,hb⟩
 exact ⟨β,Df hb,cx.step (Df hb) (fun i b h=>by simp at h) (fun i j bi bj hi=>by simp at hi),by simp [mh,Sx,ak,aL,fo]⟩
theorem Qd (ht:TT t) {l:List (aK)} {es:List (List D)} (aE:es=l.map bE) (f:Nat) (p:aK→Bool) (hl:l.length<9223372036854775807)
 (hf:∀x∈l,FC f [.d (.str x)] [] (.ret (BL (p x))) []) {r:Int} (hr:r=idxOf p l):FC 199 [SL es,.fn f []] [] (.ret (bG r)) []:=by
 have hel:es.length=l.length:=by rw [aE,lgM]
 obtain ⟨J,hJ⟩:∃J:Nat→Nat→Prop,∀n v,J n v↔(v+n=l.length∧∀i<v,∀x,l[i]?=some x→p x=false):=⟨fun n v=>v+n=l.length∧∀i<v,∀x,l[i]?=some x→p x=false,fun _ _=>Iff.rfl⟩
 refine bP ht (aQ:=[]) Tryz.func199 rfl rfl (N:=19) rfl rfl (n:=0) rfl rfl ?_
 cbv
 refine bH ⟨[0,1,7,8],[],[]⟩ (σ:=Nat) (fun k=>[(8,bG (t _ fun _=>(k:Int)))]) (fun _=>[]) J ?_
 cbv
 refine aH ⟨l.length,0,(hJ _ _).2 ⟨by omega,by intro i hi;simp at hi⟩,by simp only [ht];rfl,?_⟩
 rintro n k hj
 obtain ⟨h2,h3⟩:=(hJ _ _).1 hj
 clear hj
 cbv
 refine av (fun h=>?_) (fun h=>?_)
 ·simp only [ht,ah,decide_eq_true_eq] at h
  have hk:k<l.length:=by omega
  obtain ⟨x,hx⟩:∃x,l[k]?=some x:=⟨l[k],by simp⟩
  have pG:x∈l:=List.mem_of_getElem? hx
  have ix:=hf x pG
  obtain ⟨px,hpx⟩:∃b,b=p x:=⟨_,rfl⟩
  rw [←hpx] at ix
  skip
  cbv
  refine jG [.str x] ?_ ?_ ?_
  ·simp only [ht,ah];refine ⟨by omega,h,?_⟩;rw [aE];intro r hr;obtain ⟨y,_,rfl⟩:=List.mem_map.1 hr;rfl
  ·simp [ht,ah,aE,hx]
  cbv
  refine eG trv ix ?_
  cbv
  refine av (fun hb=>?_) (fun hb=>?_)
  ·cbv
   refine az trv trv rfl rfl rfl ?_
   have e:=dD hx (hpx▸hb) h3
   simp only [ht,ah,hr,idxOf,e]
  cbv
  refine aH ⟨n-1,k+1,⟨by omega,(hJ _ _).2 ⟨by omega,?_⟩⟩,?_⟩
  ·intro i hi y hy
   by_cases hik:i<k
   ·exact h3 i hik y hy
   have:i=k:=by omega
   subst this;rw [hx] at hy;cases hy;rw [←hpx];exact hb
  simp only [ht,ah,aG (show k<9223372036854775807 by omega)];rfl
 simp only [ht,ah,decide_eq_false_iff_not] at h
 have hk:¬k<l.length:=by omega
 clear h
 cbv
 refine az trv trv rfl rfl rfl ?_
 rw [hr,idxOf,dQ]
 intro i y hy
 have:i<l.length:=by
  rcases Nat.lt_or_ge i l.length with h'|h';· exact h'
  simp [List.getElem?_eq_none h'] at hy
 exact h3 i (by omega) y hy
theorem Qe (ht:TT t) {l:List (aK)} {es:List (List D)} (aE:es=l.map bE) (f:Nat) (p:aK→Bool) (hl:l.length<9223372036854775807)
 (hf:∀x∈l,FC f [.d (.str x)] [] (.ret (BL (p x))) []) {r:Bool} (hr:r=l.any p):FC 156 [SL es,.fn f []] [] (.ret (BL r)) []:=by
 obtain ⟨k,hk⟩:∃k,k=idxOf p l:=⟨_,rfl⟩
 refine bP ht (aQ:=[]) Tryz.func156 rfl rfl (N:=9) rfl rfl (n:=0) rfl rfl ?_
 cbv
 refine eG trv (Qd ht aE f p hl hf hk) ?_
 cbv
 refine az trv trv rfl rfl rfl ?_
 simp only [ht,hr,iQ,hk]
theorem JS (ht:TT t) (s:aK) (hs:s.length<9223372036854775807):FC 227 [ST s] [] (.ret (dh (t _ fun _=>!eD s))) []:=by
 refine bP ht (aQ:=[]) Tryz.func227 rfl rfl (N:=6) rfl rfl (n:=0) rfl rfl ?_
 cbv
 refine bc trv (rT ht _ ‹_›) trv rfl rfl (fun r0 dj=>?_)
 simp only [ht] at dj
 cbv
 refine az trv trv rfl rfl rfl ?_
 (simp [*];done)
theorem vD:∀(s:aK),∀x∈bY 47 s,x.length≤s.length
 |[],x,hx=>by simp [bY] at hx;subst hx;exact Nat.le_refl _
 |c::s,x,hx=>by
  have ih:=vD s
  unfold bY at hx
  split at hx
  ·rcases List.mem_cons.1 hx with rfl|hx
   ·simp
   exact Nat.le_trans (ih x hx) (by simp)
  split at hx
  ·rename_i h r e
   rw [e] at ih
   rcases List.mem_cons.1 hx with rfl|hx
   ·have:=ih h (by simp);simp;omega
   exact Nat.le_trans (ih x (by simp [hx])) (by simp)
  simp at hx;subst hx;simp
theorem M0 (ht:TT t) {l:List aK} {es:List (List D)} (aE:es=l.map bE) (hl:l.length<9223372036854775807) (hw:∀x∈l,x.length<9223372036854775807):
 FC 156 [SL es,.fn 227 []] [] (.ret (dh (t _ fun _=>l.any fun n=>!eD n))) []:=by
 simp only [ht];exact Qe ht aE _ _ hl (fun x hx=>by have h:=JS ht x (hw x hx);simp only [ht,dh] at h;exact h) rfl
theorem vE (ht:TT t) (s:aK) (hs:s.length<1000000000000):FC 209 [ST s] [] (.ret (GW t (t _ fun _=>parts s))) []:=by
 have Wj:=oP 47 s
 have hsc:s.count 47≤s.length:=List.count_le_length
 have wM:∀x∈bY 47 s,x.length<9223372036854775807:=fun x hx=>Nat.lt_of_le_of_lt (vD s x hx) (by omega)
 refine bP ht (aQ:=[]) Tryz.func209 rfl rfl (N:=14) rfl rfl (n:=0) rfl rfl ?_
 cbv
 refine aF trv (Qb ht _ ‹_›) trv rfl rfl rfl (fun r0 dj=>?_)
 simp only [ht] at dj
 have hr0:(r0).length<1000000000001:=by rw [dj];omega
 have hs0:∀x∈r0,x.length<9223372036854775807:=by rw [dj];exact wM
 cbv
 refine gI (by simp [ht]) ?_
 refine eY (fun g1=>⟨by simp [ht] at g1 ⊢;exact g1,trv,M0 ht (kP ht rfl) (by omega) ‹_›⟩) rfl rfl (fun r2 iJ=>?_)
 simp only [ht] at iJ
 cbv
 refine pI (by simp [ht]) ?_
 refine av (fun h3=>?_) (fun h3=>?_)
 ·simp [ht,ah] at h3
  cbv
  refine az trv trv rfl rfl rfl ?_
  (simp only [ht,parts];grind)
 simp [ht,ah] at h3
 cbv
 refine az trv trv rfl rfl rfl ?_
 (simp only [ht,parts];grind)
def JT {α:Type} [DecidableEq α] (a:α) (l:List α):Int:=idxOf (fun x=>decide (a=x)) l
theorem LP {α:Type} [DecidableEq α] {a x:α} {l:List α} {k:Nat} (hx:l[k]?=some x) (h:a=x) (h3:∀i<k,∀y,l[i]?=some y→a≠y):JT a l=k:=by
 simp only [JT,idxOf]
 rw [dD hx (by simpa using h) (fun i hi y hy=>by simpa using h3 i hi y hy)]
theorem LQ {α:Type} [DecidableEq α] {a:α} {l:List α} {k:Nat} (hk:l.length≤k) (h3:∀i<k,∀y,l[i]?=some y→a≠y):JT a l=-1:=by
 simp only [JT,idxOf]
 rw [dQ]
 intro i y hy
 have:i<l.length:=(List.getElem?_eq_some_iff.1 hy).1
 simpa using h3 i (by omega) y hy
theorem Dg {α:Type} {a x:α} {l:List α} {k:Nat} (h3:∀i<k,∀y,l[i]?=some y→a≠y) (hx:l[k]?=some x) (h:a≠x):∀i<k+1,∀y,l[i]?=some y→a≠y:=by
 intro i hi y hy
 rcases Nat.lt_or_ge i k with h1|h1
 ·exact h3 i h1 y hy
 have:i=k:=by omega
 subst this;rw [hx] at hy;cases hy;exact h
theorem Hy {α:Type} [DecidableEq α] (a:α) (l:List α):0≤JT a l↔a∈l:=by
 have h:=iQ (fun x=>decide (a=x)) l
 rw [Bool.eq_iff_iff] at h
 simp at h
 exact h.symm
theorem Hz (ht:TT t) (a:aK) {l:List aK} {es:List (List D)} (aE:es=l.map bE) (hl:l.length<1000000000):
 FC 211 [SL es,ST a] [] (.ret (gF (t _ fun _=>JT a l))) []:=by
 refine bP ht (aQ:=[]) Tryz.func211 rfl rfl (N:=19) rfl rfl (n:=0) rfl rfl ?_
 cbv
 have aD:es.length=l.length:=by rw [aE,lgM]
 obtain ⟨J0,fI⟩:∃J0:Nat→Int→Prop,∀n i,J0 n i↔(∃k:Nat,i=k∧k+n=l.length∧∀i<k,∀y,l[i]?=some y→a≠y):=⟨fun n v=>match v with|i=>(∃k:Nat,i=k∧k+n=l.length∧∀i<k,∀y,l[i]?=some y→a≠y),fun _ _=>Iff.rfl⟩
 refine bH ⟨[0,1,7,8],[],[]⟩ (σ:=Int) (fun v=>[(8,.d (.int .i64 (t _ fun _=>v)))]) (fun v=>[]) J0 ?_
 cbv
 refine aH ⟨l.length,_,(fI _ _).2 ?_,by simp only [ht];rfl,?_⟩
 ·exact ⟨0,rfl,by simp,fun i hi=>by omega⟩
 rintro n i hj
 replace hj:=(fI _ _).1 hj
 obtain ⟨k,rfl,j1,j4⟩:=hj
 cbv
 refine av (fun h1=>?_) (fun h1=>?_)
 ·simp [ht,ah,aD] at h1
  cbv
  refine kp ht aE (cT:=gw t) (by (simp only [ht,ah];omega)) (by (simp only [ht,ah];omega)) (fun _=>rfl) (fun _=>rfl) (fun x2 n9=>?_)
  simp [ht,ah] at n9
  cbv
  refine av (fun h3=>?_) (fun h3=>?_)
  ·simp [ht] at h3
   cbv
   refine az trv trv rfl rfl rfl ?_
   (simp only [ht];rw [LP ‹_› ‹_› j4];done)
  simp [ht] at h3
  cbv
  refine cz _ (by simp only [ht];rfl) (n-1) ?_ ((fI _ _).2 ?_)
  ·omega
  simp only [ah]
  exact ⟨k+1,aG (by omega),by omega,Dg j4 ‹_› ‹_›⟩
 simp [ht,ah,aD] at h1
 cbv
 refine az trv trv rfl rfl rfl ?_
 (simp only [ht];rw [LQ (by omega) j4];done)
theorem M1 (ht:TT t) (a:aK) {l:List aK} {es:List (List D)} (aE:es=l.map bE) (hl:l.length<1000000000):
 FC 182 [SL es,ST a] [] (.ret (dh (t _ fun _=>l.contains a))) []:=by
 refine bP ht (aQ:=[]) Tryz.func182 rfl rfl (N:=9) rfl rfl (n:=0) rfl rfl ?_
 cbv
 have aD:es.length=l.length:=by rw [aE,lgM]
 refine bc trv (Hz ht _ ‹_› ‹_›) trv rfl rfl (fun r0 dj=>?_)
 simp only [ht] at dj
 cbv
 refine az trv trv rfl rfl rfl ?_
 (simp [ht,dj,Hy];done)
theorem Vz (ht:TT t) (s:aK) (hs:s.length<1000000000000):FC 178 [ST s] [] (.ret (GW t (t _ fun _=>mC s))) []:=by
 have hp:=kq s
 refine bP ht (aQ:=[]) Tryz.func178 rfl rfl (N:=22) rfl rfl (n:=0) rfl rfl ?_
 cbv
 refine aF trv (vE ht _ ‹_›) trv rfl rfl rfl (fun r0 dj=>?_)
 simp only [ht] at dj
 have hrl:(r0).length=(parts s).length:=by rw [dj]
 cbv
 obtain ⟨J1,pE⟩:∃J1:Nat→List (List D)×Int→Prop,∀n u i,J1 n (u,i)↔(∃k:Nat,i=k∧k+n=(parts s).length∧u=((mC s).take k).map bE):=⟨fun n v=>match v with|(u,i)=>(∃k:Nat,i=k∧k+n=(parts s).length∧u=((mC s).take k).map bE),fun _ _ _=>Iff.rfl⟩
 refine bH ⟨[0,3,7,8],[(3,1)],[]⟩ (σ:=List (List D)×Int) (fun v=>[(3,.ow 0 1 (t _ fun _=>(v.1).length)),(8,.d (.int .i64 (t _ fun _=>v.2)))]) (fun v=>[(0,.row 1 (t _ fun _=>v.1))]) J1 ?_
 cbv
 refine aH ⟨(parts s).length,([],_),(pE _ _ _).2 ?_,by simp only [ht];rfl,?_⟩
 ·exact ⟨0,rfl,by simp,rfl⟩
 rintro n ⟨u,i⟩ hj
 replace hj:=(pE _ _ _).1 hj
 obtain ⟨k,rfl,j1,j4⟩:=hj
 cbv
 refine av (fun h2=>?_) (fun h2=>?_)
 ·simp [ht,ah] at h2
  cbv
  refine aF trv (vE ht _ ‹_›) trv rfl rfl rfl (fun r3 mM=>?_)
  simp only [ht] at mM
  have hrl:(r3).length=(parts s).length:=by rw [mM]
  cbv
  refine ⟨?_,?_⟩
  ·(simp only [ht];refine ⟨?_,fun r hr=>by obtain ⟨y,_,rfl⟩:=List.mem_map.1 hr;rfl⟩;rw [aG (by omega)];simp only [bS];rw [lgM];omega)
  cbv
  (refine bc trv (LO ht (l:=r3.take (k+1)) (by simp only [ht,iD];rw [aG (by omega),List.map_take];rfl) (by simp;omega) (by rw [mM];exact Nat.le_trans (CX s (k+1)) (by omega))) trv rfl rfl (fun r4 k9=>?_);simp only [ht] at k9;rw [mM] at k9)
  cbv
  refine ⟨?_,?_⟩
  ·(simp only [ht];grind)
  cbv
  refine cz (_,_) (by simp only [ht,←List.length_append];rfl) (n-1) ?_ ((pE _ _ _).2 ?_)
  ·omega
  simp only [ah]
  exact ⟨k+1,aG (by omega),by omega,by rw [CY (by omega),j4,←k9];simp⟩
 simp [ht,ah] at h2
 cbv
 refine az trv (by simp [ht]) rfl rfl rfl ?_
 (simp [ht,j4,List.take_of_length_le (show (mC s).length≤k by rw [iu];omega)];done)
theorem HA (ht:TT t) (a b:aK) (hs:b.length<1000000000000):FC 136 [ST a,ST b] [] (.ret (dh (t _ fun _=>nF a b))) []:=by
 have hp:=kq b
 have hl:=iu b
 refine bP ht (aQ:=[]) Tryz.func136 rfl rfl (N:=9) rfl rfl (n:=0) rfl rfl ?_
 cbv
 refine aF trv (Vz ht _ ‹_›) trv rfl rfl rfl (fun r0 dj=>?_)
 simp only [ht] at dj
 have hr0:(r0).length<1000000000:=by rw [dj];omega
 cbv
 refine bc trv (M1 ht _ (kP ht rfl) ‹_›) trv rfl rfl (fun r1 cF=>?_)
 simp only [ht] at cF
 cbv
 refine az trv trv rfl rfl rfl ?_
 (simp [nF, *];done)
theorem S1 (x y:Nat) (hx:x<18446744073709551616) (hy:y<18446744073709551616):ME x y=if (x*y / 18446744073709551616=0) then (((x*y:Nat):Int),true) else (0,false):=by
 unfold ME
 simp only [Int.toNat_natCast]
 by_cases h:x*y<18446744073709551616
 ·rw [if_pos h,if_pos (Nat.div_eq_of_lt h)]
 rw [if_neg h,if_neg (by have:=Nat.div_le_div_right (c:=18446744073709551616) (Nat.le_of_not_lt h);simp at this;omega)]
theorem S2 (x:Nat):x &&& 4294967295=x%4294967296:=by
 have:=Nat.and_two_pow_sub_one_eq_mod x 32
 simpa using this
theorem Qf (x:Nat) (hx:x<18446744073709551616):IntKind.u64.wrap ((BitVec.ofInt IntKind.u64.bits (x:Int) &&& BitVec.ofInt IntKind.u64.bits 4294967295).toNat:Int)=((x%4294967296:Nat):Int):=by
 have e1:BitVec.ofInt IntKind.u64.bits (x:Int)=BitVec.ofNat 64 x:=by simp [IntKind.bits]
 have e2:BitVec.ofInt IntKind.u64.bits 4294967295=BitVec.ofNat 64 4294967295:=by rfl
 rw [e1,e2]
 have:(BitVec.ofNat 64 x &&& BitVec.ofNat 64 4294967295).toNat=x%4294967296:=by
  rw [BitVec.toNat_and,BitVec.toNat_ofNat,BitVec.toNat_ofNat,Nat.mod_eq_of_lt (a:=x) (by simpa using hx),Nat.mod_eq_of_lt (a:=4294967295) (by decide),S2]
 have h2:x%4294967296<18446744073709551616:=by omega
 rw [oO]
 show (((BitVec.ofNat 64 x &&& BitVec.ofNat 64 4294967295).toNat:Nat):Int)%18446744073709551616=_
 rw [this];omega
theorem LR (x:Nat):(x:Int).fdiv (2^(min (32:Int).toNat IntKind.u64.bits))=((x / 4294967296:Nat):Int):=by
 show (x:Int).fdiv (2^32)=_
 rw [Int.fdiv_eq_ediv_of_nonneg _ (by decide)];norm_cast
theorem EI {n:Nat} (h:n<18446744073709551616):IntKind.u64.wrap (n:Int)=n:=by rw [oO];omega
theorem S3 (ht:TT t) (x y:Nat) (hx:x<18446744073709551616) (hy:y<18446744073709551616) {a b:Int} (ha:a=x) (hb:b=y):
 FC 202 [aC a,aC b] [] (.ret (.eA [aC (t _ fun _=>((x*y / 18446744073709551616:Nat):Int)),aC (t _ fun _=>IntKind.u64.wrap ((x*y:Nat):Int))])) []:=by
 obtain ⟨k1,k2,k3,k4⟩:=Lib.mul64_hi x y hx hy
 refine bP ht (aQ:=[]) Tryz.func202 rfl rfl (N:=51) rfl rfl (n:=0) rfl rfl ?_
 cbv
 refine ⟨by simp [ht],by simp [ht],by simp [ht],by simp [ht],by simp [ht],?_⟩
 refine az trv trv rfl rfl rfl ?_
 simp only [ht,ah]
 subst ha hb
 have b1:x / 4294967296≤4294967295:=by omega
 have b2:y / 4294967296≤4294967295:=by omega
 have b3:x%4294967296≤4294967295:=by omega
 have b4:y%4294967296≤4294967295:=by omega
 have m1:=Lib.half_mul_le b1 b2
 have m2:=Lib.half_mul_le b1 b4
 have m3:=Lib.half_mul_le b3 b2
 have m4:=Lib.half_mul_le b3 b4
 have k5:x / 4294967296*(y / 4294967296)+(x / 4294967296*(y%4294967296)+x%4294967296*(y%4294967296) / 4294967296) / 4294967296<18446744073709551616:=by omega
 have k6:x*y / 18446744073709551616<18446744073709551616:=by
  rw [Nat.div_lt_iff_lt_mul (by decide)]
  exact Nat.mul_lt_mul'' hx hy
 simp only [LR,Qf x hx,Qf y hy,←Int.natCast_mul]
 rw [EI k1,EI (n:=x / 4294967296*(y%4294967296)) (by omega),EI (n:=x%4294967296*(y / 4294967296)) (by omega),EI (n:=x / 4294967296*(y / 4294967296)) (by omega)]
 simp only [LR,←Int.natCast_add]
 rw [EI k2,Qf _ k2]
 simp only [LR,←Int.natCast_add]
 rw [EI k5,EI k3]
 simp only [LR,←Int.natCast_add]
 rw [k4,EI k6]
theorem M2 (ht:TT t) (x y:Int) (hx:0≤x∧x<18446744073709551616) (hy:0≤y∧y<18446744073709551616) {r:Int} {ok:Bool} (h:(r,ok)=ME x y):
 FC 169 [aC x,aC y] [] (.ret (.eA [aC r,BL ok])) []:=by
 obtain ⟨a,rfl⟩:=Int.eq_ofNat_of_zero_le hx.1
 obtain ⟨b,rfl⟩:=Int.eq_ofNat_of_zero_le hy.1
 have ha:a<18446744073709551616:=by omega
 have hb:b<18446744073709551616:=by omega
 rw [S1 a b ha hb] at h
 have hw:a*b / 18446744073709551616=0→IntKind.u64.wrap ((a*b:Nat):Int)=((a*b:Nat):Int):=fun e=>by
  refine EI ?_
  rcases Nat.lt_or_ge (a*b) 18446744073709551616 with h1|h1
  ·exact h1
  have:=Nat.div_le_div_right (c:=18446744073709551616) h1;simp at this;omega
 obtain ⟨w,Wv⟩:∃w,w=IntKind.u64.wrap ((a*b:Nat):Int):=⟨_,rfl⟩
 obtain ⟨z,hz⟩:∃z,z=a*b / 18446744073709551616:=⟨_,rfl⟩
 have hc:=S3 ht a b ha hb rfl rfl
 rw [←Wv,←hz] at hc
 rw [←Wv,←hz] at hw
 rw [←hz] at h
 obtain ⟨x,hx0⟩:∃x:Int,x=a:=⟨_,rfl⟩
 obtain ⟨y,hy0⟩:∃y:Int,y=b:=⟨_,rfl⟩
 rw [←hx0,←hy0] at hc ⊢
 refine bP ht (aQ:=[]) Tryz.func169 rfl rfl (N:=17) rfl rfl (n:=0) rfl rfl ?_
 cbv
 refine gB trv hc trv rfl rfl ?_
 cbv
 refine av (fun hc=>?_) (fun hc=>?_)
 ·cbv
  refine az trv trv rfl rfl rfl ?_
  simp only [ht,ah,Bool.not_eq_true',decide_eq_false_iff_not] at hc
  rw [if_neg (by omega)] at h
  cases h;rfl
 cbv
 refine az trv trv rfl rfl rfl ?_
 simp only [ht,ah,Bool.not_eq_false',decide_eq_true_eq] at hc
 have T0:z=0:=by omega
 rw [if_pos T0] at h
 cases h
 simp only [ht,hw T0]
end Dem
end
