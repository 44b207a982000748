/- Parts of a proof, joined. -/
import Derived.Test.YtjnbpclolnmimaaGreatDoorJ19
import Derived.Shelf.Strings.OnBuilder
import Derived.Test.YtjnbpclolnmimaaGreatDoorProg
set_option linter.unusedSimpArgs false
set_option linter.unusedVariables false
set_option maxRecDepth 100000
set_option maxHeartbeats 4000000
section
namespace Go.Proofs
open Go.Shelf
def Tryz.zj:Go.Shelf.Ren:=⟨fun|156=>165|165=>200|166=>201|169=>202|240=>222|241=>223|276=>237|277=>238|n=>n,fun|31=>79|9=>9|3=>3|4=>4|0=>0|20=>20|72=>270|76=>274|70=>268|37=>85|75=>273|127=>299|164=>315|5=>5|80=>147|n=>n,fun|n=>n⟩
theorem Tryz.MR:Go.Proofs.Lays.n156 Tryz.prog Tryz.zj:={
 mixed:=by kernel_rfl
 f156:=Tryz.func165.trans (congrArg some (by kernel_rfl))
 f165:=Tryz.func200.trans (congrArg some (by kernel_rfl))
 f166:=Tryz.func201.trans (congrArg some (by kernel_rfl))
 f169:=Tryz.func202.trans (congrArg some (by kernel_rfl))
 f240:=Tryz.func222.trans (congrArg some (by kernel_rfl))
 f241:=Tryz.func223.trans (congrArg some (by kernel_rfl))
 f276:=Tryz.func237.trans (congrArg some (by kernel_rfl))
 f277:=Tryz.func238.trans (congrArg some (by kernel_rfl))
 t0:=Tryz.underlying0
 a0:=Tryz.isAgg0
 z0:=Tryz.sizeOf0
 v0:=Tryz.zeroValue0
 t3:=Tryz.underlying3
 a3:=Tryz.isAgg3
 z3:=Tryz.sizeOf3
 v3:=Tryz.zeroValue3
 t4:=Tryz.underlying4
 a4:=Tryz.isAgg4
 z4:=Tryz.sizeOf4
 v4:=Tryz.zeroValue4
 t9:=Tryz.underlying9
 a9:=Tryz.isAgg9
 z9:=Tryz.sizeOf9
 v9:=Tryz.zeroValue9
 t20:=Tryz.underlying20
 a20:=Tryz.isAgg20
 z20:=Tryz.sizeOf20
 v20:=Tryz.zeroValue20
 t31:=Tryz.underlying79
 a31:=Tryz.isAgg79
 z31:=Tryz.sizeOf79
 v31:=Tryz.zeroValue79
 t37:=Tryz.underlying85
 a37:=Tryz.isAgg85
 z37:=Tryz.sizeOf85
 v37:=Tryz.zeroValue85
 t70:=Tryz.underlying268
 a70:=Tryz.isAgg268
 z70:=Tryz.sizeOf268
 v70:=Tryz.zeroValue268
 t72:=Tryz.underlying270
 a72:=Tryz.isAgg270
 z72:=Tryz.sizeOf270
 v72:=Tryz.zeroValue270
 t75:=Tryz.underlying273
 a75:=Tryz.isAgg273
 z75:=Tryz.sizeOf273
 v75:=Tryz.zeroValue273
 t76:=Tryz.underlying274
 a76:=Tryz.isAgg274
 z76:=Tryz.sizeOf274
 v76:=Tryz.zeroValue274
 t127:=Tryz.underlying299
 a127:=Tryz.isAgg299
 z127:=Tryz.sizeOf299
 v127:=Tryz.zeroValue299
 t164:=Tryz.underlying315
 a164:=Tryz.isAgg315
 z164:=Tryz.sizeOf315
 v164:=Tryz.zeroValue315}
theorem Tryz.nG:Builder.Extra Tryz.prog Tryz.zj:={
 sizeBuilder:=by kernel_rfl
 liesBuilder:=by kernel_rfl
 t5:=Tryz.underlying5
 a5:=Tryz.isAgg5
 z5:=Tryz.sizeOf5
 v5:=Tryz.zeroValue5
 infoByte:=by kernel_rfl
 cellsByte:=by kernel_rfl
 sizeByte:=by kernel_rfl
 neB5:=by decide}
open Go.RowKit in
theorem Tryz.strings_Join_none (a:Option Addr) (c:Nat) (sep:ByteArray) (w:World):
 Calls Tryz.prog 165 #[.slice a 0 c,.string sep] w fun e w'=>e=.returned (.string ⟨#[]⟩)∧w'=w:=Any.strings_Join_none Tryz.MR Tryz.nG a c sep w
open Go.RowKit in
theorem Tryz.strings_Join (bk o c:Nat) (xs:List ByteArray) (sep:ByteArray) (w:World) (hcells:∀(j:Nat) x,xs[j]?=some x→w.cell? ⟨bk,o+j,none⟩=some (.string x)) (hbk:bk<w.heap.size) (hN:xs.length≤140737488355328) (hcap:xs.length≤c) (hlen:(Lib.join (xs.map (·.data.toList)) sep.data.toList).length≤140737488355328):
 Calls Tryz.prog 165 #[.slice (some ⟨bk,o,none⟩) xs.length c,.string sep] w fun e w'=>e=.returned (.string ⟨(Lib.join (xs.map (·.data.toList)) sep.data.toList).toArray⟩)∧Below w.heap.size w w':=Any.strings_Join Tryz.MR Tryz.nG bk o c xs sep w hcells hbk hN hcap hlen
end Go.Proofs
end
section
open Go Dem Go.Proofs
namespace Dem
variable {t:Th}
theorem D3 {w:World} {ok:Nat→Prop} {aB sz:Nat}:∀{l:List aD} {off:Nat},av w ok aB sz (l.map aT) off→∀(j:Nat) x,(l.map fun s=>(⟨s.toArray⟩:ByteArray))[j]?=some x→w.cell? ⟨aB,off+j,none⟩=some (.string x)
 |[],_,_,j,x,hx=>by simp at hx
 |s::l,off,h,j,x,hx=>by
  simp only [List.map_cons,av,aY,aK,and_true] at h
  obtain ⟨rfl,⟨u,hu,rfl⟩,h3⟩:=h
  cases j with
  |zero=>simp at hx;subst hx;exact hu
  |succ j=>
   have:=D3 h3 j x (by simpa using hx)
   rw [show off+(j+1)=off+[D.str s].length+j by simp;omega]
   exact this
theorem D4 {β:Nat→Nat} {w w':World} (hb:RowKit.Below w.heap.size w w'):Ext β [] w β [] w':=
 ⟨hb.os,hb.tape,hb.output,hb.size,fun k hk _=>hb.block k hk,fun k c e f hk=>⟨c,by rw [hb.block k (Array.getElem?_eq_some_iff.1 hk).1];exact hk,rfl⟩,fun i h=>by obtain ⟨b,h1,_⟩:=h;simp at h1,fun i b h=>by simp at h⟩
theorem MS (ht:TT t) {l:List aD} {es:List (List D)} (aF:es=l.map aT) (hl:l.length<1000000000) (hlen:(fc l).length≤140737488355328):FC 165 [SL es,ST [47]] [] (.ret (tG (t _ fun _=>fc l))) []:=by
 simp only [ht]
 subst aF
 intro β w vs X cx hx
 simp only [aj,ah,aK] at hx
 obtain ⟨_,_,rfl,⟨base,cap,rfl,hcap,h1⟩,_,_,rfl,rfl,rfl⟩:=hx
 rcases h1 with h1|⟨aB,off,sz,rfl,hok,hrows⟩
 ·have hl0:l=[]:=by simpa using h1
  subst hl0
  refine .inl ⟨enters_of Tryz.func165 (by kernel_rfl) rfl _ _,(Tryz.strings_Join_none base cap ⟨#[47]⟩ w).mono ?_⟩
  rintro e w' ⟨rfl,rfl⟩
  exact ⟨β,Ext.refl _ _ _,cx,by simp [fC,tG,ah,aK,fc,Lib.join_nil]⟩
 have hx:((l.map fun s=>(⟨s.toArray⟩:ByteArray)).map (·.data.toList))=l:=by simp [Function.comp_def]
 have hn:(l.map fun s=>(⟨s.toArray⟩:ByteArray)).length=(l.map aT).length:=by simp
 have key:=Tryz.strings_Join aB off cap (l.map fun s=>(⟨s.toArray⟩:ByteArray)) ⟨#[47]⟩ w (D3 hrows) hok.1 (by simp;omega) (by simpa using hcap) (by rw [hx];exact hlen)
 rw [hx,hn] at key
 refine .inl ⟨enters_of Tryz.func165 (by kernel_rfl) rfl _ _,key.mono ?_⟩
 rintro e w' ⟨rfl,hb⟩
 exact ⟨β,D4 hb,cx.step (D4 hb) (fun i b h=>by simp at h) (fun i j bi bj hi=>by simp at hi),by simp [fC,tG,ah,aK,fc]⟩
theorem Rm (ht:TT t) {l:List (aD)} {es:List (List D)} (aF:es=l.map aT) (f:Nat) (p:aD→Bool) (hl:l.length<9223372036854775807)
 (hf:∀x∈l,FC f [.d (.str x)] [] (.ret (BL (p x))) []) {r:Int} (hr:r=idxOf p l):FC 163 [SL es,.fn f []] [] (.ret (bq r)) []:=by
 have hel:es.length=l.length:=by rw [aF,List.length_map]
 obtain ⟨J,hJ⟩:∃J:Nat→Nat→Prop,∀n v,J n v↔(v+n=l.length∧∀i<v,∀x,l[i]?=some x→p x=false):=⟨fun n v=>v+n=l.length∧∀i<v,∀x,l[i]?=some x→p x=false,fun _ _=>Iff.rfl⟩
 refine bC ht (aE:=[]) Tryz.func163 (c:=_) rfl rfl (N:=19) rfl (rs:=_) rfl (n:=0) rfl rfl ?_
 cbv
 refine aZ ⟨[0,1,7,8],[],[]⟩ (σ:=Nat) (fun k=>[(8,bq (t _ fun _=>(k:Int)))]) (fun _=>[]) J ?_
 cbv
 refine aA ⟨l.length,0,(hJ _ _).2 ⟨by omega,by intro i hi;simp at hi⟩,by simp only [ht];rfl,?_⟩
 rintro n k hj
 obtain ⟨h2,h3⟩:=(hJ _ _).1 hj
 clear hj
 cbv
 refine ai (fun h=>?_) (fun h=>?_)
 ·simp only [ht,aa,decide_eq_true_eq] at h
  have hk:k<l.length:=by omega
  obtain ⟨x,hx⟩:∃x,l[k]?=some x:=⟨l[k],by simp⟩
  have og:x∈l:=List.mem_of_getElem? hx
  have gY:=hf x og
  obtain ⟨px,hpx⟩:∃b,b=p x:=⟨_,rfl⟩
  rw [←hpx] at gY
  skip
  cbv
  refine gS [.str x] ?_ ?_ ?_
  ·simp only [ht,aa];refine ⟨by omega,h,?_⟩;rw [aF];intro r hr;obtain ⟨y,_,rfl⟩:=List.mem_map.1 hr;rfl
  ·simp [ht,aa,aF,hx]
  cbv
  refine dn trivial gY ?_
  cbv
  refine ai (fun hb=>?_) (fun hb=>?_)
  ·cbv
   refine an trivial trivial rfl rfl rfl ?_
   have e:=cN hx (hpx▸hb) h3
   simp only [ht,aa,hr,idxOf,e]
  cbv
  refine aA ⟨n-1,k+1,⟨by omega,(hJ _ _).2 ⟨by omega,?_⟩⟩,?_⟩
  ·intro i hi y hy
   by_cases hik:i<k
   ·exact h3 i hik y hy
   have:i=k:=by omega
   subst this;rw [hx] at hy;cases hy;rw [←hpx];exact hb
  simp only [ht,aa,aC (show k<9223372036854775807 by omega)];rfl
 simp only [ht,aa,decide_eq_false_iff_not] at h
 have hk:¬k<l.length:=by omega
 clear h
 cbv
 refine an trivial trivial rfl rfl rfl ?_
 rw [hr,idxOf,cS]
 intro i y hy
 have:i<l.length:=by
  rcases Nat.lt_or_ge i l.length with h'|h';· exact h'
  simp [List.getElem?_eq_none h'] at hy
 exact h3 i (by omega) y hy
theorem Rn (ht:TT t) {l:List (aD)} {es:List (List D)} (aF:es=l.map aT) (f:Nat) (p:aD→Bool) (hl:l.length<9223372036854775807)
 (hf:∀x∈l,FC f [.d (.str x)] [] (.ret (BL (p x))) []) {r:Bool} (hr:r=l.any p):FC 110 [SL es,.fn f []] [] (.ret (BL r)) []:=by
 obtain ⟨k,hk⟩:∃k,k=idxOf p l:=⟨_,rfl⟩
 refine bC ht (aE:=[]) Tryz.func110 (c:=_) rfl rfl (N:=9) rfl (rs:=_) rfl (n:=0) rfl rfl ?_
 cbv
 refine dn trivial (Rm ht aF f p hl hf hk) ?_
 cbv
 refine an trivial trivial rfl rfl rfl ?_
 simp only [ht,hr,eT,hk]
theorem K5 (ht:TT t) (s:aD) (hs:s.length<9223372036854775807):FC 199 [ST s] [] (.ret (bY (t _ fun _=>!dX s))) []:=by
 refine bC ht (aE:=[]) Tryz.func199 (c:=_) rfl rfl (N:=6) rfl (rs:=_) rfl (n:=0) rfl rfl ?_
 cbv
 refine ay trivial (oK ht _ (by assumption)) trivial rfl rfl (fun r0 bE=>?_)
 simp only [ht] at bE
 cbv
 refine an trivial trivial rfl rfl rfl ?_
 (simp [*];done)
theorem wm:∀(s:aD),∀x∈bP 47 s,x.length≤s.length
 |[],x,hx=>by simp [bP] at hx;subst hx;exact Nat.le_refl _
 |c::s,x,hx=>by
  have ih:=wm s
  unfold bP at hx
  split at hx
  ·rcases List.mem_cons.1 hx with rfl|hx
   ·simp
   exact Nat.le_trans (ih x hx) (by simp)
  split at hx
  ·rename_i h r e
   rw [e] at ih
   rcases List.mem_cons.1 hx with rfl|hx
   ·have:=ih h (by simp);simp;omega
   exact Nat.le_trans (ih x (by simp [hx])) (by simp)
  simp at hx;subst hx;simp
theorem N4 (ht:TT t) {l:List aD} {es:List (List D)} (aF:es=l.map aT) (hl:l.length<9223372036854775807) (hw:∀x∈l,x.length<9223372036854775807):
 FC 110 [SL es,.fn 199 []] [] (.ret (bY (t _ fun _=>l.any fun n=>!dX n))) []:=by
 simp only [ht];exact Rn ht aF _ _ hl (fun x hx=>by have h:=K5 ht x (hw x hx);simp only [ht,bY] at h;exact h) rfl
theorem wo (ht:TT t) (s:aD) (hs:s.length<1000000000000):FC 164 [ST s] [] (.ret (HX t (t _ fun _=>parts s))) []:=by
 have Wm:=pQ 47 s
 have hsc:s.count 47≤s.length:=List.count_le_length
 have fR:∀x∈bP 47 s,x.length<9223372036854775807:=fun x hx=>Nat.lt_of_le_of_lt (wm s x hx) (by omega)
 refine bC ht (aE:=[]) Tryz.func164 (c:=_) rfl rfl (N:=14) rfl (rs:=_) rfl (n:=0) rfl rfl ?_
 cbv
 refine aS trivial (Rl ht _ (by assumption)) trivial rfl rfl rfl (fun r0 bE=>?_)
 simp only [ht] at bE
 have hr0:(r0).length<1000000000001:=by rw [bE];omega
 have hs0:∀x∈r0,x.length<9223372036854775807:=by rw [bE];exact fR
 cbv
 refine gI (by simp [ht]) ?_
 refine aM (fun g1=>⟨by simp [ht] at g1 ⊢;exact g1,trivial,N4 ht (jH ht rfl) (by omega) (by assumption)⟩) rfl rfl (fun r2 cP=>?_)
 simp only [ht] at cP
 cbv
 refine pI (by simp [ht]) ?_
 refine ai (fun h3=>?_) (fun h3=>?_)
 ·simp [ht,aa] at h3
  cbv
  refine an trivial trivial rfl rfl rfl ?_
  (simp only [ht,parts];grind)
 simp [ht,aa] at h3
 cbv
 refine an trivial trivial rfl rfl rfl ?_
 (simp only [ht,parts];grind)
end Dem
end
section
open Go Dem Go.Proofs
namespace Dem
variable {t:Th}
def Iv {α:Type} [DecidableEq α] (a:α) (l:List α):Int:=idxOf (fun x=>decide (a=x)) l
theorem Fy {α:Type} [DecidableEq α] {a x:α} {l:List α} {k:Nat} (hx:l[k]?=some x) (h:a=x) (h3:∀i<k,∀y,l[i]?=some y→a≠y):Iv a l=k:=by
 simp only [Iv,idxOf]
 rw [cN hx (by simpa using h) (fun i hi y hy=>by simpa using h3 i hi y hy)]
theorem Fz {α:Type} [DecidableEq α] {a:α} {l:List α} {k:Nat} (hk:l.length≤k) (h3:∀i<k,∀y,l[i]?=some y→a≠y):Iv a l=-1:=by
 simp only [Iv,idxOf]
 rw [cS]
 intro i y hy
 have:i<l.length:=(List.getElem?_eq_some_iff.1 hy).1
 simpa using h3 i (by omega) y hy
theorem yb {α:Type} {a x:α} {l:List α} {k:Nat} (h3:∀i<k,∀y,l[i]?=some y→a≠y) (hx:l[k]?=some x) (h:a≠x):∀i<k+1,∀y,l[i]?=some y→a≠y:=by
 intro i hi y hy
 rcases Nat.lt_or_ge i k with h1|h1
 ·exact h3 i h1 y hy
 have:i=k:=by omega
 subst this;rw [hx] at hy;cases hy;exact h
theorem BO {α:Type} [DecidableEq α] (a:α) (l:List α):0≤Iv a l↔a∈l:=by
 have h:=eT (fun x=>decide (a=x)) l
 rw [Bool.eq_iff_iff] at h
 simp at h
 exact h.symm
theorem Iw (ht:TT t) (a:aD) {l:List aD} {es:List (List D)} (aF:es=l.map aT) (hl:l.length<1000000000):
 FC 170 [SL es,ST a] [] (.ret (kR (t _ fun _=>Iv a l))) []:=by
 refine bC ht (aE:=[]) Tryz.func170 (c:=_) rfl rfl (N:=19) rfl (rs:=_) rfl (n:=0) rfl rfl ?_
 cbv
 have ar:es.length=l.length:=by rw [aF,List.length_map]
 obtain ⟨J0,eg⟩:∃J0:Nat→Int→Prop,∀n i,J0 n i↔(∃k:Nat,i=k∧k+n=l.length∧∀i<k,∀y,l[i]?=some y→a≠y):=⟨fun n v=>match v with|i=>(∃k:Nat,i=k∧k+n=l.length∧∀i<k,∀y,l[i]?=some y→a≠y),fun _ _=>Iff.rfl⟩
 refine aZ ⟨[0,1,7,8],[],[]⟩ (σ:=Int) (fun v=>[(8,.d (.int .i64 (t _ fun _=>v)))]) (fun v=>[]) J0 ?_
 cbv
 refine aA ⟨l.length,_,(eg _ _).2 ?_,by simp only [ht];rfl,?_⟩
 ·exact ⟨0,rfl,by simp,fun i hi=>by omega⟩
 rintro n i hj
 replace hj:=(eg _ _).1 hj
 obtain ⟨k,rfl,j1,j4⟩:=hj
 cbv
 refine ai (fun h1=>?_) (fun h1=>?_)
 ·simp [ht,aa,ar] at h1
  cbv
  refine dg ht aF (cT:=dR t) (by (simp only [ht,aa];omega)) (by (simp only [ht,aa];omega)) (fun _=>rfl) (fun _=>rfl) (fun x2 iw=>?_)
  simp [ht,aa] at iw
  cbv
  refine ai (fun h3=>?_) (fun h3=>?_)
  ·simp [ht] at h3
   cbv
   refine an trivial trivial rfl rfl rfl ?_
   (simp only [ht];rw [Fy (by assumption) (by assumption) j4];done)
  simp [ht] at h3
  cbv
  refine bf _ (by simp only [ht];rfl) (n-1) ?_ ((eg _ _).2 ?_)
  ·omega
  simp only [aa]
  exact ⟨k+1,aC (by ((try simp only [aa] at*);omega)),by ((try simp only [aa] at*);omega),yb j4 (by assumption) (by assumption)⟩
 simp [ht,aa,ar] at h1
 cbv
 refine an trivial trivial rfl rfl rfl ?_
 (simp only [ht];rw [Fz (by ((try simp only [aa] at*);omega)) j4];done)
theorem N5 (ht:TT t) (a:aD) {l:List aD} {es:List (List D)} (aF:es=l.map aT) (hl:l.length<1000000000):
 FC 118 [SL es,ST a] [] (.ret (bY (t _ fun _=>l.contains a))) []:=by
 refine bC ht (aE:=[]) Tryz.func118 (c:=_) rfl rfl (N:=9) rfl (rs:=_) rfl (n:=0) rfl rfl ?_
 cbv
 have ar:es.length=l.length:=by rw [aF,List.length_map]
 refine ay trivial (Iw ht _ (by assumption) (by assumption)) trivial rfl rfl (fun r0 bE=>?_)
 simp only [ht] at bE
 cbv
 refine an trivial trivial rfl rfl rfl ?_
 (simp [ht,bE,BO];done)
theorem Xh (ht:TT t) (s:aD) (hs:s.length<1000000000000):FC 111 [ST s] [] (.ret (HX t (t _ fun _=>mW s))) []:=by
 have hp:=jW s
 refine bC ht (aE:=[]) Tryz.func111 (c:=_) rfl rfl (N:=22) rfl (rs:=_) rfl (n:=0) rfl rfl ?_
 cbv
 refine aS trivial (wo ht _ (by assumption)) trivial rfl rfl rfl (fun r0 bE=>?_)
 simp only [ht] at bE
 have hrl:(r0).length=(parts s).length:=by rw [bE]
 cbv
 obtain ⟨J1,fe⟩:∃J1:Nat→List (List D)×Int→Prop,∀n u i,J1 n (u,i)↔(∃k:Nat,i=k∧k+n=(parts s).length∧u=((mW s).take k).map aT):=⟨fun n v=>match v with|(u,i)=>(∃k:Nat,i=k∧k+n=(parts s).length∧u=((mW s).take k).map aT),fun _ _ _=>Iff.rfl⟩
 refine aZ ⟨[0,3,7,8],[(3,1)],[]⟩ (σ:=List (List D)×Int) (fun v=>[(3,.ow 0 1 (t _ fun _=>(v.1).length)),(8,.d (.int .i64 (t _ fun _=>v.2)))]) (fun v=>[(0,.row 1 (t _ fun _=>v.1))]) J1 ?_
 cbv
 refine aA ⟨(parts s).length,([],_),(fe _ _ _).2 ?_,by simp only [ht];rfl,?_⟩
 ·exact ⟨0,rfl,by simp,rfl⟩
 rintro n ⟨u,i⟩ hj
 replace hj:=(fe _ _ _).1 hj
 obtain ⟨k,rfl,j1,j4⟩:=hj
 cbv
 refine ai (fun h2=>?_) (fun h2=>?_)
 ·simp [ht,aa] at h2
  cbv
  refine aS trivial (wo ht _ (by assumption)) trivial rfl rfl rfl (fun r3 gH=>?_)
  simp only [ht] at gH
  have hrl:(r3).length=(parts s).length:=by rw [gH]
  cbv
  refine ⟨?_,?_⟩
  ·(simp only [ht];refine ⟨?_,fun r hr=>by obtain ⟨y,_,rfl⟩:=List.mem_map.1 hr;rfl⟩;rw [aC (by ((try simp only [aa] at*);omega))];simp only [bS];rw [List.length_map];omega)
  cbv
  (refine ay trivial (MS ht (l:=r3.take (k+1)) (by simp only [ht,gr];rw [aC (by ((try simp only [aa] at*);omega)),List.map_take];rfl) (by simp;omega) (by rw [gH];exact Nat.le_trans (DU s (k+1)) (by omega))) trivial rfl rfl (fun r4 dO=>?_);simp only [ht] at dO;rw [gH] at dO)
  cbv
  refine ⟨?_,?_⟩
  ·(simp only [ht];grind)
  cbv
  refine bf (_,_) (by simp only [ht,←List.length_append];rfl) (n-1) ?_ ((fe _ _ _).2 ?_)
  ·omega
  simp only [aa]
  exact ⟨k+1,aC (by ((try simp only [aa] at*);omega)),by ((try simp only [aa] at*);omega),by rw [DV (by omega),j4,←dO];simp⟩
 simp [ht,aa] at h2
 cbv
 refine an trivial (by simp [ht]) rfl rfl rfl ?_
 (simp [ht,j4,List.take_of_length_le (show (mW s).length≤k by rw [ic];omega)];done)
theorem BP (ht:TT t) (a b:aD) (hs:b.length<1000000000000):FC 59 [ST a,ST b] [] (.ret (bY (t _ fun _=>mX a b))) []:=by
 have hp:=jW b
 have hl:=ic b
 refine bC ht (aE:=[]) Tryz.func59 (c:=_) rfl rfl (N:=9) rfl (rs:=_) rfl (n:=0) rfl rfl ?_
 cbv
 refine aS trivial (Xh ht _ (by assumption)) trivial rfl rfl rfl (fun r0 bE=>?_)
 simp only [ht] at bE
 have hr0:(r0).length<1000000000:=by rw [bE];omega
 cbv
 refine ay trivial (N5 ht _ (jH ht rfl) (by assumption)) trivial rfl rfl (fun r1 cX=>?_)
 simp only [ht] at cX
 cbv
 refine an trivial trivial rfl rfl rfl ?_
 (simp [mX, *];done)
end Dem
end
section
open Go Dem Go.Proofs
namespace Dem
variable {t:Th}
theorem MT (ht:TT t) (s:aD) (hs:s.length<1000000000000):FC 111 [ST s] [] (.ret (.ow 0 1 (t _ fun _=>((mW s).map aT).length))) [.row 1 (t _ fun _=>(mW s).map aT)]:=by
 have hp:=jW s
 refine bC ht (aE:=[]) Tryz.func111 (c:=_) rfl rfl (N:=22) rfl (rs:=_) rfl (n:=0) rfl rfl ?_
 cbv
 refine aS trivial (wo ht _ (by assumption)) trivial rfl rfl rfl (fun r0 bE=>?_)
 simp only [ht] at bE
 have hrl:(r0).length=(parts s).length:=by rw [bE]
 cbv
 obtain ⟨J1,fe⟩:∃J1:Nat→List (List D)×Int→Prop,∀n u i,J1 n (u,i)↔(∃k:Nat,i=k∧k+n=(parts s).length∧u=((mW s).take k).map aT):=⟨fun n v=>match v with|(u,i)=>(∃k:Nat,i=k∧k+n=(parts s).length∧u=((mW s).take k).map aT),fun _ _ _=>Iff.rfl⟩
 refine aZ ⟨[0,3,7,8],[(3,1)],[]⟩ (σ:=List (List D)×Int) (fun v=>[(3,.ow 0 1 (t _ fun _=>(v.1).length)),(8,.d (.int .i64 (t _ fun _=>v.2)))]) (fun v=>[(0,.row 1 (t _ fun _=>v.1))]) J1 ?_
 cbv
 refine aA ⟨(parts s).length,([],_),(fe _ _ _).2 ?_,by simp only [ht];rfl,?_⟩
 ·exact ⟨0,rfl,by simp,rfl⟩
 rintro n ⟨u,i⟩ hj
 replace hj:=(fe _ _ _).1 hj
 obtain ⟨k,rfl,j1,j4⟩:=hj
 cbv
 refine ai (fun h2=>?_) (fun h2=>?_)
 ·simp [ht,aa] at h2
  cbv
  refine aS trivial (wo ht _ (by assumption)) trivial rfl rfl rfl (fun r3 gH=>?_)
  simp only [ht] at gH
  have hrl:(r3).length=(parts s).length:=by rw [gH]
  cbv
  refine ⟨?_,?_⟩
  ·(simp only [ht];refine ⟨?_,fun r hr=>by obtain ⟨y,_,rfl⟩:=List.mem_map.1 hr;rfl⟩;rw [aC (by ((try simp only [aa] at*);omega))];simp only [bS];rw [List.length_map];omega)
  cbv
  (refine ay trivial (MS ht (l:=r3.take (k+1)) (by simp only [ht,gr];rw [aC (by ((try simp only [aa] at*);omega)),List.map_take];rfl) (by simp;omega) (by rw [gH];exact Nat.le_trans (DU s (k+1)) (by omega))) trivial rfl rfl (fun r4 dO=>?_);simp only [ht] at dO;rw [gH] at dO)
  cbv
  refine ⟨?_,?_⟩
  ·(simp only [ht];grind)
  cbv
  refine bf (_,_) (by simp only [ht,←List.length_append];rfl) (n-1) ?_ ((fe _ _ _).2 ?_)
  ·omega
  simp only [aa]
  exact ⟨k+1,aC (by ((try simp only [aa] at*);omega)),by ((try simp only [aa] at*);omega),by rw [DV (by omega),j4,←dO];simp⟩
 simp [ht,aa] at h2
 cbv
 refine Fb trivial rfl rfl rfl rfl ?_ ?_
 ·(simp [ht,j4,List.take_of_length_le (show (mW s).length≤k by rw [ic];omega)];done)
 (simp [ht,j4,List.take_of_length_le (show (mW s).length≤k by rw [ic];omega)];done)
theorem FA (ht:TT t) {es:List (List D)} {x:D} {row:List D} {i n c:Nat} (hn:n=es.length) (hi:i≤n) (hc:n≤c) (hc0:n=0→c=0) (aF:∀r∈es,r.length=1) (hrow:(x::row).length=1) (hs:n<1000000) {r:List (List D)} (hr:r=es.take i++(x::row)::es.drop i):
 FC 187 [.vw 0 1 0 n c true,bq (i:Int),SL [x::row]] [.row 1 es] (.ret (SL r)) [.dead]:=by
 obtain ⟨n1,CR⟩:∃n1,n1=n+1:=⟨_,rfl⟩
 obtain ⟨i1,hi1⟩:∃i1,i1=i+1:=⟨_,rfl⟩
 obtain ⟨ni,hni⟩:∃ni,ni=n-i:=⟨_,rfl⟩
 obtain ⟨ci,uH⟩:∃ci,ci=c-i:=⟨_,rfl⟩
 obtain ⟨zQ,Q6⟩:∃zQ,zQ=c-i1:=⟨_,rfl⟩
 obtain ⟨pR,uI⟩:∃pR,pR=n1-i:=⟨_,rfl⟩
 have hW:∀P:Prop,((IntKind.i64.wrap ((n:Int)+1)=(n1:Int))→(IntKind.i64.wrap ((n1:Int)-(i:Int))=(pR:Int))→(IntKind.i64.wrap ((i:Int)+1)=(i1:Int))→P)→P:=
  fun P h=>h (by rw [wrap64 (by omega) (by omega)];omega) (by rw [wrap64 (by omega) (by omega)];omega) (by rw [wrap64 (by omega) (by omega)];omega)
 have hrl:r.length=n1:=by rw [hr,List.length_append,List.length_cons,List.length_take,List.length_drop];omega
 have W4:n≠0→FC 212 [SL [x::row],.vw 0 1 i1 ni zQ true] [.row 1 es] (.ret (BL false)) [.row 1 es]:=fun h0=>
  ir KA Tryz.func212 rfl rfl rfl rfl (tS:=79) (tR:=4) rfl rfl (by intro h;rw [h] at hn;exact h0 hn)
 refine bC ht (aE:=[.row 1 es]) Tryz.func187 (c:=_) rfl rfl (N:=95) rfl (rs:=_) rfl (n:=1) rfl rfl ?_
 cbv
 refine bR (.vw 0 1 i ni ci true) [.row 1 es] ?_ ?_ rfl ?_
 ·simp [ht,dZ,bS];omega
 ·simp [ht,aX,aV,hni,uH]
 cbv
 refine qj (by simp [ht]) ?_
 cbv
 refine ai (fun h=>?_) (fun h=>?_)
 ·have hin:i=n:=by simp [ht,aa] at h;omega
  clear h
  cbv
  refine bR (.ow 1 1 n1) [.dead,.row 1 r] ?_ ?_ ?_ ?_
  ·simp only [ht]
   refine ⟨⟨hn,by simp;omega,?_⟩,rfl,hn,fun h=>⟨hc0 (by rw [hn,h];rfl),rfl⟩⟩
   intro r hr
   rcases List.mem_append.1 hr with hr|hr
   ·exact aF r hr
   simp at hr;subst hr;exact hrow
  ·simp [ht,CR,hn]
  ·simp only [ht];rw [hr]
   have:i=es.length:=by omega
   subst this;simp
  cbv
  refine an trivial ?_ rfl rfl rfl rfl
  simp only [ht];exact hrl.symm
 have hin:i<n:=by simp [ht,aa] at h;omega
 clear h
 have ya:r=(r.drop 0).take n1:=by rw [List.drop_zero,List.take_of_length_le (by omega)]
 cbv
 refine ai (fun h2=>?_) (fun h2=>?_)
 ·have W5:c=n:=by
   refine hW _ fun e1 e2 e3=>?_
   simp [ht,aa,e1] at h2;omega
  clear h2
  obtain ⟨L,hL⟩:∃L:List (List D),L=es.take i++List.replicate (es.length+1-i) [D.str []]:=⟨_,rfl⟩
  have JG:L.length=n1:=by rw [hL];simp;omega
  obtain ⟨L1,uJ⟩:∃L1,L1=wrote L i [x::row]:=⟨_,rfl⟩
  have mY:L1.length=n1:=by rw [uJ];simp [wrote,JG];omega
  have qA:r=wrote L1 i1 (es.drop i):=by rw [hi1,uJ,hL,wh (by omega),hr]
  cbv
  refine bR (.vw 0 1 0 i c true) [.row 1 es] ?_ ?_ rfl ?_
  ·simp [ht,dZ,bS];omega
  ·simp [ht,aX,aV]
  cbv
  refine bR (.vw 1 1 0 n1 n1 false) [.row 1 es,.row 1 L] ?_ ?_ ?_ ?_
  ·refine hW _ fun e1 e2 e3=>?_
   simp [ht,aa,e1,e2];omega
  ·refine hW _ fun e1 e2 e3=>?_
   simp [ht,aa,e1,e2];omega
  ·refine hW _ fun e1 e2 e3=>?_
   simp [ht,aa,e1,e2,hL];omega
  cbv
  refine bR (.vw 1 1 i pR pR false) [.row 1 es,.row 1 L] ?_ ?_ rfl ?_
  ·simp [ht,dZ,bS];omega
  ·simp [ht,aX,aV,uI]
  cbv
  refine bR (bq 1) [.row 1 es,.row 1 L1] ?_ ?_ ?_ ?_
  ·simp only [ht,fo]
   refine ⟨⟨by omega,?_⟩,?_⟩
   ·intro h;rw [h] at JG;simp at JG;omega
   intro r hr;have:=List.mem_of_mem_take hr;simp at this;rw [this];exact hrow
  ·simp [ht,aa];omega
  ·simp [ht,uJ,show min 1 pR=1 by omega]
  cbv
  refine bJ [false,false,false,false,false,false,false,false,true] (by kernel_rfl) (by kernel_rfl) ?_
  cbv
  repeat (refine gI (by (simp;done)) ?_)
  refine iX (.vw 1 1 i1 ni ni false) (fun _=>⟨?_,?_⟩) ?_
  ·refine hW _ fun e1 e2 e3=>?_
   simp [ht,aa,e3,dZ,bS];omega
  ·refine hW _ fun e1 e2 e3=>?_
   simp [ht,aa,e3,aX,aV];omega
  cbv
  repeat (refine gI (by (simp;done)) ?_)
  refine iX (.vw 0 1 i ni ci true) (fun _=>⟨?_,?_⟩) ?_
  ·simp [ht,dZ,bS];omega
  ·simp [ht,aX,aV,hni,uH]
  cbv
  refine bR (bq (ni:Nat)) [.row 1 es,.row 1 r,.bA] ?_ ?_ ?_ ?_
  ·simp only [ht,fo]
   refine ⟨by omega,⟨by omega,?_⟩,?_⟩
   ·intro h;rw [h] at mY;simp at mY;omega
   intro r hr;exact aF r (List.mem_of_mem_drop (List.mem_of_mem_take hr))
  ·simp [ht,aa]
  ·simp only [ht,qA]
   rw [List.take_of_length_le (by simp;omega)]
  cbv
  refine Bt [true] trivial ?_ rfl rfl rfl ?_
  ·simp only [ht];omega
  simp only [ht];rw [←ya]
 have W5:n<c:=by
  refine hW _ fun e1 e2 e3=>?_
  simp [ht,aa,e1] at h2;omega
 clear h2
 obtain ⟨L1,uJ⟩:∃L1,L1=wrote es i1 (es.drop i):=⟨_,rfl⟩
 have qA:r=wrote L1 i [x::row]:=by rw [uJ,hi1,Fs (by omega),hr]
 have mY:L1.length=n1:=by rw [uJ];simp [wrote];omega
 cbv
 refine bR (.vw 0 1 0 n1 c true) [.row 1 es] ?_ ?_ rfl ?_
 ·refine hW _ fun e1 e2 e3=>?_
  simp [ht,aa,e1,dZ,bS];omega
 ·refine hW _ fun e1 e2 e3=>?_
  simp [ht,aa,e1,aX,aV]
 cbv
 refine bR (.vw 0 1 i1 ni zQ true) [.row 1 es] ?_ ?_ rfl ?_
 ·refine hW _ fun e1 e2 e3=>?_
  simp [ht,aa,e3,dZ,bS];omega
 ·refine hW _ fun e1 e2 e3=>?_
  simp [ht,aa,e3,aX,aV];omega
 cbv
 refine dn trivial (W4 (by omega)) ?_
 cbv
 refine mS (by simp [ht]) ?_
 cbv
 refine bJ [false,false,false,false,false,false,false,false,true] (by kernel_rfl) (by kernel_rfl) ?_
 cbv
 repeat (refine gI (by (simp;done)) ?_)
 refine iX (.vw 0 1 i1 ni zQ true) (fun _=>⟨?_,?_⟩) ?_
 ·refine hW _ fun e1 e2 e3=>?_
  simp [ht,aa,e3,dZ,bS];omega
 ·refine hW _ fun e1 e2 e3=>?_
  simp [ht,aa,e3,aX,aV];omega
 cbv
 repeat (refine gI (by (simp;done)) ?_)
 refine iX (.vw 0 1 i pR ci true) (fun _=>⟨?_,?_⟩) ?_
 ·simp [ht,dZ,bS];omega
 ·simp [ht,aX,aV,uI,uH]
 cbv
 refine bR (bq (ni:Nat)) [.row 1 L1,.bA] ?_ ?_ ?_ ?_
 ·simp only [ht,fo]
  refine ⟨by omega,⟨by omega,?_⟩,?_⟩
  ·intro h;rw [h] at hn;simp at hn;omega
  intro r hr;exact aF r (List.mem_of_mem_drop (List.mem_of_mem_take hr))
 ·simp [ht,aa];omega
 ·simp only [ht,uJ]
  rw [List.take_of_length_le (by simp;omega)]
 cbv
 refine bR (.vw 0 1 i pR ci true) [.row 1 L1,.bA] ?_ ?_ rfl ?_
 ·simp [ht,dZ,bS];omega
 ·simp [ht,aX,aV,uI,uH]
 cbv
 refine bR (bq 1) [.row 1 r,.bA] ?_ ?_ ?_ ?_
 ·simp only [ht,fo]
  refine ⟨⟨by omega,?_⟩,?_⟩
  ·intro h;rw [h] at mY;simp at mY;omega
  intro r hr;have:=List.mem_of_mem_take hr;simp at this;rw [this];exact hrow
 ·simp [ht,aa];omega
 ·simp [ht,qA,show min 1 pR=1 by omega]
 cbv
 refine Bt [true] trivial ?_ rfl rfl rfl ?_
 ·simp only [ht];omega
 simp only [ht];rw [←ya]
theorem Ix (ht:TT t) {es:List (List D)} {x:D} {row:List D} {i n:Nat} (hn:n=es.length) (hi:i≤n) (aF:∀r∈es,r.length=1) (hrow:(x::row).length=1) (hs:n<1000000) {r:List (List D)} (hr:r=es.take i++(x::row)::es.drop i):
 FC 187 [.ow 0 1 n,bq (i:Int),SL [x::row]] [.row 1 es] (.ret (SL r)) [.dead]:=
 fJ fun c hc hc0=>FA ht hn hi hc hc0 aF hrow hs hr
theorem FB (ht:TT t) {l:List aD} {x:aD} {k:Nat} {i:Int} (hi:i=k) (hk:k≤l.length) (hl:l.length<1000000):
 FC 187 [.ow 0 1 (t _ fun _=>(l.map aT).length),bq i,.cl [[.str x]]] [.row 1 (t _ fun _=>l.map aT)] (.ret (SL (t _ fun _=>(l.take k++x::l.drop k).map aT))) [.dead]:=by
 simp only [ht];subst hi
 refine pO (args':=[.ow 0 1 (l.map aT).length,bq k,SL [aT x]]) ?_ (Ix ht (by simp) (by simpa using hk) ?_ rfl (by simpa using hl) (by simp))
 ·intro β w ok vs h
  simp only [aj] at h ⊢
  obtain ⟨u1,us1,rfl,h1,u2,PS,rfl,h2,u3,Xd,rfl,h3,h4⟩:=h
  exact ⟨u1,_,rfl,h1,u2,_,rfl,h2,u3,Xd,rfl,MF h3,h4⟩
 intro r hr;obtain ⟨y,_,rfl⟩:=List.mem_map.1 hr;rfl
theorem Iy (ht:TT t) (s:aD) (hs:s.length<1000000000000):FC 146 [ST s] [] (.ret (HX t (t _ fun _=>above s))) []:=by
 have hp:=jW s
 have hl:=ic s
 refine bC ht (aE:=[]) Tryz.func146 (c:=_) rfl rfl (N:=7) rfl (rs:=_) rfl (n:=0) rfl rfl ?_
 cbv
 refine qn trivial (MT ht s (by assumption)) trivial rfl (.inr rfl) ?_
 cbv
 refine cE [0] trivial rfl rfl (FB ht (l:=mW s) (x:=[]) (k:=0) rfl (by omega) (by omega)) (bK ?_)
 cbv
 refine an trivial trivial rfl rfl rfl ?_
 (simp [ht,above];done)
theorem wq (ht:TT t) (s:aD) (hs:s.length<1000000000000):FC 86 [ST s] [] (.ret (bY (t _ fun _=>named s))) []:=by
 refine bC ht (aE:=[]) Tryz.func86 (c:=_) rfl rfl (N:=10) rfl (rs:=_) rfl (n:=0) rfl rfl ?_
 cbv
 iterate 2 refine gI (by simp [ht]) ?_
 refine aM (fun g0=>⟨by simp [ht] at g0 ⊢;exact g0,trivial,BP ht _ _ (by assumption)⟩) rfl rfl (fun r1 cX=>?_)
 simp only [ht] at cX
 cbv
 refine pI (by simp [ht]) ?_
 refine an trivial trivial rfl rfl rfl ?_
 (simp [named, *];done)
theorem sV (ht:TT t) (s:aD) (hs:s.length<1000000000000):FC 87 [ST s] [] (.ret (tG (t _ fun _=>parent s))) []:=by
 have hp:=jW s
 have hl:=ic s
 obtain ⟨ps,hps⟩:∃p,p=parent s:=⟨_,rfl⟩
 refine bC ht (aE:=[]) Tryz.func87 (c:=_) rfl rfl (N:=13) rfl (rs:=_) rfl (n:=0) rfl rfl ?_
 cbv
 refine aS trivial (Iy ht _ (by assumption)) trivial rfl rfl rfl (fun r0 bE=>?_)
 simp only [ht] at bE
 have hla:(r0).length=(parts s).length+1:=by rw [bE];simp [above,ic]
 have hpx:(r0)[(r0).length-2]?=some ps:=by rw [hps,bE,parent,List.getD_eq_getElem?_getD,List.getElem?_eq_getElem (by rw [bE] at hla;omega)];rfl
 cbv
 (refine Bz ht (l:=r0) (cells:=aT) (cT:=dR t) (i:=r0.length-2) (x:=ps) (by simp only [ht];done) hpx (by simp only [ht,aa,List.length_map];rw [wrap64 (by omega) (by omega)];omega) (fun _=>rfl) (fun _=>rfl) ?_)
 cbv
 refine an trivial trivial rfl rfl rfl ?_
 (simp [ht,hps];done)
end Dem
end
section
open Go Dem Go.Proofs
namespace Dem
variable {t:Th}
def aR.aH (_:Th) (e:aR):List D:=[.str e.path,.int .u64 e.dc.a,.int .u64 e.dc.b,.int .u64 e.dc.c,.int .u64 e.dc.d,.int .u64 e.used.a,.int .u64 e.used.b,.int .u64 e.used.c,.int .u64 e.used.d]
def N6 (e:aR):AV:=.agg [ST e.path,az e.dc.a,az e.dc.b,az e.dc.c,az e.dc.d,az e.used.a,az e.used.b,az e.used.c,az e.used.d]
def MU (r:aR×Bool):AV:=.dF [N6 r.1,BL r.2]
def Ro (t:Th) (l:List aR):AV:=SL (t _ fun _=>l.map aR.cells)
def FE (t:Th) (r:List aR×Int):AV:=.dF [Ro t r.1,bq r.2]
theorem N7 (ht:TT t) (q:aD) {l:List (aR)} {es:List (List D)} (aF:es=l.map aR.cells) (f:Nat) (p:aR→Bool) (hl:l.length<9223372036854775807)
 (hf:∀x∈l,FC f [.agg [ST x.path,az x.dc.a,az x.dc.b,az x.dc.c,az x.dc.d,az x.used.a,az x.used.b,az x.used.c,az x.used.d],.ptr 0 0] [.var [ST q]] (.ret (BL (p x))) [.var [ST q]]) {r:Int} (hr:r=idxOf p l):FC 140 [SL es,.fn f [.ptr 0 0]] [.var [ST q]] (.ret (bq r)) [.var [ST q]]:=by
 have hel:es.length=l.length:=by rw [aF,List.length_map]
 obtain ⟨J,hJ⟩:∃J:Nat→Nat→Prop,∀n v,J n v↔(v+n=l.length∧∀i<v,∀x,l[i]?=some x→p x=false):=⟨fun n v=>v+n=l.length∧∀i<v,∀x,l[i]?=some x→p x=false,fun _ _=>Iff.rfl⟩
 refine bC ht (aE:=[.var [ST q]]) Tryz.func140 (c:=_) rfl rfl (N:=19) rfl (rs:=_) rfl (n:=1) rfl rfl ?_
 cbv
 refine aZ ⟨[0,1,7,8],[],[]⟩ (σ:=Nat) (fun k=>[(8,bq (t _ fun _=>(k:Int)))]) (fun _=>[]) J ?_
 cbv
 refine aA ⟨l.length,0,(hJ _ _).2 ⟨by omega,by intro i hi;simp at hi⟩,by simp only [ht];rfl,?_⟩
 rintro n k hj
 obtain ⟨h2,h3⟩:=(hJ _ _).1 hj
 clear hj
 cbv
 refine ai (fun h=>?_) (fun h=>?_)
 ·simp only [ht,aa,decide_eq_true_eq] at h
  have hk:k<l.length:=by omega
  obtain ⟨x,hx⟩:∃x,l[k]?=some x:=⟨l[k],by simp⟩
  have og:x∈l:=List.mem_of_getElem? hx
  have gY:=hf x og
  obtain ⟨px,hpx⟩:∃b,b=p x:=⟨_,rfl⟩
  rw [←hpx] at gY
  obtain ⟨nm,⟨a,b,c,d⟩,⟨e,g,u,v⟩⟩:=x
  cbv
  refine gS [.str nm,.int .u64 a,.int .u64 b,.int .u64 c,.int .u64 d,.int .u64 e,.int .u64 g,.int .u64 u,.int .u64 v] ?_ ?_ ?_
  ·simp only [ht,aa];refine ⟨by omega,h,?_⟩;rw [aF];intro r hr;obtain ⟨y,_,rfl⟩:=List.mem_map.1 hr;rfl
  ·simp [ht,aa,aF,hx]
  cbv
  refine dn trivial gY ?_
  cbv
  refine ai (fun hb=>?_) (fun hb=>?_)
  ·cbv
   refine an trivial trivial rfl rfl rfl ?_
   have e:=cN hx (hpx▸hb) h3
   simp only [ht,aa,hr,idxOf,e]
  cbv
  refine aA ⟨n-1,k+1,⟨by omega,(hJ _ _).2 ⟨by omega,?_⟩⟩,?_⟩
  ·intro i hi y hy
   by_cases hik:i<k
   ·exact h3 i hik y hy
   have:i=k:=by omega
   subst this;rw [hx] at hy;cases hy;rw [←hpx];exact hb
  simp only [ht,aa,aC (show k<9223372036854775807 by omega)];rfl
 simp only [ht,aa,decide_eq_false_iff_not] at h
 have hk:¬k<l.length:=by omega
 clear h
 cbv
 refine an trivial trivial rfl rfl rfl ?_
 rw [hr,idxOf,cS]
 intro i y hy
 have:i<l.length:=by
  rcases Nat.lt_or_ge i l.length with h'|h';· exact h'
  simp [List.getElem?_eq_none h'] at hy
 exact h3 i (by omega) y hy
theorem N8 (ht:TT t) (q:aD) (x:aR):FC 141 [.agg [ST x.path,az x.dc.a,az x.dc.b,az x.dc.c,az x.dc.d,az x.used.a,az x.used.b,az x.used.c,az x.used.d],.ptr 0 0] [.var [ST q]] (.ret (BL (decide (x.path=q)))) [.var [ST q]]:=by
 obtain ⟨nm,⟨a,b,c,d⟩,⟨e,g,u,v⟩⟩:=x
 refine bC ht (aE:=[.var [ST q]]) Tryz.func141 (c:=_) rfl rfl (N:=8) rfl (rs:=_) rfl (n:=1) rfl rfl ?_
 cbv
 refine an trivial trivial rfl rfl rfl ?_
 simp [ht]
theorem kj (ht:TT t) (q:aD) {l:List aR} {es:List (List D)} (aF:es=l.map aR.cells) (hl:l.length<1000000000):
 FC 81 [SL es,ST q] [] (.ret (kR (t _ fun _=>bM l q))) []:=by
 obtain ⟨r,hr⟩:∃r,r=bM l q:=⟨_,rfl⟩
 refine bC ht (aE:=[]) Tryz.func81 (c:=_) rfl rfl (N:=8) rfl (rs:=_) rfl (n:=0) rfl rfl ?_
 cbv
 refine dn trivial (N7 ht q aF 141 (fun x=>decide (x.path=q)) (by omega) (fun x _=>N8 ht q x) (r:=r) hr) ?_
 cbv
 exact an trivial trivial rfl rfl rfl (by simp [ht,hr])
theorem FF {l:List aR} {q:aD} {r:Int} (h:r=bM l q):(r=-1∧lA l q=(aR.zero,false))∨∃(k:Nat) (x:aR),r=k∧k<l.length∧l[k]?=some x∧lA l q=(x,true):=by
 rcases cU (p:=fun e:aR=>decide (e.path=q)) (l:=l) (r:=r) h with ⟨e1,e2,e3⟩|⟨i,x,hi,hil,e1,e2,e3,e4⟩
 ·exact .inl ⟨e1,by simp [lA,e3]⟩
 exact .inr ⟨i,x,hi,hil,e1,by simp [lA,e4]⟩
theorem BQ (ht:TT t) (q:aD) {l:List aR} {es:List (List D)} (aF:es=l.map aR.cells) (hl:l.length<1000000000):
 FC 28 [SL es,ST q] [] (.ret (MU (t _ fun _=>lA l q))) []:=by
 refine bC ht (aE:=[]) Tryz.func28 (c:=_) rfl rfl (N:=17) rfl (rs:=_) rfl (n:=0) rfl rfl ?_
 cbv
 have ar:es.length=l.length:=by rw [aF,List.length_map]
 refine ay trivial (kj ht _ (by assumption) (by assumption)) trivial rfl rfl (fun r0 bE=>?_)
 simp only [ht] at bE
 have ec:=FF bE
 clear bE
 rcases ec with ⟨e1,e2⟩|⟨i,x,hi,hil,e1,e2⟩
 ·cbv
  refine ai (fun h1=>?_) (fun h1=>?_)
  ·simp [ht] at h1
   cbv
   refine an trivial trivial rfl rfl rfl ?_
   (simp [ht,e2,aR.zero,bz.zero];done)
  simp [ht] at h1
  omega
 cbv
 refine ai (fun h2=>?_) (fun h2=>?_)
 ·simp [ht] at h2
  (simp only [aa] at*;omega)
 simp [ht] at h2
 cbv
 refine Bz ht aF (cT:=aR.aH t) e1 (by assumption) (fun _=>rfl) (fun _=>rfl) ?_
 cbv
 refine an trivial trivial rfl rfl rfl ?_
 (simp [ht,e2];done)
theorem Uq (ht:TT t) (a b c d:Int):FC 85 [V4 a b c d] [] (.ret (Ro t (t _ fun _=>[⟨[],⟨a,b,c,d⟩,bz.zero⟩]))) []:=by
 refine bC ht (aE:=[]) Tryz.func85 (c:=_) rfl rfl (N:=6) rfl (rs:=_) rfl (n:=0) rfl rfl ?_
 cbv
 refine an trivial trivial rfl rfl rfl ?_
 (simp [ht,bz.zero];done)
end Dem
end
section
open Go Dem Go.Proofs
namespace Dem
variable {t:Th}
theorem K6 (ht:TT t) {es:List (List D)} (aF:∀r∈es,r.length=9) (hs:es.length*80≤140737488355328) {m:Nat} (hm:m=es.length):
 FC 89 [SL es] [] (.ret (.ow 0 9 m)) [.row 9 es]:=by
 refine bC ht (aE:=[]) Tryz.func89 (c:=_) rfl rfl (N:=8) rfl (rs:=_) rfl (n:=0) rfl rfl ?_
 cbv
 refine ⟨fun b hb=>?_⟩
 simp only [ht] at hb
 cbv
 refine ai (fun h=>?_) (fun h=>?_)
 ·have he:=hb h
  subst he
  cbv
  exact Kz trivial rfl rfl (by rw [hm];rfl) rfl
 clear hb h
 cbv
 refine ⟨?_,?_⟩
 ·simp only [ht];simp;exact ⟨hs,aF⟩
 refine Fb trivial rfl rfl rfl rfl ?_ ?_
 ·simp only [ht];rw [hm];simp
 simp only [ht];rfl
theorem FG (ht:TT t) {es:List (List D)} {x:D} {row:List D} {i n c:Nat} (hn:n=es.length) (hi:i≤n) (hc:n≤c) (hc0:n=0→c=0) (aF:∀r∈es,r.length=9) (hrow:(x::row).length=9) (hs:n<1000000) {r:List (List D)} (hr:r=es.take i++(x::row)::es.drop i):
 FC 92 [.vw 0 9 0 n c true,bq (i:Int),SL [x::row]] [.row 9 es] (.ret (SL r)) [.dead]:=by
 obtain ⟨n1,CR⟩:∃n1,n1=n+1:=⟨_,rfl⟩
 obtain ⟨i1,hi1⟩:∃i1,i1=i+1:=⟨_,rfl⟩
 obtain ⟨ni,hni⟩:∃ni,ni=n-i:=⟨_,rfl⟩
 obtain ⟨ci,uH⟩:∃ci,ci=c-i:=⟨_,rfl⟩
 obtain ⟨zQ,Q6⟩:∃zQ,zQ=c-i1:=⟨_,rfl⟩
 obtain ⟨pR,uI⟩:∃pR,pR=n1-i:=⟨_,rfl⟩
 have hW:∀P:Prop,((IntKind.i64.wrap ((n:Int)+1)=(n1:Int))→(IntKind.i64.wrap ((n1:Int)-(i:Int))=(pR:Int))→(IntKind.i64.wrap ((i:Int)+1)=(i1:Int))→P)→P:=
  fun P h=>h (by rw [wrap64 (by omega) (by omega)];omega) (by rw [wrap64 (by omega) (by omega)];omega) (by rw [wrap64 (by omega) (by omega)];omega)
 have hrl:r.length=n1:=by rw [hr,List.length_append,List.length_cons,List.length_take,List.length_drop];omega
 have W4:n≠0→FC 148 [SL [x::row],.vw 0 9 i1 ni zQ true] [.row 9 es] (.ret (BL false)) [.row 9 es]:=fun h0=>
  ir KA Tryz.func148 rfl rfl rfl rfl (tS:=38) (tR:=4) rfl rfl (by intro h;rw [h] at hn;exact h0 hn)
 refine bC ht (aE:=[.row 9 es]) Tryz.func92 (c:=_) rfl rfl (N:=95) rfl (rs:=_) rfl (n:=1) rfl rfl ?_
 cbv
 refine bR (.vw 0 9 i ni ci true) [.row 9 es] ?_ ?_ rfl ?_
 ·simp [ht,dZ,bS];omega
 ·simp [ht,aX,aV,hni,uH]
 cbv
 refine qj (by simp [ht]) ?_
 cbv
 refine ai (fun h=>?_) (fun h=>?_)
 ·have hin:i=n:=by simp [ht,aa] at h;omega
  clear h
  cbv
  refine bR (.ow 1 9 n1) [.dead,.row 9 r] ?_ ?_ ?_ ?_
  ·simp only [ht]
   refine ⟨⟨hn,by simp;omega,?_⟩,rfl,hn,fun h=>⟨hc0 (by rw [hn,h];rfl),rfl⟩⟩
   intro r hr
   rcases List.mem_append.1 hr with hr|hr
   ·exact aF r hr
   simp at hr;subst hr;exact hrow
  ·simp [ht,CR,hn]
  ·simp only [ht];rw [hr]
   have:i=es.length:=by omega
   subst this;simp
  cbv
  refine an trivial ?_ rfl rfl rfl rfl
  simp only [ht];exact hrl.symm
 have hin:i<n:=by simp [ht,aa] at h;omega
 clear h
 have ya:r=(r.drop 0).take n1:=by rw [List.drop_zero,List.take_of_length_le (by omega)]
 cbv
 refine ai (fun h2=>?_) (fun h2=>?_)
 ·have W5:c=n:=by
   refine hW _ fun e1 e2 e3=>?_
   simp [ht,aa,e1] at h2;omega
  clear h2
  obtain ⟨L,hL⟩:∃L:List (List D),L=es.take i++List.replicate (es.length+1-i) [D.str [],D.int IntKind.u64 0,D.int IntKind.u64 0,D.int IntKind.u64 0,D.int IntKind.u64 0,D.int IntKind.u64 0,D.int IntKind.u64 0,D.int IntKind.u64 0,D.int IntKind.u64 0]:=⟨_,rfl⟩
  have JG:L.length=n1:=by rw [hL];simp;omega
  obtain ⟨L1,uJ⟩:∃L1,L1=wrote L i [x::row]:=⟨_,rfl⟩
  have mY:L1.length=n1:=by rw [uJ];simp [wrote,JG];omega
  have qA:r=wrote L1 i1 (es.drop i):=by rw [hi1,uJ,hL,wh (by omega),hr]
  cbv
  refine bR (.vw 0 9 0 i c true) [.row 9 es] ?_ ?_ rfl ?_
  ·simp [ht,dZ,bS];omega
  ·simp [ht,aX,aV]
  cbv
  refine bR (.vw 1 9 0 n1 n1 false) [.row 9 es,.row 9 L] ?_ ?_ ?_ ?_
  ·refine hW _ fun e1 e2 e3=>?_
   simp [ht,aa,e1,e2];omega
  ·refine hW _ fun e1 e2 e3=>?_
   simp [ht,aa,e1,e2];omega
  ·refine hW _ fun e1 e2 e3=>?_
   simp [ht,aa,e1,e2,hL];omega
  cbv
  refine bR (.vw 1 9 i pR pR false) [.row 9 es,.row 9 L] ?_ ?_ rfl ?_
  ·simp [ht,dZ,bS];omega
  ·simp [ht,aX,aV,uI]
  cbv
  refine bR (bq 1) [.row 9 es,.row 9 L1] ?_ ?_ ?_ ?_
  ·simp only [ht,fo]
   refine ⟨⟨by omega,?_⟩,?_⟩
   ·intro h;rw [h] at JG;simp at JG;omega
   intro r hr;have:=List.mem_of_mem_take hr;simp at this;rw [this];exact hrow
  ·simp [ht,aa];omega
  ·simp [ht,uJ,show min 1 pR=1 by omega]
  cbv
  refine bJ [false,false,false,false,false,false,false,false,true] (by kernel_rfl) (by kernel_rfl) ?_
  cbv
  repeat (refine gI (by (simp;done)) ?_)
  refine iX (.vw 1 9 i1 ni ni false) (fun _=>⟨?_,?_⟩) ?_
  ·refine hW _ fun e1 e2 e3=>?_
   simp [ht,aa,e3,dZ,bS];omega
  ·refine hW _ fun e1 e2 e3=>?_
   simp [ht,aa,e3,aX,aV];omega
  cbv
  repeat (refine gI (by (simp;done)) ?_)
  refine iX (.vw 0 9 i ni ci true) (fun _=>⟨?_,?_⟩) ?_
  ·simp [ht,dZ,bS];omega
  ·simp [ht,aX,aV,hni,uH]
  cbv
  refine bR (bq (ni:Nat)) [.row 9 es,.row 9 r,.bA] ?_ ?_ ?_ ?_
  ·simp only [ht,fo]
   refine ⟨by omega,⟨by omega,?_⟩,?_⟩
   ·intro h;rw [h] at mY;simp at mY;omega
   intro r hr;exact aF r (List.mem_of_mem_drop (List.mem_of_mem_take hr))
  ·simp [ht,aa]
  ·simp only [ht,qA]
   rw [List.take_of_length_le (by simp;omega)]
  cbv
  refine Bt [true] trivial ?_ rfl rfl rfl ?_
  ·simp only [ht];omega
  simp only [ht];rw [←ya]
 have W5:n<c:=by
  refine hW _ fun e1 e2 e3=>?_
  simp [ht,aa,e1] at h2;omega
 clear h2
 obtain ⟨L1,uJ⟩:∃L1,L1=wrote es i1 (es.drop i):=⟨_,rfl⟩
 have qA:r=wrote L1 i [x::row]:=by rw [uJ,hi1,Fs (by omega),hr]
 have mY:L1.length=n1:=by rw [uJ];simp [wrote];omega
 cbv
 refine bR (.vw 0 9 0 n1 c true) [.row 9 es] ?_ ?_ rfl ?_
 ·refine hW _ fun e1 e2 e3=>?_
  simp [ht,aa,e1,dZ,bS];omega
 ·refine hW _ fun e1 e2 e3=>?_
  simp [ht,aa,e1,aX,aV]
 cbv
 refine bR (.vw 0 9 i1 ni zQ true) [.row 9 es] ?_ ?_ rfl ?_
 ·refine hW _ fun e1 e2 e3=>?_
  simp [ht,aa,e3,dZ,bS];omega
 ·refine hW _ fun e1 e2 e3=>?_
  simp [ht,aa,e3,aX,aV];omega
 cbv
 refine dn trivial (W4 (by omega)) ?_
 cbv
 refine mS (by simp [ht]) ?_
 cbv
 refine bJ [false,false,false,false,false,false,false,false,true] (by kernel_rfl) (by kernel_rfl) ?_
 cbv
 repeat (refine gI (by (simp;done)) ?_)
 refine iX (.vw 0 9 i1 ni zQ true) (fun _=>⟨?_,?_⟩) ?_
 ·refine hW _ fun e1 e2 e3=>?_
  simp [ht,aa,e3,dZ,bS];omega
 ·refine hW _ fun e1 e2 e3=>?_
  simp [ht,aa,e3,aX,aV];omega
 cbv
 repeat (refine gI (by (simp;done)) ?_)
 refine iX (.vw 0 9 i pR ci true) (fun _=>⟨?_,?_⟩) ?_
 ·simp [ht,dZ,bS];omega
 ·simp [ht,aX,aV,uI,uH]
 cbv
 refine bR (bq (ni:Nat)) [.row 9 L1,.bA] ?_ ?_ ?_ ?_
 ·simp only [ht,fo]
  refine ⟨by omega,⟨by omega,?_⟩,?_⟩
  ·intro h;rw [h] at hn;simp at hn;omega
  intro r hr;exact aF r (List.mem_of_mem_drop (List.mem_of_mem_take hr))
 ·simp [ht,aa];omega
 ·simp only [ht,uJ]
  rw [List.take_of_length_le (by simp;omega)]
 cbv
 refine bR (.vw 0 9 i pR ci true) [.row 9 L1,.bA] ?_ ?_ rfl ?_
 ·simp [ht,dZ,bS];omega
 ·simp [ht,aX,aV,uI,uH]
 cbv
 refine bR (bq 1) [.row 9 r,.bA] ?_ ?_ ?_ ?_
 ·simp only [ht,fo]
  refine ⟨⟨by omega,?_⟩,?_⟩
  ·intro h;rw [h] at mY;simp at mY;omega
  intro r hr;have:=List.mem_of_mem_take hr;simp at this;rw [this];exact hrow
 ·simp [ht,aa];omega
 ·simp [ht,qA,show min 1 pR=1 by omega]
 cbv
 refine Bt [true] trivial ?_ rfl rfl rfl ?_
 ·simp only [ht];omega
 simp only [ht];rw [←ya]
theorem Iz (ht:TT t) {es:List (List D)} {x:D} {row:List D} {i n:Nat} (hn:n=es.length) (hi:i≤n) (aF:∀r∈es,r.length=9) (hrow:(x::row).length=9) (hs:n<1000000) {r:List (List D)} (hr:r=es.take i++(x::row)::es.drop i):
 FC 92 [.ow 0 9 n,bq (i:Int),SL [x::row]] [.row 9 es] (.ret (SL r)) [.dead]:=
 fJ fun c hc hc0=>FG ht hn hi hc hc0 aF hrow hs hr
theorem Rp (ht:TT t) (q:aD) {l:List (aR)} {es:List (List D)} (aF:es=l.map aR.cells) (f:Nat) (p:aR→Bool) (hl:l.length<9223372036854775807)
 (hf:∀x∈l,FC f [.agg [ST x.path,az x.dc.a,az x.dc.b,az x.dc.c,az x.dc.d,az x.used.a,az x.used.b,az x.used.c,az x.used.d],.ptr 0 0] [.var [ST q]] (.ret (BL (p x))) [.var [ST q]]) {r:Int} (hr:r=idxOf p l):FC 90 [SL es,.fn f [.ptr 0 0]] [.var [ST q]] (.ret (bq r)) [.var [ST q]]:=by
 have hel:es.length=l.length:=by rw [aF,List.length_map]
 obtain ⟨J,hJ⟩:∃J:Nat→Nat→Prop,∀n v,J n v↔(v+n=l.length∧∀i<v,∀x,l[i]?=some x→p x=false):=⟨fun n v=>v+n=l.length∧∀i<v,∀x,l[i]?=some x→p x=false,fun _ _=>Iff.rfl⟩
 refine bC ht (aE:=[.var [ST q]]) Tryz.func90 (c:=_) rfl rfl (N:=19) rfl (rs:=_) rfl (n:=1) rfl rfl ?_
 cbv
 refine aZ ⟨[0,1,7,8],[],[]⟩ (σ:=Nat) (fun k=>[(8,bq (t _ fun _=>(k:Int)))]) (fun _=>[]) J ?_
 cbv
 refine aA ⟨l.length,0,(hJ _ _).2 ⟨by omega,by intro i hi;simp at hi⟩,by simp only [ht];rfl,?_⟩
 rintro n k hj
 obtain ⟨h2,h3⟩:=(hJ _ _).1 hj
 clear hj
 cbv
 refine ai (fun h=>?_) (fun h=>?_)
 ·simp only [ht,aa,decide_eq_true_eq] at h
  have hk:k<l.length:=by omega
  obtain ⟨x,hx⟩:∃x,l[k]?=some x:=⟨l[k],by simp⟩
  have og:x∈l:=List.mem_of_getElem? hx
  have gY:=hf x og
  obtain ⟨px,hpx⟩:∃b,b=p x:=⟨_,rfl⟩
  rw [←hpx] at gY
  obtain ⟨nm,⟨a,b,c,d⟩,⟨e,g,u,v⟩⟩:=x
  cbv
  refine gS [.str nm,.int .u64 a,.int .u64 b,.int .u64 c,.int .u64 d,.int .u64 e,.int .u64 g,.int .u64 u,.int .u64 v] ?_ ?_ ?_
  ·simp only [ht,aa];refine ⟨by omega,h,?_⟩;rw [aF];intro r hr;obtain ⟨y,_,rfl⟩:=List.mem_map.1 hr;rfl
  ·simp [ht,aa,aF,hx]
  cbv
  refine dn trivial gY ?_
  cbv
  refine ai (fun hb=>?_) (fun hb=>?_)
  ·cbv
   refine an trivial trivial rfl rfl rfl ?_
   have e:=cN hx (hpx▸hb) h3
   simp only [ht,aa,hr,idxOf,e]
  cbv
  refine aA ⟨n-1,k+1,⟨by omega,(hJ _ _).2 ⟨by omega,?_⟩⟩,?_⟩
  ·intro i hi y hy
   by_cases hik:i<k
   ·exact h3 i hik y hy
   have:i=k:=by omega
   subst this;rw [hx] at hy;cases hy;rw [←hpx];exact hb
  simp only [ht,aa,aC (show k<9223372036854775807 by omega)];rfl
 simp only [ht,aa,decide_eq_false_iff_not] at h
 have hk:¬k<l.length:=by omega
 clear h
 cbv
 refine an trivial trivial rfl rfl rfl ?_
 rw [hr,idxOf,cS]
 intro i y hy
 have:i<l.length:=by
  rcases Nat.lt_or_ge i l.length with h'|h';· exact h'
  simp [List.getElem?_eq_none h'] at hy
 exact h3 i (by omega) y hy
theorem Xi (ht:TT t) (q:aD) (x:aR) {r:Bool} (hr:r=!Op.bytesLess x.path q):FC 91 [.agg [ST x.path,az x.dc.a,az x.dc.b,az x.dc.c,az x.dc.d,az x.used.a,az x.used.b,az x.used.c,az x.used.d],.ptr 0 0] [.var [ST q]] (.ret (BL r)) [.var [ST q]]:=by
 obtain ⟨nm,⟨a,b,c,d⟩,⟨e,g,u,v⟩⟩:=x
 refine bC ht (aE:=[.var [ST q]]) Tryz.func91 (c:=_) rfl rfl (N:=8) rfl (rs:=_) rfl (n:=1) rfl rfl ?_
 cbv
 refine an trivial trivial rfl rfl rfl ?_
 simp only [ht,hr]
theorem zk (ht:TT t) {l:List aR} {es:List (List D)} (aF:es=l.map aR.cells) (hs:l.length<1000000000):
 FC 89 [SL es] [] (.ret (.ow 0 9 (t _ fun _=>(l.map aR.cells).length))) [.row 9 (t _ fun _=>l.map aR.cells)]:=by
 simp only [ht];subst aF
 refine K6 ht ?_ ?_ (by simp)
 ·intro r hr;obtain ⟨y,_,rfl⟩:=List.mem_map.1 hr;rfl
 simp;omega
theorem wu (ht:TT t) {l:List aR} {x:aR} {k:Nat} {i:Int} (hi:i=k) (hk:k≤l.length) (hl:l.length<1000000):
 FC 92 [.ow 0 9 (t _ fun _=>(l.map aR.cells).length),bq i,.cl [aR.cells x]] [.row 9 (t _ fun _=>l.map aR.cells)] (.ret (SL (t _ fun _=>(l.take k++x::l.drop k).map aR.cells))) [.dead]:=by
 simp only [ht];subst hi
 refine pO (args':=[.ow 0 9 (l.map aR.cells).length,bq k,SL [aR.cells x]]) ?_ (Iz ht (by simp) (by simpa using hk) ?_ rfl (by simpa using hl) (by simp))
 ·intro β w ok vs h
  simp only [aj] at h ⊢
  obtain ⟨u1,us1,rfl,h1,u2,PS,rfl,h2,u3,Xd,rfl,h3,h4⟩:=h
  exact ⟨u1,_,rfl,h1,u2,_,rfl,h2,u3,Xd,rfl,MF h3,h4⟩
 intro r hr;obtain ⟨y,_,rfl⟩:=List.mem_map.1 hr;rfl
end Dem
end
