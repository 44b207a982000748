/- Parts of a proof, joined. -/
import Derived.Test.YtihohjnkkalgiaaGreatDoorP16
import Derived.Shelf.Strings.OnBuilder
import Derived.Test.YtihohjnkkalgiaaGreatDoorProg
import Derived.Lib.Mul64
set_option linter.all false
set_option maxRecDepth 100000
set_option maxHeartbeats 4000000
section
open Go Dem Go.Proofs
namespace Dem
variable {t:Th}
theorem E1 (ht:TT t) (s:aQ) {z:Int} (hz:z=47):FC 262 [ST s,.d (.int .u8 z)] [] (.ret (fQ (t _ fun _=>(s.count 47:Nat)))) []:=by
 subst hz
 refine VI Tryz.func262 (by kernel_rfl) (by kernel_rfl) (by kernel_rfl) (e:=Extern.BytealgCount.count) (by kernel_rfl) ?_
 intro β w vs ok h
 simp only [ak,aj,aF] at h
 obtain ⟨_,_,rfl,rfl,_,_,rfl,rfl,rfl⟩:=h
 refine ⟨_,Lib.run_countString _ _ _,?_⟩
 simp [fQ,aj,aF,Lib.countByte,ht]
theorem wI (ht:TT t) (s:aQ) {z:Int} (hz:z=47):FC 269 [ST s,.d (.int .u8 z)] [] (.ret (fQ (t _ fun _=>Lib.indexByte s 47))) []:=by
 subst hz
 refine VI Tryz.func269 (by kernel_rfl) (by kernel_rfl) (by kernel_rfl) (e:=Extern.BytealgIndexByte.indexByte) (by kernel_rfl) ?_
 intro β w vs ok h
 simp only [ak,aj,aF] at h
 obtain ⟨_,_,rfl,rfl,_,_,rfl,rfl,rfl⟩:=h
 refine ⟨_,Lib.run_indexByteString _ _ _,?_⟩
 simp [fQ,aj,aF,ht]
theorem M7 (ht:TT t) (s:aQ):FC 256 [ST s,ST [47]] [] (.ret (fQ (t _ fun _=>(s.count 47:Nat)))) []:=by
 refine bL ht (aI:=[]) Tryz.func256 rfl rfl (N:=34) rfl rfl (n:=0) rfl rfl ?_
 cbv
 refine an (fun h0=>?_) (fun h0=>?_)
 ·simp [ht] at h0
 simp [ht] at h0
 cbv
 refine an (fun h1=>?_) (fun h1=>?_)
 ·simp [ht] at h1
  cbv
  refine ⟨?_,?_⟩
  ·(simp [ht];done)
  cbv
  refine aZ trv (E1 ht _ (jY ht rfl)) trv rfl rfl (fun r2 fh=>?_)
  simp only [ht] at fh
  cbv
  refine ax trv trv rfl rfl rfl ?_
  (simp [*];done)
 simp [ht] at h1
theorem Cy (ht:TT t) (s:aQ) {z:Int} (hz:z=47):FC 265 [ST s,.d (.int .u8 z)] [] (.ret (fQ (t _ fun _=>Lib.indexByte s 47))) []:=by
 refine bL ht (aI:=[]) Tryz.func265 rfl rfl (N:=8) rfl rfl (n:=0) rfl rfl ?_
 cbv
 refine aZ trv (wI ht _ ‹_›) trv rfl rfl (fun r0 cF=>?_)
 simp only [ht] at cF
 cbv
 refine ax trv trv rfl rfl rfl ?_
 (simp [*];done)
theorem G1 (ht:TT t) (s:aQ):FC 263 [ST s,ST [47]] [] (.ret (fQ (t _ fun _=>Lib.indexByte s 47))) []:=by
 refine bL ht (aI:=[]) Tryz.func263 rfl rfl (N:=143) rfl rfl (n:=0) rfl rfl ?_
 cbv
 iterate 3 refine gI (by simp [ht]) ?_
 refine pI (by simp [ht]) ?_
 refine an (fun h0=>?_) (fun h0=>?_)
 ·simp [ht] at h0
  cbv
  refine ax trv trv rfl rfl rfl ?_
  (subst h0;(try simp only [ht]);rfl)
 simp [ht] at h0
 cbv
 refine an (fun h1=>?_) (fun h1=>?_)
 ·simp [ht] at h1
  cbv
  refine ⟨?_,?_⟩
  ·(simp [ht];done)
  cbv
  refine aZ trv (Cy ht _ (jY ht rfl)) trv rfl rfl (fun r2 fh=>?_)
  simp only [ht] at fh
  cbv
  refine ax trv trv rfl rfl rfl ?_
  (simp [*];done)
 simp [ht] at h1
theorem M8 (ht:TT t) (s:aQ):FC 257 [ST s,ST [47]] [] (.ret (fQ (t _ fun _=>Lib.indexByte s 47))) []:=by
 refine bL ht (aI:=[]) Tryz.func257 rfl rfl (N:=8) rfl rfl (n:=0) rfl rfl ?_
 cbv
 refine aZ trv (G1 ht _) trv rfl rfl (fun r0 cF=>?_)
 simp only [ht] at cF
 cbv
 refine ax trv trv rfl rfl rfl ?_
 (simp [*];done)
theorem Sg {pre:List aQ} {m k:Nat} {x:aQ} {u:List (List D)} (h:pre.length=k) (hk:k≤m) (hu:u=(pre++List.replicate (m+1-k) []).map bg):
 u.set k (be (u.getD k []) 0 [D.str x])=((pre++[x])++List.replicate (m-k) []).map bg:=by
 obtain ⟨d,rfl⟩:∃d,m=k+d:=⟨m-k,by omega⟩
 have e:k+d+1-k=d+1:=by omega
 rw [hu,e,Nat.add_sub_cancel_left,List.replicate_succ]
 simp [be,←h,bg]
theorem M9 {pre:List aQ} {m k:Nat} {x:aQ} {V:List (List D)} (hV:V=((pre++[x])++List.replicate (m-k) []).map bg) (h:pre.length=k) (hk:k≤m) (hm:m<1000000000001):
 m+1=V.length∧(bJ V.length none (some (IntKind.i64.wrap ((k:Int)+1)))∧∀r∈V,r.length=1)∧gq V none (some (IntKind.i64.wrap ((k:Int)+1)))=(pre++[x]).map bg:=by
 have e:IntKind.i64.wrap ((k:Int)+1)=((k+1:Nat):Int):=by rw [wrap64 (by omega) (by omega)];omega
 have hl:V.length=m+1:=by rw [hV];simp [h];omega
 refine ⟨hl.symm,⟨?_,?_⟩,?_⟩
 ·rw [e,hl];simp only [bJ];omega
 ·intro r hr;rw [hV] at hr;obtain ⟨y,_,rfl⟩:=List.mem_map.1 hr;rfl
 rw [e,hV];simp only [gq,Int.toNat_natCast];rw [List.map_append,List.take_append_of_le_length (by simp [h]),List.take_of_length_le (by simp [h])]
theorem E2 (ht:TT t) (s:aQ) (hs:s.length<1000000000000):FC 246 [ST s,ST [47],bG 0,bG (-1)] [] (.ret (ED t (t _ fun _=>c5 47 s))) []:=by
 obtain ⟨m,hm⟩:∃m,m=s.count 47:=⟨_,rfl⟩
 have X8:m≤s.length:=by rw [hm];exact List.count_le_length
 have hmin:∀r:Int,r=(m:Nat)→min (IntKind.i64.wrap (r+1)) (IntKind.i64.wrap ((s.length:Int)+1))=((m+1:Nat):Int):=fun r hr=>by rw [hr,wrap64 (by omega) (by omega),wrap64 (by omega) (by omega)];omega
 have Yv:IntKind.i64.wrap (m:Int)=(m:Int):=wrap64 (by omega) (by omega)
 have hmw:IntKind.i64.wrap (((m+1:Nat):Int)-1)=(m:Int):=by rw [wrap64 (by omega) (by omega)];omega
 refine bL ht (aI:=[]) Tryz.func246 rfl rfl (N:=66) rfl rfl (n:=0) rfl rfl ?_
 cbv
 refine an (fun h0=>?_) (fun h0=>?_)
 ·simp [ht] at h0
 simp [ht] at h0
 cbv
 refine an (fun h1=>?_) (fun h1=>?_)
 ·simp [ht] at h1
 simp [ht] at h1
 cbv
 refine an (fun h2=>?_) (fun h2=>?_)
 ·simp [ht] at h2
  cbv
  refine aZ trv (M7 ht _) trv rfl rfl (fun r3 ku=>?_)
  simp only [ht] at ku
  (rw [←hm] at ku;replace hmin:=hmin _ ku)
  cbv
  refine ⟨?_,?_⟩
  ·(simp only [ht,aa];grind)
  cbv
  obtain ⟨J4,FM⟩:∃J4:Nat→List UInt8×Int×List (List D)→Prop,∀n s2 i u,J4 n (s2,i,u)↔(∃(k:Nat) (pre:List aQ),i=k∧pre.length=k∧c5 47 s=pre++c5 47 s2∧k+s2.count 47=m∧k+n=m∧u=(pre++List.replicate (m+1-k) []).map bg∧s2.length≤s.length):=⟨fun n v=>match v with|(s2,i,u)=>(∃(k:Nat) (pre:List aQ),i=k∧pre.length=k∧c5 47 s=pre++c5 47 s2∧k+s2.count 47=m∧k+n=m∧u=(pre++List.replicate (m+1-k) []).map bg∧s2.length≤s.length),fun _ _ _ _=>Iff.rfl⟩
  refine bI ⟨[0,1,2,3,9,10],[],[]⟩ (σ:=List UInt8×Int×List (List D)) (fun v=>[(0,.d (.str (t _ fun _=>v.1))),(10,.d (.int .i64 (t _ fun _=>v.2.1)))]) (fun v=>[(0,.row 1 (t _ fun _=>v.2.2))]) J4 ?_
  cbv
  refine aC ⟨m,(_,_,_),(FM _ _ _ _).2 ?_,by simp only [ht];rfl,?_⟩
  ·exact ⟨0,[],rfl,rfl,rfl,by omega,by omega,by simp only [hmin];simp,by omega⟩
  rintro n ⟨s2,i,u⟩ hj
  replace hj:=(FM _ _ _ _).1 hj
  obtain ⟨k,pre,rfl,j1,j2,j3,j4,j5,j6⟩:=hj
  have Sh:=fun x=>Sg (x:=x) j1 (show k≤m by omega) j5
  cbv
  refine an (fun h5=>?_) (fun h5=>?_)
  ·simp [ht,aa,hmin,Yv] at h5
   cbv
   refine aZ trv (M8 ht _) trv rfl rfl (fun r6 mG=>?_)
   simp only [ht] at mG
   cbv
   refine an (fun h7=>?_) (fun h7=>?_)
   ·simp [ht] at h7
    cbv
    refine ⟨?_,?_⟩
    ·(exfalso;have q:=Cf mG h7;omega)
    refine ⟨?_,?_⟩
    ·(exfalso;have q:=Cf mG h7;omega)
    refine ⟨?_,?_⟩
    ·(exfalso;have q:=Cf mG h7;omega)
    cbv
    refine ax trv trv rfl rfl rfl ?_
    (exfalso;have q:=Cf mG h7;omega)
   simp [ht] at h7
   cbv
   refine ⟨?_,?_⟩
   ·(obtain ⟨j,e1,e2,e3,e4⟩:=Cg mG h7;simp only [ht,e1];simp [bJ];rw [wrap64 (by omega) (by omega)];omega)
   refine ⟨?_,?_⟩
   ·(simp only [ht,aa] at*;omega)
   refine ⟨?_,?_⟩
   ·(simp only [ht,aa];grind)
   refine ⟨?_,?_⟩
   ·(obtain ⟨j,e1,e2,e3,e4⟩:=Cg mG h7;simp only [ht,e1];simp [bJ];rw [wrap64 (by omega) (by omega)];omega)
   cbv
   refine cL (_,_,_) (by simp only [ht];rfl) (n-1) ?_ ((FM _ _ _ _).2 ?_)
   ·omega
   simp only [aa]
   (obtain ⟨j,e1,e2,e3,e4⟩:=Cg mG h7;subst e1;have ew:IntKind.i64.wrap ((j:Int)+([47]:aQ).length)=((j+1:Nat):Int):=(by simp;rw [wrap64 (by omega) (by omega)]);have ez:IntKind.i64.wrap ((j:Int)+0)=(j:Nat):=(by rw [wrap64 (by omega) (by omega)];omega);rw [ew,ez];simp only [gq,Int.toNat_natCast];exact ⟨k+1,pre++[s2.take j],aD (by omega),by simp [j1],by rw [j2,e3];simp,by omega,by omega,by rw [Sh];simp,by simp;omega⟩)
  simp [ht,aa,hmin,Yv] at h5
  cbv
  refine ⟨?_,?_⟩
  ·(simp only [ht,aa] at*;omega)
  refine ⟨?_,?_⟩
  ·(simp only [ht,aa];grind)
  refine ⟨?_,?_⟩
  ·(have q:=M9 (Sh s2) j1 (by omega) (by omega);simp only [ht,Int.toNat_natCast,hmin];exact ⟨q.1,q.2.1⟩)
  cbv
  refine ax trv trv rfl rfl rfl ?_
  (have q:=M9 (Sh s2) j1 (by omega) (by omega);simp only [ht,Int.toNat_natCast];rw [q.2.2,j2,GD (by omega)])
 simp [ht] at h2
theorem Na (ht:TT t) (s:aQ) (hs:s.length<1000000000000):FC 226 [ST s,ST [47]] [] (.ret (ED t (t _ fun _=>c5 47 s))) []:=by
 refine bL ht (aI:=[]) Tryz.func226 rfl rfl (N:=8) rfl rfl (n:=0) rfl rfl ?_
 cbv
 refine aB trv (E2 ht _ ‹_›) trv rfl rfl rfl (fun r0 cF=>?_)
 simp only [ht] at cF
 cbv
 refine ax trv trv rfl rfl rfl ?_
 (simp [*];done)
end Dem
end
section
namespace Go.Proofs
open Go.Shelf
def Tryz.we:Go.Shelf.Ren:=⟨fun|156=>210|165=>228|166=>229|169=>230|240=>247|241=>248|276=>258|277=>259|n=>n,fun|31=>51|9=>9|3=>3|4=>4|0=>0|20=>20|72=>277|76=>281|70=>274|37=>275|75=>280|127=>299|164=>309|5=>5|80=>283|n=>n,fun|n=>n⟩
theorem Tryz.IP:Go.Proofs.Lays.n156 Tryz.prog Tryz.we:={
 mixed:=by kernel_rfl
 f156:=Tryz.func210.trans (congrArg some (by kernel_rfl))
 f165:=Tryz.func228.trans (congrArg some (by kernel_rfl))
 f166:=Tryz.func229.trans (congrArg some (by kernel_rfl))
 f169:=Tryz.func230.trans (congrArg some (by kernel_rfl))
 f240:=Tryz.func247.trans (congrArg some (by kernel_rfl))
 f241:=Tryz.func248.trans (congrArg some (by kernel_rfl))
 f276:=Tryz.func258.trans (congrArg some (by kernel_rfl))
 f277:=Tryz.func259.trans (congrArg some (by kernel_rfl))
 t0:=Tryz.underlying0
 a0:=Tryz.isAgg0
 z0:=Tryz.sizeOf0
 v0:=Tryz.zeroValue0
 t3:=Tryz.underlying3
 a3:=Tryz.isAgg3
 z3:=Tryz.sizeOf3
 v3:=Tryz.zeroValue3
 t4:=Tryz.underlying4
 a4:=Tryz.isAgg4
 z4:=Tryz.sizeOf4
 v4:=Tryz.zeroValue4
 t9:=Tryz.underlying9
 a9:=Tryz.isAgg9
 z9:=Tryz.sizeOf9
 v9:=Tryz.zeroValue9
 t20:=Tryz.underlying20
 a20:=Tryz.isAgg20
 z20:=Tryz.sizeOf20
 v20:=Tryz.zeroValue20
 t31:=Tryz.underlying51
 a31:=Tryz.isAgg51
 z31:=Tryz.sizeOf51
 v31:=Tryz.zeroValue51
 t37:=Tryz.underlying275
 a37:=Tryz.isAgg275
 z37:=Tryz.sizeOf275
 v37:=Tryz.zeroValue275
 t70:=Tryz.underlying274
 a70:=Tryz.isAgg274
 z70:=Tryz.sizeOf274
 v70:=Tryz.zeroValue274
 t72:=Tryz.underlying277
 a72:=Tryz.isAgg277
 z72:=Tryz.sizeOf277
 v72:=Tryz.zeroValue277
 t75:=Tryz.underlying280
 a75:=Tryz.isAgg280
 z75:=Tryz.sizeOf280
 v75:=Tryz.zeroValue280
 t76:=Tryz.underlying281
 a76:=Tryz.isAgg281
 z76:=Tryz.sizeOf281
 v76:=Tryz.zeroValue281
 t127:=Tryz.underlying299
 a127:=Tryz.isAgg299
 z127:=Tryz.sizeOf299
 v127:=Tryz.zeroValue299
 t164:=Tryz.underlying309
 a164:=Tryz.isAgg309
 z164:=Tryz.sizeOf309
 v164:=Tryz.zeroValue309}
theorem Tryz.mr:Builder.Extra Tryz.prog Tryz.we:={
 sizeBuilder:=by kernel_rfl
 liesBuilder:=by kernel_rfl
 t5:=Tryz.underlying5
 a5:=Tryz.isAgg5
 z5:=Tryz.sizeOf5
 v5:=Tryz.zeroValue5
 infoByte:=by kernel_rfl
 cellsByte:=by kernel_rfl
 sizeByte:=by kernel_rfl
 neB5:=by decide}
open Go.RowKit in
theorem Tryz.strings_Join_none (a:Option Addr) (c:Nat) (sep:ByteArray) (w:World):
 Calls Tryz.prog 210 #[.slice a 0 c,.string sep] w fun e w'=>e=.returned (.string ⟨#[]⟩)∧w'=w:=Any.strings_Join_none Tryz.IP Tryz.mr a c sep w
open Go.RowKit in
theorem Tryz.strings_Join (bk o c:Nat) (xs:List ByteArray) (sep:ByteArray) (w:World) (hcells:∀(j:Nat) x,xs[j]?=some x→w.cell? ⟨bk,o+j,none⟩=some (.string x)) (hbk:bk<w.heap.size) (hN:xs.length≤140737488355328) (hcap:xs.length≤c) (hlen:(Lib.join (xs.map (·.data.toList)) sep.data.toList).length≤140737488355328):
 Calls Tryz.prog 210 #[.slice (some ⟨bk,o,none⟩) xs.length c,.string sep] w fun e w'=>e=.returned (.string ⟨(Lib.join (xs.map (·.data.toList)) sep.data.toList).toArray⟩)∧Below w.heap.size w w':=Any.strings_Join Tryz.IP Tryz.mr bk o c xs sep w hcells hbk hN hcap hlen
end Go.Proofs
end
section
open Go Dem Go.Proofs
namespace Dem
variable {t:Th}
theorem A6 {w:World} {ok:Nat→Prop} {blk sz:Nat}:∀{l:List aQ} {off:Nat},ap w ok blk sz (l.map bg) off→∀(j:Nat) x,(l.map fun s=>(⟨s.toArray⟩:ByteArray))[j]?=some x→w.cell? ⟨blk,off+j,none⟩=some (.string x)
 |[],_,_,j,x,hx=>by simp at hx
 |s::l,off,h,j,x,hx=>by
  simp only [List.map_cons,ap,aT,aF,and_true] at h
  obtain ⟨rfl,⟨u,hu,rfl⟩,h3⟩:=h
  cases j with
  |zero=>simp at hx;subst hx;exact hu
  |succ j=>
   have:=A6 h3 j x (by simpa using hx)
   rw [show off+(j+1)=off+[D.str s].length+j by simp;omega]
   exact this
theorem A7 {β:Nat→Nat} {w w':World} (hb:RowKit.Below w.heap.size w w'):Ext β [] w β [] w':=
 ⟨hb.os,hb.tape,hb.output,hb.size,fun k hk _=>hb.block k hk,fun k c e f hk=>⟨c,by rw [hb.block k (Array.getElem?_eq_some_iff.1 hk).1];exact hk,rfl⟩,fun i h=>by obtain ⟨b,h1,_⟩:=h;simp at h1,fun i b h=>by simp at h⟩
theorem IQ (ht:TT t) {l:List aQ} {es:List (List D)} (aA:es=l.map bg) (hl:l.length<1000000000) (hlen:(kq l).length≤140737488355328):FC 210 [SL es,ST [47]] [] (.ret (Pk (t _ fun _=>kq l))) []:=by
 simp only [ht]
 subst aA
 intro β w vs X cx hx
 simp only [ak,aj,aF] at hx
 obtain ⟨_,_,rfl,⟨base,cap,rfl,hcap,h1⟩,_,_,rfl,rfl,rfl⟩:=hx
 rcases h1 with h1|⟨blk,off,sz,rfl,hok,hrows⟩
 ·have hl0:l=[]:=by simpa using h1
  subst hl0
  refine .inl ⟨enters_of Tryz.func210 (by kernel_rfl) rfl _ _,(Tryz.strings_Join_none base cap ⟨#[47]⟩ w).mono ?_⟩
  rintro e w' ⟨rfl,rfl⟩
  exact ⟨β,Ext.refl _ _ _,cx,by simp [lm,Pk,aj,aF,kq,Lib.join_nil]⟩
 have hx:((l.map fun s=>(⟨s.toArray⟩:ByteArray)).map (·.data.toList))=l:=by simp [Function.comp_def]
 have hn:(l.map fun s=>(⟨s.toArray⟩:ByteArray)).length=(l.map bg).length:=by simp
 have key:=Tryz.strings_Join blk off cap (l.map fun s=>(⟨s.toArray⟩:ByteArray)) ⟨#[47]⟩ w (A6 hrows) hok.1 (by simp;omega) (by simpa using hcap) (by rw [hx];exact hlen)
 rw [hx,hn] at key
 refine .inl ⟨enters_of Tryz.func210 (by kernel_rfl) rfl _ _,key.mono ?_⟩
 rintro e w' ⟨rfl,hb⟩
 exact ⟨β,A7 hb,cx.step (A7 hb) (fun i b h=>by simp at h) (fun i j bi bj hi=>by simp at hi),by simp [lm,Pk,aj,aF,kq]⟩
theorem Nb (ht:TT t) {l:List (aQ)} {es:List (List D)} (aA:es=l.map bg) (f:Nat) (p:aQ→Bool) (hl:l.length<9223372036854775807)
 (hf:∀x∈l,FC f [.d (.str x)] [] (.ret (BL (p x))) []) {r:Int} (hr:r=idxOf p l):FC 199 [SL es,.fn f []] [] (.ret (bG r)) []:=by
 have hel:es.length=l.length:=by rw [aA,lgM]
 obtain ⟨J,hJ⟩:∃J:Nat→Nat→Prop,∀n v,J n v↔(v+n=l.length∧∀i<v,∀x,l[i]?=some x→p x=false):=⟨fun n v=>v+n=l.length∧∀i<v,∀x,l[i]?=some x→p x=false,fun _ _=>Iff.rfl⟩
 refine bL ht (aI:=[]) Tryz.func199 rfl rfl (N:=19) rfl rfl (n:=0) rfl rfl ?_
 cbv
 refine bI ⟨[0,1,7,8],[],[]⟩ (σ:=Nat) (fun k=>[(8,bG (t _ fun _=>(k:Int)))]) (fun _=>[]) J ?_
 cbv
 refine aC ⟨l.length,0,(hJ _ _).2 ⟨by omega,by intro i hi;simp at hi⟩,by simp only [ht];rfl,?_⟩
 rintro n k hj
 obtain ⟨h2,h3⟩:=(hJ _ _).1 hj
 clear hj
 cbv
 refine an (fun h=>?_) (fun h=>?_)
 ·simp only [ht,aa,decide_eq_true_eq] at h
  have hk:k<l.length:=by omega
  obtain ⟨x,hx⟩:∃x,l[k]?=some x:=⟨l[k],by simp⟩
  have oo:x∈l:=List.mem_of_getElem? hx
  have gG:=hf x oo
  obtain ⟨px,hpx⟩:∃b,b=p x:=⟨_,rfl⟩
  rw [←hpx] at gG
  skip
  cbv
  refine cI [.str x] ?_ ?_ ?_
  ·simp only [ht,aa];refine ⟨by omega,h,?_⟩;rw [aA];intro r hr;obtain ⟨y,_,rfl⟩:=List.mem_map.1 hr;rfl
  ·simp [ht,aa,aA,hx]
  cbv
  refine dV trv gG ?_
  cbv
  refine an (fun hb=>?_) (fun hb=>?_)
  ·cbv
   refine ax trv trv rfl rfl rfl ?_
   have e:=de hx (hpx▸hb) h3
   simp only [ht,aa,hr,idxOf,e]
  cbv
  refine aC ⟨n-1,k+1,⟨by omega,(hJ _ _).2 ⟨by omega,?_⟩⟩,?_⟩
  ·intro i hi y hy
   by_cases hik:i<k
   ·exact h3 i hik y hy
   have:i=k:=by omega
   subst this;rw [hx] at hy;cases hy;rw [←hpx];exact hb
  simp only [ht,aa,aD (show k<9223372036854775807 by omega)];rfl
 simp only [ht,aa,decide_eq_false_iff_not] at h
 have hk:¬k<l.length:=by omega
 clear h
 cbv
 refine ax trv trv rfl rfl rfl ?_
 rw [hr,idxOf,dA]
 intro i y hy
 have:i<l.length:=by
  rcases Nat.lt_or_ge i l.length with h'|h';· exact h'
  simp [List.getElem?_eq_none h'] at hy
 exact h3 i (by omega) y hy
theorem Nc (ht:TT t) {l:List (aQ)} {es:List (List D)} (aA:es=l.map bg) (f:Nat) (p:aQ→Bool) (hl:l.length<9223372036854775807)
 (hf:∀x∈l,FC f [.d (.str x)] [] (.ret (BL (p x))) []) {r:Bool} (hr:r=l.any p):FC 156 [SL es,.fn f []] [] (.ret (BL r)) []:=by
 obtain ⟨k,hk⟩:∃k,k=idxOf p l:=⟨_,rfl⟩
 refine bL ht (aI:=[]) Tryz.func156 rfl rfl (N:=9) rfl rfl (n:=0) rfl rfl ?_
 cbv
 refine dV trv (Nb ht aA f p hl hf hk) ?_
 cbv
 refine ax trv trv rfl rfl rfl ?_
 simp only [ht,hr,iu,hk]
theorem G2 (ht:TT t) (s:aQ) (hs:s.length<9223372036854775807):FC 227 [ST s] [] (.ret (cP (t _ fun _=>!ic s))) []:=by
 refine bL ht (aI:=[]) Tryz.func227 rfl rfl (N:=6) rfl rfl (n:=0) rfl rfl ?_
 cbv
 refine aZ trv (qp ht _ ‹_›) trv rfl rfl (fun r0 cF=>?_)
 simp only [ht] at cF
 cbv
 refine ax trv trv rfl rfl rfl ?_
 (simp [*];done)
theorem tQ:∀(s:aQ),∀x∈c5 47 s,x.length≤s.length
 |[],x,hx=>by simp [c5] at hx;subst hx;exact Nat.le_refl _
 |c::s,x,hx=>by
  have ih:=tQ s
  unfold c5 at hx
  split at hx
  ·rcases List.mem_cons.1 hx with rfl|hx
   ·simp
   exact Nat.le_trans (ih x hx) (by simp)
  split at hx
  ·rename_i h r e
   rw [e] at ih
   rcases List.mem_cons.1 hx with rfl|hx
   ·have:=ih h (by simp);simp;omega
   exact Nat.le_trans (ih x (by simp [hx])) (by simp)
  simp at hx;subst hx;simp
theorem Kc (ht:TT t) {l:List aQ} {es:List (List D)} (aA:es=l.map bg) (hl:l.length<9223372036854775807) (hw:∀x∈l,x.length<9223372036854775807):
 FC 156 [SL es,.fn 227 []] [] (.ret (cP (t _ fun _=>l.any fun n=>!ic n))) []:=by
 simp only [ht];exact Nc ht aA _ _ hl (fun x hx=>by have h:=G2 ht x (hw x hx);simp only [ht,cP] at h;exact h) rfl
theorem tU (ht:TT t) (s:aQ) (hs:s.length<1000000000000):FC 209 [ST s] [] (.ret (ED t (t _ fun _=>parts s))) []:=by
 have Tj:=nQ 47 s
 have hsc:s.count 47≤s.length:=List.count_le_length
 have uO:∀x∈c5 47 s,x.length<9223372036854775807:=fun x hx=>Nat.lt_of_le_of_lt (tQ s x hx) (by omega)
 refine bL ht (aI:=[]) Tryz.func209 rfl rfl (N:=14) rfl rfl (n:=0) rfl rfl ?_
 cbv
 refine aB trv (Na ht _ ‹_›) trv rfl rfl rfl (fun r0 cF=>?_)
 simp only [ht] at cF
 have Zw:(r0).length<1000000000001:=by rw [cF];omega
 have hs0:∀x∈r0,x.length<9223372036854775807:=by rw [cF];exact uO
 cbv
 refine gI (by simp [ht]) ?_
 refine cY (fun g1=>⟨by simp [ht] at g1 ⊢;exact g1,trv,Kc ht (jY ht rfl) (by omega) ‹_›⟩) rfl rfl (fun r2 fh=>?_)
 simp only [ht] at fh
 cbv
 refine pI (by simp [ht]) ?_
 refine an (fun h3=>?_) (fun h3=>?_)
 ·simp [ht,aa] at h3
  cbv
  refine ax trv trv rfl rfl rfl ?_
  (simp only [ht,parts];grind)
 simp [ht,aa] at h3
 cbv
 refine ax trv trv rfl rfl rfl ?_
 (simp only [ht,parts];grind)
def G3 {α:Type} [DecidableEq α] (a:α) (l:List α):Int:=idxOf (fun x=>decide (a=x)) l
theorem IS {α:Type} [DecidableEq α] {a x:α} {l:List α} {k:Nat} (hx:l[k]?=some x) (h:a=x) (h3:∀i<k,∀y,l[i]?=some y→a≠y):G3 a l=k:=by
 simp only [G3,idxOf]
 rw [de hx (by simpa using h) (fun i hi y hy=>by simpa using h3 i hi y hy)]
theorem IT {α:Type} [DecidableEq α] {a:α} {l:List α} {k:Nat} (hk:l.length≤k) (h3:∀i<k,∀y,l[i]?=some y→a≠y):G3 a l=-1:=by
 simp only [G3,idxOf]
 rw [dA]
 intro i y hy
 have:i<l.length:=(List.getElem?_eq_some_iff.1 hy).1
 simpa using h3 i (by omega) y hy
theorem A8 {α:Type} {a x:α} {l:List α} {k:Nat} (h3:∀i<k,∀y,l[i]?=some y→a≠y) (hx:l[k]?=some x) (h:a≠x):∀i<k+1,∀y,l[i]?=some y→a≠y:=by
 intro i hi y hy
 rcases Nat.lt_or_ge i k with h1|h1
 ·exact h3 i h1 y hy
 have:i=k:=by omega
 subst this;rw [hx] at hy;cases hy;exact h
theorem E3 {α:Type} [DecidableEq α] (a:α) (l:List α):0≤G3 a l↔a∈l:=by
 have h:=iu (fun x=>decide (a=x)) l
 rw [Bool.eq_iff_iff] at h
 simp at h
 exact h.symm
theorem E4 (ht:TT t) (a:aQ) {l:List aQ} {es:List (List D)} (aA:es=l.map bg) (hl:l.length<1000000000):
 FC 211 [SL es,ST a] [] (.ret (fQ (t _ fun _=>G3 a l))) []:=by
 refine bL ht (aI:=[]) Tryz.func211 rfl rfl (N:=19) rfl rfl (n:=0) rfl rfl ?_
 cbv
 have av:es.length=l.length:=by rw [aA,lgM]
 obtain ⟨J0,fI⟩:∃J0:Nat→Int→Prop,∀n i,J0 n i↔(∃k:Nat,i=k∧k+n=l.length∧∀i<k,∀y,l[i]?=some y→a≠y):=⟨fun n v=>match v with|i=>(∃k:Nat,i=k∧k+n=l.length∧∀i<k,∀y,l[i]?=some y→a≠y),fun _ _=>Iff.rfl⟩
 refine bI ⟨[0,1,7,8],[],[]⟩ (σ:=Int) (fun v=>[(8,.d (.int .i64 (t _ fun _=>v)))]) (fun v=>[]) J0 ?_
 cbv
 refine aC ⟨l.length,_,(fI _ _).2 ?_,by simp only [ht];rfl,?_⟩
 ·exact ⟨0,rfl,by simp,fun i hi=>by omega⟩
 rintro n i hj
 replace hj:=(fI _ _).1 hj
 obtain ⟨k,rfl,j1,j4⟩:=hj
 cbv
 refine an (fun h1=>?_) (fun h1=>?_)
 ·simp [ht,aa,av] at h1
  cbv
  refine jZ ht aA (cT:=dN t) (by (simp only [ht,aa];omega)) (by (simp only [ht,aa];omega)) (fun _=>rfl) (fun _=>rfl) (fun x2 nj=>?_)
  simp [ht,aa] at nj
  cbv
  refine an (fun h3=>?_) (fun h3=>?_)
  ·simp [ht] at h3
   cbv
   refine ax trv trv rfl rfl rfl ?_
   (simp only [ht];rw [IS ‹_› ‹_› j4];done)
  simp [ht] at h3
  cbv
  refine cL _ (by simp only [ht];rfl) (n-1) ?_ ((fI _ _).2 ?_)
  ·omega
  simp only [aa]
  exact ⟨k+1,aD (by omega),by omega,A8 j4 ‹_› ‹_›⟩
 simp [ht,aa,av] at h1
 cbv
 refine ax trv trv rfl rfl rfl ?_
 (simp only [ht];rw [IT (by omega) j4];done)
theorem Ke (ht:TT t) (a:aQ) {l:List aQ} {es:List (List D)} (aA:es=l.map bg) (hl:l.length<1000000000):
 FC 182 [SL es,ST a] [] (.ret (cP (t _ fun _=>l.contains a))) []:=by
 refine bL ht (aI:=[]) Tryz.func182 rfl rfl (N:=9) rfl rfl (n:=0) rfl rfl ?_
 cbv
 have av:es.length=l.length:=by rw [aA,lgM]
 refine aZ trv (E4 ht _ ‹_› ‹_›) trv rfl rfl (fun r0 cF=>?_)
 simp only [ht] at cF
 cbv
 refine ax trv trv rfl rfl rfl ?_
 (simp [ht,cF,E3];done)
theorem Si (ht:TT t) (s:aQ) (hs:s.length<1000000000000):FC 178 [ST s] [] (.ret (ED t (t _ fun _=>lT s))) []:=by
 have hp:=jE s
 refine bL ht (aI:=[]) Tryz.func178 rfl rfl (N:=22) rfl rfl (n:=0) rfl rfl ?_
 cbv
 refine aB trv (tU ht _ ‹_›) trv rfl rfl rfl (fun r0 cF=>?_)
 simp only [ht] at cF
 have hrl:(r0).length=(parts s).length:=by rw [cF]
 cbv
 obtain ⟨J1,pF⟩:∃J1:Nat→List (List D)×Int→Prop,∀n u i,J1 n (u,i)↔(∃k:Nat,i=k∧k+n=(parts s).length∧u=((lT s).take k).map bg):=⟨fun n v=>match v with|(u,i)=>(∃k:Nat,i=k∧k+n=(parts s).length∧u=((lT s).take k).map bg),fun _ _ _=>Iff.rfl⟩
 refine bI ⟨[0,3,7,8],[(3,1)],[]⟩ (σ:=List (List D)×Int) (fun v=>[(3,.ow 0 1 (t _ fun _=>(v.1).length)),(8,.d (.int .i64 (t _ fun _=>v.2)))]) (fun v=>[(0,.row 1 (t _ fun _=>v.1))]) J1 ?_
 cbv
 refine aC ⟨(parts s).length,([],_),(pF _ _ _).2 ?_,by simp only [ht];rfl,?_⟩
 ·exact ⟨0,rfl,by simp,rfl⟩
 rintro n ⟨u,i⟩ hj
 replace hj:=(pF _ _ _).1 hj
 obtain ⟨k,rfl,j1,j4⟩:=hj
 cbv
 refine an (fun h2=>?_) (fun h2=>?_)
 ·simp [ht,aa] at h2
  cbv
  refine aB trv (tU ht _ ‹_›) trv rfl rfl rfl (fun r3 ku=>?_)
  simp only [ht] at ku
  have hrl:(r3).length=(parts s).length:=by rw [ku]
  cbv
  refine ⟨?_,?_⟩
  ·(simp only [ht];refine ⟨?_,fun r hr=>by obtain ⟨y,_,rfl⟩:=List.mem_map.1 hr;rfl⟩;rw [aD (by omega)];simp only [bJ];rw [lgM];omega)
  cbv
  (refine aZ trv (IQ ht (l:=r3.take (k+1)) (by simp only [ht,gq];rw [aD (by omega),List.map_take];rfl) (by simp;omega) (by rw [ku];exact Nat.le_trans (AY s (k+1)) (by omega))) trv rfl rfl (fun r4 eK=>?_);simp only [ht] at eK;rw [ku] at eK)
  cbv
  refine ⟨?_,?_⟩
  ·(simp only [ht];grind)
  cbv
  refine cL (_,_) (by simp only [ht,←List.length_append];rfl) (n-1) ?_ ((pF _ _ _).2 ?_)
  ·omega
  simp only [aa]
  exact ⟨k+1,aD (by omega),by omega,by rw [AZ (by omega),j4,←eK];simp⟩
 simp [ht,aa] at h2
 cbv
 refine ax trv (by simp [ht]) rfl rfl rfl ?_
 (simp [ht,j4,List.take_of_length_le (show (lT s).length≤k by rw [gF];omega)];done)
theorem E5 (ht:TT t) (a b:aQ) (hs:b.length<1000000000000):FC 136 [ST a,ST b] [] (.ret (cP (t _ fun _=>uK a b))) []:=by
 have hp:=jE b
 have hl:=gF b
 refine bL ht (aI:=[]) Tryz.func136 rfl rfl (N:=9) rfl rfl (n:=0) rfl rfl ?_
 cbv
 refine aB trv (Si ht _ ‹_›) trv rfl rfl rfl (fun r0 cF=>?_)
 simp only [ht] at cF
 have Zw:(r0).length<1000000000:=by rw [cF];omega
 cbv
 refine aZ trv (Ke ht _ (jY ht rfl) ‹_›) trv rfl rfl (fun r1 dM=>?_)
 simp only [ht] at dM
 cbv
 refine ax trv trv rfl rfl rfl ?_
 (simp [uK, *];done)
theorem PO (x y:Nat) (hx:x<18446744073709551616) (hy:y<18446744073709551616):JJ x y=if (x*y / 18446744073709551616=0) then (((x*y:Nat):Int),true) else (0,false):=by
 unfold JJ
 simp only [Int.toNat_natCast]
 by_cases h:x*y<18446744073709551616
 ·rw [if_pos h,if_pos (Nat.div_eq_of_lt h)]
 rw [if_neg h,if_neg (by have:=Nat.div_le_div_right (c:=18446744073709551616) (Nat.le_of_not_lt h);simp at this;omega)]
theorem PR (x:Nat):x &&& 4294967295=x%4294967296:=by
 have:=Nat.and_two_pow_sub_one_eq_mod x 32
 simpa using this
theorem Ng (x:Nat) (hx:x<18446744073709551616):IntKind.u64.wrap ((BitVec.ofInt IntKind.u64.bits (x:Int) &&& BitVec.ofInt IntKind.u64.bits 4294967295).toNat:Int)=((x%4294967296:Nat):Int):=by
 have e1:BitVec.ofInt IntKind.u64.bits (x:Int)=BitVec.ofNat 64 x:=by simp [IntKind.bits]
 have e2:BitVec.ofInt IntKind.u64.bits 4294967295=BitVec.ofNat 64 4294967295:=by rfl
 rw [e1,e2]
 have:(BitVec.ofNat 64 x &&& BitVec.ofNat 64 4294967295).toNat=x%4294967296:=by
  rw [BitVec.toNat_and,BitVec.toNat_ofNat,BitVec.toNat_ofNat,Nat.mod_eq_of_lt (a:=x) (by simpa using hx),Nat.mod_eq_of_lt (a:=4294967295) (by decide),PR]
 have h2:x%4294967296<18446744073709551616:=by omega
 rw [nP]
 show (((BitVec.ofNat 64 x &&& BitVec.ofNat 64 4294967295).toNat:Nat):Int)%18446744073709551616=_
 rw [this];omega
theorem IU (x:Nat):(x:Int).fdiv (2^(min (32:Int).toNat IntKind.u64.bits))=((x / 4294967296:Nat):Int):=by
 show (x:Int).fdiv (2^32)=_
 rw [Int.fdiv_eq_ediv_of_nonneg _ (by decide)];norm_cast
theorem Cz {n:Nat} (h:n<18446744073709551616):IntKind.u64.wrap (n:Int)=n:=by rw [nP];omega
theorem PS (ht:TT t) (x y:Nat) (hx:x<18446744073709551616) (hy:y<18446744073709551616) {a b:Int} (ha:a=x) (hb:b=y):
 FC 202 [az a,az b] [] (.ret (.dL [az (t _ fun _=>((x*y / 18446744073709551616:Nat):Int)),az (t _ fun _=>IntKind.u64.wrap ((x*y:Nat):Int))])) []:=by
 obtain ⟨k1,k2,k3,k4⟩:=Lib.mul64_hi x y hx hy
 refine bL ht (aI:=[]) Tryz.func202 rfl rfl (N:=51) rfl rfl (n:=0) rfl rfl ?_
 cbv
 refine ⟨by simp [ht],by simp [ht],by simp [ht],by simp [ht],by simp [ht],?_⟩
 refine ax trv trv rfl rfl rfl ?_
 simp only [ht,aa]
 subst ha hb
 have b1:x / 4294967296≤4294967295:=by omega
 have b2:y / 4294967296≤4294967295:=by omega
 have b3:x%4294967296≤4294967295:=by omega
 have b4:y%4294967296≤4294967295:=by omega
 have m1:=Lib.half_mul_le b1 b2
 have m2:=Lib.half_mul_le b1 b4
 have m3:=Lib.half_mul_le b3 b2
 have m4:=Lib.half_mul_le b3 b4
 have k5:x / 4294967296*(y / 4294967296)+(x / 4294967296*(y%4294967296)+x%4294967296*(y%4294967296) / 4294967296) / 4294967296<18446744073709551616:=by omega
 have k6:x*y / 18446744073709551616<18446744073709551616:=by
  rw [Nat.div_lt_iff_lt_mul (by decide)]
  exact Nat.mul_lt_mul'' hx hy
 simp only [IU,Ng x hx,Ng y hy,←Int.natCast_mul]
 rw [Cz k1,Cz (n:=x / 4294967296*(y%4294967296)) (by omega),Cz (n:=x%4294967296*(y / 4294967296)) (by omega),Cz (n:=x / 4294967296*(y / 4294967296)) (by omega)]
 simp only [IU,←Int.natCast_add]
 rw [Cz k2,Ng _ k2]
 simp only [IU,←Int.natCast_add]
 rw [Cz k5,Cz k3]
 simp only [IU,←Int.natCast_add]
 rw [k4,Cz k6]
theorem Kf (ht:TT t) (x y:Int) (hx:0≤x∧x<18446744073709551616) (hy:0≤y∧y<18446744073709551616) {r:Int} {ok:Bool} (h:(r,ok)=JJ x y):
 FC 169 [az x,az y] [] (.ret (.dL [az r,BL ok])) []:=by
 obtain ⟨a,rfl⟩:=Int.eq_ofNat_of_zero_le hx.1
 obtain ⟨b,rfl⟩:=Int.eq_ofNat_of_zero_le hy.1
 have ha:a<18446744073709551616:=by omega
 have hb:b<18446744073709551616:=by omega
 rw [PO a b ha hb] at h
 have hw:a*b / 18446744073709551616=0→IntKind.u64.wrap ((a*b:Nat):Int)=((a*b:Nat):Int):=fun e=>by
  refine Cz ?_
  rcases Nat.lt_or_ge (a*b) 18446744073709551616 with h1|h1
  ·exact h1
  have:=Nat.div_le_div_right (c:=18446744073709551616) h1;simp at this;omega
 obtain ⟨w,WX⟩:∃w,w=IntKind.u64.wrap ((a*b:Nat):Int):=⟨_,rfl⟩
 obtain ⟨z,hz⟩:∃z,z=a*b / 18446744073709551616:=⟨_,rfl⟩
 have hc:=PS ht a b ha hb rfl rfl
 rw [←WX,←hz] at hc
 rw [←WX,←hz] at hw
 rw [←hz] at h
 obtain ⟨x,hx0⟩:∃x:Int,x=a:=⟨_,rfl⟩
 obtain ⟨y,hy0⟩:∃y:Int,y=b:=⟨_,rfl⟩
 rw [←hx0,←hy0] at hc ⊢
 refine bL ht (aI:=[]) Tryz.func169 rfl rfl (N:=17) rfl rfl (n:=0) rfl rfl ?_
 cbv
 refine fO trv hc trv rfl rfl ?_
 cbv
 refine an (fun hc=>?_) (fun hc=>?_)
 ·cbv
  refine ax trv trv rfl rfl rfl ?_
  simp only [ht,aa,Bool.not_eq_true',decide_eq_false_iff_not] at hc
  rw [if_neg (by omega)] at h
  cases h;rfl
 cbv
 refine ax trv trv rfl rfl rfl ?_
 simp only [ht,aa,Bool.not_eq_false',decide_eq_true_eq] at hc
 have QG:z=0:=by omega
 rw [if_pos QG] at h
 cases h
 simp only [ht,hw QG]
theorem Nh (ht:TT t) (m x y:Int) (hx:0≤x∧x<18446744073709551616) (hm:0≤m∧m<18446744073709551616) {r:Int} {ok:Bool} (h:(r,ok)=JJ x m):
 FC 168 [az x,az y,.ptr 0 0] [.var [az m]] (.ret (.dL [az r,BL ok])) [.var [az m]]:=by
 refine bL ht (aI:=[.var [az m]]) Tryz.func168 rfl rfl (N:=12) rfl rfl (n:=1) rfl rfl ?_
 cbv
 refine fO trv (Kf ht x m hx hm h) trv rfl rfl ?_
 cbv
 exact ax trv trv rfl rfl rfl rfl
theorem PU (ht:TT t) (m:Int) (a0 a1 a2 a3 b0 b1 b2 b3:Int) (op:Int→Int→Int×Bool) (F:Nat) (hop:∀(x y r:Int) (ok:Bool),(r,ok)=op x y→0≤x∧x<18446744073709551616→FC F [.d (.int .u64 x),.d (.int .u64 y),.ptr 0 0] [.var [az m]] (.ret (.dL [.d (.int .u64 r),.d (.bool ok)])) [.var [az m]])
 (u0:0≤a0∧a0<18446744073709551616) (u1:0≤a1∧a1<18446744073709551616) (u2:0≤a2∧a2<18446744073709551616) (u3:0≤a3∧a3<18446744073709551616)
 {r0 r1 r2 r3:Int} {ok:Bool} (h:(⟨r0,r1,r2,r3⟩,ok)=both op ⟨a0,a1,a2,a3⟩ ⟨b0,b1,b2,b3⟩):
 FC 167 [.agg [.d (.int .u64 a0),.d (.int .u64 a1),.d (.int .u64 a2),.d (.int .u64 a3)],.agg [.d (.int .u64 b0),.d (.int .u64 b1),.d (.int .u64 b2),.d (.int .u64 b3)],.fn F [.ptr 0 0]] [.var [az m]]
  (.ret (.dL [.agg [.d (.int .u64 r0),.d (.int .u64 r1),.d (.int .u64 r2),.d (.int .u64 r3)],.d (.bool ok)])) [.var [az m]]:=by
 obtain ⟨⟨s0,k0⟩,e0⟩:∃s,s=op a0 b0:=⟨_,rfl⟩
 obtain ⟨⟨s1,k1⟩,e1⟩:∃s,s=op a1 b1:=⟨_,rfl⟩
 obtain ⟨⟨s2,k2⟩,e2⟩:∃s,s=op a2 b2:=⟨_,rfl⟩
 obtain ⟨⟨s3,k3⟩,e3⟩:∃s,s=op a3 b3:=⟨_,rfl⟩
 have h0:(k0&&k1&&k2&&k3)=false→r0=0∧r1=0∧r2=0∧r3=0∧ok=false:=by
  intro hk;simp only [both,←e0,←e1,←e2,←e3] at h;rw [if_neg (by rw [hk];simp)] at h;cases h;exact ⟨rfl,rfl,rfl,rfl,rfl⟩
 have h1:(k0&&k1&&k2&&k3)=true→r0=s0∧r1=s1∧r2=s2∧r3=s3∧ok=true:=by
  intro hk;simp only [both,←e0,←e1,←e2,←e3] at h;rw [if_pos hk] at h;cases h;exact ⟨rfl,rfl,rfl,rfl,rfl⟩
 clear h
 have fin:∀{B:List ay},(k0&&k1&&k2&&k3)=false→Em 1 True (AV.dL [.agg [.d (.int .u64 0),.d (.int .u64 0),.d (.int .u64 0),.d (.int .u64 0)],.d (.bool false)]) (.var [az m]::B) (some (True,AV.dL [.agg [.d (.int .u64 0),.d (.int .u64 0),.d (.int .u64 0),.d (.int .u64 0)],.d (.bool false)]))
  (.ret (.dL [.agg [.d (.int .u64 r0),.d (.int .u64 r1),.d (.int .u64 r2),.d (.int .u64 r3)],.d (.bool ok)])) [.var [az m]]:=by
  intro bx hk
  obtain ⟨rfl,rfl,rfl,rfl,rfl⟩:=h0 hk
  exact ax trv trv rfl rfl rfl rfl
 refine bL ht (aI:=[.var [az m]]) Tryz.func167 rfl rfl (N:=34) rfl rfl (n:=1) rfl rfl ?_
 cbv
 refine bI ⟨[2,3,4,6,12,13],[],[]⟩ (σ:=Nat) (fun j=>[(13,.d (.int .i64 j))]) (fun j=>[(1,.var [.d (.int .u64 (bif Nat.blt 0 j then s0 else a0)),.d (.int .u64 (bif Nat.blt 1 j then s1 else a1)),.d (.int .u64 (bif Nat.blt 2 j then s2 else a2)),.d (.int .u64 (bif Nat.blt 3 j then s3 else a3))])])
  (fun n j=>n+j=4∧(0<j→k0=true)∧(1<j→k1=true)∧(2<j→k2=true)∧(3<j→k3=true)) ?_
 cbv
 refine aC ⟨4,0,⟨rfl,by omega,by omega,by omega,by omega⟩,rfl,?_⟩
 rintro n j ⟨hn,g0,g1,g2,g3⟩
 have hj:j=0∨j=1∨j=2∨j=3∨j=4:=by omega
 rcases hj with rfl|rfl|rfl|rfl|rfl
 ·cbv
  refine jX (by simp [ht]) ?_
  cbv
  refine ⟨by simp [ht],by simp [ht],dx [0] trv rfl rfl (hop _ _ _ _ e0 u0) (cj ?_)⟩
  cbv
  refine an (fun hc=>?_) (fun hc=>?_)
  ·simp only [ht,Bool.not_eq_true'] at hc
   cbv
   exact fin (by simp [hc])
  simp only [ht,Bool.not_eq_false'] at hc
  cbv
  refine ⟨by simp [ht],?_⟩
  refine aC ⟨3-0,0+1,⟨⟨by omega,by omega,by simp_all,by simp_all,by simp_all,by simp_all⟩,?_⟩⟩
  simp only [ht];rfl
 ·cbv
  refine jX (by simp [ht]) ?_
  cbv
  refine ⟨by simp [ht],by simp [ht],dx [0] trv rfl rfl (hop _ _ _ _ e1 u1) (cj ?_)⟩
  cbv
  refine an (fun hc=>?_) (fun hc=>?_)
  ·simp only [ht,Bool.not_eq_true'] at hc
   cbv
   exact fin (by simp [hc])
  simp only [ht,Bool.not_eq_false'] at hc
  cbv
  refine ⟨by simp [ht],?_⟩
  refine aC ⟨3-1,1+1,⟨⟨by omega,by omega,by simp_all,by simp_all,by simp_all,by simp_all⟩,?_⟩⟩
  simp only [ht];rfl
 ·cbv
  refine jX (by simp [ht]) ?_
  cbv
  refine ⟨by simp [ht],by simp [ht],dx [0] trv rfl rfl (hop _ _ _ _ e2 u2) (cj ?_)⟩
  cbv
  refine an (fun hc=>?_) (fun hc=>?_)
  ·simp only [ht,Bool.not_eq_true'] at hc
   cbv
   exact fin (by simp [hc])
  simp only [ht,Bool.not_eq_false'] at hc
  cbv
  refine ⟨by simp [ht],?_⟩
  refine aC ⟨3-2,2+1,⟨⟨by omega,by omega,by simp_all,by simp_all,by simp_all,by simp_all⟩,?_⟩⟩
  simp only [ht];rfl
 ·cbv
  refine jX (by simp [ht]) ?_
  cbv
  refine ⟨by simp [ht],by simp [ht],dx [0] trv rfl rfl (hop _ _ _ _ e3 u3) (cj ?_)⟩
  cbv
  refine an (fun hc=>?_) (fun hc=>?_)
  ·simp only [ht,Bool.not_eq_true'] at hc
   cbv
   exact fin (by simp [hc])
  simp only [ht,Bool.not_eq_false'] at hc
  cbv
  refine ⟨by simp [ht],?_⟩
  refine aC ⟨3-3,3+1,⟨⟨by omega,by omega,by simp_all,by simp_all,by simp_all,by simp_all⟩,?_⟩⟩
  simp only [ht];rfl
 cbv
 refine mU (by simp [ht]) ?_
 cbv
 obtain ⟨rfl,rfl,rfl,rfl,rfl⟩:=h1 (by simp [g0,g1,g2,g3])
 exact ax trv trv rfl rfl rfl rfl
theorem Kg (ht:TT t) (a0 a1 a2 a3 n:Int) (hu:(⟨a0,a1,a2,a3⟩:bM).u') (hn:0≤n∧n<18446744073709551616):
 FC 117 [V4 a0 a1 a2 a3,az n] [] (.ret (UJ (t _ fun _=>GC ⟨a0,a1,a2,a3⟩ n))) []:=by
 obtain ⟨⟨⟨r0,r1,r2,r3⟩,ok⟩,h⟩:∃r,r=GC ⟨a0,a1,a2,a3⟩ n:=⟨_,rfl⟩
 rw [←h]
 obtain ⟨u0,u1,u2,u3⟩:=hu
 refine bL ht (aI:=[]) Tryz.func117 rfl rfl (N:=12) rfl rfl (n:=0) rfl rfl ?_
 cbv
 refine dx [1] trv rfl rfl (PU ht n a0 a1 a2 a3 0 0 0 0 (fun x _=>JJ x n) 168 (fun x y r ok e hx=>Nh ht n x y hx hn e) u0 u1 u2 u3 h) (cj ?_)
 cbv
 refine ax trv trv rfl rfl rfl ?_
 simp only [ht]
def Ask.sm (x:Ask):Prop:=x.path.length<1000000000000∧x.gB.u'∧x.bZ.length<1000000000∧∀m∈x.bZ,m.sm
theorem qt (ht:TT t) (p:aQ) (a b c d n pr tk:Int) {sl:List Term} (sr:List (List D)) (hu:(⟨a,b,c,d⟩:bM).u'):
 FC 77 [.agg [ST p,az a,az b,az c,az d,bG n,bG pr,bG tk,SL sr]] [] (.ret (UJ (t _ fun _=>dR ⟨p,⟨a,b,c,d⟩,n,pr,tk,sl⟩))) []:=by
 refine bL ht (aI:=[]) Tryz.func77 rfl rfl (N:=12) rfl rfl (n:=0) rfl rfl ?_
 cbv
 (refine aZ trv (Kg ht a b c d _ hu (by simp only [ht];rw [nP];omega)) trv rfl rfl (fun r9 j8=>?_);simp only [ht,nP] at j8)
 cbv
 refine ax trv trv rfl rfl rfl ?_
 (simp [dR, *];done)
theorem G4 (ht:TT t) (n a b:Int):FC 176 [bG n,bG a,bG b] [] (.ret (cP (t _ fun _=>Ol n a b))) []:=by
 refine bL ht (aI:=[]) Tryz.func176 rfl rfl (N:=15) rfl rfl (n:=0) rfl rfl ?_
 cbv
 iterate 3 refine gI (by simp [ht]) ?_
 refine pI (by simp [ht]) ?_
 refine ax trv trv rfl rfl rfl ?_
 (simp [ht,Ol];done)
theorem A9 (ht:TT t) (p:aQ) (a b c d n pr tk:Int) {sl:List Term} {sr:List (List D)} (Zx:sr=sl.map Term.cells) (uO:(⟨p,⟨a,b,c,d⟩,n,pr,tk,sl⟩:Ask).sm):
 FC 132 [.agg [ST p,az a,az b,az c,az d,bG n,bG pr,bG tk,SL sr]] [] (.ret (fQ (t _ fun _=>eE ⟨p,⟨a,b,c,d⟩,n,pr,tk,sl⟩))) []:=by
 obtain ⟨h1,h2,h3,h4⟩:=uO
 simp only at h1 h2 h3 h4
 refine bL ht (aI:=[]) Tryz.func132 rfl rfl (N:=46) rfl rfl (n:=0) rfl rfl ?_
 cbv
 have WY:sr.length=sl.length:=by rw [Zx,lgM]
 (refine aZ trv (qt ht p a b c d n pr tk (sl:=sl) sr h2) trv rfl rfl (fun r9 j8=>?_);simp only [ht] at j8)
 cbv
 refine aZ trv (E5 ht _ _ ‹_›) trv rfl rfl (fun r0 cF=>?_)
 simp only [ht] at cF
 cbv
 refine an (fun h1=>?_) (fun h1=>?_)
 ·simp [ht] at h1
  cbv
  refine ax trv trv rfl rfl rfl ?_
  (simp only [ht,eE];grind)
 simp [ht] at h1
 cbv
 refine aZ trv (G4 ht _ _ _) trv rfl rfl (fun r2 fh=>?_)
 simp only [ht] at fh
 cbv
 iterate 3 refine gI (by simp [ht]) ?_
 refine cY (fun g3=>⟨by simp [ht] at g3 ⊢;exact g3,trv,G4 ht _ _ _⟩) rfl rfl (fun r4 eK=>?_)
 simp only [ht] at eK
 cbv
 refine gI (by simp [ht]) ?_
 refine pI (by simp [ht]) ?_
 iterate 3 refine gI (by simp [ht]) ?_
 refine cY (fun g5=>⟨by simp [ht] at g5 ⊢;exact g5,trv,G4 ht _ _ _⟩) rfl rfl (fun r6 mG=>?_)
 simp only [ht] at mG
 cbv
 refine gI (by simp [ht]) ?_
 refine pI (by simp [ht]) ?_
 refine an (fun h7=>?_) (fun h7=>?_)
 ·simp [ht] at h7
  cbv
  refine ax trv trv rfl rfl rfl ?_
  (simp only [ht,eE];grind)
 simp [ht] at h7
 cbv
 refine aZ trv (Kb ht ‹_› ‹_› ‹_›) trv rfl rfl (fun r8 Tr=>?_)
 simp only [ht] at Tr
 cbv
 refine an (fun h9=>?_) (fun h9=>?_)
 ·simp [ht] at h9
  cbv
  refine ax trv trv rfl rfl rfl ?_
  (simp only [ht,eE];grind)
 simp [ht] at h9
 cbv
 refine an (fun h10=>?_) (fun h10=>?_)
 ·simp [ht] at h10
  cbv
  refine ax trv trv rfl rfl rfl ?_
  (simp only [ht,eE];grind)
 simp [ht] at h10
 cbv
 refine ax trv trv rfl rfl rfl ?_
 (simp only [ht,eE];grind)
theorem IV (ht:TT t) (s:aQ) (hs:s.length<1000000000000):FC 178 [ST s] [] (.ret (.ow 0 1 (t _ fun _=>((lT s).map bg).length))) [.row 1 (t _ fun _=>(lT s).map bg)]:=by
 have hp:=jE s
 refine bL ht (aI:=[]) Tryz.func178 rfl rfl (N:=22) rfl rfl (n:=0) rfl rfl ?_
 cbv
 refine aB trv (tU ht _ ‹_›) trv rfl rfl rfl (fun r0 cF=>?_)
 simp only [ht] at cF
 have hrl:(r0).length=(parts s).length:=by rw [cF]
 cbv
 obtain ⟨J1,pF⟩:∃J1:Nat→List (List D)×Int→Prop,∀n u i,J1 n (u,i)↔(∃k:Nat,i=k∧k+n=(parts s).length∧u=((lT s).take k).map bg):=⟨fun n v=>match v with|(u,i)=>(∃k:Nat,i=k∧k+n=(parts s).length∧u=((lT s).take k).map bg),fun _ _ _=>Iff.rfl⟩
 refine bI ⟨[0,3,7,8],[(3,1)],[]⟩ (σ:=List (List D)×Int) (fun v=>[(3,.ow 0 1 (t _ fun _=>(v.1).length)),(8,.d (.int .i64 (t _ fun _=>v.2)))]) (fun v=>[(0,.row 1 (t _ fun _=>v.1))]) J1 ?_
 cbv
 refine aC ⟨(parts s).length,([],_),(pF _ _ _).2 ?_,by simp only [ht];rfl,?_⟩
 ·exact ⟨0,rfl,by simp,rfl⟩
 rintro n ⟨u,i⟩ hj
 replace hj:=(pF _ _ _).1 hj
 obtain ⟨k,rfl,j1,j4⟩:=hj
 cbv
 refine an (fun h2=>?_) (fun h2=>?_)
 ·simp [ht,aa] at h2
  cbv
  refine aB trv (tU ht _ ‹_›) trv rfl rfl rfl (fun r3 ku=>?_)
  simp only [ht] at ku
  have hrl:(r3).length=(parts s).length:=by rw [ku]
  cbv
  refine ⟨?_,?_⟩
  ·(simp only [ht];refine ⟨?_,fun r hr=>by obtain ⟨y,_,rfl⟩:=List.mem_map.1 hr;rfl⟩;rw [aD (by omega)];simp only [bJ];rw [lgM];omega)
  cbv
  (refine aZ trv (IQ ht (l:=r3.take (k+1)) (by simp only [ht,gq];rw [aD (by omega),List.map_take];rfl) (by simp;omega) (by rw [ku];exact Nat.le_trans (AY s (k+1)) (by omega))) trv rfl rfl (fun r4 eK=>?_);simp only [ht] at eK;rw [ku] at eK)
  cbv
  refine ⟨?_,?_⟩
  ·(simp only [ht];grind)
  cbv
  refine cL (_,_) (by simp only [ht,←List.length_append];rfl) (n-1) ?_ ((pF _ _ _).2 ?_)
  ·omega
  simp only [aa]
  exact ⟨k+1,aD (by omega),by omega,by rw [AZ (by omega),j4,←eK];simp⟩
 simp [ht,aa] at h2
 cbv
 refine Ad trv rfl rfl rfl rfl ?_ ?_
 ·(simp [ht,j4,List.take_of_length_le (show (lT s).length≤k by rw [gF];omega)];done)
 (simp [ht,j4,List.take_of_length_le (show (lT s).length≤k by rw [gF];omega)];done)
theorem CA (ht:TT t) {es:List (List D)} {x:D} {row:List D} {i n c:Nat} (hn:n=es.length) (hi:i≤n) (hc:n≤c) (hc0:n=0→c=0) (aA:∀r∈es,r.length=1) (hrow:(x::row).length=1) (hs:n<1000000) {r:List (List D)} (hr:r=es.take i++(x::row)::es.drop i):
 FC 198 [.vw 0 1 0 n c true,bG (i:Int),SL [x::row]] [.row 1 es] (.ret (SL r)) [.dead]:=by
 obtain ⟨n1,DE⟩:∃n1,n1=n+1:=⟨_,rfl⟩
 obtain ⟨i1,hi1⟩:∃i1,i1=i+1:=⟨_,rfl⟩
 obtain ⟨ni,hni⟩:∃ni,ni=n-i:=⟨_,rfl⟩
 obtain ⟨ci,ot⟩:∃ci,ci=c-i:=⟨_,rfl⟩
 obtain ⟨uN,GV⟩:∃uN,uN=c-i1:=⟨_,rfl⟩
 obtain ⟨nU,rT⟩:∃nU,nU=n1-i:=⟨_,rfl⟩
 have hW:∀P:Prop,((IntKind.i64.wrap ((n:Int)+1)=(n1:Int))→(IntKind.i64.wrap ((n1:Int)-(i:Int))=(nU:Int))→(IntKind.i64.wrap ((i:Int)+1)=(i1:Int))→P)→P:=
  fun P h=>h (by rw [wrap64 (by omega) (by omega)];omega) (by rw [wrap64 (by omega) (by omega)];omega) (by rw [wrap64 (by omega) (by omega)];omega)
 have hrl:r.length=n1:=by rw [hr,List.length_append,List.length_cons,List.length_take,List.length_drop];omega
 have R8:n≠0→FC 222 [SL [x::row],.vw 0 1 i1 ni uN true] [.row 1 es] (.ret (BL false)) [.row 1 es]:=fun h0=>
  gQ Q3 Tryz.func222 rfl rfl rfl rfl (tS:=51) (tR:=4) rfl rfl (by intro h;rw [h] at hn;exact h0 hn)
 refine bL ht (aI:=[.row 1 es]) Tryz.func198 rfl rfl (N:=95) rfl rfl (n:=1) rfl rfl ?_
 cbv
 refine bE (.vw 0 1 i ni ci true) [.row 1 es] ?_ ?_ rfl ?_
 ·simp [ht,dF,bJ];omega
 ·simp [ht,aS,aM,hni,ot]
 cbv
 refine mU (by simp [ht]) ?_
 cbv
 refine an (fun h=>?_) (fun h=>?_)
 ·have hin:i=n:=by simp [ht,aa] at h;omega
  clear h
  cbv
  refine bE (.ow 1 1 n1) [.dead,.row 1 r] ?_ ?_ ?_ ?_
  ·simp only [ht]
   refine ⟨⟨hn,by simp;omega,?_⟩,rfl,hn,fun h=>⟨hc0 (by rw [hn,h];rfl),rfl⟩⟩
   intro r hr
   rcases List.mem_append.1 hr with hr|hr
   ·exact aA r hr
   simp at hr;subst hr;exact hrow
  ·simp [ht,DE,hn]
  ·simp only [ht];rw [hr]
   have:i=es.length:=by omega
   subst this;simp
  cbv
  refine ax trv ?_ rfl rfl rfl rfl
  simp only [ht];exact hrl.symm
 have hin:i<n:=by simp [ht,aa] at h;omega
 clear h
 have yS:r=(r.drop 0).take n1:=by rw [List.drop_zero,List.take_of_length_le (by omega)]
 cbv
 refine an (fun h2=>?_) (fun h2=>?_)
 ·have R9:c=n:=by
   refine hW _ fun e1 e2 e3=>?_
   simp [ht,aa,e1] at h2;omega
  clear h2
  obtain ⟨L,hL⟩:∃L:List (List D),L=es.take i++List.replicate (es.length+1-i) [D.str []]:=⟨_,rfl⟩
  have FL:L.length=n1:=by rw [hL];simp;omega
  obtain ⟨L1,rU⟩:∃L1,L1=wrote L i [x::row]:=⟨_,rfl⟩
  have lH:L1.length=n1:=by rw [rU];simp [wrote,FL];omega
  have oI:r=wrote L1 i1 (es.drop i):=by rw [hi1,rU,hL,tM (by omega),hr]
  cbv
  refine bE (.vw 0 1 0 i c true) [.row 1 es] ?_ ?_ rfl ?_
  ·simp [ht,dF,bJ];omega
  ·simp [ht,aS,aM]
  cbv
  refine bE (.vw 1 1 0 n1 n1 false) [.row 1 es,.row 1 L] ?_ ?_ ?_ ?_
  ·refine hW _ fun e1 e2 e3=>?_
   simp [ht,aa,e1,e2];omega
  ·refine hW _ fun e1 e2 e3=>?_
   simp [ht,aa,e1,e2];omega
  ·refine hW _ fun e1 e2 e3=>?_
   simp [ht,aa,e1,e2,hL];omega
  cbv
  refine bE (.vw 1 1 i nU nU false) [.row 1 es,.row 1 L] ?_ ?_ rfl ?_
  ·simp [ht,dF,bJ];omega
  ·simp [ht,aS,aM,rT]
  cbv
  refine bE (bG 1) [.row 1 es,.row 1 L1] ?_ ?_ ?_ ?_
  ·simp only [ht,eB]
   refine ⟨⟨by omega,?_⟩,?_⟩
   ·intro h;rw [h] at FL;simp at FL;omega
   intro r hr;have:=List.mem_of_mem_take hr;simp at this;rw [this];exact hrow
  ·simp [ht,aa];omega
  ·simp [ht,rU,show min 1 nU=1 by omega]
  cbv
  refine c7 [false,false,false,false,false,false,false,false,true] (by kernel_rfl) (by kernel_rfl) ?_
  cbv
  repeat (refine gI (by (simp;done)) ?_)
  refine gE (.vw 1 1 i1 ni ni false) (fun _=>⟨?_,?_⟩) ?_
  ·refine hW _ fun e1 e2 e3=>?_
   simp [ht,aa,e3,dF,bJ];omega
  ·refine hW _ fun e1 e2 e3=>?_
   simp [ht,aa,e3,aS,aM];omega
  cbv
  repeat (refine gI (by (simp;done)) ?_)
  refine gE (.vw 0 1 i ni ci true) (fun _=>⟨?_,?_⟩) ?_
  ·simp [ht,dF,bJ];omega
  ·simp [ht,aS,aM,hni,ot]
  cbv
  refine bE (bG (ni:Nat)) [.row 1 es,.row 1 r,.bt] ?_ ?_ ?_ ?_
  ·simp only [ht,eB]
   refine ⟨by omega,⟨by omega,?_⟩,?_⟩
   ·intro h;rw [h] at lH;simp at lH;omega
   intro r hr;exact aA r (List.mem_of_mem_drop (List.mem_of_mem_take hr))
  ·simp [ht,aa]
  ·simp only [ht,oI]
   rw [List.take_of_length_le (by simp;omega)]
  cbv
  refine wG [true] trv ?_ rfl rfl rfl ?_
  ·simp only [ht];omega
  simp only [ht];rw [←yS]
 have R9:n<c:=by
  refine hW _ fun e1 e2 e3=>?_
  simp [ht,aa,e1] at h2;omega
 clear h2
 obtain ⟨L1,rU⟩:∃L1,L1=wrote es i1 (es.drop i):=⟨_,rfl⟩
 have oI:r=wrote L1 i [x::row]:=by rw [rU,hi1,Ct (by omega),hr]
 have lH:L1.length=n1:=by rw [rU];simp [wrote];omega
 cbv
 refine bE (.vw 0 1 0 n1 c true) [.row 1 es] ?_ ?_ rfl ?_
 ·refine hW _ fun e1 e2 e3=>?_
  simp [ht,aa,e1,dF,bJ];omega
 ·refine hW _ fun e1 e2 e3=>?_
  simp [ht,aa,e1,aS,aM]
 cbv
 refine bE (.vw 0 1 i1 ni uN true) [.row 1 es] ?_ ?_ rfl ?_
 ·refine hW _ fun e1 e2 e3=>?_
  simp [ht,aa,e3,dF,bJ];omega
 ·refine hW _ fun e1 e2 e3=>?_
  simp [ht,aa,e3,aS,aM];omega
 cbv
 refine dV trv (R8 (by omega)) ?_
 cbv
 refine jX (by simp [ht]) ?_
 cbv
 refine c7 [false,false,false,false,false,false,false,false,true] (by kernel_rfl) (by kernel_rfl) ?_
 cbv
 repeat (refine gI (by (simp;done)) ?_)
 refine gE (.vw 0 1 i1 ni uN true) (fun _=>⟨?_,?_⟩) ?_
 ·refine hW _ fun e1 e2 e3=>?_
  simp [ht,aa,e3,dF,bJ];omega
 ·refine hW _ fun e1 e2 e3=>?_
  simp [ht,aa,e3,aS,aM];omega
 cbv
 repeat (refine gI (by (simp;done)) ?_)
 refine gE (.vw 0 1 i nU ci true) (fun _=>⟨?_,?_⟩) ?_
 ·simp [ht,dF,bJ];omega
 ·simp [ht,aS,aM,rT,ot]
 cbv
 refine bE (bG (ni:Nat)) [.row 1 L1,.bt] ?_ ?_ ?_ ?_
 ·simp only [ht,eB]
  refine ⟨by omega,⟨by omega,?_⟩,?_⟩
  ·intro h;rw [h] at hn;simp at hn;omega
  intro r hr;exact aA r (List.mem_of_mem_drop (List.mem_of_mem_take hr))
 ·simp [ht,aa];omega
 ·simp only [ht,rU]
  rw [List.take_of_length_le (by simp;omega)]
 cbv
 refine bE (.vw 0 1 i nU ci true) [.row 1 L1,.bt] ?_ ?_ rfl ?_
 ·simp [ht,dF,bJ];omega
 ·simp [ht,aS,aM,rT,ot]
 cbv
 refine bE (bG 1) [.row 1 r,.bt] ?_ ?_ ?_ ?_
 ·simp only [ht,eB]
  refine ⟨⟨by omega,?_⟩,?_⟩
  ·intro h;rw [h] at lH;simp at lH;omega
  intro r hr;have:=List.mem_of_mem_take hr;simp at this;rw [this];exact hrow
 ·simp [ht,aa];omega
 ·simp [ht,oI,show min 1 nU=1 by omega]
 cbv
 refine wG [true] trv ?_ rfl rfl rfl ?_
 ·simp only [ht];omega
 simp only [ht];rw [←yS]
theorem E6 (ht:TT t) {es:List (List D)} {x:D} {row:List D} {i n:Nat} (hn:n=es.length) (hi:i≤n) (aA:∀r∈es,r.length=1) (hrow:(x::row).length=1) (hs:n<1000000) {r:List (List D)} (hr:r=es.take i++(x::row)::es.drop i):
 FC 198 [.ow 0 1 n,bG (i:Int),SL [x::row]] [.row 1 es] (.ret (SL r)) [.dead]:=
 dK fun c hc hc0=>CA ht hn hi hc hc0 aA hrow hs hr
theorem CB (ht:TT t) {l:List aQ} {x:aQ} {k:Nat} {i:Int} (hi:i=k) (hk:k≤l.length) (hl:l.length<1000000):
 FC 198 [.ow 0 1 (t _ fun _=>(l.map bg).length),bG i,.cl [[.str x]]] [.row 1 (t _ fun _=>l.map bg)] (.ret (SL (t _ fun _=>(l.take k++x::l.drop k).map bg))) [.dead]:=by
 simp only [ht];subst hi
 refine nO (args':=[.ow 0 1 (l.map bg).length,bG k,SL [bg x]]) ?_ (E6 ht (by simp) (by simpa using hk) ?_ rfl (by simpa using hl) (by simp))
 ·intro β w ok vs h
  simp only [ak] at h ⊢
  obtain ⟨u1,VH,rfl,h1,u2,LC,rfl,h2,u3,Sf,rfl,h3,h4⟩:=h
  exact ⟨u1,_,rfl,h1,u2,_,rfl,h2,u3,Sf,rfl,IB h3,h4⟩
 intro r hr;obtain ⟨y,_,rfl⟩:=List.mem_map.1 hr;rfl
theorem E7 (ht:TT t) (s:aQ) (hs:s.length<1000000000000):FC 155 [ST s] [] (.ret (ED t (t _ fun _=>above s))) []:=by
 have hp:=jE s
 have hl:=gF s
 refine bL ht (aI:=[]) Tryz.func155 rfl rfl (N:=7) rfl rfl (n:=0) rfl rfl ?_
 cbv
 refine jg trv (IV ht s ‹_›) trv rfl (.inr rfl) ?_
 cbv
 refine dx [0] trv rfl rfl (CB ht (l:=lT s) (x:=[]) (k:=0) rfl (by omega) (by omega)) (cj ?_)
 cbv
 refine ax trv trv rfl rfl rfl ?_
 (simp [ht,above];done)
theorem yW (ht:TT t) (s:aQ) (hs:s.length<1000000000000):FC 125 [ST s] [] (.ret (cP (t _ fun _=>named s))) []:=by
 refine bL ht (aI:=[]) Tryz.func125 rfl rfl (N:=10) rfl rfl (n:=0) rfl rfl ?_
 cbv
 iterate 2 refine gI (by simp [ht]) ?_
 refine cY (fun g0=>⟨by simp [ht] at g0 ⊢;exact g0,trv,E5 ht _ _ ‹_›⟩) rfl rfl (fun r1 dM=>?_)
 simp only [ht] at dM
 cbv
 refine pI (by simp [ht]) ?_
 refine ax trv trv rfl rfl rfl ?_
 (simp [named, *];done)
theorem Ba (ht:TT t) (s:aQ) (hs:s.length<1000000000000):FC 127 [ST s] [] (.ret (Pk (t _ fun _=>parent s))) []:=by
 have hp:=jE s
 have hl:=gF s
 obtain ⟨ps,hps⟩:∃p,p=parent s:=⟨_,rfl⟩
 refine bL ht (aI:=[]) Tryz.func127 rfl rfl (N:=13) rfl rfl (n:=0) rfl rfl ?_
 cbv
 refine aB trv (E7 ht _ ‹_›) trv rfl rfl rfl (fun r0 cF=>?_)
 simp only [ht] at cF
 have hla:(r0).length=(parts s).length+1:=by rw [cF];simp [above,gF]
 have hpx:(r0)[(r0).length-2]?=some ps:=by rw [hps,cF,parent,List.getD_eq_getElem?_getD,List.getElem?_eq_getElem (by rw [cF] at hla;omega)];rfl
 cbv
 (refine yC ht (l:=r0) (cells:=bg) (cT:=dN t) (i:=r0.length-2) (x:=ps) (by simp only [ht];done) hpx (by simp only [ht,aa,lgM];rw [wrap64 (by omega) (by omega)];omega) (fun _=>rfl) (fun _=>rfl) ?_)
 cbv
 refine ax trv trv rfl rfl rfl ?_
 (simp [ht,hps];done)
def bu.bC (_:Th) (e:bu):List D:=[.str e.path,.int .u64 e.fT.a,.int .u64 e.fT.b,.int .u64 e.fT.c,.int .u64 e.fT.d,.int .u64 e.used.a,.int .u64 e.used.b,.int .u64 e.used.c,.int .u64 e.used.d]
def UT (e:bu):AV:=.agg [ST e.path,az e.fT.a,az e.fT.b,az e.fT.c,az e.fT.d,az e.used.a,az e.used.b,az e.used.c,az e.used.d]
def UU (r:bu×Bool):AV:=.dL [UT r.1,BL r.2]
def Ra (t:Th) (l:List bu):AV:=SL (t _ fun _=>l.map bu.cells)
def yX (t:Th) (r:List bu×Int):AV:=.dL [Ra t r.1,bG r.2]
theorem Kh (ht:TT t) (q:aQ) {l:List (bu)} {es:List (List D)} (aA:es=l.map bu.cells) (f:Nat) (p:bu→Bool) (hl:l.length<9223372036854775807)
 (hf:∀x∈l,FC f [.agg [ST x.path,az x.fT.a,az x.fT.b,az x.fT.c,az x.fT.d,az x.used.a,az x.used.b,az x.used.c,az x.used.d],.ptr 0 0] [.var [ST q]] (.ret (BL (p x))) [.var [ST q]]) {r:Int} (hr:r=idxOf p l):FC 174 [SL es,.fn f [.ptr 0 0]] [.var [ST q]] (.ret (bG r)) [.var [ST q]]:=by
 have hel:es.length=l.length:=by rw [aA,lgM]
 obtain ⟨J,hJ⟩:∃J:Nat→Nat→Prop,∀n v,J n v↔(v+n=l.length∧∀i<v,∀x,l[i]?=some x→p x=false):=⟨fun n v=>v+n=l.length∧∀i<v,∀x,l[i]?=some x→p x=false,fun _ _=>Iff.rfl⟩
 refine bL ht (aI:=[.var [ST q]]) Tryz.func174 rfl rfl (N:=19) rfl rfl (n:=1) rfl rfl ?_
 cbv
 refine bI ⟨[0,1,7,8],[],[]⟩ (σ:=Nat) (fun k=>[(8,bG (t _ fun _=>(k:Int)))]) (fun _=>[]) J ?_
 cbv
 refine aC ⟨l.length,0,(hJ _ _).2 ⟨by omega,by intro i hi;simp at hi⟩,by simp only [ht];rfl,?_⟩
 rintro n k hj
 obtain ⟨h2,h3⟩:=(hJ _ _).1 hj
 clear hj
 cbv
 refine an (fun h=>?_) (fun h=>?_)
 ·simp only [ht,aa,decide_eq_true_eq] at h
  have hk:k<l.length:=by omega
  obtain ⟨x,hx⟩:∃x,l[k]?=some x:=⟨l[k],by simp⟩
  have oo:x∈l:=List.mem_of_getElem? hx
  have gG:=hf x oo
  obtain ⟨px,hpx⟩:∃b,b=p x:=⟨_,rfl⟩
  rw [←hpx] at gG
  obtain ⟨nm,⟨a,b,c,d⟩,⟨e,g,u,v⟩⟩:=x
  cbv
  refine cI [.str nm,.int .u64 a,.int .u64 b,.int .u64 c,.int .u64 d,.int .u64 e,.int .u64 g,.int .u64 u,.int .u64 v] ?_ ?_ ?_
  ·simp only [ht,aa];refine ⟨by omega,h,?_⟩;rw [aA];intro r hr;obtain ⟨y,_,rfl⟩:=List.mem_map.1 hr;rfl
  ·simp [ht,aa,aA,hx]
  cbv
  refine dV trv gG ?_
  cbv
  refine an (fun hb=>?_) (fun hb=>?_)
  ·cbv
   refine ax trv trv rfl rfl rfl ?_
   have e:=de hx (hpx▸hb) h3
   simp only [ht,aa,hr,idxOf,e]
  cbv
  refine aC ⟨n-1,k+1,⟨by omega,(hJ _ _).2 ⟨by omega,?_⟩⟩,?_⟩
  ·intro i hi y hy
   by_cases hik:i<k
   ·exact h3 i hik y hy
   have:i=k:=by omega
   subst this;rw [hx] at hy;cases hy;rw [←hpx];exact hb
  simp only [ht,aa,aD (show k<9223372036854775807 by omega)];rfl
 simp only [ht,aa,decide_eq_false_iff_not] at h
 have hk:¬k<l.length:=by omega
 clear h
 cbv
 refine ax trv trv rfl rfl rfl ?_
 rw [hr,idxOf,dA]
 intro i y hy
 have:i<l.length:=by
  rcases Nat.lt_or_ge i l.length with h'|h';· exact h'
  simp [List.getElem?_eq_none h'] at hy
 exact h3 i (by omega) y hy
theorem Ki (ht:TT t) (q:aQ) (x:bu):FC 175 [.agg [ST x.path,az x.fT.a,az x.fT.b,az x.fT.c,az x.fT.d,az x.used.a,az x.used.b,az x.used.c,az x.used.d],.ptr 0 0] [.var [ST q]] (.ret (BL (decide (x.path=q)))) [.var [ST q]]:=by
 obtain ⟨nm,⟨a,b,c,d⟩,⟨e,g,u,v⟩⟩:=x
 refine bL ht (aI:=[.var [ST q]]) Tryz.func175 rfl rfl (N:=8) rfl rfl (n:=1) rfl rfl ?_
 cbv
 refine ax trv trv rfl rfl rfl ?_
 simp [ht]
theorem kS (ht:TT t) (q:aQ) {l:List bu} {es:List (List D)} (aA:es=l.map bu.cells) (hl:l.length<1000000000):
 FC 126 [SL es,ST q] [] (.ret (fQ (t _ fun _=>bV l q))) []:=by
 obtain ⟨r,hr⟩:∃r,r=bV l q:=⟨_,rfl⟩
 refine bL ht (aI:=[]) Tryz.func126 rfl rfl (N:=8) rfl rfl (n:=0) rfl rfl ?_
 cbv
 refine dV trv (Kh ht q aA 175 (fun x=>decide (x.path=q)) (by omega) (fun x _=>Ki ht q x) (r:=r) hr) ?_
 cbv
 exact ax trv trv rfl rfl rfl (by simp [ht,hr])
theorem CC {l:List bu} {q:aQ} {r:Int} (h:r=bV l q):(r=-1∧ph l q=(bu.zero,false))∨∃(k:Nat) (x:bu),r=k∧k<l.length∧l[k]?=some x∧ph l q=(x,true):=by
 rcases cE (p:=fun e:bu=>decide (e.path=q)) (l:=l) (r:=r) h with ⟨e1,e2,e3⟩|⟨i,x,hi,hil,e1,e2,e3,e4⟩
 ·exact .inl ⟨e1,by simp [ph,e3]⟩
 exact .inr ⟨i,x,hi,hil,e1,by simp [ph,e4]⟩
theorem Ni (ht:TT t) (q:aQ) {l:List bu} {es:List (List D)} (aA:es=l.map bu.cells) (hl:l.length<1000000000):
 FC 180 [SL es,ST q] [] (.ret (UU (t _ fun _=>ph l q))) []:=by
 refine bL ht (aI:=[]) Tryz.func180 rfl rfl (N:=17) rfl rfl (n:=0) rfl rfl ?_
 cbv
 have av:es.length=l.length:=by rw [aA,lgM]
 refine aZ trv (kS ht _ ‹_› ‹_›) trv rfl rfl (fun r0 cF=>?_)
 simp only [ht] at cF
 have ec:=CC cF
 clear cF
 rcases ec with ⟨e1,e2⟩|⟨i,x,hi,hil,e1,e2⟩
 ·cbv
  refine an (fun h1=>?_) (fun h1=>?_)
  ·simp [ht] at h1
   cbv
   refine ax trv trv rfl rfl rfl ?_
   (simp [ht,e2,bu.zero,bM.zero];done)
  simp [ht] at h1
  omega
 cbv
 refine an (fun h2=>?_) (fun h2=>?_)
 ·simp [ht] at h2
  (simp only [aa] at*;omega)
 simp [ht] at h2
 cbv
 refine yC ht aA (cT:=bu.bC t) e1 ‹_› (fun _=>rfl) (fun _=>rfl) ?_
 cbv
 refine ax trv trv rfl rfl rfl ?_
 (simp [ht,e2];done)
theorem PV (ht:TT t) (a b c d:Int):FC 90 [V4 a b c d] [] (.ret (Ra t (t _ fun _=>[⟨[],⟨a,b,c,d⟩,bM.zero⟩]))) []:=by
 refine bL ht (aI:=[]) Tryz.func90 rfl rfl (N:=6) rfl rfl (n:=0) rfl rfl ?_
 cbv
 refine ax trv trv rfl rfl rfl ?_
 (simp [ht,bM.zero];done)
end Dem
end
