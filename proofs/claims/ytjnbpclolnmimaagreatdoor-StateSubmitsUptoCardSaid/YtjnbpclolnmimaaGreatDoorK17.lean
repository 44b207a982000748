/- Parts of a proof, joined. -/
import Derived.Test.YtjnbpclolnmimaaGreatDoorK16
import Derived.Laws.Externs
set_option linter.all false
set_option maxRecDepth 100000
set_option maxHeartbeats 4000000
section
open Go Dem Go.Proofs
namespace Dem
variable {t:Th}
theorem HR (ht:TT t) (bB:Int) {l:List (Place)} {es:List (List D)} (aD:es=l.map Place.cells) (f:Nat) (p:Place→Bool) (hl:l.length<9223372036854775807)
 (hf:∀x∈l,FC f [.agg [.d (.int .u64 x.bB),.d (.str x.node),.d (.int .u64 x.v.a),.d (.int .u64 x.v.b),.d (.int .u64 x.v.c),.d (.int .u64 x.v.d)],.ptr 1 0] [.var [.d (.int .u64 bB)],.var [.fn 175 [.ptr 0 0]]] (.ret (BL (p x))) [.var [.d (.int .u64 bB)],.var [.fn 175 [.ptr 0 0]]]) {r:Int} (hr:r=idxOf p l):FC 161 [SL es,.fn f [.ptr 1 0]] [.var [.d (.int .u64 bB)],.var [.fn 175 [.ptr 0 0]]] (.ret (bc r)) [.var [.d (.int .u64 bB)],.var [.fn 175 [.ptr 0 0]]]:=by
 have hel:es.length=l.length:=by rw [aD,lgM]
 obtain ⟨J,hJ⟩:∃J:Nat→Nat→Prop,∀n v,J n v↔(v+n=l.length∧∀i<v,∀x,l[i]?=some x→p x=false):=⟨fun n v=>v+n=l.length∧∀i<v,∀x,l[i]?=some x→p x=false,fun _ _=>Iff.rfl⟩
 refine bA ht (aB:=[.var [.d (.int .u64 bB)],.var [.fn 175 [.ptr 0 0]]]) Tryz.func161 rfl rfl (N:=19) rfl rfl (n:=2) rfl rfl ?_
 cbv
 refine bg ⟨[0,1,7,8],[],[]⟩ (σ:=Nat) (fun k=>[(8,bc (t _ fun _=>(k:Int)))]) (fun _=>[]) J ?_
 cbv
 refine aC ⟨l.length,0,(hJ _ _).2 ⟨by omega,by intro i hi;simp at hi⟩,by simp only [ht];rfl,?_⟩
 rintro n k hj
 obtain ⟨h2,h3⟩:=(hJ _ _).1 hj
 clear hj
 cbv
 refine ai (fun h=>?_) (fun h=>?_)
 ·simp only [ht,aa,decide_eq_true_eq] at h
  have hk:k<l.length:=by omega
  obtain ⟨x,hx⟩:∃x,l[k]?=some x:=⟨l[k],by simp⟩
  have nO:x∈l:=List.mem_of_getElem? hx
  have gS:=hf x nO
  obtain ⟨px,hpx⟩:∃b,b=p x:=⟨_,rfl⟩
  rw [←hpx] at gS
  obtain ⟨jb,nd,⟨v1,v2,v3,v4⟩⟩:=x
  cbv
  refine iq [.int .u64 jb,.str nd,.int .u64 v1,.int .u64 v2,.int .u64 v3,.int .u64 v4] ?_ ?_ ?_
  ·simp only [ht,aa];refine ⟨by omega,h,?_⟩;rw [aD];intro r hr;obtain ⟨y,_,rfl⟩:=List.mem_map.1 hr;rfl
  ·simp [ht,aa,aD,hx]
  cbv
  refine de trv gS ?_
  cbv
  refine ai (fun hb=>?_) (fun hb=>?_)
  ·cbv
   refine ak trv trv rfl rfl rfl ?_
   have e:=cO hx (hpx▸hb) h3
   simp only [ht,aa,hr,idxOf,e]
  cbv
  refine aC ⟨n-1,k+1,⟨by omega,(hJ _ _).2 ⟨by omega,?_⟩⟩,?_⟩
  ·intro i hi y hy
   by_cases hik:i<k
   ·exact h3 i hik y hy
   have:i=k:=by omega
   subst this;rw [hx] at hy;cases hy;rw [←hpx];exact hb
  simp only [ht,aa,aE (show k<9223372036854775807 by omega)];rfl
 simp only [ht,aa,decide_eq_false_iff_not] at h
 have hk:¬k<l.length:=by omega
 clear h
 cbv
 refine ak trv trv rfl rfl rfl ?_
 rw [hr,idxOf,cR]
 intro i y hy
 have:i<l.length:=by
  rcases Nat.lt_or_ge i l.length with h'|h';· exact h'
  simp [List.getElem?_eq_none h'] at hy
 exact h3 i (by omega) y hy
theorem HS (ht:TT t) (bB:Int) {l:List (Place)} {es:List (List D)} (aD:es=l.map Place.cells) {m c:Nat} (hm:m=l.length) (hc:m≤c) (f:Nat) (p:Place→Bool) (hl:l.length<9223372036854775807)
 (hf:∀x∈l,FC f [.agg [.d (.int .u64 x.bB),.d (.str x.node),.d (.int .u64 x.v.a),.d (.int .u64 x.v.b),.d (.int .u64 x.v.c),.d (.int .u64 x.v.d)],.ptr 1 0] [.var [.d (.int .u64 bB)],.var [.fn 175 [.ptr 0 0]]] (.ret (BL (p x))) [.var [.d (.int .u64 bB)],.var [.fn 175 [.ptr 0 0]]]) {r:List (List D)} (hr:r=(l.filter (fun x=>!p x)).map Place.cells):
 FC 205 [.vw 2 6 0 m c true,.fn f [.ptr 1 0]] [.var [.d (.int .u64 bB)],.var [.fn 175 [.ptr 0 0]],.row 6 es] (.ret (SL r)) [.var [.d (.int .u64 bB)],.var [.fn 175 [.ptr 0 0]],.dead]:=by
 have hel:es.length=m:=by rw [aD,lgM,hm]
 have hrows:∀r∈es,r.length=6:=by rw [aD];intro r hr;obtain ⟨y,_,rfl⟩:=List.mem_map.1 hr;rfl
 obtain ⟨k,hk⟩:∃k,k=idxOf p l:=⟨_,rfl⟩
 have Kk:(t (List (List D)) fun _=>(es.drop 0).take m)=l.map Place.cells:=by simp only [ht];rw [List.drop_zero,List.take_of_length_le (by omega),aD]
 have hidx:=HR ht bB Kk f p hl hf hk
 obtain ⟨J,hJ⟩:∃J:Nat→Nat×Nat×List (List D)→Prop,∀n v,J n v↔(v.2.1+n=m∧v.1<v.2.1∧v.2.2.length=m∧(∀r∈v.2.2,r.length=6)∧v.2.2.take v.1=((l.take v.2.1).filter (fun x=>!p x)).map Place.cells∧v.2.2.drop v.2.1=es.drop v.2.1):=⟨fun n v=>v.2.1+n=m∧v.1<v.2.1∧v.2.2.length=m∧(∀r∈v.2.2,r.length=6)∧v.2.2.take v.1=((l.take v.2.1).filter (fun x=>!p x)).map Place.cells∧v.2.2.drop v.2.1=es.drop v.2.1,fun _ _=>Iff.rfl⟩
 refine bA ht (aB:=[.var [.d (.int .u64 bB)],.var [.fn 175 [.ptr 0 0]],.row 6 es]) Tryz.func205 rfl rfl (N:=42) rfl rfl (n:=3) rfl rfl ?_
 cbv
 refine UM (TT.eq ht) (v:=bc k) [false,false,true] [0,1] trv rfl ?_ rfl rfl rfl rfl rfl rfl rfl hidx ?_
 ·simp [ht];omega
 cbv
 refine ai (fun h=>?_) (fun h=>?_)
 ·have Ci:k=-1:=by simp [ht] at h;exact h
  have hnone:=sb (hk▸Ci:idxOf p l=-1)
  clear h
  cbv
  refine AQ [false,false,true] trv ?_ rfl rfl rfl ?_
  ·simp only [ht];omega
  simp only [ht,hr];rw [filter_all hnone,←aD,List.drop_zero,List.take_of_length_le (by omega)]
 have Ci:k≠-1:=by simp [ht] at h;exact h
 clear h
 obtain ⟨i0,x0,Yt,hx0,hp0,hb0⟩:=sg (hk▸Ci:idxOf p l≠-1)
 rw [←hk] at Yt
 subst Yt
 have aaz:i0<m:=by rw [hm];exact (List.getElem?_eq_some_iff.1 hx0).1
 cbv
 refine bg ⟨[0,1,5,6],[],[]⟩ (σ:=Nat×Nat×List (List D)) (fun v=>[(5,bc (t _ fun _=>(v.1:Int))),(6,bc (t _ fun _=>(v.2.1:Int)))]) (fun v=>[(2,.row 6 (t _ fun _=>v.2.2))]) J ?_
 cbv
 refine aC ⟨m-(i0+1),(i0,i0+1,es),(hJ _ _).2 ⟨?_,?_,hel,hrows,?_,rfl⟩,by simp only [ht,aa,Int.ofNat_eq_natCast,aE (show i0<9223372036854775807 by omega)];rfl,?_⟩
 ·show i0+1+(m-(i0+1))=m;omega
 ·show i0<i0+1;omega
 ·show es.take i0=_
  rw [lZ hx0,List.filter_append,filter_all hb0,aD,←List.map_take];simp [hp0]
 rintro n ⟨i,j,cur⟩ hj
 obtain ⟨j1,j2,j3,j4,j5,j6⟩:=(hJ _ _).1 hj
 clear hj
 simp only at j1 j2 j3 j4 j5 j6
 cbv
 refine ai (fun h=>?_) (fun h=>?_)
 ·have Yu:j<m:=by simp [ht,aa] at h;omega
  clear h
  obtain ⟨x,hx⟩:∃x,l[j]?=some x:=⟨l[j]'(by omega),by simp⟩
  have nO:x∈l:=List.mem_of_getElem? hx
  have gS:=hf x nO
  have Qp:cur[j]?=some (Place.cells x):=by
   have:(cur.drop j)[0]?=(es.drop j)[0]?:=by rw [j6]
   rw [List.getElem?_drop,List.getElem?_drop,Nat.add_zero,aD,List.getElem?_map,hx] at this
   exact this
  obtain ⟨px,hpx⟩:∃b,b=p x:=⟨_,rfl⟩
  rw [←hpx] at gS
  obtain ⟨cx,Ov⟩:∃cx,cx=Place.cells x:=⟨_,rfl⟩
  rw [←Ov] at Qp
  have hstep:(l.take (j+1)).filter (fun x=>!p x)=(l.take j).filter (fun x=>!p x)++(if px then [] else [x]):=by
   rw [lZ hx,List.filter_append];cases px<;>simp [←hpx]
  obtain ⟨jb,nd,⟨v1,v2,v3,v4⟩⟩:=x
  cbv
  refine ⟨?_,Vx [.int .u64 jb,.str nd,.int .u64 v1,.int .u64 v2,.int .u64 v3,.int .u64 v4] ?_ ?_ ?_⟩
  ·simp [ht,aa];omega
  ·simp [ht,aa,j3];omega
  ·simp [ht,aa,List.getD_eq_getElem?_getD,Qp,Ov]
  cbv
  refine cD [0,1] trv rfl rfl gS (bK ?_)
  cbv
  refine ai (fun hb=>?_) (fun hb=>?_)
  ·have hb':px=false:=by simpa [ht] using hb
   clear hb
   obtain ⟨nc,hnc⟩:∃nc,nc=cur.set i cx:=⟨_,rfl⟩
   have uo:(cur.getD i []).length=6:=j4 _ (by rw [List.getD_eq_getElem?_getD,List.getElem?_eq_getElem (by omega)];exact List.getElem_mem _)
   cbv
   refine ⟨?_,?_⟩
   ·simp [ht,aa];omega
   refine ⟨?_,?_⟩
   ·simp [ht,aa,j3];exact ⟨by omega,by simpa using uo.symm▸(Nat.le_refl _)⟩
   refine aC ⟨n-1,(i+1,j+1,nc),⟨by omega,(hJ _ _).2 ⟨?_,?_,?_,?_,?_,?_⟩⟩,?_⟩
   ·show j+1+(n-1)=m;omega
   ·show i+1<j+1;omega
   ·show nc.length=m;rw [hnc,List.length_set];exact j3
   ·show ∀r∈nc,r.length=6
    intro r hr;rw [hnc] at hr
    rcases List.mem_or_eq_of_mem_set hr with hr|rfl
    ·exact j4 r hr
    rw [Ov];rfl
   ·show nc.take (i+1)=_
    rw [hnc,nM _ _ _ (by omega),j5,hstep,hb',Ov];simp
   ·show nc.drop (j+1)=es.drop (j+1)
    rw [hnc,ry _ _ _ _ (by omega),←List.drop_drop,j6,List.drop_drop]
   simp only [ht,aa,Int.ofNat_eq_natCast,aE (show i<9223372036854775807 by omega),aE (show j<9223372036854775807 by omega)]
   have ei:0+((i:Int)).toNat=i:=by simp
   have e:cur.set i (bG (cur.getD i []) 0 [.int .u64 jb,.str nd,.int .u64 v1,.int .u64 v2,.int .u64 v3,.int .u64 v4])=nc:=by rw [hnc,nL _ _ (by rw [uo];rfl),Ov]
   simp only [ei,e];rfl
  have hb':px=true:=by simpa [ht] using hb
  clear hb
  cbv
  refine aC ⟨n-1,(i,j+1,cur),⟨by omega,(hJ _ _).2 ⟨?_,?_,j3,j4,?_,?_⟩⟩,?_⟩
  ·show j+1+(n-1)=m;omega
  ·show i<j+1;omega
  ·show cur.take i=_
   rw [j5,hstep,hb'];simp
  ·show cur.drop (j+1)=es.drop (j+1)
   rw [←List.drop_drop,j6,List.drop_drop]
  simp only [ht,aa,Int.ofNat_eq_natCast,aE (show j<9223372036854775807 by omega)];rfl
 have Yu:j=m:=by simp [ht,aa] at h;omega
 clear h
 obtain ⟨mi,Ck⟩:∃mi,mi=m-i:=⟨_,rfl⟩
 obtain ⟨ci,uo⟩:∃ci,ci=c-i:=⟨_,rfl⟩
 obtain ⟨nc,hnc⟩:∃nc,nc=wrote cur i (List.replicate mi [.int .u64 0,.str [],.int .u64 0,.int .u64 0,.int .u64 0,.int .u64 0]):=⟨_,rfl⟩
 have hnt:nc.take i=r:=by
  have hl':(cur.take i).length=i:=by simp;omega
  rw [hnc,wrote,List.append_assoc,List.take_left' hl',j5,hr,Yu,hm,List.take_length]
 have aaA:i≤nc.length:=by rw [hnc];simp [wrote];omega
 cbv
 refine bP (.vw 2 6 i mi ci true) [.var [.d (.int .u64 bB)],.var [.fn 175 [.ptr 0 0]],.row 6 cur] ?_ ?_ ?_ ?_
 ·simp [ht,aa,dX,bQ];omega
 ·simp [ht,aa,aT,aS,Ck,uo]
 ·simp only [ht]
 cbv
 refine bP (.dA []) [.var [.d (.int .u64 bB)],.var [.fn 175 [.ptr 0 0]],.row 6 nc] ?_ rfl ?_ ?_
 ·simp [ht,fe]
  refine ⟨by omega,?_⟩
  intro h;rw [h] at j3;simp at j3;omega
 ·simp only [ht,hnc]
 cbv
 refine bP (.vw 2 6 0 i c true) [.var [.d (.int .u64 bB)],.var [.fn 175 [.ptr 0 0]],.row 6 nc] ?_ ?_ rfl ?_
 ·simp [ht,aa,dX,bQ];omega
 ·simp [ht,aa,aT,aS]
 cbv
 refine AQ [false,false,true] trv ?_ rfl rfl rfl ?_
 ·simp only [ht];omega
 simp only [ht];rw [List.drop_zero,hnt]
theorem Kl (ht:TT t) (bB:Int) {l:List (Place)} {es:List (List D)} (aD:es=l.map Place.cells) {m:Nat} (hm:m=l.length) (f:Nat) (p:Place→Bool) (hl:l.length<9223372036854775807)
 (hf:∀x∈l,FC f [.agg [.d (.int .u64 x.bB),.d (.str x.node),.d (.int .u64 x.v.a),.d (.int .u64 x.v.b),.d (.int .u64 x.v.c),.d (.int .u64 x.v.d)],.ptr 1 0] [.var [.d (.int .u64 bB)],.var [.fn 175 [.ptr 0 0]]] (.ret (BL (p x))) [.var [.d (.int .u64 bB)],.var [.fn 175 [.ptr 0 0]]]) {r:List (List D)} (hr:r=(l.filter (fun x=>!p x)).map Place.cells):
 FC 205 [.ow 2 6 m,.fn f [.ptr 1 0]] [.var [.d (.int .u64 bB)],.var [.fn 175 [.ptr 0 0]],.row 6 es] (.ret (SL r)) [.var [.d (.int .u64 bB)],.var [.fn 175 [.ptr 0 0]],.dead]:=
 fF fun c hc _=>HS ht bB aD hm hc f p hl hf hr
theorem Td (ht:TT t) (bB jb:Int) (nd:aA) (v1 v2 v3 v4:Int) {r:Bool} (hr:r=!decide (jb=bB)):FC 175 [.agg [.d (.int .u64 jb),.d (.str nd),.d (.int .u64 v1),.d (.int .u64 v2),.d (.int .u64 v3),.d (.int .u64 v4)],.ptr 0 0] [.var [.d (.int .u64 bB)]] (.ret (BL r)) [.var [.d (.int .u64 bB)]]:=by
 refine bA ht (aB:=[.var [.d (.int .u64 bB)]]) Tryz.func175 rfl rfl (N:=8) rfl rfl (n:=1) rfl rfl ?_
 cbv
 refine ak trv trv rfl rfl rfl ?_
 simp only [ht,hr]
theorem Te (ht:TT t) (bB jb:Int) (nd:aA) (v1 v2 v3 v4:Int) {r:Bool} (hr:r=decide (jb=bB)):FC 206 [.agg [.d (.int .u64 jb),.d (.str nd),.d (.int .u64 v1),.d (.int .u64 v2),.d (.int .u64 v3),.d (.int .u64 v4)],.ptr 1 0] [.var [.d (.int .u64 bB)],.var [.fn 175 [.ptr 0 0]]] (.ret (BL r)) [.var [.d (.int .u64 bB)],.var [.fn 175 [.ptr 0 0]]]:=by
 obtain ⟨q,hq⟩:∃q,q=!decide (jb=bB):=⟨_,rfl⟩
 refine bA ht (aB:=[.var [.d (.int .u64 bB)],.var [.fn 175 [.ptr 0 0]]]) Tryz.func206 rfl rfl (N:=8) rfl rfl (n:=2) rfl rfl ?_
 cbv
 refine cD [0] trv rfl rfl (Td ht bB jb nd v1 v2 v3 v4 hq) (bK ?_)
 cbv
 refine ak trv trv rfl rfl rfl ?_
 simp only [ht,hr,hq];simp
theorem Km (ht:TT t) (bB:Int) {l:List Place} {es:List (List D)} (aD:es=l.map Place.cells) (hl:l.length<1000000) {r:List (List D)} (hr:r=(l.filter (fun x=>!decide (x.bB=bB))).map Place.cells):
 FC 174 [SL es,.fn 175 [.ptr 0 0]] [.var [.d (.int .u64 bB)]] (.ret (SL r)) [.var [.d (.int .u64 bB)]]:=by
 have hrows:∀r∈es,r.length=6:=by rw [aD];intro r hr;obtain ⟨y,_,rfl⟩:=List.mem_map.1 hr;rfl
 obtain ⟨m,hm⟩:∃m,m=l.length:=⟨_,rfl⟩
 have hel:m=es.length:=by rw [aD,lgM,hm]
 refine bA ht (aB:=[.var [.d (.int .u64 bB)]]) Tryz.func174 rfl rfl (N:=9) rfl rfl (n:=1) rfl rfl ?_
 cbv
 refine pQ trv (vO ht hrows (by rw [←hel];omega) hel) trv rfl (.inr rfl) ?_
 cbv
 refine cD [0,1,2] trv rfl rfl (Kl ht bB aD hm 206 (fun x=>decide (x.bB=bB)) (by omega) (fun x _=>Te ht bB x.bB x.node x.v.a x.v.b x.v.c x.v.d rfl) hr) (bK ?_)
 cbv
 exact ak trv trv rfl rfl rfl rfl
theorem Kn (ht:TT t) (bB:Int) {ns:List (List D)} {l:List Place} {es:List (List D)} (aD:es=l.map Place.cells) (hl:l.length<1000000) {r:List (List D)} (hr:r=(l.filter (fun x=>!decide (x.bB=bB))).map Place.cells):
 FC 127 [.agg [SL ns,SL es],ax bB] [] (.ret (.agg [SL ns,SL r])) []:=by
 refine bA ht (aB:=[]) Tryz.func127 rfl rfl (N:=12) rfl rfl (n:=0) rfl rfl ?_
 cbv
 refine bS [false,false,false,false,false,false,true,true] (by kernel_rfl) (by kernel_rfl) ?_
 cbv
 repeat (refine gI (by (simp;done)) ?_)
 refine .inl (Vy [true,false,true] [1] (fun _=>⟨trv,trv,Km ht bB aD hl hr⟩) rfl rfl (.inr ⟨rfl,rfl⟩) rfl rfl rfl rfl ?_)
 cbv
 exact ak trv trv rfl rfl rfl rfl
theorem Qq (ht:TT t) (name nm:aA) (a b c d:Int) (lr:List (List D)) (up:Bool) {r:Bool} (hr:r=decide (nm=name)):
 FC 152 [.agg [.d (.str nm),.d (.int .u64 a),.d (.int .u64 b),.d (.int .u64 c),.d (.int .u64 d),.d (.sl lr),.d (.bool up)],.ptr 0 0] [.var [.d (.str name)]] (.ret (BL r)) [.var [.d (.str name)]]:=by
 refine bA ht (aB:=[.var [.d (.str name)]]) Tryz.func152 rfl rfl (N:=8) rfl rfl (n:=1) rfl rfl ?_
 cbv
 refine ak trv trv rfl rfl rfl ?_
 simp only [ht,hr]
theorem Nh (ht:TT t) (name:aA) {l:List (Node)} {es:List (List D)} (aD:es=l.map Node.cells) (f:Nat) (p:Node→Bool) (hl:l.length<9223372036854775807)
 (hf:∀x∈l,FC f [.agg [.d (.str x.name),.d (.int .u64 x.cap.a),.d (.int .u64 x.cap.b),.d (.int .u64 x.cap.c),.d (.int .u64 x.cap.d),.d (.sl (x.labels.map bR.cells)),.d (.bool x.up)],.ptr 0 0] [.var [.d (.str name)]] (.ret (BL (p x))) [.var [.d (.str name)]]) {r:Int} (hr:r=idxOf p l):FC 96 [SL es,.fn f [.ptr 0 0]] [.var [.d (.str name)]] (.ret (bc r)) [.var [.d (.str name)]]:=by
 have hel:es.length=l.length:=by rw [aD,lgM]
 obtain ⟨J,hJ⟩:∃J:Nat→Nat→Prop,∀n v,J n v↔(v+n=l.length∧∀i<v,∀x,l[i]?=some x→p x=false):=⟨fun n v=>v+n=l.length∧∀i<v,∀x,l[i]?=some x→p x=false,fun _ _=>Iff.rfl⟩
 refine bA ht (aB:=[.var [.d (.str name)]]) Tryz.func96 rfl rfl (N:=19) rfl rfl (n:=1) rfl rfl ?_
 cbv
 refine bg ⟨[0,1,7,8],[],[]⟩ (σ:=Nat) (fun k=>[(8,bc (t _ fun _=>(k:Int)))]) (fun _=>[]) J ?_
 cbv
 refine aC ⟨l.length,0,(hJ _ _).2 ⟨by omega,by intro i hi;simp at hi⟩,by simp only [ht];rfl,?_⟩
 rintro n k hj
 obtain ⟨h2,h3⟩:=(hJ _ _).1 hj
 clear hj
 cbv
 refine ai (fun h=>?_) (fun h=>?_)
 ·simp only [ht,aa,decide_eq_true_eq] at h
  have hk:k<l.length:=by omega
  obtain ⟨x,hx⟩:∃x,l[k]?=some x:=⟨l[k],by simp⟩
  have nO:x∈l:=List.mem_of_getElem? hx
  have gS:=hf x nO
  obtain ⟨px,hpx⟩:∃b,b=p x:=⟨_,rfl⟩
  rw [←hpx] at gS
  obtain ⟨nm,⟨a,b,c,d⟩,lb,up⟩:=x;obtain ⟨lr,hlr⟩:∃lr:List (List D),lr=lb.map bR.cells:=⟨_,rfl⟩;simp only [←hlr] at gS
  cbv
  refine iq [.str nm,.int .u64 a,.int .u64 b,.int .u64 c,.int .u64 d,.sl lr,.bool up] ?_ ?_ ?_
  ·simp only [ht,aa];refine ⟨by omega,h,?_⟩;rw [aD];intro r hr;obtain ⟨y,_,rfl⟩:=List.mem_map.1 hr;rfl
  ·simp [ht,aa,aD,hx,hlr]
  cbv
  refine de trv gS ?_
  cbv
  refine ai (fun hb=>?_) (fun hb=>?_)
  ·cbv
   refine ak trv trv rfl rfl rfl ?_
   have e:=cO hx (hpx▸hb) h3
   simp only [ht,aa,hr,idxOf,e]
  cbv
  refine aC ⟨n-1,k+1,⟨by omega,(hJ _ _).2 ⟨by omega,?_⟩⟩,?_⟩
  ·intro i hi y hy
   by_cases hik:i<k
   ·exact h3 i hik y hy
   have:i=k:=by omega
   subst this;rw [hx] at hy;cases hy;rw [←hpx];exact hb
  simp only [ht,aa,aE (show k<9223372036854775807 by omega)];rfl
 simp only [ht,aa,decide_eq_false_iff_not] at h
 have hk:¬k<l.length:=by omega
 clear h
 cbv
 refine ak trv trv rfl rfl rfl ?_
 rw [hr,idxOf,cR]
 intro i y hy
 have:i<l.length:=by
  rcases Nat.lt_or_ge i l.length with h'|h';· exact h'
  simp [List.getElem?_eq_none h'] at hy
 exact h3 i (by omega) y hy
theorem Ma (ht:TT t) (name:aA) {l:List Node} {es ps:List (List D)} (aD:es=l.map Node.cells) (hl:l.length<9223372036854775807) {r:Int} (hr:r=idxOf (fun x=>decide (x.name=name)) l):
 FC 95 [.agg [SL es,SL ps],ST name] [] (.ret (bc r)) []:=by
 refine bA ht (aB:=[]) Tryz.func95 rfl rfl (N:=9) rfl rfl (n:=0) rfl rfl ?_
 cbv
 refine cD [1] trv rfl rfl (Nh ht name aD 152 (fun x=>decide (x.name=name)) hl (fun x _=>Qq ht name x.name x.cap.a x.cap.b x.cap.c x.cap.d _ x.up rfl) hr) (bK ?_)
 cbv
 exact ak trv trv rfl rfl rfl rfl
theorem Qr (ht:TT t) (name:aA) {l:List Node} {es ps:List (List D)} (aD:es=l.map Node.cells) (hl:l.length<9223372036854775807) {nm:aA} {a b c d:Int} {lb:List bR} {up ok:Bool} (hr:fV name l=(⟨nm,⟨a,b,c,d⟩,lb,up⟩,ok)) {lr:List (List D)} (hlr:lr=lb.map bR.cells):
 FC 160 [.agg [SL es,SL ps],ST name] [] (.ret (.dA [.agg [.d (.str nm),.d (.int .u64 a),.d (.int .u64 b),.d (.int .u64 c),.d (.int .u64 d),.d (.sl lr),.d (.bool up)],BL ok])) []:=by
 have hrows:∀r∈es,r.length=7:=by rw [aD];intro r hr;obtain ⟨y,_,rfl⟩:=List.mem_map.1 hr;rfl
 obtain ⟨k,hk⟩:∃k,k=idxOf (fun x:Node=>decide (x.name=name)) l:=⟨_,rfl⟩
 have hneg:k<0→k=-1:=by intro h;rw [hk] at h ⊢;unfold idxOf at h ⊢;split at h<;>omega
 refine bA ht (aB:=[]) Tryz.func160 rfl rfl (N:=18) rfl rfl (n:=0) rfl rfl ?_
 cbv
 refine gV trv (Ma ht name aD hl hk) trv rfl rfl ?_
 cbv
 refine ai (fun h=>?_) (fun h=>?_)
 ·have Ci:k=-1:=hneg (by simpa [ht] using h)
  clear h hneg
  have hp:=MV (hk▸Ci)
  rw [hr] at hp
  obtain ⟨⟨rfl,⟨rfl,rfl,rfl,rfl⟩,rfl,rfl⟩,rfl⟩:(nm=[]∧(a=0∧b=0∧c=0∧d=0)∧lb=[]∧up=false)∧ok=false:=by
   simpa [Node.zero,bz.zero] using hp
  have aaB:lr=[]:=by rw [hlr];rfl
  subst aaB
  clear hlr
  cbv
  exact ak trv trv rfl rfl rfl rfl
 have Ci:k≠-1:=by intro h1;rw [h1] at h;simp [ht] at h
 clear h hneg
 obtain ⟨i,x,h1,h2,h3⟩:=MW (hk▸Ci)
 rw [hr] at h3
 simp only [Prod.mk.injEq] at h3
 obtain ⟨rfl,rfl⟩:=h3
 rw [←hk] at h1
 subst h1
 have hi:i<l.length:=(List.getElem?_eq_some_iff.1 h2).1
 have hel:es.length=l.length:=by rw [aD,lgM]
 cbv
 refine iq [.str nm,.int .u64 a,.int .u64 b,.int .u64 c,.int .u64 d,.sl lr,.bool up] ?_ ?_ ?_
 ·simp only [ht,aa,Int.ofNat_eq_natCast];exact ⟨by omega,by omega,hrows⟩
 ·simp [ht,aD,h2,hlr]
 cbv
 exact ak trv trv rfl rfl rfl rfl
theorem Tf (x y:Int) {r s:Int} (hr:r=(((x.toNat+y.toNat)%18446744073709551616:Nat):Int)) (hs:s=(((x.toNat+y.toNat) / 18446744073709551616:Nat):Int)):
 FC 139 [.d (.int .u64 x),.d (.int .u64 y),.d (.int .u64 0)] [] (.ret (.dA [.d (.int .u64 r),.d (.int .u64 s)])) []:=by
 refine Zh Tryz.func139 (by kernel_rfl) (by kernel_rfl) (by kernel_rfl) (e:=add64Entry) (by kernel_rfl) ?_
 intro β w vs ok h
 simp only [aj,ah,aH] at h
 obtain ⟨_,_,rfl,rfl,_,_,rfl,rfl,_,_,rfl,rfl,rfl⟩:=h
 refine ⟨.tuple #[.int .u64 r,.int .u64 s],?_,?_⟩
 ·subst hr hs;rfl
 simp only [ah,aj,aH];exact ⟨_,rfl,_,_,rfl,rfl,_,_,rfl,rfl,rfl⟩
def VV:Array Value→Sem Value:=fun args=>do
 let (x,y,b) ←Extern.MathBitsCarry.three "Sub64" args
 pure (Extern.MathBitsCarry.pair ((x+Extern.MathBitsCarry.m64-y-b)%Extern.MathBitsCarry.m64) (if x<y+b then 1 else 0))
theorem Tg (x y:Int) {r s:Int} (hr:r=(((x.toNat+18446744073709551616-y.toNat)%18446744073709551616:Nat):Int)) (hs:s=((if x.toNat<y.toNat then 1 else 0:Nat):Int)):
 FC 214 [.d (.int .u64 x),.d (.int .u64 y),.d (.int .u64 0)] [] (.ret (.dA [.d (.int .u64 r),.d (.int .u64 s)])) []:=by
 refine Zh Tryz.func214 (by kernel_rfl) (by kernel_rfl) (by kernel_rfl) (e:=VV) (by kernel_rfl) ?_
 intro β w vs ok h
 simp only [aj,ah,aH] at h
 obtain ⟨_,_,rfl,rfl,_,_,rfl,rfl,_,_,rfl,rfl,rfl⟩:=h
 refine ⟨.tuple #[.int .u64 r,.int .u64 s],?_,?_⟩
 ·subst hr hs;rfl
 simp only [ah,aj,aH];exact ⟨_,rfl,_,_,rfl,rfl,_,_,rfl,rfl,rfl⟩
theorem Ni (ht:TT t) (x y:Int) {r:Int} {ok:Bool} (h:(r,ok)=G6 x y):
 FC 80 [.d (.int .u64 x),.d (.int .u64 y)] [] (.ret (.dA [.d (.int .u64 r),.d (.bool ok)])) []:=by
 obtain ⟨a,ha⟩:∃a:Int,a=(((x.toNat+y.toNat)%18446744073709551616:Nat):Int):=⟨_,rfl⟩
 obtain ⟨b,hb⟩:∃b:Int,b=(((x.toNat+y.toNat) / 18446744073709551616:Nat):Int):=⟨_,rfl⟩
 refine bA ht (aB:=[]) Tryz.func80 rfl rfl (N:=17) rfl rfl (n:=0) rfl rfl ?_
 cbv
 refine gV trv (Tf x y ha hb) trv rfl rfl ?_
 cbv
 refine ai (fun hc=>?_) (fun hc=>?_)
 ·cbv
  refine ak trv trv rfl rfl rfl ?_
  simp only [ht,aa,Bool.not_eq_true',decide_eq_false_iff_not] at hc ha hb
  simp only [G6] at h
  rw [if_neg (by omega)] at h
  cases h;rfl
 cbv
 refine ak trv trv rfl rfl rfl ?_
 simp only [ht,aa,Bool.not_eq_false',decide_eq_true_eq] at hc ha hb
 simp only [G6] at h
 rw [if_pos (by omega)] at h
 cases h
 rw [ha,Nat.mod_eq_of_lt (by omega)]
theorem Nj (ht:TT t) (x y:Int) {r:Int} {ok:Bool} (h:(r,ok)=G7 x y):
 FC 188 [.d (.int .u64 x),.d (.int .u64 y)] [] (.ret (.dA [.d (.int .u64 r),.d (.bool ok)])) []:=by
 obtain ⟨a,ha⟩:∃a:Int,a=(((x.toNat+18446744073709551616-y.toNat)%18446744073709551616:Nat):Int):=⟨_,rfl⟩
 obtain ⟨b,hb⟩:∃b:Int,b=((if x.toNat<y.toNat then 1 else 0:Nat):Int):=⟨_,rfl⟩
 refine bA ht (aB:=[]) Tryz.func188 rfl rfl (N:=17) rfl rfl (n:=0) rfl rfl ?_
 cbv
 refine gV trv (Tg x y ha hb) trv rfl rfl ?_
 cbv
 refine ai (fun hc=>?_) (fun hc=>?_)
 ·cbv
  refine ak trv trv rfl rfl rfl ?_
  simp only [ht,aa,Bool.not_eq_true',decide_eq_false_iff_not] at hc ha hb
  simp only [G7] at h
  by_cases hlt:x.toNat<y.toNat
  ·rw [if_pos hlt] at h;cases h;rfl
  rw [if_neg hlt] at hb;exact absurd (by rw [hb];rfl) hc
 cbv
 refine ak trv trv rfl rfl rfl ?_
 simp only [ht,aa,Bool.not_eq_false',decide_eq_true_eq] at hc ha hb
 simp only [G7] at h
 by_cases hlt:x.toNat<y.toNat
 ·rw [if_pos hlt] at hb;rw [hb] at hc;exact absurd hc (by decide)
 rw [if_neg hlt] at h;cases h
 have e:(x.toNat+18446744073709551616-y.toNat)%18446744073709551616=(x.toNat-y.toNat)%18446744073709551616:=by omega
 rw [ha,e]
theorem Qs (ht:TT t) (a0 a1 a2 a3 b0 b1 b2 b3:Int) (op:Int→Int→Int×Bool) (F:Nat) (hop:∀(x y r:Int) (ok:Bool),(r,ok)=op x y→FC F [.d (.int .u64 x),.d (.int .u64 y)] [] (.ret (.dA [.d (.int .u64 r),.d (.bool ok)])) [])
 {r0 r1 r2 r3:Int} {ok:Bool} (h:(⟨r0,r1,r2,r3⟩,ok)=both op ⟨a0,a1,a2,a3⟩ ⟨b0,b1,b2,b3⟩):
 FC 79 [.agg [.d (.int .u64 a0),.d (.int .u64 a1),.d (.int .u64 a2),.d (.int .u64 a3)],.agg [.d (.int .u64 b0),.d (.int .u64 b1),.d (.int .u64 b2),.d (.int .u64 b3)],.fn F []] []
  (.ret (.dA [.agg [.d (.int .u64 r0),.d (.int .u64 r1),.d (.int .u64 r2),.d (.int .u64 r3)],.d (.bool ok)])) []:=by
 obtain ⟨⟨s0,k0⟩,e0⟩:∃s,s=op a0 b0:=⟨_,rfl⟩
 obtain ⟨⟨s1,k1⟩,e1⟩:∃s,s=op a1 b1:=⟨_,rfl⟩
 obtain ⟨⟨s2,k2⟩,e2⟩:∃s,s=op a2 b2:=⟨_,rfl⟩
 obtain ⟨⟨s3,k3⟩,e3⟩:∃s,s=op a3 b3:=⟨_,rfl⟩
 have h0:(k0&&k1&&k2&&k3)=false→r0=0∧r1=0∧r2=0∧r3=0∧ok=false:=by
  intro hk;simp only [both,←e0,←e1,←e2,←e3] at h;rw [if_neg (by rw [hk];simp)] at h;cases h;exact ⟨rfl,rfl,rfl,rfl,rfl⟩
 have h1:(k0&&k1&&k2&&k3)=true→r0=s0∧r1=s1∧r2=s2∧r3=s3∧ok=true:=by
  intro hk;simp only [both,←e0,←e1,←e2,←e3] at h;rw [if_pos hk] at h;cases h;exact ⟨rfl,rfl,rfl,rfl,rfl⟩
 clear h
 have fin:∀{bx:List ar},(k0&&k1&&k2&&k3)=false→AN 0 True (AV.dA [.agg [.d (.int .u64 0),.d (.int .u64 0),.d (.int .u64 0),.d (.int .u64 0)],.d (.bool false)]) bx (some (True,AV.dA [.agg [.d (.int .u64 0),.d (.int .u64 0),.d (.int .u64 0),.d (.int .u64 0)],.d (.bool false)]))
  (.ret (.dA [.agg [.d (.int .u64 r0),.d (.int .u64 r1),.d (.int .u64 r2),.d (.int .u64 r3)],.d (.bool ok)])) []:=by
  intro bx hk
  obtain ⟨rfl,rfl,rfl,rfl,rfl⟩:=h0 hk
  exact ak trv trv rfl rfl rfl rfl
 refine bA ht (aB:=[]) Tryz.func79 rfl rfl (N:=34) rfl rfl (n:=0) rfl rfl ?_
 cbv
 refine bg ⟨[2,3,4,6,12,13],[],[]⟩ (σ:=Nat) (fun j=>[(13,.d (.int .i64 j))]) (fun j=>[(0,.var [.d (.int .u64 (bif Nat.blt 0 j then s0 else a0)),.d (.int .u64 (bif Nat.blt 1 j then s1 else a1)),.d (.int .u64 (bif Nat.blt 2 j then s2 else a2)),.d (.int .u64 (bif Nat.blt 3 j then s3 else a3))])])
  (fun n j=>n+j=4∧(0<j→k0=true)∧(1<j→k1=true)∧(2<j→k2=true)∧(3<j→k3=true)) ?_
 cbv
 refine aC ⟨4,0,⟨rfl,by omega,by omega,by omega,by omega⟩,rfl,?_⟩
 rintro n j ⟨hn,g0,g1,g2,g3⟩
 have hj:j=0∨j=1∨j=2∨j=3∨j=4:=by omega
 rcases hj with rfl|rfl|rfl|rfl|rfl
 ·cbv
  refine mJ (by simp [ht]) ?_
  cbv
  refine ⟨by simp [ht],by simp [ht],gV trv (hop _ _ _ _ e0) trv rfl rfl ?_⟩
  cbv
  refine ai (fun hc=>?_) (fun hc=>?_)
  ·simp only [ht,Bool.not_eq_true'] at hc
   cbv
   exact fin (by simp [hc])
  simp only [ht,Bool.not_eq_false'] at hc
  cbv
  refine ⟨by simp [ht],?_⟩
  refine aC ⟨3-0,0+1,⟨⟨by omega,by omega,by simp_all,by simp_all,by simp_all,by simp_all⟩,?_⟩⟩
  simp only [ht];rfl
 ·cbv
  refine mJ (by simp [ht]) ?_
  cbv
  refine ⟨by simp [ht],by simp [ht],gV trv (hop _ _ _ _ e1) trv rfl rfl ?_⟩
  cbv
  refine ai (fun hc=>?_) (fun hc=>?_)
  ·simp only [ht,Bool.not_eq_true'] at hc
   cbv
   exact fin (by simp [hc])
  simp only [ht,Bool.not_eq_false'] at hc
  cbv
  refine ⟨by simp [ht],?_⟩
  refine aC ⟨3-1,1+1,⟨⟨by omega,by omega,by simp_all,by simp_all,by simp_all,by simp_all⟩,?_⟩⟩
  simp only [ht];rfl
 ·cbv
  refine mJ (by simp [ht]) ?_
  cbv
  refine ⟨by simp [ht],by simp [ht],gV trv (hop _ _ _ _ e2) trv rfl rfl ?_⟩
  cbv
  refine ai (fun hc=>?_) (fun hc=>?_)
  ·simp only [ht,Bool.not_eq_true'] at hc
   cbv
   exact fin (by simp [hc])
  simp only [ht,Bool.not_eq_false'] at hc
  cbv
  refine ⟨by simp [ht],?_⟩
  refine aC ⟨3-2,2+1,⟨⟨by omega,by omega,by simp_all,by simp_all,by simp_all,by simp_all⟩,?_⟩⟩
  simp only [ht];rfl
 ·cbv
  refine mJ (by simp [ht]) ?_
  cbv
  refine ⟨by simp [ht],by simp [ht],gV trv (hop _ _ _ _ e3) trv rfl rfl ?_⟩
  cbv
  refine ai (fun hc=>?_) (fun hc=>?_)
  ·simp only [ht,Bool.not_eq_true'] at hc
   cbv
   exact fin (by simp [hc])
  simp only [ht,Bool.not_eq_false'] at hc
  cbv
  refine ⟨by simp [ht],?_⟩
  refine aC ⟨3-3,3+1,⟨⟨by omega,by omega,by simp_all,by simp_all,by simp_all,by simp_all⟩,?_⟩⟩
  simp only [ht];rfl
 cbv
 refine pP (by simp [ht]) ?_
 cbv
 obtain ⟨rfl,rfl,rfl,rfl,rfl⟩:=h1 (by simp [g0,g1,g2,g3])
 exact ak trv trv rfl rfl rfl rfl
theorem Qt (ht:TT t) (a0 a1 a2 a3 b0 b1 b2 b3:Int) {r0 r1 r2 r3:Int} {ok:Bool} (h:(⟨r0,r1,r2,r3⟩,ok)=iA ⟨a0,a1,a2,a3⟩ ⟨b0,b1,b2,b3⟩):
 FC 26 [V4 a0 a1 a2 a3,V4 b0 b1 b2 b3] [] (.ret (.dA [V4 r0 r1 r2 r3,BL ok])) []:=by
 refine bA ht (aB:=[]) Tryz.func26 rfl rfl (N:=11) rfl rfl (n:=0) rfl rfl ?_
 cbv
 refine gV trv (Qs ht _ _ _ _ _ _ _ _ G6 80 (fun x y r ok=>Ni ht x y) h) trv rfl rfl ?_
 cbv
 exact ak trv trv rfl rfl rfl rfl
theorem EW (ht:TT t) (a0 a1 a2 a3 b0 b1 b2 b3:Int) {r0 r1 r2 r3:Int} {ok:Bool} (h:(⟨r0,r1,r2,r3⟩,ok)=fY ⟨a0,a1,a2,a3⟩ ⟨b0,b1,b2,b3⟩):
 FC 147 [V4 a0 a1 a2 a3,V4 b0 b1 b2 b3] [] (.ret (.dA [V4 r0 r1 r2 r3,BL ok])) []:=by
 refine bA ht (aB:=[]) Tryz.func147 rfl rfl (N:=11) rfl rfl (n:=0) rfl rfl ?_
 cbv
 refine gV trv (Qs ht _ _ _ _ _ _ _ _ G7 188 (fun x y r ok=>Nj ht x y) h) trv rfl rfl ?_
 cbv
 exact ak trv trv rfl rfl rfl rfl
theorem Ti (ht:TT t) (a0 a1 a2 a3 b0 b1 b2 b3:Int) {ok:Bool} (h:ok=mK ⟨a0,a1,a2,a3⟩ ⟨b0,b1,b2,b3⟩):
 FC 88 [V4 a0 a1 a2 a3,V4 b0 b1 b2 b3] [] (.ret (BL ok)) []:=by
 obtain ⟨⟨⟨r0,r1,r2,r3⟩,k⟩,e⟩:∃s,s=fY ⟨b0,b1,b2,b3⟩ ⟨a0,a1,a2,a3⟩:=⟨_,rfl⟩
 have hk:ok=k:=by rw [h];unfold mK;rw [←e]
 refine bA ht (aB:=[]) Tryz.func88 rfl rfl (N:=14) rfl rfl (n:=0) rfl rfl ?_
 cbv
 refine gV trv (EW ht _ _ _ _ _ _ _ _ e) trv rfl rfl ?_
 cbv
 exact ak trv trv rfl rfl rfl (by rw [hk])
theorem VW (ht:TT t) (name:aA) {l:List Node} {ps:List Place} {es qs:List (List D)} (aD:es=l.map Node.cells) (fG:qs=ps.map Place.cells) (hl:l.length<9223372036854775807) (pO:ps.length<9223372036854775807) {a b c d:Int} {ok:Bool} (hr:gv name l ps=(⟨a,b,c,d⟩,ok)):
 FC 102 [.agg [SL es,SL qs],ST name] [] (.ret (.dA [V4 a b c d,BL ok])) []:=by
 have hrows:∀r∈qs,r.length=6:=by rw [fG];intro r hr;obtain ⟨y,_,rfl⟩:=List.mem_map.1 hr;rfl
 have hel:qs.length=ps.length:=by rw [fG,lgM]
 obtain ⟨x,Yv,hf⟩:∃x Yv,fV name l=(x,Yv):=⟨_,_,rfl⟩
 obtain ⟨nm,⟨a0,b0,c0,d0⟩,lb,up⟩:=x
 obtain ⟨lr,hlr⟩:∃lr,lr=lb.map bR.cells:=⟨_,rfl⟩
 obtain ⟨J,hJ⟩:∃J:Nat→(bz×Bool)×Nat→Prop,∀n v,J n v↔(v.2+n=ps.length∧(ps.drop v.2).foldl (dy name) v.1=ps.foldl (dy name) (⟨a0,b0,c0,d0⟩,Yv)):=⟨fun n v=>v.2+n=ps.length∧(ps.drop v.2).foldl (dy name) v.1=ps.foldl (dy name) (⟨a0,b0,c0,d0⟩,Yv),fun _ _=>Iff.rfl⟩
 refine bA ht (aB:=[]) Tryz.func102 rfl rfl (N:=45) rfl rfl (n:=0) rfl rfl ?_
 cbv
 refine GZ trv (Qr ht name aD hl hf hlr) trv rfl rfl rfl ?_
 cbv
 refine bg ⟨[1,4,7,8,20,21,22],[],[]⟩ (σ:=(bz×Bool)×Nat) (fun v=>[(7,BL (t _ fun _=>v.1.2)),(22,bc (t _ fun _=>(v.2:Int)))]) (fun v=>[(1,.var [.d (.int .u64 (t _ fun _=>v.1.1.a)),.d (.int .u64 (t _ fun _=>v.1.1.b)),.d (.int .u64 (t _ fun _=>v.1.1.c)),.d (.int .u64 (t _ fun _=>v.1.1.d))])]) J ?_
 cbv
 refine aC ⟨ps.length,((⟨a0,b0,c0,d0⟩,Yv),0),(hJ _ _).2 ⟨by simp,by simp⟩,by simp only [ht];rfl,?_⟩
 rintro n ⟨⟨⟨a1,b1,c1,d1⟩,RQ⟩,k⟩ hj
 obtain ⟨j1,j2⟩:=(hJ _ _).1 hj
 clear hj
 simp only at j1 j2
 cbv
 refine ai (fun h=>?_) (fun h=>?_)
 ·have hk:k<ps.length:=by simp [ht,aa] at h;omega
  clear h
  obtain ⟨x,hx⟩:∃x,ps[k]?=some x:=⟨ps[k],by simp⟩
  obtain ⟨jb,nd,⟨v1,v2,v3,v4⟩⟩:=x
  have hd:ps.drop k=⟨jb,nd,⟨v1,v2,v3,v4⟩⟩::ps.drop (k+1):=by
   rw [List.drop_eq_getElem_cons hk];congr 1
   rw [List.getElem?_eq_getElem hk] at hx;exact Option.some.inj hx
  rw [hd,List.foldl_cons] at j2
  cbv
  refine iq [.int .u64 jb,.str nd,.int .u64 v1,.int .u64 v2,.int .u64 v3,.int .u64 v4] ?_ ?_ ?_
  ·simp only [ht,aa];exact ⟨by omega,by omega,hrows⟩
  ·simp [ht,aa,fG,hx]
  cbv
  repeat (first|refine gI (by (simp [ht];done)) ?_|refine pI (by (simp [ht];done)) ?_)
  refine ai (fun hb=>?_) (fun hb=>?_)
  ·have hb':(RQ&&decide (nd=name))=true:=by simp [ht] at hb ⊢;exact hb
   clear hb
   obtain ⟨⟨⟨r0,r1,r2,r3⟩,okr⟩,hv⟩:∃s,s=fY ⟨a1,b1,c1,d1⟩ ⟨v1,v2,v3,v4⟩:=⟨_,rfl⟩
   have hst:dy name (⟨a1,b1,c1,d1⟩,RQ) ⟨jb,nd,⟨v1,v2,v3,v4⟩⟩=(⟨r0,r1,r2,r3⟩,okr):=by simp only [dy,hb',if_true];exact hv.symm
   rw [hst] at j2
   cbv
   refine gV trv (EW ht _ _ _ _ _ _ _ _ (by simp only [ht];exact hv)) trv rfl rfl ?_
   cbv
   refine aC ⟨n-1,((⟨r0,r1,r2,r3⟩,okr),k+1),⟨by omega,(hJ _ _).2 ⟨by show k+1+(n-1)=_;omega,j2⟩⟩,?_⟩
   simp only [ht,aa,aE (show k<9223372036854775807 by omega)];rfl
  have hb':(RQ&&decide (nd=name))=false:=by simp [ht] at hb ⊢;exact hb
  clear hb
  have hst:dy name (⟨a1,b1,c1,d1⟩,RQ) ⟨jb,nd,⟨v1,v2,v3,v4⟩⟩=(⟨a1,b1,c1,d1⟩,RQ):=by simp [dy,hb']
  rw [hst] at j2
  cbv
  refine aC ⟨n-1,((⟨a1,b1,c1,d1⟩,RQ),k+1),⟨by omega,(hJ _ _).2 ⟨by show k+1+(n-1)=_;omega,j2⟩⟩,?_⟩
  simp only [ht,aa,aE (show k<9223372036854775807 by omega)];rfl
 have hk:k=ps.length:=by simp [ht,aa] at h;omega
 clear h
 rw [hk,List.drop_length,List.foldl_nil] at j2
 have Sa:(if RQ then ((⟨a1,b1,c1,d1⟩:bz),RQ) else (bz.zero,false))=(⟨a,b,c,d⟩,ok):=by rw [←hr,gv,hf,←j2]
 cbv
 refine ai (fun hb=>?_) (fun hb=>?_)
 ·have hb':RQ=false:=by simpa [ht] using hb
  clear hb
  subst hb'
  obtain ⟨⟨rfl,rfl,rfl,rfl⟩,rfl⟩:(a=0∧b=0∧c=0∧d=0)∧ok=false:=by simpa [bz.zero,eq_comm] using Sa
  cbv
  exact ak trv trv rfl rfl rfl rfl
 have hb':RQ=true:=by simpa [ht] using hb
 clear hb
 subst hb'
 obtain ⟨⟨rfl,rfl,rfl,rfl⟩,rfl⟩:(a1=a∧b1=b∧c1=c∧d1=d)∧true=ok:=by simpa using Sa
 cbv
 refine ak trv trv rfl rfl rfl ?_
 simp only [ht]
theorem Tj (ht:TT t) (name:aA) {l:List Node} {es ps:List (List D)} (aD:es=l.map Node.cells) (hl:l.length<9223372036854775807):
 FC 160 [.agg [SL es,SL ps],ST name] [] (.ret (PZ t (t _ fun _=>fV name l))) []:=by
 simp only [ht]
 generalize hr:fV name l=r
 obtain ⟨⟨nm,⟨a,b,c,d⟩,lb,up⟩,ok⟩:=r
 exact (by simpa only [PZ,PY,ht] using Qr ht name aD hl hr rfl)
theorem EX (ht:TT t) (name:aA) {l:List Node} {ps:List Place} {es qs:List (List D)} (aD:es=l.map Node.cells) (fG:qs=ps.map Place.cells) (hl:l.length<9223372036854775807) (pO:ps.length<9223372036854775807):
 FC 102 [.agg [SL es,SL qs],ST name] [] (.ret (Yp (t _ fun _=>gv name l ps))) []:=by
 simp only [ht]
 generalize hr:gv name l ps=r
 obtain ⟨⟨a,b,c,d⟩,ok⟩:=r
 exact VW ht name aD fG hl pO hr
theorem ot (ht:TT t) (a b c d e f g h:Int):FC 88 [V4 a b c d,V4 e f g h] [] (.ret (cu (t _ fun _=>mK ⟨a,b,c,d⟩ ⟨e,f,g,h⟩))) []:=by
 simp only [ht];exact Ti ht _ _ _ _ _ _ _ _ rfl
theorem Tk (ht:TT t) (name:aA) (v0 v1 v2 v3:Int) {l:List Node} {ps:List Place} {es qs:List (List D)} (aD:es=l.map Node.cells) (fG:qs=ps.map Place.cells) (hl:l.length<9223372036854775807) (pO:ps.length<9223372036854775807):
 FC 145 [.agg [SL es,SL qs],ST name,V4 v0 v1 v2 v3] [] (.ret (mR (t _ fun _=>pR name ⟨v0,v1,v2,v3⟩ l ps))) []:=by
 refine bA ht (aB:=[]) Tryz.func145 rfl rfl (N:=39) rfl rfl (n:=0) rfl rfl ?_
 cbv
 refine aU trv (Tj ht _ ‹_› ‹_›) trv rfl rfl rfl (fun r0 bF=>?_)
 simp only [ht] at bF
 cbv
 refine ay trv (EX ht _ ‹_› ‹_› ‹_› ‹_›) trv rfl rfl (fun r1 eb=>?_)
 simp only [ht] at eb
 cbv
 refine ai (fun h2=>?_) (fun h2=>?_)
 ·simp [ht] at h2
  cbv
  refine ak trv trv rfl rfl rfl ?_
  (simp only [ht,pR];grind)
 simp [ht] at h2
 cbv
 refine ai (fun h3=>?_) (fun h3=>?_)
 ·simp [ht] at h3
  cbv
  refine ak trv trv rfl rfl rfl ?_
  (simp only [ht,pR];grind)
 simp [ht] at h3
 cbv
 iterate 2 refine gI (by simp [ht]) ?_
 refine aJ (fun g4=>⟨by simp [ht] at g4 ⊢;exact g4,trv,ot ht _ _ _ _ _ _ _ _⟩) rfl rfl (fun r5 jh=>?_)
 simp only [ht] at jh
 cbv
 refine gI (by simp [ht]) ?_
 refine pI (by simp [ht]) ?_
 refine ai (fun h6=>?_) (fun h6=>?_)
 ·simp [ht] at h6
  cbv
  refine ak trv trv rfl rfl rfl ?_
  (simp_all [pR];done)
 simp [ht] at h6
 cbv
 refine ak trv trv rfl rfl rfl ?_
 (simp_all [pR];done)
theorem Cy (ht:TT t) {ps:List Place} {es:List (List D)} (aD:es=ps.map Place.cells) (hs:ps.length<1000000000):
 FC 144 [SL es] [] (.ret (.ow 0 6 (t _ fun _=>(ps.map Place.cells).length))) [.row 6 (t _ fun _=>ps.map Place.cells)]:=by
 simp only [ht];subst aD
 refine vO ht ?_ ?_ (by simp)
 ·intro r hr;obtain ⟨y,_,rfl⟩:=List.mem_map.1 hr;rfl
 simp;omega
theorem VX (ht:TT t) (bB:Int) (v0 v1 v2 v3:Int) {l:List Node} {ps:List Place} {names:List aA} {es qs ns:List (List D)} (aD:es=l.map Node.cells) (fG:qs=ps.map Place.cells) (gR:ns=names.map aV) (hl:l.length<1000000000) (pO:ps.length<100000000) (Ge:names.length<100000000):
 FC 83 [.agg [SL es,SL qs],ax bB,SL ns,V4 v0 v1 v2 v3] [] (.ret (P0 t (t _ fun _=>wP ⟨l,ps⟩ bB names ⟨v0,v1,v2,v3⟩))) []:=by
 refine bA ht (aB:=[]) Tryz.func83 rfl rfl (N:=45) rfl rfl (n:=0) rfl rfl ?_
 cbv
 have av:es.length=l.length:=by rw [aD,lgM]
 have dL:qs.length=ps.length:=by rw [fG,lgM]
 have fc:ns.length=names.length:=by rw [gR,lgM]
 refine bS [false,false,false,false,false,false,false,true] (by kernel_rfl) (by kernel_rfl) ?_
 cbv
 iterate 4 refine gI (by simp) ?_
 refine .inr (LP trv (Cy ht ‹_› (by omega)) trv rfl (.inr rfl) rfl ?_)
 cbv
 refine gI (by simp) ?_
 obtain ⟨J0,ee⟩:∃J0:Nat→Int×List (List D)→Prop,∀n i u,J0 n (i,u)↔(∃(k:Nat) (rs:List Place),i=k∧k+n=names.length∧u=rs.map Place.cells∧rs.length=ps.length+k∧fJ l bB ⟨v0,v1,v2,v3⟩ names ps=fJ l bB ⟨v0,v1,v2,v3⟩ (names.drop k) rs):=⟨fun n v=>match v with|(i,u)=>(∃(k:Nat) (rs:List Place),i=k∧k+n=names.length∧u=rs.map Place.cells∧rs.length=ps.length+k∧fJ l bB ⟨v0,v1,v2,v3⟩ names ps=fJ l bB ⟨v0,v1,v2,v3⟩ (names.drop k) rs),fun _ _ _=>Iff.rfl⟩
 refine bg ⟨[1,4,7,8,10,20,21,22],[],[]⟩ (σ:=Int×List (List D)) (fun v=>[(22,.d (.int .i64 (t _ fun _=>v.1)))]) (fun v=>[(2,.var [AV.cl [],AV.cl []]),(4,.row 6 (t _ fun _=>v.2)),(3,.var [AV.d (D.sl es),.ow 4 6 (t _ fun _=>(v.2).length)])]) J0 ?_
 cbv
 refine aC ⟨names.length,(_,_),(ee _ _ _).2 ?_,by simp only [ht];rfl,?_⟩
 ·exact ⟨0,ps,rfl,by simp,by simp,by simp,by simp⟩
 rintro n ⟨i,u⟩ hj
 replace hj:=(ee _ _ _).1 hj
 obtain ⟨k,rs,rfl,j1,j2,j3,j4⟩:=hj
 have Mb:u.length=rs.length:=by rw [j2,lgM]
 cbv
 refine ai (fun h1=>?_) (fun h1=>?_)
 ·simp [ht,aa,fc] at h1
  cbv
  refine dS ht gR (cT:=eR t) (by (simp only [ht,aa];omega)) (by (simp only [ht,aa];omega)) (fun _=>rfl) (fun _=>rfl) (fun x2 iC=>?_)
  simp [ht,aa] at iC
  rw [bV iC,fJ] at j4
  cbv
  refine ay trv (Tk ht _ _ _ _ _ ‹_› (by (simp only [ht];omega)) (by omega) (by omega)) (by simp [ht]) rfl rfl (fun r3 gQ=>?_)
  simp only [ht] at gQ
  cbv
  refine ai (fun h4=>?_) (fun h4=>?_)
  ·simp [ht] at h4
   cbv
   refine ak trv trv rfl rfl rfl ?_
   (simp only [ht,wP];grind)
  simp [ht] at h4
  cbv
  refine ⟨?_,?_⟩
  ·(simp only [ht,true_and];exact AY j2 (fun _=>rfl) rfl (by omega) (by decide))
  cbv
  refine bu (_,_) (by simp only [ht,←List.length_append];rfl) (n-1) ?_ ((ee _ _ _).2 ?_)
  ·omega
  simp only [aa]
  refine ⟨k+1,rs++[⟨bB,x2,⟨v0,v1,v2,v3⟩⟩],aE (by omega),by omega,?_,by simp;omega,?_⟩
  ·(simp [*];done)
  (simp_all;done)
 simp [ht,aa,fc] at h1
 cbv
 refine ak trv (by simp [ht]) rfl rfl rfl ?_
 (rw [List.drop_eq_nil_of_le (by omega),fJ] at j4;simp [ht,wP,j4,aD,j2];done)
theorem HT (ht:TT t) (name:aA) {l:List Node} {es ps:List (List D)} (aD:es=l.map Node.cells) (hl:l.length<9223372036854775807):
 FC 95 [.agg [SL es,SL ps],ST name] [] (.ret (mR (t _ fun _=>idxOf (fun x=>decide (x.name=name)) l))) []:=by
 simp only [ht];exact Ma ht name aD hl rfl
theorem vP (ht:TT t) {l:List Node} {es:List (List D)} (aD:es=l.map Node.cells) (hs:l.length<1000000000):
 FC 99 [SL es] [] (.ret (.ow 0 7 (t _ fun _=>(l.map Node.cells).length))) [.row 7 (t _ fun _=>l.map Node.cells)]:=by
 simp only [ht];subst aD
 refine HQ ht ?_ ?_ (by simp)
 ·intro r hr;obtain ⟨y,_,rfl⟩:=List.mem_map.1 hr;rfl
 simp;omega
def bR.aK (_:Th) (x:bR):List D:=[.str x.key,.str x.value]
theorem Nk (ht:TT t) {l m:List bR} {es fs:List (List D)} (aD:es=l.map bR.cells) (sN:fs=m.map bR.cells) (hl:l.length<1000000000) (hm:m.length<1000000000):
 FC 128 [SL es,SL fs] [] (.ret (cu (t _ fun _=>decide (l=m)))) []:=by
 refine bA ht (aB:=[]) Tryz.func128 rfl rfl (N:=26) rfl rfl (n:=0) rfl rfl ?_
 cbv
 have av:es.length=l.length:=by rw [aD,lgM]
 have cK:fs.length=m.length:=by rw [sN,lgM]
 refine ai (fun h0=>?_) (fun h0=>?_)
 ·simp [ht,aa,av,cK] at h0
  cbv
  refine ak trv trv rfl rfl rfl ?_
  (simp [ht];rintro rfl;simp_all;done)
 simp [ht,aa,av,cK] at h0
 cbv
 obtain ⟨J1,gj⟩:∃J1:Nat→Int→Prop,∀n i,J1 n i↔(∃k:Nat,i=k∧k+n=l.length∧l.length=m.length∧decide (l=m)=decide (l.drop k=m.drop k)):=⟨fun n v=>match v with|i=>(∃k:Nat,i=k∧k+n=l.length∧l.length=m.length∧decide (l=m)=decide (l.drop k=m.drop k)),fun _ _=>Iff.rfl⟩
 refine bg ⟨[0,1,12,13],[],[]⟩ (σ:=Int) (fun v=>[(13,.d (.int .i64 (t _ fun _=>v)))]) (fun v=>[]) J1 ?_
 cbv
 refine aC ⟨l.length,_,(gj _ _).2 ?_,by simp only [ht];rfl,?_⟩
 ·(simp only [aa];grind)
 rintro n i hj
 replace hj:=(gj _ _).1 hj
 obtain ⟨k,rfl,j1,j2,j4⟩:=hj
 cbv
 refine ai (fun h2=>?_) (fun h2=>?_)
 ·simp [ht,aa,av] at h2
  cbv
  refine bS [false,false,false,false,false,false,false,false,true] (by kernel_rfl) (by kernel_rfl) ?_
  cbv
  iterate 2 refine gI (by simp) ?_
  refine dS ht aD (cT:=bR.aK t) (by (simp only [ht,aa];omega)) (by (simp only [ht,aa];omega)) (fun _=>rfl) (fun _=>rfl) (fun x3 nv=>?_)
  simp [ht,aa] at nv
  rw [bV nv] at j4
  cbv
  iterate 3 refine gI (by simp) ?_
  refine dS ht sN (cT:=bR.aK t) (by (simp only [ht,aa];omega)) (by (simp only [ht,aa];omega)) (fun _=>rfl) (fun _=>rfl) (fun x4 tg=>?_)
  simp [ht,aa] at tg
  rw [bV tg] at j4
  cbv
  refine gI (by simp) ?_
  refine ai (fun h5=>?_) (fun h5=>?_)
  ·simp [ht] at h5
   cbv
   refine ak trv trv rfl rfl rfl ?_
   (simp [ht];rintro rfl;simp_all;done)
  simp [ht] at h5
  cbv
  refine bu _ rfl (n-1) ?_ ((gj _ _).2 ?_)
  ·omega
  simp only [ht,aa]
  refine ⟨k+1,aE (by omega),by omega,by omega,?_⟩
  (simp [SK, *];done)
 simp [ht,aa,av] at h2
 cbv
 refine ak trv trv rfl rfl rfl ?_
 (simp [ht,j4,List.drop_eq_nil_of_le (show l.length≤k by omega),List.drop_eq_nil_of_le (show m.length≤k by omega)];done)
theorem Ko (ht:TT t) {l m:List Place} {es fs:List (List D)} (aD:es=l.map Place.cells) (sN:fs=m.map Place.cells) (hl:l.length<1000000000) (hm:m.length<1000000000):
 FC 71 [SL es,SL fs] [] (.ret (cu (t _ fun _=>decide (l=m)))) []:=by
 refine bA ht (aB:=[]) Tryz.func71 rfl rfl (N:=26) rfl rfl (n:=0) rfl rfl ?_
 cbv
 have av:es.length=l.length:=by rw [aD,lgM]
 have cK:fs.length=m.length:=by rw [sN,lgM]
 refine ai (fun h0=>?_) (fun h0=>?_)
 ·simp [ht,aa,av,cK] at h0
  cbv
  refine ak trv trv rfl rfl rfl ?_
  (simp [ht];rintro rfl;simp_all;done)
 simp [ht,aa,av,cK] at h0
 cbv
 obtain ⟨J1,gj⟩:∃J1:Nat→Int→Prop,∀n i,J1 n i↔(∃k:Nat,i=k∧k+n=l.length∧l.length=m.length∧decide (l=m)=decide (l.drop k=m.drop k)):=⟨fun n v=>match v with|i=>(∃k:Nat,i=k∧k+n=l.length∧l.length=m.length∧decide (l=m)=decide (l.drop k=m.drop k)),fun _ _=>Iff.rfl⟩
 refine bg ⟨[0,1,12,13],[],[]⟩ (σ:=Int) (fun v=>[(13,.d (.int .i64 (t _ fun _=>v)))]) (fun v=>[]) J1 ?_
 cbv
 refine aC ⟨l.length,_,(gj _ _).2 ?_,by simp only [ht];rfl,?_⟩
 ·(simp only [aa];grind)
 rintro n i hj
 replace hj:=(gj _ _).1 hj
 obtain ⟨k,rfl,j1,j2,j4⟩:=hj
 cbv
 refine ai (fun h2=>?_) (fun h2=>?_)
 ·simp [ht,aa,av] at h2
  cbv
  refine bS [false,false,false,false,false,false,false,false,true] (by kernel_rfl) (by kernel_rfl) ?_
  cbv
  iterate 2 refine gI (by simp) ?_
  refine dS ht aD (cT:=Place.aK t) (by (simp only [ht,aa];omega)) (by (simp only [ht,aa];omega)) (fun _=>rfl) (fun _=>rfl) (fun x3 nv=>?_)
  simp [ht,aa] at nv
  rw [bV nv] at j4
  cbv
  iterate 3 refine gI (by simp) ?_
  refine dS ht sN (cT:=Place.aK t) (by (simp only [ht,aa];omega)) (by (simp only [ht,aa];omega)) (fun _=>rfl) (fun _=>rfl) (fun x4 tg=>?_)
  simp [ht,aa] at tg
  rw [bV tg] at j4
  cbv
  refine gI (by simp) ?_
  refine ai (fun h5=>?_) (fun h5=>?_)
  ·simp [ht] at h5
   cbv
   refine ak trv trv rfl rfl rfl ?_
   (simp [ht];rintro rfl;simp_all;done)
  simp [ht] at h5
  cbv
  refine bu _ rfl (n-1) ?_ ((gj _ _).2 ?_)
  ·omega
  simp only [ht,aa]
  refine ⟨k+1,aE (by omega),by omega,by omega,?_⟩
  (simp [PX,nG, *];done)
 simp [ht,aa,av] at h2
 cbv
 refine ak trv trv rfl rfl rfl ?_
 (simp [ht,j4,List.drop_eq_nil_of_le (show l.length≤k by omega),List.drop_eq_nil_of_le (show m.length≤k by omega)];done)
theorem Nl (ht:TT t) (c:Int) {l:List (Int×Int)} {es:List (List D)} (aD:es=l.map (fun x=>[D.int .i32 x.1,D.int .i32 x.2])) (f:Nat) (p:Int×Int→Bool) (hl:l.length<9223372036854775807)
 (hf:∀x∈l,FC f [.agg [.d (.int .i32 x.1),.d (.int .i32 x.2)],.ptr 0 0] [.var [.d (.int .i32 c)]] (.ret (BL (p x))) [.var [.d (.int .i32 c)]]) {r:Int} (hr:r=idxOf p l):FC 216 [SL es,.fn f [.ptr 0 0]] [.var [.d (.int .i32 c)]] (.ret (bc r)) [.var [.d (.int .i32 c)]]:=by
 have hel:es.length=l.length:=by rw [aD,lgM]
 obtain ⟨J,hJ⟩:∃J:Nat→Nat→Prop,∀n v,J n v↔(v+n=l.length∧∀i<v,∀x,l[i]?=some x→p x=false):=⟨fun n v=>v+n=l.length∧∀i<v,∀x,l[i]?=some x→p x=false,fun _ _=>Iff.rfl⟩
 refine bA ht (aB:=[.var [.d (.int .i32 c)]]) Tryz.func216 rfl rfl (N:=19) rfl rfl (n:=1) rfl rfl ?_
 cbv
 refine bg ⟨[0,1,7,8],[],[]⟩ (σ:=Nat) (fun k=>[(8,bc (t _ fun _=>(k:Int)))]) (fun _=>[]) J ?_
 cbv
 refine aC ⟨l.length,0,(hJ _ _).2 ⟨by omega,by intro i hi;simp at hi⟩,by simp only [ht];rfl,?_⟩
 rintro n k hj
 obtain ⟨h2,h3⟩:=(hJ _ _).1 hj
 clear hj
 cbv
 refine ai (fun h=>?_) (fun h=>?_)
 ·simp only [ht,aa,decide_eq_true_eq] at h
  have hk:k<l.length:=by omega
  obtain ⟨x,hx⟩:∃x,l[k]?=some x:=⟨l[k],by simp⟩
  have nO:x∈l:=List.mem_of_getElem? hx
  have gS:=hf x nO
  obtain ⟨px,hpx⟩:∃b,b=p x:=⟨_,rfl⟩
  rw [←hpx] at gS
  obtain ⟨lo,hi⟩:=x
  cbv
  refine iq [.int .i32 lo,.int .i32 hi] ?_ ?_ ?_
  ·simp only [ht,aa];refine ⟨by omega,h,?_⟩;rw [aD];intro r hr;obtain ⟨y,_,rfl⟩:=List.mem_map.1 hr;rfl
  ·simp [ht,aa,aD,hx]
  cbv
  refine de trv gS ?_
  cbv
  refine ai (fun hb=>?_) (fun hb=>?_)
  ·cbv
   refine ak trv trv rfl rfl rfl ?_
   have e:=cO hx (hpx▸hb) h3
   simp only [ht,aa,hr,idxOf,e]
  cbv
  refine aC ⟨n-1,k+1,⟨by omega,(hJ _ _).2 ⟨by omega,?_⟩⟩,?_⟩
  ·intro i hi y hy
   by_cases hik:i<k
   ·exact h3 i hik y hy
   have:i=k:=by omega
   subst this;rw [hx] at hy;cases hy;rw [←hpx];exact hb
  simp only [ht,aa,aE (show k<9223372036854775807 by omega)];rfl
 simp only [ht,aa,decide_eq_false_iff_not] at h
 have hk:¬k<l.length:=by omega
 clear h
 cbv
 refine ak trv trv rfl rfl rfl ?_
 rw [hr,idxOf,cR]
 intro i y hy
 have:i<l.length:=by
  rcases Nat.lt_or_ge i l.length with h'|h';· exact h'
  simp [List.getElem?_eq_none h'] at hy
 exact h3 i (by omega) y hy
theorem Nn (ht:TT t) (c:Int) {l:List (Int×Int)} {es:List (List D)} (aD:es=l.map (fun x=>[D.int .i32 x.1,D.int .i32 x.2])) (f:Nat) (p:Int×Int→Bool) (hl:l.length<9223372036854775807)
 (hf:∀x∈l,FC f [.agg [.d (.int .i32 x.1),.d (.int .i32 x.2)],.ptr 0 0] [.var [.d (.int .i32 c)]] (.ret (BL (p x))) [.var [.d (.int .i32 c)]]) {r:Bool} (hr:r=l.any p):FC 190 [SL es,.fn f [.ptr 0 0]] [.var [.d (.int .i32 c)]] (.ret (BL r)) [.var [.d (.int .i32 c)]]:=by
 obtain ⟨k,hk⟩:∃k,k=idxOf p l:=⟨_,rfl⟩
 refine bA ht (aB:=[.var [.d (.int .i32 c)]]) Tryz.func190 rfl rfl (N:=9) rfl rfl (n:=1) rfl rfl ?_
 cbv
 refine de trv (Nl ht c aD f p hl hf hk) ?_
 cbv
 refine ak trv trv rfl rfl rfl ?_
 simp only [ht,hr,eP,hk]
theorem Qu (ht:TT t) (c lo hi:Int) {r:Bool} (hr:r=(decide (lo≤c)&&decide (c≤hi))):FC 191 [.agg [.d (.int .i32 lo),.d (.int .i32 hi)],.ptr 0 0] [.var [.d (.int .i32 c)]] (.ret (BL r)) [.var [.d (.int .i32 c)]]:=by
 refine bA ht (aB:=[.var [.d (.int .i32 c)]]) Tryz.func191 rfl rfl (N:=14) rfl rfl (n:=1) rfl rfl ?_
 cbv
 repeat (first|refine gI (by (simp [ht];done)) ?_|refine pI (by (simp [ht];done)) ?_)
 refine ak trv trv rfl rfl rfl ?_
 simp [ht,hr]
theorem Mc (ht:TT t) (c:Int) (l:List (Int×Int)) {es:List (List D)} (aD:es=l.map (fun x=>[D.int .i32 x.1,D.int .i32 x.2])) (hl:l.length<9223372036854775807) {r:Bool} (hr:r=Hf c l):FC 150 [.d (.int .i32 c),SL es] [] (.ret (BL r)) []:=by
 refine bA ht (aB:=[]) Tryz.func150 rfl rfl (N:=8) rfl rfl (n:=0) rfl rfl ?_
 cbv
 refine de trv (Nn ht c aD 191 (fun x=>decide (x.1≤c)&&decide (c≤x.2)) hl (fun x _=>Qu ht c x.1 x.2 rfl) hr) ?_
 cbv
 exact ak trv trv rfl rfl rfl rfl
theorem Tl (ht:TT t) (s:aA) (hs:s.length<9223372036854775807) {r:Int} (hr:r=qX s):FC 192 [ST s] [] (.ret (bc r)) []:=by
 obtain ⟨J,hJ⟩:∃J:Nat→Nat×Nat→Prop,∀n v,J n v↔(s.length≤v.1+n∧v.2+(ir s n v.1).length=qX s):=⟨fun n v=>s.length≤v.1+n∧v.2+(ir s n v.1).length=qX s,fun _ _=>Iff.rfl⟩
 have hc:qX s≤s.length:=AW s _ _
 refine bA ht (aB:=[]) Tryz.func192 rfl rfl (N:=10) rfl rfl (n:=0) rfl rfl ?_
 cbv
 refine bg ⟨[2,4],[],[]⟩ (σ:=Nat×Nat) (fun v=>[(2,bc (t _ fun _=>(v.2:Int)))]) (fun v=>[(0,.it s (t _ fun _=>v.1))]) J ?_
 cbv
 refine aC ⟨s.length,(0,0),(hJ _ _).2 ⟨by simp,by simp [qX,Db]⟩,by simp only [ht];rfl,?_⟩
 rintro n ⟨pos,k⟩ hj
 obtain ⟨hf,hj⟩:=(hJ _ _).1 hj
 cbv
 refine ⟨fun hp=>?_,fun hp=>?_⟩
 ·simp only [ht] at hp hj hf
  cases n with
  |zero=>exfalso;omega
  |succ n=>
  rw [ir,if_pos hp] at hj
  cbv
  refine mJ rfl ?_
  cbv
  have hd:=LR s pos hp
  refine aC ⟨n,(pos+(dec s pos).2,k+1),⟨by omega,(hJ _ _).2 ⟨?_,?_⟩⟩,?_⟩
  ·show s.length≤pos+_+n;omega
  ·rw [←hj];simp only [List.length_cons];omega
  simp only [ht,aa,aE (show k<9223372036854775807 by simp at hj;omega)];rfl
 simp only [ht] at hp hj
 cbv
 refine pP rfl ?_
 cbv
 refine ak trv trv rfl rfl rfl ?_
 have e:ir s n pos=[]:=by cases n with
  |zero=>rfl
  |succ n=>rw [ir,if_neg hp]
 rw [e] at hj
 simp only [ht,aa,hr,←hj];rfl
theorem Qv (ht:TT t) (s:aA) (hs:s.length<9223372036854775807) {r:Int} (hr:r=qX s):FC 151 [ST s] [] (.ret (bc r)) []:=by
 refine bA ht (aB:=[]) Tryz.func151 rfl rfl (N:=5) rfl rfl (n:=0) rfl rfl ?_
 cbv
 refine gV trv (Tl ht s hs hr) trv rfl rfl ?_
 cbv
 exact ak trv trv rfl rfl rfl rfl
theorem BC (ht:TT t) (s:aA) (hs:s.length<9223372036854775807) {r:Bool} (hr:r=dU s):FC 93 [ST s] [] (.ret (BL r)) []:=by
 obtain ⟨J,hJ⟩:∃J:Nat→Nat→Prop,∀n v,J n v↔(s.length≤v+n∧(Db s).all VF=(ir s n v).all VF):=⟨fun n v=>s.length≤v+n∧(Db s).all VF=(ir s n v).all VF,fun _ _=>Iff.rfl⟩
 refine bA ht (aB:=[]) Tryz.func93 rfl rfl (N:=32) rfl rfl (n:=0) rfl rfl ?_
 cbv
 refine bg ⟨[0,2,6],[],[]⟩ (σ:=Nat) (fun _=>[]) (fun v=>[(0,.it s (t _ fun _=>v))]) J ?_
 cbv
 refine aC ⟨s.length,0,(hJ _ _).2 ⟨by simp,by simp [Db]⟩,by simp only [ht];rfl,?_⟩
 rintro n pos hj
 obtain ⟨hf,hj⟩:=(hJ _ _).1 hj
 cbv
 refine ⟨fun hp=>?_,fun hp=>?_⟩
 ·simp only [ht] at hp hj hf
  cases n with
  |zero=>exfalso;omega
  |succ n=>
  rw [ir,if_pos hp] at hj
  obtain ⟨b1,Fy⟩:∃b,b=Hf (dec s pos).1 EF:=⟨_,rfl⟩
  obtain ⟨b2,Cd⟩:∃b,b=Hf (dec s pos).1 marks:=⟨_,rfl⟩
  cbv
  refine mJ rfl ?_
  cbv
  refine gV trv (Mc ht _ EF rfl (by decide) (r:=b1) (by simp only [ht,aa];exact Fy)) trv rfl rfl ?_
  cbv
  repeat (refine gI (by (simp [ht];done)) ?_)
  refine G0 (fun hg=>⟨by simp [ht] at hg ⊢;exact hg,trv,Mc ht _ marks rfl (by decide) (r:=b2) (by simp only [ht,aa];exact Cd)⟩) rfl rfl ?_
  cbv
  repeat (first|refine gI (by first|(simp [ht,bq];done)|(simp [ht,bq];intros;simp_all;done)) ?_|refine pI (by (simp [ht];done)) ?_)
  obtain ⟨b,hb⟩:∃b,b=(!b1&&(decide (pos=0)||!b2)):=⟨_,rfl⟩
  have hw:VF (pos,(dec s pos).1)=!b:=by
   simp only [VF,←Fy,←Cd,hb];cases b1<;>cases b2<;>simp
  refine ai (fun hc=>?_) (fun hc=>?_)
  ·have hbt:b=true:=by rw [hb];simp [ht,aa] at hc;revert hc;cases b1<;>cases b2<;>simp
   cbv
   refine ak trv trv rfl rfl rfl ?_
   simp only [List.all_cons,hw,hbt] at hj
   simp [hr,dU,hj]
  have hbf:b=false:=by rw [hb];simp [ht,aa] at hc;revert hc;cases b1<;>cases b2<;>simp
  cbv
  have hd:=LR s pos hp
  refine aC ⟨n,pos+(dec s pos).2,⟨by omega,(hJ _ _).2 ⟨by omega,?_⟩⟩,?_⟩
  ·rw [hj,List.all_cons,hw,hbf];rfl
  simp only [ht];rfl
 simp only [ht] at hp hj
 have e:ir s n pos=[]:=by cases n with
  |zero=>rfl
  |succ n=>rw [ir,if_neg hp]
 rw [e] at hj
 obtain ⟨k,hk⟩:∃k:Int,k=qX s:=⟨_,rfl⟩
 cbv
 refine pP rfl ?_
 cbv
 repeat (refine gI (by (simp [ht];done)) ?_)
 refine G0 (fun hg=>⟨by simp [ht] at hg ⊢;exact hg,trv,Qv ht s hs hk⟩) rfl rfl ?_
 cbv
 repeat (first|refine gI (by (simp [ht];done)) ?_|refine pI (by (simp [ht];done)) ?_)
 refine ak trv trv rfl rfl rfl ?_
 simp only [List.all_nil] at hj
 simp only [ht,aa,hr,dU,hj,hk,Bool.true_and]
 simp
 congr 1
 rw [decide_eq_decide];omega
theorem Qw (ht:TT t) (l:List bR) (hl:l.length<9223372036854775807) (gD:∀p∈l,p.sm) {es:List (List D)} (aD:es=l.map bR.cells) {r:Bool} (hr:r=oY l):FC 94 [SL es] [] (.ret (BL r)) []:=by
 have hel:es.length=l.length:=by rw [aD,lgM]
 obtain ⟨J,hJ⟩:∃J:Nat→Nat→Prop,∀n v,J n v↔(v+n=l.length∧iT none l=iT (lE l v) (l.drop v)):=⟨fun n v=>v+n=l.length∧iT none l=iT (lE l v) (l.drop v),fun _ _=>Iff.rfl⟩
 refine bA ht (aB:=[]) Tryz.func94 rfl rfl (N:=41) rfl rfl (n:=0) rfl rfl ?_
 cbv
 refine bg ⟨[0,2,5,6,7],[],[]⟩ (σ:=Nat) (fun k=>[(7,bc (t _ fun _=>(k:Int)))]) (fun _=>[]) J ?_
 cbv
 refine aC ⟨l.length,0,(hJ _ _).2 ⟨by simp,by simp [lE]⟩,by simp only [ht];rfl,?_⟩
 rintro n k hj
 obtain ⟨h2,h3⟩:=(hJ _ _).1 hj
 clear hj
 cbv
 refine ai (fun h=>?_) (fun h=>?_)
 ·simp only [ht,aa,decide_eq_true_eq] at h
  have hk:k<l.length:=by omega
  obtain ⟨⟨ky,vl⟩,hx⟩:∃x,l[k]?=some x:=⟨l[k],by simp⟩
  obtain ⟨sk,sv⟩:=gD _ (List.mem_of_getElem? hx)
  obtain ⟨b1,Fy⟩:∃b,b=dU ky:=⟨_,rfl⟩
  obtain ⟨b2,Cd⟩:∃b,b=dU vl:=⟨_,rfl⟩
  cbv
  refine iq [.str ky,.str vl] ?_ ?_ ?_
  ·simp only [ht,aa];refine ⟨by omega,h,?_⟩;rw [aD];intro r hr;obtain ⟨y,_,rfl⟩:=List.mem_map.1 hr;rfl
  ·simp [ht,aa,aD,hx]
  cbv
  refine bS [true,true,true,true,true,true,true,true,true,true,true,true,true,true,false,false,false,false,false,false,false,false,true,true,true] (by kernel_rfl) (by kernel_rfl) ?_
  cbv
  refine gV trv (BC ht ky sk Fy) trv rfl rfl ?_
  cbv
  repeat (refine gI (by (simp [ht];done)) ?_)
  refine G0 (fun hg=>⟨by simp [ht] at hg ⊢;exact hg,trv,BC ht vl sv Cd⟩) rfl rfl ?_
  cbv
  obtain ⟨⟨qk,qv⟩,hq⟩:∃q:bR,k≠0→l[k-1]?=some q:=by
   by_cases h0:k=0
   ·exact ⟨⟨[],[]⟩,fun h=>absurd h0 h⟩
   exact ⟨l[k-1],fun _=>by simp⟩
  repeat (first|refine gI (by (simp [ht];done)) ?_|refine pI (by (simp [ht];done)) ?_)
  refine PM [.str qk,.str qv] ?_ ?_
  ·intro hg
   simp [ht,aa] at hg
   have h0:k≠0:=by omega
   have hw:IntKind.i64.wrap ((k:Int)-1)=((k-1:Nat):Int):=by rw [wrap64 (by omega) (by omega)];omega
   refine ⟨⟨?_,?_⟩,?_⟩
   ·simp [ht,aa];omega
   ·simp only [ht,aa,hw]
    refine ⟨by omega,by omega,?_⟩
    rw [aD];intro r hr;obtain ⟨y,_,rfl⟩:=List.mem_map.1 hr;rfl
   simp [ht,aa,hw,aD,hq h0]
  cbv
  repeat (first|refine gI (by first|(simp [ht,bq];done)|(simp [ht,bq];intros;simp_all;done)) ?_|refine pI (by (simp [ht];done)) ?_)
  obtain ⟨b,hb⟩:∃b,b=(!b1||!b2||(decide (0<k)&&sle ky qk)):=⟨_,rfl⟩
  have hstep:iT (lE l k) (l.drop k)=(!b&&iT (lE l (k+1)) (l.drop (k+1))):=by
   have e1:l.drop k=⟨ky,vl⟩::l.drop (k+1):=by
    rw [List.drop_eq_getElem_cons hk];congr 1
    rw [List.getElem?_eq_getElem hk] at hx;exact Option.some.inj hx
   have e2:lE l (k+1)=some ky:=by simp [lE,hx]
   rw [e1,e2]
   cases k with
   |zero=>simp [iT,lE,←Fy,←Cd,hb]
   |succ k=>
    have:=hq (by omega)
    simp only [Nat.add_sub_cancel] at this
    simp [iT,lE,this,←Fy,←Cd,hb]
  refine ai (fun hc=>?_) (fun hc=>?_)
  ·have hbt:b=true:=by rw [hb];simp [ht,aa,sle] at hc ⊢;revert hc;cases b1<;>cases b2<;>simp
   cbv
   refine ak trv trv rfl rfl rfl ?_
   rw [hr,oY,h3,hstep,hbt];rfl
  have hbf:b=false:=by rw [hb];simp [ht,aa,sle] at hc ⊢;revert hc;cases b1<;>cases b2<;>simp
  cbv
  refine aC ⟨n-1,k+1,⟨by omega,(hJ _ _).2 ⟨by omega,?_⟩⟩,?_⟩
  ·rw [h3,hstep,hbf];rfl
  simp only [ht,aa,aE (show k<9223372036854775807 by omega)];rfl
 simp only [ht,aa,decide_eq_false_iff_not] at h
 have hk:k=l.length:=by omega
 clear h
 cbv
 refine ak trv trv rfl rfl rfl ?_
 simp only [ht,aa,hel,hr,oY,h3,hk,List.drop_length,iT,Bool.true_and]
 simp
 omega
end Dem
end
