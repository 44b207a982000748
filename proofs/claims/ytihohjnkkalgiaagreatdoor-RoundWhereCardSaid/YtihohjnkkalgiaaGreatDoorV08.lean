/- Parts of a proof, joined. -/
import Derived.Test.YtihohjnkkalgiaaGreatDoorV07
import Derived.Sort.MapsRangeIn
import Derived.Sort.KeysCollected
import Derived.Test.YtihohjnkkalgiaaGreatDoorProg
import Derived.RangeFuncSeq
import Derived.WalkKit
import Derived.OwnWalkIn
import Derived.TacticsInMore
import Derived.RegionIn
import Derived.LoopNIn
import Derived.LoopIn
import Derived.RangeFuncGives
import Derived.RangeFuncBound
import Derived.Maps.AppendAt
import Derived.Shelf.Abstract
import Derived.Sort.Defs
import Derived.Sort.LotA
set_option linter.all false
set_option maxRecDepth 100000
set_option maxHeartbeats 4000000
section
open Go Dem Go.Proofs
namespace Dem
variable {t:Th}
theorem NF {l:List ct} {es:List (List D)} {i m:Nat} (aD:es=l.map ct.cells) (hi:i<l.length) (hm:m+1=l.length):
 wrote (wrote (List.replicate m [D.int IntKind.u64 0,D.int IntKind.i64 0]) 0 (es.take i)) i (es.drop (i+1))=(l.eraseIdx i).map ct.cells:=by
 have hl:es.length=l.length:=by rw [aD,lgM]
 simp only [wrote,List.take_zero,List.nil_append,Nat.zero_add,List.length_take,List.length_drop,List.drop_replicate,List.eraseIdx_eq_take_drop_succ,List.map_append,List.map_take,List.map_drop,←aD]
 have d1:(List.take i es).length=i:=by rw [List.length_take];omega
 have d2:List.drop (i+(es.length-(i+1))) (List.take i es++List.replicate (m-i) [D.int IntKind.u64 0,D.int IntKind.i64 0])=[]:=List.drop_eq_nil_of_le (by rw [List.length_append,d1,List.length_replicate];omega)
 rw [Nat.min_eq_left (by omega),List.take_append_of_le_length (by omega),List.take_take,Nat.min_self,d2,List.append_nil]
theorem HW (ht:TT t) (id:Int) {l:List ct} {es:List (List D)} (aD:es=l.map ct.cells) (hl:l.length<1000000):
 FC 63 [SL es,aB id] [] (.ret (Yp t (t _ fun _=>AM l id))) []:=by
 refine fcV ht 5 7 (bC:=[]) Tryz.func63 rfl rfl (N:=32) rfl rfl (n:=0) rfl rfl ?_
 cbv
 have aQ:es.length=l.length:=by rw [aD,lgM]
 refine aP (Dj ht _ ‹_› (by omega)) trv (fun r0 c8=>?_)
 simp only [ht] at c8
 have ec:=cC c8
 clear c8
 rcases ec with ⟨e1,e2,e3⟩|⟨i,x,hi,hil,e1,e2,e3,e4⟩
 ·cbv
  apply ap<;>intro h1
  ·simp [ht] at h1
   cbv
   refine an ?_
   (simp [AM, *];done)
  simp [ht] at h1
  omega
 obtain ⟨m,hm⟩:∃m,m+1=l.length:=⟨l.length-1,by omega⟩
 obtain ⟨i1,hi1⟩:∃n,n=i+1:=⟨_,rfl⟩
 obtain ⟨mi,x8⟩:∃n,n=m-i:=⟨_,rfl⟩
 have tr:=NF aD hil hm
 rw [←hi1] at tr
 obtain ⟨R1,QM⟩:∃R,R=wrote (List.replicate m [D.int IntKind.u64 0,D.int IntKind.i64 0]) 0 (es.take i):=⟨_,rfl⟩
 obtain ⟨R2,QN⟩:∃R,R=wrote R1 i (es.drop i1):=⟨_,rfl⟩
 have hr:∀r∈es,r.length=2:=by rw [aD];intro r hr;obtain ⟨y,_,rfl⟩:=List.mem_map.1 hr;rfl
 have hw:IntKind.i64.wrap ((es.length:Int)-1)=(m:Int):=by rw [wrap64 (by omega) (by omega)];omega
 have hw1:IntKind.i64.wrap (r0+1)=(i1:Int):=by rw [wrap64 (by omega) (by omega)];omega
 have xo:R1.length=m:=by rw [QM];simp [wrote];omega
 have Yu:R2.length=m:=by rw [QN];simp [wrote,xo];omega
 rw [←QM,←QN] at tr
 cbv
 apply ap<;>intro h2
 ·simp [ht] at h2
  rw [hi] at h2;simp only [ah] at h2;exact absurd h2 (by omega)
 simp [ht] at h2
 cbv
 refine ⟨?_,?_⟩
 ·simp only [ah] at hw;simp only [ht,ah,hw];refine ⟨by omega,trv,?_⟩;simp only [Int.toNat_natCast];omega
 refine ⟨fun c hc hc0=>?_⟩
 cbv
 simp only [ah] at hw hi hw1 tr
 have hcm:m≤c:=by simpa only [ht,ah,hw,Int.toNat_natCast] using hc
 refine ⟨?_,?_⟩
 ·simp only [ht,bO];exact ⟨⟨h2,by omega⟩,hr⟩
 refine bH (bF (i:Int)) [.row 2 R1] ?_ ?_ ?_ ?_
 ·simp only [ht,ah,hw,hi,iF,Int.toNat_natCast,eO,List.length_take,List.length_replicate]
  refine ⟨⟨by omega,fun h=>?_⟩,fun r h=>hr r (List.mem_of_mem_take (List.mem_of_mem_take h))⟩
  have:=congrArg List.length h
  simp only [List.length_replicate,List.length_nil] at this
  omega
 ·simp only [ht,ah,hw,hi,iF,Int.toNat_natCast,List.length_take]
  rw [Nat.min_eq_left (by omega),Nat.min_eq_left (by omega)]
 ·simp only [ht,ah,hw,hi,iF,Int.toNat_natCast,List.length_take]
  rw [QM,Nat.min_eq_left (by omega),Nat.min_eq_left (by omega),List.take_take,Nat.min_self]
 cbv
 refine cE [false,false,false,false,false,false,false,true] ?_
 cbv
 refine gI (by simp) (gI (by simp) ?_)
 obtain ⟨ci,pN⟩:∃n,n=c-i:=⟨_,rfl⟩
 refine ij (.vw 0 2 i mi ci true) (fun _=>⟨?_,?_⟩) ?_
 ·simp only [ht,ah,hw,hi,dJ,bO,Int.toNat_natCast];omega
 ·simp only [ht,ah,hw,hi,aW,aT,Int.toNat_natCast,Option.getD_some,Nat.zero_add];rw [x8,pN]
 cbv
 refine gI (by simp) (gI (by simp) (gI (by simp) (gI (fun _=>?_) ?_)))
 ·simp only [ht,ah,hw1,bO];exact ⟨⟨by omega,by omega⟩,hr⟩
 refine bH (bF (mi:Int)) [.row 2 R2,.bt] ?_ ?_ ?_ ?_
 ·simp only [ht,ah,hw1,iF,Int.toNat_natCast,eO,List.length_drop]
  refine ⟨⟨by omega,fun h=>?_⟩,fun r h=>hr r (List.mem_of_mem_drop (List.mem_of_mem_take h))⟩
  rw [h] at xo;simp only [List.length_nil] at xo;omega
 ·simp only [ht,ah,hw1,iF,Int.toNat_natCast,List.length_drop]
  rw [Nat.min_eq_right (by omega)]
 ·simp only [ht,ah,hw1,iF,Int.toNat_natCast,List.length_drop]
  rw [QN,List.take_of_length_le (by rw [List.length_drop];omega)]
 cbv
 refine iq trv ?_ rfl rfl rfl ?_
 ·simp only [ht,ah,hw,Int.toNat_natCast];exact ⟨by omega,trv⟩
 simp only [ht,ah,hw,Int.toNat_natCast,AM,e3,List.drop_zero,tr]
 rw [List.take_of_length_le (by rw [←tr];omega)]
theorem EY {l:List Jb} {id r:Int} (h:r=Ew l id) {P:Jb→Prop} (hP:∀x∈l,P x):(r=-1∧l.findIdx? (fun j=>decide (j.id=id))=none)∨
 ∃(i:Nat) (xi xa xb xc xd xn xp xt xf:Int) (xq:aI) (xr:Bool) (xl:List Term),r=i∧i<l.length∧l[i]?=some ⟨xi,⟨xq,⟨xa,xb,xc,xd⟩,xn,xp,xt,xl⟩,xr,xf⟩∧l.findIdx? (fun j=>decide (j.id=id))=some i∧
  l.getD i Jb.zero=⟨xi,⟨xq,⟨xa,xb,xc,xd⟩,xn,xp,xt,xl⟩,xr,xf⟩∧P ⟨xi,⟨xq,⟨xa,xb,xc,xd⟩,xn,xp,xt,xl⟩,xr,xf⟩∧xi=id:=by
 rcases cC h with ⟨e1,e2,_⟩|⟨i,⟨xi,⟨xq,⟨xa,xb,xc,xd⟩,xn,xp,xt,xl⟩,xr,xf⟩,e1,e2,e3,e4,e5,_⟩
 ·exact .inl ⟨e1,e2⟩
 exact .inr ⟨i,xi,xa,xb,xc,xd,xn,xp,xt,xf,xq,xr,xl,e1,e2,e3,e5,by rw [List.getD_eq_getElem?_getD,e3];rfl,hP _ (List.mem_of_getElem? e3),by simpa using e4⟩
theorem jK (s:aU) (j:Jb):ng s j=⟨s.round,s.next,(ng s j).aG,(ng s j).tree,s.av,s.queue,s.ev,s.au⟩:=rfl
theorem EZ (ht:TT t) (rd nx ef af:Int) {nl:List Node} {pl:List Place} {tl:List bc} {jl:List Jb} {ql:List ct} {el al:List dU} {ns ps ts js qs es cu:List (List D)} (fI:ns=nl.map Node.cells) (hps:ps=pl.map Place.cells) (hts:ts=tl.map bc.cells) (eW:js=jl.map Jb.cells) (dZ:qs=ql.map ct.cells) (aD:es=el.map dU.cells) (has:cu=al.map dU.cells) (id kd:Int) (uo:∀x∈jl,x.x.fY.u'∧x.x.path.length<1000000000000) (htl:tl.length<100000) (hjl:jl.length<1000000) (Fi:pl.length<1000000) (UQ:ql.length<1000000) (hel:el.length<1000000):
 FC 39 [.agg [aB rd,aB nx,SL ns,SL ps,SL ts,SL js,SL qs,aB ef,SL es,aB af,SL cu],aB id,bF kd] [] (.ret (LZ t (t _ fun _=>gC ⟨rd,nx,⟨nl,pl⟩,tl,jl,ql,⟨ef,el⟩,⟨af,al⟩⟩ id kd))) []:=by
 refine cL ht Tryz.func39 (N:=49) ?_
 cbv
 obtain ⟨dS,eU,ej,eV,cW,aQ,dw⟩:=gF fI hps hts eW dZ aD has
 refine aP (rY ht _ _ _ _ _ _ _ _ _ _ _ ‹_› (by omega)) trv (fun r0 c8=>?_)
 simp only [ht] at c8
 have ec:=EY c8 uo
 clear c8
 rcases ec with ⟨e1,e2⟩|⟨i,xi,xa,xb,xc,xd,xn,xp,xt,xf,xq,xr,xl,e1,e2,e3,e4,e5,⟨e6,e7⟩,e8⟩
 ·cbv
  apply ap<;>intro h1
  ·simp [ht] at h1
   cbv
   refine an ?_
   (simp [gC, *];done)
  simp [ht] at h1
  omega
 cbv
 apply ap<;>intro h2
 ·simp [ht] at h2
  (simp only [ah] at*;omega)
 simp [ht] at h2
 cbv
 refine yR ht eW (cT:=Jb.bw t) e3 ‹_› (fun _=>rfl) (fun _=>(by (simp only [ht,Jb.bw];rfl))) ?_
 cbv
 apply ap<;>intro h4
 ·simp [ht] at h4
  cbv
  refine an ?_
  (simp only [ht,gC,e4,e5];simp [*];done)
 simp [ht] at h4
 cbv
 refine aC (HU ht _ _ _ _ ‹_› ‹_› ‹_› ‹_› ‹_› ‹_› ‹_› _ _ _ _ _ _ _ _ _ _ _ (kK ht rfl) ‹_› ‹_› ‹_› ‹_›) trv (fun r5 zo=>?_)
 simp only [ht] at zo
 (rw [jK] at zo;generalize Pb:(ng ⟨rd,nx,⟨nl,pl⟩,tl,jl,ql,⟨ef,el⟩,⟨af,al⟩⟩ ⟨xi,⟨xq,⟨xa,xb,xc,xd⟩,xn,xp,xt,xl⟩,xr,xf⟩).aG=fp at zo;generalize hft:(ng ⟨rd,nx,⟨nl,pl⟩,tl,jl,ql,⟨ef,el⟩,⟨af,al⟩⟩ ⟨xi,⟨xq,⟨xa,xb,xc,xd⟩,xn,xp,xt,xl⟩,xr,xf⟩).tree=ft at zo;subst r5)
 cbv
 refine aC (Bf ht _ _ (kK ht rfl) ‹_›) trv (fun r6 ou=>?_)
 simp only [ht] at ou
 cbv
 refine aC (L6 ht _ _ _ _ (kK ht rfl) (kK ht rfl) (kK ht rfl) (kK ht rfl) (kK ht rfl) (kK ht rfl) (kK ht rfl) _ _ _ _ _ _ _ _ _ _ _ (kK ht rfl) ‹_› ‹_› ‹_›) trv (fun r7 Dr=>?_)
 simp only [ht] at Dr
 have Zd:(r7).ev.l.length<1000000:=by rw [Dr];exact hel
 cbv
 refine aC (og ht _ _ _ _ _ _ (kK ht rfl) (kK ht rfl) (kK ht rfl) (kK ht rfl) (kK ht rfl) (kK ht rfl) (kK ht rfl) ‹_›) trv (fun r8 WS=>?_)
 simp only [ht] at WS
 cbv
 refine an ?_
 (simp only [ht,gC,e4,e5,WS,Dr,ou];rw [jK,Pb,hft];simp [*];done)
theorem QR (ht:TT t) (rd nx ef af:Int) {nl:List Node} {pl:List Place} {tl:List bc} {jl:List Jb} {ql:List ct} {el al:List dU} {ns ps ts js qs es cu:List (List D)} (fI:ns=nl.map Node.cells) (hps:ps=pl.map Place.cells) (hts:ts=tl.map bc.cells) (eW:js=jl.map Jb.cells) (dZ:qs=ql.map ct.cells) (aD:es=el.map dU.cells) (has:cu=al.map dU.cells) (id kd:Int) (uo:∀x∈jl,x.x.fY.u'∧x.x.path.length<1000000000000) (htl:tl.length<100000) (hjl:jl.length<1000000) (Fi:pl.length<1000000) (UQ:ql.length<1000000) (hel:el.length<1000000):
 FC 24 [.agg [aB rd,aB nx,SL ns,SL ps,SL ts,SL js,SL qs,aB ef,SL es,aB af,SL cu],aB id,bF kd] [] (.ret (LZ t (t _ fun _=>send ⟨rd,nx,⟨nl,pl⟩,tl,jl,ql,⟨ef,el⟩,⟨af,al⟩⟩ id kd))) []:=by
 refine cL ht Tryz.func24 (N:=48) ?_
 cbv
 obtain ⟨dS,eU,ej,eV,cW,aQ,dw⟩:=gF fI hps hts eW dZ aD has
 refine aP (rY ht _ _ _ _ _ _ _ _ _ _ _ ‹_› (by omega)) trv (fun r0 c8=>?_)
 simp only [ht] at c8
 have ec:=EY c8 uo
 clear c8
 rcases ec with ⟨e1,e2⟩|⟨i,xi,xa,xb,xc,xd,xn,xp,xt,xf,xq,xr,xl,e1,e2,e3,e4,e5,⟨e6,e7⟩,e8⟩
 ·cbv
  apply ap<;>intro h1
  ·simp [ht] at h1
   cbv
   refine an ?_
   (simp [send, *];done)
  simp [ht] at h1
  omega
 cbv
 apply ap<;>intro h2
 ·simp [ht] at h2
  (simp only [ah] at*;omega)
 simp [ht] at h2
 cbv
 refine yR ht eW (cT:=Jb.bw t) e3 ‹_› (fun _=>rfl) (fun _=>(by (simp only [ht,Jb.bw];rfl))) ?_
 cbv
 apply ap<;>intro h4
 ·cbv
  refine cE [false,false,false,false,false,false,true,true] ?_
  cbv
  iterate 4 refine gI (by simp) ?_
  refine yR ht eW (cT:=Jb.bw t) e3 ‹_› (fun _=>rfl) (fun _=>(by (simp only [ht,Jb.bw];rfl))) ?_
  cbv
  refine gI (by simp) ?_
  refine aC (HU ht _ _ _ _ ‹_› ‹_› ‹_› ‹_› ‹_› ‹_› ‹_› _ _ _ _ _ _ _ _ _ _ _ (kK ht rfl) ‹_› ‹_› ‹_› ‹_›) trv (fun r6 ou=>?_)
  simp only [ht] at ou
  (rw [jK] at ou;generalize Pb:(ng ⟨rd,nx,⟨nl,pl⟩,tl,jl,ql,⟨ef,el⟩,⟨af,al⟩⟩ ⟨xi,⟨xq,⟨xa,xb,xc,xd⟩,xn,xp,xt,xl⟩,xr,xf⟩).aG=fp at ou;generalize hft:(ng ⟨rd,nx,⟨nl,pl⟩,tl,jl,ql,⟨ef,el⟩,⟨af,al⟩⟩ ⟨xi,⟨xq,⟨xa,xb,xc,xd⟩,xn,xp,xt,xl⟩,xr,xf⟩).tree=ft at ou;subst r6)
  cbv
  refine jV trv (nu ht (kK ht rfl) ‹_›) trv rfl (.inr rfl) ?_
  cbv
  (simp only [ah] at e1;refine dG [3] trv rfl rfl (vU ht (l:=jl) (i:=i) ‹_› (by simp only [ht];rw [wrap64 (by omega) (by omega),e1]) e2 (by omega)) (cD ?_))
  cbv
  refine aC (og ht _ _ _ _ _ _ (kK ht rfl) (kK ht rfl) (kK ht rfl) (kK ht rfl) (kK ht rfl) (kK ht rfl) (kK ht rfl) ‹_›) trv (fun r7 Dr=>?_)
  simp only [ht] at Dr
  cbv
  refine an ?_
  (subst h4;simp only [ht,send,e4,e5,Dr,if_true];rw [jK,Pb,hft];done)
 cbv
 refine aC (HW ht _ ‹_› ‹_›) trv (fun r8 WS=>?_)
 simp only [ht] at WS
 cbv
 refine jV trv (nu ht ‹_› ‹_›) trv rfl (.inr rfl) ?_
 cbv
 (simp only [ah] at e1;refine dG [2] trv rfl rfl (vU ht (l:=jl) (i:=i) ‹_› (by simp only [ht];rw [wrap64 (by omega) (by omega),e1]) e2 (by omega)) (cD ?_))
 cbv
 refine aC (og ht _ _ _ _ _ _ ‹_› ‹_› ‹_› (kK ht rfl) (kK ht rfl) ‹_› ‹_› ‹_›) trv (fun r9 jP=>?_)
 simp only [ht] at jP
 cbv
 refine an ?_
 (simp only [ht,send,e4,e5];simp [*];done)
structure aU.sm (s:aU):Prop where
 nodes:s.aG.nodes.length<1000000∧∀x∈s.aG.nodes,x.sm
 places:s.aG.places.length<1000000
 tree:s.tree.length<100000∧∀x∈s.tree,x.path.length<1000000000000
 av:s.av.length<1000000∧∀x∈s.av,x.x.sm∧(0≤x.id∧x.id<18446744073709551616)∧x.x.count<9223372036854775808
 queue:s.queue.length<1000000
 notes:s.ev.l.length<1000000∧s.au.l.length<1000000
theorem Ds (ht:TT t) {es:List (List D)} (hr:∀r∈es,r.length=12):FC 138 [SL es] [] (.ret (.cl es)) []:=by
 refine cL ht Tryz.func138 (N:=9) ?_
 cbv
 refine ⟨?_,Jn trv rfl ?_⟩
 ·simp only [ht,ah,bO];exact ⟨⟨⟨by omega,Int.le_refl _⟩,trv⟩,hr⟩
 simp [ht,ah,iF]
theorem NG (ht:TT t) (rd nx ef af:Int) {nl:List Node} {pl:List Place} {tl:List bc} {jl:List Jb} {ql:List ct} {el al:List dU} {ns ps ts js qs es cu:List (List D)} (fI:ns=nl.map Node.cells) (hps:ps=pl.map Place.cells) (hts:ts=tl.map bc.cells) (eW:js=jl.map Jb.cells) (dZ:qs=ql.map ct.cells) (aD:es=el.map dU.cells) (has:cu=al.map dU.cells) (ja jb jc jd jn jp jt:Int) (jq:aI) {pL:List Term} {HT:List (List D)} (yV:HT=pL.map Term.cells) (e0:List D) (er:List (List D)) (hj:js=e0::er) (hx:(⟨jq,⟨ja,jb,jc,jd⟩,jn,jp,jt,pL⟩:Ask).sm) (htl:tl.length<100000) (hjl:jl.length<1000000) (UQ:ql.length<1000000) (hel:el.length<1000000):
 FC 89 [.agg [aB rd,aB nx,SL ns,SL ps,SL ts,SL js,SL qs,aB ef,SL es,aB af,SL cu],.agg [ST jq,aB ja,aB jb,aB jc,aB jd,bF jn,bF jp,bF jt,SL HT]] [] (.ret (QA t (t _ fun _=>c7 ⟨rd,nx,⟨nl,pl⟩,tl,jl,ql,⟨ef,el⟩,⟨af,al⟩⟩ ⟨jq,⟨ja,jb,jc,jd⟩,jn,jp,jt,pL⟩))) []:=by
 subst hj
 obtain ⟨ck,Yv⟩:∃ck,ck=eS ⟨jq,⟨ja,jb,jc,jd⟩,jn,jp,jt,pL⟩:=⟨_,rfl⟩
 obtain ⟨th,Yw⟩:∃th,th=jH tl jq:=⟨_,rfl⟩
 obtain ⟨⟨q9,e9⟩,h9⟩:∃r,r=jW ql ⟨nx,jp⟩:=⟨_,rfl⟩
 have hS:c7 ⟨rd,nx,⟨nl,pl⟩,tl,jl,ql,⟨ef,el⟩,⟨af,al⟩⟩ ⟨jq,⟨ja,jb,jc,jd⟩,jn,jp,jt,pL⟩=if ck≠0 then (⟨rd,nx,⟨nl,pl⟩,tl,jl,ql,⟨ef,el⟩,⟨af,al⟩⟩,0,ck) else if !th then (⟨rd,nx,⟨nl,pl⟩,tl,jl,ql,⟨ef,el⟩,⟨af,al⟩⟩,0,7) else if 32≤jl.length∨nx=18446744073709551615 then (⟨rd,nx,⟨nl,pl⟩,tl,jl,ql,⟨ef,el⟩,⟨af,al⟩⟩,0,9) else if e9≠0 then (⟨rd,nx,⟨nl,pl⟩,tl,jl,ql,⟨ef,el⟩,⟨af,al⟩⟩,0,e9) else
  (iM ⟨rd,IntKind.u64.wrap (nx+1),⟨nl,pl⟩,tl,jl++[⟨nx,⟨jq,⟨ja,jb,jc,jd⟩,jn,jp,jt,pL⟩,false,0⟩],q9,⟨ef,el⟩,⟨af,al⟩⟩ nx 1,nx,0):=by
  simp only [c7,←Yv,←Yw,←h9,u64,←oU]
 rw [hS]
 clear hS
 have hr:∀r∈e0::er,r.length=12:=by rw [eW];intro r hr;obtain ⟨y,_,rfl⟩:=List.mem_map.1 hr;rfl
 have hle:er.length+1=jl.length:=by have:=congrArg List.length eW;simpa using this
 obtain ⟨h1,h2,h3,h4⟩:=id hx
 simp only at h1 h2 h3 h4
 refine cL ht Tryz.func89 (N:=68) ?_
 cbv
 obtain ⟨dS,eU,ej,cW,aQ,dw,EW⟩:=gF fI hps hts dZ aD has yV
 refine aP (De ht _ _ _ _ _ _ _ _ ‹_› ‹_›) trv (fun r0 c8=>?_)
 simp only [ht] at c8
 rw [←Yv] at c8
 subst r0
 cbv
 apply ap<;>intro h1
 ·simp [ht] at h1
  cbv
  refine an ?_
  (simp only [ht];grind)
 simp [ht] at h1
 cbv
 refine aP (Dg ht _ ‹_› (by omega) ‹_›) trv (fun r2 ix=>?_)
 simp only [ht] at ix
 rw [←Yw] at ix
 subst r2
 cbv
 apply ap<;>intro h3
 ·simp [ht] at h3
  cbv
  refine an ?_
  (simp only [ht];grind)
 simp [ht] at h3
 cbv
 iterate 3 refine gI (by simp [ht]) ?_
 refine pI (by simp [ht]) ?_
 apply ap<;>intro h4
 ·simp [ht,ah] at h4
  cbv
  refine an ?_
  (simp only [ht];grind)
 simp [ht,ah] at h4
 cbv
 refine aC (Bf ht _ _ ‹_› ‹_›) trv (fun r5 zo=>?_)
 simp only [ht] at zo
 rw [←h9] at zo
 subst r5
 cbv
 apply ap<;>intro h6
 ·simp [ht] at h6
  cbv
  refine an ?_
  (simp only [ht];grind)
 simp [ht] at h6
 cbv
 refine Gx [0,4,9,10] [false,false,false,false,false,false,false,false,false,false,false,false,true,true,true,true,true] (by kernel_rfl) (by kernel_rfl) (by kernel_rfl) (by kernel_rfl) (by kernel_rfl) ?_
 cbv
 iterate 3 refine gI (by simp) ?_
 refine .inl ?_
 (refine nE (fun g=>⟨trv,trv,Ds ht hr⟩) rfl rfl rfl ?_)
 cbv
 iterate 4 refine gI (by simp) ?_
 refine gI (by (simp only [ht];intro _;refine ⟨by simp only [List.length_cons,List.length_nil];omega,?_⟩;intro r h;rcases List.mem_append.1 h with h|h;exact hr r h;simp at h;subst h;rfl)) ?_
 iterate 3 refine gI (by simp) ?_
 (refine aC (og ht rd _ ef af nx 1 (nl:=nl) (pl:=pl) (tl:=tl) (jl:=jl++[⟨nx,⟨jq,⟨ja,jb,jc,jd⟩,jn,jp,jt,pL⟩,false,0⟩]) (ql:=q9) (el:=el) (al:=al) fI hps hts (by simp only [ht,eW];simp [Jb.cells,yV]) (by simp only [ht]) aD has hel) trv (fun r9 jP=>?_);simp only [ht] at jP)
 cbv
 refine an ?_
 (simp only [ht];grind)
theorem NH (ht:TT t) (rd nx ef af:Int) {nl:List Node} {pl:List Place} {tl:List bc} {jl:List Jb} {ql:List ct} {el al:List dU} {ns ps ts js qs es cu:List (List D)} (fI:ns=nl.map Node.cells) (hps:ps=pl.map Place.cells) (hts:ts=tl.map bc.cells) (eW:js=jl.map Jb.cells) (dZ:qs=ql.map ct.cells) (aD:es=el.map dU.cells) (has:cu=al.map dU.cells) (ja jb jc jd jn jp jt:Int) (jq:aI) {pL:List Term} {HT:List (List D)} (yV:HT=pL.map Term.cells) (hj:js=[]) (hx:(⟨jq,⟨ja,jb,jc,jd⟩,jn,jp,jt,pL⟩:Ask).sm) (htl:tl.length<100000) (hjl:jl.length<1000000) (UQ:ql.length<1000000) (hel:el.length<1000000):
 FC 89 [.agg [aB rd,aB nx,SL ns,SL ps,SL ts,SL js,SL qs,aB ef,SL es,aB af,SL cu],.agg [ST jq,aB ja,aB jb,aB jc,aB jd,bF jn,bF jp,bF jt,SL HT]] [] (.ret (QA t (t _ fun _=>c7 ⟨rd,nx,⟨nl,pl⟩,tl,jl,ql,⟨ef,el⟩,⟨af,al⟩⟩ ⟨jq,⟨ja,jb,jc,jd⟩,jn,jp,jt,pL⟩))) []:=by
 subst hj
 obtain ⟨ck,Yv⟩:∃ck,ck=eS ⟨jq,⟨ja,jb,jc,jd⟩,jn,jp,jt,pL⟩:=⟨_,rfl⟩
 obtain ⟨th,Yw⟩:∃th,th=jH tl jq:=⟨_,rfl⟩
 obtain ⟨⟨q9,e9⟩,h9⟩:∃r,r=jW ql ⟨nx,jp⟩:=⟨_,rfl⟩
 have hS:c7 ⟨rd,nx,⟨nl,pl⟩,tl,jl,ql,⟨ef,el⟩,⟨af,al⟩⟩ ⟨jq,⟨ja,jb,jc,jd⟩,jn,jp,jt,pL⟩=if ck≠0 then (⟨rd,nx,⟨nl,pl⟩,tl,jl,ql,⟨ef,el⟩,⟨af,al⟩⟩,0,ck) else if !th then (⟨rd,nx,⟨nl,pl⟩,tl,jl,ql,⟨ef,el⟩,⟨af,al⟩⟩,0,7) else if 32≤jl.length∨nx=18446744073709551615 then (⟨rd,nx,⟨nl,pl⟩,tl,jl,ql,⟨ef,el⟩,⟨af,al⟩⟩,0,9) else if e9≠0 then (⟨rd,nx,⟨nl,pl⟩,tl,jl,ql,⟨ef,el⟩,⟨af,al⟩⟩,0,e9) else
  (iM ⟨rd,IntKind.u64.wrap (nx+1),⟨nl,pl⟩,tl,jl++[⟨nx,⟨jq,⟨ja,jb,jc,jd⟩,jn,jp,jt,pL⟩,false,0⟩],q9,⟨ef,el⟩,⟨af,al⟩⟩ nx 1,nx,0):=by
  simp only [c7,←Yv,←Yw,←h9,u64,←oU]
 rw [hS]
 clear hS
 have hle:jl=[]:=by cases jl with
  |nil=>rfl
  |cons x l=>cases eW
 obtain ⟨h1,h2,h3,h4⟩:=id hx
 simp only at h1 h2 h3 h4
 refine cL ht Tryz.func89 (N:=68) ?_
 cbv
 obtain ⟨dS,eU,ej,cW,aQ,dw,EW⟩:=gF fI hps hts dZ aD has yV
 refine aP (De ht _ _ _ _ _ _ _ _ ‹_› ‹_›) trv (fun r0 c8=>?_)
 simp only [ht] at c8
 rw [←Yv] at c8
 subst r0
 cbv
 apply ap<;>intro h1
 ·simp [ht] at h1
  cbv
  refine an ?_
  (simp only [ht];grind)
 simp [ht] at h1
 cbv
 refine aP (Dg ht _ ‹_› (by omega) ‹_›) trv (fun r2 ix=>?_)
 simp only [ht] at ix
 rw [←Yw] at ix
 subst r2
 cbv
 apply ap<;>intro h3
 ·simp [ht] at h3
  cbv
  refine an ?_
  (simp only [ht];grind)
 simp [ht] at h3
 cbv
 iterate 3 refine gI (by simp [ht]) ?_
 refine pI (by simp [ht]) ?_
 apply ap<;>intro h4
 ·simp [ht] at h4
  cbv
  refine an ?_
  (simp only [ht];grind)
 simp [ht] at h4
 cbv
 refine aC (Bf ht _ _ ‹_› ‹_›) trv (fun r5 zo=>?_)
 simp only [ht] at zo
 rw [←h9] at zo
 subst r5
 cbv
 apply ap<;>intro h6
 ·simp [ht] at h6
  cbv
  refine an ?_
  (simp only [ht];grind)
 simp [ht] at h6
 cbv
 refine Gx [0,4,9,10] [false,false,false,false,false,false,false,false,false,false,false,false,true,true,true,true,true] (by kernel_rfl) (by kernel_rfl) (by kernel_rfl) (by kernel_rfl) (by kernel_rfl) ?_
 cbv
 iterate 3 refine gI (by simp) ?_
 refine .inl ?_
 (refine nE (fun g=>⟨trv,trv,Ds ht (by simp)⟩) rfl rfl rfl ?_)
 cbv
 iterate 4 refine gI (by simp) ?_
 refine gI (by simp [ht]) ?_
 iterate 3 refine gI (by simp) ?_
 (refine aC (og ht rd _ ef af nx 1 (nl:=nl) (pl:=pl) (tl:=tl) (jl:=jl++[⟨nx,⟨jq,⟨ja,jb,jc,jd⟩,jn,jp,jt,pL⟩,false,0⟩]) (ql:=q9) (el:=el) (al:=al) fI hps hts (by simp only [ht,hle];simp [Jb.cells,yV]) (by simp only [ht]) aD has hel) trv (fun r9 jP=>?_);simp only [ht] at jP)
 cbv
 refine an ?_
 (simp only [ht];grind)
theorem lU (ht:TT t) (rd nx ef af:Int) {nl:List Node} {pl:List Place} {tl:List bc} {jl:List Jb} {ql:List ct} {el al:List dU} {ns ps ts js qs es cu:List (List D)} (fI:ns=nl.map Node.cells) (hps:ps=pl.map Place.cells) (hts:ts=tl.map bc.cells) (eW:js=jl.map Jb.cells) (dZ:qs=ql.map ct.cells) (aD:es=el.map dU.cells) (has:cu=al.map dU.cells) (ja jb jc jd jn jp jt:Int) (jq:aI) {pL:List Term} {HT:List (List D)} (yV:HT=pL.map Term.cells) (hx:(⟨jq,⟨ja,jb,jc,jd⟩,jn,jp,jt,pL⟩:Ask).sm) (htl:tl.length<100000) (hjl:jl.length<1000000) (UQ:ql.length<1000000) (hel:el.length<1000000):
 FC 89 [.agg [aB rd,aB nx,SL ns,SL ps,SL ts,SL js,SL qs,aB ef,SL es,aB af,SL cu],.agg [ST jq,aB ja,aB jb,aB jc,aB jd,bF jn,bF jp,bF jt,SL HT]] [] (.ret (QA t (t _ fun _=>c7 ⟨rd,nx,⟨nl,pl⟩,tl,jl,ql,⟨ef,el⟩,⟨af,al⟩⟩ ⟨jq,⟨ja,jb,jc,jd⟩,jn,jp,jt,pL⟩))) []:=by
 cases js with
 |nil=>exact NH ht rd nx ef af fI hps hts eW dZ aD has ja jb jc jd jn jp jt jq yV rfl hx htl hjl UQ hel
 |cons e0 er=>exact NG ht rd nx ef af fI hps hts eW dZ aD has ja jb jc jd jn jp jt jq yV e0 er rfl hx htl hjl UQ hel
theorem vV (ht:TT t) (rd nx ef af:Int) {nl:List Node} {pl:List Place} {tl:List bc} {jl:List Jb} {ql:List ct} {el al:List dU} {ns ps ts js qs es cu:List (List D)} (fI:ns=nl.map Node.cells) (hps:ps=pl.map Place.cells) (hts:ts=tl.map bc.cells) (eW:js=jl.map Jb.cells) (dZ:qs=ql.map ct.cells) (aD:es=el.map dU.cells) (has:cu=al.map dU.cells) (id:Int) {names:List aI} {nr:List (List D)} (hnr:nr=names.map bf) (uo:∀x∈jl,x.x.fY.u'∧x.x.path.length<1000000000000) (htl:tl.length<100000) (hjl:jl.length<1000000) (OV:nl.length<1000000) (Fi:pl.length<1000000) (UQ:ql.length<1000000) (hel:el.length<1000000) (hnn:names.length<1000000):
 FC 35 [.agg [aB rd,aB nx,SL ns,SL ps,SL ts,SL js,SL qs,aB ef,SL es,aB af,SL cu],aB id,SL nr] [] (.ret (LZ t (t _ fun _=>bS ⟨rd,nx,⟨nl,pl⟩,tl,jl,ql,⟨ef,el⟩,⟨af,al⟩⟩ id names))) []:=by
 refine cL ht Tryz.func35 (N:=100) ?_
 cbv
 obtain ⟨dS,eU,ej,eV,cW,aQ,dw⟩:=gF fI hps hts eW dZ aD has
 have QS:nr.length=names.length:=by rw [hnr,lgM]
 refine aP (rY ht _ _ _ _ _ _ _ _ _ _ _ ‹_› (by omega)) trv (fun r0 c8=>?_)
 simp only [ht] at c8
 have ec:=EY c8 uo
 clear c8
 rcases ec with ⟨e1,e2⟩|⟨i,xi,xa,xb,xc,xd,xn,xp,xt,xf,xq,xr,xl,e1,e2,e3,e4,e5,⟨e6,e7⟩,e8⟩
 ·cbv
  apply ap<;>intro h1
  ·simp [ht] at h1
   cbv
   refine an ?_
   (simp [bS, *];done)
  simp [ht] at h1
  omega
 cbv
 apply ap<;>intro h2
 ·simp [ht] at h2
  (simp only [ah] at*;omega)
 simp [ht] at h2
 cbv
 refine yR ht eW (cT:=Jb.bw t) e3 ‹_› (fun _=>rfl) (fun _=>(by (simp only [ht,Jb.bw];rfl))) ?_
 cbv
 apply ap<;>intro h4
 ·cbv
  refine an ?_
  (simp only [ht,bS,e4,e5,jI];simp [*];done)
 cbv
 apply ap<;>intro h5
 ·simp [ht,ah,QS] at h5
  cbv
  refine an ?_
  (simp only [ht,bS,e4,e5,jI];simp [*];done)
 simp [ht,ah,QS] at h5
 cbv
 (obtain ⟨⟨⟨v1,v2,v3,v4⟩,vk⟩,hv⟩:∃r,r=cV ⟨xq,⟨xa,xb,xc,xd⟩,xn,xp,xt,xl⟩:=⟨_,rfl⟩;refine aP (rX ht xq xa xb xc xd xn xp xt (sl:=xl) _ e6) trv (fun r9 jP=>?_);simp only [ht] at jP;rw [←hv] at jP;subst jP)
 cbv
 apply ap<;>intro h6
 ·simp [ht] at h6
  cbv
  refine an ?_
  (simp only [ht,bS,e4,e5,jI,←hv];(try (simp only [←Dr];clear Dr));(try (simp only [←jP];clear jP));simp [*];done)
 simp [ht] at h6
 cbv
 refine aC (tY ht _ _ _ _ _ ‹_› ‹_› ‹_›) trv (fun r7 Dr=>?_)
 simp only [ht] at Dr
 cbv
 apply ap<;>intro h8
 ·simp [ht] at h8
  cbv
  refine an ?_
  (simp only [ht,bS,e4,e5,jI,←hv];(try (simp only [←Dr];clear Dr));(try (simp only [←jP];clear jP));simp [*];done)
 simp [ht] at h8
 cbv
 refine aC (VO ht _ _ _ _ _ ‹_› ‹_› ‹_› (by omega) (by omega) (by omega)) trv (fun r9 jP=>?_)
 simp only [ht] at jP
 cbv
 apply ap<;>intro h10
 ·simp [ht] at h10
  cbv
  refine an ?_
  (simp only [ht,bS,e4,e5,jI,←hv];(try (simp only [←Dr];clear Dr));(try (simp only [←jP];clear jP));simp [*];done)
 simp [ht] at h10
 cbv
 refine aC (HW ht _ ‹_› ‹_›) trv (fun r11 aaA=>?_)
 simp only [ht] at aaA
 cbv
 (refine Lp [0,2] (.more 0 (.more 1 (.one 2 (.one 3 (.one 4 (.one 5 (.one 6 (.one 7 (.one 8 .done))))))) (.one 2 (.more 1 (.one 3 (.one 4 (.one 5 (.one 6 (.one 7 (.one 8 .done)))))) (.one 3 (.more 1 (.one 4 (.one 5 (.one 6 (.one 7 (.one 8 .done))))) (.one 4 (.one 1 (.one 5 (.one 6 (.one 7 (.one 8 .done))))))))))) (.one 2 (.one 0 (.more 1 (.one 3 (.one 4 (.one 5 (.one 6 (.one 7 (.one 8 .done)))))) (.one 3 (.more 1 (.one 4 (.one 5 (.one 6 (.one 7 (.one 8 .done))))) (.one 4 (.one 1 (.one 5 (.one 6 (.one 7 (.one 8 .done)))))))))))) _ (by kernel_rfl) (by kernel_rfl) (by kernel_rfl) (by kernel_rfl) (by cbv;repeat' (first|exact rfl|refine ⟨?_,?_⟩)) ?_)
 cbv
 refine aC (L6 ht _ _ _ _ (kK ht rfl) (kK ht rfl) (kK ht rfl) ‹_› (kK ht rfl) ‹_› ‹_› _ _ _ _ _ _ _ _ _ _ _ (kK ht rfl) ‹_› ‹_› ‹_›) trv (fun r12 Yx=>?_)
 simp only [ht] at Yx
 have Zd:(r12).ev.l.length<1000000:=by rw [Yx];exact hel
 cbv
 refine aC (og ht _ _ _ _ _ _ (kK ht rfl) (kK ht rfl) (kK ht rfl) (kK ht rfl) (kK ht rfl) (kK ht rfl) (kK ht rfl) ‹_›) trv (fun r13 aaB=>?_)
 simp only [ht] at aaB
 cbv
 refine an ?_
 (simp only [ht,bS,e4,e5,jI,←hv];(try (simp only [←Dr];clear Dr));(try (simp only [←jP];clear jP));simp [*];done)
theorem mK {x:Ask} (h:sQ x):x.sm:=
 ⟨by have:=h.path;omega,⟨h.fY 0 (by decide),h.fY 1 (by decide),h.fY 2 (by decide),h.fY 3 (by decide)⟩,by have:=h.cg;omega,
  fun m hm=>by obtain ⟨a,b,c⟩:=h.key m hm;exact ⟨by omega,by omega,fun v hv=>by have:=c v hv;omega⟩⟩
theorem aU.ok.small {s:aU} (h:s.ok) (l:s.eX sQ):s.sm where
 nodes:=⟨by have:=h.aG.most;omega,l.names⟩
 places:=by have:=h.Kg;omega
 tree:=⟨by have:=h.tree.most;omega,fun e he=>by have:=l.paths e he;omega⟩
 av:=⟨by have:=h.most;omega,fun x hx=>⟨mK (l.xs x hx),⟨by have:=h.vK x hx;omega,by have:=h.vK x hx;have:=h.next;omega⟩,by
  have:=(h.pG x hx).1
  unfold eS RJ at this
  split at this
  ·cases this
  split at this
  ·cases this
  simp_all;omega⟩⟩
 queue:=by
  have h1:=h.VG
  have h2:wZ s.av≤s.av.length:=List.length_filter_le _ _
  have:=h.most;omega
 notes:=by have:=h.notes;omega
theorem Bt {l:List Jb} {id:Int} (h:∀x∈l,x.x.sm):(bD l id).1.x.sm:=by
 unfold bD
 split
 ·rename_i x hx;exact h _ (List.mem_of_find?_eq_some hx)
 exact ⟨by decide,by decide,by decide,fun m hm=>by cases hm⟩
theorem HX {nl:List Node} {pl:List Place} (h:nl.length<1000000) (h2:∀x∈nl,x.sm):(nl.filterMap (nZ nl pl)).length<1000000∧∀s∈nl.filterMap (nZ nl pl),s.labels.length<1000000000:=by
 refine ⟨Nat.lt_of_le_of_lt (List.length_filterMap_le _ _) h,fun s hs=>?_⟩
 obtain ⟨n,hn,e⟩:=List.mem_filterMap.1 hs
 unfold nZ at e
 split at e
 ·cases e;exact (h2 n hn).2.1
 cases e
theorem Bu {v:bG}:∀(n:Nat) (l:List bL) (out:List aI),out.length+n≤8→(mS v n l out).1.length≤8
 |0,_,out,h=>by simpa [mS] using h
 |n+1,l,out,h=>by
  rw [mS]
  split
  ·simp
  exact Bu n _ _ (by simp;omega)
theorem xu (l:List bL) (x:List Term) (v:bG) (c:Int):(fit l x v c).1.length<1000000:=by
 unfold fit
 split
 ·simp
 have:=Bu (v:=v) (max c 0).toNat (fitting l x) [] (by simp;omega)
 omega
theorem NI (ht:TT t) (rd nx ef af:Int) {nl:List Node} {pl:List Place} {tl:List bc} {jl:List Jb} {ql:List ct} {el al:List dU} {ns ps ts js qs es cu:List (List D)} (fI:ns=nl.map Node.cells) (hps:ps=pl.map Place.cells) (hts:ts=tl.map bc.cells) (eW:js=jl.map Jb.cells) (dZ:qs=ql.map ct.cells) (aD:es=el.map dU.cells) (has:cu=al.map dU.cells) (id:Int) (hjl:jl.length<1000000):
 FC 103 [.agg [aB rd,aB nx,SL ns,SL ps,SL ts,SL js,SL qs,aB ef,SL es,aB af,SL cu],aB id] [] (.ret (VU t (t _ fun _=>eG ⟨rd,nx,⟨nl,pl⟩,tl,jl,ql,⟨ef,el⟩,⟨af,al⟩⟩ id))) []:=by
 obtain ⟨R,hR⟩:∃R,R=eG ⟨rd,nx,⟨nl,pl⟩,tl,jl,ql,⟨ef,el⟩,⟨af,al⟩⟩ id:=⟨_,rfl⟩
 have Zg:R=((bD jl id).1,(bD jl id).2&&!(bD jl id).1.runs):=hR
 rw [←hR]
 refine cL ht Tryz.func103 (N:=21) ?_
 cbv
 obtain ⟨dS,eU,ej,eV,cW,aQ,dw⟩:=gF fI hps hts eW dZ aD has
 refine aC (mH ht _ _ _ _ _ _ _ _ _ _ _ ‹_› (by omega)) trv (fun r0 c8=>?_)
 simp only [ht] at c8
 rw [←c8] at Zg
 clear c8
 obtain ⟨⟨jid,⟨jq,⟨ja,jb,jc,jd⟩,jn,jp,jt,pL⟩,jr,jlf⟩,Yd⟩:=r0
 simp only at Zg
 cases Yd
 ·cbv
  (apply Lp [] (.more 0 (.one 1 (.one 2 (.more 3 (.more 4 (.more 5 (.more 6 (.one 7 (.one 8 .done)) (.one 7 (.one 6 (.one 8 .done)))) (.one 7 (.one 5 (.one 6 (.one 8 .done))))) (.one 7 (.one 4 (.one 5 (.one 6 (.one 8 .done)))))) (.one 7 (.one 3 (.one 4 (.one 5 (.one 6 (.one 8 .done))))))))) (.one 1 (.more 0 (.one 2 (.more 3 (.more 4 (.more 5 (.more 6 (.one 7 (.one 8 .done)) (.one 7 (.one 6 (.one 8 .done)))) (.one 7 (.one 5 (.one 6 (.one 8 .done))))) (.one 7 (.one 4 (.one 5 (.one 6 (.one 8 .done)))))) (.one 7 (.one 3 (.one 4 (.one 5 (.one 6 (.one 8 .done)))))))) (.one 2 (.more 0 (.more 3 (.more 4 (.more 5 (.more 6 (.one 7 (.one 8 .done)) (.one 7 (.one 6 (.one 8 .done)))) (.one 7 (.one 5 (.one 6 (.one 8 .done))))) (.one 7 (.one 4 (.one 5 (.one 6 (.one 8 .done)))))) (.one 7 (.one 3 (.one 4 (.one 5 (.one 6 (.one 8 .done))))))) (.one 3 (.more 0 (.more 4 (.more 5 (.more 6 (.one 7 (.one 8 .done)) (.one 7 (.one 6 (.one 8 .done)))) (.one 7 (.one 5 (.one 6 (.one 8 .done))))) (.one 7 (.one 4 (.one 5 (.one 6 (.one 8 .done)))))) (.one 4 (.more 0 (.more 5 (.more 6 (.one 7 (.one 8 .done)) (.one 7 (.one 6 (.one 8 .done)))) (.one 7 (.one 5 (.one 6 (.one 8 .done))))) (.one 5 (.more 0 (.more 6 (.one 7 (.one 8 .done)) (.one 7 (.one 6 (.one 8 .done)))) (.one 6 (.one 0 (.one 7 (.one 8 .done)))))))))))))));kernel_rfl;kernel_rfl;kernel_rfl;kernel_rfl;(next=>cbv;repeat (first|(refine pE rfl ?_;cbv)|refine And.intro ?_ ?_|exact rfl|exact True.intro|exact ⟨⟨by simp,by simp⟩⟩)))
  cbv
  refine an ?_
  (clear hR;simp [ht,Zg];done)
 cbv
 (apply Lp [] (.more 0 (.one 1 (.one 2 (.more 3 (.more 4 (.more 5 (.more 6 (.one 7 (.one 8 .done)) (.one 7 (.one 6 (.one 8 .done)))) (.one 7 (.one 5 (.one 6 (.one 8 .done))))) (.one 7 (.one 4 (.one 5 (.one 6 (.one 8 .done)))))) (.one 7 (.one 3 (.one 4 (.one 5 (.one 6 (.one 8 .done))))))))) (.one 1 (.more 0 (.one 2 (.more 3 (.more 4 (.more 5 (.more 6 (.one 7 (.one 8 .done)) (.one 7 (.one 6 (.one 8 .done)))) (.one 7 (.one 5 (.one 6 (.one 8 .done))))) (.one 7 (.one 4 (.one 5 (.one 6 (.one 8 .done)))))) (.one 7 (.one 3 (.one 4 (.one 5 (.one 6 (.one 8 .done)))))))) (.one 2 (.more 0 (.more 3 (.more 4 (.more 5 (.more 6 (.one 7 (.one 8 .done)) (.one 7 (.one 6 (.one 8 .done)))) (.one 7 (.one 5 (.one 6 (.one 8 .done))))) (.one 7 (.one 4 (.one 5 (.one 6 (.one 8 .done)))))) (.one 7 (.one 3 (.one 4 (.one 5 (.one 6 (.one 8 .done))))))) (.one 3 (.more 0 (.more 4 (.more 5 (.more 6 (.one 7 (.one 8 .done)) (.one 7 (.one 6 (.one 8 .done)))) (.one 7 (.one 5 (.one 6 (.one 8 .done))))) (.one 7 (.one 4 (.one 5 (.one 6 (.one 8 .done)))))) (.one 4 (.more 0 (.more 5 (.more 6 (.one 7 (.one 8 .done)) (.one 7 (.one 6 (.one 8 .done)))) (.one 7 (.one 5 (.one 6 (.one 8 .done))))) (.one 5 (.more 0 (.more 6 (.one 7 (.one 8 .done)) (.one 7 (.one 6 (.one 8 .done)))) (.one 6 (.one 0 (.one 7 (.one 8 .done)))))))))))))));kernel_rfl;kernel_rfl;kernel_rfl;kernel_rfl;(next=>cbv;repeat (first|(refine ld rfl ?_;cbv)|refine And.intro ?_ ?_|exact rfl|exact True.intro|exact ⟨⟨by simp,by simp⟩⟩)))
 cbv
 refine an ?_
 (clear hR;simp [ht,Zg];done)
theorem HY (ht:TT t) (rd nx ef af:Int) {nl:List Node} {pl:List Place} {tl:List bc} {jl:List Jb} {ql:List ct} {el al:List dU} {ns ps ts js qs es cu:List (List D)} (fI:ns=nl.map Node.cells) (hps:ps=pl.map Place.cells) (hts:ts=tl.map bc.cells) (eW:js=jl.map Jb.cells) (dZ:qs=ql.map ct.cells) (aD:es=el.map dU.cells) (has:cu=al.map dU.cells) (hs:(⟨rd,nx,⟨nl,pl⟩,tl,jl,ql,⟨ef,el⟩,⟨af,al⟩⟩:aU).sm) (id:Int) {on:List Node} {op:List Place} {onr Zh:List (List D)} (hon:onr=on.map Node.cells) (hop:Zh=op.map Place.cells) (ho1:on.length<1000000) (Y3:∀x∈on,x.sm) (ho3:op.length<1000000) (f:Nat) (cs:List D) (W:aI→bG→Bool)
 (hw:∀(q:aI) (a b c d:Int),q.length<1000000000000→FC f [ST q,V4 a b c d,.ep cs] [] (.ret (dH (t _ fun _=>W q ⟨a,b,c,d⟩))) []):
 FC 56 [.agg [aB rd,aB nx,SL ns,SL ps,SL ts,SL js,SL qs,aB ef,SL es,aB af,SL cu],aB id,.agg [SL onr,SL Zh],.fn f [.ep cs]] [] (.ret (HS t (t _ fun _=>gV ⟨rd,nx,⟨nl,pl⟩,tl,jl,ql,⟨ef,el⟩,⟨af,al⟩⟩ id ⟨on,op⟩ W))) []:=by
 obtain ⟨⟨s1,s2⟩,s3,⟨s4,s5⟩,⟨s6,s7⟩,s8,s9,Wb⟩:=(show aU.sm _ from hs)
 simp only at s1 s2 s3 s4 s5 s6 s7 s8 s9 Wb
 obtain ⟨Zi,Zj⟩:=HX ho1 Y3 (pl:=op)
 obtain ⟨S,hS⟩:∃S,S=gV ⟨rd,nx,⟨nl,pl⟩,tl,jl,ql,⟨ef,el⟩,⟨af,al⟩⟩ id ⟨on,op⟩ W:=⟨_,rfl⟩
 have WW:=hS
 unfold gV at WW
 rw [←hS]
 obtain ⟨w,hw1⟩:∃w,w=eG ⟨rd,nx,⟨nl,pl⟩,tl,jl,ql,⟨ef,el⟩,⟨af,al⟩⟩ id:=⟨_,rfl⟩
 have Zk:w.1.x.sm:=by rw [hw1];exact Bt (fun x hx=>(s7 x hx).1)
 rw [←hw1] at WW
 refine cL ht Tryz.func56 (N:=60) ?_
 cbv
 obtain ⟨dS,eU,ej,eV,cW,aQ,dw⟩:=gF fI hps hts eW dZ aD has
 have Zl:onr.length=on.length:=by rw [hon,lgM]
 have Zm:Zh.length=op.length:=by rw [hop,lgM]
 (refine aC (NI ht rd nx ef af fI hps hts eW dZ aD has _ s6) (by simp) (fun r1 cR=>?_);simp only [ht] at cR;rw [←hw1] at cR;subst r1)
 cbv
 apply ap<;>intro h0
 ·simp [ht] at h0
  cbv
  refine an ?_
  (simp only [ht];grind)
 simp [ht] at h0
 cbv
 (refine aP (rX ht _ _ _ _ _ _ _ _ (sl:=w.1.x.cg) _ Zk.2.1) (by simp) (fun rv erv=>?_);simp only [ht] at erv)
 cbv
 refine cE [false,false,false,false,false,false,false,false,false,false,false,true,true,false,false,false,true] ?_
 cbv
 refine gI (by simp) ?_
 refine .inl ?_
 (refine jF (fun g=>⟨by simp,trv,Ba ht hon hop (by ((try simp only at*);omega)) (by ((try simp only at*);omega))⟩) rfl rfl rfl (fun r3 lm=>?_);simp only [ht] at lm)
 cbv
 iterate 9 refine gI (by simp) ?_
 (refine aC (Kr ht _ _ _ _ _ (l:=r3) (by simp only [ht]) (by rw [lm];exact Zi) (by rw [lm];exact Zj) (x:=w.1.x.cg) (by simp only [ht]) Zk.2.2.1 (fun m hm=>(Zk.2.2.2 m hm).2.1)) (by simp) (fun r4 kW=>?_);simp only [ht] at kW)
 cbv
 iterate 3 refine gI (by simp) ?_
 iterate 2 refine gI (by simp [ht]) ?_
 refine pI (by simp [ht]) ?_
 iterate 5 refine gI (by simp [ht]) ?_
 (refine eR (fun g=>⟨⟨g,g,g,trv⟩,trv,hw _ _ _ _ _ Zk.1⟩) rfl rfl (fun r6 ou=>?_);simp only [ht] at ou)
 cbv
 refine gI (by simp [ht]) ?_
 refine pI (by simp [ht]) ?_
 apply ap<;>intro h1
 ·simp [ht] at h1
  cbv
  refine an ?_
  (have e4:fit (eT ⟨on,op⟩) w.1.x.cg w.1.x.fY w.1.x.count=r4:=(by rw [kW,lm];rfl);have e2:cV w.1.x=rv:=erv.symm;have e6:W w.1.x.path rv.1=r6:=ou.symm;have e7:S=if r6=true∧rv.2=true∧r4.2=true then (r4.1,true) else ([],false):=(by rw [WW,e4,e2,e6,if_neg (by simp [h0])];cases r6<;>cases rv.2<;>cases r4.2<;>simp);clear WW hS;((rw [if_neg (by rintro ⟨g1,g2,g3⟩;rw [g1,g2,g3] at h1;simp at h1)] at e7;simp [ht,e7];done)))
 simp [ht] at h1
 cbv
 refine an ?_
 (have e4:fit (eT ⟨on,op⟩) w.1.x.cg w.1.x.fY w.1.x.count=r4:=(by rw [kW,lm];rfl);have e2:cV w.1.x=rv:=erv.symm;have e6:W w.1.x.path rv.1=r6:=ou.symm;have e7:S=if r6=true∧rv.2=true∧r4.2=true then (r4.1,true) else ([],false):=(by rw [WW,e4,e2,e6,if_neg (by simp [h0])];cases r6<;>cases rv.2<;>cases r4.2<;>simp);clear WW hS;((rw [if_pos ⟨h1.2,h1.1.1,h1.1.2⟩] at e7;simp [ht,e7];done)))
theorem Tv (ht:TT t) (rd nx ef af:Int) {tl:List bc} {ns ps ts js qs es cu:List (List D)} (hts:ts=tl.map bc.cells) (htl:tl.length<100000) (q:aI) (a b c d:Int) (hq:q.length<1000000000000):
 FC 57 [ST q,V4 a b c d,.ep [.int .u64 rd,.int .u64 nx,.sl ns,.sl ps,.sl ts,.sl js,.sl qs,.int .u64 ef,.sl es,.int .u64 af,.sl cu]] [] (.ret (dH (t _ fun _=>decide ((cY tl q ⟨a,b,c,d⟩).2=0)))) []:=by
 refine cL ht Tryz.func57 (N:=18) ?_
 cbv
 have ej:ts.length=tl.length:=by rw [hts,lgM]
 (refine aC (tY ht _ _ _ _ _ hts htl hq) (by simp) (fun r1 cR=>?_);simp only [ht] at cR)
 cbv
 refine an ?_
 (simp only [ht,←cR];done)
theorem QT (ht:TT t) (rd nx ef af:Int) {tl:List bc} {ns ps ts js qs es cu:List (List D)} (hts:ts=tl.map bc.cells) (htl:tl.length<100000) (q:aI) (a b c d:Int) (hq:q.length<1000000000000):
 FC 60 [ST q,V4 a b c d,.ep [.int .u64 rd,.int .u64 nx,.sl ns,.sl ps,.sl ts,.sl js,.sl qs,.int .u64 ef,.sl es,.int .u64 af,.sl cu]] [] (.ret (dH (t _ fun _=>qO tl q ⟨a,b,c,d⟩))) []:=by
 refine cL ht Tryz.func60 (N:=11) ?_
 cbv
 have ej:ts.length=tl.length:=by rw [hts,lgM]
 (refine aP (QE ht _ _ _ _ _ hts htl hq) (by simp) (fun r1 cR=>?_);simp only [ht] at cR)
 cbv
 refine an ?_
 (simp only [ht,←cR];done)
theorem Tw (ht:TT t) (ns ps:List (List D)):FC 59 [.agg [SL ns,SL ps]] [] (.ret (.agg [SL ns,SL []])) []:=by
 refine cL ht Tryz.func59 (N:=6) ?_
 cbv
 refine an ?_
 rfl
theorem Tx (ht:TT t) (rd nx ef af:Int) {nl:List Node} {pl:List Place} {tl:List bc} {jl:List Jb} {ql:List ct} {el al:List dU} {ns ps ts js qs es cu:List (List D)} (fI:ns=nl.map Node.cells) (hps:ps=pl.map Place.cells) (hts:ts=tl.map bc.cells) (eW:js=jl.map Jb.cells) (dZ:qs=ql.map ct.cells) (aD:es=el.map dU.cells) (has:cu=al.map dU.cells) (hs:(⟨rd,nx,⟨nl,pl⟩,tl,jl,ql,⟨ef,el⟩,⟨af,al⟩⟩:aU).sm) (id:Int):FC 20 [.agg [aB rd,aB nx,SL ns,SL ps,SL ts,SL js,SL qs,aB ef,SL es,aB af,SL cu],aB id] [] (.ret (HS t (t _ fun _=>fo ⟨rd,nx,⟨nl,pl⟩,tl,jl,ql,⟨ef,el⟩,⟨af,al⟩⟩ id))) []:=by
 obtain ⟨⟨s1,s2⟩,s3,⟨s4,s5⟩,⟨s6,s7⟩,s8,s9,Wb⟩:=(show aU.sm _ from hs)
 simp only at s1 s2 s3 s4 s5 s6 s7 s8 s9 Wb
 obtain ⟨W,hW⟩:∃W:aI→bG→Bool,W=fun p v=>decide ((cY tl p v).2=0):=⟨_,rfl⟩
 have hA:=HY ht rd nx ef af fI hps hts eW dZ aD has hs id fI hps s1 s2 s3 57 [.int .u64 rd,.int .u64 nx,.sl ns,.sl ps,.sl ts,.sl js,.sl qs,.int .u64 ef,.sl es,.int .u64 af,.sl cu] W (fun q a b c d hq=>by rw [hW];exact Tv ht rd nx ef af hts s4 q a b c d hq)
 have hE:fo ⟨rd,nx,⟨nl,pl⟩,tl,jl,ql,⟨ef,el⟩,⟨af,al⟩⟩ id=gV ⟨rd,nx,⟨nl,pl⟩,tl,jl,ql,⟨ef,el⟩,⟨af,al⟩⟩ id ⟨nl,pl⟩ W:=by rw [hW];rfl
 rw [hE]
 have hB:=qP (bx:=[.var [aB rd,aB nx,SL ns,SL ps,SL ts,SL js,SL qs,aB ef,SL es,aB af,SL cu]]) (b:=0) (xs:=[.agg [aB rd,aB nx,SL ns,SL ps,SL ts,SL js,SL qs,aB ef,SL es,aB af,SL cu],aB id,.agg [SL ns,SL ps]]) rfl rfl rfl (dD [] rfl rfl rfl rfl hA)
 refine cL ht Tryz.func20 (N:=14) ?_
 cbv
 obtain ⟨dS,eU,ej,eV,cW,aQ,dw⟩:=gF fI hps hts eW dZ aD has
 (refine Jp (E:=HS t) (r0:=t _ fun _=>gV ⟨rd,nx,⟨nl,pl⟩,tl,jl,ql,⟨ef,el⟩,⟨af,al⟩⟩ id ⟨nl,pl⟩ W) trv rfl (by simp) hB (fun r1 cR=>?_);simp only [ht] at cR)
 cbv
 refine an ?_
 (simp [*];done)
theorem xw (ht:TT t) (rd nx ef af:Int) {nl:List Node} {pl:List Place} {tl:List bc} {jl:List Jb} {ql:List ct} {el al:List dU} {ns ps ts js qs es cu:List (List D)} (fI:ns=nl.map Node.cells) (hps:ps=pl.map Place.cells) (hts:ts=tl.map bc.cells) (eW:js=jl.map Jb.cells) (dZ:qs=ql.map ct.cells) (aD:es=el.map dU.cells) (has:cu=al.map dU.cells) (hs:(⟨rd,nx,⟨nl,pl⟩,tl,jl,ql,⟨ef,el⟩,⟨af,al⟩⟩:aU).sm) (id:Int):FC 23 [.agg [aB rd,aB nx,SL ns,SL ps,SL ts,SL js,SL qs,aB ef,SL es,aB af,SL cu],aB id] [] (.ret (dH (t _ fun _=>cO ⟨rd,nx,⟨nl,pl⟩,tl,jl,ql,⟨ef,el⟩,⟨af,al⟩⟩ id))) []:=by
 obtain ⟨⟨s1,s2⟩,s3,⟨s4,s5⟩,⟨s6,s7⟩,s8,s9,Wb⟩:=(show aU.sm _ from hs)
 simp only at s1 s2 s3 s4 s5 s6 s7 s8 s9 Wb
 obtain ⟨W,hW⟩:∃W:aI→bG→Bool,W=fun p v=>qO tl p v:=⟨_,rfl⟩
 have hA:=HY ht rd nx ef af fI hps hts eW dZ aD has hs id (op:=[]) (Zh:=[]) fI rfl s1 s2 (by simp) 60 [.int .u64 rd,.int .u64 nx,.sl ns,.sl ps,.sl ts,.sl js,.sl qs,.int .u64 ef,.sl es,.int .u64 af,.sl cu] W (fun q a b c d hq=>by rw [hW];exact QT ht rd nx ef af hts s4 q a b c d hq)
 have hE:cO ⟨rd,nx,⟨nl,pl⟩,tl,jl,ql,⟨ef,el⟩,⟨af,al⟩⟩ id=(gV ⟨rd,nx,⟨nl,pl⟩,tl,jl,ql,⟨ef,el⟩,⟨af,al⟩⟩ id ⟨nl,[]⟩ W).2:=by rw [hW];rfl
 obtain ⟨r,hr⟩:∃r,r=gV ⟨rd,nx,⟨nl,pl⟩,tl,jl,ql,⟨ef,el⟩,⟨af,al⟩⟩ id ⟨nl,[]⟩ W:=⟨_,rfl⟩
 rw [←hr] at hE hA
 rw [hE]
 have hB:=qP (bx:=[.var [aB rd,aB nx,SL ns,SL ps,SL ts,SL js,SL qs,aB ef,SL es,aB af,SL cu]]) (b:=0) (xs:=[.agg [aB rd,aB nx,SL ns,SL ps,SL ts,SL js,SL qs,aB ef,SL es,aB af,SL cu],aB id,.agg [SL ns,SL []]]) rfl rfl rfl (dD [] rfl rfl rfl rfl hA)
 refine cL ht Tryz.func23 (N:=18) ?_
 cbv
 obtain ⟨dS,eU,ej,eV,cW,aQ,dw⟩:=gF fI hps hts eW dZ aD has
 refine cE [false,false,false,false,false,false,true,true,false,false,false,true] ?_
 cbv
 iterate 4 refine gI (by simp [ht,aJ]) ?_
 refine .inl ?_
 (refine nE (fun g=>⟨by simp [ht],trv,Tw ht ns ps⟩) rfl rfl rfl ?_)
 cbv
 refine gI (by simp [ht,aJ]) ?_
 (refine dG [0] trv rfl rfl hB (cD ?_))
 cbv
 iterate 3 refine gI (by simp [ht,aJ]) ?_
 refine an ?_
 (simp only [ht];done)
def jU.bw (_:Th) (x:jU):List D:=[.int .u8 x.kind,.int .u8 x.a,.int .u8 x.b,.int .u8 x.c,.int .u8 x.d]
instance:Inhabited jU:=⟨⟨0,0,0,0,0⟩⟩
structure Told (s:aU) (rd nx:Int) (ns ps ts js qs:List (List D)) (ef:Int) (es:List (List D)) (af:Int) (cu:List (List D)):Prop where
 r:rd=s.round
 x:nx=s.next
 n:ns=s.aG.nodes.map Node.cells
 p:ps=s.aG.places.map Place.cells
 t:ts=s.tree.map bc.cells
 j:js=s.av.map Jb.cells
 q:qs=s.queue.map ct.cells
 f:ef=s.ev.first
 e:es=s.ev.l.map dU.cells
 g:af=s.au.first
 a:cu=s.au.l.map dU.cells
theorem Told.self (s:aU):Told s s.round s.next (s.aG.nodes.map Node.cells) (s.aG.places.map Place.cells) (s.tree.map bc.cells) (s.av.map Jb.cells) (s.queue.map ct.cells) s.ev.first (s.ev.l.map dU.cells) s.au.first (s.au.l.map dU.cells):=
 ⟨rfl,rfl,rfl,rfl,rfl,rfl,rfl,rfl,rfl,rfl,rfl⟩
theorem Told.eq {s:aU} {rd nx ef af:Int} {ns ps ts js qs es cu:List (List D)} (h:Told s rd nx ns ps ts js qs ef es af cu):(⟨rd,nx,⟨s.aG.nodes,s.aG.places⟩,s.tree,s.av,s.queue,⟨ef,s.ev.l⟩,⟨af,s.au.l⟩⟩:aU)=s:=by
 rw [h.r,h.x,h.f,h.g]
end Dem
end
section
open Go
namespace Dem
def jX (s:aU) (p:cA):aU:=⟨s.round,s.next,p,s.tree,s.av,s.queue,s.ev,s.au⟩
theorem AF (p:cA) (ha:Jv p.nodes) (name:aI) (up:Bool):(fJ p name up).1.places=p.places∧∀n∈(fJ p name up).1.nodes,∃m∈p.nodes,n.name=m.name∧n.labels=m.labels:=by
 rcases He p ha name up with ⟨e,_⟩|⟨i,x,hx,hn,_,⟨_,e⟩|⟨_,e⟩⟩
 ·rw [e];exact ⟨rfl,fun n hn=>⟨n,hn,rfl,rfl⟩⟩
 ·rw [e];exact ⟨rfl,fun n hn=>⟨n,hn,rfl,rfl⟩⟩
 rw [e]
 refine ⟨rfl,fun n hn=>?_⟩
 rcases List.mem_or_eq_of_mem_set hn with h|rfl
 ·exact ⟨n,h,rfl,rfl⟩
 exact ⟨x,List.mem_of_getElem? hx,rfl,rfl⟩
theorem aU.ok.B6 {s:aU} (h:s.ok) (name:aI) (up:Bool):(jX s (fJ s.aG name up).1).ok:=by
 obtain ⟨a,b⟩:=SR h.aG h.gE name up
 have e:=(AF s.aG h.aG.wT name up).1
 exact {aG:=a,gE:=b,tree:=h.tree,used:=h.used,most:=h.most,next:=h.next,ids:=h.ids,vK:=h.vK,pG:=h.pG,left:=h.left,jS:=h.jS,kO:=h.kO,ia:=h.ia,places:=fun x hx=>h.places x (by rw [←e];exact hx),count:=fun j hj hr=>(by show (sy j.id (fJ s.aG name up).1.places:Int)=_;rw [e];exact h.count j hj hr),notes:=h.notes}
theorem QU {A:Ask→Prop} {s:aU} (h:s.ok) (l:s.eX A) (name:aI) (up:Bool):(jX s (fJ s.aG name up).1).eX A:=by
 refine ⟨fun n hn=>?_,l.paths,l.xs⟩
 obtain ⟨m,hm,e1,e2⟩:=(AF s.aG h.aG.wT name up).2 n hn
 obtain ⟨a,b,c⟩:=l.names m hm
 exact ⟨by rw [e1];exact a,by rw [e2];exact b,by rw [e2];exact c⟩
def ic (s:aU) (l:List Int):aU:=l.foldl (fun s id=>(gC s id 6).1) s
def L7 (s:aU) (name:aI) (c:Nat):aU:=if (sN s.aG name).2.2=0∧c%2=0 then ic (jX s (sN s.aG name).1) (sN s.aG name).2.1 else jX s (fJ s.aG name true).1
def lp (x:jU) (s:aU):aU:=
 if x.kind%8≤3 then (c7 s (Ch x)).1 else
 if x.kind%8≤5 then (if (fit (eT s.aG) (bD s.av (x.a%12:Nat)).1.x.cg (bD s.av (x.a%12:Nat)).1.x.fY (bD s.av (x.a%12:Nat)).1.x.count).2 then
  (bS s (x.a%12:Nat) (fit (eT s.aG) (bD s.av (x.a%12:Nat)).1.x.cg (bD s.av (x.a%12:Nat)).1.x.fY (bD s.av (x.a%12:Nat)).1.x.count).1).1 else s) else
 if x.kind%8=6 then (send s (x.a%12:Nat) 4).1 else
 L7 s (kV.getD (x.b%3) []) x.c
def ie (n:Nat) (l:List jU) (k:Nat):aU:=(l.take k).foldl (fun s x=>lp x s) (jL n)
theorem HZ {n:Nat} {l:List jU} {k:Nat} {x:jU} (h:l[k]?=some x):ie n l (k+1)=lp x (ie n l k):=by
 unfold ie;rw [dy h,List.foldl_append];rfl
def RK (s t:aU):Prop:=∀j∈t.av,j.runs=true→∃k∈s.av,k.runs=true∧k.id=j.id
theorem Ty {s:aU} (h:s.ok) (id kind:Int):RK s (gC s id kind).1:=by
 cases hf:s.av.findIdx? (fun j=>decide (j.id=id)) with
 |none=>unfold gC;rw [hf];exact fun j hj hr=>⟨j,hj,hr,rfl⟩
 |some i=>
  obtain ⟨j,hj,rfl,c⟩:=nJ hf
  by_cases hr:j.runs=true
  ·obtain ⟨T,Q,h1,h2⟩:=Bk h hj hr kind
   rw [h2]
   intro y hy hry
   rcases List.mem_or_eq_of_mem_set hy with g|rfl
   ·exact ⟨y,g,hry,rfl⟩
   cases hry
  unfold gC;rw [hf];simp only;rw [c,if_pos (by simpa using hr)];exact fun j hj hr=>⟨j,hj,hr,rfl⟩
theorem Wc {s:aU} (h:s.ok) (id kind:Int):RK s (send s id kind).1:=by
 cases hf:s.av.findIdx? (fun j=>decide (j.id=id)) with
 |none=>unfold send;rw [hf];exact fun j hj hr=>⟨j,hj,hr,rfl⟩
 |some i=>
  obtain ⟨j,hj,rfl,c⟩:=nJ hf
  obtain ⟨h1,h2,h3⟩:=vT h hj kind
  have hx:∀z∈s.av.eraseIdx i,z.runs=true→∃w∈s.av,w.runs=true∧w.id=z.id:=fun z hz hr=>⟨z,List.mem_of_mem_eraseIdx hz,hr,rfl⟩
  by_cases hr:j.runs=true
  ·obtain ⟨T,h4,h5⟩:=h3 hr
   rw [h5];exact hx
  rw [h2 (by simpa using hr)];exact hx
def aU.zf (s:aU):Prop:=∀j∈s.av,j.runs=true→j.id<12
theorem RK.zf {s t:aU} (h:RK s t) (f:s.zf):t.zf:=fun j hj hr=>by
 obtain ⟨k,a,b,c⟩:=h j hj hr
 rw [←c];exact f k a b
theorem Dt {s:aU} (h:s.ok) (f:s.zf) {id:Int} (hi:id<12) (names:List aI):(bS s id names).1.zf:=by
 by_cases e:(bS s id names).2=0
 ·obtain ⟨i,j,T,h1,h2,h3,h4,h5,h6⟩:=om h e
  rw [h6]
  intro y hy hr
  rcases List.mem_or_eq_of_mem_set hy with g|rfl
  ·exact f y g hr
  show j.id<12;rw [h2];exact hi
 rw [Dm e];exact f
theorem Bv {s:aU} (h:s.ok) (f:s.zf) (x:Ask):(c7 s x).1.zf:=by
 by_cases e:(c7 s x).2.2=0
 ·rw [(Kb h e).2.2]
  intro y hy hr
  rcases List.mem_append.1 hy with g|g
  ·exact f y g hr
  rw [List.mem_singleton.1 g] at hr;cases hr
 rw [(Dl e).1];exact f
structure aU.good (s:aU):Prop where
 ok:s.ok
 eX:s.eX sQ
 zf:s.zf
theorem NJ {s:aU} (h:s.good) (id kind:Int):(gC s id kind).1.good:=⟨h.ok.stop id kind,(Ke h.ok id kind).eX h.eX,(Ty h.ok id kind).zf h.zf⟩
theorem QV {s:aU} (h:s.good) (id kind:Int):(send s id kind).1.good:=⟨h.ok.end_ id kind,(Dn h.ok id kind).eX h.eX,(Wc h.ok id kind).zf h.zf⟩
theorem Bw {s:aU} (h:s.good) (l:List Int):(ic s l).good:=wX (P:=aU.good) (fun a b g=>NJ g b 6) _ _ h
theorem xx {s:aU} (h:s.good) (name:aI) (up:Bool):(jX s (fJ s.aG name up).1).good:=⟨h.ok.B6 name up,QU h.ok h.eX name up,h.zf⟩
theorem Du (p:cA) (name:aI):(sN p name).1=(fJ p name false).1:=by unfold sN;split<;>rfl
theorem NK {s:aU} (h:s.good) (x:jU):(lp x s).good:=by
 unfold lp
 split
 ·exact ⟨h.ok.c7 (P8 x),Bl h.eX (mI x),Bv h.ok h.zf _⟩
 split
 ·split
  ·exact ⟨h.ok.w8 _ _,(yC h.ok _ _).eX h.eX,Dt h.ok h.zf (by omega) _⟩
  exact h
 split
 ·exact QV h _ _
 unfold L7
 split
 ·rw [Du];exact Bw (xx h _ _) _
 exact xx h _ _
theorem yG (n:Nat) (l:List jU) (k:Nat):(ie n l k).good:=
 wX (P:=aU.good) (fun a b h=>NK h b) _ _ ⟨A7 n,yD _ n,fun j hj=>by cases hj⟩
theorem E0:∀(l:List Int) (a b:Int),l.Pairwise (·<·)→(∀x∈l,a≤x∧x<b)→l.length≤(b-a).toNat
 |[],_,_,_,_=>by simp
 |x::r,a,b,h,g=>by
  obtain ⟨h1,h2⟩:=List.pairwise_cons.1 h
  have h3:=E0 r (x+1) b h2 fun y hy=>⟨h1 y hy,(g y (by simp [hy])).2⟩
  have h4:=g x (by simp)
  simp only [List.length_cons];omega
theorem L8 {s:aU} (h:s.good) (name:aI):(EA name s.aG.places).length≤12:=by
 have h1:=E0 (EA name s.aG.places) 1 12 (PY _ _) fun x hx=>by
  obtain ⟨y,hy,_,rfl⟩:=PX.1 hx
  obtain ⟨j,hj,hr,e,_⟩:=h.ok.places y hy
  rw [←e]
  exact ⟨(h.ok.vK j hj).1,h.zf j hj hr⟩
 omega
end Dem
end
section
open Go Dem Go.Proofs
namespace Dem
variable {t:Th}
theorem ue {s:aU} (h:s.sm):∀x∈s.av,x.x.fY.u'∧x.x.path.length<1000000000000:=fun x hx=>⟨(h.av.2 x hx).1.2.1,(h.av.2 x hx).1.1⟩
theorem sR {s:aU} {l:List Int} {k:Nat} {x:Int} (h:l[k]?=some x):aH s (l.take (k+1))=(gC (aH s (l.take k)) x 5).1:=by
 unfold aH;rw [dy h,List.foldl_append];rfl
theorem aU.good.sm {s:aU} (h:s.good):s.sm:=h.ok.small h.eX
theorem Kt (ht:TT t) (rd nx ef af:Int) {nl:List Node} {pl:List Place} {tl:List bc} {jl:List Jb} {ql:List ct} {el al:List dU} {ns ps ts js qs es cu:List (List D)} (fI:ns=nl.map Node.cells) (hps:ps=pl.map Place.cells) (hts:ts=tl.map bc.cells) (eW:js=jl.map Jb.cells) (dZ:qs=ql.map ct.cells) (aD:es=el.map dU.cells) (has:cu=al.map dU.cells) {ids:List Int} {ir:List (List D)} (Yy:ir=ids.map Int.cells) (hil:ids.length<1000000) (hg:∀k,(aH ⟨rd,nx,⟨nl,pl⟩,tl,jl,ql,⟨ef,el⟩,⟨af,al⟩⟩ (ids.take k)).sm):
 FC 53 [.agg [aB rd,aB nx,SL ns,SL ps,SL ts,SL js,SL qs,aB ef,SL es,aB af,SL cu],SL ir] [] (.ret (fZ t (t _ fun _=>aH ⟨rd,nx,⟨nl,pl⟩,tl,jl,ql,⟨ef,el⟩,⟨af,al⟩⟩ ids))) []:=by
 obtain ⟨S,hS⟩:∃S:aU,S=⟨rd,nx,⟨nl,pl⟩,tl,jl,ql,⟨ef,el⟩,⟨af,al⟩⟩:=⟨_,rfl⟩
 rw [←hS] at hg ⊢
 have vW:Told S rd nx ns ps ts js qs ef es af cu:=by rw [hS];exact ⟨rfl,rfl,fI,hps,hts,eW,dZ,rfl,aD,rfl,has⟩
 clear hS
 refine cL ht Tryz.func53 (N:=21) ?_
 cbv
 obtain ⟨dS,eU,ej,eV,cW,aQ,dw⟩:=gF fI hps hts eW dZ aD has
 have Ku:ir.length=ids.length:=by rw [Yy,lgM]
 obtain ⟨J0,fK⟩:∃J0:Nat→Int×Int×Int×List (List D)×List (List D)×List (List D)×List (List D)×List (List D)×Int×List (List D)×Int×List (List D)→Prop,∀n i rd nx ns ps ts js qs ef es af cu,J0 n (i,rd,nx,ns,ps,ts,js,qs,ef,es,af,cu)↔(∃k:Nat,i=k∧k+n=ids.length∧Told (aH S (ids.take k)) rd nx ns ps ts js qs ef es af cu):=⟨fun n v=>match v with|(i,rd,nx,ns,ps,ts,js,qs,ef,es,af,cu)=>(∃k:Nat,i=k∧k+n=ids.length∧Told (aH S (ids.take k)) rd nx ns ps ts js qs ef es af cu),fun _ _ _ _ _ _ _ _ _ _ _ _ _=>Iff.rfl⟩
 refine bE ⟨[2,4,7,8,9],[],[]⟩ (σ:=Int×Int×Int×List (List D)×List (List D)×List (List D)×List (List D)×List (List D)×Int×List (List D)×Int×List (List D)) (fun v=>[(9,.d (.int .i64 (t _ fun _=>v.1)))]) (fun v=>[(0,.var [.d (.int .u64 (t _ fun _=>v.2.1)),.d (.int .u64 (t _ fun _=>v.2.2.1)),.d (.sl (t _ fun _=>v.2.2.2.1)),.d (.sl (t _ fun _=>v.2.2.2.2.1)),.d (.sl (t _ fun _=>v.2.2.2.2.2.1)),.d (.sl (t _ fun _=>v.2.2.2.2.2.2.1)),.d (.sl (t _ fun _=>v.2.2.2.2.2.2.2.1)),.d (.int .u64 (t _ fun _=>v.2.2.2.2.2.2.2.2.1)),.d (.sl (t _ fun _=>v.2.2.2.2.2.2.2.2.2.1)),.d (.int .u64 (t _ fun _=>v.2.2.2.2.2.2.2.2.2.2.1)),.d (.sl (t _ fun _=>v.2.2.2.2.2.2.2.2.2.2.2))])]) J0 ?_
 cbv
 refine aF ⟨ids.length,(_,_,_,_,_,_,_,_,_,_,_,_),(fK _ _ _ _ _ _ _ _ _ _ _ _ _).2 ?_,by simp only [ht];rfl,?_⟩
 ·exact ⟨0,rfl,by simp,vW⟩
 rintro n ⟨i,rd,nx,ns,ps,ts,js,qs,ef,es,af,cu⟩ hj
 replace hj:=(fK _ _ _ _ _ _ _ _ _ _ _ _ _).1 hj
 obtain ⟨k,rfl,j1,jT⟩:=hj
 cbv
 apply ap<;>intro h1
 ·simp [ht,ah,Ku] at h1
  cbv
  refine kL ht Yy (cT:=Int.bw t) (by (simp only [ht,ah];omega)) (by (simp only [ht,ah];omega)) (fun _=>rfl) (fun _=>rfl) (fun x2 oc=>?_)
  simp [ht,ah] at oc
  cbv
  (have pO:=hg k;refine aC (EZ ht _ _ _ _ (nl:=(aH S (ids.take k)).aG.nodes) (pl:=(aH S (ids.take k)).aG.places) (tl:=(aH S (ids.take k)).tree) (jl:=(aH S (ids.take k)).av) (ql:=(aH S (ids.take k)).queue) (el:=(aH S (ids.take k)).ev.l) (al:=(aH S (ids.take k)).au.l) (by simp only [ht];exact jT.n) (by simp only [ht];exact jT.p) (by simp only [ht];exact jT.t) (by simp only [ht];exact jT.j) (by simp only [ht];exact jT.q) (by simp only [ht];exact jT.e) (by simp only [ht];exact jT.a) _ _ (ue pO) pO.tree.1 pO.av.1 pO.places pO.queue pO.notes.1) (by simp) (fun r1 cR=>?_);simp only [ht] at cR;rw [jT.eq] at cR)
  cbv
  refine cr (_,_,_,_,_,_,_,_,_,_,_,_) (by simp only [ht];rfl) (n-1) ?_ ((fK _ _ _ _ _ _ _ _ _ _ _ _ _).2 ?_)
  ·omega
  simp only [ah]
  exact ⟨k+1,aE (by ((try simp only [ah] at*);omega)),by ((try simp only [ah] at*);omega),by rw [sR oc,←cR];exact Told.self r1.1⟩
 simp [ht,ah,Ku] at h1
 cbv
 refine an ?_
 (rw [List.take_of_length_le (by ((try simp only [ah] at*);omega))] at jT;simp only [ht,jT.r,jT.x,jT.n,jT.p,jT.t,jT.j,jT.q,jT.f,jT.e,jT.g,jT.a];done)
end Dem
end
section
open Go Go.Maps
namespace Dem
abbrev gH:Int→Value:=Value.int .u64
def yH:Lit→Int
 |.int _ a=>a
 |_=>0
def pe {H:Type}:DataW H→List Int
 |.map es=>es.map fun p=>yH p.1
 |_=>[]
theorem Bx {x y:Int} (h:gH x=gH y):x=y:=by
 injection h
theorem oq {P:Program} {k:TypeId} (hk:P.underlying k=some (.int .u64)) {key:Value} {kl:Lit} (h:keyOf P k key=some kl):∃x:Int,key=gH x∧kl=.int .u64 x∧(Lit.int .u64 x).wf=true:=by
 cases key<;>simp [keyOf,hk,mapKey] at h
 rename_i q a
 obtain ⟨⟨rfl,hw⟩,rfl⟩:=h
 exact ⟨a,rfl,rfl,hw⟩
def fG {H:Type} (D0:DataW H) (left:Lit→Bool) (ss:List Int):Prop:=ss.Nodup∧∀x,x∈ss↔(has D0 (.int .u64 x)=true∧left (.int .u64 x)=false)
section
variable {H:Type} {D0:DataW H} {left:Lit→Bool} {ss:List Int}
theorem fG.start (D0:DataW H):fG D0 (has D0) []:=by
 refine ⟨List.nodup_nil,fun x=>?_⟩
 cases has D0 (.int .u64 x)<;>simp
theorem fG.step (h:fG D0 left ss) {x:Int} {y:DataW H} (hlk:left (.int .u64 x)=true) (hat:∀zd,D0.atKey (.int .u64 x) zd=y):fG D0 (fun z=>left z&&!z.sameKey (.int .u64 x)) (ss++[x]):=by
 obtain ⟨h1,h2⟩:=h
 have hh:=has_true_of_atKey hat
 have hn:x ∉ ss:=by
  intro hx
  rw [((h2 x).1 hx).2] at hlk
  cases hlk
 constructor
 ·rw [List.nodup_append]
  refine ⟨h1,by simp,?_⟩
  intro a ha b hb e
  simp only [List.mem_singleton] at hb
  exact hn (by rw [←hb,←e];exact ha)
 intro z
 by_cases hz:z=x
 ·subst hz;simp [hh,Lit.sameKey]
 simp [h2 z,hz,Lit.sameKey]
variable {P:Program} {k:TypeId} {R:Value→Option (DataW H×List MemPlace)} {w:World} {b n:Nat}
theorem fG.perm (h:fG D0 left ss) (hown:w.ownsMap P k R b n D0) (K:Keyed P k) (hk:P.underlying k=some (.int .u64)) (hl:∀kl,left kl=false):ss.Perm (pe D0):=by
 obtain ⟨es,hD,hpw,_⟩:=hown.entries K
 obtain ⟨es',hD',hko⟩:=hown.keysOf
 rw [hD] at hD'
 obtain rfl:es=es':=by simpa using hD'
 subst hD
 have hkey:∀p∈es,∃x,p.1=.int .u64 x:=by
  intro p hp
  obtain ⟨v,hv⟩:=hko p hp
  obtain ⟨x,_,hx,_⟩:=oq hk hv
  exact ⟨x,hx⟩
 refine (List.perm_ext_iff_of_nodup h.1 ?_).2 ?_
 ·show (es.map fun p=>yH p.1).Nodup
  refine List.pairwise_map.2 (hpw.imp_of_mem ?_)
  intro p q hp hq hne e
  obtain ⟨a,ha⟩:=hkey p hp
  obtain ⟨c,hc⟩:=hkey q hq
  rw [ha,hc] at hne e
  exact hne (congrArg _ e)
 intro x
 rw [h.2 x,hl]
 simp only [and_true]
 rw [has_eq,List.any_eq_true]
 show _↔x∈es.map fun p=>yH p.1
 rw [List.mem_map]
 constructor
 ·rintro ⟨p,hp,hs⟩
  obtain ⟨a,ha⟩:=hkey p hp
  refine ⟨p,hp,?_⟩
  rw [ha] at hs ⊢
  simpa [Lit.sameKey,yH] using hs
 rintro ⟨p,hp,rfl⟩
 obtain ⟨a,ha⟩:=hkey p hp
 exact ⟨p,hp,by rw [ha];simp [Lit.sameKey,yH]⟩
end
end Dem
end
section
namespace Go.Proofs
open Go.RowKit Go.Maps Go.Sort Go.Shelf
open Dem (gH pe fG oq Bx)
set_option maxRecDepth 100000 in
set_option maxHeartbeats 1000000 in
theorem Ks.NL {H:Type} (F:Fence) (n:Nat) (h10:F.fn 196) (hro:F.round=none) (hn:1≤n) (l Bm off b nn:Nat) (D0:DataW H) {R:Value→Option (DataW H×List MemPlace)} (J:List Int→World→Prop)
 (hY:∀pre x W,J pre W→pre.length<Maps.size D0→YieldAt F (n-1) Tryz.prog l #[gH x] W fun e W'=>e=.returned (.bool true)∧J (pre++[x]) W'∧KeepsWalks W W')
 (W:World) (hJ:AbidesFrom W.heap.size J) (hm:W.cell? ⟨Bm,off,none⟩=some (.map (some b))) (hown:W.ownsMap Tryz.prog 24 R b nn D0) (h0:J [] W):
 CallsIn F n Tryz.prog 196 #[.func (.yield l) #[] #[],.pointer (some ⟨Bm,off,none⟩)] W fun e W'=>(∃v,e=.returned v)∧∃ss:List Int,ss.Perm (pe D0)∧J ss W':=by
 refine callsIn_of_wp Tryz.func196 rfl h10 ?_ hro
 simp only [Tryz.ntmps196,List.size_toArray,List.length_cons,List.length_nil,Nat.reduceAdd,Nat.reduceSub,Array.replicate_succ,Array.replicate_zero,List.push_toArray,List.append_toArray,List.nil_append,List.cons_append]
 gi_wp2_with (first
  |(gi_at_range;refine wpListIn_range_own _ rfl _ 192 rfl 24 3 (Maps.int_keyed Tryz.underlying24) Tryz.underlying192 _ b nn _ rfl hown ?_;intro w0 hrg0 hg0 hs0)
  |gi_in)
 go_frame
 gi_loopw [3] (fun _ wr=>∃(left:Lit→Bool) (cnt:Nat) (ss:List Int),wr.ranges Tryz.prog 24 R b W.heap.size nn D0 left cnt∧ss.length+cnt≤Maps.size D0∧fG D0 left ss∧J ss wr)
  (fun _ wr=>wr.rangeLeft b W.heap.size)
 case atStart=>
  exact ⟨_,_,[],hrg0,by simp,fG.start D0,hJ [] W w0 none h0 hg0 (fun r e=>by cases e)⟩
 case round=>
  obtain ⟨left,cnt,ss,hrg,hcs,hC,hJs⟩:=hrel
  gi_wp2_with (first
   |(gi_at_next;refine wpListIn_next_ranges _ rfl _ rfl 24 (Maps.int_keyed Tryz.underlying24) R gH id (fun key kl hk=>by obtain ⟨x,hx,_⟩:=oq Tryz.underlying24 hk;exact ⟨x,hx⟩) (fun v _ _=>⟨v,rfl⟩) b W.heap.size nn _ _ _ rfl hrg ?_ ?_)
   |gi_in)
  ·
   intro hc0 hl0
   gi_wp2
   go_end0
   exact ⟨⟨_,rfl⟩,ss,hC.perm hown (Maps.int_keyed Tryz.underlying24) Tryz.underlying24 hl0,hJs⟩
  ·
   intro x c kl yd yp w2 cnt2 hkey hlk hv hat hrg2 hlt hg2 hs2 hen
   obtain ⟨x',ex,rfl,_⟩:=oq Tryz.underlying24 hkey
   obtain rfl:x=x':=Bx ex
   have hJ2:J ss w2:=hJ ss wr w2 (some W.heap.size) hJs hg2 (fun r e=>by cases e;exact ⟨Nat.le_refl _,hrg.iter_walk⟩)
   obtain ⟨fn,tmps,assign,body,hy,hR⟩:=hY ss x w2 hJ2 (by omega)
   clear hs2
   gi_wp2
   refine hR.mono ?_
   rintro e W3 ⟨rfl,hJ3,hk3⟩
   gi_wp2
   have hrg3:=hrg2.of_walks hk3
   go_roundw
   case rel=>exact ⟨_,cnt2,ss++[x],hrg3,by simp;omega,hC.step hlk hat,hJ3⟩
   case measure=>rw [hrg3.left_eq,hrg.left_eq];exact hlt
theorem Ks.Kv {H:Type} (F:Fence) (n:Nat) (h10:F.fn 196) (hro:F.round=none) (hn:1≤n) (Bm off b nn:Nat) (D0:DataW H) {R:Value→Option (DataW H×List MemPlace)} (w:World) (hBm:Bm<w.heap.size)
 (hm:w.cell? ⟨Bm,off,none⟩=some (.map (some b))) (hown:w.ownsMap Tryz.prog 24 R b nn D0):
 SeqGives F n Tryz.prog 196 #[.pointer (some ⟨Bm,off,none⟩)] gH (fun ss=>ss.Perm (pe D0)) (Maps.size D0) w:=fun l J W hW hJ hY h0=>by
 have hown':W.ownsMap Tryz.prog 24 R b nn D0:=by
  have hbl:=hown.lt
  obtain ⟨es,clock,hb,Ft,hs,hD⟩:=hown
  exact ⟨es,clock,(hW.block b hbl).trans hb,Ft,hs,hD⟩
 exact Ks.NL F n h10 hro hn l Bm off b nn D0 J hY W hJ ((hW.cell (p:=⟨Bm,off,none⟩) hBm).trans hm) hown' h0
def Ks.By:Code:=(Code.region 2 #[{dst:=some 5,op:=Op.assign (Operand.tmp 7),type:=24,pos:= "iter.go:51",after:=#[],guard:=none}] false)
def Ks.Kw:Code:=(Code.block 1 (Code.region 3 #[{dst:=some 8,op:=Op.load 48 (Operand.tmp 2),type:=48,pos:= "iter.go:52",after:=#[],guard:=none},{dst:=some 9,op:=Op.move (Operand.tmp 5),type:=24,pos:= "iter.go:52",after:=#[],guard:=none},{dst:=some 10,op:=Op.buildSlice 48 1 #[(0,Operand.tmp 9)],type:=48,pos:= "iter.go:52",after:=#[{on:=1,ground:=Ground.data}],guard:=none},{dst:=some 11,op:=Op.call {callee:=Callee.builtin Builtin.append,args:=#[Operand.tmp 8,Operand.tmp 10],argTypes:=#[48,48]},type:=48,pos:= "iter.go:52",after:=#[{on:=0,ground:=Ground.data},{on:=2,ground:=Ground.data}],guard:=none},{dst:=none,op:=Op.store 48 (Operand.tmp 2) (Operand.tmp 11),type:=0,pos:= "iter.go:52",after:=#[{on:=3,ground:=Ground.data},{on:=3,ground:=Ground.chain},{on:=0,ground:=Ground.phase},{on:=1,ground:=Ground.phase},{on:=2,ground:=Ground.phase},{on:=3,ground:=Ground.phase}],guard:=none}] false))
def Ks.qQ (fn:FuncId) (sv:Value) (Bs D:Nat) (st:LoopState) (pend:Option Code):Loop:=
 {state:=st,pending:=pend,fn,tmps:=#[.slice none 0 0,sv,.pointer (some ⟨Bs,0,none⟩),undef,.slice none 0 0,undef,sv,undef,undef,undef,undef,undef,undef],params:=#[7],assign:=Ks.By,body:=Ks.Kw,defers:=D}
structure Ks.QW (w0:World) (fn:FuncId) (sv:Value) (Bs l D:Nat) (ss:List Int) (W:World):Prop where
 box:∃v,W.heap[Bs]?=some (.cells #[v] 48 (0,0))∧W.ownsRow w0.heap.size 24 1 v ss.length (ss.map gH)∧(v=.slice none 0 0↔ss=[])
 L:W.heap[l]?=some (.loop (Ks.qQ fn sv Bs D .ready none))
 K:W.heap[D]?=some (.deferred (some []))
 below:Below w0.heap.size w0 W
theorem Bz {W W':World} {row:Option Nat} {base:Nat} {e:TypeId} {size:Nat} {v:Value} {k:Nat} {xs:List Value} (h:W.ownsRow base e size v k xs) (hg:W.grownBy W' row)
 (hrow:∀r,row=some r→∃o:Obj,W.heap[r]?=some o∧o.isWalk=true):W'.ownsRow base e size v k xs:=by
 refine h.kept hg ?_
 rcases h.2 with ⟨rfl,_⟩|⟨g,cap,cur,rfl,_,hgb,_⟩
 ·exact .inl rfl
 refine .inr fun e'=>?_
 obtain ⟨o,ho,hw⟩:=hrow g (by simpa [Value.ownBlock] using e'.symm)
 rw [hgb] at ho;cases ho;cases hw
theorem Ks.NM (w0:World) (fn:FuncId) (sv:Value) (Bs l D B:Nat) (hB:w0.heap.size≤B):AbidesFrom B (Ks.QW w0 fn sv Bs l D):=fun s W W' row h hg hrow=>by
 have hrow':∀r,row=some r→∃o:Obj,W.heap[r]?=some o∧o.isWalk=true:=fun r e=>(hrow r e).2
 obtain ⟨v,hv,hr,hn⟩:=h.box
 exact ⟨⟨v,(grownBy_keeps hg hrow' hv rfl).trans hv,Bz hr hg hrow',hn⟩,(grownBy_keeps hg hrow' h.L rfl).trans h.L,(grownBy_keeps hg hrow' h.K rfl).trans h.K,
  h.below.grown hg h.below.size (fun k e=>Nat.le_trans hB (hrow k e).1)⟩
theorem fW (W:World) (l:Nat) (o:Obj):W.grownBy (W.putObj l o) (some l):=
 ⟨rfl,rfl,rfl,by simp,fun k _ hk=>World.putObj_heap_other (fun e=>hk (by rw [e]))⟩
theorem xy (W:World) (b:Nat) (v:Value):W.grownBy (W.setCell ⟨b,0,none⟩ v) (some b):=
 ⟨rfl,rfl,rfl,(KeepsWalks.setCell W _ v).size,fun k _ hk=>Below.heap_setCell _ _ _ k (fun e=>hk (by rw [e]))⟩
theorem kp {W:World} {base:Nat} {e:TypeId} {size:Nat} {v:Value} {k:Nat} {xs:List Value} (h:W.ownsRow base e size v k xs) {j:Nat} {o:Obj} (hj:W.heap[j]?=some o) (hno:∀cur,o≠.cells cur e (0,0)):
 v.ownBlock=none∨v.ownBlock≠some j:=by
 rcases h.2 with ⟨rfl,_⟩|⟨g,cap,cur,rfl,_,hgb,_⟩
 ·exact .inl rfl
 refine .inr fun e'=>?_
 have:g=j:=by simpa [Value.ownBlock] using e'
 subst this;rw [hgb] at hj;cases hj;exact hno cur rfl
theorem qR {W:World} {B:Nat} {v:Value} {t:TypeId} (h:W.heap[B]?=some (.cells #[v] t (0,0))):W.cell? ⟨B,0,none⟩=some v∧W.frozen? ⟨B,0,none⟩=false:=by
 constructor<;>simp [World.cell?,World.frozen?,h]
theorem xz {W:World} {B:Nat} {v:Value} {t:TypeId} (v':Value) (h:W.heap[B]?=some (.cells #[v] t (0,0))):(W.setCell ⟨B,0,none⟩ v').heap[B]?=some (.cells #[v'] t (0,0)):=by
 obtain ⟨hlt,hk⟩:=Array.getElem?_eq_some_iff.1 h
 show (W.heap.modify B _)[B]?=_
 rw [Array.getElem?_eq_getElem (by rw [Array.size_modify];exact hlt),Array.getElem_modify_self,hk]
 rfl
theorem xA {W:World} {base:Nat} {e:TypeId} {size:Nat} {v:Value} {k:Nat} {xs:List Value} (h:W.ownsRow base e size v k xs):∀(j:Nat) (o:Obj),v.ownBlock=some j→W.heap[j]?=some o→o.isWalk=false:=by
 intro j o hj ho
 rcases h.2 with ⟨rfl,_⟩|⟨g,cap,cur,rfl,_,hgb,_⟩
 ·simp [Value.ownBlock] at hj
 have:g=j:=by simpa [Value.ownBlock] using hj
 subst this;rw [hgb] at ho;cases ho;rfl
theorem Ks.YC:(Tryz.prog.info? 24).map (fun i=>(i.zero,i.size,i.bytes))=some (some (.int .u64 0),1,8):=by kernel_rfl
set_option maxRecDepth 100000 in
set_option maxHeartbeats 2000000 in
theorem Ks.Tz (F:Fence) (m:Nat) (w0:World) (fn:FuncId) (hfn:F.fn fn) (sv:Value) (Bs l D:Nat) (hBl:Bs≠l) (hDl:D≠l) (hDB:D≠Bs) (h0B:w0.heap.size≤Bs) (h0l:w0.heap.size≤l)
 (N:Nat) (hN:N≤maxLen) (hNb:N*8≤140737488355328) (ss:List Int) (x:Int) (W:World) (h:Ks.QW w0 fn sv Bs l D ss W) (hlen:ss.length<N):
 YieldAt F m Tryz.prog l #[gH x] W fun e W'=>e=.returned (.bool true)∧Ks.QW w0 fn sv Bs l D (ss++[x]) W'∧KeepsWalks W W':=by
 obtain ⟨i0,hi,hz0,hz1,hz2⟩:=info_parts Ks.YC
 obtain ⟨v,hv,hrow,_⟩:=h.box
 refine ⟨fn,#[.slice none 0 0,sv,.pointer (some ⟨Bs,0,none⟩),undef,.slice none 0 0,undef,sv,gH x,undef,undef,undef,undef,undef],Ks.By,Ks.Kw,by simpa [Ks.qQ] using run_yield (P:=Tryz.prog) (args:=#[gH x]) h.L rfl,roundIn_of_wpIn hfn ?_⟩
 have hl:l<W.heap.size:=(Array.getElem?_eq_some_iff.1 h.L).1
 have hbr:=run_beginRound (P:=Tryz.prog) h.L rfl
 obtain ⟨W2,hW2⟩:∃W2,W.putObj l (.loop {Ks.qQ fn sv Bs D .ready none with state:=.busy})=W2:=⟨_,rfl⟩
 rw [hW2] at hbr
 have hg2:W.grownBy W2 (some l):=by rw [←hW2];exact fW _ _ _
 have hk2:KeepsWalks W W2:=by rw [←hW2];exact KeepsWalks.putObj _ h.L rfl
 have hv2:W2.heap[Bs]?=some (.cells #[v] 48 (0,0)):=by rw [←hW2];exact (World.putObj_heap_other hBl).trans hv
 have hK2:W2.heap[D]?=some (.deferred (some [])):=by rw [←hW2];exact (World.putObj_heap_other hDl).trans h.K
 have hL2:W2.heap[l]?=some (.loop {Ks.qQ fn sv Bs D .ready none with state:=.busy}):=by rw [←hW2];exact World.putObj_heap_same hl
 have hrow2:W2.ownsRow w0.heap.size 24 1 v ss.length (ss.map gH):=hrow.kept hg2 (kp hrow h.L (fun cur e=>by cases e))
 have hb2:Below w0.heap.size w0 W2:=h.below.grown hg2 h.below.size (fun k e=>by cases e;exact h0l)
 obtain ⟨hc2,hf2⟩:=qR hv2
 have hBlt:Bs<W2.heap.size:=(Array.getElem?_eq_some_iff.1 hv2).1
 have hl2:l<W2.heap.size:=(Array.getElem?_eq_some_iff.1 hL2).1
 have hDlt:D<W2.heap.size:=(Array.getElem?_eq_some_iff.1 hK2).1
 have ne_of:∀{j:Nat} {o:Obj},W2.heap[j]?=some o→(∀cur,o≠.cells cur 24 (0,0))→some j≠v.ownBlock:=fun hj hno=>by
  rcases kp hrow2 hj hno with e|e
  ·rw [e];simp
  exact fun e'=>e e'.symm
 clear hW2
 unfold Ks.By
 gi_wp2_with (rw [Oper.semAt_eq _ _ _ (fun c h=>by cases h)];go_simp;try go_bits)
 unfold Ks.Kw
 gi_wp2_with (first
  |(
   gi_at_builtin;refine wpListIn_append_own _ rfl _ _ 48 rfl w0.heap.size 24 i0 (.int .u64 0) 1 8 Tryz.underlying48 hi hz0 hz1 hz2 rfl (by decide) _ _ _ rfl (hrow2.alloc _) ⟨W2.heap.size,0,none⟩ 1 1 [gH x] rfl rfl (cell_one_new _ _ _) (by simp [Value.oneCell',gH]) (by omega) (by omega) (by have:=hb2.size;simp;omega) ?_;intro v' w3 hown' hg3 hnil3
   have hv3:w3.heap[Bs]?=some (.cells #[v] 48 (0,0)):=(hg3.block Bs (by simp;omega) (ne_of hv2 (fun cur e=>by cases e))).trans ((Below.heap_alloc _ _ Bs hBlt).trans hv2)
   obtain ⟨hc3,hf3⟩:=qR hv3
   obtain ⟨g',cap',cur',rfl,hbase',hgb',hr1,hr2,hr3,hr4⟩:∃g' cap' cur',v'=.slice (some ⟨g',0,none⟩) (ss.length+1) cap'∧w0.heap.size≤g'∧w3.heap[g']?=some (.cells cur' 24 (0,0))∧ss.length+1≤cap'∧cap'≤maxLen∧cur'.size=cap'*1∧cur'.toList.take ((ss.length+1)*1)=ss.map gH++[gH x]:=by
    rcases hown'.2 with ⟨_,h0⟩|h'
    ·exact absurd h0 (by omega)
    exact h'
   go_frame)
  |(rw [Oper.semAt_eq _ _ _ (fun c h=>by cases h)];go_simp;try go_bits))
 have hg3':(W2.alloc (.cells #[gH x] 24)).grownBy w3 v.ownBlock:=hg3
 have hL3:w3.heap[l]?=some (.loop {Ks.qQ fn sv Bs D .ready none with state:=.busy}):=(hg3'.block l (by simp;omega) (ne_of hL2 (fun cur e=>by cases e))).trans ((Below.heap_alloc _ _ l hl2).trans hL2)
 have hK3:w3.heap[D]?=some (.deferred (some [])):=(hg3'.block D (by simp;omega) (ne_of hK2 (fun cur e=>by cases e))).trans ((Below.heap_alloc _ _ D hDlt).trans hK2)
 obtain ⟨w4,hw4⟩:∃w4,w3.setCell ⟨Bs,0,none⟩ (.slice (some ⟨g',0,none⟩) (ss.length+1) cap')=w4:=⟨_,rfl⟩
 rw [hw4]
 have hg4:w3.grownBy w4 (some Bs):=by rw [←hw4];exact xy _ _ _
 have hv4:w4.heap[Bs]?=some (.cells #[.slice (some ⟨g',0,none⟩) (ss.length+1) cap'] 48 (0,0)):=by rw [←hw4];exact xz _ hv3
 have hL4:w4.heap[l]?=some (.loop {Ks.qQ fn sv Bs D .ready none with state:=.busy}):=(hg4.block l (Array.getElem?_eq_some_iff.1 hL3).1 (fun e=>hBl (by cases e;rfl))).trans hL3
 have hK4:w4.heap[D]?=some (.deferred (some [])):=(hg4.block D (Array.getElem?_eq_some_iff.1 hK3).1 (fun e=>hDB (by cases e;rfl))).trans hK3
 have hrow4:=hown'.kept hg4 (kp hown' hv3 (fun cur e=>by cases e))
 have hl4:l<w4.heap.size:=(Array.getElem?_eq_some_iff.1 hL4).1
 have hb3:Below w0.heap.size w0 w3:=(hb2.alloc hb2.size _).grown hg3' (by have:=hb2.size;simp;omega) (fun k e=>(hrow2.lt k e).1)
 have hb4:Below w0.heap.size w0 w4:=hb3.grown hg4 hb3.size (fun k e=>by cases e;exact h0B)
 have hk4:KeepsWalks W w4:=((hk2.trans (KeepsWalks.alloc _ _)).trans (KeepsWalks.of_grownBy hg3' (xA (hrow2.alloc _)))).trans (by rw [←hw4];exact KeepsWalks.setCell _ _ _)
 clear hw4
 refine ⟨_,_,run_endRound none hL4,rfl,⟨⟨_,(World.putObj_heap_other hBl).trans hv4,?_,by simp⟩,World.putObj_heap_same hl4,(World.putObj_heap_other hDl).trans hK4,hb4.grown (fW _ _ _) hb4.size (fun k e=>by cases e;exact h0l)⟩,hk4.trans (KeepsWalks.putObj _ hL4 rfl)⟩
 have:=hrow4.kept (fW w4 l (.loop {{Ks.qQ fn sv Bs D .ready none with state:=.busy} with state:=if (none:Option Code).isNone then .ready else .done,pending:=none})) (kp hrow4 hL4 (fun cur e=>by cases e))
 simpa using this
set_option maxRecDepth 100000 in
set_option maxHeartbeats 2000000 in
theorem Ks.E1 (F:Fence) (n:Nat) (h11:F.fn 218) (hro:F.round=none) (hn:2≤n) (g:Nat) (lb:Array Value) (hFg:F.fn g) (eg:∀args w,(callFunc g args).run Tryz.prog w=.ok (.enter g args) w)
 (S:List Int→Prop) (N:Nat) (hN:N≤maxLen) (hNb:N*8≤140737488355328) (w:World) (hseq:SeqGives F (n-1) Tryz.prog g lb gH S N w):
 CallsIn F n Tryz.prog 218 #[.slice none 0 0,.func (.func g) #[] lb] w fun e w'=>∃(v:Value) (ss:List Int),e=.returned v∧S ss∧w'.ownsRow w.heap.size 24 1 v ss.length (ss.map gH)∧(v=.slice none 0 0↔ss=[])∧Below w.heap.size w w':=by
 have h1:1≤n:=by omega
 refine callsIn_of_wp_marks Tryz.func218 rfl h11 ?_ hro
 simp only [Tryz.ntmps218,List.size_toArray,List.length_cons,List.length_nil,Nat.reduceAdd,Nat.reduceSub,Array.replicate_succ,Array.replicate_zero,List.push_toArray,List.append_toArray,List.nil_append,List.cons_append]
 gi_wp2
 refine wpIn_rangeFunc ?_
 intro fn hfn
 rw [hro]
 obtain ⟨W0,hW0⟩:∃W0,w.alloc (.cells #[.slice none 0 0] 48)=W0:=⟨_,rfl⟩
 have hs0:W0.heap.size=w.heap.size+1:=by rw [←hW0];simp
 have hv0:W0.heap[w.heap.size]?=some (.cells #[.slice none 0 0] 48 (0,0)):=by rw [←hW0];exact World.alloc_heap_new w _
 have hb0:Below w.heap.size w W0:=by rw [←hW0];exact (Below.refl _ w).alloc (Nat.le_refl _) _
 rw [hW0]
 obtain ⟨W1,hW1⟩:∃W1,(W0.alloc (.deferred (some []))).alloc (.loop (Ks.qQ fn (.func (.func g) #[] lb) w.heap.size W0.heap.size .ready none))=W1:=⟨_,rfl⟩
 have hold:∀k,k<W0.heap.size→W1.heap[k]?=W0.heap[k]?:=fun k hk=>by
  rw [←hW1];exact (Below.heap_alloc _ _ k (by simp;omega)).trans (Below.heap_alloc _ _ k hk)
 have hb1:Below w.heap.size w W1:=by rw [←hW1];exact (hb0.alloc hb0.size _).alloc (by have:=hb0.size;simp;omega) _
 have hs1:W1.heap.size=W0.heap.size+2:=by rw [←hW1];simp
 have hM:Ks.QW w fn (.func (.func g) #[] lb) w.heap.size (W0.heap.size+1) W0.heap.size [] W1:=
  ⟨⟨_,(hold w.heap.size (by omega)).trans hv0,⟨rfl,.inl ⟨rfl,rfl⟩⟩,by simp⟩,
   by rw [←hW1];have:=World.alloc_heap_new (W0.alloc (.deferred (some []))) (.loop (Ks.qQ fn (.func (.func g) #[] lb) w.heap.size W0.heap.size .ready none));rwa [World.size_alloc] at this,
   by rw [←hW1];exact (Below.heap_alloc _ _ _ (by simp)).trans (World.alloc_heap_new W0 _),hb1⟩
 refine ⟨W0.heap.size+1,[{target:=.collected W0.heap.size,args:=#[]}],W1,{target:=.fn (.func g) lb,args:=#[.func (.yield (W0.heap.size+1)) #[] #[]]},W1,g,
  #[.func (.yield (W0.heap.size+1)) #[] #[]]++lb,W1,?_,?_,?_,?_,fun _=>h1,?_⟩
 ·rw [←hW1];exact run_enterLoop_outer _ _ _ _ _
 ·simp [resolve,go_sem]
 ·intro f' hf';simp [Target.leads] at hf';subst hf';exact hFg
 ·simp [invoke,go_sem,eg]
 refine (hseq (W0.heap.size+1) (Ks.QW w fn (.func (.func g) #[] lb) w.heap.size (W0.heap.size+1) W0.heap.size) W1 hb1 (Ks.NM _ _ _ _ _ _ _ hb1.size)
  (fun pre x W hJ hl=>Ks.Tz F (n-1-1) w fn hfn _ w.heap.size (W0.heap.size+1) W0.heap.size (by omega) (by omega) (by omega) (Nat.le_refl _) (by omega) N hN hNb pre x W hJ hl) hM).mono ?_
 rintro e W2 ⟨⟨v0,rfl⟩,ss,hS,h2⟩
 obtain ⟨v,hv,hrow,hnil⟩:=h2.box
 have hend:=run_endLoop (P:=Tryz.prog) h2.L (by simp [Ks.qQ])
 obtain ⟨W3,hW3⟩:∃W3,W2.putObj (W0.heap.size+1) (.loop {Ks.qQ fn (.func (.func g) #[] lb) w.heap.size W0.heap.size .ready none with state:=.exhausted})=W3:=⟨_,rfl⟩
 rw [hW3] at hend
 have hg3:W2.grownBy W3 (some (W0.heap.size+1)):=by rw [←hW3];exact fW _ _ _
 have hv3:W3.heap[w.heap.size]?=some (.cells #[v] 48 (0,0)):=by rw [←hW3];exact (World.putObj_heap_other (by omega)).trans hv
 have hK3:W3.heap[W0.heap.size]?=some (.deferred (some [])):=by rw [←hW3];exact (World.putObj_heap_other (by omega)).trans h2.K
 have hrow3:=hrow.kept hg3 (kp hrow h2.L (fun cur e=>by cases e))
 have hb3:Below w.heap.size w W3:=h2.below.grown hg3 h2.below.size (fun k e=>by cases e;omega)
 obtain ⟨hc3,hf3⟩:=qR hv3
 clear hW3
 refine ⟨none,W3,hend,?_⟩
 gi_wp2
 rw [←hs0]
 refine ⟨by simp,.inl ⟨_,_,rfl,run_takeDeferred hK3,?_⟩⟩
 exact ⟨_,results_tmp rfl _ _ _,v,ss,rfl,hS,hrow3.kept (fW _ _ _) (kp hrow3 hK3 (fun cur e=>by cases e)),hnil,hb3.grown (fW _ _ _) hb3.size (fun k e=>by cases e;omega)⟩
set_option maxHeartbeats 1000000 in
theorem Ks.Kz (F:Fence) (n:Nat) (h8:F.fn 194) (h11:F.fn 218) (hro:F.round=none) (hn:3≤n) (g:Nat) (lb:Array Value) (hFg:F.fn g) (eg:∀args w,(callFunc g args).run Tryz.prog w=.ok (.enter g args) w)
 (S:List Int→Prop) (N:Nat) (hN:N≤maxLen) (hNb:N*8≤140737488355328) (w:World) (hseq:SeqGives F (n-1-1) Tryz.prog g lb gH S N w):
 CallsIn F n Tryz.prog 194 #[.func (.func g) #[] lb] w fun e w'=>∃(v:Value) (ss:List Int),e=.returned v∧S ss∧w'.ownsRow w.heap.size 24 1 v ss.length (ss.map gH)∧(v=.slice none 0 0↔ss=[])∧Below w.heap.size w w':=by
 have h1:1≤n:=by omega
 refine callsIn_of_wp Tryz.func194 rfl h8 ?_ hro
 simp only [Tryz.ntmps194,List.size_toArray,List.length_cons,List.length_nil,Nat.reduceAdd,Nat.reduceSub,Array.replicate_succ,Array.replicate_zero,List.push_toArray,List.append_toArray,List.nil_append,List.cons_append]
 gi_wp2_with (gi_at_call 218;refine (Ks.E1 F (n-1) h11 hro (by omega) g lb hFg eg S N hN hNb _ hseq).mono ?_;rintro e w' ⟨v,ss,rfl,hS,hrow,hnil,hb⟩)
 go_ret
 exact ⟨v,ss,rfl,hS,hrow,hnil,hb⟩
end Go.Proofs
end
section
open Go
namespace Dem
section
variable {α:Type} [Inhabited α] {lt:α→α→Bool} {cells:α→List D}
theorem sS (a b i:Nat) (d:Array α) (h:i<b):Sort.insOuter lt a b i d=Sort.insOuter lt a b (i+1) (Sort.insInner lt a i d):=by rw [Sort.insOuter,if_pos h]
theorem vX (a b i:Nat) (d:Array α) (h:b≤i):Sort.insOuter lt a b i d=d:=by rw [Sort.insOuter,if_neg (by omega)]
theorem swp_size (q:Array α) (i j:Nat):(Sort.swp q i j).size=q.size:=by simp [Sort.swp]
theorem yI {a j:Nat} {q:Array α} (h:a<j) (hl:lt q[j]! q[j-1]! =true):Sort.insInner lt a j q=Sort.insInner lt a (j-1) (Sort.swp q j (j-1)):=by
 cases j with
 |zero=>omega
 |succ j=>rw [Sort.insInner,if_pos (by simpa using ⟨h,hl⟩)];simp
theorem sU {a j:Nat} {q:Array α} (h:a<j→lt q[j]! q[j-1]! =false):Sort.insInner lt a j q=q:=by
 cases j with
 |zero=>rfl
 |succ j=>rw [Sort.insInner,if_neg (by simp;intro g;simpa using h (by omega))]
theorem E2 {q:Array α} {u:List (List D)} (hu:u=q.toList.map cells) {j:Nat} (h:j<q.size):u.getD j []=cells q[j]!:=by
 subst hu;simp [List.getD,h]
theorem zu {q:Array α} {u:List (List D)} (hu:u=q.toList.map cells) (cT:α→List D) (hT:∀x,cells x=cT x) (j:Nat) {g:Bool} {c:Prop} {ds:List D} {K:List D→Prop} (h:g=true→j<q.size∧u.getD j []=ds∧(j<u.length→c)) (hK:∀x,x=q[j]!→K (cT x)):Az g c ds K:=by
 refine Vr _ (fun hg=>?_) (hK _ rfl)
 obtain ⟨h1,h2,h3⟩:=h hg
 exact ⟨h3 (by rw [hu];simpa using h1),by rw [←h2,E2 hu h1,hT]⟩
theorem BA:∀{r s:List D},r.length=s.length→be r 0 s=s
 |[],[],_=>rfl
 |x::r,y::s,h=>by rw [be,BA (by simpa using h)]
theorem KA {q:Array α} {u:List (List D)} (hu:u=q.toList.map cells) {n:Nat} (hn:∀x,(cells x).length=n) {i:Nat} (h:i<q.size) (y:α):u.set i (be (u.getD i []) 0 (cells y))=(q.setIfInBounds i y).toList.map cells:=by
 rw [E2 hu h,BA (by rw [hn,hn])];subst hu;simp [List.map_set]
theorem QY {q:Array α} {u:List (List D)} (hu:u=q.toList.map cells) {n:Nat} (hn:∀x,(cells x).length=n) {i:Nat} (h:i<q.size) {s:List D} (hs:s.length=n):i<u.length∧0+s.length≤(u.getD i []).length:=by
 refine ⟨by rw [hu];simpa using h,?_⟩
 rw [E2 hu h,hn];omega
theorem QZ {q:Array α} {u:List (List D)} (hu:u=q.toList.map cells) {n:Nat} (hn:∀x,(cells x).length=n) {i j:Nat} (hi:i<q.size) (hj:j<q.size) {y z:α} (hy:y=q[i]!) (hz:z=q[j]!):
 (u.set i (be (u.getD i []) 0 (cells z))).set j (be ((u.set i (be (u.getD i []) 0 (cells z))).getD j []) 0 (cells y))=(Sort.swp q i j).toList.map cells:=by
 rw [KA hu hn hi z,KA rfl hn (by simpa using hj) y,hy,hz];rfl
end
end Dem
end
section
open Go Dem Go.Proofs
namespace Dem
variable {t:Th}
def cX (x:Int):List D:=[.int .u64 x]
def TD (_:Th) (x:Int):List D:=[.int .u64 x]
def zw (x y:Int):Bool:=decide (x<y)
theorem TE (ht:TT t) (x y:Int):FC 240 [aB x,aB y] [] (.ret (dH (t _ fun _=>zw x y))) []:=by
 refine cL ht Tryz.func240 (N:=17) ?_
 cbv
 refine aP (EU ht _) trv (fun r0 c8=>?_)
 simp only [ht] at c8
 cbv
 refine gI (by simp) ?_
 refine eR (fun g1=>⟨by simp at g1 ⊢;exact g1,trv,EU ht _⟩) rfl rfl (fun r2 ix=>?_)
 simp only [ht] at ix
 cbv
 refine gI (by simp) ?_
 refine pI (by simp) ?_
 iterate 3 refine gI (by simp [ht]) ?_
 refine pI (by simp [ht];intros;simp_all) ?_
 refine an ?_
 (simp [zw, *];done)
theorem E3 {q:Array Int} {u:List (List D)} (hu:u=q.toList.map cX) {j:Nat} (h:j<q.size):u.getD j []=[.int .u64 q[j]!]:=by
 subst hu;simp [List.getD,h,cX]
theorem TF {q:Array Int} {u:List (List D)} (hu:u=q.toList.map cX) (j:Nat) {g:Bool} {c:Prop} {ds:List D} {K:List D→Prop} (h:g=true→j<q.size∧u.getD j []=ds∧(j<u.length→c)) (hK:∀x,x=q[j]!→K [.int .u64 x]):Az g c ds K:=by
 refine Vr _ (fun hg=>?_) (hK _ rfl)
 obtain ⟨h1,h2,h3⟩:=h hg
 exact ⟨h3 (by rw [hu];simpa using h1),by rw [←h2,E3 hu h1]⟩
theorem KB {q:Array Int} {u:List (List D)} (hu:u=q.toList.map cX) {i:Nat} (h:i<q.size) (y:Int):u.set i (be (u.getD i []) 0 [.int .u64 y])=(q.setIfInBounds i y).toList.map cX:=by
 rw [E3 hu h];subst hu;simp [be,List.map_set,cX]
theorem Q0 {q:Array Int} {u:List (List D)} (hu:u=q.toList.map cX) {i:Nat} (h:i<q.size) (x:D):i<u.length∧0+[x].length≤(u.getD i []).length:=by
 refine ⟨by rw [hu];simpa using h,?_⟩
 rw [E3 hu h];exact Nat.le_refl _
theorem Wf (ht:TT t) (a b n:Nat) (d:Array Int) {es:List (List D)} {ai bi:Int} (ha:ai=a) (xK:bi=b) (aD:es=d.toList.map cX) (hn:n=d.size) (hb:b≤n) (hl:n<1000000000) (RN:a<1000000000):
 FC 234 [.ow 0 1 n,bF ai,bF bi] [.row 1 es] (.ret (.dV [])) [.row 1 (t _ fun _=>(Sort.insertionSort zw d a b).toList.map cX)]:=by
 refine kM ht (bC:=[.row 1 es]) Tryz.func234 rfl rfl (N:=49) rfl rfl (n:=1) rfl rfl ?_
 cbv
 obtain ⟨J0,fK⟩:∃J0:Nat→Int×List (List D)→Prop,∀m i u,J0 m (i,u)↔(∃(k:Nat) (r:Array Int),i=k∧b≤k+m∧a+1≤k∧k≤1000000000∧r.size=n∧u=r.toList.map cX∧Sort.insertionSort zw d a b=Sort.insOuter zw a b k r):=⟨fun m v=>match v with|(i,u)=>(∃(k:Nat) (r:Array Int),i=k∧b≤k+m∧a+1≤k∧k≤1000000000∧r.size=n∧u=r.toList.map cX∧Sort.insertionSort zw d a b=Sort.insOuter zw a b k r),fun _ _ _=>Iff.rfl⟩
 refine bE ⟨[0,1,2,6],[],[]⟩ (σ:=Int×List (List D)) (fun v=>[(6,.d (.int .i64 (t _ fun _=>v.1)))]) (fun v=>[(0,.row 1 (t _ fun _=>v.2))]) J0 ?_
 cbv
 refine aF ⟨b,(_,_),(fK _ _ _).2 ?_,by simp only [ht];rfl,?_⟩
 ·exact ⟨a+1,d,by rw [ha];exact aE (by omega),by omega,by omega,by omega,hn.symm,aD,rfl⟩
 rintro m ⟨i,u⟩ hj
 replace hj:=(fK _ _ _).1 hj
 obtain ⟨k,r,rfl,j1,j2,j3,j5,j6,j4⟩:=hj
 cbv
 apply ap<;>intro h1
 ·simp [ht,ah] at h1
  cbv
  obtain ⟨J2,yW⟩:∃J2:Nat→Int×List (List D)→Prop,∀m2 jj u,J2 m2 (jj,u)↔(∃(j:Nat) (q:Array Int),jj=j∧j≤m2∧j≤k∧q.size=n∧u=q.toList.map cX∧Sort.insertionSort zw d a b=Sort.insOuter zw a b (k+1) (Sort.insInner zw a j q)):=⟨fun m2 v=>match v with|(jj,u)=>(∃(j:Nat) (q:Array Int),jj=j∧j≤m2∧j≤k∧q.size=n∧u=q.toList.map cX∧Sort.insertionSort zw d a b=Sort.insOuter zw a b (k+1) (Sort.insInner zw a j q)),fun _ _ _=>Iff.rfl⟩
  refine bE ⟨[0,1,2,6,7],[],[]⟩ (σ:=Int×List (List D)) (fun v=>[(7,.d (.int .i64 (t _ fun _=>v.1)))]) (fun v=>[(0,.row 1 (t _ fun _=>v.2))]) J2 ?_
  cbv
  refine aF ⟨k,(_,_),(yW _ _ _).2 ?_,rfl,?_⟩
  ·exact ⟨k,r,rfl,by omega,by omega,j5,j6,by rw [j4,sS];((try simp only [ah] at*);omega)⟩
  rintro m2 ⟨jj,u⟩ hj
  replace hj:=(yW _ _ _).1 hj
  obtain ⟨j,q,rfl,q1,q2,q5,q6,q4⟩:=hj
  cbv
  refine cE [false,false,true,true,false,false,false,false,false,false,false,false,false,true,true] ?_
  cbv
  iterate 2 refine gI (by simp) ?_
  iterate 2 refine gI (by simp [ht]) ?_
  refine gI (by simp [ht,ah];grind) ?_
  (refine TF q6 j (fun g=>(by simp [ht,ah] at g ⊢;exact ⟨by ((try simp only [ah] at*);omega),fun h=>(by exact ⟨g,h⟩)⟩)) (fun y ey=>?_))
  cbv
  iterate 3 refine gI (by simp [ht]) ?_
  refine gI (by (simp [ht,ah];intro g;rw [wrap64 (by omega) (by omega)];((try simp only [ah] at*);omega))) ?_
  (refine TF q6 (j-1) (fun g=>(by simp only [ht,decide_eq_true_eq,ah] at g ⊢;rw [wrap64 (by omega) (by omega),show ((j:Int)-1).toNat=j-1 by omega];exact ⟨by ((try simp only [ah] at*);omega),rfl,fun h=>(by exact ⟨g,h⟩)⟩)) (fun z ez=>?_))
  cbv
  refine eR (fun g3=>⟨by simp [ht] at g3 ⊢;exact g3,trv,TE ht _ _⟩) rfl rfl (fun r4 kW=>?_)
  simp only [ht] at kW
  cbv
  refine pI (by simp [ht]) ?_
  apply ap<;>intro h5
  ·simp [ht,ah] at h5
   cbv
   refine Gx [0,1,2,3,4,5,6,7,10,11] [false,false,false,false,false,false,false,false,false,false,false,false,false,false,true,true,true,true] (by kernel_rfl) (by kernel_rfl) (by kernel_rfl) (by kernel_rfl) (by kernel_rfl) ?_
   cbv
   iterate 8 refine gI (by simp) ?_
   refine gI (by (simp [ht,ah];rw [wrap64 (by omega) (by omega)];((try simp only [ah] at*);omega))) ?_
   (refine TF q6 (j-1) (fun g=>(by simp only [ht,ah];rw [wrap64 (by omega) (by omega),show ((j:Int)-1).toNat=j-1 by omega];exact ⟨by ((try simp only [ah] at*);omega),rfl,fun h=>h⟩)) (fun z2 ez2=>?_))
   cbv
   iterate 2 refine gI (by simp) ?_
   refine gI (by simp [ht,ah];grind) ?_
   (refine TF q6 j (fun g=>(by simp only [ht,ah,Int.toNat_natCast];exact ⟨by ((try simp only [ah] at*);omega),trv,fun h=>h⟩)) (fun y2 ey2=>?_))
   cbv
   refine ⟨?_,?_⟩
   ·(simp only [ht,ah] at*;omega)
   refine ⟨?_,?_⟩
   ·(simp only [ht,ah,Int.toNat_natCast];exact Q0 q6 (by ((try simp only [ah] at*);omega)) _)
   refine ⟨?_,?_⟩
   ·(simp only [ht,ah];rw [wrap64 (by omega) (by omega)];((try simp only [ah] at*);omega))
   refine ⟨?_,?_⟩
   ·(simp only [ht,ah,Int.toNat_natCast];rw [wrap64 (by omega) (by omega),show ((j:Int)-1).toNat=j-1 by omega,KB q6 (by ((try simp only [ah] at*);omega))];exact Q0 rfl (by simp;((try simp only [ah] at*);omega)) _)
   cbv
   refine cr (_,_) (by simp only [ht];rfl) (m2-1) ?_ ((yW _ _ _).2 ?_)
   ·((try simp only [ah] at*);omega)
   simp only [ah]
   exact ⟨j-1,Sort.swp q j (j-1),El (by ((try simp only [ah] at*);omega)) (by omega),by omega,by omega,by rw [swp_size];exact q5,by rw [wrap64 (by omega) (by omega),show ((j:Int)-1).toNat=j-1 by omega,Int.toNat_natCast,KB q6 (by ((try simp only [ah] at*);omega)),KB rfl (by simp;((try simp only [ah] at*);omega)),ez2,ey2];rfl,by rw [q4,yI (by ((try simp only [ah] at*);omega)) (by rw [←ey,←ez,←kW];exact h5.2)]⟩
  simp [ht,ah] at h5
  cbv
  refine cr (_,_) (by simp only [ht];rfl) (m-1) ?_ ((fK _ _ _).2 ?_)
  ·((try simp only [ah] at*);omega)
  simp only [ah]
  exact ⟨k+1,q,aE (by omega),by omega,by omega,by ((try simp only [ah] at*);omega),q5,q6,by rw [q4,sU (fun g=>by rw [←ey,←ez,←kW];exact h5 (by ((try simp only [ah] at*);omega)))]⟩
 simp [ht,ah] at h1
 cbv
 refine iq trv trv rfl ?_ rfl rfl
 (simp only [ht];rw [j4,vX _ _ _ _ (by ((try simp only [ah] at*);omega)),←j6];rfl)
def Wg:List UInt8:=0::1::List.replicate 2 2++List.replicate 4 3++List.replicate 8 4++List.replicate 16 5++List.replicate 32 6++List.replicate 64 7++List.replicate 128 8
def Wh (x:Int):Int:=(Wg.getD x.toNat 0).toNat
theorem Wi {x:Int} (h0:0≤x) (h1:x<256):IntKind.u8.wrap x=x:=by
 simp only [IntKind.wrap];simp [IntKind.bits,IntKind.signed];omega
theorem Q2 (b:UInt8):IntKind.i64.wrap (0+IntKind.i64.wrap (b.toNat:Int))=b.toNat:=by
 have:=b.toNat_lt
 rw [wrap64 (x:=(b.toNat:Int)) (by omega) (by omega),Int.zero_add,wrap64 (by omega) (by omega)]
theorem Q3 (ht:TT t) (x:Int) (hx0:0≤x) (hx:x<256):FC 244 [aB x] [] (.ret (kS (t _ fun _=>Wh x))) []:=by
 have hw:=Wi hx0 hx
 refine cL ht Tryz.func244 (N:=25) ?_
 cbv
 apply ap<;>intro h0
 ·simp [ht] at h0
  omega
 simp [ht] at h0
 cbv
 apply ap<;>intro h1
 ·simp [ht] at h1
  omega
 simp [ht] at h1
 cbv
 apply ap<;>intro h2
 ·simp [ht] at h2
  omega
 simp [ht] at h2
 cbv
 refine ⟨?_,?_⟩
 ·(simp only [ht,hw];exact ⟨hx0,by simpa using hx⟩)
 cbv
 refine an ?_
 (simp only [ht,hw,Q2,Wh];rfl)
theorem Wj (ht:TT t) (x:Int) (hx0:0≤x) (hx:x<256):FC 220 [aB x] [] (.ret (kS (t _ fun _=>Wh x))) []:=by
 refine cL ht Tryz.func220 (N:=8) ?_
 cbv
 apply ap<;>intro h0
 ·simp at h0
 simp at h0
 cbv
 refine aP (Q3 ht _ ‹_› ‹_›) trv (fun r1 cR=>?_)
 simp only [ht] at cR
 cbv
 refine an ?_
 (simp [*];done)
theorem Wk (ht:TT t) (n:Nat) (eX:Int) (d:Array Int) {es:List (List D)} {ni:Int} (hni:ni=n) (aD:es=d.toList.map cX) (hn:n=d.size) (hl:n≤12):
 FC 219 [.ow 0 1 n,bF 0,bF ni,bF eX] [.row 1 es] (.ret (.dV [])) [.row 1 (t _ fun _=>(Sort.insertionSort zw d 0 n).toList.map cX)]:=by
 have hw:IntKind.i64.wrap ni=ni:=wrap64 (by omega) (by omega)
 refine kM ht (bC:=[.row 1 es]) Tryz.func219 rfl rfl (N:=134) rfl rfl (n:=1) rfl rfl ?_
 cbv
 obtain ⟨J0,fK⟩:∃J0:Nat→Int×Int×Int×Bool×Bool→Prop,∀m a b c f g,J0 m (a,b,c,f,g)↔(a=0∧b=ni):=⟨fun m v=>match v with|(a,b,c,f,g)=>(a=0∧b=ni),fun _ _ _ _ _ _=>Iff.rfl⟩
 refine bE ⟨[0,1,2,3,8,9],[],[]⟩ (σ:=Int×Int×Int×Bool×Bool) (fun v=>[(1,.d (.int .i64 (t _ fun _=>v.1))),(2,.d (.int .i64 (t _ fun _=>v.2.1))),(3,.d (.int .i64 (t _ fun _=>v.2.2.1))),(8,.d (.bool (t _ fun _=>v.2.2.2.1))),(9,.d (.bool (t _ fun _=>v.2.2.2.2)))]) (fun v=>[]) J0 ?_
 cbv
 refine aF ⟨1,(_,_,_,_,_),(fK _ _ _ _ _ _).2 ?_,by simp only [ht];rfl,?_⟩
 ·exact ⟨rfl,rfl⟩
 rintro m ⟨a,b,c,f,g⟩ hj
 replace hj:=(fK _ _ _ _ _ _).1 hj
 obtain ⟨Ui,wj⟩:=hj
 have hw2:IntKind.i64.wrap (b-a)=ni:=by rw [Ui,wj,Int.sub_zero,hw]
 cbv
 apply ap<;>intro h1
 ·simp [ht] at h1
  cbv
  refine dG [0] trv rfl rfl (Wf ht 0 n n d (by simp only [ht];((try simp only [ah] at*);omega)) (by simp only [ht];((try simp only [ah] at*);omega)) aD hn (Nat.le_refl _) (by ((try simp only [ah] at*);omega)) (by ((try simp only [ah] at*);omega))) (cD ?_)
  cbv
  refine an ?_
  rfl
 simp [ht] at h1
 (simp only [ah] at*;omega)
theorem TG (ht:TT t) (n:Nat) (d:Array Int) {es:List (List D)} (aD:es=d.toList.map cX) (hn:n=d.size) (hl:n≤12):
 FC 195 [.ow 0 1 n] [.row 1 es] (.ret (.dV [])) [.row 1 (t _ fun _=>(Sort.insertionSort zw d 0 n).toList.map cX)]:=by
 have hw:IntKind.u64.wrap (n:Int)=n:=by simp only [IntKind.wrap];simp [IntKind.bits,IntKind.signed];omega
 have hel:(es.length:Int)=n:=by rw [aD,hn];simp
 refine kM ht (bC:=[.row 1 es]) Tryz.func195 rfl rfl (N:=11) rfl rfl (n:=1) rfl rfl ?_
 cbv
 refine ⟨?_,?_⟩
 ·(simp only [ht,ah] at*;omega)
 cbv
 refine aP (Wj ht _ (by simp only [ht];simp only [ah] at*;rw [hel,hw];omega) (by simp only [ht];simp only [ah] at*;rw [hel,hw];omega)) trv (fun r1 cR=>?_)
 cbv
 refine dG [0] trv rfl rfl (Wk ht n _ d (by simp only [ht];exact hel) aD hn hl) (cD ?_)
 cbv
 refine an ?_
 rfl
end Dem
end
section
namespace Dem
open Go Go.Proofs Go.RowKit Go.Maps Go.Sort Go.Shelf
variable {t:Th}
theorem TH:SWO zw:=by
 refine ⟨?_,?_,?_⟩<;>simp only [zw]<;>simp<;>omega
theorem NN (ss:List Int):(Sort.insertionSort zw ss.toArray 0 ss.length).toList=n8 ss:=by
 obtain ⟨⟨h0,h1,h2⟩,h3⟩:=insertionSort_holds (lt:=zw) TH ss.toArray 0 ss.length (Nat.zero_le _) (by simp)
 refine AR ?_ (rV ss) ?_
 ·rw [List.pairwise_iff_getElem]
  intro i j hi hj hij
  have hs:(Sort.insertionSort zw ss.toArray 0 ss.length).size=ss.length:=by rw [h0];simp
  simp only [Array.length_toList] at hi hj
  have:=h3 i j (Nat.zero_le _) hij (by omega)
  rw [getElem!_pos _ j hj,getElem!_pos _ i hi] at this
  simp only [Array.getElem_toList]
  simp [zw] at this
  exact this
 refine List.Perm.trans ?_ (ko ss).symm
 have hs:(Sort.insertionSort zw ss.toArray 0 ss.length).size=ss.length:=by rw [h0];simp
 have e1:(Sort.insertionSort zw ss.toArray 0 ss.length).extract 0 ss.length=Sort.insertionSort zw ss.toArray 0 ss.length:=by
  apply Array.extract_eq_self_of_le;omega
 have e2:ss.toArray.extract 0 ss.length=ss.toArray:=by apply Array.extract_eq_self_of_le;simp
 rw [e1,e2] at h2
 simpa using h2
end Dem
end
section
namespace Go.Proofs
open Go Go.RowKit Go.Maps Go.Sort Go.Shelf
open Dem (gH pe oq yH)
theorem Ks.NO (F:Fence) (n:Nat) (h6:F.fn 151) (h8:F.fn 194) (h9:F.fn 195) (h11:F.fn 218) (hro:F.round=none) (hn:4≤n) (g:Nat) (lb:Array Value) (hFg:F.fn g) (eg:∀args w,(callFunc g args).run Tryz.prog w=.ok (.enter g args) w)
 (S:List Int→Prop) (N:Nat) (hN:N≤maxLen) (hNb:N*8≤140737488355328) (w:World) (hseq:SeqGives F (n-1-1-1) Tryz.prog g lb gH S N w)
 (Post:Value→List Int→World→Prop)
 (hsort:∀(v:Value) (ss:List Int) (W:World),S ss→W.ownsRow w.heap.size 24 1 v ss.length (ss.map gH)→(v=.slice none 0 0↔ss=[])→Below w.heap.size w W→CallsIn F (n-1) Tryz.prog 195 #[v] W fun e w'=>e=.returned (.tuple #[])∧Post v ss w'):
 CallsIn F n Tryz.prog 151 #[.func (.func g) #[] lb] w fun e w'=>∃(v:Value) (ss:List Int),e=.returned v∧S ss∧Post v ss w':=by
 have h1:1≤n:=by omega
 refine callsIn_of_wp Tryz.func151 rfl h6 ?_ hro
 simp only [Tryz.ntmps151,List.size_toArray,List.length_cons,List.length_nil,Nat.reduceAdd,Nat.reduceSub,Array.replicate_succ,Array.replicate_zero,List.push_toArray,List.append_toArray,List.nil_append,List.cons_append]
 gi_wp2_with (gi_at_call 194;refine (Ks.Kz F (n-1) h8 h11 hro (by omega) g lb hFg eg S N hN hNb _ hseq).mono ?_;rintro e W ⟨v,ss,rfl,hS,hrow,hnil,hb⟩)
 have cS:=hsort v ss W hS hrow hnil hb
 gi_wp2_with (gi_at_call 195;refine cS.mono ?_;rintro e w' ⟨rfl,hp⟩)
 go_ret
 exact ⟨v,ss,rfl,hS,hp⟩
end Go.Proofs
namespace Dem
open Go Go.Proofs Go.RowKit Go.Maps Go.Sort Go.Shelf
variable {t:Th}
theorem Dv {w:World} {ok:Nat→Prop}:∀(l:List iv) (ms:List MapEntry),bp w ok false (l.map iv.cells) ms→ms.map (·.key)=l.map (fun m=>gH m.bz)
 |[],ms,h=>by simp only [List.map_nil,bp] at h;subst h;rfl
 |m::l,ms,h=>by
  simp only [List.map_cons,bp] at h
  obtain ⟨e,r,rfl,h1,h2⟩:=h
  simp only [iv.cells,gZ,aL] at h1
  rw [List.map_cons,List.map_cons,Dv l r h2,h1.1]
def TJ {H:Type} (_:Value):Option (DataW H×List MemPlace):=some (.nil,[])
theorem Q4 {x:Int} (h0:0≤x) (h1:x<18446744073709551616):keyOf Tryz.prog 24 (gH x)=some (.int .u64 x):=by
 simp only [keyOf,Tryz.underlying24,mapKey,gH]
 rw [if_pos (by simp [Lit.wf,IntKind.min,IntKind.max,IntKind.signed,IntKind.bits];omega)]
theorem NP {w:World} {ok:Nat→Prop} {l:List iv} {ms:Array MapEntry} {clock b:Nat} (hh:w.heap[b]?=some (.map ms clock)) (hs:lZ ms clock) (hr:bp w ok false (l.map iv.cells) ms.toList)
 (hnd:(l.map iv.bz).Nodup) (hw:∀m∈l,0≤m.bz∧m.bz<18446744073709551616) (hlen:l.length≤1000000):
 ∃D0:DataW Unit,w.ownsMap Tryz.prog 24 TJ b ms.size D0∧(pe D0).Perm (l.map iv.bz)∧Maps.size D0=l.length:=by
 have hk:=Dv l ms.toList hr
 have hl:ms.size=l.length:=by have:=congrArg List.length hk;simpa using this
 have hrd:∀x∈ms.toList,∃m∈l,x.key=gH m.bz:=by
  intro x hx
  have:x.key∈ms.toList.map (·.key):=List.mem_map.2 ⟨x,hx,rfl⟩
  rw [hk] at this
  obtain ⟨m,hm,e⟩:=List.mem_map.1 this
  exact ⟨m,hm,e.symm⟩
 have hread:∀x∈ms.toList,∃m∈l,x.key=gH m.bz∧WideElems.rd Tryz.prog 24 (TJ (H:=Unit)) x=some (.int .u64 m.bz,.nil):=by
  intro x hx
  obtain ⟨m,hm,e⟩:=hrd x hx
  refine ⟨m,hm,e,?_⟩
  unfold WideElems.rd
  rw [e,Q4 (hw m hm).1 (hw m hm).2]
  rfl
 refine ⟨_,⟨ms,clock,hh,⟨?_,⟨?_,hs.2,?_⟩,?_⟩,Nat.le_refl _,rfl⟩,?_,?_⟩
 ·rw [hl];exact Nat.le_trans hlen (by decide)
 ·intro x hx
  have:=hs.1
  rw [Array.all_eq_true_iff_forall_mem] at this
  simpa using this x (by simpa using hx)
 ·rw [hk]
  have:(l.map (fun m=>gH m.bz))=(l.map iv.bz).map gH:=by simp
  rw [this]
  exact List.pairwise_map.2 (hnd.imp (fun h e=>h (Bx e)))
 ·intro x hx
  obtain ⟨m,hm,e,h⟩:=hread x hx
  exact ⟨_,h⟩
 ·show (List.map (fun p=>yH p.1) ((ms.toList.map (WideElems.rg Tryz.prog 24 TJ)).foldr DataW.insert [])).Perm _
  refine ((WideShapes.sorted_perm _).map _).trans ?_
  have e1:(ms.toList.map (WideElems.rg Tryz.prog 24 (TJ (H:=Unit)))).map (fun p=>yH p.1)=ms.toList.map (fun x=>match x.key with|.int _ a=>a|_=>0):=by
   rw [List.map_map]
   refine List.map_congr_left fun x hx=>?_
   obtain ⟨m,hm,e,h⟩:=hread x hx
   simp only [Function.comp,WideElems.rg,h,e,gH]
   rfl
  have e2:ms.toList.map (fun x=>match x.key with|.int _ a=>a|_=>0)=(ms.toList.map (·.key)).map (fun k=>match k with|.int _ a=>a|_=>0):=by rw [List.map_map];rfl
  rw [e1,e2,hk,List.map_map]
  exact List.Perm.refl _
 rw [Maps.size_eq,Go.length_sorted,lgM,Array.length_toList,hl]
end Dem
end
section
open Go Dem Go.Proofs
namespace Dem
variable {t:Th}
theorem TK (ht:TT t) (es:List (List D)):FC 152 [.d (.mp false es)] [] (.ret (.fn 196 [.ptr 0 0])) [.var [.d (.mp false es)]]:=by
 refine cL ht Tryz.func152 (N:=4) ?_
 cbv
 refine Jn trv ?_ ?_
 ·rfl
 rfl
theorem H7 {P:Program} {G:Nat→Option (List D)} {f g:Nat} {args:List AV} {x:D} (h:bA P G f args [] (.ret (.fn g [.ptr 0 0])) [.var [.d x]]):bA P G f args [] (.ret (.fn g [.ep [x]])) []:=by
 intro β w vs X cx hx
 refine (h β w vs X cx hx).mono ?_
 rintro e w' ⟨β',ex,mP,hr⟩
 have hok:∀blk,bg β' [.var [.d x]] w' X blk→bg β' [] w' X blk:=fun blk ⟨h1,h2,_⟩=>⟨h1,h2,fun i b h=>by simp at h⟩
 have hk:je w' w' (bg β' [.var [.d x]] w' X) (bg β' [] w' X):=fun blk hb=>⟨hok blk hb,rfl⟩
 have b0:=mP.box 0 _ rfl
 simp only [dj] at b0
 obtain ⟨c,e',v1,v2⟩:=b0
 simp only [ak,aj] at v2
 obtain ⟨u,r,hc,hu,rfl⟩:=v2
 refine ⟨β',⟨ex.os,ex.tape,ex.output,ex.size,ex.block,ex.shape,fun i hi=>by obtain ⟨b,h1,_⟩:=hi;simp at h1,fun i b h=>by simp at h⟩,?_,?_⟩
 ·refine ⟨mP.xs,fun g ds hg=>?_,by simp,by simp,by simp⟩
  obtain ⟨h1,h2⟩:=mP.yM g ds hg
  exact ⟨hok g h1,aX.mono hk g (fun _=>rfl) _ _ h2⟩
 cases e with
 |returned v=>
  simp only [mh,aj,ak] at hr ⊢
  obtain ⟨cs,rfl,p,ps,rfl,⟨rfl,_⟩,rfl⟩:=hr
  refine ⟨_,rfl,_,_,rfl,⟨β' 0,0,rfl,⟨(Array.getElem?_eq_some_iff.1 v1).1,mP.apart 0 _ rfl rfl,fun i b h=>by simp at h⟩,?_⟩,rfl⟩
  simp only [aX,and_true]
  refine ⟨u,?_,aL.mono hk _ _ hu⟩
  simp only [World.cell?,v1]
  have:c[0]?=some u:=by rw [←Array.getElem?_toList,hc];rfl
  simpa using this
 |_=>exact hr.elim
theorem TL (ht:TT t) (es:List (List D)):FC 152 [.d (.mp false es)] [] (.ret (.fn 196 [.ep [.mp false es]])) []:=H7 (TK ht es)
theorem Ma {w:World} {ok:Nat→Prop} {g:Nat} {cur:Array Value} {e:TypeId} (hg:w.heap[g]?=some (.cells cur e (0,0))):∀(ss:List Int) (off:Nat),(∀i x,ss[i]?=some x→cur[off+i]?=some (gH x))→ay w ok g 1 (ss.map cX) off
 |[],_,_=>by simp [ay]
 |x::ss,off,h=>by
  simp only [List.map_cons,ay,cX,List.length_cons,List.length_nil,aX,aL,and_true,true_and]
  refine ⟨?_,Ma hg ss (off+1) (fun i y hy=>by rw [show off+1+i=off+(i+1) by omega];exact h (i+1) y (by simpa using hy))⟩
  refine ⟨gH x,?_,rfl⟩
  have:=h 0 x rfl
  simp only [World.cell?,hg]
  simpa using this
theorem xB {n f:Nat} {vs:Array Value} {w:World} {R:Ending→World→Prop} (he:∀args w,(callFunc f args).run Tryz.prog w=.ok (.enter f args) w) (h:jB Tryz.prog f vs w R):CallsIn Fence.wide n Tryz.prog f vs w R:=by
 rcases h with ⟨_,h⟩|⟨v,w',h,_⟩
 ·exact callsIn_wide.2 h
 rw [he] at h;cases h
theorem Ck (ht:TT t) {l:List iv} {es:List (List D)} (aD:es=l.map iv.cells) (hnd:(l.map iv.bz).Nodup) (hw:∀m∈l,0≤m.bz∧m.bz<18446744073709551616) (hlen:l.length≤12):
 FC 151 [.fn 196 [.ep [.mp false es]]] [] (.ret (.ow 0 1 (t _ fun _=>l.length))) [.row 1 (t _ fun _=>(n8 (l.map iv.bz)).map cX)]:=by
 simp only [ht]
 intro β w vs X cx hx
 subst aD
 simp only [ak,aj] at hx
 obtain ⟨u,us,rfl,⟨cs,rfl,⟨p,ps,rfl,⟨bk,off,rfl,_,UT⟩,rfl⟩⟩,rfl⟩:=hx
 simp only [aX,aL,and_true] at UT
 obtain ⟨mv,Q5,bm,ms,clock,rfl,_,m1,m2,m3⟩:=UT
 obtain ⟨D0,o1,o2,o3⟩:=NP m1 m2 m3 hnd hw (by omega)
 have hbk:bk<w.heap.size:=by
  rcases Nat.lt_or_ge bk w.heap.size with h|h
  ·exact h
  simp [World.cell?,h] at Q5
 have Kx:=Ks.Kv Fence.wide 1 trv rfl (Nat.le_refl _) bk off bm _ D0 w hbk Q5 o1
 have hps:∀ss:List Int,ss.Perm (pe D0)→ss.Perm (l.map iv.bz):=fun ss h=>h.trans o2
 have key:=Ks.NO Fence.wide 4 trv trv trv trv rfl (Nat.le_refl _) 196 _ trv (enters_of Tryz.func196 (by kernel_rfl) rfl) _ _ (by rw [o3];exact Nat.le_trans hlen (by decide)) (by rw [o3];omega) w Kx
  (fun v ss w'=>∃β',Ext β [] w β' [.row 1 ((n8 (l.map iv.bz)).map cX)] w'∧cJ gl β' [.row 1 ((n8 (l.map iv.bz)).map cX)] w' X∧
   aj β' [.row 1 ((n8 (l.map iv.bz)).map cX)] w' (bg β' [.row 1 ((n8 (l.map iv.bz)).map cX)] w' X) (.ow 0 1 l.length) v) ?_
 ·refine .inl ⟨enters_of Tryz.func151 (by kernel_rfl) rfl _ _,(callsIn_wide.1 key).mono ?_⟩
  rintro e w' ⟨v,ss,rfl,_,β',h1,h2,h3⟩
  exact ⟨β',h1,h2,h3⟩
 intro v ss W hS hrow Ky hb
 have hp:=hps ss hS
 have hn:ss.length=l.length:=by rw [hp.length_eq];simp
 have Mu:∃β1,Ext β [] w β1 [.row 1 (ss.map cX)] W∧cJ gl β1 [.row 1 (ss.map cX)] W X∧aj β1 [.row 1 (ss.map cX)] W (bg β1 [.row 1 (ss.map cX)] W X) (.ow 0 1 ss.length) v:=by
  rcases hrow.2 with ⟨rfl,hz⟩|⟨g,cap,cur,rfl,hbase,hg,r1,r2,r3,r4⟩
  ·have hss:ss=[]:=List.eq_nil_of_length_eq_zero hz
   subst hss
   have ex:Ext β [] w β [.row 1 (([]:List Int).map cX)] W:=by
    refine ⟨hb.os,hb.tape,hb.output,hb.size,fun k hk _=>hb.block k hk,fun k c e f hk=>⟨c,by rw [hb.block k (Array.getElem?_eq_some_iff.1 hk).1];exact hk,rfl⟩,fun i h=>?_,fun i b h hl=>?_⟩
    ·obtain ⟨b,h1,_⟩:=h;simp at h1
    cases i with
    |zero=>simp at h;subst h;simp [az.live] at hl
    |succ i=>simp at h
   refine ⟨β,ex,?_,?_⟩
   ·refine cx.step ex (fun i b h=>?_) (fun i j bi bj hi hj mQ oJ _=>?_)
    ·cases i with
     |zero=>simp at h;subst h;exact .inr (by simp [dj])
     |succ i=>simp at h
    cases i with
    |zero=>simp at hi;subst hi;simp [az.live] at mQ
    |succ i=>simp at hi
   simp only [aj]
   exact ⟨⟨_,rfl,rfl⟩,.inl ⟨rfl,none,rfl⟩⟩
  have ex:Ext β [] w (fun _=>g) [.row 1 (ss.map cX)] W:=by
   refine ⟨hb.os,hb.tape,hb.output,hb.size,fun k hk _=>hb.block k hk,fun k c e f hk=>⟨c,by rw [hb.block k (Array.getElem?_eq_some_iff.1 hk).1];exact hk,rfl⟩,fun i h=>?_,fun i b h hl=>.inl hbase⟩
   obtain ⟨b,h1,_⟩:=h;simp at h1
  have wH:∀i x,ss[i]?=some x→cur[0+i]?=some (gH x):=by
   intro i x hx
   have h1:(cur.toList.take (ss.length*1))[i]?=some (gH x):=by rw [r4];simp [hx]
   rw [List.getElem?_take] at h1
   split at h1
   ·simpa using h1
   cases h1
  refine ⟨fun _=>g,ex,?_,?_⟩
  ·refine cx.step ex (fun i b h=>?_) (fun i j bi bj hi hj mQ oJ _=>?_)
   ·cases i with
    |zero=>
     simp only [List.getElem?_cons_zero,osI] at h;subst h
     refine .inr ?_
     simp only [dj]
     exact .inr ⟨cur,_,hg,Ma hg ss 0 wH⟩
    |succ i=>simp at h
   cases i with
   |zero=>cases j with
    |zero=>rfl
    |succ j=>simp at hj
   |succ i=>simp at hi
  simp only [aj]
  refine ⟨⟨_,rfl,rfl⟩,?_⟩
  by_cases hz:ss.length=0
  ·exact absurd (Ky.2 (List.eq_nil_of_length_eq_zero hz)) (by simp)
  exact .inr ⟨hz,cap,cur,_,(0,0),rfl,r1,hg,by rw [r3];exact Nat.le_refl _⟩
 obtain ⟨β1,x1,x2,x3⟩:=Mu
 have hs:=TG ht ss.length ss.toArray (es:=ss.map cX) (by simp) (by simp) (by omega)
 simp only [ht] at hs
 have hc:=hs β1 W [v] _ x2 (by simp only [ak];exact ⟨v,[],rfl,x3,rfl⟩)
 refine xB (enters_of Tryz.func195 (by kernel_rfl) rfl) (hc.mono ?_)
 rintro e w' ⟨β2,y1,y2,y3⟩
 cases e with
 |returned u=>
  simp only [mh,aj] at y3
  obtain ⟨us,rfl,hu⟩:=y3
  simp only [ak] at hu;subst hu
  refine ⟨rfl,?_⟩
  rw [NN,show n8 ss=n8 (l.map iv.bz) from AR (rV _) (rV _) ((ko _).trans (hp.trans (ko _).symm))] at y1 y2
  have x4:=aj.mono (y1.eY _) _ _ x3
  rw [hn] at x4
  exact ⟨_,x1.trans y1,y2,x4⟩
 |_=>exact y3.elim
theorem Mb (ht:TT t) (name:aI) (up:Bool) {l:List Node} {ps:List Place} {es qs:List (List D)} (aD:es=l.map Node.cells) (dZ:qs=ps.map Place.cells) (hl:l.length<1000000000):
 FC 150 [.agg [SL es,SL qs],ST name,BL up] [] (.ret (Ek t (t _ fun _=>fJ ⟨l,ps⟩ name up))) []:=by
 refine cL ht Tryz.func150 (N:=35) ?_
 cbv
 have aQ:es.length=l.length:=by rw [aD,lgM]
 have cW:qs.length=ps.length:=by rw [dZ,lgM]
 refine aP (Hs ht _ ‹_› (by omega)) trv (fun r0 c8=>?_)
 simp only [ht] at c8
 have ec:=cC c8
 clear c8
 rcases ec with ⟨e1,e2,e3⟩|⟨i,x,hi,hil,e1,e2,e3,e4⟩
 ·cbv
  apply ap<;>intro h1
  ·simp [ht] at h1
   cbv
   refine an ?_
   (simp [fJ, *];done)
  simp [ht] at h1
  omega
 cbv
 apply ap<;>intro h2
 ·simp [ht] at h2
  cbv
  refine an ?_
  (simp only [ht,fJ];grind)
 simp [ht] at h2
 cbv
 refine yR ht aD (cT:=Node.bw t) e1 ‹_› (fun _=>rfl) (fun _=>(by (simp only [ht,Node.bw];done))) ?_
 cbv
 apply ap<;>intro h4
 ·simp [ht] at h4
  cbv
  refine an ?_
  (obtain ⟨_,rfl⟩:=List.getElem?_eq_some_iff.1 e1;simp [fJ, *];done)
 simp [ht] at h4
 cbv
 refine jV trv (o8 ht ‹_› ‹_›) trv rfl (.inr rfl) ?_
 cbv
 refine ⟨?_,?_⟩
 ·(simp [ht,hi,hil];done)
 refine ⟨?_,?_⟩
 ·(simp [ht,hi,hil];done)
 cbv
 refine iq trv (by simp [ht]) rfl rfl rfl ?_
 (obtain ⟨_,rfl⟩:=List.getElem?_eq_some_iff.1 e1;simp [fJ,be,List.map_set, *];done)
theorem TM (ht:TT t) (name:aI) {l:List Node} {ps:List Place} {es qs:List (List D)} (aD:es=l.map Node.cells) (dZ:qs=ps.map Place.cells) (hl:l.length<1000000000):
 FC 98 [.agg [SL es,SL qs],ST name] [] (.ret (Ek t (t _ fun _=>fJ ⟨l,ps⟩ name true))) []:=by
 refine cL ht Tryz.func98 (N:=11) ?_
 cbv
 have aQ:es.length=l.length:=by rw [aD,lgM]
 have cW:qs.length=ps.length:=by rw [dZ,lgM]
 refine aC (Mb ht _ _ ‹_› ‹_› ‹_›) trv (fun r0 c8=>?_)
 simp only [ht] at c8
 cbv
 refine an ?_
 (simp [*];done)
def YK (t:Th) (r:cA×List Int×Int):AV:=.dV [Ly t r.1,SL (t _ fun _=>r.2.1.map cX),bF r.2.2]
theorem TN {u:List (List D)} {l:List iv} (hu:u=l.map iv.cells) {j:Int} {c:Prop} {o:Option (List D)} {K:Option (List D)→Prop} (hc:c) (ho:o=wm u (.int .u64 j)) (h0:K none) (h1:∀x,K (some [.int .i64 x])):IB true c o K:=by
 subst hu
 rcases G1 l j with h|⟨x,h⟩
 ·exact ⟨none,fun _=>⟨hc,ho.trans h⟩,h0⟩
 exact ⟨_,fun _=>⟨hc,ho.trans h⟩,h1 x⟩
theorem BB {u:List (List D)} {l:List iv} (hu:u=l.map iv.cells):∀r∈u,rowIs (.int .u64) 1 r:=by
 subst hu;intro r hr;obtain ⟨m,_,rfl⟩:=List.mem_map.1 hr;exact ⟨_,_,rfl,rfl,rfl⟩
theorem gX {name:aI} {ps:List Place} {k:Nat} {x:Place} (h:ps[k]?=some x):fN name (ps.take (k+1))=gD name (fN name (ps.take k)) x:=by
 unfold fN;rw [dy h,List.foldl_append];rfl
theorem TO (ht:TT t) (name:aI) {l:List Node} {ps:List Place} {es qs:List (List D)} (aD:es=l.map Node.cells) (dZ:qs=ps.map Place.cells) (hl:l.length<1000000000) (Fi:ps.length<1000000000)
 (hj:∀x∈ps,0≤x.bz∧x.bz<18446744073709551616) (h12:(fN name ps).length≤12):
 FC 97 [.agg [SL es,SL qs],ST name] [] (.ret (YK t (t _ fun _=>sN ⟨l,ps⟩ name))) []:=by
 refine cL ht Tryz.func97 (N:=44) ?_
 cbv
 have aQ:es.length=l.length:=by rw [aD,lgM]
 have cW:qs.length=ps.length:=by rw [dZ,lgM]
 refine aC (Mb ht _ _ ‹_› ‹_› ‹_›) trv (fun r0 c8=>?_)
 simp only [ht] at c8
 cbv
 apply ap<;>intro h1
 ·simp [ht] at h1
  cbv
  refine an ?_
  (simp only [ht,sN];grind)
 simp [ht] at h1
 cbv
 obtain ⟨J2,yW⟩:∃J2:Nat→Int×List (List D)→Prop,∀n i u,J2 n (i,u)↔(∃(k:Nat) (w:List iv),i=k∧k+n=ps.length∧u=w.map iv.cells∧w.map iv.bz=fN name (ps.take k)):=⟨fun n v=>match v with|(i,u)=>(∃(k:Nat) (w:List iv),i=k∧k+n=ps.length∧u=w.map iv.cells∧w.map iv.bz=fN name (ps.take k)),fun _ _ _=>Iff.rfl⟩
 refine bE ⟨[1,4,7,9,24,25,26],[],[]⟩ (σ:=Int×List (List D)) (fun v=>[(26,.d (.int .i64 (t _ fun _=>v.1)))]) (fun v=>[(2,.mp false (t _ fun _=>v.2))]) J2 ?_
 cbv
 refine aF ⟨ps.length,(_,_),(yW _ _ _).2 ?_,by simp only [ht];rfl,?_⟩
 ·exact ⟨0,[],rfl,by simp,by simp,rfl⟩
 rintro n ⟨i,u⟩ hj
 replace hj:=(yW _ _ _).1 hj
 obtain ⟨k,w,rfl,q1,q6,q4⟩:=hj
 have LP:u.length=w.length:=by rw [q6,lgM]
 have hnd:(w.map iv.bz).Nodup:=by rw [q4];exact nI _ _ _ List.nodup_nil
 have hwj:∀m∈w,0≤m.bz∧m.bz<18446744073709551616:=(by intro m hm;have h9:m.bz∈fN name (ps.take k):=(by rw [←q4];exact List.mem_map.2 ⟨m,hm,rfl⟩);rw [fN,qG] at h9;obtain ⟨x,hx,_,e⟩:=h9.resolve_left (by simp);rw [←e];exact hj x (List.mem_of_mem_take hx))
 have hlen:w.length≤12:=by have:=congrArg List.length q4;rw [lgM] at this;have:=G2 name ps k;omega
 have hmk:ps.length≤k→n8 (w.map iv.bz)=EA name ps:=(by intro h9;rw [q4,List.take_of_length_le h9];rfl)
 cbv
 apply ap<;>intro h3
 ·simp [ht,ah,cW] at h3
  cbv
  refine kL ht dZ (cT:=Place.bw t) (by (simp only [ht,ah];omega)) (by (simp only [ht,ah];omega)) (fun _=>rfl) (fun _=>rfl) (fun x4 NC=>?_)
  simp [ht,ah] at NC
  cbv
  apply ap<;>intro h5
  ·simp [ht] at h5
   cbv
   (refine TN q6 (by simp only [ht];exact ⟨rfl,rfl,BB q6⟩) (by simp only [ht]<;>rfl) ?_ (fun c9=>?_))
   ·cbv
    refine ⟨?_,?_⟩
    ·(simp only [ht];exact ⟨⟨rfl,rfl,BB q6⟩,trv⟩)
    cbv
    refine cr (_,_) (by simp only [ht];rfl) (n-1) ?_ ((yW _ _ _).2 ?_)
    ·omega
    simp only [ah]
    first|exact ⟨k+1,w,aE (by ((try simp only [ah] at*);omega)),by ((try simp only [ah] at*);omega),q6,by rw [gX NC,gD,if_neg ‹_›];exact q4⟩|exact ⟨k+1,gB w (x4).bz _,aE (by omega),by omega,by rw [q6,vu],by rw [gX NC,gD,if_pos ‹_›,kN,q4]⟩
   cbv
   refine ⟨?_,?_⟩
   ·(simp only [ht];exact ⟨⟨rfl,rfl,BB q6⟩,trv⟩)
   cbv
   refine cr (_,_) (by simp only [ht];rfl) (n-1) ?_ ((yW _ _ _).2 ?_)
   ·omega
   simp only [ah]
   first|exact ⟨k+1,w,aE (by ((try simp only [ah] at*);omega)),by ((try simp only [ah] at*);omega),q6,by rw [gX NC,gD,if_neg ‹_›];exact q4⟩|exact ⟨k+1,gB w (x4).bz _,aE (by omega),by omega,by rw [q6,vu],by rw [gX NC,gD,if_pos ‹_›,kN,q4]⟩
  simp [ht] at h5
  cbv
  refine cr (_,_) (by simp only [ht];rfl) (n-1) ?_ ((yW _ _ _).2 ?_)
  ·omega
  simp only [ah]
  first|exact ⟨k+1,w,aE (by omega),by omega,q6,by rw [gX NC,gD,if_neg ‹_›];exact q4⟩|exact ⟨k+1,gB w (x4).bz _,aE (by ((try simp only [ah] at*);omega)),by ((try simp only [ah] at*);omega),by rw [q6,vu],by rw [gX NC,gD,if_pos ‹_›,kN,q4]⟩
 simp [ht,ah,cW] at h3
 cbv
 (refine ⟨.inr ⟨2,false,_,rfl,?_⟩⟩)
 cbv
 refine cE [false,false,false,false,true,true,true] ?_
 cbv
 iterate 2 refine gI (by simp) ?_
 refine .inl ?_
 refine nE (fun g9=>⟨trv,trv,TL ht _⟩) rfl rfl rfl ?_
 cbv
 refine .inr (GM trv (Ck ht (by (simp only [ht];omega)) ‹_› ‹_› ‹_›) trv rfl (.inr rfl) rfl ?_)
 cbv
 refine iq trv (by simp [ht]) rfl rfl rfl ?_
 (simp only [ht,sN];rw [←c8,if_pos h1];simp only [hmk (by omega)];done)
theorem H8 {s:aU} {l:List Int} {k:Nat} {x:Int} (h:l[k]?=some x):ic s (l.take (k+1))=(gC (ic s (l.take k)) x 6).1:=by
 unfold ic;rw [dy h,List.foldl_append];rfl
theorem NQ {s:aU} (h:s.good):∀x∈s.aG.places,0≤x.bz∧x.bz<18446744073709551616:=fun x hx=>by
 obtain ⟨j,hj,_,e,_⟩:=h.ok.places x hx
 have h1:=h.ok.vK j hj
 have h2:=h.ok.next
 rw [←e];omega
theorem Q6 {s:aU} (h:s.good) (name:aI):(fN name s.aG.places).length≤12:=by
 have:=L8 h name
 rwa [EA,Ez] at this
theorem NR {s:aU} (h:s.good) (name:aI):(sN s.aG name).2.1.length≤12:=by
 unfold sN;split
 ·exact L8 h name
 simp
theorem Q7 (ht:TT t) (x:jU) (hx:x.u) {k a b c d:Int} (hk:k=x.kind) (ha:a=x.a) (hb:b=x.b) (hc:c=x.c) (hd:d=x.d) (rd nx ef af:Int) {nl:List Node} {pl:List Place} {tl:List bc} {jl:List Jb} {ql:List ct} {el al:List dU} {ns ps ts js qs es cu:List (List D)} (fI:ns=nl.map Node.cells) (hps:ps=pl.map Place.cells) (hts:ts=tl.map bc.cells) (eW:js=jl.map Jb.cells) (dZ:qs=ql.map ct.cells) (aD:es=el.map dU.cells) (has:cu=al.map dU.cells) (hgd:(⟨rd,nx,⟨nl,pl⟩,tl,jl,ql,⟨ef,el⟩,⟨af,al⟩⟩:aU).good):
 FC 68 [.agg [U8 k,U8 a,U8 b,U8 c,U8 d],.agg [aB rd,aB nx,SL ns,SL ps,SL ts,SL js,SL qs,aB ef,SL es,aB af,SL cu]] [] (.ret (fZ t (t _ fun _=>lp x ⟨rd,nx,⟨nl,pl⟩,tl,jl,ql,⟨ef,el⟩,⟨af,al⟩⟩))) []:=by
 obtain ⟨⟨s1,s2⟩,s3,⟨s4,s5⟩,⟨s6,s7⟩,s8,s9,Wb⟩:=(show aU.sm _ from hgd.sm)
 simp only at s1 s2 s3 s4 s5 s6 s7 s8 s9 Wb
 have uo:∀x∈jl,x.x.fY.u'∧x.x.path.length<1000000000000:=fun x hx=>⟨(s7 x hx).1.2.1,(s7 x hx).1.1⟩
 have hpj:=NQ hgd
 have hpm:=Q6 hgd
 simp only at hpj hpm
 obtain ⟨u1,u2,u3,u4,u5⟩:=id hx
 obtain ⟨Z,hZ⟩:∃Z:aU,Z=⟨rd,nx,⟨nl,pl⟩,tl,jl,ql,⟨ef,el⟩,⟨af,al⟩⟩:=⟨_,rfl⟩
 obtain ⟨S,hS⟩:∃S,S=lp x ⟨rd,nx,⟨nl,pl⟩,tl,jl,ql,⟨ef,el⟩,⟨af,al⟩⟩:=⟨_,rfl⟩
 rw [←hS]
 obtain ⟨K,hK⟩:∃K:Nat,K=x.kind%8:=⟨_,rfl⟩
 obtain ⟨I,hI⟩:∃I:Int,I=(x.a%12:Nat):=⟨_,rfl⟩
 have k8:k.tmod 8=(K:Int):=by rw [hk,tm8,hK]
 have a12:IntKind.u64.wrap (a.tmod 12)=I:=by rw [ha,aaj,hI,S9 _ (by omega)]
 have b3:b.tmod 3=((x.b%3:Nat):Int):=by rw [hb,tm3]
 have c2:c.tmod 2=((x.c%2:Nat):Int):=by rw [hc,tm2]
 obtain ⟨Zi,Zj⟩:=HX s1 s2 (pl:=pl)
 refine cL ht Tryz.func68 (N:=129) ?_
 cbv
 obtain ⟨dS,eU,ej,eV,cW,aQ,dw⟩:=gF fI hps hts eW dZ aD has
 refine ⟨?_,?_⟩
 ·(simp only [ht,ah] at*;omega)
 refine ⟨?_,?_⟩
 ·(simp only [ht,ah] at*;omega)
 cbv
 apply ap<;>intro h0
 ·simp [ht,ah,k8] at h0
  cbv
  apply ap<;>intro h1
  ·simp [ht,ah,k8] at h1
   cbv
   refine qM [] [4,5,6,7] [false,false,false,true,true,false,false,false,true] ?_
   cbv
   iterate 2 refine gI (by simp) ?_
   refine .inl ?_
   (refine jF (fun g=>⟨by simp,trv,vS ht _ _ _ _ _ x hx hk ha hb hc hd⟩) rfl rfl rfl (fun r1 cR=>?_);simp only [ht] at cR;have NS:r1.sm:=(by rw [cR];exact mK (mI x)))
   cbv
   (refine aC (lU ht rd nx ef af fI hps hts eW dZ aD has _ _ _ _ _ _ _ _ (pL:=r1.cg) (by simp only [ht]) NS s4 s6 s8 s9) (by simp) (fun r2 ix=>?_);simp only [ht] at ix)
   cbv
   iterate 3 refine gI (by simp) ?_
   refine an ?_
   (have e:S=r2.1:=(by rw [hS];unfold lp;rw [if_pos (by omega),ix,cR]);simp only [ht,e];done)
  simp [ht,ah,k8] at h1
  omega
 simp [ht,ah,k8] at h0
 cbv
 apply ap<;>intro h2
 ·simp [ht,ah,k8] at h2
  cbv
  apply ap<;>intro h3
  ·simp [ht,ah,k8] at h3
   cbv
   refine qM [] [4,5,6,7] [false,false,false,true,true,false,false,false,true] ?_
   cbv
   iterate 2 refine gI (by simp) ?_
   refine .inl ?_
   (refine jF (fun g=>⟨by simp,trv,vS ht _ _ _ _ _ x hx hk ha hb hc hd⟩) rfl rfl rfl (fun r1 cR=>?_);simp only [ht] at cR;have NS:r1.sm:=(by rw [cR];exact mK (mI x)))
   cbv
   (refine aC (lU ht rd nx ef af fI hps hts eW dZ aD has _ _ _ _ _ _ _ _ (pL:=r1.cg) (by simp only [ht]) NS s4 s6 s8 s9) (by simp) (fun r2 ix=>?_);simp only [ht] at ix)
   cbv
   iterate 3 refine gI (by simp) ?_
   refine an ?_
   (have e:S=r2.1:=(by rw [hS];unfold lp;rw [if_pos (by ((try simp only [ah] at*);omega)),ix,cR]);simp only [ht,e];done)
  simp [ht,ah,k8] at h3
  contradiction
 simp [ht,ah,k8] at h2
 cbv
 apply ap<;>intro h4
 ·simp [ht,ah,k8] at h4
  cbv
  apply ap<;>intro h5
  ·simp [ht,ah,k8] at h5
   cbv
   refine qM [] [4,5,6,7] [false,false,false,true,true,false,false,false,true] ?_
   cbv
   iterate 2 refine gI (by simp) ?_
   refine .inl ?_
   (refine jF (fun g=>⟨by simp,trv,vS ht _ _ _ _ _ x hx hk ha hb hc hd⟩) rfl rfl rfl (fun r1 cR=>?_);simp only [ht] at cR;have NS:r1.sm:=(by rw [cR];exact mK (mI x)))
   cbv
   (refine aC (lU ht rd nx ef af fI hps hts eW dZ aD has _ _ _ _ _ _ _ _ (pL:=r1.cg) (by simp only [ht]) NS s4 s6 s8 s9) (by simp) (fun r2 ix=>?_);simp only [ht] at ix)
   cbv
   iterate 3 refine gI (by simp) ?_
   refine an ?_
   (have e:S=r2.1:=(by rw [hS];unfold lp;rw [if_pos (by ((try simp only [ah] at*);omega)),ix,cR]);simp only [ht,e];done)
  simp [ht,ah,k8] at h5
  contradiction
 simp [ht,ah,k8] at h4
 cbv
 apply ap<;>intro h6
 ·simp [ht,ah,k8] at h6
  cbv
  refine qM [] [4,5,6,7] [false,false,false,true,true,false,false,false,true] ?_
  cbv
  iterate 2 refine gI (by simp) ?_
  refine .inl ?_
  (refine jF (fun g=>⟨by simp,trv,vS ht _ _ _ _ _ x hx hk ha hb hc hd⟩) rfl rfl rfl (fun r1 cR=>?_);simp only [ht] at cR;have NS:r1.sm:=(by rw [cR];exact mK (mI x)))
  cbv
  (refine aC (lU ht rd nx ef af fI hps hts eW dZ aD has _ _ _ _ _ _ _ _ (pL:=r1.cg) (by simp only [ht]) NS s4 s6 s8 s9) (by simp) (fun r2 ix=>?_);simp only [ht] at ix)
  cbv
  iterate 3 refine gI (by simp) ?_
  refine an ?_
  (have e:S=r2.1:=(by rw [hS];unfold lp;rw [if_pos (by ((try simp only [ah] at*);omega)),ix,cR]);simp only [ht,e];done)
 simp [ht,ah,k8] at h6
 cbv
 apply ap<;>intro h7
 ·simp [ht,ah,k8] at h7
  cbv
  apply ap<;>intro h8
  ·simp [ht,ah,k8] at h8
   cbv
   (refine aC (mH ht _ rd nx ef af ns ps ts qs es cu eW (by omega)) (by simp) (fun r1 cR=>?_);simp only [ht,a12] at cR;have NS:r1.1.x.sm:=(by rw [cR];exact Bt (fun x hx=>(s7 x hx).1)))
   cbv
   refine cE [false,false,false,false,false,false,false,false,false,false,false,false,true,true,false,false,false,true] ?_
   cbv
   iterate 2 refine gI (by simp) ?_
   refine .inl ?_
   (refine jF (fun g=>⟨by simp,trv,Ba ht fI hps (by omega) (by omega)⟩) rfl rfl rfl (fun r2 ix=>?_);simp only [ht] at ix)
   cbv
   iterate 9 refine gI (by simp) ?_
   ((refine aC (Kr ht _ _ _ _ _ (l:=r2) (by simp only [ht]) (by rw [ix];exact Zi) (by rw [ix];exact Zj) (x:=r1.1.x.cg) (by simp only [ht]) NS.2.2.1 (fun m hm=>(NS.2.2.2 m hm).2.1)) (by simp) (fun r3 lm=>?_);simp only [ht] at lm))
   cbv
   iterate 3 refine gI (by simp) ?_
   apply ap<;>intro h9
   ·cbv
    (refine aC (vV ht rd nx ef af fI hps hts eW dZ aD has _ (names:=r3.1) (by simp only [ht]) uo s4 s6 s1 s3 s8 s9 (by rw [lm];exact xu _ _ _ _)) (by simp) (fun r4 kW=>?_);simp only [ht,a12] at kW)
    cbv
    refine an ?_
    (have e3:fit (eT ⟨nl,pl⟩) (bD jl (x.a%12:Nat)).1.x.cg (bD jl (x.a%12:Nat)).1.x.fY (bD jl (x.a%12:Nat)).1.x.count=r3:=(by rw [lm,ix,cR,hI];rfl);have e:S=r4.1:=(by rw [hS];unfold lp;dsimp only;rw [if_neg (by ((try simp only [ah] at*);omega)),if_pos (by ((try simp only [ah] at*);omega)),e3,if_pos ‹_›,kW,hI]);simp only [ht,e];done)
   cbv
   refine an ?_
   (have e3:fit (eT ⟨nl,pl⟩) (bD jl (x.a%12:Nat)).1.x.cg (bD jl (x.a%12:Nat)).1.x.fY (bD jl (x.a%12:Nat)).1.x.count=r3:=(by rw [lm,ix,cR,hI];rfl);have e:S=⟨rd,nx,⟨nl,pl⟩,tl,jl,ql,⟨ef,el⟩,⟨af,al⟩⟩:=(by rw [hS];unfold lp;dsimp only;rw [if_neg (by ((try simp only [ah] at*);omega)),if_pos (by ((try simp only [ah] at*);omega)),e3,if_neg (by simp_all)]);simp only [ht,e,fI,hps,hts,eW,dZ,aD,has];done)
  simp [ht,ah,k8] at h8
  contradiction
 simp [ht,ah,k8] at h7
 cbv
 apply ap<;>intro h10
 ·simp [ht,ah,k8] at h10
  cbv
  (refine aC (mH ht _ rd nx ef af ns ps ts qs es cu eW (by omega)) (by simp) (fun r1 cR=>?_);simp only [ht,a12] at cR;have NS:r1.1.x.sm:=(by rw [cR];exact Bt (fun x hx=>(s7 x hx).1)))
  cbv
  refine cE [false,false,false,false,false,false,false,false,false,false,false,false,true,true,false,false,false,true] ?_
  cbv
  iterate 2 refine gI (by simp) ?_
  refine .inl ?_
  (refine jF (fun g=>⟨by simp,trv,Ba ht fI hps (by omega) (by omega)⟩) rfl rfl rfl (fun r2 ix=>?_);simp only [ht] at ix)
  cbv
  iterate 9 refine gI (by simp) ?_
  ((refine aC (Kr ht _ _ _ _ _ (l:=r2) (by simp only [ht]) (by rw [ix];exact Zi) (by rw [ix];exact Zj) (x:=r1.1.x.cg) (by simp only [ht]) NS.2.2.1 (fun m hm=>(NS.2.2.2 m hm).2.1)) (by simp) (fun r3 lm=>?_);simp only [ht] at lm))
  cbv
  iterate 3 refine gI (by simp) ?_
  apply ap<;>intro h11
  ·cbv
   (refine aC (vV ht rd nx ef af fI hps hts eW dZ aD has _ (names:=r3.1) (by simp only [ht]) uo s4 s6 s1 s3 s8 s9 (by rw [lm];exact xu _ _ _ _)) (by simp) (fun r4 kW=>?_);simp only [ht,a12] at kW)
   cbv
   refine an ?_
   (have e3:fit (eT ⟨nl,pl⟩) (bD jl (x.a%12:Nat)).1.x.cg (bD jl (x.a%12:Nat)).1.x.fY (bD jl (x.a%12:Nat)).1.x.count=r3:=(by rw [lm,ix,cR,hI];rfl);have e:S=r4.1:=(by rw [hS];unfold lp;dsimp only;rw [if_neg (by ((try simp only [ah] at*);omega)),if_pos (by ((try simp only [ah] at*);omega)),e3,if_pos ‹_›,kW,hI]);simp only [ht,e];done)
  cbv
  refine an ?_
  (have e3:fit (eT ⟨nl,pl⟩) (bD jl (x.a%12:Nat)).1.x.cg (bD jl (x.a%12:Nat)).1.x.fY (bD jl (x.a%12:Nat)).1.x.count=r3:=(by rw [lm,ix,cR,hI];rfl);have e:S=⟨rd,nx,⟨nl,pl⟩,tl,jl,ql,⟨ef,el⟩,⟨af,al⟩⟩:=(by rw [hS];unfold lp;dsimp only;rw [if_neg (by ((try simp only [ah] at*);omega)),if_pos (by ((try simp only [ah] at*);omega)),e3,if_neg (by simp_all)]);simp only [ht,e,fI,hps,hts,eW,dZ,aD,has];done)
 simp [ht,ah,k8] at h10
 cbv
 apply ap<;>intro h12
 ·simp [ht,ah,k8] at h12
  cbv
  (refine aC (QR ht rd nx ef af fI hps hts eW dZ aD has _ _ uo s4 s6 s3 s8 s9) (by simp) (fun r4 kW=>?_);simp only [ht,a12] at kW)
  cbv
  refine an ?_
  (have e:S=r4.1:=(by rw [hS];unfold lp;rw [if_neg (by ((try simp only [ah] at*);omega)),if_neg (by ((try simp only [ah] at*);omega)),if_pos (by ((try simp only [ah] at*);omega)),kW,hI]);simp only [ht,e];done)
 simp [ht,ah,k8] at h12
 cbv
 apply ap<;>intro UL
 ·simp [ht,ah,k8] at UL
  cbv
  refine qM [] [9,10,11,12] [false,false,false,false,false,false,false,false,false,false,false,false,false,false,true,true,true] ?_
  cbv
  iterate 5 refine gI (by simp) ?_
  refine gI (by simp [ht]) ?_
  ((refine kL ht (l:=kV) (cells:=bf) (cT:=eL t) rfl (by simp only [ht,b3];((try simp only [ah] at*);omega)) (by simp only [ht,b3];simp only [kV,List.length_cons,List.length_nil];((try simp only [ah] at*);omega)) (fun _=>rfl) (fun _=>rfl) (fun xn UN=>?_);have exn:kV.getD (x.b%3) []=xn:=(by simp only [ht,b3,Int.toNat_natCast] at UN;rw [List.getD_eq_getElem?_getD,UN];rfl)))
  cbv
  refine gI (by simp) ?_
  refine .inl ?_
  ((refine jF (fun g=>⟨by simp,trv,TO ht xn fI hps (by omega) (by omega) hpj (hpm _)⟩) rfl rfl rfl (fun r5 zo=>?_);simp only [ht] at zo;have hl5:r5.2.1.length≤12:=(by rw [zo];exact NR hgd xn);have hG5:∀l,(ic (jX Z r5.1) l).good:=(fun l=>Bw (by have:=xx hgd xn false;rw [←Du] at this;rw [zo,hZ];exact this) l);have e5:K=7→S=if r5.2.2=0∧x.c%2=0 then ic (jX Z r5.1) r5.2.1 else jX Z (fJ ⟨nl,pl⟩ xn true).1:=(by intro hK7;rw [hS,hZ,zo,←exn];unfold lp;rw [if_neg (by omega),if_neg (by omega),if_neg (by omega)];rfl)))
  cbv
  iterate 4 refine gI (by simp) ?_
  iterate 4 refine gI (by simp [ht]) ?_
  refine pI (by simp [ht]) ?_
  apply ap<;>intro RM
  ·simp [ht,ah,c2] at RM
   cbv
   obtain ⟨J15,Wl⟩:∃J15:Nat→Int×Int×Int×List (List D)×List (List D)×List (List D)×List (List D)×List (List D)×Int×List (List D)×Int×List (List D)→Prop,∀n i rd nx ns ps ts js qs ef es af cu,J15 n (i,rd,nx,ns,ps,ts,js,qs,ef,es,af,cu)↔(∃q:Nat,i=q∧q+n=r5.2.1.length∧Told (ic (jX Z r5.1) (r5.2.1.take q)) rd nx ns ps ts js qs ef es af cu):=⟨fun n v=>match v with|(i,rd,nx,ns,ps,ts,js,qs,ef,es,af,cu)=>(∃q:Nat,i=q∧q+n=r5.2.1.length∧Told (ic (jX Z r5.1) (r5.2.1.take q)) rd nx ns ps ts js qs ef es af cu),fun _ _ _ _ _ _ _ _ _ _ _ _ _=>Iff.rfl⟩
   refine bE ⟨[3,4,11,13],[],[]⟩ (σ:=Int×Int×Int×List (List D)×List (List D)×List (List D)×List (List D)×List (List D)×Int×List (List D)×Int×List (List D)) (fun v=>[(13,.d (.int .i64 (t _ fun _=>v.1)))]) (fun v=>[(0,.var [.d (.int .u64 (t _ fun _=>v.2.1)),.d (.int .u64 (t _ fun _=>v.2.2.1)),.d (.sl (t _ fun _=>v.2.2.2.1)),.d (.sl (t _ fun _=>v.2.2.2.2.1)),.d (.sl (t _ fun _=>v.2.2.2.2.2.1)),.d (.sl (t _ fun _=>v.2.2.2.2.2.2.1)),.d (.sl (t _ fun _=>v.2.2.2.2.2.2.2.1)),.d (.int .u64 (t _ fun _=>v.2.2.2.2.2.2.2.2.1)),.d (.sl (t _ fun _=>v.2.2.2.2.2.2.2.2.2.1)),.d (.int .u64 (t _ fun _=>v.2.2.2.2.2.2.2.2.2.2.1)),.d (.sl (t _ fun _=>v.2.2.2.2.2.2.2.2.2.2.2))])]) J15 ?_
   cbv
   refine aF ⟨r5.2.1.length,(_,_,_,_,_,_,_,_,_,_,_,_),(Wl _ _ _ _ _ _ _ _ _ _ _ _ _).2 ?_,by simp only [ht];rfl,?_⟩
   ·exact ⟨0,rfl,by simp,by rw [hZ];exact ⟨rfl,rfl,by rfl,by rfl,hts,eW,dZ,rfl,aD,rfl,has⟩⟩
   rintro n ⟨i,rd,nx,ns,ps,ts,js,qs,ef,es,af,cu⟩ hj
   replace hj:=(Wl _ _ _ _ _ _ _ _ _ _ _ _ _).1 hj
   obtain ⟨q,rfl,j1,jT⟩:=hj
   cbv
   apply ap<;>intro UM
   ·simp [ht,ah] at UM
    cbv
    refine qM [1,2] [1,2,6,7,8] [false,false,false,false,false,true,true,false,false,true] ?_
    cbv
    iterate 3 refine gI (by simp) ?_
    (refine kL ht (l:=r5.2.1) (cells:=cX) (cT:=TD t) (by simp only [ht]<;>rfl) (by simp only [ht,ah];omega) (by simp only [ht,ah];omega) (fun _=>rfl) (fun _=>rfl) (fun x2 oc=>?_);simp [ht,ah] at oc)
    cbv
    refine gI (by simp) ?_
    (have pO:=(hG5 (r5.2.1.take q)).sm;refine aC (EZ ht _ _ _ _ (nl:=(ic (jX Z r5.1) (r5.2.1.take q)).aG.nodes) (pl:=(ic (jX Z r5.1) (r5.2.1.take q)).aG.places) (tl:=(ic (jX Z r5.1) (r5.2.1.take q)).tree) (jl:=(ic (jX Z r5.1) (r5.2.1.take q)).av) (ql:=(ic (jX Z r5.1) (r5.2.1.take q)).queue) (el:=(ic (jX Z r5.1) (r5.2.1.take q)).ev.l) (al:=(ic (jX Z r5.1) (r5.2.1.take q)).au.l) (by simp only [ht];exact jT.n) (by simp only [ht];exact jT.p) (by simp only [ht];exact jT.t) (by simp only [ht];exact jT.j) (by simp only [ht];exact jT.q) (by simp only [ht];exact jT.e) (by simp only [ht];exact jT.a) _ _ (ue pO) pO.tree.1 pO.av.1 pO.places pO.queue pO.notes.1) (by simp) (fun r7 Dr=>?_);simp only [ht] at Dr;rw [jT.eq] at Dr)
    cbv
    iterate 2 refine gI (by simp) ?_
    refine cr (_,_,_,_,_,_,_,_,_,_,_,_) (by simp only [ht];rfl) (n-1) ?_ ((Wl _ _ _ _ _ _ _ _ _ _ _ _ _).2 ?_)
    ·omega
    simp only [ah]
    exact ⟨q+1,aE (by omega),by omega,by rw [H8 oc,←Dr];exact Told.self r7.1⟩
   simp [ht,ah] at UM
   cbv
   refine an ?_
   (have e:=e5 (by ((try simp only [ah] at*);omega));rw [if_pos ⟨RM.1,by ((try simp only [ah] at*);omega)⟩] at e;rw [List.take_of_length_le (by omega)] at jT;simp only [ht,e,jT.r,jT.x,jT.n,jT.p,jT.t,jT.j,jT.q,jT.f,jT.e,jT.g,jT.a];done)
  simp [ht,ah,c2] at RM
  cbv
  refine qM [] [9,10,11] [false,false,false,false,false,false,false,false,true,true,false,false,true,true] ?_
  cbv
  iterate 5 refine gI (by simp) ?_
  refine gI (by simp [ht]) ?_
  ((refine kL ht (l:=kV) (cells:=bf) (cT:=eL t) rfl (by simp only [ht,b3];((try simp only [ah] at*);omega)) (by simp only [ht,b3];simp only [kV,List.length_cons,List.length_nil];((try simp only [ah] at*);omega)) (fun _=>rfl) (fun _=>rfl) (fun xm mxm=>?_);have exm:kV.getD (x.b%3) []=xm:=(by simp only [ht,b3,Int.toNat_natCast] at mxm;rw [List.getD_eq_getElem?_getD,mxm];rfl);rw [exn] at exm;subst exm))
  cbv
  refine gI (by simp) ?_
  ((refine aC (TM ht xn fI hps (by omega)) (by simp) (fun r6 ou=>?_);simp only [ht] at ou))
  cbv
  iterate 2 refine gI (by simp) ?_
  refine an ?_
  (have e:=e5 (by ((try simp only [ah] at*);omega));rw [if_neg (by intro h;have:=RM h.1;((try simp only [ah] at*);omega))] at e;rw [←ou] at e;simp only [ht,e,hZ,jX,hts,eW,dZ,aD,has];done)
 simp [ht,ah,k8] at UL
 (simp only [ah] at*;omega)
theorem NT (ht:TT t) (N:Nat) (hN:N<256) {a:Int} (ea:a=N) {l:List jU} {dl:List (List D)} (UZ:dl=l.map jU.cells) (hlu:∀x∈l,x.u) (hll:l.length<9223372036854775808):
 FC 26 [U8 a,SL dl] [] (.ret (fZ t (t _ fun _=>ie N l (min l.length 40)))) []:=by
 refine cL ht Tryz.func26 (N:=26) ?_
 cbv
 have fH:dl.length=l.length:=by rw [UZ,lgM]
 (refine aC (yB ht N hN ea) (by simp) (fun r1 cR=>?_);simp only [ht] at cR)
 cbv
 obtain ⟨J0,fK⟩:∃J0:Nat→Int×Int×Int×List (List D)×List (List D)×List (List D)×List (List D)×List (List D)×Int×List (List D)×Int×List (List D)→Prop,∀n i rd nx ns ps ts js qs ef es af cu,J0 n (i,rd,nx,ns,ps,ts,js,qs,ef,es,af,cu)↔(∃k:Nat,i=k∧k+n=40∧k≤l.length∧Told (ie N l k) rd nx ns ps ts js qs ef es af cu):=⟨fun n v=>match v with|(i,rd,nx,ns,ps,ts,js,qs,ef,es,af,cu)=>(∃k:Nat,i=k∧k+n=40∧k≤l.length∧Told (ie N l k) rd nx ns ps ts js qs ef es af cu),fun _ _ _ _ _ _ _ _ _ _ _ _ _=>Iff.rfl⟩
 refine bE ⟨[1,4,5,6],[],[]⟩ (σ:=Int×Int×Int×List (List D)×List (List D)×List (List D)×List (List D)×List (List D)×Int×List (List D)×Int×List (List D)) (fun v=>[(6,.d (.int .i64 (t _ fun _=>v.1)))]) (fun v=>[(1,.var [.d (.int .u64 (t _ fun _=>v.2.1)),.d (.int .u64 (t _ fun _=>v.2.2.1)),.d (.sl (t _ fun _=>v.2.2.2.1)),.d (.sl (t _ fun _=>v.2.2.2.2.1)),.d (.sl (t _ fun _=>v.2.2.2.2.2.1)),.d (.sl (t _ fun _=>v.2.2.2.2.2.2.1)),.d (.sl (t _ fun _=>v.2.2.2.2.2.2.2.1)),.d (.int .u64 (t _ fun _=>v.2.2.2.2.2.2.2.2.1)),.d (.sl (t _ fun _=>v.2.2.2.2.2.2.2.2.2.1)),.d (.int .u64 (t _ fun _=>v.2.2.2.2.2.2.2.2.2.2.1)),.d (.sl (t _ fun _=>v.2.2.2.2.2.2.2.2.2.2.2))])]) J0 ?_
 cbv
 refine aF ⟨40,(_,_,_,_,_,_,_,_,_,_,_,_),(fK _ _ _ _ _ _ _ _ _ _ _ _ _).2 ?_,by simp only [ht];rfl,?_⟩
 ·exact ⟨0,rfl,by omega,by omega,by rw [show ie N l 0=r1 from cR.symm];exact Told.self r1⟩
 rintro n ⟨i,rd,nx,ns,ps,ts,js,qs,ef,es,af,cu⟩ hj
 replace hj:=(fK _ _ _ _ _ _ _ _ _ _ _ _ _).1 hj
 obtain ⟨k,rfl,j1,j2,jT⟩:=hj
 cbv
 iterate 2 refine gI (by simp [ht]) ?_
 refine pI (by simp [ht]) ?_
 apply ap<;>intro h1
 ·simp [ht,ah,fH] at h1
  cbv
  refine cE [false,false,false,false,false,true,true] ?_
  cbv
  iterate 2 refine gI (by simp) ?_
  refine kL ht UZ (cT:=jU.bw t) (by (simp only [ht,ah];omega)) (by (simp only [ht,ah];omega)) (fun _=>rfl) (fun _=>rfl) (fun x2 oc=>?_)
  simp [ht,ah] at oc
  cbv
  iterate 2 refine gI (by simp) ?_
  ((refine aC (Q7 ht x2 (hlu x2 (List.mem_of_getElem? oc)) rfl rfl rfl rfl rfl _ _ _ _ (nl:=(ie N l k).aG.nodes) (pl:=(ie N l k).aG.places) (tl:=(ie N l k).tree) (jl:=(ie N l k).av) (ql:=(ie N l k).queue) (el:=(ie N l k).ev.l) (al:=(ie N l k).au.l) (by simp only [ht];exact jT.n) (by simp only [ht];exact jT.p) (by simp only [ht];exact jT.t) (by simp only [ht];exact jT.j) (by simp only [ht];exact jT.q) (by simp only [ht];exact jT.e) (by simp only [ht];exact jT.a) (by simp only [ht];rw [jT.eq];exact yG N l k)) (by simp) (fun r1 cR=>?_);simp only [ht] at cR;rw [jT.eq,←HZ oc] at cR))
  cbv
  refine cr (_,_,_,_,_,_,_,_,_,_,_,_) (by simp only [ht];rfl) (n-1) ?_ ((fK _ _ _ _ _ _ _ _ _ _ _ _ _).2 ?_)
  ·((try simp only [ah] at*);omega)
  simp only [ah]
  exact ⟨k+1,aE (by omega),by ((try simp only [ah] at*);omega),by omega,by rw [←cR];exact Told.self r1⟩
 simp [ht,ah,fH] at h1
 cbv
 refine an ?_
 (have hk:min l.length 40=k:=(by ((try simp only [ah] at*);omega));simp only [ht,hk,jT.r,jT.x,jT.n,jT.p,jT.t,jT.j,jT.q,jT.f,jT.e,jT.g,jT.a];done)
end Dem
end
section
open Go
namespace Dem
theorem yJ {s:aU} (h:s.good) {x:Ask} (hx:sQ x):(c7 s x).1.good:=⟨h.ok.c7 hx.fY,Bl h.eX hx,Bv h.ok h.zf x⟩
theorem KD {s:aU} (h:s.good) {id:Int} (hi:id<12) (names:List aI):(bS s id names).1.good:=⟨h.ok.w8 _ _,(yC h.ok _ _).eX h.eX,Dt h.ok h.zf hi _⟩
theorem vY (n:Nat):(jL n).good:=⟨A7 n,yD _ n,fun j hj=>by cases hj⟩
def xA1:Ask:=⟨[97],⟨3,0,0,0⟩,1,1,5,[]⟩
def YL (tk:Int):Ask:=⟨[98],⟨2,0,0,0⟩,1,3,tk,[]⟩
theorem Q8 {a b c d:Int} (h:∀x∈[a,b,c,d],0≤x∧x<18446744073709551616):(⟨a,b,c,d⟩:bG).w:=by
 intro k hk;unfold bG.at_;split<;>exact h _ (by simp)
theorem Dw:sQ xA1:=⟨by decide,Q8 (by decide),by decide,fun m hm=>by cases hm⟩
theorem Dx (tk:Int):sQ (YL tk):=⟨by simp [YL],Q8 (by decide),by simp [YL],fun m hm=>by cases hm⟩
def Q9:aU:=(c7 (jL 192) xA1).1
def Ra:Int:=(c7 (jL 192) xA1).2.1
def H9:aU:=(bS Q9 Ra [[110,49]]).1
def Cl (tk:Int):aU:=(c7 H9 (YL tk)).1
theorem Rb:Ra<12:=by decide+kernel
theorem BC:Q9.good:=yJ (vY 192) Dw
theorem BD:H9.good:=KD BC Rb _
theorem NU (tk:Int):(Cl tk).good:=yJ BD (Dx tk)
theorem NV:Cg.good:=by
 have e:Cg=⟨0,1,⟨[],[]⟩,[⟨[],bG.zero,bG.zero⟩],[],[],⟨0,[]⟩,⟨0,[]⟩⟩:=rfl
 refine ⟨?_,⟨fun n hn=>(by cases hn),fun e he=>?_,fun j hj=>(by cases hj)⟩,fun j hj=>(by cases hj)⟩
 ·exact {
   aG:=LG,gE:=PS
   tree:=⟨⟨_,_,rfl,rfl⟩,by decide,by rw [e];exact List.pairwise_singleton _ _,by decide+kernel,by decide+kernel,by decide+kernel,fun x hx=>by rw [List.mem_singleton.1 hx];exact ⟨wW,wW⟩⟩
   used:=fun x hx k _=>by rw [List.mem_singleton.1 hx,nj];rfl
   most:=by decide
   next:=by decide
   ids:=List.Pairwise.nil
   vK:=fun j hj=>by cases hj
   pG:=fun j hj=>by cases hj
   left:=fun j hj=>by cases hj
   jS:=List.Pairwise.nil
   kO:=List.Pairwise.nil
   ia:=fun q=>by simp [e]
   places:=fun x hx=>by cases hx
   count:=fun j hj=>by cases hj
   notes:=by decide}
 rw [List.mem_singleton.1 he];decide
theorem KE {s:aU} {id:Int} {a:Jb} (h:(bD s.av id).2=true) (g:(s.av.filter fun o=>o.runs&&decide (o.x.prio<(bD s.av id).1.x.prio)).map (·.id)=[a.id]):bX s id=[a.id]:=by
 unfold bX
 rw [h]
 obtain ⟨b,hb⟩:∃b,(s.av.filter fun o=>o.runs&&decide (o.x.prio<(bD s.av id).1.x.prio))=[b]:=List.length_eq_one_iff.1 (by have:=congrArg List.length g;simpa using this)
 rw [hb] at g ⊢
 simpa using g
theorem qT {s:aU} {id:Int} (g:(s.av.filter fun o=>o.runs&&decide (o.x.prio<(bD s.av id).1.x.prio)).map (·.id)=[]):bX s id=[]:=by
 unfold bX
 split
 ·rfl
 rw [List.map_eq_nil_iff.1 g];simp
def qV (s:aU) (id:Int) (A:List Int):List Int×List aI×Bool:=match kX s id A (A.length+1) 0 with
 |none=>([],[],false)
 |some (l,nodes)=>((gu s id (l.length+1) 0 l nodes).1,(gu s id (l.length+1) 0 l nodes).2,true)
def iy (v:bG):List bL→Nat→Prop
 |[],n=>n=0
 |s::r,n=>∃m≤n,(∀k<4,m*vk k v≤vk k s.free)∧iy v r (n-m)
theorem iy.zero (v:bG):∀l:List bL,iy v l 0
 |[]=>rfl
 |_::r=>⟨0,Nat.le_refl _,fun k _=>by simp,iy.zero v r⟩
theorem iy.less {v:bG}:∀{l:List bL} {n:Nat},iy v l (n+1)→iy v l n
 |[],n,h=>by cases h
 |s::r,n,⟨m,hm,h1,h2⟩=>by
  cases m with
  |zero=>exact ⟨0,Nat.zero_le _,h1,by simpa using iy.less (l:=r) (n:=n) (by simpa using h2)⟩
  |succ m=>
   refine ⟨m,by omega,fun k hk=>Nat.le_trans (Nat.mul_le_mul_right _ (Nat.le_succ m)) (h1 k hk),?_⟩
   rwa [show n+1-(m+1)=n-m by omega] at h2
theorem iy.put {v:bG} {s':bL}:∀{l:List bL} {i n:Nat} {s:bL},l[i]?=some s→(∀k<4,vk k v≤vk k s.free)→(∀k<4,vk k s'.free=vk k s.free-vk k v)→iy v (l.set i s') n→iy v l (n+1)
 |[],i,n,s,h,_,_,_=>by simp at h
 |x::r,0,n,s,h,hf,he,⟨m,hm,h1,h2⟩=>by
  simp only [List.getElem?_cons_zero,osI] at h;subst h
  refine ⟨m+1,by omega,fun k hk=>?_,by rwa [show n+1-(m+1)=n-m by omega]⟩
  have a:=h1 k hk;have b:=he k hk;have c:=hf k hk
  rw [b] at a
  rw [Nat.add_mul,Nat.one_mul];omega
 |x::r,i+1,n,s,h,hf,he,⟨m,hm,h1,h2⟩=>by
  simp only [List.getElem?_cons_succ] at h
  refine ⟨m,by omega,h1,?_⟩
  rw [show n+1-m=(n-m)+1 by omega]
  exact iy.put h hf he h2
theorem iy.take {v:bG} {s':bL}:∀{l:List bL} {i n:Nat} {s:bL},l[i]?=some s→(∀k<4,vk k s'.free=vk k s.free-vk k v)→iy v l (n+1)→iy v (l.set i s') n
 |[],i,n,s,h,_,_=>by simp at h
 |x::r,0,n,s,h,he,⟨m,hm,h1,h2⟩=>by
  simp only [List.getElem?_cons_zero,osI] at h;subst h
  cases m with
  |zero=>exact ⟨0,Nat.zero_le _,fun k _=>by simp,by simpa using iy.less (l:=r) (n:=n) (by simpa using h2)⟩
  |succ m=>
   refine ⟨m,by omega,fun k hk=>?_,by rwa [show n+1-(m+1)=n-m by omega] at h2⟩
   have a:=h1 k hk;have b:=he k hk
   rw [Nat.add_mul,Nat.one_mul] at a
   rw [b];omega
 |x::r,i+1,n,s,h,he,⟨m,hm,h1,h2⟩=>by
  simp only [List.getElem?_cons_succ] at h
  by_cases e:m=n+1
  ·subst e
   refine ⟨n,Nat.le_refl _,fun k hk=>Nat.le_trans (Nat.mul_le_mul_right _ (Nat.le_succ n)) (h1 k hk),?_⟩
   rw [Nat.sub_self];exact iy.zero v _
  refine ⟨m,by omega,h1,iy.take h he ?_⟩
  rwa [show n+1-m=(n-m)+1 by omega] at h2
theorem iy.one {v:bG}:∀{l:List bL} {n:Nat},iy v l (n+1)→∃s∈l,∀k<4,vk k v≤vk k s.free
 |[],n,h=>by cases h
 |x::r,n,⟨m,hm,h1,h2⟩=>by
  cases m with
  |zero=>
   obtain ⟨s,hs,h⟩:=iy.one (l:=r) (n:=n) (by simpa using h2)
   exact ⟨s,by simp [hs],h⟩
  |succ m=>exact ⟨x,by simp,fun k hk=>by have:=h1 k hk;rw [Nat.add_mul,Nat.one_mul] at this;omega⟩
theorem iy.mono {v:bG}:∀{l l':List bL} {n:Nat},l.length=l'.length→(∀(i:Nat) (s s':bL),l[i]?=some s→l'[i]?=some s'→∀k<4,vk k s.free≤vk k s'.free)→iy v l n→iy v l' n
 |[],[],n,_,_,h=>h
 |[],_::_,_,h,_,_=>by cases h
 |_::_,[],_,h,_,_=>by cases h
 |x::r,y::q,n,hl,hf,⟨m,hm,h1,h2⟩=>
  ⟨m,hm,fun k hk=>Nat.le_trans (h1 k hk) (hf 0 x y rfl rfl k hk),iy.mono (by simpa using hl) (fun i s s' a b=>hf (i+1) s s' (by simpa using a) (by simpa using b)) h2⟩
theorem pg (v:bG) (hv:v.w):∀(l:List bL) (k:Nat) (b:Ep) (L:List bL),(∀s∈L,s.free.w)→L.drop k=l→
 (b.ok=true→∃s,L[b.at_]?=some s∧(dO s.free v).2=true∧b.left=(dO s.free v).1)→
 ((
  (mC v l k b).ok=true→∃s,L[(mC v l k b).at_]?=some s∧(dO s.free v).2=true∧(mC v l k b).left=(dO s.free v).1)∧
  ((mC v l k b).ok=false→b.ok=false∧∀s∈l,(dO s.free v).2=false))
 |[],k,b,L,_,_,hb=>by simp only [mC];exact ⟨hb,fun h=>⟨h,by simp⟩⟩
 |s::r,k,b,L,hw,hd,hb=>by
  have hs:L[k]?=some s:=by
   have:=congrArg (fun x=>x[0]?) hd
   simpa using this
  have hr:L.drop (k+1)=r:=by rw [←List.drop_drop,hd];rfl
  simp only [mC]
  by_cases c:((dO s.free v).2&&(!b.ok||decide (qA (dO s.free v).1 b.left<0)))=true
  ·rw [if_pos c]
   rw [Bool.and_eq_true] at c
   obtain ⟨g1,g2⟩:=pg v hv r (k+1) ⟨k,(dO s.free v).1,true⟩ L hw hr (fun _=>⟨s,hs,c.1,rfl⟩)
   exact ⟨g1,fun h=>absurd (g2 h).1 (by simp)⟩
  rw [if_neg c]
  obtain ⟨g1,g2⟩:=pg v hv r (k+1) b L hw hr hb
  refine ⟨g1,fun h=>⟨(g2 h).1,fun x hx=>?_⟩⟩
  rcases List.mem_cons.1 hx with rfl|hx
  ·have:=(g2 h).1
   rw [this] at c
   simpa using c
  exact (g2 h).2 x hx
theorem BE {v:bG} (hv:v.w) {l:List bL} (hw:∀s∈l,s.free.w) (h:(best l v).ok=true):∃s,l[(best l v).at_]?=some s∧(dO s.free v).2=true∧(best l v).left=(dO s.free v).1:=
 (pg v hv l 0 ⟨0,bG.zero,false⟩ l hw rfl (fun h=>by cases h)).1 h
theorem Rc {v:bG} (hv:v.w) {l:List bL} (hw:∀s∈l,s.free.w) (h:(best l v).ok=false):∀s∈l,(dO s.free v).2=false:=
 ((pg v hv l 0 ⟨0,bG.zero,false⟩ l hw rfl (fun h=>by cases h)).2 h).2
theorem Ia {v:bG} (hv:v.w):∀(n:Nat) (l:List bL) (out:List aI),(∀s∈l,s.free.w)→((mS v n l out).2=true↔iy v l n)
 |0,l,out,_=>⟨fun _=>iy.zero v l,fun _=>rfl⟩
 |n+1,l,out,hw=>by
  simp only [mS]
  cases hb:(best l v).ok with
  |false=>
   rw [show (!false)=true from rfl,if_pos rfl]
   refine ⟨fun h=>Bool.noConfusion h,fun h=>?_⟩
   obtain ⟨s,hs,hf⟩:=iy.one h
   have:=Rc hv hw hb s hs
   rw [←Bool.not_eq_true,m9] at this
   exact absurd hf this
  |true=>
   obtain ⟨s,h1,h2,h3⟩:=BE hv hw hb
   rw [show (!true)=false from rfl,if_neg (by decide)]
   have uo:s∈l:=List.mem_of_getElem? h1
   have hd:l.getD (best l v).at_ default=s:=by rw [List.getD_eq_getElem?_getD,h1];rfl
   rw [hd,h3]
   have hle:∀k<4,vk k ({s with free:=(dO s.free v).1}:bL).free=vk k s.free-vk k v:=fun k hk=>EC (hw s uo) h2 hk
   have hw':∀x∈l.set (best l v).at_ {s with free:=(dO s.free v).1},x.free.w:=fun x hx=>by
    rcases rS hx with hx|rfl
    ·exact hw x hx
    exact Ev h2
   rw [Ia hv n _ _ hw']
   exact ⟨fun h=>iy.put h1 (m9.1 h2) hle h,fun h=>iy.take h1 hle h⟩
end Dem
end
