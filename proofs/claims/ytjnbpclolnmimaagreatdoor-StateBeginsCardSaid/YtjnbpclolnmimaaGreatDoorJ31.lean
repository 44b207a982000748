/- Parts of a proof, joined. -/
import Derived.Test.YtjnbpclolnmimaaGreatDoorJ29
set_option linter.unusedSimpArgs false
set_option linter.unusedVariables false
set_option maxRecDepth 100000
set_option maxHeartbeats 4000000
section
open Go
namespace Dem
def C0 (bu:Int) (ps:List Place):List aD:=(ps.filter (fun x=>decide (x.bu=bu))).map (·.node)
end Dem
end
section
open Go Dem Go.Proofs
namespace Dem
variable {t:Th}
theorem W8 (ht:TT t) (bu:Int) {ps:List Place} {es qs:List (List D)} (fq:qs=ps.map Place.cells) (nQ:ps.length<1000000) {r:List (List D)} (hr:r=(C0 bu ps).map aT):
 FC 27 [.agg [SL es,SL qs],az bu] [] (.ret (SL r)) []:=by
 have hrows:∀r∈qs,r.length=6:=by rw [fq];intro r hr;obtain ⟨y,_,rfl⟩:=List.mem_map.1 hr;rfl
 have hel:qs.length=ps.length:=by rw [fq,lgM]
 have hsub:∀k,(C0 bu (ps.take k)).length≤ps.length:=by
  intro k;unfold C0;rw [lgM]
  exact Nat.le_trans (List.length_filter_le _ _) (by rw [List.length_take];omega)
 obtain ⟨J,hJ⟩:∃J:Nat→List (List D)×Nat→Prop,∀n v,J n v↔(v.2+n=ps.length∧v.1=(C0 bu (ps.take v.2)).map aT):=⟨fun n v=>v.2+n=ps.length∧v.1=(C0 bu (ps.take v.2)).map aT,fun _ _=>Iff.rfl⟩
 refine bC ht (aE:=[]) Tryz.func27 (c:=_) rfl rfl (N:=26) rfl (rs:=_) rfl (n:=0) rfl rfl ?_
 cbv
 refine aZ ⟨[1,5,9,10,11],[(5,1)],[]⟩ (σ:=List (List D)×Nat) (fun v=>[(5,.ow 0 1 (t _ fun _=>v.1.length)),(11,bq (t _ fun _=>(v.2:Int)))]) (fun v=>[(0,.row 1 (t _ fun _=>v.1))]) J ?_
 cbv
 refine aA ⟨ps.length,([],0),(hJ _ _).2 ⟨by simp,by simp [C0]⟩,by simp only [ht];rfl,?_⟩
 rintro n ⟨out,k⟩ hj
 obtain ⟨j1,j2⟩:=(hJ _ _).1 hj
 clear hj
 simp only at j1 j2
 cbv
 refine ai (fun h=>?_) (fun h=>?_)
 ·have hk:k<ps.length:=by simp [ht,aa] at h;omega
  clear h
  obtain ⟨x,hx⟩:∃x,ps[k]?=some x:=⟨ps[k],by simp⟩
  have htk:=eU hx
  obtain ⟨jb,nd,⟨v1,v2,v3,v4⟩⟩:=x
  cbv
  refine gS [.int .u64 jb,.str nd,.int .u64 v1,.int .u64 v2,.int .u64 v3,.int .u64 v4] ?_ ?_ ?_
  ·simp only [ht,aa];exact ⟨by omega,by omega,hrows⟩
  ·simp [ht,aa,fq,hx]
  cbv
  refine ai (fun hb=>?_) (fun hb=>?_)
  ·have hb':jb=bu:=by simpa [ht] using hb
   clear hb
   have hnew:(C0 bu (ps.take (k+1))).map aT=out++[[.str nd]]:=by
    rw [j2,htk];simp [C0,List.filter_append,hb']
   have hlen:out.length≤ps.length:=by rw [j2,lgM];exact hsub k
   cbv
   refine ⟨?_,aA ⟨n-1,(out++[[.str nd]],k+1),⟨by omega,(hJ _ _).2 ⟨by show k+1+(n-1)=_;omega,hnew.symm⟩⟩,?_⟩⟩
   ·simp only [ht]
    refine ⟨by simp,by simp;omega,?_⟩
    intro r hr
    rcases List.mem_append.1 hr with hr|hr
    ·rw [j2] at hr;obtain ⟨z,_,rfl⟩:=List.mem_map.1 hr;rfl
    simp at hr;subst hr;rfl
   simp only [ht,aa,List.length_append,aC (show k<9223372036854775807 by omega)];rfl
  have hb':¬jb=bu:=by simpa [ht] using hb
  clear hb
  have hnew:(C0 bu (ps.take (k+1))).map aT=out:=by
   rw [j2,htk];simp [C0,List.filter_append,hb']
  cbv
  refine aA ⟨n-1,(out,k+1),⟨by omega,(hJ _ _).2 ⟨by show k+1+(n-1)=_;omega,hnew.symm⟩⟩,?_⟩
  simp only [ht,aa,aC (show k<9223372036854775807 by omega)];rfl
 have hk:k=ps.length:=by simp [ht,aa] at h;omega
 clear h
 rw [hk,List.take_length,←hr] at j2
 subst j2
 cbv
 refine an trivial ?_ rfl rfl rfl ?_
 ·simp only [ht]
 simp only [ht]
theorem Jz (ht:TT t) (N:Nat) (hN:N<256) {a:Int} (ea:a=N) {l:List gw} {dl:List (List D)} (Nq:dl=l.map gw.cells) (Vm:∀x∈l,x.u) (hll:l.length<9223372036854775808):
 FC 15 [U8 a,SL dl] [] (.ret (yq t (t _ fun _=>bQ N l (min l.length 40)))) []:=by
 refine bC ht (aE:=[]) Tryz.func15 (c:=_) rfl rfl (N:=26) rfl (rs:=_) rfl (n:=0) rfl rfl ?_
 cbv
 have c7:dl.length=l.length:=by rw [Nq,lgM]
 (refine aS trivial (uQ ht N hN ea) (by simp) rfl rfl rfl (fun r1 cX=>?_);simp only [ht] at cX)
 cbv
 obtain ⟨J0,eg⟩:∃J0:Nat→Int×Int×Int×List (List D)×List (List D)×List (List D)×List (List D)×List (List D)×Int×List (List D)×Int×List (List D)→Prop,∀n i rd nx ns ps ts js qs ef es af cY,J0 n (i,rd,nx,ns,ps,ts,js,qs,ef,es,af,cY)↔(∃k:Nat,i=k∧k+n=40∧k≤l.length∧Told (bQ N l k) rd nx ns ps ts js qs ef es af cY):=⟨fun n v=>match v with|(i,rd,nx,ns,ps,ts,js,qs,ef,es,af,cY)=>(∃k:Nat,i=k∧k+n=40∧k≤l.length∧Told (bQ N l k) rd nx ns ps ts js qs ef es af cY),fun _ _ _ _ _ _ _ _ _ _ _ _ _=>Iff.rfl⟩
 refine aZ ⟨[1,4,5,6],[],[]⟩ (σ:=Int×Int×Int×List (List D)×List (List D)×List (List D)×List (List D)×List (List D)×Int×List (List D)×Int×List (List D)) (fun v=>[(6,.d (.int .i64 (t _ fun _=>v.1)))]) (fun v=>[(1,.var [.d (.int .u64 (t _ fun _=>v.2.1)),.d (.int .u64 (t _ fun _=>v.2.2.1)),.d (.sl (t _ fun _=>v.2.2.2.1)),.d (.sl (t _ fun _=>v.2.2.2.2.1)),.d (.sl (t _ fun _=>v.2.2.2.2.2.1)),.d (.sl (t _ fun _=>v.2.2.2.2.2.2.1)),.d (.sl (t _ fun _=>v.2.2.2.2.2.2.2.1)),.d (.int .u64 (t _ fun _=>v.2.2.2.2.2.2.2.2.1)),.d (.sl (t _ fun _=>v.2.2.2.2.2.2.2.2.2.1)),.d (.int .u64 (t _ fun _=>v.2.2.2.2.2.2.2.2.2.2.1)),.d (.sl (t _ fun _=>v.2.2.2.2.2.2.2.2.2.2.2))])]) J0 ?_
 cbv
 refine aA ⟨40,(_,_,_,_,_,_,_,_,_,_,_,_),(eg _ _ _ _ _ _ _ _ _ _ _ _ _).2 ?_,by simp only [ht];rfl,?_⟩
 ·exact ⟨0,rfl,by omega,by omega,by rw [show bQ N l 0=r1 from cX.symm];exact Told.self r1⟩
 rintro n ⟨i,rd,nx,ns,ps,ts,js,qs,ef,es,af,cY⟩ hj
 replace hj:=(eg _ _ _ _ _ _ _ _ _ _ _ _ _).1 hj
 obtain ⟨k,rfl,j1,j2,jT⟩:=hj
 cbv
 iterate 2 refine gI (by simp [ht]) ?_
 refine pI (by simp [ht]) ?_
 refine ai (fun h1=>?_) (fun h1=>?_)
 ·simp [ht,aa,c7] at h1
  cbv
  refine bJ [false,false,false,false,false,true,true] (by kernel_rfl) (by kernel_rfl) ?_
  cbv
  iterate 2 refine gI (by simp) ?_
  refine dg ht Nq (cT:=gw.aH t) (by (simp only [ht,aa];omega)) (by (simp only [ht,aa];omega)) (fun _=>rfl) (fun _=>rfl) (fun x2 iw=>?_)
  simp [ht,aa] at iw
  cbv
  iterate 2 refine gI (by simp) ?_
  (first|(refine aS trivial (Ag ht x2 (Vm x2 (List.mem_of_getElem? iw)) rfl rfl rfl rfl rfl _ _ _ _ (nl:=(bQ N l k).aW.nodes) (pl:=(bQ N l k).aW.places) (tl:=(bQ N l k).tree) (jl:=(bQ N l k).aI) (ql:=(bQ N l k).queue) (el:=(bQ N l k).ev.l) (al:=(bQ N l k).au.l) (by simp only [ht];exact jT.n) (by simp only [ht];exact jT.p) (by simp only [ht];exact jT.t) (by simp only [ht];exact jT.j) (by simp only [ht];exact jT.q) (by simp only [ht];exact jT.e) (by simp only [ht];exact jT.a) (by simp only [ht];rw [jT.eq];exact mv N l k)) (by simp) rfl rfl rfl (fun r1 cX=>?_);simp only [ht] at cX;rw [jT.eq,←nJ iw] at cX)|(refine iu (fun g=>⟨by simp [ht],by simp [ht],(Ag ht x2 (Vm x2 (List.mem_of_getElem? iw)) rfl rfl rfl rfl rfl rd nx ef af (nl:=(bQ N l k).aW.nodes) (pl:=(bQ N l k).aW.places) (tl:=(bQ N l k).tree) (jl:=(bQ N l k).aI) (ql:=(bQ N l k).queue) (el:=(bQ N l k).ev.l) (al:=(bQ N l k).au.l) (by simp only [ht];exact jT.n) (by simp only [ht];exact jT.p) (by simp only [ht];exact jT.t) (by simp only [ht];exact jT.j) (by simp only [ht];exact jT.q) (by simp only [ht];exact jT.e) (by simp only [ht];exact jT.a) (by simp only [ht];rw [jT.eq];exact mv N l k))⟩) rfl rfl rfl (fun r1 cX=>?_);simp only [ht] at cX;rw [jT.eq,←nJ iw] at cX))
  cbv
  refine bf (_,_,_,_,_,_,_,_,_,_,_,_) (by simp only [ht];rfl) (n-1) ?_ ((eg _ _ _ _ _ _ _ _ _ _ _ _ _).2 ?_)
  ·((try simp only [aa] at*);omega)
  simp only [aa]
  exact ⟨k+1,aC (by omega),by ((try simp only [aa] at*);omega),by omega,by rw [←cX];exact Told.self r1⟩
 simp [ht,aa,c7] at h1
 cbv
 refine an trivial trivial rfl rfl rfl ?_
 (have hk:min l.length 40=k:=(by ((try simp only [aa] at*);omega));simp only [ht,hk,jT.r,jT.x,jT.n,jT.p,jT.t,jT.j,jT.q,jT.f,jT.e,jT.g,jT.a];done)
end Dem
end
