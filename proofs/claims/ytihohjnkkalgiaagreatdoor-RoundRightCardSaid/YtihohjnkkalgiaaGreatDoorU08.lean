/- Parts of a proof, joined. -/
import Derived.Test.YtihohjnkkalgiaaGreatDoorU07
import Derived.Maps.RangeWalk
import Derived.Sort.MapsRangeIn
import Derived.Sort.KeysCollected
import Derived.Test.YtihohjnkkalgiaaGreatDoorProg
set_option linter.all false
set_option maxRecDepth 100000
set_option maxHeartbeats 4000000
section
open Go
namespace Dem
section
variable {P:Program} {T:Nat→Option TI} {G:Nat→Option (List D)} {N K:Nat}
theorem rJ (hT:kH P T) (hD:qG P T G) {f N:Nat} {fn:Func} {c:Code} {args:List AV} {bz aL:List aA} {res:iB} (hf:P.funcs[f]?=some fn) (hb:fn.body=some c)
 (hname:(fn.name== "runtime.NumGoroutine")=false) (hN:fn.ntmps=N) (hlen:Nat.ble args.length N=true) {pre rest:List Code} (hc:flat c=pre++rest) (R:St→Prop)
 (hr:∀(X:Nat→Prop) (β0:Nat→Nat) (w0:World) (β:Nat→Nat) (w:World) (s:St) (a:Act),Ext β0 bz w0 β s.bx w→Fr G N [] β w X s a→R s→
  sY P rest (fY G N [] X β0 bz w0 (pW t0 T fn.results.toList bz.length res aL)) a w)
 (h:JP t0 (bt P G) T G N bz.length pre (fun e s=>match e with|.normal=>R s|e=>pW t0 T fn.results.toList bz.length res aL e s) ⟨nO 0 args,bz⟩):bt P G f args bz res aL:=by
 refine vc hT hf hb hname hN hlen fun β w X a hF=>wp_mono (EK c ?_) (fun _ _ _ hl=>fY.imp (fun _ _ hq=>LZ hq) hl)
 rw [hc]
 refine yG (Hi ?_ (pg (X:=X) (β0:=β) (bz:=bz) (w0:=w) hT hD (Nat.le_refl _) pre _ β w _ a (Ext.refl _ _ _) hF h))
 intro e a1 w1 hl
 cases e<;>simp only [fY,Exit.then] at hl ⊢
 ·obtain ⟨β1,s1,Ao,FK,hR⟩:=hl
  exact hr X β w β1 w1 s1 a1 Ao FK hR
 all_goals exact hl
structure WZ (n:Nat) (K:Nat→Prop):Prop where
 ok:∀c,n≤c→(n=0→c=0)→K c
def Rr (t:Th) (FC:Nat→List AV→List aA→iB→List aA→Prop) (T:Nat→Option TI) (G:Nat→Option (List D)) (N K:Nat) (post:List Code) (i:Nat) (Q:Ex→St→Prop) (s:St):Prop:=
 match fW i s.sl with
 |.ow b sz n=>WZ n fun c=>JP t FC T G N K post Q ⟨put i (.vw b sz 0 n c true) s.sl,s.bx⟩
 |_=>False
theorem Is (hT:kH P T) (hD:qG P T G) {bz:List aA} (hK:bz.length≤K) {post:List Code} {i:Nat} {Q:Ex→St→Prop} {X:Nat→Prop} {β0:Nat→Nat} {w0:World} {β:Nat→Nat} {w:World} {s:St} {a:Act} (ex:Ext β0 bz w0 β s.bx w) (hF:Fr G N [] β w X s a)
 (h:Rr t0 (bt P G) T G N K post i Q s):sY P post (fY G N [] X β0 bz w0 Q) a w:=by
 unfold Rr at h
 split at h
 case h_2=>exact h.elim
 rename_i b sz n hi
 obtain ⟨h⟩:=h
 have hx:=hF.yl i
 rw [hi] at hx
 simp only [aj] at hx
 have key:∀c,n≤c→(n=0→c=0)→aj β s.bx w (bf β s.bx w X) (.vw b sz 0 n c true) (a.tmps.getD i undef)→sY P post (fY G N [] X β0 bz w0 Q) a w:=by
  intro c h1 h2 h3
  refine pg hT hD hK post Q β w ⟨put i (.vw b sz 0 n c true) s.sl,s.bx⟩ a ex ⟨hF.cx,hF.defers,hF.size,fun t=>?_⟩ (h c h1 h2)
  rw [oR]
  by_cases ht:t=i
  ·subst ht;rw [if_pos rfl];exact h3
  rw [if_neg ht];exact hF.yl t
 obtain ⟨hb,⟨rfl,base,e⟩|⟨h0,cap,c,e1,f',e,h1,h2,h3⟩⟩:=hx
 ·refine key 0 (Nat.le_refl _) (fun _=>rfl) ?_
  rw [e]
  simp only [aj]
  exact ⟨hb,base,0,#[],0,(0,0),rfl,Nat.le_refl _,Nat.le_refl _,fun _=>rfl,.inl rfl⟩
 refine key cap h1 (fun h=>absurd h h0) ?_
 rw [e]
 simp only [aj]
 exact ⟨hb,_,cap,c,e1,f',rfl,h1,Nat.le_refl _,fun _=>rfl,.inr ⟨by simp,h2,by simpa using h3⟩⟩
end
end Dem
end
section
open Go Dem Go.Proofs
namespace Dem
theorem fcV {t:Th} (ht:TT t) (k i:Nat) {f N:Nat} {fn:Func} {c:Code} {args:List AV} {bz aL:List aA} {res:iB} (hf:Tryz.prog.funcs[f]?=some fn) (hb:fn.body=some c)
 (hname:(fn.name== "runtime.NumGoroutine")=false) (hN:fn.ntmps=N) {rs:List ResultVar} (MP:fn.results.toList=rs) {n:Nat} (hn:bz.length=n) (hlen:Nat.ble args.length N=true)
 (h:JP t FC tT gl N n ((flat c).take k) (fun e s=>match e with|.normal=>Rr t FC tT gl N n ((flat c).drop k) i (pW t tT rs n res aL) s|e=>pW t tT rs n res aL e s) ⟨nO 0 args,bz⟩):FC f args bz res aL:=by
 subst MP;subst hn
 have e:=ht.eq
 subst e
 exact rJ Ql xg hf hb hname hN hlen (List.take_append_drop k (flat c)).symm _ (fun X β0 w0 β w s a ex hF hR=>Is Ql xg (Nat.le_refl _) ex hF hR) h
end Dem
end
section
open Go Dem Go.Proofs
namespace Dem
variable {t:Th}
theorem N7 {l:List bK} {es:List (List D)} {i m:Nat} (aC:es=l.map bK.cells) (hi:i<l.length) (hm:m+1=l.length):
 wrote (wrote (List.replicate m [D.int IntKind.u64 0,D.int IntKind.i64 0]) 0 (es.take i)) i (es.drop (i+1))=(l.eraseIdx i).map bK.cells:=by
 have hl:es.length=l.length:=by rw [aC,lgM]
 simp only [wrote,List.take_zero,List.nil_append,Nat.zero_add,List.length_take,List.length_drop,List.drop_replicate,List.eraseIdx_eq_take_drop_succ,List.map_append,List.map_take,List.map_drop,←aC]
 have d1:(List.take i es).length=i:=by rw [List.length_take];omega
 have d2:List.drop (i+(es.length-(i+1))) (List.take i es++List.replicate (m-i) [D.int IntKind.u64 0,D.int IntKind.i64 0])=[]:=List.drop_eq_nil_of_le (by rw [List.length_append,d1,List.length_replicate];omega)
 rw [Nat.min_eq_left (by omega),List.take_append_of_le_length (by omega),List.take_take,Nat.min_self,d2,List.append_nil]
theorem Iu (ht:TT t) (id:Int) {l:List bK} {es:List (List D)} (aC:es=l.map bK.cells) (hl:l.length<1000000):
 FC 63 [SL es,az id] [] (.ret (Zq t (t _ fun _=>Bd l id))) []:=by
 refine fcV ht 5 7 (bz:=[]) Tryz.func63 rfl rfl (N:=32) rfl rfl (n:=0) rfl rfl ?_
 cbv
 have aF:es.length=l.length:=by rw [aC,lgM]
 refine aG (xE ht _ ‹_› (by omega)) trv (fun r0 cN=>?_)
 simp only [ht] at cN
 have ec:=cD cN
 clear cN
 rcases ec with ⟨e1,e2,e3⟩|⟨i,x,hi,hil,e1,e2,e3,e4⟩
 ·cbv
  apply ap<;>intro h1
  ·simp [ht] at h1
   cbv
   refine an ?_
   (simp [Bd, *];done)
  simp [ht] at h1
  omega
 obtain ⟨m,hm⟩:∃m,m+1=l.length:=⟨l.length-1,by omega⟩
 obtain ⟨i1,hi1⟩:∃n,n=i+1:=⟨_,rfl⟩
 obtain ⟨mi,yB⟩:∃n,n=m-i:=⟨_,rfl⟩
 have tr:=N7 aC hil hm
 rw [←hi1] at tr
 obtain ⟨R1,Rp⟩:∃R,R=wrote (List.replicate m [D.int IntKind.u64 0,D.int IntKind.i64 0]) 0 (es.take i):=⟨_,rfl⟩
 obtain ⟨R2,Rq⟩:∃R,R=wrote R1 i (es.drop i1):=⟨_,rfl⟩
 have hr:∀r∈es,r.length=2:=by rw [aC];intro r hr;obtain ⟨y,_,rfl⟩:=List.mem_map.1 hr;rfl
 have hw:IntKind.i64.wrap ((es.length:Int)-1)=(m:Int):=by rw [wrap64 (by omega) (by omega)];omega
 have hw1:IntKind.i64.wrap (r0+1)=(i1:Int):=by rw [wrap64 (by omega) (by omega)];omega
 have xJ:R1.length=m:=by rw [Rp];simp [wrote];omega
 have Zu:R2.length=m:=by rw [Rq];simp [wrote,xJ];omega
 rw [←Rp,←Rq] at tr
 cbv
 apply ap<;>intro h2
 ·simp [ht] at h2
  rw [hi] at h2;simp only [ah] at h2;exact absurd h2 (by omega)
 simp [ht] at h2
 cbv
 refine ⟨?_,?_⟩
 ·simp only [ah] at hw;simp only [ht,ah,hw];refine ⟨by omega,trv,?_⟩;simp only [Int.toNat_natCast];omega
 refine ⟨fun c hc hc0=>?_⟩
 cbv
 simp only [ah] at hw hi hw1 tr
 have hcm:m≤c:=by simpa only [ht,ah,hw,Int.toNat_natCast] using hc
 refine ⟨?_,?_⟩
 ·simp only [ht,bN];exact ⟨⟨h2,by omega⟩,hr⟩
 refine bF (bD (i:Int)) [.row 2 R1] ?_ ?_ ?_ ?_
 ·simp only [ht,ah,hw,hi,iH,Int.toNat_natCast,eR,List.length_take,List.length_replicate]
  refine ⟨⟨by omega,fun h=>?_⟩,fun r h=>hr r (List.mem_of_mem_take (List.mem_of_mem_take h))⟩
  have:=congrArg List.length h
  simp only [List.length_replicate,List.length_nil] at this
  omega
 ·simp only [ht,ah,hw,hi,iH,Int.toNat_natCast,List.length_take]
  rw [Nat.min_eq_left (by omega),Nat.min_eq_left (by omega)]
 ·simp only [ht,ah,hw,hi,iH,Int.toNat_natCast,List.length_take]
  rw [Rp,Nat.min_eq_left (by omega),Nat.min_eq_left (by omega),List.take_take,Nat.min_self]
 cbv
 refine bS [false,false,false,false,false,false,false,true] ?_
 cbv
 refine gI (by simp) (gI (by simp) ?_)
 obtain ⟨ci,qg⟩:∃n,n=c-i:=⟨_,rfl⟩
 refine iy (.vw 0 2 i mi ci true) (fun _=>⟨?_,?_⟩) ?_
 ·simp only [ht,ah,hw,hi,dR,bN,Int.toNat_natCast];omega
 ·simp only [ht,ah,hw,hi,aV,aP,Int.toNat_natCast,Option.getD_some,Nat.zero_add];rw [yB,qg]
 cbv
 refine gI (by simp) (gI (by simp) (gI (by simp) (gI (fun _=>?_) ?_)))
 ·simp only [ht,ah,hw1,bN];exact ⟨⟨by omega,by omega⟩,hr⟩
 refine bF (bD (mi:Int)) [.row 2 R2,.bq] ?_ ?_ ?_ ?_
 ·simp only [ht,ah,hw1,iH,Int.toNat_natCast,eR,List.length_drop]
  refine ⟨⟨by omega,fun h=>?_⟩,fun r h=>hr r (List.mem_of_mem_drop (List.mem_of_mem_take h))⟩
  rw [h] at xJ;simp only [List.length_nil] at xJ;omega
 ·simp only [ht,ah,hw1,iH,Int.toNat_natCast,List.length_drop]
  rw [Nat.min_eq_right (by omega)]
 ·simp only [ht,ah,hw1,iH,Int.toNat_natCast,List.length_drop]
  rw [Rq,List.take_of_length_le (by rw [List.length_drop];omega)]
 cbv
 refine lQ trv ?_ rfl rfl rfl ?_
 ·simp only [ht,ah,hw,Int.toNat_natCast];exact ⟨by omega,trv⟩
 simp only [ht,ah,hw,Int.toNat_natCast,Bd,e3,List.drop_zero,tr]
 rw [List.take_of_length_le (by rw [←tr];omega)]
theorem Fq {l:List Jb} {id r:Int} (h:r=EW l id) {P:Jb→Prop} (hP:∀x∈l,P x):(r=-1∧l.findIdx? (fun j=>decide (j.id=id))=none)∨
 ∃(i:Nat) (xi xa xb xc xd xn xp xt xf:Int) (xq:aH) (xr:Bool) (xl:List Term),r=i∧i<l.length∧l[i]?=some ⟨xi,⟨xq,⟨xa,xb,xc,xd⟩,xn,xp,xt,xl⟩,xr,xf⟩∧l.findIdx? (fun j=>decide (j.id=id))=some i∧
  l.getD i Jb.zero=⟨xi,⟨xq,⟨xa,xb,xc,xd⟩,xn,xp,xt,xl⟩,xr,xf⟩∧P ⟨xi,⟨xq,⟨xa,xb,xc,xd⟩,xn,xp,xt,xl⟩,xr,xf⟩∧xi=id:=by
 rcases cD h with ⟨e1,e2,_⟩|⟨i,⟨xi,⟨xq,⟨xa,xb,xc,xd⟩,xn,xp,xt,xl⟩,xr,xf⟩,e1,e2,e3,e4,e5,_⟩
 ·exact .inl ⟨e1,e2⟩
 exact .inr ⟨i,xi,xa,xb,xc,xd,xn,xp,xt,xf,xq,xr,xl,e1,e2,e3,e5,by rw [List.getD_eq_getElem?_getD,e3];rfl,hP _ (List.mem_of_getElem? e3),by simpa using e4⟩
theorem jN (s:aW) (j:Jb):nh s j=⟨s.round,s.next,(nh s j).aY,(nh s j).tree,s.av,s.queue,s.ev,s.au⟩:=rfl
theorem Fs (ht:TT t) (rd nx ef af:Int) {nl:List Node} {pl:List Place} {tl:List aR} {jl:List Jb} {ql:List bK} {el al:List dc} {ns ps ts js qs es bH:List (List D)} (eE:ns=nl.map Node.cells) (hps:ps=pl.map Place.cells) (hts:ts=tl.map aR.cells) (dM:js=jl.map Jb.cells) (dF:qs=ql.map bK.cells) (aC:es=el.map dc.cells) (has:bH=al.map dc.cells) (id kd:Int) (nI:∀x∈jl,x.x.gB.u'∧x.x.path.length<1000000000000) (htl:tl.length<100000) (hjl:jl.length<1000000) (EB:pl.length<1000000) (Um:ql.length<1000000) (hel:el.length<1000000):
 FC 39 [.agg [az rd,az nx,SL ns,SL ps,SL ts,SL js,SL qs,az ef,SL es,az af,SL bH],az id,bD kd] [] (.ret (Mn t (t _ fun _=>gG ⟨rd,nx,⟨nl,pl⟩,tl,jl,ql,⟨ef,el⟩,⟨af,al⟩⟩ id kd))) []:=by
 refine cr ht Tryz.func39 (N:=49) ?_
 cbv
 obtain ⟨cZ,de,dg,cu,bZ,aF,cw⟩:=fc eE hps hts dM dF aC has
 refine aG (sQ ht _ _ _ _ _ _ _ _ _ _ _ ‹_› (by omega)) trv (fun r0 cN=>?_)
 simp only [ht] at cN
 have ec:=Fq cN nI
 clear cN
 rcases ec with ⟨e1,e2⟩|⟨i,xi,xa,xb,xc,xd,xn,xp,xt,xf,xq,xr,xl,e1,e2,e3,e4,e5,⟨e6,e7⟩,e8⟩
 ·cbv
  apply ap<;>intro h1
  ·simp [ht] at h1
   cbv
   refine an ?_
   (simp [gG, *];done)
  simp [ht] at h1
  omega
 cbv
 apply ap<;>intro h2
 ·simp [ht] at h2
  (simp only [ah] at*;omega)
 simp [ht] at h2
 cbv
 refine zx ht dM (cT:=Jb.aS t) e3 ‹_› (fun _=>rfl) (fun _=>(by (simp only [ht,Jb.aS];rfl))) ?_
 cbv
 apply ap<;>intro h4
 ·simp [ht] at h4
  cbv
  refine an ?_
  (simp only [ht,gG,e4,e5];simp [*];done)
 simp [ht] at h4
 cbv
 refine aD (Ir ht _ _ _ _ ‹_› ‹_› ‹_› ‹_› ‹_› ‹_› ‹_› _ _ _ _ _ _ _ _ _ _ _ (ko ht rfl) ‹_› ‹_› ‹_› ‹_›) trv (fun r5 sO=>?_)
 simp only [ht] at sO
 (rw [jN] at sO;generalize PN:(nh ⟨rd,nx,⟨nl,pl⟩,tl,jl,ql,⟨ef,el⟩,⟨af,al⟩⟩ ⟨xi,⟨xq,⟨xa,xb,xc,xd⟩,xn,xp,xt,xl⟩,xr,xf⟩).aY=fp at sO;generalize hft:(nh ⟨rd,nx,⟨nl,pl⟩,tl,jl,ql,⟨ef,el⟩,⟨af,al⟩⟩ ⟨xi,⟨xq,⟨xa,xb,xc,xd⟩,xn,xp,xt,xl⟩,xr,xf⟩).tree=ft at sO;subst r5)
 cbv
 refine aD (BN ht _ _ (ko ht rfl) ‹_›) trv (fun r6 mL=>?_)
 simp only [ht] at mL
 cbv
 refine aD (Mt ht _ _ _ _ (ko ht rfl) (ko ht rfl) (ko ht rfl) (ko ht rfl) (ko ht rfl) (ko ht rfl) (ko ht rfl) _ _ _ _ _ _ _ _ _ _ _ (ko ht rfl) ‹_› ‹_› ‹_›) trv (fun r7 rG=>?_)
 simp only [ht] at rG
 have hwe:(r7).ev.l.length<1000000:=by rw [rG];exact hel
 cbv
 refine aD (oy ht _ _ _ _ _ _ (ko ht rfl) (ko ht rfl) (ko ht rfl) (ko ht rfl) (ko ht rfl) (ko ht rfl) (ko ht rfl) ‹_›) trv (fun r8 Vz=>?_)
 simp only [ht] at Vz
 cbv
 refine an ?_
 (simp only [ht,gG,e4,e5,Vz,rG,mL];rw [jN,PN,hft];simp [*];done)
theorem Rs (ht:TT t) (rd nx ef af:Int) {nl:List Node} {pl:List Place} {tl:List aR} {jl:List Jb} {ql:List bK} {el al:List dc} {ns ps ts js qs es bH:List (List D)} (eE:ns=nl.map Node.cells) (hps:ps=pl.map Place.cells) (hts:ts=tl.map aR.cells) (dM:js=jl.map Jb.cells) (dF:qs=ql.map bK.cells) (aC:es=el.map dc.cells) (has:bH=al.map dc.cells) (id kd:Int) (nI:∀x∈jl,x.x.gB.u'∧x.x.path.length<1000000000000) (htl:tl.length<100000) (hjl:jl.length<1000000) (EB:pl.length<1000000) (Um:ql.length<1000000) (hel:el.length<1000000):
 FC 24 [.agg [az rd,az nx,SL ns,SL ps,SL ts,SL js,SL qs,az ef,SL es,az af,SL bH],az id,bD kd] [] (.ret (Mn t (t _ fun _=>send ⟨rd,nx,⟨nl,pl⟩,tl,jl,ql,⟨ef,el⟩,⟨af,al⟩⟩ id kd))) []:=by
 refine cr ht Tryz.func24 (N:=48) ?_
 cbv
 obtain ⟨cZ,de,dg,cu,bZ,aF,cw⟩:=fc eE hps hts dM dF aC has
 refine aG (sQ ht _ _ _ _ _ _ _ _ _ _ _ ‹_› (by omega)) trv (fun r0 cN=>?_)
 simp only [ht] at cN
 have ec:=Fq cN nI
 clear cN
 rcases ec with ⟨e1,e2⟩|⟨i,xi,xa,xb,xc,xd,xn,xp,xt,xf,xq,xr,xl,e1,e2,e3,e4,e5,⟨e6,e7⟩,e8⟩
 ·cbv
  apply ap<;>intro h1
  ·simp [ht] at h1
   cbv
   refine an ?_
   (simp [send, *];done)
  simp [ht] at h1
  omega
 cbv
 apply ap<;>intro h2
 ·simp [ht] at h2
  (simp only [ah] at*;omega)
 simp [ht] at h2
 cbv
 refine zx ht dM (cT:=Jb.aS t) e3 ‹_› (fun _=>rfl) (fun _=>(by (simp only [ht,Jb.aS];rfl))) ?_
 cbv
 apply ap<;>intro h4
 ·cbv
  refine bS [false,false,false,false,false,false,true,true] ?_
  cbv
  iterate 4 refine gI (by simp) ?_
  refine zx ht dM (cT:=Jb.aS t) e3 ‹_› (fun _=>rfl) (fun _=>(by (simp only [ht,Jb.aS];rfl))) ?_
  cbv
  refine gI (by simp) ?_
  refine aD (Ir ht _ _ _ _ ‹_› ‹_› ‹_› ‹_› ‹_› ‹_› ‹_› _ _ _ _ _ _ _ _ _ _ _ (ko ht rfl) ‹_› ‹_› ‹_› ‹_›) trv (fun r6 mL=>?_)
  simp only [ht] at mL
  (rw [jN] at mL;generalize PN:(nh ⟨rd,nx,⟨nl,pl⟩,tl,jl,ql,⟨ef,el⟩,⟨af,al⟩⟩ ⟨xi,⟨xq,⟨xa,xb,xc,xd⟩,xn,xp,xt,xl⟩,xr,xf⟩).aY=fp at mL;generalize hft:(nh ⟨rd,nx,⟨nl,pl⟩,tl,jl,ql,⟨ef,el⟩,⟨af,al⟩⟩ ⟨xi,⟨xq,⟨xa,xb,xc,xd⟩,xn,xp,xt,xl⟩,xr,xf⟩).tree=ft at mL;subst r6)
  cbv
  refine jY trv (nw ht (ko ht rfl) ‹_›) trv rfl (.inr rfl) ?_
  cbv
  (simp only [ah] at e1;refine dJ [3] trv rfl rfl (wg ht (l:=jl) (i:=i) ‹_› (by simp only [ht];rw [wrap64 (by omega) (by omega),e1]) e2 (by omega)) (cA ?_))
  cbv
  refine aD (oy ht _ _ _ _ _ _ (ko ht rfl) (ko ht rfl) (ko ht rfl) (ko ht rfl) (ko ht rfl) (ko ht rfl) (ko ht rfl) ‹_›) trv (fun r7 rG=>?_)
  simp only [ht] at rG
  cbv
  refine an ?_
  (subst h4;simp only [ht,send,e4,e5,rG,if_true];rw [jN,PN,hft];done)
 cbv
 refine aD (Iu ht _ ‹_› ‹_›) trv (fun r8 Vz=>?_)
 simp only [ht] at Vz
 cbv
 refine jY trv (nw ht ‹_› ‹_›) trv rfl (.inr rfl) ?_
 cbv
 (simp only [ah] at e1;refine dJ [2] trv rfl rfl (wg ht (l:=jl) (i:=i) ‹_› (by simp only [ht];rw [wrap64 (by omega) (by omega),e1]) e2 (by omega)) (cA ?_))
 cbv
 refine aD (oy ht _ _ _ _ _ _ ‹_› ‹_› ‹_› (ko ht rfl) (ko ht rfl) ‹_› ‹_› ‹_›) trv (fun r9 gD=>?_)
 simp only [ht] at gD
 cbv
 refine an ?_
 (simp only [ht,send,e4,e5];simp [*];done)
end Dem
end
section
open Go Dem Go.Proofs Go.Maps
namespace Dem
def BX (v:Value):Option (DataW Unit×List MemPlace):=match v with
 |.int q n=>some (.lit (.int q n),[])
 |_=>none
abbrev xK:Int→Value:=Value.int .u64
theorem wh {x y:Int} (h:xK x=xK y):x=y:=by injection h
theorem N8 {x:Int} (h0:0≤x) (h1:x<18446744073709551616):keyOf Tryz.prog 24 (xK x)=some (.int .u64 x):=
 keyOf_int_mk Tryz.underlying24 (by simp [Lit.wf,IntKind.min,IntKind.max,IntKind.signed,IntKind.bits];omega)
theorem Iv {w:World} {ok:Nat→Prop}:∀(l:List ej) (ms:List MapEntry),aZ w ok false (l.map ej.cells) ms→ms.map (fun e=>(e.key,e.val))=l.map (fun m=>(xK m.bu,Value.int .i64 m.cnt))
 |[],ms,h=>by simp only [List.map_nil,aZ] at h;subst h;rfl
 |m::l,ms,h=>by
  simp only [List.map_cons,aZ] at h
  obtain ⟨e,r,rfl,h1,h2⟩:=h
  simp only [ej.cells,gM,aJ,cC] at h1
  obtain ⟨h1,cs,h3,_,v,r',h5,h6,h7⟩:=h1
  subst h7 h6
  rw [List.map_cons,List.map_cons,Iv l r h2]
  subst h5
  rw [h1,h3];rfl
structure Rt (l:List ej):Prop where
 nodup:(l.map ej.bu).Nodup
 bu:∀m∈l,0≤m.bu∧m.bu<18446744073709551616
 len:l.length≤1000000
theorem Ru {w:World} {ok:Nat→Prop} {l:List ej} {ms:Array MapEntry} {clock b:Nat} (hh:w.heap[b]?=some (.map ms clock)) (hs:kR ms clock) (hr:aZ w ok false (l.map ej.cells) ms.toList) (hl:Rt l):
 ∃D0:DataW Unit,w.ownsMap Tryz.prog 24 BX b ms.size D0∧(∀x,has D0 (.int .u64 x)=true↔∃m∈l,m.bu=x)∧∀m∈l,∀z,D0.atKey (.int .u64 m.bu) z=.lit (.int .i64 m.cnt):=by
 have hk:=Iv l ms.toList hr
 have hsz:ms.size=l.length:=by have:=congrArg List.length hk;simpa using this
 have hread:∀x∈ms.toList,∃m∈l,x.key=xK m.bu∧x.val=.int .i64 m.cnt∧WideElems.rd Tryz.prog 24 BX x=some (.int .u64 m.bu,.lit (.int .i64 m.cnt)):=by
  intro x hx
  have:(x.key,x.val)∈ms.toList.map (fun e=>(e.key,e.val)):=List.mem_map.2 ⟨x,hx,rfl⟩
  rw [hk] at this
  obtain ⟨m,hm,e⟩:=List.mem_map.1 this
  simp only [Prod.mk.injEq] at e
  refine ⟨m,hm,e.1.symm,e.2.symm,?_⟩
  unfold WideElems.rd
  rw [←e.1,←e.2,N8 (hl.bu m hm).1 (hl.bu m hm).2]
  rfl
 have hmem:∀m∈l,∃x∈ms.toList,x.key=xK m.bu∧x.val=.int .i64 m.cnt:=by
  intro m hm
  have:(xK m.bu,Value.int .i64 m.cnt)∈l.map (fun m=>(xK m.bu,Value.int .i64 m.cnt)):=List.mem_map.2 ⟨m,hm,rfl⟩
  rw [←hk] at this
  obtain ⟨x,hx,e⟩:=List.mem_map.1 this
  simp only [Prod.mk.injEq] at e
  exact ⟨x,hx,e.1,e.2⟩
 have F:WideElems.Fit Tryz.prog 24 BX ms clock:=by
  refine ⟨?_,⟨?_,hs.2,?_⟩,?_⟩
  ·rw [hsz];exact Nat.le_trans hl.len (by decide)
  ·intro x hx
   have:=hs.1
   rw [Array.all_eq_true_iff_forall_mem] at this
   simpa using this x (by simpa using hx)
  ·have e1:ms.toList.map (·.key)=(l.map ej.bu).map xK:=by
    have:ms.toList.map (·.key)=(ms.toList.map (fun e=>(e.key,e.val))).map Prod.fst:=by rw [List.map_map];rfl
    rw [this,hk];simp
   rw [e1]
   exact List.pairwise_map.2 (hl.nodup.imp (fun h e=>h (wh e)))
  intro x hx
  obtain ⟨m,_,_,_,h⟩:=hread x hx
  exact ⟨_,h⟩
 refine ⟨_,⟨ms,clock,hh,F,Nat.le_refl _,rfl⟩,?_,?_⟩
 ·intro x
  rw [has_eq,List.any_eq_true]
  have hp:=WideShapes.sorted_perm (ms.toList.map (WideElems.rg Tryz.prog 24 BX))
  constructor
  ·rintro ⟨p,MS,LB⟩
   obtain ⟨e,he,rfl⟩:=List.mem_map.1 (hp.mem_iff.1 MS)
   obtain ⟨m,hm,_,_,h⟩:=hread e he
   rw [WideElems.rg_of h] at LB
   exact ⟨m,hm,by simpa [Lit.sameKey] using LB⟩
  rintro ⟨m,hm,rfl⟩
  obtain ⟨e,he,h1,h2⟩:=hmem m hm
  obtain ⟨m',hm',h3,h4,h⟩:=hread e he
  have:m'.bu=m.bu:=wh (h3.symm.trans h1)
  refine ⟨_,hp.mem_iff.2 (List.mem_map.2 ⟨e,he,rfl⟩),?_⟩
  rw [WideElems.rg_of h,this];simp [Lit.sameKey]
 intro m hm z
 obtain ⟨e,he,h1,h2⟩:=hmem m hm
 obtain ⟨m',hm',h3,h4,h⟩:=hread e he
 have e1:m'.bu=m.bu:=wh (h3.symm.trans h1)
 have e2:m'.cnt=m.cnt:=by rw [h4] at h2;injection h2
 have hris:=fit_rising (int_keyed Tryz.underlying24) F
 have:=(WideShapes.atKey_sorted (ms.toList.map (WideElems.rg Tryz.prog 24 BX)) hris (.int .u64 m.bu) trv).2 (WideElems.rg Tryz.prog 24 BX e) (List.mem_map.2 ⟨e,he,rfl⟩) (by rw [WideElems.rg_of h,e1]) z
 rw [this,WideElems.rg_of h,e2]
theorem xL {β:Nat→Nat} {bx:List aA} {w w':World} {row:Option Nat} (hg:w.grownBy w' row) (hr:∀j,row=some j→w.heap.size≤j):Ext β bx w β bx w':=
 have hb:∀k,k<w.heap.size→w'.heap[k]?=w.heap[k]?:=fun k hk=>hg.block k hk (fun e=>by have:=hr k e.symm;omega)
 ⟨hg.os,hg.tape,hg.output,hg.size,fun k hk _=>hb k hk,fun k c e f hk=>⟨c,by rw [hb k (eW hk)];exact hk,rfl⟩,fun i hi=>⟨rfl,hi⟩,fun i b h1 h2=>.inr ⟨i,b,h1,h2,rfl⟩⟩
theorem kE {P:Program} {ops:Array Oper} {Q:Exit→Act→World→Prop} {rest:List Oper} {o:Oper} {a:Act} {w:World} {v:Value} (hg:o.guard=none) (hv:execOp a.eval o=pure (.value v)) (h:wpList P ops Q rest (a.put o.dst v) w):wpList P ops Q (o::rest) a w:=
 wpList_plain hg fun K hK=>by unfold Oper.wp;rw [hv];exact hK _ _ h
theorem BY {P:Program} {ops:Array Oper} {Q:Exit→Act→World→Prop} {rest:List Oper} {o:Oper} {a:Act} {w:World} {v:Value} (hg:o.guard=none) (hv:(execOp a.eval o).run P w=.ok (.value v) w) (h:wpList P ops Q rest (a.put o.dst v) w):wpList P ops Q (o::rest) a w:=
 wpList_plain hg fun K hK=>by unfold Oper.wp;rw [hv];exact hK _ _ h
theorem Un {P:Program} {w:World} {t:TypeId} {k:IntKind} {x y:Int} {ρ:Operand→Value} {o:Oper} {a b:Operand} {t':TypeId} (ho:o.op=.binOp .neq t a b t') (ha:ρ a=.int k x) (hb:ρ b=.int k y):(execOp ρ o).run P w=.ok (.value (.bool (!decide (x=y)))) w:=by
 obtain ⟨u,h1,h2⟩:=FY (P:=P) (w:=w) (fun _=>True) (op:=.neq) (k:=k) (x:=x) (y:=y) (c:=True) (d:=.bool (!decide (x=y))) rfl trv t
 simp only [aJ] at h2
 subst h2
 unfold execOp
 simp only [ho,ha,hb]
 simp [h1,eqGuard,Result.andThen]
theorem rK {ρ:Operand→Value} {o:Oper} {x:Operand} {i:Nat} {vs:Array Value} {v:Value} (ho:o.op=.extract x i) (hx:ρ x=.tuple vs) (hv:vs[i]?=some v):execOp ρ o=pure (.value v):=by
 unfold execOp
 simp only [ho,Instr.extract,hx,hv]
 rfl
theorem eV {a:Act} {N d:Nat} {v:Value} (hs:a.tmps.size=N) (hd:d<N) (u:Nat):(a.put (some d) v).eval (.tmp u)=if u=d then v else a.eval (.tmp u):=LN a d v (by rw [hs];exact hd) u
structure W4 (N q d2:Nat) (v0 vr:Value) (a:Act):Prop where
 defers:a.defers=[]
 size:a.tmps.size=N
 q:a.eval (.tmp q)=v0
 r:a.eval (.tmp d2)=vr
theorem W4.put {N q d2:Nat} {v0 vr:Value} {a:Act} (h:W4 N q d2 v0 vr a) {d:Nat} (h1:d≠q) (h2:d≠d2) (hN:d<N) (v:Value):W4 N q d2 v0 vr (a.put (some d) v):=
 ⟨h.defers,by rw [←h.size];simp [Act.put],by rw [eV h.size hN,if_neg (fun e=>h1 e.symm)];exact h.q,by rw [eV h.size hN,if_neg (fun e=>h2 e.symm)];exact h.r⟩
theorem W4.fr {G:Nat→Option (List D)} {N q d2:Nat} {v0 vr:Value} {a:Act} (h:W4 N q d2 v0 vr a) {β:Nat→Nat} {X:Nat→Prop} {bx:List aA} {w w':World} {row:Option Nat} {kv:AV} (hg:w.grownBy w' row) (hr:∀j,row=some j→w.heap.size≤j) (cx:cF G β bx w X) (hk:aj β bx w (bf β bx w X) kv v0):
 Fr G N [] β w' X ⟨[(q,kv)],bx⟩ a:=by
 refine ⟨cx.step (xL hg hr) (fun i b hb=>.inl ⟨hb,fun hl=>hg.block _ ((cx.box i b hb).eX hl) (fun e=>by have:=hr _ e.symm;have:=(cx.box i b hb).eX hl;omega)⟩) cx.inj,h.defers,h.size,fun t=>?_⟩
 by_cases e:t=q
 ·subst e
  have:fW t [(t,kv)]=kv:=by simp only [fW];rw [show Nat.beq t t=true by simp];rfl
  rw [this]
  have hv:a.tmps.getD t undef=v0:=h.q
  rw [hv];exact aj.mono ((xL hg hr).eT X) _ _ hk
 have:fW t [(q,kv)]=.any:=by simp only [fW];rw [VV e];rfl
 rw [this];simp [aj]
structure KR (bx:List aA) (m:AV) (good bad:Prop):Prop where
 ok:∃(b:Nat) (l:List ej) (es:List (List D)),m=.zX b∧bx[b]?=some (.mp false es)∧es=l.map ej.cells∧Rt l∧((l.all fun x=>decide (x.cnt=0))=true→good)∧((l.all fun x=>decide (x.cnt=0))=false→bad)
section
variable {N:Nat} {X:Nat→Prop} {β0:Nat→Nat} {bz:List aA} {w0:World}
theorem Uo {Q:Ex→St→Prop} {i0 i1 i2 i3 B B2 m d1 d2 d3 d4 d5 d6 d7 d8 d9 q ty tz:Nat} {t':TypeId} {kv:AV} {o1 o2 o3 o4 o5 o6 o7 o8 o9:Oper} {XS:Code} {post:List Code}
 (hd:d1≠q∧d2≠q∧d3≠q∧d4≠q∧d5≠q∧d6≠q∧d7≠q∧d8≠q∧d9≠q) (hN:d1<N∧d2<N∧d3<N∧d4<N∧d5<N∧d6<N∧d7<N∧d8<N∧d9<N) (hr:d3≠d2∧d4≠d2∧d5≠d2∧d6≠d2∧d7≠d2∧d8≠d2∧d9≠d2)
 (h1:o1.op=.move (.tmp m)∧o1.dst=some d1∧o1.guard=none) (h2:o2.op=.range ty (.tmp d1)∧o2.dst=some d2∧o2.guard=none) (h3:o3.op=.next (.tmp d2) false∧o3.dst=some d3∧o3.guard=none) (h4:o4.op=.extract (.tmp d3) 0∧o4.dst=some d4∧o4.guard=none)
 (h5:o5.op=.entry (.tmp d2)∧o5.dst=some d5∧o5.guard=none) (h6:o6.op=.extract (.tmp d5) 1∧o6.dst=some d6∧o6.guard=none) (h7:o7.op=.assign (.tmp d6)∧o7.dst=some d7∧o7.guard=none) (h8:o8.op=.move (.tmp d7)∧o8.dst=some d8∧o8.guard=none)
 (h9:o9.op=.binOp .neq tz (.tmp d8) (.const (.int .i64 0)) t'∧o9.dst=some d9∧o9.guard=none) (VX:Tryz.prog.underlying ty=some (.map 24 3))
 {β:Nat→Nat} {w:World} {s:St} {a:Act} (ex:Ext β0 bz w0 β s.bx w) (hF:Fr gl N [] β w X s a) (hq:fW q s.sl=kv)
 (h:KR s.bx (fW m s.sl) (∀(w':World) (a':Act),Ext β0 bz w0 β s.bx w'→Fr gl N [] β w' X ⟨[(q,kv)],s.bx⟩ a'→sY Tryz.prog post (fY gl N [] X β0 bz w0 Q) a' w')
  (∀(w':World) (a':Act),Ext β0 bz w0 β s.bx w'→Fr gl N [] β w' X ⟨[(q,kv)],s.bx⟩ a'→XS.wp Tryz.prog (fun e a w=>e=.ret∧fY gl N [] X β0 bz w0 Q .ret a w) a' w')):
 sY Tryz.prog (.region i0 ⟨[o1,o2]⟩ false::.block B (.loop (.seq (.region i1 ⟨[o3,o4]⟩ false) (.seq (.cond (.tmp d4) .skip (.exit B)) (.block B2 (.seq (.region i2 ⟨[o5,o6,o7]⟩ false) (.seq (.region i3 ⟨[o8,o9]⟩ false) (.cond (.tmp d9) XS .skip)))))))::post) (fY gl N [] X β0 bz w0 Q) a w:=by
 obtain ⟨b,l,es,hm,hb,rfl,hl,Zv,abB⟩:=h
 obtain ⟨q1,q2,q3,q4,q5,q6,q7,q8,q9⟩:=hd
 obtain ⟨n1,n2,n3,n4,n5,n6,n7,n8,n9⟩:=hN
 obtain ⟨r3,r4,r5,r6,r7,r8,r9⟩:=hr
 have hma:a.eval (.tmp m)=.map (some (β b)):=by
  have:=hF.yl m
  rw [hm] at this
  simp only [aj] at this
  exact this.1
 obtain ⟨ms,clock,g1,g2,g3⟩:=hF.cx.box b _ hb
 obtain ⟨D0,ho,Zw,hat⟩:=Ru g1 g2 g3 hl
 refine wp_region_list ?_
 refine kE h1.2.2 (v:=.map (some (β b))) (by unfold execOp;simp only [h1.1,hma]) ?_
 rw [h1.2.1]
 refine wpList_range_own _ h2.2.2 (.tmp d1) ty h2.1 24 3 (int_keyed Tryz.underlying24) VX BX (β b) ms.size D0 (by rw [eV hF.size n1];simp) ho ?_
 intro w1 Zx Rv Ym
 rw [h2.2.1]
 refine wpList_nil ?_
 obtain ⟨r,Z8⟩:∃r,r=w.heap.size:=⟨_,rfl⟩
 rw [←Z8] at Zx ⊢
 have Rw:(a.put (some d1) (Value.map (some (β b)))).tmps.size=N:=by rw [←hF.size];simp [Act.put]
 have hA:W4 N q d2 (a.eval (.tmp q)) (.pointer (some ⟨r,0,none⟩)) ((a.put (some d1) (Value.map (some (β b)))).put (some d2) (.pointer (some ⟨r,0,none⟩))):=
  ⟨hF.defers,by rw [←Rw];simp [Act.put],by rw [eV Rw n2,if_neg (fun e=>q2 e.symm),eV hF.size n1,if_neg (fun e=>q1 e.symm)],by rw [eV Rw n2];simp⟩
 have hkv:aj β s.bx w (bf β s.bx w X) kv (a.eval (.tmp q)):=by rw [←hq];exact hF.yl q
 generalize (a.put (some d1) (Value.map (some (β b)))).put (some d2) (.pointer (some ⟨r,0,none⟩))=a1 at hA ⊢
 show (Code.block B _).wp Tryz.prog _ a1 w1
 refine wp_block ?_
 have hro:∀j,some r=some j→w.heap.size≤j:=fun j e=>by cases e;omega
 refine wp_loop_ghost (fun n a' w'=>W4 N q d2 (a.eval (.tmp q)) (.pointer (some ⟨r,0,none⟩)) a'∧w.grownBy w' (some r)∧∃left,w'.ranges Tryz.prog 24 BX (β b) r ms.size D0 left n∧(∀x,left (.int .u64 x)=true→∃m∈l,m.bu=x)∧∀m∈l,left (.int .u64 m.bu)=false→m.cnt=0)
  (Maps.size D0) ⟨hA,⟨Rv.os,Rv.tape,Rv.output,Rv.size,fun k hk _=>Rv.block k hk (by simp)⟩,has D0,Zx,fun x h=>(Zw x).1 h,fun m hm h=>by rw [(Zw m.bu).2 ⟨m,hm,rfl⟩] at h;cases h⟩ ?_
 rintro n a2 w2 ⟨Zy,W5,left,W6,hl1,O0⟩
 refine wp_seq (wp_region_list ?_)
 have exw:∀{w3:World},w.grownBy w3 (some r)→Ext β0 bz w0 β s.bx w3:=fun {w3} g=>ex.trans (xL g hro)
 refine wpList_next_ranges w2 h3.2.2 (.tmp d2) h3.1 24 (int_keyed Tryz.underlying24) BX xK (fun x:IntKind×Int=>.int x.1 x.2) (fun key kl hk=>by obtain ⟨x,hx,_⟩:=Maps.keyOf_int_inv Tryz.underlying24 hk;exact ⟨x,hx⟩)
  (fun v y hv=>by cases v<;>simp [BX] at hv;exact ⟨(_,_),rfl⟩) (β b) r ms.size D0 left n Zy.r W6 ?_ ?_
 ·intro hc0 hl0
  rw [h3.2.1]
  have Zz:=Zy.put q3 r3 n3 (.tuple #[.bool false])
  refine kE h4.2.2 (v:=.bool false) (rK h4.1 (by rw [eV Zy.size n3];simp;rfl) (by rfl)) ?_
  rw [h4.2.1]
  refine wpList_nil ?_
  have ZA:=Zz.put q4 r4 n4 (.bool false)
  simp only [Exit.then]
  refine wp_seq (wp_cond_split (t:=false) (by rw [eV Zz.size n4];simp) (fun h=>by cases h) (fun _=>wp_exit ?_))
  simp only [Exit.then,Exit.inBlock,if_true]
  have:(l.all fun x=>decide (x.cnt=0))=true:=by
   rw [List.all_eq_true];intro x hx;simpa using O0 x hx (hl0 _)
  exact Zv this w2 _ (exw W5) (ZA.fr W5 hro hF.cx hkv)
 intro x c kl y w3 n3' hkey hlk hv abC Up hlt abD ad6 hen
 obtain ⟨x',e1,rfl,_⟩:=Maps.keyOf_int_inv Tryz.underlying24 hkey
 obtain rfl:x=x':=wh e1
 obtain ⟨k,cv⟩:=c
 simp only [BX,osI] at hv
 subst hv
 obtain ⟨mm,M0,rfl⟩:=hl1 x hlk
 have hc:=(abC .nil).symm.trans (hat mm M0 .nil)
 simp only [DataW.lit.injEq,Lit.int.injEq] at hc
 obtain ⟨rfl,rfl⟩:=hc
 have W7:w.grownBy w3 (some r):=W5.andThen abD (fun j e=>.inr e)
 rw [h3.2.1]
 have Zz:=Zy.put q3 r3 n3 (.tuple #[.bool true,xK mm.bu,.int .i64 mm.cnt])
 refine kE h4.2.2 (v:=.bool true) (rK h4.1 (by rw [eV Zy.size n3];simp;rfl) (by rfl)) ?_
 rw [h4.2.1]
 refine wpList_nil ?_
 have ZA:=Zz.put q4 r4 n4 (.bool true)
 simp only [Exit.then]
 refine wp_seq (wp_cond_split (t:=true) (by rw [eV Zz.size n4];simp) (fun _=>wp_skip ?_) (fun h=>by cases h))
 simp only [Exit.then]
 refine wp_block (wp_seq (wp_region_list ?_))
 refine BY h5.2.2 (v:=.tuple #[xK mm.bu,.int .i64 mm.cnt]) (by unfold execOp;simp only [h5.1,ZA.r];simp [hen,Result.andThen]) ?_
 rw [h5.2.1]
 have hA5:=ZA.put q5 r5 n5 (.tuple #[xK mm.bu,.int .i64 mm.cnt])
 refine kE h6.2.2 (v:=.int .i64 mm.cnt) (rK h6.1 (by rw [eV ZA.size n5];simp;rfl) (by rfl)) ?_
 rw [h6.2.1]
 have hA6:=hA5.put q6 r6 n6 (.int .i64 mm.cnt)
 refine kE h7.2.2 (v:=.int .i64 mm.cnt) (by unfold execOp;simp only [h7.1,eV hA5.size n6,if_true]) ?_
 rw [h7.2.1]
 have hA7:=hA6.put q7 r7 n7 (.int .i64 mm.cnt)
 refine wpList_nil ?_
 simp only [Exit.then]
 refine wp_seq (wp_region_list ?_)
 refine kE h8.2.2 (v:=.int .i64 mm.cnt) (by unfold execOp;simp only [h8.1,eV hA6.size n7,if_true]) ?_
 rw [h8.2.1]
 have hA8:=hA7.put q8 r8 n8 (.int .i64 mm.cnt)
 refine BY h9.2.2 (v:=.bool (!decide (mm.cnt=0))) (Un h9.1 (by rw [eV hA7.size n8];simp) rfl) ?_
 rw [h9.2.1]
 have hA9:=hA8.put q9 r9 n9 (.bool (!decide (mm.cnt=0)))
 refine wpList_nil ?_
 simp only [Exit.then]
 refine wp_cond_split (t:=!decide (mm.cnt=0)) (by rw [eV hA8.size n9];simp) (fun h=>?_) (fun h=>wp_skip ?_)
 ·have:(l.all fun x=>decide (x.cnt=0))=false:=by
   rw [List.all_eq_false];exact ⟨mm,M0,by simpa using h⟩
  refine wp_mono (abB this w3 _ (exw W7) (hA9.fr W7 hro hF.cx hkv)) ?_
  rintro e a9 w9 ⟨rfl,hl⟩
  exact hl
 have hz:mm.cnt=0:=by simpa using h
 simp only [Exit.inBlock,Exit.then]
 refine ⟨n3',hlt,hA9,W7,_,Up,?_,?_⟩
 ·intro x hx
  simp only [Bool.and_eq_true] at hx
  exact hl1 x hx.1
 intro m hm hx
 simp only [Bool.and_eq_false_iff] at hx
 rcases hx with hx|hx
 ·exact O0 m hm hx
 have hj:m.bu=mm.bu:=by simpa [Lit.sameKey] using hx
 have h1:=hat m hm .nil
 rw [hj,hat mm M0 .nil] at h1
 simp only [DataW.lit.injEq,Lit.int.injEq,true_and] at h1
 rw [←h1];exact hz
end
end Dem
end
section
open Go Dem Go.Proofs
namespace Dem
theorem fcM {t:Th} (ht:TT t) (k:Nat) {f N:Nat} {fn:Func} {c:Code} {args:List AV} {aL:List aA} {res:iB} (hf:Tryz.prog.funcs[f]?=some fn) (hb:fn.body=some c)
 (hname:(fn.name== "runtime.NumGoroutine")=false) (hN:fn.ntmps=N) {rs:List ResultVar} (MP:fn.results.toList=rs) (hlen:Nat.ble args.length N=true)
 {i0 i1 i2 i3 B B2 m d1 d2 d3 d4 d5 d6 d7 d8 d9 q ty tz:Nat} {t':TypeId} {kv:AV} {o1 o2 o3 o4 o5 o6 o7 o8 o9:Oper} {XS:Code} {post:List Code}
 (hc:(flat c).drop k=.region i0 ⟨[o1,o2]⟩ false::.block B (.loop (.seq (.region i1 ⟨[o3,o4]⟩ false) (.seq (.cond (.tmp d4) .skip (.exit B)) (.block B2 (.seq (.region i2 ⟨[o5,o6,o7]⟩ false) (.seq (.region i3 ⟨[o8,o9]⟩ false) (.cond (.tmp d9) XS .skip)))))))::post)
 (hd:d1≠q∧d2≠q∧d3≠q∧d4≠q∧d5≠q∧d6≠q∧d7≠q∧d8≠q∧d9≠q) (hNd:d1<N∧d2<N∧d3<N∧d4<N∧d5<N∧d6<N∧d7<N∧d8<N∧d9<N) (hr:d3≠d2∧d4≠d2∧d5≠d2∧d6≠d2∧d7≠d2∧d8≠d2∧d9≠d2)
 (h1:o1.op=.move (.tmp m)∧o1.dst=some d1∧o1.guard=none) (h2:o2.op=.range ty (.tmp d1)∧o2.dst=some d2∧o2.guard=none) (h3:o3.op=.next (.tmp d2) false∧o3.dst=some d3∧o3.guard=none) (h4:o4.op=.extract (.tmp d3) 0∧o4.dst=some d4∧o4.guard=none)
 (h5:o5.op=.entry (.tmp d2)∧o5.dst=some d5∧o5.guard=none) (h6:o6.op=.extract (.tmp d5) 1∧o6.dst=some d6∧o6.guard=none) (h7:o7.op=.assign (.tmp d6)∧o7.dst=some d7∧o7.guard=none) (h8:o8.op=.move (.tmp d7)∧o8.dst=some d8∧o8.guard=none)
 (h9:o9.op=.binOp .neq tz (.tmp d8) (.const (.int .i64 0)) t'∧o9.dst=some d9∧o9.guard=none) (VX:Tryz.prog.underlying ty=some (.map 24 3))
 (h:JP t FC tT gl N 0 ((flat c).take k) (fun e s=>match e with
  |.normal=>fW q s.sl=kv∧KR s.bx (fW m s.sl) (JP t FC tT gl N 0 post (pW t tT rs 0 res aL) ⟨[(q,kv)],s.bx⟩) (vE t FC tT gl N 0 XS (fun e s=>match e with|.ret=>pW t tT rs 0 res aL .ret s|_=>False) ⟨[(q,kv)],s.bx⟩)
  |e=>pW t tT rs 0 res aL e s) ⟨nO 0 args,[]⟩):FC f args [] res aL:=by
 subst MP
 have e:=ht.eq
 subst e
 refine rJ Ql xg hf hb hname hN hlen (List.take_append_drop k (flat c)).symm (fun s=>fW q s.sl=kv∧KR s.bx (fW m s.sl) _ _) (fun X β0 w0 β w s a ex hF hR=>?_) h
 rw [hc]
 obtain ⟨hq,b,l,es,g1,g2,g3,g4,g5,g6⟩:=hR
 refine Uo hd hNd hr h1 h2 h3 h4 h5 h6 h7 h8 h9 VX ex hF hq ⟨b,l,es,g1,g2,g3,g4,fun hg w' a' qd Ta=>?_,fun hg w' a' qd Ta=>?_⟩
 ·exact pg Ql xg (Nat.le_refl _) post _ β w' ⟨[(q,kv)],s.bx⟩ a' qd Ta (g5 hg)
 refine wp_mono (fD Ql xg (Nat.le_refl _) XS _ β w' ⟨[(q,kv)],s.bx⟩ a' qd Ta (g6 hg)) ?_
 intro e a w hl
 cases e<;>simp only [fY] at hl
 ·obtain ⟨_,_,_,_,h⟩:=hl;exact h.elim
 ·obtain ⟨_,_,_,_,h⟩:=hl;exact h.elim
 ·exact ⟨rfl,hl⟩
 obtain ⟨_,_,_,_,_,_,_,_,_,h⟩:=hl;exact h.elim
end Dem
end
section
open Go Dem Go.Proofs
namespace Dem
variable {t:Th}
theorem DW (j:Int):∀(l:List ej),(qt (l.map ej.cells) (.int .u64 j)=none∧fF l j=0)∨(qt (l.map ej.cells) (.int .u64 j)=some [.int .i64 (fF l j)]∧j∈l.map ej.bu∧∃m∈l,fF l j=m.cnt)
 |[]=>.inl ⟨rfl,rfl⟩
 |m::l=>by
  simp only [List.map_cons,ej.cells,qt,nM]
  by_cases h:j=m.bu
  ·subst h
   have e:fF (m::l) m.bu=m.cnt:=by simp [fF]
   rw [e];exact .inr ⟨by simp,by simp,m,by simp,rfl⟩
  have h2:¬m.bu=j:=fun e=>h e.symm
  have e:fF (m::l) j=fF l j:=by simp [fF,h2]
  rw [e]
  simp only [h,decide_false]
  rcases DW j l with ⟨a,b⟩|⟨a,b,m',c,d⟩
  ·exact .inl ⟨by simpa using a,b⟩
  exact .inr ⟨by simpa using a,by simp [b],m',by simp [c],d⟩
theorem Iw {u:List (List D)} {l:List ej} (hu:u=l.map ej.cells) {j:Int} {c:Prop} {o:Option (List D)} {K:Option (List D)→Prop} (hc:c) (ho:o=qt u (.int .u64 j)) (h0:fF l j=0→K none) (h1:∀x,x=fF l j→j∈l.map ej.bu→(∃m∈l,x=m.cnt)→K (some [.int .i64 x])):Eg true c o K:=by
 subst hu
 rcases DW j l with ⟨a,b⟩|⟨a,b,d⟩
 ·exact ⟨none,fun _=>⟨hc,ho.trans a⟩,h0 b⟩
 exact ⟨_,fun _=>⟨hc,ho.trans a⟩,h1 _ rfl b d⟩
theorem wi {u:List (List D)} {l:List ej} (hu:u=l.map ej.cells):∀r∈u,rowIs (.int .u64) 1 r:=by
 subst hu;intro r hr;obtain ⟨m,_,rfl⟩:=List.mem_map.1 hr;exact ⟨_,_,rfl,rfl,rfl⟩
def wj (m:List ej) (j:Jb):List ej:=if j.runs then eC m j.id j.x.count else m
theorem uD {l:List Jb} {k:Nat} {x:Jb} (h:l[k]?=some x):jL (l.take (k+1))=wj (jL (l.take k)) x:=by
 unfold jL;rw [cV h,List.foldl_append];rfl
structure KT (l:List Jb) (w:List ej):Prop where
 nodup:(w.map ej.bu).Nodup
 bu:∀m∈w,∃j∈l,m.bu=j.id
 cnt:∀m∈w,m.cnt<9223372036854775808
 len:w.length≤l.length
theorem pO {l:List ej} {j c:Int} {m:ej} (h:m∈eC l j c):m=⟨j,c⟩∨m∈l:=by
 induction l with
 |nil=>simp [eC] at h;exact .inl h
 |cons x l ih=>
  unfold eC at h
  split at h
  ·rcases List.mem_cons.1 h with h|h
   ·exact .inl h
   exact .inr (by simp [h])
  rcases List.mem_cons.1 h with h|h
  ·exact .inr (by simp [h])
  rcases ih h with h|h
  ·exact .inl h
  exact .inr (by simp [h])
theorem KU (l:List ej) (j c:Int):(eC l j c).length≤l.length+1:=by
 have:=congrArg List.length (gm l j c)
 rw [lgM] at this
 rw [this];split<;>simp
theorem Ix (L:List Jb) (hc:∀x∈L,x.x.count<9223372036854775808):∀k≤L.length,KT L (jL (L.take k))∧(jL (L.take k)).length≤k
 |0,_=>⟨⟨by simp [jL],by simp [jL],by simp [jL],by simp [jL]⟩,by simp [jL]⟩
 |k+1,hk=>by
  obtain ⟨⟨a1,a2,a3,a4⟩,a5⟩:=Ix L hc k (by omega)
  obtain ⟨x,hx⟩:∃x,L[k]?=some x:=⟨_,List.getElem?_eq_getElem (by omega)⟩
  have mQ:=List.mem_of_getElem? hx
  rw [uD hx]
  unfold wj
  split
  ·have:=KU (jL (L.take k)) x.id x.x.count
   refine ⟨⟨pJ a1 _ _,fun m hm=>?_,fun m hm=>?_,by omega⟩,by omega⟩
   ·rcases pO hm with rfl|hm
    ·exact ⟨x,mQ,rfl⟩
    exact a2 m hm
   rcases pO hm with rfl|hm
   ·exact hc x mQ
   exact a3 m hm
  exact ⟨⟨a1,a2,a3,a4⟩,by omega⟩
theorem Rx {L:List Jb} {w W:List ej} (h:w.map ej.bu=W.map ej.bu) (hW:KT L W) (hid:∀x∈L,0≤x.id∧x.id<18446744073709551616) (hl:L.length<1000000):Rt w where
 nodup:=by rw [h];exact hW.nodup
 bu:=fun m hm=>by
  have:m.bu∈W.map ej.bu:=by rw [←h];exact List.mem_map_of_mem hm
  obtain ⟨m',hm',e⟩:=List.mem_map.1 this
  obtain ⟨j,hj,e2⟩:=hW.bu m' hm'
  rw [←e,e2];exact hid j hj
 len:=by have:=congrArg List.length h;simp at this;have:=hW.len;omega
theorem N9 (ht:TT t) (rd nx ef af:Int) {nl:List Node} {pl:List Place} {tl:List aR} {jl:List Jb} {ql:List bK} {el al:List dc} {ns ps ts js qs es bH:List (List D)} (eE:ns=nl.map Node.cells) (hps:ps=pl.map Place.cells) (hts:ts=tl.map aR.cells) (dM:js=jl.map Jb.cells) (dF:qs=ql.map bK.cells) (aC:es=el.map dc.cells) (has:bH=al.map dc.cells) (hid:∀x∈jl,(0≤x.id∧x.id<18446744073709551616)∧x.x.count<9223372036854775808) (hjl:jl.length<1000000) (EB:pl.length<1000000):
 FC 85 [.agg [az rd,az nx,SL ns,SL ps,SL ts,SL js,SL qs,az ef,SL es,az af,SL bH]] [] (.ret (cU (t _ fun _=>lT ⟨rd,nx,⟨nl,pl⟩,tl,jl,ql,⟨ef,el⟩,⟨af,al⟩⟩))) []:=by
 refine fcM ht 6 Tryz.func85 rfl rfl (N:=74) rfl rfl rfl (q:=2) (kv:=.d (.bool false)) rfl (by decide) (by decide) (by decide) ⟨rfl,rfl,rfl⟩ ⟨rfl,rfl,rfl⟩ ⟨rfl,rfl,rfl⟩ ⟨rfl,rfl,rfl⟩ ⟨rfl,rfl,rfl⟩ ⟨rfl,rfl,rfl⟩ ⟨rfl,rfl,rfl⟩ ⟨rfl,rfl,rfl⟩ ⟨rfl,rfl,rfl⟩ Tryz.underlying192 ?_
 cbv
 obtain ⟨cZ,de,dg,cu,bZ,aF,cw⟩:=fc eE hps hts dM dF aC has
 obtain ⟨J0,dz⟩:∃J0:Nat→Int×List (List D)→Prop,∀n i u,J0 n (i,u)↔(∃(k:Nat),i=k∧k+n=jl.length∧u=(jL (jl.take k)).map ej.cells):=⟨fun n v=>match v with|(i,u)=>(∃(k:Nat),i=k∧k+n=jl.length∧u=(jL (jl.take k)).map ej.cells),fun _ _ _=>Iff.rfl⟩
 refine bA ⟨[1,2,3,15,16,17],[],[]⟩ (σ:=Int×List (List D)) (fun v=>[(17,.d (.int .i64 (t _ fun _=>v.1)))]) (fun v=>[(1,.mp false (t _ fun _=>v.2))]) J0 ?_
 cbv
 refine aE ⟨jl.length,(_,_),(dz _ _ _).2 ?_,by simp only [ht];rfl,?_⟩
 ·exact ⟨0,rfl,by simp,by simp [jL]⟩
 rintro n ⟨i,u⟩ hj
 replace hj:=(dz _ _ _).1 hj
 obtain ⟨k,rfl,q1,q6⟩:=hj
 cbv
 apply ap<;>intro h1
 ·simp [ht,ah,cu] at h1
  cbv
  refine ig ht dM (cT:=Jb.aS t) (by (simp only [ht,ah];omega)) (by (simp only [ht,ah];omega)) (fun _=>rfl) (fun _=>(by (simp only [ht,Jb.aS];rfl))) (fun x2 gX=>?_)
  simp [ht,ah] at gX
  cbv
  apply ap<;>intro h3
  ·cbv
   refine ⟨?_,?_⟩
   ·(simp only [ht];exact ⟨⟨rfl,rfl,wi q6⟩,trv⟩)
   cbv
   refine bG (_,_) (by simp only [ht];rfl) (n-1) ?_ ((dz _ _ _).2 ?_)
   ·omega
   simp only [ah]
   (exact ⟨k+1,aB (by omega),by omega,by rw [uD gX,wj,q6,ol,if_pos h3]⟩)
  cbv
  refine bG (_,_) (by simp only [ht];rfl) (n-1) ?_ ((dz _ _ _).2 ?_)
  ·omega
  simp only [ah]
  (exact ⟨k+1,aB (by omega),by omega,by rw [uD gX,wj,q6,if_neg (by simp [h3])]⟩)
 simp [ht,ah,cu] at h1
 cbv
 obtain ⟨W,hW⟩:∃W,W=jL jl:=⟨_,rfl⟩
 have hw0:jl.length≤k→jL (jl.take k)=W:=fun h=>by rw [hW,List.take_of_length_le h]
 have hWo:KT jl W:=by have:=(Ix jl (fun x hx=>(hid x hx).2) jl.length (Nat.le_refl _)).1;rw [List.take_length,←hW] at this;exact this
 obtain ⟨J4,HY⟩:∃J4:Nat→Bool×Int×List (List D)→Prop,∀m rb i u,J4 m (rb,i,u)↔(rb=false∧∃(k:Nat) (w:List ej),i=k∧k+m=pl.length∧u=w.map ej.cells∧w.map ej.bu=W.map ej.bu∧(∀x∈w,x.cnt<9223372036854775808)∧gY jl pl W=gY jl (pl.drop k) w):=⟨fun m v=>match v with|(rb,i,u)=>(rb=false∧∃(k:Nat) (w:List ej),i=k∧k+m=pl.length∧u=w.map ej.cells∧w.map ej.bu=W.map ej.bu∧(∀x∈w,x.cnt<9223372036854775808)∧gY jl pl W=gY jl (pl.drop k) w),fun _ _ _ _=>Iff.rfl⟩
 refine bA ⟨[1,2,3,33,34,35],[],[]⟩ (σ:=Bool×Int×List (List D)) (fun v=>[(2,.d (.bool (t _ fun _=>v.1))),(35,.d (.int .i64 (t _ fun _=>v.2.1)))]) (fun v=>[(1,.mp false (t _ fun _=>v.2.2))]) J4 ?_
 cbv
 refine aE ⟨pl.length,(_,_,_),(HY _ _ _ _).2 ?_,by simp only [ht];rfl,?_⟩
 ·exact ⟨rfl,0,W,rfl,by simp,by rw [q6,hw0 (by omega)],rfl,hWo.cnt,rfl⟩
 rintro m ⟨rb,i,u⟩ hj
 replace hj:=(HY _ _ _ _).1 hj
 obtain ⟨q0,k,w,rfl,q1,q6,q7,q8,q9⟩:=hj
 have HP:u.length=w.length:=by rw [q6,lgM]
 cbv
 apply ap<;>intro h5
 ·simp [ht,ah,de] at h5
  cbv
  refine ig ht hps (cT:=Place.aS t) (by (simp only [ht,ah];omega)) (by (simp only [ht,ah];omega)) (fun _=>rfl) (fun _=>rfl) (fun x6 mx6=>?_)
  simp [ht,ah] at mx6
  rw [eI mx6,gY] at q9
  cbv
  refine aD (mM ht _ _ _ _ _ _ _ _ _ _ _ ‹_› (by omega)) trv (fun r7 rG=>?_)
  simp only [ht] at rG
  rw [←rG] at q9
  cbv
  (refine Iw q6 (by simp only [ht];exact ⟨rfl,rfl,wi q6⟩) (by simp only [ht]<;>rfl) (fun w9=>?_) (fun c9 w9 w10 w11=>?_))
  ·cbv
   iterate 6 refine gI (by simp [ht]) ?_
   refine pI (by simp [ht]) ?_
   apply ap<;>intro h8
   ·simp [ht] at h8
    cbv
    refine an ?_
    (have e:gY jl pl W=none:=(by rw [q9,if_pos (by omega)]);simp only [ht,lT,←hW,e];done)
   simp [ht] at h8
  cbv
  iterate 6 refine gI (by simp [ht]) ?_
  refine pI (by simp [ht]) ?_
  apply ap<;>intro h9
  ·simp [ht] at h9
   cbv
   refine an ?_
   (have e:gY jl pl W=none:=(by rw [q9];split;rfl;rw [if_pos];rw [EO];rcases h9 with h9|h9;(exfalso;omega);(intro hh;simp [hh] at h9));simp only [ht,lT,←hW,e];done)
  simp [ht] at h9
  cbv
  (refine Iw q6 (by simp only [ht];exact ⟨rfl,rfl,wi q6⟩) (by simp only [ht]<;>rfl) (fun w9=>?_) (fun c9 w9 w10 w11=>?_))
  ·cbv
   refine ⟨?_,?_⟩
   ·(simp only [ht];exact ⟨⟨rfl,rfl,wi q6⟩,trv⟩)
   cbv
   refine bG (_,_,_) (by simp only [ht];rfl) (m-1) ?_ ((HY _ _ _ _).2 ?_)
   ·omega
   simp only [ah]
   (refine ⟨q0,k+1,eC w (x6).bu (c9-1),aB (by omega),by omega,?_,?_,?_,?_⟩)
   ·(simp_all;done)
   ·(rw [gm,if_pos w10,q7];done)
   ·(intro y hy;obtain ⟨mm,M0,em⟩:=w11;have hq8:=q8 mm M0;rcases pO hy with rfl|hy;(show c9-1<_;omega);exact q8 y hy)
   (simp_all;done)
  cbv
  refine ⟨?_,?_⟩
  ·(simp only [ht];exact ⟨⟨rfl,rfl,wi q6⟩,trv⟩)
  cbv
  refine bG (_,_,_) (by simp only [ht];rfl) (m-1) ?_ ((HY _ _ _ _).2 ?_)
  ·omega
  simp only [ah]
  (refine ⟨q0,k+1,eC w (x6).bu (c9-1),aB (by omega),by omega,?_,?_,?_,?_⟩)
  ·(obtain ⟨mm,M0,em⟩:=w11;have hq8:=q8 mm M0;rw [q6,ol,wrap64 (by omega) (by omega)];done)
  ·(rw [gm,if_pos w10,q7];done)
  ·(intro y hy;obtain ⟨mm,M0,em⟩:=w11;have hq8:=q8 mm M0;rcases pO hy with rfl|hy;(show c9-1<_;omega);exact q8 y hy)
  (rw [q9,if_neg (by omega),if_neg (by rw [EO];simp [h9.2]),w9];done)
 simp [ht,ah,de] at h5
 cbv
 refine ⟨?_,?_⟩
 ·(simp [ht];omega)
 cbv
 (refine ⟨1,w,_,rfl,rfl,by simp only [ht];exact q6,Rx q7 hWo (fun x hx=>(hid x hx).1) hjl,fun hg=>?_,fun hg=>?_⟩)
 ·cbv
  refine an ?_
  (rw [List.drop_eq_nil_of_le (by omega),gY] at q9;simp only [ht,lT,←hW,q9,hg];done)
 cbv
 refine an ?_
 (rw [List.drop_eq_nil_of_le (by omega),gY] at q9;simp only [ht,lT,←hW,q9,hg];done)
theorem Iy (ht:TT t) (a b:Int) {l:List bK} {es:List (List D)} (aC:es=l.map bK.cells) (hl:l.length<1000000000):
 FC 181 [SL es,.agg [az a,bD b]] [] (.ret (kp (t _ fun _=>HZ (⟨a,b⟩:bK) l))) []:=by
 refine cr ht Tryz.func181 (N:=19) ?_
 cbv
 have aF:es.length=l.length:=by rw [aC,lgM]
 obtain ⟨J0,dz⟩:∃J0:Nat→Int→Prop,∀n i,J0 n i↔(∃k:Nat,i=k∧k+n=l.length∧∀i<k,∀y,l[i]?=some y→(⟨a,b⟩:bK)≠y):=⟨fun n v=>match v with|i=>(∃k:Nat,i=k∧k+n=l.length∧∀i<k,∀y,l[i]?=some y→(⟨a,b⟩:bK)≠y),fun _ _=>Iff.rfl⟩
 refine bA ⟨[0,3,7,8],[],[]⟩ (σ:=Int) (fun v=>[(8,.d (.int .i64 (t _ fun _=>v)))]) (fun v=>[]) J0 ?_
 cbv
 refine aE ⟨l.length,_,(dz _ _).2 ?_,by simp only [ht];rfl,?_⟩
 ·exact ⟨0,rfl,by simp,fun i hi=>by omega⟩
 rintro n i hj
 replace hj:=(dz _ _).1 hj
 obtain ⟨k,rfl,j1,j4⟩:=hj
 cbv
 apply ap<;>intro h1
 ·simp [ht,ah,aF] at h1
  cbv
  refine bS [false,false,false,false,false,true] ?_
  cbv
  iterate 3 refine gI (by simp) ?_
  refine ig ht aC (cT:=bK.aS t) (by (simp only [ht,ah];omega)) (by (simp only [ht,ah];omega)) (fun _=>rfl) (fun _=>rfl) (fun x2 gX=>?_)
  simp [ht,ah] at gX
  cbv
  refine gI (by simp) ?_
  apply ap<;>intro h3
  ·simp [ht] at h3
   cbv
   refine an ?_
   (simp only [ht];rw [E9 gX (by rw [Ra];simp_all) j4];done)
  simp [ht] at h3
  cbv
  refine bG _ (by simp only [ht];rfl) (n-1) ?_ ((dz _ _).2 ?_)
  ·omega
  simp only [ah]
  exact ⟨k+1,aB (by omega),by omega,xA j4 gX (by rw [ne_eq,Ra];simp_all)⟩
 simp [ht,ah,aF] at h1
 cbv
 refine an ?_
 (simp only [ht];rw [Fa (by omega) j4];done)
theorem Oa (ht:TT t) (a b:Int) {l:List bK} {es:List (List D)} (aC:es=l.map bK.cells) (hl:l.length<1000000000):
 FC 134 [SL es,.agg [az a,bD b]] [] (.ret (cU (t _ fun _=>l.contains ⟨a,b⟩))) []:=by
 refine cr ht Tryz.func134 (N:=9) ?_
 cbv
 have aF:es.length=l.length:=by rw [aC,lgM]
 refine aG (Iy ht _ _ ‹_› ‹_›) trv (fun r0 cN=>?_)
 simp only [ht] at cN
 cbv
 refine an ?_
 (simp [ht,cN,BI];done)
def lq (l:List Jb) (k:Nat):Option Int:=match k with
 |0=>none
 |k+1=>(l[k]?).map (·.id)
theorem Uq {s:aW} {l:List Jb} {k:Nat} {y:Jb} (hy:0<k→l[k-1]?=some y) (j:Jb):Sx s (lq l k) j=
 (if ((((decide (j.id<1)||decide (s.next≤j.id))||(decide (0<k)&&decide (j.id≤y.id)))||!decide (dY j.x=0))||!gV s.tree j.x.path)=true then false else
  if j.runs then decide (1≤j.left)&&decide (j.left≤j.x.eZ) else decide (j.left=0)&&s.queue.contains ⟨j.id,j.x.prio⟩):=by
 unfold Sx
 cases k with
 |zero=>
  simp only [lq]
  by_cases a:j.id<1
  ·simp [a]
  by_cases b:s.next≤j.id
  ·simp [a,b]
  by_cases c:dY j.x=0
  ·cases d:gV s.tree j.x.path<;>simp [a,b,c]
  simp [a,b,c]
 |succ k=>
  have hy:=hy (by omega)
  simp only [Nat.add_sub_cancel] at hy
  simp only [lq,hy,Option.map_some]
  by_cases a:j.id<1
  ·simp [a]
  by_cases b:s.next≤j.id
  ·simp [a,b]
  by_cases e:j.id≤y.id
  ·simp [a,b,e]
  by_cases c:dY j.x=0
  ·cases d:gV s.tree j.x.path<;>simp [a,b,c,e]
  simp [a,b,c,e]
theorem W8 (ht:TT t) (rd nx ef af:Int) {nl:List Node} {pl:List Place} {tl:List aR} {jl:List Jb} {ql:List bK} {el al:List dc} {ns ps ts js qs es bH:List (List D)} (eE:ns=nl.map Node.cells) (hps:ps=pl.map Place.cells) (hts:ts=tl.map aR.cells) (dM:js=jl.map Jb.cells) (dF:qs=ql.map bK.cells) (aC:es=el.map dc.cells) (has:bH=al.map dc.cells) {z:Int} (k:Nat) (hz:z=k) (hk:k<jl.length) (ji ja jb jc jd jn jp jt jf:Int) (jq:aH) (jr:Bool) {nJ:List Term} {CM:List (List D)} (we:CM=nJ.map Term.cells) (hx:(⟨jq,⟨ja,jb,jc,jd⟩,jn,jp,jt,nJ⟩:Ask).sm) (htl:tl.length<100000) (hjl:jl.length<1000000) (Um:ql.length<1000000):
 FC 83 [.agg [az rd,az nx,SL ns,SL ps,SL ts,SL js,SL qs,az ef,SL es,az af,SL bH],bD z,.agg [az ji,ST jq,az ja,az jb,az jc,az jd,bD jn,bD jp,bD jt,SL CM,BL jr,bD jf]] [] (.ret (cU (t _ fun _=>Sx ⟨rd,nx,⟨nl,pl⟩,tl,jl,ql,⟨ef,el⟩,⟨af,al⟩⟩ (lq jl k) ⟨ji,⟨jq,⟨ja,jb,jc,jd⟩,jn,jp,jt,nJ⟩,jr,jf⟩))) []:=by
 subst hz
 obtain ⟨h1,h2,h3,h4⟩:=id hx
 simp only at h1 h2 h3 h4
 obtain ⟨y,hy⟩:∃y,0<k→jl[k-1]?=some y:=⟨jl.getD (k-1) Jb.zero,fun _=>by rw [List.getD_eq_getElem?_getD,List.getElem?_eq_getElem (by omega)];rfl⟩
 rw [Uq hy]
 refine cr ht Tryz.func83 (N:=79) ?_
 cbv
 obtain ⟨cZ,de,dg,cu,bZ,aF,cw⟩:=fc eE hps hts dM dF aC has
 have zS:CM.length=nJ.length:=by rw [we,lgM]
 refine bS [true,true,true,true,false,false,false,false,false,true,true,true,true,true,true,false,false,false,false,false,false,false,false,false,false,true,true,true,true,true,true,true,true,true,true,false,false,false,false,false,false,true,true,true] ?_
 cbv
 iterate 6 refine gI (by simp [ht]) ?_
 refine pI (by simp [ht]) ?_
 iterate 10 refine gI (by simp [ht]) ?_
 (refine Ht ht dM (cT:=Jb.aS t) (k-1) (fun g=>by simp [ht] at g ⊢;simp [g]) (fun g=>by simp [ht] at g;simp only [ht];exact ⟨pi (by omega) (by omega),by omega⟩) (fun _=>rfl) (fun _=>by simp only [ht,Jb.aS];rfl) (fun y9 my=>?_);simp [ht] at my)
 cbv
 iterate 3 refine gI (by simp [ht]) ?_
 refine gI (by simp [ht,bU];intros;simp_all) ?_
 refine pI (by simp [ht]) ?_
 iterate 2 refine gI (by simp [ht]) ?_
 refine cj (fun g0=>⟨by simp [ht] at g0 ⊢;exact g0,trv,xB ht _ _ _ _ _ _ _ _ ‹_› ‹_›⟩) rfl rfl (fun r1 cM=>?_)
 simp only [ht] at cM
 cbv
 refine gI (by simp [ht]) ?_
 refine pI (by simp [ht];omega) ?_
 iterate 6 refine gI (by simp [ht]) ?_
 refine cj (fun g2=>⟨by simp [ht] at g2 ⊢;exact g2,trv,xD ht _ ‹_› (by omega) ‹_›⟩) rfl rfl (fun r3 kO=>?_)
 simp only [ht] at kO
 cbv
 refine gI (by simp [ht]) ?_
 refine pI (by simp [ht];omega) ?_
 apply ap<;>intro h4
 ·simp [ht] at h4
  cbv
  refine an ?_
  (simp only [ht];grind)
 simp [ht] at h4
 cbv
 apply ap<;>intro h5
 ·cbv
  iterate 6 refine gI (by simp [ht]) ?_
  refine pI (by simp [ht]) ?_
  refine an ?_
  (simp only [ht];grind)
 cbv
 iterate 9 refine gI (by simp [ht]) ?_
 refine cj (fun g6=>⟨by simp [ht] at g6 ⊢;exact g6,trv,Oa ht _ _ ‹_› (by omega)⟩) rfl rfl (fun r7 rG=>?_)
 simp only [ht] at rG
 cbv
 refine pI (by simp [ht]) ?_
 refine an ?_
 (simp only [ht];grind)
theorem Ob {l:List Jb} {k:Nat} {x:Jb} (h:l[k]?=some x):ij (l.drop k)=(if x.runs then 0 else 1)+ij (l.drop (k+1)):=by
 rw [eI h]
 unfold ij
 cases hx:x.runs<;>simp [hx];omega
theorem Ry (ht:TT t) (rd nx ef af:Int) {nl:List Node} {pl:List Place} {tl:List aR} {jl:List Jb} {ql:List bK} {el al:List dc} {ns ps ts js qs es bH:List (List D)} (eE:ns=nl.map Node.cells) (hps:ps=pl.map Place.cells) (hts:ts=tl.map aR.cells) (dM:js=jl.map Jb.cells) (dF:qs=ql.map bK.cells) (aC:es=el.map dc.cells) (has:bH=al.map dc.cells) (hjl:jl.length<1000000):
 FC 84 [.agg [az rd,az nx,SL ns,SL ps,SL ts,SL js,SL qs,az ef,SL es,az af,SL bH]] [] (.ret (kp (t _ fun _=>(ij jl:Int)))) []:=by
 refine cr ht Tryz.func84 (N:=21) ?_
 cbv
 obtain ⟨cZ,de,dg,cu,bZ,aF,cw⟩:=fc eE hps hts dM dF aC has
 obtain ⟨J0,dz⟩:∃J0:Nat→Int×Int→Prop,∀n c i,J0 n (c,i)↔(∃k w:Nat,i=k∧c=w∧k+n=jl.length∧w≤k∧ij jl=w+ij (jl.drop k)):=⟨fun n v=>match v with|(c,i)=>(∃k w:Nat,i=k∧c=w∧k+n=jl.length∧w≤k∧ij jl=w+ij (jl.drop k)),fun _ _ _=>Iff.rfl⟩
 refine bA ⟨[3,8,9,10],[],[]⟩ (σ:=Int×Int) (fun v=>[(3,.d (.int .i64 (t _ fun _=>v.1))),(10,.d (.int .i64 (t _ fun _=>v.2)))]) (fun v=>[]) J0 ?_
 cbv
 refine aE ⟨jl.length,(_,_),(dz _ _ _).2 ?_,by simp only [ht];rfl,?_⟩
 ·exact ⟨0,0,rfl,rfl,by simp,by omega,by simp⟩
 rintro n ⟨c,i⟩ hj
 replace hj:=(dz _ _ _).1 hj
 obtain ⟨k,w,rfl,rfl,j1,j2,j4⟩:=hj
 cbv
 apply ap<;>intro h1
 ·simp [ht,ah,cu] at h1
  cbv
  refine ig ht dM (cT:=Jb.aS t) (by (simp only [ht,ah];omega)) (by (simp only [ht,ah];omega)) (fun _=>rfl) (fun _=>(by (simp only [ht,Jb.aS];rfl))) (fun x2 gX=>?_)
  simp [ht,ah] at gX
  rw [Ob gX] at j4
  cbv
  apply ap<;>intro h3
  ·simp [ht] at h3
   cbv
   refine bG (_,_) (by simp only [ht];rfl) (n-1) ?_ ((dz _ _ _).2 ?_)
   ·omega
   simp only [ah]
   (exact ⟨k+1,w+1,aB (by omega),aB (by omega),by omega,by omega,by rw [j4];simp [*];omega⟩)
  simp [ht] at h3
  cbv
  refine bG (_,_) (by simp only [ht];rfl) (n-1) ?_ ((dz _ _ _).2 ?_)
  ·omega
  simp only [ah]
  (exact ⟨k+1,w,aB (by omega),rfl,by omega,by omega,by rw [j4];simp [*]⟩)
 simp [ht,ah,cu] at h1
 cbv
 refine an ?_
 (rw [List.drop_eq_nil_of_le (by omega)] at j4;simp only [ht];rw [j4];simp [ij];done)
theorem Rz (ht:TT t) (rd nx ef af:Int) {nl:List Node} {pl:List Place} {tl:List aR} {jl:List Jb} {ql:List bK} {el al:List dc} {ns ps ts js qs es bH:List (List D)} (eE:ns=nl.map Node.cells) (hps:ps=pl.map Place.cells) (hts:ts=tl.map aR.cells) (dM:js=jl.map Jb.cells) (dF:qs=ql.map bK.cells) (aC:es=el.map dc.cells) (has:bH=al.map dc.cells) (p:aH) (a b c d e f g h:Int) (hjl:jl.length<1000000) (nI:∀x∈jl,x.x.path.length<1000000000000∧x.x.gB.u'):
 FC 88 [.agg [az rd,az nx,SL ns,SL ps,SL ts,SL js,SL qs,az ef,SL es,az af,SL bH],.agg [ST p,az a,az b,az c,az d,az e,az f,az g,az h]] [] (.ret (cU (t _ fun _=>p8 ⟨rd,nx,⟨nl,pl⟩,tl,jl,ql,⟨ef,el⟩,⟨af,al⟩⟩ ⟨p,⟨a,b,c,d⟩,⟨e,f,g,h⟩⟩))) []:=by
 refine cr ht Tryz.func88 (N:=61) ?_
 cbv
 obtain ⟨cZ,de,dg,cu,bZ,aF,cw⟩:=fc eE hps hts dM dF aC has
 obtain ⟨J0,dz⟩:∃J0:Nat→Int×Int×Int×Int×Int→Prop,∀n i a' b' c' d',J0 n (i,a',b',c',d')↔(∃k:Nat,i=k∧k+n=jl.length∧nk p jl bE.zero=nk p (jl.drop k) ⟨a',b',c',d'⟩):=⟨fun n v=>match v with|(i,a',b',c',d')=>(∃k:Nat,i=k∧k+n=jl.length∧nk p jl bE.zero=nk p (jl.drop k) ⟨a',b',c',d'⟩),fun _ _ _ _ _ _=>Iff.rfl⟩
 refine bA ⟨[3,5,14,15,16],[],[]⟩ (σ:=Int×Int×Int×Int×Int) (fun v=>[(16,.d (.int .i64 (t _ fun _=>v.1)))]) (fun v=>[(1,.var [.d (.int .u64 (t _ fun _=>v.2.1)),.d (.int .u64 (t _ fun _=>v.2.2.1)),.d (.int .u64 (t _ fun _=>v.2.2.2.1)),.d (.int .u64 (t _ fun _=>v.2.2.2.2))])]) J0 ?_
 cbv
 refine aE ⟨jl.length,(_,_,_,_,_),(dz _ _ _ _ _ _).2 ?_,by simp only [ht];rfl,?_⟩
 ·exact ⟨0,rfl,by simp,rfl⟩
 rintro n ⟨i,a',b',c',d'⟩ hj
 replace hj:=(dz _ _ _ _ _ _).1 hj
 obtain ⟨k,rfl,j1,j4⟩:=hj
 cbv
 apply ap<;>intro h1
 ·simp [ht,ah,cu] at h1
  cbv
  refine ig ht dM (cT:=Jb.aS t) (by (simp only [ht,ah];omega)) (by (simp only [ht,ah];omega)) (fun _=>rfl) (fun _=>(by (simp only [ht,Jb.aS];rfl))) (fun x2 gX=>?_)
  simp [ht,ah] at gX
  rw [eI gX,nk] at j4
  have sx2:=nI _ (List.mem_of_getElem? gX)
  cbv
  iterate 9 refine gI (by simp [ht]) ?_
  refine cj (fun g3=>⟨by simp [ht] at g3 ⊢;exact g3,trv,BJ ht _ _ (by (simp [*];done))⟩) rfl rfl (fun r4 iY=>?_)
  simp only [ht] at iY
  rw [←iY] at j4
  cbv
  refine gI (by simp [ht]) ?_
  refine gI (by simp [ht,bU];intros;simp_all) ?_
  refine pI (by simp [ht]) ?_
  apply ap<;>intro h5
  ·simp [ht] at h5
   cbv
   refine bG (_,_,_,_,_) (by simp only [ht];rfl) (n-1) ?_ ((dz _ _ _ _ _ _).2 ?_)
   ·omega
   simp only [ah]
   (refine ⟨k+1,aB (by omega),by omega,?_⟩;rw [j4];grind)
  simp [ht] at h5
  cbv
  (obtain ⟨⟨⟨v1,v2,v3,v4⟩,vk⟩,hv⟩:∃r,r=c8 x2.x:=⟨_,rfl⟩;refine aG (ou ht x2.x.path x2.x.gB.a x2.x.gB.b x2.x.gB.c x2.x.gB.d x2.x.count x2.x.prio x2.x.eZ (sl:=x2.x.bY) _ (nI _ (List.mem_of_getElem? gX)).2) trv (fun r9 gD=>?_);simp only [ht] at gD;replace gD:=gD.trans hv.symm;subst gD;rw [←hv] at j4;simp only at j4)
  cbv
  refine aG (Ml ht _ _ _ _ _ _ _ _) trv (fun r6 mL=>?_)
  simp only [ht] at mL
  rw [←mL] at j4
  cbv
  iterate 2 refine gI (by simp [ht]) ?_
  refine pI (by simp [ht]) ?_
  apply ap<;>intro h7
  ·simp [ht] at h7
   cbv
   refine an ?_
   (have e:nk p jl bE.zero=none:=(by rw [j4];grind);simp [ht,p8,e];done)
  simp [ht] at h7
  cbv
  refine bG (_,_,_,_,_) (by simp only [ht];rfl) (n-1) ?_ ((dz _ _ _ _ _ _).2 ?_)
  ·omega
  simp only [ah]
  (refine ⟨k+1,aB (by omega),by omega,?_⟩;show _=nk p (jl.drop (k+1)) (r6.1);rw [j4];grind)
 simp [ht,ah,cu] at h1
 cbv
 refine an ?_
 (rw [List.drop_eq_nil_of_le (by omega),nk] at j4;simp only [ht,p8,j4,EO,Bool.decide_and];simp;done)
theorem Oc (ht:TT t) (p:aH) (a b c d e f g h:Int) {l:List aR} {es:List (List D)} (aC:es=l.map aR.cells) (hl:l.length<100000) (nI:∀x∈l,x.path.length<1000000000000):
 FC 129 [SL es,.agg [ST p,az a,az b,az c,az d,az e,az f,az g,az h]] [] (.ret (cU (t _ fun _=>lg l ⟨p,⟨a,b,c,d⟩,⟨e,f,g,h⟩⟩))) []:=by
 refine cr ht Tryz.func129 (N:=49) ?_
 cbv
 have aF:es.length=l.length:=by rw [aC,lgM]
 obtain ⟨J0,dz⟩:∃J0:Nat→Int×Int×Int×Int×Int→Prop,∀n i s1 s2 s3 s4,J0 n (i,s1,s2,s3,s4)↔(∃k:Nat,i=k∧k+n=l.length∧p7 p l bE.zero=p7 p (l.drop k) ⟨s1,s2,s3,s4⟩):=⟨fun n v=>match v with|(i,s1,s2,s3,s4)=>(∃k:Nat,i=k∧k+n=l.length∧p7 p l bE.zero=p7 p (l.drop k) ⟨s1,s2,s3,s4⟩),fun _ _ _ _ _ _=>Iff.rfl⟩
 refine bA ⟨[3,5,10,11,12],[],[]⟩ (σ:=Int×Int×Int×Int×Int) (fun v=>[(12,.d (.int .i64 (t _ fun _=>v.1)))]) (fun v=>[(1,.var [.d (.int .u64 (t _ fun _=>v.2.1)),.d (.int .u64 (t _ fun _=>v.2.2.1)),.d (.int .u64 (t _ fun _=>v.2.2.2.1)),.d (.int .u64 (t _ fun _=>v.2.2.2.2))])]) J0 ?_
 cbv
 refine aE ⟨l.length,(_,_,_,_,_),(dz _ _ _ _ _ _).2 ?_,by simp only [ht];rfl,?_⟩
 ·exact ⟨0,rfl,by simp,rfl⟩
 rintro n ⟨i,s1,s2,s3,s4⟩ hj
 replace hj:=(dz _ _ _ _ _ _).1 hj
 obtain ⟨k,rfl,j1,j4⟩:=hj
 cbv
 apply ap<;>intro h1
 ·simp [ht,ah,aF] at h1
  cbv
  refine ig ht aC (cT:=aR.aS t) (by (simp only [ht,ah];omega)) (by (simp only [ht,ah];omega)) (fun _=>rfl) (fun _=>rfl) (fun x2 gX=>?_)
  simp [ht,ah] at gX
  obtain ⟨pp,I2⟩:∃pp,pp=parent (x2).path:=⟨_,rfl⟩
  obtain ⟨⟨⟨w1,w2,w3,w4⟩,wk⟩,hW⟩:∃r,r=iV ⟨s1,s2,s3,s4⟩ (x2).used:=⟨_,rfl⟩
  rw [eI gX,p7,←I2,←hW] at j4
  have sx2:=nI _ (List.mem_of_getElem? gX)
  cbv
  refine bS [true,true,true,true,false,false,false,false,false,true,true] ?_
  cbv
  iterate 2 refine gI (by simp [ht]) ?_
  refine cj (fun g3=>⟨by simp [ht] at g3 ⊢;exact g3,trv,sP ht _ ‹_›⟩) rfl rfl (fun r4 iY=>?_)
  simp only [ht] at iY
  rw [←I2] at iY
  subst r4
  cbv
  iterate 3 refine gI (by simp [ht]) ?_
  refine pI (by simp [ht]) ?_
  apply ap<;>intro h5
  ·simp [ht] at h5
   cbv
   refine bG (_,_,_,_,_) (by simp only [ht];rfl) (n-1) ?_ ((dz _ _ _ _ _ _).2 ?_)
   ·omega
   simp only [ah]
   (refine ⟨k+1,aB (by omega),by omega,?_⟩;rw [j4];clear j4 dz;rcases h5 with h5|h5<;>simp [h5];done)
  simp [ht] at h5
  cbv
  refine aG (Ml ht _ _ _ _ _ _ _ _) trv (fun r6 mL=>?_)
  simp only [ht] at mL
  replace mL:=mL.trans (show _=((⟨w1,w2,w3,w4⟩,wk):bE×Bool) from hW.symm)
  subst r6
  cbv
  apply ap<;>intro h7
  ·simp [ht] at h7
   cbv
   refine an ?_
   (simp only [ht,lg];rw [j4];simp_all;done)
  simp [ht] at h7
  cbv
  refine bG (_,_,_,_,_) (by simp only [ht];rfl) (n-1) ?_ ((dz _ _ _ _ _ _).2 ?_)
  ·omega
  simp only [ah]
  (refine ⟨k+1,aB (by omega),by omega,?_⟩;simp only at j4;rw [j4];simp_all;done)
 simp [ht,ah,aF] at h1
 cbv
 refine aG (oq ht _ _ _ _ _ _ _ _) trv (fun r8 Vz=>?_)
 simp only [ht] at Vz
 cbv
 iterate 3 refine gI (by simp) ?_
 refine cj (fun g9=>⟨by simp at g9 ⊢;exact g9,trv,oq ht _ _ _ _ _ _ _ _⟩) rfl rfl (fun r10 WK=>?_)
 simp only [ht] at WK
 cbv
 refine pI (by simp) ?_
 refine an ?_
 (rw [List.drop_eq_nil_of_le (by omega),p7] at j4;simp [lg, *];done)
theorem RA (ht:TT t) (x:aR) {l:List aR} {es:List (List D)} (aC:es=l.map aR.cells) (hl:l.length<100000) (nI:∀x∈l,x.path.length<1000000000000) {r:Bool} (hr:r=!lg l x):
 FC 128 [.agg [ST x.path,az x.dD.a,az x.dD.b,az x.dD.c,az x.dD.d,az x.used.a,az x.used.b,az x.used.c,az x.used.d],.ptr 0 0] [.var [SL es]] (.ret (BL r)) [.var [SL es]]:=by
 obtain ⟨nm,⟨a,b,c,d⟩,⟨e,g,u,v⟩⟩:=x
 refine jG ht (bz:=[.var [SL es]]) Tryz.func128 rfl rfl (N:=8) rfl rfl (n:=1) rfl rfl ?_
 cbv
 have aF:es.length=l.length:=by rw [aC,lgM]
 refine aG (Oc ht _ _ _ _ _ _ _ _ _ ‹_› ‹_› ‹_›) trv (fun r0 cN=>?_)
 simp only [ht] at cN
 cbv
 refine an ?_
 (simp [*];done)
theorem Od (ht:TT t) (ts:List (List D)) {l:List (aR)} {es:List (List D)} (aC:es=l.map aR.cells) (f:Nat) (p:aR→Bool) (hl:l.length<9223372036854775807)
 (hf:∀x∈l,FC f [.agg [ST x.path,az x.dD.a,az x.dD.b,az x.dD.c,az x.dD.d,az x.used.a,az x.used.b,az x.used.c,az x.used.d],.ptr 0 0] [.var [SL ts]] (.ret (BL (p x))) [.var [SL ts]]) {r:Int} (hr:r=idxOf p l):FC 135 [SL es,.fn f [.ptr 0 0]] [.var [SL ts]] (.ret (bD r)) [.var [SL ts]]:=by
 have hel:es.length=l.length:=by rw [aC,lgM]
 refine jG ht (bz:=[.var [SL ts]]) Tryz.func135 rfl rfl (N:=19) rfl rfl (n:=1) rfl rfl ?_
 cbv
 refine bA ⟨[0,1,7,8],[],[]⟩ (σ:=Nat) (fun k=>[(8,bD (t _ fun _=>(k:Int)))]) (fun _=>[]) (tF p l) ?_
 cbv
 refine aE ⟨l.length,0,.nil,by simp only [ht];rfl,fun n k hj=>?_⟩
 cbv
 apply ap<;>intro h
 ·simp only [ht,ah,decide_eq_true_eq] at h
  have hk:k<es.length:=by omega
  obtain ⟨x,hx,mQ,px,hpx⟩:=hj.get (by omega)
  have gJ:=hf x mQ
  rw [←hpx] at gJ
  obtain ⟨nm,⟨a,b,c,d⟩,⟨e,g,u,v⟩⟩:=x
  cbv
  refine ix [.str nm,.int .u64 a,.int .u64 b,.int .u64 c,.int .u64 d,.int .u64 e,.int .u64 g,.int .u64 u,.int .u64 v] ?_ ?_ ?_
  ·simp only [ht,ah];exact pK aC hk fun _=>rfl
  ·simp [ht,ah,aC,hx]
  cbv
  refine dx trv gJ ?_
  cbv
  apply ap<;>intro hb
  ·cbv
   refine an ?_
   simp only [ht,ah,hr,hj.hit hx (hpx▸hb)]
  cbv
  refine aE ⟨n-1,k+1,⟨hj.lt hx,hj.next hx (hpx▸hb)⟩,?_⟩
  simp only [ht,ah,aB (show k<9223372036854775807 by omega)];rfl
 simp only [ht,ah,decide_eq_false_iff_not] at h
 have hk:l.length≤k:=by omega
 clear h
 cbv
 refine an ?_
 rw [hr,hj.none hk]
theorem Oe (ht:TT t) (ts:List (List D)) {l:List (aR)} {es:List (List D)} (aC:es=l.map aR.cells) (f:Nat) (p:aR→Bool) (hl:l.length<9223372036854775807)
 (hf:∀x∈l,FC f [.agg [ST x.path,az x.dD.a,az x.dD.b,az x.dD.c,az x.dD.d,az x.used.a,az x.used.b,az x.used.c,az x.used.d],.ptr 0 0] [.var [SL ts]] (.ret (BL (p x))) [.var [SL ts]]) {r:Bool} (hr:r=l.any p):FC 86 [SL es,.fn f [.ptr 0 0]] [.var [SL ts]] (.ret (BL r)) [.var [SL ts]]:=by
 obtain ⟨k,hk⟩:∃k,k=idxOf p l:=⟨_,rfl⟩
 refine jG ht (bz:=[.var [SL ts]]) Tryz.func86 rfl rfl (N:=9) rfl rfl (n:=1) rfl rfl ?_
 cbv
 refine dx trv (Od ht ts aC f p hl hf hk) ?_
 cbv
 refine an ?_
 simp only [ht,hr,fh,hk]
theorem Of (ht:TT t) {l:List aR} {es:List (List D)} (aC:es=l.map aR.cells) (hl:l.length<100000) (nI:∀x∈l,x.path.length<1000000000000) {r:Bool} (hr:r=l.any (fun e=>!lg l e)):
 FC 86 [SL es,.fn 128 [.ptr 0 0]] [.var [SL es]] (.ret (BL r)) [.var [SL es]]:=
 Oe ht es aC 128 (fun e=>!lg l e) (by omega) (fun x _=>RA ht x aC hl nI rfl) hr
def oC (l:List aR) (k:Nat):Option aH:=match k with
 |0=>none
 |k+1=>(l[k]?).map (·.path)
def Og (all:List aR) (q:aH) (e:aR):Bool:=!sle e.path q&&named e.path&&!decide (bP all (parent e.path)<0)
theorem Iz {all l:List aR} {k:Nat} {x:aR} (hx:all[k]?=some x):eY all (oC all k) (x::l)=((decide (k=0)||match all[k-1]? with|none=>true|some y=>Og all y.path x)&&eY all (oC all (k+1)) l):=by
 cases k with
 |zero=>simp [oC,eY,hx]
 |succ k=>
  have hk:k<all.length:=by have:=(List.getElem?_eq_some_iff.1 hx).1;omega
  simp only [oC,hx,List.getElem?_eq_getElem hk,Option.map_some,eY,Og]
  simp [List.getElem?_eq_getElem hk]
theorem Oh {l:List aR} (h:l.length<1∨16<l.length∨∃x,l[0]?=some x∧x.path≠[]):ku l=false:=by
 unfold ku
 rcases h with h|h|⟨x,h,h2⟩
 ·rw [if_pos h]
 ·rw [if_neg (by omega),if_pos h]
 by_cases a:l.length<1
 ·rw [if_pos a]
 by_cases b:16<l.length
 ·rw [if_neg a,if_pos b]
 rw [if_neg a,if_neg b,if_pos (by simpa [List.getD_eq_getElem?_getD,h] using h2)]
theorem KV {l:List aR} {x0:aR} (hx0:0<l.length→l[0]?=some x0) (h0:((l.length:Int)<1∨16<(l.length:Int))∨¬x0.path=[]):ku l=false:=by
 refine Oh ?_
 by_cases a:l.length<1
 ·exact .inl a
 rcases h0 with (h|h)|h
 ·omega
 ·exact .inr (.inl (by omega))
 exact .inr (.inr ⟨x0,hx0 (by omega),h⟩)
theorem ze {l:List aR} {x0:aR} (hx0:0<l.length→l[0]?=some x0) (h0:(1≤(l.length:Int)∧(l.length:Int)≤16)∧x0.path=[]):ku l=(eY l none l&&!(l.any fun e=>!lg l e)):=by
 unfold ku
 rw [if_neg (by omega),if_neg (by omega),if_neg (by have:=hx0 (by omega);simp [List.getD_eq_getElem?_getD,this,h0.2])]
theorem IA {l:List aR} {x0 x y:aR} {k:Nat} {r5 rest:Bool} {r7:aH} {r9:Int} (hx0:0<l.length→l[0]?=some x0) (h0:(1≤(l.length:Int)∧(l.length:Int)≤16)∧x0.path=[])
 (j4:eY l none l=((decide (k=0)||match l[k-1]? with|none=>true|some y=>Og l y.path x)&&rest)) (my:0<k→l[k-1]?=some y) (e5:r5=named x.path) (e7:r7=parent x.path) (e9:r9=bP l r7)
 (h:0<k∧(((Op.bytesLess x.path y.path=true∨x.path=y.path)∨r5=false)∨r9<0)):ku l=false:=by
 subst e7 e5 e9
 rw [ze hx0 h0,j4,my h.1]
 have k0:¬k=0:=by omega
 rcases h.2 with ((h1|h1)|h1)|h1<;>simp [k0,Og,sle,h1]
theorem Oi {l:List aR} {x y:aR} {k:Nat} {r5 rest:Bool} {r7:aH} {r9:Int}
 (my:0<k→l[k-1]?=some y) (e5:r5=named x.path) (e7:r7=parent x.path) (e9:r9=bP l r7)
 (h:0<k→((Op.bytesLess x.path y.path=false∧¬x.path=y.path)∧r5=true)∧0≤r9):((decide (k=0)||match l[k-1]? with|none=>true|some y=>Og l y.path x)&&rest)=rest:=by
 subst e7 e5 e9
 by_cases k0:k=0
 ·simp [k0]
 have h:=h (by omega)
 rw [my (by omega)]
 have:=h.2
 simp [k0,Og,sle,h.1.1.1,h.1.1.2,h.1.2];omega
theorem Oj (ht:TT t) {l:List aR} {es:List (List D)} (aC:es=l.map aR.cells) (hl:l.length<100000) (nI:∀x∈l,x.path.length<1000000000000):
 FC 81 [SL es] [] (.ret (cU (t _ fun _=>ku l))) []:=by
 obtain ⟨x0,hx0⟩:=elemAt l 0
 refine cr ht Tryz.func81 (N:=59) ?_
 cbv
 have aF:es.length=l.length:=by rw [aC,lgM]
 iterate 3 refine gI (by simp [ht]) ?_
 refine pI (by simp [ht]) ?_
 refine gI (by simp [ht]) ?_
 (refine Q8 ht aC (cT:=aR.aS t) 0 x0 (fun g=>by simp [ht,ah] at g;exact ⟨rfl,hx0 (by omega)⟩) (fun _=>rfl) (fun _=>rfl) (fun g=>by exact ⟨g,trv⟩) ?_)
 cbv
 iterate 3 refine gI (by simp [ht]) ?_
 refine pI (by simp [ht]) ?_
 apply ap<;>intro h0
 ·simp [ht,ah,aF] at h0
  cbv
  refine an ?_
  (simp only [ht];rw [KV hx0 h0])
 simp [ht,ah,aF] at h0
 cbv
 obtain ⟨J1,mR⟩:∃J1:Nat→Int→Prop,∀n i,J1 n i↔(∃k:Nat,i=k∧k+n=l.length∧eY l none l=eY l (oC l k) (l.drop k)):=⟨fun n v=>match v with|i=>(∃k:Nat,i=k∧k+n=l.length∧eY l none l=eY l (oC l k) (l.drop k)),fun _ _=>Iff.rfl⟩
 refine bA ⟨[1,20,21,22],[],[]⟩ (σ:=Int) (fun v=>[(22,.d (.int .i64 (t _ fun _=>v)))]) (fun v=>[]) J1 ?_
 cbv
 refine aE ⟨l.length,_,(mR _ _).2 ?_,by simp only [ht];rfl,?_⟩
 ·exact ⟨0,rfl,by simp,rfl⟩
 rintro n i hj
 replace hj:=(mR _ _).1 hj
 obtain ⟨k,rfl,j1,j4⟩:=hj
 cbv
 apply ap<;>intro h2
 ·simp [ht,ah,aF] at h2
  cbv
  refine ig ht aC (cT:=aR.aS t) (by (simp only [ht,ah];omega)) (by (simp only [ht,ah];omega)) (fun _=>rfl) (fun _=>rfl) (fun x3 mx3=>?_)
  simp [ht,ah] at mx3
  rw [eI mx3,Iz mx3] at j4
  have sx3:=nI _ (List.mem_of_getElem? mx3)
  cbv
  refine bS [true,true,true,false,false,false,false,false,false,false,false,true,true,true,true,true,true,true,true,false,false,false,false,true,true,true,true] ?_
  cbv
  iterate 5 refine gI (by simp [ht]) ?_
  (refine Ht ht aC (cT:=aR.aS t) (k-1) (fun g=>by simp [ht,ah] at g ⊢;simp [g]) (fun g=>by simp [ht,ah] at g;simp only [ht,ah];exact ⟨pi (by omega) (by omega),by omega⟩) (fun _=>rfl) (fun _=>rfl) (fun y my=>?_);simp [ht,ah] at my)
  cbv
  iterate 6 refine gI (by simp [ht]) ?_
  refine cj (fun g4=>⟨by simp [ht] at g4 ⊢;exact g4,trv,vZ ht _ ‹_›⟩) rfl rfl (fun r5 sO=>?_)
  simp only [ht] at sO
  cbv
  refine gI (by simp [ht]) ?_
  refine gI (by simp [ht,bU];intros;simp_all) ?_
  iterate 4 refine gI (by simp [ht]) ?_
  refine cj (fun g6=>⟨by simp [ht] at g6 ⊢;exact g6,trv,sP ht _ ‹_›⟩) rfl rfl (fun r7 rG=>?_)
  simp only [ht] at rG
  cbv
  refine cj (fun g8=>⟨by simp [ht] at g8 ⊢;exact g8,trv,kD ht _ ‹_› (by omega)⟩) rfl rfl (fun r9 gD=>?_)
  simp only [ht] at gD
  cbv
  refine gI (by simp [ht]) ?_
  refine gI (by simp [ht,bU];intros;simp_all) ?_
  refine pI (by simp [ht]) ?_
  apply ap<;>intro h10
  ·simp [ht,ah] at h10
   cbv
   refine an ?_
   (simp only [ht];rw [IA hx0 h0 j4 my sO rG gD h10])
  simp [ht,ah] at h10
  cbv
  refine bG _ (by simp only [ht];rfl) (n-1) ?_ ((mR _ _).2 ?_)
  ·omega
  simp only [ah]
  exact ⟨k+1,aB (by omega),by omega,j4.trans (Oi my sO rG gD h10)⟩
 simp [ht,ah,aF] at h2
 cbv
 (obtain ⟨r9,gD⟩:∃r,r=l.any (fun e=>!lg l e):=⟨_,rfl⟩;refine dJ [0] trv rfl rfl (Of ht aC (by omega) nI gD) (cA ?_))
 cbv
 refine an ?_
 (rw [List.drop_eq_nil_of_le (by omega),eY] at j4;simp only [ht,ze hx0 h0,j4,Bool.true_and,←gD];done)
theorem Ok (ht:TT t) (rd nx ef af:Int) (ns ps ts js qs es' bH:List (List D)) {l:List (aR)} {es:List (List D)} (aC:es=l.map aR.cells) (f:Nat) (p:aR→Bool) (hl:l.length<9223372036854775807)
 (hf:∀x∈l,FC f [.agg [ST x.path,az x.dD.a,az x.dD.b,az x.dD.c,az x.dD.d,az x.used.a,az x.used.b,az x.used.c,az x.used.d],.ptr 0 0] [.var [az rd,az nx,SL ns,SL ps,SL ts,SL js,SL qs,az ef,SL es',az af,SL bH]] (.ret (BL (p x))) [.var [az rd,az nx,SL ns,SL ps,SL ts,SL js,SL qs,az ef,SL es',az af,SL bH]]) {r:Int} (hr:r=idxOf p l):FC 135 [SL es,.fn f [.ptr 0 0]] [.var [az rd,az nx,SL ns,SL ps,SL ts,SL js,SL qs,az ef,SL es',az af,SL bH]] (.ret (bD r)) [.var [az rd,az nx,SL ns,SL ps,SL ts,SL js,SL qs,az ef,SL es',az af,SL bH]]:=by
 have hel:es.length=l.length:=by rw [aC,lgM]
 refine jG ht (bz:=[.var [az rd,az nx,SL ns,SL ps,SL ts,SL js,SL qs,az ef,SL es',az af,SL bH]]) Tryz.func135 rfl rfl (N:=19) rfl rfl (n:=1) rfl rfl ?_
 cbv
 refine bA ⟨[0,1,7,8],[],[]⟩ (σ:=Nat) (fun k=>[(8,bD (t _ fun _=>(k:Int)))]) (fun _=>[]) (tF p l) ?_
 cbv
 refine aE ⟨l.length,0,.nil,by simp only [ht];rfl,fun n k hj=>?_⟩
 cbv
 apply ap<;>intro h
 ·simp only [ht,ah,decide_eq_true_eq] at h
  have hk:k<es.length:=by omega
  obtain ⟨x,hx,mQ,px,hpx⟩:=hj.get (by omega)
  have gJ:=hf x mQ
  rw [←hpx] at gJ
  obtain ⟨nm,⟨a,b,c,d⟩,⟨e,g,u,v⟩⟩:=x
  cbv
  refine ix [.str nm,.int .u64 a,.int .u64 b,.int .u64 c,.int .u64 d,.int .u64 e,.int .u64 g,.int .u64 u,.int .u64 v] ?_ ?_ ?_
  ·simp only [ht,ah];exact pK aC hk fun _=>rfl
  ·simp [ht,ah,aC,hx]
  cbv
  refine dx trv gJ ?_
  cbv
  apply ap<;>intro hb
  ·cbv
   refine an ?_
   simp only [ht,ah,hr,hj.hit hx (hpx▸hb)]
  cbv
  refine aE ⟨n-1,k+1,⟨hj.lt hx,hj.next hx (hpx▸hb)⟩,?_⟩
  simp only [ht,ah,aB (show k<9223372036854775807 by omega)];rfl
 simp only [ht,ah,decide_eq_false_iff_not] at h
 have hk:l.length≤k:=by omega
 clear h
 cbv
 refine an ?_
 rw [hr,hj.none hk]
theorem Ol (ht:TT t) (rd nx ef af:Int) (ns ps ts js qs es' bH:List (List D)) {l:List (aR)} {es:List (List D)} (aC:es=l.map aR.cells) (f:Nat) (p:aR→Bool) (hl:l.length<9223372036854775807)
 (hf:∀x∈l,FC f [.agg [ST x.path,az x.dD.a,az x.dD.b,az x.dD.c,az x.dD.d,az x.used.a,az x.used.b,az x.used.c,az x.used.d],.ptr 0 0] [.var [az rd,az nx,SL ns,SL ps,SL ts,SL js,SL qs,az ef,SL es',az af,SL bH]] (.ret (BL (p x))) [.var [az rd,az nx,SL ns,SL ps,SL ts,SL js,SL qs,az ef,SL es',az af,SL bH]]) {r:Bool} (hr:r=l.any p):FC 86 [SL es,.fn f [.ptr 0 0]] [.var [az rd,az nx,SL ns,SL ps,SL ts,SL js,SL qs,az ef,SL es',az af,SL bH]] (.ret (BL r)) [.var [az rd,az nx,SL ns,SL ps,SL ts,SL js,SL qs,az ef,SL es',az af,SL bH]]:=by
 obtain ⟨k,hk⟩:∃k,k=idxOf p l:=⟨_,rfl⟩
 refine jG ht (bz:=[.var [az rd,az nx,SL ns,SL ps,SL ts,SL js,SL qs,az ef,SL es',az af,SL bH]]) Tryz.func86 rfl rfl (N:=9) rfl rfl (n:=1) rfl rfl ?_
 cbv
 refine dx trv (Ok ht rd nx ef af ns ps ts js qs es' bH aC f p hl hf hk) ?_
 cbv
 refine an ?_
 simp only [ht,hr,fh,hk]
theorem KW (ht:TT t) (rd nx ef af:Int) {nl:List Node} {pl:List Place} {tl:List aR} {jl:List Jb} {ql:List bK} {el al:List dc} {ns ps ts js qs es bH:List (List D)} (eE:ns=nl.map Node.cells) (hps:ps=pl.map Place.cells) (hts:ts=tl.map aR.cells) (dM:js=jl.map Jb.cells) (dF:qs=ql.map bK.cells) (aC:es=el.map dc.cells) (has:bH=al.map dc.cells) (p:aH) (a b c d e f g h:Int) (hjl:jl.length<1000000) (nI:∀x∈jl,x.x.path.length<1000000000000∧x.x.gB.u') {r:Bool} (hr:r=!p8 ⟨rd,nx,⟨nl,pl⟩,tl,jl,ql,⟨ef,el⟩,⟨af,al⟩⟩ ⟨p,⟨a,b,c,d⟩,⟨e,f,g,h⟩⟩):
 FC 87 [.agg [ST p,az a,az b,az c,az d,az e,az f,az g,az h],.ptr 0 0] [.var [az rd,az nx,SL ns,SL ps,SL ts,SL js,SL qs,az ef,SL es,az af,SL bH]] (.ret (BL r)) [.var [az rd,az nx,SL ns,SL ps,SL ts,SL js,SL qs,az ef,SL es,az af,SL bH]]:=by
 refine jG ht (bz:=[.var [az rd,az nx,SL ns,SL ps,SL ts,SL js,SL qs,az ef,SL es,az af,SL bH]]) Tryz.func87 rfl rfl (N:=8) rfl rfl (n:=1) rfl rfl ?_
 cbv
 obtain ⟨cZ,de,dg,cu,bZ,aF,cw⟩:=fc eE hps hts dM dF aC has
 refine aG (Rz ht _ _ _ _ ‹_› ‹_› ‹_› ‹_› ‹_› ‹_› ‹_› _ _ _ _ _ _ _ _ _ ‹_› ‹_›) trv (fun r0 cN=>?_)
 simp only [ht] at cN
 cbv
 refine an ?_
 (simp [*];done)
theorem Om (ht:TT t) (rd nx ef af:Int) {nl:List Node} {pl:List Place} {tl:List aR} {jl:List Jb} {ql:List bK} {el al:List dc} {ns ps ts js qs es bH:List (List D)} (eE:ns=nl.map Node.cells) (hps:ps=pl.map Place.cells) (hts:ts=tl.map aR.cells) (dM:js=jl.map Jb.cells) (dF:qs=ql.map bK.cells) (aC:es=el.map dc.cells) (has:bH=al.map dc.cells) (htl:tl.length<100000) (hjl:jl.length<1000000) (nI:∀x∈jl,x.x.path.length<1000000000000∧x.x.gB.u') {r:Bool} (hr:r=tl.any fun e=>!p8 ⟨rd,nx,⟨nl,pl⟩,tl,jl,ql,⟨ef,el⟩,⟨af,al⟩⟩ e):
 FC 86 [SL ts,.fn 87 [.ptr 0 0]] [.var [az rd,az nx,SL ns,SL ps,SL ts,SL js,SL qs,az ef,SL es,az af,SL bH]] (.ret (BL r)) [.var [az rd,az nx,SL ns,SL ps,SL ts,SL js,SL qs,az ef,SL es,az af,SL bH]]:=
 Ol ht rd nx ef af ns ps ts js qs es bH hts 87 (fun e=>!p8 ⟨rd,nx,⟨nl,pl⟩,tl,jl,ql,⟨ef,el⟩,⟨af,al⟩⟩ e) (by omega) (fun x _=>KW ht rd nx ef af eE hps hts dM dF aC has x.path x.dD.a x.dD.b x.dD.c x.dD.d x.used.a x.used.b x.used.c x.used.d hjl nI rfl) hr
structure aW.sm (s:aW):Prop where
 nodes:s.aY.nodes.length<1000000∧∀x∈s.aY.nodes,x.sm
 places:s.aY.places.length<1000000
 tree:s.tree.length<100000∧∀x∈s.tree,x.path.length<1000000000000
 av:s.av.length<1000000∧∀x∈s.av,x.x.sm∧(0≤x.id∧x.id<18446744073709551616)∧x.x.count<9223372036854775808
 queue:s.queue.length<1000000
 notes:s.ev.l.length<1000000∧s.au.l.length<1000000
theorem KX {s:aW} {k:Nat} {x:Jb} (hx:s.av[k]?=some x):mH s (lq s.av k) (s.av.drop k)=(Sx s (lq s.av k) x&&mH s (lq s.av (k+1)) (s.av.drop (k+1))):=by
 rw [eI hx,mH]
 have:lq s.av (k+1)=some x.id:=by simp [lq,hx]
 rw [this]
theorem W9 {s:aW} (h:((((ph s.aY=false∨ku s.tree=false)∨nE s.queue=false)∨(32:Int)<(s.av.length:Int))∨s.next<1)∨(32:Int)<max (s.ev.l.length:Int) (s.au.l.length:Int)):kL s=false:=by
 unfold kL
 rcases h with ((((h|h)|h)|h)|h)|h
 ·rw [h];rfl
 ·rw [h];split<;>rfl
 ·rw [h];split;rfl;split<;>rfl
 ·rw [if_pos (show 32<s.av.length by omega)];split;rfl;split;rfl;split<;>rfl
 ·rw [if_pos h];split;rfl;split;rfl;split;rfl;split<;>rfl
 rw [if_pos (show 32<max s.ev.l.length s.au.l.length by omega)];split;rfl;split;rfl;split;rfl;split;rfl;split<;>rfl
theorem Xa {s:aW} (h:mH s none s.av=false):kL s=false:=by
 unfold kL
 rw [h];split;rfl;split;rfl;split;rfl;split;rfl;split;rfl;split<;>rfl
theorem Xb {a b c:Bool}:(bif (bif a then b else false) then c else false)=(a&&b&&c):=by cases a<;>cases b<;>rfl
theorem Xc {a b:Nat}:decide ((a:Int)=(b:Int))=decide (a=b):=by rw [decide_eq_decide];omega
theorem Ur {s:aW} (h:((((ph s.aY=true∧ku s.tree=true)∧nE s.queue=true)∧(s.av.length:Int)≤(32:Int))∧1≤s.next)∧max (s.ev.l.length:Int) (s.au.l.length:Int)≤(32:Int)) (hj:mH s none s.av=true):
 kL s=(decide (ij s.av=s.queue.length)&&lT s&&!(s.tree.any fun e=>!p8 s e)):=by
 obtain ⟨⟨⟨⟨⟨h1,h2⟩,h3⟩,h4⟩,h5⟩,h6⟩:=h
 unfold kL
 rw [h1,h2,h3,hj]
 simp only [Bool.not_true,Bool.false_eq_true,if_false]
 rw [if_neg (by omega),if_neg (by omega),if_neg (by omega)]
theorem KY (ht:TT t) (rd nx ef af:Int) {nl:List Node} {pl:List Place} {tl:List aR} {jl:List Jb} {ql:List bK} {el al:List dc} {ns ps ts js qs es bH:List (List D)} (eE:ns=nl.map Node.cells) (hps:ps=pl.map Place.cells) (hts:ts=tl.map aR.cells) (dM:js=jl.map Jb.cells) (dF:qs=ql.map bK.cells) (aC:es=el.map dc.cells) (has:bH=al.map dc.cells) (hs:(⟨rd,nx,⟨nl,pl⟩,tl,jl,ql,⟨ef,el⟩,⟨af,al⟩⟩:aW).sm):
 FC 36 [.agg [az rd,az nx,SL ns,SL ps,SL ts,SL js,SL qs,az ef,SL es,az af,SL bH]] [] (.ret (cU (t _ fun _=>kL ⟨rd,nx,⟨nl,pl⟩,tl,jl,ql,⟨ef,el⟩,⟨af,al⟩⟩))) []:=by
 obtain ⟨⟨s1,s2⟩,s3,⟨s4,s5⟩,⟨s6,s7⟩,s8,s9,Us⟩:=id hs
 simp only at s1 s2 s3 s4 s5 s6 s7 s8 s9 Us
 have s11:∀x∈jl,x.x.path.length<1000000000000∧x.x.gB.u':=fun x hx=>⟨(s7 x hx).1.1,(s7 x hx).1.2.1⟩
 have s12:∀x∈jl,(0≤x.id∧x.id<18446744073709551616)∧x.x.count<9223372036854775808:=fun x hx=>⟨(s7 x hx).2.1,(s7 x hx).2.2⟩
 refine cr ht Tryz.func36 (N:=78) ?_
 cbv
 obtain ⟨cZ,de,dg,cu,bZ,aF,cw⟩:=fc eE hps hts dM dF aC has
 refine aG (Nz ht ‹_› ‹_› (by omega) (by omega) ‹_›) trv (fun r0 cN=>?_)
 simp only [ht] at cN
 cbv
 iterate 2 refine gI (by simp [ht]) ?_
 refine cj (fun g1=>⟨by simp [ht] at g1 ⊢;exact g1,trv,Oj ht ‹_› ‹_› ‹_›⟩) rfl rfl (fun r2 iu=>?_)
 simp only [ht] at iu
 cbv
 refine gI (by simp [ht]) ?_
 refine pI (by simp [ht]) ?_
 iterate 2 refine gI (by simp [ht]) ?_
 refine cj (fun g3=>⟨by simp [ht] at g3 ⊢;exact g3,trv,NV ht ‹_› ‹_›⟩) rfl rfl (fun r4 iY=>?_)
 simp only [ht] at iY
 cbv
 refine gI (by simp [ht]) ?_
 refine pI (by simp [ht]) ?_
 iterate 4 refine gI (by simp [ht]) ?_
 refine pI (by simp [ht]) ?_
 iterate 3 refine gI (by simp [ht]) ?_
 refine pI (by simp [ht]) ?_
 iterate 10 refine gI (by simp [ht]) ?_
 refine pI (by simp [ht]) ?_
 apply ap<;>intro h5
 ·simp [ht,ah,cu,aF,cw] at h5
  cbv
  refine an ?_
  (simp only [ht];rw [W9 (by simp only [←cN,←iu,←iY];exact h5)];done)
 simp [ht,ah,cu,aF,cw] at h5
 cbv
 obtain ⟨J6,O1⟩:∃J6:Nat→Int→Prop,∀n i,J6 n i↔(∃k:Nat,i=k∧k+n=jl.length∧mH ⟨rd,nx,⟨nl,pl⟩,tl,jl,ql,⟨ef,el⟩,⟨af,al⟩⟩ none jl=mH ⟨rd,nx,⟨nl,pl⟩,tl,jl,ql,⟨ef,el⟩,⟨af,al⟩⟩ (lq jl k) (jl.drop k)):=⟨fun n v=>match v with|i=>(∃k:Nat,i=k∧k+n=jl.length∧mH ⟨rd,nx,⟨nl,pl⟩,tl,jl,ql,⟨ef,el⟩,⟨af,al⟩⟩ none jl=mH ⟨rd,nx,⟨nl,pl⟩,tl,jl,ql,⟨ef,el⟩,⟨af,al⟩⟩ (lq jl k) (jl.drop k)),fun _ _=>Iff.rfl⟩
 refine bA ⟨[1,3,48,49,50],[],[]⟩ (σ:=Int) (fun v=>[(50,.d (.int .i64 (t _ fun _=>v)))]) (fun v=>[]) J6 ?_
 cbv
 refine aE ⟨jl.length,_,(O1 _ _).2 ?_,by simp only [ht];rfl,?_⟩
 ·exact ⟨0,rfl,by simp,rfl⟩
 rintro n i hj
 replace hj:=(O1 _ _).1 hj
 obtain ⟨k,rfl,j1,j4⟩:=hj
 cbv
 apply ap<;>intro h7
 ·simp [ht,ah,cu] at h7
  cbv
  refine ig ht dM (cT:=Jb.aS t) (by (simp only [ht,ah];omega)) (by (simp only [ht,ah];omega)) (fun _=>rfl) (fun _=>(by (simp only [ht,Jb.aS];rfl))) (fun x8 mx8=>?_)
  simp [ht,ah] at mx8
  have j5:=KX (s:=⟨rd,nx,⟨nl,pl⟩,tl,jl,ql,⟨ef,el⟩,⟨af,al⟩⟩) mx8
  simp only at j5
  rw [j5] at j4
  have sx8:=(s7 _ (List.mem_of_getElem? mx8)).1
  cbv
  refine aG (W8 ht _ _ _ _ ‹_› ‹_› ‹_› ‹_› ‹_› ‹_› ‹_› _ (by (simp only [ht];rfl)) ‹_› _ _ _ _ _ _ _ _ _ _ _ (ko ht rfl) ‹_› ‹_› ‹_› ‹_›) trv (fun r9 gD=>?_)
  simp only [ht] at gD
  (have e9:Sx ⟨rd,nx,⟨nl,pl⟩,tl,jl,ql,⟨ef,el⟩,⟨af,al⟩⟩ (lq jl k) x8=r9:=(gD).symm;rw [e9] at j4)
  cbv
  apply ap<;>intro h10
  ·simp [ht] at h10
   cbv
   refine an ?_
   (simp only [ht];rw [Xa (by rw [j4,h10];rfl)];done)
  simp [ht] at h10
  cbv
  refine bG _ (by simp only [ht];rfl) (n-1) ?_ ((O1 _ _).2 ?_)
  ·omega
  simp only [ah]
  exact ⟨k+1,aB (by omega),by omega,by rw [j4,h10];rfl⟩
 simp [ht,ah,cu] at h7
 cbv
 refine bS [false,false,false,false,false,true,true,true,true,true,true,false,false,false,true,true,true,true] ?_
 cbv
 refine gI (by simp) ?_
 refine .inl ?_
 refine cj (fun g11=>⟨trv,trv,Ry ht _ _ _ _ ‹_› ‹_› ‹_› ‹_› ‹_› ‹_› ‹_› ‹_›⟩) rfl rfl (fun ZB RB=>?_)
 simp only [ht] at RB
 cbv
 iterate 3 refine gI (by simp) ?_
 refine gI (by simp [ht]) ?_
 refine cj (fun g13=>⟨by simp [ht] at g13 ⊢;exact g13,trv,N9 ht _ _ _ _ ‹_› ‹_› ‹_› ‹_› ‹_› ‹_› ‹_› ‹_› ‹_› ‹_›⟩) rfl rfl (fun r14 ZC=>?_)
 simp only [ht] at ZC
 cbv
 refine pI (by simp [ht]) ?_
 iterate 3 refine gI (by simp [ht]) ?_
 (obtain ⟨r19,ZD⟩:∃r,r=tl.any (fun e=>!p8 ⟨rd,nx,⟨nl,pl⟩,tl,jl,ql,⟨ef,el⟩,⟨af,al⟩⟩ e):=⟨_,rfl⟩;refine Tv [true,false] [1] (fun g=>⟨⟨g,g,trv⟩,trv,Om ht rd nx ef af eE hps hts dM dF aC has s4 s6 s11 ZD⟩) rfl rfl rfl (.inl rfl) rfl rfl rfl rfl ?_)
 cbv
 refine gI (by simp [ht]) ?_
 refine pI (by simp [ht]) ?_
 refine an ?_
 (rw [List.drop_eq_nil_of_le (by omega),mH] at j4;simp only [ht];rw [Ur (by simp only [←cN,←iu,←iY];exact h5) j4];simp only [RB,ZC,ZD,bZ,Xb,Xc];done)
theorem DX (ht:TT t) {es:List (List D)} (hr:∀r∈es,r.length=12):FC 138 [SL es] [] (.ret (.cl es)) []:=by
 refine cr ht Tryz.func138 (N:=9) ?_
 cbv
 refine ⟨?_,JN trv rfl ?_⟩
 ·simp only [ht,ah,bN];exact ⟨⟨⟨by omega,Int.le_refl _⟩,trv⟩,hr⟩
 simp [ht,ah,iH]
theorem On (ht:TT t) (rd nx ef af:Int) {nl:List Node} {pl:List Place} {tl:List aR} {jl:List Jb} {ql:List bK} {el al:List dc} {ns ps ts js qs es bH:List (List D)} (eE:ns=nl.map Node.cells) (hps:ps=pl.map Place.cells) (hts:ts=tl.map aR.cells) (dM:js=jl.map Jb.cells) (dF:qs=ql.map bK.cells) (aC:es=el.map dc.cells) (has:bH=al.map dc.cells) (ja jb jc jd jn jp jt:Int) (jq:aH) {nJ:List Term} {CM:List (List D)} (we:CM=nJ.map Term.cells) (e0:List D) (er:List (List D)) (hj:js=e0::er) (hx:(⟨jq,⟨ja,jb,jc,jd⟩,jn,jp,jt,nJ⟩:Ask).sm) (htl:tl.length<100000) (hjl:jl.length<1000000) (Um:ql.length<1000000) (hel:el.length<1000000):
 FC 89 [.agg [az rd,az nx,SL ns,SL ps,SL ts,SL js,SL qs,az ef,SL es,az af,SL bH],.agg [ST jq,az ja,az jb,az jc,az jd,bD jn,bD jp,bD jt,SL CM]] [] (.ret (Rd t (t _ fun _=>cY ⟨rd,nx,⟨nl,pl⟩,tl,jl,ql,⟨ef,el⟩,⟨af,al⟩⟩ ⟨jq,⟨ja,jb,jc,jd⟩,jn,jp,jt,nJ⟩))) []:=by
 subst hj
 obtain ⟨ck,ZE⟩:∃ck,ck=dY ⟨jq,⟨ja,jb,jc,jd⟩,jn,jp,jt,nJ⟩:=⟨_,rfl⟩
 obtain ⟨th,ZF⟩:∃th,th=gV tl jq:=⟨_,rfl⟩
 obtain ⟨⟨q9,e9⟩,h9⟩:∃r,r=jZ ql ⟨nx,jp⟩:=⟨_,rfl⟩
 have hS:cY ⟨rd,nx,⟨nl,pl⟩,tl,jl,ql,⟨ef,el⟩,⟨af,al⟩⟩ ⟨jq,⟨ja,jb,jc,jd⟩,jn,jp,jt,nJ⟩=if ck≠0 then (⟨rd,nx,⟨nl,pl⟩,tl,jl,ql,⟨ef,el⟩,⟨af,al⟩⟩,0,ck) else if !th then (⟨rd,nx,⟨nl,pl⟩,tl,jl,ql,⟨ef,el⟩,⟨af,al⟩⟩,0,7) else if 32≤jl.length∨nx=18446744073709551615 then (⟨rd,nx,⟨nl,pl⟩,tl,jl,ql,⟨ef,el⟩,⟨af,al⟩⟩,0,9) else if e9≠0 then (⟨rd,nx,⟨nl,pl⟩,tl,jl,ql,⟨ef,el⟩,⟨af,al⟩⟩,0,e9) else
  (jK ⟨rd,IntKind.u64.wrap (nx+1),⟨nl,pl⟩,tl,jl++[⟨nx,⟨jq,⟨ja,jb,jc,jd⟩,jn,jp,jt,nJ⟩,false,0⟩],q9,⟨ef,el⟩,⟨af,al⟩⟩ nx 1,nx,0):=by
  simp only [cY,←ZE,←ZF,←h9,u64,←pu]
 rw [hS]
 clear hS
 have hr:∀r∈e0::er,r.length=12:=by rw [dM];intro r hr;obtain ⟨y,_,rfl⟩:=List.mem_map.1 hr;rfl
 have hle:er.length+1=jl.length:=by have:=congrArg List.length dM;simpa using this
 obtain ⟨h1,h2,h3,h4⟩:=id hx
 simp only at h1 h2 h3 h4
 refine cr ht Tryz.func89 (N:=68) ?_
 cbv
 obtain ⟨cZ,de,dg,bZ,aF,cw,zS⟩:=fc eE hps hts dF aC has we
 refine aG (xB ht _ _ _ _ _ _ _ _ ‹_› ‹_›) trv (fun r0 cN=>?_)
 simp only [ht] at cN
 rw [←ZE] at cN
 subst r0
 cbv
 apply ap<;>intro h1
 ·simp [ht] at h1
  cbv
  refine an ?_
  (simp only [ht];grind)
 simp [ht] at h1
 cbv
 refine aG (xD ht _ ‹_› (by omega) ‹_›) trv (fun r2 iu=>?_)
 simp only [ht] at iu
 rw [←ZF] at iu
 subst r2
 cbv
 apply ap<;>intro h3
 ·simp [ht] at h3
  cbv
  refine an ?_
  (simp only [ht];grind)
 simp [ht] at h3
 cbv
 iterate 3 refine gI (by simp [ht]) ?_
 refine pI (by simp [ht]) ?_
 apply ap<;>intro h4
 ·simp [ht,ah] at h4
  cbv
  refine an ?_
  (simp only [ht];grind)
 simp [ht,ah] at h4
 cbv
 refine aD (BN ht _ _ ‹_› ‹_›) trv (fun r5 sO=>?_)
 simp only [ht] at sO
 rw [←h9] at sO
 subst r5
 cbv
 apply ap<;>intro h6
 ·simp [ht] at h6
  cbv
  refine an ?_
  (simp only [ht];grind)
 simp [ht] at h6
 cbv
 refine GW [0,4,9,10] [false,false,false,false,false,false,false,false,false,false,false,false,true,true,true,true,true] (by kernel_rfl) (by kernel_rfl) (by kernel_rfl) (by kernel_rfl) (by kernel_rfl) ?_
 cbv
 iterate 3 refine gI (by simp) ?_
 refine .inl ?_
 (refine nD (fun g=>⟨trv,trv,DX ht hr⟩) rfl rfl rfl ?_)
 cbv
 iterate 4 refine gI (by simp) ?_
 refine gI (by (simp only [ht];intro _;refine ⟨by simp only [List.length_cons,List.length_nil];omega,?_⟩;intro r h;rcases List.mem_append.1 h with h|h;exact hr r h;simp at h;subst h;rfl)) ?_
 iterate 3 refine gI (by simp) ?_
 (refine aD (oy ht rd _ ef af nx 1 (nl:=nl) (pl:=pl) (tl:=tl) (jl:=jl++[⟨nx,⟨jq,⟨ja,jb,jc,jd⟩,jn,jp,jt,nJ⟩,false,0⟩]) (ql:=q9) (el:=el) (al:=al) eE hps hts (by simp only [ht,dM];simp [Jb.cells,we]) (by simp only [ht]) aC has hel) trv (fun r9 gD=>?_);simp only [ht] at gD)
 cbv
 refine an ?_
 (simp only [ht];grind)
theorem Oo (ht:TT t) (rd nx ef af:Int) {nl:List Node} {pl:List Place} {tl:List aR} {jl:List Jb} {ql:List bK} {el al:List dc} {ns ps ts js qs es bH:List (List D)} (eE:ns=nl.map Node.cells) (hps:ps=pl.map Place.cells) (hts:ts=tl.map aR.cells) (dM:js=jl.map Jb.cells) (dF:qs=ql.map bK.cells) (aC:es=el.map dc.cells) (has:bH=al.map dc.cells) (ja jb jc jd jn jp jt:Int) (jq:aH) {nJ:List Term} {CM:List (List D)} (we:CM=nJ.map Term.cells) (hj:js=[]) (hx:(⟨jq,⟨ja,jb,jc,jd⟩,jn,jp,jt,nJ⟩:Ask).sm) (htl:tl.length<100000) (hjl:jl.length<1000000) (Um:ql.length<1000000) (hel:el.length<1000000):
 FC 89 [.agg [az rd,az nx,SL ns,SL ps,SL ts,SL js,SL qs,az ef,SL es,az af,SL bH],.agg [ST jq,az ja,az jb,az jc,az jd,bD jn,bD jp,bD jt,SL CM]] [] (.ret (Rd t (t _ fun _=>cY ⟨rd,nx,⟨nl,pl⟩,tl,jl,ql,⟨ef,el⟩,⟨af,al⟩⟩ ⟨jq,⟨ja,jb,jc,jd⟩,jn,jp,jt,nJ⟩))) []:=by
 subst hj
 obtain ⟨ck,ZE⟩:∃ck,ck=dY ⟨jq,⟨ja,jb,jc,jd⟩,jn,jp,jt,nJ⟩:=⟨_,rfl⟩
 obtain ⟨th,ZF⟩:∃th,th=gV tl jq:=⟨_,rfl⟩
 obtain ⟨⟨q9,e9⟩,h9⟩:∃r,r=jZ ql ⟨nx,jp⟩:=⟨_,rfl⟩
 have hS:cY ⟨rd,nx,⟨nl,pl⟩,tl,jl,ql,⟨ef,el⟩,⟨af,al⟩⟩ ⟨jq,⟨ja,jb,jc,jd⟩,jn,jp,jt,nJ⟩=if ck≠0 then (⟨rd,nx,⟨nl,pl⟩,tl,jl,ql,⟨ef,el⟩,⟨af,al⟩⟩,0,ck) else if !th then (⟨rd,nx,⟨nl,pl⟩,tl,jl,ql,⟨ef,el⟩,⟨af,al⟩⟩,0,7) else if 32≤jl.length∨nx=18446744073709551615 then (⟨rd,nx,⟨nl,pl⟩,tl,jl,ql,⟨ef,el⟩,⟨af,al⟩⟩,0,9) else if e9≠0 then (⟨rd,nx,⟨nl,pl⟩,tl,jl,ql,⟨ef,el⟩,⟨af,al⟩⟩,0,e9) else
  (jK ⟨rd,IntKind.u64.wrap (nx+1),⟨nl,pl⟩,tl,jl++[⟨nx,⟨jq,⟨ja,jb,jc,jd⟩,jn,jp,jt,nJ⟩,false,0⟩],q9,⟨ef,el⟩,⟨af,al⟩⟩ nx 1,nx,0):=by
  simp only [cY,←ZE,←ZF,←h9,u64,←pu]
 rw [hS]
 clear hS
 have hle:jl=[]:=by cases jl with
  |nil=>rfl
  |cons x l=>cases dM
 obtain ⟨h1,h2,h3,h4⟩:=id hx
 simp only at h1 h2 h3 h4
 refine cr ht Tryz.func89 (N:=68) ?_
 cbv
 obtain ⟨cZ,de,dg,bZ,aF,cw,zS⟩:=fc eE hps hts dF aC has we
 refine aG (xB ht _ _ _ _ _ _ _ _ ‹_› ‹_›) trv (fun r0 cN=>?_)
 simp only [ht] at cN
 rw [←ZE] at cN
 subst r0
 cbv
 apply ap<;>intro h1
 ·simp [ht] at h1
  cbv
  refine an ?_
  (simp only [ht];grind)
 simp [ht] at h1
 cbv
 refine aG (xD ht _ ‹_› (by omega) ‹_›) trv (fun r2 iu=>?_)
 simp only [ht] at iu
 rw [←ZF] at iu
 subst r2
 cbv
 apply ap<;>intro h3
 ·simp [ht] at h3
  cbv
  refine an ?_
  (simp only [ht];grind)
 simp [ht] at h3
 cbv
 iterate 3 refine gI (by simp [ht]) ?_
 refine pI (by simp [ht]) ?_
 apply ap<;>intro h4
 ·simp [ht] at h4
  cbv
  refine an ?_
  (simp only [ht];grind)
 simp [ht] at h4
 cbv
 refine aD (BN ht _ _ ‹_› ‹_›) trv (fun r5 sO=>?_)
 simp only [ht] at sO
 rw [←h9] at sO
 subst r5
 cbv
 apply ap<;>intro h6
 ·simp [ht] at h6
  cbv
  refine an ?_
  (simp only [ht];grind)
 simp [ht] at h6
 cbv
 refine GW [0,4,9,10] [false,false,false,false,false,false,false,false,false,false,false,false,true,true,true,true,true] (by kernel_rfl) (by kernel_rfl) (by kernel_rfl) (by kernel_rfl) (by kernel_rfl) ?_
 cbv
 iterate 3 refine gI (by simp) ?_
 refine .inl ?_
 (refine nD (fun g=>⟨trv,trv,DX ht (by simp)⟩) rfl rfl rfl ?_)
 cbv
 iterate 4 refine gI (by simp) ?_
 refine gI (by simp [ht]) ?_
 iterate 3 refine gI (by simp) ?_
 (refine aD (oy ht rd _ ef af nx 1 (nl:=nl) (pl:=pl) (tl:=tl) (jl:=jl++[⟨nx,⟨jq,⟨ja,jb,jc,jd⟩,jn,jp,jt,nJ⟩,false,0⟩]) (ql:=q9) (el:=el) (al:=al) eE hps hts (by simp only [ht,hle];simp [Jb.cells,we]) (by simp only [ht]) aC has hel) trv (fun r9 gD=>?_);simp only [ht] at gD)
 cbv
 refine an ?_
 (simp only [ht];grind)
theorem lZ (ht:TT t) (rd nx ef af:Int) {nl:List Node} {pl:List Place} {tl:List aR} {jl:List Jb} {ql:List bK} {el al:List dc} {ns ps ts js qs es bH:List (List D)} (eE:ns=nl.map Node.cells) (hps:ps=pl.map Place.cells) (hts:ts=tl.map aR.cells) (dM:js=jl.map Jb.cells) (dF:qs=ql.map bK.cells) (aC:es=el.map dc.cells) (has:bH=al.map dc.cells) (ja jb jc jd jn jp jt:Int) (jq:aH) {nJ:List Term} {CM:List (List D)} (we:CM=nJ.map Term.cells) (hx:(⟨jq,⟨ja,jb,jc,jd⟩,jn,jp,jt,nJ⟩:Ask).sm) (htl:tl.length<100000) (hjl:jl.length<1000000) (Um:ql.length<1000000) (hel:el.length<1000000):
 FC 89 [.agg [az rd,az nx,SL ns,SL ps,SL ts,SL js,SL qs,az ef,SL es,az af,SL bH],.agg [ST jq,az ja,az jb,az jc,az jd,bD jn,bD jp,bD jt,SL CM]] [] (.ret (Rd t (t _ fun _=>cY ⟨rd,nx,⟨nl,pl⟩,tl,jl,ql,⟨ef,el⟩,⟨af,al⟩⟩ ⟨jq,⟨ja,jb,jc,jd⟩,jn,jp,jt,nJ⟩))) []:=by
 cases js with
 |nil=>exact Oo ht rd nx ef af eE hps hts dM dF aC has ja jb jc jd jn jp jt jq we rfl hx htl hjl Um hel
 |cons e0 er=>exact On ht rd nx ef af eE hps hts dM dF aC has ja jb jc jd jn jp jt jq we e0 er rfl hx htl hjl Um hel
theorem wm (ht:TT t) (rd nx ef af:Int) {nl:List Node} {pl:List Place} {tl:List aR} {jl:List Jb} {ql:List bK} {el al:List dc} {ns ps ts js qs es bH:List (List D)} (eE:ns=nl.map Node.cells) (hps:ps=pl.map Place.cells) (hts:ts=tl.map aR.cells) (dM:js=jl.map Jb.cells) (dF:qs=ql.map bK.cells) (aC:es=el.map dc.cells) (has:bH=al.map dc.cells) (id:Int) {names:List aH} {nr:List (List D)} (hnr:nr=names.map bB) (nI:∀x∈jl,x.x.gB.u'∧x.x.path.length<1000000000000) (htl:tl.length<100000) (hjl:jl.length<1000000) (Py:nl.length<1000000) (EB:pl.length<1000000) (Um:ql.length<1000000) (hel:el.length<1000000) (hnn:names.length<1000000):
 FC 35 [.agg [az rd,az nx,SL ns,SL ps,SL ts,SL js,SL qs,az ef,SL es,az af,SL bH],az id,SL nr] [] (.ret (Mn t (t _ fun _=>cJ ⟨rd,nx,⟨nl,pl⟩,tl,jl,ql,⟨ef,el⟩,⟨af,al⟩⟩ id names))) []:=by
 refine cr ht Tryz.func35 (N:=100) ?_
 cbv
 obtain ⟨cZ,de,dg,cu,bZ,aF,cw⟩:=fc eE hps hts dM dF aC has
 have RC:nr.length=names.length:=by rw [hnr,lgM]
 refine aG (sQ ht _ _ _ _ _ _ _ _ _ _ _ ‹_› (by omega)) trv (fun r0 cN=>?_)
 simp only [ht] at cN
 have ec:=Fq cN nI
 clear cN
 rcases ec with ⟨e1,e2⟩|⟨i,xi,xa,xb,xc,xd,xn,xp,xt,xf,xq,xr,xl,e1,e2,e3,e4,e5,⟨e6,e7⟩,e8⟩
 ·cbv
  apply ap<;>intro h1
  ·simp [ht] at h1
   cbv
   refine an ?_
   (simp [cJ, *];done)
  simp [ht] at h1
  omega
 cbv
 apply ap<;>intro h2
 ·simp [ht] at h2
  (simp only [ah] at*;omega)
 simp [ht] at h2
 cbv
 refine zx ht dM (cT:=Jb.aS t) e3 ‹_› (fun _=>rfl) (fun _=>(by (simp only [ht,Jb.aS];rfl))) ?_
 cbv
 apply ap<;>intro h4
 ·cbv
  refine an ?_
  (simp only [ht,cJ,e4,e5,kx];simp [*];done)
 cbv
 apply ap<;>intro h5
 ·simp [ht,ah,RC] at h5
  cbv
  refine an ?_
  (simp only [ht,cJ,e4,e5,kx];simp [*];done)
 simp [ht,ah,RC] at h5
 cbv
 (obtain ⟨⟨⟨v1,v2,v3,v4⟩,vk⟩,hv⟩:∃r,r=c8 ⟨xq,⟨xa,xb,xc,xd⟩,xn,xp,xt,xl⟩:=⟨_,rfl⟩;refine aG (ou ht xq xa xb xc xd xn xp xt (sl:=xl) _ e6) trv (fun r9 gD=>?_);simp only [ht] at gD;rw [←hv] at gD;subst gD)
 cbv
 apply ap<;>intro h6
 ·simp [ht] at h6
  cbv
  refine an ?_
  (simp only [ht,cJ,e4,e5,kx,←hv];(try (simp only [←rG];clear rG));(try (simp only [←gD];clear gD));simp [*];done)
 simp [ht] at h6
 cbv
 refine aD (uz ht _ _ _ _ _ ‹_› ‹_› ‹_›) trv (fun r7 rG=>?_)
 simp only [ht] at rG
 cbv
 apply ap<;>intro h8
 ·simp [ht] at h8
  cbv
  refine an ?_
  (simp only [ht,cJ,e4,e5,kx,←hv];(try (simp only [←rG];clear rG));(try (simp only [←gD];clear gD));simp [*];done)
 simp [ht] at h8
 cbv
 refine aD (WA ht _ _ _ _ _ ‹_› ‹_› ‹_› (by omega) (by omega) (by omega)) trv (fun r9 gD=>?_)
 simp only [ht] at gD
 cbv
 apply ap<;>intro h10
 ·simp [ht] at h10
  cbv
  refine an ?_
  (simp only [ht,cJ,e4,e5,kx,←hv];(try (simp only [←rG];clear rG));(try (simp only [←gD];clear gD));simp [*];done)
 simp [ht] at h10
 cbv
 refine aD (Iu ht _ ‹_› ‹_›) trv (fun r11 abG=>?_)
 simp only [ht] at abG
 cbv
 (refine LU [0,2] (.more 0 (.more 1 (.one 2 (.one 3 (.one 4 (.one 5 (.one 6 (.one 7 (.one 8 .done))))))) (.one 2 (.more 1 (.one 3 (.one 4 (.one 5 (.one 6 (.one 7 (.one 8 .done)))))) (.one 3 (.more 1 (.one 4 (.one 5 (.one 6 (.one 7 (.one 8 .done))))) (.one 4 (.one 1 (.one 5 (.one 6 (.one 7 (.one 8 .done))))))))))) (.one 2 (.one 0 (.more 1 (.one 3 (.one 4 (.one 5 (.one 6 (.one 7 (.one 8 .done)))))) (.one 3 (.more 1 (.one 4 (.one 5 (.one 6 (.one 7 (.one 8 .done))))) (.one 4 (.one 1 (.one 5 (.one 6 (.one 7 (.one 8 .done)))))))))))) _ (by kernel_rfl) (by kernel_rfl) (by kernel_rfl) (by kernel_rfl) (by cbv;repeat' (first|exact rfl|refine ⟨?_,?_⟩)) ?_)
 cbv
 refine aD (Mt ht _ _ _ _ (ko ht rfl) (ko ht rfl) (ko ht rfl) ‹_› (ko ht rfl) ‹_› ‹_› _ _ _ _ _ _ _ _ _ _ _ (ko ht rfl) ‹_› ‹_› ‹_›) trv (fun ZB RB=>?_)
 simp only [ht] at RB
 have hwe:(ZB).ev.l.length<1000000:=by rw [RB];exact hel
 cbv
 refine aD (oy ht _ _ _ _ _ _ (ko ht rfl) (ko ht rfl) (ko ht rfl) (ko ht rfl) (ko ht rfl) (ko ht rfl) (ko ht rfl) ‹_›) trv (fun r13 abH=>?_)
 simp only [ht] at abH
 cbv
 refine an ?_
 (simp only [ht,cJ,e4,e5,kx,←hv];(try (simp only [←rG];clear rG));(try (simp only [←gD];clear gD));simp [*];done)
theorem mO {x:Ask} (h:tI x):x.sm:=
 ⟨by have:=h.path;omega,⟨h.gB 0 (by decide),h.gB 1 (by decide),h.gB 2 (by decide),h.gB 3 (by decide)⟩,by have:=h.bY;omega,
  fun m hm=>by obtain ⟨a,b,c⟩:=h.key m hm;exact ⟨by omega,by omega,fun v hv=>by have:=c v hv;omega⟩⟩
theorem aW.ok.small {s:aW} (h:s.ok) (l:s.dD tI):s.sm where
 nodes:=⟨by have:=h.aY.most;omega,l.names⟩
 places:=by have:=h.KF;omega
 tree:=⟨by have:=h.tree.most;omega,fun e he=>by have:=l.paths e he;omega⟩
 av:=⟨by have:=h.most;omega,fun x hx=>⟨mO (l.xs x hx),⟨by have:=h.vU x hx;omega,by have:=h.vU x hx;have:=h.next;omega⟩,by
  have:=(h.sN x hx).1
  unfold dY Sw at this
  split at this
  ·cases this
  split at this
  ·cases this
  simp_all;omega⟩⟩
 queue:=by
  have h1:=h.Wt
  have h2:ij s.av≤s.av.length:=List.length_filter_le _ _
  have:=h.most;omega
 notes:=by have:=h.notes;omega
theorem BZ {l:List Jb} {id:Int} (h:∀x∈l,x.x.sm):(bC l id).1.x.sm:=by
 unfold bC
 split
 ·rename_i x hx;exact h _ (List.mem_of_find?_eq_some hx)
 exact ⟨by decide,by decide,by decide,fun m hm=>by cases hm⟩
theorem IB {nl:List Node} {pl:List Place} (h:nl.length<1000000) (h2:∀x∈nl,x.sm):(nl.filterMap (oa nl pl)).length<1000000∧∀s∈nl.filterMap (oa nl pl),s.labels.length<1000000000:=by
 refine ⟨Nat.lt_of_le_of_lt (List.length_filterMap_le _ _) h,fun s hs=>?_⟩
 obtain ⟨n,hn,e⟩:=List.mem_filterMap.1 hs
 unfold oa at e
 split at e
 ·cases e;exact (h2 n hn).2.1
 cases e
theorem B4 {v:bE}:∀(n:Nat) (l:List bM) (out:List aH),out.length+n≤8→(ul v n l out).1.length≤8
 |0,_,out,h=>by simpa [ul] using h
 |n+1,l,out,h=>by
  rw [ul]
  split
  ·simp
  exact B4 n _ _ (by simp;omega)
theorem xM (l:List bM) (x:List Term) (v:bE) (c:Int):(fit l x v c).1.length<1000000:=by
 unfold fit
 split
 ·simp
 have:=B4 (v:=v) (max c 0).toNat (fitting l x) [] (by simp;omega)
 omega
theorem Oq (ht:TT t) (rd nx ef af:Int) {nl:List Node} {pl:List Place} {tl:List aR} {jl:List Jb} {ql:List bK} {el al:List dc} {ns ps ts js qs es bH:List (List D)} (eE:ns=nl.map Node.cells) (hps:ps=pl.map Place.cells) (hts:ts=tl.map aR.cells) (dM:js=jl.map Jb.cells) (dF:qs=ql.map bK.cells) (aC:es=el.map dc.cells) (has:bH=al.map dc.cells) (id:Int) (hjl:jl.length<1000000):
 FC 103 [.agg [az rd,az nx,SL ns,SL ps,SL ts,SL js,SL qs,az ef,SL es,az af,SL bH],az id] [] (.ret (WI t (t _ fun _=>fG ⟨rd,nx,⟨nl,pl⟩,tl,jl,ql,⟨ef,el⟩,⟨af,al⟩⟩ id))) []:=by
 obtain ⟨R,hR⟩:∃R,R=fG ⟨rd,nx,⟨nl,pl⟩,tl,jl,ql,⟨ef,el⟩,⟨af,al⟩⟩ id:=⟨_,rfl⟩
 have hR':R=((bC jl id).1,(bC jl id).2&&!(bC jl id).1.runs):=hR
 rw [←hR]
 refine cr ht Tryz.func103 (N:=21) ?_
 cbv
 obtain ⟨cZ,de,dg,cu,bZ,aF,cw⟩:=fc eE hps hts dM dF aC has
 refine aD (mM ht _ _ _ _ _ _ _ _ _ _ _ ‹_› (by omega)) trv (fun r0 cN=>?_)
 simp only [ht] at cN
 rw [←cN] at hR'
 clear cN
 obtain ⟨⟨jid,⟨jq,⟨ja,jb,jc,jd⟩,jn,jp,jt,nJ⟩,jr,jlf⟩,Sx⟩:=r0
 simp only at hR'
 cases Sx
 ·cbv
  (apply LU [] (.more 0 (.one 1 (.one 2 (.more 3 (.more 4 (.more 5 (.more 6 (.one 7 (.one 8 .done)) (.one 7 (.one 6 (.one 8 .done)))) (.one 7 (.one 5 (.one 6 (.one 8 .done))))) (.one 7 (.one 4 (.one 5 (.one 6 (.one 8 .done)))))) (.one 7 (.one 3 (.one 4 (.one 5 (.one 6 (.one 8 .done))))))))) (.one 1 (.more 0 (.one 2 (.more 3 (.more 4 (.more 5 (.more 6 (.one 7 (.one 8 .done)) (.one 7 (.one 6 (.one 8 .done)))) (.one 7 (.one 5 (.one 6 (.one 8 .done))))) (.one 7 (.one 4 (.one 5 (.one 6 (.one 8 .done)))))) (.one 7 (.one 3 (.one 4 (.one 5 (.one 6 (.one 8 .done)))))))) (.one 2 (.more 0 (.more 3 (.more 4 (.more 5 (.more 6 (.one 7 (.one 8 .done)) (.one 7 (.one 6 (.one 8 .done)))) (.one 7 (.one 5 (.one 6 (.one 8 .done))))) (.one 7 (.one 4 (.one 5 (.one 6 (.one 8 .done)))))) (.one 7 (.one 3 (.one 4 (.one 5 (.one 6 (.one 8 .done))))))) (.one 3 (.more 0 (.more 4 (.more 5 (.more 6 (.one 7 (.one 8 .done)) (.one 7 (.one 6 (.one 8 .done)))) (.one 7 (.one 5 (.one 6 (.one 8 .done))))) (.one 7 (.one 4 (.one 5 (.one 6 (.one 8 .done)))))) (.one 4 (.more 0 (.more 5 (.more 6 (.one 7 (.one 8 .done)) (.one 7 (.one 6 (.one 8 .done)))) (.one 7 (.one 5 (.one 6 (.one 8 .done))))) (.one 5 (.more 0 (.more 6 (.one 7 (.one 8 .done)) (.one 7 (.one 6 (.one 8 .done)))) (.one 6 (.one 0 (.one 7 (.one 8 .done)))))))))))))));kernel_rfl;kernel_rfl;kernel_rfl;kernel_rfl;(next=>cbv;repeat (first|(refine pX rfl ?_;cbv)|refine And.intro ?_ ?_|exact rfl|exact True.intro|exact ⟨⟨by simp,by simp⟩⟩)))
  cbv
  refine an ?_
  (clear hR;simp [ht,hR'];done)
 cbv
 (apply LU [] (.more 0 (.one 1 (.one 2 (.more 3 (.more 4 (.more 5 (.more 6 (.one 7 (.one 8 .done)) (.one 7 (.one 6 (.one 8 .done)))) (.one 7 (.one 5 (.one 6 (.one 8 .done))))) (.one 7 (.one 4 (.one 5 (.one 6 (.one 8 .done)))))) (.one 7 (.one 3 (.one 4 (.one 5 (.one 6 (.one 8 .done))))))))) (.one 1 (.more 0 (.one 2 (.more 3 (.more 4 (.more 5 (.more 6 (.one 7 (.one 8 .done)) (.one 7 (.one 6 (.one 8 .done)))) (.one 7 (.one 5 (.one 6 (.one 8 .done))))) (.one 7 (.one 4 (.one 5 (.one 6 (.one 8 .done)))))) (.one 7 (.one 3 (.one 4 (.one 5 (.one 6 (.one 8 .done)))))))) (.one 2 (.more 0 (.more 3 (.more 4 (.more 5 (.more 6 (.one 7 (.one 8 .done)) (.one 7 (.one 6 (.one 8 .done)))) (.one 7 (.one 5 (.one 6 (.one 8 .done))))) (.one 7 (.one 4 (.one 5 (.one 6 (.one 8 .done)))))) (.one 7 (.one 3 (.one 4 (.one 5 (.one 6 (.one 8 .done))))))) (.one 3 (.more 0 (.more 4 (.more 5 (.more 6 (.one 7 (.one 8 .done)) (.one 7 (.one 6 (.one 8 .done)))) (.one 7 (.one 5 (.one 6 (.one 8 .done))))) (.one 7 (.one 4 (.one 5 (.one 6 (.one 8 .done)))))) (.one 4 (.more 0 (.more 5 (.more 6 (.one 7 (.one 8 .done)) (.one 7 (.one 6 (.one 8 .done)))) (.one 7 (.one 5 (.one 6 (.one 8 .done))))) (.one 5 (.more 0 (.more 6 (.one 7 (.one 8 .done)) (.one 7 (.one 6 (.one 8 .done)))) (.one 6 (.one 0 (.one 7 (.one 8 .done)))))))))))))));kernel_rfl;kernel_rfl;kernel_rfl;kernel_rfl;(next=>cbv;repeat (first|(refine lA rfl ?_;cbv)|refine And.intro ?_ ?_|exact rfl|exact True.intro|exact ⟨⟨by simp,by simp⟩⟩)))
 cbv
 refine an ?_
 (clear hR;simp [ht,hR'];done)
theorem IC (ht:TT t) (rd nx ef af:Int) {nl:List Node} {pl:List Place} {tl:List aR} {jl:List Jb} {ql:List bK} {el al:List dc} {ns ps ts js qs es bH:List (List D)} (eE:ns=nl.map Node.cells) (hps:ps=pl.map Place.cells) (hts:ts=tl.map aR.cells) (dM:js=jl.map Jb.cells) (dF:qs=ql.map bK.cells) (aC:es=el.map dc.cells) (has:bH=al.map dc.cells) (hs:(⟨rd,nx,⟨nl,pl⟩,tl,jl,ql,⟨ef,el⟩,⟨af,al⟩⟩:aW).sm) (id:Int) {on:List Node} {op:List Place} {onr opr:List (List D)} (hon:onr=on.map Node.cells) (hop:opr=op.map Place.cells) (ho1:on.length<1000000) (Z9:∀x∈on,x.sm) (ho3:op.length<1000000) (f:Nat) (cs:List D) (W:aH→bE→Bool)
 (hw:∀(q:aH) (a b c d:Int),q.length<1000000000000→FC f [ST q,V4 a b c d,.ep cs] [] (.ret (cU (t _ fun _=>W q ⟨a,b,c,d⟩))) []):
 FC 56 [.agg [az rd,az nx,SL ns,SL ps,SL ts,SL js,SL qs,az ef,SL es,az af,SL bH],az id,.agg [SL onr,SL opr],.fn f [.ep cs]] [] (.ret (Iq t (t _ fun _=>jP ⟨rd,nx,⟨nl,pl⟩,tl,jl,ql,⟨ef,el⟩,⟨af,al⟩⟩ id ⟨on,op⟩ W))) []:=by
 obtain ⟨⟨s1,s2⟩,s3,⟨s4,s5⟩,⟨s6,s7⟩,s8,s9,Us⟩:=(show aW.sm _ from hs)
 simp only at s1 s2 s3 s4 s5 s6 s7 s8 s9 Us
 obtain ⟨sl1,sl2⟩:=IB ho1 Z9 (pl:=op)
 obtain ⟨S,hS⟩:∃S,S=jP ⟨rd,nx,⟨nl,pl⟩,tl,jl,ql,⟨ef,el⟩,⟨af,al⟩⟩ id ⟨on,op⟩ W:=⟨_,rfl⟩
 have XT:=hS
 unfold jP at XT
 rw [←hS]
 obtain ⟨w,hw1⟩:∃w,w=fG ⟨rd,nx,⟨nl,pl⟩,tl,jl,ql,⟨ef,el⟩,⟨af,al⟩⟩ id:=⟨_,rfl⟩
 have wsm:w.1.x.sm:=by rw [hw1];exact BZ (fun x hx=>(s7 x hx).1)
 rw [←hw1] at XT
 refine cr ht Tryz.func56 (N:=60) ?_
 cbv
 obtain ⟨cZ,de,dg,cu,bZ,aF,cw⟩:=fc eE hps hts dM dF aC has
 have aas:onr.length=on.length:=by rw [hon,lgM]
 have aat:opr.length=op.length:=by rw [hop,lgM]
 (refine aD (Oq ht rd nx ef af eE hps hts dM dF aC has _ s6) (by simp) (fun r1 cM=>?_);simp only [ht] at cM;rw [←hw1] at cM;subst r1)
 cbv
 apply ap<;>intro h0
 ·simp [ht] at h0
  cbv
  refine an ?_
  (simp only [ht];grind)
 simp [ht] at h0
 cbv
 (refine aG (ou ht _ _ _ _ _ _ _ _ (sl:=w.1.x.bY) _ wsm.2.1) (by simp) (fun rv erv=>?_);simp only [ht] at erv)
 cbv
 refine bS [false,false,false,false,false,false,false,false,false,false,false,true,true,false,false,false,true] ?_
 cbv
 refine gI (by simp) ?_
 refine .inl ?_
 (refine kK (fun g=>⟨by simp,trv,BG ht hon hop (by ((try simp only at*);omega)) (by ((try simp only at*);omega))⟩) rfl rfl rfl (fun r3 kO=>?_);simp only [ht] at kO)
 cbv
 iterate 9 refine gI (by simp) ?_
 (refine aD (KQ ht _ _ _ _ _ (l:=r3) (by simp only [ht]) (by rw [kO];exact sl1) (by rw [kO];exact sl2) (x:=w.1.x.bY) (by simp only [ht]) wsm.2.2.1 (fun m hm=>(wsm.2.2.2 m hm).2.1)) (by simp) (fun r4 iY=>?_);simp only [ht] at iY)
 cbv
 iterate 3 refine gI (by simp) ?_
 iterate 2 refine gI (by simp [ht]) ?_
 refine pI (by simp [ht]) ?_
 iterate 5 refine gI (by simp [ht]) ?_
 (refine cj (fun g=>⟨⟨g,g,g,trv⟩,trv,hw _ _ _ _ _ wsm.1⟩) rfl rfl (fun r6 mL=>?_);simp only [ht] at mL)
 cbv
 refine gI (by simp [ht]) ?_
 refine pI (by simp [ht]) ?_
 apply ap<;>intro h1
 ·simp [ht] at h1
  cbv
  refine an ?_
  (have e4:fit (gv ⟨on,op⟩) w.1.x.bY w.1.x.gB w.1.x.count=r4:=(by rw [iY,kO];rfl);have e2:c8 w.1.x=rv:=erv.symm;have e6:W w.1.x.path rv.1=r6:=mL.symm;have e7:S=if r6=true∧rv.2=true∧r4.2=true then (r4.1,true) else ([],false):=(by rw [XT,e4,e2,e6,if_neg (by simp [h0])];cases r6<;>cases rv.2<;>cases r4.2<;>simp);clear XT hS;((rw [if_neg (by rintro ⟨g1,g2,g3⟩;rw [g1,g2,g3] at h1;simp at h1)] at e7;simp [ht,e7];done)))
 simp [ht] at h1
 cbv
 refine an ?_
 (have e4:fit (gv ⟨on,op⟩) w.1.x.bY w.1.x.gB w.1.x.count=r4:=(by rw [iY,kO];rfl);have e2:c8 w.1.x=rv:=erv.symm;have e6:W w.1.x.path rv.1=r6:=mL.symm;have e7:S=if r6=true∧rv.2=true∧r4.2=true then (r4.1,true) else ([],false):=(by rw [XT,e4,e2,e6,if_neg (by simp [h0])];cases r6<;>cases rv.2<;>cases r4.2<;>simp);clear XT hS;((rw [if_pos ⟨h1.2,h1.1.1,h1.1.2⟩] at e7;simp [ht,e7];done)))
theorem Ut (ht:TT t) (rd nx ef af:Int) {tl:List aR} {ns ps ts js qs es bH:List (List D)} (hts:ts=tl.map aR.cells) (htl:tl.length<100000) (q:aH) (a b c d:Int) (hq:q.length<1000000000000):
 FC 57 [ST q,V4 a b c d,.ep [.int .u64 rd,.int .u64 nx,.sl ns,.sl ps,.sl ts,.sl js,.sl qs,.int .u64 ef,.sl es,.int .u64 af,.sl bH]] [] (.ret (cU (t _ fun _=>decide ((dy tl q ⟨a,b,c,d⟩).2=0)))) []:=by
 refine cr ht Tryz.func57 (N:=18) ?_
 cbv
 have dg:ts.length=tl.length:=by rw [hts,lgM]
 (refine aD (uz ht _ _ _ _ _ hts htl hq) (by simp) (fun r1 cM=>?_);simp only [ht] at cM)
 cbv
 refine an ?_
 (simp only [ht,←cM];done)
theorem RD (ht:TT t) (rd nx ef af:Int) {tl:List aR} {ns ps ts js qs es bH:List (List D)} (hts:ts=tl.map aR.cells) (htl:tl.length<100000) (q:aH) (a b c d:Int) (hq:q.length<1000000000000):
 FC 60 [ST q,V4 a b c d,.ep [.int .u64 rd,.int .u64 nx,.sl ns,.sl ps,.sl ts,.sl js,.sl qs,.int .u64 ef,.sl es,.int .u64 af,.sl bH]] [] (.ret (cU (t _ fun _=>uB tl q ⟨a,b,c,d⟩))) []:=by
 refine cr ht Tryz.func60 (N:=11) ?_
 cbv
 have dg:ts.length=tl.length:=by rw [hts,lgM]
 (refine aG (Rh ht _ _ _ _ _ hts htl hq) (by simp) (fun r1 cM=>?_);simp only [ht] at cM)
 cbv
 refine an ?_
 (simp only [ht,←cM];done)
theorem Uu (ht:TT t) (ns ps:List (List D)):FC 59 [.agg [SL ns,SL ps]] [] (.ret (.agg [SL ns,SL []])) []:=by
 refine cr ht Tryz.func59 (N:=6) ?_
 cbv
 refine an ?_
 rfl
theorem Uv (ht:TT t) (rd nx ef af:Int) {nl:List Node} {pl:List Place} {tl:List aR} {jl:List Jb} {ql:List bK} {el al:List dc} {ns ps ts js qs es bH:List (List D)} (eE:ns=nl.map Node.cells) (hps:ps=pl.map Place.cells) (hts:ts=tl.map aR.cells) (dM:js=jl.map Jb.cells) (dF:qs=ql.map bK.cells) (aC:es=el.map dc.cells) (has:bH=al.map dc.cells) (hs:(⟨rd,nx,⟨nl,pl⟩,tl,jl,ql,⟨ef,el⟩,⟨af,al⟩⟩:aW).sm) (id:Int):FC 20 [.agg [az rd,az nx,SL ns,SL ps,SL ts,SL js,SL qs,az ef,SL es,az af,SL bH],az id] [] (.ret (Iq t (t _ fun _=>oA ⟨rd,nx,⟨nl,pl⟩,tl,jl,ql,⟨ef,el⟩,⟨af,al⟩⟩ id))) []:=by
 obtain ⟨⟨s1,s2⟩,s3,⟨s4,s5⟩,⟨s6,s7⟩,s8,s9,Us⟩:=(show aW.sm _ from hs)
 simp only at s1 s2 s3 s4 s5 s6 s7 s8 s9 Us
 obtain ⟨W,hW⟩:∃W:aH→bE→Bool,W=fun p v=>decide ((dy tl p v).2=0):=⟨_,rfl⟩
 have hA:=IC ht rd nx ef af eE hps hts dM dF aC has hs id eE hps s1 s2 s3 57 [.int .u64 rd,.int .u64 nx,.sl ns,.sl ps,.sl ts,.sl js,.sl qs,.int .u64 ef,.sl es,.int .u64 af,.sl bH] W (fun q a b c d hq=>by rw [hW];exact Ut ht rd nx ef af hts s4 q a b c d hq)
 have hE:oA ⟨rd,nx,⟨nl,pl⟩,tl,jl,ql,⟨ef,el⟩,⟨af,al⟩⟩ id=jP ⟨rd,nx,⟨nl,pl⟩,tl,jl,ql,⟨ef,el⟩,⟨af,al⟩⟩ id ⟨nl,pl⟩ W:=by rw [hW];rfl
 rw [hE]
 have hB:=rI (bx:=[.var [az rd,az nx,SL ns,SL ps,SL ts,SL js,SL qs,az ef,SL es,az af,SL bH]]) (b:=0) (xs:=[.agg [az rd,az nx,SL ns,SL ps,SL ts,SL js,SL qs,az ef,SL es,az af,SL bH],az id,.agg [SL ns,SL ps]]) rfl rfl rfl (cR [] rfl rfl rfl rfl hA)
 refine cr ht Tryz.func20 (N:=14) ?_
 cbv
 obtain ⟨cZ,de,dg,cu,bZ,aF,cw⟩:=fc eE hps hts dM dF aC has
 (refine JO (E:=Iq t) (r0:=t _ fun _=>jP ⟨rd,nx,⟨nl,pl⟩,tl,jl,ql,⟨ef,el⟩,⟨af,al⟩⟩ id ⟨nl,pl⟩ W) trv rfl (by simp) hB (fun r1 cM=>?_);simp only [ht] at cM)
 cbv
 refine an ?_
 (simp [*];done)
theorem xN (ht:TT t) (rd nx ef af:Int) {nl:List Node} {pl:List Place} {tl:List aR} {jl:List Jb} {ql:List bK} {el al:List dc} {ns ps ts js qs es bH:List (List D)} (eE:ns=nl.map Node.cells) (hps:ps=pl.map Place.cells) (hts:ts=tl.map aR.cells) (dM:js=jl.map Jb.cells) (dF:qs=ql.map bK.cells) (aC:es=el.map dc.cells) (has:bH=al.map dc.cells) (hs:(⟨rd,nx,⟨nl,pl⟩,tl,jl,ql,⟨ef,el⟩,⟨af,al⟩⟩:aW).sm) (id:Int):FC 23 [.agg [az rd,az nx,SL ns,SL ps,SL ts,SL js,SL qs,az ef,SL es,az af,SL bH],az id] [] (.ret (cU (t _ fun _=>dK ⟨rd,nx,⟨nl,pl⟩,tl,jl,ql,⟨ef,el⟩,⟨af,al⟩⟩ id))) []:=by
 obtain ⟨⟨s1,s2⟩,s3,⟨s4,s5⟩,⟨s6,s7⟩,s8,s9,Us⟩:=(show aW.sm _ from hs)
 simp only at s1 s2 s3 s4 s5 s6 s7 s8 s9 Us
 obtain ⟨W,hW⟩:∃W:aH→bE→Bool,W=fun p v=>uB tl p v:=⟨_,rfl⟩
 have hA:=IC ht rd nx ef af eE hps hts dM dF aC has hs id (op:=[]) (opr:=[]) eE rfl s1 s2 (by simp) 60 [.int .u64 rd,.int .u64 nx,.sl ns,.sl ps,.sl ts,.sl js,.sl qs,.int .u64 ef,.sl es,.int .u64 af,.sl bH] W (fun q a b c d hq=>by rw [hW];exact RD ht rd nx ef af hts s4 q a b c d hq)
 have hE:dK ⟨rd,nx,⟨nl,pl⟩,tl,jl,ql,⟨ef,el⟩,⟨af,al⟩⟩ id=(jP ⟨rd,nx,⟨nl,pl⟩,tl,jl,ql,⟨ef,el⟩,⟨af,al⟩⟩ id ⟨nl,[]⟩ W).2:=by rw [hW];rfl
 obtain ⟨r,hr⟩:∃r,r=jP ⟨rd,nx,⟨nl,pl⟩,tl,jl,ql,⟨ef,el⟩,⟨af,al⟩⟩ id ⟨nl,[]⟩ W:=⟨_,rfl⟩
 rw [←hr] at hE hA
 rw [hE]
 have hB:=rI (bx:=[.var [az rd,az nx,SL ns,SL ps,SL ts,SL js,SL qs,az ef,SL es,az af,SL bH]]) (b:=0) (xs:=[.agg [az rd,az nx,SL ns,SL ps,SL ts,SL js,SL qs,az ef,SL es,az af,SL bH],az id,.agg [SL ns,SL []]]) rfl rfl rfl (cR [] rfl rfl rfl rfl hA)
 refine cr ht Tryz.func23 (N:=18) ?_
 cbv
 obtain ⟨cZ,de,dg,cu,bZ,aF,cw⟩:=fc eE hps hts dM dF aC has
 refine bS [false,false,false,false,false,false,true,true,false,false,false,true] ?_
 cbv
 iterate 4 refine gI (by simp [ht,bU]) ?_
 refine .inl ?_
 (refine nD (fun g=>⟨by simp [ht],trv,Uu ht ns ps⟩) rfl rfl rfl ?_)
 cbv
 refine gI (by simp [ht,bU]) ?_
 (refine dJ [0] trv rfl rfl hB (cA ?_))
 cbv
 iterate 3 refine gI (by simp [ht,bU]) ?_
 refine an ?_
 (simp only [ht];done)
def iX.aS (_:Th) (x:iX):List D:=[.int .u8 x.kind,.int .u8 x.a,.int .u8 x.b,.int .u8 x.c,.int .u8 x.d]
instance:Inhabited iX:=⟨⟨0,0,0,0,0⟩⟩
structure Told (s:aW) (rd nx:Int) (ns ps ts js qs:List (List D)) (ef:Int) (es:List (List D)) (af:Int) (bH:List (List D)):Prop where
 r:rd=s.round
 x:nx=s.next
 n:ns=s.aY.nodes.map Node.cells
 p:ps=s.aY.places.map Place.cells
 t:ts=s.tree.map aR.cells
 j:js=s.av.map Jb.cells
 q:qs=s.queue.map bK.cells
 f:ef=s.ev.first
 e:es=s.ev.l.map dc.cells
 g:af=s.au.first
 a:bH=s.au.l.map dc.cells
theorem Told.self (s:aW):Told s s.round s.next (s.aY.nodes.map Node.cells) (s.aY.places.map Place.cells) (s.tree.map aR.cells) (s.av.map Jb.cells) (s.queue.map bK.cells) s.ev.first (s.ev.l.map dc.cells) s.au.first (s.au.l.map dc.cells):=
 ⟨rfl,rfl,rfl,rfl,rfl,rfl,rfl,rfl,rfl,rfl,rfl⟩
theorem Told.eq {s:aW} {rd nx ef af:Int} {ns ps ts js qs es bH:List (List D)} (h:Told s rd nx ns ps ts js qs ef es af bH):(⟨rd,nx,⟨s.aY.nodes,s.aY.places⟩,s.tree,s.av,s.queue,⟨ef,s.ev.l⟩,⟨af,s.au.l⟩⟩:aW)=s:=by
 rw [h.r,h.x,h.f,h.g]
end Dem
end
section
open Go
namespace Dem
def j7 (s:aW) (p:cB):aW:=⟨s.round,s.next,p,s.tree,s.av,s.queue,s.ev,s.au⟩
theorem A4 (p:cB) (ha:JS p.nodes) (name:aH) (up:Bool):(fK p name up).1.places=p.places∧∀n∈(fK p name up).1.nodes,∃m∈p.nodes,n.name=m.name∧n.labels=m.labels:=by
 rcases HG p ha name up with ⟨e,_⟩|⟨i,x,hx,hn,_,⟨_,e⟩|⟨_,e⟩⟩
 ·rw [e];exact ⟨rfl,fun n hn=>⟨n,hn,rfl,rfl⟩⟩
 ·rw [e];exact ⟨rfl,fun n hn=>⟨n,hn,rfl,rfl⟩⟩
 rw [e]
 refine ⟨rfl,fun n hn=>?_⟩
 rcases List.mem_or_eq_of_mem_set hn with h|rfl
 ·exact ⟨n,h,rfl,rfl⟩
 exact ⟨x,List.mem_of_getElem? hx,rfl,rfl⟩
theorem aW.ok.Cy {s:aW} (h:s.ok) (name:aH) (up:Bool):(j7 s (fK s.aY name up).1).ok:=by
 obtain ⟨a,b⟩:=TE h.aY h.ie name up
 have e:=(A4 s.aY h.aY.zN name up).1
 exact {aY:=a,ie:=b,tree:=h.tree,used:=h.used,most:=h.most,next:=h.next,ids:=h.ids,vU:=h.vU,sN:=h.sN,left:=h.left,kC:=h.kC,kY:=h.kY,iP:=h.iP,places:=fun x hx=>h.places x (by rw [←e];exact hx),count:=fun j hj hr=>(by show (sZ j.id (fK s.aY name up).1.places:Int)=_;rw [e];exact h.count j hj hr),notes:=h.notes}
theorem RE {A:Ask→Prop} {s:aW} (h:s.ok) (l:s.dD A) (name:aH) (up:Bool):(j7 s (fK s.aY name up).1).dD A:=by
 refine ⟨fun n hn=>?_,l.paths,l.xs⟩
 obtain ⟨m,hm,e1,e2⟩:=(A4 s.aY h.aY.zN name up).2 n hn
 obtain ⟨a,b,c⟩:=l.names m hm
 exact ⟨by rw [e1];exact a,by rw [e2];exact b,by rw [e2];exact c⟩
def iv (s:aW) (l:List Int):aW:=l.foldl (fun s id=>(gG s id 6).1) s
def Mu (s:aW) (name:aH) (c:Nat):aW:=if (tE s.aY name).2.2=0∧c%2=0 then iv (j7 s (tE s.aY name).1) (tE s.aY name).2.1 else j7 s (fK s.aY name true).1
def lB (x:iX) (s:aW):aW:=
 if x.kind%8≤3 then (cY s (CJ x)).1 else
 if x.kind%8≤5 then (if (fit (gv s.aY) (bC s.av (x.a%12:Nat)).1.x.bY (bC s.av (x.a%12:Nat)).1.x.gB (bC s.av (x.a%12:Nat)).1.x.count).2 then
  (cJ s (x.a%12:Nat) (fit (gv s.aY) (bC s.av (x.a%12:Nat)).1.x.bY (bC s.av (x.a%12:Nat)).1.x.gB (bC s.av (x.a%12:Nat)).1.x.count).1).1 else s) else
 if x.kind%8=6 then (send s (x.a%12:Nat) 4).1 else
 Mu s (lm.getD (x.b%3) []) x.c
def gW (n:Nat) (l:List iX) (k:Nat):aW:=(l.take k).foldl (fun s x=>lB x s) (jO n)
theorem ID {n:Nat} {l:List iX} {k:Nat} {x:iX} (h:l[k]?=some x):gW n l (k+1)=lB x (gW n l k):=by
 unfold gW;rw [cV h,List.foldl_append];rfl
def RK (s t:aW):Prop:=∀j∈t.av,j.runs=true→∃k∈s.av,k.runs=true∧k.id=j.id
theorem Uw {s:aW} (h:s.ok) (id kind:Int):RK s (gG s id kind).1:=by
 cases hf:s.av.findIdx? (fun j=>decide (j.id=id)) with
 |none=>unfold gG;rw [hf];exact fun j hj hr=>⟨j,hj,hr,rfl⟩
 |some i=>
  obtain ⟨j,hj,rfl,c⟩:=nH hf
  by_cases hr:j.runs=true
  ·obtain ⟨T,Q,h1,h2⟩:=BQ h hj hr kind
   rw [h2]
   intro y hy hry
   rcases List.mem_or_eq_of_mem_set hy with g|rfl
   ·exact ⟨y,g,hry,rfl⟩
   cases hry
  unfold gG;rw [hf];simp only;rw [c,if_pos (by simpa using hr)];exact fun j hj hr=>⟨j,hj,hr,rfl⟩
theorem Xd {s:aW} (h:s.ok) (id kind:Int):RK s (send s id kind).1:=by
 cases hf:s.av.findIdx? (fun j=>decide (j.id=id)) with
 |none=>unfold send;rw [hf];exact fun j hj hr=>⟨j,hj,hr,rfl⟩
 |some i=>
  obtain ⟨j,hj,rfl,c⟩:=nH hf
  obtain ⟨h1,h2,h3⟩:=zR h hj kind
  have hx:∀z∈s.av.eraseIdx i,z.runs=true→∃w∈s.av,w.runs=true∧w.id=z.id:=fun z hz hr=>⟨z,List.mem_of_mem_eraseIdx hz,hr,rfl⟩
  by_cases hr:j.runs=true
  ·obtain ⟨T,h4,h5⟩:=h3 hr
   rw [h5];exact hx
  rw [h2 (by simpa using hr)];exact hx
def aW.zI (s:aW):Prop:=∀j∈s.av,j.runs=true→j.id<12
theorem RK.zI {s t:aW} (h:RK s t) (f:s.zI):t.zI:=fun j hj hr=>by
 obtain ⟨k,a,b,c⟩:=h j hj hr
 rw [←c];exact f k a b
theorem DY {s:aW} (h:s.ok) (f:s.zI) {id:Int} (hi:id<12) (names:List aH):(cJ s id names).1.zI:=by
 by_cases e:(cJ s id names).2=0
 ·obtain ⟨i,j,T,h1,h2,h3,h4,h5,h6⟩:=xH h e
  rw [h6]
  intro y hy hr
  rcases List.mem_or_eq_of_mem_set hy with g|rfl
  ·exact f y g hr
  show j.id<12;rw [h2];exact hi
 rw [DT e];exact f
theorem B5 {s:aW} (h:s.ok) (f:s.zI) (x:Ask):(cY s x).1.zI:=by
 by_cases e:(cY s x).2.2=0
 ·rw [(KA h e).2.2]
  intro y hy hr
  rcases List.mem_append.1 hy with g|g
  ·exact f y g hr
  rw [List.mem_singleton.1 g] at hr;cases hr
 rw [(DS e).1];exact f
structure aW.good (s:aW):Prop where
 ok:s.ok
 dD:s.dD tI
 zI:s.zI
theorem Ot {s:aW} (h:s.good) (id kind:Int):(gG s id kind).1.good:=⟨h.ok.stop id kind,(KD h.ok id kind).dD h.dD,(Uw h.ok id kind).zI h.zI⟩
theorem RF {s:aW} (h:s.good) (id kind:Int):(send s id kind).1.good:=⟨h.ok.end_ id kind,(DU h.ok id kind).dD h.dD,(Xd h.ok id kind).zI h.zI⟩
theorem B6 {s:aW} (h:s.good) (l:List Int):(iv s l).good:=xw (P:=aW.good) (fun a b g=>Ot g b 6) _ _ h
theorem xO {s:aW} (h:s.good) (name:aH) (up:Bool):(j7 s (fK s.aY name up).1).good:=⟨h.ok.Cy name up,RE h.ok h.dD name up,h.zI⟩
theorem DZ (p:cB) (name:aH):(tE p name).1=(fK p name false).1:=by unfold tE;split<;>rfl
theorem Ou {s:aW} (h:s.good) (x:iX):(lB x s).good:=by
 unfold lB
 split
 ·exact ⟨h.ok.cY (QI x),BR h.dD (mN x),B5 h.ok h.zI _⟩
 split
 ·split
  ·exact ⟨h.ok.Ki _ _,(yX h.ok _ _).dD h.dD,DY h.ok h.zI (by omega) _⟩
  exact h
 split
 ·exact RF h _ _
 unfold Mu
 split
 ·rw [DZ];exact B6 (xO h _ _) _
 exact xO h _ _
theorem rL (n:Nat) (l:List iX) (k:Nat):(gW n l k).good:=
 xw (P:=aW.good) (fun a b h=>Ou h b) _ _ ⟨BB n,yY _ n,fun j hj=>by cases hj⟩
theorem Fu:∀(l:List Int) (a b:Int),l.Pairwise (·<·)→(∀x∈l,a≤x∧x<b)→l.length≤(b-a).toNat
 |[],_,_,_,_=>by simp
 |x::r,a,b,h,g=>by
  obtain ⟨h1,h2⟩:=List.pairwise_cons.1 h
  have h3:=Fu r (x+1) b h2 fun y hy=>⟨h1 y hy,(g y (by simp [hy])).2⟩
  have h4:=g x (by simp)
  simp only [List.length_cons];omega
theorem Mv {s:aW} (h:s.good) (name:aH):(EZ name s.aY.places).length≤12:=by
 have h1:=Fu (EZ name s.aY.places) 1 12 (QA _ _) fun x hx=>by
  obtain ⟨y,hy,_,rfl⟩:=Qz.1 hx
  obtain ⟨j,hj,hr,e,_⟩:=h.ok.places y hy
  rw [←e]
  exact ⟨(h.ok.vU j hj).1,h.zI j hj hr⟩
 omega
end Dem
end
section
open Go Dem Go.Proofs
namespace Dem
variable {t:Th}
theorem uE {s:aW} (h:s.sm):∀x∈s.av,x.x.gB.u'∧x.x.path.length<1000000000000:=fun x hx=>⟨(h.av.2 x hx).1.2.1,(h.av.2 x hx).1.1⟩
theorem tJ {s:aW} {l:List Int} {k:Nat} {x:Int} (h:l[k]?=some x):aT s (l.take (k+1))=(gG (aT s (l.take k)) x 5).1:=by
 unfold aT;rw [cV h,List.foldl_append];rfl
theorem aW.good.sm {s:aW} (h:s.good):s.sm:=h.ok.small h.dD
theorem KZ (ht:TT t) (rd nx ef af:Int) {nl:List Node} {pl:List Place} {tl:List aR} {jl:List Jb} {ql:List bK} {el al:List dc} {ns ps ts js qs es bH:List (List D)} (eE:ns=nl.map Node.cells) (hps:ps=pl.map Place.cells) (hts:ts=tl.map aR.cells) (dM:js=jl.map Jb.cells) (dF:qs=ql.map bK.cells) (aC:es=el.map dc.cells) (has:bH=al.map dc.cells) {ids:List Int} {ir:List (List D)} (ZG:ir=ids.map Int.cells) (hil:ids.length<1000000) (hg:∀k,(aT ⟨rd,nx,⟨nl,pl⟩,tl,jl,ql,⟨ef,el⟩,⟨af,al⟩⟩ (ids.take k)).sm):
 FC 53 [.agg [az rd,az nx,SL ns,SL ps,SL ts,SL js,SL qs,az ef,SL es,az af,SL bH],SL ir] [] (.ret (ff t (t _ fun _=>aT ⟨rd,nx,⟨nl,pl⟩,tl,jl,ql,⟨ef,el⟩,⟨af,al⟩⟩ ids))) []:=by
 obtain ⟨S,hS⟩:∃S:aW,S=⟨rd,nx,⟨nl,pl⟩,tl,jl,ql,⟨ef,el⟩,⟨af,al⟩⟩:=⟨_,rfl⟩
 rw [←hS] at hg ⊢
 have wo:Told S rd nx ns ps ts js qs ef es af bH:=by rw [hS];exact ⟨rfl,rfl,eE,hps,hts,dM,dF,rfl,aC,rfl,has⟩
 clear hS
 refine cr ht Tryz.func53 (N:=21) ?_
 cbv
 obtain ⟨cZ,de,dg,cu,bZ,aF,cw⟩:=fc eE hps hts dM dF aC has
 have K0:ir.length=ids.length:=by rw [ZG,lgM]
 obtain ⟨J0,dz⟩:∃J0:Nat→Int×Int×Int×List (List D)×List (List D)×List (List D)×List (List D)×List (List D)×Int×List (List D)×Int×List (List D)→Prop,∀n i rd nx ns ps ts js qs ef es af bH,J0 n (i,rd,nx,ns,ps,ts,js,qs,ef,es,af,bH)↔(∃k:Nat,i=k∧k+n=ids.length∧Told (aT S (ids.take k)) rd nx ns ps ts js qs ef es af bH):=⟨fun n v=>match v with|(i,rd,nx,ns,ps,ts,js,qs,ef,es,af,bH)=>(∃k:Nat,i=k∧k+n=ids.length∧Told (aT S (ids.take k)) rd nx ns ps ts js qs ef es af bH),fun _ _ _ _ _ _ _ _ _ _ _ _ _=>Iff.rfl⟩
 refine bA ⟨[2,4,7,8,9],[],[]⟩ (σ:=Int×Int×Int×List (List D)×List (List D)×List (List D)×List (List D)×List (List D)×Int×List (List D)×Int×List (List D)) (fun v=>[(9,.d (.int .i64 (t _ fun _=>v.1)))]) (fun v=>[(0,.var [.d (.int .u64 (t _ fun _=>v.2.1)),.d (.int .u64 (t _ fun _=>v.2.2.1)),.d (.sl (t _ fun _=>v.2.2.2.1)),.d (.sl (t _ fun _=>v.2.2.2.2.1)),.d (.sl (t _ fun _=>v.2.2.2.2.2.1)),.d (.sl (t _ fun _=>v.2.2.2.2.2.2.1)),.d (.sl (t _ fun _=>v.2.2.2.2.2.2.2.1)),.d (.int .u64 (t _ fun _=>v.2.2.2.2.2.2.2.2.1)),.d (.sl (t _ fun _=>v.2.2.2.2.2.2.2.2.2.1)),.d (.int .u64 (t _ fun _=>v.2.2.2.2.2.2.2.2.2.2.1)),.d (.sl (t _ fun _=>v.2.2.2.2.2.2.2.2.2.2.2))])]) J0 ?_
 cbv
 refine aE ⟨ids.length,(_,_,_,_,_,_,_,_,_,_,_,_),(dz _ _ _ _ _ _ _ _ _ _ _ _ _).2 ?_,by simp only [ht];rfl,?_⟩
 ·exact ⟨0,rfl,by simp,wo⟩
 rintro n ⟨i,rd,nx,ns,ps,ts,js,qs,ef,es,af,bH⟩ hj
 replace hj:=(dz _ _ _ _ _ _ _ _ _ _ _ _ _).1 hj
 obtain ⟨k,rfl,j1,jT⟩:=hj
 cbv
 apply ap<;>intro h1
 ·simp [ht,ah,K0] at h1
  cbv
  refine ig ht ZG (cT:=Int.aS t) (by (simp only [ht,ah];omega)) (by (simp only [ht,ah];omega)) (fun _=>rfl) (fun _=>rfl) (fun x2 gX=>?_)
  simp [ht,ah] at gX
  cbv
  (have qi:=hg k;refine aD (Fs ht _ _ _ _ (nl:=(aT S (ids.take k)).aY.nodes) (pl:=(aT S (ids.take k)).aY.places) (tl:=(aT S (ids.take k)).tree) (jl:=(aT S (ids.take k)).av) (ql:=(aT S (ids.take k)).queue) (el:=(aT S (ids.take k)).ev.l) (al:=(aT S (ids.take k)).au.l) (by simp only [ht];exact jT.n) (by simp only [ht];exact jT.p) (by simp only [ht];exact jT.t) (by simp only [ht];exact jT.j) (by simp only [ht];exact jT.q) (by simp only [ht];exact jT.e) (by simp only [ht];exact jT.a) _ _ (uE qi) qi.tree.1 qi.av.1 qi.places qi.queue qi.notes.1) (by simp) (fun r1 cM=>?_);simp only [ht] at cM;rw [jT.eq] at cM)
  cbv
  refine bG (_,_,_,_,_,_,_,_,_,_,_,_) (by simp only [ht];rfl) (n-1) ?_ ((dz _ _ _ _ _ _ _ _ _ _ _ _ _).2 ?_)
  ·omega
  simp only [ah]
  exact ⟨k+1,aB (by ((try simp only [ah] at*);omega)),by ((try simp only [ah] at*);omega),by rw [tJ gX,←cM];exact Told.self r1.1⟩
 simp [ht,ah,K0] at h1
 cbv
 refine an ?_
 (rw [List.take_of_length_le (by ((try simp only [ah] at*);omega))] at jT;simp only [ht,jT.r,jT.x,jT.n,jT.p,jT.t,jT.j,jT.q,jT.f,jT.e,jT.g,jT.a];done)
end Dem
end
section
open Go Go.Maps
namespace Dem
abbrev gL:Int→Value:=Value.int .u64
def zf:Lit→Int
 |.int _ a=>a
 |_=>0
def pP {H:Type}:DataW H→List Int
 |.map es=>es.map fun p=>zf p.1
 |_=>[]
theorem B7 {x y:Int} (h:gL x=gL y):x=y:=by
 injection h
theorem oD {P:Program} {k:TypeId} (hk:P.underlying k=some (.int .u64)) {key:Value} {kl:Lit} (h:keyOf P k key=some kl):∃x:Int,key=gL x∧kl=.int .u64 x∧(Lit.int .u64 x).wf=true:=by
 cases key<;>simp [keyOf,hk,mapKey] at h
 rename_i q a
 obtain ⟨⟨rfl,hw⟩,rfl⟩:=h
 exact ⟨a,rfl,rfl,hw⟩
def fI {H:Type} (D0:DataW H) (left:Lit→Bool) (ss:List Int):Prop:=ss.Nodup∧∀x,x∈ss↔(has D0 (.int .u64 x)=true∧left (.int .u64 x)=false)
section
variable {H:Type} {D0:DataW H} {left:Lit→Bool} {ss:List Int}
theorem fI.start (D0:DataW H):fI D0 (has D0) []:=by
 refine ⟨List.nodup_nil,fun x=>?_⟩
 cases has D0 (.int .u64 x)<;>simp
theorem fI.step (h:fI D0 left ss) {x:Int} {y:DataW H} (hlk:left (.int .u64 x)=true) (hat:∀zd,D0.atKey (.int .u64 x) zd=y):fI D0 (fun z=>left z&&!z.sameKey (.int .u64 x)) (ss++[x]):=by
 obtain ⟨h1,h2⟩:=h
 have hh:=has_true_of_atKey hat
 have hn:x ∉ ss:=by
  intro hx
  rw [((h2 x).1 hx).2] at hlk
  cases hlk
 constructor
 ·rw [List.nodup_append]
  refine ⟨h1,by simp,?_⟩
  intro a ha b hb e
  simp only [List.mem_singleton] at hb
  exact hn (by rw [←hb,←e];exact ha)
 intro z
 by_cases hz:z=x
 ·subst hz;simp [hh,Lit.sameKey]
 simp [h2 z,hz,Lit.sameKey]
variable {P:Program} {k:TypeId} {R:Value→Option (DataW H×List MemPlace)} {w:World} {b n:Nat}
theorem fI.perm (h:fI D0 left ss) (hown:w.ownsMap P k R b n D0) (K:Keyed P k) (hk:P.underlying k=some (.int .u64)) (hl:∀kl,left kl=false):ss.Perm (pP D0):=by
 obtain ⟨es,hD,hpw,_⟩:=hown.entries K
 obtain ⟨es',hD',hko⟩:=hown.keysOf
 rw [hD] at hD'
 obtain rfl:es=es':=by simpa using hD'
 subst hD
 have hkey:∀p∈es,∃x,p.1=.int .u64 x:=by
  intro p hp
  obtain ⟨v,hv⟩:=hko p hp
  obtain ⟨x,_,hx,_⟩:=oD hk hv
  exact ⟨x,hx⟩
 refine (List.perm_ext_iff_of_nodup h.1 ?_).2 ?_
 ·show (es.map fun p=>zf p.1).Nodup
  refine List.pairwise_map.2 (hpw.imp_of_mem ?_)
  intro p q hp hq hne e
  obtain ⟨a,ha⟩:=hkey p hp
  obtain ⟨c,hc⟩:=hkey q hq
  rw [ha,hc] at hne e
  exact hne (congrArg _ e)
 intro x
 rw [h.2 x,hl]
 simp only [and_true]
 rw [has_eq,List.any_eq_true]
 show _↔x∈es.map fun p=>zf p.1
 rw [List.mem_map]
 constructor
 ·rintro ⟨p,hp,hs⟩
  obtain ⟨a,ha⟩:=hkey p hp
  refine ⟨p,hp,?_⟩
  rw [ha] at hs ⊢
  simpa [Lit.sameKey,zf] using hs
 rintro ⟨p,hp,rfl⟩
 obtain ⟨a,ha⟩:=hkey p hp
 exact ⟨p,hp,by rw [ha];simp [Lit.sameKey,zf]⟩
end
end Dem
end
