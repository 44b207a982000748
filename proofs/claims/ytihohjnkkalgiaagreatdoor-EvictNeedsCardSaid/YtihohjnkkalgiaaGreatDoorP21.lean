/- Parts of a proof, joined. -/
import Derived.Test.YtihohjnkkalgiaaGreatDoorP20
set_option linter.all false
set_option maxRecDepth 100000
set_option maxHeartbeats 4000000
section
open Go
namespace Dem
section
variable {P:Program} {T:Nat→Option TI} {G:Nat→Option (List D)} {N K:Nat}
theorem zu (hT:jL P T) (hD:oN P T G) {f N:Nat} {fn:Func} {c:Code} {args:List AV} {aI aP:List ay} {res:iy} (hf:P.funcs[f]?=some fn) (hb:fn.body=some c)
 (hname:(fn.name== "runtime.NumGoroutine")=false) (hN:fn.ntmps=N) (hlen:Nat.ble args.length N=true) {pre rest:List Code} (hc:flat c=pre++rest) (R:St→Prop)
 (hr:∀(X:Nat→Prop) (β0:Nat→Nat) (w0:World) (β:Nat→Nat) (w:World) (s:St) (a:Act),Ext β0 aI w0 β s.bx w→Fr G N [] β w X s a→R s→
  rJ P rest (fX G N [] X β0 aI w0 (vQ t0 T fn.results.toList aI.length res aP)) a w)
 (h:MD t0 (bA P G) T G N aI.length pre (fun e s=>match e with|.normal=>R s|e=>vQ t0 T fn.results.toList aI.length res aP e s) ⟨oD 0 args,aI⟩):bA P G f args aI res aP:=by
 refine sP hT hf hb hname hN hlen fun β w X a hF=>wp_mono (Ca c ?_) (fun _ _ _ hl=>fX.imp (fun _ _ hq=>Iy hq) hl)
 rw [hc]
 refine vS (Ev ?_ (rK (X:=X) (β0:=β) (aI:=aI) (w0:=w) hT hD (Nat.le_refl _) pre _ β w _ a (Ext.refl _ _ _) hF h))
 intro e a1 w1 hl
 cases e<;>simp only [fX,Exit.then] at hl ⊢
 ·obtain ⟨β1,s1,xH,FK,hR⟩:=hl
  exact hr X β w β1 w1 s1 a1 xH FK hR
 all_goals exact hl
structure Sy (n:Nat) (K:Nat→Prop):Prop where
 ok:∀c,n≤c→(n=0→c=0)→K c
def NI (t:Th) (FC:Nat→List AV→List ay→iy→List ay→Prop) (T:Nat→Option TI) (G:Nat→Option (List D)) (N K:Nat) (post:List Code) (i:Nat) (Q:Ex→St→Prop) (s:St):Prop:=
 match fU i s.sl with
 |.ow b sz n=>Sy n fun c=>MD t FC T G N K post Q ⟨put i (.vw b sz 0 n c true) s.sl,s.bx⟩
 |_=>False
theorem Fm (hT:jL P T) (hD:oN P T G) {aI:List ay} (hK:aI.length≤K) {post:List Code} {i:Nat} {Q:Ex→St→Prop} {X:Nat→Prop} {β0:Nat→Nat} {w0:World} {β:Nat→Nat} {w:World} {s:St} {a:Act} (ex:Ext β0 aI w0 β s.bx w) (hF:Fr G N [] β w X s a)
 (h:NI t0 (bA P G) T G N K post i Q s):rJ P post (fX G N [] X β0 aI w0 Q) a w:=by
 unfold NI at h
 split at h
 case h_2=>exact h.elim
 rename_i b sz n hi
 obtain ⟨h⟩:=h
 have hx:=hF.xP i
 rw [hi] at hx
 simp only [aj] at hx
 have key:∀c,n≤c→(n=0→c=0)→aj β s.bx w (bc β s.bx w X) (.vw b sz 0 n c true) (a.tmps.getD i undef)→rJ P post (fX G N [] X β0 aI w0 Q) a w:=by
  intro c h1 h2 h3
  refine rK hT hD hK post Q β w ⟨put i (.vw b sz 0 n c true) s.sl,s.bx⟩ a ex ⟨hF.cx,hF.defers,hF.size,fun t=>?_⟩ (h c h1 h2)
  rw [nF]
  by_cases ht:t=i
  ·subst ht;rw [if_pos rfl];exact h3
  rw [if_neg ht];exact hF.xP t
 obtain ⟨hb,⟨rfl,base,e⟩|⟨h0,cap,c,e1,f',e,h1,h2,h3⟩⟩:=hx
 ·refine key 0 (Nat.le_refl _) (fun _=>rfl) ?_
  rw [e]
  simp only [aj]
  exact ⟨hb,base,0,#[],0,(0,0),rfl,Nat.le_refl _,Nat.le_refl _,fun _=>rfl,.inl rfl⟩
 refine key cap h1 (fun h=>absurd h h0) ?_
 rw [e]
 simp only [aj]
 exact ⟨hb,_,cap,c,e1,f',rfl,h1,Nat.le_refl _,fun _=>rfl,.inr ⟨by simp,h2,by simpa using h3⟩⟩
end
end Dem
end
section
open Go Dem Go.Proofs
namespace Dem
theorem ZD {t:Th} (ht:TT t) (k i:Nat) {f N:Nat} {fn:Func} {c:Code} {args:List AV} {aI aP:List ay} {res:iy} (hf:Tryz.prog.funcs[f]?=some fn) (hb:fn.body=some c)
 (hname:(fn.name== "runtime.NumGoroutine")=false) (hN:fn.ntmps=N) {rs:List ResultVar} (OC:fn.results.toList=rs) {n:Nat} (hn:aI.length=n) (hlen:Nat.ble args.length N=true)
 (h:MD t FC tT gl N n ((flat c).take k) (fun e s=>match e with|.normal=>NI t FC tT gl N n ((flat c).drop k) i (vQ t tT rs n res aP) s|e=>vQ t tT rs n res aP e s) ⟨oD 0 args,aI⟩):FC f args aI res aP:=by
 subst OC;subst hn
 have e:=ht.eq
 subst e
 exact zu Q3 GA hf hb hname hN hlen (List.take_append_drop k (flat c)).symm _ (fun X β0 w0 β w s a ex hF hR=>Fm Q3 GA (Nat.le_refl _) ex hF hR) h
end Dem
end
section
open Go Dem Go.Proofs
namespace Dem
variable {t:Th}
theorem KM {l:List cR} {es:List (List D)} {i m:Nat} (aA:es=l.map cR.cells) (hi:i<l.length) (hm:m+1=l.length):
 wrote (wrote (List.replicate m [D.int IntKind.u64 0,D.int IntKind.i64 0]) 0 (es.take i)) i (es.drop (i+1))=(l.eraseIdx i).map cR.cells:=by
 have hl:es.length=l.length:=by rw [aA,lgM]
 simp only [wrote,List.take_zero,List.nil_append,Nat.zero_add,List.length_take,List.length_drop,List.drop_replicate,List.eraseIdx_eq_take_drop_succ,List.map_append,List.map_take,List.map_drop,←aA]
 have d1:(List.take i es).length=i:=by rw [List.length_take];omega
 have d2:List.drop (i+(es.length-(i+1))) (List.take i es++List.replicate (m-i) [D.int IntKind.u64 0,D.int IntKind.i64 0])=[]:=List.drop_eq_nil_of_le (by rw [List.length_append,d1,List.length_replicate];omega)
 rw [Nat.min_eq_left (by omega),List.take_append_of_le_length (by omega),List.take_take,Nat.min_self,d2,List.append_nil]
theorem Fo (ht:TT t) (id:Int) {l:List cR} {es:List (List D)} (aA:es=l.map cR.cells) (hl:l.length<1000000):
 FC 63 [SL es,az id] [] (.ret (U2 t (t _ fun _=>yE l id))) []:=by
 refine ZD ht 5 7 (aI:=[]) Tryz.func63 rfl rfl (N:=32) rfl rfl (n:=0) rfl rfl ?_
 cbv
 have av:es.length=l.length:=by rw [aA,lgM]
 refine aZ trv (Bf ht _ ‹_› (by omega)) trv rfl rfl (fun r0 cF=>?_)
 simp only [ht] at cF
 have ec:=cE cF
 clear cF
 rcases ec with ⟨e1,e2,e3⟩|⟨i,x,hi,hil,e1,e2,e3,e4⟩
 ·cbv
  refine an (fun h1=>?_) (fun h1=>?_)
  ·simp [ht] at h1
   cbv
   refine ax trv trv rfl rfl rfl ?_
   (simp [yE, *];done)
  simp [ht] at h1
  omega
 obtain ⟨m,hm⟩:∃m,m+1=l.length:=⟨l.length-1,by omega⟩
 obtain ⟨i1,hi1⟩:∃n,n=i+1:=⟨_,rfl⟩
 obtain ⟨mi,vM⟩:∃n,n=m-i:=⟨_,rfl⟩
 have tr:=KM aA hil hm
 rw [←hi1] at tr
 obtain ⟨R1,NG⟩:∃R,R=wrote (List.replicate m [D.int IntKind.u64 0,D.int IntKind.i64 0]) 0 (es.take i):=⟨_,rfl⟩
 obtain ⟨R2,NH⟩:∃R,R=wrote R1 i (es.drop i1):=⟨_,rfl⟩
 have hr:∀r∈es,r.length=2:=by rw [aA];intro r hr;obtain ⟨y,_,rfl⟩:=List.mem_map.1 hr;rfl
 have hw:IntKind.i64.wrap ((es.length:Int)-1)=(m:Int):=by rw [wrap64 (by omega) (by omega)];omega
 have hw1:IntKind.i64.wrap (r0+1)=(i1:Int):=by rw [wrap64 (by omega) (by omega)];omega
 have uQ:R1.length=m:=by rw [NG];simp [wrote];omega
 have U6:R2.length=m:=by rw [NH];simp [wrote,uQ];omega
 rw [←NG,←NH] at tr
 cbv
 refine an (fun h2=>?_) (fun h2=>?_)
 ·simp [ht] at h2
  rw [hi] at h2;simp only [aa] at h2;exact absurd h2 (by omega)
 simp [ht] at h2
 cbv
 refine ⟨?_,?_⟩
 ·simp only [aa] at hw;simp only [ht,aa,hw];refine ⟨by omega,trv,?_⟩;simp only [Int.toNat_natCast];omega
 refine ⟨fun c hc hc0=>?_⟩
 cbv
 simp only [aa] at hw hi hw1 tr
 have hcm:m≤c:=by simpa only [ht,aa,hw,Int.toNat_natCast] using hc
 refine ⟨?_,?_⟩
 ·simp only [ht,bJ];exact ⟨⟨h2,by omega⟩,hr⟩
 refine bE (bG (i:Int)) [.row 2 R1] ?_ ?_ ?_ ?_
 ·simp only [ht,aa,hw,hi,gq,Int.toNat_natCast,eB,List.length_take,List.length_replicate]
  refine ⟨⟨by omega,fun h=>?_⟩,fun r h=>hr r (List.mem_of_mem_take (List.mem_of_mem_take h))⟩
  have:=congrArg List.length h
  simp only [List.length_replicate,List.length_nil] at this
  omega
 ·simp only [ht,aa,hw,hi,gq,Int.toNat_natCast,List.length_take]
  rw [Nat.min_eq_left (by omega),Nat.min_eq_left (by omega)]
 ·simp only [ht,aa,hw,hi,gq,Int.toNat_natCast,List.length_take]
  rw [NG,Nat.min_eq_left (by omega),Nat.min_eq_left (by omega),List.take_take,Nat.min_self]
 cbv
 refine c7 [false,false,false,false,false,false,false,true] (by kernel_rfl) (by kernel_rfl) ?_
 cbv
 refine gI (by simp) (gI (by simp) ?_)
 obtain ⟨ci,ot⟩:∃n,n=c-i:=⟨_,rfl⟩
 refine gE (.vw 0 2 i mi ci true) (fun _=>⟨?_,?_⟩) ?_
 ·simp only [ht,aa,hw,hi,dF,bJ,Int.toNat_natCast];omega
 ·simp only [ht,aa,hw,hi,aS,aM,Int.toNat_natCast,Option.getD_some,Nat.zero_add];rw [vM,ot]
 cbv
 refine gI (by simp) (gI (by simp) (gI (by simp) (gI (fun _=>?_) ?_)))
 ·simp only [ht,aa,hw1,bJ];exact ⟨⟨by omega,by omega⟩,hr⟩
 refine bE (bG (mi:Int)) [.row 2 R2,.bt] ?_ ?_ ?_ ?_
 ·simp only [ht,aa,hw1,gq,Int.toNat_natCast,eB,List.length_drop]
  refine ⟨⟨by omega,fun h=>?_⟩,fun r h=>hr r (List.mem_of_mem_drop (List.mem_of_mem_take h))⟩
  rw [h] at uQ;simp only [List.length_nil] at uQ;omega
 ·simp only [ht,aa,hw1,gq,Int.toNat_natCast,List.length_drop]
  rw [Nat.min_eq_right (by omega)]
 ·simp only [ht,aa,hw1,gq,Int.toNat_natCast,List.length_drop]
  rw [NH,List.take_of_length_le (by rw [List.length_drop];omega)]
 cbv
 refine ax trv ?_ rfl rfl rfl ?_
 ·simp only [ht,aa,hw,Int.toNat_natCast];exact ⟨by omega,trv⟩
 simp only [ht,aa,hw,Int.toNat_natCast,yE,e3,List.drop_zero,tr]
 rw [List.take_of_length_le (by rw [←tr];omega)]
theorem Ht {l:List Jb} {id r:Int} (h:r=GL l id) {P:Jb→Prop} (hP:∀x∈l,P x):(r=-1∧l.findIdx? (fun j=>decide (j.id=id))=none)∨
 ∃(i:Nat) (xi xa xb xc xd xn xp xt xf:Int) (xq:aQ) (xr:Bool) (xl:List Term),r=i∧i<l.length∧l[i]?=some ⟨xi,⟨xq,⟨xa,xb,xc,xd⟩,xn,xp,xt,xl⟩,xr,xf⟩∧l.findIdx? (fun j=>decide (j.id=id))=some i∧
  l.getD i Jb.zero=⟨xi,⟨xq,⟨xa,xb,xc,xd⟩,xn,xp,xt,xl⟩,xr,xf⟩∧P ⟨xi,⟨xq,⟨xa,xb,xc,xd⟩,xn,xp,xt,xl⟩,xr,xf⟩∧xi=id:=by
 rcases cE h with ⟨e1,e2,_⟩|⟨i,⟨xi,⟨xq,⟨xa,xb,xc,xd⟩,xn,xp,xt,xl⟩,xr,xf⟩,e1,e2,e3,e4,e5,_⟩
 ·exact .inl ⟨e1,e2⟩
 exact .inr ⟨i,xi,xa,xb,xc,xd,xn,xp,xt,xf,xq,xr,xl,e1,e2,e3,e5,by rw [List.getD_eq_getElem?_getD,e3];rfl,hP _ (List.mem_of_getElem? e3),by simpa using e4⟩
theorem iS (s:bH) (j:Jb):mj s j=⟨s.round,s.next,(mj s j).bz,(mj s j).tree,s.aG,s.queue,s.ev,s.au⟩:=rfl
theorem wW (ht:TT t) (rd nx ef af:Int) {nl:List Node} {pl:List Place} {tl:List bu} {jl:List Jb} {ql:List cR} {el al:List eI} {ns ps ts js qs es cQ:List (List D)} (fC:ns=nl.map Node.cells) (hps:ps=pl.map Place.cells) (hts:ts=tl.map bu.cells) (eZ:js=jl.map Jb.cells) (eU:qs=ql.map cR.cells) (aA:es=el.map eI.cells) (has:cQ=al.map eI.cells) (id kd:Int) (uO:∀x∈jl,x.x.gB.u'∧x.x.path.length<1000000000000) (htl:tl.length<100000) (hjl:jl.length<1000000) (Ge:pl.length<1000000) (Rd:ql.length<1000000) (hel:el.length<1000000):
 FC 39 [.agg [az rd,az nx,SL ns,SL ps,SL ts,SL js,SL qs,az ef,SL es,az af,SL cQ],az id,bG kd] [] (.ret (zb t (t _ fun _=>eJ ⟨rd,nx,⟨nl,pl⟩,tl,jl,ql,⟨ef,el⟩,⟨af,al⟩⟩ id kd))) []:=by
 refine bL ht (aI:=[]) Tryz.func39 rfl rfl (N:=49) rfl rfl (n:=0) rfl rfl ?_
 cbv
 have aU:ns.length=nl.length:=by rw [fC,lgM]
 have aW:ps.length=pl.length:=by rw [hps,lgM]
 have aV:ts.length=tl.length:=by rw [hts,lgM]
 have aX:js.length=jl.length:=by rw [eZ,lgM]
 have aK:qs.length=ql.length:=by rw [eU,lgM]
 have av:es.length=el.length:=by rw [aA,lgM]
 have aJ:cQ.length=al.length:=by rw [has,lgM]
 refine aZ trv (qu ht _ _ _ _ _ _ _ _ _ _ _ ‹_› (by omega)) trv rfl rfl (fun r0 cF=>?_)
 simp only [ht] at cF
 have ec:=Ht cF uO
 clear cF
 rcases ec with ⟨e1,e2⟩|⟨i,xi,xa,xb,xc,xd,xn,xp,xt,xf,xq,xr,xl,e1,e2,e3,e4,e5,⟨e6,e7⟩,e8⟩
 ·cbv
  refine an (fun h1=>?_) (fun h1=>?_)
  ·simp [ht] at h1
   cbv
   refine ax trv trv rfl rfl rfl ?_
   (simp [eJ, *];done)
  simp [ht] at h1
  omega
 cbv
 refine an (fun h2=>?_) (fun h2=>?_)
 ·simp [ht] at h2
  (simp only [aa] at*;omega)
 simp [ht] at h2
 cbv
 refine yC ht eZ (cT:=Jb.bC t) e3 ‹_› (fun _=>rfl) (fun _=>(by (simp only [ht,Jb.bC];rfl))) ?_
 cbv
 refine an (fun h4=>?_) (fun h4=>?_)
 ·simp [ht] at h4
  cbv
  refine ax trv trv rfl rfl rfl ?_
  (simp only [ht,eJ,e4,e5];simp [*];done)
 simp [ht] at h4
 cbv
 refine aB trv (Fl ht _ _ _ _ ‹_› ‹_› ‹_› ‹_› ‹_› ‹_› ‹_› _ _ _ _ _ _ _ _ _ _ _ (jY ht rfl) ‹_› ‹_› ‹_› ‹_›) trv rfl rfl rfl (fun r5 tP=>?_)
 simp only [ht] at tP
 (rw [iS] at tP;generalize L4:(mj ⟨rd,nx,⟨nl,pl⟩,tl,jl,ql,⟨ef,el⟩,⟨af,al⟩⟩ ⟨xi,⟨xq,⟨xa,xb,xc,xd⟩,xn,xp,xt,xl⟩,xr,xf⟩).bz=fp at tP;generalize hft:(mj ⟨rd,nx,⟨nl,pl⟩,tl,jl,ql,⟨ef,el⟩,⟨af,al⟩⟩ ⟨xi,⟨xq,⟨xa,xb,xc,xd⟩,xn,xp,xt,xl⟩,xr,xf⟩).tree=ft at tP;subst r5)
 cbv
 refine aB trv (yZ ht _ _ (jY ht rfl) ‹_›) trv rfl rfl rfl (fun r6 mG=>?_)
 simp only [ht] at mG
 cbv
 refine aB trv (I3 ht _ _ _ _ (jY ht rfl) (jY ht rfl) (jY ht rfl) (jY ht rfl) (jY ht rfl) (jY ht rfl) (jY ht rfl) _ _ _ _ _ _ _ _ _ _ _ (jY ht rfl) ‹_› ‹_› ‹_›) trv rfl rfl rfl (fun r7 Bn=>?_)
 simp only [ht] at Bn
 have VL:(r7).ev.l.length<1000000:=by rw [Bn];exact hel
 cbv
 refine aB trv (m7 ht _ _ _ _ _ _ (jY ht rfl) (jY ht rfl) (jY ht rfl) (jY ht rfl) (jY ht rfl) (jY ht rfl) (jY ht rfl) ‹_›) trv rfl rfl rfl (fun r8 Tr=>?_)
 simp only [ht] at Tr
 cbv
 refine ax trv trv rfl rfl rfl ?_
 (simp only [ht,eJ,e4,e5,Tr,Bn,mG];rw [iS,L4,hft];simp [*];done)
theorem Sz (ht:TT t) (rd nx ef af:Int) {nl:List Node} {pl:List Place} {tl:List bu} {jl:List Jb} {ql:List cR} {el al:List eI} {ns ps ts js qs es cQ:List (List D)} (fC:ns=nl.map Node.cells) (hps:ps=pl.map Place.cells) (hts:ts=tl.map bu.cells) (eZ:js=jl.map Jb.cells) (eU:qs=ql.map cR.cells) (aA:es=el.map eI.cells) (has:cQ=al.map eI.cells) (id kd:Int) (uO:∀x∈jl,x.x.gB.u'∧x.x.path.length<1000000000000) (htl:tl.length<100000) (hjl:jl.length<1000000) (Ge:pl.length<1000000) (Rd:ql.length<1000000) (hel:el.length<1000000):
 FC 24 [.agg [az rd,az nx,SL ns,SL ps,SL ts,SL js,SL qs,az ef,SL es,az af,SL cQ],az id,bG kd] [] (.ret (zb t (t _ fun _=>send ⟨rd,nx,⟨nl,pl⟩,tl,jl,ql,⟨ef,el⟩,⟨af,al⟩⟩ id kd))) []:=by
 refine bL ht (aI:=[]) Tryz.func24 rfl rfl (N:=48) rfl rfl (n:=0) rfl rfl ?_
 cbv
 have aU:ns.length=nl.length:=by rw [fC,lgM]
 have aW:ps.length=pl.length:=by rw [hps,lgM]
 have aV:ts.length=tl.length:=by rw [hts,lgM]
 have aX:js.length=jl.length:=by rw [eZ,lgM]
 have aK:qs.length=ql.length:=by rw [eU,lgM]
 have av:es.length=el.length:=by rw [aA,lgM]
 have aJ:cQ.length=al.length:=by rw [has,lgM]
 refine aZ trv (qu ht _ _ _ _ _ _ _ _ _ _ _ ‹_› (by omega)) trv rfl rfl (fun r0 cF=>?_)
 simp only [ht] at cF
 have ec:=Ht cF uO
 clear cF
 rcases ec with ⟨e1,e2⟩|⟨i,xi,xa,xb,xc,xd,xn,xp,xt,xf,xq,xr,xl,e1,e2,e3,e4,e5,⟨e6,e7⟩,e8⟩
 ·cbv
  refine an (fun h1=>?_) (fun h1=>?_)
  ·simp [ht] at h1
   cbv
   refine ax trv trv rfl rfl rfl ?_
   (simp [send, *];done)
  simp [ht] at h1
  omega
 cbv
 refine an (fun h2=>?_) (fun h2=>?_)
 ·simp [ht] at h2
  (simp only [aa] at*;omega)
 simp [ht] at h2
 cbv
 refine yC ht eZ (cT:=Jb.bC t) e3 ‹_› (fun _=>rfl) (fun _=>(by (simp only [ht,Jb.bC];rfl))) ?_
 cbv
 refine an (fun h4=>?_) (fun h4=>?_)
 ·cbv
  refine c7 [false,false,false,false,false,false,true,true] (by kernel_rfl) (by kernel_rfl) ?_
  cbv
  iterate 4 refine gI (by simp) ?_
  refine yC ht eZ (cT:=Jb.bC t) e3 ‹_› (fun _=>rfl) (fun _=>(by (simp only [ht,Jb.bC];rfl))) ?_
  cbv
  refine gI (by simp) ?_
  refine aB trv (Fl ht _ _ _ _ ‹_› ‹_› ‹_› ‹_› ‹_› ‹_› ‹_› _ _ _ _ _ _ _ _ _ _ _ (jY ht rfl) ‹_› ‹_› ‹_› ‹_›) trv rfl rfl rfl (fun r6 mG=>?_)
  simp only [ht] at mG
  (rw [iS] at mG;generalize L4:(mj ⟨rd,nx,⟨nl,pl⟩,tl,jl,ql,⟨ef,el⟩,⟨af,al⟩⟩ ⟨xi,⟨xq,⟨xa,xb,xc,xd⟩,xn,xp,xt,xl⟩,xr,xf⟩).bz=fp at mG;generalize hft:(mj ⟨rd,nx,⟨nl,pl⟩,tl,jl,ql,⟨ef,el⟩,⟨af,al⟩⟩ ⟨xi,⟨xq,⟨xa,xb,xc,xd⟩,xn,xp,xt,xl⟩,xr,xf⟩).tree=ft at mG;subst r6)
  cbv
  refine jg trv (pJ ht (jY ht rfl) ‹_›) trv rfl (.inr rfl) ?_
  cbv
  (simp only [aa] at e1;refine dx [3] trv rfl rfl (tW ht (l:=jl) (i:=i) ‹_› (by simp only [ht];rw [wrap64 (by omega) (by omega),e1]) e2 (by omega)) (cj ?_))
  cbv
  refine aB trv (m7 ht _ _ _ _ _ _ (jY ht rfl) (jY ht rfl) (jY ht rfl) (jY ht rfl) (jY ht rfl) (jY ht rfl) (jY ht rfl) ‹_›) trv rfl rfl rfl (fun r7 Bn=>?_)
  simp only [ht] at Bn
  cbv
  refine ax trv trv rfl rfl rfl ?_
  (subst h4;simp only [ht,send,e4,e5,Bn,if_true];rw [iS,L4,hft];done)
 cbv
 refine aB trv (Fo ht _ ‹_› ‹_›) trv rfl rfl rfl (fun r8 Tr=>?_)
 simp only [ht] at Tr
 cbv
 refine jg trv (pJ ht ‹_› ‹_›) trv rfl (.inr rfl) ?_
 cbv
 (simp only [aa] at e1;refine dx [2] trv rfl rfl (tW ht (l:=jl) (i:=i) ‹_› (by simp only [ht];rw [wrap64 (by omega) (by omega),e1]) e2 (by omega)) (cj ?_))
 cbv
 refine aB trv (m7 ht _ _ _ _ _ _ ‹_› ‹_› ‹_› (jY ht rfl) (jY ht rfl) ‹_› ‹_› ‹_›) trv rfl rfl rfl (fun r9 j8=>?_)
 simp only [ht] at j8
 cbv
 refine ax trv trv rfl rfl rfl ?_
 (simp only [ht,send,e4,e5];simp [*];done)
structure bH.sm (s:bH):Prop where
 nodes:s.bz.nodes.length<1000000∧∀x∈s.bz.nodes,x.sm
 places:s.bz.places.length<1000000
 tree:s.tree.length<100000∧∀x∈s.tree,x.path.length<1000000000000
 aG:s.aG.length<1000000∧∀x∈s.aG,x.x.sm∧(0≤x.id∧x.id<18446744073709551616)∧x.x.count<9223372036854775808
 queue:s.queue.length<1000000
 notes:s.ev.l.length<1000000∧s.au.l.length<1000000
theorem Bo (ht:TT t) {es:List (List D)} (hr:∀r∈es,r.length=12):FC 138 [SL es] [] (.ret (.cl es)) []:=by
 refine bL ht (aI:=[]) Tryz.func138 rfl rfl (N:=9) rfl rfl (n:=0) rfl rfl ?_
 cbv
 refine ⟨?_,Gz trv rfl ?_⟩
 ·simp only [ht,aa,bJ];exact ⟨⟨⟨by omega,Int.le_refl _⟩,trv⟩,hr⟩
 simp [ht,aa,gq]
theorem KN (ht:TT t) (rd nx ef af:Int) {nl:List Node} {pl:List Place} {tl:List bu} {jl:List Jb} {ql:List cR} {el al:List eI} {ns ps ts js qs es cQ:List (List D)} (fC:ns=nl.map Node.cells) (hps:ps=pl.map Place.cells) (hts:ts=tl.map bu.cells) (eZ:js=jl.map Jb.cells) (eU:qs=ql.map cR.cells) (aA:es=el.map eI.cells) (has:cQ=al.map eI.cells) (ja jb jc jd jn jp jt:Int) (jq:aQ) {m8:List Term} {CL:List (List D)} (wJ:CL=m8.map Term.cells) (e0:List D) (er:List (List D)) (hj:js=e0::er) (hx:(⟨jq,⟨ja,jb,jc,jd⟩,jn,jp,jt,m8⟩:Ask).sm) (htl:tl.length<100000) (hjl:jl.length<1000000) (Rd:ql.length<1000000) (hel:el.length<1000000):
 FC 89 [.agg [az rd,az nx,SL ns,SL ps,SL ts,SL js,SL qs,az ef,SL es,az af,SL cQ],.agg [ST jq,az ja,az jb,az jc,az jd,bG jn,bG jp,bG jt,SL CL]] [] (.ret (Nt t (t _ fun _=>cN ⟨rd,nx,⟨nl,pl⟩,tl,jl,ql,⟨ef,el⟩,⟨af,al⟩⟩ ⟨jq,⟨ja,jb,jc,jd⟩,jn,jp,jt,m8⟩))) []:=by
 subst hj
 obtain ⟨ck,U7⟩:∃ck,ck=eE ⟨jq,⟨ja,jb,jc,jd⟩,jn,jp,jt,m8⟩:=⟨_,rfl⟩
 obtain ⟨th,U9⟩:∃th,th=iO tl jq:=⟨_,rfl⟩
 obtain ⟨⟨q9,e9⟩,h9⟩:∃r,r=jh ql ⟨nx,jp⟩:=⟨_,rfl⟩
 have hS:cN ⟨rd,nx,⟨nl,pl⟩,tl,jl,ql,⟨ef,el⟩,⟨af,al⟩⟩ ⟨jq,⟨ja,jb,jc,jd⟩,jn,jp,jt,m8⟩=if ck≠0 then (⟨rd,nx,⟨nl,pl⟩,tl,jl,ql,⟨ef,el⟩,⟨af,al⟩⟩,0,ck) else if !th then (⟨rd,nx,⟨nl,pl⟩,tl,jl,ql,⟨ef,el⟩,⟨af,al⟩⟩,0,7) else if 32≤jl.length∨nx=18446744073709551615 then (⟨rd,nx,⟨nl,pl⟩,tl,jl,ql,⟨ef,el⟩,⟨af,al⟩⟩,0,9) else if e9≠0 then (⟨rd,nx,⟨nl,pl⟩,tl,jl,ql,⟨ef,el⟩,⟨af,al⟩⟩,0,e9) else
  (iP ⟨rd,IntKind.u64.wrap (nx+1),⟨nl,pl⟩,tl,jl++[⟨nx,⟨jq,⟨ja,jb,jc,jd⟩,jn,jp,jt,m8⟩,false,0⟩],q9,⟨ef,el⟩,⟨af,al⟩⟩ nx 1,nx,0):=by
  simp only [cN,←U7,←U9,←h9,u64,←nP]
 rw [hS]
 clear hS
 have hr:∀r∈e0::er,r.length=12:=by rw [eZ];intro r hr;obtain ⟨y,_,rfl⟩:=List.mem_map.1 hr;rfl
 have hle:er.length+1=jl.length:=by have:=congrArg List.length eZ;simpa using this
 obtain ⟨h1,h2,h3,h4⟩:=id hx
 simp only at h1 h2 h3 h4
 refine bL ht (aI:=[]) Tryz.func89 rfl rfl (N:=68) rfl rfl (n:=0) rfl rfl ?_
 cbv
 have aU:ns.length=nl.length:=by rw [fC,lgM]
 have aW:ps.length=pl.length:=by rw [hps,lgM]
 have aV:ts.length=tl.length:=by rw [hts,lgM]
 have aK:qs.length=ql.length:=by rw [eU,lgM]
 have av:es.length=el.length:=by rw [aA,lgM]
 have aJ:cQ.length=al.length:=by rw [has,lgM]
 have CM:CL.length=m8.length:=by rw [wJ,lgM]
 refine aZ trv (A9 ht _ _ _ _ _ _ _ _ ‹_› ‹_›) trv rfl rfl (fun r0 cF=>?_)
 simp only [ht] at cF
 rw [←U7] at cF
 subst r0
 cbv
 refine an (fun h1=>?_) (fun h1=>?_)
 ·simp [ht] at h1
  cbv
  refine ax trv trv rfl rfl rfl ?_
  (simp only [ht];grind)
 simp [ht] at h1
 cbv
 refine aZ trv (Bb ht _ ‹_› (by omega) ‹_›) trv rfl rfl (fun r2 fh=>?_)
 simp only [ht] at fh
 rw [←U9] at fh
 subst r2
 cbv
 refine an (fun h3=>?_) (fun h3=>?_)
 ·simp [ht] at h3
  cbv
  refine ax trv trv rfl rfl rfl ?_
  (simp only [ht];grind)
 simp [ht] at h3
 cbv
 iterate 3 refine gI (by simp [ht]) ?_
 refine pI (by simp [ht]) ?_
 refine an (fun h4=>?_) (fun h4=>?_)
 ·simp [ht,aa] at h4
  cbv
  refine ax trv trv rfl rfl rfl ?_
  (simp only [ht];grind)
 simp [ht,aa] at h4
 cbv
 refine aB trv (yZ ht _ _ ‹_› ‹_›) trv rfl rfl rfl (fun r5 tP=>?_)
 simp only [ht] at tP
 rw [←h9] at tP
 subst r5
 cbv
 refine an (fun h6=>?_) (fun h6=>?_)
 ·simp [ht] at h6
  cbv
  refine ax trv trv rfl rfl rfl ?_
  (simp only [ht];grind)
 simp [ht] at h6
 cbv
 refine Ea [0,4,9,10] [false,false,false,false,false,false,false,false,false,false,false,false,true,true,true,true,true] (by kernel_rfl) (by kernel_rfl) (by kernel_rfl) (by kernel_rfl) (by kernel_rfl) ?_
 cbv
 iterate 3 refine gI (by simp) ?_
 refine .inl ?_
 (refine mB (fun g=>⟨trv,trv,Bo ht hr⟩) rfl rfl rfl ?_)
 cbv
 iterate 4 refine gI (by simp) ?_
 refine gI (by (simp only [ht];intro _;refine ⟨by simp only [List.length_cons,List.length_nil];omega,?_⟩;intro r h;rcases List.mem_append.1 h with h|h;exact hr r h;simp at h;subst h;rfl)) ?_
 iterate 3 refine gI (by simp) ?_
 (refine aB trv (m7 ht rd _ ef af nx 1 (nl:=nl) (pl:=pl) (tl:=tl) (jl:=jl++[⟨nx,⟨jq,⟨ja,jb,jc,jd⟩,jn,jp,jt,m8⟩,false,0⟩]) (ql:=q9) (el:=el) (al:=al) fC hps hts (by simp only [ht,eZ];simp [Jb.cells,wJ]) (by simp only [ht]) aA has hel) trv rfl rfl rfl (fun r9 j8=>?_);simp only [ht] at j8)
 cbv
 refine ax trv trv rfl rfl rfl ?_
 (simp only [ht];grind)
theorem KO (ht:TT t) (rd nx ef af:Int) {nl:List Node} {pl:List Place} {tl:List bu} {jl:List Jb} {ql:List cR} {el al:List eI} {ns ps ts js qs es cQ:List (List D)} (fC:ns=nl.map Node.cells) (hps:ps=pl.map Place.cells) (hts:ts=tl.map bu.cells) (eZ:js=jl.map Jb.cells) (eU:qs=ql.map cR.cells) (aA:es=el.map eI.cells) (has:cQ=al.map eI.cells) (ja jb jc jd jn jp jt:Int) (jq:aQ) {m8:List Term} {CL:List (List D)} (wJ:CL=m8.map Term.cells) (hj:js=[]) (hx:(⟨jq,⟨ja,jb,jc,jd⟩,jn,jp,jt,m8⟩:Ask).sm) (htl:tl.length<100000) (hjl:jl.length<1000000) (Rd:ql.length<1000000) (hel:el.length<1000000):
 FC 89 [.agg [az rd,az nx,SL ns,SL ps,SL ts,SL js,SL qs,az ef,SL es,az af,SL cQ],.agg [ST jq,az ja,az jb,az jc,az jd,bG jn,bG jp,bG jt,SL CL]] [] (.ret (Nt t (t _ fun _=>cN ⟨rd,nx,⟨nl,pl⟩,tl,jl,ql,⟨ef,el⟩,⟨af,al⟩⟩ ⟨jq,⟨ja,jb,jc,jd⟩,jn,jp,jt,m8⟩))) []:=by
 subst hj
 obtain ⟨ck,U7⟩:∃ck,ck=eE ⟨jq,⟨ja,jb,jc,jd⟩,jn,jp,jt,m8⟩:=⟨_,rfl⟩
 obtain ⟨th,U9⟩:∃th,th=iO tl jq:=⟨_,rfl⟩
 obtain ⟨⟨q9,e9⟩,h9⟩:∃r,r=jh ql ⟨nx,jp⟩:=⟨_,rfl⟩
 have hS:cN ⟨rd,nx,⟨nl,pl⟩,tl,jl,ql,⟨ef,el⟩,⟨af,al⟩⟩ ⟨jq,⟨ja,jb,jc,jd⟩,jn,jp,jt,m8⟩=if ck≠0 then (⟨rd,nx,⟨nl,pl⟩,tl,jl,ql,⟨ef,el⟩,⟨af,al⟩⟩,0,ck) else if !th then (⟨rd,nx,⟨nl,pl⟩,tl,jl,ql,⟨ef,el⟩,⟨af,al⟩⟩,0,7) else if 32≤jl.length∨nx=18446744073709551615 then (⟨rd,nx,⟨nl,pl⟩,tl,jl,ql,⟨ef,el⟩,⟨af,al⟩⟩,0,9) else if e9≠0 then (⟨rd,nx,⟨nl,pl⟩,tl,jl,ql,⟨ef,el⟩,⟨af,al⟩⟩,0,e9) else
  (iP ⟨rd,IntKind.u64.wrap (nx+1),⟨nl,pl⟩,tl,jl++[⟨nx,⟨jq,⟨ja,jb,jc,jd⟩,jn,jp,jt,m8⟩,false,0⟩],q9,⟨ef,el⟩,⟨af,al⟩⟩ nx 1,nx,0):=by
  simp only [cN,←U7,←U9,←h9,u64,←nP]
 rw [hS]
 clear hS
 have hle:jl=[]:=by cases jl with
  |nil=>rfl
  |cons x l=>cases eZ
 obtain ⟨h1,h2,h3,h4⟩:=id hx
 simp only at h1 h2 h3 h4
 refine bL ht (aI:=[]) Tryz.func89 rfl rfl (N:=68) rfl rfl (n:=0) rfl rfl ?_
 cbv
 have aU:ns.length=nl.length:=by rw [fC,lgM]
 have aW:ps.length=pl.length:=by rw [hps,lgM]
 have aV:ts.length=tl.length:=by rw [hts,lgM]
 have aK:qs.length=ql.length:=by rw [eU,lgM]
 have av:es.length=el.length:=by rw [aA,lgM]
 have aJ:cQ.length=al.length:=by rw [has,lgM]
 have CM:CL.length=m8.length:=by rw [wJ,lgM]
 refine aZ trv (A9 ht _ _ _ _ _ _ _ _ ‹_› ‹_›) trv rfl rfl (fun r0 cF=>?_)
 simp only [ht] at cF
 rw [←U7] at cF
 subst r0
 cbv
 refine an (fun h1=>?_) (fun h1=>?_)
 ·simp [ht] at h1
  cbv
  refine ax trv trv rfl rfl rfl ?_
  (simp only [ht];grind)
 simp [ht] at h1
 cbv
 refine aZ trv (Bb ht _ ‹_› (by omega) ‹_›) trv rfl rfl (fun r2 fh=>?_)
 simp only [ht] at fh
 rw [←U9] at fh
 subst r2
 cbv
 refine an (fun h3=>?_) (fun h3=>?_)
 ·simp [ht] at h3
  cbv
  refine ax trv trv rfl rfl rfl ?_
  (simp only [ht];grind)
 simp [ht] at h3
 cbv
 iterate 3 refine gI (by simp [ht]) ?_
 refine pI (by simp [ht]) ?_
 refine an (fun h4=>?_) (fun h4=>?_)
 ·simp [ht] at h4
  cbv
  refine ax trv trv rfl rfl rfl ?_
  (simp only [ht];grind)
 simp [ht] at h4
 cbv
 refine aB trv (yZ ht _ _ ‹_› ‹_›) trv rfl rfl rfl (fun r5 tP=>?_)
 simp only [ht] at tP
 rw [←h9] at tP
 subst r5
 cbv
 refine an (fun h6=>?_) (fun h6=>?_)
 ·simp [ht] at h6
  cbv
  refine ax trv trv rfl rfl rfl ?_
  (simp only [ht];grind)
 simp [ht] at h6
 cbv
 refine Ea [0,4,9,10] [false,false,false,false,false,false,false,false,false,false,false,false,true,true,true,true,true] (by kernel_rfl) (by kernel_rfl) (by kernel_rfl) (by kernel_rfl) (by kernel_rfl) ?_
 cbv
 iterate 3 refine gI (by simp) ?_
 refine .inl ?_
 (refine mB (fun g=>⟨trv,trv,Bo ht (by simp)⟩) rfl rfl rfl ?_)
 cbv
 iterate 4 refine gI (by simp) ?_
 refine gI (by simp [ht]) ?_
 iterate 3 refine gI (by simp) ?_
 (refine aB trv (m7 ht rd _ ef af nx 1 (nl:=nl) (pl:=pl) (tl:=tl) (jl:=jl++[⟨nx,⟨jq,⟨ja,jb,jc,jd⟩,jn,jp,jt,m8⟩,false,0⟩]) (ql:=q9) (el:=el) (al:=al) fC hps hts (by simp only [ht,hle];simp [Jb.cells,wJ]) (by simp only [ht]) aA has hel) trv rfl rfl rfl (fun r9 j8=>?_);simp only [ht] at j8)
 cbv
 refine ax trv trv rfl rfl rfl ?_
 (simp only [ht];grind)
theorem iv (ht:TT t) (rd nx ef af:Int) {nl:List Node} {pl:List Place} {tl:List bu} {jl:List Jb} {ql:List cR} {el al:List eI} {ns ps ts js qs es cQ:List (List D)} (fC:ns=nl.map Node.cells) (hps:ps=pl.map Place.cells) (hts:ts=tl.map bu.cells) (eZ:js=jl.map Jb.cells) (eU:qs=ql.map cR.cells) (aA:es=el.map eI.cells) (has:cQ=al.map eI.cells) (ja jb jc jd jn jp jt:Int) (jq:aQ) {m8:List Term} {CL:List (List D)} (wJ:CL=m8.map Term.cells) (hx:(⟨jq,⟨ja,jb,jc,jd⟩,jn,jp,jt,m8⟩:Ask).sm) (htl:tl.length<100000) (hjl:jl.length<1000000) (Rd:ql.length<1000000) (hel:el.length<1000000):
 FC 89 [.agg [az rd,az nx,SL ns,SL ps,SL ts,SL js,SL qs,az ef,SL es,az af,SL cQ],.agg [ST jq,az ja,az jb,az jc,az jd,bG jn,bG jp,bG jt,SL CL]] [] (.ret (Nt t (t _ fun _=>cN ⟨rd,nx,⟨nl,pl⟩,tl,jl,ql,⟨ef,el⟩,⟨af,al⟩⟩ ⟨jq,⟨ja,jb,jc,jd⟩,jn,jp,jt,m8⟩))) []:=by
 cases js with
 |nil=>exact KO ht rd nx ef af fC hps hts eZ eU aA has ja jb jc jd jn jp jt jq wJ rfl hx htl hjl Rd hel
 |cons e0 er=>exact KN ht rd nx ef af fC hps hts eZ eU aA has ja jb jc jd jn jp jt jq wJ e0 er rfl hx htl hjl Rd hel
theorem zw (ht:TT t) (rd nx ef af:Int) {nl:List Node} {pl:List Place} {tl:List bu} {jl:List Jb} {ql:List cR} {el al:List eI} {ns ps ts js qs es cQ:List (List D)} (fC:ns=nl.map Node.cells) (hps:ps=pl.map Place.cells) (hts:ts=tl.map bu.cells) (eZ:js=jl.map Jb.cells) (eU:qs=ql.map cR.cells) (aA:es=el.map eI.cells) (has:cQ=al.map eI.cells) (id:Int) {names:List aQ} {nr:List (List D)} (Re:nr=names.map bg) (uO:∀x∈jl,x.x.gB.u'∧x.x.path.length<1000000000000) (htl:tl.length<100000) (hjl:jl.length<1000000) (Ld:nl.length<1000000) (Ge:pl.length<1000000) (Rd:ql.length<1000000) (hel:el.length<1000000) (Yf:names.length<1000000):
 FC 35 [.agg [az rd,az nx,SL ns,SL ps,SL ts,SL js,SL qs,az ef,SL es,az af,SL cQ],az id,SL nr] [] (.ret (zb t (t _ fun _=>eF ⟨rd,nx,⟨nl,pl⟩,tl,jl,ql,⟨ef,el⟩,⟨af,al⟩⟩ id names))) []:=by
 refine bL ht (aI:=[]) Tryz.func35 rfl rfl (N:=100) rfl rfl (n:=0) rfl rfl ?_
 cbv
 have aU:ns.length=nl.length:=by rw [fC,lgM]
 have aW:ps.length=pl.length:=by rw [hps,lgM]
 have aV:ts.length=tl.length:=by rw [hts,lgM]
 have aX:js.length=jl.length:=by rw [eZ,lgM]
 have aK:qs.length=ql.length:=by rw [eU,lgM]
 have av:es.length=el.length:=by rw [aA,lgM]
 have aJ:cQ.length=al.length:=by rw [has,lgM]
 have gm:nr.length=names.length:=by rw [Re,lgM]
 refine aZ trv (qu ht _ _ _ _ _ _ _ _ _ _ _ ‹_› (by omega)) trv rfl rfl (fun r0 cF=>?_)
 simp only [ht] at cF
 have ec:=Ht cF uO
 clear cF
 rcases ec with ⟨e1,e2⟩|⟨i,xi,xa,xb,xc,xd,xn,xp,xt,xf,xq,xr,xl,e1,e2,e3,e4,e5,⟨e6,e7⟩,e8⟩
 ·cbv
  refine an (fun h1=>?_) (fun h1=>?_)
  ·simp [ht] at h1
   cbv
   refine ax trv trv rfl rfl rfl ?_
   (simp [eF, *];done)
  simp [ht] at h1
  omega
 cbv
 refine an (fun h2=>?_) (fun h2=>?_)
 ·simp [ht] at h2
  (simp only [aa] at*;omega)
 simp [ht] at h2
 cbv
 refine yC ht eZ (cT:=Jb.bC t) e3 ‹_› (fun _=>rfl) (fun _=>(by (simp only [ht,Jb.bC];rfl))) ?_
 cbv
 refine an (fun h4=>?_) (fun h4=>?_)
 ·cbv
  refine ax trv trv rfl rfl rfl ?_
  (simp only [ht,eF,e4,e5,jG];simp [*];done)
 cbv
 refine an (fun h5=>?_) (fun h5=>?_)
 ·simp [ht,aa,gm] at h5
  cbv
  refine ax trv trv rfl rfl rfl ?_
  (simp only [ht,eF,e4,e5,jG];simp [*];done)
 simp [ht,aa,gm] at h5
 cbv
 (obtain ⟨⟨⟨v1,v2,v3,v4⟩,vk⟩,hv⟩:∃r,r=dR ⟨xq,⟨xa,xb,xc,xd⟩,xn,xp,xt,xl⟩:=⟨_,rfl⟩;refine aZ trv (qt ht xq xa xb xc xd xn xp xt (sl:=xl) _ e6) trv rfl rfl (fun r9 j8=>?_);simp only [ht] at j8;rw [←hv] at j8;subst j8)
 cbv
 refine an (fun h6=>?_) (fun h6=>?_)
 ·simp [ht] at h6
  cbv
  refine ax trv trv rfl rfl rfl ?_
  (simp only [ht,eF,e4,e5,jG,←hv];(try (simp only [←Bn];clear Bn));(try (simp only [←j8];clear j8));simp [*];done)
 simp [ht] at h6
 cbv
 refine aB trv (rV ht _ _ _ _ _ ‹_› ‹_› ‹_›) trv rfl rfl rfl (fun r7 Bn=>?_)
 simp only [ht] at Bn
 cbv
 refine an (fun h8=>?_) (fun h8=>?_)
 ·simp [ht] at h8
  cbv
  refine ax trv trv rfl rfl rfl ?_
  (simp only [ht,eF,e4,e5,jG,←hv];(try (simp only [←Bn];clear Bn));(try (simp only [←j8];clear j8));simp [*];done)
 simp [ht] at h8
 cbv
 refine aB trv (Sd ht _ _ _ _ _ ‹_› ‹_› ‹_› (by omega) (by omega) (by omega)) trv rfl rfl rfl (fun r9 j8=>?_)
 simp only [ht] at j8
 cbv
 refine an (fun h10=>?_) (fun h10=>?_)
 ·simp [ht] at h10
  cbv
  refine ax trv trv rfl rfl rfl ?_
  (simp only [ht,eF,e4,e5,jG,←hv];(try (simp only [←Bn];clear Bn));(try (simp only [←j8];clear j8));simp [*];done)
 simp [ht] at h10
 cbv
 refine aB trv (Fo ht _ ‹_› ‹_›) trv rfl rfl rfl (fun r11 Xf=>?_)
 simp only [ht] at Xf
 cbv
 (refine Is [0,2] (.more 0 (.more 1 (.one 2 (.one 3 (.one 4 (.one 5 (.one 6 (.one 7 (.one 8 .done))))))) (.one 2 (.more 1 (.one 3 (.one 4 (.one 5 (.one 6 (.one 7 (.one 8 .done)))))) (.one 3 (.more 1 (.one 4 (.one 5 (.one 6 (.one 7 (.one 8 .done))))) (.one 4 (.one 1 (.one 5 (.one 6 (.one 7 (.one 8 .done))))))))))) (.one 2 (.one 0 (.more 1 (.one 3 (.one 4 (.one 5 (.one 6 (.one 7 (.one 8 .done)))))) (.one 3 (.more 1 (.one 4 (.one 5 (.one 6 (.one 7 (.one 8 .done))))) (.one 4 (.one 1 (.one 5 (.one 6 (.one 7 (.one 8 .done)))))))))))) _ (by kernel_rfl) (by kernel_rfl) (by kernel_rfl) (by kernel_rfl) (by cbv;repeat' (first|exact rfl|refine ⟨?_,?_⟩)) ?_)
 cbv
 refine aB trv (I3 ht _ _ _ _ (jY ht rfl) (jY ht rfl) (jY ht rfl) ‹_› (jY ht rfl) ‹_› ‹_› _ _ _ _ _ _ _ _ _ _ _ (jY ht rfl) ‹_› ‹_› ‹_›) trv rfl rfl rfl (fun ZE Va=>?_)
 simp only [ht] at Va
 have VL:(ZE).ev.l.length<1000000:=by rw [Va];exact hel
 cbv
 refine aB trv (m7 ht _ _ _ _ _ _ (jY ht rfl) (jY ht rfl) (jY ht rfl) (jY ht rfl) (jY ht rfl) (jY ht rfl) (jY ht rfl) ‹_›) trv rfl rfl rfl (fun r13 Xg=>?_)
 simp only [ht] at Xg
 cbv
 refine ax trv trv rfl rfl rfl ?_
 (simp only [ht,eF,e4,e5,jG,←hv];(try (simp only [←Bn];clear Bn));(try (simp only [←j8];clear j8));simp [*];done)
theorem iW {x:Ask} (h:zk x):x.sm:=
 ⟨by have:=h.path;omega,⟨h.gB 0 (by decide),h.gB 1 (by decide),h.gB 2 (by decide),h.gB 3 (by decide)⟩,by have:=h.bZ;omega,
  fun m hm=>by obtain ⟨a,b,c⟩:=h.key m hm;exact ⟨by omega,by omega,fun v hv=>by have:=c v hv;omega⟩⟩
theorem bH.ok.small {s:bH} (h:s.ok) (l:s.fT zk):s.sm where
 nodes:=⟨by have:=h.bz.most;omega,l.names⟩
 places:=by have:=h.Hg;omega
 tree:=⟨by have:=h.tree.most;omega,fun e he=>by have:=l.paths e he;omega⟩
 aG:=⟨by have:=h.most;omega,fun x hx=>⟨iW (l.xs x hx),⟨by have:=h.yN x hx;omega,by have:=h.yN x hx;have:=h.next;omega⟩,by
  have:=(h.yO x hx).1
  unfold eE Ol at this
  split at this
  ·cases this
  split at this
  ·cases this
  simp_all;omega⟩⟩
 queue:=by
  have h1:=h.UM
  have h2:Cn s.aG≤s.aG.length:=List.length_filter_le _ _
  have:=h.most;omega
 notes:=by have:=h.notes;omega
theorem zx {l:List Jb} {id:Int} (h:∀x∈l,x.x.sm):(cG l id).1.x.sm:=by
 unfold cG
 split
 ·rename_i x hx;exact h _ (List.mem_of_find?_eq_some hx)
 exact ⟨by decide,by decide,by decide,fun m hm=>by cases hm⟩
theorem Fp {nl:List Node} {pl:List Place} (h:nl.length<1000000) (h2:∀x∈nl,x.sm):(nl.filterMap (mZ nl pl)).length<1000000∧∀s∈nl.filterMap (mZ nl pl),s.labels.length<1000000000:=by
 refine ⟨Nat.lt_of_le_of_lt (List.length_filterMap_le _ _) h,fun s hs=>?_⟩
 obtain ⟨n,hn,e⟩:=List.mem_filterMap.1 hs
 unfold mZ at e
 split at e
 ·cases e;exact (h2 n hn).2.1
 cases e
theorem zy {v:bM}:∀(n:Nat) (l:List bO) (out:List aQ),out.length+n≤8→(rM v n l out).1.length≤8
 |0,_,out,h=>by simpa [rM] using h
 |n+1,l,out,h=>by
  rw [rM]
  split
  ·simp
  exact zy n _ _ (by simp;omega)
theorem uR (l:List bO) (x:List Term) (v:bM) (c:Int):(fit l x v c).1.length<1000000:=by
 unfold fit
 split
 ·simp
 have:=zy (v:=v) (max c 0).toNat (fitting l x) [] (by simp;omega)
 omega
theorem KP (ht:TT t) (rd nx ef af:Int) {nl:List Node} {pl:List Place} {tl:List bu} {jl:List Jb} {ql:List cR} {el al:List eI} {ns ps ts js qs es cQ:List (List D)} (fC:ns=nl.map Node.cells) (hps:ps=pl.map Place.cells) (hts:ts=tl.map bu.cells) (eZ:js=jl.map Jb.cells) (eU:qs=ql.map cR.cells) (aA:es=el.map eI.cells) (has:cQ=al.map eI.cells) (id:Int) (hjl:jl.length<1000000):
 FC 103 [.agg [az rd,az nx,SL ns,SL ps,SL ts,SL js,SL qs,az ef,SL es,az af,SL cQ],az id] [] (.ret (Kj t (t _ fun _=>gA ⟨rd,nx,⟨nl,pl⟩,tl,jl,ql,⟨ef,el⟩,⟨af,al⟩⟩ id))) []:=by
 obtain ⟨R,hR⟩:∃R,R=gA ⟨rd,nx,⟨nl,pl⟩,tl,jl,ql,⟨ef,el⟩,⟨af,al⟩⟩ id:=⟨_,rfl⟩
 have VN:R=((cG jl id).1,(cG jl id).2&&!(cG jl id).1.runs):=hR
 rw [←hR]
 refine bL ht (aI:=[]) Tryz.func103 rfl rfl (N:=21) rfl rfl (n:=0) rfl rfl ?_
 cbv
 have aU:ns.length=nl.length:=by rw [fC,lgM]
 have aW:ps.length=pl.length:=by rw [hps,lgM]
 have aV:ts.length=tl.length:=by rw [hts,lgM]
 have aX:js.length=jl.length:=by rw [eZ,lgM]
 have aK:qs.length=ql.length:=by rw [eU,lgM]
 have av:es.length=el.length:=by rw [aA,lgM]
 have aJ:cQ.length=al.length:=by rw [has,lgM]
 refine aB trv (pG ht _ _ _ _ _ _ _ _ _ _ _ ‹_› (by omega)) trv rfl rfl rfl (fun r0 cF=>?_)
 simp only [ht] at cF
 rw [←cF] at VN
 clear cF
 obtain ⟨⟨jid,⟨jq,⟨ja,jb,jc,jd⟩,jn,jp,jt,m8⟩,jr,jlf⟩,Yr⟩:=r0
 simp only at VN
 cases Yr
 ·cbv
  (apply Is [] (.more 0 (.one 1 (.one 2 (.more 3 (.more 4 (.more 5 (.more 6 (.one 7 (.one 8 .done)) (.one 7 (.one 6 (.one 8 .done)))) (.one 7 (.one 5 (.one 6 (.one 8 .done))))) (.one 7 (.one 4 (.one 5 (.one 6 (.one 8 .done)))))) (.one 7 (.one 3 (.one 4 (.one 5 (.one 6 (.one 8 .done))))))))) (.one 1 (.more 0 (.one 2 (.more 3 (.more 4 (.more 5 (.more 6 (.one 7 (.one 8 .done)) (.one 7 (.one 6 (.one 8 .done)))) (.one 7 (.one 5 (.one 6 (.one 8 .done))))) (.one 7 (.one 4 (.one 5 (.one 6 (.one 8 .done)))))) (.one 7 (.one 3 (.one 4 (.one 5 (.one 6 (.one 8 .done)))))))) (.one 2 (.more 0 (.more 3 (.more 4 (.more 5 (.more 6 (.one 7 (.one 8 .done)) (.one 7 (.one 6 (.one 8 .done)))) (.one 7 (.one 5 (.one 6 (.one 8 .done))))) (.one 7 (.one 4 (.one 5 (.one 6 (.one 8 .done)))))) (.one 7 (.one 3 (.one 4 (.one 5 (.one 6 (.one 8 .done))))))) (.one 3 (.more 0 (.more 4 (.more 5 (.more 6 (.one 7 (.one 8 .done)) (.one 7 (.one 6 (.one 8 .done)))) (.one 7 (.one 5 (.one 6 (.one 8 .done))))) (.one 7 (.one 4 (.one 5 (.one 6 (.one 8 .done)))))) (.one 4 (.more 0 (.more 5 (.more 6 (.one 7 (.one 8 .done)) (.one 7 (.one 6 (.one 8 .done)))) (.one 7 (.one 5 (.one 6 (.one 8 .done))))) (.one 5 (.more 0 (.more 6 (.one 7 (.one 8 .done)) (.one 7 (.one 6 (.one 8 .done)))) (.one 6 (.one 0 (.one 7 (.one 8 .done)))))))))))))));kernel_rfl;kernel_rfl;kernel_rfl;kernel_rfl;(next=>cbv;repeat (first|(refine mU rfl ?_;cbv)|(refine jX rfl ?_;cbv)|refine And.intro ?_ ?_|exact rfl|exact True.intro|exact ⟨⟨by simp,by simp⟩⟩)))
  cbv
  refine ax trv trv rfl rfl rfl ?_
  (clear hR;simp [ht,VN];done)
 cbv
 (apply Is [] (.more 0 (.one 1 (.one 2 (.more 3 (.more 4 (.more 5 (.more 6 (.one 7 (.one 8 .done)) (.one 7 (.one 6 (.one 8 .done)))) (.one 7 (.one 5 (.one 6 (.one 8 .done))))) (.one 7 (.one 4 (.one 5 (.one 6 (.one 8 .done)))))) (.one 7 (.one 3 (.one 4 (.one 5 (.one 6 (.one 8 .done))))))))) (.one 1 (.more 0 (.one 2 (.more 3 (.more 4 (.more 5 (.more 6 (.one 7 (.one 8 .done)) (.one 7 (.one 6 (.one 8 .done)))) (.one 7 (.one 5 (.one 6 (.one 8 .done))))) (.one 7 (.one 4 (.one 5 (.one 6 (.one 8 .done)))))) (.one 7 (.one 3 (.one 4 (.one 5 (.one 6 (.one 8 .done)))))))) (.one 2 (.more 0 (.more 3 (.more 4 (.more 5 (.more 6 (.one 7 (.one 8 .done)) (.one 7 (.one 6 (.one 8 .done)))) (.one 7 (.one 5 (.one 6 (.one 8 .done))))) (.one 7 (.one 4 (.one 5 (.one 6 (.one 8 .done)))))) (.one 7 (.one 3 (.one 4 (.one 5 (.one 6 (.one 8 .done))))))) (.one 3 (.more 0 (.more 4 (.more 5 (.more 6 (.one 7 (.one 8 .done)) (.one 7 (.one 6 (.one 8 .done)))) (.one 7 (.one 5 (.one 6 (.one 8 .done))))) (.one 7 (.one 4 (.one 5 (.one 6 (.one 8 .done)))))) (.one 4 (.more 0 (.more 5 (.more 6 (.one 7 (.one 8 .done)) (.one 7 (.one 6 (.one 8 .done)))) (.one 7 (.one 5 (.one 6 (.one 8 .done))))) (.one 5 (.more 0 (.more 6 (.one 7 (.one 8 .done)) (.one 7 (.one 6 (.one 8 .done)))) (.one 6 (.one 0 (.one 7 (.one 8 .done)))))))))))))));kernel_rfl;kernel_rfl;kernel_rfl;kernel_rfl;(next=>cbv;repeat (first|(refine mU rfl ?_;cbv)|(refine jX rfl ?_;cbv)|refine And.intro ?_ ?_|exact rfl|exact True.intro|exact ⟨⟨by simp,by simp⟩⟩)))
 cbv
 refine ax trv trv rfl rfl rfl ?_
 (clear hR;simp [ht,VN];done)
theorem Fq (ht:TT t) (rd nx ef af:Int) {nl:List Node} {pl:List Place} {tl:List bu} {jl:List Jb} {ql:List cR} {el al:List eI} {ns ps ts js qs es cQ:List (List D)} (fC:ns=nl.map Node.cells) (hps:ps=pl.map Place.cells) (hts:ts=tl.map bu.cells) (eZ:js=jl.map Jb.cells) (eU:qs=ql.map cR.cells) (aA:es=el.map eI.cells) (has:cQ=al.map eI.cells) (hs:(⟨rd,nx,⟨nl,pl⟩,tl,jl,ql,⟨ef,el⟩,⟨af,al⟩⟩:bH).sm) (id:Int) {on:List Node} {op:List Place} {Xh VO:List (List D)} (Yx:Xh=on.map Node.cells) (hop:VO=op.map Place.cells) (ZF:on.length<1000000) (VC:∀x∈on,x.sm) (ho3:op.length<1000000) (f:Nat) (cs:List D) (W:aQ→bM→Bool)
 (hw:∀(q:aQ) (a b c d:Int),q.length<1000000000000→FC f [ST q,V4 a b c d,.ep cs] [] (.ret (cP (t _ fun _=>W q ⟨a,b,c,d⟩))) []):
 FC 56 [.agg [az rd,az nx,SL ns,SL ps,SL ts,SL js,SL qs,az ef,SL es,az af,SL cQ],az id,.agg [SL Xh,SL VO],.fn f [.ep cs]] [] (.ret (qD t (t _ fun _=>kj ⟨rd,nx,⟨nl,pl⟩,tl,jl,ql,⟨ef,el⟩,⟨af,al⟩⟩ id ⟨on,op⟩ W))) []:=by
 obtain ⟨⟨s1,s2⟩,s3,⟨s4,s5⟩,⟨s6,s7⟩,s8,s9,SA⟩:=(show bH.sm _ from hs)
 simp only at s1 s2 s3 s4 s5 s6 s7 s8 s9 SA
 obtain ⟨Tv,Tw⟩:=Fp ZF VC (pl:=op)
 obtain ⟨S,hS⟩:∃S,S=kj ⟨rd,nx,⟨nl,pl⟩,tl,jl,ql,⟨ef,el⟩,⟨af,al⟩⟩ id ⟨on,op⟩ W:=⟨_,rfl⟩
 have Tx:=hS
 unfold kj at Tx
 rw [←hS]
 obtain ⟨w,hw1⟩:∃w,w=gA ⟨rd,nx,⟨nl,pl⟩,tl,jl,ql,⟨ef,el⟩,⟨af,al⟩⟩ id:=⟨_,rfl⟩
 have VP:w.1.x.sm:=by rw [hw1];exact zx (fun x hx=>(s7 x hx).1)
 rw [←hw1] at Tx
 refine bL ht (aI:=[]) Tryz.func56 rfl rfl (N:=60) rfl rfl (n:=0) rfl rfl ?_
 cbv
 have aU:ns.length=nl.length:=by rw [fC,lgM]
 have aW:ps.length=pl.length:=by rw [hps,lgM]
 have aV:ts.length=tl.length:=by rw [hts,lgM]
 have aX:js.length=jl.length:=by rw [eZ,lgM]
 have aK:qs.length=ql.length:=by rw [eU,lgM]
 have av:es.length=el.length:=by rw [aA,lgM]
 have aJ:cQ.length=al.length:=by rw [has,lgM]
 have wX:Xh.length=on.length:=by rw [Yx,lgM]
 have wY:VO.length=op.length:=by rw [hop,lgM]
 (refine aB trv (KP ht rd nx ef af fC hps hts eZ eU aA has _ s6) (by simp [ht]) rfl rfl rfl (fun r1 dM=>?_);simp only [ht] at dM;rw [←hw1] at dM;subst r1)
 cbv
 refine an (fun h0=>?_) (fun h0=>?_)
 ·simp [ht,aa,aU,aW,aV,aX,aK,av,aJ,wX,wY] at h0
  cbv
  refine ax trv trv rfl rfl rfl ?_
  (simp only [ht,aa,qD,Kj,UW,UJ,MI,cP];grind)
 simp [ht,aa,aU,aW,aV,aX,aK,av,aJ,wX,wY] at h0
 cbv
 (refine aZ trv (qt ht _ _ _ _ _ _ _ _ (sl:=w.1.x.bZ) _ VP.2.1) (by simp [ht]) rfl rfl (fun rv Xi=>?_);simp only [ht] at Xi)
 cbv
 refine c7 [false,false,false,false,false,false,false,false,false,false,false,true,true,false,false,false,true] (by kernel_rfl) (by kernel_rfl) ?_
 cbv
 refine gI (by simp [ht,ah]) ?_
 refine .inl ?_
 (refine fc (fun g=>⟨by simp [ht],trv,yU ht Yx hop (by ((try simp only [aa] at*);omega)) (by ((try simp only [aa] at*);omega))⟩) rfl rfl rfl (fun r3 ku=>?_);simp only [ht] at ku)
 cbv
 iterate 9 refine gI (by simp [ht,ah]) ?_
 (refine aB trv (zq ht _ _ _ _ _ (l:=r3) (by simp only [ht]) (by rw [ku];exact Tv) (by rw [ku];exact Tw) (x:=w.1.x.bZ) (by simp only [ht]) VP.2.2.1 (fun m hm=>(VP.2.2.2 m hm).2.1)) (by simp [ht]) rfl rfl rfl (fun r4 eK=>?_);simp only [ht] at eK)
 cbv
 iterate 5 refine gI (by simp [ht,ah]) ?_
 refine pI (by simp [ht,ah]) ?_
 iterate 5 refine gI (by simp [ht,ah]) ?_
 (refine cY (fun g=>⟨⟨g,g,g,trv⟩,trv,hw _ _ _ _ _ VP.1⟩) rfl rfl (fun r6 mG=>?_);simp only [ht] at mG)
 cbv
 refine gI (by simp [ht,ah]) ?_
 refine pI (by simp [ht,ah]) ?_
 refine an (fun h1=>?_) (fun h1=>?_)
 ·simp [ht,aa,aU,aW,aV,aX,aK,av,aJ,wX,wY] at h1
  cbv
  refine ax trv trv rfl rfl rfl ?_
  (have e4:fit (fE ⟨on,op⟩) w.1.x.bZ w.1.x.gB w.1.x.count=r4:=(by rw [eK,ku];rfl);have e2:dR w.1.x=rv:=Xi.symm;have e6:W w.1.x.path rv.1=r6:=mG.symm;have e7:S=if r6=true∧rv.2=true∧r4.2=true then (r4.1,true) else ([],false):=(by rw [Tx,e4,e2,e6,if_neg (by simp [h0])];cases r6<;>cases rv.2<;>cases r4.2<;>simp);clear Tx hS;(first|(rw [if_pos ⟨h1.2,h1.1.1,h1.1.2⟩] at e7;simp [ht,e7];done)|(rw [if_neg (by rintro ⟨g1,g2,g3⟩;rw [g1,g2,g3] at h1;simp at h1)] at e7;simp [ht,e7];done)))
 simp [ht,aa,aU,aW,aV,aX,aK,av,aJ,wX,wY] at h1
 cbv
 refine ax trv trv rfl rfl rfl ?_
 (have e4:fit (fE ⟨on,op⟩) w.1.x.bZ w.1.x.gB w.1.x.count=r4:=(by rw [eK,ku];rfl);have e2:dR w.1.x=rv:=Xi.symm;have e6:W w.1.x.path rv.1=r6:=mG.symm;have e7:S=if r6=true∧rv.2=true∧r4.2=true then (r4.1,true) else ([],false):=(by rw [Tx,e4,e2,e6,if_neg (by simp [h0])];cases r6<;>cases rv.2<;>cases r4.2<;>simp);clear Tx hS;(first|(rw [if_pos ⟨h1.2,h1.1.1,h1.1.2⟩] at e7;simp [ht,e7];done)|(rw [if_neg (by rintro ⟨g1,g2,g3⟩;rw [g1,g2,g3] at h1;simp at h1)] at e7;simp [ht,e7];done)))
theorem P8 (ht:TT t) (rd nx ef af:Int) {tl:List bu} {ns ps ts js qs es cQ:List (List D)} (hts:ts=tl.map bu.cells) (htl:tl.length<100000) (q:aQ) (a b c d:Int) (hq:q.length<1000000000000):
 FC 57 [ST q,V4 a b c d,.ep [.int .u64 rd,.int .u64 nx,.sl ns,.sl ps,.sl ts,.sl js,.sl qs,.int .u64 ef,.sl es,.int .u64 af,.sl cQ]] [] (.ret (cP (t _ fun _=>decide ((dg tl q ⟨a,b,c,d⟩).2=0)))) []:=by
 refine bL ht (aI:=[]) Tryz.func57 rfl rfl (N:=18) rfl rfl (n:=0) rfl rfl ?_
 cbv
 have aV:ts.length=tl.length:=by rw [hts,lgM]
 (refine aB trv (rV ht _ _ _ _ _ hts htl hq) (by simp [ht]) rfl rfl rfl (fun r1 dM=>?_);simp only [ht] at dM)
 cbv
 refine ax trv trv rfl rfl rfl ?_
 (simp only [ht,←dM];done)
theorem NJ (ht:TT t) (rd nx ef af:Int) {tl:List bu} {ns ps ts js qs es cQ:List (List D)} (hts:ts=tl.map bu.cells) (htl:tl.length<100000) (q:aQ) (a b c d:Int) (hq:q.length<1000000000000):
 FC 60 [ST q,V4 a b c d,.ep [.int .u64 rd,.int .u64 nx,.sl ns,.sl ps,.sl ts,.sl js,.sl qs,.int .u64 ef,.sl es,.int .u64 af,.sl cQ]] [] (.ret (cP (t _ fun _=>uP tl q ⟨a,b,c,d⟩))) []:=by
 refine bL ht (aI:=[]) Tryz.func60 rfl rfl (N:=11) rfl rfl (n:=0) rfl rfl ?_
 cbv
 have aV:ts.length=tl.length:=by rw [hts,lgM]
 (refine aZ trv (Nx ht _ _ _ _ _ hts htl hq) (by simp [ht]) rfl rfl (fun r1 dM=>?_);simp only [ht] at dM)
 cbv
 refine ax trv trv rfl rfl rfl ?_
 (simp only [ht,←dM];done)
theorem P9 (ht:TT t) (ns ps:List (List D)):FC 59 [.agg [SL ns,SL ps]] [] (.ret (.agg [SL ns,SL []])) []:=by
 refine bL ht (aI:=[]) Tryz.func59 rfl rfl (N:=6) rfl rfl (n:=0) rfl rfl ?_
 cbv
 refine ax trv trv rfl rfl rfl ?_
 rfl
theorem I4 (ht:TT t) (rd nx ef af:Int) {nl:List Node} {pl:List Place} {tl:List bu} {jl:List Jb} {ql:List cR} {el al:List eI} {ns ps ts js qs es cQ:List (List D)} (fC:ns=nl.map Node.cells) (hps:ps=pl.map Place.cells) (hts:ts=tl.map bu.cells) (eZ:js=jl.map Jb.cells) (eU:qs=ql.map cR.cells) (aA:es=el.map eI.cells) (has:cQ=al.map eI.cells) (hs:(⟨rd,nx,⟨nl,pl⟩,tl,jl,ql,⟨ef,el⟩,⟨af,al⟩⟩:bH).sm) (id:Int):FC 20 [.agg [az rd,az nx,SL ns,SL ps,SL ts,SL js,SL qs,az ef,SL es,az af,SL cQ],az id] [] (.ret (qD t (t _ fun _=>gH ⟨rd,nx,⟨nl,pl⟩,tl,jl,ql,⟨ef,el⟩,⟨af,al⟩⟩ id))) []:=by
 obtain ⟨⟨s1,s2⟩,s3,⟨s4,s5⟩,⟨s6,s7⟩,s8,s9,SA⟩:=(show bH.sm _ from hs)
 simp only at s1 s2 s3 s4 s5 s6 s7 s8 s9 SA
 obtain ⟨W,hW⟩:∃W:aQ→bM→Bool,W=fun p v=>decide ((dg tl p v).2=0):=⟨_,rfl⟩
 have hA:=Fq ht rd nx ef af fC hps hts eZ eU aA has hs id fC hps s1 s2 s3 57 [.int .u64 rd,.int .u64 nx,.sl ns,.sl ps,.sl ts,.sl js,.sl qs,.int .u64 ef,.sl es,.int .u64 af,.sl cQ] W (fun q a b c d hq=>by rw [hW];exact P8 ht rd nx ef af hts s4 q a b c d hq)
 have hE:gH ⟨rd,nx,⟨nl,pl⟩,tl,jl,ql,⟨ef,el⟩,⟨af,al⟩⟩ id=kj ⟨rd,nx,⟨nl,pl⟩,tl,jl,ql,⟨ef,el⟩,⟨af,al⟩⟩ id ⟨nl,pl⟩ W:=by rw [hW];rfl
 rw [hE]
 have hB:=pL (bx:=[.var [az rd,az nx,SL ns,SL ps,SL ts,SL js,SL qs,az ef,SL es,az af,SL cQ]]) (b:=0) (xs:=[.agg [az rd,az nx,SL ns,SL ps,SL ts,SL js,SL qs,az ef,SL es,az af,SL cQ],az id,.agg [SL ns,SL ps]]) rfl rfl rfl (dw [] rfl rfl rfl rfl hA)
 refine bL ht (aI:=[]) Tryz.func20 rfl rfl (N:=14) rfl rfl (n:=0) rfl rfl ?_
 cbv
 have aU:ns.length=nl.length:=by rw [fC,lgM]
 have aW:ps.length=pl.length:=by rw [hps,lgM]
 have aV:ts.length=tl.length:=by rw [hts,lgM]
 have aX:js.length=jl.length:=by rw [eZ,lgM]
 have aK:qs.length=ql.length:=by rw [eU,lgM]
 have av:es.length=el.length:=by rw [aA,lgM]
 have aJ:cQ.length=al.length:=by rw [has,lgM]
 (refine MC (E:=qD t) (r0:=t _ fun _=>kj ⟨rd,nx,⟨nl,pl⟩,tl,jl,ql,⟨ef,el⟩,⟨af,al⟩⟩ id ⟨nl,pl⟩ W) trv rfl (by simp [ht]) hB (fun r1 dM=>?_);simp only [ht] at dM)
 cbv
 refine ax trv trv rfl rfl rfl ?_
 (simp [ht,qD, *];done)
theorem KQ (ht:TT t) (rd nx ef af:Int) {nl:List Node} {pl:List Place} {tl:List bu} {jl:List Jb} {ql:List cR} {el al:List eI} {ns ps ts js qs es cQ:List (List D)} (fC:ns=nl.map Node.cells) (hps:ps=pl.map Place.cells) (hts:ts=tl.map bu.cells) (eZ:js=jl.map Jb.cells) (eU:qs=ql.map cR.cells) (aA:es=el.map eI.cells) (has:cQ=al.map eI.cells) (hs:(⟨rd,nx,⟨nl,pl⟩,tl,jl,ql,⟨ef,el⟩,⟨af,al⟩⟩:bH).sm) (id:Int):FC 23 [.agg [az rd,az nx,SL ns,SL ps,SL ts,SL js,SL qs,az ef,SL es,az af,SL cQ],az id] [] (.ret (cP (t _ fun _=>rX ⟨rd,nx,⟨nl,pl⟩,tl,jl,ql,⟨ef,el⟩,⟨af,al⟩⟩ id))) []:=by
 obtain ⟨⟨s1,s2⟩,s3,⟨s4,s5⟩,⟨s6,s7⟩,s8,s9,SA⟩:=(show bH.sm _ from hs)
 simp only at s1 s2 s3 s4 s5 s6 s7 s8 s9 SA
 obtain ⟨W,hW⟩:∃W:aQ→bM→Bool,W=fun p v=>uP tl p v:=⟨_,rfl⟩
 have hA:=Fq ht rd nx ef af fC hps hts eZ eU aA has hs id (op:=[]) (VO:=[]) fC rfl s1 s2 (by simp) 60 [.int .u64 rd,.int .u64 nx,.sl ns,.sl ps,.sl ts,.sl js,.sl qs,.int .u64 ef,.sl es,.int .u64 af,.sl cQ] W (fun q a b c d hq=>by rw [hW];exact NJ ht rd nx ef af hts s4 q a b c d hq)
 have hE:rX ⟨rd,nx,⟨nl,pl⟩,tl,jl,ql,⟨ef,el⟩,⟨af,al⟩⟩ id=(kj ⟨rd,nx,⟨nl,pl⟩,tl,jl,ql,⟨ef,el⟩,⟨af,al⟩⟩ id ⟨nl,[]⟩ W).2:=by rw [hW];rfl
 obtain ⟨r,hr⟩:∃r,r=kj ⟨rd,nx,⟨nl,pl⟩,tl,jl,ql,⟨ef,el⟩,⟨af,al⟩⟩ id ⟨nl,[]⟩ W:=⟨_,rfl⟩
 rw [←hr] at hE hA
 rw [hE]
 have hB:=pL (bx:=[.var [az rd,az nx,SL ns,SL ps,SL ts,SL js,SL qs,az ef,SL es,az af,SL cQ]]) (b:=0) (xs:=[.agg [az rd,az nx,SL ns,SL ps,SL ts,SL js,SL qs,az ef,SL es,az af,SL cQ],az id,.agg [SL ns,SL []]]) rfl rfl rfl (dw [] rfl rfl rfl rfl hA)
 refine bL ht (aI:=[]) Tryz.func23 rfl rfl (N:=18) rfl rfl (n:=0) rfl rfl ?_
 cbv
 have aU:ns.length=nl.length:=by rw [fC,lgM]
 have aW:ps.length=pl.length:=by rw [hps,lgM]
 have aV:ts.length=tl.length:=by rw [hts,lgM]
 have aX:js.length=jl.length:=by rw [eZ,lgM]
 have aK:qs.length=ql.length:=by rw [eU,lgM]
 have av:es.length=el.length:=by rw [aA,lgM]
 have aJ:cQ.length=al.length:=by rw [has,lgM]
 refine c7 [false,false,false,false,false,false,true,true,false,false,false,true] (by kernel_rfl) (by kernel_rfl) ?_
 cbv
 iterate 4 refine gI (by simp [ht,ah]) ?_
 refine .inl ?_
 (refine mB (fun g=>⟨by simp [ht],trv,P9 ht ns ps⟩) rfl rfl rfl ?_)
 cbv
 refine gI (by simp [ht,ah]) ?_
 (refine dx [0] trv rfl rfl hB (cj ?_))
 cbv
 iterate 3 refine gI (by simp [ht,ah]) ?_
 refine ax trv trv rfl rfl rfl ?_
 (simp only [ht];done)
def je.bC (_:Th) (x:je):List D:=[.int .u8 x.kind,.int .u8 x.a,.int .u8 x.b,.int .u8 x.c,.int .u8 x.d]
instance:Inhabited je:=⟨⟨0,0,0,0,0⟩⟩
structure Told (s:bH) (rd nx:Int) (ns ps ts js qs:List (List D)) (ef:Int) (es:List (List D)) (af:Int) (cQ:List (List D)):Prop where
 r:rd=s.round
 x:nx=s.next
 n:ns=s.bz.nodes.map Node.cells
 p:ps=s.bz.places.map Place.cells
 t:ts=s.tree.map bu.cells
 j:js=s.aG.map Jb.cells
 q:qs=s.queue.map cR.cells
 f:ef=s.ev.first
 e:es=s.ev.l.map eI.cells
 g:af=s.au.first
 a:cQ=s.au.l.map eI.cells
theorem Told.self (s:bH):Told s s.round s.next (s.bz.nodes.map Node.cells) (s.bz.places.map Place.cells) (s.tree.map bu.cells) (s.aG.map Jb.cells) (s.queue.map cR.cells) s.ev.first (s.ev.l.map eI.cells) s.au.first (s.au.l.map eI.cells):=
 ⟨rfl,rfl,rfl,rfl,rfl,rfl,rfl,rfl,rfl,rfl,rfl⟩
theorem Told.eq {s:bH} {rd nx ef af:Int} {ns ps ts js qs es cQ:List (List D)} (h:Told s rd nx ns ps ts js qs ef es af cQ):(⟨rd,nx,⟨s.bz.nodes,s.bz.places⟩,s.tree,s.aG,s.queue,⟨ef,s.ev.l⟩,⟨af,s.au.l⟩⟩:bH)=s:=by
 rw [h.r,h.x,h.f,h.g]
end Dem
end
section
open Go
namespace Dem
def gJ (s:bH) (p:bf):bH:=⟨s.round,s.next,p,s.tree,s.aG,s.queue,s.ev,s.au⟩
theorem yx (p:bf) (ha:ID p.nodes) (name:aQ) (up:Bool):(eT p name up).1.places=p.places∧∀n∈(eT p name up).1.nodes,∃m∈p.nodes,n.name=m.name∧n.labels=m.labels:=by
 rcases EN p ha name up with ⟨e,_⟩|⟨i,x,hx,hn,_,⟨_,e⟩|⟨_,e⟩⟩
 ·rw [e];exact ⟨rfl,fun n hn=>⟨n,hn,rfl,rfl⟩⟩
 ·rw [e];exact ⟨rfl,fun n hn=>⟨n,hn,rfl,rfl⟩⟩
 rw [e]
 refine ⟨rfl,fun n hn=>?_⟩
 rcases List.mem_or_eq_of_mem_set hn with h|rfl
 ·exact ⟨n,h,rfl,rfl⟩
 exact ⟨x,List.mem_of_getElem? hx,rfl,rfl⟩
theorem bH.ok.z6 {s:bH} (h:s.ok) (name:aQ) (up:Bool):(gJ s (eT s.bz name up).1).ok:=by
 obtain ⟨a,b⟩:=Ps h.bz h.kr name up
 have e:=(yx s.bz h.bz.zV name up).1
 exact {bz:=a,kr:=b,tree:=h.tree,used:=h.used,most:=h.most,next:=h.next,ids:=h.ids,yN:=h.yN,yO:=h.yO,left:=h.left,tL:=h.tL,nT:=h.nT,py:=h.py,places:=fun x hx=>h.places x (by rw [←e];exact hx),count:=fun j hj hr=>(by show (vY j.id (eT s.bz name up).1.places:Int)=_;rw [e];exact h.count j hj hr),notes:=h.notes}
theorem NK {A:Ask→Prop} {s:bH} (h:s.ok) (l:s.fT A) (name:aQ) (up:Bool):(gJ s (eT s.bz name up).1).fT A:=by
 refine ⟨fun n hn=>?_,l.paths,l.xs⟩
 obtain ⟨m,hm,e1,e2⟩:=(yx s.bz h.bz.zV name up).2 n hn
 obtain ⟨a,b,c⟩:=l.names m hm
 exact ⟨by rw [e1];exact a,by rw [e2];exact b,by rw [e2];exact c⟩
def fN (s:bH) (l:List Int):bH:=l.foldl (fun s id=>(eJ s id 6).1) s
def I5 (s:bH) (name:aQ) (c:Nat):bH:=if (qO s.bz name).2.2=0∧c%2=0 then fN (gJ s (qO s.bz name).1) (qO s.bz name).2.1 else gJ s (eT s.bz name true).1
def j9 (x:je) (s:bH):bH:=
 if x.kind%8≤3 then (cN s (Aj x)).1 else
 if x.kind%8≤5 then (if (fit (fE s.bz) (cG s.aG (x.a%12:Nat)).1.x.bZ (cG s.aG (x.a%12:Nat)).1.x.gB (cG s.aG (x.a%12:Nat)).1.x.count).2 then
  (eF s (x.a%12:Nat) (fit (fE s.bz) (cG s.aG (x.a%12:Nat)).1.x.bZ (cG s.aG (x.a%12:Nat)).1.x.gB (cG s.aG (x.a%12:Nat)).1.x.count).1).1 else s) else
 if x.kind%8=6 then (send s (x.a%12:Nat) 4).1 else
 I5 s (fK.getD (x.b%3) []) x.c
def eH (n:Nat) (l:List je) (k:Nat):bH:=(l.take k).foldl (fun s x=>j9 x s) (iT n)
theorem wm {n:Nat} {l:List je} {k:Nat} {x:je} (h:l[k]?=some x):eH n l (k+1)=j9 x (eH n l k):=by
 unfold eH;rw [ek h,List.foldl_append];rfl
def RK (s t:bH):Prop:=∀j∈t.aG,j.runs=true→∃k∈s.aG,k.runs=true∧k.id=j.id
theorem Qa {s:bH} (h:s.ok) (id kind:Int):RK s (eJ s id kind).1:=by
 cases hf:s.aG.findIdx? (fun j=>decide (j.id=id)) with
 |none=>unfold eJ;rw [hf];exact fun j hj hr=>⟨j,hj,hr,rfl⟩
 |some i=>
  obtain ⟨j,hj,rfl,c⟩:=mE hf
  by_cases hr:j.runs=true
  ·obtain ⟨T,Q,h1,h2⟩:=zh h hj hr kind
   rw [h2]
   intro y hy Yy
   rcases List.mem_or_eq_of_mem_set hy with g|rfl
   ·exact ⟨y,g,Yy,rfl⟩
   cases Yy
  unfold eJ;rw [hf];simp only;rw [c,if_pos (by simpa using hr)];exact fun j hj hr=>⟨j,hj,hr,rfl⟩
theorem SB {s:bH} (h:s.ok) (id kind:Int):RK s (send s id kind).1:=by
 cases hf:s.aG.findIdx? (fun j=>decide (j.id=id)) with
 |none=>unfold send;rw [hf];exact fun j hj hr=>⟨j,hj,hr,rfl⟩
 |some i=>
  obtain ⟨j,hj,rfl,c⟩:=mE hf
  obtain ⟨h1,h2,h3⟩:=IY h hj kind
  have hx:∀z∈s.aG.eraseIdx i,z.runs=true→∃w∈s.aG,w.runs=true∧w.id=z.id:=fun z hz hr=>⟨z,List.mem_of_mem_eraseIdx hz,hr,rfl⟩
  by_cases hr:j.runs=true
  ·obtain ⟨T,h4,h5⟩:=h3 hr
   rw [h5];exact hx
  rw [h2 (by simpa using hr)];exact hx
def bH.wD (s:bH):Prop:=∀j∈s.aG,j.runs=true→j.id<12
theorem RK.wD {s t:bH} (h:RK s t) (f:s.wD):t.wD:=fun j hj hr=>by
 obtain ⟨k,a,b,c⟩:=h j hj hr
 rw [←c];exact f k a b
theorem Bp {s:bH} (h:s.ok) (f:s.wD) {id:Int} (hi:id<12) (names:List aQ):(eF s id names).1.wD:=by
 by_cases e:(eF s id names).2=0
 ·obtain ⟨i,j,T,h1,h2,h3,h4,h5,h6⟩:=Bg h e
  rw [h6]
  intro y hy hr
  rcases List.mem_or_eq_of_mem_set hy with g|rfl
  ·exact f y g hr
  show j.id<12;rw [h2];exact hi
 rw [Bk e];exact f
theorem zA {s:bH} (h:s.ok) (f:s.wD) (x:Ask):(cN s x).1.wD:=by
 by_cases e:(cN s x).2.2=0
 ·rw [(G9 h e).2.2]
  intro y hy hr
  rcases List.mem_append.1 hy with g|g
  ·exact f y g hr
  rw [List.mem_singleton.1 g] at hr;cases hr
 rw [(Bh e).1];exact f
structure bH.good (s:bH):Prop where
 ok:s.ok
 fT:s.fT zk
 wD:s.wD
theorem uS {s:bH} (h:s.good) (id kind:Int):(eJ s id kind).1.good:=⟨h.ok.stop id kind,(He h.ok id kind).fT h.fT,(Qa h.ok id kind).wD h.wD⟩
theorem NL {s:bH} (h:s.good) (id kind:Int):(send s id kind).1.good:=⟨h.ok.end_ id kind,(KB h.ok id kind).fT h.fT,(SB h.ok id kind).wD h.wD⟩
theorem rZ {s:bH} (h:s.good) (l:List Int):(fN s l).good:=qn (P:=bH.good) (fun a b g=>uS g b 6) _ _ h
theorem kN {s:bH} (h:s.good) (l:List Int):(bB s l).good:=qn (P:=bH.good) (fun a b g=>uS g b 5) _ _ h
theorem qw {s:bH} (h:s.good) (name:aQ) (up:Bool):(gJ s (eT s.bz name up).1).good:=⟨h.ok.z6 name up,NK h.ok h.fT name up,h.wD⟩
theorem uT (p:bf) (name:aQ):(qO p name).1=(eT p name false).1:=by unfold qO;split<;>rfl
theorem KR {s:bH} (h:s.good) (x:je):(j9 x s).good:=by
 unfold j9
 split
 ·exact ⟨h.ok.cN (MV x),zj h.fT (lK x),zA h.ok h.wD _⟩
 split
 ·split
  ·exact ⟨h.ok.MT _ _,(wh h.ok _ _).fT h.fT,Bp h.ok h.wD (by omega) _⟩
  exact h
 split
 ·exact NL h _ _
 unfold I5
 split
 ·rw [uT];exact rZ (qw h _ _) _
 exact qw h _ _
theorem pM (n:Nat) (l:List je) (k:Nat):(eH n l k).good:=
 qn (P:=bH.good) (fun a b h=>KR h b) _ _ ⟨yQ n,wi _ n,fun j hj=>by cases hj⟩
theorem CO:∀(l:List Int) (a b:Int),l.Pairwise (·<·)→(∀x∈l,a≤x∧x<b)→l.length≤(b-a).toNat
 |[],_,_,_,_=>by simp
 |x::r,a,b,h,g=>by
  obtain ⟨h1,h2⟩:=List.pairwise_cons.1 h
  have h3:=CO r (x+1) b h2 fun y hy=>⟨h1 y hy,(g y (by simp [hy])).2⟩
  have h4:=g x (by simp)
  simp only [List.length_cons];omega
theorem Qb {s:bH} (h:s.good) (p:Jb→Bool) (hp:∀j,p j=true→j.runs=true):(s.aG.filter p).length≤12:=by
 have h1:=CO ((s.aG.filter p).map (·.id)) 1 12 (List.pairwise_map.2 (h.ok.ids.filter _)) fun x hx=>by
  obtain ⟨j,hj,rfl⟩:=List.mem_map.1 hx
  obtain ⟨a,b⟩:=List.mem_filter.1 hj
  exact ⟨(h.ok.yN j a).1,h.wD j a (hp j b)⟩
 rw [lgM] at h1;omega
theorem I6 {s:bH} (h:s.good) (name:aQ):(Cm name s.bz.places).length≤12:=by
 have h1:=CO (Cm name s.bz.places) 1 12 (MN _ _) fun x hx=>by
  obtain ⟨y,hy,_,rfl⟩:=MM.1 hx
  obtain ⟨j,hj,hr,e,_⟩:=h.ok.places y hy
  rw [←e]
  exact ⟨(h.ok.yN j hj).1,h.wD j hj hr⟩
 omega
end Dem
end
