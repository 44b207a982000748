/- Parts of a proof, joined. -/
import Derived.Test.YtihohjnkkalgiaaGreatDoorQ20
set_option linter.all false
set_option maxRecDepth 100000
set_option maxHeartbeats 4000000
section
open Go Dem Go.Proofs
namespace Dem
variable {t:Th}
theorem LC (ht:TT t) (bK:Int) {l:List Node} {ps:List Place} {es qs:List (List D)} (aG:es=l.map Node.cells) (eD:qs=ps.map Place.cells) (hl:ps.length<1000000):
 FC 108 [.agg [SL es,SL qs],aD bK] [] (.ret (qg t (t _ fun _=>qo ⟨l,ps⟩ bK))) []:=by
 simp only [ht,qg,qo];rw [←aG];exact Jx ht bK eD hl rfl
theorem LD (ht:TT t) (rd nx ef af:Int) {nl:List Node} {pl:List Place} {tl:List bw} {jl:List Jb} {ql:List cj} {el al:List dW} {ns ps ts js qs es bU:List (List D)} (fc:ns=nl.map Node.cells) (hps:ps=pl.map Place.cells) (hts:ts=tl.map bw.cells) (eN:js=jl.map Jb.cells) (eD:qs=ql.map cj.cells) (aG:es=el.map dW.cells) (has:bU=al.map dW.cells) (ji ja jb jc jd jn jp jt jf:Int) (jq:aQ) (jr:Bool) {nY:List Term} {Ey:List (List D)} (yC:Ey=nY.map Term.cells) {z:Int} {k:Nat} (hz:z=k) (hk:k<jl.length) (hjl:jl.length<1000000):
 FC 79 [.agg [aD rd,aD nx,SL ns,SL ps,SL ts,SL js,SL qs,aD ef,SL es,aD af,SL bU],bJ z,.agg [aD ji,ST jq,aD ja,aD jb,aD jc,aD jd,bJ jn,bJ jp,bJ jt,SL Ey,BL jr,bJ jf]] [] (.ret (fm t (t _ fun _=>CK ⟨rd,nx,⟨nl,pl⟩,tl,jl,ql,⟨ef,el⟩,⟨af,al⟩⟩ k ⟨ji,⟨jq,⟨ja,jb,jc,jd⟩,jn,jp,jt,nY⟩,jr,jf⟩))) []:=by
 refine bP ht (aV:=[]) Tryz.func79 rfl rfl (N:=17) rfl rfl (n:=0) rfl rfl ?_
 cbv
 have aL:ns.length=nl.length:=by rw [fc,lgM]
 have aR:ps.length=pl.length:=by rw [hps,lgM]
 have aM:ts.length=tl.length:=by rw [hts,lgM]
 have aT:js.length=jl.length:=by rw [eN,lgM]
 have aF:qs.length=ql.length:=by rw [eD,lgM]
 have az:es.length=el.length:=by rw [aG,lgM]
 have aE:bU.length=al.length:=by rw [has,lgM]
 have Ez:Ey.length=nY.length:=by rw [yC,lgM]
 refine jB trv (mX ht ‹_› ‹_›) trv rfl (.inr rfl) ?_
 cbv
 refine ⟨?_,?_⟩
 ·(simp [*];done)
 refine ⟨?_,?_⟩
 ·(simp [Jb.cells, *];done)
 cbv
 refine aA trv (by simp [ht]) rfl rfl rfl ?_
 (simp [CK,Jb.cells,List.map_set,bt, *];done)
theorem Hy (ht:TT t) (rd nx ef af:Int) {nl:List Node} {pl:List Place} {tl:List bw} {jl:List Jb} {ql:List cj} {el al:List dW} {ns ps ts js qs es bU:List (List D)} (fc:ns=nl.map Node.cells) (hps:ps=pl.map Place.cells) (hts:ts=tl.map bw.cells) (eN:js=jl.map Jb.cells) (eD:qs=ql.map cj.cells) (aG:es=el.map dW.cells) (has:bU=al.map dW.cells) (ji ja jb jc jd jn jp jt jf:Int) (jq:aQ) (jr:Bool) {nY:List Term} {Ey:List (List D)} (yC:Ey=nY.map Term.cells) (hu:(⟨ja,jb,jc,jd⟩:bO).u') (hjq:jq.length<1000000000000) (htl:tl.length<100000) (IG:pl.length<1000000):
 FC 62 [.agg [aD rd,aD nx,SL ns,SL ps,SL ts,SL js,SL qs,aD ef,SL es,aD af,SL bU],.agg [aD ji,ST jq,aD ja,aD jb,aD jc,aD jd,bJ jn,bJ jp,bJ jt,SL Ey,BL jr,bJ jf]] [] (.ret (fm t (t _ fun _=>mS ⟨rd,nx,⟨nl,pl⟩,tl,jl,ql,⟨ef,el⟩,⟨af,al⟩⟩ ⟨ji,⟨jq,⟨ja,jb,jc,jd⟩,jn,jp,jt,nY⟩,jr,jf⟩))) []:=by
 obtain ⟨⟨⟨v1,v2,v3,v4⟩,vk⟩,hv⟩:∃r,r=cU ⟨jq,⟨ja,jb,jc,jd⟩,jn,jp,jt,nY⟩:=⟨_,rfl⟩
 obtain ⟨⟨t9,e9⟩,h9⟩:∃r,r=rC tl jq ⟨v1,v2,v3,v4⟩:=⟨_,rfl⟩
 have hF:mS ⟨rd,nx,⟨nl,pl⟩,tl,jl,ql,⟨ef,el⟩,⟨af,al⟩⟩ ⟨ji,⟨jq,⟨ja,jb,jc,jd⟩,jn,jp,jt,nY⟩,jr,jf⟩=⟨rd,nx,qo ⟨nl,pl⟩ ji,(if vk then t9 else tl),jl,ql,⟨ef,el⟩,⟨af,al⟩⟩:=by
  simp only [mS,←hv,←h9]
 rw [hF]
 refine bP ht (aV:=[]) Tryz.func62 rfl rfl (N:=32) rfl rfl (n:=0) rfl rfl ?_
 cbv
 have aL:ns.length=nl.length:=by rw [fc,lgM]
 have aR:ps.length=pl.length:=by rw [hps,lgM]
 have aM:ts.length=tl.length:=by rw [hts,lgM]
 have aT:js.length=jl.length:=by rw [eN,lgM]
 have aF:qs.length=ql.length:=by rw [eD,lgM]
 have az:es.length=el.length:=by rw [aG,lgM]
 have aE:bU.length=al.length:=by rw [has,lgM]
 have Ez:Ey.length=nY.length:=by rw [yC,lgM]
 (refine bq trv (rH ht jq ja jb jc jd jn jp jt (sl:=nY) Ey hu) trv rfl rfl (fun r9 jP=>?_);simp only [ht] at jP;rw [←hv] at jP;subst jP)
 cbv
 refine ap (fun h0=>?_) (fun h0=>?_)
 ·cbv
  refine aK trv (JH ht _ _ _ _ _ ‹_› ‹_› ‹_›) trv rfl rfl rfl (fun r1 cP=>?_)
  simp only [ht] at cP
  rw [←h9] at cP
  subst r1
  cbv
  refine aK trv (LC ht _ ‹_› ‹_› ‹_›) trv rfl rfl rfl (fun r2 gS=>?_)
  simp only [ht] at gS
  cbv
  refine aA trv trv rfl rfl rfl ?_
  (subst gS;simp [*];done)
 cbv
 refine aK trv (LC ht _ ‹_› ‹_› ‹_›) trv rfl rfl rfl (fun r3 kV=>?_)
 simp only [ht] at kV
 cbv
 refine aA trv trv rfl rfl rfl ?_
 (simp [*];done)
theorem EA (ht:TT t) {es:List (List D)} {i m c:Nat} (hm:m=es.length) (hi:i<m) (hc:m≤c) (aG:∀r∈es,r.length=12) (hs:m<1000000) {r:List (List D)} (hr:r=es.take i++es.drop (i+1)):
 FC 64 [.vw 0 12 0 m c true,bJ (i:Int),bJ ((i+1:Nat):Int)] [.row 12 es] (.ret (SL r)) [.dead]:=by
 obtain ⟨i1,hi1⟩:∃i1,i1=i+1:=⟨_,rfl⟩
 rw [←hi1] at hr ⊢
 refine bP ht (aV:=[.row 12 es]) Tryz.func64 rfl rfl (N:=33) rfl rfl (n:=1) rfl rfl ?_
 cbv
 obtain ⟨mi,xA⟩:∃n,n=m-i:=⟨_,rfl⟩
 obtain ⟨S0,Vq⟩:∃n,n=m-i1:=⟨_,rfl⟩
 obtain ⟨wo,Ju⟩:∃n,n=c-i1:=⟨_,rfl⟩
 refine bN (.vw 0 12 i 1 mi true) [.row 12 es] ?_ ?_ rfl ?_
 ·simp [ht,ah,bR];omega
 ·simp [ht,ah,be,xA,hi1]
 cbv
 refine nJ (by simp [ht,hi1];omega) ?_
 cbv
 refine dK [false,false,false,false,false,false,true,true] (by kernel_rfl) (by kernel_rfl) ?_
 cbv
 refine gI (by simp) (gI (by simp) ?_)
 refine iq (.vw 0 12 0 i c true) (fun _=>⟨?_,?_⟩) ?_
 ·simp [ht,dN,bR];omega
 ·simp [ht,be,aY]
 cbv
 refine gI (by simp) (gI (by simp) ?_)
 refine iq (.vw 0 12 i1 S0 wo true) (fun _=>⟨?_,?_⟩) ?_
 ·simp [ht,dN,bR];omega
 ·simp [ht,be,aY,Vq,Ju]
 cbv
 obtain ⟨m1,Yu⟩:∃n,n=m-1:=⟨_,rfl⟩
 obtain ⟨ZS,Vr⟩:∃n,n=c-m1:=⟨_,rfl⟩
 obtain ⟨R1,Qq⟩:∃R,R=wrote es i (es.drop i1):=⟨_,rfl⟩
 have tk:(es.drop i1).take S0=es.drop i1:=List.take_of_length_le (by rw [List.length_drop];omega)
 have dl:(es.drop i1).length=S0:=by rw [List.length_drop];omega
 have wB:R1.length=m:=by rw [Qq];simp [wrote];omega
 have Vs:R1.take m1=r:=by
  rw [Qq,hr]
  unfold wrote
  rw [List.take_append_of_le_length (by simp;omega),List.take_of_length_le (by simp;omega)]
 refine bN (.vw 0 12 0 m1 c true) [.row 12 R1,.bC] ?_ ?_ ?_ ?_
 ·simp only [ht,tk,dl,eL,Nat.zero_add]
  exact ⟨by omega,⟨by omega,fun h=>by rw [h] at hm;simp at hm;omega⟩,by omega,fun r h=>aG r (List.mem_of_mem_drop h)⟩
 ·simp only [ht,tk,dl];rw [show i+S0=m1 by omega]
 ·simp only [ht,tk,Nat.zero_add,Qq]
 cbv
 refine bN (.vw 0 12 m1 1 ZS true) [.row 12 R1,.bC] ?_ ?_ rfl ?_
 ·simp [ht,ah,dN,bR];omega
 ·simp [ht,ah,be,aY,Vr];omega
 cbv
 obtain ⟨R2,Qr⟩:∃R,R=wrote R1 m1 (List.replicate 1 [D.int IntKind.u64 0,D.str [],D.int IntKind.u64 0,D.int IntKind.u64 0,D.int IntKind.u64 0,D.int IntKind.u64 0,D.int IntKind.i64 0,D.int IntKind.i64 0,D.int IntKind.i64 0,D.sl [],D.bool false,D.int IntKind.i64 0]):=⟨_,rfl⟩
 have XN:R2.length=m:=by rw [Qr];simp [wrote,wB];omega
 have Vt:R2.take m1=r:=by
  rw [←Vs,Qr]
  unfold wrote
  rw [List.append_assoc,List.take_append_of_le_length (by simp [wB];omega),List.take_take,Nat.min_self]
 refine bN (.dX []) [.row 12 R2,.bC] ?_ rfl ?_ ?_
 ·simp only [ht,eL];exact ⟨by omega,fun h=>by rw [h] at wB;simp at wB;omega⟩
 ·simp only [ht,Qr]
 cbv
 refine yx [true] trv ?_ rfl rfl rfl ?_
 ·simp only [ht];omega
 simp only [ht,List.drop_zero,Vt]
theorem vp (ht:TT t) {l:List Jb} {i:Nat} {z z1:Int} (hz:z=i) (hz1:z1=(i:Int)+1) (hi:i<l.length) (hs:l.length<1000000):
 FC 64 [.ow 0 12 (t _ fun _=>(l.map Jb.cells).length),bJ z,bJ z1] [.row 12 (t _ fun _=>l.map Jb.cells)] (.ret (SL (t _ fun _=>(l.eraseIdx i).map Jb.cells))) [.dead]:=by
 simp only [ht]
 have e1:z1=((i+1:Nat):Int):=by omega
 subst hz
 rw [e1]
 refine dU (fun c hc hc0=>EA ht (es:=l.map Jb.cells) (i:=i) rfl (by simpa using hi) hc ?_ (by simpa using hs) ?_)
 ·intro r hr;obtain ⟨y,_,rfl⟩:=List.mem_map.1 hr;rfl
 rw [List.eraseIdx_eq_take_drop_succ,List.map_append,List.map_take,List.map_drop]
end Dem
end
section
open Go
namespace Dem
section
variable {P:Program} {T:Nat→Option TI} {G:Nat→Option (List D)} {N K:Nat}
theorem A4 (hT:ko P T) (hD:pQ P T G) {f N:Nat} {fn:Func} {c:Code} {args:List AV} {aV aZ:List aB} {res:jN} (hf:P.funcs[f]?=some fn) (hb:fn.body=some c)
 (hname:(fn.name== "runtime.NumGoroutine")=false) (hN:fn.ntmps=N) (hlen:Nat.ble args.length N=true) {pre rest:List Code} (hc:flat c=pre++rest) (R:St→Prop)
 (hr:∀(X:Nat→Prop) (β0:Nat→Nat) (w0:World) (β:Nat→Nat) (w:World) (s:St) (a:Act),Ext β0 aV w0 β s.bx w→Fr G N [] β w X s a→R s→
  sW P rest (gD G N [] X β0 aV w0 (xG t0 T fn.results.toList aV.length res aZ)) a w)
 (h:Pg t0 (bH P G) T G N aV.length pre (fun e s=>match e with|.normal=>R s|e=>xG t0 T fn.results.toList aV.length res aZ e s) ⟨pG 0 args,aV⟩):bH P G f args aV res aZ:=by
 refine uq hT hf hb hname hN hlen fun β w X a hF=>wp_mono (DS c ?_) (fun _ _ _ hl=>gD.imp (fun _ _ hq=>K6 hq) hl)
 rw [hc]
 refine xI (Gv ?_ (sX (X:=X) (β0:=β) (aV:=aV) (w0:=w) hT hD (Nat.le_refl _) pre _ β w _ a (Ext.refl _ _ _) hF h))
 intro e a1 w1 hl
 cases e<;>simp only [gD,Exit.then] at hl ⊢
 ·obtain ⟨β1,s1,zB,EV,hR⟩:=hl
  exact hr X β w β1 w1 s1 a1 zB EV hR
 all_goals exact hl
structure Vu (n:Nat) (K:Nat→Prop):Prop where
 ok:∀c,n≤c→(n=0→c=0)→K c
def Qs (t:Th) (FC:Nat→List AV→List aB→jN→List aB→Prop) (T:Nat→Option TI) (G:Nat→Option (List D)) (N K:Nat) (post:List Code) (i:Nat) (Q:Ex→St→Prop) (s:St):Prop:=
 match gG i s.sl with
 |.ow b sz n=>Vu n fun c=>Pg t FC T G N K post Q ⟨put i (.vw b sz 0 n c true) s.sl,s.bx⟩
 |_=>False
theorem Hz (hT:ko P T) (hD:pQ P T G) {aV:List aB} (hK:aV.length≤K) {post:List Code} {i:Nat} {Q:Ex→St→Prop} {X:Nat→Prop} {β0:Nat→Nat} {w0:World} {β:Nat→Nat} {w:World} {s:St} {a:Act} (ex:Ext β0 aV w0 β s.bx w) (hF:Fr G N [] β w X s a)
 (h:Qs t0 (bH P G) T G N K post i Q s):sW P post (gD G N [] X β0 aV w0 Q) a w:=by
 unfold Qs at h
 split at h
 case h_2=>exact h.elim
 rename_i b sz n hi
 obtain ⟨h⟩:=h
 have hx:=hF.yI i
 rw [hi] at hx
 simp only [ak] at hx
 have key:∀c,n≤c→(n=0→c=0)→ak β s.bx w (bz β s.bx w X) (.vw b sz 0 n c true) (a.tmps.getD i undef)→sW P post (gD G N [] X β0 aV w0 Q) a w:=by
  intro c h1 h2 h3
  refine sX hT hD hK post Q β w ⟨put i (.vw b sz 0 n c true) s.sl,s.bx⟩ a ex ⟨hF.cx,hF.defers,hF.size,fun t=>?_⟩ (h c h1 h2)
  rw [oy]
  by_cases ht:t=i
  ·subst ht;rw [if_pos rfl];exact h3
  rw [if_neg ht];exact hF.yI t
 obtain ⟨hb,⟨rfl,base,e⟩|⟨h0,cap,c,e1,f',e,h1,h2,h3⟩⟩:=hx
 ·refine key 0 (Nat.le_refl _) (fun _=>rfl) ?_
  rw [e]
  simp only [ak]
  exact ⟨hb,base,0,#[],0,(0,0),rfl,Nat.le_refl _,Nat.le_refl _,fun _=>rfl,.inl rfl⟩
 refine key cap h1 (fun h=>absurd h h0) ?_
 rw [e]
 simp only [ak]
 exact ⟨hb,_,cap,c,e1,f',rfl,h1,Nat.le_refl _,fun _=>rfl,.inr ⟨by simp,h2,by simpa using h3⟩⟩
end
end Dem
end
section
open Go Dem Go.Proofs
namespace Dem
theorem fcV {t:Th} (ht:TT t) (k i:Nat) {f N:Nat} {fn:Func} {c:Code} {args:List AV} {aV aZ:List aB} {res:jN} (hf:Tryz.prog.funcs[f]?=some fn) (hb:fn.body=some c)
 (hname:(fn.name== "runtime.NumGoroutine")=false) (hN:fn.ntmps=N) {rs:List ResultVar} (Ry:fn.results.toList=rs) {n:Nat} (hn:aV.length=n) (hlen:Nat.ble args.length N=true)
 (h:Pg t FC tT gl N n ((flat c).take k) (fun e s=>match e with|.normal=>Qs t FC tT gl N n ((flat c).drop k) i (xG t tT rs n res aZ) s|e=>xG t tT rs n res aZ e s) ⟨pG 0 args,aV⟩):FC f args aV res aZ:=by
 subst Ry;subst hn
 have e:=ht.eq
 subst e
 exact A4 T0 I4 hf hb hname hN hlen (List.take_append_drop k (flat c)).symm _ (fun X β0 w0 β w s a ex hF hR=>Hz T0 I4 (Nat.le_refl _) ex hF hR) h
end Dem
end
section
open Go Dem Go.Proofs
namespace Dem
variable {t:Th}
theorem Nj {l:List cj} {es:List (List D)} {i m:Nat} (aG:es=l.map cj.cells) (hi:i<l.length) (hm:m+1=l.length):
 wrote (wrote (List.replicate m [D.int IntKind.u64 0,D.int IntKind.i64 0]) 0 (es.take i)) i (es.drop (i+1))=(l.eraseIdx i).map cj.cells:=by
 have hl:es.length=l.length:=by rw [aG,lgM]
 simp only [wrote,List.take_zero,List.nil_append,Nat.zero_add,List.length_take,List.length_drop,List.drop_replicate,List.eraseIdx_eq_take_drop_succ,List.map_append,List.map_take,List.map_drop,←aG]
 have d1:(List.take i es).length=i:=by rw [List.length_take];omega
 have d2:List.drop (i+(es.length-(i+1))) (List.take i es++List.replicate (m-i) [D.int IntKind.u64 0,D.int IntKind.i64 0])=[]:=List.drop_eq_nil_of_le (by rw [List.length_append,d1,List.length_replicate];omega)
 rw [Nat.min_eq_left (by omega),List.take_append_of_le_length (by omega),List.take_take,Nat.min_self,d2,List.append_nil]
theorem HA (ht:TT t) (id:Int) {l:List cj} {es:List (List D)} (aG:es=l.map cj.cells) (hl:l.length<1000000):
 FC 63 [SL es,aD id] [] (.ret (XK t (t _ fun _=>Ao l id))) []:=by
 refine fcV ht 5 7 (aV:=[]) Tryz.func63 rfl rfl (N:=32) rfl rfl (n:=0) rfl rfl ?_
 cbv
 have az:es.length=l.length:=by rw [aG,lgM]
 refine bq trv (C0 ht _ ‹_› (by omega)) trv rfl rfl (fun r0 c7=>?_)
 simp only [ht] at c7
 have ec:=cF c7
 clear c7
 rcases ec with ⟨e1,e2,e3⟩|⟨i,x,hi,hil,e1,e2,e3,e4⟩
 ·cbv
  refine ap (fun h1=>?_) (fun h1=>?_)
  ·simp [ht] at h1
   cbv
   refine aA trv trv rfl rfl rfl ?_
   (simp [Ao, *];done)
  simp [ht] at h1
  omega
 obtain ⟨m,hm⟩:∃m,m+1=l.length:=⟨l.length-1,by omega⟩
 obtain ⟨i1,hi1⟩:∃n,n=i+1:=⟨_,rfl⟩
 obtain ⟨mi,xA⟩:∃n,n=m-i:=⟨_,rfl⟩
 have tr:=Nj aG hil hm
 rw [←hi1] at tr
 obtain ⟨R1,Qq⟩:∃R,R=wrote (List.replicate m [D.int IntKind.u64 0,D.int IntKind.i64 0]) 0 (es.take i):=⟨_,rfl⟩
 obtain ⟨R2,Qr⟩:∃R,R=wrote R1 i (es.drop i1):=⟨_,rfl⟩
 have hr:∀r∈es,r.length=2:=by rw [aG];intro r hr;obtain ⟨y,_,rfl⟩:=List.mem_map.1 hr;rfl
 have hw:IntKind.i64.wrap ((es.length:Int)-1)=(m:Int):=by rw [wrap64 (by omega) (by omega)];omega
 have hw1:IntKind.i64.wrap (r0+1)=(i1:Int):=by rw [wrap64 (by omega) (by omega)];omega
 have wB:R1.length=m:=by rw [Qq];simp [wrote];omega
 have XN:R2.length=m:=by rw [Qr];simp [wrote,wB];omega
 rw [←Qq,←Qr] at tr
 cbv
 refine ap (fun h2=>?_) (fun h2=>?_)
 ·simp [ht] at h2
  rw [hi] at h2;simp only [ah] at h2;exact absurd h2 (by omega)
 simp [ht] at h2
 cbv
 refine ⟨?_,?_⟩
 ·simp only [ah] at hw;simp only [ht,ah,hw];refine ⟨by omega,trv,?_⟩;simp only [Int.toNat_natCast];omega
 refine ⟨fun c hc hc0=>?_⟩
 cbv
 simp only [ah] at hw hi hw1 tr
 have hcm:m≤c:=by simpa only [ht,ah,hw,Int.toNat_natCast] using hc
 refine ⟨?_,?_⟩
 ·simp only [ht,bR];exact ⟨⟨h2,by omega⟩,hr⟩
 refine bN (bJ (i:Int)) [.row 2 R1] ?_ ?_ ?_ ?_
 ·simp only [ht,ah,hw,hi,iD,Int.toNat_natCast,eL,List.length_take,List.length_replicate]
  refine ⟨⟨by omega,fun h=>?_⟩,fun r h=>hr r (List.mem_of_mem_take (List.mem_of_mem_take h))⟩
  have:=congrArg List.length h
  simp only [List.length_replicate,List.length_nil] at this
  omega
 ·simp only [ht,ah,hw,hi,iD,Int.toNat_natCast,List.length_take]
  rw [Nat.min_eq_left (by omega),Nat.min_eq_left (by omega)]
 ·simp only [ht,ah,hw,hi,iD,Int.toNat_natCast,List.length_take]
  rw [Qq,Nat.min_eq_left (by omega),Nat.min_eq_left (by omega),List.take_take,Nat.min_self]
 cbv
 refine dK [false,false,false,false,false,false,false,true] (by kernel_rfl) (by kernel_rfl) ?_
 cbv
 refine gI (by simp) (gI (by simp) ?_)
 obtain ⟨ci,pi⟩:∃n,n=c-i:=⟨_,rfl⟩
 refine iq (.vw 0 2 i mi ci true) (fun _=>⟨?_,?_⟩) ?_
 ·simp only [ht,ah,hw,hi,dN,bR,Int.toNat_natCast];omega
 ·simp only [ht,ah,hw,hi,be,aY,Int.toNat_natCast,Option.getD_some,Nat.zero_add];rw [xA,pi]
 cbv
 refine gI (by simp) (gI (by simp) (gI (by simp) (gI (fun _=>?_) ?_)))
 ·simp only [ht,ah,hw1,bR];exact ⟨⟨by omega,by omega⟩,hr⟩
 refine bN (bJ (mi:Int)) [.row 2 R2,.bC] ?_ ?_ ?_ ?_
 ·simp only [ht,ah,hw1,iD,Int.toNat_natCast,eL,List.length_drop]
  refine ⟨⟨by omega,fun h=>?_⟩,fun r h=>hr r (List.mem_of_mem_drop (List.mem_of_mem_take h))⟩
  rw [h] at wB;simp only [List.length_nil] at wB;omega
 ·simp only [ht,ah,hw1,iD,Int.toNat_natCast,List.length_drop]
  rw [Nat.min_eq_right (by omega)]
 ·simp only [ht,ah,hw1,iD,Int.toNat_natCast,List.length_drop]
  rw [Qr,List.take_of_length_le (by rw [List.length_drop];omega)]
 cbv
 refine aA trv ?_ rfl rfl rfl ?_
 ·simp only [ht,ah,hw,Int.toNat_natCast];exact ⟨by omega,trv⟩
 simp only [ht,ah,hw,Int.toNat_natCast,Ao,e3,List.drop_zero,tr]
 rw [List.take_of_length_le (by rw [←tr];omega)]
theorem EB {l:List Jb} {id r:Int} (h:r=D7 l id) {P:Jb→Prop} (hP:∀x∈l,P x):(r=-1∧l.findIdx? (fun j=>decide (j.id=id))=none)∨
 ∃(i:Nat) (xi xa xb xc xd xn xp xt xf:Int) (xq:aQ) (xr:Bool) (xl:List Term),r=i∧i<l.length∧l[i]?=some ⟨xi,⟨xq,⟨xa,xb,xc,xd⟩,xn,xp,xt,xl⟩,xr,xf⟩∧l.findIdx? (fun j=>decide (j.id=id))=some i∧
  l.getD i Jb.zero=⟨xi,⟨xq,⟨xa,xb,xc,xd⟩,xn,xp,xt,xl⟩,xr,xf⟩∧P ⟨xi,⟨xq,⟨xa,xb,xc,xd⟩,xn,xp,xt,xl⟩,xr,xf⟩∧xi=id:=by
 rcases cF h with ⟨e1,e2,_⟩|⟨i,⟨xi,⟨xq,⟨xa,xb,xc,xd⟩,xn,xp,xt,xl⟩,xr,xf⟩,e1,e2,e3,e4,e5,_⟩
 ·exact .inl ⟨e1,e2⟩
 exact .inr ⟨i,xi,xa,xb,xc,xd,xn,xp,xt,xf,xq,xr,xl,e1,e2,e3,e5,by rw [List.getD_eq_getElem?_getD,e3];rfl,hP _ (List.mem_of_getElem? e3),by simpa using e4⟩
theorem jH (s:bg) (j:Jb):mS s j=⟨s.round,s.next,(mS s j).bf,(mS s j).tree,s.av,s.queue,s.ev,s.au⟩:=rfl
theorem EC (ht:TT t) (rd nx ef af:Int) {nl:List Node} {pl:List Place} {tl:List bw} {jl:List Jb} {ql:List cj} {el al:List dW} {ns ps ts js qs es bU:List (List D)} (fc:ns=nl.map Node.cells) (hps:ps=pl.map Place.cells) (hts:ts=tl.map bw.cells) (eN:js=jl.map Jb.cells) (eD:qs=ql.map cj.cells) (aG:es=el.map dW.cells) (has:bU=al.map dW.cells) (id kd:Int) (wq:∀x∈jl,x.x.gu.u'∧x.x.path.length<1000000000000) (htl:tl.length<100000) (hjl:jl.length<1000000) (IG:pl.length<1000000) (Uc:ql.length<1000000) (hel:el.length<1000000):
 FC 39 [.agg [aD rd,aD nx,SL ns,SL ps,SL ts,SL js,SL qs,aD ef,SL es,aD af,SL bU],aD id,bJ kd] [] (.ret (Lw t (t _ fun _=>gB ⟨rd,nx,⟨nl,pl⟩,tl,jl,ql,⟨ef,el⟩,⟨af,al⟩⟩ id kd))) []:=by
 refine bP ht (aV:=[]) Tryz.func39 rfl rfl (N:=49) rfl rfl (n:=0) rfl rfl ?_
 cbv
 have aL:ns.length=nl.length:=by rw [fc,lgM]
 have aR:ps.length=pl.length:=by rw [hps,lgM]
 have aM:ts.length=tl.length:=by rw [hts,lgM]
 have aT:js.length=jl.length:=by rw [eN,lgM]
 have aF:qs.length=ql.length:=by rw [eD,lgM]
 have az:es.length=el.length:=by rw [aG,lgM]
 have aE:bU.length=al.length:=by rw [has,lgM]
 refine bq trv (rI ht _ _ _ _ _ _ _ _ _ _ _ ‹_› (by omega)) trv rfl rfl (fun r0 c7=>?_)
 simp only [ht] at c7
 have ec:=EB c7 wq
 clear c7
 rcases ec with ⟨e1,e2⟩|⟨i,xi,xa,xb,xc,xd,xn,xp,xt,xf,xq,xr,xl,e1,e2,e3,e4,e5,⟨e6,e7⟩,e8⟩
 ·cbv
  refine ap (fun h1=>?_) (fun h1=>?_)
  ·simp [ht] at h1
   cbv
   refine aA trv trv rfl rfl rfl ?_
   (simp [gB, *];done)
  simp [ht] at h1
  omega
 cbv
 refine ap (fun h2=>?_) (fun h2=>?_)
 ·simp [ht] at h2
  (simp only [ah] at*;omega)
 simp [ht] at h2
 cbv
 refine v8 ht eN (cT:=Jb.bF t) e3 ‹_› (fun _=>rfl) (fun _=>(by (simp only [ht,Jb.bF];rfl))) ?_
 cbv
 refine ap (fun h4=>?_) (fun h4=>?_)
 ·simp [ht] at h4
  cbv
  refine aA trv trv rfl rfl rfl ?_
  (simp only [ht,gB,e4,e5];simp [*];done)
 simp [ht] at h4
 cbv
 refine aK trv (Hy ht _ _ _ _ ‹_› ‹_› ‹_› ‹_› ‹_› ‹_› ‹_› _ _ _ _ _ _ _ _ _ _ _ (kI ht rfl) ‹_› ‹_› ‹_› ‹_›) trv rfl rfl rfl (fun r5 vf=>?_)
 simp only [ht] at vf
 (rw [jH] at vf;generalize OI:(mS ⟨rd,nx,⟨nl,pl⟩,tl,jl,ql,⟨ef,el⟩,⟨af,al⟩⟩ ⟨xi,⟨xq,⟨xa,xb,xc,xd⟩,xn,xp,xt,xl⟩,xr,xf⟩).bf=fp at vf;generalize hft:(mS ⟨rd,nx,⟨nl,pl⟩,tl,jl,ql,⟨ef,el⟩,⟨af,al⟩⟩ ⟨xi,⟨xq,⟨xa,xb,xc,xd⟩,xn,xp,xt,xl⟩,xr,xf⟩).tree=ft at vf;subst r5)
 cbv
 refine aK trv (AR ht _ _ (kI ht rfl) ‹_›) trv rfl rfl rfl (fun r6 nu=>?_)
 simp only [ht] at nu
 cbv
 refine aK trv (LD ht _ _ _ _ (kI ht rfl) (kI ht rfl) (kI ht rfl) (kI ht rfl) (kI ht rfl) (kI ht rfl) (kI ht rfl) _ _ _ _ _ _ _ _ _ _ _ (kI ht rfl) ‹_› ‹_› ‹_›) trv rfl rfl rfl (fun r7 C6=>?_)
 simp only [ht] at C6
 have Yv:(r7).ev.l.length<1000000:=by rw [C6];exact hel
 cbv
 refine aK trv (nV ht _ _ _ _ _ _ (kI ht rfl) (kI ht rfl) (kI ht rfl) (kI ht rfl) (kI ht rfl) (kI ht rfl) (kI ht rfl) ‹_›) trv rfl rfl rfl (fun r8 V6=>?_)
 simp only [ht] at V6
 cbv
 refine aA trv trv rfl rfl rfl ?_
 (simp only [ht,gB,e4,e5,V6,C6,nu];rw [jH,OI,hft];simp [*];done)
theorem Qt (ht:TT t) (rd nx ef af:Int) {nl:List Node} {pl:List Place} {tl:List bw} {jl:List Jb} {ql:List cj} {el al:List dW} {ns ps ts js qs es bU:List (List D)} (fc:ns=nl.map Node.cells) (hps:ps=pl.map Place.cells) (hts:ts=tl.map bw.cells) (eN:js=jl.map Jb.cells) (eD:qs=ql.map cj.cells) (aG:es=el.map dW.cells) (has:bU=al.map dW.cells) (id kd:Int) (wq:∀x∈jl,x.x.gu.u'∧x.x.path.length<1000000000000) (htl:tl.length<100000) (hjl:jl.length<1000000) (IG:pl.length<1000000) (Uc:ql.length<1000000) (hel:el.length<1000000):
 FC 24 [.agg [aD rd,aD nx,SL ns,SL ps,SL ts,SL js,SL qs,aD ef,SL es,aD af,SL bU],aD id,bJ kd] [] (.ret (Lw t (t _ fun _=>send ⟨rd,nx,⟨nl,pl⟩,tl,jl,ql,⟨ef,el⟩,⟨af,al⟩⟩ id kd))) []:=by
 refine bP ht (aV:=[]) Tryz.func24 rfl rfl (N:=48) rfl rfl (n:=0) rfl rfl ?_
 cbv
 have aL:ns.length=nl.length:=by rw [fc,lgM]
 have aR:ps.length=pl.length:=by rw [hps,lgM]
 have aM:ts.length=tl.length:=by rw [hts,lgM]
 have aT:js.length=jl.length:=by rw [eN,lgM]
 have aF:qs.length=ql.length:=by rw [eD,lgM]
 have az:es.length=el.length:=by rw [aG,lgM]
 have aE:bU.length=al.length:=by rw [has,lgM]
 refine bq trv (rI ht _ _ _ _ _ _ _ _ _ _ _ ‹_› (by omega)) trv rfl rfl (fun r0 c7=>?_)
 simp only [ht] at c7
 have ec:=EB c7 wq
 clear c7
 rcases ec with ⟨e1,e2⟩|⟨i,xi,xa,xb,xc,xd,xn,xp,xt,xf,xq,xr,xl,e1,e2,e3,e4,e5,⟨e6,e7⟩,e8⟩
 ·cbv
  refine ap (fun h1=>?_) (fun h1=>?_)
  ·simp [ht] at h1
   cbv
   refine aA trv trv rfl rfl rfl ?_
   (simp [send, *];done)
  simp [ht] at h1
  omega
 cbv
 refine ap (fun h2=>?_) (fun h2=>?_)
 ·simp [ht] at h2
  (simp only [ah] at*;omega)
 simp [ht] at h2
 cbv
 refine v8 ht eN (cT:=Jb.bF t) e3 ‹_› (fun _=>rfl) (fun _=>(by (simp only [ht,Jb.bF];rfl))) ?_
 cbv
 refine ap (fun h4=>?_) (fun h4=>?_)
 ·cbv
  refine dK [false,false,false,false,false,false,true,true] (by kernel_rfl) (by kernel_rfl) ?_
  cbv
  iterate 4 refine gI (by simp) ?_
  refine v8 ht eN (cT:=Jb.bF t) e3 ‹_› (fun _=>rfl) (fun _=>(by (simp only [ht,Jb.bF];rfl))) ?_
  cbv
  refine gI (by simp) ?_
  refine aK trv (Hy ht _ _ _ _ ‹_› ‹_› ‹_› ‹_› ‹_› ‹_› ‹_› _ _ _ _ _ _ _ _ _ _ _ (kI ht rfl) ‹_› ‹_› ‹_› ‹_›) trv rfl rfl rfl (fun r6 nu=>?_)
  simp only [ht] at nu
  (rw [jH] at nu;generalize OI:(mS ⟨rd,nx,⟨nl,pl⟩,tl,jl,ql,⟨ef,el⟩,⟨af,al⟩⟩ ⟨xi,⟨xq,⟨xa,xb,xc,xd⟩,xn,xp,xt,xl⟩,xr,xf⟩).bf=fp at nu;generalize hft:(mS ⟨rd,nx,⟨nl,pl⟩,tl,jl,ql,⟨ef,el⟩,⟨af,al⟩⟩ ⟨xi,⟨xq,⟨xa,xb,xc,xd⟩,xn,xp,xt,xl⟩,xr,xf⟩).tree=ft at nu;subst r6)
  cbv
  refine jB trv (mX ht (kI ht rfl) ‹_›) trv rfl (.inr rfl) ?_
  cbv
  (simp only [ah] at e1;refine dz [3] trv rfl rfl (vp ht (l:=jl) (i:=i) ‹_› (by simp only [ht];rw [wrap64 (by omega) (by omega),e1]) e2 (by omega)) (cz ?_))
  cbv
  refine aK trv (nV ht _ _ _ _ _ _ (kI ht rfl) (kI ht rfl) (kI ht rfl) (kI ht rfl) (kI ht rfl) (kI ht rfl) (kI ht rfl) ‹_›) trv rfl rfl rfl (fun r7 C6=>?_)
  simp only [ht] at C6
  cbv
  refine aA trv trv rfl rfl rfl ?_
  (subst h4;simp only [ht,send,e4,e5,C6,if_true];rw [jH,OI,hft];done)
 cbv
 refine aK trv (HA ht _ ‹_› ‹_›) trv rfl rfl rfl (fun r8 V6=>?_)
 simp only [ht] at V6
 cbv
 refine jB trv (mX ht ‹_› ‹_›) trv rfl (.inr rfl) ?_
 cbv
 (simp only [ah] at e1;refine dz [2] trv rfl rfl (vp ht (l:=jl) (i:=i) ‹_› (by simp only [ht];rw [wrap64 (by omega) (by omega),e1]) e2 (by omega)) (cz ?_))
 cbv
 refine aK trv (nV ht _ _ _ _ _ _ ‹_› ‹_› ‹_› (kI ht rfl) (kI ht rfl) ‹_› ‹_› ‹_›) trv rfl rfl rfl (fun r9 jP=>?_)
 simp only [ht] at jP
 cbv
 refine aA trv trv rfl rfl rfl ?_
 (simp only [ht,send,e4,e5];simp [*];done)
structure bg.sm (s:bg):Prop where
 nodes:s.bf.nodes.length<1000000∧∀x∈s.bf.nodes,x.sm
 places:s.bf.places.length<1000000
 tree:s.tree.length<100000∧∀x∈s.tree,x.path.length<1000000000000
 av:s.av.length<1000000∧∀x∈s.av,x.x.sm∧(0≤x.id∧x.id<18446744073709551616)∧x.x.count<9223372036854775808
 queue:s.queue.length<1000000
 notes:s.ev.l.length<1000000∧s.au.l.length<1000000
theorem C7 (ht:TT t) {es:List (List D)} (hr:∀r∈es,r.length=12):FC 138 [SL es] [] (.ret (.cl es)) []:=by
 refine bP ht (aV:=[]) Tryz.func138 rfl rfl (N:=9) rfl rfl (n:=0) rfl rfl ?_
 cbv
 refine ⟨?_,I3 trv rfl ?_⟩
 ·simp only [ht,ah,bR];exact ⟨⟨⟨by omega,Int.le_refl _⟩,trv⟩,hr⟩
 simp [ht,ah,iD]
theorem Nk (ht:TT t) (rd nx ef af:Int) {nl:List Node} {pl:List Place} {tl:List bw} {jl:List Jb} {ql:List cj} {el al:List dW} {ns ps ts js qs es bU:List (List D)} (fc:ns=nl.map Node.cells) (hps:ps=pl.map Place.cells) (hts:ts=tl.map bw.cells) (eN:js=jl.map Jb.cells) (eD:qs=ql.map cj.cells) (aG:es=el.map dW.cells) (has:bU=al.map dW.cells) (ja jb jc jd jn jp jt:Int) (jq:aQ) {nY:List Term} {Ey:List (List D)} (yC:Ey=nY.map Term.cells) (e0:List D) (er:List (List D)) (hj:js=e0::er) (hx:(⟨jq,⟨ja,jb,jc,jd⟩,jn,jp,jt,nY⟩:Ask).sm) (htl:tl.length<100000) (hjl:jl.length<1000000) (Uc:ql.length<1000000) (hel:el.length<1000000):
 FC 89 [.agg [aD rd,aD nx,SL ns,SL ps,SL ts,SL js,SL qs,aD ef,SL es,aD af,SL bU],.agg [ST jq,aD ja,aD jb,aD jc,aD jd,bJ jn,bJ jp,bJ jt,SL Ey]] [] (.ret (Qe t (t _ fun _=>cW ⟨rd,nx,⟨nl,pl⟩,tl,jl,ql,⟨ef,el⟩,⟨af,al⟩⟩ ⟨jq,⟨ja,jb,jc,jd⟩,jn,jp,jt,nY⟩))) []:=by
 subst hj
 obtain ⟨ck,XO⟩:∃ck,ck=eO ⟨jq,⟨ja,jb,jc,jd⟩,jn,jp,jt,nY⟩:=⟨_,rfl⟩
 obtain ⟨th,XP⟩:∃th,th=jE tl jq:=⟨_,rfl⟩
 obtain ⟨⟨q9,e9⟩,h9⟩:∃r,r=jU ql ⟨nx,jp⟩:=⟨_,rfl⟩
 have hS:cW ⟨rd,nx,⟨nl,pl⟩,tl,jl,ql,⟨ef,el⟩,⟨af,al⟩⟩ ⟨jq,⟨ja,jb,jc,jd⟩,jn,jp,jt,nY⟩=if ck≠0 then (⟨rd,nx,⟨nl,pl⟩,tl,jl,ql,⟨ef,el⟩,⟨af,al⟩⟩,0,ck) else if !th then (⟨rd,nx,⟨nl,pl⟩,tl,jl,ql,⟨ef,el⟩,⟨af,al⟩⟩,0,7) else if 32≤jl.length∨nx=18446744073709551615 then (⟨rd,nx,⟨nl,pl⟩,tl,jl,ql,⟨ef,el⟩,⟨af,al⟩⟩,0,9) else if e9≠0 then (⟨rd,nx,⟨nl,pl⟩,tl,jl,ql,⟨ef,el⟩,⟨af,al⟩⟩,0,e9) else
  (iI ⟨rd,IntKind.u64.wrap (nx+1),⟨nl,pl⟩,tl,jl++[⟨nx,⟨jq,⟨ja,jb,jc,jd⟩,jn,jp,jt,nY⟩,false,0⟩],q9,⟨ef,el⟩,⟨af,al⟩⟩ nx 1,nx,0):=by
  simp only [cW,←XO,←XP,←h9,u64,←oI]
 rw [hS]
 clear hS
 have hr:∀r∈e0::er,r.length=12:=by rw [eN];intro r hr;obtain ⟨y,_,rfl⟩:=List.mem_map.1 hr;rfl
 have hle:er.length+1=jl.length:=by have:=congrArg List.length eN;simpa using this
 obtain ⟨h1,h2,h3,h4⟩:=id hx
 simp only at h1 h2 h3 h4
 refine bP ht (aV:=[]) Tryz.func89 rfl rfl (N:=68) rfl rfl (n:=0) rfl rfl ?_
 cbv
 have aL:ns.length=nl.length:=by rw [fc,lgM]
 have aR:ps.length=pl.length:=by rw [hps,lgM]
 have aM:ts.length=tl.length:=by rw [hts,lgM]
 have aF:qs.length=ql.length:=by rw [eD,lgM]
 have az:es.length=el.length:=by rw [aG,lgM]
 have aE:bU.length=al.length:=by rw [has,lgM]
 have Ez:Ey.length=nY.length:=by rw [yC,lgM]
 refine bq trv (CV ht _ _ _ _ _ _ _ _ ‹_› ‹_›) trv rfl rfl (fun r0 c7=>?_)
 simp only [ht] at c7
 rw [←XO] at c7
 subst r0
 cbv
 refine ap (fun h1=>?_) (fun h1=>?_)
 ·simp [ht] at h1
  cbv
  refine aA trv trv rfl rfl rfl ?_
  (simp only [ht];grind)
 simp [ht] at h1
 cbv
 refine bq trv (CX ht _ ‹_› (by omega) ‹_›) trv rfl rfl (fun r2 gS=>?_)
 simp only [ht] at gS
 rw [←XP] at gS
 subst r2
 cbv
 refine ap (fun h3=>?_) (fun h3=>?_)
 ·simp [ht] at h3
  cbv
  refine aA trv trv rfl rfl rfl ?_
  (simp only [ht];grind)
 simp [ht] at h3
 cbv
 iterate 3 refine gI (by simp [ht]) ?_
 refine pI (by simp [ht]) ?_
 refine ap (fun h4=>?_) (fun h4=>?_)
 ·simp [ht,ah] at h4
  cbv
  refine aA trv trv rfl rfl rfl ?_
  (simp only [ht];grind)
 simp [ht,ah] at h4
 cbv
 refine aK trv (AR ht _ _ ‹_› ‹_›) trv rfl rfl rfl (fun r5 vf=>?_)
 simp only [ht] at vf
 rw [←h9] at vf
 subst r5
 cbv
 refine ap (fun h6=>?_) (fun h6=>?_)
 ·simp [ht] at h6
  cbv
  refine aA trv trv rfl rfl rfl ?_
  (simp only [ht];grind)
 simp [ht] at h6
 cbv
 refine F9 [0,4,9,10] [false,false,false,false,false,false,false,false,false,false,false,false,true,true,true,true,true] (by kernel_rfl) (by kernel_rfl) (by kernel_rfl) (by kernel_rfl) (by kernel_rfl) ?_
 cbv
 iterate 3 refine gI (by simp) ?_
 refine .inl ?_
 (refine m8 (fun g=>⟨trv,trv,C7 ht hr⟩) rfl rfl rfl ?_)
 cbv
 iterate 4 refine gI (by simp) ?_
 refine gI (by (simp only [ht];intro _;refine ⟨by simp only [List.length_cons,List.length_nil];omega,?_⟩;intro r h;rcases List.mem_append.1 h with h|h;exact hr r h;simp at h;subst h;rfl)) ?_
 iterate 3 refine gI (by simp) ?_
 (refine aK trv (nV ht rd _ ef af nx 1 (nl:=nl) (pl:=pl) (tl:=tl) (jl:=jl++[⟨nx,⟨jq,⟨ja,jb,jc,jd⟩,jn,jp,jt,nY⟩,false,0⟩]) (ql:=q9) (el:=el) (al:=al) fc hps hts (by simp only [ht,eN];simp [Jb.cells,yC]) (by simp only [ht]) aG has hel) trv rfl rfl rfl (fun r9 jP=>?_);simp only [ht] at jP)
 cbv
 refine aA trv trv rfl rfl rfl ?_
 (simp only [ht];grind)
theorem Nl (ht:TT t) (rd nx ef af:Int) {nl:List Node} {pl:List Place} {tl:List bw} {jl:List Jb} {ql:List cj} {el al:List dW} {ns ps ts js qs es bU:List (List D)} (fc:ns=nl.map Node.cells) (hps:ps=pl.map Place.cells) (hts:ts=tl.map bw.cells) (eN:js=jl.map Jb.cells) (eD:qs=ql.map cj.cells) (aG:es=el.map dW.cells) (has:bU=al.map dW.cells) (ja jb jc jd jn jp jt:Int) (jq:aQ) {nY:List Term} {Ey:List (List D)} (yC:Ey=nY.map Term.cells) (hj:js=[]) (hx:(⟨jq,⟨ja,jb,jc,jd⟩,jn,jp,jt,nY⟩:Ask).sm) (htl:tl.length<100000) (hjl:jl.length<1000000) (Uc:ql.length<1000000) (hel:el.length<1000000):
 FC 89 [.agg [aD rd,aD nx,SL ns,SL ps,SL ts,SL js,SL qs,aD ef,SL es,aD af,SL bU],.agg [ST jq,aD ja,aD jb,aD jc,aD jd,bJ jn,bJ jp,bJ jt,SL Ey]] [] (.ret (Qe t (t _ fun _=>cW ⟨rd,nx,⟨nl,pl⟩,tl,jl,ql,⟨ef,el⟩,⟨af,al⟩⟩ ⟨jq,⟨ja,jb,jc,jd⟩,jn,jp,jt,nY⟩))) []:=by
 subst hj
 obtain ⟨ck,XO⟩:∃ck,ck=eO ⟨jq,⟨ja,jb,jc,jd⟩,jn,jp,jt,nY⟩:=⟨_,rfl⟩
 obtain ⟨th,XP⟩:∃th,th=jE tl jq:=⟨_,rfl⟩
 obtain ⟨⟨q9,e9⟩,h9⟩:∃r,r=jU ql ⟨nx,jp⟩:=⟨_,rfl⟩
 have hS:cW ⟨rd,nx,⟨nl,pl⟩,tl,jl,ql,⟨ef,el⟩,⟨af,al⟩⟩ ⟨jq,⟨ja,jb,jc,jd⟩,jn,jp,jt,nY⟩=if ck≠0 then (⟨rd,nx,⟨nl,pl⟩,tl,jl,ql,⟨ef,el⟩,⟨af,al⟩⟩,0,ck) else if !th then (⟨rd,nx,⟨nl,pl⟩,tl,jl,ql,⟨ef,el⟩,⟨af,al⟩⟩,0,7) else if 32≤jl.length∨nx=18446744073709551615 then (⟨rd,nx,⟨nl,pl⟩,tl,jl,ql,⟨ef,el⟩,⟨af,al⟩⟩,0,9) else if e9≠0 then (⟨rd,nx,⟨nl,pl⟩,tl,jl,ql,⟨ef,el⟩,⟨af,al⟩⟩,0,e9) else
  (iI ⟨rd,IntKind.u64.wrap (nx+1),⟨nl,pl⟩,tl,jl++[⟨nx,⟨jq,⟨ja,jb,jc,jd⟩,jn,jp,jt,nY⟩,false,0⟩],q9,⟨ef,el⟩,⟨af,al⟩⟩ nx 1,nx,0):=by
  simp only [cW,←XO,←XP,←h9,u64,←oI]
 rw [hS]
 clear hS
 have hle:jl=[]:=by cases jl with
  |nil=>rfl
  |cons x l=>cases eN
 obtain ⟨h1,h2,h3,h4⟩:=id hx
 simp only at h1 h2 h3 h4
 refine bP ht (aV:=[]) Tryz.func89 rfl rfl (N:=68) rfl rfl (n:=0) rfl rfl ?_
 cbv
 have aL:ns.length=nl.length:=by rw [fc,lgM]
 have aR:ps.length=pl.length:=by rw [hps,lgM]
 have aM:ts.length=tl.length:=by rw [hts,lgM]
 have aF:qs.length=ql.length:=by rw [eD,lgM]
 have az:es.length=el.length:=by rw [aG,lgM]
 have aE:bU.length=al.length:=by rw [has,lgM]
 have Ez:Ey.length=nY.length:=by rw [yC,lgM]
 refine bq trv (CV ht _ _ _ _ _ _ _ _ ‹_› ‹_›) trv rfl rfl (fun r0 c7=>?_)
 simp only [ht] at c7
 rw [←XO] at c7
 subst r0
 cbv
 refine ap (fun h1=>?_) (fun h1=>?_)
 ·simp [ht] at h1
  cbv
  refine aA trv trv rfl rfl rfl ?_
  (simp only [ht];grind)
 simp [ht] at h1
 cbv
 refine bq trv (CX ht _ ‹_› (by omega) ‹_›) trv rfl rfl (fun r2 gS=>?_)
 simp only [ht] at gS
 rw [←XP] at gS
 subst r2
 cbv
 refine ap (fun h3=>?_) (fun h3=>?_)
 ·simp [ht] at h3
  cbv
  refine aA trv trv rfl rfl rfl ?_
  (simp only [ht];grind)
 simp [ht] at h3
 cbv
 iterate 3 refine gI (by simp [ht]) ?_
 refine pI (by simp [ht]) ?_
 refine ap (fun h4=>?_) (fun h4=>?_)
 ·simp [ht] at h4
  cbv
  refine aA trv trv rfl rfl rfl ?_
  (simp only [ht];grind)
 simp [ht] at h4
 cbv
 refine aK trv (AR ht _ _ ‹_› ‹_›) trv rfl rfl rfl (fun r5 vf=>?_)
 simp only [ht] at vf
 rw [←h9] at vf
 subst r5
 cbv
 refine ap (fun h6=>?_) (fun h6=>?_)
 ·simp [ht] at h6
  cbv
  refine aA trv trv rfl rfl rfl ?_
  (simp only [ht];grind)
 simp [ht] at h6
 cbv
 refine F9 [0,4,9,10] [false,false,false,false,false,false,false,false,false,false,false,false,true,true,true,true,true] (by kernel_rfl) (by kernel_rfl) (by kernel_rfl) (by kernel_rfl) (by kernel_rfl) ?_
 cbv
 iterate 3 refine gI (by simp) ?_
 refine .inl ?_
 (refine m8 (fun g=>⟨trv,trv,C7 ht (by simp)⟩) rfl rfl rfl ?_)
 cbv
 iterate 4 refine gI (by simp) ?_
 refine gI (by simp [ht]) ?_
 iterate 3 refine gI (by simp) ?_
 (refine aK trv (nV ht rd _ ef af nx 1 (nl:=nl) (pl:=pl) (tl:=tl) (jl:=jl++[⟨nx,⟨jq,⟨ja,jb,jc,jd⟩,jn,jp,jt,nY⟩,false,0⟩]) (ql:=q9) (el:=el) (al:=al) fc hps hts (by simp only [ht,hle];simp [Jb.cells,yC]) (by simp only [ht]) aG has hel) trv rfl rfl rfl (fun r9 jP=>?_);simp only [ht] at jP)
 cbv
 refine aA trv trv rfl rfl rfl ?_
 (simp only [ht];grind)
theorem iP (ht:TT t) (rd nx ef af:Int) {nl:List Node} {pl:List Place} {tl:List bw} {jl:List Jb} {ql:List cj} {el al:List dW} {ns ps ts js qs es bU:List (List D)} (fc:ns=nl.map Node.cells) (hps:ps=pl.map Place.cells) (hts:ts=tl.map bw.cells) (eN:js=jl.map Jb.cells) (eD:qs=ql.map cj.cells) (aG:es=el.map dW.cells) (has:bU=al.map dW.cells) (ja jb jc jd jn jp jt:Int) (jq:aQ) {nY:List Term} {Ey:List (List D)} (yC:Ey=nY.map Term.cells) (hx:(⟨jq,⟨ja,jb,jc,jd⟩,jn,jp,jt,nY⟩:Ask).sm) (htl:tl.length<100000) (hjl:jl.length<1000000) (Uc:ql.length<1000000) (hel:el.length<1000000):
 FC 89 [.agg [aD rd,aD nx,SL ns,SL ps,SL ts,SL js,SL qs,aD ef,SL es,aD af,SL bU],.agg [ST jq,aD ja,aD jb,aD jc,aD jd,bJ jn,bJ jp,bJ jt,SL Ey]] [] (.ret (Qe t (t _ fun _=>cW ⟨rd,nx,⟨nl,pl⟩,tl,jl,ql,⟨ef,el⟩,⟨af,al⟩⟩ ⟨jq,⟨ja,jb,jc,jd⟩,jn,jp,jt,nY⟩))) []:=by
 cases js with
 |nil=>exact Nl ht rd nx ef af fc hps hts eN eD aG has ja jb jc jd jn jp jt jq yC rfl hx htl hjl Uc hel
 |cons e0 er=>exact Nk ht rd nx ef af fc hps hts eN eD aG has ja jb jc jd jn jp jt jq yC e0 er rfl hx htl hjl Uc hel
theorem vq (ht:TT t) (rd nx ef af:Int) {nl:List Node} {pl:List Place} {tl:List bw} {jl:List Jb} {ql:List cj} {el al:List dW} {ns ps ts js qs es bU:List (List D)} (fc:ns=nl.map Node.cells) (hps:ps=pl.map Place.cells) (hts:ts=tl.map bw.cells) (eN:js=jl.map Jb.cells) (eD:qs=ql.map cj.cells) (aG:es=el.map dW.cells) (has:bU=al.map dW.cells) (id:Int) {names:List aQ} {nr:List (List D)} (hnr:nr=names.map bE) (wq:∀x∈jl,x.x.gu.u'∧x.x.path.length<1000000000000) (htl:tl.length<100000) (hjl:jl.length<1000000) (Ou:nl.length<1000000) (IG:pl.length<1000000) (Uc:ql.length<1000000) (hel:el.length<1000000) (hnn:names.length<1000000):
 FC 35 [.agg [aD rd,aD nx,SL ns,SL ps,SL ts,SL js,SL qs,aD ef,SL es,aD af,SL bU],aD id,SL nr] [] (.ret (Lw t (t _ fun _=>bZ ⟨rd,nx,⟨nl,pl⟩,tl,jl,ql,⟨ef,el⟩,⟨af,al⟩⟩ id names))) []:=by
 refine bP ht (aV:=[]) Tryz.func35 rfl rfl (N:=100) rfl rfl (n:=0) rfl rfl ?_
 cbv
 have aL:ns.length=nl.length:=by rw [fc,lgM]
 have aR:ps.length=pl.length:=by rw [hps,lgM]
 have aM:ts.length=tl.length:=by rw [hts,lgM]
 have aT:js.length=jl.length:=by rw [eN,lgM]
 have aF:qs.length=ql.length:=by rw [eD,lgM]
 have az:es.length=el.length:=by rw [aG,lgM]
 have aE:bU.length=al.length:=by rw [has,lgM]
 have Qu:nr.length=names.length:=by rw [hnr,lgM]
 refine bq trv (rI ht _ _ _ _ _ _ _ _ _ _ _ ‹_› (by omega)) trv rfl rfl (fun r0 c7=>?_)
 simp only [ht] at c7
 have ec:=EB c7 wq
 clear c7
 rcases ec with ⟨e1,e2⟩|⟨i,xi,xa,xb,xc,xd,xn,xp,xt,xf,xq,xr,xl,e1,e2,e3,e4,e5,⟨e6,e7⟩,e8⟩
 ·cbv
  refine ap (fun h1=>?_) (fun h1=>?_)
  ·simp [ht] at h1
   cbv
   refine aA trv trv rfl rfl rfl ?_
   (simp [bZ, *];done)
  simp [ht] at h1
  omega
 cbv
 refine ap (fun h2=>?_) (fun h2=>?_)
 ·simp [ht] at h2
  (simp only [ah] at*;omega)
 simp [ht] at h2
 cbv
 refine v8 ht eN (cT:=Jb.bF t) e3 ‹_› (fun _=>rfl) (fun _=>(by (simp only [ht,Jb.bF];rfl))) ?_
 cbv
 refine ap (fun h4=>?_) (fun h4=>?_)
 ·cbv
  refine aA trv trv rfl rfl rfl ?_
  (simp only [ht,bZ,e4,e5,jF];simp [*];done)
 cbv
 refine ap (fun h5=>?_) (fun h5=>?_)
 ·simp [ht,ah,Qu] at h5
  cbv
  refine aA trv trv rfl rfl rfl ?_
  (simp only [ht,bZ,e4,e5,jF];simp [*];done)
 simp [ht,ah,Qu] at h5
 cbv
 (obtain ⟨⟨⟨v1,v2,v3,v4⟩,vk⟩,hv⟩:∃r,r=cU ⟨xq,⟨xa,xb,xc,xd⟩,xn,xp,xt,xl⟩:=⟨_,rfl⟩;refine bq trv (rH ht xq xa xb xc xd xn xp xt (sl:=xl) _ e6) trv rfl rfl (fun r9 jP=>?_);simp only [ht] at jP;rw [←hv] at jP;subst jP)
 cbv
 refine ap (fun h6=>?_) (fun h6=>?_)
 ·simp [ht] at h6
  cbv
  refine aA trv trv rfl rfl rfl ?_
  (simp only [ht,bZ,e4,e5,jF,←hv];(try (simp only [←C6];clear C6));(try (simp only [←jP];clear jP));simp [*];done)
 simp [ht] at h6
 cbv
 refine aK trv (tB ht _ _ _ _ _ ‹_› ‹_› ‹_›) trv rfl rfl rfl (fun r7 C6=>?_)
 simp only [ht] at C6
 cbv
 refine ap (fun h8=>?_) (fun h8=>?_)
 ·simp [ht] at h8
  cbv
  refine aA trv trv rfl rfl rfl ?_
  (simp only [ht,bZ,e4,e5,jF,←hv];(try (simp only [←C6];clear C6));(try (simp only [←jP];clear jP));simp [*];done)
 simp [ht] at h8
 cbv
 refine aK trv (Va ht _ _ _ _ _ ‹_› ‹_› ‹_› (by omega) (by omega) (by omega)) trv rfl rfl rfl (fun r9 jP=>?_)
 simp only [ht] at jP
 cbv
 refine ap (fun h10=>?_) (fun h10=>?_)
 ·simp [ht] at h10
  cbv
  refine aA trv trv rfl rfl rfl ?_
  (simp only [ht,bZ,e4,e5,jF,←hv];(try (simp only [←C6];clear C6));(try (simp only [←jP];clear jP));simp [*];done)
 simp [ht] at h10
 cbv
 refine aK trv (HA ht _ ‹_› ‹_›) trv rfl rfl rfl (fun r11 ZT=>?_)
 simp only [ht] at ZT
 cbv
 (refine K1 [0,2] (.more 0 (.more 1 (.one 2 (.one 3 (.one 4 (.one 5 (.one 6 (.one 7 (.one 8 .done))))))) (.one 2 (.more 1 (.one 3 (.one 4 (.one 5 (.one 6 (.one 7 (.one 8 .done)))))) (.one 3 (.more 1 (.one 4 (.one 5 (.one 6 (.one 7 (.one 8 .done))))) (.one 4 (.one 1 (.one 5 (.one 6 (.one 7 (.one 8 .done))))))))))) (.one 2 (.one 0 (.more 1 (.one 3 (.one 4 (.one 5 (.one 6 (.one 7 (.one 8 .done)))))) (.one 3 (.more 1 (.one 4 (.one 5 (.one 6 (.one 7 (.one 8 .done))))) (.one 4 (.one 1 (.one 5 (.one 6 (.one 7 (.one 8 .done)))))))))))) _ (by kernel_rfl) (by kernel_rfl) (by kernel_rfl) (by kernel_rfl) (by cbv;repeat' (first|exact rfl|refine ⟨?_,?_⟩)) ?_)
 cbv
 refine aK trv (LD ht _ _ _ _ (kI ht rfl) (kI ht rfl) (kI ht rfl) ‹_› (kI ht rfl) ‹_› ‹_› _ _ _ _ _ _ _ _ _ _ _ (kI ht rfl) ‹_› ‹_› ‹_›) trv rfl rfl rfl (fun r12 XQ=>?_)
 simp only [ht] at XQ
 have Yv:(r12).ev.l.length<1000000:=by rw [XQ];exact hel
 cbv
 refine aK trv (nV ht _ _ _ _ _ _ (kI ht rfl) (kI ht rfl) (kI ht rfl) (kI ht rfl) (kI ht rfl) (kI ht rfl) (kI ht rfl) ‹_›) trv rfl rfl rfl (fun r13 ZU=>?_)
 simp only [ht] at ZU
 cbv
 refine aA trv trv rfl rfl rfl ?_
 (simp only [ht,bZ,e4,e5,jF,←hv];(try (simp only [←C6];clear C6));(try (simp only [←jP];clear jP));simp [*];done)
theorem jJ {x:Ask} (h:su x):x.sm:=
 ⟨by have:=h.path;omega,⟨h.gu 0 (by decide),h.gu 1 (by decide),h.gu 2 (by decide),h.gu 3 (by decide)⟩,by have:=h.ct;omega,
  fun m hm=>by obtain ⟨a,b,c⟩:=h.key m hm;exact ⟨by omega,by omega,fun v hv=>by have:=c v hv;omega⟩⟩
theorem bg.ok.small {s:bg} (h:s.ok) (l:s.eU su):s.sm where
 nodes:=⟨by have:=h.bf.most;omega,l.names⟩
 places:=by have:=h.JO;omega
 tree:=⟨by have:=h.tree.most;omega,fun e he=>by have:=l.paths e he;omega⟩
 av:=⟨by have:=h.most;omega,fun x hx=>⟨jJ (l.xs x hx),⟨by have:=h.u9 x hx;omega,by have:=h.u9 x hx;have:=h.next;omega⟩,by
  have:=(h.pe x hx).1
  unfold eO Ri at this
  split at this
  ·cases this
  split at this
  ·cases this
  simp_all;omega⟩⟩
 queue:=by
  have h1:=h.U1
  have h2:wk s.av≤s.av.length:=List.length_filter_le _ _
  have:=h.most;omega
 notes:=by have:=h.notes;omega
theorem A5 {l:List Jb} {id:Int} (h:∀x∈l,x.x.sm):(bI l id).1.x.sm:=by
 unfold bI
 split
 ·rename_i x hx;exact h _ (List.mem_of_find?_eq_some hx)
 exact ⟨by decide,by decide,by decide,fun m hm=>by cases hm⟩
theorem HB {nl:List Node} {pl:List Place} (h:nl.length<1000000) (h2:∀x∈nl,x.sm):(nl.filterMap (nM nl pl)).length<1000000∧∀s∈nl.filterMap (nM nl pl),s.labels.length<1000000000:=by
 refine ⟨Nat.lt_of_le_of_lt (List.length_filterMap_le _ _) h,fun s hs=>?_⟩
 obtain ⟨n,hn,e⟩:=List.mem_filterMap.1 hs
 unfold nM at e
 split at e
 ·cases e;exact (h2 n hn).2.1
 cases e
theorem A6 {v:bO}:∀(n:Nat) (l:List bT) (out:List aQ),out.length+n≤8→(nN v n l out).1.length≤8
 |0,_,out,h=>by simpa [nN] using h
 |n+1,l,out,h=>by
  rw [nN]
  split
  ·simp
  exact A6 n _ _ (by simp;omega)
theorem wC (l:List bT) (x:List Term) (v:bO) (c:Int):(fit l x v c).1.length<1000000:=by
 unfold fit
 split
 ·simp
 have:=A6 (v:=v) (max c 0).toNat (fitting l x) [] (by simp;omega)
 omega
theorem Nn (ht:TT t) (rd nx ef af:Int) {nl:List Node} {pl:List Place} {tl:List bw} {jl:List Jb} {ql:List cj} {el al:List dW} {ns ps ts js qs es bU:List (List D)} (fc:ns=nl.map Node.cells) (hps:ps=pl.map Place.cells) (hts:ts=tl.map bw.cells) (eN:js=jl.map Jb.cells) (eD:qs=ql.map cj.cells) (aG:es=el.map dW.cells) (has:bU=al.map dW.cells) (id:Int) (hjl:jl.length<1000000):
 FC 103 [.agg [aD rd,aD nx,SL ns,SL ps,SL ts,SL js,SL qs,aD ef,SL es,aD af,SL bU],aD id] [] (.ret (MS t (t _ fun _=>eR ⟨rd,nx,⟨nl,pl⟩,tl,jl,ql,⟨ef,el⟩,⟨af,al⟩⟩ id))) []:=by
 obtain ⟨R,hR⟩:∃R,R=eR ⟨rd,nx,⟨nl,pl⟩,tl,jl,ql,⟨ef,el⟩,⟨af,al⟩⟩ id:=⟨_,rfl⟩
 have Yy:R=((bI jl id).1,(bI jl id).2&&!(bI jl id).1.runs):=hR
 rw [←hR]
 refine bP ht (aV:=[]) Tryz.func103 rfl rfl (N:=21) rfl rfl (n:=0) rfl rfl ?_
 cbv
 have aL:ns.length=nl.length:=by rw [fc,lgM]
 have aR:ps.length=pl.length:=by rw [hps,lgM]
 have aM:ts.length=tl.length:=by rw [hts,lgM]
 have aT:js.length=jl.length:=by rw [eN,lgM]
 have aF:qs.length=ql.length:=by rw [eD,lgM]
 have az:es.length=el.length:=by rw [aG,lgM]
 have aE:bU.length=al.length:=by rw [has,lgM]
 refine aK trv (nU ht _ _ _ _ _ _ _ _ _ _ _ ‹_› (by omega)) trv rfl rfl rfl (fun r0 c7=>?_)
 simp only [ht] at c7
 rw [←c7] at Yy
 clear c7
 obtain ⟨⟨jid,⟨jq,⟨ja,jb,jc,jd⟩,jn,jp,jt,nY⟩,jr,jlf⟩,Xw⟩:=r0
 simp only at Yy
 cases Xw
 ·cbv
  (apply K1 [] (.more 0 (.one 1 (.one 2 (.more 3 (.more 4 (.more 5 (.more 6 (.one 7 (.one 8 .done)) (.one 7 (.one 6 (.one 8 .done)))) (.one 7 (.one 5 (.one 6 (.one 8 .done))))) (.one 7 (.one 4 (.one 5 (.one 6 (.one 8 .done)))))) (.one 7 (.one 3 (.one 4 (.one 5 (.one 6 (.one 8 .done))))))))) (.one 1 (.more 0 (.one 2 (.more 3 (.more 4 (.more 5 (.more 6 (.one 7 (.one 8 .done)) (.one 7 (.one 6 (.one 8 .done)))) (.one 7 (.one 5 (.one 6 (.one 8 .done))))) (.one 7 (.one 4 (.one 5 (.one 6 (.one 8 .done)))))) (.one 7 (.one 3 (.one 4 (.one 5 (.one 6 (.one 8 .done)))))))) (.one 2 (.more 0 (.more 3 (.more 4 (.more 5 (.more 6 (.one 7 (.one 8 .done)) (.one 7 (.one 6 (.one 8 .done)))) (.one 7 (.one 5 (.one 6 (.one 8 .done))))) (.one 7 (.one 4 (.one 5 (.one 6 (.one 8 .done)))))) (.one 7 (.one 3 (.one 4 (.one 5 (.one 6 (.one 8 .done))))))) (.one 3 (.more 0 (.more 4 (.more 5 (.more 6 (.one 7 (.one 8 .done)) (.one 7 (.one 6 (.one 8 .done)))) (.one 7 (.one 5 (.one 6 (.one 8 .done))))) (.one 7 (.one 4 (.one 5 (.one 6 (.one 8 .done)))))) (.one 4 (.more 0 (.more 5 (.more 6 (.one 7 (.one 8 .done)) (.one 7 (.one 6 (.one 8 .done)))) (.one 7 (.one 5 (.one 6 (.one 8 .done))))) (.one 5 (.more 0 (.more 6 (.one 7 (.one 8 .done)) (.one 7 (.one 6 (.one 8 .done)))) (.one 6 (.one 0 (.one 7 (.one 8 .done)))))))))))))));kernel_rfl;kernel_rfl;kernel_rfl;kernel_rfl;(next=>cbv;repeat (first|(refine nJ rfl ?_;cbv)|(refine kH rfl ?_;cbv)|refine And.intro ?_ ?_|exact rfl|exact True.intro|exact ⟨⟨by simp,by simp⟩⟩)))
  cbv
  refine aA trv trv rfl rfl rfl ?_
  (clear hR;simp [ht,Yy];done)
 cbv
 (apply K1 [] (.more 0 (.one 1 (.one 2 (.more 3 (.more 4 (.more 5 (.more 6 (.one 7 (.one 8 .done)) (.one 7 (.one 6 (.one 8 .done)))) (.one 7 (.one 5 (.one 6 (.one 8 .done))))) (.one 7 (.one 4 (.one 5 (.one 6 (.one 8 .done)))))) (.one 7 (.one 3 (.one 4 (.one 5 (.one 6 (.one 8 .done))))))))) (.one 1 (.more 0 (.one 2 (.more 3 (.more 4 (.more 5 (.more 6 (.one 7 (.one 8 .done)) (.one 7 (.one 6 (.one 8 .done)))) (.one 7 (.one 5 (.one 6 (.one 8 .done))))) (.one 7 (.one 4 (.one 5 (.one 6 (.one 8 .done)))))) (.one 7 (.one 3 (.one 4 (.one 5 (.one 6 (.one 8 .done)))))))) (.one 2 (.more 0 (.more 3 (.more 4 (.more 5 (.more 6 (.one 7 (.one 8 .done)) (.one 7 (.one 6 (.one 8 .done)))) (.one 7 (.one 5 (.one 6 (.one 8 .done))))) (.one 7 (.one 4 (.one 5 (.one 6 (.one 8 .done)))))) (.one 7 (.one 3 (.one 4 (.one 5 (.one 6 (.one 8 .done))))))) (.one 3 (.more 0 (.more 4 (.more 5 (.more 6 (.one 7 (.one 8 .done)) (.one 7 (.one 6 (.one 8 .done)))) (.one 7 (.one 5 (.one 6 (.one 8 .done))))) (.one 7 (.one 4 (.one 5 (.one 6 (.one 8 .done)))))) (.one 4 (.more 0 (.more 5 (.more 6 (.one 7 (.one 8 .done)) (.one 7 (.one 6 (.one 8 .done)))) (.one 7 (.one 5 (.one 6 (.one 8 .done))))) (.one 5 (.more 0 (.more 6 (.one 7 (.one 8 .done)) (.one 7 (.one 6 (.one 8 .done)))) (.one 6 (.one 0 (.one 7 (.one 8 .done)))))))))))))));kernel_rfl;kernel_rfl;kernel_rfl;kernel_rfl;(next=>cbv;repeat (first|(refine nJ rfl ?_;cbv)|(refine kH rfl ?_;cbv)|refine And.intro ?_ ?_|exact rfl|exact True.intro|exact ⟨⟨by simp,by simp⟩⟩)))
 cbv
 refine aA trv trv rfl rfl rfl ?_
 (clear hR;simp [ht,Yy];done)
theorem HC (ht:TT t) (rd nx ef af:Int) {nl:List Node} {pl:List Place} {tl:List bw} {jl:List Jb} {ql:List cj} {el al:List dW} {ns ps ts js qs es bU:List (List D)} (fc:ns=nl.map Node.cells) (hps:ps=pl.map Place.cells) (hts:ts=tl.map bw.cells) (eN:js=jl.map Jb.cells) (eD:qs=ql.map cj.cells) (aG:es=el.map dW.cells) (has:bU=al.map dW.cells) (hs:(⟨rd,nx,⟨nl,pl⟩,tl,jl,ql,⟨ef,el⟩,⟨af,al⟩⟩:bg).sm) (id:Int) {on:List Node} {op:List Place} {ZV Yz:List (List D)} (hon:ZV=on.map Node.cells) (hop:Yz=op.map Place.cells) (ho1:on.length<1000000) (Ym:∀x∈on,x.sm) (ho3:op.length<1000000) (f:Nat) (cs:List D) (W:aQ→bO→Bool)
 (hw:∀(q:aQ) (a b c d:Int),q.length<1000000000000→FC f [ST q,V4 a b c d,.ep cs] [] (.ret (dn (t _ fun _=>W q ⟨a,b,c,d⟩))) []):
 FC 56 [.agg [aD rd,aD nx,SL ns,SL ps,SL ts,SL js,SL qs,aD ef,SL es,aD af,SL bU],aD id,.agg [SL ZV,SL Yz],.fn f [.ep cs]] [] (.ret (yB t (t _ fun _=>ic ⟨rd,nx,⟨nl,pl⟩,tl,jl,ql,⟨ef,el⟩,⟨af,al⟩⟩ id ⟨on,op⟩ W))) []:=by
 obtain ⟨⟨s1,s2⟩,s3,⟨s4,s5⟩,⟨s6,s7⟩,s8,s9,Vv⟩:=(show bg.sm _ from hs)
 simp only at s1 s2 s3 s4 s5 s6 s7 s8 s9 Vv
 obtain ⟨Wa,Wb⟩:=HB ho1 Ym (pl:=op)
 obtain ⟨S,hS⟩:∃S,S=ic ⟨rd,nx,⟨nl,pl⟩,tl,jl,ql,⟨ef,el⟩,⟨af,al⟩⟩ id ⟨on,op⟩ W:=⟨_,rfl⟩
 have Wc:=hS
 unfold ic at Wc
 rw [←hS]
 obtain ⟨w,hw1⟩:∃w,w=eR ⟨rd,nx,⟨nl,pl⟩,tl,jl,ql,⟨ef,el⟩,⟨af,al⟩⟩ id:=⟨_,rfl⟩
 have YA:w.1.x.sm:=by rw [hw1];exact A5 (fun x hx=>(s7 x hx).1)
 rw [←hw1] at Wc
 refine bP ht (aV:=[]) Tryz.func56 rfl rfl (N:=60) rfl rfl (n:=0) rfl rfl ?_
 cbv
 have aL:ns.length=nl.length:=by rw [fc,lgM]
 have aR:ps.length=pl.length:=by rw [hps,lgM]
 have aM:ts.length=tl.length:=by rw [hts,lgM]
 have aT:js.length=jl.length:=by rw [eN,lgM]
 have aF:qs.length=ql.length:=by rw [eD,lgM]
 have az:es.length=el.length:=by rw [aG,lgM]
 have aE:bU.length=al.length:=by rw [has,lgM]
 have yV:ZV.length=on.length:=by rw [hon,lgM]
 have yW:Yz.length=op.length:=by rw [hop,lgM]
 (refine aK trv (Nn ht rd nx ef af fc hps hts eN eD aG has _ s6) (by simp [ht]) rfl rfl rfl (fun r1 cP=>?_);simp only [ht] at cP;rw [←hw1] at cP;subst r1)
 cbv
 refine ap (fun h0=>?_) (fun h0=>?_)
 ·simp [ht,ah,aL,aR,aM,aT,aF,az,aE,yV,yW] at h0
  cbv
  refine aA trv trv rfl rfl rfl ?_
  (simp only [ht,ah,yB,MS,Yw,Xs,Pn,dn];grind)
 simp [ht,ah,aL,aR,aM,aT,aF,az,aE,yV,yW] at h0
 cbv
 (refine bq trv (rH ht _ _ _ _ _ _ _ _ (sl:=w.1.x.ct) _ YA.2.1) (by simp [ht]) rfl rfl (fun rv ZW=>?_);simp only [ht] at ZW)
 cbv
 refine dK [false,false,false,false,false,false,false,false,false,false,false,true,true,false,false,false,true] (by kernel_rfl) (by kernel_rfl) ?_
 cbv
 refine gI (by simp [ht,aj]) ?_
 refine .inl ?_
 (refine gX (fun g=>⟨by simp [ht],trv,AM ht hon hop (by ((try simp only [ah] at*);omega)) (by ((try simp only [ah] at*);omega))⟩) rfl rfl rfl (fun r3 kV=>?_);simp only [ht] at kV)
 cbv
 iterate 9 refine gI (by simp [ht,aj]) ?_
 (refine aK trv (A3 ht _ _ _ _ _ (l:=r3) (by simp only [ht]) (by rw [kV];exact Wa) (by rw [kV];exact Wb) (x:=w.1.x.ct) (by simp only [ht]) YA.2.2.1 (fun m hm=>(YA.2.2.2 m hm).2.1)) (by simp [ht]) rfl rfl rfl (fun r4 kw=>?_);simp only [ht] at kw)
 cbv
 iterate 5 refine gI (by simp [ht,aj]) ?_
 refine pI (by simp [ht,aj]) ?_
 iterate 5 refine gI (by simp [ht,aj]) ?_
 (refine eT (fun g=>⟨⟨g,g,g,trv⟩,trv,hw _ _ _ _ _ YA.1⟩) rfl rfl (fun r6 nu=>?_);simp only [ht] at nu)
 cbv
 refine gI (by simp [ht,aj]) ?_
 refine pI (by simp [ht,aj]) ?_
 refine ap (fun h1=>?_) (fun h1=>?_)
 ·simp [ht,ah,aL,aR,aM,aT,aF,az,aE,yV,yW] at h1
  cbv
  refine aA trv trv rfl rfl rfl ?_
  (have e4:fit (eP ⟨on,op⟩) w.1.x.ct w.1.x.gu w.1.x.count=r4:=(by rw [kw,kV];rfl);have e2:cU w.1.x=rv:=ZW.symm;have e6:W w.1.x.path rv.1=r6:=nu.symm;have e7:S=if r6=true∧rv.2=true∧r4.2=true then (r4.1,true) else ([],false):=(by rw [Wc,e4,e2,e6,if_neg (by simp [h0])];cases r6<;>cases rv.2<;>cases r4.2<;>simp);clear Wc hS;(first|(rw [if_pos ⟨h1.2,h1.1.1,h1.1.2⟩] at e7;simp [ht,e7];done)|(rw [if_neg (by rintro ⟨g1,g2,g3⟩;rw [g1,g2,g3] at h1;simp at h1)] at e7;simp [ht,e7];done)))
 simp [ht,ah,aL,aR,aM,aT,aF,az,aE,yV,yW] at h1
 cbv
 refine aA trv trv rfl rfl rfl ?_
 (have e4:fit (eP ⟨on,op⟩) w.1.x.ct w.1.x.gu w.1.x.count=r4:=(by rw [kw,kV];rfl);have e2:cU w.1.x=rv:=ZW.symm;have e6:W w.1.x.path rv.1=r6:=nu.symm;have e7:S=if r6=true∧rv.2=true∧r4.2=true then (r4.1,true) else ([],false):=(by rw [Wc,e4,e2,e6,if_neg (by simp [h0])];cases r6<;>cases rv.2<;>cases r4.2<;>simp);clear Wc hS;(first|(rw [if_pos ⟨h1.2,h1.1.1,h1.1.2⟩] at e7;simp [ht,e7];done)|(rw [if_neg (by rintro ⟨g1,g2,g3⟩;rw [g1,g2,g3] at h1;simp at h1)] at e7;simp [ht,e7];done)))
theorem S1 (ht:TT t) (rd nx ef af:Int) {tl:List bw} {ns ps ts js qs es bU:List (List D)} (hts:ts=tl.map bw.cells) (htl:tl.length<100000) (q:aQ) (a b c d:Int) (hq:q.length<1000000000000):
 FC 57 [ST q,V4 a b c d,.ep [.int .u64 rd,.int .u64 nx,.sl ns,.sl ps,.sl ts,.sl js,.sl qs,.int .u64 ef,.sl es,.int .u64 af,.sl bU]] [] (.ret (dn (t _ fun _=>decide ((cY tl q ⟨a,b,c,d⟩).2=0)))) []:=by
 refine bP ht (aV:=[]) Tryz.func57 rfl rfl (N:=18) rfl rfl (n:=0) rfl rfl ?_
 cbv
 have aM:ts.length=tl.length:=by rw [hts,lgM]
 (refine aK trv (tB ht _ _ _ _ _ hts htl hq) (by simp [ht]) rfl rfl rfl (fun r1 cP=>?_);simp only [ht] at cP)
 cbv
 refine aA trv trv rfl rfl rfl ?_
 (simp only [ht,←cP];done)
theorem Qv (ht:TT t) (rd nx ef af:Int) {tl:List bw} {ns ps ts js qs es bU:List (List D)} (hts:ts=tl.map bw.cells) (htl:tl.length<100000) (q:aQ) (a b c d:Int) (hq:q.length<1000000000000):
 FC 60 [ST q,V4 a b c d,.ep [.int .u64 rd,.int .u64 nx,.sl ns,.sl ps,.sl ts,.sl js,.sl qs,.int .u64 ef,.sl es,.int .u64 af,.sl bU]] [] (.ret (dn (t _ fun _=>qy tl q ⟨a,b,c,d⟩))) []:=by
 refine bP ht (aV:=[]) Tryz.func60 rfl rfl (N:=11) rfl rfl (n:=0) rfl rfl ?_
 cbv
 have aM:ts.length=tl.length:=by rw [hts,lgM]
 (refine bq trv (Qi ht _ _ _ _ _ hts htl hq) (by simp [ht]) rfl rfl (fun r1 cP=>?_);simp only [ht] at cP)
 cbv
 refine aA trv trv rfl rfl rfl ?_
 (simp only [ht,←cP];done)
theorem S2 (ht:TT t) (ns ps:List (List D)):FC 59 [.agg [SL ns,SL ps]] [] (.ret (.agg [SL ns,SL []])) []:=by
 refine bP ht (aV:=[]) Tryz.func59 rfl rfl (N:=6) rfl rfl (n:=0) rfl rfl ?_
 cbv
 refine aA trv trv rfl rfl rfl ?_
 rfl
theorem S3 (ht:TT t) (rd nx ef af:Int) {nl:List Node} {pl:List Place} {tl:List bw} {jl:List Jb} {ql:List cj} {el al:List dW} {ns ps ts js qs es bU:List (List D)} (fc:ns=nl.map Node.cells) (hps:ps=pl.map Place.cells) (hts:ts=tl.map bw.cells) (eN:js=jl.map Jb.cells) (eD:qs=ql.map cj.cells) (aG:es=el.map dW.cells) (has:bU=al.map dW.cells) (hs:(⟨rd,nx,⟨nl,pl⟩,tl,jl,ql,⟨ef,el⟩,⟨af,al⟩⟩:bg).sm) (id:Int):FC 20 [.agg [aD rd,aD nx,SL ns,SL ps,SL ts,SL js,SL qs,aD ef,SL es,aD af,SL bU],aD id] [] (.ret (yB t (t _ fun _=>gi ⟨rd,nx,⟨nl,pl⟩,tl,jl,ql,⟨ef,el⟩,⟨af,al⟩⟩ id))) []:=by
 obtain ⟨⟨s1,s2⟩,s3,⟨s4,s5⟩,⟨s6,s7⟩,s8,s9,Vv⟩:=(show bg.sm _ from hs)
 simp only at s1 s2 s3 s4 s5 s6 s7 s8 s9 Vv
 obtain ⟨W,hW⟩:∃W:aQ→bO→Bool,W=fun p v=>decide ((cY tl p v).2=0):=⟨_,rfl⟩
 have hA:=HC ht rd nx ef af fc hps hts eN eD aG has hs id fc hps s1 s2 s3 57 [.int .u64 rd,.int .u64 nx,.sl ns,.sl ps,.sl ts,.sl js,.sl qs,.int .u64 ef,.sl es,.int .u64 af,.sl bU] W (fun q a b c d hq=>by rw [hW];exact S1 ht rd nx ef af hts s4 q a b c d hq)
 have hE:gi ⟨rd,nx,⟨nl,pl⟩,tl,jl,ql,⟨ef,el⟩,⟨af,al⟩⟩ id=ic ⟨rd,nx,⟨nl,pl⟩,tl,jl,ql,⟨ef,el⟩,⟨af,al⟩⟩ id ⟨nl,pl⟩ W:=by rw [hW];rfl
 rw [hE]
 have hB:=qB (bx:=[.var [aD rd,aD nx,SL ns,SL ps,SL ts,SL js,SL qs,aD ef,SL es,aD af,SL bU]]) (b:=0) (xs:=[.agg [aD rd,aD nx,SL ns,SL ps,SL ts,SL js,SL qs,aD ef,SL es,aD af,SL bU],aD id,.agg [SL ns,SL ps]]) rfl rfl rfl (dI [] rfl rfl rfl rfl hA)
 refine bP ht (aV:=[]) Tryz.func20 rfl rfl (N:=14) rfl rfl (n:=0) rfl rfl ?_
 cbv
 have aL:ns.length=nl.length:=by rw [fc,lgM]
 have aR:ps.length=pl.length:=by rw [hps,lgM]
 have aM:ts.length=tl.length:=by rw [hts,lgM]
 have aT:js.length=jl.length:=by rw [eN,lgM]
 have aF:qs.length=ql.length:=by rw [eD,lgM]
 have az:es.length=el.length:=by rw [aG,lgM]
 have aE:bU.length=al.length:=by rw [has,lgM]
 (refine I5 (E:=yB t) (r0:=t _ fun _=>ic ⟨rd,nx,⟨nl,pl⟩,tl,jl,ql,⟨ef,el⟩,⟨af,al⟩⟩ id ⟨nl,pl⟩ W) trv rfl (by simp [ht]) hB (fun r1 cP=>?_);simp only [ht] at cP)
 cbv
 refine aA trv trv rfl rfl rfl ?_
 (simp [ht,yB, *];done)
theorem wD (ht:TT t) (rd nx ef af:Int) {nl:List Node} {pl:List Place} {tl:List bw} {jl:List Jb} {ql:List cj} {el al:List dW} {ns ps ts js qs es bU:List (List D)} (fc:ns=nl.map Node.cells) (hps:ps=pl.map Place.cells) (hts:ts=tl.map bw.cells) (eN:js=jl.map Jb.cells) (eD:qs=ql.map cj.cells) (aG:es=el.map dW.cells) (has:bU=al.map dW.cells) (hs:(⟨rd,nx,⟨nl,pl⟩,tl,jl,ql,⟨ef,el⟩,⟨af,al⟩⟩:bg).sm) (id:Int):FC 23 [.agg [aD rd,aD nx,SL ns,SL ps,SL ts,SL js,SL qs,aD ef,SL es,aD af,SL bU],aD id] [] (.ret (dn (t _ fun _=>de ⟨rd,nx,⟨nl,pl⟩,tl,jl,ql,⟨ef,el⟩,⟨af,al⟩⟩ id))) []:=by
 obtain ⟨⟨s1,s2⟩,s3,⟨s4,s5⟩,⟨s6,s7⟩,s8,s9,Vv⟩:=(show bg.sm _ from hs)
 simp only at s1 s2 s3 s4 s5 s6 s7 s8 s9 Vv
 obtain ⟨W,hW⟩:∃W:aQ→bO→Bool,W=fun p v=>qy tl p v:=⟨_,rfl⟩
 have hA:=HC ht rd nx ef af fc hps hts eN eD aG has hs id (op:=[]) (Yz:=[]) fc rfl s1 s2 (by simp) 60 [.int .u64 rd,.int .u64 nx,.sl ns,.sl ps,.sl ts,.sl js,.sl qs,.int .u64 ef,.sl es,.int .u64 af,.sl bU] W (fun q a b c d hq=>by rw [hW];exact Qv ht rd nx ef af hts s4 q a b c d hq)
 have hE:de ⟨rd,nx,⟨nl,pl⟩,tl,jl,ql,⟨ef,el⟩,⟨af,al⟩⟩ id=(ic ⟨rd,nx,⟨nl,pl⟩,tl,jl,ql,⟨ef,el⟩,⟨af,al⟩⟩ id ⟨nl,[]⟩ W).2:=by rw [hW];rfl
 obtain ⟨r,hr⟩:∃r,r=ic ⟨rd,nx,⟨nl,pl⟩,tl,jl,ql,⟨ef,el⟩,⟨af,al⟩⟩ id ⟨nl,[]⟩ W:=⟨_,rfl⟩
 rw [←hr] at hE hA
 rw [hE]
 have hB:=qB (bx:=[.var [aD rd,aD nx,SL ns,SL ps,SL ts,SL js,SL qs,aD ef,SL es,aD af,SL bU]]) (b:=0) (xs:=[.agg [aD rd,aD nx,SL ns,SL ps,SL ts,SL js,SL qs,aD ef,SL es,aD af,SL bU],aD id,.agg [SL ns,SL []]]) rfl rfl rfl (dI [] rfl rfl rfl rfl hA)
 refine bP ht (aV:=[]) Tryz.func23 rfl rfl (N:=18) rfl rfl (n:=0) rfl rfl ?_
 cbv
 have aL:ns.length=nl.length:=by rw [fc,lgM]
 have aR:ps.length=pl.length:=by rw [hps,lgM]
 have aM:ts.length=tl.length:=by rw [hts,lgM]
 have aT:js.length=jl.length:=by rw [eN,lgM]
 have aF:qs.length=ql.length:=by rw [eD,lgM]
 have az:es.length=el.length:=by rw [aG,lgM]
 have aE:bU.length=al.length:=by rw [has,lgM]
 refine dK [false,false,false,false,false,false,true,true,false,false,false,true] (by kernel_rfl) (by kernel_rfl) ?_
 cbv
 iterate 4 refine gI (by simp [ht,aj]) ?_
 refine .inl ?_
 (refine m8 (fun g=>⟨by simp [ht],trv,S2 ht ns ps⟩) rfl rfl rfl ?_)
 cbv
 refine gI (by simp [ht,aj]) ?_
 (refine dz [0] trv rfl rfl hB (cz ?_))
 cbv
 iterate 3 refine gI (by simp [ht,aj]) ?_
 refine aA trv trv rfl rfl rfl ?_
 (simp only [ht];done)
def jS.bF (_:Th) (x:jS):List D:=[.int .u8 x.kind,.int .u8 x.a,.int .u8 x.b,.int .u8 x.c,.int .u8 x.d]
instance:Inhabited jS:=⟨⟨0,0,0,0,0⟩⟩
structure Told (s:bg) (rd nx:Int) (ns ps ts js qs:List (List D)) (ef:Int) (es:List (List D)) (af:Int) (bU:List (List D)):Prop where
 r:rd=s.round
 x:nx=s.next
 n:ns=s.bf.nodes.map Node.cells
 p:ps=s.bf.places.map Place.cells
 t:ts=s.tree.map bw.cells
 j:js=s.av.map Jb.cells
 q:qs=s.queue.map cj.cells
 f:ef=s.ev.first
 e:es=s.ev.l.map dW.cells
 g:af=s.au.first
 a:bU=s.au.l.map dW.cells
theorem Told.self (s:bg):Told s s.round s.next (s.bf.nodes.map Node.cells) (s.bf.places.map Place.cells) (s.tree.map bw.cells) (s.av.map Jb.cells) (s.queue.map cj.cells) s.ev.first (s.ev.l.map dW.cells) s.au.first (s.au.l.map dW.cells):=
 ⟨rfl,rfl,rfl,rfl,rfl,rfl,rfl,rfl,rfl,rfl,rfl⟩
theorem Told.eq {s:bg} {rd nx ef af:Int} {ns ps ts js qs es bU:List (List D)} (h:Told s rd nx ns ps ts js qs ef es af bU):(⟨rd,nx,⟨s.bf.nodes,s.bf.places⟩,s.tree,s.av,s.queue,⟨ef,s.ev.l⟩,⟨af,s.au.l⟩⟩:bg)=s:=by
 rw [h.r,h.x,h.f,h.g]
end Dem
end
