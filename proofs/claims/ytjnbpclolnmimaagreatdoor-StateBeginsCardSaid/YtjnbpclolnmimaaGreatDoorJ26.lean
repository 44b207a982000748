/- Parts of a proof, joined. -/
import Derived.Test.YtjnbpclolnmimaaGreatDoorJ25
set_option linter.unusedSimpArgs false
set_option linter.unusedVariables false
set_option maxRecDepth 100000
set_option maxHeartbeats 4000000
open Go Dem Go.Proofs
namespace Dem
variable {t:Th}
theorem Vb (k m:Nat) {F:Nat→List AV→List ax→fm→List ax→Prop} {T:Nat→Option TI} {G:Nat→Option (List D)} {N K i:Nat} {ops:Array Oper} {b:Code} {Q Q2:Ex→St→Prop} {s:St} (h:∀l10,l10=((((((((((ops.toList.drop k).drop m).drop m).drop m).drop m).drop m).drop m).drop m).drop m).drop m)→∀l9,l9=(((((((((ops.toList.drop k).drop m).drop m).drop m).drop m).drop m).drop m).drop m).drop m).take m++l10→∀l8,l8=((((((((ops.toList.drop k).drop m).drop m).drop m).drop m).drop m).drop m).drop m).take m++l9→∀l7,l7=(((((((ops.toList.drop k).drop m).drop m).drop m).drop m).drop m).drop m).take m++l8→∀l6,l6=((((((ops.toList.drop k).drop m).drop m).drop m).drop m).drop m).take m++l7→∀l5,l5=(((((ops.toList.drop k).drop m).drop m).drop m).drop m).take m++l6→∀l4,l4=((((ops.toList.drop k).drop m).drop m).drop m).take m++l5→∀l3,l3=(((ops.toList.drop k).drop m).drop m).take m++l4→∀l2,l2=((ops.toList.drop k).drop m).take m++l3→∀l1,l1=(ops.toList.drop k).take m++l2→Ku t F T G N ops.toList (ops.toList.take k++l1) (fun e s1=>nt (fun s1=>rI t F T G N K b Q s1) Q e s1) s):rI t F T G N K .skip (nt (rI t F T G N K (.seq (.region i ops false) b) Q) Q2) s:=by
 have:=h _ rfl _ rfl _ rfl _ rfl _ rfl _ rfl _ rfl _ rfl _ rfl _ rfl
 rw [List.take_append_drop,List.take_append_drop,List.take_append_drop,List.take_append_drop,List.take_append_drop,List.take_append_drop,List.take_append_drop,List.take_append_drop,List.take_append_drop,List.take_append_drop] at this
 exact this
theorem qb (ht:TT t):FC 9 [] [] (.ret (BL true)) []:=by
 obtain ⟨N,hN⟩:∃n,n=xN:=⟨_,rfl⟩
 obtain ⟨T,hT⟩:∃n,n=xT:=⟨_,rfl⟩
 obtain ⟨U,hU⟩:∃n,n=xU:=⟨_,rfl⟩
 obtain ⟨P,hP⟩:∃n,n=xP:=⟨_,rfl⟩
 obtain ⟨J,hJ⟩:∃n,n=xJ:=⟨_,rfl⟩
 obtain ⟨K,hK⟩:∃n,n=xR:=⟨_,rfl⟩
 obtain ⟨Q,hQ⟩:∃n,n=xQ:=⟨_,rfl⟩
 obtain ⟨E1,mc⟩:∃n,n=Z8:=⟨_,rfl⟩
 obtain ⟨E2,mg⟩:∃n,n=V5:=⟨_,rfl⟩
 obtain ⟨E3,mh⟩:∃n,n=xE3:=⟨_,rfl⟩
 obtain ⟨E4,mj⟩:∃n,n=xE4:=⟨_,rfl⟩
 obtain ⟨W,hW⟩:∃n,n=xW:=⟨_,rfl⟩
 obtain ⟨pb,Su⟩:∃s,s=m0 xB:=⟨_,rfl⟩
 have e0:kU 0=⟨0,1,⟨N,[]⟩,T,[],[],⟨0,[]⟩,⟨0,[]⟩⟩:=by subst hN hT hU hP hJ hK hQ mc mg mh mj hW;exact xf0
 have eN:T7=⟨0,1,⟨[],[]⟩,W,[],[],⟨0,[]⟩,⟨0,[]⟩⟩:=by subst hN hT hU hP hJ hK hQ mc mg mh mj hW;exact xfn
 have e1:eA ⟨0,1,⟨[],[]⟩,W,[],[],⟨0,[]⟩,⟨0,[]⟩⟩ ⟨[97],⟨2,0,0,0⟩,2,0,3,[]⟩=(⟨0,1,⟨[],[]⟩,W,[],[],⟨0,[]⟩,⟨0,[]⟩⟩,0,7):=by subst hN hT hU hP hJ hK hQ mc mg mh mj hW;exact xf1
 have e2:eA ⟨0,1,⟨N,[]⟩,T,[],[],⟨0,[]⟩,⟨0,[]⟩⟩ ⟨[97],⟨2,0,0,0⟩,2,0,3,[]⟩=(⟨0,2,⟨N,[]⟩,T,J,Q,⟨0,E1⟩,⟨0,[]⟩⟩,1,0):=by subst hN hT hU hP hJ hK hQ mc mg mh mj hW;exact xf2
 have e3:cw ⟨0,2,⟨N,[]⟩,T,J,Q,⟨0,E1⟩,⟨0,[]⟩⟩ 1 [[110,49],[110,49]]=(⟨0,2,⟨N,P⟩,U,K,[],⟨0,E2⟩,⟨0,[]⟩⟩,0):=by subst hN hT hU hP hJ hK hQ mc mg mh mj hW;exact xf3
 have e4:cw ⟨0,2,⟨N,P⟩,U,K,[],⟨0,E2⟩,⟨0,[]⟩⟩ 1 []=(⟨0,2,⟨N,P⟩,U,K,[],⟨0,E2⟩,⟨0,[]⟩⟩,15):=by subst hN hT hU hP hJ hK hQ mc mg mh mj hW;exact xf4
 have e5:cw ⟨0,2,⟨N,[]⟩,T,J,Q,⟨0,E1⟩,⟨0,[]⟩⟩ 9 []=(⟨0,2,⟨N,[]⟩,T,J,Q,⟨0,E1⟩,⟨0,[]⟩⟩,7):=by subst hN hT hU hP hJ hK hQ mc mg mh mj hW;exact xf5
 have e6:jJ ⟨0,2,⟨N,P⟩,U,K,[],⟨0,E2⟩,⟨0,[]⟩⟩ 1 5=(⟨0,2,⟨N,[]⟩,T,J,Q,⟨0,E3⟩,⟨0,[]⟩⟩,0):=by subst hN hT hU hP hJ hK hQ mc mg mh mj hW;exact xf6
 have e7:send ⟨0,2,⟨N,P⟩,U,K,[],⟨0,E2⟩,⟨0,[]⟩⟩ 1 3=(⟨0,2,⟨N,[]⟩,T,[],[],⟨0,E4⟩,⟨0,[]⟩⟩,0):=by subst hN hT hU hP hJ hK hQ mc mg mh mj hW;exact xf7
 have e8:lA U []=(⟨[],⟨30,30,30,30⟩,⟨4,0,0,0⟩⟩,true):=by subst hN hT hU hP hJ hK hQ mc mg mh mj hW;exact xf8
 have e9:eH K 1=(⟨1,⟨[97],⟨2,0,0,0⟩,2,0,3,[]⟩,true,3⟩,true):=by subst hN hT hU hP hJ hK hQ mc mg mh mj hW;exact xf9
 have e10:tU ⟨0,E4⟩ 1=([⟨0,1,2⟩,⟨0,1,3⟩],3):=by subst hN hT hU hP hJ hK hQ mc mg mh mj hW;exact acs
 have hJw:∀x∈J,x.x.fQ.u'∧x.x.path.length<1000000000000:=by subst hN hT hU hP hJ hK hQ mc mg mh mj hW;exact xJw
 have hKw:∀x∈K,x.x.fQ.u'∧x.x.path.length<1000000000000:=by subst hN hT hU hP hJ hK hQ mc mg mh mj hW;exact xRw
 have nsm:∀x∈N,x.sm:=by subst hN hT hU hP hJ hK hQ mc mg mh mj hW;exact Z9
 have nu:∀x∈N,x.cap.u:=by subst hN hT hU hP hJ hK hQ mc mg mh mj hW;exact xNu
 have nl9:∀x∈N,x.labels.length<1000000000:=by subst hN hT hU hP hJ hK hQ mc mg mh mj hW;exact xNl
 have pu:∀x∈P,x.v.u∧x.bu<18446744073709551616:=by subst hN hT hU hP hJ hK hQ mc mg mh mj hW;exact xPu
 have uu:∀x∈U,x.dc.u∧x.used.u:=by subst hN hT hU hP hJ hK hQ mc mg mh mj hW;exact xUu
 have ku:∀x∈K,x.x.sm∧x.id<18446744073709551616:=by subst hN hT hU hP hJ hK hQ mc mg mh mj hW;exact fun x hx=>⟨XY x hx,by rw [List.mem_singleton.1 hx];decide⟩
 have ksm:∀x∈K,x.x.sm:=by subst hN hT hU hP hJ hK hQ mc mg mh mj hW;exact XY
 have eu:∀x∈E2,x.round<18446744073709551616∧x.id<18446744073709551616:=by subst hN hT hU hP hJ hK hQ mc mg mh mj hW;exact by decide+kernel
 have bsm:(⟨0,2,⟨N,P⟩,U,K,[],⟨0,E2⟩,⟨0,[]⟩⟩:cH).sm:=by subst hN hT hU hP hJ hK hQ mc mg mh mj hW;exact acu
 have br:gq ⟨0,2,⟨N,P⟩,U,K,[],⟨0,E2⟩,⟨0,[]⟩⟩=true:=by subst hN hT hU hP hJ hK hQ mc mg mh mj hW;exact xr1
 have es1:wz ⟨0,2,⟨N,P⟩,U,K,[],⟨0,E2⟩,⟨0,[]⟩⟩ ⟨0,2,⟨N,P⟩,U,K,[],⟨0,E2⟩,⟨0,[]⟩⟩=true:=by subst hN hT hU hP hJ hK hQ mc mg mh mj hW;exact xs1
 have lN:N.length=3:=by subst hN hT hU hP hJ hK hQ mc mg mh mj hW;exact rfl
 have lT:T.length=4:=by subst hN hT hU hP hJ hK hQ mc mg mh mj hW;exact rfl
 have lU:U.length=4:=by subst hN hT hU hP hJ hK hQ mc mg mh mj hW;exact rfl
 have lP:P.length=2:=by subst hN hT hU hP hJ hK hQ mc mg mh mj hW;exact rfl
 have lJ:J.length=1:=by subst hN hT hU hP hJ hK hQ mc mg mh mj hW;exact rfl
 have lK:K.length=1:=by subst hN hT hU hP hJ hK hQ mc mg mh mj hW;exact rfl
 have lQ:Q.length=1:=by subst hN hT hU hP hJ hK hQ mc mg mh mj hW;exact rfl
 have lE1:E1.length=1:=by subst hN hT hU hP hJ hK hQ mc mg mh mj hW;exact rfl
 have lE2:E2.length=2:=by subst hN hT hU hP hJ hK hQ mc mg mh mj hW;exact rfl
 have lE3:E3.length=3:=by subst hN hT hU hP hJ hK hQ mc mg mh mj hW;exact rfl
 have lE4:E4.length=3:=by subst hN hT hU hP hJ hK hQ mc mg mh mj hW;exact rfl
 have lW:W.length=1:=by subst hN hT hU hP hJ hK hQ mc mg mh mj hW;exact rfl
 have hb:N.length<1000000∧P.length<1000000∧U.length<100000∧K.length<1000000∧([]:List bX).length<1000000∧E2.length<1000000∧([]:List bU).length<1000000:=by subst hN hT hU hP hJ hK hQ mc mg mh mj hW;exact by decide+kernel
 have g1:bD pb 0=⟨0,1,true⟩:=by subst hN hT hU hP hJ hK hQ mc mg mh mj hW Su;exact xg1
 have g2:bD pb 1=⟨2,2,true⟩:=by subst hN hT hU hP hJ hK hQ mc mg mh mj hW Su;exact xg2
 have g3:Ib pb 2=⟨⟨N,P⟩,61,true⟩:=by subst hN hT hU hP hJ hK hQ mc mg mh mj hW Su;exact xg3
 have g4:BJ pb 61=⟨U,103,true⟩:=by subst hN hT hU hP hJ hK hQ mc mg mh mj hW Su;exact xg4
 have g5:bD pb 103=⟨1,104,true⟩:=by subst hN hT hU hP hJ hK hQ mc mg mh mj hW Su;exact xg5
 have g6:kB pb (1:Int).toNat [] 104=some (K,116):=by subst hN hT hU hP hJ hK hQ mc mg mh mj hW Su;exact xg6
 have g7:lm pb 116=some (⟨0,E2⟩,124):=by subst hN hT hU hP hJ hK hQ mc mg mh mj hW Su;exact xg7
 have g8:lm pb 124=some (⟨0,[]⟩,126):=by subst hN hT hU hP hJ hK hQ mc mg mh mj hW Su;exact xg8
 have nQ:pb.length=126:=by subst hN hT hU hP hJ hK hQ mc mg mh mj hW Su;exact xgl
 obtain ⟨nr,XA⟩:∃r,r=N.map Node.cells:=⟨_,rfl⟩
 obtain ⟨pr,Sv⟩:∃r,r=P.map Place.cells:=⟨_,rfl⟩
 obtain ⟨tr,Yf⟩:∃r,r=U.map aR.cells:=⟨_,rfl⟩
 obtain ⟨jr,hjr⟩:∃r,r=K.map Jb.cells:=⟨_,rfl⟩
 obtain ⟨er,her⟩:∃r,r=E2.map bU.cells:=⟨_,rfl⟩
 have lpb:pb.length<9223372036854775000:=by omega
 have hpe:(126:Int)=pb.length:=by omega
 have e11:m0 ⟨0,2,⟨N,P⟩,U,K,[],⟨0,E2⟩,⟨0,[]⟩⟩=pb:=by subst hN hT hU hP hJ hK hQ mc mg mh mj hW Su;rfl
 have hn:(m0 ⟨0,2,⟨N,P⟩,U,K,[],⟨0,E2⟩,⟨0,[]⟩⟩).length<9223372036854775000:=by rw [e11];exact lpb
 clear hN hT hU hP hJ hK hQ mc mg mh mj hW Su
 refine bC ht (aE:=[]) Tryz.func9 (c:=_) rfl rfl (N:=208) rfl (rs:=_) rfl (n:=0) rfl rfl ?_
 cbv
 have FU:nr.length=N.length:=by rw [XA,lgM]
 have acO:pr.length=P.length:=by rw [Sv,lgM]
 have acP:tr.length=U.length:=by rw [Yf,lgM]
 have acQ:jr.length=K.length:=by rw [hjr,lgM]
 have acR:er.length=E2.length:=by rw [her,lgM]
 ((refine aS trivial (uQ ht 0 (by decide) rfl) (by simp) rfl rfl rfl (fun r0 bE=>?_);simp only [ht] at bE;replace bE:=bE.trans e0;subst bE))
 cbv
 refine vM [] [3,4,5,6] [false,false,false,false,false,false,false,false,true,true,true] (by kernel_rfl) (by kernel_rfl) (by kernel_rfl) (by kernel_rfl) (by kernel_rfl) (by kernel_rfl) ?_
 cbv
 refine .inl ?_
 ((refine iu (fun g9=>⟨by simp,by simp,M8 ht⟩) rfl rfl rfl (fun r1 cX=>?_);simp only [ht] at cX;replace cX:=cX.trans eN;subst cX))
 cbv
 refine gI (by simp) ?_
 refine .inl ?_
 ((refine iu (fun g9=>⟨by simp,by simp,oT ht 0 1 0 0 (nl:=[]) (pl:=[]) (tl:=W) (jl:=[]) (ql:=[]) (el:=[]) (al:=[]) (by (simp only [ht]<;>rfl)) (by (simp only [ht]<;>rfl)) (by (simp only [ht]<;>rfl)) (by (simp only [ht]<;>rfl)) (by (simp only [ht]<;>rfl)) (by (simp only [ht]<;>rfl)) (by (simp only [ht]<;>rfl)) 2 0 0 0 2 0 3 [97] (jB:=[]) (by rfl) XX (by omega) (by omega) (by omega) (by omega)⟩) rfl rfl rfl (fun r2 cP=>?_);simp only [ht] at cP;replace cP:=cP.trans e1;subst cP))
 cbv
 iterate 4 refine gI (by simp) ?_
 ((refine aS trivial (oT ht 0 1 0 0 (nl:=N) (pl:=[]) (tl:=T) (jl:=[]) (ql:=[]) (el:=[]) (al:=[]) (by (simp only [ht]<;>rfl)) (by (simp only [ht]<;>rfl)) (by (simp only [ht]<;>rfl)) (by (simp only [ht]<;>rfl)) (by (simp only [ht]<;>rfl)) (by (simp only [ht]<;>rfl)) (by (simp only [ht]<;>rfl)) 2 0 0 0 2 0 3 [97] (jB:=[]) (by rfl) XX (by omega) (by omega) (by omega) (by omega)) (by simp) rfl rfl rfl (fun r3 gH=>?_);simp only [ht] at gH;replace gH:=gH.trans e2;subst gH))
 cbv
 ((refine aS trivial (m5 ht 0 2 0 0 (nl:=N) (pl:=[]) (tl:=T) (jl:=J) (ql:=Q) (el:=E1) (al:=[]) (by (simp only [ht]<;>rfl)) (by (simp only [ht]<;>rfl)) (by (simp only [ht]<;>rfl)) (by (simp only [ht]<;>rfl)) (by (simp only [ht]<;>rfl)) (by (simp only [ht]<;>rfl)) (by (simp only [ht]<;>rfl)) 1 (names:=[[110,49],[110,49]]) (by rfl) hJw (by omega) (by omega) (by omega) (by omega) (by omega) (by omega) (by decide)) (by simp) rfl rfl rfl (fun r4 dO=>?_);simp only [ht] at dO;replace dO:=dO.trans e3;subst dO))
 cbv
 ((refine aS trivial (m5 ht 0 2 0 0 (nl:=N) (pl:=P) (tl:=U) (jl:=K) (ql:=[]) (el:=E2) (al:=[]) (by (simp only [ht]<;>rfl)) (by (simp only [ht]<;>rfl)) (by (simp only [ht]<;>rfl)) (by (simp only [ht]<;>rfl)) (by (simp only [ht]<;>rfl)) (by (simp only [ht]<;>rfl)) (by (simp only [ht]<;>rfl)) 1 (names:=[]) (by rfl) hKw (by omega) (by omega) (by omega) (by omega) (by omega) (by omega) (by omega)) (by simp) rfl rfl rfl (fun r5 jA=>?_);simp only [ht] at jA;replace jA:=jA.trans e4;subst jA))
 cbv
 ((refine aS trivial (m5 ht 0 2 0 0 (nl:=N) (pl:=[]) (tl:=T) (jl:=J) (ql:=Q) (el:=E1) (al:=[]) (by (simp only [ht]<;>rfl)) (by (simp only [ht]<;>rfl)) (by (simp only [ht]<;>rfl)) (by (simp only [ht]<;>rfl)) (by (simp only [ht]<;>rfl)) (by (simp only [ht]<;>rfl)) (by (simp only [ht]<;>rfl)) 9 (names:=[]) (by rfl) hJw (by omega) (by omega) (by omega) (by omega) (by omega) (by omega) (by omega)) (by simp) rfl rfl rfl (fun r6 gv=>?_);simp only [ht] at gv;replace gv:=gv.trans e5;subst gv))
 cbv
 ((refine aS trivial (F1 ht 0 2 0 0 (nl:=N) (pl:=P) (tl:=U) (jl:=K) (ql:=[]) (el:=E2) (al:=[]) (by (simp only [ht]<;>rfl)) (by (simp only [ht]<;>rfl)) (by (simp only [ht]<;>rfl)) (by (simp only [ht]<;>rfl)) (by (simp only [ht]<;>rfl)) (by (simp only [ht]<;>rfl)) (by (simp only [ht]<;>rfl)) 1 5 hKw (by omega) (by omega) (by omega) (by omega) (by omega)) (by simp) rfl rfl rfl (fun r7 gL=>?_);simp only [ht] at gL;replace gL:=gL.trans e6;subst gL))
 cbv
 ((refine aS trivial (F2 ht 0 2 0 0 (nl:=N) (pl:=P) (tl:=U) (jl:=K) (ql:=[]) (el:=E2) (al:=[]) (by (simp only [ht]<;>rfl)) (by (simp only [ht]<;>rfl)) (by (simp only [ht]<;>rfl)) (by (simp only [ht]<;>rfl)) (by (simp only [ht]<;>rfl)) (by (simp only [ht]<;>rfl)) (by (simp only [ht]<;>rfl)) 1 3 hKw (by omega) (by omega) (by omega) (by omega) (by omega)) (by simp) rfl rfl rfl (fun r8 qy=>?_);simp only [ht] at qy;replace qy:=qy.trans e7;subst qy))
 cbv
 ((refine ay trivial (BQ ht [] (l:=U) (by (simp only [ht]<;>rfl)) (by omega)) (by simp) rfl rfl (fun r9 dN=>?_);simp only [ht] at dN;replace dN:=dN.trans e8;subst dN))
 cbv
 ((refine aS trivial (wN ht 1 0 2 0 0 _ _ _ _ _ _ (l:=K) (by (simp only [ht]<;>rfl)) (by omega)) (by simp) rfl rfl rfl (fun r10 BR=>?_);simp only [ht] at BR;replace BR:=BR.trans e9;subst BR))
 cbv
 ((refine ay trivial (Sk ht 0 2 0 0 (nl:=N) (pl:=P) (tl:=U) (jl:=K) (ql:=[]) (el:=E2) (al:=[]) (by (simp only [ht]<;>rfl)) (by (simp only [ht]<;>rfl)) (by (simp only [ht]<;>rfl)) (by (simp only [ht]<;>rfl)) (by (simp only [ht]<;>rfl)) (by (simp only [ht]<;>rfl)) (by (simp only [ht]<;>rfl)) (by decide) (by decide) (by omega) (by omega) nsm nu pu (by omega) uu (by omega) ku (by decide) (by omega) eu (by decide) (by omega) (by simp) hn) (by simp) rfl rfl (fun Yn pZ=>?_);simp only [ht] at pZ;replace pZ:=pZ.trans e11;subst pZ))
 cbv
 ((refine HK trivial (U3 ht _ 0 2 0 0 (nl:=N) (pl:=P) (tl:=U) (jl:=K) (ql:=[]) (el:=E2) (al:=[]) XA Sv Yf hjr rfl her rfl lpb rfl hpe g1 g2 g3 (by omega) g4 (by omega) g5 g6 g7 g8 bsm br) (by simp) rfl rfl rfl ?_))
 cbv
 ((refine aS trivial (Fw ht 0 1 (l:=E4) (by (simp only [ht]<;>rfl)) (by omega)) (by simp) rfl rfl rfl (fun Xw oN=>?_);simp only [ht] at oN;replace oN:=oN.trans e10;subst oN))
 cbv
 iterate 5 refine gI (by simp [ht]) ?_
 refine pI (by simp [ht]) ?_
 refine ai (fun h0=>?_) (fun h0=>?_)
 ·simp [ht,lP] at h0
 simp [ht,lP] at h0
 (refine Vb 24 8 (fun l10 acS l9 hl9 l8 hl8 l7 hl7 l6 hl6 l5 hl5 l4 hl4 l3 HQ l2 oe l1 hl1=>?_))
 cbv
 iterate 2 refine gI (by simp [ht]) ?_
 refine pI (by simp [ht]) ?_
 iterate 2 refine gI (by simp [ht]) ?_
 refine pI (by simp [ht]) ?_
 iterate 2 refine gI (by simp [ht]) ?_
 refine pI (by simp [ht]) ?_
 iterate 2 refine gI (by simp [ht]) ?_
 refine pI (by simp [ht]) ?_
 iterate 2 refine gI (by simp [ht]) ?_
 refine pI (by simp [ht]) ?_
 refine gI (by simp [ht]) ?_
 (subst hl1)
 cbv
 refine gI (by simp [ht]) ?_
 refine pI (by simp [ht]) ?_
 iterate 2 refine gI (by simp [ht]) ?_
 refine pI (by simp [ht]) ?_
 refine gI (by simp [ht]) ?_
 (subst oe)
 cbv
 iterate 3 refine gI (by simp [ht]) ?_
 refine pI (by simp [ht]) ?_
 refine gI (by simp [ht]) ?_
 refine pI (by simp [ht]) ?_
 (subst HQ)
 cbv
 iterate 2 refine gI (by simp [ht]) ?_
 refine pI (by simp [ht]) ?_
 iterate 3 refine gI (by simp [ht]) ?_
 refine pI (by simp [ht]) ?_
 (subst hl4)
 cbv
 iterate 4 refine gI (by simp [ht]) ?_
 refine pI (by simp [ht]) ?_
 refine gI (by simp [ht]) ?_
 (subst hl5)
 cbv
 iterate 3 refine gI (by simp [ht]) ?_
 refine pI (by simp [ht]) ?_
 iterate 3 refine gI (by simp [ht]) ?_
 (subst hl6)
 cbv
 iterate 2 refine gI (by simp [ht]) ?_
 refine pI (by simp [ht]) ?_
 iterate 4 refine gI (by simp [ht]) ?_
 (subst hl7)
 cbv
 refine pI (by simp [ht]) ?_
 refine gI (by simp [ht]) ?_
 refine pI (by simp [ht]) ?_
 iterate 2 refine gI (by simp [ht]) ?_
 ((refine aM (fun g9=>⟨by simp [ht,lQ],by simp,tB ht 0 2 0 0 (nl:=N) (pl:=P) (tl:=U) (jl:=K) (ql:=[]) (el:=E2) (al:=[]) (by assumption) (by assumption) (by assumption) (by assumption) (by rfl) (by assumption) (by rfl) 0 2 0 0 (nl':=N) (V6:=P) (V7:=U) (Va:=K) (V8:=[]) (V9:=E2) (Wa:=[]) (by (simp only [ht]<;>rfl)) (by (simp only [ht]<;>rfl)) (by (simp only [ht]<;>rfl)) (by (simp only [ht]<;>rfl)) (by (simp only [ht]<;>rfl)) (by (simp only [ht]<;>rfl)) (by (simp only [ht]<;>rfl)) hb hb nl9 nl9 ksm ksm⟩) rfl rfl (fun r13 FP=>?_);simp only [ht] at FP;replace FP:=FP.trans es1;subst FP))
 cbv
 (subst hl8)
 cbv
 refine pI (by simp [ht]) ?_
 refine gI (by simp [ht]) ?_
 ((refine aM (fun g9=>⟨by simp [ht,lQ],by simp,p9 ht 0 2 0 0 (nl:=N) (pl:=P) (tl:=U) (jl:=K) (ql:=[]) (el:=E2) (al:=[]) (by (simp only [ht]<;>rfl)) (by (simp only [ht]<;>rfl)) (by (simp only [ht]<;>rfl)) (by (simp only [ht]<;>rfl)) (by (simp only [ht]<;>rfl)) (by (simp only [ht]<;>rfl)) (by (simp only [ht]<;>rfl)) bsm⟩) rfl rfl (fun r14 wK=>?_);simp only [ht] at wK;replace wK:=wK.trans br;subst wK))
 cbv
 refine pI (by simp [ht]) ?_
 refine gI (by simp [ht]) ?_
 ((refine QK [.int .u64 0,.int .u64 1,.int .i64 3] (fun hg=>⟨⟨(by exact ⟨hg,trivial⟩),(by simp [ht,bU.cells])⟩,(by simp [ht,bU.cells])⟩) ?_))
 cbv
 (subst hl9)
 cbv
 iterate 3 refine gI (by simp [ht]) ?_
 refine pI (by simp [ht]) ?_
 iterate 2 refine gI (by simp [ht]) ?_
 refine pI (by simp [ht]) ?_
 (subst acS)
 cbv
 refine gI (by simp [ht]) ?_
 ((refine aM (fun g9=>⟨by simp [ht,lQ],by simp,p9 ht 0 0 0 0 (nl:=[]) (pl:=[]) (tl:=[]) (jl:=[]) (ql:=[]) (el:=[]) (al:=[]) (by rfl) (by rfl) (by rfl) (by rfl) (by rfl) (by rfl) (by rfl) acv⟩) rfl rfl (fun r15 K8=>?_);simp only [ht] at K8;replace K8:=K8.trans xr2;subst K8))
 cbv
 refine gI (by simp [ht]) ?_
 refine pI (by simp [ht]) ?_
 refine an trivial trivial rfl rfl rfl ?_
 (simp [ht,lQ];done)
end Dem
