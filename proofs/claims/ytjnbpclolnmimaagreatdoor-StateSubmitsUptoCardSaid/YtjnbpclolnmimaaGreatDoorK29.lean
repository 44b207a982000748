/- Parts of a proof, joined. -/
import Derived.Test.YtjnbpclolnmimaaGreatDoorK28
set_option linter.all false
set_option maxRecDepth 100000
set_option maxHeartbeats 4000000
open Go Dem Go.Proofs
namespace Dem
variable {t:Th}
theorem Ui (k m:Nat) {F:Nat→List AV→List ar→ff→List ar→Prop} {T:Nat→Option TI} {G:Nat→Option (List D)} {N K i:Nat} {ops:Array Oper} {b:Code} {Q Q2:Ex→St→Prop} {s:St} (h:∀l10,l10=((((((((((ops.toList.drop k).drop m).drop m).drop m).drop m).drop m).drop m).drop m).drop m).drop m)→∀l9,l9=(((((((((ops.toList.drop k).drop m).drop m).drop m).drop m).drop m).drop m).drop m).drop m).take m++l10→∀l8,l8=((((((((ops.toList.drop k).drop m).drop m).drop m).drop m).drop m).drop m).drop m).take m++l9→∀l7,l7=(((((((ops.toList.drop k).drop m).drop m).drop m).drop m).drop m).drop m).take m++l8→∀l6,l6=((((((ops.toList.drop k).drop m).drop m).drop m).drop m).drop m).take m++l7→∀l5,l5=(((((ops.toList.drop k).drop m).drop m).drop m).drop m).take m++l6→∀l4,l4=((((ops.toList.drop k).drop m).drop m).drop m).take m++l5→∀l3,l3=(((ops.toList.drop k).drop m).drop m).take m++l4→∀l2,l2=((ops.toList.drop k).drop m).take m++l3→∀l1,l1=(ops.toList.drop k).take m++l2→Jz t F T G N ops.toList (ops.toList.take k++l1) (fun e s1=>mY (fun s1=>qP t F T G N K b Q s1) Q e s1) s):qP t F T G N K .skip (mY (qP t F T G N K (.seq (.region i ops false) b) Q) Q2) s:=by
 have:=h _ rfl _ rfl _ rfl _ rfl _ rfl _ rfl _ rfl _ rfl _ rfl _ rfl
 rw [List.take_append_drop,List.take_append_drop,List.take_append_drop,List.take_append_drop,List.take_append_drop,List.take_append_drop,List.take_append_drop,List.take_append_drop,List.take_append_drop,List.take_append_drop] at this
 exact this
theorem Lf (ht:TT t):FC 9 [] [] (.ret (BL true)) []:=by
 obtain ⟨N,hN⟩:∃n,n=xN:=⟨_,rfl⟩
 obtain ⟨T,hT⟩:∃n,n=xT:=⟨_,rfl⟩
 obtain ⟨U,hU⟩:∃n,n=xU:=⟨_,rfl⟩
 obtain ⟨P,hP⟩:∃n,n=xP:=⟨_,rfl⟩
 obtain ⟨J,hJ⟩:∃n,n=xJ:=⟨_,rfl⟩
 obtain ⟨K,hK⟩:∃n,n=xR:=⟨_,rfl⟩
 obtain ⟨Q,hQ⟩:∃n,n=xQ:=⟨_,rfl⟩
 obtain ⟨E1,lH⟩:∃n,n=Y8:=⟨_,rfl⟩
 obtain ⟨E2,lI⟩:∃n,n=U0:=⟨_,rfl⟩
 obtain ⟨E3,lM⟩:∃n,n=xE3:=⟨_,rfl⟩
 obtain ⟨E4,lR⟩:∃n,n=xE4:=⟨_,rfl⟩
 obtain ⟨W,hW⟩:∃n,n=xW:=⟨_,rfl⟩
 obtain ⟨pb,RK⟩:∃s,s=mO xB:=⟨_,rfl⟩
 have e0:kO 0=⟨0,1,⟨N,[]⟩,T,[],[],⟨0,[]⟩,⟨0,[]⟩⟩:=by subst hN hT hU hP hJ hK hQ lH lI lM lR hW;exact xf0
 have eN:S1=⟨0,1,⟨[],[]⟩,W,[],[],⟨0,[]⟩,⟨0,[]⟩⟩:=by subst hN hT hU hP hJ hK hQ lH lI lM lR hW;exact xfn
 have e1:bW ⟨0,1,⟨[],[]⟩,W,[],[],⟨0,[]⟩,⟨0,[]⟩⟩ ⟨[97],⟨2,0,0,0⟩,2,0,3,[]⟩=(⟨0,1,⟨[],[]⟩,W,[],[],⟨0,[]⟩,⟨0,[]⟩⟩,0,7):=by subst hN hT hU hP hJ hK hQ lH lI lM lR hW;exact xf1
 have e2:bW ⟨0,1,⟨N,[]⟩,T,[],[],⟨0,[]⟩,⟨0,[]⟩⟩ ⟨[97],⟨2,0,0,0⟩,2,0,3,[]⟩=(⟨0,2,⟨N,[]⟩,T,J,Q,⟨0,E1⟩,⟨0,[]⟩⟩,1,0):=by subst hN hT hU hP hJ hK hQ lH lI lM lR hW;exact xf2
 have e3:dK ⟨0,2,⟨N,[]⟩,T,J,Q,⟨0,E1⟩,⟨0,[]⟩⟩ 1 [[110,49],[110,49]]=(⟨0,2,⟨N,P⟩,U,K,[],⟨0,E2⟩,⟨0,[]⟩⟩,0):=by subst hN hT hU hP hJ hK hQ lH lI lM lR hW;exact xf3
 have e4:dK ⟨0,2,⟨N,P⟩,U,K,[],⟨0,E2⟩,⟨0,[]⟩⟩ 1 []=(⟨0,2,⟨N,P⟩,U,K,[],⟨0,E2⟩,⟨0,[]⟩⟩,15):=by subst hN hT hU hP hJ hK hQ lH lI lM lR hW;exact xf4
 have e5:dK ⟨0,2,⟨N,[]⟩,T,J,Q,⟨0,E1⟩,⟨0,[]⟩⟩ 9 []=(⟨0,2,⟨N,[]⟩,T,J,Q,⟨0,E1⟩,⟨0,[]⟩⟩,7):=by subst hN hT hU hP hJ hK hQ lH lI lM lR hW;exact xf5
 have e6:nj ⟨0,2,⟨N,P⟩,U,K,[],⟨0,E2⟩,⟨0,[]⟩⟩ 1 5=(⟨0,2,⟨N,[]⟩,T,J,Q,⟨0,E3⟩,⟨0,[]⟩⟩,0):=by subst hN hT hU hP hJ hK hQ lH lI lM lR hW;exact xf6
 have e7:send ⟨0,2,⟨N,P⟩,U,K,[],⟨0,E2⟩,⟨0,[]⟩⟩ 1 3=(⟨0,2,⟨N,[]⟩,T,[],[],⟨0,E4⟩,⟨0,[]⟩⟩,0):=by subst hN hT hU hP hJ hK hQ lH lI lM lR hW;exact xf7
 have e8:om U []=(⟨[],⟨30,30,30,30⟩,⟨4,0,0,0⟩⟩,true):=by subst hN hT hU hP hJ hK hQ lH lI lM lR hW;exact xf8
 have e9:dZ K 1=(⟨1,⟨[97],⟨2,0,0,0⟩,2,0,3,[]⟩,true,3⟩,true):=by subst hN hT hU hP hJ hK hQ lH lI lM lR hW;exact xf9
 have e10:Hy ⟨0,E4⟩ 1=([⟨0,1,2⟩,⟨0,1,3⟩],3):=by subst hN hT hU hP hJ hK hQ lH lI lM lR hW;exact abB
 have hJw:∀x∈J,x.x.fZ.u'∧x.x.path.length<1000000000000:=by subst hN hT hU hP hJ hK hQ lH lI lM lR hW;exact xJw
 have hKw:∀x∈K,x.x.fZ.u'∧x.x.path.length<1000000000000:=by subst hN hT hU hP hJ hK hQ lH lI lM lR hW;exact xRw
 have nsm:∀x∈N,x.sm:=by subst hN hT hU hP hJ hK hQ lH lI lM lR hW;exact Y9
 have nu:∀x∈N,x.cap.u:=by subst hN hT hU hP hJ hK hQ lH lI lM lR hW;exact xNu
 have nl9:∀x∈N,x.labels.length<1000000000:=by subst hN hT hU hP hJ hK hQ lH lI lM lR hW;exact xNl
 have pu:∀x∈P,x.v.u∧x.bB<18446744073709551616:=by subst hN hT hU hP hJ hK hQ lH lI lM lR hW;exact xPu
 have uu:∀x∈U,x.c6.u∧x.used.u:=by subst hN hT hU hP hJ hK hQ lH lI lM lR hW;exact xUu
 have ku:∀x∈K,x.x.sm∧x.id<18446744073709551616:=by subst hN hT hU hP hJ hK hQ lH lI lM lR hW;exact fun x hx=>⟨WY x hx,by rw [List.mem_singleton.1 hx];decide⟩
 have ksm:∀x∈K,x.x.sm:=by subst hN hT hU hP hJ hK hQ lH lI lM lR hW;exact WY
 have eu:∀x∈E2,x.round<18446744073709551616∧x.id<18446744073709551616:=by subst hN hT hU hP hJ hK hQ lH lI lM lR hW;exact by decide+kernel
 have bsm:(⟨0,2,⟨N,P⟩,U,K,[],⟨0,E2⟩,⟨0,[]⟩⟩:cJ).sm:=by subst hN hT hU hP hJ hK hQ lH lI lM lR hW;exact abC
 have br:gH ⟨0,2,⟨N,P⟩,U,K,[],⟨0,E2⟩,⟨0,[]⟩⟩=true:=by subst hN hT hU hP hJ hK hQ lH lI lM lR hW;exact xr1
 have es1:yB ⟨0,2,⟨N,P⟩,U,K,[],⟨0,E2⟩,⟨0,[]⟩⟩ ⟨0,2,⟨N,P⟩,U,K,[],⟨0,E2⟩,⟨0,[]⟩⟩=true:=by subst hN hT hU hP hJ hK hQ lH lI lM lR hW;exact xs1
 have lN:N.length=3:=by subst hN hT hU hP hJ hK hQ lH lI lM lR hW;exact rfl
 have lT:T.length=4:=by subst hN hT hU hP hJ hK hQ lH lI lM lR hW;exact rfl
 have lU:U.length=4:=by subst hN hT hU hP hJ hK hQ lH lI lM lR hW;exact rfl
 have lP:P.length=2:=by subst hN hT hU hP hJ hK hQ lH lI lM lR hW;exact rfl
 have lJ:J.length=1:=by subst hN hT hU hP hJ hK hQ lH lI lM lR hW;exact rfl
 have lK:K.length=1:=by subst hN hT hU hP hJ hK hQ lH lI lM lR hW;exact rfl
 have lQ:Q.length=1:=by subst hN hT hU hP hJ hK hQ lH lI lM lR hW;exact rfl
 have lE1:E1.length=1:=by subst hN hT hU hP hJ hK hQ lH lI lM lR hW;exact rfl
 have lE2:E2.length=2:=by subst hN hT hU hP hJ hK hQ lH lI lM lR hW;exact rfl
 have lE3:E3.length=3:=by subst hN hT hU hP hJ hK hQ lH lI lM lR hW;exact rfl
 have lE4:E4.length=3:=by subst hN hT hU hP hJ hK hQ lH lI lM lR hW;exact rfl
 have lW:W.length=1:=by subst hN hT hU hP hJ hK hQ lH lI lM lR hW;exact rfl
 have hb:N.length<1000000∧P.length<1000000∧U.length<100000∧K.length<1000000∧([]:List bZ).length<1000000∧E2.length<1000000∧([]:List cF).length<1000000:=by subst hN hT hU hP hJ hK hQ lH lI lM lR hW;exact by decide+kernel
 have g1:bE pb 0=⟨0,1,true⟩:=by subst hN hT hU hP hJ hK hQ lH lI lM lR hW RK;exact xg1
 have g2:bE pb 1=⟨2,2,true⟩:=by subst hN hT hU hP hJ hK hQ lH lI lM lR hW RK;exact xg2
 have g3:Hr pb 2=⟨⟨N,P⟩,61,true⟩:=by subst hN hT hU hP hJ hK hQ lH lI lM lR hW RK;exact xg3
 have g4:A9 pb 61=⟨U,103,true⟩:=by subst hN hT hU hP hJ hK hQ lH lI lM lR hW RK;exact xg4
 have g5:bE pb 103=⟨1,104,true⟩:=by subst hN hT hU hP hJ hK hQ lH lI lM lR hW RK;exact xg5
 have g6:kg pb (1:Int).toNat [] 104=some (K,116):=by subst hN hT hU hP hJ hK hQ lH lI lM lR hW RK;exact xg6
 have g7:kW pb 116=some (⟨0,E2⟩,124):=by subst hN hT hU hP hJ hK hQ lH lI lM lR hW RK;exact xg7
 have g8:kW pb 124=some (⟨0,[]⟩,126):=by subst hN hT hU hP hJ hK hQ lH lI lM lR hW RK;exact xg8
 have pO:pb.length=126:=by subst hN hT hU hP hJ hK hQ lH lI lM lR hW RK;exact xgl
 obtain ⟨nr,Ww⟩:∃r,r=N.map Node.cells:=⟨_,rfl⟩
 obtain ⟨pr,hpr⟩:∃r,r=P.map Place.cells:=⟨_,rfl⟩
 obtain ⟨tr,W5⟩:∃r,r=U.map aQ.cells:=⟨_,rfl⟩
 obtain ⟨jr,hjr⟩:∃r,r=K.map Jb.cells:=⟨_,rfl⟩
 obtain ⟨er,her⟩:∃r,r=E2.map cF.cells:=⟨_,rfl⟩
 have lpb:pb.length<9223372036854775000:=by omega
 have hpe:(126:Int)=pb.length:=by omega
 have e11:mO ⟨0,2,⟨N,P⟩,U,K,[],⟨0,E2⟩,⟨0,[]⟩⟩=pb:=by subst hN hT hU hP hJ hK hQ lH lI lM lR hW RK;rfl
 have hn:(mO ⟨0,2,⟨N,P⟩,U,K,[],⟨0,E2⟩,⟨0,[]⟩⟩).length<9223372036854775000:=by rw [e11];exact lpb
 clear hN hT hU hP hJ hK hQ lH lI lM lR hW RK
 refine bA ht (aB:=[]) Tryz.func9 rfl rfl (N:=208) rfl rfl (n:=0) rfl rfl ?_
 cbv
 have Fm:nr.length=N.length:=by rw [Ww,lgM]
 have abG:pr.length=P.length:=by rw [hpr,lgM]
 have abH:tr.length=U.length:=by rw [W5,lgM]
 have abI:jr.length=K.length:=by rw [hjr,lgM]
 have abJ:er.length=E2.length:=by rw [her,lgM]
 ((refine aU trv (BN ht 0 (by decide) rfl) (by simp) rfl rfl rfl (fun r0 bF=>?_);simp only [ht] at bF;replace bF:=bF.trans e0;subst bF))
 cbv
 refine yh [] [3,4,5,6] [false,false,false,false,false,false,false,false,true,true,true] (by kernel_rfl) (by kernel_rfl) (by kernel_rfl) (by kernel_rfl) (by kernel_rfl) (by kernel_rfl) ?_
 cbv
 refine .inl ?_
 ((refine iS (fun g9=>⟨by simp,by simp,Mn ht⟩) rfl rfl rfl (fun r1 eb=>?_);simp only [ht] at eb;replace eb:=eb.trans eN;subst eb))
 cbv
 refine gI (by simp) ?_
 refine .inl ?_
 ((refine iS (fun g9=>⟨by simp,by simp,mb ht 0 1 0 0 (nl:=[]) (pl:=[]) (tl:=W) (jl:=[]) (ql:=[]) (el:=[]) (al:=[]) (by (simp only [ht]<;>rfl)) (by (simp only [ht]<;>rfl)) (by (simp only [ht]<;>rfl)) (by (simp only [ht]<;>rfl)) (by (simp only [ht]<;>rfl)) (by (simp only [ht]<;>rfl)) (by (simp only [ht]<;>rfl)) 2 0 0 0 2 0 3 [97] (gL:=[]) (by rfl) WX (by omega) (by omega) (by omega) (by omega)⟩) rfl rfl rfl (fun r2 cU=>?_);simp only [ht] at cU;replace cU:=cU.trans e1;subst cU))
 cbv
 iterate 4 refine gI (by simp) ?_
 ((refine aU trv (mb ht 0 1 0 0 (nl:=N) (pl:=[]) (tl:=T) (jl:=[]) (ql:=[]) (el:=[]) (al:=[]) (by (simp only [ht]<;>rfl)) (by (simp only [ht]<;>rfl)) (by (simp only [ht]<;>rfl)) (by (simp only [ht]<;>rfl)) (by (simp only [ht]<;>rfl)) (by (simp only [ht]<;>rfl)) (by (simp only [ht]<;>rfl)) 2 0 0 0 2 0 3 [97] (gL:=[]) (by rfl) WX (by omega) (by omega) (by omega) (by omega)) (by simp) rfl rfl rfl (fun r3 gQ=>?_);simp only [ht] at gQ;replace gQ:=gQ.trans e2;subst gQ))
 cbv
 ((refine aU trv (oC ht 0 2 0 0 (nl:=N) (pl:=[]) (tl:=T) (jl:=J) (ql:=Q) (el:=E1) (al:=[]) (by (simp only [ht]<;>rfl)) (by (simp only [ht]<;>rfl)) (by (simp only [ht]<;>rfl)) (by (simp only [ht]<;>rfl)) (by (simp only [ht]<;>rfl)) (by (simp only [ht]<;>rfl)) (by (simp only [ht]<;>rfl)) 1 (names:=[[110,49],[110,49]]) (by rfl) hJw (by omega) (by omega) (by omega) (by omega) (by omega) (by omega) (by decide)) (by simp) rfl rfl rfl (fun r4 dV=>?_);simp only [ht] at dV;replace dV:=dV.trans e3;subst dV))
 cbv
 ((refine aU trv (oC ht 0 2 0 0 (nl:=N) (pl:=P) (tl:=U) (jl:=K) (ql:=[]) (el:=E2) (al:=[]) (by (simp only [ht]<;>rfl)) (by (simp only [ht]<;>rfl)) (by (simp only [ht]<;>rfl)) (by (simp only [ht]<;>rfl)) (by (simp only [ht]<;>rfl)) (by (simp only [ht]<;>rfl)) (by (simp only [ht]<;>rfl)) 1 (names:=[]) (by rfl) hKw (by omega) (by omega) (by omega) (by omega) (by omega) (by omega) (by omega)) (by simp) rfl rfl rfl (fun r5 jh=>?_);simp only [ht] at jh;replace jh:=jh.trans e4;subst jh))
 cbv
 ((refine aU trv (oC ht 0 2 0 0 (nl:=N) (pl:=[]) (tl:=T) (jl:=J) (ql:=Q) (el:=E1) (al:=[]) (by (simp only [ht]<;>rfl)) (by (simp only [ht]<;>rfl)) (by (simp only [ht]<;>rfl)) (by (simp only [ht]<;>rfl)) (by (simp only [ht]<;>rfl)) (by (simp only [ht]<;>rfl)) (by (simp only [ht]<;>rfl)) 9 (names:=[]) (by rfl) hJw (by omega) (by omega) (by omega) (by omega) (by omega) (by omega) (by omega)) (by simp) rfl rfl rfl (fun r6 gk=>?_);simp only [ht] at gk;replace gk:=gk.trans e5;subst gk))
 cbv
 ((refine aU trv (Mq ht 0 2 0 0 (nl:=N) (pl:=P) (tl:=U) (jl:=K) (ql:=[]) (el:=E2) (al:=[]) (by (simp only [ht]<;>rfl)) (by (simp only [ht]<;>rfl)) (by (simp only [ht]<;>rfl)) (by (simp only [ht]<;>rfl)) (by (simp only [ht]<;>rfl)) (by (simp only [ht]<;>rfl)) (by (simp only [ht]<;>rfl)) 1 5 hKw (by omega) (by omega) (by omega) (by omega) (by omega)) (by simp) rfl rfl rfl (fun r7 gE=>?_);simp only [ht] at gE;replace gE:=gE.trans e6;subst gE))
 cbv
 ((refine aU trv (KZ ht 0 2 0 0 (nl:=N) (pl:=P) (tl:=U) (jl:=K) (ql:=[]) (el:=E2) (al:=[]) (by (simp only [ht]<;>rfl)) (by (simp only [ht]<;>rfl)) (by (simp only [ht]<;>rfl)) (by (simp only [ht]<;>rfl)) (by (simp only [ht]<;>rfl)) (by (simp only [ht]<;>rfl)) (by (simp only [ht]<;>rfl)) 1 3 hKw (by omega) (by omega) (by omega) (by omega) (by omega)) (by simp) rfl rfl rfl (fun r8 sO=>?_);simp only [ht] at sO;replace sO:=sO.trans e7;subst sO))
 cbv
 ((refine ay trv (Ii ht [] (l:=U) (by (simp only [ht]<;>rfl)) (by omega)) (by simp) rfl rfl (fun r9 dz=>?_);simp only [ht] at dz;replace dz:=dz.trans e8;subst dz))
 cbv
 ((refine aU trv (rB ht 1 0 2 0 0 _ _ _ _ _ _ (l:=K) (by (simp only [ht]<;>rfl)) (by omega)) (by simp) rfl rfl rfl (fun Zo BG=>?_);simp only [ht] at BG;replace BG:=BG.trans e9;subst BG))
 cbv
 ((refine ay trv (RJ ht 0 2 0 0 (nl:=N) (pl:=P) (tl:=U) (jl:=K) (ql:=[]) (el:=E2) (al:=[]) (by (simp only [ht]<;>rfl)) (by (simp only [ht]<;>rfl)) (by (simp only [ht]<;>rfl)) (by (simp only [ht]<;>rfl)) (by (simp only [ht]<;>rfl)) (by (simp only [ht]<;>rfl)) (by (simp only [ht]<;>rfl)) (by decide) (by decide) (by omega) (by omega) nsm nu pu (by omega) uu (by omega) ku (by decide) (by omega) eu (by decide) (by omega) (by simp) hn) (by simp) rfl rfl (fun Xf pK=>?_);simp only [ht] at pK;replace pK:=pK.trans e11;subst pK))
 cbv
 ((refine GZ trv (Ue ht _ 0 2 0 0 (nl:=N) (pl:=P) (tl:=U) (jl:=K) (ql:=[]) (el:=E2) (al:=[]) Ww hpr W5 hjr rfl her rfl lpb rfl hpe g1 g2 g3 (by omega) g4 (by omega) g5 g6 g7 g8 bsm br) (by simp) rfl rfl rfl ?_))
 cbv
 ((refine aU trv (TC ht 0 1 (l:=E4) (by (simp only [ht]<;>rfl)) (by omega)) (by simp) rfl rfl rfl (fun Wv oB=>?_);simp only [ht] at oB;replace oB:=oB.trans e10;subst oB))
 cbv
 iterate 5 refine gI (by simp [ht]) ?_
 refine pI (by simp [ht]) ?_
 refine ai (fun h0=>?_) (fun h0=>?_)
 ·simp [ht,lP] at h0
 simp [ht,lP] at h0
 (refine Ui 24 8 (fun l10 abK l9 hl9 l8 hl8 l7 hl7 l6 hl6 l5 hl5 l4 YA l3 G5 l2 oP l1 hl1=>?_))
 cbv
 iterate 2 refine gI (by simp [ht]) ?_
 refine pI (by simp [ht]) ?_
 iterate 2 refine gI (by simp [ht]) ?_
 refine pI (by simp [ht]) ?_
 iterate 2 refine gI (by simp [ht]) ?_
 refine pI (by simp [ht]) ?_
 iterate 2 refine gI (by simp [ht]) ?_
 refine pI (by simp [ht]) ?_
 iterate 2 refine gI (by simp [ht]) ?_
 refine pI (by simp [ht]) ?_
 refine gI (by simp [ht]) ?_
 (subst hl1)
 cbv
 refine gI (by simp [ht]) ?_
 refine pI (by simp [ht]) ?_
 iterate 2 refine gI (by simp [ht]) ?_
 refine pI (by simp [ht]) ?_
 refine gI (by simp [ht]) ?_
 (subst oP)
 cbv
 iterate 3 refine gI (by simp [ht]) ?_
 refine pI (by simp [ht]) ?_
 refine gI (by simp [ht]) ?_
 refine pI (by simp [ht]) ?_
 (subst G5)
 cbv
 iterate 2 refine gI (by simp [ht]) ?_
 refine pI (by simp [ht]) ?_
 iterate 3 refine gI (by simp [ht]) ?_
 refine pI (by simp [ht]) ?_
 (subst YA)
 cbv
 iterate 4 refine gI (by simp [ht]) ?_
 refine pI (by simp [ht]) ?_
 refine gI (by simp [ht]) ?_
 (subst hl5)
 cbv
 iterate 3 refine gI (by simp [ht]) ?_
 refine pI (by simp [ht]) ?_
 iterate 3 refine gI (by simp [ht]) ?_
 (subst hl6)
 cbv
 iterate 2 refine gI (by simp [ht]) ?_
 refine pI (by simp [ht]) ?_
 iterate 4 refine gI (by simp [ht]) ?_
 (subst hl7)
 cbv
 refine pI (by simp [ht]) ?_
 refine gI (by simp [ht]) ?_
 refine pI (by simp [ht]) ?_
 iterate 2 refine gI (by simp [ht]) ?_
 ((refine aJ (fun g9=>⟨by simp [ht,lQ],by simp,xx ht 0 2 0 0 (nl:=N) (pl:=P) (tl:=U) (jl:=K) (ql:=[]) (el:=E2) (al:=[]) ‹_› ‹_› ‹_› ‹_› (by rfl) ‹_› (by rfl) 0 2 0 0 (nl':=N) (WG:=P) (WH:=U) (Rx:=K) (RS:=[]) (WI:=E2) (WJ:=[]) (by (simp only [ht]<;>rfl)) (by (simp only [ht]<;>rfl)) (by (simp only [ht]<;>rfl)) (by (simp only [ht]<;>rfl)) (by (simp only [ht]<;>rfl)) (by (simp only [ht]<;>rfl)) (by (simp only [ht]<;>rfl)) hb hb nl9 nl9 ksm ksm⟩) rfl rfl (fun r13 Fo=>?_);simp only [ht] at Fo;replace Fo:=Fo.trans es1;subst Fo))
 cbv
 (subst hl8)
 cbv
 refine pI (by simp [ht]) ?_
 refine gI (by simp [ht]) ?_
 ((refine aJ (fun g9=>⟨by simp [ht,lQ],by simp,pJ ht 0 2 0 0 (nl:=N) (pl:=P) (tl:=U) (jl:=K) (ql:=[]) (el:=E2) (al:=[]) (by (simp only [ht]<;>rfl)) (by (simp only [ht]<;>rfl)) (by (simp only [ht]<;>rfl)) (by (simp only [ht]<;>rfl)) (by (simp only [ht]<;>rfl)) (by (simp only [ht]<;>rfl)) (by (simp only [ht]<;>rfl)) bsm⟩) rfl rfl (fun Zz vZ=>?_);simp only [ht] at vZ;replace vZ:=vZ.trans br;subst vZ))
 cbv
 refine pI (by simp [ht]) ?_
 refine gI (by simp [ht]) ?_
 ((refine PM [.int .u64 0,.int .u64 1,.int .i64 3] (fun hg=>⟨⟨(by exact ⟨hg,trv⟩),(by simp [ht,cF.cells])⟩,(by simp [ht,cF.cells])⟩) ?_))
 cbv
 (subst hl9)
 cbv
 iterate 3 refine gI (by simp [ht]) ?_
 refine pI (by simp [ht]) ?_
 iterate 2 refine gI (by simp [ht]) ?_
 refine pI (by simp [ht]) ?_
 (subst abK)
 cbv
 refine gI (by simp [ht]) ?_
 ((refine aJ (fun g9=>⟨by simp [ht,lQ],by simp,pJ ht 0 0 0 0 (nl:=[]) (pl:=[]) (tl:=[]) (jl:=[]) (ql:=[]) (el:=[]) (al:=[]) (by rfl) (by rfl) (by rfl) (by rfl) (by rfl) (by rfl) (by rfl) abD⟩) rfl rfl (fun r15 KL=>?_);simp only [ht] at KL;replace KL:=KL.trans xr2;subst KL))
 cbv
 refine gI (by simp [ht]) ?_
 refine pI (by simp [ht]) ?_
 refine ak trv trv rfl rfl rfl ?_
 (simp [ht,lQ];done)
end Dem
