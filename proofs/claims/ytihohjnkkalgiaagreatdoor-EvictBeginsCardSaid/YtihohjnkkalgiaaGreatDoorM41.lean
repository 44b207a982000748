/- Parts of a proof, joined. -/
import Derived.Test.YtihohjnkkalgiaaGreatDoorM40
set_option linter.all false
set_option maxRecDepth 100000
set_option maxHeartbeats 4000000
open Go Dem Go.Proofs
namespace Dem
variable {t:Th}
theorem xE {s:bE} (id:Int):(dH s id).1.length<1000000:=by
 unfold dH iI
 split
 ·simp
 split
 ·simp
 exact w8 _ _ _ _
theorem uv {s:bE} {id:Int}:∀(n k:Nat) (l:List Int) (nodes:List aH),nodes.length<1000000→(gi s id n k l nodes).1.length≤l.length∧(gi s id n k l nodes).2.length<1000000
 |0,_,_,_,h=>⟨Nat.le_refl _,h⟩
 |n+1,k,l,nodes,h=>by
  rw [gi]
  split
  ·split
   ·have:=uv (s:=s) (id:=id) n k (l.eraseIdx k) (fM s id (l.eraseIdx k)).1 (xE id)
    have h2:(l.eraseIdx k).length≤l.length:=by rw [List.length_eraseIdx];split<;>omega
    exact ⟨by omega,this.2⟩
   exact uv n (k+1) l nodes h
  exact ⟨Nat.le_refl _,h⟩
theorem B7 {s:bE} {id:Int} {all:List Int}:∀(n k:Nat) (l:List Int) (nodes:List aH),kV s id all n k=some (l,nodes)→l.length≤all.length∧nodes.length<1000000
 |0,_,_,_,h=>by cases h
 |n+1,k,l,nodes,h=>by
  rw [kV] at h
  split at h
  ·cases h;exact ⟨by simp;omega,xE id⟩
  exact B7 n (k+1) l nodes h
theorem Fa {s:bE} (h:s.good) (id:Int):(aP s id).1.length<1000000∧(aP s id).2.1.length<1000000:=by
 have ha:=pR h id
 unfold aP
 split
 ·simp
 rename_i l nodes e
 have h1:=B7 _ _ _ _ e
 have h2:=uv (s:=s) (id:=id) (l.length+1) 0 l nodes h1.2
 exact ⟨by have:=h2.1;simp only;omega,h2.2⟩
theorem IF (ht:TT t) (s:bE) (h:s.good) (id:Int) (names:List aH) (hn:names.length<1000000):FC 35 [dM t s,aA id,SL (t _ fun _=>names.map bu)] [] (.ret (ng t (t _ fun _=>cM s id names))) []:=
 vR ht _ _ _ _ (by simp only [ht]) (by simp only [ht]) (by simp only [ht]) (by simp only [ht]) (by simp only [ht]) (by simp only [ht]) (by simp only [ht]) id (by simp only [ht]) (ur h.sm) h.sm.tree.1 h.sm.ay.1 h.sm.nodes.1 h.sm.places h.sm.queue h.sm.notes.1 hn
theorem DN {s:bE} (h:s.good) (id:Int) (names:List aH):(cM s id names).1.ok∧(cM s id names).1.eH yE:=⟨h.ok.wN _ _,(rD h.ok _ _).eH h.eH⟩
theorem IG (ht:TT t) (s:bE) (h:s.sm):FC 36 [dM t s] [] (.ret (bX (t _ fun _=>fF s))) []:=
 KO ht _ _ _ _ (by simp only [ht]) (by simp only [ht]) (by simp only [ht]) (by simp only [ht]) (by simp only [ht]) (by simp only [ht]) (by simp only [ht]) h
theorem Cy (ht:TT t) (hx0:FC 14 [] [] (.ret (BL true)) []) (N:Nat) (hN:N<256) {a:Int} (ea:a=N) {l:List gR} {dl:List (List D)} (IP:dl=l.map gR.cells) (Se:∀x∈l,x.u) (Vd:l.length<9223372036854775808) (k:Nat) (hk2:k<256) {kk:Int} (hk:kk=k):
 FC 11 [U8 a,SL dl,U8 kk] [] (.ret (BL true)) []:=by
 obtain ⟨S,hS⟩:∃S,S=ee N l (min l.length 40):=⟨_,rfl⟩
 have gS:S.good:=by rw [hS];exact iN _ _ _
 have hL:FC 15 [U8 a,SL dl] [] (.ret (dM t (t _ fun _=>S))) []:=by rw [hS];exact sH ht N hN ea IP Se Vd
 obtain ⟨I,hI⟩:∃I,I=gL S k:=⟨_,rfl⟩
 have hW:FC 16 [dM t S,U8 kk] [] (.ret (vt (t _ fun _=>I))) []:=by rw [hI];exact pS ht S gS k hk hk2
 obtain ⟨z1,z2,z3⟩:=E8 gS.ok (id:=I) (by rw [hI];exact uu gS.ok k)
 obtain ⟨f,hf⟩:∃f,f=dH S I:=⟨_,rfl⟩
 have cf:FC 20 [dM t S,aA I] [] (.ret (ou t (t _ fun _=>f))) []:=by rw [hf];exact gV ht S gS I
 have fl:f.1.length<1000000:=by rw [hf];exact xE I
 obtain ⟨v,hv⟩:∃v,v=aP S I:=⟨_,rfl⟩
 have cv:FC 19 [dM t S,aA I] [] (.ret (zb t (t _ fun _=>v))) []:=by rw [hv];exact mD ht S gS I
 have vl:v.1.length<1000000∧v.2.1.length<1000000:=by rw [hv];exact Fa gS I
 rw [←hf] at z1 z2
 rw [←hv] at z2 z3
 obtain ⟨B,hB⟩:∃B,B=cM S I f.1:=⟨_,rfl⟩
 have cb:FC 35 [dM t S,aA I,SL (t _ fun _=>f.1.map bu)] [] (.ret (ng t (t _ fun _=>B))) []:=by rw [hB];exact IF ht S gS I f.1 fl
 have WT:FC 36 [dM t B.1] [] (.ret (bX (t _ fun _=>fF B.1))) []:=by have:=DN gS I f.1;rw [hB];exact IG ht _ (this.1.small this.2)
 obtain ⟨W,Us⟩:∃W,W=aW S v.1:=⟨_,rfl⟩
 have gW:W.good:=by rw [Us];exact lG gS _
 have cw:FC 21 [dM t S,SL (t _ fun _=>v.1.map Int.cells)] [] (.ret (dM t (t _ fun _=>W))) []:=by rw [Us];exact B6 ht S gS _ vl.1
 obtain ⟨C,hC⟩:∃C,C=cM W I v.2.1:=⟨_,rfl⟩
 have cc:FC 35 [dM t W,aA I,SL (t _ fun _=>v.2.1.map bu)] [] (.ret (ng t (t _ fun _=>C))) []:=by rw [hC];exact IF ht W gW I v.2.1 vl.2
 have ZO:=DN gW I v.2.1
 rw [←hC] at ZO
 have WU:FC 36 [dM t C.1] [] (.ret (bX (t _ fun _=>fF C.1))) []:=IG ht _ (ZO.1.small ZO.2)
 have ccj:C.1.ay.length<1000000000:=by have:=ZO.1.most;omega
 obtain ⟨J,hJ⟩:∃J,J=bG C.1.ay I:=⟨_,rfl⟩
 have cj:FC 17 [dM t C.1,aA I] [] (.ret (Bp t (t _ fun _=>J))) []:=by rw [hJ];exact ij ht I _ _ _ _ _ _ _ _ _ _ (by simp only [ht]) ccj
 rw [←hB] at z1
 rw [←Us,←hC,←hJ] at z3
 generalize fF B.1=bR at z1 WT
 generalize fF C.1=cR at z3 WU
 clear hS hI hf hv hB Us hC hJ
 refine bH ht (aF:=[]) Tryz.func11 rfl rfl (N:=96) rfl rfl (n:=0) rfl rfl ?_
 cbv
 have cC:dl.length=l.length:=by rw [IP,lgM]
 refine fU trv hx0 trv rfl rfl ?_
 cbv
 refine an (fun h0=>?_) (fun h0=>?_)
 ·simp [ht] at h0
 simp [ht] at h0
 cbv
 refine aE trv hL (by simp) rfl rfl rfl (fun r1 dL=>?_);simp only [ht] at dL;subst r1
 cbv
 refine aM trv hW (by simp) rfl rfl (fun r2 fQ=>?_);simp only [ht] at fQ;subst r2
 cbv
 refine aE trv cf (by simp) rfl rfl rfl (fun q1 MB=>?_);simp only [ht] at MB;subst q1
 cbv
 refine aE trv cv (by simp) rfl rfl rfl (fun q2 Sf=>?_);simp only [ht] at Sf;subst q2
 cbv
 refine an (fun h1=>?_) (fun h1=>?_)
 ·cbv
  refine aE trv cb (by simp) rfl rfl rfl (fun q3 Ld=>?_);simp only [ht] at Ld;subst q3
  cbv
  refine gI (by simp [ht]) ?_
  refine bJ (fun g9=>⟨(by trivial),by simp,WT⟩) rfl rfl (fun q5 yT=>?_);simp only [ht] at yT;subst q5
  cbv
  refine gI (by simp [ht]) ?_
  refine pI (by simp [ht]) ?_
  refine an (fun h2=>?_) (fun h2=>?_)
  ·simp [ht] at h2
   cbv
   refine av trv trv rfl rfl rfl ?_
   (simp_all [dM,ng,ou,bX,vt,zb,Bp,U4];done)
  simp [ht] at h2
  cbv
  refine an (fun h3=>?_) (fun h3=>?_)
  ·simp [ht] at h3
   cbv
   iterate 2 refine gI (by simp) ?_
   refine pI (by simp) ?_
   refine av trv trv rfl rfl rfl ?_
   simp [*];done
  simp [ht] at h3
  cbv
  refine aE trv cw (by simp) rfl rfl rfl (fun q7 Xs=>?_);simp only [ht] at Xs;subst q7
  cbv
  refine aE trv cc (by simp) rfl rfl rfl (fun q4 DM=>?_);simp only [ht] at DM;subst q4
  cbv
  refine aE trv cj (by simp) rfl rfl rfl (fun q8 WS=>?_);simp only [ht] at WS;subst q8
  cbv
  iterate 2 refine gI (by simp) ?_
  refine pI (by simp) ?_
  refine gI (by simp [ht]) ?_
  refine bJ (fun g9=>⟨(by trivial),by simp,WU⟩) rfl rfl (fun q6 IE=>?_);simp only [ht] at IE;subst q6
  cbv
  iterate 6 first|refine gI (by simp [ht]) ?_|refine pI (by simp [ht]) ?_
  refine av trv trv rfl rfl rfl ?_
  simp [*];done
 cbv
 refine an (fun h4=>?_) (fun h4=>?_)
 ·simp [ht] at h4
  cbv
  iterate 2 refine gI (by simp) ?_
  refine pI (by simp) ?_
  refine av trv trv rfl rfl rfl ?_
  simp [*];done
 simp [ht] at h4
 cbv
 refine aE trv cw (by simp) rfl rfl rfl (fun q7 Xs=>?_);simp only [ht] at Xs;subst q7
 cbv
 refine aE trv cc (by simp) rfl rfl rfl (fun q4 DM=>?_);simp only [ht] at DM;subst q4
 cbv
 refine aE trv cj (by simp) rfl rfl rfl (fun q8 WS=>?_);simp only [ht] at WS;subst q8
 cbv
 iterate 2 refine gI (by simp) ?_
 refine pI (by simp) ?_
 refine gI (by simp [ht]) ?_
 refine bJ (fun g9=>⟨(by trivial),by simp,WU⟩) rfl rfl (fun q6 IE=>?_);simp only [ht] at IE;subst q6
 cbv
 iterate 6 first|refine gI (by simp [ht]) ?_|refine pI (by simp [ht]) ?_
 refine av trv trv rfl rfl rfl ?_
 simp [*];done
end Dem
