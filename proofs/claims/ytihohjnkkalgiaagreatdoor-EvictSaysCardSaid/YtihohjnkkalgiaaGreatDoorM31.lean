/- Parts of a proof, joined. -/
import Derived.Test.YtihohjnkkalgiaaGreatDoorM26
set_option linter.all false
set_option maxRecDepth 100000
set_option maxHeartbeats 4000000
open Go Dem Go.Proofs
namespace Dem
variable {t:Th}
theorem IJ (ht:TT t) (hx0:FC 14 [] [] (.ret (BL true)) []) (N:Nat) (hN:N<256) {a:Int} (ea:a=N) {l:List gR} {dl:List (List D)} (IP:dl=l.map gR.cells) (Se:∀x∈l,x.u) (Vd:l.length<9223372036854775808) (k:Nat) (hk2:k<256) {kk:Int} (hk:kk=k):
 FC 5 [U8 a,SL dl,U8 kk] [] (.ret (BL true)) []:=by
 obtain ⟨S,hS⟩:∃S,S=ee N l (min l.length 40):=⟨_,rfl⟩
 have gS:S.good:=by rw [hS];exact iN _ _ _
 have hL:FC 15 [U8 a,SL dl] [] (.ret (dM t (t _ fun _=>S))) []:=by rw [hS];exact sH ht N hN ea IP Se Vd
 obtain ⟨I,hI⟩:∃I,I=gL S k:=⟨_,rfl⟩
 have hW:FC 16 [dM t S,U8 kk] [] (.ret (vt (t _ fun _=>I))) []:=by rw [hI];exact pS ht S gS k hk hk2
 obtain ⟨z1,z2,z3⟩:=BW gS.ok (id:=I) (by rw [hI];exact uu gS.ok k)
 unfold fM at z1
 obtain ⟨A,hA⟩:∃A,A=bM S I:=⟨_,rfl⟩
 have cl:FC 18 [dM t S,aA I] [] (.ret (rM t (t _ fun _=>A))) []:=by rw [hA];exact rN ht S gS I
 have hal:A.length<1000:=by rw [hA];exact pR gS I
 rw [←hA] at z1
 obtain ⟨W,Us⟩:∃W,W=aW S A:=⟨_,rfl⟩
 have gW:W.good:=by rw [Us];exact lG gS _
 have cw:FC 21 [dM t S,SL (t _ fun _=>A.map Int.cells)] [] (.ret (dM t (t _ fun _=>W))) []:=by rw [Us];exact B6 ht S gS _ (by omega)
 rw [←Us] at z1
 clear hS hI Us hA
 refine bH ht (aF:=[]) Tryz.func5 rfl rfl (N:=76) rfl rfl (n:=0) rfl rfl ?_
 cbv
 have cC:dl.length=l.length:=by rw [IP,lgM]
 (refine fU trv hx0 trv rfl rfl ?_)
 cbv
 refine an (fun h0=>?_) (fun h0=>?_)
 ·simp [ht,aa,cC] at h0
 simp [ht,aa,cC] at h0
 cbv
 (refine aE trv hL (by simp [ht]) rfl rfl rfl (fun r1 dL=>?_);simp only [ht] at dL;subst r1)
 cbv
 (refine aM trv hW (by simp [ht]) rfl rfl (fun r2 fQ=>?_);simp only [ht] at fQ;subst r2)
 cbv
 (first|(refine aE trv (mD ht S gS I) (by simp [ht]) rfl rfl rfl (fun q1 MB=>?_);simp only [ht] at MB;rw [←MB] at z1 z2 z3)|(refine dy (fun g9=>⟨(by first|trivial|exact ⟨g9,trv⟩|exact ⟨g9,g9,trv⟩|exact ⟨g9,g9,g9,trv⟩|exact ⟨g9,g9,g9,g9,trv⟩),by simp [ht],mD ht S gS I⟩) rfl rfl rfl (fun q1 MB=>?_);simp only [ht] at MB;rw [←MB] at z1 z2 z3))
 cbv
 refine cO [false,false,false,false,false,false,true,true,false,false,false,true] (by kernel_rfl) (by kernel_rfl) ?_
 cbv
 iterate 3 refine gI (by simp [ht,ah]) ?_
 refine .inl ?_
 (first|(refine aE trv (cl) (by simp [ht]) rfl rfl rfl (fun q2 Sf=>?_);simp only [ht] at Sf;subst q2)|(refine dy (fun g9=>⟨(by first|trivial|exact ⟨g9,trv⟩|exact ⟨g9,g9,trv⟩|exact ⟨g9,g9,g9,trv⟩|exact ⟨g9,g9,g9,g9,trv⟩),by simp [ht],cl⟩) rfl rfl rfl (fun q2 Sf=>?_);simp only [ht] at Sf;subst q2))
 cbv
 refine .inl ?_
 (first|(refine aE trv (cw) (by simp [ht]) rfl rfl rfl (fun q3 Ld=>?_);simp only [ht] at Ld;subst q3)|(refine dy (fun g9=>⟨(by first|trivial|exact ⟨g9,trv⟩|exact ⟨g9,g9,trv⟩|exact ⟨g9,g9,g9,trv⟩|exact ⟨g9,g9,g9,g9,trv⟩),by simp [ht],cw⟩) rfl rfl rfl (fun q3 Ld=>?_);simp only [ht] at Ld;subst q3))
 cbv
 refine gI (by simp [ht,ah]) ?_
 (first|(refine aE trv (gV ht W gW I) (by simp [ht]) rfl rfl rfl (fun q4 DM=>?_);simp only [ht] at DM;rw [←DM] at z1)|(refine aE trv (gV ht S gS I) (by simp [ht]) rfl rfl rfl (fun q5 yT=>?_);simp only [ht] at yT;rw [←yT] at z1 z2)|(refine dy (fun g9=>⟨(by first|trivial|exact ⟨g9,trv⟩|exact ⟨g9,g9,trv⟩|exact ⟨g9,g9,g9,trv⟩|exact ⟨g9,g9,g9,g9,trv⟩),by simp [ht],gV ht W gW I⟩) rfl rfl rfl (fun q4 DM=>?_);simp only [ht] at DM;rw [←DM] at z1)|(refine dy (fun g9=>⟨(by first|trivial|exact ⟨g9,trv⟩|exact ⟨g9,g9,trv⟩|exact ⟨g9,g9,g9,trv⟩|exact ⟨g9,g9,g9,g9,trv⟩),by simp [ht],gV ht S gS I⟩) rfl rfl rfl (fun q5 yT=>?_);simp only [ht] at yT;rw [←yT] at z1 z2))
 cbv
 iterate 3 refine gI (by simp [ht,ah]) ?_
 (first|(refine aE trv (gV ht W gW I) (by simp [ht]) rfl rfl rfl (fun q4 DM=>?_);simp only [ht] at DM;rw [←DM] at z1)|(refine aE trv (gV ht S gS I) (by simp [ht]) rfl rfl rfl (fun q5 yT=>?_);simp only [ht] at yT;rw [←yT] at z1 z2)|(refine dy (fun g9=>⟨(by first|trivial|exact ⟨g9,trv⟩|exact ⟨g9,g9,trv⟩|exact ⟨g9,g9,g9,trv⟩|exact ⟨g9,g9,g9,g9,trv⟩),by simp [ht],gV ht W gW I⟩) rfl rfl rfl (fun q4 DM=>?_);simp only [ht] at DM;rw [←DM] at z1)|(refine dy (fun g9=>⟨(by first|trivial|exact ⟨g9,trv⟩|exact ⟨g9,g9,trv⟩|exact ⟨g9,g9,g9,trv⟩|exact ⟨g9,g9,g9,g9,trv⟩),by simp [ht],gV ht S gS I⟩) rfl rfl rfl (fun q5 yT=>?_);simp only [ht] at yT;rw [←yT] at z1 z2))
 cbv
 iterate 6 refine gI (by simp [ht,ah]) ?_
 refine pI (by simp [ht,ah]) ?_
 iterate 6 refine gI (by simp [ht,ah]) ?_
 refine gI (by simp [ht,ah];intros;simp_all) ?_
 refine pI (by simp [ht,ah]) ?_
 iterate 5 refine gI (by simp [ht,ah]) ?_
 (refine bJ (fun g9=>⟨(by first|trivial|exact ⟨g9,trv⟩|exact ⟨g9,g9,trv⟩|exact ⟨g9,g9,g9,trv⟩|exact ⟨g9,g9,g9,g9,trv⟩),by simp [ht],vU ht S gS I⟩) rfl rfl (fun q6 IE=>?_);simp only [ht] at IE;rw [←IE] at z3)
 cbv
 refine gI (by simp [ht,ah];intros;simp_all) ?_
 refine pI (by simp [ht,ah]) ?_
 refine av trv trv rfl rfl rfl ?_
 (simp only [ht,aa,dM,ng,ou,bX,vt,zb,rM];grind)
end Dem
