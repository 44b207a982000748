/- Parts of a proof, joined. -/
import Derived.Test.YtihohjnkkalgiaaGreatDoorU15
import Derived.Test.YtihohjnkkalgiaaGreatDoorU16
import Derived.Test.YtihohjnkkalgiaaGreatDoorRows
set_option linter.all false
set_option maxRecDepth 100000
set_option maxHeartbeats 4000000
open Go Go.Proofs Go.ChangeShapes Go.WideShapes Go.RowKit
open Go.Proofs.YtihohjnkkalgiaaGreatDoor
namespace Dem
theorem Sp:Tryz.f13.params.toList=[5,63]:=by kernel_rfl
theorem xW (os:Os) (started:os.Started) (H:Type) (enc:TypeId×Value→H):
 ReturnsInHanded {} Tryz.checked os 13 .any (fun w args=>(Rows.roundCountsSpec.pre enc Tryz.checked.prog Tryz.f13 [] false w args∧laidMetH Tryz.prog qZ w)∧sizedMet enc Tryz.checked.prog Tryz.f13 (OpenSpec.ofChange Rows.roundCountsSpec) false w args)
  (Rows.roundCountsSpec.post enc Tryz.checked.prog Tryz.f13 false true false false):=by
 refine Ds started Tryz.func13 (by kernel_rfl) rfl (by kernel_rfl) (by kernel_rfl) ?_
  (ChangeSpec.witness_shaped (enc:=enc) (C:=Tryz.checked) (os:=os) (X:=fun w _=>laidMetH Tryz.prog qZ w) false (Qr os) #[.int .u8 0,.slice none 0 0] 8 rfl (World.shaped_of_RefB (by kernel_rfl) (by kernel_rfl)) (by kernel_rfl) (by kernel_rfl) (by kernel_rfl) (Ho os _)) ?_
 ·intro ds hd
  rw [Sp] at hd
  match ds,hd with
  |[_d0,_d1],_=>exact ⟨rfl,rfl,rfl⟩
 intro W args ds p hL hA hval
 rw [Sp] at hA
 obtain ⟨v0,C2,d0,ds0,p0,q0,e0,f0,t0,hA⟩:=trodAll_cons hA
 obtain ⟨v1,vs1,d1,ds1,p1,q1,e1,f1,t1,hA⟩:=trodAll_cons hA
 obtain ⟨en,fn⟩:=trodAll_nil hA
 have ea:args=⟨[v0,v1]⟩:=by cases args;simp_all
 subst ea
 obtain ⟨b0,Tx⟩:=hval 0 5 v0 (by kernel_rfl) rfl
 obtain ⟨k0,r0,hk0⟩:=BC Tx t0
 obtain ⟨b1,Y9⟩:=hval 1 63 v1 (by kernel_rfl) rfl
 obtain ⟨l1,r1,hu1,Cx⟩:=yT Y9 t1
 exact A9 hL (fun _ _=>rfl) (by simp only [ak];exact ⟨v0,_,rfl,r0,v1,_,rfl,r1,rfl⟩) (CS (fun _ _=>rfl) (zn (fun _ _=>rfl)) k0 hk0 rfl rfl hu1 (by have:maxLen<9223372036854775808:=(by decide);omega))
theorem CT:Rows.RoundCountsSaid:=
 OpenClaim.holds_of_wide 13 Tryz.f13 rfl rfl rfl rfl rfl rfl rfl ⟨rfl,rfl,rfl,rfl,rfl⟩ rfl rfl rfl rfl rfl (by kernel_rfl) Tryz.func13 ab9
  (of_decide_eq_true (by kernel_rfl)) (by unfold Func.isWrapper;first|(rw [if_pos (by decide+kernel)];kernel_rfl)|(rw [if_neg (by decide+kernel)];exact ⟨rfl,rfl⟩))
  (fun os started H enc _=>xW os started H enc)
end Dem
