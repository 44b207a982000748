/- Parts of a proof, joined. -/
import Derived.Test.YtihohjnkkalgiaaGreatDoorS27
import Derived.Test.YtihohjnkkalgiaaGreatDoorS28
import Derived.Test.YtihohjnkkalgiaaGreatDoorRows
set_option linter.all false
set_option maxRecDepth 100000
set_option maxHeartbeats 4000000
open Go Go.Proofs Go.ChangeShapes Go.WideShapes Go.RowKit
open Go.Proofs.YtihohjnkkalgiaaGreatDoor
namespace Dem
theorem We:Tryz.f8.params.toList=[5,63]:=by kernel_rfl
theorem xg (os:Os) (started:os.Started) (H:Type) (enc:TypeId×Value→H):
 ReturnsInHanded {} Tryz.checked os 8 .any (fun w args=>(Rows.roundYieldsSpec.pre enc Tryz.checked.prog Tryz.f8 [] false w args∧laidMetH Tryz.prog qw w)∧sizedMet enc Tryz.checked.prog Tryz.f8 (OpenSpec.ofChange Rows.roundYieldsSpec) false w args)
  (Rows.roundYieldsSpec.post enc Tryz.checked.prog Tryz.f8 false true false false):=by
 refine CU started Tryz.func8 (by kernel_rfl) rfl (by kernel_rfl) (by kernel_rfl) ?_
  (ChangeSpec.witness_shaped (enc:=enc) (C:=Tryz.checked) (os:=os) (X:=fun w _=>laidMetH Tryz.prog qw w) false (Py os) #[.int .u8 0,.slice none 0 0] 8 rfl (World.shaped_of_RefB (by kernel_rfl) (by kernel_rfl)) (by kernel_rfl) (by kernel_rfl) (by kernel_rfl) (GR os _)) ?_
 ·intro ds hd
  rw [We] at hd
  match ds,hd with
  |[_d0,_d1],_=>exact ⟨rfl,rfl,rfl⟩
 intro W args ds p hL hA hval
 rw [We] at hA
 obtain ⟨v0,Cw,d0,ds0,p0,q0,e0,f0,t0,hA⟩:=trodAll_cons hA
 obtain ⟨v1,vs1,d1,ds1,p1,q1,e1,f1,t1,hA⟩:=trodAll_cons hA
 obtain ⟨en,fn⟩:=trodAll_nil hA
 have ea:args=⟨[v0,v1]⟩:=by cases args;simp_all
 subst ea
 obtain ⟨b0,Sw⟩:=hval 0 5 v0 (by kernel_rfl) rfl
 obtain ⟨k0,r0,hk0⟩:=Hi Sw t0
 obtain ⟨b1,XP⟩:=hval 1 63 v1 (by kernel_rfl) rfl
 obtain ⟨l1,r1,hu1,BU⟩:=yf XP t1
 exact Ay hL (fun _ _=>rfl) (by simp only [an];exact ⟨v0,_,rfl,r0,v1,_,rfl,r1,rfl⟩) (Cm (fun _ _=>rfl) (yF (fun _ _=>rfl)) k0 hk0 rfl rfl hu1 (by have:maxLen<9223372036854775808:=(by decide);omega))
theorem Cn:Rows.RoundYieldsSaid:=
 OpenClaim.holds_of_wide 8 Tryz.f8 rfl rfl rfl rfl rfl rfl rfl ⟨rfl,rfl,rfl,rfl,rfl⟩ rfl rfl rfl rfl rfl (by kernel_rfl) Tryz.func8 jf8
  (of_decide_eq_true (by kernel_rfl)) (by unfold Func.isWrapper;first|(rw [if_pos (by decide+kernel)];kernel_rfl)|(rw [if_neg (by decide+kernel)];exact ⟨rfl,rfl⟩))
  (fun os started H enc _=>xg os started H enc)
end Dem
