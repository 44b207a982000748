/- Parts of a proof, joined. -/
import Derived.Test.YtihohjnkkalgiaaGreatDoorV10
import Derived.Test.YtihohjnkkalgiaaGreatDoorV11
import Derived.Test.YtihohjnkkalgiaaGreatDoorRows
set_option linter.all false
set_option maxRecDepth 100000
set_option maxHeartbeats 4000000
open Go Go.Proofs Go.ChangeShapes Go.WideShapes Go.RowKit
open Go.Proofs.YtihohjnkkalgiaaGreatDoor
namespace Dem
theorem RE:Tryz.f10.params.toList=[5,63,5]:=by kernel_rfl
theorem yX (os:Os) (started:os.Started) (H:Type) (enc:TypeId×Value→H):
 ReturnsInHanded {} Tryz.checked os 10 .any (fun w args=>(Rows.roundWhereSpec.pre enc Tryz.checked.prog Tryz.f10 [] false w args∧laidMetH Tryz.prog vo w)∧sizedMet enc Tryz.checked.prog Tryz.f10 (OpenSpec.ofChange Rows.roundWhereSpec) false w args)
  (Rows.roundWhereSpec.post enc Tryz.checked.prog Tryz.f10 false true false false):=by
 refine MJ started Tryz.func10 (by kernel_rfl) rfl (by kernel_rfl) (by kernel_rfl) ?_
  (ChangeSpec.witness_shaped (enc:=enc) (C:=Tryz.checked) (os:=os) (X:=fun w _=>laidMetH Tryz.prog vo w) false (UD os) #[.int .u8 0,.slice none 0 0,.int .u8 0] 8 rfl (World.shaped_of_RefB (by kernel_rfl) (by kernel_rfl)) (by kernel_rfl) (by kernel_rfl) (by kernel_rfl) (PN os _)) ?_
 ·intro ds hd
  rw [RE] at hd
  match ds,hd with
  |[_d0,_d1,_d2],_=>exact ⟨rfl,rfl,rfl⟩
 intro W args ds p hL hA hval
 rw [RE] at hA
 obtain ⟨v0,DS,d0,ds0,p0,q0,e0,f0,t0,hA⟩:=trodAll_cons hA
 obtain ⟨v1,vs1,d1,ds1,p1,q1,e1,f1,t1,hA⟩:=trodAll_cons hA
 obtain ⟨v2,vs2,d2,ds2,p2,q2,e2,f2,t2,hA⟩:=trodAll_cons hA
 obtain ⟨en,fn⟩:=trodAll_nil hA
 have ea:args=⟨[v0,v1,v2]⟩:=by cases args;simp_all
 subst ea
 obtain ⟨b0,Vw⟩:=hval 0 5 v0 (by kernel_rfl) rfl
 obtain ⟨k0,r0,hk0⟩:=Hj Vw t0
 obtain ⟨b1,hv1⟩:=hval 1 63 v1 (by kernel_rfl) rfl
 obtain ⟨l1,r1,hu1,Ac⟩:=Hl hv1 t1
 obtain ⟨b2,WY⟩:=hval 2 5 v2 (by kernel_rfl) rfl
 obtain ⟨k2,r2,hk2⟩:=Hj WY t2
 exact Jq hL (fun _ _=>rfl) (by simp only [ak];exact ⟨v0,_,rfl,r0,v1,_,rfl,r1,v2,_,rfl,r2,rfl⟩) (Fc (fun _ _=>rfl) (Iv (fun _ _=>rfl)) k0 hk0 rfl rfl hu1 (by have:maxLen<9223372036854775808:=(by decide);omega) k2 hk2 rfl)
theorem Fe:Rows.RoundWhereSaid:=
 OpenClaim.holds_of_wide 10 Tryz.f10 rfl rfl rfl rfl rfl rfl rfl ⟨rfl,rfl,rfl,rfl,rfl⟩ rfl rfl rfl rfl rfl (by kernel_rfl) Tryz.func10 aa4
  (of_decide_eq_true (by kernel_rfl)) (by unfold Func.isWrapper;first|(rw [if_pos (by decide+kernel)];kernel_rfl)|(rw [if_neg (by decide+kernel)];exact ⟨rfl,rfl⟩))
  (fun os started H enc _=>yX os started H enc)
end Dem
