/- Parts of a proof, joined. -/
import Derived.Test.YtihohjnkkalgiaaGreatDoorP27
import Derived.Test.YtihohjnkkalgiaaGreatDoorP28
import Derived.Test.YtihohjnkkalgiaaGreatDoorRows
set_option linter.all false
set_option maxRecDepth 100000
set_option maxHeartbeats 4000000
open Go Go.Proofs Go.ChangeShapes Go.WideShapes Go.RowKit
open Go.Proofs.YtihohjnkkalgiaaGreatDoor
namespace Dem
theorem Tc:Tryz.f4.params.toList=[5,22,5,5]:=by kernel_rfl
theorem zO (os:Os) (started:os.Started) (H:Type) (enc:TypeId×Value→H):
 ReturnsInHanded {} Tryz.checked os 4 .any (fun w args=>(Rows.evictNeedsSpec.pre enc Tryz.checked.prog Tryz.f4 [] false w args∧laidMetH Tryz.prog tC w)∧sizedMet enc Tryz.checked.prog Tryz.f4 (OpenSpec.ofChange Rows.evictNeedsSpec) false w args)
  (Rows.evictNeedsSpec.post enc Tryz.checked.prog Tryz.f4 false true false false):=by
 refine JG started Tryz.func4 (by kernel_rfl) rfl (by kernel_rfl) (by kernel_rfl) ?_
  (ChangeSpec.witness_shaped (enc:=enc) (C:=Tryz.checked) (os:=os) (X:=fun w _=>laidMetH Tryz.prog tC w) false (Q4 os) #[.int .u8 0,.slice none 0 0,.int .u8 0,.int .u8 0] 8 rfl (World.shaped_of_RefB (by kernel_rfl) (by kernel_rfl)) (by kernel_rfl) (by kernel_rfl) (by kernel_rfl) (MG os _)) ?_
 ·intro ds hd
  rw [Tc] at hd
  match ds,hd with
  |[_d0,_d1,_d2,_d3],_=>exact ⟨rfl,rfl,rfl⟩
 intro W args ds p hL hA hval
 rw [Tc] at hA
 obtain ⟨v0,BI,d0,ds0,p0,q0,e0,f0,t0,hA⟩:=trodAll_cons hA
 obtain ⟨v1,vs1,d1,ds1,p1,q1,e1,f1,t1,hA⟩:=trodAll_cons hA
 obtain ⟨v2,vs2,d2,YR,p2,q2,e2,f2,t2,hA⟩:=trodAll_cons hA
 obtain ⟨v3,vs3,d3,ds3,p3,q3,e3,f3,t3,hA⟩:=trodAll_cons hA
 obtain ⟨en,fn⟩:=trodAll_nil hA
 have ea:args=⟨[v0,v1,v2,v3]⟩:=by cases args;simp_all
 subst ea
 obtain ⟨b0,RS⟩:=hval 0 5 v0 (by kernel_rfl) rfl
 obtain ⟨k0,r0,hk0⟩:=yR RS t0
 obtain ⟨b1,WL⟩:=hval 1 22 v1 (by kernel_rfl) rfl
 obtain ⟨l1,r1,hu1,DE⟩:=JW WL t1
 obtain ⟨b2,Tz⟩:=hval 2 5 v2 (by kernel_rfl) rfl
 obtain ⟨k2,r2,hk2⟩:=yR Tz t2
 obtain ⟨b3,SD⟩:=hval 3 5 v3 (by kernel_rfl) rfl
 obtain ⟨k3,r3,Tg⟩:=yR SD t3
 exact GB hL (fun _ _=>rfl) (by simp only [ak];exact ⟨v0,_,rfl,r0,v1,_,rfl,r1,v2,_,rfl,r2,v3,_,rfl,r3,rfl⟩) (CV (fun _ _=>rfl) (HQ (fun _ _=>rfl)) k0 hk0 rfl rfl hu1 (by have:maxLen<9223372036854775808:=(by decide);omega) k2 hk2 rfl k3 Tg rfl)
theorem FG:Rows.EvictNeedsSaid:=
 OpenClaim.holds_of_wide 4 Tryz.f4 rfl rfl rfl rfl rfl rfl rfl ⟨rfl,rfl,rfl,rfl,rfl⟩ rfl rfl rfl rfl rfl (by kernel_rfl) Tryz.func4 Z9
  (of_decide_eq_true (by kernel_rfl)) (by unfold Func.isWrapper;first|(rw [if_pos (by decide+kernel)];kernel_rfl)|(rw [if_neg (by decide+kernel)];exact ⟨rfl,rfl⟩))
  (fun os started H enc _=>zO os started H enc)
end Dem
