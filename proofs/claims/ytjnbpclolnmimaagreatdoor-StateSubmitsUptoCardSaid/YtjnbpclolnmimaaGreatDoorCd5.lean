/- PROVED: the given card of StateSubmits (Rows.StateSubmitsUptoCardSaid, the second form) holds. Conditions: none beside those that the statement itself names. -/
import Derived.Test.YtjnbpclolnmimaaGreatDoorK30
import Derived.Test.YtjnbpclolnmimaaGreatDoorCards
import Derived.Test.YtjnbpclolnmimaaGreatDoorTie
import Derived.SevenTiedAt
set_option linter.all false
set_option maxRecDepth 100000
set_option maxHeartbeats 4000000
open Go Go.Proofs
open Go.Proofs.YtjnbpclolnmimaaGreatDoor
namespace Dem
theorem uw:Rows.StateSubmitsUptoCardSaid:=
 Claim7.holds_tied_plain_at .later [] _ _ _ _
  IN (fun _ h=>by cases h) (by kernel_rfl) (fun _ h=>by cases h) stateSubmitsUpto_row_tie rfl ⟨rfl,rfl⟩ (by kernel_rfl) rfl
  (fun f fn hf hfn=>by
   obtain rfl:f=5:=Option.some.inj ((show Tryz.prog.funcNamed "demesne/demesnelaw15.StateSubmits"=some 5 by kernel_rfl).symm.trans hf)|>.symm
   obtain rfl:fn=Tryz.f5:=(Option.some.inj (Tryz.func5.symm.trans hfn)).symm
   exact ⟨by kernel_rfl,fun j t ht=>by
    have hm:t∈[5,33,53]:=by rw [←WZ];simpa using Array.mem_of_getElem? ht
    have hall:([5,33,53].all fun u=>!Tryz.prog.wantsStandIn u)=true:=by kernel_rfl
    exact (show Tryz.prog.wantsStandIn t=false by simpa using List.all_eq_true.1 hall t hm)⟩)
  (by kernel_rfl)
end Dem
namespace Go.Proofs.YtjnbpclolnmimaaGreatDoor
theorem state_submits_proved:Rows.StateSubmitsUptoCardSaid:=Dem.uw
end Go.Proofs.YtjnbpclolnmimaaGreatDoor
