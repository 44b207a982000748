/- PROVED: the given card of StateBegins (Rows.StateBeginsCardSaid) holds. Conditions: none beside those that the statement itself names. -/
import Derived.Test.YtjnbpclolnmimaaGreatDoorJ42
import Derived.Test.YtjnbpclolnmimaaGreatDoorCards
import Derived.Test.YtjnbpclolnmimaaGreatDoorTie
import Derived.SevenTiedAt
set_option linter.unusedSimpArgs false
set_option linter.unusedVariables false
set_option maxRecDepth 100000
set_option maxHeartbeats 4000000
open Go Go.Proofs
open Go.Proofs.YtjnbpclolnmimaaGreatDoor
namespace Dem
theorem wV:Rows.StateBeginsCardSaid:=
 Claim7.holds_tied_plain_at .later [] [.data,.widerDeep,.widerDeep,.pinned] true (true,"f738e1e1a85e8582ffc51b5c17e95746f95ffcc74267f5c724b5455d19c9e574") true
  L5 (fun _ h=>by cases h) (by kernel_rfl) (fun _ h=>by cases h) stateBegins_row_tie rfl ⟨rfl,rfl⟩ (by kernel_rfl) rfl
  (fun f fn hf hfn=>by
   obtain rfl:f=8:=Option.some.inj ((show Tryz.prog.funcNamed "demesne/demesnelaw15.StateBegins"=some 8 by kernel_rfl).symm.trans hf)|>.symm
   obtain rfl:fn=Tryz.f8:=(Option.some.inj (Tryz.func8.symm.trans hfn)).symm
   exact ⟨by kernel_rfl,fun j t ht=>by
    have hm:t∈[5,33,5,85]:=by rw [←Ya];simpa using Array.mem_of_getElem? ht
    have hall:([5,33,5,85].all fun u=>!Tryz.prog.wantsStandIn u)=true:=by kernel_rfl
    exact (show Tryz.prog.wantsStandIn t=false by simpa using List.all_eq_true.1 hall t hm)⟩)
  (by kernel_rfl)
end Dem
namespace Go.Proofs.YtjnbpclolnmimaaGreatDoor
theorem state_begins_proved:Rows.StateBeginsCardSaid:=Dem.wV
end Go.Proofs.YtjnbpclolnmimaaGreatDoor
