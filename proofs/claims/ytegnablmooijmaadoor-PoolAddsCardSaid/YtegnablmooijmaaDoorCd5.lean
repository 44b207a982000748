/- JOINED TEXTS: Cd5. -/
import Derived.Test.YtegnablmooijmaaDoorCd5x0
import Derived.Test.YtegnablmooijmaaDoorCards
import Derived.Test.YtegnablmooijmaaDoorTie
import Derived.SevenTiedAt
set_option linter.unusedSimpArgs false
set_option linter.unusedVariables false
/- THE CARD: adds. -/
open Go Go.Proofs
open Go.Proofs.YtegnablmooijmaaDoor
namespace Dem
set_option maxRecDepth 100000
theorem pool_adds_card : Rows.PoolAddsCardSaid :=
  Claim7.holds_tied_plain_at .later [] [.widerDeep, .widerDeep] true (true, "85a87a0f1146e0bb7d7922f98a59904bf75023565114f0913753c0dc55d6d80f") false
    adds_row (fun _ h => by cases h) (by kernel_rfl) (fun _ h => by cases h) poolAdds_row_tie rfl ⟨rfl, rfl⟩ (by kernel_rfl) rfl
    (fun f fn hf hfn => by
      obtain rfl : f = 5 := Option.some.inj ((show Tryd.prog.funcNamed "demesne/demesnelaw12.PoolAdds" = some 5 by kernel_rfl).symm.trans hf) |>.symm
      obtain rfl : fn = Tryd.f5 := (Option.some.inj (Tryd.func5.symm.trans hfn)).symm
      exact ⟨by kernel_rfl, fun j t ht => by
        have hm : t ∈ [22, 5] := by rw [← prm5]; simpa using Array.mem_of_getElem? ht
        have hall : ([22, 5].all fun u => !Tryd.prog.wantsStandIn u) = true := by kernel_rfl
        exact (show Tryd.prog.wantsStandIn t = false by simpa using List.all_eq_true.1 hall t hm)⟩)
    (by kernel_rfl)
end Dem
namespace Go.Proofs.YtegnablmooijmaaDoor
theorem pool_adds_proved : Rows.PoolAddsCardSaid := Dem.pool_adds_card
end Go.Proofs.YtegnablmooijmaaDoor
