/- Parts of a proof, joined. -/
import Derived.Test.YtmlnckcbblcbbaaGreatDoorRows
import Derived.JoinedOf
import Derived.KernelRfl
set_option linter.all false
set_option maxRecDepth 100000
set_option maxHeartbeats 4000000
open Go Go.Proofs
open Go.Proofs.YtmlnckcbblcbbaaGreatDoor
namespace Dem
theorem jf3:joinedFacts Tryz.pinned.checked.prog 3 Tryz.f3 Rows.stateFormSpec Rows.stateFormRow=true:=by unfold joinedFacts;simp only[Bool.and_eq_true];and_intros;all_goals (as_aux_lemma=>kernel_rfl)
end Dem
