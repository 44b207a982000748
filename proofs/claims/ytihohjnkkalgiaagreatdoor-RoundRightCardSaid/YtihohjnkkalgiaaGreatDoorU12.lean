/- Parts of a proof, joined. -/
import Derived.Test.YtihohjnkkalgiaaGreatDoorRows
import Derived.JoinedOf
import Derived.KernelRfl
set_option linter.all false
set_option maxRecDepth 100000
set_option maxHeartbeats 4000000
open Go Go.Proofs
open Go.Proofs.YtihohjnkkalgiaaGreatDoor
namespace Dem
theorem ab7:joinedFacts Tryz.pinned.checked.prog 12 Tryz.f12 Rows.roundRightSpec Rows.roundRightRow=true:=by
 unfold joinedFacts
 simp only [Bool.and_eq_true]
 and_intros
 all_goals (as_aux_lemma=>kernel_rfl)
end Dem
