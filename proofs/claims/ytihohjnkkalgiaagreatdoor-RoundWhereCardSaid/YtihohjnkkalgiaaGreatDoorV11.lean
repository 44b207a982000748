/- Parts of a proof, joined. -/
import Derived.Test.YtihohjnkkalgiaaGreatDoorRows
import Derived.JoinedOf
import Derived.KernelRfl
set_option linter.all false
set_option maxRecDepth 100000
set_option maxHeartbeats 4000000
open Go Go.Proofs
open Go.Proofs.YtihohjnkkalgiaaGreatDoor
namespace Dem
theorem aa4:joinedFacts Tryz.pinned.checked.prog 10 Tryz.f10 Rows.roundWhereSpec Rows.roundWhereRow=true:=by
 unfold joinedFacts
 simp only [Bool.and_eq_true]
 and_intros
 all_goals (as_aux_lemma=>kernel_rfl)
end Dem
