/- Parts of a proof, joined. -/
import Derived.Test.YtihohjnkkalgiaaGreatDoorRows
import Derived.JoinedOf
import Derived.KernelRfl
set_option linter.all false
set_option maxRecDepth 100000
set_option maxHeartbeats 4000000
open Go Go.Proofs
open Go.Proofs.YtihohjnkkalgiaaGreatDoor
namespace Dem
theorem jf9:joinedFacts Tryz.pinned.checked.prog 9 Tryz.f9 Rows.roundLiveSpec Rows.roundLiveRow=true:=by
 unfold joinedFacts
 simp only [Bool.and_eq_true]
 and_intros
 all_goals (as_aux_lemma=>kernel_rfl)
end Dem
