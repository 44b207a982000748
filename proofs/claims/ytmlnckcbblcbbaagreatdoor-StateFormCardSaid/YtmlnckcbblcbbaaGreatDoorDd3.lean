/- Parts of a proof, joined. -/
import Derived.Test.YtmlnckcbblcbbaaGreatDoorW13
import Derived.Test.YtmlnckcbblcbbaaGreatDoorCards
import Derived.Test.YtmlnckcbblcbbaaGreatDoorTie
import Derived.SevenTiedAt
set_option linter.all false
set_option maxRecDepth 100000
set_option maxHeartbeats 4000000
open Go Go.Proofs
open Go.Proofs.YtmlnckcbblcbbaaGreatDoor
namespace Dem
theorem Bz:Rows.StateFormCardSaid:=
 Claim7.holds_tied_plain_at .later [] [.data,.widerDeep,.widerDeep,.pinned] true (true,"7bd858c4b1198a0ac90278fe5393754be1bf15a1cbbe52a0e46380f46e7bb54c") true
  NS (λ_ h=>by cases h) (by as_aux_lemma=>kernel_rfl) (λ_ h=>by cases h) stateForm_row_tie rfl ⟨rfl,rfl⟩ (by as_aux_lemma=>kernel_rfl) rfl
  (λf fn hf hfn=>by
   obtain rfl:f=3:=Option.some.inj ((show Tryz.prog.funcNamed "demesne/demesnelaw15.StateForm"=some 3 by as_aux_lemma=>kernel_rfl).symm.trans hf)|>.symm;obtain rfl:fn=Tryz.f3:=(Option.some.inj (Tryz.func3.symm.trans hfn)).symm;exact⟨by as_aux_lemma=>kernel_rfl,λj t ht=>by
    have hm:t∈[5,22,23,9]:=by rw[<-Xm];simpa using Array.mem_of_getElem? ht
    have hall:([5,22,23,9].all λu=>!Tryz.prog.wantsStandIn u)=true:=by as_aux_lemma=>kernel_rfl
    exact(show Tryz.prog.wantsStandIn t=false by simpa using List.all_eq_true.1 hall t hm)⟩)
  (by as_aux_lemma=>kernel_rfl)
end Dem
namespace Go.Proofs.YtmlnckcbblcbbaaGreatDoor
theorem state_form_proved:Rows.StateFormCardSaid:=Dem.Bz
end Go.Proofs.YtmlnckcbblcbbaaGreatDoor
