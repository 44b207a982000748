/- Parts of a proof, joined. -/
import Derived.Test.YtihohjnkkalgiaaGreatDoorU13
import Derived.Test.YtihohjnkkalgiaaGreatDoorCards
import Derived.Test.YtihohjnkkalgiaaGreatDoorTie
import Derived.SevenTiedAt
set_option linter.all false
set_option maxRecDepth 100000
set_option maxHeartbeats 4000000
open Go Go.Proofs
open Go.Proofs.YtihohjnkkalgiaaGreatDoor
namespace Dem
theorem xX:Rows.RoundRightCardSaid:=
 Claim7.holds_tied_plain_at .later [] [.data,.widerDeep,.widerDeep,.pinned] true (true,"9c59330dabc32ca45d37a86d5cba118a93d18042c6edc9c23c8f444b64c4c865") false
  FG (fun _ h=>by cases h) (by as_aux_lemma=>kernel_rfl) (fun _ h=>by cases h) roundRight_row_tie rfl ⟨rfl,rfl⟩ (by as_aux_lemma=>kernel_rfl) rfl
  (fun f fn hf hfn=>by
   obtain rfl:f=12:=Option.some.inj ((show Tryz.prog.funcNamed "demesne/demesnelaw17.RoundRight"=some 12 by as_aux_lemma=>kernel_rfl).symm.trans hf)|>.symm
   obtain rfl:fn=Tryz.f12:=(Option.some.inj (Tryz.func12.symm.trans hfn)).symm
   exact ⟨by as_aux_lemma=>kernel_rfl,fun j t ht=>by
    have hm:t∈[5,63,5]:=by rw [←So];simpa using Array.mem_of_getElem? ht
    have hall:([5,63,5].all fun u=>!Tryz.prog.wantsStandIn u)=true:=by as_aux_lemma=>kernel_rfl
    exact (show Tryz.prog.wantsStandIn t=false by simpa using List.all_eq_true.1 hall t hm)⟩)
  (by as_aux_lemma=>kernel_rfl)
end Dem
namespace Go.Proofs.YtihohjnkkalgiaaGreatDoor
theorem round_right_proved:Rows.RoundRightCardSaid:=Dem.xX
end Go.Proofs.YtihohjnkkalgiaaGreatDoor
