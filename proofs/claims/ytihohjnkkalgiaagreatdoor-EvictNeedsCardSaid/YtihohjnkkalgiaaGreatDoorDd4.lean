/- Parts of a proof, joined. -/
import Derived.Test.YtihohjnkkalgiaaGreatDoorP29
import Derived.Test.YtihohjnkkalgiaaGreatDoorCards
import Derived.Test.YtihohjnkkalgiaaGreatDoorTie
import Derived.SevenTiedAt
set_option linter.all false
set_option maxRecDepth 100000
set_option maxHeartbeats 4000000
open Go Go.Proofs
open Go.Proofs.YtihohjnkkalgiaaGreatDoor
namespace Dem
theorem vf:Rows.EvictNeedsCardSaid:=
 Claim7.holds_tied_plain_at .later [] [.data,.widerDeep,.widerDeep,.pinned] true (true,"9c59330dabc32ca45d37a86d5cba118a93d18042c6edc9c23c8f444b64c4c865") false
  FG (fun _ h=>by cases h) (by as_aux_lemma=>kernel_rfl) (fun _ h=>by cases h) evictNeeds_row_tie rfl ⟨rfl,rfl⟩ (by as_aux_lemma=>kernel_rfl) rfl
  (fun f fn hf hfn=>by
   obtain rfl:f=4:=Option.some.inj ((show Tryz.prog.funcNamed "demesne/demesnelaw16.EvictNeeds"=some 4 by as_aux_lemma=>kernel_rfl).symm.trans hf)|>.symm
   obtain rfl:fn=Tryz.f4:=(Option.some.inj (Tryz.func4.symm.trans hfn)).symm
   exact ⟨by as_aux_lemma=>kernel_rfl,fun j t ht=>by
    have hm:t∈[5,22,5,5]:=by rw [←Tc];simpa using Array.mem_of_getElem? ht
    have hall:([5,22,5,5].all fun u=>!Tryz.prog.wantsStandIn u)=true:=by as_aux_lemma=>kernel_rfl
    exact (show Tryz.prog.wantsStandIn t=false by simpa using List.all_eq_true.1 hall t hm)⟩)
  (by as_aux_lemma=>kernel_rfl)
end Dem
namespace Go.Proofs.YtihohjnkkalgiaaGreatDoor
theorem evict_needs_proved:Rows.EvictNeedsCardSaid:=Dem.vf
end Go.Proofs.YtihohjnkkalgiaaGreatDoor
