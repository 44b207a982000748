/- Parts of a proof, joined. -/
import Derived.Test.YtihohjnkkalgiaaGreatDoorV12
import Derived.Test.YtihohjnkkalgiaaGreatDoorCards
import Derived.Test.YtihohjnkkalgiaaGreatDoorTie
import Derived.SevenTiedAt
set_option linter.all false
set_option maxRecDepth 100000
set_option maxHeartbeats 4000000
open Go Go.Proofs
open Go.Proofs.YtihohjnkkalgiaaGreatDoor
namespace Dem
theorem xG:Rows.RoundWhereCardSaid:=
 Claim7.holds_tied_plain_at .later [] [.data,.widerDeep,.widerDeep,.pinned] true (true,"9c59330dabc32ca45d37a86d5cba118a93d18042c6edc9c23c8f444b64c4c865") false
  Fe (fun _ h=>by cases h) (by as_aux_lemma=>kernel_rfl) (fun _ h=>by cases h) roundWhere_row_tie rfl ⟨rfl,rfl⟩ (by as_aux_lemma=>kernel_rfl) rfl
  (fun f fn hf hfn=>by
   obtain rfl:f=10:=Option.some.inj ((show Tryz.prog.funcNamed "demesne/demesnelaw17.RoundWhere"=some 10 by as_aux_lemma=>kernel_rfl).symm.trans hf)|>.symm
   obtain rfl:fn=Tryz.f10:=(Option.some.inj (Tryz.func10.symm.trans hfn)).symm
   exact ⟨by as_aux_lemma=>kernel_rfl,fun j t ht=>by
    have hm:t∈[5,63,5]:=by rw [←RE];simpa using Array.mem_of_getElem? ht
    have hall:([5,63,5].all fun u=>!Tryz.prog.wantsStandIn u)=true:=by as_aux_lemma=>kernel_rfl
    exact (show Tryz.prog.wantsStandIn t=false by simpa using List.all_eq_true.1 hall t hm)⟩)
  (by as_aux_lemma=>kernel_rfl)
end Dem
namespace Go.Proofs.YtihohjnkkalgiaaGreatDoor
theorem round_where_proved:Rows.RoundWhereCardSaid:=Dem.xG
end Go.Proofs.YtihohjnkkalgiaaGreatDoor
