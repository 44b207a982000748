/-
  DERIVED. GIVEN WITH THE SEED: THE CARDS: each row of YtmlnckcbblcbbaaGreatDoorRows.lean that lists a variable, with what it lists TIED to the program's text (the seventh form; the later family's looks); each row that meets fmt, with fmt's text TOLD by the authors' own Lean function (tested against real Go, not proved from fmt's source: count such statements apart). THE CARD IS WHAT COUNTS. Prove the row's statement (the work); the ties are given (YtmlnckcbblcbbaaGreatDoorTie.lean); close each card by the builder's one call (the guide's Derived/Test/ToyasCard.lean, 'card_holds'). Laid BY PROGRAM, IN A SANDBOX (cutbox-door.mjs). By AI agents, Wed Nov 11 2026. No macro, syntax, notation, axiom, sorry.
-/
import Derived.Test.YtmlnckcbblcbbaaGreatDoorRows
import GoSem.ClaimSeven
namespace Go.Proofs.YtmlnckcbblcbbaaGreatDoor
namespace Rows

/-- THE TIED CARD OF 'demesnelaw15.StateForm'. -/
def stateFormCard : Claim7 := { stood := { row := stateFormRow, standIns := [], harness := (true, "7bd858c4b1198a0ac90278fe5393754be1bf15a1cbbe52a0e46380f46e7bb54c"), looks := true }, kinds := [], alts := [], laidByText := true, laidKinds := [.data, .widerDeep, .widerDeep, .pinned], laidTests := true, laidLooks := .later }
def StateFormCardSaid : Prop := Claim7.holds Tryz.pinned (.plain (OpenSpec.ofChange stateFormSpec)) stateFormCard

/-- THE SECOND FORM's CARD OF 'demesnelaw15.StateForm'. -/
def stateFormUptoCard : Claim7 := { stood := { row := stateFormUptoRow, standIns := [], harness := (true, "7bd858c4b1198a0ac90278fe5393754be1bf15a1cbbe52a0e46380f46e7bb54c"), looks := true }, kinds := [], alts := [], laidByText := true, laidKinds := [.data, .widerDeep, .widerDeep, .pinned], laidTests := true, laidLooks := .later }
def StateFormUptoCardSaid : Prop := Claim7.holds Tryz.pinned (.plain (OpenSpec.upto stateFormSpec)) stateFormUptoCard
end Rows
end Go.Proofs.YtmlnckcbblcbbaaGreatDoor
