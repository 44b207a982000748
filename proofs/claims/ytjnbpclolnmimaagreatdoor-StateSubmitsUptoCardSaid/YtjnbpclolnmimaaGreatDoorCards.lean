/-
  DERIVED. GIVEN WITH THE SEED: THE CARDS: each row of YtjnbpclolnmimaaGreatDoorRows.lean that lists a variable, with what it lists TIED to the program's text (the seventh form; the later family's looks); each row that meets fmt, with fmt's text TOLD by the authors' own Lean function (tested against real Go, not proved from fmt's source: count such statements apart). THE CARD IS WHAT COUNTS. Prove the row's statement (the work); the ties are given (YtjnbpclolnmimaaGreatDoorTie.lean); close each card by the builder's one call (the guide's Derived/Test/ToyasCard.lean, 'card_holds'). Laid BY PROGRAM, IN A SANDBOX (cutbox-door.mjs). By AI agents, Wed Nov 11 2026. No macro, syntax, notation, axiom, sorry.
-/
import Derived.Test.YtjnbpclolnmimaaGreatDoorRows
import GoSem.ClaimSeven
namespace Go.Proofs.YtjnbpclolnmimaaGreatDoor
namespace Rows

/-- THE TIED CARD OF 'demesnelaw15.StateStreams'. -/
def stateStreamsCard : Claim7 := { stood := { row := stateStreamsRow, standIns := [], harness := (true, "f738e1e1a85e8582ffc51b5c17e95746f95ffcc74267f5c724b5455d19c9e574"), looks := true }, kinds := [], alts := [], laidByText := true, laidKinds := [.data, .widerDeep, .widerDeep, .pinned], laidTests := true, laidLooks := .later }
def StateStreamsCardSaid : Prop := Claim7.holds Tryz.pinned (.plain (OpenSpec.ofChange stateStreamsSpec)) stateStreamsCard

/-- THE TIED CARD OF 'demesnelaw15.StateRight'. -/
def stateRightCard : Claim7 := { stood := { row := stateRightRow, standIns := [], harness := (true, "f738e1e1a85e8582ffc51b5c17e95746f95ffcc74267f5c724b5455d19c9e574"), looks := true }, kinds := [], alts := [], laidByText := true, laidKinds := [.data, .widerDeep, .widerDeep, .pinned], laidTests := true, laidLooks := .later }
def StateRightCardSaid : Prop := Claim7.holds Tryz.pinned (.plain (OpenSpec.ofChange stateRightSpec)) stateRightCard

/-- THE TIED CARD OF 'demesnelaw15.StateSubmits'. -/
def stateSubmitsCard : Claim7 := { stood := { row := stateSubmitsRow, standIns := [], harness := (true, "f738e1e1a85e8582ffc51b5c17e95746f95ffcc74267f5c724b5455d19c9e574"), looks := true }, kinds := [], alts := [], laidByText := true, laidKinds := [.data, .widerDeep, .widerDeep, .pinned], laidTests := true, laidLooks := .later }
def StateSubmitsCardSaid : Prop := Claim7.holds Tryz.pinned (.plain (OpenSpec.ofChange stateSubmitsSpec)) stateSubmitsCard

/-- THE TIED CARD OF 'demesnelaw15.StateForm'. -/
def stateFormCard : Claim7 := { stood := { row := stateFormRow, standIns := [], harness := (true, "f738e1e1a85e8582ffc51b5c17e95746f95ffcc74267f5c724b5455d19c9e574"), looks := true }, kinds := [], alts := [], laidByText := true, laidKinds := [.data, .widerDeep, .widerDeep, .pinned], laidTests := true, laidLooks := .later }
def StateFormCardSaid : Prop := Claim7.holds Tryz.pinned (.plain (OpenSpec.ofChange stateFormSpec)) stateFormCard

/-- THE TIED CARD OF 'demesnelaw15.StateSums'. -/
def stateSumsCard : Claim7 := { stood := { row := stateSumsRow, standIns := [], harness := (true, "f738e1e1a85e8582ffc51b5c17e95746f95ffcc74267f5c724b5455d19c9e574"), looks := true }, kinds := [], alts := [], laidByText := true, laidKinds := [.data, .widerDeep, .widerDeep, .pinned], laidTests := true, laidLooks := .later }
def StateSumsCardSaid : Prop := Claim7.holds Tryz.pinned (.plain (OpenSpec.ofChange stateSumsSpec)) stateSumsCard

/-- THE TIED CARD OF 'demesnelaw15.StateBegins'. -/
def stateBeginsCard : Claim7 := { stood := { row := stateBeginsRow, standIns := [], harness := (true, "f738e1e1a85e8582ffc51b5c17e95746f95ffcc74267f5c724b5455d19c9e574"), looks := true }, kinds := [], alts := [], laidByText := true, laidKinds := [.data, .widerDeep, .widerDeep, .pinned], laidTests := true, laidLooks := .later }
def StateBeginsCardSaid : Prop := Claim7.holds Tryz.pinned (.plain (OpenSpec.ofChange stateBeginsSpec)) stateBeginsCard

/-- THE SECOND FORM's CARD OF 'demesnelaw15.StateStreams'. -/
def stateStreamsUptoCard : Claim7 := { stood := { row := stateStreamsUptoRow, standIns := [], harness := (true, "f738e1e1a85e8582ffc51b5c17e95746f95ffcc74267f5c724b5455d19c9e574"), looks := true }, kinds := [], alts := [], laidByText := true, laidKinds := [.data, .widerDeep, .widerDeep, .pinned], laidTests := true, laidLooks := .later }
def StateStreamsUptoCardSaid : Prop := Claim7.holds Tryz.pinned (.plain (OpenSpec.upto stateStreamsSpec)) stateStreamsUptoCard

/-- THE SECOND FORM's CARD OF 'demesnelaw15.StateRight'. -/
def stateRightUptoCard : Claim7 := { stood := { row := stateRightUptoRow, standIns := [], harness := (true, "f738e1e1a85e8582ffc51b5c17e95746f95ffcc74267f5c724b5455d19c9e574"), looks := true }, kinds := [], alts := [], laidByText := true, laidKinds := [.data, .widerDeep, .widerDeep, .pinned], laidTests := true, laidLooks := .later }
def StateRightUptoCardSaid : Prop := Claim7.holds Tryz.pinned (.plain (OpenSpec.upto stateRightSpec)) stateRightUptoCard

/-- THE SECOND FORM's CARD OF 'demesnelaw15.StateSubmits'. -/
def stateSubmitsUptoCard : Claim7 := { stood := { row := stateSubmitsUptoRow, standIns := [], harness := (true, "f738e1e1a85e8582ffc51b5c17e95746f95ffcc74267f5c724b5455d19c9e574"), looks := true }, kinds := [], alts := [], laidByText := true, laidKinds := [.data, .widerDeep, .widerDeep, .pinned], laidTests := true, laidLooks := .later }
def StateSubmitsUptoCardSaid : Prop := Claim7.holds Tryz.pinned (.plain (OpenSpec.upto stateSubmitsSpec)) stateSubmitsUptoCard

/-- THE SECOND FORM's CARD OF 'demesnelaw15.StateForm'. -/
def stateFormUptoCard : Claim7 := { stood := { row := stateFormUptoRow, standIns := [], harness := (true, "f738e1e1a85e8582ffc51b5c17e95746f95ffcc74267f5c724b5455d19c9e574"), looks := true }, kinds := [], alts := [], laidByText := true, laidKinds := [.data, .widerDeep, .widerDeep, .pinned], laidTests := true, laidLooks := .later }
def StateFormUptoCardSaid : Prop := Claim7.holds Tryz.pinned (.plain (OpenSpec.upto stateFormSpec)) stateFormUptoCard

/-- THE SECOND FORM's CARD OF 'demesnelaw15.StateSums'. -/
def stateSumsUptoCard : Claim7 := { stood := { row := stateSumsUptoRow, standIns := [], harness := (true, "f738e1e1a85e8582ffc51b5c17e95746f95ffcc74267f5c724b5455d19c9e574"), looks := true }, kinds := [], alts := [], laidByText := true, laidKinds := [.data, .widerDeep, .widerDeep, .pinned], laidTests := true, laidLooks := .later }
def StateSumsUptoCardSaid : Prop := Claim7.holds Tryz.pinned (.plain (OpenSpec.upto stateSumsSpec)) stateSumsUptoCard

/-- THE SECOND FORM's CARD OF 'demesnelaw15.StateBegins'. -/
def stateBeginsUptoCard : Claim7 := { stood := { row := stateBeginsUptoRow, standIns := [], harness := (true, "f738e1e1a85e8582ffc51b5c17e95746f95ffcc74267f5c724b5455d19c9e574"), looks := true }, kinds := [], alts := [], laidByText := true, laidKinds := [.data, .widerDeep, .widerDeep, .pinned], laidTests := true, laidLooks := .later }
def StateBeginsUptoCardSaid : Prop := Claim7.holds Tryz.pinned (.plain (OpenSpec.upto stateBeginsSpec)) stateBeginsUptoCard
end Rows
end Go.Proofs.YtjnbpclolnmimaaGreatDoor
