/-
  DERIVED. GIVEN WITH THE SEED: THE CARDS: each row of YtegnablmooijmaaDoorRows.lean that lists a variable, with what it lists TIED to the program's text (the seventh form; the later family's looks); each row that meets fmt, with fmt's text TOLD by the authors' own Lean function (tested against real Go, not proved from fmt's source: count such statements apart). THE CARD IS WHAT COUNTS. Prove the row's statement (the work); the ties are given (YtegnablmooijmaaDoorTie.lean); close each card by the builder's one call (the guide's Derived/Test/ToyasCard.lean, 'card_holds'). Laid BY PROGRAM, IN A SANDBOX (cutbox-door.mjs). By AI agents, Wed Nov 11 2026. No macro, syntax, notation, axiom, sorry.
-/
import Derived.Test.YtegnablmooijmaaDoorRows
import GoSem.ClaimSeven
namespace Go.Proofs.YtegnablmooijmaaDoor
namespace Rows

/-- THE TIED CARD OF 'demesnelaw12.PoolLays'. -/
def poolLaysCard : Claim7 := { stood := { row := poolLaysRow, standIns := [], harness := (true, "85a87a0f1146e0bb7d7922f98a59904bf75023565114f0913753c0dc55d6d80f"), looks := false }, kinds := [], alts := [], laidByText := true, laidKinds := [.widerDeep, .widerDeep], laidTests := true, laidLooks := .later }
def PoolLaysCardSaid : Prop := Claim7.holds Tryd.pinned (.plain (OpenSpec.ofChange poolLaysSpec)) poolLaysCard

/-- THE TIED CARD OF 'demesnelaw12.PoolFails'. -/
def poolFailsCard : Claim7 := { stood := { row := poolFailsRow, standIns := [], harness := (true, "85a87a0f1146e0bb7d7922f98a59904bf75023565114f0913753c0dc55d6d80f"), looks := false }, kinds := [], alts := [], laidByText := true, laidKinds := [.widerDeep, .widerDeep], laidTests := true, laidLooks := .later }
def PoolFailsCardSaid : Prop := Claim7.holds Tryd.pinned (.plain (OpenSpec.ofChange poolFailsSpec)) poolFailsCard

/-- THE TIED CARD OF 'demesnelaw12.PoolAdds'. -/
def poolAddsCard : Claim7 := { stood := { row := poolAddsRow, standIns := [], harness := (true, "85a87a0f1146e0bb7d7922f98a59904bf75023565114f0913753c0dc55d6d80f"), looks := false }, kinds := [], alts := [], laidByText := true, laidKinds := [.widerDeep, .widerDeep], laidTests := true, laidLooks := .later }
def PoolAddsCardSaid : Prop := Claim7.holds Tryd.pinned (.plain (OpenSpec.ofChange poolAddsSpec)) poolAddsCard

/-- THE TIED CARD OF 'demesnelaw12.PoolForm'. -/
def poolFormCard : Claim7 := { stood := { row := poolFormRow, standIns := [], harness := (true, "85a87a0f1146e0bb7d7922f98a59904bf75023565114f0913753c0dc55d6d80f"), looks := false }, kinds := [], alts := [], laidByText := true, laidKinds := [.widerDeep, .widerDeep], laidTests := true, laidLooks := .later }
def PoolFormCardSaid : Prop := Claim7.holds Tryd.pinned (.plain (OpenSpec.ofChange poolFormSpec)) poolFormCard

/-- THE TIED CARD OF 'demesnelaw12.PoolSlots'. -/
def poolSlotsCard : Claim7 := { stood := { row := poolSlotsRow, standIns := [], harness := (true, "85a87a0f1146e0bb7d7922f98a59904bf75023565114f0913753c0dc55d6d80f"), looks := false }, kinds := [], alts := [], laidByText := true, laidKinds := [.widerDeep, .widerDeep], laidTests := true, laidLooks := .later }
def PoolSlotsCardSaid : Prop := Claim7.holds Tryd.pinned (.plain (OpenSpec.ofChange poolSlotsSpec)) poolSlotsCard

/-- THE TIED CARD OF 'demesnelaw12.PoolRight'. -/
def poolRightCard : Claim7 := { stood := { row := poolRightRow, standIns := [], harness := (true, "85a87a0f1146e0bb7d7922f98a59904bf75023565114f0913753c0dc55d6d80f"), looks := false }, kinds := [], alts := [], laidByText := true, laidKinds := [.widerDeep, .widerDeep], laidTests := true, laidLooks := .later }
def PoolRightCardSaid : Prop := Claim7.holds Tryd.pinned (.plain (OpenSpec.ofChange poolRightSpec)) poolRightCard

/-- THE SECOND FORM's CARD OF 'demesnelaw12.PoolLays'. -/
def poolLaysUptoCard : Claim7 := { stood := { row := poolLaysUptoRow, standIns := [], harness := (true, "85a87a0f1146e0bb7d7922f98a59904bf75023565114f0913753c0dc55d6d80f"), looks := false }, kinds := [], alts := [], laidByText := true, laidKinds := [.widerDeep, .widerDeep], laidTests := true, laidLooks := .later }
def PoolLaysUptoCardSaid : Prop := Claim7.holds Tryd.pinned (.plain (OpenSpec.upto poolLaysSpec)) poolLaysUptoCard

/-- THE SECOND FORM's CARD OF 'demesnelaw12.PoolFails'. -/
def poolFailsUptoCard : Claim7 := { stood := { row := poolFailsUptoRow, standIns := [], harness := (true, "85a87a0f1146e0bb7d7922f98a59904bf75023565114f0913753c0dc55d6d80f"), looks := false }, kinds := [], alts := [], laidByText := true, laidKinds := [.widerDeep, .widerDeep], laidTests := true, laidLooks := .later }
def PoolFailsUptoCardSaid : Prop := Claim7.holds Tryd.pinned (.plain (OpenSpec.upto poolFailsSpec)) poolFailsUptoCard

/-- THE SECOND FORM's CARD OF 'demesnelaw12.PoolAdds'. -/
def poolAddsUptoCard : Claim7 := { stood := { row := poolAddsUptoRow, standIns := [], harness := (true, "85a87a0f1146e0bb7d7922f98a59904bf75023565114f0913753c0dc55d6d80f"), looks := false }, kinds := [], alts := [], laidByText := true, laidKinds := [.widerDeep, .widerDeep], laidTests := true, laidLooks := .later }
def PoolAddsUptoCardSaid : Prop := Claim7.holds Tryd.pinned (.plain (OpenSpec.upto poolAddsSpec)) poolAddsUptoCard

/-- THE SECOND FORM's CARD OF 'demesnelaw12.PoolForm'. -/
def poolFormUptoCard : Claim7 := { stood := { row := poolFormUptoRow, standIns := [], harness := (true, "85a87a0f1146e0bb7d7922f98a59904bf75023565114f0913753c0dc55d6d80f"), looks := false }, kinds := [], alts := [], laidByText := true, laidKinds := [.widerDeep, .widerDeep], laidTests := true, laidLooks := .later }
def PoolFormUptoCardSaid : Prop := Claim7.holds Tryd.pinned (.plain (OpenSpec.upto poolFormSpec)) poolFormUptoCard

/-- THE SECOND FORM's CARD OF 'demesnelaw12.PoolSlots'. -/
def poolSlotsUptoCard : Claim7 := { stood := { row := poolSlotsUptoRow, standIns := [], harness := (true, "85a87a0f1146e0bb7d7922f98a59904bf75023565114f0913753c0dc55d6d80f"), looks := false }, kinds := [], alts := [], laidByText := true, laidKinds := [.widerDeep, .widerDeep], laidTests := true, laidLooks := .later }
def PoolSlotsUptoCardSaid : Prop := Claim7.holds Tryd.pinned (.plain (OpenSpec.upto poolSlotsSpec)) poolSlotsUptoCard

/-- THE SECOND FORM's CARD OF 'demesnelaw12.PoolRight'. -/
def poolRightUptoCard : Claim7 := { stood := { row := poolRightUptoRow, standIns := [], harness := (true, "85a87a0f1146e0bb7d7922f98a59904bf75023565114f0913753c0dc55d6d80f"), looks := false }, kinds := [], alts := [], laidByText := true, laidKinds := [.widerDeep, .widerDeep], laidTests := true, laidLooks := .later }
def PoolRightUptoCardSaid : Prop := Claim7.holds Tryd.pinned (.plain (OpenSpec.upto poolRightSpec)) poolRightUptoCard
end Rows
end Go.Proofs.YtegnablmooijmaaDoor
