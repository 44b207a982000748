/-
  DERIVED. GIVEN WITH THE SEED: THE CARDS: each row of YtihohjnkkalgiaaGreatDoorRows.lean that lists a variable, with what it lists TIED to the program's text (the seventh form; the later family's looks); each row that meets fmt, with fmt's text TOLD by the authors' own Lean function (tested against real Go, not proved from fmt's source: count such statements apart). THE CARD IS WHAT COUNTS. Prove the row's statement (the work); the ties are given (YtihohjnkkalgiaaGreatDoorTie.lean); close each card by the builder's one call (the guide's Derived/Test/ToyasCard.lean, 'card_holds'). Laid BY PROGRAM, IN A SANDBOX (cutbox-door.mjs). By AI agents, Wed Nov 11 2026. No macro, syntax, notation, axiom, sorry.
-/
import Derived.Test.YtihohjnkkalgiaaGreatDoorRows
import GoSem.ClaimSeven
namespace Go.Proofs.YtihohjnkkalgiaaGreatDoor
namespace Rows

/-- THE TIED CARD OF 'demesnelaw16.EvictLower'. -/
def evictLowerCard : Claim7 := { stood := { row := evictLowerRow, standIns := [], harness := (true, "9c59330dabc32ca45d37a86d5cba118a93d18042c6edc9c23c8f444b64c4c865"), looks := false }, kinds := [], alts := [], laidByText := true, laidKinds := [.data, .widerDeep, .widerDeep, .pinned], laidTests := true, laidLooks := .later }
def EvictLowerCardSaid : Prop := Claim7.holds Tryz.pinned (.plain (OpenSpec.ofChange evictLowerSpec)) evictLowerCard

/-- THE TIED CARD OF 'demesnelaw16.EvictNeeds'. -/
def evictNeedsCard : Claim7 := { stood := { row := evictNeedsRow, standIns := [], harness := (true, "9c59330dabc32ca45d37a86d5cba118a93d18042c6edc9c23c8f444b64c4c865"), looks := false }, kinds := [], alts := [], laidByText := true, laidKinds := [.data, .widerDeep, .widerDeep, .pinned], laidTests := true, laidLooks := .later }
def EvictNeedsCardSaid : Prop := Claim7.holds Tryz.pinned (.plain (OpenSpec.ofChange evictNeedsSpec)) evictNeedsCard

/-- THE TIED CARD OF 'demesnelaw16.EvictSays'. -/
def evictSaysCard : Claim7 := { stood := { row := evictSaysRow, standIns := [], harness := (true, "9c59330dabc32ca45d37a86d5cba118a93d18042c6edc9c23c8f444b64c4c865"), looks := false }, kinds := [], alts := [], laidByText := true, laidKinds := [.data, .widerDeep, .widerDeep, .pinned], laidTests := true, laidLooks := .later }
def EvictSaysCardSaid : Prop := Claim7.holds Tryz.pinned (.plain (OpenSpec.ofChange evictSaysSpec)) evictSaysCard

/-- THE TIED CARD OF 'demesnelaw16.EvictCould'. -/
def evictCouldCard : Claim7 := { stood := { row := evictCouldRow, standIns := [], harness := (true, "9c59330dabc32ca45d37a86d5cba118a93d18042c6edc9c23c8f444b64c4c865"), looks := false }, kinds := [], alts := [], laidByText := true, laidKinds := [.data, .widerDeep, .widerDeep, .pinned], laidTests := true, laidLooks := .later }
def EvictCouldCardSaid : Prop := Claim7.holds Tryz.pinned (.plain (OpenSpec.ofChange evictCouldSpec)) evictCouldCard

/-- THE TIED CARD OF 'demesnelaw17.RoundFirst'. -/
def roundFirstCard : Claim7 := { stood := { row := roundFirstRow, standIns := [], harness := (true, "9c59330dabc32ca45d37a86d5cba118a93d18042c6edc9c23c8f444b64c4c865"), looks := false }, kinds := [], alts := [], laidByText := true, laidKinds := [.data, .widerDeep, .widerDeep, .pinned], laidTests := true, laidLooks := .later }
def RoundFirstCardSaid : Prop := Claim7.holds Tryz.pinned (.plain (OpenSpec.ofChange roundFirstSpec)) roundFirstCard

/-- THE TIED CARD OF 'demesnelaw17.RoundYields'. -/
def roundYieldsCard : Claim7 := { stood := { row := roundYieldsRow, standIns := [], harness := (true, "9c59330dabc32ca45d37a86d5cba118a93d18042c6edc9c23c8f444b64c4c865"), looks := false }, kinds := [], alts := [], laidByText := true, laidKinds := [.data, .widerDeep, .widerDeep, .pinned], laidTests := true, laidLooks := .later }
def RoundYieldsCardSaid : Prop := Claim7.holds Tryz.pinned (.plain (OpenSpec.ofChange roundYieldsSpec)) roundYieldsCard

/-- THE TIED CARD OF 'demesnelaw17.RoundLive'. -/
def roundLiveCard : Claim7 := { stood := { row := roundLiveRow, standIns := [], harness := (true, "9c59330dabc32ca45d37a86d5cba118a93d18042c6edc9c23c8f444b64c4c865"), looks := false }, kinds := [], alts := [], laidByText := true, laidKinds := [.data, .widerDeep, .widerDeep, .pinned], laidTests := true, laidLooks := .later }
def RoundLiveCardSaid : Prop := Claim7.holds Tryz.pinned (.plain (OpenSpec.ofChange roundLiveSpec)) roundLiveCard

/-- THE TIED CARD OF 'demesnelaw17.RoundWhere'. -/
def roundWhereCard : Claim7 := { stood := { row := roundWhereRow, standIns := [], harness := (true, "9c59330dabc32ca45d37a86d5cba118a93d18042c6edc9c23c8f444b64c4c865"), looks := false }, kinds := [], alts := [], laidByText := true, laidKinds := [.data, .widerDeep, .widerDeep, .pinned], laidTests := true, laidLooks := .later }
def RoundWhereCardSaid : Prop := Claim7.holds Tryz.pinned (.plain (OpenSpec.ofChange roundWhereSpec)) roundWhereCard

/-- THE TIED CARD OF 'demesnelaw16.EvictBegins'. -/
def evictBeginsCard : Claim7 := { stood := { row := evictBeginsRow, standIns := [], harness := (true, "9c59330dabc32ca45d37a86d5cba118a93d18042c6edc9c23c8f444b64c4c865"), looks := false }, kinds := [], alts := [], laidByText := true, laidKinds := [.data, .widerDeep, .widerDeep, .pinned], laidTests := true, laidLooks := .later }
def EvictBeginsCardSaid : Prop := Claim7.holds Tryz.pinned (.plain (OpenSpec.ofChange evictBeginsSpec)) evictBeginsCard

/-- THE TIED CARD OF 'demesnelaw17.RoundRight'. -/
def roundRightCard : Claim7 := { stood := { row := roundRightRow, standIns := [], harness := (true, "9c59330dabc32ca45d37a86d5cba118a93d18042c6edc9c23c8f444b64c4c865"), looks := false }, kinds := [], alts := [], laidByText := true, laidKinds := [.data, .widerDeep, .widerDeep, .pinned], laidTests := true, laidLooks := .later }
def RoundRightCardSaid : Prop := Claim7.holds Tryz.pinned (.plain (OpenSpec.ofChange roundRightSpec)) roundRightCard

/-- THE TIED CARD OF 'demesnelaw17.RoundCounts'. -/
def roundCountsCard : Claim7 := { stood := { row := roundCountsRow, standIns := [], harness := (true, "9c59330dabc32ca45d37a86d5cba118a93d18042c6edc9c23c8f444b64c4c865"), looks := false }, kinds := [], alts := [], laidByText := true, laidKinds := [.data, .widerDeep, .widerDeep, .pinned], laidTests := true, laidLooks := .later }
def RoundCountsCardSaid : Prop := Claim7.holds Tryz.pinned (.plain (OpenSpec.ofChange roundCountsSpec)) roundCountsCard

/-- THE SECOND FORM's CARD OF 'demesnelaw16.EvictLower'. -/
def evictLowerUptoCard : Claim7 := { stood := { row := evictLowerUptoRow, standIns := [], harness := (true, "9c59330dabc32ca45d37a86d5cba118a93d18042c6edc9c23c8f444b64c4c865"), looks := false }, kinds := [], alts := [], laidByText := true, laidKinds := [.data, .widerDeep, .widerDeep, .pinned], laidTests := true, laidLooks := .later }
def EvictLowerUptoCardSaid : Prop := Claim7.holds Tryz.pinned (.plain (OpenSpec.upto evictLowerSpec)) evictLowerUptoCard

/-- THE SECOND FORM's CARD OF 'demesnelaw16.EvictNeeds'. -/
def evictNeedsUptoCard : Claim7 := { stood := { row := evictNeedsUptoRow, standIns := [], harness := (true, "9c59330dabc32ca45d37a86d5cba118a93d18042c6edc9c23c8f444b64c4c865"), looks := false }, kinds := [], alts := [], laidByText := true, laidKinds := [.data, .widerDeep, .widerDeep, .pinned], laidTests := true, laidLooks := .later }
def EvictNeedsUptoCardSaid : Prop := Claim7.holds Tryz.pinned (.plain (OpenSpec.upto evictNeedsSpec)) evictNeedsUptoCard

/-- THE SECOND FORM's CARD OF 'demesnelaw16.EvictSays'. -/
def evictSaysUptoCard : Claim7 := { stood := { row := evictSaysUptoRow, standIns := [], harness := (true, "9c59330dabc32ca45d37a86d5cba118a93d18042c6edc9c23c8f444b64c4c865"), looks := false }, kinds := [], alts := [], laidByText := true, laidKinds := [.data, .widerDeep, .widerDeep, .pinned], laidTests := true, laidLooks := .later }
def EvictSaysUptoCardSaid : Prop := Claim7.holds Tryz.pinned (.plain (OpenSpec.upto evictSaysSpec)) evictSaysUptoCard

/-- THE SECOND FORM's CARD OF 'demesnelaw16.EvictCould'. -/
def evictCouldUptoCard : Claim7 := { stood := { row := evictCouldUptoRow, standIns := [], harness := (true, "9c59330dabc32ca45d37a86d5cba118a93d18042c6edc9c23c8f444b64c4c865"), looks := false }, kinds := [], alts := [], laidByText := true, laidKinds := [.data, .widerDeep, .widerDeep, .pinned], laidTests := true, laidLooks := .later }
def EvictCouldUptoCardSaid : Prop := Claim7.holds Tryz.pinned (.plain (OpenSpec.upto evictCouldSpec)) evictCouldUptoCard

/-- THE SECOND FORM's CARD OF 'demesnelaw17.RoundFirst'. -/
def roundFirstUptoCard : Claim7 := { stood := { row := roundFirstUptoRow, standIns := [], harness := (true, "9c59330dabc32ca45d37a86d5cba118a93d18042c6edc9c23c8f444b64c4c865"), looks := false }, kinds := [], alts := [], laidByText := true, laidKinds := [.data, .widerDeep, .widerDeep, .pinned], laidTests := true, laidLooks := .later }
def RoundFirstUptoCardSaid : Prop := Claim7.holds Tryz.pinned (.plain (OpenSpec.upto roundFirstSpec)) roundFirstUptoCard

/-- THE SECOND FORM's CARD OF 'demesnelaw17.RoundYields'. -/
def roundYieldsUptoCard : Claim7 := { stood := { row := roundYieldsUptoRow, standIns := [], harness := (true, "9c59330dabc32ca45d37a86d5cba118a93d18042c6edc9c23c8f444b64c4c865"), looks := false }, kinds := [], alts := [], laidByText := true, laidKinds := [.data, .widerDeep, .widerDeep, .pinned], laidTests := true, laidLooks := .later }
def RoundYieldsUptoCardSaid : Prop := Claim7.holds Tryz.pinned (.plain (OpenSpec.upto roundYieldsSpec)) roundYieldsUptoCard

/-- THE SECOND FORM's CARD OF 'demesnelaw17.RoundLive'. -/
def roundLiveUptoCard : Claim7 := { stood := { row := roundLiveUptoRow, standIns := [], harness := (true, "9c59330dabc32ca45d37a86d5cba118a93d18042c6edc9c23c8f444b64c4c865"), looks := false }, kinds := [], alts := [], laidByText := true, laidKinds := [.data, .widerDeep, .widerDeep, .pinned], laidTests := true, laidLooks := .later }
def RoundLiveUptoCardSaid : Prop := Claim7.holds Tryz.pinned (.plain (OpenSpec.upto roundLiveSpec)) roundLiveUptoCard

/-- THE SECOND FORM's CARD OF 'demesnelaw17.RoundWhere'. -/
def roundWhereUptoCard : Claim7 := { stood := { row := roundWhereUptoRow, standIns := [], harness := (true, "9c59330dabc32ca45d37a86d5cba118a93d18042c6edc9c23c8f444b64c4c865"), looks := false }, kinds := [], alts := [], laidByText := true, laidKinds := [.data, .widerDeep, .widerDeep, .pinned], laidTests := true, laidLooks := .later }
def RoundWhereUptoCardSaid : Prop := Claim7.holds Tryz.pinned (.plain (OpenSpec.upto roundWhereSpec)) roundWhereUptoCard

/-- THE SECOND FORM's CARD OF 'demesnelaw16.EvictBegins'. -/
def evictBeginsUptoCard : Claim7 := { stood := { row := evictBeginsUptoRow, standIns := [], harness := (true, "9c59330dabc32ca45d37a86d5cba118a93d18042c6edc9c23c8f444b64c4c865"), looks := false }, kinds := [], alts := [], laidByText := true, laidKinds := [.data, .widerDeep, .widerDeep, .pinned], laidTests := true, laidLooks := .later }
def EvictBeginsUptoCardSaid : Prop := Claim7.holds Tryz.pinned (.plain (OpenSpec.upto evictBeginsSpec)) evictBeginsUptoCard

/-- THE SECOND FORM's CARD OF 'demesnelaw17.RoundRight'. -/
def roundRightUptoCard : Claim7 := { stood := { row := roundRightUptoRow, standIns := [], harness := (true, "9c59330dabc32ca45d37a86d5cba118a93d18042c6edc9c23c8f444b64c4c865"), looks := false }, kinds := [], alts := [], laidByText := true, laidKinds := [.data, .widerDeep, .widerDeep, .pinned], laidTests := true, laidLooks := .later }
def RoundRightUptoCardSaid : Prop := Claim7.holds Tryz.pinned (.plain (OpenSpec.upto roundRightSpec)) roundRightUptoCard

/-- THE SECOND FORM's CARD OF 'demesnelaw17.RoundCounts'. -/
def roundCountsUptoCard : Claim7 := { stood := { row := roundCountsUptoRow, standIns := [], harness := (true, "9c59330dabc32ca45d37a86d5cba118a93d18042c6edc9c23c8f444b64c4c865"), looks := false }, kinds := [], alts := [], laidByText := true, laidKinds := [.data, .widerDeep, .widerDeep, .pinned], laidTests := true, laidLooks := .later }
def RoundCountsUptoCardSaid : Prop := Claim7.holds Tryz.pinned (.plain (OpenSpec.upto roundCountsSpec)) roundCountsUptoCard
end Rows
end Go.Proofs.YtihohjnkkalgiaaGreatDoor
