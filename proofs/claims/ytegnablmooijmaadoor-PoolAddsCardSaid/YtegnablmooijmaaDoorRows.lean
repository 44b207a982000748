/-
  NARROWER THAN 'FOR EVERY INPUT', by the rows' own cells (each row's printed sentence says how): PoolLays: laid · PoolFails: laid · PoolAdds: laid · PoolForm: laid · PoolSlots: laid · PoolRight: laid.
  DERIVED. THE GIVEN ROWS OF THIS SEAT. 6 by the template 'for every input the law returns true; each argument reads behind the call as it read before'; 0 by the template 'total and deterministic' (their statements: YtegnablmooijmaaDoorTotals.lean).
  GIVEN WITH THE SEED: the statements are not yours to turn. If you find one false, say at which input.
  Laid BY PROGRAM, IN A SANDBOX (cutbox-rows.mjs): the forced cells as the released guide's own fill.sh prints them over the translation 65438b9577eabf38… (all of the seat's roots in one cut). By AI agents, Wed Nov 11 2026. No macro, syntax, notation, axiom, sorry.
-/
import Derived.Test.YtegnablmooijmaaDoorChecked
import GoSem.Claim
import GoSem.ClaimJoined
import GoSem.ClaimMapViews
import Derived.JoinedTies
import Derived.KernelRfl
namespace Go.Proofs.YtegnablmooijmaaDoor
/- THE CELL 'sum', in the pinned program and in every row, IS THE sha256 OF THE DUMP (.gsa) THAT YtegnablmooijmaaDoorProg.lean LOADS. Nothing in Lean hashes anything: it is a label: what it is worth is what the hold of that sum in a sandbox is worth. -/
noncomputable def Tryd.pinned : Pinned := { name := "ytegnablmooijmaadoor", sum := "65438b9577eabf384980681803f2d1451f4c848eafa852697258b5ce682cb2f8", checked := Tryd.checked }
namespace Rows
def none {H : Type} : Left H := { results := [], args := [] }

/- WHAT THE LISTED PACKAGE-LEVEL VARIABLES READ AS WHEN THE CALL BEGINS. Each datum BY PROGRAM (the guide's laid-datum.mjs) off the statement by which the dump's own 'gosem.cut.vars' lays the variable. In a bare row this is a premise. The card (YtegnablmooijmaaDoorCards.lean) ties it to the program's text. -/
def laid_demesne_word_letters {H : Type} : DataW H := .agg [.agg [.lit (.int .i32 97), .lit (.int .i32 122)], .agg [.lit (.int .i32 945), .lit (.int .i32 969)], .agg [.lit (.int .i32 1072), .lit (.int .i32 1103)]]
def laid_demesne_word_marks {H : Type} : DataW H := .agg [.agg [.lit (.int .i32 48), .lit (.int .i32 57)], .agg [.lit (.int .i32 45), .lit (.int .i32 45)]]

/-- 'demesnelaw12.PoolLays': WHATEVER THE INPUT: true; the input reads as it did. -/
def poolLaysSpec : ChangeSpec := { name := "poolLays", fn := fun _ => fun
  | [d1, d2, d3] => { results := [.lit (.bool true)], args := [d1, d2, d3] }
  | _ => none }
def poolLaysRow : OpenClaim := { program := "ytegnablmooijmaadoor", sum := "65438b9577eabf384980681803f2d1451f4c848eafa852697258b5ce682cb2f8", func := "demesne/demesnelaw12.PoolLays", spec := "poolLays", inPlace := ["slices.overlaps[demesne/pool.Node]", "math/bits.Sub64"], unfollowed := true, recurses := true, named := ["demesne/word.letters", "demesne/word.marks"], apart := false, laid := [("demesne/word.letters", laid_demesne_word_letters), ("demesne/word.marks", laid_demesne_word_marks)] }
def PoolLaysSaid : Prop := poolLaysRow.holds Tryd.pinned (OpenSpec.ofChange poolLaysSpec)

/-- ITS FALSE NEIGHBOUR: 'it returns false'. Refute it at one input. -/
def poolLaysWrong : ChangeSpec := { name := "poolLays", fn := fun _ => fun
  | [d1, d2, d3] => { results := [.lit (.bool false)], args := [d1, d2, d3] }
  | _ => none }
def PoolLaysWrongFalsely : Prop := poolLaysRow.holds Tryd.pinned (OpenSpec.ofChange poolLaysWrong)

/-- 'demesnelaw12.PoolFails': WHATEVER THE INPUT: true; the input reads as it did. -/
def poolFailsSpec : ChangeSpec := { name := "poolFails", fn := fun _ => fun
  | [d1, d2] => { results := [.lit (.bool true)], args := [d1, d2] }
  | _ => none }
def poolFailsRow : OpenClaim := { program := "ytegnablmooijmaadoor", sum := "65438b9577eabf384980681803f2d1451f4c848eafa852697258b5ce682cb2f8", func := "demesne/demesnelaw12.PoolFails", spec := "poolFails", inPlace := ["slices.overlaps[demesne/pool.Node]", "math/bits.Sub64"], unfollowed := true, recurses := true, named := ["demesne/word.letters", "demesne/word.marks"], apart := false, laid := [("demesne/word.letters", laid_demesne_word_letters), ("demesne/word.marks", laid_demesne_word_marks)] }
def PoolFailsSaid : Prop := poolFailsRow.holds Tryd.pinned (OpenSpec.ofChange poolFailsSpec)

/-- ITS FALSE NEIGHBOUR: 'it returns false'. Refute it at one input. -/
def poolFailsWrong : ChangeSpec := { name := "poolFails", fn := fun _ => fun
  | [d1, d2] => { results := [.lit (.bool false)], args := [d1, d2] }
  | _ => none }
def PoolFailsWrongFalsely : Prop := poolFailsRow.holds Tryd.pinned (OpenSpec.ofChange poolFailsWrong)

/-- 'demesnelaw12.PoolAdds': WHATEVER THE INPUT: true; the input reads as it did. -/
def poolAddsSpec : ChangeSpec := { name := "poolAdds", fn := fun _ => fun
  | [d1, d2] => { results := [.lit (.bool true)], args := [d1, d2] }
  | _ => none }
def poolAddsRow : OpenClaim := { program := "ytegnablmooijmaadoor", sum := "65438b9577eabf384980681803f2d1451f4c848eafa852697258b5ce682cb2f8", func := "demesne/demesnelaw12.PoolAdds", spec := "poolAdds", inPlace := ["slices.overlaps[demesne/pool.Node]", "math/bits.Sub64"], unfollowed := true, recurses := true, named := ["demesne/word.letters", "demesne/word.marks"], apart := false, laid := [("demesne/word.letters", laid_demesne_word_letters), ("demesne/word.marks", laid_demesne_word_marks)] }
def PoolAddsSaid : Prop := poolAddsRow.holds Tryd.pinned (OpenSpec.ofChange poolAddsSpec)

/-- ITS FALSE NEIGHBOUR: 'it returns false'. Refute it at one input. -/
def poolAddsWrong : ChangeSpec := { name := "poolAdds", fn := fun _ => fun
  | [d1, d2] => { results := [.lit (.bool false)], args := [d1, d2] }
  | _ => none }
def PoolAddsWrongFalsely : Prop := poolAddsRow.holds Tryd.pinned (OpenSpec.ofChange poolAddsWrong)

/-- 'demesnelaw12.PoolForm': WHATEVER THE INPUT: true; the input reads as it did. -/
def poolFormSpec : ChangeSpec := { name := "poolForm", fn := fun _ => fun
  | [d1, d2, d3, d4] => { results := [.lit (.bool true)], args := [d1, d2, d3, d4] }
  | _ => none }
def poolFormRow : OpenClaim := { program := "ytegnablmooijmaadoor", sum := "65438b9577eabf384980681803f2d1451f4c848eafa852697258b5ce682cb2f8", func := "demesne/demesnelaw12.PoolForm", spec := "poolForm", inPlace := ["slices.overlaps[demesne/pool.Node]", "math/bits.Sub64"], unfollowed := true, recurses := true, named := ["demesne/word.letters", "demesne/word.marks"], apart := false, laid := [("demesne/word.letters", laid_demesne_word_letters), ("demesne/word.marks", laid_demesne_word_marks)] }
def PoolFormSaid : Prop := poolFormRow.holds Tryd.pinned (OpenSpec.ofChange poolFormSpec)

/-- ITS FALSE NEIGHBOUR: 'it returns false'. Refute it at one input. -/
def poolFormWrong : ChangeSpec := { name := "poolForm", fn := fun _ => fun
  | [d1, d2, d3, d4] => { results := [.lit (.bool false)], args := [d1, d2, d3, d4] }
  | _ => none }
def PoolFormWrongFalsely : Prop := poolFormRow.holds Tryd.pinned (OpenSpec.ofChange poolFormWrong)

/-- 'demesnelaw12.PoolSlots': WHATEVER THE INPUT: true; the input reads as it did. -/
def poolSlotsSpec : ChangeSpec := { name := "poolSlots", fn := fun _ => fun
  | [d] => { results := [.lit (.bool true)], args := [d] }
  | _ => none }
def poolSlotsRow : OpenClaim := { program := "ytegnablmooijmaadoor", sum := "65438b9577eabf384980681803f2d1451f4c848eafa852697258b5ce682cb2f8", func := "demesne/demesnelaw12.PoolSlots", spec := "poolSlots", inPlace := ["slices.overlaps[demesne/pool.Node]", "math/bits.Sub64"], unfollowed := true, recurses := true, named := ["demesne/word.letters", "demesne/word.marks"], apart := false, laid := [("demesne/word.letters", laid_demesne_word_letters), ("demesne/word.marks", laid_demesne_word_marks)] }
def PoolSlotsSaid : Prop := poolSlotsRow.holds Tryd.pinned (OpenSpec.ofChange poolSlotsSpec)

/-- ITS FALSE NEIGHBOUR: 'it returns false'. Refute it at one input. -/
def poolSlotsWrong : ChangeSpec := { name := "poolSlots", fn := fun _ => fun
  | [d] => { results := [.lit (.bool false)], args := [d] }
  | _ => none }
def PoolSlotsWrongFalsely : Prop := poolSlotsRow.holds Tryd.pinned (OpenSpec.ofChange poolSlotsWrong)

/-- 'demesnelaw12.PoolRight': WHATEVER THE INPUT: true; the input reads as it did. -/
def poolRightSpec : ChangeSpec := { name := "poolRight", fn := fun _ => fun
  | [d] => { results := [.lit (.bool true)], args := [d] }
  | _ => none }
def poolRightRow : OpenClaim := { program := "ytegnablmooijmaadoor", sum := "65438b9577eabf384980681803f2d1451f4c848eafa852697258b5ce682cb2f8", func := "demesne/demesnelaw12.PoolRight", spec := "poolRight", inPlace := ["slices.overlaps[demesne/pool.Node]", "math/bits.Sub64", "math/bits.Add64"], unfollowed := true, recurses := true, named := ["demesne/word.letters", "demesne/word.marks"], apart := false, laid := [("demesne/word.letters", laid_demesne_word_letters), ("demesne/word.marks", laid_demesne_word_marks)] }
def PoolRightSaid : Prop := poolRightRow.holds Tryd.pinned (OpenSpec.ofChange poolRightSpec)

/-- ITS FALSE NEIGHBOUR: 'it returns false'. Refute it at one input. -/
def poolRightWrong : ChangeSpec := { name := "poolRight", fn := fun _ => fun
  | [d] => { results := [.lit (.bool false)], args := [d] }
  | _ => none }
def PoolRightWrongFalsely : Prop := poolRightRow.holds Tryd.pinned (OpenSpec.ofChange poolRightWrong)

/- THE SECOND FORM. 'bulk': how many values and letters a reading holds, each counted each time it is reached (what is shared counts as often as it is met; a slice's spare places count too). A statement '..UptoSaid' is the law's where the arguments, and the package variables that the reading takes, are together of bulk at most 1048576: NARROWER than '..Said'. Prove '..Said' where nothing that the law and all that it calls make is longer than what came in: it says more and counts as full. Else prove '..UptoSaid'. A law counts once. -/
mutual
def uptoBulk {H : Type} : DataW H → Nat
  | .lit (.string bytes) => bytes.length + 1
  | .lit _ => 1
  | .nil => 1
  | .ptr d => uptoBulk d + 1
  | .slice elems spare => uptoBulkAll elems + uptoBulkAll spare + 1
  | .agg parts => uptoBulkAll parts + 1
  | .iface _ d => uptoBulk d + 1
  | .map entries => uptoBulkEntries entries + 1
  | .held _ => 1
def uptoBulkAll {H : Type} : List (DataW H) → Nat
  | [] => 0
  | d :: r => uptoBulk d + uptoBulkAll r
def uptoBulkEntries {H : Type} : List (Lit × DataW H) → Nat
  | [] => 0
  | x :: r => uptoBulkEntry x + uptoBulkEntries r
def uptoBulkEntry {H : Type} : Lit × DataW H → Nat
  | (.string bytes, d) => bytes.length + uptoBulk d + 1
  | (_, d) => uptoBulk d + 1
 end
def uptoSmall : (H : Type) → List (DataW H) → Bool := fun _ ds => decide (uptoBulkAll ds ≤ 1048576)
def OpenSpec.upto (s : _root_.Go.ChangeSpec) : _root_.Go.OpenSpec := { _root_.Go.OpenSpec.ofChange s with cond := some uptoSmall }

/-- 'demesnelaw12.PoolLays', WHERE WHAT IT READS IS OF BULK AT MOST 1048576: true; the input reads as it did. -/
def poolLaysUptoRow : OpenClaim := { program := "ytegnablmooijmaadoor", sum := "65438b9577eabf384980681803f2d1451f4c848eafa852697258b5ce682cb2f8", func := "demesne/demesnelaw12.PoolLays", spec := "poolLays", inPlace := ["slices.overlaps[demesne/pool.Node]", "math/bits.Sub64"], unfollowed := true, recurses := true, named := ["demesne/word.letters", "demesne/word.marks"], apart := false, laid := [("demesne/word.letters", laid_demesne_word_letters), ("demesne/word.marks", laid_demesne_word_marks)], narrowed := true }
def PoolLaysUptoSaid : Prop := poolLaysUptoRow.holds Tryd.pinned (OpenSpec.upto poolLaysSpec)

/-- 'demesnelaw12.PoolFails', WHERE WHAT IT READS IS OF BULK AT MOST 1048576: true; the input reads as it did. -/
def poolFailsUptoRow : OpenClaim := { program := "ytegnablmooijmaadoor", sum := "65438b9577eabf384980681803f2d1451f4c848eafa852697258b5ce682cb2f8", func := "demesne/demesnelaw12.PoolFails", spec := "poolFails", inPlace := ["slices.overlaps[demesne/pool.Node]", "math/bits.Sub64"], unfollowed := true, recurses := true, named := ["demesne/word.letters", "demesne/word.marks"], apart := false, laid := [("demesne/word.letters", laid_demesne_word_letters), ("demesne/word.marks", laid_demesne_word_marks)], narrowed := true }
def PoolFailsUptoSaid : Prop := poolFailsUptoRow.holds Tryd.pinned (OpenSpec.upto poolFailsSpec)

/-- 'demesnelaw12.PoolAdds', WHERE WHAT IT READS IS OF BULK AT MOST 1048576: true; the input reads as it did. -/
def poolAddsUptoRow : OpenClaim := { program := "ytegnablmooijmaadoor", sum := "65438b9577eabf384980681803f2d1451f4c848eafa852697258b5ce682cb2f8", func := "demesne/demesnelaw12.PoolAdds", spec := "poolAdds", inPlace := ["slices.overlaps[demesne/pool.Node]", "math/bits.Sub64"], unfollowed := true, recurses := true, named := ["demesne/word.letters", "demesne/word.marks"], apart := false, laid := [("demesne/word.letters", laid_demesne_word_letters), ("demesne/word.marks", laid_demesne_word_marks)], narrowed := true }
def PoolAddsUptoSaid : Prop := poolAddsUptoRow.holds Tryd.pinned (OpenSpec.upto poolAddsSpec)

/-- 'demesnelaw12.PoolForm', WHERE WHAT IT READS IS OF BULK AT MOST 1048576: true; the input reads as it did. -/
def poolFormUptoRow : OpenClaim := { program := "ytegnablmooijmaadoor", sum := "65438b9577eabf384980681803f2d1451f4c848eafa852697258b5ce682cb2f8", func := "demesne/demesnelaw12.PoolForm", spec := "poolForm", inPlace := ["slices.overlaps[demesne/pool.Node]", "math/bits.Sub64"], unfollowed := true, recurses := true, named := ["demesne/word.letters", "demesne/word.marks"], apart := false, laid := [("demesne/word.letters", laid_demesne_word_letters), ("demesne/word.marks", laid_demesne_word_marks)], narrowed := true }
def PoolFormUptoSaid : Prop := poolFormUptoRow.holds Tryd.pinned (OpenSpec.upto poolFormSpec)

/-- 'demesnelaw12.PoolSlots', WHERE WHAT IT READS IS OF BULK AT MOST 1048576: true; the input reads as it did. -/
def poolSlotsUptoRow : OpenClaim := { program := "ytegnablmooijmaadoor", sum := "65438b9577eabf384980681803f2d1451f4c848eafa852697258b5ce682cb2f8", func := "demesne/demesnelaw12.PoolSlots", spec := "poolSlots", inPlace := ["slices.overlaps[demesne/pool.Node]", "math/bits.Sub64"], unfollowed := true, recurses := true, named := ["demesne/word.letters", "demesne/word.marks"], apart := false, laid := [("demesne/word.letters", laid_demesne_word_letters), ("demesne/word.marks", laid_demesne_word_marks)], narrowed := true }
def PoolSlotsUptoSaid : Prop := poolSlotsUptoRow.holds Tryd.pinned (OpenSpec.upto poolSlotsSpec)

/-- 'demesnelaw12.PoolRight', WHERE WHAT IT READS IS OF BULK AT MOST 1048576: true; the input reads as it did. -/
def poolRightUptoRow : OpenClaim := { program := "ytegnablmooijmaadoor", sum := "65438b9577eabf384980681803f2d1451f4c848eafa852697258b5ce682cb2f8", func := "demesne/demesnelaw12.PoolRight", spec := "poolRight", inPlace := ["slices.overlaps[demesne/pool.Node]", "math/bits.Sub64", "math/bits.Add64"], unfollowed := true, recurses := true, named := ["demesne/word.letters", "demesne/word.marks"], apart := false, laid := [("demesne/word.letters", laid_demesne_word_letters), ("demesne/word.marks", laid_demesne_word_marks)], narrowed := true }
def PoolRightUptoSaid : Prop := poolRightUptoRow.holds Tryd.pinned (OpenSpec.upto poolRightSpec)

end Rows
end Go.Proofs.YtegnablmooijmaaDoor
