/-
  NARROWER THAN 'FOR EVERY INPUT', by the rows' own cells (each row's printed sentence says how): StateStreams: laid · StateRight: laid · StateSubmits: laid · StateForm: laid · StateSums: laid · StateBegins: laid.
  DERIVED. THE GIVEN ROWS OF THIS SEAT. 6 by the template 'for every input the law returns true; each argument reads behind the call as it read before'; 0 by the template 'total and deterministic' (their statements: YtjnbpclolnmimaaGreatDoorTotals.lean).
  GIVEN WITH THE SEED: the statements are not yours to turn. If you find one false, say at which input.
  Laid BY PROGRAM, IN A SANDBOX (cutbox-rows.mjs): the forced cells as the released guide's own fill.sh prints them over the translation ceba1d5a1c1bf226… (all of the seat's roots in one cut). By AI agents, Wed Nov 11 2026. No macro, syntax, notation, axiom, sorry.
-/
import Derived.Test.YtjnbpclolnmimaaGreatDoorChecked
import GoSem.PinnedTables
import GoSem.Claim
import GoSem.ClaimJoined
import GoSem.ClaimMapViews
import Derived.JoinedTies
import Derived.KernelRfl
namespace Go.Proofs.YtjnbpclolnmimaaGreatDoor
/- THE CELL 'sum', in the pinned program and in every row, IS THE sha256 OF THE DUMP (.gsa) THAT YtjnbpclolnmimaaGreatDoorProg.lean LOADS. Nothing in Lean hashes anything: it is a label: what it is worth is what the hold of that sum in a sandbox is worth. -/
noncomputable def Tryz.pinned : Pinned := { name := "ytjnbpclolnmimaagreatdoor", sum := "ceba1d5a1c1bf226ff9946d0737db7532959f8912d8019f7f1997a4bde5ce8f3", checked := Tryz.checked }
namespace Rows
def none {H : Type} : Left H := { results := [], args := [] }

/- WHAT THE LISTED PACKAGE-LEVEL VARIABLES READ AS WHEN THE CALL BEGINS. Each datum BY PROGRAM (the guide's laid-datum.mjs) off the statement by which the dump's own 'gosem.cut.vars' lays the variable. In a bare row this is a premise. The card (YtjnbpclolnmimaaGreatDoorCards.lean) ties it to the program's text. -/
def laid_unicode_utf8_acceptRanges {H : Type} : DataW H := .agg [.agg [.lit (.int .u8 128), .lit (.int .u8 191)], .agg [.lit (.int .u8 160), .lit (.int .u8 191)], .agg [.lit (.int .u8 128), .lit (.int .u8 159)], .agg [.lit (.int .u8 144), .lit (.int .u8 191)], .agg [.lit (.int .u8 128), .lit (.int .u8 143)], .agg [.lit (.int .u8 0), .lit (.int .u8 0)], .agg [.lit (.int .u8 0), .lit (.int .u8 0)], .agg [.lit (.int .u8 0), .lit (.int .u8 0)], .agg [.lit (.int .u8 0), .lit (.int .u8 0)], .agg [.lit (.int .u8 0), .lit (.int .u8 0)], .agg [.lit (.int .u8 0), .lit (.int .u8 0)], .agg [.lit (.int .u8 0), .lit (.int .u8 0)], .agg [.lit (.int .u8 0), .lit (.int .u8 0)], .agg [.lit (.int .u8 0), .lit (.int .u8 0)], .agg [.lit (.int .u8 0), .lit (.int .u8 0)], .agg [.lit (.int .u8 0), .lit (.int .u8 0)]]
def laid_demesne_word_letters {H : Type} : DataW H := .agg [.agg [.lit (.int .i32 97), .lit (.int .i32 122)], .agg [.lit (.int .i32 945), .lit (.int .i32 969)], .agg [.lit (.int .i32 1072), .lit (.int .i32 1103)]]
def laid_demesne_word_marks {H : Type} : DataW H := .agg [.agg [.lit (.int .i32 48), .lit (.int .i32 57)], .agg [.lit (.int .i32 45), .lit (.int .i32 45)]]
/-- One of Go's own tables, pinned by name: the form's constant. -/
def laid_unicode_utf8_first : DataW Unit := Go.Pinned.utf8First

/-- 'demesnelaw15.StateStreams': WHATEVER THE INPUT: true; the input reads as it did. -/
def stateStreamsSpec : ChangeSpec := { name := "stateStreams", fn := fun _ => fun
  | [d1, d2] => { results := [.lit (.bool true)], args := [d1, d2] }
  | _ => none }
def stateStreamsRow : OpenClaim := { program := "ytjnbpclolnmimaagreatdoor", sum := "ceba1d5a1c1bf226ff9946d0737db7532959f8912d8019f7f1997a4bde5ce8f3", func := "demesne/demesnelaw15.StateStreams", spec := "stateStreams", inPlace := ["internal/bytealg.CountString", "internal/bytealg.IndexByteString", "internal/bytealg.IndexString", "internal/abi.NoEscape", "internal/bytealg.MakeNoZero", "slices.overlaps[string]", "math/bits.Sub64", "slices.overlaps[demesne/quota.Entry]", "slices.overlaps[demesne/pool.Node]", "slices.overlaps[demesne/queue.Entry]", "math/bits.Add64"], unfollowed := true, recurses := true, named := ["unicode/utf8.first", "unicode/utf8.acceptRanges", "internal/bytealg.MaxLen", "demesne/word.letters", "demesne/word.marks"], apart := false, laid := [("unicode/utf8.acceptRanges", laid_unicode_utf8_acceptRanges), ("demesne/word.letters", laid_demesne_word_letters), ("demesne/word.marks", laid_demesne_word_marks), ("unicode/utf8.first", laid_unicode_utf8_first)] }
def StateStreamsSaid : Prop := stateStreamsRow.holds Tryz.pinned (OpenSpec.ofChange stateStreamsSpec)

/-- ITS FALSE NEIGHBOUR: 'it returns false'. Refute it at one input. -/
def stateStreamsWrong : ChangeSpec := { name := "stateStreams", fn := fun _ => fun
  | [d1, d2] => { results := [.lit (.bool false)], args := [d1, d2] }
  | _ => none }
def StateStreamsWrongFalsely : Prop := stateStreamsRow.holds Tryz.pinned (OpenSpec.ofChange stateStreamsWrong)

/-- 'demesnelaw15.StateRight': WHATEVER THE INPUT: true; the input reads as it did. -/
def stateRightSpec : ChangeSpec := { name := "stateRight", fn := fun _ => fun
  | [d1, d2] => { results := [.lit (.bool true)], args := [d1, d2] }
  | _ => none }
def stateRightRow : OpenClaim := { program := "ytjnbpclolnmimaagreatdoor", sum := "ceba1d5a1c1bf226ff9946d0737db7532959f8912d8019f7f1997a4bde5ce8f3", func := "demesne/demesnelaw15.StateRight", spec := "stateRight", inPlace := ["internal/bytealg.CountString", "internal/bytealg.IndexByteString", "internal/bytealg.IndexString", "internal/abi.NoEscape", "internal/bytealg.MakeNoZero", "slices.overlaps[string]", "math/bits.Sub64", "slices.overlaps[demesne/quota.Entry]", "slices.overlaps[demesne/pool.Node]", "slices.overlaps[demesne/queue.Entry]", "math/bits.Add64"], unfollowed := true, recurses := true, named := ["unicode/utf8.first", "unicode/utf8.acceptRanges", "internal/bytealg.MaxLen", "demesne/word.letters", "demesne/word.marks"], apart := false, laid := [("unicode/utf8.acceptRanges", laid_unicode_utf8_acceptRanges), ("demesne/word.letters", laid_demesne_word_letters), ("demesne/word.marks", laid_demesne_word_marks), ("unicode/utf8.first", laid_unicode_utf8_first)] }
def StateRightSaid : Prop := stateRightRow.holds Tryz.pinned (OpenSpec.ofChange stateRightSpec)

/-- ITS FALSE NEIGHBOUR: 'it returns false'. Refute it at one input. -/
def stateRightWrong : ChangeSpec := { name := "stateRight", fn := fun _ => fun
  | [d1, d2] => { results := [.lit (.bool false)], args := [d1, d2] }
  | _ => none }
def StateRightWrongFalsely : Prop := stateRightRow.holds Tryz.pinned (OpenSpec.ofChange stateRightWrong)

/-- 'demesnelaw15.StateSubmits': WHATEVER THE INPUT: true; the input reads as it did. -/
def stateSubmitsSpec : ChangeSpec := { name := "stateSubmits", fn := fun _ => fun
  | [d1, d2, d3] => { results := [.lit (.bool true)], args := [d1, d2, d3] }
  | _ => none }
def stateSubmitsRow : OpenClaim := { program := "ytjnbpclolnmimaagreatdoor", sum := "ceba1d5a1c1bf226ff9946d0737db7532959f8912d8019f7f1997a4bde5ce8f3", func := "demesne/demesnelaw15.StateSubmits", spec := "stateSubmits", inPlace := ["internal/bytealg.CountString", "internal/bytealg.IndexByteString", "internal/bytealg.IndexString", "internal/abi.NoEscape", "internal/bytealg.MakeNoZero", "slices.overlaps[string]", "math/bits.Sub64", "slices.overlaps[demesne/quota.Entry]", "slices.overlaps[demesne/pool.Node]", "slices.overlaps[demesne/queue.Entry]", "math/bits.Add64"], unfollowed := true, recurses := true, named := ["unicode/utf8.first", "unicode/utf8.acceptRanges", "internal/bytealg.MaxLen", "demesne/word.letters", "demesne/word.marks"], apart := false, laid := [("unicode/utf8.acceptRanges", laid_unicode_utf8_acceptRanges), ("demesne/word.letters", laid_demesne_word_letters), ("demesne/word.marks", laid_demesne_word_marks), ("unicode/utf8.first", laid_unicode_utf8_first)] }
def StateSubmitsSaid : Prop := stateSubmitsRow.holds Tryz.pinned (OpenSpec.ofChange stateSubmitsSpec)

/-- ITS FALSE NEIGHBOUR: 'it returns false'. Refute it at one input. -/
def stateSubmitsWrong : ChangeSpec := { name := "stateSubmits", fn := fun _ => fun
  | [d1, d2, d3] => { results := [.lit (.bool false)], args := [d1, d2, d3] }
  | _ => none }
def StateSubmitsWrongFalsely : Prop := stateSubmitsRow.holds Tryz.pinned (OpenSpec.ofChange stateSubmitsWrong)

/-- 'demesnelaw15.StateForm': WHATEVER THE INPUT: true; the input reads as it did. -/
def stateFormSpec : ChangeSpec := { name := "stateForm", fn := fun _ => fun
  | [d1, d2, d3, d4] => { results := [.lit (.bool true)], args := [d1, d2, d3, d4] }
  | _ => none }
def stateFormRow : OpenClaim := { program := "ytjnbpclolnmimaagreatdoor", sum := "ceba1d5a1c1bf226ff9946d0737db7532959f8912d8019f7f1997a4bde5ce8f3", func := "demesne/demesnelaw15.StateForm", spec := "stateForm", inPlace := ["internal/bytealg.CountString", "internal/bytealg.IndexByteString", "internal/bytealg.IndexString", "internal/abi.NoEscape", "internal/bytealg.MakeNoZero", "slices.overlaps[string]", "math/bits.Sub64", "slices.overlaps[demesne/quota.Entry]", "slices.overlaps[demesne/pool.Node]", "slices.overlaps[demesne/queue.Entry]", "math/bits.Add64"], unfollowed := true, recurses := true, named := ["unicode/utf8.first", "unicode/utf8.acceptRanges", "internal/bytealg.MaxLen", "demesne/word.letters", "demesne/word.marks"], apart := false, laid := [("unicode/utf8.acceptRanges", laid_unicode_utf8_acceptRanges), ("demesne/word.letters", laid_demesne_word_letters), ("demesne/word.marks", laid_demesne_word_marks), ("unicode/utf8.first", laid_unicode_utf8_first)] }
def StateFormSaid : Prop := stateFormRow.holds Tryz.pinned (OpenSpec.ofChange stateFormSpec)

/-- ITS FALSE NEIGHBOUR: 'it returns false'. Refute it at one input. -/
def stateFormWrong : ChangeSpec := { name := "stateForm", fn := fun _ => fun
  | [d1, d2, d3, d4] => { results := [.lit (.bool false)], args := [d1, d2, d3, d4] }
  | _ => none }
def StateFormWrongFalsely : Prop := stateFormRow.holds Tryz.pinned (OpenSpec.ofChange stateFormWrong)

/-- 'demesnelaw15.StateSums': WHATEVER THE INPUT: true; the input reads as it did. -/
def stateSumsSpec : ChangeSpec := { name := "stateSums", fn := fun _ => fun
  | [d1, d2] => { results := [.lit (.bool true)], args := [d1, d2] }
  | _ => none }
def stateSumsRow : OpenClaim := { program := "ytjnbpclolnmimaagreatdoor", sum := "ceba1d5a1c1bf226ff9946d0737db7532959f8912d8019f7f1997a4bde5ce8f3", func := "demesne/demesnelaw15.StateSums", spec := "stateSums", inPlace := ["internal/bytealg.CountString", "internal/bytealg.IndexByteString", "internal/bytealg.IndexString", "internal/abi.NoEscape", "internal/bytealg.MakeNoZero", "slices.overlaps[string]", "math/bits.Sub64", "slices.overlaps[demesne/quota.Entry]", "slices.overlaps[demesne/pool.Node]", "slices.overlaps[demesne/queue.Entry]", "math/bits.Add64"], unfollowed := true, recurses := true, named := ["unicode/utf8.first", "unicode/utf8.acceptRanges", "internal/bytealg.MaxLen", "demesne/word.letters", "demesne/word.marks"], apart := false, laid := [("unicode/utf8.acceptRanges", laid_unicode_utf8_acceptRanges), ("demesne/word.letters", laid_demesne_word_letters), ("demesne/word.marks", laid_demesne_word_marks), ("unicode/utf8.first", laid_unicode_utf8_first)] }
def StateSumsSaid : Prop := stateSumsRow.holds Tryz.pinned (OpenSpec.ofChange stateSumsSpec)

/-- ITS FALSE NEIGHBOUR: 'it returns false'. Refute it at one input. -/
def stateSumsWrong : ChangeSpec := { name := "stateSums", fn := fun _ => fun
  | [d1, d2] => { results := [.lit (.bool false)], args := [d1, d2] }
  | _ => none }
def StateSumsWrongFalsely : Prop := stateSumsRow.holds Tryz.pinned (OpenSpec.ofChange stateSumsWrong)

/-- 'demesnelaw15.StateBegins': WHATEVER THE INPUT: true; the input reads as it did. -/
def stateBeginsSpec : ChangeSpec := { name := "stateBegins", fn := fun _ => fun
  | [d1, d2, d3, d4] => { results := [.lit (.bool true)], args := [d1, d2, d3, d4] }
  | _ => none }
def stateBeginsRow : OpenClaim := { program := "ytjnbpclolnmimaagreatdoor", sum := "ceba1d5a1c1bf226ff9946d0737db7532959f8912d8019f7f1997a4bde5ce8f3", func := "demesne/demesnelaw15.StateBegins", spec := "stateBegins", inPlace := ["internal/bytealg.CountString", "internal/bytealg.IndexByteString", "internal/bytealg.IndexString", "internal/abi.NoEscape", "internal/bytealg.MakeNoZero", "slices.overlaps[string]", "math/bits.Sub64", "slices.overlaps[demesne/quota.Entry]", "slices.overlaps[demesne/pool.Node]", "slices.overlaps[demesne/queue.Entry]", "math/bits.Add64"], unfollowed := true, recurses := true, named := ["unicode/utf8.first", "unicode/utf8.acceptRanges", "internal/bytealg.MaxLen", "demesne/word.letters", "demesne/word.marks"], apart := false, laid := [("unicode/utf8.acceptRanges", laid_unicode_utf8_acceptRanges), ("demesne/word.letters", laid_demesne_word_letters), ("demesne/word.marks", laid_demesne_word_marks), ("unicode/utf8.first", laid_unicode_utf8_first)] }
def StateBeginsSaid : Prop := stateBeginsRow.holds Tryz.pinned (OpenSpec.ofChange stateBeginsSpec)

/-- ITS FALSE NEIGHBOUR: 'it returns false'. Refute it at one input. -/
def stateBeginsWrong : ChangeSpec := { name := "stateBegins", fn := fun _ => fun
  | [d1, d2, d3, d4] => { results := [.lit (.bool false)], args := [d1, d2, d3, d4] }
  | _ => none }
def StateBeginsWrongFalsely : Prop := stateBeginsRow.holds Tryz.pinned (OpenSpec.ofChange stateBeginsWrong)

/- THE SECOND FORM. 'bulk': how many values and letters a reading holds, each counted each time it is reached (what is shared counts as often as it is met; a slice's spare places count too). A statement '..UptoSaid' is the law's where the arguments, and the package variables that the reading takes, are together of bulk at most 1048576: NARROWER than '..Said'. Prove '..Said' where nothing that the law and all that it calls make is longer than what came in: it says more and counts as full. Else prove '..UptoSaid'. A law counts once. -/
mutual
def uptoBulk {H : Type} : DataW H → Nat
  | .lit (.string bytes) => bytes.length + 1
  | .lit _ => 1
  | .nil => 1
  | .ptr d => uptoBulk d + 1
  | .slice elems spare => uptoBulkAll elems + uptoBulkAll spare + 1
  | .agg parts => uptoBulkAll parts + 1
  | .iface _ d => uptoBulk d + 1
  | .map entries => uptoBulkEntries entries + 1
  | .held _ => 1
def uptoBulkAll {H : Type} : List (DataW H) → Nat
  | [] => 0
  | d :: r => uptoBulk d + uptoBulkAll r
def uptoBulkEntries {H : Type} : List (Lit × DataW H) → Nat
  | [] => 0
  | x :: r => uptoBulkEntry x + uptoBulkEntries r
def uptoBulkEntry {H : Type} : Lit × DataW H → Nat
  | (.string bytes, d) => bytes.length + uptoBulk d + 1
  | (_, d) => uptoBulk d + 1
 end
def uptoSmall : (H : Type) → List (DataW H) → Bool := fun _ ds => decide (uptoBulkAll ds ≤ 1048576)
def OpenSpec.upto (s : _root_.Go.ChangeSpec) : _root_.Go.OpenSpec := { _root_.Go.OpenSpec.ofChange s with cond := some uptoSmall }

/-- 'demesnelaw15.StateStreams', WHERE WHAT IT READS IS OF BULK AT MOST 1048576: true; the input reads as it did. -/
def stateStreamsUptoRow : OpenClaim := { program := "ytjnbpclolnmimaagreatdoor", sum := "ceba1d5a1c1bf226ff9946d0737db7532959f8912d8019f7f1997a4bde5ce8f3", func := "demesne/demesnelaw15.StateStreams", spec := "stateStreams", inPlace := ["internal/bytealg.CountString", "internal/bytealg.IndexByteString", "internal/bytealg.IndexString", "internal/abi.NoEscape", "internal/bytealg.MakeNoZero", "slices.overlaps[string]", "math/bits.Sub64", "slices.overlaps[demesne/quota.Entry]", "slices.overlaps[demesne/pool.Node]", "slices.overlaps[demesne/queue.Entry]", "math/bits.Add64"], unfollowed := true, recurses := true, named := ["unicode/utf8.first", "unicode/utf8.acceptRanges", "internal/bytealg.MaxLen", "demesne/word.letters", "demesne/word.marks"], apart := false, laid := [("unicode/utf8.acceptRanges", laid_unicode_utf8_acceptRanges), ("demesne/word.letters", laid_demesne_word_letters), ("demesne/word.marks", laid_demesne_word_marks), ("unicode/utf8.first", laid_unicode_utf8_first)], narrowed := true }
def StateStreamsUptoSaid : Prop := stateStreamsUptoRow.holds Tryz.pinned (OpenSpec.upto stateStreamsSpec)

/-- 'demesnelaw15.StateRight', WHERE WHAT IT READS IS OF BULK AT MOST 1048576: true; the input reads as it did. -/
def stateRightUptoRow : OpenClaim := { program := "ytjnbpclolnmimaagreatdoor", sum := "ceba1d5a1c1bf226ff9946d0737db7532959f8912d8019f7f1997a4bde5ce8f3", func := "demesne/demesnelaw15.StateRight", spec := "stateRight", inPlace := ["internal/bytealg.CountString", "internal/bytealg.IndexByteString", "internal/bytealg.IndexString", "internal/abi.NoEscape", "internal/bytealg.MakeNoZero", "slices.overlaps[string]", "math/bits.Sub64", "slices.overlaps[demesne/quota.Entry]", "slices.overlaps[demesne/pool.Node]", "slices.overlaps[demesne/queue.Entry]", "math/bits.Add64"], unfollowed := true, recurses := true, named := ["unicode/utf8.first", "unicode/utf8.acceptRanges", "internal/bytealg.MaxLen", "demesne/word.letters", "demesne/word.marks"], apart := false, laid := [("unicode/utf8.acceptRanges", laid_unicode_utf8_acceptRanges), ("demesne/word.letters", laid_demesne_word_letters), ("demesne/word.marks", laid_demesne_word_marks), ("unicode/utf8.first", laid_unicode_utf8_first)], narrowed := true }
def StateRightUptoSaid : Prop := stateRightUptoRow.holds Tryz.pinned (OpenSpec.upto stateRightSpec)

/-- 'demesnelaw15.StateSubmits', WHERE WHAT IT READS IS OF BULK AT MOST 1048576: true; the input reads as it did. -/
def stateSubmitsUptoRow : OpenClaim := { program := "ytjnbpclolnmimaagreatdoor", sum := "ceba1d5a1c1bf226ff9946d0737db7532959f8912d8019f7f1997a4bde5ce8f3", func := "demesne/demesnelaw15.StateSubmits", spec := "stateSubmits", inPlace := ["internal/bytealg.CountString", "internal/bytealg.IndexByteString", "internal/bytealg.IndexString", "internal/abi.NoEscape", "internal/bytealg.MakeNoZero", "slices.overlaps[string]", "math/bits.Sub64", "slices.overlaps[demesne/quota.Entry]", "slices.overlaps[demesne/pool.Node]", "slices.overlaps[demesne/queue.Entry]", "math/bits.Add64"], unfollowed := true, recurses := true, named := ["unicode/utf8.first", "unicode/utf8.acceptRanges", "internal/bytealg.MaxLen", "demesne/word.letters", "demesne/word.marks"], apart := false, laid := [("unicode/utf8.acceptRanges", laid_unicode_utf8_acceptRanges), ("demesne/word.letters", laid_demesne_word_letters), ("demesne/word.marks", laid_demesne_word_marks), ("unicode/utf8.first", laid_unicode_utf8_first)], narrowed := true }
def StateSubmitsUptoSaid : Prop := stateSubmitsUptoRow.holds Tryz.pinned (OpenSpec.upto stateSubmitsSpec)

/-- 'demesnelaw15.StateForm', WHERE WHAT IT READS IS OF BULK AT MOST 1048576: true; the input reads as it did. -/
def stateFormUptoRow : OpenClaim := { program := "ytjnbpclolnmimaagreatdoor", sum := "ceba1d5a1c1bf226ff9946d0737db7532959f8912d8019f7f1997a4bde5ce8f3", func := "demesne/demesnelaw15.StateForm", spec := "stateForm", inPlace := ["internal/bytealg.CountString", "internal/bytealg.IndexByteString", "internal/bytealg.IndexString", "internal/abi.NoEscape", "internal/bytealg.MakeNoZero", "slices.overlaps[string]", "math/bits.Sub64", "slices.overlaps[demesne/quota.Entry]", "slices.overlaps[demesne/pool.Node]", "slices.overlaps[demesne/queue.Entry]", "math/bits.Add64"], unfollowed := true, recurses := true, named := ["unicode/utf8.first", "unicode/utf8.acceptRanges", "internal/bytealg.MaxLen", "demesne/word.letters", "demesne/word.marks"], apart := false, laid := [("unicode/utf8.acceptRanges", laid_unicode_utf8_acceptRanges), ("demesne/word.letters", laid_demesne_word_letters), ("demesne/word.marks", laid_demesne_word_marks), ("unicode/utf8.first", laid_unicode_utf8_first)], narrowed := true }
def StateFormUptoSaid : Prop := stateFormUptoRow.holds Tryz.pinned (OpenSpec.upto stateFormSpec)

/-- 'demesnelaw15.StateSums', WHERE WHAT IT READS IS OF BULK AT MOST 1048576: true; the input reads as it did. -/
def stateSumsUptoRow : OpenClaim := { program := "ytjnbpclolnmimaagreatdoor", sum := "ceba1d5a1c1bf226ff9946d0737db7532959f8912d8019f7f1997a4bde5ce8f3", func := "demesne/demesnelaw15.StateSums", spec := "stateSums", inPlace := ["internal/bytealg.CountString", "internal/bytealg.IndexByteString", "internal/bytealg.IndexString", "internal/abi.NoEscape", "internal/bytealg.MakeNoZero", "slices.overlaps[string]", "math/bits.Sub64", "slices.overlaps[demesne/quota.Entry]", "slices.overlaps[demesne/pool.Node]", "slices.overlaps[demesne/queue.Entry]", "math/bits.Add64"], unfollowed := true, recurses := true, named := ["unicode/utf8.first", "unicode/utf8.acceptRanges", "internal/bytealg.MaxLen", "demesne/word.letters", "demesne/word.marks"], apart := false, laid := [("unicode/utf8.acceptRanges", laid_unicode_utf8_acceptRanges), ("demesne/word.letters", laid_demesne_word_letters), ("demesne/word.marks", laid_demesne_word_marks), ("unicode/utf8.first", laid_unicode_utf8_first)], narrowed := true }
def StateSumsUptoSaid : Prop := stateSumsUptoRow.holds Tryz.pinned (OpenSpec.upto stateSumsSpec)

/-- 'demesnelaw15.StateBegins', WHERE WHAT IT READS IS OF BULK AT MOST 1048576: true; the input reads as it did. -/
def stateBeginsUptoRow : OpenClaim := { program := "ytjnbpclolnmimaagreatdoor", sum := "ceba1d5a1c1bf226ff9946d0737db7532959f8912d8019f7f1997a4bde5ce8f3", func := "demesne/demesnelaw15.StateBegins", spec := "stateBegins", inPlace := ["internal/bytealg.CountString", "internal/bytealg.IndexByteString", "internal/bytealg.IndexString", "internal/abi.NoEscape", "internal/bytealg.MakeNoZero", "slices.overlaps[string]", "math/bits.Sub64", "slices.overlaps[demesne/quota.Entry]", "slices.overlaps[demesne/pool.Node]", "slices.overlaps[demesne/queue.Entry]", "math/bits.Add64"], unfollowed := true, recurses := true, named := ["unicode/utf8.first", "unicode/utf8.acceptRanges", "internal/bytealg.MaxLen", "demesne/word.letters", "demesne/word.marks"], apart := false, laid := [("unicode/utf8.acceptRanges", laid_unicode_utf8_acceptRanges), ("demesne/word.letters", laid_demesne_word_letters), ("demesne/word.marks", laid_demesne_word_marks), ("unicode/utf8.first", laid_unicode_utf8_first)], narrowed := true }
def StateBeginsUptoSaid : Prop := stateBeginsUptoRow.holds Tryz.pinned (OpenSpec.upto stateBeginsSpec)

end Rows
end Go.Proofs.YtjnbpclolnmimaaGreatDoor
