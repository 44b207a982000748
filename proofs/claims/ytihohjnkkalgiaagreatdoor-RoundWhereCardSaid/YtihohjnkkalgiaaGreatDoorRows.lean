/-
  NARROWER THAN 'FOR EVERY INPUT', by the rows' own cells (each row's printed sentence says how): EvictLower: laid · EvictNeeds: laid · EvictSays: laid · EvictCould: laid · RoundFirst: laid · RoundYields: laid · RoundLive: laid · RoundWhere: laid · EvictBegins: laid · RoundRight: laid · RoundCounts: laid.
  DERIVED. THE GIVEN ROWS OF THIS SEAT. 11 by the template 'for every input the law returns true; each argument reads behind the call as it read before'; 0 by the template 'total and deterministic' (their statements: YtihohjnkkalgiaaGreatDoorTotals.lean).
  GIVEN WITH THE SEED: the statements are not yours to turn. If you find one false, say at which input.
  Laid BY PROGRAM, IN A SANDBOX (cutbox-rows.mjs): the forced cells as the released guide's own fill.sh prints them over the translation 2cd518a05a8cb617… (all of the seat's roots in one cut). By AI agents, Wed Nov 11 2026. No macro, syntax, notation, axiom, sorry.
-/
import Derived.Test.YtihohjnkkalgiaaGreatDoorChecked
import GoSem.PinnedTables
import GoSem.Claim
import GoSem.ClaimJoined
import GoSem.ClaimMapViews
import Derived.JoinedTies
import Derived.KernelRfl
namespace Go.Proofs.YtihohjnkkalgiaaGreatDoor
/- THE CELL 'sum', in the pinned program and in every row, IS THE sha256 OF THE DUMP (.gsa) THAT YtihohjnkkalgiaaGreatDoorProg.lean LOADS. Nothing in Lean hashes anything: it is a label: what it is worth is what the hold of that sum in a sandbox is worth. -/
noncomputable def Tryz.pinned : Pinned := { name := "ytihohjnkkalgiaagreatdoor", sum := "2cd518a05a8cb61741f201b12e9f495524b26d8fd441f964f4af7951385bdd50", checked := Tryz.checked }
namespace Rows
def none {H : Type} : Left H := { results := [], args := [] }

/- WHAT THE LISTED PACKAGE-LEVEL VARIABLES READ AS WHEN THE CALL BEGINS. Each datum BY PROGRAM (the guide's laid-datum.mjs) off the statement by which the dump's own 'gosem.cut.vars' lays the variable. In a bare row this is a premise. The card (YtihohjnkkalgiaaGreatDoorCards.lean) ties it to the program's text. -/
def laid_unicode_utf8_acceptRanges {H : Type} : DataW H := .agg [.agg [.lit (.int .u8 128), .lit (.int .u8 191)], .agg [.lit (.int .u8 160), .lit (.int .u8 191)], .agg [.lit (.int .u8 128), .lit (.int .u8 159)], .agg [.lit (.int .u8 144), .lit (.int .u8 191)], .agg [.lit (.int .u8 128), .lit (.int .u8 143)], .agg [.lit (.int .u8 0), .lit (.int .u8 0)], .agg [.lit (.int .u8 0), .lit (.int .u8 0)], .agg [.lit (.int .u8 0), .lit (.int .u8 0)], .agg [.lit (.int .u8 0), .lit (.int .u8 0)], .agg [.lit (.int .u8 0), .lit (.int .u8 0)], .agg [.lit (.int .u8 0), .lit (.int .u8 0)], .agg [.lit (.int .u8 0), .lit (.int .u8 0)], .agg [.lit (.int .u8 0), .lit (.int .u8 0)], .agg [.lit (.int .u8 0), .lit (.int .u8 0)], .agg [.lit (.int .u8 0), .lit (.int .u8 0)], .agg [.lit (.int .u8 0), .lit (.int .u8 0)]]
def laid_demesne_word_letters {H : Type} : DataW H := .agg [.agg [.lit (.int .i32 97), .lit (.int .i32 122)], .agg [.lit (.int .i32 945), .lit (.int .i32 969)], .agg [.lit (.int .i32 1072), .lit (.int .i32 1103)]]
def laid_demesne_word_marks {H : Type} : DataW H := .agg [.agg [.lit (.int .i32 48), .lit (.int .i32 57)], .agg [.lit (.int .i32 45), .lit (.int .i32 45)]]
/-- One of Go's own tables, pinned by name: the form's constant. -/
def laid_unicode_utf8_first : DataW Unit := Go.Pinned.utf8First

/-- 'demesnelaw16.EvictLower': WHATEVER THE INPUT: true; the input reads as it did. -/
def evictLowerSpec : ChangeSpec := { name := "evictLower", fn := fun _ => fun
  | [d1, d2, d3] => { results := [.lit (.bool true)], args := [d1, d2, d3] }
  | _ => none }
def evictLowerRow : OpenClaim := { program := "ytihohjnkkalgiaagreatdoor", sum := "2cd518a05a8cb61741f201b12e9f495524b26d8fd441f964f4af7951385bdd50", func := "demesne/demesnelaw16.EvictLower", spec := "evictLower", inPlace := ["internal/bytealg.CountString", "internal/bytealg.IndexByteString", "internal/bytealg.IndexString", "internal/abi.NoEscape", "internal/bytealg.MakeNoZero", "slices.overlaps[string]", "math/bits.Sub64", "slices.overlaps[demesne/quota.Entry]", "slices.overlaps[demesne/pool.Node]", "slices.overlaps[demesne/queue.Entry]", "math/bits.Add64"], unfollowed := true, recurses := true, named := ["unicode/utf8.first", "unicode/utf8.acceptRanges", "internal/bytealg.MaxLen", "demesne/word.letters", "demesne/word.marks"], apart := false, laid := [("unicode/utf8.acceptRanges", laid_unicode_utf8_acceptRanges), ("demesne/word.letters", laid_demesne_word_letters), ("demesne/word.marks", laid_demesne_word_marks), ("unicode/utf8.first", laid_unicode_utf8_first)] }
def EvictLowerSaid : Prop := evictLowerRow.holds Tryz.pinned (OpenSpec.ofChange evictLowerSpec)

/-- ITS FALSE NEIGHBOUR: 'it returns false'. Refute it at one input. -/
def evictLowerWrong : ChangeSpec := { name := "evictLower", fn := fun _ => fun
  | [d1, d2, d3] => { results := [.lit (.bool false)], args := [d1, d2, d3] }
  | _ => none }
def EvictLowerWrongFalsely : Prop := evictLowerRow.holds Tryz.pinned (OpenSpec.ofChange evictLowerWrong)

/-- 'demesnelaw16.EvictNeeds': WHATEVER THE INPUT: true; the input reads as it did. -/
def evictNeedsSpec : ChangeSpec := { name := "evictNeeds", fn := fun _ => fun
  | [d1, d2, d3, d4] => { results := [.lit (.bool true)], args := [d1, d2, d3, d4] }
  | _ => none }
def evictNeedsRow : OpenClaim := { program := "ytihohjnkkalgiaagreatdoor", sum := "2cd518a05a8cb61741f201b12e9f495524b26d8fd441f964f4af7951385bdd50", func := "demesne/demesnelaw16.EvictNeeds", spec := "evictNeeds", inPlace := ["internal/bytealg.CountString", "internal/bytealg.IndexByteString", "internal/bytealg.IndexString", "internal/abi.NoEscape", "internal/bytealg.MakeNoZero", "slices.overlaps[string]", "math/bits.Sub64", "slices.overlaps[demesne/quota.Entry]", "slices.overlaps[demesne/pool.Node]", "slices.overlaps[demesne/queue.Entry]", "math/bits.Add64"], unfollowed := true, recurses := true, named := ["unicode/utf8.first", "unicode/utf8.acceptRanges", "internal/bytealg.MaxLen", "demesne/word.letters", "demesne/word.marks"], apart := false, laid := [("unicode/utf8.acceptRanges", laid_unicode_utf8_acceptRanges), ("demesne/word.letters", laid_demesne_word_letters), ("demesne/word.marks", laid_demesne_word_marks), ("unicode/utf8.first", laid_unicode_utf8_first)] }
def EvictNeedsSaid : Prop := evictNeedsRow.holds Tryz.pinned (OpenSpec.ofChange evictNeedsSpec)

/-- ITS FALSE NEIGHBOUR: 'it returns false'. Refute it at one input. -/
def evictNeedsWrong : ChangeSpec := { name := "evictNeeds", fn := fun _ => fun
  | [d1, d2, d3, d4] => { results := [.lit (.bool false)], args := [d1, d2, d3, d4] }
  | _ => none }
def EvictNeedsWrongFalsely : Prop := evictNeedsRow.holds Tryz.pinned (OpenSpec.ofChange evictNeedsWrong)

/-- 'demesnelaw16.EvictSays': WHATEVER THE INPUT: true; the input reads as it did. -/
def evictSaysSpec : ChangeSpec := { name := "evictSays", fn := fun _ => fun
  | [d1, d2, d3] => { results := [.lit (.bool true)], args := [d1, d2, d3] }
  | _ => none }
def evictSaysRow : OpenClaim := { program := "ytihohjnkkalgiaagreatdoor", sum := "2cd518a05a8cb61741f201b12e9f495524b26d8fd441f964f4af7951385bdd50", func := "demesne/demesnelaw16.EvictSays", spec := "evictSays", inPlace := ["internal/bytealg.CountString", "internal/bytealg.IndexByteString", "internal/bytealg.IndexString", "internal/abi.NoEscape", "internal/bytealg.MakeNoZero", "slices.overlaps[string]", "math/bits.Sub64", "slices.overlaps[demesne/quota.Entry]", "slices.overlaps[demesne/pool.Node]", "slices.overlaps[demesne/queue.Entry]", "math/bits.Add64"], unfollowed := true, recurses := true, named := ["unicode/utf8.first", "unicode/utf8.acceptRanges", "internal/bytealg.MaxLen", "demesne/word.letters", "demesne/word.marks"], apart := false, laid := [("unicode/utf8.acceptRanges", laid_unicode_utf8_acceptRanges), ("demesne/word.letters", laid_demesne_word_letters), ("demesne/word.marks", laid_demesne_word_marks), ("unicode/utf8.first", laid_unicode_utf8_first)] }
def EvictSaysSaid : Prop := evictSaysRow.holds Tryz.pinned (OpenSpec.ofChange evictSaysSpec)

/-- ITS FALSE NEIGHBOUR: 'it returns false'. Refute it at one input. -/
def evictSaysWrong : ChangeSpec := { name := "evictSays", fn := fun _ => fun
  | [d1, d2, d3] => { results := [.lit (.bool false)], args := [d1, d2, d3] }
  | _ => none }
def EvictSaysWrongFalsely : Prop := evictSaysRow.holds Tryz.pinned (OpenSpec.ofChange evictSaysWrong)

/-- 'demesnelaw16.EvictCould': WHATEVER THE INPUT: true; the input reads as it did. -/
def evictCouldSpec : ChangeSpec := { name := "evictCould", fn := fun _ => fun
  | [d1, d2, d3] => { results := [.lit (.bool true)], args := [d1, d2, d3] }
  | _ => none }
def evictCouldRow : OpenClaim := { program := "ytihohjnkkalgiaagreatdoor", sum := "2cd518a05a8cb61741f201b12e9f495524b26d8fd441f964f4af7951385bdd50", func := "demesne/demesnelaw16.EvictCould", spec := "evictCould", inPlace := ["internal/bytealg.CountString", "internal/bytealg.IndexByteString", "internal/bytealg.IndexString", "internal/abi.NoEscape", "internal/bytealg.MakeNoZero", "slices.overlaps[string]", "math/bits.Sub64", "slices.overlaps[demesne/quota.Entry]", "slices.overlaps[demesne/pool.Node]", "slices.overlaps[demesne/queue.Entry]", "math/bits.Add64"], unfollowed := true, recurses := true, named := ["unicode/utf8.first", "unicode/utf8.acceptRanges", "internal/bytealg.MaxLen", "demesne/word.letters", "demesne/word.marks"], apart := false, laid := [("unicode/utf8.acceptRanges", laid_unicode_utf8_acceptRanges), ("demesne/word.letters", laid_demesne_word_letters), ("demesne/word.marks", laid_demesne_word_marks), ("unicode/utf8.first", laid_unicode_utf8_first)] }
def EvictCouldSaid : Prop := evictCouldRow.holds Tryz.pinned (OpenSpec.ofChange evictCouldSpec)

/-- ITS FALSE NEIGHBOUR: 'it returns false'. Refute it at one input. -/
def evictCouldWrong : ChangeSpec := { name := "evictCould", fn := fun _ => fun
  | [d1, d2, d3] => { results := [.lit (.bool false)], args := [d1, d2, d3] }
  | _ => none }
def EvictCouldWrongFalsely : Prop := evictCouldRow.holds Tryz.pinned (OpenSpec.ofChange evictCouldWrong)

/-- 'demesnelaw17.RoundFirst': WHATEVER THE INPUT: true; the input reads as it did. -/
def roundFirstSpec : ChangeSpec := { name := "roundFirst", fn := fun _ => fun
  | [d1, d2, d3] => { results := [.lit (.bool true)], args := [d1, d2, d3] }
  | _ => none }
def roundFirstRow : OpenClaim := { program := "ytihohjnkkalgiaagreatdoor", sum := "2cd518a05a8cb61741f201b12e9f495524b26d8fd441f964f4af7951385bdd50", func := "demesne/demesnelaw17.RoundFirst", spec := "roundFirst", inPlace := ["internal/bytealg.CountString", "internal/bytealg.IndexByteString", "internal/bytealg.IndexString", "internal/abi.NoEscape", "internal/bytealg.MakeNoZero", "slices.overlaps[string]", "math/bits.Sub64", "slices.overlaps[demesne/quota.Entry]", "slices.overlaps[demesne/pool.Node]", "slices.overlaps[demesne/queue.Entry]", "math/bits.Add64"], unfollowed := true, recurses := true, named := ["unicode/utf8.first", "unicode/utf8.acceptRanges", "internal/bytealg.MaxLen", "demesne/word.letters", "demesne/word.marks"], apart := false, laid := [("unicode/utf8.acceptRanges", laid_unicode_utf8_acceptRanges), ("demesne/word.letters", laid_demesne_word_letters), ("demesne/word.marks", laid_demesne_word_marks), ("unicode/utf8.first", laid_unicode_utf8_first)] }
def RoundFirstSaid : Prop := roundFirstRow.holds Tryz.pinned (OpenSpec.ofChange roundFirstSpec)

/-- ITS FALSE NEIGHBOUR: 'it returns false'. Refute it at one input. -/
def roundFirstWrong : ChangeSpec := { name := "roundFirst", fn := fun _ => fun
  | [d1, d2, d3] => { results := [.lit (.bool false)], args := [d1, d2, d3] }
  | _ => none }
def RoundFirstWrongFalsely : Prop := roundFirstRow.holds Tryz.pinned (OpenSpec.ofChange roundFirstWrong)

/-- 'demesnelaw17.RoundYields': WHATEVER THE INPUT: true; the input reads as it did. -/
def roundYieldsSpec : ChangeSpec := { name := "roundYields", fn := fun _ => fun
  | [d1, d2] => { results := [.lit (.bool true)], args := [d1, d2] }
  | _ => none }
def roundYieldsRow : OpenClaim := { program := "ytihohjnkkalgiaagreatdoor", sum := "2cd518a05a8cb61741f201b12e9f495524b26d8fd441f964f4af7951385bdd50", func := "demesne/demesnelaw17.RoundYields", spec := "roundYields", inPlace := ["internal/bytealg.CountString", "internal/bytealg.IndexByteString", "internal/bytealg.IndexString", "internal/abi.NoEscape", "internal/bytealg.MakeNoZero", "slices.overlaps[string]", "math/bits.Sub64", "slices.overlaps[demesne/quota.Entry]", "slices.overlaps[demesne/pool.Node]", "slices.overlaps[demesne/queue.Entry]", "math/bits.Add64"], unfollowed := true, recurses := true, named := ["unicode/utf8.first", "unicode/utf8.acceptRanges", "internal/bytealg.MaxLen", "demesne/word.letters", "demesne/word.marks"], apart := false, laid := [("unicode/utf8.acceptRanges", laid_unicode_utf8_acceptRanges), ("demesne/word.letters", laid_demesne_word_letters), ("demesne/word.marks", laid_demesne_word_marks), ("unicode/utf8.first", laid_unicode_utf8_first)] }
def RoundYieldsSaid : Prop := roundYieldsRow.holds Tryz.pinned (OpenSpec.ofChange roundYieldsSpec)

/-- ITS FALSE NEIGHBOUR: 'it returns false'. Refute it at one input. -/
def roundYieldsWrong : ChangeSpec := { name := "roundYields", fn := fun _ => fun
  | [d1, d2] => { results := [.lit (.bool false)], args := [d1, d2] }
  | _ => none }
def RoundYieldsWrongFalsely : Prop := roundYieldsRow.holds Tryz.pinned (OpenSpec.ofChange roundYieldsWrong)

/-- 'demesnelaw17.RoundLive': WHATEVER THE INPUT: true; the input reads as it did. -/
def roundLiveSpec : ChangeSpec := { name := "roundLive", fn := fun _ => fun
  | [d1, d2] => { results := [.lit (.bool true)], args := [d1, d2] }
  | _ => none }
def roundLiveRow : OpenClaim := { program := "ytihohjnkkalgiaagreatdoor", sum := "2cd518a05a8cb61741f201b12e9f495524b26d8fd441f964f4af7951385bdd50", func := "demesne/demesnelaw17.RoundLive", spec := "roundLive", inPlace := ["internal/bytealg.CountString", "internal/bytealg.IndexByteString", "internal/bytealg.IndexString", "internal/abi.NoEscape", "internal/bytealg.MakeNoZero", "slices.overlaps[string]", "math/bits.Sub64", "slices.overlaps[demesne/quota.Entry]", "slices.overlaps[demesne/pool.Node]", "slices.overlaps[demesne/queue.Entry]", "math/bits.Add64"], unfollowed := true, recurses := true, named := ["unicode/utf8.first", "unicode/utf8.acceptRanges", "internal/bytealg.MaxLen", "demesne/word.letters", "demesne/word.marks"], apart := false, laid := [("unicode/utf8.acceptRanges", laid_unicode_utf8_acceptRanges), ("demesne/word.letters", laid_demesne_word_letters), ("demesne/word.marks", laid_demesne_word_marks), ("unicode/utf8.first", laid_unicode_utf8_first)] }
def RoundLiveSaid : Prop := roundLiveRow.holds Tryz.pinned (OpenSpec.ofChange roundLiveSpec)

/-- ITS FALSE NEIGHBOUR: 'it returns false'. Refute it at one input. -/
def roundLiveWrong : ChangeSpec := { name := "roundLive", fn := fun _ => fun
  | [d1, d2] => { results := [.lit (.bool false)], args := [d1, d2] }
  | _ => none }
def RoundLiveWrongFalsely : Prop := roundLiveRow.holds Tryz.pinned (OpenSpec.ofChange roundLiveWrong)

/-- 'demesnelaw17.RoundWhere': WHATEVER THE INPUT: true; the input reads as it did. -/
def roundWhereSpec : ChangeSpec := { name := "roundWhere", fn := fun _ => fun
  | [d1, d2, d3] => { results := [.lit (.bool true)], args := [d1, d2, d3] }
  | _ => none }
def roundWhereRow : OpenClaim := { program := "ytihohjnkkalgiaagreatdoor", sum := "2cd518a05a8cb61741f201b12e9f495524b26d8fd441f964f4af7951385bdd50", func := "demesne/demesnelaw17.RoundWhere", spec := "roundWhere", inPlace := ["internal/bytealg.CountString", "internal/bytealg.IndexByteString", "internal/bytealg.IndexString", "internal/abi.NoEscape", "internal/bytealg.MakeNoZero", "slices.overlaps[string]", "math/bits.Sub64", "slices.overlaps[demesne/quota.Entry]", "slices.overlaps[demesne/pool.Node]", "slices.overlaps[demesne/queue.Entry]", "math/bits.Add64"], unfollowed := true, recurses := true, named := ["unicode/utf8.first", "unicode/utf8.acceptRanges", "internal/bytealg.MaxLen", "demesne/word.letters", "demesne/word.marks"], apart := false, laid := [("unicode/utf8.acceptRanges", laid_unicode_utf8_acceptRanges), ("demesne/word.letters", laid_demesne_word_letters), ("demesne/word.marks", laid_demesne_word_marks), ("unicode/utf8.first", laid_unicode_utf8_first)] }
def RoundWhereSaid : Prop := roundWhereRow.holds Tryz.pinned (OpenSpec.ofChange roundWhereSpec)

/-- ITS FALSE NEIGHBOUR: 'it returns false'. Refute it at one input. -/
def roundWhereWrong : ChangeSpec := { name := "roundWhere", fn := fun _ => fun
  | [d1, d2, d3] => { results := [.lit (.bool false)], args := [d1, d2, d3] }
  | _ => none }
def RoundWhereWrongFalsely : Prop := roundWhereRow.holds Tryz.pinned (OpenSpec.ofChange roundWhereWrong)

/-- 'demesnelaw16.EvictBegins': WHATEVER THE INPUT: true; the input reads as it did. -/
def evictBeginsSpec : ChangeSpec := { name := "evictBegins", fn := fun _ => fun
  | [d1, d2, d3] => { results := [.lit (.bool true)], args := [d1, d2, d3] }
  | _ => none }
def evictBeginsRow : OpenClaim := { program := "ytihohjnkkalgiaagreatdoor", sum := "2cd518a05a8cb61741f201b12e9f495524b26d8fd441f964f4af7951385bdd50", func := "demesne/demesnelaw16.EvictBegins", spec := "evictBegins", inPlace := ["internal/bytealg.CountString", "internal/bytealg.IndexByteString", "internal/bytealg.IndexString", "internal/abi.NoEscape", "internal/bytealg.MakeNoZero", "slices.overlaps[string]", "math/bits.Sub64", "slices.overlaps[demesne/quota.Entry]", "slices.overlaps[demesne/pool.Node]", "slices.overlaps[demesne/queue.Entry]", "math/bits.Add64"], unfollowed := true, recurses := true, named := ["unicode/utf8.first", "unicode/utf8.acceptRanges", "internal/bytealg.MaxLen", "demesne/word.letters", "demesne/word.marks"], apart := false, laid := [("unicode/utf8.acceptRanges", laid_unicode_utf8_acceptRanges), ("demesne/word.letters", laid_demesne_word_letters), ("demesne/word.marks", laid_demesne_word_marks), ("unicode/utf8.first", laid_unicode_utf8_first)] }
def EvictBeginsSaid : Prop := evictBeginsRow.holds Tryz.pinned (OpenSpec.ofChange evictBeginsSpec)

/-- ITS FALSE NEIGHBOUR: 'it returns false'. Refute it at one input. -/
def evictBeginsWrong : ChangeSpec := { name := "evictBegins", fn := fun _ => fun
  | [d1, d2, d3] => { results := [.lit (.bool false)], args := [d1, d2, d3] }
  | _ => none }
def EvictBeginsWrongFalsely : Prop := evictBeginsRow.holds Tryz.pinned (OpenSpec.ofChange evictBeginsWrong)

/-- 'demesnelaw17.RoundRight': WHATEVER THE INPUT: true; the input reads as it did. -/
def roundRightSpec : ChangeSpec := { name := "roundRight", fn := fun _ => fun
  | [d1, d2, d3] => { results := [.lit (.bool true)], args := [d1, d2, d3] }
  | _ => none }
def roundRightRow : OpenClaim := { program := "ytihohjnkkalgiaagreatdoor", sum := "2cd518a05a8cb61741f201b12e9f495524b26d8fd441f964f4af7951385bdd50", func := "demesne/demesnelaw17.RoundRight", spec := "roundRight", inPlace := ["internal/bytealg.CountString", "internal/bytealg.IndexByteString", "internal/bytealg.IndexString", "internal/abi.NoEscape", "internal/bytealg.MakeNoZero", "slices.overlaps[string]", "math/bits.Sub64", "slices.overlaps[demesne/quota.Entry]", "slices.overlaps[demesne/pool.Node]", "slices.overlaps[demesne/queue.Entry]", "math/bits.Add64"], unfollowed := true, recurses := true, named := ["unicode/utf8.first", "unicode/utf8.acceptRanges", "internal/bytealg.MaxLen", "demesne/word.letters", "demesne/word.marks"], apart := false, laid := [("unicode/utf8.acceptRanges", laid_unicode_utf8_acceptRanges), ("demesne/word.letters", laid_demesne_word_letters), ("demesne/word.marks", laid_demesne_word_marks), ("unicode/utf8.first", laid_unicode_utf8_first)] }
def RoundRightSaid : Prop := roundRightRow.holds Tryz.pinned (OpenSpec.ofChange roundRightSpec)

/-- ITS FALSE NEIGHBOUR: 'it returns false'. Refute it at one input. -/
def roundRightWrong : ChangeSpec := { name := "roundRight", fn := fun _ => fun
  | [d1, d2, d3] => { results := [.lit (.bool false)], args := [d1, d2, d3] }
  | _ => none }
def RoundRightWrongFalsely : Prop := roundRightRow.holds Tryz.pinned (OpenSpec.ofChange roundRightWrong)

/-- 'demesnelaw17.RoundCounts': WHATEVER THE INPUT: true; the input reads as it did. -/
def roundCountsSpec : ChangeSpec := { name := "roundCounts", fn := fun _ => fun
  | [d1, d2] => { results := [.lit (.bool true)], args := [d1, d2] }
  | _ => none }
def roundCountsRow : OpenClaim := { program := "ytihohjnkkalgiaagreatdoor", sum := "2cd518a05a8cb61741f201b12e9f495524b26d8fd441f964f4af7951385bdd50", func := "demesne/demesnelaw17.RoundCounts", spec := "roundCounts", inPlace := ["internal/bytealg.CountString", "internal/bytealg.IndexByteString", "internal/bytealg.IndexString", "internal/abi.NoEscape", "internal/bytealg.MakeNoZero", "slices.overlaps[string]", "math/bits.Sub64", "slices.overlaps[demesne/quota.Entry]", "slices.overlaps[demesne/pool.Node]", "slices.overlaps[demesne/queue.Entry]", "math/bits.Add64"], unfollowed := true, recurses := true, named := ["unicode/utf8.first", "unicode/utf8.acceptRanges", "internal/bytealg.MaxLen", "demesne/word.letters", "demesne/word.marks"], apart := false, laid := [("unicode/utf8.acceptRanges", laid_unicode_utf8_acceptRanges), ("demesne/word.letters", laid_demesne_word_letters), ("demesne/word.marks", laid_demesne_word_marks), ("unicode/utf8.first", laid_unicode_utf8_first)] }
def RoundCountsSaid : Prop := roundCountsRow.holds Tryz.pinned (OpenSpec.ofChange roundCountsSpec)

/-- ITS FALSE NEIGHBOUR: 'it returns false'. Refute it at one input. -/
def roundCountsWrong : ChangeSpec := { name := "roundCounts", fn := fun _ => fun
  | [d1, d2] => { results := [.lit (.bool false)], args := [d1, d2] }
  | _ => none }
def RoundCountsWrongFalsely : Prop := roundCountsRow.holds Tryz.pinned (OpenSpec.ofChange roundCountsWrong)

/- THE SECOND FORM. 'bulk': how many values and letters a reading holds, each counted each time it is reached (what is shared counts as often as it is met; a slice's spare places count too). A statement '..UptoSaid' is the law's where the arguments, and the package variables that the reading takes, are together of bulk at most 1048576: NARROWER than '..Said'. Prove '..Said' where nothing that the law and all that it calls make is longer than what came in: it says more and counts as full. Else prove '..UptoSaid'. A law counts once. -/
mutual
def uptoBulk {H : Type} : DataW H → Nat
  | .lit (.string bytes) => bytes.length + 1
  | .lit _ => 1
  | .nil => 1
  | .ptr d => uptoBulk d + 1
  | .slice elems spare => uptoBulkAll elems + uptoBulkAll spare + 1
  | .agg parts => uptoBulkAll parts + 1
  | .iface _ d => uptoBulk d + 1
  | .map entries => uptoBulkEntries entries + 1
  | .held _ => 1
def uptoBulkAll {H : Type} : List (DataW H) → Nat
  | [] => 0
  | d :: r => uptoBulk d + uptoBulkAll r
def uptoBulkEntries {H : Type} : List (Lit × DataW H) → Nat
  | [] => 0
  | x :: r => uptoBulkEntry x + uptoBulkEntries r
def uptoBulkEntry {H : Type} : Lit × DataW H → Nat
  | (.string bytes, d) => bytes.length + uptoBulk d + 1
  | (_, d) => uptoBulk d + 1
 end
def uptoSmall : (H : Type) → List (DataW H) → Bool := fun _ ds => decide (uptoBulkAll ds ≤ 1048576)
def OpenSpec.upto (s : _root_.Go.ChangeSpec) : _root_.Go.OpenSpec := { _root_.Go.OpenSpec.ofChange s with cond := some uptoSmall }

/-- 'demesnelaw16.EvictLower', WHERE WHAT IT READS IS OF BULK AT MOST 1048576: true; the input reads as it did. -/
def evictLowerUptoRow : OpenClaim := { program := "ytihohjnkkalgiaagreatdoor", sum := "2cd518a05a8cb61741f201b12e9f495524b26d8fd441f964f4af7951385bdd50", func := "demesne/demesnelaw16.EvictLower", spec := "evictLower", inPlace := ["internal/bytealg.CountString", "internal/bytealg.IndexByteString", "internal/bytealg.IndexString", "internal/abi.NoEscape", "internal/bytealg.MakeNoZero", "slices.overlaps[string]", "math/bits.Sub64", "slices.overlaps[demesne/quota.Entry]", "slices.overlaps[demesne/pool.Node]", "slices.overlaps[demesne/queue.Entry]", "math/bits.Add64"], unfollowed := true, recurses := true, named := ["unicode/utf8.first", "unicode/utf8.acceptRanges", "internal/bytealg.MaxLen", "demesne/word.letters", "demesne/word.marks"], apart := false, laid := [("unicode/utf8.acceptRanges", laid_unicode_utf8_acceptRanges), ("demesne/word.letters", laid_demesne_word_letters), ("demesne/word.marks", laid_demesne_word_marks), ("unicode/utf8.first", laid_unicode_utf8_first)], narrowed := true }
def EvictLowerUptoSaid : Prop := evictLowerUptoRow.holds Tryz.pinned (OpenSpec.upto evictLowerSpec)

/-- 'demesnelaw16.EvictNeeds', WHERE WHAT IT READS IS OF BULK AT MOST 1048576: true; the input reads as it did. -/
def evictNeedsUptoRow : OpenClaim := { program := "ytihohjnkkalgiaagreatdoor", sum := "2cd518a05a8cb61741f201b12e9f495524b26d8fd441f964f4af7951385bdd50", func := "demesne/demesnelaw16.EvictNeeds", spec := "evictNeeds", inPlace := ["internal/bytealg.CountString", "internal/bytealg.IndexByteString", "internal/bytealg.IndexString", "internal/abi.NoEscape", "internal/bytealg.MakeNoZero", "slices.overlaps[string]", "math/bits.Sub64", "slices.overlaps[demesne/quota.Entry]", "slices.overlaps[demesne/pool.Node]", "slices.overlaps[demesne/queue.Entry]", "math/bits.Add64"], unfollowed := true, recurses := true, named := ["unicode/utf8.first", "unicode/utf8.acceptRanges", "internal/bytealg.MaxLen", "demesne/word.letters", "demesne/word.marks"], apart := false, laid := [("unicode/utf8.acceptRanges", laid_unicode_utf8_acceptRanges), ("demesne/word.letters", laid_demesne_word_letters), ("demesne/word.marks", laid_demesne_word_marks), ("unicode/utf8.first", laid_unicode_utf8_first)], narrowed := true }
def EvictNeedsUptoSaid : Prop := evictNeedsUptoRow.holds Tryz.pinned (OpenSpec.upto evictNeedsSpec)

/-- 'demesnelaw16.EvictSays', WHERE WHAT IT READS IS OF BULK AT MOST 1048576: true; the input reads as it did. -/
def evictSaysUptoRow : OpenClaim := { program := "ytihohjnkkalgiaagreatdoor", sum := "2cd518a05a8cb61741f201b12e9f495524b26d8fd441f964f4af7951385bdd50", func := "demesne/demesnelaw16.EvictSays", spec := "evictSays", inPlace := ["internal/bytealg.CountString", "internal/bytealg.IndexByteString", "internal/bytealg.IndexString", "internal/abi.NoEscape", "internal/bytealg.MakeNoZero", "slices.overlaps[string]", "math/bits.Sub64", "slices.overlaps[demesne/quota.Entry]", "slices.overlaps[demesne/pool.Node]", "slices.overlaps[demesne/queue.Entry]", "math/bits.Add64"], unfollowed := true, recurses := true, named := ["unicode/utf8.first", "unicode/utf8.acceptRanges", "internal/bytealg.MaxLen", "demesne/word.letters", "demesne/word.marks"], apart := false, laid := [("unicode/utf8.acceptRanges", laid_unicode_utf8_acceptRanges), ("demesne/word.letters", laid_demesne_word_letters), ("demesne/word.marks", laid_demesne_word_marks), ("unicode/utf8.first", laid_unicode_utf8_first)], narrowed := true }
def EvictSaysUptoSaid : Prop := evictSaysUptoRow.holds Tryz.pinned (OpenSpec.upto evictSaysSpec)

/-- 'demesnelaw16.EvictCould', WHERE WHAT IT READS IS OF BULK AT MOST 1048576: true; the input reads as it did. -/
def evictCouldUptoRow : OpenClaim := { program := "ytihohjnkkalgiaagreatdoor", sum := "2cd518a05a8cb61741f201b12e9f495524b26d8fd441f964f4af7951385bdd50", func := "demesne/demesnelaw16.EvictCould", spec := "evictCould", inPlace := ["internal/bytealg.CountString", "internal/bytealg.IndexByteString", "internal/bytealg.IndexString", "internal/abi.NoEscape", "internal/bytealg.MakeNoZero", "slices.overlaps[string]", "math/bits.Sub64", "slices.overlaps[demesne/quota.Entry]", "slices.overlaps[demesne/pool.Node]", "slices.overlaps[demesne/queue.Entry]", "math/bits.Add64"], unfollowed := true, recurses := true, named := ["unicode/utf8.first", "unicode/utf8.acceptRanges", "internal/bytealg.MaxLen", "demesne/word.letters", "demesne/word.marks"], apart := false, laid := [("unicode/utf8.acceptRanges", laid_unicode_utf8_acceptRanges), ("demesne/word.letters", laid_demesne_word_letters), ("demesne/word.marks", laid_demesne_word_marks), ("unicode/utf8.first", laid_unicode_utf8_first)], narrowed := true }
def EvictCouldUptoSaid : Prop := evictCouldUptoRow.holds Tryz.pinned (OpenSpec.upto evictCouldSpec)

/-- 'demesnelaw17.RoundFirst', WHERE WHAT IT READS IS OF BULK AT MOST 1048576: true; the input reads as it did. -/
def roundFirstUptoRow : OpenClaim := { program := "ytihohjnkkalgiaagreatdoor", sum := "2cd518a05a8cb61741f201b12e9f495524b26d8fd441f964f4af7951385bdd50", func := "demesne/demesnelaw17.RoundFirst", spec := "roundFirst", inPlace := ["internal/bytealg.CountString", "internal/bytealg.IndexByteString", "internal/bytealg.IndexString", "internal/abi.NoEscape", "internal/bytealg.MakeNoZero", "slices.overlaps[string]", "math/bits.Sub64", "slices.overlaps[demesne/quota.Entry]", "slices.overlaps[demesne/pool.Node]", "slices.overlaps[demesne/queue.Entry]", "math/bits.Add64"], unfollowed := true, recurses := true, named := ["unicode/utf8.first", "unicode/utf8.acceptRanges", "internal/bytealg.MaxLen", "demesne/word.letters", "demesne/word.marks"], apart := false, laid := [("unicode/utf8.acceptRanges", laid_unicode_utf8_acceptRanges), ("demesne/word.letters", laid_demesne_word_letters), ("demesne/word.marks", laid_demesne_word_marks), ("unicode/utf8.first", laid_unicode_utf8_first)], narrowed := true }
def RoundFirstUptoSaid : Prop := roundFirstUptoRow.holds Tryz.pinned (OpenSpec.upto roundFirstSpec)

/-- 'demesnelaw17.RoundYields', WHERE WHAT IT READS IS OF BULK AT MOST 1048576: true; the input reads as it did. -/
def roundYieldsUptoRow : OpenClaim := { program := "ytihohjnkkalgiaagreatdoor", sum := "2cd518a05a8cb61741f201b12e9f495524b26d8fd441f964f4af7951385bdd50", func := "demesne/demesnelaw17.RoundYields", spec := "roundYields", inPlace := ["internal/bytealg.CountString", "internal/bytealg.IndexByteString", "internal/bytealg.IndexString", "internal/abi.NoEscape", "internal/bytealg.MakeNoZero", "slices.overlaps[string]", "math/bits.Sub64", "slices.overlaps[demesne/quota.Entry]", "slices.overlaps[demesne/pool.Node]", "slices.overlaps[demesne/queue.Entry]", "math/bits.Add64"], unfollowed := true, recurses := true, named := ["unicode/utf8.first", "unicode/utf8.acceptRanges", "internal/bytealg.MaxLen", "demesne/word.letters", "demesne/word.marks"], apart := false, laid := [("unicode/utf8.acceptRanges", laid_unicode_utf8_acceptRanges), ("demesne/word.letters", laid_demesne_word_letters), ("demesne/word.marks", laid_demesne_word_marks), ("unicode/utf8.first", laid_unicode_utf8_first)], narrowed := true }
def RoundYieldsUptoSaid : Prop := roundYieldsUptoRow.holds Tryz.pinned (OpenSpec.upto roundYieldsSpec)

/-- 'demesnelaw17.RoundLive', WHERE WHAT IT READS IS OF BULK AT MOST 1048576: true; the input reads as it did. -/
def roundLiveUptoRow : OpenClaim := { program := "ytihohjnkkalgiaagreatdoor", sum := "2cd518a05a8cb61741f201b12e9f495524b26d8fd441f964f4af7951385bdd50", func := "demesne/demesnelaw17.RoundLive", spec := "roundLive", inPlace := ["internal/bytealg.CountString", "internal/bytealg.IndexByteString", "internal/bytealg.IndexString", "internal/abi.NoEscape", "internal/bytealg.MakeNoZero", "slices.overlaps[string]", "math/bits.Sub64", "slices.overlaps[demesne/quota.Entry]", "slices.overlaps[demesne/pool.Node]", "slices.overlaps[demesne/queue.Entry]", "math/bits.Add64"], unfollowed := true, recurses := true, named := ["unicode/utf8.first", "unicode/utf8.acceptRanges", "internal/bytealg.MaxLen", "demesne/word.letters", "demesne/word.marks"], apart := false, laid := [("unicode/utf8.acceptRanges", laid_unicode_utf8_acceptRanges), ("demesne/word.letters", laid_demesne_word_letters), ("demesne/word.marks", laid_demesne_word_marks), ("unicode/utf8.first", laid_unicode_utf8_first)], narrowed := true }
def RoundLiveUptoSaid : Prop := roundLiveUptoRow.holds Tryz.pinned (OpenSpec.upto roundLiveSpec)

/-- 'demesnelaw17.RoundWhere', WHERE WHAT IT READS IS OF BULK AT MOST 1048576: true; the input reads as it did. -/
def roundWhereUptoRow : OpenClaim := { program := "ytihohjnkkalgiaagreatdoor", sum := "2cd518a05a8cb61741f201b12e9f495524b26d8fd441f964f4af7951385bdd50", func := "demesne/demesnelaw17.RoundWhere", spec := "roundWhere", inPlace := ["internal/bytealg.CountString", "internal/bytealg.IndexByteString", "internal/bytealg.IndexString", "internal/abi.NoEscape", "internal/bytealg.MakeNoZero", "slices.overlaps[string]", "math/bits.Sub64", "slices.overlaps[demesne/quota.Entry]", "slices.overlaps[demesne/pool.Node]", "slices.overlaps[demesne/queue.Entry]", "math/bits.Add64"], unfollowed := true, recurses := true, named := ["unicode/utf8.first", "unicode/utf8.acceptRanges", "internal/bytealg.MaxLen", "demesne/word.letters", "demesne/word.marks"], apart := false, laid := [("unicode/utf8.acceptRanges", laid_unicode_utf8_acceptRanges), ("demesne/word.letters", laid_demesne_word_letters), ("demesne/word.marks", laid_demesne_word_marks), ("unicode/utf8.first", laid_unicode_utf8_first)], narrowed := true }
def RoundWhereUptoSaid : Prop := roundWhereUptoRow.holds Tryz.pinned (OpenSpec.upto roundWhereSpec)

/-- 'demesnelaw16.EvictBegins', WHERE WHAT IT READS IS OF BULK AT MOST 1048576: true; the input reads as it did. -/
def evictBeginsUptoRow : OpenClaim := { program := "ytihohjnkkalgiaagreatdoor", sum := "2cd518a05a8cb61741f201b12e9f495524b26d8fd441f964f4af7951385bdd50", func := "demesne/demesnelaw16.EvictBegins", spec := "evictBegins", inPlace := ["internal/bytealg.CountString", "internal/bytealg.IndexByteString", "internal/bytealg.IndexString", "internal/abi.NoEscape", "internal/bytealg.MakeNoZero", "slices.overlaps[string]", "math/bits.Sub64", "slices.overlaps[demesne/quota.Entry]", "slices.overlaps[demesne/pool.Node]", "slices.overlaps[demesne/queue.Entry]", "math/bits.Add64"], unfollowed := true, recurses := true, named := ["unicode/utf8.first", "unicode/utf8.acceptRanges", "internal/bytealg.MaxLen", "demesne/word.letters", "demesne/word.marks"], apart := false, laid := [("unicode/utf8.acceptRanges", laid_unicode_utf8_acceptRanges), ("demesne/word.letters", laid_demesne_word_letters), ("demesne/word.marks", laid_demesne_word_marks), ("unicode/utf8.first", laid_unicode_utf8_first)], narrowed := true }
def EvictBeginsUptoSaid : Prop := evictBeginsUptoRow.holds Tryz.pinned (OpenSpec.upto evictBeginsSpec)

/-- 'demesnelaw17.RoundRight', WHERE WHAT IT READS IS OF BULK AT MOST 1048576: true; the input reads as it did. -/
def roundRightUptoRow : OpenClaim := { program := "ytihohjnkkalgiaagreatdoor", sum := "2cd518a05a8cb61741f201b12e9f495524b26d8fd441f964f4af7951385bdd50", func := "demesne/demesnelaw17.RoundRight", spec := "roundRight", inPlace := ["internal/bytealg.CountString", "internal/bytealg.IndexByteString", "internal/bytealg.IndexString", "internal/abi.NoEscape", "internal/bytealg.MakeNoZero", "slices.overlaps[string]", "math/bits.Sub64", "slices.overlaps[demesne/quota.Entry]", "slices.overlaps[demesne/pool.Node]", "slices.overlaps[demesne/queue.Entry]", "math/bits.Add64"], unfollowed := true, recurses := true, named := ["unicode/utf8.first", "unicode/utf8.acceptRanges", "internal/bytealg.MaxLen", "demesne/word.letters", "demesne/word.marks"], apart := false, laid := [("unicode/utf8.acceptRanges", laid_unicode_utf8_acceptRanges), ("demesne/word.letters", laid_demesne_word_letters), ("demesne/word.marks", laid_demesne_word_marks), ("unicode/utf8.first", laid_unicode_utf8_first)], narrowed := true }
def RoundRightUptoSaid : Prop := roundRightUptoRow.holds Tryz.pinned (OpenSpec.upto roundRightSpec)

/-- 'demesnelaw17.RoundCounts', WHERE WHAT IT READS IS OF BULK AT MOST 1048576: true; the input reads as it did. -/
def roundCountsUptoRow : OpenClaim := { program := "ytihohjnkkalgiaagreatdoor", sum := "2cd518a05a8cb61741f201b12e9f495524b26d8fd441f964f4af7951385bdd50", func := "demesne/demesnelaw17.RoundCounts", spec := "roundCounts", inPlace := ["internal/bytealg.CountString", "internal/bytealg.IndexByteString", "internal/bytealg.IndexString", "internal/abi.NoEscape", "internal/bytealg.MakeNoZero", "slices.overlaps[string]", "math/bits.Sub64", "slices.overlaps[demesne/quota.Entry]", "slices.overlaps[demesne/pool.Node]", "slices.overlaps[demesne/queue.Entry]", "math/bits.Add64"], unfollowed := true, recurses := true, named := ["unicode/utf8.first", "unicode/utf8.acceptRanges", "internal/bytealg.MaxLen", "demesne/word.letters", "demesne/word.marks"], apart := false, laid := [("unicode/utf8.acceptRanges", laid_unicode_utf8_acceptRanges), ("demesne/word.letters", laid_demesne_word_letters), ("demesne/word.marks", laid_demesne_word_marks), ("unicode/utf8.first", laid_unicode_utf8_first)], narrowed := true }
def RoundCountsUptoSaid : Prop := roundCountsUptoRow.holds Tryz.pinned (OpenSpec.upto roundCountsSpec)

end Rows
end Go.Proofs.YtihohjnkkalgiaaGreatDoor
