/-
  NARROWER THAN 'FOR EVERY INPUT', by the rows' own cells (each row's printed sentence says how): ImageTree: loops, laid · FuzzyWhole: laid · FuzzyStill: laid · FuzzyWrites: loops, laid · FuzzyRestores: loops, laid.
  DERIVED. THE GIVEN ROWS OF THIS SEAT. 5 by the template 'for every input the law returns true; each argument reads behind the call as it read before'; 0 by the template 'total and deterministic' (their statements: YtmmlhdiejkknnaaGreatDoorTotals.lean).
  GIVEN WITH THE SEED: the statements are not yours to turn. If you find one false, say at which input.
  Laid BY PROGRAM, IN A SANDBOX (cutbox-rows.mjs): the forced cells as the released guide's own fill.sh prints them over the translation effc25bd2ef685ec… (all of the seat's roots in one cut). By AI agents, Wed Nov 11 2026. No macro, syntax, notation, axiom, sorry.
-/
import Derived.Test.YtmmlhdiejkknnaaGreatDoorChecked
import GoSem.PinnedTables
import GoSem.Claim
import GoSem.ClaimJoined
import GoSem.ClaimMapViews
import Derived.JoinedTies
import Derived.KernelRfl
namespace Go.Proofs.YtmmlhdiejkknnaaGreatDoor
/- THE CELL 'sum', in the pinned program and in every row, IS THE sha256 OF THE DUMP (.gsa) THAT YtmmlhdiejkknnaaGreatDoorProg.lean LOADS. Nothing in Lean hashes anything: it is a label: what it is worth is what the hold of that sum in a sandbox is worth. -/
noncomputable def Tryz.pinned : Pinned := { name := "ytmmlhdiejkknnaagreatdoor", sum := "effc25bd2ef685ec48c5273a361843a7cad9d63fc03a70c8a08aee0def3a0d64", checked := Tryz.checked }
namespace Rows
def none {H : Type} : Left H := { results := [], args := [] }

/- WHAT THE LISTED PACKAGE-LEVEL VARIABLES READ AS WHEN THE CALL BEGINS. Each datum BY PROGRAM (the guide's laid-datum.mjs) off the statement by which the dump's own 'gosem.cut.vars' lays the variable. In a bare row this is a premise. The card (YtmmlhdiejkknnaaGreatDoorCards.lean) ties it to the program's text. -/
def laid_bytes_ErrTooLarge {H : Type} : DataW H := .iface "*errors.errorString" (.ptr (.agg [.lit (.string [98, 121, 116, 101, 115, 46, 66, 117, 102, 102, 101, 114, 58, 32, 116, 111, 111, 32, 108, 97, 114, 103, 101])]))
def laid_beadle_deed_has {H : Type} : DataW H := .agg [.lit (.int .i64 0), .lit (.int .i64 23), .lit (.int .i64 17), .lit (.int .i64 11), .lit (.int .i64 32), .lit (.int .i64 260), .lit (.int .i64 0), .lit (.int .i64 128), .lit (.int .i64 256), .lit (.int .i64 64)]
def laid_unicode_utf8_acceptRanges {H : Type} : DataW H := .agg [.agg [.lit (.int .u8 128), .lit (.int .u8 191)], .agg [.lit (.int .u8 160), .lit (.int .u8 191)], .agg [.lit (.int .u8 128), .lit (.int .u8 159)], .agg [.lit (.int .u8 144), .lit (.int .u8 191)], .agg [.lit (.int .u8 128), .lit (.int .u8 143)], .agg [.lit (.int .u8 0), .lit (.int .u8 0)], .agg [.lit (.int .u8 0), .lit (.int .u8 0)], .agg [.lit (.int .u8 0), .lit (.int .u8 0)], .agg [.lit (.int .u8 0), .lit (.int .u8 0)], .agg [.lit (.int .u8 0), .lit (.int .u8 0)], .agg [.lit (.int .u8 0), .lit (.int .u8 0)], .agg [.lit (.int .u8 0), .lit (.int .u8 0)], .agg [.lit (.int .u8 0), .lit (.int .u8 0)], .agg [.lit (.int .u8 0), .lit (.int .u8 0)], .agg [.lit (.int .u8 0), .lit (.int .u8 0)], .agg [.lit (.int .u8 0), .lit (.int .u8 0)]]
/-- One of Go's own tables, pinned by name: the form's constant. -/
def laid_unicode_utf8_first : DataW Unit := Go.Pinned.utf8First

/-- 'beadlelaw12.ImageTree': WHATEVER THE INPUT: true; the input reads as it did. -/
def imageTreeSpec : ChangeSpec := { name := "imageTree", fn := fun _ => fun
  | [d] => { results := [.lit (.bool true)], args := [d] }
  | _ => none }
def imageTreeRow : OpenClaim := { program := "ytmmlhdiejkknnaagreatdoor", sum := "effc25bd2ef685ec48c5273a361843a7cad9d63fc03a70c8a08aee0def3a0d64", func := "beadle/beadlelaw12.ImageTree", spec := "imageTree", inPlace := ["internal/bytealg.IndexByteString", "internal/bytealg.IndexString"], unfollowed := true, recurses := true, named := ["internal/bytealg.MaxLen", "bytes.ErrTooLarge", "beadle/deed.has"], loops := true, apart := false, laid := [("bytes.ErrTooLarge", laid_bytes_ErrTooLarge), ("beadle/deed.has", laid_beadle_deed_has)] }
def ImageTreeSaid : Prop := imageTreeRow.holds Tryz.pinned (OpenSpec.ofChange imageTreeSpec)

/-- ITS FALSE NEIGHBOUR: 'it returns false'. Refute it at one input. -/
def imageTreeWrong : ChangeSpec := { name := "imageTree", fn := fun _ => fun
  | [d] => { results := [.lit (.bool false)], args := [d] }
  | _ => none }
def ImageTreeWrongFalsely : Prop := imageTreeRow.holds Tryz.pinned (OpenSpec.ofChange imageTreeWrong)

/-- 'beadlelaw13.FuzzyWhole': WHATEVER THE INPUT: true; the input reads as it did. -/
def fuzzyWholeSpec : ChangeSpec := { name := "fuzzyWhole", fn := fun _ => fun
  | [d1, d2, d3, d4] => { results := [.lit (.bool true)], args := [d1, d2, d3, d4] }
  | _ => none }
def fuzzyWholeRow : OpenClaim := { program := "ytmmlhdiejkknnaagreatdoor", sum := "effc25bd2ef685ec48c5273a361843a7cad9d63fc03a70c8a08aee0def3a0d64", func := "beadle/beadlelaw13.FuzzyWhole", spec := "fuzzyWhole", inPlace := ["internal/bytealg.IndexByteString", "internal/bytealg.IndexString"], unfollowed := true, recurses := true, named := ["internal/bytealg.MaxLen", "beadle/deed.has", "bytes.ErrTooLarge"], apart := false, laid := [("bytes.ErrTooLarge", laid_bytes_ErrTooLarge), ("beadle/deed.has", laid_beadle_deed_has)] }
def FuzzyWholeSaid : Prop := fuzzyWholeRow.holds Tryz.pinned (OpenSpec.ofChange fuzzyWholeSpec)

/-- ITS FALSE NEIGHBOUR: 'it returns false'. Refute it at one input. -/
def fuzzyWholeWrong : ChangeSpec := { name := "fuzzyWhole", fn := fun _ => fun
  | [d1, d2, d3, d4] => { results := [.lit (.bool false)], args := [d1, d2, d3, d4] }
  | _ => none }
def FuzzyWholeWrongFalsely : Prop := fuzzyWholeRow.holds Tryz.pinned (OpenSpec.ofChange fuzzyWholeWrong)

/-- 'beadlelaw13.FuzzyStill': WHATEVER THE INPUT: true; the input reads as it did. -/
def fuzzyStillSpec : ChangeSpec := { name := "fuzzyStill", fn := fun _ => fun
  | [d1, d2] => { results := [.lit (.bool true)], args := [d1, d2] }
  | _ => none }
def fuzzyStillRow : OpenClaim := { program := "ytmmlhdiejkknnaagreatdoor", sum := "effc25bd2ef685ec48c5273a361843a7cad9d63fc03a70c8a08aee0def3a0d64", func := "beadle/beadlelaw13.FuzzyStill", spec := "fuzzyStill", inPlace := ["internal/bytealg.IndexByteString", "internal/bytealg.IndexString"], unfollowed := true, recurses := true, named := ["internal/bytealg.MaxLen", "beadle/deed.has", "bytes.ErrTooLarge"], apart := false, laid := [("bytes.ErrTooLarge", laid_bytes_ErrTooLarge), ("beadle/deed.has", laid_beadle_deed_has)] }
def FuzzyStillSaid : Prop := fuzzyStillRow.holds Tryz.pinned (OpenSpec.ofChange fuzzyStillSpec)

/-- ITS FALSE NEIGHBOUR: 'it returns false'. Refute it at one input. -/
def fuzzyStillWrong : ChangeSpec := { name := "fuzzyStill", fn := fun _ => fun
  | [d1, d2] => { results := [.lit (.bool false)], args := [d1, d2] }
  | _ => none }
def FuzzyStillWrongFalsely : Prop := fuzzyStillRow.holds Tryz.pinned (OpenSpec.ofChange fuzzyStillWrong)

/-- 'beadlelaw13.FuzzyWrites': WHATEVER THE INPUT: true; the input reads as it did. -/
def fuzzyWritesSpec : ChangeSpec := { name := "fuzzyWrites", fn := fun _ => fun
  | [d1, d2, d3, d4, d5] => { results := [.lit (.bool true)], args := [d1, d2, d3, d4, d5] }
  | _ => none }
def fuzzyWritesRow : OpenClaim := { program := "ytmmlhdiejkknnaagreatdoor", sum := "effc25bd2ef685ec48c5273a361843a7cad9d63fc03a70c8a08aee0def3a0d64", func := "beadle/beadlelaw13.FuzzyWrites", spec := "fuzzyWrites", inPlace := ["internal/bytealg.IndexByteString", "internal/bytealg.IndexString", "internal/bytealg.CountString", "internal/abi.NoEscape", "internal/bytealg.MakeNoZero"], unfollowed := true, recurses := true, named := ["internal/bytealg.MaxLen", "beadle/deed.has", "bytes.ErrTooLarge", "unicode/utf8.first", "unicode/utf8.acceptRanges"], loops := true, apart := false, laid := [("unicode/utf8.acceptRanges", laid_unicode_utf8_acceptRanges), ("bytes.ErrTooLarge", laid_bytes_ErrTooLarge), ("beadle/deed.has", laid_beadle_deed_has), ("unicode/utf8.first", laid_unicode_utf8_first)] }
def FuzzyWritesSaid : Prop := fuzzyWritesRow.holds Tryz.pinned (OpenSpec.ofChange fuzzyWritesSpec)

/-- ITS FALSE NEIGHBOUR: 'it returns false'. Refute it at one input. -/
def fuzzyWritesWrong : ChangeSpec := { name := "fuzzyWrites", fn := fun _ => fun
  | [d1, d2, d3, d4, d5] => { results := [.lit (.bool false)], args := [d1, d2, d3, d4, d5] }
  | _ => none }
def FuzzyWritesWrongFalsely : Prop := fuzzyWritesRow.holds Tryz.pinned (OpenSpec.ofChange fuzzyWritesWrong)

/-- 'beadlelaw13.FuzzyRestores': WHATEVER THE INPUT: true; the input reads as it did. -/
def fuzzyRestoresSpec : ChangeSpec := { name := "fuzzyRestores", fn := fun _ => fun
  | [d1, d2] => { results := [.lit (.bool true)], args := [d1, d2] }
  | _ => none }
def fuzzyRestoresRow : OpenClaim := { program := "ytmmlhdiejkknnaagreatdoor", sum := "effc25bd2ef685ec48c5273a361843a7cad9d63fc03a70c8a08aee0def3a0d64", func := "beadle/beadlelaw13.FuzzyRestores", spec := "fuzzyRestores", inPlace := ["internal/bytealg.IndexByteString", "internal/bytealg.IndexString", "internal/bytealg.CountString", "internal/abi.NoEscape", "internal/bytealg.MakeNoZero"], unfollowed := true, recurses := true, named := ["internal/bytealg.MaxLen", "beadle/deed.has", "bytes.ErrTooLarge", "unicode/utf8.first", "unicode/utf8.acceptRanges"], loops := true, apart := false, laid := [("unicode/utf8.acceptRanges", laid_unicode_utf8_acceptRanges), ("bytes.ErrTooLarge", laid_bytes_ErrTooLarge), ("beadle/deed.has", laid_beadle_deed_has), ("unicode/utf8.first", laid_unicode_utf8_first)] }
def FuzzyRestoresSaid : Prop := fuzzyRestoresRow.holds Tryz.pinned (OpenSpec.ofChange fuzzyRestoresSpec)

/-- ITS FALSE NEIGHBOUR: 'it returns false'. Refute it at one input. -/
def fuzzyRestoresWrong : ChangeSpec := { name := "fuzzyRestores", fn := fun _ => fun
  | [d1, d2] => { results := [.lit (.bool false)], args := [d1, d2] }
  | _ => none }
def FuzzyRestoresWrongFalsely : Prop := fuzzyRestoresRow.holds Tryz.pinned (OpenSpec.ofChange fuzzyRestoresWrong)

/- THE SECOND FORM. 'bulk': how many values and letters a reading holds, each counted each time it is reached (what is shared counts as often as it is met; a slice's spare places count too). A statement '..UptoSaid' is the law's where the arguments, and the package variables that the reading takes, are together of bulk at most 1048576: NARROWER than '..Said'. Prove '..Said' where nothing that the law and all that it calls make is longer than what came in: it says more and counts as full. Else prove '..UptoSaid'. A law counts once. -/
mutual
def uptoBulk {H : Type} : DataW H → Nat
  | .lit (.string bytes) => bytes.length + 1
  | .lit _ => 1
  | .nil => 1
  | .ptr d => uptoBulk d + 1
  | .slice elems spare => uptoBulkAll elems + uptoBulkAll spare + 1
  | .agg parts => uptoBulkAll parts + 1
  | .iface _ d => uptoBulk d + 1
  | .map entries => uptoBulkEntries entries + 1
  | .held _ => 1
def uptoBulkAll {H : Type} : List (DataW H) → Nat
  | [] => 0
  | d :: r => uptoBulk d + uptoBulkAll r
def uptoBulkEntries {H : Type} : List (Lit × DataW H) → Nat
  | [] => 0
  | x :: r => uptoBulkEntry x + uptoBulkEntries r
def uptoBulkEntry {H : Type} : Lit × DataW H → Nat
  | (.string bytes, d) => bytes.length + uptoBulk d + 1
  | (_, d) => uptoBulk d + 1
 end
def uptoSmall : (H : Type) → List (DataW H) → Bool := fun _ ds => decide (uptoBulkAll ds ≤ 1048576)
def OpenSpec.upto (s : _root_.Go.ChangeSpec) : _root_.Go.OpenSpec := { _root_.Go.OpenSpec.ofChange s with cond := some uptoSmall }

/-- 'beadlelaw12.ImageTree', WHERE WHAT IT READS IS OF BULK AT MOST 1048576: true; the input reads as it did. -/
def imageTreeUptoRow : OpenClaim := { program := "ytmmlhdiejkknnaagreatdoor", sum := "effc25bd2ef685ec48c5273a361843a7cad9d63fc03a70c8a08aee0def3a0d64", func := "beadle/beadlelaw12.ImageTree", spec := "imageTree", inPlace := ["internal/bytealg.IndexByteString", "internal/bytealg.IndexString"], unfollowed := true, recurses := true, named := ["internal/bytealg.MaxLen", "bytes.ErrTooLarge", "beadle/deed.has"], loops := true, apart := false, laid := [("bytes.ErrTooLarge", laid_bytes_ErrTooLarge), ("beadle/deed.has", laid_beadle_deed_has)], narrowed := true }
def ImageTreeUptoSaid : Prop := imageTreeUptoRow.holds Tryz.pinned (OpenSpec.upto imageTreeSpec)

/-- 'beadlelaw13.FuzzyWhole', WHERE WHAT IT READS IS OF BULK AT MOST 1048576: true; the input reads as it did. -/
def fuzzyWholeUptoRow : OpenClaim := { program := "ytmmlhdiejkknnaagreatdoor", sum := "effc25bd2ef685ec48c5273a361843a7cad9d63fc03a70c8a08aee0def3a0d64", func := "beadle/beadlelaw13.FuzzyWhole", spec := "fuzzyWhole", inPlace := ["internal/bytealg.IndexByteString", "internal/bytealg.IndexString"], unfollowed := true, recurses := true, named := ["internal/bytealg.MaxLen", "beadle/deed.has", "bytes.ErrTooLarge"], apart := false, laid := [("bytes.ErrTooLarge", laid_bytes_ErrTooLarge), ("beadle/deed.has", laid_beadle_deed_has)], narrowed := true }
def FuzzyWholeUptoSaid : Prop := fuzzyWholeUptoRow.holds Tryz.pinned (OpenSpec.upto fuzzyWholeSpec)

/-- 'beadlelaw13.FuzzyStill', WHERE WHAT IT READS IS OF BULK AT MOST 1048576: true; the input reads as it did. -/
def fuzzyStillUptoRow : OpenClaim := { program := "ytmmlhdiejkknnaagreatdoor", sum := "effc25bd2ef685ec48c5273a361843a7cad9d63fc03a70c8a08aee0def3a0d64", func := "beadle/beadlelaw13.FuzzyStill", spec := "fuzzyStill", inPlace := ["internal/bytealg.IndexByteString", "internal/bytealg.IndexString"], unfollowed := true, recurses := true, named := ["internal/bytealg.MaxLen", "beadle/deed.has", "bytes.ErrTooLarge"], apart := false, laid := [("bytes.ErrTooLarge", laid_bytes_ErrTooLarge), ("beadle/deed.has", laid_beadle_deed_has)], narrowed := true }
def FuzzyStillUptoSaid : Prop := fuzzyStillUptoRow.holds Tryz.pinned (OpenSpec.upto fuzzyStillSpec)

/-- 'beadlelaw13.FuzzyWrites', WHERE WHAT IT READS IS OF BULK AT MOST 1048576: true; the input reads as it did. -/
def fuzzyWritesUptoRow : OpenClaim := { program := "ytmmlhdiejkknnaagreatdoor", sum := "effc25bd2ef685ec48c5273a361843a7cad9d63fc03a70c8a08aee0def3a0d64", func := "beadle/beadlelaw13.FuzzyWrites", spec := "fuzzyWrites", inPlace := ["internal/bytealg.IndexByteString", "internal/bytealg.IndexString", "internal/bytealg.CountString", "internal/abi.NoEscape", "internal/bytealg.MakeNoZero"], unfollowed := true, recurses := true, named := ["internal/bytealg.MaxLen", "beadle/deed.has", "bytes.ErrTooLarge", "unicode/utf8.first", "unicode/utf8.acceptRanges"], loops := true, apart := false, laid := [("unicode/utf8.acceptRanges", laid_unicode_utf8_acceptRanges), ("bytes.ErrTooLarge", laid_bytes_ErrTooLarge), ("beadle/deed.has", laid_beadle_deed_has), ("unicode/utf8.first", laid_unicode_utf8_first)], narrowed := true }
def FuzzyWritesUptoSaid : Prop := fuzzyWritesUptoRow.holds Tryz.pinned (OpenSpec.upto fuzzyWritesSpec)

/-- 'beadlelaw13.FuzzyRestores', WHERE WHAT IT READS IS OF BULK AT MOST 1048576: true; the input reads as it did. -/
def fuzzyRestoresUptoRow : OpenClaim := { program := "ytmmlhdiejkknnaagreatdoor", sum := "effc25bd2ef685ec48c5273a361843a7cad9d63fc03a70c8a08aee0def3a0d64", func := "beadle/beadlelaw13.FuzzyRestores", spec := "fuzzyRestores", inPlace := ["internal/bytealg.IndexByteString", "internal/bytealg.IndexString", "internal/bytealg.CountString", "internal/abi.NoEscape", "internal/bytealg.MakeNoZero"], unfollowed := true, recurses := true, named := ["internal/bytealg.MaxLen", "beadle/deed.has", "bytes.ErrTooLarge", "unicode/utf8.first", "unicode/utf8.acceptRanges"], loops := true, apart := false, laid := [("unicode/utf8.acceptRanges", laid_unicode_utf8_acceptRanges), ("bytes.ErrTooLarge", laid_bytes_ErrTooLarge), ("beadle/deed.has", laid_beadle_deed_has), ("unicode/utf8.first", laid_unicode_utf8_first)], narrowed := true }
def FuzzyRestoresUptoSaid : Prop := fuzzyRestoresUptoRow.holds Tryz.pinned (OpenSpec.upto fuzzyRestoresSpec)

end Rows
end Go.Proofs.YtmmlhdiejkknnaaGreatDoor
