/-
  NARROWER THAN 'FOR EVERY INPUT', by the rows' own cells (each row's printed sentence says how): TreeAgain: loops, laid · TreeAgrees: loops, laid.
  DERIVED. THE GIVEN ROWS OF THIS SEAT. 2 by the template 'for every input the law returns true; each argument reads behind the call as it read before'; 0 by the template 'total and deterministic' (their statements: YtabonbbfcfchmaaDoorTotals.lean).
  GIVEN WITH THE SEED: the statements are not yours to turn. If you find one false, say at which input.
  Laid BY PROGRAM, IN A SANDBOX (cutbox-rows.mjs): the forced cells as the released guide's own fill.sh prints them over the translation 2839e1ceadc2c13c… (all of the seat's roots in one cut). By AI agents, Wed Nov 11 2026. No macro, syntax, notation, axiom, sorry.
-/
import Derived.Test.YtabonbbfcfchmaaDoorChecked
import GoSem.Claim
import GoSem.ClaimJoined
import GoSem.ClaimMapViews
import Derived.JoinedTies
import Derived.KernelRfl
namespace Go.Proofs.YtabonbbfcfchmaaDoor
/- THE CELL 'sum', in the pinned program and in every row, IS THE sha256 OF THE DUMP (.gsa) THAT YtabonbbfcfchmaaDoorProg.lean LOADS. Nothing in Lean hashes anything: it is a label: what it is worth is what the hold of that sum in a sandbox is worth. -/
noncomputable def Tryd.pinned : Pinned := { name := "ytabonbbfcfchmaadoor", sum := "2839e1ceadc2c13cebf9ce0aad27f7c65ea36fa7f7431b0e4030f44253a2f171", checked := Tryd.checked }
namespace Rows
def none {H : Type} : Left H := { results := [], args := [] }

/- WHAT THE LISTED PACKAGE-LEVEL VARIABLES READ AS WHEN THE CALL BEGINS. Each datum BY PROGRAM (the guide's laid-datum.mjs) off the statement by which the dump's own 'gosem.cut.vars' lays the variable. In a bare row this is a premise. The card (YtabonbbfcfchmaaDoorCards.lean) ties it to the program's text. -/
def laid_beadle_deed_has {H : Type} : DataW H := .agg [.lit (.int .i64 0), .lit (.int .i64 23), .lit (.int .i64 17), .lit (.int .i64 11), .lit (.int .i64 32), .lit (.int .i64 260), .lit (.int .i64 0), .lit (.int .i64 128), .lit (.int .i64 256), .lit (.int .i64 64)]

/-- 'beadlelaw11.TreeAgain': WHATEVER THE INPUT: true; the input reads as it did. -/
def treeAgainSpec : ChangeSpec := { name := "treeAgain", fn := fun _ => fun
  | [d1, d2, d3, d4] => { results := [.lit (.bool true)], args := [d1, d2, d3, d4] }
  | _ => none }
def treeAgainRow : OpenClaim := { program := "ytabonbbfcfchmaadoor", sum := "2839e1ceadc2c13cebf9ce0aad27f7c65ea36fa7f7431b0e4030f44253a2f171", func := "beadle/beadlelaw11.TreeAgain", spec := "treeAgain", inPlace := ["internal/bytealg.IndexByteString", "internal/bytealg.IndexString"], unfollowed := true, recurses := true, named := ["beadle/deed.has", "internal/bytealg.MaxLen"], loops := true, apart := false, laid := [("beadle/deed.has", laid_beadle_deed_has)] }
def TreeAgainSaid : Prop := treeAgainRow.holds Tryd.pinned (OpenSpec.ofChange treeAgainSpec)

/-- ITS FALSE NEIGHBOUR: 'it returns false'. Refute it at one input. -/
def treeAgainWrong : ChangeSpec := { name := "treeAgain", fn := fun _ => fun
  | [d1, d2, d3, d4] => { results := [.lit (.bool false)], args := [d1, d2, d3, d4] }
  | _ => none }
def TreeAgainWrongFalsely : Prop := treeAgainRow.holds Tryd.pinned (OpenSpec.ofChange treeAgainWrong)

/-- 'beadlelaw11.TreeAgrees': WHATEVER THE INPUT: true; the input reads as it did. -/
def treeAgreesSpec : ChangeSpec := { name := "treeAgrees", fn := fun _ => fun
  | [d] => { results := [.lit (.bool true)], args := [d] }
  | _ => none }
def treeAgreesRow : OpenClaim := { program := "ytabonbbfcfchmaadoor", sum := "2839e1ceadc2c13cebf9ce0aad27f7c65ea36fa7f7431b0e4030f44253a2f171", func := "beadle/beadlelaw11.TreeAgrees", spec := "treeAgrees", inPlace := ["internal/bytealg.IndexByteString", "internal/bytealg.IndexString"], unfollowed := true, recurses := true, named := ["beadle/deed.has", "internal/bytealg.MaxLen"], loops := true, apart := false, laid := [("beadle/deed.has", laid_beadle_deed_has)] }
def TreeAgreesSaid : Prop := treeAgreesRow.holds Tryd.pinned (OpenSpec.ofChange treeAgreesSpec)

/-- ITS FALSE NEIGHBOUR: 'it returns false'. Refute it at one input. -/
def treeAgreesWrong : ChangeSpec := { name := "treeAgrees", fn := fun _ => fun
  | [d] => { results := [.lit (.bool false)], args := [d] }
  | _ => none }
def TreeAgreesWrongFalsely : Prop := treeAgreesRow.holds Tryd.pinned (OpenSpec.ofChange treeAgreesWrong)

/- THE SECOND FORM. 'bulk': how many values and letters a reading holds, each counted each time it is reached (what is shared counts as often as it is met; a slice's spare places count too). A statement '..UptoSaid' is the law's where the arguments, and the package variables that the reading takes, are together of bulk at most 1048576: NARROWER than '..Said'. Prove '..Said' where nothing that the law and all that it calls make is longer than what came in: it says more and counts as full. Else prove '..UptoSaid'. A law counts once. -/
mutual
def uptoBulk {H : Type} : DataW H → Nat
  | .lit (.string bytes) => bytes.length + 1
  | .lit _ => 1
  | .nil => 1
  | .ptr d => uptoBulk d + 1
  | .slice elems spare => uptoBulkAll elems + uptoBulkAll spare + 1
  | .agg parts => uptoBulkAll parts + 1
  | .iface _ d => uptoBulk d + 1
  | .map entries => uptoBulkEntries entries + 1
  | .held _ => 1
def uptoBulkAll {H : Type} : List (DataW H) → Nat
  | [] => 0
  | d :: r => uptoBulk d + uptoBulkAll r
def uptoBulkEntries {H : Type} : List (Lit × DataW H) → Nat
  | [] => 0
  | x :: r => uptoBulkEntry x + uptoBulkEntries r
def uptoBulkEntry {H : Type} : Lit × DataW H → Nat
  | (.string bytes, d) => bytes.length + uptoBulk d + 1
  | (_, d) => uptoBulk d + 1
 end
def uptoSmall : (H : Type) → List (DataW H) → Bool := fun _ ds => decide (uptoBulkAll ds ≤ 1048576)
def OpenSpec.upto (s : _root_.Go.ChangeSpec) : _root_.Go.OpenSpec := { _root_.Go.OpenSpec.ofChange s with cond := some uptoSmall }

/-- 'beadlelaw11.TreeAgain', WHERE WHAT IT READS IS OF BULK AT MOST 1048576: true; the input reads as it did. -/
def treeAgainUptoRow : OpenClaim := { program := "ytabonbbfcfchmaadoor", sum := "2839e1ceadc2c13cebf9ce0aad27f7c65ea36fa7f7431b0e4030f44253a2f171", func := "beadle/beadlelaw11.TreeAgain", spec := "treeAgain", inPlace := ["internal/bytealg.IndexByteString", "internal/bytealg.IndexString"], unfollowed := true, recurses := true, named := ["beadle/deed.has", "internal/bytealg.MaxLen"], loops := true, apart := false, laid := [("beadle/deed.has", laid_beadle_deed_has)], narrowed := true }
def TreeAgainUptoSaid : Prop := treeAgainUptoRow.holds Tryd.pinned (OpenSpec.upto treeAgainSpec)

/-- 'beadlelaw11.TreeAgrees', WHERE WHAT IT READS IS OF BULK AT MOST 1048576: true; the input reads as it did. -/
def treeAgreesUptoRow : OpenClaim := { program := "ytabonbbfcfchmaadoor", sum := "2839e1ceadc2c13cebf9ce0aad27f7c65ea36fa7f7431b0e4030f44253a2f171", func := "beadle/beadlelaw11.TreeAgrees", spec := "treeAgrees", inPlace := ["internal/bytealg.IndexByteString", "internal/bytealg.IndexString"], unfollowed := true, recurses := true, named := ["beadle/deed.has", "internal/bytealg.MaxLen"], loops := true, apart := false, laid := [("beadle/deed.has", laid_beadle_deed_has)], narrowed := true }
def TreeAgreesUptoSaid : Prop := treeAgreesUptoRow.holds Tryd.pinned (OpenSpec.upto treeAgreesSpec)

end Rows
end Go.Proofs.YtabonbbfcfchmaaDoor
