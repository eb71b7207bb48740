/-
  NARROWER THAN 'FOR EVERY INPUT', by the rows' own cells (each row's printed sentence says how): QueueAgrees: loops, laid · TreeTwice: loops, laid.
  DERIVED. THE GIVEN ROWS OF THIS SEAT. 2 by the template 'for every input the law returns true; each argument reads behind the call as it read before'; 0 by the template 'total and deterministic' (their statements: YtinahcnpabjinaaDoorTotals.lean).
  GIVEN WITH THE SEED: the statements are not yours to turn. If you find one false, say at which input.
  Laid BY PROGRAM, IN A SANDBOX (cutbox-rows.mjs): the forced cells as the released guide's own fill.sh prints them over the translation 3bc5bcc517eeab96… (all of the seat's roots in one cut). By AI agents, Wed Nov 11 2026. No macro, syntax, notation, axiom, sorry.
-/
import Derived.Test.YtinahcnpabjinaaDoorChecked
import GoSem.Claim
import GoSem.ClaimJoined
import GoSem.ClaimMapViews
import Derived.JoinedTies
import Derived.KernelRfl
namespace Go.Proofs.YtinahcnpabjinaaDoor
/- THE CELL 'sum', in the pinned program and in every row, IS THE sha256 OF THE DUMP (.gsa) THAT YtinahcnpabjinaaDoorProg.lean LOADS. Nothing in Lean hashes anything: it is a label: what it is worth is what the hold of that sum in a sandbox is worth. -/
noncomputable def Tryd.pinned : Pinned := { name := "ytinahcnpabjinaadoor", sum := "3bc5bcc517eeab96fe1c35840741bf86ce9d5a2dd8aabf0dfa8c3430820ef86b", checked := Tryd.checked }
namespace Rows
def none {H : Type} : Left H := { results := [], args := [] }

/- WHAT THE LISTED PACKAGE-LEVEL VARIABLES READ AS WHEN THE CALL BEGINS. Each datum BY PROGRAM (the guide's laid-datum.mjs) off the statement by which the dump's own 'gosem.cut.vars' lays the variable. In a bare row this is a premise. The card (YtinahcnpabjinaaDoorCards.lean) ties it to the program's text. -/
def laid_beadle_deed_has {H : Type} : DataW H := .agg [.lit (.int .i64 0), .lit (.int .i64 23), .lit (.int .i64 17), .lit (.int .i64 11), .lit (.int .i64 32), .lit (.int .i64 260), .lit (.int .i64 0), .lit (.int .i64 128), .lit (.int .i64 256), .lit (.int .i64 64)]

/-- 'beadlelaw26.QueueAgrees': WHATEVER THE INPUT: true; the input reads as it did. -/
def queueAgreesSpec : ChangeSpec := { name := "queueAgrees", fn := fun _ => fun
  | [d1, d2, d3] => { results := [.lit (.bool true)], args := [d1, d2, d3] }
  | _ => none }
def queueAgreesRow : OpenClaim := { program := "ytinahcnpabjinaadoor", sum := "3bc5bcc517eeab96fe1c35840741bf86ce9d5a2dd8aabf0dfa8c3430820ef86b", func := "beadle/beadlelaw26.QueueAgrees", spec := "queueAgrees", inPlace := ["internal/bytealg.IndexByteString", "internal/bytealg.IndexString"], unfollowed := true, recurses := true, named := ["internal/bytealg.MaxLen", "beadle/deed.has"], loops := true, apart := false, laid := [("beadle/deed.has", laid_beadle_deed_has)] }
def QueueAgreesSaid : Prop := queueAgreesRow.holds Tryd.pinned (OpenSpec.ofChange queueAgreesSpec)

/-- ITS FALSE NEIGHBOUR: 'it returns false'. Refute it at one input. -/
def queueAgreesWrong : ChangeSpec := { name := "queueAgrees", fn := fun _ => fun
  | [d1, d2, d3] => { results := [.lit (.bool false)], args := [d1, d2, d3] }
  | _ => none }
def QueueAgreesWrongFalsely : Prop := queueAgreesRow.holds Tryd.pinned (OpenSpec.ofChange queueAgreesWrong)

/-- 'beadlelaw11.TreeTwice': WHATEVER THE INPUT: true; the input reads as it did. -/
def treeTwiceSpec : ChangeSpec := { name := "treeTwice", fn := fun _ => fun
  | [d] => { results := [.lit (.bool true)], args := [d] }
  | _ => none }
def treeTwiceRow : OpenClaim := { program := "ytinahcnpabjinaadoor", sum := "3bc5bcc517eeab96fe1c35840741bf86ce9d5a2dd8aabf0dfa8c3430820ef86b", func := "beadle/beadlelaw11.TreeTwice", spec := "treeTwice", inPlace := ["internal/bytealg.IndexByteString", "internal/bytealg.IndexString"], unfollowed := true, recurses := true, named := ["beadle/deed.has", "internal/bytealg.MaxLen"], loops := true, apart := false, laid := [("beadle/deed.has", laid_beadle_deed_has)] }
def TreeTwiceSaid : Prop := treeTwiceRow.holds Tryd.pinned (OpenSpec.ofChange treeTwiceSpec)

/-- ITS FALSE NEIGHBOUR: 'it returns false'. Refute it at one input. -/
def treeTwiceWrong : ChangeSpec := { name := "treeTwice", fn := fun _ => fun
  | [d] => { results := [.lit (.bool false)], args := [d] }
  | _ => none }
def TreeTwiceWrongFalsely : Prop := treeTwiceRow.holds Tryd.pinned (OpenSpec.ofChange treeTwiceWrong)

/- THE SECOND FORM. 'bulk': how many values and letters a reading holds, each counted each time it is reached (what is shared counts as often as it is met; a slice's spare places count too). A statement '..UptoSaid' is the law's where the arguments, and the package variables that the reading takes, are together of bulk at most 1048576: NARROWER than '..Said'. Prove '..Said' where nothing that the law and all that it calls make is longer than what came in: it says more and counts as full. Else prove '..UptoSaid'. A law counts once. -/
mutual
def uptoBulk {H : Type} : DataW H → Nat
  | .lit (.string bytes) => bytes.length + 1
  | .lit _ => 1
  | .nil => 1
  | .ptr d => uptoBulk d + 1
  | .slice elems spare => uptoBulkAll elems + uptoBulkAll spare + 1
  | .agg parts => uptoBulkAll parts + 1
  | .iface _ d => uptoBulk d + 1
  | .map entries => uptoBulkEntries entries + 1
  | .held _ => 1
def uptoBulkAll {H : Type} : List (DataW H) → Nat
  | [] => 0
  | d :: r => uptoBulk d + uptoBulkAll r
def uptoBulkEntries {H : Type} : List (Lit × DataW H) → Nat
  | [] => 0
  | x :: r => uptoBulkEntry x + uptoBulkEntries r
def uptoBulkEntry {H : Type} : Lit × DataW H → Nat
  | (.string bytes, d) => bytes.length + uptoBulk d + 1
  | (_, d) => uptoBulk d + 1
 end
def uptoSmall : (H : Type) → List (DataW H) → Bool := fun _ ds => decide (uptoBulkAll ds ≤ 1048576)
def OpenSpec.upto (s : _root_.Go.ChangeSpec) : _root_.Go.OpenSpec := { _root_.Go.OpenSpec.ofChange s with cond := some uptoSmall }

/-- 'beadlelaw26.QueueAgrees', WHERE WHAT IT READS IS OF BULK AT MOST 1048576: true; the input reads as it did. -/
def queueAgreesUptoRow : OpenClaim := { program := "ytinahcnpabjinaadoor", sum := "3bc5bcc517eeab96fe1c35840741bf86ce9d5a2dd8aabf0dfa8c3430820ef86b", func := "beadle/beadlelaw26.QueueAgrees", spec := "queueAgrees", inPlace := ["internal/bytealg.IndexByteString", "internal/bytealg.IndexString"], unfollowed := true, recurses := true, named := ["internal/bytealg.MaxLen", "beadle/deed.has"], loops := true, apart := false, laid := [("beadle/deed.has", laid_beadle_deed_has)], narrowed := true }
def QueueAgreesUptoSaid : Prop := queueAgreesUptoRow.holds Tryd.pinned (OpenSpec.upto queueAgreesSpec)

/-- 'beadlelaw11.TreeTwice', WHERE WHAT IT READS IS OF BULK AT MOST 1048576: true; the input reads as it did. -/
def treeTwiceUptoRow : OpenClaim := { program := "ytinahcnpabjinaadoor", sum := "3bc5bcc517eeab96fe1c35840741bf86ce9d5a2dd8aabf0dfa8c3430820ef86b", func := "beadle/beadlelaw11.TreeTwice", spec := "treeTwice", inPlace := ["internal/bytealg.IndexByteString", "internal/bytealg.IndexString"], unfollowed := true, recurses := true, named := ["beadle/deed.has", "internal/bytealg.MaxLen"], loops := true, apart := false, laid := [("beadle/deed.has", laid_beadle_deed_has)], narrowed := true }
def TreeTwiceUptoSaid : Prop := treeTwiceUptoRow.holds Tryd.pinned (OpenSpec.upto treeTwiceSpec)

end Rows
end Go.Proofs.YtinahcnpabjinaaDoor
