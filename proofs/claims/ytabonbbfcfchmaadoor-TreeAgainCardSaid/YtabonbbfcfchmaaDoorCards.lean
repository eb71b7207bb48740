/-
  DERIVED. GIVEN WITH THE SEED: THE CARDS: each row of YtabonbbfcfchmaaDoorRows.lean that lists a variable, with what it lists TIED to the program's text (the seventh form; the later family's looks); each row that meets fmt, with fmt's text TOLD by the authors' own Lean function (tested against real Go, not proved from fmt's source: count such statements apart). THE CARD IS WHAT COUNTS. Prove the row's statement (the work); the ties are given (YtabonbbfcfchmaaDoorTie.lean); close each card by the builder's one call (the guide's Derived/Test/ToyasCard.lean, 'card_holds'). Laid BY PROGRAM, IN A SANDBOX (cutbox-door.mjs). By AI agents, Wed Nov 11 2026. No macro, syntax, notation, axiom, sorry.
-/
import Derived.Test.YtabonbbfcfchmaaDoorRows
import GoSem.ClaimSeven
namespace Go.Proofs.YtabonbbfcfchmaaDoor
namespace Rows

/-- THE TIED CARD OF 'beadlelaw11.TreeAgain'. -/
def treeAgainCard : Claim7 := { stood := { row := treeAgainRow, standIns := [], harness := (true, "7fe66f58e2d72132e5e478eec9aeb15393db12f125c6dd3c9a2c786493224cd8"), looks := false }, kinds := [], alts := [], laidByText := true, laidKinds := [.data], laidTests := true, laidLooks := .later }
def TreeAgainCardSaid : Prop := Claim7.holds Tryd.pinned (.plain (OpenSpec.ofChange treeAgainSpec)) treeAgainCard

/-- THE TIED CARD OF 'beadlelaw11.TreeAgrees'. -/
def treeAgreesCard : Claim7 := { stood := { row := treeAgreesRow, standIns := [], harness := (true, "7fe66f58e2d72132e5e478eec9aeb15393db12f125c6dd3c9a2c786493224cd8"), looks := false }, kinds := [], alts := [], laidByText := true, laidKinds := [.data], laidTests := true, laidLooks := .later }
def TreeAgreesCardSaid : Prop := Claim7.holds Tryd.pinned (.plain (OpenSpec.ofChange treeAgreesSpec)) treeAgreesCard

/-- THE SECOND FORM's CARD OF 'beadlelaw11.TreeAgain'. -/
def treeAgainUptoCard : Claim7 := { stood := { row := treeAgainUptoRow, standIns := [], harness := (true, "7fe66f58e2d72132e5e478eec9aeb15393db12f125c6dd3c9a2c786493224cd8"), looks := false }, kinds := [], alts := [], laidByText := true, laidKinds := [.data], laidTests := true, laidLooks := .later }
def TreeAgainUptoCardSaid : Prop := Claim7.holds Tryd.pinned (.plain (OpenSpec.upto treeAgainSpec)) treeAgainUptoCard

/-- THE SECOND FORM's CARD OF 'beadlelaw11.TreeAgrees'. -/
def treeAgreesUptoCard : Claim7 := { stood := { row := treeAgreesUptoRow, standIns := [], harness := (true, "7fe66f58e2d72132e5e478eec9aeb15393db12f125c6dd3c9a2c786493224cd8"), looks := false }, kinds := [], alts := [], laidByText := true, laidKinds := [.data], laidTests := true, laidLooks := .later }
def TreeAgreesUptoCardSaid : Prop := Claim7.holds Tryd.pinned (.plain (OpenSpec.upto treeAgreesSpec)) treeAgreesUptoCard
end Rows
end Go.Proofs.YtabonbbfcfchmaaDoor
