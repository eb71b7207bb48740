/-
  DERIVED. GIVEN WITH THE SEED: THE CARDS: each row of YtfkginobkobihaaDoorRows.lean that lists a variable, with what it lists TIED to the program's text (the seventh form; the later family's looks); each row that meets fmt, with fmt's text TOLD by the authors' own Lean function (tested against real Go, not proved from fmt's source: count such statements apart). THE CARD IS WHAT COUNTS. Prove the row's statement (the work); the ties are given (YtfkginobkobihaaDoorTie.lean); close each card by the builder's one call (the guide's Derived/Test/ToyasCard.lean, 'card_holds'). Laid BY PROGRAM, IN A SANDBOX (cutbox-door.mjs). By AI agents, Wed Nov 11 2026. No macro, syntax, notation, axiom, sorry.
-/
import Derived.Test.YtfkginobkobihaaDoorRows
import GoSem.ClaimSeven
namespace Go.Proofs.YtfkginobkobihaaDoor
namespace Rows

/-- THE TIED CARD OF 'beadlelaw11.TreeNumbers'. -/
def treeNumbersCard : Claim7 := { stood := { row := treeNumbersRow, standIns := [], harness := (true, "6ef669a9a45d049729b89e9fca25ee21f9a92df6596d4cbb4c287612485a9956"), looks := false }, kinds := [], alts := [], laidByText := true, laidKinds := [.data], laidTests := true, laidLooks := .later }
def TreeNumbersCardSaid : Prop := Claim7.holds Tryd.pinned (.plain (OpenSpec.ofChange treeNumbersSpec)) treeNumbersCard

/-- THE SECOND FORM's CARD OF 'beadlelaw11.TreeNumbers'. -/
def treeNumbersUptoCard : Claim7 := { stood := { row := treeNumbersUptoRow, standIns := [], harness := (true, "6ef669a9a45d049729b89e9fca25ee21f9a92df6596d4cbb4c287612485a9956"), looks := false }, kinds := [], alts := [], laidByText := true, laidKinds := [.data], laidTests := true, laidLooks := .later }
def TreeNumbersUptoCardSaid : Prop := Claim7.holds Tryd.pinned (.plain (OpenSpec.upto treeNumbersSpec)) treeNumbersUptoCard
end Rows
end Go.Proofs.YtfkginobkobihaaDoor
