/-
  DERIVED. GIVEN WITH THE SEED: THE CARDS: each row of YtbebacffaljckaaGreatDoorRows.lean that lists a variable, with what it lists TIED to the program's text (the seventh form; the later family's looks); each row that meets fmt, with fmt's text TOLD by the authors' own Lean function (tested against real Go, not proved from fmt's source: count such statements apart). THE CARD IS WHAT COUNTS. Prove the row's statement (the work); the ties are given (YtbebacffaljckaaGreatDoorTie.lean); close each card by the builder's one call (the guide's Derived/Test/ToyasCard.lean, 'card_holds'). Laid BY PROGRAM, IN A SANDBOX (cutbox-door.mjs). By AI agents, Wed Nov 11 2026. No macro, syntax, notation, axiom, sorry.
-/
import Derived.Test.YtbebacffaljckaaGreatDoorRows
import GoSem.ClaimSeven
namespace Go.Proofs.YtbebacffaljckaaGreatDoor
namespace Rows

/-- THE TIED CARD OF 'beadlelaw11.TreeLoads'. -/
def treeLoadsCard : Claim7 := { stood := { row := treeLoadsRow, standIns := [], harness := (true, "0e025f4e6bdbf1232b1e9772e0cf1ea09714e1393a9c63cb1846cbf445202e18"), looks := false }, kinds := [], alts := [], laidByText := true, laidKinds := [.data, .data, .pinned], laidTests := true, laidLooks := .later }
def TreeLoadsCardSaid : Prop := Claim7.holds Tryz.pinned (.plain (OpenSpec.ofChange treeLoadsSpec)) treeLoadsCard

/-- THE SECOND FORM's CARD OF 'beadlelaw11.TreeLoads'. -/
def treeLoadsUptoCard : Claim7 := { stood := { row := treeLoadsUptoRow, standIns := [], harness := (true, "0e025f4e6bdbf1232b1e9772e0cf1ea09714e1393a9c63cb1846cbf445202e18"), looks := false }, kinds := [], alts := [], laidByText := true, laidKinds := [.data, .data, .pinned], laidTests := true, laidLooks := .later }
def TreeLoadsUptoCardSaid : Prop := Claim7.holds Tryz.pinned (.plain (OpenSpec.upto treeLoadsSpec)) treeLoadsUptoCard
end Rows
end Go.Proofs.YtbebacffaljckaaGreatDoor
