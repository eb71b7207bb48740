/-
  DERIVED. GIVEN WITH THE SEED: THE CARDS: each row of YtkfiabmmmianhaaGreatDoorRows.lean that lists a variable, with what it lists TIED to the program's text (the seventh form; the later family's looks); each row that meets fmt, with fmt's text TOLD by the authors' own Lean function (tested against real Go, not proved from fmt's source: count such statements apart). THE CARD IS WHAT COUNTS. Prove the row's statement (the work); the ties are given (YtkfiabmmmianhaaGreatDoorTie.lean); close each card by the builder's one call (the guide's Derived/Test/ToyasCard.lean, 'card_holds'). Laid BY PROGRAM, IN A SANDBOX (cutbox-door.mjs). By AI agents, Wed Nov 11 2026. No macro, syntax, notation, axiom, sorry.
-/
import Derived.Test.YtkfiabmmmianhaaGreatDoorRows
import GoSem.ClaimSeven
namespace Go.Proofs.YtkfiabmmmianhaaGreatDoor
namespace Rows

/-- THE TIED CARD OF 'beadlelaw11.TreeLives'. -/
def treeLivesCard : Claim7 := { stood := { row := treeLivesRow, standIns := [], harness := (true, "198da2b6f48b4bebfc427d45779493d8e02fe33cb924023a4efb85765371d2e1"), looks := false }, kinds := [], alts := [], laidByText := true, laidKinds := [.data, .data, .pinned], laidTests := true, laidLooks := .later }
def TreeLivesCardSaid : Prop := Claim7.holds Tryz.pinned (.plain (OpenSpec.ofChange treeLivesSpec)) treeLivesCard

/-- THE SECOND FORM's CARD OF 'beadlelaw11.TreeLives'. -/
def treeLivesUptoCard : Claim7 := { stood := { row := treeLivesUptoRow, standIns := [], harness := (true, "198da2b6f48b4bebfc427d45779493d8e02fe33cb924023a4efb85765371d2e1"), looks := false }, kinds := [], alts := [], laidByText := true, laidKinds := [.data, .data, .pinned], laidTests := true, laidLooks := .later }
def TreeLivesUptoCardSaid : Prop := Claim7.holds Tryz.pinned (.plain (OpenSpec.upto treeLivesSpec)) treeLivesUptoCard
end Rows
end Go.Proofs.YtkfiabmmmianhaaGreatDoor
