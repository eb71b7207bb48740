/-
  DERIVED. GIVEN WITH THE SEED: THE CARDS: each row of YtfpfjobknefedaaGreatDoorRows.lean that lists a variable, with what it lists TIED to the program's text (the seventh form; the later family's looks); each row that meets fmt, with fmt's text TOLD by the authors' own Lean function (tested against real Go, not proved from fmt's source: count such statements apart). THE CARD IS WHAT COUNTS. Prove the row's statement (the work); the ties are given (YtfpfjobknefedaaGreatDoorTie.lean); close each card by the builder's one call (the guide's Derived/Test/ToyasCard.lean, 'card_holds'). Laid BY PROGRAM, IN A SANDBOX (cutbox-door.mjs). By AI agents, Wed Nov 11 2026. No macro, syntax, notation, axiom, sorry.
-/
import Derived.Test.YtfpfjobknefedaaGreatDoorRows
import GoSem.ClaimSeven
namespace Go.Proofs.YtfpfjobknefedaaGreatDoor
namespace Rows

/-- THE TIED CARD OF 'beadlelaw19.BellAgain'. -/
def bellAgainCard : Claim7 := { stood := { row := bellAgainRow, standIns := [], harness := (true, "570e04b323ddbe827acfd38db203539154791a55d8dfd55b901fd4ef2e4ca9a0"), looks := false }, kinds := [], alts := [], laidByText := true, laidKinds := [.data], laidTests := true, laidLooks := .later }
def BellAgainCardSaid : Prop := Claim7.holds Tryz.pinned (.plain (OpenSpec.ofChange bellAgainSpec)) bellAgainCard

/-- THE SECOND FORM's CARD OF 'beadlelaw19.BellAgain'. -/
def bellAgainUptoCard : Claim7 := { stood := { row := bellAgainUptoRow, standIns := [], harness := (true, "570e04b323ddbe827acfd38db203539154791a55d8dfd55b901fd4ef2e4ca9a0"), looks := false }, kinds := [], alts := [], laidByText := true, laidKinds := [.data], laidTests := true, laidLooks := .later }
def BellAgainUptoCardSaid : Prop := Claim7.holds Tryz.pinned (.plain (OpenSpec.upto bellAgainSpec)) bellAgainUptoCard
end Rows
end Go.Proofs.YtfpfjobknefedaaGreatDoor
