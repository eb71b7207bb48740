/-
  DERIVED. GIVEN WITH THE SEED: THE CARDS: each row of YtienbbhelhhfjaaGreatDoorRows.lean that lists a variable, with what it lists TIED to the program's text (the seventh form; the later family's looks); each row that meets fmt, with fmt's text TOLD by the authors' own Lean function (tested against real Go, not proved from fmt's source: count such statements apart). THE CARD IS WHAT COUNTS. Prove the row's statement (the work); the ties are given (YtienbbhelhhfjaaGreatDoorTie.lean); close each card by the builder's one call (the guide's Derived/Test/ToyasCard.lean, 'card_holds'). Laid BY PROGRAM, IN A SANDBOX (cutbox-door.mjs). By AI agents, Wed Nov 11 2026. No macro, syntax, notation, axiom, sorry.
-/
import Derived.Test.YtienbbhelhhfjaaGreatDoorRows
import GoSem.ClaimSeven
namespace Go.Proofs.YtienbbhelhhfjaaGreatDoor
namespace Rows

/-- THE TIED CARD OF 'beadlelaw19.BellNumbers'. -/
def bellNumbersCard : Claim7 := { stood := { row := bellNumbersRow, standIns := [], harness := (true, "1fc3dec9bd4bc553355206b3791356310a193eacc6a8912cd3e713c21020ed41"), looks := false }, kinds := [], alts := [], laidByText := true, laidKinds := [.data, .data, .pinned], laidTests := true, laidLooks := .later }
def BellNumbersCardSaid : Prop := Claim7.holds Tryz.pinned (.plain (OpenSpec.ofChange bellNumbersSpec)) bellNumbersCard

/-- THE SECOND FORM's CARD OF 'beadlelaw19.BellNumbers'. -/
def bellNumbersUptoCard : Claim7 := { stood := { row := bellNumbersUptoRow, standIns := [], harness := (true, "1fc3dec9bd4bc553355206b3791356310a193eacc6a8912cd3e713c21020ed41"), looks := false }, kinds := [], alts := [], laidByText := true, laidKinds := [.data, .data, .pinned], laidTests := true, laidLooks := .later }
def BellNumbersUptoCardSaid : Prop := Claim7.holds Tryz.pinned (.plain (OpenSpec.upto bellNumbersSpec)) bellNumbersUptoCard
end Rows
end Go.Proofs.YtienbbhelhhfjaaGreatDoor
