/-
  DERIVED. GIVEN WITH THE SEED: THE CARDS: each row of YtphigpccfbfnoaaGreatDoorRows.lean that lists a variable, with what it lists TIED to the program's text (the seventh form; the later family's looks); each row that meets fmt, with fmt's text TOLD by the authors' own Lean function (tested against real Go, not proved from fmt's source: count such statements apart). THE CARD IS WHAT COUNTS. Prove the row's statement (the work); the ties are given (YtphigpccfbfnoaaGreatDoorTie.lean); close each card by the builder's one call (the guide's Derived/Test/ToyasCard.lean, 'card_holds'). Laid BY PROGRAM, IN A SANDBOX (cutbox-door.mjs). By AI agents, Wed Nov 11 2026. No macro, syntax, notation, axiom, sorry.
-/
import Derived.Test.YtphigpccfbfnoaaGreatDoorRows
import GoSem.ClaimSeven
namespace Go.Proofs.YtphigpccfbfnoaaGreatDoor
namespace Rows

/-- THE TIED CARD OF 'beadlelaw26.QueueDone'. -/
def queueDoneCard : Claim7 := { stood := { row := queueDoneRow, standIns := [], harness := (true, "57eeffafeeb7407aacab2ab6b300019c399a628683d6e1fdea830b77c45b4ecf"), looks := false }, kinds := [], alts := [], laidByText := true, laidKinds := [.data, .data, .pinned], laidTests := true, laidLooks := .later }
def QueueDoneCardSaid : Prop := Claim7.holds Tryz.pinned (.plain (OpenSpec.ofChange queueDoneSpec)) queueDoneCard

/-- THE SECOND FORM's CARD OF 'beadlelaw26.QueueDone'. -/
def queueDoneUptoCard : Claim7 := { stood := { row := queueDoneUptoRow, standIns := [], harness := (true, "57eeffafeeb7407aacab2ab6b300019c399a628683d6e1fdea830b77c45b4ecf"), looks := false }, kinds := [], alts := [], laidByText := true, laidKinds := [.data, .data, .pinned], laidTests := true, laidLooks := .later }
def QueueDoneUptoCardSaid : Prop := Claim7.holds Tryz.pinned (.plain (OpenSpec.upto queueDoneSpec)) queueDoneUptoCard
end Rows
end Go.Proofs.YtphigpccfbfnoaaGreatDoor
