/-
  DERIVED. GIVEN WITH THE SEED: THE CARDS: each row of YtmhnhkigbfdapaaGreatDoorRows.lean that lists a variable, with what it lists TIED to the program's text (the seventh form; the later family's looks); each row that meets fmt, with fmt's text TOLD by the authors' own Lean function (tested against real Go, not proved from fmt's source: count such statements apart). THE CARD IS WHAT COUNTS. Prove the row's statement (the work); the ties are given (YtmhnhkigbfdapaaGreatDoorTie.lean); close each card by the builder's one call (the guide's Derived/Test/ToyasCard.lean, 'card_holds'). Laid BY PROGRAM, IN A SANDBOX (cutbox-door.mjs). By AI agents, Wed Nov 11 2026. No macro, syntax, notation, axiom, sorry.
-/
import Derived.Test.YtmhnhkigbfdapaaGreatDoorRows
import GoSem.ClaimSeven
namespace Go.Proofs.YtmhnhkigbfdapaaGreatDoor
namespace Rows

/-- THE TIED CARD OF 'beadlelaw19.BellLives'. -/
def bellLivesCard : Claim7 := { stood := { row := bellLivesRow, standIns := [], harness := (true, "a826a1f707c3882c946a495f0b7349cdf4cfcb0076b88b5543226868efedb908"), looks := false }, kinds := [], alts := [], laidByText := true, laidKinds := [.data, .data, .pinned], laidTests := true, laidLooks := .later }
def BellLivesCardSaid : Prop := Claim7.holds Tryz.pinned (.plain (OpenSpec.ofChange bellLivesSpec)) bellLivesCard

/-- THE SECOND FORM's CARD OF 'beadlelaw19.BellLives'. -/
def bellLivesUptoCard : Claim7 := { stood := { row := bellLivesUptoRow, standIns := [], harness := (true, "a826a1f707c3882c946a495f0b7349cdf4cfcb0076b88b5543226868efedb908"), looks := false }, kinds := [], alts := [], laidByText := true, laidKinds := [.data, .data, .pinned], laidTests := true, laidLooks := .later }
def BellLivesUptoCardSaid : Prop := Claim7.holds Tryz.pinned (.plain (OpenSpec.upto bellLivesSpec)) bellLivesUptoCard
end Rows
end Go.Proofs.YtmhnhkigbfdapaaGreatDoor
