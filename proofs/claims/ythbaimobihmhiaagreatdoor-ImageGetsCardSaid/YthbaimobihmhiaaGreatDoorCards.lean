/-
  DERIVED. GIVEN WITH THE SEED: THE CARDS: each row of YthbaimobihmhiaaGreatDoorRows.lean that lists a variable, with what it lists TIED to the program's text (the seventh form; the later family's looks); each row that meets fmt, with fmt's text TOLD by the authors' own Lean function (tested against real Go, not proved from fmt's source: count such statements apart). THE CARD IS WHAT COUNTS. Prove the row's statement (the work); the ties are given (YthbaimobihmhiaaGreatDoorTie.lean); close each card by the builder's one call (the guide's Derived/Test/ToyasCard.lean, 'card_holds'). Laid BY PROGRAM, IN A SANDBOX (cutbox-door.mjs). By AI agents, Wed Nov 11 2026. No macro, syntax, notation, axiom, sorry.
-/
import Derived.Test.YthbaimobihmhiaaGreatDoorRows
import GoSem.ClaimSeven
namespace Go.Proofs.YthbaimobihmhiaaGreatDoor
namespace Rows

/-- THE TIED CARD OF 'beadlelaw12.ImagePuts'. -/
def imagePutsCard : Claim7 := { stood := { row := imagePutsRow, standIns := [], harness := (true, "f33f970ee0b299926ce375a5a3bf15e76816fd5d56a717fe75b7eb6c3310f966"), looks := false }, kinds := [], alts := [], laidByText := true, laidKinds := [.data, .sentinel, .pinned], laidTests := true, laidLooks := .later }
def ImagePutsCardSaid : Prop := Claim7.holds Tryz.pinned (.plain (OpenSpec.ofChange imagePutsSpec)) imagePutsCard

/-- THE TIED CARD OF 'beadlelaw12.ImageGets'. -/
def imageGetsCard : Claim7 := { stood := { row := imageGetsRow, standIns := [], harness := (true, "f33f970ee0b299926ce375a5a3bf15e76816fd5d56a717fe75b7eb6c3310f966"), looks := false }, kinds := [], alts := [], laidByText := true, laidKinds := [.data, .sentinel, .pinned], laidTests := true, laidLooks := .later }
def ImageGetsCardSaid : Prop := Claim7.holds Tryz.pinned (.plain (OpenSpec.ofChange imageGetsSpec)) imageGetsCard

/-- THE SECOND FORM's CARD OF 'beadlelaw12.ImagePuts'. -/
def imagePutsUptoCard : Claim7 := { stood := { row := imagePutsUptoRow, standIns := [], harness := (true, "f33f970ee0b299926ce375a5a3bf15e76816fd5d56a717fe75b7eb6c3310f966"), looks := false }, kinds := [], alts := [], laidByText := true, laidKinds := [.data, .sentinel, .pinned], laidTests := true, laidLooks := .later }
def ImagePutsUptoCardSaid : Prop := Claim7.holds Tryz.pinned (.plain (OpenSpec.upto imagePutsSpec)) imagePutsUptoCard

/-- THE SECOND FORM's CARD OF 'beadlelaw12.ImageGets'. -/
def imageGetsUptoCard : Claim7 := { stood := { row := imageGetsUptoRow, standIns := [], harness := (true, "f33f970ee0b299926ce375a5a3bf15e76816fd5d56a717fe75b7eb6c3310f966"), looks := false }, kinds := [], alts := [], laidByText := true, laidKinds := [.data, .sentinel, .pinned], laidTests := true, laidLooks := .later }
def ImageGetsUptoCardSaid : Prop := Claim7.holds Tryz.pinned (.plain (OpenSpec.upto imageGetsSpec)) imageGetsUptoCard
end Rows
end Go.Proofs.YthbaimobihmhiaaGreatDoor
