/-
  DERIVED. GIVEN WITH THE SEED: THE CARDS: each row of YtinahcnpabjinaaDoorRows.lean that lists a variable, with what it lists TIED to the program's text (the seventh form; the later family's looks); each row that meets fmt, with fmt's text TOLD by the authors' own Lean function (tested against real Go, not proved from fmt's source: count such statements apart). THE CARD IS WHAT COUNTS. Prove the row's statement (the work); the ties are given (YtinahcnpabjinaaDoorTie.lean); close each card by the builder's one call (the guide's Derived/Test/ToyasCard.lean, 'card_holds'). Laid BY PROGRAM, IN A SANDBOX (cutbox-door.mjs). By AI agents, Wed Nov 11 2026. No macro, syntax, notation, axiom, sorry.
-/
import Derived.Test.YtinahcnpabjinaaDoorRows
import GoSem.ClaimSeven
namespace Go.Proofs.YtinahcnpabjinaaDoor
namespace Rows

/-- THE TIED CARD OF 'beadlelaw26.QueueAgrees'. -/
def queueAgreesCard : Claim7 := { stood := { row := queueAgreesRow, standIns := [], harness := (true, "063c5c2804bb175b940d0629bbc4c67973a85b9f5aeb271f19aa1bdf8ba37772"), looks := false }, kinds := [], alts := [], laidByText := true, laidKinds := [.data], laidTests := true, laidLooks := .later }
def QueueAgreesCardSaid : Prop := Claim7.holds Tryd.pinned (.plain (OpenSpec.ofChange queueAgreesSpec)) queueAgreesCard

/-- THE TIED CARD OF 'beadlelaw11.TreeTwice'. -/
def treeTwiceCard : Claim7 := { stood := { row := treeTwiceRow, standIns := [], harness := (true, "063c5c2804bb175b940d0629bbc4c67973a85b9f5aeb271f19aa1bdf8ba37772"), looks := false }, kinds := [], alts := [], laidByText := true, laidKinds := [.data], laidTests := true, laidLooks := .later }
def TreeTwiceCardSaid : Prop := Claim7.holds Tryd.pinned (.plain (OpenSpec.ofChange treeTwiceSpec)) treeTwiceCard

/-- THE SECOND FORM's CARD OF 'beadlelaw26.QueueAgrees'. -/
def queueAgreesUptoCard : Claim7 := { stood := { row := queueAgreesUptoRow, standIns := [], harness := (true, "063c5c2804bb175b940d0629bbc4c67973a85b9f5aeb271f19aa1bdf8ba37772"), looks := false }, kinds := [], alts := [], laidByText := true, laidKinds := [.data], laidTests := true, laidLooks := .later }
def QueueAgreesUptoCardSaid : Prop := Claim7.holds Tryd.pinned (.plain (OpenSpec.upto queueAgreesSpec)) queueAgreesUptoCard

/-- THE SECOND FORM's CARD OF 'beadlelaw11.TreeTwice'. -/
def treeTwiceUptoCard : Claim7 := { stood := { row := treeTwiceUptoRow, standIns := [], harness := (true, "063c5c2804bb175b940d0629bbc4c67973a85b9f5aeb271f19aa1bdf8ba37772"), looks := false }, kinds := [], alts := [], laidByText := true, laidKinds := [.data], laidTests := true, laidLooks := .later }
def TreeTwiceUptoCardSaid : Prop := Claim7.holds Tryd.pinned (.plain (OpenSpec.upto treeTwiceSpec)) treeTwiceUptoCard
end Rows
end Go.Proofs.YtinahcnpabjinaaDoor
