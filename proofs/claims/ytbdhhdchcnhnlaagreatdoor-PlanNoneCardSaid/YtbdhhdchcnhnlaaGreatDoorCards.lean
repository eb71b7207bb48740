/-
  DERIVED. GIVEN WITH THE SEED: THE CARDS: each row of YtbdhhdchcnhnlaaGreatDoorRows.lean that lists a variable, with what it lists TIED to the program's text (the seventh form; the later family's looks); each row that meets fmt, with fmt's text TOLD by the authors' own Lean function (tested against real Go, not proved from fmt's source: count such statements apart). THE CARD IS WHAT COUNTS. Prove the row's statement (the work); the ties are given (YtbdhhdchcnhnlaaGreatDoorTie.lean); close each card by the builder's one call (the guide's Derived/Test/ToyasCard.lean, 'card_holds'). Laid BY PROGRAM, IN A SANDBOX (cutbox-door.mjs). By AI agents, Wed Nov 11 2026. No macro, syntax, notation, axiom, sorry.
-/
import Derived.Test.YtbdhhdchcnhnlaaGreatDoorRows
import GoSem.ClaimSeven
namespace Go.Proofs.YtbdhhdchcnhnlaaGreatDoor
namespace Rows

/-- THE TIED CARD OF 'beadlelaw18.PlanNone'. -/
def planNoneCard : Claim7 := { stood := { row := planNoneRow, standIns := [], harness := (true, "4b2aae354f016f76e233fe9f2252700a9871f98b71a9256fae1c89609afcc281"), looks := true }, kinds := [], alts := [], laidByText := true, laidKinds := [.data], laidTests := true, laidLooks := .later }
def PlanNoneCardSaid : Prop := Claim7.holds Tryz.pinned (.plain (OpenSpec.ofChange planNoneSpec)) planNoneCard

/-- THE TIED CARD OF 'beadlelaw13.FuzzyNone'. -/
def fuzzyNoneCard : Claim7 := { stood := { row := fuzzyNoneRow, standIns := [], harness := (true, "4b2aae354f016f76e233fe9f2252700a9871f98b71a9256fae1c89609afcc281"), looks := true }, kinds := [], alts := [], laidByText := true, laidKinds := [.sentinel, .data], laidTests := true, laidLooks := .later }
def FuzzyNoneCardSaid : Prop := Claim7.holds Tryz.pinned (.plain (OpenSpec.ofChange fuzzyNoneSpec)) fuzzyNoneCard

/-- THE SECOND FORM's CARD OF 'beadlelaw18.PlanNone'. -/
def planNoneUptoCard : Claim7 := { stood := { row := planNoneUptoRow, standIns := [], harness := (true, "4b2aae354f016f76e233fe9f2252700a9871f98b71a9256fae1c89609afcc281"), looks := true }, kinds := [], alts := [], laidByText := true, laidKinds := [.data], laidTests := true, laidLooks := .later }
def PlanNoneUptoCardSaid : Prop := Claim7.holds Tryz.pinned (.plain (OpenSpec.upto planNoneSpec)) planNoneUptoCard

/-- THE SECOND FORM's CARD OF 'beadlelaw13.FuzzyNone'. -/
def fuzzyNoneUptoCard : Claim7 := { stood := { row := fuzzyNoneUptoRow, standIns := [], harness := (true, "4b2aae354f016f76e233fe9f2252700a9871f98b71a9256fae1c89609afcc281"), looks := true }, kinds := [], alts := [], laidByText := true, laidKinds := [.sentinel, .data], laidTests := true, laidLooks := .later }
def FuzzyNoneUptoCardSaid : Prop := Claim7.holds Tryz.pinned (.plain (OpenSpec.upto fuzzyNoneSpec)) fuzzyNoneUptoCard
end Rows
end Go.Proofs.YtbdhhdchcnhnlaaGreatDoor
