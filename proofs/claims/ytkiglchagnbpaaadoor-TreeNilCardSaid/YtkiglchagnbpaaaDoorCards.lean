/-
  DERIVED. GIVEN WITH THE SEED: THE CARDS: each row of YtkiglchagnbpaaaDoorRows.lean that lists a variable, with what it lists TIED to the program's text (the seventh form; the later family's looks); each row that meets fmt, with fmt's text TOLD by the authors' own Lean function (tested against real Go, not proved from fmt's source: count such statements apart). THE CARD IS WHAT COUNTS. Prove the row's statement (the work); the ties are given (YtkiglchagnbpaaaDoorTie.lean); close each card by the builder's one call (the guide's Derived/Test/ToyasCard.lean, 'card_holds'). Laid BY PROGRAM, IN A SANDBOX (cutbox-door.mjs). By AI agents, Wed Nov 11 2026. No macro, syntax, notation, axiom, sorry.
-/
import Derived.Test.YtkiglchagnbpaaaDoorRows
import GoSem.ClaimSeven
namespace Go.Proofs.YtkiglchagnbpaaaDoor
namespace Rows

/-- THE TIED CARD OF 'beadlelaw19.BellNil'. -/
def bellNilCard : Claim7 := { stood := { row := bellNilRow, standIns := [], harness := (true, "aab9a592512e78b2be3fd34411cd314648402d1c7ecd953c3639eb10e2719e8d"), looks := false }, kinds := [], alts := [], laidByText := true, laidKinds := [.data], laidTests := true, laidLooks := .later }
def BellNilCardSaid : Prop := Claim7.holds Tryd.pinned (.plain (OpenSpec.ofChange bellNilSpec)) bellNilCard

/-- THE TIED CARD OF 'beadlelaw11.TreeNil'. -/
def treeNilCard : Claim7 := { stood := { row := treeNilRow, standIns := [], harness := (true, "aab9a592512e78b2be3fd34411cd314648402d1c7ecd953c3639eb10e2719e8d"), looks := false }, kinds := [], alts := [], laidByText := true, laidKinds := [.data], laidTests := true, laidLooks := .later }
def TreeNilCardSaid : Prop := Claim7.holds Tryd.pinned (.plain (OpenSpec.ofChange treeNilSpec)) treeNilCard

/-- THE SECOND FORM's CARD OF 'beadlelaw19.BellNil'. -/
def bellNilUptoCard : Claim7 := { stood := { row := bellNilUptoRow, standIns := [], harness := (true, "aab9a592512e78b2be3fd34411cd314648402d1c7ecd953c3639eb10e2719e8d"), looks := false }, kinds := [], alts := [], laidByText := true, laidKinds := [.data], laidTests := true, laidLooks := .later }
def BellNilUptoCardSaid : Prop := Claim7.holds Tryd.pinned (.plain (OpenSpec.upto bellNilSpec)) bellNilUptoCard

/-- THE SECOND FORM's CARD OF 'beadlelaw11.TreeNil'. -/
def treeNilUptoCard : Claim7 := { stood := { row := treeNilUptoRow, standIns := [], harness := (true, "aab9a592512e78b2be3fd34411cd314648402d1c7ecd953c3639eb10e2719e8d"), looks := false }, kinds := [], alts := [], laidByText := true, laidKinds := [.data], laidTests := true, laidLooks := .later }
def TreeNilUptoCardSaid : Prop := Claim7.holds Tryd.pinned (.plain (OpenSpec.upto treeNilSpec)) treeNilUptoCard
end Rows
end Go.Proofs.YtkiglchagnbpaaaDoor
