/-
  DERIVED. GIVEN WITH THE SEED: THE CARDS: each row of YtpgpbnalgjbfbaaDoorRows.lean that lists a variable, with what it lists TIED to the program's text (the seventh form; the later family's looks); each row that meets fmt, with fmt's text TOLD by the authors' own Lean function (tested against real Go, not proved from fmt's source: count such statements apart). THE CARD IS WHAT COUNTS. Prove the row's statement (the work); the ties are given (YtpgpbnalgjbfbaaDoorTie.lean); close each card by the builder's one call (the guide's Derived/Test/ToyasCard.lean, 'card_holds'). Laid BY PROGRAM, IN A SANDBOX (cutbox-door.mjs). By AI agents, Wed Nov 11 2026. No macro, syntax, notation, axiom, sorry.
-/
import Derived.Test.YtpgpbnalgjbfbaaDoorRows
import GoSem.ClaimSeven
namespace Go.Proofs.YtpgpbnalgjbfbaaDoor
namespace Rows

/-- THE TIED CARD OF 'beadlelaw19.BellNil'. -/
def bellNilCard : Claim7 := { stood := { row := bellNilRow, standIns := [], harness := (true, "2aab126df256b2111d93ab60568b1b9306c51f4c906e04f6c3c7a2a462affc02"), looks := false }, kinds := [], alts := [], laidByText := true, laidKinds := [.data], laidTests := true, laidLooks := .later }
def BellNilCardSaid : Prop := Claim7.holds Tryd.pinned (.plain (OpenSpec.ofChange bellNilSpec)) bellNilCard

/-- THE TIED CARD OF 'beadlelaw19.BellFirst'. -/
def bellFirstCard : Claim7 := { stood := { row := bellFirstRow, standIns := [], harness := (true, "2aab126df256b2111d93ab60568b1b9306c51f4c906e04f6c3c7a2a462affc02"), looks := false }, kinds := [], alts := [], laidByText := true, laidKinds := [.data], laidTests := true, laidLooks := .later }
def BellFirstCardSaid : Prop := Claim7.holds Tryd.pinned (.plain (OpenSpec.ofChange bellFirstSpec)) bellFirstCard

/-- THE SECOND FORM's CARD OF 'beadlelaw19.BellNil'. -/
def bellNilUptoCard : Claim7 := { stood := { row := bellNilUptoRow, standIns := [], harness := (true, "2aab126df256b2111d93ab60568b1b9306c51f4c906e04f6c3c7a2a462affc02"), looks := false }, kinds := [], alts := [], laidByText := true, laidKinds := [.data], laidTests := true, laidLooks := .later }
def BellNilUptoCardSaid : Prop := Claim7.holds Tryd.pinned (.plain (OpenSpec.upto bellNilSpec)) bellNilUptoCard

/-- THE SECOND FORM's CARD OF 'beadlelaw19.BellFirst'. -/
def bellFirstUptoCard : Claim7 := { stood := { row := bellFirstUptoRow, standIns := [], harness := (true, "2aab126df256b2111d93ab60568b1b9306c51f4c906e04f6c3c7a2a462affc02"), looks := false }, kinds := [], alts := [], laidByText := true, laidKinds := [.data], laidTests := true, laidLooks := .later }
def BellFirstUptoCardSaid : Prop := Claim7.holds Tryd.pinned (.plain (OpenSpec.upto bellFirstSpec)) bellFirstUptoCard
end Rows
end Go.Proofs.YtpgpbnalgjbfbaaDoor
