/-
  DERIVED. GIVEN WITH THE SEED: THE CARDS: each row of YtmmlhdiejkknnaaGreatDoorRows.lean that lists a variable, with what it lists TIED to the program's text (the seventh form; the later family's looks); each row that meets fmt, with fmt's text TOLD by the authors' own Lean function (tested against real Go, not proved from fmt's source: count such statements apart). THE CARD IS WHAT COUNTS. Prove the row's statement (the work); the ties are given (YtmmlhdiejkknnaaGreatDoorTie.lean); close each card by the builder's one call (the guide's Derived/Test/ToyasCard.lean, 'card_holds'). Laid BY PROGRAM, IN A SANDBOX (cutbox-door.mjs). By AI agents, Wed Nov 11 2026. No macro, syntax, notation, axiom, sorry.
-/
import Derived.Test.YtmmlhdiejkknnaaGreatDoorRows
import GoSem.ClaimSeven
namespace Go.Proofs.YtmmlhdiejkknnaaGreatDoor
namespace Rows

/-- THE TIED CARD OF 'beadlelaw12.ImageTree'. -/
def imageTreeCard : Claim7 := { stood := { row := imageTreeRow, standIns := [], harness := (true, "81faf867a5df5dac7a68e97466dcd812506dbac83d8bc11b891ee1cedb6afa56"), looks := false }, kinds := [], alts := [], laidByText := true, laidKinds := [.sentinel, .data], laidTests := true, laidLooks := .later }
def ImageTreeCardSaid : Prop := Claim7.holds Tryz.pinned (.plain (OpenSpec.ofChange imageTreeSpec)) imageTreeCard

/-- THE TIED CARD OF 'beadlelaw13.FuzzyWhole'. -/
def fuzzyWholeCard : Claim7 := { stood := { row := fuzzyWholeRow, standIns := [], harness := (true, "81faf867a5df5dac7a68e97466dcd812506dbac83d8bc11b891ee1cedb6afa56"), looks := false }, kinds := [], alts := [], laidByText := true, laidKinds := [.sentinel, .data], laidTests := true, laidLooks := .later }
def FuzzyWholeCardSaid : Prop := Claim7.holds Tryz.pinned (.plain (OpenSpec.ofChange fuzzyWholeSpec)) fuzzyWholeCard

/-- THE TIED CARD OF 'beadlelaw13.FuzzyStill'. -/
def fuzzyStillCard : Claim7 := { stood := { row := fuzzyStillRow, standIns := [], harness := (true, "81faf867a5df5dac7a68e97466dcd812506dbac83d8bc11b891ee1cedb6afa56"), looks := false }, kinds := [], alts := [], laidByText := true, laidKinds := [.sentinel, .data], laidTests := true, laidLooks := .later }
def FuzzyStillCardSaid : Prop := Claim7.holds Tryz.pinned (.plain (OpenSpec.ofChange fuzzyStillSpec)) fuzzyStillCard

/-- THE TIED CARD OF 'beadlelaw13.FuzzyWrites'. -/
def fuzzyWritesCard : Claim7 := { stood := { row := fuzzyWritesRow, standIns := [], harness := (true, "81faf867a5df5dac7a68e97466dcd812506dbac83d8bc11b891ee1cedb6afa56"), looks := false }, kinds := [], alts := [], laidByText := true, laidKinds := [.data, .sentinel, .data, .pinned], laidTests := true, laidLooks := .later }
def FuzzyWritesCardSaid : Prop := Claim7.holds Tryz.pinned (.plain (OpenSpec.ofChange fuzzyWritesSpec)) fuzzyWritesCard

/-- THE TIED CARD OF 'beadlelaw13.FuzzyRestores'. -/
def fuzzyRestoresCard : Claim7 := { stood := { row := fuzzyRestoresRow, standIns := [], harness := (true, "81faf867a5df5dac7a68e97466dcd812506dbac83d8bc11b891ee1cedb6afa56"), looks := false }, kinds := [], alts := [], laidByText := true, laidKinds := [.data, .sentinel, .data, .pinned], laidTests := true, laidLooks := .later }
def FuzzyRestoresCardSaid : Prop := Claim7.holds Tryz.pinned (.plain (OpenSpec.ofChange fuzzyRestoresSpec)) fuzzyRestoresCard

/-- THE SECOND FORM's CARD OF 'beadlelaw12.ImageTree'. -/
def imageTreeUptoCard : Claim7 := { stood := { row := imageTreeUptoRow, standIns := [], harness := (true, "81faf867a5df5dac7a68e97466dcd812506dbac83d8bc11b891ee1cedb6afa56"), looks := false }, kinds := [], alts := [], laidByText := true, laidKinds := [.sentinel, .data], laidTests := true, laidLooks := .later }
def ImageTreeUptoCardSaid : Prop := Claim7.holds Tryz.pinned (.plain (OpenSpec.upto imageTreeSpec)) imageTreeUptoCard

/-- THE SECOND FORM's CARD OF 'beadlelaw13.FuzzyWhole'. -/
def fuzzyWholeUptoCard : Claim7 := { stood := { row := fuzzyWholeUptoRow, standIns := [], harness := (true, "81faf867a5df5dac7a68e97466dcd812506dbac83d8bc11b891ee1cedb6afa56"), looks := false }, kinds := [], alts := [], laidByText := true, laidKinds := [.sentinel, .data], laidTests := true, laidLooks := .later }
def FuzzyWholeUptoCardSaid : Prop := Claim7.holds Tryz.pinned (.plain (OpenSpec.upto fuzzyWholeSpec)) fuzzyWholeUptoCard

/-- THE SECOND FORM's CARD OF 'beadlelaw13.FuzzyStill'. -/
def fuzzyStillUptoCard : Claim7 := { stood := { row := fuzzyStillUptoRow, standIns := [], harness := (true, "81faf867a5df5dac7a68e97466dcd812506dbac83d8bc11b891ee1cedb6afa56"), looks := false }, kinds := [], alts := [], laidByText := true, laidKinds := [.sentinel, .data], laidTests := true, laidLooks := .later }
def FuzzyStillUptoCardSaid : Prop := Claim7.holds Tryz.pinned (.plain (OpenSpec.upto fuzzyStillSpec)) fuzzyStillUptoCard

/-- THE SECOND FORM's CARD OF 'beadlelaw13.FuzzyWrites'. -/
def fuzzyWritesUptoCard : Claim7 := { stood := { row := fuzzyWritesUptoRow, standIns := [], harness := (true, "81faf867a5df5dac7a68e97466dcd812506dbac83d8bc11b891ee1cedb6afa56"), looks := false }, kinds := [], alts := [], laidByText := true, laidKinds := [.data, .sentinel, .data, .pinned], laidTests := true, laidLooks := .later }
def FuzzyWritesUptoCardSaid : Prop := Claim7.holds Tryz.pinned (.plain (OpenSpec.upto fuzzyWritesSpec)) fuzzyWritesUptoCard

/-- THE SECOND FORM's CARD OF 'beadlelaw13.FuzzyRestores'. -/
def fuzzyRestoresUptoCard : Claim7 := { stood := { row := fuzzyRestoresUptoRow, standIns := [], harness := (true, "81faf867a5df5dac7a68e97466dcd812506dbac83d8bc11b891ee1cedb6afa56"), looks := false }, kinds := [], alts := [], laidByText := true, laidKinds := [.data, .sentinel, .data, .pinned], laidTests := true, laidLooks := .later }
def FuzzyRestoresUptoCardSaid : Prop := Claim7.holds Tryz.pinned (.plain (OpenSpec.upto fuzzyRestoresSpec)) fuzzyRestoresUptoCard
end Rows
end Go.Proofs.YtmmlhdiejkknnaaGreatDoor
