/-
  LinesNumbers: rounds of its loops.
-/
import Derived.Test.YtbmloajiedchjaaGreatDoorTlW
namespace Go.Proofs.YtbmloajiedchjaaGreatDoor
open Go.Sx Go.RowKit
noncomputable section

set_option maxRecDepth 100000 in
theorem r9_10 : Round C1 9 (S9 10) := by intro a4 a5 blk os out tape gok; kernel_rfl

set_option maxRecDepth 100000 in
theorem r9_11 : Round C1 9 (S9 11) := by intro a4 a5 blk os out tape gok; kernel_rfl

set_option maxRecDepth 100000 in
theorem r9_12 : Round C1 9 (S9 12) := by intro a4 a5 blk os out tape gok; kernel_rfl

set_option maxRecDepth 100000 in
theorem r9_13 : Round C1 9 (S9 13) := by intro a4 a5 blk os out tape gok; kernel_rfl

end
end Go.Proofs.YtbmloajiedchjaaGreatDoor
