/-
  LinesNumbers: rounds of its loops.
-/
import Derived.Test.YtbmloajiedchjaaGreatDoorTlW
namespace Go.Proofs.YtbmloajiedchjaaGreatDoor
open Go.Sx Go.RowKit
noncomputable section

set_option maxRecDepth 100000 in
theorem r5_8 : Round C1 5 (S5 8) := by intro a4 a5 blk os out tape gok; kernel_rfl

set_option maxRecDepth 100000 in
theorem r5_9 : Round C1 5 (S5 9) := by intro a4 a5 blk os out tape gok; kernel_rfl

set_option maxRecDepth 100000 in
theorem r5_10 : Round C1 5 (S5 10) := by intro a4 a5 blk os out tape gok; kernel_rfl

set_option maxRecDepth 100000 in
theorem r5_11 : Round C1 5 (S5 11) := by intro a4 a5 blk os out tape gok; kernel_rfl

set_option maxRecDepth 100000 in
theorem r5_12 : Round C1 5 (S5 12) := by intro a4 a5 blk os out tape gok; kernel_rfl

set_option maxRecDepth 100000 in
theorem r5_13 : Round C1 5 (S5 13) := by intro a4 a5 blk os out tape gok; kernel_rfl

set_option maxRecDepth 100000 in
theorem r5_14 : Round C1 5 (S5 14) := by intro a4 a5 blk os out tape gok; kernel_rfl

end
end Go.Proofs.YtbmloajiedchjaaGreatDoor
