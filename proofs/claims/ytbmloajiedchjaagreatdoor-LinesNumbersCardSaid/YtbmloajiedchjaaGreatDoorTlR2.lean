/-
  LinesNumbers: rounds of its loops.
-/
import Derived.Test.YtbmloajiedchjaaGreatDoorTlW
namespace Go.Proofs.YtbmloajiedchjaaGreatDoor
open Go.Sx Go.RowKit
noncomputable section

set_option maxRecDepth 100000 in
theorem r5_0 : Round C1 5 (S5 0) := by intro a4 a5 blk os out tape gok; kernel_rfl

set_option maxRecDepth 100000 in
theorem r5_1 : Round C1 5 (S5 1) := by intro a4 a5 blk os out tape gok; kernel_rfl

set_option maxRecDepth 100000 in
theorem r5_2 : Round C1 5 (S5 2) := by intro a4 a5 blk os out tape gok; kernel_rfl

set_option maxRecDepth 100000 in
theorem r5_3 : Round C1 5 (S5 3) := by intro a4 a5 blk os out tape gok; kernel_rfl

set_option maxRecDepth 100000 in
theorem r5_4 : Round C1 5 (S5 4) := by intro a4 a5 blk os out tape gok; kernel_rfl

set_option maxRecDepth 100000 in
theorem r5_5 : Round C1 5 (S5 5) := by intro a4 a5 blk os out tape gok; kernel_rfl

set_option maxRecDepth 100000 in
theorem r5_6 : Round C1 5 (S5 6) := by intro a4 a5 blk os out tape gok; kernel_rfl

set_option maxRecDepth 100000 in
theorem r5_7 : Round C1 5 (S5 7) := by intro a4 a5 blk os out tape gok; kernel_rfl

end
end Go.Proofs.YtbmloajiedchjaaGreatDoor
