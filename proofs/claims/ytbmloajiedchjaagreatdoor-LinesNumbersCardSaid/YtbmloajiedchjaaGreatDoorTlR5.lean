/-
  LinesNumbers: rounds of its loops.
-/
import Derived.Test.YtbmloajiedchjaaGreatDoorTlW
namespace Go.Proofs.YtbmloajiedchjaaGreatDoor
open Go.Sx Go.RowKit
noncomputable section

set_option maxRecDepth 100000 in
theorem r9_0 : Round C1 9 (S9 0) := by intro a4 a5 blk os out tape gok; kernel_rfl

set_option maxRecDepth 100000 in
theorem r9_1 : Round C1 9 (S9 1) := by intro a4 a5 blk os out tape gok; kernel_rfl

set_option maxRecDepth 100000 in
theorem r9_2 : Round C1 9 (S9 2) := by intro a4 a5 blk os out tape gok; kernel_rfl

set_option maxRecDepth 100000 in
theorem r9_3 : Round C1 9 (S9 3) := by intro a4 a5 blk os out tape gok; kernel_rfl

set_option maxRecDepth 100000 in
theorem r9_4 : Round C1 9 (S9 4) := by intro a4 a5 blk os out tape gok; kernel_rfl

end
end Go.Proofs.YtbmloajiedchjaaGreatDoor
