/-
  LinesNumbers: rounds of its loops.
-/
import Derived.Test.YtbmloajiedchjaaGreatDoorTlW
namespace Go.Proofs.YtbmloajiedchjaaGreatDoor
open Go.Sx Go.RowKit
noncomputable section

set_option maxRecDepth 100000 in
theorem r7_0 : Round C1 7 (S7 0) := by intro a4 a5 blk os out tape gok; kernel_rfl

set_option maxRecDepth 100000 in
theorem r7_1 : Round C1 7 (S7 1) := by intro a4 a5 blk os out tape gok; kernel_rfl

set_option maxRecDepth 100000 in
theorem r7_2 : Round C1 7 (S7 2) := by intro a4 a5 blk os out tape gok; kernel_rfl

set_option maxRecDepth 100000 in
theorem r7_3 : Round C1 7 (S7 3) := by intro a4 a5 blk os out tape gok; kernel_rfl

set_option maxRecDepth 100000 in
theorem r7_4 : Round C1 7 (S7 4) := by intro a4 a5 blk os out tape gok; kernel_rfl

set_option maxRecDepth 100000 in
theorem r7_5 : Round C1 7 (S7 5) := by intro a4 a5 blk os out tape gok; kernel_rfl

set_option maxRecDepth 100000 in
theorem r7_6 : Round C1 7 (S7 6) := by intro a4 a5 blk os out tape gok; kernel_rfl

set_option maxRecDepth 100000 in
theorem r7_7 : Round C1 7 (S7 7) := by intro a4 a5 blk os out tape gok; kernel_rfl

set_option maxRecDepth 100000 in
theorem r7_8 : Round C1 7 (S7 8) := by intro a4 a5 blk os out tape gok; kernel_rfl

set_option maxRecDepth 100000 in
theorem r7_9 : Round C1 7 (S7 9) := by intro a4 a5 blk os out tape gok; kernel_rfl

set_option maxRecDepth 100000 in
theorem r7_10 : Round C1 7 (S7 10) := by intro a4 a5 blk os out tape gok; kernel_rfl

set_option maxRecDepth 100000 in
theorem r7_11 : Round C1 7 (S7 11) := by intro a4 a5 blk os out tape gok; kernel_rfl

set_option maxRecDepth 100000 in
theorem r7_12 : Round C1 7 (S7 12) := by intro a4 a5 blk os out tape gok; kernel_rfl

set_option maxRecDepth 100000 in
theorem r7_13 : Round C1 7 (S7 13) := by intro a4 a5 blk os out tape gok; kernel_rfl

set_option maxRecDepth 100000 in
theorem r7_14 : Round C1 7 (S7 14) := by intro a4 a5 blk os out tape gok; kernel_rfl

set_option maxRecDepth 100000 in
theorem r7_15 : Round C1 7 (S7 15) := by intro a4 a5 blk os out tape gok; kernel_rfl

set_option maxRecDepth 100000 in
theorem r7_16 : Round C1 7 (S7 16) := by intro a4 a5 blk os out tape gok; kernel_rfl

set_option maxRecDepth 100000 in
theorem r7_17 : Round C1 7 (S7 17) := by intro a4 a5 blk os out tape gok; kernel_rfl

set_option maxRecDepth 100000 in
theorem r7_18 : Round C1 7 (S7 18) := by intro a4 a5 blk os out tape gok; kernel_rfl

set_option maxRecDepth 100000 in
theorem r7_19 : Round C1 7 (S7 19) := by intro a4 a5 blk os out tape gok; kernel_rfl

set_option maxRecDepth 100000 in
theorem r7_20 : Round C1 7 (S7 20) := by intro a4 a5 blk os out tape gok; kernel_rfl

set_option maxRecDepth 100000 in
theorem r7_21 : Round C1 7 (S7 21) := by intro a4 a5 blk os out tape gok; kernel_rfl

set_option maxRecDepth 100000 in
theorem r7_22 : Round C1 7 (S7 22) := by intro a4 a5 blk os out tape gok; kernel_rfl

set_option maxRecDepth 100000 in
theorem r7_23 : Round C1 7 (S7 23) := by intro a4 a5 blk os out tape gok; kernel_rfl

set_option maxRecDepth 100000 in
theorem r7_24 : Round C1 7 (S7 24) := by intro a4 a5 blk os out tape gok; kernel_rfl

set_option maxRecDepth 100000 in
theorem r7_25 : Round C1 7 (S7 25) := by intro a4 a5 blk os out tape gok; kernel_rfl

set_option maxRecDepth 100000 in
theorem r7_26 : Round C1 7 (S7 26) := by intro a4 a5 blk os out tape gok; kernel_rfl

set_option maxRecDepth 100000 in
theorem r7_27 : Round C1 7 (S7 27) := by intro a4 a5 blk os out tape gok; kernel_rfl

set_option maxRecDepth 100000 in
theorem r7_28 : Round C1 7 (S7 28) := by intro a4 a5 blk os out tape gok; kernel_rfl

set_option maxRecDepth 100000 in
theorem r7_29 : Round C1 7 (S7 29) := by intro a4 a5 blk os out tape gok; kernel_rfl

set_option maxRecDepth 100000 in
theorem r7_30 : Round C1 7 (S7 30) := by intro a4 a5 blk os out tape gok; kernel_rfl

set_option maxRecDepth 100000 in
theorem r7_31 : Round C1 7 (S7 31) := by intro a4 a5 blk os out tape gok; kernel_rfl

set_option maxRecDepth 100000 in
theorem r7_32 : Round C1 7 (S7 32) := by intro a4 a5 blk os out tape gok; kernel_rfl

set_option maxRecDepth 100000 in
theorem r7_33 : Round C1 7 (S7 33) := by intro a4 a5 blk os out tape gok; kernel_rfl

set_option maxRecDepth 100000 in
theorem r7_34 : Round C1 7 (S7 34) := by intro a4 a5 blk os out tape gok; kernel_rfl

end
end Go.Proofs.YtbmloajiedchjaaGreatDoor
