/-
  TreeNumbers: rounds 0 to 3 over the rows that are no tree's.
-/
import Derived.Test.YtfkginobkobihaaDoorTmA
namespace Go.Proofs.YtfkginobkobihaaDoor
open Go.Sx Go.RowKit
noncomputable section

set_option maxRecDepth 100000 in
theorem round0 : Round 0 := by intro blk os out tape gok; kernel_rfl

set_option maxRecDepth 100000 in
theorem round1 : Round 1 := by intro blk os out tape gok; kernel_rfl

set_option maxRecDepth 100000 in
theorem round2 : Round 2 := by intro blk os out tape gok; kernel_rfl

set_option maxRecDepth 100000 in
theorem round3 : Round 3 := by intro blk os out tape gok; kernel_rfl

end
end Go.Proofs.YtfkginobkobihaaDoor
