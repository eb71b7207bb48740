/-
  TreeNumbers: rounds 4 to 7 over the rows that are no tree's.
-/
import Derived.Test.YtfkginobkobihaaDoorTmA
namespace Go.Proofs.YtfkginobkobihaaDoor
open Go.Sx Go.RowKit
noncomputable section

set_option maxRecDepth 100000 in
theorem round4 : Round 4 := by intro blk os out tape gok; kernel_rfl

set_option maxRecDepth 100000 in
theorem round5 : Round 5 := by intro blk os out tape gok; kernel_rfl

set_option maxRecDepth 100000 in
theorem round6 : Round 6 := by intro blk os out tape gok; kernel_rfl

set_option maxRecDepth 100000 in
theorem round7 : Round 7 := by intro blk os out tape gok; kernel_rfl

end
end Go.Proofs.YtfkginobkobihaaDoor
