/-
  TreeNumbers: the tree and its copy are the same, in each order of the copy's map.
-/
import Derived.Test.YtfkginobkobihaaDoorTmA
namespace Go.Proofs.YtfkginobkobihaaDoor
open Go.Sx Go.RowKit
noncomputable section

set_option maxRecDepth 100000 in
theorem same0 : SameIs (entB 2 nR nA nC true) := by intro blk os out tape gok; kernel_rfl

set_option maxRecDepth 100000 in
theorem same1 : SameIs (entB 2 nR nC nA true) := by intro blk os out tape gok; kernel_rfl

set_option maxRecDepth 100000 in
theorem same2 : SameIs (entB 2 nA nR nC true) := by intro blk os out tape gok; kernel_rfl

set_option maxRecDepth 100000 in
theorem same3 : SameIs (entB 2 nA nC nR true) := by intro blk os out tape gok; kernel_rfl

set_option maxRecDepth 100000 in
theorem same4 : SameIs (entB 2 nC nR nA true) := by intro blk os out tape gok; kernel_rfl

set_option maxRecDepth 100000 in
theorem same5 : SameIs (entB 2 nC nA nR true) := by intro blk os out tape gok; kernel_rfl

end
end Go.Proofs.YtfkginobkobihaaDoor
