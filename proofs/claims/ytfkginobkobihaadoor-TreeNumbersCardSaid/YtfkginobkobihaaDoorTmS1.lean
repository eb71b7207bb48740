/-
  TreeNumbers: the tree and its copy are not the same, behind a deed, in each order of the copy's map.
-/
import Derived.Test.YtfkginobkobihaaDoorTmA
namespace Go.Proofs.YtfkginobkobihaaDoor
open Go.Sx Go.RowKit
noncomputable section

set_option maxRecDepth 100000 in
theorem other0 : SameIs (entB 3 nR nA nC false) := by intro blk os out tape gok; kernel_rfl

set_option maxRecDepth 100000 in
theorem other1 : SameIs (entB 3 nR nC nA false) := by intro blk os out tape gok; kernel_rfl

set_option maxRecDepth 100000 in
theorem other2 : SameIs (entB 3 nA nR nC false) := by intro blk os out tape gok; kernel_rfl

set_option maxRecDepth 100000 in
theorem other3 : SameIs (entB 3 nA nC nR false) := by intro blk os out tape gok; kernel_rfl

set_option maxRecDepth 100000 in
theorem other4 : SameIs (entB 3 nC nR nA false) := by intro blk os out tape gok; kernel_rfl

set_option maxRecDepth 100000 in
theorem other5 : SameIs (entB 3 nC nA nR false) := by intro blk os out tape gok; kernel_rfl

end
end Go.Proofs.YtfkginobkobihaaDoor
