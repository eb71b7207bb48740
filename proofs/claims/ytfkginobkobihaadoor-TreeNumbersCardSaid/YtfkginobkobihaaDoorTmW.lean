/-
  TreeNumbers: the chapter's examples are true.
-/
import Derived.Test.YtfkginobkobihaaDoorTmA
namespace Go.Proofs.YtfkginobkobihaaDoor
open Go.Sx Go.RowKit
noncomputable section

set_option maxRecDepth 100000 in
theorem awake1 : Known 18 ⟨[], [], 0, true⟩ := by intro blk os out tape gok; kernel_rfl

end
end Go.Proofs.YtfkginobkobihaaDoor
