/- The types are laid out: a part. -/
import Derived.Test.YtfbcfehjlddodaaGreatDoorFa
import Derived.Test.YtfbcfehjlddodaaGreatDoorProg
set_option linter.all false
set_option autoImplicit true
set_option relaxedAutoImplicit true
set_option maxRecDepth 100000
namespace Go.Fa
open Go Go.Proofs
theorem l6 : ((List.range' (6 * 104) 104).all (rowFine Tryz.prog)) = true := by kernel_rfl
theorem l7 : ((List.range' (7 * 104) 104).all (rowFine Tryz.prog)) = true := by kernel_rfl
end Go.Fa
