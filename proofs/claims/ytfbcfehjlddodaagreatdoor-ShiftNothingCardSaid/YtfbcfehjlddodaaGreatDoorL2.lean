/- The types are laid out: a part. -/
import Derived.Test.YtfbcfehjlddodaaGreatDoorFa
import Derived.Test.YtfbcfehjlddodaaGreatDoorProg
set_option linter.all false
set_option autoImplicit true
set_option relaxedAutoImplicit true
set_option maxRecDepth 100000
namespace Go.Fa
open Go Go.Proofs
theorem l4 : ((List.range' (4 * 104) 104).all (rowFine Tryz.prog)) = true := by kernel_rfl
theorem l5 : ((List.range' (5 * 104) 104).all (rowFine Tryz.prog)) = true := by kernel_rfl
end Go.Fa
