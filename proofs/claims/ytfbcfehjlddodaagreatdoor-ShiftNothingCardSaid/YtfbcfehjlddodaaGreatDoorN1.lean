/- The search, by the kernel. -/
import Derived.Test.YtfbcfehjlddodaaGreatDoorFa
import Derived.Test.YtfbcfehjlddodaaGreatDoorN0
import Derived.Test.YtfbcfehjlddodaaGreatDoorProg
set_option linter.all false
set_option autoImplicit true
set_option relaxedAutoImplicit true
set_option maxRecDepth 100000
namespace Go.Fa
open Go Go.Proofs
theorem n1 : clo Tryz.prog steps [3] [] 0 = some reach := by kernel_rfl
end Go.Fa
