/- The maps in the types. -/
import Derived.JoinedOf
import Derived.KernelRfl
import Derived.Test.YtfbcfehjlddodaaGreatDoorProg
set_option linter.all false
set_option autoImplicit true
set_option relaxedAutoImplicit true
set_option maxRecDepth 1000000
namespace Go.Fa
open Go Go.Proofs
theorem m2 : mapsRowed Tryz.prog = true := by kernel_rfl
end Go.Fa
