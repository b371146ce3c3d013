/- The law's number. -/
import Derived.Test.YtfbcfehjlddodaaGreatDoorFb
import Derived.Test.YtfbcfehjlddodaaGreatDoorProg
set_option linter.all false
set_option autoImplicit true
set_option relaxedAutoImplicit true
set_option maxRecDepth 1000000
namespace Go.Fa
open Go Go.Proofs
theorem named3 : Tryz.prog.funcNamed "ringwork/ringworklaw28.ShiftNothing" = some 3 := by kernel_rfl
end Go.Fa
