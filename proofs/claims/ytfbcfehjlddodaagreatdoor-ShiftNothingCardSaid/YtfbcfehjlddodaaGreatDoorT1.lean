/- The number of the function that lays. -/
import Derived.LaidByTextLater
import Derived.SevenTiedAt
import Derived.KernelRfl
import Derived.Test.YtfbcfehjlddodaaGreatDoorRows
set_option linter.all false
set_option autoImplicit true
set_option relaxedAutoImplicit true
set_option maxRecDepth 1000000
namespace Go.Fa
open Go Go.Proofs Go.Proofs.YtfbcfehjlddodaaGreatDoor
theorem t1 : Tryz.prog.funcNamed "gosem.cut.vars" = some 750 := by kernel_rfl
end Go.Fa
