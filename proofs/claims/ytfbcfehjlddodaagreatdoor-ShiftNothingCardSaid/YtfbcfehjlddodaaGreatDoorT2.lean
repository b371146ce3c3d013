/- The words of the head. -/
import Derived.Test.YtfbcfehjlddodaaGreatDoorT0
import Derived.LaidByTextLater
import Derived.SevenTiedAt
import Derived.KernelRfl
import Derived.Test.YtfbcfehjlddodaaGreatDoorRows
set_option linter.all false
set_option autoImplicit true
set_option relaxedAutoImplicit true
set_option maxRecDepth 1000000
namespace Go.Fa
open Go Go.Proofs Go.Proofs.YtfbcfehjlddodaaGreatDoor
theorem t2 : Tryz.prog.worded (varsWordLater true) = true := by kernel_rfl
theorem t3 : Tryz.prog.worded (varsWordLater !true) = false := by kernel_rfl
theorem t4 : Tryz.prog.worded rootWordLater = true := by kernel_rfl
end Go.Fa
