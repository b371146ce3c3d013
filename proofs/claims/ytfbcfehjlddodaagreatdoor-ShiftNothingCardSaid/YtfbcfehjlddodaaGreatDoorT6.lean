/- What the text lays. -/
import Derived.Test.YtfbcfehjlddodaaGreatDoorT0
import Derived.LaidByTextLater
import Derived.SevenTiedAt
import Derived.KernelRfl
import Derived.Test.YtfbcfehjlddodaaGreatDoorRows
set_option linter.all false
set_option autoImplicit true
set_option relaxedAutoImplicit true
set_option maxRecDepth 1000000
namespace Go.Fa
open Go Go.Proofs Go.Proofs.YtfbcfehjlddodaaGreatDoor
theorem t8 (os : Os) (tape : Tape) : (DataW.laidRun Tryz.prog (varsWorld Tryz.prog 400 750 os tape).memory 8 (plainLaid.map (·.1))).map (·.1) = some plainLaid := by kernel_rfl
end Go.Fa
