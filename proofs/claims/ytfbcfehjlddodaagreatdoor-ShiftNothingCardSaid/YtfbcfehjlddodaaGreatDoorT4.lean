/- The variables are those that the text names. -/
import Derived.Test.YtfbcfehjlddodaaGreatDoorT0
import Derived.LaidByTextLater
import Derived.SevenTiedAt
import Derived.KernelRfl
import Derived.Test.YtfbcfehjlddodaaGreatDoorRows
set_option linter.all false
set_option autoImplicit true
set_option relaxedAutoImplicit true
set_option maxRecDepth 1000000
namespace Go.Fa
open Go Go.Proofs Go.Proofs.YtfbcfehjlddodaaGreatDoor
theorem t6 : varsNamedLaterB Tryz.prog 750 plainLaid = true := by kernel_rfl
end Go.Fa
