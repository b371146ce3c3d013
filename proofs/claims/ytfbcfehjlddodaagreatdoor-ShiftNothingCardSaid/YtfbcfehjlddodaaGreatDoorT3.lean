/- The kinds of the variables. -/
import Derived.Test.YtfbcfehjlddodaaGreatDoorT0
import Derived.LaidByTextLater
import Derived.SevenTiedAt
import Derived.KernelRfl
import Derived.Test.YtfbcfehjlddodaaGreatDoorRows
set_option linter.all false
set_option autoImplicit true
set_option relaxedAutoImplicit true
set_option maxRecDepth 1000000
namespace Go.Fa
open Go Go.Proofs Go.Proofs.YtfbcfehjlddodaaGreatDoor
theorem t5 : plainLaid.map (fun x => Tryz.prog.kindOfLater x.1) = plainKinds.map some := by kernel_rfl
end Go.Fa
