/- Calls that are not followed. -/
import Derived.Test.YtfbcfehjlddodaaGreatDoorFa
import Derived.Test.YtfbcfehjlddodaaGreatDoorN3
import Derived.Test.YtfbcfehjlddodaaGreatDoorProg
set_option linter.all false
set_option autoImplicit true
set_option relaxedAutoImplicit true
set_option maxRecDepth 100000
namespace Go.Fa
open Go Go.Proofs
theorem n4 : Tryz.prog.unfollowed 3 = true := by
  unfold Program.unfollowed
  rw [reach_is]
  kernel_rfl
theorem n4b : Tryz.prog.recurses 3 = true := by unfold Program.recurses; rw [n4]; rfl
end Go.Fa
