/- A start that meets what the row lists: one closed fact of it, by the kernel. -/
import Derived.Test.YtfbcfehjlddodaaGreatDoorZ0
import Derived.LaidMore
import Derived.Lay
import Derived.MakeChecks
import Derived.Clock
import Derived.KernelRfl
import Derived.ChangeSame
import Derived.LaidLaws
import Derived.Test.YtfbcfehjlddodaaGreatDoorRows
set_option linter.all false
set_option autoImplicit true
set_option relaxedAutoImplicit true
set_option maxRecDepth 100000
namespace Go.Proofs
open Go Go.Proofs.YtfbcfehjlddodaaGreatDoor
theorem z6 (os : Os) : (World.holding Tryz.prog os ⟨#[], #[], []⟩).layFits Tryz.prog Rows.shiftNothingRow.laid [] = true := by kernel_rfl
end Go.Proofs
