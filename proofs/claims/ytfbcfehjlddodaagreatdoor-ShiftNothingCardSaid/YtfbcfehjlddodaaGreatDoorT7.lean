/- Where the text lays it. -/
import Derived.Test.YtfbcfehjlddodaaGreatDoorT0
import Derived.LaidByTextLater
import Derived.SevenTiedAt
import Derived.KernelRfl
import Derived.Test.YtfbcfehjlddodaaGreatDoorRows
set_option linter.all false
set_option autoImplicit true
set_option relaxedAutoImplicit true
set_option maxRecDepth 1000000
namespace Go.Fa
open Go Go.Proofs Go.Proofs.YtfbcfehjlddodaaGreatDoor
theorem t9 (os : Os) (tape : Tape) : (DataW.laidRun Tryz.prog (varsWorld Tryz.prog 400 750 os tape).memory 8 (plainLaid.map (·.1))).map (fun x => decide x.2.Nodup && laidRowsB Tryz.prog (varsWorld Tryz.prog 400 750 os tape).memory x.2) = some true := by kernel_rfl
end Go.Fa
