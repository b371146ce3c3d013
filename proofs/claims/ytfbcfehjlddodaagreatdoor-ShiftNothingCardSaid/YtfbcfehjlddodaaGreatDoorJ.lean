/- The closed facts of the row, all together. -/
import Derived.Test.YtfbcfehjlddodaaGreatDoorN3
import Derived.Test.YtfbcfehjlddodaaGreatDoorN4
import Derived.Test.YtfbcfehjlddodaaGreatDoorN5
import Derived.Test.YtfbcfehjlddodaaGreatDoorL5
import Derived.Test.YtfbcfehjlddodaaGreatDoorM2
import Derived.Test.YtfbcfehjlddodaaGreatDoorM24
import Derived.Test.YtfbcfehjlddodaaGreatDoorM25
import Derived.Test.YtfbcfehjlddodaaGreatDoorRows
set_option linter.all false
set_option autoImplicit true
set_option relaxedAutoImplicit true
set_option maxRecDepth 1000000
namespace Go.Fa
open Go Go.Proofs Go.Proofs.YtfbcfehjlddodaaGreatDoor
theorem and2 {a b : Bool} (h1 : a = true) (h2 : b = true) : (a && b) = true := by rw [h1, h2]; rfl
theorem joined : joinedFacts Tryz.prog 3 Tryz.f3 Rows.shiftNothingSpec Rows.shiftNothingRow = true := by
  unfold joinedFacts
  exact (and2 (and2 (and2 (and2 (and2 (and2 (and2 (and2 (and2 (and2 (and2 (and2 (and2 (and2 (and2 (and2 (and2 (and2 (and2 (and2 (and2 (and2 (and2 (and2 (and2 (and2 (and2 (and2 (and2 (and2 (and2 (by kernel_rfl) laid_out) m2) (by kernel_rfl)) (by kernel_rfl)) (by kernel_rfl)) (by kernel_rfl)) (by kernel_rfl)) (by kernel_rfl)) (by rw [n3]; kernel_rfl)) (by rw [n4]; kernel_rfl)) (by rw [n4b]; kernel_rfl)) (by rw [n5]; kernel_rfl)) (by kernel_rfl)) (by kernel_rfl)) (by kernel_rfl)) (by kernel_rfl)) (by kernel_rfl)) (by kernel_rfl)) (by kernel_rfl)) (by kernel_rfl)) (by kernel_rfl)) (by kernel_rfl)) (by kernel_rfl)) m24) m25) (by kernel_rfl)) (by kernel_rfl)) (by kernel_rfl)) (by kernel_rfl)) (by kernel_rfl)) (by kernel_rfl))
end Go.Fa
