/- The program is laid out. -/
import Derived.Test.YtfbcfehjlddodaaGreatDoorFa
import Derived.Test.YtfbcfehjlddodaaGreatDoorL0
import Derived.Test.YtfbcfehjlddodaaGreatDoorL1
import Derived.Test.YtfbcfehjlddodaaGreatDoorL2
import Derived.Test.YtfbcfehjlddodaaGreatDoorL3
import Derived.Test.YtfbcfehjlddodaaGreatDoorL4
import Derived.Test.YtfbcfehjlddodaaGreatDoorProg
set_option linter.all false
set_option autoImplicit true
set_option relaxedAutoImplicit true
set_option maxRecDepth 100000
namespace Go.Fa
open Go Go.Proofs
theorem laid_out : laidOutB Tryz.prog = true := laidOut_of (all_parts (k := 104) 8 (fun i hi => by
  match i, hi with
  | 0, _ => exact l0
  | 1, _ => exact l1
  | 2, _ => exact l2
  | 3, _ => exact l3
  | 4, _ => exact l4
  | 5, _ => exact l5
  | 6, _ => exact l6
  | 7, _ => exact l7
  | n + 8, hi => exact absurd hi (by omega)) (Nat.le_of_ble_eq_true (by kernel_rfl))) lg lf
end Go.Fa
