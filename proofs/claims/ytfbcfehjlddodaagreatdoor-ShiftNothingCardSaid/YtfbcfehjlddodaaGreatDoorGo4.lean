/- The law starts no goroutine. -/
import Derived.Test.YtfbcfehjlddodaaGreatDoorFb
import Derived.Test.YtfbcfehjlddodaaGreatDoorGo0
import Derived.Test.YtfbcfehjlddodaaGreatDoorGo1
import Derived.Test.YtfbcfehjlddodaaGreatDoorGo2
import Derived.Test.YtfbcfehjlddodaaGreatDoorGo3
import Derived.Test.YtfbcfehjlddodaaGreatDoorProg
set_option linter.all false
set_option autoImplicit true
set_option relaxedAutoImplicit true
set_option maxRecDepth 1000000
namespace Go.Fa
open Go Go.Proofs
theorem no_go : Tryz.prog.goes 3 = false := goes_of (all_parts (k := 94) 8 (fun i hi => by
  match i, hi with
  | 0, _ => exact g0
  | 1, _ => exact g1
  | 2, _ => exact g2
  | 3, _ => exact g3
  | 4, _ => exact g4
  | 5, _ => exact g5
  | 6, _ => exact g6
  | 7, _ => exact g7
  | n + 8, hi => exact absurd hi (by omega)) (Nat.le_of_ble_eq_true (by kernel_rfl)))
end Go.Fa
