/- No function of a part starts a goroutine. -/
import Derived.Test.YtfbcfehjlddodaaGreatDoorFb
import Derived.Test.YtfbcfehjlddodaaGreatDoorProg
set_option linter.all false
set_option autoImplicit true
set_option relaxedAutoImplicit true
set_option maxRecDepth 1000000
namespace Go.Fa
open Go Go.Proofs
theorem g0 : ((List.range' (0 * 94) 94).all (fun i => !(Tryz.prog.funcs[i]?).any Func.goes)) = true := by kernel_rfl
theorem g1 : ((List.range' (1 * 94) 94).all (fun i => !(Tryz.prog.funcs[i]?).any Func.goes)) = true := by kernel_rfl
end Go.Fa
