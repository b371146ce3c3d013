/- The variables and the functions are laid out. -/
import Derived.Test.YtfbcfehjlddodaaGreatDoorFa
import Derived.Test.YtfbcfehjlddodaaGreatDoorProg
set_option linter.all false
set_option autoImplicit true
set_option relaxedAutoImplicit true
set_option maxRecDepth 100000
namespace Go.Fa
open Go Go.Proofs
theorem lg : Tryz.prog.globals.all (fun g => decide (g.type < Tryz.prog.types.size)) = true := by kernel_rfl
theorem lf : Tryz.prog.funcs.all (fun f => f.params.all fun t => decide (t < Tryz.prog.types.size)) = true := by kernel_rfl
end Go.Fa
