/- Functions in place. -/
import Derived.Test.YtfbcfehjlddodaaGreatDoorFa
import Derived.Test.YtfbcfehjlddodaaGreatDoorN1
import Derived.Test.YtfbcfehjlddodaaGreatDoorN2
import Derived.Test.YtfbcfehjlddodaaGreatDoorProg
set_option linter.all false
set_option autoImplicit true
set_option relaxedAutoImplicit true
set_option maxRecDepth 100000
namespace Go.Fa
open Go Go.Proofs
theorem reach_is : Tryz.prog.closure 3 = reach := closure_is n1 n2
theorem n3 : Tryz.prog.inPlace 3 = ["internal/abi.NoEscape", "internal/bytealg.MakeNoZero", "slices.overlaps[ringwork/api.Cell]", "slices.overlaps[int]", "slices.overlaps[[]int]", "internal/bytealg.abigen_runtime_cmpstring", "slices.overlaps[ringwork/api.Entry]", "slices.overlaps[*ringwork/tree.node]", "internal/bytealg.IndexByteString", "internal/bytealg.IndexString", "internal/bytealg.CountString"] := by
  unfold Program.inPlace
  rw [reach_is]
  kernel_rfl
end Go.Fa
