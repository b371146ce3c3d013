/- The variables that are named. -/
import Derived.Test.YtfbcfehjlddodaaGreatDoorFa
import Derived.Test.YtfbcfehjlddodaaGreatDoorN3
import Derived.Test.YtfbcfehjlddodaaGreatDoorProg
set_option linter.all false
set_option autoImplicit true
set_option relaxedAutoImplicit true
set_option maxRecDepth 100000
namespace Go.Fa
open Go Go.Proofs
theorem n5 : Tryz.prog.varsNamed 3 = ["strconv.ErrSyntax", "strconv.ErrRange", "internal/strconv.uint64pow10", "math/bits.deBruijn32tab", "math/bits.deBruijn64tab", "internal/bytealg.MaxLen", "unicode/utf8.first", "unicode/utf8.acceptRanges"] := by
  unfold Program.varsNamed
  rw [reach_is]
  kernel_rfl
end Go.Fa
