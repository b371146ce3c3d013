/- The whole law, run by the kernel: whatever the job's numbers and the texts are, it tells true. -/
import Derived.Test.YtfbcfehjlddodaaGreatDoorD2
import Derived.KernelRfl
import Derived.Test.YtfbcfehjlddodaaGreatDoorProg
set_option linter.all false
set_option autoImplicit true
set_option relaxedAutoImplicit true
namespace Go.Gd
open Go Go.Proofs
theorem ran (k n : Int) (s t : ByteArray) : (evF Tryz.prog 100000).call 3 [.agg ⟨[.int .i64 k, .string s, .int .i64 n]⟩, .string t] ⟨.e, 0⟩ isT = true := by kernel_rfl
end Go.Gd
