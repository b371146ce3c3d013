/- The tie of the row. -/
import Derived.Test.YtfbcfehjlddodaaGreatDoorT1
import Derived.Test.YtfbcfehjlddodaaGreatDoorT2
import Derived.Test.YtfbcfehjlddodaaGreatDoorT3
import Derived.Test.YtfbcfehjlddodaaGreatDoorT4
import Derived.Test.YtfbcfehjlddodaaGreatDoorT5
import Derived.Test.YtfbcfehjlddodaaGreatDoorT6
import Derived.Test.YtfbcfehjlddodaaGreatDoorT7
import Derived.Test.YtfbcfehjlddodaaGreatDoorT8
import Derived.LaidByTextLater
import Derived.SevenTiedAt
import Derived.KernelRfl
import Derived.Test.YtfbcfehjlddodaaGreatDoorRows
set_option linter.all false
set_option autoImplicit true
set_option relaxedAutoImplicit true
set_option maxRecDepth 1000000
namespace Go.Fa
open Go Go.Proofs Go.Proofs.YtfbcfehjlddodaaGreatDoor
theorem tie0 : Tryz.prog.laidByTextLater plainLaid plainKinds true :=
  Program.laidByTextLater_of_run 750 400 8 t2 t3 t4 t5 t1 t6 t7 t8 t9
theorem tie1 : Tryz.prog.laidByTextLater [("strconv.ErrSyntax", Rows.laid_strconv_ErrSyntax), ("strconv.ErrRange", Rows.laid_strconv_ErrRange), ("internal/strconv.uint64pow10", Rows.laid_internal_strconv_uint64pow10), ("math/bits.deBruijn32tab", Rows.laid_math_bits_deBruijn32tab), ("math/bits.deBruijn64tab", Rows.laid_math_bits_deBruijn64tab), ("unicode/utf8.acceptRanges", Rows.laid_unicode_utf8_acceptRanges)] [.sentinel, .sentinel, .data, .data, .data, .data] true := tie0
theorem row_tie : Rows.shiftNothingRow.laidByTextAt .later Tryz.pinned [.sentinel, .sentinel, .data, .data, .data, .pinned, .data] true :=
  OpenClaim.laidByTextAt_pinned rfl rfl tie1 rfl rfl rfl rfl (fun y hy _e => by
    simp only [Rows.shiftNothingRow, List.zip_cons_cons, List.zip_nil_right, List.mem_cons, List.mem_nil_iff, or_false] at hy
    rcases hy with rfl | rfl | rfl | rfl | rfl | rfl | rfl
    · cases _e
    · cases _e
    · cases _e
    · cases _e
    · cases _e
    · exact ⟨pin1, by kernel_rfl⟩
    · cases _e) fits1
end Go.Fa
