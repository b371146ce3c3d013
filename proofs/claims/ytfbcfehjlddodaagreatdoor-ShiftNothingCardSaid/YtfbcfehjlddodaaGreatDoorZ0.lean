/- A start that meets what the row lists: one closed fact of it, by the kernel. -/
import Derived.LaidMore
import Derived.Lay
import Derived.MakeChecks
import Derived.Clock
import Derived.KernelRfl
import Derived.ChangeSame
import Derived.LaidLaws
import Derived.Test.YtfbcfehjlddodaaGreatDoorRows
set_option linter.all false
set_option autoImplicit true
set_option relaxedAutoImplicit true
set_option maxRecDepth 100000
namespace Go.Proofs
open Go Go.Proofs.YtfbcfehjlddodaaGreatDoor
/-- The arguments of the start. -/
abbrev args0 : Array Value := #[.agg #[.int .i64 0, .string ByteArray.empty, .int .i64 0], .string ByteArray.empty]
/-- The start: the listed variables as the program lays them. -/
noncomputable abbrev world0 (os : Os) : World := World.laidAll Tryz.prog os Rows.shiftNothingRow.laid
noncomputable abbrev world1 (os : Os) : World := (world0 os).forCall (fun _ _ => 0) ⟨#[], args0, []⟩
end Go.Proofs
