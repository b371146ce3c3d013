/-
  No cell of these rows narrows 'for every input' (looked for: loops, veiled, ifaces, maps, wideKeys, modest, calm, conditions, laid).
  DERIVED. THE GIVEN ROWS OF THIS SEAT. 7 by the template 'for every input the law returns true; each argument reads behind the call as it read before'; 0 by the template 'total and deterministic' (their statements: YtjkhgfoecplbgaaTotals.lean).
  GIVEN WITH THE SEED: the statements are not yours to turn. If you find one false, say at which input.
  Laid BY PROGRAM, IN A SANDBOX (cutbox-rows.mjs): the forced cells as the released guide's own fill.sh prints them over the translation 09c694fa16a364a9… (all of the seat's roots in one cut). By AI agents, Wed Nov 11 2026. No macro, syntax, notation, axiom, sorry.
-/
import Derived.Test.YtjkhgfoecplbgaaChecked
import GoSem.Claim
import GoSem.ClaimJoined
import GoSem.ClaimMapViews
import Derived.JoinedTies
import Derived.KernelRfl
namespace Go.Proofs.Ytjkhgfoecplbgaa
/- THE CELL 'sum', in the pinned program and in every row, IS THE sha256 OF THE DUMP (.gsa) THAT YtjkhgfoecplbgaaProg.lean LOADS. Nothing in Lean hashes anything: it is a label: what it is worth is what the hold of that sum in a sandbox is worth. -/
noncomputable def Try.pinned : Pinned := { name := "ytjkhgfoecplbgaa", sum := "09c694fa16a364a975e964d12ab483ad720b9c5dd1d4cec72142753770dc0afe", checked := Try.checked }
namespace Rows
def none {H : Type} : Left H := { results := [], args := [] }

/-- 'ringworklaw25.JournalCuts': WHATEVER THE INPUT: true; the input reads as it did. -/
def journalCutsSpec : ChangeSpec := { name := "journalCuts", fn := fun _ => fun
  | [d1, d2, d3] => { results := [.lit (.bool true)], args := [d1, d2, d3] }
  | _ => none }
def journalCutsRow : OpenClaim := { program := "ytjkhgfoecplbgaa", sum := "09c694fa16a364a975e964d12ab483ad720b9c5dd1d4cec72142753770dc0afe", func := "ringwork/ringworklaw25.JournalCuts", spec := "journalCuts", inPlace := ["internal/bytealg.abigen_runtime_cmpstring", "slices.overlaps[ringwork/api.Image]"], unfollowed := true, recurses := true, apart := false }
def JournalCutsSaid : Prop := journalCutsRow.holds Try.pinned (OpenSpec.ofChange journalCutsSpec)

/-- ITS FALSE NEIGHBOUR: 'it returns false'. Refute it at one input. -/
def journalCutsWrong : ChangeSpec := { name := "journalCuts", fn := fun _ => fun
  | [d1, d2, d3] => { results := [.lit (.bool false)], args := [d1, d2, d3] }
  | _ => none }
def JournalCutsWrongFalsely : Prop := journalCutsRow.holds Try.pinned (OpenSpec.ofChange journalCutsWrong)

/-- 'ringworklaw25.JournalStates': WHATEVER THE INPUT: true; the input reads as it did. -/
def journalStatesSpec : ChangeSpec := { name := "journalStates", fn := fun _ => fun
  | [d1, d2, d3, d4, d5] => { results := [.lit (.bool true)], args := [d1, d2, d3, d4, d5] }
  | _ => none }
def journalStatesRow : OpenClaim := { program := "ytjkhgfoecplbgaa", sum := "09c694fa16a364a975e964d12ab483ad720b9c5dd1d4cec72142753770dc0afe", func := "ringwork/ringworklaw25.JournalStates", spec := "journalStates", inPlace := ["internal/bytealg.abigen_runtime_cmpstring", "slices.overlaps[ringwork/api.Image]"], unfollowed := true, recurses := true, apart := false }
def JournalStatesSaid : Prop := journalStatesRow.holds Try.pinned (OpenSpec.ofChange journalStatesSpec)

/-- ITS FALSE NEIGHBOUR: 'it returns false'. Refute it at one input. -/
def journalStatesWrong : ChangeSpec := { name := "journalStates", fn := fun _ => fun
  | [d1, d2, d3, d4, d5] => { results := [.lit (.bool false)], args := [d1, d2, d3, d4, d5] }
  | _ => none }
def JournalStatesWrongFalsely : Prop := journalStatesRow.holds Try.pinned (OpenSpec.ofChange journalStatesWrong)

/-- 'ringworklaw25.JournalUndone': WHATEVER THE INPUT: true; the input reads as it did. -/
def journalUndoneSpec : ChangeSpec := { name := "journalUndone", fn := fun _ => fun
  | [d1, d2, d3] => { results := [.lit (.bool true)], args := [d1, d2, d3] }
  | _ => none }
def journalUndoneRow : OpenClaim := { program := "ytjkhgfoecplbgaa", sum := "09c694fa16a364a975e964d12ab483ad720b9c5dd1d4cec72142753770dc0afe", func := "ringwork/ringworklaw25.JournalUndone", spec := "journalUndone", inPlace := ["internal/bytealg.abigen_runtime_cmpstring", "slices.overlaps[ringwork/api.Image]"], unfollowed := true, recurses := true, apart := false }
def JournalUndoneSaid : Prop := journalUndoneRow.holds Try.pinned (OpenSpec.ofChange journalUndoneSpec)

/-- ITS FALSE NEIGHBOUR: 'it returns false'. Refute it at one input. -/
def journalUndoneWrong : ChangeSpec := { name := "journalUndone", fn := fun _ => fun
  | [d1, d2, d3] => { results := [.lit (.bool false)], args := [d1, d2, d3] }
  | _ => none }
def JournalUndoneWrongFalsely : Prop := journalUndoneRow.holds Try.pinned (OpenSpec.ofChange journalUndoneWrong)

/-- 'ringworklaw25.JournalReads': WHATEVER THE INPUT: true; the input reads as it did. -/
def journalReadsSpec : ChangeSpec := { name := "journalReads", fn := fun _ => fun
  | [d] => { results := [.lit (.bool true)], args := [d] }
  | _ => none }
def journalReadsRow : OpenClaim := { program := "ytjkhgfoecplbgaa", sum := "09c694fa16a364a975e964d12ab483ad720b9c5dd1d4cec72142753770dc0afe", func := "ringwork/ringworklaw25.JournalReads", spec := "journalReads", inPlace := ["internal/bytealg.abigen_runtime_cmpstring", "slices.overlaps[ringwork/api.Image]"], unfollowed := true, recurses := true, apart := false }
def JournalReadsSaid : Prop := journalReadsRow.holds Try.pinned (OpenSpec.ofChange journalReadsSpec)

/-- ITS FALSE NEIGHBOUR: 'it returns false'. Refute it at one input. -/
def journalReadsWrong : ChangeSpec := { name := "journalReads", fn := fun _ => fun
  | [d] => { results := [.lit (.bool false)], args := [d] }
  | _ => none }
def JournalReadsWrongFalsely : Prop := journalReadsRow.holds Try.pinned (OpenSpec.ofChange journalReadsWrong)

/-- 'ringworklaw25.JournalDamage': WHATEVER THE INPUT: true; the input reads as it did. -/
def journalDamageSpec : ChangeSpec := { name := "journalDamage", fn := fun _ => fun
  | [d1, d2, d3] => { results := [.lit (.bool true)], args := [d1, d2, d3] }
  | _ => none }
def journalDamageRow : OpenClaim := { program := "ytjkhgfoecplbgaa", sum := "09c694fa16a364a975e964d12ab483ad720b9c5dd1d4cec72142753770dc0afe", func := "ringwork/ringworklaw25.JournalDamage", spec := "journalDamage", inPlace := ["internal/bytealg.abigen_runtime_cmpstring", "slices.overlaps[ringwork/api.Image]"], unfollowed := true, recurses := true, apart := false }
def JournalDamageSaid : Prop := journalDamageRow.holds Try.pinned (OpenSpec.ofChange journalDamageSpec)

/-- ITS FALSE NEIGHBOUR: 'it returns false'. Refute it at one input. -/
def journalDamageWrong : ChangeSpec := { name := "journalDamage", fn := fun _ => fun
  | [d1, d2, d3] => { results := [.lit (.bool false)], args := [d1, d2, d3] }
  | _ => none }
def JournalDamageWrongFalsely : Prop := journalDamageRow.holds Try.pinned (OpenSpec.ofChange journalDamageWrong)

/-- 'ringworklaw25.JournalBytes': WHATEVER THE INPUT: true; the input reads as it did. -/
def journalBytesSpec : ChangeSpec := { name := "journalBytes", fn := fun _ => fun
  | [d1, d2, d3] => { results := [.lit (.bool true)], args := [d1, d2, d3] }
  | _ => none }
def journalBytesRow : OpenClaim := { program := "ytjkhgfoecplbgaa", sum := "09c694fa16a364a975e964d12ab483ad720b9c5dd1d4cec72142753770dc0afe", func := "ringwork/ringworklaw25.JournalBytes", spec := "journalBytes", inPlace := ["internal/bytealg.abigen_runtime_cmpstring", "slices.overlaps[ringwork/api.Image]", "internal/abi.NoEscape"], unfollowed := true, recurses := true, apart := false }
def JournalBytesSaid : Prop := journalBytesRow.holds Try.pinned (OpenSpec.ofChange journalBytesSpec)

/-- ITS FALSE NEIGHBOUR: 'it returns false'. Refute it at one input. -/
def journalBytesWrong : ChangeSpec := { name := "journalBytes", fn := fun _ => fun
  | [d1, d2, d3] => { results := [.lit (.bool false)], args := [d1, d2, d3] }
  | _ => none }
def JournalBytesWrongFalsely : Prop := journalBytesRow.holds Try.pinned (OpenSpec.ofChange journalBytesWrong)

/-- 'ringworklaw25.JournalMore': WHATEVER THE INPUT: true; the input reads as it did. -/
def journalMoreSpec : ChangeSpec := { name := "journalMore", fn := fun _ => fun
  | [d1, d2, d3] => { results := [.lit (.bool true)], args := [d1, d2, d3] }
  | _ => none }
def journalMoreRow : OpenClaim := { program := "ytjkhgfoecplbgaa", sum := "09c694fa16a364a975e964d12ab483ad720b9c5dd1d4cec72142753770dc0afe", func := "ringwork/ringworklaw25.JournalMore", spec := "journalMore", inPlace := ["internal/bytealg.abigen_runtime_cmpstring", "slices.overlaps[ringwork/api.Image]", "internal/abi.NoEscape"], unfollowed := true, recurses := true, apart := false }
def JournalMoreSaid : Prop := journalMoreRow.holds Try.pinned (OpenSpec.ofChange journalMoreSpec)

/-- ITS FALSE NEIGHBOUR: 'it returns false'. Refute it at one input. -/
def journalMoreWrong : ChangeSpec := { name := "journalMore", fn := fun _ => fun
  | [d1, d2, d3] => { results := [.lit (.bool false)], args := [d1, d2, d3] }
  | _ => none }
def JournalMoreWrongFalsely : Prop := journalMoreRow.holds Try.pinned (OpenSpec.ofChange journalMoreWrong)

/- THE SECOND FORM. 'bulk': how many values and letters a reading holds, each counted each time it is reached (what is shared counts as often as it is met; a slice's spare places count too). A statement '..UptoSaid' is the law's where the arguments, and the package variables that the reading takes, are together of bulk at most 1048576: NARROWER than '..Said'. Prove '..Said' where nothing that the law and all that it calls make is longer than what came in: it says more and counts as full. Else prove '..UptoSaid'. A law counts once. -/
mutual
def uptoBulk {H : Type} : DataW H → Nat
  | .lit (.string bytes) => bytes.length + 1
  | .lit _ => 1
  | .nil => 1
  | .ptr d => uptoBulk d + 1
  | .slice elems spare => uptoBulkAll elems + uptoBulkAll spare + 1
  | .agg parts => uptoBulkAll parts + 1
  | .iface _ d => uptoBulk d + 1
  | .map entries => uptoBulkEntries entries + 1
  | .held _ => 1
def uptoBulkAll {H : Type} : List (DataW H) → Nat
  | [] => 0
  | d :: r => uptoBulk d + uptoBulkAll r
def uptoBulkEntries {H : Type} : List (Lit × DataW H) → Nat
  | [] => 0
  | x :: r => uptoBulkEntry x + uptoBulkEntries r
def uptoBulkEntry {H : Type} : Lit × DataW H → Nat
  | (.string bytes, d) => bytes.length + uptoBulk d + 1
  | (_, d) => uptoBulk d + 1
 end
def uptoSmall : (H : Type) → List (DataW H) → Bool := fun _ ds => decide (uptoBulkAll ds ≤ 1048576)
def OpenSpec.upto (s : _root_.Go.ChangeSpec) : _root_.Go.OpenSpec := { _root_.Go.OpenSpec.ofChange s with cond := some uptoSmall }

/-- 'ringworklaw25.JournalCuts', WHERE WHAT IT READS IS OF BULK AT MOST 1048576: true; the input reads as it did. -/
def journalCutsUptoRow : OpenClaim := { program := "ytjkhgfoecplbgaa", sum := "09c694fa16a364a975e964d12ab483ad720b9c5dd1d4cec72142753770dc0afe", func := "ringwork/ringworklaw25.JournalCuts", spec := "journalCuts", inPlace := ["internal/bytealg.abigen_runtime_cmpstring", "slices.overlaps[ringwork/api.Image]"], unfollowed := true, recurses := true, apart := false, narrowed := true }
def JournalCutsUptoSaid : Prop := journalCutsUptoRow.holds Try.pinned (OpenSpec.upto journalCutsSpec)

/-- 'ringworklaw25.JournalStates', WHERE WHAT IT READS IS OF BULK AT MOST 1048576: true; the input reads as it did. -/
def journalStatesUptoRow : OpenClaim := { program := "ytjkhgfoecplbgaa", sum := "09c694fa16a364a975e964d12ab483ad720b9c5dd1d4cec72142753770dc0afe", func := "ringwork/ringworklaw25.JournalStates", spec := "journalStates", inPlace := ["internal/bytealg.abigen_runtime_cmpstring", "slices.overlaps[ringwork/api.Image]"], unfollowed := true, recurses := true, apart := false, narrowed := true }
def JournalStatesUptoSaid : Prop := journalStatesUptoRow.holds Try.pinned (OpenSpec.upto journalStatesSpec)

/-- 'ringworklaw25.JournalUndone', WHERE WHAT IT READS IS OF BULK AT MOST 1048576: true; the input reads as it did. -/
def journalUndoneUptoRow : OpenClaim := { program := "ytjkhgfoecplbgaa", sum := "09c694fa16a364a975e964d12ab483ad720b9c5dd1d4cec72142753770dc0afe", func := "ringwork/ringworklaw25.JournalUndone", spec := "journalUndone", inPlace := ["internal/bytealg.abigen_runtime_cmpstring", "slices.overlaps[ringwork/api.Image]"], unfollowed := true, recurses := true, apart := false, narrowed := true }
def JournalUndoneUptoSaid : Prop := journalUndoneUptoRow.holds Try.pinned (OpenSpec.upto journalUndoneSpec)

/-- 'ringworklaw25.JournalReads', WHERE WHAT IT READS IS OF BULK AT MOST 1048576: true; the input reads as it did. -/
def journalReadsUptoRow : OpenClaim := { program := "ytjkhgfoecplbgaa", sum := "09c694fa16a364a975e964d12ab483ad720b9c5dd1d4cec72142753770dc0afe", func := "ringwork/ringworklaw25.JournalReads", spec := "journalReads", inPlace := ["internal/bytealg.abigen_runtime_cmpstring", "slices.overlaps[ringwork/api.Image]"], unfollowed := true, recurses := true, apart := false, narrowed := true }
def JournalReadsUptoSaid : Prop := journalReadsUptoRow.holds Try.pinned (OpenSpec.upto journalReadsSpec)

/-- 'ringworklaw25.JournalDamage', WHERE WHAT IT READS IS OF BULK AT MOST 1048576: true; the input reads as it did. -/
def journalDamageUptoRow : OpenClaim := { program := "ytjkhgfoecplbgaa", sum := "09c694fa16a364a975e964d12ab483ad720b9c5dd1d4cec72142753770dc0afe", func := "ringwork/ringworklaw25.JournalDamage", spec := "journalDamage", inPlace := ["internal/bytealg.abigen_runtime_cmpstring", "slices.overlaps[ringwork/api.Image]"], unfollowed := true, recurses := true, apart := false, narrowed := true }
def JournalDamageUptoSaid : Prop := journalDamageUptoRow.holds Try.pinned (OpenSpec.upto journalDamageSpec)

/-- 'ringworklaw25.JournalBytes', WHERE WHAT IT READS IS OF BULK AT MOST 1048576: true; the input reads as it did. -/
def journalBytesUptoRow : OpenClaim := { program := "ytjkhgfoecplbgaa", sum := "09c694fa16a364a975e964d12ab483ad720b9c5dd1d4cec72142753770dc0afe", func := "ringwork/ringworklaw25.JournalBytes", spec := "journalBytes", inPlace := ["internal/bytealg.abigen_runtime_cmpstring", "slices.overlaps[ringwork/api.Image]", "internal/abi.NoEscape"], unfollowed := true, recurses := true, apart := false, narrowed := true }
def JournalBytesUptoSaid : Prop := journalBytesUptoRow.holds Try.pinned (OpenSpec.upto journalBytesSpec)

/-- 'ringworklaw25.JournalMore', WHERE WHAT IT READS IS OF BULK AT MOST 1048576: true; the input reads as it did. -/
def journalMoreUptoRow : OpenClaim := { program := "ytjkhgfoecplbgaa", sum := "09c694fa16a364a975e964d12ab483ad720b9c5dd1d4cec72142753770dc0afe", func := "ringwork/ringworklaw25.JournalMore", spec := "journalMore", inPlace := ["internal/bytealg.abigen_runtime_cmpstring", "slices.overlaps[ringwork/api.Image]", "internal/abi.NoEscape"], unfollowed := true, recurses := true, apart := false, narrowed := true }
def JournalMoreUptoSaid : Prop := journalMoreUptoRow.holds Try.pinned (OpenSpec.upto journalMoreSpec)

end Rows
end Go.Proofs.Ytjkhgfoecplbgaa
