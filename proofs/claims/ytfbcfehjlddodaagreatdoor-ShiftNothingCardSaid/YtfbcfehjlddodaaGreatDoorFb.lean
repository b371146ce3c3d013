/- A program in which no function starts a goroutine. -/
import Derived.Test.YtfbcfehjlddodaaGreatDoorFa
import GoSem.ClaimGoes
set_option linter.all false
set_option autoImplicit true
set_option relaxedAutoImplicit true
namespace Go.Fa
open Go
theorem goes_of {P : Program} {f : FuncId} (h : (List.range P.funcs.size).all (fun i => !(P.funcs[i]?).any Func.goes) = true) : P.goes f = false := by
  have key : ∀ i, (P.funcs[i]?).any Func.goes = false := fun i => by
    by_cases hi : i < P.funcs.size
    · have := List.all_eq_true.1 h i (List.mem_range.2 hi)
      simpa using this
    · rw [Array.getElem?_eq_none (by omega)]; rfl
  have h1 : ((P.closure f).any fun g => (P.funcs[g]?).any Func.goes) = false := by
    rw [List.any_eq_false]
    intro g hg
    rw [key g]; simp
  have h2 : P.funcs.any Func.goes = false := by
    rw [Array.any_eq_false]
    intro i hi
    have := key i
    rw [Array.getElem?_eq_getElem hi] at this
    simpa using this
  unfold Program.goes
  rw [h1, h2]
  simp
theorem goesBy_of {P : Program} {c : OpenClaim} {f : FuncId} (hf : P.funcNamed c.func = some f) (hs : c.start = .entering) (h : P.goes f = false) : false = c.goesBy P := by
  unfold OpenClaim.goesBy Program.goesAt Program.goesFrom
  rw [hf, hs]
  simp [h]
end Go.Fa
