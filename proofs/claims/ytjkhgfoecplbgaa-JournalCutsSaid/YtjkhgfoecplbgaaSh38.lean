/- What the printed rules for slices.Insert and slices.Delete ask of an element type, checked at once. -/
import Derived.Test.YtjkhgfoecplbgaaSh37
set_option linter.all false
set_option autoImplicit true
set_option relaxedAutoImplicit true
set_option linter.unusedVariables false
namespace Go.Sh

def elemB (P : Program) (T e : TypeId) (n : Nat) : Bool :=
  match P.underlying T, P.info? e with
  | some (.slice e'), some ti => match ti.zero with
    | some z => e' == e && (constD z).isSome && z.cells.size == n && ti.size == n && decide (0 < n) && decide (ti.bytes ≤ 65536)
    | none => false
  | _, _ => false

theorem elemB_spec {P : Program} {T e : TypeId} {n : Nat} (h : elemB P T e n = true) :
    P.underlying T = some (.slice e) ∧ ∃ ti z zd, P.info? e = some ti ∧ ti.zero = some z ∧ constD z = some zd ∧ z.cells.size = n ∧ ti.size = n ∧ 0 < n ∧ ti.bytes ≤ 65536 := by
  unfold elemB at h
  split at h
  · rename_i e' ti hT hi
    split at h
    · rename_i z hz
      simp only [Bool.and_eq_true, decide_eq_true_eq, beq_iff_eq, Option.isSome_iff_exists] at h
      obtain ⟨⟨⟨⟨⟨rfl, zd, hzd⟩, h1⟩, h2⟩, h3⟩, h4⟩ := h
      exact ⟨hT, ti, z, zd, hi, hz, hzd, h1, h2, h3, h4⟩
    · cases h
  · cases h
end Go.Sh
