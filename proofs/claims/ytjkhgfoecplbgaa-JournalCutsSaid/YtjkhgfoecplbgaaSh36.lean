/- Functions whose contracts stand by themselves. -/
import Derived.Test.YtjkhgfoecplbgaaSh35
import Derived.Lib.Bytealg
set_option linter.all false
set_option autoImplicit true
set_option relaxedAutoImplicit true
set_option linter.unusedVariables false
namespace Go.Sh

theorem PC.of_calls {P : Program} {f : FuncId} {args : List SV} {r : SV} (h : ∀ (w : World) (g : Gh) (vs : Array Value), RArgs g w vs args → Calls P f vs w fun e w' => ∃ v, e = .returned v ∧ w' = w ∧ RRes g w v r) : PC P f args r := by
  intro H w g vs hA hH
  refine (h w g vs hA).mono fun e w' hh => ?_
  obtain ⟨v, rfl, rfl, hr⟩ := hh
  exact ⟨v, g, rfl, hr, hH, Fr.refl _ _ _⟩

theorem RArgs.strs2 {g : Gh} {w : World} {vs : Array Value} {a b : List UInt8} (h : RArgs g w vs [vS a, vS b]) : vs = #[.string (mk a), .string (mk b)] := by
  obtain ⟨h1, h2⟩ := h
  obtain ⟨u0, e0, r0⟩ := h2 0 (vS a) rfl
  obtain ⟨u1, e1, r1⟩ := h2 1 (vS b) rfl
  have r0 : Rd g w u0 (.str a) := r0
  have r1 : Rd g w u1 (.str b) := r1
  cases r0; cases r1
  apply Array.ext_getElem?
  intro i
  match i with
  | 0 => simpa using e0
  | 1 => simpa using e1
  | i + 2 => rw [Array.getElem?_eq_none (by rw [h1]; simp), Array.getElem?_eq_none (by simp)]

/-- Texts compared: -1, 0, 1. -/
def cmpS (fuel : Nat) (a b : List UInt8) : Option Int := some (Lib.compareBytes a b)

theorem cmpS_pc {P : Program} {f fuel : Nat} {a b : List UInt8} {r : Int} (h : cmpS fuel a b = some r)
    (hc : ∀ (a b : ByteArray) (w : World), Calls P f #[.string a, .string b] w fun e w' => e = .returned (.int .i64 (Lib.compareBytes a.data.toList b.data.toList)) ∧ w' = w) : PC P f [vS a, vS b] (vI r) := by
  cases h
  refine PC.of_calls fun w g vs hA => ?_
  rw [hA.strs2]
  refine (hc (mk a) (mk b) w).mono fun e w' hh => ?_
  obtain ⟨rfl, rfl⟩ := hh
  exact ⟨_, rfl, rfl, (.int : Rd g w' _ _)⟩
end Go.Sh
