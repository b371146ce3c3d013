/- What a function reaches, reckoned with bits; whether a program is laid out, part by part. -/
import Derived.JoinedOf
import Derived.KernelRfl
set_option linter.all false
set_option autoImplicit true
set_option relaxedAutoImplicit true
namespace Go.Fa
open Go
def clo (P : Program) : Nat → List FuncId → List FuncId → Nat → Option (List FuncId)
  | _, [], seen, _ => some seen.reverse
  | 0, _ :: _, _, _ => none
  | n + 1, f :: todo, seen, b => bif Nat.testBit b f then clo P n todo seen b else clo P n ((P.funcs[f]?).elim [] P.leadsTo ++ todo) (f :: seen) (b ||| 2 ^ f)
theorem clo_ok {P : Program} : ∀ (m : Nat) (todo seen : List FuncId) (b : Nat) (r : List FuncId), (∀ x, Nat.testBit b x = seen.contains x) → clo P m todo seen b = some r → ∀ k, m ≤ k → P.closureVia k todo seen = r
  | m, [], seen, b, r, hb, h, k, hk => by
    unfold clo at h
    cases h
    cases k <;> rfl
  | 0, f :: todo, seen, b, r, hb, h, k, hk => by cases h
  | m + 1, f :: todo, seen, b, r, hb, h, k, hk => by
    obtain ⟨k, rfl⟩ : ∃ k', k = k' + 1 := ⟨k - 1, by omega⟩
    unfold clo at h
    unfold Program.closureVia
    cases ht : Nat.testBit b f with
    | true =>
      rw [ht] at h
      have : seen.contains f = true := by rw [← hb]; exact ht
      rw [if_pos this]
      exact clo_ok m todo seen b r hb h k (by omega)
    | false =>
      rw [ht] at h
      have : ¬ seen.contains f = true := by rw [← hb, ht]; simp
      rw [if_neg this]
      refine clo_ok m _ (f :: seen) (b ||| 2 ^ f) r (fun x => ?_) h k (by omega)
      rw [Nat.testBit_or, hb, Nat.testBit_two_pow, List.contains_cons, Bool.or_comm]
      congr 1
      by_cases e : f = x
      · subst e; rw [decide_eq_true rfl]; exact (beq_self_eq_true f).symm
      · rw [decide_eq_false e]
        cases hb' : x == f with
        | false => rfl
        | true => exact absurd (beq_iff_eq.1 hb').symm e
theorem closure_is {P : Program} {f m : Nat} {L : List FuncId} (h : clo P m [f] [] 0 = some L) (hm : Nat.ble m (1 + (P.funcs.toList.map fun g => (P.leadsTo g).length + 1).sum) = true) : P.closure f = L :=
  clo_ok m [f] [] 0 L (fun x => by simp) h _ (Nat.le_of_ble_eq_true hm)
/-- Part by part. -/
theorem all_parts {p : Nat → Bool} {n k : Nat} : ∀ (c : Nat), (∀ i, i < c → ((List.range' (i * k) k).all p) = true) → n ≤ c * k → (List.range n).all p = true := by
  intro c h hn
  rw [List.all_eq_true]
  intro x hx
  have hx := List.mem_range.1 hx
  have hk : 0 < k := by
    rcases Nat.eq_zero_or_pos k with rfl | h
    · omega
    · exact h
  have h1 := h (x / k) ((Nat.div_lt_iff_lt_mul hk).2 (by omega))
  rw [List.all_eq_true] at h1
  refine h1 x (List.mem_range'.2 ⟨x % k, Nat.mod_lt _ hk, ?_⟩)
  have := Nat.div_add_mod x k
  rw [Nat.mul_comm] at this
  omega
theorem laidOut_of {P : Program} (h1 : (List.range P.types.size).all (rowFine P) = true) (h2 : P.globals.all (fun g => decide (g.type < P.types.size)) = true) (h3 : P.funcs.all (fun f => f.params.all fun t => decide (t < P.types.size)) = true) : laidOutB P = true := by
  unfold laidOutB
  rw [h1, h2, h3]
  rfl
end Go.Fa
