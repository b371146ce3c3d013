/- What a function that takes steps runs to, when there are steps enough. -/
import Derived.Test.YtjkhgfoecplbgaaSh40
set_option linter.all false
set_option autoImplicit true
set_option relaxedAutoImplicit true
set_option linter.unusedVariables false
set_option linter.unusedSimpArgs false
namespace Go.Sh

/-- With steps enough the answer is r. -/
def Ev {α : Type} (f : Nat → Option α) (r : α) : Prop := ∃ N, ∀ n, N ≤ n → f n = some r

theorem Ev.of {α : Type} {f : Nat → Option α} {r : α} (h : ∀ n, f n = some r) : Ev f r := ⟨0, fun n _ => h n⟩
theorem Ev.pure {α : Type} (r : α) : Ev (fun _ => some r) r := .of fun _ => rfl

theorem Ev.bind {α β : Type} {f : Nat → Option α} {g : Nat → α → Option β} {a : α} {r : β} (h1 : Ev f a) (h2 : Ev (fun n => g n a) r) : Ev (fun n => (f n).bind (g n)) r := by
  obtain ⟨N, hN⟩ := h1
  obtain ⟨M, hM⟩ := h2
  refine ⟨max N M, fun n hn => ?_⟩
  show (f n).bind (g n) = some r
  rw [hN n (by omega)]
  exact hM n (by omega)

theorem Ev.congr {α : Type} {f g : Nat → Option α} {r : α} (h : ∀ n, f n = g n) (h1 : Ev g r) : Ev f r := by
  obtain ⟨N, hN⟩ := h1
  exact ⟨N, fun n hn => (h n).trans (hN n hn)⟩

theorem Ev.t {α : Type} {c : Bool} {f g : Nat → Option α} {r : α} (hc : c = true) (h : Ev f r) : Ev (fun n => bif c then f n else g n) r := by subst hc; exact h
theorem Ev.f {α : Type} {c : Bool} {f g : Nat → Option α} {r : α} (hc : c = false) (h : Ev g r) : Ev (fun n => bif c then f n else g n) r := by subst hc; exact h
theorem Ev.ite {α : Type} {c : Bool} {f g : Nat → Option α} {r : α} (h1 : c = true → Ev f r) (h2 : c = false → Ev g r) : Ev (fun n => bif c then f n else g n) r := by
  cases c
  · exact h2 rfl
  · exact h1 rfl
theorem Ev.chk {α : Type} {c : Bool} {f : Nat → Option α} {r : α} (hc : c = true) (h : Ev f r) : Ev (fun n => Go.Sh.chk c (f n)) r := by subst hc; exact h
theorem Ev.letJ {α β : Type} {b : Nat → α → Option β} {a : Nat → (α → Option β) → Option β} {r : β} (h : Ev (fun n => a n (b n)) r) : Ev (fun n => Go.Sh.letJ (b n) (a n)) r := h
theorem Ev.some' {α β : Type} {x : Option α} {a : α} {g : Nat → α → Option β} {r : β} (hx : x = some a) (h : Ev (fun n => g n a) r) : Ev (fun n => x.bind (g n)) r := by subst hx; exact h
theorem Ev.det {α : Type} {f : Nat → Option α} {r r' : α} (h : Ev f r) (h' : Ev f r') : r = r' := by
  obtain ⟨N, hN⟩ := h
  obtain ⟨M, hM⟩ := h'
  exact Option.some.inj ((hN (max N M) (by omega)).symm.trans (hM (max N M) (by omega)))

/-- A loop, from here on. -/
def EvL {γ β : Type} (step : Nat → γ → Option (γ ⊕ β)) (x : γ) (out : β) : Prop := ∃ N, ∀ F n, N ≤ F → N ≤ n → Go.Sh.iter (step F) n x = some out

theorem EvL.next {γ β : Type} {step : Nat → γ → Option (γ ⊕ β)} {x y : γ} {out : β} (h1 : Ev (fun n => step n x) (.inl y)) (h2 : EvL step y out) : EvL step x out := by
  obtain ⟨N, hN⟩ := h1
  obtain ⟨M, hM⟩ := h2
  refine ⟨max N M + 1, fun F n hF hn => ?_⟩
  obtain ⟨n, rfl⟩ : ∃ n', n = n' + 1 := ⟨n - 1, by omega⟩
  have := hN F (by omega)
  simp only at this
  simp only [Go.Sh.iter, this]
  exact hM F n (by omega) (by omega)

theorem EvL.stop {γ β : Type} {step : Nat → γ → Option (γ ⊕ β)} {x : γ} {out : β} (h1 : Ev (fun n => step n x) (.inr out)) : EvL step x out := by
  obtain ⟨N, hN⟩ := h1
  refine ⟨N + 1, fun F n hF hn => ?_⟩
  obtain ⟨n, rfl⟩ : ∃ n', n = n' + 1 := ⟨n - 1, by omega⟩
  have := hN F (by omega)
  simp only at this
  simp only [Go.Sh.iter, this]

theorem EvL.ev {γ β : Type} {step : Nat → γ → Option (γ ⊕ β)} {x : γ} {out : β} (h : EvL step x out) : Ev (fun n => Go.Sh.iter (step n) n x) out := by
  obtain ⟨N, hN⟩ := h
  exact ⟨N, fun n hn => hN n n hn hn⟩

/-- A loop through the places k, k+1, .. up to len; 'A k' is what the loop carries at place k. -/
theorem EvL.count {γ β : Type} {step : Nat → γ → Option (γ ⊕ β)} (A : Nat → γ) (out : Nat → β) (len : Nat)
    (hs : ∀ k, k < len → (Ev (fun n => step n (A k)) (.inl (A (k + 1))) ∧ out (k + 1) = out k) ∨ Ev (fun n => step n (A k)) (.inr (out k)))
    (he : Ev (fun n => step n (A len)) (.inr (out len))) (k : Nat) (hk : k ≤ len) : EvL step (A k) (out k) := by
  obtain ⟨d, rfl⟩ : ∃ d, len = k + d := ⟨len - k, by omega⟩
  induction d generalizing k with
  | zero => exact .stop he
  | succ d ih =>
    rcases hs k (by omega) with ⟨h1, h2⟩ | h1
    · rw [← h2]
      have e : k + (d + 1) = (k + 1) + d := by omega
      rw [e] at hs he
      exact .next h1 (ih (k + 1) hs he (by omega))
    · exact .stop h1

theorem EvL.iter {γ β : Type} {step : Nat → γ → Option (γ ⊕ β)} (I : γ → Prop) (m : γ → Nat) {out : β}
    (h : ∀ x, I x → (∃ y, Ev (fun n => step n x) (.inl y) ∧ I y ∧ m y < m x) ∨ Ev (fun n => step n x) (.inr out)) {x0 : γ} (h0 : I x0) : EvL step x0 out := by
  have key : ∀ (k : Nat) (x : γ), m x ≤ k → I x → EvL step x out := by
    intro k
    induction k with
    | zero =>
      intro x hm hx
      rcases h x hx with ⟨y, _, _, hy⟩ | h1
      · omega
      · exact .stop h1
    | succ k ih =>
      intro x hm hx
      rcases h x hx with ⟨y, h1, hy1, hy⟩ | h1
      · exact .next h1 (ih y (by omega) hy1)
      · exact .stop h1
  exact key _ x0 (Nat.le_refl _) h0

theorem idx_nat {α : Type} {l : List α} {k : Nat} {x : α} (h : l[k]? = some x) : idx l (k : Int) = some x := by
  unfold idx; rw [if_pos (by omega)]; simpa using h

/-! ## Numbers that fit -/
theorem wrapI {x : Int} (h0 : -9223372036854775808 ≤ x) (h1 : x < 9223372036854775808) : IntKind.wrap .i64 x = x := by
  unfold IntKind.wrap
  simp [IntKind.bits, IntKind.signed]
  omega
end Go.Sh
