/- What a slice of plain structures reads as, told as a list. -/
import Derived.Test.YtjkhgfoecplbgaaSh40
import Derived.Deep.Slices
import Derived.WideShapes
import Derived.ChangeArms
set_option linter.all false
set_option autoImplicit true
set_option relaxedAutoImplicit true
set_option linter.unusedVariables false
set_option linter.unusedSimpArgs false
namespace Go.Sh
open Go.ChangeShapes Go.WideShapes Go.Deep

def g0 : Gh := ⟨fun _ => .free, []⟩

theorem mapM_get {α β : Type} {f : α → Option β} : ∀ {l : List α} {r : List β}, l.mapM f = some r → ∀ (j : Nat) (x : α), l[j]? = some x → ∃ y, f x = some y ∧ r[j]? = some y
  | [], r, h, j, x, hj => by simp at hj
  | a :: l, r, h, j, x, hj => by
    simp only [List.mapM_cons, Option.bind_eq_bind, Option.bind_eq_some_iff] at h
    obtain ⟨y, h1, ys, h2, h3⟩ := h
    cases h3
    cases j with
    | zero => cases hj; exact ⟨y, h1, rfl⟩
    | succ j => exact mapM_get h2 j x (by simpa using hj)

theorem rd_list_of_trod {H : Type} {enc : TypeId × Value → H} {P : Program} {W : World} {held : Bool} {b0 : Nat} {r : Reach} {α : Type} [Inhabited α] (enc' : α → D) {n : Nat} {t e : TypeId} {v : Value} {d : DataW H} {ps : List MemPlace}
    (hn0 : 0 < n) (hlen : ∀ x, (enc' x).cells.length = n) (ht : P.underlying t = some (.slice e)) (hn : P.cellsOf e = n) (hval : Value.okWide P W r b0 t v)
    (hel : ∀ (fuel : Nat) (cs' : List Value) (x : DataW H × List MemPlace), DataW.trod enc P W 0 (fun _ => true) held fuel e cs' = some x → ∃ a : α, ∀ (j : Nat) (y : D), (enc' a).cells[j]? = some y → ∃ u, cs'[j]? = some u ∧ u.oneCell' = true ∧ Rd g0 W u y)
    (h : DataW.Trod enc P W 0 (fun _ => true) held t v d ps) : ∃ l : List α, Rd g0 W v (.list n (l.map enc')) := by
  obtain ⟨a, len, cap, rfl⟩ := okWide_slice ht hval
  obtain ⟨fuel, hf⟩ := h
  have hcs : (Value.slice a len cap).cells.toList = [.slice a len cap] := rfl
  rw [hcs] at hf
  rcases open_slice ht hf with ⟨e1, -⟩ | ⟨a', len', cap', m, n', Dd, Pl, e1, hb, hl, hm, hmm, hx, hcell⟩
  · cases e1
    exact ⟨[], .list0⟩
  · cases e1
    simp only [if_true] at hmm
    subst hmm
    rw [hn] at hcell
    have hi : ∀ i : Nat, ∃ x : α, i < len → ∀ (j : Nat) (y : D), (enc' x).cells[j]? = some y → ∃ u, W.cell? ((a'.add (i * n)).add j) = some u ∧ u.oneCell' = true ∧ Rd g0 W u y := fun i => by
      by_cases hlt : i < len
      · obtain ⟨cs', h1, h2⟩ := hcell i (by omega)
        obtain ⟨x, hx⟩ := hel _ _ _ h2
        refine ⟨x, fun _ j y hj => ?_⟩
        obtain ⟨u, u1, u2, u3⟩ := hx j y hj
        have hjn : j < n := by rw [← hlen x]; exact get_lt hj
        unfold World.cells? at h1
        rw [if_pos (by omega)] at h1
        obtain ⟨u', w1, w2⟩ := mapM_get h1 j j (by simp [hjn])
        rw [u1] at w2
        cases w2
        exact ⟨u, w1, u2, u3⟩
      · exact ⟨default, fun h => absurd h hlt⟩
    obtain ⟨X, hX⟩ := Classical.axiomOfChoice hi
    refine ⟨(List.range len).map X, ?_⟩
    by_cases h0 : len = 0
    · subst h0
      exact .list0
    · -- the block
      have hfirst : ∃ u, W.cell? a' = some u := by
        have := hX 0 (by omega) 0 ((enc' (X 0)).cells[0]'(by rw [hlen]; exact hn0)) (by rw [List.getElem?_eq_getElem])
        obtain ⟨u, hu, _⟩ := this
        simp only [Nat.zero_mul, Addr.add, if_true] at hu
        exact ⟨u, hu⟩
      obtain ⟨u0, hu0⟩ := hfirst
      obtain ⟨k, off, sp⟩ := a'
      unfold World.cell? at hu0
      simp only at hu0
      split at hu0
      · rename_i c T fz hbk
        split at hu0
        · cases hu0
        · rename_i hsp
          have hsp : sp = none := by cases sp <;> simp_all
          subst hsp
          have hadd : ∀ i j : Nat, W.cell? (((⟨k, off, none⟩ : Addr).add (i * n)).add j) = c[off + i * n + j]? := fun i j => by
            have : ((⟨k, off, none⟩ : Addr).add (i * n)).add j = ⟨k, off + i * n + j, none⟩ := by
              unfold Addr.add
              by_cases h1 : i * n = 0 <;> by_cases h2 : j = 0 <;> simp [h1, h2]
            rw [this]
            simp [World.cell?, hbk]
          have hget : ∀ (i : Nat) (x : D), (((List.range len).map X).map enc')[i]? = some x → i < len ∧ x = enc' (X i) := fun i x hx => by
            rw [List.getElem?_map, List.getElem?_map] at hx
            simp only [Option.map_map, Option.map_eq_some_iff] at hx
            obtain ⟨k', hk', rfl⟩ := hx
            have hlt : i < len := by have := get_lt hk'; simpa using this
            rw [List.getElem?_range hlt] at hk'
            cases hk'
            exact ⟨hlt, rfl⟩
          have hcc : ∀ (i : Nat) (x : D), (((List.range len).map X).map enc')[i]? = some x → ∀ (j : Nat) (y : D), x.cells[j]? = some y → ∃ u, c[off + i * n + j]? = some u ∧ u.oneCell' = true ∧ Rd g0 W u y := fun i x hx j y hy => by
            obtain ⟨h1, rfl⟩ := hget i x hx
            obtain ⟨u, u1, u2, u3⟩ := hX i h1 j y hy
            rw [hadd] at u1
            exact ⟨u, u1, u2, u3⟩
          refine Rd.list (c := c) (T := T) (fz := fz) (fun i j => c.getD (off + i * n + j) undef) rfl hbk (by simp) hl ?_ ?_ ?_
          · intro i x hx
            obtain ⟨_, rfl⟩ := hget i x hx
            exact hlen _
          · intro i x hx j y hy
            obtain ⟨u, u1, u2, u3⟩ := hcc i x hx j y hy
            have : c.getD (off + i * n + j) undef = u := by simp [Array.getD_eq_getD_getElem?, u1]
            rw [this]
            exact ⟨u1, u2⟩
          · intro i x hx j y hy
            obtain ⟨u, u1, u2, u3⟩ := hcc i x hx j y hy
            have : c.getD (off + i * n + j) undef = u := by simp [Array.getD_eq_getD_getElem?, u1]
            rw [this]
            exact u3
      · cases hu0
end Go.Sh
