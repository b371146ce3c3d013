/- Plain laws: what the functions tell. -/
import Derived.Test.YtfjidpnkindifaaGreatDoorF1
set_option linter.all false
set_option autoImplicit true
set_option relaxedAutoImplicit true
namespace Go.Sh
def Ev {α : Type} (f : Nat → Option α) (r : α) : Prop := ∃ N, ∀ n, N ≤ n → f n = some r
theorem Ev.of {α : Type} {f : Nat → Option α} {r : α} (h : ∀ n, f n = some r) : Ev f r := ⟨0, fun n _ => h n⟩
theorem Ev.pure {α : Type} (r : α) : Ev (fun _ => some r) r := .of fun _ => rfl
theorem Ev.bind {α β : Type} {f : Nat → Option α} {g : Nat → α → Option β} {a : α} {r : β} (h1 : Ev f a) (h2 : Ev (fun n => g n a) r) : Ev (fun n => (f n).bind (g n)) r := by
  obtain ⟨N, hN⟩ := h1
  obtain ⟨M, hM⟩ := h2
  refine ⟨max N M, fun n hn => ?_⟩
  grind
theorem Ev.t {α : Type} {f g : Nat → Option α} {r : α} (hc : c = true) (h : Ev f r) : Ev (fun n => bif c then f n else g n) r := by subst hc; exact h
theorem Ev.f {α : Type} {f g : Nat → Option α} {r : α} (hc : c = false) (h : Ev g r) : Ev (fun n => bif c then f n else g n) r := by subst hc; exact h
theorem Ev.chk {α : Type} {f : Nat → Option α} {r : α} (hc : c = true) (h : Ev f r) : Ev (fun n => Go.Sh.chk c (f n)) r := by subst hc; exact h
theorem Ev.letJ {α β : Type} {b : Nat → α → Option β} {a : Nat → (α → Option β) → Option β} {r : β} (h : Ev (fun n => a n (b n)) r) : Ev (fun n => Go.Sh.letJ (b n) (a n)) r := h
theorem Ev.some' {α β : Type} {x : Option α} {a : α} {g : Nat → α → Option β} {r : β} (hx : x = some a) (h : Ev (fun n => g n a) r) : Ev (fun n => x.bind (g n)) r := by subst hx; exact h
def EvL {γ β : Type} (step : Nat → γ → Option (γ ⊕ β)) (x : γ) (out : β) : Prop := ∃ N, ∀ F n, N ≤ F → N ≤ n → Go.Sh.iter (step F) n x = some out
theorem EvL.next {γ β : Type} {step : Nat → γ → Option (γ ⊕ β)} {x y : γ} {out : β} (h1 : Ev (fun n => step n x) (.inl y)) (h2 : EvL step y out) : EvL step x out := by
  obtain ⟨N, hN⟩ := h1
  obtain ⟨M, hM⟩ := h2
  refine ⟨max N M + 1, fun F n hF hn => ?_⟩
  obtain ⟨n, rfl⟩ : ∃ n', n = n' + 1 := ⟨n - 1, by omega⟩
  have := hN F (by omega)
  simp only at this
  simp only [Go.Sh.iter, this]
  exact hM F n (by omega) (by omega)
theorem EvL.stop {γ β : Type} {step : Nat → γ → Option (γ ⊕ β)} {x : γ} {out : β} (h1 : Ev (fun n => step n x) (.inr out)) : EvL step x out := by
  obtain ⟨N, hN⟩ := h1
  refine ⟨N + 1, fun F n hF hn => ?_⟩
  obtain ⟨n, rfl⟩ : ∃ n', n = n' + 1 := ⟨n - 1, by omega⟩
  have := hN F (by omega)
  simp only at this
  simp only [Go.Sh.iter, this]
theorem EvL.ev {γ β : Type} {step : Nat → γ → Option (γ ⊕ β)} {x : γ} {out : β} (h : EvL step x out) : Ev (fun n => Go.Sh.iter (step n) n x) out := by
  obtain ⟨N, hN⟩ := h
  exact ⟨N, fun n hn => hN n n hn hn⟩
theorem EvL.count {γ β : Type} {step : Nat → γ → Option (γ ⊕ β)} (A : Nat → γ) (out : Nat → β) (len : Nat)
    (hs : ∀ k, k < len → (Ev (fun n => step n (A k)) (.inl (A (k + 1))) ∧ out (k + 1) = out k) ∨ Ev (fun n => step n (A k)) (.inr (out k)))
    (he : Ev (fun n => step n (A len)) (.inr (out len))) (k : Nat) (hk : k ≤ len) : EvL step (A k) (out k) := by
  obtain ⟨d, rfl⟩ : ∃ d, len = k + d := ⟨len - k, by omega⟩
  induction d generalizing k with
  | zero => exact .stop he
  | succ d ih =>
    rcases hs k (by omega) with ⟨h1, h2⟩ | h1
    · rw [← h2]
      have e : k + (d + 1) = (k + 1) + d := by omega
      rw [e] at hs he
      exact .next h1 (ih (k + 1) hs he (by omega))
    · exact .stop h1
theorem idx_nat {α : Type} {l : List α} {k : Nat} {x : α} (h : l[k]? = some x) : idx l (k : Int) = some x := by
  unfold idx; grind
theorem wrapI (h0 : -9223372036854775808 ≤ x) (h1 : x < 9223372036854775808) : IntKind.wrap .i64 x = x := by
  unfold IntKind.wrap
  simp [IntKind.bits, IntKind.signed]
  omega
end Go.Sh
namespace Go.Sh
theorem hCells_of (h : H[i]? = some (.cells cs)) : hCells H i = some cs := by unfold hCells; rw [h]
theorem hGetL_own {α : Type} {c : Cd α} {xs : List α} (h : H[i]? = some (.cells cs)) (e : cs[off]? = some (.own n (xs.map c.enc))) : hGetL n c H i off = some xs := by
  unfold hGetL
  rw [hCells_of h, Option.bind_some, e]
  simp only [if_true]
  exact mapM_ed c xs
theorem hGetL_d {α : Type} {c : Cd α} {xs : List α} (h : H[i]? = some (.cells cs)) (e : cs[off]? = some (.d (.list n (xs.map c.enc)))) : hGetL n c H i off = some xs := by
  unfold hGetL
  rw [hCells_of h, Option.bind_some, e]
  simp only [if_true]
  exact mapM_ed c xs
end Go.Sh
namespace Go.Sh
theorem dlt {a b : Nat} (h : a < b) : decide ((a : Int) < (b : Int)) = true := by simp; omega
theorem dge {a b : Nat} (h : b ≤ a) : decide ((a : Int) < (b : Int)) = false := by simp; omega
theorem wsuc {k : Nat} (h : k < 1000000000) : IntKind.wrap .i64 ((k : Int) + 1) = ((k + 1 : Nat) : Int) := by rw [wrapI (by omega) (by omega)]; rfl
theorem idx_at {α : Type} {l : List α} {k : Nat} (h : k < l.length) : idx l (k : Int) = some l[k] := idx_nat (List.getElem?_eq_getElem h)
theorem drop_at {α : Type} {l : List α} {k : Nat} (h : k < l.length) : l.drop k = l[k] :: l.drop (k + 1) := List.drop_eq_getElem_cons h
theorem EvL.ex {γ β : Type} {step : Nat → γ → Option (γ ⊕ β)} (I : γ → Prop) (m : γ → Nat) (J : β → Prop)
    (h : ∀ x, I x → (∃ y, Ev (fun n => step n x) (.inl y) ∧ I y ∧ m y < m x) ∨ ∃ o, J o ∧ Ev (fun n => step n x) (.inr o)) {x0 : γ} (h0 : I x0) : ∃ o, J o ∧ EvL step x0 o := by
  have key : ∀ (k : Nat) (x : γ), m x ≤ k → I x → ∃ o, J o ∧ EvL step x o := by
    intro k
    induction k with
    | zero =>
      intro x hm hx
      rcases h x hx with ⟨y, _, _, hy⟩ | ⟨o, j, h1⟩
      · omega
      · exact ⟨o, j, .stop h1⟩
    | succ k ih =>
      intro x hm hx
      rcases h x hx with ⟨y, h1, hy1, hy⟩ | ⟨o, j, h1⟩
      · obtain ⟨o, j, h2⟩ := ih y (by omega) hy1
        exact ⟨o, j, .next h1 h2⟩
      · exact ⟨o, j, .stop h1⟩
  exact key _ x0 (Nat.le_refl _) h0
def fnd {α : Type} (q : α → Bool) (xs : List α) : Int := match xs.findIdx? q with
  | some k => (k : Int)
  | none => -1
theorem fnd_none {α : Type} {q : α → Bool} {xs : List α} (h : xs.any q = false) : fnd q xs = -1 := by
  unfold fnd
  rw [List.findIdx?_eq_none_iff.2 (fun x hx => by simpa using (List.any_eq_false.1 h) x hx)]
theorem fnd_some {α : Type} {q : α → Bool} {xs : List α} (h : xs.any q = true) : 0 ≤ fnd q xs := by
  unfold fnd
  split
  · omega
  · rename_i e
    rw [List.findIdx?_eq_none_iff] at e
    obtain ⟨x, hx, hq⟩ := List.any_eq_true.1 h
    rw [e x hx] at hq
    cases hq
theorem fnd_ge {α : Type} (q : α → Bool) (xs : List α) : decide (fnd q xs ≥ 0) = xs.any q := by
  cases h : xs.any q
  · rw [fnd_none h]; rfl
  · simpa using fnd_some h
theorem fnd_lt {α : Type} (q : α → Bool) (xs : List α) : decide (fnd q xs < 0) = !xs.any q := by
  cases h : xs.any q
  · rw [fnd_none h]; rfl
  · have := fnd_some h; simp; omega
theorem fnd_ev {α : Type} {xs : List α} {f : Nat → α → Option Bool} {q : α → Bool} {step : Nat → Int → Option (Int ⊕ (Unit ⊕ Int))} (hl : xs.length < 100000000) (hf : ∀ x ∈ xs, Ev (fun n => f n x) (q x))
    (hs : ∀ n y, step n y = bif decide (y < (xs.length : Int)) then (idx xs y).bind fun x => (f n x).bind fun r => bif r then some (.inr (.inr y)) else some (.inl (IntKind.wrap .i64 (y + 1))) else some (.inr (.inl ()))) :
    Ev (fun n => (iter (step n) n 0).bind (Sum.elim (fun _ => some (-1)) (fun r => some r))) (fnd q xs) := by
  have main : EvL step (0 : Int) (match xs.findIdx? q with | some k => .inr (k : Int) | none => .inl () : Unit ⊕ Int) := by
    have := EvL.count (step := step) (A := fun k => (k : Int)) (out := fun k => (match (xs.drop k).findIdx? q with | some j => .inr ((k + j : Nat) : Int) | none => .inl () : Unit ⊕ Int)) xs.length (fun k hk => ?_) ?_ 0 (by omega)
    · simpa using this
    · simp only [hs]
      cases hq : q xs[k]
      · refine .inl ⟨.t (dlt hk) <| .some' (idx_at hk) <| .bind (hf _ (List.getElem_mem hk)) <| .f hq <| by rw [wsuc (by omega)]; exact .pure _, ?_⟩
        rw [drop_at hk, List.findIdx?_cons, hq]
        cases (xs.drop (k + 1)).findIdx? q with
        | none => rfl
        | some j => simp; omega
      · refine .inr (.t (dlt hk) <| .some' (idx_at hk) <| .bind (hf _ (List.getElem_mem hk)) <| .t hq <| ?_)
        rw [drop_at hk, List.findIdx?_cons, hq]
        simpa using Ev.pure _
    · simp only [hs]
      refine .f (dge (Nat.le_refl _)) ?_
      rw [List.drop_length]
      exact .pure _
  refine Ev.bind main.ev ?_
  unfold fnd
  cases xs.findIdx? q <;> exact .pure _
theorem fndS_ev {xs : List (List UInt8)} {q : List UInt8 → Bool} {step : Nat → Int → Option (Int ⊕ (Unit ⊕ Int))} (hl : xs.length < 100000000)
    (hs : ∀ n y, step n y = bif decide (y < (xs.length : Int)) then (idx xs y).bind fun x => bif q x then some (.inr (.inr y)) else some (.inl (IntKind.wrap .i64 (y + 1))) else some (.inr (.inl ()))) :
    Ev (fun n => (iter (step n) n 0).bind (Sum.elim (fun _ => some (-1)) (fun r => some r))) (fnd q xs) :=
  fnd_ev (f := fun _ x => some (q x)) hl (fun _ _ => .pure _) hs
theorem contains_ev {xs : List (List UInt8)} (s : List UInt8) (hl : xs.length < 100000000) : Ev (fun n => slices_Contains n xs s) (xs.any fun x => s == x) := by
  refine .bind (f := fun n => slices_Index n xs s) (fndS_ev (q := fun x => s == x) hl fun n y => rfl) ?_
  rw [← fnd_ge]; exact .pure _
theorem has_ev {xs : List (List UInt8)} (s : List UInt8) (hl : xs.length < 100000000) : Ev (fun n => r03_Has n xs s) (xs.any fun x => x == s) := by
  refine .bind (f := fun n => r03_Index n xs s) (fndS_ev (q := fun x => x == s) hl fun n y => rfl) ?_
  rw [← fnd_ge]; exact .pure _
theorem small_ev {c : Int} {b : Bool} (h : ((decide (c ≥ 97)) && (decide (c ≤ 122))) = b) : Ev (fun n => item_small n c) b := .of fun _ => by unfold item_small; rw [h]
theorem verb_ev {c : Int} {b : Bool} (h : ((decide (c ≥ 0)) && (decide (c ≤ 12))) = b) : Ev (fun n => guard_verb n c) b := .of fun _ => by unfold guard_verb; rw [h]
theorem inner_ev (c : Int) : ∃ b, Ev (fun n => item_inner n c) b := by
  unfold item_inner
  cases h : (decide (c ≥ 97)) && (decide (c ≤ 122))
  · refine Exists.elim (p := fun b => Ev (fun n => bif (decide (c ≥ 48)) then some ((decide (c ≤ 57)) || (c == 95)) else some (c == 95)) b) ?_ fun b hb => ⟨b, .bind (small_ev h) hb⟩
    cases h2 : decide (c ≥ 48)
    · exact ⟨_, .f rfl <| .pure _⟩
    · exact ⟨_, .t rfl <| .pure _⟩
  · exact ⟨true, .bind (small_ev h) (.pure _)⟩
theorem name_ev (s : List UInt8) : ∃ b, Ev (fun n => item_Name n s) b := by
  unfold item_Name
  by_cases h0 : s = []
  · exact ⟨false, .letJ <| .t (by simp [h0]) <| .pure _⟩
  by_cases h1 : 16 < s.length
  · exact ⟨false, .letJ <| .f (by simpa using h0) <| .t (by simp; omega) <| .pure _⟩
  have h2 : 0 < s.length := List.length_pos_iff.2 h0
  cases h : (decide ((s[0].toNat : Int) ≥ 97)) && (decide ((s[0].toNat : Int) ≤ 122))
  · exact ⟨false, .letJ <| .f (by simpa using h0) <| .f (by simp; omega) <| .some' (idx_at h2) <| .bind (small_ev h) <| .pure _⟩
  · obtain ⟨o, -, hL⟩ := EvL.ex (step := fun n => item_Name_l1 n s) (fun y => ∃ k : Nat, k ≤ s.length ∧ y = (k : Int)) (fun y => s.length - y.toNat) (fun _ => True) (fun y hy => by
      obtain ⟨k, hk, rfl⟩ := hy
      unfold item_Name_l1
      by_cases e : k < s.length
      · obtain ⟨b, hb⟩ := inner_ev (s[k].toNat : Int)
        cases b
        · exact .inr ⟨.inr false, trivial, .t (dlt e) <| .some' (idx_at e) <| .bind hb <| .pure _⟩
        · refine .inl ⟨((k + 1 : Nat) : Int), .t (dlt e) <| .some' (idx_at e) <| .bind hb <| .f rfl <| by rw [wsuc (by omega)]; exact .pure _, ⟨k + 1, e, rfl⟩, by omega⟩
      · exact .inr ⟨.inl (), trivial, .f (dge (by omega)) <| .pure _⟩) (x0 := 0) ⟨0, by omega, rfl⟩
    have pre : ∀ {b}, Ev (fun n => (iter (item_Name_l1 n s) n 0).bind (Sum.elim (fun v9 => some true) (fun r10 => some r10))) b → Ev (fun n => item_Name n s) b := fun hb => by
      unfold item_Name
      exact .letJ <| .f (by simpa using h0) <| .f (by simp; omega) <| .some' (idx_at h2) <| .bind (small_ev h) <| .f rfl hb
    unfold item_Name at pre
    cases o with
    | inl u => exact ⟨true, pre (.bind hL.ev <| .pure _)⟩
    | inr b => exact ⟨b, pre (.bind hL.ev <| .pure _)⟩
theorem on_ev (s : List UInt8) : ∃ b, Ev (fun n => guard_on n s) b := by
  unfold guard_on
  by_cases h0 : s = []
  · exact ⟨true, .t (by simp [h0]) <| .pure _⟩
  obtain ⟨b, hb⟩ := name_ev s
  cases b
  · exact ⟨false, .f (by simpa using h0) <| .bind hb <| .pure _⟩
  · exact ⟨_, .f (by simpa using h0) <| .bind hb <| .t rfl <| .pure _⟩
def keyB (s : List UInt8) : Bool := !(s == []) && decide (s.length ≤ 30)
theorem key_ev (s : List UInt8) : Ev (fun n => guard_key n s) (keyB s) := by
  unfold guard_key keyB
  cases h : s == []
  · exact .t rfl <| .of fun _ => by simp; omega
  · exact .f rfl <| .pure _
theorem lock_ev (p : Privacy) : ∃ b, Ev (fun n => guard_ValidPrivacy n p) b ∧ (b = true → keyB p.Key = true) := by
  unfold guard_ValidPrivacy
  cases h : (decide (p.Verb ≥ 0)) && (decide (p.Verb ≤ 12))
  · exact ⟨false, .bind (verb_ev h) <| .pure _, nofun⟩
  obtain ⟨b, hb⟩ := on_ev p.On
  cases b
  · exact ⟨false, .bind (verb_ev h) <| .t rfl <| .bind hb <| .pure _, nofun⟩
  · exact ⟨_, .bind (verb_ev h) <| .t rfl <| .bind hb <| .t rfl <| .bind (key_ev _) <| .pure _, id⟩
noncomputable def lockB (p : Privacy) : Bool := (lock_ev p).choose
theorem lockB_ev (p : Privacy) : Ev (fun n => guard_ValidPrivacy n p) (lockB p) := (lock_ev p).choose_spec.1
theorem lockB_key {p : Privacy} (h : lockB p = true) : keyB p.Key = true := (lock_ev p).choose_spec.2 h
theorem asked_ev {ls : List Privacy} (hl : ls.length < 100000000) : ∃ e, Ev (fun n => guard_asked n [] ls) e ∧ (e = 0 → ∀ p ∈ ls, keyB p.Key = true) := by
  have h1 : Ev (fun n => slices_ContainsFunc__guard_asked_1 n []) false := by
    refine .bind (f := fun n => slices_IndexFunc__guard_asked_1 n []) (fnd_ev (xs := []) (f := guard_asked_1) (q := fun _ => false) (by simp) (fun x hx => nomatch hx) fun n y => rfl) ?_
    exact .pure _
  have h2 : Ev (fun n => slices_ContainsFunc__guard_asked_2 n ls) (ls.any fun p => !lockB p) := by
    refine .bind (f := fun n => slices_IndexFunc__guard_asked_2 n ls) (fnd_ev (f := guard_asked_2) (q := fun p => !lockB p) hl (fun x hx => .bind (lockB_ev x) (.pure _)) fun n y => rfl) ?_
    rw [← fnd_ge]; exact .pure _
  unfold guard_asked
  cases hb : ls.any fun p => !lockB p
  · rw [hb] at h2
    have hloop : EvL (fun n => guard_asked_l1 n []) (0 : Int) (.inl ()) := .stop (.of fun _ => rfl)
    have hk : ∀ p ∈ ls, keyB p.Key = true := fun p hp => lockB_key (by simpa using List.any_eq_false.1 hb p hp)
    by_cases h3 : 50 < ls.length
    · exact ⟨4, .letJ <| .bind h1 <| .bind h2 <| .bind hloop.ev <| .t (by simp; omega) <| .pure _, fun _ => hk⟩
    · exact ⟨0, .letJ <| .bind h1 <| .bind h2 <| .bind hloop.ev <| .f (by simp; omega) <| .pure _, fun _ => hk⟩
  · rw [hb] at h2
    exact ⟨1, .letJ <| .bind h1 <| .bind h2 <| .pure _, nofun⟩
theorem clone_ev {ls : List Privacy} (hl : ls.length ≤ room) : Ev (fun n => slices_Clone_f15 n ls) ls := by
  refine .of fun n => ?_
  unfold slices_Clone_f15 nilB
  cases ls with
  | nil => simp [chk]
  | cons a r => simp only [List.length_cons] at hl; simp [chk, hl]
def GdAt (ls : List Privacy) (H : Hp) (i : Nat) : Prop := hGetL 3 cPrivacy H i 1 = some ls
theorem new_ev {ls : List Privacy} (hl : ls.length ≤ room) (H : Hp) : (∃ e, e ≠ 0 ∧ Ev (fun n => guard_New n [] ls H) ((none, e), H)) ∨
    ∃ i o, Ev (fun n => guard_New n [] ls H) ((some i, 0), H ++ [o]) ∧ GdAt ls (H ++ [o]) i ∧ ∀ p ∈ ls, keyB p.Key = true := by
  unfold guard_New
  obtain ⟨e, he, hk⟩ := asked_ev (ls := ls) (by unfold room at hl; omega)
  by_cases h : e = 0
  · subst h
    refine .inr ⟨H.length, _, .bind he <| .f rfl <| .bind (a := []) (.of fun _ => rfl) <| .bind (clone_ev hl) <| .some' rfl <| .pure _, ?_, hk rfl⟩
    exact hGetL_d (c := cPrivacy) (List.getElem?_concat_length) rfl
  · exact .inl ⟨e, h, .bind he <| .t (by simpa using h) <| .pure _⟩
theorem GdAt.more {ls : List Privacy} {H : Hp} {i : Nat} (h : GdAt ls H i) (o : SObj) : GdAt ls (H ++ [o]) i := by
  obtain ⟨cs, h1, h2⟩ := hGetL_eq h
  have h3 : (H ++ [o])[i]? = some (.cells cs) := by
    rw [List.getElem?_append_left (List.getElem?_eq_some_iff.1 h1).1]; exact h1
  rcases h2 with h2 | h2
  · exact hGetL_own h3 h2
  · exact hGetL_d h3 h2
end Go.Sh
namespace Go.Sh
theorem light_ev (ls : List Privacy) : ∃ b, Ev (fun n => l_light n [] ls) b ∧ (b = true → ls.length ≤ 60) := by
  unfold l_light
  have h1 : EvL (fun n => l_light_l1 n []) ((0, 0) : Int × Int) (0 : Int) := .stop (.of fun _ => rfl)
  obtain ⟨v, -, h2⟩ := EvL.ex (step := fun n => l_light_l2 n ls) (fun y => ∃ k : Nat, k ≤ ls.length ∧ y.2 = (k : Int)) (fun y => ls.length - y.2.toNat) (fun _ => True) (fun y hy => by
    obtain ⟨k, hk, e⟩ := hy
    obtain ⟨a, y2⟩ := y
    simp only at e
    subst e
    unfold l_light_l2
    by_cases e : k < ls.length ∧ k < 60
    · exact .inl ⟨_, .t (by simp; omega) <| .some' (idx_at e.1) <| .some' (idx_at e.1) <| .pure _, ⟨k + 1, e.1, wsuc (by omega)⟩, by simp only [wsuc (show k < 1000000000 by omega)]; omega⟩
    · exact .inr ⟨a, trivial, .f (by simp; omega) <| .pure _⟩) (x0 := ((0, 0) : Int × Int)) ⟨0, by omega, rfl⟩
  exact ⟨_, .bind h1.ev <| .bind h2.ev <| .t (by simp) <| .pure _, fun h => by simp at h; omega⟩
theorem rows_ev (r : List Value) : ∃ b, Ev (fun n => l01_Rows n [r]) b ∧ (b = true → r.length ≤ 20) := by
  have key : ∃ o : Unit ⊕ Bool, (o = .inl () → r.length ≤ 20) ∧ (o = .inr false ∨ o = .inl ()) ∧ EvL (fun n => l01_Rows_l2 n [r]) (0 : Int) o := by
    by_cases h : 20 < r.length
    · refine ⟨.inr false, nofun, .inl rfl, .stop ?_⟩
      unfold l01_Rows_l2
      exact .t (by simp) <| .some' (show idx [r] 0 = some r from rfl) <| .t (by simp; omega) <| .pure _
    · obtain ⟨o, ho, hL⟩ := EvL.ex (step := fun n => l01_Rows_l1 n [r] 0) (fun y => ∃ k : Nat, k ≤ r.length ∧ y = (k : Int)) (fun y => r.length - y.toNat) (fun o => o = .inr false ∨ o = .inl ()) (fun y hy => by
        obtain ⟨k, hk, rfl⟩ := hy
        unfold l01_Rows_l1
        by_cases e : k < r.length
        · by_cases e2 : 200 < r[k].S.length
          · exact .inr ⟨.inr false, .inl rfl, .some' (show idx [r] 0 = some r from rfl) <| .t (dlt e) <| .some' (show idx [r] 0 = some r from rfl) <| .some' (idx_at e) <| .t (by simp; omega) <| .pure _⟩
          · exact .inl ⟨((k + 1 : Nat) : Int), .some' (show idx [r] 0 = some r from rfl) <| .t (dlt e) <| .some' (show idx [r] 0 = some r from rfl) <| .some' (idx_at e) <| .f (by simp; omega) <| by rw [wsuc (by omega)]; exact .pure _, ⟨k + 1, e, rfl⟩, by omega⟩
        · exact .inr ⟨.inl (), .inr rfl, .some' (show idx [r] 0 = some r from rfl) <| .f (dge (by omega)) <| .pure _⟩) (x0 := 0) ⟨0, by omega, rfl⟩
      rcases ho with rfl | rfl
      · refine ⟨.inr false, nofun, .inl rfl, .stop ?_⟩
        unfold l01_Rows_l2
        exact .t (by simp) <| .some' (show idx [r] 0 = some r from rfl) <| .f (by simp; omega) <| .bind hL.ev <| .pure _
      · refine ⟨.inl (), fun _ => by omega, .inr rfl, .next (y := 1) ?_ (.stop ?_)⟩
        · unfold l01_Rows_l2
          exact .t (by simp) <| .some' (show idx [r] 0 = some r from rfl) <| .f (by simp; omega) <| .bind hL.ev <| .pure _
        · unfold l01_Rows_l2
          exact .f (by simp) <| .pure _
  obtain ⟨o, h1, h2, hL⟩ := key
  unfold l01_Rows
  rcases h2 with rfl | rfl
  · exact ⟨false, .bind hL.ev <| .pure _, nofun⟩
  · exact ⟨true, .bind hL.ev <| .pure _, fun _ => h1 rfl⟩
theorem names_ev (l : List (List UInt8)) : ∃ b, Ev (fun n => l01_Names n l) b ∧ (b = true → l.length ≤ 20) := by
  unfold l01_Names
  obtain ⟨o, ho, hL⟩ := EvL.ex (step := fun n => l01_Names_l1 n l) (fun y => ∃ k : Nat, k ≤ l.length ∧ y = (k : Int)) (fun y => l.length - y.toNat) (fun o => o = .inr false ∨ o = .inl ()) (fun y hy => by
    obtain ⟨k, hk, rfl⟩ := hy
    unfold l01_Names_l1
    by_cases e : k < l.length ∧ k < 20
    · by_cases e2 : 100 < l[k].length
      · exact .inr ⟨.inr false, .inl rfl, .t (by simp; omega) <| .some' (idx_at e.1) <| .t (by simp; omega) <| .pure _⟩
      · exact .inl ⟨((k + 1 : Nat) : Int), .t (by simp; omega) <| .some' (idx_at e.1) <| .f (by simp; omega) <| by rw [wsuc (by omega)]; exact .pure _, ⟨k + 1, e.1, rfl⟩, by omega⟩
    · exact .inr ⟨.inl (), .inr rfl, .f (by simp; omega) <| .pure _⟩) (x0 := 0) ⟨0, by omega, rfl⟩
  rcases ho with rfl | rfl
  · exact ⟨false, .bind hL.ev <| .pure _, nofun⟩
  · exact ⟨_, .bind hL.ev <| .pure _, fun h => by simp at h; omega⟩
theorem deed_ev (c : Deed) : ∃ b, Ev (fun n => l_deed n c) b ∧ (b = true → c.Row.length ≤ 20 ∧ c.Names.length ≤ 20 ∧ c.Keys.length ≤ 30) := by
  unfold l_deed
  obtain ⟨v, -, h2⟩ := EvL.ex (step := fun n => l_deed_l1 n c) (fun y => ∃ k : Nat, k ≤ c.Keys.length ∧ y.2 = (k : Int)) (fun y => c.Keys.length - y.2.toNat) (fun _ => True) (fun y hy => by
    obtain ⟨k, hk, e⟩ := hy
    obtain ⟨a, y2⟩ := y
    simp only at e
    subst e
    unfold l_deed_l1
    by_cases e : k < c.Keys.length ∧ k < 30
    · exact .inl ⟨_, .t (by simp; omega) <| .some' (idx_at e.1) <| .pure _, ⟨k + 1, e.1, wsuc (by omega)⟩, by simp only [wsuc (show k < 1000000000 by omega)]; omega⟩
    · exact .inr ⟨a, trivial, .f (by simp; omega) <| .pure _⟩) (x0 := (((c.On.length : Int), 0) : Int × Int)) ⟨0, by omega, rfl⟩
  obtain ⟨b1, hb1, k1⟩ := rows_ev c.Row
  cases b1
  · exact ⟨false, .bind h2.ev <| .bind hb1 <| .pure _, nofun⟩
  obtain ⟨b2, hb2, k2⟩ := names_ev c.Names
  cases b2
  · exact ⟨false, .bind h2.ev <| .bind hb1 <| .t rfl <| .bind hb2 <| .pure _, nofun⟩
  · exact ⟨_, .bind h2.ev <| .bind hb1 <| .t rfl <| .bind hb2 <| .t rfl <| .pure _, fun h => ⟨k1 rfl, k2 rfl, by simp at h; omega⟩⟩
theorem value_ev (v : Value) : ∃ b, Ev (fun n => item_ValidValue n v) b := by
  unfold item_ValidValue
  have hw : ∀ a b c : Int, Ev (fun n => item_within n a b c) ((decide (a ≥ b)) && (decide (a ≤ c))) := fun a b c => .of fun _ => rfl
  cases h : (decide (v.Kind ≥ 0)) && (decide (v.Kind ≤ 2))
  · exact ⟨false, .bind (hw ..) <| .f h <| .pure _⟩
  have hk : v.Kind = 0 ∨ v.Kind = 1 ∨ v.Kind = 2 := by simp at h; omega
  have hc : Ev (fun n => item_checks n) () := .pure _
  have h1 : ∃ b, Ev (fun n => item_checks_2 n v) b := by
    unfold item_checks_2
    cases h : v.S == []
    · exact ⟨false, .f rfl <| .pure _⟩
    · exact ⟨_, .t rfl <| .bind (hw ..) <| .pure _⟩
  have h2 : ∃ b, Ev (fun n => item_checks_3 n v) b := by
    unfold item_checks_3
    cases h : v.N == 0
    · exact ⟨false, .f rfl <| .pure _⟩
    · exact ⟨_, .t rfl <| .pure _⟩
  obtain ⟨b1, h1⟩ := h1
  obtain ⟨b2, h2⟩ := h2
  rcases hk with e | e | e
  · exact ⟨false, .bind (hw ..) <| .t h <| .bind hc <| .t (by simp [e]) <| .bind (f := fun n => item_checks_1 n v) (.pure _) <| .pure _⟩
  · exact ⟨b1, .bind (hw ..) <| .t h <| .bind hc <| .f (by simp [e]) <| .t (by simp [e]) <| .bind h1 <| .pure _⟩
  · exact ⟨b2, .bind (hw ..) <| .t h <| .bind hc <| .f (by simp [e]) <| .f (by simp [e]) <| .t (by simp [e]) <| .bind h2 <| .pure _⟩
noncomputable def valB (v : Value) : Bool := (value_ev v).choose
theorem valB_ev (v : Value) : Ev (fun n => item_ValidValue n v) (valB v) := (value_ev v).choose_spec
theorem row_ev (r : List Value) : ∃ b, Ev (fun n => item_ValidRow n r) b := by
  unfold item_ValidRow
  by_cases h : r.length ≤ 8
  · refine ⟨_, .t (by simp; omega) <| .bind (f := fun n => slices_ContainsFunc__item_ValidRow_1 n r) (a := r.any fun v => !valB v) ?_ <| .pure _⟩
    refine .bind (f := fun n => slices_IndexFunc__item_ValidRow_1 n r) (fnd_ev (f := item_ValidRow_1) (q := fun p => !valB p) (by omega) (fun x hx => .bind (valB_ev x) (.pure _)) fun n y => rfl) ?_
    rw [← fnd_ge]; exact .pure _
  · exact ⟨false, .f (by simp; omega) <| .pure _⟩
def wk (c : Deed) (ks : List (List UInt8)) : Deed := ⟨c.Verb, c.On, c.Names, c.Row, ks⟩
def keysB (ks : List (List UInt8)) : Bool := decide (ks.length ≤ 20) && ks.all keyB
theorem call_ev (c : Deed) (hn : c.Names.length ≤ 20) : ∃ b : Bool, ∀ ks, Ev (fun n => guard_ValidCall n (wk c ks)) (b && keysB ks) := by
  have bad : ∀ (b : Bool) (p : ∀ ks, Ev (fun n => guard_ValidCall n (wk c ks)) false), b = false → ∀ ks, Ev (fun n => guard_ValidCall n (wk c ks)) (b && keysB ks) := fun b p e ks => by subst e; exact p ks
  cases h1 : (decide (c.Verb < 1)) || (decide (c.Verb > 12))
  case true => exact ⟨false, fun ks => by unfold guard_ValidCall; exact .letJ <| .t h1 <| .pure _⟩
  obtain ⟨b2, h2⟩ := on_ev c.On
  cases b2
  case false => exact ⟨false, fun ks => by unfold guard_ValidCall; exact .letJ <| .f h1 <| .bind h2 <| .pure _⟩
  by_cases h3 : c.Names.length = c.Row.length
  case neg => exact ⟨false, fun ks => by unfold guard_ValidCall; exact .letJ <| .f h1 <| .bind h2 <| .f rfl <| .t (by simp [wk]; omega) <| .pure _⟩
  obtain ⟨b4, h4⟩ := row_ev c.Row
  cases b4
  case false => exact ⟨false, fun ks => by unfold guard_ValidCall; exact .letJ <| .f h1 <| .bind h2 <| .f rfl <| .f (by simp [wk]; omega) <| .bind h4 <| .pure _⟩
  have hL : ∃ o : Unit ⊕ Bool, (o = .inr false ∨ o = .inl ()) ∧ ∀ ks, EvL (fun n => guard_ValidCall_l1 n (wk c ks)) (0 : Int) o := by
    obtain ⟨o, ho, hL⟩ := EvL.ex (step := fun n => guard_ValidCall_l1 n (wk c [])) (fun y => ∃ k : Nat, k ≤ c.Names.length ∧ y = (k : Int)) (fun y => c.Names.length - y.toNat) (fun o => o = .inr false ∨ o = .inl ()) (fun y hy => by
      obtain ⟨k, hk, rfl⟩ := hy
      unfold guard_ValidCall_l1
      by_cases e : k < c.Names.length
      · obtain ⟨b, hb⟩ := name_ev c.Names[k]
        cases b
        · exact .inr ⟨.inr false, .inl rfl, .t (dlt e) <| .some' (idx_at (l := c.Names) e) <| .bind hb <| .pure _⟩
        · have hc := contains_ev (xs := sl c.Names 0 (k : Int)) c.Names[k] (by unfold sl; simp; omega)
          cases hcb : (sl c.Names 0 (k : Int)).any fun x => c.Names[k] == x
          · rw [hcb] at hc
            exact .inl ⟨((k + 1 : Nat) : Int), .t (dlt e) <| .some' (idx_at (l := c.Names) e) <| .bind hb <| .f rfl <| .chk (by unfold slOk; simp [wk]; omega) <| .bind hc <| by rw [wsuc (by omega)]; exact .pure _, ⟨k + 1, e, rfl⟩, by omega⟩
          · rw [hcb] at hc
            exact .inr ⟨.inr false, .inl rfl, .t (dlt e) <| .some' (idx_at (l := c.Names) e) <| .bind hb <| .f rfl <| .chk (by unfold slOk; simp [wk]; omega) <| .bind hc <| .pure _⟩
      · exact .inr ⟨.inl (), .inr rfl, .f (dge (by simp only [wk]; omega)) <| .pure _⟩) (x0 := 0) ⟨0, by omega, rfl⟩
    exact ⟨o, ho, fun ks => hL⟩
  obtain ⟨o, ho, hL⟩ := hL
  refine ⟨decide (o = .inl ()), fun ks => ?_⟩
  unfold guard_ValidCall
  by_cases h5 : ks.length ≤ 20
  · refine .letJ <| .f h1 <| .bind h2 <| .f rfl <| .f (by simp [wk]; omega) <| .bind h4 <| .f rfl <| .f (by simp [wk]; omega) <| .bind (hL ks).ev ?_
    rcases ho with rfl | rfl
    · exact .pure _
    · refine .bind (f := fun n => slices_ContainsFunc__guard_ValidCall_1 n ks) (a := ks.any fun s => !keyB s) ?_ ?_
      · refine .bind (f := fun n => slices_IndexFunc__guard_ValidCall_1 n ks) (fnd_ev (f := guard_ValidCall_1) (q := fun p => !keyB p) (by omega) (fun x hx => .bind (key_ev x) (.pure _)) fun n y => rfl) ?_
        rw [← fnd_ge]; exact .pure _
      · refine .of fun _ => ?_
        simp [keysB, h5, List.not_all_eq_any_not]
  · have : keysB ks = false := by simp [keysB]; omega
    rw [this, Bool.and_false]
    exact .letJ <| .f h1 <| .bind h2 <| .f rfl <| .f (by simp [wk]; omega) <| .bind h4 <| .f rfl <| .t (by simp [wk]; omega) <| .pure _
def meantB (p : Privacy) (c : Deed) : Bool := (p.Verb == 0 || p.Verb == c.Verb) && (p.On == [] || p.On == c.On)
theorem meant_ev (p : Privacy) (c : Deed) : Ev (fun n => guard_meant n p.Verb p.On c) (meantB p c) := by
  unfold guard_meant meantB
  cases p.Verb == 0 || p.Verb == c.Verb
  · exact .f rfl <| .pure _
  · refine .t rfl ?_
    cases p.On == []
    · exact .f rfl <| .pure _
    · exact .t rfl <| .pure _
def shut (c : Deed) (ks : List (List UInt8)) (p : Privacy) : Bool := meantB p c && !(ks.any fun x => p.Key == x)
theorem open_ev {c : Deed} {b : Bool} {ks : List (List UInt8)} {ls : List Privacy} {H : Hp} {i : Nat} (hb : Ev (fun n => guard_ValidCall n (wk c ks)) b) (hk : ks.length < 1000) (hg : GdAt ls H i) (hl : ls.length ≤ room) :
    Ev (fun n => guard_Guard_Open n i (wk c ks) H) (if b then (!ls.any (shut c ks), fnd (shut c ks) ls, 0) else (false, 0, 1)) := by
  unfold guard_Guard_Open
  cases b
  · exact .bind hb <| .t rfl <| .pure _
  refine .bind hb <| .f rfl <| .bind (f := fun n => guard_Guard_closed n i (wk c ks) H) (a := fnd (shut c ks) ls) ?_ ?_
  · unfold guard_Guard_closed
    refine .some' hg <| .bind (f := fun n => slices_IndexFunc__guard_Guard_closed_1 n ls (wk c ks)) (fnd_ev (f := fun n p => guard_Guard_closed_1 n p (wk c ks)) (q := shut c ks) (by unfold room at hl; omega) (fun p hp => ?_) fun n y => rfl) (.pure _)
    unfold guard_Guard_closed_1
    cases hm : meantB p c
    · refine .bind (meant_ev p (wk c ks)) ?_
      show Ev (fun n => bif meantB p c then _ else _) _
      rw [hm]
      unfold shut
      rw [hm]
      exact .pure _
    · refine .bind (meant_ev p (wk c ks)) ?_
      refine .t hm <| .bind (contains_ev (xs := ks) p.Key (by omega)) ?_
      unfold shut
      rw [hm]
      exact .pure _
  · rw [fnd_lt]; exact .pure _
end Go.Sh
namespace Go.Sh
theorem keys_ev (l : List Privacy) (hl : l.length ≤ 60) (c : Deed) (H : Hp) : ∃ ks : List (List UInt8), EvL (fun n => l_GuardOpens_l1 n l) (c.Verb, c.On, c.Names, c.Row, ([] : List (List UInt8)), (0 : Int), H) (c.Verb, c.On, c.Names, c.Row, ks, H) ∧
    (∀ p ∈ l, p.Key ∈ ks) ∧ (∀ s ∈ ks, ∃ p ∈ l, p.Key = s) ∧ ks.length ≤ l.length := by
  have key : ∀ (d k : Nat), k + d = l.length → ∀ ks : List (List UInt8), ks.length ≤ k → (∀ s ∈ ks, ∃ p ∈ l, p.Key = s) → (∀ p ∈ l.take k, p.Key ∈ ks) →
      ∃ ks', EvL (fun n => l_GuardOpens_l1 n l) (c.Verb, c.On, c.Names, c.Row, ks, (k : Int), H) (c.Verb, c.On, c.Names, c.Row, ks', H) ∧ (∀ p ∈ l, p.Key ∈ ks') ∧ (∀ s ∈ ks', ∃ p ∈ l, p.Key = s) ∧ ks'.length ≤ l.length := by
    intro d
    induction d with
    | zero =>
      intro k hk ks h1 h2 h3
      refine ⟨ks, .stop ?_, by simpa [show k = l.length from by omega] using h3, h2, by omega⟩
      unfold l_GuardOpens_l1
      exact .f (dge (by omega)) <| .pure _
    | succ d ih =>
      intro k hk ks h1 h2 h3
      have e : k < l.length := by omega
      have hh := has_ev (xs := ks) l[k].Key (by omega)
      have ht : l.take (k + 1) = l.take k ++ [l[k]] := by rw [List.take_add_one, List.getElem?_eq_getElem e]; rfl
      cases hb : ks.any fun x => x == l[k].Key
      · rw [hb] at hh
        obtain ⟨ks', q1, q2⟩ := ih (k + 1) (by omega) (ks ++ [l[k].Key]) (by simp; omega) (by
          intro s hs
          rcases List.mem_append.1 hs with hs | hs
          · exact h2 s hs
          · exact ⟨l[k], List.getElem_mem e, (List.mem_singleton.1 hs).symm⟩) (by
          intro p hp
          rw [ht] at hp
          rcases List.mem_append.1 hp with hp | hp
          · exact List.mem_append_left _ (h3 p hp)
          · have : p = l[k] := by simpa using hp
            rw [this]; simp)
        refine ⟨ks', .next ?_ q1, q2⟩
        unfold l_GuardOpens_l1
        exact .t (dlt e) <| .some' (idx_at e) <| .bind hh <| .t rfl <| .some' (idx_at e) <| .chk (by simp [room]; omega) <| by simp only [wsuc (show k < 1000000000 by omega)]; exact .pure _
      · rw [hb] at hh
        obtain ⟨x, hx, hxe⟩ := List.any_eq_true.1 hb
        obtain ⟨ks', q1, q2⟩ := ih (k + 1) (by omega) ks (by omega) h2 (by
          intro p hp
          rw [ht] at hp
          rcases List.mem_append.1 hp with hp | hp
          · exact h3 p hp
          · have : p = l[k] := by simpa using hp
            rw [this, ← show x = l[k].Key by simpa using hxe]; exact hx)
        refine ⟨ks', .next ?_ q1, q2⟩
        unfold l_GuardOpens_l1
        exact .t (dlt e) <| .some' (idx_at e) <| .bind hh <| .f rfl <| by simp only [wsuc (show k < 1000000000 by omega)]; exact .pure _
  exact key l.length 0 (by omega) [] (by simp) (fun s hs => nomatch hs) (by simp)
theorem shut_more {c : Deed} {ks : List (List UInt8)} {s : List UInt8} {p : Privacy} (h : shut c ks p = false) : shut c (ks ++ [s]) p = false := by
  unfold shut at *
  cases h1 : meantB p c
  · rfl
  · rw [h1] at h
    simp only [Bool.true_and, Bool.not_eq_false'] at h
    simp [h]
theorem opens_ev (l : List Privacy) (one : Privacy) (c : Deed) (key : List UInt8) (hl : l.length < 2000000) : Ev (fun n => l_GuardOpens n l one c key) true := by
  have hA : Ev (fun n => (l_awake n).bind fun r => some r) true := .of fun _ => rfl
  obtain ⟨b1, h1, k1⟩ := light_ev ([one] ++ l)
  obtain ⟨b2, h2, k2⟩ := deed_ev c
  unfold l_GuardOpens
  refine .letJ <| .chk (by simp [room]; omega) <| .bind h1 ?_
  cases b1
  · exact .t rfl <| .t rfl hA
  refine .f rfl <| .bind h2 ?_
  cases b2
  · exact .t rfl <| .t rfl hA
  refine .f rfl <| ?_
  by_cases h3 : 100 < key.length
  · exact .t (by simp; omega) hA
  refine .f (by simp; omega) ?_
  have hl6 : l.length ≤ 60 := by have := k1 rfl; simp at this; omega
  obtain ⟨-, hn, hk⟩ := k2 rfl
  rcases new_ev (ls := l) (by unfold room; omega) [] with ⟨e, he, hN⟩ | ⟨i, o, hN, hG, hK⟩
  · exact .bind hN <| .t (by simpa using he) hA
  refine .bind hN <| .f rfl <| .some' rfl ?_
  obtain ⟨b, hb⟩ := call_ev c hn
  have hlr : l.length ≤ room := by unfold room; omega
  refine .bind (open_ev (hb c.Keys) (by omega) hG hlr) ?_
  cases hv : b && keysB c.Keys
  · exact .t rfl hA
  have hv2 := hv
  rw [Bool.and_eq_true] at hv2
  obtain ⟨rfl, hkc⟩ := hv2
  refine .f rfl <| .chk (decide_eq_true (by unfold room; simp; omega)) <| .chk (decide_eq_true (by unfold room; simp; omega)) <| .bind (open_ev (hb ([] ++ c.Keys ++ [key])) (by simp; omega) hG hlr) ?_
  have e11 : (((if true && keysB ([] ++ c.Keys ++ [key]) then (!l.any (shut c ([] ++ c.Keys ++ [key])), fnd (shut c ([] ++ c.Keys ++ [key])) l, 0) else (false, 0, 1) : Bool × Int × Int).2.2 == 0) && (!l.any (shut c c.Keys)) && !(if true && keysB ([] ++ c.Keys ++ [key]) then (!l.any (shut c ([] ++ c.Keys ++ [key])), fnd (shut c ([] ++ c.Keys ++ [key])) l, 0) else (false, 0, 1) : Bool × Int × Int).1) = false := by
    cases hq : keysB ([] ++ c.Keys ++ [key])
    · rfl
    · cases ha : l.any (shut c c.Keys)
      · have : l.any (shut c ([] ++ c.Keys ++ [key])) = false := by
          rw [List.any_eq_false] at ha ⊢
          intro p hp
          have := shut_more (s := key) (by simpa using ha p hp : shut c c.Keys p = false)
          simpa using this
        rw [this]; rfl
      · simp
  refine .f e11 <| .letJ <| .letJ ?_
  have tail : ∀ H2, GdAt l H2 i → Ev (fun n => (iter (l_GuardOpens_l1 n l) n (c.Verb, c.On, c.Names, c.Row, ([] : List (List UInt8)), 0, H2)).bind fun v27 =>
              bif (decide ((v27.2.2.2.2.1.length : Int) ≤ 20)) then
                (guard_Guard_Open n i (⟨v27.1, v27.2.1, v27.2.2.1, v27.2.2.2.1, v27.2.2.2.2.1⟩ : Deed) v27.2.2.2.2.2).bind fun r28 =>
                bif (((r28.2.2 != 0) || (!r28.1)) || (r28.2.1 != (-1))) then
                  some false
                else
                  (l_awake n).bind fun r29 =>
                  some r29
              else
                (l_awake n).bind fun r30 =>
                some r30) true := by
    intro H2 hG2
    obtain ⟨ks, q1, q2, q3, q4⟩ := keys_ev l hl6 c H2
    refine .bind q1.ev ?_
    by_cases h20 : ks.length ≤ 20
    · have hks : keysB ks = true := by
        simp only [keysB, Bool.and_eq_true, decide_eq_true_eq, List.all_eq_true]
        refine ⟨h20, fun s hs => ?_⟩
        obtain ⟨p, hp, rfl⟩ := q3 s hs
        exact hK p hp
      have hno : l.any (shut c ks) = false := by
        rw [List.any_eq_false]
        intro p hp
        have : (ks.any fun x => p.Key == x) = true := List.any_eq_true.2 ⟨p.Key, q2 p hp, by simp⟩
        simp [shut, this]
      refine .t (by simp; omega) <| .bind (open_ev (hb ks) (show ks.length < 1000 by omega) hG2 hlr) ?_
      rw [hks, hno, fnd_none hno]
      exact .f rfl hA
    · exact .f (by simp; omega) hA
  refine .chk (decide_eq_true (by unfold room; simp; omega)) <| .chk (decide_eq_true (by unfold room; simp; omega)) ?_
  rcases new_ev (ls := [] ++ l ++ [one]) (by simp [room]; omega) ([] ++ [o]) with ⟨e, he, hN2⟩ | ⟨i2, o2, hN2, hG2, -⟩
  · exact .bind hN2 <| .f (by simpa using he) <| tail _ hG
  · refine .bind hN2 <| .t rfl <| .some' rfl <| .bind (open_ev (hb c.Keys) (show c.Keys.length < 1000 by omega) hG2 (by simp [room]; omega)) ?_
    rw [hv]
    refine .f ?_ <| tail _ (hG.more _)
    simp only [if_true, List.nil_append, List.any_append]
    cases l.any (shut c c.Keys) <;> simp
end Go.Sh
