/- Plain laws: what the functions tell. -/
import Derived.Test.YtmhiemakdfkmeaaF2
set_option linter.all false
set_option autoImplicit true
set_option relaxedAutoImplicit true
namespace Go.Sh
def Ev {α : Type} (f : Nat → Option α) (r : α) : Prop := ∃ N, ∀ n, N ≤ n → f n = some r
theorem Ev.of {α : Type} {f : Nat → Option α} {r : α} (h : ∀ n, f n = some r) : Ev f r := ⟨0, fun n _ => h n⟩
theorem Ev.pure {α : Type} (r : α) : Ev (fun _ => some r) r := .of fun _ => rfl
theorem Ev.bind {α β : Type} {f : Nat → Option α} {g : Nat → α → Option β} {a : α} {r : β} (h1 : Ev f a) (h2 : Ev (fun n => g n a) r) : Ev (fun n => (f n).bind (g n)) r := by
  obtain ⟨N, hN⟩ := h1
  obtain ⟨M, hM⟩ := h2
  refine ⟨max N M, fun n hn => ?_⟩
  show (f n).bind (g n) = some r
  rw [hN n (by omega)]
  exact hM n (by omega)
theorem Ev.congr {α : Type} {f g : Nat → Option α} {r : α} (h : ∀ n, f n = g n) (h1 : Ev g r) : Ev f r := by
  obtain ⟨N, hN⟩ := h1
  exact ⟨N, fun n hn => (h n).trans (hN n hn)⟩
theorem Ev.t {α : Type} {c : Bool} {f g : Nat → Option α} {r : α} (hc : c = true) (h : Ev f r) : Ev (fun n => bif c then f n else g n) r := by subst hc; exact h
theorem Ev.f {α : Type} {c : Bool} {f g : Nat → Option α} {r : α} (hc : c = false) (h : Ev g r) : Ev (fun n => bif c then f n else g n) r := by subst hc; exact h
theorem Ev.ite {α : Type} {c : Bool} {f g : Nat → Option α} {r : α} (h1 : c = true → Ev f r) (h2 : c = false → Ev g r) : Ev (fun n => bif c then f n else g n) r := by
  cases c
  · exact h2 rfl
  · exact h1 rfl
theorem Ev.letJ {α β : Type} {b : Nat → α → Option β} {a : Nat → (α → Option β) → Option β} {r : β} (h : Ev (fun n => a n (b n)) r) : Ev (fun n => Go.Sh.letJ (b n) (a n)) r := h
theorem Ev.some' {α β : Type} {x : Option α} {a : α} {g : Nat → α → Option β} {r : β} (hx : x = some a) (h : Ev (fun n => g n a) r) : Ev (fun n => x.bind (g n)) r := by subst hx; exact h
def EvL {γ β : Type} (step : Nat → γ → Option (γ ⊕ β)) (x : γ) (out : β) : Prop := ∃ N, ∀ F n, N ≤ F → N ≤ n → Go.Sh.iter (step F) n x = some out
theorem EvL.next {γ β : Type} {step : Nat → γ → Option (γ ⊕ β)} {x y : γ} {out : β} (h1 : Ev (fun n => step n x) (.inl y)) (h2 : EvL step y out) : EvL step x out := by
  obtain ⟨N, hN⟩ := h1
  obtain ⟨M, hM⟩ := h2
  refine ⟨max N M + 1, fun F n hF hn => ?_⟩
  obtain ⟨n, rfl⟩ : ∃ n', n = n' + 1 := ⟨n - 1, by omega⟩
  have := hN F (by omega)
  simp only at this
  simp only [Go.Sh.iter, this]
  exact hM F n (by omega) (by omega)
theorem EvL.stop {γ β : Type} {step : Nat → γ → Option (γ ⊕ β)} {x : γ} {out : β} (h1 : Ev (fun n => step n x) (.inr out)) : EvL step x out := by
  obtain ⟨N, hN⟩ := h1
  refine ⟨N + 1, fun F n hF hn => ?_⟩
  obtain ⟨n, rfl⟩ : ∃ n', n = n' + 1 := ⟨n - 1, by omega⟩
  have := hN F (by omega)
  simp only at this
  simp only [Go.Sh.iter, this]
theorem EvL.ev {γ β : Type} {step : Nat → γ → Option (γ ⊕ β)} {x : γ} {out : β} (h : EvL step x out) : Ev (fun n => Go.Sh.iter (step n) n x) out := by
  obtain ⟨N, hN⟩ := h
  exact ⟨N, fun n hn => hN n n hn hn⟩
theorem EvL.count {γ β : Type} {step : Nat → γ → Option (γ ⊕ β)} (A : Nat → γ) (out : Nat → β) (len : Nat)
    (hs : ∀ k, k < len → (Ev (fun n => step n (A k)) (.inl (A (k + 1))) ∧ out (k + 1) = out k) ∨ Ev (fun n => step n (A k)) (.inr (out k)))
    (he : Ev (fun n => step n (A len)) (.inr (out len))) (k : Nat) (hk : k ≤ len) : EvL step (A k) (out k) := by
  obtain ⟨d, rfl⟩ : ∃ d, len = k + d := ⟨len - k, by omega⟩
  induction d generalizing k with
  | zero => exact .stop he
  | succ d ih =>
    rcases hs k (by omega) with ⟨h1, h2⟩ | h1
    · rw [← h2]
      have e : k + (d + 1) = (k + 1) + d := by omega
      rw [e] at hs he
      exact .next h1 (ih (k + 1) hs he (by omega))
    · exact .stop h1
theorem idx_nat {α : Type} {l : List α} {k : Nat} {x : α} (h : l[k]? = some x) : idx l (k : Int) = some x := by
  unfold idx; rw [if_pos (by omega)]; simpa using h
theorem wrapI {x : Int} (h0 : -9223372036854775808 ≤ x) (h1 : x < 9223372036854775808) : IntKind.wrap .i64 x = x := by
  unfold IntKind.wrap
  simp [IntKind.bits, IntKind.signed]
  omega
end Go.Sh
namespace Go.Sh
theorem dlt {a b : Nat} (h : a < b) : decide ((a : Int) < (b : Int)) = true := by simp; omega
theorem dge {a b : Nat} (h : b ≤ a) : decide ((a : Int) < (b : Int)) = false := by simp; omega
theorem wsuc {k : Nat} (h : k < 1000000000) : IntKind.wrap .i64 ((k : Int) + 1) = ((k + 1 : Nat) : Int) := by rw [wrapI (by omega) (by omega)]; rfl
theorem idx_at {α : Type} {l : List α} {k : Nat} (h : k < l.length) : idx l (k : Int) = some l[k] := idx_nat (List.getElem?_eq_getElem h)
theorem drop_at {α : Type} {l : List α} {k : Nat} (h : k < l.length) : l.drop k = l[k] :: l.drop (k + 1) := List.drop_eq_getElem_cons h
def smallV (v : Value) : Bool := decide (v.S.length ≤ 200)
def smallR (r : List Value) : Bool := decide (r.length ≤ 20) && r.all smallV
theorem rows_ev (l : List (List Value)) (hl : l.length < 1000) : Ev (fun f => l01_Rows f l) (l.all smallR) := by
  have main : EvL (fun f => l01_Rows_l2 f l) (0 : Int) (if l.all smallR then .inl () else .inr false : Unit ⊕ Bool) := by
    refine EvL.count (A := fun k => (k : Int)) (out := fun k => (if (l.drop k).all smallR then .inl () else .inr false : Unit ⊕ Bool)) l.length (fun k hk => ?_) ?_ 0 (by omega)
    · unfold l01_Rows_l2
      have inner : l[k].length ≤ 20 → EvL (fun f => l01_Rows_l1 f l (k : Int)) (0 : Int) (if l[k].all smallV then .inl () else .inr false : Unit ⊕ Bool) := by
        intro h20
        refine EvL.count (A := fun j => (j : Int)) (out := fun j => (if (l[k].drop j).all smallV then .inl () else .inr false : Unit ⊕ Bool)) l[k].length (fun j hj => ?_) ?_ 0 (by omega)
        · unfold l01_Rows_l1
          by_cases hs : smallV l[k][j] = true
          · refine .inl ⟨.some' (idx_at hk) <| .t (dlt hj) <| .some' (idx_at hk) <| .some' (idx_at hj) <| .f ?_ ?_, by rw [drop_at hj, List.all_cons, hs, Bool.true_and]⟩
            · simp only [smallV, decide_eq_true_eq] at hs; simp; omega
            · rw [wsuc (by omega)]; exact .pure _
          · refine .inr (.some' (idx_at hk) <| .t (dlt hj) <| .some' (idx_at hk) <| .some' (idx_at hj) <| .t ?_ ?_)
            · simp only [smallV, decide_eq_true_eq] at hs; simp; omega
            · rw [drop_at hj, List.all_cons, Bool.eq_false_iff.2 hs]; exact .pure _
        · unfold l01_Rows_l1
          refine .some' (idx_at hk) <| .f (dge (Nat.le_refl _)) ?_
          simp only [List.drop_length, List.all_nil, if_true]; exact .pure _
      by_cases h20 : l[k].length ≤ 20
      · by_cases hs : l[k].all smallV = true
        · refine .inl ⟨.t (dlt hk) <| .some' (idx_at hk) <| .f (by simp; omega) <| .bind (inner h20).ev ?_, by rw [drop_at hk, List.all_cons]; simp only [smallR, h20, decide_true, hs, Bool.true_and]⟩
          simp only [hs, if_true, Sum.elim_inl]
          rw [wsuc (by omega)]; exact .pure _
        · refine .inr (.t (dlt hk) <| .some' (idx_at hk) <| .f (by simp; omega) <| .bind (inner h20).ev ?_)
          rw [drop_at hk, List.all_cons, smallR, Bool.eq_false_iff.2 hs]
          simp only [Bool.and_false, Bool.false_and, Bool.false_eq_true, if_false, Sum.elim_inr]
          exact .pure _
      · refine .inr (.t (dlt hk) <| .some' (idx_at hk) <| .t (by simp; omega) ?_)
        rw [drop_at hk, List.all_cons, smallR, decide_eq_false h20]
        simp only [Bool.false_and, Bool.false_eq_true, if_false]
        exact .pure _
    · unfold l01_Rows_l2
      refine .f (dge (Nat.le_refl _)) ?_
      simp only [List.drop_length, List.all_nil, if_true]; exact .pure _
  unfold l01_Rows
  refine .bind main.ev ?_
  cases h : l.all smallR
  · simp only [Bool.false_eq_true, if_false, Sum.elim_inr]; exact .pure _
  · simp only [if_true, Sum.elim_inl]; exact .pure _
def okK (k : Int) : Bool := k == 1 || k == 2
def okS (s : Sorting) : Bool := decide (1 ≤ s.Kinds.length) && decide (s.Kinds.length ≤ 8) && s.Down.length == s.Kinds.length && decide (1 ≤ s.Dup) && decide (s.Dup ≤ 3) && s.Kinds.all okK
def okV (v : Value) : Bool := if v.Kind = 1 then decide (-1000000000 ≤ v.N) && decide (v.N ≤ 1000000000) && v.S == [] else if v.Kind = 2 then v.N == 0 && decide (v.S.length ≤ 40) else false
def fitsZ : List Int → List Value → Bool
  | [], [] => true
  | k :: ks, v :: vs => (v.Kind == k && okV v) && fitsZ ks vs
  | _, _ => false
theorem fitsZ_len : ∀ {ks : List Int} {vs : List Value}, fitsZ ks vs = true → ks.length = vs.length
  | [], [], _ => rfl
  | k :: ks, v :: vs, h => by
    simp only [fitsZ, Bool.and_eq_true] at h
    simp [fitsZ_len h.2]
theorem fitsZ_at : ∀ {ks : List Int} {vs : List Value} (h : fitsZ ks vs = true) (i : Nat) (h1 : i < ks.length) (h2 : i < vs.length), vs[i].Kind = ks[i] ∧ okV vs[i] = true
  | k :: ks, v :: vs, h, i, h1, h2 => by
    simp only [fitsZ, Bool.and_eq_true, beq_iff_eq] at h
    cases i with
    | zero => exact h.1
    | succ i => exact fitsZ_at h.2 i (by simpa using h1) (by simpa using h2)
  | [], [], _, _, h1, _ => absurd h1 (by simp)
theorem tValid1_eq (n : Nat) (k : Int) : t_Valid_1 n k = some (!okK k) := rfl
theorem tValid_ev (s : Sorting) : Ev (fun f => t_Valid f s) (okS s) := by
  unfold t_Valid okS
  by_cases h1 : 1 ≤ s.Kinds.length
  case neg => refine .f (by simp; omega) ?_; rw [decide_eq_false h1]; exact .pure _
  refine .t (by simp; omega) ?_
  by_cases h2 : s.Kinds.length ≤ 8
  case neg => refine .f (by simp; omega) ?_; rw [decide_eq_false h2]; simp only [Bool.and_false, Bool.false_and]; exact .pure _
  refine .t (by simp; omega) ?_
  rw [decide_eq_true h1, decide_eq_true h2]
  have e1 : ((s.Down.length : Int) == (s.Kinds.length : Int)) = (s.Down.length == s.Kinds.length) := by
    rw [Bool.eq_iff_iff]; simp; omega
  have e2 : decide (s.Dup ≥ 1) = decide (1 ≤ s.Dup) := rfl
  rw [e1, e2]
  simp only [Bool.true_and]
  cases hc : (s.Down.length == s.Kinds.length && decide (1 ≤ s.Dup)) && decide (s.Dup ≤ 3)
  · exact .f rfl (.pure _)
  · refine .t rfl ?_
    have main : EvL (fun f => slices_IndexFunc__t_Valid_1_l1 f s.Kinds) (0 : Int) (match s.Kinds.findIdx? (fun k => !okK k) with | some i => .inr (i : Int) | none => .inl () : Unit ⊕ Int) := by
      refine EvL.count (A := fun k => (k : Int)) (out := fun k => (match (s.Kinds.drop k).findIdx? (fun k => !okK k) with | some i => .inr ((k + i : Nat) : Int) | none => .inl () : Unit ⊕ Int)) s.Kinds.length (fun k hk => ?_) ?_ 0 (by omega) |> fun h => by simpa using h
      · unfold slices_IndexFunc__t_Valid_1_l1
        cases hk' : okK s.Kinds[k]
        · refine .inr (.t (dlt hk) <| .some' (idx_at hk) <| .bind (.of fun n => tValid1_eq n _) <| .t (by rw [hk']; rfl) ?_)
          rw [drop_at hk, List.findIdx?_cons, hk']
          exact .pure _
        · refine .inl ⟨.t (dlt hk) <| .some' (idx_at hk) <| .bind (.of fun n => tValid1_eq n _) <| .f (by rw [hk']; rfl) ?_, ?_⟩
          · rw [wsuc (by omega)]; exact .pure _
          · rw [drop_at hk, List.findIdx?_cons, hk']
            cases (s.Kinds.drop (k + 1)).findIdx? (fun k => !okK k) <;> simp
            omega
      · unfold slices_IndexFunc__t_Valid_1_l1
        refine .f (dge (Nat.le_refl _)) ?_
        simp only [List.drop_length, List.findIdx?_nil]; exact .pure _
    have hall : s.Kinds.all okK = (s.Kinds.findIdx? (fun k => !okK k)).isNone := by
      rw [Bool.eq_iff_iff, Option.isNone_iff_eq_none, List.findIdx?_eq_none_iff, List.all_eq_true]
      simp
    have h3 : Ev (fun f => slices_IndexFunc__t_Valid_1 f s.Kinds) (match s.Kinds.findIdx? (fun k => !okK k) with | some i => (i : Int) | none => -1) := by
      unfold slices_IndexFunc__t_Valid_1
      refine .bind main.ev ?_
      cases s.Kinds.findIdx? (fun k => !okK k) <;> exact .pure _
    have h4 : Ev (fun f => slices_ContainsFunc__t_Valid_1 f s.Kinds) (!(s.Kinds.all okK)) := by
      unfold slices_ContainsFunc__t_Valid_1
      refine .bind h3 ?_
      rw [hall]
      cases s.Kinds.findIdx? (fun k => !okK k) with
      | none => exact .pure _
      | some i => exact .congr (fun _ => by simp) (.pure _)
    refine .bind h4 ?_
    rw [Bool.not_not, Bool.true_and]; exact .pure _
theorem rValid_ev (s : Sorting) (hl : s.Kinds.length < 1000) : Ev (fun f => r_Valid f s) (okS s) := by
  have main : EvL (fun f => r_Valid_l1 f s) (0 : Int) (if s.Kinds.all okK then .inl () else .inr false : Unit ⊕ Bool) := by
    refine EvL.count (A := fun k => (k : Int)) (out := fun k => (if (s.Kinds.drop k).all okK then .inl () else .inr false : Unit ⊕ Bool)) s.Kinds.length (fun k hk => ?_) ?_ 0 (by omega)
    · unfold r_Valid_l1
      have hd := drop_at hk
      by_cases h1 : s.Kinds[k] = 1
      · refine .inl ⟨.t (dlt hk) <| .some' (idx_at hk) <| .f (by simp [h1]) ?_, by rw [hd, List.all_cons]; simp [okK, h1]⟩
        rw [wsuc (by omega)]; exact .pure _
      · by_cases h2 : s.Kinds[k] = 2
        · refine .inl ⟨.t (dlt hk) <| .some' (idx_at hk) <| .t (by simp [h1]) <| .some' (idx_at hk) <| .f (by simp [h2]) ?_, by rw [hd, List.all_cons]; simp [okK, h2]⟩
          rw [wsuc (by omega)]; exact .pure _
        · refine .inr (.t (dlt hk) <| .some' (idx_at hk) <| .t (by simp [h1]) <| .some' (idx_at hk) <| .t (by simp [h2]) ?_)
          rw [hd, List.all_cons]
          simp only [okK, beq_eq_false_iff_ne.2 h1, beq_eq_false_iff_ne.2 h2, Bool.or_self, Bool.false_and, Bool.false_eq_true, if_false]
          exact .pure _
    · unfold r_Valid_l1
      refine .f (dge (Nat.le_refl _)) ?_
      simp only [List.drop_length, List.all_nil, if_true]; exact .pure _
  unfold r_Valid okS
  refine .bind main.ev ?_
  cases h : s.Kinds.all okK
  · simp only [Bool.false_eq_true, if_false, Sum.elim_inr, Bool.and_false]; exact .pure _
  · simp only [if_true, Sum.elim_inl, Bool.and_true]
    by_cases h1 : 1 ≤ s.Kinds.length
    case neg => refine .f (by simp; omega) ?_; rw [decide_eq_false h1]; exact .pure _
    refine .t (by simp; omega) ?_
    by_cases h2 : s.Kinds.length ≤ 8
    case neg => refine .f (by simp; omega) ?_; rw [decide_eq_false h2]; simp only [Bool.and_false, Bool.false_and]; exact .pure _
    refine .t (by simp; omega) ?_
    rw [decide_eq_true h1, decide_eq_true h2]
    have e1 : ((s.Down.length : Int) == (s.Kinds.length : Int)) = (s.Down.length == s.Kinds.length) := by
      rw [Bool.eq_iff_iff]; simp; omega
    rw [e1]
    exact .pure _
theorem iValue_eq (f : Nat) (v : Value) : item_ValidValue f v = some (okV v) := by
  unfold item_ValidValue item_within item_checks item_checks_1 item_checks_2 item_checks_3 item_within okV
  by_cases h1 : v.Kind = 1
  · simp only [h1]
    cases h : v.S == [] <;> simp
  · by_cases h2 : v.Kind = 2
    · simp only [h2]
      cases h : v.N == 0 <;> simp
      omega
    · by_cases h0 : v.Kind = 0
      · simp [h0]
      · have : (decide (v.Kind ≥ 0) && decide (v.Kind ≤ 2)) = false := by simp; omega
        simp [this, h1, h2]
theorem rValue_eq (f : Nat) (v : Value) : r01_ValidValue f v = some (okV v) := by
  unfold r01_ValidValue okV
  by_cases h1 : v.Kind = 1
  · simp [h1]
  · by_cases h2 : v.Kind = 2
    · simp only [h2]
      cases h : v.N == 0 <;> simp
      omega
    · simp only [beq_eq_false_iff_ne.2 h1, beq_eq_false_iff_ne.2 h2, cond_false, Bool.false_and, if_neg h1, if_neg h2]
theorem fits_ev (s : Sorting) (r : List Value) (hl : r.length < 1000) : Ev (fun f => t_fits f s r) (fitsZ s.Kinds r) := by
  unfold t_fits
  by_cases hlen : r.length = s.Kinds.length
  case neg =>
    refine .t (by simp; omega) ?_
    have : fitsZ s.Kinds r = false := by
      cases h : fitsZ s.Kinds r with
      | false => rfl
      | true => exact absurd (fitsZ_len h).symm hlen
    rw [this]; exact .pure _
  refine .f (by simp; omega) ?_
  have main : EvL (fun f => t_fits_l1 f r) (s.Kinds, s.Down, s.Dup, (0 : Int)) (if fitsZ s.Kinds r then .inl () else .inr false : Unit ⊕ Bool) := by
    refine EvL.count (A := fun k => (s.Kinds, s.Down, s.Dup, (k : Int))) (out := fun k => (if fitsZ (s.Kinds.drop k) (r.drop k) then .inl () else .inr false : Unit ⊕ Bool)) r.length (fun k hk => ?_) ?_ 0 (by omega)
    · unfold t_fits_l1
      have hk2 : k < s.Kinds.length := by omega
      by_cases h1 : r[k].Kind = s.Kinds[k]
      · cases h2 : okV r[k]
        · refine .inr (.t (dlt hk) <| .some' (idx_at hk) <| .some' (idx_at hk2) <| .f (by simp [h1]) <| .bind (.of fun n => iValue_eq n _) <| .t (by rw [h2]; rfl) ?_)
          rw [drop_at hk, drop_at hk2, fitsZ, h2]
          simp only [Bool.and_false, Bool.false_and, Bool.false_eq_true, if_false]
          exact .pure _
        · refine .inl ⟨.t (dlt hk) <| .some' (idx_at hk) <| .some' (idx_at hk2) <| .f (by simp [h1]) <| .bind (.of fun n => iValue_eq n _) <| .f (by rw [h2]; rfl) ?_, ?_⟩
          · rw [wsuc (by omega)]; exact .pure _
          · rw [drop_at hk, drop_at hk2, fitsZ, h2, h1, BEq.rfl, Bool.true_and, Bool.true_and]
      · refine .inr (.t (dlt hk) <| .some' (idx_at hk) <| .some' (idx_at hk2) <| .t (by simp [h1]) ?_)
        rw [drop_at hk, drop_at hk2, fitsZ, beq_eq_false_iff_ne.2 h1]
        simp only [Bool.false_and, Bool.false_eq_true, if_false]
        exact .pure _
    · unfold t_fits_l1
      refine .f (dge (Nat.le_refl _)) ?_
      rw [List.drop_length, hlen, List.drop_length]
      exact .pure _
  refine .bind main.ev ?_
  cases fitsZ s.Kinds r
  · simp only [Bool.false_eq_true, if_false, Sum.elim_inr]; exact .pure _
  · simp only [if_true, Sum.elim_inl]; exact .pure _
theorem rRow_ev (s : Sorting) (r : List Value) (hs : okS s = true) (hl : r.length < 1000) : Ev (fun f => r_Row f s r) (fitsZ s.Kinds r) := by
  have hs8 : s.Kinds.length ≤ 8 := by simp only [okS, Bool.and_eq_true, decide_eq_true_eq] at hs; omega
  have mainV : EvL (fun f => r01_ValidRow_l1 f r) (0 : Int) (if r.all okV then .inl () else .inr false : Unit ⊕ Bool) := by
    refine EvL.count (A := fun k => (k : Int)) (out := fun k => (if (r.drop k).all okV then .inl () else .inr false : Unit ⊕ Bool)) r.length (fun k hk => ?_) ?_ 0 (by omega)
    · unfold r01_ValidRow_l1
      cases h2 : okV r[k]
      · refine .inr (.t (dlt hk) <| .some' (idx_at hk) <| .bind (.of fun n => rValue_eq n _) <| .t (by rw [h2]; rfl) ?_)
        rw [drop_at hk, List.all_cons, h2]
        simp only [Bool.false_and, Bool.false_eq_true, if_false]; exact .pure _
      · refine .inl ⟨.t (dlt hk) <| .some' (idx_at hk) <| .bind (.of fun n => rValue_eq n _) <| .f (by rw [h2]; rfl) ?_, by rw [drop_at hk, List.all_cons, h2, Bool.true_and]⟩
        rw [wsuc (by omega)]; exact .pure _
    · unfold r01_ValidRow_l1
      refine .f (dge (Nat.le_refl _)) ?_
      simp only [List.drop_length, List.all_nil, if_true]; exact .pure _
  have hV : Ev (fun f => r01_ValidRow f r) (r.all okV && decide (r.length ≤ 8)) := by
    unfold r01_ValidRow
    refine .bind mainV.ev ?_
    cases r.all okV
    · simp only [Bool.false_eq_true, if_false, Sum.elim_inr, Bool.false_and]; exact .pure _
    · simp only [if_true, Sum.elim_inl, Bool.true_and]
      exact .congr (fun _ => by rw [show decide ((r.length : Int) ≤ 8) = decide (r.length ≤ 8) by rw [decide_eq_decide]; omega]) (.pure _)
  have hall : fitsZ s.Kinds r = true → r.all okV = true := fun h => by
    rw [List.all_eq_true]
    intro x hx
    obtain ⟨i, hi, rfl⟩ := List.mem_iff_getElem.1 hx
    exact (fitsZ_at h i (by rw [fitsZ_len h]; exact hi) hi).2
  unfold r_Row
  refine .letJ <| .bind hV ?_
  by_cases hlen : r.length = s.Kinds.length
  case neg =>
    have : fitsZ s.Kinds r = false := by
      cases h : fitsZ s.Kinds r with
      | false => rfl
      | true => exact absurd (fitsZ_len h).symm hlen
    rw [this]
    refine .ite (fun _ => .t rfl (.pure _)) (fun _ => .t (by simp; omega) (.pure _))
  cases hv : r.all okV
  · have : fitsZ s.Kinds r = false := by
      cases h : fitsZ s.Kinds r with
      | false => rfl
      | true => rw [hall h] at hv; cases hv
    rw [this]
    exact .t rfl (.t rfl (.pure _))
  refine .f (by simp; omega) <| .f (by simp; omega) ?_
  have main : EvL (fun f => r_Row_l1 f s r) (0 : Int) (if fitsZ s.Kinds r then .inl () else .inr false : Unit ⊕ Bool) := by
    refine EvL.count (A := fun k => (k : Int)) (out := fun k => (if fitsZ (s.Kinds.drop k) (r.drop k) then .inl () else .inr false : Unit ⊕ Bool)) r.length (fun k hk => ?_) ?_ 0 (by omega)
    · unfold r_Row_l1
      have hk2 : k < s.Kinds.length := by omega
      have h2 : okV r[k] = true := List.all_eq_true.1 hv _ (List.getElem_mem hk)
      by_cases h1 : r[k].Kind = s.Kinds[k]
      · refine .inl ⟨.t (dlt hk) <| .some' (idx_at hk) <| .some' (idx_at hk2) <| .f (by simp [h1]) ?_, ?_⟩
        · rw [wsuc (by omega)]; exact .pure _
        · rw [drop_at hk, drop_at hk2, fitsZ, h2, h1, BEq.rfl, Bool.true_and, Bool.true_and]
      · refine .inr (.t (dlt hk) <| .some' (idx_at hk) <| .some' (idx_at hk2) <| .t (by simp [h1]) ?_)
        rw [drop_at hk, drop_at hk2, fitsZ, beq_eq_false_iff_ne.2 h1]
        simp only [Bool.false_and, Bool.false_eq_true, if_false]
        exact .pure _
    · unfold r_Row_l1
      refine .f (dge (Nat.le_refl _)) ?_
      rw [List.drop_length, hlen, List.drop_length]
      exact .pure _
  refine .bind main.ev ?_
  cases fitsZ s.Kinds r
  · simp only [Bool.false_eq_true, if_false, Sum.elim_inr]; exact .pure _
  · simp only [if_true, Sum.elim_inl]; exact .pure _
end Go.Sh
namespace Go.Sh
def sgn (x : Int) : Int := if x < 0 then -1 else if 0 < x then 1 else 0
theorem sign_eq (f : Nat) (x : Int) : r01_Sign f x = some (sgn x) := by
  unfold r01_Sign sgn
  by_cases h : x < 0
  · simp [h]
  · by_cases h2 : 0 < x <;> simp [h, h2]
theorem less_eq (f : Nat) (a b : Int) : r01_less f a b = some (sgn (a - b)) := by
  unfold r01_less sgn
  by_cases h : a < b
  · have : a - b < 0 := by omega
    simp [h, this]
  · by_cases h2 : b < a
    · have h3 : ¬ a - b < 0 := by omega
      have h4 : 0 < a - b := by omega
      simp [h, h2, h3, h4]
    · have h3 : ¬ a - b < 0 := by omega
      have h4 : ¬ 0 < a - b := by omega
      simp [h, h2, h3, h4]
def pre : List UInt8 → List UInt8 → Option Int
  | x :: xs, y :: ys => if x = y then pre xs ys else some (if x < y then -1 else 1)
  | _, _ => none
theorem cmp_pre : ∀ a b : List UInt8, Lib.compareBytes a b = (pre a b).getD (sgn ((a.length : Int) - b.length))
  | [], [] => rfl
  | [], y :: ys => by
    simp only [Lib.compareBytes, pre, Option.getD_none, sgn, List.length_nil, List.length_cons]
    rw [if_pos (by omega)]
  | x :: xs, [] => by
    simp only [Lib.compareBytes, pre, Option.getD_none, sgn, List.length_nil, List.length_cons]
    rw [if_neg (by omega), if_pos (by omega)]
  | x :: xs, y :: ys => by
    simp only [Lib.compareBytes, pre]
    by_cases h : x = y
    · subst h
      simp only [UInt8.lt_irrefl, if_false, if_true]
      rw [cmp_pre xs ys]
      congr 2
      simp only [List.length_cons]; omega
    · rw [if_neg h, Option.getD_some]
      by_cases h2 : x < y
      · simp [h2]
      · have : y < x := by
          rcases UInt8.lt_or_lt_of_ne h with h3 | h3
          · exact absurd h3 h2
          · exact h3
        simp [h2, this]
theorem texts_ev (a b : List UInt8) (ha : a.length < 1000) (hb : b.length < 1000) : Ev (fun f => r01_texts f a b) (Lib.compareBytes a b) := by
  have main : EvL (fun f => r01_texts_l1 f a b) (0 : Int) (match pre a b with | some c => .inr c | none => .inl () : Unit ⊕ Int) := by
    refine EvL.count (A := fun k => (k : Int)) (out := fun k => (match pre (a.drop k) (b.drop k) with | some c => .inr c | none => .inl () : Unit ⊕ Int)) (min a.length b.length) (fun k hk => ?_) ?_ 0 (by omega)
    · have h1 : k < a.length := by omega
      have h2 : k < b.length := by omega
      unfold r01_texts_l1
      by_cases he : a[k] = b[k]
      · refine .inl ⟨.letJ <| .t (dlt h1) <| .t (dlt h2) <| .some' (idx_at h1) <| .some' (idx_at h2) <| .f (by simp [he]) ?_, ?_⟩
        · rw [wsuc (by omega)]; exact .pure _
        · rw [drop_at h1, drop_at h2, pre, if_pos he]
      · have hne : a[k].toNat ≠ b[k].toNat := fun e => he (UInt8.toNat_inj.1 e)
        have b1 := a[k].toNat_lt
        have b2 := b[k].toNat_lt
        refine .inr (.letJ <| .t (dlt h1) <| .t (dlt h2) <| .some' (idx_at h1) <| .some' (idx_at h2) <| .t (by simp; omega) <| .some' (idx_at h1) <| .some' (idx_at h2) <| .bind (.of fun n => sign_eq n _) ?_)
        have e : sgn (IntKind.wrap .i64 ((IntKind.wrap .i64 (a[k].toNat : Int)) - (IntKind.wrap .i64 (b[k].toNat : Int)))) = if a[k] < b[k] then -1 else 1 := by
          rw [wrapI (x := (a[k].toNat : Int)) (by omega) (by omega), wrapI (x := (b[k].toNat : Int)) (by omega) (by omega), wrapI (by omega) (by omega), sgn]
          by_cases hl : a[k] < b[k]
          · have := UInt8.lt_iff_toNat_lt.1 hl
            rw [if_pos hl, if_pos (by omega)]
          · have : ¬ a[k].toNat < b[k].toNat := fun h => hl (UInt8.lt_iff_toNat_lt.2 h)
            rw [if_neg hl, if_neg (by omega), if_pos (by omega)]
        rw [e, drop_at h1, drop_at h2, pre, if_neg he]
        exact .pure _
    · unfold r01_texts_l1
      have hp : pre (a.drop (min a.length b.length)) (b.drop (min a.length b.length)) = none := by
        by_cases h : a.length ≤ b.length
        · rw [Nat.min_eq_left h, List.drop_length]; unfold pre; rfl
        · rw [Nat.min_eq_right (by omega), List.drop_length]; cases List.drop b.length a <;> rfl
      rw [hp]
      refine .letJ ?_
      by_cases h : a.length ≤ b.length
      · rw [Nat.min_eq_left h]
        exact .f (dge (Nat.le_refl _)) <| .f rfl (.pure _)
      · rw [Nat.min_eq_right (by omega)]
        exact .t (dlt (by omega)) <| .f (dge (Nat.le_refl _)) (.pure _)
  unfold r01_texts
  refine .bind main.ev ?_
  rw [cmp_pre]
  cases pre a b with
  | some c => exact .pure _
  | none =>
    refine .bind (.of fun n => sign_eq n _) ?_
    rw [wrapI (by omega) (by omega)]; exact .pure _
def cmpV (v w : Value) : Int := if v.Kind = 1 then v.N - w.N else Lib.compareBytes v.S w.S
def cmpD (d : Bool) (v w : Value) : Int := if d then cmpV w v else cmpV v w
def cmpR : List Bool → List Value → List Value → Int
  | d :: ds, v :: vs, w :: ws => if cmpD d v w = 0 then cmpR ds vs ws else cmpD d v w
  | _, _, _ => 0
theorem cmp_sgn (a b : List UInt8) : sgn (Lib.compareBytes a b) = Lib.compareBytes a b := by
  rw [cmp_pre]
  cases h : pre a b with
  | none => simp only [Option.getD_none, sgn]; split <;> (try split) <;> simp_all
  | some c =>
    have : ∀ a b : List UInt8, ∀ c, pre a b = some c → c = -1 ∨ c = 1 := by
      intro a
      induction a with
      | nil => intro b c h; simp [pre] at h
      | cons x xs ih =>
        intro b c h
        cases b with
        | nil => simp [pre] at h
        | cons y ys =>
          simp only [pre] at h
          split at h
          · exact ih _ _ h
          · split at h <;> cases h <;> simp
    rcases this a b c h with rfl | rfl <;> rfl
theorem cmp_neg : ∀ a b : List UInt8, Lib.compareBytes b a = - Lib.compareBytes a b
  | [], [] => rfl
  | [], y :: ys => rfl
  | x :: xs, [] => rfl
  | x :: xs, y :: ys => by
    simp only [Lib.compareBytes]
    by_cases h : x < y
    · have : ¬ y < x := fun h2 => UInt8.lt_irrefl _ (UInt8.lt_trans h h2)
      simp [h, this]
    · by_cases h2 : y < x
      · simp [h, h2]
      · simp [h, h2, cmp_neg xs ys]
theorem sgn_neg (x : Int) : sgn (-x) = - sgn x := by unfold sgn; split <;> split <;> (try split) <;> omega
theorem sgn_lt (x : Int) : (sgn x < 0) ↔ x < 0 := by unfold sgn; split <;> (try split) <;> omega
theorem sgn_zero (x : Int) : (sgn x = 0) ↔ x = 0 := by unfold sgn; split <;> (try split) <;> omega
theorem okV_kind {v : Value} (h : okV v = true) : (v.Kind = 1 ∧ -1000000000 ≤ v.N ∧ v.N ≤ 1000000000 ∧ v.S = []) ∨ (v.Kind = 2 ∧ v.N = 0 ∧ v.S.length ≤ 40) := by
  unfold okV at h
  split at h
  · rename_i h1
    simp only [Bool.and_eq_true, decide_eq_true_eq, beq_iff_eq] at h
    exact .inl ⟨h1, h.1.1, h.1.2, h.2⟩
  · split at h
    · rename_i h2
      simp only [Bool.and_eq_true, decide_eq_true_eq, beq_iff_eq] at h
      exact .inr ⟨h2, h.1, h.2⟩
    · cases h
theorem compare_ev {v w : Value} (hv : okV v = true) (hw : okV w = true) (hk : v.Kind = w.Kind) : Ev (fun f => r01_Compare f v w) (sgn (cmpV v w)) := by
  unfold r01_Compare
  refine .bind (.of fun n => less_eq n _ _) ?_
  have h0 : sgn (v.Kind - w.Kind) = 0 := by rw [hk, Int.sub_self]; rfl
  rw [h0]
  refine .f rfl <| .bind (.of fun n => less_eq n _ _) ?_
  rcases okV_kind hv with ⟨k1, n1, n2, s1⟩ | ⟨k1, n1, s1⟩ <;> rcases okV_kind hw with ⟨k2, m1, m2, s2⟩ | ⟨k2, m1, s2⟩
  · rw [cmpV, if_pos k1]
    by_cases hz : v.N - w.N = 0
    · rw [hz]
      refine .f rfl <| .bind (texts_ev _ _ (by rw [s1]; decide) (by rw [s2]; decide)) ?_
      rw [s1, s2]; exact .pure _
    · exact .t (by simp; rwa [sgn_zero]) (.pure _)
  · omega
  · omega
  · rw [cmpV, if_neg (by omega), n1, m1, cmp_sgn]
    exact .f rfl <| .bind (texts_ev _ _ (by omega) (by omega)) (.pure _)
theorem order_ev (s : Sorting) {a b : List Value} (hd : s.Down.length = s.Kinds.length) (ha : fitsZ s.Kinds a = true) (hb : fitsZ s.Kinds b = true) (hl : s.Kinds.length ≤ 8) :
    Ev (fun f => r_Order f s a b) (sgn (cmpR s.Down a b)) := by
  have la := fitsZ_len ha
  have lb := fitsZ_len hb
  have main : EvL (fun f => r_Order_l1 f s a b) (0 : Int) (if cmpR s.Down a b = 0 then .inl () else .inr (sgn (cmpR s.Down a b)) : Unit ⊕ Int) := by
    refine EvL.count (A := fun k => (k : Int)) (out := fun k => (if cmpR (s.Down.drop k) (a.drop k) (b.drop k) = 0 then .inl () else .inr (sgn (cmpR (s.Down.drop k) (a.drop k) (b.drop k))) : Unit ⊕ Int)) a.length (fun k hk => ?_) ?_ 0 (by omega)
    · have k1 : k < s.Kinds.length := by omega
      have k2 : k < b.length := by omega
      have k3 : k < s.Down.length := by omega
      obtain ⟨a1, a2⟩ := fitsZ_at ha k k1 hk
      obtain ⟨b1, b2⟩ := fitsZ_at hb k k1 k2
      have hc := compare_ev a2 b2 (a1.trans b1.symm)
      have hneg : cmpV b[k] a[k] = - cmpV a[k] b[k] := by
        unfold cmpV
        rw [a1, b1]
        split
        · omega
        · exact cmp_neg _ _
      have hs1 : -2 < sgn (cmpV a[k] b[k]) ∧ sgn (cmpV a[k] b[k]) < 2 := by unfold sgn; split <;> (try split) <;> omega
      unfold r_Order_l1
      rw [drop_at hk, drop_at k2, drop_at k3, cmpR]
      cases hdn : s.Down[k]
      · have ec : cmpD false a[k] b[k] = cmpV a[k] b[k] := rfl
        rw [ec]
        by_cases hz : cmpV a[k] b[k] = 0
        · refine .inl ⟨.t (dlt hk) <| .some' (idx_at hk) <| .some' (idx_at k2) <| .bind hc <| .some' (idx_at k3) <| .f hdn <| .f (by rw [hz]; rfl) ?_, by rw [if_pos hz]⟩
          rw [wsuc (by omega)]; exact .pure _
        · refine .inr (.t (dlt hk) <| .some' (idx_at hk) <| .some' (idx_at k2) <| .bind hc <| .some' (idx_at k3) <| .f hdn <| .t (by simp; rwa [sgn_zero]) ?_)
          rw [if_neg hz, if_neg hz]; exact .pure _
      · have ec : cmpD true a[k] b[k] = - cmpV a[k] b[k] := hneg
        rw [ec]
        by_cases hz : cmpV a[k] b[k] = 0
        · refine .inl ⟨.t (dlt hk) <| .some' (idx_at hk) <| .some' (idx_at k2) <| .bind hc <| .some' (idx_at k3) <| .t hdn <| .f (by rw [hz]; rfl) ?_, by rw [hz, Int.neg_zero, if_pos rfl]⟩
          rw [wsuc (by omega)]; exact .pure _
        · refine .inr (.t (dlt hk) <| .some' (idx_at hk) <| .some' (idx_at k2) <| .bind hc <| .some' (idx_at k3) <| .t hdn <| .t ?_ ?_)
          · rw [wrapI (by omega) (by omega)]; simp; rwa [sgn_zero]
          · have hz2 : ¬ - cmpV a[k] b[k] = 0 := by omega
            rw [wrapI (by omega) (by omega), if_neg hz2, if_neg hz2, sgn_neg, Int.zero_sub]; exact .pure _
    · unfold r_Order_l1
      refine .f (dge (Nat.le_refl _)) ?_
      rw [List.drop_length]
      have : cmpR (s.Down.drop a.length) [] (b.drop a.length) = 0 := by cases List.drop a.length s.Down <;> rfl
      rw [this]; exact .pure _
  unfold r_Order
  refine .bind main.ev ?_
  by_cases h : cmpR s.Down a b = 0
  · rw [if_pos h, h]; exact .pure _
  · rw [if_neg h]; exact .pure _
end Go.Sh
namespace Go.Sh
theorem blt_trans : ∀ {a b c : List UInt8}, Op.bytesLess a b = true → Op.bytesLess b c = true → Op.bytesLess a c = true
  | _, [], _, h, _ => by cases ‹List UInt8› <;> simp [Op.bytesLess] at h
  | _, _ :: _, [], _, h => by simp [Op.bytesLess] at h
  | [], _ :: _, _ :: _, _, _ => rfl
  | a :: x, b :: y, c :: z, h1, h2 => by
    simp only [Op.bytesLess, Bool.or_eq_true, decide_eq_true_eq, Bool.and_eq_true, beq_iff_eq] at *
    rcases h1 with h1 | ⟨rfl, h1⟩ <;> rcases h2 with h2 | ⟨rfl, h2⟩
    · exact .inl (UInt8.lt_trans h1 h2)
    · exact .inl h1
    · exact .inl h2
    · exact .inr ⟨rfl, blt_trans h1 h2⟩
theorem cmp_lt : ∀ a b : List UInt8, decide (Lib.compareBytes a b < 0) = Op.bytesLess a b
  | [], [] => rfl
  | [], _ :: _ => rfl
  | _ :: _, [] => rfl
  | a :: x, b :: y => by
    simp only [Lib.compareBytes, Op.bytesLess]
    by_cases h : a < b
    · simp [h]
    · by_cases h2 : b < a
      · have hne : a ≠ b := fun e => by subst e; exact h h2
        simp [h, h2, hne]
      · have : a = b := by
          rcases Classical.em (a = b) with e | e
          · exact e
          · rcases UInt8.lt_or_lt_of_ne e with h3 | h3
            · exact absurd h3 h
            · exact absurd h3 h2
        subst this
        simp [h, cmp_lt x y]
theorem cmp_zero : ∀ a b : List UInt8, (Lib.compareBytes a b == 0) = (a == b)
  | [], [] => rfl
  | [], _ :: _ => rfl
  | _ :: _, [] => rfl
  | a :: x, b :: y => by
    simp only [Lib.compareBytes]
    by_cases h : a < b
    · have hne : a ≠ b := fun e => by subst e; simp at h
      simp [h, hne]
    · by_cases h2 : b < a
      · have hne : a ≠ b := fun e => by subst e; simp at h2
        simp [h, h2, hne]
      · have : a = b := by
          rcases Classical.em (a = b) with e | e
          · exact e
          · rcases UInt8.lt_or_lt_of_ne e with h3 | h3
            · exact absurd h3 h
            · exact absurd h3 h2
        subst this
        simp only [h, if_false, cmp_zero x y, List.cons_beq_cons, BEq.rfl, Bool.true_and]
theorem tRows_ev (s : Sorting) {a b : List Value} (hd : s.Down.length = s.Kinds.length) (ha : fitsZ s.Kinds a = true) (hb : fitsZ s.Kinds b = true) (hl : s.Kinds.length ≤ 8) :
    Ev (fun f => t_rows f s a b) (cmpR s.Down a b) := by
  have la := fitsZ_len ha
  have lb := fitsZ_len hb
  have main : EvL (fun f => t_rows_l1 f s a b) (0 : Int) (if cmpR s.Down a b = 0 then .inl () else .inr (cmpR s.Down a b) : Unit ⊕ Int) := by
    refine EvL.count (A := fun k => (k : Int)) (out := fun k => (if cmpR (s.Down.drop k) (a.drop k) (b.drop k) = 0 then .inl () else .inr (cmpR (s.Down.drop k) (a.drop k) (b.drop k)) : Unit ⊕ Int)) s.Kinds.length (fun k hk => ?_) ?_ 0 (by omega)
    · have k1 : k < a.length := by omega
      have k2 : k < b.length := by omega
      have k3 : k < s.Down.length := by omega
      obtain ⟨a1, a2⟩ := fitsZ_at ha k hk k1
      obtain ⟨b1, b2⟩ := fitsZ_at hb k hk k2
      -- what the chosen comparison tells
      have key : ∀ (c : Int) (g : Nat → Option Int), (∀ f, g f = some c) → c = cmpD s.Down[k] a[k] b[k] →
          (Ev (fun f => (g f).bind fun r => bif (r != 0) then some (.inr (.inr r)) else some (.inl (IntKind.wrap .i64 ((k : Int) + 1)))) (.inl (((k + 1 : Nat) : Int)) : Int ⊕ (Unit ⊕ Int)) ∧
            (if cmpR (s.Down.drop (k + 1)) (a.drop (k + 1)) (b.drop (k + 1)) = 0 then .inl () else .inr (cmpR (s.Down.drop (k + 1)) (a.drop (k + 1)) (b.drop (k + 1))) : Unit ⊕ Int) = (if cmpR (s.Down.drop k) (a.drop k) (b.drop k) = 0 then .inl () else .inr (cmpR (s.Down.drop k) (a.drop k) (b.drop k)))) ∨
          Ev (fun f => (g f).bind fun r => bif (r != 0) then some (.inr (.inr r)) else some (.inl (IntKind.wrap .i64 ((k : Int) + 1)))) (.inr (if cmpR (s.Down.drop k) (a.drop k) (b.drop k) = 0 then .inl () else .inr (cmpR (s.Down.drop k) (a.drop k) (b.drop k))) : Int ⊕ (Unit ⊕ Int)) := by
        intro c g hg hc
        rw [drop_at k1, drop_at k2, drop_at k3, cmpR, ← hc]
        by_cases hz : c = 0
        · refine .inl ⟨.bind (.of hg) <| .f (by simp [hz]) ?_, by rw [if_pos hz]⟩
          rw [wsuc (by omega)]; exact .pure _
        · refine .inr (.bind (.of hg) <| .t (by simp [hz]) ?_)
          rw [if_neg hz, if_neg hz]; exact .pure _
      have hw : ∀ x y : Value, okV x = true → okV y = true → IntKind.wrap .i64 (x.N - y.N) = x.N - y.N := by
        intro x y hx hy
        rcases okV_kind hx with ⟨_, n1, n2, _⟩ | ⟨_, n1, _⟩ <;> rcases okV_kind hy with ⟨_, m1, m2, _⟩ | ⟨_, m1, _⟩ <;> exact wrapI (by omega) (by omega)
      have hk12 : s.Kinds[k] = 1 ∨ s.Kinds[k] = 2 := by
        rcases okV_kind a2 with h | h
        · exact .inl (by rw [← a1]; exact h.1)
        · exact .inr (by rw [← a1]; exact h.1)
      unfold t_rows_l1
      rcases hk12 with h1 | h1 <;> cases hdn : s.Down[k]
      · have := key _ (fun f => t_comparisons_1 f a[k] b[k]) (fun f => rfl) (by rw [hdn, hw _ _ a2 b2]; simp only [cmpD, cmpV, Bool.false_eq_true, if_false]; rw [if_pos (by omega)])
        refine this.imp (fun ⟨h, e⟩ => ⟨.t (dlt hk) <| .some' (idx_at hk) <| .letJ <| .some' (idx_at k3) <| .f hdn <| .t ?_ <| .some' (idx_at k1) <| .some' (idx_at k2) h, e⟩) (fun h => .t (dlt hk) <| .some' (idx_at hk) <| .letJ <| .some' (idx_at k3) <| .f hdn <| .t ?_ <| .some' (idx_at k1) <| .some' (idx_at k2) h) <;> rw [h1] <;> rfl
      · have := key _ (fun f => t_comparisons_2 f a[k] b[k]) (fun f => rfl) (by rw [hdn, hw _ _ b2 a2]; simp only [cmpD, cmpV, if_true]; rw [if_pos (by omega)])
        refine this.imp (fun ⟨h, e⟩ => ⟨.t (dlt hk) <| .some' (idx_at hk) <| .letJ <| .some' (idx_at k3) <| .t hdn <| .f ?_ <| .t ?_ <| .some' (idx_at k1) <| .some' (idx_at k2) h, e⟩) (fun h => .t (dlt hk) <| .some' (idx_at hk) <| .letJ <| .some' (idx_at k3) <| .t hdn <| .f ?_ <| .t ?_ <| .some' (idx_at k1) <| .some' (idx_at k2) h) <;> rw [h1] <;> rfl
      · have := key _ (fun f => t_comparisons_3 f a[k] b[k]) (fun f => rfl) (by rw [hdn]; simp only [cmpD, cmpV, Bool.false_eq_true, if_false]; rw [if_neg (by omega)])
        refine this.imp (fun ⟨h, e⟩ => ⟨.t (dlt hk) <| .some' (idx_at hk) <| .letJ <| .some' (idx_at k3) <| .f hdn <| .f ?_ <| .f ?_ <| .t ?_ <| .some' (idx_at k1) <| .some' (idx_at k2) h, e⟩) (fun h => .t (dlt hk) <| .some' (idx_at hk) <| .letJ <| .some' (idx_at k3) <| .f hdn <| .f ?_ <| .f ?_ <| .t ?_ <| .some' (idx_at k1) <| .some' (idx_at k2) h) <;> rw [h1] <;> rfl
      · have := key _ (fun f => t_comparisons_4 f a[k] b[k]) (fun f => rfl) (by rw [hdn]; simp only [cmpD, cmpV, if_true]; rw [if_neg (by omega)])
        refine this.imp (fun ⟨h, e⟩ => ⟨.t (dlt hk) <| .some' (idx_at hk) <| .letJ <| .some' (idx_at k3) <| .t hdn <| .f ?_ <| .f ?_ <| .f ?_ <| .t ?_ <| .some' (idx_at k1) <| .some' (idx_at k2) h, e⟩) (fun h => .t (dlt hk) <| .some' (idx_at hk) <| .letJ <| .some' (idx_at k3) <| .t hdn <| .f ?_ <| .f ?_ <| .f ?_ <| .t ?_ <| .some' (idx_at k1) <| .some' (idx_at k2) h) <;> rw [h1] <;> rfl
    · unfold t_rows_l1
      refine .f (dge (Nat.le_refl _)) ?_
      have : cmpR (s.Down.drop s.Kinds.length) (a.drop s.Kinds.length) (b.drop s.Kinds.length) = 0 := by rw [← hd, List.drop_length]; rfl
      rw [this]; exact .pure _
  unfold t_rows
  refine .bind (.of fun _ => rfl) <| .bind main.ev ?_
  by_cases h : cmpR s.Down a b = 0
  · rw [if_pos h, h]; exact .pure _
  · rw [if_neg h]; exact .pure _
def i64 (x : Int) : Prop := -9223372036854775808 ≤ x ∧ x < 9223372036854775808
def cmpE (s : Sorting) (a b : Entry) : Int := if cmpR s.Down a.Row b.Row = 0 then (if s.Dup = 2 then b.Number - a.Number else a.Number - b.Number) else cmpR s.Down a.Row b.Row
def okE (s : Sorting) (a : Entry) : Bool := fitsZ s.Kinds a.Row && (decide (1 ≤ a.Key) && decide (a.Key ≤ 1000000)) && decide (1 ≤ a.Number)
theorem okS_inv {s : Sorting} (h : okS s = true) : s.Kinds.length ≤ 8 ∧ s.Down.length = s.Kinds.length := by
  simp only [okS, Bool.and_eq_true, decide_eq_true_eq, beq_iff_eq] at h
  exact ⟨h.1.1.1.1.2, h.1.1.1.2⟩
theorem tCompare_ev {s : Sorting} {a b : Entry} (hs : okS s = true) (ha : fitsZ s.Kinds a.Row = true) (hb : fitsZ s.Kinds b.Row = true) (na : 1 ≤ a.Number ∧ i64 a.Number) (nb : 1 ≤ b.Number ∧ i64 b.Number) :
    Ev (fun f => t_compare f s a b) (cmpE s a b) := by
  obtain ⟨h8, hd⟩ := okS_inv hs
  unfold t_compare cmpE
  refine .bind (tRows_ev s hd ha hb h8) ?_
  unfold i64 at na nb
  by_cases hz : cmpR s.Down a.Row b.Row = 0
  · rw [if_pos hz]
    refine .f (by simp [hz]) ?_
    by_cases h2 : s.Dup = 2
    · rw [if_pos h2]; refine .t (by simp [h2]) ?_; rw [wrapI (by omega) (by omega)]; exact .pure _
    · rw [if_neg h2]; refine .f (by simp [h2]) ?_; rw [wrapI (by omega) (by omega)]; exact .pure _
  · rw [if_neg hz]
    exact .t (by simp [hz]) (.pure _)
theorem rBefore_ev {s : Sorting} {a b : Entry} (hs : okS s = true) (ha : fitsZ s.Kinds a.Row = true) (hb : fitsZ s.Kinds b.Row = true) :
    Ev (fun f => r_Before f s a b) (decide (cmpE s a b < 0)) := by
  obtain ⟨h8, hd⟩ := okS_inv hs
  unfold r_Before cmpE
  refine .bind (order_ev s hd ha hb h8) ?_
  by_cases hz : cmpR s.Down a.Row b.Row = 0
  · rw [if_pos hz, hz]
    refine .f rfl ?_
    by_cases h2 : s.Dup = 2
    · rw [if_pos h2]; refine .t (by simp [h2]) ?_
      rw [show decide (a.Number > b.Number) = decide (b.Number - a.Number < 0) by rw [decide_eq_decide]; omega]; exact .pure _
    · rw [if_neg h2]; refine .f (by simp [h2]) ?_
      rw [show decide (a.Number < b.Number) = decide (a.Number - b.Number < 0) by rw [decide_eq_decide]; omega]; exact .pure _
  · rw [if_neg hz]
    refine .t (by simp; rwa [sgn_zero]) ?_
    rw [show decide (sgn (cmpR s.Down a.Row b.Row) < 0) = decide (cmpR s.Down a.Row b.Row < 0) by rw [decide_eq_decide, sgn_lt]]; exact .pure _
def lessE (s : Sorting) (a b : Entry) : Bool × Int := if okS s && okE s a && okE s b then (decide (cmpE s a b < 0), 0) else (false, 1)
theorem key_eq (f : Nat) (k : Int) : t_key f k = some (decide (1 ≤ k) && decide (k ≤ 1000000)) := rfl
theorem rkey_eq (f : Nat) (k : Int) : r_key f k = some (decide (1 ≤ k) && decide (k ≤ 1000000)) := rfl
theorem tLess_ev {s : Sorting} {a b : Entry} (la : a.Row.length < 1000) (lb : b.Row.length < 1000) (na : i64 a.Number) (nb : i64 b.Number) : Ev (fun f => t_Less f s a b) (lessE s a b) := by
  unfold t_Less lessE
  refine .bind (tValid_ev s) ?_
  cases hs : okS s
  · exact .t rfl (.pure _)
  refine .f rfl <| .bind (fits_ev s a.Row la) ?_
  unfold okE
  cases ha : fitsZ s.Kinds a.Row
  · exact .t rfl (.pure _)
  refine .f rfl <| .bind (fits_ev s b.Row lb) ?_
  cases hb : fitsZ s.Kinds b.Row
  · refine .t rfl ?_; simp only [Bool.false_and, Bool.and_false, Bool.false_eq_true, if_false]; exact .pure _
  refine .f rfl <| .bind (.of fun n => key_eq n _) ?_
  cases ka : decide (1 ≤ a.Key) && decide (a.Key ≤ 1000000)
  · refine .t rfl ?_; simp only [Bool.false_and, Bool.and_false, Bool.false_eq_true, if_false]; exact .pure _
  refine .f rfl <| .bind (.of fun n => key_eq n _) ?_
  cases kb : decide (1 ≤ b.Key) && decide (b.Key ≤ 1000000)
  · refine .t rfl ?_; simp only [Bool.false_and, Bool.and_false, Bool.false_eq_true, if_false]; exact .pure _
  by_cases h1 : 1 ≤ a.Number
  case neg => refine .t (by simp; omega) ?_; rw [decide_eq_false h1]; simp only [Bool.false_and, Bool.and_false, Bool.false_eq_true, if_false]; exact .pure _
  by_cases h2 : 1 ≤ b.Number
  case neg => refine .t (by simp; omega) ?_; rw [decide_eq_false h2]; simp only [Bool.false_and, Bool.and_false, Bool.false_eq_true, if_false]; exact .pure _
  refine .f (by simp; omega) <| .bind (tCompare_ev hs ha hb ⟨h1, na⟩ ⟨h2, nb⟩) ?_
  rw [decide_eq_true h1, decide_eq_true h2]
  exact .pure _
theorem rEntry_ev {s : Sorting} {a : Entry} (hs : okS s = true) (la : a.Row.length < 1000) : Ev (fun f => r_entry f s a) (okE s a) := by
  unfold r_entry okE
  refine .bind (rRow_ev s a.Row hs la) ?_
  cases fitsZ s.Kinds a.Row
  · exact .f rfl (.pure _)
  · exact .t rfl <| .bind (.of fun n => rkey_eq n _) (.pure _)
theorem rLess_ev {s : Sorting} {a b : Entry} (ls : s.Kinds.length < 1000) (la : a.Row.length < 1000) (lb : b.Row.length < 1000) : Ev (fun f => r_Less f s a b) (lessE s a b) := by
  unfold r_Less lessE
  refine .bind (rValid_ev s ls) ?_
  cases hs : okS s
  · exact .t rfl (.pure _)
  refine .f rfl <| .bind (rEntry_ev hs la) ?_
  cases ha : okE s a
  · exact .t rfl (.pure _)
  refine .f rfl <| .bind (rEntry_ev hs lb) ?_
  cases hb : okE s b
  · exact .t rfl (.pure _)
  simp only [okE, Bool.and_eq_true] at ha hb
  exact .f rfl <| .bind (rBefore_ev hs ha.1.1 hb.1.1) (.pure _)
def Ord3 (x y z : Int) : Prop := x ≤ 0 → y ≤ 0 → z ≤ 0 ∧ (z = 0 → x = 0 ∧ y = 0)
theorem ord_bytes (a b c : List UInt8) : Ord3 (Lib.compareBytes a b) (Lib.compareBytes b c) (Lib.compareBytes a c) := by
  have hl : ∀ a b, Lib.compareBytes a b < 0 ↔ Op.bytesLess a b = true := fun a b => by rw [← cmp_lt, decide_eq_true_eq]
  have hz : ∀ a b, Lib.compareBytes a b = 0 ↔ a = b := fun a b => by have := cmp_zero a b; rw [Bool.eq_iff_iff, beq_iff_eq, beq_iff_eq] at this; exact this
  intro h1 h2
  rcases Int.lt_or_eq_of_le h1 with h1 | h1 <;> rcases Int.lt_or_eq_of_le h2 with h2 | h2
  · have := (hl a c).2 (blt_trans ((hl a b).1 h1) ((hl b c).1 h2))
    omega
  · have := (hz b c).1 h2; subst this; omega
  · have := (hz a b).1 h1; subst this; omega
  · have := (hz b c).1 h2; subst this; omega
theorem ord_V {k : Int} {u v w : Value} (h1 : u.Kind = k) (h2 : v.Kind = k) (h3 : w.Kind = k) : Ord3 (cmpV u v) (cmpV v w) (cmpV u w) := by
  unfold cmpV
  rw [h1, h2]
  split
  · unfold Ord3; omega
  · exact ord_bytes _ _ _
theorem ord_R : ∀ (ds : List Bool) {ks : List Int} {u v w : List Value}, fitsZ ks u = true → fitsZ ks v = true → fitsZ ks w = true → Ord3 (cmpR ds u v) (cmpR ds v w) (cmpR ds u w)
  | [], ks, u, v, w, _, _, _ => by simp [cmpR, Ord3]
  | d :: ds, [], [], [], [], _, _, _ => by simp [cmpR, Ord3]
  | d :: ds, k :: ks, x :: u, y :: v, z :: w, h1, h2, h3 => by
    simp only [fitsZ, Bool.and_eq_true, beq_iff_eq] at h1 h2 h3
    have ih := ord_R ds h1.2 h2.2 h3.2
    have hv : Ord3 (cmpD d x y) (cmpD d y z) (cmpD d x z) := by
      cases d
      · exact ord_V h1.1.1 h2.1.1 h3.1.1
      · have := ord_V h3.1.1 h2.1.1 h1.1.1
        intro p q
        obtain ⟨r1, r2⟩ := this q p
        exact ⟨r1, fun e => (r2 e).symm⟩
    simp only [cmpR]
    unfold Ord3 at *
    intro p q
    split at p <;> split at q <;> split <;> omega
theorem neg_R : ∀ (ds : List Bool) {ks : List Int} {u v : List Value}, fitsZ ks u = true → fitsZ ks v = true → cmpR ds v u = - cmpR ds u v
  | [], ks, u, v, _, _ => rfl
  | d :: ds, [], [], [], _, _ => rfl
  | d :: ds, k :: ks, x :: u, y :: v, h1, h2 => by
    simp only [fitsZ, Bool.and_eq_true, beq_iff_eq] at h1 h2
    have ih := neg_R ds h1.2 h2.2
    have hv : cmpV y x = - cmpV x y := by
      unfold cmpV
      rw [h1.1.1, h2.1.1]
      split
      · omega
      · exact cmp_neg _ _
    have hd : cmpD d y x = - cmpD d x y := by
      cases d
      · exact hv
      · show cmpV x y = - cmpV y x
        omega
    simp only [cmpR]
    split <;> split <;> omega
theorem less_asym {s : Sorting} {a b : Entry} (ha : fitsZ s.Kinds a.Row = true) (hb : fitsZ s.Kinds b.Row = true) : cmpE s b a = - cmpE s a b := by
  have := neg_R s.Down ha hb
  unfold cmpE
  split <;> split <;> (try split) <;> omega
theorem less_trans {s : Sorting} {a b c : Entry} (ha : fitsZ s.Kinds a.Row = true) (hb : fitsZ s.Kinds b.Row = true) (hc : fitsZ s.Kinds c.Row = true) (h1 : cmpE s a b < 0) (h2 : cmpE s b c < 0) : cmpE s a c < 0 := by
  have := ord_R s.Down ha hb hc
  unfold Ord3 at this
  unfold cmpE at *
  split at h1 <;> split at h2 <;> split <;> (try split at h1) <;> (try split at h2) <;> (try split) <;> omega
end Go.Sh
namespace Go.Sh
set_option maxRecDepth 100000
theorem awake_ev : Ev (fun f => l_awake f) true := ⟨40, fun n hn => by
  obtain ⟨m, rfl⟩ := Nat.exists_eq_add_of_le' hn
  kernel_rfl⟩
end Go.Sh
namespace Go.Sh
set_option maxRecDepth 100000
theorem acts0_ev (s : Sorting) : Ev (fun f => l_Acts f s []) (decide (s.Kinds.length ≤ 20) && decide (s.Down.length ≤ 20)) := by
  unfold l_Acts
  refine .bind (a := (Sum.inl () : Unit ⊕ Bool)) (EvL.ev (EvL.stop ?_)) ?_
  · unfold l_Acts_l1
    exact .f rfl (.pure _)
  · cases h : decide (s.Kinds.length ≤ 20) with
    | false =>
      refine .f ?_ (.pure _)
      simp only [decide_eq_false_iff_not] at h ⊢
      omega
    | true =>
      refine .t ?_ (.of fun n => ?_)
      · simp only [decide_eq_true_eq] at h ⊢
        omega
      · simp only [Bool.true_and]
        congr 1
        exact decide_eq_decide.2 (by omega)
theorem lessE_ok {s : Sorting} {a b : Entry} (h : (lessE s a b).2 = 0) : okS s = true ∧ okE s a = true ∧ okE s b = true ∧ (lessE s a b).1 = decide (cmpE s a b < 0) := by
  unfold lessE at h ⊢
  split
  · rename_i hc
    simp only [Bool.and_eq_true] at hc
    exact ⟨hc.1.1, hc.1.2, hc.2, rfl⟩
  · rename_i hc
    rw [if_neg hc] at h
    cases h
theorem okE_fits {s : Sorting} {a : Entry} (h : okE s a = true) : fitsZ s.Kinds a.Row = true := by
  unfold okE at h
  simp only [Bool.and_eq_true] at h
  exact h.1.1
theorem treeLess_ev (s : Sorting) (a b c : Entry) (na : i64 a.Number) (nb : i64 b.Number) (nc : i64 c.Number) : Ev (fun f => l_TreeLess f s a b c) true := by
  have hw : ∀ {r : Bool}, r = true → Ev (fun f => (l_awake f).bind fun r5 => some r5) r := fun h => h ▸ .bind awake_ev (.pure _)
  unfold l_TreeLess
  refine .letJ <| .bind (acts0_ev s) ?_
  cases hA : (decide (s.Kinds.length ≤ 20) && decide (s.Down.length ≤ 20)) with
  | false => exact .t rfl <| .t rfl (hw rfl)
  | true =>
    refine .f rfl <| .bind (rows_ev _ (by simp)) ?_
    cases hB : [a.Row, b.Row, c.Row].all smallR with
    | false => exact .t rfl (hw rfl)
    | true =>
      simp only [List.all_cons, List.all_nil, Bool.and_true, Bool.and_eq_true, smallR, decide_eq_true_eq] at hB hA
      have la : a.Row.length < 1000 := by have := hB.1.1; omega
      have lb : b.Row.length < 1000 := by have := hB.2.1.1; omega
      have lc : c.Row.length < 1000 := by have := hB.2.2.1; omega
      have ls : s.Kinds.length < 1000 := by have := hA.1; omega
      refine .f rfl <| .bind (tLess_ev la lb na nb) <| .bind (rLess_ev ls la lb) <| .letJ <| .f (by simp) <| .bind (tValid_ev s) <| .bind (rValid_ev s ls) <| .f (by simp) <|
        .bind (tLess_ev lb la nb na) <| .bind (tLess_ev lb lc nb nc) <| .bind (tLess_ev la lc na nc) ?_
      cases h1 : (((lessE s a b).2 != 0) || ((lessE s b c).2 != 0)) || ((lessE s a c).2 != 0) with
      | true => exact .t rfl (hw rfl)
      | false =>
        refine .f rfl ?_
        simp only [Bool.or_eq_false_iff, bne_eq_false_iff_eq] at h1
        obtain ⟨o1, o2, o3, e1⟩ := lessE_ok h1.1.1
        obtain ⟨_, _, o4, e2⟩ := lessE_ok h1.1.2
        obtain ⟨_, _, _, e3⟩ := lessE_ok h1.2
        have eb : (lessE s b a).1 = decide (cmpE s b a < 0) := by unfold lessE; rw [o1, o2, o3]; rfl
        have fa := okE_fits o2
        have fb := okE_fits o3
        have fc := okE_fits o4
        rw [e1, e2, e3, eb, less_asym fa fb]
        refine .t (by simp; omega) ?_
        cases h2 : decide (cmpE s a b < 0) with
        | false => exact .t rfl (hw rfl)
        | true =>
          refine .f rfl ?_
          cases h3 : decide (cmpE s b c < 0) with
          | false => exact .t rfl (hw rfl)
          | true =>
            refine .f rfl <| .t ?_ (hw rfl)
            have := less_trans fa fb fc (of_decide_eq_true h2) (of_decide_eq_true h3)
            simpa using this
end Go.Sh
