/- Plain laws: what the functions tell. -/
import Derived.Test.YtmhiemakdfkmeaaF3
set_option linter.all false
set_option autoImplicit true
set_option relaxedAutoImplicit true
namespace Go.Sh
def Ev {α : Type} (f : Nat → Option α) (r : α) : Prop := ∃ N, ∀ n, N ≤ n → f n = some r
theorem Ev.of {α : Type} {f : Nat → Option α} {r : α} (h : ∀ n, f n = some r) : Ev f r := ⟨0, fun n _ => h n⟩
theorem Ev.pure {α : Type} (r : α) : Ev (fun _ => some r) r := .of fun _ => rfl
theorem Ev.bind {α β : Type} {f : Nat → Option α} {g : Nat → α → Option β} {a : α} {r : β} (h1 : Ev f a) (h2 : Ev (fun n => g n a) r) : Ev (fun n => (f n).bind (g n)) r := by
 obtain ⟨N, hN⟩ := h1
 obtain ⟨M, hM⟩ := h2
 refine ⟨max N M, fun n hn => ?_⟩
 show (f n).bind (g n) = some r
 rw [hN n (by omega)]
 exact hM n (by omega)
theorem Ev.congr {α : Type} {f g : Nat → Option α} {r : α} (h : ∀ n, f n = g n) (h1 : Ev g r) : Ev f r := by
 obtain ⟨N, hN⟩ := h1
 exact ⟨N, fun n hn => (h n).trans (hN n hn)⟩
theorem Ev.t {α : Type} {c : Bool} {f g : Nat → Option α} {r : α} (hc : c = true) (h : Ev f r) : Ev (fun n => bif c then f n else g n) r := by subst hc; exact h
theorem Ev.f {α : Type} {c : Bool} {f g : Nat → Option α} {r : α} (hc : c = false) (h : Ev g r) : Ev (fun n => bif c then f n else g n) r := by subst hc; exact h
theorem Ev.ite {α : Type} {c : Bool} {f g : Nat → Option α} {r : α} (h1 : c = true → Ev f r) (h2 : c = false → Ev g r) : Ev (fun n => bif c then f n else g n) r := by
 cases c
 ·exact h2 rfl
 ·exact h1 rfl
theorem Ev.chk {α : Type} {c : Bool} {f : Nat → Option α} {r : α} (hc : c = true) (h : Ev f r) : Ev (fun n => Go.Sh.chk c (f n)) r := by subst hc; exact h
theorem Ev.aX {α β : Type} {b : Nat → α → Option β} {a : Nat → (α → Option β) → Option β} {r : β} (h : Ev (fun n => a n (b n)) r) : Ev (fun n => Go.Sh.aX (b n) (a n)) r := h
theorem Ev.ae {α β : Type} {x : Option α} {a : α} {g : Nat → α → Option β} {r : β} (hx : x = some a) (h : Ev (fun n => g n a) r) : Ev (fun n => x.bind (g n)) r := by subst hx; exact h
def EvL {γ β : Type} (step : Nat → γ → Option (γ ⊕ β)) (x : γ) (out : β) : Prop := ∃ N, ∀ F n, N ≤ F → N ≤ n → Go.Sh.iter (step F) n x = some out
theorem EvL.next {γ β : Type} {step : Nat → γ → Option (γ ⊕ β)} {x y : γ} {out : β} (h1 : Ev (fun n => step n x) (.inl y)) (h2 : EvL step y out) : EvL step x out := by
 obtain ⟨N, hN⟩ := h1
 obtain ⟨M, hM⟩ := h2
 refine ⟨max N M + 1, fun F n hF hn => ?_⟩
 obtain ⟨n, rfl⟩ : ∃ n', n = n' + 1 := ⟨n - 1, by omega⟩
 have := hN F (by omega)
 simp only at this
 simp only [Go.Sh.iter, this]
 exact hM F n (by omega) (by omega)
theorem EvL.stop {γ β : Type} {step : Nat → γ → Option (γ ⊕ β)} {x : γ} {out : β} (h1 : Ev (fun n => step n x) (.inr out)) : EvL step x out := by
 obtain ⟨N, hN⟩ := h1
 refine ⟨N + 1, fun F n hF hn => ?_⟩
 obtain ⟨n, rfl⟩ : ∃ n', n = n' + 1 := ⟨n - 1, by omega⟩
 have := hN F (by omega)
 simp only at this
 simp only [Go.Sh.iter, this]
theorem EvL.ev {γ β : Type} {step : Nat → γ → Option (γ ⊕ β)} {x : γ} {out : β} (h : EvL step x out) : Ev (fun n => Go.Sh.iter (step n) n x) out := by
 obtain ⟨N, hN⟩ := h
 exact ⟨N, fun n hn => hN n n hn hn⟩
theorem EvL.count {γ β : Type} {step : Nat → γ → Option (γ ⊕ β)} (A : Nat → γ) (out : Nat → β) (len : Nat)
  (hs : ∀ k, k < len → (Ev (fun n => step n (A k)) (.inl (A (k + 1))) ∧ out (k + 1) = out k) ∨ Ev (fun n => step n (A k)) (.inr (out k)))
  (he : Ev (fun n => step n (A len)) (.inr (out len))) (k : Nat) (hk : k ≤ len) : EvL step (A k) (out k) := by
 obtain ⟨d, rfl⟩ : ∃ d, len = k + d := ⟨len - k, by omega⟩
 induction d generalizing k with
 | zero => exact .stop he
 | succ d ih =>
  rcases hs k (by omega) with ⟨h1, h2⟩ | h1
  ·rw [← h2]
   have e : k + (d + 1) = (k + 1) + d := by omega
   rw [e] at hs he
   exact .next h1 (ih (k + 1) hs he (by omega))
  ·exact .stop h1
theorem gp {α : Type} {l : List α} {k : Nat} {x : α} (h : l[k]? = some x) : idx l (k : Int) = some x := by
 unfold idx; rw [if_pos (by omega)]; simpa using h
theorem cO {x : Int} (h0 : -9223372036854775808 ≤ x) (h1 : x < 9223372036854775808) : IntKind.wrap .i64 x = x := by
 unfold IntKind.wrap
 simp [IntKind.bits, IntKind.signed]
 omega
end Go.Sh
namespace Go.Sh
theorem dlt {a b : Nat} (h : a < b) : decide ((a : Int) < (b : Int)) = true := by simp; omega
theorem dge {a b : Nat} (h : b ≤ a) : decide ((a : Int) < (b : Int)) = false := by simp; omega
theorem dH {k : Nat} (h : k < 1000000000) : IntKind.wrap .i64 ((k : Int) + 1) = ((k + 1 : Nat) : Int) := by rw [cO (by omega) (by omega)]; rfl
theorem aw {α : Type} {l : List α} {k : Nat} (h : k < l.length) : idx l (k : Int) = some l[k] := gp (List.getElem?_eq_getElem h)
theorem aF {α : Type} {l : List α} {k : Nat} (h : k < l.length) : l.drop k = l[k] :: l.drop (k + 1) := List.drop_eq_getElem_cons h
def lF (v : Value) : Bool := decide (v.S.length ≤ 200)
def hQ (r : List Value) : Bool := decide (r.length ≤ 20) && r.all lF
theorem yW (l : List (List Value)) (hl : l.length < 1000) : Ev (fun f => ie f l) (l.all hQ) := by
 have main : EvL (fun f => gF f l) (0 : Int) (if l.all hQ then .inl () else .inr false : Unit ⊕ Bool) := by
  refine EvL.count (A := fun k => (k : Int)) (out := fun k => (if (l.drop k).all hQ then .inl () else .inr false : Unit ⊕ Bool)) l.length (fun k hk => ?_) ?_ 0 (by omega)
  ·unfold gF
   have inner : l[k].length ≤ 20 → EvL (fun f => gG f l (k : Int)) (0 : Int) (if l[k].all lF then .inl () else .inr false : Unit ⊕ Bool) := by
    intro h20
    refine EvL.count (A := fun j => (j : Int)) (out := fun j => (if (l[k].drop j).all lF then .inl () else .inr false : Unit ⊕ Bool)) l[k].length (fun j hj => ?_) ?_ 0 (by omega)
    ·unfold gG
     by_cases hs : lF l[k][j] = true
     ·refine .inl ⟨.ae (aw hk) <| .t (dlt hj) <| .ae (aw hk) <| .ae (aw hj) <| .f ?_ ?_, by rw [aF hj, List.all_cons, hs, Bool.true_and]⟩
      ·simp only [lF, decide_eq_true_eq] at hs; simp; omega
      ·rw [dH (by omega)]; exact .pure _
     ·refine .inr (.ae (aw hk) <| .t (dlt hj) <| .ae (aw hk) <| .ae (aw hj) <| .t ?_ ?_)
      ·simp only [lF, decide_eq_true_eq] at hs; simp; omega
      ·rw [aF hj, List.all_cons, Bool.eq_false_iff.2 hs]; exact .pure _
    ·unfold gG
     refine .ae (aw hk) <| .f (dge (Nat.le_refl _)) ?_
     simp only [List.drop_length, List.all_nil, if_true]; exact .pure _
   by_cases h20 : l[k].length ≤ 20
   ·by_cases hs : l[k].all lF = true
    ·refine .inl ⟨.t (dlt hk) <| .ae (aw hk) <| .f (by simp; omega) <| .bind (inner h20).ev ?_, by rw [aF hk, List.all_cons]; simp only [hQ, h20, decide_true, hs, Bool.true_and]⟩
     simp only [hs, if_true, Sum.elim_inl]
     rw [dH (by omega)]; exact .pure _
    ·refine .inr (.t (dlt hk) <| .ae (aw hk) <| .f (by simp; omega) <| .bind (inner h20).ev ?_)
     rw [aF hk, List.all_cons, hQ, Bool.eq_false_iff.2 hs]
     simp only [Bool.and_false, Bool.false_and, Bool.false_eq_true, if_false, Sum.elim_inr]
     exact .pure _
   ·refine .inr (.t (dlt hk) <| .ae (aw hk) <| .t (by simp; omega) ?_)
    rw [aF hk, List.all_cons, hQ, decide_eq_false h20]
    simp only [Bool.false_and, Bool.false_eq_true, if_false]
    exact .pure _
  ·unfold gF
   refine .f (dge (Nat.le_refl _)) ?_
   simp only [List.drop_length, List.all_nil, if_true]; exact .pure _
 unfold ie
 refine .bind main.ev ?_
 cases h : l.all hQ
 ·simp only [Bool.false_eq_true, if_false, Sum.elim_inr]; exact .pure _
 ·simp only [if_true, Sum.elim_inl]; exact .pure _
def okK (k : Int) : Bool := k == 1 || k == 2
def okS (s : ah) : Bool := decide (1 ≤ s.aq.length) && decide (s.aq.length ≤ 8) && s.Down.length == s.aq.length && decide (1 ≤ s.Dup) && decide (s.Dup ≤ 3) && s.aq.all okK
def okV (v : Value) : Bool := if v.Kind = 1 then decide (-1000000000 ≤ v.N) && decide (v.N ≤ 1000000000) && v.S == [] else if v.Kind = 2 then v.N == 0 && decide (v.S.length ≤ 40) else false
def bz : List Int → List Value → Bool
 | [], [] => true
 | k :: ks, v :: vs => (v.Kind == k && okV v) && bz ks vs
 | _, _ => false
theorem ek : ∀ {ks : List Int} {vs : List Value}, bz ks vs = true → ks.length = vs.length
 | [], [], _ => rfl
 | k :: ks, v :: vs, h => by
  simp only [bz, Bool.and_eq_true] at h
  simp [ek h.2]
theorem ig : ∀ {ks : List Int} {vs : List Value} (h : bz ks vs = true) (i : Nat) (h1 : i < ks.length) (h2 : i < vs.length), vs[i].Kind = ks[i] ∧ okV vs[i] = true
 | k :: ks, v :: vs, h, i, h1, h2 => by
  simp only [bz, Bool.and_eq_true, beq_iff_eq] at h
  cases i with
  | zero => exact h.1
  | succ i => exact ig h.2 i (by simpa using h1) (by simpa using h2)
 | [], [], _, _, h1, _ => absurd h1 (by simp)
theorem oY (n : Nat) (k : Int) : kO n k = some (!okK k) := rfl
theorem wm (s : ah) : Ev (fun f => lW f s) (okS s) := by
 unfold lW okS
 by_cases h1 : 1 ≤ s.aq.length
 case neg => refine .f (by simp; omega) ?_; rw [decide_eq_false h1]; exact .pure _
 refine .t (by simp; omega) ?_
 by_cases h2 : s.aq.length ≤ 8
 case neg => refine .f (by simp; omega) ?_; rw [decide_eq_false h2]; simp only [Bool.and_false, Bool.false_and]; exact .pure _
 refine .t (by simp; omega) ?_
 rw [decide_eq_true h1, decide_eq_true h2]
 have e1 : ((s.Down.length : Int) == (s.aq.length : Int)) = (s.Down.length == s.aq.length) := by
  rw [Bool.eq_iff_iff]; simp; omega
 have e2 : decide (s.Dup ≥ 1) = decide (1 ≤ s.Dup) := rfl
 rw [e1, e2]
 simp only [Bool.true_and]
 cases hc : (s.Down.length == s.aq.length && decide (1 ≤ s.Dup)) && decide (s.Dup ≤ 3)
 ·exact .f rfl (.pure _)
 ·refine .t rfl ?_
  have main : EvL (fun f => bm f s.aq) (0 : Int) (match s.aq.findIdx? (fun k => !okK k) with | some i => .inr (i : Int) | none => .inl () : Unit ⊕ Int) := by
   refine EvL.count (A := fun k => (k : Int)) (out := fun k => (match (s.aq.drop k).findIdx? (fun k => !okK k) with | some i => .inr ((k + i : Nat) : Int) | none => .inl () : Unit ⊕ Int)) s.aq.length (fun k hk => ?_) ?_ 0 (by omega) |> fun h => by simpa using h
   ·unfold bm
    cases hk' : okK s.aq[k]
    ·refine .inr (.t (dlt hk) <| .ae (aw hk) <| .bind (.of fun n => oY n _) <| .t (by rw [hk']; rfl) ?_)
     rw [aF hk, List.findIdx?_cons, hk']
     exact .pure _
    ·refine .inl ⟨.t (dlt hk) <| .ae (aw hk) <| .bind (.of fun n => oY n _) <| .f (by rw [hk']; rfl) ?_, ?_⟩
     ·rw [dH (by omega)]; exact .pure _
     ·rw [aF hk, List.findIdx?_cons, hk']
      cases (s.aq.drop (k + 1)).findIdx? (fun k => !okK k) <;> simp
      omega
   ·unfold bm
    refine .f (dge (Nat.le_refl _)) ?_
    simp only [List.drop_length, List.findIdx?_nil]; exact .pure _
  have hall : s.aq.all okK = (s.aq.findIdx? (fun k => !okK k)).isNone := by
   rw [Bool.eq_iff_iff, Option.isNone_iff_eq_none, List.findIdx?_eq_none_iff, List.all_eq_true]
   simp
  have h3 : Ev (fun f => bF f s.aq) (match s.aq.findIdx? (fun k => !okK k) with | some i => (i : Int) | none => -1) := by
   unfold bF
   refine .bind main.ev ?_
   cases s.aq.findIdx? (fun k => !okK k) <;> exact .pure _
  have h4 : Ev (fun f => bn f s.aq) (!(s.aq.all okK)) := by
   unfold bn
   refine .bind h3 ?_
   rw [hall]
   cases s.aq.findIdx? (fun k => !okK k) with
   | none => exact .pure _
   | some i => exact .congr (fun _ => by simp) (.pure _)
  refine .bind h4 ?_
  rw [Bool.not_not, Bool.true_and]; exact .pure _
theorem wq (s : ah) (hl : s.aq.length < 1000) : Ev (fun f => mb f s) (okS s) := by
 have main : EvL (fun f => hU f s) (0 : Int) (if s.aq.all okK then .inl () else .inr false : Unit ⊕ Bool) := by
  refine EvL.count (A := fun k => (k : Int)) (out := fun k => (if (s.aq.drop k).all okK then .inl () else .inr false : Unit ⊕ Bool)) s.aq.length (fun k hk => ?_) ?_ 0 (by omega)
  ·unfold hU
   have hd := aF hk
   by_cases h1 : s.aq[k] = 1
   ·refine .inl ⟨.t (dlt hk) <| .ae (aw hk) <| .f (by simp [h1]) ?_, by rw [hd, List.all_cons]; simp [okK, h1]⟩
    rw [dH (by omega)]; exact .pure _
   ·by_cases h2 : s.aq[k] = 2
    ·refine .inl ⟨.t (dlt hk) <| .ae (aw hk) <| .t (by simp [h1]) <| .ae (aw hk) <| .f (by simp [h2]) ?_, by rw [hd, List.all_cons]; simp [okK, h2]⟩
     rw [dH (by omega)]; exact .pure _
    ·refine .inr (.t (dlt hk) <| .ae (aw hk) <| .t (by simp [h1]) <| .ae (aw hk) <| .t (by simp [h2]) ?_)
     rw [hd, List.all_cons]
     simp only [okK, beq_eq_false_iff_ne.2 h1, beq_eq_false_iff_ne.2 h2, Bool.or_self, Bool.false_and, Bool.false_eq_true, if_false]
     exact .pure _
  ·unfold hU
   refine .f (dge (Nat.le_refl _)) ?_
   simp only [List.drop_length, List.all_nil, if_true]; exact .pure _
 unfold mb okS
 refine .bind main.ev ?_
 cases h : s.aq.all okK
 ·simp only [Bool.false_eq_true, if_false, Sum.elim_inr, Bool.and_false]; exact .pure _
 ·simp only [if_true, Sum.elim_inl, Bool.and_true]
  by_cases h1 : 1 ≤ s.aq.length
  case neg => refine .f (by simp; omega) ?_; rw [decide_eq_false h1]; exact .pure _
  refine .t (by simp; omega) ?_
  by_cases h2 : s.aq.length ≤ 8
  case neg => refine .f (by simp; omega) ?_; rw [decide_eq_false h2]; simp only [Bool.and_false, Bool.false_and]; exact .pure _
  refine .t (by simp; omega) ?_
  rw [decide_eq_true h1, decide_eq_true h2]
  have e1 : ((s.Down.length : Int) == (s.aq.length : Int)) = (s.Down.length == s.aq.length) := by
   rw [Bool.eq_iff_iff]; simp; omega
  rw [e1]
  exact .pure _
theorem qY (f : Nat) (v : Value) : dz f v = some (okV v) := by
 unfold dz fc iF gn gm gl fc okV
 by_cases h1 : v.Kind = 1
 ·simp only [h1]
  cases h : v.S == [] <;> simp
 ·by_cases h2 : v.Kind = 2
  ·simp only [h2]
   cases h : v.N == 0 <;> simp
   omega
  ·by_cases h0 : v.Kind = 0
   ·simp [h0]
   ·have : (decide (v.Kind ≥ 0) && decide (v.Kind ≤ 2)) = false := by simp; omega
    simp [this, h1, h2]
theorem qK (f : Nat) (v : Value) : dS f v = some (okV v) := by
 unfold dS okV
 by_cases h1 : v.Kind = 1
 ·simp [h1]
 ·by_cases h2 : v.Kind = 2
  ·simp only [h2]
   cases h : v.N == 0 <;> simp
   omega
  ·simp only [beq_eq_false_iff_ne.2 h1, beq_eq_false_iff_ne.2 h2, cond_false, Bool.false_and, if_neg h1, if_neg h2]
theorem vO (s : ah) (r : List Value) (hl : r.length < 1000) : Ev (fun f => mR f s r) (bz s.aq r) := by
 unfold mR
 by_cases hlen : r.length = s.aq.length
 case neg =>
  refine .t (by simp; omega) ?_
  have : bz s.aq r = false := by
   cases h : bz s.aq r with
   | false => rfl
   | true => exact absurd (ek h).symm hlen
  rw [this]; exact .pure _
 refine .f (by simp; omega) ?_
 have main : EvL (fun f => iW f r) (s.aq, s.Down, s.Dup, (0 : Int)) (if bz s.aq r then .inl () else .inr false : Unit ⊕ Bool) := by
  refine EvL.count (A := fun k => (s.aq, s.Down, s.Dup, (k : Int))) (out := fun k => (if bz (s.aq.drop k) (r.drop k) then .inl () else .inr false : Unit ⊕ Bool)) r.length (fun k hk => ?_) ?_ 0 (by omega)
  ·unfold iW
   have hk2 : k < s.aq.length := by omega
   by_cases h1 : r[k].Kind = s.aq[k]
   ·cases h2 : okV r[k]
    ·refine .inr (.t (dlt hk) <| .ae (aw hk) <| .ae (aw hk2) <| .f (by simp [h1]) <| .bind (.of fun n => qY n _) <| .t (by rw [h2]; rfl) ?_)
     rw [aF hk, aF hk2, bz, h2]
     simp only [Bool.and_false, Bool.false_and, Bool.false_eq_true, if_false]
     exact .pure _
    ·refine .inl ⟨.t (dlt hk) <| .ae (aw hk) <| .ae (aw hk2) <| .f (by simp [h1]) <| .bind (.of fun n => qY n _) <| .f (by rw [h2]; rfl) ?_, ?_⟩
     ·rw [dH (by omega)]; exact .pure _
     ·rw [aF hk, aF hk2, bz, h2, h1, BEq.rfl, Bool.true_and, Bool.true_and]
   ·refine .inr (.t (dlt hk) <| .ae (aw hk) <| .ae (aw hk2) <| .t (by simp [h1]) ?_)
    rw [aF hk, aF hk2, bz, beq_eq_false_iff_ne.2 h1]
    simp only [Bool.false_and, Bool.false_eq_true, if_false]
    exact .pure _
  ·unfold iW
   refine .f (dge (Nat.le_refl _)) ?_
   rw [List.drop_length, hlen, List.drop_length]
   exact .pure _
 refine .bind main.ev ?_
 cases bz s.aq r
 ·simp only [Bool.false_eq_true, if_false, Sum.elim_inr]; exact .pure _
 ·simp only [if_true, Sum.elim_inl]; exact .pure _
theorem zb (s : ah) (r : List Value) (hs : okS s = true) (hl : r.length < 1000) : Ev (fun f => sN f s r) (bz s.aq r) := by
 have hs8 : s.aq.length ≤ 8 := by simp only [okS, Bool.and_eq_true, decide_eq_true_eq] at hs; omega
 have mainV : EvL (fun f => dw f r) (0 : Int) (if r.all okV then .inl () else .inr false : Unit ⊕ Bool) := by
  refine EvL.count (A := fun k => (k : Int)) (out := fun k => (if (r.drop k).all okV then .inl () else .inr false : Unit ⊕ Bool)) r.length (fun k hk => ?_) ?_ 0 (by omega)
  ·unfold dw
   cases h2 : okV r[k]
   ·refine .inr (.t (dlt hk) <| .ae (aw hk) <| .bind (.of fun n => qK n _) <| .t (by rw [h2]; rfl) ?_)
    rw [aF hk, List.all_cons, h2]
    simp only [Bool.false_and, Bool.false_eq_true, if_false]; exact .pure _
   ·refine .inl ⟨.t (dlt hk) <| .ae (aw hk) <| .bind (.of fun n => qK n _) <| .f (by rw [h2]; rfl) ?_, by rw [aF hk, List.all_cons, h2, Bool.true_and]⟩
    rw [dH (by omega)]; exact .pure _
  ·unfold dw
   refine .f (dge (Nat.le_refl _)) ?_
   simp only [List.drop_length, List.all_nil, if_true]; exact .pure _
 have hV : Ev (fun f => fG f r) (r.all okV && decide (r.length ≤ 8)) := by
  unfold fG
  refine .bind mainV.ev ?_
  cases r.all okV
  ·simp only [Bool.false_eq_true, if_false, Sum.elim_inr, Bool.false_and]; exact .pure _
  ·simp only [if_true, Sum.elim_inl, Bool.true_and]
   exact .congr (fun _ => by rw [show decide ((r.length : Int) ≤ 8) = decide (r.length ≤ 8) by rw [decide_eq_decide]; omega]) (.pure _)
 have hall : bz s.aq r = true → r.all okV = true := fun h => by
  rw [List.all_eq_true]
  intro x hx
  obtain ⟨i, hi, rfl⟩ := List.mem_iff_getElem.1 hx
  exact (ig h i (by rw [ek h]; exact hi) hi).2
 unfold sN
 refine .aX <| .bind hV ?_
 by_cases hlen : r.length = s.aq.length
 case neg =>
  have : bz s.aq r = false := by
   cases h : bz s.aq r with
   | false => rfl
   | true => exact absurd (ek h).symm hlen
  rw [this]
  refine .ite (fun _ => .t rfl (.pure _)) (fun _ => .t (by simp; omega) (.pure _))
 cases hv : r.all okV
 ·have : bz s.aq r = false := by
   cases h : bz s.aq r with
   | false => rfl
   | true => rw [hall h] at hv; cases hv
  rw [this]
  exact .t rfl (.t rfl (.pure _))
 refine .f (by simp; omega) <| .f (by simp; omega) ?_
 have main : EvL (fun f => jV f s r) (0 : Int) (if bz s.aq r then .inl () else .inr false : Unit ⊕ Bool) := by
  refine EvL.count (A := fun k => (k : Int)) (out := fun k => (if bz (s.aq.drop k) (r.drop k) then .inl () else .inr false : Unit ⊕ Bool)) r.length (fun k hk => ?_) ?_ 0 (by omega)
  ·unfold jV
   have hk2 : k < s.aq.length := by omega
   have h2 : okV r[k] = true := List.all_eq_true.1 hv _ (List.getElem_mem hk)
   by_cases h1 : r[k].Kind = s.aq[k]
   ·refine .inl ⟨.t (dlt hk) <| .ae (aw hk) <| .ae (aw hk2) <| .f (by simp [h1]) ?_, ?_⟩
    ·rw [dH (by omega)]; exact .pure _
    ·rw [aF hk, aF hk2, bz, h2, h1, BEq.rfl, Bool.true_and, Bool.true_and]
   ·refine .inr (.t (dlt hk) <| .ae (aw hk) <| .ae (aw hk2) <| .t (by simp [h1]) ?_)
    rw [aF hk, aF hk2, bz, beq_eq_false_iff_ne.2 h1]
    simp only [Bool.false_and, Bool.false_eq_true, if_false]
    exact .pure _
  ·unfold jV
   refine .f (dge (Nat.le_refl _)) ?_
   rw [List.drop_length, hlen, List.drop_length]
   exact .pure _
 refine .bind main.ev ?_
 cases bz s.aq r
 ·simp only [Bool.false_eq_true, if_false, Sum.elim_inr]; exact .pure _
 ·simp only [if_true, Sum.elim_inl]; exact .pure _
end Go.Sh
namespace Go.Sh
def sgn (x : Int) : Int := if x < 0 then -1 else if 0 < x then 1 else 0
theorem sign_eq (f : Nat) (x : Int) : iZ f x = some (sgn x) := by
 unfold iZ sgn
 by_cases h : x < 0
 ·simp [h]
 ·by_cases h2 : 0 < x <;> simp [h, h2]
theorem rP (f : Nat) (a b : Int) : h9 f a b = some (sgn (a - b)) := by
 unfold h9 sgn
 by_cases h : a < b
 ·have : a - b < 0 := by omega
  simp [h, this]
 ·by_cases h2 : b < a
  ·have h3 : ¬ a - b < 0 := by omega
   have h4 : 0 < a - b := by omega
   simp [h, h2, h3, h4]
  ·have h3 : ¬ a - b < 0 := by omega
   have h4 : ¬ 0 < a - b := by omega
   simp [h, h2, h3, h4]
def pre : List UInt8 → List UInt8 → Option Int
 | x :: xs, y :: ys => if x = y then pre xs ys else some (if x < y then -1 else 1)
 | _, _ => none
theorem sb : ∀ a b : List UInt8, Lib.compareBytes a b = (pre a b).getD (sgn ((a.length : Int) - b.length))
 | [], [] => rfl
 | [], y :: ys => by
  simp only [Lib.compareBytes, pre, Option.getD_none, sgn, List.length_nil, List.length_cons]
  rw [if_pos (by omega)]
 | x :: xs, [] => by
  simp only [Lib.compareBytes, pre, Option.getD_none, sgn, List.length_nil, List.length_cons]
  rw [if_neg (by omega), if_pos (by omega)]
 | x :: xs, y :: ys => by
  simp only [Lib.compareBytes, pre]
  by_cases h : x = y
  ·subst h
   simp only [UInt8.lt_irrefl, if_false, if_true]
   rw [sb xs ys]
   congr 2
   simp only [List.length_cons]; omega
  ·rw [if_neg h, Option.getD_some]
   by_cases h2 : x < y
   ·simp [h2]
   ·have : y < x := by
     rcases UInt8.lt_or_lt_of_ne h with h3 | h3
     ·exact absurd h3 h2
     ·exact h3
    simp [h2, this]
theorem sx (a b : List UInt8) (ha : a.length < 1000) (hb : b.length < 1000) : Ev (fun f => iY f a b) (Lib.compareBytes a b) := by
 have main : EvL (fun f => fF f a b) (0 : Int) (match pre a b with | some c => .inr c | none => .inl () : Unit ⊕ Int) := by
  refine EvL.count (A := fun k => (k : Int)) (out := fun k => (match pre (a.drop k) (b.drop k) with | some c => .inr c | none => .inl () : Unit ⊕ Int)) (min a.length b.length) (fun k hk => ?_) ?_ 0 (by omega)
  ·have h1 : k < a.length := by omega
   have h2 : k < b.length := by omega
   unfold fF
   by_cases he : a[k] = b[k]
   ·refine .inl ⟨.aX <| .t (dlt h1) <| .t (dlt h2) <| .ae (aw h1) <| .ae (aw h2) <| .f (by simp [he]) ?_, ?_⟩
    ·rw [dH (by omega)]; exact .pure _
    ·rw [aF h1, aF h2, pre, if_pos he]
   ·have hne : a[k].toNat ≠ b[k].toNat := fun e => he (UInt8.toNat_inj.1 e)
    have b1 := a[k].toNat_lt
    have b2 := b[k].toNat_lt
    refine .inr (.aX <| .t (dlt h1) <| .t (dlt h2) <| .ae (aw h1) <| .ae (aw h2) <| .t (by simp; omega) <| .ae (aw h1) <| .ae (aw h2) <| .bind (.of fun n => sign_eq n _) ?_)
    have e : sgn (IntKind.wrap .i64 ((IntKind.wrap .i64 (a[k].toNat : Int)) - (IntKind.wrap .i64 (b[k].toNat : Int)))) = if a[k] < b[k] then -1 else 1 := by
     rw [cO (x := (a[k].toNat : Int)) (by omega) (by omega), cO (x := (b[k].toNat : Int)) (by omega) (by omega), cO (by omega) (by omega), sgn]
     by_cases hl : a[k] < b[k]
     ·have := UInt8.lt_iff_toNat_lt.1 hl
      rw [if_pos hl, if_pos (by omega)]
     ·have : ¬ a[k].toNat < b[k].toNat := fun h => hl (UInt8.lt_iff_toNat_lt.2 h)
      rw [if_neg hl, if_neg (by omega), if_pos (by omega)]
    rw [e, aF h1, aF h2, pre, if_neg he]
    exact .pure _
  ·unfold fF
   have hp : pre (a.drop (min a.length b.length)) (b.drop (min a.length b.length)) = none := by
    by_cases h : a.length ≤ b.length
    ·rw [Nat.min_eq_left h, List.drop_length]; unfold pre; rfl
    ·rw [Nat.min_eq_right (by omega), List.drop_length]; cases List.drop b.length a <;> rfl
   rw [hp]
   refine .aX ?_
   by_cases h : a.length ≤ b.length
   ·rw [Nat.min_eq_left h]
    exact .f (dge (Nat.le_refl _)) <| .f rfl (.pure _)
   ·rw [Nat.min_eq_right (by omega)]
    exact .t (dlt (by omega)) <| .f (dge (Nat.le_refl _)) (.pure _)
 unfold iY
 refine .bind main.ev ?_
 rw [sb]
 cases pre a b with
 | some c => exact .pure _
 | none =>
  refine .bind (.of fun n => sign_eq n _) ?_
  rw [cO (by omega) (by omega)]; exact .pure _
def gN (v w : Value) : Int := if v.Kind = 1 then v.N - w.N else Lib.compareBytes v.S w.S
def oq (d : Bool) (v w : Value) : Int := if d then gN w v else gN v w
def df : List Bool → List Value → List Value → Int
 | d :: ds, v :: vs, w :: ws => if oq d v w = 0 then df ds vs ws else oq d v w
 | _, _, _ => 0
theorem zz (a b : List UInt8) : sgn (Lib.compareBytes a b) = Lib.compareBytes a b := by
 rw [sb]
 cases h : pre a b with
 | none => simp only [Option.getD_none, sgn]; split <;> (try split) <;> simp_all
 | some c =>
  have : ∀ a b : List UInt8, ∀ c, pre a b = some c → c = -1 ∨ c = 1 := by
   intro a
   induction a with
   | nil => intro b c h; simp [pre] at h
   | cons x xs ih =>
    intro b c h
    cases b with
    | nil => simp [pre] at h
    | cons y ys =>
     simp only [pre] at h
     split at h
     ·exact ih _ _ h
     ·split at h <;> cases h <;> simp
  rcases this a b c h with rfl | rfl <;> rfl
theorem sd : ∀ a b : List UInt8, Lib.compareBytes b a = - Lib.compareBytes a b
 | [], [] => rfl
 | [], y :: ys => rfl
 | x :: xs, [] => rfl
 | x :: xs, y :: ys => by
  simp only [Lib.compareBytes]
  by_cases h : x < y
  ·have : ¬ y < x := fun h2 => UInt8.lt_irrefl _ (UInt8.lt_trans h h2)
   simp [h, this]
  ·by_cases h2 : y < x
   ·simp [h, h2]
   ·simp [h, h2, sd xs ys]
theorem yS (x : Int) : sgn (-x) = - sgn x := by unfold sgn; split <;> split <;> (try split) <;> omega
theorem Aj (x : Int) : (sgn x < 0) ↔ x < 0 := by unfold sgn; split <;> (try split) <;> omega
theorem jU (x : Int) : (sgn x = 0) ↔ x = 0 := by unfold sgn; split <;> (try split) <;> omega
theorem j9 {v : Value} (h : okV v = true) : (v.Kind = 1 ∧ -1000000000 ≤ v.N ∧ v.N ≤ 1000000000 ∧ v.S = []) ∨ (v.Kind = 2 ∧ v.N = 0 ∧ v.S.length ≤ 40) := by
 unfold okV at h
 split at h
 ·rename_i h1
  simp only [Bool.and_eq_true, decide_eq_true_eq, beq_iff_eq] at h
  exact .inl ⟨h1, h.1.1, h.1.2, h.2⟩
 ·split at h
  ·rename_i h2
   simp only [Bool.and_eq_true, decide_eq_true_eq, beq_iff_eq] at h
   exact .inr ⟨h2, h.1, h.2⟩
  ·cases h
theorem pV {v w : Value} (hv : okV v = true) (hw : okV w = true) (hk : v.Kind = w.Kind) : Ev (fun f => eY f v w) (sgn (gN v w)) := by
 unfold eY
 refine .bind (.of fun n => rP n _ _) ?_
 have h0 : sgn (v.Kind - w.Kind) = 0 := by rw [hk, Int.sub_self]; rfl
 rw [h0]
 refine .f rfl <| .bind (.of fun n => rP n _ _) ?_
 rcases j9 hv with ⟨k1, n1, n2, s1⟩ | ⟨k1, n1, s1⟩ <;> rcases j9 hw with ⟨k2, m1, m2, s2⟩ | ⟨k2, m1, s2⟩
 ·rw [gN, if_pos k1]
  by_cases hz : v.N - w.N = 0
  ·rw [hz]
   refine .f rfl <| .bind (sx _ _ (by rw [s1]; decide) (by rw [s2]; decide)) ?_
   rw [s1, s2]; exact .pure _
  ·exact .t (by simp; rwa [jU]) (.pure _)
 ·omega
 ·omega
 ·rw [gN, if_neg (by omega), n1, m1, zz]
  exact .f rfl <| .bind (sx _ _ (by omega) (by omega)) (.pure _)
theorem sT (s : ah) {a b : List Value} (hd : s.Down.length = s.aq.length) (ha : bz s.aq a = true) (hb : bz s.aq b = true) (hl : s.aq.length ≤ 8) :
  Ev (fun f => kR f s a b) (sgn (df s.Down a b)) := by
 have la := ek ha
 have lb := ek hb
 have main : EvL (fun f => hZ f s a b) (0 : Int) (if df s.Down a b = 0 then .inl () else .inr (sgn (df s.Down a b)) : Unit ⊕ Int) := by
  refine EvL.count (A := fun k => (k : Int)) (out := fun k => (if df (s.Down.drop k) (a.drop k) (b.drop k) = 0 then .inl () else .inr (sgn (df (s.Down.drop k) (a.drop k) (b.drop k))) : Unit ⊕ Int)) a.length (fun k hk => ?_) ?_ 0 (by omega)
  ·have k1 : k < s.aq.length := by omega
   have k2 : k < b.length := by omega
   have k3 : k < s.Down.length := by omega
   obtain ⟨a1, a2⟩ := ig ha k k1 hk
   obtain ⟨b1, b2⟩ := ig hb k k1 k2
   have hc := pV a2 b2 (a1.trans b1.symm)
   have hneg : gN b[k] a[k] = - gN a[k] b[k] := by
    unfold gN
    rw [a1, b1]
    split
    ·omega
    ·exact sd _ _
   have hs1 : -2 < sgn (gN a[k] b[k]) ∧ sgn (gN a[k] b[k]) < 2 := by unfold sgn; split <;> (try split) <;> omega
   unfold hZ
   rw [aF hk, aF k2, aF k3, df]
   cases hdn : s.Down[k]
   ·have ec : oq false a[k] b[k] = gN a[k] b[k] := rfl
    rw [ec]
    by_cases hz : gN a[k] b[k] = 0
    ·refine .inl ⟨.t (dlt hk) <| .ae (aw hk) <| .ae (aw k2) <| .bind hc <| .ae (aw k3) <| .f hdn <| .f (by rw [hz]; rfl) ?_, by rw [if_pos hz]⟩
     rw [dH (by omega)]; exact .pure _
    ·refine .inr (.t (dlt hk) <| .ae (aw hk) <| .ae (aw k2) <| .bind hc <| .ae (aw k3) <| .f hdn <| .t (by simp; rwa [jU]) ?_)
     rw [if_neg hz, if_neg hz]; exact .pure _
   ·have ec : oq true a[k] b[k] = - gN a[k] b[k] := hneg
    rw [ec]
    by_cases hz : gN a[k] b[k] = 0
    ·refine .inl ⟨.t (dlt hk) <| .ae (aw hk) <| .ae (aw k2) <| .bind hc <| .ae (aw k3) <| .t hdn <| .f (by rw [hz]; rfl) ?_, by rw [hz, Int.neg_zero, if_pos rfl]⟩
     rw [dH (by omega)]; exact .pure _
    ·refine .inr (.t (dlt hk) <| .ae (aw hk) <| .ae (aw k2) <| .bind hc <| .ae (aw k3) <| .t hdn <| .t ?_ ?_)
     ·rw [cO (by omega) (by omega)]; simp; rwa [jU]
     ·have hz2 : ¬ - gN a[k] b[k] = 0 := by omega
      rw [cO (by omega) (by omega), if_neg hz2, if_neg hz2, yS, Int.zero_sub]; exact .pure _
  ·unfold hZ
   refine .f (dge (Nat.le_refl _)) ?_
   rw [List.drop_length]
   have : df (s.Down.drop a.length) [] (b.drop a.length) = 0 := by cases List.drop a.length s.Down <;> rfl
   rw [this]; exact .pure _
 unfold kR
 refine .bind main.ev ?_
 by_cases h : df s.Down a b = 0
 ·rw [if_pos h, h]; exact .pure _
 ·rw [if_neg h]; exact .pure _
end Go.Sh
namespace Go.Sh
theorem rm : ∀ {a b c : List UInt8}, Op.bytesLess a b = true → Op.bytesLess b c = true → Op.bytesLess a c = true
 | _, [], _, h, _ => by cases ‹List UInt8› <;> simp [Op.bytesLess] at h
 | _, _ :: _, [], _, h => by simp [Op.bytesLess] at h
 | [], _ :: _, _ :: _, _, _ => rfl
 | a :: x, b :: y, c :: z, h1, h2 => by
  simp only [Op.bytesLess, Bool.or_eq_true, decide_eq_true_eq, Bool.and_eq_true, beq_iff_eq] at *
  rcases h1 with h1 | ⟨rfl, h1⟩ <;> rcases h2 with h2 | ⟨rfl, h2⟩
  ·exact .inl (UInt8.lt_trans h1 h2)
  ·exact .inl h1
  ·exact .inl h2
  ·exact .inr ⟨rfl, rm h1 h2⟩
theorem ye : ∀ a b : List UInt8, decide (Lib.compareBytes a b < 0) = Op.bytesLess a b
 | [], [] => rfl
 | [], _ :: _ => rfl
 | _ :: _, [] => rfl
 | a :: x, b :: y => by
  simp only [Lib.compareBytes, Op.bytesLess]
  by_cases h : a < b
  ·simp [h]
  ·by_cases h2 : b < a
   ·have hne : a ≠ b := fun e => by subst e; exact h h2
    simp [h, h2, hne]
   ·have : a = b := by
     rcases Classical.em (a = b) with e | e
     ·exact e
     ·rcases UInt8.lt_or_lt_of_ne e with h3 | h3
      ·exact absurd h3 h
      ·exact absurd h3 h2
    subst this
    simp [h, ye x y]
theorem tE : ∀ a b : List UInt8, (Lib.compareBytes a b == 0) = (a == b)
 | [], [] => rfl
 | [], _ :: _ => rfl
 | _ :: _, [] => rfl
 | a :: x, b :: y => by
  simp only [Lib.compareBytes]
  by_cases h : a < b
  ·have hne : a ≠ b := fun e => by subst e; simp at h
   simp [h, hne]
  ·by_cases h2 : b < a
   ·have hne : a ≠ b := fun e => by subst e; simp at h2
    simp [h, h2, hne]
   ·have : a = b := by
     rcases Classical.em (a = b) with e | e
     ·exact e
     ·rcases UInt8.lt_or_lt_of_ne e with h3 | h3
      ·exact absurd h3 h
      ·exact absurd h3 h2
    subst this
    simp only [h, if_false, tE x y, List.cons_beq_cons, BEq.rfl, Bool.true_and]
theorem oZ (s : ah) {a b : List Value} (hd : s.Down.length = s.aq.length) (ha : bz s.aq a = true) (hb : bz s.aq b = true) (hl : s.aq.length ≤ 8) :
  Ev (fun f => lr f s a b) (df s.Down a b) := by
 have la := ek ha
 have lb := ek hb
 have main : EvL (fun f => iV f s a b) (0 : Int) (if df s.Down a b = 0 then .inl () else .inr (df s.Down a b) : Unit ⊕ Int) := by
  refine EvL.count (A := fun k => (k : Int)) (out := fun k => (if df (s.Down.drop k) (a.drop k) (b.drop k) = 0 then .inl () else .inr (df (s.Down.drop k) (a.drop k) (b.drop k)) : Unit ⊕ Int)) s.aq.length (fun k hk => ?_) ?_ 0 (by omega)
  ·have k1 : k < a.length := by omega
   have k2 : k < b.length := by omega
   have k3 : k < s.Down.length := by omega
   obtain ⟨a1, a2⟩ := ig ha k hk k1
   obtain ⟨b1, b2⟩ := ig hb k hk k2
   -- what the chosen comparison tells
   have key : ∀ (c : Int) (g : Nat → Option Int), (∀ f, g f = some c) → c = oq s.Down[k] a[k] b[k] →
     (Ev (fun f => (g f).bind fun r => bif (r != 0) then some (.inr (.inr r)) else some (.inl (IntKind.wrap .i64 ((k : Int) + 1)))) (.inl (((k + 1 : Nat) : Int)) : Int ⊕ (Unit ⊕ Int)) ∧
      (if df (s.Down.drop (k + 1)) (a.drop (k + 1)) (b.drop (k + 1)) = 0 then .inl () else .inr (df (s.Down.drop (k + 1)) (a.drop (k + 1)) (b.drop (k + 1))) : Unit ⊕ Int) = (if df (s.Down.drop k) (a.drop k) (b.drop k) = 0 then .inl () else .inr (df (s.Down.drop k) (a.drop k) (b.drop k)))) ∨
     Ev (fun f => (g f).bind fun r => bif (r != 0) then some (.inr (.inr r)) else some (.inl (IntKind.wrap .i64 ((k : Int) + 1)))) (.inr (if df (s.Down.drop k) (a.drop k) (b.drop k) = 0 then .inl () else .inr (df (s.Down.drop k) (a.drop k) (b.drop k))) : Int ⊕ (Unit ⊕ Int)) := by
    intro c g hg hc
    rw [aF k1, aF k2, aF k3, df, ← hc]
    by_cases hz : c = 0
    ·refine .inl ⟨.bind (.of hg) <| .f (by simp [hz]) ?_, by rw [if_pos hz]⟩
     rw [dH (by omega)]; exact .pure _
    ·refine .inr (.bind (.of hg) <| .t (by simp [hz]) ?_)
     rw [if_neg hz, if_neg hz]; exact .pure _
   have hw : ∀ x y : Value, okV x = true → okV y = true → IntKind.wrap .i64 (x.N - y.N) = x.N - y.N := by
    intro x y hx hy
    rcases j9 hx with ⟨_, n1, n2, _⟩ | ⟨_, n1, _⟩ <;> rcases j9 hy with ⟨_, m1, m2, _⟩ | ⟨_, m1, _⟩ <;> exact cO (by omega) (by omega)
   have hk12 : s.aq[k] = 1 ∨ s.aq[k] = 2 := by
    rcases j9 a2 with h | h
    ·exact .inl (by rw [← a1]; exact h.1)
    ·exact .inr (by rw [← a1]; exact h.1)
   unfold iV
   rcases hk12 with h1 | h1 <;> cases hdn : s.Down[k]
   ·have := key _ (fun f => eN f a[k] b[k]) (fun f => rfl) (by rw [hdn, hw _ _ a2 b2]; simp only [oq, gN, Bool.false_eq_true, if_false]; rw [if_pos (by omega)])
    refine this.imp (fun ⟨h, e⟩ => ⟨.t (dlt hk) <| .ae (aw hk) <| .aX <| .ae (aw k3) <| .f hdn <| .t ?_ <| .ae (aw k1) <| .ae (aw k2) h, e⟩) (fun h => .t (dlt hk) <| .ae (aw hk) <| .aX <| .ae (aw k3) <| .f hdn <| .t ?_ <| .ae (aw k1) <| .ae (aw k2) h) <;> rw [h1] <;> rfl
   ·have := key _ (fun f => eM f a[k] b[k]) (fun f => rfl) (by rw [hdn, hw _ _ b2 a2]; simp only [oq, gN, if_true]; rw [if_pos (by omega)])
    refine this.imp (fun ⟨h, e⟩ => ⟨.t (dlt hk) <| .ae (aw hk) <| .aX <| .ae (aw k3) <| .t hdn <| .f ?_ <| .t ?_ <| .ae (aw k1) <| .ae (aw k2) h, e⟩) (fun h => .t (dlt hk) <| .ae (aw hk) <| .aX <| .ae (aw k3) <| .t hdn <| .f ?_ <| .t ?_ <| .ae (aw k1) <| .ae (aw k2) h) <;> rw [h1] <;> rfl
   ·have := key _ (fun f => eK f a[k] b[k]) (fun f => rfl) (by rw [hdn]; simp only [oq, gN, Bool.false_eq_true, if_false]; rw [if_neg (by omega)])
    refine this.imp (fun ⟨h, e⟩ => ⟨.t (dlt hk) <| .ae (aw hk) <| .aX <| .ae (aw k3) <| .f hdn <| .f ?_ <| .f ?_ <| .t ?_ <| .ae (aw k1) <| .ae (aw k2) h, e⟩) (fun h => .t (dlt hk) <| .ae (aw hk) <| .aX <| .ae (aw k3) <| .f hdn <| .f ?_ <| .f ?_ <| .t ?_ <| .ae (aw k1) <| .ae (aw k2) h) <;> rw [h1] <;> rfl
   ·have := key _ (fun f => eJ f a[k] b[k]) (fun f => rfl) (by rw [hdn]; simp only [oq, gN, if_true]; rw [if_neg (by omega)])
    refine this.imp (fun ⟨h, e⟩ => ⟨.t (dlt hk) <| .ae (aw hk) <| .aX <| .ae (aw k3) <| .t hdn <| .f ?_ <| .f ?_ <| .f ?_ <| .t ?_ <| .ae (aw k1) <| .ae (aw k2) h, e⟩) (fun h => .t (dlt hk) <| .ae (aw hk) <| .aX <| .ae (aw k3) <| .t hdn <| .f ?_ <| .f ?_ <| .f ?_ <| .t ?_ <| .ae (aw k1) <| .ae (aw k2) h) <;> rw [h1] <;> rfl
  ·unfold iV
   refine .f (dge (Nat.le_refl _)) ?_
   have : df (s.Down.drop s.aq.length) (a.drop s.aq.length) (b.drop s.aq.length) = 0 := by rw [← hd, List.drop_length]; rfl
   rw [this]; exact .pure _
 unfold lr
 refine .bind (.of fun _ => rfl) <| .bind main.ev ?_
 by_cases h : df s.Down a b = 0
 ·rw [if_pos h, h]; exact .pure _
 ·rw [if_neg h]; exact .pure _
def i64 (x : Int) : Prop := -9223372036854775808 ≤ x ∧ x < 9223372036854775808
def np (s : ah) (a b : Entry) : Int := if df s.Down a.Row b.Row = 0 then (if s.Dup = 2 then b.Number - a.Number else a.Number - b.Number) else df s.Down a.Row b.Row
def okE (s : ah) (a : Entry) : Bool := bz s.aq a.Row && (decide (1 ≤ a.Key) && decide (a.Key ≤ 1000000)) && decide (1 ≤ a.Number)
theorem me {s : ah} (h : okS s = true) : s.aq.length ≤ 8 ∧ s.Down.length = s.aq.length := by
 simp only [okS, Bool.and_eq_true, decide_eq_true_eq, beq_iff_eq] at h
 exact ⟨h.1.1.1.1.2, h.1.1.1.2⟩
theorem ny {s : ah} {a b : Entry} (hs : okS s = true) (ha : bz s.aq a.Row = true) (hb : bz s.aq b.Row = true) (na : 1 ≤ a.Number ∧ i64 a.Number) (nb : 1 ≤ b.Number ∧ i64 b.Number) :
  Ev (fun f => fT f s a b) (np s a b) := by
 obtain ⟨h8, hd⟩ := me hs
 unfold fT np
 refine .bind (oZ s hd ha hb h8) ?_
 unfold i64 at na nb
 by_cases hz : df s.Down a.Row b.Row = 0
 ·rw [if_pos hz]
  refine .f (by simp [hz]) ?_
  by_cases h2 : s.Dup = 2
  ·rw [if_pos h2]; refine .t (by simp [h2]) ?_; rw [cO (by omega) (by omega)]; exact .pure _
  ·rw [if_neg h2]; refine .f (by simp [h2]) ?_; rw [cO (by omega) (by omega)]; exact .pure _
 ·rw [if_neg hz]
  exact .t (by simp [hz]) (.pure _)
theorem uB {s : ah} {a b : Entry} (hs : okS s = true) (ha : bz s.aq a.Row = true) (hb : bz s.aq b.Row = true) :
  Ev (fun f => jX f s a b) (decide (np s a b < 0)) := by
 obtain ⟨h8, hd⟩ := me hs
 unfold jX np
 refine .bind (sT s hd ha hb h8) ?_
 by_cases hz : df s.Down a.Row b.Row = 0
 ·rw [if_pos hz, hz]
  refine .f rfl ?_
  by_cases h2 : s.Dup = 2
  ·rw [if_pos h2]; refine .t (by simp [h2]) ?_
   rw [show decide (a.Number > b.Number) = decide (b.Number - a.Number < 0) by rw [decide_eq_decide]; omega]; exact .pure _
  ·rw [if_neg h2]; refine .f (by simp [h2]) ?_
   rw [show decide (a.Number < b.Number) = decide (a.Number - b.Number < 0) by rw [decide_eq_decide]; omega]; exact .pure _
 ·rw [if_neg hz]
  refine .t (by simp; rwa [jU]) ?_
  rw [show decide (sgn (df s.Down a.Row b.Row) < 0) = decide (df s.Down a.Row b.Row < 0) by rw [decide_eq_decide, Aj]]; exact .pure _
theorem xL (f : Nat) (k : Int) : sA f k = some (decide (1 ≤ k) && decide (k ≤ 1000000)) := rfl
theorem yX (f : Nat) (k : Int) : vt f k = some (decide (1 ≤ k) && decide (k ≤ 1000000)) := rfl
theorem m8 {s : ah} {a : Entry} (hs : okS s = true) (la : a.Row.length < 1000) : Ev (fun f => ma f s a) (okE s a) := by
 unfold ma okE
 refine .bind (zb s a.Row hs la) ?_
 cases bz s.aq a.Row
 ·exact .f rfl (.pure _)
 ·exact .t rfl <| .bind (.of fun n => yX n _) (.pure _)
def sn (x y z : Int) : Prop := x ≤ 0 → y ≤ 0 → z ≤ 0 ∧ (z = 0 → x = 0 ∧ y = 0)
theorem wv (a b c : List UInt8) : sn (Lib.compareBytes a b) (Lib.compareBytes b c) (Lib.compareBytes a c) := by
 have hl : ∀ a b, Lib.compareBytes a b < 0 ↔ Op.bytesLess a b = true := fun a b => by rw [← ye, decide_eq_true_eq]
 have hz : ∀ a b, Lib.compareBytes a b = 0 ↔ a = b := fun a b => by have := tE a b; rw [Bool.eq_iff_iff, beq_iff_eq, beq_iff_eq] at this; exact this
 intro h1 h2
 rcases Int.lt_or_eq_of_le h1 with h1 | h1 <;> rcases Int.lt_or_eq_of_le h2 with h2 | h2
 ·have := (hl a c).2 (rm ((hl a b).1 h1) ((hl b c).1 h2))
  omega
 ·have := (hz b c).1 h2; subst this; omega
 ·have := (hz a b).1 h1; subst this; omega
 ·have := (hz b c).1 h2; subst this; omega
theorem zV {k : Int} {u v w : Value} (h1 : u.Kind = k) (h2 : v.Kind = k) (h3 : w.Kind = k) : sn (gN u v) (gN v w) (gN u w) := by
 unfold gN
 rw [h1, h2]
 split
 ·unfold sn; omega
 ·exact wv _ _ _
theorem xw : ∀ (ds : List Bool) {ks : List Int} {u v w : List Value}, bz ks u = true → bz ks v = true → bz ks w = true → sn (df ds u v) (df ds v w) (df ds u w)
 | [], ks, u, v, w, _, _, _ => by simp [df, sn]
 | d :: ds, [], [], [], [], _, _, _ => by simp [df, sn]
 | d :: ds, k :: ks, x :: u, y :: v, z :: w, h1, h2, h3 => by
  simp only [bz, Bool.and_eq_true, beq_iff_eq] at h1 h2 h3
  have ih := xw ds h1.2 h2.2 h3.2
  have hv : sn (oq d x y) (oq d y z) (oq d x z) := by
   cases d
   ·exact zV h1.1.1 h2.1.1 h3.1.1
   ·have := zV h3.1.1 h2.1.1 h1.1.1
    intro p q
    obtain ⟨r1, r2⟩ := this q p
    exact ⟨r1, fun e => (r2 e).symm⟩
  simp only [df]
  unfold sn at *
  intro p q
  split at p <;> split at q <;> split <;> omega
theorem uK {s : ah} {a b c : Entry} (ha : bz s.aq a.Row = true) (hb : bz s.aq b.Row = true) (hc : bz s.aq c.Row = true) (h1 : np s a b < 0) (h2 : np s b c < 0) : np s a c < 0 := by
 have := xw s.Down ha hb hc
 unfold sn at this
 unfold np at *
 split at h1 <;> split at h2 <;> split <;> (try split at h1) <;> (try split at h2) <;> (try split) <;> omega
end Go.Sh
namespace Go.Sh
set_option maxRecDepth 100000
theorem tM : Ev (fun f => gX f) true := ⟨40, fun n hn => by
 obtain ⟨m, rfl⟩ := Nat.exists_eq_add_of_le' hn
 kernel_rfl⟩
end Go.Sh
namespace Go.Sh
theorem g7 {H : Hp} {i : Nat} {cs : List SV} (h : H[i]? = some (.cells cs)) : fL H i = some cs := by unfold fL; rw [h]
theorem cE {α : Type} {c : Cc α} {H : Hp} {i off : Nat} {cs r : List SV} {x : α} (h : H[i]? = some (.cells cs)) (e : cs.drop off = c.enc x ++ r) : bg c H i off = some x := by
 unfold bg
 rw [g7 h, Option.bind_some, e, c.ed]
 rfl
theorem jy {α : Type} {c : Cd α} {H : Hp} {i off : Nat} {cs : List SV} {x : α} (h : H[i]? = some (.cells cs)) (e : off + (c.enc x).cells.length ≤ cs.length) : dA c H i off x = some (H.set i (.cells (setCells cs off (c.enc x).cells))) := by
 unfold dA tg
 rw [g7 h, Option.bind_some, if_pos e]
theorem db {α : Type} {n : Nat} {c : Cd α} {H : Hp} {i off : Nat} {cs : List SV} {xs : List α} (h : H[i]? = some (.cells cs)) (e : cs[off]? = some (.own n (xs.map c.enc))) : cp n c H i off = some xs := by
 unfold cp
 rw [g7 h, Option.bind_some, e]
 simp only [if_true]
 exact mn c xs
theorem vM {α : Type} {n : Nat} {c : Cd α} {H : Hp} {i off : Nat} {cs : List SV} {xs : List α} (h : H[i]? = some (.cells cs)) (e : cs[off]? = some (.d (.list n (xs.map c.enc)))) : cp n c H i off = some xs := by
 unfold cp
 rw [g7 h, Option.bind_some, e]
 simp only [if_true]
 exact mn c xs
theorem ku {α : Type} {n : Nat} {c : Cd α} {H : Hp} {i off : Nat} {cs : List SV} {xs : List α} (h : H[i]? = some (.cells cs)) (e : cs[off]? = some (.own n (xs.map c.enc))) : eF n c H i off = some (xs, H.set i (.cells (cs.set off .undef))) := by
 unfold eF
 rw [g7 h, Option.bind_some, e]
 simp only [if_true, mn, Option.map_some]
theorem kx {α : Type} {n : Nat} {c : Cd α} {H : Hp} {i off : Nat} {cs : List SV} {xs : List α} (h : H[i]? = some (.cells cs)) (e : off < cs.length) : dB n c H i off xs = some (H.set i (.cells (cs.set off (.own n (xs.map c.enc))))) := by
 unfold dB
 rw [g7 h, Option.bind_some, if_pos e]
theorem rT {K V : Type} [BEq K] {k : Kc K} {v : Cd V} {H : Hp} {i : Nat} {es : List (K × V)} (h : H[i]? = some (.map (es.map (fO k v)))) : pL k v H (some i) = some es := oJ.2 h
theorem th {K V : Type} [BEq K] {k : Kc K} {v : Cd V} {H : Hp} {i : Nat} {es : List (K × V)} {x : K} (h : H[i]? = some (.map (es.map (fO k v)))) : pM k v H (some i) x = some (es.lookup x) := by
 unfold pM
 rw [rT h]
 rfl
theorem xP {K V : Type} [BEq K] {k : Kc K} {v : Cd V} {H : Hp} {i : Nat} {es : List (K × V)} {x : K} {y : V} (h : H[i]? = some (.map (es.map (fO k v)))) : pK k v H (some i) x y = some (H.set i (.map ((qk x y es).map (fO k v)))) := by
 unfold pK
 rw [Option.bind_some, rT h]
 rfl
theorem zq {K V : Type} [BEq K] {k : Kc K} {v : Cd V} {H : Hp} {i : Nat} {es : List (K × V)} (h : H[i]? = some (.map (es.map (fO k v)))) : rU k v H (some i) = some (es.length : Int) := by
 unfold rU
 rw [rT h]
 rfl
def uH (l : List Int) : List (Int × Bool) := l.map fun n => (n, true)
theorem sV (l : List Int) (n : Int) : ((uH l).lookup n).getD false = l.contains n := by
 induction l with
 | nil => rfl
 | cons a l ih =>
  simp only [uH, List.map_cons, List.lookup, List.contains_cons] at ih ⊢
  cases h : n == a with
  | true => rfl
  | false => simpa using ih
theorem zj {l : List Int} {n : Int} (h : l.contains n = false) : qk n true (uH l) = uH (l ++ [n]) := by
 induction l with
 | nil => rfl
 | cons a l ih =>
  simp only [List.contains_cons, Bool.or_eq_false_iff] at h
  simp only [uH, List.map_cons, List.cons_append, qk, h.1, Bool.false_eq_true, if_false] at ih ⊢
  rw [ih h.2]
theorem bD {H : Hp} {i j : Nat} {o : ar} (h : j ≠ i) : (H.set i o)[j]? = H[j]? := by rw [List.getElem?_set]; simp [Ne.symm h]
theorem bE {H : Hp} {i : Nat} {o o' : ar} (h : H[i]? = some o') : (H.set i o)[i]? = some o := by
 rw [List.getElem?_set]
 simp [(List.getElem?_eq_some_iff.1 h).1]
end Go.Sh
namespace Go.Sh
set_option maxRecDepth 100000
def aft (s : ah) (a b : Entry) : Bool := decide (np s a b < 0) && (s.Dup != 1 || df s.Down a.Row b.Row != 0)
theorem rr {s : ah} {a b c : Entry} (ha : bz s.aq a.Row = true) (hb : bz s.aq b.Row = true) (hc : bz s.aq c.Row = true) (h1 : aft s a b = true) (h2 : aft s b c = true) : aft s a c = true := by
 unfold aft at *
 simp only [Bool.and_eq_true, decide_eq_true_eq, Bool.or_eq_true, bne_iff_ne, ne_eq] at *
 refine ⟨uK ha hb hc h1.1 h2.1, ?_⟩
 rcases h1.2 with h | h
 ·exact .inl h
 rcases h2.2 with h' | h'
 ·exact .inl h'
 right
 have h3 := xw s.Down ha hb hc
 have e1 := h1.1
 have e2 := h2.1
 unfold np at e1 e2
 rw [if_neg h] at e1
 rw [if_neg h'] at e2
 intro e
 have := (h3 (by omega) (by omega)).2 e
 exact h this.1
def ew (s : ah) : Option Entry → Entry → Bool
 | none, _ => true
 | some a, e => aft s a e
def adj (s : ah) : Option Entry → List Entry → Bool
 | _, [] => true
 | p, e :: l => ew s p e && adj s (some e) l
def pP (s : ah) (last : Int) (met : List Int) (e : Entry) : Bool := okE s e && decide (e.Number ≤ last) && !met.contains e.Number
def kd (s : ah) (last : Int) : List Int → List Entry → Option (List Int)
 | met, [] => some met
 | met, e :: l => if pP s last met e then kd s last (met ++ [e.Number]) l else none
def rgt (s : ah) (last : Int) : Option Entry → List Int → List Entry → Option (List Int)
 | _, met, [] => some met
 | p, met, e :: l => if pP s last met e then (if ew s p e then rgt s last (some e) (met ++ [e.Number]) l else none) else none
theorem xj (s : ah) (last : Int) : ∀ (l : List Entry) (p : Option Entry) (met : List Int), rgt s last p met l = if adj s p l then kd s last met l else none
 | [], p, met => by simp [rgt, adj, kd]
 | e :: l, p, met => by
  simp only [rgt, adj, kd]
  rw [xj s last l]
  by_cases h1 : pP s last met e = true
  ·simp only [h1, if_true]
   by_cases h2 : ew s p e = true
   ·simp [h2]
   ·simp [h2]
  ·simp [h1]
def ldO (tr m : Nat) (nodes : List Node) (nx bad : Int) : ar := .cells [.d (cP.enc (some tr)), .d (.list 3 (List.map aI nodes)), .d (.int .i64 nx), .d (.map m), .d (.int .i64 bad)]
def trO (s : ah) (order : Int) (root : Option Nat) (last count : Int) : ar :=
 .cells [.d (.list 1 (List.map (D.int .i64) s.aq)), .d (.list 1 (List.map D.bool s.Down)), .d (.int .i64 s.Dup), .d (.int .i64 order), .d (cP.enc root), .d (.int .i64 last), .d (.int .i64 count)]
def cT (met : List Int) : ar := .map ((uH met).map (fO (kI .i64) cB))
structure LdI (p0 tr m : Nat) (s : ah) (order last : Int) (nodes : List Node) (H : Hp) (nx bad : Int) : Prop where
 hp : H[p0]? = some (ldO tr m nodes nx bad)
 ht : ∃ r c, H[tr]? = some (trO s order r last c)
 hm : ∃ o, H[m]? = some o
 n1 : p0 ≠ m
 n2 : tr ≠ m
 n3 : tr ≠ p0
section
variable {p0 tr m : Nat} {s : ah} {order last : Int} {nodes : List Node} {H : Hp} {nx bad : Int}
theorem LdI.map (h : LdI p0 tr m s order last nodes H nx bad) (o : ar) : LdI p0 tr m s order last nodes (H.set m o) nx bad := by
 obtain ⟨o', ho⟩ := h.hm
 exact ⟨by rw [bD h.n1]; exact h.hp, by rw [bD h.n2]; exact h.ht, ⟨_, bE ho⟩, h.n1, h.n2, h.n3⟩
theorem LdI.tree (h : LdI p0 tr m s order last nodes H nx bad) : bg cP.cell H p0 0 = some (some tr) := cE (r := [.d (.list 3 (List.map aI nodes)), .d (.int .i64 nx), .d (.map m), .d (.int .i64 bad)]) h.hp rfl
theorem LdI.nds (h : LdI p0 tr m s order last nodes H nx bad) : cp 3 jI H p0 1 = some nodes := vM h.hp rfl
theorem LdI.nxt (h : LdI p0 tr m s order last nodes H nx bad) : bg (cI .i64).cell H p0 2 = some nx := cE (r := [.d (.map m), .d (.int .i64 bad)]) h.hp rfl
theorem LdI.mp (h : LdI p0 tr m s order last nodes H nx bad) : bg cM.cell H p0 3 = some (some m) := cE (r := [.d (.int .i64 bad)]) h.hp rfl
theorem LdI.bd (h : LdI p0 tr m s order last nodes H nx bad) : bg (cI .i64).cell H p0 4 = some bad := cE (r := []) h.hp rfl
theorem LdI.srt (h : LdI p0 tr m s order last nodes H nx bad) : bg bu.cells H tr 0 = some s := by
 obtain ⟨r, c, ht⟩ := h.ht
 exact cE (r := [.d (.int .i64 order), .d (cP.enc r), .d (.int .i64 last), .d (.int .i64 c)]) ht rfl
theorem LdI.dup (h : LdI p0 tr m s order last nodes H nx bad) : bg (cI .i64).cell H tr 2 = some s.Dup := by
 obtain ⟨r, c, ht⟩ := h.ht
 exact cE (r := [.d (.int .i64 order), .d (cP.enc r), .d (.int .i64 last), .d (.int .i64 c)]) ht rfl
theorem LdI.ord (h : LdI p0 tr m s order last nodes H nx bad) : bg (cI .i64).cell H tr 3 = some order := by
 obtain ⟨r, c, ht⟩ := h.ht
 exact cE (r := [.d (cP.enc r), .d (.int .i64 last), .d (.int .i64 c)]) ht rfl
theorem LdI.lst (h : LdI p0 tr m s order last nodes H nx bad) : bg (cI .i64).cell H tr 5 = some last := by
 obtain ⟨r, c, ht⟩ := h.ht
 exact cE (r := [.d (.int .i64 c)]) ht rfl
theorem LdI.rD (h : LdI p0 tr m s order last nodes H nx bad) (b : Int) : dA (cI .i64) H p0 4 b = some (H.set p0 (ldO tr m nodes nx b)) := jy h.hp (by simp [cI, D.cells])
theorem LdI.Bo (h : LdI p0 tr m s order last nodes H nx bad) (b : Int) : dA (cI .i64) H p0 2 b = some (H.set p0 (ldO tr m nodes b bad)) := jy h.hp (by simp [cI, D.cells])
theorem LdI.put (h : LdI p0 tr m s order last nodes H nx bad) (a b : Int) : LdI p0 tr m s order last nodes (H.set p0 (ldO tr m nodes a b)) a b := by
 obtain ⟨o', ho⟩ := h.hm
 exact ⟨bE h.hp, by rw [bD h.n3]; exact h.ht, ⟨o', by rw [bD (Ne.symm h.n1)]; exact ho⟩, h.n1, h.n2, h.n3⟩
theorem p9 (hs : okS s = true) (h : LdI p0 tr m s order last nodes H nx bad) {a b : Entry} (ha : okE s a = true) (hb : okE s b = true) (na : i64 a.Number) (nb : i64 b.Number) : Ev (fun f => bl f p0 a b H) (aft s a b) := by
 have fa : bz s.aq a.Row = true := by simp only [okE, Bool.and_eq_true] at ha; exact ha.1.1
 have fb : bz s.aq b.Row = true := by simp only [okE, Bool.and_eq_true] at hb; exact hb.1.1
 have a1 : 1 ≤ a.Number := by simp only [okE, Bool.and_eq_true, decide_eq_true_eq] at ha; exact ha.2
 have b1 : 1 ≤ b.Number := by simp only [okE, Bool.and_eq_true, decide_eq_true_eq] at hb; exact hb.2
 obtain ⟨h8, hd⟩ := me hs
 unfold bl aft
 refine .ae h.tree <| .ae rfl <| .ae h.srt <| .bind (ny hs fa fb ⟨a1, na⟩ ⟨b1, nb⟩) ?_
 cases hc : decide (np s a b < 0) with
 | false => exact .f rfl (.pure _)
 | true =>
  refine .t rfl <| .ae h.tree <| .ae rfl <| .ae h.dup ?_
  cases hd1 : s.Dup != 1 with
  | true => exact .t rfl (.pure _)
  | false => exact .f rfl <| .ae h.tree <| .ae rfl <| .ae h.srt <| .bind (oZ s hd fa fb h8) (.pure _)
theorem tn {met : List Int} {e : Entry} (h : pP s last met e = true) : okE s e = true ∧ e.Number ≤ last ∧ met.contains e.Number = false := by
 simp only [pP, Bool.and_eq_true, decide_eq_true_eq, Bool.not_eq_true'] at h
 exact ⟨h.1.1, h.1.2, h.2⟩
theorem qF (hs : okS s = true) (h : LdI p0 tr m s order last nodes H nx bad) {x : Node} (hl : x.Entries.length < 1000000) (hr : ∀ e ∈ x.Entries, e.Row.length < 1000 ∧ i64 e.Number) :
  ∀ (l : List Entry) (k : Nat) (p : Option Entry) (met : List Int), x.Entries.drop k = l → (k = 0 → p = none) → (∀ j, k = j + 1 → p = x.Entries[j]?) → (∀ e, p = some e → okE s e = true) →
   match rgt s last p met l with
   | some met' => EvL (fun f => bp f p0 x) (x.Level, x.Entries, x.Kids, (k : Int), H.set m (cT met)) (.inl (H.set m (cT met')))
   | none => ∃ met', EvL (fun f => bp f p0 x) (x.Level, x.Entries, x.Kids, (k : Int), H.set m (cT met)) (.inr (false, H.set m (cT met')))
 | [], k, p, met, hd, h0, h1, hp => by
  have hk : x.Entries.length ≤ k := by simpa using hd
  simp only [rgt]
  refine .stop ?_
  unfold bp
  exact .f (dge hk) (.pure _)
 | e :: l, k, p, met, hd, h0, h1, hp => by
  have hk : k < x.Entries.length := by
   by_cases hk : k < x.Entries.length
   ·exact hk
   ·rw [List.drop_eq_nil_of_le (by omega)] at hd; cases hd
  have hek : x.Entries[k] = e := by rw [aF hk] at hd; exact (List.cons.inj hd).1
  have hdl : x.Entries.drop (k + 1) = l := by rw [aF hk] at hd; exact (List.cons.inj hd).2
  have he := hr e (hek ▸ List.getElem_mem hk)
  have hM : (H.set m (cT met))[m]? = some (cT met) := by obtain ⟨o, ho⟩ := h.hm; exact bE ho
  have g := h.map (cT met)
  simp only [rgt]
  have bad1 : pP s last met e = false → Ev (fun f => bp f p0 x (x.Level, x.Entries, x.Kids, (k : Int), H.set m (cT met))) (.inr (.inr (false, H.set m (cT met)))) := by
   intro hf
   unfold bp
   refine .t (dlt hk) <| .ae (aw hk) <| .aX ?_
   rw [hek]
   refine .ae g.tree <| .ae rfl <| .ae g.srt <| .bind (vO s e.Row he.1) ?_
   cases h1 : bz s.aq e.Row with
   | false => exact .t rfl <| .t rfl (.pure _)
   | true =>
    refine .f rfl <| .bind (.of fun n => xL n _) ?_
    by_cases h2 : (1 ≤ e.Key ∧ e.Key ≤ 1000000) ∧ 1 ≤ e.Number
    ·refine .f (by first | (simp; done) | (simp; omega) | (simp only [decide_eq_true_eq, decide_eq_false_iff_not]; omega)) <| .ae g.tree <| .ae rfl <| .ae g.lst ?_
     by_cases h3 : e.Number ≤ last
     ·refine .f (by first | (simp; done) | (simp; omega) | (simp only [decide_eq_true_eq, decide_eq_false_iff_not]; omega)) <| .ae g.mp <| .ae (th hM) ?_
      have : met.contains e.Number = true := by
       cases hc : met.contains e.Number with
       | true => rfl
       | false =>
        have : pP s last met e = true := by simp only [pP, okE, h1, hc, Bool.and_eq_true, decide_eq_true_eq, Bool.true_and, Bool.not_false, and_true]; exact ⟨⟨⟨h2.1.1, h2.1.2⟩, h2.2⟩, h3⟩
        rw [this] at hf; cases hf
      exact .t (by rw [sV, this]) (.pure _)
     ·exact .t (by first | (simp; done) | (simp; omega) | (simp only [decide_eq_true_eq, decide_eq_false_iff_not]; omega)) <| .t rfl (.pure _)
    ·exact .t (by first | (simp; done) | (simp; omega) | (simp only [decide_eq_true_eq, decide_eq_false_iff_not]; omega)) <| .t rfl (.pure _)
  cases hf : pP s last met e with
  | false => exact ⟨met, .stop (bad1 hf)⟩
  | true =>
   obtain ⟨f1, f2, f3⟩ := tn hf
   have f1' := f1
   simp only [okE, Bool.and_eq_true, decide_eq_true_eq] at f1'
   have hset : (H.set m (cT met)).set m (cT (met ++ [e.Number])) = H.set m (cT (met ++ [e.Number])) := by rw [List.set_set]
   have hput : pK (kI .i64) cB (H.set m (cT met)) (some m) e.Number true = some (H.set m (cT (met ++ [e.Number]))) := by
    rw [xP hM, zj f3, ← hset]; rfl
   have g2 := h.map (cT (met ++ [e.Number]))
   have key : Ev (fun f => bp f p0 x (x.Level, x.Entries, x.Kids, (k : Int), H.set m (cT met)))
     (if ew s p e = true then .inl (x.Level, x.Entries, x.Kids, ((k + 1 : Nat) : Int), H.set m (cT (met ++ [e.Number]))) else .inr (.inr (false, H.set m (cT (met ++ [e.Number]))))) := by
    unfold bp
    refine .t (dlt hk) <| .ae (aw hk) <| .aX ?_
    rw [hek]
    refine .ae g.tree <| .ae rfl <| .ae g.srt <| .bind (vO s e.Row he.1) ?_
    rw [f1'.1.1]
    refine .f rfl <| .bind (.of fun n => xL n _) ?_
    refine .f (by first | (simp; done) | (simp; omega) | (simp only [decide_eq_true_eq, decide_eq_false_iff_not]; omega)) <| .ae g.tree <| .ae rfl <| .ae g.lst ?_
    refine .f (by first | (simp; done) | (simp; omega) | (simp only [decide_eq_true_eq, decide_eq_false_iff_not]; omega)) <| .ae g.mp <| .ae (th hM) ?_
    refine .f (by rw [sV, f3]) <| .ae g.mp <| .ae hput <| .aX ?_
    rw [dH (by omega)]
    obtain rfl | ⟨j, rfl⟩ : k = 0 ∨ ∃ j, k = j + 1 := by cases k <;> simp
    ·have hp0 := h0 rfl
     subst hp0
     simp only [ew]
     exact .f (by simp) <| .f (by simp) (.pure _)
    ·have hj : j < x.Entries.length := by omega
     have hp1 := h1 j rfl
     rw [List.getElem?_eq_getElem hj] at hp1
     have ha := hp _ hp1
     have hna := hr _ (List.getElem_mem hj)
     subst hp1
     simp only [ew]
     have hix : idx x.Entries (IntKind.wrap .i64 (((j + 1 : Nat) : Int) - 1)) = some x.Entries[j] := by
      rw [cO (by omega) (by omega), show ((j + 1 : Nat) : Int) - 1 = (j : Int) by omega]; exact aw hj
     have ha' := ha
     simp only [okE, Bool.and_eq_true, decide_eq_true_eq] at ha'
     obtain ⟨h8, hd⟩ := me hs
     refine .t (by first | (simp; done) | (simp; omega) | (simp only [decide_eq_true_eq, decide_eq_false_iff_not]; omega)) <| .ae g2.tree <| .ae rfl <| .ae g2.srt <| .ae hix <| .bind (ny hs ha'.1.1 f1'.1.1 ⟨ha'.2, hna.2⟩ ⟨f1'.2, he.2⟩) ?_
     by_cases hc : np s x.Entries[j] e < 0
     ·refine .f (by first | (simp; done) | (simp; omega) | (simp only [decide_eq_true_eq, decide_eq_false_iff_not]; omega)) <| .t (by first | (simp; done) | (simp; omega) | (simp only [decide_eq_true_eq, decide_eq_false_iff_not]; omega)) <| .ae g2.tree <| .ae rfl <| .ae g2.dup ?_
      by_cases hdp : s.Dup = 1
      ·refine .t (by simp [hdp]) <| .ae g2.tree <| .ae rfl <| .ae g2.srt <| .ae hix <| .bind (oZ s hd ha'.1.1 f1'.1.1 h8) ?_
       by_cases hz : df s.Down x.Entries[j].Row e.Row = 0
       ·simp only [show aft s x.Entries[j] e = false by simp [aft, hdp, hz], Bool.false_eq_true, if_false]
        exact .t (by simp [hz]) (.pure _)
       ·simp only [show aft s x.Entries[j] e = true by simp [aft, hc, hz], if_true]
        exact .f (by simp [hz]) (.pure _)
      ·simp only [show aft s x.Entries[j] e = true by simp [aft, hc, hdp], if_true]
       exact .f (by simp [hdp]) (.pure _)
     ·simp only [show aft s x.Entries[j] e = false by simp [aft, hc], Bool.false_eq_true, if_false]
      exact .t (by first | (simp; done) | (simp; omega) | (simp only [decide_eq_true_eq, decide_eq_false_iff_not]; omega)) (.pure _)
   simp only [if_true]
   by_cases ho : ew s p e = true
   ·rw [if_pos ho] at key ⊢
    have ih := qF hs h hl hr l (k + 1) (some e) (met ++ [e.Number]) hdl (by omega) (fun j hj => by
     obtain rfl : j = k := by omega
     rw [List.getElem?_eq_getElem hk, hek]) (fun e' h' => by cases h'; exact f1)
    cases hq : rgt s last (some e) (met ++ [e.Number]) l with
    | none => rw [hq] at ih; obtain ⟨met', ih⟩ := ih; exact ⟨met', .next key ih⟩
    | some met' => rw [hq] at ih; exact .next key ih
   ·rw [if_neg ho] at key ⊢
    exact ⟨_, .stop key⟩
end
end Go.Sh
namespace Go.Sh
set_option maxRecDepth 100000
theorem mB {α : Type} {F g : Nat → Option α} {r : α} (h : ∀ n, F (n + 1) = g n) (hg : Ev g r) : Ev F r := by
 obtain ⟨N, hN⟩ := hg
 refine ⟨N + 1, fun n hn => ?_⟩
 obtain ⟨n, rfl⟩ : ∃ k, n = k + 1 := ⟨n - 1, by omega⟩
 rw [h]
 exact hN n (by omega)
section
variable (s : ah) (order last : Int) (nodes : List Node)
def jL (low high : Option Entry) (x : Node) : Bool :=
 (match low, x.Entries.head? with | some l, some a => aft s l a | _, _ => true) && (match high, x.Entries.getLast? with | some h, some b => aft s b h | _, _ => true)
def pW (root : Bool) (x : Node) : Bool := decide ((x.Entries.length : Int) ≤ order) && (root || decide (order / 2 ≤ (x.Entries.length : Int)))
def og (root : Bool) (level : Int) (x : Node) : Bool := decide (0 ≤ x.Level) && (root || x.Level == level)
def ql (x : Node) : Bool := x.Kids.length == (if 0 < x.Level then x.Entries.length + 1 else 0) && x.Kids.length != 1
def okN (root : Bool) (level : Int) (low high : Option Entry) (met : List Int) (x : Node) : Option (List Int) :=
 if pW order root x && og root level x && ql x && adj s none x.Entries && jL s low high x then kd s last met x.Entries else none
def kg (x : Node) (low : Option Entry) (i : Nat) : Option Entry := if 0 < i then x.Entries[i - 1]? else low
def fK (x : Node) (high : Option Entry) (i : Nat) : Option Entry := if i < x.Entries.length then x.Entries[i]? else high
def wkK (rc : Nat → Int → Option Entry → Option Entry → List Int → Nat ⊕ (Nat × List Int)) (at_ : Nat) (x : Node) (low high : Option Entry) : List Int → Nat → Nat → List Int → Nat ⊕ (Nat × List Int)
 | [], _, nx, met => .inr (nx, met)
 | k :: ks, i, nx, met => if k = (nx : Int) ∧ nx < nodes.length then
   match rc nx (x.Level - 1) (kg x low i) (fK x high i) met with
   | .inl b => .inl b
   | .inr (nx', met') => wkK rc at_ x low high ks (i + 1) nx' met'
  else .inl at_
def wk : Nat → Nat → Int → Option Entry → Option Entry → List Int → Nat ⊕ (Nat × List Int)
 | 0, at_, _, _, _, _ => .inl at_
 | d + 1, at_, level, low, high, met => match nodes[at_]? with
  | none => .inl at_
  | some x => match okN s order last (at_ == 0) level low high met x with
   | none => .inl at_
   | some met' => wkK nodes (wk d) at_ x low high x.Kids 0 (at_ + 1) met'
end
def ndO (es : List Entry) (is : List (Option Nat)) : ar := .cells [.own 3 (List.map ab es), .own 1 (List.map cP.enc is)]
def HKs (P : Nat → Nat → Nat → Prop) : List Int → List (Option Nat) → Nat → Nat → Prop
 | [], [], a, z => a = z
 | k :: ks, some i :: is, a, z => k = (a : Int) ∧ ∃ m, P a m i ∧ HKs P ks is m z
 | _, _, _, _ => False
def HN (b : Nat) (nodes : List Node) (H : Hp) : Nat → Nat → Nat → Nat → Prop
 | 0, a, z, i => ∃ x, nodes[a]? = some x ∧ x.Level = 0 ∧ x.Kids = [] ∧ H[i]? = some (ndO x.Entries []) ∧ z = a + 1 ∧ b ≤ i
 | lv + 1, a, z, i => ∃ x is, nodes[a]? = some x ∧ x.Level = ((lv + 1 : Nat) : Int) ∧ x.Kids.length = x.Entries.length + 1 ∧ H[i]? = some (ndO x.Entries is) ∧ b ≤ i ∧ HKs (HN b nodes H lv) x.Kids is (a + 1) z
theorem HKs.mono {P P' : Nat → Nat → Nat → Prop} (h : ∀ a z i, P a z i → P' a z i) : ∀ {ks : List Int} {is : List (Option Nat)} {a z : Nat}, HKs P ks is a z → HKs P' ks is a z
 | [], [], a, z, hh => hh
 | k :: ks, some i :: is, a, z, hh => by
  obtain ⟨h1, m, h2, h3⟩ := hh
  exact ⟨h1, m, h _ _ _ h2, HKs.mono h h3⟩
 | [], some _ :: _, _, _, hh => hh.elim
 | [], none :: _, _, _, hh => hh.elim
 | _ :: _, [], _, _, hh => hh.elim
 | _ :: _, none :: _, _, _, hh => hh.elim
theorem HN.frame {b : Nat} {nodes : List Node} {H H' : Hp} (h : ∀ j, b ≤ j → j < H.length → H'[j]? = H[j]?) : ∀ {lv a z i : Nat}, HN b nodes H lv a z i → HN b nodes H' lv a z i
 | 0, a, z, i, hh => by
  obtain ⟨x, h1, h2, h3, h4, h5, h6⟩ := hh
  exact ⟨x, h1, h2, h3, by rw [h i h6 (List.getElem?_eq_some_iff.1 h4).1]; exact h4, h5, h6⟩
 | lv + 1, a, z, i, hh => by
  obtain ⟨x, is, h1, h2, h3, h4, h5, h6⟩ := hh
  exact ⟨x, is, h1, h2, h3, by rw [h i h5 (List.getElem?_eq_some_iff.1 h4).1]; exact h4, h5, h6.mono fun _ _ _ hp => HN.frame h hp⟩
theorem HN.base {b b' : Nat} (hb : b' ≤ b) {nodes : List Node} {H : Hp} : ∀ {lv a z i : Nat}, HN b nodes H lv a z i → HN b' nodes H lv a z i
 | 0, a, z, i, hh => by
  obtain ⟨x, h1, h2, h3, h4, h5, h6⟩ := hh
  exact ⟨x, h1, h2, h3, h4, h5, by omega⟩
 | lv + 1, a, z, i, hh => by
  obtain ⟨x, is, h1, h2, h3, h4, h5, h6⟩ := hh
  exact ⟨x, is, h1, h2, h3, h4, by omega, h6.mono fun _ _ _ hp => HN.base hb hp⟩
section
variable {p0 tr m : Nat} {s : ah} {order last : Int} {nodes : List Node} {H : Hp} {nx bad : Int}
theorem s7 (h : LdI p0 tr m s order last nodes H nx bad) (h3 : 3 ≤ order) (h32 : order ≤ 32) : Ev (fun f => fv f tr H) (order / 2) := by
 unfold fv
 refine .ae h.ord ?_
 rw [show Int.tdiv order 2 = order / 2 by rw [Int.tdiv_eq_ediv_of_nonneg (by omega)], cO (by omega) (by omega)]
 exact .pure _
theorem xi (hs : okS s = true) (h : LdI p0 tr m s order last nodes H nx bad) {met : List Int} (hm : H[m]? = some (cT met)) (h3 : 3 ≤ order) (h32 : order ≤ 32) {x : Node} {root : Bool} {inn : T82} (hl : x.Entries.length < 1000000)
  (hr : ∀ e ∈ x.Entries, e.Row.length < 1000 ∧ i64 e.Number) :
  match (if pW order root x then rgt s last none met x.Entries else none) with
  | some met' => Ev (fun f => bI f p0 x root inn H) (true, H.set m (cT met'))
  | none => ∃ met', Ev (fun f => bI f p0 x root inn H) (false, H.set m (cT met')) := by
 have hH : H.set m (cT met) = H := by
  apply List.ext_getElem?
  intro j
  by_cases hj : j = m
  ·subst hj; rw [bE hm, hm]
  ·exact bD hj
 have L := qF hs h hl hr x.Entries 0 none met (by simp) (fun _ => rfl) (fun j hj => by omega) (fun e he => by cases he)
 rw [hH] at L
 have body : ∀ {r}, Ev (fun f => (iter (bp f p0 x) f (x.Level, x.Entries, x.Kids, 0, H)).bind (Sum.elim (fun v41 => some (true, v41)) (fun r42 => some r42))) r → pW order root x = true → Ev (fun f => bI f p0 x root inn H) r := by
  intro r hE hc
  simp only [pW, Bool.and_eq_true, Bool.or_eq_true, decide_eq_true_eq] at hc
  unfold bI
  refine .aX <| .ae h.tree <| .ae rfl <| .ae h.ord <| .f (by simp; omega) ?_
  cases root with
  | true => exact .f rfl hE
  | false =>
   refine .t rfl <| .ae h.tree <| .ae rfl <| .bind (s7 h h3 h32) <| .f ?_ hE
   simp only [Bool.false_eq_true, false_or] at hc
   simp; omega
 cases hc : pW order root x with
 | true =>
  simp only [if_true]
  cases hq : rgt s last none met x.Entries with
  | some met' =>
   rw [hq] at L
   exact body (.bind L.ev (.pure _)) hc
  | none =>
   rw [hq] at L
   obtain ⟨met', L⟩ := L
   exact ⟨met', body (.bind L.ev (.pure _)) hc⟩
 | false =>
  simp only [Bool.false_eq_true, if_false]
  refine ⟨met, ?_⟩
  rw [hH]
  unfold bI
  refine .aX <| .ae h.tree <| .ae rfl <| .ae h.ord ?_
  simp only [pW, Bool.and_eq_false_iff, Bool.or_eq_false_iff, decide_eq_false_iff_not] at hc
  by_cases ho : (x.Entries.length : Int) ≤ order
  ·rcases hc with hc | ⟨rfl, hc⟩
   ·omega
   ·exact .f (by simp; omega) <| .t rfl <| .ae h.tree <| .ae rfl <| .bind (s7 h h3 h32) <| .t (by simp; omega) (.pure _)
  ·exact .t (by simp; omega) (.pure _)
end
end Go.Sh
namespace Go.Sh
set_option maxRecDepth 100000
def okO (s : ah) (o : Option Entry) : Prop := ∀ e, o = some e → okE s e = true ∧ i64 e.Number
def NdB (nodes : List Node) : Prop := nodes.length < 1000 ∧ ∀ x ∈ nodes, x.Entries.length < 1000 ∧ x.Kids.length < 1000 ∧ i64 x.Level ∧ ∀ e ∈ x.Entries, e.Row.length < 1000 ∧ i64 e.Number
theorem w5 {nodes : List Node} {rc : Nat → Int → Option Entry → Option Entry → List Int → Nat ⊕ (Nat × List Int)} (hrc : ∀ a lv lo hi mt z m', rc a lv lo hi mt = .inr (z, m') → a < z) {a : Nat} {x : Node} {low high : Option Entry} :
  ∀ {ks : List Int} {i nx : Nat} {met : List Int} {z : Nat} {m' : List Int}, wkK nodes rc a x low high ks i nx met = .inr (z, m') → nx ≤ z
 | [], i, nx, met, z, m', h => by simp only [wkK, Sum.inr.injEq, Prod.mk.injEq] at h; omega
 | k :: ks, i, nx, met, z, m', h => by
  simp only [wkK] at h
  split at h
  ·split at h
   ·cases h
   ·rename_i nx' met' hr
    have := hrc _ _ _ _ _ _ _ hr
    have := w5 hrc h
    omega
  ·cases h
theorem wZ {s : ah} {order last : Int} {nodes : List Node} : ∀ {d a : Nat} {lv : Int} {lo hi : Option Entry} {mt : List Int} {z : Nat} {m' : List Int}, wk s order last nodes d a lv lo hi mt = .inr (z, m') → a < z
 | 0, a, lv, lo, hi, mt, z, m', h => by cases h
 | d + 1, a, lv, lo, hi, mt, z, m', h => by
  simp only [wk] at h
  split at h
  ·cases h
  ·split at h
   ·cases h
   ·have := w5 (fun _ _ _ _ _ _ _ hq => wZ hq) h
    omega
theorem w4 {s : ah} {order last : Int} {nodes : List Node} {d a : Nat} {lv : Int} {lo hi : Option Entry} {mt : List Int} {z : Nat} {m' : List Int} (h : wk s order last nodes d a lv lo hi mt = .inr (z, m')) (h0 : a ≠ 0) : ∃ x, nodes[a]? = some x ∧ x.Level = lv := by
 cases d with
 | zero => cases h
 | succ d =>
  simp only [wk] at h
  split at h
  ·cases h
  ·rename_i x hx
   split at h
   ·cases h
   ·rename_i met' hm
    refine ⟨x, hx, ?_⟩
    unfold okN at hm
    split at hm
    ·rename_i hc
     simp only [Bool.and_eq_true, og, Bool.or_eq_true, beq_iff_eq] at hc
     have := hc.1.1.1.2.2
     rcases this with h | h
     ·exact absurd h h0
     ·exact h
    ·cases hm
section
variable {p0 tr m : Nat} {s : ah} {order last : Int} {nodes : List Node}
def tS (p0 tr m : Nat) (s : ah) (order last : Int) (nodes : List Node) (f : Nat → Option (Option Nat × Hp)) (H : Hp) (a : Nat) (r : Nat ⊕ (Nat × List Int)) : Prop :=
 match r with
 | .inl b => ∃ H' nx', Ev f (none, H') ∧ LdI p0 tr m s order last nodes H' nx' (b : Nat)
 | .inr (z, met') => ∃ H' i lv bad', Ev f (some i, H') ∧ LdI p0 tr m s order last nodes H' (z : Nat) bad' ∧ H'[m]? = some (cT met') ∧ HN H.length nodes H' lv a z i ∧ H.length ≤ H'.length ∧ (∀ j, j ≠ p0 → j ≠ m → j < H.length → H'[j]? = H[j]?)
theorem LdI.frame {H H' : Hp} {nx bad : Int} {out : Nat} (h : LdI p0 tr m s order last nodes H nx bad) (hp : out ≠ p0) (hm : out ≠ m) (ht : out ≠ tr) (hf : ∀ j, j ≠ out → H'[j]? = H[j]?) : LdI p0 tr m s order last nodes H' nx bad := by
 obtain ⟨r, c, h2⟩ := h.ht
 exact ⟨by rw [hf _ (Ne.symm hp)]; exact h.hp, ⟨r, c, by rw [hf _ (Ne.symm ht)]; exact h2⟩, by obtain ⟨o, ho⟩ := h.hm; exact ⟨o, by rw [hf _ (Ne.symm hm)]; exact ho⟩, h.n1, h.n2, h.n3⟩
set_option maxHeartbeats 1000000 in
theorem tc {d a out lvk : Nat} {x : Node} {low high : Option Entry} {q30 : Hp × Nat} {j8 : Int × Bool} {v38 : (Option Entry) × (Option Entry) × Int × (List Entry) × (List Int) × Hp} {RC : Nat → Nat → Int → T82 → Hp → Option ((Option Nat) × Hp)}
  (hN : NdB nodes) (hxm : x ∈ nodes) (hq : q30.2 = out) (hj8 : j8.1 = x.Level) (hv : v38.2.2.2.2.1 = x.Kids) (hk : x.Kids ≠ [] → x.Kids.length = x.Entries.length + 1 ∧ x.Level = ((lvk + 1 : Nat) : Int))
  (hlow : okO s low) (hhigh : okO s high) (hes : ∀ e ∈ x.Entries, okE s e = true) (op : p0 < out) (om : m < out) (ot : tr < out)
  (hrc : ∀ (nx : Nat) (level : Int) (lo hi : Option Entry) (met : List Int) (H : Hp) (bad : Int), a < nx → nx < nodes.length → 0 ≤ level → i64 level → okO s lo → okO s hi → LdI p0 tr m s order last nodes H nx bad → H[m]? = some (cT met) →
   tS p0 tr m s order last nodes (fun n => RC n p0 level ⟨lo, hi⟩ H) H nx (wk s order last nodes d nx level lo hi met)) :
  ∀ (ks : List Int) (i nx : Nat) (met : List Int) (H : Hp) (bad : Int) (is : List (Option Nat)), x.Kids.drop i = ks → i ≤ x.Kids.length → is.length = i → a < nx → LdI p0 tr m s order last nodes H nx bad → H[m]? = some (cT met) → H[out]? = some (ndO x.Entries is) →
   match wkK nodes (wk s order last nodes d) a x low high ks i nx met with
   | .inl b => ∃ H' nx', EvL (fun n => ba n (RC n) p0 (a : Int) x j8 q30 v38) (low, high, x.Level, x.Entries, x.Kids, (i : Int), H) (.inr (none, H')) ∧ LdI p0 tr m s order last nodes H' nx' (b : Nat)
   | .inr (z, met') => ∃ H' is' bad', EvL (fun n => ba n (RC n) p0 (a : Int) x j8 q30 v38) (low, high, x.Level, x.Entries, x.Kids, (i : Int), H) (.inl H') ∧ LdI p0 tr m s order last nodes H' (z : Nat) bad' ∧ H'[m]? = some (cT met') ∧
     H'[out]? = some (ndO x.Entries (is ++ is')) ∧ HKs (HN (out + 1) nodes H' lvk) ks is' nx z ∧ H.length ≤ H'.length ∧ (∀ j, j ≠ p0 → j ≠ m → j ≠ out → j < H.length → H'[j]? = H[j]?)
 | [], i, nx, met, H, bad, is, hd, hi, hl, ha, h, hm, ho => by
  have hik : x.Kids.length ≤ i := by simpa using hd
  simp only [wkK]
  refine ⟨H, [], bad, .stop ?_, h, hm, by simpa using ho, rfl, Nat.le_refl _, fun _ _ _ _ _ => rfl⟩
  unfold ba
  rw [hv]
  exact .f (dge hik) (.pure _)
 | k :: ks, i, nx, met, H, bad, is, hd, hi, hl, ha, h, hm, ho => by
  have hik : i < x.Kids.length := by
   by_cases hk : i < x.Kids.length
   ·exact hk
   ·rw [List.drop_eq_nil_of_le (by omega)] at hd; cases hd
  have hek : x.Kids[i] = k := by rw [aF hik] at hd; exact (List.cons.inj hd).1
  have hdl : x.Kids.drop (i + 1) = ks := by rw [aF hik] at hd; exact (List.cons.inj hd).2
  have hne : x.Kids ≠ [] := by intro e; rw [e] at hik; simp at hik
  obtain ⟨hk1, hk2⟩ := hk hne
  obtain ⟨b1, b2, b3, b4⟩ := hN.2 x hxm
  have hN1 := hN.1
  simp only [wkK]
  by_cases hc : k = (nx : Int) ∧ nx < nodes.length
  ·rw [if_pos hc]
   -- the recursion
   have hlo : okO s (kg x low i) := by
    unfold kg
    split
    ·intro e he
     have := List.mem_of_getElem? he
     exact ⟨hes e this, (b4 e this).2⟩
    ·exact hlow
   have hhi : okO s (fK x high i) := by
    unfold fK
    split
    ·intro e he
     have := List.mem_of_getElem? he
     exact ⟨hes e this, (b4 e this).2⟩
    ·exact hhigh
   have R := hrc nx (x.Level - 1) (kg x low i) (fK x high i) met H bad ha hc.2 (by omega) (by unfold i64 at *; omega) hlo hhi h hm
   have step : ∀ {r o}, Ev (fun n => RC n p0 (x.Level - 1) ⟨kg x low i, fK x high i⟩ H) r →
     Ev (fun n => Option.elim r.1 (some (.inr (.inr (none, r.2)))) (fun i53 =>
       (eF 1 cP r.2 q30.2 1).bind fun q54 =>
       chk (decide ((q54.1 ++ [(some i53)]).length ≤ room)) <|
       (dB 1 cP q54.2 q30.2 1 (q54.1 ++ [(some i53)])).bind fun H55 =>
       some (.inl (low, high, x.Level, x.Entries, x.Kids, ((i + 1 : Nat) : Int), H55)))) o →
     Ev (fun n => ba n (RC n) p0 (a : Int) x j8 q30 v38 (low, high, x.Level, x.Entries, x.Kids, (i : Int), H)) o := by
    intro r o hr hE
    unfold ba
    rw [hv, hj8]
    refine .t (dlt hik) <| .ae (aw hik) <| .aX ?_
    rw [hek]
    refine .ae h.nxt <| .f (by simp [hc.1]) <| .ae h.nds <| .f (by simp; omega) <| .aX ?_
    have tail : ∀ {lo : Option Entry}, lo = kg x low i → Ev (fun n => aX (fun (j49 : Option Entry) =>
      (RC n p0 (IntKind.wrap .i64 (x.Level - 1)) (⟨lo, j49⟩ : T82) H).bind fun r52 =>
      (Option.elim r52.1
       (some (.inr (.inr (none, r52.2))))
      (fun i53 =>
       (eF 1 cP r52.2 q30.2 1).bind fun q54 =>
       chk (decide ((q54.1 ++ [(some i53)]).length ≤ room)) <|
       (dB 1 cP q54.2 q30.2 1 (q54.1 ++ [(some i53)])).bind fun H55 =>
       some (.inl (low, high, x.Level, x.Entries, x.Kids, (IntKind.wrap .i64 ((i : Int) + 1)), H55))))) fun jp50 =>
     bif (decide ((i : Int) < (x.Entries.length : Int))) then
      (idx x.Entries (i : Int)).bind fun x51 =>
      jp50 (some x51)
     else
      jp50 high) o := by
     rintro lo rfl
     rw [dH (by omega), cO (x := x.Level - 1) (by unfold i64 at b3; omega) (by unfold i64 at b3; omega)]
     refine .aX ?_
     by_cases hx : i < x.Entries.length
     ·refine .t (dlt hx) <| .ae (aw hx) ?_
      have e : fK x high i = some x.Entries[i] := by unfold fK; rw [if_pos hx, List.getElem?_eq_getElem hx]
      rw [e] at hr
      exact .bind hr hE
     ·refine .f (dge (by omega)) ?_
      have e : fK x high i = high := by unfold fK; rw [if_neg hx]
      rw [e] at hr
      exact .bind hr hE
    by_cases h0 : 0 < i
    ·have hj : i - 1 < x.Entries.length := by omega
     have hix : idx x.Entries (IntKind.wrap .i64 ((i : Int) - 1)) = some x.Entries[i - 1] := by
      rw [cO (by omega) (by omega), show (i : Int) - 1 = ((i - 1 : Nat) : Int) by omega]; exact aw hj
     exact .t (by simp; omega) <| .ae hix <| tail (by unfold kg; rw [if_pos h0, List.getElem?_eq_getElem hj])
    ·exact .f (by simp; omega) <| tail (by unfold kg; rw [if_neg h0])
   cases hw : wk s order last nodes d nx (x.Level - 1) (kg x low i) (fK x high i) met with
   | inl b =>
    rw [hw] at R
    obtain ⟨H', nx', R1, R2⟩ := R
    exact ⟨H', nx', .stop (step R1 (.pure _)), R2⟩
   | inr q =>
    obtain ⟨z, met'⟩ := q
    rw [hw] at R
    obtain ⟨H1, i1, lv1, bad1, R1, R2, R3, R4, R5, R6⟩ := R
    have hlt : nx < z := wZ hw
    have hol : out < H.length := (List.getElem?_eq_some_iff.1 ho).1
    have ho1 : H1[out]? = some (ndO x.Entries is) := by rw [R6 out (by omega) (by omega) hol]; exact ho
    have hlv : lv1 = lvk := by
     obtain ⟨y, y1, y2⟩ := w4 hw (by omega)
     have : ∃ y', nodes[nx]? = some y' ∧ y'.Level = (lv1 : Int) := by
      cases lv1 with
      | zero => obtain ⟨y', g1, g2, -⟩ := R4; exact ⟨y', g1, by simpa using g2⟩
      | succ n => obtain ⟨y', -, g1, g2, -⟩ := R4; exact ⟨y', g1, g2⟩
     obtain ⟨y', g1, g2⟩ := this
     rw [y1] at g1; cases g1
     omega
    subst hlv
    let H2 : Hp := H1.set out (ndO x.Entries (is ++ [some i1]))
    have hf2 : ∀ j, j ≠ out → H2[j]? = H1[j]? := fun j hj => bD hj
    have l2 : H2.length = H1.length := List.length_set
    have T : Ev (fun n => ba n (RC n) p0 (a : Int) x j8 q30 v38 (low, high, x.Level, x.Entries, x.Kids, (i : Int), H)) (.inl (low, high, x.Level, x.Entries, x.Kids, ((i + 1 : Nat) : Int), H2)) := by
     refine step R1 ?_
     simp only [Option.elim, hq]
     have ht : eF 1 cP H1 out 1 = some (is, H1.set out (.cells [.own 3 (List.map ab x.Entries), .undef])) := ku ho1 rfl
     have hg : dB 1 cP (H1.set out (.cells [.own 3 (List.map ab x.Entries), .undef])) out 1 (is ++ [some i1]) = some H2 := by
      rw [kx (bE ho1) (by simp)]
      rw [List.set_set]
      rfl
     exact .ae ht <| .chk (by simp [room]; omega) <| .ae hg (.pure _)
    have IH := tc hN hxm hq hj8 hv hk hlow hhigh hes op om ot hrc ks (i + 1) z met' H2 bad1 (is ++ [some i1]) hdl (by omega) (by simp [hl]) (by omega) (R2.frame (by omega) (by omega) (by omega) hf2) (by rw [hf2 m (by omega)]; exact R3) (bE ho1)
    simp only
    cases hw2 : wkK nodes (wk s order last nodes d) a x low high ks (i + 1) z met' with
    | inl b =>
     rw [hw2] at IH
     obtain ⟨H', nx', I1, I2⟩ := IH
     exact ⟨H', nx', .next T I1, I2⟩
    | inr q =>
     obtain ⟨z', met2⟩ := q
     rw [hw2] at IH
     obtain ⟨H', is', bad', I1, I2, I3, I4, I5, I6, I7⟩ := IH
     refine ⟨H', some i1 :: is', bad', .next T I1, I2, I3, by simpa using I4, ⟨hc.1, z, ?_, I5⟩, by omega, fun j j1 j2 j3 j4 => ?_⟩
     ·have g1 : HN (out + 1) nodes H1 lv1 nx z i1 := R4.base (by omega)
      refine g1.frame fun j j1 j2 => ?_
      rw [I7 j (by omega) (by omega) (by omega) (by omega), hf2 j (by omega)]
     ·rw [I7 j j1 j2 j3 (by omega), hf2 j j3]
      exact R6 j j1 j2 j4
  ·rw [if_neg hc]
   simp only
   have hset := h.rD (a : Int)
   refine ⟨H.set p0 (ldO tr m nodes nx (a : Int)), nx, .stop ?_, h.put _ _⟩
   unfold ba
   rw [hv]
   refine .t (dlt hik) <| .ae (aw hik) <| .aX ?_
   rw [hek]
   refine .ae h.nxt ?_
   by_cases hkn : k = (nx : Int)
   ·exact .f (by simp [hkn]) <| .ae h.nds <| .t (by simp; omega) <| .ae hset (.pure _)
   ·exact .t (by simp [hkn]) <| .t rfl <| .ae hset (.pure _)
end
end Go.Sh
namespace Go.Sh
set_option maxRecDepth 100000
def nK (fuel : Nat) (rc : Nat → Int → T82 → Hp → Option ((Option Nat) × Hp)) (p0 : Nat) (x1 : Int) (p2 : T82) (x7 : Node) (H5 : Hp) (j8 : Int × Bool) : Option ((Option Nat) × Hp) :=
 aX (fun (j10 : Int) =>
  aX (fun (j12 : Bool × Hp) =>
   bif j12.1 then
    (dA (cI .i64) j12.2 p0 4 x1).bind fun H15 =>
    some (none, H15)
   else
    aX (fun (j16 : (Option Entry) × (Option Entry)) =>
     (mw j12.2 (.cells [.own 3 (List.map ab ([] : List Entry)), .own 1 (List.map cP.enc ([] : List (Option Nat)))])).bind fun q30 =>
     (iter (bX fuel x7 q30) fuel (j16.1, j16.2, x7.Level, x7.Entries, x7.Kids, 0, q30.1)).bind fun v38 =>
     (iter (ba fuel rc p0 x1 x7 j8 q30 v38) fuel (v38.1, v38.2.1, v38.2.2.1, v38.2.2.2.1, v38.2.2.2.2.1, 0, v38.2.2.2.2.2)).bind (Sum.elim (fun v57 =>
      some ((some q30.2), v57)) (fun r58 =>
      some r58))) fun jp17 =>
    bif (decide ((x7.Entries.length : Int) > 0)) then
     (Option.elim p2.low
      ((Option.elim p2.high
       (jp17 (none, none))
      (fun x19 =>
       (idx x7.Entries (IntKind.wrap .i64 ((x7.Entries.length : Int) - 1))).bind fun x20 =>
       (bl fuel p0 x20 x19 j12.2).bind fun r21 =>
       bif (!r21) then
        (dA (cI .i64) j12.2 p0 4 x1).bind fun H22 =>
        some (none, H22)
       else
        jp17 (none, (some x19)))))
     (fun x18 =>
      (idx x7.Entries 0).bind fun x23 =>
      (bl fuel p0 x18 x23 j12.2).bind fun r24 =>
      bif (!r24) then
       (dA (cI .i64) j12.2 p0 4 x1).bind fun H25 =>
       some (none, H25)
      else
       (Option.elim p2.high
        (jp17 ((some x18), none))
       (fun x26 =>
        (idx x7.Entries (IntKind.wrap .i64 ((x7.Entries.length : Int) - 1))).bind fun x27 =>
        (bl fuel p0 x27 x26 j12.2).bind fun r28 =>
        bif (!r28) then
         (dA (cI .i64) j12.2 p0 4 x1).bind fun H29 =>
         some (none, H29)
        else
         jp17 ((some x18), (some x26))))))
    else
     jp17 (p2.low, p2.high)) fun jp13 =>
  (bI fuel p0 x7 j8.2 p2 H5).bind fun r14 =>
  bif (((!r14.1) || (decide (x7.Level < 0))) || (x7.Level != j8.1)) then
   jp13 (true, r14.2)
  else
   jp13 ((((x7.Kids.length : Int) != j10) || (j10 == 1)), r14.2)) fun jp11 =>
 bif (decide (x7.Level > 0)) then
  jp11 (IntKind.wrap .i64 ((x7.Entries.length : Int) + 1))
 else
  jp11 0
def nM (fuel : Nat) (rc : Nat → Int → T82 → Hp → Option ((Option Nat) × Hp)) (p0 : Nat) (x1 : Int) (p2 : T82) (x7 : Node) (j8 : Int × Bool) (j12 : Bool × Hp) : Option ((Option Nat) × Hp) :=
 bif j12.1 then
  (dA (cI .i64) j12.2 p0 4 x1).bind fun H15 =>
  some (none, H15)
 else
  aX (fun (j16 : (Option Entry) × (Option Entry)) =>
   (mw j12.2 (.cells [.own 3 (List.map ab ([] : List Entry)), .own 1 (List.map cP.enc ([] : List (Option Nat)))])).bind fun q30 =>
   (iter (bX fuel x7 q30) fuel (j16.1, j16.2, x7.Level, x7.Entries, x7.Kids, 0, q30.1)).bind fun v38 =>
   (iter (ba fuel rc p0 x1 x7 j8 q30 v38) fuel (v38.1, v38.2.1, v38.2.2.1, v38.2.2.2.1, v38.2.2.2.2.1, 0, v38.2.2.2.2.2)).bind (Sum.elim (fun v57 =>
    some ((some q30.2), v57)) (fun r58 =>
    some r58))) fun jp17 =>
  bif (decide ((x7.Entries.length : Int) > 0)) then
   (Option.elim p2.low
    ((Option.elim p2.high
     (jp17 (none, none))
    (fun x19 =>
     (idx x7.Entries (IntKind.wrap .i64 ((x7.Entries.length : Int) - 1))).bind fun x20 =>
     (bl fuel p0 x20 x19 j12.2).bind fun r21 =>
     bif (!r21) then
      (dA (cI .i64) j12.2 p0 4 x1).bind fun H22 =>
      some (none, H22)
     else
      jp17 (none, (some x19)))))
   (fun x18 =>
    (idx x7.Entries 0).bind fun x23 =>
    (bl fuel p0 x18 x23 j12.2).bind fun r24 =>
    bif (!r24) then
     (dA (cI .i64) j12.2 p0 4 x1).bind fun H25 =>
     some (none, H25)
    else
     (Option.elim p2.high
      (jp17 ((some x18), none))
     (fun x26 =>
      (idx x7.Entries (IntKind.wrap .i64 ((x7.Entries.length : Int) - 1))).bind fun x27 =>
      (bl fuel p0 x27 x26 j12.2).bind fun r28 =>
      bif (!r28) then
       (dA (cI .i64) j12.2 p0 4 x1).bind fun H29 =>
       some (none, H29)
      else
       jp17 ((some x18), (some x26))))))
  else
   jp17 (p2.low, p2.high)
def nT (fuel : Nat) (rc : Nat → Int → T82 → Hp → Option ((Option Nat) × Hp)) (p0 : Nat) (x1 : Int) (x7 : Node) (j8 : Int × Bool) (j12 : Bool × Hp) (j16 : (Option Entry) × (Option Entry)) : Option ((Option Nat) × Hp) :=
 (mw j12.2 (.cells [.own 3 (List.map ab ([] : List Entry)), .own 1 (List.map cP.enc ([] : List (Option Nat)))])).bind fun q30 =>
 (iter (bX fuel x7 q30) fuel (j16.1, j16.2, x7.Level, x7.Entries, x7.Kids, 0, q30.1)).bind fun v38 =>
 (iter (ba fuel rc p0 x1 x7 j8 q30 v38) fuel (v38.1, v38.2.1, v38.2.2.1, v38.2.2.2.1, v38.2.2.2.2.1, 0, v38.2.2.2.2.2)).bind (Sum.elim (fun v57 =>
  some ((some q30.2), v57)) (fun r58 =>
  some r58))
theorem zD {r : List Value} (f : Nat) (h : r.length < 1000) : cG f r = some r := by
 unfold cG
 cases r with
 | nil => rfl
 | cons a l =>
  show Go.Sh.chk (decide ((([] : List Value) ++ a :: l).length ≤ room)) (some ([] ++ a :: l)) = _
  rw [show decide ((([] : List Value) ++ a :: l).length ≤ room) = true by
   rw [decide_eq_true_eq]
   have : (a :: l).length < 1000 := h
   simp only [List.nil_append, room]
   omega]
  rfl
theorem uC (e : Entry) (h : e.Row.length < 1000) : Ev (fun f => oX f e) e := by
 unfold oX
 exact .bind (.of fun n => zD n h) (.pure _)
theorem Ev.jF {α β : Type} {f : Nat → Option β} {g : Nat → α → Option β} {r : β} (h : Ev f r) : Ev (fun n => Option.elim none (f n) (g n)) r := h
theorem Ev.fR {α β : Type} {f : Nat → Option β} {g : Nat → α → Option β} {a : α} {r : β} (h : Ev (fun n => g n a) r) : Ev (fun n => Option.elim (some a) (f n) (g n)) r := h
theorem ka {s : ah} {last : Int} : ∀ {l : List Entry} {met met' : List Int}, kd s last met l = some met' → ∀ e ∈ l, okE s e = true
 | e :: l, met, met', h, e', he => by
  simp only [kd] at h
  split at h
  ·rename_i hf
   rcases List.mem_cons.1 he with rfl | he
   ·exact (tn hf).1
   ·exact ka h e' he
  ·cases h
section
variable {p0 tr m : Nat} {s : ah} {order last : Int} {nodes : List Node}
theorem tw {x : Node} {q30 : Hp × Nat} {out : Nat} {lo hi : Option Entry} (hq : q30.2 = out) (hl : x.Entries.length < 1000) (hr : ∀ e ∈ x.Entries, e.Row.length < 1000) {H : Hp} :
  ∀ (l : List Entry) (k : Nat) (pre : List Entry), x.Entries.drop k = l → pre = x.Entries.take k → k ≤ x.Entries.length → H[out]? = some (ndO pre []) →
   EvL (fun f => bX f x q30) (lo, hi, x.Level, x.Entries, x.Kids, (k : Int), H) (lo, hi, x.Level, x.Entries, x.Kids, H.set out (ndO x.Entries []))
 | [], k, pre, hd, hp, hk, ho => by
  have hk2 : x.Entries.length ≤ k := by simpa using hd
  refine .stop ?_
  unfold bX
  have : H.set out (ndO x.Entries []) = H := by
   rw [hp, List.take_of_length_le hk2] at ho
   apply List.ext_getElem?
   intro j
   by_cases hj : j = out
   ·subst hj; rw [bE ho, ho]
   ·exact bD hj
  rw [this]
  exact .f (dge hk2) (.pure _)
 | e :: l, k, pre, hd, hp, hk, ho => by
  have hk : k < x.Entries.length := by
   by_cases hk : k < x.Entries.length
   ·exact hk
   ·rw [List.drop_eq_nil_of_le (by omega)] at hd; cases hd
  have hek : x.Entries[k] = e := by rw [aF hk] at hd; exact (List.cons.inj hd).1
  have hdl : x.Entries.drop (k + 1) = l := by rw [aF hk] at hd; exact (List.cons.inj hd).2
  have he := hr e (hek ▸ List.getElem_mem hk)
  have ih := tw (lo := lo) (hi := hi) (H := H.set out (ndO (pre ++ [e]) [])) hq hl hr l (k + 1) (pre ++ [e]) hdl (by rw [hp, ← hek, List.take_append_getElem hk]) (by omega) (bE ho)
  rw [List.set_set] at ih
  refine .next ?_ ih
  unfold bX
  refine .t (dlt hk) <| .ae (aw hk) ?_
  rw [hek, hq]
  have ht : eF 3 aK H out 0 = some (pre, H.set out (.cells [.undef, .own 1 []])) := ku ho rfl
  have hg : dB 3 aK (H.set out (.cells [.undef, .own 1 []])) out 0 (pre ++ [e]) = some (H.set out (ndO (pre ++ [e]) [])) := by
   rw [kx (bE ho) (by simp), List.set_set]; rfl
  refine .ae ht <| .bind (uC e he) <| .chk (by simp [room, hp]; omega) <| .ae hg ?_
  rw [dH (by omega)]
  exact .pure _
theorem rK {root : Bool} {level : Int} {low high : Option Entry} {met met' : List Int} {x : Node} (h : okN s order last root level low high met x = some met') :
  pW order root x = true ∧ og root level x = true ∧ ql x = true ∧ adj s none x.Entries = true ∧ jL s low high x = true ∧ kd s last met x.Entries = some met' := by
 unfold okN at h
 split at h
 ·rename_i hc
  simp only [Bool.and_eq_true] at hc
  exact ⟨hc.1.1.1.1, hc.1.1.1.2, hc.1.1.2, hc.1.2, hc.2, h⟩
 ·cases h
theorem eR {H : Hp} {o : ar} {j : Nat} (h : j < H.length) : (H ++ [o])[j]? = H[j]? := List.getElem?_append_left h
theorem oL {H : Hp} {o : ar} : (H ++ [o])[H.length]? = some o := by simp
theorem LdI.lt {H : Hp} {nx bad : Int} (h : LdI p0 tr m s order last nodes H nx bad) : p0 < H.length ∧ tr < H.length ∧ m < H.length := by
 obtain ⟨r, c, ht⟩ := h.ht
 obtain ⟨o, ho⟩ := h.hm
 exact ⟨(List.getElem?_eq_some_iff.1 h.hp).1, (List.getElem?_eq_some_iff.1 ht).1, (List.getElem?_eq_some_iff.1 ho).1⟩
theorem By {d a : Nat} {x : Node} {root : Bool} {level : Int} {low high : Option Entry} {met met' : List Int} {H : Hp} {bad : Int} {RC : Nat → Nat → Int → T82 → Hp → Option ((Option Nat) × Hp)} {b0 : Bool} {lev : Int}
  (hN : NdB nodes) (hx : nodes[a]? = some x) (ho : okN s order last root level low high met x = some met') (hlev : lev = x.Level) (hlow : okO s low) (hhigh : okO s high)
  (h : LdI p0 tr m s order last nodes H ((a + 1 : Nat) : Int) bad) (hm : H[m]? = some (cT met'))
  (hrc : ∀ (nx : Nat) (level : Int) (lo hi : Option Entry) (met : List Int) (H : Hp) (bad : Int), a < nx → nx < nodes.length → 0 ≤ level → i64 level → okO s lo → okO s hi → LdI p0 tr m s order last nodes H nx bad → H[m]? = some (cT met) →
   tS p0 tr m s order last nodes (fun n => RC n p0 level ⟨lo, hi⟩ H) H nx (wk s order last nodes d nx level lo hi met)) :
  tS p0 tr m s order last nodes (fun n => nT n (RC n) p0 (a : Int) x (lev, root) (b0, H) (low, high)) H a (wkK nodes (wk s order last nodes d) a x low high x.Kids 0 (a + 1) met') := by
 obtain ⟨c1, c2, c3, c4, c5, c6⟩ := rK ho
 have hxm : x ∈ nodes := List.mem_of_getElem? hx
 obtain ⟨b1, b2, b3, b4⟩ := hN.2 x hxm
 obtain ⟨l1, l2, l3⟩ := h.lt
 have hes := ka c6
 simp only [og, Bool.and_eq_true, decide_eq_true_eq] at c2
 simp only [ql, Bool.and_eq_true, beq_iff_eq] at c3
 have hk : x.Kids ≠ [] → x.Kids.length = x.Entries.length + 1 ∧ x.Level = (((x.Level - 1).toNat + 1 : Nat) : Int) := by
  intro hne
  have h1 := c3.1
  split at h1
  ·exact ⟨h1, by omega⟩
  ·exact absurd (List.length_eq_zero_iff.1 h1) hne
 let H1 : Hp := H ++ [ndO [] []]
 have g1 : LdI p0 tr m s order last nodes H1 ((a + 1 : Nat) : Int) bad := by
  obtain ⟨r, c, ht⟩ := h.ht
  exact ⟨by rw [eR l1]; exact h.hp, ⟨r, c, by rw [eR l2]; exact ht⟩, ⟨_, by rw [eR l3]; exact hm⟩, h.n1, h.n2, h.n3⟩
 have iQ : H1[H.length]? = some (ndO [] []) := oL
 let H2 : Hp := H1.set H.length (ndO x.Entries [])
 have g2 : LdI p0 tr m s order last nodes H2 ((a + 1 : Nat) : Int) bad := g1.frame (by omega) (by omega) (by omega) fun j hj => bD hj
 have hl2 : H2.length = H.length + 1 := by simp [H2, H1]
 have hm2 : H2[m]? = some (cT met') := by
  show (H1.set H.length _)[m]? = _
  rw [bD (by omega), eR l3]; exact hm
 have hold : ∀ j, j < H.length → H2[j]? = H[j]? := fun j hj => by
  show (H1.set H.length _)[j]? = _
  rw [bD (by omega), eR hj]
 have E1 := tw (x := x) (q30 := (H1, H.length)) (lo := low) (hi := high) (H := H1) rfl b1 (fun e he => (b4 e he).1) x.Entries 0 [] rfl rfl (by omega) iQ
 have K := tc (d := d) (a := a) (out := H.length) (lvk := (x.Level - 1).toNat) (x := x) (low := low) (high := high) (q30 := (H1, H.length)) (j8 := (lev, root)) (v38 := (low, high, x.Level, x.Entries, x.Kids, H2)) (RC := RC)
  hN hxm rfl hlev rfl hk hlow hhigh hes l1 l3 l2 hrc x.Kids 0 (a + 1) met' H2 bad [] rfl (by omega) rfl (by omega) g2 hm2 (bE iQ)
 cases hw : wkK nodes (wk s order last nodes d) a x low high x.Kids 0 (a + 1) met' with
 | inl b =>
  rw [hw] at K
  obtain ⟨H', nx', K1, K2⟩ := K
  refine ⟨H', nx', ?_, K2⟩
  unfold nT
  exact .ae rfl <| .bind E1.ev <| .bind K1.ev (.pure _)
 | inr q =>
  obtain ⟨z, met2⟩ := q
  rw [hw] at K
  obtain ⟨H', is', bad', K1, K2, K3, K4, K5, K6, K7⟩ := K
  refine ⟨H', H.length, x.Level.toNat, bad', ?_, K2, K3, ?_, by omega, fun j j1 j2 j3 => ?_⟩
  ·unfold nT
   exact .ae rfl <| .bind E1.ev <| .bind K1.ev (.pure _)
  ·by_cases hz : x.Kids = []
   ·have h1 := c3.1
    rw [hz] at h1 K5
    have hlz : x.Level = 0 := by
     split at h1
     ·simp at h1
     ·omega
    rw [hlz]
    have : is' = [] ∧ a + 1 = z := by
     cases is' with
     | nil => exact ⟨rfl, K5⟩
     | cons i is => cases i <;> exact K5.elim
    obtain ⟨rfl, hz2⟩ := this
    exact ⟨x, hx, hlz, hz, by simpa using K4, hz2.symm, Nat.le_refl _⟩
   ·obtain ⟨h1, h2⟩ := hk hz
    rw [h2]
    exact ⟨x, is', hx, h2, h1, by simpa using K4, Nat.le_refl _, K5.mono fun _ _ _ hp => hp.base (by omega)⟩
  ·rw [K7 j j1 j2 (by omega) (by omega)]
   exact hold j j3
end
end Go.Sh
namespace Go.Sh
set_option maxRecDepth 100000
section
variable {p0 tr m : Nat} {s : ah} {order last : Int} {nodes : List Node}
theorem Bz {a : Nat} {x : Node} {j8 : Int × Bool} {low high : Option Entry} {H : Hp} {nx bad : Int} {RC : Nat → Nat → Int → T82 → Hp → Option ((Option Nat) × Hp)}
  (hs : okS s = true) (hl : x.Entries.length < 1000) (hes : ∀ e ∈ x.Entries, okE s e = true ∧ i64 e.Number) (hlow : okO s low) (hhigh : okO s high) (h : LdI p0 tr m s order last nodes H nx bad) :
  (jL s low high x = true → ∀ r, Ev (fun n => nT n (RC n) p0 (a : Int) x j8 (false, H) (low, high)) r → Ev (fun n => nM n (RC n) p0 (a : Int) ⟨low, high⟩ x j8 (false, H)) r) ∧
  (jL s low high x = false → Ev (fun n => nM n (RC n) p0 (a : Int) ⟨low, high⟩ x j8 (false, H)) (none, H.set p0 (ldO tr m nodes nx (a : Int)))) := by
 have hset := h.rD (a : Int)
 by_cases h0 : 0 < x.Entries.length
 ·have hf : x.Entries.head? = some x.Entries[0] := by rw [List.head?_eq_getElem?, List.getElem?_eq_getElem h0]
  have hL : x.Entries.getLast? = some x.Entries[x.Entries.length - 1] := by rw [List.getLast?_eq_getElem?, List.getElem?_eq_getElem (by omega)]
  have e0 := hes _ (List.getElem_mem h0)
  have eL := hes _ (List.getElem_mem (show x.Entries.length - 1 < x.Entries.length by omega))
  have i0 : idx x.Entries 0 = some x.Entries[0] := aw (k := 0) h0
  have iL : idx x.Entries (IntKind.wrap .i64 ((x.Entries.length : Int) - 1)) = some x.Entries[x.Entries.length - 1] := by
   rw [cO (by omega) (by omega), show (x.Entries.length : Int) - 1 = ((x.Entries.length - 1 : Nat) : Int) by omega]
   exact aw _
  have hn : decide ((x.Entries.length : Int) > 0) = true := by simp; omega
  cases low with
  | none =>
   cases high with
   | none =>
    refine ⟨fun _ r hE => ?_, fun hb => by simp [jL] at hb⟩
    unfold nM
    exact .f rfl <| .aX <| .t hn <| .jF <| .jF hE
   | some hi =>
    have hh := hhigh hi rfl
    have A := p9 hs h eL.1 hh.1 eL.2 hh.2
    refine ⟨fun hb r hE => ?_, fun hb => ?_⟩
    ·simp only [jL, hL, Bool.true_and] at hb
     unfold nM
     exact .f rfl <| .aX <| .t hn <| .jF <| .fR <| .ae iL <| .bind A <| .f (by simp [hb]) hE
    ·simp only [jL, hL, Bool.true_and] at hb
     unfold nM
     exact .f rfl <| .aX <| .t hn <| .jF <| .fR <| .ae iL <| .bind A <| .t (by simp [hb]) <| .ae hset (.pure _)
  | some lo =>
   have hw := hlow lo rfl
   have B := p9 hs h hw.1 e0.1 hw.2 e0.2
   cases high with
   | none =>
    refine ⟨fun hb r hE => ?_, fun hb => ?_⟩
    ·simp only [jL, hf, Bool.and_true] at hb
     unfold nM
     exact .f rfl <| .aX <| .t hn <| .fR <| .ae i0 <| .bind B <| .f (by simp [hb]) <| .jF hE
    ·simp only [jL, hf, Bool.and_true] at hb
     unfold nM
     exact .f rfl <| .aX <| .t hn <| .fR <| .ae i0 <| .bind B <| .t (by simp [hb]) <| .ae hset (.pure _)
   | some hi =>
    have hh := hhigh hi rfl
    have A := p9 hs h eL.1 hh.1 eL.2 hh.2
    refine ⟨fun hb r hE => ?_, fun hb => ?_⟩
    ·simp only [jL, hf, hL, Bool.and_eq_true] at hb
     unfold nM
     exact .f rfl <| .aX <| .t hn <| .fR <| .ae i0 <| .bind B <| .f (by simp [hb.1]) <| .fR <| .ae iL <| .bind A <| .f (by simp [hb.2]) hE
    ·simp only [jL, hf, hL, Bool.and_eq_false_iff] at hb
     unfold nM
     cases hB : aft s lo x.Entries[0] with
     | false => exact .f rfl <| .aX <| .t hn <| .fR <| .ae i0 <| .bind B <| .t (by simp [hB]) <| .ae hset (.pure _)
     | true =>
      rcases hb with hb | hb
      ·rw [hB] at hb; cases hb
      ·exact .f rfl <| .aX <| .t hn <| .fR <| .ae i0 <| .bind B <| .f (by simp [hB]) <| .fR <| .ae iL <| .bind A <| .t (by simp [hb]) <| .ae hset (.pure _)
 ·have he : x.Entries = [] := List.length_eq_zero_iff.1 (by omega)
  refine ⟨fun _ r hE => ?_, fun hb => ?_⟩
  ·unfold nM
   exact .f rfl <| .aX <| .f (by simp; omega) hE
  ·have : jL s low high x = true := by
    unfold jL
    rw [he]
    cases low <;> cases high <;> rfl
   rw [this] at hb; cases hb
theorem BA {d a : Nat} {x : Node} {root : Bool} {level : Int} {low high : Option Entry} {met : List Int} {H : Hp} {bad : Int} {RC : Nat → Nat → Int → T82 → Hp → Option ((Option Nat) × Hp)} {lev : Int}
  (hs : okS s = true) (h3 : 3 ≤ order) (h32 : order ≤ 32) (hN : NdB nodes) (hx : nodes[a]? = some x) (hlev : lev = if root then x.Level else level) (hlow : okO s low) (hhigh : okO s high)
  (h : LdI p0 tr m s order last nodes H ((a + 1 : Nat) : Int) bad) (hm : H[m]? = some (cT met))
  (hrc : ∀ (nx : Nat) (level : Int) (lo hi : Option Entry) (met : List Int) (H : Hp) (bad : Int), a < nx → nx < nodes.length → 0 ≤ level → i64 level → okO s lo → okO s hi → LdI p0 tr m s order last nodes H nx bad → H[m]? = some (cT met) →
   tS p0 tr m s order last nodes (fun n => RC n p0 level ⟨lo, hi⟩ H) H nx (wk s order last nodes d nx level lo hi met)) :
  tS p0 tr m s order last nodes (fun n => nK n (RC n) p0 (a : Int) ⟨low, high⟩ x H (lev, root)) H a
   (match okN s order last root level low high met x with
   | none => .inl a
   | some met' => wkK nodes (wk s order last nodes d) a x low high x.Kids 0 (a + 1) met') := by
 have hxm : x ∈ nodes := List.mem_of_getElem? hx
 obtain ⟨b1, b2, b3, b4⟩ := hN.2 x hxm
 obtain ⟨l1, l2, l3⟩ := h.lt
 let kk : Int := if 0 < x.Level then (x.Entries.length : Int) + 1 else 0
 have R := xi (root := root) (inn := ⟨low, high⟩) hs h hm h3 h32 (x := x) (by omega) b4
 have pre : ∀ {q : Bool} {met'' : List Int} {r}, Ev (fun f => bI f p0 x root ⟨low, high⟩ H) (q, H.set m (cT met'')) →
   Ev (fun n => nM n (RC n) p0 (a : Int) ⟨low, high⟩ x (lev, root) ((!q || decide (x.Level < 0)) || x.Level != lev || ((x.Kids.length : Int) != kk || kk == 1), H.set m (cT met''))) r → Ev (fun n => nK n (RC n) p0 (a : Int) ⟨low, high⟩ x H (lev, root)) r := by
  intro q met'' r hq hE
  unfold nK
  have tail : ∀ {k : Int}, k = kk → Ev (fun n => aX (fun (j12 : Bool × Hp) => nM n (RC n) p0 (a : Int) ⟨low, high⟩ x (lev, root) j12) fun jp13 =>
    (bI n p0 x root ⟨low, high⟩ H).bind fun r14 =>
    bif (((!r14.1) || (decide (x.Level < 0))) || (x.Level != lev)) then
     jp13 (true, r14.2)
    else
     jp13 ((((x.Kids.length : Int) != k) || (k == 1)), r14.2)) r := by
   rintro k rfl
   refine .aX <| .bind hq ?_
   cases hc : (!q || decide (x.Level < 0)) || x.Level != lev with
   | true =>
    rw [hc] at hE
    exact .t rfl hE
   | false =>
    rw [hc] at hE
    exact .f rfl hE
  by_cases hz : 0 < x.Level
  ·exact .aX <| .t (by simp; omega) <| tail (by rw [cO (by omega) (by omega)]; simp only [kk, if_pos hz])
  ·exact .aX <| .f (by simp; omega) <| tail (by simp only [kk, if_neg hz])
 have badM : ∀ {met''}, Ev (fun n => nM n (RC n) p0 (a : Int) ⟨low, high⟩ x (lev, root) (true, H.set m (cT met''))) (none, (H.set m (cT met'')).set p0 (ldO tr m nodes ((a + 1 : Nat) : Int) (a : Int))) := by
  intro met''
  unfold nM
  exact .t rfl <| .ae ((h.map (cT met'')).rD (a : Int)) (.pure _)
 have badR : ∀ {met''}, Ev (fun n => nK n (RC n) p0 (a : Int) ⟨low, high⟩ x H (lev, root)) (none, (H.set m (cT met'')).set p0 (ldO tr m nodes ((a + 1 : Nat) : Int) (a : Int))) →
   tS p0 tr m s order last nodes (fun n => nK n (RC n) p0 (a : Int) ⟨low, high⟩ x H (lev, root)) H a (.inl a) := fun hE => ⟨_, _, hE, (h.map (cT _)).put _ _⟩
 have hkk : ((x.Kids.length : Int) != kk || kk == 1) = !ql x := by
  simp only [kk, ql]
  by_cases hz : 0 < x.Level
  ·rw [if_pos hz, if_pos hz]
   by_cases e1 : x.Kids.length = x.Entries.length + 1
   ·by_cases e2 : x.Entries.length = 0
    ·simp [e1, e2]
    ·have h1 : ((x.Kids.length : Int) != (x.Entries.length : Int) + 1) = false := bne_eq_false_iff_eq.2 (by omega)
     have h2 : ((x.Entries.length : Int) + 1 == 1) = false := beq_eq_false_iff_ne.2 (by omega)
     have h3 : (x.Kids.length == x.Entries.length + 1) = true := by simp [e1]
     have h4 : (x.Kids.length != 1) = true := bne_iff_ne.2 (by omega)
     rw [h1, h2, h3, h4]; rfl
   ·simp only [show (x.Kids.length == x.Entries.length + 1) = false by simpa using e1, Bool.false_and, Bool.not_false, Bool.or_eq_true]
    left
    rw [bne_iff_ne]
    omega
  ·rw [if_neg hz, if_neg hz]
   by_cases e1 : x.Kids.length = 0
   ·rw [e1]; rfl
   ·have h1 : ((x.Kids.length : Int) != 0) = true := bne_iff_ne.2 (by omega)
    have h2 : (x.Kids.length == 0) = false := beq_eq_false_iff_ne.2 (by omega)
    rw [h1, h2]; rfl
 have hlv : ((decide (x.Level < 0)) || x.Level != lev) = !og root level x := by
  simp only [og]
  rw [hlev]
  have e : decide (x.Level < 0) = !decide (0 ≤ x.Level) := by rw [← decide_not, decide_eq_decide]; omega
  rw [e]
  cases root with
  | true => simp
  | false => simp only [Bool.false_eq_true, if_false, Bool.false_or, Bool.not_and]; rfl
 unfold okN
 cases hc1 : pW order root x with
 | false =>
  rw [hc1] at R
  obtain ⟨met'', R⟩ := R
  simp only [Bool.false_and, Bool.false_eq_true, if_false]
  exact badR (pre R (by simp only [Bool.not_false, Bool.true_or]; exact badM))
 | true =>
  rw [hc1] at R
  simp only [if_true, xj] at R
  simp only [Bool.true_and]
  cases hc4 : adj s none x.Entries with
  | false =>
   rw [hc4] at R
   obtain ⟨met'', R⟩ := R
   simp only [Bool.and_false, Bool.false_and, Bool.false_eq_true, if_false]
   exact badR (pre R (by simp only [Bool.not_false, Bool.true_or]; exact badM))
  | true =>
   rw [hc4] at R
   simp only [if_true] at R
   cases hc6 : kd s last met x.Entries with
   | none =>
    rw [hc6] at R
    obtain ⟨met'', R⟩ := R
    simp only [ite_self]
    exact badR (pre R (by simp only [Bool.not_false, Bool.true_or]; exact badM))
   | some met' =>
    rw [hc6] at R
    have P := fun {r} => pre (r := r) R
    simp only [Bool.not_true, Bool.false_or, hkk, hlv] at P
    cases hc2 : og root level x with
    | false =>
     rw [hc2] at P
     simp only [Bool.false_and, Bool.false_eq_true, if_false]
     exact badR (P badM)
    | true =>
     cases hc3 : ql x with
     | false =>
      rw [hc2, hc3] at P
      simp only [Bool.and_false, Bool.false_and, Bool.false_eq_true, if_false]
      exact badR (P badM)
     | true =>
      rw [hc2, hc3] at P
      have g := h.map (cT met')
      have hes := ka hc6
      obtain ⟨M1, M2⟩ := Bz (a := a) (j8 := (lev, root)) (RC := RC) hs b1 (fun e he => ⟨hes e he, (b4 e he).2⟩) hlow hhigh g
      cases hc5 : jL s low high x with
      | false =>
       simp only [Bool.and_false, Bool.false_eq_true, if_false]
       exact badR (P (M2 hc5))
      | true =>
       simp only [Bool.and_true, if_true]
       have hok : okN s order last root level low high met x = some met' := by
        unfold okN; simp [hc1, hc2, hc3, hc4, hc5, hc6]
       have hlx : lev = x.Level := by
        rw [hlev]
        cases root with
        | true => rfl
        | false => simp only [og, Bool.and_eq_true, Bool.false_or, beq_iff_eq] at hc2; exact hc2.2.symm
       have T := By (root := root) (b0 := false) hN hx hok hlx hlow hhigh g (bE hm) hrc
       have hlen : (H.set m (cT met')).length = H.length := List.length_set
       cases hw : wkK nodes (wk s order last nodes d) a x low high x.Kids 0 (a + 1) met' with
       | inl b =>
        rw [hw] at T
        obtain ⟨H', nx', T1, T2⟩ := T
        exact ⟨H', nx', P (M1 hc5 _ T1), T2⟩
       | inr q =>
        obtain ⟨z, met2⟩ := q
        rw [hw] at T
        obtain ⟨H', i, lv, bad', T1, T2, T3, T4, T5, T6⟩ := T
        exact ⟨H', i, lv, bad', P (M1 hc5 _ T1), T2, T3, by rw [hlen] at T4; exact T4, by omega, fun j j1 j2 j3 => by rw [T6 j j1 j2 (by omega)]; exact bD j2⟩
theorem qP (hs : okS s = true) (h3 : 3 ≤ order) (h32 : order ≤ 32) (hN : NdB nodes) : ∀ (d a : Nat) (level : Int) (low high : Option Entry) (met : List Int) (H : Hp) (bad : Int),
  a < nodes.length → nodes.length ≤ a + d → okO s low → okO s high → LdI p0 tr m s order last nodes H (a : Nat) bad → H[m]? = some (cT met) →
   tS p0 tr m s order last nodes (fun n => bR n p0 level ⟨low, high⟩ H) H a (wk s order last nodes d a level low high met)
 | 0, a, level, low, high, met, H, bad, ha, hd, _, _, _, _ => by omega
 | d + 1, a, level, low, high, met, H, bad, ha, hd, hlow, hhigh, h, hm => by
  have hx : nodes[a]? = some nodes[a] := List.getElem?_eq_getElem ha
  have hN1 := hN.1
  have g : LdI p0 tr m s order last nodes (H.set p0 (ldO tr m nodes ((a + 1 : Nat) : Int) bad)) ((a + 1 : Nat) : Int) bad := h.put _ _
  have hm' : (H.set p0 (ldO tr m nodes ((a + 1 : Nat) : Int) bad))[m]? = some (cT met) := by rw [bD (Ne.symm h.n1)]; exact hm
  have hset : dA (cI .i64) H p0 2 ((a + 1 : Nat) : Int) = some (H.set p0 (ldO tr m nodes ((a + 1 : Nat) : Int) bad)) := h.Bo _
  have K := BA (d := d) (a := a) (root := a == 0) (level := level) (low := low) (high := high) (lev := if (a == 0) = true then nodes[a].Level else level) (RC := fun n => bR n) hs h3 h32 hN hx rfl hlow hhigh g hm'
   (fun nx level lo hi met H bad h1 h2 _ _ h5 h6 h7 h8 => qP hs h3 h32 hN d nx level lo hi met H bad h2 (by omega) h5 h6 h7 h8)
  have hlen : (H.set p0 (ldO tr m nodes ((a + 1 : Nat) : Int) bad)).length = H.length := List.length_set
  have go : ∀ {r}, Ev (fun n => nK n (bR n) p0 (a : Int) ⟨low, high⟩ nodes[a] (H.set p0 (ldO tr m nodes ((a + 1 : Nat) : Int) bad)) (if (a == 0) = true then nodes[a].Level else level, a == 0)) r →
    Ev (fun n => bR n p0 level ⟨low, high⟩ H) r := by
   intro r hE
   refine mB (g := fun n => cx n (bR n) p0 level ⟨low, high⟩ H) (fun n => rfl) ?_
   unfold cx
   refine .ae h.nxt <| .ae h.nds <| .f (by simp; omega) <| .ae h.nxt ?_
   rw [dH (by omega)]
   refine .ae hset <| .ae g.nds <| .ae (aw ha) <| .aX ?_
   by_cases h0 : a = 0
   ·subst h0; exact .t rfl hE
   ·refine .f (by simp [h0]) ?_
    rw [show (a == 0) = false by simpa using h0] at hE
    exact hE
  have hwk : wk s order last nodes (d + 1) a level low high met = (match okN s order last (a == 0) level low high met nodes[a] with
   | none => .inl a
   | some met' => wkK nodes (wk s order last nodes d) a nodes[a] low high nodes[a].Kids 0 (a + 1) met') := by
   show (match nodes[a]? with | none => Sum.inl a | some x => match okN s order last (a == 0) level low high met x with | none => Sum.inl a | some met' => wkK nodes (wk s order last nodes d) a x low high x.Kids 0 (a + 1) met') = _
   rw [hx]
  have K' : tS p0 tr m s order last nodes (fun n => nK n (bR n) p0 (a : Int) ⟨low, high⟩ nodes[a] (H.set p0 (ldO tr m nodes ((a + 1 : Nat) : Int) bad)) (if (a == 0) = true then nodes[a].Level else level, a == 0)) (H.set p0 (ldO tr m nodes ((a + 1 : Nat) : Int) bad)) a (wk s order last nodes (d + 1) a level low high met) := by
   rw [hwk]; exact K
  clear K hwk
  revert K'
  generalize wk s order last nodes (d + 1) a level low high met = res
  intro K
  cases res with
  | inl b =>
   obtain ⟨H', nx', K1, K2⟩ := K
   exact ⟨H', nx', go K1, K2⟩
  | inr q =>
   obtain ⟨z, met2⟩ := q
   obtain ⟨H', i, lv, bad', K1, K2, K3, K4, K5, K6⟩ := K
   exact ⟨H', i, lv, bad', go K1, K2, K3, by rw [hlen] at K4; exact K4, by omega, fun j j1 j2 j3 => by rw [K6 j j1 j2 (by omega)]; exact bD j1⟩
end
end Go.Sh
namespace Go.Sh
set_option maxRecDepth 100000
def wdO (s : ah) (order last : Int) (nodes : List Node) (nx : Int) (met : List Int) (bad : Int) : ar :=
 .cells [.d (.list 1 (List.map (D.int .i64) s.aq)), .d (.list 1 (List.map D.bool s.Down)), .d (.int .i64 s.Dup), .d (.int .i64 order), .d (.int .i64 last), .d (.list 3 (List.map aI nodes)), .d (.int .i64 nx), .own 1 (List.map (D.int .i64) met), .d (.int .i64 bad)]
section
variable {p0 : Nat} {s : ah} {order last : Int} {nodes : List Node} {H : Hp} {o : ar} (hH : H[p0]? = some o)
include hH
theorem g8 {nx bad : Int} {met : List Int} : (H.set p0 (wdO s order last nodes nx met bad))[p0]? = some (wdO s order last nodes nx met bad) := bE hH
theorem oP {nx bad : Int} {met : List Int} : bg bu.cells (H.set p0 (wdO s order last nodes nx met bad)) p0 0 = some s := cE (r := [.d (.int .i64 order), .d (.int .i64 last), .d (.list 3 (List.map aI nodes)), .d (.int .i64 nx), .own 1 (List.map (D.int .i64) met), .d (.int .i64 bad)]) (g8 hH) rfl
theorem Ag {nx bad : Int} {met : List Int} : bg (cI .i64).cell (H.set p0 (wdO s order last nodes nx met bad)) p0 2 = some s.Dup := cE (r := [.d (.int .i64 order), .d (.int .i64 last), .d (.list 3 (List.map aI nodes)), .d (.int .i64 nx), .own 1 (List.map (D.int .i64) met), .d (.int .i64 bad)]) (g8 hH) rfl
theorem tZ {nx bad : Int} {met : List Int} : bg (cI .i64).cell (H.set p0 (wdO s order last nodes nx met bad)) p0 3 = some order := cE (r := [.d (.int .i64 last), .d (.list 3 (List.map aI nodes)), .d (.int .i64 nx), .own 1 (List.map (D.int .i64) met), .d (.int .i64 bad)]) (g8 hH) rfl
theorem w7 {nx bad : Int} {met : List Int} : bg (cI .i64).cell (H.set p0 (wdO s order last nodes nx met bad)) p0 4 = some last := cE (r := [.d (.list 3 (List.map aI nodes)), .d (.int .i64 nx), .own 1 (List.map (D.int .i64) met), .d (.int .i64 bad)]) (g8 hH) rfl
theorem ub {nx bad : Int} {met : List Int} : cp 3 jI (H.set p0 (wdO s order last nodes nx met bad)) p0 5 = some nodes := vM (g8 hH) rfl
theorem oQ {nx bad : Int} {met : List Int} : bg (cI .i64).cell (H.set p0 (wdO s order last nodes nx met bad)) p0 6 = some nx := cE (r := [.own 1 (List.map (D.int .i64) met), .d (.int .i64 bad)]) (g8 hH) rfl
theorem mM {nx bad : Int} {met : List Int} : cp 1 (cI .i64) (H.set p0 (wdO s order last nodes nx met bad)) p0 7 = some met := db (g8 hH) rfl
theorem Ah {nx bad : Int} {met : List Int} : bg (cI .i64).cell (H.set p0 (wdO s order last nodes nx met bad)) p0 8 = some bad := cE (r := []) (g8 hH) rfl
theorem w6 {nx bad b : Int} {met : List Int} : dA (cI .i64) (H.set p0 (wdO s order last nodes nx met bad)) p0 6 b = some (H.set p0 (wdO s order last nodes b met bad)) := by
 rw [jy (g8 hH) (by simp [cI, D.cells]), List.set_set]; rfl
theorem we {nx bad b : Int} {met : List Int} : dA (cI .i64) (H.set p0 (wdO s order last nodes nx met bad)) p0 8 b = some (H.set p0 (wdO s order last nodes nx met b)) := by
 rw [jy (g8 hH) (by simp [cI, D.cells]), List.set_set]; rfl
theorem ey {nx bad b : Int} {met : List Int} : Ev (fun f => aE f p0 b (H.set p0 (wdO s order last nodes nx met bad))) (false, H.set p0 (wdO s order last nodes nx met b)) := by
 unfold aE
 exact .ae (we hH) (.pure _)
theorem mF (hs : okS s = true) {nx bad : Int} {met : List Int} {a b : Entry} (ha : okE s a = true) (hb : okE s b = true) : Ev (fun f => bc f p0 a b (H.set p0 (wdO s order last nodes nx met bad))) (aft s a b) := by
 have fa : bz s.aq a.Row = true := by simp only [okE, Bool.and_eq_true] at ha; exact ha.1.1
 have fb : bz s.aq b.Row = true := by simp only [okE, Bool.and_eq_true] at hb; exact hb.1.1
 obtain ⟨h8, hd⟩ := me hs
 unfold bc aft
 refine .ae (oP hH) <| .bind (uB hs fa fb) ?_
 cases hc : decide (np s a b < 0) with
 | false => exact .f rfl (.pure _)
 | true =>
  refine .t rfl <| .ae (Ag hH) ?_
  cases hd1 : s.Dup != 1 with
  | true => exact .t rfl (.pure _)
  | false =>
   refine .f rfl <| .ae (oP hH) <| .bind (sT s hd fa fb h8) ?_
   have : (sgn (df s.Down a.Row b.Row) != 0) = (df s.Down a.Row b.Row != 0) := by
    by_cases hz : df s.Down a.Row b.Row = 0
    ·rw [hz]; rfl
    ·have : sgn (df s.Down a.Row b.Row) ≠ 0 := fun e => hz ((jU _).1 e)
     rw [bne_iff_ne.2 hz, bne_iff_ne.2 this]
   rw [this]
   exact .pure _
theorem vD {nx bad : Int} {met : List Int} {a : Nat} {e : Entry} (hl : met.length < 100000000) : ∀ (l : List Int) (k : Nat), met.drop k = l → k ≤ met.length →
  EvL (fun f => cg f p0 (a : Int) e) ((k : Int), H.set p0 (wdO s order last nodes nx met bad)) (if l.contains e.Number then .inr (false, H.set p0 (wdO s order last nodes nx met (a : Int))) else .inl (H.set p0 (wdO s order last nodes nx met bad)))
 | [], k, hd, hk => by
  have hk2 : met.length ≤ k := by simpa using hd
  refine .stop ?_
  unfold cg
  exact .ae (mM hH) <| .f (dge hk2) (.pure _)
 | n :: l, k, hd, hk => by
  have hk1 : k < met.length := by
   by_cases hk : k < met.length
   ·exact hk
   ·rw [List.drop_eq_nil_of_le (by omega)] at hd; cases hd
  have hek : met[k] = n := by rw [aF hk1] at hd; exact (List.cons.inj hd).1
  have hdl : met.drop (k + 1) = l := by rw [aF hk1] at hd; exact (List.cons.inj hd).2
  have ih := vD (nx := nx) (bad := bad) (a := a) (e := e) hl l (k + 1) hdl (by omega)
  rw [List.contains_cons]
  by_cases hc : n = e.Number
  ·rw [show (e.Number == n) = true by simp [hc], Bool.true_or, if_pos rfl]
   refine .stop ?_
   unfold cg
   refine .ae (mM hH) <| .t (dlt hk1) <| .ae (mM hH) <| .ae (aw hk1) ?_
   rw [hek]
   exact .t (by simp [hc]) <| .bind (ey hH) (.pure _)
  ·rw [show (e.Number == n) = false by simp; exact fun h => hc h.symm, Bool.false_or]
   refine .next ?_ ih
   unfold cg
   refine .ae (mM hH) <| .t (dlt hk1) <| .ae (mM hH) <| .ae (aw hk1) ?_
   rw [hek, dH (by omega)]
   exact .f (by simp [hc]) (.pure _)
theorem tv (hs : okS s = true) {nx bad : Int} {a : Nat} {x : Node} (hl : x.Entries.length < 1000) (hr : ∀ e ∈ x.Entries, e.Row.length < 1000) : ∀ (l : List Entry) (k : Nat) (met : List Int), x.Entries.drop k = l → k ≤ x.Entries.length → met.length + l.length < 10000000 →
  match kd s last met l with
  | some met' => EvL (fun f => bC f p0 (a : Int)) (x.Level, x.Entries, x.Kids, (k : Int), H.set p0 (wdO s order last nodes nx met bad)) (.inl (x.Level, x.Entries, x.Kids, H.set p0 (wdO s order last nodes nx met' bad)))
  | none => ∃ met', EvL (fun f => bC f p0 (a : Int)) (x.Level, x.Entries, x.Kids, (k : Int), H.set p0 (wdO s order last nodes nx met bad)) (.inr (false, H.set p0 (wdO s order last nodes nx met' (a : Int))))
 | [], k, met, hd, hk, _ => by
  have hk2 : x.Entries.length ≤ k := by simpa using hd
  simp only [kd]
  refine .stop ?_
  unfold bC
  exact .f (dge hk2) (.pure _)
 | e :: l, k, met, hd, hk, hm => by
  have hk1 : k < x.Entries.length := by
   by_cases hk : k < x.Entries.length
   ·exact hk
   ·rw [List.drop_eq_nil_of_le (by omega)] at hd; cases hd
  have hek : x.Entries[k] = e := by rw [aF hk1] at hd; exact (List.cons.inj hd).1
  have hdl : x.Entries.drop (k + 1) = l := by rw [aF hk1] at hd; exact (List.cons.inj hd).2
  have he := hr e (hek ▸ List.getElem_mem hk1)
  simp only [List.length_cons] at hm
  simp only [kd]
  have hfin : pP s last met e = (okE s e && (decide (e.Number ≤ last) && !met.contains e.Number)) := by simp only [pP, Bool.and_assoc]
  rw [hfin]
  cases h1 : okE s e with
  | false =>
   simp only [Bool.false_and, Bool.false_eq_true, if_false]
   refine ⟨met, .stop ?_⟩
   unfold bC
   refine .t (dlt hk1) <| .ae (aw hk1) <| .aX ?_
   rw [hek]
   refine .ae (oP hH) <| .bind (m8 hs he) ?_
   rw [h1]
   exact .t rfl <| .t rfl <| .bind (ey hH) (.pure _)
  | true =>
   by_cases h2 : e.Number ≤ last
   ·have M := vD hH (s := s) (order := order) (last := last) (nodes := nodes) (nx := nx) (bad := bad) (a := a) (e := e) (met := met) (by omega) met 0 rfl (by omega)
    have pre : ∀ {r}, Ev (fun f => (iter (cg f p0 (a : Int) e) f (0, H.set p0 (wdO s order last nodes nx met bad))).bind (Sum.elim (fun v19 =>
       (eF 1 (cI .i64) v19 p0 7).bind fun q20 =>
       chk (decide ((q20.1 ++ [e.Number]).length ≤ room)) <|
       (dB 1 (cI .i64) q20.2 p0 7 (q20.1 ++ [e.Number])).bind fun H22 =>
       some (.inl (x.Level, x.Entries, x.Kids, ((k + 1 : Nat) : Int), H22))) (fun r23 =>
       some (.inr (.inr r23))))) r → Ev (fun f => bC f p0 (a : Int) (x.Level, x.Entries, x.Kids, (k : Int), H.set p0 (wdO s order last nodes nx met bad))) r := by
     intro r hE
     unfold bC
     refine .t (dlt hk1) <| .ae (aw hk1) <| .aX ?_
     rw [hek, dH (by omega)]
     refine .ae (oP hH) <| .bind (m8 hs he) ?_
     rw [h1]
     exact .f rfl <| .ae (w7 hH) <| .f (by simp; omega) hE
    cases h3 : met.contains e.Number with
    | true =>
     rw [h3] at M
     simp only [Bool.not_true, Bool.and_false, Bool.false_eq_true, if_false]
     exact ⟨met, .stop (pre (.bind M.ev (.pure _)))⟩
    | false =>
     rw [h3] at M
     simp only [Bool.false_eq_true, if_false] at M
     simp only [Bool.not_false, Bool.and_true, Bool.true_and, h2, decide_true, if_true]
     have ih := tv hs (nx := nx) (bad := bad) (a := a) hl hr l (k + 1) (met ++ [e.Number]) hdl (by omega) (by simp; omega)
     have ht : eF 1 (cI .i64) (H.set p0 (wdO s order last nodes nx met bad)) p0 7 = some (met, (H.set p0 (wdO s order last nodes nx met bad)).set p0 (.cells [.d (.list 1 (List.map (D.int .i64) s.aq)), .d (.list 1 (List.map D.bool s.Down)), .d (.int .i64 s.Dup), .d (.int .i64 order), .d (.int .i64 last), .d (.list 3 (List.map aI nodes)), .d (.int .i64 nx), .undef, .d (.int .i64 bad)])) := ku (g8 hH) rfl
     have hg : dB 1 (cI .i64) ((H.set p0 (wdO s order last nodes nx met bad)).set p0 (.cells [.d (.list 1 (List.map (D.int .i64) s.aq)), .d (.list 1 (List.map D.bool s.Down)), .d (.int .i64 s.Dup), .d (.int .i64 order), .d (.int .i64 last), .d (.list 3 (List.map aI nodes)), .d (.int .i64 nx), .undef, .d (.int .i64 bad)])) p0 7 (met ++ [e.Number]) = some (H.set p0 (wdO s order last nodes nx (met ++ [e.Number]) bad)) := by
      rw [List.set_set, kx (bE hH) (by simp), List.set_set]; rfl
     have T := pre (.bind M.ev (.ae ht <| .chk (by simp [room]; omega) <| .ae hg (.pure _)))
     cases hq : kd s last (met ++ [e.Number]) l with
     | none => rw [hq] at ih; obtain ⟨met', ih⟩ := ih; exact ⟨met', .next T ih⟩
     | some met' => rw [hq] at ih; exact .next T ih
   ·simp only [h2, decide_false, Bool.false_and, Bool.and_false, Bool.false_eq_true, if_false]
    refine ⟨met, .stop ?_⟩
    unfold bC
    refine .t (dlt hk1) <| .ae (aw hk1) <| .aX ?_
    rw [hek]
    refine .ae (oP hH) <| .bind (m8 hs he) ?_
    rw [h1]
    exact .f rfl <| .ae (w7 hH) <| .t (by simp; omega) <| .bind (ey hH) (.pure _)
end
end Go.Sh
namespace Go.Sh
set_option maxRecDepth 100000
def hiO (s : ah) (e : Entry) : Option Entry → Bool
 | none => true
 | some h => aft s e h
def tH (s : ah) (low high : Option Entry) : Option Entry → List Entry → Bool
 | _, [] => true
 | p, e :: l => (ew s p e && (ew s low e && hiO s e high)) && tH s low high (some e) l
theorem jt {s : ah} {a : Entry} (h : okE s a = true) : bz s.aq a.Row = true := by simp only [okE, Bool.and_eq_true] at h; exact h.1.1
theorem tF {s : ah} {low : Option Entry} (hlow : okO s low) : ∀ {l : List Entry} {p : Option Entry}, (∀ e ∈ l, okE s e = true) → (∀ e, p = some e → okE s e = true ∧ ew s low e = true) → adj s p l = true → (p = none → ∀ e, l.head? = some e → ew s low e = true) → ∀ e ∈ l, ew s low e = true
 | e :: l, p, ho, hp, ha, h0, e', he' => by
  simp only [adj, Bool.and_eq_true] at ha
  have h1 : ew s low e = true := by
   cases p with
   | none => exact h0 rfl e rfl
   | some q =>
    obtain ⟨q1, q2⟩ := hp q rfl
    cases low with
    | none => rfl
    | some w => exact rr (jt (hlow w rfl).1) (jt q1) (jt (ho e (by simp))) q2 ha.1
  rcases List.mem_cons.1 he' with rfl | he'
  ·exact h1
  ·exact tF hlow (fun e2 h2 => ho e2 (by simp [h2])) (fun e2 h2 => by cases h2; exact ⟨ho _ (by simp), h1⟩) ha.2 (fun h => by cases h) e' he'
theorem rh {s : ah} {high : Option Entry} (hhigh : okO s high) : ∀ {l : List Entry} {p : Option Entry}, (∀ e ∈ l, okE s e = true) → adj s p l = true → (∀ e, l.getLast? = some e → hiO s e high = true) → ∀ e ∈ l, hiO s e high = true
 | [e], p, ho, ha, hl, e', he' => by
  simp only [List.mem_singleton] at he'
  subst he'
  exact hl _ rfl
 | e :: e2 :: l, p, ho, ha, hl, e', he' => by
  simp only [adj, Bool.and_eq_true] at ha
  have ih := rh hhigh (l := e2 :: l) (p := some e) (fun q hq => ho q (by simp at hq ⊢; right; exact hq)) (by simp only [adj, Bool.and_eq_true]; exact ha.2) (fun q hq => hl q (by simpa using hq))
  rcases List.mem_cons.1 he' with rfl | he'
  ·cases high with
   | none => rfl
   | some w => exact rr (jt (ho _ (by simp))) (jt (ho e2 (by simp))) (jt (hhigh w rfl).1) ha.2.1 (ih e2 (by simp))
  ·exact ih e' he'
theorem tG {s : ah} {low high : Option Entry} : ∀ {l : List Entry} {p : Option Entry}, tH s low high p l = (adj s p l && l.all fun e => ew s low e && hiO s e high)
 | [], p => rfl
 | e :: l, p => by
  simp only [tH, adj, List.all_cons, tG (l := l)]
  cases ew s p e <;> cases adj s (some e) l <;> cases (ew s low e && hiO s e high) <;> simp
theorem yf {s : ah} {low high : Option Entry} (hlow : okO s low) (hhigh : okO s high) {x : Node} (ho : ∀ e ∈ x.Entries, okE s e = true) : tH s low high none x.Entries = (adj s none x.Entries && jL s low high x) := by
 rw [tG]
 cases ha : adj s none x.Entries with
 | false => rfl
 | true =>
  simp only [Bool.true_and]
  rw [Bool.eq_iff_iff]
  constructor
  ·intro h
   rw [List.all_eq_true] at h
   unfold jL
   rw [Bool.and_eq_true]
   constructor
   ·cases low with
    | none => rfl
    | some w =>
     cases hh : x.Entries.head? with
     | none => rfl
     | some a =>
      have := h a (List.mem_of_mem_head? hh)
      simp only [Bool.and_eq_true] at this
      exact this.1
   ·cases high with
    | none => rfl
    | some w =>
     cases hh : x.Entries.getLast? with
     | none => rfl
     | some a =>
      have := h a (List.mem_of_mem_getLast? hh)
      simp only [Bool.and_eq_true] at this
      exact this.2
  ·intro h
   unfold jL at h
   rw [Bool.and_eq_true] at h
   rw [List.all_eq_true]
   intro e he
   rw [Bool.and_eq_true]
   constructor
   ·refine tF hlow ho (p := none) (fun e h => by cases h) ha (fun _ a hh => ?_) e he
    have := h.1
    cases low with
    | none => rfl
    | some w => rw [hh] at this; exact this
   ·refine rh hhigh (p := none) ho ha (fun a hh => ?_) e he
    have := h.2
    cases high with
    | none => rfl
    | some w => rw [hh] at this; exact this
section
variable {p0 : Nat} {s : ah} {order last : Int} {nodes : List Node} {H : Hp} {o : ar} (hH : H[p0]? = some o)
include hH
theorem vw (hs : okS s = true) {nx bad : Int} {met : List Int} {a : Nat} {x : Node} {low high : Option Entry} (hl : x.Entries.length < 1000) (hes : ∀ e ∈ x.Entries, okE s e = true) (hlow : okO s low) (hhigh : okO s high) :
  ∀ (l : List Entry) (k : Nat) (p : Option Entry), x.Entries.drop k = l → k ≤ x.Entries.length → (k = 0 → p = none) → (∀ j, k = j + 1 → p = x.Entries[j]?) →
  EvL (fun f => cf f p0 (a : Int) low high) (x.Level, x.Entries, x.Kids, (k : Int), H.set p0 (wdO s order last nodes nx met bad))
   (if tH s low high p l then .inl (x.Level, x.Entries, x.Kids, H.set p0 (wdO s order last nodes nx met bad)) else .inr (false, H.set p0 (wdO s order last nodes nx met (a : Int))))
 | [], k, p, hd, hk, h0, h1 => by
  have hk2 : x.Entries.length ≤ k := by simpa using hd
  simp only [tH, if_true]
  refine .stop ?_
  unfold cf
  exact .f (dge hk2) (.pure _)
 | e :: l, k, p, hd, hk, h0, h1 => by
  have hk1 : k < x.Entries.length := by
   by_cases hk : k < x.Entries.length
   ·exact hk
   ·rw [List.drop_eq_nil_of_le (by omega)] at hd; cases hd
  have hek : x.Entries[k] = e := by rw [aF hk1] at hd; exact (List.cons.inj hd).1
  have hdl : x.Entries.drop (k + 1) = l := by rw [aF hk1] at hd; exact (List.cons.inj hd).2
  have he := hes e (hek ▸ List.getElem_mem hk1)
  have ih := vw hs (nx := nx) (bad := bad) (met := met) (a := a) hl hes hlow hhigh l (k + 1) (some e) hdl (by omega) (by omega) (fun j hj => by
   obtain rfl : j = k := by omega
   rw [List.getElem?_eq_getElem hk1, hek])
  have blk : Ev (α := ((Int × (List Entry) × (List Int) × Int × Hp) ⊕ ((Int × (List Entry) × (List Int) × Hp) ⊕ (((Bool) × Hp))))) (fun f => (Option.elim low
     ((Option.elim high
      (some (.inl (x.Level, x.Entries, x.Kids, ((k + 1 : Nat) : Int), H.set p0 (wdO s order last nodes nx met bad))))
     (fun x32 =>
      (bc f p0 e x32 (H.set p0 (wdO s order last nodes nx met bad))).bind fun r33 =>
      bif (!r33) then
       (aE f p0 (a : Int) (H.set p0 (wdO s order last nodes nx met bad))).bind fun r34 =>
       some (.inr (.inr (r34.1, r34.2)))
      else
       some (.inl (x.Level, x.Entries, x.Kids, ((k + 1 : Nat) : Int), H.set p0 (wdO s order last nodes nx met bad))))))
    (fun x31 =>
     (bc f p0 x31 e (H.set p0 (wdO s order last nodes nx met bad))).bind fun r35 =>
     bif (!r35) then
      (aE f p0 (a : Int) (H.set p0 (wdO s order last nodes nx met bad))).bind fun r36 =>
      some (.inr (.inr (r36.1, r36.2)))
     else
      (Option.elim high
       (some (.inl (x.Level, x.Entries, x.Kids, ((k + 1 : Nat) : Int), H.set p0 (wdO s order last nodes nx met bad))))
      (fun x37 =>
       (bc f p0 e x37 (H.set p0 (wdO s order last nodes nx met bad))).bind fun r38 =>
       bif (!r38) then
        (aE f p0 (a : Int) (H.set p0 (wdO s order last nodes nx met bad))).bind fun r39 =>
        some (.inr (.inr (r39.1, r39.2)))
       else
        some (.inl (x.Level, x.Entries, x.Kids, ((k + 1 : Nat) : Int), H.set p0 (wdO s order last nodes nx met bad))))))))
    (if (ew s low e && hiO s e high) then .inl (x.Level, x.Entries, x.Kids, ((k + 1 : Nat) : Int), H.set p0 (wdO s order last nodes nx met bad)) else .inr (.inr (false, H.set p0 (wdO s order last nodes nx met (a : Int))))) := by
   cases low with
   | none =>
    cases high with
    | none => exact .jF <| .jF (.pure _)
    | some hi =>
     have A := mF hH (order := order) (last := last) (nodes := nodes) hs (nx := nx) (bad := bad) (met := met) he (hhigh hi rfl).1
     by_cases hq : aft s e hi = true
     ·rw [hq] at A
      simp only [ew, hiO, hq, Bool.true_and, if_true]
      exact .jF <| .fR <| .bind A <| .f rfl (.pure _)
     ·have hq := eq_false_of_ne_true hq
      rw [hq] at A
      simp only [ew, hiO, hq, Bool.true_and, Bool.false_eq_true, if_false]
      exact .jF <| .fR <| .bind A <| .t rfl <| .bind (ey hH) (.pure _)
   | some lo =>
    have B := mF hH (order := order) (last := last) (nodes := nodes) hs (nx := nx) (bad := bad) (met := met) (hlow lo rfl).1 he
    by_cases hq : aft s lo e = true
    ·rw [hq] at B
     simp only [ew, hq, Bool.true_and]
     refine .fR <| .bind B <| .f rfl ?_
     cases high with
     | none => exact .jF (.pure _)
     | some hi =>
      have A := mF hH (order := order) (last := last) (nodes := nodes) hs (nx := nx) (bad := bad) (met := met) he (hhigh hi rfl).1
      by_cases hq : aft s e hi = true
      ·rw [hq] at A
       simp only [hiO, hq, if_true]
       exact .fR <| .bind A <| .f rfl (.pure _)
      ·have hq := eq_false_of_ne_true hq
       rw [hq] at A
       simp only [hiO, hq, Bool.false_eq_true, if_false]
       exact .fR <| .bind A <| .t rfl <| .bind (ey hH) (.pure _)
    ·have hq := eq_false_of_ne_true hq
     rw [hq] at B
     simp only [ew, hq, Bool.false_and, Bool.false_eq_true, if_false]
     exact .fR <| .bind B <| .t rfl <| .bind (ey hH) (.pure _)
  have key : Ev (fun f => cf f p0 (a : Int) low high (x.Level, x.Entries, x.Kids, (k : Int), H.set p0 (wdO s order last nodes nx met bad)))
    (if (ew s p e && (ew s low e && hiO s e high)) then .inl (x.Level, x.Entries, x.Kids, ((k + 1 : Nat) : Int), H.set p0 (wdO s order last nodes nx met bad)) else .inr (.inr (false, H.set p0 (wdO s order last nodes nx met (a : Int))))) := by
   unfold cf
   refine .t (dlt hk1) <| .ae (aw hk1) ?_
   rw [hek, dH (by omega)]
   obtain rfl | ⟨j, rfl⟩ : k = 0 ∨ ∃ j, k = j + 1 := by cases k <;> simp
   ·have hp0 := h0 rfl
    subst hp0
    simp only [ew, Bool.true_and]
    exact .f (by simp) blk
   ·have hj : j < x.Entries.length := by omega
    have hp1 := h1 j rfl
    rw [List.getElem?_eq_getElem hj] at hp1
    subst hp1
    have hix : idx x.Entries (IntKind.wrap .i64 (((j + 1 : Nat) : Int) - 1)) = some x.Entries[j] := by
     rw [cO (by omega) (by omega), show ((j + 1 : Nat) : Int) - 1 = (j : Int) by omega]; exact aw hj
    have A := mF hH (order := order) (last := last) (nodes := nodes) hs (nx := nx) (bad := bad) (met := met) (hes _ (List.getElem_mem hj)) he
    by_cases hq : aft s x.Entries[j] e = true
    ·rw [hq] at A
     rw [show (ew s (some x.Entries[j]) e && (ew s low e && hiO s e high)) = (ew s low e && hiO s e high) by simp only [ew, hq, Bool.true_and]]
     exact .t (by first | (simp; done) | (simp; omega) | (simp only [decide_eq_true_eq, decide_eq_false_iff_not]; omega)) <| .ae hix <| .bind A <| .f rfl blk
    ·have hq := eq_false_of_ne_true hq
     rw [hq] at A
     rw [show (ew s (some x.Entries[j]) e && (ew s low e && hiO s e high)) = false by simp only [ew, hq, Bool.false_and]]
     simp only [Bool.false_eq_true, if_false]
     exact .t (by first | (simp; done) | (simp; omega) | (simp only [decide_eq_true_eq, decide_eq_false_iff_not]; omega)) <| .ae hix <| .bind A <| .t rfl <| .bind (ey hH) (.pure _)
  by_cases hc : (ew s p e && (ew s low e && hiO s e high)) = true
  ·rw [if_pos hc] at key
   simp only [tH, hc, Bool.true_and]
   exact .next key ih
  ·rw [if_neg hc] at key
   simp only [tH, eq_false_of_ne_true hc, Bool.false_and, Bool.false_eq_true, if_false]
   exact .stop key
end
end Go.Sh
namespace Go.Sh
set_option maxRecDepth 100000
def wB (fuel : Nat) (rc : Nat → Int → Int → Option Entry → Option Entry → Hp → Option (Bool × Hp)) (p0 : Nat) (p1 p2 : Int) (p3 p4 : Option Entry) (v50 : Int × (List Entry) × (List Int) × Hp) (j52 j54 : Int) : Option (Bool × Hp) :=
 aX (fun (j56 : Unit) =>
  (iter (bB fuel rc p0 p1 p3 p4 v50) fuel (0, v50.2.2.2)).bind (Sum.elim (fun v81 =>
   some (true, v81)) (fun r82 =>
   some r82))) fun jp57 =>
 (bg (cI .i64).cell v50.2.2.2 p0 3).bind fun x58 =>
 bif (decide ((v50.2.1.length : Int) > x58)) then
  (aE fuel p0 p1 v50.2.2.2).bind fun r59 =>
  some (r59.1, r59.2)
 else
  bif ((decide ((v50.2.1.length : Int) < j52)) || (decide (v50.1 < 0))) then
   (aE fuel p0 p1 v50.2.2.2).bind fun r60 =>
   some (r60.1, r60.2)
  else
   bif (decide (p2 ≥ 0)) then
    bif (v50.1 != p2) then
     (aE fuel p0 p1 v50.2.2.2).bind fun r61 =>
     some (r61.1, r61.2)
    else
     bif ((v50.2.2.1.length : Int) != j54) then
      (aE fuel p0 p1 v50.2.2.2).bind fun r62 =>
      some (r62.1, r62.2)
     else
      jp57 ()
   else
    bif ((v50.2.2.1.length : Int) != j54) then
     (aE fuel p0 p1 v50.2.2.2).bind fun r63 =>
     some (r63.1, r63.2)
    else
     jp57 ()
section
variable {p0 : Nat} {s : ah} {order last : Int} {nodes : List Node} {H : Hp} {o : ar}
def A7 (p0 : Nat) (s : ah) (order last : Int) (nodes : List Node) (H : Hp) (bad : Int) (f : Nat → Option (Bool × Hp)) (r : Nat ⊕ (Nat × List Int)) : Prop :=
 match r with
 | .inl b => ∃ nx' met', Ev f (false, H.set p0 (wdO s order last nodes nx' met' (b : Nat)))
 | .inr (z, met') => Ev f (true, H.set p0 (wdO s order last nodes (z : Nat) met' bad)) ∧ met'.length ≤ 1000 * z
variable (hH : H[p0]? = some o)
include hH
theorem tb {d a : Nat} {x : Node} {low high : Option Entry} {bad : Int} {Hx : Hp} {RC : Nat → Nat → Int → Int → Option Entry → Option Entry → Hp → Option (Bool × Hp)}
  (hN : NdB nodes) (hxm : x ∈ nodes) (hk : x.Kids ≠ [] → x.Kids.length = x.Entries.length + 1 ∧ 0 < x.Level)
  (hlow : okO s low) (hhigh : okO s high) (hes : ∀ e ∈ x.Entries, okE s e = true)
  (hrc : ∀ (nx : Nat) (level : Int) (lo hi : Option Entry) (met : List Int), a < nx → nx < nodes.length → 0 ≤ level → okO s lo → okO s hi → met.length ≤ 1000 * nx →
   A7 p0 s order last nodes H bad (fun n => RC n p0 (nx : Int) level lo hi (H.set p0 (wdO s order last nodes (nx : Nat) met bad))) (wk s order last nodes d nx level lo hi met)) :
  ∀ (ks : List Int) (i nx : Nat) (met : List Int), x.Kids.drop i = ks → i ≤ x.Kids.length → a < nx → met.length ≤ 1000 * nx →
   match wkK nodes (wk s order last nodes d) a x low high ks i nx met with
   | .inl b => ∃ nx' met', EvL (fun n => bB n (RC n) p0 (a : Int) low high (x.Level, x.Entries, x.Kids, Hx)) ((i : Int), H.set p0 (wdO s order last nodes (nx : Nat) met bad)) (.inr (false, H.set p0 (wdO s order last nodes nx' met' (b : Nat))))
   | .inr (z, met') => EvL (fun n => bB n (RC n) p0 (a : Int) low high (x.Level, x.Entries, x.Kids, Hx)) ((i : Int), H.set p0 (wdO s order last nodes (nx : Nat) met bad)) (.inl (H.set p0 (wdO s order last nodes (z : Nat) met' bad))) ∧ met'.length ≤ 1000 * z
 | [], i, nx, met, hd, hi, ha, hm => by
  have hik : x.Kids.length ≤ i := by simpa using hd
  simp only [wkK]
  refine ⟨.stop ?_, hm⟩
  unfold bB
  exact .f (dge hik) (.pure _)
 | k :: ks, i, nx, met, hd, hi, ha, hm => by
  have hik : i < x.Kids.length := by
   by_cases hk : i < x.Kids.length
   ·exact hk
   ·rw [List.drop_eq_nil_of_le (by omega)] at hd; cases hd
  have hek : x.Kids[i] = k := by rw [aF hik] at hd; exact (List.cons.inj hd).1
  have hdl : x.Kids.drop (i + 1) = ks := by rw [aF hik] at hd; exact (List.cons.inj hd).2
  have hne : x.Kids ≠ [] := by intro e; rw [e] at hik; simp at hik
  obtain ⟨hk1, hk2⟩ := hk hne
  obtain ⟨b1, b2, b3, b4⟩ := hN.2 x hxm
  have hN1 := hN.1
  simp only [wkK]
  by_cases hc : k = (nx : Int) ∧ nx < nodes.length
  ·rw [if_pos hc]
   have hlo : okO s (kg x low i) := by
    unfold kg
    split
    ·intro e he
     have := List.mem_of_getElem? he
     exact ⟨hes e this, (b4 e this).2⟩
    ·exact hlow
   have hhi : okO s (fK x high i) := by
    unfold fK
    split
    ·intro e he
     have := List.mem_of_getElem? he
     exact ⟨hes e this, (b4 e this).2⟩
    ·exact hhigh
   have R := hrc nx (x.Level - 1) (kg x low i) (fK x high i) met ha hc.2 (by omega) hlo hhi hm
   have step : ∀ {r o'}, Ev (fun n => RC n p0 (nx : Int) (x.Level - 1) (kg x low i) (fK x high i) (H.set p0 (wdO s order last nodes (nx : Nat) met bad))) r →
     Ev (fun n => bif (!r.1) then some (.inr (.inr (false, r.2))) else some (.inl (((i + 1 : Nat) : Int), r.2))) o' →
     Ev (fun n => bB n (RC n) p0 (a : Int) low high (x.Level, x.Entries, x.Kids, Hx) ((i : Int), H.set p0 (wdO s order last nodes (nx : Nat) met bad))) o' := by
    intro r o' hr hE
    unfold bB
    refine .t (dlt hik) <| .aX <| .ae (aw hik) ?_
    rw [hek]
    refine .ae (oQ hH) <| .f (by simp [hc.1]) <| .ae (oQ hH) <| .ae (ub hH) <| .f (by simp; omega) <| .aX ?_
    have tail : ∀ {lo : Option Entry}, lo = kg x low i → Ev (fun n => aX (fun (j75 : (Option Entry)) =>
      (idx x.Kids (i : Int)).bind fun x78 =>
      (RC n p0 x78 (IntKind.wrap .i64 (x.Level - 1)) lo j75 (H.set p0 (wdO s order last nodes (nx : Nat) met bad))).bind fun r79 =>
      bif (!r79.1) then
       some (.inr (.inr (false, r79.2)))
      else
       some (.inl ((IntKind.wrap .i64 ((i : Int) + 1)), r79.2))) fun jp76 =>
     bif (decide ((i : Int) < (x.Entries.length : Int))) then
      (idx x.Entries (i : Int)).bind fun x77 =>
      jp76 (some x77)
     else
      jp76 high) o' := by
     rintro lo rfl
     rw [dH (by omega), cO (x := x.Level - 1) (by unfold i64 at b3; omega) (by unfold i64 at b3; omega)]
     refine .aX ?_
     by_cases hx : i < x.Entries.length
     ·refine .t (dlt hx) <| .ae (aw hx) <| .ae (aw hik) ?_
      have e : fK x high i = some x.Entries[i] := by unfold fK; rw [if_pos hx, List.getElem?_eq_getElem hx]
      rw [e] at hr
      rw [hek, hc.1]
      exact .bind hr hE
     ·refine .f (dge (by omega)) <| .ae (aw hik) ?_
      have e : fK x high i = high := by unfold fK; rw [if_neg hx]
      rw [e] at hr
      rw [hek, hc.1]
      exact .bind hr hE
    by_cases h0 : 0 < i
    ·have hj : i - 1 < x.Entries.length := by omega
     have hix : idx x.Entries (IntKind.wrap .i64 ((i : Int) - 1)) = some x.Entries[i - 1] := by
      rw [cO (by omega) (by omega), show (i : Int) - 1 = ((i - 1 : Nat) : Int) by omega]; exact aw hj
     exact .t (by simp; omega) <| .ae hix <| tail (by unfold kg; rw [if_pos h0, List.getElem?_eq_getElem hj])
    ·exact .f (by simp; omega) <| tail (by unfold kg; rw [if_neg h0])
   cases hw : wk s order last nodes d nx (x.Level - 1) (kg x low i) (fK x high i) met with
   | inl b =>
    rw [hw] at R
    obtain ⟨nx', met', R1⟩ := R
    exact ⟨nx', met', .stop (step R1 (.t rfl (.pure _)))⟩
   | inr q =>
    obtain ⟨z, met'⟩ := q
    rw [hw] at R
    obtain ⟨R1, R2⟩ := R
    have hlt : nx < z := wZ hw
    have T := step R1 (.f rfl (.pure _))
    have IH := tb hN hxm hk hlow hhigh hes hrc ks (i + 1) z met' hdl (by omega) (by omega) R2 (Hx := Hx)
    simp only
    cases hw2 : wkK nodes (wk s order last nodes d) a x low high ks (i + 1) z met' with
    | inl b =>
     rw [hw2] at IH
     obtain ⟨nx', met2, I1⟩ := IH
     exact ⟨nx', met2, .next T I1⟩
    | inr q =>
     obtain ⟨z', met2⟩ := q
     rw [hw2] at IH
     exact ⟨.next T IH.1, IH.2⟩
  ·rw [if_neg hc]
   simp only
   refine ⟨nx, met, .stop ?_⟩
   unfold bB
   refine .t (dlt hik) <| .aX <| .ae (aw hik) ?_
   rw [hek]
   refine .ae (oQ hH) ?_
   by_cases hkn : k = (nx : Int)
   ·exact .f (by simp [hkn]) <| .ae (oQ hH) <| .ae (ub hH) <| .t (by simp; omega) <| .bind (ey hH) (.pure _)
   ·exact .t (by simp [hkn]) <| .t rfl <| .bind (ey hH) (.pure _)
theorem Be {a : Nat} {x : Node} {low high : Option Entry} {nx bad p2 j52 j54 : Int} {met : List Int} {RC : Nat → Nat → Int → Int → Option Entry → Option Entry → Hp → Option (Bool × Hp)} :
  ((x.Entries.length : Int) ≤ order ∧ j52 ≤ (x.Entries.length : Int) ∧ 0 ≤ x.Level ∧ (0 ≤ p2 → x.Level = p2) ∧ (x.Kids.length : Int) = j54 →
   ∀ r, Ev (fun n => (iter (bB n (RC n) p0 (a : Int) low high (x.Level, x.Entries, x.Kids, H.set p0 (wdO s order last nodes nx met bad))) n (0, H.set p0 (wdO s order last nodes nx met bad))).bind (Sum.elim (fun v81 => some (true, v81)) (fun r82 => some r82))) r →
   Ev (fun n => wB n (RC n) p0 (a : Int) p2 low high (x.Level, x.Entries, x.Kids, H.set p0 (wdO s order last nodes nx met bad)) j52 j54) r) ∧
  (¬ ((x.Entries.length : Int) ≤ order ∧ j52 ≤ (x.Entries.length : Int) ∧ 0 ≤ x.Level ∧ (0 ≤ p2 → x.Level = p2) ∧ (x.Kids.length : Int) = j54) →
   Ev (fun n => wB n (RC n) p0 (a : Int) p2 low high (x.Level, x.Entries, x.Kids, H.set p0 (wdO s order last nodes nx met bad)) j52 j54) (false, H.set p0 (wdO s order last nodes nx met (a : Int)))) := by
 have W := fun {b : Int} => ey hH (s := s) (order := order) (last := last) (nodes := nodes) (nx := nx) (bad := bad) (b := b) (met := met)
 constructor
 ·rintro ⟨c1, c2, c3, c4, c5⟩ r hE
  unfold wB
  refine .aX <| .ae (tZ hH) <| .f (by first | (simp; done) | (simp; omega) | (simp only [decide_eq_true_eq, decide_eq_false_iff_not]; omega)) <| .f (by simp; omega) ?_
  by_cases hp : 0 ≤ p2
  ·exact .t (by first | (simp; done) | (simp; omega) | (simp only [decide_eq_true_eq, decide_eq_false_iff_not]; omega)) <| .f (by simp; exact c4 hp) <| .f (by simp [c5]) hE
  ·exact .f (by first | (simp; done) | (simp; omega) | (simp only [decide_eq_true_eq, decide_eq_false_iff_not]; omega)) <| .f (by simp [c5]) hE
 ·intro hn
  unfold wB
  refine .aX <| .ae (tZ hH) ?_
  by_cases c1 : (x.Entries.length : Int) ≤ order
  ·refine .f (by first | (simp; done) | (simp; omega) | (simp only [decide_eq_true_eq, decide_eq_false_iff_not]; omega)) ?_
   by_cases c2 : j52 ≤ (x.Entries.length : Int) ∧ 0 ≤ x.Level
   ·refine .f (by simp; omega) ?_
    by_cases hp : 0 ≤ p2
    ·refine .t (by first | (simp; done) | (simp; omega) | (simp only [decide_eq_true_eq, decide_eq_false_iff_not]; omega)) ?_
     by_cases c4 : x.Level = p2
     ·refine .f (by simp [c4]) ?_
      have c5 : (x.Kids.length : Int) ≠ j54 := fun e => hn ⟨c1, c2.1, c2.2, fun _ => c4, e⟩
      exact .t (bne_iff_ne.2 c5) <| .bind W (.pure _)
     ·exact .t (bne_iff_ne.2 c4) <| .bind W (.pure _)
    ·refine .f (by first | (simp; done) | (simp; omega) | (simp only [decide_eq_true_eq, decide_eq_false_iff_not]; omega)) ?_
     have c5 : (x.Kids.length : Int) ≠ j54 := fun e => hn ⟨c1, c2.1, c2.2, fun h => absurd h hp, e⟩
     exact .t (bne_iff_ne.2 c5) <| .bind W (.pure _)
   ·exact .t (by simp; omega) <| .bind W (.pure _)
  ·exact .t (by first | (simp; done) | (simp; omega) | (simp only [decide_eq_true_eq, decide_eq_false_iff_not]; omega)) <| .bind W (.pure _)
end
end Go.Sh
namespace Go.Sh
set_option maxRecDepth 100000
theorem pn {s : ah} {last : Int} : ∀ {l : List Entry} {met met' : List Int}, kd s last met l = some met' → met'.length = met.length + l.length
 | [], met, met', h => by simp only [kd, Option.some.injEq] at h; subst h; rfl
 | e :: l, met, met', h => by
  simp only [kd] at h
  split at h
  ·have := pn h
   simp only [List.length_append, List.length_cons, List.length_nil] at this ⊢
   omega
  ·cases h
section
variable {p0 : Nat} {s : ah} {order last : Int} {nodes : List Node} {H : Hp} {o : ar} (hH : H[p0]? = some o)
include hH
theorem qv (hs : okS s = true) (h3 : 3 ≤ order) (h32 : order ≤ 32) (hN : NdB nodes) {bad : Int} : ∀ (d a : Nat) (level : Int) (low high : Option Entry) (met : List Int),
  a < nodes.length → nodes.length ≤ a + d → okO s low → okO s high → (a = 0 → level = -1) → (a ≠ 0 → 0 ≤ level) → met.length ≤ 1000 * a →
   A7 p0 s order last nodes H bad (fun n => bq n p0 (a : Int) level low high (H.set p0 (wdO s order last nodes (a : Nat) met bad))) (wk s order last nodes d a level low high met)
 | 0, a, level, low, high, met, ha, hd, _, _, _, _, _ => by omega
 | d + 1, a, level, low, high, met, ha, hd, hlow, hhigh, h0, hl0, hm => by
  have hx : nodes[a]? = some nodes[a] := List.getElem?_eq_getElem ha
  have hxm : nodes[a] ∈ nodes := List.getElem_mem ha
  generalize hxe : nodes[a] = x at hx hxm
  have hN1 := hN.1
  obtain ⟨b1, b2, b3, b4⟩ := hN.2 x hxm
  have E := tv hH (order := order) (last := last) (nodes := nodes) hs (nx := ((a + 1 : Nat) : Int)) (bad := bad) (a := a) (x := x) b1 (fun e he => (b4 e he).1) x.Entries 0 met rfl (by omega) (by omega)
  have hwk : wk s order last nodes (d + 1) a level low high met = (match okN s order last (a == 0) level low high met x with
   | none => .inl a
   | some met' => wkK nodes (wk s order last nodes d) a x low high x.Kids 0 (a + 1) met') := by
   show (match nodes[a]? with | none => Sum.inl a | some x => match okN s order last (a == 0) level low high met x with | none => Sum.inl a | some met' => wkK nodes (wk s order last nodes d) a x low high x.Kids 0 (a + 1) met') = _
   rw [hx]
  rw [hwk]
  clear hwk
  -- the head
  have head : ∀ {r}, Ev (fun n => (iter (bC n p0 (a : Int)) n (x.Level, x.Entries, x.Kids, 0, H.set p0 (wdO s order last nodes ((a + 1 : Nat) : Int) met bad))).bind (Sum.elim (fun v25 =>
     (iter (cf n p0 (a : Int) low high) n (v25.1, v25.2.1, v25.2.2.1, 0, v25.2.2.2)).bind (Sum.elim (fun v50 =>
      (bg (cI .i64).cell v50.2.2.2 p0 3).bind fun x51 =>
      aX (fun (j52 : Int) =>
       aX (fun (j54 : Int) => wB n (bq n) p0 (a : Int) level low high v50 j52 j54) fun jp55 =>
       bif (v50.1 == 0) then
        jp55 0
       else
        jp55 (IntKind.wrap .i64 ((v50.2.1.length : Int) + 1))) fun jp53 =>
      bif ((a : Int) == 0) then
       bif (v50.1 != 0) then
        jp53 1
       else
        jp53 0
      else
       jp53 (IntKind.wrap .i64 (Int.tdiv x51 2))) (fun r83 =>
      some r83))) (fun r84 =>
     some r84))) r → Ev (fun n => bq n p0 (a : Int) level low high (H.set p0 (wdO s order last nodes (a : Nat) met bad))) r := by
   intro r hE
   refine mB (g := fun n => du n (bq n) p0 (a : Int) level low high (H.set p0 (wdO s order last nodes (a : Nat) met bad))) (fun n => rfl) ?_
   unfold du
   refine .ae (oQ hH) ?_
   rw [dH (by omega)]
   refine .ae (w6 hH) <| .ae (ub hH) <| .ae (gp hx) hE
  have badN : okN s order last (a == 0) level low high met x = none → (∃ met', Ev (fun n => bq n p0 (a : Int) level low high (H.set p0 (wdO s order last nodes (a : Nat) met bad))) (false, H.set p0 (wdO s order last nodes ((a + 1 : Nat) : Int) met' (a : Int)))) →
    A7 p0 s order last nodes H bad (fun n => bq n p0 (a : Int) level low high (H.set p0 (wdO s order last nodes (a : Nat) met bad))) (match okN s order last (a == 0) level low high met x with
   | none => .inl a
   | some met' => wkK nodes (wk s order last nodes d) a x low high x.Kids 0 (a + 1) met') := by
   rintro hn ⟨met', hE⟩
   rw [hn]
   exact ⟨_, met', hE⟩
  cases hq : kd s last met x.Entries with
  | none =>
   rw [hq] at E
   obtain ⟨met', E⟩ := E
   exact badN (by unfold okN; simp only [hq, ite_self]) ⟨met', head (.bind E.ev (.pure _))⟩
  | some met' =>
   rw [hq] at E
   have hlen := pn hq
   have hes := ka hq
   have O := vw hH (order := order) (last := last) (nodes := nodes) hs (nx := ((a + 1 : Nat) : Int)) (bad := bad) (met := met') (a := a) (x := x) (low := low) (high := high) b1 hes hlow hhigh x.Entries 0 none rfl (by omega) (fun _ => rfl) (fun j hj => by omega)
   rw [yf hlow hhigh hes] at O
   by_cases hc : (adj s none x.Entries && jL s low high x) = true
   ·rw [if_pos hc] at O
    rw [Bool.and_eq_true] at hc
    obtain ⟨j52, hj52⟩ : ∃ j : Int, j = if a = 0 then (if x.Level = 0 then 0 else 1) else order / 2 := ⟨_, rfl⟩
    obtain ⟨j54, hj54⟩ : ∃ j : Int, j = if x.Level = 0 then 0 else (x.Entries.length : Int) + 1 := ⟨_, rfl⟩
    have head2 : ∀ {r}, Ev (fun n => wB n (bq n) p0 (a : Int) level low high (x.Level, x.Entries, x.Kids, H.set p0 (wdO s order last nodes ((a + 1 : Nat) : Int) met' bad)) j52 j54) r → Ev (fun n => bq n p0 (a : Int) level low high (H.set p0 (wdO s order last nodes (a : Nat) met bad))) r := by
     intro r hE
     refine head <| .bind E.ev <| .bind O.ev <| .ae (tZ hH) <| .aX ?_
     have tail : ∀ {k : Int}, k = j52 → Ev (fun n => aX (fun (j54 : Int) => wB n (bq n) p0 (a : Int) level low high (x.Level, x.Entries, x.Kids, H.set p0 (wdO s order last nodes ((a + 1 : Nat) : Int) met' bad)) k j54) fun jp55 =>
       bif (x.Level == 0) then
        jp55 0
       else
        jp55 (IntKind.wrap .i64 ((x.Entries.length : Int) + 1))) r := by
      rintro k rfl
      refine .aX ?_
      by_cases hz : x.Level = 0
      ·have : j54 = 0 := by rw [hj54, if_pos hz]
       rw [this] at hE
       exact .t (by simp [hz]) hE
      ·have : j54 = (x.Entries.length : Int) + 1 := by rw [hj54, if_neg hz]
       rw [this] at hE
       rw [cO (x := (x.Entries.length : Int) + 1) (by omega) (by omega)]
       exact .f (by simp [hz]) hE
     by_cases ha0 : a = 0
     ·refine .t (by simp [ha0]) ?_
      by_cases hz : x.Level = 0
      ·exact .f (by simp [hz]) (tail (by simp [hj52, ha0, hz]))
      ·exact .t (by simp [hz]) (tail (by simp [hj52, ha0, hz]))
     ·refine .f (by simp [ha0]) (tail ?_)
      rw [show Int.tdiv order 2 = order / 2 by rw [Int.tdiv_eq_ediv_of_nonneg (by omega)], cO (by omega) (by omega)]
      rw [hj52, if_neg ha0]
    obtain ⟨W1, W2⟩ := Be hH (s := s) (order := order) (last := last) (nodes := nodes) (a := a) (x := x) (low := low) (high := high) (nx := ((a + 1 : Nat) : Int)) (bad := bad) (p2 := level) (j52 := j52) (j54 := j54) (met := met') (RC := fun n => bq n)
    have hiff : ((x.Entries.length : Int) ≤ order ∧ j52 ≤ (x.Entries.length : Int) ∧ 0 ≤ x.Level ∧ (0 ≤ level → x.Level = level) ∧ (x.Kids.length : Int) = j54) ↔ (pW order (a == 0) x && og (a == 0) level x && ql x) = true := by
     simp only [pW, og, ql, Bool.and_eq_true, Bool.or_eq_true, decide_eq_true_eq, beq_iff_eq, bne_iff_ne, ne_eq]
     rw [hj52, hj54]
     clear hj52 hj54 head2 W1 W2 head badN E O
     by_cases ha0 : a = 0
     ·have := h0 ha0
      simp only [ha0, eq_self_iff_true, if_true, true_or, and_true]
      by_cases hz : x.Level = 0
      ·simp only [hz, ne_eq, not_true_eq_false, if_true, if_false, Int.lt_irrefl, Int.le_refl, true_and, and_true]; omega
      ·by_cases hz2 : 0 < x.Level
       ·simp only [hz, not_false_eq_true, if_true, if_false, hz2]; omega
       ·simp only [hz, not_false_eq_true, if_true, if_false, hz2]; omega
     ·have := hl0 ha0
      simp only [ha0, if_false, false_or]
      by_cases hz : x.Level = 0
      ·simp only [hz, ne_eq, not_true_eq_false, if_true, if_false, Int.lt_irrefl, Int.le_refl, true_and]; omega
      ·by_cases hz2 : 0 < x.Level
       ·simp only [hz, if_false, hz2, if_true]; omega
       ·simp only [hz, if_false, hz2]; omega
    by_cases hg : (pW order (a == 0) x && og (a == 0) level x && ql x) = true
    ·have hok : okN s order last (a == 0) level low high met x = some met' := by
      unfold okN
      rw [hg, hc.1, hc.2, hq]; rfl
     rw [hok]
     simp only [Bool.and_eq_true] at hg
     have hk : x.Kids ≠ [] → x.Kids.length = x.Entries.length + 1 ∧ 0 < x.Level := by
      intro hne
      have h1 := hg.2
      simp only [ql, Bool.and_eq_true, beq_iff_eq] at h1
      have h1 := h1.1
      split at h1
      ·exact ⟨h1, by assumption⟩
      ·exact absurd (List.length_eq_zero_iff.1 h1) hne
     have K := tb hH (d := d) (a := a) (x := x) (low := low) (high := high) (bad := bad) (Hx := H.set p0 (wdO s order last nodes ((a + 1 : Nat) : Int) met' bad)) (RC := fun n => bq n) hN hxm hk hlow hhigh hes
      (fun nx level lo hi met h1 h2 h3' h4 h5 h6 => qv hs h3 h32 hN d nx level lo hi met h2 (by omega) h4 h5 (by omega) (fun _ => h3') h6) x.Kids 0 (a + 1) met' rfl (by omega) (by omega) (by omega)
     have hgood := hiff.2 (by simp only [Bool.and_eq_true]; exact hg)
     simp only
     cases hw : wkK nodes (wk s order last nodes d) a x low high x.Kids 0 (a + 1) met' with
     | inl b =>
      rw [hw] at K
      obtain ⟨nx', met2, K1⟩ := K
      exact ⟨nx', met2, head2 (W1 hgood _ (.bind K1.ev (.pure _)))⟩
     | inr q =>
      obtain ⟨z, met2⟩ := q
      rw [hw] at K
      exact ⟨head2 (W1 hgood _ (.bind K.1.ev (.pure _))), K.2⟩
    ·refine badN ?_ ⟨met', head2 (W2 (fun h => hg (hiff.1 h)))⟩
     unfold okN
     rw [eq_false_of_ne_true hg]; rfl
   ·rw [if_neg hc] at O
    refine badN ?_ ⟨met', head (.bind E.ev (.bind O.ev (.pure _)))⟩
    unfold okN
    rw [Bool.and_assoc, eq_false_of_ne_true hc, Bool.and_false]
    rfl
end
end Go.Sh
namespace Go.Sh
set_option maxRecDepth 100000
theorem yM {s : ah} {order last : Int} {nodes : List Node} {d : Nat} {lv lv' : Int} {lo hi : Option Entry} {met : List Int} : wk s order last nodes d 0 lv lo hi met = wk s order last nodes d 0 lv' lo hi met := by
 cases d with
 | zero => rfl
 | succ d =>
  show (match nodes[0]? with | none => Sum.inl 0 | some x => match okN s order last (0 == 0) lv lo hi met x with | none => Sum.inl 0 | some met' => wkK nodes (wk s order last nodes d) 0 x lo hi x.Kids 0 (0 + 1) met') =
   (match nodes[0]? with | none => Sum.inl 0 | some x => match okN s order last (0 == 0) lv' lo hi met x with | none => Sum.inl 0 | some met' => wkK nodes (wk s order last nodes d) 0 x lo hi x.Kids 0 (0 + 1) met')
  have : ∀ x, okN s order last (0 == 0) lv lo hi met x = okN s order last (0 == 0) lv' lo hi met x := fun x => by
   simp only [okN, og, beq_self_eq_true, Bool.true_or]
  cases nodes[0]? with
  | none => rfl
  | some x => simp only [this]
def fm (s : ah) (order last : Int) (nodes : List Node) : Int × Int :=
 if okS s = true then
  if 3 ≤ order ∧ order ≤ 32 ∧ 0 ≤ last then
   if nodes.length = 0 then (0, 12)
   else match wk s order last nodes nodes.length 0 0 none none [] with
    | .inl b => ((b : Nat), 12)
    | .inr (z, met) => if z < nodes.length then ((z : Nat), 12) else if 500 < met.length then (0, 4) else (-1, 0)
  else (0, 7)
 else (0, 1)
theorem mf {s : ah} : okO s none := fun e h => by cases h
theorem qJ (s : ah) (order last : Int) (nodes : List Node) (hN : NdB nodes) (hk : s.aq.length < 1000) : Ev (fun f => kQ f s order last nodes) (fm s order last nodes) := by
 have hN1 := hN.1
 unfold kQ fm
 refine .bind (wq s hk) ?_
 cases hs : okS s with
 | false =>
  simp only [Bool.false_eq_true, if_false]
  exact .t rfl (.pure _)
 | true =>
  simp only [if_true]
  refine .f rfl ?_
  by_cases hc : 3 ≤ order ∧ order ≤ 32 ∧ 0 ≤ last
  ·rw [if_pos hc]
   refine .f (by simp; omega) ?_
   by_cases h0 : nodes.length = 0
   ·rw [if_pos h0]
    exact .t (by simp [List.length_eq_zero_iff.1 h0]) (.pure _)
   ·rw [if_neg h0]
    refine .f (beq_eq_false_iff_ne.2 (by omega)) <| .ae rfl ?_
    let H1 : Hp := [] ++ [wdO s order last nodes 0 [] (-1)]
    have hH : H1[0]? = some (wdO s order last nodes 0 [] (-1)) := rfl
    have W := qv hH hs hc.1 hc.2.1 hN (last := last) (bad := -1) nodes.length 0 (-1) none none [] (by omega) (by omega) mf mf (fun _ => rfl) (fun h => absurd rfl h) (by simp)
    rw [yM (lv' := 0)] at W
    have e0 : H1.set 0 (wdO s order last nodes ((0 : Nat) : Int) [] (-1)) = H1 := rfl
    rw [e0] at W
    cases hw : wk s order last nodes nodes.length 0 0 none none [] with
    | inl b =>
     rw [hw] at W
     obtain ⟨nx', met', W⟩ := W
     simp only
     exact .bind W <| .t rfl <| .ae (Ah hH) (.pure _)
    | inr q =>
     obtain ⟨z, met⟩ := q
     rw [hw] at W
     obtain ⟨W, -⟩ := W
     simp only
     refine .bind W <| .f rfl <| .ae (oQ hH) ?_
     by_cases hz : z < nodes.length
     ·rw [if_pos hz]
      exact .t (dlt hz) <| .ae (oQ hH) (.pure _)
     ·rw [if_neg hz]
      refine .f (dge (by omega)) <| .ae (mM hH) ?_
      by_cases hm : 500 < met.length
      ·rw [if_pos hm]; exact .t (by simp; omega) (.pure _)
      ·rw [if_neg hm]; exact .f (by simp; omega) (.pure _)
  ·rw [if_neg hc]
   exact .t (by simp; omega) (.pure _)
theorem vW {r : List Int} (f : Nat) (h : r.length < 1000) : dn f r = some r := by
 unfold dn
 cases r with
 | nil => rfl
 | cons a l =>
  show Go.Sh.chk (decide ((([] : List Int) ++ a :: l).length ≤ room)) (some ([] ++ a :: l)) = _
  rw [show decide ((([] : List Int) ++ a :: l).length ≤ room) = true by
   rw [decide_eq_true_eq]
   have : (a :: l).length < 1000 := h
   simp only [List.nil_append, room]
   omega]
  rfl
theorem zC {r : List Bool} (f : Nat) (h : r.length < 1000) : cY f r = some r := by
 unfold cY
 cases r with
 | nil => rfl
 | cons a l =>
  show Go.Sh.chk (decide ((([] : List Bool) ++ a :: l).length ≤ room)) (some ([] ++ a :: l)) = _
  rw [show decide ((([] : List Bool) ++ a :: l).length ≤ room) = true by
   rw [decide_eq_true_eq]
   have : (a :: l).length < 1000 := h
   simp only [List.nil_append, room]
   omega]
  rfl
theorem yQ (s : ah) (order : Int) (H : Hp) (hk : s.aq.length < 1000) (hd : s.Down.length < 1000) : Ev (fun f => qD f s order H)
  (if okS s = true then (if 3 ≤ order ∧ order ≤ 32 then ((some (H.length + 1), 0), (H ++ [ndO [] []]) ++ [trO s order (some H.length) 0 0]) else ((none, 7), H)) else ((none, 1), H)) := by
 unfold qD
 refine .bind (wm s) ?_
 cases hs : okS s with
 | false => simp only [Bool.false_eq_true, if_false]; exact .t rfl (.pure _)
 | true =>
  simp only [if_true]
  refine .f rfl ?_
  by_cases hc : 3 ≤ order ∧ order ≤ 32
  ·rw [if_pos hc]
   refine .f (by simp; omega) <| .bind (.of fun n => vW n hk) <| .bind (.of fun n => zC n hd) <| .ae rfl <| .ae rfl ?_
   refine .of fun n => ?_
   simp only [ndO, trO, cP, List.length_append, List.length_cons, List.length_nil, Nat.zero_add]
  ·rw [if_neg hc]
   exact .t (by simp; omega) (.pure _)
theorem xd (s : ah) (order last : Int) (nodes : List Node) (hN : NdB nodes) (hk : s.aq.length < 1000) (hd : s.Down.length < 1000) (H : Hp) :
  ∃ t H', Ev (fun f => iO f s order last nodes H) ((t, fm s order last nodes), H') ∧
   ((fm s order last nodes).2 = 0 → ∃ tr root cnt ks z met, t = some tr ∧ wk s order last nodes nodes.length 0 0 none none [] = .inr (z, met) ∧ nodes.length ≤ z ∧ cnt = met.length ∧
    H'[tr]? = some (.cells [.own 1 ks, .d (.list 1 (List.map D.bool s.Down)), .d (.int .i64 s.Dup), .d (.int .i64 order), .d (cP.enc (some root)), .d (.int .i64 last), .d (.int .i64 (cnt : Nat))]) ∧ ∃ b lv, tr < b ∧ HN b nodes H' lv 0 z root) := by
 have hN1 := hN.1
 have N := yQ s order H hk hd
 unfold fm
 cases hs : okS s with
 | false =>
  rw [hs] at N
  simp only [Bool.false_eq_true, if_false] at N ⊢
  refine ⟨none, H, ?_, fun h => by cases h⟩
  unfold iO
  exact .bind N <| .t rfl (.pure _)
 | true =>
  rw [hs] at N
  simp only [if_true] at N ⊢
  by_cases hc : 3 ≤ order ∧ order ≤ 32 ∧ 0 ≤ last
  ·rw [if_pos ⟨hc.1, hc.2.1⟩] at N
   rw [if_pos hc]
   let H1 : Hp := (H ++ [ndO [] []]) ++ [trO s order (some H.length) 0 0]
   let H2 : Hp := H1.set (H.length + 1) (trO s order (some H.length) last 0)
   let H3 : Hp := H2 ++ [cT []]
   let H4 : Hp := H3 ++ [ldO (H.length + 1) H2.length nodes 0 0]
   have n1 : H1.length = H.length + 2 := by simp [H1]
   have n2 : H2.length = H.length + 2 := by simp [H2, n1]
   have n3 : H3.length = H.length + 3 := by simp [H3, n2]
   have n4 : H4.length = H.length + 4 := by simp [H4, n3]
   have g1 : H1[H.length + 1]? = some (trO s order (some H.length) 0 0) := by simp [H1]
   have s5 : dA (cI .i64) H1 (H.length + 1) 5 last = some H2 := jy g1 (by simp [cI, D.cells])
   have g2 : H2[H.length + 1]? = some (trO s order (some H.length) last 0) := bE g1
   have g4t : H4[H.length + 1]? = some (trO s order (some H.length) last 0) := by
    show (H3 ++ _)[H.length + 1]? = _
    rw [eR (by omega)]
    show (H2 ++ _)[H.length + 1]? = _
    rw [eR (by omega)]; exact g2
   have g4m : H4[H2.length]? = some (cT []) := by
    show (H3 ++ _)[H2.length]? = _
    rw [eR (by omega)]
    exact oL
   have g4p : H4[H3.length]? = some (ldO (H.length + 1) H2.length nodes 0 0) := oL
   have LI : LdI H3.length (H.length + 1) H2.length s order last nodes H4 ((0 : Nat) : Int) 0 := ⟨g4p, ⟨_, _, g4t⟩, ⟨_, g4m⟩, by omega, by omega, by omega⟩
   have pre : ∀ {q : Option Nat × Hp} {r}, Ev (fun n => bR n H3.length 0 ⟨none, none⟩ H4) q → Ev (fun fuel => aX (fun (j8 : (Option Nat) × Bool) =>
     bif j8.2 then
      (bg (cI .i64).cell q.2 H3.length 4).bind fun x11 =>
      some ((none, x11, 12), q.2)
     else
      (bg (cI .i64).cell q.2 H3.length 2).bind fun x12 =>
      bif (decide (x12 < (nodes.length : Int))) then
       (bg (cI .i64).cell q.2 H3.length 2).bind fun x13 =>
       some ((none, x13, 12), q.2)
      else
       (bg cM.cell q.2 H3.length 3).bind fun x14 =>
       (rU (kI .i64) cB q.2 x14).bind fun q15 =>
       bif (decide (q15 > 500)) then
        some ((none, 0, 4), q.2)
       else
        (bg cM.cell q.2 H3.length 3).bind fun x16 =>
        (rU (kI .i64) cB q.2 x16).bind fun q17 =>
        (dA cP q.2 (H.length + 1) 4 j8.1).bind fun H18 =>
        (dA (cI .i64) H18 (H.length + 1) 6 q17).bind fun H19 =>
        (dn fuel s.aq).bind fun r20 =>
        (dB 1 (cI .i64) H19 (H.length + 1) 0 r20).bind fun H21 =>
        some (((some (H.length + 1)), (-1), 0), H21)) fun jp9 =>
     (Option.elim q.1
      (jp9 (none, true))
     (fun i10 =>
      jp9 ((some i10), false)))) r → Ev (fun f => iO f s order last nodes H) r := by
    intro q r h1 h2
    unfold iO
    exact .bind N <| .f rfl <| .f (by simp; omega) <| .ae rfl <| .ae s5 <| .ae rfl <| .ae rfl <| .ae rfl <| .bind h1 h2
   by_cases h0 : nodes.length = 0
   ·rw [if_pos h0]
    refine ⟨none, _, pre (q := (none, H4.set H3.length (ldO (H.length + 1) H2.length nodes 0 0))) ?_ (.aX <| .jF <| .t rfl <| .ae (LI.put 0 0).bd (.pure _)), fun h => by cases h⟩
    refine mB (g := fun n => cx n (bR n) H3.length 0 ⟨none, none⟩ H4) (fun n => rfl) ?_
    unfold cx
    exact .ae LI.nxt <| .ae LI.nds <| .t (by simp [List.length_eq_zero_iff.1 h0]) <| .ae (LI.rD 0) (.pure _)
   ·rw [if_neg h0]
    have L := qP hs hc.1 hc.2.1 hN nodes.length 0 0 none none [] H4 0 (by omega) (by omega) mf mf LI g4m
    cases hw : wk s order last nodes nodes.length 0 0 none none [] with
    | inl b =>
     rw [hw] at L
     obtain ⟨H', nx', L1, L2⟩ := L
     simp only
     exact ⟨none, H', pre L1 (.aX <| .jF <| .t rfl <| .ae L2.bd (.pure _)), fun h => by cases h⟩
    | inr q =>
     obtain ⟨z, met⟩ := q
     rw [hw] at L
     obtain ⟨H', i, lv, bad', L1, L2, L3, L4, L5, L6⟩ := L
     simp only
     have hlen : rU (kI .i64) cB H' (some H2.length) = some ((met.length : Nat) : Int) := by
      rw [zq L3]; simp [uH]
     by_cases hz : z < nodes.length
     ·rw [if_pos hz]
      exact ⟨none, H', pre L1 (.aX <| .fR <| .f rfl <| .ae L2.nxt <| .t (dlt hz) <| .ae L2.nxt (.pure _)), fun h => by cases h⟩
     ·rw [if_neg hz]
      by_cases hm : 500 < met.length
      ·rw [if_pos hm]
       exact ⟨none, H', pre L1 (.aX <| .fR <| .f rfl <| .ae L2.nxt <| .f (dge (by omega)) <| .ae L2.mp <| .ae hlen <| .t (by simp; omega) (.pure _)), fun h => by cases h⟩
      ·rw [if_neg hm]
       have e0 : H'[H.length + 1]? = some (trO s order (some H.length) last 0) := by rw [L6 _ (by omega) (by omega) (by omega)]; exact g4t
       let H5 : Hp := H'.set (H.length + 1) (trO s order (some i) last 0)
       have s1 : dA cP H' (H.length + 1) 4 (some i) = some H5 := jy e0 (by simp [cP, D.cells])
       have e1 : H5[H.length + 1]? = some (trO s order (some i) last 0) := bE e0
       let H6 : Hp := H5.set (H.length + 1) (trO s order (some i) last (met.length : Nat))
       have s2 : dA (cI .i64) H5 (H.length + 1) 6 ((met.length : Nat) : Int) = some H6 := jy e1 (by simp [cI, D.cells])
       have e2 : H6[H.length + 1]? = some (trO s order (some i) last (met.length : Nat)) := bE e1
       let H7 : Hp := H6.set (H.length + 1) (.cells [.own 1 (s.aq.map (D.int .i64)), .d (.list 1 (List.map D.bool s.Down)), .d (.int .i64 s.Dup), .d (.int .i64 order), .d (cP.enc (some i)), .d (.int .i64 last), .d (.int .i64 (met.length : Nat))])
       have s3 : dB 1 (cI .i64) H6 (H.length + 1) 0 s.aq = some H7 := kx e2 (by simp)
       have e3 : ∀ j, j ≠ H.length + 1 → H7[j]? = H'[j]? := fun j hj => by
        show ((((H'.set _ _).set _ _).set _ _)[j]?) = _
        rw [bD hj, bD hj, bD hj]
       refine ⟨some (H.length + 1), H7, pre L1 (.aX <| .fR <| .f rfl <| .ae L2.nxt <| .f (dge (by omega)) <| .ae L2.mp <| .ae hlen <| .f (by simp; omega) <|
        .ae L2.mp <| .ae hlen <| .ae s1 <| .ae s2 <| .bind (.of fun n => vW n hk) <| .ae s3 (.pure _)), fun _ => ?_⟩
       exact ⟨_, i, met.length, _, z, met, rfl, rfl, by omega, rfl, bE e2, H4.length, lv, by omega, L4.frame fun j j1 j2 => e3 j (by omega)⟩
  ·rw [if_neg hc]
   by_cases ho : 3 ≤ order ∧ order ≤ 32
   ·rw [if_pos ho] at N
    refine ⟨none, (H ++ [ndO [] []]) ++ [trO s order (some H.length) 0 0], ?_, fun h => by cases h⟩
    unfold iO
    exact .bind N <| .f rfl <| .t (by simp; omega) (.pure _)
   ·rw [if_neg ho] at N
    refine ⟨none, H, ?_, fun h => by cases h⟩
    unfold iO
    exact .bind N <| .t rfl (.pure _)
end Go.Sh
namespace Go.Sh
set_option maxRecDepth 100000
theorem cz {b : Nat} {nodes : List Node} {H : Hp} {lv a z i : Nat} (h : HN b nodes H lv a z i) : ∃ x is, nodes[a]? = some x ∧ H[i]? = some (ndO x.Entries is) ∧ x.Level = (lv : Int) ∧ (lv = 0 → is = [] ∧ x.Kids = [] ∧ z = a + 1) ∧ (lv ≠ 0 → x.Kids.length = x.Entries.length + 1) ∧ HKs (HN b nodes H (lv - 1)) x.Kids is (a + 1) z := by
 cases lv with
 | zero =>
  obtain ⟨x, h1, h2, h3, h4, h5, h6⟩ := h
  exact ⟨x, [], h1, h4, by simpa using h2, fun _ => ⟨rfl, h3, h5⟩, fun h => absurd rfl h, by rw [h3]; exact h5.symm⟩
 | succ lv =>
  obtain ⟨x, is, h1, h2, h3, h4, h5, h6⟩ := h
  exact ⟨x, is, h1, h4, h2, fun h => (by cases h), fun _ => h3, h6⟩
theorem HKs.len {P : Nat → Nat → Nat → Prop} : ∀ {ks : List Int} {is : List (Option Nat)} {a z : Nat}, HKs P ks is a z → is.length = ks.length
 | [], [], a, z, hh => rfl
 | k :: ks, some i :: is, a, z, hh => by
  obtain ⟨h1, m, h2, h3⟩ := hh
  simp [HKs.len h3]
 | [], some _ :: _, _, _, hh => hh.elim
 | [], none :: _, _, _, hh => hh.elim
 | _ :: _, [], _, _, hh => hh.elim
 | _ :: _, none :: _, _, _, hh => hh.elim
theorem oF {H : Hp} {i : Nat} {es : List Entry} {is : List (Option Nat)} (h : H[i]? = some (ndO es is)) : Ev (fun f => dh f i H) (decide (is = [])) := by
 unfold dh
 refine .ae (db h rfl) ?_
 have : ((is.length : Int) == 0) = decide (is = []) := by
  cases is <;> simp
  omega
 rw [this]
 exact .pure _
theorem qQ {b : Nat} {nodes : List Node} {H : Hp} : ∀ (lv a z i : Nat) (c : Nat), c + lv < 1000000 → HN b nodes H lv a z i → EvL (fun f => cX f H) ((c : Int), some i) ((c + lv : Nat) : Int)
 | 0, a, z, i, c, hc, h => by
  obtain ⟨x, is, h1, h2, h3, h4, h5, h6⟩ := cz h
  obtain ⟨rfl, -, -⟩ := h4 rfl
  refine .stop ?_
  unfold cX
  exact .ae rfl <| .bind (oF h2) <| .f rfl (.pure _)
 | lv + 1, a, z, i, c, hc, h => by
  obtain ⟨x, is, h1, h2, h3, h4, h5, h6⟩ := cz h
  have h5 := h5 (by omega)
  have hl := h6.len
  match is, hl, h6, h2 with
  | [], hl, _, _ => simp at hl; omega
  | none :: is, hl, h6, _ =>
   cases hk : x.Kids with
   | nil => rw [hk] at h5; simp at h5
   | cons k ks => rw [hk] at h6; exact h6.elim
  | some j :: is, hl, h6, h2 =>
   cases hk : x.Kids with
   | nil => rw [hk] at h5; simp at h5
   | cons k ks =>
    rw [hk] at h6
    obtain ⟨_, m, hP, _⟩ := h6
    have ih := qQ lv (a + 1) m j (c + 1) (by omega) hP
    rw [show c + (lv + 1) = c + 1 + lv by omega]
    refine .next ?_ ih
    unfold cX
    refine .ae rfl <| .bind (oF h2) <| .t rfl <| .ae (db h2 rfl) <| .ae rfl ?_
    rw [dH (by omega)]
    exact .pure _
theorem pU {es : List Entry} (hl : es.length < 1000) (hr : ∀ e ∈ es, e.Row.length < 1000) (lv : Int) : ∀ (l : List Entry) (k : Nat), es.drop k = l → k ≤ es.length →
  EvL (fun f => cQ f es) (lv, es.take k, (k : Int)) (lv, es)
 | [], k, hd, hk => by
  have hk2 : es.length ≤ k := by simpa using hd
  rw [List.take_of_length_le hk2]
  refine .stop ?_
  unfold cQ
  exact .f (dge hk2) (.pure _)
 | e :: l, k, hd, hk => by
  have hk1 : k < es.length := by
   by_cases hk : k < es.length
   ·exact hk
   ·rw [List.drop_eq_nil_of_le (by omega)] at hd; cases hd
  have hek : es[k] = e := by rw [aF hk1] at hd; exact (List.cons.inj hd).1
  have hdl : es.drop (k + 1) = l := by rw [aF hk1] at hd; exact (List.cons.inj hd).2
  have he := hr e (hek ▸ List.getElem_mem hk1)
  refine .next ?_ (pU hl hr lv l (k + 1) hdl (by omega))
  unfold cQ
  refine .t (dlt hk1) <| .ae (aw hk1) ?_
  rw [hek]
  refine .bind (uC e he) <| .chk (by simp [room]; omega) ?_
  rw [dH (by omega), ← hek, List.take_append_getElem hk1]
  exact .pure _
end Go.Sh
namespace Go.Sh
set_option maxRecDepth 100000
theorem HN.lt {b : Nat} {nodes : List Node} {H : Hp} : ∀ {lv a z i : Nat}, HN b nodes H lv a z i → a < z ∧ z ≤ nodes.length
 | 0, a, z, i, h => by
  obtain ⟨x, h1, _, _, _, h5, _⟩ := h
  have := (List.getElem?_eq_some_iff.1 h1).1
  omega
 | lv + 1, a, z, i, h => by
  obtain ⟨x, is, h1, h2, h3, h4, h5, h6⟩ := h
  have hk : ∀ {ks : List Int} {is : List (Option Nat)} {a z : Nat}, a ≤ nodes.length → HKs (HN b nodes H lv) ks is a z → a ≤ z ∧ z ≤ nodes.length := by
   intro ks
   induction ks with
   | nil =>
    intro is a z ha hh
    cases is with
    | nil => cases hh; exact ⟨Nat.le_refl _, ha⟩
    | cons i is => cases i <;> exact hh.elim
   | cons k ks ih =>
    intro is a z ha hh
    cases is with
    | nil => exact hh.elim
    | cons i is =>
     cases i with
     | none => exact hh.elim
     | some i =>
      obtain ⟨_, m, q1, q2⟩ := hh
      have l1 := HN.lt q1
      have l2 := ih l1.2 q2
      omega
  have ha := (List.getElem?_eq_some_iff.1 h1).1
  have := hk (by omega) h6
  omega
def seg (nodes : List Node) (a z : Nat) : List Node := (nodes.drop a).take (z - a)
theorem yV {nodes : List Node} {a b c : Nat} (h1 : a ≤ b) (h2 : b ≤ c) : seg nodes a b ++ seg nodes b c = seg nodes a c := by
 unfold seg
 rw [show c - a = (b - a) + (c - b) by omega, List.take_add, List.drop_drop, show a + (b - a) = b by omega]
theorem vq {nodes : List Node} {a z : Nat} {x : Node} (h : nodes[a]? = some x) (hz : a < z) : seg nodes a z = x :: seg nodes (a + 1) z := by
 have ha := (List.getElem?_eq_some_iff.1 h).1
 have hx : nodes[a] = x := (List.getElem?_eq_some_iff.1 h).2
 unfold seg
 rw [aF ha, hx, show z - a = (z - (a + 1)) + 1 by omega, List.take_succ_cons]
theorem zi (l : List Node) (y : Node) (r : List Node) : (l ++ y :: r)[l.length]? = some y := by simp
theorem zh (l : List Node) (y y' : Node) (r : List Node) : (l ++ y :: r).set l.length y' = l ++ y' :: r := by simp
theorem uR {α : Type} {F : Nat → Nat → Option α} {g : Nat → Nat → Option α} {r : α} {d : Nat} (h : ∀ n s, F n (s + 1) = g n s) (hg : Ev (fun n => g n (n - (d + 1))) r) : Ev (fun n => F n (n - d)) r := by
 obtain ⟨N, hN⟩ := hg
 refine ⟨max N (d + 1), fun n hn => ?_⟩
 have : n - d = (n - (d + 1)) + 1 := by omega
 simp only [this, h]
 exact hN n (by omega)
theorem wA {b : Nat} {nodes : List Node} {H : Hp} (hN : NdB nodes) : ∀ (lv a z i : Nat) (l : List Node) (d : Nat), HN b nodes H lv a z i → l.length = a →
  Ev (fun n => gx n H (n - d) i (lv : Int) l) ((a : Int), l ++ seg nodes a z) := by
 intro lv
 induction lv with
 | zero =>
  intro a z i l d h hl
  obtain ⟨x, is, h1, h2, h3, h4, h5, h6⟩ := cz h
  obtain ⟨rfl, hk, rfl⟩ := h4 rfl
  have hxm : x ∈ nodes := List.mem_of_getElem? h1
  obtain ⟨b1, b2, b3, b4⟩ := hN.2 x hxm
  have ha := (List.getElem?_eq_some_iff.1 h1).1
  have hN1 := hN.1
  refine uR (F := fun n s => gx n H s i ((0 : Nat) : Int) l) (g := fun n s => _) (fun n s => rfl) ?_
  refine .ae (db h2 rfl) <| .bind (pU b1 (fun e he => (b4 e he).1) _ x.Entries 0 rfl (by omega)).ev <| .chk (by simp [room]; omega) <| .ae (db h2 rfl) ?_
  refine .bind (a := l ++ [⟨((0 : Nat) : Int), x.Entries, []⟩]) (EvL.ev (EvL.stop ?_)) ?_
  ·unfold fV
   exact .f (by simp) (.pure _)
  ·rw [hl, vq h1 (by omega)]
   have : seg nodes (a + 1) (a + 1) = [] := by unfold seg; simp
   rw [this]
   have hx : (⟨((0 : Nat) : Int), x.Entries, []⟩ : Node) = x := by
    cases x with
    | mk L E K => simp only at h3 hk; rw [h3, hk]
   rw [hx]
   exact .pure _
 | succ lv ih =>
  intro a z i l d h hl
  obtain ⟨x, is, h1, h2, h3, h4, h5, h6⟩ := cz h
  have h5 := h5 (by omega)
  have hlt := h.lt
  have hxm : x ∈ nodes := List.mem_of_getElem? h1
  obtain ⟨b1, b2, b3, b4⟩ := hN.2 x hxm
  have ha := (List.getElem?_eq_some_iff.1 h1).1
  have hN1 := hN.1
  have hil := h6.len
  have kids : ∀ (ks : List Int) (is' : List (Option Nat)) (j aj : Nat), x.Kids.drop j = ks → is.drop j = is' → j ≤ x.Kids.length → a + 1 ≤ aj → HKs (HN b nodes H lv) ks is' aj z →
    EvL (fun n => fV (gx n H (n - (d + 1))) ((lv + 1 : Nat) : Int) l.length is) ((j : Int), l ++ ⟨((lv + 1 : Nat) : Int), x.Entries, x.Kids.take j⟩ :: seg nodes (a + 1) aj)
     (l ++ ⟨((lv + 1 : Nat) : Int), x.Entries, x.Kids⟩ :: seg nodes (a + 1) z) := by
   intro ks
   induction ks with
   | nil =>
    intro is' j aj hd hd' hj haj hh
    have hj2 : x.Kids.length ≤ j := by simpa using hd
    cases is' with
    | cons q qs => cases q <;> exact hh.elim
    | nil =>
     cases hh
     refine .stop ?_
     unfold fV
     rw [List.take_of_length_le hj2]
     exact .f (dge (by omega)) (.pure _)
   | cons k ks ihk =>
    intro is' j aj hd hd' hj haj hh
    have hj1 : j < x.Kids.length := by
     by_cases hk : j < x.Kids.length
     ·exact hk
     ·rw [List.drop_eq_nil_of_le (by omega)] at hd; cases hd
    have hj2 : j < is.length := by omega
    have hek : x.Kids[j] = k := by rw [aF hj1] at hd; exact (List.cons.inj hd).1
    have hdl : x.Kids.drop (j + 1) = ks := by rw [aF hj1] at hd; exact (List.cons.inj hd).2
    cases is' with
    | nil => exact hh.elim
    | cons q qs =>
     have hei : is[j] = q := by rw [aF hj2] at hd'; exact (List.cons.inj hd').1
     have hdi : is.drop (j + 1) = qs := by rw [aF hj2] at hd'; exact (List.cons.inj hd').2
     cases q with
     | none => exact hh.elim
     | some q =>
      obtain ⟨hk, mm, q1, q2⟩ := hh
      have l1 := q1.lt
      have R := ih aj mm q (l ++ ⟨((lv + 1 : Nat) : Int), x.Entries, x.Kids.take j⟩ :: seg nodes (a + 1) aj) (d + 1) q1 (by simp [seg, hl]; omega)
      have N := ihk qs (j + 1) mm hdl hdi (by omega) (by omega) q2
      refine .next ?_ N
      unfold fV
      refine .t (dlt hj2) <| .ae (aw hj2) ?_
      rw [hei, cO (x := ((lv + 1 : Nat) : Int) - 1) (by omega) (by unfold i64 at b3; omega), show ((lv + 1 : Nat) : Int) - 1 = (lv : Int) by omega, dH (by omega)]
      refine .ae rfl <| .bind R ?_
      have e1 : (l ++ (⟨((lv + 1 : Nat) : Int), x.Entries, x.Kids.take j⟩ : Node) :: seg nodes (a + 1) aj) ++ seg nodes aj mm = l ++ (⟨((lv + 1 : Nat) : Int), x.Entries, x.Kids.take j⟩ : Node) :: seg nodes (a + 1) mm := by
       rw [List.append_assoc, List.cons_append, yV (by omega) (by omega)]
      have e2 : nr (l ++ (⟨((lv + 1 : Nat) : Int), x.Entries, x.Kids.take j⟩ : Node) :: seg nodes (a + 1) mm) l.length (aj : Int) = some (l ++ (⟨((lv + 1 : Nat) : Int), x.Entries, x.Kids.take (j + 1)⟩ : Node) :: seg nodes (a + 1) mm) := by
       unfold nr
       rw [zi]
       simp only [zh]
       rw [← hk, ← hek, List.take_append_getElem hj1]
       show Go.Sh.chk (decide ((x.Kids.take (j + 1)).length ≤ room)) _ = _
       rw [show decide ((x.Kids.take (j + 1)).length ≤ room) = true by simp [room]; omega]
       rfl
      show Ev (fun n => (nr ((l ++ (⟨((lv + 1 : Nat) : Int), x.Entries, x.Kids.take j⟩ : Node) :: seg nodes (a + 1) aj) ++ seg nodes aj mm) l.length (aj : Int)).bind _) _
      rw [e1]
      exact .ae e2 (.pure _)
  refine uR (F := fun n s => gx n H s i ((lv + 1 : Nat) : Int) l) (g := fun n s => _) (fun n s => rfl) ?_
  refine .ae (db h2 rfl) <| .bind (pU b1 (fun e he => (b4 e he).1) _ x.Entries 0 rfl (by omega)).ev <| .chk (by simp [room]; omega) <| .ae (db h2 rfl) ?_
  have K := kids x.Kids is 0 (a + 1) rfl rfl (by omega) (by omega) h6
  have e0 : seg nodes (a + 1) (a + 1) = [] := by unfold seg; simp
  rw [e0] at K
  refine .bind K.ev ?_
  have hx : (⟨((lv + 1 : Nat) : Int), x.Entries, x.Kids⟩ : Node) = x := by
   cases x with
   | mk L E K => simp only at h3; rw [h3]
  rw [hx, hl, ← vq h1 hlt.1]
  exact .pure _
end Go.Sh
namespace Go.Sh
set_option maxRecDepth 100000
def jh : List Entry → List (List Entry) → List Entry
 | [], _ => []
 | e :: es, [] => e :: jh es []
 | e :: es, k :: ks => k ++ e :: jh es ks
def dg (es : List Entry) (ks : List (List Entry)) : List Entry := jh es ks ++ (ks.drop es.length).flatten
def inN (nodes : List Node) : Nat → Nat → List Entry
 | 0, a => match nodes[a]? with | some x => x.Entries | none => []
 | lv + 1, a => match nodes[a]? with | some x => dg x.Entries (x.Kids.map fun (k : Int) => inN nodes lv k.toNat) | none => []
theorem lS : ∀ es : List Entry, jh es [] = es
 | [] => rfl
 | e :: es => by simp [jh, lS es]
theorem mL : ∀ (es : List Entry) (ks : List (List Entry)), (dg es ks).length = es.length + (ks.map List.length).sum
 | [], ks => by simp [dg, jh, List.length_flatten]
 | e :: es, [] => by simp [dg, lS]
 | e :: es, k :: ks => by
  have := mL es ks
  unfold dg at this ⊢
  simp only [jh, List.length_cons, List.drop_succ_cons, List.length_append, List.map_cons, List.sum_cons] at this ⊢
  omega
theorem pJ {b : Nat} {nodes : List Node} {H : Hp} {lv a z i : Nat} (h : HN b nodes H lv a z i) {x : Node} (hx : nodes[a]? = some x) : inN nodes lv a = dg x.Entries (x.Kids.map fun (k : Int) => inN nodes (lv - 1) k.toNat) := by
 cases lv with
 | zero =>
  obtain ⟨y, h1, h2, h3, -⟩ := h
  rw [hx] at h1; cases h1
  unfold inN
  rw [hx, h3]
  simp [dg, lS]
 | succ lv =>
  show (match nodes[a]? with | some x => dg x.Entries (x.Kids.map fun (k : Int) => inN nodes lv k.toNat) | none => []) = _
  rw [hx]; rfl
theorem oH {b : Nat} {nodes : List Node} {H : Hp} (hN : NdB nodes) : ∀ {lv a z i : Nat}, HN b nodes H lv a z i → (inN nodes lv a).length ≤ 1000 * (z - a) := by
 intro lv
 induction lv with
 | zero =>
  intro a z i h
  obtain ⟨x, h1, h2, h3, h4, h5, h6⟩ := h
  have := (hN.2 x (List.mem_of_getElem? h1)).1
  unfold inN
  rw [h1, h5]
  simp only
  omega
 | succ lv ih =>
  intro a z i h
  have hlt := h.lt
  obtain ⟨x, is, h1, h2, h3, h4, h5, h6⟩ := cz h
  have hb := (hN.2 x (List.mem_of_getElem? h1)).1
  rw [pJ h h1, mL]
  have kids : ∀ {ks : List Int} {is : List (Option Nat)} {c : Nat}, HKs (HN b nodes H lv) ks is c z → c ≤ z ∧ ((ks.map fun (k : Int) => inN nodes lv k.toNat).map List.length).sum ≤ 1000 * (z - c) := by
   intro ks
   induction ks with
   | nil =>
    intro is c hh
    cases is with
    | nil => cases hh; simp
    | cons q qs => cases q <;> exact hh.elim
   | cons k ks ihk =>
    intro is c hh
    cases is with
    | nil => exact hh.elim
    | cons q qs =>
     cases q with
     | none => exact hh.elim
     | some q =>
      obtain ⟨hk, mm, q1, q2⟩ := hh
      have l1 := q1.lt
      have l2 := ih q1
      have l3 := ihk q2
      simp only [List.map_cons, List.sum_cons, hk, Int.toNat_natCast]
      omega
  have := kids h6
  simp only [Nat.add_sub_cancel] at this ⊢
  omega
theorem HKs.at {P : Nat → Nat → Nat → Prop} : ∀ {ks : List Int} {is : List (Option Nat)} {a z : Nat} (h : HKs P ks is a z) (j : Nat) (hj : j < ks.length), ∃ (c m i : Nat), ks[j]? = some (c : Int) ∧ is[j]? = some (some i) ∧ P c m i
 | k :: ks, some i :: is, a, z, hh, 0, hj => by
  obtain ⟨h1, m, h2, h3⟩ := hh
  exact ⟨a, m, i, by simp [h1], by simp, h2⟩
 | k :: ks, some i :: is, a, z, hh, j + 1, hj => by
  obtain ⟨h1, m, h2, h3⟩ := hh
  obtain ⟨c, m', i', e1, e2, e3⟩ := HKs.at h3 j (by simpa using hj)
  exact ⟨c, m', i', by simpa using e1, by simpa using e2, e3⟩
 | _ :: _, [], _, _, hh, _, _ => hh.elim
 | _ :: _, none :: _, _, _, hh, _, _ => hh.elim
theorem ud {b : Nat} {nodes : List Node} {H : Hp} (hN : NdB nodes) : ∀ (lv a z i : Nat), HN b nodes H lv a z i → Ev (fun n => ef n nodes (a : Int)) (inN nodes lv a) := by
 intro lv
 induction lv with
 | zero =>
  intro a z i h
  obtain ⟨x, is, h1, h2, h3, h4, h5, h6⟩ := cz h
  obtain ⟨-, hk, -⟩ := h4 rfl
  have hb := (hN.2 x (List.mem_of_getElem? h1)).1
  have L : ∀ (l : List Entry) (k : Nat), x.Entries.drop k = l → k ≤ x.Entries.length → EvL (fun n => cR n (ef n) nodes x) (x.Entries.take k, (k : Int)) x.Entries := by
   intro l
   induction l with
   | nil =>
    intro k hd hk0
    have hk2 : x.Entries.length ≤ k := by simpa using hd
    rw [List.take_of_length_le hk2]
    refine .stop ?_
    unfold cR
    exact .f (dge hk2) (.pure _)
   | cons e l ih =>
    intro k hd hk0
    have hk1 : k < x.Entries.length := by
     by_cases hk : k < x.Entries.length
     ·exact hk
     ·rw [List.drop_eq_nil_of_le (by omega)] at hd; cases hd
    have hdl : x.Entries.drop (k + 1) = l := by rw [aF hk1] at hd; exact (List.cons.inj hd).2
    refine .next ?_ (ih (k + 1) hdl (by omega))
    unfold cR
    refine .t (dlt hk1) <| .f (by simp [hk]) <| .ae (aw hk1) <| .chk (by simp [room]; omega) ?_
    rw [dH (by omega), List.take_append_getElem hk1]
    exact .pure _
  have hx : inN nodes 0 a = x.Entries := by unfold inN; rw [h1]
  rw [hx]
  refine mB (g := fun n => dQ n (ef n) nodes (a : Int)) (fun n => rfl) ?_
  unfold dQ
  exact .ae (gp h1) <| .bind (L x.Entries 0 rfl (by omega)).ev <| .f (by simp [hk]) (.pure _)
 | succ lv ih =>
  intro a z i h
  have hlen := oH hN h
  have hlt := h.lt
  have hN1 := hN.1
  obtain ⟨x, is, h1, h2, h3, h4, h5, h6⟩ := cz h
  have h5 := h5 (by omega)
  have hb := (hN.2 x (List.mem_of_getElem? h1)).1
  rw [pJ h h1] at hlen ⊢
  simp only [Nat.add_sub_cancel] at h6 hlen ⊢
  have K : ∀ j, (hj : j < x.Kids.length) → Ev (fun n => ef n nodes x.Kids[j]) (inN nodes lv x.Kids[j].toNat) := by
   intro j hj
   obtain ⟨c, m, i', e1, e2, e3⟩ := h6.at j hj
   rw [List.getElem?_eq_getElem hj, Option.some.injEq] at e1
   rw [e1, Int.toNat_natCast]
   exact ih c m i' e3
  have tot : ∀ (es : List Entry) (ks : List (List Entry)), (jh es ks).length ≤ (dg es ks).length := fun es ks => by unfold dg; simp
  have L : ∀ (l : List Entry) (k : Nat) (out : List Entry), x.Entries.drop k = l → k ≤ x.Entries.length →
    out.length + (jh l ((x.Kids.map fun (k : Int) => inN nodes lv k.toNat).drop k)).length ≤ 1000000 →
    EvL (fun n => cR n (ef n) nodes x) (out, (k : Int)) (out ++ jh l ((x.Kids.map fun (k : Int) => inN nodes lv k.toNat).drop k)) := by
   intro l
   induction l with
   | nil =>
    intro k out hd hk0 hb2
    have hk2 : x.Entries.length ≤ k := by simpa using hd
    simp only [jh, List.append_nil]
    refine .stop ?_
    unfold cR
    exact .f (dge hk2) (.pure _)
   | cons e l ihl =>
    intro k out hd hk0 hb2
    have hk1 : k < x.Entries.length := by
     by_cases hk : k < x.Entries.length
     ·exact hk
     ·rw [List.drop_eq_nil_of_le (by omega)] at hd; cases hd
    have hek : x.Entries[k] = e := by rw [aF hk1] at hd; exact (List.cons.inj hd).1
    have hdl : x.Entries.drop (k + 1) = l := by rw [aF hk1] at hd; exact (List.cons.inj hd).2
    have hk3 : k < x.Kids.length := by omega
    have hdk : (x.Kids.map fun (k : Int) => inN nodes lv k.toNat).drop k = inN nodes lv x.Kids[k].toNat :: (x.Kids.map fun (k : Int) => inN nodes lv k.toNat).drop (k + 1) := by
     rw [aF (by simpa using hk3)]; simp
    rw [hdk] at hb2 ⊢
    simp only [jh, List.length_append, List.length_cons] at hb2 ⊢
    have N := ihl (k + 1) (out ++ inN nodes lv x.Kids[k].toNat ++ [e]) hdl (by omega) (by simp; omega)
    rw [show out ++ (inN nodes lv x.Kids[k].toNat ++ e :: jh l ((x.Kids.map fun (k : Int) => inN nodes lv k.toNat).drop (k + 1))) = out ++ inN nodes lv x.Kids[k].toNat ++ [e] ++ jh l ((x.Kids.map fun (k : Int) => inN nodes lv k.toNat).drop (k + 1)) by simp]
    refine .next ?_ N
    unfold cR
    refine .t (dlt hk1) <| .t (by simp; omega) <| .ae (aw hk3) <| .bind (K k hk3) <| .chk (by simp [room]; omega) <| .ae (aw hk1) ?_
    rw [hek, dH (by omega)]
    exact .chk (by simp [room]; omega) (.pure _)
  have hL := L x.Entries 0 [] rfl (by omega) (by
   have := tot x.Entries ((x.Kids.map fun (k : Int) => inN nodes lv k.toNat).drop 0)
   simp only [List.drop_zero, List.length_nil, Nat.zero_add] at this ⊢
   omega)
  simp only [List.drop_zero, List.nil_append] at hL
  have hlast : x.Entries.length < x.Kids.length := by omega
  have hfin : dg x.Entries (x.Kids.map fun (k : Int) => inN nodes lv k.toNat) = jh x.Entries (x.Kids.map fun (k : Int) => inN nodes lv k.toNat) ++ inN nodes lv (x.Kids[x.Entries.length]'hlast).toNat := by
   unfold dg
   rw [aF (by simpa using hlast), List.drop_eq_nil_of_le (by simp; omega)]
   simp
  rw [hfin] at hlen ⊢
  refine mB (g := fun n => dQ n (ef n) nodes (a : Int)) (fun n => rfl) ?_
  unfold dQ
  refine .ae (gp h1) <| .bind hL.ev <| .t (by simp; omega) ?_
  rw [cO (by omega) (by have := (hN.2 x (List.mem_of_getElem? h1)).2.1; omega), show (x.Kids.length : Int) - 1 = (x.Entries.length : Int) by omega]
  refine .ae (aw hlast) <| .bind (K _ hlast) <| .chk ?_ (.pure _)
  simp only [List.length_append, room, decide_eq_true_eq] at hlen ⊢
  omega
end Go.Sh
namespace Go.Sh
set_option maxRecDepth 100000
theorem oO (e : Entry) (es : List Entry) : ∀ ks : List (List Entry), dg (e :: es) ks = ks.headD [] ++ e :: dg es ks.tail
 | [] => by simp [dg, jh]
 | k :: ks => by simp [dg, jh]
theorem wc : ∀ ks : List (List Entry), ks.length ≤ 1 → dg [] ks = ks.headD []
 | [], _ => rfl
 | [k], _ => by simp [dg, jh]
 | _ :: _ :: _, h => by simp at h
def Kp (H : Hp) (l : List Entry) : Hp := (H ++ [.cells [.own 3 (l.map ab)]]) ++ [.hole]
theorem lJ {H : Hp} {l : List Entry} {i : Nat} {o : ar} (h : H[i]? = some o) : (Kp H l)[i]? = some o := by
 have hi := (List.getElem?_eq_some_iff.1 h).1
 unfold Kp
 rw [eR (by simp; omega), eR hi]
 exact h
theorem uO {H : Hp} {l : List Entry} : (Kp H l)[H.length]? = some (.cells [.own 3 (l.map ab)]) := by
 unfold Kp
 rw [eR (by simp)]
 exact oL
theorem Aw {H : Hp} {l l' : List Entry} : (Kp H l).set H.length (.cells [.own 3 (l'.map ab)]) = Kp H l' := by
 unfold Kp
 simp
theorem zG {H : Hp} {q1 : Hp × Nat} (hq : q1.2 = H.length) {e : Entry} {l : List Entry} (he : e.Row.length < 1000) (hl : l.length < 1000000) : Ev (fun n => (bS n q1 e (Kp H l)).map (Prod.mk true)) (true, Kp H (l ++ [e])) := by
 have key : Ev (fun n => bS n q1 e (Kp H l)) (Kp H (l ++ [e])) := by
  unfold bS
  rw [hq]
  have ht : eF 3 aK (Kp H l) H.length 0 = some (l, (Kp H l).set H.length (.cells [.undef])) := ku uO rfl
  have hg : dB 3 aK ((Kp H l).set H.length (.cells [.undef])) H.length 0 (l ++ [e]) = some (Kp H (l ++ [e])) := by
   have e0 := Aw (H := H) (l := l) (l' := l ++ [e])
   rw [kx (bE uO) (by simp), List.set_set, ← e0]
   rfl
  exact .ae ht <| .bind (uC e he) <| .chk (by simp [room]; omega) <| .ae hg (.pure _)
 obtain ⟨N, hN⟩ := key
 exact ⟨N, fun n hn => by simp only [hN n hn, Option.map_some]⟩
theorem yr {b : Nat} {nodes : List Node} {H : Hp} {q1 : Hp × Nat} (hq : q1.2 = H.length) (hN : NdB nodes) : ∀ (lv a z i : Nat) (l : List Entry) (d : Nat), HN b nodes H lv a z i → l.length + (inN nodes lv a).length < 1000000 →
  Ev (fun n => iA n (fun e H => (bS n q1 e H).map (Prod.mk true)) (n - d) i (Kp H l)) (true, Kp H (l ++ inN nodes lv a)) := by
 intro lv
 induction lv using Nat.strongRecOn with
 | ind lv ih =>
  intro a z i l0 d h hlen
  obtain ⟨x, is, h1, h2, h3, h4, h5, h6⟩ := cz h
  obtain ⟨hb, hb2, hb3, hb4⟩ := hN.2 x (List.mem_of_getElem? h1)
  rw [pJ h h1] at hlen ⊢
  have hil := h6.len
  let kl : List (List Entry) := x.Kids.map fun (k : Int) => inN nodes (lv - 1) k.toNat
  have hkl : kl.length = x.Kids.length := by simp [kl]
  have hk01 : x.Kids.length = 0 ∨ x.Kids.length = x.Entries.length + 1 := by
   by_cases h0 : lv = 0
   ·left; rw [(h4 h0).2.1]; rfl
   ·right; exact h5 h0
  have qst : ∀ (k : Nat) (l : List Entry), k ≤ x.Entries.length → l.length + ((kl.drop k).headD []).length < 1000000 →
    Ev (fun n => cond (decide (is = [])) (some (true, Kp H l)) ((cp 1 cP (Kp H l) i 1).bind fun ks => (idx ks (k : Int)).bind fun kk => kk.bind fun kk => iA n (fun e H => (bS n q1 e H).map (Prod.mk true)) (n - (d + 1)) kk (Kp H l))) (true, Kp H (l ++ (kl.drop k).headD [])) := by
   intro k l hk hl
   by_cases he : is = []
   ·have hk0 : kl = [] := by
     have : x.Kids.length = 0 := by rw [← hil, he]; rfl
     simp [kl, List.length_eq_zero_iff.1 this]
    rw [hk0]
    refine .t (by simp [he]) ?_
    simp only [List.drop_nil, List.headD_nil, List.append_nil]
    exact .pure _
   ·have hne : is.length ≠ 0 := fun e => he (List.length_eq_zero_iff.1 e)
    have hkk : k < x.Kids.length := by omega
    have hlv : lv ≠ 0 := fun e => he (h4 e).1
    obtain ⟨c, m, i', e1, e2, e3⟩ := h6.at k hkk
    rw [List.getElem?_eq_getElem hkk, Option.some.injEq] at e1
    have hd : (kl.drop k).headD [] = inN nodes (lv - 1) c := by
     rw [aF (by omega)]
     simp [kl, e1]
    rw [hd] at hl ⊢
    exact .f (by simp [he]) <| .ae (db (lJ h2) rfl) <| .ae (gp e2) <| .ae rfl <| ih (lv - 1) (by omega) c m i' l (d + 1) e3 hl
  have L : ∀ (es : List Entry) (k : Nat) (l : List Entry), x.Entries.drop k = es → k ≤ x.Entries.length → l.length + (dg es (kl.drop k)).length < 1000000 →
    EvL (fun n => g6 n (fun e H => (bS n q1 e H).map (Prod.mk true)) (iA n (fun e H => (bS n q1 e H).map (Prod.mk true)) (n - (d + 1))) i (((x.Entries.length + 1 : Nat) : Int))) ((k : Int), Kp H l) (true, Kp H (l ++ dg es (kl.drop k))) := by
   intro es
   induction es with
   | nil =>
    intro k l hd hk hl
    have hk2 : k = x.Entries.length := by
     have : x.Entries.length ≤ k := by simpa using hd
     omega
    have hw : dg [] (kl.drop k) = (kl.drop k).headD [] := wc _ (by simp; omega)
    rw [hw] at hl ⊢
    refine .next (y := (((k + 1 : Nat) : Int), Kp H (l ++ (kl.drop k).headD []))) ?_ (.stop ?_)
    ·unfold g6
     refine .t (dlt (by omega)) <| .bind (oF (lJ h2)) <| .bind (qst k l hk hl) <| .t rfl <| .ae (db (lJ h2) rfl) <| .f (dge (by omega)) ?_
     rw [dH (by omega)]
     exact .pure _
    ·unfold g6
     exact .f (dge (by omega)) (.pure _)
   | cons e es ihe =>
    intro k l hd hk hl
    have hk1 : k < x.Entries.length := by
     by_cases hk : k < x.Entries.length
     ·exact hk
     ·rw [List.drop_eq_nil_of_le (by omega)] at hd; cases hd
    have hek : x.Entries[k] = e := by rw [aF hk1] at hd; exact (List.cons.inj hd).1
    have hdl : x.Entries.drop (k + 1) = es := by rw [aF hk1] at hd; exact (List.cons.inj hd).2
    have he := (hb4 e (hek ▸ List.getElem_mem hk1)).1
    have htl : (kl.drop k).tail = kl.drop (k + 1) := by simp
    rw [oO, htl] at hl ⊢
    simp only [List.length_append, List.length_cons] at hl
    have N := ihe (k + 1) (l ++ (kl.drop k).headD [] ++ [e]) hdl (by omega) (by simp only [List.length_append, List.length_cons, List.length_nil]; omega)
    rw [show l ++ ((kl.drop k).headD [] ++ e :: dg es (kl.drop (k + 1))) = l ++ (kl.drop k).headD [] ++ [e] ++ dg es (kl.drop (k + 1)) by simp]
    refine .next ?_ N
    unfold g6
    refine .t (dlt (by omega)) <| .bind (oF (lJ h2)) <| .bind (qst k l hk (by omega)) <| .t rfl <| .ae (db (lJ h2) rfl) <| .t (dlt hk1) <| .ae (aw hk1) ?_
    rw [hek, dH (by omega)]
    exact .bind (zG hq he (by simp only [List.length_append]; omega)) <| .t rfl (.pure _)
  have L0 := L x.Entries 0 l0 rfl (by omega) hlen
  refine uR (F := fun n s => iA n (fun e H => (bS n q1 e H).map (Prod.mk true)) s i (Kp H l0)) (g := fun n s => _) (fun n s => rfl) ?_
  refine .ae (db (lJ h2) rfl) ?_
  rw [dH (by omega)]
  exact L0.ev
end Go.Sh
namespace Go.Sh
set_option maxRecDepth 100000
theorem so {b : Nat} {nodes : List Node} {H : Hp} {s : ah} {order last : Int} : ∀ (d a : Nat) (lv : Int) (lo hi : Option Entry) (met : List Int) (z : Nat) (met' : List Int) (l z' i : Nat),
  wk s order last nodes d a lv lo hi met = .inr (z, met') → HN b nodes H l a z' i → z' = z ∧ met'.length = met.length + (inN nodes l a).length := by
 intro d
 induction d with
 | zero => intro a lv lo hi met z met' l z' i h _; cases h
 | succ d ih =>
  intro a lv lo hi met z met' l z' i h hh
  obtain ⟨x, is, h1, h2, h3, h4, h5, h6⟩ := cz hh
  have hw : wk s order last nodes (d + 1) a lv lo hi met = (match okN s order last (a == 0) lv lo hi met x with
   | none => .inl a
   | some met' => wkK nodes (wk s order last nodes d) a x lo hi x.Kids 0 (a + 1) met') := by
   show (match nodes[a]? with | none => Sum.inl a | some x => match okN s order last (a == 0) lv lo hi met x with | none => Sum.inl a | some met' => wkK nodes (wk s order last nodes d) a x lo hi x.Kids 0 (a + 1) met') = _
   rw [h1]
  rw [hw] at h
  rw [pJ hh h1, mL]
  cases ho : okN s order last (a == 0) lv lo hi met x with
  | none => rw [ho] at h; cases h
  | some m1 =>
   rw [ho] at h
   have hm1 := pn (rK ho).2.2.2.2.2
   have kids : ∀ (ks : List Int) (is : List (Option Nat)) (j c : Nat) (m2 : List Int), HKs (HN b nodes H (l - 1)) ks is c z' → wkK nodes (wk s order last nodes d) a x lo hi ks j c m2 = .inr (z, met') →
     z' = z ∧ met'.length = m2.length + ((ks.map fun (k : Int) => inN nodes (l - 1) k.toNat).map List.length).sum := by
    intro ks
    induction ks with
    | nil =>
     intro is j c m2 hK hW
     cases is with
     | cons q qs => cases q <;> exact hK.elim
     | nil =>
      cases hK
      simp only [wkK, Sum.inr.injEq, Prod.mk.injEq] at hW
      obtain ⟨rfl, rfl⟩ := hW
      exact ⟨rfl, by simp⟩
    | cons k ks ihk =>
     intro is j c m2 hK hW
     cases is with
     | nil => exact hK.elim
     | cons q qs =>
      cases q with
      | none => exact hK.elim
      | some q =>
       obtain ⟨hk, mm, q1, q2⟩ := hK
       simp only [wkK] at hW
       split at hW
       ·split at hW
        ·cases hW
        ·rename_i nx' m3 hr
         obtain ⟨e1, e2⟩ := ih _ _ _ _ _ _ _ _ _ _ hr q1
         subst e1
         obtain ⟨e3, e4⟩ := ihk qs (j + 1) mm m3 q2 hW
         refine ⟨e3, ?_⟩
         simp only [List.map_cons, List.sum_cons, hk, Int.toNat_natCast]
         omega
       ·cases hW
   obtain ⟨e1, e2⟩ := kids x.Kids is 0 (a + 1) m1 h6 h
   exact ⟨e1, by omega⟩
structure qd (s : ah) (order last : Int) (nodes : List Node) (lv : Nat) (H : Hp) (tr : Nat) : Prop where
 ob : ∃ ks root, H[tr]? = some (.cells [.own 1 ks, .d (.list 1 (List.map D.bool s.Down)), .d (.int .i64 s.Dup), .d (.int .i64 order), .d (cP.enc (some root)), .d (.int .i64 last), .d (.int .i64 ((inN nodes lv 0).length : Nat))]) ∧
  ∃ b, HN b nodes H lv 0 nodes.length root
section
variable {s : ah} {order last : Int} {nodes : List Node} {lv : Nat} {H : Hp} {tr : Nat}
theorem qd.app (h : qd s order last nodes lv H tr) (H' : Hp) (hf : ∀ (j : Nat) (o : ar), H[j]? = some o → H'[j]? = some o) : qd s order last nodes lv H' tr := by
 obtain ⟨ks, root, h1, b, h2⟩ := h.ob
 exact ⟨ks, root, hf _ _ h1, b, h2.frame fun j _ hj => by rw [hf j _ (List.getElem?_eq_getElem hj), List.getElem?_eq_getElem hj]⟩
theorem yb (h : qd s order last nodes lv H tr) : Ev (fun f => fx f tr H) ((inN nodes lv 0).length : Nat) := by
 obtain ⟨ks, root, h1, b, h2⟩ := h.ob
 unfold fx
 exact .ae (cE (r := []) h1 rfl) (.pure _)
theorem zn (h : qd s order last nodes lv H tr) : Ev (fun f => gw f tr H) last := by
 obtain ⟨ks, root, h1, b, h2⟩ := h.ob
 unfold gw
 exact .ae (cE (r := [.d (.int .i64 ((inN nodes lv 0).length : Nat))]) h1 rfl) (.pure _)
theorem HN.vH {b : Nat} {nodes : List Node} {H : Hp} : ∀ {lv a z i : Nat}, HN b nodes H lv a z i → a + lv < z
 | 0, a, z, i, h => by have := h.lt; omega
 | lv + 1, a, z, i, h => by
  obtain ⟨x, is, h1, h2, h3, h4, h5, h6⟩ := cz h
  have h5 := h5 (by omega)
  have mono : ∀ {ks : List Int} {is : List (Option Nat)} {u v : Nat}, HKs (HN b nodes H lv) ks is u v → u ≤ v := by
   intro ks
   induction ks with
   | nil =>
    intro is u v hh
    cases is with
    | nil => cases hh; exact Nat.le_refl _
    | cons q qs => cases q <;> exact hh.elim
   | cons k ks ihk =>
    intro is u v hh
    cases is with
    | nil => exact hh.elim
    | cons q qs =>
     cases q with
     | none => exact hh.elim
     | some q =>
      obtain ⟨_, m3, r1, r2⟩ := hh
      have := r1.lt
      have := ihk r2
      omega
  cases hk : x.Kids with
  | nil => rw [hk] at h5; simp at h5
  | cons k ks =>
   rw [hk] at h6
   match is, h6 with
   | some q :: qs, h6 =>
    obtain ⟨g1, mm, g2, g3⟩ := h6
    have := HN.vH g2
    have := mono g3
    omega
theorem pw (hN : NdB nodes) (h : qd s order last nodes lv H tr) : Ev (fun f => dC f tr H) ((1 + lv : Nat) : Int) := by
 obtain ⟨ks, root, h1, b, h2⟩ := h.ob
 have := h2.vH
 have hN1 := hN.1
 unfold dC
 exact .ae (cE (r := [.d (.int .i64 last), .d (.int .i64 ((inN nodes lv 0).length : Nat))]) h1 rfl) <| .bind (qQ lv 0 nodes.length root 1 (by omega) h2).ev (.pure _)
theorem wz (hN : NdB nodes) (h : qd s order last nodes lv H tr) : Ev (fun f => fw f tr H) (nodes, H ++ [ar.hole, ar.hole]) := by
 obtain ⟨ks, root, h1, b, h2⟩ := h.ob
 have hlv := h2.vH
 have hN1 := hN.1
 have htr := (List.getElem?_eq_some_iff.1 h1).1
 have f1 : ∀ (j : Nat) (o : ar), H[j]? = some o → ((H ++ [ar.hole, ar.hole]).set H.length (ar.cells [.own 3 []]))[j]? = some o := fun j o hj => by
  have := (List.getElem?_eq_some_iff.1 hj).1
  rw [bD (by omega), List.getElem?_append_left this]; exact hj
 have f2 : ∀ (j : Nat) (o : ar), H[j]? = some o → (H ++ [ar.hole, ar.hole])[j]? = some o := fun j o hj => by
  rw [List.getElem?_append_left (List.getElem?_eq_some_iff.1 hj).1]; exact hj
 have T1 := h.app _ f1
 have h3 : HN b nodes (H ++ [ar.hole, ar.hole]) lv 0 nodes.length root := h2.frame fun j _ hj => by rw [f2 j _ (List.getElem?_eq_getElem hj), List.getElem?_eq_getElem hj]
 have R := wA hN lv 0 nodes.length root [] 0 h3 rfl
 have hseg : ([] : List Node) ++ seg nodes 0 nodes.length = nodes := by simp [seg]
 rw [hseg] at R
 unfold fw
 refine .ae (cE (r := [.d (.int .i64 last), .d (.int .i64 ((inN nodes lv 0).length : Nat))]) (f1 _ _ h1) rfl) <| .ae rfl <| .bind (pw hN T1) ?_
 rw [cO (by omega) (by omega), show ((1 + lv : Nat) : Int) - 1 = (lv : Int) by omega]
 exact .bind R (.pure _)
end
end Go.Sh
namespace Go.Sh
set_option maxRecDepth 100000
theorem wN (v : Value) : gN v v = 0 := by
 unfold gN
 split
 ·omega
 ·have := sd v.S v.S
  omega
theorem nn {r : List Value} (hl : r.length < 1000) (ho : ∀ v ∈ r, okV v = true) : Ev (fun f => dx f r r) 0 := by
 have L : ∀ (l : List Value) (k : Nat), r.drop k = l → k ≤ r.length → EvL (fun f => cK f r r) (k : Int) (.inl ()) := by
  intro l
  induction l with
  | nil =>
   intro k hd hk
   have hk2 : r.length ≤ k := by simpa using hd
   refine .stop ?_
   unfold cK
   exact .aX <| .f (dge hk2) <| .f rfl (.pure _)
  | cons v l ih =>
   intro k hd hk
   have hk1 : k < r.length := by
    by_cases hk : k < r.length
    ·exact hk
    ·rw [List.drop_eq_nil_of_le (by omega)] at hd; cases hd
   have hdl : r.drop (k + 1) = l := by rw [aF hk1] at hd; exact (List.cons.inj hd).2
   have hv := ho _ (List.getElem_mem hk1)
   have C := pV hv hv rfl
   rw [wN] at C
   refine .next ?_ (ih (k + 1) hdl (by omega))
   unfold cK
   refine .aX <| .t (dlt hk1) <| .t (dlt hk1) <| .ae (aw hk1) <| .ae (aw hk1) <| .bind C <| .f rfl ?_
   rw [dH (by omega)]
   exact .pure _
 unfold dx
 refine .bind (L r 0 rfl (by omega)).ev <| .bind (a := 0) (.of fun n => ?_) (.pure _)
 rw [rP]
 simp [sgn]
theorem ur {l : List Entry} (hl : l.length < 1000000) (ho : ∀ e ∈ l, e.Row.length < 1000 ∧ ∀ v ∈ e.Row, okV v = true) : Ev (fun f => dD f l l) true := by
 have L : ∀ (q : List Entry) (k : Nat), l.drop k = q → k ≤ l.length → EvL (fun f => cZ f l l) (k : Int) (.inl ()) := by
  intro q
  induction q with
  | nil =>
   intro k hd hk
   have hk2 : l.length ≤ k := by simpa using hd
   refine .stop ?_
   unfold cZ
   exact .f (dge hk2) (.pure _)
  | cons v q ih =>
   intro k hd hk
   have hk1 : k < l.length := by
    by_cases hk : k < l.length
    ·exact hk
    ·rw [List.drop_eq_nil_of_le (by omega)] at hd; cases hd
   have hdl : l.drop (k + 1) = q := by rw [aF hk1] at hd; exact (List.cons.inj hd).2
   obtain ⟨hv1, hv2⟩ := ho _ (List.getElem_mem hk1)
   refine .next ?_ (ih (k + 1) hdl (by omega))
   unfold cZ
   refine .t (dlt hk1) <| .ae (aw hk1) <| .ae (aw hk1) <| .f (by simp) <| .ae (aw hk1) <| .ae (aw hk1) <| .f (by simp) <| .ae (aw hk1) <| .ae (aw hk1) ?_
   have S : Ev (fun f => jZ f l[k].Row l[k].Row) true := by
    unfold jZ
    exact .bind (nn hv1 hv2) (.pure _)
   refine .bind S <| .f rfl ?_
   rw [dH (by omega)]
   exact .pure _
 unfold dD
 exact .f (by simp) <| .bind (L l 0 rfl (by omega)).ev (.pure _)
theorem uq {l : List Int} (hl : l.length < 1000000) : Ev (fun f => fE f l l) true := by
 have L : ∀ (q : List Int) (k : Nat), l.drop k = q → k ≤ l.length → EvL (fun f => dv f l l) (k : Int) (.inl ()) := by
  intro q
  induction q with
  | nil =>
   intro k hd hk
   have hk2 : l.length ≤ k := by simpa using hd
   refine .stop ?_
   unfold dv
   exact .f (dge hk2) (.pure _)
  | cons v q ih =>
   intro k hd hk
   have hk1 : k < l.length := by
    by_cases hk : k < l.length
    ·exact hk
    ·rw [List.drop_eq_nil_of_le (by omega)] at hd; cases hd
   have hdl : l.drop (k + 1) = q := by rw [aF hk1] at hd; exact (List.cons.inj hd).2
   refine .next ?_ (ih (k + 1) hdl (by omega))
   unfold dv
   refine .t (dlt hk1) <| .ae (aw hk1) <| .ae (aw hk1) <| .f (by simp) ?_
   rw [dH (by omega)]
   exact .pure _
 unfold fE
 exact .f (by simp) <| .bind (L l 0 rfl (by omega)).ev (.pure _)
theorem xu {t : Tree} (hl : t.All.length < 1000000) : Ev (fun f => gA f t) (t.All.map (·.Key)) := by
 have L : ∀ (q : List Entry) (k : Nat), t.All.drop k = q → k ≤ t.All.length → EvL (fun f => dR f t) ((t.All.take k).map (·.Key), (k : Int)) (t.All.map (·.Key)) := by
  intro q
  induction q with
  | nil =>
   intro k hd hk
   have hk2 : t.All.length ≤ k := by simpa using hd
   rw [List.take_of_length_le hk2]
   refine .stop ?_
   unfold dR
   exact .f (dge hk2) (.pure _)
  | cons v q ih =>
   intro k hd hk
   have hk1 : k < t.All.length := by
    by_cases hk : k < t.All.length
    ·exact hk
    ·rw [List.drop_eq_nil_of_le (by omega)] at hd; cases hd
   have hdl : t.All.drop (k + 1) = q := by rw [aF hk1] at hd; exact (List.cons.inj hd).2
   refine .next ?_ (ih (k + 1) hdl (by omega))
   unfold dR
   refine .t (dlt hk1) <| .ae (aw hk1) <| .chk (by simp [room]; omega) ?_
   rw [dH (by omega), show (t.All.take k).map (·.Key) ++ [t.All[k].Key] = (t.All.take (k + 1)).map (·.Key) by rw [← List.take_append_getElem hk1, List.map_append]; rfl]
   exact .pure _
 unfold gA
 exact .bind (L t.All 0 rfl (by omega)).ev (.pure _)
section
variable {s : ah} {order last : Int} {nodes : List Node} {lv : Nat} {H : Hp} {tr : Nat}
theorem yq (hN : NdB nodes) (h : qd s order last nodes lv H tr) : ∃ H', Ev (fun f => fU f tr H) (inN nodes lv 0, H') ∧ ∀ (j : Nat) (o : ar), H[j]? = some o → H'[j]? = some o := by
 obtain ⟨ks, root, h1, b, h2⟩ := h.ob
 have hlen := oH hN h2
 have hN1 := hN.1
 have f1 : ∀ (j : Nat) (o : ar), H[j]? = some o → (H ++ [.cells [.own 3 (List.map ab ([] : List Entry))]])[j]? = some o := fun j o hj => by
  rw [eR (List.getElem?_eq_some_iff.1 hj).1]; exact hj
 have A := yr (q1 := (H ++ [.cells [.own 3 (List.map ab ([] : List Entry))]], H.length)) rfl hN lv 0 nodes.length root [] 0 h2 (by simp; omega)
 simp only [List.nil_append, Nat.sub_zero] at A
 refine ⟨(Kp H (inN nodes lv 0)).set H.length (.cells [.undef]), ?_, fun j o hj => ?_⟩
 ·unfold fU
  refine .ae rfl <| .ae (cE (r := [.d (.int .i64 last), .d (.int .i64 ((inN nodes lv 0).length : Nat))]) (f1 _ _ h1) rfl) <| .ae rfl <| .bind (.of fun n => rfl) ?_
  have B : Ev (fun f => ft f (bS f (H ++ [.cells [.own 3 (List.map ab ([] : List Entry))]], H.length)) (some root) (H ++ [.cells [.own 3 (List.map ab ([] : List Entry))]])) (Kp H (inN nodes lv 0)) := by
   unfold ft ui
   exact .ae rfl <| .bind A <| .t rfl (.pure _)
  have ht : eF 3 aK (Kp H (inN nodes lv 0)) H.length 0 = some (inN nodes lv 0, (Kp H (inN nodes lv 0)).set H.length (.cells [.undef])) := ku uO rfl
  exact .bind B <| .ae ht (.pure _)
 ·have := (List.getElem?_eq_some_iff.1 hj).1
  rw [bD (by omega)]
  exact lJ hj
theorem xe (hN : NdB nodes) (h : qd s order last nodes lv H tr) : ∃ H', Ev (fun f => eX f tr H) ((inN nodes lv 0).map (·.Key), H') := by
 obtain ⟨H', A, -⟩ := yq hN h
 obtain ⟨ks, root, h1, b, h2⟩ := h.ob
 have hlen := oH hN h2
 have hN1 := hN.1
 generalize inN nodes lv 0 = l at A hlen
 have L : ∀ (q : List Entry) (k : Nat), l.drop k = q → k ≤ l.length → EvL (fun f => dM f (l, H')) ((l.take k).map (·.Key), (k : Int), H') (l.map (·.Key), H') := by
  intro q
  induction q with
  | nil =>
   intro k hd hk
   have hk2 : l.length ≤ k := by simpa using hd
   rw [List.take_of_length_le hk2]
   refine .stop ?_
   unfold dM
   exact .f (dge hk2) (.pure _)
  | cons v q ih =>
   intro k hd hk
   have hk1 : k < l.length := by
    by_cases hk : k < l.length
    ·exact hk
    ·rw [List.drop_eq_nil_of_le (by omega)] at hd; cases hd
   have hdl : l.drop (k + 1) = q := by rw [aF hk1] at hd; exact (List.cons.inj hd).2
   refine .next ?_ (ih (k + 1) hdl (by omega))
   unfold dM
   refine .t (dlt hk1) <| .ae (aw hk1) <| .chk (by simp [room]; omega) ?_
   rw [dH (by omega), show (l.take k).map (·.Key) ++ [l[k].Key] = (l.take (k + 1)).map (·.Key) by rw [← List.take_append_getElem hk1, List.map_append]; rfl]
   exact .pure _
 refine ⟨H', ?_⟩
 unfold eX
 exact .bind A <| .bind (L l 0 rfl (by omega)).ev (.pure _)
end
end Go.Sh
namespace Go.Sh
set_option maxRecDepth 100000
theorem sq {e : Entry} : ∀ {es : List Entry} {ks : List (List Entry)}, e ∈ dg es ks → e ∈ es ∨ ∃ k ∈ ks, e ∈ k
 | [], ks, h => by
  simp only [dg, jh, List.nil_append, List.length_nil, List.drop_zero, List.mem_flatten] at h
  exact .inr h
 | e' :: es, [], h => by
  simp only [dg, lS, List.drop_nil, List.flatten_nil, List.append_nil] at h
  exact .inl h
 | e' :: es, k :: ks, h => by
  rw [oO] at h
  simp only [List.headD_cons, List.tail_cons, List.mem_append, List.mem_cons] at h
  rcases h with h | h | h
  ·exact .inr ⟨k, by simp, h⟩
  ·exact .inl (by simp [h])
  ·rcases sq h with h | ⟨k', h1, h2⟩
   ·exact .inl (by simp [h])
   ·exact .inr ⟨k', by simp [h1], h2⟩
theorem Af {b : Nat} {nodes : List Node} {H : Hp} {s : ah} {order last : Int} : ∀ (d a : Nat) (lv : Int) (lo hi : Option Entry) (met : List Int) (z : Nat) (met' : List Int) (l z' i : Nat),
  wk s order last nodes d a lv lo hi met = .inr (z, met') → HN b nodes H l a z' i → ∀ e ∈ inN nodes l a, okE s e = true ∧ ∃ x ∈ nodes, e ∈ x.Entries := by
 intro d
 induction d with
 | zero => intro a lv lo hi met z met' l z' i h _; cases h
 | succ d ih =>
  intro a lv lo hi met z met' l z' i h hh e he
  obtain ⟨x, is, h1, h2, h3, h4, h5, h6⟩ := cz hh
  have hw : wk s order last nodes (d + 1) a lv lo hi met = (match okN s order last (a == 0) lv lo hi met x with
   | none => .inl a
   | some met' => wkK nodes (wk s order last nodes d) a x lo hi x.Kids 0 (a + 1) met') := by
   show (match nodes[a]? with | none => Sum.inl a | some x => match okN s order last (a == 0) lv lo hi met x with | none => Sum.inl a | some met' => wkK nodes (wk s order last nodes d) a x lo hi x.Kids 0 (a + 1) met') = _
   rw [h1]
  rw [hw] at h
  rw [pJ hh h1] at he
  cases ho : okN s order last (a == 0) lv lo hi met x with
  | none => rw [ho] at h; cases h
  | some m1 =>
   rw [ho] at h
   have hes := ka (rK ho).2.2.2.2.2
   have kids : ∀ (ks : List Int) (is : List (Option Nat)) (j c : Nat) (m2 : List Int), HKs (HN b nodes H (l - 1)) ks is c z' → wkK nodes (wk s order last nodes d) a x lo hi ks j c m2 = .inr (z, met') →
     ∀ q ∈ (ks.map fun (k : Int) => inN nodes (l - 1) k.toNat), ∀ e ∈ q, okE s e = true ∧ ∃ x ∈ nodes, e ∈ x.Entries := by
    intro ks
    induction ks with
    | nil => intro is j c m2 hK hW q hq; simp at hq
    | cons k ks ihk =>
     intro is j c m2 hK hW q hq e he
     cases is with
     | nil => exact hK.elim
     | cons qi qs =>
      cases qi with
      | none => exact hK.elim
      | some qi =>
       obtain ⟨hk, mm, q1, q2⟩ := hK
       simp only [wkK] at hW
       split at hW
       ·split at hW
        ·cases hW
        ·rename_i nx' m3 hr
         have e1 := (so d _ _ _ _ _ _ _ _ _ _ hr q1).1
         subst e1
         simp only [List.map_cons, List.mem_cons] at hq
         rcases hq with rfl | hq
         ·rw [hk, Int.toNat_natCast] at he
          exact ih _ _ _ _ _ _ _ _ _ _ hr q1 e he
         ·exact ihk qs (j + 1) mm m3 q2 hW q hq e he
       ·cases hW
   rcases sq he with he | ⟨q, hq, he⟩
   ·exact ⟨hes e he, x, List.mem_of_getElem? h1, he⟩
   ·exact kids x.Kids is 0 (a + 1) m1 h6 h q hq e he
theorem xU {s : ah} {e : Entry} (h : okE s e = true) : ∀ v ∈ e.Row, okV v = true := by
 have hf := jt h
 have hl := ek hf
 intro v hv
 obtain ⟨j, hj, rfl⟩ := List.getElem_of_mem hv
 exact (ig hf j (by omega) hj).2
theorem sP {s : ah} {order last : Int} {nodes : List Node} {b lv : Nat} {H : Hp} {z root : Nat} (hN : NdB nodes) (hk : s.aq.length < 1000) (hw : fm s order last nodes = (-1, 0)) (h : HN b nodes H lv 0 z root) :
  Ev (fun f => jW f s order last nodes) ((⟨s, order, inN nodes lv 0, last⟩ : Tree), -1, 0) := by
 unfold jW
 have R := qJ s order last nodes hN hk
 rw [hw] at R
 exact .bind R <| .f rfl <| .bind (ud hN lv 0 z root h) (.pure _)
theorem yt {s : ah} {order last : Int} {nodes : List Node} {lv : Nat} {H : Hp} {tr : Nat} (hN : NdB nodes) (hk : s.aq.length < 1000) (hw : fm s order last nodes = (-1, 0)) (h : qd s order last nodes lv H tr)
  (hes : ∀ e ∈ inN nodes lv 0, e.Row.length < 1000 ∧ ∀ v ∈ e.Row, okV v = true) : ∃ H', Ev (fun f => mq f tr (⟨s, order, inN nodes lv 0, last⟩ : Tree) H) (true, H') := by
 obtain ⟨ks, root, h1, b, h2⟩ := h.ob
 have hlen := oH hN h2
 have hN1 := hN.1
 have hlv := h2.vH
 obtain ⟨x, is, x1, x2, x3, -⟩ := cz h2
 have f2 : ∀ (j : Nat) (o : ar), H[j]? = some o → (H ++ [ar.hole, ar.hole])[j]? = some o := fun j o hj => by
  rw [List.getElem?_append_left (List.getElem?_eq_some_iff.1 hj).1]; exact hj
 have T1 := h.app _ f2
 obtain ⟨H2, A, f3⟩ := yq hN T1
 have T2 := T1.app _ f3
 obtain ⟨H3, K⟩ := xe hN T2
 refine ⟨H3, ?_⟩
 have S := ur (l := inN nodes lv 0) (by omega) hes
 unfold mq
 refine .bind (wz hN h) <| .bind (sP hN hk hw h2) <| .aX <| .f rfl <| .bind S <| .f rfl <| .bind (pw hN T1) <| .ae (gp (k := 0) x1) ?_
 rw [x3, cO (by omega) (by omega)]
 rw [show ((((1 + lv : Nat) : Int)) != (lv : Int) + 1) = false from bne_eq_false_iff_eq.2 (by omega)]
 refine .f rfl <| .bind (yb T1) <| .t (by simp) <| .bind (zn T1) <| .t (by simp) <| .bind A <| .bind S <| .t rfl <| .bind K <| .bind (xu (show (inN nodes lv 0).length < 1000000 by omega)) ?_
 exact .bind (uq (by simp; omega)) (.pure _)
end Go.Sh
namespace Go.Sh
set_option maxRecDepth 100000
def InB (s : ah) (nodes : List Node) : Prop :=
 nodes.length < 2097152 ∧ ∀ x ∈ nodes, x.Entries.length < 2097152 ∧ x.Kids.length < 2097152 ∧ i64 x.Level ∧ ∀ e ∈ x.Entries, i64 e.Number
def dZ (nodes : List Node) : Nat → Nat
 | 0 => 0
 | i + 1 => dZ nodes i + (match nodes[i]? with | some x => x.Entries.length + x.Kids.length | none => 0)
theorem mN (nodes : List Node) (i : Nat) : dZ nodes (i + 1) = dZ nodes i + (match nodes[i]? with | some x => x.Entries.length + x.Kids.length | none => 0) := rfl
theorem vj {s : ah} {nodes : List Node} (h : InB s nodes) (i : Nat) : dZ nodes i ≤ i * 4194304 := by
 induction i with
 | zero => exact Nat.zero_le _
 | succ i ih =>
  have e : (i + 1) * 4194304 = i * 4194304 + 4194304 := Nat.succ_mul _ _
  rw [mN, e]
  refine Nat.add_le_add ih ?_
  cases hx : nodes[i]? with
  | none => exact Nat.zero_le _
  | some x =>
   have h2 := h.2 x (List.mem_of_getElem? hx)
   have h3 := h2.1
   have h4 := h2.2.1
   show x.Entries.length + x.Kids.length ≤ 4194304
   omega
theorem qy {nodes : List Node} {i j : Nat} (h : i ≤ j) : dZ nodes i ≤ dZ nodes j := by
 induction j with
 | zero => have : i = 0 := by omega
           subst this; exact Nat.le_refl _
 | succ j ih =>
  by_cases e : i = j + 1
  ·subst e; exact Nat.le_refl _
  ·have := ih (by omega)
   rw [mN nodes j]
   omega
theorem wJ {s : ah} {nodes : List Node} (h : InB s nodes) {i : Nat} {x : Node} (hx : nodes[i]? = some x) (hi : i < 40) : ∀ (l : List Entry) (k : Nat), x.Entries.drop k = l → k ≤ x.Entries.length →
  ∃ out, EvL (fun f => cn f nodes ((dZ nodes i : Int), (i : Int), []) x x) ((k : Int), []) out ∧ (out = .inr true ∨ (out = .inl [] ∧ (dZ nodes (i + 1) < 200 → ∀ e ∈ l, hQ e.Row = true))) := by
 have hxm := h.2 x (List.mem_of_getElem? hx)
 have ht := vj h i
 have ht1 : (dZ nodes (i + 1) : Int) = (dZ nodes i : Int) + x.Entries.length + x.Kids.length := by
  show ((dZ nodes i + (match nodes[i]? with | some x => x.Entries.length + x.Kids.length | none => 0) : Nat) : Int) = _
  rw [hx]; simp only; omega
 have hw : (IntKind.wrap .i64 ((IntKind.wrap .i64 ((dZ nodes i : Int) + (x.Entries.length : Int))) + (x.Kids.length : Int))) = (dZ nodes (i + 1) : Int) := by
  rw [cO (x := (dZ nodes i : Int) + (x.Entries.length : Int)) (by omega) (by omega), cO (by omega) (by omega), ht1]
 intro l
 induction l with
 | nil =>
  intro k hd hk
  have hk2 : x.Entries.length ≤ k := by simpa using hd
  refine ⟨.inl [], .stop ?_, .inr ⟨rfl, fun _ e he => by simp at he⟩⟩
  unfold cn
  exact .ae (gp hx) <| .f (by rw [dge hk2, Bool.false_and]) (.pure _)
 | cons e l ih =>
  intro k hd hk
  have hk1 : k < x.Entries.length := by
   by_cases hk : k < x.Entries.length
   ·exact hk
   ·rw [List.drop_eq_nil_of_le (by omega)] at hd; cases hd
  have hek : x.Entries[k] = e := by rw [aF hk1] at hd; exact (List.cons.inj hd).1
  have hdl : x.Entries.drop (k + 1) = l := by rw [aF hk1] at hd; exact (List.cons.inj hd).2
  by_cases hT : dZ nodes (i + 1) < 200
  ·have R := yW [e.Row] (by simp)
   have pre : ∀ {r o}, Ev (fun f => ie f [e.Row]) r → Ev (fun f => bif (!r) then (gX f).bind fun r9 => some (.inr (.inr r9)) else some (.inl (((k + 1 : Nat) : Int), []))) o →
     Ev (fun f => cn f nodes ((dZ nodes i : Int), (i : Int), []) x x ((k : Int), [])) o := by
    intro r o h1 h2
    unfold cn
    refine .ae (gp hx) <| .t ?_ <| .ae (gp hx) <| .ae (aw hk1) ?_
    ·rw [dlt hk1, hw]
     simp; omega
    ·rw [hek, dH (by omega)]
     exact .bind h1 h2
   cases hs : [e.Row].all hQ with
   | false =>
    rw [hs] at R
    exact ⟨.inr true, .stop (pre R (.t rfl <| .bind tM (.pure _))), .inl rfl⟩
   | true =>
    rw [hs] at R
    simp only [List.all_cons, List.all_nil, Bool.and_true] at hs
    obtain ⟨out, o1, o2⟩ := ih (k + 1) hdl (by omega)
    refine ⟨out, .next (pre R (.f rfl (.pure _))) o1, ?_⟩
    rcases o2 with o2 | ⟨o2, o3⟩
    ·exact .inl o2
    ·refine .inr ⟨o2, fun hh e' he' => ?_⟩
     rcases List.mem_cons.1 he' with rfl | he'
     ·exact hs
     ·exact o3 hh e' he'
  ·refine ⟨.inl [], .stop ?_, .inr ⟨rfl, fun hh => absurd hh hT⟩⟩
   unfold cn
   refine .ae (gp hx) <| .f ?_ (.pure _)
   rw [dlt hk1, hw]
   simp; omega
theorem tk {s : ah} {nodes : List Node} (h : InB s nodes) : ∀ (d i : Nat), i + d = min nodes.length 40 →
  ∃ out, EvL (fun f => da f nodes) ((dZ nodes i : Int), (i : Int), []) out ∧ (out = .inr true ∨ (out = .inl ((dZ nodes (min nodes.length 40) : Int), []) ∧
   (dZ nodes (min nodes.length 40) < 200 → ∀ j x, i ≤ j → j < min nodes.length 40 → nodes[j]? = some x → ∀ e ∈ x.Entries, hQ e.Row = true)))
 | 0, i, hd => by
  refine ⟨_, .stop (out := .inl ((dZ nodes i : Int), [])) ?_, .inr ⟨by rw [← hd]; rfl, fun _ j x h1 h2 => by omega⟩⟩
  unfold da
  refine .f ?_ (.pure _)
  have := h.1
  rw [Bool.and_eq_false_iff]
  by_cases hc : nodes.length ≤ i
  ·left; exact dge hc
  ·right; simp; omega
 | d + 1, i, hd => by
  have hi : i < nodes.length := by omega
  have hi40 : i < 40 := by omega
  have hx : nodes[i]? = some nodes[i] := List.getElem?_eq_getElem hi
  have hxm := h.2 nodes[i] (List.getElem_mem hi)
  have ht := vj h i
  have ht1 : (dZ nodes (i + 1) : Int) = (dZ nodes i : Int) + nodes[i].Entries.length + nodes[i].Kids.length := by
   show ((dZ nodes i + (match nodes[i]? with | some x => x.Entries.length + x.Kids.length | none => 0) : Nat) : Int) = _
   rw [hx]; simp only; omega
  have hw : (IntKind.wrap .i64 ((IntKind.wrap .i64 ((dZ nodes i : Int) + (nodes[i].Entries.length : Int))) + (nodes[i].Kids.length : Int))) = (dZ nodes (i + 1) : Int) := by
   rw [cO (x := (dZ nodes i : Int) + (nodes[i].Entries.length : Int)) (by omega) (by omega), cO (by omega) (by omega), ht1]
  obtain ⟨o1, g1, g2⟩ := wJ h hx hi40 nodes[i].Entries 0 rfl (by omega)
  have pre : ∀ {o}, Ev (fun f => (iter (cn f nodes ((dZ nodes i : Int), (i : Int), []) nodes[i] nodes[i]) f (0, [])).bind (Sum.elim (fun v11 => some (.inl ((dZ nodes (i + 1) : Int), ((i + 1 : Nat) : Int), v11))) (fun r12 => some (.inr (.inr r12))))) o →
    Ev (fun f => da f nodes ((dZ nodes i : Int), (i : Int), [])) o := by
   intro o hE
   unfold da
   refine .t (by rw [dlt hi]; simp; omega) <| .ae (aw hi) <| .ae (aw hi) ?_
   rw [hw, dH (by omega)]
   exact hE
  rcases g2 with rfl | ⟨rfl, g3⟩
  ·exact ⟨.inr true, .stop (pre (.bind g1.ev (.pure _))), .inl rfl⟩
  ·obtain ⟨out, q1, q2⟩ := tk h d (i + 1) (by omega)
   refine ⟨out, .next (pre (.bind g1.ev (.pure _))) q1, ?_⟩
   rcases q2 with q2 | ⟨q2, q3⟩
   ·exact .inl q2
   ·refine .inr ⟨q2, fun hh j x j1 j2 hj e he => ?_⟩
    by_cases e1 : j = i
    ·subst e1
     rw [hx] at hj; cases hj
     exact g3 (Nat.lt_of_le_of_lt (qy (by omega)) hh) e he
    ·exact q3 hh j x (by omega) j2 hj e he
end Go.Sh
namespace Go.Sh
set_option maxRecDepth 100000
theorem yy (s : ah) : Ev (fun f => pD f s []) (decide (s.aq.length ≤ 20) && decide (s.Down.length ≤ 20)) := by
 unfold pD
 refine .bind (a := (Sum.inl () : Unit ⊕ Bool)) (EvL.ev (EvL.stop ?_)) ?_
 ·unfold nf
  exact .f rfl (.pure _)
 ·cases h : decide (s.aq.length ≤ 20) with
  | false =>
   refine .f ?_ (.pure _)
   simp only [decide_eq_false_iff_not] at h ⊢
   omega
  | true =>
   refine .t ?_ (.of fun n => ?_)
   ·simp only [decide_eq_true_eq] at h ⊢
    omega
   ·simp only [Bool.true_and]
    congr 1
    exact decide_eq_decide.2 (by omega)
theorem v9 {s : ah} {order last : Int} {nodes : List Node} (h : (fm s order last nodes).2 = 0) : fm s order last nodes = (-1, 0) := by
 unfold fm at h ⊢
 split
 ·rename_i h1
  rw [if_pos h1] at h
  split
  ·rename_i h2
   rw [if_pos h2] at h
   split
   ·rename_i h3
    rw [if_pos h3] at h; cases h
   ·rename_i h3
    rw [if_neg h3] at h
    revert h
    cases wk s order last nodes nodes.length 0 0 none none [] with
    | inl b => intro h; cases h
    | inr q =>
     obtain ⟨z, met⟩ := q
     simp only
     intro h
     split
     ·rename_i h4; rw [if_pos h4] at h; cases h
     ·rename_i h4
      rw [if_neg h4] at h
      split
      ·rename_i h5; rw [if_pos h5] at h; cases h
      ·rfl
  ·rename_i h2
   rw [if_neg h2] at h; cases h
 ·rename_i h1
  rw [if_neg h1] at h; cases h
theorem rA {s : ah} {order last : Int} {nodes : List Node} (h : InB s nodes) : Ev (fun f => iE f s order last nodes) true := by
 have hw : ∀ {r : Bool}, r = true → Ev (fun f => (gX f).bind fun r5 => some r5) r := fun h => h ▸ .bind tM (.pure _)
 obtain ⟨out, G, g⟩ := tk h (min nodes.length 40) 0 (by omega)
 unfold iE
 rcases g with rfl | ⟨rfl, g⟩
 ·exact .bind G.ev (.pure _)
 refine .bind G.ev <| .aX ?_
 by_cases hc : nodes.length ≤ 40 ∧ dZ nodes (min nodes.length 40) < 200
 ·have hmin : min nodes.length 40 = nodes.length := by omega
  rw [hmin] at g hc
  refine .f (by rw [hmin]; simp; omega) <| .bind (yy s) ?_
  cases hA : (decide (s.aq.length ≤ 20) && decide (s.Down.length ≤ 20)) with
  | false => exact .t rfl (hw rfl)
  | true =>
   simp only [Bool.and_eq_true, decide_eq_true_eq] at hA
   have hN : NdB nodes := by
    refine ⟨by omega, fun x hx => ?_⟩
    obtain ⟨j, hj, rfl⟩ := List.getElem_of_mem hx
    have e1 : dZ nodes (j + 1) = dZ nodes j + (nodes[j].Entries.length + nodes[j].Kids.length) := by rw [mN, List.getElem?_eq_getElem hj]
    have e2 : dZ nodes (j + 1) ≤ dZ nodes nodes.length := qy (by omega)
    obtain ⟨_, _, b3, b4⟩ := h.2 _ hx
    refine ⟨by omega, by omega, b3, fun e he => ⟨?_, b4 e he⟩⟩
    have := g hc.2 j nodes[j] (by omega) hj (List.getElem?_eq_getElem hj) e he
    simp only [hQ, Bool.and_eq_true, decide_eq_true_eq] at this
    omega
   obtain ⟨t, H', L1, L2⟩ := xd s order last nodes hN (by omega) (by omega) []
   have R := qJ s order last nodes hN (by omega)
   have T : Ev (fun f => lV f s order last nodes) (fm s order last nodes) := by
    unfold lV
    exact .bind L1 (.pure _)
   refine .f rfl <| .bind T <| .bind R <| .f (by simp) <| .bind L1 ?_
   by_cases hz : (fm s order last nodes).2 = 0
   ·have hwn := v9 hz
    obtain ⟨tr, root, cnt, ks, z, met, e1, e2, e3, e4, e5, b, lv, e6, e7⟩ := L2 hz
    have hlt := e7.lt
    have hzl : z = nodes.length := by omega
    subst hzl
    have hcnt := (so _ _ _ _ _ _ _ _ _ _ _ e2 e7).2
    have hok := Af _ _ _ _ _ _ _ _ _ _ _ e2 e7
    have TA : qd s order last nodes lv H' tr := by
     refine ⟨ks, root, ?_, b, e7⟩
     rw [e5, e4, hcnt]
     simp
    obtain ⟨H2, A⟩ := yt hN (by omega) hwn TA (fun e he => by
     obtain ⟨q1, x, q2, q3⟩ := hok e he
     exact ⟨((hN.2 x q2).2.2.2 e q3).1, xU q1⟩)
    have RL := sP hN (by omega) hwn e7
    refine .bind RL ?_
    rw [hwn, e1]
    exact .t rfl <| .f rfl <| .ae rfl <| .bind A <| .t rfl (hw rfl)
   ·have RL : Ev (fun f => jW f s order last nodes) ((⟨(⟨[], [], 0⟩ : ah), 0, [], 0⟩ : Tree), (fm s order last nodes).1, (fm s order last nodes).2) := by
     unfold jW
     exact .bind R <| .t (bne_iff_ne.2 hz) (.pure _)
    exact .bind RL <| .t (by simp) <| .t (bne_iff_ne.2 hz) (hw rfl)
 ·refine .t ?_ (.t rfl (hw rfl))
  rw [Bool.or_eq_true]
  by_cases h4 : nodes.length ≤ 40
  ·right; simp; omega
  ·left; simp; omega
end Go.Sh
