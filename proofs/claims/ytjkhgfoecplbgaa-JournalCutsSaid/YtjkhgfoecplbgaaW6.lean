/- The program's Wrong; what was done for good (Redo). -/
import Derived.Test.YtjkhgfoecplbgaaW5
set_option linter.all false
set_option autoImplicit true
set_option relaxedAutoImplicit true
set_option linter.unusedVariables false
set_option linter.unusedSimpArgs false
namespace Go.Sh

theorem jw_loop {l : List Note} (hl : l.length ≤ 1000) {q2 q3 : Hp × Nat} (h2 : q2.2 = 0) (h3 : q3.2 = 1) : ∀ (d k : Nat), k + d = l.length → ∀ (H : Hp) on of g, WInv H (l.take k) on of g →
    ∃ out, EvL (fun f => j_Wrong_l2 f l q2 q3) ((k : Int), H) out ∧ (match fw (l.take k) (l.drop k) with | none => ∃ H', out = .inl H' | some r => out = .inr r)
  | 0, k, hk, H, on, of, g, hi => by
    refine ⟨.inl H, .stop (.of fun f => ?_), ?_⟩
    · obtain rfl : k = l.length := by omega
      unfold j_Wrong_l2
      simp only [ltF, cond_false]
    · rw [List.drop_of_length_le (by omega)]
      exact ⟨H, rfl⟩
  | d + 1, k, hk, H, on, of, g, hi => by
    have hlt : k < l.length := by omega
    have hd := List.drop_eq_getElem_cons hlt
    have hf : fw (l.take k) (l.drop k) = if wr (l.take k) l[k] ≠ 0 then some ((k : Int), wr (l.take k) l[k]) else fw (l.take (k + 1)) (l.drop (k + 1)) := by
      rw [hd, fw, take_succ' hlt, List.length_take, Nat.min_eq_left (by omega)]
    rcases jw_step hl hlt hi h2 h3 with ⟨h4, h5⟩ | ⟨h4, H', on', of', g', h5, h6⟩
    · refine ⟨.inr ((k : Int), wr (l.take k) l[k]), .stop (.of h5), ?_⟩
      rw [hf, if_pos h4]
    · obtain ⟨out, h7, h8⟩ := jw_loop hl h2 h3 d (k + 1) (by omega) H' on' of' g' h5
      refine ⟨out, .next (.of h6) h7, ?_⟩
      rw [hf, if_neg (by simpa using h4)]
      exact h8

theorem j_Wrong_ev (l : List Note) : Ev (j_Wrong · l) (wrongs l) := by
  unfold j_Wrong
  refine Ev.bind (j_valid_ev l) ?_
  unfold wrongs
  refine Ev.ite (fun c => ?_) (fun c => ?_)
  · rw [if_neg (by simpa using c)]; exact Ev.pure _
  · have c' : vNs l = true := by simpa using c
    rw [if_pos c']
    have hl : l.length ≤ 1000 := by
      unfold vNs at c'
      simp only [Bool.and_eq_true, decide_eq_true_eq] at c'
      exact c'.1
    refine Ev.some' (a := ([.map []], 0)) rfl (Ev.some' (a := ([.map [], .map []], 1)) rfl ?_)
    have hi : WInv [.map [], .map []] (l.take 0) [] [] (fun _ => none) := by
      constructor
      · rfl
      · rfl
      · intro u; rfl
      · simp
      · simp
      · intro k u; simp
      · intro u x h; cases h
      · intro u u' x x' h; cases h
      · intro u; simp [seg, segOk]
    obtain ⟨out, h1, h2⟩ := jw_loop hl (q2 := ([.map []], 0)) (q3 := ([.map [], .map []], 1)) rfl rfl l.length 0 (by omega) _ _ _ _ hi
    refine Ev.bind h1.ev ?_
    rw [List.take_zero, List.drop_zero] at h2
    cases hf : fw [] l with
    | none =>
      rw [hf] at h2
      obtain ⟨H', rfl⟩ := h2
      exact Ev.pure _
    | some r =>
      rw [hf] at h2
      simp only at h2
      rw [h2]
      exact Ev.pure _

theorem j_right_ev (l : List Note) : Ev (j_right · l) (rightE l) := by
  unfold j_right
  refine Ev.bind (j_Wrong_ev l) ?_
  unfold rightE wrongs
  cases hv : vNs l
  · exact Ev.pure _
  · simp only [if_true]
    cases hf : fw [] l with
    | none => exact Ev.pure _
    | some r =>
      simp only [Option.getD_some, Option.isSome_some, if_true]
      rcases fw_ne hf with h | h | h <;> (refine Ev.f (by simp [h]) (Ev.f (by simp [h]) (Ev.pure _)))

theorem right_len {l : List Note} (h : rightE l = 0) : l.length ≤ 1000 := by
  unfold rightE at h
  split at h
  · rename_i c
    unfold vNs at c
    simp only [Bool.and_eq_true, decide_eq_true_eq] at c
    exact c.1
  · omega

/-! ## Reverse -/
theorem reverse_ev (xs : List Image) (hx : xs.length ≤ 1000000) : Ev (slices_Reverse · xs) xs.reverse := by
  unfold slices_Reverse
  refine Ev.bind (a := xs.reverse) ?_ (Ev.pure _)
  rw [wrapI (by omega) (by omega)]
  refine EvL.ev (EvL.iter (I := fun y => y.1.length = xs.length ∧ 0 ≤ y.2.1 ∧ y.2.1 + y.2.2 = (xs.length : Int) - 1 ∧ ∀ m : Nat, m < xs.length → y.1[m]? = if (m : Int) < y.2.1 ∨ y.2.2 < (m : Int) then xs[xs.length - 1 - m]? else xs[m]?)
    (fun y => (y.2.2 - y.2.1 + 1).toNat) (fun y hy => ?_) ⟨rfl, by simp, by simp, fun m hm => by rw [if_neg]; simp; omega⟩)
  obtain ⟨ys, i, j⟩ := y
  obtain ⟨h1, h2, h3, h4⟩ := hy
  simp only at h1 h2 h3 h4
  by_cases hij : i < j
  · left
    obtain ⟨a, rfl⟩ : ∃ a : Nat, i = a := ⟨i.toNat, by omega⟩
    obtain ⟨b, rfl⟩ : ∃ b : Nat, j = b := ⟨j.toNat, by omega⟩
    have ha : a < ys.length := by omega
    have hb : b < ys.length := by omega
    have e1 := idx_nat (get_of_lt ha)
    have e2 := idx_nat (get_of_lt hb)
    have e3 : idx (ys.set a ys[b]) (b : Int) = some ys[b] := idx_nat (by rw [List.getElem?_set_ne (by omega)]; exact get_of_lt hb)
    have ga := h4 a (by omega)
    have gb := h4 b (by omega)
    rw [if_neg (by omega)] at ga gb
    refine ⟨((ys.set a ys[b]).set b ys[a], ((a + 1 : Nat) : Int), ((b : Int) - 1)), .of fun f => ?_, ⟨by simpa using h1, by show (0 : Int) ≤ ((a + 1 : Nat) : Int); omega, by show ((a + 1 : Nat) : Int) + ((b : Int) - 1) = _; omega, fun m hm => ?_⟩, by show ((b : Int) - 1 - ((a + 1 : Nat) : Int) + 1).toNat < ((b : Int) - (a : Int) + 1).toNat; omega⟩
    · unfold slices_Reverse_l1
      simp only [show decide ((a : Int) < (b : Int)) = true by simp; omega, cond_true, e1, e2, e3, Option.bind_some, Int.toNat_natCast, List.length_set, ha, hb, decide_true, chk]
      rw [wrapI (by omega) (by omega), wrapI (by omega) (by omega)]
      rfl
    · simp only
      by_cases m1 : m = b
      · subst m1
        rw [List.getElem?_set_self (by simpa using hb), if_pos (.inr (by omega))]
        rw [← get_of_lt ha, ga]
        congr 1
        omega
      · rw [List.getElem?_set_ne (by omega)]
        by_cases m2 : m = a
        · subst m2
          rw [List.getElem?_set_self ha, if_pos (.inl (by omega))]
          rw [← get_of_lt hb, gb]
          congr 1
          omega
        · rw [List.getElem?_set_ne (by omega), h4 m hm]
          by_cases c : (m : Int) < (a : Int) ∨ (b : Int) < (m : Int)
          · rw [if_pos c, if_pos (by omega)]
          · rw [if_neg c, if_neg (by omega)]
  · right
    refine .of fun f => ?_
    unfold slices_Reverse_l1
    simp only [show decide (i < j) = false by simp; omega, cond_false]
    congr 2
    refine List.ext_getElem? fun m => ?_
    by_cases hm : m < xs.length
    · rw [h4 m hm, List.getElem?_reverse hm]
      split
      · rfl
      · congr 1
        omega
    · rw [List.getElem?_eq_none (by omega), List.getElem?_eq_none (by simp; omega)]

/-! ## Redo -/
def cntJ : List Note → Int → Bool
  | [], _ => false
  | m :: r, u => if m.Unit = u then (if m.Kind = 4 ∨ m.Kind = 5 then true else if m.Kind = 7 ∨ m.Kind = 1 then false else cntJ r u) else cntJ r u

def redoS : List Note → List Image
  | [] => []
  | n :: r => if n.Kind = 3 ∧ cntJ r n.Unit = true then img n :: redoS r else redoS r

theorem redoS_len : ∀ l, (redoS l).length ≤ l.length
  | [] => by simp [redoS]
  | n :: r => by
    have := redoS_len r
    unfold redoS
    split <;> simp <;> omega

def encC (cs : List (Int × Bool)) : SObj := .map (cs.map (encE (kI .i64) cB))
theorem hMap_c {H : Hp} {i : Nat} {cs : List (Int × Bool)} (h : H[i]? = some (encC cs)) : hMap (kI .i64) cB H (some i) = some cs := hMap_eq.2 h

theorem redo_loop {l : List Note} (hl : l.length ≤ 1000) {a : Nat} {q : Hp × Nat} (hq : q.2 = 0) : ∀ (d k : Nat), k = a + d → k ≤ l.length → ∀ (H : Hp) (cs : List (Int × Bool)), H[0]? = some (encC cs) → (∀ u, (cs.lookup u).getD false = cntJ (l.drop k) u) →
    ∃ H', EvL (fun f => j_Redo_l1 f l (a : Int) q) ((redoS (l.drop k)).reverse, (k : Int) - 1, H) ((redoS (l.drop a)).reverse, H')
  | 0, k, hk, hkl, H, cs, h0, hc => by
    obtain rfl : k = a := by omega
    refine ⟨H, .stop (.of fun f => ?_)⟩
    unfold j_Redo_l1
    simp only [show decide ((k : Int) - 1 ≥ (k : Int)) = false by simp; omega, cond_false]
  | d + 1, k, hk, hkl, H, cs, h0, hc => by
    obtain ⟨j, rfl⟩ : ∃ j, k = j + 1 := ⟨k - 1, by omega⟩
    have hlt : j < l.length := by omega
    have hd := List.drop_eq_getElem_cons hlt
    have hidx : idx l (((j + 1 : Nat) : Int) - 1) = some l[j] := by
      have : ((j + 1 : Nat) : Int) - 1 = (j : Int) := by omega
      rw [this]; exact idx_nat (get_of_lt hlt)
    have hw : IntKind.wrap .i64 (((j + 1 : Nat) : Int) - 1 - 1) = (j : Int) - 1 := by rw [wrapI (by omega) (by omega)]; omega
    have hge : decide (((j + 1 : Nat) : Int) - 1 ≥ (a : Int)) = true := by simp; omega
    generalize hn : l[j] = n at *
    have hlook : hLook (kI .i64) cB H (some q.2) n.Unit = some (cs.lookup n.Unit) := by rw [hq]; simp only [hLook, hMap_c h0, Option.map_some]
    have hput : ∀ b, hMput (kI .i64) cB H (some q.2) n.Unit b = some (H.set 0 (encC (mPut n.Unit b cs))) := fun b => by
      rw [hq]; simp only [hMput, Option.bind_some, hMap_c h0, Option.map_some]; rfl
    have l0 := get_lt' h0
    -- where to go on from
    have go : ∀ (cs' : List (Int × Bool)) (H' : Hp), H'[0]? = some (encC cs') → (∀ u, (cs'.lookup u).getD false = cntJ (n :: l.drop (j + 1)) u) →
        (∀ f, j_Redo_l1 f l (a : Int) q ((redoS (l.drop (j + 1))).reverse, ((j + 1 : Nat) : Int) - 1, H) = some (.inl ((redoS (n :: l.drop (j + 1))).reverse, (j : Int) - 1, H'))) →
        ∃ H', EvL (fun f => j_Redo_l1 f l (a : Int) q) ((redoS (l.drop (j + 1))).reverse, ((j + 1 : Nat) : Int) - 1, H) ((redoS (l.drop a)).reverse, H') := fun cs' H' h1 h2 h3 => by
      rw [← hd] at h2 h3
      obtain ⟨H'', h4⟩ := redo_loop hl (a := a) hq d j (by omega) (by omega) H' cs' h1 h2
      exact ⟨H'', .next (.of h3) h4⟩
    by_cases k45 : n.Kind = 4 ∨ n.Kind = 5
    · refine go (mPut n.Unit true cs) (H.set 0 (encC (mPut n.Unit true cs))) (by rw [List.getElem?_set_self l0]) (fun u => ?_) (fun f => ?_)
      · rw [lookup_mPut, cntJ]
        by_cases e : u = n.Unit
        · subst e; simp [k45]
        · rw [if_neg e, if_neg (fun h => e h.symm)]; exact hc u
      · unfold j_Redo_l1 letJ
        have hr : redoS (n :: l.drop (j + 1)) = redoS (l.drop (j + 1)) := by rw [redoS, if_neg (by omega)]
        rw [hr]
        simp only [hge, cond_true, hidx, Option.bind_some, hput, hw]
        rcases k45 with e | e
        · simp [e]
        · simp [e]
    · have e4 : (n.Kind == 4) = false := by simp; omega
      have e5 : (n.Kind == 5) = false := by simp; omega
      by_cases k71 : n.Kind = 7 ∨ n.Kind = 1
      · refine go (mPut n.Unit false cs) (H.set 0 (encC (mPut n.Unit false cs))) (by rw [List.getElem?_set_self l0]) (fun u => ?_) (fun f => ?_)
        · rw [lookup_mPut, cntJ]
          by_cases e : u = n.Unit
          · subst e; simp [k45, k71]
          · rw [if_neg e, if_neg (fun h => e h.symm)]; exact hc u
        · unfold j_Redo_l1 letJ
          have hr : redoS (n :: l.drop (j + 1)) = redoS (l.drop (j + 1)) := by rw [redoS, if_neg (by omega)]
          rw [hr]
          simp only [hge, cond_true, hidx, Option.bind_some, hput, hw, e4, e5, cond_false]
          rcases k71 with e | e
          · simp [e]
          · simp [e]
      · have e7 : (n.Kind == 7) = false := by simp; omega
        have e1 : (n.Kind == 1) = false := by simp; omega
        have hcnt : ∀ u, cntJ (n :: l.drop (j + 1)) u = cntJ (l.drop (j + 1)) u := fun u => by
          rw [cntJ]
          by_cases e : n.Unit = u
          · rw [if_pos e, if_neg k45, if_neg k71]
          · rw [if_neg e]
        refine go cs H h0 (fun u => by rw [hcnt]; exact hc u) (fun f => ?_)
        unfold j_Redo_l1 letJ
        simp only [hge, cond_true, hidx, Option.bind_some, hw, e4, e5, e7, e1, cond_false, hlook]
        by_cases k3 : n.Kind = 3
        · have e3 : (n.Kind == 3) = true := by simp [k3]
          have hcu := hc n.Unit
          simp only [e3, cond_true, hcu]
          have hlen : ((redoS (l.drop (j + 1))).reverse ++ [(⟨n.Key, n.Has, n.Text⟩ : Image)]).length ≤ room := by
            have := redoS_len (l.drop (j + 1))
            simp at this ⊢
            unfold room; omega
          rw [redoS]
          cases hb : cntJ (l.drop (j + 1)) n.Unit
          · rw [if_neg (by simp)]
            rfl
          · rw [if_pos ⟨k3, rfl⟩]
            simp only [cond_true, chk, decide_eq_true hlen, List.reverse_cons, img]
        · have e3 : (n.Kind == 3) = false := by simpa using k3
          simp only [e3, cond_false]
          rw [redoS, if_neg (fun h => k3 h.1)]

def redoR (l : List Note) (a : Int) : List Image × Int := if rightE l ≠ 0 then ([], rightE l) else if a < 0 ∨ a > l.length then ([], 7) else (redoS (l.drop a.toNat), 0)

theorem j_Redo_ev (l : List Note) (a : Int) : Ev (fun f => j_Redo f l a) (redoR l a) := by
  unfold j_Redo redoR
  refine Ev.bind (j_right_ev l) (Ev.ite (fun c => ?_) (fun c => ?_))
  · rw [if_pos (by simpa using c)]; exact Ev.pure _
  · have c' : rightE l = 0 := by simpa using c
    rw [if_neg (by simp [c'])]
    refine Ev.letJ (Ev.ite (fun c2 => ?_) (fun c2 => ?_))
    · rw [if_pos (.inl (by simpa using c2))]; exact Ev.pure _
    · refine Ev.ite (fun c3 => ?_) (fun c3 => ?_)
      · rw [if_pos (.inr (by simpa using c3))]; exact Ev.pure _
      · have h1 : 0 ≤ a := by simpa using c2
        have h2 : a ≤ l.length := by simpa using c3
        rw [if_neg (by omega)]
        have hl := right_len c'
        obtain ⟨b, rfl⟩ : ∃ b : Nat, a = b := ⟨a.toNat, by omega⟩
        refine Ev.some' (a := ([.map []], 0)) rfl ?_
        rw [wrapI (by omega) (by omega)]
        obtain ⟨H', h3⟩ := redo_loop hl (a := b) (q := ([.map []], 0)) rfl (l.length - b) l.length (by omega) (Nat.le_refl _) [.map []] [] rfl (fun u => by rw [List.drop_of_length_le (Nat.le_refl _)]; rfl)
        rw [List.drop_of_length_le (Nat.le_refl l.length)] at h3
        refine Ev.bind h3.ev (Ev.bind (reverse_ev _ ?_) ?_)
        · simp only [List.length_reverse]
          have := redoS_len (l.drop b)
          simp at this; omega
        · simp only [List.reverse_reverse, Int.toNat_natCast]
          exact Ev.pure _
end Go.Sh
