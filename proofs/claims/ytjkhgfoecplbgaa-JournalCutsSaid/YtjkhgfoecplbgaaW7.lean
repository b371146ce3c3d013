/- What images make of a state (Apply, State). -/
import Derived.Test.YtjkhgfoecplbgaaW6
set_option linter.all false
set_option autoImplicit true
set_option relaxedAutoImplicit true
set_option linter.unusedVariables false
set_option linter.unusedSimpArgs false
namespace Go.Sh

def Srt (l : List Image) : Prop := l.Pairwise (fun a b => Op.bytesLess a.Key b.Key = true)
instance (l : List Image) : Decidable (Srt l) := by unfold Srt; infer_instance

def good (l : List Image) (k : Nat) : Bool := match l[k]? with
  | some x => okI x && x.Has && (k == 0 || (match l[k - 1]? with | some y => Op.bytesLess y.Key x.Key | none => false))
  | none => true

structure OrdP (l : List Image) : Prop where
  ok : ∀ x ∈ l, okI x = true
  has : ∀ x ∈ l, x.Has = true
  srt : Srt l
  len : l.length ≤ 500

theorem good_iff (l : List Image) : (List.range l.length).all (good l) = true ↔ (∀ x ∈ l, okI x = true) ∧ (∀ x ∈ l, x.Has = true) ∧ Srt l := by
  rw [List.all_eq_true]
  constructor
  · intro h
    have h' : ∀ k (hk : k < l.length), okI l[k] = true ∧ l[k].Has = true ∧ (k ≠ 0 → Op.bytesLess (l[k - 1]'(by omega)).Key l[k].Key = true) := fun k hk => by
      have := h k (List.mem_range.2 hk)
      unfold good at this
      rw [get_of_lt hk, get_of_lt (show k - 1 < l.length by omega)] at this
      simp only [Bool.and_eq_true, Bool.or_eq_true, beq_iff_eq] at this
      exact ⟨this.1.1, this.1.2, fun hne => this.2.resolve_left hne⟩
    refine ⟨fun x hx => ?_, fun x hx => ?_, ?_⟩
    · obtain ⟨k, hk, rfl⟩ := List.getElem_of_mem hx; exact (h' k hk).1
    · obtain ⟨k, hk, rfl⟩ := List.getElem_of_mem hx; exact (h' k hk).2.1
    · unfold Srt
      rw [List.pairwise_iff_getElem]
      have : ∀ d i (hj : i + d + 1 < l.length), Op.bytesLess (l[i]'(by omega)).Key (l[i + d + 1]'hj).Key = true := by
        intro d
        induction d with
        | zero =>
          intro i hj
          exact (h' (i + 1) hj).2.2 (by omega)
        | succ d ih =>
          intro i hj
          exact blt_trans (ih i (by omega)) ((h' (i + (d + 1) + 1) hj).2.2 (by omega))
      intro i j hi hj hij
      have e : j = i + (j - i - 1) + 1 := by omega
      have := this (j - i - 1) i (by omega)
      simp only [← e] at this
      exact this
  · rintro ⟨h1, h2, h3⟩ k hk
    have hk := List.mem_range.1 hk
    unfold good
    rw [get_of_lt hk]
    simp only [h1 _ (List.getElem_mem hk), h2 _ (List.getElem_mem hk), Bool.true_and, Bool.or_eq_true, beq_iff_eq]
    by_cases e : k = 0
    · exact .inl e
    · right
      rw [get_of_lt (show k - 1 < l.length by omega)]
      exact List.pairwise_iff_getElem.1 h3 (k - 1) k (by omega) hk (by omega)

def ordB (l : List Image) : Bool := (List.range l.length).all (good l) && decide (l.length ≤ 500)
theorem ordB_iff (l : List Image) : ordB l = true ↔ OrdP l := by
  unfold ordB
  rw [Bool.and_eq_true, good_iff, decide_eq_true_eq]
  exact ⟨fun ⟨⟨a, b, c⟩, d⟩ => ⟨a, b, c, d⟩, fun h => ⟨⟨h.ok, h.has, h.srt⟩, h.len⟩⟩

theorem range_drop {n k : Nat} (h : k < n) (p : Nat → Bool) : ((List.range n).drop k).all p = (p k && ((List.range n).drop (k + 1)).all p) := by
  rw [all_step (by simpa using h)]
  simp

theorem j_ordered_ev (l : List Image) (hl : l.length ≤ 1000000) : Ev (j_ordered · l) (ordB l) := by
  unfold j_ordered ordB
  have key : EvL (fun f => j_ordered_l1 f l) ((0 : Nat) : Int) (if ((List.range l.length).drop 0).all (good l) then .inl () else .inr false) := by
    refine EvL.count (A := fun k => (k : Int)) (out := fun k => (if ((List.range l.length).drop k).all (good l) then .inl () else .inr false : Unit ⊕ Bool)) l.length (fun k hk => ?_) (.of fun f => ?_) 0 (by omega)
    · have hg := idx_nat (get_of_lt hk)
      have hstep : ∀ f, j_ordered_l1 f l (k : Int) = some (bif good l k then .inl ((k + 1 : Nat) : Int) else .inr (.inr false)) := fun f => by
        unfold j_ordered_l1
        simp only [ltT hk, cond_true, hg, Option.bind_some, j_image_eq, wrapS (show k ≤ 1000000000 by omega)]
        unfold good
        rw [get_of_lt hk]
        simp only
        cases h1 : okI l[k]
        · simp
        · cases h2 : l[k].Has
          · simp
          · simp only [Bool.not_true, Bool.or_self, cond_false, Bool.and_self, Bool.true_and]
            by_cases h0 : k = 0
            · subst h0; simp
            · have hk1 : k - 1 < l.length := by omega
              have e : decide ((k : Int) > 0) = true := by simp; omega
              have hi : idx l (IntKind.wrap .i64 ((k : Int) - 1)) = some l[k - 1] := by
                rw [wrapI (by omega) (by omega), show (k : Int) - 1 = ((k - 1 : Nat) : Int) by omega]
                exact idx_nat (get_of_lt hk1)
              have e0 : (k == 0) = false := by simpa using h0
              rw [e, hi, get_of_lt hk1, e0]
              simp only [cond_true, Option.bind_some, Bool.false_or]
              cases Op.bytesLess l[k - 1].Key l[k].Key <;> rfl
      have hd := range_drop hk (good l)
      cases hv : good l k
      · right
        refine .of fun f => ?_
        simp only [hstep, hv, cond_false]
        rw [hd, hv]
        rfl
      · left
        refine ⟨.of fun f => ?_, ?_⟩
        · simp only [hstep, hv, cond_true]
        · rw [hd, hv, Bool.true_and]
    · unfold j_ordered_l1
      simp only [ltF, cond_false]
      rw [List.drop_of_length_le (by simp)]
      rfl
  refine Ev.bind key.ev ?_
  rw [List.drop_zero]
  cases (List.range l.length).all (good l)
  · exact Ev.pure _
  · refine .of fun f => ?_
    simp only [if_true, Sum.elim_inl, c500, Bool.true_and]

/-! ## One image -/
def put1 (x : Image) : List Image → List Image
  | [] => if x.Has then [x] else []
  | y :: s => if Op.bytesLess y.Key x.Key then y :: put1 x s else (if x.Has then [x] else []) ++ (if y.Key = x.Key then s else y :: s)

def posOf (k : List UInt8) : List Image → Nat
  | [] => 0
  | y :: s => if Op.bytesLess y.Key k then posOf k s + 1 else 0

theorem posOf_le (k : List UInt8) : ∀ s, posOf k s ≤ s.length
  | [] => by simp [posOf]
  | y :: s => by
    have := posOf_le k s
    unfold posOf
    split <;> simp <;> omega

def found (k : List UInt8) (s : List Image) : Bool := match s[posOf k s]? with | some y => y.Key == k | none => false

theorem put1_eq (x : Image) : ∀ s, put1 x s = s.take (posOf x.Key s) ++ (if x.Has then [x] else []) ++ s.drop (posOf x.Key s + if found x.Key s then 1 else 0)
  | [] => by simp [put1, posOf]
  | y :: s => by
    have ih := put1_eq x s
    unfold put1
    by_cases h : Op.bytesLess y.Key x.Key = true
    · have hp : posOf x.Key (y :: s) = posOf x.Key s + 1 := by rw [posOf, if_pos h]
      have hf : found x.Key (y :: s) = found x.Key s := by
        unfold found
        rw [hp, List.getElem?_cons_succ]
      rw [if_pos h, hp, hf, ih]
      have : posOf x.Key s + 1 + (if found x.Key s then 1 else 0) = (posOf x.Key s + if found x.Key s then 1 else 0) + 1 := by omega
      rw [this]
      rfl
    · have hp : posOf x.Key (y :: s) = 0 := by rw [posOf, if_neg h]
      have hf : found x.Key (y :: s) = (y.Key == x.Key) := by
        unfold found
        rw [hp]; rfl
      rw [if_neg h, hp, hf]
      by_cases e : y.Key = x.Key
      · rw [if_pos e]; simp [e]
      · rw [if_neg e]; simp [e]

theorem mem_put1 {x z : Image} : ∀ {s}, z ∈ put1 x s → (z = x ∧ x.Has = true) ∨ z ∈ s
  | [], h => by
    unfold put1 at h
    split at h
    · rename_i hx; exact .inl ⟨by simpa using h, hx⟩
    · cases h
  | y :: s, h => by
    unfold put1 at h
    split at h
    · rcases List.mem_cons.1 h with h | h
      · exact .inr (by rw [h]; exact List.mem_cons_self)
      · rcases mem_put1 h with h | h
        · exact .inl h
        · exact .inr (List.mem_cons_of_mem _ h)
    · rcases List.mem_append.1 h with h | h
      · split at h
        · rename_i hx; exact .inl ⟨by simpa using h, hx⟩
        · cases h
      · split at h
        · exact .inr (List.mem_cons_of_mem _ h)
        · exact .inr h

theorem put1_srt (x : Image) : ∀ {s}, Srt s → Srt (put1 x s)
  | [], _ => by unfold put1 Srt; split <;> simp
  | y :: s, h => by
    have h' := List.pairwise_cons.1 h
    unfold put1
    by_cases hb : Op.bytesLess y.Key x.Key = true
    · rw [if_pos hb]
      refine List.pairwise_cons.2 ⟨fun z hz => ?_, put1_srt x h'.2⟩
      rcases mem_put1 hz with ⟨rfl, _⟩ | hz
      · exact hb
      · exact h'.1 z hz
    · rw [if_neg hb]
      have hrest : Srt (if y.Key = x.Key then s else y :: s) ∧ ∀ z ∈ (if y.Key = x.Key then s else y :: s), Op.bytesLess x.Key z.Key = true := by
        by_cases e : y.Key = x.Key
        · rw [if_pos e]
          exact ⟨h'.2, fun z hz => by rw [← e]; exact h'.1 z hz⟩
        · rw [if_neg e]
          have hxy := blt_tri e (by simpa using hb)
          refine ⟨h, fun z hz => ?_⟩
          rcases List.mem_cons.1 hz with rfl | hz
          · exact hxy
          · exact blt_trans hxy (h'.1 z hz)
      split
      · exact List.pairwise_cons.2 ⟨hrest.2, hrest.1⟩
      · exact hrest.1

theorem put1_len (x : Image) : ∀ s, (put1 x s).length ≤ s.length + 1
  | [] => by unfold put1; split <;> simp
  | y :: s => by
    have := put1_len x s
    unfold put1
    split
    · simp; omega
    · split <;> split <;> simp <;> omega

/-- Where the order says that a key belongs. -/
theorem posOf_spec (k : List UInt8) : ∀ {s : List Image}, Srt s → ∀ i, i ≤ s.length → (∀ m (h : m < s.length), m < i → Op.bytesLess s[m].Key k = true) → (∀ m (h : m < s.length), i ≤ m → Op.bytesLess s[m].Key k = false) → posOf k s = i
  | [], _, i, hi, _, _ => by simp at hi; simp [posOf, hi]
  | y :: s, h, i, hi, h1, h2 => by
    unfold posOf
    cases i with
    | zero =>
      have := h2 0 (by simp) (by omega)
      rw [if_neg]
      simpa using this
    | succ i =>
      have := h1 0 (by simp) (by omega)
      rw [if_pos (by simpa using this)]
      have := posOf_spec k (List.pairwise_cons.1 h).2 i (by simpa using hi) (fun m hm hlt => h1 (m + 1) (by simpa using hm) (by omega)) (fun m hm hle => h2 (m + 1) (by simpa using hm) (by omega))
      omega

theorem half (i j : Nat) (h : i + j ≤ 4000000000) : IntKind.wrap .i64 (Int.fdiv (IntKind.wrap .u64 (IntKind.wrap .i64 ((i : Int) + (j : Int)))) (2 ^ 1)) = (((i + j) / 2 : Nat) : Int) := by
  rw [wrapI (x := (i : Int) + (j : Int)) (by omega) (by omega)]
  have hu : IntKind.wrap .u64 ((i : Int) + (j : Int)) = (i : Int) + (j : Int) := by
    unfold IntKind.wrap
    simp [IntKind.bits, IntKind.signed]
    omega
  rw [hu]
  have e : Int.fdiv ((i : Int) + (j : Int)) (2 ^ 1) = (((i + j) / 2 : Nat) : Int) := by
    rw [Int.fdiv_eq_ediv_of_nonneg _ (by omega)]
    omega
  rw [e, wrapI (by omega) (by omega)]

theorem cmp_ev (a : Image) (k : List UInt8) (f : Nat) : j_Apply_2 f a k = some (Lib.compareBytes a.Key k) := by
  unfold j_Apply_2 strings_Compare cmpS
  rfl

theorem search_ev (s : List Image) (hs : Srt s) (hl : s.length ≤ 1000000) (k : List UInt8) : Ev (fun f => slices_BinarySearchFunc_47 f s k) ((posOf k s : Int), found k s) := by
  unfold slices_BinarySearchFunc_47
  have hp := posOf_le k s
  refine Ev.bind (a := (posOf k s : Int)) ?_ ?_
  · refine EvL.ev (EvL.iter (I := fun y => ∃ i j : Nat, y = ((i : Int), (j : Int)) ∧ i ≤ j ∧ j ≤ s.length ∧ (∀ m (h : m < s.length), m < i → Op.bytesLess s[m].Key k = true) ∧ (∀ m (h : m < s.length), j ≤ m → Op.bytesLess s[m].Key k = false)) (fun y => (y.2 - y.1).toNat) (fun y hy => ?_) ⟨0, s.length, rfl, by omega, by omega, fun m h h' => by omega, fun m h h' => by omega⟩)
    obtain ⟨i, j, rfl, hij, hj, h1, h2⟩ := hy
    by_cases hlt : i < j
    · left
      have hm : (i + j) / 2 < s.length := by omega
      have hidx := idx_nat (get_of_lt hm)
      have hc := cmp_lt s[(i + j) / 2].Key k
      cases hb : Op.bytesLess s[(i + j) / 2].Key k
      · refine ⟨((i : Int), (((i + j) / 2 : Nat) : Int)), .of fun f => ?_, ⟨i, (i + j) / 2, rfl, by omega, by omega, h1, fun m h hle => ?_⟩, by simp; omega⟩
        · unfold slices_BinarySearchFunc_47_l1
          simp only [ltT hlt, cond_true, half i j (by omega), hidx, Option.bind_some, cmp_ev]
          rw [hc, hb]; rfl
        · cases hb2 : Op.bytesLess s[m].Key k
          · rfl
          · exfalso
            by_cases e : m = (i + j) / 2
            · subst e; rw [hb] at hb2; cases hb2
            · have := List.pairwise_iff_getElem.1 hs ((i + j) / 2) m hm h (by omega)
              have := blt_trans this hb2
              rw [hb] at this; cases this
      · refine ⟨((((i + j) / 2 + 1 : Nat) : Int), (j : Int)), .of fun f => ?_, ⟨(i + j) / 2 + 1, j, rfl, by omega, by omega, fun m h hle => ?_, h2⟩, by simp; omega⟩
        · unfold slices_BinarySearchFunc_47_l1
          simp only [ltT hlt, cond_true, half i j (by omega), hidx, Option.bind_some, cmp_ev, wrapS (show (i + j) / 2 ≤ 1000000000 by omega)]
          rw [hc, hb]; rfl
        · by_cases e : m = (i + j) / 2
          · subst e; exact hb
          · have := List.pairwise_iff_getElem.1 hs m ((i + j) / 2) h hm (by omega)
            exact blt_trans this hb
    · right
      obtain rfl : i = j := by omega
      rw [posOf_spec k hs i hj h1 h2]
      refine .of fun f => ?_
      unfold slices_BinarySearchFunc_47_l1
      simp only [ltF, cond_false]
  · by_cases h : posOf k s < s.length
    · refine Ev.t (ltT h) (Ev.some' (idx_nat (get_of_lt h)) (.of fun f => ?_))
      rw [cmp_ev]
      simp only [Option.bind_some, cmp_zero]
      unfold found
      rw [get_of_lt h]
    · refine Ev.f (by simp; omega) (.of fun f => ?_)
      unfold found
      rw [List.getElem?_eq_none (by omega)]

theorem apply_step (l : List Image) (hl : l.length ≤ 1000000) (k : Nat) (hk : k < l.length) (s : List Image) (hs : Srt s) (hsl : s.length ≤ 1000000) : Ev (fun f => j_Apply_l1 f l (s, (k : Int))) (.inl (put1 l[k] s, ((k + 1 : Nat) : Int))) := by
  unfold j_Apply_l1
  refine Ev.t (ltT hk) (Ev.some' (idx_nat (get_of_lt hk)) (Ev.bind (search_ev s hs hsl _) ?_))
  generalize l[k] = x
  have hp := posOf_le x.Key s
  have hroom : s.length + 1 ≤ room := by unfold room; omega
  simp only [wrapS (show k ≤ 1000000000 by omega)]
  rw [put1_eq]
  have hfl : found x.Key s = true → posOf x.Key s < s.length := fun h => by
    unfold found at h
    split at h
    · rename_i y hy; exact get_lt' hy
    · cases h
  refine Ev.ite (fun c => ?_) (fun c => ?_)
  · simp only [Bool.and_eq_true] at c
    have hlt := hfl c.2
    refine Ev.some' (idx_nat (get_of_lt hlt)) (Ev.chk (by simpa using hlt) ?_)
    rw [c.1, c.2]
    simp only [if_true, Int.toNat_natCast]
    rw [List.set_eq_take_append_cons_drop, if_pos hlt]
    simp only [List.append_assoc, List.singleton_append]
    exact Ev.pure _
  · refine Ev.ite (fun c2 => ?_) (fun c2 => ?_)
    · have c3 : found x.Key s = false := by
        cases h : found x.Key s
        · rfl
        · rw [c2, h] at c; cases c
      rw [c2, c3]
      simp only [if_true, Bool.false_eq_true, if_false, Nat.add_zero]
      refine Ev.bind (a := s.take (posOf x.Key s) ++ [x] ++ s.drop (posOf x.Key s)) ?_ (Ev.pure _)
      unfold slices_Insert
      refine Ev.chk (by unfold slOk; simp; omega) (Ev.f (by simp) (Ev.ite (fun c4 => ?_) (fun c4 => ?_)))
      · have c4 : posOf x.Key s = s.length := by have := eq_of_beq c4; omega
        rw [c4, List.take_length, List.drop_length, List.append_nil]
        exact Ev.chk (by simp; omega) (Ev.pure _)
      · have c4 : posOf x.Key s ≠ s.length := by
          intro e; rw [e] at c4; simp at c4
        refine Ev.chk (by simp; omega) ?_
        simp only [Int.toNat_natCast]
        exact Ev.pure _
    · rw [c2]
      simp only [Bool.false_eq_true, if_false, List.append_nil]
      refine Ev.ite (fun c3 => ?_) (fun c3 => ?_)
      · have hlt := hfl c3
        rw [c3]
        simp only [if_true]
        refine Ev.bind (a := s.take (posOf x.Key s) ++ s.drop (posOf x.Key s + 1)) ?_ (Ev.pure _)
        rw [wrapS (by omega)]
        unfold slices_Delete
        refine Ev.chk (by simp; omega) (Ev.f (by simp; omega) (Ev.chk (by simp; omega) ?_))
        simp only [Int.toNat_natCast]
        exact Ev.pure _
      · rw [c3]
        simp only [Bool.false_eq_true, if_false, Nat.add_zero, List.take_append_drop]
        exact Ev.pure _

theorem foldl_srt : ∀ (l s : List Image), Srt s → Srt (l.foldl (fun s x => put1 x s) s)
  | [], s, h => h
  | x :: l, s, h => foldl_srt l _ (put1_srt x h)
theorem foldl_len : ∀ (l s : List Image), (l.foldl (fun s x => put1 x s) s).length ≤ s.length + l.length
  | [], s => by simp
  | x :: l, s => by
    have := foldl_len l (put1 x s)
    have := put1_len x s
    simp; omega
theorem foldl_mem : ∀ (l s : List Image) (z : Image), z ∈ l.foldl (fun s x => put1 x s) s → (z ∈ l ∧ z.Has = true) ∨ z ∈ s
  | [], s, z, h => .inr h
  | x :: l, s, z, h => by
    rcases foldl_mem l _ z h with h | h
    · exact .inl ⟨List.mem_cons_of_mem _ h.1, h.2⟩
    · rcases mem_put1 h with ⟨rfl, hx⟩ | h
      · exact .inl ⟨List.mem_cons_self, hx⟩
      · exact .inr h

theorem j_contains_ev (l : List Image) (hl : l.length ≤ 1000000) : Ev (slices_ContainsFunc_43 · l) (!l.all okI) := by
  unfold slices_ContainsFunc_43 slices_IndexFunc_43
  have key : EvL (fun f => slices_IndexFunc_43_l1 f l) ((0 : Nat) : Int) (if (l.drop 0).all okI then Sum.inl () else Sum.inr (((l.drop 0).findIdx (fun n => !okI n) + 0 : Nat) : Int)) := by
    refine EvL.count (A := fun k => (k : Int)) (out := fun k => (if (l.drop k).all okI then Sum.inl () else Sum.inr (((l.drop k).findIdx (fun n => !okI n) + k : Nat) : Int) : Unit ⊕ Int)) l.length (fun k hk => ?_) (.of fun f => ?_) 0 (by omega)
    · have hg := idx_nat (get_of_lt hk)
      have hd := List.drop_eq_getElem_cons hk
      by_cases hv : okI l[k] = true
      · left
        refine ⟨.of fun n => ?_, ?_⟩
        · unfold slices_IndexFunc_43_l1 j_Apply_1
          simp only [hg, j_image_eq, Option.bind_some, hv, ltT hk, cond_true, wrapS (show k ≤ 1000000000 by omega)]
          rfl
        · simp only [hd, List.all_cons, hv, Bool.true_and, List.findIdx_cons, Bool.not_true, cond_false]
          rw [show (List.findIdx (fun n => !okI n) (List.drop (k + 1) l)) + 1 + k = (List.findIdx (fun n => !okI n) (List.drop (k + 1) l)) + (k + 1) by omega]
      · right
        have hv : okI l[k] = false := by simpa using hv
        refine .of fun n => ?_
        unfold slices_IndexFunc_43_l1 j_Apply_1
        simp only [hg, j_image_eq, Option.bind_some, hv, ltT hk, cond_true]
        have ha : (l.drop k).all okI = false := by rw [hd, List.all_cons, hv, Bool.false_and]
        have hf : (l.drop k).findIdx (fun n => !okI n) = 0 := by rw [hd, List.findIdx_cons, hv]; rfl
        rw [ha, hf]
        simp
    · unfold slices_IndexFunc_43_l1
      simp only [ltF, cond_false]
      rw [List.drop_of_length_le (Nat.le_refl _)]
      rfl
  refine Ev.bind (a := if l.all okI then -1 else ((l.findIdx (fun n => !okI n) : Nat) : Int)) ?_ ?_
  · refine Ev.bind key.ev ?_
    simp only [List.drop_zero, Nat.add_zero]
    split
    · exact Ev.pure _
    · exact Ev.pure _
  · refine .of fun n => ?_
    cases hv : l.all okI <;> simp

def applyR (s l : List Image) : List Image × Int :=
  if ordB s = false ∨ l.all okI = false then ([], 1)
  else if (l.foldl (fun s x => put1 x s) s).length > 500 then ([], 4) else (l.foldl (fun s x => put1 x s) s, 0)

theorem j_Apply_ev (s l : List Image) (hs : s.length ≤ 1000000) (hl : l.length ≤ 400000) : Ev (fun f => j_Apply f s l) (applyR s l) := by
  unfold j_Apply applyR
  refine Ev.letJ (Ev.bind (j_ordered_ev s hs) (Ev.ite (fun c => ?_) (fun c => Ev.bind (j_contains_ev l (by omega)) (Ev.ite (fun c2 => ?_) (fun c2 => ?_)))))
  · rw [if_pos (.inl (by simpa using c))]
    exact Ev.pure _
  · rw [if_pos (.inr (by simpa using c2))]
    exact Ev.pure _
  · have c' : ordB s = true := by simpa using c
    have c2' : l.all okI = true := by simpa using c2
    rw [if_neg (by simp [c', c2'])]
    have ho := (ordB_iff s).1 c'
    refine Ev.bind (a := s) ?_ ?_
    · refine .of fun f => ?_
      unfold slices_Clone nilB
      have hr : decide ((([] : List Image) ++ s).length ≤ room) = true := by
        have := ho.len
        simp; unfold room; omega
      cases s with
      | nil => rfl
      | cons a s => simp only [List.isEmpty_cons, cond_false, chk, hr, cond_true]; rfl
    · have hsrt := ho.srt
      have key : EvL (fun f => j_Apply_l1 f l) ((l.take 0).foldl (fun s x => put1 x s) s, ((0 : Nat) : Int)) (l.foldl (fun s x => put1 x s) s) := by
        refine EvL.count (A := fun k => ((l.take k).foldl (fun s x => put1 x s) s, (k : Int))) (out := fun k => l.foldl (fun s x => put1 x s) s) l.length (fun k hk => .inl ⟨?_, rfl⟩) (.of fun f => ?_) 0 (by omega)
        · have h1 := foldl_srt (l.take k) s hsrt
          have h2 := foldl_len (l.take k) s
          have := ho.len
          have h3 := apply_step l (by omega) k hk _ h1 (by simp at h2; omega)
          rw [take_succ' hk, List.foldl_append]
          exact h3
        · unfold j_Apply_l1
          simp only [ltF, cond_false, List.take_length]
      refine Ev.bind key.ev (Ev.ite (fun c3 => ?_) (fun c3 => ?_))
      · have c4 := of_decide_eq_true c3; rw [if_pos (by omega)]; exact Ev.pure _
      · have c4 := of_decide_eq_false c3; rw [if_neg (by omega)]; exact Ev.pure _

def stateR (s : List Image) (l : List Note) : List Image × Int :=
  if ordB s = false then ([], 1) else if rightE l ≠ 0 then ([], rightE l) else applyR s (redoS l)

theorem j_State_ev (s : List Image) (l : List Note) (hs : s.length ≤ 1000000) : Ev (fun f => j_State f s l) (stateR s l) := by
  unfold j_State stateR
  refine Ev.bind (j_ordered_ev s hs) (Ev.ite (fun c => ?_) (fun c => ?_))
  · rw [if_pos (by simpa using c)]; exact Ev.pure _
  · rw [if_neg (by simpa using c)]
    refine Ev.bind (j_Redo_ev l 0) ?_
    unfold redoR
    by_cases h : rightE l = 0
    · rw [if_neg (by simp [h]), if_neg (by simp [h]), if_neg (by omega)]
      have hl := right_len h
      have := redoS_len l
      exact Ev.f rfl (Ev.bind (j_Apply_ev s _ hs (by simp; omega)) (Ev.pure _))
    · rw [if_pos h, if_pos h]
      exact Ev.t (by simpa using h) (Ev.pure _)
end Go.Sh
