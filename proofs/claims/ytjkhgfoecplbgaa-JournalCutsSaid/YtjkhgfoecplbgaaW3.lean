/- What is right, told of a list's beginnings; the reference tells it. -/
import Derived.Test.YtjkhgfoecplbgaaW2
set_option linter.all false
set_option autoImplicit true
set_option relaxedAutoImplicit true
set_option linter.unusedVariables false
set_option linter.unusedSimpArgs false
namespace Go.Sh

def segS (u : Int) (s : Option (List (List UInt8 × Int))) (n : Note) : Option (List (List UInt8 × Int)) :=
  if n.Unit ≠ u ∨ n.Kind = 6 then s else if n.Kind = 1 ∨ n.Kind = 4 then some [] else if n.Kind = 5 ∨ n.Kind = 7 then none else s.map (· ++ [(n.Key, n.Kind)])

/-- What a unit did since it began or was quiet; none: it does not go on. -/
def seg (p : List Note) (u : Int) : Option (List (List UInt8 × Int)) := p.foldl (segS u) none

theorem seg_snoc (p : List Note) (n : Note) (u : Int) : seg (p ++ [n]) u = segS u (seg p u) n := by simp [seg]
theorem seg_nil (u : Int) : seg [] u = none := rfl

def sinS (u : Int) (a : Int) (n : Note) (k : Nat) : Int := if n.Unit ≠ u ∨ n.Kind = 6 then a else if n.Kind = 1 ∨ n.Kind = 4 then k else if n.Kind = 5 ∨ n.Kind = 7 then -1 else a

def sinF (l : List Note) (u : Int) : Nat → Int
  | 0 => -1
  | k + 1 => match l[k]? with | some n => sinS u (sinF l u k) n k | none => sinF l u k

def ofN (u : Int) (n : Note) : Option (List UInt8 × Int) := if n.Unit = u ∧ n.Kind ≠ 6 then some (n.Key, n.Kind) else none

theorem take_succ' {α : Type} {l : List α} {k : Nat} (h : k < l.length) : l.take (k + 1) = l.take k ++ [l[k]] := by rw [List.take_succ_eq_append_getElem h]

theorem sin_seg (l : List Note) (u : Int) : ∀ k, k ≤ l.length → (sinF l u k = -1 ∧ seg (l.take k) u = none) ∨
    ∃ at' : Nat, sinF l u k = at' ∧ at' < k ∧ seg (l.take k) u = some (((l.take k).drop (at' + 1)).filterMap (ofN u))
  | 0, _ => .inl ⟨rfl, by simp [seg]⟩
  | k + 1, hk => by
    have hlt : k < l.length := by omega
    have ih := sin_seg l u k (by omega)
    have hg := get_of_lt hlt
    rw [take_succ' hlt, seg_snoc]
    simp only [sinF, hg]
    generalize l[k] = n at *
    unfold segS sinS
    by_cases h1 : n.Unit ≠ u ∨ n.Kind = 6
    · rw [if_pos h1, if_pos h1]
      rcases ih with ih | ⟨a, h2, h3, h4⟩
      · exact .inl ih
      · refine .inr ⟨a, h2, by omega, ?_⟩
        rw [h4, List.drop_append_of_le_length (by simp; omega), List.filterMap_append]
        have : ofN u n = none := by
          unfold ofN
          rw [if_neg]
          rintro ⟨e1, e2⟩
          rcases h1 with h1 | h1
          · exact h1 e1
          · exact e2 h1
        simp [this]
    · rw [if_neg h1, if_neg h1]
      by_cases h5 : n.Kind = 1 ∨ n.Kind = 4
      · rw [if_pos h5, if_pos h5]
        refine .inr ⟨k, rfl, by omega, ?_⟩
        rw [List.drop_of_length_le (by simp; omega)]
        rfl
      · rw [if_neg h5, if_neg h5]
        by_cases h6 : n.Kind = 5 ∨ n.Kind = 7
        · rw [if_pos h6, if_pos h6]
          exact .inl ⟨rfl, rfl⟩
        · rw [if_neg h6, if_neg h6]
          rcases ih with ⟨i1, i2⟩ | ⟨a, h2, h3, h4⟩
          · exact .inl ⟨i1, by rw [i2]; rfl⟩
          · refine .inr ⟨a, h2, by omega, ?_⟩
            rw [h4, List.drop_append_of_le_length (by simp; omega), List.filterMap_append]
            have : ofN u n = some (n.Key, n.Kind) := by
              unfold ofN
              rw [if_pos]
              exact ⟨Classical.not_not.1 fun e => h1 (.inl e), fun e => h1 (.inr e)⟩
            simp [this]

theorem ltT {k n : Nat} (h : k < n) : decide ((k : Int) < (n : Int)) = true := by simp; omega
theorem ltF (n : Nat) : decide ((n : Int) < (n : Int)) = false := by simp
theorem wrapS {k : Nat} (h : k ≤ 1000000000) : IntKind.wrap .i64 ((k : Int) + 1) = ((k + 1 : Nat) : Int) := by rw [wrapI (by omega) (by omega)]; simp

theorem r_since_ev (l : List Note) (hl : l.length ≤ 1000) (n : Nat) (hn : n ≤ l.length) (u : Int) : Ev (fun f => r_since f l (n : Int) u) (sinF l u n) := by
  unfold r_since
  refine Ev.bind (a := sinF l u n) ?_ (Ev.pure _)
  have h : EvL (fun f => r_since_l1 f l (n : Int) u) (sinF l u 0, ((0 : Nat) : Int)) (sinF l u n) := by
    refine EvL.count (A := fun k => (sinF l u k, (k : Int))) (out := fun _ => sinF l u n) n (fun k hk => .inl ⟨.of fun f => ?_, rfl⟩) (.of fun f => ?_) 0 (by omega)
    · have hlt : k < l.length := by omega
      have hg := idx_nat (get_of_lt hlt)
      unfold r_since_l1 letJ
      simp only [ltT hk, cond_true, hg, Option.bind_some, wrapS (show k ≤ 1000000000 by omega), sinF, get_of_lt hlt]
      generalize l[k] = m
      unfold sinS
      by_cases h1 : m.Unit = u
      · have e1 : (m.Unit != u) = false := by simp [h1]
        rw [e1]
        simp only [cond_false]
        by_cases h6 : m.Kind = 6
        · simp [h6]
        · have e6 : (m.Kind == 6) = false := by simpa using h6
          rw [e6, if_neg (by simp [h1, h6])]
          simp only [cond_false]
          by_cases k1 : m.Kind = 1
          · simp [k1]
          · by_cases k4 : m.Kind = 4
            · simp [k4]
            · by_cases k5 : m.Kind = 5
              · simp [k5]
              · by_cases k7 : m.Kind = 7
                · simp [k7]
                · have e1 : (m.Kind == 1) = false := by simpa using k1
                  have e4 : (m.Kind == 4) = false := by simpa using k4
                  have e5 : (m.Kind == 5) = false := by simpa using k5
                  have e7 : (m.Kind == 7) = false := by simpa using k7
                  simp [k1, k4, k5, k7, e1, e4, e5, e7]
      · have e1 : (m.Unit != u) = true := by simpa using h1
        rw [e1, if_pos (.inl h1)]
        rfl
    · unfold r_since_l1
      simp only [ltF, cond_false]
  exact h.ev

def hit (key : List UInt8) (kind : Int) (p : List UInt8 × Int) : Bool := p.1 == key && (p.2 == 2 || p.2 == 3) && (kind == 0 || p.2 == kind)
def tch (p : List Note) (u : Int) (key : List UInt8) (kind : Int) : Bool := match seg p u with | none => false | some sg => sg.any (hit key kind)

theorem any_ofN (u : Int) (key : List UInt8) (kind : Int) : ∀ l : List Note, (l.filterMap (ofN u)).any (hit key kind) = l.any (fun m => m.Unit == u && hit key kind (m.Key, m.Kind))
  | [] => rfl
  | m :: l => by
    rw [List.filterMap_cons, List.any_cons, ← any_ofN u key kind l]
    unfold ofN
    by_cases h : m.Unit = u
    · by_cases h6 : m.Kind = 6
      · rw [if_neg (by simp [h6])]
        simp [hit, h6]
      · rw [if_pos ⟨h, h6⟩]
        simp [h]
    · rw [if_neg (by simp [h])]
      simp [h]

theorem any_drop {α : Type} {l : List α} {p : α → Bool} {k : Nat} (h : k < l.length) : (l.drop k).any p = (p l[k] || (l.drop (k + 1)).any p) := by
  rw [List.drop_eq_getElem_cons h, List.any_cons]

theorem r_touched_ev (l : List Note) (hl : l.length ≤ 1000) (n : Nat) (hn : n ≤ l.length) (u : Int) (key : List UInt8) (kind : Int) : Ev (fun f => r_touched f l (n : Int) u key kind) (tch (l.take n) u key kind) := by
  unfold r_touched
  refine Ev.bind (r_since_ev l hl n hn u) ?_
  rcases sin_seg l u n hn with ⟨h1, h2⟩ | ⟨a, h1, h2, h3⟩
  · rw [h1]
    unfold tch
    rw [h2]
    refine Ev.bind (a := .inl ()) (EvL.ev (.stop (.of fun f => ?_))) (.of fun f => rfl)
    unfold r_touched_l1
    rfl
  · rw [h1, wrapS (by omega)]
    unfold tch
    rw [h3]
    simp only [any_ofN]
    have key' : EvL (fun f => r_touched_l1 f l (n : Int) u key kind (a : Int)) ((a + 1 : Nat) : Int) (if ((l.take n).drop (a + 1)).any (fun m => m.Unit == u && hit key kind (m.Key, m.Kind)) then .inr true else .inl ()) := by
      refine EvL.count (A := fun k => (k : Int)) (out := fun k => (if ((l.take n).drop k).any (fun m => m.Unit == u && hit key kind (m.Key, m.Kind)) then .inr true else .inl () : Unit ⊕ Bool)) n (fun k hk => ?_) (.of fun f => ?_) (a + 1) (by omega)
      · have hlt : k < l.length := by omega
        have hg := idx_nat (get_of_lt hlt)
        have hd := any_drop (l := l.take n) (p := fun m => m.Unit == u && hit key kind (m.Key, m.Kind)) (k := k) (by simp; omega)
        rw [List.getElem_take] at hd
        have hstep : ∀ f, r_touched_l1 f l (n : Int) u key kind (a : Int) (k : Int) = some (bif (l[k].Unit == u && hit key kind (l[k].Key, l[k].Kind)) then .inr (.inr true) else .inl ((k + 1 : Nat) : Int)) := fun f => by
          unfold r_touched_l1 hit
          simp only [ltT hk, hg, Option.bind_some, wrapS (show k ≤ 1000000000 by omega), show decide ((a : Int) ≥ 0) = true by simp, Bool.and_self, cond_true]
          cases b1 : (l[k].Unit == u) <;> cases b2 : (l[k].Key == key) <;> cases b3 : (l[k].Kind == 2) <;> cases b4 : (l[k].Kind == 3) <;> cases b5 : (kind == 0) <;> cases b6 : (l[k].Kind == kind) <;> rfl
        cases hv : (l[k].Unit == u && hit key kind (l[k].Key, l[k].Kind))
        · left
          refine ⟨.of fun f => ?_, ?_⟩
          · simp only [hstep, hv, cond_false]
          · rw [hd, hv, Bool.false_or]
        · right
          refine .of fun f => ?_
          simp only [hstep, hv, cond_true]
          rw [hd, hv, Bool.true_or, if_pos rfl]
      · unfold r_touched_l1
        rw [ltF, Bool.and_false]
        rw [List.drop_of_length_le (by simp; omega)]
        rfl
    refine Ev.bind key'.ev ?_
    cases ((l.take n).drop (a + 1)).any (fun m => m.Unit == u && hit key kind (m.Key, m.Kind))
    · exact Ev.pure _
    · exact Ev.pure _

def dup (p : List Note) (n : Note) : Bool := p.any (fun m => m.Unit != n.Unit && m.Kind != 6 && tch p m.Unit n.Key 0)

/-- What is wrong with a note behind a journal. -/
def wr (p : List Note) (n : Note) : Int :=
  if n.Kind = 6 then 0 else if (seg p n.Unit).isSome = (n.Kind == 1) then 9 else if n.Kind ≠ 2 ∧ n.Kind ≠ 3 then 0
  else if n.Kind = 3 ∧ tch p n.Unit n.Key 2 = false then 8 else if dup p n then 6 else 0

theorem wr_cases (p : List Note) (n : Note) : wr p n = 0 ∨ wr p n = 9 ∨ wr p n = 8 ∨ wr p n = 6 := by
  unfold wr
  repeat' split
  all_goals simp

theorem sin_some (l : List Note) (u : Int) (k : Nat) (hk : k ≤ l.length) : decide (sinF l u k ≥ 0) = (seg (l.take k) u).isSome := by
  rcases sin_seg l u k hk with ⟨h1, h2⟩ | ⟨a, h1, h2, h3⟩
  · rw [h1, h2]; rfl
  · rw [h1, h3]; simp

theorem r_wrong_ev (l : List Note) (hl : l.length ≤ 1000) (i : Nat) (hi : i < l.length) : Ev (fun f => r_wrong f l (i : Int)) (wr (l.take i) l[i]) := by
  unfold r_wrong
  refine Ev.some' (idx_nat (get_of_lt hi)) ?_
  refine Ev.bind (r_since_ev l hl i (by omega) _) ?_
  refine Ev.letJ ?_
  simp only [sin_some l _ i (by omega : i ≤ l.length)]
  generalize hx : l[i] = x
  generalize hp : l.take i = p
  have hdup : Ev (fun f => (iter (r_wrong_l1 f l (i : Int) x) f 0).bind (Sum.elim (fun v11 => some 0) (fun r12 => some r12))) (if dup p x then 6 else 0) := by
    have key : EvL (fun f => r_wrong_l1 f l (i : Int) x) ((0 : Nat) : Int) (if (p.drop 0).any (fun m => m.Unit != x.Unit && m.Kind != 6 && tch p m.Unit x.Key 0) then .inr 6 else .inl ()) := by
      refine EvL.count (A := fun k => (k : Int)) (out := fun k => (if (p.drop k).any (fun m => m.Unit != x.Unit && m.Kind != 6 && tch p m.Unit x.Key 0) then .inr 6 else .inl () : Unit ⊕ Int)) i (fun k hk => ?_) (.of fun f => ?_) 0 (by omega)
      · have hlt : k < l.length := by omega
        have hg := idx_nat (get_of_lt hlt)
        have hd := any_drop (l := p) (p := fun m => m.Unit != x.Unit && m.Kind != 6 && tch p m.Unit x.Key 0) (k := k) (by rw [← hp]; simp; omega)
        have hpk : p[k]'(by rw [← hp]; simp; omega) = l[k] := by subst hp; rw [List.getElem_take]
        rw [hpk] at hd
        have ht := r_touched_ev l hl i (by omega) l[k].Unit x.Key 0
        rw [hp] at ht
        have hstep : Ev (fun f => r_wrong_l1 f l (i : Int) x (k : Int)) (bif (l[k].Unit != x.Unit && l[k].Kind != 6 && tch p l[k].Unit x.Key 0) then .inr (.inr 6) else .inl ((k + 1 : Nat) : Int)) := by
          unfold r_wrong_l1
          simp only [ltT hk, hg, Option.bind_some, wrapS (show k ≤ 1000000000 by omega), cond_true]
          refine Ev.ite (fun c1 => Ev.ite (fun c2 => Ev.bind ht (Ev.ite (fun c3 => ?_) (fun c3 => ?_))) (fun c2 => ?_)) (fun c1 => ?_)
          · rw [c1, c2, c3]; exact Ev.pure _
          · rw [c1, c2, c3]; exact Ev.pure _
          · rw [c1, c2]; exact Ev.pure _
          · rw [c1]; exact Ev.pure _
        cases hv : (l[k].Unit != x.Unit && l[k].Kind != 6 && tch p l[k].Unit x.Key 0)
        · left
          rw [hv] at hstep
          refine ⟨hstep, ?_⟩
          rw [hd, hv, Bool.false_or]
        · right
          rw [hv] at hstep
          rw [hd, hv, Bool.true_or, if_pos rfl]
          exact hstep
      · unfold r_wrong_l1
        rw [ltF]
        rw [List.drop_of_length_le (by rw [← hp]; simp; omega)]
        rfl
    refine Ev.bind key.ev ?_
    rw [List.drop_zero]
    unfold dup
    cases p.any (fun m => m.Unit != x.Unit && m.Kind != 6 && tch p m.Unit x.Key 0)
    · exact Ev.pure _
    · exact Ev.pure _
  have ht := r_touched_ev l hl i (by omega) x.Unit x.Key 2
  rw [hp] at ht
  unfold wr
  refine Ev.ite (fun c => ?_) (fun c => Ev.ite (fun c2 => ?_) (fun c2 => Ev.ite (fun c3 => ?_) (fun c3 => Ev.ite (fun c4 => ?_) (fun c4 => ?_))))
  · rw [if_pos (by simpa using c)]; exact Ev.pure _
  · rw [if_neg (by simpa using c), if_pos (by simpa using c2)]; exact Ev.pure _
  · rw [if_neg (by simpa using c), if_neg (by simpa using c2), if_pos (by simpa using c3)]; exact Ev.pure _
  · have k3 : x.Kind = 3 := by simpa using c4
    rw [if_neg (by simpa using c), if_neg (by simpa using c2), if_neg (by simp [k3])]
    refine Ev.bind ht (Ev.ite (fun c5 => ?_) (fun c5 => ?_))
    · rw [if_pos ⟨k3, by simpa using c5⟩]; exact Ev.pure _
    · rw [if_neg (by simp only [k3, true_and]; simpa using c5)]; exact hdup
  · have k3 : x.Kind ≠ 3 := by simpa using c4
    rw [if_neg (by simpa using c), if_neg (by simpa using c2), if_neg (by simpa using c3), if_neg (fun h => k3 h.1)]
    exact hdup

/-- The first note that is wrong. -/
def fw : List Note → List Note → Option (Int × Int)
  | _, [] => none
  | p, n :: s => if wr p n ≠ 0 then some ((p.length : Int), wr p n) else fw (p ++ [n]) s

def wrongs (l : List Note) : Int × Int := if vNs l then (fw [] l).getD (-1, 0) else (0, 1)
def rightE (l : List Note) : Int := if vNs l then (if (fw [] l).isSome then 9 else 0) else 1

theorem fw_ne {p s : List Note} {r : Int × Int} (h : fw p s = some r) : r.2 = 9 ∨ r.2 = 8 ∨ r.2 = 6 := by
  induction s generalizing p with
  | nil => cases h
  | cons n s ih =>
    unfold fw at h
    split at h
    · cases h
      rename_i hne
      rcases wr_cases p n with h1 | h1 | h1 | h1
      · exact absurd h1 hne
      · exact .inl h1
      · exact .inr (.inl h1)
      · exact .inr (.inr h1)
    · exact ih h

theorem r_Wrong_ev (l : List Note) (hl : l.length ≤ 1000) : Ev (r_Wrong · l) (wrongs l) := by
  unfold r_Wrong
  refine Ev.bind (r_notes_ev l hl) ?_
  unfold wrongs
  refine Ev.ite (fun c => ?_) (fun c => ?_)
  · rw [if_neg (by simpa using c)]; exact Ev.pure _
  · rw [if_pos (by simpa using c)]
    have key : EvL (fun f => r_Wrong_l1 f l) ((0 : Nat) : Int) (match fw (l.take 0) (l.drop 0) with | none => .inl () | some r => .inr r) := by
      refine EvL.count (A := fun k => (k : Int)) (out := fun k => (match fw (l.take k) (l.drop k) with | none => .inl () | some r => .inr r : Unit ⊕ (Int × Int))) l.length (fun k hk => ?_) (.of fun f => ?_) 0 (by omega)
      · have hd := List.drop_eq_getElem_cons hk
        have hr := r_wrong_ev l hl k hk
        have hf : fw (l.take k) (l.drop k) = if wr (l.take k) l[k] ≠ 0 then some ((k : Int), wr (l.take k) l[k]) else fw (l.take (k + 1)) (l.drop (k + 1)) := by
          rw [hd, fw, take_succ' hk, List.length_take, Nat.min_eq_left (by omega)]
        by_cases hw : wr (l.take k) l[k] = 0
        · left
          refine ⟨?_, ?_⟩
          · unfold r_Wrong_l1
            refine Ev.t (ltT hk) (Ev.bind hr (Ev.f (by simp [hw]) ?_))
            rw [wrapS (by omega)]
            exact Ev.pure _
          · rw [hf, if_neg (by simp [hw])]
        · right
          unfold r_Wrong_l1
          refine Ev.t (ltT hk) (Ev.bind hr (Ev.t (by simp [hw]) ?_))
          rw [hf, if_pos hw]
          exact Ev.pure _
      · unfold r_Wrong_l1
        rw [ltF, List.drop_of_length_le (Nat.le_refl _)]
        rfl
    refine Ev.bind key.ev ?_
    rw [List.take_zero, List.drop_zero]
    cases fw [] l
    · exact Ev.pure _
    · exact Ev.pure _

theorem r_right_ev (l : List Note) (hl : l.length ≤ 1000) : Ev (r_right · l) (rightE l) := by
  unfold r_right
  refine Ev.bind (r_notes_ev l hl) ?_
  unfold rightE
  refine Ev.ite (fun c => ?_) (fun c => ?_)
  · rw [if_neg (by simpa using c)]; exact Ev.pure _
  · have c' : vNs l = true := by simpa using c
    rw [if_pos c']
    refine Ev.bind (r_Wrong_ev l hl) ?_
    unfold wrongs
    rw [if_pos c']
    cases h : fw [] l with
    | none => exact Ev.f rfl (Ev.pure _)
    | some r =>
      refine Ev.t ?_ (Ev.pure _)
      rcases fw_ne h with h | h | h <;> simp [h]

/-- The units that go on. -/
def opn (l : List Note) (k : Nat) : List Int := ((List.range k).map (fun (i : Nat) => ((i + 1 : Nat) : Int))).filter (fun u => (seg l u).isSome)

theorem r_Open_ev (l : List Note) (hl : l.length ≤ 1000) : Ev (r_Open · l) (if rightE l = 0 then (opn l 1000, 0) else ([], rightE l)) := by
  unfold r_Open
  refine Ev.bind (r_right_ev l hl) ?_
  refine Ev.ite (fun c => ?_) (fun c => ?_)
  · rw [if_neg (by simpa using c)]; exact Ev.pure _
  · rw [if_pos (by simpa using c)]
    have key : EvL (fun f => r_Open_l1 f l) (opn l 0, ((0 + 1 : Nat) : Int)) (opn l 1000) := by
      refine EvL.count (A := fun k => (opn l k, ((k + 1 : Nat) : Int))) (out := fun _ => opn l 1000) 1000 (fun k hk => .inl ⟨?_, rfl⟩) (.of fun f => ?_) 0 (by omega)
      · unfold r_Open_l1
        refine Ev.t (by simp; omega) ?_
        refine Ev.bind (r_since_ev l hl l.length (Nat.le_refl _) _) ?_
        have hlen : (opn l k).length ≤ k := by
          unfold opn
          refine Nat.le_trans (List.length_filter_le _ _) ?_
          simp
        have hs : opn l (k + 1) = opn l k ++ (if (seg l ((k + 1 : Nat) : Int)).isSome then [((k + 1 : Nat) : Int)] else []) := by
          unfold opn
          rw [List.range_succ, List.map_append, List.filter_append]
          simp only [List.map_cons, List.map_nil, List.filter_cons, List.filter_nil]
        have hss := sin_some l ((k + 1 : Nat) : Int) l.length (Nat.le_refl _)
        rw [List.take_length] at hss
        rw [wrapS (by omega), hs, ← hss]
        refine Ev.ite (fun c2 => ?_) (fun c2 => ?_)
        · refine Ev.chk ?_ ?_
          · simp only [List.length_append, List.length_singleton, decide_eq_true_eq]
            unfold room; omega
          · rw [if_pos c2]; exact Ev.pure _
        · rw [c2]
          simp only [Bool.false_eq_true, if_false, List.append_nil]
          exact Ev.pure _
      · unfold r_Open_l1
        simp
    refine Ev.bind (EvL.ev key) (Ev.pure _)
end Go.Sh
