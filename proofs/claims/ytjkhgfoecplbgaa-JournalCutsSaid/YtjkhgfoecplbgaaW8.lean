/- A journal may be cut where no unit goes on. -/
import Derived.Test.YtjkhgfoecplbgaaW7
set_option linter.all false
set_option autoImplicit true
set_option relaxedAutoImplicit true
set_option linter.unusedVariables false
set_option linter.unusedSimpArgs false
namespace Go.Sh

theorem seg_app {a : List Note} (ha : ∀ u, seg a u = none) (p : List Note) (u : Int) : seg (a ++ p) u = seg p u := by
  unfold seg
  rw [List.foldl_append]
  have := ha u
  unfold seg at this
  rw [this]

theorem tch_app {a : List Note} (ha : ∀ u, seg a u = none) (p : List Note) (u : Int) (k : List UInt8) (kd : Int) : tch (a ++ p) u k kd = tch p u k kd := by
  unfold tch
  rw [seg_app ha]

theorem dup_app {a : List Note} (ha : ∀ u, seg a u = none) (p : List Note) (n : Note) : dup (a ++ p) n = dup p n := by
  unfold dup
  rw [List.any_append]
  simp only [tch_app ha]
  cases h : a.any (fun m => m.Unit != n.Unit && m.Kind != 6 && tch p m.Unit n.Key 0)
  · rfl
  · obtain ⟨m, hm, hh⟩ := List.any_eq_true.1 h
    simp only [Bool.and_eq_true] at hh
    symm
    rw [Bool.true_or]
    have hs : ∃ sg, seg p m.Unit = some sg := by
      have := hh.2
      unfold tch at this
      cases h : seg p m.Unit
      · rw [h] at this; cases this
      · exact ⟨_, rfl⟩
    obtain ⟨sg, hs⟩ := hs
    obtain ⟨m', h1, h2, h3⟩ := seg_mem hs
    refine List.any_eq_true.2 ⟨m', h1, ?_⟩
    rw [h2]
    simp only [Bool.and_eq_true]
    exact ⟨⟨hh.1.1, by simpa using h3⟩, hh.2⟩

theorem wr_app {a : List Note} (ha : ∀ u, seg a u = none) (p : List Note) (n : Note) : wr (a ++ p) n = wr p n := by
  unfold wr
  rw [seg_app ha, tch_app ha, dup_app ha]

theorem fw_app {a : List Note} (ha : ∀ u, seg a u = none) : ∀ (s p : List Note), (fw (a ++ p) s).isSome = (fw p s).isSome
  | [], p => rfl
  | n :: s, p => by
    unfold fw
    rw [wr_app ha]
    split
    · rfl
    · rw [List.append_assoc]
      exact fw_app ha s (p ++ [n])

theorem fw_split : ∀ (a b p : List Note), fw p (a ++ b) = none → fw p a = none ∧ fw (p ++ a) b = none
  | [], b, p, h => ⟨rfl, by simpa using h⟩
  | n :: a, b, p, h => by
    rw [List.cons_append, fw] at h
    split at h
    · cases h
    · rename_i hw
      obtain ⟨h1, h2⟩ := fw_split a b (p ++ [n]) h
      refine ⟨?_, by simpa using h2⟩
      rw [fw, if_neg hw]
      exact h1

theorem right_iff {l : List Note} : rightE l = 0 ↔ vNs l = true ∧ fw [] l = none := by
  unfold rightE
  cases h : vNs l
  · simp
  · cases h2 : fw [] l <;> simp

/-- What is left of a right journal is right, where no unit goes on. -/
theorem right_rest {a b : List Note} (h : rightE (a ++ b) = 0) (ha : ∀ u, seg a u = none) : rightE b = 0 := by
  obtain ⟨h1, h2⟩ := right_iff.1 h
  refine right_iff.2 ⟨?_, ?_⟩
  · unfold vNs at h1 ⊢
    simp only [Bool.and_eq_true, decide_eq_true_eq, List.length_append, List.all_append] at h1 ⊢
    exact ⟨by omega, h1.2.2⟩
  · have h3 := (fw_split a b [] h2).2
    have h4 := fw_app ha b []
    rw [List.append_nil] at h4
    rw [List.nil_append] at h3
    rw [h3] at h4
    cases h5 : fw [] b
    · rfl
    · rw [h5] at h4; cases h4

def resets (u : Int) (m : Note) : Prop := m.Unit = u ∧ (m.Kind = 1 ∨ m.Kind = 4 ∨ m.Kind = 5 ∨ m.Kind = 7)

theorem seg_stays {u : Int} : ∀ (r : List Note) (s : Option (List (List UInt8 × Int))), s.isSome → (∀ m ∈ r, ¬ resets u m) → (r.foldl (segS u) s).isSome
  | [], s, h, _ => h
  | m :: r, s, h, hn => by
    rw [List.foldl_cons]
    refine seg_stays r _ ?_ fun m' hm => hn m' (List.mem_cons_of_mem _ hm)
    have := hn m List.mem_cons_self
    unfold resets at this
    unfold segS
    split
    · exact h
    · rename_i h1
      rw [if_neg (fun e => this ⟨Classical.not_not.1 fun e' => h1 (.inl e'), by omega⟩), if_neg (fun e => this ⟨Classical.not_not.1 fun e' => h1 (.inl e'), by omega⟩)]
      simpa using h

theorem cnt_app {u : Int} : ∀ (r b : List Note), (∃ m ∈ r, resets u m) → cntJ (r ++ b) u = cntJ r u
  | [], b, h => by obtain ⟨m, hm, _⟩ := h; cases hm
  | n :: r, b, h => by
    rw [List.cons_append, cntJ, cntJ]
    by_cases hu : n.Unit = u
    · rw [if_pos hu, if_pos hu]
      split
      · rfl
      · split
        · rfl
        · rename_i h1 h2
          refine cnt_app r b ?_
          obtain ⟨m, hm, hr⟩ := h
          rcases List.mem_cons.1 hm with rfl | hm
          · unfold resets at hr; omega
          · exact ⟨m, hm, hr⟩
    · rw [if_neg hu, if_neg hu]
      refine cnt_app r b ?_
      obtain ⟨m, hm, hr⟩ := h
      rcases List.mem_cons.1 hm with rfl | hm
      · exact absurd hr.1 hu
      · exact ⟨m, hm, hr⟩

theorem redo_app (b : List Note) : ∀ (r p : List Note), fw p r = none → (∀ u, seg (p ++ r) u = none) → redoS (r ++ b) = redoS r ++ redoS b
  | [], p, _, _ => rfl
  | n :: r, p, h, hs => by
    rw [fw] at h
    split at h
    · cases h
    · rename_i hw
      have hw : wr p n = 0 := Classical.not_not.1 hw
      have ih := redo_app b r (p ++ [n]) h (by simpa using hs)
      rw [List.cons_append, redoS, redoS]
      by_cases k3 : n.Kind = 3
      · have hc : cntJ (r ++ b) n.Unit = cntJ r n.Unit := by
          refine cnt_app r b (Classical.byContradiction fun hn => ?_)
          have h1 : (seg p n.Unit).isSome = true := by
            unfold wr at hw
            rw [if_neg (by omega)] at hw
            split at hw
            · omega
            · rename_i h2
              cases h : (seg p n.Unit).isSome
              · rw [h] at h2; simp [k3] at h2
              · rfl
          have h2 : (segS n.Unit (seg p n.Unit) n).isSome = true := by
            unfold segS
            rw [if_neg (by omega), if_neg (by omega), if_neg (by omega)]
            simpa using h1
          have h3 := seg_stays r _ h2 fun m hm hr => hn ⟨m, hm, hr⟩
          have h4 := hs n.Unit
          unfold seg at h4 h3
          rw [List.foldl_append, List.foldl_cons] at h4
          rw [h4] at h3
          cases h3
        rw [hc, ih]
        split
        · rfl
        · rfl
      · rw [if_neg (fun h => k3 h.1), if_neg (fun h => k3 h.1), ih]

theorem ord_apply {s l : List Image} (hs : OrdP s) (hl : l.all okI = true) (hlen : (l.foldl (fun s x => put1 x s) s).length ≤ 500) : OrdP (l.foldl (fun s x => put1 x s) s) := by
  refine ⟨fun x hx => ?_, fun x hx => ?_, foldl_srt l s hs.srt, hlen⟩
  · rcases foldl_mem l s x hx with h | h
    · exact List.all_eq_true.1 hl x h.1
    · exact hs.ok x h
  · rcases foldl_mem l s x hx with h | h
    · exact h.2
    · exact hs.has x h

/-- P25.5. -/
theorem cuts {s : List Image} {a b : List Note} (hr : rightE (a ++ b) = 0) (hra : rightE a = 0) (ha : ∀ u, seg a u = none) :
    ((stateR s a).2 ≠ 0 → (stateR s (a ++ b)).2 ≠ 0 ∨ (stateR s a).2 = 4) ∧ ((stateR s a).2 = 0 → stateR (stateR s a).1 b = stateR s (a ++ b)) := by
  have hrb := right_rest hr ha
  have happ : redoS (a ++ b) = redoS a ++ redoS b := redo_app b a [] (right_iff.1 hra).2 (by simpa using ha)
  unfold stateR
  rw [if_neg (by simp [hr] : ¬ rightE (a ++ b) ≠ 0), if_neg (by simp [hra] : ¬ rightE a ≠ 0), if_neg (by simp [hrb] : ¬ rightE b ≠ 0), happ]
  cases ho : ordB s
  · simp
  · simp only [Bool.true_eq_false, if_false]
    unfold applyR
    rw [ho, List.all_append, List.foldl_append]
    cases h1 : (redoS a).all okI
    · simp
    · simp only [Bool.true_eq_false, or_self, if_false, Bool.true_and, false_or]
      have hos := (ordB_iff s).1 ho
      by_cases hbig : ((redoS a).foldl (fun s x => put1 x s) s).length > 500
      · rw [if_pos hbig]
        refine ⟨fun _ => .inr rfl, fun h => by cases h⟩
      · rw [if_neg hbig]
        refine ⟨fun h => absurd rfl h, fun _ => ?_⟩
        have := ord_apply hos h1 (by omega)
        rw [(ordB_iff _).2 this]
        simp only [Bool.true_eq_false, if_false, false_or]

/-! ## The law -/
theorem notes_ev (l : List Note) : ∃ b, Ev (l_Notes · l) b ∧ (b = true → l.length ≤ 60) := by
  have key : ∀ (d k : Nat) (n : Int), k + d = min l.length 60 → ∃ v, EvL (fun f => l_Notes_l1 f l) (n, (k : Int)) v := by
    intro d
    induction d with
    | zero =>
      intro k n hk
      refine ⟨n, .stop (.of fun f => ?_)⟩
      unfold l_Notes_l1
      have : (decide ((k : Int) < (l.length : Int)) && decide ((k : Int) < 60)) = false := by simp; omega
      simp only [this, cond_false]
    | succ d ih =>
      intro k n hk
      have hlt : k < l.length := by omega
      obtain ⟨v, hv⟩ := ih (k + 1) (IntKind.wrap .i64 (IntKind.wrap .i64 (n + (l[k].Key.length : Int)) + (l[k].Text.length : Int))) (by omega)
      refine ⟨v, .next (.of fun f => ?_) hv⟩
      unfold l_Notes_l1
      have : (decide ((k : Int) < (l.length : Int)) && decide ((k : Int) < 60)) = true := by simp; omega
      simp only [this, cond_true, idx_nat (get_of_lt hlt), Option.bind_some, wrapS (show k ≤ 1000000000 by omega)]
  obtain ⟨v, hv⟩ := key (min l.length 60) 0 0 (by omega)
  refine ⟨decide (l.length ≤ 60) && decide (v ≤ 6000), ?_, fun h => ?_⟩
  · unfold l_Notes
    refine Ev.bind hv.ev (.of fun f => ?_)
    simp only [c60]
  · simp only [Bool.and_eq_true, decide_eq_true_eq] at h; exact h.1

theorem images_ev (l : List Image) : ∃ b, Ev (l_Images · l) b ∧ (b = true → l.length ≤ 60) := by
  have key : ∀ (d k : Nat) (n : Int), k + d = min l.length 60 → ∃ v, EvL (fun f => l_Images_l1 f l) (n, (k : Int)) v := by
    intro d
    induction d with
    | zero =>
      intro k n hk
      refine ⟨n, .stop (.of fun f => ?_)⟩
      unfold l_Images_l1
      have : (decide ((k : Int) < (l.length : Int)) && decide ((k : Int) < 60)) = false := by simp; omega
      simp only [this, cond_false]
    | succ d ih =>
      intro k n hk
      have hlt : k < l.length := by omega
      obtain ⟨v, hv⟩ := ih (k + 1) (IntKind.wrap .i64 (IntKind.wrap .i64 (n + (l[k].Key.length : Int)) + (l[k].Text.length : Int))) (by omega)
      refine ⟨v, .next (.of fun f => ?_) hv⟩
      unfold l_Images_l1
      have : (decide ((k : Int) < (l.length : Int)) && decide ((k : Int) < 60)) = true := by simp; omega
      simp only [this, cond_true, idx_nat (get_of_lt hlt), Option.bind_some, wrapS (show k ≤ 1000000000 by omega)]
  obtain ⟨v, hv⟩ := key (min l.length 60) 0 0 (by omega)
  refine ⟨decide (l.length ≤ 60) && decide (v ≤ 6000), ?_, fun h => ?_⟩
  · unfold l_Images
    refine Ev.bind hv.ev (.of fun f => ?_)
    simp only [c60]
  · simp only [Bool.and_eq_true, decide_eq_true_eq] at h; exact h.1

theorem same_ev (l : List Image) (hl : l.length ≤ 1000000) : Ev (fun f => r_SameImages f l l) true := by
  unfold r_SameImages
  refine Ev.f (by simp) ?_
  have key : EvL (fun f => r_SameImages_l1 f l l) ((0 : Nat) : Int) (.inl ()) := by
    refine EvL.count (A := fun k => (k : Int)) (out := fun k => (.inl () : Unit ⊕ Bool)) l.length (fun k hk => .inl ⟨.of fun f => ?_, rfl⟩) (.of fun f => ?_) 0 (by omega)
    · unfold r_SameImages_l1
      simp only [ltT hk, cond_true, idx_nat (get_of_lt hk), Option.bind_some, wrapS (show k ≤ 1000000000 by omega), BEq.rfl, Bool.and_self, Bool.not_true, cond_false]
    · unfold r_SameImages_l1
      simp only [ltF, cond_false]
  exact Ev.bind key.ev (Ev.pure _)

def ex1 : List Note := [(⟨1, 1, [], false, []⟩ : Note), (⟨2, 1, [120], false, []⟩ : Note), (⟨3, 1, [120], true, [97]⟩ : Note), (⟨5, 1, [], false, []⟩ : Note)]

theorem awake_ev : Ev (fun f => l_awake f) true := by
  unfold l_awake
  have h : stateR [] ex1 = ([⟨[120], true, [97]⟩], 0) := by decide
  have h1 := j_State_ev [] ex1 (by simp)
  rw [h] at h1
  exact Ev.bind h1 (.of fun f => rfl)

theorem stateR_len (s : List Image) (l : List Note) : (stateR s l).1.length ≤ 500 := by
  unfold stateR applyR
  split
  · simp
  · split
    · simp
    · split
      · simp
      · split
        · simp
        · simp; omega

theorem opn_nil {l : List Note} (hr : rightE l = 0) (h : opn l 1000 = []) (u : Int) : seg l u = none := by
  cases hs : seg l u with
  | none => rfl
  | some sg =>
    exfalso
    obtain ⟨m, hm, rfl, hk⟩ := seg_mem hs
    have hv := (right_iff.1 hr).1
    unfold vNs at hv
    simp only [Bool.and_eq_true, List.all_eq_true] at hv
    have hm1 := hv.2 m hm
    have hu : 1 ≤ m.Unit ∧ m.Unit ≤ 1000 := by
      unfold vN at hm1
      rw [if_neg hk] at hm1
      split at hm1
      · unfold vU at hm1
        simp only [Bool.and_eq_true, decide_eq_true_eq] at hm1
        exact hm1.1
      · split at hm1
        · unfold vPlain vU at hm1
          simp only [Bool.and_eq_true, decide_eq_true_eq] at hm1
          exact hm1.1.1.1
        · cases hm1
    have : m.Unit ∈ opn l 1000 := by
      unfold opn
      rw [List.mem_filter]
      refine ⟨List.mem_map.2 ⟨(m.Unit - 1).toNat, List.mem_range.2 (by omega), by omega⟩, by rw [hs]; rfl⟩
    rw [h] at this
    cases this

theorem cuts_ev (s : List Image) (l : List Note) (at' : Int) : Ev (fun f => l_JournalCuts f s l at') true := by
  unfold l_JournalCuts
  have haw : Ev (fun f => (l_awake f).bind fun r5 => some r5) true := Ev.bind awake_ev (Ev.pure _)
  obtain ⟨b1, h1, h1'⟩ := notes_ev l
  obtain ⟨b2, h2, h2'⟩ := images_ev s
  refine Ev.letJ (Ev.bind h1 (Ev.ite (fun c1 => haw) (fun c1 => Ev.bind h2 (Ev.ite (fun c2 => haw) (fun c2 => Ev.ite (fun c3 => haw) (fun c3 => ?_))))))
  have hl := h1' (by simpa using c1)
  simp only [Bool.or_eq_false_iff, Bool.not_eq_false', decide_eq_false_iff_not] at c2
  have hs := h2' c2.1
  have c3 := of_decide_eq_false c3
  obtain ⟨n, rfl⟩ : ∃ n : Nat, at' = n := ⟨at'.toNat, by omega⟩
  have e1 : sl l 0 (n : Int) = l.take n := by unfold sl; simp
  have e2 : sl l (n : Int) (l.length : Int) = l.drop n := by unfold sl; simp
  have o1 : slOk l 0 (n : Int) = true := by unfold slOk; simp; omega
  have o2 : slOk l (n : Int) (l.length : Int) = true := by unfold slOk; simp; omega
  rw [e1, e2, o1, o2]
  refine Ev.chk rfl (Ev.bind (r_Open_ev (l.take n) (by simp; omega)) (Ev.letJ ?_))
  by_cases hra : rightE (l.take n) = 0
  · rw [if_pos hra]
    refine Ev.f rfl (Ev.ite (fun c => haw) (fun c => ?_))
    have hop : opn (l.take n) 1000 = [] := by
      cases h : opn (l.take n) 1000
      · rfl
      · rw [h] at c; simp at c
    have hno := opn_nil hra hop
    refine Ev.bind (r_Open_ev l (by omega)) ?_
    by_cases hr : rightE l = 0
    · rw [if_pos hr]
      have hr' : rightE (l.take n ++ l.drop n) = 0 := by rw [List.take_append_drop]; exact hr
      have hcut := cuts (s := s) hr' hra hno
      rw [List.take_append_drop] at hcut
      refine Ev.f rfl (Ev.bind (j_State_ev s l (by omega)) (Ev.chk rfl (Ev.bind (j_State_ev s _ (by omega)) ?_)))
      refine Ev.ite (fun c5 => ?_) (fun c5 => ?_)
      · refine Ev.letJ ?_
        have h5 : (stateR s (l.take n)).2 ≠ 0 := by simpa using c5
        refine Ev.t ?_ (Ev.bind awake_ev (Ev.pure _))
        rcases hcut.1 h5 with h | h
        · simp [h]
        · simp [h]
      · have h5 : (stateR s (l.take n)).2 = 0 := by simpa using c5
        have h6 := hcut.2 h5
        have hlen := stateR_len s (l.take n)
        have hlen2 := stateR_len s l
        refine Ev.chk rfl (Ev.bind (j_State_ev _ _ (by omega)) ?_)
        rw [h6]
        refine Ev.t (by simp) (Ev.bind (same_ev _ (by omega)) (Ev.t rfl haw))
    · rw [if_neg hr]
      exact Ev.t (by simpa using hr) haw
  · rw [if_neg hra]
    exact Ev.t (by simpa using hra) haw
end Go.Sh
