/- A region that draws its order: a move that nobody waits for but the end's chain may be taken first. -/
import Derived.Test.YtjkhgfoecplbgaaSh21
set_option linter.all false
set_option autoImplicit true
set_option relaxedAutoImplicit true
set_option linter.unusedVariables false
set_option linter.unusedSimpArgs false
namespace Go.Sh

/-- Only the way on. -/
def NQ (R : Act → World → Prop) : Exit → Act → World → Prop := fun e a w => e = .normal ∧ R a w

theorem NQ.out {R : Act → World → Prop} : ¬ LetsOut (NQ R) := fun ⟨_, _, h, _⟩ => by cases h

section
variable {P : Program} {ops : Array Oper} {md : Region.Mode} {R : Act → World → Prop}

theorem defers_put (a : Act) (ds : List Deferred) (d : Option Tmp) (v : Value) : ({ a.put d v with defers := ds } : Act) = ({ a with defers := ds } : Act).put d v := by cases d <;> rfl
theorem put_defers' (a : Act) (d : Option Tmp) (v : Value) : (a.put d v).defers = a.defers := by cases d <;> rfl

theorem eval_defers (a : Act) (ds : List Deferred) (x : Operand) : ({ a with defers := ds } : Act).eval x = a.eval x := by cases x <;> rfl

theorem wpOp_put {j : Nat} {oi oj : Oper} {x : Operand} {v : Value} (hj : ops[j]? = some oj) (hop : oi.op = .move x) (hap : oi.apart ops oj = true) (hsj : ∀ cs b, oj.op ≠ .select cs b) {K : Act → World → Prop} {a : Act} {w : World}
    (hv : a.eval x = v) (h : wpOp P ops (NQ R) j K (a.put oi.dst v) w) : wpOp P ops (NQ R) j (fun a' w' => a'.eval x = v ∧ K (a'.put oi.dst v) w') a w := by
  obtain ⟨h1, h2, h3⟩ := Oper.apart_spec hap
  have keep : ∀ u, (a.put oj.dst u).eval x = v := fun u => by
    rw [Act.eval_put fun d hd e => h3 d hd ?_]
    · exact hv
    · subst e
      exact List.mem_append_left _ (List.mem_filterMap.2 ⟨.tmp d, by simp [hop, Op.operands], rfl⟩)
  have keep' : ∀ u ds, (({ a with defers := ds } : Act).put oj.dst u).eval x = v := fun u ds => by
    rw [← defers_put, eval_defers]; exact keep u
  unfold wpOp at *
  simp only [hj] at *
  rw [wanted_put oj a oi.dst v h1] at h
  split
  · rename_i hw
    simp only [hw, if_true] at h
    refine .inl ?_
    rcases h with h | h
    · unfold Oper.wp at *
      rw [execOp_put oj hsj a oi.dst v h1] at h
      generalize (execOp a.eval oj).run P w = r at *
      cases r with
      | ok n w' =>
        cases n <;> simp only [Oper.upon] at h ⊢
        case value u => exact ⟨keep u, by rw [← Act.put_comm a v u h2]; exact h⟩
        case skip => exact ⟨keep _, by rw [← Act.put_comm a v undef h2]; exact h⟩
        case defer d =>
          refine ⟨keep' _ _, ?_⟩
          rw [put_defers', defers_put] at h
          rw [← Act.put_comm _ v undef h2]; exact h
        case enter f args =>
          refine h.mono fun e w'' hh => ?_
          cases e with
          | returned u => exact ⟨keep u, by rw [← Act.put_comm a v u h2]; exact hh⟩
          | panicked chain => exact absurd hh.1 (by simp)
          | outgrown => exact absurd hh NQ.out
        case row row args => exact h.mono fun u w'' hh => ⟨keep u, by rw [← Act.put_comm a v u h2]; exact hh⟩
      | halt y w' =>
        cases y <;> simp only [Oper.upon] at h ⊢
        exact absurd h.1 (by simp)
    · exact absurd h.2 NQ.out
  · rename_i hw
    simp only [hw] at h
    exact ⟨keep _, by rw [← Act.put_comm a v undef h2]; exact h⟩

/-- **A MOVE MAY BE TAKEN FIRST.** -/
theorem wpAny_move {i : Nat} {oi : Oper} {x : Operand} (hi : ops[i]? = some oi) (hop : oi.op = .move x) (hg : oi.guard = none) (hsel : ∀ (j : Nat) (o : Oper) cs b, ops[j]? = some o → o.op ≠ .select cs b) :
    ∀ (fuel : Nat) (listed : Array Bool) (a : Act) (w : World),
      (∀ j oj, ops[j]? = some oj → j ≠ i → listed.getD j true = false → (∀ e ∈ oj.after, Region.binds md e = true → e.on ≠ i) → oi.apart ops oj = true) →
      i ∈ Region.ready md ops listed →
      wpAny P md ops (NQ R) fuel (listed.setIfInBounds i true) (a.put oi.dst (a.eval x)) w → wpAny P md ops (NQ R) (fuel + 1) listed a w := by
  have one : ∀ (K : Act → World → Prop) (a : Act) (w : World), K (a.put oi.dst (a.eval x)) w → wpOp P ops (NQ R) i K a w := fun K a w h => by
    unfold wpOp
    simp only [hi]
    have hw : Region.wanted oi (yielded ops a.tmps) = true := by unfold Region.wanted; rw [hg]
    rw [if_pos hw]
    refine .inl ?_
    unfold Oper.wp
    have : (execOp a.eval oi).run P w = .ok (.value (a.eval x)) w := by unfold execOp; rw [hop]; rfl
    rw [this, Oper.upon_value]
    exact h
  intro fuel
  induction fuel with
  | zero =>
    intro listed a w _ hr H
    refine ⟨fun h => (by rw [h] at hr; cases hr), fun j hj => ?_⟩
    by_cases hji : j = i
    · subst hji; exact one _ a w H
    · have := ready_mono hj hji
      rw [H.1] at this
      cases this
  | succ fuel ih =>
    intro listed a w hfree hr H
    refine ⟨fun h => (by rw [h] at hr; cases hr), fun j hj => ?_⟩
    by_cases hji : j = i
    · subst hji; exact one _ a w H
    · have h1 := H.2 j (ready_mono hj hji)
      obtain ⟨hjun, oj, hoj, hall⟩ := mem_ready.1 hj
      have hnot : ∀ e ∈ oj.after, Region.binds md e = true → e.on ≠ i := fun e he hb heq => by
        have h1 := hall e he hb
        have h0 := (mem_ready.1 hr).1
        rw [heq] at h1
        rcases Nat.lt_or_ge i listed.size with h' | h'
        · simp [h'] at h0 h1; rw [h0] at h1; cases h1
        · simp [Array.getElem?_eq_none h'] at h1
      have h2 := wpOp_put hoj hop (hfree j oj hoj hji hjun hnot) (fun cs b => hsel j oj cs b hoj) rfl h1
      have hfree' : ∀ k ok, ops[k]? = some ok → k ≠ i → (listed.setIfInBounds j true).getD k true = false →
          (∀ e ∈ ok.after, Region.binds md e = true → e.on ≠ i) → oi.apart ops ok = true := fun k ok hk hki hun hno => by
        refine hfree k ok hk hki ?_ hno
        by_cases hjk : j = k
        · subst hjk; exact hjun
        · rw [getD_set_ne true hjk] at hun; exact hun
      refine wpOp_mono (fun a' w' h3 => ih (listed.setIfInBounds j true) a' w' hfree' (ready_mono hr (Ne.symm hji)) ?_) h2
      obtain ⟨h3, h4⟩ := h3
      rw [Array.setIfInBounds_comm _ _ hji, h3]
      exact h4
end
end Go.Sh
namespace Go.Sh
section
variable {P : Program} {ops : Array Oper} {md : Region.Mode} {w : World} {hds : List Nat} {t0 : Nat} {ts : List Nat}

def sinkH (md : Region.Mode) (ops : Array Oper) (hds : List Nat) (t0 : Nat) : Bool :=
  hds.all fun i => (hds.any fun j => decide (i < j) && Region.waitsFor md ops j i) || Region.waitsFor md ops t0 i

def chainH (md : Region.Mode) (ops : Array Oper) : Nat → List Nat → Bool
  | _, [] => true
  | t, t' :: ts => Region.waitsFor md ops t' t && chainH md ops t' ts

theorem chainH_pred : ∀ {ts : List Nat} {t0 t : Nat}, chainH md ops t0 ts = true → t ∈ ts → ∃ t', t' ∈ t0 :: ts ∧ Region.waitsFor md ops t t' = true
  | [], _, _, _, h => by simp at h
  | a :: ts, t0, t, hc, h => by
    simp only [chainH, Bool.and_eq_true] at hc
    rcases List.mem_cons.1 h with rfl | h
    · exact ⟨t0, by simp, hc.1⟩
    · obtain ⟨t', h1, h2⟩ := chainH_pred hc.2 h
      exact ⟨t', List.mem_cons_of_mem _ h1, h2⟩

/-- All is listed but heads and the tail; what is listed has all that it waited for. -/
structure HInv (md : Region.Mode) (ops : Array Oper) (hds : List Nat) (t0 : Nat) (ts : List Nat) (listed : Array Bool) : Prop where
  size : listed.size = ops.size
  closed : ∀ j oj, ops[j]? = some oj → listed.getD j false = true → ∀ e ∈ oj.after, Region.binds md e = true → listed.getD e.on false = true
  tail : ∀ t, t ∈ t0 :: ts → listed.getD t true = false
  rest : ∀ i, i < ops.size → i ∉ hds → i ∉ t0 :: ts → listed.getD i false = true

theorem HInv.set {i : Nat} {listed : Array Bool} (inv : HInv md ops hds t0 ts listed) (hi : i ∈ Region.ready md ops listed) (hin : i ∉ t0 :: ts) : HInv md ops hds t0 ts (listed.setIfInBounds i true) := by
  obtain ⟨_, oi, hoi, hall⟩ := mem_ready.1 hi
  refine ⟨by simp [inv.size], fun j oj hj hl e he hb => ?_, fun t ht => ?_, fun k hk h1 h2 => getD_set_true (inv.rest k hk h1 h2)⟩
  · by_cases hij : i = j
    · subst hij
      have : oj = oi := Option.some.inj (hj.symm.trans hoi)
      subst this
      exact getD_set_true (hall e he hb)
    · rw [getD_set_ne false hij] at hl
      exact getD_set_true (inv.closed j oj hj hl e he hb)
  · rw [getD_set_ne true (fun (e : i = t) => hin (by rw [e]; exact ht))]; exact inv.tail t ht

theorem tail_waitsH {listed : Array Bool} (hs : sinkH md ops hds t0 = true) (hc : chainH md ops t0 ts = true) (inv : HInv md ops hds t0 ts listed) :
    ∀ (d i : Nat), ops.size - i = d → i ∈ hds → listed.getD i true = false → ∀ t, t ∈ t0 :: ts → t ∉ Region.ready md ops listed := by
  intro d
  induction d using Nat.strongRecOn with
  | _ d ih =>
    intro i hd hi hun t ht hr
    obtain ⟨_, ot, hot, hall⟩ := mem_ready.1 hr
    have block : ∀ k, listed.getD k true = false → Region.waitsFor md ops t k = true → False := fun k hk hw => by
      obtain ⟨o', ho', e, he, hb, hon⟩ := Region.waitsFor_spec hw
      have : o' = ot := Option.some.inj (ho'.symm.trans hot)
      subst this
      have h2 := hall e he hb
      rw [hon, getD_both hk] at h2
      cases h2
    rcases List.mem_cons.1 ht with rfl | ht'
    · have h1 := List.all_eq_true.1 hs i hi
      rw [Bool.or_eq_true] at h1
      rcases h1 with h1 | h1
      · obtain ⟨j, hj, hj2⟩ := List.any_eq_true.1 h1
        simp only [Bool.and_eq_true, decide_eq_true_eq] at hj2
        obtain ⟨oj, hoj, e, he, hb, hon⟩ := Region.waitsFor_spec hj2.2
        have hjs : j < ops.size := (Array.getElem?_eq_some_iff.1 hoj).1
        cases hl : listed.getD j false with
        | true =>
          have h2 := inv.closed j oj hoj hl e he hb
          rw [hon, getD_both hun] at h2
          cases h2
        | false => exact ih (ops.size - j) (by omega) j rfl hj (getD_in (by rw [inv.size]; exact hjs) hl) t ht hr
      · exact block i hun h1
    · obtain ⟨t', h1, h2⟩ := chainH_pred hc ht'
      exact block t' (inv.tail t' h1) h2

theorem ready_head {listed : Array Bool} (hs : sinkH md ops hds t0 = true) (hc : chainH md ops t0 ts = true) (inv : HInv md ops hds t0 ts listed) {i : Nat} (hi : i ∈ hds) (hun : listed.getD i true = false) {j : Nat} (hj : j ∈ Region.ready md ops listed) :
    j ∈ hds ∧ j ∉ t0 :: ts := by
  have h1 : j ∉ t0 :: ts := fun h => tail_waitsH hs hc inv _ i rfl hi hun j h hj
  refine ⟨Classical.byContradiction fun h2 => ?_, h1⟩
  obtain ⟨h3, o, ho, -⟩ := mem_ready.1 hj
  have := inv.rest j (Array.getElem?_eq_some_iff.1 ho).1 h2 h1
  rw [getD_both h3] at this
  cases this

def wpAnyH (P : Program) (md : Region.Mode) (ops : Array Oper) (w : World) (hds : List Nat) (L : Array Bool → Act → Prop) : Nat → Array Bool → Act → Prop
  | 0, listed, a => L listed a
  | f + 1, listed, a => Region.ready md ops listed ≠ [] ∧ ∀ i ∈ Region.ready md ops listed, i ∈ hds ∧ stOp P ops w i (wpAnyH P md ops w hds L f (listed.setIfInBounds i true)) a

theorem wpAny_of_headH {g : Nat} {L : Array Bool → Act → Prop} {Q' : Exit → Act → World → Prop} (hL : ∀ listed a, L listed a → wpAny P md ops Q' g listed a w) :
    ∀ (f : Nat) (listed : Array Bool) (a : Act), wpAnyH P md ops w hds L f listed a → wpAny P md ops Q' (f + g) listed a w
  | 0, listed, a, h => by rw [Nat.zero_add]; exact hL _ _ h
  | f + 1, listed, a, h => by
    rw [show f + 1 + g = (f + g) + 1 by omega]
    exact ⟨fun h0 => absurd h0 h.1, fun i hi => wpOp_of_stOp (fun a' h' => wpAny_of_headH hL f _ a' h') (h.2 i hi).2⟩

theorem wpAnyH_first {i : Nat} {oi : Oper} {v : Value} {L : Array Bool → Act → Prop} (hi : ops[i]? = some oi) (hsel : ∀ (j : Nat) (o : Oper) cs b, ops[j]? = some o → o.op ≠ .select cs b)
    (hs : sinkH md ops hds t0 = true) (hc : chainH md ops t0 ts = true) (hin : i ∈ hds) (hdone : ∀ listed a, L listed a → ∀ j ∈ Region.ready md ops listed, j ∈ t0 :: ts) :
    ∀ (f : Nat) (listed : Array Bool) (a : Act), HInv md ops hds t0 ts listed →
      (∀ j oj, ops[j]? = some oj → j ≠ i → listed.getD j true = false → (∀ e ∈ oj.after, Region.binds md e = true → e.on ≠ i) → oi.apart ops oj = true) →
      i ∈ Region.ready md ops listed → YieldsAt P ops w oi v a →
      wpAnyH P md ops w hds L f (listed.setIfInBounds i true) (a.put oi.dst v) → wpAnyH P md ops w hds L (f + 1) listed a := by
  intro f
  induction f with
  | zero =>
    intro listed a inv _ hr hy H
    have hun := (mem_ready.1 hr).1
    refine ⟨fun h => (by rw [h] at hr; cases hr), fun j hj => ?_⟩
    obtain ⟨hjh, hjt⟩ := ready_head hs hc inv hin hun hj
    refine ⟨hjh, ?_⟩
    by_cases hji : j = i
    · subst hji; exact hy.stOp hi H
    · exact absurd (hdone _ _ H j (ready_mono hj hji)) hjt
  | succ f ih =>
    intro listed a inv hfree hr hy H
    have hun := (mem_ready.1 hr).1
    refine ⟨fun h => (by rw [h] at hr; cases hr), fun j hj => ?_⟩
    obtain ⟨hjh, hjt⟩ := ready_head hs hc inv hin hun hj
    refine ⟨hjh, ?_⟩
    by_cases hji : j = i
    · subst hji; exact hy.stOp hi H
    · have h1 := (H.2 j (ready_mono hj hji)).2
      obtain ⟨hjun, oj, hoj, hall⟩ := mem_ready.1 hj
      have hnot : ∀ e ∈ oj.after, Region.binds md e = true → e.on ≠ i := fun e he hb heq => by
        have h1 := hall e he hb
        rw [heq, getD_both hun] at h1
        cases h1
      have h2 := stOp_put hoj (hfree j oj hoj hji hjun hnot) (fun cs b => hsel i oi cs b hi) (fun cs b => hsel j oj cs b hoj) hy h1
      have hfree' : ∀ k ok, ops[k]? = some ok → k ≠ i → (listed.setIfInBounds j true).getD k true = false →
          (∀ e ∈ ok.after, Region.binds md e = true → e.on ≠ i) → oi.apart ops ok = true := fun k ok hk hki hun hno => by
        refine hfree k ok hk hki ?_ hno
        by_cases hjk : j = k
        · subst hjk; exact hjun
        · rw [getD_set_ne true hjk] at hun; exact hun
      refine stOp_mono (fun a' h3 => ih (listed.setIfInBounds j true) a' (inv.set hj hjt) hfree' (ready_mono hr (Ne.symm hji)) h3.1 ?_) h2
      rw [Array.setIfInBounds_comm _ _ hji]
      exact h3.2

def opsOf (ops : Array Oper) (is : List Nat) : List Oper := is.filterMap (ops[·]?)

def seqH (md : Region.Mode) (ops : Array Oper) : List Nat → Array Bool → Bool
  | [], listed => (Region.ready md ops listed).isEmpty
  | t :: ts, listed => decide (Region.ready md ops listed = [t]) && seqH md ops ts (listed.setIfInBounds t true)

theorem wpAny_of_seqH {Q' : Exit → Act → World → Prop} : ∀ (ts : List Nat) (listed : Array Bool) (a : Act) (w : World), seqH md ops ts listed = true → wpList P ops Q' (opsOf ops ts) a w → wpAny P md ops Q' ts.length listed a w
  | [], listed, a, w, hB, h => ⟨by simpa [seqH] using hB, h⟩
  | t :: ts, listed, a, w, hB, h => by
    simp only [seqH, Bool.and_eq_true, decide_eq_true_eq] at hB
    refine ⟨fun h1 => (by rw [hB.1] at h1; cases h1), fun i hi => ?_⟩
    have hmem := hi
    rw [hB.1] at hi
    have hik : i = t := by simpa using hi
    subst hik
    obtain ⟨-, o, ho, -⟩ := mem_ready.1 hmem
    have hl : opsOf ops (i :: ts) = o :: opsOf ops ts := by simp [opsOf, ho]
    rw [hl] at h
    have hw : wpOp P ops Q' i (wpList P ops Q' (opsOf ops ts)) a w := by unfold wpOp; simp only [ho]; exact h
    exact wpOp_mono (fun a' w' h' => wpAny_of_seqH ts _ a' w' hB.2 h') hw

def lexHeadH (md : Region.Mode) (ops : Array Oper) (tl : List Nat) : List Nat → Array Bool → Bool
  | [], listed => seqH md ops tl listed
  | k :: ks, listed => (Region.ready md ops listed).contains k && Region.free md ops listed k && lexHeadH md ops tl ks (listed.setIfInBounds k true)

theorem seqH_ready {t : Nat} {ts : List Nat} {listed : Array Bool} (h : seqH md ops (t :: ts) listed = true) : ∀ j ∈ Region.ready md ops listed, j ∈ t :: ts := by
  intro j hj
  simp only [seqH, Bool.and_eq_true, decide_eq_true_eq] at h
  rw [h.1] at hj
  simp at hj
  simp [hj]

theorem wpAnyH_lex {Lq : Act → Prop} (hsel : Region.noSelect ops = true) (hs : sinkH md ops hds t0 = true) (hc : chainH md ops t0 ts = true) (hd : ∀ i ∈ hds, i ∉ t0 :: ts) :
    ∀ (ks : List Nat) (listed : Array Bool) (a : Act), (∀ i ∈ ks, i ∈ hds) → HInv md ops hds t0 ts listed → lexHeadH md ops (t0 :: ts) ks listed = true → wpStill P ops w Lq (opsOf ops ks) a →
    wpAnyH P md ops w hds (fun listed' a' => seqH md ops (t0 :: ts) listed' = true ∧ Lq a') ks.length listed a
  | [], listed, a, _, _, hB, h => ⟨by simpa [lexHeadH] using hB, h⟩
  | k :: ks, listed, a, hk, inv, hB, h => by
    simp only [lexHeadH, Bool.and_eq_true] at hB
    obtain ⟨⟨hr, hf⟩, hB'⟩ := hB
    have hr' : k ∈ Region.ready md ops listed := by simpa using hr
    obtain ⟨-, o, ho, -⟩ := mem_ready.1 hr'
    have hl : opsOf ops (k :: ks) = o :: opsOf ops ks := by simp [opsOf, ho]
    rw [hl] at h
    have hst : stOp P ops w k (wpStill P ops w Lq (opsOf ops ks)) a := by unfold stOp; simp only [ho]; exact h
    obtain ⟨v, hy, hK⟩ := yieldsAt_of_stOp ho hst
    have hkh := hk k (by simp)
    exact wpAnyH_first ho (Region.noSelect_spec hsel) hs hc hkh (fun listed' a' hL => seqH_ready hL.1) ks.length listed a inv (Region.free_spec ho hf) hr' hy
      (wpAnyH_lex hsel hs hc hd ks _ _ (fun i hi => hk i (by simp [hi])) (inv.set hr' (hd k hkh)) hB' hK)
end
end Go.Sh
namespace Go.Sh
section
variable {P : Program} {pu : Bool} {st : St}

theorem wanted_ng {o : Oper} (h : o.guard = none) (f : Nat → Option Bool) : Region.wanted o f = true := by unfold Region.wanted; rw [h]

theorem wpStill_ng {ops ops' : Array Oper} {w : World} {Q : Act → Prop} : ∀ {l : List Oper} {a : Act}, (∀ o ∈ l, o.guard = none) → wpStill P ops' w Q l a → wpStill P ops w Q l a
  | [], _, _, h => h
  | o :: l, a, hg, h => by
    unfold wpStill at h ⊢
    rw [if_pos (wanted_ng (hg o (by simp)) _)] at h ⊢
    exact Oper.still_mono (fun a' h' => wpStill_ng (fun o ho => hg o (by simp [ho])) h') h

theorem wpList_ng {ops ops' : Array Oper} {Q : Exit → Act → World → Prop} : ∀ {l : List Oper} {a : Act} {w : World}, (∀ o ∈ l, o.guard = none) → wpList P ops' Q l a w → wpList P ops Q l a w
  | [], _, _, _, h => h
  | o :: l, a, w, hg, h => by
    unfold wpList at h ⊢
    rw [if_pos (wanted_ng (hg o (by simp)) _)] at h ⊢
    exact h.imp (Oper.wp_mono fun a' w' h' => wpList_ng (fun o ho => hg o (by simp [ho])) h') id

/-- The operations in another order: a move, the readers, the chain. -/
def permOps (ops : Array Oper) (m : Nat) (hds : List Nat) (t0 : Nat) (ts : List Nat) : Array Oper := (opsOf ops (m :: hds) ++ opsOf ops (t0 :: ts)).toArray

def isMove (o : Oper) : Bool := match o.op with | .move _ => true | _ => false

def permB (ops : Array Oper) (m : Nat) (hds : List Nat) (t0 : Nat) (ts : List Nat) : Bool :=
  Region.noSelect ops && ops.all (fun o => o.guard.isNone) && ((ops[m]?).map isMove).getD false && (Region.ready .any ops (Array.replicate ops.size false)).contains m && Region.free .any ops (Array.replicate ops.size false) m &&
    sinkH .any ops hds t0 && chainH .any ops t0 ts && hds.all (fun i => !(t0 :: ts).contains i) && !(t0 :: ts).contains m && decide (ops.size = hds.length + (ts.length + 1) + 1) &&
    (List.range ops.size).all (fun i => hds.contains i || (t0 :: ts).contains i || i == m) && (t0 :: ts).all (fun i => decide (i < ops.size)) && decide ((opsOf ops (m :: hds)).length = hds.length + 1) &&
    lexHeadH .any ops (t0 :: ts) hds ((Array.replicate ops.size false).setIfInBounds m true)

theorem opsOf_ng {ops : Array Oper} (h : ops.all (fun o => o.guard.isNone) = true) (is : List Nat) : ∀ o ∈ opsOf ops is, o.guard = none := fun o ho => by
  simp only [opsOf, List.mem_filterMap] at ho
  obtain ⟨i, -, hi⟩ := ho
  rw [Array.all_eq_true'] at h
  simpa using h o (Array.mem_of_getElem? hi)

theorem SW.regionP {id : Nat} {l : List Oper} {Q : Exit → St → Prop} (m : Nat) (hds : List Nat) (t0 : Nat) (ts : List Nat) (k : Nat) (hk : decide (k = hds.length + 1) = true) (hm : P.follows .mixedOrders = true) (hB : permB l.toArray m hds t0 ts = true)
    (h : OBk P (permOps l.toArray m hds t0 ts) k 0 st (fun st1 => OWk P pu (permOps l.toArray m hds t0 ts) k st1 (Q .normal))) : SW P pu (.region id l.toArray true) st Q := by
  have hk := of_decide_eq_true hk
  subst hk
  generalize hops : l.toArray = ops at *
  intro a w g hr
  refine Code.wp_mono (Q := NQ fun a' w' => ∃ st' g', Q .normal st' ∧ Rel st' a' w' g' ∧ Fr pu g w g' w') (fun e a' w' hh => by obtain ⟨rfl, hh⟩ := hh; exact hh) ?_
  simp only [permB, Bool.and_eq_true, decide_eq_true_eq] at hB
  obtain ⟨⟨⟨⟨⟨⟨⟨⟨⟨⟨⟨⟨⟨b1, b2⟩, b3⟩, b4⟩, b5⟩, b6⟩, b7⟩, b8⟩, b9⟩, b10⟩, b11⟩, b12⟩, b13⟩, b14⟩ := hB
  refine wp_region_any hm ?_
  have hmr : m ∈ Region.ready .any ops (Array.replicate ops.size false) := by simpa using b4
  obtain ⟨hm0, om, hom, hmall⟩ := mem_ready.1 hmr
  have hop : ∃ x, om.op = .move x := by
    rw [hom] at b3
    simp only [Option.map_some, Option.getD_some] at b3
    unfold isMove at b3
    split at b3
    · exact ⟨_, by assumption⟩
    · cases b3
  obtain ⟨x, hop⟩ := hop
  have hmg : om.guard = none := opsOf_ng b2 [m] om (by simp [opsOf, hom])
  rw [b10]
  have hsize : ops.size = hds.length + (ts.length + 1) + 1 := b10
  refine wpAny_move hom hop hmg (Region.noSelect_spec b1) _ _ a _ (by rw [← hsize]; exact Region.free_spec hom b5) (by rw [← hsize]; exact hmr) ?_
  rw [← hsize]
  have hmlt : m < ops.size := (Array.getElem?_eq_some_iff.1 hom).1
  have hmt : m ∉ t0 :: ts := by simpa using b9
  have inv : HInv .any ops hds t0 ts ((Array.replicate ops.size false).setIfInBounds m true) := by
    refine ⟨by simp, fun j oj hj hl e he hb => ?_, fun t ht => ?_, fun i hi h1 h2 => ?_⟩
    · by_cases hjm : m = j
      · subst hjm
        have : oj = om := Option.some.inj (hj.symm.trans hom)
        subst this
        exact getD_set_true (hmall e he hb)
      · rw [getD_set_ne false hjm, getD_replicate_false] at hl
        cases hl
    · rw [getD_set_ne true (fun e : m = t => hmt (by rw [e]; exact ht))]
      have := List.all_eq_true.1 b12 t ht
      simp at this
      simp [this]
    · have := List.all_eq_true.1 b11 i (List.mem_range.2 hi)
      simp only [Bool.or_eq_true, List.contains_iff_mem, beq_iff_eq] at this
      rcases this with (h3 | h3) | h3
      · exact absurd h3 h1
      · exact absurd h3 h2
      · subst h3; simp [hmlt]
  -- the walk in the other order
  have hl1 : (permOps ops m hds t0 ts).toList.take (hds.length + 1) = opsOf ops (m :: hds) := by simp only [permOps]; rw [List.take_append_of_le_length (by omega), List.take_of_length_le (by omega)]
  have hl2 : (permOps ops m hds t0 ts).toList.drop (hds.length + 1) = opsOf ops (t0 :: ts) := by simp only [permOps]; rw [← b13, List.drop_left']; rfl
  have hcons : opsOf ops (m :: hds) = om :: opsOf ops hds := by simp [opsOf, hom]
  unfold OBk at h
  rw [List.drop_zero, hl1] at h
  have key := h a w.drew g hr.drew (fun a' => wpList P ops (NQ fun a' w' => ∃ st' g', Q .normal st' ∧ Rel st' a' w' g' ∧ Fr pu g w g' w') (opsOf ops (t0 :: ts)) a' w.drew) (fun st1 a1 g1 q1 r1 f1 => by
    refine wpList_ng (opsOf_ng b2 _) (ops' := permOps ops m hds t0 ts) ?_
    unfold OWk at q1
    rw [hl2] at q1
    exact q1 a1 w.drew g1 r1 _ fun st' a' w' g' q r f => ⟨rfl, st', g', q, r, (Fr.drew.trans (f1 pu)).trans f⟩)
  rw [hcons] at key
  unfold wpStill at key
  rw [if_pos (wanted_ng hmg _)] at key
  have hexec : (execOp a.eval om).run P w.drew = .ok (.value (a.eval x)) w.drew := by unfold execOp; rw [hop]; rfl
  unfold Oper.still at key
  rw [hexec, Oper.stillUpon_value] at key
  have key := wpStill_ng (ops := ops) (opsOf_ng b2 hds) key
  refine wpAny_of_headH (hds := hds) (g := ts.length + 1) (fun listed' a' hL => ?_) hds.length _ _ (wpAnyH_lex b1 b6 b7 (fun i hi => by have := List.all_eq_true.1 b8 i hi; simpa using this) hds _ _ (fun _ h => h) inv b14 key)
  exact wpAny_of_seqH (t0 :: ts) listed' a' _ hL.1 hL.2
end
end Go.Sh
