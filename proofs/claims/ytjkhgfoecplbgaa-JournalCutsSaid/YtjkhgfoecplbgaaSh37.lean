/- A region that draws its order: several free moves, the readers, the chain. -/
import Derived.Test.YtjkhgfoecplbgaaSh36
set_option linter.all false
set_option autoImplicit true
set_option relaxedAutoImplicit true
set_option linter.unusedVariables false
set_option linter.unusedSimpArgs false
namespace Go.Sh
section
variable {P : Program} {pu : Bool} {st : St} {ops : Array Oper}

def markL : List Nat → Array Bool → Array Bool
  | [], l => l
  | m :: ms, l => markL ms (l.setIfInBounds m true)

def movesB (ops : Array Oper) : List Nat → Array Bool → Bool
  | [], _ => true
  | m :: ms, l => ((ops[m]?).map isMove).getD false && (Region.ready .any ops l).contains m && Region.free .any ops l m && movesB ops ms (l.setIfInBounds m true)

theorem markL_size : ∀ (ms : List Nat) (l : Array Bool), (markL ms l).size = l.size
  | [], _ => rfl
  | m :: ms, l => by rw [markL, markL_size ms]; simp

theorem markL_mono : ∀ (ms : List Nat) (l : Array Bool) (i : Nat), l.getD i false = true → (markL ms l).getD i false = true
  | [], _, _, h => h
  | m :: ms, l, i, h => markL_mono ms _ i (getD_set_true h)

theorem markL_mem : ∀ (ms : List Nat) (l : Array Bool) (i : Nat), i ∈ ms → i < l.size → (markL ms l).getD i false = true
  | [], _, _, h, _ => by simp at h
  | m :: ms, l, i, h, hi => by
    rcases List.mem_cons.1 h with rfl | h
    · exact markL_mono ms _ i (by simp [hi])
    · exact markL_mem ms _ i h (by simpa using hi)

theorem markL_not : ∀ (ms : List Nat) (l : Array Bool) (i : Nat), i ∉ ms → (markL ms l).getD i true = l.getD i true
  | [], _, _, _ => rfl
  | m :: ms, l, i, h => by
    rw [markL, markL_not ms _ i (fun h' => h (List.mem_cons_of_mem _ h')), getD_set_ne true (fun (e : m = i) => h (by simp [e]))]

theorem markL_closed : ∀ (ms : List Nat) (l : Array Bool), movesB ops ms l = true → (∀ j oj, ops[j]? = some oj → l.getD j false = true → ∀ e ∈ oj.after, Region.binds .any e = true → l.getD e.on false = true) →
    ∀ j oj, ops[j]? = some oj → (markL ms l).getD j false = true → ∀ e ∈ oj.after, Region.binds .any e = true → (markL ms l).getD e.on false = true
  | [], _, _, h => h
  | m :: ms, l, hb, h => by
    simp only [movesB, Bool.and_eq_true] at hb
    refine markL_closed ms _ hb.2 fun j oj hj hl e he hbd => ?_
    obtain ⟨_, om, hom, hall⟩ := mem_ready.1 (by simpa using hb.1.1.2 : m ∈ Region.ready .any ops l)
    by_cases hmj : m = j
    · subst hmj
      have : oj = om := Option.some.inj (hj.symm.trans hom)
      subst this
      exact getD_set_true (hall e he hbd)
    · rw [getD_set_ne false hmj] at hl
      exact getD_set_true (h j oj hj hl e he hbd)

theorem wpAny_moves {R : Act → World → Prop} (hng : ops.all (fun o => o.guard.isNone) = true) (hsel : ∀ (j : Nat) (o : Oper) cs b, ops[j]? = some o → o.op ≠ .select cs b) {hds : List Nat} {Q : Act → Prop} {w : World} {fuel : Nat} :
    ∀ (ms : List Nat) (l : Array Bool) (a : Act), movesB ops ms l = true → (∀ a', wpStill P ops w Q (opsOf ops hds) a' → wpAny P .any ops (NQ R) fuel (markL ms l) a' w) →
      wpStill P ops w Q (opsOf ops (ms ++ hds)) a → wpAny P .any ops (NQ R) (ms.length + fuel) l a w
  | [], l, a, _, hk, h => by simpa [markL] using hk a h
  | m :: ms, l, a, hb, hk, h => by
    simp only [movesB, Bool.and_eq_true] at hb
    obtain ⟨⟨⟨b1, b2⟩, b3⟩, b4⟩ := hb
    have hmr : m ∈ Region.ready .any ops l := by simpa using b2
    obtain ⟨hm0, om, hom, hmall⟩ := mem_ready.1 hmr
    have hop : ∃ x, om.op = .move x := by
      rw [hom] at b1
      simp only [Option.map_some, Option.getD_some] at b1
      unfold isMove at b1
      split at b1
      · exact ⟨_, by assumption⟩
      · cases b1
    obtain ⟨x, hop⟩ := hop
    have hmg : om.guard = none := opsOf_ng hng [m] om (by simp [opsOf, hom])
    have hcons : opsOf ops (m :: ms ++ hds) = om :: opsOf ops (ms ++ hds) := by simp [opsOf, hom]
    rw [hcons] at h
    unfold wpStill at h
    rw [if_pos (wanted_ng hmg _)] at h
    have hexec : (execOp a.eval om).run P w = .ok (.value (a.eval x)) w := by unfold execOp; rw [hop]; rfl
    unfold Oper.still at h
    rw [hexec, Oper.stillUpon_value] at h
    have := wpAny_moves hng hsel ms (l.setIfInBounds m true) _ b4 hk h
    have e : (m :: ms).length + fuel = (ms.length + fuel) + 1 := by simp; omega
    rw [e]
    exact wpAny_move hom hop hmg hsel _ _ a _ (Region.free_spec hom b3) hmr this

def permML (ops : Array Oper) (ms hds : List Nat) (t0 : Nat) (ts : List Nat) : Array Oper := (opsOf ops (ms ++ hds) ++ opsOf ops (t0 :: ts)).toArray

def permMB (ops : Array Oper) (ms hds : List Nat) (t0 : Nat) (ts : List Nat) : Bool :=
  Region.noSelect ops && ops.all (fun o => o.guard.isNone) && movesB ops ms (Array.replicate ops.size false) &&
    sinkH .any ops hds t0 && chainH .any ops t0 ts && hds.all (fun i => !(t0 :: ts).contains i) && ms.all (fun i => !(t0 :: ts).contains i) && decide (ops.size = ms.length + (hds.length + (ts.length + 1))) &&
    (List.range ops.size).all (fun i => hds.contains i || (t0 :: ts).contains i || ms.contains i) && (t0 :: ts).all (fun i => decide (i < ops.size)) && decide ((opsOf ops (ms ++ hds)).length = ms.length + hds.length) &&
    lexHeadH .any ops (t0 :: ts) hds (markL ms (Array.replicate ops.size false))

theorem SW.regionM {id : Nat} {l : List Oper} {Q : Exit → St → Prop} (ms hds : List Nat) (t0 : Nat) (ts : List Nat) (k : Nat) (hk : decide (k = ms.length + hds.length) = true) (hm : P.follows .mixedOrders = true) (hB : permMB l.toArray ms hds t0 ts = true)
    (h : OBk P (permML l.toArray ms hds t0 ts) k 0 st (fun st1 => OWk P pu (permML l.toArray ms hds t0 ts) k st1 (Q .normal))) : SW P pu (.region id l.toArray true) st Q := by
  have hk := of_decide_eq_true hk
  subst hk
  generalize hops : l.toArray = ops at *
  intro a w g hr
  refine Code.wp_mono (Q := NQ fun a' w' => ∃ st' g', Q .normal st' ∧ Rel st' a' w' g' ∧ Fr pu g w g' w') (fun e a' w' hh => by obtain ⟨rfl, hh⟩ := hh; exact hh) ?_
  simp only [permMB, Bool.and_eq_true, decide_eq_true_eq] at hB
  obtain ⟨⟨⟨⟨⟨⟨⟨⟨⟨⟨⟨b1, b2⟩, b3⟩, b6⟩, b7⟩, b8⟩, b9⟩, b10⟩, b11⟩, b12⟩, b13⟩, b14⟩ := hB
  refine wp_region_any hm ?_
  have hms : ∀ i ∈ ms, i ∉ t0 :: ts := fun i hi => by have := List.all_eq_true.1 b9 i hi; simpa using this
  have inv : HInv .any ops hds t0 ts (markL ms (Array.replicate ops.size false)) := by
    refine ⟨by rw [markL_size]; simp, markL_closed ms _ b3 (fun j oj hj hl => by rw [getD_replicate_false] at hl; cases hl), fun t ht => ?_, fun i hi h1 h2 => ?_⟩
    · rw [markL_not ms _ t (fun h => hms t h ht)]
      have := List.all_eq_true.1 b12 t ht
      simp at this
      simp [this]
    · have := List.all_eq_true.1 b11 i (List.mem_range.2 hi)
      simp only [Bool.or_eq_true, List.contains_iff_mem] at this
      rcases this with (h3 | h3) | h3
      · exact absurd h3 h1
      · exact absurd h3 h2
      · exact markL_mem ms _ i h3 (by simpa using hi)
  -- the walk in the other order
  have hl1 : (permML ops ms hds t0 ts).toList.take (ms.length + hds.length) = opsOf ops (ms ++ hds) := by simp only [permML]; rw [List.take_append_of_le_length (by omega), List.take_of_length_le (by omega)]
  have hl2 : (permML ops ms hds t0 ts).toList.drop (ms.length + hds.length) = opsOf ops (t0 :: ts) := by simp only [permML]; rw [← b13, List.drop_left']; rfl
  unfold OBk at h
  rw [List.drop_zero, hl1] at h
  have key := h a w.drew g hr.drew (fun a' => wpList P ops (NQ fun a' w' => ∃ st' g', Q .normal st' ∧ Rel st' a' w' g' ∧ Fr pu g w g' w') (opsOf ops (t0 :: ts)) a' w.drew) (fun st1 a1 g1 q1 r1 f1 => by
    refine wpList_ng (opsOf_ng b2 _) (ops' := permML ops ms hds t0 ts) ?_
    unfold OWk at q1
    rw [hl2] at q1
    exact q1 a1 w.drew g1 r1 _ fun st' a' w' g' q r f => ⟨rfl, st', g', q, r, (Fr.drew.trans (f1 pu)).trans f⟩)
  have key := wpStill_ng (ops := ops) (opsOf_ng b2 (ms ++ hds)) key
  have hsz : ops.size = ms.length + (hds.length + (ts.length + 1)) := b10
  rw [hsz]
  rw [hsz] at inv b14
  refine wpAny_moves b2 (Region.noSelect_spec b1) ms _ a (by rw [← hsz]; exact b3) (fun a' ha' => ?_) key
  refine wpAny_of_headH (hds := hds) (g := ts.length + 1) (fun listed' a' hL => ?_) hds.length _ _ (wpAnyH_lex b1 b6 b7 (fun i hi => by have := List.all_eq_true.1 b8 i hi; simpa using this) hds _ _ (fun _ h => h) inv b14 ha')
  exact wpAny_of_seqH (t0 :: ts) listed' a' _ hL.1 hL.2
end
end Go.Sh
