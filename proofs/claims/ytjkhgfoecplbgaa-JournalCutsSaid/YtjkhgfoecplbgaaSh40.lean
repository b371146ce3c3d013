/- A region that draws its order: loads of one's own box that may come behind the effects are taken first. -/
import Derived.Test.YtjkhgfoecplbgaaSh39
set_option linter.all false
set_option autoImplicit true
set_option relaxedAutoImplicit true
set_option linter.unusedVariables false
set_option linter.unusedSimpArgs false
namespace Go.Sh
section
variable {P : Program} {ops : Array Oper} {md : Region.Mode} {R : Act → World → Prop}

theorem wpOp_steady {j : Nat} {oi oj : Oper} {p : Tmp} {pv u : Value} {r : Nat} {c : Array Value} {T : TypeId} {z : Nat × Nat} (hj : ops[j]? = some oj) (hop : Operand.tmp p ∈ oi.op.operands.toList) (hap : oi.apart ops oj = true) (hsj : ∀ cs b, oj.op ≠ .select cs b) (hk : keepsB P oj = true)
    {K : Act → World → Prop} {a : Act} {w : World} (hJ : w.heap[r]? = some (.cells c T z)) (hv : a.eval (.tmp p) = pv) (h : wpOp P ops (NQ R) j K (a.put oi.dst u) w) :
    wpOp P ops (NQ R) j (fun a' w' => a'.eval (.tmp p) = pv ∧ w'.heap[r]? = some (.cells c T z) ∧ K (a'.put oi.dst u) w') a w := by
  obtain ⟨h1, h2, h3⟩ := Oper.apart_spec hap
  have keep : ∀ y, (a.put oj.dst y).eval (.tmp p) = pv := fun y => by
    rw [Act.eval_put fun d hd e => h3 d hd ?_]
    · exact hv
    · cases e
      exact List.mem_append_left _ (List.mem_filterMap.2 ⟨.tmp p, hop, rfl⟩)
  unfold wpOp at *
  simp only [hj] at *
  rw [wanted_put oj a oi.dst u h1] at h
  split
  · rename_i hw
    simp only [hw, if_true] at h
    refine .inl ?_
    rcases h with h | h
    · unfold Oper.wp at *
      rw [execOp_put oj hsj a oi.dst u h1] at h
      cases hr : (execOp a.eval oj).run P w with
      | ok n w' =>
        obtain ⟨g1, g2⟩ := keepsB_spec hk hJ hr
        rw [hr] at h
        cases n <;> simp only [plainN, reduceCtorEq] at g2 <;> simp only [Oper.upon] at h ⊢
        case value y => exact ⟨keep y, g1, by rw [← Act.put_comm a u y h2]; exact h⟩
        case skip => exact ⟨keep _, g1, by rw [← Act.put_comm a u undef h2]; exact h⟩
      | halt y w' =>
        rw [hr] at h
        cases y <;> simp only [Oper.upon] at h ⊢
        exact absurd h.1 (by simp)
    · exact absurd h.2 NQ.out
  · rename_i hw
    simp only [hw] at h
    exact ⟨keep _, hJ, by rw [← Act.put_comm a u undef h2]; exact h⟩

theorem wpAny_steady {i : Nat} {oi : Oper} {p : Tmp} {pv u : Value} {r : Nat} {c : Array Value} {T : TypeId} {z : Nat × Nat} (hi : ops[i]? = some oi) (hop : Operand.tmp p ∈ oi.op.operands.toList) (hg : oi.guard = none) (hsel : ∀ (j : Nat) (o : Oper) cs b, ops[j]? = some o → o.op ≠ .select cs b)
    (hval : ∀ (a : Act) (w : World), a.eval (.tmp p) = pv → w.heap[r]? = some (.cells c T z) → (execOp a.eval oi).run P w = .ok (.value u) w) :
    ∀ (fuel : Nat) (listed : Array Bool) (a : Act) (w : World),
      (∀ j oj, ops[j]? = some oj → j ≠ i → listed.getD j true = false → (∀ e ∈ oj.after, Region.binds md e = true → e.on ≠ i) → oi.apart ops oj = true ∧ keepsB P oj = true) →
      i ∈ Region.ready md ops listed → a.eval (.tmp p) = pv → w.heap[r]? = some (.cells c T z) →
      wpAny P md ops (NQ R) fuel (listed.setIfInBounds i true) (a.put oi.dst u) w → wpAny P md ops (NQ R) (fuel + 1) listed a w := by
  have one : ∀ (K : Act → World → Prop) (a : Act) (w : World), a.eval (.tmp p) = pv → w.heap[r]? = some (.cells c T z) → K (a.put oi.dst u) w → wpOp P ops (NQ R) i K a w := fun K a w e1 e2 h => by
    unfold wpOp
    simp only [hi]
    have hw : Region.wanted oi (yielded ops a.tmps) = true := by unfold Region.wanted; rw [hg]
    rw [if_pos hw]
    refine .inl ?_
    unfold Oper.wp
    rw [hval a w e1 e2, Oper.upon_value]
    exact h
  intro fuel
  induction fuel with
  | zero =>
    intro listed a w _ hr e1 e2 H
    refine ⟨fun h => (by rw [h] at hr; cases hr), fun j hj => ?_⟩
    by_cases hji : j = i
    · subst hji; exact one _ a w e1 e2 H
    · have := ready_mono hj hji
      rw [H.1] at this
      cases this
  | succ fuel ih =>
    intro listed a w hfree hr e1 e2 H
    refine ⟨fun h => (by rw [h] at hr; cases hr), fun j hj => ?_⟩
    by_cases hji : j = i
    · subst hji; exact one _ a w e1 e2 H
    · have h1 := H.2 j (ready_mono hj hji)
      obtain ⟨hjun, oj, hoj, hall⟩ := mem_ready.1 hj
      have hnot : ∀ e ∈ oj.after, Region.binds md e = true → e.on ≠ i := fun e he hb heq => by
        have h1 := hall e he hb
        have h0 := (mem_ready.1 hr).1
        rw [heq] at h1
        rcases Nat.lt_or_ge i listed.size with h' | h'
        · simp [h'] at h0 h1; rw [h0] at h1; cases h1
        · simp [Array.getElem?_eq_none h'] at h1
      obtain ⟨ha, hkk⟩ := hfree j oj hoj hji hjun hnot
      have h2 := wpOp_steady hoj hop ha (fun cs b => hsel j oj cs b hoj) hkk e2 e1 h1
      have hfree' : ∀ k ok, ops[k]? = some ok → k ≠ i → (listed.setIfInBounds j true).getD k true = false →
          (∀ e ∈ ok.after, Region.binds md e = true → e.on ≠ i) → oi.apart ops ok = true ∧ keepsB P ok = true := fun k ok hk hki hun hno => by
        refine hfree k ok hk hki ?_ hno
        by_cases hjk : j = k
        · subst hjk; exact hjun
        · rw [getD_set_ne true hjk] at hun; exact hun
      refine wpOp_mono (fun a' w' h3 => ?_) h2
      obtain ⟨h3, h4, h5⟩ := h3
      refine ih (listed.setIfInBounds j true) a' w' hfree' (ready_mono hr (Ne.symm hji)) h3 h4 ?_
      rw [Array.setIfInBounds_comm _ _ hji]
      exact h5

def notAggB (P : Program) (T : TypeId) : Bool := match P.underlying T with | some (.struct _) | some (.array _ _) | none => false | _ => true

theorem notAggB_run {T T0 : TypeId} {r off : Nat} {c : Array Value} {z : Nat × Nat} {w : World} (h : notAggB P T = true) (hJ : w.heap[r]? = some (.cells c T0 z)) :
    (Instr.loadAt T (.pointer (some ⟨r, off, none⟩))).run P w = match c[off]? with | some u => .ok u w | none => .halt (w.noCell ⟨r, off, none⟩ "load: no such cell") w := by
  unfold notAggB at h
  cases hd : P.underlying T with
  | none => rw [hd] at h; cases h
  | some d =>
    rw [hd] at h
    have hagg : (isAgg T).run P w = .ok false w := by
      unfold isAgg
      simp only [Sem.run_bind, run_underlying hd, Result.andThen_ok]
      cases d <;> simp_all [Sem.run_pure]
    simp only [Instr.loadAt, Instr.sureAddr, Sem.run_bind, Sem.run_pure, Result.andThen_ok, loadVar, hagg, if_false, Bool.false_eq_true, Go.load, Sem.run, World.cell?, hJ, Option.isSome_none, World.farLoad]
    cases c[off]? <;> rfl

def othersB (P : Program) (ops : Array Oper) (l : Array Bool) (m : Nat) : Bool :=
  (List.range ops.size).all fun j => j == m || l.getD j true || match ops[j]? with
    | some oj => oj.after.any (fun e => Region.binds .any e && e.on == m) || keepsB P oj
    | none => true

theorem othersB_spec {l : Array Bool} {m : Nat} (h : othersB P ops l m = true) (j : Nat) (oj : Oper) (hj : ops[j]? = some oj) (hne : j ≠ m) (hun : l.getD j true = false) (hno : ∀ e ∈ oj.after, Region.binds .any e = true → e.on ≠ m) : keepsB P oj = true := by
  simp only [othersB, List.all_eq_true, List.mem_range] at h
  have h1 := h j (Array.getElem?_eq_some_iff.1 hj).1
  simp only [hj, Bool.or_eq_true, beq_iff_eq, hne, false_or, hun, Bool.false_eq_true] at h1
  rcases h1 with h1 | h1
  · obtain ⟨e, he, hb⟩ := Array.any_eq_true'.1 h1
    simp only [Bool.and_eq_true, beq_iff_eq] at hb
    exact absurd hb.2 (hno e he hb.1)
  · exact h1

def steadyB (P : Program) (ops : Array Oper) (n : Nat) : List Nat → Array Bool → List Tmp → Bool
  | [], _, _ => true
  | m :: ms, l, kn => match ops[m]? with
    | some o => (Region.ready .any ops l).contains m && Region.free .any ops l m && match o.op, o.dst with
      | .move _, some d => steadyB P ops n ms (l.setIfInBounds m true) (kn.filter (fun p => p != d))
      | .fieldAddr s (.tmp p) f, some d => kn.contains p && fieldB P s f && othersB P ops l m && decide (d < n) && steadyB P ops n ms (l.setIfInBounds m true) (d :: kn.filter (fun p => p != d))
      | .load T (.tmp p), some d => kn.contains p && notAggB P T && othersB P ops l m && steadyB P ops n ms (l.setIfInBounds m true) (kn.filter (fun p => p != d))
      | _, _ => false
    | none => false

def Kn (r : Nat) (kn : List Tmp) (a : Act) : Prop := ∀ p ∈ kn, ∃ off, a.eval (.tmp p) = .pointer (some ⟨r, off, none⟩)

theorem Kn.put {r : Nat} {kn : List Tmp} {a : Act} (h : Kn r kn a) (d : Tmp) (v : Value) : Kn r (kn.filter (fun p => p != d)) (a.put (some d) v) := fun p hp => by
  obtain ⟨h1, h2⟩ := List.mem_filter.1 hp
  obtain ⟨off, ho⟩ := h p h1
  refine ⟨off, ?_⟩
  rw [Act.eval_put fun d' hd e => ?_]
  · exact ho
  · cases hd; cases e; simp at h2

theorem Act.eval_self {a : Act} {d : Tmp} {v : Value} (h : d < a.tmps.size) : (a.put (some d) v).eval (.tmp d) = v := by
  simp [Act.put, Act.eval, h]

theorem steadyB_closed {n : Nat} : ∀ (ms : List Nat) (l : Array Bool) (kn : List Tmp), steadyB P ops n ms l kn = true → (∀ j oj, ops[j]? = some oj → l.getD j false = true → ∀ e ∈ oj.after, Region.binds .any e = true → l.getD e.on false = true) →
    ∀ j oj, ops[j]? = some oj → (markL ms l).getD j false = true → ∀ e ∈ oj.after, Region.binds .any e = true → (markL ms l).getD e.on false = true
  | [], _, _, _, h => h
  | m :: ms, l, kn, hb, h => by
    unfold steadyB at hb
    split at hb
    · rename_i om hom
      simp only [Bool.and_eq_true] at hb
      have key : ∀ kn', steadyB P ops n ms (l.setIfInBounds m true) kn' = true → ∀ j oj, ops[j]? = some oj → (markL (m :: ms) l).getD j false = true → ∀ e ∈ oj.after, Region.binds .any e = true → (markL (m :: ms) l).getD e.on false = true := fun kn' hk => by
        refine steadyB_closed ms _ kn' hk fun j oj hj hl e he hbd => ?_
        obtain ⟨_, om', hom', hall⟩ := mem_ready.1 (by simpa using hb.1.1 : m ∈ Region.ready .any ops l)
        by_cases hmj : m = j
        · subst hmj
          have : oj = om' := Option.some.inj (hj.symm.trans hom')
          subst this
          exact getD_set_true (hall e he hbd)
        · rw [getD_set_ne false hmj] at hl
          exact getD_set_true (h j oj hj hl e he hbd)
      have hb2 := hb.2
      split at hb2
      · exact key _ hb2
      · simp only [Bool.and_eq_true] at hb2; exact key _ hb2.2
      · simp only [Bool.and_eq_true] at hb2; exact key _ hb2.2
      · cases hb2
    · cases hb

theorem wpAny_steadies {n : Nat} {r : Nat} {c : Array Value} {T : TypeId} {z : Nat × Nat} (hng : ops.all (fun o => o.guard.isNone) = true) (hsel : ∀ (j : Nat) (o : Oper) cs b, ops[j]? = some o → o.op ≠ .select cs b) {hds : List Nat} {Q : Act → Prop} {w : World} {fuel : Nat} (hJ : w.heap[r]? = some (.cells c T z)) :
    ∀ (ms : List Nat) (l : Array Bool) (kn : List Tmp) (a : Act), steadyB P ops n ms l kn = true → Kn r kn a → a.tmps.size = n → (∀ a', wpStill P ops w Q (opsOf ops hds) a' → wpAny P .any ops (NQ R) fuel (markL ms l) a' w) →
      wpStill P ops w Q (opsOf ops (ms ++ hds)) a → wpAny P .any ops (NQ R) (ms.length + fuel) l a w
  | [], l, kn, a, _, _, _, hk, h => by simpa [markL] using hk a h
  | m :: ms, l, kn, a, hb, hkn, hsz, hk, h => by
    unfold steadyB at hb
    split at hb
    · rename_i om hom
      simp only [Bool.and_eq_true] at hb
      obtain ⟨⟨b2, b3⟩, b4⟩ := hb
      have hmr : m ∈ Region.ready .any ops l := by simpa using b2
      have hmg : om.guard = none := opsOf_ng hng [m] om (by simp [opsOf, hom])
      have hcons : opsOf ops (m :: ms ++ hds) = om :: opsOf ops (ms ++ hds) := by simp [opsOf, hom]
      rw [hcons] at h
      unfold wpStill at h
      rw [if_pos (wanted_ng hmg _)] at h
      have e : (m :: ms).length + fuel = (ms.length + fuel) + 1 := by simp; omega
      rw [e]
      split at b4
      · rename_i x d hop hd
        have hexec : (execOp a.eval om).run P w = .ok (.value (a.eval x)) w := by unfold execOp; rw [hop]; rfl
        unfold Oper.still at h
        rw [hexec, Oper.stillUpon_value] at h
        have := wpAny_steadies hng hsel hJ ms (l.setIfInBounds m true) _ _ b4 (by rw [hd]; exact hkn.put d _) (by rw [put_size]; exact hsz) hk h
        exact wpAny_move hom hop hmg hsel _ _ a _ (Region.free_spec hom b3) hmr this
      · rename_i s p f d hop hd
        simp only [Bool.and_eq_true, decide_eq_true_eq] at b4
        obtain ⟨⟨⟨⟨c1, c2⟩, c3⟩, c5⟩, c4⟩ := b4
        obtain ⟨off, hoff⟩ := hkn p (by simpa using c1)
        obtain ⟨fo, hfo⟩ := fieldB_run c2
        have hval : ∀ (a : Act) (w : World), a.eval (.tmp p) = .pointer (some ⟨r, off, none⟩) → w.heap[r]? = some (.cells c T z) → (execOp a.eval om).run P w = .ok (.value (.pointer (some ⟨r, off + fo, none⟩))) w := fun a w e1 _ => by
          unfold execOp
          simp only [hop, e1, Sem.run_bind, hfo, Result.andThen_ok, Sem.run_pure]
        unfold Oper.still at h
        rw [hval a w hoff hJ, Oper.stillUpon_value] at h
        have := wpAny_steadies hng hsel hJ ms (l.setIfInBounds m true) _ _ c4 (by
          rw [hd]
          intro q hq
          rcases List.mem_cons.1 hq with rfl | hq
          · exact ⟨_, Act.eval_self (by rw [hsz]; exact c5)⟩
          · exact hkn.put d _ q hq) (by rw [put_size]; exact hsz) hk h
        exact wpAny_steady hom (by rw [hop]; simp [Op.operands]) hmg hsel hval _ _ a _ (fun j oj g1 g2 g3 g4 => ⟨Region.free_spec hom b3 j oj g1 g2 g3 g4, othersB_spec c3 j oj g1 g2 g3 g4⟩) hmr hoff hJ this
      · rename_i T1 p d hop hd
        simp only [Bool.and_eq_true] at b4
        obtain ⟨⟨⟨c1, c2⟩, c3⟩, c4⟩ := b4
        obtain ⟨off, hoff⟩ := hkn p (by simpa using c1)
        have hrun : ∀ (a : Act) (w : World), a.eval (.tmp p) = .pointer (some ⟨r, off, none⟩) → w.heap[r]? = some (.cells c T z) → (execOp a.eval om).run P w = match c[off]? with | some u => .ok (.value u) w | none => .halt (w.noCell ⟨r, off, none⟩ "load: no such cell") w := fun a w e1 e2 => by
          unfold execOp
          simp only [hop, e1, Sem.run_bind, notAggB_run c2 e2]
          cases c[off]? <;> simp [Sem.run_pure, Result.andThen]
        cases hc : c[off]? with
        | none =>
          unfold Oper.still at h
          rw [hrun a w hoff hJ, hc] at h
          exact absurd h (by simp [Oper.stillUpon])
        | some u =>
          have hval : ∀ (a : Act) (w : World), a.eval (.tmp p) = .pointer (some ⟨r, off, none⟩) → w.heap[r]? = some (.cells c T z) → (execOp a.eval om).run P w = .ok (.value u) w := fun a w e1 e2 => by rw [hrun a w e1 e2, hc]
          unfold Oper.still at h
          rw [hval a w hoff hJ, Oper.stillUpon_value] at h
          have := wpAny_steadies hng hsel hJ ms (l.setIfInBounds m true) _ _ c4 (by rw [hd]; exact hkn.put d _) (by rw [put_size]; exact hsz) hk h
          exact wpAny_steady hom (by rw [hop]; simp [Op.operands]) hmg hsel hval _ _ a _ (fun j oj g1 g2 g3 g4 => ⟨Region.free_spec hom b3 j oj g1 g2 g3 g4, othersB_spec c3 j oj g1 g2 g3 g4⟩) hmr hoff hJ this
      · cases b4
    · cases hb
end
section
variable {P : Program} {pu : Bool} {st : St} {ops : Array Oper}

def permSB (P : Program) (ops : Array Oper) (n s0 : Nat) (ms hds : List Nat) (t0 : Nat) (ts : List Nat) : Bool :=
  Region.noSelect ops && ops.all (fun o => o.guard.isNone) && steadyB P ops n ms (Array.replicate ops.size false) [s0] &&
    sinkH .any ops hds t0 && chainH .any ops t0 ts && hds.all (fun i => !(t0 :: ts).contains i) && ms.all (fun i => !(t0 :: ts).contains i) && decide (ops.size = ms.length + (hds.length + (ts.length + 1))) &&
    (List.range ops.size).all (fun i => hds.contains i || (t0 :: ts).contains i || ms.contains i) && (t0 :: ts).all (fun i => decide (i < ops.size)) && decide ((opsOf ops (ms ++ hds)).length = ms.length + hds.length) &&
    lexHeadH .any ops (t0 :: ts) hds (markL ms (Array.replicate ops.size false))

theorem SW.regionS {id : Nat} {l : List Oper} {Q : Exit → St → Prop} (n s0 : Nat) (ms hds : List Nat) (t0 : Nat) (ts : List Nat) (k : Nat) (hk : decide (k = ms.length + hds.length) = true) (hm : P.follows .mixedOrders = true) (hb : ((boxAt st s0).isSome && decide (st.tmps.length = n)) = true) (hB : permSB P l.toArray n s0 ms hds t0 ts = true)
    (h : OBk P (permML l.toArray ms hds t0 ts) k 0 st (fun st1 => OWk P pu (permML l.toArray ms hds t0 ts) k st1 (Q .normal))) : SW P pu (.region id l.toArray true) st Q := by
  have hk := of_decide_eq_true hk
  subst hk
  generalize hops : l.toArray = ops at *
  intro a w g hr
  refine Code.wp_mono (Q := NQ fun a' w' => ∃ st' g', Q .normal st' ∧ Rel st' a' w' g' ∧ Fr pu g w g' w') (fun e a' w' hh => by obtain ⟨rfl, hh⟩ := hh; exact hh) ?_
  simp only [permSB, Bool.and_eq_true, decide_eq_true_eq] at hB
  obtain ⟨⟨⟨⟨⟨⟨⟨⟨⟨⟨⟨b1, b2⟩, b3⟩, b6⟩, b7⟩, b8⟩, b9⟩, b10⟩, b11⟩, b12⟩, b13⟩, b14⟩ := hB
  refine wp_region_any hm ?_
  simp only [Bool.and_eq_true, decide_eq_true_eq] at hb
  obtain ⟨hb1, hb2⟩ := hb
  obtain ⟨cs, hcs⟩ : ∃ cs, st.tmps[s0]? = some (.box cs) := by
    unfold boxAt at hb1
    split at hb1
    · exact ⟨_, by assumption⟩
    · cases hb1
  obtain ⟨r, c, T, hv, hg0, hcell, _⟩ := hr.drew.tmp s0 _ hcs
  have hms : ∀ i ∈ ms, i ∉ t0 :: ts := fun i hi => by have := List.all_eq_true.1 b9 i hi; simpa using this
  have inv : HInv .any ops hds t0 ts (markL ms (Array.replicate ops.size false)) := by
    refine ⟨by rw [markL_size]; simp, steadyB_closed ms _ _ b3 (fun j oj hj hl => by rw [getD_replicate_false] at hl; cases hl), fun t ht => ?_, fun i hi h1 h2 => ?_⟩
    · rw [markL_not ms _ t (fun h => hms t h ht)]
      have := List.all_eq_true.1 b12 t ht
      simp at this
      simp [this]
    · have := List.all_eq_true.1 b11 i (List.mem_range.2 hi)
      simp only [Bool.or_eq_true, List.contains_iff_mem] at this
      rcases this with (h3 | h3) | h3
      · exact absurd h3 h1
      · exact absurd h3 h2
      · exact markL_mem ms _ i h3 (by simpa using hi)
  have hl1 : (permML ops ms hds t0 ts).toList.take (ms.length + hds.length) = opsOf ops (ms ++ hds) := by simp only [permML]; rw [List.take_append_of_le_length (by omega), List.take_of_length_le (by omega)]
  have hl2 : (permML ops ms hds t0 ts).toList.drop (ms.length + hds.length) = opsOf ops (t0 :: ts) := by simp only [permML]; rw [← b13, List.drop_left']; rfl
  unfold OBk at h
  rw [List.drop_zero, hl1] at h
  have key := h a w.drew g hr.drew (fun a' => wpList P ops (NQ fun a' w' => ∃ st' g', Q .normal st' ∧ Rel st' a' w' g' ∧ Fr pu g w g' w') (opsOf ops (t0 :: ts)) a' w.drew) (fun st1 a1 g1 q1 r1 f1 => by
    refine wpList_ng (opsOf_ng b2 _) (ops' := permML ops ms hds t0 ts) ?_
    unfold OWk at q1
    rw [hl2] at q1
    exact q1 a1 w.drew g1 r1 _ fun st' a' w' g' q r f => ⟨rfl, st', g', q, r, (Fr.drew.trans (f1 pu)).trans f⟩)
  have key := wpStill_ng (ops := ops) (opsOf_ng b2 (ms ++ hds)) key
  have hsz : ops.size = ms.length + (hds.length + (ts.length + 1)) := b10
  rw [hsz]
  rw [hsz] at inv b14
  refine wpAny_steadies (n := n) b2 (Region.noSelect_spec b1) hcell ms _ [s0] a (by rw [← hsz]; exact b3) (fun p hp => ?_) (by rw [hr.len, hb2]) (fun a' ha' => ?_) key
  · rcases List.mem_cons.1 hp with rfl | hp
    · exact ⟨0, hv⟩
    · cases hp
  · refine wpAny_of_headH (hds := hds) (g := ts.length + 1) (fun listed' a' hL => ?_) hds.length _ _ (wpAnyH_lex b1 b6 b7 (fun i hi => by have := List.all_eq_true.1 b8 i hi; simpa using this) hds _ _ (fun _ h => h) inv b14 ha')
    exact wpAny_of_seqH (t0 :: ts) listed' a' _ hL.1 hL.2
end
end Go.Sh
