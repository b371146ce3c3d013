/- Regions that draw their order, whose operations read, or call pure functions whose results are values by themselves. -/
import Derived.Test.YtjkhgfoecplbgaaSh19
import Derived.Deep.Quiet
set_option linter.all false
set_option autoImplicit true
set_option relaxedAutoImplicit true
set_option linter.unusedVariables false
set_option linter.unusedSimpArgs false
namespace Go.Sh

/-- A value that is told by what it reads as. -/
def detV1 : D → Option Value
  | .fn f [] [] => some (.func f #[] #[])
  | d => leafV d
def detVs : List D → Option (List Value)
  | [] => some []
  | d :: ds => match detV1 d, detVs ds with
    | some v, some vs => some (v :: vs)
    | _, _ => none
def detV : D → Option Value
  | .agg cs => (detVs cs).map fun vs => .agg vs.toArray
  | d => detV1 d

theorem detV1_rd {g : Gh} {w : World} {v u : Value} {d : D} (h : Rd g w v d) (hd : detV1 d = some u) : v = u := by
  unfold detV1 at hd
  split at hd
  · cases hd
    cases h with
    | fn hl1 hl2 us1 us2 hc1 hr1 hc2 hr2 =>
      rename_i first caps
      have e1 : first = #[] := Array.eq_empty_of_size_eq_zero (by simpa using hl1)
      have e2 : caps = #[] := Array.eq_empty_of_size_eq_zero (by simpa using hl2)
      rw [e1, e2]
  · exact leafV_rd hd h

theorem detVs_rd {g : Gh} {w : World} : ∀ {cs : List D} {vs : List Value} {us : List Value}, detVs cs = some vs → us.length = cs.length → (∀ (j : Nat) (y : D), cs[j]? = some y → ∃ u, us[j]? = some u ∧ Rd g w u y) → us = vs
  | [], vs, us, h, hl, _ => by simp [detVs] at h; subst h; simpa using hl
  | d :: ds, vs, us, h, hl, hr => by
    simp only [detVs] at h
    split at h
    · rename_i v vs' h1 h2
      cases h
      cases us with
      | nil => simp at hl
      | cons u us =>
        obtain ⟨u', e1, e2⟩ := hr 0 d (by simp)
        simp at e1; subst e1
        rw [detV1_rd e2 h1, detVs_rd (us := us) h2 (by simpa using hl) (fun j y hj => by simpa using hr (j + 1) y (by simpa using hj))]
    · cases h

theorem detV_rd {g : Gh} {w : World} {v u : Value} {d : D} (h : Rd g w v d) (hd : detV d = some u) : v = u := by
  unfold detV at hd
  split at hd
  · rename_i cs
    simp only [Option.map_eq_some_iff] at hd
    obtain ⟨vs, h1, rfl⟩ := hd
    cases h with
    | agg hl us hc hr =>
      rename_i us0
      have := detVs_rd (us := us0.toList) h1 (by simpa using hl) (fun j y hj => ⟨us j, by simpa using (hc j y hj).1, hr j y hj⟩)
      rw [← this]
  · exact detV1_rd h hd

def detS : SV → Option Value
  | .d x => detV x
  | _ => none

/-- A world that has grown out of this one. -/
def UpW (w w' : World) : Prop := w.heap.size ≤ w'.heap.size ∧ Up w w' ∧ SameOs w w'

section
variable {P : Program} {pu : Bool} {st : St} {ops : Array Oper} {k m : Nat} {Q : St → Prop}

theorem UpW.keep {w w' : World} (h : UpW w w') (g : Gh) (o : Own) : Keep o g w g w' := fun k b h1 h2 => ⟨h1, h.2.1 k b h2⟩
theorem UpW.fr {w w' : World} (h : UpW w w') (g : Gh) : Fr pu g w g w' := ⟨h.1, h.keep g _, h.keep g _, fun _ _ h => h, fun _ _ => h.keep g _, fun _ _ _ => h.keep g _, fun _ => rfl, h.2.2⟩
theorem UpW.rel {w w' : World} {a : Act} {g : Gh} (h : UpW w w') (hr : Rel st a w g) : Rel st a w' g := hr.world (fun o => h.keep g o) (fun _ _ h => h) rfl

def OQ (P : Program) (ops : Array Oper) (l : List Oper) (st : St) (Q : St → Prop) : Prop :=
  ∀ a w g, Rel st a w g → ∀ Qc : Act → Prop, (∀ st' a' g', Q st' → Rel st' a' w g' → (∀ pu, Fr pu g w g' w) → Qc a') → wpQuiet P ops (UpW w) Qc l a

def OQk (P : Program) (ops : Array Oper) (k : Nat) (st : St) (Q : St → Prop) : Prop := OQ P ops (ops.toList.drop k) st Q

theorem OQk.done (h : decide (ops.size ≤ k) = true) (hq : Q st) : OQk P ops k st Q := by
  have h := of_decide_eq_true h
  unfold OQk
  rw [List.drop_of_length_le (by simpa using h)]
  exact fun a w g hr Qc hc => hc st a g hq hr fun _ => Fr.refl _ _ _

theorem OQk.b {o : Oper} {s : SV} (ho : ops[k]? = some o) (hw : wantS ops st o = some true) (hb : BStep P st o s) (hl : locOk o.dst s = true) (h : OQk P ops (k + 1) (st.put o.dst s) Q) : OQk P ops k st Q := by
  unfold OQk at h ⊢
  rw [drop_cons ho]
  intro a w g hr Qc hc
  unfold wpQuiet
  rw [wantS_sound hr hw, if_pos rfl]
  obtain ⟨v, e1, e2⟩ := hb a w g hr
  refine ⟨v, fun w' hw' => ?_, h _ w g (hr.putBV e1 hl) Qc hc⟩
  unfold Oper.quietAt
  rw [e2 w' hw'.2.1]
  exact ⟨rfl, rfl⟩

theorem OQk.steal {o : Oper} {steal : List Nat} {st' : St} (ho : ops[k]? = some o) (hw : wantS ops st o = some true) (hb : stealB steal st o = some st') (h : OQk P ops (k + 1) st' Q) : OQk P ops k st Q := by
  unfold stealB at hb
  split at hb
  · rename_i s hop
    split at hb
    · rename_i n xs hs
      split at hb
      · cases hb
        unfold OQk at h ⊢
        rw [drop_cons ho]
        intro a w g hr Qc hc
        unfold wpQuiet
        rw [wantS_sound hr hw, if_pos rfl]
        have hexec : ∀ w', (execOp a.eval o).run P w' = .ok (.value (valOf a s)) w' := fun w' => by unfold execOp; rw [hop]; rfl
        obtain ⟨g', r, f⟩ := hr.moveOwn (pu := true) P hop hs
        refine ⟨valOf a s, fun w' hw' => ?_, h _ w g' r Qc fun st' a' g2 q r2 f2 => hc st' a' g2 q r2 fun pu => Fr.trans ⟨f.1, f.2, f.3, f.4, fun _ => f.5 rfl, fun _ => f.6 rfl, fun _ => f.7 rfl, f.8⟩ (f2 pu)⟩
        unfold Oper.quietAt
        rw [hexec w']
        exact ⟨rfl, rfl⟩
      · cases hb
    · cases hb
  · cases hb

theorem OQk.skip {o : Oper} (ho : ops[k]? = some o) (hw : wantS ops st o = some false) (h : OQk P ops (k + 1) (st.put o.dst (.tup [])) Q) : OQk P ops k st Q := by
  unfold OQk at h ⊢
  rw [drop_cons ho]
  intro a w g hr Qc hc
  unfold wpQuiet
  rw [wantS_sound hr hw, if_neg (by simp)]
  exact h _ w g (hr.putLight o.dst (v := undef) ⟨#[], rfl, rfl, by simp⟩) Qc hc

theorem OQk.seg {steal : List Nat} {st' : St} (n : Nat) (hr : runSegB P steal ops n k st = some st') (h : OQk P ops (k + n) st' Q) : OQk P ops k st Q := by
  induction n generalizing k st with
  | zero => cases hr; exact h
  | succ n ih =>
    simp only [runSegB] at hr
    split at hr
    · rename_i o ho
      split at hr
      · rename_i st1 h1
        have ih' := ih hr (by rw [show k + 1 + n = k + (n + 1) by omega]; exact h)
        unfold opStepB at h1
        split at h1
        · rename_i hw
          cases h1
          exact OQk.skip ho hw ih'
        · rename_i hw
          split at h1
          · rename_i st2 h2
            cases h1
            exact OQk.steal ho hw h2 ih'
          · split at h1
            · rename_i s hb
              split at h1
              · rename_i hl
                cases h1
                exact OQk.b ho hw (BStep.of_bop hb) hl ih'
              · cases h1
            · cases h1
        · cases h1
      · cases hr
    · cases hr

theorem OQk.keep (L : List Nat) {st' : St} (hst : keepR L st = some st') (h : OQk P ops k st' Q) : OQk P ops k st Q :=
  fun a w g hr => h a w g (hr.keepR hst)

theorem OQk.case (b : Bool) (S : Bool → St) (h0 : st = S b) (hT : b = true → OQk P ops k (S true) Q) (hF : b = false → OQk P ops k (S false) Q) : OQk P ops k st Q := by
  subst h0
  cases b
  · exact hF rfl
  · exact hT rfl

/-- A call as the callee gets it. -/
theorem callS_run {a : Act} {w : World} {g : Gh} (hrel : Rel st a w g) {o : Oper} {c : Call} {kk : CallS} {r : SV} (hop : o.op = .call c) (hc : callS P st [] c = some kk) (hp : PC P kk.f kk.args r) :
    ∃ args, (execOp a.eval o).run P w = .ok (.enter kk.f args) w ∧ Calls P kk.f args w fun e w' => ∃ v g', e = .returned v ∧ RRes g' w' v r ∧ Fr true (g.ren (calleeOw kk.ls kk.gs)) w g' w' := by
  unfold callS at hc
  split at hc
  · rename_i fo hcallee
    split at hc
    · rename_i f first caps hfo
      split at hc
      · rename_i ss ls gs hargs
        split at hc
        · rename_i hok
          cases hc
          rw [Bool.and_eq_true] at hok
          obtain ⟨hgive, hfn⟩ := hok
          have hgs := giveOk_spec hgive
          have hrf := valD_d hrel hfo
          obtain ⟨vf, vc, hev, lf, lc, rf, rc⟩ : ∃ vf vc : Array Value, a.eval fo = .func (.func f) vf vc ∧ vf.size = first.length ∧ vc.size = caps.length ∧
              (∀ (j : Nat) (y : D), first[j]? = some y → ∃ u, vf[j]? = some u ∧ Rd g w u y) ∧ (∀ (j : Nat) (y : D), caps[j]? = some y → ∃ u, vc[j]? = some u ∧ Rd g w u y) := by
            generalize a.eval fo = v at hrf
            cases hrf with
            | fn hl1 hl2 us1 us2 hc1 hr1 hc2 hr2 => exact ⟨_, _, rfl, hl1, hl2, fun j y hj => ⟨us1 j, hc1 j y hj, hr1 j y hj⟩, fun j y hj => ⟨us2 j, hc2 j y hj, hr2 j y hj⟩⟩
          obtain ⟨la, ra⟩ := argsS_sound hrel hgs hargs (fun _ h => h) (fun _ h => h)
          have hexec : (execOp a.eval o).run P w = .ok (.enter f (vf ++ c.args.map a.eval ++ vc)) w := by
            unfold execOp
            rw [hop]
            exact run_call hcallee hev hfn w
          refine ⟨_, hexec, ?_⟩
          have hRA : RArgs (g.ren (calleeOw ls gs)) w (vf ++ c.args.map a.eval ++ vc) (first.map .d ++ ss ++ caps.map .d) := by
            have hla : (c.args.map a.eval).size = ss.length := by rw [← la]; simp
            have hla' : c.args.size = ss.length := by rw [← la]; simp
            refine ⟨by simp [lf, lc, ← la], fun j s hj => ?_⟩
            have kp : ∀ {v : Value} {d : D}, Rd g w v d → Rd (g.ren (calleeOw ls gs)) w v d := fun hr => hr.keep (Keep.ren rfl) (fun _ _ h => h)
            by_cases j1 : j < first.length
            · rw [List.append_assoc, List.getElem?_append_left (by simpa using j1), List.getElem?_map] at hj
              simp only [Option.map_eq_some_iff] at hj
              obtain ⟨d, hd, rfl⟩ := hj
              obtain ⟨u, e1, e2⟩ := rf j d hd
              exact ⟨u, by rw [Array.append_assoc, Array.getElem?_append_left (by omega)]; exact e1, kp e2⟩
            · by_cases j2 : j < first.length + ss.length
              · rw [List.getElem?_append_left (by simp; omega), List.getElem?_append_right (by simp; omega)] at hj
                simp only [List.length_map] at hj
                obtain ⟨x, e1, e2⟩ := ra _ s hj
                refine ⟨a.eval x, ?_, by rw [show first.length + (j - first.length) = j by omega] at e2; exact e2⟩
                rw [Array.getElem?_append_left (by simp [lf]; omega), Array.getElem?_append_right (by omega), Array.getElem?_map, lf]
                rw [Array.getElem?_toList] at e1
                rw [e1]; rfl
              · rw [List.getElem?_append_right (by simp; omega), List.getElem?_map] at hj
                simp only [Option.map_eq_some_iff, List.length_append, List.length_map] at hj
                obtain ⟨d, hd, rfl⟩ := hj
                obtain ⟨u, e1, e2⟩ := rc _ d hd
                refine ⟨u, ?_, kp e2⟩
                rw [Array.getElem?_append_right (by simp [lf]; omega)]
                simpa [lf, ← la] using e1
          refine (hp _ w (g.ren (calleeOw ls gs)) _ hRA (hrel.hp.lend (ls := ls) (gs := gs))).mono fun e w' hh => ?_
          obtain ⟨v, g', rfl, hres, -, hf⟩ := hh
          exact ⟨v, g', rfl, hres, hf⟩
        · cases hc
      · cases hc
    · cases hc
  · cases hc

/-- What the caller had is left as it was. -/
theorem up_of_fr {g g' : Gh} {w w' : World} {ls : List Loc} (h : Fr true (g.ren (calleeOw ls [])) w g' w') : UpW w w' := by
  refine ⟨h.size, fun k o hk => ?_, h.os⟩
  have key : (g.ren (calleeOw ls [])).ow k = calleeOw ls [] (g.ow k) := rfl
  have hex : ∀ o', calleeOw ls [] o' = .free ∨ calleeOw ls [] o' = .out ∨ (∃ i, calleeOw ls [] o' = .obj i) ∨ ∃ i j, calleeOw ls [] o' = .lst (.hcell i j) := fun o' => by
    cases o' with
    | free => exact .inl rfl
    | out => exact .inr (.inl rfl)
    | box t => exact .inr (.inl rfl)
    | obj i => exact .inr (.inr (.inl ⟨i, rfl⟩))
    | lst l =>
      simp only [calleeOw]
      split
      · exact .inl rfl
      · cases l with
        | hcell i j => exact .inr (.inr (.inr ⟨i, j, rfl⟩))
        | slot s => exact .inr (.inl rfl)
        | _ => exact .inr (.inl rfl)
  rcases hex (g.ow k) with e | e | ⟨i, e⟩ | ⟨i, j, e⟩
  · exact (h.free k o (key.trans e) hk).2
  · exact (h.out k o (key.trans e) hk).2
  · exact (h.obj rfl i k o (key.trans e) hk).2
  · exact (h.hcell rfl i j k o (key.trans e) hk).2

theorem OQk.call {o : Oper} {c : Call} {f : FuncId} {args : List SV} {ls : List Loc} {r : SV} {v : Value} (ho : ops[k]? = some o) (hw : wantS ops st o = some true) (hop : o.op = .call c)
    (hc : callS P st [] c = some ⟨f, args, ls, []⟩) (hp : PC P f args r) (hr : detS r = some v) (h : OQk P ops (k + 1) (st.put o.dst r) Q) : OQk P ops k st Q := by
  unfold OQk at h ⊢
  rw [drop_cons ho]
  intro a w g hrel Qc hq
  unfold wpQuiet
  rw [wantS_sound hrel hw, if_pos rfl]
  cases r with
  | d x =>
    -- the value reads as that in the world of now too: it is told by the data
    refine ⟨v, fun w' hw' => ?_, h _ w g (hrel.putLight o.dst (v := v) ?_) Qc hq⟩
    · obtain ⟨as, e1, e2⟩ := callS_run (hw'.rel hrel) hop hc hp
      unfold Oper.quietAt
      rw [e1]
      refine ⟨rfl, e2.mono fun e w'' hh => ?_⟩
      obtain ⟨v', g', rfl, hres, hf⟩ := hh
      have hrd : Rd g' w'' v' x := hres
      refine ⟨by rw [detV_rd hrd hr], ?_⟩
      have := up_of_fr hf
      exact ⟨Nat.le_trans hw'.1 this.1, fun k o hk => this.2.1 k o (hw'.2.1 k o hk), hw'.2.2.trans this.2.2⟩
    · exact det_rd hr
  | _ => simp [detS] at hr
where
  det1_rd {g : Gh} {w : World} {u : Value} {d : D} (hd : detV1 d = some u) : Rd g w u d := by
    unfold detV1 at hd
    split at hd
    · cases hd
      exact .fn rfl rfl (fun _ => undef) (fun _ => undef) (by simp) (by simp) (by simp) (by simp)
    · exact rd_leafV hd
  det1_one {u : Value} {d : D} (hd : detV1 d = some u) : u.oneCell' = true := by
    cases d <;> simp only [detV1, leafV, Option.map_eq_some_iff, Option.some.injEq, reduceCtorEq] at hd
    all_goals first
      | (subst hd; rfl)
      | (obtain ⟨_, _, rfl⟩ := hd; rfl)
      | (split at hd <;> first | (cases hd; rfl) | (simp [leafV] at hd))
  dets_rd {g : Gh} {w : World} : ∀ {cs : List D} {vs : List Value}, detVs cs = some vs → vs.length = cs.length ∧ ∀ (j : Nat) (y : D), cs[j]? = some y → ∃ u, vs[j]? = some u ∧ Rd g w u y ∧ u.oneCell' = true
    | [], vs, h => by simp [detVs] at h; subst h; simp
    | d :: ds, vs, h => by
      simp only [detVs] at h
      split at h
      · rename_i v vs' h1 h2
        cases h
        obtain ⟨hl, hr⟩ := dets_rd (g := g) (w := w) h2
        refine ⟨by simp [hl], fun j y hj => ?_⟩
        cases j with
        | zero => simp at hj; subst hj; exact ⟨v, by simp, det1_rd h1, det1_one h1⟩
        | succ j => simpa using hr j y (by simpa using hj)
      · cases h
  det_rd {g : Gh} {w : World} {u : Value} {d : D} (hd : detV d = some u) : Rd g w u d := by
    unfold detV at hd
    split at hd
    · simp only [Option.map_eq_some_iff] at hd
      obtain ⟨vs, h1, rfl⟩ := hd
      obtain ⟨hl, hr⟩ := dets_rd (g := g) (w := w) h1
      exact Rd.agg' (by simpa using hl) (fun j y hj => by simpa using hr j y hj)
    · exact det1_rd hd

theorem SW.regionQ {id : Nat} {l : List Oper} {Q : Exit → St → Prop} (hm : P.follows .mixedOrders = true) (hB : Region.lexB .any l.toArray = true) (h : OQk P l.toArray 0 st (Q .normal)) : SW P pu (.region id l.toArray true) st Q := by
  intro a w g hr
  refine wp_region_quiet (C := UpW w.drew) hm hB ⟨Nat.le_refl _, fun _ _ h => h, SameOs.refl _⟩ ?_
  unfold OQk at h
  rw [List.drop_zero] at h
  exact h a w.drew g hr.drew _ fun st' a' g' q r f w' hw' => ⟨st', g', q, hw'.rel r, (Fr.drew.trans (f pu)).trans (hw'.fr g')⟩

variable (n : Nat) (H : List SObj)
theorem OQk.sg (steal L : List Nat) (j : Nat) (l : List (Nat × SV)) (hr : (runSegB P steal ops j k st).bind (pickR n L) = some (l, H)) (h : OQk P ops (k + j) (sp n l H) Q) : OQk P ops k st Q := by
  have := bind_pick hr
  simp only [Option.bind_eq_some_iff] at this
  obtain ⟨st1, h1, h2⟩ := this
  exact OQk.seg j h1 (OQk.keep L h2 h)
theorem OQk.mg (L : List Nat) (j : Nat) (b : Bool) (S : Bool → St) (l : Bool → List (Nat × SV)) (h0 : st = S b) (hT : (runSegB P [] ops j k (S true)).bind (pickR n L) = some (l true, H)) (hF : (runSegB P [] ops j k (S false)).bind (pickR n L) = some (l false, H))
    (h : OQk P ops (k + j) (sp n (l b) H) Q) : OQk P ops k st Q := by
  subst h0
  exact OQk.sg n H [] L j (l b) (by cases b <;> assumption) h
theorem OQk.on {d : Option Tmp} {s : SV} (L : List Nat) (l : List (Nat × SV)) (hb : BAt P ops k st d s) (hst : pickR n L (st.put d s) = some (l, H)) (h : OQk P ops (k + 1) (sp n l H) Q) : OQk P ops k st Q := by
  obtain ⟨o, h1, h2, h3, h4, rfl⟩ := hb
  exact OQk.b h1 h2 h3 h4 (OQk.keep L (keepR_of_pick hst) h)
theorem OQk.cl {f : FuncId} {args : List SV} {ls : List Loc} {d : Option Tmp} {r : SV} (L : List Nat) (l : List (Nat × SV)) (hp : PC P f args r) (h : callAt P ops k st [] = some (d, f, args, ls, [])) (hr : (detS r).isSome = true)
    (hst : pickR n L (st.put d r) = some (l, H)) (hn : OQk P ops (k + 1) (sp n l H) Q) : OQk P ops k st Q := by
  unfold callAt at h
  split at h
  · rename_i o ho
    split at h
    · rename_i c hop
      split at h
      · rename_i cs hcs
        simp only [Option.some.injEq, Prod.mk.injEq] at h
        obtain ⟨rfl, rfl, rfl, rfl, h5⟩ := h
        obtain ⟨h1, h2⟩ := opAt_inv ho
        obtain ⟨v, hv⟩ := Option.isSome_iff_exists.1 hr
        refine OQk.call (ls := cs.ls) h1 h2 hop ?_ hp hv (OQk.keep L (keepR_of_pick hst) hn)
        rw [hcs, ← h5]
      · cases h
    · cases h
  · cases h
end
end Go.Sh
namespace Go.Sh
section
variable {P : Program} {pu : Bool} {st : St} {ops : Array Oper} {k m : Nat} {Q : St → Prop}
/-- A number is known: the state with it. -/
theorem OQk.lit (S : Int → St) {e j : Int} (h0 : st = S e) (hc : (e == j) = true) (h : OQk P ops k (S j) Q) : OQk P ops k st Q := by
  subst h0
  rw [eq_of_beq hc]; exact h
theorem OWk.lit (S : Int → St) {e j : Int} (h0 : st = S e) (hc : (e == j) = true) (h : OWk P pu ops k (S j) Q) : OWk P pu ops k st Q := by
  subst h0
  rw [eq_of_beq hc]; exact h
theorem OBk.lit (S : Int → St) {e j : Int} (h0 : st = S e) (hc : (e == j) = true) (h : OBk P ops m k (S j) Q) : OBk P ops m k st Q := by
  subst h0
  rw [eq_of_beq hc]; exact h
end
end Go.Sh
namespace Go.Sh
section
variable {P : Program} {pu : Bool} {st : St}
/-- Rounds of a loop, one by one. -/
def Rounds (P : Program) (pu : Bool) (c : Code) (Q : Exit → St → Prop) (n : Nat) (H : List SObj) (L : List Nat) : List (List (Nat × SV)) → Prop
  | [] => False
  | [l] => SW P pu c (sp n l H) (thenS (fun _ => False) Q)
  | l :: l' :: r => SW P pu c (sp n l H) (thenS (fun t => ∃ u : Unit, pickR n L t = some (l', H)) Q) ∧ Rounds P pu c Q n H L (l' :: r)

theorem SW.rounds {c : Code} {Q : Exit → St → Prop} (n : Nat) (H : List SObj) (L : List Nat) (l : List (Nat × SV)) (r : List (List (Nat × SV))) (h0 : pickR n L st = some (l, H)) (h : Rounds P pu c Q n H L (l :: r)) : SW P pu (.loop c) st Q := by
  refine SW.keep L (keepR_of_pick h0) ?_
  intro a w g hr
  refine wp_loop_ghost (x := (⟨(l, r), h⟩, g)) (fun (x : {p : List (Nat × SV) × List (List (Nat × SV)) // Rounds P pu c Q n H L (p.1 :: p.2)} × Gh) a' w' => Rel (sp n x.1.1.1 H) a' w' x.2 ∧ Fr pu g w x.2 w') (fun x => x.1.1.2.length) ⟨hr, Fr.refl _ _ _⟩ fun x a1 w1 ⟨r1, f1⟩ => ?_
  obtain ⟨⟨⟨l1, rr⟩, hx⟩, g1⟩ := x
  cases rr with
  | nil =>
    refine Code.wp_mono (fun e a' w' hh => ?_) ((hx : SW P pu c (sp n l1 H) _) a1 w1 g1 r1)
    obtain ⟨st', g', q, r2, f2⟩ := hh
    cases e with
    | normal => exact q.elim
    | _ => exact ⟨st', g', q, r2, f1.trans f2⟩
  | cons l2 rr =>
    refine Code.wp_mono (fun e a' w' hh => ?_) ((hx : _ ∧ _).1 a1 w1 g1 r1)
    obtain ⟨st', g', q, r2, f2⟩ := hh
    cases e with
    | normal => obtain ⟨_, q⟩ := q; exact ⟨(⟨(l2, rr), (hx : _ ∧ _).2⟩, g'), ⟨r2.keepR (keepR_of_pick q), f1.trans f2⟩, by simp⟩
    | _ => exact ⟨st', g', q, r2, f1.trans f2⟩
end
end Go.Sh
