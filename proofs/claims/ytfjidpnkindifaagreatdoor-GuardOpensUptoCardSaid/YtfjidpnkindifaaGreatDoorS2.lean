/- Contracts of functions over plain data. -/
import Derived.Test.YtfjidpnkindifaaGreatDoorS1
import Derived.Deep.Quiet
import Derived.Lib.ConvBytes
import Derived.Maps.RangeRun
import Derived.Lib.SliceRun
import Derived.Laws.Externs
import Derived.IntWalk
import Derived.Lib.Bytealg
import Derived.Sort.Grow
import Derived.Recover
import Derived.RangeFuncNested
import Derived.TacticsIn
import Derived.Lib.FrozenHead
import Derived.KernelRfl
import Derived.OrdersIn
set_option linter.all false
set_option autoImplicit true
set_option relaxedAutoImplicit true
namespace Go.Sh
def detV1 : D → Option Value
  | .fn f [] [] => some (.func f #[] #[])
  | d => leafV d
def detVs : List D → Option (List Value)
  | [] => some []
  | d :: ds => match detV1 d, detVs ds with
    | some v, some vs => some (v :: vs)
    | _, _ => none
def detV : D → Option Value
  | .agg cs => (detVs cs).map fun vs => .agg vs.toArray
  | d => detV1 d
theorem detV1_rd (h : Rd g w v d) (hd : detV1 d = some u) : v = u := by
  unfold detV1 at hd
  split at hd
  · cases hd
    cases h with
    | fn hl1 hl2 us1 us2 hc1 hr1 hc2 hr2 =>
      grind
  · exact leafV_rd hd h
theorem detVs_rd : ∀ {cs : List D} {vs : List Value} {us : List Value}, detVs cs = some vs → us.length = cs.length → (∀ (j : Nat) (y : D), cs[j]? = some y → ∃ u, us[j]? = some u ∧ Rd g w u y) → us = vs
  | [], vs, us, h, hl, _ => by simp [detVs] at h; subst h; simpa using hl
  | d :: ds, vs, us, h, hl, hr => by
    simp only [detVs] at h
    split at h
    · rename_i v vs' h1 h2
      cases h
      cases us with
      | nil => simp at hl
      | cons u us =>
        obtain ⟨u', e1, e2⟩ := hr 0 d (by simp)
        simp at e1; subst e1
        rw [detV1_rd e2 h1, detVs_rd (us := us) h2 (by simpa using hl) (fun j y hj => by simpa using hr (j + 1) y (by simpa using hj))]
    · cases h
theorem detV_rd (h : Rd g w v d) (hd : detV d = some u) : v = u := by
  unfold detV at hd
  split at hd
  · rename_i cs
    simp only [Option.map_eq_some_iff] at hd
    obtain ⟨vs, h1, rfl⟩ := hd
    cases h with
    | agg hl us hc hr =>
      rename_i us0
      have := detVs_rd (us := us0.toList) h1 (by simpa using hl) (fun j y hj => ⟨us j, by simpa using (hc j y hj).1, hr j y hj⟩)
      rw [← this]
  · exact detV1_rd h hd
def detTs : List SV → Option (List Value)
  | [] => some []
  | .d x :: r => match detV x, detTs r with
    | some v, some vs => some (v :: vs)
    | _, _ => none
  | _ => none
def detS : SV → Option Value
  | .d x => detV x
  | .tup vs => (detTs vs).map fun us => .tuple us.toArray
  | _ => none
theorem detTs_get : ∀ {vs : List SV} {ws : List Value}, detTs vs = some ws → ws.length = vs.length ∧ ∀ (j : Nat) (s : SV), vs[j]? = some s → ∃ u x, ws[j]? = some u ∧ s = .d x ∧ detV x = some u
  | [], ws, h => by simp [detTs] at h; subst h; simp
  | .d x :: r, ws, h => by
    simp only [detTs] at h
    split at h
    · rename_i v vs' h1 h2
      cases h
      obtain ⟨hl, hr⟩ := detTs_get h2
      grind
    · cases h
  | .own _ _ :: _, _, h => by simp [detTs] at h
  | .lent _ _ _ :: _, _, h => by simp [detTs] at h
  | .lptr _ _ :: _, _, h => by simp [detTs] at h
  | .box _ :: _, _, h => by simp [detTs] at h
  | .loc _ _ :: _, _, h => by simp [detTs] at h
  | .tup _ :: _, _, h => by simp [detTs] at h
  | .undef :: _, _, h => by simp [detTs] at h
  | .als _ :: _, _, h => by simp [detTs] at h
  | .ep _ _ _ :: _, _, h => by simp [detTs] at h
  | .pin _ _ _ :: _, _, h => by simp [detTs] at h
def UpW (w w' : World) : Prop := w.heap.size ≤ w'.heap.size ∧ Up w w' ∧ SameOs w w'
section
variable {P : Program} {pu : Bool} {st : St} {ops : Array Oper} {k m : Nat} {Q : St → Prop}
theorem UpW.keep (h : UpW w w') (g : Gh) (o : Own) : Keep o g w g w' := fun k b h1 h2 => ⟨h1, h.2.1 k b h2⟩
theorem UpW.fr (h : UpW w w') (g : Gh) : Fr pu g w g w' := ⟨h.1, h.keep g _, h.keep g _, fun _ _ h => h, fun _ _ => h.keep g _, fun _ _ _ => h.keep g _, fun _ => rfl, h.2.2⟩
theorem UpW.rel (h : UpW w w') (hr : Rel st a w g) : Rel st a w' g := hr.world (fun o => h.keep g o) (fun _ _ h => h) rfl
def OQ (P : Program) (ops : Array Oper) (l : List Oper) (st : St) (Q : St → Prop) : Prop :=
  ∀ a w g, Rel st a w g → ∀ Qc : Act → Prop, (∀ st' a' g', Q st' → Rel st' a' w g' → (∀ pu, Fr pu g w g' w) → Qc a') → wpQuiet P ops (UpW w) Qc l a
def OQk (P : Program) (ops : Array Oper) (k : Nat) (st : St) (Q : St → Prop) : Prop := OQ P ops (ops.toList.drop k) st Q
theorem OQk.done (h : decide (ops.size ≤ k) = true) (hq : Q st) : OQk P ops k st Q := by
  have h := of_decide_eq_true h
  unfold OQk
  rw [List.drop_of_length_le (by simpa using h)]
  exact fun a w g hr Qc hc => hc st a g hq hr fun _ => Fr.refl _ _ _
theorem OQk.b (ho : ops[k]? = some o) (hw : wantS ops st o = some true) (hb : BStep P st o s) (hl : locOk o.dst s = true) (h : OQk P ops (k + 1) (st.put o.dst s) Q) : OQk P ops k st Q := by
  unfold OQk at h ⊢
  rw [drop_cons ho]
  intro a w g hr Qc hc
  unfold wpQuiet
  rw [wantS_sound hr hw, if_pos rfl]
  obtain ⟨v, e1, e2⟩ := hb a w g hr
  refine ⟨v, fun w' hw' => ?_, h _ w g (hr.putBV e1 hl) Qc hc⟩
  unfold Oper.quietAt
  rw [e2 w' hw'.2.1]
  exact ⟨rfl, rfl⟩
theorem OQk.steal {o : Oper} {steal : List Nat} {st' : St} (ho : ops[k]? = some o) (hw : wantS ops st o = some true) (hb : stealB steal st o = some st') (h : OQk P ops (k + 1) st' Q) : OQk P ops k st Q := by
  unfold stealB at hb
  split at hb
  · rename_i s hop
    split at hb
    · rename_i n xs hs
      split at hb
      · cases hb
        unfold OQk at h ⊢
        rw [drop_cons ho]
        intro a w g hr Qc hc
        unfold wpQuiet
        rw [wantS_sound hr hw, if_pos rfl]
        have hexec : ∀ w', (execOp a.eval o).run P w' = .ok (.value (valOf a s)) w' := fun w' => by unfold execOp; rw [hop]; rfl
        obtain ⟨g', r, f⟩ := hr.moveOwn (pu := true) P hop hs
        refine ⟨valOf a s, fun w' hw' => ?_, h _ w g' r Qc fun st' a' g2 q r2 f2 => hc st' a' g2 q r2 fun pu => Fr.trans ⟨f.1, f.2, f.3, f.4, fun _ => f.5 rfl, fun _ => f.6 rfl, fun _ => f.7 rfl, f.8⟩ (f2 pu)⟩
        unfold Oper.quietAt
        rw [hexec w']
        exact ⟨rfl, rfl⟩
      · cases hb
    · cases hb
  · cases hb
theorem OQk.skip (ho : ops[k]? = some o) (hw : wantS ops st o = some false) (h : OQk P ops (k + 1) (st.put o.dst (.tup [])) Q) : OQk P ops k st Q := by
  unfold OQk at h ⊢
  rw [drop_cons ho]
  intro a w g hr Qc hc
  unfold wpQuiet
  rw [wantS_sound hr hw, if_neg (by simp)]
  exact h _ w g (hr.putLight o.dst (v := undef) ⟨#[], rfl, rfl, by simp⟩) Qc hc
theorem OQk.seg {steal : List Nat} {st' : St} (n : Nat) (hr : runSegB P steal ops n k st = some st') (h : OQk P ops (k + n) st' Q) : OQk P ops k st Q := by
  induction n generalizing k st with
  | zero => cases hr; exact h
  | succ n ih =>
    simp only [runSegB] at hr
    split at hr
    · rename_i o ho
      split at hr
      · rename_i st1 h1
        have ih' := ih hr (by grind)
        unfold opStepB at h1
        split at h1
        · rename_i hw
          cases h1
          exact OQk.skip ho hw ih'
        · rename_i hw
          split at h1
          · rename_i st2 h2
            cases h1
            exact OQk.steal ho hw h2 ih'
          · split at h1
            · rename_i s hb
              split at h1
              · rename_i hl
                cases h1
                exact OQk.b ho hw (BStep.of_bop hb) hl ih'
              · cases h1
            · cases h1
        · cases h1
      · cases hr
    · cases hr
theorem OQk.keep (L : List Nat) (hst : keepR L st = some st') (h : OQk P ops k st' Q) : OQk P ops k st Q :=
  fun a w g hr => h a w g (hr.keepR hst)
theorem OQk.case (b : Bool) (S : Bool → St) (h0 : st = S b) (hT : b = true → OQk P ops k (S true) Q) (hF : b = false → OQk P ops k (S false) Q) : OQk P ops k st Q := by
  subst h0
  cases b
  · exact hF rfl
  · exact hT rfl
theorem callS_run (hrel : Rel st a w g) (hop : o.op = .call c) (hc : callS P st [] c = some kk) (hp : SC P true kk.f kk.args (st.H.mapIdx (lendObj kk.ls)) r H') :
    ∃ args, (execOp a.eval o).run P w = .ok (.enter kk.f args) w ∧ Calls P kk.f args w fun e w' => ∃ v g', e = .returned v ∧ RRes g' w' v r ∧ Fr true (g.ren (calleeOw kk.ls kk.gs)) w g' w' := by
  unfold callS at hc
  split at hc
  · rename_i f first caps hcallee
    · split at hc
      · rename_i ss ls gs hargs
        split at hc
        · rename_i hok
          cases hc
          rw [Bool.and_eq_true] at hok
          obtain ⟨hgive, hfn⟩ := hok
          have hgs := giveOk_spec hgive
          obtain ⟨vf, vc, hev, lf, lc, rf, rc⟩ := calleeS_sound hrel hcallee hfn
          obtain ⟨la, ra⟩ := argsS_sound hrel hgs hargs (fun _ h => h) (fun _ h => h)
          have hexec : (execOp a.eval o).run P w = .ok (.enter f (vf ++ c.args.map a.eval ++ vc)) w := by
            unfold execOp
            rw [hop]
            exact hev _ w
          refine ⟨_, hexec, ?_⟩
          have hRA : RArgs (g.ren (calleeOw ls gs)) w (vf ++ c.args.map a.eval ++ vc) (first.map .d ++ ss ++ caps.map .d) := by
            have hla : (c.args.map a.eval).size = ss.length := by rw [← la]; simp
            have hla' : c.args.size = ss.length := by rw [← la]; simp
            refine ⟨by simp [lf, lc, ← la], fun j s hj => ?_⟩
            have kp : ∀ {v : Value} {d : D}, Rd g w v d → Rd (g.ren (calleeOw ls gs)) w v d := fun hr => hr.keep (Keep.ren rfl) (fun _ _ h => h)
            by_cases j1 : j < first.length
            · rw [List.append_assoc, List.getElem?_append_left (by simpa using j1), List.getElem?_map] at hj
              simp only [Option.map_eq_some_iff] at hj
              obtain ⟨d, hd, rfl⟩ := hj
              obtain ⟨u, e1, e2⟩ := rf j d hd
              exact ⟨u, by grind, kp e2⟩
            · by_cases j2 : j < first.length + ss.length
              · grind
              · rw [List.getElem?_append_right (by simp; omega), List.getElem?_map] at hj
                simp only [Option.map_eq_some_iff, List.length_append, List.length_map] at hj
                obtain ⟨d, hd, rfl⟩ := hj
                obtain ⟨u, e1, e2⟩ := rc _ d hd
                refine ⟨u, ?_, kp e2⟩
                grind
          refine (hp w (g.ren (calleeOw ls gs)) _ hRA (hrel.hp.lend (ls := ls) (gs := gs))).mono fun e w' hh => ?_
          grind
        · cases hc
      · cases hc
  · cases hc
theorem up_of_fr {g g' : Gh} {w w' : World} {ls : List Loc} (h : Fr true (g.ren (calleeOw ls [])) w g' w') : UpW w w' := by
  refine ⟨h.size, fun k o hk => ?_, h.os⟩
  have key : (g.ren (calleeOw ls [])).ow k = calleeOw ls [] (g.ow k) := rfl
  have hex : ∀ o', calleeOw ls [] o' = .free ∨ calleeOw ls [] o' = .out ∨ (∃ i, calleeOw ls [] o' = .obj i) ∨ ∃ i j, calleeOw ls [] o' = .lst (.hcell i j) := fun o' => by
    cases o' with
    | free => exact .inl rfl
    | out => exact .inr (.inl rfl)
    | box t => exact .inr (.inl rfl)
    | obj i => exact .inr (.inr (.inl ⟨i, rfl⟩))
    | lst l =>
      simp only [calleeOw]
      grind
  rcases hex (g.ow k) with e | e | ⟨i, e⟩ | ⟨i, j, e⟩
  · exact (h.free k o (key.trans e) hk).2
  · exact (h.out k o (key.trans e) hk).2
  · exact (h.obj rfl i k o (key.trans e) hk).2
  · exact (h.hcell rfl i j k o (key.trans e) hk).2
theorem OQk.call {o : Oper} {c : Call} {f : FuncId} {args : List SV} {ls : List Loc} {r : SV} {v : Value} {H' : List SObj} (ho : ops[k]? = some o) (hw : wantS ops st o = some true) (hop : o.op = .call c)
    (hc : callS P st [] c = some ⟨f, args, ls, []⟩) (hp : SC P true f args (st.H.mapIdx (lendObj ls)) r H') (hr : detS r = some v) (h : OQk P ops (k + 1) (st.put o.dst r) Q) : OQk P ops k st Q := by
  unfold OQk at h ⊢
  rw [drop_cons ho]
  intro a w g hrel Qc hq
  unfold wpQuiet
  rw [wantS_sound hrel hw, if_pos rfl]
  cases r with
  | d x =>
    -- the value reads as that in the world of now too: it is told by the data
    refine ⟨v, fun w' hw' => ?_, h _ w g (hrel.putLight o.dst (v := v) ?_) Qc hq⟩
    · obtain ⟨as, e1, e2⟩ := callS_run (hw'.rel hrel) hop hc hp
      unfold Oper.quietAt
      rw [e1]
      refine ⟨rfl, e2.mono fun e w'' hh => ?_⟩
      obtain ⟨v', g', rfl, hres, hf⟩ := hh
      have hrd : Rd g' w'' v' x := hres
      refine ⟨by rw [detV_rd hrd hr], ?_⟩
      have := up_of_fr hf
      exact ⟨Nat.le_trans hw'.1 this.1, fun k o hk => this.2.1 k o (hw'.2.1 k o hk), hw'.2.2.trans this.2.2⟩
    · exact det_rd hr
  | tup vs =>
    simp only [detS, Option.map_eq_some_iff] at hr
    obtain ⟨us, hr, rfl⟩ := hr
    obtain ⟨hl, hg⟩ := detTs_get hr
    refine ⟨.tuple us.toArray, fun w' hw' => ?_, h _ w g (hrel.put o.dst fun t _ _ => ?_) Qc hq⟩
    · obtain ⟨as, e1, e2⟩ := callS_run (hw'.rel hrel) hop hc hp
      unfold Oper.quietAt
      rw [e1]
      refine ⟨rfl, e2.mono fun e w'' hh => ?_⟩
      obtain ⟨v', g', rfl, hres, hf⟩ := hh
      obtain ⟨us', rfl, hl', hg'⟩ := hres
      refine ⟨?_, ?_⟩
      · congr 2
        apply Array.ext'
        apply List.ext_getElem?
        intro j
        by_cases hj : j < vs.length
        · obtain ⟨u, x, e1, e2, e3⟩ := hg j vs[j] (by simp [hj])
          obtain ⟨u', e4, e5⟩ := hg' j vs[j] (by simp [hj])
          rw [e2] at e5
          have hrd : Rd g' w'' u' x := e5
          have := detV_rd hrd e3
          grind
        grind
      · have := up_of_fr hf
        exact ⟨Nat.le_trans hw'.1 this.1, fun k o hk => this.2.1 k o (hw'.2.1 k o hk), hw'.2.2.trans this.2.2⟩
    · refine ⟨us.toArray, rfl, by simpa using hl, fun j s hj => ?_⟩
      obtain ⟨u, x, e1, rfl, e3⟩ := hg j s hj
      exact ⟨u, by simpa using e1, (det_rd e3 : Rd _ _ u x)⟩
  | _ => simp [detS] at hr
where
  det1_rd {g : Gh} {w : World} {u : Value} {d : D} (hd : detV1 d = some u) : Rd g w u d := by
    unfold detV1 at hd
    split at hd
    · cases hd
      exact .fn rfl rfl (fun _ => undef) (fun _ => undef) (by simp) (by simp) (by simp) (by simp)
    · exact rd_leafV hd
  det1_one {u : Value} {d : D} (hd : detV1 d = some u) : u.oneCell' = true := by
    cases d <;> simp only [detV1, leafV, Option.map_eq_some_iff, Option.some.injEq, reduceCtorEq] at hd
    all_goals first
      | (subst hd; rfl)
      | (obtain ⟨_, _, rfl⟩ := hd; rfl)
      | (split at hd <;> first | (cases hd; rfl) | (simp [leafV] at hd))
  dets_rd {g : Gh} {w : World} : ∀ {cs : List D} {vs : List Value}, detVs cs = some vs → vs.length = cs.length ∧ ∀ (j : Nat) (y : D), cs[j]? = some y → ∃ u, vs[j]? = some u ∧ Rd g w u y ∧ u.oneCell' = true
    | [], vs, h => by simp [detVs] at h; subst h; simp
    | d :: ds, vs, h => by
      simp only [detVs] at h
      split at h
      · rename_i v vs' h1 h2
        cases h
        obtain ⟨hl, hr⟩ := dets_rd (g := g) (w := w) h2
        refine ⟨by simp [hl], fun j y hj => ?_⟩
        cases j with
        | zero => simp at hj; subst hj; exact ⟨v, by simp, det1_rd h1, det1_one h1⟩
        | succ j => grind
      · cases h
  det_rd {g : Gh} {w : World} {u : Value} {d : D} (hd : detV d = some u) : Rd g w u d := by
    unfold detV at hd
    split at hd
    · simp only [Option.map_eq_some_iff] at hd
      obtain ⟨vs, h1, rfl⟩ := hd
      obtain ⟨hl, hr⟩ := dets_rd (g := g) (w := w) h1
      exact Rd.agg' (by simpa using hl) (fun j y hj => by simpa using hr j y hj)
    · exact det1_rd hd
theorem SW.regionQ {id : Nat} {l : List Oper} {Q : Exit → St → Prop} (hm : P.follows .mixedOrders = true) (hB : Region.lexB .any l.toArray = true) (h : OQk P l.toArray 0 st (Q .normal)) : SW P pu (.region id l.toArray true) st Q := by
  intro a w g hr
  refine wp_region_quiet (C := UpW w.drew) hm hB ⟨Nat.le_refl _, fun _ _ h => h, SameOs.refl _⟩ ?_
  unfold OQk at h
  rw [List.drop_zero] at h
  exact h a w.drew g hr.drew _ fun st' a' g' q r f w' hw' => ⟨st', g', q, hw'.rel r, (Fr.drew.trans (f pu)).trans (hw'.fr g')⟩
variable (n : Nat) (H : List SObj)
theorem OQk.sg (steal L : List Nat) (j : Nat) (l : List (Nat × SV)) (hr : (runSegB P steal ops j k st).bind (pickR n L) = some (l, H)) (h : OQk P ops (k + j) (sp n l H) Q) : OQk P ops k st Q := by
  have := bind_pick hr
  simp only [Option.bind_eq_some_iff] at this
  obtain ⟨st1, h1, h2⟩ := this
  exact OQk.seg j h1 (OQk.keep L h2 h)
theorem OQk.on (L : List Nat) (l : List (Nat × SV)) (hb : BAt P ops k st d s) (hst : pickR n L (st.put d s) = some (l, H)) (h : OQk P ops (k + 1) (sp n l H) Q) : OQk P ops k st Q := by
  obtain ⟨o, h1, h2, h3, h4, rfl⟩ := hb
  exact OQk.b h1 h2 h3 h4 (OQk.keep L (keepR_of_pick hst) h)
theorem OQk.cl (L : List Nat) (l : List (Nat × SV)) (hp : PC P f args r) (h : callAt P ops k st [] = some (d, f, args, ls, [])) (hr : (detS r).isSome = true)
    (hst : pickR n L (st.put d r) = some (l, H)) (hn : OQk P ops (k + 1) (sp n l H) Q) : OQk P ops k st Q := by
  unfold callAt at h
  split at h
  · rename_i o ho
    split at h
    · rename_i c hop
      split at h
      · rename_i cs hcs
        simp only [Option.some.injEq, Prod.mk.injEq] at h
        obtain ⟨rfl, rfl, rfl, rfl, h5⟩ := h
        obtain ⟨h1, h2⟩ := opAt_inv ho
        obtain ⟨v, hv⟩ := Option.isSome_iff_exists.1 hr
        refine OQk.call (ls := cs.ls) h1 h2 hop ?_ (hp _) hv (OQk.keep L (keepR_of_pick hst) hn)
        rw [hcs, ← h5]
      · cases h
    · cases h
  · cases h
end
end Go.Sh
namespace Go.Sh
section
variable {P : Program} {pu : Bool} {st : St} {ops : Array Oper} {k m : Nat} {Q : St → Prop}
theorem OQk.lit (S : Int → St) (h0 : st = S e) (hc : (e == j) = true) (h : OQk P ops k (S j) Q) : OQk P ops k st Q := by
  grind
end
end Go.Sh
namespace Go.Sh
section
variable {P : Program} {pu : Bool} {st : St}
end
end Go.Sh
namespace Go.Sh
section
variable {P : Program} {pu : Bool} {st : St} {ops : Array Oper} {k : Nat} {Q : St → Prop}
end
end Go.Sh
namespace Go.Sh
section
variable {P : Program} {pu : Bool} {st : St} {ops : Array Oper} {k : Nat} {Q : St → Prop}
end
end Go.Sh
namespace Go.Sh
def NQ (R : Act → World → Prop) : Exit → Act → World → Prop := fun e a w => e = .normal ∧ R a w
theorem NQ.out {R : Act → World → Prop} : ¬ LetsOut (NQ R) := fun ⟨_, _, h, _⟩ => by cases h
section
variable {P : Program} {ops : Array Oper} {md : Region.Mode} {R : Act → World → Prop}
theorem defers_put (a : Act) (ds : List Deferred) (d : Option Tmp) (v : Value) : ({ a.put d v with defers := ds } : Act) = ({ a with defers := ds } : Act).put d v := by cases d <;> rfl
theorem put_defers' (a : Act) (d : Option Tmp) (v : Value) : (a.put d v).defers = a.defers := by cases d <;> rfl
theorem eval_defers (a : Act) (ds : List Deferred) (x : Operand) : ({ a with defers := ds } : Act).eval x = a.eval x := by cases x <;> rfl
end
end Go.Sh
namespace Go.Sh
section
variable {P : Program} {ops : Array Oper} {md : Region.Mode} {w : World} {hds : List Nat} {t0 : Nat} {ts : List Nat}
def opsOf (ops : Array Oper) (is : List Nat) : List Oper := is.filterMap (ops[·]?)
end
end Go.Sh
namespace Go.Sh
section
variable {P : Program} {pu : Bool} {st : St}
theorem wanted_ng (h : o.guard = none) (f : Nat → Option Bool) : Region.wanted o f = true := by unfold Region.wanted; rw [h]
theorem opsOf_ng {ops : Array Oper} (h : ops.all (fun o => o.guard.isNone) = true) (is : List Nat) : ∀ o ∈ opsOf ops is, o.guard = none := fun o ho => by
  simp only [opsOf, List.mem_filterMap] at ho
  obtain ⟨i, -, hi⟩ := ho
  rw [Array.all_eq_true'] at h
  simpa using h o (Array.mem_of_getElem? hi)
end
end Go.Sh
namespace Go.Sh
end Go.Sh
namespace Go.Sh
structure Cd (α : Type) where
  enc : α → D
  dec : D → Option α
  de : ∀ d x, dec d = some x → d = enc x
  ed : ∀ x, dec (enc x) = some x
def cI (k : IntKind) : Cd Int where
  enc := .int k
  dec
    | .int k' n => if k' = k then some n else none
    | _ => none
  de d x h := by
    grind
  ed x := by simp
def cS : Cd (List UInt8) where
  enc := .str
  dec
    | .str b => some b
    | _ => none
  de d x h := by grind
  ed x := rfl
def cP : Cd (Option Nat) where
  enc
    | none => .nilPtr
    | some i => .ptr i 0
  dec
    | .nilPtr => some none
    | .ptr i 0 => some (some i)
    | _ => none
  de d x h := by
    grind
  ed x := by cases x <;> rfl
theorem mapM_de {α : Type} (c : Cd α) : ∀ (ds : List D) (xs : List α), ds.mapM c.dec = some xs → ds = xs.map c.enc
  | [], xs, h => by simp at h; subst h; rfl
  | d :: ds, xs, h => by
    simp only [List.mapM_cons, Option.bind_eq_bind, Option.bind_eq_some_iff] at h
    obtain ⟨x, h1, ys, h2, h3⟩ := h
    cases h3
    rw [List.map_cons, ← c.de d x h1, ← mapM_de c ds ys h2]
theorem mapM_ed {α : Type} (c : Cd α) : ∀ xs : List α, (xs.map c.enc).mapM c.dec = some xs
  | [] => rfl
  | x :: xs => by simp [c.ed, mapM_ed c xs]
structure Cc (α : Type) where
  enc : α → List SV
  dec : List SV → Option (α × List SV)
  de : ∀ l x r, dec l = some (x, r) → l = enc x ++ r
  ed : ∀ x r, dec (enc x ++ r) = some (x, r)
def Cd.cell {α : Type} (c : Cd α) : Cc α where
  enc x := [.d (c.enc x)]
  dec
    | .d d :: r => (c.dec d).map (·, r)
    | _ => none
  de l x r h := by
    split at h
    · rename_i d r'
      simp only [Option.map_eq_some_iff, Prod.mk.injEq] at h
      obtain ⟨y, h1, rfl, rfl⟩ := h
      rw [c.de d y h1]; rfl
    · cases h
  ed x r := by simp [c.ed]
def Cc.pair {α β : Type} (a : Cc α) (b : Cc β) : Cc (α × β) where
  enc p := a.enc p.1 ++ b.enc p.2
  dec l := (a.dec l).bind fun p => (b.dec p.2).map fun q => ((p.1, q.1), q.2)
  de l x r h := by
    simp only [Option.bind_eq_some_iff, Option.map_eq_some_iff, Prod.mk.injEq] at h
    obtain ⟨p, h1, q, h2, h3, h4⟩ := h
    subst h3; subst h4
    rw [a.de l p.1 p.2 h1, List.append_assoc, b.de p.2 q.1 q.2 h2]
  ed x r := by
    rw [List.append_assoc, a.ed]
    simp [b.ed]
structure Cl (α : Type) where
  enc : α → List D
  dec : List D → Option (α × List D)
  de : ∀ l x r, dec l = some (x, r) → l = enc x ++ r
  ed : ∀ x r, dec (enc x ++ r) = some (x, r)
def Cd.one {α : Type} (c : Cd α) : Cl α where
  enc x := [c.enc x]
  dec
    | d :: r => (c.dec d).map (·, r)
    | _ => none
  de l x r h := by
    split at h
    · rename_i d r'
      simp only [Option.map_eq_some_iff, Prod.mk.injEq] at h
      obtain ⟨y, h1, rfl, rfl⟩ := h
      rw [c.de d y h1]; rfl
    · cases h
  ed x r := by simp [c.ed]
def Cl.pair {α β : Type} (a : Cl α) (b : Cl β) : Cl (α × β) where
  enc p := a.enc p.1 ++ b.enc p.2
  dec l := (a.dec l).bind fun p => (b.dec p.2).map fun q => ((p.1, q.1), q.2)
  de l x r h := by
    simp only [Option.bind_eq_some_iff, Option.map_eq_some_iff, Prod.mk.injEq] at h
    obtain ⟨p, h1, q, h2, h3, h4⟩ := h
    subst h3; subst h4
    rw [a.de l p.1 p.2 h1, List.append_assoc, b.de p.2 q.1 q.2 h2]
  ed x r := by
    rw [List.append_assoc, a.ed]
    simp [b.ed]
def Cl.iso {α β : Type} (a : Cl α) (f : α → β) (g : β → α) (fg : ∀ x, f (g x) = x) (gf : ∀ x, g (f x) = x) : Cl β where
  enc x := a.enc (g x)
  dec l := (a.dec l).map fun p => (f p.1, p.2)
  de l x r h := by
    simp only [Option.map_eq_some_iff, Prod.mk.injEq] at h
    obtain ⟨p, h1, rfl, rfl⟩ := h
    rw [gf]; exact a.de l p.1 p.2 h1
  ed x r := by simp [a.ed, fg]
def Cl.agg {α : Type} (a : Cl α) : Cd α where
  enc x := .agg (a.enc x)
  dec
    | .agg l => match a.dec l with | some (x, []) => some x | _ => none
    | _ => none
  de d x h := by
    cases d <;> simp only [reduceCtorEq] at h
    split at h
    · rename_i y h1
      cases h
      rw [a.de _ _ _ h1, List.append_nil]
    · cases h
  ed x := by
    have := a.ed x []
    grind
abbrev Hp := List SObj
def hCells (H : Hp) (i : Nat) : Option (List SV) := match H[i]? with | some (.cells cs) => some cs | _ => none
theorem hCells_eq (h : hCells H i = some cs) : H[i]? = some (.cells cs) := by
  unfold hCells at h
  grind
def hNew (H : Hp) (o : SObj) : Option (Hp × Nat) := some (H ++ [o], H.length)
end Go.Sh
namespace Go.Sh
theorem RO.keepI (h0 : Keep .free g w g' w') (h1 : Keep (.obj i) g w g' w') (h2 : ∀ j, Keep (.lst (.hcell i j)) g w g' w') (hρ : KeepR g g') (h : RO g w i o) : RO g' w' i o := by
  cases o with
  | cells cs =>
    obtain ⟨k, c, T, hr, ho, hb, hs, hc⟩ := h
    obtain ⟨ho', hb'⟩ := h1 k _ ho hb
    exact ⟨k, c, T, hρ _ _ hr, ho', hb', hs, fun j s hj => let ⟨u, a1, a2, a3⟩ := hc j s hj; ⟨u, a1, a2.keep h0 (h2 j) hρ, a3⟩⟩
  | map es =>
    obtain ⟨k, ms, clock, hr, ho, hb, hs, hbo, hc⟩ := h
    obtain ⟨ho', hb'⟩ := h1 k _ ho hb
    exact ⟨k, ms, clock, hρ _ _ hr, ho', hb', hs, hbo, fun j p hj => let ⟨m, a1, a2, a3⟩ := hc j p hj; ⟨m, a1, a2.keep h0 hρ, a3.keep h0 hρ⟩⟩
  | hole => trivial
  | iter kb clock =>
    obtain ⟨k, hr, ho, hb⟩ := h
    obtain ⟨ho', hb'⟩ := h1 k _ ho hb
    exact ⟨k, hρ _ _ hr, ho', hb'⟩
  | mapX kb clock ms es =>
    obtain ⟨hr, ho, hb, hs, hbo, hc⟩ := h
    obtain ⟨ho', hb'⟩ := h1 kb _ ho hb
    exact ⟨hρ _ _ hr, ho', hb', hs, hbo, fun j p hj => let ⟨m, a1, a2, a3⟩ := hc j p hj; ⟨m, a1, a2.keep h0 hρ, a3.keep h0 hρ⟩⟩
  | bld T e bs =>
    obtain ⟨k, p, v, hr, ho, hb⟩ := h
    obtain ⟨ho', hb'⟩ := h1 k _ ho hb.1
    exact ⟨k, p, v, hρ _ _ hr, ho', hb.keep (h2 1) (hb'.trans hb.1.symm)⟩
section
variable {P : Program} {st : St}
def St.hp (st : St) (H : List SObj) : St := { st with H := H }
def Gh.new (g : Gh) (k i : Nat) : Gh := ⟨(g.upd k (.obj i)).ow, g.ρ ++ [k]⟩
theorem KeepR.new : KeepR g (g.new k i) := fun j k' h => by
  simp only [Gh.new]
  grind
theorem Keep.new : Keep o' g w (g.new w.heap.size i) (w.alloc ob) := by
  intro k b hk hb
  exact Keep.alloc (t := .obj i) (o := ob) k b hk hb
theorem Fr.new : Fr false g w (g.new w.heap.size i) (w.alloc ob) :=
  ⟨by simp, Keep.new, Keep.new, KeepR.new, nofun, nofun, nofun, ⟨rfl, rfl⟩⟩
theorem Rel.newObj (hr : Rel st a w g) (hn : RO (g.new w.heap.size st.H.length) (w.alloc ob) st.H.length o) :
    Rel (st.hp (st.H ++ [o])) a (w.alloc ob) (g.new w.heap.size st.H.length) := by
  refine Rel.step hr hr.len hr.def0 KeepR.new (fun t s hs => .inr (.inr ⟨hs, rfl, fun o' ho' => Keep.new, fun s' _ => ⟨rfl, fun x hx _ => ⟨x, hx, rfl⟩⟩⟩)) ⟨by simp [St.hp, Gh.new, hr.hp.1], fun i' o' hi' => ?_⟩
  simp only [St.hp] at hi'
  by_cases h : i' < st.H.length
  · rw [List.getElem?_append_left h] at hi'
    exact (hr.hp.2 i' o' hi').keepI Keep.new Keep.new (fun _ => Keep.new) KeepR.new
  grind
theorem new_rho (h : RH g w H) (k : Nat) : (g.new k H.length).ρ[H.length]? = some k := by
  simp only [Gh.new]
  rw [← h.1, List.getElem?_append_right (Nat.le_refl _)]
  simp
theorem new_ow {g : Gh} (k i : Nat) : (g.new k i).ow k = .obj i := by simp [Gh.new]
def nilCells (l : List (Nat × Nat × Bool)) (cs : List SV) : List SV := match l with
  | [] => cs
  | (j, n, b) :: l => nilCells l (match cs[j]? with | some (.d .nilS) => cs.set j (if b then .own n [] else .d (.list n [])) | _ => cs)
theorem nilCells_len : ∀ (l : List (Nat × Nat × Bool)) (cs : List SV), (nilCells l cs).length = cs.length
  | [], cs => rfl
  | (j, n, b) :: l, cs => by
    rw [nilCells, nilCells_len l]
    split <;> simp
theorem nilCells_get {g : Gh} {w : World} {lo : Nat → Loc} {c : Array Value} : ∀ (l : List (Nat × Nat × Bool)) (cs : List SV), (∀ (j : Nat) (s : SV), cs[j]? = some s → ∃ u, c[j]? = some u ∧ RC g w (lo j) u s ∧ u.oneCell' = true) →
    ∀ (j : Nat) (s : SV), (nilCells l cs)[j]? = some s → ∃ u, c[j]? = some u ∧ RC g w (lo j) u s ∧ u.oneCell' = true
  | [], cs, h => h
  | (j0, n, b) :: l, cs, h => by
    refine nilCells_get l _ fun j s hj => ?_
    split at hj
    · rename_i h0
      by_cases e : j0 = j
      · subst e
        obtain ⟨u, u1, u2, u3⟩ := h j0 _ h0
        rw [List.getElem?_set_self (get_lt h0)] at hj
        have hn : Rd g w u .nilS := u2
        obtain ⟨a, rfl⟩ := hn.nilS_inv
        refine ⟨_, u1, ?_, u3⟩
        cases b
        · simp only [Bool.false_eq_true, if_false, Option.some.injEq] at hj
          subst hj
          exact Rd.list0
        · simp only [if_true, Option.some.injEq] at hj
          subst hj
          exact .inl ⟨rfl, _, rfl⟩
      grind
    · exact h j s hj
theorem RCells.newObj {g : Gh} {w : World} {H : List SObj} (hH : RH g w H) {T : TypeId} {v : Value} {y : D} (h : Rd g w v y) (l : List (Nat × Nat × Bool)) :
    RO (g.new w.heap.size H.length) (w.alloc (.cells v.cells T)) H.length (.cells (nilCells l (y.cells.map .d))) := by
  obtain ⟨c1, c2⟩ := h.cells
  refine ⟨w.heap.size, v.cells, T, new_rho hH _, new_ow _ _, heap_alloc _ _, by rw [nilCells_len]; simpa using c1, nilCells_get l _ fun j s hj => ?_⟩
  simp only [List.getElem?_map, Option.map_eq_some_iff] at hj
  obtain ⟨x, hx, rfl⟩ := hj
  obtain ⟨u, u1, u2, u3⟩ := c2 j x hx
  exact ⟨u, u1, Rd.keep Keep.new KeepR.new u2, u3⟩
theorem OpS.allocH (l : List (Nat × Nat × Bool)) (hop : o.op = .alloc T) (hz : zeroD P T = some z) :
    OpS P false st o ((st.hp (st.H ++ [.cells (nilCells l (z.cells.map .d))])).put o.dst (.d (.ptr st.H.length 0))) := by
  refine OpS.value fun a w g hr => ?_
  obtain ⟨v, e1, e2⟩ := zeroD_sound (P := P) (g := g) (w := w) hz
  have hn := RCells.newObj (T := T) hr.hp e1 l
  refine ⟨.pointer (some ⟨w.heap.size, 0, none⟩), w.alloc (.cells v.cells T), _, ?_, Rel.putLight (hr.newObj hn) o.dst (.ptr (new_rho hr.hp _)), Fr.new⟩
  unfold execOp; rw [hop]
  simp only [Instr.alloc, Sem.run_bind, e2, Result.andThen_ok, newVar, newRow, run_newObj, Sem.run_pure]
  rfl
theorem OpS.boxH (l : List (Nat × Nat × Bool)) (hop : o.op = .box T x) (hy : valD st x = some y) :
    OpS P false st o ((st.hp (st.H ++ [.cells (nilCells l (y.cells.map .d))])).put o.dst (.d (.ptr st.H.length 0))) := by
  refine OpS.value fun a w g hr => ?_
  have e1 := valD_d hr hy
  have hn := RCells.newObj (T := T) hr.hp e1 l
  refine ⟨.pointer (some ⟨w.heap.size, 0, none⟩), w.alloc (.cells (a.eval x).cells T), _, ?_, Rel.putLight (hr.newObj hn) o.dst (.ptr (new_rho hr.hp _)), Fr.new⟩
  unfold execOp; rw [hop]
  simp only [Instr.box, Sem.run_bind, newVar, newRow, run_newObj, Result.andThen_ok, Sem.run_pure]
  rfl
theorem OpS.makeMapH {o : Oper} {T : TypeId} (hop : o.op = .makeMap T none) : OpS P false st o ((st.hp (st.H ++ [.map []])).put o.dst (.d (.map st.H.length))) := by
  refine OpS.value fun a w g hr => ?_
  have hn : RO (g.new w.heap.size st.H.length) (w.alloc (.map #[] 0)) st.H.length (.map []) :=
    ⟨w.heap.size, #[], 0, new_rho hr.hp _, new_ow _ _, heap_alloc _ _, rfl, ⟨by simp, by simp⟩, by simp⟩
  refine ⟨.map (some w.heap.size), w.alloc (.map #[] 0), _, ?_, Rel.putLight (hr.newObj hn) o.dst (.map (new_rho hr.hp _)), Fr.new⟩
  unfold execOp; rw [hop]
  simp only [Instr.makeMap, Option.map_none, Sem.run_bind, run_newObj, Result.andThen_ok, Sem.run_pure]
  rfl
end
end Go.Sh
namespace Go.Sh
section
variable {K V : Type} [BEq K]
end
section
variable {P : Program} {st : St} {K V : Type} [BEq K]
end
end Go.Sh
namespace Go.Sh
section
variable {P : Program} {st : St} {K V : Type} [BEq K]
end
end Go.Sh
namespace Go.Sh
mutual
def noPtr : D → Bool
  | .ptr _ _ | .map _ => false
  | .list _ xs => noPtrs xs
  | .agg cs => noPtrs cs
  | .iface _ x => noPtr x
  | .fn _ fs cs => noPtrs fs && noPtrs cs
  | .dptr cs => noPtrs cs
  | _ => true
def noPtrs : List D → Bool
  | [] => true
  | x :: xs => noPtr x && noPtrs xs
end
theorem noPtrs_get : ∀ {xs : List D}, noPtrs xs = true → ∀ (j : Nat) (y : D), xs[j]? = some y → noPtr y = true
  | [], _, j, y, h => by simp at h
  | x :: xs, hn, j, y, h => by
    simp only [noPtrs, Bool.and_eq_true] at hn
    cases j with
    | zero => simp at h; subst h; exact hn.1
    | succ j => exact noPtrs_get hn.2 j y (by simpa using h)
theorem noPtrs_map {α : Type} {f : α → D} (h : ∀ x, noPtr (f x) = true) : ∀ l : List α, noPtrs (l.map f) = true
  | [] => rfl
  | x :: l => by simp [noPtrs, h x, noPtrs_map h l]
theorem noPtrs_cells (h : noPtr x = true) : ∀ (j : Nat) (y : D), x.cells[j]? = some y → noPtr y = true := by
  intro j y hy
  cases x with
  | agg cs => simp only [noPtr] at h; exact noPtrs_get h j y hy
  | _ =>
    cases j with
    | zero => simp [D.cells] at hy; subst hy; exact h
    | succ j => simp [D.cells] at hy
def noPtrSV : SV → Bool
  | .d x => noPtr x
  | .own _ xs => noPtrs xs
  | .tup vs => vs.all fun | .d x => noPtr x | .own _ xs => noPtrs xs | .undef => true | _ => false
  | .undef => true
  | _ => false
theorem Rd.noObj (hk : Keep .free g w g' w') (h : Rd g w v x) (hn : noPtr x = true) : Rd g' w' v x := by
  induction h with
  | bool => exact .bool
  | int => exact .int
  | str => exact .str
  | nilS => exact .nilS
  | list0 => exact .list0
  | list us hk' hb hl hp hn' hc _ ih =>
    refine .list us (hk _ _ hk' hb).1 (hk _ _ hk' hb).2 hl hp hn' hc fun i x hx j y hy => ih i x hx j y hy ?_
    simp only [noPtr] at hn
    exact noPtrs_cells (noPtrs_get hn i x hx) j y hy
  | agg hl us hc _ ih => exact .agg hl us hc fun j y hy => ih j y hy (noPtrs_get (by simpa [noPtr] using hn) j y hy)
  | nilIface => exact .nilIface
  | iface _ ih => exact .iface (ih (by simpa [noPtr] using hn))
  | fn hl1 hl2 us1 us2 hc1 _ hc2 _ ih1 ih2 =>
    simp only [noPtr, Bool.and_eq_true] at hn
    exact .fn hl1 hl2 us1 us2 hc1 (fun j y hy => ih1 j y hy (noPtrs_get hn.1 j y hy)) hc2 (fun j y hy => ih2 j y hy (noPtrs_get hn.2 j y hy))
  | nilFn => exact .nilFn
  | nilPtr => exact .nilPtr
  | ptr h => simp [noPtr] at hn
  | dptr us hk' hb hc _ ih => exact .dptr us (hk _ _ hk' hb).1 (hk _ _ hk' hb).2 hc fun j y hy => ih j y hy (noPtrs_get (by simpa [noPtr] using hn) j y hy)
  | nilMap => exact .nilMap
  | map h => simp [noPtr] at hn
  | raw h => exact .raw h
theorem RC.noObj (hk : Keep .free g w g' w') (h1 : Keep (.lst o) g w g' w') (h : RC g w o v s) (hn : noPtrSV s = true) : RC g' w' o v s := by
  cases s with
  | d x => exact Rd.noObj hk h hn
  | own n xs =>
    rcases h with h | ⟨k, off, cap, c, T, us, hv, ho, hb, hl, hz, hw, hc, hr⟩
    · exact .inl h
    · obtain ⟨ho', hb'⟩ := h1 k _ ho hb
      refine .inr ⟨k, off, cap, c, T, us, hv, ho', hb', hl, hz, hw, hc, fun i x hx j y hy => Rd.noObj hk (hr i x hx j y hy) ?_⟩
      simp only [noPtrSV] at hn
      exact noPtrs_cells (noPtrs_get hn i x hx) j y hy
  | pin v0 n xs => cases hn
  | undef => trivial
  | _ => exact h.elim
def hideOw : Own → Own
  | .free => .free
  | .lst (.slot j) => .lst (.slot j)
  | _ => .out
def Gh.hide (g : Gh) : Gh := ⟨fun k => hideOw (g.ow k), []⟩
def unhide (n : Nat) (ow ow' : Nat → Own) (k : Nat) : Own :=
  if k < n then (match ow k with | .free => .free | .lst (.slot j) => (match ow' k with | .obj _ => .out | .lst (.hcell _ _) => .out | o => o) | o => o)
  else match ow' k with | .obj _ => .out | .lst (.hcell _ _) => .out | o => o
def LC (P : Program) (f : FuncId) (args : List SV) (r : SV) : Prop :=
  ∀ (w : World) (g : Gh) (vs : Array Value), RArgs g w vs args → RH g w [] → Calls P f vs w fun e w' => ∃ v g', e = .returned v ∧ RRes g' w' v r ∧ Fr false g w g' w'
theorem PC.of_local (ha : args.all noPtrSV = true) (hr : noPtrSV r = true) (h : LC P f args r) : PC P f args r := by
  intro H w g vs hA hH
  have hkeep : Keep .free g w g.hide w := fun k o h1 h2 => ⟨by simp [Gh.hide, h1, hideOw], h2⟩
  have hA' : RArgs g.hide w vs args := by
    refine ⟨hA.1, fun j s hj => ?_⟩
    obtain ⟨u, u1, u2⟩ := hA.2 j s hj
    refine ⟨u, u1, u2.noObj hkeep (fun k o h1 h2 => ⟨by simp [Gh.hide, h1, hideOw], h2⟩) ?_⟩
    grind
  refine (h w g.hide vs hA' ⟨rfl, by simp⟩).mono fun e w' hh => ?_
  obtain ⟨v, g', rfl, hres, hf⟩ := hh
  -- the owners behind the call
  let g2 : Gh := ⟨unhide w.heap.size g.ow g'.ow, g.ρ⟩
  -- old blocks that were hidden
  have hid : ∀ (k : Nat) (o : Obj), hideOw (g.ow k) = .out → w.heap[k]? = some o → g2.ow k = g.ow k ∧ w'.heap[k]? = some o := by
    intro k o h1 h2
    obtain ⟨-, h4⟩ := hf.out k o (by simpa [Gh.hide] using h1) h2
    refine ⟨?_, h4⟩
    have hlt := arr_lt h2
    show unhide w.heap.size g.ow g'.ow k = _
    unfold unhide
    rw [if_pos hlt]
    split
    · rename_i e; exact e.symm
    · rename_i j e; rw [e] at h1; cases h1
    · rfl
  have hfree : Keep .free g w g2 w' := by
    intro k o h1 h2
    obtain ⟨-, h4⟩ := hf.free k o (by simp [Gh.hide, h1, hideOw]) h2
    refine ⟨?_, h4⟩
    show unhide w.heap.size g.ow g'.ow k = _
    unfold unhide
    rw [if_pos (arr_lt h2), h1]
  have hback : Keep .free g' w' g2 w' := by
    intro k o h1 h2
    refine ⟨?_, h2⟩
    show unhide w.heap.size g.ow g'.ow k = _
    unfold unhide
    split
    · rename_i hlt
      cases hk : g.ow k with
      | free => rfl
      | lst l =>
        cases l with
        | slot j => simp only [h1]
        | _ =>
          exfalso
          have h2' : ∃ o', w.heap[k]? = some o' := ⟨w.heap[k], by simp [hlt]⟩
          obtain ⟨o', h3⟩ := h2'
          have := (hf.out k o' (by simp [Gh.hide, hk, hideOw]) h3).1
          rw [h1] at this; cases this
      | _ =>
        exfalso
        have h2' : ∃ o', w.heap[k]? = some o' := ⟨w.heap[k], by simp [hlt]⟩
        obtain ⟨o', h3⟩ := h2'
        have := (hf.out k o' (by simp [Gh.hide, hk, hideOw]) h3).1
        rw [h1] at this; cases this
    · rw [h1]
  have hbackL : ∀ l : Loc, (∀ i j, l ≠ .hcell i j) → Keep (.lst l) g' w' g2 w' := by
    intro l hl k o h1 h2
    refine ⟨?_, h2⟩
    show unhide w.heap.size g.ow g'.ow k = _
    unfold unhide
    have hno : (match g'.ow k with | .obj _ => Own.out | .lst (.hcell _ _) => .out | o => o) = .lst l := by
      grind
    split
    · rename_i hlt
      have h2' : ∃ o', w.heap[k]? = some o' := ⟨w.heap[k], by simp [hlt]⟩
      obtain ⟨o', h3⟩ := h2'
      have hcontra : hideOw (g.ow k) = .out ∨ hideOw (g.ow k) = .free → False := by
        rintro (e | e)
        · have := (hf.out k o' (by simpa [Gh.hide] using e) h3).1; rw [h1] at this; cases this
        · have := (hf.free k o' (by simpa [Gh.hide] using e) h3).1; rw [h1] at this; cases this
      cases hk : g.ow k with
      | free => exact (hcontra (.inr (by rw [hk]; rfl))).elim
      | lst l' =>
        cases l' with
        | slot j => exact hno
        | _ => exact (hcontra (.inl (by rw [hk]; rfl))).elim
      | _ => exact (hcontra (.inl (by rw [hk]; rfl))).elim
    · exact hno
  refine ⟨v, g2, rfl, ?_, ⟨hH.1, fun i o hi => ?_⟩, hf.size, hfree, ?_, fun _ _ h => h, ?_, ?_, fun _ => rfl, hf.os⟩
  · -- the result
    cases r with
    | d x => exact Rd.noObj hback hres hr
    | own n xs => exact RC.noObj (s := .own n xs) hback (hbackL _ (by simp)) hres hr
    | tup vs' =>
      obtain ⟨us, e1, e2, e3⟩ := hres
      refine ⟨us, e1, e2, fun j s hj => ?_⟩
      obtain ⟨u, u1, u2⟩ := e3 j s hj
      refine ⟨u, u1, u2.noObj hback (hbackL _ (by simp)) ?_⟩
      simp only [noPtrSV, List.all_eq_true] at hr
      have := hr s (List.mem_iff_getElem?.2 ⟨j, hj⟩)
      cases s <;> simpa [noPtrSV] using this
    | undef => trivial
    | _ => exact hres.elim
  · -- the objects
    have hhid : ∀ o', hideOw o' = .out → Keep o' g w g2 w' := fun o' ho' k ob h1 h2 => by
      grind
    exact (hH.2 i o hi).keepI hfree (hhid _ rfl) (fun j => hhid _ rfl) (fun _ _ h => h)
  · intro k o h1 h2
    obtain ⟨a, b⟩ := hid k o (by rw [h1]; rfl) h2
    exact ⟨a.trans h1, b⟩
  · intro _ i k o h1 h2
    obtain ⟨a, b⟩ := hid k o (by rw [h1]; rfl) h2
    exact ⟨a.trans h1, b⟩
  · intro _ i j k o h1 h2
    obtain ⟨a, b⟩ := hid k o (by rw [h1]; rfl) h2
    exact ⟨a.trans h1, b⟩
end Go.Sh
namespace Go.Sh
section
variable {P : Program} {st : St} {ops : Array Oper} {k m : Nat} {Q : St → Prop} (n : Nat) (H : List SObj)
def ncAt (ops : Array Oper) (k : Nat) (st : St) : Option (Option Tmp × D) :=
  match opAt ops k st with
  | some o => match o.op with
    | .nilCheck (.tmp s) => match valD st (.tmp s) with
      | some d => some (o.dst, d)
      | none => none
    | _ => none
  | none => none
def ldHAt (P : Program) (ops : Array Oper) (k : Nat) (st : St) (cs : List SV) : Option (Option Tmp × Nat × Nat × Hp × SV) :=
  match opAt ops k st with
  | some o => match o.op with
    | .load T x => match asLoc st x, ptrOf st x, ptrH st x with
      | none, none, some (i, off) =>
        if (P.underlying T).isNone then none
        else if isAggT P T then (if 0 < P.cellsOf T ∧ P.cellsOf T ≤ cs.length then (match allD (cs.take (P.cellsOf T)) with | some ys => some (o.dst, i, off, st.H, .d (.agg ys)) | none => none) else none)
        else match cs with
          | .d x :: _ => some (o.dst, i, off, st.H, .d x)
          | .own n xs :: _ => some (o.dst, i, off, st.H, .lent (.hcell i off) n xs)
          | _ => none
      | _, _, _ => none
    | _ => none
  | none => none
theorem OWk.heap (L : List Nat) (l : List (Nat × SV)) (ho : ops[k]? = some o) (hw : wantS ops st o = some true) (hs : OpS P false st o st') (hst : pickR n L st' = some (l, H)) (h : OWk P false ops (k + 1) (sp n l H) Q) : OWk P false ops k st Q :=
  OWk.e ho hw hs (OWk.keep L (keepR_of_pick hst) h)
def newAt (P : Program) (ops : Array Oper) (k : Nat) (st : St) (l : List (Nat × Nat × Bool)) : Option (Option Tmp × SObj × Hp × Bool) :=
  match opAt ops k st with
  | some o => match o.op with
    | .alloc T => match zeroD P T with
      | some z => some (o.dst, .cells (nilCells l (z.cells.map .d)), st.H, false)
      | none => none
    | .box T x => match valD st x with
      | some y => some (o.dst, .cells (nilCells l (y.cells.map .d)), st.H, false)
      | none => none
    | .makeMap T none => some (o.dst, .map [], st.H, true)
    | _ => none
  | none => none
theorem OWk.hnew {d : Option Tmp} {ob : SObj} {H0 : Hp} {q : Hp × Nat} {b : Bool} (nl : List (Nat × Nat × Bool)) (L : List Nat) (l : List (Nat × SV)) (hq : hNew H0 ob = some q) (h : newAt P ops k st nl = some (d, ob, H0, b)) (hH : q.1 = H)
    (hst : pickR n L ((st.hp H).put d (.d (if b then .map q.2 else .ptr q.2 0))) = some (l, H)) (hn : OWk P false ops (k + 1) (sp n l H) Q) : OWk P false ops k st Q := by
  cases hq
  subst hH
  unfold newAt at h
  split at h
  · rename_i o ho
    obtain ⟨g1, g2⟩ := opAt_inv ho
    split at h
    · rename_i T hop
      split at h
      · rename_i z hz
        simp only [Option.some.injEq, Prod.mk.injEq] at h
        obtain ⟨rfl, rfl, rfl, rfl⟩ := h
        exact OWk.heap n _ L l g1 g2 (OpS.allocH nl hop hz) hst hn
      · cases h
    · rename_i T x hop
      split at h
      · rename_i y hy
        simp only [Option.some.injEq, Prod.mk.injEq] at h
        obtain ⟨rfl, rfl, rfl, rfl⟩ := h
        exact OWk.heap n _ L l g1 g2 (OpS.boxH nl hop hy) hst hn
      · cases h
    · rename_i T hop
      simp only [Option.some.injEq, Prod.mk.injEq] at h
      obtain ⟨rfl, rfl, rfl, rfl⟩ := h
      exact OWk.heap n _ L l g1 g2 (OpS.makeMapH hop) hst hn
    · cases h
  · cases h
variable {pu : Bool}
theorem SW.jnH {α : Type} {Q : Exit → St → Prop} (L : List Nat) (l : α → List (Nat × SV)) (Hf : α → Hp) (C : α → Prop) (hj : ∀ v, C v → SW P pu y (sp n (l v) (Hf v)) Q) (h : SW P pu x st (thenS (fun s => ∃ v ll, pickR n L (s.nils ll) = some (l v, Hf v) ∧ C v) Q)) : SW P pu (.seq x y) st Q :=
  SW.seqJ L (fun v => sp n (l v) (Hf v)) C hj (SW.mono h fun e s hh => by
    cases e with
    | normal => obtain ⟨v, ll, h1, h2⟩ := hh; exact ⟨v, ll, keepR_of_pick h1, h2⟩
    | _ => exact hh)
theorem SW.itH {γ β : Type} {Q : Exit → St → Prop} (L : List Nat) {body : γ → Option (γ ⊕ β)} (l : γ → List (Nat × SV)) (Hf : γ → Hp) (E : β → Exit → St → Prop) {x : γ} {b : β} (hit : Sh.iter body fuel x = some b) (h0 : pickR n L st = some (l x, Hf x))
    (round : ∀ x o, body x = some o → SW P pu c (sp n (l x) (Hf x)) (thenS (fun s' => ∃ y, o = .inl y ∧ pickR n L s' = some (l y, Hf y)) (fun e s' => ∃ b, o = .inr b ∧ E b e s')))
    (after : ∀ e s', E b e s' → Q e s') : SW P pu (.loop c) st Q :=
  SW.iterK L (fun x => sp n (l x) (Hf x)) E hit (keepR_of_pick h0) (fun x o h => SW.mono (round x o h) fun e s hh => by
    cases e with
    | normal => obtain ⟨y, h1, h2⟩ := hh; exact ⟨y, h1, keepR_of_pick h2⟩
    | _ => exact hh) after
def EndL (P : Program) (rs : List ResultVar) (r : SV) (e : Exit) (st : St) : Prop := ∃ H, EndQ P rs H r e st
theorem EndL.ret (l : List (Nat × Nat)) (h : endV P rs (st.nils l) = some r) : EndL P rs r .ret st := ⟨st.H, .ret l h rfl⟩
end
theorem PC.of_localSW {P : Program} (hf : P.funcs[f]? = some fn) (hb : fn.body = some c) (ha : args.all noPtrSV = true) (hr : noPtrSV r = true)
    (h : SW P false c (initSt fn.ntmps args []) (EndL P fn.results.toList r)) : PC P f args r := by
  refine PC.of_local ha hr fun w g vs hA hH => ?_
  have := calls_of_SW (P := P) (pu := false) (args := args) (H := []) (r := r) (fun _ => True) hf hb (fun a w g hr => ?_) w g vs hA hH
  · exact this.mono fun e w' hh => by
      grind
  · refine Code.wp_mono (fun e a' w' hh => ?_) (h a w g hr)
    obtain ⟨st', g', ⟨H', he, l, h1, h2⟩, r1, f⟩ := hh
    exact ⟨st'.nils l, g', ⟨he, endV_ok h1, trivial⟩, r1.nils, f⟩
end Go.Sh
namespace Go.Sh
end Go.Sh
namespace Go.Sh
section
variable {P : Program} {st : St} {ops : Array Oper} {k : Nat} {Q : St → Prop} (n : Nat) (H : List SObj) {K V : Type} [BEq K]
end
end Go.Sh
namespace Go.Sh
def ownAt (st : St) (s : Nat) : Option (Option Value × Nat × List D) :=
  match st.tmps[s]? with
  | some (.own n xs) => some (none, n, xs)
  | some (.pin v n xs) => some (some v, n, xs)
  | _ => none
section
variable {P : Program} {pu : Bool} {st : St} {ops : Array Oper} {k : Nat} {Q : St → Prop}
def alsAt (ops : Array Oper) (k : Nat) (st : St) : Option (Option Tmp × Nat) :=
  match opAt ops k st with
  | some o => match o.op with
    | .move (.tmp s) => match ownAt st s with
      | some _ => if o.dst != some s then some (o.dst, s) else none
      | none => none
    | _ => none
  | none => none
def eqOp : BinOp → Option Bool
  | .eql => some true
  | .neq => some false
  | _ => none
def nqAt (P : Program) (ops : Array Oper) (k : Nat) (st : St) : Option (Option Tmp × Bool × List D) :=
  match opAt ops k st with
  | some o => match o.op with
    | .binOp op T x (.const (.slice none 0 0)) _ => match eqOp op, listOf st x, P.underlying T with
      | some e, some (_, _, xs), some (.slice _) => some (o.dst, e, xs)
      | _, _, _ => none
    | _ => none
  | none => none
theorem OWk.nilq {xs : List D} {d : Option Tmp} {e : Bool} (m : Nat) (H : List SObj) (L : List Nat) (l : Bool → List (Nat × SV)) (h : nqAt P ops k st = some (d, e, xs)) (hst : ∀ b, pickR m L (st.put d (.d (.bool b))) = some (l b, H))
    (hn : ∀ b, (b = e → xs = []) → OWk P pu ops (k + 1) (sp m (l b) H) Q) : OWk P pu ops k st Q := by
  unfold nqAt at h
  split at h
  · rename_i o ho
    split at h
    · rename_i op T x yT hop
      split at h
      · rename_i e' lo no xs' eT hop1 hl hT
        simp only [Option.some.injEq, Prod.mk.injEq] at h
        obtain ⟨rfl, rfl, rfl⟩ := h
        obtain ⟨g1, g2⟩ := opAt_inv ho
        have key : ∀ (a : Act) (w : World) (g : Gh), Rel st a w g → ∃ b : Bool, (b = e' → xs' = []) ∧ (execOp a.eval o).run P w = .ok (.value (.bool b)) w := by
          intro a w g hr
          have hL := listOf_sound hr hl
          obtain ⟨base, len, cap, hv, hnil⟩ : ∃ base len cap, a.eval x = .slice base len cap ∧ (base = none → xs' = []) := by
            rcases hL with ⟨rfl, b0, cap, hv⟩ | ⟨kb, off, cap, c, T0, fz, us, hv, -⟩
            · grind
            grind
          have hy : a.eval (.const (.slice none 0 0)) = .slice none 0 0 := rfl
          have hEq : (Op.equal T (.slice base len cap) (.slice none 0 0)).run P w = .ok base.isNone w := by
            simp [Op.equal, Op.maxDepth, Lib.run_equalIn_slice_nil w 9999 T eT base len cap 0 0 hT]
          cases op <;> simp only [eqOp, reduceCtorEq, Option.some.injEq] at hop1
          · subst hop1
            refine ⟨base.isNone, fun hb => hnil (by cases base <;> simp_all), ?_⟩
            unfold execOp; rw [hop]
            have e1 : eqGuard .eql T x (.const (.slice none 0 0)) (.slice base len cap) (.slice none 0 0) = pure () := rfl
            have e2 : binOp .eql T (.slice base len cap) (.slice none 0 0) = (do pure (.bool (← Op.equal T (.slice base len cap) (.slice none 0 0))) : Sem Value) := rfl
            simp_all
          · subst hop1
            refine ⟨!base.isNone, fun hb => hnil (by cases base <;> simp_all), ?_⟩
            unfold execOp; rw [hop]
            have e1 : eqGuard .neq T x (.const (.slice none 0 0)) (.slice base len cap) (.slice none 0 0) = pure () := rfl
            have e2 : binOp .neq T (.slice base len cap) (.slice none 0 0) = (do pure (.bool (!(← Op.equal T (.slice base len cap) (.slice none 0 0)))) : Sem Value) := rfl
            simp_all
        unfold OWk OW at hn ⊢
        rw [drop_cons g1]
        intro a w g hr Qc hq
        obtain ⟨b, hb, hrun⟩ := key a w g hr
        unfold wpList
        rw [wantS_sound hr g2, if_pos rfl]
        refine .inl ?_
        unfold Oper.wp
        rw [hrun, Oper.upon_value]
        exact hn b hb _ w g ((hr.putLight o.dst (v := .bool b) (s := .d (.bool b)) .bool).keepR (keepR_of_pick (hst b))) Qc hq
      · cases h
    · cases h
  · cases h
end
end Go.Sh
namespace Go.Sh
section
variable {P : Program} {pu : Bool} {st : St} {ops : Array Oper}
end
end Go.Sh
namespace Go.Sh
section
variable {P : Program} {pu : Bool} {st : St} {ops : Array Oper}
end
end Go.Sh
set_option maxRecDepth 10000
set_option maxHeartbeats 2000000
namespace Go.Sh
section
variable {P : Program} {N : Nat} {m : List (Nat × Value)} {s t : Nat} {I J T e : TypeId} {p q : Nat}
variable {ops : Array Oper} {l : List Oper} {d : Nat} {op : Op} {r : List (Nat × Op)} {v : Value} {a : Act} {w w' : World}
end
end Go.Sh
namespace Go.Sh
section
variable {P : Program} {pu : Bool} {st : St} {ops : Array Oper} {k m : Nat} {Q : St → Prop}
end
def nilB {α ρ : Type} [DecidableEq ρ] (xs : List α) (f : Bool → Option ρ) : Option ρ := bif xs.isEmpty then (if f true = f false then f true else none) else f false
theorem nilB_inv {α ρ : Type} [DecidableEq ρ] {xs : List α} {f : Bool → Option ρ} {r : ρ} (h : nilB xs f = some r) (b : Bool) (hb : b = true → xs = []) : f b = some r := by
  unfold nilB at h
  cases hx : xs.isEmpty with
  | true =>
    rw [hx] at h
    simp only [cond_true] at h
    split at h
    · rename_i e; cases b
      · rw [← e]; exact h
      · exact h
    · cases h
  | false =>
    rw [hx] at h
    cases b with
    | false => exact h
    | true => have := hb rfl; subst this; simp at hx
end Go.Sh
namespace Go.Sh
end Go.Sh
namespace Go.Sh
section
variable {P : Program} {pu : Bool} {st : St} {ops : Array Oper}
def markL : List Nat → Array Bool → Array Bool
  | [], l => l
  | m :: ms, l => markL ms (l.setIfInBounds m true)
end
end Go.Sh
namespace Go.Sh
end Go.Sh
namespace Go.Sh
section
variable {P : Program}
def strKeyB (P : Program) (T : TypeId) : Bool := match P.underlying T with | some (.map k _) => (match P.underlying k with | some .string => true | _ => false) | _ => false
def fieldB (P : Program) (s : TypeId) (f : Nat) : Bool := match P.underlying s with
  | some (.struct fs) => (match fs[f]? with | some fl => ((P.info? fl.type).map fun i => i.size != 0).getD false | none => false)
  | _ => false
end
end Go.Sh
namespace Go.Sh
section
variable {P : Program} {ops : Array Oper} {md : Region.Mode} {R : Act → World → Prop}
end
section
variable {P : Program} {pu : Bool} {st : St} {ops : Array Oper}
end
end Go.Sh
namespace Go.Sh
section
variable {P : Program} {pu : Bool} {st : St} {ops : Array Oper}
theorem upon_NQ {o : Oper} {a : Act} {next : Act → World → Prop} {R R' : Act → World → Prop} {r : Result Next} (h : o.upon P a next (NQ R) r) : o.upon P a next (NQ R') r := by
  cases r with
  | ok n w' =>
    cases n <;> simp only [Oper.upon] at h ⊢ <;> first
      | exact h
      | (refine h.mono fun e w'' hh => ?_
         cases e with
         | returned v => exact hh
         | panicked ch => cases hh.1
         | outgrown => exact absurd hh NQ.out)
  | halt hh w' => cases hh <;> simp only [Oper.upon] at h ⊢ <;> first | exact h | cases h.1
def lstM (n m : Nat) : Array Bool := ((List.range n).map (fun i => m.testBit i)).toArray
theorem lstM_set (n m i : Nat) : (lstM n m).setIfInBounds i true = lstM n (m ||| 2 ^ i) := by
  apply Array.ext_getElem?
  intro j
  simp only [lstM, Array.getElem?_setIfInBounds]
  grind
def oneA (ops : Array Oper) (i : Nat) : Array Oper := match ops[i]? with
  | some o => #[o]
  | none => #[]
def OX (P : Program) (pu : Bool) (ops : Array Oper) (d m : Nat) (st st' : St) : Prop :=
  ∀ a w g, Rel st a w g → ∀ R : Act → World → Prop, (∀ a' w' g', Rel st' a' w' g' → Fr pu g w g' w' → R a' w') → wpAny P .any ops (NQ R) d (lstM ops.size m) a w
def AllI : List Nat → (Nat → Prop) → Prop
  | [], _ => True
  | i :: r, p => p i ∧ AllI r p
theorem AllI_mem {p : Nat → Prop} : ∀ {l : List Nat}, AllI l p → ∀ i ∈ l, p i
  | i :: r, h, j, hj => by
    rcases List.mem_cons.1 hj with rfl | hj
    · exact h.1
    · exact AllI_mem h.2 j hj
theorem OX.fin (h : Region.ready .any ops (lstM ops.size m) = []) : OX P pu ops 0 m st st :=
  fun a w g hr R hR => ⟨h, rfl, hR a w g hr (Fr.refl _ _ _)⟩
theorem OX.step (hg : ops.all (fun o => o.guard.isNone) = true) (h : Region.ready .any ops (lstM ops.size m) = i0 :: is)
    (hs : AllI (i0 :: is) (fun i => OWk P pu (oneA ops i) 0 st (fun s => OX P pu ops d (m ||| 2 ^ i) s st'))) : OX P pu ops (d + 1) m st st' := by
  intro a w g hr R hR
  unfold wpAny
  rw [h]
  refine ⟨fun e => (List.cons_ne_nil _ _ e).elim, fun i hi => ?_⟩
  have hi' : i ∈ Region.ready .any ops (lstM ops.size m) := by rw [h]; exact hi
  obtain ⟨_, o, ho, _⟩ := mem_ready.1 hi'
  have h1 := AllI_mem hs i hi
  have hog : o.guard = none := opsOf_ng hg [i] o (by simp [opsOf, ho])
  simp only [oneA, ho] at h1
  unfold OWk at h1
  rw [List.drop_zero] at h1
  have h2 := h1 a w g hr (NQ (wpAny P .any ops (NQ R) d (lstM ops.size (m ||| 2 ^ i)))) (fun st1 a1 w1 g1 q1 r1 f1 => ⟨rfl, q1 a1 w1 g1 r1 R fun a' w' g' r2 f2 => hR a' w' g' r2 (f1.trans f2)⟩)
  unfold wpOp
  rw [ho]
  simp only
  rw [if_pos (wanted_ng hog _)]
  unfold wpList at h2
  rw [if_pos (wanted_ng hog _)] at h2
  rcases h2 with h2 | h2
  · left
    rw [lstM_set]
    have h3 := Oper.wp_mono (K' := wpAny P .any ops (NQ R) d (lstM ops.size (m ||| 2 ^ i))) (fun a' w' hh => (show NQ (wpAny P .any ops (NQ R) d (lstM ops.size (m ||| 2 ^ i))) .normal a' w' from hh).2) h2
    exact upon_NQ h3
  · exact absurd h2.2 NQ.out
end
end Go.Sh
namespace Go.Sh
end Go.Sh
namespace Go.Sh
section
variable {P : Program} {pu : Bool} {st : St} {ops : Array Oper} {Q : St → Prop} {k : Nat}
theorem OpS.boxF (hop : o.op = .box T x) (hd : o.dst = some d) (hy : valD st x = some y) : OpS P pu st o (st.put (some d) (.d (.dptr y.cells))) := by
  refine OpS.value fun a w g hr => ?_
  have e2 := valD_d hr hy
  obtain ⟨c1, c2⟩ := e2.cells
  rw [hd]
  have hr1 : Rel st a (w.alloc (.cells (a.eval x).cells T)) (g.upd w.heap.size .free) := hr.world (fun _ => Keep.alloc) (fun _ _ h => h) rfl
  have hrd : Rd (g.upd w.heap.size .free) (w.alloc (.cells (a.eval x).cells T)) (.pointer (some ⟨w.heap.size, 0, none⟩)) (.dptr y.cells) := by
    refine .dptr (fun j => (a.eval x).cells.getD j undef) (by simp) (heap_alloc _ _) (fun j z hj => ?_) (fun j z hj => ?_)
    · obtain ⟨u, u1, u2, u3⟩ := c2 j z hj
      simp_all
    · obtain ⟨u, u1, u2, u3⟩ := c2 j z hj
      simp only [Array.getD_eq_getD_getElem?, u1, Option.getD_some]
      exact Rd.keep Keep.alloc (fun _ _ h => h) u2
  refine ⟨.pointer (some ⟨w.heap.size, 0, none⟩), w.alloc (.cells (a.eval x).cells T), _, ?_, hr1.putLight (some d) hrd, Fr.alloc⟩
  unfold execOp; rw [hop]
  simp only [Instr.box, Sem.run_bind, newVar, newRow, run_newObj, Result.andThen_ok, Sem.run_pure]
  rfl
def bxAt (ops : Array Oper) (k : Nat) (st : St) : Option (Nat × List D) :=
  match ops[k]? with
  | some o => match o.op, o.dst with
    | .box _ x, some d => match valD st x with
      | some y => if wantS ops st o = some true then some (d, y.cells) else none
      | none => none
    | _, _ => none
  | none => none
theorem OWk.bxf (n : Nat) (H : List SObj) (L : List Nat) (l : List (Nat × SV)) (h : bxAt ops k st = some (d, ds)) (hst : pickR n L (st.put (some d) (.d (.dptr ds))) = some (l, H))
    (hn : OWk P pu ops (k + 1) (sp n l H) Q) : OWk P pu ops k st Q := by
  unfold bxAt at h
  split at h
  · rename_i o ho
    split at h
    · rename_i T x d' hop hd
      split at h
      · rename_i y hy
        split at h
        · rename_i hw
          cases h
          exact OWk.e ho hw (OpS.boxF hop hd hy) (OWk.keep L (keepR_of_pick hst) hn)
        · cases h
      · cases h
    · cases h
  · cases h
end
end Go.Sh
namespace Go.Sh
open Go.Sort
end Go.Sh
namespace Go.Sh
section
variable {P : Program} {pu : Bool} {st : St}
end
end Go.Sh
namespace Go.Sh
section
variable {P : Program} {ops : Array Oper} {md : Region.Mode} {R : Act → World → Prop} {pu : Bool} {st : St}
def Blind (P : Program) {α : Type} (m : Sem α) : Prop := ∀ w x w', m.run P w = .ok x w' → w' = w ∧ ∀ w2, m.run P w2 = .ok x w2
theorem Blind.pure {α : Type} (x : α) : Blind P (Pure.pure x : Sem α) := fun w y w' h => by
  simp_all
theorem Blind.never {α : Type} {m : Sem α} (h : ∀ w x w', m.run P w ≠ .ok x w') : Blind P m := fun w x w' h1 => absurd h1 (h w x w')
theorem Blind.halt {α : Type} (hh : Halt) : Blind P (Sem.halt hh : Sem α) := .never fun w x w' h => by simp [Sem.run] at h
theorem Blind.bind {α β : Type} {m : Sem α} {f : α → Sem β} (h1 : Blind P m) (h2 : ∀ x, Blind P (f x)) : Blind P (m >>= f) := fun w x w' h => by
  rw [Sem.run_bind] at h
  cases hm : m.run P w with
  | ok y w1 =>
    rw [hm, Result.andThen_ok] at h
    obtain ⟨rfl, a2⟩ := h1 w y w1 hm
    obtain ⟨b1, b2⟩ := h2 y _ x w' h
    simp_all
  | halt y w1 => rw [hm] at h; cases h
theorem Blind.program : Blind P Go.program := fun w x w' h => by
  simp_all
theorem Blind.typeInfo (t : TypeId) : Blind P (Go.typeInfo t) := by
  unfold Go.typeInfo
  refine Blind.program.bind fun p => ?_
  split
  · exact .pure _
  · exact .halt _
theorem Blind.underlying (t : TypeId) : Blind P (Go.underlying t) := by
  unfold Go.underlying
  refine Blind.program.bind fun p => ?_
  split
  · exact .pure _
  · exact .halt _
theorem Blind.sizeOf (t : TypeId) : Blind P (Go.sizeOf t) := (Blind.typeInfo t).bind fun _ => .pure _
theorem nilDeref_never {α : Type} : ∀ w (x : α) w', (runtimePanic .nilDeref : Sem α).run P w ≠ .ok x w' := fun w x w' h => by
  unfold runtimePanic at h
  simp_all
theorem bounds_never {α : Type} (x y : Int) (s : Bool) (c : BoundsCode) : ∀ w (z : α) w', (runtimePanic (.bounds x y s c) : Sem α).run P w ≠ .ok z w' := fun w z w' h => by
  unfold runtimePanic at h
  simp_all
theorem Blind.nilDeref {α : Type} : Blind P (runtimePanic .nilDeref : Sem α) := .never nilDeref_never
theorem never_bind {α β : Type} {m : Sem α} {f : α → Sem β} (h : ∀ y w x w', (f y).run P w ≠ .ok x w') : ∀ w x w', (m >>= f).run P w ≠ .ok x w' := fun w x w' h1 => by
  rw [Sem.run_bind] at h1
  cases hm : m.run P w with
  | ok y w1 => simp_all
  | halt y w1 => rw [hm] at h1; cases h1
theorem Blind.bounds {α : Type} (k : IntKind) (x y : Int) (c : BoundsCode) : Blind P (boundsPanic k x y c : Sem α) := .never fun w z w' h => by
  unfold boundsPanic at h
  simp only at h
  split at h
  · exact never_bind (fun s => bounds_never _ _ _ _) _ _ _ h
  · exact never_bind (fun s => bounds_never _ _ _ _) _ _ _ h
theorem Blind.asIntOf (v : Value) : Blind P (Go.asIntOf v) := by
  unfold Go.asIntOf
  split
  · exact .pure _
  · exact .halt _
  · exact .halt _
theorem Blind.asAddr (v : Value) : Blind P (Go.asAddr v) := by
  unfold Go.asAddr
  split
  · exact .pure _
  · exact .nilDeref
  · exact .halt _
theorem Blind.sureAddr (v : Value) : Blind P (Instr.sureAddr v) := by
  unfold Instr.sureAddr
  split
  · exact .pure _
  · exact .halt _
theorem Blind.sliceBound (x : Value) (y : Nat) (c : BoundsCode) : Blind P (Instr.sliceBound x y c) := by
  unfold Instr.sliceBound
  refine (Blind.asIntOf x).bind fun p => ?_
  obtain ⟨k, i⟩ := p
  simp only
  split
  · exact .pure _
  · exact .bounds _ _ _ _
theorem Blind.sliceBounds (s : Bool) (len cap : Nat) (lo hi mx : Option Value) : Blind P (Instr.sliceBounds s len cap lo hi mx) := by
  unfold Instr.sliceBounds
  dsimp only
  repeat' first
    | exact .pure _
    | exact .halt _
    | exact .sliceBound _ _ _
    | refine Blind.bind ?_ fun _ => ?_
    | split
theorem Blind.slice (t : TypeId) (x : Value) (lo hi mx : Option Value) : Blind P (Instr.slice t x lo hi mx) := by
  unfold Instr.slice
  dsimp only
  repeat' first
    | exact .pure _
    | exact .halt _
    | exact .underlying _
    | exact .sizeOf _
    | exact .asAddr _
    | exact .sliceBounds _ _ _ _ _ _
    | refine Blind.bind ?_ fun _ => ?_
    | split
theorem Blind.sliceAt (t : TypeId) (x : Value) (lo hi mx : Option Value) : Blind P (Instr.sliceAt t x lo hi mx) := by
  unfold Instr.sliceAt
  dsimp only
  repeat' first
    | exact .pure _
    | exact .halt _
    | exact .underlying _
    | exact .sizeOf _
    | exact .sureAddr _
    | exact .slice _ _ _ _ _
    | exact .sliceBounds _ _ _ _ _ _
    | refine Blind.bind ?_ fun _ => ?_
    | split
theorem Blind.under (hd : P.underlying T = some d) {α : Type} {f : TypeDesc → Sem α} (h : Blind P (f d)) : Blind P (Go.underlying T >>= f) := fun w x w' h1 => by
  rw [Sem.run_bind, run_underlying hd, Result.andThen_ok] at h1
  obtain ⟨a, b⟩ := h w x w' h1
  exact ⟨a, fun w2 => by rw [Sem.run_bind, run_underlying hd, Result.andThen_ok]; exact b w2⟩
theorem Blind.fieldAt (h : fieldB P s f = true) (x : Value) : Blind P (Instr.fieldAt s x f) := by
  unfold fieldB at h
  split at h
  · rename_i fs hs
    split at h
    · rename_i fl hf
      cases hi : P.info? fl.type with
      | none => rw [hi] at h; cases h
      | some i =>
        rw [hi] at h
        simp only [Option.map_some, Option.getD_some, bne_iff_ne, ne_eq] at h
        have hti : ∀ w, (Go.typeInfo fl.type).run P w = .ok i w := fun w => by
          unfold Go.typeInfo Go.program
          simp [Sem.run_bind, Sem.run, hi]
        unfold Instr.fieldAt
        refine Blind.under hs ?_
        simp only [hf]
        refine (Blind.sureAddr x).bind fun a => Blind.bind ?_ fun _ => .pure _
        unfold fieldPlace
        intro w y w' h1
        simp only [Sem.run_bind, Go.sizeOf, hti, Result.andThen_ok, Sem.run_pure, h, if_false] at h1
        cases h1
        exact ⟨rfl, fun w2 => by simp only [Sem.run_bind, Go.sizeOf, hti, Result.andThen_ok, Sem.run_pure, h, if_false]⟩
    · cases h
  · cases h
theorem Blind.indexAt (t : TypeId) (x ix : Value) : Blind P (Instr.indexAt t x ix) := by
  unfold Instr.indexAt
  dsimp only
  repeat' first
    | exact .pure _
    | exact .halt _
    | exact .underlying _
    | exact .sizeOf _
    | exact .sureAddr _
    | exact .asIntOf _
    | exact .bounds _ _ _ _
    | refine Blind.bind ?_ fun _ => ?_
    | split
theorem Blind.part (t : TypeId) (cs : Array Value) (off : Nat) : Blind P (Go.part t cs off) := by
  unfold Go.part
  repeat' first
    | exact .pure _
    | exact .halt _
    | exact .typeInfo _
    | exact .underlying _
    | exact .sizeOf _
    | refine Blind.bind ?_ fun _ => ?_
    | split
theorem Blind.followBlind : ∀ (l : List FieldStep) (t : TypeId) (x : Option Value), Blind P (Go.followBlind l t x)
  | [], t, x => .pure _
  | s :: rest, t, x => by
    unfold Go.followBlind
    repeat' first
      | exact .pure _
      | exact .halt _
      | exact .underlying _
      | exact .part _ _ _
      | exact Blind.followBlind rest _ _
      | refine Blind.bind ?_ fun _ => ?_
      | split
theorem Blind.nilAhead : ∀ (n : Nat) (t : TypeId) (v : Value) (name : String), Blind P (Go.nilAhead n t v name)
  | 0, t, v, name => .pure _
  | n + 1, t, v, name => by
    unfold Go.nilAhead
    repeat' first
      | exact .pure _
      | exact .halt _
      | exact .typeInfo _
      | exact .underlying _
      | exact .followBlind _ _ _
      | exact Blind.nilAhead n _ _ _
      | refine Blind.bind ?_ fun _ => ?_
      | split
def blindB (P : Program) (o : Oper) : Bool := match o.op with
  | .move _ | .slice _ _ _ _ _ | .indexAddr _ _ _ => true
  | .fieldAddr s _ f => fieldB P s f
  | .nilCheck _ => true
  | _ => false
theorem blindB_spec (h : blindB P o = true) (ρ : Operand → Value) : Blind P (execOp ρ o) := by
  unfold blindB at h
  unfold execOp
  split at h
  · rename_i x hop; rw [hop]; exact .pure _
  · rename_i T x lo hi mx hop; rw [hop]; exact (Blind.sliceAt _ _ _ _ _).bind fun _ => .pure _
  · rename_i T x i hop; rw [hop]; exact (Blind.indexAt _ _ _).bind fun _ => .pure _
  · rename_i s x f hop; rw [hop]; exact (Blind.fieldAt h _).bind fun _ => .pure _
  · rename_i x hop
    rw [hop]
    dsimp only
    repeat' first
      | exact .pure _
      | exact .nilDeref
      | exact .halt _
      | exact .program
      | exact .nilAhead _ _ _ _
      | refine Blind.bind ?_ fun _ => ?_
      | split
  · cases h
def PureAt (P : Program) (o : Oper) (a : Act) (v : Value) : Prop := ∀ w, (execOp a.eval o).run P w = .ok (.value v) w
theorem value_of (h : (do pure (.value (← m)) : Sem Next).run P w = .ok n w') : ∃ v, n = .value v := by
  rw [Sem.run_bind] at h
  cases hm : m.run P w with
  | ok y w1 => rw [hm, Result.andThen_ok, Sem.run_pure] at h; cases h; exact ⟨_, rfl⟩
  | halt y w1 => rw [hm] at h; cases h
def IsVal (m : Sem Next) : Prop := ∀ w n w', m.run P w = .ok n w' → ∃ v, n = .value v
theorem IsVal.pure (v : Value) : IsVal (P := P) (Pure.pure (Next.value v)) := fun w n w' h => by
  rw [Sem.run_pure] at h; cases h; exact ⟨_, rfl⟩
theorem IsVal.halt (x : Halt) : IsVal (P := P) (Sem.halt x : Sem Next) := fun w n w' h => by simp [Sem.run] at h
theorem IsVal.nilDeref : IsVal (P := P) (runtimePanic .nilDeref : Sem Next) := fun w n w' h => absurd h (nilDeref_never w n w')
theorem IsVal.bind {α : Type} {m : Sem α} {f : α → Sem Next} (h : ∀ x, IsVal (P := P) (f x)) : IsVal (P := P) (m >>= f) := fun w n w' h1 => by
  rw [Sem.run_bind] at h1
  cases hm : m.run P w with
  | ok y w1 => rw [hm, Result.andThen_ok] at h1; exact h y _ _ _ h1
  | halt y w1 => rw [hm] at h1; cases h1
theorem nilCheck_value {ρ : Operand → Value} (hop : o.op = .nilCheck x) : IsVal (P := P) (execOp ρ o) := by
  unfold execOp
  rw [hop]
  dsimp only
  repeat' first
    | exact IsVal.pure _
    | exact IsVal.nilDeref
    | exact IsVal.halt _
    | refine IsVal.bind fun _ => ?_
    | split
theorem blindB_value (h : blindB P o = true) {ρ : Operand → Value} (hr : (execOp ρ o).run P w = .ok n w') : ∃ v, n = .value v := by
  unfold blindB at h
  split at h
  · rename_i x hop; unfold execOp at hr; rw [hop] at hr; simp only [Sem.run_pure] at hr; cases hr; exact ⟨_, rfl⟩
  · rename_i T x lo hi mx hop; unfold execOp at hr; rw [hop] at hr; exact value_of hr
  · rename_i T x i hop; unfold execOp at hr; rw [hop] at hr; exact value_of hr
  · rename_i s x f hop; unfold execOp at hr; rw [hop] at hr; exact value_of hr
  · rename_i x hop; exact nilCheck_value hop _ _ _ hr
  · cases h
theorem blindB_sel (h : blindB P o = true) (cs : Array SelectCase) (b : Bool) : o.op ≠ .select cs b := fun e => by
  unfold blindB at h
  rw [e] at h
  cases h
theorem PureAt.put (hap : o.apart ops oj = true) (hs : ∀ cs b, o.op ≠ .select cs b) (h : PureAt P o a v) : PureAt P o (a.put oj.dst u) v := fun w => by
  rw [execOp_put (ops := ops) o hs a oj.dst u (Oper.apart_spec hap).2.2]
  exact h w
theorem PureAt.defers (h : PureAt P o a v) (ds : List Deferred) : PureAt P o { a with defers := ds } v := fun w => by
  have e : ({ a with defers := ds } : Act).eval = a.eval := funext (eval_defers a ds)
  rw [e]; exact h w
theorem wpOp_pure (hj : ops[j]? = some oj) (hb : blindB P oi = true) (hap : oi.apart ops oj = true) (hsj : ∀ cs b, oj.op ≠ .select cs b) {K : Act → World → Prop} 
    (hv : PureAt P oi a v) (h : wpOp P ops (NQ R) j K (a.put oi.dst v) w) : wpOp P ops (NQ R) j (fun a' w' => PureAt P oi a' v ∧ K (a'.put oi.dst v) w') a w := by
  obtain ⟨h1, h2, h3⟩ := Oper.apart_spec hap
  have keep : ∀ u, PureAt P oi (a.put oj.dst u) v := fun u => hv.put hap (blindB_sel hb)
  have keep' : ∀ u ds, PureAt P oi (({ a with defers := ds } : Act).put oj.dst u) v := fun u ds => (hv.defers ds).put hap (blindB_sel hb)
  unfold wpOp at *
  simp only [hj] at *
  rw [wanted_put oj a oi.dst v h1] at h
  split
  · rename_i hw
    simp only [hw, if_true] at h
    refine .inl ?_
    rcases h with h | h
    · unfold Oper.wp at *
      rw [execOp_put oj hsj a oi.dst v h1] at h
      generalize (execOp a.eval oj).run P w = r at *
      cases r with
      | ok n w' =>
        cases n <;> simp only [Oper.upon] at h ⊢
        case value u => exact ⟨keep u, by rw [← Act.put_comm a v u h2]; exact h⟩
        case skip => exact ⟨keep _, by rw [← Act.put_comm a v undef h2]; exact h⟩
        case defer d =>
          refine ⟨keep' _ _, ?_⟩
          rw [put_defers', defers_put] at h
          rw [← Act.put_comm _ v undef h2]; exact h
        case enter f args =>
          refine h.mono fun e w'' hh => ?_
          cases e with
          | returned u => exact ⟨keep u, by rw [← Act.put_comm a v u h2]; exact hh⟩
          | panicked chain => exact absurd hh.1 (by simp)
          | outgrown => exact absurd hh NQ.out
        case row row args => exact h.mono fun u w'' hh => ⟨keep u, by rw [← Act.put_comm a v u h2]; exact hh⟩
      | halt y w' =>
        cases y <;> simp only [Oper.upon] at h ⊢
        exact absurd h.1 (by simp)
    · exact absurd h.2 NQ.out
  · rename_i hw
    simp only [hw] at h
    exact ⟨keep _, by rw [← Act.put_comm a v undef h2]; exact h⟩
theorem wpAny_pure (hi : ops[i]? = some oi) (hb : blindB P oi = true) (hg : oi.guard = none) (hsel : ∀ (j : Nat) (o : Oper) cs b, ops[j]? = some o → o.op ≠ .select cs b) :
    ∀ (fuel : Nat) (listed : Array Bool) (a : Act) (w : World), PureAt P oi a v →
      (∀ j oj, ops[j]? = some oj → j ≠ i → listed.getD j true = false → (∀ e ∈ oj.after, Region.binds md e = true → e.on ≠ i) → oi.apart ops oj = true) →
      i ∈ Region.ready md ops listed →
      wpAny P md ops (NQ R) fuel (listed.setIfInBounds i true) (a.put oi.dst v) w → wpAny P md ops (NQ R) (fuel + 1) listed a w := by
  have one : ∀ (K : Act → World → Prop) (a : Act) (w : World), PureAt P oi a v → K (a.put oi.dst v) w → wpOp P ops (NQ R) i K a w := fun K a w hv h => by
    unfold wpOp
    simp only [hi]
    have hw : Region.wanted oi (yielded ops a.tmps) = true := by unfold Region.wanted; rw [hg]
    rw [if_pos hw]
    refine .inl ?_
    unfold Oper.wp
    rw [hv w, Oper.upon_value]
    exact h
  intro fuel
  induction fuel with
  | zero =>
    intro listed a w hv _ hr H
    refine ⟨fun h => (by rw [h] at hr; cases hr), fun j hj => ?_⟩
    by_cases hji : j = i
    · subst hji; exact one _ a w hv H
    · have := ready_mono hj hji
      rw [H.1] at this
      cases this
  | succ fuel ih =>
    intro listed a w hv hfree hr H
    refine ⟨fun h => (by rw [h] at hr; cases hr), fun j hj => ?_⟩
    by_cases hji : j = i
    · subst hji; exact one _ a w hv H
    · have h1 := H.2 j (ready_mono hj hji)
      obtain ⟨hjun, oj, hoj, hall⟩ := mem_ready.1 hj
      have hnot : ∀ e ∈ oj.after, Region.binds md e = true → e.on ≠ i := fun e he hb heq => by
        have h1 := hall e he hb
        have h0 := (mem_ready.1 hr).1
        grind
      have h2 := wpOp_pure hoj hb (hfree j oj hoj hji hjun hnot) (fun cs b => hsel j oj cs b hoj) hv h1
      have hfree' : ∀ k ok, ops[k]? = some ok → k ≠ i → (listed.setIfInBounds j true).getD k true = false →
          (∀ e ∈ ok.after, Region.binds md e = true → e.on ≠ i) → oi.apart ops ok = true := fun k ok hk hki hun hno => by
        refine hfree k ok hk hki ?_ hno
        by_cases hjk : j = k
        · subst hjk; exact hjun
        simp_all
      refine wpOp_mono (fun a' w' h3 => ih (listed.setIfInBounds j true) a' w' h3.1 hfree' (ready_mono hr (Ne.symm hji)) ?_) h2
      rw [Array.setIfInBounds_comm _ _ hji]
      exact h3.2
end
end Go.Sh
namespace Go.Sh
def backH (t : Nat) : Own → Own
  | .free => .free
  | .obj i => .obj i
  | .lst (.hcell i j) => .lst (.hcell i j)
  | .lst (.slot 0) => .lst (.slot t)
  | .lst (.comp 0 j) => .lst (.comp t j)
  | _ => .lst .els
def sharedO : Own → Bool
  | .obj _ | .lst (.hcell _ _) => true
  | _ => false
def afterH (n t : Nat) (ow ow' : Nat → Own) (k : Nat) : Own := if k < n ∧ sharedO (ow k) = false then ow k else backH t (ow' k)
def noHl : SV → Bool
  | .lent (.hcell _ _) _ _ | .lptr (.hcell _ _) _ => false
  | _ => true
section
variable {P : Program} {ops : Array Oper} {rest : List Oper} {st : St} {Q : St → Prop}
theorem keptH {g g' : Gh} {w w' : World} (hf : Fr false (g.ren (calleeOw [] [])) w g' w') {k : Nat} {b : Obj} (hb : w.heap[k]? = some b) (hs : sharedO (g.ow k) = false) :
    (g'.ow k = .free ∨ g'.ow k = .out) ∧ (g'.ow k = .free → g.ow k = .free) ∧ w'.heap[k]? = some b := by
  cases ho : g.ow k with
  | free =>
    have h1 : (g.ren (calleeOw [] [])).ow k = .free := by simp [Gh.ren, ho, calleeOw]
    obtain ⟨e1, e2⟩ := hf.free k b h1 hb
    grind
  | obj i => rw [ho] at hs; cases hs
  | out =>
    have h1 : (g.ren (calleeOw [] [])).ow k = .out := by simp [Gh.ren, ho, calleeOw]
    obtain ⟨e1, e2⟩ := hf.out k b h1 hb
    grind
  | box t =>
    have h1 : (g.ren (calleeOw [] [])).ow k = .out := by simp [Gh.ren, ho, calleeOw]
    obtain ⟨e1, e2⟩ := hf.out k b h1 hb
    grind
  | lst l =>
    have h1 : (g.ren (calleeOw [] [])).ow k = .out := by
      cases l <;> simp [Gh.ren, ho, calleeOw]
      rw [ho] at hs; cases hs
    obtain ⟨e1, e2⟩ := hf.out k b h1 hb
    grind
theorem keepH {g g' : Gh} {w w' : World} {t : Nat} (hf : Fr false (g.ren (calleeOw [] [])) w g' w') {o : Own} (ho : sharedO o = false) : Keep o g w ⟨afterH w.heap.size t g.ow g'.ow, g'.ρ⟩ w' := fun k b h1 h2 => by
  have hlt : k < w.heap.size := (Array.getElem?_eq_some_iff.1 h2).1
  refine ⟨?_, (keptH hf h2 (by rw [h1]; exact ho)).2.2⟩
  simp only [afterH]
  grind
theorem tagH {g g' : Gh} {w w' : World} {t : Nat} (hf : Fr false (g.ren (calleeOw [] [])) w g' w') {k : Nat} {o : Own} (ho : o ≠ .out) (hk : g'.ow k = o) (hfree : o = .free → backH t o = .free) :
    (⟨afterH w.heap.size t g.ow g'.ow, g'.ρ⟩ : Gh).ow k = backH t o := by
  simp only [afterH]
  split
  · rename_i h
    obtain ⟨b, hb⟩ : ∃ b, w.heap[k]? = some b := ⟨w.heap[k]'h.1, by simp [h.1]⟩
    obtain ⟨h1, h2, -⟩ := keptH hf hb h.2
    grind
  · rw [hk]
theorem OW.callH (hw : wantS ops st o = some true) (hop : o.op = .call c) (hc : callS P st [] c = some ⟨f0, args, [], []⟩) (hp : SC P false f0 args st.H r H')
    (hr : resD r = true) (hn : st.tmps.all noHl = true) (h : OW P false ops rest ⟨(st.put o.dst r).tmps, H'⟩ Q) : OW P false ops (o :: rest) st Q := by
  intro a w g hrel Qc hq
  unfold wpList
  rw [wantS_sound hrel hw, if_pos rfl]
  refine .inl ?_
  unfold callS at hc
  split at hc
  · rename_i f first caps hcallee
    · split at hc
      · rename_i ss ls gs hargs
        split at hc
        · rename_i hok
          cases hc
          rw [Bool.and_eq_true] at hok
          obtain ⟨hgive, hfn⟩ := hok
          have hgs := giveOk_spec hgive
          obtain ⟨vf, vc, hev, lf, lc, rf, rc⟩ := calleeS_sound hrel hcallee hfn
          obtain ⟨la, ra⟩ := argsS_sound hrel hgs hargs (fun _ h => h) (fun _ h => h)
          have hexec : (execOp a.eval o).run P w = .ok (.enter f0 (vf ++ c.args.map a.eval ++ vc)) w := by
            unfold execOp
            rw [hop]
            exact hev _ w
          unfold Oper.wp
          rw [hexec, Oper.upon_enter]
          have hRA : RArgs (g.ren (calleeOw [] [])) w (vf ++ c.args.map a.eval ++ vc) (first.map .d ++ ss ++ caps.map .d) := by
            have hla : (c.args.map a.eval).size = ss.length := by rw [← la]; simp
            have hla' : c.args.size = ss.length := by rw [← la]; simp
            refine ⟨by simp [lf, lc, ← la], fun j s hj => ?_⟩
            have kp : ∀ {v : Value} {d : D}, Rd g w v d → Rd (g.ren (calleeOw [] [])) w v d := fun hr => hr.keep (Keep.ren rfl) (fun _ _ h => h)
            by_cases j1 : j < first.length
            · rw [List.append_assoc, List.getElem?_append_left (by simpa using j1), List.getElem?_map] at hj
              simp only [Option.map_eq_some_iff] at hj
              obtain ⟨d, hd, rfl⟩ := hj
              obtain ⟨u, e1, e2⟩ := rf j d hd
              exact ⟨u, by grind, kp e2⟩
            · by_cases j2 : j < first.length + ss.length
              · grind
              · rw [List.getElem?_append_right (by simp; omega), List.getElem?_map] at hj
                simp only [Option.map_eq_some_iff, List.length_append, List.length_map] at hj
                obtain ⟨d, hd, rfl⟩ := hj
                obtain ⟨u, e1, e2⟩ := rc _ d hd
                refine ⟨u, ?_, kp e2⟩
                grind
          have hRH0 : RH (g.ren (calleeOw [] [])) w st.H := hrel.hp.keep (fun o' ho' => Keep.ren (by
            cases o' <;> simp only [usesH] at ho' <;> try rfl
            rename_i l
            cases l <;> simp only [usesH] at ho'
            rfl)) (fun _ _ h => h) rfl
          refine (hp w (g.ren (calleeOw [] [])) _ hRA hRH0).mono fun e w' hh => ?_
          obtain ⟨v, g', rfl, hres, hRH, hf⟩ := hh
          have hρ' : KeepR g ⟨afterH w.heap.size (o.dst.getD 0) g.ow g'.ow, g'.ρ⟩ := fun i k h => hf.rho i k h
          have hkp := fun o' ho' => keepH (t := o.dst.getD 0) hf (o := o') ho'
          have hfr : Fr false g w ⟨afterH w.heap.size (o.dst.getD 0) g.ow g'.ow, g'.ρ⟩ w' :=
            ⟨hf.size, hkp _ rfl, hkp _ rfl, hρ', (fun h => by cases h), (fun h => by cases h), (fun h => by cases h), hf.os⟩
          have h0 : Keep .free g' w' ⟨afterH w.heap.size (o.dst.getD 0) g.ow g'.ow, g'.ρ⟩ w' := fun k b h1 h2 => ⟨tagH hf (by simp) h1 (fun _ => rfl), h2⟩
          refine h (a.put o.dst v) w' _ ?_ Qc fun st2 a2 w2 g2 q2 r2 f2 => hq st2 a2 w2 g2 q2 r2 (hfr.trans f2)
          refine Rel.step hrel (by rw [put_size]; simp only [St.put_len]; exact hrel.len) (by rw [put_defers]; exact hrel.def0) hρ' (fun t s hs => ?_) ?_
          · by_cases hd : o.dst = some t
            · simp only at hs
              rw [hd] at hs ⊢
              obtain ⟨rfl, hlt⟩ := St.put_get_same hs
              refine .inr (.inl ?_)
              rw [valOf_put_same (by rw [hrel.len]; exact hlt)]
              simp only [Option.getD_some]
              rw [hd] at h0
              simp only [Option.getD_some] at h0
              have tag : ∀ l, (∀ i j, l ≠ .hcell i j) → ∀ k b, g'.ow k = .lst l → w'.heap[k]? = some b → (⟨afterH w.heap.size t g.ow g'.ow, g'.ρ⟩ : Gh).ow k = backH t (.lst l) := fun l hl k b hk _ => tagH hf (by simp) hk (by simp)
              cases hrr : s with
              | d x => rw [hrr] at hres; exact Rd.keep h0 (fun _ _ h => h) (hres : Rd g' w' v x)
              | own n xs =>
                rw [hrr] at hres
                exact (RC.back h0 (tag (.slot 0) (by simp)) (fun _ _ h => h) (hres : RC g' w' (.slot 0) v (.own n xs)) : RC _ _ (.slot t) v (.own n xs))
              | tup vs =>
                rw [hrr] at hres hr
                obtain ⟨us, e1, e2, e3⟩ := hres
                refine ⟨us, e1, e2, fun j s' hj => ?_⟩
                obtain ⟨u, f1, f2⟩ := e3 j s' hj
                exact ⟨u, f1, RC.back h0 (tag (.comp 0 j) (by simp)) (fun _ _ h => h) f2 (by rintro v0 n xs rfl; exact f2)⟩
              | _ => rw [hrr] at hr; simp [resD] at hr
            · simp only at hs
              have hput : s = .undef ∨ (st.tmps[t]? = some s ∧ ∀ t0 old, o.dst = some t0 → st.tmps[t0]? = some old → heavy old = true → mention t0 s = false) := by
                cases hdst : o.dst with
                | none => rw [hdst] at hs; exact .inr ⟨hs, by simp⟩
                | some t0 =>
                  rw [hdst] at hs hd
                  rcases St.put_get (fun e => hd (by rw [e])) hs with h | ⟨h1, h2⟩
                  · exact .inl h
                  grind
              rcases hput with rfl | ⟨hs3, hs2⟩
              · exact .inl rfl
              · have hnh : noHl s = true := List.all_eq_true.1 hn s (List.mem_iff_getElem?.2 ⟨t, hs3⟩)
                refine .inr (.inr ⟨hs3, valOf_put hd, fun o' ho' => hkp o' ?_, fun s0 e => ?_⟩)
                · cases o' with
                  | obj i =>
                    exfalso
                    cases s <;> simp [uses] at ho'
                  | lst l =>
                    cases l with
                    | hcell i j =>
                      exfalso
                      cases s <;> simp [uses] at ho'
                      · subst ho'; simp [noHl] at hnh
                      · subst ho'; simp [noHl] at hnh
                    | _ => rfl
                  | _ => rfl
                · obtain ⟨x0, hx0, hb0⟩ := dep_big (hrel.tmp t _ hs3) e
                  have hd0 : o.dst ≠ some s0 := fun e2 => by
                    have := hs2 s0 _ e2 hx0 (bigK_heavy hb0)
                    rw [dep_mention e] at this
                    cases this
                  exact ⟨valOf_put hd0, fun x hx hb => ⟨x, St.put_big hx hb hd0, rfl⟩⟩
          · refine RH.keep (g := g') (w := w') (fun o' ho' => ?_) (fun _ _ h => h) rfl hRH
            intro k b h1 h2
            refine ⟨?_, h2⟩
            cases o' with
            | free => exact tagH hf (by simp) h1 (fun _ => rfl)
            | obj i => exact tagH hf (by simp) h1 (fun h => by cases h)
            | lst l =>
              cases l <;> simp only [usesH] at ho'
              exact tagH hf (by simp) h1 (fun h => by cases h)
            | _ => exact ho'.elim
        · cases hc
      · cases hc
  · cases hc
end
end Go.Sh
namespace Go.Sh
section
variable {P : Program} {ops : Array Oper} {st : St}
theorem SC.of_SWh (hf : P.funcs[f]? = some fn) (hb : fn.body = some c)
    (h : SW P false c (initSt fn.ntmps args H) (EndQ P fn.results.toList H' r)) : SC P false f args H r H' := by
  refine SC.of_SW hf hb ?_
  intro a w g hr
  refine Code.wp_mono (fun e a' w' hh => ?_) (h a w g hr)
  obtain ⟨st', g', ⟨he, l, h1, h2⟩, r1, f⟩ := hh
  exact ⟨st'.nils l, g', ⟨he, endV_ok h1, by rw [St.nils_H]; exact h2⟩, r1.nils, f⟩
end
end Go.Sh
namespace Go.Sh
section
variable {P : Program} {ops : Array Oper} {k : Nat} {st : St}
theorem OWk.clH {Q : St → Prop} (n : Nat) (L : List Nat) (l : List (Nat × SV)) (hp : SC P false f args st.H r H')
    (h : callAt P ops k st [] = some (d, f, args, [], [])) (hr : (resD r && st.tmps.all noHl) = true) (hst : pickR n L ⟨(st.put d r).tmps, H'⟩ = some (l, H')) (hn : OWk P false ops (k + 1) (sp n l H') Q) : OWk P false ops k st Q := by
  unfold callAt at h
  split at h
  · rename_i o ho
    split at h
    · rename_i c hop
      split at h
      · rename_i cs hcs
        simp only [Option.some.injEq, Prod.mk.injEq] at h
        obtain ⟨rfl, rfl, rfl, e1, e2⟩ := h
        obtain ⟨h1, h2⟩ := opAt_inv ho
        rw [Bool.and_eq_true] at hr
        obtain ⟨f0, a0, l0, g0⟩ := cs
        cases e1; cases e2
        unfold OWk
        rw [drop_cons h1]
        exact OW.callH h2 hop hcs hp hr.1 hr.2 (OWk.keep L (keepR_of_pick hst) hn)
      · cases h
    · cases h
  · cases h
end
section
variable {P : Program} {rs : List ResultVar} {s : St} {α : Type} {e : α → SV} {a : α} {H : Hp}
end
end Go.Sh
namespace Go.Sh
section
variable {P : Program} {ops : Array Oper} {ds : List Deferred}
end
end Go.Sh
namespace Go.Sh
section
variable {P : Program} {ops : Array Oper} {ds : List Deferred} {st : St} {k : Nat} {Q : Exit → St → Prop}
end
end Go.Sh
namespace Go.Sh
section
variable {P : Program} {ops : Array Oper} {k : Nat} {st : St}
end
end Go.Sh
namespace Go.Sh
end Go.Sh
namespace Go.Sh
end Go.Sh
namespace Go.Sh
section
variable {P : Program} {st : St}
theorem ROwn.slice (h : ROwn g w l v n xs) : ∃ a len cap, v = .slice a len cap := by
  rcases h with ⟨_, a, e⟩ | ⟨k, off, cap, c, T, us, hv, _⟩
  · exact ⟨a, 0, 0, e⟩
  · exact ⟨_, _, _, hv⟩
end
end Go.Sh
namespace Go.Sh
section
variable {P : Program} {ops : Array Oper} {k : Nat} {st : St} {Q : St → Prop}
end
end Go.Sh
namespace Go.Sh
def Fw : Option Nat → Fence
  | none => Fence.wide
  | some l => Fence.wide.inRound l
theorem Fw_fn (f : FuncId) : (Fw r).fn f := by cases r <;> trivial
theorem Fw_depth : (Fw r).depth = none := by cases r <;> rfl
theorem Fw_round : (Fw r).round = r := by cases r <;> rfl
theorem Fw_room (n : Nat) : (Fw r).room n := fun d hd => by rw [Fw_depth] at hd; cases hd
section
variable {P : Program} {ops : Array Oper} {st : St}
theorem callsIn_Fw {R : Ending → World → Prop} (h : Calls P f args w R) : CallsIn (Fw r) n P f args w R := by
  cases r with
  | none => exact callsIn_wide.2 h
  | some l => exact (callsIn_wide.2 h).inRound l
def NX (X : Act → World → Prop) : Exit → Act → World → Prop := fun e a w => e = .normal ∧ X a w
variable {C : Gh → World → Prop} {Q : Exit → St → Prop}
end
end Go.Sh
namespace Go.Sh
section
variable {P : Program} {st : St}
variable {r : Option Nat} {K : St → Prop}
end
end Go.Sh
namespace Go.Sh
section
variable {P : Program} {st : St} {C : Gh → World → Prop} {Q : Exit → St → Prop} {ops : Array Oper} {m : Nat} {K : St → Prop}
end
end Go.Sh
namespace Go.Sh
section
variable {P : Program} {st : St} {Q : Exit → St → Prop}
end
end Go.Sh
namespace Go.Sh
section
variable {P : Program} {st : St} {Q : Exit → St → Prop}
end
end Go.Sh
namespace Go.Sh
end Go.Sh
namespace Go.Sh
end Go.Sh
namespace Go.Sh
end Go.Sh
namespace Go.Sh
section
variable {P : Program} {st : St} {ds : List Deferred} {Q : Exit → St → Prop}
end
end Go.Sh
namespace Go.Sh
section
variable {P : Program} {st : St} {ds : List Deferred} {Q : Exit → St → Prop}
end
end Go.Sh
namespace Go.Sh
section
variable {P : Program} {st : St} {Q : Exit → St → Prop}
end
end Go.Sh
namespace Go.Sh
section
variable {P : Program} {st : St} {ds : List Deferred} {Q : Exit → St → Prop}
end
end Go.Sh
namespace Go.Sh
section
variable {P : Program} {st : St} {Q : Exit → St → Prop}
end
end Go.Sh
namespace Go.Sh
section
variable {P : Program} {ops : Array Oper} {k : Nat} {st : St} {Q : St → Prop}
end
end Go.Sh
namespace Go.Sh
section
variable {P : Program} {st : St} {ops : Array Oper} {k : Nat}
end
end Go.Sh
namespace Go.Sh
section
variable {P : Program} {pu : Bool} {ops : Array Oper} {k n : Nat} {l0 : List (Nat × SV)} {H : List SObj}
theorem OWk.CH {Q : St → Prop} (d : Option Tmp) (l : List (Nat × SV)) (hp : SC P false f args H r H') (hn : OWk P false ops (k + 1) (sp n l H') Q) (h : callAt P ops k (sp n l0 H) [] = some (d, f, args, [], []) := by kernel_rfl)
    (hr : (resD r && (sp n l0 H).tmps.all noHl) = true := by kernel_rfl) (hst : pickR n (l.map (·.1)) ⟨((sp n l0 H).put d r).tmps, H'⟩ = some (l, H') := by kernel_rfl) : OWk P false ops k (sp n l0 H) Q := OWk.clH n _ l hp h hr hst hn
end
end Go.Sh
namespace Go.Sh
def hasH : Loc → Bool
  | .hcell _ _ => true
  | _ => false
def lendHp (ls : List Loc) (H : Hp) : Hp := bif ls.any hasH then H.mapIdx (lendObj ls) else H
theorem lendCell_no (h : ls.any hasH = false) (i j : Nat) (s : SV) : lendCell ls i j s = s := by
  cases s <;> try rfl
  all_goals
    simp only [lendCell]
    split
    · rename_i hc
      have : ls.any hasH = true := List.any_eq_true.2 ⟨.hcell i j, by simpa using hc, rfl⟩
      rw [h] at this
      cases this
    · rfl
theorem lendObj_no (h : ls.any hasH = false) (i : Nat) (o : SObj) : lendObj ls i o = o := by
  cases o with
  | cells cs =>
    simp only [lendObj]
    congr 1
    apply List.ext_getElem?
    intro j
    simp only [List.getElem?_mapIdx]
    cases cs[j]? with
    | none => rfl
    | some s => simp [lendCell_no h]
  | bld T e bs =>
    simp only [lendObj]
    split
    · rename_i hc
      have : ls.any hasH = true := List.any_eq_true.2 ⟨.hcell i 1, by simpa using hc, rfl⟩
      rw [h] at this
      cases this
    · rfl
  | _ => rfl
theorem lendHp_eq (ls : List Loc) (H : Hp) : H.mapIdx (lendObj ls) = lendHp ls H := by
  unfold lendHp
  cases h : ls.any hasH with
  | true => rfl
  | false =>
    rw [cond_false]
    apply List.ext_getElem?
    intro j
    simp only [List.getElem?_mapIdx]
    cases H[j]? with
    | none => rfl
    | some o => simp [lendObj_no h]
section
variable {P : Program} {pu : Bool} {ops : Array Oper} {k n : Nat} {l0 : List (Nat × SV)} {H : List SObj}
theorem OWk.CR {Q : St → Prop} (d : Option Tmp) (l : List (Nat × SV)) (hp : SC P true f args (lendHp ls H) r H') (hn : OWk P pu ops (k + 1) (sp n l H) Q)
    (h : callAt P ops k (sp n l0 H) [] = some (d, f, args, ls, []) := by kernel_rfl) (hr : (resD r && (ls.isEmpty || flatSV r)) = true := by kernel_rfl)
    (hst : pickR n (l.map (·.1)) ((sp n l0 H).put d r) = some (l, H) := by kernel_rfl) : OWk P pu ops k (sp n l0 H) Q := by
  unfold callAt at h
  split at h
  · rename_i o ho
    split at h
    · rename_i c hop
      split at h
      · rename_i cs hcs
        simp only [Option.some.injEq, Prod.mk.injEq] at h
        obtain ⟨rfl, rfl, rfl, rfl, e2⟩ := h
        obtain ⟨h1, h2⟩ := opAt_inv ho
        rw [Bool.and_eq_true] at hr
        obtain ⟨f0, a0, l1, g0⟩ := cs
        cases e2
        unfold OWk
        rw [drop_cons h1]
        refine OW.callG [] h2 hop hcs (by rw [lendHp_eq]; exact hp) hr.1 (by grind) ?_
        exact OWk.keep _ (keepR_of_pick hst) hn
      · cases h
    · cases h
  · cases h
theorem OWk.asP {Q : St → Prop} (p : Option Nat) (S : Option Nat → St) (h0 : st = S p) (hp : p = some i) (h : OWk P pu ops k (S (some i)) Q) : OWk P pu ops k st Q := by
  subst h0
  rw [hp]
  exact h
def hGetL {α : Type} (n : Nat) (c : Cd α) (H : Hp) (i off : Nat) : Option (List α) :=
  (hCells H i).bind fun cs => match cs[off]? with
    | some (.own n' ds) => if n' = n then ds.mapM c.dec else none
    | some (.d (.list n' ds)) => if n' = n then ds.mapM c.dec else none
    | _ => none
theorem hGetL_eq {α : Type} {n : Nat} {c : Cd α} {H : Hp} {xs : List α} (h : hGetL n c H i off = some xs) :
    ∃ cs, H[i]? = some (.cells cs) ∧ (cs[off]? = some (.own n (xs.map c.enc)) ∨ cs[off]? = some (.d (.list n (xs.map c.enc)))) := by
  unfold hGetL at h
  simp only [Option.bind_eq_some_iff] at h
  obtain ⟨cs, h1, h2⟩ := h
  split at h2
  · rename_i n' ds hc
    split at h2
    · rename_i e
      subst e
      exact ⟨cs, hCells_eq h1, .inl (by rw [hc, mapM_de c _ _ h2])⟩
    · cases h2
  · rename_i n' ds hc
    split at h2
    · rename_i e
      subst e
      exact ⟨cs, hCells_eq h1, .inr (by rw [hc, mapM_de c _ _ h2])⟩
    · cases h2
  · cases h2
theorem BStep.up {n : Nat} (lc : Loc) (h : BStep P st o (.d (.list n xs))) : BStep P st o (.lent lc n xs) := by
  intro a w g hr
  obtain ⟨v, h1, h2⟩ := h a w g hr
  refine ⟨v, ?_, h2⟩
  exact (Rd.toList (show Rd g w v (.list n xs) from h1)).up
def ldLAt (P : Program) (ops : Array Oper) (k : Nat) (st : St) : Option (Option Tmp × Nat × Nat × Hp) :=
  match opAt ops k st with
  | some o => match o.op with
    | .load T x => match asLoc st x, ptrOf st x, ptrH st x with
      | none, none, some (i, off) => if (!(P.underlying T).isNone && !isAggT P T && o.dst.isSome) = true then some (o.dst, i, off, st.H) else none
      | _, _, _ => none
    | _ => none
  | none => none
theorem BAt.ldL {α : Type} {c : Cd α} {xs : List α} (hx : hGetL n' c H0 i off = some xs) (h : ldLAt P ops k st = some (d, i, off, H0) := by kernel_rfl) : BAt P ops k st d (.lent (.hcell i off) n' (xs.map c.enc)) := by
  obtain ⟨cs, e1, e2⟩ := hGetL_eq hx
  unfold ldLAt at h
  split at h
  · rename_i o ho
    split at h
    · rename_i T xo hop
      split at h
      · rename_i i' off' h1 h2 h3
        split at h
        · rename_i hc
          simp only [Bool.and_eq_true, Bool.not_eq_true'] at hc
          simp only [Option.some.injEq, Prod.mk.injEq] at h
          obtain ⟨rfl, rfl, rfl, rfl⟩ := h
          obtain ⟨g1, g2⟩ := opAt_inv ho
          have hu : ¬ (P.underlying T).isNone = true := by grind
          have ha : ¬ isAggT P T = true := by grind
          have hd : ∀ s, cs[off']? = some s → ∃ r, cs.drop off' = s :: r := fun s hs => by
            have hlt := get_lt hs
            rw [List.drop_eq_getElem_cons hlt]
            simp_all
          rcases e2 with e2 | e2
          · obtain ⟨r, hr⟩ := hd _ e2
            refine ⟨o, g1, g2, BStep.of_bop ?_, rfl, rfl⟩
            simp only [bop, hop, loadOp, h1, h2, h3, e1, hr]
            unfold loadS
            rw [if_neg hu, if_neg ha]
          · obtain ⟨r, hr⟩ := hd _ e2
            refine ⟨o, g1, g2, BStep.up _ (BStep.of_bop ?_), rfl, rfl⟩
            simp only [bop, hop, loadOp, h1, h2, h3, e1, hr]
            unfold loadS
            rw [if_neg hu, if_neg ha]
        · cases h
      · cases h
    · cases h
  · cases h
theorem SC.of_SWr {H : List SObj} (hf : P.funcs[f]? = some fn) (hb : fn.body = some c)
    (h : SW P true c (initSt fn.ntmps args H) (EndQ P fn.results.toList H r)) : SC P true f args H r H := by
  refine SC.of_SW hf hb ?_
  intro a w g hr
  refine Code.wp_mono (fun e a' w' hh => ?_) (h a w g hr)
  obtain ⟨st', g', ⟨he, l, h1, h2⟩, r1, f⟩ := hh
  exact ⟨st'.nils l, g', ⟨he, endV_ok h1, by rw [St.nils_H]; exact h2⟩, r1.nils, f⟩
end
end Go.Sh
namespace Go.Sh
section
variable {P : Program} {st : St}
end
end Go.Sh
namespace Go.Sh
section
variable {l : Nat} {R : Loop} {jc : Code} {ds Dn : List (Nat × D)} {b b' : Bool} {g g' : Gh} {w w' : World}
end
end Go.Sh
namespace Go.Sh
section
variable {P : Program} {l : Nat} {C : Bool → Gh → World → Prop} {b : Bool} {st : St} {Q : Bool → Exit → St → Prop}
variable {ops : Array Oper} {d m i : Nat} {K : Bool → St → Prop}
end
end Go.Sh
namespace Go.Sh
section
variable {P : Program} {l : Nat} {C : Bool → Gh → World → Prop} {b : Bool} {st : St} {Q : Bool → Exit → St → Prop} {ops : Array Oper} {d m i : Nat} {K : Bool → St → Prop}
end
end Go.Sh
namespace Go.Sh
section
variable {P : Program} {l : Nat} {C : Bool → Gh → World → Prop} {b : Bool} {st : St} {Q : Bool → Exit → St → Prop} {ops : Array Oper} {d m i k : Nat} {K : Bool → St → Prop}
variable {n : Nat} {H : Hp} {l0 : List (Nat × SV)}
end
end Go.Sh
namespace Go.Sh
section
variable {P : Program} {st : St} {Q : Exit → St → Prop}
variable {r : Option Nat} {K : St → Prop} {ops : Array Oper}
end
end Go.Sh
namespace Go.Sh
section
variable {σ : Type} {P : Program} {pu : Bool} {C : σ → Gh → World → Prop} {R : σ → Gh → World → σ → Gh → World → Prop} {s : σ} {st : St} {Q : σ → Exit → St → Prop}
variable {ops : Array Oper} {d m i k : Nat} {K : σ → St → Prop}
end
end Go.Sh
namespace Go.Sh
section
variable {i : Nat} {g g1 g2 g3 g' : Gh} {w w1 w2 w3 w' : World}
abbrev KS := List (Go.Value × Option (List Int))
variable {oi di : Nat} {dd : D} {s : Go.Value × KS}
end
end Go.Sh
namespace Go.Sh
section
variable {P : Program} {oi di : Nat} {dd : D} {s : Go.Value × KS} {ops : Array Oper} {i k d m : Nat} {st : St} {K : Go.Value × KS → St → Prop}
end
end Go.Sh
namespace Go.Sh
section
variable {P : Program} {oi di : Nat} {dd : D} {s : Go.Value × KS} {ops : Array Oper} {i k d m : Nat} {st : St} {K : Go.Value × KS → St → Prop}
end
end Go.Sh
namespace Go.Sh
section
variable {P : Program} {oi di : Nat} {dd : D} {s : Go.Value × KS} {ops : Array Oper} {i k d m : Nat} {st : St} {K : Go.Value × KS → St → Prop}
end
end Go.Sh
namespace Go.Sh
def takeCOw (s off d : Nat) : Own → Own := fun o => if o = .lst (.cell s off) then .lst (.slot d) else o
theorem takeCOw_ne (h : o ≠ .lst (.cell s off)) : takeCOw s off d o = o := by simp [takeCOw, h]
def noCl (s off : Nat) : SV → Bool
  | .lent (.cell t j) _ _ | .lptr (.cell t j) _ => !(t == s && j == off)
  | _ => true
section
variable {P : Program} {pu : Bool} {st : St} {ops : Array Oper} {k : Nat} {Q : St → Prop}
theorem OpS.takeC (hop : o.op = .load T x) (hd : o.dst = some d) (hx : asLoc st x = some (s, off)) (hu : (P.underlying T).isNone = false) (ha : isAggT P T = false)
    (hs : st.tmps[s]? = some (.box cs)) (hc : cs[off]? = some (.own n xs)) (hdu : st.tmps[d]? = some .undef) (hn : st.tmps.all (noCl s off) = true) : OpS P pu st o ((st.set s (.box (cs.set off .undef))).set d (.own n xs)) := by
  refine OpS.value fun a w g hr => ?_
  obtain ⟨cs', k, e0, e1, e2⟩ := asLoc_sound hr hx
  rw [hs] at e0
  cases e0
  obtain ⟨k', c, T0, f1, f2, f3, f4, f5⟩ := hr.tmp s _ hs
  rw [e1] at f1
  cases f1
  obtain ⟨u, u1, u2, u3⟩ := f5 off _ hc
  have hds : d ≠ s := fun e => by subst e; rw [hs] at hdu; cases hdu
  have hk : ∀ o', o' ≠ .lst (.cell s off) → Keep o' g w (g.ren (takeCOw s off d)) w := fun o' h => Keep.ren (takeCOw_ne h)
  refine ⟨u, w, g.ren (takeCOw s off d), ?_, ?_, ⟨Nat.le_refl _, hk _ (by simp), hk _ (by simp), fun _ _ h => h, fun _ i => hk _ (by simp), fun _ i j => hk _ (by simp), fun _ => rfl, ⟨rfl, rfl⟩⟩⟩
  · unfold execOp
    rw [hop]
    simp only [Instr.loadAt, e2, Instr.sureAddr, Sem.run_bind, Sem.run_pure, Result.andThen_ok, run_loadVar_one hu ha f3 (by simpa using u1)]
  · rw [hd]
    refine Rel.step hr (by rw [put_size]; simp only [St.set, List.length_set]; exact hr.len) (by rw [put_defers]; exact hr.def0) (fun _ _ h => h) (fun t sv hts => ?_) (hr.hp.keep (fun o' ho' => hk o' (fun e => by subst e; exact ho')) (fun _ _ h => h) rfl)
    by_cases e : d = t
    · subst e
      simp only [St.set] at hts
      rw [List.getElem?_set_self (by simpa using get_lt hdu)] at hts
      cases hts
      refine .inr (.inl ?_)
      rw [valOf_put_same (by rw [hr.len]; exact get_lt hdu)]
      exact ROwn.ren (takeCOw_ne (by simp)) (by simp [takeCOw]) u2
    · simp only [St.set] at hts
      rw [List.getElem?_set_ne e] at hts
      have hdt : (some d : Option Nat) ≠ some t := by simpa using e
      by_cases es : s = t
      · subst es
        rw [List.getElem?_set_self (get_lt hs)] at hts
        cases hts
        refine .inr (.inl ?_)
        rw [valOf_put hdt]
        refine ⟨k, c, T0, e1, by simp [Gh.ren, f2, takeCOw], f3, by simpa using f4, fun j s' hj => ?_⟩
        by_cases ej : off = j
        · subst ej
          rw [List.getElem?_set_self (get_lt hc)] at hj
          cases hj
          exact ⟨u, u1, trivial, u3⟩
        · rw [List.getElem?_set_ne ej] at hj
          obtain ⟨v, v1, v2, v3⟩ := f5 j s' hj
          exact ⟨v, v1, v2.keep (hk _ (by simp)) (hk _ (by simp; omega)) (fun _ _ h => h), v3⟩
      · rw [List.getElem?_set_ne es] at hts
        have hnc : noCl s off sv = true := List.all_eq_true.1 hn sv (List.mem_iff_getElem?.2 ⟨t, hts⟩)
        refine .inr (.inr ⟨hts, valOf_put hdt, fun o' ho' => hk o' (fun e2 => ?_), fun s0 e0 => ?_⟩)
        · subst e2
          cases sv <;> simp [uses] at ho'
          · subst ho'; simp [noCl] at hnc
          · subst ho'; simp [noCl] at hnc
          · exact es ho'
        · have hd0 : (some d : Option Nat) ≠ some s0 := fun e2 => by
            cases e2
            obtain ⟨x0, hx0, hb0⟩ := dep_big (hr.tmp t _ hts) e0
            rw [hdu] at hx0
            cases hx0
            simp [bigK] at hb0
          refine ⟨valOf_put hd0, fun y hy hb => ?_⟩
          have hd1 : d ≠ s0 := fun e => hd0 (by rw [e])
          by_cases e3 : s = s0
          · subst e3
            rw [hs] at hy
            cases hy
            exact ⟨.box (cs.set off .undef), by simp only [St.set]; grind, rfl⟩
          · exact ⟨y, by simp only [St.set]; grind, rfl⟩
def tkCAt (P : Program) (ops : Array Oper) (k : Nat) (st : St) : Option St :=
  match opAt ops k st with
  | some o => match o.op with
    | .load T x => match o.dst, asLoc st x with
      | some d, some (s, off) => match st.tmps[s]?, st.tmps[d]? with
        | some (.box cs), some .undef => match cs[off]? with
          | some (.own n xs) => if (!(P.underlying T).isNone && !isAggT P T && st.tmps.all (noCl s off)) = true then some ((st.set s (.box (cs.set off .undef))).set d (.own n xs)) else none
          | _ => none
        | _, _ => none
      | _, _ => none
    | _ => none
  | none => none
theorem OWk.tkC (n : Nat) (H : List SObj) (L : List Nat) (l : List (Nat × SV)) (h : (tkCAt P ops k st).bind (pickR n L) = some (l, H)) (hn : OWk P pu ops (k + 1) (sp n l H) Q) : OWk P pu ops k st Q := by
  simp only [Option.bind_eq_some_iff] at h
  obtain ⟨st1, h, hst⟩ := h
  unfold tkCAt at h
  split at h
  · rename_i o ho
    split at h
    · rename_i T x hop
      split at h
      · rename_i d s off hd hx
        split at h
        · rename_i cs hs hdu
          split at h
          · rename_i n' xs hc
            split at h
            · rename_i hT
              cases h
              simp only [Bool.and_eq_true, Bool.not_eq_true'] at hT
              obtain ⟨g1, g2⟩ := opAt_inv ho
              exact OWk.e g1 g2 (OpS.takeC hop hd hx hT.1.1 hT.1.2 hs hc hdu hT.2) (OWk.keep L (keepR_of_pick hst) hn)
            · cases h
          · cases h
        · cases h
      · cases h
    · cases h
  · cases h
end
section
variable {P : Program} {st : St} {Q : Exit → St → Prop}
def nilO (st : St) (t j n : Nat) : Option St := match st.tmps[t]? with
  | some (.box cs) => match cs[j]? with
    | some (.d .nilS) => some (st.set t (.box (cs.set j (.own n []))))
    | _ => none
  | _ => none
theorem Rel.nilO (hr : Rel st a w g) (h : Sh.nilO st t j n = some st') : Rel st' a w g := by
  unfold Sh.nilO at h
  split at h
  · rename_i cs ht
    split at h
    · rename_i hc
      cases h
      refine Rel.step hr (by simp [St.set, hr.len]) hr.def0 (fun _ _ h => h) (fun t' s hs => ?_) hr.hp
      by_cases e : t = t'
      · subst e
        simp only [St.set] at hs
        rw [List.getElem?_set_self (get_lt ht)] at hs
        cases hs
        refine .inr (.inl ?_)
        obtain ⟨k, c, T, f1, f2, f3, f4, f5⟩ := (show RS g w st.tmps (valOf a) t (valOf a t) (.box cs) from hr.tmp t _ ht)
        refine ⟨k, c, T, f1, f2, f3, by simp [f4], fun j' s' hj => ?_⟩
        by_cases ej : j = j'
        · subst ej
          rw [List.getElem?_set_self (get_lt hc)] at hj
          cases hj
          obtain ⟨u, u1, u2, u3⟩ := f5 j _ hc
          obtain ⟨a0, rfl⟩ := Rd.nilS_inv (show Rd g w u .nilS from u2)
          exact ⟨_, u1, .inl ⟨rfl, a0, rfl⟩, u3⟩
        grind
      · simp only [St.set] at hs
        rw [List.getElem?_set_ne e] at hs
        refine .inr (.inr ⟨hs, rfl, fun o' _ => Keep.refl _ _ _, fun s0 e0 => ⟨rfl, fun x hx hb => ?_⟩⟩)
        by_cases e3 : t = s0
        · subst e3
          rw [ht] at hx
          cases hx
          exact ⟨.box (cs.set j (.own n [])), by simp only [St.set]; grind, rfl⟩
        · exact ⟨x, by simp only [St.set]; grind, rfl⟩
    · cases h
  · cases h
theorem SW.nilO (t j n' n : Nat) (H : List SObj) (L : List Nat) (l : List (Nat × SV)) (hst : (Sh.nilO st t j n').bind (pickR n L) = some (l, H)) {pu : Bool} (h : SW P pu c (sp n l H) Q) : SW P pu c st Q := by
  simp only [Option.bind_eq_some_iff] at hst
  obtain ⟨st1, h1, h2⟩ := hst
  exact fun a w g hr => h a w g ((hr.nilO h1).keepR (keepR_of_pick h2))
def giveCOw (s off s0 : Nat) : Own → Own := fun o => if o = .lst (.slot s0) then .lst (.cell s off) else o
theorem giveCOw_ne (h : o ≠ .lst (.slot s0)) : giveCOw s off s0 o = o := by simp [giveCOw, h]
theorem OpS.giveC {pu : Bool} (hop : o.op = .store T x (.tmp s0)) (hd : o.dst = none) (hx : asLoc st x = some (s, off)) (hs0 : st.tmps[s0]? = some (.own n xs)) (hu : (P.underlying T).isNone = false) (hsz : P.cellsOf T = 1)
    (hs : st.tmps[s]? = some (.box cs)) (hlt : off < cs.length) (hn : st.tmps.all (noCl s off) = true) : OpS P pu st o ((st.take s0).set s (.box (cs.set off (.own n xs)))) := by
  refine OpS.skip fun a w g hr => ?_
  obtain ⟨cs', k, e0, e1, e3⟩ := asLoc_sound hr hx
  rw [hs] at e0
  cases e0
  obtain ⟨k', c, T0, f1, f2, f3, f4, f5⟩ := hr.tmp s _ hs
  rw [e1] at f1
  cases f1
  have hss : s0 ≠ s := fun e => by subst e; rw [hs] at hs0; cases hs0
  have ho : ROwn g w (.slot s0) (valOf a s0) n xs := hr.tmp s0 _ hs0
  obtain ⟨sa, sl, sc, hv⟩ := ho.slice
  have hev : a.eval (.tmp s0) = .slice sa sl sc := hv
  obtain ⟨w', r1, r2, r3, c', r4, r5, r6⟩ := run_storeCells' (P := P) k off T0 [.slice sa sl sc] 0 c w f3 (by simp; omega) (by simp [Value.oneCell'])
  have hos := storeCells_os (P := P) k off T0 [.slice sa sl sc] 0 c w w' f3 (by simp; omega) (by simp [Value.oneCell']) r1
  have hk : ∀ o', o' ≠ .lst (.slot s0) → o' ≠ .box s → Keep o' g w (g.ren (giveCOw s off s0)) w' := fun o' h1 h2 => (Keep.block f2 h2 r3).trans (Keep.ren (giveCOw_ne h1))
  refine ⟨w', g.ren (giveCOw s off s0), ?_, ?_, ⟨by rw [r2]; exact Nat.le_refl _, hk _ (by simp) (by simp), hk _ (by simp) (by simp), fun _ _ h => h, fun _ i => hk _ (by simp) (by simp), fun _ i j => hk _ (by simp) (by simp), fun _ => rfl, hos⟩⟩
  · unfold execOp; rw [hop]
    simp only [Instr.storeAt, Sem.run_bind, e3, Instr.sureAddr, Sem.run_pure, Result.andThen_ok, storeVar, run_sizeOf' hu]
    rw [hev]
    simp only [Value.cells]
    simp [hsz, r1]
  · rw [hd]
    refine Rel.step hr (by simp only [Act.put, St.set, List.length_set, St.take_len]; exact hr.len) hr.def0 (fun _ _ h => h) (fun t sv hts => ?_) (hr.hp.keep (fun o' ho' => hk o' (fun e => by subst e; exact ho') (fun e => by subst e; exact ho')) (fun _ _ h => h) rfl)
    simp only [St.set] at hts
    by_cases es : s = t
    · subst es
      rw [List.getElem?_set_self (by simpa using get_lt hs)] at hts
      cases hts
      refine .inr (.inl ⟨k, c', T0, e1, by simp [Gh.ren, f2, giveCOw], r4, by simp [r5, f4], fun j s' hj => ?_⟩)
      by_cases ej : off = j
      · subst ej
        rw [List.getElem?_set_self hlt] at hj
        cases hj
        refine ⟨.slice sa sl sc, by rw [r6, if_pos (by simp)]; simp, ?_, rfl⟩
        rw [← hv]
        have h1 : ROwn (g.ren (giveCOw s off s0)) w (.cell s off) (valOf a s0) n xs := ROwn.ren (giveCOw_ne (by simp)) (by simp [giveCOw]) ho
        refine ROwn.keep (fun k0 b hk0 hb0 => ⟨hk0, ?_⟩) (fun k0 b hk0 hb0 => ⟨hk0, ?_⟩) (fun _ _ h => h) h1
        · rw [r3 k0 (fun e => ?_)]; · exact hb0
          subst e; simp [Gh.ren, f2, giveCOw] at hk0
        · rw [r3 k0 (fun e => ?_)]; · exact hb0
          subst e; simp [Gh.ren, f2, giveCOw] at hk0
      · rw [List.getElem?_set_ne ej] at hj
        obtain ⟨v, v1, v2, v3⟩ := f5 j s' hj
        exact ⟨v, by grind, v2.keep (hk _ (by simp) (by simp)) (hk _ (by simp) (by simp)) (fun _ _ h => h), v3⟩
    · rw [List.getElem?_set_ne es] at hts
      rcases St.take_get hts with h | ⟨h1, h2, h3⟩
      · exact .inl h
      · have hnc : noCl s off sv = true := List.all_eq_true.1 hn sv (List.mem_iff_getElem?.2 ⟨t, h1⟩)
        refine .inr (.inr ⟨h1, rfl, fun o' ho' => hk o' (fun e2 => ?_) (fun e2 => ?_), fun s1 e0 => ⟨rfl, fun y hy hb => ?_⟩⟩)
        · subst e2
          rcases uses_slot ho' with h | h
          · exact h2 h.symm
          · rw [h3] at h; cases h
        · subst e2
          cases sv <;> simp [uses] at ho'
          exact es ho'
        · have hne : s1 ≠ s0 := fun e2 => by rw [e2] at e0; rw [dep_mention e0] at h3; cases h3
          by_cases e3 : s = s1
          · subst e3
            rw [hs] at hy
            cases hy
            exact ⟨.box (cs.set off (.own n xs)), by simp only [St.set]; rw [List.getElem?_set_self (by simpa using get_lt hs)], rfl⟩
          · refine ⟨y, ?_, rfl⟩
            simp only [St.set]
            rw [List.getElem?_set_ne e3]
            show ((st.kill s0).set s0 .undef).tmps[s1]? = some y
            simp only [St.set, List.getElem?_set_ne (Ne.symm hne)]
            simp [St.kill, hy, bigK_mention hb]
def gvCAt (P : Program) (ops : Array Oper) (k : Nat) (st : St) : Option St :=
  match opAt ops k st with
  | some o => match o.op with
    | .store T x (.tmp s0) => match asLoc st x, st.tmps[s0]? with
      | some (s, off), some (.own n xs) => match st.tmps[s]? with
        | some (.box cs) => if (!(P.underlying T).isNone && P.cellsOf T == 1 && o.dst.isNone && decide (off < cs.length) && st.tmps.all (noCl s off)) = true then some ((st.take s0).set s (.box (cs.set off (.own n xs)))) else none
        | _ => none
      | _, _ => none
    | _ => none
  | none => none
theorem OWk.gvC {pu : Bool} {ops : Array Oper} {k : Nat} {Q : St → Prop} (n : Nat) (H : List SObj) (L : List Nat) (l : List (Nat × SV)) (h : (gvCAt P ops k st).bind (pickR n L) = some (l, H)) (hn : OWk P pu ops (k + 1) (sp n l H) Q) : OWk P pu ops k st Q := by
  simp only [Option.bind_eq_some_iff] at h
  obtain ⟨st1, h, hst⟩ := h
  unfold gvCAt at h
  split at h
  · rename_i o ho
    split at h
    · rename_i T x s0 hop
      split at h
      · rename_i s off n' xs hx hs0
        split at h
        · rename_i cs hs
          split at h
          · rename_i hT
            cases h
            simp only [Bool.and_eq_true, Bool.not_eq_true', beq_iff_eq, Option.isNone_iff_eq_none, decide_eq_true_eq] at hT
            obtain ⟨g1, g2⟩ := opAt_inv ho
            exact OWk.e g1 g2 (OpS.giveC hop hT.1.1.2 hx hs0 hT.1.1.1.1 hT.1.1.1.2 hs hT.1.2 hT.2) (OWk.keep L (keepR_of_pick hst) hn)
          · cases h
        · cases h
      · cases h
    · cases h
  · cases h
end
end Go.Sh
namespace Go.Sh
section
variable {σ : Type} {P : Program} {pu : Bool} {C : σ → Gh → World → Prop} {R : σ → Gh → World → σ → Gh → World → Prop} {s : σ} {st : St} {Q : σ → Exit → St → Prop} {ops : Array Oper} {d m i k : Nat} {K : σ → St → Prop}
theorem Rel.fzC {n : Nat} (hr : Rel st a w g) (hs : st.tmps[t]? = some (.box cs)) (hc : cs[off]? = some (.own n xs)) (hn : st.tmps.all (noCl t off) = true) :
    ∃ g', Rel (st.set t (.box (cs.set off (.d (.list n xs))))) a w g' ∧ Fr pu g w g' w := by
  let rn : Own → Own := fun o => if o = .lst (.cell t off) then .free else o
  have hk : ∀ o', o' ≠ .lst (.cell t off) → Keep o' g w (g.ren rn) w := fun o' h => Keep.ren (by simp [rn, h])
  refine ⟨g.ren rn, ?_, ⟨Nat.le_refl _, hk _ (by simp), hk _ (by simp), fun _ _ h => h, fun _ i => hk _ (by simp), fun _ i j => hk _ (by simp), fun _ => rfl, ⟨rfl, rfl⟩⟩⟩
  obtain ⟨kk, c, T0, f1, f2, f3, f4, f5⟩ := hr.tmp t _ hs
  refine Rel.step hr (by simp only [St.set, List.length_set]; exact hr.len) hr.def0 (fun _ _ h => h) (fun t' sv hts => ?_) (hr.hp.keep (fun o' ho' => hk o' (fun e => by subst e; exact ho')) (fun _ _ h => h) rfl)
  simp only [St.set] at hts
  by_cases es : t = t'
  · subst es
    rw [List.getElem?_set_self (get_lt hs)] at hts
    cases hts
    refine .inr (.inl ⟨kk, c, T0, f1, by simp [Gh.ren, f2, rn], f3, by simpa using f4, fun j s' hj => ?_⟩)
    by_cases ej : off = j
    · subst ej
      rw [List.getElem?_set_self (get_lt hc)] at hj
      cases hj
      obtain ⟨u, u1, u2, u3⟩ := f5 off _ hc
      exact ⟨u, u1, RList.free (l := .cell t off) rfl (by simp [rn]) (ROwn.toLent u2), u3⟩
    · rw [List.getElem?_set_ne ej] at hj
      obtain ⟨v, v1, v2, v3⟩ := f5 j s' hj
      exact ⟨v, v1, v2.keep (hk _ (by simp)) (hk _ (by simp; omega)) (fun _ _ h => h), v3⟩
  · rw [List.getElem?_set_ne es] at hts
    have hnc : noCl t off sv = true := List.all_eq_true.1 hn sv (List.mem_iff_getElem?.2 ⟨t', hts⟩)
    refine .inr (.inr ⟨hts, rfl, fun o' ho' => hk o' (fun e2 => ?_), fun s0 e0 => ⟨rfl, fun y hy hb => ?_⟩⟩)
    · subst e2
      cases sv <;> simp [uses] at ho'
      · subst ho'; simp [noCl] at hnc
      · subst ho'; simp [noCl] at hnc
      · exact es ho'
    · by_cases e3 : t = s0
      · subst e3
        rw [hs] at hy
        cases hy
        exact ⟨.box (cs.set off (.d (.list n xs))), by simp only [St.set]; grind, rfl⟩
      · exact ⟨y, by simp only [St.set]; grind, rfl⟩
def fzCAt (st : St) (t off : Nat) : Option St := match st.tmps[t]? with
  | some (.box cs) => match cs[off]? with
    | some (.own n xs) => if st.tmps.all (noCl t off) = true then some (st.set t (.box (cs.set off (.d (.list n xs))))) else none
    | _ => none
  | _ => none
variable {n : Nat} {H : Hp} {l0 : List (Nat × SV)}
end
end Go.Sh
namespace Go.Sh
section
variable {P : Program} {st : St} {ops : Array Oper} {k : Nat}
end
end Go.Sh
namespace Go.Sh
section
variable {P : Program} {st : St} {ops : Array Oper} {k : Nat}
end
end Go.Sh
namespace Go.Sh
inductive Cur where
  | code (c : Code)
  | ops (l : Array Oper) (k : Nat)
  | opq (l : Array Oper) (k : Nat)
  | opb (l : Array Oper) (m k : Nat) (d : Bool)
  | norm
  | exit (id : Nat)
  | ret
inductive KF where
  | code (c : Code)
  | blk (id : Nat)
structure Cfg where
  cur : Cur
  ks : List KF
  st : St
section
variable (P : Program) (pu : Bool)
def contK (Q : Exit → St → Prop) : List KF → Exit → St → Prop
  | [] => Q
  | .code c :: ks => thenS (fun s => SW P pu c s (contK Q ks)) (contK Q ks)
  | .blk id :: ks => blockS id (contK Q ks)
def MW (T : Cfg) (Q : Exit → St → Prop) : Prop := match T.cur with
  | .code c => SW P pu c T.st (contK P pu Q T.ks)
  | .ops l k => OWk P pu l k T.st (contK P pu Q T.ks .normal)
  | .opq l k => OQk P l k T.st (contK P pu Q T.ks .normal)
  | .opb l m k d => OBk P l m k T.st (fun s => match d with | true => OWk P pu l m s (contK P pu Q T.ks .normal) | false => contK P pu Q T.ks .normal s)
  | .norm => contK P pu Q T.ks .normal T.st
  | .exit id => contK P pu Q T.ks (.exit id) T.st
  | .ret => contK P pu Q T.ks .ret T.st
end
section
variable {P : Program} {pu : Bool} {Q : Exit → St → Prop} {T : Cfg}
end
attribute [irreducible] MW contK
end Go.Sh
namespace Go.Sh
section
variable {P : Program} {pu : Bool} {T : Cfg} {Q : Exit → St → Prop}
end
end Go.Sh
namespace Go.Sh
section
variable {P : Program} {st : St} {r : Option Nat} {Q : Exit → St → Prop}
end
end Go.Sh
namespace Go.Sh
section
variable {P : Program} {pu : Bool} {st : St} {ops : Array Oper} {k : Nat} {Q : St → Prop}
end
end Go.Sh
namespace Go.Sh
section
variable {P : Program} {pu : Bool} {ops : Array Oper} {k : Nat} {st : St} {Q : St → Prop}
end
end Go.Sh
namespace Go.Sh
section
variable {g g' : Gh} {w w' : World} {n : Nat}
end
section
variable {st : St} {a : Act} {w : World} {g : Gh}
end
section
variable {P : Program} {ops : Array Oper} {k : Nat} {st : St} {Q : St → Prop}
end
section
variable {P : Program} {pu : Bool} {ops : Array Oper}
end
section
variable {zss yss : List (List D)}
end
end Go.Sh
namespace Go.Sh
section
variable {P : Program} {ops : Array Oper} {md : Region.Mode} {R : Act → World → Prop} {pu : Bool} {st : St}
theorem Up.trans (h : Up w1 w2) (h' : Up w2 w3) : Up w1 w3 := fun k o e => h' k o (h k o e)
def Grows (P : Program) {α : Type} (m : Sem α) : Prop := ∀ w x w', m.run P w = .ok x w' → Up w w'
theorem Blind.grows {α : Type} {m : Sem α} (h : Blind P m) : Grows P m := fun w x w' e => by rw [(h w x w' e).1]; exact Up.refl w
theorem Grows.pure {α : Type} (x : α) : Grows P (Pure.pure x : Sem α) := (Blind.pure x).grows
theorem Grows.halt {α : Type} (x : Halt) : Grows P (Sem.halt x : Sem α) := (Blind.halt x).grows
theorem Grows.bind {α β : Type} {m : Sem α} {f : α → Sem β} (h1 : Grows P m) (h2 : ∀ x, Grows P (f x)) : Grows P (m >>= f) := fun w x w' h => by
  rw [Sem.run_bind] at h
  cases hm : m.run P w with
  | ok y w1 => rw [hm, Result.andThen_ok] at h; exact (h1 w y w1 hm).trans (h2 y _ _ _ h)
  | halt y w1 => rw [hm] at h; cases h
theorem Grows.load (a : Addr) (m : Mode) : Grows P (Go.load a m) := fun w x w' h => by
  unfold Go.load at h
  simp only [Sem.run] at h
  split at h
  · cases h; exact Up.refl w
  · split at h
    · cases h; exact Up.refl w
    · cases h
theorem Grows.newObj (o : Obj) : Grows P (Go.newObj o) := fun w x w' h => by
  unfold Go.newObj at h
  simp only [Sem.run] at h
  cases h
  intro k b hb
  grind
theorem Grows.newRow (e : TypeId) (cs : Array Value) : Grows P (Go.newRow e cs) := (Grows.newObj _).bind fun _ => .pure _
theorem Grows.loadCellsFrom (a : Addr) : ∀ (n i : Nat) (acc : Array Value), Grows P (Go.loadCellsFrom a i n acc)
  | 0, i, acc => .pure _
  | n + 1, i, acc => (Grows.load _ _).bind fun _ => Grows.loadCellsFrom a n (i + 1) _
theorem Grows.loadVar (t : TypeId) (a : Addr) : Grows P (Go.loadVar t a) := by
  unfold Go.loadVar
  repeat' first
    | exact .pure _
    | exact .load _ _
    | exact Grows.loadCellsFrom _ _ _ _
    | exact (Blind.sizeOf _).grows
    | exact (Blind.typeInfo _).grows
    | exact (Blind.underlying _).grows
    | refine Grows.bind ?_ fun _ => ?_
    | split
theorem Grows.loadAt (t : TypeId) (v : Value) : Grows P (Instr.loadAt t v) := ((Blind.sureAddr v).grows).bind fun _ => .loadVar _ _
theorem Grows.zeroValue (t : TypeId) : Grows P (Go.zeroValue t) := by
  unfold Go.zeroValue
  repeat' first
    | exact .pure _
    | exact .halt _
    | exact (Blind.typeInfo _).grows
    | refine Grows.bind ?_ fun _ => ?_
    | split
theorem Grows.buildSlice (t : TypeId) (n : Nat) (ps : Array (Nat × Value)) : Grows P (Instr.buildSlice t n ps) := by
  unfold Instr.buildSlice
  dsimp only
  repeat' first
    | exact .pure _
    | exact .halt _
    | exact .newRow _ _
    | exact .zeroValue _
    | exact (Blind.sizeOf _).grows
    | exact (Blind.typeInfo _).grows
    | exact (Blind.underlying _).grows
    | refine Grows.bind ?_ fun _ => ?_
    | split
def growB (P : Program) (o : Oper) : Bool := blindB P o || match o.op with
  | .load _ _ | .buildSlice _ _ _ | .assign _ => true
  | _ => false
theorem growB_spec (h : growB P o = true) {ρ : Operand → Value} (hr : (execOp ρ o).run P w = .ok n w') : (∃ v, n = .value v) ∧ Up w w' := by
  simp only [growB, Bool.or_eq_true] at h
  rcases h with h | h
  · exact ⟨blindB_value h hr, by rw [(blindB_spec h ρ w n w' hr).1]; exact Up.refl w⟩
  · unfold execOp at hr
    split at h
    · rename_i t a hop
      rw [hop] at hr
      exact ⟨value_of hr, ((Grows.loadAt t (ρ a)).bind fun _ => .pure _) w n w' hr⟩
    · rename_i t len parts hop
      rw [hop] at hr
      exact ⟨value_of hr, ((Grows.buildSlice t len _).bind fun _ => .pure _) w n w' hr⟩
    · rename_i x hop
      rw [hop] at hr
      simp only [Sem.run_pure] at hr
      cases hr
      exact ⟨⟨_, rfl⟩, Up.refl _⟩
    · cases h
def UpAt (P : Program) (o : Oper) (a : Act) (v : Value) (w : World) : Prop := ∀ w', Up w w' → (execOp a.eval o).run P w' = .ok (.value v) w'
theorem UpAt.put (hap : o.apart ops oj = true) (hs : ∀ cs b, o.op ≠ .select cs b) (h : UpAt P o a v w) : UpAt P o (a.put oj.dst u) v w := fun w' hu => by
  rw [execOp_put (ops := ops) o hs a oj.dst u (Oper.apart_spec hap).2.2]
  exact h w' hu
theorem UpAt.up (h : UpAt P o a v w) (hu : Up w w') : UpAt P o a v w' := fun w2 h2 => h w2 (hu.trans h2)
theorem wpOp_up (hj : ops[j]? = some oj) (hsi : ∀ cs b, oi.op ≠ .select cs b) (hgj : growB P oj = true) (hap : oi.apart ops oj = true) (hsj : ∀ cs b, oj.op ≠ .select cs b) {K : Act → World → Prop} 
    (hv : UpAt P oi a v w) (h : wpOp P ops (NQ R) j K (a.put oi.dst v) w) : wpOp P ops (NQ R) j (fun a' w' => UpAt P oi a' v w' ∧ K (a'.put oi.dst v) w') a w := by
  obtain ⟨h1, h2, h3⟩ := Oper.apart_spec hap
  unfold wpOp at *
  simp only [hj] at *
  rw [wanted_put oj a oi.dst v h1] at h
  split
  · rename_i hw
    simp only [hw, if_true] at h
    refine .inl ?_
    rcases h with h | h
    · unfold Oper.wp at *
      rw [execOp_put oj hsj a oi.dst v h1] at h
      cases hr : (execOp a.eval oj).run P w with
      | ok n w' =>
        rw [hr] at h
        obtain ⟨⟨u, rfl⟩, hu⟩ := growB_spec hgj hr
        simp only [Oper.upon] at h ⊢
        exact ⟨(hv.put hap hsi).up hu, by rw [← Act.put_comm a v u h2]; exact h⟩
      | halt y w' =>
        rw [hr] at h
        cases y <;> simp only [Oper.upon] at h ⊢
        exact absurd h.1 (by simp)
    · exact absurd h.2 NQ.out
  · rename_i hw
    simp only [hw] at h
    exact ⟨hv.put hap hsi, by rw [← Act.put_comm a v undef h2]; exact h⟩
theorem wpAny_up {i : Nat} {oi : Oper} {v : Value} {D : List Nat} (hi : ops[i]? = some oi) (hg : oi.guard = none) (hsel : ∀ (j : Nat) (o : Oper) cs b, ops[j]? = some o → o.op ≠ .select cs b)
    (hD : ∀ j ∈ D, ∃ oj, ops[j]? = some oj ∧ ∃ e ∈ oj.after, Region.binds md e = true ∧ (e.on = i ∨ e.on ∈ D)) :
    ∀ (fuel : Nat) (listed : Array Bool) (a : Act) (w : World), UpAt P oi a v w → (∀ j ∈ D, listed.getD j true = false) →
      (∀ j oj, ops[j]? = some oj → j ≠ i → listed.getD j true = false → j ∉ D → oi.apart ops oj = true ∧ growB P oj = true) →
      i ∈ Region.ready md ops listed →
      wpAny P md ops (NQ R) fuel (listed.setIfInBounds i true) (a.put oi.dst v) w → wpAny P md ops (NQ R) (fuel + 1) listed a w := by
  have one : ∀ (K : Act → World → Prop) (a : Act) (w : World), UpAt P oi a v w → K (a.put oi.dst v) w → wpOp P ops (NQ R) i K a w := fun K a w hv h => by
    unfold wpOp
    simp only [hi]
    have hw : Region.wanted oi (yielded ops a.tmps) = true := by unfold Region.wanted; rw [hg]
    rw [if_pos hw]
    refine .inl ?_
    unfold Oper.wp
    rw [hv w (Up.refl w), Oper.upon_value]
    exact h
  intro fuel
  induction fuel with
  | zero =>
    intro listed a w hv _ _ hr H
    refine ⟨fun h => (by rw [h] at hr; cases hr), fun j hj => ?_⟩
    by_cases hji : j = i
    · subst hji; exact one _ a w hv H
    · have := ready_mono hj hji
      rw [H.1] at this
      cases this
  | succ fuel ih =>
    intro listed a w hv hun0 hfree hr H
    refine ⟨fun h => (by rw [h] at hr; cases hr), fun j hj => ?_⟩
    by_cases hji : j = i
    · subst hji; exact one _ a w hv H
    · have h1 := H.2 j (ready_mono hj hji)
      obtain ⟨hjun, oj, hoj, hall⟩ := mem_ready.1 hj
      have undone : ∀ {k : Nat} {e : Edge}, e.on = k → listed.getD k true = false → listed.getD e.on false = true → False := fun {k e} ek h0 h1 => by
        grind
      have hnD : j ∉ D := fun hjD => by
        obtain ⟨oj', hoj', e, he, hb, hor⟩ := hD j hjD
        rw [hoj] at hoj'
        cases hoj'
        have hdone := hall e he hb
        rcases hor with hor | hor
        · exact undone hor (mem_ready.1 hr).1 hdone
        grind
      obtain ⟨f1, f2⟩ := hfree j oj hoj hji hjun hnD
      have h2 := wpOp_up hoj (fun cs b => hsel i oi cs b hi) f2 f1 (fun cs b => hsel j oj cs b hoj) hv h1
      have hun' : ∀ k ∈ D, (listed.setIfInBounds j true).getD k true = false := fun k hk => by
        have hjk : j ≠ k := fun e => hnD (e ▸ hk)
        simp_all
      have hfree' : ∀ k ok, ops[k]? = some ok → k ≠ i → (listed.setIfInBounds j true).getD k true = false → k ∉ D → oi.apart ops ok = true ∧ growB P ok = true := fun k ok hk hki hun hno => by
        refine hfree k ok hk hki ?_ hno
        by_cases hjk : j = k
        · subst hjk; exact hjun
        simp_all
      refine wpOp_mono (fun a' w' h3 => ih (listed.setIfInBounds j true) a' w' h3.1 hun' hfree' (ready_mono hr (Ne.symm hji)) ?_) h2
      rw [Array.setIfInBounds_comm _ _ hji]
      exact h3.2
def depsL (ops : Array Oper) (m : Nat) : List Nat := (List.range ops.size).foldl (fun D j => match ops[j]? with
  | some oj => if oj.after.any (fun e => Region.binds .any e && (e.on == m || D.contains e.on)) then j :: D else D
  | none => D) []
def depsOk (ops : Array Oper) (l : Array Bool) (m : Nat) (D : List Nat) : Bool := D.all fun j => !(l.getD j true) && match ops[j]? with
  | some oj => oj.after.any (fun e => Region.binds .any e && (e.on == m || D.contains e.on))
  | none => false
def freeB (P : Program) (ops : Array Oper) (l : Array Bool) (m : Nat) (D : List Nat) : Bool := match ops[m]? with
  | none => false
  | some oi => (List.range ops.size).all fun j => j == m || l.getD j true || D.contains j || match ops[j]? with
    | some oj => oi.apart ops oj && growB P oj
    | none => true
theorem freeB_spec {l : Array Bool} {m : Nat} {D : List Nat} {oi : Oper} (hi : ops[m]? = some oi) (h : freeB P ops l m D = true) (j : Nat) (oj : Oper) (hj : ops[j]? = some oj) (hne : j ≠ m) (hun : l.getD j true = false) (hno : j ∉ D) : oi.apart ops oj = true ∧ growB P oj = true := by
  simp only [freeB, hi, List.all_eq_true, List.mem_range] at h
  grind
theorem depsOk_spec {l : Array Bool} {m : Nat} {D : List Nat} (h : depsOk ops l m D = true) : (∀ j ∈ D, ∃ oj, ops[j]? = some oj ∧ ∃ e ∈ oj.after, Region.binds .any e = true ∧ (e.on = m ∨ e.on ∈ D)) ∧ ∀ j ∈ D, l.getD j true = false := by
  simp only [depsOk, List.all_eq_true, Bool.and_eq_true, Bool.not_eq_true'] at h
  grind
def upsB (P : Program) (ops : Array Oper) : List Nat → Array Bool → Bool
  | [], _ => true
  | m :: ms, l => (Region.ready .any ops l).contains m && ((((ops[m]?).map (blindB P)).getD false && Region.free .any ops l m) || (depsOk ops l m (depsL ops m) && freeB P ops l m (depsL ops m))) && upsB P ops ms (l.setIfInBounds m true)
def wpUp (P : Program) (w : World) (Q : Act → Prop) : List Oper → Act → Prop
  | [], a => Q a
  | o :: r, a => ∃ v, UpAt P o a v w ∧ wpUp P w Q r (a.put o.dst v)
theorem wpAny_ups (hng : ops.all (fun o => o.guard.isNone) = true) (hsel : ∀ (j : Nat) (o : Oper) cs b, ops[j]? = some o → o.op ≠ .select cs b) {Q : Act → Prop} :
    ∀ (ms : List Nat) (l : Array Bool) (a : Act), upsB P ops ms l = true → (∀ a', Q a' → wpAny P .any ops (NQ R) fuel (markL ms l) a' w) →
      wpUp P w Q (opsOf ops ms) a → wpAny P .any ops (NQ R) (ms.length + fuel) l a w
  | [], l, a, _, hk, h => by simpa [markL] using hk a h
  | m :: ms, l, a, hb, hk, h => by
    simp only [upsB, Bool.and_eq_true, Bool.or_eq_true] at hb
    obtain ⟨⟨b2, b35⟩, b4⟩ := hb
    have hmr : m ∈ Region.ready .any ops l := by simpa using b2
    obtain ⟨hm0, om, hom, hmall⟩ := mem_ready.1 hmr
    have hmg : om.guard = none := opsOf_ng hng [m] om (by simp [opsOf, hom])
    have hcons : opsOf ops (m :: ms) = om :: opsOf ops ms := by simp [opsOf, hom]
    rw [hcons] at h
    obtain ⟨v, hv, h⟩ := h
    have := wpAny_ups hng hsel ms (l.setIfInBounds m true) _ b4 hk h
    have e : (m :: ms).length + fuel = (ms.length + fuel) + 1 := by simp; omega
    rw [e]
    rcases b35 with ⟨b1, b3⟩ | ⟨b3, b5⟩
    · rw [hom] at b1
      have b1 : blindB P om = true := by simpa using b1
      exact wpAny_pure hom b1 hmg hsel _ _ a _ (blindB_spec b1 a.eval w _ w (hv w (Up.refl w))).2 (Region.free_spec hom b3) hmr this
    obtain ⟨d1, d2⟩ := depsOk_spec b3
    exact wpAny_up hom hmg hsel d1 _ _ a _ hv d2 (fun j oj hj hne hun hno => freeB_spec hom b5 j oj hj hne hun hno) hmr this
def OBuk (P : Program) (ops : Array Oper) (k : Nat) (st : St) (Q : St → Prop) : Prop :=
  ∀ a w g, Rel st a w g → ∀ Qc : Act → Prop, (∀ st' a', Q st' → Rel st' a' w g → Qc a') → wpUp P w Qc (ops.toList.drop k) a
theorem OBuk.on {Q : St → Prop} (n : Nat) (H : List SObj) (L : List Nat) (l : List (Nat × SV)) (hb : BAt P ops k st d s) (hst : pickR n L (st.put d s) = some (l, H)) (h : OBuk P ops (k + 1) (sp n l H) Q) : OBuk P ops k st Q := by
  obtain ⟨o, h1, h2, h3, h4, rfl⟩ := hb
  intro a w g hr Qc hc
  rw [drop_cons h1]
  obtain ⟨v, e1, e2⟩ := h3 a w g hr
  exact ⟨v, e2, h _ w g ((hr.putBV e1 h4).keepR (keepR_of_pick hst)) Qc hc⟩
def upStep (P : Program) (ops : Array Oper) (k : Nat) (st : St) : Option St := match ops[k]? with
  | some o => match wantS ops st o with
    | some true => match bop P st o with
      | some s => if locOk o.dst s then some (st.put o.dst s) else none
      | none => none
    | _ => none
  | none => none
theorem OBuk.sg {Q : St → Prop} (n : Nat) (H : List SObj) (L : List Nat) (l : List (Nat × SV)) (hs : (upStep P ops k st).bind (pickR n L) = some (l, H)) (h : OBuk P ops (k + 1) (sp n l H) Q) : OBuk P ops k st Q := by
  simp only [Option.bind_eq_some_iff] at hs
  obtain ⟨st1, h1, h2⟩ := hs
  unfold upStep at h1
  split at h1
  · rename_i o ho
    split at h1
    · rename_i hw
      split at h1
      · rename_i s hb
        split at h1
        · rename_i hl
          cases h1
          exact OBuk.on n H L l ⟨o, ho, hw, BStep.of_bop hb, hl, rfl⟩ h2 h
        · cases h1
      · cases h1
    · cases h1
  · cases h1
theorem OBuk.done {Q : St → Prop} (h : decide (ops.size ≤ k) = true) (hq : Q st) : OBuk P ops k st Q := by
  intro a w g hr Qc hc
  rw [List.drop_of_length_le (by simpa using h)]
  exact hc st a hq hr
end
end Go.Sh
namespace Go.Sh
theorem SW.regXU {P : Program} {pu : Bool} {st : St} {id : Nat} {l : List Oper} {Q : Exit → St → Prop} (n : Nat) (H : List SObj) (ll : List (Nat × SV)) (ms : List Nat) (d M : Nat) (hm : P.follows .mixedOrders = true)
    (hB : (Region.noSelect l.toArray && l.toArray.all (fun o => o.guard.isNone) && upsB P l.toArray ms (Array.replicate l.toArray.size false) && decide (l.toArray.size = ms.length + d)) = true)
    (hM : markL ms (Array.replicate l.toArray.size false) = lstM l.toArray.size M)
    (h : ∀ X : Nat → Nat → St → Prop, (X = fun d m s => OX P pu l.toArray d m s (sp n ll H)) → OBuk P (opsOf l.toArray ms).toArray 0 st (fun st1 => X d M st1)) (hq : Q .normal (sp n ll H)) : SW P pu (.region id l.toArray true) st Q := by
  have h := h _ rfl
  generalize hops : l.toArray = ops at *
  simp only [Bool.and_eq_true, decide_eq_true_eq] at hB
  obtain ⟨⟨⟨b1, b2⟩, b3⟩, b5⟩ := hB
  intro a w g hr
  refine Code.wp_mono (Q := NQ fun a' w' => ∃ st' g', Q .normal st' ∧ Rel st' a' w' g' ∧ Fr pu g w g' w') (fun e a' w' hh => by obtain ⟨rfl, hh⟩ := hh; exact hh) ?_
  refine wp_region_any hm ?_
  have key := h a w.drew g hr.drew (fun a' => wpAny P .any ops (NQ fun a' w' => ∃ st' g', Q .normal st' ∧ Rel st' a' w' g' ∧ Fr pu g w g' w') d (lstM ops.size M) a' w.drew) (fun st1 a1 q1 r1 =>
    q1 a1 w.drew g r1 _ fun a' w' g' r f => ⟨sp n ll H, g', hq, r, Fr.drew.trans f⟩)
  rw [List.drop_zero] at key
  rw [b5]
  rw [b5] at key hM b3
  refine wpAny_ups b2 (Region.noSelect_spec b1) (Q := fun a' => wpAny P .any ops (NQ fun a' w' => ∃ st' g', Q .normal st' ∧ Rel st' a' w' g' ∧ Fr pu g w g' w') d (lstM (ms.length + d) M) a' w.drew) ms _ a b3 (fun a' ha' => ?_) (by simpa using key)
  rw [hM]
  exact ha'
end Go.Sh
namespace Go.Sh
variable {P : Program} {pu : Bool} {ops : Array Oper} {k : Nat} {Q : St → Prop}
end Go.Sh
namespace Go.Sh
section
variable {P : Program} {pu : Bool} {st : St} {ops : Array Oper} {k : Nat} {Q : St → Prop}
end
end Go.Sh
namespace Go.Sh
abbrev Evt := Option Tmp → (St → St) → St → St
section
variable {P : Program} {pu : Bool} {ops : Array Oper} {steal : List Nat} {ev : List (Nat × Evt)} {M d : Nat} {st0 : St}
variable {S : Nat → St} {i : Nat} {ms : List Nat} {f : St → St}
end
end Go.Sh
namespace Go.Sh
section
variable {P : Program} {pu : Bool} {st : St} {ops : Array Oper} {k n : Nat} {α β γ : Type}
end
end Go.Sh
namespace Go.Sh
section
variable {P : Program} {pu : Bool} {st : St} {ops : Array Oper} {k : Nat} {Q : St → Prop}
end
end Go.Sh
namespace Go.Sh
section
variable {P : Program} {pu : Bool} {st : St} {ops : Array Oper} {k : Nat} {Q : St → Prop} {α : Type} {c : Cd α} {n' i off : Nat} {H0 H : Hp}
end
end Go.Sh
namespace Go.Sh
section
variable {σ ε : Type} {P : Program} {pu : Bool} {C : σ → Gh → World → Prop} {R : σ → Gh → World → σ → Gh → World → Prop} {D : ε → Gh → World → Prop} {s : σ} {e : ε} {st : St} {ops : Array Oper} {d m i k : Nat} {K : σ × ε → St → Prop}
end
abbrev ES := List (Go.Value × List D)
section
variable {P : Program} {oi di n : Nat} {dd : D} {s : Go.Value × KS} {E : ES} {st : St} {g g' g3 : Gh} {w w' w3 : World}
variable {ops : Array Oper} {i : Nat} {K : (Go.Value × KS) × ES → St → Prop}
end
end Go.Sh
namespace Go.Sh
abbrev LS := List (Loc × Go.Value × Nat × List D)
section
variable {P : Program} {s : LS} {st : St} {g g' : Gh} {w w' : World} {Q : LS → Exit → St → Prop} {c : Code} {ops : Array Oper} {d m i k p n : Nat} {K : LS → St → Prop} {o : Loc} {u : Go.Value} {xs : List D}
theorem Fr.off (f : Fr true g w g' w') : Fr false g w g' w' := ⟨f.size, f.free, f.out, f.rho, nofun, nofun, nofun, f.os⟩
end
abbrev SN := ((Go.Value × KS) × ES) ⊕ LS
section
variable {P : Program} {oi di n : Nat} {dd : D} {st : St} {Q : SN → Exit → St → Prop} {c : Code}
end
end Go.Sh
namespace Go.Sh
section
variable {P : Program} {s : LS} {st : St} {ops : Array Oper} {m k n : Nat} {K : St → Prop}
end
end Go.Sh
namespace Go.Sh
section
variable {P : Program} {ops : Array Oper} {k : Nat} {st : St}
end
end Go.Sh
namespace Go.Sh
section
variable {P : Program} {pu : Bool} {st : St} {Q : St → Prop} {ops : Array Oper} {k : Nat}
theorem OWk.fzC (t off n : Nat) (H : List SObj) (L : List Nat) (ll : List (Nat × SV)) (h : (fzCAt st t off).bind (pickR n L) = some (ll, H)) (hn : OWk P pu ops k (sp n ll H) Q) : OWk P pu ops k st Q := by
  simp only [Option.bind_eq_some_iff] at h
  obtain ⟨st1, h, hst⟩ := h
  unfold fzCAt at h
  split at h
  · rename_i cs hs
    split at h
    · rename_i n' xs hc
      split at h
      · rename_i hq
        cases h
        intro a w g hr Qc hq2
        obtain ⟨g1, r1, f1⟩ := hr.fzC (pu := pu) hs hc hq
        exact hn a w g1 (r1.keepR (keepR_of_pick hst)) Qc fun st2 a2 w2 g2 q2 r2 f2 => hq2 st2 a2 w2 g2 q2 r2 (f1.trans f2)
      · cases h
    · cases h
  · cases h
end
end Go.Sh
