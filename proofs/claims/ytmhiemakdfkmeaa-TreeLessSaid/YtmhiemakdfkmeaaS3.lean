/- Contracts of functions over plain data. -/
import Derived.Test.YtmhiemakdfkmeaaS2
import Derived.Lib.FrozenHead
import Derived.KernelRfl
import Derived.OrdersIn
set_option linter.all false
set_option autoImplicit true
set_option relaxedAutoImplicit true
namespace Go.Sh
def SBC (P : Program) (C : Gh → World → Prop) (f : FuncId) (args : List SV) (H H' : List SObj) : Prop :=
  ∀ (w : World) (g : Gh) (vs : Array Value), C g w → RArgs g w vs args → RH g w H → Calls P f vs w fun e w' => ∃ v g', e = .returned v ∧ RH g' w' H' ∧ Fr false g w g' w'
section
variable {P : Program} {st : St} {Q : Exit → St → Prop}
theorem SWM0.rangeF {gop : Operand} {ps : Array Tmp} {assign body : Code} {f : FuncId} {caps : List D} {H' : List SObj} {ds : List (Nat × D)} (hg : valD st gop = some (.fn (.func f) [] caps)) (hfn : isFn P f = true) (hn : st.tmps.all noHl = true)
    (hds : ∀ t d, (t, d) ∈ ds → st.tmps[t]? = some (.d d))
    (hf : ∀ (l : Nat) (R : Loop), R.state = .ready → R.pending = none → R.params = ps → R.assign = assign → R.body = body → R.tmps.size = st.tmps.length → SBC P (CRec l R ds) f (.d (.fn (.yield l) [] []) :: caps.map .d) st.H H')
    (hq : Q .normal ⟨st.tmps, H'⟩) : SWM0 P (.rangeFunc gop ps assign body) st Q := by
  intro a w g hr
  refine (wpIn_wide (n := 0)).1 (wpIn_rangeFunc fun fn _ => ?_)
  let R : Loop := { state := .ready, pending := none, fn, tmps := a.tmps, params := ps, assign, body, defers := w.heap.size }
  let w0 := w.alloc (.deferred (some []))
  let w1 := w0.alloc (.loop R)
  let g1 := (g.upd w.heap.size .out).upd w0.heap.size .out
  have hs0 : w0.heap.size = w.heap.size + 1 := by simp [w0]
  have hk : ∀ o, Keep o g w g1 w1 := fun o => (Keep.alloc (t := .out)).trans (Keep.alloc (t := .out))
  have hr1 : Rel st a w1 g1 := hr.world hk (fun _ _ h => h) rfl
  have hfr1 : Fr false g w g1 w1 := ⟨by simp [w1, w0]; omega, hk _, hk _, fun _ _ h => h, nofun, nofun, nofun, ⟨rfl, rfl⟩⟩
  have hl1 : w1.heap[w.heap.size + 1]? = some (.loop R) := by rw [← hs0]; exact World.alloc_heap_new w0 _
  have hm1 : w1.heap[w.heap.size]? = some (.deferred (some [])) := (Keep.alloc (o' := .out) (g := (g.upd w.heap.size .out)) (w := w0) (o := .loop R) (t := .out) _ _ (by simp) (World.alloc_heap_new w _)).2
  have hgl : g1.ow (w.heap.size + 1) = .out := by rw [← hs0]; simp [g1]
  have hgm : g1.ow w.heap.size = .out := by simp [g1, Gh.upd]
  have hrf := valD_d hr1 hg
  obtain ⟨vc, hev, lc, rc⟩ : ∃ vc : Array Value, a.eval gop = .func (.func f) #[] vc ∧ vc.size = caps.length ∧ (∀ (j : Nat) (y : D), caps[j]? = some y → ∃ u, vc[j]? = some u ∧ Rd g1 w1 u y) := by
    generalize a.eval gop = v at hrf
    cases hrf with
    | fn hl1 hl2 us1 us2 hc1 hr1 hc2 hr2 =>
      rename_i v1 v2
      have e1 : v1 = #[] := Array.eq_empty_of_size_eq_zero (by simpa using hl1)
      exact ⟨_, by rw [e1], hl2, fun j y hj => ⟨us2 j, hc2 j y hj, hr2 j y hj⟩⟩
  let yl : Value := .func (.yield (w.heap.size + 1)) #[] #[]
  refine ⟨w.heap.size + 1, [markD w.heap.size], w1, { target := .fn (.func f) vc, args := #[yl] }, w1, f, #[yl] ++ vc, w1, run_enterLoop_outer _ _ _ _ _, ?_, fun _ _ => trivial, ?_, (fun h => nomatch h), ?_⟩
  · simp only [resolve, rangeCall, hev, Deferred.ofValue, List.map_toArray, List.map_cons, List.map_nil]
    rfl
  · unfold isFn at hfn
    split at hfn
    · rename_i fn' hfn'
      simp only [Bool.and_eq_true, bne_iff_ne] at hfn
      obtain ⟨k1, k2⟩ := hfn
      have k2' : fn'.body.isNone = false := by cases hb : fn'.body <;> simp [hb] at k2 ⊢
      simp only [invoke, callFunc, Sem.run_bind, run_program, Result.andThen_ok, hfn']
      rw [if_neg (by simpa using k1), k2']
      rfl
    · cases hfn
  · have kp : ∀ {v : Value} {d : D}, Rd g1 w1 v d → Rd (g1.ren (calleeOw [] [])) w1 v d := fun hr => hr.keep (Keep.ren rfl) (fun _ _ h => h)
    have hC : CRec (w.heap.size + 1) R ds (g1.ren (calleeOw [] [])) w1 := by
      refine ⟨hl1, by simp [Gh.ren, hgl, calleeOw], fun t d hd => kp ?_⟩
      exact hr1.tmp t _ (hds t d hd)
    have hRA : RArgs (g1.ren (calleeOw [] [])) w1 (#[yl] ++ vc) (.d (.fn (.yield (w.heap.size + 1)) [] []) :: caps.map .d) := by
      refine ⟨by simp [lc]; omega, fun j s hj => ?_⟩
      cases j with
      | zero =>
        simp only [List.getElem?_cons_zero, Option.some.injEq] at hj
        subst hj
        refine ⟨yl, (by rw [Array.getElem?_append_left (by simp)]; rfl), ?_⟩
        exact .fn rfl rfl (fun _ => undef) (fun _ => undef) (fun j y hj => by simp at hj) (fun j y hj => by simp at hj) (fun j y hj => by simp at hj) (fun j y hj => by simp at hj)
      | succ j =>
        simp only [List.getElem?_cons_succ, List.getElem?_map, Option.map_eq_some_iff] at hj
        obtain ⟨d, hd, rfl⟩ := hj
        obtain ⟨u, e1, e2⟩ := rc j d hd
        refine ⟨u, ?_, kp e2⟩
        rw [Array.getElem?_append_right (by simp)]
        simpa using e1
    have hRH : RH (g1.ren (calleeOw [] [])) w1 st.H := hr1.hp.keep (fun o' ho' => Keep.ren (by
      cases o' <;> simp only [usesH] at ho' <;> try rfl
      rename_i l
      cases l <;> simp only [usesH] at ho'
      rfl)) (fun _ _ h => h) rfl
    refine callsIn_wide.2 ((hf (w.heap.size + 1) R rfl rfl rfl rfl rfl hr.len w1 _ _ hC hRA hRH).mono fun e w3 hh => ?_)
    obtain ⟨v, g3, rfl, hH3, hf3⟩ := hh
    obtain ⟨p1, p2⟩ := callH_post 0 hf3 hH3
    have hrel3 := hr1.callH 0 hf3 hH3 hn
    obtain ⟨q1, q2⟩ := p1.out _ _ hgl hl1
    obtain ⟨m1, m2⟩ := p1.out _ _ hgm hm1
    refine ⟨none, _, run_endLoop q2 (by simp [R]), ?_⟩
    have hrel4 := hrel3.outside (w' := w3.putObj (w.heap.size + 1) (.loop { R with state := .exhausted })) q1 (fun k hk => putObj_other hk)
    refine ⟨[markD w.heap.size], a, ⟨st.tmps, H'⟩, _, ⟨[w.heap.size], rfl, by simp, by simp, fun r hr' => ?_⟩, ?_, hq, hrel4, ?_⟩
    · simp only [List.mem_singleton] at hr'
      subst hr'
      exact ⟨by rw [putObj_other (by omega)]; exact m2, m1⟩
    · simp [moreA, hr.def0]
    · have hne : ∀ {k : Nat} {b : Obj}, w.heap[k]? = some b → k ≠ w.heap.size + 1 := fun hk e => by
        have := (Array.getElem?_eq_some_iff.1 hk).1
        omega
      have f13 := hfr1.trans p1
      refine ⟨?_, fun k b x1 x2 => ?_, fun k b x1 x2 => ?_, f13.rho, nofun, nofun, nofun, f13.os⟩
      · have := f13.size
        simpa [World.putObj] using this
      · obtain ⟨y1, y2⟩ := f13.free k b x1 x2
        exact ⟨y1, by rw [putObj_other (hne x2)]; exact y2⟩
      · obtain ⟨y1, y2⟩ := f13.out k b x1 x2
        exact ⟨y1, by rw [putObj_other (hne x2)]; exact y2⟩
end
end Go.Sh
namespace Go.Sh
end Go.Sh
namespace Go.Sh
end Go.Sh
namespace Go.Sh
end Go.Sh
namespace Go.Sh
section
variable {P : Program} {st : St} {ds : List Deferred} {Q : Exit → St → Prop}
end
end Go.Sh
namespace Go.Sh
section
variable {P : Program} {st : St} {ds : List Deferred} {Q : Exit → St → Prop}
end
end Go.Sh
namespace Go.Sh
section
variable {P : Program} {st : St} {Q : Exit → St → Prop}
theorem SWR.kp {r : Option Nat} {c : Code} {K : St → Prop} (n : Nat) (H : List SObj) (L : List Nat) (l : List (Nat × SV)) (hst : pickR n L st = some (l, H)) (h : SWR P r c (sp n l H) K) : SWR P r c st K :=
  fun m a w g hr => h m a w g (hr.keepR (keepR_of_pick hst))
end
end Go.Sh
namespace Go.Sh
def reC : List (Nat × Nat) → List SV → Option (List SV)
  | [], cs => some cs
  | (j, n) :: nl, cs => match cs[j]? with
    | some (.d .nilS) => reC nl (cs.set j (.own n []))
    | _ => none
theorem reC_spec {g : Gh} {w : World} {i : Nat} {c : Array Value} : ∀ (nl : List (Nat × Nat)) (cs cs' : List SV), reC nl cs = some cs' →
    (∀ (j : Nat) (s : SV), cs[j]? = some s → ∃ u, c[j]? = some u ∧ RC g w (.hcell i j) u s ∧ u.oneCell' = true) → cs'.length = cs.length ∧ ∀ (j : Nat) (s : SV), cs'[j]? = some s → ∃ u, c[j]? = some u ∧ RC g w (.hcell i j) u s ∧ u.oneCell' = true
  | [], cs, cs', h, hc => by cases h; exact ⟨rfl, hc⟩
  | (j0, n) :: nl, cs, cs', h, hc => by
    unfold reC at h
    split at h
    · rename_i h0
      obtain ⟨u, u1, u2, u3⟩ := hc j0 _ h0
      obtain ⟨a, rfl⟩ := Rd.nilS_inv (show Rd g w u .nilS from u2)
      obtain ⟨e1, e2⟩ := reC_spec nl _ cs' h (fun j s hj => by
        by_cases e : j0 = j
        · subst e
          rw [List.getElem?_set_self (get_lt h0)] at hj
          cases hj
          exact ⟨_, u1, .inl ⟨rfl, a, rfl⟩, u3⟩
        · rw [List.getElem?_set_ne e] at hj
          exact hc j s hj)
      exact ⟨by rw [e1]; simp, e2⟩
    · cases h
theorem KeepR.push {g : Gh} {ow : Nat → Own} {k : Nat} : KeepR g ⟨ow, g.ρ ++ [k]⟩ := fun i k' h => by
  show (g.ρ ++ [k])[i]? = some k'
  rw [List.getElem?_append_left (get_lt h)]
  exact h
section
variable {P : Program} {st : St} {ds : List Deferred} {Q : Exit → St → Prop}
theorem Rel.rebox {a : Act} {w : World} {g : Gh} {t : Nat} {cs cs' : List SV} {nl : List (Nat × Nat)} (hr : Rel st a w g) (ht : st.tmps[t]? = some (.box cs)) (hc : reC nl cs = some cs') :
    ∃ g', Rel ⟨((st.kill t).set t (.d (.ptr st.H.length 0))).tmps, st.H ++ [.cells cs']⟩ a w g' ∧ Fr false g w g' w := by
  let i := st.H.length
  let rn : Own → Own := fun o => match o with
    | .box s => if s = t then .obj i else .box s
    | .lst (.cell s c) => if s = t then .lst (.hcell i c) else .lst (.cell s c)
    | o => o
  obtain ⟨k, c, T, f1, f2, f3, f4, f5⟩ := (show RS g w st.tmps (valOf a) t (valOf a t) (.box cs) from hr.tmp t _ ht)
  let g' : Gh := ⟨fun b => rn (g.ow b), g.ρ ++ [k]⟩
  have hρ : KeepR g g' := KeepR.push
  have hk : ∀ o, rn o = o → Keep o g w g' w := fun o h b x h1 h2 => ⟨by show rn (g.ow b) = o; rw [h1, h], h2⟩
  have hf : Keep .free g w g' w := hk _ rfl
  have hlen : g.ρ.length = st.H.length := hr.hp.1
  refine ⟨g', ?_, Nat.le_refl _, hf, hk _ rfl, hρ, nofun, nofun, nofun, ⟨rfl, rfl⟩⟩
  have hnew : g'.ρ[i]? = some k := by
    show (g.ρ ++ [k])[i]? = some k
    rw [List.getElem?_append_right (by simp [i, hlen])]
    simp [i, hlen]
  refine Rel.step hr (by simp [St.set, St.kill, hr.len]) hr.def0 hρ (fun t' s hs => ?_) ⟨by simp [g', hlen], fun i' o' hi' => ?_⟩
  · by_cases e : t = t'
    · subst e
      simp only [St.set] at hs
      rw [List.getElem?_set_self (by simp [St.kill]; exact get_lt ht)] at hs
      cases hs
      refine .inr (.inl ?_)
      rw [f1]
      exact .ptr hnew
    · simp only [St.set] at hs
      rw [List.getElem?_set_ne e] at hs
      rcases St.kill_get hs with h | ⟨h1, h2⟩
      · exact .inl h
      · refine .inr (.inr ⟨h1, rfl, fun o' ho' => hk o' ?_, fun s0 e0 => ⟨rfl, fun x hx hb => ⟨x, ?_, rfl⟩⟩⟩)
        · cases o' with
          | box s0 =>
            cases s <;> simp [uses] at ho'
            subst ho'
            simp [rn, Ne.symm e]
          | lst l =>
            cases l with
            | cell s0 j =>
              cases s <;> simp [uses] at ho'
              · subst ho'; simp [mention] at h2; simp [rn, h2]
              · subst ho'; simp [mention] at h2; simp [rn, h2]
              · obtain ⟨rfl, -⟩ := ho'; simp [rn, Ne.symm e]
            | _ => rfl
          | _ => rfl
        · have hne : t ≠ s0 := fun e3 => by
            subst e3
            have := dep_mention e0
            rw [h2] at this
            cases this
          show ((st.kill t).set t _).tmps[s0]? = some x
          simp only [St.set]
          rw [List.getElem?_set_ne hne]
          simp [St.kill, hx, bigK_mention hb]
  · simp only at hi'
    by_cases e : i' < st.H.length
    · rw [List.getElem?_append_left e] at hi'
      exact (hr.hp.2 i' o' hi').keepI hf (hk _ rfl) (fun j => hk _ rfl) hρ
    · have hlt := get_lt hi'
      simp at hlt
      have : i' = i := by simp only [i]; omega
      subst this
      rw [List.getElem?_append_right (by simp [i])] at hi'
      simp only [i, Nat.sub_self, List.getElem?_cons_zero, Option.some.injEq] at hi'
      subst hi'
      have h5 : ∀ (j : Nat) (s : SV), cs[j]? = some s → ∃ u, c[j]? = some u ∧ RC g' w (.hcell i j) u s ∧ u.oneCell' = true := fun j s hj => by
        obtain ⟨u, u1, u2, u3⟩ := f5 j s hj
        refine ⟨u, u1, ?_, u3⟩
        cases s with
        | d x => exact (show Rd g w u x from u2).keep hf hρ
        | own n xs =>
          rcases (show ROwn g w (.cell t j) u n xs from u2) with h | ⟨k1, off, cap, c1, T1, us, x1, x2, x3, x4, x5, x6, x7, x8⟩
          · exact .inl h
          · exact .inr ⟨k1, off, cap, c1, T1, us, x1, (by show rn (g.ow k1) = _; rw [x2]; simp [rn]), x3, x4, x5, x6, x7, fun i0 x hx j0 y hy => (x8 i0 x hx j0 y hy).keep hf hρ⟩
        | undef => trivial
        | _ => exact u2.elim
      obtain ⟨e1, e2⟩ := reC_spec nl cs cs' hc h5
      exact ⟨k, c, T, hnew, (by show rn (g.ow k) = _; rw [f2]; simp [rn]), f3, by rw [f4, e1], e2⟩
def rbAt (st : St) (t : Nat) (nl : List (Nat × Nat)) : Option (St × SObj × Hp) := match st.tmps[t]? with
  | some (.box cs) => (reC nl cs).map fun cs' => (⟨((st.kill t).set t (.d (.ptr st.H.length 0))).tmps, []⟩, .cells cs', st.H)
  | _ => none
theorem spL_mem : ∀ (n : Nat) (l : List (Nat × SV)) (t j : Nat) (s : SV), (spL l n t)[j]? = some s → s = .undef ∨ (t + j, s) ∈ l
  | 0, l, t, j, s, h => by simp [spL] at h
  | n + 1, [], t, j, s, h => by
    simp only [spL] at h
    cases j with
    | zero => simp at h; exact .inl h.symm
    | succ j =>
      simp only [List.getElem?_cons_succ] at h
      rcases spL_mem n [] (t + 1) j s h with h | h
      · exact .inl h
      · cases h
  | n + 1, (t', x) :: r, t, j, s, h => by
    by_cases e : t' = t
    · subst e
      simp only [spL, ↓reduceIte] at h
      cases j with
      | zero => simp at h; subst h; exact .inr (by simp)
      | succ j =>
        simp only [List.getElem?_cons_succ] at h
        rcases spL_mem n r (t' + 1) j s h with h | h
        · exact .inl h
        · exact .inr (List.mem_cons_of_mem _ (by rw [show t' + 1 + j = t' + (j + 1) by omega] at h; exact h))
    · simp only [spL, e, ↓reduceIte] at h
      cases j with
      | zero => simp at h; exact .inl h.symm
      | succ j =>
        simp only [List.getElem?_cons_succ] at h
        rcases spL_mem n ((t', x) :: r) (t + 1) j s h with h | h
        · exact .inl h
        · exact .inr (by rw [show t + 1 + j = t + (j + 1) by omega] at h; exact h)
theorem YB.of_round1 {l tp n : Nat} {R : Loop} {ds : List (Nat × D)} {y : D} {H H' : List SObj} (hst : R.state = .ready) (hpe : R.pending = none) (hps : R.params = #[tp]) (hlen : R.tmps.size = n) (L : List (Nat × SV))
    (hd : ∀ t s, (t, s) ∈ L → (t = tp ∧ s = .d y) ∨ (t ≠ tp ∧ ∃ d, s = .d d ∧ (t, d) ∈ ds))
    (h : SWR P (some l) R.assign (sp n L H) (fun s1 => SWR P (some l) R.body s1 (fun s2 => s2.H = H'))) : YB P (CRec l R ds) l [.d y] H H' := by
  refine YB.of_round (s0 := sp n L H) hst hpe hps rfl (by rw [hlen]; exact spL_len n L 0) (fun t s hs => ?_) h
  rcases spL_mem n L 0 t s hs with rfl | hm
  · exact .inl rfl
  · rw [Nat.zero_add] at hm
    rcases hd _ _ hm with ⟨rfl, rfl⟩ | ⟨h1, d, rfl, h2⟩
    · exact .inr ⟨y, rfl, .inl ⟨rfl, rfl⟩⟩
    · exact .inr ⟨d, rfl, .inr ⟨h1, h2⟩⟩
end
end Go.Sh
namespace Go.Sh
section
variable {P : Program} {st : St} {Q : Exit → St → Prop}
theorem SWM0.rebox {c : Code} {ob : SObj} {H0 : Hp} {q : Hp × Nat} (hq : hNew H0 ob = some q) (t n : Nat) (nl : List (Nat × Nat)) (L : List Nat) (l : List (Nat × SV)) (h : (rbAt st t nl).map (fun p => (p.2.1, p.2.2)) = some (ob, H0)) (hs : (rbAt st t nl).bind (fun p => pickR n L p.1) = some (l, []))
    (hn : SWM0 P c (sp n l q.1) Q) : SWM0 P c st Q := by
  unfold rbAt at h hs
  split at h
  · rename_i cs ht
    simp only [ht] at hs
    simp only [Option.map_map, Option.map_eq_some_iff] at h
    obtain ⟨cs', h1, h2⟩ := h
    simp only [h1] at hs
    simp only [Function.comp, Prod.mk.injEq] at h2
    obtain ⟨rfl, rfl⟩ := h2
    cases hq
    simp only [Option.map_some, Option.bind_some] at hs
    intro a w g hr
    obtain ⟨g', r', f'⟩ := hr.rebox ht h1
    have r2 := r'.keepR (st' := sp n l (st.H ++ [.cells cs'])) (keepR_of_pick (by
      unfold pickR at hs ⊢
      split at hs
      · rename_i hc
        rw [if_pos hc]
        simp only [Option.some.injEq, Prod.mk.injEq] at hs ⊢
        exact ⟨hs.1, trivial⟩
      · cases hs))
    refine Code.wp_mono (fun e a' w' hh => ?_) (hn a w g' r2)
    obtain ⟨ds, a0, st', g2, m, e0, q, r, f⟩ := hh
    exact ⟨ds, a0, st', g2, m, e0, q, r, f'.trans f⟩
  · cases h
def DsOk (tp : Nat) (y : D) (ds : List (Nat × D)) : List (Nat × SV) → Prop
  | [] => True
  | (t, s) :: r => ((t = tp ∧ s = .d y) ∨ (t ≠ tp ∧ ∃ d, s = .d d ∧ (t, d) ∈ ds)) ∧ DsOk tp y ds r
theorem DsOk_mem {tp : Nat} {y : D} {ds : List (Nat × D)} : ∀ {L : List (Nat × SV)}, DsOk tp y ds L → ∀ t s, (t, s) ∈ L → (t = tp ∧ s = .d y) ∨ (t ≠ tp ∧ ∃ d, s = .d d ∧ (t, d) ∈ ds)
  | (t0, s0) :: r, h, t, s, hm => by
    rcases List.mem_cons.1 hm with e | hm
    · cases e; exact h.1
    · exact DsOk_mem h.2 t s hm
theorem SWM0.rangeL {gop : Operand} {ps : Array Tmp} {assign body : Code} {f : FuncId} {caps : List D} {H' : List SObj} (ds : List (Nat × D)) (hg : valD st gop = some (.fn (.func f) [] caps)) (hfn : isFn P f = true) (hn : st.tmps.all noHl = true)
    (hds : ds.map (fun p => st.tmps[p.1]?) = ds.map (fun p => some (SV.d p.2)))
    (hf : ∀ (l : Nat) (R : Loop), R.state = .ready → R.pending = none → R.params = ps → R.assign = assign → R.body = body → R.tmps.size = st.tmps.length → SBC P (CRec l R ds) f (.d (.fn (.yield l) [] []) :: caps.map .d) st.H H')
    (hq : Q .normal ⟨st.tmps, H'⟩) : SWM0 P (.rangeFunc gop ps assign body) st Q :=
  SWM0.rangeF (ds := ds) hg hfn hn (fun t d h => by
    have := List.map_inj_left.1 hds (t, d) h
    exact this) hf hq
end
end Go.Sh
namespace Go.Sh
section
variable {P : Program} {ops : Array Oper} {k : Nat} {st : St} {Q : St → Prop}
end
end Go.Sh
namespace Go.Sh
section
variable {P : Program} {st : St} {ops : Array Oper} {k : Nat}
end
end Go.Sh
namespace Go.Sh
section
variable {P : Program} {pu : Bool} {ops : Array Oper} {k n : Nat} {l0 : List (Nat × SV)} {H : List SObj}
def dropS : Nat → Code → Code
  | 0, c => c
  | j + 1, c => match c with | .seq _ y => dropS j y | _ => .skip
def runS (P : Program) : Nat → Code → St → Option St
  | 0, _, st => some st
  | j + 1, c, st => match c with
    | .seq (.region _ ops b) y => bif b then none else (runSeg P [] ops ops.size 0 st).bind (runS P j y)
    | _ => none
theorem SW.runS {Q : Exit → St → Prop} : ∀ (j : Nat) (c : Code) (st st' : St), Sh.runS P j c st = some st' → SW P pu (dropS j c) st' Q → SW P pu c st Q
  | 0, c, st, st', h, hn => by cases h; exact hn
  | j + 1, c, st, st', h, hn => by
    simp only [Sh.runS] at h
    split at h
    · rename_i id ops b y
      cases b with
      | true => cases h
      | false =>
        simp only [cond_false, Option.bind_eq_some_iff] at h
        obtain ⟨st1, h1, h2⟩ := h
        refine SW.seq (SW.regionK (OWk.seg (k := 0) ops.size h1 (OWk.done (by simp) ?_)))
        exact SW.runS j y st1 st' h2 hn
    · cases h
theorem SW.R {c : Code} {Q : Exit → St → Prop} (j : Nat) (l : List (Nat × SV)) (hn : SW P pu (dropS j c) (sp n l H) Q) (h : (Sh.runS P j c (sp n l0 H)).bind (pickR n (l.map (·.1))) = some (l, H) := by kernel_rfl) : SW P pu c (sp n l0 H) Q := by
  obtain ⟨st1, h1, h2⟩ := Option.bind_eq_some_iff.1 h
  exact SW.runS j c _ st1 h1 (SW.kp n H _ l h2 hn)
theorem OWk.G {Q : St → Prop} (j : Nat) (l : List (Nat × SV)) (hn : OWk P pu ops (k + j) (sp n l H) Q) (h : (runSeg P [] ops j k (sp n l0 H)).bind (pickR n (l.map (·.1))) = some (l, H) := by kernel_rfl) : OWk P pu ops k (sp n l0 H) Q :=
  OWk.sg n H [] _ j l h hn
theorem OBk.G {m : Nat} {Q : St → Prop} (j : Nat) (l : List (Nat × SV)) (hn : OBk P ops m (k + j) (sp n l H) Q) (hm : decide (k + j ≤ m) = true := by kernel_rfl) (h : (runSegB P [] ops j k (sp n l0 H)).bind (pickR n (l.map (·.1))) = some (l, H) := by kernel_rfl) : OBk P ops m k (sp n l0 H) Q :=
  OBk.sg n H [] _ j l hm h hn
theorem OQk.G {Q : St → Prop} (j : Nat) (l : List (Nat × SV)) (hn : OQk P ops (k + j) (sp n l H) Q) (h : (runSegB P [] ops j k (sp n l0 H)).bind (pickR n (l.map (·.1))) = some (l, H) := by kernel_rfl) : OQk P ops k (sp n l0 H) Q :=
  OQk.sg n H [] _ j l h hn
theorem OWk.D {st : St} {Q : St → Prop} (hq : Q st) (h : decide (ops.size ≤ k) = true := by kernel_rfl) : OWk P pu ops k st Q := OWk.done h hq
theorem OTk.D {st : St} {Q : Exit → St → Prop} (hq : Q .normal st) (h : decide (ops.size ≤ k) = true := by kernel_rfl) : OTk P ops k st Q := OTk.done h hq
theorem OWk.O {Q : St → Prop} {d : Option Tmp} {s : SV} (l : List (Nat × SV)) (hb : BAt P ops k (sp n l0 H) d s) (hn : OWk P pu ops (k + 1) (sp n l H) Q) (hst : pickR n (l.map (·.1)) ((sp n l0 H).put d s) = some (l, H) := by kernel_rfl) : OWk P pu ops k (sp n l0 H) Q :=
  OWk.on n H _ l hb hst hn
theorem OBk.O {m : Nat} {Q : St → Prop} {d : Option Tmp} {s : SV} (l : List (Nat × SV)) (hb : BAt P ops k (sp n l0 H) d s) (hn : OBk P ops m (k + 1) (sp n l H) Q) (hm : decide (k < m) = true := by kernel_rfl) (hst : pickR n (l.map (·.1)) ((sp n l0 H).put d s) = some (l, H) := by kernel_rfl) : OBk P ops m k (sp n l0 H) Q :=
  OBk.on n H _ l hm hb hst hn
theorem OTk.M {Q : Exit → St → Prop} {st : St} (m : Nat) (h : OWk P false (ops.toList.take m).toArray k st (fun s => OTk P ops m s Q)) (hg : guardsB ops k m = true := by kernel_rfl) : OTk P ops k st Q := OTk.pre m hg h
theorem OWk.C {Q : St → Prop} {f : FuncId} {args : List SV} {ls : List Loc} {gs : List (Nat × Nat)} {d : Option Tmp} {r : SV} (tr : List Nat) (l : List (Nat × SV)) (hp : PC P f args r) (hn : OWk P pu ops (k + 1) (sp n l H) Q) (h : callAt P ops k (sp n l0 H) tr = some (d, f, args, ls, gs) := by kernel_rfl) (hr : (resD r && (ls.isEmpty || flatSV r)) = true := by kernel_rfl)
    (hst : pickR n (l.map (·.1)) (((sp n l0 H).takes gs).put d r) = some (l, H) := by kernel_rfl) : OWk P pu ops k (sp n l0 H) Q := OWk.cl n H tr _ l hp h hr hst hn
theorem OWk.C0 {Q : St → Prop} {f : FuncId} {args : List SV} (d : Option Tmp) {r : SV} (l : List (Nat × SV)) (hp : PC P f args r) (hn : OWk P pu ops (k + 1) (sp n l H) Q) (h : callAt P ops k (sp n l0 H) [] = some (d, f, args, [], []) := by kernel_rfl) (hr : resD r = true := by kernel_rfl)
    (hst : pickR n (l.map (·.1)) ((sp n l0 H).put d r) = some (l, H) := by kernel_rfl) : OWk P pu ops k (sp n l0 H) Q := OWk.cl n H [] _ l hp h (by rw [hr]; rfl) hst hn
theorem SW.K {c : Code} {Q : Exit → St → Prop} (l : List (Nat × SV)) (h : SW P pu c (sp n l H) Q) (hst : pickR n (l.map (·.1)) (sp n l0 H) = some (l, H) := by kernel_rfl) : SW P pu c (sp n l0 H) Q := SW.kp n H _ l hst h
theorem SW.B {st : St} {Q : Exit → St → Prop} {c : Operand} {x y : Code} (b : Bool) (hT : b = true → SW P pu x st Q) (hF : b = false → SW P pu y st Q) (hc : valD st c = some (.bool b) := by kernel_rfl) : SW P pu (.cond c x y) st Q := SW.condB hc hT hF
theorem SW.S {Q : Exit → St → Prop} {st : St} {id : Nat} {y : Code} (h : OWk P pu ops 0 st (thenS (fun s => SW P pu y s Q) Q .normal)) : SW P pu (.seq (.region id ops false) y) st Q := SW.seq (SW.regionK h)
theorem OWk.E {st : St} {N : St → Prop} {Q : Exit → St → Prop} (hq : N st) (h : decide (ops.size ≤ k) = true := by kernel_rfl) : OWk P pu ops k st (thenS N Q .normal) := OWk.done h hq
theorem OWk.CH {Q : St → Prop} {f : FuncId} {args : List SV} (d : Option Tmp) {r : SV} {H' : List SObj} (l : List (Nat × SV)) (hp : SC P false f args H r H') (hn : OWk P false ops (k + 1) (sp n l H') Q) (h : callAt P ops k (sp n l0 H) [] = some (d, f, args, [], []) := by kernel_rfl)
    (hr : (resD r && (sp n l0 H).tmps.all noHl) = true := by kernel_rfl) (hst : pickR n (l.map (·.1)) ⟨((sp n l0 H).put d r).tmps, H'⟩ = some (l, H') := by kernel_rfl) : OWk P false ops k (sp n l0 H) Q := OWk.clH n _ l hp h hr hst hn
theorem OWk.M {Q : St → Prop} (j : Nat) (b : Bool) (S : Bool → List (Nat × SV)) (l : Bool → List (Nat × SV)) (h : OWk P pu ops (k + j) (sp n (l b) H) Q) (h0 : sp n l0 H = sp n (S b) H := by kernel_rfl) (hT : (runSeg P [] ops j k (sp n (S true) H)).bind (pickR n ((l true).map (·.1))) = some (l true, H) := by kernel_rfl)
    (hF : (runSeg P [] ops j k (sp n (S false) H)).bind (pickR n ((l true).map (·.1))) = some (l false, H) := by kernel_rfl) : OWk P pu ops k (sp n l0 H) Q := OWk.mg n H _ j b (fun b => sp n (S b) H) l h0 hT hF h
end
end Go.Sh
namespace Go.Sh
def hasH : Loc → Bool
  | .hcell _ _ => true
  | _ => false
def lendHp (ls : List Loc) (H : Hp) : Hp := bif ls.any hasH then H.mapIdx (lendObj ls) else H
theorem lendCell_no {ls : List Loc} (h : ls.any hasH = false) (i j : Nat) (s : SV) : lendCell ls i j s = s := by
  cases s <;> try rfl
  simp only [lendCell]
  split
  · rename_i hc
    have : ls.any hasH = true := List.any_eq_true.2 ⟨.hcell i j, by simpa using hc, rfl⟩
    rw [h] at this
    cases this
  · rfl
theorem lendObj_no {ls : List Loc} (h : ls.any hasH = false) (i : Nat) (o : SObj) : lendObj ls i o = o := by
  cases o with
  | cells cs =>
    simp only [lendObj]
    congr 1
    apply List.ext_getElem?
    intro j
    simp only [List.getElem?_mapIdx]
    cases cs[j]? with
    | none => rfl
    | some s => simp [lendCell_no h]
  | bld T e bs =>
    simp only [lendObj]
    split
    · rename_i hc
      have : ls.any hasH = true := List.any_eq_true.2 ⟨.hcell i 1, by simpa using hc, rfl⟩
      rw [h] at this
      cases this
    · rfl
  | _ => rfl
theorem lendHp_eq (ls : List Loc) (H : Hp) : H.mapIdx (lendObj ls) = lendHp ls H := by
  unfold lendHp
  cases h : ls.any hasH with
  | true => rfl
  | false =>
    rw [cond_false]
    apply List.ext_getElem?
    intro j
    simp only [List.getElem?_mapIdx]
    cases H[j]? with
    | none => rfl
    | some o => simp [lendObj_no h]
section
variable {P : Program} {pu : Bool} {ops : Array Oper} {k n : Nat} {l0 : List (Nat × SV)} {H : List SObj}
theorem OWk.CR {Q : St → Prop} {f : FuncId} {args : List SV} {ls : List Loc} (d : Option Tmp) {r : SV} {H' : List SObj} (l : List (Nat × SV)) (hp : SC P true f args (lendHp ls H) r H') (hn : OWk P pu ops (k + 1) (sp n l H) Q)
    (h : callAt P ops k (sp n l0 H) [] = some (d, f, args, ls, []) := by kernel_rfl) (hr : (resD r && (ls.isEmpty || flatSV r)) = true := by kernel_rfl)
    (hst : pickR n (l.map (·.1)) ((sp n l0 H).put d r) = some (l, H) := by kernel_rfl) : OWk P pu ops k (sp n l0 H) Q := by
  unfold callAt at h
  split at h
  · rename_i o ho
    split at h
    · rename_i c hop
      split at h
      · rename_i cs hcs
        simp only [Option.some.injEq, Prod.mk.injEq] at h
        obtain ⟨rfl, rfl, rfl, rfl, e2⟩ := h
        obtain ⟨h1, h2⟩ := opAt_inv ho
        rw [Bool.and_eq_true] at hr
        obtain ⟨f0, a0, l1, g0⟩ := cs
        cases e2
        unfold OWk
        rw [drop_cons h1]
        refine OW.callG [] h2 hop hcs (by rw [lendHp_eq]; exact hp) hr.1 (by have := hr.2; rw [Bool.or_eq_true] at this; exact this) ?_
        exact OWk.keep _ (keepR_of_pick hst) hn
      · cases h
    · cases h
  · cases h
theorem OQk.CR {Q : St → Prop} {f : FuncId} {args : List SV} {ls : List Loc} (d : Option Tmp) {r : SV} {H' : List SObj} (l : List (Nat × SV)) (hp : SC P true f args (lendHp ls H) r H') (hn : OQk P ops (k + 1) (sp n l H) Q)
    (h : callAt P ops k (sp n l0 H) [] = some (d, f, args, ls, []) := by kernel_rfl) (hr : (detS r).isSome = true := by kernel_rfl)
    (hst : pickR n (l.map (·.1)) ((sp n l0 H).put d r) = some (l, H) := by kernel_rfl) : OQk P ops k (sp n l0 H) Q := by
  unfold callAt at h
  split at h
  · rename_i o ho
    split at h
    · rename_i c hop
      split at h
      · rename_i cs hcs
        simp only [Option.some.injEq, Prod.mk.injEq] at h
        obtain ⟨rfl, rfl, rfl, rfl, e2⟩ := h
        obtain ⟨h1, h2⟩ := opAt_inv ho
        obtain ⟨v, hv⟩ := Option.isSome_iff_exists.1 hr
        refine OQk.call (ls := cs.ls) h1 h2 hop ?_ (by rw [← lendHp_eq] at hp; exact hp) hv (OQk.keep _ (keepR_of_pick hst) hn)
        rw [hcs, ← e2]
      · cases h
    · cases h
  · cases h
theorem OWk.asP {Q : St → Prop} {st : St} (p : Option Nat) (S : Option Nat → St) {i : Nat} (h0 : st = S p) (hp : p = some i) (h : OWk P pu ops k (S (some i)) Q) : OWk P pu ops k st Q := by
  subst h0
  rw [hp]
  exact h
def hGetL {α : Type} (n : Nat) (c : Cd α) (H : Hp) (i off : Nat) : Option (List α) :=
  (hCells H i).bind fun cs => match cs[off]? with
    | some (.own n' ds) => if n' = n then ds.mapM c.dec else none
    | some (.d (.list n' ds)) => if n' = n then ds.mapM c.dec else none
    | _ => none
theorem hGetL_eq {α : Type} {n : Nat} {c : Cd α} {H : Hp} {i off : Nat} {xs : List α} (h : hGetL n c H i off = some xs) :
    ∃ cs, H[i]? = some (.cells cs) ∧ (cs[off]? = some (.own n (xs.map c.enc)) ∨ cs[off]? = some (.d (.list n (xs.map c.enc)))) := by
  unfold hGetL at h
  simp only [Option.bind_eq_some_iff] at h
  obtain ⟨cs, h1, h2⟩ := h
  split at h2
  · rename_i n' ds hc
    split at h2
    · rename_i e
      subst e
      exact ⟨cs, hCells_eq h1, .inl (by rw [hc, mapM_de c _ _ h2])⟩
    · cases h2
  · rename_i n' ds hc
    split at h2
    · rename_i e
      subst e
      exact ⟨cs, hCells_eq h1, .inr (by rw [hc, mapM_de c _ _ h2])⟩
    · cases h2
  · cases h2
theorem BStep.up {st : St} {o : Oper} {n : Nat} {xs : List D} (lc : Loc) (h : BStep P st o (.d (.list n xs))) : BStep P st o (.lent lc n xs) := by
  intro a w g hr
  obtain ⟨v, h1, h2⟩ := h a w g hr
  refine ⟨v, ?_, h2⟩
  exact (Rd.toList (show Rd g w v (.list n xs) from h1)).up
def ldLAt (P : Program) (ops : Array Oper) (k : Nat) (st : St) : Option (Option Tmp × Nat × Nat × Hp) :=
  match opAt ops k st with
  | some o => match o.op with
    | .load T x => match asLoc st x, ptrOf st x, ptrH st x with
      | none, none, some (i, off) => if (!(P.underlying T).isNone && !isAggT P T && o.dst.isSome) = true then some (o.dst, i, off, st.H) else none
      | _, _, _ => none
    | _ => none
  | none => none
theorem BAt.ldL {α : Type} {c : Cd α} {n' i off : Nat} {xs : List α} {H0 : Hp} {d : Option Tmp} {st : St} (hx : hGetL n' c H0 i off = some xs) (h : ldLAt P ops k st = some (d, i, off, H0)) : BAt P ops k st d (.lent (.hcell i off) n' (xs.map c.enc)) := by
  obtain ⟨cs, e1, e2⟩ := hGetL_eq hx
  unfold ldLAt at h
  split at h
  · rename_i o ho
    split at h
    · rename_i T xo hop
      split at h
      · rename_i i' off' h1 h2 h3
        split at h
        · rename_i hc
          simp only [Bool.and_eq_true, Bool.not_eq_true'] at hc
          simp only [Option.some.injEq, Prod.mk.injEq] at h
          obtain ⟨rfl, rfl, rfl, rfl⟩ := h
          obtain ⟨g1, g2⟩ := opAt_inv ho
          have hu : ¬ (P.underlying T).isNone = true := by rw [hc.1.1]; exact Bool.false_ne_true
          have ha : ¬ isAggT P T = true := by rw [hc.1.2]; exact Bool.false_ne_true
          have hd : ∀ s, cs[off']? = some s → ∃ r, cs.drop off' = s :: r := fun s hs => by
            have hlt := get_lt hs
            rw [List.drop_eq_getElem_cons hlt]
            rw [List.getElem?_eq_getElem hlt] at hs
            cases hs
            exact ⟨_, rfl⟩
          rcases e2 with e2 | e2
          · obtain ⟨r, hr⟩ := hd _ e2
            refine ⟨o, g1, g2, BStep.of_bop ?_, rfl, rfl⟩
            simp only [bop, hop, loadOp, h1, h2, h3, e1, hr]
            unfold loadS
            rw [if_neg hu, if_neg ha]
          · obtain ⟨r, hr⟩ := hd _ e2
            refine ⟨o, g1, g2, BStep.up _ (BStep.of_bop ?_), rfl, rfl⟩
            simp only [bop, hop, loadOp, h1, h2, h3, e1, hr]
            unfold loadS
            rw [if_neg hu, if_neg ha]
        · cases h
      · cases h
    · cases h
  · cases h
theorem cP_cells (p : Option Nat) : (cP.enc p).cells = [cP.enc p] := by cases p <;> rfl
theorem BAt.indexP {xs : List (Option Nat)} {j : Int} {y : Option Nat} {d : Option Tmp} {l : Option Loc} {n : Nat} {st : St} (hy : idx xs j = some y) (h : idxAt P ops k st = some (d, l, n, xs.map cP.enc, j)) : BAt P ops k st d (lendP l [cP.enc y]) := by
  rw [← cP_cells]
  exact BAt.index hy h
theorem SC.of_SWr {f : FuncId} {fn : Func} {c : Code} {args : List SV} {H : List SObj} {r : SV} (hf : P.funcs[f]? = some fn) (hb : fn.body = some c)
    (h : SW P true c (initSt fn.ntmps args H) (EndQ P fn.results.toList H r)) : SC P true f args H r H := by
  refine SC.of_SW hf hb ?_
  intro a w g hr
  refine Code.wp_mono (fun e a' w' hh => ?_) (h a w g hr)
  obtain ⟨st', g', ⟨he, l, h1, h2⟩, r1, f⟩ := hh
  exact ⟨st'.nils l, g', ⟨he, endV_ok h1, by rw [St.nils_H]; exact h2⟩, r1.nils, f⟩
end
end Go.Sh
namespace Go.Sh
section
variable {P : Program} {st : St}
theorem Rel.freezeH {a : Act} {w : World} {g : Gh} {i off n : Nat} {xs : List D} {cs : List SV} (hr : Rel st a w g) (hi : st.H[i]? = some (.cells cs)) (hc : cs[off]? = some (.own n xs)) (hn : st.tmps.all noHl = true) :
    ∃ g', Rel ⟨st.tmps, st.H.set i (.cells (cs.set off (.d (.list n xs))))⟩ a w g' ∧ Fr false g w g' w := by
  let rn : Own → Own := fun o => if o = .lst (.hcell i off) then .free else o
  have rnO : ∀ {o}, o ≠ .lst (.hcell i off) → rn o = o := fun h => by simp [rn, h]
  have hk : ∀ o', o' ≠ .lst (.hcell i off) → Keep o' g w (g.ren rn) w := fun o' h => Keep.ren (rnO h)
  refine ⟨g.ren rn, ?_, ⟨Nat.le_refl _, hk _ (by simp), hk _ (by simp), fun _ _ h => h, nofun, nofun, nofun, ⟨rfl, rfl⟩⟩⟩
  obtain ⟨k, c, T0, f1, f2, f3, f4, f5⟩ := hr.hp.2 i _ hi
  obtain ⟨u, u1, u2, u3⟩ := f5 off _ hc
  refine Rel.step hr hr.len hr.def0 (fun _ _ h => h) (fun t s hs => ?_) ⟨by simp [Gh.ren, hr.hp.1], fun i' o' hi' => ?_⟩
  · have hnh : noHl s = true := List.all_eq_true.1 hn s (List.mem_iff_getElem?.2 ⟨t, hs⟩)
    refine .inr (.inr ⟨hs, rfl, fun o' ho' => hk o' (fun e2 => ?_), fun s0 e0 => ⟨rfl, fun x hx hb => ⟨x, hx, rfl⟩⟩⟩)
    subst e2; exact uses_hcell hnh ho'
  · simp only at hi'
    by_cases e : i = i'
    · subst e
      rw [List.getElem?_set_self (get_lt hi)] at hi'
      cases hi'
      refine ⟨k, c, T0, f1, by simp [Gh.ren, f2, rn], f3, by simp [f4], fun j s hj => ?_⟩
      by_cases ej : off = j
      · subst ej
        rw [List.getElem?_set_self (get_lt hc)] at hj
        cases hj
        refine ⟨u, u1, ?_, u3⟩
        have ho : ROwn g w (.hcell i off) u n xs := u2
        refine RList.free (l := .hcell i off) (rnO (by simp)) (by simp [rn]) ?_
        rcases ho with ⟨rfl, a, e⟩ | ⟨k, off, cap, c, T, us, hv, hk, hb, hl, hz, hn, hc, hr⟩
        · exact .inl ⟨rfl, a, _, e⟩
        · exact .inr ⟨k, off, cap, c, T, _, us, hv, by simp [hk, okL], hb, hl, hn, hc, hr⟩
      · rw [List.getElem?_set_ne ej] at hj
        obtain ⟨v, v1, v2, v3⟩ := f5 j s hj
        exact ⟨v, v1, v2.keep (hk _ (by simp)) (hk _ (by simp; omega)) (fun _ _ h => h), v3⟩
    · rw [List.getElem?_set_ne e] at hi'
      exact (hr.hp.2 i' o' hi').keepI (hk _ (by simp)) (hk _ (by simp)) (fun j => hk _ (by simp; omega)) (fun _ _ h => h)
def hFz {α : Type} (n : Nat) (c : Cd α) (H : Hp) (i off : Nat) : Option (List α × Hp) :=
  (hCells H i).bind fun cs => match cs[off]? with
    | some (.own n' ds) => if n' = n then (ds.mapM c.dec).map fun xs => (xs, H.set i (.cells (cs.set off (.d (.list n ds))))) else none
    | some (.d (.list n' ds)) => if n' = n then (ds.mapM c.dec).map fun xs => (xs, H) else none
    | _ => none
theorem hFz_eq {α : Type} {n : Nat} {c : Cd α} {H H' : Hp} {i off : Nat} {xs : List α} (h : hFz n c H i off = some (xs, H')) :
    ∃ cs, H[i]? = some (.cells cs) ∧ ((cs[off]? = some (.own n (xs.map c.enc)) ∧ H' = H.set i (.cells (cs.set off (.d (.list n (xs.map c.enc)))))) ∨ (cs[off]? = some (.d (.list n (xs.map c.enc))) ∧ H' = H)) := by
  unfold hFz at h
  simp only [Option.bind_eq_some_iff] at h
  obtain ⟨cs, h1, h2⟩ := h
  split at h2
  · rename_i n' ds hc
    split at h2
    · rename_i e
      subst e
      simp only [Option.map_eq_some_iff, Prod.mk.injEq] at h2
      obtain ⟨ys, h3, rfl, rfl⟩ := h2
      have := mapM_de c _ _ h3
      exact ⟨cs, hCells_eq h1, .inl ⟨by rw [hc, this], by rw [this]⟩⟩
    · cases h2
  · rename_i n' ds hc
    split at h2
    · rename_i e
      subst e
      simp only [Option.map_eq_some_iff, Prod.mk.injEq] at h2
      obtain ⟨ys, h3, rfl, rfl⟩ := h2
      have := mapM_de c _ _ h3
      exact ⟨cs, hCells_eq h1, .inr ⟨by rw [hc, this], rfl⟩⟩
    · cases h2
  · cases h2
theorem OWk.fzH {ops : Array Oper} {k n : Nat} {Q : St → Prop} {α : Type} {c : Cd α} {n' i off : Nat} {xs : List α} {l : List (Nat × SV)} {H H' : Hp} (hx : hFz n' c H i off = some (xs, H')) (hl : ((sp n l H).tmps.all noHl) = true) (h : OWk P false ops k (sp n l H') Q) :
    OWk P false ops k (sp n l H) Q := by
  obtain ⟨cs, e1, ⟨e2, rfl⟩ | ⟨e2, rfl⟩⟩ := hFz_eq hx
  · intro a w g hr Qc hq
    obtain ⟨g', r, f⟩ := hr.freezeH (st := sp n l H) e1 e2 hl
    exact h a w g' r Qc fun st2 a2 w2 g2 q2 r2 f2 => hq st2 a2 w2 g2 q2 r2 (f.trans f2)
  · exact h
theorem hFz_get {α : Type} {n : Nat} {c : Cd α} {H H' : Hp} {i off : Nat} {xs : List α} (h : hFz n c H i off = some (xs, H')) : ∃ cs, H'[i]? = some (.cells cs) ∧ cs[off]? = some (.d (.list n (xs.map c.enc))) := by
  obtain ⟨cs, e1, ⟨e2, rfl⟩ | ⟨e2, rfl⟩⟩ := hFz_eq h
  · exact ⟨_, List.getElem?_set_self (get_lt e1), List.getElem?_set_self (get_lt e2)⟩
  · exact ⟨cs, e1, e2⟩
theorem BAt.ldZ {ops : Array Oper} {k : Nat} {α : Type} {c : Cd α} {n' i off : Nat} {xs : List α} {H0 H1 : Hp} {d : Option Tmp} (hx : hFz n' c H0 i off = some (xs, H1)) (h : ldLAt P ops k st = some (d, i, off, H1)) : BAt P ops k st d (.d (.list n' (xs.map c.enc))) := by
  obtain ⟨cs, e1, e2⟩ := hFz_get hx
  unfold ldLAt at h
  split at h
  · rename_i o ho
    split at h
    · rename_i T xo hop
      split at h
      · rename_i i' off' h1 h2 h3
        split at h
        · rename_i hc
          simp only [Bool.and_eq_true, Bool.not_eq_true'] at hc
          simp only [Option.some.injEq, Prod.mk.injEq] at h
          obtain ⟨rfl, rfl, rfl, rfl⟩ := h
          obtain ⟨g1, g2⟩ := opAt_inv ho
          have hu : ¬ (P.underlying T).isNone = true := by rw [hc.1.1]; exact Bool.false_ne_true
          have ha : ¬ isAggT P T = true := by rw [hc.1.2]; exact Bool.false_ne_true
          have hlt := get_lt e2
          refine ⟨o, g1, g2, BStep.of_bop ?_, rfl, rfl⟩
          have hd : cs.drop off' = .d (.list n' (xs.map c.enc)) :: cs.drop (off' + 1) := by
            rw [List.drop_eq_getElem_cons hlt]
            rw [List.getElem?_eq_getElem hlt] at e2
            rw [Option.some.inj e2]
          simp only [bop, hop, loadOp, h1, h2, h3, e1, hd]
          unfold loadS
          rw [if_neg hu, if_neg ha]
        · cases h
      · cases h
    · cases h
  · cases h
end
end Go.Sh
namespace Go.Sh
structure FrL (l : Nat) (g : Gh) (w : World) (g' : Gh) (w' : World) : Prop where
  size : w.heap.size ≤ w'.heap.size
  free : Keep .free g w g' w'
  out : ∀ (k : Nat) (b : Obj), k ≠ l → g.ow k = .out → w.heap[k]? = some b → g'.ow k = .out ∧ w'.heap[k]? = some b
  rho : KeepR g g'
  os : SameOs w w'
theorem FrL.of {pu : Bool} {l : Nat} {g g' : Gh} {w w' : World} (h : Fr pu g w g' w') : FrL l g w g' w' := ⟨h.size, h.free, fun k b _ h1 h2 => h.out k b h1 h2, h.rho, h.os⟩
theorem FrL.refl (l : Nat) (g : Gh) (w : World) : FrL l g w g w := FrL.of (Fr.refl false g w)
theorem FrL.trans {l : Nat} {g1 g2 g3 : Gh} {w1 w2 w3 : World} (h : FrL l g1 w1 g2 w2) (h' : FrL l g2 w2 g3 w3) : FrL l g1 w1 g3 w3 :=
  ⟨Nat.le_trans h.size h'.size, h.free.trans h'.free, fun k b hk h1 h2 => let ⟨x, y⟩ := h.out k b hk h1 h2; h'.out k b hk x y, fun i k a => h'.rho i k (h.rho i k a), h.os.trans h'.os⟩
def DnAt (l i : Nat) (d : D) (g : Gh) (w : World) : Prop :=
  ∃ (k : Nat) (c : Array Value) (T : TypeId) (fz : Nat × Nat) (v : Value), g.ρ[i]? = some k ∧ k ≠ l ∧ g.ow k = .out ∧ w.heap[k]? = some (.cells c T fz) ∧ c[0]? = some v ∧ v.oneCell' = true ∧ Rd g w v d
theorem DnAt.fr {l i : Nat} {d : D} {g g' : Gh} {w w' : World} (h : DnAt l i d g w) (f : FrL l g w g' w') : DnAt l i d g' w' := by
  obtain ⟨k, c, T, fz, v, h1, h2, h3, h4, h5, h6, h7⟩ := h
  obtain ⟨x, y⟩ := f.out k _ h2 h3 h4
  exact ⟨k, c, T, fz, v, f.rho i k h1, h2, x, y, h5, h6, h7.keep f.free f.rho⟩
def recB (R : Loop) (jc : Code) (b : Bool) : Loop := if b then R else { R with state := .done, pending := some jc }
def CL (l : Nat) (R : Loop) (jc : Code) (ds : List (Nat × D)) (Dn : List (Nat × D)) (b : Bool) (g : Gh) (w : World) : Prop :=
  w.heap[l]? = some (.loop (recB R jc b)) ∧ g.ow l = .out ∧ (∀ t d, (t, d) ∈ ds → Rd g w (R.tmps.getD t undef) d) ∧ ∀ i d, (i, d) ∈ Dn → DnAt l i d g w
section
variable {l : Nat} {R : Loop} {jc : Code} {ds Dn : List (Nat × D)} {b b' : Bool} {g g' : Gh} {w w' : World}
theorem CL.of_frL (h : CL l R jc ds Dn b g w) (f : FrL l g w g' w') (h1 : w'.heap[l]? = some (.loop (recB R jc b'))) (h2 : g'.ow l = .out) : CL l R jc ds Dn b' g' w' :=
  ⟨h1, h2, fun t d hd => (h.2.2.1 t d hd).keep f.free f.rho, fun i d hd => (h.2.2.2 i d hd).fr f⟩
theorem CL.fr : CFr (CL l R jc ds Dn b) := fun g w g' w' h f =>
  h.of_frL (FrL.of f) (f.out l _ h.2.1 h.1).2 (f.out l _ h.2.1 h.1).1
theorem CL.ren (h : CL l R jc ds Dn b g w) : CL l R jc ds Dn b (g.ren (calleeOw [] [])) w := by
  have kp : ∀ {v : Value} {d : D}, Rd g w v d → Rd (g.ren (calleeOw [] [])) w v d := fun hr => hr.keep (Keep.ren rfl) (fun _ _ h => h)
  refine ⟨h.1, by simp [Gh.ren, h.2.1, calleeOw], fun t d hd => kp (h.2.2.1 t d hd), fun i d hd => ?_⟩
  obtain ⟨k, c, T, fz, v, h1, h2, h3, h4, h5, h6, h7⟩ := h.2.2.2 i d hd
  exact ⟨k, c, T, fz, v, h1, h2, by simp [Gh.ren, h3, calleeOw], h4, h5, h6, kp h7⟩
theorem CL.less {Dn' : List (Nat × D)} (h : CL l R jc ds Dn b g w) (hs : ∀ p ∈ Dn', p ∈ Dn) : CL l R jc ds Dn' b g w :=
  ⟨h.1, h.2.1, h.2.2.1, fun i d hd => h.2.2.2 i d (hs _ hd)⟩
theorem CL.more {Dn' : List (Nat × D)} (h : CL l R jc ds [] b' g' w') (h0 : CL l R jc ds Dn b g w) (f : FrL l g w g' w') : CL l R jc ds Dn b' g' w' :=
  h0.of_frL f h.1 h.2.1
def PostL (l : Nat) (CC : Bool → Gh → World → Prop) (H' : List SObj) (b : Bool) (g : Gh) (w w' : World) : Prop :=
  ∃ g', RH g' w' H' ∧ CC b g' w' ∧ FrL l g w g' w' ∧ ∀ o, sharedO o = false → o ≠ .out → Keep o g w g' w'
def SBL (P : Program) (l : Nat) (CC : Bool → Gh → World → Prop) (f : FuncId) (args : List SV) (H H' : List SObj) (b : Bool) (rv : Value → Prop) : Prop :=
  ∀ (w : World) (g : Gh) (vs : Array Value), CC true g w → RArgs g w vs args → RH g w H → Calls P f vs w fun e w' => ∃ v g', e = .returned v ∧ rv v ∧ RH g' w' H' ∧ CC b g' w' ∧ FrL l g w g' w'
def YBL (P : Program) (l : Nat) (CC : Bool → Gh → World → Prop) (args : List SV) (H H' : List SObj) (b : Bool) : Prop :=
  ∀ (w : World) (g : Gh) (vs : Array Value), CC true g w → RArgs g w vs args → RH g w H → ∃ fn tmps assign body, (Instr.yield l vs).run P w = .ok (.round l fn tmps assign body) w ∧
    ∀ n, RoundIn Fence.wide n P l fn tmps assign body w fun e w' => e = .returned (.bool b) ∧ PostL l CC H' b g w w'
theorem YBL.more {P : Program} {args : List SV} {H H' : List SObj} (h : YBL P l (CL l R jc ds []) args H H' b) : YBL P l (CL l R jc ds Dn) args H H' b := fun w g vs hC hA hH => by
  obtain ⟨fn, tmps, assign, body, h1, h2⟩ := h w g vs (hC.less (by simp)) hA hH
  refine ⟨fn, tmps, assign, body, h1, fun n => (h2 n).mono fun e w' hh => ?_⟩
  obtain ⟨he, g', k1, k2, k3, k4⟩ := hh
  exact ⟨he, g', k1, k2.more (Dn' := Dn) hC k3, k3, k4⟩
theorem callL_post {g3 : Gh} {w3 : World} {H' : List SObj} {b0 : Obj} (hf : FrL l (g.ren (calleeOw [] [])) w g3 w3) (hH : RH g3 w3 H') (hl : g.ow l = .out) (hb0 : w.heap[l]? = some b0) (hl3 : g3.ow l = .out) :
    ∃ G : Gh, G.ow l = .out ∧ FrL l g w G w3 ∧ RH G w3 H' ∧ ∀ o, sharedO o = false → o ≠ .out → Keep o g w G w3 := by
  have hlt : l < w.heap.size := (Array.getElem?_eq_some_iff.1 hb0).1
  have hlt3 : l < w3.heap.size := Nat.lt_of_lt_of_le hlt hf.size
  have hoth : ∀ {k : Nat}, k ≠ l → (w3.putObj l b0).heap[k]? = w3.heap[k]? := fun hk => putObj_other hk
  have hsame : (w3.putObj l b0).heap[l]? = some b0 := World.putObj_heap_same hlt3
  have hf2 : Fr false (g.ren (calleeOw [] [])) w g3 (w3.putObj l b0) := by
    refine ⟨?_, fun k b h1 h2 => ?_, fun k b h1 h2 => ?_, hf.rho, nofun, nofun, nofun, hf.os⟩
    · have := hf.size
      simpa [World.putObj] using this
    · obtain ⟨x, y⟩ := hf.free k b h1 h2
      exact ⟨x, by rw [hoth (fun e => by subst e; rw [hl3] at x; cases x)]; exact y⟩
    · by_cases hk : k = l
      · subst hk
        rw [hb0] at h2
        cases h2
        exact ⟨hl3, hsame⟩
      · obtain ⟨x, y⟩ := hf.out k b hk h1 h2
        exact ⟨x, by rw [hoth hk]; exact y⟩
  have hH2 : RH g3 (w3.putObj l b0) H' := hH.keep (fun o ho k b h1 h2 => ⟨h1, by
    rw [hoth (fun e => by subst e; rw [hl3] at h1; subst h1; exact ho)]; exact h2⟩) (fun _ _ h => h) rfl
  obtain ⟨p1, p2⟩ := callH_post 0 hf2 hH2
  have hG := (p1.out l _ hl hb0).1
  refine ⟨_, hG, ⟨hf.size, fun k b h1 h2 => ?_, fun k b hk h1 h2 => ?_, p1.rho, hf.os⟩, ?_, fun o ho hne k b h1 h2 => ?_⟩
  · obtain ⟨x, y⟩ := p1.free k b h1 h2
    exact ⟨x, by rw [← hoth (fun e => by subst e; rw [hG] at x; cases x)]; exact y⟩
  · obtain ⟨x, y⟩ := p1.out k b h1 h2
    exact ⟨x, by rw [← hoth hk]; exact y⟩
  · exact p2.keep (fun o ho k b h1 h2 => ⟨h1, by
      rw [← hoth (fun e => by subst e; rw [hG] at h1; subst h1; exact ho)]; exact h2⟩) (fun _ _ h => h) rfl
  · obtain ⟨x, y⟩ := keepH (t := 0) hf2 ho k b h1 h2
    exact ⟨x, by rw [← hoth (fun e => by subst e; rw [hl] at h1; exact hne h1.symm)]; exact y⟩
theorem SBL.call {P : Program} {f : FuncId} {args : List SV} {H H' : List SObj} {rv : Value → Prop} (h : SBL P l (CL l R jc ds Dn) f args H H' b rv) (hC : CL l R jc ds Dn true g w) {vs : Array Value}
    (hA : RArgs (g.ren (calleeOw [] [])) w vs args) (hH : RH (g.ren (calleeOw [] [])) w H) : Calls P f vs w fun e w' => ∃ v, e = .returned v ∧ rv v ∧ PostL l (CL l R jc ds Dn) H' b g w w' := by
  refine (h w _ vs hC.ren hA hH).mono fun e w' hh => ?_
  obtain ⟨v, g3, rfl, hv, hH3, hC3, hf⟩ := hh
  obtain ⟨G, k1, k2, k3, k4⟩ := callL_post hf hH3 hC.2.1 hC.1 hC3.2.1
  exact ⟨v, rfl, hv, G, k3, hC.of_frL k2 hC3.1 k1, k2, k4⟩
theorem Rel.afterL {st : St} {a : Act} {H' : List SObj} {r : SV} {v : Value} {d : Option Tmp} (hr : Rel st a w g) (hn : st.tmps.all noHl = true) (hH : RH g' w' H') (hf : FrL l g w g' w')
    (hkp : ∀ o, sharedO o = false → o ≠ .out → Keep o g w g' w') (hv : r = .tup [] ∧ v = .tuple #[] ∨ ∃ c, r = .d (.bool c) ∧ v = .bool c) : Rel ⟨(st.put d r).tmps, H'⟩ (a.put d v) w' g' := by
  refine Rel.step hr (by rw [put_size]; simp only [St.put_len]; exact hr.len) (by rw [put_defers]; exact hr.def0) hf.rho (fun t s hs => ?_) hH
  by_cases hdt : d = some t
  · simp only at hs
    rw [hdt] at hs ⊢
    obtain ⟨rfl, hlt⟩ := St.put_get_same hs
    refine .inr (.inl ?_)
    rw [valOf_put_same (by rw [hr.len]; exact hlt)]
    rcases hv with ⟨rfl, rfl⟩ | ⟨c, rfl, rfl⟩
    · exact ⟨#[], rfl, rfl, fun j s hj => by simp at hj⟩
    · exact .bool
  · simp only at hs
    have hput : s = .undef ∨ (st.tmps[t]? = some s ∧ ∀ t0 old, d = some t0 → st.tmps[t0]? = some old → heavy old = true → mention t0 s = false) := by
      cases hdst : d with
      | none => rw [hdst] at hs; exact .inr ⟨hs, by simp⟩
      | some t0 =>
        rw [hdst] at hs hdt
        rcases St.put_get (fun e => hdt (by rw [e])) hs with h | ⟨h1, h2⟩
        · exact .inl h
        · exact .inr ⟨h1, fun t1 old e => by cases e; exact h2 old⟩
    rcases hput with rfl | ⟨hs3, hs2⟩
    · exact .inl rfl
    · have hnh : noHl s = true := List.all_eq_true.1 hn s (List.mem_iff_getElem?.2 ⟨t, hs3⟩)
      refine .inr (.inr ⟨hs3, valOf_put hdt, fun o' ho' => ?_, fun s0 e => ?_⟩)
      · have hne : o' ≠ .out := fun e => by subst e; exact uses_out ho'
        refine hkp o' ?_ hne
        cases o' with
        | obj i => exact absurd ho' uses_obj
        | lst l =>
          cases l with
          | hcell i j => exact absurd ho' (uses_hcell hnh)
          | _ => rfl
        | _ => rfl
      · obtain ⟨x0, hx0, hb0⟩ := dep_big (hr.tmp t _ hs3) e
        have hd0 : d ≠ some s0 := fun e2 => by
          have := hs2 s0 _ e2 hx0 (bigK_heavy hb0)
          rw [dep_mention e] at this
          cases this
        exact ⟨valOf_put hd0, fun x hx hb => ⟨x, St.put_big hx hb hd0, rfl⟩⟩
end
end Go.Sh
namespace Go.Sh
section
variable {P : Program} {l : Nat} {C : Bool → Gh → World → Prop} {b : Bool} {st : St} {Q : Bool → Exit → St → Prop}
def SWL (P : Program) (l : Nat) (C : Bool → Gh → World → Prop) (b : Bool) (c : Code) (st : St) (Q : Bool → Exit → St → Prop) : Prop :=
  ∀ a w g, Rel st a w g → C b g w → c.wp P (fun e a' w' => ∃ b' st' g', Q b' e st' ∧ Rel st' a' w' g' ∧ C b' g' w' ∧ FrL l g w g' w') a w
def thenL (N : Bool → St → Prop) (Q : Bool → Exit → St → Prop) : Bool → Exit → St → Prop := fun b e s => match e with
  | .normal => N b s
  | e => Q b e s
def blockL (id : Nat) (Q : Bool → Exit → St → Prop) : Bool → Exit → St → Prop := fun b e s => match e with
  | .exit id' => if id' = id then Q b .normal s else Q b (.exit id') s
  | e => Q b e s
theorem SWL.of (hC : ∀ b, CFr (C b)) {c : Code} (h : SW P false c st (Q b)) : SWL P l C b c st Q := fun a w g hr hc =>
  Code.wp_mono (fun e a' w' ⟨st', g', q, r, f⟩ => ⟨b, st', g', q, r, hC b _ _ _ _ hc f, FrL.of f⟩) (h a w g hr)
theorem SWL.seq {x y : Code} (h : SWL P l C b x st (thenL (fun b' s => SWL P l C b' y s Q) Q)) : SWL P l C b (.seq x y) st Q := by
  intro a w g hr hc
  refine wp_seq (Code.wp_mono (fun e a' w' hh => ?_) (h a w g hr hc))
  obtain ⟨b', st', g', q, r, c', f⟩ := hh
  cases e with
  | normal =>
    refine Code.wp_mono (fun e2 a2 w2 hh2 => ?_) (q a' w' g' r c')
    obtain ⟨b2, st2, g2, q2, r2, c2, f2⟩ := hh2
    exact ⟨b2, st2, g2, q2, r2, c2, f.trans f2⟩
  | _ => exact ⟨b', st', g', q, r, c', f⟩
theorem SWL.kp {c : Code} (n : Nat) (H : List SObj) (L : List Nat) (ll : List (Nat × SV)) (hst : pickR n L st = some (ll, H)) (h : SWL P l C b c (sp n ll H) Q) : SWL P l C b c st Q :=
  fun a w g hr hc => h a w g (hr.keepR (keepR_of_pick hst)) hc
theorem SWL.block {id : Nat} {c : Code} (h : SWL P l C b c st (blockL id Q)) : SWL P l C b (.block id c) st Q := by
  intro a w g hr hc
  refine wp_block (Code.wp_mono (fun e a' w' hh => ?_) (h a w g hr hc))
  obtain ⟨b', st', g', q, r, c', f⟩ := hh
  cases e with
  | exit id' =>
    simp only [blockL] at q
    simp only [Exit.inBlock]
    split at q
    · rename_i hi; rw [if_pos hi]; exact ⟨b', st', g', q, r, c', f⟩
    · rename_i hi; rw [if_neg hi]; exact ⟨b', st', g', q, r, c', f⟩
  | _ => exact ⟨b', st', g', q, r, c', f⟩
theorem SWL.cond {c : Operand} {x y : Code} {v : Bool} (hc : valD st c = some (.bool v)) (h : SWL P l C b (cond v x y) st Q) : SWL P l C b (.cond c x y) st Q := by
  cases v
  · exact fun a w g hr hC => wp_cond (valD_leaf hr hc rfl) (by simpa using h a w g hr hC)
  · exact fun a w g hr hC => wp_cond (valD_leaf hr hc rfl) (by simpa using h a w g hr hC)
theorem SWL.itH {γ β : Type} {c : Code} (n : Nat) (L : List Nat) {body : γ → Option (γ ⊕ β)} (sl : γ → List (Nat × SV)) (Hf : γ → Hp) (E : β → Bool → Exit → St → Prop) {fuel : Nat} {x : γ} {q : β} (hit : Sh.iter body fuel x = some q) (h0 : pickR n L st = some (sl x, Hf x))
    (round : ∀ x o, body x = some o → SWL P l C true c (sp n (sl x) (Hf x)) (thenL (fun b' s' => b' = true ∧ ∃ y, o = .inl y ∧ pickR n L s' = some (sl y, Hf y)) (fun b' e s' => ∃ q, o = .inr q ∧ E q b' e s')))
    (after : ∀ b' e s', E q b' e s' → Q b' e s') : SWL P l C true (.loop c) st Q := by
  refine SWL.kp n _ L _ h0 ?_
  intro a w g hr hc
  refine wp_loop_fuel (γ := γ) body (fun x a' w' => ∃ g', Rel (sp n (sl x) (Hf x)) a' w' g' ∧ C true g' w' ∧ FrL l g w g' w') q (fun x a1 w1 ⟨g1, r1, c1, f1⟩ o ho => ?_) fuel x a w ⟨g, hr, hc, FrL.refl _ _ _⟩ hit
  refine Code.wp_mono (fun e a' w' hh => ?_) (round x o ho a1 w1 g1 r1 c1)
  obtain ⟨b', st', g', qq, r, c', f⟩ := hh
  cases e with
  | normal => obtain ⟨rfl, y, rfl, h1⟩ := qq; exact ⟨y, rfl, g', r.keepR (keepR_of_pick h1), c', f1.trans f⟩
  | _ => obtain ⟨q', rfl, h1⟩ := qq; exact ⟨q', rfl, fun e => ⟨b', st', g', after _ _ _ (e ▸ h1), r, c', f1.trans f⟩⟩
variable {ops : Array Oper} {d m i : Nat} {K : Bool → St → Prop}
def OL (P : Program) (l : Nat) (C : Bool → Gh → World → Prop) (ops : Array Oper) (d m : Nat) (b : Bool) (st : St) (K : Bool → St → Prop) : Prop :=
  ∀ a w g, Rel st a w g → C b g w → ∀ R : Act → World → Prop, (∀ b' st' a' w' g', K b' st' → Rel st' a' w' g' → C b' g' w' → FrL l g w g' w' → R a' w') →
    wpAnyIn Fence.wide 0 P .any ops (NX R) d (lstM ops.size m) a w
def OneL (P : Program) (l : Nat) (C : Bool → Gh → World → Prop) (ops : Array Oper) (i : Nat) (b : Bool) (st : St) (K : Bool → St → Prop) : Prop :=
  ∀ a w g, Rel st a w g → C b g w → ∀ (N R : Act → World → Prop), (∀ b' st' a' w' g', K b' st' → Rel st' a' w' g' → C b' g' w' → FrL l g w g' w' → N a' w') → wpOpIn Fence.wide 0 P ops (NX R) i N a w
theorem OL.fin (h : Region.ready .any ops (lstM ops.size m) = []) (hk : K b st) : OL P l C ops 0 m b st K := fun a w g hr hc R hR =>
  ⟨h, rfl, hR b st a w g hk hr hc (FrL.refl _ _ _)⟩
theorem OL.kp (n : Nat) (H : List SObj) (L : List Nat) (ll : List (Nat × SV)) (hst : pickR n L st = some (ll, H)) (h : OL P l C ops d m b (sp n ll H) K) : OL P l C ops d m b st K :=
  fun a w g hr hc => h a w g (hr.keepR (keepR_of_pick hst)) hc
theorem OL.step {i0 : Nat} {is : List Nat} (h : Region.ready .any ops (lstM ops.size m) = i0 :: is)
    (hs : AllI (i0 :: is) (fun i => OneL P l C ops i b st (fun b' s => OL P l C ops d (m ||| 2 ^ i) b' s K))) : OL P l C ops (d + 1) m b st K := by
  intro a w g hr hc R hR
  refine wpAnyIn_all h (List.cons_ne_nil _ _) fun i hi => ?_
  refine AllI_mem hs i hi a w g hr hc _ R fun b1 st1 a1 w1 g1 q1 r1 c1 f1 => ?_
  rw [lstM_set]
  exact q1 a1 w1 g1 r1 c1 R fun b2 st2 a2 w2 g2 q2 r2 c2 f2 => hR b2 st2 a2 w2 g2 q2 r2 c2 (f1.trans f2)
def oneU (ops : Array Oper) (i : Nat) : Array Oper := match ops[i]? with
  | some o => #[{ o with guard := none }]
  | none => #[]
theorem OneL.of (hC : ∀ b, CFr (C b)) {o : Oper} (ho : opAt ops i st = some o) (hd : noDefer (oneU ops i).toList = true) (h : OWk P false (oneU ops i) 0 st (K b)) : OneL P l C ops i b st K := by
  obtain ⟨h1, h2⟩ := opAt_inv ho
  intro a w g hr hc N R hN
  have key := wpListIn_OWk (n := 0) (Qc := NX N) hd h hr fun st' a' w' g' q r f => ⟨rfl, hN b st' a' w' g' q r (hC b _ _ _ _ hc f) (FrL.of f)⟩
  rw [List.drop_zero] at key
  unfold wpOpIn
  rw [h1]
  simp only [wantS_sound hr h2, if_true]
  simp only [oneU, h1, List.toList_toArray] at key
  unfold wpListIn at key
  have hw : Region.wanted { o with guard := none } (yielded #[{ o with guard := none }] a.tmps) = true := by unfold Region.wanted; rfl
  rw [if_pos hw] at key
  refine ⟨fun f _ => trivial, ?_⟩
  have k2 := key.2
  have e : (({ o with guard := none } : Oper).semAt Fence.wide.round a.eval) = o.semAt Fence.wide.round a.eval := rfl
  rw [e] at k2
  generalize (o.semAt Fence.wide.round a.eval).run P w = r at *
  have nil : ∀ {a' w'}, wpListIn Fence.wide 0 P #[{ o with guard := none }] (NX N) [] a' w' → N a' w' := fun h => by
    unfold wpListIn at h; exact h.2
  cases r with
  | ok x w' =>
    cases x <;> simp only [Oper.uponIn] at k2 ⊢ <;> first
      | exact nil k2
      | exact k2.elim
      | exact ⟨k2.1, CallsIn.mono k2.2 (fun e w'' he => by cases e <;> first | exact nil he | cases he.1 | exact absurd he NX.out)⟩
      | exact ⟨k2.1, RowsIn.mono k2.2 (fun _ _ he => nil he)⟩
      | exact ⟨k2.1, RoundIn.mono k2.2 (fun e w'' he => by cases e <;> first | exact nil he | cases he.1 | exact absurd he NX.out)⟩
  | halt x w' => cases x <;> simp only [Oper.uponIn] at k2 ⊢ <;> first | exact k2.elim | cases k2.1 | exact k2
theorem OneL.skip {o : Oper} (ho : ops[i]? = some o) (hw : wantS ops st o = some false) (hk : K b (st.put o.dst (.tup []))) : OneL P l C ops i b st K := by
  intro a w g hr hc N R hN
  unfold wpOpIn
  rw [ho]
  simp only [wantS_sound hr hw, Bool.false_eq_true, if_false]
  exact ⟨fun f _ => trivial, hN b _ _ w g hk (hr.putLight o.dst (v := undef) ⟨#[], rfl, rfl, by simp⟩) hc (FrL.refl _ _ _)⟩
end
end Go.Sh
namespace Go.Sh
section
variable {P : Program} {l : Nat} {C : Bool → Gh → World → Prop} {b : Bool} {st : St} {Q : Bool → Exit → St → Prop} {ops : Array Oper} {d m i : Nat} {K : Bool → St → Prop}
def blindAtB (P : Program) (ops : Array Oper) (i : Nat) (st : St) : Bool := match ops[i]? with
  | some o => blindB P o || (match o.op with
    | .nilCheck x => (match valD st x with
      | some (.ptr _ _) => true
      | some (.dptr _) => true
      | _ => false)
    | _ => false)
  | none => false
theorem blindAtB_spec {o : Oper} {a : Act} {w w1 : World} {g : Gh} {v : Value} (ho : ops[i]? = some o) (h : blindAtB P ops i st = true) (hr : Rel st a w g) (h1 : (execOp a.eval o).run P w = .ok (.value v) w1) :
    (∀ w2, (execOp a.eval o).run P w2 = .ok (.value v) w2) ∧ (∀ w, o.about P w a.eval = none) := by
  unfold blindAtB at h
  rw [ho] at h
  simp only [Bool.or_eq_true] at h
  rcases h with h | h
  · refine ⟨(blindB_spec h _ w _ w1 h1).2, fun w => ?_⟩
    unfold Oper.about
    unfold blindB at h
    split at h <;> rename_i hop <;> first | (rw [hop]) | cases h
  · split at h
    · rename_i x hop
      refine ⟨fun w2 => ?_, fun w => by unfold Oper.about; rw [hop]⟩
      have key : ∃ q, a.eval x = .pointer (some q) := by
        split at h
        · rename_i hx
          have := valD_d hr hx
          generalize a.eval x = u at this
          cases this; exact ⟨_, rfl⟩
        · rename_i hx
          have := valD_d hr hx
          generalize a.eval x = u at this
          cases this; exact ⟨_, rfl⟩
        · cases h
      obtain ⟨q, hq⟩ := key
      have e : ∀ w, (execOp a.eval o).run P w = .ok (.value (.pointer (some q))) w := fun w => by
        unfold execOp
        rw [hop]
        simp only [hq, Sem.run_pure]
      rw [e] at h1
      cases h1
      exact e w2
    · cases h
theorem NX.no {R : Act → World → Prop} {c : List PanicEntry} {a : Act} {w : World} {X : Prop} (h : NX R (.panic c) a w) : X := by cases h.1
theorem OL.first {dd : Option Tmp} {s : SV} (i : Nat) (hc : (Region.noSelect ops && Region.free .any ops (lstM ops.size m) i && (Region.ready .any ops (lstM ops.size m)).contains i && blindAtB P ops i st) = true) (hb : BAt P ops i st dd s)
    (h : OL P l C ops d (m ||| 2 ^ i) b (st.put dd s) K) : OL P l C ops (d + 1) m b st K := by
  simp only [Bool.and_eq_true] at hc
  obtain ⟨⟨⟨c1, c2⟩, c3⟩, c4⟩ := hc
  obtain ⟨o, h1, h2, h3, h4, rfl⟩ := hb
  intro a w g hr hC R hR
  obtain ⟨v, e1, e2⟩ := h3 a w g hr
  obtain ⟨k1, k2⟩ := blindAtB_spec h1 c4 hr (e2 w (Up.refl w))
  refine wpAnyIn_take (i := i) (v := v) rfl h1 c1 c2 c3 (fun c a w hh => NX.no hh) ⟨.inl ⟨wantS_sound hr h2, k1⟩, k2⟩ ?_
  rw [lstM_set]
  exact h _ w g (hr.putBV e1 h4) hC R hR
def noCallB (o : Oper) : Bool := match o.op with
  | .call _ => false
  | _ => true
theorem OL.firstS {o : Oper} (i : Nat) (ho : ops[i]? = some o) (hw : wantS ops st o = some false) (hc : (Region.noSelect ops && Region.free .any ops (lstM ops.size m) i && (Region.ready .any ops (lstM ops.size m)).contains i && noCallB o) = true)
    (h : OL P l C ops d (m ||| 2 ^ i) b (st.put o.dst (.tup [])) K) : OL P l C ops (d + 1) m b st K := by
  simp only [Bool.and_eq_true] at hc
  obtain ⟨⟨⟨c1, c2⟩, c3⟩, c4⟩ := hc
  intro a w g hr hC R hR
  refine wpAnyIn_take (i := i) (v := undef) rfl ho c1 c2 c3 (fun c a w hh => NX.no hh) ⟨.inr ⟨wantS_sound hr hw, rfl⟩, fun w => ?_⟩ ?_
  · unfold Oper.about
    unfold noCallB at c4
    split at c4
    · cases c4
    · rename_i hne
      split
      · rename_i c hop; exact absurd hop (hne c)
      · rfl
  · rw [lstM_set]
    exact h _ w g (hr.putLight o.dst (v := undef) ⟨#[], rfl, rfl, by simp⟩) hC R hR
theorem SWL.regionA {id : Nat} {ll : List Oper} (hm : P.follows .mixedOrders = true) (hC : ∀ b, CFr (C b)) (h : OL P l C ll.toArray ll.length 0 b st (fun b' s => Q b' .normal s)) : SWL P l C b (.region id ll.toArray true) st Q := by
  intro a w g hr hc
  refine (wpIn_wide (n := 0)).1 ?_
  refine Code.wpIn_mono (Q := NX fun a' w' => ∃ b' st' g', Q b' .normal st' ∧ Rel st' a' w' g' ∧ C b' g' w' ∧ FrL l g w g' w') (fun e a' w' hh => by obtain ⟨rfl, hh⟩ := hh; exact hh) ?_
  refine wpIn_region_any hm ?_
  have := h a w.drew g hr.drew (hC b _ _ _ _ hc (Fr.drew (pu := false))) (fun a' w' => ∃ b' st' g', Q b' .normal st' ∧ Rel st' a' w' g' ∧ C b' g' w' ∧ FrL l g w g' w')
    (fun b' st' a' w' g' q r c f => ⟨b', st', g', q, r, c, (FrL.of (Fr.drew (pu := false))).trans f⟩)
  rw [lstM_zero] at this
  simpa using this
theorem OneL.call {R : Loop} {jc : Code} {ds Dn : List (Nat × D)} {f : FuncId} {args : List SV} {dd : Option Tmp} {b' : Bool} {H' : List SObj} (n : Nat) (L : List Nat) (ll : List (Nat × SV))
    (hp : SBL P l (CL l R jc ds Dn) f args st.H H' b' (fun v => v = .bool b')) (h : callAt P ops i st [] = some (dd, f, args, [], [])) (hn : st.tmps.all noHl = true)
    (hst : pickR n L ⟨(st.put dd (vB b')).tmps, H'⟩ = some (ll, H')) (hk : K b' (sp n ll H')) : OneL P l (CL l R jc ds Dn) ops i true st K := by
  unfold callAt at h
  split at h
  · rename_i o ho
    split at h
    · rename_i c hop
      split at h
      · rename_i cs hcs
        simp only [Option.some.injEq, Prod.mk.injEq] at h
        obtain ⟨rfl, rfl, rfl, e1, e2⟩ := h
        obtain ⟨h1, h2⟩ := opAt_inv ho
        obtain ⟨f0, a0, l0, g0⟩ := cs
        cases e1; cases e2
        intro a w g hr hc N R' hN
        obtain ⟨vs, k1, k2, k3⟩ := callH_pre hr hop hcs
        unfold wpOpIn
        rw [h1]
        simp only [wantS_sound hr h2, if_true]
        refine ⟨fun f _ => trivial, ?_⟩
        show Oper.uponIn _ _ _ _ _ _ _ ((execOp a.eval o).run P w)
        rw [k1]
        simp only [Oper.uponIn]
        refine ⟨(fun h => nomatch h), callsIn_wide.2 ((hp.call hc k2 k3).mono fun e w' hh => ?_)⟩
        obtain ⟨v, rfl, rfl, g', q1, q2, q3, q4⟩ := hh
        exact hN b' _ _ w' g' hk ((Rel.afterL hr hn q1 q3 q4 (.inr ⟨b', rfl, rfl⟩)).keepR (keepR_of_pick hst)) q2 q3
      · cases h
    · cases h
  · cases h
theorem OneL.yield {CC : Bool → Gh → World → Prop} {dd : Option Tmp} {y : D} {b' : Bool} {H' : List SObj} (n : Nat) (L : List Nat) (ll : List (Nat × SV)) (h : yAt P ops i st = some (dd, l, y))
    (hy : YBL P l CC [.d y] st.H H' b') (hn : st.tmps.all noHl = true)
    (hst : pickR n L ⟨(st.put dd (vB b')).tmps, H'⟩ = some (ll, H')) (hk : K b' (sp n ll H')) : OneL P l CC ops i true st K := by
  unfold yAt at h
  split at h
  · rename_i o ho
    split at h
    · rename_i c hop
      split at h
      · rename_i fo x hcal hargs
        split at h
        · rename_i l' y' hfo hx
          simp only [Option.some.injEq, Prod.mk.injEq] at h
          obtain ⟨rfl, rfl, rfl⟩ := h
          obtain ⟨h1, h2⟩ := opAt_inv ho
          intro a w g hr hc N R' hN
          have hrf := valD_d hr hfo
          have hrx := valD_d hr hx
          have hev : a.eval fo = .func (.yield l') #[] #[] := by
            generalize a.eval fo = v at hrf
            cases hrf with
            | fn hl1 hl2 us1 us2 hc1 hr1 hc2 hr2 =>
              rename_i v1 v2
              have e1 : v1 = #[] := Array.eq_empty_of_size_eq_zero (by simpa using hl1)
              have e2 : v2 = #[] := Array.eq_empty_of_size_eq_zero (by simpa using hl2)
              rw [e1, e2]
          have hca : c.args = #[x] := by
            apply Array.ext'
            simpa using hargs
          obtain ⟨fn, tmps, assign, body, e1, e2⟩ := hy w g #[a.eval x] hc ⟨rfl, fun j s hj => by
            cases j with
            | zero => simp only [List.getElem?_cons_zero, Option.some.injEq] at hj; subst hj; exact ⟨_, rfl, hrx⟩
            | succ j => simp at hj⟩ hr.hp
          have hex : (o.semAt Fence.wide.round a.eval).run P w = .ok (.round l' fn tmps assign body) w := by
            show (execOp a.eval o).run P w = _
            unfold execOp
            rw [hop]
            simp only [resolve, hcal, hca, Deferred.ofValue, hev, Sem.run_bind, Sem.run_pure, Result.andThen_ok, invoke, List.map_toArray, List.map_cons, List.map_nil]
            exact e1
          unfold wpOpIn
          rw [h1]
          simp only [wantS_sound hr h2, if_true]
          refine ⟨fun f _ => trivial, ?_⟩
          rw [hex, Oper.uponIn_round]
          refine ⟨(fun h => nomatch h), (e2 _).mono fun e w' hh => ?_⟩
          obtain ⟨rfl, g', q1, q2, q3, q4⟩ := hh
          exact hN b' _ _ w' g' hk ((Rel.afterL hr hn q1 q3 q4 (.inr ⟨b', rfl, rfl⟩)).keepR (keepR_of_pick hst)) q2 q3
        · cases h
      · cases h
    · cases h
  · cases h
def dnAt (P : Program) (ops : Array Oper) (k : Nat) (st : St) : Option (Option Tmp × Nat) :=
  match opAt ops k st with
  | some o => match o.op with
    | .load T x => match valD st x with
      | some (.ptr i 0) => if (!(P.underlying T).isNone && !isAggT P T) = true then some (o.dst, i) else none
      | _ => none
    | _ => none
  | none => none
theorem OneL.down {R : Loop} {jc : Code} {ds Dn : List (Nat × D)} {dd : Option Tmp} {j : Nat} {y : D} (h : dnAt P ops i st = some (dd, j)) (hd : (j, y) ∈ Dn) (hk : K b (st.put dd (.d y))) : OneL P l (CL l R jc ds Dn) ops i b st K := by
  unfold dnAt at h
  split at h
  · rename_i o ho
    split at h
    · rename_i T x hop
      split at h
      · rename_i i' hx
        split at h
        · rename_i hT
          cases h
          simp only [Bool.and_eq_true, Bool.not_eq_true'] at hT
          obtain ⟨h1, h2⟩ := opAt_inv ho
          intro a w g hr hc N R' hN
          obtain ⟨k, c, T0, fz, v, e1, e2, e3, e4, e5, e6, e7⟩ := hc.2.2.2 _ _ hd
          have hrx := valD_d hr hx
          have hev : a.eval x = .pointer (some ⟨k, 0, none⟩) := by
            generalize a.eval x = u at hrx
            cases hrx with
            | ptr hh => rw [e1] at hh; cases hh; rfl
          unfold wpOpIn
          rw [h1]
          simp only [wantS_sound hr h2, if_true]
          refine ⟨fun f _ => trivial, ?_⟩
          have hex : (execOp a.eval o).run P w = .ok (.value v) w := by
            unfold execOp
            rw [hop]
            simp only [Instr.loadAt, hev, Instr.sureAddr, Sem.run_bind, Sem.run_pure, Result.andThen_ok, run_loadVar_one hT.1 hT.2 e4 e5]
          show Oper.uponIn _ _ _ _ _ _ _ ((execOp a.eval o).run P w)
          rw [hex]
          simp only [Oper.uponIn]
          exact hN b _ _ w g hk (hr.putLight o.dst e7) hc (FrL.refl _ _ _)
        · cases h
      · cases h
    · cases h
  · cases h
theorem SBL.of_SWL {f : FuncId} {fn : Func} {c : Code} {args : List SV} {H H' : List SObj} {b' : Bool} {t : Nat} (hf : P.funcs[f]? = some fn) (hb : fn.body = some c) (hr : fn.results = #[.tmp t])
    (h : SWL P l C true c (initSt fn.ntmps args H) (fun b1 e s => b1 = b' ∧ (e = .normal ∨ e = .ret) ∧ s.H = H' ∧ s.tmps[t]? = some (vB b'))) : SBL P l C f args H H' b' (fun v => v = .bool b') := by
  intro w g vs hC ha hH
  refine calls_of_wp hf hb (Code.wp_mono (fun e a' w' hh => ?_) (h _ _ g (Rel.init ha hH fn.ntmps) hC))
  obtain ⟨b1, st', g', ⟨rfl, he, hH', hv⟩, r, c1, f1⟩ := hh
  have hrd : Rd g' w' (valOf a' t) (.bool b1) := r.tmp t _ hv
  have hval : valOf a' t = .bool b1 := by generalize valOf a' t = u at hrd; cases hrd; rfl
  have hres : (results fn a'.tmps).run P w' = .ok (.bool b1) w' := by
    have := results_run (P := P) (fn := fn) (tm := a'.tmps) (w := w') (vs := [.bool b1]) (by simp [hr]) (fun j rv hj => by
      rw [hr] at hj
      cases j with
      | zero =>
        simp only [List.getElem?_toArray, List.getElem?_cons_zero, Option.some.injEq] at hj
        subst hj
        exact ⟨_, rfl, by simp only [resSem]; exact congrArg (fun v => Result.ok v w') hval⟩
      | succ j => simp at hj)
    simpa using this
  rcases he with rfl | rfl
  · exact ⟨r.def0, _, hres, _, g', rfl, rfl, by rw [← hH']; exact r.hp, c1, f1⟩
  · exact ⟨r.def0, _, hres, _, g', rfl, rfl, by rw [← hH']; exact r.hp, c1, f1⟩
theorem SBL.of_SWL0 {f : FuncId} {fn : Func} {c : Code} {args : List SV} {H H' : List SObj} {b' : Bool} (hf : P.funcs[f]? = some fn) (hb : fn.body = some c) (hr : fn.results = #[])
    (h : SWL P l C true c (initSt fn.ntmps args H) (fun b1 e s => b1 = b' ∧ (e = .normal ∨ e = .ret) ∧ s.H = H')) : SBL P l C f args H H' b' (fun v => True) := by
  intro w g vs hC ha hH
  refine calls_of_wp hf hb (Code.wp_mono (fun e a' w' hh => ?_) (h _ _ g (Rel.init ha hH fn.ntmps) hC))
  obtain ⟨b1, st', g', ⟨rfl, he, hH'⟩, r, c1, f1⟩ := hh
  have hres : (results fn a'.tmps).run P w' = .ok (.tuple #[]) w' := by
    have := results_run (P := P) (fn := fn) (tm := a'.tmps) (w := w') (vs := []) (by simp [hr]) (fun j rv hj => by simp [hr] at hj)
    simpa using this
  rcases he with rfl | rfl
  · exact ⟨r.def0, _, hres, _, g', rfl, trivial, by rw [← hH']; exact r.hp, c1, f1⟩
  · exact ⟨r.def0, _, hres, _, g', rfl, trivial, by rw [← hH']; exact r.hp, c1, f1⟩
end
end Go.Sh
namespace Go.Sh
section
variable {P : Program} {l : Nat} {C : Bool → Gh → World → Prop} {b : Bool} {st : St} {Q : Bool → Exit → St → Prop} {ops : Array Oper} {d m i k : Nat} {K : Bool → St → Prop}
def OLt (P : Program) (l : Nat) (C : Bool → Gh → World → Prop) (ops : Array Oper) (k : Nat) (b : Bool) (st : St) (K : Bool → St → Prop) : Prop :=
  ∀ a w g, Rel st a w g → C b g w → ∀ R : Act → World → Prop, (∀ b' st' a' w' g', K b' st' → Rel st' a' w' g' → C b' g' w' → FrL l g w g' w' → R a' w') →
    wpListIn Fence.wide 0 P ops (NX R) (ops.toList.drop k) a w
theorem OLt.fin (h : decide (ops.size ≤ k) = true) (hk : K b st) : OLt P l C ops k b st K := fun a w g hr hc R hR => by
  rw [List.drop_of_length_le (by simpa using of_decide_eq_true h)]
  exact wpListIn_nil ⟨rfl, hR b st a w g hk hr hc (FrL.refl _ _ _)⟩
theorem OLt.step (hk : (ops[k]?).isSome = true) (h : OneL P l C ops k b st (fun b' s => OLt P l C ops (k + 1) b' s K)) : OLt P l C ops k b st K := by
  obtain ⟨o, ho⟩ := Option.isSome_iff_exists.1 hk
  intro a w g hr hc R hR
  rw [drop_cons ho]
  have h1 := h a w g hr hc (wpListIn Fence.wide 0 P ops (NX R) (ops.toList.drop (k + 1))) R fun b1 st1 a1 w1 g1 q1 r1 c1 f1 =>
    q1 a1 w1 g1 r1 c1 R fun b2 st2 a2 w2 g2 q2 r2 c2 f2 => hR b2 st2 a2 w2 g2 q2 r2 c2 (f1.trans f2)
  unfold wpOpIn at h1
  rw [ho] at h1
  unfold wpListIn
  split
  · rename_i hw
    simp only [hw, if_true] at h1
    exact h1
  · rename_i hw
    simp only [hw, Bool.false_eq_true, if_false] at h1
    exact h1
theorem OLt.kp (n : Nat) (H : List SObj) (L : List Nat) (ll : List (Nat × SV)) (hst : pickR n L st = some (ll, H)) (h : OLt P l C ops k b (sp n ll H) K) : OLt P l C ops k b st K :=
  fun a w g hr hc => h a w g (hr.keepR (keepR_of_pick hst)) hc
theorem SWL.regionT {id : Nat} {ll : List Oper} (h : OLt P l C ll.toArray 0 b st (fun b' s => Q b' .normal s)) : SWL P l C b (.region id ll.toArray false) st Q := by
  intro a w g hr hc
  refine (wpIn_wide (n := 0)).1 ?_
  refine Code.wpIn_mono (Q := NX fun a' w' => ∃ b' st' g', Q b' .normal st' ∧ Rel st' a' w' g' ∧ C b' g' w' ∧ FrL l g w g' w') (fun e a' w' hh => by obtain ⟨rfl, hh⟩ := hh; exact hh) ?_
  refine wpIn_region_list ?_
  have := h a w g hr hc (fun a' w' => ∃ b' st' g', Q b' .normal st' ∧ Rel st' a' w' g' ∧ C b' g' w' ∧ FrL l g w g' w')
    (fun b' st' a' w' g' q r c f => ⟨b', st', g', q, r, c, f⟩)
  rw [List.drop_zero] at this
  exact this
theorem OWk.hstD {Q : St → Prop} {n : Nat} {H : Hp} {y : Sh.D} {i off : Nat} {H0 : Hp} (L : List Nat) (ll : List (Nat × SV)) (hx : hPut H0 i off y.cells = some H) (h : stHAt P ops k st = some (i, off, y, H0)) (hst : pickR n L (st.hp H) = some (ll, H))
    (hn : OWk P false ops (k + 1) (sp n ll H) Q) : OWk P false ops k st Q := by
  unfold stHAt at h
  split at h
  · rename_i o ho
    split at h
    · rename_i T x y hop
      split at h
      · rename_i i' off' d h1 h2
        split at h
        · rename_i hc
          simp only [Option.some.injEq, Prod.mk.injEq] at h
          obtain ⟨rfl, rfl, rfl, rfl⟩ := h
          obtain ⟨g1, g2⟩ := opAt_inv ho
          exact OWk.heap n H L ll g1 g2 (OpS.storeH hop hc.2.2 h1 h2 hc.1 hc.2.1 hx) hst hn
        · cases h
      · cases h
    · cases h
  · cases h
theorem Rel.hide {a : Act} {w : World} {g : Gh} {i : Nat} {y : D} (hr : Rel st a w g) (hi : st.H[i]? = some (.cells [.d y])) (hn : st.tmps.all noHl = true) (hl : g.ow l = .out) :
    ∃ g', Rel ⟨st.tmps, st.H.set i .hole⟩ a w g' ∧ Fr false g w g' w ∧ DnAt l i y g' w := by
  let rn : Own → Own := fun o => match o with
    | .obj j => if j = i then .out else .obj j
    | o => o
  have hk : ∀ o, (∀ j, o = .obj j → j ≠ i) → Keep o g w (g.ren rn) w := fun o h1 => Keep.ren (by
    cases o with
    | obj j => simp [rn, h1 j rfl]
    | _ => rfl)
  have hf : Keep .free g w (g.ren rn) w := hk _ (by simp)
  have hout : Keep .out g w (g.ren rn) w := hk _ (by simp)
  obtain ⟨k, c, T, f1, f2, f3, f4, f5⟩ := hr.hp.2 i _ hi
  refine ⟨g.ren rn, ?_, ⟨Nat.le_refl _, hf, hout, fun _ _ h => h, nofun, nofun, nofun, ⟨rfl, rfl⟩⟩, ?_⟩
  · refine Rel.step hr hr.len hr.def0 (fun _ _ h => h) (fun t' s hs => ?_) ⟨by simp [Gh.ren, hr.hp.1], fun i' o' hi' => ?_⟩
    · refine .inr (.inr ⟨hs, rfl, fun o' ho' => hk o' (fun j e2 => by subst e2; exact absurd ho' uses_obj), fun s0 e0 => ⟨rfl, fun x hx hb => ⟨x, hx, rfl⟩⟩⟩)
    · simp only at hi'
      by_cases e : i = i'
      · subst e
        rw [List.getElem?_set_self (get_lt hi)] at hi'
        cases hi'
        trivial
      · rw [List.getElem?_set_ne e] at hi'
        exact (hr.hp.2 i' o' hi').keepI hf (hk _ (fun j e2 => by cases e2; exact Ne.symm e)) (fun j => hk _ (by simp)) (fun _ _ h => h)
  · obtain ⟨u, u1, u2, u3⟩ := f5 0 _ rfl
    refine ⟨k, c, T, (0, 0), u, f1, (fun e => by subst e; rw [hl] at f2; cases f2), by simp [Gh.ren, f2, rn], f3, u1, u3, ?_⟩
    exact (show Rd g w u y from u2).keep hf (fun _ _ h => h)
theorem SWL.hide {R : Loop} {jc : Code} {ds Dn : List (Nat × D)} {c : Code} (i : Nat) (y : D) (n : Nat) (H : List SObj) (L : List Nat) (ll : List (Nat × SV)) (hi : st.H[i]? = some (.cells [.d y])) (hn : st.tmps.all noHl = true)
    (hst : pickR n L ⟨st.tmps, st.H.set i .hole⟩ = some (ll, H)) (h : SWL P l (CL l R jc ds ((i, y) :: Dn)) b c (sp n ll H) Q) : SWL P l (CL l R jc ds Dn) b c st Q := by
  intro a w g hr hc
  obtain ⟨g1, r1, f1, d1⟩ := hr.hide hi hn hc.2.1
  have hc1 := CL.fr _ _ _ _ hc f1
  have hc2 : CL l R jc ds ((i, y) :: Dn) b g1 w := ⟨hc1.1, hc1.2.1, hc1.2.2.1, fun j d hd => by
    rcases List.mem_cons.1 hd with e | hd
    · cases e; exact d1
    · exact hc1.2.2.2 j d hd⟩
  refine Code.wp_mono (fun e a' w' hh => ?_) (h a w g1 (r1.keepR (keepR_of_pick hst)) hc2)
  obtain ⟨b', st', g', q, r, c', f⟩ := hh
  exact ⟨b', st', g', q, r, c'.less (fun p hp => List.mem_cons_of_mem _ hp), (FrL.of f1).trans f⟩
theorem CRec.toCL {R : Loop} {jc : Code} {ds : List (Nat × D)} {g : Gh} {w : World} (h : CRec l R ds g w) : CL l R jc ds [] true g w := ⟨h.1, h.2.1, h.2.2, fun i d hd => by cases hd⟩
theorem CL.toCRec {R : Loop} {jc : Code} {ds Dn : List (Nat × D)} {g : Gh} {w : World} (h : CL l R jc ds Dn true g w) : CRec l R ds g w := ⟨h.1, h.2.1, h.2.2.1⟩
theorem YBL.of_YB {R : Loop} {jc : Code} {ds : List (Nat × D)} {args : List SV} {H H' : List SObj} (h : YB P (CRec l R ds) l args H H') : YBL P l (CL l R jc ds []) args H H' true := fun w g vs hC hA hH => by
  obtain ⟨fn, tmps, assign, body, h1, h2⟩ := h w g vs hC.toCRec hA hH
  refine ⟨fn, tmps, assign, body, h1, fun n => (h2 n).mono fun e w' hh => ?_⟩
  obtain ⟨he, g', k1, k2, k3⟩ := hh
  exact ⟨he, g', k1, (CRec.fr _ _ _ _ hC.toCRec k2).toCL, FrL.of k2, fun o ho _ => k3 o ho⟩
theorem SBC.of_SBL {R : Loop} {jc : Code} {ds : List (Nat × D)} {f : FuncId} {args : List SV} {H H' : List SObj} {rv : Value → Prop} (h : SBL P l (CL l R jc ds []) f args H H' true rv) : SBC P (CRec l R ds) f args H H' := fun w g vs hC hA hH => by
  refine (h w g vs hC.toCL hA hH).mono fun e w' hh => ?_
  obtain ⟨v, g', rfl, _, k1, k2, k3⟩ := hh
  refine ⟨v, g', rfl, k1, k3.size, k3.free, fun k o h1 h2 => ?_, k3.rho, nofun, nofun, nofun, k3.os⟩
  by_cases hk : k = l
  · subst hk
    have := hC.1
    rw [h2] at this
    cases this
    exact ⟨k2.2.1, k2.1⟩
  · exact k3.out k o hk h1 h2
theorem thenL_n {N : Bool → St → Prop} {Q : Bool → Exit → St → Prop} {b : Bool} {s : St} (h : N b s) : thenL N Q b .normal s := h
theorem blockL_n {id : Nat} {Q : Bool → Exit → St → Prop} {b : Bool} {s : St} (h : Q b .normal s) : blockL id Q b .normal s := h
theorem blockL_x {id : Nat} {Q : Bool → Exit → St → Prop} {b : Bool} {s : St} (h : Q b .normal s) : blockL id Q b (.exit id) s := by
  show (if id = id then _ else _)
  rw [if_pos rfl]
  exact h
def stepOL (P : Program) (ops : Array Oper) (m : Nat) (st : St) (i : Nat) : Option St := match ops[i]? with
  | none => none
  | some o => match wantS ops st o with
    | some true => match bop P st o with
      | some s => if locOk o.dst s && (Region.ready .any ops (lstM ops.size m) == [i] || (Region.noSelect ops && Region.free .any ops (lstM ops.size m) i && (Region.ready .any ops (lstM ops.size m)).contains i && blindAtB P ops i st)) then some (st.put o.dst s) else none
      | none => none
    | some false => if Region.ready .any ops (lstM ops.size m) == [i] || (Region.noSelect ops && Region.free .any ops (lstM ops.size m) i && (Region.ready .any ops (lstM ops.size m)).contains i && noCallB o) then some (st.put o.dst (.tup [])) else none
    | none => none
theorem OneL.bop {o : Oper} {s : SV} (h1 : ops[i]? = some o) (h2 : wantS ops st o = some true) (h3 : Sh.bop P st o = some s) (h4 : locOk o.dst s = true) (hk : K b (st.put o.dst s)) : OneL P l C ops i b st K := by
  intro a w g hr hc N R hN
  obtain ⟨v, e1, e2⟩ := bop_sound hr h3
  unfold wpOpIn
  rw [h1]
  simp only [wantS_sound hr h2, if_true]
  refine ⟨fun f _ => trivial, ?_⟩
  show Oper.uponIn _ _ _ _ _ _ _ ((execOp a.eval o).run P w)
  rw [e2 w (Up.refl w)]
  simp only [Oper.uponIn]
  exact hN b _ _ w g hk (hr.putBV e1 h4) hc (FrL.refl _ _ _)
theorem stepOL_spec {st' : St} (h : stepOL P ops m st i = some st') (hn : OL P l C ops d (m ||| 2 ^ i) b st' K) : OL P l C ops (d + 1) m b st K := by
  unfold stepOL at h
  split at h
  · cases h
  · rename_i o ho
    split at h
    · rename_i hw
      split at h
      · rename_i s hs
        split at h
        · rename_i hc
          cases h
          simp only [Bool.and_eq_true, Bool.or_eq_true, beq_iff_eq] at hc
          obtain ⟨c1, c2⟩ := hc
          rcases c2 with c2 | c2
          · exact OL.step c2 ⟨OneL.bop ho hw hs c1 hn, trivial⟩
          · exact OL.first i (by simp only [Bool.and_eq_true]; exact c2) ⟨o, ho, hw, BStep.of_bop hs, c1, rfl⟩ hn
        · cases h
      · cases h
    · rename_i hw
      split at h
      · rename_i hc
        cases h
        simp only [Bool.or_eq_true, beq_iff_eq] at hc
        rcases hc with c2 | c2
        · exact OL.step c2 ⟨OneL.skip ho hw hn, trivial⟩
        · exact OL.firstS i ho hw c2 hn
      · cases h
    · cases h
def runOL (P : Program) (ops : Array Oper) : List Nat → Nat → St → Option (Nat × St)
  | [], m, st => some (m, st)
  | i :: is, m, st => match stepOL P ops m st i with
    | some st' => runOL P ops is (m ||| 2 ^ i) st'
    | none => none
theorem runOL_spec : ∀ {is : List Nat} {m m' : Nat} {st st' : St}, runOL P ops is m st = some (m', st') → OL P l C ops d m' b st' K → OL P l C ops (is.length + d) m b st K
  | [], m, m', st, st', h, hn => by cases h; simpa using hn
  | i :: is, m, m', st, st', h, hn => by
    simp only [runOL] at h
    split at h
    · rename_i st1 h1
      have := runOL_spec h hn
      rw [show (i :: is).length + d = (is.length + d) + 1 by simp; omega]
      exact stepOL_spec h1 this
    · cases h
variable {n : Nat} {H : Hp} {l0 : List (Nat × SV)}
def orAll (is : List Nat) (m : Nat) : Nat := is.foldl (fun m i => m ||| 2 ^ i) m
theorem OL.G {d' : Nat} (is : List Nat) (ll : List (Nat × SV)) (hn : OL P l C ops d' (orAll is m) b (sp n ll H) K) (hd : d = is.length + d' := by rfl)
    (h : (runOL P ops is m (sp n l0 H)).bind (fun q => (pickR n (ll.map (·.1)) q.2).map (fun r => (q.1, r))) = some (orAll is m, (ll, H)) := by kernel_rfl) : OL P l C ops d m b (sp n l0 H) K := by
  subst hd
  cases hq : runOL P ops is m (sp n l0 H) with
  | none => rw [hq] at h; cases h
  | some q =>
    rw [hq] at h
    simp only [Option.bind_some, Option.map_eq_some_iff] at h
    obtain ⟨r, h1, h2⟩ := h
    simp only [Prod.mk.injEq] at h2
    obtain ⟨e1, rfl⟩ := h2
    rw [← e1] at hn
    exact runOL_spec hq (OL.kp n H _ ll h1 hn)
theorem OneL.W {N : Bool → St → Prop} (h : OWk P false (oneU ops i) 0 (sp n l0 H) (N b)) (hC : ∀ b, CFr (C b)) (ho : (opAt ops i (sp n l0 H)).isSome = true := by kernel_rfl) (hd : noDefer (oneU ops i).toList = true := by kernel_rfl) : OneL P l C ops i b (sp n l0 H) N := by
  obtain ⟨o, ho⟩ := Option.isSome_iff_exists.1 ho
  exact OneL.of hC ho hd h
theorem OL.F (i : Nat) (hC : ∀ b, CFr (C b)) (h : OWk P false (oneU ops i) 0 (sp n l0 H) (fun s => OL P l C ops d (m ||| 2 ^ i) b s K)) (hr : Region.ready .any ops (lstM ops.size m) = [i] := by kernel_rfl)
    (ho : (opAt ops i (sp n l0 H)).isSome = true := by kernel_rfl) (hd : noDefer (oneU ops i).toList = true := by kernel_rfl) : OL P l C ops (d + 1) m b (sp n l0 H) K :=
  OL.step hr ⟨OneL.W h hC ho hd, trivial⟩
theorem OL.B {dd : Option Tmp} {s : SV} (i : Nat) (ll : List (Nat × SV)) (hb : BAt P ops i (sp n l0 H) dd s) (h : OL P l C ops d (m ||| 2 ^ i) b (sp n ll H) K) (hst : pickR n (ll.map (·.1)) ((sp n l0 H).put dd s) = some (ll, H) := by kernel_rfl)
    (hc : (Region.noSelect ops && Region.free .any ops (lstM ops.size m) i && (Region.ready .any ops (lstM ops.size m)).contains i && blindAtB P ops i (sp n l0 H)) = true := by kernel_rfl) : OL P l C ops (d + 1) m b (sp n l0 H) K :=
  OL.first i hc hb (OL.kp n H _ ll hst h)
theorem OL.cut {d0 m0 : Nat} {b0 : Bool} {st0 : St} (Hyp : Hp → Prop) (d m n : Nat) (ll : List (Nat × SV)) (h2 : ∀ H2, Hyp H2 → OL P l C ops d m b (sp n ll H2) K) (h1 : (∀ H2, Hyp H2 → OL P l C ops d m b (sp n ll H2) K) → OL P l C ops d0 m0 b0 st0 K) : OL P l C ops d0 m0 b0 st0 K := h1 h2
theorem OL.hav {d0 m0 : Nat} {b0 : Bool} {st0 : St} (d m n : Nat) (ll : List (Nat × SV)) (h2 : OL P l C ops d m b (sp n ll H) K) (h1 : OL P l C ops d m b (sp n ll H) K → OL P l C ops d0 m0 b0 st0 K) : OL P l C ops d0 m0 b0 st0 K := h1 h2
theorem OL.at_ {m' : Nat} (h : OL P l C ops d m' b st K) (hm : m' = m := by kernel_rfl) : OL P l C ops d m b st K := hm ▸ h
end
end Go.Sh
namespace Go.Sh
section
variable {P : Program} {st : St} {Q : Exit → St → Prop}
theorem SWM0.condT {c : Operand} {x y : Code} (hc : valD st c = some (.bool true)) (h : SWM0 P x st Q) : SWM0 P (.cond c x y) st Q :=
  fun a w g hr => wp_cond (valD_leaf hr hc rfl) (by simpa using h a w g hr)
theorem SC.of_SWM0 {f : FuncId} {fn : Func} {c : Code} {args : List SV} {H H' : List SObj} {r : SV} (hf : P.funcs[f]? = some fn) (hb : fn.body = some c)
    (h : SWM0 P c (initSt fn.ntmps args H) (EndQ P fn.results.toList H' r)) : SC P false f args H r H' := SB.sc (SB.of_SWM0 hf hb h)
variable {r : Option Nat} {K : St → Prop} {ops : Array Oper}
theorem wpOpIn_of {n i : Nat} {X N : Act → World → Prop} {N' : Act → World → Prop} {a : Act} {w : World} (hd : noDefer ops.toList = true) (h : wpOp P ops (NX X) i N a w) (hN : ∀ a w, N a w → N' a w) : wpOpIn (Fw r) n P ops (NX X) i N' a w := by
  unfold wpOp at h
  unfold wpOpIn
  split at h
  · rename_i ho; rw [ho]; exact hN _ _ h
  · rename_i o ho
    rw [ho]
    simp only
    split at h
    · rename_i hw
      rw [if_pos hw]
      rcases h with h | h
      · refine ⟨fun f _ => Fw_fn f, ?_⟩
        have hmem : o ∈ ops.toList := by
          rw [Array.mem_toList_iff]
          exact Array.mem_of_getElem? ho
        rw [Fw_round, Oper.semAt_eq r a.eval o (noDefer_spec hd o hmem)]
        exact uponIn_of (Oper.wp_mono (K' := N') (fun a' w' hh => hN a' w' hh) h)
      · exact absurd h.2 NX.out
    · rename_i hw
      rw [if_neg hw]
      exact ⟨fun f _ => Fw_fn f, hN _ _ h⟩
theorem wpAnyIn_of {n : Nat} {md : Region.Mode} {X : Act → World → Prop} (hd : noDefer ops.toList = true) : ∀ (d : Nat) (ls : Array Bool) (a : Act) (w : World), wpAny P md ops (NX X) d ls a w → wpAnyIn (Fw r) n P md ops (NX X) d ls a w
  | 0, _, _, _, h => h
  | d + 1, _, _, _, h => ⟨h.1, fun i hi => wpOpIn_of hd (h.2 i hi) (fun a w hh => wpAnyIn_of hd d _ a w hh)⟩
theorem SWR.any {id : Nat} {l : List Oper} (hm : P.follows .mixedOrders = true) (hd : noDefer l = true)
    (h : ∀ a w g, Rel st a w g → wpAny P .any l.toArray (NX fun a' w' => ∃ st' g', K st' ∧ Rel st' a' w' g' ∧ Fr false g w g' w') l.toArray.size (Array.replicate l.toArray.size false) a w.drew) : SWR P r (.region id l.toArray true) st K := by
  intro n a w g hr
  refine Code.wpIn_mono (Q := NX fun a' w' => ∃ st' g', K st' ∧ Rel st' a' w' g' ∧ Fr false g w g' w') (fun e a' w' hh => hh) ?_
  exact wpIn_region_any hm (wpAnyIn_of (by simpa using hd) _ _ _ _ (h a w g hr))
theorem SWR.regX {id : Nat} {l : List Oper} (n : Nat) (H : List SObj) (ll : List (Nat × SV)) (hm : P.follows .mixedOrders = true)
    (h : ∀ X : Nat → Nat → St → Prop, (X = fun d m s => OX P false l.toArray d m s (sp n ll H)) → X l.length 0 st) (hq : K (sp n ll H)) (hd : noDefer l = true := by kernel_rfl) : SWR P r (.region id l.toArray true) st K :=
  SWR.any hm hd fun a w g hr => by
    have := h _ rfl a w.drew g hr.drew (fun a' w' => ∃ st' g', K st' ∧ Rel st' a' w' g' ∧ Fr false g w g' w') (fun a' w' g' r f => ⟨_, g', hq, r, Fr.drew.trans f⟩)
    rw [lstM_zero] at this
    rw [show l.length = l.toArray.size by simp] at this
    exact this
end
end Go.Sh
