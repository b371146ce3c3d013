/- Lists of one's own, written in place; functions that write an argument in place. -/
import Derived.Test.YtjkhgfoecplbgaaSh30
import Derived.Lib.SliceRun
set_option linter.all false
set_option autoImplicit true
set_option relaxedAutoImplicit true
set_option linter.unusedVariables false
set_option linter.unusedSimpArgs false
namespace Go.Sh

/-- A list of one's own, its value known or not. -/
def ownAt (st : St) (s : Nat) : Option (Option Value × Nat × List D) :=
  match st.tmps[s]? with
  | some (.own n xs) => some (none, n, xs)
  | some (.pin v n xs) => some (some v, n, xs)
  | _ => none

def ownSV : Option Value → Nat → List D → SV
  | none, n, xs => .own n xs
  | some v, n, xs => .pin v n xs

theorem ownAt_eq {st : St} {s : Nat} {p : Option Value} {n : Nat} {xs : List D} (h : ownAt st s = some (p, n, xs)) : st.tmps[s]? = some (ownSV p n xs) := by
  unfold ownAt at h
  split at h
  · cases h; assumption
  · cases h; assumption
  · cases h

theorem ownSV_big (p : Option Value) (n : Nat) (xs : List D) : bigK (ownSV p n xs) = 2 := by cases p <;> rfl

theorem ownSV_rs {g : Gh} {w : World} {tm : List SV} {val : Nat → Value} {t : Nat} {v : Value} {p : Option Value} {n : Nat} {xs : List D} : RS g w tm val t v (ownSV p n xs) ↔ (∀ v0, p = some v0 → v = v0) ∧ ROwn g w (.slot t) v n xs := by
  cases p with
  | none => exact ⟨fun h => ⟨nofun, h⟩, fun h => h.2⟩
  | some v0 => exact ⟨fun h => ⟨fun v1 e => by cases e; exact h.1, h.2⟩, fun h => ⟨h.1 v0 rfl, h.2⟩⟩

theorem ownSV_uses {t : Nat} {p : Option Value} {n : Nat} {xs : List D} {o : Own} : uses t (ownSV p n xs) o ↔ o = .free ∨ o = .lst (.slot t) := by cases p <;> rfl

/-- What is lent by a slot is no more known. -/
def lentBy (t0 : Nat) : SV → Bool
  | .lent (.slot s) _ _ | .lptr (.slot s) _ => s == t0
  | _ => false

def St.killL (st : St) (t0 : Nat) : St := { st with tmps := st.tmps.map fun s => if lentBy t0 s then .undef else s }

theorem St.killL_get {st : St} {t0 t : Nat} {s : SV} (h : (st.killL t0).tmps[t]? = some s) : s = .undef ∨ (st.tmps[t]? = some s ∧ lentBy t0 s = false) := by
  simp only [St.killL, List.getElem?_map, Option.map_eq_some_iff] at h
  obtain ⟨s', h1, h2⟩ := h
  split at h2
  · exact .inl h2.symm
  · rename_i hm
    subst h2
    exact .inr ⟨h1, by simpa using hm⟩

theorem St.killL_len (st : St) (t : Nat) : (st.killL t).tmps.length = st.tmps.length := by simp [St.killL]

/-- An own list gets new elements. -/
def St.setOwn (st : St) (s : Nat) (p : Option Value) (n : Nat) (xs : List D) : St := (st.killL s).set s (ownSV p n xs)

theorem uses_lent {t s0 : Nat} {s : SV} (hne : t ≠ s0) (hm : lentBy s0 s = false) (ho : uses t s (.lst (.slot s0))) : False := by
  cases s <;> simp [uses] at ho
  · exact hne ho.symm
  · subst ho; simp [lentBy] at hm
  · subst ho; simp [lentBy] at hm
  · exact hne ho.symm

section
variable {P : Program} {pu : Bool} {st : St} {ops : Array Oper} {k : Nat} {Q : St → Prop}

/-- An own list is written in place: what has changed lies in blocks of its own. -/
theorem Rel.setOwn {a : Act} {w w' : World} {g g' : Gh} (hr : Rel st a w g) {s : Nat} {p : Option Value} {n : Nat} {xs ys : List D} (hs : st.tmps[s]? = some (ownSV p n xs)) (hk : ∀ o, o ≠ .lst (.slot s) → Keep o g w g' w') (hρ : g'.ρ = g.ρ)
    (hn : ROwn g' w' (.slot s) (valOf a s) n ys) : Rel (st.setOwn s p n ys) a w' g' := by
  have hlt := get_lt hs
  have hp := (ownSV_rs.1 (hr.tmp s _ hs)).1
  refine Rel.step hr (by simp [St.setOwn, St.set, St.killL, hr.len]) hr.def0 (fun _ _ h => by rw [hρ]; exact h) (fun t s' hs' => ?_) (hr.hp.keep (fun o ho => hk o fun e => by subst e; exact ho.elim) (fun _ _ h => by rw [hρ]; exact h) (by rw [hρ]))
  by_cases ht : t = s
  · subst ht
    simp only [St.setOwn, St.set] at hs'
    rw [List.getElem?_set_self (by rw [St.killL_len]; exact hlt)] at hs'
    cases hs'
    exact .inr (.inl (ownSV_rs.2 ⟨hp, hn⟩))
  · simp only [St.setOwn, St.set, List.getElem?_set_ne (Ne.symm ht)] at hs'
    rcases St.killL_get hs' with e | ⟨e1, e2⟩
    · exact .inl e
    · refine .inr (.inr ⟨e1, rfl, fun o ho => hk o fun e => ?_, fun s' hd => ⟨rfl, fun x hx hb => ?_⟩⟩)
      · subst e; exact uses_lent ht e2 ho
      · by_cases h1 : s' = s
        · subst h1
          rw [hs] at hx; cases hx
          exact ⟨ownSV p n ys, by simp only [St.setOwn, St.set]; rw [List.getElem?_set_self (by rw [St.killL_len]; exact hlt)], by rw [ownSV_big, ownSV_big]⟩
        · refine ⟨x, ?_, rfl⟩
          simp only [St.setOwn, St.set, List.getElem?_set_ne (Ne.symm h1), St.killL, List.getElem?_map, hx, Option.map_some]
          have : lentBy s x = false := by cases x <;> simp [bigK] at hb <;> rfl
          simp [this]

/-! ## The same value once more -/

def alsAt (ops : Array Oper) (k : Nat) (st : St) : Option (Option Tmp × Nat) :=
  match opAt ops k st with
  | some o => match o.op with
    | .move (.tmp s) => match ownAt st s with
      | some _ => if o.dst != some s then some (o.dst, s) else none
      | none => none
    | _ => none
  | none => none

theorem BAt.als {d : Option Tmp} {s : Nat} (h : alsAt ops k st = some (d, s)) : BAt P ops k st d (.als s) := by
  unfold alsAt at h
  split at h
  · rename_i o ho
    split at h
    · rename_i s' hop
      split at h
      · rename_i p hp
        split at h
        · rename_i hd
          simp only [Option.some.injEq, Prod.mk.injEq] at h
          obtain ⟨rfl, rfl⟩ := h
          obtain ⟨g1, g2⟩ := opAt_inv ho
          obtain ⟨pv, n, xs⟩ := p
          refine ⟨o, g1, g2, fun a w g hr => ⟨valOf a s', ⟨⟨_, ownAt_eq hp, ownSV_big _ _ _⟩, rfl⟩, fun w' _ => ?_⟩, by simpa [locOk] using hd, rfl⟩
          unfold execOp; rw [hop]; rfl
        · cases h
      · cases h
    · cases h
  · cases h

/-! ## An element, written -/

def epAt (P : Program) (ops : Array Oper) (k : Nat) (st : St) : Option (Option Tmp × Nat × Nat × List D × Int) :=
  match opAt ops k st with
  | some o => match o.op with
    | .indexAddr T (.tmp t) i => match st.tmps[t]?, intOf? st i with
      | some (.als s), some (_, j) => match ownAt st s with
        | some (_, n, xs) => if n ≠ 0 ∧ n = elemW P T ∧ (arrayOf P T).isNone = true ∧ o.dst ≠ some s then some (o.dst, s, n, xs, j) else none
        | none => none
      | _, _ => none
    | _ => none
  | none => none

theorem BAt.ep {α : Type} {enc : α → D} {xs : List α} {x : α} {d : Option Tmp} {s n : Nat} {j : Int} (hx : idx xs j = some x) (h : epAt P ops k st = some (d, s, n, xs.map enc, j)) : BAt P ops k st d (.ep s n j.toNat) := by
  unfold epAt at h
  split at h
  · rename_i o ho
    split at h
    · rename_i T t i hop
      split at h
      · rename_i s' kk j' hs hi
        split at h
        · rename_i p n' xs' hown
          split at h
          · rename_i hc
            simp only [Option.some.injEq, Prod.mk.injEq] at h
            obtain ⟨rfl, rfl, rfl, rfl, rfl⟩ := h
            obtain ⟨g1, g2⟩ := opAt_inv ho
            obtain ⟨hn0, hnT, hna, hd⟩ := hc
            refine ⟨o, g1, g2, fun a w g hr => ?_, by simpa [locOk] using hd, rfl⟩
            have hO := (ownSV_rs.1 (hr.tmp s' _ (ownAt_eq hown))).2
            obtain ⟨-, hal⟩ : _ ∧ valOf a t = valOf a s' := hr.tmp t _ hs
            obtain ⟨h0, hj⟩ := idx_inv hx
            have hlt : j'.toNat < xs.length := get_lt hj
            rcases hO with ⟨he, -⟩ | ⟨kb, off, cap, c, T0, us, hv, hk, hb, hl, hz, hw, hcc, hrr⟩
            · rw [List.map_eq_nil_iff] at he; subst he; simp at hlt
            · -- the element's type
              unfold elemW at hnT
              split at hnT
              · rename_i e hu
                refine ⟨.pointer (some ⟨kb, off + j'.toNat * n', none⟩), ⟨⟨_, ownAt_eq hown, ownSV_big _ _ _⟩, kb, off, _, cap, hv, rfl⟩, fun w' hup => ?_⟩
                have hidx : a.eval i = .int kk j' := by
                  unfold intOf? at hi
                  split at hi
                  · rename_i k1 n1 hv1
                    cases hi
                    exact valD_leaf hr hv1 rfl
                  · cases hi
                unfold execOp; rw [hop]
                have hev : a.eval (.tmp t) = .slice (some ⟨kb, off, none⟩) (xs.map enc).length cap := hal.trans hv
                have hlt' : j' < ((xs.map enc).length : Int) := by rw [List.length_map]; omega
                subst hnT
                simp only [hev, hidx, Sem.run_bind, indexAddr_sl hu hn0 h0 hlt' w', Result.andThen_ok, Sem.run_pure]
              · exact absurd hnT hn0
          · cases h
        · cases h
      · cases h
    · cases h
  · cases h

def sepAt (P : Program) (ops : Array Oper) (k : Nat) (st : St) : Option (Nat × Nat × Option Value × List D × Nat × D) :=
  match opAt ops k st with
  | some o => match o.op with
    | .store T (.tmp t) y => match st.tmps[t]?, valD st y with
      | some (.ep s n j), some d => match ownAt st s with
        | some (p, n', xs) => if n' = n ∧ (P.underlying T).isNone = false ∧ d.cells.length = n ∧ P.cellsOf T = n ∧ o.dst = none then some (s, n, p, xs, j, d) else none
        | none => none
      | _, _ => none
    | _ => none
  | none => none

theorem list_set_get {α : Type} {l : List α} {i j : Nat} {x y : α} (h : (l.set i x)[j]? = some y) : (i = j ∧ x = y ∧ j < l.length) ∨ (i ≠ j ∧ l[j]? = some y) := by
  by_cases e : i = j
  · subst e
    have hlt := get_lt h
    rw [List.length_set] at hlt
    rw [List.getElem?_set_self hlt] at h
    exact .inl ⟨rfl, by simpa using h, hlt⟩
  · rw [List.getElem?_set_ne e] at h; exact .inr ⟨e, h⟩

theorem OWk.sep {α : Type} {enc : α → D} {xs : List α} {x : α} {s n j : Nat} {p : Option Value} (m : Nat) (H : List SObj) (L : List Nat) (l : List (Nat × SV)) (hj : decide (j < xs.length) = true) (h : sepAt P ops k st = some (s, n, p, xs.map enc, j, enc x))
    (hst : pickR m L (st.setOwn s p n ((xs.set j x).map enc)) = some (l, H)) (hn : OWk P pu ops (k + 1) (sp m l H) Q) : OWk P pu ops k st Q := by
  have hj := of_decide_eq_true hj
  unfold sepAt at h
  split at h
  · rename_i o ho
    split at h
    · rename_i T t y hop
      split at h
      · rename_i s' n' j' d hs hy
        split at h
        · rename_i p' n2 xs' hown
          split at h
          · rename_i hc
            simp only [Option.some.injEq, Prod.mk.injEq] at h
            obtain ⟨rfl, rfl, rfl, rfl, rfl, rfl⟩ := h
            obtain ⟨rfl, hu, hsz, hcT, hd⟩ := hc
            obtain ⟨g1, g2⟩ := opAt_inv ho
            refine OWk.e g1 g2 (OpS.skip fun a w g hr => ?_) (OWk.keep L (keepR_of_pick hst) hn)
            obtain ⟨-, hO⟩ := ownSV_rs.1 (hr.tmp s' _ (ownAt_eq hown))
            obtain ⟨-, k0, off0, len0, cap0, hv0, hep⟩ := hr.tmp t _ hs
            rcases hO with ⟨he, -⟩ | ⟨kb, off, cap, c, T0, us, hv, hk, hb, hl, hz, hw, hcc, hrr⟩
            · rw [List.map_eq_nil_iff] at he; subst he; simp at hj
            · rw [hv] at hv0
              simp only [Value.slice.injEq, Option.some.injEq, Addr.mk.injEq] at hv0
              obtain ⟨⟨rfl, rfl, -⟩, rfl, rfl⟩ := hv0
              have hrd := valD_d hr hy
              obtain ⟨c1, c2⟩ := hrd.cells
              have hone : ∀ v ∈ (a.eval y).cells.toList, v.oneCell' = true := fun v hv => by
                obtain ⟨i, hi⟩ := List.mem_iff_getElem?.1 hv
                have hlt : i < (enc x).cells.length := by rw [← c1]; have := get_lt hi; simpa using this
                obtain ⟨u, u1, u2, u3⟩ := c2 i (enc x).cells[i] (by simp [hlt])
                have : u = v := by
                  have hi' : (a.eval y).cells[i]? = some v := by simpa using hi
                  rw [u1] at hi'; exact Option.some.inj hi'
                rw [← this]; exact u3
              have hroom : off + j' * n2 + n2 ≤ c.size := by
                have h1 : (j' + 1) * n2 ≤ cap * n2 := Nat.mul_le_mul_right _ (by rw [List.length_map] at hl; omega)
                rw [Nat.succ_mul] at h1
                omega
              obtain ⟨w', r1, r2, r3, c', r4, r5, r6⟩ := run_storeCells' (P := P) kb (off + j' * n2) T0 (a.eval y).cells.toList 0 c w hb (by simp [c1]; omega) hone
              have hkp : ∀ o', o' ≠ .lst (.slot s') → Keep o' g w g w' := fun o' ho => Keep.block hk ho r3
              have hkf : Keep .free g w g w' := hkp _ (by simp)
              refine ⟨w', g, ?_, ?_, Fr.keepBut (l := .slot s') (by simp) (by rw [r2]; exact Nat.le_refl _) hkp rfl (storeCells_os (P := P) kb (off + j' * n2) T0 (a.eval y).cells.toList 0 c w w' hb (by simp [c1]; omega) hone r1)⟩
              · unfold execOp; rw [hop]
                have hev : a.eval (.tmp t) = .pointer (some ⟨kb, off + j' * n2, none⟩) := hep
                simp only [Instr.storeAt, Sem.run_bind, hev, Instr.sureAddr, Sem.run_pure, Result.andThen_ok, storeVar, run_sizeOf' hu]
                rw [if_neg (by rw [c1, hcT]; simp [hsz]), r1]
                rfl
              · rw [hd]
                refine hr.setOwn (ownAt_eq hown) hkp rfl (.inr ⟨kb, off, cap, c', T0, fun i q => if i = j' then (a.eval y).cells.getD q undef else us i q, by rw [hv]; simp, hk, r4, by simpa using hl, by rw [r5]; exact hz, fun i z hi => ?_, fun i z hi q u hq => ?_, fun i z hi q u hq => ?_⟩)
                · simp only [List.getElem?_map, Option.map_eq_some_iff] at hi
                  obtain ⟨z', hi, rfl⟩ := hi
                  rcases list_set_get hi with ⟨-, rfl, -⟩ | ⟨-, hi⟩
                  · exact hsz
                  · exact hw i (enc z') (by simp [hi])
                · simp only [List.getElem?_map, Option.map_eq_some_iff] at hi
                  obtain ⟨z', hi, rfl⟩ := hi
                  have hql : q < n2 := by
                    rcases list_set_get hi with ⟨-, rfl, -⟩ | ⟨-, hi⟩
                    · have := get_lt hq; omega
                    · have := get_lt hq; rw [hw i (enc z') (by simp [hi])] at this; exact this
                  rcases list_set_get hi with ⟨e, rfl, -⟩ | ⟨hne, hi⟩
                  · subst e
                    obtain ⟨u', u1, u2, u3⟩ := c2 q u hq
                    have hg : (a.eval y).cells.getD q undef = u' := by simp [Array.getD_eq_getD_getElem?, u1]
                    simp only [if_true, hg]
                    refine ⟨?_, u3⟩
                    rw [r6, if_pos (by simp [c1]; omega)]
                    rw [show off + j' * n2 + q - (off + j' * n2 + 0) = q by omega]
                    simpa using u1
                  · obtain ⟨u1, u2⟩ := hcc i (enc z') (by simp [hi]) q u hq
                    simp only [if_neg (Ne.symm hne)]
                    refine ⟨?_, u2⟩
                    have hapart : off + i * n2 + q < off + j' * n2 ∨ off + j' * n2 + n2 ≤ off + i * n2 + q := by
                      rcases Nat.lt_or_gt_of_ne hne with h | h
                      · have : (j' + 1) * n2 ≤ i * n2 := Nat.mul_le_mul_right _ h
                        rw [Nat.succ_mul] at this; omega
                      · have : (i + 1) * n2 ≤ j' * n2 := Nat.mul_le_mul_right _ h
                        rw [Nat.succ_mul] at this; omega
                    rw [r6, if_neg (by simp [c1]; omega)]
                    exact u1
                · simp only [List.getElem?_map, Option.map_eq_some_iff] at hi
                  obtain ⟨z', hi, rfl⟩ := hi
                  rcases list_set_get hi with ⟨e, rfl, -⟩ | ⟨hne, hi⟩
                  · subst e
                    obtain ⟨u', u1, u2, u3⟩ := c2 q u hq
                    have hg : (a.eval y).cells.getD q undef = u' := by simp [Array.getD_eq_getD_getElem?, u1]
                    simp only [if_true, hg]
                    exact Rd.keep hkf (fun _ _ h => h) u2
                  · simp only [if_neg (Ne.symm hne)]
                    exact Rd.keep hkf (fun _ _ h => h) (hrr i (enc z') (by simp [hi]) q u hq)
          · cases h
        · cases h
      · cases h
    · cases h
  · cases h

/-! ## Functions that write their one argument in place -/

def IC (P : Program) (f : FuncId) (n : Nat) (xs ys : List D) : Prop :=
  ∀ (H : List SObj) (w : World) (g : Gh) (v : Value), ROwn g w (.slot 0) v n xs → RH g w H → Calls P f #[v] w fun e w' => e = .returned (.tuple #[]) ∧ ∃ g', ROwn g' w' (.slot 0) v n ys ∧ RH g' w' H ∧ Fr true g w g' w'

theorem IC.of_SW {f : FuncId} {fn : Func} {c : Code} {n : Nat} {xs ys : List D} (hf : P.funcs[f]? = some fn) (hb : fn.body = some c) (hr : fn.results = #[])
    (h : ∀ H v, SW P true c (initSt fn.ntmps [.pin v n xs] H) (fun e st' => (e = .normal ∨ e = .ret) ∧ st'.tmps[0]? = some (.pin v n ys) ∧ st'.H = H)) : IC P f n xs ys := by
  intro H w g v hO hH
  have hA : RArgs g w #[v] [.own n xs] := ⟨rfl, fun j s hj => by
    match j, hj with
    | 0, hj => simp at hj; subst hj; exact ⟨v, rfl, hO⟩
    | j + 1, hj => simp at hj⟩
  have r0 := Rel.init hA hH fn.ntmps
  have r1 : Rel (initSt fn.ntmps [.pin v n xs] H) { tmps := #[v] ++ Array.replicate (fn.ntmps - (#[v] : Array Value).size) undef, defers := [] } w g := by
    refine Rel.step r0 (by rw [r0.len]; simp [initSt]) r0.def0 (fun _ _ h => h) (fun t s hs => ?_) r0.hp
    cases t with
    | zero =>
      simp [initSt] at hs
      subst hs
      refine .inr (.inl ⟨?_, r0.tmp 0 (.own n xs) (by simp [initSt])⟩)
      simp only [valOf, Array.getD_eq_getD_getElem?]
      rw [Array.getElem?_append_left (by simp)]
      rfl
    | succ t =>
      refine .inr (.inr ⟨by simpa [initSt] using hs, rfl, fun _ _ => Keep.refl _ _ _, fun s' hd => ⟨rfl, fun x hx hb => ?_⟩⟩)
      cases s' with
      | zero => simp [initSt] at hx; subst hx; exact ⟨.pin v n xs, by simp [initSt], rfl⟩
      | succ s' => exact ⟨x, by simpa [initSt] using hx, rfl⟩
  refine calls_of_wp hf hb (Code.wp_mono (fun e a' w' hh => ?_) (h H v _ w g r1))
  obtain ⟨st', g', ⟨he, h0, hH'⟩, hrel, hfr⟩ := hh
  have hrun := results_run (P := P) (fn := fn) (tm := a'.tmps) (w := w') (vs := []) (by simp [hr]) (fun j rv hj => by rw [hr] at hj; simp at hj)
  obtain ⟨hv, hO'⟩ : valOf a' 0 = v ∧ ROwn g' w' (.slot 0) (valOf a' 0) n ys := hrel.tmp 0 _ h0
  rw [hv] at hO'
  have fin : Ending.returned (if h : ([] : List Value).toArray.size = 1 then ([] : List Value).toArray[0] else .tuple ([] : List Value).toArray) = .returned (.tuple #[]) ∧ ∃ g', ROwn g' w' (.slot 0) v n ys ∧ RH g' w' H ∧ Fr true g w g' w' :=
    ⟨rfl, g', hO', by rw [← hH']; exact hrel.hp, hfr⟩
  rcases he with rfl | rfl
  · exact ⟨hrel.def0, _, hrun, fin⟩
  · exact ⟨hrel.def0, _, hrun, fin⟩

/-- What the callee may see: the list that is handed to it, and the shadow heap. -/
def icOw (s : Nat) : Own → Own
  | .free => .free
  | .obj i => .obj i
  | .lst (.hcell i j) => .lst (.hcell i j)
  | .lst (.slot t) => if t = s then .lst (.slot 0) else .out
  | _ => .out

/-- Whose a block is behind such a call. -/
def icBack (m s : Nat) (ow ow' : Nat → Own) (k : Nat) : Own :=
  if k < m ∧ icOw s (ow k) = .out then ow k else
  match ow' k with
  | .free => .free
  | .obj i => .obj i
  | .lst (.hcell i j) => .lst (.hcell i j)
  | .lst (.slot 0) => .lst (.slot s)
  | _ => .out

def icAt (P : Program) (ops : Array Oper) (k : Nat) (st : St) : Option (FuncId × Option Tmp × Nat × Option Value × Nat × List D) :=
  match opAt ops k st with
  | some o => match o.op with
    | .call c => match c.callee, c.args.toList with
      | .value fo, [.tmp t] => match valD st fo, st.tmps[t]? with
        | some (.fn (.func f) [] []), some (.als s) => match ownAt st s with
          | some (p, n, xs) => if isFn P f = true ∧ o.dst ≠ some s then some (f, o.dst, s, p, n, xs) else none
          | none => none
        | _, _ => none
      | _, _ => none
    | _ => none
  | none => none

theorem OWk.ic {f : FuncId} {d : Option Tmp} {s n : Nat} {p : Option Value} {xs ys : List D} (m : Nat) (H : List SObj) (L : List Nat) (l : List (Nat × SV)) (hc : IC P f n xs ys) (h : icAt P ops k st = some (f, d, s, p, n, xs))
    (hst : pickR m L ((st.setOwn s p n ys).put d (.tup [])) = some (l, H)) (hn : OWk P pu ops (k + 1) (sp m l H) Q) : OWk P pu ops k st Q := by
  unfold icAt at h
  split at h
  · rename_i o ho
    split at h
    · rename_i c hop
      split at h
      · rename_i fo t hcal hargs
        split at h
        · rename_i f' s' hfo hs
          split at h
          · rename_i p' n' xs' hown
            split at h
            · rename_i hcond
              simp only [Option.some.injEq, Prod.mk.injEq] at h
              obtain ⟨rfl, rfl, rfl, rfl, rfl, rfl⟩ := h
              obtain ⟨hfn, hd⟩ := hcond
              obtain ⟨g1, g2⟩ := opAt_inv ho
              unfold OWk OW at hn ⊢
              rw [drop_cons g1]
              intro a w g hr Qc hq
              unfold wpList
              rw [wantS_sound hr g2, if_pos rfl]
              refine .inl ?_
              have hrf := valD_d hr hfo
              have hev : a.eval fo = .func (.func f') #[] #[] := by
                generalize a.eval fo = v at hrf
                cases hrf with
                | fn hl1 hl2 us1 us2 hc1 hr1 hc2 hr2 =>
                  rw [Array.eq_empty_of_size_eq_zero (xs := _) hl1, Array.eq_empty_of_size_eq_zero (xs := _) hl2]
              have hal : a.eval (.tmp t) = valOf a s' := (hr.tmp t _ hs).2
              have hO := (ownSV_rs.1 (hr.tmp s' _ (ownAt_eq hown))).2
              have hexec : (execOp a.eval o).run P w = .ok (.enter f' #[valOf a s']) w := by
                unfold execOp
                rw [hop]
                have := run_call (ty := o.type) (P := P) (c := c) hcal hev hfn w
                have hca : c.args = #[.tmp t] := by rw [← Array.toArray_toList (xs := c.args), hargs]
                rw [hca] at this
                simpa [hal] using this
              unfold Oper.wp
              rw [hexec, Oper.upon_enter]
              -- the callee's ghosts
              let gc := g.ren (icOw s')
              have hOc : ROwn gc w (.slot 0) (valOf a s') n' xs' := ROwn.ren rfl (by simp [icOw]) hO
              have hHc : RH gc w st.H := by
                refine RH.keep (g := g) (w := w) (fun o' ho' => Keep.ren ?_) (fun _ _ h => h) rfl hr.hp
                cases o' with
                | lst l => cases l <;> simp only [usesH] at ho' <;> rfl
                | _ => simp only [usesH] at ho' <;> rfl
              refine (hc st.H w gc _ hOc hHc).mono fun e w' hh => ?_
              obtain ⟨rfl, g', hO', -, hf⟩ := hh
              let g2 : Gh := ⟨icBack w.heap.size s' g.ow g'.ow, g'.ρ⟩
              have hρ : g'.ρ = g.ρ := hf.len rfl
              have hid : ∀ (k' : Nat) (b : Obj), icOw s' (g.ow k') = .out → w.heap[k']? = some b → g2.ow k' = g.ow k' ∧ w'.heap[k']? = some b ∧ g'.ow k' = .out := fun k' b h1 h2 => by
                obtain ⟨c1, c2⟩ := hf.out k' b h1 h2
                exact ⟨by simp [g2, icBack, arr_lt h2, h1], c2, c1⟩
              have vis : ∀ (k' : Nat), icOw s' (g.ow k') ≠ .out → g2.ow k' = (match g'.ow k' with | .free => .free | .obj i => .obj i | .lst (.hcell i j) => .lst (.hcell i j) | .lst (.slot 0) => .lst (.slot s') | _ => .out) := fun k' h1 => by
                show icBack _ _ _ _ _ = _
                unfold icBack
                rw [if_neg (fun h => h1 h.2)]
              have hkeep : ∀ o', o' ≠ .lst (.slot s') → Keep o' g w g2 w' := fun o' ho' k' b h1 h2 => by
                cases o' with
                | free =>
                  obtain ⟨c1, c2⟩ := hf.free k' b (by simp [gc, Gh.ren, h1, icOw]) h2
                  exact ⟨by rw [vis k' (by simp [h1, icOw]), c1], c2⟩
                | obj i =>
                  obtain ⟨c1, c2⟩ := hf.obj rfl i k' b (by simp [gc, Gh.ren, h1, icOw]) h2
                  exact ⟨by rw [vis k' (by simp [h1, icOw]), c1], c2⟩
                | out => obtain ⟨c1, c2, -⟩ := hid k' b (by simp [h1, icOw]) h2; exact ⟨c1.trans h1, c2⟩
                | box t => obtain ⟨c1, c2, -⟩ := hid k' b (by simp [h1, icOw]) h2; exact ⟨c1.trans h1, c2⟩
                | lst l0 =>
                  cases l0 with
                  | hcell i j =>
                    obtain ⟨c1, c2⟩ := hf.hcell rfl i j k' b (by simp [gc, Gh.ren, h1, icOw]) h2
                    exact ⟨by rw [vis k' (by simp [h1, icOw]), c1], c2⟩
                  | slot t =>
                    have hne : t ≠ s' := fun e => ho' (by rw [e])
                    obtain ⟨c1, c2, -⟩ := hid k' b (by simp [h1, icOw, hne]) h2; exact ⟨c1.trans h1, c2⟩
                  | _ => obtain ⟨c1, c2, -⟩ := hid k' b (by simp [h1, icOw]) h2; exact ⟨c1.trans h1, c2⟩
              -- the list, back
              have notHid : ∀ (k' : Nat), g'.ow k' ≠ .out → w'.heap[k']? ≠ none → ¬ (k' < w.heap.size ∧ icOw s' (g.ow k') = .out) := fun k' h1 _ h2 => by
                have : ∃ b, w.heap[k']? = some b := ⟨w.heap[k'], by simp [h2.1]⟩
                obtain ⟨b, hb⟩ := this
                exact h1 (hid k' b h2.2 hb).2.2
              have hb0 : Keep .free g' w' g2 w' := fun k' b h1 h2 => by
                refine ⟨?_, h2⟩
                show icBack _ _ _ _ _ = _
                unfold icBack
                rw [if_neg (notHid k' (by rw [h1]; simp) (by rw [h2]; simp)), h1]
              have hO2 : ROwn g2 w' (.slot s') (valOf a s') n' ys := by
                rcases hO' with h | ⟨kb, off, cap, cc, T, us, hv, hk, hb, hl, hz, hw, hcc, hrr⟩
                · exact .inl h
                · refine .inr ⟨kb, off, cap, cc, T, us, hv, ?_, hb, hl, hz, hw, hcc, fun i x hx j y hy => (hrr i x hx j y hy).keep hb0 (fun _ _ h => h)⟩
                  show icBack _ _ _ _ _ = _
                  unfold icBack
                  rw [if_neg (notHid kb (by rw [hk]; simp) (by rw [hb]; simp)), hk]
                  rfl
              have hrel := (hr.setOwn (ownAt_eq hown) hkeep hρ hO2).putLight o.dst (v := .tuple #[]) (s := .tup []) ⟨#[], rfl, rfl, by simp⟩
              refine hn _ w' g2 (hrel.keepR (keepR_of_pick hst)) Qc fun st' a' w2 g3 q r f => hq st' a' w2 g3 q r ((Fr.keepBut (l := .slot s') (by simp) hf.size hkeep hρ hf.os).trans f)
            · cases h
          · cases h
        · cases h
      · cases h
    · cases h
  · cases h

/-! ## A list asked whether it is nil -/

def eqOp : BinOp → Option Bool
  | .eql => some true
  | .neq => some false
  | _ => none

def nqAt (P : Program) (ops : Array Oper) (k : Nat) (st : St) : Option (Option Tmp × Bool × List D) :=
  match opAt ops k st with
  | some o => match o.op with
    | .binOp op T x (.const (.slice none 0 0)) _ => match eqOp op, listOf st x, P.underlying T with
      | some e, some (_, _, xs), some (.slice _) => some (o.dst, e, xs)
      | _, _, _ => none
    | _ => none
  | none => none

theorem OWk.nilq {xs : List D} {d : Option Tmp} {e : Bool} (m : Nat) (H : List SObj) (L : List Nat) (l : Bool → List (Nat × SV)) (h : nqAt P ops k st = some (d, e, xs)) (hst : ∀ b, pickR m L (st.put d (.d (.bool b))) = some (l b, H))
    (hn : ∀ b, (b = e → xs = []) → OWk P pu ops (k + 1) (sp m (l b) H) Q) : OWk P pu ops k st Q := by
  unfold nqAt at h
  split at h
  · rename_i o ho
    split at h
    · rename_i op T x yT hop
      split at h
      · rename_i e' lo no xs' eT hop1 hl hT
        simp only [Option.some.injEq, Prod.mk.injEq] at h
        obtain ⟨rfl, rfl, rfl⟩ := h
        obtain ⟨g1, g2⟩ := opAt_inv ho
        have key : ∀ (a : Act) (w : World) (g : Gh), Rel st a w g → ∃ b : Bool, (b = e' → xs' = []) ∧ (execOp a.eval o).run P w = .ok (.value (.bool b)) w := by
          intro a w g hr
          have hL := listOf_sound hr hl
          obtain ⟨base, len, cap, hv, hnil⟩ : ∃ base len cap, a.eval x = .slice base len cap ∧ (base = none → xs' = []) := by
            rcases hL with ⟨rfl, b0, cap, hv⟩ | ⟨kb, off, cap, c, T0, fz, us, hv, -⟩
            · exact ⟨b0, 0, cap, hv, fun _ => rfl⟩
            · exact ⟨_, _, cap, hv, by simp⟩
          have hy : a.eval (.const (.slice none 0 0)) = .slice none 0 0 := rfl
          have hEq : (Op.equal T (.slice base len cap) (.slice none 0 0)).run P w = .ok base.isNone w := by
            simp [Op.equal, Op.maxDepth, Lib.run_equalIn_slice_nil w 9999 T eT base len cap 0 0 hT]
          cases op <;> simp only [eqOp, reduceCtorEq, Option.some.injEq] at hop1
          · subst hop1
            refine ⟨base.isNone, fun hb => hnil (by cases base <;> simp_all), ?_⟩
            unfold execOp; rw [hop]
            have e1 : eqGuard .eql T x (.const (.slice none 0 0)) (.slice base len cap) (.slice none 0 0) = pure () := rfl
            have e2 : binOp .eql T (.slice base len cap) (.slice none 0 0) = (do pure (.bool (← Op.equal T (.slice base len cap) (.slice none 0 0))) : Sem Value) := rfl
            simp only [hv, hy, e1, e2, hEq, Sem.run_bind, Sem.run_pure, Result.andThen_ok]
          · subst hop1
            refine ⟨!base.isNone, fun hb => hnil (by cases base <;> simp_all), ?_⟩
            unfold execOp; rw [hop]
            have e1 : eqGuard .neq T x (.const (.slice none 0 0)) (.slice base len cap) (.slice none 0 0) = pure () := rfl
            have e2 : binOp .neq T (.slice base len cap) (.slice none 0 0) = (do pure (.bool (!(← Op.equal T (.slice base len cap) (.slice none 0 0)))) : Sem Value) := rfl
            simp only [hv, hy, e1, e2, hEq, Sem.run_bind, Sem.run_pure, Result.andThen_ok]
        unfold OWk OW at hn ⊢
        rw [drop_cons g1]
        intro a w g hr Qc hq
        obtain ⟨b, hb, hrun⟩ := key a w g hr
        unfold wpList
        rw [wantS_sound hr g2, if_pos rfl]
        refine .inl ?_
        unfold Oper.wp
        rw [hrun, Oper.upon_value]
        exact hn b hb _ w g ((hr.putLight o.dst (v := .bool b) (s := .d (.bool b)) .bool).keepR (keepR_of_pick (hst b))) Qc hq
      · cases h
    · cases h
  · cases h
end
end Go.Sh
