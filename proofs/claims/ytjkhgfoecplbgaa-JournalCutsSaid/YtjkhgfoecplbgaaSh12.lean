/- Operations that change something: a list changes hands, a variable is made, written, read for good; lists are made and grow. -/
import Derived.Test.YtjkhgfoecplbgaaSh11
import Derived.Laws.AppendOwn
set_option linter.all false
set_option autoImplicit true
set_option relaxedAutoImplicit true
namespace Go.Sh
set_option linter.unusedSimpArgs false

section
variable {P : Program} {pu : Bool} {ops : Array Oper} {rest : List Oper} {st : St} {Q : St → Prop}

theorem OpS.value {o : Oper} {st' : St} (h : ∀ a w g, Rel st a w g → ∃ v w' g', (execOp a.eval o).run P w = .ok (.value v) w' ∧ Rel st' (a.put o.dst v) w' g' ∧ Fr pu g w g' w') : OpS P pu st o st' :=
  fun a w g hr => let ⟨v, w', g', e, r, f⟩ := h a w g hr; ⟨_, w', g', _, e, fun _ _ => rfl, r, f⟩

theorem OpS.skip {o : Oper} {st' : St} (h : ∀ a w g, Rel st a w g → ∃ w' g', (execOp a.eval o).run P w = .ok .skip w' ∧ Rel st' (a.put o.dst undef) w' g' ∧ Fr pu g w g' w') : OpS P pu st o st' :=
  fun a w g hr => let ⟨w', g', e, r, f⟩ := h a w g hr; ⟨_, w', g', _, e, fun _ _ => rfl, r, f⟩

theorem St.put_box {d : Option Tmp} {s0 : SV} {s1 : Nat} {cs : List SV} (h : st.tmps[s1]? = some (.box cs)) (hd : d ≠ some s1) : (st.put d s0).tmps[s1]? = some (.box cs) := St.put_big h (by simp [bigK]) hd

/-- Another slot behind a write of 'd' out of a state 'st1' that came of 'st' by emptying slots: what there is to say of it. -/
theorem other_slot {st1 : St} {a : Act} {w : World} {g : Gh} (h : Rel st a w g) {d : Option Tmp} {s0 s : SV} (v : Value) {t : Nat} (h1 : ∀ (t : Nat) (s : SV), st1.tmps[t]? = some s → s = .undef ∨ st.tmps[t]? = some s)
    (hbox : ∀ (t : Nat) (s x : SV), st1.tmps[t]? = some s → ∀ s1, dep s = some s1 → st.tmps[s1]? = some x → bigK x ≠ 0 → ∃ x', st1.tmps[s1]? = some x' ∧ bigK x' = bigK x) (hd : d ≠ some t) (hs : (st1.put d s0).tmps[t]? = some s) :
    s = .undef ∨ (st1.tmps[t]? = some s ∧ st.tmps[t]? = some s ∧ valOf (a.put d v) t = valOf a t ∧ (∀ t0 old, d = some t0 → st1.tmps[t0]? = some old → heavy old = true → mention t0 s = false) ∧
      ∀ s', dep s = some s' → valOf (a.put d v) s' = valOf a s' ∧ ∀ x, st.tmps[s']? = some x → bigK x ≠ 0 → ∃ x', (st1.put d s0).tmps[s']? = some x' ∧ bigK x' = bigK x) := by
  have hput : s = .undef ∨ (st1.tmps[t]? = some s ∧ ∀ t0 old, d = some t0 → st1.tmps[t0]? = some old → heavy old = true → mention t0 s = false) := by
    cases d with
    | none => exact .inr ⟨hs, by simp⟩
    | some t0 =>
      rcases St.put_get (fun e => hd (by rw [e])) hs with h | ⟨h1, h2⟩
      · exact .inl h
      · exact .inr ⟨h1, fun t1 old e => by cases e; exact h2 old⟩
  rcases hput with hu | ⟨h2, h3⟩
  · exact .inl hu
  · rcases h1 t s h2 with hu | h4
    · exact .inl hu
    · refine .inr ⟨h2, h4, valOf_put hd, h3, fun s1 e => ?_⟩
      obtain ⟨x0, hx0, hb0⟩ := dep_big (h.tmp t _ h4) e
      obtain ⟨x1, hx1, hb1⟩ := hbox t _ x0 h2 s1 e hx0 hb0
      have hd0 : d ≠ some s1 := fun e2 => by
        have := h3 s1 _ e2 hx1 (bigK_heavy (by omega))
        rw [dep_mention e] at this
        cases this
      refine ⟨valOf_put hd0, fun x hx hb => ?_⟩
      obtain ⟨x', hx', hb'⟩ := hbox t _ x h2 s1 e hx hb
      exact ⟨x', St.put_big hx' (by omega) hd0, hb'⟩

/-- A slot is emptied. -/
def St.take (st : St) (s : Nat) : St := (st.kill s).set s .undef

theorem St.take_eq (st : St) (s p : Nat) : st.take s = st.takes [(s, p)] := rfl
@[simp] theorem St.take_len (st : St) (s : Nat) : (st.take s).tmps.length = st.tmps.length := by simp [St.take]
@[simp] theorem St.take_H (st : St) (s : Nat) : (st.take s).H = st.H := rfl

theorem St.take_get {s0 t : Nat} {s : SV} (h : (st.take s0).tmps[t]? = some s) : s = .undef ∨ (st.tmps[t]? = some s ∧ t ≠ s0 ∧ mention s0 s = false) := by
  rw [St.take_eq st s0 0] at h
  rcases St.takes_get h with h | ⟨h1, h2⟩
  · exact .inl h
  · exact .inr ⟨h1, h2 (s0, 0) (by simp)⟩

theorem St.take_box {s0 t : Nat} {s x : SV} (h : (st.take s0).tmps[t]? = some s) (s1 : Nat) (e : dep s = some s1) (hx : st.tmps[s1]? = some x) (hb : bigK x ≠ 0) : ∃ x', (st.take s0).tmps[s1]? = some x' ∧ bigK x' = bigK x := by
  rcases St.take_get h with h | ⟨-, -, h3⟩
  · subst h; cases e
  · have : s1 ≠ s0 := fun e2 => by rw [← e2, dep_mention e] at h3; cases h3
    exact ⟨x, by rw [St.take_eq st s0 0]; exact St.takes_big hx hb (by simpa using this), rfl⟩

def rnL (l l' : Loc) (o : Own) : Own := if o = .lst l then .lst l' else o

theorem rnL_same (l l' : Loc) : rnL l l' (.lst l) = .lst l' := by simp [rnL]
theorem rnL_other {l l' : Loc} {o : Own} (h : o ≠ .lst l) : rnL l l' o = o := by simp [rnL, h]

theorem Fr.ren {g : Gh} {w : World} {l l' : Loc} (hl : ∀ i j, l ≠ .hcell i j) : Fr pu g w (g.ren (rnL l l')) w :=
  ⟨Nat.le_refl _, Keep.ren (rnL_other (by simp)), Keep.ren (rnL_other (by simp)), fun _ _ h => h, fun _ i => Keep.ren (rnL_other (by simp)), fun _ i j => Keep.ren (rnL_other (fun e => hl i j (by cases e; rfl))), fun _ => rfl, ⟨rfl, rfl⟩⟩

theorem RH.ren {g : Gh} {w : World} {H : List SObj} {l l' : Loc} (hl : ∀ i j, l ≠ .hcell i j) (h : RH g w H) : RH (g.ren (rnL l l')) w H := by
  refine RH.keep (g := g) (w := w) (fun o ho => Keep.ren (rnL_other fun e => ?_)) (fun _ _ h => h) rfl h
  subst e
  cases l <;> simp only [usesH] at ho
  exact hl _ _ rfl

/-- A list goes from a slot to another one. -/
theorem OpS.move {o : Oper} {s : Nat} {n : Nat} {xs : List D} (hop : o.op = .move (.tmp s) ∨ o.op = .assign (.tmp s)) (hs : st.tmps[s]? = some (.own n xs)) : OpS P pu st o ((st.take s).put o.dst (.own n xs)) := by
  refine OpS.value fun a w g hr => ?_
  have hexec : (execOp a.eval o).run P w = .ok (.value (valOf a s)) w := by rcases hop with h | h <;> (unfold execOp; rw [h]; rfl)
  cases hd : o.dst with
  | none =>
    refine ⟨_, w, g, hexec, ?_, Fr.refl _ _ _⟩
    refine Rel.step hr (by simp [hr.len, put_size]) (by rw [put_defers]; exact hr.def0) (fun _ _ h => h) (fun t s' hs' => ?_) hr.hp
    rcases St.take_get hs' with h | ⟨h1, h2, h3⟩
    · exact .inl h
    · refine .inr (.inr ⟨h1, rfl, fun _ _ => Keep.refl _ _ _, fun s1 e => ⟨rfl, fun x hx hb => St.take_box hs' s1 e hx hb⟩⟩)
  | some d =>
    refine ⟨_, w, g.ren (rnL (.slot s) (.slot d)), hexec, ?_, Fr.ren (by simp)⟩
    refine Rel.step hr (by rw [put_size, St.put_len, St.take_len]; exact hr.len) (by rw [put_defers]; exact hr.def0) (fun _ _ h => h) (fun t s' hs' => ?_) (by rw [St.put_H, St.take_H]; exact hr.hp.ren (by simp))
    by_cases ht : t = d
    · subst ht
      obtain ⟨rfl, hlt⟩ := St.put_get_same hs'
      refine .inr (.inl ?_)
      rw [valOf_put_same (by rw [hr.len]; simpa using hlt)]
      exact ROwn.ren (rnL_other (by simp)) (rnL_same _ _) (hr.tmp s _ hs)
    · rcases other_slot hr (st1 := st.take s) (valOf a s) (fun t s h => (St.take_get h).imp id fun h => h.1) (fun t s x h s1 e hx hb => St.take_box h s1 e hx hb) (by simpa using Ne.symm ht) hs' with h | ⟨h1, h2, h3, h4, h5⟩
      · exact .inl h
      · rcases St.take_get h1 with h | ⟨-, h6, h7⟩
        · exact .inl h
        · exact .inr (.inr ⟨h2, h3, fun o' ho' => Keep.ren (rnL_other (uses_mention h6 h7 ho').2.1), h5⟩)

/-- A result that is a list of its own, out of a call's results. -/
theorem OpS.extract {o : Oper} {s j : Nat} {vs : List SV} {n : Nat} {xs : List D} (hop : o.op = .extract (.tmp s) j) (hs : st.tmps[s]? = some (.tup vs)) (hj : vs[j]? = some (.own n xs)) (hds : o.dst ≠ some s) :
    OpS P pu st o (((st.kill s).set s (.tup (vs.set j .undef))).put o.dst (.own n xs)) := by
  refine OpS.value fun a w g hr => ?_
  obtain ⟨us, e1, e2, e3⟩ := hr.tmp s _ hs
  obtain ⟨u, f1, f2⟩ := e3 j _ hj
  have hexec : (execOp a.eval o).run P w = .ok (.value u) w := by
    unfold execOp; rw [hop]
    have : a.eval (.tmp s) = .tuple us := e1
    simp [Instr.extract, this, f1]
  have hslt := get_lt hs
  have tupS : ∀ g' : Gh, KeepR g g' → Keep .free g w g' w → (∀ i, i ≠ j → Keep (.lst (.comp s i)) g w g' w) → ∀ tm val, RS g' w tm val s (valOf a s) (.tup (vs.set j .undef)) := fun g' h0 h1 h2 tm val => by
    refine ⟨us, e1, by simpa using e2, fun i s' hi => ?_⟩
    by_cases hij : i = j
    · subst hij
      rw [List.getElem?_set_self (get_lt hj)] at hi
      cases hi
      exact ⟨u, f1, trivial⟩
    · rw [List.getElem?_set_ne (Ne.symm hij)] at hi
      obtain ⟨u', g1, g2⟩ := e3 i s' hi
      exact ⟨u', g1, g2.keep h1 (h2 i hij) h0⟩
  have get1 : ∀ (t : Nat) (s' : SV), ((st.kill s).set s (.tup (vs.set j .undef))).tmps[t]? = some s' → (t = s ∧ s' = .tup (vs.set j .undef)) ∨ s' = .undef ∨ (t ≠ s ∧ st.tmps[t]? = some s' ∧ mention s s' = false) := fun t s' h => by
    by_cases ht : t = s
    · subst ht
      rw [St.set, List.getElem?_set_self (by simpa using hslt)] at h
      exact .inl ⟨rfl, by cases h; rfl⟩
    · simp only [St.set, List.getElem?_set_ne (Ne.symm ht)] at h
      rcases St.kill_get h with h | ⟨h1, h2⟩
      · exact .inr (.inl h)
      · exact .inr (.inr ⟨ht, h1, h2⟩)
  have box1 : ∀ (s1 : Nat) (x : SV), st.tmps[s1]? = some x → bigK x ≠ 0 → ((st.kill s).set s (.tup (vs.set j .undef))).tmps[s1]? = some x := fun s1 x h hb => by
    have : s1 ≠ s := fun e => by rw [e, hs] at h; cases h; simp [bigK] at hb
    simp [St.set, St.kill, List.getElem?_set_ne (Ne.symm this), h, bigK_mention hb]
  cases hd : o.dst with
  | none =>
    refine ⟨_, w, g, hexec, ?_, Fr.refl _ _ _⟩
    refine Rel.step hr (by rw [put_size, St.put_len, St.set_len, St.kill_len]; exact hr.len) (by rw [put_defers]; exact hr.def0) (fun _ _ h => h) (fun t s' hs' => ?_) hr.hp
    rcases get1 t s' hs' with ⟨rfl, rfl⟩ | h | ⟨h1, h2, h3⟩
    · exact .inr (.inl (tupS g (fun _ _ h => h) (Keep.refl _ _ _) (fun _ _ => Keep.refl _ _ _) _ _))
    · exact .inl h
    · exact .inr (.inr ⟨h2, rfl, fun _ _ => Keep.refl _ _ _, fun s1 e => ⟨rfl, fun x hx hb => ⟨x, box1 s1 x hx hb, rfl⟩⟩⟩)
  | some d =>
    rw [hd] at hds
    have hds' : d ≠ s := fun e => hds (by rw [e])
    refine ⟨_, w, g.ren (rnL (.comp s j) (.slot d)), hexec, ?_, Fr.ren (by simp)⟩
    refine Rel.step hr (by rw [put_size, St.put_len, St.set_len, St.kill_len]; exact hr.len) (by rw [put_defers]; exact hr.def0) (fun _ _ h => h) (fun t s' hs' => ?_) (by rw [St.put_H, St.set_H]; exact hr.hp.ren (by simp))
    by_cases ht : t = d
    · subst ht
      obtain ⟨rfl, hlt⟩ := St.put_get_same hs'
      refine .inr (.inl ?_)
      rw [valOf_put_same (by rw [hr.len]; simpa using hlt)]
      exact ROwn.ren (rnL_other (by simp)) (rnL_same _ _) f2
    · by_cases hts : t = s
      · subst hts
        rcases St.put_get ht hs' with h | ⟨h1, h2⟩
        · exact .inl h
        · rcases get1 t s' h1 with ⟨-, rfl⟩ | h | ⟨h, -⟩
          · refine .inr (.inl ?_)
            rw [valOf_put (by simpa using hds')]
            exact tupS (g.ren (rnL (.comp t j) (.slot d))) (fun _ _ h => h) (Keep.ren (rnL_other (by simp))) (fun i hi => Keep.ren (rnL_other (by simpa using hi))) _ _
          · exact .inl h
          · exact absurd rfl h
      · have hst : ∀ t2, t2 ≠ s → ∀ s2, ((st.kill s).set s (.tup (vs.set j .undef))).tmps[t2]? = some s2 → s2 = .undef ∨ (st.tmps[t2]? = some s2 ∧ mention s s2 = false) := fun t2 h2 s2 h => by
          rcases get1 t2 s2 h with ⟨e, -⟩ | h | ⟨-, h⟩
          · exact absurd e h2
          · exact .inl h
          · exact .inr h
        rcases St.put_get ht hs' with h | ⟨h1, h2⟩
        · exact .inl h
        · rcases hst t hts s' h1 with h | ⟨h3, h4⟩
          · exact .inl h
          · refine .inr (.inr ⟨h3, valOf_put (by simpa using Ne.symm ht), fun o' ho' => Keep.ren (rnL_other ((uses_mention hts h4 ho').2.2.2 j)), fun s1 e => ?_⟩)
            obtain ⟨x0, hx0, hb0⟩ := dep_big (hr.tmp t _ h3) e
            have hb := box1 s1 x0 hx0 hb0
            have hd0 : s1 ≠ d := fun e2 => by
              subst e2
              have := h2 _ hb (bigK_heavy hb0)
              rw [dep_mention e] at this
              cases this
            exact ⟨valOf_put (by simpa using Ne.symm hd0), fun x hx hb => ⟨x, St.put_big (box1 s1 x hx hb) hb (by simpa using Ne.symm hd0), rfl⟩⟩

/-! ## A variable of its own -/

theorem Keep.alloc {o' : Own} {g : Gh} {w : World} {o : Obj} {t : Own} : Keep o' g w (g.upd w.heap.size t) (w.alloc o) := by
  intro k b hk hb
  have hlt := arr_lt hb
  refine ⟨by rw [Gh.upd_other _ _ (by omega)]; exact hk, ?_⟩
  simp only [World.alloc]
  rw [Array.getElem?_push_lt hlt]
  rw [Array.getElem?_eq_getElem hlt] at hb
  exact hb

theorem Fr.alloc {g : Gh} {w : World} {o : Obj} {t : Own} : Fr pu g w (g.upd w.heap.size t) (w.alloc o) :=
  ⟨by simp, Keep.alloc, Keep.alloc, fun _ _ h => h, fun _ _ => Keep.alloc, fun _ _ _ => Keep.alloc, fun _ => rfl, ⟨rfl, rfl⟩⟩

theorem heap_alloc (w : World) (o : Obj) : (w.alloc o).heap[w.heap.size]? = some o := by
  show (w.heap.push o)[w.heap.size]? = _
  simp

/-- A new variable in a slot. -/
theorem Rel.newBox {a : Act} {w : World} {g : Gh} (hr : Rel st a w g) {d : Nat} {c : Array Value} {T : TypeId} {cs : List SV} (hl : c.size = cs.length)
    (hc : ∀ (j : Nat) (s : SV), cs[j]? = some s → ∃ u, c[j]? = some u ∧ RC g w (.cell d j) u s ∧ u.oneCell' = true) (hown : ∀ (j : Nat) n xs, cs[j]? = some (.own n xs) → xs = [] ∧ ∀ u, c[j]? = some u → ∃ x, u = .slice x 0 0) :
    Rel (st.put (some d) (.box cs)) (a.put (some d) (.pointer (some ⟨w.heap.size, 0, none⟩))) (w.alloc (.cells c T)) (g.upd w.heap.size (.box d)) := by
  refine Rel.step hr (by rw [put_size, St.put_len]; exact hr.len) (by rw [put_defers]; exact hr.def0) (fun _ _ h => h) (fun t s' hs' => ?_) (by rw [St.put_H]; exact hr.hp.keep (fun _ _ => Keep.alloc) (fun _ _ h => h) rfl)
  by_cases ht : t = d
  · subst ht
    obtain ⟨rfl, hlt⟩ := St.put_get_same hs'
    refine .inr (.inl ?_)
    rw [valOf_put_same (by rw [hr.len]; exact hlt)]
    refine ⟨w.heap.size, c, T, rfl, by simp, heap_alloc _ _, hl, fun j s hj => ?_⟩
    obtain ⟨u, e1, e2, e3⟩ := hc j s hj
    refine ⟨u, e1, ?_, e3⟩
    cases s with
    | d x => exact Rd.keep Keep.alloc (fun _ _ h => h) e2
    | own n xs =>
      obtain ⟨rfl, h2⟩ := hown j n xs hj
      exact .inl ⟨rfl, h2 u e1⟩
    | undef => trivial
    | _ => exact e2.elim
  · rcases other_slot hr (st1 := st) (.pointer (some ⟨w.heap.size, 0, none⟩)) (fun t s h => .inr h) (fun t s x h s1 e hx hb => ⟨x, hx, rfl⟩) (by simpa using Ne.symm ht) hs' with h | ⟨h1, h2, h3, h4, h5⟩
    · exact .inl h
    · exact .inr (.inr ⟨h2, h3, fun o' ho' => Keep.alloc, h5⟩)

/-- The cells of a new variable: its type's zero. -/
def zeroCells (P : Program) (T : TypeId) : Option (List D) := (zeroD P T).map D.cells

theorem OpS.alloc {o : Oper} {T : TypeId} {d : Nat} {cs : List D} (hop : o.op = .alloc T) (hd : o.dst = some d) (hz : zeroCells P T = some cs) : OpS P pu st o (st.put (some d) (.box (cs.map .d))) := by
  refine OpS.value fun a w g hr => ?_
  simp only [zeroCells, Option.map_eq_some_iff] at hz
  obtain ⟨z, h1, rfl⟩ := hz
  obtain ⟨v, e1, e2⟩ := zeroD_sound (P := P) (g := g) (w := w) h1
  obtain ⟨c1, c2⟩ := e1.cells
  rw [hd]
  refine ⟨.pointer (some ⟨w.heap.size, 0, none⟩), w.alloc (.cells v.cells T), _, ?_, hr.newBox (T := T) (by simpa using c1) (fun j s hj => ?_) (fun j n xs hj => ?_), Fr.alloc⟩
  · unfold execOp; rw [hop]
    simp only [Instr.alloc, Sem.run_bind, e2, Result.andThen_ok, newVar, newRow, run_newObj, Sem.run_pure]
    rfl
  · simp only [List.getElem?_map, Option.map_eq_some_iff] at hj
    obtain ⟨x, hx, rfl⟩ := hj
    exact c2 j x hx
  · simp at hj

/-- A variable with a value from the start. -/
theorem OpS.box {o : Oper} {T : TypeId} {x : Operand} {d : Nat} {y : D} (hop : o.op = .box T x) (hd : o.dst = some d) (hy : valD st x = some y) : OpS P pu st o (st.put (some d) (.box (y.cells.map .d))) := by
  refine OpS.value fun a w g hr => ?_
  have e2 := valD_d hr hy
  obtain ⟨c1, c2⟩ := e2.cells
  rw [hd]
  refine ⟨.pointer (some ⟨w.heap.size, 0, none⟩), w.alloc (.cells (a.eval x).cells T), _, ?_, hr.newBox (T := T) (by simpa using c1) (fun j s hj => ?_) (fun j n xs hj => ?_), Fr.alloc⟩
  · unfold execOp; rw [hop]
    simp only [Instr.box, Sem.run_bind, newVar, newRow, run_newObj, Result.andThen_ok, Sem.run_pure]
    rfl
  · simp only [List.getElem?_map, Option.map_eq_some_iff] at hj
    obtain ⟨x, hx, rfl⟩ := hj
    exact c2 j x hx
  · simp at hj

/-! ## A variable is written -/

/-- The cells of a value that is stored. -/
def setCells (cs : List SV) (off : Nat) (ys : List D) : List SV := cs.take off ++ ys.map .d ++ cs.drop (off + ys.length)

theorem oneCell_of_rd {g : Gh} {w : World} {v : Value} {x : D} (h : Rd g w v x) (hx : ∀ cs, x ≠ .agg cs) : v.oneCell' = true := by
  cases h <;> first | rfl | exact absurd rfl (hx _)

theorem run_storeCells' (k off : Nat) (T : TypeId) : ∀ (vs : List Value) (i : Nat) (c : Array Value) (w : World), w.heap[k]? = some (.cells c T (0, 0)) → off + i + vs.length ≤ c.size → (∀ v ∈ vs, v.oneCell' = true) →
    ∃ w', (storeCells ⟨k, off, none⟩ vs i).run P w = .ok () w' ∧ w'.heap.size = w.heap.size ∧ (∀ k', k' ≠ k → w'.heap[k']? = w.heap[k']?) ∧ ∃ c' : Array Value, w'.heap[k]? = some (.cells c' T (0, 0)) ∧ c'.size = c.size ∧
      ∀ j, c'[j]? = if off + i ≤ j ∧ j < off + i + vs.length then vs[j - (off + i)]? else c[j]?
  | [], i, c, w, hb, hs, _ => ⟨w, rfl, rfl, fun _ _ => rfl, c, hb, rfl, fun j => by rw [if_neg (by simp)]⟩
  | v :: vs, i, c, w, hb, hs, hv => by
    simp only [List.length_cons] at hs
    have hcell : w.cell? ⟨k, off + i, none⟩ = some (c[off + i]'(by omega)) := by rw [cell_blk hb]; simp
    have hfz : w.frozen? ⟨k, off + i, none⟩ = false := by simp [World.frozen?, hb]
    have hb1 : (w.setCell ⟨k, off + i, none⟩ v).heap[k]? = some (.cells (c.setIfInBounds (off + i) v) T (0, 0)) := by
      simp [World.setCell, Array.getElem?_modify, hb]
    obtain ⟨w', e1, e2, e3, c', e4, e5, e6⟩ := run_storeCells' k off T vs (i + 1) (c.setIfInBounds (off + i) v) (w.setCell ⟨k, off + i, none⟩ v) hb1 (by simp; omega) (fun u hu => hv u (by simp [hu]))
    refine ⟨w', ?_, by rw [e2]; simp, fun k' hk' => ?_, c', e4, by simpa using e5, fun j => ?_⟩
    · simp only [storeCells, Sem.run_bind, Addr.add_lit]
      rw [run_store P w _ v .plain (hv v (by simp))]
      simp only [hcell, hfz, Result.andThen_ok, Bool.false_eq_true, if_false]
      exact e1
    · rw [e3 k' hk']
      simp [World.setCell, Array.getElem?_modify, Ne.symm hk']
    · rw [e6]
      simp only [List.length_cons]
      by_cases h1 : off + i = j
      · subst h1
        rw [if_neg (by omega), if_pos (by omega)]
        simp only [Nat.sub_self, List.getElem?_cons_zero]
        rw [Array.getElem?_setIfInBounds_self_of_lt (by omega)]
      · by_cases h2 : off + (i + 1) ≤ j ∧ j < off + (i + 1) + vs.length
        · rw [if_pos h2, if_pos (by omega)]
          rw [show j - (off + i) = (j - (off + (i + 1))) + 1 by omega]
          simp
        · rw [if_neg h2, if_neg (by omega), Array.getElem?_setIfInBounds_ne (by omega)]

theorem storeCells_os (k off : Nat) (T : TypeId) : ∀ (vs : List Value) (i : Nat) (c : Array Value) (w w' : World), w.heap[k]? = some (.cells c T (0, 0)) → off + i + vs.length ≤ c.size → (∀ v ∈ vs, v.oneCell' = true) →
    (storeCells ⟨k, off, none⟩ vs i).run P w = .ok () w' → SameOs w w'
  | [], i, c, w, w', hb, hs, _, h => by
    unfold storeCells at h
    rw [Sem.run_pure] at h
    cases h; exact SameOs.refl _
  | v :: vs, i, c, w, w', hb, hs, hv, h => by
    simp only [List.length_cons] at hs
    have hcell : w.cell? ⟨k, off + i, none⟩ = some (c[off + i]'(by omega)) := by rw [cell_blk hb]; simp
    have hfz : w.frozen? ⟨k, off + i, none⟩ = false := by simp [World.frozen?, hb]
    have hb1 : (w.setCell ⟨k, off + i, none⟩ v).heap[k]? = some (.cells (c.setIfInBounds (off + i) v) T (0, 0)) := by
      simp [World.setCell, Array.getElem?_modify, hb]
    simp only [storeCells, Sem.run_bind, Addr.add_lit] at h
    rw [run_store P w _ v .plain (hv v (by simp))] at h
    simp only [hcell, hfz, Result.andThen_ok, Bool.false_eq_true, if_false] at h
    exact SameOs.trans (w2 := w.setCell ⟨k, off + i, none⟩ v) ⟨rfl, rfl⟩ (storeCells_os k off T vs (i + 1) (c.setIfInBounds (off + i) v) (w.setCell ⟨k, off + i, none⟩ v) w' hb1 (by simp; omega) (fun u hu => hv u (by simp [hu])) h)
end
end Go.Sh
