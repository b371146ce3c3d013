/- A function's contract out of its body (SC.of_SW); a call of a pure function met by its contract (OW.call). -/
import Derived.Test.YtjkhgfoecplbgaaSh9
set_option linter.all false
set_option autoImplicit true
set_option relaxedAutoImplicit true
namespace Go.Sh
set_option linter.unusedSimpArgs false

theorem RC.rs {g : Gh} {w : World} {t : Nat} {v : Value} {s : SV} (h : RC g w (.slot t) v s) (tm : List SV) (val : Nat → Value) : RS g w tm val t v s := by
  cases s <;> simp only [RC] at h <;> first | exact h | exact h.elim

def initSt (n : Nat) (args : List SV) (H : List SObj) : St := ⟨args ++ List.replicate (n - args.length) (.tup []), H⟩

theorem Rel.init {g : Gh} {w : World} {vs : Array Value} {args : List SV} {H : List SObj} (h : RArgs g w vs args) (hH : RH g w H) (n : Nat) :
    Rel (initSt n args H) { tmps := vs ++ Array.replicate (n - vs.size) undef, defers := [] } w g := by
  obtain ⟨hl, hr⟩ := h
  refine ⟨by simp [initSt, hl], rfl, fun t s hs => ?_, hH⟩
  simp only [initSt] at hs
  by_cases ht : t < args.length
  · rw [List.getElem?_append_left ht] at hs
    obtain ⟨u, e1, e2⟩ := hr t s hs
    have : valOf { tmps := vs ++ Array.replicate (n - vs.size) undef, defers := [] } t = u := by
      simp [valOf, Array.getD_eq_getD_getElem?, Array.getElem?_append_left (by omega : t < vs.size), e1]
    rw [this]
    exact e2.rs _ _
  · rw [List.getElem?_append_right (by omega), List.getElem?_replicate] at hs
    split at hs
    · rename_i hlt
      cases hs
      refine ⟨#[], ?_, rfl, by simp⟩
      simp [valOf, Array.getD_eq_getD_getElem?, Array.getElem?_append_right (by omega : vs.size ≤ t), Array.getElem?_replicate, hl, hlt]
      rfl
    · cases hs

/-- A result variable, as what the caller gets; and the slot whose list it hands over. -/
def resV (P : Program) (st : St) : ResultVar → Option (SV × Option Nat)
  | .tmp t => match st.tmps[t]? with
    | some (.d x) => some (.d x, none)
    | some (.own n xs) => some (.own n xs, some t)
    | some (.lent (.slot s) n xs) => match st.tmps[s]? with
      | some (.own _ _) => some (.d (.list n xs), none)
      | _ => none
    | _ => none
  | .cell a T => match boxAt st a with
    | some cs => match loadS P T (.cell a 0) cs with
      | some (.d x) => some (.d x, none)
      | _ => none
    | none => none

def resVs (P : Program) (st : St) : List ResultVar → Option (List (SV × Option Nat))
  | [] => some []
  | r :: rs => match resV P st r, resVs P st rs with
    | some x, some xs => some (x :: xs)
    | _, _ => none

def resS (xs : List (SV × Option Nat)) : SV :=
  match xs with
  | [x] => x.1
  | xs => .tup (xs.map (·.1))

/-- Where a result's list goes: by the slot that it stands in. -/
def resTo (xs : List (SV × Option Nat)) (t : Nat) : Option Loc :=
  match xs with
  | [x] => if x.2 = some t then some (.slot 0) else none
  | xs => (xs.findIdx? (·.2 == some t)).map (.comp 0)

/-- Each result that is a list of its own stands in a slot of its own. -/
def resOk (xs : List (SV × Option Nat)) : Bool :=
  (xs.zipIdx).all fun p => match p.1.2 with
    | some t => match xs with
      | [_] => true
      | _ => xs.findIdx? (·.2 == some t) == some p.2
    | none => true

def endOw (xs : List (SV × Option Nat)) : Own → Own
  | .lst (.slot t) => match resTo xs t with | some l => .lst l | none => .free
  | .lst (.hcell i j) => .lst (.hcell i j)
  | .lst _ => .free
  | .box _ => .lst .els
  | o => o

def Gh.ren (g : Gh) (f : Own → Own) : Gh := { g with ow := fun k => f (g.ow k) }

theorem Keep.ren {g : Gh} {w : World} {f : Own → Own} {o : Own} (h : f o = o) : Keep o g w (g.ren f) w := fun k b h1 h2 => ⟨by simp [Gh.ren, h1, h], h2⟩

section
variable {P : Program} {pu : Bool}

theorem ROwn.ren {g : Gh} {w : World} {f : Own → Own} {o o' : Loc} {v : Value} {n : Nat} {xs : List D} (h0 : f .free = .free) (h1 : f (.lst o) = .lst o') (h : ROwn g w o v n xs) : ROwn (g.ren f) w o' v n xs := by
  rcases h with h | ⟨k, off, cap, c, T, us, hv, hk, hb, hl, hz, hn, hc, hr⟩
  · exact .inl h
  · exact .inr ⟨k, off, cap, c, T, us, hv, by simp [Gh.ren, hk, h1], hb, hl, hz, hn, hc, fun i x hx j y hy => (hr i x hx j y hy).keep (Keep.ren h0) (fun _ _ h => h)⟩

theorem RList.free {g : Gh} {w : World} {f : Own → Own} {l : Loc} {v : Value} {n : Nat} {xs : List D} (h0 : f .free = .free) (h1 : f (.lst l) = .free) (h : RList g w (some l) v n xs) : Rd (g.ren f) w v (.list n xs) := by
  refine RList.toRd ?_
  rcases h with h | ⟨k, off, cap, c, T, fz, us, hv, hk, hb, hp, hn, hc, hr⟩
  · exact .inl h
  · refine .inr ⟨k, off, cap, c, T, fz, us, hv, ?_, hb, hp, hn, hc, fun i x hx j y hy => (hr i x hx j y hy).keep (Keep.ren h0) (fun _ _ h => h)⟩
    refine okL_free.2 ?_
    simp only [Gh.ren]
    cases ho : g.ow k <;> simp only [ho, okL] at hk
    · exact h0
    · cases hk; exact h1

/-- A result variable's value. -/
def resSem (tm : Array Value) : ResultVar → Sem Value
  | .tmp t => pure (tm.getD t undef)
  | .cell x T => do loadVar T (← asAddr (tm.getD x undef))

theorem results_eq (fn : Func) (tm : Array Value) : results fn tm = (do let vs ← fn.results.mapM (resSem tm); pure (if h : vs.size = 1 then vs[0] else .tuple vs)) := by
  unfold results
  congr 1

/-- One result variable, read at the end. -/
theorem resV_sound {st : St} {a : Act} {w : World} {g : Gh} (h : Rel st a w g) {rv : ResultVar} {s : SV} {t : Option Nat} (hv : resV P st rv = some (s, t)) {f : Own → Own} (h0 : f .free = .free) (l : Loc)
    (h1 : ∀ t', t = some t' → f (.lst (.slot t')) = .lst l) (h2 : ∀ s', rv = .tmp s' → ∀ t' n xs, st.tmps[s']? = some (.lent (.slot t') n xs) → f (.lst (.slot t')) = .free) :
    ∃ v, RC (g.ren f) w l v s ∧ (resSem a.tmps rv).run P w = .ok v w := by
  cases rv with
  | tmp t0 =>
    simp only [resV] at hv
    split at hv
    · rename_i x hs
      cases hv
      exact ⟨_, Rd.keep (Keep.ren h0) (fun _ _ h => h) (h.tmp t0 _ hs : Rd g w _ x), rfl⟩
    · rename_i n xs hs
      cases hv
      exact ⟨_, ROwn.ren h0 (h1 _ rfl) (h.tmp t0 _ hs), rfl⟩
    · rename_i s0 n xs hs
      split at hv
      · cases hv
        exact ⟨_, RList.free h0 (h2 t0 rfl _ _ _ hs) (h.tmp t0 _ hs), rfl⟩
      · cases hv
    · cases hv
  | cell x T =>
    simp only [resV] at hv
    split at hv
    · rename_i cs hb
      split at hv
      · rename_i d hl
        cases hv
        unfold boxAt at hb
        split at hb
        · rename_i cs' hs
          cases hb
          obtain ⟨k, c, T0, e1, e2, e3, e4, e5⟩ := h.tmp x _ hs
          obtain ⟨v, hL, hR⟩ := load_s (P := P) (g := g) (w0 := w) (T := T) (k := k) (off := 0) (c := c) (T0 := T0) (fz := (0, 0)) (l := fun j => .cell x j) (fun j y hj => by simpa using e5 j y hj) hl
          refine ⟨v, (hL : Rd g w v d).keep (Keep.ren h0) (fun _ _ h => h), ?_⟩
          have e1' : a.tmps.getD x undef = .pointer (some ⟨k, 0, none⟩) := e1
          simp [resSem, e1', asAddr, hR w e3]
        · cases hb
      · cases hv
    · cases hv

theorem resVs_get {st : St} : ∀ {rs : List ResultVar} {xs : List (SV × Option Nat)}, resVs P st rs = some xs → rs.length = xs.length ∧ ∀ (j : Nat) (x : SV × Option Nat), xs[j]? = some x → ∃ r, rs[j]? = some r ∧ resV P st r = some x
  | [], xs, h => by simp [resVs] at h; subst h; simp
  | r :: rs, xs, h => by
    simp only [resVs] at h
    split at h
    · rename_i x xs' h1 h2
      cases h
      obtain ⟨hl, hr⟩ := resVs_get h2
      refine ⟨by simp [hl], fun j x hj => ?_⟩
      cases j with
      | zero => simp at hj; subst hj; exact ⟨r, by simp, h1⟩
      | succ j => simpa using hr j x (by simpa using hj)
    · cases h

/-- Nothing is lent by a list that is a result. -/
def lentOk (st : St) (rs : List ResultVar) (xs : List (SV × Option Nat)) : Bool :=
  rs.all fun r => match r with
    | .tmp s => match st.tmps[s]? with
      | some (.lent (.slot t) _ _) => (resTo xs t).isNone
      | _ => true
    | _ => true

def endOk (P : Program) (rs : List ResultVar) (st : St) (r : SV) : Prop :=
  ∃ xs, resVs P st rs = some xs ∧ resOk xs = true ∧ lentOk st rs xs = true ∧ resS xs = r

theorem results_run {fn : Func} {tm : Array Value} {w : World} {vs : List Value} (hl : vs.length = fn.results.size)
    (h : ∀ (j : Nat) (rv : ResultVar), fn.results[j]? = some rv → ∃ v, vs[j]? = some v ∧ (resSem tm rv).run P w = .ok v w) :
    (results fn tm).run P w = .ok (if h : vs.toArray.size = 1 then vs.toArray[0] else .tuple vs.toArray) w := by
  have hm : ∀ (l : List ResultVar) (vs : List Value), vs.length = l.length → (∀ (j : Nat) (rv : ResultVar), l[j]? = some rv → ∃ v, vs[j]? = some v ∧ (resSem tm rv).run P w = .ok v w) →
      (l.mapM (resSem tm)).run P w = .ok vs w := by
    intro l
    induction l with
    | nil => intro vs hl _; cases vs <;> simp at hl; simp
    | cons r l ih =>
      intro vs hl h
      cases vs with
      | nil => simp at hl
      | cons v vs =>
        obtain ⟨v', e1, e2⟩ := h 0 r (by simp)
        simp only [List.getElem?_cons_zero, Option.some.injEq] at e1
        subst e1
        simp only [List.mapM_cons, Sem.run_bind, e2, Result.andThen_ok, ih vs (by simpa using hl) (fun j rv hj => by simpa using h (j + 1) rv (by simpa using hj)), Sem.run_pure]
  have := hm fn.results.toList vs (by simpa using hl) (fun j rv hj => h j rv (by simpa using hj))
  rw [results_eq, Array.mapM_eq_mapM_toList]
  simp only [Sem.run_bind, Sem.run_map, this, Result.andThen_ok, Sem.run_pure]

/-- The owner of a result's list: there is one result, or several. -/
def resLoc (n j : Nat) : Loc := if n = 1 then .slot 0 else .comp 0 j

theorem resTo_own {xs : List (SV × Option Nat)} (hok : resOk xs = true) {j : Nat} {s : SV} {t : Nat} (hj : xs[j]? = some (s, some t)) : resTo xs t = some (resLoc xs.length j) := by
  match xs, hok, hj with
  | [x], _, hj =>
    cases j with
    | zero => simp at hj; subst hj; simp [resTo, resLoc]
    | succ j => simp at hj
  | x :: y :: r, hok, hj =>
    unfold resOk at hok
    rw [List.all_eq_true] at hok
    have := hok ((s, some t), j) (List.mem_iff_getElem?.2 ⟨j, by rw [List.getElem?_zipIdx, hj]; simp⟩)
    simp only [beq_iff_eq] at this
    simp [resTo, this, resLoc]

/-- **A FUNCTION's CONTRACT OUT OF ITS BODY.** -/
theorem calls_of_SW {f : FuncId} {fn : Func} {c : Code} {args : List SV} {H : List SObj} {r : SV} (C : List SObj → Prop) (hf : P.funcs[f]? = some fn) (hb : fn.body = some c)
    (h : SW P pu c (initSt fn.ntmps args H) (fun e st' => (e = .normal ∨ e = .ret) ∧ endOk P fn.results.toList st' r ∧ C st'.H)) (w : World) (g : Gh) (vs : Array Value) (ha : RArgs g w vs args) (hH : RH g w H) :
    Calls P f vs w fun e w' => ∃ v g' H', C H' ∧ e = .returned v ∧ RRes g' w' v r ∧ RH g' w' H' ∧ Fr pu g w g' w' := by
  refine calls_of_wp hf hb (Code.wp_mono (fun e a' w' hh => ?_) (h _ _ g (Rel.init ha hH fn.ntmps)))
  obtain ⟨st', g', ⟨he, ⟨xs, hx1, hx2, hx3, hx4⟩, hH'⟩, hr, hfr⟩ := hh
  obtain ⟨hl, hg⟩ := resVs_get hx1
  -- the values, one by one
  have one : ∀ j, j < xs.length → ∃ v, (∀ s t, xs[j]? = some (s, t) → RC (g'.ren (endOw xs)) w' (resLoc xs.length j) v s) ∧ ∀ rv, fn.results[j]? = some rv → (resSem a'.tmps rv).run P w' = .ok v w' := fun j hj => by
    obtain ⟨rv, e1, e2⟩ := hg j xs[j] (by simp [hj])
    obtain ⟨v, f1, f2⟩ := resV_sound (P := P) hr (s := xs[j].1) (t := xs[j].2) e2 (f := endOw xs) rfl (resLoc xs.length j)
      (fun t' ht' => by
        have := resTo_own hx2 (j := j) (s := xs[j].1) (t := t') (by rw [List.getElem?_eq_getElem hj]; rw [← ht'])
        simp only [endOw, this])
      (fun s' hs' t' n ys hlent => by
        subst hs'
        unfold lentOk at hx3
        rw [List.all_eq_true] at hx3
        have := hx3 (.tmp s') (List.mem_iff_getElem?.2 ⟨j, e1⟩)
        simp only [hlent, Option.isNone_iff_eq_none] at this
        simp only [endOw, this])
    refine ⟨v, fun s t hst => ?_, fun rv' hrv' => ?_⟩
    · rw [List.getElem?_eq_getElem hj] at hst
      have : xs[j] = (s, t) := Option.some.inj hst
      rw [this] at f1
      exact f1
    · have : rv' = rv := by
        have e1' : fn.results[j]? = some rv := by simpa using e1
        rw [hrv'] at e1'
        exact Option.some.inj e1'
      subst this
      exact f2
  -- all of them
  have all : ∃ us : List Value, us.length = xs.length ∧ (∀ (j : Nat) (s : SV) (t : Option Nat), xs[j]? = some (s, t) → ∃ u, us[j]? = some u ∧ RC (g'.ren (endOw xs)) w' (resLoc xs.length j) u s) ∧
      ∀ (j : Nat) (rv : ResultVar), fn.results[j]? = some rv → ∃ v, us[j]? = some v ∧ (resSem a'.tmps rv).run P w' = .ok v w' := by
    have : ∃ F : Nat → Value, ∀ j, j < xs.length → (∀ s t, xs[j]? = some (s, t) → RC (g'.ren (endOw xs)) w' (resLoc xs.length j) (F j) s) ∧ ∀ rv, fn.results[j]? = some rv → (resSem a'.tmps rv).run P w' = .ok (F j) w' :=
      ⟨fun j => if hj : j < xs.length then Classical.choose (one j hj) else undef, fun j hj => by simp only [hj, dite_true]; exact Classical.choose_spec (one j hj)⟩
    obtain ⟨F, hF⟩ := this
    refine ⟨(List.range xs.length).map F, by simp, fun j s t hj => ⟨F j, by simp [get_lt hj], (hF j (get_lt hj)).1 s t hj⟩, fun j rv hj => ?_⟩
    have hlt : j < xs.length := by rw [← hl]; simpa using (Array.getElem?_eq_some_iff.1 hj).1
    exact ⟨F j, by simp [hlt], (hF j hlt).2 rv hj⟩
  obtain ⟨us, u1, u2, u3⟩ := all
  have hrun := results_run (P := P) (fn := fn) (tm := a'.tmps) (w := w') (vs := us) (by rw [u1, ← hl]; simp) u3
  have hfr' : Fr pu g w (g'.ren (endOw xs)) w' := hfr.trans ⟨Nat.le_refl _, Keep.ren rfl, Keep.ren rfl, fun _ _ h => h, fun _ i => Keep.ren rfl, fun _ i j => Keep.ren rfl, fun _ => rfl, ⟨rfl, rfl⟩⟩
  have hRH : RH (g'.ren (endOw xs)) w' st'.H := by
    refine RH.keep (g := g') (w := w') (fun o ho => ?_) (fun _ _ h => h) rfl hr.hp
    refine Keep.ren ?_
    cases o <;> simp only [usesH] at ho <;> try rfl
    rename_i l
    cases l <;> simp only [usesH] at ho
    rfl
  have hres : RRes (g'.ren (endOw xs)) w' (if h : us.toArray.size = 1 then us.toArray[0] else .tuple us.toArray) r := by
    rw [← hx4]
    match xs, u1, u2 with
    | [x], u1, u2 =>
      match us, u1 with
      | [u], _ =>
        obtain ⟨u', e1, e2⟩ := u2 0 x.1 x.2 (by simp)
        simp only [List.getElem?_cons_zero, Option.some.injEq] at e1
        subst e1
        simp only [List.size_toArray, List.length_cons, List.length_nil, Nat.zero_add, dite_true, resS]
        have e2 : RC (g'.ren (endOw [x])) w' (.slot 0) u x.1 := e2
        have : RRes (g'.ren (endOw [x])) w' u x.1 := by
          obtain ⟨s, t⟩ := x
          cases s <;> first | exact e2 | exact e2.elim
        simpa using this
    | [], u1, u2 =>
      match us, u1 with
      | [], _ => exact ⟨#[], by simp, rfl, by simp⟩
    | x :: y :: r', u1, u2 =>
      have hne : ¬ us.toArray.size = 1 := by simp [u1]
      rw [dif_neg hne]
      refine ⟨us.toArray, rfl, by simp [u1], fun j s hj => ?_⟩
      simp only [List.getElem?_map, Option.map_eq_some_iff] at hj
      obtain ⟨⟨s', t⟩, h1, h2⟩ := hj
      simp only at h2
      subst h2
      obtain ⟨u, e1, e2⟩ := u2 j s' t h1
      rw [show resLoc (x :: y :: r').length j = .comp 0 j by simp [resLoc]] at e2
      exact ⟨u, by simpa using e1, e2⟩
  have fin : ∃ v g' H', C H' ∧ Ending.returned (if h : us.toArray.size = 1 then us.toArray[0] else .tuple us.toArray) = .returned v ∧ RRes g' w' v r ∧ RH g' w' H' ∧ Fr pu g w g' w' := ⟨_, _, _, hH', rfl, hres, hRH, hfr'⟩
  rcases he with rfl | rfl
  · exact ⟨hr.def0, _, hrun, fin⟩
  · exact ⟨hr.def0, _, hrun, fin⟩

theorem SC.of_SW {f : FuncId} {fn : Func} {c : Code} {args : List SV} {H H' : List SObj} {r : SV} (hf : P.funcs[f]? = some fn) (hb : fn.body = some c)
    (h : SW P pu c (initSt fn.ntmps args H) (fun e st' => (e = .normal ∨ e = .ret) ∧ endOk P fn.results.toList st' r ∧ st'.H = H')) : SC P pu f args H r H' := by
  intro w g vs ha hH
  refine (calls_of_SW (· = H') hf hb h w g vs ha hH).mono fun e w' hh => ?_
  obtain ⟨v, g', _, rfl, h'⟩ := hh
  exact ⟨v, g', h'⟩
end
end Go.Sh
