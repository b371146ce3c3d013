/- Rules for functions that a program has taken out of the code: loops as 'iter', ways out, cases of a truth value inside a region. -/
import Derived.Test.YtjkhgfoecplbgaaSh15
import Derived.KernelRfl
set_option linter.all false
set_option autoImplicit true
set_option relaxedAutoImplicit true
namespace Go.Sh
set_option linter.unusedSimpArgs false
set_option linter.unusedVariables false

/-! ## The plain side -/

/-- So many rounds at most. -/
def iter {α β : Type} (body : α → Option (α ⊕ β)) : Nat → α → Option β
  | 0, _ => none
  | n + 1, x => match body x with
    | some (.inl y) => iter body n y
    | some (.inr b) => some b
    | none => none

def idx {α : Type} (l : List α) (i : Int) : Option α := if 0 ≤ i then l[i.toNat]? else none

theorem idx_inv {α : Type} {l : List α} {i : Int} {x : α} (h : idx l i = some x) : 0 ≤ i ∧ l[i.toNat]? = some x := by
  unfold idx at h
  split at h
  · exact ⟨by assumption, h⟩
  · cases h

theorem idx_map {α : Type} {l : List α} {i : Int} {x : α} (f : α → D) (h : idx l i = some x) : (l.map f)[i.toNat]? = some (f x) := by
  rw [List.getElem?_map, (idx_inv h).2]; rfl

def chk {α : Type} (b : Bool) (x : Option α) : Option α := bif b then x else none

section
variable {α β : Type} {a b : α} {c : Bool} {r : α}

theorem bif_t (hc : c = true) (h : (bif c then a else b) = r) : a = r := by subst hc; exact h
theorem bif_f (hc : c = false) (h : (bif c then a else b) = r) : b = r := by subst hc; exact h
theorem bind_inv {o : Option α} {f : α → Option β} {r : β} (h : o.bind f = some r) : ∃ x, o = some x ∧ f x = some r := by
  cases o with
  | none => cases h
  | some x => exact ⟨x, rfl, h⟩
theorem chk_inv {o : Option α} (h : chk c o = some r) : c = true ∧ o = some r := by
  unfold chk at h
  cases c
  · cases h
  · exact ⟨rfl, h⟩
theorem sum_inv {γ : Type} {s : β ⊕ γ} {f : β → α} {g : γ → α} (h : Sum.elim f g s = r) : (∃ x, s = .inl x ∧ f x = r) ∨ ∃ y, s = .inr y ∧ g y = r := by
  cases s with
  | inl x => exact .inl ⟨x, rfl, h⟩
  | inr y => exact .inr ⟨y, rfl, h⟩
end

/-! ## The shadow's side -/
section
variable {P : Program} {pu : Bool} {st : St} {ops : Array Oper} {k : Nat}

theorem thenS_n {n : St → Prop} {Q : Exit → St → Prop} {s : St} (h : n s) : thenS n Q .normal s := h
theorem thenS_e {n : St → Prop} {Q : Exit → St → Prop} {s : St} {i : Nat} (h : Q (.exit i) s) : thenS n Q (.exit i) s := h
theorem thenS_r {n : St → Prop} {Q : Exit → St → Prop} {s : St} (h : Q .ret s) : thenS n Q .ret s := h
theorem blockS_n {id : Nat} {Q : Exit → St → Prop} {s : St} (h : Q .normal s) : blockS id Q .normal s := h
theorem blockS_r {id : Nat} {Q : Exit → St → Prop} {s : St} (h : Q .ret s) : blockS id Q .ret s := h
theorem blockS_hit {id : Nat} {Q : Exit → St → Prop} {s : St} (h : Q .normal s) : blockS id Q (.exit id) s := by simp only [blockS, if_pos]; exact h
theorem blockS_miss {id id' : Nat} {Q : Exit → St → Prop} {s : St} (hne : (id' == id) = false) (h : Q (.exit id') s) : blockS id Q (.exit id') s := by
  have hne : id' ≠ id := by simpa using hne
  simp only [blockS, if_neg hne]; exact h

theorem wp_loop_fuel {γ β : Type} {c : Code} {Q : Exit → Act → World → Prop} (body : γ → Option (γ ⊕ β)) (I : γ → Act → World → Prop) (b : β)
    (round : ∀ x a w, I x a w → ∀ o, body x = some o → c.wp P (Exit.then (fun a' w' => ∃ y, o = .inl y ∧ I y a' w') (fun e a' w' => ∃ b', o = .inr b' ∧ (b' = b → Q e a' w'))) a w) :
    ∀ n x a w, I x a w → iter body n x = some b → (Code.loop c).wp P Q a w := by
  intro n
  intro x a w hI hit kb k cs
  have key : ∀ n x a w, I x a w → iter body n x = some b →
      ∃ e a' w', Q e a' w' ∧ Arrives P (lone (kb.at a (.code c :: .inLoop c :: k)) cs w) kb k cs e a' w' := by
    intro n
    induction n with
    | zero => intro x a w _ h; cases h
    | succ n ih =>
      intro x a w hI hit
      simp only [iter] at hit
      have hsome : ∃ o, body x = some o := by
        cases hb : body x with
        | none => rw [hb] at hit; cases hit
        | some o => exact ⟨o, rfl⟩
      obtain ⟨o, ho⟩ := hsome
      obtain ⟨e, a₁, w₁, hq, harr⟩ := round x a w hI o ho kb (.inLoop c :: k) cs
      rw [ho] at hit
      cases e with
      | normal =>
        obtain ⟨y, rfl, hI₁⟩ := hq
        obtain ⟨e₂, a₂, w₂, hq₂, harr₂⟩ := ih y a₁ w₁ hI₁ hit
        exact ⟨e₂, a₂, w₂, hq₂, .of_steps (Steps.trans harr (.one step_inLoop)) harr₂⟩
      | exit id => obtain ⟨b', rfl, hq⟩ := hq; exact ⟨_, a₁, w₁, hq (by simpa using hit), .pass (x := .inLoop c) rfl (fun _ _ => .inl (by simp)) harr⟩
      | goto l => obtain ⟨b', rfl, hq⟩ := hq; exact ⟨_, a₁, w₁, hq (by simpa using hit), .pass (x := .inLoop c) rfl (fun _ _ => .inl (by simp)) harr⟩
      | ret => obtain ⟨b', rfl, hq⟩ := hq; exact ⟨_, a₁, w₁, hq (by simpa using hit), .pass (x := .inLoop c) rfl (fun _ _ => .inl (by simp)) harr⟩
      | panic ch => obtain ⟨b', rfl, hq⟩ := hq; exact ⟨_, a₁, w₁, hq (by simpa using hit), .pass (x := .inLoop c) rfl (fun _ _ => .inl (by simp)) harr⟩
      | outgrown => obtain ⟨b', rfl, hq⟩ := hq; exact ⟨_, a₁, w₁, hq (by simpa using hit), .pass (x := .inLoop c) rfl (fun _ _ => .inl (by simp)) harr⟩
  obtain ⟨e, a', w', hq, harr⟩ := key n x a w hI hit
  exact ⟨e, a', w', hq, .of_steps (.one step_loop) harr⟩

/-- A loop that a plain 'iter' tells: each round is a plain body. 'S': the state at a round's head (with emptied slots 'ts'); 'E': how the loop ends. -/
theorem SW.iter {γ β : Type} {c : Code} {Q : Exit → St → Prop} (ts : List Nat) {body : γ → Option (γ ⊕ β)} (S : γ → St) (E : β → Exit → St → Prop) {fuel : Nat} {x : γ} {b : β} (hit : Sh.iter body fuel x = some b) (h0 : st.forget ts = S x)
    (round : ∀ x o, body x = some o → SW P pu c (S x) (thenS (fun s' => ∃ y, o = .inl y ∧ s'.forget ts = S y) (fun e s' => ∃ b, o = .inr b ∧ E b e s')))
    (after : ∀ e s', E b e s' → Q e s') : SW P pu (.loop c) st Q := by
  refine SW.forget ts h0 ?_
  intro a w g hr
  refine wp_loop_fuel (γ := γ) body (fun x a' w' => ∃ g', Rel (S x) a' w' g' ∧ Fr pu g w g' w') b (fun x a1 w1 ⟨g1, r1, f1⟩ o ho => ?_) fuel x a w ⟨g, hr, Fr.refl _ _ _⟩ hit
  refine Code.wp_mono (fun e a' w' hh => ?_) (round x o ho a1 w1 g1 r1)
  obtain ⟨st', g', q, r, f⟩ := hh
  cases e with
  | normal => obtain ⟨y, rfl, h1⟩ := q; exact ⟨y, rfl, g', h1 ▸ r.forgets, f1.trans f⟩
  | _ => obtain ⟨b', rfl, h1⟩ := q; exact ⟨b', rfl, fun e => ⟨st', g', after _ _ (e ▸ h1), r, f1.trans f⟩⟩

/-! ## Cases inside a region -/

theorem Rel.litTrue {a : Act} {w : World} {g : Gh} {st' : St} (h : Rel st a w g) (e : st = st') : Rel st' a w g := e ▸ h

/-- A truth value is known: the state with it. -/
theorem OWk.case {Q : St → Prop} (b : Bool) (S : Bool → St) (h0 : st = S b) (hT : b = true → OWk P pu ops k (S true) Q) (hF : b = false → OWk P pu ops k (S false) Q) : OWk P pu ops k st Q := by
  subst h0
  cases b
  · exact hF rfl
  · exact hT rfl

/-- Two ways that meet again. -/
theorem OWk.merge {Q : St → Prop} {steal : List Nat} (n : Nat) (ts : List Nat) (b : Bool) (S S' : Bool → St) (h0 : st = S b) (hT : (runSeg P steal ops n k (S true)).map (·.forget ts) = some (S' true)) (hF : (runSeg P steal ops n k (S false)).map (·.forget ts) = some (S' false))
    (h : OWk P pu ops (k + n) (S' b) Q) : OWk P pu ops k st Q := by
  subst h0
  have key : (runSeg P steal ops n k (S b)).map (·.forget ts) = some (S' b) := by cases b <;> assumption
  simp only [Option.map_eq_some_iff] at key
  obtain ⟨st1, h1, h2⟩ := key
  refine OWk.seg n h1 ?_
  intro a w g hr
  exact h a w g (h2 ▸ hr.forgets)

theorem OWk.forget {Q : St → Prop} (ts : List Nat) {st' : St} (hst : st.forget ts = st') (h : OWk P pu ops k st' Q) : OWk P pu ops k st Q := by
  subst hst
  exact fun a w g hr => h a w g hr.forgets

/-- The same in other words. -/
theorem OWk.cast {Q : St → Prop} {st' : St} (e : st = st') (h : OWk P pu ops k st' Q) : OWk P pu ops k st Q := e ▸ h

theorem OBk.case {m : Nat} {Q : St → Prop} (b : Bool) (S : Bool → St) (h0 : st = S b) (hT : b = true → OBk P ops m k (S true) Q) (hF : b = false → OBk P ops m k (S false) Q) : OBk P ops m k st Q := by
  subst h0
  cases b
  · exact hF rfl
  · exact hT rfl

/-! ## Nil as a list of one's own -/

theorem Rel.nilOwn {a : Act} {w : World} {g : Gh} (h : Rel st a w g) {t n : Nat} (ht : st.tmps[t]? = some (.d .nilS)) : Rel (st.set t (.own n [])) a w g := by
  have hlt := get_lt ht
  refine Rel.step h (by simp [St.set, h.len]) h.def0 (fun _ _ h => h) (fun t' s' hs' => ?_) h.hp
  by_cases hne : t = t'
  · subst hne
    simp only [St.set, List.getElem?_set_self hlt, Option.some.injEq] at hs'
    subst hs'
    refine .inr (.inl (.inl ⟨rfl, ?_⟩))
    exact Rd.nilS_inv (h.tmp t _ ht)
  · simp only [St.set, List.getElem?_set_ne hne] at hs'
    refine .inr (.inr ⟨hs', rfl, fun _ _ => Keep.refl _ _ _, fun s0 e => ⟨rfl, fun x hx hb => ⟨x, ?_, rfl⟩⟩⟩)
    simp only [St.set]
    by_cases h2 : t = s0
    · subst h2; rw [ht] at hx; cases hx; simp [bigK] at hb
    · rw [List.getElem?_set_ne h2]; exact hx

def St.nils (st : St) : List (Nat × Nat) → St
  | [] => st
  | (t, n) :: l => (match st.tmps[t]? with | some (.d .nilS) => st.set t (.own n []) | _ => st).nils l

theorem Rel.nils {a : Act} {w : World} {g : Gh} : ∀ {l : List (Nat × Nat)} {st : St}, Rel st a w g → Rel (st.nils l) a w g
  | [], _, h => h
  | (t, n) :: l, st, h => by
    simp only [St.nils]
    refine Rel.nils ?_
    split
    · exact h.nilOwn (by assumption)
    · exact h

theorem SW.nils {c : Code} {Q : Exit → St → Prop} (l : List (Nat × Nat)) {st' : St} (hst : st.nils l = st') (h : SW P pu c st' Q) : SW P pu c st Q := by
  subst hst
  exact fun a w g hr => h a w g hr.nils

theorem OWk.nils {Q : St → Prop} (l : List (Nat × Nat)) {st' : St} (hst : st.nils l = st') (h : OWk P pu ops k st' Q) : OWk P pu ops k st Q := by
  subst hst
  exact fun a w g hr => h a w g hr.nils

/-! ## A function's end -/

/-- What the result variables hold at the end, computed. -/
def endV (P : Program) (rs : List ResultVar) (st : St) : Option SV :=
  match resVs P st rs with
  | some xs => if resOk xs && lentOk st rs xs then some (resS xs) else none
  | none => none

theorem endV_ok {rs : List ResultVar} {r : SV} (h : endV P rs st = some r) : endOk P rs st r := by
  unfold endV at h
  split at h
  · rename_i xs hx
    split at h
    · rename_i hc
      rw [Bool.and_eq_true] at hc
      exact ⟨xs, hx, hc.1, hc.2, by simpa using h⟩
    · cases h
  · cases h

/-- How a body ends: as it is, or with nil lists taken as lists of one's own. -/
def EndQ (P : Program) (rs : List ResultVar) (H : List SObj) (r : SV) (e : Exit) (st : St) : Prop :=
  (e = .normal ∨ e = .ret) ∧ ∃ l, endV P rs (st.nils l) = some r ∧ st.H = H

theorem EndQ.ret {rs : List ResultVar} {H : List SObj} {r : SV} (l : List (Nat × Nat)) (h : endV P rs (st.nils l) = some r) (hH : st.H = H) : EndQ P rs H r .ret st := ⟨.inr rfl, l, h, hH⟩
theorem EndQ.normal {rs : List ResultVar} {H : List SObj} {r : SV} (l : List (Nat × Nat)) (h : endV P rs (st.nils l) = some r) (hH : st.H = H) : EndQ P rs H r .normal st := ⟨.inl rfl, l, h, hH⟩

theorem St.nils_H (l : List (Nat × Nat)) : ∀ st : St, (st.nils l).H = st.H := by
  induction l with
  | nil => intro st; rfl
  | cons p l ih =>
    intro st
    obtain ⟨t, n⟩ := p
    simp only [St.nils]
    rw [ih]
    split <;> rfl

theorem PC.of_SW {f : FuncId} {fn : Func} {c : Code} {args : List SV} {r : SV} (hf : P.funcs[f]? = some fn) (hb : fn.body = some c)
    (h : ∀ H, SW P true c (initSt fn.ntmps args H) (EndQ P fn.results.toList H r)) : PC P f args r := by
  intro H
  refine SC.of_SW hf hb ?_
  intro a w g hr
  refine Code.wp_mono (fun e a' w' hh => ?_) (h H a w g hr)
  obtain ⟨st', g', ⟨he, l, h1, h2⟩, r1, f⟩ := hh
  exact ⟨st'.nils l, g', ⟨he, endV_ok h1, by rw [St.nils_H]; exact h2⟩, r1.nils, f⟩
end
end Go.Sh
