/- The rules that printed proofs name: what is kept of a state stands there as a list of slots and what they hold (so the kernel compares it with what it computed, and with nothing else). -/
import Derived.Test.YtjkhgfoecplbgaaSh18
set_option linter.all false
set_option autoImplicit true
set_option relaxedAutoImplicit true
set_option linter.unusedVariables false
set_option linter.unusedSimpArgs false
namespace Go.Sh

def vI (n : Int) : SV := .d (.int .i64 n)
def vB (b : Bool) : SV := .d (.bool b)
def vS (l : List UInt8) : SV := .d (.str l)

def pickL : List Nat → Nat → List SV → List (Nat × SV)
  | _, _, [] => []
  | [], t, s :: r => []
  | k :: ks, t, s :: r => if k = t then (k, s) :: pickL ks (t + 1) r else pickL (k :: ks) (t + 1) r

theorem keepL_nil : ∀ (t : Nat) (l : List SV), keepL [] t l = spL [] l.length t
  | _, [] => rfl
  | t, s :: r => by simp [keepL, spL, keepL_nil (t + 1) r]

theorem spL_skip {n t t' : Nat} {s : SV} {l : List (Nat × SV)} (h : t' ≠ t) : spL ((t', s) :: l) (n + 1) t = .undef :: spL ((t', s) :: l) n (t + 1) := by simp [spL, h]

theorem pickL_sp : ∀ (L : List Nat) (t : Nat) (l : List SV), (∀ x ∈ L, t ≤ x) → List.Pairwise (· < ·) L → keepL L t l = spL (pickL L t l) l.length t
  | [], t, l, _, _ => by cases l <;> simp [pickL, keepL_nil, keepL, spL]
  | k :: ks, t, [], _, _ => by simp [keepL, pickL, spL]
  | k :: ks, t, s :: r, hlo, hp => by
    simp only [keepL, pickL, List.length_cons]
    rw [List.pairwise_cons] at hp
    split
    · rename_i e
      subst e
      simp only [spL, if_true]
      rw [pickL_sp ks (k + 1) r (fun x hx => hp.1 x hx) hp.2]
    · rename_i hne
      have hlo' : ∀ x ∈ k :: ks, t + 1 ≤ x := fun x hx => by
        have h1 := hlo k (by simp)
        rcases List.mem_cons.1 hx with e | e
        · omega
        · have := hp.1 x e; omega
      rw [pickL_sp (k :: ks) (t + 1) r hlo' (List.pairwise_cons.2 hp)]
      have hgt : ∀ p ∈ pickL (k :: ks) (t + 1) r, t < p.1 := pickL_gt (k :: ks) (t + 1) r hlo'
      cases hq : pickL (k :: ks) (t + 1) r with
      | nil => simp [spL]
      | cons p q =>
        obtain ⟨t', s'⟩ := p
        have := hgt (t', s') (by rw [hq]; simp)
        rw [spL_skip (by simp only at this; omega)]
where
  pickL_gt : ∀ (L : List Nat) (t : Nat) (l : List SV), (∀ x ∈ L, t ≤ x) → ∀ p ∈ pickL L t l, t ≤ p.1
    | [], t, l, _, p, h => by cases l <;> simp [pickL] at h
    | k :: ks, t, [], _, p, h => by simp [pickL] at h
    | k :: ks, t, s :: r, hlo, p, h => by
      simp only [pickL] at h
      split at h
      · rename_i e
        subst e
        rcases List.mem_cons.1 h with e | e
        · subst e; exact Nat.le_refl _
        · by_cases hk : ∀ x ∈ ks, k + 1 ≤ x
          · have := pickL_gt ks (k + 1) r hk p e; omega
          · have := pickL_mem ks (k + 1) r p e
            exact hlo p.1 (by simp [this])
      · rename_i hne
        have := pickL_mem (k :: ks) (t + 1) r p h
        exact hlo p.1 this
  pickL_mem : ∀ (L : List Nat) (t : Nat) (l : List SV), ∀ p ∈ pickL L t l, p.1 ∈ L
    | [], t, l, p, h => by cases l <;> simp [pickL] at h
    | k :: ks, t, [], p, h => by simp [pickL] at h
    | k :: ks, t, s :: r, p, h => by
      simp only [pickL] at h
      split at h
      · rcases List.mem_cons.1 h with e | e
        · subst e; simp
        · exact List.mem_cons_of_mem _ (pickL_mem ks (t + 1) r p e)
      · exact pickL_mem (k :: ks) (t + 1) r p h

/-- What is kept, as a list. -/
def pickR (n : Nat) (L : List Nat) (st : St) : Option (List (Nat × SV) × List SObj) :=
  if rising L && (st.tmps.length == n && keepOk L (keepL L 0 st.tmps)) then some (pickL L 0 st.tmps, st.H) else none

theorem keepR_of_pick {n : Nat} {L : List Nat} {st : St} {l : List (Nat × SV)} {H : List SObj} (h : pickR n L st = some (l, H)) : keepR L st = some (sp n l H) := by
  unfold pickR at h
  split at h
  · rename_i hc
    simp only [Bool.and_eq_true, beq_iff_eq] at hc
    simp only [Option.some.injEq, Prod.mk.injEq] at h
    obtain ⟨rfl, rfl⟩ := h
    obtain ⟨h1, h2, h3⟩ := hc
    unfold keepR keepO
    rw [if_pos h1]
    simp only [h3, if_true, Option.some.injEq, sp]
    rw [pickL_sp L 0 st.tmps (fun _ _ => Nat.zero_le _) (rising_pw h1), h2]
  · cases h

theorem bind_pick {n : Nat} {L : List Nat} {o : Option St} {l : List (Nat × SV)} {H : List SObj} (h : o.bind (pickR n L) = some (l, H)) : o.bind (keepR L) = some (sp n l H) := by
  simp only [Option.bind_eq_some_iff] at h ⊢
  obtain ⟨st, h1, h2⟩ := h
  exact ⟨st, h1, keepR_of_pick h2⟩

section
variable {P : Program} {pu : Bool} {st : St} {ops : Array Oper} {k : Nat} {Q : St → Prop} {m : Nat} (n : Nat) (H : List SObj)

theorem SW.kp {c : Code} {Q : Exit → St → Prop} (L : List Nat) (l : List (Nat × SV)) (hst : pickR n L st = some (l, H)) (h : SW P pu c (sp n l H) Q) : SW P pu c st Q := SW.keep L (keepR_of_pick hst) h
theorem OWk.sg (steal L : List Nat) (j : Nat) (l : List (Nat × SV)) (hr : (runSeg P steal ops j k st).bind (pickR n L) = some (l, H)) (h : OWk P pu ops (k + j) (sp n l H) Q) : OWk P pu ops k st Q := OWk.segK steal L j (bind_pick hr) h
theorem OBk.sg (steal L : List Nat) (j : Nat) (l : List (Nat × SV)) (hm : decide (k + j ≤ m) = true) (hr : (runSegB P steal ops j k st).bind (pickR n L) = some (l, H)) (h : OBk P ops m (k + j) (sp n l H) Q) : OBk P ops m k st Q := OBk.segB steal L j hm (bind_pick hr) h
theorem OWk.mg (L : List Nat) (j : Nat) (b : Bool) (S : Bool → St) (l : Bool → List (Nat × SV)) (h0 : st = S b) (hT : (runSeg P [] ops j k (S true)).bind (pickR n L) = some (l true, H)) (hF : (runSeg P [] ops j k (S false)).bind (pickR n L) = some (l false, H))
    (h : OWk P pu ops (k + j) (sp n (l b) H) Q) : OWk P pu ops k st Q := OWk.mergeK L j b S (fun b => sp n (l b) H) h0 (bind_pick hT) (bind_pick hF) h
theorem OBk.mg (L : List Nat) (j : Nat) (b : Bool) (S : Bool → St) (l : Bool → List (Nat × SV)) (hm : decide (k + j ≤ m) = true) (h0 : st = S b) (hT : (runSegB P [] ops j k (S true)).bind (pickR n L) = some (l true, H)) (hF : (runSegB P [] ops j k (S false)).bind (pickR n L) = some (l false, H))
    (h : OBk P ops m (k + j) (sp n (l b) H) Q) : OBk P ops m k st Q := OBk.mergeB L j b S (fun b => sp n (l b) H) hm h0 (bind_pick hT) (bind_pick hF) h
theorem OWk.on {d : Option Tmp} {s : SV} (L : List Nat) (l : List (Nat × SV)) (hb : BAt P ops k st d s) (hst : pickR n L (st.put d s) = some (l, H)) (h : OWk P pu ops (k + 1) (sp n l H) Q) : OWk P pu ops k st Q := OWk.at_ L hb (keepR_of_pick hst) h
theorem OBk.on {d : Option Tmp} {s : SV} (L : List Nat) (l : List (Nat × SV)) (hm : decide (k < m) = true) (hb : BAt P ops k st d s) (hst : pickR n L (st.put d s) = some (l, H)) (h : OBk P ops m (k + 1) (sp n l H) Q) : OBk P ops m k st Q := OBk.atB L hm hb (keepR_of_pick hst) h
theorem OWk.app {s d w : Nat} {xs ys zs : List D} (L : List Nat) (l : List (Nat × SV)) (h : appAt P ops k st = some (s, d, w, xs, ys)) (hz : xs ++ ys = zs) (hc : zs.length ≤ room) (hst : pickR n L ((st.take s).put (some d) (.own w zs)) = some (l, H))
    (hn : OWk P pu ops (k + 1) (sp n l H) Q) : OWk P pu ops k st Q := OWk.append L h hz hc (keepR_of_pick hst) hn
theorem OWk.appN {d w : Nat} {ys zs : List D} (L : List Nat) (l : List (Nat × SV)) (h : appNAt P ops k st = some (d, w, ys)) (hz : ys = zs) (hc : zs.length ≤ room) (hst : pickR n L (st.put (some d) (.own w zs)) = some (l, H))
    (hn : OWk P pu ops (k + 1) (sp n l H) Q) : OWk P pu ops k st Q := OWk.appendN L h hz hc (keepR_of_pick hst) hn
theorem OWk.cl {f : FuncId} {args : List SV} {ls : List Loc} {gs : List (Nat × Nat)} {d : Option Tmp} {r : SV} (tr L : List Nat) (l : List (Nat × SV)) (hp : PC P f args r) (h : callAt P ops k st tr = some (d, f, args, ls, gs)) (hr : (resD r && (ls.isEmpty || flatSV r)) = true)
    (hst : pickR n L ((st.takes gs).put d r) = some (l, H)) (hn : OWk P pu ops (k + 1) (sp n l H) Q) : OWk P pu ops k st Q := OWk.callK tr L hp h hr (keepR_of_pick hst) hn

theorem OWk.fz (t : Nat) (L : List Nat) (l : List (Nat × SV)) (hst : pickR n L (st.freeze t) = some (l, H)) (h : OWk P pu ops k (sp n l H) Q) : OWk P pu ops k st Q := OWk.freeze t rfl (OWk.keep L (keepR_of_pick hst) h)

theorem SW.jn {α : Type} {x y : Code} {Q : Exit → St → Prop} (L : List Nat) (l : α → List (Nat × SV)) (C : α → Prop) (hj : ∀ v, C v → SW P pu y (sp n (l v) H) Q) (h : SW P pu x st (thenS (fun s => ∃ v ll, pickR n L (s.nils ll) = some (l v, H) ∧ C v) Q)) : SW P pu (.seq x y) st Q :=
  SW.seqJ L (fun v => sp n (l v) H) C hj (SW.mono h fun e s hh => by
    cases e with
    | normal => obtain ⟨v, ll, h1, h2⟩ := hh; exact ⟨v, ll, keepR_of_pick h1, h2⟩
    | _ => exact hh)

theorem SW.it {γ β : Type} {c : Code} {Q : Exit → St → Prop} (L : List Nat) {body : γ → Option (γ ⊕ β)} (l : γ → List (Nat × SV)) (E : β → Exit → St → Prop) {fuel : Nat} {x : γ} {b : β} (hit : Sh.iter body fuel x = some b) (h0 : pickR n L st = some (l x, H))
    (round : ∀ x o, body x = some o → SW P pu c (sp n (l x) H) (thenS (fun s' => ∃ y, o = .inl y ∧ pickR n L s' = some (l y, H)) (fun e s' => ∃ b, o = .inr b ∧ E b e s')))
    (after : ∀ e s', E b e s' → Q e s') : SW P pu (.loop c) st Q :=
  SW.iterK L (fun x => sp n (l x) H) E hit (keepR_of_pick h0) (fun x o h => SW.mono (round x o h) fun e s hh => by
    cases e with
    | normal => obtain ⟨y, h1, h2⟩ := hh; exact ⟨y, h1, keepR_of_pick h2⟩
    | _ => exact hh) after
end
end Go.Sh
