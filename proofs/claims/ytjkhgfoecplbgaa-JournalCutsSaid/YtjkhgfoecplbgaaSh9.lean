/- Contracts of functions (SC), the shadow's wp of a list of operations (OW) and of code (SW), and their rules. -/
import Derived.Test.YtjkhgfoecplbgaaSh8
import Derived.Tactics
import Derived.StillTail
set_option linter.all false
set_option autoImplicit true
set_option relaxedAutoImplicit true
namespace Go.Sh
set_option linter.unusedSimpArgs false

/-- A call's result: one value, or a tuple of them. -/
def RRes (g : Gh) (w : World) (v : Value) : SV → Prop
  | .tup vs => ∃ us : Array Value, v = .tuple us ∧ us.size = vs.length ∧ ∀ (j : Nat) (s : SV), vs[j]? = some s → ∃ u, us[j]? = some u ∧ RC g w (.comp 0 j) u s
  | s => RC g w (.slot 0) v s

def RArgs (g : Gh) (w : World) (vs : Array Value) (args : List SV) : Prop :=
  vs.size = args.length ∧ ∀ (j : Nat) (s : SV), args[j]? = some s → ∃ u, vs[j]? = some u ∧ RC g w (.slot j) u s

/-- THE CONTRACT OF A FUNCTION: called with values that read as these, over this shadow heap, it returns what reads as that, and leaves that shadow heap; 'pu': it leaves the heap as it was. -/
def SC (P : Program) (pu : Bool) (f : FuncId) (args : List SV) (H : List SObj) (r : SV) (H' : List SObj) : Prop :=
  ∀ (w : World) (g : Gh) (vs : Array Value), RArgs g w vs args → RH g w H →
    Calls P f vs w fun e w' => ∃ v g', e = .returned v ∧ RRes g' w' v r ∧ RH g' w' H' ∧ Fr pu g w g' w'

/-- A pure function. -/
def PC (P : Program) (f : FuncId) (args : List SV) (r : SV) : Prop := ∀ H, SC P true f args H r H

section
variable (P : Program)

/-- Is the operation to be carried out? -/
def wantS (ops : Array Oper) (st : St) (o : Oper) : Option Bool :=
  match o.guard with
  | none => some true
  | some (j, want) => match ((ops[j]?).bind (·.dst)).bind (st.tmps[·]?) with
    | some (.d (.bool b)) => some (b == want)
    | some (.tup _) => some false
    | _ => none

/-- The shadow's wp of a list of operations. -/
def OW (pu : Bool) (ops : Array Oper) (l : List Oper) (st : St) (Q : St → Prop) : Prop :=
  ∀ a w g, Rel st a w g → ∀ Qc : Exit → Act → World → Prop, (∀ st' a' w' g', Q st' → Rel st' a' w' g' → Fr pu g w g' w' → Qc .normal a' w') → wpList P ops Qc l a w

/-- The shadow's wp of code. -/
def SW (pu : Bool) (c : Code) (st : St) (Q : Exit → St → Prop) : Prop :=
  ∀ a w g, Rel st a w g → c.wp P (fun e a' w' => ∃ st' g', Q e st' ∧ Rel st' a' w' g' ∧ Fr pu g w g' w') a w
end

section
variable {P : Program} {pu : Bool} {ops : Array Oper} {rest : List Oper} {st : St} {Q : St → Prop}

theorem OW.nil (h : Q st) : OW P pu ops [] st Q := fun _ _ g hr _ hq => hq st _ _ g h hr (Fr.refl _ _ _)

theorem wantS_sound {a : Act} {w : World} {g : Gh} (h : Rel st a w g) {o : Oper} {b : Bool} (hv : wantS ops st o = some b) : Region.wanted o (yielded ops a.tmps) = b := by
  unfold wantS at hv
  unfold Region.wanted
  split at hv
  · rename_i hg
    cases hv
    rw [hg]
  · rename_i j want hg
    rw [hg]
    simp only
    have key : ∀ s, ((ops[j]?).bind (·.dst)).bind (st.tmps[·]?) = some s → ∃ t, (ops[j]?).bind (·.dst) = some t ∧ st.tmps[t]? = some s ∧ a.tmps[t]? = some (valOf a t) := fun s hs => by
      simp only [Option.bind_eq_some_iff] at hs
      obtain ⟨t, h1, h2⟩ := hs
      have hlt : t < a.tmps.size := by rw [h.len]; exact get_lt h2
      exact ⟨t, by simpa [Option.bind_eq_some_iff] using h1, h2, by simp [valOf, Array.getD_eq_getD_getElem?, hlt]⟩
    split at hv
    · rename_i b' hs
      cases hv
      obtain ⟨t, h1, h2, h3⟩ := key _ hs
      have hr : Rd g w (valOf a t) (.bool b') := h.tmp t _ h2
      unfold yielded
      rw [h1, Option.bind_some, h3]
      generalize valOf a t = v at hr
      cases hr
      cases b' <;> cases want <;> rfl
    · rename_i vs hs
      cases hv
      obtain ⟨t, h1, h2, h3⟩ := key _ hs
      obtain ⟨us, e, -⟩ := h.tmp t _ h2
      unfold yielded
      rw [h1, Option.bind_some, h3, e]
      cases want <;> rfl
    · cases hv

theorem OW.skip {o : Oper} (hw : wantS ops st o = some false) (h : OW P pu ops rest (st.put o.dst (.tup [])) Q) : OW P pu ops (o :: rest) st Q := by
  intro a w g hr Qc hq
  unfold wpList
  rw [wantS_sound hr hw, if_neg (by simp)]
  exact h _ w g (hr.putLight o.dst (v := undef) ⟨#[], rfl, rfl, by simp⟩) Qc hq

/-- A pointer into a box does not go into that box's own slot. -/
def locOk (dst : Option Tmp) : SV → Bool
  | .loc s _ => dst != some s
  | .als s => dst != some s
  | .ep s _ _ => dst != some s
  | _ => true

theorem St.put_big {d : Option Tmp} {s0 x : SV} {s1 : Nat} (h : st.tmps[s1]? = some x) (hb : bigK x ≠ 0) (hd : d ≠ some s1) : (st.put d s0).tmps[s1]? = some x := by
  cases d with
  | none => exact h
  | some t0 =>
    have hne0 : t0 ≠ s1 := fun e => hd (by rw [e])
    simp only [St.put]
    split
    · split
      · simp [St.set, St.kill, List.getElem?_set_ne hne0, h, bigK_mention hb]
      · simp [St.set, List.getElem?_set_ne hne0, h]
    · exact h

theorem Rel.putBV {a : Act} {w : World} {g : Gh} (h : Rel st a w g) {d : Option Tmp} {v : Value} {s : SV} (hb : BV g w st a v s) (hl : locOk d s = true) : Rel (st.put d s) (a.put d v) w g := by
  cases s with
  | loc s off =>
    refine h.put d fun t ht hlt => ?_
    subst ht
    obtain ⟨⟨cs, hcs⟩, k, h1, h2⟩ := hb
    have hne : t ≠ s := by simpa [locOk] using hl
    exact ⟨⟨cs, St.put_big hcs (by simp [bigK]) (by simpa using hne)⟩, k, by rw [valOf_put (by simpa using hne)]; exact h1, h2⟩
  | als s =>
    refine h.put d fun t ht hlt => ?_
    subst ht
    obtain ⟨⟨x, h1, h2⟩, h3⟩ := hb
    have hne : t ≠ s := by simpa [locOk] using hl
    exact ⟨⟨x, St.put_big h1 (by omega) (by simpa using hne), h2⟩, by rw [valOf_put (by simpa using hne)]; exact h3⟩
  | ep s n j =>
    refine h.put d fun t ht hlt => ?_
    subst ht
    obtain ⟨⟨x, h1, h2⟩, h3⟩ := hb
    have hne : t ≠ s := by simpa [locOk] using hl
    exact ⟨⟨x, St.put_big h1 (by omega) (by simpa using hne), h2⟩, by rw [valOf_put (by simpa using hne)]; exact h3⟩
  | d x => exact h.putLight d hb
  | own n xs => exact h.putLight d hb
  | lent l n xs => exact h.putLight d hb
  | lptr l cs => exact h.putLight d hb
  | box cs => exact hb.elim
  | tup vs => exact h.putLight d hb
  | undef => exact h.putLight d hb
  | pin v0 n xs => exact hb.elim

theorem OW.bop {o : Oper} {s : SV} (hw : wantS ops st o = some true) (hb : bop P st o = some s) (hl : locOk o.dst s = true) (h : OW P pu ops rest (st.put o.dst s) Q) : OW P pu ops (o :: rest) st Q := by
  intro a w g hr Qc hq
  unfold wpList
  rw [wantS_sound hr hw, if_pos rfl]
  refine .inl ?_
  obtain ⟨v, e1, e2⟩ := bop_sound hr hb
  unfold Oper.wp
  rw [e2 w (Up.refl w), Oper.upon_value]
  exact h _ w g (hr.putBV e1 hl) Qc hq

/-- What an operation that is no call does. -/
def OpS (P : Program) (pu : Bool) (st : St) (o : Oper) (st' : St) : Prop :=
  ∀ a w g, Rel st a w g → ∃ a' w' g' r, (execOp a.eval o).run P w = r ∧ (∀ next Q, o.upon P a next Q r = next a' w') ∧ Rel st' a' w' g' ∧ Fr pu g w g' w'

theorem OW.op {o : Oper} {st' : St} (hw : wantS ops st o = some true) (ho : OpS P pu st o st') (h : OW P pu ops rest st' Q) : OW P pu ops (o :: rest) st Q := by
  intro a w g hr Qc hq
  unfold wpList
  rw [wantS_sound hr hw, if_pos rfl]
  refine .inl ?_
  obtain ⟨a', w', g', r, e1, e2, e3, e4⟩ := ho a w g hr
  unfold Oper.wp
  rw [e1, e2]
  exact h a' w' g' e3 Qc fun st2 a2 w2 g2 q2 r2 f2 => hq st2 a2 w2 g2 q2 r2 (e4.trans f2)

theorem OW.mono {l : List Oper} {Q' : St → Prop} (h : OW P pu ops l st Q) (hq : ∀ s, Q s → Q' s) : OW P pu ops l st Q' :=
  fun a w g hr Qc hc => h a w g hr Qc fun st' a' w' g' q r f => hc st' a' w' g' (hq _ q) r f
end

section
variable {P : Program} {pu : Bool} {st : St} {Q : Exit → St → Prop}

theorem SW.mono {c : Code} {Q' : Exit → St → Prop} (h : SW P pu c st Q) (hq : ∀ e s, Q e s → Q' e s) : SW P pu c st Q' :=
  fun a w g hr => Code.wp_mono (fun _ _ _ ⟨st', g', q, r⟩ => ⟨st', g', hq _ _ q, r⟩) (h a w g hr)

theorem SW.region {id : Nat} {l : List Oper} (h : OW P pu l.toArray l st (Q .normal)) : SW P pu (.region id l.toArray false) st Q :=
  fun a w g hr => wp_region_lit (h a w g hr _ fun st' _ _ g' q r f => ⟨st', g', q, r, f⟩)

theorem SW.skip (h : Q .normal st) : SW P pu .skip st Q := fun _ _ g hr => wp_skip ⟨st, g, h, hr, Fr.refl _ _ _⟩
theorem SW.label {l : Nat} (h : Q .normal st) : SW P pu (.label l) st Q := fun _ _ g hr => wp_label ⟨st, g, h, hr, Fr.refl _ _ _⟩
theorem SW.exit {id : Nat} (h : Q (.exit id) st) : SW P pu (.exit id) st Q := fun _ _ g hr => wp_exit ⟨st, g, h, hr, Fr.refl _ _ _⟩
theorem SW.ret (h : Q .ret st) : SW P pu .ret st Q := fun _ _ g hr => wp_ret ⟨st, g, h, hr, Fr.refl _ _ _⟩

/-- What follows. -/
def thenS (n : St → Prop) (Q : Exit → St → Prop) : Exit → St → Prop
  | .normal, s => n s
  | e, s => Q e s

theorem SW.seq {x y : Code} (h : SW P pu x st (thenS (fun s => SW P pu y s Q) Q)) : SW P pu (.seq x y) st Q := by
  intro a w g hr
  refine wp_seq (Code.wp_mono (fun e a' w' hh => ?_) (h a w g hr))
  obtain ⟨st', g', q, r, f⟩ := hh
  cases e with
  | normal =>
    refine Code.wp_mono (fun e2 a2 w2 hh2 => ?_) (q a' w' g' r)
    obtain ⟨st2, g2, q2, r2, f2⟩ := hh2
    exact ⟨st2, g2, q2, r2, f.trans f2⟩
  | _ => exact ⟨st', g', q, r, f⟩

theorem SW.cond {c : Operand} {x y : Code} {b : Bool} (hc : valD st c = some (.bool b)) (h : SW P pu (if b then x else y) st Q) : SW P pu (.cond c x y) st Q :=
  fun a w g hr => wp_cond (valD_leaf hr hc rfl) (h a w g hr)

theorem SW.condT {c : Operand} {x y : Code} (hc : valD st c = some (.bool true)) (h : SW P pu x st Q) : SW P pu (.cond c x y) st Q := SW.cond hc h
theorem SW.condF {c : Operand} {x y : Code} (hc : valD st c = some (.bool false)) (h : SW P pu y st Q) : SW P pu (.cond c x y) st Q := SW.cond hc h
theorem SW.condB {c : Operand} {x y : Code} {b : Bool} (hc : valD st c = some (.bool b)) (hT : b = true → SW P pu x st Q) (hF : b = false → SW P pu y st Q) : SW P pu (.cond c x y) st Q := by
  cases b
  · exact SW.condF hc (hF rfl)
  · exact SW.condT hc (hT rfl)

/-- The way out of a block. -/
def blockS (id : Nat) (Q : Exit → St → Prop) : Exit → St → Prop
  | .exit id', s => if id' = id then Q .normal s else Q (.exit id') s
  | e, s => Q e s

theorem SW.block {id : Nat} {c : Code} (h : SW P pu c st (blockS id Q)) : SW P pu (.block id c) st Q := by
  intro a w g hr
  refine wp_block (Code.wp_mono (fun e a' w' hh => ?_) (h a w g hr))
  obtain ⟨st', g', q, r, f⟩ := hh
  cases e with
  | exit id' =>
    simp only [blockS] at q
    simp only [Exit.inBlock]
    split at q
    · rename_i hi; rw [if_pos hi]; exact ⟨st', g', q, r, f⟩
    · rename_i hi; rw [if_neg hi]; exact ⟨st', g', q, r, f⟩
  | _ => exact ⟨st', g', q, r, f⟩

theorem wp_loop_ghost {α : Type} {c : Code} {Q : Exit → Act → World → Prop} {a : Act} {w : World} {x : α} (I : α → Act → World → Prop) (μ : α → Nat) (h₀ : I x a w)
    (round : ∀ x a w, I x a w → c.wp P (Exit.then (fun a' w' => ∃ y, I y a' w' ∧ μ y < μ x) Q) a w) : (Code.loop c).wp P Q a w := by
  intro b k cs
  have key : ∀ n x a w, μ x = n → I x a w →
      ∃ e a' w', Q e a' w' ∧ Arrives P (lone (b.at a (.code c :: .inLoop c :: k)) cs w) b k cs e a' w' := by
    intro n
    induction n using Nat.strongRecOn with
    | _ n ih =>
      intro x a w hn hI
      obtain ⟨e, a₁, w₁, hq, harr⟩ := round x a w hI b (.inLoop c :: k) cs
      cases e with
      | normal =>
        obtain ⟨y, hI₁, hlt⟩ := hq
        obtain ⟨e₂, a₂, w₂, hq₂, harr₂⟩ := ih (μ y) (hn ▸ hlt) y a₁ w₁ rfl hI₁
        exact ⟨e₂, a₂, w₂, hq₂, .of_steps (Steps.trans harr (.one step_inLoop)) harr₂⟩
      | exit id => exact ⟨_, a₁, w₁, hq, .pass (x := .inLoop c) rfl (fun _ _ => .inl (by simp)) harr⟩
      | goto l => exact ⟨_, a₁, w₁, hq, .pass (x := .inLoop c) rfl (fun _ _ => .inl (by simp)) harr⟩
      | ret => exact ⟨_, a₁, w₁, hq, .pass (x := .inLoop c) rfl (fun _ _ => .inl (by simp)) harr⟩
      | panic ch => exact ⟨_, a₁, w₁, hq, .pass (x := .inLoop c) rfl (fun _ _ => .inl (by simp)) harr⟩
      | outgrown => exact ⟨_, a₁, w₁, hq, .pass (x := .inLoop c) rfl (fun _ _ => .inl (by simp)) harr⟩
  obtain ⟨e, a', w', hq, harr⟩ := key _ x a w rfl h₀
  exact ⟨e, a', w', hq, .of_steps (.one step_loop) harr⟩

/-- A loop: what holds of the state at each round's head (x: how far it is), and a number that each round lowers. -/
theorem SW.loop {α : Type} {c : Code} {x : α} (I : α → St) (μ : α → Nat) (h0 : st = I x) (round : ∀ x, SW P pu c (I x) (thenS (fun s' => ∃ y, s' = I y ∧ μ y < μ x) Q)) : SW P pu (.loop c) st Q := by
  subst h0
  intro a w g hr
  refine wp_loop_ghost (x := (x, g)) (fun (x : α × Gh) a' w' => Rel (I x.1) a' w' x.2 ∧ Fr pu g w x.2 w') (fun x => μ x.1) ⟨hr, Fr.refl _ _ _⟩ fun x a1 w1 ⟨r1, f1⟩ => ?_
  refine Code.wp_mono (fun e a' w' hh => ?_) (round x.1 a1 w1 x.2 r1)
  obtain ⟨st', g', q, r, f⟩ := hh
  cases e with
  | normal =>
    obtain ⟨y, rfl, hlt⟩ := q
    exact ⟨(y, g'), ⟨r, f1.trans f⟩, hlt⟩
  | _ => exact ⟨st', g', q, r, f1.trans f⟩
end
end Go.Sh
