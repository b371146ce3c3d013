/- A function whose objects nobody else sees is pure. -/
import Derived.Test.YtjkhgfoecplbgaaSh27
set_option linter.all false
set_option autoImplicit true
set_option relaxedAutoImplicit true
set_option linter.unusedVariables false
set_option linter.unusedSimpArgs false
namespace Go.Sh

mutual
/-- Does data name no object of the shadow heap? -/
def noPtr : D → Bool
  | .ptr _ _ | .map _ => false
  | .list _ xs => noPtrs xs
  | .agg cs => noPtrs cs
  | .iface _ x => noPtr x
  | .fn _ fs cs => noPtrs fs && noPtrs cs
  | .dptr cs => noPtrs cs
  | _ => true
def noPtrs : List D → Bool
  | [] => true
  | x :: xs => noPtr x && noPtrs xs
end

theorem noPtrs_get : ∀ {xs : List D}, noPtrs xs = true → ∀ (j : Nat) (y : D), xs[j]? = some y → noPtr y = true
  | [], _, j, y, h => by simp at h
  | x :: xs, hn, j, y, h => by
    simp only [noPtrs, Bool.and_eq_true] at hn
    cases j with
    | zero => simp at h; subst h; exact hn.1
    | succ j => exact noPtrs_get hn.2 j y (by simpa using h)

theorem noPtrs_map {α : Type} {f : α → D} (h : ∀ x, noPtr (f x) = true) : ∀ l : List α, noPtrs (l.map f) = true
  | [] => rfl
  | x :: l => by simp [noPtrs, h x, noPtrs_map h l]

theorem noPtrs_cells {x : D} (h : noPtr x = true) : ∀ (j : Nat) (y : D), x.cells[j]? = some y → noPtr y = true := by
  intro j y hy
  cases x with
  | agg cs => simp only [noPtr] at h; exact noPtrs_get h j y hy
  | _ =>
    cases j with
    | zero => simp [D.cells] at hy; subst hy; exact h
    | succ j => simp [D.cells] at hy

def noPtrSV : SV → Bool
  | .d x => noPtr x
  | .own _ xs => noPtrs xs
  | .tup vs => vs.all fun | .d x => noPtr x | .own _ xs => noPtrs xs | .undef => true | _ => false
  | .undef => true
  | _ => false

/-- Reading data that name no object asks nothing of the objects. -/
theorem Rd.noObj {g g' : Gh} {w w' : World} (hk : Keep .free g w g' w') {v : Value} {x : D} (h : Rd g w v x) (hn : noPtr x = true) : Rd g' w' v x := by
  induction h with
  | bool => exact .bool
  | int => exact .int
  | str => exact .str
  | nilS => exact .nilS
  | list0 => exact .list0
  | list us hk' hb hl hp hn' hc _ ih =>
    refine .list us (hk _ _ hk' hb).1 (hk _ _ hk' hb).2 hl hp hn' hc fun i x hx j y hy => ih i x hx j y hy ?_
    simp only [noPtr] at hn
    exact noPtrs_cells (noPtrs_get hn i x hx) j y hy
  | agg hl us hc _ ih => exact .agg hl us hc fun j y hy => ih j y hy (noPtrs_get (by simpa [noPtr] using hn) j y hy)
  | nilIface => exact .nilIface
  | iface _ ih => exact .iface (ih (by simpa [noPtr] using hn))
  | fn hl1 hl2 us1 us2 hc1 _ hc2 _ ih1 ih2 =>
    simp only [noPtr, Bool.and_eq_true] at hn
    exact .fn hl1 hl2 us1 us2 hc1 (fun j y hy => ih1 j y hy (noPtrs_get hn.1 j y hy)) hc2 (fun j y hy => ih2 j y hy (noPtrs_get hn.2 j y hy))
  | nilFn => exact .nilFn
  | nilPtr => exact .nilPtr
  | ptr h => simp [noPtr] at hn
  | dptr us hk' hb hc _ ih => exact .dptr us (hk _ _ hk' hb).1 (hk _ _ hk' hb).2 hc fun j y hy => ih j y hy (noPtrs_get (by simpa [noPtr] using hn) j y hy)
  | nilMap => exact .nilMap
  | map h => simp [noPtr] at hn

theorem RC.noObj {g g' : Gh} {w w' : World} {o : Loc} {v : Value} {s : SV} (hk : Keep .free g w g' w') (h1 : Keep (.lst o) g w g' w') (h : RC g w o v s) (hn : noPtrSV s = true) : RC g' w' o v s := by
  cases s with
  | d x => exact Rd.noObj hk h hn
  | own n xs =>
    rcases h with h | ⟨k, off, cap, c, T, us, hv, ho, hb, hl, hz, hw, hc, hr⟩
    · exact .inl h
    · obtain ⟨ho', hb'⟩ := h1 k _ ho hb
      refine .inr ⟨k, off, cap, c, T, us, hv, ho', hb', hl, hz, hw, hc, fun i x hx j y hy => Rd.noObj hk (hr i x hx j y hy) ?_⟩
      simp only [noPtrSV] at hn
      exact noPtrs_cells (noPtrs_get hn i x hx) j y hy
  | undef => trivial
  | _ => exact h.elim

/-- What others own is hidden from a callee that names no object: but its arguments. -/
def hideOw : Own → Own
  | .free => .free
  | .lst (.slot j) => .lst (.slot j)
  | _ => .out

def Gh.hide (g : Gh) : Gh := ⟨fun k => hideOw (g.ow k), []⟩

/-- Whose a block is behind such a call: what was hidden is as it was. -/
def unhide (n : Nat) (ow ow' : Nat → Own) (k : Nat) : Own :=
  if k < n then (match ow k with | .free => .free | .lst (.slot j) => (match ow' k with | .obj _ => .out | .lst (.hcell _ _) => .out | o => o) | o => o)
  else match ow' k with | .obj _ => .out | .lst (.hcell _ _) => .out | o => o

/-- A function that begins without objects, whatever objects it leaves. -/
def LC (P : Program) (f : FuncId) (args : List SV) (r : SV) : Prop :=
  ∀ (w : World) (g : Gh) (vs : Array Value), RArgs g w vs args → RH g w [] → Calls P f vs w fun e w' => ∃ v g', e = .returned v ∧ RRes g' w' v r ∧ Fr false g w g' w'

theorem PC.of_local {P : Program} {f : FuncId} {args : List SV} {r : SV} (ha : args.all noPtrSV = true) (hr : noPtrSV r = true) (h : LC P f args r) : PC P f args r := by
  intro H w g vs hA hH
  have hkeep : Keep .free g w g.hide w := fun k o h1 h2 => ⟨by simp [Gh.hide, h1, hideOw], h2⟩
  have hA' : RArgs g.hide w vs args := by
    refine ⟨hA.1, fun j s hj => ?_⟩
    obtain ⟨u, u1, u2⟩ := hA.2 j s hj
    refine ⟨u, u1, u2.noObj hkeep (fun k o h1 h2 => ⟨by simp [Gh.hide, h1, hideOw], h2⟩) ?_⟩
    rw [List.all_eq_true] at ha
    exact ha s (List.mem_iff_getElem?.2 ⟨j, hj⟩)
  refine (h w g.hide vs hA' ⟨rfl, by simp⟩).mono fun e w' hh => ?_
  obtain ⟨v, g', rfl, hres, hf⟩ := hh
  -- the owners behind the call
  let g2 : Gh := ⟨unhide w.heap.size g.ow g'.ow, g.ρ⟩
  -- old blocks that were hidden
  have hid : ∀ (k : Nat) (o : Obj), hideOw (g.ow k) = .out → w.heap[k]? = some o → g2.ow k = g.ow k ∧ w'.heap[k]? = some o := by
    intro k o h1 h2
    obtain ⟨-, h4⟩ := hf.out k o (by simpa [Gh.hide] using h1) h2
    refine ⟨?_, h4⟩
    have hlt := arr_lt h2
    show unhide w.heap.size g.ow g'.ow k = _
    unfold unhide
    rw [if_pos hlt]
    split
    · rename_i e; exact e.symm
    · rename_i j e; rw [e] at h1; cases h1
    · rfl
  have hfree : Keep .free g w g2 w' := by
    intro k o h1 h2
    obtain ⟨-, h4⟩ := hf.free k o (by simp [Gh.hide, h1, hideOw]) h2
    refine ⟨?_, h4⟩
    show unhide w.heap.size g.ow g'.ow k = _
    unfold unhide
    rw [if_pos (arr_lt h2), h1]
  have hback : Keep .free g' w' g2 w' := by
    intro k o h1 h2
    refine ⟨?_, h2⟩
    show unhide w.heap.size g.ow g'.ow k = _
    unfold unhide
    split
    · rename_i hlt
      cases hk : g.ow k with
      | free => rfl
      | lst l =>
        cases l with
        | slot j => simp only [h1]
        | _ =>
          exfalso
          have h2' : ∃ o', w.heap[k]? = some o' := ⟨w.heap[k], by simp [hlt]⟩
          obtain ⟨o', h3⟩ := h2'
          have := (hf.out k o' (by simp [Gh.hide, hk, hideOw]) h3).1
          rw [h1] at this; cases this
      | _ =>
        exfalso
        have h2' : ∃ o', w.heap[k]? = some o' := ⟨w.heap[k], by simp [hlt]⟩
        obtain ⟨o', h3⟩ := h2'
        have := (hf.out k o' (by simp [Gh.hide, hk, hideOw]) h3).1
        rw [h1] at this; cases this
    · rw [h1]
  have hbackL : ∀ l : Loc, (∀ i j, l ≠ .hcell i j) → Keep (.lst l) g' w' g2 w' := by
    intro l hl k o h1 h2
    refine ⟨?_, h2⟩
    show unhide w.heap.size g.ow g'.ow k = _
    unfold unhide
    have hno : (match g'.ow k with | .obj _ => Own.out | .lst (.hcell _ _) => .out | o => o) = .lst l := by
      rw [h1]
      cases l with
      | hcell i j => exact absurd rfl (hl i j)
      | _ => rfl
    split
    · rename_i hlt
      have h2' : ∃ o', w.heap[k]? = some o' := ⟨w.heap[k], by simp [hlt]⟩
      obtain ⟨o', h3⟩ := h2'
      have hcontra : hideOw (g.ow k) = .out ∨ hideOw (g.ow k) = .free → False := by
        rintro (e | e)
        · have := (hf.out k o' (by simpa [Gh.hide] using e) h3).1; rw [h1] at this; cases this
        · have := (hf.free k o' (by simpa [Gh.hide] using e) h3).1; rw [h1] at this; cases this
      cases hk : g.ow k with
      | free => exact (hcontra (.inr (by rw [hk]; rfl))).elim
      | lst l' =>
        cases l' with
        | slot j => exact hno
        | _ => exact (hcontra (.inl (by rw [hk]; rfl))).elim
      | _ => exact (hcontra (.inl (by rw [hk]; rfl))).elim
    · exact hno
  refine ⟨v, g2, rfl, ?_, ⟨hH.1, fun i o hi => ?_⟩, hf.size, hfree, ?_, fun _ _ h => h, ?_, ?_, fun _ => rfl, hf.os⟩
  · -- the result
    cases r with
    | d x => exact Rd.noObj hback hres hr
    | own n xs => exact RC.noObj (s := .own n xs) hback (hbackL _ (by simp)) hres hr
    | tup vs' =>
      obtain ⟨us, e1, e2, e3⟩ := hres
      refine ⟨us, e1, e2, fun j s hj => ?_⟩
      obtain ⟨u, u1, u2⟩ := e3 j s hj
      refine ⟨u, u1, u2.noObj hback (hbackL _ (by simp)) ?_⟩
      simp only [noPtrSV, List.all_eq_true] at hr
      have := hr s (List.mem_iff_getElem?.2 ⟨j, hj⟩)
      cases s <;> simpa [noPtrSV] using this
    | undef => trivial
    | _ => exact hres.elim
  · -- the objects
    have hhid : ∀ o', hideOw o' = .out → Keep o' g w g2 w' := fun o' ho' k ob h1 h2 => by
      obtain ⟨a, b⟩ := hid k ob (by rw [h1]; exact ho') h2
      exact ⟨a.trans h1, b⟩
    exact (hH.2 i o hi).keepI hfree (hhid _ rfl) (fun j => hhid _ rfl) (fun _ _ h => h)
  · intro k o h1 h2
    obtain ⟨a, b⟩ := hid k o (by rw [h1]; rfl) h2
    exact ⟨a.trans h1, b⟩
  · intro _ i k o h1 h2
    obtain ⟨a, b⟩ := hid k o (by rw [h1]; rfl) h2
    exact ⟨a.trans h1, b⟩
  · intro _ i j k o h1 h2
    obtain ⟨a, b⟩ := hid k o (by rw [h1]; rfl) h2
    exact ⟨a.trans h1, b⟩
end Go.Sh
