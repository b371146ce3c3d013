/- The operations that only read yield what the shadow says (bop_sound). -/
import Derived.Test.YtjkhgfoecplbgaaSh5
set_option linter.all false
set_option autoImplicit true
set_option relaxedAutoImplicit true
namespace Go.Sh
set_option linter.unusedSimpArgs false

section
variable {P : Program}

theorem eval_tmp (a : Act) (s : Nat) : a.eval (.tmp s) = valOf a s := rfl
theorem eval_const (a : Act) (v : Value) : a.eval (.const v) = v := rfl
theorem eval_func (a : Act) (f : Nat) : a.eval (.func f) = .func (.func f) #[] #[] := rfl

variable {st : St} {a : Act} {w : World} {g : Gh}

theorem Rel.rs (h : Rel st a w g) {s : Nat} {sv : SV} (hs : st.tmps[s]? = some sv) : RS g w st.tmps (valOf a) s (a.eval (.tmp s)) sv := h.tmp s sv hs

theorem val_d (h : Rel st a w g) {x : Operand} {d : D} (hv : val st x = some (.d d)) : Rd g w (a.eval x) d := by
  cases x with
  | tmp s => exact h.rs hv
  | const v =>
    simp only [val, Option.map_eq_some_iff, SV.d.injEq] at hv
    obtain ⟨d', h1, rfl⟩ := hv
    exact constD_rd h1
  | func f =>
    simp only [val, Option.some.injEq, SV.d.injEq] at hv
    subst hv
    exact .fn rfl rfl (fun _ => undef) (fun _ => undef) (fun j y hj => by simp at hj) (fun j y hj => by simp at hj) (fun j y hj => by simp at hj) (fun j y hj => by simp at hj)
  | global g => simp [val] at hv

theorem valD_d (h : Rel st a w g) {x : Operand} {d : D} (hv : valD st x = some d) : Rd g w (a.eval x) d := by
  unfold valD at hv
  split at hv
  · cases hv; rename_i h1; exact val_d h h1
  · cases hv

theorem listOf_sound (h : Rel st a w g) {x : Operand} {l : Option Loc} {n : Nat} {xs : List D} (hv : listOf st x = some (l, n, xs)) : RList g w l (a.eval x) n xs := by
  unfold listOf at hv
  split at hv
  · split at hv
    · rename_i hs; cases hv; exact (h.rs hs : Rd g w _ _).toList
    · rename_i hs; cases hv; obtain ⟨a', e⟩ := Rd.nilS_inv (h.rs hs); exact .inl ⟨rfl, a', 0, e⟩
    · rename_i hs; cases hv; exact h.rs hs
    · rename_i hs; cases hv; exact ROwn.toLent (h.rs hs)
    · rename_i hs; cases hv; exact ROwn.toLent (h.rs hs).2
    · cases hv
  · cases hv; exact .inl ⟨rfl, none, 0, rfl⟩
  · cases hv

theorem ptrOf_sound (h : Rel st a w g) {x : Operand} {l : Option Loc} {cs : List D} (hv : ptrOf st x = some (l, cs)) : RPtr g w l (a.eval x) cs := by
  unfold ptrOf at hv
  split at hv
  · split at hv
    · rename_i hs; cases hv; exact (h.rs hs : Rd g w _ _).toPtr
    · rename_i hs; cases hv; exact h.rs hs
    · cases hv
  · cases hv

theorem ptrH_sound (h : Rel st a w g) {x : Operand} {i off : Nat} (hv : ptrH st x = some (i, off)) : ∃ k, g.ρ[i]? = some k ∧ a.eval x = .pointer (some ⟨k, off, none⟩) := by
  unfold ptrH at hv
  split at hv
  · rename_i i' off' hd
    cases hv
    have := valD_d h hd
    generalize a.eval x = v at this
    cases this with
    | ptr hk => exact ⟨_, hk, rfl⟩
  · cases hv

theorem asLoc_sound (h : Rel st a w g) {x : Operand} {s off : Nat} (hv : asLoc st x = some (s, off)) :
    ∃ cs k, st.tmps[s]? = some (.box cs) ∧ valOf a s = .pointer (some ⟨k, 0, none⟩) ∧ a.eval x = .pointer (some ⟨k, off, none⟩) := by
  unfold asLoc at hv
  split at hv
  · split at hv
    · rename_i s0 cs hs
      cases hv
      obtain ⟨k, c, T, h1, -⟩ := h.rs hs
      exact ⟨cs, k, hs, h1, h1⟩
    · rename_i s0 t off' hs
      cases hv
      obtain ⟨⟨cs, hcs⟩, k, h1, h2⟩ := h.rs hs
      exact ⟨cs, k, hcs, h1, h2⟩
    · cases hv
  · cases hv

theorem intOf_sound (h : Rel st a w g) {x : Operand} {k : IntKind} {n : Int} (hv : intOf? st x = some (k, n)) : a.eval x = .int k n := by
  unfold intOf? at hv
  split at hv
  · rename_i k' n' hd
    cases hv
    have := valD_d h hd
    generalize a.eval x = v at this
    cases this; rfl
  · cases hv

/-- What an operation that reads leaves: a pointer into a box, or something light. -/
def BV (g : Gh) (w : World) (st : St) (a : Act) (v : Value) : SV → Prop
  | .loc s off => (∃ cs, st.tmps[s]? = some (.box cs)) ∧ ∃ k, valOf a s = .pointer (some ⟨k, 0, none⟩) ∧ v = .pointer (some ⟨k, off, none⟩)
  | .als s => (∃ x, st.tmps[s]? = some x ∧ bigK x = 2) ∧ v = valOf a s
  | .ep s n j => (∃ x, st.tmps[s]? = some x ∧ bigK x = 2) ∧ ∃ k off len cap, valOf a s = .slice (some ⟨k, off, none⟩) len cap ∧ v = .pointer (some ⟨k, off + j * n, none⟩)
  | s => Light g w v s

def Up (w w' : World) : Prop := ∀ (k : Nat) (o : Obj), w.heap[k]? = some o → w'.heap[k]? = some o
theorem Up.refl (w : World) : Up w w := fun _ _ h => h

theorem BV.light {v : Value} {s : SV} (h : Light g w v s) : BV g w st a v s := by
  cases s <;> simp only [Light] at h <;> first | exact h | exact h.elim

theorem lendP_light {v : Value} {l : Option Loc} {cs : List D} (h : RPtr g w l v cs) : Light g w v (lendP l cs) := by
  cases l with
  | none => exact h.toRd
  | some l => exact h

theorem lendL_light {v : Value} {l : Option Loc} {n : Nat} {xs : List D} (h : RList g w l v n xs) : Light g w v (lendL l n xs) := by
  cases l with
  | none => exact h.toRd
  | some l => exact h

theorem readOp_sound (h : Rel st a w g) {T : TypeId} {x : Operand} {s : SV} (hv : readOp P st T x = some s) : BV g w st a (a.eval x) s := by
  unfold readOp at hv
  split at hv
  · rename_i t
    simp only [Option.bind_eq_some_iff] at hv
    obtain ⟨sv, h1, h2⟩ := hv
    have hr := h.rs h1
    cases sv <;> simp only [readSV, Option.some.injEq, reduceCtorEq] at h2 <;> subst h2
    · exact hr
    · exact ROwn.toLent hr
    · exact hr
    · exact hr
    · obtain ⟨k, c, T, e1, -⟩ := hr
      exact ⟨⟨_, h1⟩, k, e1, e1⟩
    · exact hr
    · trivial
    · exact ROwn.toLent hr.2
  · cases hv; exact ⟨rfl, none, rfl⟩
  · rename_i hx1 hx2
    cases x with
    | tmp t => exact (hx1 t rfl).elim
    | const v =>
      simp only [val, Option.map_eq_some_iff] at hv
      obtain ⟨d, h1, rfl⟩ := hv
      exact constD_rd (v := v) h1
    | func f =>
      have : s = .d (.fn (.func f) [] []) := by simpa [val, eq_comm] using hv
      subst this
      exact val_d h (x := .func f) rfl
    | global g => simp [val] at hv

theorem loadOp_sound (h : Rel st a w g) {T : TypeId} {x : Operand} {s : SV} (hv : loadOp P st T x = some s) :
    ∃ v, Light g w v s ∧ ∀ w', Up w w' → (Instr.loadAt T (a.eval x)).run P w' = .ok v w' := by
  unfold loadOp at hv
  split at hv
  · rename_i s0 off hl
    obtain ⟨cs, k, h1, h2, h3⟩ := asLoc_sound h hl
    have hb : boxAt st s0 = some cs := by simp [boxAt, h1]
    simp only [hb] at hv
    obtain ⟨k', c, T0, e1, e2, e3, e4, e5⟩ := h.tmp s0 _ h1
    rw [h2] at e1
    simp only [Value.pointer.injEq, Option.some.injEq, Addr.mk.injEq, and_true] at e1
    subst e1
    obtain ⟨v, hL, hR⟩ := load_s (P := P) (g := g) (w0 := w) (T := T) (k := k) (off := off) (c := c) (T0 := T0) (fz := (0, 0)) (l := fun j => .cell s0 j) (fun j y hj => e5 (off + j) y (by simpa [List.getElem?_drop] using hj)) hv
    exact ⟨v, hL, fun w' hw => by simp [Instr.loadAt, h3, Instr.sureAddr, hR w' (hw _ _ e3)]⟩
  · split at hv
    · rename_i l cs hp
      simp only [Option.map_eq_some_iff] at hv
      obtain ⟨d, h1, rfl⟩ := hv
      obtain ⟨k, off, c, T0, fz, us, e1, e2, e3, e4, e5⟩ := ptrOf_sound h hp
      obtain ⟨v, hL, hR⟩ := load_d (P := P) (g := g) (w0 := w) (T := T) (k := k) (off := off) (c := c) (T0 := T0) (fz := fz) (fun j y hj => ⟨us j, (e4 j y hj).1, e5 j y hj, (e4 j y hj).2⟩) h1
      exact ⟨v, hL, fun w' hw => by simp [Instr.loadAt, e1, Instr.sureAddr, hR w' (hw _ _ e3)]⟩
    · split at hv
      · rename_i i off hp
        split at hv
        · rename_i cs ho
          obtain ⟨k, hk, e1⟩ := ptrH_sound h hp
          obtain ⟨k', c, T0, f1, f2, f3, f4, f5⟩ := h.hp.2 i _ ho
          rw [hk] at f1; cases f1
          obtain ⟨v, hL, hR⟩ := load_s (P := P) (g := g) (w0 := w) (T := T) (k := k) (off := off) (c := c) (T0 := T0) (fz := (0, 0)) (l := fun j => .hcell i j) (fun j y hj => f5 (off + j) y (by simpa [List.getElem?_drop] using hj)) hv
          exact ⟨v, hL, fun w' hw => by simp [Instr.loadAt, e1, Instr.sureAddr, hR w' (hw _ _ f3)]⟩
        · cases hv
      · cases hv

theorem RPtr.drop {l : Option Loc} {v : Value} {cs : List D} (h : RPtr g w l v cs) (n : Nat) :
    ∃ k off, v = .pointer (some ⟨k, off, none⟩) ∧ RPtr g w l (.pointer (some ⟨k, off + n, none⟩)) (cs.drop n) := by
  obtain ⟨k, off, c, T0, fz, us, e1, e2, e3, e4, e5⟩ := h
  refine ⟨k, off, e1, k, off + n, c, T0, fz, fun j => us (n + j), rfl, e2, e3, fun j y hj => ?_, fun j y hj => ?_⟩
  · rw [List.getElem?_drop] at hj
    rw [Nat.add_assoc]; exact e4 _ y hj
  · rw [List.getElem?_drop] at hj
    exact e5 _ y hj

theorem fieldAddr_run {S : TypeId} {f fo k off : Nat} (hf : fieldOff P S f = some fo) (w : World) :
    (Instr.fieldAt S (.pointer (some ⟨k, off, none⟩)) f).run P w = .ok (.pointer (some ⟨k, off + fo, none⟩)) w := by
  unfold fieldOff at hf
  split at hf
  · rename_i fs hu
    split at hf
    · rename_i fl hfl
      split at hf
      · cases hf
      · rename_i hn
        cases hf
        have : ∃ i, P.info? fl.type = some i := by
          cases hi : P.info? fl.type with
          | none => simp [Program.cellsOf, hi] at hn
          | some i => exact ⟨i, rfl⟩
        obtain ⟨i, hi⟩ := this
        have hz : i.size ≠ 0 := by simpa [Program.cellsOf, hi] using hn
        simp [Instr.fieldAt, run_underlying hu, hfl, Instr.sureAddr, fieldPlace, sizeOf, typeInfo, hi, hz, Addr.add_lit]
    · cases hf
  · cases hf

theorem fieldAddrOp_sound (h : Rel st a w g) {S : TypeId} {x : Operand} {f : Nat} {s : SV} (hv : fieldAddrOp P st S x f = some s) :
    ∃ v, BV g w st a v s ∧ ∀ w', (Instr.fieldAt S (a.eval x) f).run P w' = .ok v w' := by
  unfold fieldAddrOp at hv
  split at hv
  · cases hv
  · rename_i fo hf
    split at hv
    · rename_i s0 off hl
      cases hv
      obtain ⟨cs, k, h1, h2, h3⟩ := asLoc_sound h hl
      exact ⟨.pointer (some ⟨k, off + fo, none⟩), ⟨⟨cs, h1⟩, k, h2, rfl⟩, fun w' => by rw [h3]; exact fieldAddr_run hf w'⟩
    · split at hv
      · rename_i l cs hp
        cases hv
        obtain ⟨k, off, e1, e2⟩ := (ptrOf_sound h hp).drop fo
        exact ⟨_, BV.light (lendP_light e2), fun w' => by rw [e1]; exact fieldAddr_run hf w'⟩
      · split at hv
        · rename_i i off hp
          cases hv
          obtain ⟨k, hk, e1⟩ := ptrH_sound h hp
          exact ⟨.pointer (some ⟨k, off + fo, none⟩), Rd.ptr hk, fun w' => by rw [e1]; exact fieldAddr_run hf w'⟩
        · cases hv

theorem sizeOf_ne {e : TypeId} (h : P.cellsOf e ≠ 0) (w : World) : (sizeOf e).run P w = .ok (P.cellsOf e) w := by
  cases hi : P.info? e with
  | none => simp [Program.cellsOf, hi] at h
  | some i => simp [sizeOf, typeInfo, hi, Program.cellsOf]

theorem indexAddr_arr {T : TypeId} {n e : Nat} (hu : P.underlying T = some (.array n e)) (hz : P.cellsOf e ≠ 0) {k off : Nat} {ik : IntKind} {j : Int} (h0 : 0 ≤ j) (h1 : j < n) (w : World) :
    (Instr.indexAt T (.pointer (some ⟨k, off, none⟩)) (.int ik j)).run P w = .ok (.pointer (some ⟨k, off + j.toNat * P.cellsOf e, none⟩)) w := by
  simp [Instr.indexAt, asIntOf, run_underlying hu, Instr.sureAddr, h0, h1, sizeOf_ne hz, Addr.add_lit]

theorem indexAddr_sl {T e : TypeId} (hu : P.underlying T = some (.slice e)) (hz : P.cellsOf e ≠ 0) {k off len cap : Nat} {ik : IntKind} {j : Int} (h0 : 0 ≤ j) (h1 : j < len) (w : World) :
    (Instr.indexAt T (.slice (some ⟨k, off, none⟩) len cap) (.int ik j)).run P w = .ok (.pointer (some ⟨k, off + j.toNat * P.cellsOf e, none⟩)) w := by
  simp [Instr.indexAt, asIntOf, run_underlying hu, h0, h1, sizeOf_ne hz, Addr.add_lit]

theorem elemW_ne {T : TypeId} (h : elemW P T ≠ 0) : ∃ e, P.underlying T = some (.slice e) ∧ elemW P T = P.cellsOf e := by
  unfold elemW at h ⊢
  split at h
  · rename_i e he; exact ⟨e, he, rfl⟩
  · simp at h

theorem indexAddrOp_sound (h : Rel st a w g) {T : TypeId} {x i : Operand} {s : SV} (hv : indexAddrOp P st T x i = some s) :
    ∃ v, BV g w st a v s ∧ ∀ w', (Instr.indexAt T (a.eval x) (a.eval i)).run P w' = .ok v w' := by
  unfold indexAddrOp at hv
  split at hv
  · cases hv
  · rename_i ik j hi
    have hei := intOf_sound h hi
    split at hv
    · rename_i n sz ha
      have ⟨e, hu, hsz⟩ : ∃ e, P.underlying T = some (.array n e) ∧ sz = P.cellsOf e := by
        unfold arrayOf at ha
        split at ha
        · cases ha; exact ⟨_, by assumption, rfl⟩
        · cases ha
      subst hsz
      split at hv
      · rename_i hc
        obtain ⟨hz, h0, h1⟩ := hc
        split at hv
        · rename_i s0 off hl
          cases hv
          obtain ⟨cs, k, e1, e2, e3⟩ := asLoc_sound h hl
          exact ⟨.pointer (some ⟨k, off + j.toNat * P.cellsOf e, none⟩), ⟨⟨cs, e1⟩, k, e2, rfl⟩, fun w' => by rw [e3, hei]; exact indexAddr_arr hu hz h0 h1 w'⟩
        · split at hv
          · rename_i i' off hp
            cases hv
            obtain ⟨k, hk, e1⟩ := ptrH_sound h hp
            exact ⟨.pointer (some ⟨k, off + j.toNat * P.cellsOf e, none⟩), Rd.ptr hk, fun w' => by rw [e1, hei]; exact indexAddr_arr hu hz h0 h1 w'⟩
          · cases hv
      · cases hv
    · split at hv
      · rename_i l n xs hl
        split at hv
        · rename_i hc
          obtain ⟨hn, hw, h0⟩ := hc
          simp only [Option.map_eq_some_iff] at hv
          obtain ⟨y, hy, rfl⟩ := hv
          obtain ⟨e, hu, he⟩ := elemW_ne (P := P) (T := T) (by rw [← hw]; exact hn)
          rcases listOf_sound h hl with ⟨rfl, -⟩ | ⟨k, off, cap, c, T0, fz, us, e1, e2, e3, e4, e5, e6, e7⟩
          · simp at hy
          · have hlt := get_lt hy
            refine ⟨.pointer (some ⟨k, off + j.toNat * P.cellsOf e, none⟩), BV.light (lendP_light ⟨k, _, c, T0, fz, us j.toNat, rfl, e2, e3, fun m z hz => ?_, fun m z hz => e7 _ y hy m z hz⟩),
              fun w' => by rw [e1, hei]; exact indexAddr_sl hu (by rw [← he, ← hw]; exact hn) h0 (by omega) w'⟩
            rw [← he, ← hw]
            exact e6 _ y hy m z hz
        · cases hv
      · cases hv

theorem partD_sound {T : TypeId} {cs : List D} {off : Nat} {d : D} (hv : partD P T cs off = some d) {vs : Array Value} (hr : Rd g w (.agg vs) (.agg cs)) :
    ∃ v, Rd g w v d ∧ ∀ w', (part T vs off).run P w' = .ok v w' := by
  unfold partD at hv
  split at hv
  · cases hv
  · rename_i hu
    have hu : (P.underlying T).isNone = false := Bool.eq_false_iff.2 hu
    cases hr with
    | agg hl us hc hr =>
      split at hv
      · rename_i ha
        cases hv
        refine ⟨.agg (vs.extract off (off + P.cellsOf T)), Rd.agg' ?_ (fun j y hj => ?_), fun w' => ?_⟩
        · simp [hl, Nat.min_def]; split <;> split <;> omega
        · rw [List.getElem?_take] at hj
          split at hj
          · rename_i hjn
            rw [List.getElem?_drop] at hj
            refine ⟨us (off + j), ?_, hr _ _ hj, (hc _ _ hj).2⟩
            rw [Array.getElem?_extract]
            have := get_lt hj
            rw [if_pos (by omega)]
            exact (hc _ _ hj).1
          · cases hj
        · simp [part, run_isAgg' hu, ha, run_sizeOf' hu]
      · rename_i ha
        have ha : isAggT P T = false := Bool.eq_false_iff.2 ha
        exact ⟨us off, hr _ _ hv, fun w' => by simp [part, run_isAgg' hu, ha, (hc _ _ hv).1]⟩

end
end Go.Sh
