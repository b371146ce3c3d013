/- append to nil, a slice literal; rules for code that a program prints. -/
import Derived.Test.YtjkhgfoecplbgaaSh13
set_option linter.all false
set_option autoImplicit true
set_option relaxedAutoImplicit true
namespace Go.Sh
set_option linter.unusedSimpArgs false
set_option linter.unusedVariables false

section
variable {P : Program} {pu : Bool} {st : St}

theorem OpS.appendNil {o : Oper} {c : Call} {d : Nat} {x y : Operand} {T T2 : TypeId} {n m b : Nat} {ys : List D} (hop : o.op = .call c) (hc : c.callee = .builtin .append) (ha : c.args.toList = [x, y]) (ht : c.argTypes.toList = [T, T2])
    (hd : o.dst = some d) (hx : valD st x = some .nilS) (hy : srcOf st y = some (m, ys)) (hT : sliceT P T = some (n, b)) (h2 : noInt P T2 = true) (hm : m = n ∨ ys = [])
    (hlen : ys.length ≤ maxLen) (hby : ys.length * b ≤ 140737488355328) : OpS P pu st o (st.put (some d) (.own n ys)) := by
  refine OpS.value fun a w g hr => ?_
  unfold sliceT at hT
  split at hT
  · rename_i e hu
    split at hT
    · rename_i i hi
      split at hT
      · rename_i z hz
        split at hT
        · rename_i hsz
          obtain ⟨⟨hzs, -⟩, hn⟩ := hsz
          cases hT
          have h2' : ∃ dd, P.underlying T2 = some dd ∧ ∀ k, dd ≠ .int k := by
            unfold noInt at h2
            cases hu2 : P.underlying T2 with
            | none => rw [hu2] at h2; simp at h2
            | some dd => exact ⟨dd, rfl, fun k e => by rw [hu2, e] at h2; simp at h2⟩
          obtain ⟨a0, hv⟩ := Rd.nilS_inv (valD_d hr hx)
          obtain ⟨news, n1, n2, n3⟩ := srcOf_sound (P := P) hr hy hn hm
          have hold : ∀ w', Up w w' → (Builtin.firstCells i.size 0 (a.eval x)).run P w' = .ok #[] w' := fun w' _ => by
            rw [hv]; cases a0 <;> simp [Builtin.firstCells, loadCells, loadCellsFrom]
          obtain ⟨room, grow⟩ := append_exec (P := P) (T := T) (T2 := T2) (ty := o.type) (v := a.eval x) (x := a.eval y) (w := w) hv hu hi hz h2' n2 n3 hold (by simpa using hlen) (by simpa using hby)
          simp only [Nat.zero_add] at room grow
          rw [hd]
          by_cases hys : ys = []
          · subst hys
            have hnews : news = #[] := Array.eq_empty_of_size_eq_zero (by rw [n1.1]; simp)
            subst hnews
            have hr1 := room (by simp)
            refine ⟨.slice a0 0 0, w, g, run_append_call hop hc ha ht ?_, ?_, Fr.refl _ _ _⟩
            · rw [hr1]
              cases a0 <;> simp [storeCells]
            · exact hr.putNew (fun _ => Keep.refl _ _ _) rfl (fun _ _ => .inl ⟨rfl, a0, rfl⟩)
          · have hpos : 0 < ys.length := by cases ys with | nil => exact absurd rfl hys | cons => simp
            have hr2 := grow hpos
            rw [Array.empty_append] at hr2
            have hge := grownCap_ge w ys.length 0 e
            generalize hgc : grownCap w ys.length 0 e = gc at hr2 hge
            have hkeep : ∀ o', Keep o' g w (g.upd w.heap.size (.lst (.slot d))) (w.drew.alloc (.cells (news ++ Builtin.zeroCells z.cells (gc - ys.length)) e)) := fun o' => Keep.alloc (w := w.drew)
            refine ⟨_, _, g.upd w.heap.size (.lst (.slot d)), run_append_call hop hc ha ht hr2, ?_, Fr.of (fun _ => False) (by simp) (by simp) (fun o _ => hkeep o) rfl⟩
            refine hr.putNew hkeep rfl fun _ _ => ?_
            exact ROwn.new n1 (heap_alloc w.drew _) (by simp) rfl hge (by rw [size_zeroCells, hzs]) (hkeep _) (fun _ _ h => h)
        · cases hT
      · cases hT
    · cases hT
  · cases hT

theorem run_v2 (s : Sem Value) {w w' : World} {v : Value} (h : s.run P w = .ok v w') : (do pure (.value (← s)) : Sem Next).run P w = .ok (.value v) w' := by
  simp [h]

/-! ## A slice literal -/

def flatCells (ds : List (Nat × D)) : List D := (ds.map fun p => p.2.cells).flatten

/-- The parts of a literal: all places, in order, of one width. -/
def litOk (n : Nat) (k : Nat) : List (Nat × D) → Bool
  | [] => true
  | (i, x) :: r => i == k && x.cells.length == n && litOk n (k + 1) r

theorem flatCells_len {n : Nat} : ∀ {k : Nat} {ds : List (Nat × D)}, litOk n k ds = true → (flatCells ds).length = ds.length * n
  | k, [], _ => by simp [flatCells]
  | k, (i, x) :: r, h => by
    simp only [litOk, Bool.and_eq_true, beq_iff_eq] at h
    have ih := flatCells_len h.2
    simp only [flatCells, List.map_cons, List.flatten_cons, List.length_append, List.length_cons] at ih ⊢
    rw [ih, h.1.2, Nat.succ_mul]; omega

theorem fillD_lit {n : Nat} (hn : 0 < n) : ∀ {ds : List (Nat × D)} {k : Nat} {done zs : List D}, litOk n k ds = true → done.length = k * n → zs.length = ds.length * n →
    fillD (fun i => some (i * n, n)) (done ++ zs) ds = some (done ++ flatCells ds)
  | [], k, done, zs, _, _, hz => by
    have : zs = [] := List.eq_nil_of_length_eq_zero (by simpa using hz)
    subst this
    simp [fillD, flatCells]
  | (i, x) :: r, k, done, zs, h, hd, hz => by
    simp only [litOk, Bool.and_eq_true, beq_iff_eq] at h
    obtain ⟨⟨rfl, hx⟩, hr⟩ := h
    simp only [List.length_cons, Nat.succ_mul] at hz
    simp only [fillD]
    rw [if_neg (by simp [hx, hd]; omega)]
    have e1 : List.take (i * n) (done ++ zs) = done := by rw [← hd]; exact List.take_left
    have e2 : List.drop (i * n + n) (done ++ zs) = zs.drop n := by
      rw [← hd, List.drop_append]
      simp
    rw [e1, e2, fillD_lit hn hr (by simp [hd, hx, Nat.succ_mul]) (by simp; omega)]
    simp [flatCells]

theorem flatCells_get {n : Nat} : ∀ {ds : List (Nat × D)} {k : Nat}, litOk n k ds = true → ∀ (i : Nat) (x : D), (ds.map (·.2))[i]? = some x → ∀ (j : Nat) (y : D), x.cells[j]? = some y → (flatCells ds)[i * n + j]? = some y
  | [], k, _, i, x, hx, _, _, _ => by simp at hx
  | (i0, x0) :: r, k, h, i, x, hx, j, y, hy => by
    simp only [litOk, Bool.and_eq_true, beq_iff_eq] at h
    simp only [flatCells, List.map_cons, List.flatten_cons]
    cases i with
    | zero =>
      simp only [List.map_cons, List.getElem?_cons_zero, Option.some.injEq] at hx
      subst hx
      rw [Nat.zero_mul, Nat.zero_add, List.getElem?_append_left (get_lt hy)]
      exact hy
    | succ i =>
      simp only [List.map_cons, List.getElem?_cons_succ] at hx
      rw [List.getElem?_append_right (by rw [h.1.2, Nat.succ_mul]; omega), h.1.2, Nat.succ_mul]
      rw [show i * n + n + j - n = i * n + j by omega]
      exact flatCells_get h.2 i x hx j y hy

theorem litOk_width {n : Nat} : ∀ {ds : List (Nat × D)} {k : Nat}, litOk n k ds = true → ∀ (i : Nat) (x : D), (ds.map (·.2))[i]? = some x → x.cells.length = n
  | [], k, _, i, x, hx => by simp at hx
  | (i0, x0) :: r, k, h, i, x, hx => by
    simp only [litOk, Bool.and_eq_true, beq_iff_eq] at h
    cases i with
    | zero => simp at hx; subst hx; exact h.1.2
    | succ i => exact litOk_width h.2 i x (by simpa using hx)

/-- A SLICE LITERAL whose parts are all written out. -/
theorem OpS.buildSlice {o : Oper} {T : TypeId} {len d n b : Nat} {parts : Array (Nat × Operand)} {ds : List (Nat × D)} (hop : o.op = .buildSlice T len parts) (hd : o.dst = some d) (hT : sliceT P T = some (n, b))
    (hp : partsD st parts.toList = some ds) (hl : ds.length = len) (hok : litOk n 0 ds = true) (hsz : len * n ≤ 16777216) : OpS P pu st o (st.put (some d) (.own n (ds.map (·.2)))) := by
  refine OpS.value fun a w g hr => ?_
  unfold sliceT at hT
  split at hT
  · rename_i e hu
    split at hT
    · rename_i i hi
      split at hT
      · rename_i z hz
        split at hT
        · rename_i hs
          obtain ⟨⟨hzs, hzd⟩, hn⟩ := hs
          cases hT
          obtain ⟨hpl, hpr⟩ := partsD_sound hr hp
          -- the cells ahead of the parts: any that read
          have hfill : ∃ cells', Instr.fill (fun k => some (k * i.size, i.size)) ((Array.range (len * i.size)).map fun k => z.cells[k % z.cells.size]!) (parts.map fun (k, x) => (k, a.eval x)).toList = some cells' ∧ RCells g w cells' (flatCells ds) := by
            obtain ⟨zd, hzd⟩ := Option.isSome_iff_exists.1 hzd
            have hzr := (constD_rd (g := g) (w := w) hzd).cells
            have hinit : RCells g w ((Array.range (len * i.size)).map fun k => z.cells[k % z.cells.size]!) ((List.range (len * i.size)).map fun k => zd.cells.getD (k % i.size) .nilS) := by
              refine ⟨by simp, fun j y hj => ?_⟩
              simp only [List.getElem?_map, Option.map_eq_some_iff] at hj
              obtain ⟨j', hj', rfl⟩ := hj
              have hjj : j' = j := by
                rw [List.getElem?_range (by have := get_lt hj'; simpa using this)] at hj'
                exact (Option.some.inj hj').symm
              subst hjj
              have hjl : j' < len * i.size := by have := get_lt hj'; simpa using this
              have hm : j' % i.size < zd.cells.length := by rw [← hzr.1, hzs]; exact Nat.mod_lt _ hn
              obtain ⟨u, u1, u2, u3⟩ := hzr.2 (j' % i.size) zd.cells[j' % i.size] (by simp [hm])
              refine ⟨u, ?_, by simpa [List.getD, hm] using u2, u3⟩
              simp only [Array.getElem?_map, Array.getElem?_range, hjl, if_true, Option.map_some, hzs, Option.some.injEq]
              rw [getElem!_def, u1]
            have hfd := fillD_lit (n := i.size) hn (ds := ds) (k := 0) (done := []) (zs := (List.range (len * i.size)).map fun k => zd.cells.getD (k % i.size) .nilS) hok (by simp) (by simp [hl])
            simp only [List.nil_append] at hfd
            exact fill_sound (fun _ => rfl) ds _ _ _ _ hinit (by simpa using hpl) (fun j p hj => by
              obtain ⟨o, e1, e2⟩ := hpr j p hj
              exact ⟨a.eval o, by simp only [Array.toList_map, List.getElem?_map, e1, Option.map_some], e2⟩) hfd
          obtain ⟨cells', f1, f2⟩ := hfill
          rw [hd]
          have hkeep : ∀ o', Keep o' g w (g.upd w.heap.size (.lst (.slot d))) (w.alloc (.cells cells' e)) := fun o' => Keep.alloc
          refine ⟨.slice (some ⟨w.heap.size, 0, none⟩) len len, w.alloc (.cells cells' e), g.upd w.heap.size (.lst (.slot d)), ?_, ?_, Fr.of (fun _ => False) (by simp) (by simp) (fun o _ => hkeep o) rfl⟩
          · have hex : execOp a.eval o = (do pure (.value (← Instr.buildSlice T len (parts.map fun (i, x) => (i, a.eval x)))) : Sem Next) := by unfold execOp; rw [hop]
            rw [hex]
            refine run_v2 _ ?_
            have hsize : (sizeOf e).run P w = .ok i.size w := by simp [sizeOf, typeInfo, hi]
            have hzero : (zeroValue e).run P w = .ok z w := by simp [zeroValue, typeInfo, hi, hz]
            simp only [Instr.buildSlice, Sem.run_bind, run_underlying hu, Result.andThen_ok, hsize]
            rw [if_neg (by simpa using hsz)]
            by_cases h0 : len * i.size = 0
            · have hlen0 : len = 0 := by
                rcases Nat.mul_eq_zero.1 h0 with h | h
                · exact h
                · omega
              subst hlen0
              have hp0 : parts = #[] := by
                apply Array.ext'
                exact List.eq_nil_of_length_eq_zero (by omega)
              subst hp0
              have hc0 : cells' = #[] := by
                simp [Instr.fill] at f1
                rw [← f1]; exact Array.ext' (by simp)
              subst hc0
              have hr0 : (Array.range 0).map (fun k => (#[] : Array Value)[k % (#[] : Array Value).size]!) = #[] := Array.ext' (by simp)
              simp [Instr.fill, newRow]
              congr 2
            · simp only [h0, if_false, Sem.run_bind, hzero, Result.andThen_ok, Sem.run_pure]
              have f1' : Instr.fill (fun k => some (k * i.size, i.size)) ((Array.range (len * i.size)).map fun k => z.cells[k % z.cells.size]!) (List.map (fun x => (x.fst, a.eval x.snd)) parts.toList) = some cells' := by
                rw [← f1]
                congr 1
                simp
              simp [f1', newRow]
          · refine hr.putNew hkeep rfl fun _ _ => ?_
            have hflat : RFlat g w cells' i.size (ds.map (·.2)) := by
              refine ⟨by rw [f2.1, flatCells_len hok]; simp, fun k x hx => litOk_width hok k x hx, fun k x hx j y hy => ?_⟩
              exact f2.2 _ y (flatCells_get hok k x hx j y hy)
            have := ROwn.new (rest := #[]) (m := len) (cap := len) (o := .slot d) hflat (w' := w.alloc (.cells cells' e)) (g' := g.upd w.heap.size (.lst (.slot d))) (e := e) (k := w.heap.size) (by rw [Array.append_empty]; exact heap_alloc _ _) (by simp) (by simpa using hl) (Nat.le_refl _) (by simp) (hkeep _) (fun _ _ h => h)
            exact this
        · cases hT
      · cases hT
    · cases hT
  · cases hT
end
end Go.Sh
