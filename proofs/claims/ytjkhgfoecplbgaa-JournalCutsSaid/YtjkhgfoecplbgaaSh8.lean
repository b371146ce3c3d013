/- A struct or an array made of its parts; bop_sound. -/
import Derived.Test.YtjkhgfoecplbgaaSh7
set_option linter.all false
set_option autoImplicit true
set_option relaxedAutoImplicit true
namespace Go.Sh
set_option linter.unusedSimpArgs false

section
variable {P : Program} {st : St} {a : Act} {w : World} {g : Gh}

/-- Cells that read. -/
def RCells (g : Gh) (w : World) (vs : Array Value) (cs : List D) : Prop := vs.size = cs.length ∧ ∀ (j : Nat) (y : D), cs[j]? = some y → ∃ u, vs[j]? = some u ∧ Rd g w u y ∧ u.oneCell' = true

theorem Rd.cells {v : Value} {x : D} (h : Rd g w v x) : RCells g w v.cells x.cells := by
  have one : ∀ (v : Value) (x : D), Rd g w v x → v.oneCell' = true → RCells g w #[v] [x] := fun v x h h1 => ⟨rfl, fun j y hj => by
    cases j with
    | zero => simp at hj; subst hj; exact ⟨v, rfl, h, h1⟩
    | succ j => simp at hj⟩
  cases h with
  | agg hl us hc hr => exact ⟨hl, fun j y hj => ⟨us j, (hc j y hj).1, hr j y hj, (hc j y hj).2⟩⟩
  | bool => exact one _ _ .bool rfl
  | int => exact one _ _ .int rfl
  | str => exact one _ _ .str rfl
  | nilS => exact one _ _ .nilS rfl
  | list0 => exact one _ _ .list0 rfl
  | list us hk hb hl hp hn hc hr => exact one _ _ (.list us hk hb hl hp hn hc hr) rfl
  | nilIface => exact one _ _ .nilIface rfl
  | iface h => exact one _ _ (.iface h) rfl
  | fn hl1 hl2 us1 us2 hc1 hr1 hc2 hr2 => exact one _ _ (.fn hl1 hl2 us1 us2 hc1 hr1 hc2 hr2) rfl
  | nilFn => exact one _ _ .nilFn rfl
  | nilPtr => exact one _ _ .nilPtr rfl
  | ptr h => exact one _ _ (.ptr h) rfl
  | dptr us hk hb hc hr => exact one _ _ (.dptr us hk hb hc hr) rfl
  | nilMap => exact one _ _ .nilMap rfl
  | map h => exact one _ _ (.map h) rfl

theorem RCells.agg {vs : Array Value} {cs : List D} (h : RCells g w vs cs) : Rd g w (.agg vs) (.agg cs) := Rd.agg' h.1 h.2

theorem setPart_list : ∀ (l : List Value) (k off : Nat) (cells : Array Value) (i : Nat),
    ((l.zipIdx k).foldl (fun cs p => cs.setIfInBounds (off + p.2) p.1) cells).size = cells.size ∧
    ((l.zipIdx k).foldl (fun cs p => cs.setIfInBounds (off + p.2) p.1) cells)[i]? = if off + k ≤ i ∧ i < off + k + l.length ∧ i < cells.size then l[i - (off + k)]? else cells[i]?
  | [], k, off, cells, i => by simp; intro h1 h2; omega
  | v :: l, k, off, cells, i => by
    simp only [List.zipIdx_cons, List.foldl_cons]
    obtain ⟨h1, h2⟩ := setPart_list l (k + 1) off (cells.setIfInBounds (off + k) v) i
    refine ⟨by rw [h1]; simp, ?_⟩
    rw [h2]
    simp only [Array.size_setIfInBounds]
    by_cases hi : off + k = i
    · subst hi
      rw [if_neg (by omega)]
      by_cases hs : off + k < cells.size
      · rw [if_pos ⟨by omega, by simp, hs⟩]
        simp [hs]
      · rw [if_neg (by omega)]
        rw [Array.getElem?_eq_none (by simp; omega), Array.getElem?_eq_none (by omega)]
    · by_cases hc : off + (k + 1) ≤ i ∧ i < off + (k + 1) + l.length ∧ i < cells.size
      · rw [if_pos hc, if_pos (by simp; omega)]
        rw [show i - (off + k) = (i - (off + (k + 1))) + 1 by omega]
        simp
      · rw [if_neg hc, if_neg (by simp; omega), Array.getElem?_setIfInBounds_ne (by omega)]

theorem setPart {vs cells : Array Value} {ys cs : List D} {off : Nat} (h1 : RCells g w vs ys) (h2 : RCells g w cells cs) (hb : off + ys.length ≤ cs.length) :
    RCells g w (vs.zipIdx.foldl (fun cs p => cs.setIfInBounds (off + p.2) p.1) cells) (cs.take off ++ ys ++ cs.drop (off + ys.length)) := by
  have he : vs.zipIdx.foldl (fun cs p => cs.setIfInBounds (off + p.2) p.1) cells = (vs.toList.zipIdx 0).foldl (fun cs p => cs.setIfInBounds (off + p.2) p.1) cells := by
    rw [← Array.foldl_toList, Array.toList_zipIdx]
  rw [he]
  refine ⟨?_, fun j y hj => ?_⟩
  · rw [(setPart_list _ 0 off cells 0).1, h2.1]
    simp; omega
  · rw [(setPart_list _ 0 off cells j).2]
    have hvl : vs.toList.length = ys.length := by simpa using h1.1
    have hcl := h2.1
    rw [hvl]
    by_cases c1 : j < off
    · rw [if_neg (by omega)]
      refine h2.2 j y ?_
      rw [List.append_assoc, List.getElem?_append_left (by simp; omega), List.getElem?_take, if_pos c1] at hj
      exact hj
    · by_cases c2 : j < off + ys.length
      · rw [if_pos (by omega)]
        rw [List.getElem?_append_left (by simp; omega), List.getElem?_append_right (by simp; omega)] at hj
        simp only [List.length_take] at hj
        rw [Nat.min_eq_left (by omega)] at hj
        obtain ⟨u, e1, e2⟩ := h1.2 _ y hj
        exact ⟨u, by simpa using e1, e2⟩
      · rw [if_neg (by omega)]
        refine h2.2 j y ?_
        rw [List.getElem?_append_right (by simp; omega), List.getElem?_drop] at hj
        simp only [List.length_append, List.length_take] at hj
        rw [Nat.min_eq_left (by omega)] at hj
        rw [show off + ys.length + (j - (off + ys.length)) = j by omega] at hj
        exact hj

theorem fill_sound {place place' : Nat → Option (Nat × Nat)} (hp : ∀ i, place i = place' i) : ∀ (ps : List (Nat × D)) (qs : List (Nat × Value)) (cells : Array Value) (cs cs' : List D),
    RCells g w cells cs → ps.length = qs.length → (∀ (j : Nat) (p : Nat × D), ps[j]? = some p → ∃ v, qs[j]? = some (p.1, v) ∧ Rd g w v p.2) →
    fillD place cs ps = some cs' → ∃ cells', Instr.fill place' cells qs = some cells' ∧ RCells g w cells' cs'
  | [], [], cells, cs, cs', h1, _, _, h => by
    simp only [fillD, Option.some.injEq] at h
    subst h
    exact ⟨cells, rfl, h1⟩
  | [], _ :: _, _, _, _, _, h, _, _ => by simp at h
  | _ :: _, [], _, _, _, _, h, _, _ => by simp at h
  | (i, x) :: ps, q :: qs, cells, cs, cs', h1, hl, hq, h => by
    obtain ⟨v, e1, e2⟩ := hq 0 (i, x) (by simp)
    simp only [List.getElem?_cons_zero, Option.some.injEq] at e1
    subst e1
    simp only [fillD] at h
    split at h
    · cases h
    · rename_i off size hpl
      split at h
      · cases h
      · rename_i hc
        have hv := e2.cells
        simp only at hv hc
        have hc1 : x.cells.length = size := by omega
        subst hc1
        have hsz : ¬ (decide (v.cells.size ≠ x.cells.length) || decide (off + v.cells.size > cells.size)) = true := by rw [hv.1, h1.1]; simp; omega
        obtain ⟨cells', f1, f2⟩ := fill_sound hp ps qs _ _ cs' (setPart (off := off) hv h1 (by omega)) (by simpa using hl) (fun j p hj => by simpa using hq (j + 1) p (by simpa using hj)) h
        refine ⟨cells', ?_, f2⟩
        simp only [Instr.fill, ← hp i, hpl]
        rw [if_neg hsz]
        exact f1

theorem partsD_sound (h : Rel st a w g) : ∀ {xs : List (Nat × Operand)} {ds : List (Nat × D)}, partsD st xs = some ds →
    ds.length = xs.length ∧ ∀ (j : Nat) (p : Nat × D), ds[j]? = some p → ∃ o, xs[j]? = some (p.1, o) ∧ Rd g w (a.eval o) p.2
  | [], ds, hv => by simp [partsD] at hv; subst hv; simp
  | (i, x) :: xs, ds, hv => by
    simp only [partsD] at hv
    split at hv
    · rename_i d ds' h1 h2
      cases hv
      obtain ⟨hl, hr⟩ := partsD_sound h h2
      refine ⟨by simp [hl], fun j p hj => ?_⟩
      cases j with
      | zero => simp at hj; subst hj; exact ⟨x, by simp, valD_d h h1⟩
      | succ j => simpa using hr j p (by simpa using hj)
    · cases hv

theorem run_mapM_list {α β : Type} (f : α → Sem β) (r : α → β) (w' : World) : ∀ (l : List α), (∀ x ∈ l, (f x).run P w' = .ok (r x) w') → (l.mapM f).run P w' = .ok (l.map r) w'
  | [], _ => by simp
  | x :: l, h => by
    simp only [List.mapM_cons, Sem.run_bind, h x (by simp), Result.andThen_ok, run_mapM_list f r w' l (fun y hy => h y (by simp [hy])), Sem.run_pure, List.map_cons]

theorem zeroD_sound {T : TypeId} {z : D} (hv : zeroD P T = some z) : ∃ v, Rd g w v z ∧ ∀ w', (zeroValue T).run P w' = .ok v w' := by
  simp only [zeroD, Option.bind_eq_some_iff] at hv
  obtain ⟨v, ⟨i, h1, h2⟩, h3⟩ := hv
  exact ⟨v, constD_rd h3, fun w' => by simp [zeroValue, typeInfo, h1, h2]⟩

theorem buildS_sound (h : Rel st a w g) {T : TypeId} {parts : Array (Nat × Operand)} {d : D} (hv : buildS P st T parts.toList = some d) :
    ∃ v, Rd g w v d ∧ ∀ w', (Instr.build T (parts.map fun (i, x) => (i, a.eval x))).run P w' = .ok v w' := by
  unfold buildS at hv
  split at hv
  · rename_i pl z ds h1 h2 h3
    simp only [Option.map_eq_some_iff] at hv
    obtain ⟨cs, h4, rfl⟩ := hv
    obtain ⟨zv, z1, z2⟩ := zeroD_sound (g := g) (w := w) h2
    obtain ⟨hl, hr⟩ := partsD_sound h h3
    have hq : ∀ (j : Nat) (p : Nat × D), ds[j]? = some p → ∃ v, (parts.map fun (i, x) => (i, a.eval x)).toList[j]? = some (p.1, v) ∧ Rd g w v p.2 := fun j p hj => by
      obtain ⟨o, e1, e2⟩ := hr j p hj
      exact ⟨a.eval o, by simp only [Array.toList_map, List.getElem?_map, e1, Option.map_some], e2⟩
    unfold placesOf at h1
    split at h1
    · rename_i fs hu
      split at h1
      · rename_i hall
        cases h1
        obtain ⟨cells', f1, f2⟩ := fill_sound (g := g) (w := w) (place' := fun i => (fs.map fun f => (f.offset, P.cellsOf f.type))[i]?) (fun i => by rw [Array.getElem?_map]) ds _ _ _ cs z1.cells (by simpa using hl) hq h4
        refine ⟨.agg cells', f2.agg, fun w' => ?_⟩
        have hm : (fs.mapM fun f => (do pure (f.offset, ← sizeOf f.type) : Sem (Nat × Nat))).run P w' = .ok (fs.map fun f => (f.offset, P.cellsOf f.type)) w' := by
          rw [Array.mapM_eq_mapM_toList]
          simp only [Sem.run_map]
          rw [run_mapM_list _ (fun f => (f.offset, P.cellsOf f.type)) w' fs.toList (fun f hf => by
            have hi : (P.info? f.type).isSome = true := by
              rw [Array.all_eq_true'] at hall
              exact hall f (by simpa using hf)
            obtain ⟨i, hi⟩ := Option.isSome_iff_exists.1 hi
            simp [sizeOf, typeInfo, hi, Program.cellsOf])]
          simp only [Result.andThen_ok]
          congr 1
          exact Array.ext' (by simp)
        simp only [Instr.build, Sem.run_bind, z2, Result.andThen_ok, run_underlying hu, hm, f1, Sem.run_pure]
      · cases h1
    · rename_i n e hu
      split at h1
      · rename_i hi
        cases h1
        obtain ⟨i, hi⟩ := Option.isSome_iff_exists.1 hi
        obtain ⟨cells', f1, f2⟩ := fill_sound (g := g) (w := w) (place' := fun i => some (i * P.cellsOf e, P.cellsOf e)) (fun i => rfl) ds _ _ _ cs z1.cells (by simpa using hl) hq h4
        refine ⟨.agg cells', f2.agg, fun w' => ?_⟩
        have hsz : (sizeOf e).run P w' = .ok (P.cellsOf e) w' := by simp [sizeOf, typeInfo, hi, Program.cellsOf]
        simp only [Instr.build, Sem.run_bind, z2, Result.andThen_ok, run_underlying hu, hsz, f1, Sem.run_pure]
      · cases h1
    · cases h1
  · cases hv

theorem run_v (s : Sem Value) (w' : World) {v : Value} (h : s.run P w' = .ok v w') : (do pure (.value (← s)) : Sem Next).run P w' = .ok (.value v) w' := by
  simp [h]

/-- WHAT AN OPERATION THAT ONLY READS YIELDS, in every world that has grown. -/
theorem bop_sound (h : Rel st a w g) {o : Oper} {s : SV} (hv : bop P st o = some s) : ∃ v, BV g w st a v s ∧ ∀ w', Up w w' → (execOp a.eval o).run P w' = .ok (.value v) w' := by
  obtain ⟨dst, op, type, pos, after, guard⟩ := o
  unfold bop at hv
  cases op <;> simp only [reduceCtorEq] at hv
  case move x => exact ⟨_, readOp_sound h hv, fun w' _ => rfl⟩
  case assign x => exact ⟨_, readOp_sound h hv, fun w' _ => rfl⟩
  case pick c x y =>
    split at hv
    · rename_i b hb
      simp only [Option.map_eq_some_iff] at hv
      obtain ⟨d, h1, rfl⟩ := hv
      refine ⟨_, BV.light (valD_d h h1 : Light g w _ (.d d)), fun w' _ => ?_⟩
      simp only [execOp, valD_leaf h hb rfl, asBool]
      cases b <;> rfl
    · cases hv
  case build T parts =>
    simp only [Option.map_eq_some_iff] at hv
    obtain ⟨d, h1, rfl⟩ := hv
    obtain ⟨v, e1, e2⟩ := buildS_sound h h1
    exact ⟨v, BV.light (s := .d d) e1, fun w' _ => run_v _ w' (e2 w')⟩
  case load T x =>
    obtain ⟨v, e1, e2⟩ := loadOp_sound h hv
    exact ⟨v, BV.light e1, fun w' hw => run_v _ w' (e2 w' hw)⟩
  case nilCheck x =>
    split at hv
    · rename_i s' hs'
      split at hv
      · rename_i hc
        cases hv
        have hb := readOp_sound h hs'
        refine ⟨_, hb, fun w' _ => ?_⟩
        simp only [Bool.and_eq_true, bne_iff_ne] at hc
        obtain ⟨c1, c2⟩ := hc
        simp only [execOp]
        cases s with
        | d d =>
          have hb' : Rd g w (a.eval x) d := hb
          generalize a.eval x = v at hb'
          cases hb' <;> simp [someK] at c1 <;> try rfl
          rename_i f _ _ _ _ _ _ _ _ _ _ _ _
          cases f <;> simp [fnOk] at c2
          rfl
        | loc s off => obtain ⟨-, k, -, e⟩ := hb; rw [e]; rfl
        | lptr l cs => obtain ⟨k, off, c, T0, fz, us, e, -⟩ := hb; rw [e]; rfl
        | box cs => exact hb.elim
        | _ => simp [someK] at c1
      · cases hv
    · cases hv
  case binOp op T x y yT =>
    simp only [Option.map_eq_some_iff] at hv
    obtain ⟨d, h1, rfl⟩ := hv
    obtain ⟨v, e1, e2⟩ := binS_sound h h1
    exact ⟨v, BV.light (s := .d d) e1, fun w' _ => run_v _ w' (e2 w')⟩
  case unOp op T x =>
    simp only [Option.map_eq_some_iff] at hv
    obtain ⟨d, h1, rfl⟩ := hv
    obtain ⟨v, e1, e2⟩ := unS_sound h h1
    exact ⟨v, BV.light (s := .d d) e1, fun w' _ => run_v _ w' (e2 w')⟩
  case convert src dst x =>
    simp only [Option.map_eq_some_iff] at hv
    obtain ⟨d, h1, rfl⟩ := hv
    obtain ⟨v, e1, e2⟩ := convS_sound h h1
    exact ⟨v, BV.light (s := .d d) e1, fun w' hw => run_v _ w' (e2 w' hw)⟩
  case makeInterface T x =>
    split at hv
    · cases hv
    · cases hv
    · rename_i t hne hu
      simp only [Option.map_eq_some_iff] at hv
      obtain ⟨d, h1, rfl⟩ := hv
      refine ⟨.iface T (a.eval x), BV.light (s := .d (.iface T d)) (.iface (valD_d h h1)), fun w' _ => run_v _ w' ?_⟩
      simp only [Instr.makeInterface, Sem.run_bind, run_underlying hu, Result.andThen_ok]
      rfl
  case makeFunc fn first caps =>
    split at hv
    · rename_i fs cs h1 h2
      cases hv
      exact ⟨_, BV.light (s := .d (.fn fn fs cs)) (makeFunc_sound h h1 h2), fun w' _ => rfl⟩
    · cases hv
  case slice T x lo hi mx =>
    obtain ⟨v, e1, e2⟩ := sliceOp_sound h hv
    exact ⟨v, BV.light e1, fun w' _ => run_v _ w' (e2 w')⟩
  case fieldAddr S x f =>
    obtain ⟨v, e1, e2⟩ := fieldAddrOp_sound h hv
    exact ⟨v, e1, fun w' _ => run_v _ w' (e2 w')⟩
  case field T x f =>
    simp only [Option.map_eq_some_iff] at hv
    obtain ⟨d, h1, rfl⟩ := hv
    obtain ⟨v, e1, e2⟩ := fieldOp_sound h h1
    exact ⟨v, BV.light (s := .d d) e1, fun w' _ => run_v _ w' (e2 w')⟩
  case indexAddr T x i =>
    obtain ⟨v, e1, e2⟩ := indexAddrOp_sound h hv
    exact ⟨v, e1, fun w' _ => run_v _ w' (e2 w')⟩
  case index T x i =>
    simp only [Option.map_eq_some_iff] at hv
    obtain ⟨d, h1, rfl⟩ := hv
    obtain ⟨v, e1, e2⟩ := indexOp_sound h h1
    exact ⟨v, BV.light (s := .d d) e1, fun w' _ => run_v _ w' (e2 w')⟩
  case extract x j =>
    simp only [Option.map_eq_some_iff] at hv
    obtain ⟨d, h1, rfl⟩ := hv
    obtain ⟨v, e1, e2⟩ := extractOp_sound h h1
    exact ⟨v, BV.light (s := .d d) e1, fun w' _ => run_v _ w' (e2 w')⟩
  case call c =>
    split at hv
    · rename_i x T hc hargs hts
      simp only [Option.map_eq_some_iff] at hv
      obtain ⟨d, h1, rfl⟩ := hv
      obtain ⟨v, e1, e2⟩ := lenOp_sound (ty := type) h h1
      refine ⟨v, BV.light (s := .d d) e1, fun w' _ => ?_⟩
      obtain ⟨callee, args, argTypes⟩ := c
      have ha : args = #[x] := by apply Array.ext'; simpa using hargs
      have ht : argTypes = #[T] := by apply Array.ext'; simpa using hts
      subst ha ht
      simp only at hc
      subst hc
      simp only [execOp, resolve, List.map_toArray, List.map_cons, List.map_nil, Sem.run_bind, Sem.run_pure, Result.andThen_ok, invoke, builtin]
      simp [e2 w']
    · cases hv
end
end Go.Sh
