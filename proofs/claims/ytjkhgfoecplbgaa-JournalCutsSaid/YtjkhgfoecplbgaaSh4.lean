/- The operations that only read: what they yield in the shadow (bop), and that they yield it (bop_sound). -/
import Derived.Test.YtjkhgfoecplbgaaSh3
import Derived.Laws.StructEq
import Derived.Laws.Cells
set_option linter.all false
set_option autoImplicit true
set_option relaxedAutoImplicit true
namespace Go.Sh

/-- A value that is whole by itself. -/
def leafV : D → Option Value
  | .bool b => some (.bool b)
  | .int k n => some (.int k n)
  | .str l => some (.string (mk l))
  | .nilIface => some .nilIface
  | .nilFn => some .nilFunc
  | .nilPtr => some (.pointer none)
  | .nilMap => some (.map none)
  | .iface t x => (leafV x).map (.iface t)
  | _ => none

def leafD : Value → Option D
  | .bool b => some (.bool b)
  | .int k n => some (.int k n)
  | .string s => some (.str s.data.toList)
  | .nilIface => some .nilIface
  | .nilFunc => some .nilFn
  | .pointer none => some .nilPtr
  | .map none => some .nilMap
  | .slice none 0 0 => some .nilS
  | _ => none

def leafDs : List Value → Option (List D)
  | [] => some []
  | v :: vs => match leafD v, leafDs vs with
    | some x, some xs => some (x :: xs)
    | _, _ => none

def constD : Value → Option D
  | .agg cs => (leafDs cs.toList).map .agg
  | v => leafD v

theorem leafV_rd {g : Gh} {w : World} {d : D} : ∀ {u v : Value}, leafV d = some u → Rd g w v d → v = u := by
  induction d using D.rec (motive_2 := fun _ => True) with
  | iface t x ih =>
    intro u v h hr
    simp only [leafV, Option.map_eq_some_iff] at h
    obtain ⟨u', h1, rfl⟩ := h
    cases hr with
    | iface hr => rw [ih h1 hr]
  | _ => first | trivial | (intro u v h hr; cases hr <;> simp_all [leafV])

theorem rd_leafV {g : Gh} {w : World} {d : D} : ∀ {u : Value}, leafV d = some u → Rd g w u d := by
  induction d using D.rec (motive_2 := fun _ => True) with
  | iface t x ih =>
    intro u h
    simp only [leafV, Option.map_eq_some_iff] at h
    obtain ⟨u', h1, rfl⟩ := h
    exact .iface (ih h1)
  | _ => first | trivial | (intro u h; simp only [leafV, Option.some.injEq, reduceCtorEq] at h; try (subst h; constructor))

theorem leafD_rd {g : Gh} {w : World} {v : Value} {x : D} (h : leafD v = some x) : Rd g w v x := by
  unfold leafD at h
  split at h <;> simp at h <;> subst h <;> try constructor

theorem leafD_one {v : Value} {x : D} (h : leafD v = some x) : v.oneCell' = true := by
  unfold leafD at h
  split at h <;> simp at h <;> rfl

theorem leafDs_rd {g : Gh} {w : World} : ∀ {vs : List Value} {xs : List D}, leafDs vs = some xs → vs.length = xs.length ∧ ∀ (j : Nat) (y : D), xs[j]? = some y → ∃ u, vs[j]? = some u ∧ Rd g w u y ∧ u.oneCell' = true
  | [], xs, h => by simp [leafDs] at h; subst h; simp
  | v :: vs, xs, h => by
    simp only [leafDs] at h
    split at h
    · rename_i x xs' h1 h2
      simp at h; subst h
      obtain ⟨hl, hr⟩ := leafDs_rd (g := g) (w := w) h2
      refine ⟨by simp [hl], fun j y hj => ?_⟩
      cases j with
      | zero => simp at hj; subst hj; exact ⟨v, by simp, leafD_rd h1, leafD_one h1⟩
      | succ j => simp at hj; simpa using hr j y hj
    · simp at h

/-- Cells that read, named by their places. -/
theorem Rd.agg' {g : Gh} {w : World} {vs : Array Value} {cs : List D} (hl : vs.size = cs.length) (h : ∀ (j : Nat) (y : D), cs[j]? = some y → ∃ u, vs[j]? = some u ∧ Rd g w u y ∧ u.oneCell' = true) : Rd g w (.agg vs) (.agg cs) := by
  refine .agg hl (fun j => vs.getD j undef) (fun j y hy => ?_) (fun j y hy => ?_)
  · obtain ⟨u, h1, h2, h3⟩ := h j y hy
    simpa [Array.getD_eq_getD_getElem?, h1] using h3
  · obtain ⟨u, h1, h2, h3⟩ := h j y hy
    simpa [Array.getD_eq_getD_getElem?, h1] using h2

theorem constD_rd {g : Gh} {w : World} {v : Value} {x : D} (h : constD v = some x) : Rd g w v x := by
  unfold constD at h
  split at h
  · rename_i cs
    simp only [Option.map_eq_some_iff] at h
    obtain ⟨xs, h1, rfl⟩ := h
    obtain ⟨hl, hr⟩ := leafDs_rd (g := g) (w := w) h1
    exact Rd.agg' (by simpa using hl) (fun j y hj => by simpa using hr j y hj)
  · exact leafD_rd h

/-- A piece of the model that asks no more than the program. -/
def leafRun (P : Program) {α : Type} : Sem α → Option α
  | .pure a => some a
  | .program k => leafRun P (k P)
  | _ => none

theorem leafRun_run {P : Program} {α : Type} : ∀ {s : Sem α} {a : α}, leafRun P s = some a → ∀ w, s.run P w = .ok a w := by
  intro s
  induction s with
  | pure a => intro b h w; simp [leafRun] at h; subst h; rfl
  | program k ih => intro b h w; simp only [leafRun] at h; simp only [Sem.run]; exact ih _ h w
  | _ => intro b h; simp [leafRun] at h

/-- A leaf's value back. -/
def backD (v : Option Value) : Option D := v.bind leafD

section
variable (P : Program)

def elemW (T : TypeId) : Nat := match P.underlying T with | some (.slice e) => P.cellsOf e | _ => 0
def isAggT (T : TypeId) : Bool := match P.underlying T with | some (.struct _) | some (.array _ _) => true | _ => false

def val (st : St) : Operand → Option SV
  | .tmp t => st.tmps[t]?
  | .const v => (constD v).map .d
  | .func f => some (.d (.fn (.func f) [] []))
  | .global _ => none

def valD (st : St) (x : Operand) : Option D := match val st x with | some (.d d) => some d | _ => none

/-- What is handed on when a variable is only read. -/
def readSV (s : Nat) : SV → Option SV
  | .d x => some (.d x)
  | .lent l n xs => some (.lent l n xs)
  | .lptr l cs => some (.lptr l cs)
  | .loc t off => some (.loc t off)
  | .own n xs => some (.lent (.slot s) n xs)
  | .pin _ n xs => some (.lent (.slot s) n xs)
  | .box _ => some (.loc s 0)
  | .undef => some .undef
  | _ => none

def readOp (st : St) (T : TypeId) : Operand → Option SV
  | .tmp s => (st.tmps[s]?).bind (readSV s)
  | .const (.slice none 0 0) => some (.own (elemW P T) [])
  | x => val st x

/-- A pointer as the slot of a box and the cell in it. -/
def asLoc (st : St) : Operand → Option (Nat × Nat)
  | .tmp s => match st.tmps[s]? with
    | some (.box _) => some (s, 0)
    | some (.loc t off) => some (t, off)
    | _ => none
  | _ => none

def boxAt (st : St) (s : Nat) : Option (List SV) := match st.tmps[s]? with | some (.box cs) => some cs | _ => none

def allD : List SV → Option (List D)
  | [] => some []
  | .d x :: r => (allD r).map (x :: ·)
  | _ :: _ => none

/-- A variable of type T read out of cells of data. -/
def loadD (T : TypeId) (cs : List D) : Option D :=
  if (P.underlying T).isNone then none
  else if isAggT P T then (if 0 < P.cellsOf T ∧ P.cellsOf T ≤ cs.length then some (.agg (cs.take (P.cellsOf T))) else none)
  else cs.head?

/-- The same out of the cells of a box or an object; 'l': who lends a list that stands there. -/
def loadS (T : TypeId) (l : Loc) (cs : List SV) : Option SV :=
  if (P.underlying T).isNone then none
  else if isAggT P T then (if 0 < P.cellsOf T ∧ P.cellsOf T ≤ cs.length then (allD (cs.take (P.cellsOf T))).map fun ys => .d (.agg ys) else none)
  else match cs with
    | .d x :: _ => some (.d x)
    | .own n xs :: _ => some (.lent l n xs)
    | _ => none
end

theorem cell_blk {w : World} {k : Nat} {c : Array Value} {T : TypeId} {fz : Nat × Nat} (h : w.heap[k]? = some (.cells c T fz)) (j : Nat) : w.cell? ⟨k, j, none⟩ = c[j]? := by
  simp [World.cell?, h]

section
variable {P : Program}

theorem info_of_underlying {T : TypeId} (h : (P.underlying T).isNone = false) : ∃ i, P.info? T = some i := by
  unfold Program.underlying at h
  cases hi : P.info? T with
  | none => rw [hi] at h; simp at h
  | some i => exact ⟨i, rfl⟩

theorem run_sizeOf' {T : TypeId} (h : (P.underlying T).isNone = false) (w : World) : (sizeOf T).run P w = .ok (P.cellsOf T) w := by
  obtain ⟨i, hi⟩ := info_of_underlying h
  simp [sizeOf, typeInfo, hi, Program.cellsOf]

theorem run_isAgg' {T : TypeId} (h : (P.underlying T).isNone = false) (w : World) : (isAgg T).run P w = .ok (isAggT P T) w := by
  cases hu : P.underlying T with
  | none => rw [hu] at h; simp at h
  | some d =>
    simp only [isAgg, Sem.run_bind, run_underlying hu, Result.andThen_ok, isAggT, hu]
    cases d <;> rfl

/-- Cells in a row: as an array's part. -/
theorem run_cells {w : World} {k off n : Nat} {c : Array Value} {T0 : TypeId} {fz : Nat × Nat} (hb : w.heap[k]? = some (.cells c T0 fz)) (hs : off + n ≤ c.size) :
    (loadCells ⟨k, off, none⟩ n).run P w = .ok (c.extract off (off + n)) w := by
  have := run_loadCells_list (P := P) w ⟨k, off, none⟩ (c.extract off (off + n)).toList (fun j v hj => by
    rw [Addr.add_lit, cell_blk hb]
    simp only [Array.getElem?_toList, Array.getElem?_extract] at hj
    split at hj
    · exact hj
    · cases hj)
  have hl : (c.extract off (off + n)).toList.length = n := by simp; omega
  rw [hl, Array.toArray_toList] at this
  exact this

theorem run_loadVar_agg {T : TypeId} (hu : (P.underlying T).isNone = false) (ha : isAggT P T = true) {w : World} {k off : Nat} {c : Array Value} {T0 : TypeId} {fz : Nat × Nat}
    (hb : w.heap[k]? = some (.cells c T0 fz)) (hs : off + P.cellsOf T ≤ c.size) : (loadVar T ⟨k, off, none⟩).run P w = .ok (.agg (c.extract off (off + P.cellsOf T))) w := by
  simp only [loadVar, Sem.run_bind, run_isAgg' hu, Result.andThen_ok, ha, if_true, run_sizeOf' hu, run_cells hb hs, Sem.run_pure]

theorem run_loadVar_one {T : TypeId} (hu : (P.underlying T).isNone = false) (ha : isAggT P T = false) {w : World} {k off : Nat} {c : Array Value} {T0 : TypeId} {fz : Nat × Nat} {v : Value}
    (hb : w.heap[k]? = some (.cells c T0 fz)) (hv : c[off]? = some v) : (loadVar T ⟨k, off, none⟩).run P w = .ok v w := by
  simp only [loadVar, Sem.run_bind, run_isAgg' hu, Result.andThen_ok, ha, Bool.false_eq_true, if_false, run_load, cell_blk hb, hv]

theorem get_lt {α : Type} {l : List α} {j : Nat} {x : α} (h : l[j]? = some x) : j < l.length := (List.getElem?_eq_some_iff.1 h).1
theorem arr_lt {α : Type} {l : Array α} {j : Nat} {x : α} (h : l[j]? = some x) : j < l.size := (Array.getElem?_eq_some_iff.1 h).1

/-- A variable out of cells that read. -/
theorem load_d {g : Gh} {w0 : World} {T : TypeId} {k off : Nat} {c : Array Value} {T0 : TypeId} {fz : Nat × Nat} {cs : List D} {d : D}
    (hc : ∀ (j : Nat) (y : D), cs[j]? = some y → ∃ u, c[off + j]? = some u ∧ Rd g w0 u y ∧ u.oneCell' = true) (hl : loadD P T cs = some d) :
    ∃ v, Rd g w0 v d ∧ ∀ w : World, w.heap[k]? = some (.cells c T0 fz) → (loadVar T ⟨k, off, none⟩).run P w = .ok v w := by
  unfold loadD at hl
  split at hl
  · cases hl
  · rename_i hu
    have hu : (P.underlying T).isNone = false := Bool.eq_false_iff.2 hu
    split at hl
    · rename_i ha
      split at hl
      · rename_i hn
        obtain ⟨h0, hn⟩ := hn
        cases hl
        have hs : off + P.cellsOf T ≤ c.size := by
          have hlt : P.cellsOf T - 1 < cs.length := by omega
          obtain ⟨u, hu', -⟩ := hc (P.cellsOf T - 1) cs[P.cellsOf T - 1] (by simp [hlt])
          have := arr_lt hu'
          omega
        refine ⟨.agg (c.extract off (off + P.cellsOf T)), Rd.agg' ?_ (fun j y hj => ?_), fun w hb => run_loadVar_agg hu ha hb hs⟩
        · simp [Nat.min_eq_left hn, Nat.min_eq_left hs, Nat.add_sub_cancel_left]
        · rw [List.getElem?_take] at hj
          split at hj
          · rename_i hjn
            obtain ⟨u, h1, h2, h3⟩ := hc j y hj
            refine ⟨u, ?_, h2, h3⟩
            rw [Array.getElem?_extract, if_pos (by omega)]
            exact h1
          · cases hj
      · cases hl
    · rename_i ha
      have ha : isAggT P T = false := by simpa using ha
      obtain ⟨u, h1, h2, -⟩ := hc 0 d (by cases cs <;> simp_all)
      exact ⟨u, h2, fun w hb => run_loadVar_one hu ha hb (by simpa using h1)⟩

theorem allD_get : ∀ {cs : List SV} {ys : List D}, allD cs = some ys → cs.length = ys.length ∧ ∀ (j : Nat) (y : D), ys[j]? = some y → cs[j]? = some (.d y)
  | [], ys, h => by simp [allD] at h; subst h; simp
  | .d x :: r, ys, h => by
    simp only [allD, Option.map_eq_some_iff] at h
    obtain ⟨zs, h1, rfl⟩ := h
    obtain ⟨hl, hr⟩ := allD_get h1
    refine ⟨by simp [hl], fun j y hj => ?_⟩
    cases j with
    | zero => simpa using hj
    | succ j => simpa using hr j y (by simpa using hj)
  | .own _ _ :: _, _, h => by simp [allD] at h
  | .lent _ _ _ :: _, _, h => by simp [allD] at h
  | .lptr _ _ :: _, _, h => by simp [allD] at h
  | .box _ :: _, _, h => by simp [allD] at h
  | .loc _ _ :: _, _, h => by simp [allD] at h
  | .tup _ :: _, _, h => by simp [allD] at h
  | .undef :: _, _, h => by simp [allD] at h

theorem ROwn.toLent {g : Gh} {w : World} {o : Loc} {v : Value} {n : Nat} {xs : List D} (h : ROwn g w o v n xs) : RList g w (some o) v n xs := by
  rcases h with ⟨h, a, h'⟩ | ⟨k, off, cap, c, T, us, hv, hk, hb, hp, -, hn, hc, hr⟩
  · exact .inl ⟨h, a, 0, h'⟩
  · exact .inr ⟨k, off, cap, c, T, (0, 0), us, hv, by rw [hk]; rfl, hb, hp, hn, hc, hr⟩

/-- A variable out of the cells of a box or an object. -/
theorem load_s {g : Gh} {w0 : World} {T : TypeId} {k off : Nat} {c : Array Value} {T0 : TypeId} {fz : Nat × Nat} {cs : List SV} {s : SV} {l : Nat → Loc}
    (hc : ∀ (j : Nat) (y : SV), cs[j]? = some y → ∃ u, c[off + j]? = some u ∧ RC g w0 (l (off + j)) u y ∧ u.oneCell' = true) (hl : loadS P T (l off) cs = some s) :
    ∃ v, Light g w0 v s ∧ ∀ w : World, w.heap[k]? = some (.cells c T0 fz) → (loadVar T ⟨k, off, none⟩).run P w = .ok v w := by
  unfold loadS at hl
  split at hl
  · cases hl
  · rename_i hu
    have hu : (P.underlying T).isNone = false := Bool.eq_false_iff.2 hu
    split at hl
    · rename_i ha
      split at hl
      · rename_i hn
        obtain ⟨h0, hn⟩ := hn
        simp only [Option.map_eq_some_iff] at hl
        obtain ⟨ys, h1, rfl⟩ := hl
        obtain ⟨hly, hgy⟩ := allD_get h1
        have hlen : P.cellsOf T = ys.length := by rw [← hly]; simp [Nat.min_eq_left hn]
        have hd := load_d (P := P) (g := g) (w0 := w0) (T := T) (k := k) (off := off) (c := c) (T0 := T0) (fz := fz) (cs := ys) (d := .agg ys) (fun j y hj => by
          have h2 := hgy j y hj
          rw [List.getElem?_take] at h2
          split at h2
          · obtain ⟨u, h3, h4, h5⟩ := hc j _ h2
            exact ⟨u, h3, h4, h5⟩
          · cases h2) (by
            have hu' : (P.underlying T).isNone = false := hu
            have h0' : 0 < ys.length := by omega
            simp [loadD, hu', ha, hlen, h0'])
        exact hd
      · cases hl
    · rename_i ha
      have ha : isAggT P T = false := by simpa using ha
      split at hl
      · rename_i x r
        cases hl
        obtain ⟨u, h1, h2, -⟩ := hc 0 (.d x) (by simp)
        exact ⟨u, h2, fun w hb => run_loadVar_one hu ha hb (by simpa using h1)⟩
      · rename_i n xs r
        cases hl
        obtain ⟨u, h1, h2, -⟩ := hc 0 (.own n xs) (by simp)
        exact ⟨u, ROwn.toLent h2, fun w hb => run_loadVar_one hu ha hb (by simpa using h1)⟩
      · cases hl
end

end Go.Sh
