/- Operations on a shadow heap: new objects, stores, maps. -/
import Derived.Test.YtjkhgfoecplbgaaSh24
set_option linter.all false
set_option autoImplicit true
set_option relaxedAutoImplicit true
set_option linter.unusedVariables false
set_option linter.unusedSimpArgs false
namespace Go.Sh

theorem RO.keepI {g g' : Gh} {w w' : World} {i : Nat} {o : SObj} (h0 : Keep .free g w g' w') (h1 : Keep (.obj i) g w g' w') (h2 : ∀ j, Keep (.lst (.hcell i j)) g w g' w') (hρ : KeepR g g') (h : RO g w i o) : RO g' w' i o := by
  cases o with
  | cells cs =>
    obtain ⟨k, c, T, hr, ho, hb, hs, hc⟩ := h
    obtain ⟨ho', hb'⟩ := h1 k _ ho hb
    exact ⟨k, c, T, hρ _ _ hr, ho', hb', hs, fun j s hj => let ⟨u, a1, a2, a3⟩ := hc j s hj; ⟨u, a1, a2.keep h0 (h2 j) hρ, a3⟩⟩
  | map es =>
    obtain ⟨k, ms, clock, hr, ho, hb, hs, hbo, hc⟩ := h
    obtain ⟨ho', hb'⟩ := h1 k _ ho hb
    exact ⟨k, ms, clock, hρ _ _ hr, ho', hb', hs, hbo, fun j p hj => let ⟨m, a1, a2, a3⟩ := hc j p hj; ⟨m, a1, a2.keep h0 hρ, a3.keep h0 hρ⟩⟩
  | hole => trivial
  | iter kb clock =>
    obtain ⟨k, hr, ho, hb⟩ := h
    obtain ⟨ho', hb'⟩ := h1 k _ ho hb
    exact ⟨k, hρ _ _ hr, ho', hb'⟩
  | mapX kb clock ms es =>
    obtain ⟨hr, ho, hb, hs, hbo, hc⟩ := h
    obtain ⟨ho', hb'⟩ := h1 kb _ ho hb
    exact ⟨hρ _ _ hr, ho', hb', hs, hbo, fun j p hj => let ⟨m, a1, a2, a3⟩ := hc j p hj; ⟨m, a1, a2.keep h0 hρ, a3.keep h0 hρ⟩⟩

/-- Is the tag of no use to slots? -/
theorem uses_obj {t : Nat} {s : SV} {i : Nat} : ¬ uses t s (.obj i) := by cases s <;> simp [uses]

section
variable {P : Program} {st : St}

def St.hp (st : St) (H : List SObj) : St := { st with H := H }

theorem St.put_hp (st : St) (H : List SObj) (d : Option Tmp) (s : SV) : (st.put d s).hp H = (st.hp H).put d s := by
  cases d with
  | none => rfl
  | some t =>
    simp only [St.put, St.hp]
    split <;> (try split) <;> rfl

/-- The state with one object changed in place. -/
theorem Rel.setObj {a : Act} {w w' : World} {g : Gh} (hr : Rel st a w g) {i k : Nat} {o : SObj} (hi : i < st.H.length) (hk : g.ρ[i]? = some k) (ho : g.ow k = .obj i) (hw : ∀ k', k' ≠ k → w'.heap[k']? = w.heap[k']?) (hn : RO g w' i o) :
    Rel (st.hp (st.H.set i o)) a w' g := by
  have hkp : ∀ o', o' ≠ .obj i → Keep o' g w g w' := fun o' h => Keep.block ho h hw
  refine Rel.step hr hr.len hr.def0 (fun _ _ h => h) (fun t s hs => .inr (.inr ⟨hs, rfl, fun o' ho' => hkp o' (fun e => ?_), fun s' _ => ⟨rfl, fun x hx _ => ⟨x, hx, rfl⟩⟩⟩)) ⟨by simp [St.hp, hr.hp.1], fun i' o' hi' => ?_⟩
  · subst e; exact uses_obj ho'
  · simp only [St.hp] at hi'
    by_cases e : i = i'
    · subst e
      rw [List.getElem?_set_self hi] at hi'
      cases hi'
      exact hn
    · rw [List.getElem?_set_ne e] at hi'
      exact (hr.hp.2 i' o' hi').keepI (hkp _ (by simp)) (hkp _ (by simpa using Ne.symm e)) (fun j => hkp _ (by simp)) (fun _ _ h => h)

theorem Fr.setObj {g : Gh} {w w' : World} {i k : Nat} (ho : g.ow k = .obj i) (hs : w'.heap.size = w.heap.size) (hw : ∀ k', k' ≠ k → w'.heap[k']? = w.heap[k']?) (hos : SameOs w w' := by exact ⟨rfl, rfl⟩) : Fr false g w g w' :=
  ⟨by rw [hs]; exact Nat.le_refl _, Keep.block ho (by simp) hw, Keep.block ho (by simp) hw, fun _ _ h => h, nofun, nofun, nofun, hos⟩

/-- A value is stored through a pointer to an object. -/
theorem OpS.storeH {o : Oper} {T : TypeId} {x y : Operand} {i off : Nat} {d : D} {H' : List SObj} (hop : o.op = .store T x y) (hd : o.dst = none) (hx : ptrH st x = some (i, off)) (hy : valD st y = some d) (hu : (P.underlying T).isNone = false)
    (hsz : d.cells.length = P.cellsOf T) (hH : hPut st.H i off d.cells = some H') : OpS P false st o (st.hp H') := by
  refine OpS.skip fun a w g hr => ?_
  obtain ⟨cs, hi, hfit, rfl⟩ := hPut_eq hH
  obtain ⟨k, e1, e3⟩ := ptrH_sound hr hx
  obtain ⟨k', c, T0, f1, f2, f3, f4, f5⟩ := hr.hp.2 i _ hi
  rw [e1] at f1
  cases f1
  have hrd := valD_d hr hy
  obtain ⟨c1, c2⟩ := hrd.cells
  have hone : ∀ v ∈ (a.eval y).cells.toList, v.oneCell' = true := fun v hv => by
    obtain ⟨j, hj⟩ := List.mem_iff_getElem?.1 hv
    have hlt : j < d.cells.length := by rw [← c1]; have := get_lt hj; simpa using this
    obtain ⟨u, u1, u2, u3⟩ := c2 j d.cells[j] (by simp [hlt])
    have : u = v := by
      have hj' : (a.eval y).cells[j]? = some v := by simpa using hj
      rw [u1] at hj'; exact Option.some.inj hj'
    rw [← this]; exact u3
  obtain ⟨w', r1, r2, r3, c', r4, r5, r6⟩ := run_storeCells' (P := P) k off T0 (a.eval y).cells.toList 0 c w f3 (by simp [c1]; omega) hone
  refine ⟨w', g, ?_, ?_, Fr.setObj f2 r2 r3 (storeCells_os (P := P) k off T0 (a.eval y).cells.toList 0 c w w' f3 (by simp [c1]; omega) hone r1)⟩
  · unfold execOp; rw [hop]
    simp only [Instr.storeAt, Sem.run_bind, e3, Instr.sureAddr, Sem.run_pure, Result.andThen_ok, storeVar, run_sizeOf' hu]
    rw [if_neg (by rw [c1, hsz]; simp), r1]
    rfl
  · rw [hd]
    refine hr.setObj (get_lt hi) e1 f2 r3 ⟨k, c', T0, e1, f2, r4, by rw [r5, f4, setCells_len (by omega)], fun j sv hj => ?_⟩
    have hkp : ∀ o', o' ≠ .obj i → Keep o' g w g w' := fun o' ho => Keep.block f2 ho r3
    rcases setCells_get (by omega) hj with ⟨h1, h2, y', h3, rfl⟩ | ⟨h1, h2⟩
    · obtain ⟨u, u1, u2, u3⟩ := c2 _ _ h3
      refine ⟨u, ?_, Rd.keep (hkp _ (by simp)) (fun _ _ h => h) u2, u3⟩
      rw [r6, if_pos (by simp [c1]; omega)]
      simpa using u1
    · obtain ⟨u, u1, u2, u3⟩ := f5 j sv h2
      refine ⟨u, ?_, u2.keep (hkp _ (by simp)) (hkp _ (by simp)) (fun _ _ h => h), u3⟩
      rw [r6, if_neg (by simp [c1]; omega)]
      exact u1

/-! ## New objects -/

def Gh.new (g : Gh) (k i : Nat) : Gh := ⟨(g.upd k (.obj i)).ow, g.ρ ++ [k]⟩

theorem KeepR.new {g : Gh} {k i : Nat} : KeepR g (g.new k i) := fun j k' h => by
  simp only [Gh.new]
  rw [List.getElem?_append_left (get_lt h)]; exact h

theorem Keep.new {o' : Own} {g : Gh} {w : World} {ob : Obj} {i : Nat} : Keep o' g w (g.new w.heap.size i) (w.alloc ob) := by
  intro k b hk hb
  exact Keep.alloc (t := .obj i) (o := ob) k b hk hb

theorem Fr.new {g : Gh} {w : World} {ob : Obj} {i : Nat} : Fr false g w (g.new w.heap.size i) (w.alloc ob) :=
  ⟨by simp, Keep.new, Keep.new, KeepR.new, nofun, nofun, nofun, ⟨rfl, rfl⟩⟩

theorem Rel.newObj {a : Act} {w : World} {g : Gh} (hr : Rel st a w g) {ob : Obj} {o : SObj} (hn : RO (g.new w.heap.size st.H.length) (w.alloc ob) st.H.length o) :
    Rel (st.hp (st.H ++ [o])) a (w.alloc ob) (g.new w.heap.size st.H.length) := by
  refine Rel.step hr hr.len hr.def0 KeepR.new (fun t s hs => .inr (.inr ⟨hs, rfl, fun o' ho' => Keep.new, fun s' _ => ⟨rfl, fun x hx _ => ⟨x, hx, rfl⟩⟩⟩)) ⟨by simp [St.hp, Gh.new, hr.hp.1], fun i' o' hi' => ?_⟩
  simp only [St.hp] at hi'
  by_cases h : i' < st.H.length
  · rw [List.getElem?_append_left h] at hi'
    exact (hr.hp.2 i' o' hi').keepI Keep.new Keep.new (fun _ => Keep.new) KeepR.new
  · rw [List.getElem?_append_right (by omega)] at hi'
    have h0 : i' - st.H.length = 0 := by
      have := get_lt hi'; simp at this; omega
    have : i' = st.H.length := by omega
    subst this
    rw [h0] at hi'
    cases hi'
    exact hn

theorem new_rho {g : Gh} {H : List SObj} {w : World} (h : RH g w H) (k : Nat) : (g.new k H.length).ρ[H.length]? = some k := by
  simp only [Gh.new]
  rw [← h.1, List.getElem?_append_right (Nat.le_refl _)]
  simp

theorem new_ow {g : Gh} (k i : Nat) : (g.new k i).ow k = .obj i := by simp [Gh.new]

/-- Nil lists among new cells may be taken as empty lists (own: the object's own). -/
def nilCells (l : List (Nat × Nat × Bool)) (cs : List SV) : List SV := match l with
  | [] => cs
  | (j, n, b) :: l => nilCells l (match cs[j]? with | some (.d .nilS) => cs.set j (if b then .own n [] else .d (.list n [])) | _ => cs)

theorem nilCells_len : ∀ (l : List (Nat × Nat × Bool)) (cs : List SV), (nilCells l cs).length = cs.length
  | [], cs => rfl
  | (j, n, b) :: l, cs => by
    rw [nilCells, nilCells_len l]
    split <;> simp

theorem nilCells_get {g : Gh} {w : World} {lo : Nat → Loc} {c : Array Value} : ∀ (l : List (Nat × Nat × Bool)) (cs : List SV), (∀ (j : Nat) (s : SV), cs[j]? = some s → ∃ u, c[j]? = some u ∧ RC g w (lo j) u s ∧ u.oneCell' = true) →
    ∀ (j : Nat) (s : SV), (nilCells l cs)[j]? = some s → ∃ u, c[j]? = some u ∧ RC g w (lo j) u s ∧ u.oneCell' = true
  | [], cs, h => h
  | (j0, n, b) :: l, cs, h => by
    refine nilCells_get l _ fun j s hj => ?_
    split at hj
    · rename_i h0
      by_cases e : j0 = j
      · subst e
        obtain ⟨u, u1, u2, u3⟩ := h j0 _ h0
        rw [List.getElem?_set_self (get_lt h0)] at hj
        have hn : Rd g w u .nilS := u2
        obtain ⟨a, rfl⟩ := hn.nilS_inv
        refine ⟨_, u1, ?_, u3⟩
        cases b
        · simp only [Bool.false_eq_true, if_false, Option.some.injEq] at hj
          subst hj
          exact Rd.list0
        · simp only [if_true, Option.some.injEq] at hj
          subst hj
          exact .inl ⟨rfl, _, rfl⟩
      · rw [List.getElem?_set_ne e] at hj
        exact h j s hj
    · exact h j s hj

theorem RCells.newObj {g : Gh} {w : World} {H : List SObj} (hH : RH g w H) {T : TypeId} {v : Value} {y : D} (h : Rd g w v y) (l : List (Nat × Nat × Bool)) :
    RO (g.new w.heap.size H.length) (w.alloc (.cells v.cells T)) H.length (.cells (nilCells l (y.cells.map .d))) := by
  obtain ⟨c1, c2⟩ := h.cells
  refine ⟨w.heap.size, v.cells, T, new_rho hH _, new_ow _ _, heap_alloc _ _, by rw [nilCells_len]; simpa using c1, nilCells_get l _ fun j s hj => ?_⟩
  simp only [List.getElem?_map, Option.map_eq_some_iff] at hj
  obtain ⟨x, hx, rfl⟩ := hj
  obtain ⟨u, u1, u2, u3⟩ := c2 j x hx
  exact ⟨u, u1, Rd.keep Keep.new KeepR.new u2, u3⟩

/-- A new variable of the heap: its type's zero. -/
theorem OpS.allocH {o : Oper} {T : TypeId} {z : D} (l : List (Nat × Nat × Bool)) (hop : o.op = .alloc T) (hz : zeroD P T = some z) :
    OpS P false st o ((st.hp (st.H ++ [.cells (nilCells l (z.cells.map .d))])).put o.dst (.d (.ptr st.H.length 0))) := by
  refine OpS.value fun a w g hr => ?_
  obtain ⟨v, e1, e2⟩ := zeroD_sound (P := P) (g := g) (w := w) hz
  have hn := RCells.newObj (T := T) hr.hp e1 l
  refine ⟨.pointer (some ⟨w.heap.size, 0, none⟩), w.alloc (.cells v.cells T), _, ?_, Rel.putLight (hr.newObj hn) o.dst (.ptr (new_rho hr.hp _)), Fr.new⟩
  unfold execOp; rw [hop]
  simp only [Instr.alloc, Sem.run_bind, e2, Result.andThen_ok, newVar, newRow, run_newObj, Sem.run_pure]
  rfl

/-- A new variable of the heap with a value from the start. -/
theorem OpS.boxH {o : Oper} {T : TypeId} {x : Operand} {y : D} (l : List (Nat × Nat × Bool)) (hop : o.op = .box T x) (hy : valD st x = some y) :
    OpS P false st o ((st.hp (st.H ++ [.cells (nilCells l (y.cells.map .d))])).put o.dst (.d (.ptr st.H.length 0))) := by
  refine OpS.value fun a w g hr => ?_
  have e1 := valD_d hr hy
  have hn := RCells.newObj (T := T) hr.hp e1 l
  refine ⟨.pointer (some ⟨w.heap.size, 0, none⟩), w.alloc (.cells (a.eval x).cells T), _, ?_, Rel.putLight (hr.newObj hn) o.dst (.ptr (new_rho hr.hp _)), Fr.new⟩
  unfold execOp; rw [hop]
  simp only [Instr.box, Sem.run_bind, newVar, newRow, run_newObj, Result.andThen_ok, Sem.run_pure]
  rfl

/-- A new map. -/
theorem OpS.makeMapH {o : Oper} {T : TypeId} (hop : o.op = .makeMap T none) : OpS P false st o ((st.hp (st.H ++ [.map []])).put o.dst (.d (.map st.H.length))) := by
  refine OpS.value fun a w g hr => ?_
  have hn : RO (g.new w.heap.size st.H.length) (w.alloc (.map #[] 0)) st.H.length (.map []) :=
    ⟨w.heap.size, #[], 0, new_rho hr.hp _, new_ow _ _, heap_alloc _ _, rfl, ⟨by simp, by simp⟩, by simp⟩
  refine ⟨.map (some w.heap.size), w.alloc (.map #[] 0), _, ?_, Rel.putLight (hr.newObj hn) o.dst (.map (new_rho hr.hp _)), Fr.new⟩
  unfold execOp; rw [hop]
  simp only [Instr.makeMap, Option.map_none, Sem.run_bind, run_newObj, Result.andThen_ok, Sem.run_pure]
  rfl

/-! ## Maps -/

/-- What a map's operand names: no map, or a map of the shadow heap. -/
def mapOf (st : St) (x : Operand) : Option (Option (Nat × List (D × D))) :=
  match valD st x with
  | some .nilMap => some none
  | some (.map i) => match st.H[i]? with | some (.map es) => some (some (i, es)) | _ => none
  | _ => none

theorem findK_lookup {K V : Type} [BEq K] (k : Kc K) (v : Cd V) (x : K) : ∀ (es : List (K × V)) (i : Nat), (findK (k.c.enc x) (es.map (encE k v)) i).map (·.2) = (es.lookup x).map v.enc
  | [], _ => rfl
  | (a, b) :: es, i => by
    simp only [List.map_cons, encE, findK, k.same, List.lookup]
    cases x == a with
    | true => rfl
    | false => exact findK_lookup k v x es (i + 1)

theorem keyDesc {K : TypeId} {kt : KeyT} (h : keyTOf P K = some kt) : P.underlying K = some kt.desc := by
  unfold keyTOf at h
  split at h
  · rename_i k hu; cases h; exact hu
  · rename_i hu; cases h; exact hu
  · cases h

theorem run_checkKey {K : TypeId} {kt : KeyT} (h : keyTOf P K = some kt) {b : Bool} {v : Value} (w : World) : (Instr.checkKey b 10000 K v).run P w = .ok () w := by
  have hu := keyDesc h
  show (Instr.checkKey b (9999 + 1) K v).run P w = _
  unfold Instr.checkKey
  simp only [Sem.run_bind, run_underlying hu, Result.andThen_ok]
  cases kt <;> (simp only [KeyT.desc]; cases v <;> rfl)

theorem run_findKey {K : TypeId} {kt : KeyT} (h : keyTOf P K = some kt) {u : Value} {ms : List MapEntry} {r : Option (Nat × Value)} (hf : Instr.findNow kt.desc u ms 0 = some r) (w : World) : (Instr.findKey K u ms).run P w = .ok r w := by
  simp only [Instr.findKey, Sem.run_bind, run_underlying (keyDesc h), Result.andThen_ok, hf, Sem.run_pure]

theorem run_getMap {r : Nat} {es : Array MapEntry} {clock : Nat} {w : World} (h : w.heap[r]? = some (.map es clock)) : (getObj r).run P w = .ok (.map es clock) w := by simp [getObj, Sem.run, h]

/-- A block is replaced. -/
def setBlk (w : World) (r : Nat) (o : Obj) : World := { w with heap := w.heap.setIfInBounds r o }

theorem run_setMap {r : Nat} {es : Array MapEntry} {clock : Nat} {o' : Obj} {w : World} (h : w.heap[r]? = some (.map es clock)) : (setObj r o').run P w = .ok () (setBlk w r o') := by simp [setObj, Sem.run, h, setBlk]

theorem setBlk_self {w : World} {r : Nat} {o o' : Obj} (h : w.heap[r]? = some o) : (setBlk w r o').heap[r]? = some o' := by
  have := arr_lt h
  simp [setBlk, this]

theorem setBlk_other {w : World} {r k : Nat} {o' : Obj} (h : k ≠ r) : (setBlk w r o').heap[k]? = w.heap[k]? := by simp [setBlk, Array.getElem?_setIfInBounds_ne (Ne.symm h)]

theorem setBlk_size {w : World} {r : Nat} {o' : Obj} : (setBlk w r o').heap.size = w.heap.size := by simp [setBlk]

theorem mapOf_sound {a : Act} {w : World} {g : Gh} (hr : Rel st a w g) {x : Operand} {m : Option Nat} (h : valD st x = some (cM.enc m)) :
    match m with
    | none => a.eval x = .map none
    | some i => ∃ k, g.ρ[i]? = some k ∧ a.eval x = .map (some k) := by
  have := valD_d hr h
  cases m with
  | none => simp only [cM] at this; generalize a.eval x = v at this; cases this; rfl
  | some i => simp only [cM] at this; generalize a.eval x = v at this; cases this with | map h => exact ⟨_, h, rfl⟩

/-- What 'lookup' yields. -/
def lookS {V : Type} (v : Cd V) (ok : Bool) (z : V) (q : Option V) : SV := if ok then .tup [.d (v.enc (q.getD z)), .d (.bool q.isSome)] else .d (v.enc (q.getD z))

theorem run_lookup {T KT ET : TypeId} {kt : KeyT} {xv iv vz : Value} {ms : Array MapEntry} {r : Option (Nat × Value)} (ok : Bool) (hT : P.underlying T = some (.map KT ET)) (hk : keyTOf P KT = some kt) (hf : Instr.findNow kt.desc iv ms.toList 0 = some r)
    (rz : ∀ w, (zeroValue ET).run P w = .ok vz w) {w : World} (hx : (xv = .map none ∧ ms = #[]) ∨ ∃ k clock, xv = .map (some k) ∧ w.heap[k]? = some (.map ms clock)) :
    (Instr.lookup T xv iv ok).run P w = .ok (if ok then .tuple #[(r.map (·.2)).getD vz, .bool r.isSome] else (r.map (·.2)).getD vz) w := by
  rcases hx with ⟨rfl, rfl⟩ | ⟨k, clock, rfl, hb⟩
  · simp only [Instr.lookup, Sem.run_bind, run_underlying hT, Result.andThen_ok, Sem.run_pure, run_checkKey hk, run_findKey hk hf]
    cases r with
    | none => simp only [Sem.run_bind, rz, Result.andThen_ok, Sem.run_pure]; cases ok <;> rfl
    | some p => simp only [Sem.run_pure, Result.andThen_ok]; cases ok <;> rfl
  · simp only [Instr.lookup, Sem.run_bind, run_underlying hT, Result.andThen_ok, Sem.run_pure, run_getMap hb, run_checkKey hk, run_findKey hk hf]
    cases r with
    | none => simp only [Sem.run_bind, rz, Result.andThen_ok, Sem.run_pure]; cases ok <;> rfl
    | some p => simp only [Sem.run_pure, Result.andThen_ok]; cases ok <;> rfl

/-- A map of the shadow heap, in memory. -/
theorem map_found {K V : Type} [BEq K] {k : Kc K} {v : Cd V} {a : Act} {w : World} {g : Gh} (hr : Rel st a w g) {i : Nat} {es : List (K × V)} {key : K} {iv : Value} (hm : hMap k v st.H (some i) = some es) (hi : Rd g w iv (k.c.enc key)) :
    ∃ kb ms clock, g.ρ[i]? = some kb ∧ g.ow kb = .obj i ∧ w.heap[kb]? = some (.map ms clock) ∧ ms.size = es.length ∧ bornOk ms clock ∧ (∀ (j : Nat) (p : K × V), es[j]? = some p → ∃ m, ms[j]? = some m ∧ Rd g w m.key (k.c.enc p.1) ∧ Rd g w m.val (v.enc p.2)) ∧
      ∃ r, Instr.findNow k.kt.desc iv ms.toList 0 = some r ∧ ((es.lookup key = none ∧ r = none ∧ findK (k.c.enc key) (es.map (encE k v)) 0 = none) ∨ ∃ y u j, es.lookup key = some y ∧ r = some (j, u) ∧ Rd g w u (v.enc y) ∧ findK (k.c.enc key) (es.map (encE k v)) 0 = some (j, v.enc y)) := by
  have h1 := hMap_eq.1 hm
  obtain ⟨kb, ms, clock, f1, f2, f3, f4, f5, f6⟩ := hr.hp.2 i _ h1
  obtain ⟨r, g1, g2⟩ := findNow_key (k.isK key) hi k.kt.desc rfl ms.toList (es.map (encE k v)) 0 (by simpa using f4) (fun j p hj => by simpa using f6 j p hj) (fun p hp => by
    obtain ⟨e, -, rfl⟩ := List.mem_map.1 hp; exact k.isK _)
  refine ⟨kb, ms, clock, f1, f2, f3, by simpa using f4, f5, fun j p hj => ?_, r, g1, ?_⟩
  · exact f6 j (encE k v p) (by simp [hj])
  · have hl := findK_lookup k v key es 0
    rcases g2 with ⟨g3, g4⟩ | ⟨j, y, u, g3, g4, g5⟩
    · rw [g3] at hl
      refine .inl ⟨?_, g4, g3⟩
      cases hh : es.lookup key with
      | none => rfl
      | some y => rw [hh] at hl; cases hl
    · rw [g3] at hl
      simp only [Option.map_some] at hl
      cases hh : es.lookup key with
      | none => rw [hh] at hl; cases hl
      | some y' =>
        rw [hh] at hl
        simp only [Option.map_some, Option.some.injEq] at hl
        subst hl
        exact .inr ⟨y', u, j, rfl, g4, g5, g3⟩

theorem BStep.lookup {K V : Type} [BEq K] {k : Kc K} {v : Cd V} {o : Oper} {T KT ET : TypeId} {x ix : Operand} {ok : Bool} {m : Option Nat} {key : K} {q : Option V} {z : V} (hop : o.op = .lookup T x ix ok) (hT : P.underlying T = some (.map KT ET))
    (hk : keyTOf P KT = some k.kt) (hx : valD st x = some (cM.enc m)) (hi : valD st ix = some (k.c.enc key)) (hz : zeroD P ET = some (v.enc z)) (hq : hLook k v st.H m key = some q) : BStep P st o (lookS v ok z q) := by
  intro a w g hr
  have hrk := valD_d hr hi
  obtain ⟨vz, ez, rz⟩ := zeroD_sound (P := P) (g := g) (w := w) hz
  have hm := mapOf_sound hr hx
  have fin : ∀ (r : Option (Nat × Value)), (q = none ∧ r = none ∨ ∃ y u j, q = some y ∧ r = some (j, u) ∧ Rd g w u (v.enc y)) → BV g w st a (if ok then .tuple #[(r.map (·.2)).getD vz, .bool r.isSome] else (r.map (·.2)).getD vz) (lookS v ok z q) := by
    intro r h
    refine BV.light ?_
    have h1 : Rd g w ((r.map (·.2)).getD vz) (v.enc (q.getD z)) := by
      rcases h with ⟨rfl, rfl⟩ | ⟨y, u, j, rfl, rfl, hu⟩
      · exact ez
      · exact hu
    have h2 : r.isSome = q.isSome := by rcases h with ⟨rfl, rfl⟩ | ⟨y, u, j, rfl, rfl, hu⟩ <;> rfl
    unfold lookS
    cases ok
    · exact h1
    · simp only [if_true]
      refine ⟨#[(r.map (·.2)).getD vz, .bool r.isSome], rfl, rfl, fun j s hj => ?_⟩
      match j, hj with
      | 0, hj => simp at hj; exact ⟨_, _, rfl, hj.symm, h1⟩
      | 1, hj => simp at hj; rw [h2]; exact ⟨.bool q.isSome, _, rfl, hj.symm, .bool⟩
      | j + 2, hj => simp at hj
  have run : ∀ {r : Option (Nat × Value)} {w' : World}, (Instr.lookup T (a.eval x) (a.eval ix) ok).run P w' = .ok (if ok then .tuple #[(r.map (·.2)).getD vz, .bool r.isSome] else (r.map (·.2)).getD vz) w' →
      (execOp a.eval o).run P w' = .ok (.value (if ok then .tuple #[(r.map (·.2)).getD vz, .bool r.isSome] else (r.map (·.2)).getD vz)) w' := fun h => by
    unfold execOp; rw [hop]
    simp only [Sem.run_bind, h, Result.andThen_ok, Sem.run_pure]
  cases m with
  | none =>
    simp only [hLook, hMap, Option.map_some, List.lookup_nil, Option.some.injEq] at hq
    subst hq
    exact ⟨_, fin none (.inl ⟨rfl, rfl⟩), fun w' hup => run (r := none) (run_lookup ok hT hk (ms := #[]) rfl rz (.inl ⟨hm, rfl⟩))⟩
  | some i =>
    simp only [hLook, Option.map_eq_some_iff] at hq
    obtain ⟨es, h1, h2⟩ := hq
    obtain ⟨kb, ms, clock, f1, f2, f3, f4, f5, f6, r, g1, g2⟩ := map_found hr h1 hrk
    obtain ⟨kb', e1, e2⟩ := hm
    rw [f1] at e1; cases e1
    refine ⟨_, fin r ?_, fun w' hup => run (run_lookup ok hT hk g1 rz (.inr ⟨kb, clock, e2, hup _ _ f3⟩))⟩
    rcases g2 with ⟨g3, g4, -⟩ | ⟨y, u, j, g3, g4, g5, -⟩
    · exact .inl ⟨by rw [← h2]; exact g3, g4⟩
    · exact .inr ⟨y, u, j, by rw [← h2]; exact g3, g4, g5⟩
end
end Go.Sh
