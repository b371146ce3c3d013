/- Contracts of functions over plain data. -/
import Derived.Test.YtfbcfehjlddodaaGreatDoorS2
import Derived.Laws.Externs
import Derived.IntWalk
import Derived.Lib.Bytealg
import Derived.Sort.Grow
import Derived.Recover
import Derived.RangeFuncNested
import Derived.TacticsIn
set_option linter.all false
set_option autoImplicit true
set_option relaxedAutoImplicit true
namespace Go.Sh
section
variable {P : Program} {pu : Bool} {st : St} {ops : Array Oper}
theorem x_add {a : Act} {w : World} {o : Oper} {I I2 ty : TypeId} {x y : Operand} {p q : Int} (hx : a.eval x = .int .i64 p) (hy : a.eval y = .int .i64 q) (h : -9223372036854775808 ≤ p + q ∧ p + q ≤ 9223372036854775807) :
    (execOp a.eval { o with op := .binOp .add I x y I2, type := ty }).run P w = .ok (.value (.int .i64 (p + q))) w := by
  have : (do eqGuard .add I x y (.int .i64 p) (.int .i64 q); binOp .add I (.int .i64 p) (.int .i64 q) : Sem Value).run P w = .ok (.int .i64 (IntKind.wrap .i64 (p + q))) w := rfl
  rw [IntWalk.i64_in _ h] at this
  unfold execOp
  simp only [hx, hy]
  simp only [Sem.run_bind] at this ⊢
  rw [this]
  rfl
theorem x_sub {a : Act} {w : World} {o : Oper} {I I2 ty : TypeId} {x y : Operand} {p q : Int} (hx : a.eval x = .int .i64 p) (hy : a.eval y = .int .i64 q) (h : -9223372036854775808 ≤ p - q ∧ p - q ≤ 9223372036854775807) :
    (execOp a.eval { o with op := .binOp .sub I x y I2, type := ty }).run P w = .ok (.value (.int .i64 (p - q))) w := by
  have : (do eqGuard .sub I x y (.int .i64 p) (.int .i64 q); binOp .sub I (.int .i64 p) (.int .i64 q) : Sem Value).run P w = .ok (.int .i64 (IntKind.wrap .i64 (p - q))) w := rfl
  rw [IntWalk.i64_in _ h] at this
  unfold execOp
  simp only [hx, hy]
  simp only [Sem.run_bind] at this ⊢
  rw [this]
  rfl
theorem x_gtr {a : Act} {w : World} {o : Oper} {I I2 ty : TypeId} {x y : Operand} {p q : Int} (hx : a.eval x = .int .i64 p) (hy : a.eval y = .int .i64 q) :
    (execOp a.eval { o with op := .binOp .gtr I x y I2, type := ty }).run P w = .ok (.value (.bool (decide (p > q)))) w := by
  have : (do eqGuard .gtr I x y (.int .i64 p) (.int .i64 q); binOp .gtr I (.int .i64 p) (.int .i64 q) : Sem Value).run P w = .ok (.bool (decide (p > q))) w := rfl
  unfold execOp
  simp only [hx, hy]
  simp only [Sem.run_bind] at this ⊢
  rw [this]
  rfl
theorem x_not {a : Act} {w : World} {o : Oper} {I ty : TypeId} {x : Operand} {b : Bool} (hx : a.eval x = .bool b) :
    (execOp a.eval { o with op := .unOp .not I x, type := ty }).run P w = .ok (.value (.bool !b)) w := by
  unfold execOp
  simp only [hx]
  rfl
theorem x_cap {a : Act} {w : World} {o : Oper} {T e ty : TypeId} {x : Operand} {b : Option Addr} {n c : Nat} (hu : P.underlying T = some (.slice e)) (hx : a.eval x = .slice b n c) :
    (execOp a.eval { o with op := .call ⟨.builtin .cap, #[x], #[T]⟩, type := ty }).run P w = .ok (.value (goInt c)) w := by
  unfold execOp
  simp only [resolve, List.map_toArray, List.map_cons, List.map_nil, Sem.run_bind, Sem.run_pure, Result.andThen_ok, invoke, builtin, hx]
  simp [Builtin.cap_, run_underlying hu]
theorem x_sliceHi {a : Act} {w : World} {o : Oper} {T e ty : TypeId} {x y : Operand} (hu : P.underlying T = some (.slice e)) (hz : P.cellsOf e ≠ 0) {k off len cap : Nat} {i : Int} (hx : a.eval x = .slice (some ⟨k, off, none⟩) len cap) (hy : a.eval y = .int .i64 i) (h0 : 0 ≤ i) (h1 : i ≤ cap) :
    (execOp a.eval { o with op := .slice T x none (some y) none, type := ty }).run P w = .ok (.value (.slice (some ⟨k, off, none⟩) i.toNat cap)) w := by
  show (do pure (.value (← Instr.sliceAt T (a.eval x) none (some (a.eval y)) none)) : Sem Next).run P w = _
  simp only [Sem.run_bind]
  rw [hx, hy, run_sliceHi hu hz h0 h1]
  rfl
theorem x_sliceLo {a : Act} {w : World} {o : Oper} {T e ty : TypeId} {x y : Operand} (hu : P.underlying T = some (.slice e)) (hz : P.cellsOf e ≠ 0) {k off len cap : Nat} {i : Int} (hx : a.eval x = .slice (some ⟨k, off, none⟩) len cap) (hy : a.eval y = .int .i64 i) (h0 : 0 ≤ i) (h1 : i ≤ len) :
    (execOp a.eval { o with op := .slice T x (some y) none none, type := ty }).run P w = .ok (.value (.slice (some ⟨k, if cap = i.toNat then off else off + i.toNat * P.cellsOf e, none⟩) (len - i.toNat) (cap - i.toNat))) w := by
  show (do pure (.value (← Instr.sliceAt T (a.eval x) (some (a.eval y)) none none)) : Sem Next).run P w = _
  simp only [Sem.run_bind]
  rw [hx, hy, run_sliceLo hu hz h0 h1]
  rfl
/-- copy(dst, src): so many cells from one place to another. -/
theorem x_copy {a : Act} {w w' : World} {o : Oper} {T T2 e ty : TypeId} {x y : Operand} {k off dl dc m n : Nat} {cs : Array Value} (hu : P.underlying T = some (.slice e)) (hz : P.cellsOf e = n) (hn : n ≠ 0) (hx : a.eval x = .slice (some ⟨k, off, none⟩) dl dc)
    (hl : (Builtin.lenOf (a.eval y)).run P w = .ok m w) (hc : (Builtin.firstCells n (Nat.min m dl) (a.eval y)).run P w = .ok cs w) (hs : (storeCells ⟨k, off, none⟩ cs.toList).run P w = .ok () w') :
    (execOp a.eval { o with op := .call ⟨.builtin .copy, #[x, y], #[T, T2]⟩, type := ty }).run P w = .ok (.value (goInt (Nat.min m dl))) w' := by
  subst hz
  unfold execOp
  simp only [resolve, List.map_toArray, List.map_cons, List.map_nil, Sem.run_bind, Sem.run_pure, Result.andThen_ok, invoke, builtin, hx]
  simp [Builtin.copy_, run_underlying hu, hl, sizeOf_ne hn, hc, hs]
theorem x_callF {a : Act} {w : World} {o : Oper} {f ty : Nat} {x y : Operand} {ts : Array TypeId} : (execOp a.eval { o with op := .call ⟨.value (.func f), #[x, y], ts⟩, type := ty }).run P w = (callFunc f #[a.eval x, a.eval y]).run P w := by
  unfold execOp
  simp only [resolve, Deferred.ofValue, List.map_toArray, List.map_cons, List.map_nil, Sem.run_bind, Sem.run_pure, Result.andThen_ok, invoke]
  rfl
/-- Two lists that share no memory do not overlap. -/
theorem run_overlaps (hp : ps[0]? = some T) (hu : P.underlying T = some (.slice e)) (hz : P.cellsOf e ≠ 0) (hv : w.heap[kv]? = some (.cells av Tv fz))
    (hb : w.heap[k]? = some (.cells c T0 (0, 0))) (hne : kv ≠ k) (hm : 0 < m) (hl : 0 < lb) (hav : 0 < av.size) :
    (Extern.SlicesOverlaps.overlaps ps rs #[.slice (some ⟨kv, ov, none⟩) m cv, .slice (some ⟨k, o2, none⟩) lb cb]).run P w = .ok (.bool false) w := by
  have f2 : ∀ q, w.frozen? ⟨k, q, none⟩ = false := fun q => by simp [World.frozen?, hb]
  have s1 : w.shape? kv = some (Tv, av.size) := by simp [World.shape?, hv]
  have s2 : w.shape? k = some (T0, c.size) := by simp [World.shape?, hb]
  have hne' : (kv == k) = false := by simpa using hne
  have hm0 : m ≠ 0 := by omega
  have hl0 : lb ≠ 0 := by omega
  have ha0 : av.size ≠ 0 := by omega
  have hsz : (sizeOf e).run P w = .ok (P.cellsOf e) w := sizeOf_ne hz w
  have hvw : ∀ q, (noView ⟨kv, q, none⟩).run P w = .ok () w := fun q => by simp [noView, viewAt, shape, Sem.run_bind, Sem.run, s1]
  have hbw : ∀ q, (noView ⟨k, q, none⟩).run P w = .ok () w := fun q => by simp [noView, viewAt, shape, Sem.run_bind, Sem.run, s2]
  have hst : ∀ q, ∃ b, (stringish ⟨kv, q, none⟩).run P w = .ok b w := fun q => by
    cases hf : w.frozen? ⟨kv, q, none⟩
    · exact ⟨w.frozen? ⟨kv, av.size, none⟩, by simp [stringish, frozen, shape, Sem.run_bind, Sem.run, s1, hf]⟩
    · exact ⟨true, by simp [stringish, frozen, shape, Sem.run_bind, Sem.run, s1, hf]⟩
  have hst2 : ∀ q, (stringish ⟨k, q, none⟩).run P w = .ok false w := fun q => by
    simp [stringish, frozen, shape, Sem.run_bind, Sem.run, s2, f2]
  obtain ⟨bs, hbs⟩ := hst ov
  have hmb : (mayBeOne ⟨kv, ov, none⟩ ⟨k, o2, none⟩).run P w = .ok false w := by
    simp [mayBeOne, shape, Sem.run_bind, Sem.run, hbs, hst2, s1, s2]
    grind
  have hbody : Extern.SlicesOverlaps.overlaps ps rs #[.slice (some ⟨kv, ov, none⟩) m cv, .slice (some ⟨k, o2, none⟩) lb cb] = (do
      let some t := ps[0]? | stuck "slices.overlaps: no parameter types"
      let .slice elem ← underlying t | stuck "slices.overlaps: slice type expected"
      let size ← sizeOf elem
      if m = 0 ∨ lb = 0 ∨ size = 0 then pure (.bool false)
      else if kv != k && (← frozen ⟨kv, ov, none⟩) && (← frozen ⟨k, o2, none⟩) then unsupported .addressObserved
      else do
        if kv != k then do
          noView ⟨kv, ov, none⟩; noView ⟨k, o2, none⟩
          if ← mayBeOne ⟨kv, ov, none⟩ ⟨k, o2, none⟩ then return .bool ((← choose (.extern "sameAddr.stringBytes" 2)) == 1)
        pure (.bool (kv == k && ov < o2 + lb * size && o2 < ov + m * size))) := rfl
  rw [hbody]
  simp [hp, run_underlying hu, hsz, hm0, hl0, hz, hne', frozen, Sem.run, f2, hvw, hbw, hmb]
/-- append(s, make(S, m)...) where there is no room: a new row. -/
theorem x_appendMake {a : Act} {w : World} {T I e : TypeId} {x y : Operand} {ti : TypeInfo} {z : Value} {base : Option Addr} {sLen sCap m : Nat} {olds : Array Value} {ik : IntKind} (hx : a.eval x = .slice base sLen sCap) (hy : a.eval y = .int .i64 m)
    (ht : P.underlying T = some (.slice e)) (hI : P.underlying I = some (.int ik)) (hi : P.info? e = some ti) (hz : ti.zero = some z) (hn : ti.size ≠ 0)
    (hold : (Builtin.firstCells ti.size sLen (.slice base sLen sCap)).run P w.drew = .ok olds w.drew) (hm : 0 < m) (hc : sCap < sLen + m) (h63 : sLen + m ≤ maxLen) (hb : (sLen + m) * ti.bytes ≤ 140737488355328) :
    ∃ gc, sLen + m ≤ gc ∧ ∀ (o : Oper) (ty : TypeId), (execOp a.eval { o with op := .call ⟨.builtin .append, #[x, y], #[T, I]⟩, type := ty }).run P w = .ok (.value (.slice (some ⟨w.heap.size, 0, none⟩) (sLen + m) gc))
      (w.drew.alloc (.cells (olds ++ Builtin.zeroCells z.cells m ++ Builtin.zeroCells z.cells (gc - (sLen + m))) e)) := by
  refine ⟨grownCap w (sLen + m) sCap e, grownCap_ge w (sLen + m) sCap e, fun o ty => ?_⟩
  have h63' : ¬ ((9223372036854775807 : Int) < (sLen : Int) + (m : Int)) := by unfold maxLen at h63; omega
  have h64 : IntKind.i64.wrap (m : Int) = m := IntWalk.i64_in _ (by unfold maxLen at h63; omega)
  have hnr : ¬ (sLen + m ≤ sCap) := by omega
  have h48 : ¬ (281474976710656 < Builtin.nextslicecap (sLen + m) sCap * ti.bytes) := by have := growslice_fits hc hb; omega
  have hmb : ¬ ((281474976710656 : Int) < (m : Int) * (ti.bytes : Int)) := by
    grind
  have hmz : ¬ (m * ti.size = 0) := Nat.mul_ne_zero (by omega) hn
  have hm0 : ¬ m = 0 := by omega
  refine run_append_call (x := x) (y := y) rfl rfl rfl rfl ?_
  rw [hx, hy]
  simp [Builtin.append_, run_underlying ht, run_underlying hI, sizeOf, typeInfo, zeroValue, hi, hz, asInt, asIntOf, h64, hmb, hnr, h63', h48, hmz, hm0, hn, Question.forced, hold, newRow, grownCap]
  intro h
  omega
end
end Go.Sh
set_option maxRecDepth 10000
set_option maxHeartbeats 2000000
namespace Go.Sh
theorem sp_one {t : Nat} {s : SV} (h : (sp n [(6, x)] H).tmps[t]? = some s) : s = .undef ∨ (t = 6 ∧ s = x) := by
  have key : ∀ (n t0 : Nat) (t : Nat) (s : SV), (spL [(6, x)] n t0)[t]? = some s → s = .undef ∨ (t + t0 = 6 ∧ s = x) := by
    intro n
    induction n with
    | zero => intro t0 t s h; simp [spL] at h
    | succ n ih =>
      intro t0 t s h
      simp only [spL] at h
      split at h
      · rename_i e
        cases t with
        | zero => simp at h; exact .inr ⟨by omega, h.symm⟩
        | succ t =>
          simp only [List.getElem?_cons_succ] at h
          refine .inl ?_
          have e2 : ∀ (n t0 t : Nat) (s : SV), (spL [] n t0)[t]? = some s → s = .undef := by
            intro n
            induction n with
            | zero => intro t0 t s h; simp [spL] at h
            | succ n ih => intro t0 t s h; cases t with
              | zero => simp [spL] at h; exact h.symm
              | succ t => simp only [spL, List.getElem?_cons_succ] at h; exact ih _ _ _ h
          exact e2 _ _ _ _ h
      · cases t with
        | zero => simp at h; exact .inl h.symm
        | succ t =>
          simp only [List.getElem?_cons_succ] at h
          rcases ih (t0 + 1) t s h with e | ⟨e1, e2⟩
          · exact .inl e
          · exact .inr ⟨by omega, e2⟩
  rcases key n 0 t s h with e | ⟨e1, e2⟩
  · exact .inl e
  · exact .inr ⟨by omega, e2⟩
/-- What a frame's slots hold. -/
structure AV (N : Nat) (a : Act) (m : List (Nat × Value)) : Prop where
  sz : a.tmps.size = N
  df : a.defers = []
  ev : ∀ t v, m.lookup t = some v → a.eval (.tmp t) = v
theorem AV.add {N t : Nat} {a : Act} {m : List (Nat × Value)} {v : Value} (h : AV N a m) (e : a.eval (.tmp t) = v) : AV N a ((t, v) :: m) := ⟨h.sz, h.df, fun s u hs => by
  rw [List.lookup_cons] at hs
  split at hs
  · rename_i c; rw [beq_iff_eq] at c; cases hs; rw [c]; exact e
  · exact h.ev _ _ hs⟩
theorem AV.put {N d : Nat} {a : Act} {m : List (Nat × Value)} {v : Value} (h : AV N a m) (hd : d < N) : AV N (a.put (some d) v) ((d, v) :: m) := ⟨by rw [put_sz, h.sz], by simpa [put_defers'] using h.df, fun s u hs => by
  rw [List.lookup_cons] at hs
  split at hs
  · rename_i c; rw [beq_iff_eq] at c; cases hs; rw [c]; exact ev_eq (by rw [h.sz]; exact hd)
  · rename_i c; rw [ev_ne (by rintro rfl; simp at c)]; exact h.ev _ _ hs⟩
/-- What an operation yields that changes nothing. -/
def PV (P : Program) (N : Nat) (m : List (Nat × Value)) (op : Op) (v : Value) : Prop := ∀ a, AV N a m → ∀ (o : Oper) (ty : TypeId) (w : World), (execOp a.eval { o with op := op, type := ty }).run P w = .ok (.value v) w
abbrev iN (p : Nat) : Value := .int .i64 (p : Int)
abbrev sV (k off l c : Nat) : Value := .slice (some ⟨k, off, none⟩) l c
section
variable {P : Program} {N : Nat} {m : List (Nat × Value)} {s t : Nat} {I J T e : TypeId} {p q : Nat}
theorem PV.mv {v : Value} (h : m.lookup s = some v) : PV P N m (.move (.tmp s)) v := fun a A o ty w => by rw [x_move, A.ev _ _ h]
theorem PV.as {v : Value} (h : m.lookup s = some v) : PV P N m (.assign (.tmp s)) v := fun a A o ty w => by rw [x_assign, A.ev _ _ h]
theorem PV.ad (h1 : m.lookup s = some (iN p)) (h2 : m.lookup t = some (iN q)) (h : p + q ≤ 9223372036854775807) : PV P N m (.binOp .add I (.tmp s) (.tmp t) J) (iN (p + q)) := fun a A o ty w => by
  rw [x_add (A.ev _ _ h1) (A.ev _ _ h2) (by constructor <;> omega), iN, Int.natCast_add]
theorem PV.sb (h1 : m.lookup s = some (iN p)) (h2 : m.lookup t = some (iN q)) (h : q ≤ p ∧ p ≤ 9223372036854775807) : PV P N m (.binOp .sub I (.tmp s) (.tmp t) J) (iN (p - q)) := fun a A o ty w => by
  rw [x_sub (A.ev _ _ h1) (A.ev _ _ h2) (by constructor <;> omega), iN, Int.ofNat_sub h.1]
theorem PV.gt (h1 : m.lookup s = some (iN p)) (h2 : m.lookup t = some (iN q)) : PV P N m (.binOp .gtr I (.tmp s) (.tmp t) J) (.bool (decide (q < p))) := fun a A o ty w => by
  rw [x_gtr (A.ev _ _ h1) (A.ev _ _ h2)]; simp
theorem PV.nt (h : m.lookup s = some (.bool b)) : PV P N m (.unOp .not I (.tmp s)) (.bool !b) := fun a A o ty w => x_not (A.ev _ _ h)
theorem PV.cp {l : Nat} (hT : P.underlying T = some (.slice e)) (h : m.lookup s = some (sV k off l c)) : PV P N m (.call ⟨.builtin .cap, #[.tmp s], #[T]⟩) (iN c) := fun a A o ty w => x_cap hT (A.ev _ _ h)
theorem PV.hi {l : Nat} (hT : P.underlying T = some (.slice e)) (hn : P.cellsOf e ≠ 0) (h1 : m.lookup s = some (sV k off l c)) (h2 : m.lookup t = some (iN p)) (h : p ≤ c) : PV P N m (.slice T (.tmp s) none (some (.tmp t)) none) (sV k off p c) := fun a A o ty w => by
  rw [x_sliceHi hT hn (A.ev _ _ h1) (A.ev _ _ h2) (by omega) (by omega)]; rfl
theorem PV.lo {l : Nat} (hT : P.underlying T = some (.slice e)) (hn : P.cellsOf e ≠ 0) (hc : P.cellsOf e = n) (h1 : m.lookup s = some (sV k off l c)) (h2 : m.lookup t = some (iN p)) (h : p ≤ l ∧ p < c) : PV P N m (.slice T (.tmp s) (some (.tmp t)) none none) (sV k (off + p * n) (l - p) (c - p)) := fun a A o ty w => by
  rw [x_sliceLo hT hn (A.ev _ _ h1) (A.ev _ _ h2) (by omega) (by omega), hc]; rw [show ((p : Int)).toNat = p by omega, if_neg (by omega)]
/-- These operations, of which only this matters. -/
def SH (l : List Oper) (r : List (Nat × Op)) : Prop := l.map (fun o => (o.dst, o.op, o.guard)) = r.map fun p => (some p.1, p.2, none)
theorem SH.cons {l : List Oper} {d : Nat} {op : Op} {r : List (Nat × Op)} (h : SH l ((d, op) :: r)) : ∃ o l', l = o :: l' ∧ isOp o (some d) op ∧ SH l' r := by
  cases l with
  | nil => cases h
  | cons o l' =>
    unfold SH at h
    simp only [List.map_cons, List.cons.injEq, Prod.mk.injEq] at h
    exact ⟨o, l', rfl, h.1, h.2⟩
theorem SH.cut {l : List Oper} {r : List (Nat × Op)} (n : Nat) (h : SH l r) : SH (l.take n) (r.take n) ∧ SH (l.drop n) (r.drop n) := by
  unfold SH at *
  simp only [List.map_take, List.map_drop, h, and_self]
variable {ops : Array Oper} {l : List Oper} {d : Nat} {op : Op} {r : List (Nat × Op)} {v : Value} {a : Act} {w w' : World}
theorem lst {Q : Exit → Act → World → Prop} (hl : SH l ((d, op) :: r)) (hv : PV P N m op v) (A : AV N a m) (k : ∀ l' a', SH l' r → AV N a' ((d, v) :: m) → wpList P ops Q l' a' w) (hd : d < N := by decide) : wpList P ops Q l a w := by
  obtain ⟨o, l', rfl, h1, h2⟩ := hl.cons
  exact list_val h1 (fun ty => hv a A o ty w) (k _ _ h2 (A.put hd))
theorem lstS {Q : Act → Prop} (hl : SH l ((d, op) :: r)) (hv : PV P N m op v) (A : AV N a m) (k : ∀ l' a', SH l' r → AV N a' ((d, v) :: m) → wpStill P ops w Q l' a') (hd : d < N := by decide) : wpStill P ops w Q l a := by
  obtain ⟨o, l', rfl, h1, h2⟩ := hl.cons
  exact still_val h1 (fun ty => hv a A o ty w) (k _ _ h2 (A.put hd))
theorem lstE {Q : Exit → Act → World → Prop} (hl : SH l ((d, op) :: r)) (hr : ∀ (o : Oper) (ty : TypeId), (execOp a.eval { o with op := op, type := ty }).run P w = .ok (.value v) w') (A : AV N a m) (k : ∀ l' a', SH l' r → AV N a' ((d, v) :: m) → wpList P ops Q l' a' w') (hd : d < N := by decide) : wpList P ops Q l a w := by
  obtain ⟨o, l', rfl, h1, h2⟩ := hl.cons
  exact list_val h1 (fun ty => hr o ty) (k _ _ h2 (A.put hd))
theorem lst0 {Q : Exit → Act → World → Prop} (hl : SH l []) (h : Q .normal a w) : wpList P ops Q l a w := by
  cases l with
  | nil => exact h
  | cons o l => cases hl
theorem lstS0 {Q : Act → Prop} (hl : SH l []) (h : Q a) : wpStill P ops w Q l a := by
  cases l with
  | nil => exact h
  | cons o l => cases hl
end
theorem x_copy' {P : Program} {a : Act} {w w' : World} {o : Oper} {T T2 e ty : TypeId} {x y : Operand} {k off dl dc m n cnt : Nat} {cs : Array Value} (hu : P.underlying T = some (.slice e)) (hz : P.cellsOf e = n) (hn : n ≠ 0) (hx : a.eval x = .slice (some ⟨k, off, none⟩) dl dc)
    (hl : (Builtin.lenOf (a.eval y)).run P w = .ok m w) (hcnt : Nat.min m dl = cnt) (hc : (Builtin.firstCells n cnt (a.eval y)).run P w = .ok cs w) (hs : (storeCells ⟨k, off, none⟩ cs.toList).run P w = .ok () w') :
    (execOp a.eval { o with op := .call ⟨.builtin .copy, #[x, y], #[T, T2]⟩, type := ty }).run P w = .ok (.value (goInt cnt)) w' := by
  subst hcnt
  exact x_copy hu hz hn hx hl hc hs
/-- What slices.Insert does behind the test whether it inserts at the end. -/
theorem SW.insM {P : Program} {α : Type} {enc : α → D} {T I B e : TypeId} {fo : Nat} {ik : IntKind} {ti : TypeInfo} {z : Value} {zd : D} {n : Nat} {xs ys : List α} {i : Int} {H : List SObj} {Q : Exit → St → Prop} {Z : Code} {i8 i9 i10 i11 i12 i13 i14 i15 i16 i17 : Nat} {l8 l9 l10 l11 l12 l13 l14 l15 l16 l17 : List Oper}
    (hc : (decide (0 ≤ i) && decide (i < xs.length) && decide (0 < ys.length) && decide (xs.length + ys.length ≤ room)) = true)
    (hT : P.underlying T = some (.slice e)) (hI : P.underlying I = some (.int ik)) (hi : P.info? e = some ti) (hz : ti.zero = some z) (hzd : constD z = some zd) (hzn : z.cells.size = n) (hsize : ti.size = n) (hn : 0 < n) (hby : ti.bytes ≤ 65536)
    (hov : ∀ (args : Array Value) (w : World), (callFunc fo args).run P w = ((Extern.SlicesOverlaps.overlaps #[T, T] #[B] args).run P w).andThen fun v w' => .ok (.value v) w')
    (hq : Q .ret (sp 95 [(6, .own n ((xs.take i.toNat ++ ys ++ xs.drop i.toNat).map enc))] H))
    (hm : P.follows .mixedOrders = true := by kernel_rfl) (hB11 : Region.lexTailB .any l11.toArray 8 = true := by kernel_rfl) (hB15 : Region.lexTailB .any l15.toArray 8 = true := by kernel_rfl)
    (h8 : SH l8 [(26, .move (.tmp 8)), (27, .move (.tmp 7)), (28, .binOp .add I (.tmp 26) (.tmp 27) I), (29, .move (.tmp 0)), (30, .call ⟨.builtin .cap, #[.tmp 29], #[T]⟩), (31, .binOp .gtr I (.tmp 28) (.tmp 30) I)] := by unfold SH; kernel_rfl)
    (h9 : SH l9 [(32, .move (.tmp 0)), (33, .move (.tmp 1)), (34, .slice T (.tmp 32) none (some (.tmp 33)) none), (35, .move (.tmp 8)), (36, .move (.tmp 7)), (37, .binOp .add I (.tmp 35) (.tmp 36) I), (38, .move (.tmp 1)), (39, .binOp .sub I (.tmp 37) (.tmp 38) I), (40, .call ⟨.builtin .append, #[.tmp 34, .tmp 39], #[T, I]⟩), (9, .assign (.tmp 40))] := by unfold SH; kernel_rfl)
    (h10 : SH l10 [(41, .move (.tmp 9)), (42, .move (.tmp 1)), (43, .slice T (.tmp 41) (some (.tmp 42)) none none), (44, .move (.tmp 2)), (45, .call ⟨.builtin .copy, #[.tmp 43, .tmp 44], #[T, T]⟩)] := by unfold SH; kernel_rfl)
    (h11 : SH l11 [(46, .move (.tmp 9)), (47, .move (.tmp 1)), (48, .move (.tmp 7)), (49, .binOp .add I (.tmp 47) (.tmp 48) I), (50, .slice T (.tmp 46) (some (.tmp 49)) none none), (51, .move (.tmp 0)), (52, .move (.tmp 1)), (53, .slice T (.tmp 51) (some (.tmp 52)) none none), (54, .call ⟨.builtin .copy, #[.tmp 50, .tmp 53], #[T, T]⟩)] := by unfold SH; kernel_rfl)
    (h12 : SH l12 [(55, .move (.tmp 9)), (6, .assign (.tmp 55))] := by unfold SH; kernel_rfl)
    (h13 : SH l13 [(56, .move (.tmp 0)), (57, .move (.tmp 8)), (58, .move (.tmp 7)), (59, .binOp .add I (.tmp 57) (.tmp 58) I), (60, .slice T (.tmp 56) none (some (.tmp 59)) none), (0, .assign (.tmp 60))] := by unfold SH; kernel_rfl)
    (h14 : SH l14 [(61, .move (.tmp 2)), (62, .move (.tmp 0)), (63, .move (.tmp 1)), (64, .move (.tmp 7)), (65, .binOp .add I (.tmp 63) (.tmp 64) I), (66, .slice T (.tmp 62) (some (.tmp 65)) none none), (67, .call ⟨.value (.func fo), #[.tmp 61, .tmp 66], #[T, T]⟩), (68, .unOp .not B (.tmp 67))] := by unfold SH; kernel_rfl)
    (h15 : SH l15 [(69, .move (.tmp 0)), (70, .move (.tmp 1)), (71, .move (.tmp 7)), (72, .binOp .add I (.tmp 70) (.tmp 71) I), (73, .slice T (.tmp 69) (some (.tmp 72)) none none), (74, .move (.tmp 0)), (75, .move (.tmp 1)), (76, .slice T (.tmp 74) (some (.tmp 75)) none none), (77, .call ⟨.builtin .copy, #[.tmp 73, .tmp 76], #[T, T]⟩)] := by unfold SH; kernel_rfl)
    (h16 : SH l16 [(78, .move (.tmp 0)), (79, .move (.tmp 1)), (80, .slice T (.tmp 78) (some (.tmp 79)) none none), (81, .move (.tmp 2)), (82, .call ⟨.builtin .copy, #[.tmp 80, .tmp 81], #[T, T]⟩)] := by unfold SH; kernel_rfl)
    (h17 : SH l17 [(83, .move (.tmp 0)), (6, .assign (.tmp 83))] := by unfold SH; kernel_rfl) :
    SW P true (.seq (.seq (.region i8 l8.toArray false) (.cond (.tmp 31) (.seq (.region i9 l9.toArray false) (.seq (.region i10 l10.toArray false) (.seq (.region i11 l11.toArray true) (.seq (.region i12 l12.toArray false) .ret)))) .skip)) (.seq (.region i13 l13.toArray false) (.seq (.seq (.region i14 l14.toArray false) (.cond (.tmp 68) (.seq (.region i15 l15.toArray true) (.seq (.region i16 l16.toArray false) (.seq (.region i17 l17.toArray false) .ret))) .skip)) Z))) (sp 95 [(0, .own n (xs.map enc)), (1, vI i), (2, .d (.list n (ys.map enc))), (7, vI ys.length), (8, vI xs.length)] H) Q := by
  rw [← List.length_map (f := enc) (as := xs), ← List.length_map (f := enc) (as := ys)] at hc ⊢
  simp only [List.map_append, List.map_take, List.map_drop] at hq
  generalize xs.map enc = xs at *
  generalize ys.map enc = ys at *
  intro a w g hr
  simp only [Bool.and_eq_true, decide_eq_true_eq] at hc
  obtain ⟨⟨⟨i0, il⟩, m0⟩, hroom⟩ := hc
  obtain ⟨i, rfl⟩ : ∃ p : Nat, i = (p : Int) := ⟨i.toNat, by omega⟩
  simp only [Int.toNat_natCast] at hq
  have il : i < xs.length := by omega
  unfold room at hroom
  have hce : P.cellsOf e = n := by simp [Program.cellsOf, hi, hsize]
  have hn0 : P.cellsOf e ≠ 0 := by omega
  have hsz : a.tmps.size = 95 := by rw [hr.len]; simp [sp, spL_len]
  have g0 : ROwn g w (.slot 0) (valOf a 0) n xs := hr.tmp 0 (.own n xs) rfl
  have e1 : a.eval (.tmp 1) = .int .i64 (i : Int) := valD_leaf hr (d := .int .i64 (i : Int)) rfl rfl
  have e7 : a.eval (.tmp 7) = .int .i64 (ys.length : Int) := valD_leaf hr (d := .int .i64 (ys.length : Int)) rfl rfl
  have e8 : a.eval (.tmp 8) = .int .i64 (xs.length : Int) := valD_leaf hr (d := .int .i64 (xs.length : Int)) rfl rfl
  rcases g0 with ⟨rfl, -⟩ | ⟨k, off, cap, c, T0, us, hv, hk, hb, hl, hzz, hw, hcc, hrr⟩
  · simp at il
  have e0 : a.eval (.tmp 0) = .slice (some ⟨k, off, none⟩) xs.length cap := hv
  rcases (hr.tmp 2 (.d (.list n ys)) rfl : Rd g w (valOf a 2) (.list n ys)).toList with ⟨rfl, -⟩ | ⟨kv, ov, cv, av, Tv, fz, uv, hv2, hk2, hb2, hl2, hw2, hcc2, hrr2⟩
  · simp at m0
  have e2 : a.eval (.tmp 2) = .slice (some ⟨kv, ov, none⟩) ys.length cv := hv2
  have hkv : g.ow kv = .free := okL_free.1 hk2
  have hne : kv ≠ k := by rintro rfl; rw [hk] at hkv; cases hkv
  have hdef := hr.def0
  have flx := ROwn.flatC (g := g) (w := w) (k := k) (T := T0) (o := .slot 0) hn rfl hl hzz hw hcc hrr
  have hav : ov + ys.length * n ≤ av.size := by
    have hx : ys[ys.length - 1]? = some ys[ys.length - 1] := by simp [m0]
    have hcl := hw2 _ _ hx
    obtain ⟨h1, -⟩ := hcc2 _ _ hx (n - 1) (ys[ys.length - 1].cells[n - 1]'(by omega)) (by simp)
    have := arr_lt h1
    have h2 : ys.length * n = (ys.length - 1) * n + n := by
      obtain ⟨m, hm⟩ : ∃ m, ys.length = m + 1 := ⟨ys.length - 1, by omega⟩
      rw [hm, Nat.add_sub_cancel, Nat.succ_mul]
    omega
  have fly : RFlat g w (av.extract ov (ov + ys.length * n)) n ys := by
    refine ⟨by simp [Nat.min_eq_left hav], hw2, fun p x hx j y hy => ⟨uv p j, ?_, hrr2 p x hx j y hy, (hcc2 p x hx j y hy).2⟩⟩
    have hj : j < n := by rw [← hw2 p x hx]; exact get_lt hy
    have := get_lt hx
    have : (p + 1) * n ≤ ys.length * n := Nat.mul_le_mul_right _ this
    rw [Nat.succ_mul] at this
    rw [Array.getElem?_extract, if_pos (by omega), ← Nat.add_assoc]
    exact (hcc2 p x hx j y hy).1
  have hin : i * n + (xs.length - i) * n = xs.length * n := by rw [← Nat.add_mul]; congr 1; omega
  have hcapn : xs.length * n ≤ cap * n := Nat.mul_le_mul_right _ hl
  have hmn : 0 < ys.length * n := Nat.mul_pos m0 hn
  let zs := xs.take i ++ ys ++ xs.drop i
  have hzl : zs.length = xs.length + ys.length := by simp [zs]; omega
  have flz : RFlat g w ((c.extract off (off + xs.length * n)).extract 0 (i * n) ++ av.extract ov (ov + ys.length * n) ++ (c.extract off (off + xs.length * n)).extract (i * n) (xs.length * n)) n zs := ((flx.take (by omega)).append fly).append (flx.drop (by omega))
  have hf1 : ((c.extract off (off + xs.length * n)).extract 0 (i * n)).size = i * n := by rw [(flx.take (i := i) (by omega)).1, List.length_take, Nat.min_eq_left (by omega)]
  have hf2 : (av.extract ov (ov + ys.length * n)).size = ys.length * n := fly.1
  have hflat : ∀ q, q < zs.length * n → ((c.extract off (off + xs.length * n)).extract 0 (i * n) ++ av.extract ov (ov + ys.length * n) ++ (c.extract off (off + xs.length * n)).extract (i * n) (xs.length * n))[q]? = if q < i * n then c[off + q]? else if q < i * n + ys.length * n then av[ov + (q - i * n)]? else c[off + (q - ys.length * n)]? := fun q hq => by
    rw [hzl, Nat.add_mul] at hq
    have hszF := flx.1
    split
    · rw [Array.append_assoc, Array.getElem?_append_left (by omega), Array.getElem?_extract, if_pos (by omega), Array.getElem?_extract, if_pos (by omega)]
      congr 1; omega
    · split
      · rw [Array.append_assoc, Array.getElem?_append_right (by omega), hf1, Array.getElem?_append_left (by omega), Array.getElem?_extract, if_pos (by omega)]
      · rw [Array.append_assoc, Array.getElem?_append_right (by omega), hf1, Array.getElem?_append_right (by omega), hf2, Array.getElem?_extract, if_pos (by omega), Array.getElem?_extract, if_pos (by omega)]
        congr 1; omega
  have fin : ∀ (a' : Act) (w' : World) (g' : Gh) (v : Value), a'.tmps.size = 95 → a'.defers = [] → a'.eval (.tmp 6) = v → ROwn g' w' (.slot 6) v n zs → (∀ o, o ≠ .lst (.slot 0) → Keep o g w g' w') → g'.ρ = g.ρ → w.heap.size ≤ w'.heap.size → SameOs w w' → ∃ st' g', Q .ret st' ∧ Rel st' a' w' g' ∧ Fr true g w g' w' := fun a' w' g' v h1 h2 h3 h4 h5 h6 h7 h8 => by
    refine ⟨_, g', hq, ⟨by rw [h1]; simp [sp, spL_len], h2, fun t s hs => ?_, ?_⟩, Fr.keepBut (l := .slot 0) (by simp) h7 h5 h6 h8⟩
    · rcases sp_one hs with rfl | ⟨rfl, rfl⟩
      · trivial
      · show ROwn g' w' (.slot 6) (a'.eval (.tmp 6)) n zs
        rw [h3]; exact h4
    · exact hr.hp.keep (fun o ho => h5 o fun e => by subst e; exact ho.elim) (fun _ _ h => by rw [h6]; exact h) (by rw [h6])
  have A : AV 95 a [(0, sV k off xs.length cap), (1, iN i), (2, sV kv ov ys.length cv), (7, iN ys.length), (8, iN xs.length)] := (((((⟨hsz, hdef, nofun⟩ : AV 95 a []).add e8).add e7).add e2).add e1).add e0
  have him : (i + ys.length) * n = i * n + ys.length * n := Nat.add_mul _ _ _
  have htl : (c.extract (off + i * n) (off + i * n + (xs.length - i) * n)).size = (xs.length - i) * n := by simp; omega
  have hone1 : ∀ v ∈ (c.extract (off + i * n) (off + i * n + (xs.length - i) * n)).toList, v.oneCell' = true := by
    have := flx.one
    intro v hv
    refine this v ?_
    simp only [Array.mem_toList_iff, Array.mem_extract_iff_getElem] at hv ⊢
    obtain ⟨q, hq1, rfl⟩ := hv
    exact ⟨i * n + q, by omega, by congr 1; omega⟩
  refine wp_seq (wp_seq (wp_region_lit (lst h8 (.mv rfl) A fun l a h A => lst h (.mv rfl) A fun l a h A => lst h (.ad rfl rfl (by omega)) A fun l a h A => lst h (.mv rfl) A fun l a h A => lst h (.cp hT rfl) A fun l a h A => lst h (.gt rfl rfl) A fun l a h A => lst0 h (wp_cond (A.ev 31 _ rfl) ?_))))
  by_cases hroomy : xs.length + ys.length ≤ cap
  · rw [decide_eq_false (by omega)]
    refine wp_skip (wp_seq (wp_region_lit (lst h13 (.mv rfl) A fun l a h A => lst h (.mv rfl) A fun l a h A => lst h (.mv rfl) A fun l a h A => lst h (.ad rfl rfl (by omega)) A fun l a h A => lst h (.hi hT hn0 rfl rfl hroomy) A fun l a h A => lst h (.as rfl) A fun l a h A => lst0 h ?_)))
    refine wp_seq (wp_seq (wp_region_lit (lst h14 (.mv rfl) A fun l a h A => lst h (.mv rfl) A fun l a h A => lst h (.mv rfl) A fun l a h A => lst h (.mv rfl) A fun l a h A => lst h (.ad rfl rfl (by omega)) A fun l a h A => lst h (.lo hT hn0 hce rfl rfl ⟨by omega, by omega⟩) A fun l a h A => lstE h (v := .bool false) (w' := w) (fun o ty => ?_) A fun l a h A => lst h (.nt rfl) A fun l a h A => lst0 h (wp_cond_true (A.ev 68 _ rfl) ?_))))
    · rw [x_callF, hov, A.ev 61 _ rfl, A.ev 66 _ rfl, run_overlaps (P := P) (T := T) (ps := #[T, T]) (rs := #[B]) rfl hT hn0 hb2 hb hne m0 (by omega) (by omega)]
      rfl
    have hbd : w.drew.heap[k]? = some (.cells c T0 (0, 0)) := hb
    have hcapM : (xs.length + ys.length) * n ≤ cap * n := Nat.mul_le_mul_right _ hroomy
    rw [Nat.add_mul] at hcapM
    refine wp_seq (wp_region_still_tail 8 hm hB15 (lstS (h15.cut 8).1 (.mv rfl) A fun l a h A => lstS h (.mv rfl) A fun l a h A => lstS h (.mv rfl) A fun l a h A => lstS h (.ad rfl rfl (by omega)) A fun l a h A => lstS h (.lo hT hn0 hce rfl rfl ⟨by omega, by omega⟩) A fun l a h A => lstS h (.mv rfl) A fun l a h A => lstS h (.mv rfl) A fun l a h A => lstS h (.lo hT hn0 hce rfl rfl ⟨by omega, by omega⟩) A fun l a h A => lstS0 h ?_))
    obtain ⟨w1, q1, q2, q3, c1, q4, q5, q6⟩ := run_storeCells' (P := P) k (off + (i + ys.length) * n) T0 (c.extract (off + i * n) (off + i * n + (xs.length - i) * n)).toList 0 c w.drew hbd (by simp only [Array.length_toList, htl]; omega) hone1
    have osw1 := storeCells_os (P := P) k (off + (i + ys.length) * n) T0 (c.extract (off + i * n) (off + i * n + (xs.length - i) * n)).toList 0 c w.drew w1 hbd (by simp only [Array.length_toList, htl]; omega) hone1 q1
    refine lstE (h15.cut 8).2 (v := goInt (xs.length - i : Nat)) (w' := w1) (fun o ty => ?_) A fun l a h A => lst0 h ?_
    · refine x_copy' (m := xs.length + ys.length - i) (cs := c.extract (off + i * n) (off + i * n + (xs.length - i) * n)) hT hce (by omega) (A.ev 73 _ rfl) (by rw [A.ev 76 _ rfl]; rfl) ((Nat.min_eq_right (by omega)).trans (by omega)) ?_ q1
      rw [A.ev 76 _ rfl]
      exact run_cells (P := P) hbd (by omega)
    have hb2' : w1.heap[kv]? = some (.cells av Tv fz) := by rw [q3 kv hne]; exact hb2
    obtain ⟨w2, p1, p2, p3, c2, p4, p5, p6⟩ := run_storeCells' (P := P) k (off + i * n) T0 (av.extract ov (ov + ys.length * n)).toList 0 c1 w1 q4 (by simp only [Array.length_toList, hf2]; omega) fly.one
    have osw2 := storeCells_os (P := P) k (off + i * n) T0 (av.extract ov (ov + ys.length * n)).toList 0 c1 w1 w2 q4 (by simp only [Array.length_toList, hf2]; omega) fly.one p1
    refine wp_seq (wp_region_lit (lst h16 (.mv rfl) A fun l a h A => lst h (.mv rfl) A fun l a h A => lst h (.lo hT hn0 hce rfl rfl ⟨by omega, by omega⟩) A fun l a h A => lst h (.mv rfl) A fun l a h A => lstE h (v := goInt ys.length) (w' := w2) (fun o ty => ?_) A fun l a h A => lst0 h ?_))
    · refine x_copy' (m := ys.length) (cs := av.extract ov (ov + ys.length * n)) hT hce (by omega) (A.ev 80 _ rfl) (by rw [A.ev 81 _ rfl]; rfl) (Nat.min_eq_left (by omega)) ?_ p1
      rw [A.ev 81 _ rfl]
      exact run_cells (P := P) hb2' hav
    refine wp_seq (wp_region_lit (lst h17 (.mv rfl) A fun l a h A => lst h (.as rfl) A fun l a h A => lst0 h (wp_ret ?_)))
    have hk2 : ∀ o, o ≠ .lst (.slot 0) → Keep o g w (g.ren (rnL (.slot 0) (.slot 6))) w2 := fun o ho k' b' h1 h2 => by
      have hkk : k' ≠ k := by rintro rfl; exact ho (h1.symm.trans hk)
      exact ⟨by simp only [Gh.ren, h1]; exact rnL_other ho, by rw [p3 k' hkk, q3 k' hkk]; exact h2⟩
    refine fin _ w2 (g.ren (rnL (.slot 0) (.slot 6))) (sV k off (xs.length + ys.length) cap) A.sz A.df (A.ev 6 _ rfl) ?_ hk2 rfl (by rw [p2, q2]; exact Nat.le_refl _) (osw1.trans osw2)
    rw [← hzl]
    refine ROwn.win flz p4 (by simp [Gh.ren, hk, rnL_same]) (by omega) (by rw [p5, q5]; exact hzz) (fun q hq => ?_) (hk2 _ (by simp)) (fun _ _ h => h)
    rw [hflat q hq]
    rw [hzl, Nat.add_mul] at hq
    rw [p6, q6]
    simp only [Array.length_toList, hf2, htl]
    by_cases z1 : q < i * n
    · rw [if_neg (by omega), if_neg (by omega), if_pos z1]
    · by_cases z2 : q < i * n + ys.length * n
      · rw [if_pos (by omega), if_neg z1, if_pos z2, Array.getElem?_toList, Array.getElem?_extract, if_pos (by omega)]
        congr 1; omega
      · rw [if_neg (by omega), if_pos (by omega), if_neg z1, if_neg z2, Array.getElem?_toList, Array.getElem?_extract, if_pos (by omega)]
        congr 1; omega
  · rw [decide_eq_true (by omega)]
    refine wp_seq (wp_region_lit (lst h9 (.mv rfl) A fun l a h A => lst h (.mv rfl) A fun l a h A => lst h (.hi hT hn0 rfl rfl (by omega)) A fun l a h A => lst h (.mv rfl) A fun l a h A => lst h (.mv rfl) A fun l a h A => lst h (.ad rfl rfl (by omega)) A fun l a h A => lst h (.mv rfl) A fun l a h A => lst h (.sb rfl rfl (by omega)) A fun l a h A => ?_))
    have hbd : w.drew.heap[k]? = some (.cells c T0 (0, 0)) := hb
    have hneed : i + (xs.length + ys.length - i) = xs.length + ys.length := by omega
    have hby2 : (xs.length + ys.length) * ti.bytes ≤ 140737488355328 := Nat.le_trans (Nat.mul_le_mul hroom hby) (by decide)
    obtain ⟨gc, hgc, happ⟩ := x_appendMake (P := P) (w := w) (m := xs.length + ys.length - i) (sLen := i) (sCap := cap) (base := some ⟨k, off, none⟩) (z := z) (ti := ti) (olds := c.extract off (off + i * n)) (A.ev 34 _ rfl) (A.ev 39 _ rfl) hT hI hi hz (by omega) (by
      rw [hsize]
      simp only [Builtin.firstCells]
      exact run_cells (P := P) hbd (by omega)) (by omega) (by omega) (by unfold maxLen; omega) (by rw [hneed]; exact hby2)
    rw [hneed] at hgc happ
    generalize hC : c.extract off (off + i * n) ++ Builtin.zeroCells z.cells (xs.length + ys.length - i) ++ Builtin.zeroCells z.cells (gc - (xs.length + ys.length)) = C0 at happ
    have hC0 : C0.size = gc * n := by
      rw [← hC]
      simp only [Array.size_append, size_zeroCells, hzn, Array.size_extract]
      have h1 : i * n + ((xs.length + ys.length - i) * n + (gc - (xs.length + ys.length)) * n) = gc * n := by
        rw [← Nat.add_mul, ← Nat.add_mul]; congr 1; omega
      omega
    have hCl : ∀ q, q < i * n → C0[q]? = c[off + q]? := fun q hq => by
      rw [← hC, Array.append_assoc, Array.getElem?_append_left (by simp; omega), Array.getElem?_extract, if_pos (by omega)]
    clear hC
    have hK1 : (w.drew.alloc (.cells C0 e)).heap[w.heap.size]? = some (.cells C0 e (0, 0)) := heap_alloc w.drew _
    have hold : ∀ (k' : Nat) (b' : Obj), w.heap[k']? = some b' → k' ≠ w.heap.size ∧ (w.drew.alloc (.cells C0 e)).heap[k']? = some b' := fun k' b' h => ⟨by have := arr_lt h; omega, (Keep.alloc (o' := g.ow k') (g := g) (w := w.drew) (o := .cells C0 e) (t := .free) k' b' rfl h).2⟩
    generalize hW : w.drew.alloc (.cells C0 e) = w1 at happ hK1 hold
    have hw1s : w.heap.size ≤ w1.heap.size := by rw [← hW]; simp
    have hos1 : SameOs w w1 := by rw [← hW]; exact ⟨rfl, rfl⟩
    generalize hKK : w.heap.size = K at happ hK1 hold hw1s
    refine lstE h (w' := w1) happ A fun l a h A => lst h (.as rfl) A fun l a h A => lst0 h ?_
    have hb2' : w1.heap[kv]? = some (.cells av Tv fz) := (hold kv _ hb2).2
    have hKkv : kv ≠ K := (hold kv _ hb2).1
    have hKk : k ≠ K := (hold k _ hb).1
    have hgcn : (xs.length + ys.length) * n ≤ gc * n := Nat.mul_le_mul_right _ hgc
    rw [Nat.add_mul] at hgcn
    obtain ⟨w2, p1, p2, p3, c2, p4, p5, p6⟩ := run_storeCells' (P := P) K (0 + i * n) e (av.extract ov (ov + ys.length * n)).toList 0 C0 w1 hK1 (by simp only [Array.length_toList, hf2]; omega) fly.one
    have osw2 := storeCells_os (P := P) K (0 + i * n) e (av.extract ov (ov + ys.length * n)).toList 0 C0 w1 w2 hK1 (by simp only [Array.length_toList, hf2]; omega) fly.one p1
    refine wp_seq (wp_region_lit (lst h10 (.mv rfl) A fun l a h A => lst h (.mv rfl) A fun l a h A => lst h (.lo hT hn0 hce rfl rfl ⟨by omega, by omega⟩) A fun l a h A => lst h (.mv rfl) A fun l a h A => lstE h (v := goInt ys.length) (w' := w2) (fun o ty => ?_) A fun l a h A => lst0 h ?_))
    · refine x_copy' (m := ys.length) (cs := av.extract ov (ov + ys.length * n)) hT hce (by omega) (A.ev 43 _ rfl) (by rw [A.ev 44 _ rfl]; rfl) (Nat.min_eq_left (by omega)) ?_ p1
      rw [A.ev 44 _ rfl]
      exact run_cells (P := P) hb2' hav
    refine wp_seq (wp_region_still_tail 8 hm hB11 (lstS (h11.cut 8).1 (.mv rfl) A fun l a h A => lstS h (.mv rfl) A fun l a h A => lstS h (.mv rfl) A fun l a h A => lstS h (.ad rfl rfl (by omega)) A fun l a h A => lstS h (.lo hT hn0 hce rfl rfl ⟨by omega, by omega⟩) A fun l a h A => lstS h (.mv rfl) A fun l a h A => lstS h (.mv rfl) A fun l a h A => lstS h (.lo hT hn0 hce rfl rfl ⟨by omega, by omega⟩) A fun l a h A => lstS0 h ?_))
    have hbd2 : w2.drew.heap[k]? = some (.cells c T0 (0, 0)) := by
      show w2.heap[k]? = _
      rw [p3 k hKk]; exact (hold k _ hb).2
    obtain ⟨w3, q1, q2, q3, c3, q4, q5, q6⟩ := run_storeCells' (P := P) K (0 + (i + ys.length) * n) e (c.extract (off + i * n) (off + i * n + (xs.length - i) * n)).toList 0 c2 w2.drew p4 (by simp only [Array.length_toList, htl]; omega) hone1
    have osw3 := storeCells_os (P := P) K (0 + (i + ys.length) * n) e (c.extract (off + i * n) (off + i * n + (xs.length - i) * n)).toList 0 c2 w2.drew w3 p4 (by simp only [Array.length_toList, htl]; omega) hone1 q1
    refine lstE (h11.cut 8).2 (v := goInt (xs.length - i : Nat)) (w' := w3) (fun o ty => ?_) A fun l a h A => lst0 h ?_
    · refine x_copy' (m := xs.length - i) (cs := c.extract (off + i * n) (off + i * n + (xs.length - i) * n)) hT hce (by omega) (A.ev 50 _ rfl) (by rw [A.ev 53 _ rfl]; rfl) (by rw [show xs.length + ys.length - (i + ys.length) = xs.length - i by omega]; exact Nat.min_self _) ?_ q1
      rw [A.ev 53 _ rfl]
      exact run_cells (P := P) hbd2 (by omega)
    refine wp_seq (wp_region_lit (lst h12 (.mv rfl) A fun l a h A => lst h (.as rfl) A fun l a h A => lst0 h (wp_ret ?_)))
    have hk3 : ∀ o, Keep o g w (g.upd K (.lst (.slot 6))) w3 := fun o k' b' h1 h2 => by
      obtain ⟨hkk, h3⟩ := hold k' b' h2
      refine ⟨by rw [Gh.upd_other _ _ hkk]; exact h1, ?_⟩
      rw [q3 k' hkk]
      show w2.heap[k']? = _
      rw [p3 k' hkk]; exact h3
    refine fin _ w3 (g.upd K (.lst (.slot 6))) (sV K 0 (xs.length + ys.length) gc) A.sz A.df (A.ev 6 _ rfl) ?_ (fun o _ => hk3 o) rfl (by rw [q2]; show _ ≤ w2.heap.size; rw [p2, hKK]; exact hw1s) (hos1.trans (osw2.trans osw3))
    rw [← hzl]
    refine ROwn.win flz q4 (by simp) (by omega) (by rw [q5, p5, hC0]; omega) (fun q hq => ?_) (hk3 _) (fun _ _ h => h)
    rw [hflat q hq]
    rw [hzl, Nat.add_mul] at hq
    rw [q6, p6]
    simp only [Array.length_toList, hf2, htl]
    by_cases z1 : q < i * n
    · rw [if_neg (by omega), if_neg (by omega), if_pos z1, hCl _ (by omega)]
      congr 1; omega
    · by_cases z2 : q < i * n + ys.length * n
      · rw [if_neg (by omega), if_pos (by omega), if_neg z1, if_pos z2, Array.getElem?_toList, Array.getElem?_extract, if_pos (by omega)]
        congr 1; omega
      · rw [if_pos (by omega), if_neg z1, if_neg z2, Array.getElem?_toList, Array.getElem?_extract, if_pos (by omega)]
        congr 1; omega
end Go.Sh
namespace Go.Sh
section
variable {P : Program} {pu : Bool} {st : St} {ops : Array Oper} {k m : Nat} {Q : St → Prop}
/-- s[i:j:m], where only the bounds matter. -/
def sl3At (P : Program) (ops : Array Oper) (k : Nat) (st : St) : Option (Option Tmp × List D × Int × Int × Int) :=
  match opAt ops k st with
  | some o => match o.op with
    | .slice T x (some lo) (some hi) (some mx) => match (match valD st x with | some (.str _) => none | _ => listOf st x), intOf? st lo, intOf? st hi, intOf? st mx with
      | some (_, _, xs), some (_, i), some (_, j), some (_, mm) => if elemW P T != 0 then some (o.dst, xs, i, j, mm) else none
      | _, _, _, _ => none
    | _ => none
  | none => none
theorem BAt.sl3 {α : Type} {enc : α → D} {xs : List α} {d : Option Tmp} {i j mm : Int} (hc : (decide (0 ≤ i) && decide (i ≤ j) && decide (j ≤ mm) && decide (mm ≤ xs.length)) = true) (h : sl3At P ops k st = some (d, xs.map enc, i, j, mm) := by kernel_rfl) : BAt P ops k st d .undef := by
  simp only [Bool.and_eq_true, decide_eq_true_eq] at hc
  obtain ⟨⟨⟨h0, h1⟩, h2⟩, h3⟩ := hc
  unfold sl3At at h
  split at h
  · rename_i o ho
    split at h
    · rename_i T x lo hi mx hop
      split at h
      · rename_i l n xs' ik i' jk j' mk mm' hl hi' hj' hm'
        split at h
        · rename_i hw
          simp only [Option.some.injEq, Prod.mk.injEq] at h
          obtain ⟨rfl, rfl, rfl, rfl, rfl⟩ := h
          obtain ⟨g1, g2⟩ := opAt_inv ho
          refine ⟨o, g1, g2, fun a w g hr => ?_, rfl, rfl⟩
          have hx : listOf st x = some (l, n, xs.map enc) := by
            split at hl
            · cases hl
            · exact hl
          have hL := listOf_sound hr hx
          have ev : ∀ {y : Operand} {kk : IntKind} {q : Int}, intOf? st y = some (kk, q) → a.eval y = .int kk q := fun h => by
            unfold intOf? at h
            split at h
            · rename_i k1 n1 hv1
              cases h
              exact valD_leaf hr hv1 rfl
            · cases h
          have e1 := ev hi'
          have e2 := ev hj'
          have e3 := ev hm'
          obtain ⟨base, len, cap, hv, hlen⟩ : ∃ base len cap, a.eval x = .slice base len cap ∧ xs.length ≤ cap := by
            rcases hL with ⟨hn, b0, cap, hv⟩ | ⟨kb, off, cap, c, T0, fz, us, hv, -, -, hp, -⟩
            · rw [List.map_eq_nil_iff] at hn; subst hn; exact ⟨b0, 0, cap, hv, by simp⟩
            · exact ⟨_, _, cap, hv, by simpa using hp⟩
          unfold elemW at hw
          split at hw
          · rename_i e hu
            have hz : P.cellsOf e ≠ 0 := by simpa using hw
            refine ⟨.slice (if mm'.toNat = i'.toNat + (mm'.toNat - i'.toNat) ∧ mm'.toNat = i'.toNat then base else base.map (·.add (i'.toNat * P.cellsOf e))) (j'.toNat - i'.toNat) (mm'.toNat - i'.toNat), trivial, fun w' _ => ?_⟩
            unfold execOp; rw [hop]
            show (do pure (.value (← Instr.sliceAt T (a.eval x) (some (a.eval lo)) (some (a.eval hi)) (some (a.eval mx)))) : Sem Next).run P w' = _
            have c1 : mm' ≤ (cap : Int) := by omega
            have c2 : 0 ≤ mm' := by omega
            have c3 : 0 ≤ j' := by omega
            have c4 : j' ≤ max mm' 0 := by omega
            have c5 : i' ≤ max j' 0 := by omega
            simp [hv, e1, e2, e3, Instr.sliceAt, Instr.slice, Instr.sliceBounds, Instr.sliceBound, asIntOf, run_underlying hu, c1, c2, c3, c4, c5, h0, sizeOf_ne hz]
            by_cases hq : mm'.toNat = i'.toNat
            · rw [if_pos hq, if_pos ⟨by omega, hq⟩]
            · rw [if_neg hq, if_neg (fun h => hq h.2)]
          · simp at hw
        · cases h
      · cases h
    · cases h
  · cases h
end
/-- A list that may be nil where it is empty: both ways have to tell the same. -/
def nilB {α ρ : Type} [DecidableEq ρ] (xs : List α) (f : Bool → Option ρ) : Option ρ := bif xs.isEmpty then (if f true = f false then f true else none) else f false
theorem nilB_inv {α ρ : Type} [DecidableEq ρ] {xs : List α} {f : Bool → Option ρ} {r : ρ} (h : nilB xs f = some r) (b : Bool) (hb : b = true → xs = []) : f b = some r := by
  unfold nilB at h
  cases hx : xs.isEmpty with
  | true =>
    rw [hx] at h
    simp only [cond_true] at h
    split at h
    · rename_i e; cases b
      · rw [← e]; exact h
      · exact h
    · cases h
  | false =>
    rw [hx] at h
    cases b with
    | false => exact h
    | true => have := hb rfl; subst this; simp at hx
theorem SW.delM {P : Program} {pu : Bool} {st : St} {α : Type} {enc : α → D} {id id2 : Nat} {o1 o2 o3 o4 o5 o6 o7 o8 p1 p2 p3 p4 p5 p6 : Oper} {Y : Code} {T e : TypeId} {ti : TypeInfo} {z : Value} {zd : D} {n : Nat} {xs : List α} {i j : Int} {Q : Exit → St → Prop} {t1 t2 t3 t4 t5 t6 t7 s a1 a2 a3 u1 u2 u3 u4 u5 : Nat} {st2 : St}
    (hij : (decide (0 ≤ i) && decide (i < j) && decide (j ≤ xs.length) && decide (xs.length ≤ room)) = true)
    (hm : P.follows .mixedOrders = true) (hB : Region.lexTailB .any #[o1, o2, o3, o4, o5, o6, o7, o8] 6 = true)
    (h1 : isOp o1 (some t1) (.move (.tmp s))) (h2 : isOp o2 (some t2) (.move (.tmp a1))) (h3 : isOp o3 (some t3) (.slice T (.tmp t1) none (some (.tmp t2)) none)) (h4 : isOp o4 (some t4) (.move (.tmp s))) (h5 : isOp o5 (some t5) (.move (.tmp a2)))
    (h6 : isOp o6 (some t6) (.slice T (.tmp t4) (some (.tmp t5)) none none)) (h7 : isOp o7 (some t7) (.call ⟨.builtin .append, #[.tmp t3, .tmp t6], #[T, T]⟩)) (h8 : isOp o8 (some s) (.assign (.tmp t7)))
    (k1 : isOp p1 (some u1) (.move (.tmp s))) (k2 : isOp p2 (some u2) (.move (.tmp s))) (k3 : isOp p3 (some u3) (.call ⟨.builtin .len, #[.tmp u2], #[T]⟩)) (k4 : isOp p4 (some u4) (.move (.tmp a3)))
    (k5 : isOp p5 (some u5) (.slice T (.tmp u1) (some (.tmp u3)) (some (.tmp u4)) none)) (k6 : isOp p6 none (.call ⟨.builtin .clear, #[.tmp u5], #[T]⟩))
    (hN : (decide (t1 < st.tmps.length) && decide (t2 < st.tmps.length) && decide (t3 < st.tmps.length) && decide (t4 < st.tmps.length) && decide (t5 < st.tmps.length) && decide (t6 < st.tmps.length) && decide (t7 < st.tmps.length)) = true)
    (hN2 : (decide (u1 < st.tmps.length) && decide (u2 < st.tmps.length) && decide (u3 < st.tmps.length) && decide (u4 < st.tmps.length) && decide (u5 < st.tmps.length)) = true)
    (hd : List.Pairwise (· ≠ ·) [s, a1, a2, t1, t2, t3, t4, t5, t6, t7]) (hd2 : List.Pairwise (· ≠ ·) [s, a3, u1, u2, u3, u4, u5])
    (hT : P.underlying T = some (.slice e)) (hi : P.info? e = some ti) (hz : ti.zero = some z) (hzd : constD z = some zd) (hzn : z.cells.size = n) (hsize : ti.size = n) (hn : 0 < n) (hby : ti.bytes ≤ 65536)
    (hs : st.tmps[s]? = some (.own n (xs.map enc))) (hi1 : valD st (.tmp a1) = some (.int .i64 i)) (hj1 : valD st (.tmp a2) = some (.int .i64 j))
    (hst2 : ((st.junk [t1, t2, t3, t4, t5, t6, t7]).take s).put (some s) (.own n ((xs.take i.toNat ++ xs.drop j.toNat).map enc)) = st2) (h3v : valD st2 (.tmp a3) = some (.int .i64 xs.length))
    (hq : SW P pu Y (st2.junk [u1, u2, u3, u4, u5]) Q) :
    SW P pu (.seq (.region id #[o1, o2, o3, o4, o5, o6, o7, o8] true) (.seq (.region id2 #[p1, p2, p3, p4, p5, p6] false) Y)) st Q :=
  SW.del (xs := xs.map enc) hm hB h1 h2 h3 h4 h5 h6 h7 h8 k1 k2 k3 k4 k5 k6 hN hN2 hd hd2 hT hi hz hzd hzn hsize hn hby hs hi1 hj1 (by simpa only [List.length_map] using hij) (by simpa only [List.map_append, List.map_take, List.map_drop] using hst2) (by rw [List.length_map]; exact h3v) hq
end Go.Sh
namespace Go.Sh
theorem PC.of_calls (h : ∀ (w : World) (g : Gh) (vs : Array Value), RArgs g w vs args → Calls P f vs w fun e w' => ∃ v, e = .returned v ∧ w' = w ∧ RRes g w v r) : PC P f args r := by
  intro H w g vs hA hH
  refine (h w g vs hA).mono fun e w' hh => ?_
  obtain ⟨v, rfl, rfl, hr⟩ := hh
  exact ⟨v, g, rfl, hr, hH, Fr.refl _ _ _⟩
theorem RArgs.strs2 (h : RArgs g w vs [vS a, vS b]) : vs = #[.string (mk a), .string (mk b)] := by
  obtain ⟨h1, h2⟩ := h
  obtain ⟨u0, e0, r0⟩ := h2 0 (vS a) rfl
  obtain ⟨u1, e1, r1⟩ := h2 1 (vS b) rfl
  have r0 : Rd g w u0 (.str a) := r0
  have r1 : Rd g w u1 (.str b) := r1
  cases r0; cases r1
  grind
/-- Texts compared: -1, 0, 1. -/
def cmpS (fuel : Nat) (a b : List UInt8) : Option Int := some (Lib.compareBytes a b)
theorem cmpS_pc (h : cmpS fuel a b = some r)
    (hc : ∀ (a b : ByteArray) (w : World), Calls P f #[.string a, .string b] w fun e w' => e = .returned (.int .i64 (Lib.compareBytes a.data.toList b.data.toList)) ∧ w' = w) : PC P f [vS a, vS b] (vI r) := by
  cases h
  refine PC.of_calls fun w g vs hA => ?_
  rw [hA.strs2]
  refine (hc (mk a) (mk b) w).mono fun e w' hh => ?_
  obtain ⟨rfl, rfl⟩ := hh
  exact ⟨_, rfl, rfl, (.int : Rd g w' _ _)⟩
end Go.Sh
namespace Go.Sh
section
variable {P : Program} {pu : Bool} {st : St} {ops : Array Oper}
def markL : List Nat → Array Bool → Array Bool
  | [], l => l
  | m :: ms, l => markL ms (l.setIfInBounds m true)
def movesB (ops : Array Oper) : List Nat → Array Bool → Bool
  | [], _ => true
  | m :: ms, l => ((ops[m]?).map isMove).getD false && (Region.ready .any ops l).contains m && Region.free .any ops l m && movesB ops ms (l.setIfInBounds m true)
theorem markL_size : ∀ (ms : List Nat) (l : Array Bool), (markL ms l).size = l.size
  | [], _ => rfl
  | m :: ms, l => by rw [markL, markL_size ms]; simp
theorem markL_mono : ∀ (ms : List Nat) (l : Array Bool) (i : Nat), l.getD i false = true → (markL ms l).getD i false = true
  | [], _, _, h => h
  | m :: ms, l, i, h => markL_mono ms _ i (getD_set_true h)
theorem markL_mem : ∀ (ms : List Nat) (l : Array Bool) (i : Nat), i ∈ ms → i < l.size → (markL ms l).getD i false = true
  | [], _, _, h, _ => by simp at h
  | m :: ms, l, i, h, hi => by
    rcases List.mem_cons.1 h with rfl | h
    · exact markL_mono ms _ i (by simp [hi])
    · exact markL_mem ms _ i h (by simpa using hi)
theorem markL_not : ∀ (ms : List Nat) (l : Array Bool) (i : Nat), i ∉ ms → (markL ms l).getD i true = l.getD i true
  | [], _, _, _ => rfl
  | m :: ms, l, i, h => by
    rw [markL, markL_not ms _ i (fun h' => h (List.mem_cons_of_mem _ h')), getD_set_ne true (fun (e : m = i) => h (by simp [e]))]
theorem markL_closed : ∀ (ms : List Nat) (l : Array Bool), movesB ops ms l = true → (∀ j oj, ops[j]? = some oj → l.getD j false = true → ∀ e ∈ oj.after, Region.binds .any e = true → l.getD e.on false = true) →
    ∀ j oj, ops[j]? = some oj → (markL ms l).getD j false = true → ∀ e ∈ oj.after, Region.binds .any e = true → (markL ms l).getD e.on false = true
  | [], _, _, h => h
  | m :: ms, l, hb, h => by
    simp only [movesB, Bool.and_eq_true] at hb
    refine markL_closed ms _ hb.2 fun j oj hj hl e he hbd => ?_
    obtain ⟨_, om, hom, hall⟩ := mem_ready.1 (by simpa using hb.1.1.2 : m ∈ Region.ready .any ops l)
    by_cases hmj : m = j
    · subst hmj
      have : oj = om := Option.some.inj (hj.symm.trans hom)
      subst this
      exact getD_set_true (hall e he hbd)
    · rw [getD_set_ne false hmj] at hl
      exact getD_set_true (h j oj hj hl e he hbd)
theorem wpAny_moves {R : Act → World → Prop} (hng : ops.all (fun o => o.guard.isNone) = true) (hsel : ∀ (j : Nat) (o : Oper) cs b, ops[j]? = some o → o.op ≠ .select cs b) {Q : Act → Prop} :
    ∀ (ms : List Nat) (l : Array Bool) (a : Act), movesB ops ms l = true → (∀ a', wpStill P ops w Q (opsOf ops hds) a' → wpAny P .any ops (NQ R) fuel (markL ms l) a' w) →
      wpStill P ops w Q (opsOf ops (ms ++ hds)) a → wpAny P .any ops (NQ R) (ms.length + fuel) l a w
  | [], l, a, _, hk, h => by simpa [markL] using hk a h
  | m :: ms, l, a, hb, hk, h => by
    simp only [movesB, Bool.and_eq_true] at hb
    obtain ⟨⟨⟨b1, b2⟩, b3⟩, b4⟩ := hb
    have hmr : m ∈ Region.ready .any ops l := by simpa using b2
    obtain ⟨hm0, om, hom, hmall⟩ := mem_ready.1 hmr
    have hop : ∃ x, om.op = .move x := by
      rw [hom] at b1
      simp only [Option.map_some, Option.getD_some] at b1
      unfold isMove at b1
      split at b1
      · exact ⟨_, by assumption⟩
      · cases b1
    obtain ⟨x, hop⟩ := hop
    have hmg : om.guard = none := opsOf_ng hng [m] om (by simp [opsOf, hom])
    have hcons : opsOf ops (m :: ms ++ hds) = om :: opsOf ops (ms ++ hds) := by simp [opsOf, hom]
    rw [hcons] at h
    unfold wpStill at h
    rw [if_pos (wanted_ng hmg _)] at h
    have hexec : (execOp a.eval om).run P w = .ok (.value (a.eval x)) w := by unfold execOp; rw [hop]; rfl
    unfold Oper.still at h
    rw [hexec, Oper.stillUpon_value] at h
    have := wpAny_moves hng hsel ms (l.setIfInBounds m true) _ b4 hk h
    have e : (m :: ms).length + fuel = (ms.length + fuel) + 1 := by simp; omega
    rw [e]
    exact wpAny_move hom hop hmg hsel _ _ a _ (Region.free_spec hom b3) hmr this
def permML (ops : Array Oper) (ms hds : List Nat) (t0 : Nat) (ts : List Nat) : Array Oper := (opsOf ops (ms ++ hds) ++ opsOf ops (t0 :: ts)).toArray
def permMB (ops : Array Oper) (ms hds : List Nat) (t0 : Nat) (ts : List Nat) : Bool :=
  Region.noSelect ops && ops.all (fun o => o.guard.isNone) && movesB ops ms (Array.replicate ops.size false) &&
    sinkH .any ops hds t0 && chainH .any ops t0 ts && hds.all (fun i => !(t0 :: ts).contains i) && ms.all (fun i => !(t0 :: ts).contains i) && decide (ops.size = ms.length + (hds.length + (ts.length + 1))) &&
    (List.range ops.size).all (fun i => hds.contains i || (t0 :: ts).contains i || ms.contains i) && (t0 :: ts).all (fun i => decide (i < ops.size)) && decide ((opsOf ops (ms ++ hds)).length = ms.length + hds.length) &&
    lexHeadH .any ops (t0 :: ts) hds (markL ms (Array.replicate ops.size false))
theorem SW.regionM {id : Nat} {l : List Oper} {Q : Exit → St → Prop} (ms hds : List Nat) (t0 : Nat) (ts : List Nat) (k : Nat) (hk : decide (k = ms.length + hds.length) = true) (hm : P.follows .mixedOrders = true) (hB : permMB l.toArray ms hds t0 ts = true)
    (h : OBk P (permML l.toArray ms hds t0 ts) k 0 st (fun st1 => OWk P pu (permML l.toArray ms hds t0 ts) k st1 (Q .normal))) : SW P pu (.region id l.toArray true) st Q := by
  have hk := of_decide_eq_true hk
  subst hk
  generalize hops : l.toArray = ops at *
  intro a w g hr
  refine Code.wp_mono (Q := NQ fun a' w' => ∃ st' g', Q .normal st' ∧ Rel st' a' w' g' ∧ Fr pu g w g' w') (fun e a' w' hh => by obtain ⟨rfl, hh⟩ := hh; exact hh) ?_
  simp only [permMB, Bool.and_eq_true, decide_eq_true_eq] at hB
  obtain ⟨⟨⟨⟨⟨⟨⟨⟨⟨⟨⟨b1, b2⟩, b3⟩, b6⟩, b7⟩, b8⟩, b9⟩, b10⟩, b11⟩, b12⟩, b13⟩, b14⟩ := hB
  refine wp_region_any hm ?_
  have hms : ∀ i ∈ ms, i ∉ t0 :: ts := fun i hi => by have := List.all_eq_true.1 b9 i hi; simpa using this
  have inv : HInv .any ops hds t0 ts (markL ms (Array.replicate ops.size false)) := by
    refine ⟨by rw [markL_size]; simp, markL_closed ms _ b3 (fun j oj hj hl => by rw [getD_replicate_false] at hl; cases hl), fun t ht => ?_, fun i hi h1 h2 => ?_⟩
    · rw [markL_not ms _ t (fun h => hms t h ht)]
      have := List.all_eq_true.1 b12 t ht
      simp at this
      simp [this]
    · have := List.all_eq_true.1 b11 i (List.mem_range.2 hi)
      simp only [Bool.or_eq_true, List.contains_iff_mem] at this
      rcases this with (h3 | h3) | h3
      · exact absurd h3 h1
      · exact absurd h3 h2
      · exact markL_mem ms _ i h3 (by simpa using hi)
  -- the walk in the other order
  have hl1 : (permML ops ms hds t0 ts).toList.take (ms.length + hds.length) = opsOf ops (ms ++ hds) := by simp only [permML]; rw [List.take_append_of_le_length (by omega), List.take_of_length_le (by omega)]
  have hl2 : (permML ops ms hds t0 ts).toList.drop (ms.length + hds.length) = opsOf ops (t0 :: ts) := by simp only [permML]; rw [← b13, List.drop_left']; rfl
  unfold OBk at h
  rw [List.drop_zero, hl1] at h
  have key := h a w.drew g hr.drew (fun a' => wpList P ops (NQ fun a' w' => ∃ st' g', Q .normal st' ∧ Rel st' a' w' g' ∧ Fr pu g w g' w') (opsOf ops (t0 :: ts)) a' w.drew) (fun st1 a1 g1 q1 r1 f1 => by
    refine wpList_ng (opsOf_ng b2 _) (ops' := permML ops ms hds t0 ts) ?_
    unfold OWk at q1
    rw [hl2] at q1
    exact q1 a1 w.drew g1 r1 _ fun st' a' w' g' q r f => ⟨rfl, st', g', q, r, (Fr.drew.trans (f1 pu)).trans f⟩)
  have key := wpStill_ng (ops := ops) (opsOf_ng b2 (ms ++ hds)) key
  have hsz : ops.size = ms.length + (hds.length + (ts.length + 1)) := b10
  rw [hsz]
  rw [hsz] at inv b14
  refine wpAny_moves b2 (Region.noSelect_spec b1) ms _ a (by rw [← hsz]; exact b3) (fun a' ha' => ?_) key
  refine wpAny_of_headH (hds := hds) (g := ts.length + 1) (fun listed' a' hL => ?_) hds.length _ _ (wpAnyH_lex b1 b6 b7 (fun i hi => by have := List.all_eq_true.1 b8 i hi; simpa using this) hds _ _ (fun _ h => h) inv b14 ha')
  exact wpAny_of_seqH (t0 :: ts) listed' a' _ hL.1 hL.2
end
end Go.Sh
namespace Go.Sh
def elemB (P : Program) (T e : TypeId) (n : Nat) : Bool :=
  match P.underlying T, P.info? e with
  | some (.slice e'), some ti => match ti.zero with
    | some z => e' == e && (constD z).isSome && z.cells.size == n && ti.size == n && decide (0 < n) && decide (ti.bytes ≤ 65536)
    | none => false
  | _, _ => false
theorem elemB_spec (h : elemB P T e n = true) :
    P.underlying T = some (.slice e) ∧ ∃ ti z zd, P.info? e = some ti ∧ ti.zero = some z ∧ constD z = some zd ∧ z.cells.size = n ∧ ti.size = n ∧ 0 < n ∧ ti.bytes ≤ 65536 := by
  unfold elemB at h
  split at h
  · rename_i e' ti hT hi
    split at h
    · rename_i z hz
      simp only [Bool.and_eq_true, decide_eq_true_eq, beq_iff_eq, Option.isSome_iff_exists] at h
      grind
    · cases h
  · cases h
end Go.Sh
namespace Go.Sh
section
variable {P : Program}
/-- A row of cells stays as it is. -/
def KeepsS {α : Type} (P : Program) (m : Sem α) : Prop :=
  ∀ (w w' : World) (x : α) (r : Nat) (c : Array Value) (T : TypeId) (z : Nat × Nat), w.heap[r]? = some (.cells c T z) → m.run P w = .ok x w' → w'.heap[r]? = some (.cells c T z)
theorem KeepsS.pure {α : Type} (x : α) : KeepsS P (Pure.pure x : Sem α) := fun w w' y r c T z h h1 => by
  rw [Sem.run_pure] at h1; cases h1; exact h
theorem KeepsS.halt {α : Type} (hh : Halt) : KeepsS P (Sem.halt hh : Sem α) := fun w w' y r c T z h h1 => by simp [Sem.run] at h1
theorem KeepsS.bind {α β : Type} {m : Sem α} {f : α → Sem β} (h1 : KeepsS P m) (h2 : ∀ x, KeepsS P (f x)) : KeepsS P (m >>= f) := fun w w' y r c T z h h3 => by
  rw [Sem.run_bind] at h3
  cases hm : m.run P w with
  | ok x w1 => rw [hm, Result.andThen_ok] at h3; exact h2 x _ _ _ _ _ _ _ (h1 _ _ _ _ _ _ _ h hm) h3
  | halt y w1 => rw [hm] at h3; cases h3
theorem KeepsS.panic {α : Type} (s : String) : KeepsS P (runtimePanic (.plain s) : Sem α) := fun w w' y r c T z h h1 => by
  unfold runtimePanic at h1
  simp [Sem.run_bind, Go.program, Sem.run, Result.andThen_ok, goPanic] at h1
theorem KeepsS.getObj (r0 : Nat) : KeepsS P (Go.getObj r0) := fun w w' y r c T z h h1 => by
  simp only [Go.getObj, Sem.run] at h1
  split at h1
  · cases h1
  · cases h1; exact h
  · cases h1
theorem KeepsS.setObj (r0 : Nat) (o : Obj) : KeepsS P (Go.setObj r0 o) := fun w w' y r c T z h h1 => by
  simp only [Go.setObj, Sem.run] at h1
  split at h1
  · cases h1
  · rename_i o' hne ho'
    cases h1
    have : r0 ≠ r := by rintro rfl; rw [h] at ho'; cases ho'; exact hne _ _ _ rfl
    simp only [Array.getElem?_setIfInBounds, this, if_false]
    exact h
  · cases h1
theorem KeepsS.choose (q : Question) : KeepsS P (Go.choose q) := fun w w' y r c T z h h1 => by
  simp only [Go.choose, Sem.run] at h1
  split at h1 <;> cases h1 <;> exact h
theorem KeepsS.program : KeepsS P Go.program := fun w w' y r c T z h h1 => by
  simp only [Go.program, Sem.run] at h1
  cases h1; exact h
theorem KeepsS.typeInfo (t : TypeId) : KeepsS P (Go.typeInfo t) := by
  unfold Go.typeInfo
  refine KeepsS.program.bind fun p => ?_
  split
  · exact KeepsS.pure _
  · exact KeepsS.halt _
theorem KeepsS.underlying (t : TypeId) : KeepsS P (Go.underlying t) := by
  unfold Go.underlying
  refine KeepsS.program.bind fun p => ?_
  split
  · exact KeepsS.pure _
  · exact KeepsS.halt _
theorem KeepsS.zeroValue (t : TypeId) : KeepsS P (Go.zeroValue t) := by
  unfold Go.zeroValue
  refine (KeepsS.typeInfo t).bind fun p => ?_
  split
  · exact KeepsS.pure _
  · exact KeepsS.halt _
theorem KeepsS.asInt (v : Value) : KeepsS P (Go.asInt v) := by
  unfold Go.asInt
  refine KeepsS.bind ?_ fun _ => KeepsS.pure _
  unfold asIntOf
  split
  · exact KeepsS.pure _
  · exact KeepsS.halt _
  · exact KeepsS.halt _
theorem KeepsS.load (a : Addr) : KeepsS P (Go.load a) := fun w w' y r c T z h h1 => by
  simp only [Go.load, Sem.run] at h1
  split at h1
  · cases h1; exact h
  · split at h1
    · cases h1; exact h
    · cases h1
theorem KeepsS.loadCellsFrom (a : Addr) : ∀ (n i : Nat) (acc : Array Value), KeepsS P (Go.loadCellsFrom a i n acc)
  | 0, i, acc => KeepsS.pure _
  | n + 1, i, acc => by
    unfold Go.loadCellsFrom
    exact (KeepsS.load _).bind fun v => KeepsS.loadCellsFrom a n _ _
theorem KeepsS.loadAt (t : TypeId) (x : Value) : KeepsS P (Instr.loadAt t x) := by
  unfold Instr.loadAt
  refine KeepsS.bind ?_ fun a => ?_
  · unfold Instr.sureAddr
    split
    · exact KeepsS.pure _
    · exact KeepsS.halt _
  · unfold loadVar
    refine KeepsS.bind ?_ fun b => ?_
    · unfold isAgg
      refine (KeepsS.underlying t).bind fun d => ?_
      split <;> exact KeepsS.pure _
    · split
      · refine KeepsS.bind ?_ fun n => KeepsS.bind (KeepsS.loadCellsFrom _ _ _ _) fun _ => KeepsS.pure _
        unfold sizeOf
        exact (KeepsS.typeInfo t).bind fun _ => KeepsS.pure _
      · exact KeepsS.load _
theorem KeepsS.extract (t : Value) (i : Nat) : KeepsS P (Instr.extract t i) := by
  unfold Instr.extract
  split
  · split
    · exact KeepsS.pure _
    · exact KeepsS.halt _
  · exact KeepsS.halt _
/-- The keys are strings. -/
def strKeyB (P : Program) (T : TypeId) : Bool := match P.underlying T with | some (.map k _) => (match P.underlying k with | some .string => true | _ => false) | _ => false
theorem KeepsS.equal (hk : P.underlying k = some .string) (x y : Value) : KeepsS P (Op.equal k x y) := fun w w' b r c T z h h1 => by
  unfold Op.equal Op.maxDepth Op.equalIn at h1
  simp only [Sem.run_bind, run_underlying hk, Result.andThen_ok] at h1
  revert h1
  cases x <;> cases y <;> simp (config := { contextual := true }) only [Sem.run_pure, stuck, Sem.run, Result.ok.injEq, reduceCtorEq, false_implies, implies_true, and_imp]
  rintro - rfl
  exact h
theorem KeepsS.findAsking (hk : P.underlying k = some .string) (x : Value) : ∀ (es : List MapEntry) (i : Nat), KeepsS P (Instr.findAsking k x es i)
  | [], i => KeepsS.pure _
  | e :: es, i => by
    unfold Instr.findAsking
    refine (KeepsS.equal hk _ _).bind fun b => ?_
    split
    · exact KeepsS.pure _
    · exact KeepsS.findAsking hk x es _
theorem KeepsS.findKey (hk : P.underlying k = some .string) (x : Value) (es : List MapEntry) : KeepsS P (Instr.findKey k x es) := by
  unfold Instr.findKey
  refine (KeepsS.underlying k).bind fun d => ?_
  split
  · exact KeepsS.pure _
  · exact KeepsS.findAsking hk x es _
theorem KeepsS.checkKey (hk : P.underlying k = some .string) (e : Bool) (n : Nat) (x : Value) : KeepsS P (Instr.checkKey e (n + 1) k x) := fun w w' b r c T z h h1 => by
  unfold Instr.checkKey at h1
  simp only [Sem.run_bind, run_underlying hk, Result.andThen_ok] at h1
  revert h1
  cases x <;> simp only [Sem.run_pure] <;> intro h1 <;> cases h1 <;> exact h
theorem KeepsS.keyThatStays (x y : Value) : KeepsS P (Instr.keyThatStays x y) := by
  unfold Instr.keyThatStays
  split
  · exact KeepsS.pure _
  · refine KeepsS.bind (KeepsS.choose _) fun n => KeepsS.pure _
theorem KeepsS.under (hd : P.underlying T = some d) {α : Type} {f : TypeDesc → Sem α} (h : KeepsS P (f d)) : KeepsS P (Go.underlying T >>= f) := fun w w' y r c T' z h0 h1 => by
  rw [Sem.run_bind, run_underlying hd, Result.andThen_ok] at h1
  exact h _ _ _ _ _ _ _ h0 h1
theorem KeepsS.mapEntry (hT : strKeyB P T = true) (m key : Value) : KeepsS P (Instr.mapEntry T m key) := by
  unfold strKeyB at hT
  split at hT
  · rename_i k e hk
    split at hT
    · rename_i hs
      unfold Instr.mapEntry
      refine KeepsS.under hk ?_
      simp only
      split
      · exact KeepsS.panic _
      · refine (KeepsS.getObj _).bind fun o => ?_
        split
        · refine (KeepsS.checkKey hs _ _ _).bind fun _ => (KeepsS.findKey hs _ _).bind fun o' => ?_
          split
          · exact (KeepsS.keyThatStays _ _).bind fun _ => (KeepsS.setObj _ _).bind fun _ => KeepsS.pure _
          · exact (KeepsS.zeroValue _).bind fun _ => (KeepsS.setObj _ _).bind fun _ => KeepsS.pure _
        · exact KeepsS.halt _
      · exact KeepsS.halt _
    · cases hT
  · cases hT
theorem KeepsS.entryStore (T : TypeId) (m s x : Value) : KeepsS P (Instr.entryStore T m s x) := by
  unfold Instr.entryStore
  split
  · refine (KeepsS.getObj _).bind fun o => ?_
    split
    · refine (KeepsS.asInt _).bind fun _ => ?_
      split
      · exact KeepsS.setObj _ _
      · exact KeepsS.halt _
    · exact KeepsS.halt _
  · exact KeepsS.halt _
theorem KeepsS.isAgg (t : TypeId) : KeepsS P (Go.isAgg t) := by
  unfold Go.isAgg
  refine (KeepsS.underlying t).bind fun d => ?_
  split <;> exact KeepsS.pure _
theorem KeepsS.part (t : TypeId) (cs : Array Value) (off : Nat) : KeepsS P (Go.part t cs off) := by
  unfold Go.part
  refine (KeepsS.isAgg t).bind fun b => ?_
  split
  · refine KeepsS.bind ?_ fun n => KeepsS.pure _
    unfold sizeOf
    exact (KeepsS.typeInfo t).bind fun _ => KeepsS.pure _
  · split
    · exact KeepsS.pure _
    · exact KeepsS.halt _
theorem KeepsS.followBlind : ∀ (l : List FieldStep) (t : TypeId) (x : Option Value), KeepsS P (Go.followBlind l t x)
  | [], t, x => KeepsS.pure _
  | s :: rest, t, x => by
    unfold Go.followBlind
    refine (KeepsS.underlying _).bind fun d => ?_
    split
    · split
      · split
        · exact KeepsS.pure _
        · exact KeepsS.followBlind rest _ _
        · exact KeepsS.halt _
        · exact KeepsS.pure _
        · exact (KeepsS.part _ _ _).bind fun _ => KeepsS.followBlind rest _ _
        · exact KeepsS.halt _
        · exact KeepsS.followBlind rest _ _
      · exact KeepsS.halt _
    · exact KeepsS.halt _
theorem KeepsS.nilAhead : ∀ (n : Nat) (t : TypeId) (v : Value) (nm : String), KeepsS P (Go.nilAhead n t v nm)
  | 0, t, v, nm => KeepsS.pure _
  | n + 1, t, v, nm => by
    unfold Go.nilAhead
    refine (KeepsS.typeInfo _).bind fun ti => ?_
    split
    · refine (KeepsS.followBlind _ _ _).bind fun r => ?_
      split
      · exact KeepsS.pure _
      · split
        · exact KeepsS.nilAhead n _ _ _
        · exact KeepsS.pure _
        · exact KeepsS.halt _
        · exact KeepsS.pure _
        · exact KeepsS.pure _
        · refine (KeepsS.underlying _).bind fun d => ?_
          split <;> exact KeepsS.pure _
    · exact KeepsS.halt _
theorem KeepsS.nilDeref {α : Type} : KeepsS P (runtimePanic .nilDeref : Sem α) := fun w w' y r c T z h h1 => by
  unfold runtimePanic at h1
  simp [Sem.run_bind, Go.program, Sem.run, Result.andThen_ok, goPanic] at h1
def fieldB (P : Program) (s : TypeId) (f : Nat) : Bool := match P.underlying s with
  | some (.struct fs) => (match fs[f]? with | some fl => ((P.info? fl.type).map fun i => i.size != 0).getD false | none => false)
  | _ => false
theorem fieldB_run (h : fieldB P s f = true) : ∃ off : Nat, ∀ (k o : Nat) (w : World), (Instr.fieldAt s (.pointer (some ⟨k, o, none⟩)) f).run P w = .ok (.pointer (some ⟨k, o + off, none⟩)) w := by
  unfold fieldB at h
  split at h
  · rename_i fs hs
    split at h
    · rename_i fl hf
      cases hi : P.info? fl.type with
      | none => rw [hi] at h; cases h
      | some i =>
        rw [hi] at h
        simp only [Option.map_some, Option.getD_some, bne_iff_ne, ne_eq] at h
        refine ⟨fl.offset, fun k o w => ?_⟩
        have hti : ∀ w, (Go.typeInfo fl.type).run P w = .ok i w := fun w => by
          unfold Go.typeInfo Go.program
          simp [Sem.run_bind, Sem.run, hi]
        simp only [Instr.fieldAt, Sem.run_bind, run_underlying hs, Result.andThen_ok, hf, Instr.sureAddr, Sem.run_pure, fieldPlace, sizeOf, hti, h, if_false]
        unfold Addr.add
        split
        · rename_i h0; rw [h0]; rfl
        · rfl
    · cases h
  · cases h
theorem KeepsS.fieldAt (h : fieldB P s f = true) (x : Value) : KeepsS P (Instr.fieldAt s x f) := by
  unfold fieldB at h
  split at h
  · rename_i fs hs
    split at h
    · rename_i fl hf
      cases hi : P.info? fl.type with
      | none => rw [hi] at h; cases h
      | some i =>
        rw [hi] at h
        simp only [Option.map_some, Option.getD_some, bne_iff_ne, ne_eq] at h
        unfold Instr.fieldAt
        refine KeepsS.under hs ?_
        simp only [hf]
        refine KeepsS.bind ?_ fun a => ?_
        · unfold Instr.sureAddr
          split
          · exact KeepsS.pure _
          · exact KeepsS.halt _
        · refine KeepsS.bind ?_ fun _ => KeepsS.pure _
          unfold fieldPlace
          intro w w' y r c T z h0 h1
          have hti : ∀ w, (Go.typeInfo fl.type).run P w = .ok i w := fun w => by
            unfold Go.typeInfo Go.program
            simp [Sem.run_bind, Sem.run, hi]
          simp only [Sem.run_bind, sizeOf, hti, Result.andThen_ok, Sem.run_pure, h, if_false] at h1
          cases h1
          exact h0
    · cases h
  · cases h
/-- What may stand between: no row of cells is written, nothing is entered. -/
def keepsB (P : Program) (o : Oper) : Bool := match o.op with
  | .move _ | .assign _ | .extract _ _ | .load _ _ | .entryStore _ _ _ _ | .nilCheck _ => true
  | .fieldAddr s _ f => fieldB P s f
  | .mapEntry T _ _ => strKeyB P T
  | _ => false
def plainN : Next → Bool | .value _ | .skip => true | _ => false
theorem keepsB_v {m : Sem Value} (h : KeepsS P m) {w w' : World} {n : Next} {r : Nat} {c : Array Value} {T : TypeId} {z : Nat × Nat} (h0 : w.heap[r]? = some (.cells c T z)) (h1 : (do pure (.value (← m)) : Sem Next).run P w = .ok n w') :
    w'.heap[r]? = some (.cells c T z) ∧ plainN n = true := by
  refine ⟨KeepsS.bind h (fun _ => KeepsS.pure _) _ _ _ _ _ _ _ h0 h1, ?_⟩
  rw [Sem.run_bind] at h1
  cases hm : m.run P w with
  | ok x w1 => rw [hm, Result.andThen_ok, Sem.run_pure] at h1; cases h1; rfl
  | halt y w1 => rw [hm] at h1; cases h1
theorem keepsB_u {m : Sem Unit} (h : KeepsS P m) {w w' : World} {n : Next} {r : Nat} {c : Array Value} {T : TypeId} {z : Nat × Nat} (h0 : w.heap[r]? = some (.cells c T z)) (h1 : (do m; pure .skip : Sem Next).run P w = .ok n w') :
    w'.heap[r]? = some (.cells c T z) ∧ plainN n = true := by
  refine ⟨KeepsS.bind h (fun _ => KeepsS.pure _) _ _ _ _ _ _ _ h0 h1, ?_⟩
  rw [Sem.run_bind] at h1
  cases hm : m.run P w with
  | ok x w1 => rw [hm, Result.andThen_ok, Sem.run_pure] at h1; cases h1; rfl
  | halt y w1 => rw [hm] at h1; cases h1
def PlainS (P : Program) (m : Sem Next) : Prop := ∀ (w : World) (n : Next) (w' : World), m.run P w = .ok n w' → plainN n = true
theorem PlainS.bind {α : Type} {m : Sem α} {f : α → Sem Next} (h2 : ∀ x, PlainS P (f x)) : PlainS P (m >>= f) := fun w n w' h => by
  rw [Sem.run_bind] at h
  cases hm : m.run P w with
  | ok x w1 => rw [hm, Result.andThen_ok] at h; exact h2 x _ _ _ h
  | halt y w1 => rw [hm] at h; cases h
theorem keepsB_n {m : Sem Next} (h : KeepsS P m) {w w' : World} {n : Next} {r : Nat} {c : Array Value} {T : TypeId} {z : Nat × Nat} (hn : ∀ w n w', m.run P w = .ok n w' → plainN n = true) (h0 : w.heap[r]? = some (.cells c T z)) (h1 : m.run P w = .ok n w') :
    w'.heap[r]? = some (.cells c T z) ∧ plainN n = true := ⟨h _ _ _ _ _ _ _ h0 h1, hn _ _ _ h1⟩
theorem keepsB_spec {o : Oper} (h : keepsB P o = true) {ρ : Operand → Value} {w w' : World} {n : Next} {r : Nat} {c : Array Value} {T : TypeId} {z : Nat × Nat} (h0 : w.heap[r]? = some (.cells c T z)) (h1 : (execOp ρ o).run P w = .ok n w') :
    w'.heap[r]? = some (.cells c T z) ∧ plainN n = true := by
  unfold keepsB at h
  unfold execOp at h1
  split at h <;> rename_i hop <;> simp only [hop] at h1
  · rw [Sem.run_pure] at h1; cases h1; exact ⟨h0, rfl⟩
  · rw [Sem.run_pure] at h1; cases h1; exact ⟨h0, rfl⟩
  · exact keepsB_v (KeepsS.extract _ _) h0 h1
  · exact keepsB_v (KeepsS.loadAt _ _) h0 h1
  · exact keepsB_u (KeepsS.entryStore _ _ _ _) h0 h1
  · split at h1
    · exact absurd h1 (by intro h1; have := h1; unfold runtimePanic at this; simp [Sem.run_bind, Go.program, Sem.run, Result.andThen_ok, goPanic] at this)
    · exact absurd h1 (by intro h1; have := h1; unfold runtimePanic at this; simp [Sem.run_bind, Go.program, Sem.run, Result.andThen_ok, goPanic] at this)
    · exact absurd h1 (by intro h1; have := h1; unfold runtimePanic at this; simp [Sem.run_bind, Go.program, Sem.run, Result.andThen_ok, goPanic] at this)
    · split at h1
      · exact absurd h1 (by intro h1; have := h1; unfold runtimePanic at this; simp [Sem.run_bind, Go.program, Sem.run, Result.andThen_ok, goPanic] at this)
      · refine keepsB_n ?_ ?_ h0 h1
        · refine KeepsS.program.bind fun _ => (KeepsS.nilAhead _ _ _ _).bind fun _ => ?_
          split
          · exact KeepsS.halt _
          · exact KeepsS.pure _
        · refine PlainS.bind fun _ => PlainS.bind fun _ => ?_
          split
          · exact fun w n w' h => by simp [unsupported, Sem.run, Result.andThen, Sem.run_bind] at h
          · exact fun w n w' h => by rw [Sem.run_pure] at h; cases h; rfl
      · rw [Sem.run_pure] at h1; cases h1; exact ⟨h0, rfl⟩
    · rw [Sem.run_pure] at h1; cases h1; exact ⟨h0, rfl⟩
  · exact keepsB_v (KeepsS.fieldAt h _) h0 h1
  · exact keepsB_v (KeepsS.mapEntry h _ _) h0 h1
  · cases h
end
end Go.Sh
namespace Go.Sh
section
variable {P : Program} {ops : Array Oper} {md : Region.Mode} {R : Act → World → Prop}
theorem wpOp_steady {j : Nat} {oi oj : Oper} {p : Tmp} {pv u : Value} {r : Nat} {c : Array Value} {T : TypeId} {z : Nat × Nat} (hj : ops[j]? = some oj) (hop : Operand.tmp p ∈ oi.op.operands.toList) (hap : oi.apart ops oj = true) (hsj : ∀ cs b, oj.op ≠ .select cs b) (hk : keepsB P oj = true)
    {K : Act → World → Prop} {a : Act} {w : World} (hJ : w.heap[r]? = some (.cells c T z)) (hv : a.eval (.tmp p) = pv) (h : wpOp P ops (NQ R) j K (a.put oi.dst u) w) :
    wpOp P ops (NQ R) j (fun a' w' => a'.eval (.tmp p) = pv ∧ w'.heap[r]? = some (.cells c T z) ∧ K (a'.put oi.dst u) w') a w := by
  obtain ⟨h1, h2, h3⟩ := Oper.apart_spec hap
  have keep : ∀ y, (a.put oj.dst y).eval (.tmp p) = pv := fun y => by
    rw [Act.eval_put fun d hd e => h3 d hd ?_]
    · exact hv
    · cases e
      exact List.mem_append_left _ (List.mem_filterMap.2 ⟨.tmp p, hop, rfl⟩)
  unfold wpOp at *
  simp only [hj] at *
  rw [wanted_put oj a oi.dst u h1] at h
  split
  · rename_i hw
    simp only [hw, if_true] at h
    refine .inl ?_
    rcases h with h | h
    · unfold Oper.wp at *
      rw [execOp_put oj hsj a oi.dst u h1] at h
      cases hr : (execOp a.eval oj).run P w with
      | ok n w' =>
        obtain ⟨g1, g2⟩ := keepsB_spec hk hJ hr
        rw [hr] at h
        cases n <;> simp only [plainN, reduceCtorEq] at g2 <;> simp only [Oper.upon] at h ⊢
        case value y => exact ⟨keep y, g1, by rw [← Act.put_comm a u y h2]; exact h⟩
        case skip => exact ⟨keep _, g1, by rw [← Act.put_comm a u undef h2]; exact h⟩
      | halt y w' =>
        rw [hr] at h
        cases y <;> simp only [Oper.upon] at h ⊢
        exact absurd h.1 (by simp)
    · exact absurd h.2 NQ.out
  · rename_i hw
    simp only [hw] at h
    exact ⟨keep _, hJ, by rw [← Act.put_comm a u undef h2]; exact h⟩
theorem wpAny_steady {i : Nat} {oi : Oper} {p : Tmp} {pv u : Value} {r : Nat} {c : Array Value} {T : TypeId} {z : Nat × Nat} (hi : ops[i]? = some oi) (hop : Operand.tmp p ∈ oi.op.operands.toList) (hg : oi.guard = none) (hsel : ∀ (j : Nat) (o : Oper) cs b, ops[j]? = some o → o.op ≠ .select cs b)
    (hval : ∀ (a : Act) (w : World), a.eval (.tmp p) = pv → w.heap[r]? = some (.cells c T z) → (execOp a.eval oi).run P w = .ok (.value u) w) :
    ∀ (fuel : Nat) (listed : Array Bool) (a : Act) (w : World),
      (∀ j oj, ops[j]? = some oj → j ≠ i → listed.getD j true = false → (∀ e ∈ oj.after, Region.binds md e = true → e.on ≠ i) → oi.apart ops oj = true ∧ keepsB P oj = true) →
      i ∈ Region.ready md ops listed → a.eval (.tmp p) = pv → w.heap[r]? = some (.cells c T z) →
      wpAny P md ops (NQ R) fuel (listed.setIfInBounds i true) (a.put oi.dst u) w → wpAny P md ops (NQ R) (fuel + 1) listed a w := by
  have one : ∀ (K : Act → World → Prop) (a : Act) (w : World), a.eval (.tmp p) = pv → w.heap[r]? = some (.cells c T z) → K (a.put oi.dst u) w → wpOp P ops (NQ R) i K a w := fun K a w e1 e2 h => by
    unfold wpOp
    simp only [hi]
    have hw : Region.wanted oi (yielded ops a.tmps) = true := by unfold Region.wanted; rw [hg]
    rw [if_pos hw]
    refine .inl ?_
    unfold Oper.wp
    rw [hval a w e1 e2, Oper.upon_value]
    exact h
  intro fuel
  induction fuel with
  | zero =>
    intro listed a w _ hr e1 e2 H
    refine ⟨fun h => (by rw [h] at hr; cases hr), fun j hj => ?_⟩
    by_cases hji : j = i
    · subst hji; exact one _ a w e1 e2 H
    · have := ready_mono hj hji
      rw [H.1] at this
      cases this
  | succ fuel ih =>
    intro listed a w hfree hr e1 e2 H
    refine ⟨fun h => (by rw [h] at hr; cases hr), fun j hj => ?_⟩
    by_cases hji : j = i
    · subst hji; exact one _ a w e1 e2 H
    · have h1 := H.2 j (ready_mono hj hji)
      obtain ⟨hjun, oj, hoj, hall⟩ := mem_ready.1 hj
      have hnot : ∀ e ∈ oj.after, Region.binds md e = true → e.on ≠ i := fun e he hb heq => by
        have h1 := hall e he hb
        have h0 := (mem_ready.1 hr).1
        rw [heq] at h1
        rcases Nat.lt_or_ge i listed.size with h' | h'
        · simp [h'] at h0 h1; rw [h0] at h1; cases h1
        · simp [Array.getElem?_eq_none h'] at h1
      obtain ⟨ha, hkk⟩ := hfree j oj hoj hji hjun hnot
      have h2 := wpOp_steady hoj hop ha (fun cs b => hsel j oj cs b hoj) hkk e2 e1 h1
      have hfree' : ∀ k ok, ops[k]? = some ok → k ≠ i → (listed.setIfInBounds j true).getD k true = false →
          (∀ e ∈ ok.after, Region.binds md e = true → e.on ≠ i) → oi.apart ops ok = true ∧ keepsB P ok = true := fun k ok hk hki hun hno => by
        refine hfree k ok hk hki ?_ hno
        by_cases hjk : j = k
        · subst hjk; exact hjun
        · rw [getD_set_ne true hjk] at hun; exact hun
      refine wpOp_mono (fun a' w' h3 => ?_) h2
      obtain ⟨h3, h4, h5⟩ := h3
      refine ih (listed.setIfInBounds j true) a' w' hfree' (ready_mono hr (Ne.symm hji)) h3 h4 ?_
      rw [Array.setIfInBounds_comm _ _ hji]
      exact h5
def notAggB (P : Program) (T : TypeId) : Bool := match P.underlying T with | some (.struct _) | some (.array _ _) | none => false | _ => true
theorem notAggB_run (h : notAggB P T = true) (hJ : w.heap[r]? = some (.cells c T0 z)) :
    (Instr.loadAt T (.pointer (some ⟨r, off, none⟩))).run P w = match c[off]? with | some u => .ok u w | none => .halt (w.noCell ⟨r, off, none⟩ "load: no such cell") w := by
  unfold notAggB at h
  cases hd : P.underlying T with
  | none => rw [hd] at h; cases h
  | some d =>
    rw [hd] at h
    have hagg : (isAgg T).run P w = .ok false w := by
      unfold isAgg
      simp only [Sem.run_bind, run_underlying hd, Result.andThen_ok]
      cases d <;> simp_all [Sem.run_pure]
    simp only [Instr.loadAt, Instr.sureAddr, Sem.run_bind, Sem.run_pure, Result.andThen_ok, loadVar, hagg, if_false, Bool.false_eq_true, Go.load, Sem.run, World.cell?, hJ, Option.isSome_none, World.farLoad]
    cases c[off]? <;> rfl
def othersB (P : Program) (ops : Array Oper) (l : Array Bool) (m : Nat) : Bool :=
  (List.range ops.size).all fun j => j == m || l.getD j true || match ops[j]? with
    | some oj => oj.after.any (fun e => Region.binds .any e && e.on == m) || keepsB P oj
    | none => true
theorem othersB_spec (h : othersB P ops l m = true) (j : Nat) (oj : Oper) (hj : ops[j]? = some oj) (hne : j ≠ m) (hun : l.getD j true = false) (hno : ∀ e ∈ oj.after, Region.binds .any e = true → e.on ≠ m) : keepsB P oj = true := by
  simp only [othersB, List.all_eq_true, List.mem_range] at h
  have h1 := h j (Array.getElem?_eq_some_iff.1 hj).1
  simp only [hj, Bool.or_eq_true, beq_iff_eq, hne, false_or, hun, Bool.false_eq_true] at h1
  rcases h1 with h1 | h1
  · obtain ⟨e, he, hb⟩ := Array.any_eq_true'.1 h1
    simp only [Bool.and_eq_true, beq_iff_eq] at hb
    exact absurd hb.2 (hno e he hb.1)
  · exact h1
def steadyB (P : Program) (ops : Array Oper) (n : Nat) : List Nat → Array Bool → List Tmp → Bool
  | [], _, _ => true
  | m :: ms, l, kn => match ops[m]? with
    | some o => (Region.ready .any ops l).contains m && Region.free .any ops l m && match o.op, o.dst with
      | .move _, some d => steadyB P ops n ms (l.setIfInBounds m true) (kn.filter (fun p => p != d))
      | .fieldAddr s (.tmp p) f, some d => kn.contains p && fieldB P s f && othersB P ops l m && decide (d < n) && steadyB P ops n ms (l.setIfInBounds m true) (d :: kn.filter (fun p => p != d))
      | .load T (.tmp p), some d => kn.contains p && notAggB P T && othersB P ops l m && steadyB P ops n ms (l.setIfInBounds m true) (kn.filter (fun p => p != d))
      | _, _ => false
    | none => false
def Kn (r : Nat) (kn : List Tmp) (a : Act) : Prop := ∀ p ∈ kn, ∃ off, a.eval (.tmp p) = .pointer (some ⟨r, off, none⟩)
theorem Kn.put (h : Kn r kn a) (d : Tmp) (v : Value) : Kn r (kn.filter (fun p => p != d)) (a.put (some d) v) := fun p hp => by
  obtain ⟨h1, h2⟩ := List.mem_filter.1 hp
  obtain ⟨off, ho⟩ := h p h1
  refine ⟨off, ?_⟩
  rw [Act.eval_put fun d' hd e => ?_]
  · exact ho
  · cases hd; cases e; simp at h2
theorem Act.eval_self {a : Act} {d : Tmp} {v : Value} (h : d < a.tmps.size) : (a.put (some d) v).eval (.tmp d) = v := by
  simp [Act.put, Act.eval, h]
theorem steadyB_closed : ∀ (ms : List Nat) (l : Array Bool) (kn : List Tmp), steadyB P ops n ms l kn = true → (∀ j oj, ops[j]? = some oj → l.getD j false = true → ∀ e ∈ oj.after, Region.binds .any e = true → l.getD e.on false = true) →
    ∀ j oj, ops[j]? = some oj → (markL ms l).getD j false = true → ∀ e ∈ oj.after, Region.binds .any e = true → (markL ms l).getD e.on false = true
  | [], _, _, _, h => h
  | m :: ms, l, kn, hb, h => by
    unfold steadyB at hb
    split at hb
    · rename_i om hom
      simp only [Bool.and_eq_true] at hb
      have key : ∀ kn', steadyB P ops n ms (l.setIfInBounds m true) kn' = true → ∀ j oj, ops[j]? = some oj → (markL (m :: ms) l).getD j false = true → ∀ e ∈ oj.after, Region.binds .any e = true → (markL (m :: ms) l).getD e.on false = true := fun kn' hk => by
        refine steadyB_closed ms _ kn' hk fun j oj hj hl e he hbd => ?_
        obtain ⟨_, om', hom', hall⟩ := mem_ready.1 (by simpa using hb.1.1 : m ∈ Region.ready .any ops l)
        by_cases hmj : m = j
        · subst hmj
          have : oj = om' := Option.some.inj (hj.symm.trans hom')
          subst this
          exact getD_set_true (hall e he hbd)
        · rw [getD_set_ne false hmj] at hl
          exact getD_set_true (h j oj hj hl e he hbd)
      have hb2 := hb.2
      split at hb2
      · exact key _ hb2
      · simp only [Bool.and_eq_true] at hb2; exact key _ hb2.2
      · simp only [Bool.and_eq_true] at hb2; exact key _ hb2.2
      · cases hb2
    · cases hb
theorem wpAny_steadies {n : Nat} {r : Nat} {c : Array Value} {T : TypeId} {z : Nat × Nat} (hng : ops.all (fun o => o.guard.isNone) = true) (hsel : ∀ (j : Nat) (o : Oper) cs b, ops[j]? = some o → o.op ≠ .select cs b) {hds : List Nat} {Q : Act → Prop} {w : World} {fuel : Nat} (hJ : w.heap[r]? = some (.cells c T z)) :
    ∀ (ms : List Nat) (l : Array Bool) (kn : List Tmp) (a : Act), steadyB P ops n ms l kn = true → Kn r kn a → a.tmps.size = n → (∀ a', wpStill P ops w Q (opsOf ops hds) a' → wpAny P .any ops (NQ R) fuel (markL ms l) a' w) →
      wpStill P ops w Q (opsOf ops (ms ++ hds)) a → wpAny P .any ops (NQ R) (ms.length + fuel) l a w
  | [], l, kn, a, _, _, _, hk, h => by simpa [markL] using hk a h
  | m :: ms, l, kn, a, hb, hkn, hsz, hk, h => by
    unfold steadyB at hb
    split at hb
    · rename_i om hom
      simp only [Bool.and_eq_true] at hb
      obtain ⟨⟨b2, b3⟩, b4⟩ := hb
      have hmr : m ∈ Region.ready .any ops l := by simpa using b2
      have hmg : om.guard = none := opsOf_ng hng [m] om (by simp [opsOf, hom])
      have hcons : opsOf ops (m :: ms ++ hds) = om :: opsOf ops (ms ++ hds) := by simp [opsOf, hom]
      rw [hcons] at h
      unfold wpStill at h
      rw [if_pos (wanted_ng hmg _)] at h
      have e : (m :: ms).length + fuel = (ms.length + fuel) + 1 := by simp; omega
      rw [e]
      split at b4
      · rename_i x d hop hd
        have hexec : (execOp a.eval om).run P w = .ok (.value (a.eval x)) w := by unfold execOp; rw [hop]; rfl
        unfold Oper.still at h
        rw [hexec, Oper.stillUpon_value] at h
        have := wpAny_steadies hng hsel hJ ms (l.setIfInBounds m true) _ _ b4 (by rw [hd]; exact hkn.put d _) (by rw [put_size]; exact hsz) hk h
        exact wpAny_move hom hop hmg hsel _ _ a _ (Region.free_spec hom b3) hmr this
      · rename_i s p f d hop hd
        simp only [Bool.and_eq_true, decide_eq_true_eq] at b4
        obtain ⟨⟨⟨⟨c1, c2⟩, c3⟩, c5⟩, c4⟩ := b4
        obtain ⟨off, hoff⟩ := hkn p (by simpa using c1)
        obtain ⟨fo, hfo⟩ := fieldB_run c2
        have hval : ∀ (a : Act) (w : World), a.eval (.tmp p) = .pointer (some ⟨r, off, none⟩) → w.heap[r]? = some (.cells c T z) → (execOp a.eval om).run P w = .ok (.value (.pointer (some ⟨r, off + fo, none⟩))) w := fun a w e1 _ => by
          unfold execOp
          simp only [hop, e1, Sem.run_bind, hfo, Result.andThen_ok, Sem.run_pure]
        unfold Oper.still at h
        rw [hval a w hoff hJ, Oper.stillUpon_value] at h
        have := wpAny_steadies hng hsel hJ ms (l.setIfInBounds m true) _ _ c4 (by
          rw [hd]
          intro q hq
          rcases List.mem_cons.1 hq with rfl | hq
          · exact ⟨_, Act.eval_self (by rw [hsz]; exact c5)⟩
          · exact hkn.put d _ q hq) (by rw [put_size]; exact hsz) hk h
        exact wpAny_steady hom (by rw [hop]; simp [Op.operands]) hmg hsel hval _ _ a _ (fun j oj g1 g2 g3 g4 => ⟨Region.free_spec hom b3 j oj g1 g2 g3 g4, othersB_spec c3 j oj g1 g2 g3 g4⟩) hmr hoff hJ this
      · rename_i T1 p d hop hd
        simp only [Bool.and_eq_true] at b4
        obtain ⟨⟨⟨c1, c2⟩, c3⟩, c4⟩ := b4
        obtain ⟨off, hoff⟩ := hkn p (by simpa using c1)
        have hrun : ∀ (a : Act) (w : World), a.eval (.tmp p) = .pointer (some ⟨r, off, none⟩) → w.heap[r]? = some (.cells c T z) → (execOp a.eval om).run P w = match c[off]? with | some u => .ok (.value u) w | none => .halt (w.noCell ⟨r, off, none⟩ "load: no such cell") w := fun a w e1 e2 => by
          unfold execOp
          simp only [hop, e1, Sem.run_bind, notAggB_run c2 e2]
          cases c[off]? <;> simp [Sem.run_pure, Result.andThen]
        cases hc : c[off]? with
        | none =>
          unfold Oper.still at h
          rw [hrun a w hoff hJ, hc] at h
          exact absurd h (by simp [Oper.stillUpon])
        | some u =>
          have hval : ∀ (a : Act) (w : World), a.eval (.tmp p) = .pointer (some ⟨r, off, none⟩) → w.heap[r]? = some (.cells c T z) → (execOp a.eval om).run P w = .ok (.value u) w := fun a w e1 e2 => by rw [hrun a w e1 e2, hc]
          unfold Oper.still at h
          rw [hval a w hoff hJ, Oper.stillUpon_value] at h
          have := wpAny_steadies hng hsel hJ ms (l.setIfInBounds m true) _ _ c4 (by rw [hd]; exact hkn.put d _) (by rw [put_size]; exact hsz) hk h
          exact wpAny_steady hom (by rw [hop]; simp [Op.operands]) hmg hsel hval _ _ a _ (fun j oj g1 g2 g3 g4 => ⟨Region.free_spec hom b3 j oj g1 g2 g3 g4, othersB_spec c3 j oj g1 g2 g3 g4⟩) hmr hoff hJ this
      · cases b4
    · cases hb
end
section
variable {P : Program} {pu : Bool} {st : St} {ops : Array Oper}
def permSB (P : Program) (ops : Array Oper) (n s0 : Nat) (ms hds : List Nat) (t0 : Nat) (ts : List Nat) : Bool :=
  Region.noSelect ops && ops.all (fun o => o.guard.isNone) && steadyB P ops n ms (Array.replicate ops.size false) [s0] &&
    sinkH .any ops hds t0 && chainH .any ops t0 ts && hds.all (fun i => !(t0 :: ts).contains i) && ms.all (fun i => !(t0 :: ts).contains i) && decide (ops.size = ms.length + (hds.length + (ts.length + 1))) &&
    (List.range ops.size).all (fun i => hds.contains i || (t0 :: ts).contains i || ms.contains i) && (t0 :: ts).all (fun i => decide (i < ops.size)) && decide ((opsOf ops (ms ++ hds)).length = ms.length + hds.length) &&
    lexHeadH .any ops (t0 :: ts) hds (markL ms (Array.replicate ops.size false))
theorem SW.regionS {id : Nat} {l : List Oper} {Q : Exit → St → Prop} (n s0 : Nat) (ms hds : List Nat) (t0 : Nat) (ts : List Nat) (k : Nat) (hk : decide (k = ms.length + hds.length) = true) (hm : P.follows .mixedOrders = true) (hb : ((boxAt st s0).isSome && decide (st.tmps.length = n)) = true) (hB : permSB P l.toArray n s0 ms hds t0 ts = true)
    (h : OBk P (permML l.toArray ms hds t0 ts) k 0 st (fun st1 => OWk P pu (permML l.toArray ms hds t0 ts) k st1 (Q .normal))) : SW P pu (.region id l.toArray true) st Q := by
  have hk := of_decide_eq_true hk
  subst hk
  generalize hops : l.toArray = ops at *
  intro a w g hr
  refine Code.wp_mono (Q := NQ fun a' w' => ∃ st' g', Q .normal st' ∧ Rel st' a' w' g' ∧ Fr pu g w g' w') (fun e a' w' hh => by obtain ⟨rfl, hh⟩ := hh; exact hh) ?_
  simp only [permSB, Bool.and_eq_true, decide_eq_true_eq] at hB
  obtain ⟨⟨⟨⟨⟨⟨⟨⟨⟨⟨⟨b1, b2⟩, b3⟩, b6⟩, b7⟩, b8⟩, b9⟩, b10⟩, b11⟩, b12⟩, b13⟩, b14⟩ := hB
  refine wp_region_any hm ?_
  simp only [Bool.and_eq_true, decide_eq_true_eq] at hb
  obtain ⟨hb1, hb2⟩ := hb
  obtain ⟨cs, hcs⟩ : ∃ cs, st.tmps[s0]? = some (.box cs) := by
    unfold boxAt at hb1
    split at hb1
    · exact ⟨_, by assumption⟩
    · cases hb1
  obtain ⟨r, c, T, hv, hg0, hcell, _⟩ := hr.drew.tmp s0 _ hcs
  have hms : ∀ i ∈ ms, i ∉ t0 :: ts := fun i hi => by have := List.all_eq_true.1 b9 i hi; simpa using this
  have inv : HInv .any ops hds t0 ts (markL ms (Array.replicate ops.size false)) := by
    refine ⟨by rw [markL_size]; simp, steadyB_closed ms _ _ b3 (fun j oj hj hl => by rw [getD_replicate_false] at hl; cases hl), fun t ht => ?_, fun i hi h1 h2 => ?_⟩
    · rw [markL_not ms _ t (fun h => hms t h ht)]
      have := List.all_eq_true.1 b12 t ht
      simp at this
      simp [this]
    · have := List.all_eq_true.1 b11 i (List.mem_range.2 hi)
      simp only [Bool.or_eq_true, List.contains_iff_mem] at this
      rcases this with (h3 | h3) | h3
      · exact absurd h3 h1
      · exact absurd h3 h2
      · exact markL_mem ms _ i h3 (by simpa using hi)
  have hl1 : (permML ops ms hds t0 ts).toList.take (ms.length + hds.length) = opsOf ops (ms ++ hds) := by simp only [permML]; rw [List.take_append_of_le_length (by omega), List.take_of_length_le (by omega)]
  have hl2 : (permML ops ms hds t0 ts).toList.drop (ms.length + hds.length) = opsOf ops (t0 :: ts) := by simp only [permML]; rw [← b13, List.drop_left']; rfl
  unfold OBk at h
  rw [List.drop_zero, hl1] at h
  have key := h a w.drew g hr.drew (fun a' => wpList P ops (NQ fun a' w' => ∃ st' g', Q .normal st' ∧ Rel st' a' w' g' ∧ Fr pu g w g' w') (opsOf ops (t0 :: ts)) a' w.drew) (fun st1 a1 g1 q1 r1 f1 => by
    refine wpList_ng (opsOf_ng b2 _) (ops' := permML ops ms hds t0 ts) ?_
    unfold OWk at q1
    rw [hl2] at q1
    exact q1 a1 w.drew g1 r1 _ fun st' a' w' g' q r f => ⟨rfl, st', g', q, r, (Fr.drew.trans (f1 pu)).trans f⟩)
  have key := wpStill_ng (ops := ops) (opsOf_ng b2 (ms ++ hds)) key
  have hsz : ops.size = ms.length + (hds.length + (ts.length + 1)) := b10
  rw [hsz]
  rw [hsz] at inv b14
  refine wpAny_steadies (n := n) b2 (Region.noSelect_spec b1) hcell ms _ [s0] a (by rw [← hsz]; exact b3) (fun p hp => ?_) (by rw [hr.len, hb2]) (fun a' ha' => ?_) key
  · rcases List.mem_cons.1 hp with rfl | hp
    · exact ⟨0, hv⟩
    · cases hp
  · refine wpAny_of_headH (hds := hds) (g := ts.length + 1) (fun listed' a' hL => ?_) hds.length _ _ (wpAnyH_lex b1 b6 b7 (fun i hi => by have := List.all_eq_true.1 b8 i hi; simpa using this) hds _ _ (fun _ h => h) inv b14 ha')
    exact wpAny_of_seqH (t0 :: ts) listed' a' _ hL.1 hL.2
end
end Go.Sh
namespace Go.Sh
section
variable {P : Program} {pu : Bool} {st : St} {ops : Array Oper}
theorem upon_NQ {o : Oper} {a : Act} {next : Act → World → Prop} {R R' : Act → World → Prop} {r : Result Next} (h : o.upon P a next (NQ R) r) : o.upon P a next (NQ R') r := by
  cases r with
  | ok n w' =>
    cases n <;> simp only [Oper.upon] at h ⊢ <;> first
      | exact h
      | (refine h.mono fun e w'' hh => ?_
         cases e with
         | returned v => exact hh
         | panicked ch => cases hh.1
         | outgrown => exact absurd hh NQ.out)
  | halt hh w' => cases hh <;> simp only [Oper.upon] at h ⊢ <;> first | exact h | cases h.1
/-- The operations of a set (by its number's bits). -/
def lstM (n m : Nat) : Array Bool := ((List.range n).map (fun i => m.testBit i)).toArray
theorem lstM_size (n m : Nat) : (lstM n m).size = n := by simp [lstM]
theorem lstM_set (n m i : Nat) : (lstM n m).setIfInBounds i true = lstM n (m ||| 2 ^ i) := by
  apply Array.ext_getElem?
  intro j
  simp only [lstM, Array.getElem?_setIfInBounds]
  grind
theorem lstM_zero (n : Nat) : lstM n 0 = Array.replicate n false := by
  apply Array.ext_getElem?
  intro j
  by_cases hj : j < n
  · simp [lstM, hj]
  · simp [lstM, hj]
/-- One operation alone. -/
def oneA (ops : Array Oper) (i : Nat) : Array Oper := match ops[i]? with
  | some o => #[o]
  | none => #[]
/-- From here (m: what is done; so many are left) every way ends in st'. -/
def OX (P : Program) (pu : Bool) (ops : Array Oper) (d m : Nat) (st st' : St) : Prop :=
  ∀ a w g, Rel st a w g → ∀ R : Act → World → Prop, (∀ a' w' g', Rel st' a' w' g' → Fr pu g w g' w' → R a' w') → wpAny P .any ops (NQ R) d (lstM ops.size m) a w
def AllI : List Nat → (Nat → Prop) → Prop
  | [], _ => True
  | i :: r, p => p i ∧ AllI r p
theorem AllI_mem {p : Nat → Prop} : ∀ {l : List Nat}, AllI l p → ∀ i ∈ l, p i
  | i :: r, h, j, hj => by
    rcases List.mem_cons.1 hj with rfl | hj
    · exact h.1
    · exact AllI_mem h.2 j hj
theorem OX.fin (h : Region.ready .any ops (lstM ops.size m) = []) : OX P pu ops 0 m st st :=
  fun a w g hr R hR => ⟨h, rfl, hR a w g hr (Fr.refl _ _ _)⟩
theorem OX.step (hg : ops.all (fun o => o.guard.isNone) = true) (h : Region.ready .any ops (lstM ops.size m) = i0 :: is)
    (hs : AllI (i0 :: is) (fun i => OWk P pu (oneA ops i) 0 st (fun s => OX P pu ops d (m ||| 2 ^ i) s st'))) : OX P pu ops (d + 1) m st st' := by
  intro a w g hr R hR
  unfold wpAny
  rw [h]
  refine ⟨fun e => (List.cons_ne_nil _ _ e).elim, fun i hi => ?_⟩
  have hi' : i ∈ Region.ready .any ops (lstM ops.size m) := by rw [h]; exact hi
  obtain ⟨_, o, ho, _⟩ := mem_ready.1 hi'
  have h1 := AllI_mem hs i hi
  have hog : o.guard = none := opsOf_ng hg [i] o (by simp [opsOf, ho])
  simp only [oneA, ho] at h1
  unfold OWk at h1
  rw [List.drop_zero] at h1
  have h2 := h1 a w g hr (NQ (wpAny P .any ops (NQ R) d (lstM ops.size (m ||| 2 ^ i)))) (fun st1 a1 w1 g1 q1 r1 f1 => ⟨rfl, q1 a1 w1 g1 r1 R fun a' w' g' r2 f2 => hR a' w' g' r2 (f1.trans f2)⟩)
  unfold wpOp
  rw [ho]
  simp only
  rw [if_pos (wanted_ng hog _)]
  unfold wpList at h2
  rw [if_pos (wanted_ng hog _)] at h2
  rcases h2 with h2 | h2
  · left
    rw [lstM_set]
    have h3 := Oper.wp_mono (K' := wpAny P .any ops (NQ R) d (lstM ops.size (m ||| 2 ^ i))) (fun a' w' hh => (show NQ (wpAny P .any ops (NQ R) d (lstM ops.size (m ||| 2 ^ i))) .normal a' w' from hh).2) h2
    exact upon_NQ h3
  · exact absurd h2.2 NQ.out
theorem SW.regionX {id : Nat} {l : List Oper} {Q : Exit → St → Prop} {st' : St} (hm : P.follows .mixedOrders = true) (h : OX P pu l.toArray l.length 0 st st') (hq : Q .normal st') : SW P pu (.region id l.toArray true) st Q := by
  intro a w g hr
  refine Code.wp_mono (Q := NQ fun a' w' => ∃ st' g', Q .normal st' ∧ Rel st' a' w' g' ∧ Fr pu g w g' w') (fun e a' w' hh => by obtain ⟨rfl, hh⟩ := hh; exact hh) ?_
  refine wp_region_any hm ?_
  have := h a w.drew g hr.drew (fun a' w' => ∃ st' g', Q .normal st' ∧ Rel st' a' w' g' ∧ Fr pu g w g' w') (fun a' w' g' r f => ⟨st', g', hq, r, Fr.drew.trans f⟩)
  rw [lstM_zero] at this
  simpa using this
end
end Go.Sh
namespace Go.Sh
theorem SW.regX {P : Program} {pu : Bool} {st : St} {id : Nat} {l : List Oper} {Q : Exit → St → Prop} (n : Nat) (H : List SObj) (ll : List (Nat × SV)) (hm : P.follows .mixedOrders = true)
    (h : ∀ X : Nat → Nat → St → Prop, (X = fun d m s => OX P pu l.toArray d m s (sp n ll H)) → X l.length 0 st) (hq : Q .normal (sp n ll H)) : SW P pu (.region id l.toArray true) st Q :=
  SW.regionX hm (h _ rfl) hq
end Go.Sh
namespace Go.Sh
section
variable {P : Program} {pu : Bool} {st : St} {ops : Array Oper} {Q : St → Prop} {k : Nat}
theorem OpS.boxF (hop : o.op = .box T x) (hd : o.dst = some d) (hy : valD st x = some y) : OpS P pu st o (st.put (some d) (.d (.dptr y.cells))) := by
  refine OpS.value fun a w g hr => ?_
  have e2 := valD_d hr hy
  obtain ⟨c1, c2⟩ := e2.cells
  rw [hd]
  have hr1 : Rel st a (w.alloc (.cells (a.eval x).cells T)) (g.upd w.heap.size .free) := hr.world (fun _ => Keep.alloc) (fun _ _ h => h) rfl
  have hrd : Rd (g.upd w.heap.size .free) (w.alloc (.cells (a.eval x).cells T)) (.pointer (some ⟨w.heap.size, 0, none⟩)) (.dptr y.cells) := by
    refine .dptr (fun j => (a.eval x).cells.getD j undef) (by simp) (heap_alloc _ _) (fun j z hj => ?_) (fun j z hj => ?_)
    · obtain ⟨u, u1, u2, u3⟩ := c2 j z hj
      simp_all
    · obtain ⟨u, u1, u2, u3⟩ := c2 j z hj
      simp only [Array.getD_eq_getD_getElem?, u1, Option.getD_some]
      exact Rd.keep Keep.alloc (fun _ _ h => h) u2
  refine ⟨.pointer (some ⟨w.heap.size, 0, none⟩), w.alloc (.cells (a.eval x).cells T), _, ?_, hr1.putLight (some d) hrd, Fr.alloc⟩
  unfold execOp; rw [hop]
  simp only [Instr.box, Sem.run_bind, newVar, newRow, run_newObj, Result.andThen_ok, Sem.run_pure]
  rfl
def bxAt (ops : Array Oper) (k : Nat) (st : St) : Option (Nat × List D) :=
  match ops[k]? with
  | some o => match o.op, o.dst with
    | .box _ x, some d => match valD st x with
      | some y => if wantS ops st o = some true then some (d, y.cells) else none
      | none => none
    | _, _ => none
  | none => none
theorem OWk.bxf (n : Nat) (H : List SObj) (L : List Nat) (l : List (Nat × SV)) (h : bxAt ops k st = some (d, ds)) (hst : pickR n L (st.put (some d) (.d (.dptr ds))) = some (l, H))
    (hn : OWk P pu ops (k + 1) (sp n l H) Q) : OWk P pu ops k st Q := by
  unfold bxAt at h
  split at h
  · rename_i o ho
    split at h
    · rename_i T x d' hop hd
      split at h
      · rename_i y hy
        split at h
        · rename_i hw
          cases h
          exact OWk.e ho hw (OpS.boxF hop hd hy) (OWk.keep L (keepR_of_pick hst) hn)
        · cases h
      · cases h
    · cases h
  · cases h
end
end Go.Sh
namespace Go.Sh
open Go.Sort
theorem IC.of_sort {α : Type} [Inhabited α] {P : Program} (enc : α → Value) (encD : α → D) (hcell : ∀ x, (encD x).cells = [encD x]) (hinv : ∀ g w v x, Rd g w v (encD x) → v = enc x) (hrd : ∀ g w x, Rd g w (enc x) (encD x))
    (h1c : ∀ x, (enc x).oneCell' = true) (srt : List α → List α) (hlen : ∀ l, (srt l).length = l.length)
    (hsort : ∀ (blk off cap : Nat) (zs : List α) (w : World), Holds enc w blk off zs.toArray → blk < w.heap.size → zs.length < 4611686018427387904 →
      Calls P f #[.slice (some ⟨blk, off, none⟩) zs.length cap] w fun e w' => e = .returned (.tuple #[]) ∧ ∃ n os, w' = grow (putRow enc (Sort.ahead w n) blk off (srt zs).toArray) os)
    (hnone : ∀ (p : Option Addr) (cap : Nat) (w : World), Calls P f #[.slice p 0 cap] w fun e w' => e = .returned (.tuple #[]) ∧ w' = w)
    {zs : List α} (hz : zs.length < 4611686018427387904) : IC P f 1 (zs.map encD) ((srt zs).map encD) := by
  intro H w g v hO hH
  rcases hO with ⟨h0, a, rfl⟩ | ⟨k, off, cap, c, T, us, rfl, hk, hb, hl, hsz, hn, hc, hr⟩
  · have e0 : zs = [] := by simpa using h0
    subst e0
    have e1 : srt [] = [] := List.length_eq_zero_iff.1 (by rw [hlen]; rfl)
    rw [e1]
    refine (hnone a 0 w).mono fun e w' hh => ?_
    obtain ⟨rfl, rfl⟩ := hh
    exact ⟨rfl, g, .inl ⟨rfl, a, rfl⟩, hH, Fr.refl _ _ _⟩
  · have hkl : k < w.heap.size := (Array.getElem?_eq_some_iff.1 hb).1
    have hget : ∀ j (hj : j < zs.length), c[off + j]? = some (enc zs[j]) := fun j hj => by
      have hx : (zs.map encD)[j]? = some (encD zs[j]) := by simp [hj]
      have hy : (encD zs[j]).cells[0]? = some (encD zs[j]) := by rw [hcell]; rfl
      have h1 := hc j _ hx 0 _ hy
      have h2 := hinv _ _ _ _ (hr j _ hx 0 _ hy)
      simp only [Nat.mul_one, Nat.add_zero] at h1
      rw [h1.1, h2]
    have hH0 : Holds enc w k off zs.toArray := fun j hj => by
      simp only [List.size_toArray] at hj
      refine ⟨?_, by simp [World.frozen?, hb]⟩
      have : zs.toArray[j]! = zs[j] := by simp [hj]
      rw [this, cell_blk hb]
      exact hget j hj
    have hlz : (zs.map encD).length = zs.length := by simp
    rw [hlz]
    refine (hsort k off cap zs w hH0 hkl hz).mono fun e w' hh => ?_
    obtain ⟨rfl, n, os, rfl⟩ := hh
    -- the heap behind
    have hother : ∀ b, b ≠ k → b < w.heap.size → (grow (putRow enc (Sort.ahead w n) k off (srt zs).toArray) os).heap[b]? = w.heap[b]? := fun b hne hlt => by
      rw [heap_grow_old _ _ (by simpa using hlt)]
      show ((Sort.ahead w n).heap.modify k _)[b]? = _
      rw [Array.getElem?_modify, if_neg (Ne.symm hne)]; rfl
    have hself : (grow (putRow enc (Sort.ahead w n) k off (srt zs).toArray) os).heap[k]? = some (.cells (putCells enc off (srt zs).toArray c) T (0, 0)) := by
      rw [heap_grow_old _ _ (by simpa using hkl)]
      show ((Sort.ahead w n).heap.modify k _)[k]? = _
      rw [Array.getElem?_modify, if_pos rfl, heap_ahead, hb]; rfl
    have keep : ∀ o, o ≠ .lst (.slot 0) → Keep o g w g (grow (putRow enc (Sort.ahead w n) k off (srt zs).toArray) os) := fun o ho b ob h1 h2 => by
      refine ⟨h1, ?_⟩
      have hne : b ≠ k := fun e => by subst e; rw [hk] at h1; exact ho h1.symm
      rw [hother b hne (Array.getElem?_eq_some_iff.1 h2).1]; exact h2
    refine ⟨rfl, g, .inr ⟨k, off, cap, _, T, fun i j => (putCells enc off (srt zs).toArray c).getD (off + i) undef, ?_, hk, hself, ?_, ?_, ?_, ?_, ?_⟩, ?_, ?_⟩
    · simp [hlen]
    · simpa [hlen] using hl
    · simpa [putCells] using hsz
    · intro i x hx
      simp only [List.getElem?_map, Option.map_eq_some_iff] at hx
      obtain ⟨y, _, rfl⟩ := hx
      rw [hcell]; rfl
    · intro i x hx j y hy
      obtain ⟨z, hz', rfl⟩ : ∃ z, (srt zs)[i]? = some z ∧ encD z = x := by simpa using hx
      rw [hcell] at hy
      have hj : j = 0 := by
        cases j with
        | zero => rfl
        | succ j => simp at hy
      subst hj
      have hi : i < zs.length := by rw [← hlen zs]; exact (List.getElem?_eq_some_iff.1 hz').1
      have hlt : off + i < c.size := by
        have := hl
        simp only [List.length_map] at this
        omega
      have hv : (putCells enc off (srt zs).toArray c)[off + i]? = some (enc z) := by
        unfold putCells
        rw [Array.getElem?_mapIdx, Array.getElem?_eq_getElem hlt, Option.map_some]
        have hi2 : i < (srt zs).length := by rw [hlen]; exact hi
        rw [if_pos ⟨by omega, by simpa using hi2⟩]
        have e3 : (srt zs)[i] = z := (List.getElem?_eq_some_iff.1 hz').2
        simp [hi2, e3]
      simp only [Nat.mul_one, Nat.add_zero, hv, Array.getD_eq_getD_getElem?, Option.getD_some]
      exact ⟨trivial, h1c z⟩
    · intro i x hx j y hy
      obtain ⟨z, hz', rfl⟩ : ∃ z, (srt zs)[i]? = some z ∧ encD z = x := by simpa using hx
      rw [hcell] at hy
      have hj : j = 0 ∧ y = encD z := by
        cases j with
        | zero => simp at hy; exact ⟨rfl, hy.symm⟩
        | succ j => simp at hy
      obtain ⟨rfl, rfl⟩ := hj
      have hi : i < zs.length := by rw [← hlen zs]; exact (List.getElem?_eq_some_iff.1 hz').1
      have hlt : off + i < c.size := by
        have := hl
        simp only [List.length_map] at this
        omega
      have hv : (putCells enc off (srt zs).toArray c)[off + i]? = some (enc z) := by
        unfold putCells
        rw [Array.getElem?_mapIdx, Array.getElem?_eq_getElem hlt, Option.map_some]
        have hi2 : i < (srt zs).length := by rw [hlen]; exact hi
        rw [if_pos ⟨by omega, by simpa using hi2⟩]
        have e3 : (srt zs)[i] = z := (List.getElem?_eq_some_iff.1 hz').2
        simp [hi2, e3]
      simp only [hv, Array.getD_eq_getD_getElem?, Option.getD_some]
      exact hrd _ _ _
    · exact hH.keep (fun o ho => keep o fun e => by subst e; cases ho) (fun _ _ h => h) rfl
    · exact ⟨by simp, keep _ (by simp), keep _ (by simp), fun _ _ h => h, fun _ i => keep _ (by simp), fun _ i j => keep _ (by simp), fun _ => rfl, ⟨rfl, rfl⟩⟩
def sortI (fuel : Nat) (p0 : List Int) : Option (List Int) := if p0.length < 4611686018427387904 then some (p0.mergeSort fun x y => decide (x ≤ y)) else none
def sortS (fuel : Nat) (p0 : List (List UInt8)) : Option (List (List UInt8)) := if p0.length < 4611686018427387904 then some (p0.mergeSort fun x y => decide (x ≤ y)) else none
end Go.Sh
namespace Go.Sh
section
variable {P : Program} {pu : Bool} {st : St}
/-- A region that draws its order: moves that nothing else minds go first; then all that may have been done. -/
theorem SW.regXM {id : Nat} {l : List Oper} {Q : Exit → St → Prop} (n : Nat) (H : List SObj) (ll : List (Nat × SV)) (ms : List Nat) (d M : Nat) (hm : P.follows .mixedOrders = true)
    (hB : (Region.noSelect l.toArray && l.toArray.all (fun o => o.guard.isNone) && movesB l.toArray ms (Array.replicate l.toArray.size false) && decide (l.toArray.size = ms.length + d) && decide ((opsOf l.toArray ms).length = ms.length)) = true)
    (hM : markL ms (Array.replicate l.toArray.size false) = lstM l.toArray.size M)
    (h : ∀ X : Nat → Nat → St → Prop, (X = fun d m s => OX P pu l.toArray d m s (sp n ll H)) → OBk P (opsOf l.toArray ms).toArray ms.length 0 st (fun st1 => X d M st1)) (hq : Q .normal (sp n ll H)) : SW P pu (.region id l.toArray true) st Q := by
  have h := h _ rfl
  generalize hops : l.toArray = ops at *
  simp only [Bool.and_eq_true, decide_eq_true_eq] at hB
  obtain ⟨⟨⟨⟨b1, b2⟩, b3⟩, b4⟩, b5⟩ := hB
  intro a w g hr
  refine Code.wp_mono (Q := NQ fun a' w' => ∃ st' g', Q .normal st' ∧ Rel st' a' w' g' ∧ Fr pu g w g' w') (fun e a' w' hh => by obtain ⟨rfl, hh⟩ := hh; exact hh) ?_
  refine wp_region_any hm ?_
  have hl1 : (opsOf ops ms).toArray.toList.take ms.length = opsOf ops ms := by simp [← b5]
  unfold OBk at h
  rw [List.drop_zero, hl1] at h
  have key := h a w.drew g hr.drew (fun a' => wpAny P .any ops (NQ fun a' w' => ∃ st' g', Q .normal st' ∧ Rel st' a' w' g' ∧ Fr pu g w g' w') d (lstM ops.size M) a' w.drew) (fun st1 a1 g1 q1 r1 f1 =>
    q1 a1 w.drew g1 r1 _ fun a' w' g' r f => ⟨sp n ll H, g', hq, r, (Fr.drew.trans (f1 pu)).trans f⟩)
  have key := wpStill_ng (ops := ops) (opsOf_ng b2 ms) key
  rw [b4]
  rw [b4] at hM key
  refine wpAny_moves b2 (Region.noSelect_spec b1) (hds := []) (Q := fun a' => wpAny P .any ops (NQ fun a' w' => ∃ st' g', Q .normal st' ∧ Rel st' a' w' g' ∧ Fr pu g w g' w') d (lstM (ms.length + d) M) a' w.drew) ms _ a (by rw [← b4]; exact b3) (fun a' ha' => ?_) (by rw [List.append_nil]; exact key)
  rw [hM]
  exact ha'
end
end Go.Sh
namespace Go.Sh
section
variable {P : Program} {ops : Array Oper} {md : Region.Mode} {R : Act → World → Prop} {pu : Bool} {st : St}
/-- Where it answers, it answers so in every world, and leaves the world. -/
def Blind (P : Program) {α : Type} (m : Sem α) : Prop := ∀ w x w', m.run P w = .ok x w' → w' = w ∧ ∀ w2, m.run P w2 = .ok x w2
theorem Blind.pure {α : Type} (x : α) : Blind P (Pure.pure x : Sem α) := fun w y w' h => by
  simp_all
theorem Blind.never {α : Type} {m : Sem α} (h : ∀ w x w', m.run P w ≠ .ok x w') : Blind P m := fun w x w' h1 => absurd h1 (h w x w')
theorem Blind.halt {α : Type} (hh : Halt) : Blind P (Sem.halt hh : Sem α) := .never fun w x w' h => by simp [Sem.run] at h
theorem Blind.bind {α β : Type} {m : Sem α} {f : α → Sem β} (h1 : Blind P m) (h2 : ∀ x, Blind P (f x)) : Blind P (m >>= f) := fun w x w' h => by
  rw [Sem.run_bind] at h
  cases hm : m.run P w with
  | ok y w1 =>
    rw [hm, Result.andThen_ok] at h
    obtain ⟨rfl, a2⟩ := h1 w y w1 hm
    obtain ⟨b1, b2⟩ := h2 y _ x w' h
    simp_all
  | halt y w1 => rw [hm] at h; cases h
theorem Blind.program : Blind P Go.program := fun w x w' h => by
  simp_all
theorem Blind.typeInfo (t : TypeId) : Blind P (Go.typeInfo t) := by
  unfold Go.typeInfo
  refine Blind.program.bind fun p => ?_
  split
  · exact .pure _
  · exact .halt _
theorem Blind.underlying (t : TypeId) : Blind P (Go.underlying t) := by
  unfold Go.underlying
  refine Blind.program.bind fun p => ?_
  split
  · exact .pure _
  · exact .halt _
theorem Blind.sizeOf (t : TypeId) : Blind P (Go.sizeOf t) := (Blind.typeInfo t).bind fun _ => .pure _
theorem nilDeref_never {α : Type} : ∀ w (x : α) w', (runtimePanic .nilDeref : Sem α).run P w ≠ .ok x w' := fun w x w' h => by
  unfold runtimePanic at h
  simp_all
theorem bounds_never {α : Type} (x y : Int) (s : Bool) (c : BoundsCode) : ∀ w (z : α) w', (runtimePanic (.bounds x y s c) : Sem α).run P w ≠ .ok z w' := fun w z w' h => by
  unfold runtimePanic at h
  simp_all
theorem Blind.nilDeref {α : Type} : Blind P (runtimePanic .nilDeref : Sem α) := .never nilDeref_never
theorem never_bind {α β : Type} {m : Sem α} {f : α → Sem β} (h : ∀ y w x w', (f y).run P w ≠ .ok x w') : ∀ w x w', (m >>= f).run P w ≠ .ok x w' := fun w x w' h1 => by
  rw [Sem.run_bind] at h1
  cases hm : m.run P w with
  | ok y w1 => simp_all
  | halt y w1 => rw [hm] at h1; cases h1
theorem Blind.bounds {α : Type} (k : IntKind) (x y : Int) (c : BoundsCode) : Blind P (boundsPanic k x y c : Sem α) := .never fun w z w' h => by
  unfold boundsPanic at h
  simp only at h
  split at h
  · exact never_bind (fun s => bounds_never _ _ _ _) _ _ _ h
  · exact never_bind (fun s => bounds_never _ _ _ _) _ _ _ h
theorem Blind.asIntOf (v : Value) : Blind P (Go.asIntOf v) := by
  unfold Go.asIntOf
  split
  · exact .pure _
  · exact .halt _
  · exact .halt _
theorem Blind.asAddr (v : Value) : Blind P (Go.asAddr v) := by
  unfold Go.asAddr
  split
  · exact .pure _
  · exact .nilDeref
  · exact .halt _
theorem Blind.sureAddr (v : Value) : Blind P (Instr.sureAddr v) := by
  unfold Instr.sureAddr
  split
  · exact .pure _
  · exact .halt _
theorem Blind.sliceBound (x : Value) (y : Nat) (c : BoundsCode) : Blind P (Instr.sliceBound x y c) := by
  unfold Instr.sliceBound
  refine (Blind.asIntOf x).bind fun p => ?_
  obtain ⟨k, i⟩ := p
  simp only
  split
  · exact .pure _
  · exact .bounds _ _ _ _
theorem Blind.sliceBounds (s : Bool) (len cap : Nat) (lo hi mx : Option Value) : Blind P (Instr.sliceBounds s len cap lo hi mx) := by
  unfold Instr.sliceBounds
  dsimp only
  repeat' first
    | exact .pure _
    | exact .halt _
    | exact .sliceBound _ _ _
    | refine Blind.bind ?_ fun _ => ?_
    | split
theorem Blind.slice (t : TypeId) (x : Value) (lo hi mx : Option Value) : Blind P (Instr.slice t x lo hi mx) := by
  unfold Instr.slice
  dsimp only
  repeat' first
    | exact .pure _
    | exact .halt _
    | exact .underlying _
    | exact .sizeOf _
    | exact .asAddr _
    | exact .sliceBounds _ _ _ _ _ _
    | refine Blind.bind ?_ fun _ => ?_
    | split
theorem Blind.sliceAt (t : TypeId) (x : Value) (lo hi mx : Option Value) : Blind P (Instr.sliceAt t x lo hi mx) := by
  unfold Instr.sliceAt
  dsimp only
  repeat' first
    | exact .pure _
    | exact .halt _
    | exact .underlying _
    | exact .sizeOf _
    | exact .sureAddr _
    | exact .slice _ _ _ _ _
    | exact .sliceBounds _ _ _ _ _ _
    | refine Blind.bind ?_ fun _ => ?_
    | split
theorem Blind.under (hd : P.underlying T = some d) {α : Type} {f : TypeDesc → Sem α} (h : Blind P (f d)) : Blind P (Go.underlying T >>= f) := fun w x w' h1 => by
  rw [Sem.run_bind, run_underlying hd, Result.andThen_ok] at h1
  obtain ⟨a, b⟩ := h w x w' h1
  exact ⟨a, fun w2 => by rw [Sem.run_bind, run_underlying hd, Result.andThen_ok]; exact b w2⟩
theorem Blind.fieldAt (h : fieldB P s f = true) (x : Value) : Blind P (Instr.fieldAt s x f) := by
  unfold fieldB at h
  split at h
  · rename_i fs hs
    split at h
    · rename_i fl hf
      cases hi : P.info? fl.type with
      | none => rw [hi] at h; cases h
      | some i =>
        rw [hi] at h
        simp only [Option.map_some, Option.getD_some, bne_iff_ne, ne_eq] at h
        have hti : ∀ w, (Go.typeInfo fl.type).run P w = .ok i w := fun w => by
          unfold Go.typeInfo Go.program
          simp [Sem.run_bind, Sem.run, hi]
        unfold Instr.fieldAt
        refine Blind.under hs ?_
        simp only [hf]
        refine (Blind.sureAddr x).bind fun a => Blind.bind ?_ fun _ => .pure _
        unfold fieldPlace
        intro w y w' h1
        simp only [Sem.run_bind, Go.sizeOf, hti, Result.andThen_ok, Sem.run_pure, h, if_false] at h1
        cases h1
        exact ⟨rfl, fun w2 => by simp only [Sem.run_bind, Go.sizeOf, hti, Result.andThen_ok, Sem.run_pure, h, if_false]⟩
    · cases h
  · cases h
theorem Blind.indexAt (t : TypeId) (x ix : Value) : Blind P (Instr.indexAt t x ix) := by
  unfold Instr.indexAt
  dsimp only
  repeat' first
    | exact .pure _
    | exact .halt _
    | exact .underlying _
    | exact .sizeOf _
    | exact .sureAddr _
    | exact .asIntOf _
    | exact .bounds _ _ _ _
    | refine Blind.bind ?_ fun _ => ?_
    | split
theorem Blind.part (t : TypeId) (cs : Array Value) (off : Nat) : Blind P (Go.part t cs off) := by
  unfold Go.part
  repeat' first
    | exact .pure _
    | exact .halt _
    | exact .typeInfo _
    | exact .underlying _
    | exact .sizeOf _
    | refine Blind.bind ?_ fun _ => ?_
    | split
theorem Blind.followBlind : ∀ (l : List FieldStep) (t : TypeId) (x : Option Value), Blind P (Go.followBlind l t x)
  | [], t, x => .pure _
  | s :: rest, t, x => by
    unfold Go.followBlind
    repeat' first
      | exact .pure _
      | exact .halt _
      | exact .underlying _
      | exact .part _ _ _
      | exact Blind.followBlind rest _ _
      | refine Blind.bind ?_ fun _ => ?_
      | split
theorem Blind.nilAhead : ∀ (n : Nat) (t : TypeId) (v : Value) (name : String), Blind P (Go.nilAhead n t v name)
  | 0, t, v, name => .pure _
  | n + 1, t, v, name => by
    unfold Go.nilAhead
    repeat' first
      | exact .pure _
      | exact .halt _
      | exact .typeInfo _
      | exact .underlying _
      | exact .followBlind _ _ _
      | exact Blind.nilAhead n _ _ _
      | refine Blind.bind ?_ fun _ => ?_
      | split
/-- Does it look at no memory? -/
def blindB (P : Program) (o : Oper) : Bool := match o.op with
  | .move _ | .slice _ _ _ _ _ | .indexAddr _ _ _ => true
  | .fieldAddr s _ f => fieldB P s f
  | .nilCheck _ => true
  | _ => false
theorem blindB_spec (h : blindB P o = true) (ρ : Operand → Value) : Blind P (execOp ρ o) := by
  unfold blindB at h
  unfold execOp
  split at h
  · rename_i x hop; rw [hop]; exact .pure _
  · rename_i T x lo hi mx hop; rw [hop]; exact (Blind.sliceAt _ _ _ _ _).bind fun _ => .pure _
  · rename_i T x i hop; rw [hop]; exact (Blind.indexAt _ _ _).bind fun _ => .pure _
  · rename_i s x f hop; rw [hop]; exact (Blind.fieldAt h _).bind fun _ => .pure _
  · rename_i x hop
    rw [hop]
    dsimp only
    repeat' first
      | exact .pure _
      | exact .nilDeref
      | exact .halt _
      | exact .program
      | exact .nilAhead _ _ _ _
      | refine Blind.bind ?_ fun _ => ?_
      | split
  · cases h
/-- In this act the operation answers v, in whatever world. -/
def PureAt (P : Program) (o : Oper) (a : Act) (v : Value) : Prop := ∀ w, (execOp a.eval o).run P w = .ok (.value v) w
theorem value_of (h : (do pure (.value (← m)) : Sem Next).run P w = .ok n w') : ∃ v, n = .value v := by
  rw [Sem.run_bind] at h
  cases hm : m.run P w with
  | ok y w1 => rw [hm, Result.andThen_ok, Sem.run_pure] at h; cases h; exact ⟨_, rfl⟩
  | halt y w1 => rw [hm] at h; cases h
def IsVal (m : Sem Next) : Prop := ∀ w n w', m.run P w = .ok n w' → ∃ v, n = .value v
theorem IsVal.pure (v : Value) : IsVal (P := P) (Pure.pure (Next.value v)) := fun w n w' h => by
  rw [Sem.run_pure] at h; cases h; exact ⟨_, rfl⟩
theorem IsVal.halt (x : Halt) : IsVal (P := P) (Sem.halt x : Sem Next) := fun w n w' h => by simp [Sem.run] at h
theorem IsVal.nilDeref : IsVal (P := P) (runtimePanic .nilDeref : Sem Next) := fun w n w' h => absurd h (nilDeref_never w n w')
theorem IsVal.bind {α : Type} {m : Sem α} {f : α → Sem Next} (h : ∀ x, IsVal (P := P) (f x)) : IsVal (P := P) (m >>= f) := fun w n w' h1 => by
  rw [Sem.run_bind] at h1
  cases hm : m.run P w with
  | ok y w1 => rw [hm, Result.andThen_ok] at h1; exact h y _ _ _ h1
  | halt y w1 => rw [hm] at h1; cases h1
theorem nilCheck_value {ρ : Operand → Value} (hop : o.op = .nilCheck x) : IsVal (P := P) (execOp ρ o) := by
  unfold execOp
  rw [hop]
  dsimp only
  repeat' first
    | exact IsVal.pure _
    | exact IsVal.nilDeref
    | exact IsVal.halt _
    | refine IsVal.bind fun _ => ?_
    | split
theorem blindB_value (h : blindB P o = true) {ρ : Operand → Value} (hr : (execOp ρ o).run P w = .ok n w') : ∃ v, n = .value v := by
  unfold blindB at h
  split at h
  · rename_i x hop; unfold execOp at hr; rw [hop] at hr; simp only [Sem.run_pure] at hr; cases hr; exact ⟨_, rfl⟩
  · rename_i T x lo hi mx hop; unfold execOp at hr; rw [hop] at hr; exact value_of hr
  · rename_i T x i hop; unfold execOp at hr; rw [hop] at hr; exact value_of hr
  · rename_i s x f hop; unfold execOp at hr; rw [hop] at hr; exact value_of hr
  · rename_i x hop; exact nilCheck_value hop _ _ _ hr
  · cases h
theorem blindB_sel (h : blindB P o = true) (cs : Array SelectCase) (b : Bool) : o.op ≠ .select cs b := fun e => by
  unfold blindB at h
  rw [e] at h
  cases h
theorem PureAt.put (hap : o.apart ops oj = true) (hs : ∀ cs b, o.op ≠ .select cs b) (h : PureAt P o a v) : PureAt P o (a.put oj.dst u) v := fun w => by
  rw [execOp_put (ops := ops) o hs a oj.dst u (Oper.apart_spec hap).2.2]
  exact h w
theorem PureAt.defers (h : PureAt P o a v) (ds : List Deferred) : PureAt P o { a with defers := ds } v := fun w => by
  have e : ({ a with defers := ds } : Act).eval = a.eval := funext (eval_defers a ds)
  rw [e]; exact h w
theorem wpOp_pure (hj : ops[j]? = some oj) (hb : blindB P oi = true) (hap : oi.apart ops oj = true) (hsj : ∀ cs b, oj.op ≠ .select cs b) {K : Act → World → Prop} 
    (hv : PureAt P oi a v) (h : wpOp P ops (NQ R) j K (a.put oi.dst v) w) : wpOp P ops (NQ R) j (fun a' w' => PureAt P oi a' v ∧ K (a'.put oi.dst v) w') a w := by
  obtain ⟨h1, h2, h3⟩ := Oper.apart_spec hap
  have keep : ∀ u, PureAt P oi (a.put oj.dst u) v := fun u => hv.put hap (blindB_sel hb)
  have keep' : ∀ u ds, PureAt P oi (({ a with defers := ds } : Act).put oj.dst u) v := fun u ds => (hv.defers ds).put hap (blindB_sel hb)
  unfold wpOp at *
  simp only [hj] at *
  rw [wanted_put oj a oi.dst v h1] at h
  split
  · rename_i hw
    simp only [hw, if_true] at h
    refine .inl ?_
    rcases h with h | h
    · unfold Oper.wp at *
      rw [execOp_put oj hsj a oi.dst v h1] at h
      generalize (execOp a.eval oj).run P w = r at *
      cases r with
      | ok n w' =>
        cases n <;> simp only [Oper.upon] at h ⊢
        case value u => exact ⟨keep u, by rw [← Act.put_comm a v u h2]; exact h⟩
        case skip => exact ⟨keep _, by rw [← Act.put_comm a v undef h2]; exact h⟩
        case defer d =>
          refine ⟨keep' _ _, ?_⟩
          rw [put_defers', defers_put] at h
          rw [← Act.put_comm _ v undef h2]; exact h
        case enter f args =>
          refine h.mono fun e w'' hh => ?_
          cases e with
          | returned u => exact ⟨keep u, by rw [← Act.put_comm a v u h2]; exact hh⟩
          | panicked chain => exact absurd hh.1 (by simp)
          | outgrown => exact absurd hh NQ.out
        case row row args => exact h.mono fun u w'' hh => ⟨keep u, by rw [← Act.put_comm a v u h2]; exact hh⟩
      | halt y w' =>
        cases y <;> simp only [Oper.upon] at h ⊢
        exact absurd h.1 (by simp)
    · exact absurd h.2 NQ.out
  · rename_i hw
    simp only [hw] at h
    exact ⟨keep _, by rw [← Act.put_comm a v undef h2]; exact h⟩
/-- **AN OPERATION THAT LOOKS AT NO MEMORY MAY BE TAKEN FIRST.** -/
theorem wpAny_pure (hi : ops[i]? = some oi) (hb : blindB P oi = true) (hg : oi.guard = none) (hsel : ∀ (j : Nat) (o : Oper) cs b, ops[j]? = some o → o.op ≠ .select cs b) :
    ∀ (fuel : Nat) (listed : Array Bool) (a : Act) (w : World), PureAt P oi a v →
      (∀ j oj, ops[j]? = some oj → j ≠ i → listed.getD j true = false → (∀ e ∈ oj.after, Region.binds md e = true → e.on ≠ i) → oi.apart ops oj = true) →
      i ∈ Region.ready md ops listed →
      wpAny P md ops (NQ R) fuel (listed.setIfInBounds i true) (a.put oi.dst v) w → wpAny P md ops (NQ R) (fuel + 1) listed a w := by
  have one : ∀ (K : Act → World → Prop) (a : Act) (w : World), PureAt P oi a v → K (a.put oi.dst v) w → wpOp P ops (NQ R) i K a w := fun K a w hv h => by
    unfold wpOp
    simp only [hi]
    have hw : Region.wanted oi (yielded ops a.tmps) = true := by unfold Region.wanted; rw [hg]
    rw [if_pos hw]
    refine .inl ?_
    unfold Oper.wp
    rw [hv w, Oper.upon_value]
    exact h
  intro fuel
  induction fuel with
  | zero =>
    intro listed a w hv _ hr H
    refine ⟨fun h => (by rw [h] at hr; cases hr), fun j hj => ?_⟩
    by_cases hji : j = i
    · subst hji; exact one _ a w hv H
    · have := ready_mono hj hji
      rw [H.1] at this
      cases this
  | succ fuel ih =>
    intro listed a w hv hfree hr H
    refine ⟨fun h => (by rw [h] at hr; cases hr), fun j hj => ?_⟩
    by_cases hji : j = i
    · subst hji; exact one _ a w hv H
    · have h1 := H.2 j (ready_mono hj hji)
      obtain ⟨hjun, oj, hoj, hall⟩ := mem_ready.1 hj
      have hnot : ∀ e ∈ oj.after, Region.binds md e = true → e.on ≠ i := fun e he hb heq => by
        have h1 := hall e he hb
        have h0 := (mem_ready.1 hr).1
        grind
      have h2 := wpOp_pure hoj hb (hfree j oj hoj hji hjun hnot) (fun cs b => hsel j oj cs b hoj) hv h1
      have hfree' : ∀ k ok, ops[k]? = some ok → k ≠ i → (listed.setIfInBounds j true).getD k true = false →
          (∀ e ∈ ok.after, Region.binds md e = true → e.on ≠ i) → oi.apart ops ok = true := fun k ok hk hki hun hno => by
        refine hfree k ok hk hki ?_ hno
        by_cases hjk : j = k
        · subst hjk; exact hjun
        simp_all
      refine wpOp_mono (fun a' w' h3 => ih (listed.setIfInBounds j true) a' w' h3.1 hfree' (ready_mono hr (Ne.symm hji)) ?_) h2
      rw [Array.setIfInBounds_comm _ _ hji]
      exact h3.2
def puresB (P : Program) (ops : Array Oper) : List Nat → Array Bool → Bool
  | [], _ => true
  | m :: ms, l => ((ops[m]?).map (blindB P)).getD false && (Region.ready .any ops l).contains m && Region.free .any ops l m && puresB P ops ms (l.setIfInBounds m true)
theorem wpAny_pures (hng : ops.all (fun o => o.guard.isNone) = true) (hsel : ∀ (j : Nat) (o : Oper) cs b, ops[j]? = some o → o.op ≠ .select cs b) {Q : Act → Prop} :
    ∀ (ms : List Nat) (l : Array Bool) (a : Act), puresB P ops ms l = true → (∀ a', Q a' → wpAny P .any ops (NQ R) fuel (markL ms l) a' w) →
      wpStill P ops w Q (opsOf ops ms) a → wpAny P .any ops (NQ R) (ms.length + fuel) l a w
  | [], l, a, _, hk, h => by simpa [markL] using hk a h
  | m :: ms, l, a, hb, hk, h => by
    simp only [puresB, Bool.and_eq_true] at hb
    obtain ⟨⟨⟨b1, b2⟩, b3⟩, b4⟩ := hb
    have hmr : m ∈ Region.ready .any ops l := by simpa using b2
    obtain ⟨hm0, om, hom, hmall⟩ := mem_ready.1 hmr
    rw [hom] at b1
    have b1 : blindB P om = true := by simpa using b1
    have hmg : om.guard = none := opsOf_ng hng [m] om (by simp [opsOf, hom])
    have hcons : opsOf ops (m :: ms) = om :: opsOf ops ms := by simp [opsOf, hom]
    rw [hcons] at h
    unfold wpStill at h
    rw [if_pos (wanted_ng hmg _)] at h
    unfold Oper.still at h
    cases hx : (execOp a.eval om).run P w with
    | halt y w1 => rw [hx] at h; exact h.elim
    | ok n w1 =>
      obtain ⟨v, rfl⟩ := blindB_value b1 hx
      obtain ⟨rfl, hall⟩ := blindB_spec b1 a.eval w _ w1 hx
      rw [hx, Oper.stillUpon_value] at h
      have := wpAny_pures hng hsel ms (l.setIfInBounds m true) _ b4 hk h
      have e : (m :: ms).length + fuel = (ms.length + fuel) + 1 := by simp; omega
      rw [e]
      exact wpAny_pure hom b1 hmg hsel _ _ a _ hall (Region.free_spec hom b3) hmr this
/-- A region that draws its order: what looks at no memory goes first; then all that may have been done. -/
theorem SW.regXP {id : Nat} {l : List Oper} {Q : Exit → St → Prop} (n : Nat) (H : List SObj) (ll : List (Nat × SV)) (ms : List Nat) (d M : Nat) (hm : P.follows .mixedOrders = true)
    (hB : (Region.noSelect l.toArray && l.toArray.all (fun o => o.guard.isNone) && puresB P l.toArray ms (Array.replicate l.toArray.size false) && decide (l.toArray.size = ms.length + d) && decide ((opsOf l.toArray ms).length = ms.length)) = true)
    (hM : markL ms (Array.replicate l.toArray.size false) = lstM l.toArray.size M)
    (h : ∀ X : Nat → Nat → St → Prop, (X = fun d m s => OX P pu l.toArray d m s (sp n ll H)) → OBk P (opsOf l.toArray ms).toArray ms.length 0 st (fun st1 => X d M st1)) (hq : Q .normal (sp n ll H)) : SW P pu (.region id l.toArray true) st Q := by
  have h := h _ rfl
  generalize hops : l.toArray = ops at *
  simp only [Bool.and_eq_true, decide_eq_true_eq] at hB
  obtain ⟨⟨⟨⟨b1, b2⟩, b3⟩, b4⟩, b5⟩ := hB
  intro a w g hr
  refine Code.wp_mono (Q := NQ fun a' w' => ∃ st' g', Q .normal st' ∧ Rel st' a' w' g' ∧ Fr pu g w g' w') (fun e a' w' hh => by obtain ⟨rfl, hh⟩ := hh; exact hh) ?_
  refine wp_region_any hm ?_
  have hl1 : (opsOf ops ms).toArray.toList.take ms.length = opsOf ops ms := by simp [← b5]
  unfold OBk at h
  rw [List.drop_zero, hl1] at h
  have key := h a w.drew g hr.drew (fun a' => wpAny P .any ops (NQ fun a' w' => ∃ st' g', Q .normal st' ∧ Rel st' a' w' g' ∧ Fr pu g w g' w') d (lstM ops.size M) a' w.drew) (fun st1 a1 g1 q1 r1 f1 =>
    q1 a1 w.drew g1 r1 _ fun a' w' g' r f => ⟨sp n ll H, g', hq, r, (Fr.drew.trans (f1 pu)).trans f⟩)
  have key := wpStill_ng (ops := ops) (opsOf_ng b2 ms) key
  rw [b4]
  rw [b4] at hM key
  refine wpAny_pures b2 (Region.noSelect_spec b1) (Q := fun a' => wpAny P .any ops (NQ fun a' w' => ∃ st' g', Q .normal st' ∧ Rel st' a' w' g' ∧ Fr pu g w g' w') d (lstM (ms.length + d) M) a' w.drew) ms _ a (by rw [← b4]; exact b3) (fun a' ha' => ?_) key
  rw [hM]
  exact ha'
end
end Go.Sh
namespace Go.Sh
def backH (t : Nat) : Own → Own
  | .free => .free
  | .obj i => .obj i
  | .lst (.hcell i j) => .lst (.hcell i j)
  | .lst (.slot 0) => .lst (.slot t)
  | .lst (.comp 0 j) => .lst (.comp t j)
  | _ => .lst .els
def sharedO : Own → Bool
  | .obj _ | .lst (.hcell _ _) => true
  | _ => false
def afterH (n t : Nat) (ow ow' : Nat → Own) (k : Nat) : Own := if k < n ∧ sharedO (ow k) = false then ow k else backH t (ow' k)
/-- Nothing that an object has lent. -/
def noHl : SV → Bool
  | .lent (.hcell _ _) _ _ | .lptr (.hcell _ _) _ => false
  | _ => true
section
variable {P : Program} {ops : Array Oper} {rest : List Oper} {st : St} {Q : St → Prop}
theorem keptH {g g' : Gh} {w w' : World} (hf : Fr false (g.ren (calleeOw [] [])) w g' w') {k : Nat} {b : Obj} (hb : w.heap[k]? = some b) (hs : sharedO (g.ow k) = false) :
    (g'.ow k = .free ∨ g'.ow k = .out) ∧ (g'.ow k = .free → g.ow k = .free) ∧ w'.heap[k]? = some b := by
  cases ho : g.ow k with
  | free =>
    have h1 : (g.ren (calleeOw [] [])).ow k = .free := by simp [Gh.ren, ho, calleeOw]
    obtain ⟨e1, e2⟩ := hf.free k b h1 hb
    grind
  | obj i => rw [ho] at hs; cases hs
  | out =>
    have h1 : (g.ren (calleeOw [] [])).ow k = .out := by simp [Gh.ren, ho, calleeOw]
    obtain ⟨e1, e2⟩ := hf.out k b h1 hb
    grind
  | box t =>
    have h1 : (g.ren (calleeOw [] [])).ow k = .out := by simp [Gh.ren, ho, calleeOw]
    obtain ⟨e1, e2⟩ := hf.out k b h1 hb
    grind
  | lst l =>
    have h1 : (g.ren (calleeOw [] [])).ow k = .out := by
      cases l <;> simp [Gh.ren, ho, calleeOw]
      rw [ho] at hs; cases hs
    obtain ⟨e1, e2⟩ := hf.out k b h1 hb
    grind
theorem keepH {g g' : Gh} {w w' : World} {t : Nat} (hf : Fr false (g.ren (calleeOw [] [])) w g' w') {o : Own} (ho : sharedO o = false) : Keep o g w ⟨afterH w.heap.size t g.ow g'.ow, g'.ρ⟩ w' := fun k b h1 h2 => by
  have hlt : k < w.heap.size := (Array.getElem?_eq_some_iff.1 h2).1
  refine ⟨?_, (keptH hf h2 (by rw [h1]; exact ho)).2.2⟩
  simp only [afterH]
  grind
theorem tagH {g g' : Gh} {w w' : World} {t : Nat} (hf : Fr false (g.ren (calleeOw [] [])) w g' w') {k : Nat} {o : Own} (ho : o ≠ .out) (hk : g'.ow k = o) (hfree : o = .free → backH t o = .free) :
    (⟨afterH w.heap.size t g.ow g'.ow, g'.ρ⟩ : Gh).ow k = backH t o := by
  simp only [afterH]
  split
  · rename_i h
    obtain ⟨b, hb⟩ : ∃ b, w.heap[k]? = some b := ⟨w.heap[k]'h.1, by simp [h.1]⟩
    obtain ⟨h1, h2, -⟩ := keptH hf hb h.2
    grind
  · rw [hk]
/-- **A CALL OF A FUNCTION THAT WORKS ON THE SHADOW HEAP.** -/
theorem OW.callH (hw : wantS ops st o = some true) (hop : o.op = .call c) (hc : callS P st [] c = some ⟨f0, args, [], []⟩) (hp : SC P false f0 args st.H r H')
    (hr : resD r = true) (hn : st.tmps.all noHl = true) (h : OW P false ops rest ⟨(st.put o.dst r).tmps, H'⟩ Q) : OW P false ops (o :: rest) st Q := by
  intro a w g hrel Qc hq
  unfold wpList
  rw [wantS_sound hrel hw, if_pos rfl]
  refine .inl ?_
  unfold callS at hc
  split at hc
  · rename_i f first caps hcallee
    · split at hc
      · rename_i ss ls gs hargs
        split at hc
        · rename_i hok
          cases hc
          rw [Bool.and_eq_true] at hok
          obtain ⟨hgive, hfn⟩ := hok
          have hgs := giveOk_spec hgive
          obtain ⟨vf, vc, hev, lf, lc, rf, rc⟩ := calleeS_sound hrel hcallee hfn
          obtain ⟨la, ra⟩ := argsS_sound hrel hgs hargs (fun _ h => h) (fun _ h => h)
          have hexec : (execOp a.eval o).run P w = .ok (.enter f0 (vf ++ c.args.map a.eval ++ vc)) w := by
            unfold execOp
            rw [hop]
            exact hev _ w
          unfold Oper.wp
          rw [hexec, Oper.upon_enter]
          have hRA : RArgs (g.ren (calleeOw [] [])) w (vf ++ c.args.map a.eval ++ vc) (first.map .d ++ ss ++ caps.map .d) := by
            have hla : (c.args.map a.eval).size = ss.length := by rw [← la]; simp
            have hla' : c.args.size = ss.length := by rw [← la]; simp
            refine ⟨by simp [lf, lc, ← la], fun j s hj => ?_⟩
            have kp : ∀ {v : Value} {d : D}, Rd g w v d → Rd (g.ren (calleeOw [] [])) w v d := fun hr => hr.keep (Keep.ren rfl) (fun _ _ h => h)
            by_cases j1 : j < first.length
            · rw [List.append_assoc, List.getElem?_append_left (by simpa using j1), List.getElem?_map] at hj
              simp only [Option.map_eq_some_iff] at hj
              obtain ⟨d, hd, rfl⟩ := hj
              obtain ⟨u, e1, e2⟩ := rf j d hd
              exact ⟨u, by grind, kp e2⟩
            · by_cases j2 : j < first.length + ss.length
              · grind
              · rw [List.getElem?_append_right (by simp; omega), List.getElem?_map] at hj
                simp only [Option.map_eq_some_iff, List.length_append, List.length_map] at hj
                obtain ⟨d, hd, rfl⟩ := hj
                obtain ⟨u, e1, e2⟩ := rc _ d hd
                refine ⟨u, ?_, kp e2⟩
                grind
          have hRH0 : RH (g.ren (calleeOw [] [])) w st.H := hrel.hp.keep (fun o' ho' => Keep.ren (by
            cases o' <;> simp only [usesH] at ho' <;> try rfl
            rename_i l
            cases l <;> simp only [usesH] at ho'
            rfl)) (fun _ _ h => h) rfl
          refine (hp w (g.ren (calleeOw [] [])) _ hRA hRH0).mono fun e w' hh => ?_
          obtain ⟨v, g', rfl, hres, hRH, hf⟩ := hh
          have hρ' : KeepR g ⟨afterH w.heap.size (o.dst.getD 0) g.ow g'.ow, g'.ρ⟩ := fun i k h => hf.rho i k h
          have hkp := fun o' ho' => keepH (t := o.dst.getD 0) hf (o := o') ho'
          have hfr : Fr false g w ⟨afterH w.heap.size (o.dst.getD 0) g.ow g'.ow, g'.ρ⟩ w' :=
            ⟨hf.size, hkp _ rfl, hkp _ rfl, hρ', (fun h => by cases h), (fun h => by cases h), (fun h => by cases h), hf.os⟩
          have h0 : Keep .free g' w' ⟨afterH w.heap.size (o.dst.getD 0) g.ow g'.ow, g'.ρ⟩ w' := fun k b h1 h2 => ⟨tagH hf (by simp) h1 (fun _ => rfl), h2⟩
          refine h (a.put o.dst v) w' _ ?_ Qc fun st2 a2 w2 g2 q2 r2 f2 => hq st2 a2 w2 g2 q2 r2 (hfr.trans f2)
          refine Rel.step hrel (by rw [put_size]; simp only [St.put_len]; exact hrel.len) (by rw [put_defers]; exact hrel.def0) hρ' (fun t s hs => ?_) ?_
          · by_cases hd : o.dst = some t
            · simp only at hs
              rw [hd] at hs ⊢
              obtain ⟨rfl, hlt⟩ := St.put_get_same hs
              refine .inr (.inl ?_)
              rw [valOf_put_same (by rw [hrel.len]; exact hlt)]
              simp only [Option.getD_some]
              rw [hd] at h0
              simp only [Option.getD_some] at h0
              have tag : ∀ l, (∀ i j, l ≠ .hcell i j) → ∀ k b, g'.ow k = .lst l → w'.heap[k]? = some b → (⟨afterH w.heap.size t g.ow g'.ow, g'.ρ⟩ : Gh).ow k = backH t (.lst l) := fun l hl k b hk _ => tagH hf (by simp) hk (by simp)
              cases hrr : s with
              | d x => rw [hrr] at hres; exact Rd.keep h0 (fun _ _ h => h) (hres : Rd g' w' v x)
              | own n xs =>
                rw [hrr] at hres
                exact (RC.back h0 (tag (.slot 0) (by simp)) (fun _ _ h => h) (hres : RC g' w' (.slot 0) v (.own n xs)) : RC _ _ (.slot t) v (.own n xs))
              | tup vs =>
                rw [hrr] at hres hr
                obtain ⟨us, e1, e2, e3⟩ := hres
                refine ⟨us, e1, e2, fun j s' hj => ?_⟩
                obtain ⟨u, f1, f2⟩ := e3 j s' hj
                exact ⟨u, f1, RC.back h0 (tag (.comp 0 j) (by simp)) (fun _ _ h => h) f2 (by rintro v0 n xs rfl; exact f2)⟩
              | _ => rw [hrr] at hr; simp [resD] at hr
            · simp only at hs
              have hput : s = .undef ∨ (st.tmps[t]? = some s ∧ ∀ t0 old, o.dst = some t0 → st.tmps[t0]? = some old → heavy old = true → mention t0 s = false) := by
                cases hdst : o.dst with
                | none => rw [hdst] at hs; exact .inr ⟨hs, by simp⟩
                | some t0 =>
                  rw [hdst] at hs hd
                  rcases St.put_get (fun e => hd (by rw [e])) hs with h | ⟨h1, h2⟩
                  · exact .inl h
                  grind
              rcases hput with rfl | ⟨hs3, hs2⟩
              · exact .inl rfl
              · have hnh : noHl s = true := List.all_eq_true.1 hn s (List.mem_iff_getElem?.2 ⟨t, hs3⟩)
                refine .inr (.inr ⟨hs3, valOf_put hd, fun o' ho' => hkp o' ?_, fun s0 e => ?_⟩)
                · cases o' with
                  | obj i =>
                    exfalso
                    cases s <;> simp [uses] at ho'
                  | lst l =>
                    cases l with
                    | hcell i j =>
                      exfalso
                      cases s <;> simp [uses] at ho'
                      · subst ho'; simp [noHl] at hnh
                      · subst ho'; simp [noHl] at hnh
                    | _ => rfl
                  | _ => rfl
                · obtain ⟨x0, hx0, hb0⟩ := dep_big (hrel.tmp t _ hs3) e
                  have hd0 : o.dst ≠ some s0 := fun e2 => by
                    have := hs2 s0 _ e2 hx0 (bigK_heavy hb0)
                    rw [dep_mention e] at this
                    cases this
                  exact ⟨valOf_put hd0, fun x hx hb => ⟨x, St.put_big hx hb hd0, rfl⟩⟩
          · refine RH.keep (g := g') (w := w') (fun o' ho' => ?_) (fun _ _ h => h) rfl hRH
            intro k b h1 h2
            refine ⟨?_, h2⟩
            cases o' with
            | free => exact tagH hf (by simp) h1 (fun _ => rfl)
            | obj i => exact tagH hf (by simp) h1 (fun h => by cases h)
            | lst l =>
              cases l <;> simp only [usesH] at ho'
              exact tagH hf (by simp) h1 (fun h => by cases h)
            | _ => exact ho'.elim
        · cases hc
      · cases hc
  · cases hc
end
end Go.Sh
namespace Go.Sh
/-- A function returns, or it panics with a value without fields; what the shadow heap then holds. -/
inductive Pn (α : Type) where
  | ok (a : α)
  | boom (t : TypeId) (H : List SObj)
def panV (t : TypeId) : List PanicEntry := [{ v := .iface t (.agg #[]), recovered := false }]
def SB (P : Program) (f : FuncId) (args : List SV) (H : List SObj) (o : Pn (SV × List SObj)) : Prop :=
  ∀ (w : World) (g : Gh) (vs : Array Value), RArgs g w vs args → RH g w H → Calls P f vs w fun e w' => match o with
    | .ok p => ∃ v g', e = .returned v ∧ RRes g' w' v p.1 ∧ RH g' w' p.2 ∧ Fr false g w g' w'
    | .boom t H' => e = .panicked (panV t) ∧ ∃ g', RH g' w' H' ∧ Fr false g w g' w'
theorem SB.sc {P : Program} (h : SB P f args H (.ok (r, H'))) : SC P false f args H r H' := h
/-- How its body ends. -/
def EndB (P : Program) (rs : List ResultVar) (o : Pn (SV × List SObj)) (e : Exit) (st : St) : Prop := match o with
  | .ok p => EndQ P rs p.2 p.1 e st
  | .boom t H' => e = .panic (panV t) ∧ st.H = H'
section
variable {P : Program} {ops : Array Oper} {st : St}
theorem SC.of_SWh (hf : P.funcs[f]? = some fn) (hb : fn.body = some c)
    (h : SW P false c (initSt fn.ntmps args H) (EndQ P fn.results.toList H' r)) : SC P false f args H r H' := by
  refine SC.of_SW hf hb ?_
  intro a w g hr
  refine Code.wp_mono (fun e a' w' hh => ?_) (h a w g hr)
  obtain ⟨st', g', ⟨he, l, h1, h2⟩, r1, f⟩ := hh
  exact ⟨st'.nils l, g', ⟨he, endV_ok h1, by rw [St.nils_H]; exact h2⟩, r1.nils, f⟩
theorem SB.of_SW (hf : P.funcs[f]? = some fn) (hb : fn.body = some c)
    (h : SW P false c (initSt fn.ntmps args H) (EndB P fn.results.toList o)) : SB P f args H o := by
  cases o with
  | ok p => obtain ⟨r, H'⟩ := p; exact SC.of_SWh hf hb h
  | boom t H' =>
    intro w g vs ha hH
    refine calls_of_wp hf hb (Code.wp_mono (fun e a' w' hh => ?_) (h _ _ g (Rel.init ha hH fn.ntmps)))
    obtain ⟨st', g', ⟨rfl, rfl⟩, hr, hfr⟩ := hh
    exact ⟨hr.def0, rfl, g', hr.hp, hfr⟩
theorem thenS_p {n : St → Prop} {Q : Exit → St → Prop} (h : Q (.panic ch) s) : thenS n Q (.panic ch) s := h
theorem blockS_p {id : Nat} {Q : Exit → St → Prop} {s : St} {ch : List PanicEntry} (h : Q (.panic ch) s) : blockS id Q (.panic ch) s := h
/-- The shadow's wp of a list of operations that may end by a panic. -/
def OT (P : Program) (ops : Array Oper) (l : List Oper) (st : St) (Q : Exit → St → Prop) : Prop :=
  ∀ a w g, Rel st a w g → wpList P ops (fun e a' w' => ∃ st' g', Q e st' ∧ Rel st' a' w' g' ∧ Fr false g w g' w') l a w
def OTk (P : Program) (ops : Array Oper) (k : Nat) (st : St) (Q : Exit → St → Prop) : Prop := OT P ops (ops.toList.drop k) st Q
theorem SW.regionOT {id : Nat} {Q : Exit → St → Prop} (h : OTk P ops 0 st Q) : SW P false (.region id ops false) st Q := fun a w g hr => wp_region_list (by
  have := h a w g hr
  rw [List.drop_zero] at this
  exact this)
theorem OTk.done {Q : Exit → St → Prop} (h : decide (ops.size ≤ k) = true) (hq : Q .normal st) : OTk P ops k st Q := by
  intro a w g hr
  rw [List.drop_of_length_le (by simpa using of_decide_eq_true h)]
  exact ⟨st, g, hq, hr, Fr.refl _ _ _⟩
theorem upon_out {o : Oper} {a : Act} {next : Act → World → Prop} {Q Q' : Exit → Act → World → Prop} (hp : ∀ ch a w, Q (.panic ch) a w → Q' (.panic ch) a w) (ho : LetsOut Q → LetsOut Q') {r : Result Next} (h : o.upon P a next Q r) : o.upon P a next Q' r := by
  cases r with
  | ok n w' =>
    cases n <;> simp only [Oper.upon] at h ⊢ <;> first
      | exact h
      | (refine h.mono fun e w'' hh => ?_
         grind)
  | halt hh w' => cases hh <;> simp only [Oper.upon] at h ⊢ <;> first | exact h | exact hp _ _ _ h
theorem wpList_app {Q : Exit → Act → World → Prop} (l2 : List Oper) : ∀ (l1 : List Oper) (a : Act) (w : World), wpList P ops (Exit.then (wpList P ops Q l2) Q) l1 a w → wpList P ops Q (l1 ++ l2) a w
  | [], a, w, h => h
  | o :: l1, a, w, h => by
    rw [List.cons_append]
    unfold wpList at h ⊢
    split
    · rename_i hw
      rw [if_pos hw] at h
      rcases h with h | h
      · left
        have h1 := Oper.wp_mono (K' := wpList P ops Q (l1 ++ l2)) (fun a' w' hh => wpList_app l2 l1 a' w' hh) h
        exact upon_out (fun ch a w h => h) (fun ⟨a0, w0, h⟩ => ⟨a0, w0, h⟩) h1
      · exact .inr ⟨h.1, let ⟨a0, w0, h2⟩ := h.2; ⟨a0, w0, h2⟩⟩
    · rename_i hw
      rw [if_neg hw] at h
      exact wpList_app l2 l1 _ w h
theorem wpList_ops {Q : Exit → Act → World → Prop} : ∀ (l : List Oper) (a : Act) (w : World), (∀ o ∈ l, ∀ j b, o.guard = some (j, b) → ops'[j]? = ops[j]?) → wpList P ops' Q l a w → wpList P ops Q l a w
  | [], a, w, _, h => h
  | o :: l, a, w, hg, h => by
    have e : Region.wanted o (yielded ops' a.tmps) = Region.wanted o (yielded ops a.tmps) := by
      unfold Region.wanted
      cases ho : o.guard with
      | none => rfl
      | some p =>
        obtain ⟨j, b⟩ := p
        simp only [yielded, hg o List.mem_cons_self j b ho]
    have hg' : ∀ o ∈ l, ∀ j b, o.guard = some (j, b) → ops'[j]? = ops[j]? := fun o ho => hg o (List.mem_cons_of_mem _ ho)
    unfold wpList at h ⊢
    rw [e] at h
    split
    · rename_i hw
      rw [if_pos hw] at h
      rcases h with h | h
      · exact .inl (Oper.wp_mono (fun a' w' hh => wpList_ops l a' w' hg' hh) h)
      · exact .inr h
    · rename_i hw
      rw [if_neg hw] at h
      exact wpList_ops l _ w hg' h
/-- The guards of these operations stand before m. -/
def guardsB (ops : Array Oper) (k m : Nat) : Bool := decide (k ≤ m) && decide (m ≤ ops.size) && ((ops.toList.take m).drop k).all fun o => match o.guard with | some (j, _) => decide (j < m) | none => true
/-- A part of the operations ends as it should. -/
theorem OTk.pre (m : Nat) {Q : Exit → St → Prop} (hg : guardsB ops k m = true) (h : OWk P false (ops.toList.take m).toArray k st (fun s => OTk P ops m s Q)) : OTk P ops k st Q := by
  intro a w g hr
  simp only [guardsB, Bool.and_eq_true, decide_eq_true_eq, List.all_eq_true] at hg
  obtain ⟨⟨h1, h2⟩, h3⟩ := hg
  have hsplit : ops.toList.drop k = (ops.toList.take m).drop k ++ ops.toList.drop m := by
    conv => lhs; rw [← List.take_append_drop m ops.toList]
    grind
  rw [hsplit]
  refine wpList_app _ _ a w (wpList_ops _ a w (fun o ho j b hj => ?_) ?_ (ops' := (ops.toList.take m).toArray))
  · grind
  · unfold OWk at h
    refine h a w g hr _ fun st' a' w' g' q r f => ?_
    have := q a' w' g' r
    show wpList P ops _ (ops.toList.drop m) a' w'
    refine wpList_mono' (fun e a2 w2 hh => ?_) this
    obtain ⟨st2, g2, q2, r2, f2⟩ := hh
    exact ⟨st2, g2, q2, r2, f.trans f2⟩
where
  wpList_mono' {ops : Array Oper} {Q Q' : Exit → Act → World → Prop} (hq : ∀ e a w, Q e a w → Q' e a w) : ∀ {l : List Oper} {a : Act} {w : World}, wpList P ops Q l a w → wpList P ops Q' l a w
    | [], a, w, h => hq _ _ _ h
    | o :: l, a, w, h => by
      unfold wpList at h ⊢
      split
      · rename_i hw
        rw [if_pos hw] at h
        rcases h with h | h
        · left
          have h1 := Oper.wp_mono (K' := wpList P ops Q' l) (fun a' w' hh => wpList_mono' hq hh) h
          exact upon_out (fun ch a w h => hq _ _ _ h) (fun ⟨a0, w0, h⟩ => ⟨a0, w0, hq _ _ _ h⟩) h1
        · exact .inr ⟨h.1, let ⟨a0, w0, h2⟩ := h.2; ⟨a0, w0, hq _ _ _ h2⟩⟩
      · rename_i hw
        rw [if_neg hw] at h
        exact wpList_mono' hq h
end
end Go.Sh
namespace Go.Sh
section
variable {P : Program} {ops : Array Oper} {k : Nat} {st : St}
theorem OWk.clH {Q : St → Prop} (n : Nat) (L : List Nat) (l : List (Nat × SV)) (hp : SC P false f args st.H r H')
    (h : callAt P ops k st [] = some (d, f, args, [], [])) (hr : (resD r && st.tmps.all noHl) = true) (hst : pickR n L ⟨(st.put d r).tmps, H'⟩ = some (l, H')) (hn : OWk P false ops (k + 1) (sp n l H') Q) : OWk P false ops k st Q := by
  unfold callAt at h
  split at h
  · rename_i o ho
    split at h
    · rename_i c hop
      split at h
      · rename_i cs hcs
        simp only [Option.some.injEq, Prod.mk.injEq] at h
        obtain ⟨rfl, rfl, rfl, e1, e2⟩ := h
        obtain ⟨h1, h2⟩ := opAt_inv ho
        rw [Bool.and_eq_true] at hr
        obtain ⟨f0, a0, l0, g0⟩ := cs
        cases e1; cases e2
        unfold OWk
        rw [drop_cons h1]
        exact OW.callH h2 hop hcs hp hr.1 hr.2 (OWk.keep L (keepR_of_pick hst) hn)
      · cases h
    · cases h
  · cases h
/-- The call's arguments, as the callee sees them. -/
theorem callH_pre {a : Act} (hrel : Rel st a w g) (hop : o.op = .call c) (hc : callS P st [] c = some ⟨f0, args, [], []⟩) :
    ∃ vs, (execOp a.eval o).run P w = .ok (.enter f0 vs) w ∧ RArgs (g.ren (calleeOw [] [])) w vs args ∧ RH (g.ren (calleeOw [] [])) w st.H := by
  unfold callS at hc
  split at hc
  · rename_i f first caps hcallee
    · split at hc
      · rename_i ss ls gs hargs
        split at hc
        · rename_i hok
          cases hc
          rw [Bool.and_eq_true] at hok
          obtain ⟨hgive, hfn⟩ := hok
          have hgs := giveOk_spec hgive
          obtain ⟨vf, vc, hev, lf, lc, rf, rc⟩ := calleeS_sound hrel hcallee hfn
          obtain ⟨la, ra⟩ := argsS_sound hrel hgs hargs (fun _ h => h) (fun _ h => h)
          refine ⟨vf ++ c.args.map a.eval ++ vc, ?_, ?_, ?_⟩
          · unfold execOp
            rw [hop]
            exact hev _ w
          · have hla : (c.args.map a.eval).size = ss.length := by rw [← la]; simp
            have hla' : c.args.size = ss.length := by rw [← la]; simp
            refine ⟨by simp [lf, lc, ← la], fun j s hj => ?_⟩
            have kp : ∀ {v : Value} {d : D}, Rd g w v d → Rd (g.ren (calleeOw [] [])) w v d := fun hr => hr.keep (Keep.ren rfl) (fun _ _ h => h)
            by_cases j1 : j < first.length
            · rw [List.append_assoc, List.getElem?_append_left (by simpa using j1), List.getElem?_map] at hj
              simp only [Option.map_eq_some_iff] at hj
              obtain ⟨d, hd, rfl⟩ := hj
              obtain ⟨u, e1, e2⟩ := rf j d hd
              exact ⟨u, by grind, kp e2⟩
            · by_cases j2 : j < first.length + ss.length
              · rw [List.getElem?_append_left (by simp; omega), List.getElem?_append_right (by simp; omega)] at hj
                grind
              · rw [List.getElem?_append_right (by simp; omega), List.getElem?_map] at hj
                simp only [Option.map_eq_some_iff, List.length_append, List.length_map] at hj
                obtain ⟨d, hd, rfl⟩ := hj
                obtain ⟨u, e1, e2⟩ := rc _ d hd
                refine ⟨u, ?_, kp e2⟩
                grind
          · exact hrel.hp.keep (fun o' ho' => Keep.ren (by
              cases o' <;> simp only [usesH] at ho' <;> try rfl
              rename_i l
              cases l <;> simp only [usesH] at ho'
              rfl)) (fun _ _ h => h) rfl
        · cases hc
      · cases hc
  · cases hc
theorem callH_post (t : Nat) (hf : Fr false (g.ren (calleeOw [] [])) w g' w') (hH : RH g' w' H') :
    Fr false g w ⟨afterH w.heap.size t g.ow g'.ow, g'.ρ⟩ w' ∧ RH ⟨afterH w.heap.size t g.ow g'.ow, g'.ρ⟩ w' H' := by
  have hkp := fun o' ho' => keepH (t := t) hf (o := o') ho'
  refine ⟨⟨hf.size, hkp _ rfl, hkp _ rfl, fun i k h => hf.rho i k h, (fun h => by cases h), (fun h => by cases h), (fun h => by cases h), hf.os⟩, ?_⟩
  refine RH.keep (g := g') (w := w') (fun o' ho' => ?_) (fun _ _ h => h) rfl hH
  intro k b h1 h2
  refine ⟨?_, h2⟩
  cases o' with
  | free => exact tagH hf (by simp) h1 (fun _ => rfl)
  | obj i => exact tagH hf (by simp) h1 (fun h => by cases h)
  | lst l =>
    cases l <;> simp only [usesH] at ho'
    exact tagH hf (by simp) h1 (fun h => by cases h)
  | _ => exact ho'.elim
/-- Nothing is held. -/
def none_ (n : Nat) (H : List SObj) : St := ⟨List.replicate n .undef, H⟩
theorem Rel.none {st : St} {a : Act} (h : Rel st a w g) (hH : RH g' w' H') (hρ : KeepR g g') : Rel (none_ st.tmps.length H') a w' g' := by
  refine Rel.step h (by simp [none_, h.len]) h.def0 hρ (fun t s hs => ?_) hH
  simp only [none_, List.getElem?_replicate] at hs
  split at hs
  · cases hs; exact .inl rfl
  · cases hs
/-- A call that panics. -/
theorem OTk.boom {Q : Exit → St → Prop} (n : Nat) (hp : SB P f args st.H (.boom t H'))
    (h : callAt P ops k st [] = some (d, f, args, [], [])) (hl : (st.tmps.length == n) = true) (hq : Q (.panic (panV t)) (none_ n H')) : OTk P ops k st Q := by
  unfold callAt at h
  split at h
  · rename_i o ho
    split at h
    · rename_i c hop
      split at h
      · rename_i cs hcs
        simp only [Option.some.injEq, Prod.mk.injEq] at h
        obtain ⟨rfl, rfl, rfl, e1, e2⟩ := h
        obtain ⟨h1, h2⟩ := opAt_inv ho
        obtain ⟨f0, a0, l0, g0⟩ := cs
        cases e1; cases e2
        intro a w g hrel
        rw [drop_cons h1]
        unfold wpList
        rw [wantS_sound hrel h2, if_pos rfl]
        refine .inl ?_
        obtain ⟨vs, hex, hRA, hRH⟩ := callH_pre hrel hop hcs
        unfold Oper.wp
        rw [hex, Oper.upon_enter]
        refine (hp w (g.ren (calleeOw [] [])) _ hRA hRH).mono fun e w' hh => ?_
        obtain ⟨rfl, g', hH', hf⟩ := hh
        obtain ⟨hfr, hH2⟩ := callH_post 0 hf hH'
        refine ⟨none_ n H', _, hq, ?_, hfr⟩
        have hl' : st.tmps.length = n := by simpa using hl
        rw [← hl']
        exact hrel.none hH2 (fun i k h => hf.rho i k h)
      · cases h
    · cases h
  · cases h
def panAt (P : Program) (ops : Array Oper) (k : Nat) (st : St) : Option TypeId :=
  match opAt ops k st with
  | some o => match o.op with
    | .panic x => match valD st x with
      | some (.iface t (.agg [])) => some t
      | _ => none
    | _ => none
  | none => none
theorem rd_iface0 (h : Rd g w v (.iface t (.agg []))) : v = .iface t (.agg #[]) := by
  cases h with
  | iface h =>
    cases h with
    | agg hl us hc hr =>
      rename_i cs
      have : cs = #[] := by
        apply Array.eq_empty_of_size_eq_zero
        simpa using hl
      rw [this]
theorem OTk.panic {Q : Exit → St → Prop} (n : Nat) (h : panAt P ops k st = some t) (hl : (st.tmps.length == n) = true) (hq : Q (.panic (panV t)) (none_ n st.H)) : OTk P ops k st Q := by
  unfold panAt at h
  split at h
  · rename_i o ho
    split at h
    · rename_i x hop
      split at h
      · rename_i t' hx
        cases h
        obtain ⟨h1, h2⟩ := opAt_inv ho
        intro a w g hrel
        rw [drop_cons h1]
        unfold wpList
        rw [wantS_sound hrel h2, if_pos rfl]
        refine .inl ?_
        have hv := rd_iface0 (valD_d hrel hx)
        unfold Oper.wp
        have hex : (execOp a.eval o).run P w = .halt (.panic (.iface t (.agg #[]))) w := by
          unfold execOp
          rw [hop]
          simp only [hv]
          rfl
        rw [hex]
        show ∃ st' g', _
        refine ⟨none_ n st.H, g, hq, ?_, Fr.refl _ _ _⟩
        have hl' : st.tmps.length = n := by simpa using hl
        rw [← hl']
        exact hrel.none hrel.hp (fun _ _ h => h)
      · cases h
    · cases h
  · cases h
end
/-! ## What printed functions say -/
def Pn.map {α β : Type} (f : α → β) : Pn α → Pn β
  | .ok a => .ok (f a)
  | .boom t H => .boom t H
def Pn.el {α β : Type} (f : α → β) (b : TypeId → Hp → β) : Pn α → β
  | .ok a => f a
  | .boom t H => b t H
theorem pn_ok {α β : Type} {f : α → β} {b : TypeId → Hp → β} {a : α} {r : β} (h : Pn.el f b (.ok a) = r) : f a = r := h
theorem pn_boom {α β : Type} {f : α → β} {b : TypeId → Hp → β} {H : Hp} {r : β} (h : Pn.el f b (.boom t H) = r) : b t H = r := h
/-- What a printed function's result says, as the contract has it. -/
def Pn.sv {α : Type} (e : α → SV) (o : Pn (α × Hp)) : Pn (SV × List SObj) := o.map fun p => (e p.1, p.2)
/-- It is left for good. -/
def AbR (e : Exit) : Prop := e = .ret ∨ ∃ ch, e = .panic ch
theorem thenS_ab {n : St → Prop} {Q : Exit → St → Prop} {e : Exit} {s : St} (ha : AbR e) (h : Q e s) : thenS n Q e s := by
  rcases ha with rfl | ⟨ch, rfl⟩ <;> exact h
theorem blockS_ab {id : Nat} {Q : Exit → St → Prop} {e : Exit} {s : St} (ha : AbR e) (h : Q e s) : blockS id Q e s := by
  rcases ha with rfl | ⟨ch, rfl⟩ <;> exact h
section
variable {P : Program} {rs : List ResultVar} {s : St} {α : Type} {e : α → SV} {a : α} {H : Hp}
theorem EndB.of (h : EndQ P rs H (e a) x s) : EndB P rs (Pn.sv e (.ok (a, H))) x s := h
theorem EndB.boom : EndB P rs (Pn.sv e (.boom t H)) (.panic (panV t)) (none_ n H) := ⟨rfl, rfl⟩
end
end Go.Sh
namespace Go.Sh
/-! ## Deferred calls under the walk -/
/-- The same with these deferred calls below. -/
def moreA (a : Act) (ds : List Deferred) : Act := { a with defers := a.defers ++ ds }
def MQ (ds : List Deferred) (Q : Exit → Act → World → Prop) : Exit → Act → World → Prop := fun e a w => ∃ a0, a = moreA a0 ds ∧ Q e a0 w
def MN (ds : List Deferred) (N : Act → World → Prop) : Act → World → Prop := fun a w => ∃ a0, a = moreA a0 ds ∧ N a0 w
theorem moreA_eval (a : Act) (ds : List Deferred) : (moreA a ds).eval = a.eval := by funext x; cases x <;> rfl
theorem moreA_put (a : Act) (ds : List Deferred) (d : Option Tmp) (v : Value) : (moreA a ds).put d v = moreA (a.put d v) ds := by cases d <;> rfl
theorem moreA_tmps (a : Act) (ds : List Deferred) : (moreA a ds).tmps = a.tmps := rfl
theorem MQ.out {ds : List Deferred} {Q : Exit → Act → World → Prop} (h : LetsOut Q) : LetsOut (MQ ds Q) := let ⟨a0, w0, h⟩ := h; ⟨moreA a0 ds, w0, a0, rfl, h⟩
section
variable {P : Program} {ops : Array Oper} {ds : List Deferred}
theorem upon_more {o : Oper} {a : Act} {N : Act → World → Prop} {Q : Exit → Act → World → Prop} {r : Result Next} (h : o.upon P a N Q r) : o.upon P (moreA a ds) (MN ds N) (MQ ds Q) r := by
  cases r with
  | ok n w' =>
    cases n <;> simp only [Oper.upon] at h ⊢ <;> first
      | exact h.elim
      | exact ⟨_, moreA_put _ _ _ _, h⟩
      | (refine h.mono fun e w'' hh => ?_
         cases e with
         | returned v => exact ⟨_, moreA_put _ _ _ _, hh⟩
         | panicked ch => exact ⟨_, rfl, hh⟩
         | outgrown => exact MQ.out hh)
      | (refine Rows.mono h fun v w'' hh => ⟨_, moreA_put _ _ _ _, hh⟩)
      | (refine ⟨_, ?_, h⟩; cases o.dst <;> rfl)
  | halt hh w' => cases hh <;> simp only [Oper.upon] at h ⊢ <;> first | exact ⟨_, rfl, h⟩ | exact h.elim
theorem wp_more {o : Oper} {a : Act} {w : World} {N : Act → World → Prop} {Q : Exit → Act → World → Prop} (h : o.wp P a w N Q) : o.wp P (moreA a ds) w (MN ds N) (MQ ds Q) := by
  unfold Oper.wp at h ⊢
  rw [moreA_eval]
  exact upon_more h
theorem asks_more {o : Oper} {a : Act} {w : World} (h : o.asks P a w) : o.asks P (moreA a ds) w := by
  unfold Oper.asks at h ⊢
  rw [moreA_eval]
  exact h
theorem wpList_more {Q : Exit → Act → World → Prop} : ∀ (l : List Oper) (a : Act) (w : World), wpList P ops Q l a w → wpList P ops (MQ ds Q) l (moreA a ds) w
  | [], a, w, h => ⟨a, rfl, h⟩
  | o :: l, a, w, h => by
    unfold wpList at h ⊢
    rw [moreA_tmps]
    split
    · rename_i hw
      rw [if_pos hw] at h
      rcases h with h | h
      · refine .inl (Oper.wp_mono (fun a1 w1 hh => ?_) (wp_more (ds := ds) h))
        obtain ⟨a0, rfl, h0⟩ := hh
        exact wpList_more l a0 w1 h0
      · exact .inr ⟨asks_more h.1, MQ.out h.2⟩
    · rename_i hw
      rw [if_neg hw] at h
      rw [moreA_put]
      exact wpList_more l _ w h
theorem wpAny_more {md : Region.Mode} {Q : Exit → Act → World → Prop} : ∀ (n : Nat) (ls : Array Bool) (a : Act) (w : World), wpAny P md ops Q n ls a w → wpAny P md ops (MQ ds Q) n ls (moreA a ds) w
  | 0, ls, a, w, h => ⟨h.1, a, rfl, h.2⟩
  | n + 1, ls, a, w, h => by
    unfold wpAny at h ⊢
    refine ⟨fun e => ⟨a, rfl, h.1 e⟩, fun i hi => ?_⟩
    have h1 := h.2 i hi
    unfold wpOp at h1 ⊢
    cases ho : ops[i]? with
    | none =>
      rw [ho] at h1
      exact wpAny_more n _ a w h1
    | some o =>
      rw [ho] at h1
      simp only at h1 ⊢
      rw [moreA_tmps]
      split
      · rename_i hw
        rw [if_pos hw] at h1
        rcases h1 with h1 | h1
        · refine .inl (Oper.wp_mono (fun a1 w1 hh => ?_) (wp_more (ds := ds) h1))
          obtain ⟨a0, rfl, h0⟩ := hh
          exact wpAny_more n _ a0 w1 h0
        · exact .inr ⟨asks_more h1.1, MQ.out h1.2⟩
      · rename_i hw
        rw [if_neg hw] at h1
        rw [moreA_put]
        exact wpAny_more n _ _ w h1
end
/-! ## The results, read at the end -/
theorem endRes {P : Program} (hr : Rel st' a' w' g') (he : endOk P fn.results.toList st' r) :
    ∃ v g2, (results fn a'.tmps).run P w' = .ok v w' ∧ RRes g2 w' v r ∧ RH g2 w' st'.H ∧ Fr pu g' w' g2 w' := by
  obtain ⟨xs, hx1, hx2, hx3, hx4⟩ := he
  obtain ⟨hl, hg⟩ := resVs_get hx1
  -- the values, one by one
  have one : ∀ j, j < xs.length → ∃ v, (∀ s t, xs[j]? = some (s, t) → RC (g'.ren (endOw xs)) w' (resLoc xs.length j) v s) ∧ ∀ rv, fn.results[j]? = some rv → (resSem a'.tmps rv).run P w' = .ok v w' := fun j hj => by
    obtain ⟨rv, e1, e2⟩ := hg j xs[j] (by simp [hj])
    obtain ⟨v, f1, f2⟩ := resV_sound (P := P) hr (s := xs[j].1) (t := xs[j].2) e2 (f := endOw xs) rfl (resLoc xs.length j)
      (fun t' ht' => by
        have := resTo_own hx2 (j := j) (s := xs[j].1) (t := t') (by grind)
        simp only [endOw, this])
      (fun s' hs' t' n ys hlent => by
        subst hs'
        unfold lentOk at hx3
        rw [List.all_eq_true] at hx3
        have := hx3 (.tmp s') (List.mem_iff_getElem?.2 ⟨j, e1⟩)
        simp only [hlent, Option.isNone_iff_eq_none] at this
        simp only [endOw, this])
    refine ⟨v, fun s t hst => ?_, fun rv' hrv' => ?_⟩
    · grind
    grind
  -- all of them
  have all : ∃ us : List Value, us.length = xs.length ∧ (∀ (j : Nat) (s : SV) (t : Option Nat), xs[j]? = some (s, t) → ∃ u, us[j]? = some u ∧ RC (g'.ren (endOw xs)) w' (resLoc xs.length j) u s) ∧
      ∀ (j : Nat) (rv : ResultVar), fn.results[j]? = some rv → ∃ v, us[j]? = some v ∧ (resSem a'.tmps rv).run P w' = .ok v w' := by
    have : ∃ F : Nat → Value, ∀ j, j < xs.length → (∀ s t, xs[j]? = some (s, t) → RC (g'.ren (endOw xs)) w' (resLoc xs.length j) (F j) s) ∧ ∀ rv, fn.results[j]? = some rv → (resSem a'.tmps rv).run P w' = .ok (F j) w' :=
      ⟨fun j => if hj : j < xs.length then Classical.choose (one j hj) else undef, fun j hj => by grind⟩
    obtain ⟨F, hF⟩ := this
    refine ⟨(List.range xs.length).map F, by simp, fun j s t hj => ⟨F j, by simp [get_lt hj], (hF j (get_lt hj)).1 s t hj⟩, fun j rv hj => ?_⟩
    grind
  obtain ⟨us, u1, u2, u3⟩ := all
  have hrun := results_run (P := P) (fn := fn) (tm := a'.tmps) (w := w') (vs := us) (by rw [u1, ← hl]; simp) u3
  have hfr' : Fr pu g' w' (g'.ren (endOw xs)) w' := ⟨Nat.le_refl _, Keep.ren rfl, Keep.ren rfl, fun _ _ h => h, fun _ i => Keep.ren rfl, fun _ i j => Keep.ren rfl, fun _ => rfl, ⟨rfl, rfl⟩⟩
  have hRH : RH (g'.ren (endOw xs)) w' st'.H := by
    refine RH.keep (g := g') (w := w') (fun o ho => ?_) (fun _ _ h => h) rfl hr.hp
    refine Keep.ren ?_
    cases o <;> simp only [usesH] at ho <;> try rfl
    rename_i l
    cases l <;> simp only [usesH] at ho
    rfl
  have hres : RRes (g'.ren (endOw xs)) w' (if h : us.toArray.size = 1 then us.toArray[0] else .tuple us.toArray) r := by
    rw [← hx4]
    match xs, u1, u2 with
    | [x], u1, u2 =>
      match us, u1 with
      | [u], _ =>
        obtain ⟨u', e1, e2⟩ := u2 0 x.1 x.2 (by simp)
        simp only [List.getElem?_cons_zero, Option.some.injEq] at e1
        subst e1
        simp only [List.size_toArray, List.length_cons, List.length_nil, Nat.zero_add, dite_true, resS]
        have e2 : RC (g'.ren (endOw [x])) w' (.slot 0) u x.1 := e2
        have : RRes (g'.ren (endOw [x])) w' u x.1 := by
          obtain ⟨s, t⟩ := x
          cases s <;> first | exact e2 | exact e2.elim
        simpa using this
    | [], u1, u2 =>
      match us, u1 with
      | [], _ => exact ⟨#[], by simp, rfl, by simp⟩
    | x :: y :: r', u1, u2 =>
      have hne : ¬ us.toArray.size = 1 := by simp [u1]
      rw [dif_neg hne]
      refine ⟨us.toArray, rfl, by simp [u1], fun j s hj => ?_⟩
      simp only [List.getElem?_map, Option.map_eq_some_iff] at hj
      obtain ⟨⟨s', t⟩, h1, h2⟩ := hj
      simp only at h2
      subst h2
      obtain ⟨u, e1, e2⟩ := u2 j s' t h1
      rw [show resLoc (x :: y :: r').length j = .comp 0 j by simp [resLoc]] at e2
      grind
  grind
end Go.Sh
namespace Go.Sh
section
variable {P : Program} {ops : Array Oper} {ds : List Deferred} {st : St} {k : Nat} {Q : Exit → St → Prop}
/-- The shadow's wp of code under deferred calls. -/
def SWd (P : Program) (ds : List Deferred) (c : Code) (st : St) (Q : Exit → St → Prop) : Prop :=
  ∀ a w g, Rel st a w g → c.wp P (fun e a' w' => ∃ a0 st' g', a' = moreA a0 ds ∧ Q e st' ∧ Rel st' a0 w' g' ∧ Fr false g w g' w') (moreA a ds) w
theorem SWd.seq (h : SWd P ds x st (thenS (fun s => SWd P ds y s Q) Q)) : SWd P ds (.seq x y) st Q := by
  intro a w g hr
  refine wp_seq (Code.wp_mono (fun e a' w' hh => ?_) (h a w g hr))
  obtain ⟨a0, st', g', rfl, q, r, f⟩ := hh
  cases e with
  | normal =>
    refine Code.wp_mono (fun e2 a2 w2 hh2 => ?_) (q a0 w' g' r)
    obtain ⟨a1, st2, g2, e2, q2, r2, f2⟩ := hh2
    exact ⟨a1, st2, g2, e2, q2, r2, f.trans f2⟩
  | _ => exact ⟨a0, st', g', rfl, q, r, f⟩
theorem SWd.ret (h : Q .ret st) : SWd P ds .ret st Q := fun a w g hr => wp_ret ⟨a, st, g, rfl, h, hr, Fr.refl _ _ _⟩
theorem SWd.region {id : Nat} (h : OTk P ops 0 st Q) : SWd P ds (.region id ops false) st Q := fun a w g hr => by
  have h1 := h a w g hr
  rw [List.drop_zero] at h1
  refine Code.wp_mono (fun e a' w' hh => ?_) (wp_region_list (wpList_more (ds := ds) _ a w h1))
  obtain ⟨a0, e0, st', g', q, r, f⟩ := hh
  grind
/-- From here (m: what is done; so many are left) every way ends in Q; a panic may end it. -/
def OXT (P : Program) (ops : Array Oper) (d m : Nat) (st : St) (Q : Exit → St → Prop) : Prop :=
  ∀ a w g, Rel st a w g → ∀ R : Exit → Act → World → Prop, (∀ e a' w' st' g', Q e st' → Rel st' a' w' g' → Fr false g w g' w' → R e a' w') → wpAny P .any ops R d (lstM ops.size m) a w
theorem OXT.fin (h : Region.ready .any ops (lstM ops.size m) = []) (hq : Q .normal st) : OXT P ops 0 m st Q :=
  fun a w g hr R hR => ⟨h, hR _ _ _ _ _ hq hr (Fr.refl _ _ _)⟩
theorem OXT.step (hg : ops.all (fun o => o.guard.isNone) = true) (h : Region.ready .any ops (lstM ops.size m) = i0 :: is)
    (hs : AllI (i0 :: is) (fun i => OTk P (oneA ops i) 0 st (thenS (fun s => OXT P ops d (m ||| 2 ^ i) s Q) Q))) : OXT P ops (d + 1) m st Q := by
  intro a w g hr R hR
  unfold wpAny
  rw [h]
  refine ⟨fun e => (List.cons_ne_nil _ _ e).elim, fun i hi => ?_⟩
  have hi' : i ∈ Region.ready .any ops (lstM ops.size m) := by rw [h]; exact hi
  obtain ⟨_, o, ho, _⟩ := mem_ready.1 hi'
  have h1 := AllI_mem hs i hi
  have hog : o.guard = none := opsOf_ng hg [i] o (by simp [opsOf, ho])
  simp only [oneA, ho] at h1
  unfold OTk at h1
  rw [List.drop_zero] at h1
  have h2 := h1 a w g hr
  have hout : LetsOut (fun e a' w' => ∃ st' g', thenS (fun s => OXT P ops d (m ||| 2 ^ i) s Q) Q e st' ∧ Rel st' a' w' g' ∧ Fr false g w g' w') → LetsOut R :=
    fun ⟨a0, w0, st', g', q, r, f⟩ => ⟨a0, w0, hR _ _ _ _ _ (show Q .outgrown st' from q) r f⟩
  unfold wpOp
  rw [ho]
  simp only
  rw [if_pos (wanted_ng hog _)]
  unfold wpList at h2
  rw [if_pos (wanted_ng hog _)] at h2
  rcases h2 with h2 | h2
  · left
    rw [lstM_set]
    refine upon_out (fun ch a1 w1 hh => ?_) hout (Oper.wp_mono (K' := wpAny P .any ops R d (lstM ops.size (m ||| 2 ^ i))) (fun a' w' hh => ?_) h2)
    · obtain ⟨st', g', q, r, f⟩ := hh
      exact hR _ _ _ _ _ (show Q (.panic ch) st' from q) r f
    · obtain ⟨st1, g1, q1, r1, f1⟩ := hh
      exact (show OXT P ops d (m ||| 2 ^ i) st1 Q from q1) a' w' g1 r1 R fun e a2 w2 st2 g2 q2 r2 f2 => hR e a2 w2 st2 g2 q2 r2 (f1.trans f2)
  · exact .inr ⟨h2.1, hout h2.2⟩
theorem SWd.regionX {id : Nat} {l : List Oper} (hm : P.follows .mixedOrders = true) (h : OXT P l.toArray l.length 0 st Q) : SWd P ds (.region id l.toArray true) st Q := by
  intro a w g hr
  have h1 := h a w.drew g hr.drew (fun e a' w' => ∃ st' g', Q e st' ∧ Rel st' a' w' g' ∧ Fr false g w g' w') (fun e a' w' st' g' q r f => ⟨st', g', q, r, Fr.drew.trans f⟩)
  rw [lstM_zero] at h1
  refine Code.wp_mono (fun e a' w' hh => ?_) (wp_region_any (id := id) (Q := MQ ds (fun e a' w' => ∃ st' g', Q e st' ∧ Rel st' a' w' g' ∧ Fr false g w g' w')) hm (wpAny_more (ds := ds) _ _ _ _ h1))
  obtain ⟨a0, e0, st', g', q, r, f⟩ := hh
  exact ⟨a0, st', g', e0, q, r, f⟩
/-- What the slots hold stands when only the objects have changed. -/
theorem Rel.callH (t : Nat) (hrel : Rel st a w g) (hf : Fr false (g.ren (calleeOw [] [])) w g' w') (hH : RH g' w' H') (hn : st.tmps.all noHl = true) :
    Rel ⟨st.tmps, H'⟩ a w' ⟨afterH w.heap.size t g.ow g'.ow, g'.ρ⟩ := by
  have hkp := fun o' ho' => keepH (t := t) hf (o := o') ho'
  refine Rel.step hrel hrel.len hrel.def0 (fun i k h => hf.rho i k h) (fun t s hs => ?_) (callH_post t hf hH).2
  have hnh : noHl s = true := List.all_eq_true.1 hn s (List.mem_iff_getElem?.2 ⟨t, hs⟩)
  refine .inr (.inr ⟨hs, rfl, fun o' ho' => hkp o' ?_, fun s0 e => ?_⟩)
  · cases o' with
    | obj i =>
      exfalso
      cases s <;> simp [uses] at ho'
    | lst l =>
      cases l with
      | hcell i j =>
        exfalso
        cases s <;> simp [uses] at ho'
        · subst ho'; simp [noHl] at hnh
        · subst ho'; simp [noHl] at hnh
      | _ => rfl
    | _ => rfl
  grind
/-- A call that panics; what the slots hold stands. -/
theorem OTk.boomK (hp : SB P f args st.H (.boom t H'))
    (h : callAt P ops k st [] = some (d, f, args, [], [])) (hl : st.tmps.all noHl = true) (hq : Q (.panic (panV t)) ⟨st.tmps, H'⟩) : OTk P ops k st Q := by
  unfold callAt at h
  split at h
  · rename_i o ho
    split at h
    · rename_i c hop
      split at h
      · rename_i cs hcs
        simp only [Option.some.injEq, Prod.mk.injEq] at h
        obtain ⟨rfl, rfl, rfl, e1, e2⟩ := h
        obtain ⟨h1, h2⟩ := opAt_inv ho
        obtain ⟨f0, a0, l0, g0⟩ := cs
        cases e1; cases e2
        intro a w g hrel
        rw [drop_cons h1]
        unfold wpList
        rw [wantS_sound hrel h2, if_pos rfl]
        refine .inl ?_
        obtain ⟨vs, hex, hRA, hRH⟩ := callH_pre hrel hop hcs
        unfold Oper.wp
        rw [hex, Oper.upon_enter]
        refine (hp w (g.ren (calleeOw [] [])) _ hRA hRH).mono fun e w' hh => ?_
        obtain ⟨rfl, g', hH', hf⟩ := hh
        exact ⟨_, _, hq, hrel.callH 0 hf hH' hl, (callH_post 0 hf hH').1⟩
      · cases h
    · cases h
  · cases h
/-! ## The end of a function with one deferred closure -/
/-- How it is left: none: it returns; some t: it panics. -/
def uMode : Option TypeId → FrameMode
  | none => .returning
  | some t => .panicking (panV t)
def uRec : Option TypeId → FrameMode
  | none => .returning
  | some t => .panicking [{ v := .iface t (.agg #[]), recovered := true }]
def uExit : Option TypeId → Exit
  | none => .ret
  | some t => .panic (panV t)
theorem settle_uRec (u : Option TypeId) : settle (uRec u) = .returning := by cases u <;> rfl
theorem uMode_run (u : Option TypeId) : uMode u ≠ .run := by cases u <;> simp [uMode]
/-- A deferred closure's contract: it takes the panic. -/
def SDf (P : Program) (f : FuncId) (args : List SV) (u : Option TypeId) (H H' : List SObj) : Prop :=
  ∀ (w : World) (g : Gh) (vs : Array Value), RArgs g w vs args → RH g w H → CallsD P f vs (uMode u) w fun e u' w' => ∃ v g', e = .returned v ∧ u' = uRec u ∧ RH g' w' H' ∧ Fr false g w g' w'
theorem SB.of_defer {f df : FuncId} {fn : Func} {c0 c2 : Code} {id : Nat} {o0 o1 : Oper} {dc : Call} {t6 tc : Nat} {x : D} {args : List SV} {H H2 H3 : List SObj} {st1 : St} {u : Option TypeId} {r : SV}
    (hf : P.funcs[f]? = some fn) (hb : fn.body = some (.seq c0 (.seq (.region id #[o0, o1] false) c2)))
    (h0 : o0.op = .makeFunc (.func df) #[] #[.tmp tc]) (h0d : o0.dst = some t6) (h0g : o0.guard = none) (h1 : o1.op = .defer dc) (h1c : dc.callee = .value (.tmp t6)) (h1a : dc.args = #[]) (h1d : o1.dst = none) (h1g : o1.guard = none)
    (hd : isFn P df = true)
    (s0 : SW P false c0 (initSt fn.ntmps args H) (thenS (fun s => s = st1) (fun _ _ => False))) (hc : st1.tmps[tc]? = some (.d x)) (ht6 : st1.tmps[t6]? = some .undef)
    (s2 : ∀ ds, SWd P ds c2 st1 (fun e s => e = uExit u ∧ s.H = H2 ∧ s.tmps.all noHl = true ∧ endV P fn.results.toList ⟨s.tmps, H3⟩ = some r))
    (hdf : SDf P df [.d x] u H2 H3) : SB P f args H (.ok (r, H3)) := by
  intro w g vs ha hH
  refine calls_of_wp_defers hf hb (wp_seq (Code.wp_mono (fun e a1 w1 hh => ?_) (s0 _ _ g (Rel.init ha hH fn.ntmps))))
  obtain ⟨st', g1, q1, r1, f1⟩ := hh
  cases e with
  | normal =>
    have e1 : st' = st1 := q1
    subst e1
    have hx : Rd g1 w1 (valOf a1 tc) x := r1.tmp tc _ hc
    refine wp_seq (wp_region_list ?_)
    have ev0 : (execOp a1.eval o0).run P w1 = .ok (.value (.func (.func df) #[] #[valOf a1 tc])) w1 := by
      have : execOp a1.eval o0 = pure (.value (.func (.func df) ((#[] : Array Operand).map a1.eval) ((#[.tmp tc] : Array Operand).map a1.eval))) := by
        unfold execOp
        rw [h0]
        rfl
      rw [this]
      simp only [List.map_toArray, List.map_cons, List.map_nil]
      rfl
    have hlt : t6 < a1.tmps.size := by rw [r1.len]; exact get_lt ht6
    have ev1 : (execOp (a1.put (some t6) (.func (.func df) #[] #[valOf a1 tc])).eval o1).run P w1 = .ok (.defer { target := .fn (.func df) #[valOf a1 tc], args := #[] }) w1 := by
      unfold execOp
      rw [h1]
      have he : (a1.put (some t6) (.func (.func df) #[] #[valOf a1 tc])).eval (.tmp t6) = .func (.func df) #[] #[valOf a1 tc] := by
        have := valOf_put_same (a := a1) (v := .func (.func df) #[] #[valOf a1 tc]) hlt
        exact this
      simp only [resolve, h1c, h1a, he, Deferred.ofValue, List.map_toArray, List.map_nil, Array.append_empty]
      rfl
    have w0 : ∀ y, Region.wanted o0 y = true := fun y => by simp [Region.wanted, h0g]
    have w1' : ∀ y, Region.wanted o1 y = true := fun y => by simp [Region.wanted, h1g]
    show wpList P _ _ [o0, o1] a1 w1
    unfold wpList
    rw [if_pos (w0 _)]
    refine .inl ?_
    unfold Oper.wp
    rw [ev0]
    show wpList P _ _ [o1] (a1.put o0.dst _) w1
    rw [h0d]
    unfold wpList
    rw [if_pos (w1' _)]
    refine .inl ?_
    unfold Oper.wp
    rw [ev1]
    let d : Deferred := { target := .fn (.func df) #[valOf a1 tc], args := #[] }
    have r2 : Rel st' (a1.put (some t6) (.func (.func df) #[] #[valOf a1 tc])) w1 g1 := by
      refine Rel.step r1 (by rw [put_size]; exact r1.len) (by rw [put_defers]; exact r1.def0) (fun _ _ h => h) (fun t s hs => ?_) r1.hp
      by_cases e : t6 = t
      · subst e
        rw [ht6] at hs
        cases hs
        exact .inl rfl
      · refine .inr (.inr ⟨hs, valOf_put (by simpa using e), fun _ _ => Keep.refl _ _ _, fun s0 e0 => ?_⟩)
        by_cases e2 : t6 = s0
        · subst e2
          obtain ⟨y, hy, hb⟩ := dep_big (r1.tmp t _ hs) e0
          rw [ht6] at hy
          cases hy
          simp [bigK] at hb
        · exact ⟨valOf_put (by simpa using e2), fun y hy hb => ⟨y, hy, rfl⟩⟩
    have hfin : ({ (a1.put (some t6) (.func (.func df) #[] #[valOf a1 tc])) with defers := d :: (a1.put (some t6) (.func (.func df) #[] #[valOf a1 tc])).defers } : Act).put o1.dst undef = moreA (a1.put (some t6) (.func (.func df) #[] #[valOf a1 tc])) [d] := by
      rw [h1d]
      show _ = ({ (a1.put (some t6) (.func (.func df) #[] #[valOf a1 tc])) with defers := (a1.put (some t6) (.func (.func df) #[] #[valOf a1 tc])).defers ++ [d] } : Act)
      rw [put_defers, r1.def0]
      rfl
    show c2.wp P _ (({ (a1.put (some t6) (.func (.func df) #[] #[valOf a1 tc])) with defers := d :: (a1.put (some t6) (.func (.func df) #[] #[valOf a1 tc])).defers } : Act).put o1.dst undef) w1
    rw [hfin]
    refine Code.wp_mono (fun e a3 w3 hh => ?_) (s2 [d] _ w1 g1 r2)
    obtain ⟨a0, st3, g3, rfl, ⟨rfl, hH2, hn, hend⟩, r3, f3⟩ := hh
    have hleave : Leaves P fn a0.tmps (fun e w' => ∃ v g', e = .returned v ∧ RRes g' w' v r ∧ RH g' w' H3 ∧ Fr false g w g' w') [d] (uMode u) w3 := by
      refine leaves_cons (f := df) (args := #[valOf a1 tc]) (uMode_run u) ?_ ?_
      · unfold isFn at hd
        split at hd
        · rename_i fn' hfn
          simp only [Bool.and_eq_true, bne_iff_ne] at hd
          obtain ⟨k1, k2⟩ := hd
          have k2' : fn'.body.isNone = false := by cases hb : fn'.body <;> simp [hb] at k2 ⊢
          simp only [invoke, callFunc, Sem.run_bind, run_program, Result.andThen_ok, hfn]
          rw [if_neg (by simpa using k1), k2']
          rfl
        · cases hd
      · have hx3 : Rd g3 w3 (valOf a1 tc) x := hx.keep f3.free f3.rho
        have hRA : RArgs (g3.ren (calleeOw [] [])) w3 #[valOf a1 tc] [.d x] := by
          refine ⟨rfl, fun j s hj => ?_⟩
          cases j with
          | zero =>
            simp only [List.getElem?_cons_zero, Option.some.injEq] at hj
            subst hj
            exact ⟨_, rfl, hx3.keep (Keep.ren rfl) (fun _ _ h => h)⟩
          | succ j => simp at hj
        have hRH : RH (g3.ren (calleeOw [] [])) w3 H2 := by
          rw [← hH2]
          exact r3.hp.keep (fun o' ho' => Keep.ren (by
            cases o' <;> simp only [usesH] at ho' <;> try rfl
            rename_i l
            cases l <;> simp only [usesH] at ho'
            rfl)) (fun _ _ h => h) rfl
        refine (hdf w3 _ _ hRA hRH).mono fun e u' w4 hh => ?_
        obtain ⟨v, g4, rfl, rfl, hH3, f4⟩ := hh
        simp only [settle_uRec]
        obtain ⟨v', g5, e5, e6, e7, e8⟩ := endRes (pu := false) (r3.callH 0 f4 hH3 hn) (endV_ok hend)
        exact ⟨v', e5, v', g5, rfl, e6, e7, f1.trans (f3.trans ((callH_post 0 f4 hH3).1.trans e8))⟩
    have hds : (moreA a0 [d]).defers = [d] := by simp [moreA, r3.def0]
    cases u with
    | none => show Leaves P fn _ _ (moreA a0 [d]).defers .returning w3; rw [hds]; exact hleave
    | some t => show Leaves P fn _ _ (moreA a0 [d]).defers (.panicking (panV t)) w3; rw [hds]; exact hleave
  | _ => exact q1.elim
end
end Go.Sh
namespace Go.Sh
section
variable {P : Program} {ops : Array Oper} {k : Nat} {st : St}
def isStructT (P : Program) (T : TypeId) : Bool := match P.underlying T with
  | some (.struct _) => true
  | _ => false
theorem rd_agg0 (h : Rd g w v (.agg [])) : v = .agg #[] := by
  cases h with
  | agg hl us hc hr =>
    rename_i cs
    have : cs = #[] := by
      apply Array.eq_empty_of_size_eq_zero
      simpa using hl
    rw [this]
def isT : Option TypeId → TypeId → Bool
  | some t, T => t == T
  | none, _ => false
def ifD : Option TypeId → D
  | some t => .iface t (.agg [])
  | none => .nilIface
/-- 'v, ok := x.(T)', T a struct without fields. -/
theorem BStep.ta (hop : o.op = .typeAssert x xT T true) (hs : isStructT P T = true) (hz : zeroD P T = some (.agg [])) 
    (hx : valD st x = some (ifD t)) : BStep P st o (.tup [.d (.agg []), vB (isT t T)]) := by
  intro a w g hr
  obtain ⟨vz, ez, rz⟩ := zeroD_sound (P := P) (g := g) (w := w) hz
  have e0 := rd_agg0 ez
  subst e0
  have hrx := valD_d hr hx
  obtain ⟨fs, hu⟩ : ∃ fs, P.underlying T = some (.struct fs) := by
    unfold isStructT at hs
    split at hs
    · rename_i fs h; exact ⟨fs, h⟩
    · cases hs
  have hrun : ∀ w', (Instr.typeAssert (a.eval x) xT T true).run P w' = .ok (.tuple #[.agg #[], .bool (isT t T)]) w' := by
    intro w'
    cases t with
    | none =>
      have hv : a.eval x = .nilIface := by
        simp only [ifD] at hrx
        generalize a.eval x = v at hrx
        cases hrx; rfl
      simp only [Instr.typeAssert, hv, Sem.run_bind, run_underlying hu, Result.andThen_ok, if_true, rz, Sem.run_pure, isT]
    | some t =>
      have hv := rd_iface0 hrx
      simp only [Instr.typeAssert, hv, Sem.run_bind, run_underlying hu, Result.andThen_ok, if_true]
      by_cases ht : t = T
      · rw [if_pos ht]
        simp only [Sem.run_pure]
        simp [ht, isT]
      · rw [if_neg ht]
        simp only [Sem.run_bind, rz, Result.andThen_ok, Sem.run_pure]
        simp [ht, isT]
  refine ⟨.tuple #[.agg #[], .bool (isT t T)], BV.light ?_, fun w' _ => ?_⟩
  · refine ⟨_, rfl, rfl, fun j s hj => ?_⟩
    match j, hj with
    | 0, hj => simp at hj; exact ⟨_, _, rfl, hj.symm, ez⟩
    | 1, hj => simp at hj; exact ⟨_, _, rfl, hj.symm, .bool⟩
    | j + 2, hj => simp at hj
  · unfold execOp
    rw [hop]
    simp only [Sem.run_bind, hrun, Result.andThen_ok, Sem.run_pure]
def taAt (P : Program) (ops : Array Oper) (k : Nat) (st : St) : Option (Option Tmp × TypeId × Option TypeId) :=
  match opAt ops k st with
  | some o => match o.op with
    | .typeAssert x xT T true => if isStructT P T then match zeroD P T with
      | some (.agg []) => match valD st x with
        | some (.iface t (.agg [])) => some (o.dst, T, some t)
        | some .nilIface => some (o.dst, T, none)
        | _ => none
      | _ => none
      else none
    | _ => none
  | none => none
theorem BAt.ta (h : taAt P ops k st = some (d, T, t)) (hb : (isT t T) = b) : BAt P ops k st d (.tup [.d (.agg []), vB b]) := by
  subst hb
  unfold taAt at h
  split at h
  · rename_i o ho
    split at h
    · rename_i x xT T' hop
      split at h
      · rename_i hs
        split at h
        · rename_i hz
          obtain ⟨h1, h2⟩ := opAt_inv ho
          split at h
          · rename_i t' hx
            simp only [Option.some.injEq, Prod.mk.injEq] at h
            obtain ⟨rfl, rfl, rfl⟩ := h
            exact ⟨o, h1, h2, BStep.ta (t := some t') hop hs hz hx, rfl, rfl⟩
          · rename_i hx
            simp only [Option.some.injEq, Prod.mk.injEq] at h
            obtain ⟨rfl, rfl, rfl⟩ := h
            exact ⟨o, h1, h2, BStep.ta (t := none) hop hs hz hx, rfl, rfl⟩
          · cases h
        · cases h
      · cases h
    · cases h
  · cases h
/-- What recover says. -/
def uVal : Option TypeId → SV
  | none => .d .nilIface
  | some t => .d (.iface t (.agg []))
theorem SDf.of_SW {f : FuncId} {fn : Func} {c : Code} {id : Nat} {o0 : Oper} {dc : Call} {t1 : Nat} {args : List SV} {H H' : List SObj} {u : Option TypeId} (hf : P.funcs[f]? = some fn) (hb : fn.body = some (.seq (.region id #[o0] false) c)) (hr : fn.results = #[])
    (h0 : o0.op = .call dc) (h0c : dc.callee = .builtin .recover) (h0a : dc.args = #[]) (h0g : o0.guard = none) (h0d : o0.dst = some t1)
    (h : SW P false c ((initSt fn.ntmps args H).put (some t1) (uVal u)) (fun e s => (e = .normal ∨ e = .ret) ∧ s.H = H')) : SDf P f args u H H' := by
  intro w g vs ha hH
  refine callsD_of_wpS hf hb fun c₀ cs hu => wpS_seq (wpS_region ?_)
  have hri := Rel.init ha hH fn.ntmps
  show wpOpsS P #[o0] _ [0] _ _ _
  have hw0 : ∀ y, Region.wanted o0 y = true := fun y => by simp [Region.wanted, h0g]
  have hex : ∀ a : Act, (execOp a.eval o0).run P w = .ok .recover w := fun a => by
    unfold execOp
    rw [h0]
    simp only [resolve, h0c, h0a, Sem.run_bind, Sem.run_pure, Result.andThen_ok, invoke]
    rfl
  have cont : ∀ (v : Value) (u' : FrameMode) (cs' : List Frame), Light g w v (uVal u) → u' = uRec u → cs' = { c₀ with mode := u' } :: cs →
      c.wpS P (bodyPostS P fn c₀ cs (fun e u' w' => ∃ v g', e = .returned v ∧ u' = uRec u ∧ RH g' w' H' ∧ Fr false g w g' w')) (({ tmps := vs ++ Array.replicate (fn.ntmps - vs.size) undef, defers := [] } : Act).put o0.dst v) cs' w := by
    intro v u' cs' hv hu' hcs
    rw [h0d]
    refine wpS_of_wp (Code.wp_mono (fun e a' w' hh => ?_) (h _ w g (hri.putLight (some t1) hv)))
    obtain ⟨st', g', ⟨he, hH'⟩, r', f'⟩ := hh
    have hres : (results fn a'.tmps).run P w' = .ok (.tuple #[]) w' := by
      have := results_run (P := P) (fn := fn) (tm := a'.tmps) (w := w') (vs := []) (by simp [hr]) (fun j rv hj => by simp [hr] at hj)
      simpa using this
    have hfin : ∃ u'', cs' = { c₀ with mode := u'' } :: cs ∧ ∃ v, (results fn a'.tmps).run P w' = .ok v w' ∧ ∃ v' g', Ending.returned v = .returned v' ∧ u'' = uRec u ∧ RH g' w' H' ∧ Fr false g w g' w' :=
      ⟨u', hcs, _, hres, _, g', rfl, hu', by rw [← hH']; exact r'.hp, f'⟩
    rcases he with rfl | rfl
    · exact ⟨r'.def0, hfin⟩
    · exact ⟨r'.def0, hfin⟩
  unfold wpOpsS
  simp only [List.getElem?_toArray, List.getElem?_cons_zero, hw0, if_true, hex]
  cases u with
  | none =>
    have hrec : recoverD (c₀ :: cs) = none := by simp [recoverD, hu, uMode]
    simp only [hrec]
    show Exit.thenS _ _ .normal _ _ w
    exact cont .nilIface .returning _ .nilIface rfl (by
      have : ({ c₀ with mode := .returning } : Frame) = c₀ := by
        have : c₀.mode = .returning := hu
        rw [← this]
      rw [this])
  | some t =>
    have hrec : recoverD (c₀ :: cs) = some (.iface t (.agg #[]), { c₀ with mode := uRec (some t) } :: cs) := by simp [recoverD, hu, uMode, panV, uRec]
    simp only [hrec]
    show Exit.thenS _ _ .normal _ _ w
    refine cont (.iface t (.agg #[])) (uRec (some t)) _ ?_ rfl rfl
    show Rd g w _ _
    refine .iface (.agg (by rfl) (fun _ => undef) (fun j y hj => by simp at hj) (fun j y hj => by simp at hj))
end
end Go.Sh
namespace Go.Sh
theorem SWd.regX {P : Program} {ds : List Deferred} {st : St} {Q : Exit → St → Prop} {id : Nat} {l : List Oper} (hm : P.follows .mixedOrders = true)
    (h : ∀ X : Nat → Nat → St → Prop, (X = fun d m s => OXT P l.toArray d m s Q) → X l.length 0 st) : SWd P ds (.region id l.toArray true) st Q :=
  SWd.regionX hm (h _ rfl)
end Go.Sh
namespace Go.Sh
theorem SWd.keep {P : Program} {st : St} {Q : Exit → St → Prop} (n : Nat) (H : List SObj) (L : List Nat) (l : List (Nat × SV)) (hst : pickR n L st = some (l, H)) (h : SWd P ds c (sp n l H) Q) : SWd P ds c st Q :=
  fun a w g hr => h a w g (hr.keepR (keepR_of_pick hst))
end Go.Sh
namespace Go.Sh
section
variable {P : Program} {st : St}
def takeOw (i off d : Nat) : Own → Own := fun o => if o = .lst (.hcell i off) then .lst (.slot d) else o
theorem takeOw_ne (h : o ≠ .lst (.hcell i off)) : takeOw i off d o = o := by simp [takeOw, h]
theorem uses_hcell (hn : noHl s = true) : ¬ uses t s (.lst (.hcell i j)) := by
  intro h
  cases s <;> simp [uses] at h
  · subst h; simp [noHl] at hn
  · subst h; simp [noHl] at hn
/-- The list in an object's cell is taken: the cell then tells nothing. -/
theorem takeH_full (hop : o.op = .load T x) (hd : o.dst = some d) (hx : ptrH st x = some (i, off)) (hu : (P.underlying T).isNone = false) (ha : isAggT P T = false)
    (hi : st.H[i]? = some (.cells cs)) (hc : cs[off]? = some (.own n xs)) (hn : st.tmps.all noHl = true) (hr : Rel st a w g) :
    ∃ u g', (execOp a.eval o).run P w = .ok (.value u) w ∧ Rel ⟨(st.put (some d) (.own n xs)).tmps, st.H.set i (.cells (cs.set off .undef))⟩ (a.put o.dst u) w g' ∧ (∀ o', o' ≠ .lst (.hcell i off) → Keep o' g w g' w) ∧ g'.ρ = g.ρ := by
  obtain ⟨k, e1, e3⟩ := ptrH_sound hr hx
  obtain ⟨k', c, T0, f1, f2, f3, f4, f5⟩ := hr.hp.2 i _ hi
  rw [e1] at f1
  cases f1
  obtain ⟨u, u1, u2, u3⟩ := f5 off _ hc
  have hk : ∀ o', o' ≠ .lst (.hcell i off) → Keep o' g w (g.ren (takeOw i off d)) w := fun o' h => Keep.ren (takeOw_ne h)
  refine ⟨u, g.ren (takeOw i off d), ?_, ?_, hk, rfl⟩
  · unfold execOp
    rw [hop]
    simp only [Instr.loadAt, e3, Instr.sureAddr, Sem.run_bind, Sem.run_pure, Result.andThen_ok, run_loadVar_one hu ha f3 u1]
  · rw [hd]
    refine Rel.step hr (by rw [put_size]; simp only [St.put_len]; exact hr.len) (by rw [put_defers]; exact hr.def0) (fun _ _ h => h) (fun t s hs => ?_) ⟨by simp [Gh.ren, hr.hp.1], fun i' o' hi' => ?_⟩
    · by_cases e : d = t
      · subst e
        obtain ⟨rfl, hlt⟩ := St.put_get_same hs
        refine .inr (.inl ?_)
        rw [valOf_put_same (by rw [hr.len]; exact hlt)]
        exact ROwn.ren (takeOw_ne (by simp)) (by simp [takeOw]) u2
      · rcases St.put_get (fun h => e h.symm) hs with h | ⟨h1, h2⟩
        · exact .inl h
        · have hnh : noHl s = true := List.all_eq_true.1 hn s (List.mem_iff_getElem?.2 ⟨t, h1⟩)
          refine .inr (.inr ⟨h1, valOf_put (by simpa using e), fun o' ho' => hk o' (fun e2 => ?_), fun s0 e0 => ?_⟩)
          · subst e2; exact uses_hcell hnh ho'
          · obtain ⟨x0, hx0, hb0⟩ := dep_big (hr.tmp t _ h1) e0
            have hd0 : (some d : Option Nat) ≠ some s0 := fun e2 => by
              cases e2
              have := h2 _ hx0 (bigK_heavy hb0)
              rw [dep_mention e0] at this
              cases this
            exact ⟨valOf_put hd0, fun y hy hb => ⟨y, St.put_big hy hb hd0, rfl⟩⟩
    · simp only at hi'
      by_cases e : i = i'
      · subst e
        rw [List.getElem?_set_self (get_lt hi)] at hi'
        cases hi'
        refine ⟨k, c, T0, e1, by simp [Gh.ren, f2, takeOw], f3, by simp [f4], fun j s hj => ?_⟩
        by_cases ej : off = j
        · subst ej
          rw [List.getElem?_set_self (get_lt hc)] at hj
          cases hj
          exact ⟨u, u1, trivial, u3⟩
        · rw [List.getElem?_set_ne ej] at hj
          obtain ⟨v, v1, v2, v3⟩ := f5 j s hj
          exact ⟨v, v1, v2.keep (hk _ (by simp)) (hk _ (by simp; omega)) (fun _ _ h => h), v3⟩
      · rw [List.getElem?_set_ne e] at hi'
        exact (hr.hp.2 i' o' hi').keepI (hk _ (by simp)) (hk _ (by simp)) (fun j => hk _ (by simp; omega)) (fun _ _ h => h)
theorem OpS.takeH (hop : o.op = .load T x) (hd : o.dst = some d) (hx : ptrH st x = some (i, off)) (hu : (P.underlying T).isNone = false) (ha : isAggT P T = false)
    (hi : st.H[i]? = some (.cells cs)) (hc : cs[off]? = some (.own n xs)) (hn : st.tmps.all noHl = true) : OpS P false st o ⟨(st.put (some d) (.own n xs)).tmps, st.H.set i (.cells (cs.set off .undef))⟩ :=
  OpS.value fun a w g hr => let ⟨u, g', h1, h2, h3, h4⟩ := takeH_full hop hd hx hu ha hi hc hn hr
    ⟨u, w, g', h1, h2, Nat.le_refl _, h3 _ (by simp), h3 _ (by simp), fun i k h => by rw [h4]; exact h, nofun, nofun, nofun, ⟨rfl, rfl⟩⟩
def giveOw (i off s : Nat) : Own → Own := fun o => if o = .lst (.slot s) then .lst (.hcell i off) else o
theorem giveOw_ne (h : o ≠ .lst (.slot s)) : giveOw i off s o = o := by simp [giveOw, h]
theorem ROwn.slice (h : ROwn g w l v n xs) : ∃ a len cap, v = .slice a len cap := by
  rcases h with ⟨_, a, e⟩ | ⟨k, off, cap, c, T, us, hv, _⟩
  · exact ⟨a, 0, 0, e⟩
  · exact ⟨_, _, _, hv⟩
/-- A list of one's own is given to an object's cell. -/
theorem giveH_full (hop : o.op = .store T x (.tmp s)) (hd : o.dst = none) (hx : ptrH st x = some (i, off)) (hs : st.tmps[s]? = some (.own n xs)) (hu : (P.underlying T).isNone = false) (hsz : P.cellsOf T = 1)
    (hi : st.H[i]? = some (.cells cs)) (hlt : off < cs.length) (hn : st.tmps.all noHl = true) (hr : Rel st a w g) :
    ∃ w' g', (execOp a.eval o).run P w = .ok .skip w' ∧ Rel ⟨(st.take s).tmps, st.H.set i (.cells (cs.set off (.own n xs)))⟩ (a.put o.dst undef) w' g' ∧ (∀ o', o' ≠ .lst (.slot s) → o' ≠ .obj i → Keep o' g w g' w') ∧ g'.ρ = g.ρ ∧ w'.heap.size = w.heap.size ∧ SameOs w w' ∧
      ∃ k c T fz, g'.ρ[i]? = some k ∧ g'.ow k = .obj i ∧ w'.heap[k]? = some (.cells c T fz) ∧ c[off]? = some (valOf a s) := by
  obtain ⟨k, e1, e3⟩ := ptrH_sound hr hx
  obtain ⟨k', c, T0, f1, f2, f3, f4, f5⟩ := hr.hp.2 i _ hi
  rw [e1] at f1
  cases f1
  have ho : ROwn g w (.slot s) (valOf a s) n xs := hr.tmp s _ hs
  obtain ⟨sa, sl, sc, hv⟩ := ho.slice
  have hev : a.eval (.tmp s) = .slice sa sl sc := hv
  obtain ⟨w', r1, r2, r3, c', r4, r5, r6⟩ := run_storeCells' (P := P) k off T0 [.slice sa sl sc] 0 c w f3 (by simp; omega) (by simp [Value.oneCell'])
  have hos := storeCells_os (P := P) k off T0 [.slice sa sl sc] 0 c w w' f3 (by simp; omega) (by simp [Value.oneCell']) r1
  have hk : ∀ o', o' ≠ .lst (.slot s) → o' ≠ .obj i → Keep o' g w (g.ren (giveOw i off s)) w' := fun o' h1 h2 => (Keep.block f2 h2 r3).trans (Keep.ren (giveOw_ne h1))
  refine ⟨w', g.ren (giveOw i off s), ?_, ?_, hk, rfl, r2, hos, k, c', T0, (0, 0), e1, by simp [Gh.ren, f2, giveOw], r4, by rw [r6, if_pos (by simp), hv]; simp⟩
  · unfold execOp; rw [hop]
    simp only [Instr.storeAt, Sem.run_bind, e3, Instr.sureAddr, Sem.run_pure, Result.andThen_ok, storeVar, run_sizeOf' hu]
    rw [hev]
    simp only [Value.cells]
    simp [hsz, r1]
  · rw [hd]
    refine Rel.step hr (by simp only [Act.put, St.take_len]; exact hr.len) hr.def0 (fun _ _ h => h) (fun t sv hts => ?_) ⟨by simp [Gh.ren, hr.hp.1], fun i' o' hi' => ?_⟩
    · rcases St.take_get hts with h | ⟨h1, h2, h3⟩
      · exact .inl h
      · have hnh : noHl sv = true := List.all_eq_true.1 hn sv (List.mem_iff_getElem?.2 ⟨t, h1⟩)
        refine .inr (.inr ⟨h1, rfl, fun o' ho' => hk o' (fun e2 => ?_) (fun e2 => ?_), fun s0 e0 => ⟨rfl, fun y hy hb => ⟨y, ?_, rfl⟩⟩⟩)
        · subst e2
          rcases uses_slot ho' with h | h
          · exact h2 h.symm
          · rw [h3] at h; cases h
        · subst e2; exact uses_obj ho'
        · have hne : s0 ≠ s := fun e2 => by rw [e2] at e0; rw [dep_mention e0] at h3; cases h3
          show ((st.kill s).set s .undef).tmps[s0]? = some y
          simp only [St.set, List.getElem?_set_ne (Ne.symm hne)]
          simp [St.kill, hy, bigK_mention hb]
    · simp only at hi'
      by_cases e : i = i'
      · subst e
        rw [List.getElem?_set_self (get_lt hi)] at hi'
        cases hi'
        refine ⟨k, c', T0, e1, by simp [Gh.ren, f2, giveOw], r4, by simp [r5, f4], fun j s' hj => ?_⟩
        by_cases ej : off = j
        · subst ej
          rw [List.getElem?_set_self hlt] at hj
          cases hj
          refine ⟨.slice sa sl sc, by rw [r6, if_pos (by simp)]; simp, ?_, rfl⟩
          rw [← hv]
          have h1 : ROwn (g.ren (giveOw i off s)) w (.hcell i off) (valOf a s) n xs := ROwn.ren (giveOw_ne (by simp)) (by simp [giveOw]) ho
          refine ROwn.keep (fun k0 b hk0 hb0 => ⟨hk0, ?_⟩) (fun k0 b hk0 hb0 => ⟨hk0, ?_⟩) (fun _ _ h => h) h1
          · rw [r3 k0 (fun e => ?_)]; · exact hb0
            subst e; simp [Gh.ren, f2, giveOw] at hk0
          · rw [r3 k0 (fun e => ?_)]; · exact hb0
            subst e; simp [Gh.ren, f2, giveOw] at hk0
        · rw [List.getElem?_set_ne ej] at hj
          obtain ⟨v, v1, v2, v3⟩ := f5 j s' hj
          exact ⟨v, by grind, v2.keep (hk _ (by simp) (by simp)) (hk _ (by simp) (by simp)) (fun _ _ h => h), v3⟩
      · rw [List.getElem?_set_ne e] at hi'
        exact (hr.hp.2 i' o' hi').keepI (hk _ (by simp) (by simp)) (hk _ (by simp) (by simp; omega)) (fun j => hk _ (by simp) (by simp)) (fun _ _ h => h)
theorem OpS.giveH (hop : o.op = .store T x (.tmp s)) (hd : o.dst = none) (hx : ptrH st x = some (i, off)) (hs : st.tmps[s]? = some (.own n xs)) (hu : (P.underlying T).isNone = false) (hsz : P.cellsOf T = 1)
    (hi : st.H[i]? = some (.cells cs)) (hlt : off < cs.length) (hn : st.tmps.all noHl = true) : OpS P false st o ⟨(st.take s).tmps, st.H.set i (.cells (cs.set off (.own n xs)))⟩ :=
  OpS.skip fun a w g hr => let ⟨w', g', h1, h2, h3, h4, h5, h6, _⟩ := giveH_full hop hd hx hs hu hsz hi hlt hn hr
    ⟨w', g', h1, h2, by rw [h5]; exact Nat.le_refl _, h3 _ (by simp) (by simp), h3 _ (by simp) (by simp), fun i k h => by rw [h4]; exact h, nofun, nofun, nofun, h6⟩
end
end Go.Sh
namespace Go.Sh
def hTake {α : Type} (n : Nat) (c : Cd α) (H : Hp) (i off : Nat) : Option (List α × Hp) :=
  (hCells H i).bind fun cs => match cs[off]? with
    | some (.own n' ds) => if n' = n then (ds.mapM c.dec).map fun xs => (xs, H.set i (.cells (cs.set off .undef))) else none
    | _ => none
def hGive {α : Type} (n : Nat) (c : Cd α) (H : Hp) (i off : Nat) (xs : List α) : Option Hp :=
  (hCells H i).bind fun cs => if off < cs.length then some (H.set i (.cells (cs.set off (.own n (xs.map c.enc))))) else none
theorem hTake_eq {α : Type} {c : Cd α} {xs : List α} (h : hTake n c H i off = some (xs, H')) :
    ∃ cs, H[i]? = some (.cells cs) ∧ cs[off]? = some (.own n (xs.map c.enc)) ∧ H' = H.set i (.cells (cs.set off .undef)) := by
  unfold hTake at h
  simp only [Option.bind_eq_some_iff] at h
  obtain ⟨cs, h1, h2⟩ := h
  split at h2
  · rename_i n' ds hc
    split at h2
    · rename_i e
      subst e
      simp only [Option.map_eq_some_iff, Prod.mk.injEq] at h2
      obtain ⟨ys, h3, rfl, rfl⟩ := h2
      have := mapM_de c _ _ h3
      exact ⟨cs, hCells_eq h1, by rw [hc, this], rfl⟩
    · cases h2
  · cases h2
theorem hGive_eq {α : Type} {c : Cd α} {xs : List α} (h : hGive n c H i off xs = some H') :
    ∃ cs, H[i]? = some (.cells cs) ∧ off < cs.length ∧ H' = H.set i (.cells (cs.set off (.own n (xs.map c.enc)))) := by
  unfold hGive at h
  simp only [Option.bind_eq_some_iff] at h
  obtain ⟨cs, h1, h2⟩ := h
  split at h2
  · cases h2; exact ⟨cs, hCells_eq h1, by assumption, rfl⟩
  · cases h2
section
variable {P : Program} {ops : Array Oper} {k : Nat} {st : St} {Q : St → Prop}
def tkAt (P : Program) (ops : Array Oper) (k : Nat) (st : St) : Option (Nat × Nat × Nat × Hp) :=
  match opAt ops k st with
  | some o => match o.op with
    | .load T x => if (!(P.underlying T).isNone && !isAggT P T && st.tmps.all noHl) = true then match o.dst, ptrH st x with
      | some d, some (i, off) => some (d, i, off, st.H)
      | _, _ => none
      else none
    | _ => none
  | none => none
theorem OWk.tkH {α : Type} {c : Cd α} {xs : List α} (n : Nat) (L : List Nat) (l : List (Nat × SV)) (hx : hTake n' c H0 i off = some (xs, H)) (h : tkAt P ops k st = some (d, i, off, H0))
    (hst : pickR n L ⟨(st.put (some d) (.own n' (xs.map c.enc))).tmps, H⟩ = some (l, H)) (hn : OWk P false ops (k + 1) (sp n l H) Q) : OWk P false ops k st Q := by
  unfold tkAt at h
  split at h
  · rename_i o ho
    split at h
    · rename_i T x hop
      split at h
      · rename_i hc
        simp only [Bool.and_eq_true, Bool.not_eq_true'] at hc
        split at h
        · rename_i d' i' off' hd hp
          simp only [Option.some.injEq, Prod.mk.injEq] at h
          obtain ⟨rfl, rfl, rfl, rfl⟩ := h
          obtain ⟨g1, g2⟩ := opAt_inv ho
          obtain ⟨cs, e1, e2, rfl⟩ := hTake_eq hx
          exact OWk.heap n _ L l g1 g2 (OpS.takeH hop hd hp hc.1.1 hc.1.2 e1 e2 hc.2) hst hn
        · cases h
      · cases h
    · cases h
  · cases h
def gvAt (P : Program) (ops : Array Oper) (k : Nat) (st : St) : Option (Nat × Nat × Nat × Nat × List D × Hp) :=
  match opAt ops k st with
  | some o => match o.op with
    | .store T x (.tmp s) => if (!(P.underlying T).isNone && P.cellsOf T == 1 && st.tmps.all noHl && o.dst.isNone) = true then match ptrH st x, st.tmps[s]? with
      | some (i, off), some (.own n xs) => some (s, i, off, n, xs, st.H)
      | _, _ => none
      else none
    | _ => none
  | none => none
theorem OWk.gvH {α : Type} {c : Cd α} {xs : List α} (n : Nat) (L : List Nat) (l : List (Nat × SV)) (hx : hGive n' c H0 i off xs = some H) (h : gvAt P ops k st = some (s, i, off, n', xs.map c.enc, H0))
    (hst : pickR n L ⟨(st.take s).tmps, H⟩ = some (l, H)) (hn : OWk P false ops (k + 1) (sp n l H) Q) : OWk P false ops k st Q := by
  unfold gvAt at h
  split at h
  · rename_i o ho
    split at h
    · rename_i T x s' hop
      split at h
      · rename_i hc
        simp only [Bool.and_eq_true, Bool.not_eq_true', beq_iff_eq, Option.isNone_iff_eq_none] at hc
        split at h
        · rename_i i' off' n1 ys hp hs
          simp only [Option.some.injEq, Prod.mk.injEq] at h
          obtain ⟨rfl, rfl, rfl, rfl, rfl, rfl⟩ := h
          obtain ⟨g1, g2⟩ := opAt_inv ho
          obtain ⟨cs, e1, e2, rfl⟩ := hGive_eq hx
          exact OWk.heap n _ L l g1 g2 (OpS.giveH hop hc.2 hp hs hc.1.1.1 hc.1.1.2 e1 e2 hc.1.2) hst hn
        · cases h
      · cases h
    · cases h
  · cases h
end
end Go.Sh
namespace Go.Sh
/-- The fence that lets all in, in a round or in none. -/
def Fw : Option Nat → Fence
  | none => Fence.wide
  | some l => Fence.wide.inRound l
theorem Fw_fn (f : FuncId) : (Fw r).fn f := by cases r <;> trivial
theorem Fw_depth : (Fw r).depth = none := by cases r <;> rfl
theorem Fw_round : (Fw r).round = r := by cases r <;> rfl
theorem Fw_room (n : Nat) : (Fw r).room n := fun d hd => by rw [Fw_depth] at hd; cases hd
section
variable {P : Program} {ops : Array Oper} {st : St}
theorem callsIn_Fw {R : Ending → World → Prop} (h : Calls P f args w R) : CallsIn (Fw r) n P f args w R := by
  cases r with
  | none => exact callsIn_wide.2 h
  | some l => exact (callsIn_wide.2 h).inRound l
theorem rowsIn_Fw {R : Value → World → Prop} (h : Rows P row args w R) : RowsIn (Fw r) n P row args w R := by
  intro c cs _
  obtain ⟨v, w', hR, hs⟩ := h c cs
  refine ⟨v, w', hR, ?_⟩
  cases r with
  | none => exact stepsIn_wide.2 hs
  | some l => exact stepsIn_wide.2 hs
/-- It ends normally, and then so. -/
def NX (X : Act → World → Prop) : Exit → Act → World → Prop := fun e a w => e = .normal ∧ X a w
theorem NX.out {X : Act → World → Prop} : ¬ LetsOut (NX X) := fun ⟨_, _, h, _⟩ => by cases h
theorem uponIn_of {r : Option Nat} {n : Nat} {o : Oper} {a : Act} {N : Act → World → Prop} {X : Act → World → Prop} {Q : Exit → Act → World → Prop} {x : Result Next} (h : o.upon P a N (NX X) x) : o.uponIn (Fw r) n P a N Q x := by
  have hdep : (Fw r).depth.isSome = true → 1 ≤ n := fun h => by rw [Fw_depth] at h; cases h
  cases x with
  | ok nx w' =>
    cases nx <;> simp only [Oper.upon] at h <;> simp only [Oper.uponIn] <;> first
      | exact h
      | exact h.elim
      | (refine ⟨hdep, callsIn_Fw (h.mono fun e w'' hh => ?_)⟩
         cases e with
         | returned v => exact hh
         | panicked ch => cases hh.1
         | outgrown => exact absurd hh NX.out)
      | exact ⟨hdep, rowsIn_Fw h⟩
  | halt hh w' => cases hh <;> simp only [Oper.upon] at h <;> first | exact h.elim | cases h.1
theorem wpListIn_of {X : Act → World → Prop} {Q : Exit → Act → World → Prop} (hX : ∀ a w, X a w → wpListIn (Fw r) n P ops' Q rest a w) :
    ∀ (l : List Oper) (a : Act) (w : World), (∀ o ∈ l, ∀ c, o.op ≠ .defer c) → (∀ o ∈ l, ∀ j b, o.guard = some (j, b) → ops'[j]? = ops[j]?) → wpList P ops (NX X) l a w → wpListIn (Fw r) n P ops' Q (l ++ rest) a w
  | [], a, w, _, _, h => hX a w h.2
  | o :: l, a, w, hd, hg, h => by
    have e : Region.wanted o (yielded ops' a.tmps) = Region.wanted o (yielded ops a.tmps) := by
      unfold Region.wanted
      cases ho : o.guard with
      | none => rfl
      | some p =>
        obtain ⟨j, b⟩ := p
        simp only [yielded, hg o List.mem_cons_self j b ho]
    rw [List.cons_append]
    unfold wpList at h
    unfold wpListIn
    rw [e]
    split
    · rename_i hw
      rw [if_pos hw] at h
      rcases h with h | h
      · refine ⟨fun f _ => Fw_fn f, ?_⟩
        rw [Fw_round, Oper.semAt_eq r a.eval o (hd o List.mem_cons_self)]
        exact uponIn_of (Oper.wp_mono (K' := wpListIn (Fw r) n P ops' Q (l ++ rest)) (fun a' w' hh => wpListIn_of hX l a' w' (fun o ho => hd o (List.mem_cons_of_mem _ ho)) (fun o ho => hg o (List.mem_cons_of_mem _ ho)) hh) h)
      · exact absurd h.2 NX.out
    · rename_i hw
      rw [if_neg hw] at h
      exact ⟨fun f _ => Fw_fn f, wpListIn_of hX l _ w (fun o ho => hd o (List.mem_cons_of_mem _ ho)) (fun o ho => hg o (List.mem_cons_of_mem _ ho)) h⟩
def noDefer (l : List Oper) : Bool := l.all fun o => match o.op with | .defer _ => false | _ => true
theorem noDefer_spec (h : noDefer l = true) : ∀ o ∈ l, ∀ c, o.op ≠ .defer c := fun o ho c e => by
  have := List.all_eq_true.1 h o ho
  rw [e] at this
  cases this
/-- **A REGION OF A ROUND**, walked as any. -/
theorem wpIn_of_OW {r : Option Nat} {n id : Nat} {K : St → Prop} {Q : Exit → Act → World → Prop} {a : Act} {w : World} {g : Gh} (hd : noDefer ops.toList = true) (h : OWk P false ops 0 st K) (hr : Rel st a w g)
    (hq : ∀ st' a' w' g', K st' → Rel st' a' w' g' → Fr false g w g' w' → Q .normal a' w') : (Code.region id ops false).wpIn (Fw r) n P Q a w := by
  refine wpIn_region_list ?_
  unfold OWk at h
  rw [List.drop_zero] at h
  have h1 := h a w g hr (NX (Q .normal)) (fun st' a' w' g' q r f => ⟨rfl, hq st' a' w' g' q r f⟩)
  have := wpListIn_of (r := r) (n := n) (ops' := ops) (Q := Q) (rest := []) (fun a w h => wpListIn_nil h) ops.toList a w (noDefer_spec hd) (fun _ _ _ _ _ => rfl) h1
  rwa [List.append_nil] at this
/-! ## yield -/
/-- What stands while the loop is on: kept by all that the iterator does. -/
def CFr (C : Gh → World → Prop) : Prop := ∀ g w g' w', C g w → Fr false g w g' w' → C g' w'
/-- The contract of a call of yield: the round goes to its end. -/
def YB (P : Program) (C : Gh → World → Prop) (l : Nat) (args : List SV) (H H' : List SObj) : Prop :=
  ∀ (w : World) (g : Gh) (vs : Array Value), C g w → RArgs g w vs args → RH g w H → ∃ fn tmps assign body, (Instr.yield l vs).run P w = .ok (.round l fn tmps assign body) w ∧
    ∀ n, RoundIn Fence.wide n P l fn tmps assign body w fun e w' => e = .returned (.bool true) ∧ ∃ g', RH g' w' H' ∧ Fr false g w g' w' ∧ ∀ o, sharedO o = false → Keep o g w g' w'
/-- The shadow's wp of code that runs while the loop is on. -/
def SWC (P : Program) (C : Gh → World → Prop) (c : Code) (st : St) (Q : Exit → St → Prop) : Prop :=
  ∀ a w g, Rel st a w g → C g w → c.wp P (fun e a' w' => ∃ st' g', Q e st' ∧ Rel st' a' w' g' ∧ Fr false g w g' w') a w
variable {C : Gh → World → Prop} {Q : Exit → St → Prop}
theorem SWC.of (h : SW P false c st Q) : SWC P C c st Q := fun a w g hr _ => h a w g hr
theorem SWC.seq (hC : CFr C) (h : SWC P C x st (thenS (fun s => SWC P C y s Q) Q)) : SWC P C (.seq x y) st Q := by
  intro a w g hr hc
  refine wp_seq (Code.wp_mono (fun e a' w' hh => ?_) (h a w g hr hc))
  obtain ⟨st', g', q, r, f⟩ := hh
  cases e with
  | normal =>
    refine Code.wp_mono (fun e2 a2 w2 hh2 => ?_) (q a' w' g' r (hC _ _ _ _ hc f))
    obtain ⟨st2, g2, q2, r2, f2⟩ := hh2
    exact ⟨st2, g2, q2, r2, f.trans f2⟩
  | _ => exact ⟨st', g', q, r, f⟩
theorem SWC.kp (n : Nat) (H : List SObj) (L : List Nat) (l : List (Nat × SV)) (hst : pickR n L st = some (l, H)) (h : SWC P C c (sp n l H) Q) : SWC P C c st Q :=
  fun a w g hr hc => h a w g (hr.keepR (keepR_of_pick hst)) hc
end
end Go.Sh
namespace Go.Sh
section
variable {P : Program} {st : St}
theorem uses_out : ¬ uses t s .out := by
  intro h
  cases s <;> simp [uses] at h
/-- A block that nobody here speaks of is turned. -/
theorem Rel.outside (h : Rel st a w g) (hl : g.ow l = .out) (hw : ∀ k, k ≠ l → w'.heap[k]? = w.heap[k]?) : Rel st a w' g := by
  have hk : ∀ o, o ≠ .out → Keep o g w g w' := fun o ho k b h1 h2 => ⟨h1, by grind⟩
  refine Rel.step h h.len h.def0 (fun _ _ h => h) (fun t s hs => .inr (.inr ⟨hs, rfl, fun o' ho' => hk o' (fun e => by subst e; exact uses_out ho'), fun s0 e => ⟨rfl, fun x hx hb => ⟨x, hx, rfl⟩⟩⟩)) ?_
  exact h.hp.keep (fun o ho => hk o (fun e => by subst e; exact ho)) (fun _ _ h => h) rfl
theorem putObj_other {w : World} {l k : Nat} {o : Obj} (h : k ≠ l) : (w.putObj l o).heap[k]? = w.heap[k]? := World.putObj_heap_other h
/-- The shadow's wp of a round's code. -/
def SWR (P : Program) (r : Option Nat) (c : Code) (st : St) (K : St → Prop) : Prop :=
  ∀ n a w g, Rel st a w g → c.wpIn (Fw r) n P (fun e a' w' => e = .normal ∧ ∃ st' g', K st' ∧ Rel st' a' w' g' ∧ Fr false g w g' w') a w
variable {r : Option Nat} {K : St → Prop}
theorem SWR.region {ops : Array Oper} {id : Nat} (hd : noDefer ops.toList = true) (h : OWk P false ops 0 st K) : SWR P r (.region id ops false) st K :=
  fun n a w g hr => wpIn_of_OW hd h hr fun st' a' w' g' q r f => ⟨rfl, st', g', q, r, f⟩
theorem SWR.skip (h : K st) : SWR P r .skip st K := fun n a w g hr => wpIn_skip ⟨rfl, st, g, h, hr, Fr.refl _ _ _⟩
theorem SWR.block {id : Nat} {c : Code} (h : SWR P r c st K) : SWR P r (.block id c) st K := fun n a w g hr =>
  wpIn_block (Code.wpIn_mono (fun e a' w' hh => by obtain ⟨rfl, hh⟩ := hh; exact ⟨rfl, hh⟩) (h n a w g hr))
/-- The loop's record lies there, and nobody else's hand is on it. -/
def CRec (l : Nat) (R : Loop) (ds : List (Nat × D)) (g : Gh) (w : World) : Prop :=
  w.heap[l]? = some (.loop R) ∧ g.ow l = .out ∧ ∀ t d, (t, d) ∈ ds → Rd g w (R.tmps.getD t undef) d
theorem CRec.fr : CFr (CRec l R ds) := fun g w g' w' h f =>
  ⟨(f.out l _ h.2.1 h.1).2, (f.out l _ h.2.1 h.1).1, fun t d hd => (h.2.2 t d hd).keep f.free f.rho⟩
/-- **A CALL OF YIELD, OUT OF THE ROUND's CODE.** -/
theorem YB.of_round {l tp : Nat} {R : Loop} {ds : List (Nat × D)} {y : D} {H H' : List SObj} {s0 : St} (hst : R.state = .ready) (hpe : R.pending = none) (hps : R.params = #[tp]) (hH : s0.H = H) (hlen : s0.tmps.length = R.tmps.size)
    (hs0 : ∀ t s, s0.tmps[t]? = some s → s = .undef ∨ ∃ d, s = .d d ∧ ((t = tp ∧ d = y) ∨ (t ≠ tp ∧ (t, d) ∈ ds)))
    (h : SWR P (some l) R.assign s0 (fun s1 => SWR P (some l) R.body s1 (fun s2 => s2.H = H'))) : YB P (CRec l R ds) l [.d y] H H' := by
  intro w g vs hC hRA hRH
  obtain ⟨hl1, hl2, hl3⟩ := hC
  obtain ⟨hv1, hv2⟩ := hRA
  obtain ⟨v, hv3, hv4⟩ := hv2 0 (.d y) rfl
  have hvs : vs = #[v] := by
    grind
  subst hvs
  have hv4 : Rd g w v y := hv4
  refine ⟨R.fn, R.tmps.setIfInBounds tp v, R.assign, R.body, ?_, fun n => ?_⟩
  · rw [run_yield hl1 (by rw [hps]; rfl), hps]
    simp
  · have hrel : Rel s0 { tmps := R.tmps.setIfInBounds tp v, defers := [] } w (g.ren (calleeOw [] [])) := by
      refine ⟨by simp [hlen], rfl, fun t s hs => ?_, ?_⟩
      · rcases hs0 t s hs with rfl | ⟨d, rfl, h | ⟨h1, h2⟩⟩
        · trivial
        · obtain ⟨rfl, rfl⟩ := h
          have hlt : t < R.tmps.size := by rw [← hlen]; exact get_lt hs
          have : valOf { tmps := R.tmps.setIfInBounds t v, defers := [] } t = v := by
            simp [valOf, Array.getD_eq_getD_getElem?, hlt]
          rw [this]
          exact hv4.keep (Keep.ren rfl) (fun _ _ h => h)
        · have : valOf { tmps := R.tmps.setIfInBounds tp v, defers := [] } t = R.tmps.getD t undef := by
            simp [valOf, Array.getD_eq_getD_getElem?, Array.getElem?_setIfInBounds, Ne.symm h1]
          rw [this]
          exact (hl3 t d h2).keep (Keep.ren rfl) (fun _ _ h => h)
      · rw [hH]
        exact hRH.keep (fun o' ho' => Keep.ren (by
          cases o' <;> simp only [usesH] at ho' <;> try rfl
          rename_i l
          cases l <;> simp only [usesH] at ho'
          rfl)) (fun _ _ h => h) rfl
    have hgl : (g.ren (calleeOw [] [])).ow l = .out := by simp [Gh.ren, hl2, calleeOw]
    refine roundIn_of_wpIn (F := Fence.wide) trivial (Code.wpIn_mono (fun e a1 w1 hh => ?_) (h n _ w _ hrel))
    obtain ⟨rfl, st1, g1, q1, r1, f1⟩ := hh
    obtain ⟨k1, k2⟩ := f1.out l _ hgl hl1
    refine ⟨_, run_beginRound k2 hst, ?_⟩
    have r2 := r1.outside (w' := w1.putObj l (.loop { R with state := .busy })) k1 (fun k hk => putObj_other hk)
    refine Code.wpIn_mono (fun e a3 w3 hh => ?_) (q1 n a1 _ g1 r2)
    obtain ⟨rfl, st3, g3, q3, r3, f3⟩ := hh
    have hbusy : (w1.putObj l (.loop { R with state := .busy })).heap[l]? = some (.loop { R with state := .busy }) := World.putObj_heap_same (Array.getElem?_eq_some_iff.1 k2).1
    obtain ⟨m1, m2⟩ := f3.out l _ k1 hbusy
    refine ⟨_, _, run_endRound none m2, rfl, ?_⟩
    have hR : ({ { R with state := .busy } with state := if (none : Option Code).isNone then .ready else .done, pending := none } : Loop) = R := by
      simp [← hst, ← hpe]
    rw [hR]
    have r4 := r3.outside (w' := w3.putObj l (.loop R)) m1 (fun k hk => putObj_other hk)
    have hl4 : (w3.putObj l (.loop R)).heap[l]? = some (.loop R) := World.putObj_heap_same (Array.getElem?_eq_some_iff.1 m2).1
    have hback : ∀ {o : Own}, Keep o (g.ren (calleeOw [] [])) w g1 w1 → Keep o g1 (w1.putObj l (.loop { R with state := .busy })) g3 w3 → Keep o (g.ren (calleeOw [] [])) w g3 (w3.putObj l (.loop R)) := fun {o} ha hb k b e1 e2 => by
      obtain ⟨x1, x2⟩ := ha k b e1 e2
      by_cases hk : k = l
      · grind
      · obtain ⟨y1, y2⟩ := hb k b x1 (by rw [putObj_other hk]; exact x2)
        exact ⟨y1, by rw [putObj_other hk]; exact y2⟩
    have hfr : Fr false (g.ren (calleeOw [] [])) w g3 (w3.putObj l (.loop R)) := by
      refine ⟨?_, hback f1.free f3.free, hback f1.out f3.out, fun i k h => f3.rho i k (f1.rho i k h), nofun, nofun, nofun, ?_⟩
      · have h1 := f1.size
        have h2 := f3.size
        simp only [World.putObj, Array.size_setIfInBounds] at h2 ⊢
        omega
      · exact f1.os.trans f3.os
    have hRH3 : RH g3 (w3.putObj l (.loop R)) H' := by rw [← q3]; exact r4.hp
    obtain ⟨p1, p2⟩ := callH_post 0 hfr hRH3
    exact ⟨_, p2, p1, fun o ho => keepH (t := 0) hfr ho⟩
end
end Go.Sh
