/- slices.Insert into a list of one's own: exact steps. -/
import Derived.Test.YtjkhgfoecplbgaaSh32
import Derived.Laws.Externs
import Derived.IntWalk
set_option linter.all false
set_option autoImplicit true
set_option relaxedAutoImplicit true
set_option linter.unusedVariables false
set_option linter.unusedSimpArgs false
namespace Go.Sh
section
variable {P : Program} {pu : Bool} {st : St} {ops : Array Oper}

theorem x_add {a : Act} {w : World} {o : Oper} {I I2 ty : TypeId} {x y : Operand} {p q : Int} (hx : a.eval x = .int .i64 p) (hy : a.eval y = .int .i64 q) (h : -9223372036854775808 ≤ p + q ∧ p + q ≤ 9223372036854775807) :
    (execOp a.eval { o with op := .binOp .add I x y I2, type := ty }).run P w = .ok (.value (.int .i64 (p + q))) w := by
  have : (do eqGuard .add I x y (.int .i64 p) (.int .i64 q); binOp .add I (.int .i64 p) (.int .i64 q) : Sem Value).run P w = .ok (.int .i64 (IntKind.wrap .i64 (p + q))) w := rfl
  rw [IntWalk.i64_in _ h] at this
  unfold execOp
  simp only [hx, hy]
  simp only [Sem.run_bind] at this ⊢
  rw [this]
  rfl

theorem x_sub {a : Act} {w : World} {o : Oper} {I I2 ty : TypeId} {x y : Operand} {p q : Int} (hx : a.eval x = .int .i64 p) (hy : a.eval y = .int .i64 q) (h : -9223372036854775808 ≤ p - q ∧ p - q ≤ 9223372036854775807) :
    (execOp a.eval { o with op := .binOp .sub I x y I2, type := ty }).run P w = .ok (.value (.int .i64 (p - q))) w := by
  have : (do eqGuard .sub I x y (.int .i64 p) (.int .i64 q); binOp .sub I (.int .i64 p) (.int .i64 q) : Sem Value).run P w = .ok (.int .i64 (IntKind.wrap .i64 (p - q))) w := rfl
  rw [IntWalk.i64_in _ h] at this
  unfold execOp
  simp only [hx, hy]
  simp only [Sem.run_bind] at this ⊢
  rw [this]
  rfl

theorem x_gtr {a : Act} {w : World} {o : Oper} {I I2 ty : TypeId} {x y : Operand} {p q : Int} (hx : a.eval x = .int .i64 p) (hy : a.eval y = .int .i64 q) :
    (execOp a.eval { o with op := .binOp .gtr I x y I2, type := ty }).run P w = .ok (.value (.bool (decide (p > q)))) w := by
  have : (do eqGuard .gtr I x y (.int .i64 p) (.int .i64 q); binOp .gtr I (.int .i64 p) (.int .i64 q) : Sem Value).run P w = .ok (.bool (decide (p > q))) w := rfl
  unfold execOp
  simp only [hx, hy]
  simp only [Sem.run_bind] at this ⊢
  rw [this]
  rfl

theorem x_not {a : Act} {w : World} {o : Oper} {I ty : TypeId} {x : Operand} {b : Bool} (hx : a.eval x = .bool b) :
    (execOp a.eval { o with op := .unOp .not I x, type := ty }).run P w = .ok (.value (.bool !b)) w := by
  unfold execOp
  simp only [hx]
  rfl

theorem x_cap {a : Act} {w : World} {o : Oper} {T e ty : TypeId} {x : Operand} {b : Option Addr} {n c : Nat} (hu : P.underlying T = some (.slice e)) (hx : a.eval x = .slice b n c) :
    (execOp a.eval { o with op := .call ⟨.builtin .cap, #[x], #[T]⟩, type := ty }).run P w = .ok (.value (goInt c)) w := by
  unfold execOp
  simp only [resolve, List.map_toArray, List.map_cons, List.map_nil, Sem.run_bind, Sem.run_pure, Result.andThen_ok, invoke, builtin, hx]
  simp [Builtin.cap_, run_underlying hu]

theorem x_sliceHi {a : Act} {w : World} {o : Oper} {T e ty : TypeId} {x y : Operand} (hu : P.underlying T = some (.slice e)) (hz : P.cellsOf e ≠ 0) {k off len cap : Nat} {i : Int} (hx : a.eval x = .slice (some ⟨k, off, none⟩) len cap) (hy : a.eval y = .int .i64 i) (h0 : 0 ≤ i) (h1 : i ≤ cap) :
    (execOp a.eval { o with op := .slice T x none (some y) none, type := ty }).run P w = .ok (.value (.slice (some ⟨k, off, none⟩) i.toNat cap)) w := by
  show (do pure (.value (← Instr.sliceAt T (a.eval x) none (some (a.eval y)) none)) : Sem Next).run P w = _
  simp only [Sem.run_bind]
  rw [hx, hy, run_sliceHi hu hz h0 h1]
  rfl

theorem x_sliceLo {a : Act} {w : World} {o : Oper} {T e ty : TypeId} {x y : Operand} (hu : P.underlying T = some (.slice e)) (hz : P.cellsOf e ≠ 0) {k off len cap : Nat} {i : Int} (hx : a.eval x = .slice (some ⟨k, off, none⟩) len cap) (hy : a.eval y = .int .i64 i) (h0 : 0 ≤ i) (h1 : i ≤ len) :
    (execOp a.eval { o with op := .slice T x (some y) none none, type := ty }).run P w = .ok (.value (.slice (some ⟨k, if cap = i.toNat then off else off + i.toNat * P.cellsOf e, none⟩) (len - i.toNat) (cap - i.toNat))) w := by
  show (do pure (.value (← Instr.sliceAt T (a.eval x) (some (a.eval y)) none none)) : Sem Next).run P w = _
  simp only [Sem.run_bind]
  rw [hx, hy, run_sliceLo hu hz h0 h1]
  rfl

/-- copy(dst, src): so many cells from one place to another. -/
theorem x_copy {a : Act} {w w' : World} {o : Oper} {T T2 e ty : TypeId} {x y : Operand} {k off dl dc m n : Nat} {cs : Array Value} (hu : P.underlying T = some (.slice e)) (hz : P.cellsOf e = n) (hn : n ≠ 0) (hx : a.eval x = .slice (some ⟨k, off, none⟩) dl dc)
    (hl : (Builtin.lenOf (a.eval y)).run P w = .ok m w) (hc : (Builtin.firstCells n (Nat.min m dl) (a.eval y)).run P w = .ok cs w) (hs : (storeCells ⟨k, off, none⟩ cs.toList).run P w = .ok () w') :
    (execOp a.eval { o with op := .call ⟨.builtin .copy, #[x, y], #[T, T2]⟩, type := ty }).run P w = .ok (.value (goInt (Nat.min m dl))) w' := by
  subst hz
  unfold execOp
  simp only [resolve, List.map_toArray, List.map_cons, List.map_nil, Sem.run_bind, Sem.run_pure, Result.andThen_ok, invoke, builtin, hx]
  simp [Builtin.copy_, run_underlying hu, hl, sizeOf_ne hn, hc, hs]

theorem x_callF {a : Act} {w : World} {o : Oper} {f ty : Nat} {x y : Operand} {ts : Array TypeId} : (execOp a.eval { o with op := .call ⟨.value (.func f), #[x, y], ts⟩, type := ty }).run P w = (callFunc f #[a.eval x, a.eval y]).run P w := by
  unfold execOp
  simp only [resolve, Deferred.ofValue, List.map_toArray, List.map_cons, List.map_nil, Sem.run_bind, Sem.run_pure, Result.andThen_ok, invoke]
  rfl

/-- Two lists that share no memory do not overlap. -/
theorem run_overlaps {T e : TypeId} {ps rs : Array TypeId} (hp : ps[0]? = some T) (hu : P.underlying T = some (.slice e)) (hz : P.cellsOf e ≠ 0) {kv ov m cv k o2 lb cb : Nat} {av c : Array Value} {Tv T0 : TypeId} {fz : Nat × Nat} {w : World} (hv : w.heap[kv]? = some (.cells av Tv fz))
    (hb : w.heap[k]? = some (.cells c T0 (0, 0))) (hne : kv ≠ k) (hm : 0 < m) (hl : 0 < lb) (hav : 0 < av.size) :
    (Extern.SlicesOverlaps.overlaps ps rs #[.slice (some ⟨kv, ov, none⟩) m cv, .slice (some ⟨k, o2, none⟩) lb cb]).run P w = .ok (.bool false) w := by
  have f2 : ∀ q, w.frozen? ⟨k, q, none⟩ = false := fun q => by simp [World.frozen?, hb]
  have s1 : w.shape? kv = some (Tv, av.size) := by simp [World.shape?, hv]
  have s2 : w.shape? k = some (T0, c.size) := by simp [World.shape?, hb]
  have hne' : (kv == k) = false := by simpa using hne
  have hm0 : m ≠ 0 := by omega
  have hl0 : lb ≠ 0 := by omega
  have ha0 : av.size ≠ 0 := by omega
  have hsz : (sizeOf e).run P w = .ok (P.cellsOf e) w := sizeOf_ne hz w
  have hvw : ∀ q, (noView ⟨kv, q, none⟩).run P w = .ok () w := fun q => by simp [noView, viewAt, shape, Sem.run_bind, Sem.run, s1]
  have hbw : ∀ q, (noView ⟨k, q, none⟩).run P w = .ok () w := fun q => by simp [noView, viewAt, shape, Sem.run_bind, Sem.run, s2]
  have hst : ∀ q, ∃ b, (stringish ⟨kv, q, none⟩).run P w = .ok b w := fun q => by
    cases hf : w.frozen? ⟨kv, q, none⟩
    · exact ⟨w.frozen? ⟨kv, av.size, none⟩, by simp [stringish, frozen, shape, Sem.run_bind, Sem.run, s1, hf]⟩
    · exact ⟨true, by simp [stringish, frozen, shape, Sem.run_bind, Sem.run, s1, hf]⟩
  have hst2 : ∀ q, (stringish ⟨k, q, none⟩).run P w = .ok false w := fun q => by
    simp [stringish, frozen, shape, Sem.run_bind, Sem.run, s2, f2]
  obtain ⟨bs, hbs⟩ := hst ov
  have hmb : (mayBeOne ⟨kv, ov, none⟩ ⟨k, o2, none⟩).run P w = .ok false w := by
    simp [mayBeOne, shape, Sem.run_bind, Sem.run, hbs, hst2, s1, s2]
    intro _
    obtain ⟨p, hp⟩ : ∃ p, av.size = p + 1 := ⟨av.size - 1, by omega⟩
    rw [hp]
    rfl
  have hbody : Extern.SlicesOverlaps.overlaps ps rs #[.slice (some ⟨kv, ov, none⟩) m cv, .slice (some ⟨k, o2, none⟩) lb cb] = (do
      let some t := ps[0]? | stuck "slices.overlaps: no parameter types"
      let .slice elem ← underlying t | stuck "slices.overlaps: slice type expected"
      let size ← sizeOf elem
      if m = 0 ∨ lb = 0 ∨ size = 0 then pure (.bool false)
      else if kv != k && (← frozen ⟨kv, ov, none⟩) && (← frozen ⟨k, o2, none⟩) then unsupported .addressObserved
      else do
        if kv != k then do
          noView ⟨kv, ov, none⟩; noView ⟨k, o2, none⟩
          if ← mayBeOne ⟨kv, ov, none⟩ ⟨k, o2, none⟩ then return .bool ((← choose (.extern "sameAddr.stringBytes" 2)) == 1)
        pure (.bool (kv == k && ov < o2 + lb * size && o2 < ov + m * size))) := rfl
  rw [hbody]
  simp [hp, run_underlying hu, hsz, hm0, hl0, hz, hne', frozen, Sem.run, f2, hvw, hbw, hmb]

/-- append(s, make(S, m)...) where there is no room: a new row. -/
theorem x_appendMake {a : Act} {w : World} {T I e : TypeId} {x y : Operand} {ti : TypeInfo} {z : Value} {base : Option Addr} {sLen sCap m : Nat} {olds : Array Value} {ik : IntKind} (hx : a.eval x = .slice base sLen sCap) (hy : a.eval y = .int .i64 m)
    (ht : P.underlying T = some (.slice e)) (hI : P.underlying I = some (.int ik)) (hi : P.info? e = some ti) (hz : ti.zero = some z) (hn : ti.size ≠ 0)
    (hold : (Builtin.firstCells ti.size sLen (.slice base sLen sCap)).run P w.drew = .ok olds w.drew) (hm : 0 < m) (hc : sCap < sLen + m) (h63 : sLen + m ≤ maxLen) (hb : (sLen + m) * ti.bytes ≤ 140737488355328) :
    ∃ gc, sLen + m ≤ gc ∧ ∀ (o : Oper) (ty : TypeId), (execOp a.eval { o with op := .call ⟨.builtin .append, #[x, y], #[T, I]⟩, type := ty }).run P w = .ok (.value (.slice (some ⟨w.heap.size, 0, none⟩) (sLen + m) gc))
      (w.drew.alloc (.cells (olds ++ Builtin.zeroCells z.cells m ++ Builtin.zeroCells z.cells (gc - (sLen + m))) e)) := by
  refine ⟨grownCap w (sLen + m) sCap e, grownCap_ge w (sLen + m) sCap e, fun o ty => ?_⟩
  have h63' : ¬ ((9223372036854775807 : Int) < (sLen : Int) + (m : Int)) := by unfold maxLen at h63; omega
  have h64 : IntKind.i64.wrap (m : Int) = m := IntWalk.i64_in _ (by unfold maxLen at h63; omega)
  have hnr : ¬ (sLen + m ≤ sCap) := by omega
  have h48 : ¬ (281474976710656 < Builtin.nextslicecap (sLen + m) sCap * ti.bytes) := by have := growslice_fits hc hb; omega
  have hmb : ¬ ((281474976710656 : Int) < (m : Int) * (ti.bytes : Int)) := by
    have h1 : m * ti.bytes ≤ (sLen + m) * ti.bytes := Nat.mul_le_mul_right _ (by omega)
    have h2 : (m : Int) * (ti.bytes : Int) = ((m * ti.bytes : Nat) : Int) := by rw [Int.natCast_mul]
    rw [h2]; omega
  have hmz : ¬ (m * ti.size = 0) := Nat.mul_ne_zero (by omega) hn
  have hm0 : ¬ m = 0 := by omega
  refine run_append_call (x := x) (y := y) rfl rfl rfl rfl ?_
  rw [hx, hy]
  simp [Builtin.append_, run_underlying ht, run_underlying hI, sizeOf, typeInfo, zeroValue, hi, hz, asInt, asIntOf, h64, hmb, hnr, h63', h48, hmz, hm0, hn, Question.forced, hold, newRow, grownCap]
  intro h
  omega
end
end Go.Sh
