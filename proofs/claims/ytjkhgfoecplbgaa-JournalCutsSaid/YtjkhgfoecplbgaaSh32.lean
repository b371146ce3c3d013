/- Steps with exact values; slices.Delete and slices.Insert of a list of one's own. -/
import Derived.Test.YtjkhgfoecplbgaaSh31
set_option linter.all false
set_option autoImplicit true
set_option relaxedAutoImplicit true
set_option linter.unusedVariables false
set_option linter.unusedSimpArgs false
namespace Go.Sh

theorem ev_ne {a : Act} {d t : Nat} {v : Value} (h : d ≠ t) : (a.put (some d) v).eval (.tmp t) = a.eval (.tmp t) := eval_put_other (fun e => h (by injection e with e; exact e.symm))
theorem ev_eq {a : Act} {d : Nat} {v : Value} (h : d < a.tmps.size) : (a.put (some d) v).eval (.tmp d) = v := valOf_put_same h
theorem put_sz {a : Act} {d : Option Tmp} {v : Value} : (a.put d v).tmps.size = a.tmps.size := put_size

section
variable {P : Program} {pu : Bool} {st : St} {ops : Array Oper}

/-- An operation, as far as it matters. -/
def isOp (o : Oper) (d : Option Tmp) (op : Op) : Prop := o.dst = d ∧ o.op = op ∧ o.guard = none

theorem still_val {o : Oper} {rest : List Oper} {a : Act} {w : World} {v : Value} {Q : Act → Prop} {d : Option Tmp} {op : Op} (ho : isOp o d op) (hrun : ∀ ty, (execOp a.eval { o with op := op, type := ty }).run P w = .ok (.value v) w) (h : wpStill P ops w Q rest (a.put d v)) :
    wpStill P ops w Q (o :: rest) a := by
  obtain ⟨h1, h2, h3⟩ := ho
  unfold wpStill
  rw [show Region.wanted o (yielded ops a.tmps) = true by unfold Region.wanted; rw [h3], if_pos rfl]
  unfold Oper.still
  have := hrun o.type
  subst h2
  rw [this, Oper.stillUpon_value, h1]
  exact h

theorem list_val {o : Oper} {rest : List Oper} {a : Act} {w w' : World} {v : Value} {Q : Exit → Act → World → Prop} {d : Option Tmp} {op : Op} (ho : isOp o d op) (hrun : ∀ ty, (execOp a.eval { o with op := op, type := ty }).run P w = .ok (.value v) w') (h : wpList P ops Q rest (a.put d v) w') :
    wpList P ops Q (o :: rest) a w := by
  obtain ⟨h1, h2, h3⟩ := ho
  have := hrun o.type
  subst h2
  subst h1
  exact wpList_val h3 this h

theorem x_move {a : Act} {w : World} {o : Oper} {x : Operand} {ty : TypeId} : (execOp a.eval { o with op := .move x, type := ty }).run P w = .ok (.value (a.eval x)) w := rfl
theorem x_assign {a : Act} {w : World} {o : Oper} {x : Operand} {ty : TypeId} : (execOp a.eval { o with op := .assign x, type := ty }).run P w = .ok (.value (a.eval x)) w := rfl

theorem addr_add0 (k off : Nat) : (⟨k, off, none⟩ : Addr).add 0 = ⟨k, off, none⟩ := by simp [Addr.add_lit]

/-- s[:i], s[i:]: exactly. -/
theorem run_sliceHi {T e : TypeId} (hu : P.underlying T = some (.slice e)) (hz : P.cellsOf e ≠ 0) {k off len cap : Nat} {i : Int} {ik : IntKind} (h0 : 0 ≤ i) (h1 : i ≤ cap) (w : World) :
    (Instr.sliceAt T (.slice (some ⟨k, off, none⟩) len cap) none (some (.int ik i)) none).run P w = .ok (.slice (some ⟨k, off, none⟩) i.toNat cap) w := by
  simp [Instr.sliceAt, Instr.slice, Instr.sliceBounds, Instr.sliceBound, asIntOf, run_underlying hu, h0, h1, sizeOf_ne hz, addr_add0]

theorem run_sliceLo {T e : TypeId} (hu : P.underlying T = some (.slice e)) (hz : P.cellsOf e ≠ 0) {k off len cap : Nat} {i : Int} {ik : IntKind} (h0 : 0 ≤ i) (h1 : i ≤ len) (w : World) :
    (Instr.sliceAt T (.slice (some ⟨k, off, none⟩) len cap) (some (.int ik i)) none none).run P w = .ok (.slice (some ⟨k, if cap = i.toNat then off else off + i.toNat * P.cellsOf e, none⟩) (len - i.toNat) (cap - i.toNat)) w := by
  simp [Instr.sliceAt, Instr.slice, Instr.sliceBounds, Instr.sliceBound, asIntOf, run_underlying hu, h0, h1, sizeOf_ne hz, Addr.add_lit]
  split <;> rfl

theorem RFlat.get {g : Gh} {w : World} {a : Array Value} {n : Nat} {xs : List D} (h : RFlat g w a n xs) : a.size = xs.length * n := h.1

theorem RFlat.take {g : Gh} {w : World} {a : Array Value} {n : Nat} {xs : List D} (h : RFlat g w a n xs) {i : Nat} (hi : i ≤ xs.length) : RFlat g w (a.extract 0 (i * n)) n (xs.take i) := by
  obtain ⟨h1, h2, h3⟩ := h
  have hin : i * n ≤ xs.length * n := Nat.mul_le_mul_right _ hi
  refine ⟨by simp [h1, Nat.min_eq_left hi, Nat.min_eq_left hin], fun p x hx => ?_, fun p x hx q y hy => ?_⟩
  · rw [List.getElem?_take] at hx
    split at hx
    · exact h2 p x hx
    · cases hx
  · rw [List.getElem?_take] at hx
    split at hx
    · rename_i hp
      obtain ⟨u, u1, u2⟩ := h3 p x hx q y hy
      have hq : q < n := by rw [← h2 p x hx]; exact get_lt hy
      have : (p + 1) * n ≤ i * n := Nat.mul_le_mul_right _ hp
      rw [Nat.succ_mul] at this
      refine ⟨u, ?_, u2⟩
      rw [Array.getElem?_extract, if_pos (by rw [h1]; omega), Nat.zero_add]
      exact u1
    · cases hx

theorem RFlat.drop {g : Gh} {w : World} {a : Array Value} {n : Nat} {xs : List D} (h : RFlat g w a n xs) {i : Nat} (hi : i ≤ xs.length) : RFlat g w (a.extract (i * n) (xs.length * n)) n (xs.drop i) := by
  obtain ⟨h1, h2, h3⟩ := h
  have hin : i * n ≤ xs.length * n := Nat.mul_le_mul_right _ hi
  refine ⟨by simp [h1, Nat.sub_mul], fun p x hx => ?_, fun p x hx q y hy => ?_⟩
  · rw [List.getElem?_drop] at hx
    exact h2 _ x hx
  · rw [List.getElem?_drop] at hx
    obtain ⟨u, u1, u2⟩ := h3 _ x hx q y hy
    have hq : q < n := by rw [← h2 _ x hx]; exact get_lt hy
    have hlt := get_lt hx
    have : (i + p + 1) * n ≤ xs.length * n := Nat.mul_le_mul_right _ hlt
    rw [Nat.succ_mul, Nat.add_mul] at this
    refine ⟨u, ?_, u2⟩
    rw [Array.getElem?_extract, if_pos (by rw [h1]; omega)]
    rw [Nat.add_mul, Nat.add_assoc] at u1
    exact u1

/-- A list of one's own out of what stands in a block. -/
theorem ROwn.win {g g' : Gh} {w w' : World} {o : Loc} {flat c : Array Value} {n cap k off : Nat} {ys : List D} {T : TypeId} (hfl : RFlat g w flat n ys) (hb : w'.heap[k]? = some (.cells c T (0, 0))) (ho : g'.ow k = .lst o)
    (hcap : ys.length ≤ cap) (hsz : off + cap * n ≤ c.size) (hw : ∀ q, q < ys.length * n → c[off + q]? = flat[q]?) (hk : Keep .free g w g' w') (hρ : KeepR g g') : ROwn g' w' o (.slice (some ⟨k, off, none⟩) ys.length cap) n ys := by
  obtain ⟨h1, h2, h3⟩ := hfl
  refine .inr ⟨k, off, cap, c, T, fun i j => flat.getD (i * n + j) undef, rfl, ho, hb, hcap, hsz, h2, fun i x hx j y hy => ?_, fun i x hx j y hy => ?_⟩
  · obtain ⟨u, u1, u2, u3⟩ := h3 i x hx j y hy
    have hg : flat.getD (i * n + j) undef = u := by simp [Array.getD_eq_getD_getElem?, u1]
    have hj : j < n := by rw [← h2 i x hx]; exact get_lt hy
    have := get_lt hx
    have : (i + 1) * n ≤ ys.length * n := Nat.mul_le_mul_right _ this
    rw [Nat.succ_mul] at this
    simp only [hg]
    refine ⟨?_, u3⟩
    rw [Nat.add_assoc, hw _ (by omega), u1]
  · obtain ⟨u, u1, u2, u3⟩ := h3 i x hx j y hy
    have hg : flat.getD (i * n + j) undef = u := by simp [Array.getD_eq_getD_getElem?, u1]
    simp only [hg]
    exact u2.keep hk hρ

theorem ROwn.flatC {g : Gh} {w : World} {o : Loc} {n : Nat} {xs : List D} {k off len cap : Nat} {c : Array Value} {T : TypeId} {us : Nat → Nat → Value} (hn : 0 < n) (hl : len = xs.length) (hcap : xs.length ≤ cap) (hsz : off + cap * n ≤ c.size)
    (hw : ∀ (i : Nat) (x : D), xs[i]? = some x → x.cells.length = n) (hcc : ∀ (i : Nat) (x : D), xs[i]? = some x → ∀ (j : Nat) (y : D), x.cells[j]? = some y → c[off + i * n + j]? = some (us i j) ∧ (us i j).oneCell' = true)
    (hrr : ∀ (i : Nat) (x : D), xs[i]? = some x → ∀ (j : Nat) (y : D), x.cells[j]? = some y → Rd g w (us i j) y) : RFlat g w (c.extract off (off + xs.length * n)) n xs := by
  have hs : off + xs.length * n ≤ c.size := by
    have : xs.length * n ≤ cap * n := Nat.mul_le_mul_right _ hcap
    omega
  refine ⟨by simp [Nat.min_eq_left hs], hw, fun i x hx j y hy => ⟨us i j, ?_, hrr i x hx j y hy, (hcc i x hx j y hy).2⟩⟩
  have hj : j < n := by rw [← hw i x hx]; exact get_lt hy
  have := get_lt hx
  have : (i + 1) * n ≤ xs.length * n := Nat.mul_le_mul_right _ this
  rw [Nat.succ_mul] at this
  rw [Array.getElem?_extract, if_pos (by omega), ← Nat.add_assoc]
  exact (hcc i x hx j y hy).1

/-- Slots written with what nobody asks for. -/
def St.junk (st : St) : List Nat → St
  | [] => st
  | t :: ts => (st.put (some t) .undef).junk ts

/-- 's = append(s[:i], s[j:]...)', s a list of one's own. -/
theorem delR_wp {id : Nat} {o1 o2 o3 o4 o5 o6 o7 o8 : Oper} {T e : TypeId} {ti : TypeInfo} {z : Value} {n : Nat} {xs : List D} {i j : Int} {t1 t2 t3 t4 t5 t6 t7 s a1 a2 : Nat}
    (hm : P.follows .mixedOrders = true) (hB : Region.lexTailB .any #[o1, o2, o3, o4, o5, o6, o7, o8] 6 = true)
    (h1 : isOp o1 (some t1) (.move (.tmp s))) (h2 : isOp o2 (some t2) (.move (.tmp a1))) (h3 : isOp o3 (some t3) (.slice T (.tmp t1) none (some (.tmp t2)) none)) (h4 : isOp o4 (some t4) (.move (.tmp s))) (h5 : isOp o5 (some t5) (.move (.tmp a2)))
    (h6 : isOp o6 (some t6) (.slice T (.tmp t4) (some (.tmp t5)) none none)) (h7 : isOp o7 (some t7) (.call ⟨.builtin .append, #[.tmp t3, .tmp t6], #[T, T]⟩)) (h8 : isOp o8 (some s) (.assign (.tmp t7)))
    (hN : (decide (t1 < st.tmps.length) && decide (t2 < st.tmps.length) && decide (t3 < st.tmps.length) && decide (t4 < st.tmps.length) && decide (t5 < st.tmps.length) && decide (t6 < st.tmps.length) && decide (t7 < st.tmps.length)) = true)
    (hd : List.Pairwise (· ≠ ·) [s, a1, a2, t1, t2, t3, t4, t5, t6, t7])
    (hT : P.underlying T = some (.slice e)) (hi : P.info? e = some ti) (hz : ti.zero = some z) (hsize : ti.size = n) (hn : 0 < n) (hby : ti.bytes ≤ 65536)
    (hs : st.tmps[s]? = some (.own n xs)) (hi1 : valD st (.tmp a1) = some (.int .i64 i)) (hj1 : valD st (.tmp a2) = some (.int .i64 j)) (hij : (decide (0 ≤ i) && decide (i < j) && decide (j ≤ xs.length) && decide (xs.length ≤ room)) = true)
    {a : Act} {w : World} {g : Gh} (hr : Rel st a w g) :
    (Code.region id #[o1, o2, o3, o4, o5, o6, o7, o8] true).wp P (fun e a' w' => e = .normal ∧ ∃ g', Rel (((st.junk [t1, t2, t3, t4, t5, t6, t7]).take s).put (some s) (.own n (xs.take i.toNat ++ xs.drop j.toNat))) a' w' g' ∧ Fr pu g w g' w' ∧
      ∃ k off cap, valOf a' s = .slice (some ⟨k, off, none⟩) (xs.take i.toNat ++ xs.drop j.toNat).length cap ∧ xs.length ≤ cap) a w := by
  simp only [Bool.and_eq_true, decide_eq_true_eq] at hN hij
  obtain ⟨⟨⟨⟨⟨⟨n1, n2⟩, n3⟩, n4⟩, n5⟩, n6⟩, n7⟩ := hN
  obtain ⟨⟨⟨i0, ij⟩, jl⟩, hroom⟩ := hij
  simp only [List.pairwise_cons, List.mem_cons, List.not_mem_nil, or_false, ne_eq, forall_eq_or_imp, forall_eq, List.Pairwise.nil, and_true, false_imp_iff, implies_true] at hd
  obtain ⟨⟨sa1, sa2, s1, s2, s3, s4, s5, s6, s7⟩, ⟨a12, b1, b2, b3, b4, b5, b6, b7⟩, ⟨c1, c2, c3, c4, c5, c6, c7⟩, ⟨d12, d13, d14, d15, d16, d17⟩, ⟨d23, d24, d25, d26, d27⟩, ⟨d34, d35, d36, d37⟩, ⟨d45, d46, d47⟩, ⟨d56, d57⟩, d67⟩ := hd
  have hce : P.cellsOf e = n := by simp [Program.cellsOf, hi, hsize]
  have hn0 : P.cellsOf e ≠ 0 := by omega
  rcases (hr.tmp s _ hs : ROwn g w (.slot s) (valOf a s) n xs) with ⟨rfl, -⟩ | ⟨k, off, cap, c, T0, us, hv, hk, hb, hl, hz', hw, hcc, hrr⟩
  · simp at jl; omega
  have hlen := hr.len
  have e1 : a.eval (.tmp a1) = .int .i64 i := valD_leaf hr hi1 rfl
  have e2 : a.eval (.tmp a2) = .int .i64 j := valD_leaf hr hj1 rfl
  have es : a.eval (.tmp s) = .slice (some ⟨k, off, none⟩) xs.length cap := hv
  refine wp_region_still_tail (l := [o1, o2, o3, o4, o5, o6, o7, o8]) 6 hm hB ?_
  show wpStill P _ w.drew (fun a' => wpList P _ _ [o7, o8] a' w.drew) [o1, o2, o3, o4, o5, o6] a
  refine still_val h1 (v := .slice (some ⟨k, off, none⟩) xs.length cap) (fun _ => by rw [x_move, es]) ?_
  refine still_val h2 (v := .int .i64 i) (fun _ => by rw [x_move, ev_ne (Ne.symm b1), e1]) ?_
  refine still_val h3 (v := .slice (some ⟨k, off, none⟩) i.toNat cap) (fun ty => ?_) ?_
  · show (do pure (.value (← Instr.sliceAt T _ none (some _) none)) : Sem Next).run P w.drew = _
    simp only [Sem.run_bind]
    rw [ev_ne (Ne.symm d12), ev_eq (by omega), ev_eq (by rw [put_sz]; omega), run_sliceHi hT hn0 i0 (by omega)]
    rfl
  refine still_val h4 (v := .slice (some ⟨k, off, none⟩) xs.length cap) (fun _ => by rw [x_move, ev_ne (Ne.symm s3), ev_ne (Ne.symm s2), ev_ne (Ne.symm s1), es]) ?_
  refine still_val h5 (v := .int .i64 j) (fun _ => by rw [x_move, ev_ne (Ne.symm c4), ev_ne (Ne.symm c3), ev_ne (Ne.symm c2), ev_ne (Ne.symm c1), e2]) ?_
  refine still_val h6 (v := .slice (some ⟨k, if cap = j.toNat then off else off + j.toNat * n, none⟩) (xs.length - j.toNat) (cap - j.toNat)) (fun ty => ?_) ?_
  · show (do pure (.value (← Instr.sliceAt T _ (some _) none none)) : Sem Next).run P w.drew = _
    simp only [Sem.run_bind]
    rw [ev_ne (Ne.symm d45), ev_eq (by simp only [put_sz]; omega), ev_eq (by simp only [put_sz]; omega), run_sliceLo hT hn0 (by omega) jl, hce]
    rfl
  generalize ha6 : (((((a.put (some t1) (.slice (some ⟨k, off, none⟩) xs.length cap)).put (some t2) (.int .i64 i)).put (some t3) (.slice (some ⟨k, off, none⟩) i.toNat cap)).put (some t4) (.slice (some ⟨k, off, none⟩) xs.length cap)).put (some t5) (.int .i64 j)).put (some t6)
    (.slice (some ⟨k, if cap = j.toNat then off else off + j.toNat * n, none⟩) (xs.length - j.toNat) (cap - j.toNat)) = a6
  have hrd : Rel st a w.drew g := hr.drew
  have u : ∀ {v : Value}, Light g w.drew v .undef := trivial
  have r6 : Rel ((((((st.put (some t1) .undef).put (some t2) .undef).put (some t3) .undef).put (some t4) .undef).put (some t5) .undef).put (some t6) .undef) a6 w.drew g := by
    subst ha6
    exact (((((hrd.putLight (some t1) u).putLight (some t2) u).putLight (some t3) u).putLight (some t4) u).putLight (some t5) u).putLight (some t6) u
  have v3 : a6.eval (.tmp t3) = .slice (some ⟨k, off, none⟩) i.toNat cap := by subst ha6; rw [ev_ne (Ne.symm d36), ev_ne (Ne.symm d35), ev_ne (Ne.symm d34), ev_eq (by simp only [put_sz]; omega)]
  have v6 : a6.eval (.tmp t6) = .slice (some ⟨k, if cap = j.toNat then off else off + j.toNat * n, none⟩) (xs.length - j.toNat) (cap - j.toNat) := by subst ha6; rw [ev_eq (by simp only [put_sz]; omega)]
  have hlen6 : a6.tmps.size = st.tmps.length := by subst ha6; simp only [put_sz]; exact hlen
  clear ha6
  -- append
  have hcapn : xs.length * n ≤ cap * n := Nat.mul_le_mul_right _ hl
  have hjn : j.toNat * n + (xs.length - j.toNat) * n = xs.length * n := by rw [← Nat.add_mul]; congr 1; omega
  have hin : i.toNat * n ≤ j.toNat * n := Nat.mul_le_mul_right _ (by omega)
  let news := c.extract (off + j.toNat * n) (off + xs.length * n)
  have hbd : w.drew.heap[k]? = some (.cells c T0 (0, 0)) := hb
  have hnews : ∀ w', Up w.drew w' → (Builtin.firstCells n (xs.length - j.toNat) (.slice (some ⟨k, if cap = j.toNat then off else off + j.toNat * n, none⟩) (xs.length - j.toNat) (cap - j.toNat))).run P w' = .ok news w' := fun w' hup => by
    simp only [Builtin.firstCells]
    split
    · rename_i hcj
      have h0 : xs.length - j.toNat = 0 := by omega
      have : news = #[] := by
        refine Array.eq_empty_of_size_eq_zero ?_
        simp [news]; rw [h0] at hjn; omega
      rw [h0, this, Nat.zero_mul]
      simp [loadCells, loadCellsFrom]
    · rw [run_cells (P := P) (hup _ _ hbd) (by omega)]
      congr 1
      simp only [news]
      congr 1
      omega
  have hap := fun ty => append_exec (P := P) (T := T) (T2 := T) (ty := ty) (e := e) (i := ti) (z := z) (v := .slice (some ⟨k, off, none⟩) i.toNat cap) (x := .slice (some ⟨k, if cap = j.toNat then off else off + j.toNat * n, none⟩) (xs.length - j.toNat) (cap - j.toNat)) (w := w.drew)
    (m := xs.length - j.toNat) (news := news) (olds := c.extract off (off + i.toNat * n)) rfl hT hi hz ⟨_, hT, by simp⟩ (fun _ => rfl) (by rw [hsize]; exact hnews) (fun w' hup => by
      rw [hsize]
      simp only [Builtin.firstCells]
      rw [run_cells (P := P) (hup _ _ hbd) (by omega)]) (by unfold maxLen; unfold room at hroom; omega) (by
      unfold room at hroom
      have : (i.toNat + (xs.length - j.toNat)) * ti.bytes ≤ 16777216 * 65536 := Nat.mul_le_mul (by omega) hby
      omega)
  have hin' := fun ty => (hap ty).1 (by omega)
  simp only [hsize] at hin'
  have hnsz : news.size = (xs.length - j.toNat) * n := by simp [news]; omega
  have hone : ∀ v ∈ news.toList, v.oneCell' = true := by
    have := (ROwn.flatC (g := g) (w := w) (k := k) (T := T0) (o := .slot s) hn rfl hl hz' hw hcc hrr).one
    intro v hv'
    refine this v ?_
    simp only [news, Array.mem_toList_iff, Array.mem_extract_iff_getElem] at hv' ⊢
    obtain ⟨q, hq1, rfl⟩ := hv'
    exact ⟨j.toNat * n + q, by omega, by congr 1; omega⟩
  obtain ⟨w', q1, q2, q3, c', q4, q5, q6⟩ := run_storeCells' (P := P) k (off + i.toNat * n) T0 news.toList 0 c w.drew hbd (by simp [hnsz]; omega) hone
  refine list_val h7 (v := .slice (some ⟨k, off, none⟩) (i.toNat + (xs.length - j.toNat)) cap) (w' := w') (fun ty => ?_) ?_
  · refine run_append_call (a := a6) (x := .tmp t3) (y := .tmp t6) rfl rfl rfl rfl ?_
    rw [v3, v6, hin' ty]
    simp only [Addr.add_lit, q1, Result.andThen_ok]
  refine list_val h8 (v := .slice (some ⟨k, off, none⟩) (i.toNat + (xs.length - j.toNat)) cap) (w' := w') (fun _ => by rw [x_assign, ev_eq (by omega)]) ?_
  -- the end
  let zs := xs.take i.toNat ++ xs.drop j.toNat
  have hzl : zs.length = i.toNat + (xs.length - j.toNat) := by simp [zs]; omega
  have hkeep : ∀ o', o' ≠ .lst (.slot s) → Keep o' g w.drew g w' := fun o' ho => Keep.block hk ho q3
  have r7 : Rel (st.junk [t1, t2, t3, t4, t5, t6, t7]) (a6.put (some t7) (.slice (some ⟨k, off, none⟩) (i.toNat + (xs.length - j.toNat)) cap)) w.drew g := r6.putLight (some t7) u
  have hfl := ROwn.flatC (g := g) (w := w) (k := k) (T := T0) (o := .slot s) hn rfl hl hz' hw hcc hrr
  have hin2 : i.toNat * n + (xs.length - j.toNat) * n ≤ xs.length * n := by omega
  have hO : ROwn g w' (.slot s) (.slice (some ⟨k, off, none⟩) (i.toNat + (xs.length - j.toNat)) cap) n zs := by
    rw [← hzl]
    refine ROwn.win ((hfl.take (i := i.toNat) (by omega)).append (hfl.drop (i := j.toNat) (by omega))) q4 hk (by omega) (by rw [q5]; exact hz') (fun q hq => ?_) (hkeep _ (by simp)) (fun _ _ h => h)
    rw [hzl, Nat.add_mul] at hq
    have hmin : min i.toNat xs.length = i.toNat := by omega
    have hsz1 : ((c.extract off (off + xs.length * n)).extract 0 (i.toNat * n)).size = i.toNat * n := by rw [(hfl.take (i := i.toNat) (by omega)).1, List.length_take, hmin]
    have hszF := hfl.1
    rw [q6]
    by_cases hq1 : q < i.toNat * n
    · rw [if_neg (by omega), Array.getElem?_append_left (by omega), Array.getElem?_extract, if_pos (by simp [hmin]; omega), Array.getElem?_extract, if_pos (by omega)]
      congr 1; omega
    · rw [if_pos (by simp [hnsz]; omega), Array.getElem?_append_right (by omega), hsz1, Array.getElem?_toList, Array.getElem?_extract, if_pos (by simp [hnsz]; omega), Array.getElem?_extract, if_pos (by simp; omega), Array.getElem?_extract, if_pos (by omega)]
      congr 1; omega
  have hfin := Rel.replace r7 (s := s) (d := s) (sv := .own n zs) (v' := .slice (some ⟨k, off, none⟩) (i.toNat + (xs.length - j.toNat)) cap) hkeep rfl (fun _ _ => hO)
  refine ⟨rfl, g, hfin, (Fr.drew).trans (Fr.keepBut (l := .slot s) (by simp) (by rw [q2]; exact Nat.le_refl _) hkeep rfl (storeCells_os (P := P) k (off + i.toNat * n) T0 news.toList 0 c w.drew w' hbd (by simp [hnsz]; omega) hone q1)), k, off, cap, ?_, hl⟩
  rw [valOf_put_same (by rw [put_sz, hlen6]; exact get_lt hs), hzl]

theorem run_sliceB {T e : TypeId} (hu : P.underlying T = some (.slice e)) (hz : P.cellsOf e ≠ 0) {k off len cap : Nat} {i j : Int} {ik jk : IntKind} (h0 : 0 ≤ i) (h1 : i ≤ j) (h2 : j ≤ cap) (w : World) :
    (Instr.sliceAt T (.slice (some ⟨k, off, none⟩) len cap) (some (.int ik i)) (some (.int jk j)) none).run P w = .ok (.slice (some ⟨k, if cap = i.toNat then off else off + i.toNat * P.cellsOf e, none⟩) (j.toNat - i.toNat) (cap - i.toNat)) w := by
  have hj : 0 ≤ j := by omega
  have hij : i ≤ max j 0 := by omega
  simp [Instr.sliceAt, Instr.slice, Instr.sliceBounds, Instr.sliceBound, asIntOf, run_underlying hu, h0, h1, h2, hj, hij, sizeOf_ne hz, Addr.add_lit]
  split <;> rfl

theorem run_clear_call {o : Oper} {c : Call} {a : Act} {w : World} {x : Operand} {T : TypeId} (hop : o.op = .call c) (hc : c.callee = .builtin .clear) (ha : c.args.toList = [x]) (ht : c.argTypes.toList = [T]) {v : Value} {w' : World}
    (h : (Builtin.clear_ #[T] o.type #[a.eval x]).run P w = .ok v w') : (execOp a.eval o).run P w = .ok (.value v) w' := by
  obtain ⟨callee, args, argTypes⟩ := c
  have ha2 : args = #[x] := by apply Array.ext'; simpa using ha
  have ht2 : argTypes = #[T] := by apply Array.ext'; simpa using ht
  subst ha2 ht2
  simp only at hc
  subst hc
  unfold execOp
  rw [hop]
  simp only [resolve, List.map_toArray, List.map_cons, List.map_nil, Sem.run_bind, Sem.run_pure, Result.andThen_ok, invoke, builtin]
  simp [h]

theorem run_len_call {o : Oper} {c : Call} {a : Act} {w : World} {x : Operand} {T e : TypeId} {b : Option Addr} {n cap : Nat} (hop : o.op = .call c) (hc : c.callee = .builtin .len) (ha : c.args.toList = [x]) (ht : c.argTypes.toList = [T]) (hu : P.underlying T = some (.slice e))
    (hx : a.eval x = .slice b n cap) : (execOp a.eval o).run P w = .ok (.value (goInt n)) w := by
  obtain ⟨callee, args, argTypes⟩ := c
  have ha2 : args = #[x] := by apply Array.ext'; simpa using ha
  have ht2 : argTypes = #[T] := by apply Array.ext'; simpa using ht
  subst ha2 ht2
  simp only at hc
  subst hc
  unfold execOp
  rw [hop]
  simp only [resolve, List.map_toArray, List.map_cons, List.map_nil, Sem.run_bind, Sem.run_pure, Result.andThen_ok, invoke, builtin, hx]
  simp [Builtin.len_, run_underlying hu]

theorem zeroCells_one {z : Value} {d : D} (hz : constD z = some d) (m : Nat) : ∀ v ∈ (Builtin.zeroCells z.cells m).toList, v.oneCell' = true := by
  intro v hv
  have hrd : Rd ⟨fun _ => .free, []⟩ (default : World) z d := constD_rd hz
  obtain ⟨c1, c2⟩ := hrd.cells
  simp only [Builtin.zeroCells, Array.toList_map, List.mem_map] at hv
  obtain ⟨i, hi, rfl⟩ := hv
  have hi' : i < m * z.cells.size := by simpa using hi
  have h0 : 0 < z.cells.size := by
    rcases Nat.eq_zero_or_pos z.cells.size with h | h
    · rw [h] at hi'; omega
    · exact h
  have hlt : i % z.cells.size < z.cells.size := Nat.mod_lt _ h0
  obtain ⟨u, u1, -, u3⟩ := c2 (i % z.cells.size) (d.cells[i % z.cells.size]'(by omega)) (by simp)
  have : z.cells[i % z.cells.size]! = u := by
    rw [Array.getElem!_eq_getD]
    simp [Array.getD_eq_getD_getElem?, u1]
  rw [this]; exact u3

/-- 's = append(s[:i], s[j:]...); clear(s[len(s):oldlen])'. -/
theorem SW.del {id id2 : Nat} {o1 o2 o3 o4 o5 o6 o7 o8 p1 p2 p3 p4 p5 p6 : Oper} {Y : Code} {T e : TypeId} {ti : TypeInfo} {z : Value} {zd : D} {n : Nat} {xs : List D} {i j : Int} {Q : Exit → St → Prop} {t1 t2 t3 t4 t5 t6 t7 s a1 a2 a3 u1 u2 u3 u4 u5 : Nat} {st2 : St}
    (hm : P.follows .mixedOrders = true) (hB : Region.lexTailB .any #[o1, o2, o3, o4, o5, o6, o7, o8] 6 = true)
    (h1 : isOp o1 (some t1) (.move (.tmp s))) (h2 : isOp o2 (some t2) (.move (.tmp a1))) (h3 : isOp o3 (some t3) (.slice T (.tmp t1) none (some (.tmp t2)) none)) (h4 : isOp o4 (some t4) (.move (.tmp s))) (h5 : isOp o5 (some t5) (.move (.tmp a2)))
    (h6 : isOp o6 (some t6) (.slice T (.tmp t4) (some (.tmp t5)) none none)) (h7 : isOp o7 (some t7) (.call ⟨.builtin .append, #[.tmp t3, .tmp t6], #[T, T]⟩)) (h8 : isOp o8 (some s) (.assign (.tmp t7)))
    (k1 : isOp p1 (some u1) (.move (.tmp s))) (k2 : isOp p2 (some u2) (.move (.tmp s))) (k3 : isOp p3 (some u3) (.call ⟨.builtin .len, #[.tmp u2], #[T]⟩)) (k4 : isOp p4 (some u4) (.move (.tmp a3)))
    (k5 : isOp p5 (some u5) (.slice T (.tmp u1) (some (.tmp u3)) (some (.tmp u4)) none)) (k6 : isOp p6 none (.call ⟨.builtin .clear, #[.tmp u5], #[T]⟩))
    (hN : (decide (t1 < st.tmps.length) && decide (t2 < st.tmps.length) && decide (t3 < st.tmps.length) && decide (t4 < st.tmps.length) && decide (t5 < st.tmps.length) && decide (t6 < st.tmps.length) && decide (t7 < st.tmps.length)) = true)
    (hN2 : (decide (u1 < st.tmps.length) && decide (u2 < st.tmps.length) && decide (u3 < st.tmps.length) && decide (u4 < st.tmps.length) && decide (u5 < st.tmps.length)) = true)
    (hd : List.Pairwise (· ≠ ·) [s, a1, a2, t1, t2, t3, t4, t5, t6, t7]) (hd2 : List.Pairwise (· ≠ ·) [s, a3, u1, u2, u3, u4, u5])
    (hT : P.underlying T = some (.slice e)) (hi : P.info? e = some ti) (hz : ti.zero = some z) (hzd : constD z = some zd) (hzn : z.cells.size = n) (hsize : ti.size = n) (hn : 0 < n) (hby : ti.bytes ≤ 65536)
    (hs : st.tmps[s]? = some (.own n xs)) (hi1 : valD st (.tmp a1) = some (.int .i64 i)) (hj1 : valD st (.tmp a2) = some (.int .i64 j)) (hij : (decide (0 ≤ i) && decide (i < j) && decide (j ≤ xs.length) && decide (xs.length ≤ room)) = true)
    (hst2 : ((st.junk [t1, t2, t3, t4, t5, t6, t7]).take s).put (some s) (.own n (xs.take i.toNat ++ xs.drop j.toNat)) = st2) (h3v : valD st2 (.tmp a3) = some (.int .i64 xs.length))
    (hq : SW P pu Y (st2.junk [u1, u2, u3, u4, u5]) Q) :
    SW P pu (.seq (.region id #[o1, o2, o3, o4, o5, o6, o7, o8] true) (.seq (.region id2 #[p1, p2, p3, p4, p5, p6] false) Y)) st Q := by
  intro a w g hr
  refine wp_seq (Code.wp_mono (fun ex a1' w1 hh => ?_) (delR_wp (pu := pu) (a1 := a1) (a2 := a2) hm hB h1 h2 h3 h4 h5 h6 h7 h8 hN hd hT hi hz hsize hn hby hs hi1 hj1 hij hr))
  obtain ⟨rfl, g1, hr1, hf1, k, off, cap, hv, hcap⟩ := hh
  rw [hst2] at hr1
  simp only [Bool.and_eq_true, decide_eq_true_eq] at hN2 hij
  obtain ⟨⟨⟨⟨n1, n2⟩, n3⟩, n4⟩, n5⟩ := hN2
  obtain ⟨⟨⟨i0, ij⟩, jl⟩, hroom⟩ := hij
  simp only [List.pairwise_cons, List.mem_cons, List.not_mem_nil, or_false, ne_eq, forall_eq_or_imp, forall_eq, List.Pairwise.nil, and_true, false_imp_iff, implies_true] at hd2
  obtain ⟨⟨s3, s1, s2, s4, s5, s6⟩, ⟨b1, b2, b3, b4, b5⟩, ⟨d12, d13, d14, d15⟩, ⟨d23, d24, d25⟩, ⟨d34, d35⟩, d45⟩ := hd2
  have hlen1 : a1'.tmps.size = st.tmps.length := by
    rw [hr1.len, ← hst2]; simp [St.junk]
  have hce : P.cellsOf e = n := by simp [Program.cellsOf, hi, hsize]
  have hn0 : P.cellsOf e ≠ 0 := by omega
  let zs := xs.take i.toNat ++ xs.drop j.toNat
  have hzl : zs.length = i.toNat + (xs.length - j.toNat) := by simp [zs]; omega
  have hs1 : st2.tmps[s]? = some (.own n zs) := by
    rw [← hst2]
    have hlt : s < ((st.junk [t1, t2, t3, t4, t5, t6, t7]).take s).tmps.length := by simp [St.junk]; exact get_lt hs
    simp only [St.put]
    rw [List.getElem?_eq_getElem hlt]
    simp only
    split
    · simp only [St.set]; rw [List.getElem?_set_self (by simpa using hlt)]
    · simp only [St.set]; rw [List.getElem?_set_self hlt]
  have hO : ROwn g1 w1 (.slot s) (valOf a1' s) n zs := hr1.tmp s _ hs1
  have ev0 : a1'.eval (.tmp s) = .slice (some ⟨k, off, none⟩) zs.length cap := hv
  have ev3 : a1'.eval (.tmp a3) = .int .i64 xs.length := valD_leaf hr1 h3v rfl
  refine wp_seq (wp_region_lit (l := [p1, p2, p3, p4, p5, p6]) ?_)
  refine list_val k1 (w' := w1) (v := .slice (some ⟨k, off, none⟩) zs.length cap) (fun _ => by rw [x_move, ev0]) ?_
  refine list_val k2 (w' := w1) (v := .slice (some ⟨k, off, none⟩) zs.length cap) (fun _ => by rw [x_move, ev_ne (Ne.symm s1), ev0]) ?_
  refine list_val k3 (w' := w1) (v := goInt zs.length) (fun ty => ?_) ?_
  · exact run_len_call rfl rfl rfl rfl hT (ev_eq (by rw [put_sz]; omega))
  refine list_val k4 (w' := w1) (v := .int .i64 xs.length) (fun _ => by rw [x_move, ev_ne (Ne.symm b3), ev_ne (Ne.symm b2), ev_ne (Ne.symm b1), ev3]) ?_
  refine list_val k5 (w' := w1) (v := .slice (some ⟨k, off + zs.length * n, none⟩) (xs.length - zs.length) (cap - zs.length)) (fun ty => ?_) ?_
  · show (do pure (.value (← Instr.sliceAt T _ (some _) (some _) none)) : Sem Next).run P w1 = _
    simp only [Sem.run_bind]
    rw [ev_ne (Ne.symm d14), ev_ne (Ne.symm d13), ev_ne (Ne.symm d12), ev_eq (by omega), ev_ne (Ne.symm d34), ev_eq (by simp only [put_sz]; omega), ev_eq (by simp only [put_sz]; omega)]
    rw [show goInt zs.length = .int .i64 zs.length from rfl, run_sliceB hT hn0 (by omega) (by omega) (by omega), if_neg (by omega), hce]
    rfl
  rcases hO with ⟨hz0, a0, hva⟩ | ⟨k', off', cap', c, T0, us, hva, hk, hb, hl, hzz, hw, hcc, hrr⟩
  · have : valOf a1' s = .slice (some ⟨k, off, none⟩) zs.length cap := hv
    rw [hva] at this
    simp only [Value.slice.injEq] at this
    omega
  · have hveq : valOf a1' s = .slice (some ⟨k, off, none⟩) zs.length cap := hv
    rw [hva] at hveq
    simp only [Value.slice.injEq, Option.some.injEq, Addr.mk.injEq, true_and, and_true] at hveq
    obtain ⟨⟨rfl, rfl⟩, rfl⟩ := hveq
    have hzm : zs.length * n + (xs.length - zs.length) * n = xs.length * n := by rw [← Nat.add_mul]; congr 1; omega
    have hcn : xs.length * n ≤ cap' * n := Nat.mul_le_mul_right _ hcap
    obtain ⟨w', q1, q2, q3, c', q4, q5, q6⟩ := run_storeCells' (P := P) k' (off' + zs.length * n) T0 (Builtin.zeroCells z.cells (xs.length - zs.length)).toList 0 c w1 hb (by simp [size_zeroCells, hzn]; omega) (zeroCells_one hzd _)
    refine list_val k6 (v := .tuple #[]) (w' := w') (fun ty => ?_) ?_
    · refine run_clear_call (x := .tmp u5) rfl rfl rfl rfl ?_
      rw [ev_eq (by simp only [put_sz]; omega)]
      obtain ⟨m, hm⟩ : ∃ m, xs.length - zs.length = m + 1 := ⟨xs.length - zs.length - 1, by omega⟩
      have hzv : (zeroValue e).run P w1 = .ok z w1 := by simp [zeroValue, typeInfo, hi, hz]
      rw [hm] at q1 ⊢
      simp [Builtin.clear_, run_underlying hT, hzv, q1]
    have hkeep : ∀ o', o' ≠ .lst (.slot s) → Keep o' g1 w1 g1 w' := fun o' ho => Keep.block hk ho q3
    have u : ∀ {v : Value}, Light g1 w' v .undef := trivial
    have hO' : ROwn g1 w' (.slot s) (valOf a1' s) n zs := by
      rw [hva]
      refine ROwn.win (ROwn.flatC (g := g1) (w := w1) (k := k') (T := T0) (o := .slot s) hn rfl hl hzz hw hcc hrr) q4 hk hl (by rw [q5]; exact hzz) (fun q hq => ?_) (hkeep _ (by simp)) (fun _ _ h => h)
      rw [q6, if_neg (by omega), Array.getElem?_extract, if_pos (by omega)]
    have hr2 : Rel st2 a1' w' g1 := by
      refine Rel.step hr1 hr1.len hr1.def0 (fun _ _ h => h) (fun t sv hts => ?_) (hr1.hp.keep (fun o ho => hkeep o fun e => by subst e; exact ho.elim) (fun _ _ h => h) rfl)
      by_cases ht : t = s
      · subst ht
        rw [hs1] at hts; cases hts
        exact .inr (.inl hO')
      · refine .inr (.inr ⟨hts, rfl, fun o ho => hkeep o fun e => ?_, fun s' _ => ⟨rfl, fun x hx _ => ⟨x, hx, rfl⟩⟩⟩)
        subst e
        rw [← hst2] at hts
        rcases St.put_get ht hts with h | ⟨h, -⟩
        · subst h; exact ho.elim
        · rcases St.take_get h with h | ⟨-, -, h⟩
          · subst h; exact ho.elim
          · exact (uses_mention ht h ho).2.1 rfl
    have hr3 := ((((hr2.putLight (some u1) (v := .slice (some ⟨k', off', none⟩) zs.length cap') u).putLight (some u2) (v := .slice (some ⟨k', off', none⟩) zs.length cap') u).putLight (some u3) (v := goInt zs.length) u).putLight (some u4) (v := .int .i64 xs.length) u).putLight (some u5) (v := .slice (some ⟨k', off' + zs.length * n, none⟩) (xs.length - zs.length) (cap' - zs.length)) u
    simp only [St.junk] at hq
    refine Code.wp_mono (fun e2 a2' w2 hh2 => ?_) (hq _ w' g1 (hr3.putLight none (v := .tuple #[]) u))
    obtain ⟨st3, g3, q, r, f⟩ := hh2
    exact ⟨st3, g3, q, r, hf1.trans ((Fr.keepBut (l := .slot s) (by simp) (by rw [q2]; exact Nat.le_refl _) hkeep rfl (storeCells_os (P := P) k' (off' + zs.length * n) T0 _ 0 c w1 w' hb (by simp [size_zeroCells, hzn]; omega) (zeroCells_one hzd _) q1)).trans f)⟩
end
end Go.Sh
