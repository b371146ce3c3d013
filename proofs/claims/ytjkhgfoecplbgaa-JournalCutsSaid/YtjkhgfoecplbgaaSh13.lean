/- A variable is written; lists are made and grow. -/
import Derived.Test.YtjkhgfoecplbgaaSh12
set_option linter.all false
set_option autoImplicit true
set_option relaxedAutoImplicit true
namespace Go.Sh
set_option linter.unusedSimpArgs false
set_option linter.unusedVariables false

section
variable {P : Program} {pu : Bool} {st : St}

/-- A cell that may stand alone. -/
def oneD : D → Bool
  | .agg _ => false
  | _ => true

/-- A value is stored into a box. -/
def storeBox (P : Program) (st : St) (T : TypeId) (x y : Operand) : Option St :=
  match asLoc st x, valD st y with
  | some (s, off), some d => match boxAt st s with
    | some cs => if (P.underlying T).isNone = false ∧ d.cells.length = P.cellsOf T ∧ off + P.cellsOf T ≤ cs.length then some (st.set s (.box (setCells cs off d.cells))) else none
    | none => none
  | _, _ => none

theorem setCells_get {cs : List SV} {off : Nat} {ys : List D} {j : Nat} {s : SV} (hb : off + ys.length ≤ cs.length) (h : (setCells cs off ys)[j]? = some s) :
    (off ≤ j ∧ j < off + ys.length ∧ ∃ y, ys[j - off]? = some y ∧ s = .d y) ∨ ((j < off ∨ off + ys.length ≤ j) ∧ cs[j]? = some s) := by
  unfold setCells at h
  by_cases c1 : j < off
  · rw [List.append_assoc, List.getElem?_append_left (by simp; omega), List.getElem?_take, if_pos c1] at h
    exact .inr ⟨.inl c1, h⟩
  · by_cases c2 : j < off + ys.length
    · rw [List.getElem?_append_left (by simp; omega), List.getElem?_append_right (by simp; omega)] at h
      simp only [List.length_take, List.getElem?_map, Option.map_eq_some_iff] at h
      rw [Nat.min_eq_left (by omega)] at h
      obtain ⟨y, h1, rfl⟩ := h
      exact .inl ⟨by omega, c2, y, h1, rfl⟩
    · rw [List.getElem?_append_right (by simp; omega), List.getElem?_drop] at h
      simp only [List.length_append, List.length_take, List.length_map] at h
      rw [Nat.min_eq_left (by omega), show off + ys.length + (j - (off + ys.length)) = j by omega] at h
      exact .inr ⟨.inr (by omega), h⟩

theorem setCells_len {cs : List SV} {off : Nat} {ys : List D} (hb : off + ys.length ≤ cs.length) : (setCells cs off ys).length = cs.length := by
  simp [setCells]; omega

/-- One block of an owner's has changed. -/
theorem Keep.block {g : Gh} {w w' : World} {k : Nat} {tag o : Own} (hk : g.ow k = tag) (ho : o ≠ tag) (hw : ∀ k', k' ≠ k → w'.heap[k']? = w.heap[k']?) : Keep o g w g w' := by
  intro k' b h1 h2
  have : k' ≠ k := by rintro rfl; exact ho (h1.symm.trans hk)
  exact ⟨h1, by rw [hw k' this]; exact h2⟩

theorem OpS.store {o : Oper} {T : TypeId} {x y : Operand} {st' : St} (hop : o.op = .store T x y) (hd : o.dst = none) (hv : storeBox P st T x y = some st') : OpS P pu st o st' := by
  refine OpS.skip fun a w g hr => ?_
  unfold storeBox at hv
  split at hv
  · rename_i s off d hx hy
    split at hv
    · rename_i cs hb
      split at hv
      · rename_i hc
        obtain ⟨hu, hsz, hfit⟩ := hc
        cases hv
        have hs : st.tmps[s]? = some (.box cs) := by
          unfold boxAt at hb
          split at hb
          · cases hb; assumption
          · cases hb
        obtain ⟨cs', k, e1, e2, e3⟩ := asLoc_sound hr hx
        obtain ⟨k', c, T0, f1, f2, f3, f4, f5⟩ := hr.tmp s _ hs
        rw [e2] at f1
        simp only [Value.pointer.injEq, Option.some.injEq, Addr.mk.injEq, and_true] at f1
        subst f1
        have hrd := valD_d hr hy
        obtain ⟨c1, c2⟩ := hrd.cells
        have hone : ∀ v ∈ (a.eval y).cells.toList, v.oneCell' = true := fun v hv => by
          obtain ⟨j, hj⟩ := List.mem_iff_getElem?.1 hv
          have hlt : j < d.cells.length := by rw [← c1]; have := get_lt hj; simpa using this
          obtain ⟨u, u1, u2, u3⟩ := c2 j d.cells[j] (by simp [hlt])
          have : u = v := by
            have hj' : (a.eval y).cells[j]? = some v := by simpa using hj
            rw [u1] at hj'; exact Option.some.inj hj'
          rw [← this]; exact u3
        obtain ⟨w', r1, r2, r3, c', r4, r5, r6⟩ := run_storeCells' (P := P) k off T0 (a.eval y).cells.toList 0 c w f3 (by simp [c1]; omega) hone
        refine ⟨w', g, ?_, ?_, ?_⟩
        · unfold execOp; rw [hop]
          simp only [Instr.storeAt, Sem.run_bind, e3, Instr.sureAddr, Sem.run_pure, Result.andThen_ok, storeVar, run_sizeOf' hu]
          rw [if_neg (by rw [c1, hsz]; simp), r1]
          rfl
        · rw [hd]
          have hlt := get_lt hs
          refine Rel.step hr (by simp [hr.len, put_size]) hr.def0 (fun _ _ h => h) (fun t s' hs' => ?_) ?_
          · by_cases ht : t = s
            · subst ht
              rw [St.set, List.getElem?_set_self hlt] at hs'
              cases hs'
              refine .inr (.inl ⟨k, c', T0, e2, f2, r4, by rw [r5, f4, setCells_len (by omega)], fun j sv hj => ?_⟩)
              have hkp : ∀ o', o' ≠ .box t → Keep o' g w g w' := fun o' ho => Keep.block f2 ho r3
              rcases setCells_get (by omega) hj with ⟨h1, h2, y', h3, rfl⟩ | ⟨h1, h2⟩
              · obtain ⟨u, u1, u2, u3⟩ := c2 _ _ h3
                refine ⟨u, ?_, Rd.keep (hkp _ (by simp)) (fun _ _ h => h) u2, u3⟩
                rw [r6, if_pos (by simp [c1]; omega)]
                simpa using u1
              · obtain ⟨u, u1, u2, u3⟩ := f5 j sv h2
                refine ⟨u, ?_, u2.keep (hkp _ (by simp)) (hkp _ (by simp)) (fun _ _ h => h), u3⟩
                rw [r6, if_neg (by simp [c1]; omega)]
                exact u1
            · simp only [St.set, List.getElem?_set_ne (Ne.symm ht)] at hs'
              refine .inr (.inr ⟨hs', rfl, fun o' ho' => Keep.block f2 (fun e => ?_) r3, fun s1 e => ⟨rfl, fun xq hxq hb => ?_⟩⟩)
              · subst e
                cases s' <;> simp [uses] at ho'
                exact ht ho'.symm
              · by_cases h1 : s1 = s
                · subst h1
                  rw [hs] at hxq; cases hxq
                  exact ⟨.box (setCells cs _ d.cells), by rw [St.set, List.getElem?_set_self hlt], rfl⟩
                · exact ⟨xq, by simp [St.set, List.getElem?_set_ne (Ne.symm h1), hxq], rfl⟩
          · refine hr.hp.keep (fun o' ho' => Keep.block f2 (fun e => ?_) r3) (fun _ _ h => h) rfl
            subst e
            exact ho'.elim
        · exact Fr.of (fun o => o = .box s) (by rintro _ rfl; simp) (by rw [r2]; exact Nat.le_refl _) (fun o' ho' => Keep.block f2 ho' r3) rfl (storeCells_os (P := P) k off T0 (a.eval y).cells.toList 0 c w w' f3 (by simp [c1]; omega) hone r1)
      · cases hv
    · cases hv
  · cases hv

/-! ## append -/

/-- Cells that read as a list's elements, one behind the other. -/
def RFlat (g : Gh) (w : World) (news : Array Value) (n : Nat) (ys : List D) : Prop :=
  news.size = ys.length * n ∧ (∀ (i : Nat) (x : D), ys[i]? = some x → x.cells.length = n) ∧
  ∀ (i : Nat) (x : D), ys[i]? = some x → ∀ (j : Nat) (y : D), x.cells[j]? = some y → ∃ u, news[i * n + j]? = some u ∧ Rd g w u y ∧ u.oneCell' = true

theorem RFlat.one {g : Gh} {w : World} {news : Array Value} {n : Nat} {ys : List D} (h : RFlat g w news n ys) : ∀ v ∈ news.toList, v.oneCell' = true := by
  intro v hv
  obtain ⟨j, hj⟩ := List.mem_iff_getElem?.1 hv
  have hlt : j < ys.length * n := by rw [← h.1]; have := get_lt hj; simpa using this
  have hn : 0 < n := by
    rcases Nat.eq_zero_or_pos n with h0 | h0
    · subst h0; omega
    · exact h0
  have h1 : j / n < ys.length := (Nat.div_lt_iff_lt_mul hn).2 hlt
  have h2 : j % n < n := Nat.mod_lt _ hn
  have hw := h.2.1 (j / n) ys[j / n] (by simp [h1])
  obtain ⟨u, u1, u2, u3⟩ := h.2.2 (j / n) ys[j / n] (by simp [h1]) (j % n) (ys[j / n].cells[j % n]'(by omega)) (by simp)
  rw [Nat.div_add_mod' j n] at u1
  have : u = v := by
    have hj' : news[j]? = some v := by simpa using hj
    rw [u1] at hj'; exact Option.some.inj hj'
  rw [← this]; exact u3

/-- The cells of a list that may be read. -/
theorem RList.flat {g : Gh} {w : World} {l : Option Loc} {v : Value} {n : Nat} {xs : List D} (hn : 0 < n) (h : RList g w l v n xs) :
    ∃ news, RFlat g w news n xs ∧ (∀ w', (Builtin.lenOf v).run P w' = .ok xs.length w') ∧ ∀ w', Up w w' → (Builtin.firstCells n xs.length v).run P w' = .ok news w' := by
  rcases h with ⟨rfl, a, cap, rfl⟩ | ⟨k, off, cap, c, T, fz, us, rfl, hk, hb, hp, hw, hc, hr⟩
  · refine ⟨#[], ⟨by simp, by simp, by simp⟩, fun _ => rfl, fun w' _ => ?_⟩
    cases a <;> simp [Builtin.firstCells, loadCells, loadCellsFrom]
  · rcases Nat.eq_zero_or_pos xs.length with h0 | h0
    · have : xs = [] := List.eq_nil_of_length_eq_zero h0
      subst this
      refine ⟨#[], ⟨by simp, by simp, by simp⟩, fun _ => rfl, fun w' _ => ?_⟩
      simp [Builtin.firstCells, loadCells, loadCellsFrom]
    have hs : off + xs.length * n ≤ c.size := by
      have hlt : xs.length - 1 < xs.length := by omega
      have hx : xs[xs.length - 1]? = some xs[xs.length - 1] := by simp [hlt]
      have hcl := hw _ _ hx
      obtain ⟨h1, -⟩ := hc _ _ hx (n - 1) (xs[xs.length - 1].cells[n - 1]'(by omega)) (by simp)
      have := arr_lt h1
      have h2 : xs.length * n = (xs.length - 1) * n + n := by
        obtain ⟨m, hm⟩ : ∃ m, xs.length = m + 1 := ⟨xs.length - 1, by omega⟩
        rw [hm, Nat.add_sub_cancel, Nat.succ_mul]
      omega
    refine ⟨c.extract off (off + xs.length * n), ⟨?_, hw, fun i x hx j y hy => ?_⟩, fun _ => rfl, fun w' hw' => ?_⟩
    · simp [Nat.min_eq_left hs]
    · refine ⟨us i j, ?_, hr i x hx j y hy, (hc i x hx j y hy).2⟩
      have hi := get_lt hx
      have hj : j < n := by rw [← hw i x hx]; exact get_lt hy
      have hlt : i * n + j < xs.length * n := by
        have : (i + 1) * n ≤ xs.length * n := Nat.mul_le_mul_right n hi
        rw [Nat.succ_mul] at this
        omega
      rw [Array.getElem?_extract, if_pos (by omega), ← Nat.add_assoc]
      exact (hc i x hx j y hy).1
    · simp only [Builtin.firstCells]
      exact run_cells (P := P) (hw' _ _ hb) hs

/-- The text of a string as a list of bytes. -/
def byteDs (l : List UInt8) : List D := l.map fun b => .int .u8 b.toNat

theorem str_flat {g : Gh} {w : World} {l : List UInt8} :
    ∃ news, RFlat g w news 1 (byteDs l) ∧ (∀ w', (Builtin.lenOf (.string (mk l))).run P w' = .ok (byteDs l).length w') ∧ ∀ w', (Builtin.firstCells 1 (byteDs l).length (.string (mk l))).run P w' = .ok news w' := by
  refine ⟨(l.map fun b => Value.int .u8 b.toNat).toArray, ⟨by simp [byteDs], fun i x hx => ?_, fun i x hx j y hy => ?_⟩, fun w' => ?_, fun w' => ?_⟩
  · simp only [byteDs, List.getElem?_map, Option.map_eq_some_iff] at hx
    obtain ⟨b, -, rfl⟩ := hx; rfl
  · simp only [byteDs, List.getElem?_map, Option.map_eq_some_iff] at hx
    obtain ⟨b, hb, rfl⟩ := hx
    cases j with
    | zero => simp [D.cells] at hy; subst hy; exact ⟨.int .u8 b.toNat, by simp [hb], .int, rfl⟩
    | succ j => simp [D.cells] at hy
  · simp [Builtin.lenOf, byteDs, mk_size]
  · simp only [Builtin.firstCells, byteDs, List.length_map, Sem.run_pure]
    congr 1
    apply Array.ext'
    simp [mk, ByteArray.data_extract]

theorem append_exec {T T2 e : TypeId} {ty : TypeId} {i : TypeInfo} {z v x : Value} {base : Option Addr} {sLen sCap m : Nat} {w : World} {news olds : Array Value} (hv : v = .slice base sLen sCap)
    (ht : P.underlying T = some (.slice e)) (hi : P.info? e = some i) (hz : i.zero = some z) (h2 : ∃ d, P.underlying T2 = some d ∧ ∀ k, d ≠ .int k)
    (hlen : ∀ w', (Builtin.lenOf x).run P w' = .ok m w') (hnew : ∀ w', Up w w' → (Builtin.firstCells i.size m x).run P w' = .ok news w') (hold : ∀ w', Up w w' → (Builtin.firstCells i.size sLen v).run P w' = .ok olds w')
    (h63 : sLen + m ≤ maxLen) (hb : (sLen + m) * i.bytes ≤ 140737488355328) :
    (sLen + m ≤ sCap → (Builtin.append_ #[T, T2] ty #[v, x]).run P w = ((match base with | some a => storeCells (a.add (sLen * i.size)) news.toList | none => pure ()).run P w).andThen fun _ w' => .ok (.slice base (sLen + m) sCap) w') ∧
    (sCap < sLen + m → (Builtin.append_ #[T, T2] ty #[v, x]).run P w = .ok (.slice (some ⟨w.heap.size, 0, none⟩) (sLen + m) (grownCap w (sLen + m) sCap e))
      (w.drew.alloc (.cells (olds ++ news ++ Builtin.zeroCells z.cells (grownCap w (sLen + m) sCap e - (sLen + m))) e))) := by
  subst hv
  obtain ⟨d, hd, hd2⟩ := h2
  have hzeros : (match d with | .int _ => true | _ => false) = false := by cases d <;> simp at hd2 ⊢
  have h63' : ¬ ((9223372036854775807 : Int) < (sLen : Int) + (m : Int)) := by unfold maxLen at h63; omega
  constructor
  · intro hc
    cases base with
    | some a => simp [Builtin.append_, run_underlying ht, run_underlying hd, sizeOf, typeInfo, hi, hlen, hzeros, hc, hnew w (Up.refl w)]
    | none => simp [Builtin.append_, run_underlying ht, run_underlying hd, sizeOf, typeInfo, hi, hlen, hzeros, hc, hnew w (Up.refl w)]
  · intro hc
    have hn : ¬ (sLen + m ≤ sCap) := by omega
    have h48 : ¬ (281474976710656 < Builtin.nextslicecap (sLen + m) sCap * i.bytes) := by have := growslice_fits hc hb; omega
    have hup : Up w w.drew := fun _ _ h => h
    simp [Builtin.append_, run_underlying ht, run_underlying hd, sizeOf, typeInfo, zeroValue, hi, hz, hlen, hzeros, hn, h63', h48, Question.forced, hnew w.drew hup, hold w.drew hup, newRow, grownCap]

/-- A slot gives up its list, another one gets something; nothing else of ours has changed. -/
theorem Rel.replace {a : Act} {w w' : World} {g g' : Gh} (hr : Rel st a w g) {s d : Nat} {sv : SV} {v' : Value} (hk : ∀ o, o ≠ .lst (.slot s) → Keep o g w g' w') (hρ : g'.ρ = g.ρ)
    (hres : ∀ tm val, RS g' w' tm val d v' sv) : Rel ((st.take s).put (some d) sv) (a.put (some d) v') w' g' := by
  refine Rel.step hr (by rw [put_size, St.put_len, St.take_len]; exact hr.len) (by rw [put_defers]; exact hr.def0) (fun _ _ h => by rw [hρ]; exact h) (fun t s' hs' => ?_) ?_
  · by_cases ht : t = d
    · subst ht
      obtain ⟨rfl, hlt⟩ := St.put_get_same hs'
      refine .inr (.inl ?_)
      rw [valOf_put_same (by rw [hr.len]; simpa using hlt)]
      exact hres _ _
    · rcases other_slot hr (st1 := st.take s) v' (fun t s h => (St.take_get h).imp id fun h => h.1) (fun t s x h s1 e hx hb => St.take_box h s1 e hx hb) (by simpa using Ne.symm ht) hs' with h | ⟨h1, h2, h3, h4, h5⟩
      · exact .inl h
      · rcases St.take_get h1 with h | ⟨-, h6, h7⟩
        · exact .inl h
        · exact .inr (.inr ⟨h2, h3, fun o' ho' => hk o' (uses_mention h6 h7 ho').2.1, h5⟩)
  · rw [St.put_H, St.take_H]
    refine hr.hp.keep (fun o' ho' => hk o' fun e => ?_) (fun _ _ h => by rw [hρ]; exact h) (by rw [hρ])
    subst e; exact ho'.elim

/-- A slot gets something new; nothing of ours has changed. -/
theorem Rel.putNew {a : Act} {w w' : World} {g g' : Gh} (hr : Rel st a w g) {d : Nat} {sv : SV} {v' : Value} (hk : ∀ o, Keep o g w g' w') (hρ : g'.ρ = g.ρ)
    (hres : ∀ tm val, RS g' w' tm val d v' sv) : Rel (st.put (some d) sv) (a.put (some d) v') w' g' := by
  refine Rel.step hr (by rw [put_size, St.put_len]; exact hr.len) (by rw [put_defers]; exact hr.def0) (fun _ _ h => by rw [hρ]; exact h) (fun t s' hs' => ?_) ?_
  · by_cases ht : t = d
    · subst ht
      obtain ⟨rfl, hlt⟩ := St.put_get_same hs'
      refine .inr (.inl ?_)
      rw [valOf_put_same (by rw [hr.len]; exact hlt)]
      exact hres _ _
    · rcases other_slot hr (st1 := st) v' (fun t s h => .inr h) (fun t s x h s1 e hx hb => ⟨x, hx, rfl⟩) (by simpa using Ne.symm ht) hs' with h | ⟨h1, h2, h3, h4, h5⟩
      · exact .inl h
      · exact .inr (.inr ⟨h2, h3, fun o' ho' => hk o', h5⟩)
  · rw [St.put_H]
    exact hr.hp.keep (fun o' ho' => hk o') (fun _ _ h => by rw [hρ]; exact h) (by rw [hρ])

theorem Fr.keepBut {g g' : Gh} {w w' : World} {l : Loc} (hl : ∀ i j, l ≠ .hcell i j) (hs : w.heap.size ≤ w'.heap.size) (hk : ∀ o, o ≠ .lst l → Keep o g w g' w') (hρ : g'.ρ = g.ρ) (hos : SameOs w w' := by exact ⟨rfl, rfl⟩) : Fr pu g w g' w' :=
  Fr.of (fun o => o = .lst l) (by rintro _ rfl; exact ⟨by simp, by simp, by simp, fun i j e => hl i j (by cases e; rfl)⟩) hs hk hρ hos

/-- A new block with a list's elements at its head. -/
theorem ROwn.new {g : Gh} {w w' : World} {o : Loc} {news rest : Array Value} {n m cap : Nat} {ys : List D} {e : TypeId} {k : Nat} (hfl : RFlat g w news n ys) (hb : w'.heap[k]? = some (.cells (news ++ rest) e (0, 0))) (ho : g'.ow k = .lst o)
    (hm : ys.length = m) (hcap : m ≤ cap) (hrest : rest.size = (cap - m) * n) (hk : Keep .free g w g' w') (hρ : KeepR g g') : ROwn g' w' o (.slice (some ⟨k, 0, none⟩) m cap) n ys := by
  obtain ⟨h1, h2, h3⟩ := hfl
  have : ∃ us : Nat → Nat → Value, ∀ (i : Nat) (x : D), ys[i]? = some x → ∀ (j : Nat) (y : D), x.cells[j]? = some y → news[i * n + j]? = some (us i j) ∧ Rd g w (us i j) y ∧ (us i j).oneCell' = true :=
    ⟨fun i j => news.getD (i * n + j) undef, fun i x hx j y hy => by
      obtain ⟨u, u1, u2, u3⟩ := h3 i x hx j y hy
      have : news.getD (i * n + j) undef = u := by simp [Array.getD_eq_getD_getElem?, u1]
      simp only [this]; exact ⟨u1, u2, u3⟩⟩
  obtain ⟨us, hus⟩ := this
  subst hm
  refine .inr ⟨k, 0, cap, news ++ rest, e, us, rfl, ho, hb, hcap, ?_, h2, fun i x hx j y hy => ?_, fun i x hx j y hy => (hus i x hx j y hy).2.1.keep hk hρ⟩
  · rw [Array.size_append, h1, hrest, ← Nat.add_mul, Nat.zero_add]
    exact Nat.le_of_eq (by congr 1; omega)
  · obtain ⟨u1, u2, u3⟩ := hus i x hx j y hy
    refine ⟨?_, u3⟩
    rw [Nat.zero_add, Array.getElem?_append_left (arr_lt u1)]
    exact u1

theorem RFlat.append {g : Gh} {w : World} {a b : Array Value} {n : Nat} {xs ys : List D} (h1 : RFlat g w a n xs) (h2 : RFlat g w b n ys) : RFlat g w (a ++ b) n (xs ++ ys) := by
  refine ⟨by rw [Array.size_append, h1.1, h2.1, List.length_append, Nat.add_mul], fun i x hx => ?_, fun i x hx j y hy => ?_⟩
  · by_cases hi : i < xs.length
    · rw [List.getElem?_append_left hi] at hx; exact h1.2.1 i x hx
    · rw [List.getElem?_append_right (by omega)] at hx; exact h2.2.1 _ x hx
  · by_cases hi : i < xs.length
    · rw [List.getElem?_append_left hi] at hx
      obtain ⟨u, u1, u2⟩ := h1.2.2 i x hx j y hy
      exact ⟨u, by rw [Array.getElem?_append_left (arr_lt u1)]; exact u1, u2⟩
    · rw [List.getElem?_append_right (by omega)] at hx
      obtain ⟨u, u1, u2⟩ := h2.2.2 _ x hx j y hy
      refine ⟨u, ?_, u2⟩
      have hge : xs.length * n ≤ i * n := Nat.mul_le_mul_right n (by omega)
      rw [Array.getElem?_append_right (by rw [h1.1]; omega), h1.1]
      rw [show i * n + j - xs.length * n = (i - xs.length) * n + j by rw [Nat.sub_mul]; omega]
      exact u1

theorem RFlat.keep {g g' : Gh} {w w' : World} {a : Array Value} {n : Nat} {xs : List D} (hk : Keep .free g w g' w') (hρ : KeepR g g') (h : RFlat g w a n xs) : RFlat g' w' a n xs :=
  ⟨h.1, h.2.1, fun i x hx j y hy => let ⟨u, u1, u2, u3⟩ := h.2.2 i x hx j y hy; ⟨u, u1, u2.keep hk hρ, u3⟩⟩

/-- A slice type whose elements take 'n' cells and 'b' bytes. -/
def sliceT (P : Program) (T : TypeId) : Option (Nat × Nat) :=
  match P.underlying T with
  | some (.slice e) => match P.info? e with
    | some i => match i.zero with
      | some z => if (z.cells.size = i.size ∧ (constD z).isSome = true) ∧ 0 < i.size then some (i.size, i.bytes) else none
      | none => none
    | none => none
  | _ => none

def noInt (P : Program) (T : TypeId) : Bool := match P.underlying T with | some (.int _) | none => false | _ => true

/-- What is appended: how many cells an element takes, the elements. -/
def srcOf (st : St) (x : Operand) : Option (Nat × List D) :=
  match valD st x with
  | some (.str l) => some (1, byteDs l)
  | _ => match listOf st x with
    | some (_, n, xs) => some (n, xs)
    | none => none

theorem srcOf_sound {a : Act} {w : World} {g : Gh} (hr : Rel st a w g) {x : Operand} {m n : Nat} {ys : List D} (hv : srcOf st x = some (m, ys)) (hn : 0 < n) (hm : m = n ∨ ys = []) :
    ∃ news, RFlat g w news n ys ∧ (∀ w', (Builtin.lenOf (a.eval x)).run P w' = .ok ys.length w') ∧ ∀ w', Up w w' → (Builtin.firstCells n ys.length (a.eval x)).run P w' = .ok news w' := by
  unfold srcOf at hv
  split at hv
  · rename_i l hl
    cases hv
    rw [valD_leaf hr hl rfl]
    by_cases h1 : 1 = n
    · subst h1
      obtain ⟨news, e1, e2, e3⟩ := str_flat (P := P) (g := g) (w := w) (l := l)
      exact ⟨news, e1, e2, fun w' _ => e3 w'⟩
    · have h2 : byteDs l = [] := hm.resolve_left h1
      have : l = [] := by simpa [byteDs] using h2
      subst this
      refine ⟨#[], ⟨by simp [byteDs], by simp [byteDs], by simp [byteDs]⟩, fun w' => by simp [Builtin.lenOf, byteDs, mk_size], fun w' _ => ?_⟩
      simp [Builtin.firstCells, byteDs, mk, ByteArray.data_extract]
  · split at hv
    · rename_i l n' xs hl
      cases hv
      have hL := listOf_sound hr hl
      rcases hm with rfl | rfl
      · exact hL.flat hn
      · have hL' : RList g w l (a.eval x) n [] := by
          rcases hL with h | ⟨k, off, cap, c, T, fz, us, h1, h2, h3, h4, h5⟩
          · exact .inl h
          · exact .inl ⟨rfl, _, _, h1⟩
        exact hL'.flat hn
    · cases hv

theorem ROwn.toFlat {g : Gh} {w : World} {o : Loc} {v : Value} {n : Nat} {xs : List D} (hn : 0 < n) (h : ROwn g w o v n xs) :
    ∃ olds base cap, v = .slice base xs.length cap ∧ RFlat g w olds n xs ∧ ∀ w', Up w w' → (Builtin.firstCells n xs.length v).run P w' = .ok olds w' := by
  obtain ⟨olds, e1, -, e3⟩ := (ROwn.toLent h).flat (P := P) hn
  rcases h with ⟨rfl, a, rfl⟩ | ⟨k, off, cap, c, T, us, rfl, -⟩
  · exact ⟨olds, _, _, rfl, e1, e3⟩
  · exact ⟨olds, _, _, rfl, e1, e3⟩

theorem run_append_call {o : Oper} {c : Call} {a : Act} {w : World} {x y : Operand} {T T2 : TypeId} (hop : o.op = .call c) (hc : c.callee = .builtin .append) (ha : c.args.toList = [x, y]) (ht : c.argTypes.toList = [T, T2]) {v : Value} {w' : World}
    (h : (Builtin.append_ #[T, T2] o.type #[a.eval x, a.eval y]).run P w = .ok v w') : (execOp a.eval o).run P w = .ok (.value v) w' := by
  obtain ⟨callee, args, argTypes⟩ := c
  have ha2 : args = #[x, y] := by apply Array.ext'; simpa using ha
  have ht2 : argTypes = #[T, T2] := by apply Array.ext'; simpa using ht
  subst ha2 ht2
  simp only at hc
  subst hc
  unfold execOp
  rw [hop]
  simp only [resolve, List.map_toArray, List.map_cons, List.map_nil, Sem.run_bind, Sem.run_pure, Result.andThen_ok, invoke, builtin]
  simp [h]

/-- APPEND to a list of our own: it hands its memory over to the result. -/
theorem OpS.append {o : Oper} {c : Call} {s d : Nat} {y : Operand} {T T2 : TypeId} {n m b : Nat} {xs ys : List D} (hop : o.op = .call c) (hc : c.callee = .builtin .append) (ha : c.args.toList = [.tmp s, y]) (ht : c.argTypes.toList = [T, T2])
    (hd : o.dst = some d) (hs : st.tmps[s]? = some (.own n xs)) (hy : srcOf st y = some (m, ys)) (hT : sliceT P T = some (n, b)) (h2 : noInt P T2 = true) (hm : m = n ∨ ys = [])
    (hlen : xs.length + ys.length ≤ maxLen) (hby : (xs.length + ys.length) * b ≤ 140737488355328) : OpS P pu st o ((st.take s).put (some d) (.own n (xs ++ ys))) := by
  refine OpS.value fun a w g hr => ?_
  unfold sliceT at hT
  split at hT
  · rename_i e hu
    split at hT
    · rename_i i hi
      split at hT
      · rename_i z hz
        split at hT
        · rename_i hsz
          obtain ⟨⟨hzs, -⟩, hn⟩ := hsz
          cases hT
          have h2' : ∃ dd, P.underlying T2 = some dd ∧ ∀ k, dd ≠ .int k := by
            unfold noInt at h2
            cases hu2 : P.underlying T2 with
            | none => rw [hu2] at h2; simp at h2
            | some dd => exact ⟨dd, rfl, fun k e => by rw [hu2, e] at h2; simp at h2⟩
          have hO := hr.tmp s _ hs
          obtain ⟨news, n1, n2, n3⟩ := srcOf_sound (P := P) hr hy hn hm
          obtain ⟨olds, base, cap, hv, o1, o2⟩ := ROwn.toFlat (P := P) hn (hO : ROwn g w (.slot s) (valOf a s) i.size xs)
          obtain ⟨room, grow⟩ := append_exec (P := P) (T := T) (T2 := T2) (ty := o.type) (v := valOf a s) (x := a.eval y) (w := w) hv hu hi hz h2' n2 n3 o2 hlen hby
          rw [hd]
          by_cases hroom : xs.length + ys.length ≤ cap
          · -- it fits
            have hr1 := room hroom
            rcases hO with ⟨hx, a0, hva⟩ | ⟨k, off, cap', cc, T0, us, hva, hk, hb, hcap, hfit, hw, hcc, hrr⟩
            · have hva' : valOf a s = .slice a0 0 0 := hva
              rw [hva'] at hv
              simp only [Value.slice.injEq] at hv
              obtain ⟨rfl, -, rfl⟩ := hv
              subst hx
              have hys : ys = [] := List.eq_nil_of_length_eq_zero (by simpa using hroom)
              subst hys
              have hnews : news = #[] := Array.eq_empty_of_size_eq_zero (by rw [n1.1]; simp)
              subst hnews
              refine ⟨.slice a0 0 0, w, g, run_append_call hop hc ha ht ?_, ?_, Fr.refl _ _ _⟩
              · rw [eval_tmp, hr1]
                cases a0 <;> simp [storeCells]
              · exact hr.replace (fun _ _ => Keep.refl _ _ _) rfl (fun _ _ => .inl ⟨rfl, a0, rfl⟩)
            · have hva' : valOf a s = .slice (some ⟨k, off, none⟩) xs.length cap' := hva
              rw [hva'] at hv
              simp only [Value.slice.injEq] at hv
              obtain ⟨rfl, -, rfl⟩ := hv
              have hmul : (xs.length + ys.length) * i.size ≤ cap' * i.size := Nat.mul_le_mul_right _ hroom
              rw [Nat.add_mul] at hmul
              obtain ⟨w', r1, r2, r3, c', r4, r5, r6⟩ := run_storeCells' (P := P) k (off + xs.length * i.size) T0 news.toList 0 cc w hb (by simp [n1.1]; omega) n1.one
              have hkeep : ∀ o', o' ≠ .lst (.slot s) → Keep o' g w (g.ren (rnL (.slot s) (.slot d))) w' := fun o' ho' k' b' h1 h2 => by
                have : k' ≠ k := by rintro rfl; exact ho' (h1.symm.trans hk)
                refine ⟨by simp only [Gh.ren, h1]; exact rnL_other ho', by rw [r3 k' this]; exact h2⟩
              refine ⟨.slice (some ⟨k, off, none⟩) (xs.length + ys.length) cap', w', g.ren (rnL (.slot s) (.slot d)), run_append_call hop hc ha ht ?_, ?_, Fr.keepBut (by simp) (by rw [r2]; exact Nat.le_refl _) hkeep rfl (storeCells_os (P := P) k (off + xs.length * i.size) T0 news.toList 0 cc w w' hb (by simp [n1.1]; omega) n1.one r1)⟩
              · rw [eval_tmp, hr1]
                simp only [Addr.add_lit, r1, Result.andThen_ok]
              · refine hr.replace hkeep rfl fun _ _ => ?_
                have hkf : Keep .free g w (g.ren (rnL (.slot s) (.slot d))) w' := hkeep _ (by simp)
                have : ∃ us' : Nat → Nat → Value, ∀ (i' : Nat) (x : D), ys[i']? = some x → ∀ (j : Nat) (y : D), x.cells[j]? = some y → news[i' * i.size + j]? = some (us' i' j) ∧ Rd g w (us' i' j) y ∧ (us' i' j).oneCell' = true :=
                  ⟨fun i' j => news.getD (i' * i.size + j) undef, fun i' x hx j y hy => by
                    obtain ⟨u, u1, u2, u3⟩ := n1.2.2 i' x hx j y hy
                    have : news.getD (i' * i.size + j) undef = u := by simp [Array.getD_eq_getD_getElem?, u1]
                    simp only [this]; exact ⟨u1, u2, u3⟩⟩
                obtain ⟨us', hus'⟩ := this
                refine .inr ⟨k, off, cap', c', T0, fun i' j => if i' < xs.length then us i' j else us' (i' - xs.length) j, by rw [List.length_append], by simp [Gh.ren, hk, rnL_same], r4, by simpa using hroom, by rw [r5]; exact hfit, fun i' x hx => ?_, fun i' x hx j y hy => ?_, fun i' x hx j y hy => ?_⟩
                · by_cases h : i' < xs.length
                  · rw [List.getElem?_append_left h] at hx; exact hw i' x hx
                  · rw [List.getElem?_append_right (by omega)] at hx; exact n1.2.1 _ x hx
                · by_cases h : i' < xs.length
                  · rw [List.getElem?_append_left h] at hx
                    simp only [h, if_true]
                    have hj : j < i.size := by rw [← hw i' x hx]; exact get_lt hy
                    have hlt : i' * i.size + j < xs.length * i.size := by
                      have : (i' + 1) * i.size ≤ xs.length * i.size := Nat.mul_le_mul_right _ h
                      rw [Nat.succ_mul] at this
                      omega
                    rw [r6, if_neg (by omega)]
                    exact hcc i' x hx j y hy
                  · rw [List.getElem?_append_right (by omega)] at hx
                    simp only [h, if_false]
                    obtain ⟨u1, u2, u3⟩ := hus' _ x hx j y hy
                    have hlt := arr_lt u1
                    have hge : xs.length * i.size ≤ i' * i.size := Nat.mul_le_mul_right _ (by omega)
                    have hsub : (i' - xs.length) * i.size = i' * i.size - xs.length * i.size := Nat.sub_mul _ _ _
                    rw [r6, if_pos (by simp; omega)]
                    rw [show off + i' * i.size + j - (off + xs.length * i.size + 0) = (i' - xs.length) * i.size + j by omega]
                    exact ⟨by simpa using u1, u3⟩
                · by_cases h : i' < xs.length
                  · rw [List.getElem?_append_left h] at hx
                    simp only [h, if_true]
                    exact (hrr i' x hx j y hy).keep hkf (fun _ _ h => h)
                  · rw [List.getElem?_append_right (by omega)] at hx
                    simp only [h, if_false]
                    exact (hus' _ x hx j y hy).2.1.keep hkf (fun _ _ h => h)
          · -- a new row
            have hr2 := grow (by omega)
            have hge := grownCap_ge w (xs.length + ys.length) cap e
            generalize hgc : grownCap w (xs.length + ys.length) cap e = gc at hr2 hge
            have hkeep : ∀ o', o' ≠ .lst (.slot s) → Keep o' g w ((g.ren (rnL (.slot s) (.slot d))).upd w.heap.size (.lst (.slot d))) (w.drew.alloc (.cells (olds ++ news ++ Builtin.zeroCells z.cells (gc - (xs.length + ys.length))) e)) := fun o' ho' =>
              Keep.trans (Keep.ren (rnL_other ho')) (Keep.alloc (w := w.drew))
            refine ⟨_, _, (g.ren (rnL (.slot s) (.slot d))).upd w.heap.size (.lst (.slot d)), run_append_call hop hc ha ht (by rw [eval_tmp, hr2]), ?_, Fr.keepBut (by simp) (by simp) hkeep rfl⟩
            refine hr.replace hkeep rfl fun _ _ => ?_
            exact ROwn.new (RFlat.append o1 n1) (heap_alloc w.drew _) (by simp) (by simp) hge (by rw [size_zeroCells, hzs]) (hkeep _ (by simp)) (fun _ _ h => h)
        · cases hT
      · cases hT
    · cases hT
  · cases hT
end
end Go.Sh
