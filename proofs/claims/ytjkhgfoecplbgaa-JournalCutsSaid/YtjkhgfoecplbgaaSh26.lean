/- Maps of a shadow heap are written. -/
import Derived.Test.YtjkhgfoecplbgaaSh25
set_option linter.all false
set_option autoImplicit true
set_option relaxedAutoImplicit true
set_option linter.unusedVariables false
set_option linter.unusedSimpArgs false
namespace Go.Sh

theorem findK_shift (x : D) : ∀ (es : List (D × D)) (i : Nat), findK x es (i + 1) = (findK x es i).map fun p => (p.1 + 1, p.2)
  | [], _ => rfl
  | (k, v) :: es, i => by
    simp only [findK]
    split
    · rfl
    · exact findK_shift x es (i + 1)

section
variable {K V : Type} [BEq K]

theorem mPut_none (k : Kc K) (v : Cd V) (x : K) (y : V) : ∀ (es : List (K × V)), findK (k.c.enc x) (es.map (encE k v)) 0 = none → (mPut x y es).map (encE k v) = es.map (encE k v) ++ [encE k v (x, y)]
  | [], _ => rfl
  | (a, b) :: es, h => by
    simp only [List.map_cons, encE, findK, k.same] at h
    simp only [mPut]
    cases hb : x == a with
    | true => rw [hb] at h; simp at h
    | false =>
      rw [hb, findK_shift] at h
      simp only [Bool.false_eq_true, if_false, Option.map_eq_none_iff] at h ⊢
      rw [List.map_cons, List.map_cons, mPut_none k v x y es h, List.cons_append]

theorem mPut_some (k : Kc K) (v : Cd V) (x : K) (y : V) : ∀ (es : List (K × V)) (j : Nat) (u : D), findK (k.c.enc x) (es.map (encE k v)) 0 = some (j, u) → j < es.length ∧ (∃ p, es[j]? = some p ∧ (x == p.1) = true) ∧ (mPut x y es).map (encE k v) = (es.map (encE k v)).set j (encE k v (x, y))
  | [], _, _, h => by cases h
  | (a, b) :: es, j, u, h => by
    simp only [List.map_cons, encE, findK, k.same] at h
    simp only [mPut]
    cases hb : x == a with
    | true =>
      rw [hb] at h
      simp only [if_true, Option.some.injEq, Prod.mk.injEq] at h
      obtain ⟨rfl, -⟩ := h
      exact ⟨by simp, ⟨_, rfl, hb⟩, rfl⟩
    | false =>
      rw [hb, findK_shift] at h
      simp only [Bool.false_eq_true, if_false, Option.map_eq_some_iff, Prod.mk.injEq] at h
      obtain ⟨⟨j', u'⟩, h1, rfl, -⟩ := h
      obtain ⟨i1, ⟨p, i2, i3⟩, i4⟩ := mPut_some k v x y es j' u' h1
      refine ⟨by simpa using i1, ⟨p, by simpa using i2, i3⟩, ?_⟩
      simp only [Bool.false_eq_true, if_false, List.map_cons, List.set_cons_succ, i4]

theorem mDel_none (k : Kc K) (v : Cd V) (x : K) : ∀ (es : List (K × V)), findK (k.c.enc x) (es.map (encE k v)) 0 = none → mDel x es = es
  | [], _ => rfl
  | (a, b) :: es, h => by
    simp only [List.map_cons, encE, findK, k.same] at h
    simp only [mDel]
    cases hb : x == a with
    | true => rw [hb] at h; simp at h
    | false =>
      rw [hb, findK_shift] at h
      simp only [Bool.false_eq_true, if_false, Option.map_eq_none_iff] at h ⊢
      rw [mDel_none k v x es h]

theorem mDel_some (k : Kc K) (v : Cd V) (x : K) : ∀ (es : List (K × V)) (j : Nat) (u : D), findK (k.c.enc x) (es.map (encE k v)) 0 = some (j, u) → j < es.length ∧ (mDel x es).map (encE k v) = (es.map (encE k v)).eraseIdx j
  | [], _, _, h => by cases h
  | (a, b) :: es, j, u, h => by
    simp only [List.map_cons, encE, findK, k.same] at h
    simp only [mDel]
    cases hb : x == a with
    | true =>
      rw [hb] at h
      simp only [if_true, Option.some.injEq, Prod.mk.injEq] at h
      obtain ⟨rfl, -⟩ := h
      exact ⟨by simp, rfl⟩
    | false =>
      rw [hb, findK_shift] at h
      simp only [Bool.false_eq_true, if_false, Option.map_eq_some_iff, Prod.mk.injEq] at h
      obtain ⟨⟨j', u'⟩, h1, rfl, -⟩ := h
      obtain ⟨i1, i4⟩ := mDel_some k v x es j' u' h1
      refine ⟨by simpa using i1, ?_⟩
      simp only [Bool.false_eq_true, if_false, List.map_cons, List.eraseIdx_cons_succ, i4]
end

theorem sameBits_key {g : Gh} {w : World} {T : KeyT} {x y : D} {u v : Value} (hx : isKey T x = true) (hy : isKey T y = true) (hu : Rd g w u x) (hv : Rd g w v y) (h : sameK x y = true) : Instr.sameBits 10000 v u = true := by
  cases T with
  | int k =>
    cases x <;> simp only [isKey, Bool.false_eq_true] at hx
    cases y <;> simp only [isKey, Bool.false_eq_true] at hy
    cases hu; cases hv
    simp only [beq_iff_eq] at hx hy
    simp only [sameK, beq_iff_eq] at h
    subst hx; subst hy; subst h
    show Instr.sameBits (9999 + 1) _ _ = true
    simp [Instr.sameBits]
  | str =>
    cases x <;> simp only [isKey, Bool.false_eq_true] at hx
    cases y <;> simp only [isKey, Bool.false_eq_true] at hy
    cases hu; cases hv
    simp only [sameK, beq_iff_eq] at h
    subst h
    show Instr.sameBits (9999 + 1) _ _ = true
    simp [Instr.sameBits, byteArray_beq]

section
variable {P : Program} {st : St} {K V : Type} [BEq K]

/-- What is put into a map, in memory: the new entries. -/
theorem put_run {k : Kc K} {v : Cd V} {a : Act} {w : World} {g : Gh} (hr : Rel st a w g) {i : Nat} {es : List (K × V)} {key : K} {y : V} {iv yv : Value} {T KT ET : TypeId} (hT : P.underlying T = some (.map KT ET)) (hk : keyTOf P KT = some k.kt)
    (hm : hMap k v st.H (some i) = some es) (hi : Rd g w iv (k.c.enc key)) (hy : Rd g w yv (v.enc y)) :
    ∃ kb w', g.ρ[i]? = some kb ∧ g.ow kb = .obj i ∧ (Instr.mapUpdate T (.map (some kb)) iv yv).run P w = .ok () w' ∧ w'.heap.size = w.heap.size ∧ SameOs w w' ∧ (∀ k', k' ≠ kb → w'.heap[k']? = w.heap[k']?) ∧ RO g w' i (.map ((mPut key y es).map (encE k v))) := by
  obtain ⟨kb, ms, clock, f1, f2, f3, f4, f5, f6, r, g1, g2⟩ := map_found hr hm hi
  have hkp : ∀ (ob : Obj) (o' : Own), o' ≠ .obj i → Keep o' g w g (setBlk w kb ob) := fun ob o' ho => Keep.block f2 ho fun k' h => setBlk_other h
  have up : ∀ (ob : Obj) {u : Value} {x : D}, Rd g w u x → Rd g (setBlk w kb ob) u x := fun ob _ _ h => Rd.keep (hkp ob _ (by simp)) (fun _ _ h => h) h
  rcases g2 with ⟨g3, rfl, g4⟩ | ⟨y0, u, j, g3, rfl, g5, g4⟩
  · refine ⟨kb, setBlk w kb (.map (ms.push { key := iv, val := yv, born := clock }) (clock + 1)), f1, f2, ?_, setBlk_size, ⟨rfl, rfl⟩, fun k' h => setBlk_other h, kb, _, _, f1, f2, setBlk_self f3, ?_, ?_, fun j p hj => ?_⟩
    · simp only [Instr.mapUpdate, Sem.run_bind, run_underlying hT, Result.andThen_ok, run_getMap f3, run_checkKey hk, run_findKey hk g1, run_setMap f3]
    · rw [mPut_none k v key y es g4]; simp [f4]
    · obtain ⟨b1, b2⟩ := f5
      refine ⟨fun m hm => ?_, ?_⟩
      · simp only [Array.toList_push, List.mem_append, List.mem_singleton] at hm
        rcases hm with h | rfl
        · have := b1 m h; omega
        · simp
      · simp only [Array.toList_push, List.map_append, List.map_cons, List.map_nil]
        refine List.nodup_append.2 ⟨b2, by simp, fun x hx y hy => ?_⟩
        simp only [List.mem_singleton] at hy
        subst hy
        obtain ⟨m, hm, rfl⟩ := List.mem_map.1 hx
        have := b1 m hm; omega
    · rw [mPut_none k v key y es g4] at hj
      by_cases hlt : j < es.length
      · rw [List.getElem?_append_left (by simpa using hlt), List.getElem?_map] at hj
        simp only [Option.map_eq_some_iff] at hj
        obtain ⟨q, hq, rfl⟩ := hj
        obtain ⟨m, m1, m2, m3⟩ := f6 j q hq
        exact ⟨m, by rw [Array.getElem?_push_lt (by omega), ← Array.getElem?_eq_getElem]; exact m1, up _ m2, up _ m3⟩
      · have : j = es.length := by have := get_lt hj; simp at this; omega
        subst this
        rw [List.getElem?_append_right (by simp)] at hj
        simp only [List.length_map, Nat.sub_self, List.getElem?_cons_zero, Option.some.injEq] at hj
        subst hj
        exact ⟨{ key := iv, val := yv, born := clock }, by rw [← f4]; simp, up _ hi, up _ hy⟩
  · obtain ⟨i1, ⟨p, i2, i3⟩, i4⟩ := mPut_some k v key y es j _ g4
    have hms : j < ms.size := by omega
    obtain ⟨m, m1, m2, m3⟩ := f6 j p i2
    refine ⟨kb, setBlk w kb (.map (ms.modify j fun e => { e with key := iv, val := yv }) clock), f1, f2, ?_, setBlk_size, ⟨rfl, rfl⟩, fun k' h => setBlk_other h, kb, _, _, f1, f2, setBlk_self f3, ?_, ?_, fun j' p' hj => ?_⟩
    · have hsb : Instr.sameBits 10000 m.key iv = true := sameBits_key (k.isK _) (k.isK _) hi m2 (by rw [k.same]; exact i3)
      simp only [Instr.mapUpdate, Sem.run_bind, run_underlying hT, Result.andThen_ok, run_getMap f3, run_checkKey hk, run_findKey hk g1, m1, Option.map_some, Option.getD_some, Instr.keyThatStays, hsb, if_true, Sem.run_pure, run_setMap f3]
    · rw [i4]; simp [f4]
    · obtain ⟨b1, b2⟩ := f5
      have hborn : (ms.modify j fun e => { e with key := iv, val := yv }).toList.map (·.born) = ms.toList.map (·.born) := by
        apply List.ext_getElem?
        intro n
        simp only [Array.toList_modify, List.getElem?_map, List.getElem?_modify]
        by_cases e : j = n
        · subst e; simp only [if_true]; cases ms.toList[j]? <;> rfl
        · simp [e]
      refine ⟨fun m hm => ?_, by rw [hborn]; exact b2⟩
      have : m.born ∈ ms.toList.map (·.born) := by rw [← hborn]; exact List.mem_map_of_mem hm
      obtain ⟨m', hm', e⟩ := List.mem_map.1 this
      rw [← e]; exact b1 m' hm'
    · rw [i4] at hj
      by_cases e : j = j'
      · subst e
        rw [List.getElem?_set_self (by simpa using i1)] at hj
        cases hj
        refine ⟨{ m with key := iv, val := yv }, ?_, up _ hi, up _ hy⟩
        simp [Array.getElem?_modify, m1]
      · rw [List.getElem?_set_ne e, List.getElem?_map] at hj
        simp only [Option.map_eq_some_iff] at hj
        obtain ⟨q, hq, rfl⟩ := hj
        obtain ⟨m, m1, m2, m3⟩ := f6 j' q hq
        exact ⟨m, by simp [Array.getElem?_modify, e, m1], up _ m2, up _ m3⟩

theorem OpS.mapUpdate {k : Kc K} {v : Cd V} {o : Oper} {T KT ET : TypeId} {x ix yx : Operand} {m : Option Nat} {key : K} {y : V} {H' : List SObj} (hop : o.op = .mapUpdate T x ix yx ∨ o.op = .insert T x ix yx) (hd : o.dst = none) (hT : P.underlying T = some (.map KT ET)) (hk : keyTOf P KT = some k.kt)
    (hx : valD st x = some (cM.enc m)) (hi : valD st ix = some (k.c.enc key)) (hy : valD st yx = some (v.enc y)) (hH : hMput k v st.H m key y = some H') : OpS P false st o (st.hp H') := by
  refine OpS.skip fun a w g hr => ?_
  simp only [hMput, Option.bind_eq_some_iff, Option.map_eq_some_iff] at hH
  obtain ⟨i, rfl, es, hm, rfl⟩ := hH
  obtain ⟨kb', e1, e2⟩ := mapOf_sound hr hx
  obtain ⟨kb, w', f1, f2, f3, f4, fos, f5, f6⟩ := put_run hr hT hk hm (valD_d hr hi) (valD_d hr hy)
  rw [f1] at e1; cases e1
  refine ⟨w', g, ?_, ?_, Fr.setObj f2 f4 f5 fos⟩
  · unfold execOp
    rcases hop with hop | hop <;> (rw [hop]; simp only [e2, Sem.run_bind, f3, Result.andThen_ok, Sem.run_pure])
  · rw [hd]
    exact hr.setObj (get_lt (hMap_eq.1 hm)) f1 f2 f5 f6

theorem eraseIdx_born {ms : Array MapEntry} {clock j : Nat} (h : bornOk ms clock) : bornOk (ms.eraseIdxIfInBounds j) clock := by
  obtain ⟨b1, b2⟩ := h
  have hl : (ms.eraseIdxIfInBounds j).toList = ms.toList.eraseIdx j := by simp
  refine ⟨fun m hm => b1 m ?_, ?_⟩
  · rw [hl] at hm
    exact List.mem_of_mem_eraseIdx hm
  · rw [hl]
    exact b2.sublist ((List.eraseIdx_sublist _ _).map _)

theorem run_delete_call {o : Oper} {c : Call} {a : Act} {w : World} {x y : Operand} {T T2 : TypeId} (hop : o.op = .call c) (hc : c.callee = .builtin .delete) (ha : c.args.toList = [x, y]) (ht : c.argTypes.toList = [T, T2]) {v : Value} {w' : World}
    (h : (Builtin.delete_ #[T, T2] o.type #[a.eval x, a.eval y]).run P w = .ok v w') : (execOp a.eval o).run P w = .ok (.value v) w' := by
  obtain ⟨callee, args, argTypes⟩ := c
  have ha2 : args = #[x, y] := by apply Array.ext'; simpa using ha
  have ht2 : argTypes = #[T, T2] := by apply Array.ext'; simpa using ht
  subst ha2 ht2
  simp only at hc
  subst hc
  unfold execOp
  rw [hop]
  simp only [resolve, List.map_toArray, List.map_cons, List.map_nil, Sem.run_bind, Sem.run_pure, Result.andThen_ok, invoke, builtin]
  simp [h]

theorem OpS.mapDelete {k : Kc K} {v : Cd V} {o : Oper} {c : Call} {T KT ET T2 : TypeId} {x ix : Operand} {m : Option Nat} {key : K} {H' : List SObj} (hop : o.op = .call c) (hcal : c.callee = .builtin .delete) (ha : c.args.toList = [x, ix]) (ht : c.argTypes.toList = [T, T2])
    (hT : P.underlying T = some (.map KT ET)) (hk : keyTOf P KT = some k.kt) (hx : valD st x = some (cM.enc m)) (hi : valD st ix = some (k.c.enc key)) (hH : hMdel k v st.H m key = some H') : OpS P false st o ((st.hp H').put o.dst (.tup [])) := by
  refine OpS.value fun a w g hr => ?_
  have hrk := valD_d hr hi
  have hm0 := mapOf_sound hr hx
  cases m with
  | none =>
    simp only [hMdel, Option.some.injEq] at hH
    subst hH
    refine ⟨.tuple #[], w, g, run_delete_call hop hcal ha ht ?_, hr.putLight o.dst (v := .tuple #[]) ⟨#[], rfl, rfl, by simp⟩, Fr.refl _ _ _⟩
    simp only at hm0
    rw [hm0]
    simp [Builtin.delete_, Sem.run_bind, run_underlying hT, run_checkKey hk]
  | some i =>
    simp only [hMdel, Option.map_eq_some_iff] at hH
    obtain ⟨es, hm, rfl⟩ := hH
    obtain ⟨kb', e1, e2⟩ := hm0
    obtain ⟨kb, ms, clock, f1, f2, f3, f4, f5, f6, r, g1, g2⟩ := map_found hr hm hrk
    have hkb : kb = kb' := by rw [f1] at e1; exact Option.some.inj e1
    subst hkb
    have hkp : ∀ (ob : Obj) (o' : Own), o' ≠ .obj i → Keep o' g w g (setBlk w kb ob) := fun ob o' ho => Keep.block f2 ho fun k' h => setBlk_other h
    have up : ∀ (ob : Obj) {u : Value} {x : D}, Rd g w u x → Rd g (setBlk w kb ob) u x := fun ob _ _ h => Rd.keep (hkp ob _ (by simp)) (fun _ _ h => h) h
    have hlt := get_lt (hMap_eq.1 hm)
    rcases g2 with ⟨g3, rfl, g4⟩ | ⟨y0, u, j, g3, rfl, g5, g4⟩
    · refine ⟨.tuple #[], setBlk w kb (.map ms clock), g, run_delete_call hop hcal ha ht ?_, ?_, Fr.setObj f2 setBlk_size fun k' h => setBlk_other h⟩
      · rw [e2]
        simp [Builtin.delete_, Sem.run_bind, run_underlying hT, run_checkKey hk, run_getMap f3, run_findKey hk g1, run_setMap f3]
      · refine (hr.setObj hlt f1 f2 (fun k' h => setBlk_other h) ?_).putLight o.dst (v := .tuple #[]) ⟨#[], rfl, rfl, by simp⟩
        rw [mDel_none k v key es g4]
        refine ⟨kb, ms, clock, f1, f2, setBlk_self f3, by simpa using f4, f5, fun j p hj => ?_⟩
        simp only [List.getElem?_map, Option.map_eq_some_iff] at hj
        obtain ⟨q, hq, rfl⟩ := hj
        obtain ⟨m, m1, m2, m3⟩ := f6 j q hq
        exact ⟨m, m1, up _ m2, up _ m3⟩
    · obtain ⟨i1, i4⟩ := mDel_some k v key es j _ g4
      refine ⟨.tuple #[], setBlk w kb (.map (ms.eraseIdxIfInBounds j) clock), g, run_delete_call hop hcal ha ht ?_, ?_, Fr.setObj f2 setBlk_size fun k' h => setBlk_other h⟩
      · rw [e2]
        simp [Builtin.delete_, Sem.run_bind, run_underlying hT, run_checkKey hk, run_getMap f3, run_findKey hk g1, run_setMap f3]
      · refine (hr.setObj hlt f1 f2 (fun k' h => setBlk_other h) ?_).putLight o.dst (v := .tuple #[]) ⟨#[], rfl, rfl, by simp⟩
        rw [i4]
        refine ⟨kb, _, clock, f1, f2, setBlk_self f3, ?_, eraseIdx_born f5, fun j' p hj => ?_⟩
        · rw [← Array.length_toList]
          simp only [Array.toList_eraseIdxIfInBounds, List.length_eraseIdx, List.length_map, Array.length_toList, f4]
        · rw [List.getElem?_eraseIdx] at hj
          rw [← Array.getElem?_toList, Array.toList_eraseIdxIfInBounds, List.getElem?_eraseIdx]
          split at hj
          · rename_i h1
            rw [if_pos h1]
            simp only [List.getElem?_map, Option.map_eq_some_iff] at hj
            obtain ⟨q, hq, rfl⟩ := hj
            obtain ⟨m, m1, m2, m3⟩ := f6 _ q hq
            exact ⟨m, by simpa using m1, up _ m2, up _ m3⟩
          · rename_i h1
            rw [if_neg h1]
            simp only [List.getElem?_map, Option.map_eq_some_iff] at hj
            obtain ⟨q, hq, rfl⟩ := hj
            obtain ⟨m, m1, m2, m3⟩ := f6 _ q hq
            exact ⟨m, by simpa using m1, up _ m2, up _ m3⟩
end
end Go.Sh
