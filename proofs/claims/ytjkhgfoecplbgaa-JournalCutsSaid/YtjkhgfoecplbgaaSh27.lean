/- A map's entry is made first and filled behind it (two steps of one assignment). -/
import Derived.Test.YtjkhgfoecplbgaaSh26
set_option linter.all false
set_option autoImplicit true
set_option relaxedAutoImplicit true
set_option linter.unusedVariables false
set_option linter.unusedSimpArgs false
namespace Go.Sh

theorem findIdx_born : ∀ (l : List MapEntry) (j : Nat) (m : MapEntry), (l.map (·.born)).Nodup → l[j]? = some m → l.findIdx? (fun e => (e.born : Int) == (m.born : Int)) = some j
  | [], _, _, _, h => by simp at h
  | x :: l, 0, m, hn, h => by
    simp only [List.getElem?_cons_zero, Option.some.injEq] at h
    subst h
    simp [List.findIdx?_cons]
  | x :: l, j + 1, m, hn, h => by
    simp only [List.getElem?_cons_succ] at h
    simp only [List.map_cons, List.nodup_cons] at hn
    have hne : ¬ ((x.born : Int) = (m.born : Int)) := fun e => hn.1 (List.mem_map.2 ⟨m, List.mem_iff_getElem?.2 ⟨j, h⟩, by omega⟩)
    rw [List.findIdx?_cons]
    simp only [beq_iff_eq, hne, if_false]
    rw [findIdx_born l j m hn.2 h]
    rfl

theorem run_asGo {P : Program} {n : Nat} {w : World} : (asInt (goInt n)).run P w = .ok (n : Int) w := rfl

theorem arr_findIdx {α : Type} (p : α → Bool) (l : Array α) : l.findIdx? p = l.toList.findIdx? p := by
  cases l; simp

section
variable {P : Program} {st : St} {K V : Type} [BEq K]

theorem entry_run {k : Kc K} {v : Cd V} {a : Act} {w : World} {g : Gh} (hr : Rel st a w g) {i : Nat} {es : List (K × V)} {key : K} {y z : V} {iv yv : Value} {T KT ET : TypeId} (hT : P.underlying T = some (.map KT ET)) (hk : keyTOf P KT = some k.kt)
    (hm : hMap k v st.H (some i) = some es) (hz : zeroD P ET = some (v.enc z)) (hi : Rd g w iv (k.c.enc key)) (hy : Rd g w yv (v.enc y)) :
    ∃ kb w1 v0 born, g.ρ[i]? = some kb ∧ g.ow kb = .obj i ∧ (Instr.mapEntry T (.map (some kb)) iv).run P w = .ok (.tuple #[v0, goInt born]) w1 ∧ w1.heap.size = w.heap.size ∧ SameOs w w1 ∧ (∀ k', k' ≠ kb → w1.heap[k']? = w.heap[k']?) ∧
      RO g w1 i (.map ((mPut key ((es.lookup key).getD z) es).map (encE k v))) ∧
      ∃ w2, (Instr.entryStore T (.map (some kb)) (goInt born) yv).run P w1 = .ok () w2 ∧ w2.heap.size = w1.heap.size ∧ SameOs w1 w2 ∧ (∀ k', k' ≠ kb → w2.heap[k']? = w1.heap[k']?) ∧ RO g w2 i (.map ((mPut key y es).map (encE k v))) := by
  obtain ⟨kb, ms, clock, f1, f2, f3, f4, f5, f6, r, g1, g2⟩ := map_found hr hm hi
  obtain ⟨vz, ez, rz⟩ := zeroD_sound (P := P) (g := g) (w := w) hz
  have keepBlk : ∀ {w0 w' : World} (o' : Own), (∀ k', k' ≠ kb → w'.heap[k']? = w0.heap[k']?) → o' ≠ .obj i → Keep o' g w0 g w' := fun o' h ho => Keep.block f2 ho h
  -- what stands in the map in the end, of whatever value
  have fin : ∀ {w' : World} {x : V} {xv : Value} {ms' : Array MapEntry} {clock' : Nat}, (∀ k', k' ≠ kb → w'.heap[k']? = w.heap[k']?) → w'.heap[kb]? = some (.map ms' clock') → Rd g w xv (v.enc x) → bornOk ms' clock' →
      ((r = none ∧ ∃ b, ms' = ms.push { key := iv, val := xv, born := b }) ∨ ∃ j u, r = some (j, u) ∧ ms' = ms.modify j fun e => { e with key := iv, val := xv }) → RO g w' i (.map ((mPut key x es).map (encE k v))) := by
    intro w' x xv ms' clock' hw hb hx hbo hms
    have up : ∀ {u : Value} {x : D}, Rd g w u x → Rd g w' u x := fun h => Rd.keep (keepBlk _ hw (by simp)) (fun _ _ h => h) h
    rcases g2 with ⟨g3, hrn, g4⟩ | ⟨y0, u, j, g3, hrs, g5, g4⟩
    · obtain ⟨b, rfl⟩ : ∃ b, ms' = ms.push { key := iv, val := xv, born := b } := by
        rcases hms with ⟨-, h⟩ | ⟨j, u, h, -⟩
        · exact h
        · rw [hrn] at h; cases h
      refine ⟨kb, _, clock', f1, f2, hb, by rw [mPut_none k v key x es g4]; simp [f4], hbo, fun j p hj => ?_⟩
      rw [mPut_none k v key x es g4] at hj
      by_cases hlt : j < es.length
      · rw [List.getElem?_append_left (by simpa using hlt), List.getElem?_map] at hj
        simp only [Option.map_eq_some_iff] at hj
        obtain ⟨q, hq, rfl⟩ := hj
        obtain ⟨m, m1, m2, m3⟩ := f6 j q hq
        exact ⟨m, by rw [Array.getElem?_push_lt (by omega), ← Array.getElem?_eq_getElem]; exact m1, up m2, up m3⟩
      · have : j = es.length := by have := get_lt hj; simp at this; omega
        subst this
        rw [List.getElem?_append_right (by simp)] at hj
        simp only [List.length_map, Nat.sub_self, List.getElem?_cons_zero, Option.some.injEq] at hj
        subst hj
        exact ⟨{ key := iv, val := xv, born := b }, by rw [← f4]; simp, up hi, up hx⟩
    · obtain ⟨i1, ⟨p, i2, i3⟩, i4⟩ := mPut_some k v key x es j _ g4
      obtain ⟨m, m1, m2, m3⟩ := f6 j p i2
      have hms : ms' = ms.modify j fun e => { e with key := iv, val := xv } := by
        rcases hms with ⟨h, -⟩ | ⟨j', u', h, h'⟩
        · rw [hrs] at h; cases h
        · rw [hrs] at h; cases h; exact h'
      subst hms
      refine ⟨kb, _, clock', f1, f2, hb, by rw [i4]; simp [f4], hbo, fun j' p' hj => ?_⟩
      rw [i4] at hj
      by_cases e : j = j'
      · subst e
        rw [List.getElem?_set_self (by simpa using i1)] at hj
        cases hj
        refine ⟨{ m with key := iv, val := xv }, ?_, up hi, up hx⟩
        simp [Array.getElem?_modify, m1]
      · rw [List.getElem?_set_ne e, List.getElem?_map] at hj
        simp only [Option.map_eq_some_iff] at hj
        obtain ⟨q, hq, rfl⟩ := hj
        obtain ⟨m, m1, m2, m3⟩ := f6 j' q hq
        exact ⟨m, by simp [Array.getElem?_modify, e, m1], up m2, up m3⟩
  obtain ⟨b1, b2⟩ := f5
  have pushOk : ∀ xv, bornOk (ms.push { key := iv, val := xv, born := clock }) (clock + 1) := fun xv => by
    refine ⟨fun m hm => ?_, ?_⟩
    · simp only [Array.toList_push, List.mem_append, List.mem_singleton] at hm
      rcases hm with h | rfl
      · have := b1 m h; omega
      · simp
    · simp only [Array.toList_push, List.map_append, List.map_cons, List.map_nil]
      refine List.nodup_append.2 ⟨b2, by simp, fun x hx y hy => ?_⟩
      simp only [List.mem_singleton] at hy
      subst hy
      obtain ⟨m, hm, rfl⟩ := List.mem_map.1 hx
      have := b1 m hm; omega
  have modOk : ∀ (j : Nat) (f : MapEntry → MapEntry), (∀ e, (f e).born = e.born) → bornOk (ms.modify j f) clock := fun j f hf => by
    have hborn : (ms.modify j f).toList.map (·.born) = ms.toList.map (·.born) := by
      apply List.ext_getElem?
      intro n
      simp only [Array.toList_modify, List.getElem?_map, List.getElem?_modify]
      by_cases e : j = n
      · subst e; simp only [if_true]; cases ms.toList[j]? <;> simp [hf]
      · simp [e]
    refine ⟨fun m hm => ?_, by rw [hborn]; exact b2⟩
    have : m.born ∈ ms.toList.map (·.born) := by rw [← hborn]; exact List.mem_map_of_mem hm
    obtain ⟨m', hm', e⟩ := List.mem_map.1 this
    rw [← e]; exact b1 m' hm'
  have two : ∀ {o1 o2 : Obj}, w.heap[kb]? = some (.map ms clock) → (setBlk (setBlk w kb o1) kb o2).heap[kb]? = some o2 := fun h => setBlk_self (setBlk_self h)
  rcases g2 with ⟨g3, hrn, g4⟩ | ⟨y0, u, j, g3, hrs, g5, g4⟩
  · rw [hrn] at g1
    refine ⟨kb, setBlk w kb (.map (ms.push { key := iv, val := vz, born := clock }) (clock + 1)), vz, clock, f1, f2, ?_, setBlk_size, ⟨rfl, rfl⟩, fun k' h => setBlk_other h, ?_, setBlk (setBlk w kb (.map (ms.push { key := iv, val := vz, born := clock }) (clock + 1))) kb (.map (ms.push { key := iv, val := yv, born := clock }) (clock + 1)), ?_, setBlk_size, ⟨rfl, rfl⟩, fun k' h => setBlk_other h, ?_⟩
    · simp only [Instr.mapEntry, Sem.run_bind, run_underlying hT, Result.andThen_ok, run_getMap f3, run_checkKey hk, run_findKey hk g1, rz, run_setMap f3, Sem.run_pure]
    · refine fin (xv := vz) (fun k' h => setBlk_other h) (setBlk_self f3) ?_ (pushOk vz) (.inl ⟨hrn, clock, rfl⟩)
      rw [g3]; exact ez
    · have hfi : (ms.push { key := iv, val := vz, born := clock }).findIdx? (fun e => (e.born : Int) == (clock : Int)) = some ms.size := by
        have := findIdx_born (ms.push { key := iv, val := vz, born := clock }).toList ms.size { key := iv, val := vz, born := clock } (pushOk vz).2 (by simp)
        rw [arr_findIdx]; exact this
      have hmod : (ms.push { key := iv, val := vz, born := clock }).modify ms.size (fun e => { e with val := yv }) = ms.push { key := iv, val := yv, born := clock } := by
        apply Array.ext_getElem?
        intro n
        simp only [Array.getElem?_modify, Array.getElem?_push]
        by_cases e : ms.size = n
        · subst e; simp
        · have e' : ¬ n = ms.size := fun h => e h.symm
          simp [e, e']
      simp only [Instr.entryStore, Sem.run_bind, Result.andThen_ok, run_getMap (setBlk_self f3), run_asGo, hfi, hmod, run_setMap (setBlk_self f3)]
    · exact fin (xv := yv) (fun k' h => by rw [setBlk_other h, setBlk_other h]) (two f3) hy (pushOk yv) (.inl ⟨hrn, clock, rfl⟩)
  · rw [hrs] at g1
    obtain ⟨i1, ⟨p, i2, i3⟩, i4⟩ := mPut_some k v key y es j _ g4
    obtain ⟨m, m1, m2, m3⟩ := f6 j p i2
    have hsb : Instr.sameBits 10000 m.key iv = true := sameBits_key (k.isK _) (k.isK _) hi m2 (by rw [k.same]; exact i3)
    -- the value found is the entry's
    have hu : u = m.val := by
      have := findNow_val g1 m1
      exact this
    subst hu
    refine ⟨kb, setBlk w kb (.map (ms.modify j fun e => { e with key := iv }) clock), m.val, m.born, f1, f2, ?_, setBlk_size, ⟨rfl, rfl⟩, fun k' h => setBlk_other h, ?_, setBlk (setBlk w kb (.map (ms.modify j fun e => { e with key := iv }) clock)) kb (.map (ms.modify j fun e => { e with key := iv, val := yv }) clock), ?_, setBlk_size, ⟨rfl, rfl⟩, fun k' h => setBlk_other h, ?_⟩
    · simp only [Instr.mapEntry, Sem.run_bind, run_underlying hT, Result.andThen_ok, run_getMap f3, run_checkKey hk, run_findKey hk g1, m1, Option.map_some, Option.getD_some, Instr.keyThatStays, hsb, if_true, Sem.run_pure, run_setMap f3]
    · refine fin (xv := m.val) (fun k' h => setBlk_other h) (setBlk_self f3) ?_ (modOk j _ fun _ => rfl) (.inr ⟨j, _, hrs, ?_⟩)
      · rw [g3]; exact g5
      · apply Array.ext_getElem?
        intro n
        simp only [Array.getElem?_modify]
        by_cases e : j = n
        · subst e; simp [m1]
        · simp [e]
    · have hfi : (ms.modify j fun e => { e with key := iv }).findIdx? (fun e => (e.born : Int) == (m.born : Int)) = some j := by
        have := findIdx_born (ms.modify j fun e => { e with key := iv }).toList j { m with key := iv } (modOk j (fun e => { e with key := iv }) fun _ => rfl).2 (by simp [List.getElem?_modify, m1])
        rw [arr_findIdx]; exact this
      have hmod : (ms.modify j fun e => { e with key := iv }).modify j (fun e => { e with val := yv }) = ms.modify j fun e => { e with key := iv, val := yv } := by
        apply Array.ext_getElem?
        intro n
        simp only [Array.getElem?_modify]
        by_cases e : j = n
        · subst e; simp [m1]
        · simp [e]
      simp only [Instr.entryStore, Sem.run_bind, Result.andThen_ok, run_getMap (setBlk_self f3), run_asGo, hfi, hmod, run_setMap (setBlk_self f3)]
    · exact fin (xv := yv) (fun k' h => by rw [setBlk_other h, setBlk_other h]) (two f3) hy (modOk j _ fun _ => rfl) (.inr ⟨j, _, hrs, rfl⟩)
where
  findNow_val : ∀ {d : TypeDesc} {iv : Value} {ms : Array MapEntry} {j : Nat} {u : Value} {m : MapEntry}, Instr.findNow d iv ms.toList 0 = some (some (j, u)) → ms[j]? = some m → u = m.val := by
    intro d iv ms j u m h hm
    have key : ∀ (l : List MapEntry) (i j : Nat) (u : Value), Instr.findNow d iv l i = some (some (j, u)) → i ≤ j ∧ ∃ m, l[j - i]? = some m ∧ u = m.val := by
      intro l
      induction l with
      | nil => intro i j u h; simp [Instr.findNow] at h
      | cons e l ih =>
        intro i j u h
        simp only [Instr.findNow] at h
        split at h
        · simp only [Option.some.injEq, Prod.mk.injEq] at h
          obtain ⟨rfl, rfl⟩ := h
          exact ⟨Nat.le_refl _, e, by simp, rfl⟩
        · obtain ⟨h1, m, h2, h3⟩ := ih _ _ _ h
          refine ⟨by omega, m, ?_, h3⟩
          rw [show j - i = (j - (i + 1)) + 1 by omega]
          simpa using h2
        · cases h
    obtain ⟨-, m', h1, h2⟩ := key _ _ _ _ h
    simp only [Nat.sub_zero, Array.getElem?_toList] at h1
    rw [hm] at h1
    cases h1
    exact h2
end
end Go.Sh
