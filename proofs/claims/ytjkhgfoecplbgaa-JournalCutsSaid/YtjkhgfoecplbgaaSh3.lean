/- Keeping the state (Rel): a slot is written, a list changes hands, the world goes on. -/
import Derived.Test.YtjkhgfoecplbgaaSh2
set_option linter.all false
set_option autoImplicit true
set_option relaxedAutoImplicit true
namespace Go.Sh

theorem valOf_put {a : Act} {d : Option Tmp} {v : Value} {t : Nat} (h : d ≠ some t) : valOf (a.put d v) t = valOf a t := by
  cases d with
  | none => rfl
  | some e =>
    have : e ≠ t := fun h' => h (by rw [h'])
    simp [valOf, Act.put, Array.getD_eq_getD_getElem?, Array.getElem?_setIfInBounds_ne this]

theorem valOf_put_same {a : Act} {v : Value} {t : Nat} (h : t < a.tmps.size) : valOf (a.put (some t) v) t = v := by
  simp [valOf, Act.put, Array.getD_eq_getD_getElem?, h]

theorem put_size {a : Act} {d : Option Tmp} {v : Value} : (a.put d v).tmps.size = a.tmps.size := by
  cases d <;> simp [Act.put]

theorem put_defers {a : Act} {d : Option Tmp} {v : Value} : (a.put d v).defers = a.defers := by
  cases d <;> rfl

@[simp] theorem St.kill_len (st : St) (t : Nat) : (st.kill t).tmps.length = st.tmps.length := by simp [St.kill]
@[simp] theorem St.set_len (st : St) (t : Nat) (s : SV) : (st.set t s).tmps.length = st.tmps.length := by simp [St.set]
@[simp] theorem St.put_len (st : St) (d : Option Tmp) (s : SV) : (st.put d s).tmps.length = st.tmps.length := by
  cases d with
  | none => rfl
  | some t => simp only [St.put]; split <;> (try split) <;> simp
@[simp] theorem St.kill_H (st : St) (t : Nat) : (st.kill t).H = st.H := rfl
@[simp] theorem St.set_H (st : St) (t : Nat) (s : SV) : (st.set t s).H = st.H := rfl
@[simp] theorem St.put_H (st : St) (d : Option Tmp) (s : SV) : (st.put d s).H = st.H := by
  cases d with
  | none => rfl
  | some t => simp only [St.put]; split <;> (try split) <;> rfl

theorem St.kill_get {st : St} {t0 t : Nat} {s : SV} (h : (st.kill t0).tmps[t]? = some s) : s = .undef ∨ (st.tmps[t]? = some s ∧ mention t0 s = false) := by
  simp only [St.kill, List.getElem?_map, Option.map_eq_some_iff] at h
  obtain ⟨s', h1, h2⟩ := h
  split at h2
  · exact .inl h2.symm
  · rename_i hm
    subst h2
    exact .inr ⟨h1, by simpa using hm⟩

/-- A slot other than the one that is written: emptied, or as it was and (if the one that is written held something heavy) without a mention of it. -/
theorem St.put_get {st : St} {t0 t : Nat} {s s' : SV} (hne : t ≠ t0) (h : (st.put (some t0) s).tmps[t]? = some s') :
    s' = .undef ∨ (st.tmps[t]? = some s' ∧ ∀ old, st.tmps[t0]? = some old → heavy old = true → mention t0 s' = false) := by
  simp only [St.put] at h
  split at h
  · rename_i old ho
    split at h
    · simp only [St.set, List.getElem?_set_ne (Ne.symm hne)] at h
      rcases St.kill_get h with h | ⟨h1, h2⟩
      · exact .inl h
      · exact .inr ⟨h1, fun _ _ _ => h2⟩
    · rename_i hh
      simp only [St.set, List.getElem?_set_ne (Ne.symm hne)] at h
      exact .inr ⟨h, fun old' e hh' => by rw [ho] at e; cases e; exact absurd hh' hh⟩
  · rename_i hn
    exact .inr ⟨h, fun old e _ => by rw [hn] at e; cases e⟩

theorem St.put_get_same {st : St} {t : Nat} {s s' : SV} (h : (st.put (some t) s).tmps[t]? = some s') : s' = s ∧ t < st.tmps.length := by
  simp only [St.put] at h
  split at h
  · rename_i old ho
    have hlt : t < st.tmps.length := (List.getElem?_eq_some_iff.1 ho).1
    split at h
    · rw [St.set, List.getElem?_set_self (by simpa using hlt)] at h
      exact ⟨by cases h; rfl, hlt⟩
    · rw [St.set, List.getElem?_set_self hlt] at h
      exact ⟨by cases h; rfl, hlt⟩
  · rename_i hn
    rw [hn] at h; cases h

/-- THE STATE IS KEPT: slot by slot either new, emptied, or as it was while nothing on which it depends has changed. -/
theorem Rel.step {st st' : St} {a a' : Act} {w w' : World} {g g' : Gh} (h : Rel st a w g) (hlen : a'.tmps.size = st'.tmps.length) (hd : a'.defers = []) (hρ : KeepR g g')
    (ht : ∀ (t : Nat) (s : SV), st'.tmps[t]? = some s → s = .undef ∨ RS g' w' st'.tmps (valOf a') t (valOf a' t) s ∨
      (st.tmps[t]? = some s ∧ valOf a' t = valOf a t ∧ (∀ o, uses t s o → Keep o g w g' w') ∧
        ∀ s', dep s = some s' → valOf a' s' = valOf a s' ∧ ∀ x, st.tmps[s']? = some x → bigK x ≠ 0 → ∃ x', st'.tmps[s']? = some x' ∧ bigK x' = bigK x))
    (hH : RH g' w' st'.H) : Rel st' a' w' g' := by
  refine ⟨hlen, hd, fun t s hs => ?_, hH⟩
  rcases ht t s hs with rfl | hr | ⟨h1, h2, h3, h4⟩
  · trivial
  · exact hr
  · rw [h2]
    exact RS.keep h3 hρ h4 (h.tmp t s h1)

theorem RH.keep {g g' : Gh} {w w' : World} {H : List SObj} (hk : ∀ o, usesH o → Keep o g w g' w') (hρ : KeepR g g') (hl : g'.ρ.length = g.ρ.length) (h : RH g w H) : RH g' w' H :=
  ⟨hl.trans h.1, fun i o hi => (h.2 i o hi).keep hk hρ⟩

/-- The world goes on (new blocks, draws); nothing of ours has changed. -/
theorem Rel.world {st : St} {a : Act} {w w' : World} {g g' : Gh} (h : Rel st a w g) (hk : ∀ o, Keep o g w g' w') (hρ : KeepR g g') (hl : g'.ρ.length = g.ρ.length) : Rel st a w' g' := by
  refine Rel.step h h.len h.def0 hρ (fun t s hs => .inr (.inr ⟨hs, rfl, fun o ho => hk o, fun s' _ => ⟨rfl, fun x hx _ => ⟨x, hx, rfl⟩⟩⟩)) (h.hp.keep (fun o ho => hk o) hρ hl)

/-- What a light value asks of the slot that takes it: nothing. -/
def Light (g : Gh) (w : World) (v : Value) : SV → Prop
  | .d x => Rd g w v x
  | .lent l n xs => RList g w (some l) v n xs
  | .lptr l cs => RPtr g w (some l) v cs
  | .own _ xs => xs = [] ∧ ∃ a, v = .slice a 0 0
  | .tup vs => ∃ us : Array Value, v = .tuple us ∧ us.size = vs.length ∧ ∀ (j : Nat) (s : SV), vs[j]? = some s → ∃ u x, us[j]? = some u ∧ s = .d x ∧ Rd g w u x
  | .undef => True
  | _ => False

theorem Light.rs {g : Gh} {w : World} {v : Value} {s : SV} (h : Light g w v s) (tm : List SV) (val : Nat → Value) (t : Nat) : RS g w tm val t v s := by
  cases s <;> simp only [Light] at h <;> try exact h
  · exact .inl h
  · obtain ⟨us, h1, h2, h3⟩ := h
    exact ⟨us, h1, h2, fun j s hj => let ⟨u, x, e1, e2, e3⟩ := h3 j s hj; ⟨u, e1, by subst e2; exact e3⟩⟩

theorem uses_mention {t t0 : Nat} {s : SV} (hne : t ≠ t0) (hm : mention t0 s = false) {o : Own} (ho : uses t s o) :
    o ≠ .box t0 ∧ o ≠ .lst (.slot t0) ∧ (∀ j, o ≠ .lst (.cell t0 j)) ∧ (∀ j, o ≠ .lst (.comp t0 j)) := by
  cases s <;> simp only [uses] at ho
  · subst ho; simp
  · rcases ho with rfl | rfl <;> simp [hne]
  · rename_i l _ _
    rcases ho with rfl | rfl
    · simp
    · cases l <;> simp [mention] at hm ⊢ <;> exact hm
  · rename_i l _
    rcases ho with rfl | rfl
    · simp
    · cases l <;> simp [mention] at hm ⊢ <;> exact hm
  · rcases ho with rfl | rfl | ⟨j, rfl⟩ <;> simp [hne]
  · rcases ho with rfl | ⟨j, rfl⟩ <;> simp [hne]
  · rcases ho with rfl | rfl <;> simp [hne]

/-- A slot is written, the world stays. -/
theorem Rel.put {st : St} {a : Act} {w : World} {g : Gh} {s : SV} {v : Value} (h : Rel st a w g) (d : Option Tmp)
    (hs : ∀ t, d = some t → t < st.tmps.length → RS g w (st.put d s).tmps (valOf (a.put d v)) t v s) : Rel (st.put d s) (a.put d v) w g := by
  refine Rel.step h (by rw [put_size, St.put_len]; exact h.len) (by rw [put_defers]; exact h.def0) (KeepR.refl g) (fun t s' hs' => ?_) (by rw [St.put_H]; exact h.hp)
  cases d with
  | none => exact .inr (.inr ⟨hs', rfl, fun _ _ => Keep.refl _ _ _, fun s' _ => ⟨rfl, fun x hx _ => ⟨x, hx, rfl⟩⟩⟩)
  | some t0 =>
    by_cases hne : t = t0
    · subst hne
      obtain ⟨rfl, hlt⟩ := St.put_get_same hs'
      refine .inr (.inl ?_)
      rw [valOf_put_same (by rw [h.len]; exact hlt)]
      exact hs t rfl hlt
    · rcases St.put_get hne hs' with hu | ⟨h1, h2⟩
      · exact .inl hu
      · refine .inr (.inr ⟨h1, valOf_put (by simpa using Ne.symm hne), fun _ _ => Keep.refl _ _ _, fun s0 e => ?_⟩)
        obtain ⟨x0, hx0, hb0⟩ := dep_big (h.tmp t _ h1) e
        have hs0 : s0 ≠ t0 := by
          rintro rfl
          have := h2 _ hx0 (bigK_heavy hb0)
          rw [dep_mention e] at this
          cases this
        refine ⟨valOf_put (by simpa using Ne.symm hs0), fun x hx hb => ⟨x, ?_, rfl⟩⟩
        simp only [St.put]
        split
        · split
          · simp only [St.set, St.kill, List.getElem?_set_ne (Ne.symm hs0), List.getElem?_map, hx, Option.map_some, bigK_mention hb]
            simp
          · simp only [St.set, List.getElem?_set_ne (Ne.symm hs0), hx]
        · exact hx

theorem Rel.putLight {st : St} {a : Act} {w : World} {g : Gh} {s : SV} {v : Value} (h : Rel st a w g) (d : Option Tmp) (hs : Light g w v s) : Rel (st.put d s) (a.put d v) w g :=
  h.put d fun _ _ _ => hs.rs _ _ _

end Go.Sh
