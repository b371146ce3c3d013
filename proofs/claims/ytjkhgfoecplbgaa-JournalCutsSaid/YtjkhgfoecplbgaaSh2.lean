/- What a temporary may hold in the shadow of a call (SV), its state (St), and when a frame and a world are in that state (Rel). -/
import Derived.Test.YtjkhgfoecplbgaaSh1
set_option linter.all false
set_option autoImplicit true
set_option relaxedAutoImplicit true
namespace Go.Sh

/-- Data; a list that this call owns (it may grow); a list or cells lent by its owner; a local box and a pointer into it; the results of a call; nothing of use. -/
inductive SV where
  | d (x : D)
  | own (n : Nat) (xs : List D)
  | lent (l : Loc) (n : Nat) (xs : List D)
  | lptr (l : Loc) (cs : List D)
  | box (cs : List SV)
  | loc (s off : Nat)
  | tup (vs : List SV)
  | undef
  | als (s : Nat)
  | ep (s n j : Nat)
  | pin (v : Value) (n : Nat) (xs : List D)
  deriving Inhabited

/-- An object of the shadow heap: a variable, or a map. -/
inductive SObj where
  | cells (cs : List SV)
  | map (es : List (D × D))
  | hole
  | iter (kb clock : Nat)
  | mapX (kb clock : Nat) (ms : Array MapEntry) (es : List (D × D))
  deriving Inhabited

structure St where
  tmps : List SV
  H : List SObj

/-- A slice that is nil or empty for good, or that starts in a block of this owner's, which holds its elements and room behind them. -/
def ROwn (g : Gh) (w : World) (o : Loc) (v : Value) (n : Nat) (xs : List D) : Prop :=
  (xs = [] ∧ ∃ a, v = .slice a 0 0) ∨
  ∃ (k off cap : Nat) (c : Array Value) (T : TypeId) (us : Nat → Nat → Value), v = .slice (some ⟨k, off, none⟩) xs.length cap ∧ g.ow k = .lst o ∧
    w.heap[k]? = some (.cells c T (0, 0)) ∧ xs.length ≤ cap ∧ off + cap * n ≤ c.size ∧
    (∀ (i : Nat) (x : D), xs[i]? = some x → x.cells.length = n) ∧
    (∀ (i : Nat) (x : D), xs[i]? = some x → ∀ (j : Nat) (y : D), x.cells[j]? = some y → c[off + i * n + j]? = some (us i j) ∧ (us i j).oneCell' = true) ∧
    (∀ (i : Nat) (x : D), xs[i]? = some x → ∀ (j : Nat) (y : D), x.cells[j]? = some y → Rd g w (us i j) y)

/-- What one cell (an argument, a result) holds. -/
def RC (g : Gh) (w : World) (o : Loc) (v : Value) : SV → Prop
  | .d x => Rd g w v x
  | .own n xs => ROwn g w o v n xs
  | .undef => True
  | _ => False

/-- What others may lean on: a box, a list of one's own. -/
def bigK : SV → Nat
  | .box _ => 1
  | .own _ _ => 2
  | .pin _ _ _ => 2
  | _ => 0

/-- The slot on which what a slot holds leans. -/
def dep : SV → Option Nat
  | .loc s _ => some s
  | .als s => some s
  | .ep s _ _ => some s
  | _ => none

def RS (g : Gh) (w : World) (tm : List SV) (val : Nat → Value) (t : Nat) (v : Value) : SV → Prop
  | .d x => Rd g w v x
  | .own n xs => ROwn g w (.slot t) v n xs
  | .lent l n xs => RList g w (some l) v n xs
  | .lptr l cs => RPtr g w (some l) v cs
  | .box cs => ∃ (k : Nat) (c : Array Value) (T : TypeId), v = .pointer (some ⟨k, 0, none⟩) ∧ g.ow k = .box t ∧ w.heap[k]? = some (.cells c T (0, 0)) ∧ c.size = cs.length ∧
      ∀ (j : Nat) (s : SV), cs[j]? = some s → ∃ u, c[j]? = some u ∧ RC g w (.cell t j) u s ∧ u.oneCell' = true
  | .loc s off => (∃ cs, tm[s]? = some (.box cs)) ∧ ∃ k, val s = .pointer (some ⟨k, 0, none⟩) ∧ v = .pointer (some ⟨k, off, none⟩)
  | .tup vs => ∃ us : Array Value, v = .tuple us ∧ us.size = vs.length ∧ ∀ (j : Nat) (s : SV), vs[j]? = some s → ∃ u, us[j]? = some u ∧ RC g w (.comp t j) u s
  | .undef => True
  | .als s => (∃ x, tm[s]? = some x ∧ bigK x = 2) ∧ v = val s
  | .ep s n j => (∃ x, tm[s]? = some x ∧ bigK x = 2) ∧ ∃ k off len cap, val s = .slice (some ⟨k, off, none⟩) len cap ∧ v = .pointer (some ⟨k, off + j * n, none⟩)
  | .pin v0 n xs => v = v0 ∧ ROwn g w (.slot t) v n xs

/-- A map's entries: each has a stamp of its own, older than the clock. -/
def bornOk (ms : Array MapEntry) (clock : Nat) : Prop := (∀ m, m ∈ ms.toList → m.born < clock) ∧ (ms.toList.map (·.born)).Nodup

def RO (g : Gh) (w : World) (i : Nat) : SObj → Prop
  | .cells cs => ∃ (k : Nat) (c : Array Value) (T : TypeId), g.ρ[i]? = some k ∧ g.ow k = .obj i ∧ w.heap[k]? = some (.cells c T (0, 0)) ∧ c.size = cs.length ∧
      ∀ (j : Nat) (s : SV), cs[j]? = some s → ∃ u, c[j]? = some u ∧ RC g w (.hcell i j) u s ∧ u.oneCell' = true
  | .map es => ∃ (k : Nat) (ms : Array MapEntry) (clock : Nat), g.ρ[i]? = some k ∧ g.ow k = .obj i ∧ w.heap[k]? = some (.map ms clock) ∧ ms.size = es.length ∧ bornOk ms clock ∧
      ∀ (j : Nat) (p : D × D), es[j]? = some p → ∃ m, ms[j]? = some m ∧ Rd g w m.key p.1 ∧ Rd g w m.val p.2
  | .hole => True
  | .iter kb clock => ∃ k : Nat, g.ρ[i]? = some k ∧ g.ow k = .obj i ∧ w.heap[k]? = some (.mapIter (some kb) clock #[] clock)
  | .mapX kb clock ms es => g.ρ[i]? = some kb ∧ g.ow kb = .obj i ∧ w.heap[kb]? = some (.map ms clock) ∧ ms.size = es.length ∧ bornOk ms clock ∧
      ∀ (j : Nat) (p : D × D), es[j]? = some p → ∃ m, ms[j]? = some m ∧ Rd g w m.key p.1 ∧ Rd g w m.val p.2

def RH (g : Gh) (w : World) (H : List SObj) : Prop := g.ρ.length = H.length ∧ ∀ (i : Nat) (o : SObj), H[i]? = some o → RO g w i o

def valOf (a : Act) (t : Nat) : Value := a.tmps.getD t undef

structure Rel (st : St) (a : Act) (w : World) (g : Gh) : Prop where
  len : a.tmps.size = st.tmps.length
  def0 : a.defers = []
  tmp : ∀ (t : Nat) (s : SV), st.tmps[t]? = some s → RS g w st.tmps (valOf a) t (valOf a t) s
  hp : RH g w st.H

/-- The owners on which what a slot holds depends. -/
def uses (t : Nat) : SV → Own → Prop
  | .d _, o => o = .free
  | .own _ _, o => o = .free ∨ o = .lst (.slot t)
  | .lent l _ _, o => o = .free ∨ o = .lst l
  | .lptr l _, o => o = .free ∨ o = .lst l
  | .box _, o => o = .free ∨ o = .box t ∨ ∃ j, o = .lst (.cell t j)
  | .loc _ _, _ => False
  | .tup _, o => o = .free ∨ ∃ j, o = .lst (.comp t j)
  | .undef, _ => False
  | .als _, _ => False
  | .ep _ _ _, _ => False
  | .pin _ _ _, o => o = .free ∨ o = .lst (.slot t)

theorem ROwn.keep {g g' : Gh} {w w' : World} {o : Loc} {v : Value} {n : Nat} {xs : List D} (h0 : Keep .free g w g' w') (h1 : Keep (.lst o) g w g' w') (hρ : KeepR g g')
    (h : ROwn g w o v n xs) : ROwn g' w' o v n xs := by
  rcases h with h | ⟨k, off, cap, c, T, us, hv, hk, hb, hl, hz, hn, hc, hr⟩
  · exact .inl h
  · obtain ⟨hk', hb'⟩ := h1 k _ hk hb
    exact .inr ⟨k, off, cap, c, T, us, hv, hk', hb', hl, hz, hn, hc, fun i x hx j y hy => (hr i x hx j y hy).keep h0 hρ⟩

theorem RC.keep {g g' : Gh} {w w' : World} {o : Loc} {v : Value} {s : SV} (h0 : Keep .free g w g' w') (h1 : Keep (.lst o) g w g' w') (hρ : KeepR g g')
    (h : RC g w o v s) : RC g' w' o v s := by
  cases s <;> simp only [RC] at h ⊢
  · exact h.keep h0 hρ
  · exact h.keep h0 h1 hρ

theorem bigK_box {tm : List SV} {s : Nat} {x : SV} {cs : List SV} (h : tm[s]? = some x) (hk : bigK x = bigK (.box cs)) : ∃ cs', tm[s]? = some (.box cs') := by
  cases x <;> simp [bigK] at hk
  exact ⟨_, h⟩

theorem RS.keep {g g' : Gh} {w w' : World} {tm tm' : List SV} {val val' : Nat → Value} {t : Nat} {v : Value} {s : SV} (hk : ∀ o, uses t s o → Keep o g w g' w') (hρ : KeepR g g')
    (hl : ∀ s', dep s = some s' → val' s' = val s' ∧ ∀ x, tm[s']? = some x → bigK x ≠ 0 → ∃ x', tm'[s']? = some x' ∧ bigK x' = bigK x)
    (h : RS g w tm val t v s) : RS g' w' tm' val' t v s := by
  cases s with
  | d x => exact Rd.keep (hk _ rfl) hρ h
  | own n xs => exact ROwn.keep (hk _ (.inl rfl)) (hk _ (.inr rfl)) hρ h
  | lent l n xs => exact RList.keep (hk _ (.inl rfl)) (fun l' e => by cases e; exact hk _ (.inr rfl)) hρ h
  | lptr l cs => exact RPtr.keep (hk _ (.inl rfl)) (fun l' e => by cases e; exact hk _ (.inr rfl)) hρ h
  | box cs =>
    obtain ⟨k, c, T, hv, ho, hb, hs, hc⟩ := h
    obtain ⟨ho', hb'⟩ := hk (.box t) (.inr (.inl rfl)) k _ ho hb
    exact ⟨k, c, T, hv, ho', hb', hs, fun j s hj => let ⟨u, h1, h2, h3⟩ := hc j s hj; ⟨u, h1, h2.keep (hk _ (.inl rfl)) (hk _ (.inr (.inr ⟨j, rfl⟩))) hρ, h3⟩⟩
  | loc s' off =>
    obtain ⟨⟨cs, hcs⟩, k, h1, h2⟩ := h
    obtain ⟨hv, hb⟩ := hl s' rfl
    obtain ⟨x', e1, e2⟩ := hb _ hcs (by simp [bigK])
    exact ⟨bigK_box e1 e2, k, by rw [hv]; exact h1, h2⟩
  | als s' =>
    obtain ⟨⟨x, h1, h2⟩, h3⟩ := h
    obtain ⟨hv, hb⟩ := hl s' rfl
    obtain ⟨x', e1, e2⟩ := hb x h1 (by omega)
    exact ⟨⟨x', e1, by omega⟩, by rw [hv]; exact h3⟩
  | ep s' n j =>
    obtain ⟨⟨x, h1, h2⟩, h3⟩ := h
    obtain ⟨hv, hb⟩ := hl s' rfl
    obtain ⟨x', e1, e2⟩ := hb x h1 (by omega)
    exact ⟨⟨x', e1, by omega⟩, by rw [hv]; exact h3⟩
  | tup vs =>
    obtain ⟨us, hv, hs, hc⟩ := h
    exact ⟨us, hv, hs, fun j s hj => let ⟨u, h1, h2⟩ := hc j s hj; ⟨u, h1, h2.keep (hk _ (.inl rfl)) (hk _ (.inr ⟨j, rfl⟩)) hρ⟩⟩
  | undef => trivial
  | pin v0 n xs => exact ⟨h.1, ROwn.keep (hk _ (.inl rfl)) (hk _ (.inr rfl)) hρ h.2⟩

/-- The owners on which the shadow heap depends. -/
def usesH : Own → Prop
  | .free | .obj _ | .lst (.hcell _ _) => True
  | _ => False

theorem RO.keep {g g' : Gh} {w w' : World} {i : Nat} {o : SObj} (hk : ∀ o, usesH o → Keep o g w g' w') (hρ : KeepR g g') (h : RO g w i o) : RO g' w' i o := by
  cases o with
  | cells cs =>
    obtain ⟨k, c, T, hr, ho, hb, hs, hc⟩ := h
    obtain ⟨ho', hb'⟩ := hk (.obj i) trivial k _ ho hb
    exact ⟨k, c, T, hρ _ _ hr, ho', hb', hs, fun j s hj => let ⟨u, h1, h2, h3⟩ := hc j s hj; ⟨u, h1, h2.keep (hk _ trivial) (hk _ trivial) hρ, h3⟩⟩
  | map es =>
    obtain ⟨k, ms, clock, hr, ho, hb, hs, hbo, hc⟩ := h
    obtain ⟨ho', hb'⟩ := hk (.obj i) trivial k _ ho hb
    exact ⟨k, ms, clock, hρ _ _ hr, ho', hb', hs, hbo, fun j p hj => let ⟨m, h1, h2, h3⟩ := hc j p hj; ⟨m, h1, h2.keep (hk _ trivial) hρ, h3.keep (hk _ trivial) hρ⟩⟩
  | hole => trivial
  | iter kb clock =>
    obtain ⟨k, hr, ho, hb⟩ := h
    obtain ⟨ho', hb'⟩ := hk (.obj i) trivial k _ ho hb
    exact ⟨k, hρ _ _ hr, ho', hb'⟩
  | mapX kb clock ms es =>
    obtain ⟨hr, ho, hb, hs, hbo, hc⟩ := h
    obtain ⟨ho', hb'⟩ := hk (.obj i) trivial kb _ ho hb
    exact ⟨hρ _ _ hr, ho', hb', hs, hbo, fun j p hj => let ⟨m, h1, h2, h3⟩ := hc j p hj; ⟨m, h1, h2.keep (hk _ trivial) hρ, h3.keep (hk _ trivial) hρ⟩⟩

/-- What stands or falls with the slot t0: pointers into its box, what it has lent. -/
def mention (t0 : Nat) : SV → Bool
  | .loc s _ => s == t0
  | .als s => s == t0
  | .ep s _ _ => s == t0
  | .lent (.slot s) _ _ | .lptr (.slot s) _ | .lent (.cell s _) _ _ | .lptr (.cell s _) _ | .lent (.comp s _) _ _ | .lptr (.comp s _) _ => s == t0
  | _ => false

def heavy : SV → Bool
  | .own _ _ | .box _ | .tup (_ :: _) | .pin _ _ _ => true
  | _ => false

theorem dep_big {g : Gh} {w : World} {tm : List SV} {val : Nat → Value} {t s' : Nat} {v : Value} {s : SV} (h : RS g w tm val t v s) (hd : dep s = some s') : ∃ x, tm[s']? = some x ∧ bigK x ≠ 0 := by
  cases s <;> simp [dep] at hd
  · obtain ⟨⟨cs, hcs⟩, -⟩ := h; subst hd; exact ⟨_, hcs, by simp [bigK]⟩
  · obtain ⟨⟨x, h1, h2⟩, -⟩ := h; subst hd; exact ⟨x, h1, by omega⟩
  · obtain ⟨⟨x, h1, h2⟩, -⟩ := h; subst hd; exact ⟨x, h1, by omega⟩

theorem dep_mention {s : SV} {s' : Nat} (hd : dep s = some s') : mention s' s = true := by cases s <;> simp [dep] at hd <;> simp [mention, hd]
theorem bigK_heavy {x : SV} (h : bigK x ≠ 0) : heavy x = true := by cases x <;> simp [bigK] at h <;> rfl
theorem bigK_mention {x : SV} (h : bigK x ≠ 0) (t : Nat) : mention t x = false := by cases x <;> simp [bigK] at h <;> rfl

def St.kill (st : St) (t0 : Nat) : St := { st with tmps := st.tmps.map fun s => if mention t0 s then .undef else s }

def St.set (st : St) (t : Nat) (s : SV) : St := { st with tmps := st.tmps.set t s }

/-- A slot is written. -/
def St.put (st : St) (dst : Option Tmp) (s : SV) : St :=
  match dst with
  | none => st
  | some t => match st.tmps[t]? with
    | some old => if heavy old then (st.kill t).set t s else st.set t s
    | none => st

end Go.Sh
