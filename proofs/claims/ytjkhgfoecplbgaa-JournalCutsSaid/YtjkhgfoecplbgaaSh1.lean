/- Plain data over a Go heap: what a value reads as (D), who owns each block, and that reading lasts while blocks that nobody owns stay. -/
import Derived.Lib.QuietBelow
import Derived.Laws.Sem
set_option linter.all false
set_option autoImplicit true
set_option relaxedAutoImplicit true
namespace Go.Sh

/-- Plain data, read out of memory to the bottom: a slice is the list of its elements (and how many cells one takes), a struct or array is the list of its cells. -/
inductive D where
  | bool (b : Bool)
  | int (k : IntKind) (n : Int)
  | str (l : List UInt8)
  | nilS
  | list (n : Nat) (xs : List D)
  | agg (cs : List D)
  | nilIface
  | iface (t : TypeId) (x : D)
  | fn (f : Fn) (first caps : List D)
  | nilFn
  | nilPtr
  | ptr (i off : Nat)
  | dptr (cs : List D)
  | nilMap
  | map (i : Nat)
  deriving Inhabited

def D.cells : D → List D
  | .agg cs => cs
  | x => [x]

/-- A text as the model's bytes. -/
def mk (l : List UInt8) : ByteArray := ⟨⟨l⟩⟩

theorem mk_data (s : ByteArray) : mk s.data.toList = s := rfl
theorem mk_size (l : List UInt8) : (mk l).size = l.length := rfl

/-- Where an owned list stands. -/
inductive Loc where
  | slot (t : Nat)
  | comp (t j : Nat)
  | cell (t j : Nat)
  | hcell (i j : Nat)
  | els
  deriving DecidableEq

/-- Who may write a block: nobody (free), somebody outside this call (out), a box of a slot, an object of the shadow heap, an owned list. -/
inductive Own where
  | free
  | out
  | box (t : Nat)
  | obj (i : Nat)
  | lst (l : Loc)
  deriving DecidableEq

structure Gh where
  ow : Nat → Own
  ρ : List Nat

def Gh.upd (g : Gh) (k : Nat) (o : Own) : Gh := { g with ow := fun b => if b = k then o else g.ow b }
@[simp] theorem Gh.upd_same (g : Gh) (k : Nat) (o : Own) : (g.upd k o).ow k = o := by simp [Gh.upd]
theorem Gh.upd_other (g : Gh) {k b : Nat} (o : Own) (h : b ≠ k) : (g.upd k o).ow b = g.ow b := by simp [Gh.upd, h]
@[simp] theorem Gh.upd_rho (g : Gh) (k : Nat) (o : Own) : (g.upd k o).ρ = g.ρ := rfl

/-- A value reads as data that nobody will ever change: the lists and pointed-at cells lie in blocks that nobody owns. -/
inductive Rd (g : Gh) (w : World) : Value → D → Prop
  | bool {b} : Rd g w (.bool b) (.bool b)
  | int {k n} : Rd g w (.int k n) (.int k n)
  | str {l} : Rd g w (.string (mk l)) (.str l)
  | nilS {a} : Rd g w (.slice a 0 0) .nilS
  | list0 {a cap n} : Rd g w (.slice a 0 cap) (.list n [])
  | list {k off len cap n : Nat} {xs : List D} {c : Array Value} {T : TypeId} {fz : Nat × Nat} (us : Nat → Nat → Value) (hk : g.ow k = .free) (hb : w.heap[k]? = some (.cells c T fz)) (hl : xs.length = len) (hp : len ≤ cap)
      (hn : ∀ (i : Nat) (x : D), xs[i]? = some x → x.cells.length = n)
      (hc : ∀ (i : Nat) (x : D), xs[i]? = some x → ∀ (j : Nat) (y : D), x.cells[j]? = some y → c[off + i * n + j]? = some (us i j) ∧ (us i j).oneCell' = true)
      (hr : ∀ (i : Nat) (x : D), xs[i]? = some x → ∀ (j : Nat) (y : D), x.cells[j]? = some y → Rd g w (us i j) y) :
      Rd g w (.slice (some ⟨k, off, none⟩) len cap) (.list n xs)
  | agg {vs : Array Value} {cs : List D} (hl : vs.size = cs.length) (us : Nat → Value) (hc : ∀ (j : Nat) (y : D), cs[j]? = some y → vs[j]? = some (us j) ∧ (us j).oneCell' = true)
      (hr : ∀ (j : Nat) (y : D), cs[j]? = some y → Rd g w (us j) y) : Rd g w (.agg vs) (.agg cs)
  | nilIface : Rd g w .nilIface .nilIface
  | iface {t v x} (h : Rd g w v x) : Rd g w (.iface t v) (.iface t x)
  | fn {f} {first caps : Array Value} {fs cs : List D} (hl1 : first.size = fs.length) (hl2 : caps.size = cs.length) (us1 us2 : Nat → Value)
      (hc1 : ∀ (j : Nat) (y : D), fs[j]? = some y → first[j]? = some (us1 j)) (hr1 : ∀ (j : Nat) (y : D), fs[j]? = some y → Rd g w (us1 j) y)
      (hc2 : ∀ (j : Nat) (y : D), cs[j]? = some y → caps[j]? = some (us2 j)) (hr2 : ∀ (j : Nat) (y : D), cs[j]? = some y → Rd g w (us2 j) y) :
      Rd g w (.func f first caps) (.fn f fs cs)
  | nilFn : Rd g w .nilFunc .nilFn
  | nilPtr : Rd g w (.pointer none) .nilPtr
  | ptr {i off k} (h : g.ρ[i]? = some k) : Rd g w (.pointer (some ⟨k, off, none⟩)) (.ptr i off)
  | dptr {k off : Nat} {cs : List D} {c : Array Value} {T : TypeId} {fz : Nat × Nat} (us : Nat → Value) (hk : g.ow k = .free) (hb : w.heap[k]? = some (.cells c T fz))
      (hc : ∀ (j : Nat) (y : D), cs[j]? = some y → c[off + j]? = some (us j) ∧ (us j).oneCell' = true) (hr : ∀ (j : Nat) (y : D), cs[j]? = some y → Rd g w (us j) y) :
      Rd g w (.pointer (some ⟨k, off, none⟩)) (.dptr cs)
  | nilMap : Rd g w (.map none) .nilMap
  | map {i k} (h : g.ρ[i]? = some k) : Rd g w (.map (some k)) (.map i)

theorem Rd.nilS_inv {g : Gh} {w : World} {v : Value} (h : Rd g w v .nilS) : ∃ a, v = .slice a 0 0 := by
  cases h; exact ⟨_, rfl⟩

/-- Blocks of this owner stay as they are, and his. -/
def Keep (tag : Own) (g : Gh) (w : World) (g' : Gh) (w' : World) : Prop :=
  ∀ (k : Nat) (o : Obj), g.ow k = tag → w.heap[k]? = some o → g'.ow k = tag ∧ w'.heap[k]? = some o

def KeepR (g g' : Gh) : Prop := ∀ (i k : Nat), g.ρ[i]? = some k → g'.ρ[i]? = some k

theorem Rd.keep {g g' : Gh} {w w' : World} (h : Keep .free g w g' w') (hρ : KeepR g g') {v : Value} {x : D} (hr : Rd g w v x) : Rd g' w' v x := by
  induction hr with
  | bool => exact .bool
  | int => exact .int
  | str => exact .str
  | nilS => exact .nilS
  | list0 => exact .list0
  | list us hk hb hl hp hn hc _ ih => exact .list us (h _ _ hk hb).1 (h _ _ hk hb).2 hl hp hn hc ih
  | agg hl us hc _ ih => exact .agg hl us hc ih
  | nilIface => exact .nilIface
  | iface _ ih => exact .iface ih
  | fn hl1 hl2 us1 us2 hc1 _ hc2 _ ih1 ih2 => exact .fn hl1 hl2 us1 us2 hc1 ih1 hc2 ih2
  | nilFn => exact .nilFn
  | nilPtr => exact .nilPtr
  | ptr h => exact .ptr (hρ _ _ h)
  | dptr us hk hb hc _ ih => exact .dptr us (h _ _ hk hb).1 (h _ _ hk hb).2 hc ih
  | nilMap => exact .nilMap
  | map h => exact .map (hρ _ _ h)

theorem Keep.refl (tag : Own) (g : Gh) (w : World) : Keep tag g w g w := fun _ _ h1 h2 => ⟨h1, h2⟩
theorem KeepR.refl (g : Gh) : KeepR g g := fun _ _ h => h
theorem Keep.trans {tag : Own} {g1 g2 g3 : Gh} {w1 w2 w3 : World} (h : Keep tag g1 w1 g2 w2) (h' : Keep tag g2 w2 g3 w3) : Keep tag g1 w1 g3 w3 :=
  fun k o a b => let ⟨c, d⟩ := h k o a b; h' k o c d

/-- Whose memory may be read: nobody's, or this lender's. -/
def okL (l : Option Loc) : Own → Prop
  | .free => True
  | .lst l' => l = some l'
  | _ => False

/-- A slice whose elements lie in one block that 'l' lends (none: that nobody owns). -/
def RList (g : Gh) (w : World) (l : Option Loc) (v : Value) (n : Nat) (xs : List D) : Prop :=
  (xs = [] ∧ ∃ a cap, v = .slice a 0 cap) ∨
  ∃ (k off cap : Nat) (c : Array Value) (T : TypeId) (fz : Nat × Nat) (us : Nat → Nat → Value), v = .slice (some ⟨k, off, none⟩) xs.length cap ∧ okL l (g.ow k) ∧ w.heap[k]? = some (.cells c T fz) ∧ xs.length ≤ cap ∧
    (∀ (i : Nat) (x : D), xs[i]? = some x → x.cells.length = n) ∧
    (∀ (i : Nat) (x : D), xs[i]? = some x → ∀ (j : Nat) (y : D), x.cells[j]? = some y → c[off + i * n + j]? = some (us i j) ∧ (us i j).oneCell' = true) ∧
    (∀ (i : Nat) (x : D), xs[i]? = some x → ∀ (j : Nat) (y : D), x.cells[j]? = some y → Rd g w (us i j) y)

/-- A pointer to cells, likewise. -/
def RPtr (g : Gh) (w : World) (l : Option Loc) (v : Value) (cs : List D) : Prop :=
  ∃ (k off : Nat) (c : Array Value) (T : TypeId) (fz : Nat × Nat) (us : Nat → Value), v = .pointer (some ⟨k, off, none⟩) ∧ okL l (g.ow k) ∧ w.heap[k]? = some (.cells c T fz) ∧
    (∀ (j : Nat) (y : D), cs[j]? = some y → c[off + j]? = some (us j) ∧ (us j).oneCell' = true) ∧ (∀ (j : Nat) (y : D), cs[j]? = some y → Rd g w (us j) y)

theorem okL_free {o : Own} : okL none o ↔ o = .free := by cases o <;> simp [okL]
theorem okL_up {l : Option Loc} {o : Own} (h : okL none o) : okL l o := by rw [okL_free.1 h]; trivial

theorem Rd.toList {g : Gh} {w : World} {v : Value} {n : Nat} {xs : List D} (h : Rd g w v (.list n xs)) : RList g w none v n xs := by
  cases h with
  | list0 => exact .inl ⟨rfl, _, _, rfl⟩
  | list us hk hb hl hp hn hc hr => subst hl; exact .inr ⟨_, _, _, _, _, _, us, rfl, okL_free.2 hk, hb, hp, hn, hc, hr⟩

theorem RList.toRd {g : Gh} {w : World} {v : Value} {n : Nat} {xs : List D} (h : RList g w none v n xs) : Rd g w v (.list n xs) := by
  rcases h with ⟨rfl, a, cap, rfl⟩ | ⟨k, off, cap, c, T, fz, us, rfl, hk, hb, hp, hn, hc, hr⟩
  · exact .list0
  · exact .list us (okL_free.1 hk) hb rfl hp hn hc hr

theorem Rd.toPtr {g : Gh} {w : World} {v : Value} {cs : List D} (h : Rd g w v (.dptr cs)) : RPtr g w none v cs := by
  cases h with
  | dptr us hk hb hc hr => exact ⟨_, _, _, _, _, us, rfl, okL_free.2 hk, hb, hc, hr⟩

theorem RPtr.toRd {g : Gh} {w : World} {v : Value} {cs : List D} (h : RPtr g w none v cs) : Rd g w v (.dptr cs) := by
  obtain ⟨k, off, c, T, fz, us, rfl, hk, hb, hc, hr⟩ := h
  exact .dptr us (okL_free.1 hk) hb hc hr

theorem RList.up {g : Gh} {w : World} {l : Option Loc} {v : Value} {n : Nat} {xs : List D} (h : RList g w none v n xs) : RList g w l v n xs := by
  rcases h with h | ⟨k, off, cap, c, T, fz, us, hv, hk, h⟩
  · exact .inl h
  · exact .inr ⟨k, off, cap, c, T, fz, us, hv, okL_up hk, h⟩

theorem okL_keep {l : Option Loc} {g g' : Gh} {w w' : World} {k : Nat} {o : Obj} (h : Keep .free g w g' w') (h' : ∀ l', l = some l' → Keep (.lst l') g w g' w')
    (hk : okL l (g.ow k)) (hb : w.heap[k]? = some o) : okL l (g'.ow k) ∧ w'.heap[k]? = some o := by
  cases ho : g.ow k <;> simp only [ho, okL] at hk
  · obtain ⟨a, b⟩ := h k o ho hb; exact ⟨by rw [a]; trivial, b⟩
  · obtain ⟨a, b⟩ := h' _ hk k o ho hb; exact ⟨by rw [a]; exact hk, b⟩

theorem RList.keep {l : Option Loc} {g g' : Gh} {w w' : World} {v : Value} {n : Nat} {xs : List D} (h : Keep .free g w g' w') (h' : ∀ l', l = some l' → Keep (.lst l') g w g' w')
    (hρ : KeepR g g') (hr : RList g w l v n xs) : RList g' w' l v n xs := by
  rcases hr with hr | ⟨k, off, cap, c, T, fz, us, hv, hk, hb, hp, hn, hc, hr⟩
  · exact .inl hr
  · obtain ⟨a, b⟩ := okL_keep h h' hk hb
    exact .inr ⟨k, off, cap, c, T, fz, us, hv, a, b, hp, hn, hc, fun i x hx j y hy => (hr i x hx j y hy).keep h hρ⟩

theorem RPtr.keep {l : Option Loc} {g g' : Gh} {w w' : World} {v : Value} {cs : List D} (h : Keep .free g w g' w') (h' : ∀ l', l = some l' → Keep (.lst l') g w g' w')
    (hρ : KeepR g g') (hr : RPtr g w l v cs) : RPtr g' w' l v cs := by
  obtain ⟨k, off, c, T, fz, us, hv, hk, hb, hc, hr⟩ := hr
  obtain ⟨a, b⟩ := okL_keep h h' hk hb
  exact ⟨k, off, c, T, fz, us, hv, a, b, hc, fun j y hy => (hr j y hy).keep h hρ⟩

/-- What stands outside the memory is as it was. -/
def SameOs (w w' : World) : Prop := w'.os = w.os ∧ w'.output = w.output
theorem SameOs.refl (w : World) : SameOs w w := ⟨rfl, rfl⟩
theorem SameOs.trans {w1 w2 w3 : World} (h : SameOs w1 w2) (h' : SameOs w2 w3) : SameOs w1 w3 := ⟨h'.1.trans h.1, h'.2.trans h.2⟩

/-- What a call, or a part of one, may not touch: what nobody owns, what others own; where it is pure ('pu'), the shadow heap too. -/
structure Fr (pu : Bool) (g : Gh) (w : World) (g' : Gh) (w' : World) : Prop where
  size : w.heap.size ≤ w'.heap.size
  free : Keep .free g w g' w'
  out : Keep .out g w g' w'
  rho : KeepR g g'
  obj : pu = true → ∀ i, Keep (.obj i) g w g' w'
  hcell : pu = true → ∀ i j, Keep (.lst (.hcell i j)) g w g' w'
  len : pu = true → g'.ρ = g.ρ
  os : SameOs w w' := by exact ⟨rfl, rfl⟩

theorem Fr.refl (pu : Bool) (g : Gh) (w : World) : Fr pu g w g w := ⟨Nat.le_refl _, Keep.refl _ _ _, Keep.refl _ _ _, KeepR.refl _, fun _ _ => Keep.refl _ _ _, fun _ _ _ => Keep.refl _ _ _, fun _ => rfl, SameOs.refl _⟩
theorem Fr.trans {pu : Bool} {g1 g2 g3 : Gh} {w1 w2 w3 : World} (h : Fr pu g1 w1 g2 w2) (h' : Fr pu g2 w2 g3 w3) : Fr pu g1 w1 g3 w3 :=
  ⟨Nat.le_trans h.size h'.size, h.free.trans h'.free, h.out.trans h'.out, fun i k a => h'.rho i k (h.rho i k a), fun p i => (h.obj p i).trans (h'.obj p i), fun p i j => (h.hcell p i j).trans (h'.hcell p i j),
    fun p => (h'.len p).trans (h.len p), h.os.trans h'.os⟩

/-- All owners' blocks kept but for some owners that are ours alone. -/
theorem Fr.of {pu : Bool} {g g' : Gh} {w w' : World} (X : Own → Prop) (hx : ∀ o, X o → o ≠ .free ∧ o ≠ .out ∧ (∀ i, o ≠ .obj i) ∧ ∀ i j, o ≠ .lst (.hcell i j)) (hs : w.heap.size ≤ w'.heap.size)
    (hk : ∀ o, ¬ X o → Keep o g w g' w') (hρ : g'.ρ = g.ρ) (hos : SameOs w w' := by exact ⟨rfl, rfl⟩) : Fr pu g w g' w' :=
  ⟨hs, hk _ fun h => (hx _ h).1 rfl, hk _ fun h => (hx _ h).2.1 rfl, fun i k h => by rw [hρ]; exact h, fun _ i => hk _ fun h => (hx _ h).2.2.1 i rfl, fun _ i j => hk _ fun h => (hx _ h).2.2.2 i j rfl, fun _ => hρ, hos⟩

end Go.Sh
