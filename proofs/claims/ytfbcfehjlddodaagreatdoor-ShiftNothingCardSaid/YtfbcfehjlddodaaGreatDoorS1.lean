/- Contracts of functions over plain data. -/
import Derived.Lib.QuietBelow
import Derived.Laws.Sem
import Derived.Laws.StructEq
import Derived.Laws.Cells
import Derived.Laws.Slices
import Derived.Laws.Strings
import Derived.Laws.Build
import Derived.Laws.BytesArg
import Derived.Tactics
import Derived.StillTail
import Derived.Laws.AppendOwn
import Derived.KernelRfl
set_option linter.all false
set_option autoImplicit true
set_option relaxedAutoImplicit true
namespace Go.Sh
/-- Plain data, read out of memory to the bottom: a slice is the list of its elements (and how many cells one takes), a struct or array is the list of its cells. -/
inductive D where
  | bool (b : Bool)
  | int (k : IntKind) (n : Int)
  | str (l : List UInt8)
  | nilS
  | list (n : Nat) (xs : List D)
  | agg (cs : List D)
  | nilIface
  | iface (t : TypeId) (x : D)
  | fn (f : Fn) (first caps : List D)
  | nilFn
  | nilPtr
  | ptr (i off : Nat)
  | dptr (cs : List D)
  | nilMap
  | map (i : Nat)
  | raw (v : Value)
  deriving Inhabited
def D.cells : D → List D
  | .agg cs => cs
  | x => [x]
/-- A text as the model's bytes. -/
def mk (l : List UInt8) : ByteArray := ⟨⟨l⟩⟩
theorem mk_data (s : ByteArray) : mk s.data.toList = s := rfl
theorem mk_size (l : List UInt8) : (mk l).size = l.length := rfl
/-- Where an owned list stands. -/
inductive Loc where
  | slot (t : Nat)
  | comp (t j : Nat)
  | cell (t j : Nat)
  | hcell (i j : Nat)
  | els
  deriving DecidableEq
/-- Who may write a block: nobody (free), somebody outside this call (out), a box of a slot, an object of the shadow heap, an owned list. -/
inductive Own where
  | free
  | out
  | box (t : Nat)
  | obj (i : Nat)
  | lst (l : Loc)
  deriving DecidableEq
structure Gh where
  ow : Nat → Own
  ρ : List Nat
def Gh.upd (g : Gh) (k : Nat) (o : Own) : Gh := { g with ow := fun b => if b = k then o else g.ow b }
@[simp] theorem Gh.upd_same (g : Gh) (k : Nat) (o : Own) : (g.upd k o).ow k = o := by simp [Gh.upd]
theorem Gh.upd_other (g : Gh) (o : Own) (h : b ≠ k) : (g.upd k o).ow b = g.ow b := by simp [Gh.upd, h]
@[simp] theorem Gh.upd_rho (g : Gh) (k : Nat) (o : Own) : (g.upd k o).ρ = g.ρ := rfl
/-- A value reads as data that nobody will ever change: the lists and pointed-at cells lie in blocks that nobody owns. -/
inductive Rd (g : Gh) (w : World) : Value → D → Prop
  | bool {b} : Rd g w (.bool b) (.bool b)
  | int {k n} : Rd g w (.int k n) (.int k n)
  | str {l} : Rd g w (.string (mk l)) (.str l)
  | nilS {a} : Rd g w (.slice a 0 0) .nilS
  | list0 {a cap n} : Rd g w (.slice a 0 cap) (.list n [])
  | list {k off len cap n : Nat} {xs : List D} {c : Array Value} {T : TypeId} {fz : Nat × Nat} (us : Nat → Nat → Value) (hk : g.ow k = .free) (hb : w.heap[k]? = some (.cells c T fz)) (hl : xs.length = len) (hp : len ≤ cap)
      (hn : ∀ (i : Nat) (x : D), xs[i]? = some x → x.cells.length = n)
      (hc : ∀ (i : Nat) (x : D), xs[i]? = some x → ∀ (j : Nat) (y : D), x.cells[j]? = some y → c[off + i * n + j]? = some (us i j) ∧ (us i j).oneCell' = true)
      (hr : ∀ (i : Nat) (x : D), xs[i]? = some x → ∀ (j : Nat) (y : D), x.cells[j]? = some y → Rd g w (us i j) y) :
      Rd g w (.slice (some ⟨k, off, none⟩) len cap) (.list n xs)
  | agg {vs : Array Value} {cs : List D} (hl : vs.size = cs.length) (us : Nat → Value) (hc : ∀ (j : Nat) (y : D), cs[j]? = some y → vs[j]? = some (us j) ∧ (us j).oneCell' = true)
      (hr : ∀ (j : Nat) (y : D), cs[j]? = some y → Rd g w (us j) y) : Rd g w (.agg vs) (.agg cs)
  | nilIface : Rd g w .nilIface .nilIface
  | iface {t v x} (h : Rd g w v x) : Rd g w (.iface t v) (.iface t x)
  | fn {f} {first caps : Array Value} {fs cs : List D} (hl1 : first.size = fs.length) (hl2 : caps.size = cs.length) (us1 us2 : Nat → Value)
      (hc1 : ∀ (j : Nat) (y : D), fs[j]? = some y → first[j]? = some (us1 j)) (hr1 : ∀ (j : Nat) (y : D), fs[j]? = some y → Rd g w (us1 j) y)
      (hc2 : ∀ (j : Nat) (y : D), cs[j]? = some y → caps[j]? = some (us2 j)) (hr2 : ∀ (j : Nat) (y : D), cs[j]? = some y → Rd g w (us2 j) y) :
      Rd g w (.func f first caps) (.fn f fs cs)
  | nilFn : Rd g w .nilFunc .nilFn
  | nilPtr : Rd g w (.pointer none) .nilPtr
  | ptr {i off k} (h : g.ρ[i]? = some k) : Rd g w (.pointer (some ⟨k, off, none⟩)) (.ptr i off)
  | dptr {k off : Nat} {cs : List D} {c : Array Value} {T : TypeId} {fz : Nat × Nat} (us : Nat → Value) (hk : g.ow k = .free) (hb : w.heap[k]? = some (.cells c T fz))
      (hc : ∀ (j : Nat) (y : D), cs[j]? = some y → c[off + j]? = some (us j) ∧ (us j).oneCell' = true) (hr : ∀ (j : Nat) (y : D), cs[j]? = some y → Rd g w (us j) y) :
      Rd g w (.pointer (some ⟨k, off, none⟩)) (.dptr cs)
  | nilMap : Rd g w (.map none) .nilMap
  | map {i k} (h : g.ρ[i]? = some k) : Rd g w (.map (some k)) (.map i)
  | raw {v : Value} (h : v.oneCell' = true) : Rd g w v (.raw v)
theorem Rd.nilS_inv (h : Rd g w v .nilS) : ∃ a, v = .slice a 0 0 := by
  cases h; exact ⟨_, rfl⟩
/-- Blocks of this owner stay as they are, and his. -/
def Keep (tag : Own) (g : Gh) (w : World) (g' : Gh) (w' : World) : Prop :=
  ∀ (k : Nat) (o : Obj), g.ow k = tag → w.heap[k]? = some o → g'.ow k = tag ∧ w'.heap[k]? = some o
def KeepR (g g' : Gh) : Prop := ∀ (i k : Nat), g.ρ[i]? = some k → g'.ρ[i]? = some k
theorem Rd.keep (h : Keep .free g w g' w') (hρ : KeepR g g') (hr : Rd g w v x) : Rd g' w' v x := by
  induction hr with
  | bool => exact .bool
  | int => exact .int
  | str => exact .str
  | nilS => exact .nilS
  | list0 => exact .list0
  | list us hk hb hl hp hn hc _ ih => exact .list us (h _ _ hk hb).1 (h _ _ hk hb).2 hl hp hn hc ih
  | agg hl us hc _ ih => exact .agg hl us hc ih
  | nilIface => exact .nilIface
  | iface _ ih => exact .iface ih
  | fn hl1 hl2 us1 us2 hc1 _ hc2 _ ih1 ih2 => exact .fn hl1 hl2 us1 us2 hc1 ih1 hc2 ih2
  | nilFn => exact .nilFn
  | nilPtr => exact .nilPtr
  | ptr h => exact .ptr (hρ _ _ h)
  | dptr us hk hb hc _ ih => exact .dptr us (h _ _ hk hb).1 (h _ _ hk hb).2 hc ih
  | nilMap => exact .nilMap
  | map h => exact .map (hρ _ _ h)
  | raw h => exact .raw h
theorem Keep.refl (tag : Own) (g : Gh) (w : World) : Keep tag g w g w := fun _ _ h1 h2 => ⟨h1, h2⟩
theorem KeepR.refl (g : Gh) : KeepR g g := fun _ _ h => h
theorem Keep.trans (h : Keep tag g1 w1 g2 w2) (h' : Keep tag g2 w2 g3 w3) : Keep tag g1 w1 g3 w3 :=
  fun k o a b => let ⟨c, d⟩ := h k o a b; h' k o c d
/-- Whose memory may be read: nobody's, or this lender's. -/
def okL (l : Option Loc) : Own → Prop
  | .free => True
  | .lst l' => l = some l'
  | _ => False
/-- A slice whose elements lie in one block that 'l' lends (none: that nobody owns). -/
def RList (g : Gh) (w : World) (l : Option Loc) (v : Value) (n : Nat) (xs : List D) : Prop :=
  (xs = [] ∧ ∃ a cap, v = .slice a 0 cap) ∨
  ∃ (k off cap : Nat) (c : Array Value) (T : TypeId) (fz : Nat × Nat) (us : Nat → Nat → Value), v = .slice (some ⟨k, off, none⟩) xs.length cap ∧ okL l (g.ow k) ∧ w.heap[k]? = some (.cells c T fz) ∧ xs.length ≤ cap ∧
    (∀ (i : Nat) (x : D), xs[i]? = some x → x.cells.length = n) ∧
    (∀ (i : Nat) (x : D), xs[i]? = some x → ∀ (j : Nat) (y : D), x.cells[j]? = some y → c[off + i * n + j]? = some (us i j) ∧ (us i j).oneCell' = true) ∧
    (∀ (i : Nat) (x : D), xs[i]? = some x → ∀ (j : Nat) (y : D), x.cells[j]? = some y → Rd g w (us i j) y)
/-- A pointer to cells, likewise. -/
def RPtr (g : Gh) (w : World) (l : Option Loc) (v : Value) (cs : List D) : Prop :=
  ∃ (k off : Nat) (c : Array Value) (T : TypeId) (fz : Nat × Nat) (us : Nat → Value), v = .pointer (some ⟨k, off, none⟩) ∧ okL l (g.ow k) ∧ w.heap[k]? = some (.cells c T fz) ∧
    (∀ (j : Nat) (y : D), cs[j]? = some y → c[off + j]? = some (us j) ∧ (us j).oneCell' = true) ∧ (∀ (j : Nat) (y : D), cs[j]? = some y → Rd g w (us j) y)
theorem okL_free : okL none o ↔ o = .free := by cases o <;> simp [okL]
theorem okL_up (h : okL none o) : okL l o := by rw [okL_free.1 h]; trivial
theorem Rd.toList (h : Rd g w v (.list n xs)) : RList g w none v n xs := by
  cases h with
  | list0 => exact .inl ⟨rfl, _, _, rfl⟩
  | list us hk hb hl hp hn hc hr => subst hl; exact .inr ⟨_, _, _, _, _, _, us, rfl, okL_free.2 hk, hb, hp, hn, hc, hr⟩
theorem RList.toRd (h : RList g w none v n xs) : Rd g w v (.list n xs) := by
  rcases h with ⟨rfl, a, cap, rfl⟩ | ⟨k, off, cap, c, T, fz, us, rfl, hk, hb, hp, hn, hc, hr⟩
  · exact .list0
  · exact .list us (okL_free.1 hk) hb rfl hp hn hc hr
theorem Rd.toPtr (h : Rd g w v (.dptr cs)) : RPtr g w none v cs := by
  cases h with
  | dptr us hk hb hc hr => exact ⟨_, _, _, _, _, us, rfl, okL_free.2 hk, hb, hc, hr⟩
theorem RPtr.toRd (h : RPtr g w none v cs) : Rd g w v (.dptr cs) := by
  obtain ⟨k, off, c, T, fz, us, rfl, hk, hb, hc, hr⟩ := h
  exact .dptr us (okL_free.1 hk) hb hc hr
theorem RList.up (h : RList g w none v n xs) : RList g w l v n xs := by
  rcases h with h | ⟨k, off, cap, c, T, fz, us, hv, hk, h⟩
  · exact .inl h
  · exact .inr ⟨k, off, cap, c, T, fz, us, hv, okL_up hk, h⟩
theorem okL_keep (h : Keep .free g w g' w') (h' : ∀ l', l = some l' → Keep (.lst l') g w g' w')
    (hk : okL l (g.ow k)) (hb : w.heap[k]? = some o) : okL l (g'.ow k) ∧ w'.heap[k]? = some o := by
  cases ho : g.ow k <;> simp only [ho, okL] at hk
  · obtain ⟨a, b⟩ := h k o ho hb; exact ⟨by rw [a]; trivial, b⟩
  · obtain ⟨a, b⟩ := h' _ hk k o ho hb; exact ⟨by rw [a]; exact hk, b⟩
theorem RList.keep (h : Keep .free g w g' w') (h' : ∀ l', l = some l' → Keep (.lst l') g w g' w')
    (hρ : KeepR g g') (hr : RList g w l v n xs) : RList g' w' l v n xs := by
  rcases hr with hr | ⟨k, off, cap, c, T, fz, us, hv, hk, hb, hp, hn, hc, hr⟩
  · exact .inl hr
  · obtain ⟨a, b⟩ := okL_keep h h' hk hb
    exact .inr ⟨k, off, cap, c, T, fz, us, hv, a, b, hp, hn, hc, fun i x hx j y hy => (hr i x hx j y hy).keep h hρ⟩
theorem RPtr.keep (h : Keep .free g w g' w') (h' : ∀ l', l = some l' → Keep (.lst l') g w g' w')
    (hρ : KeepR g g') (hr : RPtr g w l v cs) : RPtr g' w' l v cs := by
  obtain ⟨k, off, c, T, fz, us, hv, hk, hb, hc, hr⟩ := hr
  obtain ⟨a, b⟩ := okL_keep h h' hk hb
  exact ⟨k, off, c, T, fz, us, hv, a, b, hc, fun j y hy => (hr j y hy).keep h hρ⟩
/-- What stands outside the memory is as it was. -/
def SameOs (w w' : World) : Prop := w'.os = w.os ∧ w'.output = w.output
theorem SameOs.refl (w : World) : SameOs w w := ⟨rfl, rfl⟩
theorem SameOs.trans (h : SameOs w1 w2) (h' : SameOs w2 w3) : SameOs w1 w3 := ⟨h'.1.trans h.1, h'.2.trans h.2⟩
/-- What a call, or a part of one, may not touch: what nobody owns, what others own; where it is pure ('pu'), the shadow heap too. -/
structure Fr (pu : Bool) (g : Gh) (w : World) (g' : Gh) (w' : World) : Prop where
  size : w.heap.size ≤ w'.heap.size
  free : Keep .free g w g' w'
  out : Keep .out g w g' w'
  rho : KeepR g g'
  obj : pu = true → ∀ i, Keep (.obj i) g w g' w'
  hcell : pu = true → ∀ i j, Keep (.lst (.hcell i j)) g w g' w'
  len : pu = true → g'.ρ = g.ρ
  os : SameOs w w' := by exact ⟨rfl, rfl⟩
theorem Fr.refl (pu : Bool) (g : Gh) (w : World) : Fr pu g w g w := ⟨Nat.le_refl _, Keep.refl _ _ _, Keep.refl _ _ _, KeepR.refl _, fun _ _ => Keep.refl _ _ _, fun _ _ _ => Keep.refl _ _ _, fun _ => rfl, SameOs.refl _⟩
theorem Fr.trans (h : Fr pu g1 w1 g2 w2) (h' : Fr pu g2 w2 g3 w3) : Fr pu g1 w1 g3 w3 :=
  ⟨Nat.le_trans h.size h'.size, h.free.trans h'.free, h.out.trans h'.out, fun i k a => h'.rho i k (h.rho i k a), fun p i => (h.obj p i).trans (h'.obj p i), fun p i j => (h.hcell p i j).trans (h'.hcell p i j),
    fun p => (h'.len p).trans (h.len p), h.os.trans h'.os⟩
/-- All owners' blocks kept but for some owners that are ours alone. -/
theorem Fr.of (X : Own → Prop) (hx : ∀ o, X o → o ≠ .free ∧ o ≠ .out ∧ (∀ i, o ≠ .obj i) ∧ ∀ i j, o ≠ .lst (.hcell i j)) (hs : w.heap.size ≤ w'.heap.size)
    (hk : ∀ o, ¬ X o → Keep o g w g' w') (hρ : g'.ρ = g.ρ) (hos : SameOs w w' := by exact ⟨rfl, rfl⟩) : Fr pu g w g' w' :=
  ⟨hs, hk _ fun h => (hx _ h).1 rfl, hk _ fun h => (hx _ h).2.1 rfl, fun i k h => by rw [hρ]; exact h, fun _ i => hk _ fun h => (hx _ h).2.2.1 i rfl, fun _ i j => hk _ fun h => (hx _ h).2.2.2 i j rfl, fun _ => hρ, hos⟩
end Go.Sh
namespace Go.Sh
/-- Data; a list that this call owns (it may grow); a list or cells lent by its owner; a local box and a pointer into it; the results of a call; nothing of use. -/
inductive SV where
  | d (x : D)
  | own (n : Nat) (xs : List D)
  | lent (l : Loc) (n : Nat) (xs : List D)
  | lptr (l : Loc) (cs : List D)
  | box (cs : List SV)
  | loc (s off : Nat)
  | tup (vs : List SV)
  | undef
  | als (s : Nat)
  | ep (s n j : Nat)
  | pin (v : Value) (n : Nat) (xs : List D)
  deriving Inhabited
/-- An object of the shadow heap: a variable, or a map. -/
inductive SObj where
  | cells (cs : List SV)
  | map (es : List (D × D))
  | hole
  | iter (kb clock : Nat)
  | mapX (kb clock : Nat) (ms : Array MapEntry) (es : List (D × D))
  | bld (T e : TypeId) (bs : List UInt8)
  deriving Inhabited
structure St where
  tmps : List SV
  H : List SObj
/-- A slice that is nil or empty for good, or that starts in a block of this owner's, which holds its elements and room behind them. -/
def ROwn (g : Gh) (w : World) (o : Loc) (v : Value) (n : Nat) (xs : List D) : Prop :=
  (xs = [] ∧ ∃ a, v = .slice a 0 0) ∨
  ∃ (k off cap : Nat) (c : Array Value) (T : TypeId) (us : Nat → Nat → Value), v = .slice (some ⟨k, off, none⟩) xs.length cap ∧ g.ow k = .lst o ∧
    w.heap[k]? = some (.cells c T (0, 0)) ∧ xs.length ≤ cap ∧ off + cap * n ≤ c.size ∧
    (∀ (i : Nat) (x : D), xs[i]? = some x → x.cells.length = n) ∧
    (∀ (i : Nat) (x : D), xs[i]? = some x → ∀ (j : Nat) (y : D), x.cells[j]? = some y → c[off + i * n + j]? = some (us i j) ∧ (us i j).oneCell' = true) ∧
    (∀ (i : Nat) (x : D), xs[i]? = some x → ∀ (j : Nat) (y : D), x.cells[j]? = some y → Rd g w (us i j) y)
/-- What one cell (an argument, a result) holds. -/
def RC (g : Gh) (w : World) (o : Loc) (v : Value) : SV → Prop
  | .d x => Rd g w v x
  | .own n xs => ROwn g w o v n xs
  | .undef => True
  | .pin v0 n xs => match o with
    | .hcell _ _ => v = v0 ∧ ROwn g w o v n xs
    | _ => False
  | _ => False
/-- What others may lean on: a box, a list of one's own. -/
def bigK : SV → Nat
  | .box _ => 1
  | .own _ _ => 2
  | .pin _ _ _ => 2
  | _ => 0
/-- The slot on which what a slot holds leans. -/
def dep : SV → Option Nat
  | .loc s _ => some s
  | .als s => some s
  | .ep s _ _ => some s
  | _ => none
def RS (g : Gh) (w : World) (tm : List SV) (val : Nat → Value) (t : Nat) (v : Value) : SV → Prop
  | .d x => Rd g w v x
  | .own n xs => ROwn g w (.slot t) v n xs
  | .lent l n xs => RList g w (some l) v n xs
  | .lptr l cs => RPtr g w (some l) v cs
  | .box cs => ∃ (k : Nat) (c : Array Value) (T : TypeId), v = .pointer (some ⟨k, 0, none⟩) ∧ g.ow k = .box t ∧ w.heap[k]? = some (.cells c T (0, 0)) ∧ c.size = cs.length ∧
      ∀ (j : Nat) (s : SV), cs[j]? = some s → ∃ u, c[j]? = some u ∧ RC g w (.cell t j) u s ∧ u.oneCell' = true
  | .loc s off => (∃ cs, tm[s]? = some (.box cs)) ∧ ∃ k, val s = .pointer (some ⟨k, 0, none⟩) ∧ v = .pointer (some ⟨k, off, none⟩)
  | .tup vs => ∃ us : Array Value, v = .tuple us ∧ us.size = vs.length ∧ ∀ (j : Nat) (s : SV), vs[j]? = some s → ∃ u, us[j]? = some u ∧ RC g w (.comp t j) u s
  | .undef => True
  | .als s => (∃ x, tm[s]? = some x ∧ bigK x = 2) ∧ v = val s
  | .ep s n j => (∃ x, tm[s]? = some x ∧ bigK x = 2) ∧ ∃ k off len cap, val s = .slice (some ⟨k, off, none⟩) len cap ∧ v = .pointer (some ⟨k, off + j * n, none⟩)
  | .pin v0 n xs => v = v0 ∧ ROwn g w (.slot t) v n xs
/-- A map's entries: each has a stamp of its own, older than the clock. -/
def bornOk (ms : Array MapEntry) (clock : Nat) : Prop := (∀ m, m ∈ ms.toList → m.born < clock) ∧ (ms.toList.map (·.born)).Nodup
/-- A strings.Builder: whether it was written yet, and its row. -/
def RBld (g : Gh) (w : World) (i k : Nat) (T e : TypeId) (bs : List UInt8) (p v : Value) : Prop :=
  w.heap[k]? = some (.cells #[p, v] T (0, 0)) ∧ (p = .pointer none ∨ p = .pointer (some ⟨k, 0, none⟩)) ∧
  ((v = .slice none 0 0 ∧ bs = []) ∨ ∃ (r cap : Nat) (cur : Array Value) (fz : Nat × Nat), v = .slice (some ⟨r, 0, none⟩) bs.length cap ∧ bs ≠ [] ∧ g.ow r = .lst (.hcell i 1) ∧ w.heap[r]? = some (.cells cur e fz) ∧
    fz.2 ≤ bs.length ∧ bs.length ≤ cap ∧ cap ≤ maxLen ∧ cur.size = cap ∧ cur.toList.take bs.length = bs.map (fun x => Value.int .u8 x.toNat))
def RO (g : Gh) (w : World) (i : Nat) : SObj → Prop
  | .cells cs => ∃ (k : Nat) (c : Array Value) (T : TypeId), g.ρ[i]? = some k ∧ g.ow k = .obj i ∧ w.heap[k]? = some (.cells c T (0, 0)) ∧ c.size = cs.length ∧
      ∀ (j : Nat) (s : SV), cs[j]? = some s → ∃ u, c[j]? = some u ∧ RC g w (.hcell i j) u s ∧ u.oneCell' = true
  | .map es => ∃ (k : Nat) (ms : Array MapEntry) (clock : Nat), g.ρ[i]? = some k ∧ g.ow k = .obj i ∧ w.heap[k]? = some (.map ms clock) ∧ ms.size = es.length ∧ bornOk ms clock ∧
      ∀ (j : Nat) (p : D × D), es[j]? = some p → ∃ m, ms[j]? = some m ∧ Rd g w m.key p.1 ∧ Rd g w m.val p.2
  | .hole => True
  | .iter kb clock => ∃ k : Nat, g.ρ[i]? = some k ∧ g.ow k = .obj i ∧ w.heap[k]? = some (.mapIter (some kb) clock #[] clock)
  | .mapX kb clock ms es => g.ρ[i]? = some kb ∧ g.ow kb = .obj i ∧ w.heap[kb]? = some (.map ms clock) ∧ ms.size = es.length ∧ bornOk ms clock ∧
      ∀ (j : Nat) (p : D × D), es[j]? = some p → ∃ m, ms[j]? = some m ∧ Rd g w m.key p.1 ∧ Rd g w m.val p.2
  | .bld T e bs => ∃ (k : Nat) (p v : Value), g.ρ[i]? = some k ∧ g.ow k = .obj i ∧ RBld g w i k T e bs p v
def RH (g : Gh) (w : World) (H : List SObj) : Prop := g.ρ.length = H.length ∧ ∀ (i : Nat) (o : SObj), H[i]? = some o → RO g w i o
def valOf (a : Act) (t : Nat) : Value := a.tmps.getD t undef
structure Rel (st : St) (a : Act) (w : World) (g : Gh) : Prop where
  len : a.tmps.size = st.tmps.length
  def0 : a.defers = []
  tmp : ∀ (t : Nat) (s : SV), st.tmps[t]? = some s → RS g w st.tmps (valOf a) t (valOf a t) s
  hp : RH g w st.H
/-- The owners on which what a slot holds depends. -/
def uses (t : Nat) : SV → Own → Prop
  | .d _, o => o = .free
  | .own _ _, o => o = .free ∨ o = .lst (.slot t)
  | .lent l _ _, o => o = .free ∨ o = .lst l
  | .lptr l _, o => o = .free ∨ o = .lst l
  | .box _, o => o = .free ∨ o = .box t ∨ ∃ j, o = .lst (.cell t j)
  | .loc _ _, _ => False
  | .tup _, o => o = .free ∨ ∃ j, o = .lst (.comp t j)
  | .undef, _ => False
  | .als _, _ => False
  | .ep _ _ _, _ => False
  | .pin _ _ _, o => o = .free ∨ o = .lst (.slot t)
theorem ROwn.keep (h0 : Keep .free g w g' w') (h1 : Keep (.lst o) g w g' w') (hρ : KeepR g g')
    (h : ROwn g w o v n xs) : ROwn g' w' o v n xs := by
  rcases h with h | ⟨k, off, cap, c, T, us, hv, hk, hb, hl, hz, hn, hc, hr⟩
  · exact .inl h
  · obtain ⟨hk', hb'⟩ := h1 k _ hk hb
    exact .inr ⟨k, off, cap, c, T, us, hv, hk', hb', hl, hz, hn, hc, fun i x hx j y hy => (hr i x hx j y hy).keep h0 hρ⟩
theorem RC.keep (h0 : Keep .free g w g' w') (h1 : Keep (.lst o) g w g' w') (hρ : KeepR g g')
    (h : RC g w o v s) : RC g' w' o v s := by
  cases s <;> simp only [RC] at h ⊢
  · exact h.keep h0 hρ
  · exact h.keep h0 h1 hρ
  · cases o <;> simp only at h ⊢
    exact ⟨h.1, h.2.keep h0 h1 hρ⟩
theorem bigK_box {tm : List SV} {s : Nat} {x : SV} {cs : List SV} (h : tm[s]? = some x) (hk : bigK x = bigK (.box cs)) : ∃ cs', tm[s]? = some (.box cs') := by
  cases x <;> simp [bigK] at hk
  exact ⟨_, h⟩
theorem RS.keep {g g' : Gh} {w w' : World} {tm tm' : List SV} {val val' : Nat → Value} {t : Nat} {v : Value} {s : SV} (hk : ∀ o, uses t s o → Keep o g w g' w') (hρ : KeepR g g')
    (hl : ∀ s', dep s = some s' → val' s' = val s' ∧ ∀ x, tm[s']? = some x → bigK x ≠ 0 → ∃ x', tm'[s']? = some x' ∧ bigK x' = bigK x)
    (h : RS g w tm val t v s) : RS g' w' tm' val' t v s := by
  cases s with
  | d x => exact Rd.keep (hk _ rfl) hρ h
  | own n xs => exact ROwn.keep (hk _ (.inl rfl)) (hk _ (.inr rfl)) hρ h
  | lent l n xs => exact RList.keep (hk _ (.inl rfl)) (fun l' e => by cases e; exact hk _ (.inr rfl)) hρ h
  | lptr l cs => exact RPtr.keep (hk _ (.inl rfl)) (fun l' e => by cases e; exact hk _ (.inr rfl)) hρ h
  | box cs =>
    obtain ⟨k, c, T, hv, ho, hb, hs, hc⟩ := h
    obtain ⟨ho', hb'⟩ := hk (.box t) (.inr (.inl rfl)) k _ ho hb
    exact ⟨k, c, T, hv, ho', hb', hs, fun j s hj => let ⟨u, h1, h2, h3⟩ := hc j s hj; ⟨u, h1, h2.keep (hk _ (.inl rfl)) (hk _ (.inr (.inr ⟨j, rfl⟩))) hρ, h3⟩⟩
  | loc s' off =>
    obtain ⟨⟨cs, hcs⟩, k, h1, h2⟩ := h
    obtain ⟨hv, hb⟩ := hl s' rfl
    obtain ⟨x', e1, e2⟩ := hb _ hcs (by simp [bigK])
    exact ⟨bigK_box e1 e2, k, by rw [hv]; exact h1, h2⟩
  | als s' =>
    obtain ⟨⟨x, h1, h2⟩, h3⟩ := h
    obtain ⟨hv, hb⟩ := hl s' rfl
    obtain ⟨x', e1, e2⟩ := hb x h1 (by omega)
    exact ⟨⟨x', e1, by omega⟩, by rw [hv]; exact h3⟩
  | ep s' n j =>
    obtain ⟨⟨x, h1, h2⟩, h3⟩ := h
    obtain ⟨hv, hb⟩ := hl s' rfl
    obtain ⟨x', e1, e2⟩ := hb x h1 (by omega)
    exact ⟨⟨x', e1, by omega⟩, by rw [hv]; exact h3⟩
  | tup vs =>
    obtain ⟨us, hv, hs, hc⟩ := h
    exact ⟨us, hv, hs, fun j s hj => let ⟨u, h1, h2⟩ := hc j s hj; ⟨u, h1, h2.keep (hk _ (.inl rfl)) (hk _ (.inr ⟨j, rfl⟩)) hρ⟩⟩
  | undef => trivial
  | pin v0 n xs => exact ⟨h.1, ROwn.keep (hk _ (.inl rfl)) (hk _ (.inr rfl)) hρ h.2⟩
/-- The owners on which the shadow heap depends. -/
def usesH : Own → Prop
  | .free | .obj _ | .lst (.hcell _ _) => True
  | _ => False
theorem RBld.keep (h2 : Keep (.lst (.hcell i 1)) g w g' w') (hk : w'.heap[k]? = w.heap[k]?) (h : RBld g w i k T e bs p v) : RBld g' w' i k T e bs p v := by
  obtain ⟨b1, b2, b3⟩ := h
  refine ⟨hk.trans b1, b2, ?_⟩
  rcases b3 with b3 | ⟨r, cap, cur, fz, c1, c2, c3, c4, c5, c6, c7, c8, c9⟩
  · exact .inl b3
  · obtain ⟨d1, d2⟩ := h2 r _ c3 c4
    exact .inr ⟨r, cap, cur, fz, c1, c2, d1, d2, c5, c6, c7, c8, c9⟩
theorem RO.keep (hk : ∀ o, usesH o → Keep o g w g' w') (hρ : KeepR g g') (h : RO g w i o) : RO g' w' i o := by
  cases o with
  | cells cs =>
    obtain ⟨k, c, T, hr, ho, hb, hs, hc⟩ := h
    obtain ⟨ho', hb'⟩ := hk (.obj i) trivial k _ ho hb
    exact ⟨k, c, T, hρ _ _ hr, ho', hb', hs, fun j s hj => let ⟨u, h1, h2, h3⟩ := hc j s hj; ⟨u, h1, h2.keep (hk _ trivial) (hk _ trivial) hρ, h3⟩⟩
  | map es =>
    obtain ⟨k, ms, clock, hr, ho, hb, hs, hbo, hc⟩ := h
    obtain ⟨ho', hb'⟩ := hk (.obj i) trivial k _ ho hb
    exact ⟨k, ms, clock, hρ _ _ hr, ho', hb', hs, hbo, fun j p hj => let ⟨m, h1, h2, h3⟩ := hc j p hj; ⟨m, h1, h2.keep (hk _ trivial) hρ, h3.keep (hk _ trivial) hρ⟩⟩
  | hole => trivial
  | iter kb clock =>
    obtain ⟨k, hr, ho, hb⟩ := h
    obtain ⟨ho', hb'⟩ := hk (.obj i) trivial k _ ho hb
    exact ⟨k, hρ _ _ hr, ho', hb'⟩
  | mapX kb clock ms es =>
    obtain ⟨hr, ho, hb, hs, hbo, hc⟩ := h
    obtain ⟨ho', hb'⟩ := hk (.obj i) trivial kb _ ho hb
    exact ⟨hρ _ _ hr, ho', hb', hs, hbo, fun j p hj => let ⟨m, h1, h2, h3⟩ := hc j p hj; ⟨m, h1, h2.keep (hk _ trivial) hρ, h3.keep (hk _ trivial) hρ⟩⟩
  | bld T e bs =>
    obtain ⟨k, p, v, hr, ho, hb⟩ := h
    obtain ⟨ho', hb'⟩ := hk (.obj i) trivial k _ ho hb.1
    exact ⟨k, p, v, hρ _ _ hr, ho', hb.keep (hk _ trivial) (hb'.trans hb.1.symm)⟩
/-- What stands or falls with the slot t0: pointers into its box, what it has lent. -/
def mention (t0 : Nat) : SV → Bool
  | .loc s _ => s == t0
  | .als s => s == t0
  | .ep s _ _ => s == t0
  | .lent (.slot s) _ _ | .lptr (.slot s) _ | .lent (.cell s _) _ _ | .lptr (.cell s _) _ | .lent (.comp s _) _ _ | .lptr (.comp s _) _ => s == t0
  | _ => false
def heavy : SV → Bool
  | .own _ _ | .box _ | .tup (_ :: _) | .pin _ _ _ => true
  | _ => false
theorem dep_big {val : Nat → Value} (h : RS g w tm val t v s) (hd : dep s = some s') : ∃ x, tm[s']? = some x ∧ bigK x ≠ 0 := by
  cases s <;> simp [dep] at hd
  · obtain ⟨⟨cs, hcs⟩, -⟩ := h; subst hd; exact ⟨_, hcs, by simp [bigK]⟩
  · obtain ⟨⟨x, h1, h2⟩, -⟩ := h; grind
  · obtain ⟨⟨x, h1, h2⟩, -⟩ := h; grind
theorem dep_mention (hd : dep s = some s') : mention s' s = true := by cases s <;> simp [dep] at hd <;> simp [mention, hd]
theorem bigK_heavy (h : bigK x ≠ 0) : heavy x = true := by cases x <;> simp [bigK] at h <;> rfl
theorem bigK_mention (h : bigK x ≠ 0) (t : Nat) : mention t x = false := by cases x <;> simp [bigK] at h <;> rfl
def St.kill (st : St) (t0 : Nat) : St := { st with tmps := st.tmps.map fun s => if mention t0 s then .undef else s }
def St.set (st : St) (t : Nat) (s : SV) : St := { st with tmps := st.tmps.set t s }
/-- A slot is written. -/
def St.put (st : St) (dst : Option Tmp) (s : SV) : St :=
  match dst with
  | none => st
  | some t => match st.tmps[t]? with
    | some old => if heavy old then (st.kill t).set t s else st.set t s
    | none => st
end Go.Sh
namespace Go.Sh
theorem valOf_put (h : d ≠ some t) : valOf (a.put d v) t = valOf a t := by
  cases d with
  | none => rfl
  | some e =>
    have : e ≠ t := fun h' => h (by rw [h'])
    simp [valOf, Act.put, Array.getD_eq_getD_getElem?, Array.getElem?_setIfInBounds_ne this]
theorem valOf_put_same {a : Act} {v : Value} {t : Nat} (h : t < a.tmps.size) : valOf (a.put (some t) v) t = v := by
  simp [valOf, Act.put, Array.getD_eq_getD_getElem?, h]
theorem put_size {a : Act} {d : Option Tmp} {v : Value} : (a.put d v).tmps.size = a.tmps.size := by
  cases d <;> simp [Act.put]
theorem put_defers {a : Act} {d : Option Tmp} {v : Value} : (a.put d v).defers = a.defers := by
  cases d <;> rfl
@[simp] theorem St.kill_len (st : St) (t : Nat) : (st.kill t).tmps.length = st.tmps.length := by simp [St.kill]
@[simp] theorem St.set_len (st : St) (t : Nat) (s : SV) : (st.set t s).tmps.length = st.tmps.length := by simp [St.set]
@[simp] theorem St.put_len (st : St) (d : Option Tmp) (s : SV) : (st.put d s).tmps.length = st.tmps.length := by
  cases d with
  | none => rfl
  | some t => simp only [St.put]; split <;> (try split) <;> simp
@[simp] theorem St.kill_H (st : St) (t : Nat) : (st.kill t).H = st.H := rfl
@[simp] theorem St.set_H (st : St) (t : Nat) (s : SV) : (st.set t s).H = st.H := rfl
@[simp] theorem St.put_H (st : St) (d : Option Tmp) (s : SV) : (st.put d s).H = st.H := by
  cases d with
  | none => rfl
  | some t => simp only [St.put]; split <;> (try split) <;> rfl
theorem St.kill_get {st : St} {t0 t : Nat} {s : SV} (h : (st.kill t0).tmps[t]? = some s) : s = .undef ∨ (st.tmps[t]? = some s ∧ mention t0 s = false) := by
  simp only [St.kill, List.getElem?_map, Option.map_eq_some_iff] at h
  grind
/-- A slot other than the one that is written: emptied, or as it was and (if the one that is written held something heavy) without a mention of it. -/
theorem St.put_get {st : St} {t0 t : Nat} {s s' : SV} (hne : t ≠ t0) (h : (st.put (some t0) s).tmps[t]? = some s') :
    s' = .undef ∨ (st.tmps[t]? = some s' ∧ ∀ old, st.tmps[t0]? = some old → heavy old = true → mention t0 s' = false) := by
  simp only [St.put] at h
  split at h
  · rename_i old ho
    split at h
    · simp only [St.set, List.getElem?_set_ne (Ne.symm hne)] at h
      rcases St.kill_get h with h | ⟨h1, h2⟩
      · exact .inl h
      grind
    · rename_i hh
      simp only [St.set, List.getElem?_set_ne (Ne.symm hne)] at h
      grind
  grind
theorem St.put_get_same {st : St} {t : Nat} {s s' : SV} (h : (st.put (some t) s).tmps[t]? = some s') : s' = s ∧ t < st.tmps.length := by
  simp only [St.put] at h
  split at h
  · rename_i old ho
    have hlt : t < st.tmps.length := (List.getElem?_eq_some_iff.1 ho).1
    split at h
    · rw [St.set, List.getElem?_set_self (by simpa using hlt)] at h
      exact ⟨by cases h; rfl, hlt⟩
    · rw [St.set, List.getElem?_set_self hlt] at h
      exact ⟨by cases h; rfl, hlt⟩
  grind
/-- THE STATE IS KEPT: slot by slot either new, emptied, or as it was while nothing on which it depends has changed. -/
theorem Rel.step (h : Rel st a w g) (hlen : a'.tmps.size = st'.tmps.length) (hd : a'.defers = []) (hρ : KeepR g g')
    (ht : ∀ (t : Nat) (s : SV), st'.tmps[t]? = some s → s = .undef ∨ RS g' w' st'.tmps (valOf a') t (valOf a' t) s ∨
      (st.tmps[t]? = some s ∧ valOf a' t = valOf a t ∧ (∀ o, uses t s o → Keep o g w g' w') ∧
        ∀ s', dep s = some s' → valOf a' s' = valOf a s' ∧ ∀ x, st.tmps[s']? = some x → bigK x ≠ 0 → ∃ x', st'.tmps[s']? = some x' ∧ bigK x' = bigK x))
    (hH : RH g' w' st'.H) : Rel st' a' w' g' := by
  refine ⟨hlen, hd, fun t s hs => ?_, hH⟩
  rcases ht t s hs with rfl | hr | ⟨h1, h2, h3, h4⟩
  · trivial
  · exact hr
  · rw [h2]
    exact RS.keep h3 hρ h4 (h.tmp t s h1)
theorem RH.keep (hk : ∀ o, usesH o → Keep o g w g' w') (hρ : KeepR g g') (hl : g'.ρ.length = g.ρ.length) (h : RH g w H) : RH g' w' H :=
  ⟨hl.trans h.1, fun i o hi => (h.2 i o hi).keep hk hρ⟩
/-- The world goes on (new blocks, draws); nothing of ours has changed. -/
theorem Rel.world (h : Rel st a w g) (hk : ∀ o, Keep o g w g' w') (hρ : KeepR g g') (hl : g'.ρ.length = g.ρ.length) : Rel st a w' g' := by
  refine Rel.step h h.len h.def0 hρ (fun t s hs => .inr (.inr ⟨hs, rfl, fun o ho => hk o, fun s' _ => ⟨rfl, fun x hx _ => ⟨x, hx, rfl⟩⟩⟩)) (h.hp.keep (fun o ho => hk o) hρ hl)
/-- What a light value asks of the slot that takes it: nothing. -/
def Light (g : Gh) (w : World) (v : Value) : SV → Prop
  | .d x => Rd g w v x
  | .lent l n xs => RList g w (some l) v n xs
  | .lptr l cs => RPtr g w (some l) v cs
  | .own _ xs => xs = [] ∧ ∃ a, v = .slice a 0 0
  | .tup vs => ∃ us : Array Value, v = .tuple us ∧ us.size = vs.length ∧ ∀ (j : Nat) (s : SV), vs[j]? = some s → ∃ u x, us[j]? = some u ∧ s = .d x ∧ Rd g w u x
  | .undef => True
  | _ => False
theorem Light.rs (h : Light g w v s) (tm : List SV) (val : Nat → Value) (t : Nat) : RS g w tm val t v s := by
  cases s <;> simp only [Light] at h <;> try exact h
  · exact .inl h
  · obtain ⟨us, h1, h2, h3⟩ := h
    exact ⟨us, h1, h2, fun j s hj => let ⟨u, x, e1, e2, e3⟩ := h3 j s hj; ⟨u, e1, by subst e2; exact e3⟩⟩
theorem uses_mention (hne : t ≠ t0) (hm : mention t0 s = false) (ho : uses t s o) :
    o ≠ .box t0 ∧ o ≠ .lst (.slot t0) ∧ (∀ j, o ≠ .lst (.cell t0 j)) ∧ (∀ j, o ≠ .lst (.comp t0 j)) := by
  cases s <;> simp only [uses] at ho
  · subst ho; simp
  · grind
  · rename_i l _ _
    rcases ho with rfl | rfl
    · simp
    · cases l <;> simp [mention] at hm ⊢ <;> exact hm
  · rename_i l _
    rcases ho with rfl | rfl
    · simp
    · cases l <;> simp [mention] at hm ⊢ <;> exact hm
  · grind
  · grind
  grind
/-- A slot is written, the world stays. -/
theorem Rel.put {st : St} {a : Act} {w : World} {g : Gh} {s : SV} {v : Value} (h : Rel st a w g) (d : Option Tmp)
    (hs : ∀ t, d = some t → t < st.tmps.length → RS g w (st.put d s).tmps (valOf (a.put d v)) t v s) : Rel (st.put d s) (a.put d v) w g := by
  refine Rel.step h (by rw [put_size, St.put_len]; exact h.len) (by rw [put_defers]; exact h.def0) (KeepR.refl g) (fun t s' hs' => ?_) (by rw [St.put_H]; exact h.hp)
  cases d with
  | none => exact .inr (.inr ⟨hs', rfl, fun _ _ => Keep.refl _ _ _, fun s' _ => ⟨rfl, fun x hx _ => ⟨x, hx, rfl⟩⟩⟩)
  | some t0 =>
    by_cases hne : t = t0
    · subst hne
      obtain ⟨rfl, hlt⟩ := St.put_get_same hs'
      refine .inr (.inl ?_)
      rw [valOf_put_same (by rw [h.len]; exact hlt)]
      exact hs t rfl hlt
    · rcases St.put_get hne hs' with hu | ⟨h1, h2⟩
      · exact .inl hu
      · refine .inr (.inr ⟨h1, valOf_put (by simpa using Ne.symm hne), fun _ _ => Keep.refl _ _ _, fun s0 e => ?_⟩)
        obtain ⟨x0, hx0, hb0⟩ := dep_big (h.tmp t _ h1) e
        have hs0 : s0 ≠ t0 := by
          rintro rfl
          have := h2 _ hx0 (bigK_heavy hb0)
          rw [dep_mention e] at this
          cases this
        refine ⟨valOf_put (by simpa using Ne.symm hs0), fun x hx hb => ⟨x, ?_, rfl⟩⟩
        simp only [St.put]
        split
        · split
          · simp only [St.set, St.kill, List.getElem?_set_ne (Ne.symm hs0), List.getElem?_map, hx, Option.map_some, bigK_mention hb]
            simp
          · simp only [St.set, List.getElem?_set_ne (Ne.symm hs0), hx]
        · exact hx
theorem Rel.putLight (h : Rel st a w g) (d : Option Tmp) (hs : Light g w v s) : Rel (st.put d s) (a.put d v) w g :=
  h.put d fun _ _ _ => hs.rs _ _ _
end Go.Sh
namespace Go.Sh
/-- A value that is whole by itself. -/
def leafV : D → Option Value
  | .bool b => some (.bool b)
  | .int k n => some (.int k n)
  | .str l => some (.string (mk l))
  | .nilIface => some .nilIface
  | .nilFn => some .nilFunc
  | .nilPtr => some (.pointer none)
  | .nilMap => some (.map none)
  | .iface t x => (leafV x).map (.iface t)
  | _ => none
def leafD : Value → Option D
  | .bool b => some (.bool b)
  | .int k n => some (.int k n)
  | .string s => some (.str s.data.toList)
  | .nilIface => some .nilIface
  | .nilFunc => some .nilFn
  | .pointer none => some .nilPtr
  | .map none => some .nilMap
  | .slice none 0 0 => some .nilS
  | _ => none
def leafDs : List Value → Option (List D)
  | [] => some []
  | v :: vs => match leafD v, leafDs vs with
    | some x, some xs => some (x :: xs)
    | _, _ => none
def constD : Value → Option D
  | .agg cs => (leafDs cs.toList).map .agg
  | v => leafD v
theorem leafV_rd : ∀ {u v : Value}, leafV d = some u → Rd g w v d → v = u := by
  induction d using D.rec (motive_2 := fun _ => True) with
  | iface t x ih =>
    intro u v h hr
    simp only [leafV, Option.map_eq_some_iff] at h
    obtain ⟨u', h1, rfl⟩ := h
    cases hr with
    | iface hr => rw [ih h1 hr]
  | _ => first | trivial | (intro u v h hr; cases hr <;> simp_all [leafV])
theorem rd_leafV : ∀ {u : Value}, leafV d = some u → Rd g w u d := by
  induction d using D.rec (motive_2 := fun _ => True) with
  | iface t x ih =>
    intro u h
    simp only [leafV, Option.map_eq_some_iff] at h
    obtain ⟨u', h1, rfl⟩ := h
    exact .iface (ih h1)
  | _ => first | trivial | (intro u h; simp only [leafV, Option.some.injEq, reduceCtorEq] at h; try (subst h; constructor))
theorem leafD_rd (h : leafD v = some x) : Rd g w v x := by
  unfold leafD at h
  split at h <;> simp at h <;> subst h <;> try constructor
theorem leafD_one (h : leafD v = some x) : v.oneCell' = true := by
  unfold leafD at h
  split at h <;> simp at h <;> rfl
theorem leafDs_rd : ∀ {vs : List Value} {xs : List D}, leafDs vs = some xs → vs.length = xs.length ∧ ∀ (j : Nat) (y : D), xs[j]? = some y → ∃ u, vs[j]? = some u ∧ Rd g w u y ∧ u.oneCell' = true
  | [], xs, h => by simp [leafDs] at h; subst h; simp
  | v :: vs, xs, h => by
    simp only [leafDs] at h
    split at h
    · rename_i x xs' h1 h2
      simp at h; subst h
      obtain ⟨hl, hr⟩ := leafDs_rd (g := g) (w := w) h2
      refine ⟨by simp [hl], fun j y hj => ?_⟩
      cases j with
      | zero => simp at hj; subst hj; exact ⟨v, by simp, leafD_rd h1, leafD_one h1⟩
      | succ j => simp at hj; simpa using hr j y hj
    · simp at h
/-- Cells that read, named by their places. -/
theorem Rd.agg' (hl : vs.size = cs.length) (h : ∀ (j : Nat) (y : D), cs[j]? = some y → ∃ u, vs[j]? = some u ∧ Rd g w u y ∧ u.oneCell' = true) : Rd g w (.agg vs) (.agg cs) := by
  refine .agg hl (fun j => vs.getD j undef) (fun j y hy => ?_) (fun j y hy => ?_)
  · obtain ⟨u, h1, h2, h3⟩ := h j y hy
    simp_all
  · obtain ⟨u, h1, h2, h3⟩ := h j y hy
    simp_all
theorem constD_rd (h : constD v = some x) : Rd g w v x := by
  unfold constD at h
  split at h
  · rename_i cs
    simp only [Option.map_eq_some_iff] at h
    obtain ⟨xs, h1, rfl⟩ := h
    obtain ⟨hl, hr⟩ := leafDs_rd (g := g) (w := w) h1
    exact Rd.agg' (by simpa using hl) (fun j y hj => by simpa using hr j y hj)
  · exact leafD_rd h
/-- A piece of the model that asks no more than the program. -/
def leafRun (P : Program) {α : Type} : Sem α → Option α
  | .pure a => some a
  | .program k => leafRun P (k P)
  | _ => none
theorem leafRun_run {P : Program} {α : Type} : ∀ {s : Sem α} {a : α}, leafRun P s = some a → ∀ w, s.run P w = .ok a w := by
  intro s
  induction s with
  | pure a => intro b h w; simp [leafRun] at h; subst h; rfl
  | program k ih => intro b h w; simp only [leafRun] at h; simp only [Sem.run]; exact ih _ h w
  | _ => intro b h; simp [leafRun] at h
/-- A leaf's value back. -/
def backD (v : Option Value) : Option D := v.bind leafD
section
variable (P : Program)
def elemW (T : TypeId) : Nat := match P.underlying T with | some (.slice e) => P.cellsOf e | _ => 0
def isAggT (T : TypeId) : Bool := match P.underlying T with | some (.struct _) | some (.array _ _) => true | _ => false
def val (st : St) : Operand → Option SV
  | .tmp t => st.tmps[t]?
  | .const v => (constD v).map .d
  | .func f => some (.d (.fn (.func f) [] []))
  | .global _ => none
def valD (st : St) (x : Operand) : Option D := match val st x with | some (.d d) => some d | _ => none
/-- What is handed on when a variable is only read. -/
def readSV (s : Nat) : SV → Option SV
  | .d x => some (.d x)
  | .lent l n xs => some (.lent l n xs)
  | .lptr l cs => some (.lptr l cs)
  | .loc t off => some (.loc t off)
  | .own n xs => some (.lent (.slot s) n xs)
  | .pin _ n xs => some (.lent (.slot s) n xs)
  | .box _ => some (.loc s 0)
  | .undef => some .undef
  | _ => none
def readOp (st : St) (T : TypeId) : Operand → Option SV
  | .tmp s => (st.tmps[s]?).bind (readSV s)
  | .const (.slice none 0 0) => some (.own (elemW P T) [])
  | x => val st x
/-- A pointer as the slot of a box and the cell in it. -/
def asLoc (st : St) : Operand → Option (Nat × Nat)
  | .tmp s => match st.tmps[s]? with
    | some (.box _) => some (s, 0)
    | some (.loc t off) => some (t, off)
    | _ => none
  | _ => none
def boxAt (st : St) (s : Nat) : Option (List SV) := match st.tmps[s]? with | some (.box cs) => some cs | _ => none
def allD : List SV → Option (List D)
  | [] => some []
  | .d x :: r => (allD r).map (x :: ·)
  | _ :: _ => none
/-- A variable of type T read out of cells of data. -/
def loadD (T : TypeId) (cs : List D) : Option D :=
  if (P.underlying T).isNone then none
  else if isAggT P T then (if 0 < P.cellsOf T ∧ P.cellsOf T ≤ cs.length then some (.agg (cs.take (P.cellsOf T))) else none)
  else cs.head?
/-- The same out of the cells of a box or an object; 'l': who lends a list that stands there. -/
def loadS (T : TypeId) (l : Loc) (cs : List SV) : Option SV :=
  if (P.underlying T).isNone then none
  else if isAggT P T then (if 0 < P.cellsOf T ∧ P.cellsOf T ≤ cs.length then (allD (cs.take (P.cellsOf T))).map fun ys => .d (.agg ys) else none)
  else match cs with
    | .d x :: _ => some (.d x)
    | .own n xs :: _ => some (.lent l n xs)
    | _ => none
end
theorem cell_blk {w : World} {k : Nat} {c : Array Value} {T : TypeId} {fz : Nat × Nat} (h : w.heap[k]? = some (.cells c T fz)) (j : Nat) : w.cell? ⟨k, j, none⟩ = c[j]? := by
  simp [World.cell?, h]
section
variable {P : Program}
theorem info_of_underlying (h : (P.underlying T).isNone = false) : ∃ i, P.info? T = some i := by
  unfold Program.underlying at h
  grind
theorem run_sizeOf' (h : (P.underlying T).isNone = false) (w : World) : (sizeOf T).run P w = .ok (P.cellsOf T) w := by
  obtain ⟨i, hi⟩ := info_of_underlying h
  simp [sizeOf, typeInfo, hi, Program.cellsOf]
theorem run_isAgg' (h : (P.underlying T).isNone = false) (w : World) : (isAgg T).run P w = .ok (isAggT P T) w := by
  cases hu : P.underlying T with
  | none => rw [hu] at h; simp at h
  | some d =>
    simp only [isAgg, Sem.run_bind, run_underlying hu, Result.andThen_ok, isAggT, hu]
    cases d <;> rfl
/-- Cells in a row: as an array's part. -/
theorem run_cells {w : World} {k off n : Nat} {c : Array Value} {T0 : TypeId} {fz : Nat × Nat} (hb : w.heap[k]? = some (.cells c T0 fz)) (hs : off + n ≤ c.size) :
    (loadCells ⟨k, off, none⟩ n).run P w = .ok (c.extract off (off + n)) w := by
  have := run_loadCells_list (P := P) w ⟨k, off, none⟩ (c.extract off (off + n)).toList (fun j v hj => by
    rw [Addr.add_lit, cell_blk hb]
    grind)
  have hl : (c.extract off (off + n)).toList.length = n := by simp; omega
  rw [hl, Array.toArray_toList] at this
  exact this
theorem run_loadVar_agg (hu : (P.underlying T).isNone = false) (ha : isAggT P T = true) 
    (hb : w.heap[k]? = some (.cells c T0 fz)) (hs : off + P.cellsOf T ≤ c.size) : (loadVar T ⟨k, off, none⟩).run P w = .ok (.agg (c.extract off (off + P.cellsOf T))) w := by
  simp only [loadVar, Sem.run_bind, run_isAgg' hu, Result.andThen_ok, ha, if_true, run_sizeOf' hu, run_cells hb hs, Sem.run_pure]
theorem run_loadVar_one {T : TypeId} (hu : (P.underlying T).isNone = false) (ha : isAggT P T = false) {w : World} {k off : Nat} {c : Array Value} {T0 : TypeId} {fz : Nat × Nat} {v : Value}
    (hb : w.heap[k]? = some (.cells c T0 fz)) (hv : c[off]? = some v) : (loadVar T ⟨k, off, none⟩).run P w = .ok v w := by
  simp only [loadVar, Sem.run_bind, run_isAgg' hu, Result.andThen_ok, ha, Bool.false_eq_true, if_false, run_load, cell_blk hb, hv]
theorem get_lt {α : Type} {l : List α} {x : α} (h : l[j]? = some x) : j < l.length := (List.getElem?_eq_some_iff.1 h).1
theorem arr_lt {α : Type} {l : Array α} {x : α} (h : l[j]? = some x) : j < l.size := (Array.getElem?_eq_some_iff.1 h).1
/-- A variable out of cells that read. -/
theorem load_d 
    (hc : ∀ (j : Nat) (y : D), cs[j]? = some y → ∃ u, c[off + j]? = some u ∧ Rd g w0 u y ∧ u.oneCell' = true) (hl : loadD P T cs = some d) :
    ∃ v, Rd g w0 v d ∧ ∀ w : World, w.heap[k]? = some (.cells c T0 fz) → (loadVar T ⟨k, off, none⟩).run P w = .ok v w := by
  unfold loadD at hl
  split at hl
  · cases hl
  · rename_i hu
    have hu : (P.underlying T).isNone = false := Bool.eq_false_iff.2 hu
    split at hl
    · rename_i ha
      split at hl
      · rename_i hn
        obtain ⟨h0, hn⟩ := hn
        cases hl
        have hs : off + P.cellsOf T ≤ c.size := by
          have hlt : P.cellsOf T - 1 < cs.length := by omega
          obtain ⟨u, hu', -⟩ := hc (P.cellsOf T - 1) cs[P.cellsOf T - 1] (by simp [hlt])
          have := arr_lt hu'
          omega
        refine ⟨.agg (c.extract off (off + P.cellsOf T)), Rd.agg' ?_ (fun j y hj => ?_), fun w hb => run_loadVar_agg hu ha hb hs⟩
        · grind
        grind
      · cases hl
    · rename_i ha
      have ha : isAggT P T = false := by simpa using ha
      obtain ⟨u, h1, h2, -⟩ := hc 0 d (by cases cs <;> simp_all)
      exact ⟨u, h2, fun w hb => run_loadVar_one hu ha hb (by simpa using h1)⟩
theorem allD_get : ∀ {cs : List SV} {ys : List D}, allD cs = some ys → cs.length = ys.length ∧ ∀ (j : Nat) (y : D), ys[j]? = some y → cs[j]? = some (.d y)
  | [], ys, h => by simp [allD] at h; subst h; simp
  | .d x :: r, ys, h => by
    simp only [allD, Option.map_eq_some_iff] at h
    obtain ⟨zs, h1, rfl⟩ := h
    obtain ⟨hl, hr⟩ := allD_get h1
    grind
  | .own _ _ :: _, _, h => by simp [allD] at h
  | .lent _ _ _ :: _, _, h => by simp [allD] at h
  | .lptr _ _ :: _, _, h => by simp [allD] at h
  | .box _ :: _, _, h => by simp [allD] at h
  | .loc _ _ :: _, _, h => by simp [allD] at h
  | .tup _ :: _, _, h => by simp [allD] at h
  | .undef :: _, _, h => by simp [allD] at h
theorem ROwn.toLent (h : ROwn g w o v n xs) : RList g w (some o) v n xs := by
  rcases h with ⟨h, a, h'⟩ | ⟨k, off, cap, c, T, us, hv, hk, hb, hp, -, hn, hc, hr⟩
  · exact .inl ⟨h, a, 0, h'⟩
  · exact .inr ⟨k, off, cap, c, T, (0, 0), us, hv, by rw [hk]; rfl, hb, hp, hn, hc, hr⟩
/-- A variable out of the cells of a box or an object. -/
theorem load_s {l : Nat → Loc}
    (hc : ∀ (j : Nat) (y : SV), cs[j]? = some y → ∃ u, c[off + j]? = some u ∧ RC g w0 (l (off + j)) u y ∧ u.oneCell' = true) (hl : loadS P T (l off) cs = some s) :
    ∃ v, Light g w0 v s ∧ ∀ w : World, w.heap[k]? = some (.cells c T0 fz) → (loadVar T ⟨k, off, none⟩).run P w = .ok v w := by
  unfold loadS at hl
  split at hl
  · cases hl
  · rename_i hu
    have hu : (P.underlying T).isNone = false := Bool.eq_false_iff.2 hu
    split at hl
    · rename_i ha
      split at hl
      · rename_i hn
        obtain ⟨h0, hn⟩ := hn
        simp only [Option.map_eq_some_iff] at hl
        obtain ⟨ys, h1, rfl⟩ := hl
        obtain ⟨hly, hgy⟩ := allD_get h1
        have hlen : P.cellsOf T = ys.length := by grind
        have hd := load_d (P := P) (g := g) (w0 := w0) (T := T) (k := k) (off := off) (c := c) (T0 := T0) (fz := fz) (cs := ys) (d := .agg ys) (fun j y hj => by
          have h2 := hgy j y hj
          rw [List.getElem?_take] at h2
          split at h2
          · obtain ⟨u, h3, h4, h5⟩ := hc j _ h2
            exact ⟨u, h3, h4, h5⟩
          · cases h2) (by
            have hu' : (P.underlying T).isNone = false := hu
            have h0' : 0 < ys.length := by omega
            simp [loadD, hu', ha, hlen, h0'])
        exact hd
      · cases hl
    · rename_i ha
      have ha : isAggT P T = false := by simpa using ha
      split at hl
      · rename_i x r
        cases hl
        obtain ⟨u, h1, h2, -⟩ := hc 0 (.d x) (by simp)
        exact ⟨u, h2, fun w hb => run_loadVar_one hu ha hb (by simpa using h1)⟩
      · rename_i n xs r
        cases hl
        obtain ⟨u, h1, h2, -⟩ := hc 0 (.own n xs) (by simp)
        exact ⟨u, ROwn.toLent h2, fun w hb => run_loadVar_one hu ha hb (by simpa using h1)⟩
      · cases hl
end
end Go.Sh
namespace Go.Sh
section
variable (P : Program)
def isStrT (T : TypeId) : Bool := match P.underlying T with | some .string => true | _ => false
/-- A list that may be read: who lends it, its elements' cells, its elements. -/
def listOf (st : St) : Operand → Option (Option Loc × Nat × List D)
  | .tmp s => match st.tmps[s]? with
    | some (.d (.list n xs)) => some (none, n, xs)
    | some (.d .nilS) => some (none, 0, [])
    | some (.lent l n xs) => some (some l, n, xs)
    | some (.own n xs) => some (some (.slot s), n, xs)
    | some (.pin _ n xs) => some (some (.slot s), n, xs)
    | _ => none
  | .const (.slice none 0 0) => some (none, 0, [])
  | _ => none
/-- A pointer into cells of data: who lends them. -/
def ptrOf (st : St) : Operand → Option (Option Loc × List D)
  | .tmp s => match st.tmps[s]? with
    | some (.d (.dptr cs)) => some (none, cs)
    | some (.lptr l cs) => some (some l, cs)
    | _ => none
  | _ => none
def lendP : Option Loc → List D → SV
  | none, cs => .d (.dptr cs)
  | some l, cs => .lptr l cs
def lendL : Option Loc → Nat → List D → SV
  | none, n, xs => .d (.list n xs)
  | some l, n, xs => .lent l n xs
def intOf? (st : St) (x : Operand) : Option (IntKind × Int) := match valD st x with | some (.int k n) => some (k, n) | _ => none
def ptrH (st : St) (x : Operand) : Option (Nat × Nat) := match valD st x with | some (.ptr i off) => some (i, off) | _ => none
def fieldOff (S : TypeId) (f : Nat) : Option Nat :=
  match P.underlying S with
  | some (.struct fs) => match fs[f]? with
    | some fl => if P.cellsOf fl.type = 0 then none else some fl.offset
    | none => none
  | _ => none
/-- A part of a struct or an array that is a value. -/
def partD (T : TypeId) (cs : List D) (off : Nat) : Option D :=
  if (P.underlying T).isNone then none
  else if isAggT P T then some (.agg ((cs.drop off).take (P.cellsOf T)))
  else cs[off]?
def boolOp (op : BinOp) (e l : Bool) : Option Bool :=
  match op with
  | .eql => some e
  | .neq => some (!e)
  | .lss => some l
  | .leq => some (l || e)
  | .gtr => some !(l || e)
  | .geq => some !l
  | _ => none
/-- Two leaves of one type are equal. -/
def eqLeaf : Option TypeDesc → D → D → Option Bool
  | some .bool, .bool a, .bool b => some (a == b)
  | some (.int _), .int k a, .int k' b => if k = k' then some (a == b) else none
  | some .string, .str a, .str b => some (a == b)
  | _, _, _ => none
/-- Two structs of leaves, field by field; 'i': the place of the first. -/
def eqFs (i : Nat) : List Field → List D → List D → Option Bool
  | [], [], [] => some true
  | f :: fs, x :: xs, y :: ys =>
    if f.name != "_" && f.offset == i then
      match eqLeaf (P.underlying f.type) x y, eqFs (i + 1) fs xs ys with
      | some a, some b => some (a && b)
      | _, _ => none
    else none
  | _, _, _ => none
def eqAgg (T : TypeId) (a b : List D) : Option Bool :=
  match P.underlying T with
  | some (.struct fs) => if !P.stoodInHeld T && !P.eqGuardType P.depth T then eqFs P 0 fs.toList a b else none
  | _ => none
/-- Of what kind is something that is surely not nil: a pointer, an interface value, a function, a map. -/
def someK : SV → Nat
  | .d (.dptr _) | .d (.ptr _ _) | .loc _ _ | .lptr _ _ | .box _ => 1
  | .d (.iface _ _) => 2
  | .d (.fn _ _ _) => 3
  | .d (.map _) => 4
  | _ => 0
def nilK : D → Nat
  | .nilPtr => 1
  | .nilIface => 2
  | .nilFn => 3
  | .nilMap => 4
  | _ => 0
def typK (T : TypeId) : Nat :=
  match P.underlying T with
  | some (.pointer _) => 1
  | some (.interface _) => 2
  | some (.func ..) => 3
  | some (.map ..) => 4
  | _ => 5
/-- Something against nil, at a pointer's, an interface's, a function's, a map's type. -/
def nilEq (st : St) (T : TypeId) (x y : Operand) : Bool :=
  match val st x, valD st y with
  | some s, some d => someK s == typK P T && nilK d == typK P T
  | _, _ => false
def binS (st : St) (op : BinOp) (T : TypeId) (x y : Operand) : Option D :=
  match valD st x, valD st y with
  | some (.str a), some (.str b) =>
    if op matches .add then (if a.length + b.length ≤ maxLen then some (.str (a ++ b)) else none)
    else (boolOp op (a == b) (Op.bytesLess a b)).map .bool
  | some (.agg a), some (.agg b) =>
    match op, eqAgg P T a b with
    | .eql, some r => some (.bool r)
    | .neq, some r => some (.bool !r)
    | _, _ => none
  | p, q =>
    match p.bind leafV, q.bind leafV with
    | some u, some v => backD (leafRun P (do eqGuard op T x y u v; binOp op T u v))
    | _, _ =>
      if nilEq P st T x y || nilEq P st T y x then
        match op with
        | .eql => some (.bool false)
        | .neq => some (.bool true)
        | _ => none
      else none
def unS (st : St) (op : UnOp) (x : Operand) : Option D :=
  match (valD st x).bind leafV with
  | some u => backD (leafRun P (Op.unary op u))
  | none => none
/-- The bytes of a list of bytes. -/
def bytesOf : List D → Option (List UInt8)
  | [] => some []
  | .int .u8 n :: r => (bytesOf r).map (UInt8.ofNat n.toNat :: ·)
  | _ :: _ => none
def isBytesT (T : TypeId) : Bool := match P.underlying T with | some (.slice e) => (match P.underlying e with | some (.int .u8) => true | _ => false) | _ => false
def bytesS (st : St) (src dst : TypeId) (x : Operand) : Option D :=
  if isBytesT P src && isStrT P dst then
    match listOf st x with
    | some (_, n, xs) => if n = 1 ∨ xs.isEmpty then (bytesOf xs).map .str else none
    | none => none
  else none
def convS (st : St) (src dst : TypeId) (x : Operand) : Option D :=
  match (valD st x).bind leafV with
  | some u => backD (leafRun P (convert src dst u))
  | none => bytesS P st src dst x
def fillD (place : Nat → Option (Nat × Nat)) (cells : List D) : List (Nat × D) → Option (List D)
  | [] => some cells
  | (i, x) :: rest =>
    match place i with
    | none => none
    | some (off, size) =>
      if x.cells.length ≠ size ∨ off + size > cells.length then none
      else fillD place (cells.take off ++ x.cells ++ cells.drop (off + size)) rest
def partsD (st : St) : List (Nat × Operand) → Option (List (Nat × D))
  | [] => some []
  | (i, x) :: r => match valD st x, partsD st r with
    | some d, some ds => some ((i, d) :: ds)
    | _, _ => none
/-- Where a struct's fields lie. -/
def placesOf (T : TypeId) : Option (Nat → Option (Nat × Nat)) :=
  match P.underlying T with
  | some (.struct fs) => if fs.all (fun f => (P.info? f.type).isSome) then some (fun i => (fs[i]?).map fun f => (f.offset, P.cellsOf f.type)) else none
  | some (.array _ e) => if (P.info? e).isSome then some (fun i => some (i * P.cellsOf e, P.cellsOf e)) else none
  | _ => none
def zeroD (T : TypeId) : Option D := ((P.info? T).bind (·.zero)).bind constD
def buildS (st : St) (T : TypeId) (parts : List (Nat × Operand)) : Option D :=
  match placesOf P T, zeroD P T, partsD st parts with
  | some pl, some z, some ds => (fillD pl z.cells ds).map .agg
  | _, _, _ => none
def loadOp (st : St) (T : TypeId) (x : Operand) : Option SV :=
  match asLoc st x with
  | some (s, off) => match boxAt st s with | some cs => loadS P T (.cell s off) (cs.drop off) | none => none
  | none => match ptrOf st x with
    | some (_, cs) => (loadD P T cs).map .d
    | none => match ptrH st x with
      | some (i, off) => match st.H[i]? with | some (.cells cs) => loadS P T (.hcell i off) (cs.drop off) | _ => none
      | none => none
def fieldAddrOp (st : St) (S : TypeId) (x : Operand) (f : Nat) : Option SV :=
  match fieldOff P S f with
  | none => none
  | some fo => match asLoc st x with
    | some (s, off) => some (.loc s (off + fo))
    | none => match ptrOf st x with
      | some (l, cs) => some (lendP l (cs.drop fo))
      | none => match ptrH st x with
        | some (i, off) => some (.d (.ptr i (off + fo)))
        | none => none
def arrayOf (T : TypeId) : Option (Nat × Nat) := match P.underlying T with | some (.array n e) => some (n, P.cellsOf e) | _ => none
def indexAddrOp (st : St) (T : TypeId) (x i : Operand) : Option SV :=
  match intOf? st i with
  | none => none
  | some (_, j) => match arrayOf P T with
    | some (n, sz) => if sz ≠ 0 ∧ 0 ≤ j ∧ j < n then
        match asLoc st x with
        | some (s, off) => some (.loc s (off + j.toNat * sz))
        | none => match ptrH st x with
          | some (i, off) => some (.d (.ptr i (off + j.toNat * sz)))
          | none => none
      else none
    | none => match listOf st x with
      | some (l, n, xs) => if n ≠ 0 ∧ n = elemW P T ∧ 0 ≤ j then (xs[j.toNat]?).map fun x => lendP l x.cells else none
      | none => none
def indexOp (st : St) (T : TypeId) (x i : Operand) : Option D :=
  match valD st x, intOf? st i with
  | some (.str l), some (_, j) => if isStrT P T = true ∧ 0 ≤ j then (l[j.toNat]?).map fun b => .int .u8 b.toNat else none
  | some (.agg cs), some (_, j) => match P.underlying T with
    | some (.array n e) => if P.cellsOf e ≠ 0 ∧ 0 ≤ j ∧ j < n then partD P e cs (j.toNat * P.cellsOf e) else none
    | _ => none
  | _, _ => none
def fieldOp (st : St) (T : TypeId) (x : Operand) (f : Nat) : Option D :=
  match valD st x, P.underlying T with
  | some (.agg cs), some (.struct fs) => match fs[f]? with | some fl => partD P fl.type cs fl.offset | none => none
  | _, _ => none
def bnd (st : St) (dflt : Nat) : Option Operand → Option Nat
  | none => some dflt
  | some x => match intOf? st x with | some (_, j) => if 0 ≤ j then some j.toNat else none | none => none
def isZero (st : St) (x : Option Operand) : Bool := match x with | some x => (match intOf? st x with | some (_, j) => j == 0 | none => false) | none => false
def sliceOp (st : St) (T : TypeId) (x : Operand) (lo hi mx : Option Operand) : Option SV :=
  if mx.isSome then (if lo.isNone && isZero st hi && isZero st mx && elemW P T != 0 && (listOf st x).isSome then some (.d .nilS) else none) else
  match valD st x with
  | some (.str l) => match bnd st 0 lo, bnd st l.length hi with
    | some i, some j => if isStrT P T = true ∧ i ≤ j ∧ j ≤ l.length then some (.d (.str ((l.take j).drop i))) else none
    | _, _ => none
  | _ => match listOf st x with
    | some (l, n, xs) => match bnd st 0 lo, bnd st xs.length hi with
      | some i, some j => if elemW P T ≠ 0 ∧ (n = elemW P T ∨ xs.isEmpty) ∧ i ≤ j ∧ j ≤ xs.length then some (lendL l n ((xs.take j).drop i)) else none
      | _, _ => none
    | none => none
def lenOp (st : St) (T : TypeId) (x : Operand) : Option D :=
  match valD st x with
  | some (.str l) => if isStrT P T = true then some (.int .i64 l.length) else none
  | _ => match listOf st x with
    | some (_, _, xs) => match P.underlying T with | some (.slice _) => some (.int .i64 xs.length) | _ => none
    | none => none
def extractOp (st : St) (x : Operand) (j : Nat) : Option D :=
  match x with
  | .tmp s => match st.tmps[s]? with
    | some (.tup vs) => match vs[j]? with | some (.d d) => some d | _ => none
    | _ => none
  | _ => none
def dsOf (st : St) : List Operand → Option (List D)
  | [] => some []
  | x :: r => match valD st x, dsOf st r with
    | some d, some ds => some (d :: ds)
    | _, _ => none
/-- A function of the program's text, or no function. -/
def fnOk : SV → Bool
  | .d (.fn (.func _) _ _) => true
  | .d (.fn _ _ _) => false
  | _ => true
/-- What an operation that only reads leaves in its slot. -/
def bop (st : St) (o : Oper) : Option SV :=
  match o.op with
  | .move x | .assign x => readOp P st o.type x
  | .pick c x y => match valD st c with | some (.bool b) => (valD st (if b then x else y)).map .d | _ => none
  | .load T x => loadOp P st T x
  | .nilCheck x => match readOp P st o.type x with
    | some s => if someK s != 0 && fnOk s then some s else none
    | none => none
  | .binOp op T x y _ => (binS P st op T x y).map .d
  | .unOp op _ x => (unS P st op x).map .d
  | .convert src dst x => (convS P st src dst x).map .d
  | .makeInterface T x => match P.underlying T with
    | some (.interface _) | none => none
    | some _ => (valD st x).map fun d => .d (.iface T d)
  | .makeFunc fn first caps => match dsOf st first.toList, dsOf st caps.toList with
    | some fs, some cs => some (.d (.fn fn fs cs))
    | _, _ => none
  | .build T parts => (buildS P st T parts.toList).map .d
  | .fieldAddr S x f => fieldAddrOp P st S x f
  | .field T x f => (fieldOp P st T x f).map .d
  | .indexAddr T x i => indexAddrOp P st T x i
  | .index T x i => (indexOp P st T x i).map .d
  | .slice T x lo hi mx => sliceOp P st T x lo hi mx
  | .extract x j => (extractOp st x j).map .d
  | .call c => match c.callee, c.args.toList, c.argTypes.toList with
    | .builtin .len, [x], [T] => (lenOp P st T x).map .d
    | _, _, _ => none
  | _ => none
end
end Go.Sh
namespace Go.Sh
section
variable {P : Program}
theorem eval_tmp (a : Act) (s : Nat) : a.eval (.tmp s) = valOf a s := rfl
theorem eval_const (a : Act) (v : Value) : a.eval (.const v) = v := rfl
theorem eval_func (a : Act) (f : Nat) : a.eval (.func f) = .func (.func f) #[] #[] := rfl
variable {st : St} {a : Act} {w : World} {g : Gh}
theorem Rel.rs (h : Rel st a w g) (hs : st.tmps[s]? = some sv) : RS g w st.tmps (valOf a) s (a.eval (.tmp s)) sv := h.tmp s sv hs
theorem val_d (h : Rel st a w g) (hv : val st x = some (.d d)) : Rd g w (a.eval x) d := by
  cases x with
  | tmp s => exact h.rs hv
  | const v =>
    simp only [val, Option.map_eq_some_iff, SV.d.injEq] at hv
    obtain ⟨d', h1, rfl⟩ := hv
    exact constD_rd h1
  | func f =>
    simp only [val, Option.some.injEq, SV.d.injEq] at hv
    subst hv
    exact .fn rfl rfl (fun _ => undef) (fun _ => undef) (fun j y hj => by simp at hj) (fun j y hj => by simp at hj) (fun j y hj => by simp at hj) (fun j y hj => by simp at hj)
  | global g => simp [val] at hv
theorem valD_d (h : Rel st a w g) (hv : valD st x = some d) : Rd g w (a.eval x) d := by
  unfold valD at hv
  split at hv
  · cases hv; rename_i h1; exact val_d h h1
  · cases hv
theorem listOf_sound (h : Rel st a w g) (hv : listOf st x = some (l, n, xs)) : RList g w l (a.eval x) n xs := by
  unfold listOf at hv
  split at hv
  · split at hv
    · rename_i hs; cases hv; exact (h.rs hs : Rd g w _ _).toList
    · rename_i hs; cases hv; obtain ⟨a', e⟩ := Rd.nilS_inv (h.rs hs); exact .inl ⟨rfl, a', 0, e⟩
    · rename_i hs; cases hv; exact h.rs hs
    · rename_i hs; cases hv; exact ROwn.toLent (h.rs hs)
    · rename_i hs; cases hv; exact ROwn.toLent (h.rs hs).2
    · cases hv
  · cases hv; exact .inl ⟨rfl, none, 0, rfl⟩
  · cases hv
theorem ptrOf_sound (h : Rel st a w g) (hv : ptrOf st x = some (l, cs)) : RPtr g w l (a.eval x) cs := by
  unfold ptrOf at hv
  split at hv
  · split at hv
    · rename_i hs; cases hv; exact (h.rs hs : Rd g w _ _).toPtr
    · rename_i hs; cases hv; exact h.rs hs
    · cases hv
  · cases hv
theorem ptrH_sound (h : Rel st a w g) (hv : ptrH st x = some (i, off)) : ∃ k, g.ρ[i]? = some k ∧ a.eval x = .pointer (some ⟨k, off, none⟩) := by
  unfold ptrH at hv
  split at hv
  · rename_i i' off' hd
    cases hv
    have := valD_d h hd
    generalize a.eval x = v at this
    cases this with
    | ptr hk => exact ⟨_, hk, rfl⟩
  · cases hv
theorem asLoc_sound (h : Rel st a w g) (hv : asLoc st x = some (s, off)) :
    ∃ cs k, st.tmps[s]? = some (.box cs) ∧ valOf a s = .pointer (some ⟨k, 0, none⟩) ∧ a.eval x = .pointer (some ⟨k, off, none⟩) := by
  unfold asLoc at hv
  split at hv
  · split at hv
    · rename_i s0 cs hs
      cases hv
      obtain ⟨k, c, T, h1, -⟩ := h.rs hs
      exact ⟨cs, k, hs, h1, h1⟩
    · rename_i s0 t off' hs
      cases hv
      obtain ⟨⟨cs, hcs⟩, k, h1, h2⟩ := h.rs hs
      exact ⟨cs, k, hcs, h1, h2⟩
    · cases hv
  · cases hv
theorem intOf_sound (h : Rel st a w g) (hv : intOf? st x = some (k, n)) : a.eval x = .int k n := by
  unfold intOf? at hv
  split at hv
  · rename_i k' n' hd
    cases hv
    have := valD_d h hd
    generalize a.eval x = v at this
    cases this; rfl
  · cases hv
/-- What an operation that reads leaves: a pointer into a box, or something light. -/
def BV (g : Gh) (w : World) (st : St) (a : Act) (v : Value) : SV → Prop
  | .loc s off => (∃ cs, st.tmps[s]? = some (.box cs)) ∧ ∃ k, valOf a s = .pointer (some ⟨k, 0, none⟩) ∧ v = .pointer (some ⟨k, off, none⟩)
  | .als s => (∃ x, st.tmps[s]? = some x ∧ bigK x = 2) ∧ v = valOf a s
  | .ep s n j => (∃ x, st.tmps[s]? = some x ∧ bigK x = 2) ∧ ∃ k off len cap, valOf a s = .slice (some ⟨k, off, none⟩) len cap ∧ v = .pointer (some ⟨k, off + j * n, none⟩)
  | s => Light g w v s
def Up (w w' : World) : Prop := ∀ (k : Nat) (o : Obj), w.heap[k]? = some o → w'.heap[k]? = some o
theorem Up.refl (w : World) : Up w w := fun _ _ h => h
theorem BV.light (h : Light g w v s) : BV g w st a v s := by
  cases s <;> simp only [Light] at h <;> first | exact h | exact h.elim
theorem lendP_light (h : RPtr g w l v cs) : Light g w v (lendP l cs) := by
  cases l with
  | none => exact h.toRd
  | some l => exact h
theorem lendL_light (h : RList g w l v n xs) : Light g w v (lendL l n xs) := by
  cases l with
  | none => exact h.toRd
  | some l => exact h
theorem readOp_sound (h : Rel st a w g) (hv : readOp P st T x = some s) : BV g w st a (a.eval x) s := by
  unfold readOp at hv
  split at hv
  · rename_i t
    simp only [Option.bind_eq_some_iff] at hv
    obtain ⟨sv, h1, h2⟩ := hv
    have hr := h.rs h1
    cases sv <;> simp only [readSV, Option.some.injEq, reduceCtorEq] at h2 <;> subst h2
    · exact hr
    · exact ROwn.toLent hr
    · exact hr
    · exact hr
    · obtain ⟨k, c, T, e1, -⟩ := hr
      exact ⟨⟨_, h1⟩, k, e1, e1⟩
    · exact hr
    · trivial
    · exact ROwn.toLent hr.2
  · cases hv; exact ⟨rfl, none, rfl⟩
  · rename_i hx1 hx2
    cases x with
    | tmp t => exact (hx1 t rfl).elim
    | const v =>
      simp only [val, Option.map_eq_some_iff] at hv
      obtain ⟨d, h1, rfl⟩ := hv
      exact constD_rd (v := v) h1
    | func f =>
      have : s = .d (.fn (.func f) [] []) := by simpa [val, eq_comm] using hv
      subst this
      exact val_d h (x := .func f) rfl
    | global g => simp [val] at hv
theorem loadOp_sound (h : Rel st a w g) (hv : loadOp P st T x = some s) :
    ∃ v, Light g w v s ∧ ∀ w', Up w w' → (Instr.loadAt T (a.eval x)).run P w' = .ok v w' := by
  unfold loadOp at hv
  split at hv
  · rename_i s0 off hl
    obtain ⟨cs, k, h1, h2, h3⟩ := asLoc_sound h hl
    have hb : boxAt st s0 = some cs := by simp [boxAt, h1]
    simp only [hb] at hv
    obtain ⟨k', c, T0, e1, e2, e3, e4, e5⟩ := h.tmp s0 _ h1
    rw [h2] at e1
    simp only [Value.pointer.injEq, Option.some.injEq, Addr.mk.injEq, and_true] at e1
    subst e1
    obtain ⟨v, hL, hR⟩ := load_s (P := P) (g := g) (w0 := w) (T := T) (k := k) (off := off) (c := c) (T0 := T0) (fz := (0, 0)) (l := fun j => .cell s0 j) (fun j y hj => e5 (off + j) y (by simpa [List.getElem?_drop] using hj)) hv
    exact ⟨v, hL, fun w' hw => by simp [Instr.loadAt, h3, Instr.sureAddr, hR w' (hw _ _ e3)]⟩
  · split at hv
    · rename_i l cs hp
      simp only [Option.map_eq_some_iff] at hv
      obtain ⟨d, h1, rfl⟩ := hv
      obtain ⟨k, off, c, T0, fz, us, e1, e2, e3, e4, e5⟩ := ptrOf_sound h hp
      obtain ⟨v, hL, hR⟩ := load_d (P := P) (g := g) (w0 := w) (T := T) (k := k) (off := off) (c := c) (T0 := T0) (fz := fz) (fun j y hj => ⟨us j, (e4 j y hj).1, e5 j y hj, (e4 j y hj).2⟩) h1
      exact ⟨v, hL, fun w' hw => by simp [Instr.loadAt, e1, Instr.sureAddr, hR w' (hw _ _ e3)]⟩
    · split at hv
      · rename_i i off hp
        split at hv
        · rename_i cs ho
          obtain ⟨k, hk, e1⟩ := ptrH_sound h hp
          obtain ⟨k', c, T0, f1, f2, f3, f4, f5⟩ := h.hp.2 i _ ho
          rw [hk] at f1; cases f1
          obtain ⟨v, hL, hR⟩ := load_s (P := P) (g := g) (w0 := w) (T := T) (k := k) (off := off) (c := c) (T0 := T0) (fz := (0, 0)) (l := fun j => .hcell i j) (fun j y hj => f5 (off + j) y (by simpa [List.getElem?_drop] using hj)) hv
          exact ⟨v, hL, fun w' hw => by simp [Instr.loadAt, e1, Instr.sureAddr, hR w' (hw _ _ f3)]⟩
        · cases hv
      · cases hv
theorem RPtr.drop (h : RPtr g w l v cs) (n : Nat) :
    ∃ k off, v = .pointer (some ⟨k, off, none⟩) ∧ RPtr g w l (.pointer (some ⟨k, off + n, none⟩)) (cs.drop n) := by
  obtain ⟨k, off, c, T0, fz, us, e1, e2, e3, e4, e5⟩ := h
  refine ⟨k, off, e1, k, off + n, c, T0, fz, fun j => us (n + j), rfl, e2, e3, fun j y hj => ?_, fun j y hj => ?_⟩
  · grind
  grind
theorem fieldAddr_run (hf : fieldOff P S f = some fo) (w : World) :
    (Instr.fieldAt S (.pointer (some ⟨k, off, none⟩)) f).run P w = .ok (.pointer (some ⟨k, off + fo, none⟩)) w := by
  unfold fieldOff at hf
  split at hf
  · rename_i fs hu
    split at hf
    · rename_i fl hfl
      split at hf
      · cases hf
      · rename_i hn
        cases hf
        have : ∃ i, P.info? fl.type = some i := by
          cases hi : P.info? fl.type with
          | none => simp [Program.cellsOf, hi] at hn
          | some i => exact ⟨i, rfl⟩
        obtain ⟨i, hi⟩ := this
        have hz : i.size ≠ 0 := by simpa [Program.cellsOf, hi] using hn
        simp [Instr.fieldAt, run_underlying hu, hfl, Instr.sureAddr, fieldPlace, sizeOf, typeInfo, hi, hz, Addr.add_lit]
    · cases hf
  · cases hf
theorem fieldAddrOp_sound (h : Rel st a w g) (hv : fieldAddrOp P st S x f = some s) :
    ∃ v, BV g w st a v s ∧ ∀ w', (Instr.fieldAt S (a.eval x) f).run P w' = .ok v w' := by
  unfold fieldAddrOp at hv
  split at hv
  · cases hv
  · rename_i fo hf
    split at hv
    · rename_i s0 off hl
      cases hv
      obtain ⟨cs, k, h1, h2, h3⟩ := asLoc_sound h hl
      exact ⟨.pointer (some ⟨k, off + fo, none⟩), ⟨⟨cs, h1⟩, k, h2, rfl⟩, fun w' => by rw [h3]; exact fieldAddr_run hf w'⟩
    · split at hv
      · rename_i l cs hp
        cases hv
        obtain ⟨k, off, e1, e2⟩ := (ptrOf_sound h hp).drop fo
        exact ⟨_, BV.light (lendP_light e2), fun w' => by rw [e1]; exact fieldAddr_run hf w'⟩
      · split at hv
        · rename_i i off hp
          cases hv
          obtain ⟨k, hk, e1⟩ := ptrH_sound h hp
          exact ⟨.pointer (some ⟨k, off + fo, none⟩), Rd.ptr hk, fun w' => by rw [e1]; exact fieldAddr_run hf w'⟩
        · cases hv
theorem sizeOf_ne (h : P.cellsOf e ≠ 0) (w : World) : (sizeOf e).run P w = .ok (P.cellsOf e) w := by
  cases hi : P.info? e with
  | none => simp [Program.cellsOf, hi] at h
  | some i => simp [sizeOf, typeInfo, hi, Program.cellsOf]
theorem indexAddr_arr {T : TypeId} {n e : Nat} (hu : P.underlying T = some (.array n e)) (hz : P.cellsOf e ≠ 0) {k off : Nat} {ik : IntKind} {j : Int} (h0 : 0 ≤ j) (h1 : j < n) (w : World) :
    (Instr.indexAt T (.pointer (some ⟨k, off, none⟩)) (.int ik j)).run P w = .ok (.pointer (some ⟨k, off + j.toNat * P.cellsOf e, none⟩)) w := by
  simp [Instr.indexAt, asIntOf, run_underlying hu, Instr.sureAddr, h0, h1, sizeOf_ne hz, Addr.add_lit]
theorem indexAddr_sl {T e : TypeId} (hu : P.underlying T = some (.slice e)) (hz : P.cellsOf e ≠ 0) {k off len cap : Nat} {ik : IntKind} {j : Int} (h0 : 0 ≤ j) (h1 : j < len) (w : World) :
    (Instr.indexAt T (.slice (some ⟨k, off, none⟩) len cap) (.int ik j)).run P w = .ok (.pointer (some ⟨k, off + j.toNat * P.cellsOf e, none⟩)) w := by
  simp [Instr.indexAt, asIntOf, run_underlying hu, h0, h1, sizeOf_ne hz, Addr.add_lit]
theorem elemW_ne (h : elemW P T ≠ 0) : ∃ e, P.underlying T = some (.slice e) ∧ elemW P T = P.cellsOf e := by
  unfold elemW at h ⊢
  grind
theorem indexAddrOp_sound (h : Rel st a w g) {T : TypeId} {x i : Operand} {s : SV} (hv : indexAddrOp P st T x i = some s) :
    ∃ v, BV g w st a v s ∧ ∀ w', (Instr.indexAt T (a.eval x) (a.eval i)).run P w' = .ok v w' := by
  unfold indexAddrOp at hv
  split at hv
  · cases hv
  · rename_i ik j hi
    have hei := intOf_sound h hi
    split at hv
    · rename_i n sz ha
      have ⟨e, hu, hsz⟩ : ∃ e, P.underlying T = some (.array n e) ∧ sz = P.cellsOf e := by
        unfold arrayOf at ha
        grind
      subst hsz
      split at hv
      · rename_i hc
        obtain ⟨hz, h0, h1⟩ := hc
        split at hv
        · rename_i s0 off hl
          cases hv
          obtain ⟨cs, k, e1, e2, e3⟩ := asLoc_sound h hl
          exact ⟨.pointer (some ⟨k, off + j.toNat * P.cellsOf e, none⟩), ⟨⟨cs, e1⟩, k, e2, rfl⟩, fun w' => by rw [e3, hei]; exact indexAddr_arr hu hz h0 h1 w'⟩
        · split at hv
          · rename_i i' off hp
            cases hv
            obtain ⟨k, hk, e1⟩ := ptrH_sound h hp
            exact ⟨.pointer (some ⟨k, off + j.toNat * P.cellsOf e, none⟩), Rd.ptr hk, fun w' => by rw [e1, hei]; exact indexAddr_arr hu hz h0 h1 w'⟩
          · cases hv
      · cases hv
    · split at hv
      · rename_i l n xs hl
        split at hv
        · rename_i hc
          obtain ⟨hn, hw, h0⟩ := hc
          simp only [Option.map_eq_some_iff] at hv
          obtain ⟨y, hy, rfl⟩ := hv
          obtain ⟨e, hu, he⟩ := elemW_ne (P := P) (T := T) (by rw [← hw]; exact hn)
          rcases listOf_sound h hl with ⟨rfl, -⟩ | ⟨k, off, cap, c, T0, fz, us, e1, e2, e3, e4, e5, e6, e7⟩
          · simp at hy
          · have hlt := get_lt hy
            refine ⟨.pointer (some ⟨k, off + j.toNat * P.cellsOf e, none⟩), BV.light (lendP_light ⟨k, _, c, T0, fz, us j.toNat, rfl, e2, e3, fun m z hz => ?_, fun m z hz => e7 _ y hy m z hz⟩),
              fun w' => by rw [e1, hei]; exact indexAddr_sl hu (by rw [← he, ← hw]; exact hn) h0 (by omega) w'⟩
            grind
        · cases hv
      · cases hv
theorem partD_sound (hv : partD P T cs off = some d) (hr : Rd g w (.agg vs) (.agg cs)) :
    ∃ v, Rd g w v d ∧ ∀ w', (part T vs off).run P w' = .ok v w' := by
  unfold partD at hv
  split at hv
  · cases hv
  · rename_i hu
    have hu : (P.underlying T).isNone = false := Bool.eq_false_iff.2 hu
    cases hr with
    | agg hl us hc hr =>
      split at hv
      · rename_i ha
        cases hv
        refine ⟨.agg (vs.extract off (off + P.cellsOf T)), Rd.agg' ?_ (fun j y hj => ?_), fun w' => ?_⟩
        · grind
        · grind
        · simp [part, run_isAgg' hu, ha, run_sizeOf' hu]
      · rename_i ha
        have ha : isAggT P T = false := Bool.eq_false_iff.2 ha
        exact ⟨us off, hr _ _ hv, fun w' => by simp [part, run_isAgg' hu, ha, (hc _ _ hv).1]⟩
end
end Go.Sh
namespace Go.Sh
section
variable {P : Program} {st : St} {a : Act} {w : World} {g : Gh}
theorem mk_toList (l : List UInt8) : (mk l).toList = l := by rw [ByteArray.toList_eq]; rfl
theorem mk_append (x y : List UInt8) : mk x ++ mk y = mk (x ++ y) := by
  apply ByteArray.ext
  simp [mk, ByteArray.data_append]
theorem valD_leaf (h : Rel st a w g) (hv : valD st x = some d) (hl : leafV d = some u) : a.eval x = u := leafV_rd hl (valD_d h hv)
theorem backD_rd (hv : backD (leafRun P s) = some d) : ∃ v, Rd g w v d ∧ ∀ w', s.run P w' = .ok v w' := by
  simp only [backD, Option.bind_eq_some_iff] at hv
  obtain ⟨v, h1, h2⟩ := hv
  exact ⟨v, leafD_rd h2, leafRun_run h1⟩
theorem strOp_sound 
    (hv : (if op matches .add then (if p.length + q.length ≤ maxLen then some (D.str (p ++ q)) else none) else (boolOp op (p == q) (Op.bytesLess p q)).map .bool) = some d) :
    ∃ v, Rd g w v d ∧ ∀ w', (do eqGuard op T x y (.string (mk p)) (.string (mk q)); binOp op T (.string (mk p)) (.string (mk q)) : Sem Value).run P w' = .ok v w' := by
  have hg : eqGuard op T x y (.string (mk p)) (.string (mk q)) = pure () := eqGuard_at_string op T x y (.string (mk q)) (mk p)
  cases op <;> simp only [Bool.false_eq_true, if_false, if_true, boolOp, Option.map_some, Option.map_none, Option.some.injEq, reduceCtorEq] at hv
  case add =>
    split at hv
    · rename_i hle
      cases hv
      refine ⟨.string (mk (p ++ q)), .str, fun w' => ?_⟩
      have hle' : ¬ (((mk p).size + (mk q).size : Nat) : Int) > IntKind.i64.max := by
        rw [mk_size, mk_size, IntKind.max_i64]
        unfold maxLen at hle
        omega
      rw [hg]
      simp only [binOp, Op.stringOp, Sem.run_bind, Sem.run_pure, Result.andThen_ok]
      rw [if_neg hle', mk_append]
      rfl
    · cases hv
  all_goals
    subst hv
    refine ⟨_, .bool, fun w' => ?_⟩
    rw [hg]
    simp only [binOp, Op.stringOp, mk_toList, Sem.run_bind, Sem.run_pure, Result.andThen_ok]
theorem eqLeaf_sound (hv : eqLeaf (P.underlying T) x y = some r) (hx : Rd g w u x) (hy : Rd g w v y) (d : Nat) (w' : World) :
    (Op.equalIn (d + 1) T u v).run P w' = .ok r w' ∧ isAggT P T = false ∧ (P.underlying T).isNone = false := by
  cases hu : P.underlying T with
  | none => rw [hu] at hv; cases x <;> cases y <;> simp [eqLeaf] at hv
  | some t =>
    rw [hu] at hv
    cases t <;> cases x <;> cases y <;> simp only [eqLeaf, reduceCtorEq] at hv
    case bool.bool.bool a b =>
      cases hx; cases hy; cases hv
      exact ⟨run_equalIn_bool' w' d T _ _ hu, by simp [isAggT, hu], rfl⟩
    case int.int.int k0 k a k' b =>
      split at hv
      · rename_i hk
        subst hk
        cases hx; cases hy; cases hv
        exact ⟨run_equalIn_int w' d T _ _ _ _ hu, by simp [isAggT, hu], rfl⟩
      · cases hv
    case string.str.str a b =>
      cases hx; cases hy; cases hv
      refine ⟨?_, by simp [isAggT, hu], rfl⟩
      rw [run_equalIn_string w' d T _ _ hu, mk_toList, mk_toList]
theorem eqFs_sound (d : Nat) (w' : World) : ∀ (fs : List Field) (i : Nat) (xs ys : List D) (r : Bool), eqFs P i fs xs ys = some r →
    (∀ (j : Nat) (y : D), xs[j]? = some y → ∃ u, us[i + j]? = some u ∧ Rd g w u y) → (∀ (j : Nat) (y : D), ys[j]? = some y → ∃ u, vs[i + j]? = some u ∧ Rd g w u y) →
    (Op.eqFields (d + 1) us vs fs).run P w' = .ok r w'
  | [], i, xs, ys, r, h, _, _ => by
    cases xs <;> cases ys <;> simp [eqFs] at h
    subst h; simp [Op.eqFields]
  | f :: fs, i, [], ys, r, h, _, _ => by cases ys <;> simp [eqFs] at h
  | f :: fs, i, x :: xs, [], r, h, _, _ => by simp [eqFs] at h
  | f :: fs, i, x :: xs, y :: ys, r, h, hx, hy => by
    simp only [eqFs] at h
    split at h
    · rename_i hc
      simp only [Bool.and_eq_true, bne_iff_ne, beq_iff_eq] at hc
      obtain ⟨hn, ho⟩ := hc
      split at h
      · rename_i p q h1 h2
        cases h
        obtain ⟨u, hu1, hu2⟩ := hx 0 x (by simp)
        obtain ⟨v, hv1, hv2⟩ := hy 0 y (by simp)
        simp only [Nat.add_zero] at hu1 hv1
        obtain ⟨e1, e2, e3⟩ := eqLeaf_sound h1 hu2 hv2 d w'
        have ih := eqFs_sound d w' (us := us) (vs := vs) fs (i + 1) xs ys q h2 (fun j z hz => by have := hx (j + 1) z (by simpa using hz); grind)
          (fun j z hz => by have := hy (j + 1) z (by simpa using hz); grind)
        have p1 : (part f.type us f.offset).run P w' = .ok u w' := by simp [part, run_isAgg' e3, e2, ho, hu1]
        have p2 : (part f.type vs f.offset).run P w' = .ok v w' := by simp [part, run_isAgg' e3, e2, ho, hv1]
        simp only [Op.eqFields, if_pos hn, Sem.run_bind, p1, p2, e1, Result.andThen_ok]
        cases p <;> simp [ih]
      · cases h
    · cases h
theorem isStrT_eq (h : isStrT P T = true) : P.underlying T = some .string := by
  unfold isStrT at h
  grind
theorem aggEq_sound (hv : eqAgg P T xs ys = some r) (hx : Rd g w u (.agg xs)) (hy : Rd g w v (.agg ys)) (x y : Operand) (w' : World) :
    (do eqGuard .eql T x y u v; binOp .eql T u v : Sem Value).run P w' = .ok (.bool r) w' ∧ (do eqGuard .neq T x y u v; binOp .neq T u v : Sem Value).run P w' = .ok (.bool !r) w' := by
  unfold eqAgg at hv
  split at hv
  · rename_i fs hu
    split at hv
    · rename_i hc
      simp only [Bool.and_eq_true, Bool.not_eq_true'] at hc
      obtain ⟨h1, h2⟩ := hc
      cases hx with
      | agg hl us hc hr =>
        cases hy with
        | agg hl' us' hc' hr' =>
          have hf : P.fieldsOf T = fs := by simp [Program.fieldsOf, hu]
          have hs := eqFs_sound 9998 w' fs.toList 0 xs ys r hv (fun j z hz => ⟨us j, by simpa using (hc j z hz).1, hr j z hz⟩) (fun j z hz => ⟨us' j, by simpa using (hc' j z hz).1, hr' j z hz⟩)
          refine ⟨?_, ?_⟩
          · simp only [Sem.run_bind, run_eqGuard_agg w' _ T x y _ _ h2, Result.andThen_ok, run_eql_struct, run_equalIn_struct (P := P) w' 9999 T _ _ (by rw [hf]; exact hu) h1, hf, hs]
          · simp only [Sem.run_bind, run_eqGuard_agg w' _ T x y _ _ h2, Result.andThen_ok, run_neq_struct, run_equalIn_struct (P := P) w' 9999 T _ _ (by rw [hf]; exact hu) h1, hf, hs]
    · cases hv
  · cases hv
/-- The kind of a value that is not nil, and of one that is. -/
def someKV : Value → Nat
  | .pointer (some _) => 1
  | .iface _ _ => 2
  | .func _ _ _ => 3
  | .map (some _) => 4
  | _ => 0
def nilKV : Value → Nat
  | .pointer none => 1
  | .nilIface => 2
  | .nilFunc => 3
  | .map none => 4
  | _ => 0
theorem someK_v (h : Rel st a w g) (hv : val st x = some s) (hs : someK s ≠ 0) : someKV (a.eval x) = someK s := by
  cases s with
  | d d =>
    have := val_d h hv
    generalize a.eval x = v at this
    cases this <;> simp [someK, someKV] at hs ⊢
  | loc s off =>
    cases x with
    | tmp t => obtain ⟨-, k, -, e⟩ := h.rs hv; rw [e]; rfl
    | const v => simp [val] at hv
    | func f => simp [val] at hv
    | global f => simp [val] at hv
  | lptr l cs =>
    cases x with
    | tmp t => obtain ⟨k, off, c, T0, fz, us, e, -⟩ := h.rs hv; rw [e]; rfl
    | const v => simp [val] at hv
    | func f => simp [val] at hv
    | global f => simp [val] at hv
  | box cs =>
    cases x with
    | tmp t => obtain ⟨k, c, T0, e, -⟩ := h.rs hv; rw [e]; rfl
    | const v => simp [val] at hv
    | func f => simp [val] at hv
    | global f => simp [val] at hv
  | _ => simp [someK] at hs
theorem nilK_v (h : Rel st a w g) (hv : valD st x = some d) (hs : nilK d ≠ 0) : nilKV (a.eval x) = nilK d := by
  have := valD_d h hv
  generalize a.eval x = v at this
  cases this <;> simp [nilK, nilKV] at hs ⊢
theorem equalIn_nil (d : Nat) (w' : World) (h1 : someKV u = typK P T) (h2 : nilKV v = typK P T) :
    (Op.equalIn (d + 1) T u v).run P w' = .ok false w' ∧ (Op.equalIn (d + 1) T v u).run P w' = .ok false w' := by
  unfold typK at h1 h2
  cases hu : P.underlying T with
  | none => rw [hu] at h1; unfold someKV at h1; split at h1 <;> simp at h1
  | some t =>
    rw [hu] at h1 h2
    unfold someKV at h1
    unfold nilKV at h2
    cases t <;> simp only [] at h1 h2 <;> (split at h1 <;> simp at h1) <;> (split at h2 <;> simp at h2) <;>
      (refine ⟨?_, ?_⟩ <;> (unfold Op.equalIn; simp [run_underlying hu]))
theorem eqNil (w' : World) (h1 : someKV u = typK P T) (h2 : nilKV v = typK P T) :
    (Op.equal T u v).run P w' = .ok false w' ∧ (Op.equal T v u).run P w' = .ok false w' ∧
    (∀ op ox oy, eqGuard op T ox oy u v = pure () ∧ eqGuard op T ox oy v u = pure ()) ∧
    (binOp .eql T u v = (do pure (.bool (← Op.equal T u v)) : Sem Value) ∧ binOp .neq T u v = (do pure (.bool (!(← Op.equal T u v))) : Sem Value) ∧
      binOp .eql T v u = (do pure (.bool (← Op.equal T v u)) : Sem Value) ∧ binOp .neq T v u = (do pure (.bool (!(← Op.equal T v u))) : Sem Value)) := by
  obtain ⟨e1, e2⟩ := equalIn_nil 9999 w' h1 h2
  refine ⟨e1, e2, ?_⟩
  have hne : typK P T ≠ 0 := by unfold typK; split <;> simp
  rw [← h1] at hne h2
  unfold someKV at hne h2
  unfold nilKV at h2
  split at hne <;> simp at hne <;> (split at h2 <;> simp at h2) <;> exact ⟨fun op ox oy => ⟨by cases op <;> rfl, by cases op <;> rfl⟩, rfl, rfl, rfl, rfl⟩
theorem nilEq_sound (h : Rel st a w g) (hv : nilEq P st T x y = true) (ox oy : Operand) (w' : World) :
    (do eqGuard .eql T ox oy (a.eval x) (a.eval y); binOp .eql T (a.eval x) (a.eval y) : Sem Value).run P w' = .ok (.bool false) w' ∧
    (do eqGuard .neq T ox oy (a.eval x) (a.eval y); binOp .neq T (a.eval x) (a.eval y) : Sem Value).run P w' = .ok (.bool true) w' ∧
    (do eqGuard .eql T ox oy (a.eval y) (a.eval x); binOp .eql T (a.eval y) (a.eval x) : Sem Value).run P w' = .ok (.bool false) w' ∧
    (do eqGuard .neq T ox oy (a.eval y) (a.eval x); binOp .neq T (a.eval y) (a.eval x) : Sem Value).run P w' = .ok (.bool true) w' := by
  unfold nilEq at hv
  split at hv
  · rename_i s d h1 h2
    simp only [Bool.and_eq_true, beq_iff_eq] at hv
    obtain ⟨e1, e2⟩ := hv
    have hne : typK P T ≠ 0 := by unfold typK; split <;> simp
    have a1 := someK_v h h1 (by rw [e1]; exact hne)
    have a2 := nilK_v h h2 (by rw [e2]; exact hne)
    obtain ⟨b1, b2, b3, b4⟩ := eqNil (P := P) w' (a1.trans e1) (a2.trans e2)
    simp_all
  · cases hv
theorem binS_sound (h : Rel st a w g) (hv : binS P st op T x y = some d) :
    ∃ v, Rd g w v d ∧ ∀ w', (do eqGuard op T x y (a.eval x) (a.eval y); binOp op T (a.eval x) (a.eval y) : Sem Value).run P w' = .ok v w' := by
  unfold binS at hv
  split at hv
  · rename_i p q h1 h2
    rw [valD_leaf h h1 rfl, valD_leaf h h2 rfl]
    exact strOp_sound hv
  · rename_i p q h1 h2
    have r1 := valD_d h h1
    have r2 := valD_d h h2
    split at hv
    · rename_i r h3
      cases hv
      exact ⟨_, .bool, fun w' => (aggEq_sound h3 r1 r2 x y w').1⟩
    · rename_i r h3
      cases hv
      exact ⟨_, .bool, fun w' => (aggEq_sound h3 r1 r2 x y w').2⟩
    · cases hv
  · split at hv
    · rename_i u v h1 h2
      simp only [Option.bind_eq_some_iff] at h1 h2
      obtain ⟨d1, f1, f2⟩ := h1
      obtain ⟨d2, f3, f4⟩ := h2
      rw [valD_leaf h f1 f2, valD_leaf h f3 f4]
      exact backD_rd hv
    · split at hv
      · rename_i hn
        rw [Bool.or_eq_true] at hn
        rcases hn with hn | hn
        · split at hv
          · cases hv; exact ⟨_, .bool, fun w' => (nilEq_sound h hn x y w').1⟩
          · cases hv; exact ⟨_, .bool, fun w' => (nilEq_sound h hn x y w').2.1⟩
          · cases hv
        · split at hv
          · cases hv; exact ⟨_, .bool, fun w' => (nilEq_sound h hn x y w').2.2.1⟩
          · cases hv; exact ⟨_, .bool, fun w' => (nilEq_sound h hn x y w').2.2.2⟩
          · cases hv
      · cases hv
theorem unS_sound (h : Rel st a w g) (hv : unS P st op x = some d) : ∃ v, Rd g w v d ∧ ∀ w', (Op.unary op (a.eval x)).run P w' = .ok v w' := by
  unfold unS at hv
  split at hv
  · rename_i u h1
    simp only [Option.bind_eq_some_iff] at h1
    obtain ⟨d1, f1, f2⟩ := h1
    rw [valD_leaf h f1 f2]
    exact backD_rd hv
  · cases hv
theorem bytesOf_get : ∀ {xs : List D} {bs : List UInt8}, bytesOf xs = some bs → ∃ ns : List Int, ns.length = xs.length ∧ bs = ns.map (fun n => UInt8.ofNat n.toNat) ∧ ∀ (i : Nat) (x : D), xs[i]? = some x → x = .int .u8 (ns.getD i 0)
  | [], bs, h => by simp [bytesOf] at h; simp_all
  | x :: xs, bs, h => by
    cases x with
    | int k n =>
      cases k <;> simp only [bytesOf, reduceCtorEq, Option.map_eq_some_iff] at h
      obtain ⟨bs', h1, rfl⟩ := h
      obtain ⟨ns, e1, e2, e3⟩ := bytesOf_get h1
      refine ⟨n :: ns, by simp [e1], by simp [e2], fun i x hx => ?_⟩
      grind
    | _ => simp [bytesOf] at h
theorem isBytesT_eq (h : isBytesT P T = true) : ∃ e, P.underlying T = some (.slice e) ∧ P.underlying e = some (.int .u8) := by
  unfold isBytesT at h
  grind
theorem bytesS_sound (h : Rel st a w g) (hv : bytesS P st src dst x = some d) : ∃ v, Rd g w v d ∧ ∀ w', Up w w' → (convert src dst (a.eval x)).run P w' = .ok v w' := by
  unfold bytesS at hv
  split at hv
  · rename_i hT
    rw [Bool.and_eq_true] at hT
    obtain ⟨e, hs, he⟩ := isBytesT_eq hT.1
    have hd := isStrT_eq hT.2
    split at hv
    · rename_i l n xs hl
      split at hv
      · rename_i hn
        simp only [Option.map_eq_some_iff] at hv
        obtain ⟨bs, hb, rfl⟩ := hv
        obtain ⟨ns, e1, rfl, e3⟩ := bytesOf_get hb
        refine ⟨_, .str, fun w' hw => ?_⟩
        rcases listOf_sound h hl with ⟨rfl, a0, cap, f1⟩ | ⟨k, off, cap, c, T0, fz, us, f1, f2, f3, f4, f5, f6, f7⟩
        · have : ns = [] := by simpa using e1
          subst this
          rw [f1]
          cases a0 with
          | none => exact run_convert_bytes_nil w' src e hs he 0 cap dst hd
          | some a0 =>
            rw [run_convert_bytes_string w' src dst e _ 0 cap hs he hd]
            simp [Conv.bytesToString, loadCells, loadCellsFrom, mk]
            rfl
        · rw [f1]
          have h1 : n = 1 ∨ xs.length = 0 := by
            grind
          rw [run_convert_bytes_arg w' src e hs he k off xs.length cap ns e1 (fun i hi => ?_) dst hd]
          · rfl
          · have hx : xs[i]? = some xs[i] := by simp [hi]
            have hn1 : n = 1 := by omega
            subst hn1
            have hi' := e3 i _ hx
            have hc := (f6 i _ hx 0 (.int .u8 (ns.getD i 0)) (by rw [hi']; rfl)).1
            have hr := f7 i _ hx 0 (.int .u8 (ns.getD i 0)) (by rw [hi']; rfl)
            generalize us i 0 = u at hc hr
            cases hr
            rw [cell_blk (hw _ _ f3)]
            simpa using hc
      · cases hv
    · cases hv
  · cases hv
theorem convS_sound (h : Rel st a w g) (hv : convS P st src dst x = some d) : ∃ v, Rd g w v d ∧ ∀ w', Up w w' → (convert src dst (a.eval x)).run P w' = .ok v w' := by
  unfold convS at hv
  split at hv
  · rename_i u h1
    simp only [Option.bind_eq_some_iff] at h1
    obtain ⟨d1, f1, f2⟩ := h1
    rw [valD_leaf h f1 f2]
    obtain ⟨v, e1, e2⟩ := backD_rd (g := g) (w := w) hv
    grind
  · exact bytesS_sound h hv
theorem indexOp_sound (h : Rel st a w g) (hv : indexOp P st T x i = some d) :
    ∃ v, Rd g w v d ∧ ∀ w', (Instr.index T (a.eval x) (a.eval i)).run P w' = .ok v w' := by
  unfold indexOp at hv
  split at hv
  · rename_i l k j h1 h2
    have e1 := valD_leaf h h1 rfl
    have e2 := intOf_sound h h2
    split at hv
    · rename_i hc
      obtain ⟨hu, h0⟩ := hc
      have hu := isStrT_eq hu
      simp only [Option.map_eq_some_iff] at hv
      obtain ⟨b, hb, rfl⟩ := hv
      have hlt := get_lt hb
      refine ⟨_, .int, fun w' => ?_⟩
      rw [e1, e2, run_index_string w' T _ k j hu, dif_pos ⟨h0, by rw [mk_size]; omega⟩]
      congr 3
      have : (mk l)[j.toNat]'(by rw [mk_size]; omega) = b := by
        have : l[j.toNat]'hlt = b := by grind
        rw [← this]; rfl
      rw [this]
    · cases hv
  · rename_i cs k j h1 h2
    have r1 := valD_d h h1
    have e2 := intOf_sound h h2
    split at hv
    · rename_i n e hu
      split at hv
      · rename_i hc
        obtain ⟨hz, h0, hn⟩ := hc
        rw [e2]
        generalize a.eval x = v at r1
        cases r1 with
        | agg hl us hc hr =>
          obtain ⟨u, hu1, hu2⟩ := partD_sound hv (Rd.agg hl us hc hr)
          exact ⟨u, hu1, fun w' => by simp [Instr.index, asIntOf, run_underlying hu, h0, hn, sizeOf_ne hz, hu2]⟩
      · cases hv
    · cases hv
  · cases hv
theorem fieldOp_sound (h : Rel st a w g) (hv : fieldOp P st T x f = some d) :
    ∃ v, Rd g w v d ∧ ∀ w', (Instr.field T (a.eval x) f).run P w' = .ok v w' := by
  unfold fieldOp at hv
  split at hv
  · rename_i cs fs h1 hu
    split at hv
    · rename_i fl hfl
      have r1 := valD_d h h1
      generalize a.eval x = v at r1
      cases r1 with
      | agg hl us hc hr =>
        obtain ⟨u, hu1, hu2⟩ := partD_sound hv (Rd.agg hl us hc hr)
        exact ⟨u, hu1, fun w' => by simp [Instr.field, run_underlying hu, hfl, asAgg, hu2]⟩
    · cases hv
  · cases hv
theorem bnd_sound (h : Rel st a w g) (hv : bnd st dflt x = some n) :
    (x = none ∧ n = dflt) ∨ ∃ o k j, x = some o ∧ a.eval o = .int k j ∧ 0 ≤ j ∧ n = j.toNat := by
  unfold bnd at hv
  split at hv
  · cases hv; exact .inl ⟨rfl, rfl⟩
  · rename_i o
    split at hv
    · rename_i k j hi
      split at hv
      · rename_i h0
        cases hv
        exact .inr ⟨o, k, j, rfl, intOf_sound h hi, h0, rfl⟩
      · cases hv
    · cases hv
/-- The bounds of a slice expression that fits. -/
theorem bounds_run (h : Rel st a w g) (h1 : bnd st 0 lo = some i) (h2 : bnd st len hi = some j) (hij : i ≤ j) (hj : j ≤ len) (hc : len ≤ cap) (w' : World) :
    (Instr.sliceBounds sl len cap (lo.map a.eval) (hi.map a.eval) none).run P w' = .ok (i, j, cap) w' := by
  rcases bnd_sound h h1 with ⟨rfl, rfl⟩ | ⟨o1, k1, j1, rfl, e1, f1, rfl⟩ <;> rcases bnd_sound h h2 with ⟨rfl, rfl⟩ | ⟨o2, k2, j2, rfl, e2, f2, rfl⟩
  · simp [Instr.sliceBounds]
  · have : j2 ≤ (cap : Int) := by omega
    simp [Instr.sliceBounds, e2, run_sliceBound w' k2 j2 cap _ f2 this]
  · have : j1 ≤ (j : Int) := by omega
    simp [Instr.sliceBounds, e1, run_sliceBound w' k1 j1 j _ f1 this]
  · have : j2 ≤ (cap : Int) := by omega
    have : j1 ≤ (j2.toNat : Int) := by omega
    simp [Instr.sliceBounds, e1, e2, run_sliceBound w' k2 j2 cap _ f2 (by omega), run_sliceBound w' k1 j1 j2.toNat _ f1 this]
theorem elem_of (h : P.underlying T = some (.slice e)) : P.elem T = e := by simp [Program.elem, h]
theorem sliceOp_sound (h : Rel st a w g) (hv : sliceOp P st T x lo hi mx = some s) :
    ∃ v, Light g w v s ∧ ∀ w', (Instr.sliceAt T (a.eval x) (lo.map a.eval) (hi.map a.eval) (mx.map a.eval)).run P w' = .ok v w' := by
  unfold sliceOp at hv
  split at hv
  · rename_i hmx
    split at hv
    · rename_i hc
      cases hv
      simp only [Bool.and_eq_true, bne_iff_ne, Option.isNone_iff_eq_none] at hc
      obtain ⟨⟨⟨⟨rfl, hhi⟩, hm⟩, hz⟩, hls⟩ := hc
      obtain ⟨⟨l, n, xs⟩, hl⟩ := Option.isSome_iff_exists.1 hls
      have zero : ∀ x, isZero st x = true → ∃ o k, x = some o ∧ a.eval o = .int k 0 := fun x hx => by
        unfold isZero at hx
        split at hx
        · rename_i o
          split at hx
          · rename_i k j hj
            have : j = 0 := by simpa using hx
            subst this
            exact ⟨o, k, rfl, intOf_sound h hj⟩
          · cases hx
        · cases hx
      obtain ⟨o1, k1, rfl, e1⟩ := zero _ hhi
      obtain ⟨o2, k2, rfl, e2⟩ := zero _ hm
      obtain ⟨e, hu, he⟩ := elemW_ne hz
      have hue : P.underlying T = some (.slice (P.elem T)) := by rw [elem_of hu]; exact hu
      have hsz : ∀ w', (sizeOf (P.elem T)).run P w' = .ok (P.cellsOf e) w' := fun w' => by rw [elem_of hu]; exact sizeOf_ne (by rw [← he]; exact hz) w'
      have hsl : ∃ a0 len cap, a.eval x = .slice a0 len cap := by
        rcases listOf_sound h hl with ⟨-, a0, cap, e⟩ | ⟨k, off, cap, c, T0, fz, us, e, -⟩
        · exact ⟨_, _, _, e⟩
        · exact ⟨_, _, _, e⟩
      obtain ⟨a0, len, cap, ex⟩ := hsl
      refine ⟨sliced a0 0 0 0 (P.cellsOf e), Rd.nilS, fun w' => ?_⟩
      rw [run_sliceAt_slice w' T _ _ _ _ hue, ex, Option.map_some, Option.map_some, e1, e2, Option.map_none, run_slice_hm w' T a0 len cap hue k1 k2 0 0 (by omega) (by omega) (by omega)]
      simp [hsz]
    · cases hv
  · rename_i hmx
    have hmx : mx = none := by cases mx <;> simp at hmx ⊢
    subst hmx
    split at hv
    · rename_i l h1
      have e1 := valD_leaf h h1 rfl
      split at hv
      · rename_i i j b1 b2
        split at hv
        · rename_i hc
          obtain ⟨hu, hij, hj⟩ := hc
          cases hv
          have hu := isStrT_eq hu
          refine ⟨.string (mk ((l.take j).drop i)), Rd.str, fun w' => ?_⟩
          rw [run_sliceAt_string w' T _ _ _ _ hu, e1]
          have hb := bounds_run (P := P) h (sl := false) (cap := l.length) b1 b2 hij hj (Nat.le_refl _) w'
          have : (mk l).extract i j = mk ((l.take j).drop i) := by
            apply ByteArray.ext
            simp [mk, ByteArray.data_extract, List.drop_take]
          simp [Instr.slice, run_underlying hu, mk_size, hb, this]
        · cases hv
      · cases hv
    · split at hv
      · rename_i l n xs hl
        split at hv
        · rename_i i j b1 b2
          split at hv
          · rename_i hc
            obtain ⟨hz, hn, hij, hj⟩ := hc
            cases hv
            obtain ⟨e, hu, he⟩ := elemW_ne hz
            have hue : P.underlying T = some (.slice (P.elem T)) := by rw [elem_of hu]; exact hu
            have hsz : ∀ w', (sizeOf (P.elem T)).run P w' = .ok (P.cellsOf e) w' := fun w' => by rw [elem_of hu]; exact sizeOf_ne (by rw [← he]; exact hz) w'
            rcases listOf_sound h hl with ⟨rfl, a0, cap, e1⟩ | ⟨k, off, cap, c, T0, fz, us, e1, e2, e3, e4, e5, e6, e7⟩
            · have hj0 : j = 0 := by simpa using hj
              subst hj0
              have hi0 : i = 0 := by omega
              subst hi0
              have hb := bounds_run (P := P) h (sl := true) (len := 0) (cap := cap) b1 b2 (Nat.le_refl _) (Nat.le_refl _) (Nat.zero_le _)
              refine ⟨sliced a0 0 0 cap (P.cellsOf e), lendL_light (.inl ⟨by simp, _, _, rfl⟩), fun w' => ?_⟩
              rw [run_sliceAt_slice w' T _ _ _ _ hue, e1, run_slice_any w' T a0 0 cap hue]
              simp [hb, hsz]
            · have hb := bounds_run (P := P) h (sl := true) (len := xs.length) (cap := cap) b1 b2 hij hj e4
              refine ⟨sliced (some ⟨k, off, none⟩) i j cap (P.cellsOf e), lendL_light ?_, fun w' => ?_⟩
              · by_cases hji : j = i
                · subst hji
                  refine .inl ⟨by simp, (if cap = j then some ⟨k, off, none⟩ else (some (⟨k, off, none⟩ : Addr)).map (·.add (j * P.cellsOf e))), cap - j, ?_⟩
                  unfold sliced
                  rw [Nat.sub_self]
                · have hn' : n = P.cellsOf e := by
                    grind
                  subst hn'
                  have hci : cap ≠ i := by omega
                  refine .inr ⟨k, off + i * P.cellsOf e, cap - i, c, T0, fz, fun m => us (i + m), ?_, e2, e3, ?_, fun m y hy => ?_, fun m y hy p z hz => ?_, fun m y hy p z hz => ?_⟩
                  · simp [sliced, hci, Addr.add_lit, Nat.min_eq_left hj]
                  · simp [Nat.min_eq_left hj]; omega
                  all_goals
                    grind
              · rw [run_sliceAt_slice w' T _ _ _ _ hue, e1, run_slice_any w' T _ _ cap hue]
                simp [hb, hsz]
          · cases hv
        · cases hv
      · cases hv
theorem lenOp_sound (h : Rel st a w g) (hv : lenOp P st T x = some d) :
    ∃ v, Rd g w v d ∧ ∀ w', (Builtin.len_ #[T] ty #[a.eval x]).run P w' = .ok v w' := by
  unfold lenOp at hv
  split at hv
  · rename_i l h1
    split at hv
    · rename_i hu
      cases hv
      exact ⟨_, .int, fun w' => by rw [valD_leaf h h1 rfl, run_len_string w' T ty _ (isStrT_eq hu)]; rfl⟩
    · cases hv
  · split at hv
    · rename_i l n xs hl
      split at hv
      · rename_i e hu
        cases hv
        refine ⟨_, .int, fun w' => ?_⟩
        rcases listOf_sound h hl with ⟨rfl, a0, cap, e1⟩ | ⟨k, off, cap, c, T0, fz, us, e1, -⟩ <;> rw [e1] <;> simp [Builtin.len_, run_underlying hu, goInt]
      · cases hv
    · cases hv
theorem extractOp_sound (h : Rel st a w g) (hv : extractOp st x j = some d) : ∃ v, Rd g w v d ∧ ∀ w', (Instr.extract (a.eval x) j).run P w' = .ok v w' := by
  unfold extractOp at hv
  split at hv
  · split at hv
    · rename_i vs hs
      split at hv
      · rename_i d' hd
        cases hv
        obtain ⟨us, e1, e2, e3⟩ := h.rs hs
        obtain ⟨u, f1, f2⟩ := e3 j _ hd
        exact ⟨u, f2, fun w' => by rw [e1]; simp [Instr.extract, f1]⟩
      · cases hv
    · cases hv
  · cases hv
theorem dsOf_sound (h : Rel st a w g) : ∀ {xs : List Operand} {ds : List D}, dsOf st xs = some ds → xs.length = ds.length ∧ ∀ (j : Nat) (y : D), ds[j]? = some y → ∃ o, xs[j]? = some o ∧ Rd g w (a.eval o) y
  | [], ds, hv => by simp [dsOf] at hv; subst hv; simp
  | x :: xs, ds, hv => by
    simp only [dsOf] at hv
    split at hv
    · rename_i d ds' h1 h2
      cases hv
      obtain ⟨hl, hr⟩ := dsOf_sound h h2
      refine ⟨by simp [hl], fun j y hj => ?_⟩
      cases j with
      | zero => simp at hj; subst hj; exact ⟨x, by simp, valD_d h h1⟩
      | succ j => grind
    · cases hv
theorem makeFunc_sound (h : Rel st a w g) {fn : Fn} {first caps : Array Operand} {fs cs : List D} (h1 : dsOf st first.toList = some fs) (h2 : dsOf st caps.toList = some cs) :
    Rd g w (.func fn (first.map a.eval) (caps.map a.eval)) (.fn fn fs cs) := by
  obtain ⟨l1, r1⟩ := dsOf_sound h h1
  obtain ⟨l2, r2⟩ := dsOf_sound h h2
  refine .fn (by simpa using l1) (by simpa using l2) (fun j => ((first[j]?).map a.eval).getD undef) (fun j => ((caps[j]?).map a.eval).getD undef) (fun j y hj => ?_) (fun j y hj => ?_) (fun j y hj => ?_) (fun j y hj => ?_)
  · grind
  · grind
  · grind
  grind
end
end Go.Sh
namespace Go.Sh
section
variable {P : Program} {st : St} {a : Act} {w : World} {g : Gh}
/-- Cells that read. -/
def RCells (g : Gh) (w : World) (vs : Array Value) (cs : List D) : Prop := vs.size = cs.length ∧ ∀ (j : Nat) (y : D), cs[j]? = some y → ∃ u, vs[j]? = some u ∧ Rd g w u y ∧ u.oneCell' = true
theorem Rd.cells (h : Rd g w v x) : RCells g w v.cells x.cells := by
  have one : ∀ (v : Value) (x : D), Rd g w v x → v.oneCell' = true → RCells g w #[v] [x] := fun v x h h1 => ⟨rfl, fun j y hj => by
    grind⟩
  cases h with
  | agg hl us hc hr => exact ⟨hl, fun j y hj => ⟨us j, (hc j y hj).1, hr j y hj, (hc j y hj).2⟩⟩
  | bool => exact one _ _ .bool rfl
  | int => exact one _ _ .int rfl
  | str => exact one _ _ .str rfl
  | nilS => exact one _ _ .nilS rfl
  | list0 => exact one _ _ .list0 rfl
  | list us hk hb hl hp hn hc hr => exact one _ _ (.list us hk hb hl hp hn hc hr) rfl
  | nilIface => exact one _ _ .nilIface rfl
  | iface h => exact one _ _ (.iface h) rfl
  | fn hl1 hl2 us1 us2 hc1 hr1 hc2 hr2 => exact one _ _ (.fn hl1 hl2 us1 us2 hc1 hr1 hc2 hr2) rfl
  | nilFn => exact one _ _ .nilFn rfl
  | nilPtr => exact one _ _ .nilPtr rfl
  | ptr h => exact one _ _ (.ptr h) rfl
  | dptr us hk hb hc hr => exact one _ _ (.dptr us hk hb hc hr) rfl
  | nilMap => exact one _ _ .nilMap rfl
  | map h => exact one _ _ (.map h) rfl
  | raw h =>
    have e : v.cells = #[v] := by cases v <;> simp_all [Value.oneCell', Value.cells]
    rw [e]
    exact one _ _ (.raw h) h
theorem RCells.agg (h : RCells g w vs cs) : Rd g w (.agg vs) (.agg cs) := Rd.agg' h.1 h.2
theorem setPart_list : ∀ (l : List Value) (k off : Nat) (cells : Array Value) (i : Nat),
    ((l.zipIdx k).foldl (fun cs p => cs.setIfInBounds (off + p.2) p.1) cells).size = cells.size ∧
    ((l.zipIdx k).foldl (fun cs p => cs.setIfInBounds (off + p.2) p.1) cells)[i]? = if off + k ≤ i ∧ i < off + k + l.length ∧ i < cells.size then l[i - (off + k)]? else cells[i]?
  | [], k, off, cells, i => by simp; intro h1 h2; omega
  | v :: l, k, off, cells, i => by
    simp only [List.zipIdx_cons, List.foldl_cons]
    obtain ⟨h1, h2⟩ := setPart_list l (k + 1) off (cells.setIfInBounds (off + k) v) i
    grind
theorem setPart (h1 : RCells g w vs ys) (h2 : RCells g w cells cs) (hb : off + ys.length ≤ cs.length) :
    RCells g w (vs.zipIdx.foldl (fun cs p => cs.setIfInBounds (off + p.2) p.1) cells) (cs.take off ++ ys ++ cs.drop (off + ys.length)) := by
  have he : vs.zipIdx.foldl (fun cs p => cs.setIfInBounds (off + p.2) p.1) cells = (vs.toList.zipIdx 0).foldl (fun cs p => cs.setIfInBounds (off + p.2) p.1) cells := by
    rw [← Array.foldl_toList, Array.toList_zipIdx]
  rw [he]
  refine ⟨?_, fun j y hj => ?_⟩
  · rw [(setPart_list _ 0 off cells 0).1, h2.1]
    simp; omega
  · rw [(setPart_list _ 0 off cells j).2]
    have hvl : vs.toList.length = ys.length := by simpa using h1.1
    have hcl := h2.1
    rw [hvl]
    by_cases c1 : j < off
    · rw [if_neg (by omega)]
      refine h2.2 j y ?_
      grind
    · by_cases c2 : j < off + ys.length
      · rw [if_pos (by omega)]
        rw [List.getElem?_append_left (by simp; omega), List.getElem?_append_right (by simp; omega)] at hj
        simp only [List.length_take] at hj
        rw [Nat.min_eq_left (by omega)] at hj
        obtain ⟨u, e1, e2⟩ := h1.2 _ y hj
        grind
      · rw [if_neg (by omega)]
        refine h2.2 j y ?_
        rw [List.getElem?_append_right (by simp; omega), List.getElem?_drop] at hj
        grind
theorem fill_sound {place place' : Nat → Option (Nat × Nat)} (hp : ∀ i, place i = place' i) : ∀ (ps : List (Nat × D)) (qs : List (Nat × Value)) (cells : Array Value) (cs cs' : List D),
    RCells g w cells cs → ps.length = qs.length → (∀ (j : Nat) (p : Nat × D), ps[j]? = some p → ∃ v, qs[j]? = some (p.1, v) ∧ Rd g w v p.2) →
    fillD place cs ps = some cs' → ∃ cells', Instr.fill place' cells qs = some cells' ∧ RCells g w cells' cs'
  | [], [], cells, cs, cs', h1, _, _, h => by
    simp only [fillD, Option.some.injEq] at h
    subst h
    exact ⟨cells, rfl, h1⟩
  | [], _ :: _, _, _, _, _, h, _, _ => by simp at h
  | _ :: _, [], _, _, _, _, h, _, _ => by simp at h
  | (i, x) :: ps, q :: qs, cells, cs, cs', h1, hl, hq, h => by
    obtain ⟨v, e1, e2⟩ := hq 0 (i, x) (by simp)
    simp only [List.getElem?_cons_zero, Option.some.injEq] at e1
    subst e1
    simp only [fillD] at h
    split at h
    · cases h
    · rename_i off size hpl
      split at h
      · cases h
      · rename_i hc
        have hv := e2.cells
        simp only at hv hc
        have hc1 : x.cells.length = size := by omega
        subst hc1
        have hsz : ¬ (decide (v.cells.size ≠ x.cells.length) || decide (off + v.cells.size > cells.size)) = true := by rw [hv.1, h1.1]; simp; omega
        obtain ⟨cells', f1, f2⟩ := fill_sound hp ps qs _ _ cs' (setPart (off := off) hv h1 (by omega)) (by simpa using hl) (fun j p hj => by simpa using hq (j + 1) p (by simpa using hj)) h
        refine ⟨cells', ?_, f2⟩
        simp only [Instr.fill, ← hp i, hpl]
        rw [if_neg hsz]
        exact f1
theorem partsD_sound (h : Rel st a w g) : ∀ {xs : List (Nat × Operand)} {ds : List (Nat × D)}, partsD st xs = some ds →
    ds.length = xs.length ∧ ∀ (j : Nat) (p : Nat × D), ds[j]? = some p → ∃ o, xs[j]? = some (p.1, o) ∧ Rd g w (a.eval o) p.2
  | [], ds, hv => by simp [partsD] at hv; subst hv; simp
  | (i, x) :: xs, ds, hv => by
    simp only [partsD] at hv
    split at hv
    · rename_i d ds' h1 h2
      cases hv
      obtain ⟨hl, hr⟩ := partsD_sound h h2
      refine ⟨by simp [hl], fun j p hj => ?_⟩
      cases j with
      | zero => simp at hj; subst hj; exact ⟨x, by simp, valD_d h h1⟩
      | succ j => grind
    · cases hv
theorem run_mapM_list {α β : Type} (f : α → Sem β) (r : α → β) (w' : World) : ∀ (l : List α), (∀ x ∈ l, (f x).run P w' = .ok (r x) w') → (l.mapM f).run P w' = .ok (l.map r) w'
  | [], _ => by simp
  | x :: l, h => by
    simp only [List.mapM_cons, Sem.run_bind, h x (by simp), Result.andThen_ok, run_mapM_list f r w' l (fun y hy => h y (by simp [hy])), Sem.run_pure, List.map_cons]
theorem zeroD_sound (hv : zeroD P T = some z) : ∃ v, Rd g w v z ∧ ∀ w', (zeroValue T).run P w' = .ok v w' := by
  simp only [zeroD, Option.bind_eq_some_iff] at hv
  obtain ⟨v, ⟨i, h1, h2⟩, h3⟩ := hv
  exact ⟨v, constD_rd h3, fun w' => by simp [zeroValue, typeInfo, h1, h2]⟩
theorem buildS_sound (h : Rel st a w g) {T : TypeId} {parts : Array (Nat × Operand)} {d : D} (hv : buildS P st T parts.toList = some d) :
    ∃ v, Rd g w v d ∧ ∀ w', (Instr.build T (parts.map fun (i, x) => (i, a.eval x))).run P w' = .ok v w' := by
  unfold buildS at hv
  split at hv
  · rename_i pl z ds h1 h2 h3
    simp only [Option.map_eq_some_iff] at hv
    obtain ⟨cs, h4, rfl⟩ := hv
    obtain ⟨zv, z1, z2⟩ := zeroD_sound (g := g) (w := w) h2
    obtain ⟨hl, hr⟩ := partsD_sound h h3
    have hq : ∀ (j : Nat) (p : Nat × D), ds[j]? = some p → ∃ v, (parts.map fun (i, x) => (i, a.eval x)).toList[j]? = some (p.1, v) ∧ Rd g w v p.2 := fun j p hj => by
      grind
    unfold placesOf at h1
    split at h1
    · rename_i fs hu
      split at h1
      · rename_i hall
        cases h1
        obtain ⟨cells', f1, f2⟩ := fill_sound (g := g) (w := w) (place' := fun i => (fs.map fun f => (f.offset, P.cellsOf f.type))[i]?) (fun i => by rw [Array.getElem?_map]) ds _ _ _ cs z1.cells (by simpa using hl) hq h4
        refine ⟨.agg cells', f2.agg, fun w' => ?_⟩
        have hm : (fs.mapM fun f => (do pure (f.offset, ← sizeOf f.type) : Sem (Nat × Nat))).run P w' = .ok (fs.map fun f => (f.offset, P.cellsOf f.type)) w' := by
          rw [Array.mapM_eq_mapM_toList]
          simp only [Sem.run_map]
          rw [run_mapM_list _ (fun f => (f.offset, P.cellsOf f.type)) w' fs.toList (fun f hf => by
            have hi : (P.info? f.type).isSome = true := by
              rw [Array.all_eq_true'] at hall
              exact hall f (by simpa using hf)
            obtain ⟨i, hi⟩ := Option.isSome_iff_exists.1 hi
            simp [sizeOf, typeInfo, hi, Program.cellsOf])]
          simp only [Result.andThen_ok]
          congr 1
          exact Array.ext' (by simp)
        simp only [Instr.build, Sem.run_bind, z2, Result.andThen_ok, run_underlying hu, hm, f1, Sem.run_pure]
      · cases h1
    · rename_i n e hu
      split at h1
      · rename_i hi
        cases h1
        obtain ⟨i, hi⟩ := Option.isSome_iff_exists.1 hi
        obtain ⟨cells', f1, f2⟩ := fill_sound (g := g) (w := w) (place' := fun i => some (i * P.cellsOf e, P.cellsOf e)) (fun i => rfl) ds _ _ _ cs z1.cells (by simpa using hl) hq h4
        refine ⟨.agg cells', f2.agg, fun w' => ?_⟩
        have hsz : (sizeOf e).run P w' = .ok (P.cellsOf e) w' := by simp [sizeOf, typeInfo, hi, Program.cellsOf]
        simp only [Instr.build, Sem.run_bind, z2, Result.andThen_ok, run_underlying hu, hsz, f1, Sem.run_pure]
      · cases h1
    · cases h1
  · cases hv
theorem run_v (s : Sem Value) (w' : World) (h : s.run P w' = .ok v w') : (do pure (.value (← s)) : Sem Next).run P w' = .ok (.value v) w' := by
  simp [h]
/-- WHAT AN OPERATION THAT ONLY READS YIELDS, in every world that has grown. -/
theorem bop_sound (h : Rel st a w g) (hv : bop P st o = some s) : ∃ v, BV g w st a v s ∧ ∀ w', Up w w' → (execOp a.eval o).run P w' = .ok (.value v) w' := by
  obtain ⟨dst, op, type, pos, after, guard⟩ := o
  unfold bop at hv
  cases op <;> simp only [reduceCtorEq] at hv
  case move x => exact ⟨_, readOp_sound h hv, fun w' _ => rfl⟩
  case assign x => exact ⟨_, readOp_sound h hv, fun w' _ => rfl⟩
  case pick c x y =>
    split at hv
    · rename_i b hb
      simp only [Option.map_eq_some_iff] at hv
      obtain ⟨d, h1, rfl⟩ := hv
      refine ⟨_, BV.light (valD_d h h1 : Light g w _ (.d d)), fun w' _ => ?_⟩
      simp only [execOp, valD_leaf h hb rfl, asBool]
      cases b <;> rfl
    · cases hv
  case build T parts =>
    simp only [Option.map_eq_some_iff] at hv
    obtain ⟨d, h1, rfl⟩ := hv
    obtain ⟨v, e1, e2⟩ := buildS_sound h h1
    exact ⟨v, BV.light (s := .d d) e1, fun w' _ => run_v _ w' (e2 w')⟩
  case load T x =>
    obtain ⟨v, e1, e2⟩ := loadOp_sound h hv
    exact ⟨v, BV.light e1, fun w' hw => run_v _ w' (e2 w' hw)⟩
  case nilCheck x =>
    split at hv
    · rename_i s' hs'
      split at hv
      · rename_i hc
        cases hv
        have hb := readOp_sound h hs'
        refine ⟨_, hb, fun w' _ => ?_⟩
        simp only [Bool.and_eq_true, bne_iff_ne] at hc
        obtain ⟨c1, c2⟩ := hc
        simp only [execOp]
        cases s with
        | d d =>
          have hb' : Rd g w (a.eval x) d := hb
          generalize a.eval x = v at hb'
          cases hb' <;> simp [someK] at c1 <;> try rfl
          rename_i f _ _ _ _ _ _ _ _ _ _ _ _
          cases f <;> simp [fnOk] at c2
          rfl
        | loc s off => obtain ⟨-, k, -, e⟩ := hb; rw [e]; rfl
        | lptr l cs => obtain ⟨k, off, c, T0, fz, us, e, -⟩ := hb; rw [e]; rfl
        | box cs => exact hb.elim
        | _ => simp [someK] at c1
      · cases hv
    · cases hv
  case binOp op T x y yT =>
    simp only [Option.map_eq_some_iff] at hv
    obtain ⟨d, h1, rfl⟩ := hv
    obtain ⟨v, e1, e2⟩ := binS_sound h h1
    exact ⟨v, BV.light (s := .d d) e1, fun w' _ => run_v _ w' (e2 w')⟩
  case unOp op T x =>
    simp only [Option.map_eq_some_iff] at hv
    obtain ⟨d, h1, rfl⟩ := hv
    obtain ⟨v, e1, e2⟩ := unS_sound h h1
    exact ⟨v, BV.light (s := .d d) e1, fun w' _ => run_v _ w' (e2 w')⟩
  case convert src dst x =>
    simp only [Option.map_eq_some_iff] at hv
    obtain ⟨d, h1, rfl⟩ := hv
    obtain ⟨v, e1, e2⟩ := convS_sound h h1
    exact ⟨v, BV.light (s := .d d) e1, fun w' hw => run_v _ w' (e2 w' hw)⟩
  case makeInterface T x =>
    split at hv
    · cases hv
    · cases hv
    · rename_i t hne hu
      simp only [Option.map_eq_some_iff] at hv
      obtain ⟨d, h1, rfl⟩ := hv
      refine ⟨.iface T (a.eval x), BV.light (s := .d (.iface T d)) (.iface (valD_d h h1)), fun w' _ => run_v _ w' ?_⟩
      simp only [Instr.makeInterface, Sem.run_bind, run_underlying hu, Result.andThen_ok]
      rfl
  case makeFunc fn first caps =>
    split at hv
    · rename_i fs cs h1 h2
      cases hv
      exact ⟨_, BV.light (s := .d (.fn fn fs cs)) (makeFunc_sound h h1 h2), fun w' _ => rfl⟩
    · cases hv
  case slice T x lo hi mx =>
    obtain ⟨v, e1, e2⟩ := sliceOp_sound h hv
    exact ⟨v, BV.light e1, fun w' _ => run_v _ w' (e2 w')⟩
  case fieldAddr S x f =>
    obtain ⟨v, e1, e2⟩ := fieldAddrOp_sound h hv
    exact ⟨v, e1, fun w' _ => run_v _ w' (e2 w')⟩
  case field T x f =>
    simp only [Option.map_eq_some_iff] at hv
    obtain ⟨d, h1, rfl⟩ := hv
    obtain ⟨v, e1, e2⟩ := fieldOp_sound h h1
    exact ⟨v, BV.light (s := .d d) e1, fun w' _ => run_v _ w' (e2 w')⟩
  case indexAddr T x i =>
    obtain ⟨v, e1, e2⟩ := indexAddrOp_sound h hv
    exact ⟨v, e1, fun w' _ => run_v _ w' (e2 w')⟩
  case index T x i =>
    simp only [Option.map_eq_some_iff] at hv
    obtain ⟨d, h1, rfl⟩ := hv
    obtain ⟨v, e1, e2⟩ := indexOp_sound h h1
    exact ⟨v, BV.light (s := .d d) e1, fun w' _ => run_v _ w' (e2 w')⟩
  case extract x j =>
    simp only [Option.map_eq_some_iff] at hv
    obtain ⟨d, h1, rfl⟩ := hv
    obtain ⟨v, e1, e2⟩ := extractOp_sound h h1
    exact ⟨v, BV.light (s := .d d) e1, fun w' _ => run_v _ w' (e2 w')⟩
  case call c =>
    split at hv
    · rename_i x T hc hargs hts
      simp only [Option.map_eq_some_iff] at hv
      obtain ⟨d, h1, rfl⟩ := hv
      obtain ⟨v, e1, e2⟩ := lenOp_sound (ty := type) h h1
      refine ⟨v, BV.light (s := .d d) e1, fun w' _ => ?_⟩
      obtain ⟨callee, args, argTypes⟩ := c
      have ha : args = #[x] := by apply Array.ext'; simpa using hargs
      have ht : argTypes = #[T] := by apply Array.ext'; simpa using hts
      subst ha ht
      simp only at hc
      subst hc
      simp only [execOp, resolve, List.map_toArray, List.map_cons, List.map_nil, Sem.run_bind, Sem.run_pure, Result.andThen_ok, invoke, builtin]
      simp [e2 w']
    · cases hv
end
end Go.Sh
namespace Go.Sh
/-- A call's result: one value, or a tuple of them. -/
def RRes (g : Gh) (w : World) (v : Value) : SV → Prop
  | .tup vs => ∃ us : Array Value, v = .tuple us ∧ us.size = vs.length ∧ ∀ (j : Nat) (s : SV), vs[j]? = some s → ∃ u, us[j]? = some u ∧ RC g w (.comp 0 j) u s
  | s => RC g w (.slot 0) v s
def RArgs (g : Gh) (w : World) (vs : Array Value) (args : List SV) : Prop :=
  vs.size = args.length ∧ ∀ (j : Nat) (s : SV), args[j]? = some s → ∃ u, vs[j]? = some u ∧ RC g w (.slot j) u s
/-- THE CONTRACT OF A FUNCTION: called with values that read as these, over this shadow heap, it returns what reads as that, and leaves that shadow heap; 'pu': it leaves the heap as it was. -/
def SC (P : Program) (pu : Bool) (f : FuncId) (args : List SV) (H : List SObj) (r : SV) (H' : List SObj) : Prop :=
  ∀ (w : World) (g : Gh) (vs : Array Value), RArgs g w vs args → RH g w H →
    Calls P f vs w fun e w' => ∃ v g', e = .returned v ∧ RRes g' w' v r ∧ RH g' w' H' ∧ Fr pu g w g' w'
/-- A pure function. -/
def PC (P : Program) (f : FuncId) (args : List SV) (r : SV) : Prop := ∀ H, SC P true f args H r H
section
variable (P : Program)
/-- Is the operation to be carried out? -/
def wantS (ops : Array Oper) (st : St) (o : Oper) : Option Bool :=
  match o.guard with
  | none => some true
  | some (j, want) => match ((ops[j]?).bind (·.dst)).bind (st.tmps[·]?) with
    | some (.d (.bool b)) => some (b == want)
    | some (.tup _) => some false
    | _ => none
/-- The shadow's wp of a list of operations. -/
def OW (pu : Bool) (ops : Array Oper) (l : List Oper) (st : St) (Q : St → Prop) : Prop :=
  ∀ a w g, Rel st a w g → ∀ Qc : Exit → Act → World → Prop, (∀ st' a' w' g', Q st' → Rel st' a' w' g' → Fr pu g w g' w' → Qc .normal a' w') → wpList P ops Qc l a w
/-- The shadow's wp of code. -/
def SW (pu : Bool) (c : Code) (st : St) (Q : Exit → St → Prop) : Prop :=
  ∀ a w g, Rel st a w g → c.wp P (fun e a' w' => ∃ st' g', Q e st' ∧ Rel st' a' w' g' ∧ Fr pu g w g' w') a w
end
section
variable {P : Program} {pu : Bool} {ops : Array Oper} {rest : List Oper} {st : St} {Q : St → Prop}
theorem OW.nil (h : Q st) : OW P pu ops [] st Q := fun _ _ g hr _ hq => hq st _ _ g h hr (Fr.refl _ _ _)
theorem wantS_sound (h : Rel st a w g) (hv : wantS ops st o = some b) : Region.wanted o (yielded ops a.tmps) = b := by
  unfold wantS at hv
  unfold Region.wanted
  split at hv
  · grind
  · rename_i j want hg
    rw [hg]
    simp only
    have key : ∀ s, ((ops[j]?).bind (·.dst)).bind (st.tmps[·]?) = some s → ∃ t, (ops[j]?).bind (·.dst) = some t ∧ st.tmps[t]? = some s ∧ a.tmps[t]? = some (valOf a t) := fun s hs => by
      simp only [Option.bind_eq_some_iff] at hs
      obtain ⟨t, h1, h2⟩ := hs
      have hlt : t < a.tmps.size := by rw [h.len]; exact get_lt h2
      exact ⟨t, by grind, h2, by simp [valOf, Array.getD_eq_getD_getElem?, hlt]⟩
    split at hv
    · rename_i b' hs
      cases hv
      obtain ⟨t, h1, h2, h3⟩ := key _ hs
      have hr : Rd g w (valOf a t) (.bool b') := h.tmp t _ h2
      unfold yielded
      rw [h1, Option.bind_some, h3]
      generalize valOf a t = v at hr
      cases hr
      cases b' <;> cases want <;> rfl
    · rename_i vs hs
      cases hv
      obtain ⟨t, h1, h2, h3⟩ := key _ hs
      obtain ⟨us, e, -⟩ := h.tmp t _ h2
      unfold yielded
      grind
    · cases hv
theorem OW.skip (hw : wantS ops st o = some false) (h : OW P pu ops rest (st.put o.dst (.tup [])) Q) : OW P pu ops (o :: rest) st Q := by
  intro a w g hr Qc hq
  unfold wpList
  rw [wantS_sound hr hw, if_neg (by simp)]
  exact h _ w g (hr.putLight o.dst (v := undef) ⟨#[], rfl, rfl, by simp⟩) Qc hq
/-- A pointer into a box does not go into that box's own slot. -/
def locOk (dst : Option Tmp) : SV → Bool
  | .loc s _ => dst != some s
  | .als s => dst != some s
  | .ep s _ _ => dst != some s
  | _ => true
theorem St.put_big (h : st.tmps[s1]? = some x) (hb : bigK x ≠ 0) (hd : d ≠ some s1) : (st.put d s0).tmps[s1]? = some x := by
  cases d with
  | none => exact h
  | some t0 =>
    have hne0 : t0 ≠ s1 := fun e => hd (by rw [e])
    simp only [St.put]
    split
    · split
      · simp [St.set, St.kill, List.getElem?_set_ne hne0, h, bigK_mention hb]
      · simp [St.set, List.getElem?_set_ne hne0, h]
    · exact h
theorem Rel.putBV (h : Rel st a w g) (hb : BV g w st a v s) (hl : locOk d s = true) : Rel (st.put d s) (a.put d v) w g := by
  cases s with
  | loc s off =>
    refine h.put d fun t ht hlt => ?_
    subst ht
    obtain ⟨⟨cs, hcs⟩, k, h1, h2⟩ := hb
    have hne : t ≠ s := by simpa [locOk] using hl
    exact ⟨⟨cs, St.put_big hcs (by simp [bigK]) (by simpa using hne)⟩, k, by rw [valOf_put (by simpa using hne)]; exact h1, h2⟩
  | als s =>
    refine h.put d fun t ht hlt => ?_
    subst ht
    obtain ⟨⟨x, h1, h2⟩, h3⟩ := hb
    have hne : t ≠ s := by simpa [locOk] using hl
    exact ⟨⟨x, St.put_big h1 (by omega) (by simpa using hne), h2⟩, by rw [valOf_put (by simpa using hne)]; exact h3⟩
  | ep s n j =>
    refine h.put d fun t ht hlt => ?_
    subst ht
    obtain ⟨⟨x, h1, h2⟩, h3⟩ := hb
    have hne : t ≠ s := by simpa [locOk] using hl
    exact ⟨⟨x, St.put_big h1 (by omega) (by simpa using hne), h2⟩, by rw [valOf_put (by simpa using hne)]; exact h3⟩
  | d x => exact h.putLight d hb
  | own n xs => exact h.putLight d hb
  | lent l n xs => exact h.putLight d hb
  | lptr l cs => exact h.putLight d hb
  | box cs => exact hb.elim
  | tup vs => exact h.putLight d hb
  | undef => exact h.putLight d hb
  | pin v0 n xs => exact hb.elim
theorem OW.bop (hw : wantS ops st o = some true) (hb : bop P st o = some s) (hl : locOk o.dst s = true) (h : OW P pu ops rest (st.put o.dst s) Q) : OW P pu ops (o :: rest) st Q := by
  intro a w g hr Qc hq
  unfold wpList
  rw [wantS_sound hr hw, if_pos rfl]
  refine .inl ?_
  obtain ⟨v, e1, e2⟩ := bop_sound hr hb
  unfold Oper.wp
  rw [e2 w (Up.refl w), Oper.upon_value]
  exact h _ w g (hr.putBV e1 hl) Qc hq
/-- What an operation that is no call does. -/
def OpS (P : Program) (pu : Bool) (st : St) (o : Oper) (st' : St) : Prop :=
  ∀ a w g, Rel st a w g → ∃ a' w' g' r, (execOp a.eval o).run P w = r ∧ (∀ next Q, o.upon P a next Q r = next a' w') ∧ Rel st' a' w' g' ∧ Fr pu g w g' w'
theorem OW.op (hw : wantS ops st o = some true) (ho : OpS P pu st o st') (h : OW P pu ops rest st' Q) : OW P pu ops (o :: rest) st Q := by
  intro a w g hr Qc hq
  unfold wpList
  rw [wantS_sound hr hw, if_pos rfl]
  refine .inl ?_
  obtain ⟨a', w', g', r, e1, e2, e3, e4⟩ := ho a w g hr
  unfold Oper.wp
  rw [e1, e2]
  exact h a' w' g' e3 Qc fun st2 a2 w2 g2 q2 r2 f2 => hq st2 a2 w2 g2 q2 r2 (e4.trans f2)
theorem OW.mono {Q' : St → Prop} (h : OW P pu ops l st Q) (hq : ∀ s, Q s → Q' s) : OW P pu ops l st Q' :=
  fun a w g hr Qc hc => h a w g hr Qc fun st' a' w' g' q r f => hc st' a' w' g' (hq _ q) r f
end
section
variable {P : Program} {pu : Bool} {st : St} {Q : Exit → St → Prop}
theorem SW.mono {Q' : Exit → St → Prop} (h : SW P pu c st Q) (hq : ∀ e s, Q e s → Q' e s) : SW P pu c st Q' :=
  fun a w g hr => Code.wp_mono (fun _ _ _ ⟨st', g', q, r⟩ => ⟨st', g', hq _ _ q, r⟩) (h a w g hr)
theorem SW.region {id : Nat} {l : List Oper} (h : OW P pu l.toArray l st (Q .normal)) : SW P pu (.region id l.toArray false) st Q :=
  fun a w g hr => wp_region_lit (h a w g hr _ fun st' _ _ g' q r f => ⟨st', g', q, r, f⟩)
theorem SW.skip (h : Q .normal st) : SW P pu .skip st Q := fun _ _ g hr => wp_skip ⟨st, g, h, hr, Fr.refl _ _ _⟩
theorem SW.label (h : Q .normal st) : SW P pu (.label l) st Q := fun _ _ g hr => wp_label ⟨st, g, h, hr, Fr.refl _ _ _⟩
theorem SW.exit {id : Nat} (h : Q (.exit id) st) : SW P pu (.exit id) st Q := fun _ _ g hr => wp_exit ⟨st, g, h, hr, Fr.refl _ _ _⟩
theorem SW.ret (h : Q .ret st) : SW P pu .ret st Q := fun _ _ g hr => wp_ret ⟨st, g, h, hr, Fr.refl _ _ _⟩
/-- What follows. -/
def thenS (n : St → Prop) (Q : Exit → St → Prop) : Exit → St → Prop
  | .normal, s => n s
  | e, s => Q e s
theorem SW.seq (h : SW P pu x st (thenS (fun s => SW P pu y s Q) Q)) : SW P pu (.seq x y) st Q := by
  intro a w g hr
  refine wp_seq (Code.wp_mono (fun e a' w' hh => ?_) (h a w g hr))
  obtain ⟨st', g', q, r, f⟩ := hh
  cases e with
  | normal =>
    refine Code.wp_mono (fun e2 a2 w2 hh2 => ?_) (q a' w' g' r)
    obtain ⟨st2, g2, q2, r2, f2⟩ := hh2
    exact ⟨st2, g2, q2, r2, f.trans f2⟩
  | _ => exact ⟨st', g', q, r, f⟩
theorem SW.cond (hc : valD st c = some (.bool b)) (h : SW P pu (if b then x else y) st Q) : SW P pu (.cond c x y) st Q :=
  fun a w g hr => wp_cond (valD_leaf hr hc rfl) (h a w g hr)
theorem SW.condT (hc : valD st c = some (.bool true)) (h : SW P pu x st Q) : SW P pu (.cond c x y) st Q := SW.cond hc h
theorem SW.condF (hc : valD st c = some (.bool false)) (h : SW P pu y st Q) : SW P pu (.cond c x y) st Q := SW.cond hc h
theorem SW.condB (hc : valD st c = some (.bool b)) (hT : b = true → SW P pu x st Q) (hF : b = false → SW P pu y st Q) : SW P pu (.cond c x y) st Q := by
  cases b
  · exact SW.condF hc (hF rfl)
  · exact SW.condT hc (hT rfl)
/-- The way out of a block. -/
def blockS (id : Nat) (Q : Exit → St → Prop) : Exit → St → Prop
  | .exit id', s => if id' = id then Q .normal s else Q (.exit id') s
  | e, s => Q e s
theorem SW.block {id : Nat} {c : Code} (h : SW P pu c st (blockS id Q)) : SW P pu (.block id c) st Q := by
  intro a w g hr
  refine wp_block (Code.wp_mono (fun e a' w' hh => ?_) (h a w g hr))
  obtain ⟨st', g', q, r, f⟩ := hh
  cases e with
  | exit id' =>
    simp only [blockS] at q
    simp only [Exit.inBlock]
    grind
  | _ => exact ⟨st', g', q, r, f⟩
theorem wp_loop_ghost {α : Type} {Q : Exit → Act → World → Prop} {x : α} (I : α → Act → World → Prop) (μ : α → Nat) (h₀ : I x a w)
    (round : ∀ x a w, I x a w → c.wp P (Exit.then (fun a' w' => ∃ y, I y a' w' ∧ μ y < μ x) Q) a w) : (Code.loop c).wp P Q a w := by
  intro b k cs
  have key : ∀ n x a w, μ x = n → I x a w →
      ∃ e a' w', Q e a' w' ∧ Arrives P (lone (b.at a (.code c :: .inLoop c :: k)) cs w) b k cs e a' w' := by
    intro n
    induction n using Nat.strongRecOn with
    | _ n ih =>
      intro x a w hn hI
      obtain ⟨e, a₁, w₁, hq, harr⟩ := round x a w hI b (.inLoop c :: k) cs
      cases e with
      | normal =>
        obtain ⟨y, hI₁, hlt⟩ := hq
        obtain ⟨e₂, a₂, w₂, hq₂, harr₂⟩ := ih (μ y) (hn ▸ hlt) y a₁ w₁ rfl hI₁
        exact ⟨e₂, a₂, w₂, hq₂, .of_steps (Steps.trans harr (.one step_inLoop)) harr₂⟩
      | exit id => exact ⟨_, a₁, w₁, hq, .pass (x := .inLoop c) rfl (fun _ _ => .inl (by simp)) harr⟩
      | goto l => exact ⟨_, a₁, w₁, hq, .pass (x := .inLoop c) rfl (fun _ _ => .inl (by simp)) harr⟩
      | ret => exact ⟨_, a₁, w₁, hq, .pass (x := .inLoop c) rfl (fun _ _ => .inl (by simp)) harr⟩
      | panic ch => exact ⟨_, a₁, w₁, hq, .pass (x := .inLoop c) rfl (fun _ _ => .inl (by simp)) harr⟩
      | outgrown => exact ⟨_, a₁, w₁, hq, .pass (x := .inLoop c) rfl (fun _ _ => .inl (by simp)) harr⟩
  obtain ⟨e, a', w', hq, harr⟩ := key _ x a w rfl h₀
  exact ⟨e, a', w', hq, .of_steps (.one step_loop) harr⟩
/-- A loop: what holds of the state at each round's head (x: how far it is), and a number that each round lowers. -/
theorem SW.loop {α : Type} {x : α} (I : α → St) (μ : α → Nat) (h0 : st = I x) (round : ∀ x, SW P pu c (I x) (thenS (fun s' => ∃ y, s' = I y ∧ μ y < μ x) Q)) : SW P pu (.loop c) st Q := by
  subst h0
  intro a w g hr
  refine wp_loop_ghost (x := (x, g)) (fun (x : α × Gh) a' w' => Rel (I x.1) a' w' x.2 ∧ Fr pu g w x.2 w') (fun x => μ x.1) ⟨hr, Fr.refl _ _ _⟩ fun x a1 w1 ⟨r1, f1⟩ => ?_
  refine Code.wp_mono (fun e a' w' hh => ?_) (round x.1 a1 w1 x.2 r1)
  obtain ⟨st', g', q, r, f⟩ := hh
  cases e with
  | normal =>
    obtain ⟨y, rfl, hlt⟩ := q
    exact ⟨(y, g'), ⟨r, f1.trans f⟩, hlt⟩
  | _ => exact ⟨st', g', q, r, f1.trans f⟩
end
end Go.Sh
namespace Go.Sh
theorem RC.rs (h : RC g w (.slot t) v s) (tm : List SV) (val : Nat → Value) : RS g w tm val t v s := by
  cases s <;> simp only [RC] at h <;> first | exact h | exact h.elim
def initSt (n : Nat) (args : List SV) (H : List SObj) : St := ⟨args ++ List.replicate (n - args.length) (.tup []), H⟩
theorem Rel.init (h : RArgs g w vs args) (hH : RH g w H) (n : Nat) :
    Rel (initSt n args H) { tmps := vs ++ Array.replicate (n - vs.size) undef, defers := [] } w g := by
  obtain ⟨hl, hr⟩ := h
  refine ⟨by simp [initSt, hl], rfl, fun t s hs => ?_, hH⟩
  simp only [initSt] at hs
  by_cases ht : t < args.length
  · rw [List.getElem?_append_left ht] at hs
    obtain ⟨u, e1, e2⟩ := hr t s hs
    have : valOf { tmps := vs ++ Array.replicate (n - vs.size) undef, defers := [] } t = u := by
      simp [valOf, Array.getD_eq_getD_getElem?, Array.getElem?_append_left (by omega : t < vs.size), e1]
    rw [this]
    exact e2.rs _ _
  · rw [List.getElem?_append_right (by omega), List.getElem?_replicate] at hs
    split at hs
    · rename_i hlt
      cases hs
      refine ⟨#[], ?_, rfl, by simp⟩
      simp [valOf, Array.getD_eq_getD_getElem?, Array.getElem?_append_right (by omega : vs.size ≤ t), Array.getElem?_replicate, hl, hlt]
      rfl
    · cases hs
/-- A result variable, as what the caller gets; and the slot whose list it hands over. -/
def resV (P : Program) (st : St) : ResultVar → Option (SV × Option Nat)
  | .tmp t => match st.tmps[t]? with
    | some (.d x) => some (.d x, none)
    | some (.own n xs) => some (.own n xs, some t)
    | some (.lent (.slot s) n xs) => match st.tmps[s]? with
      | some (.own _ _) => some (.d (.list n xs), none)
      | _ => none
    | _ => none
  | .cell a T => match boxAt st a with
    | some cs => match loadS P T (.cell a 0) cs with
      | some (.d x) => some (.d x, none)
      | _ => none
    | none => none
def resVs (P : Program) (st : St) : List ResultVar → Option (List (SV × Option Nat))
  | [] => some []
  | r :: rs => match resV P st r, resVs P st rs with
    | some x, some xs => some (x :: xs)
    | _, _ => none
def resS (xs : List (SV × Option Nat)) : SV :=
  match xs with
  | [x] => x.1
  | xs => .tup (xs.map (·.1))
/-- Where a result's list goes: by the slot that it stands in. -/
def resTo (xs : List (SV × Option Nat)) (t : Nat) : Option Loc :=
  match xs with
  | [x] => if x.2 = some t then some (.slot 0) else none
  | xs => (xs.findIdx? (·.2 == some t)).map (.comp 0)
/-- Each result that is a list of its own stands in a slot of its own. -/
def resOk (xs : List (SV × Option Nat)) : Bool :=
  (xs.zipIdx).all fun p => match p.1.2 with
    | some t => match xs with
      | [_] => true
      | _ => xs.findIdx? (·.2 == some t) == some p.2
    | none => true
def endOw (xs : List (SV × Option Nat)) : Own → Own
  | .lst (.slot t) => match resTo xs t with | some l => .lst l | none => .free
  | .lst (.hcell i j) => .lst (.hcell i j)
  | .lst _ => .free
  | .box _ => .lst .els
  | o => o
def Gh.ren (g : Gh) (f : Own → Own) : Gh := { g with ow := fun k => f (g.ow k) }
theorem Keep.ren {f : Own → Own} (h : f o = o) : Keep o g w (g.ren f) w := fun k b h1 h2 => ⟨by simp [Gh.ren, h1, h], h2⟩
section
variable {P : Program} {pu : Bool}
theorem ROwn.ren {f : Own → Own} (h0 : f .free = .free) (h1 : f (.lst o) = .lst o') (h : ROwn g w o v n xs) : ROwn (g.ren f) w o' v n xs := by
  rcases h with h | ⟨k, off, cap, c, T, us, hv, hk, hb, hl, hz, hn, hc, hr⟩
  · exact .inl h
  · exact .inr ⟨k, off, cap, c, T, us, hv, by simp [Gh.ren, hk, h1], hb, hl, hz, hn, hc, fun i x hx j y hy => (hr i x hx j y hy).keep (Keep.ren h0) (fun _ _ h => h)⟩
theorem RList.free {f : Own → Own} (h0 : f .free = .free) (h1 : f (.lst l) = .free) (h : RList g w (some l) v n xs) : Rd (g.ren f) w v (.list n xs) := by
  refine RList.toRd ?_
  rcases h with h | ⟨k, off, cap, c, T, fz, us, hv, hk, hb, hp, hn, hc, hr⟩
  · exact .inl h
  · refine .inr ⟨k, off, cap, c, T, fz, us, hv, ?_, hb, hp, hn, hc, fun i x hx j y hy => (hr i x hx j y hy).keep (Keep.ren h0) (fun _ _ h => h)⟩
    refine okL_free.2 ?_
    simp only [Gh.ren]
    cases ho : g.ow k <;> simp only [ho, okL] at hk
    · exact h0
    · cases hk; exact h1
/-- A result variable's value. -/
def resSem (tm : Array Value) : ResultVar → Sem Value
  | .tmp t => pure (tm.getD t undef)
  | .cell x T => do loadVar T (← asAddr (tm.getD x undef))
theorem results_eq (fn : Func) (tm : Array Value) : results fn tm = (do let vs ← fn.results.mapM (resSem tm); pure (if h : vs.size = 1 then vs[0] else .tuple vs)) := by
  unfold results
  congr 1
/-- One result variable, read at the end. -/
theorem resV_sound (h : Rel st a w g) (hv : resV P st rv = some (s, t)) {f : Own → Own} (h0 : f .free = .free) (l : Loc)
    (h1 : ∀ t', t = some t' → f (.lst (.slot t')) = .lst l) (h2 : ∀ s', rv = .tmp s' → ∀ t' n xs, st.tmps[s']? = some (.lent (.slot t') n xs) → f (.lst (.slot t')) = .free) :
    ∃ v, RC (g.ren f) w l v s ∧ (resSem a.tmps rv).run P w = .ok v w := by
  cases rv with
  | tmp t0 =>
    simp only [resV] at hv
    split at hv
    · rename_i x hs
      cases hv
      exact ⟨_, Rd.keep (Keep.ren h0) (fun _ _ h => h) (h.tmp t0 _ hs : Rd g w _ x), rfl⟩
    · rename_i n xs hs
      cases hv
      exact ⟨_, ROwn.ren h0 (h1 _ rfl) (h.tmp t0 _ hs), rfl⟩
    · rename_i s0 n xs hs
      split at hv
      · cases hv
        exact ⟨_, RList.free h0 (h2 t0 rfl _ _ _ hs) (h.tmp t0 _ hs), rfl⟩
      · cases hv
    · cases hv
  | cell x T =>
    simp only [resV] at hv
    split at hv
    · rename_i cs hb
      split at hv
      · rename_i d hl
        cases hv
        unfold boxAt at hb
        split at hb
        · rename_i cs' hs
          cases hb
          obtain ⟨k, c, T0, e1, e2, e3, e4, e5⟩ := h.tmp x _ hs
          obtain ⟨v, hL, hR⟩ := load_s (P := P) (g := g) (w0 := w) (T := T) (k := k) (off := 0) (c := c) (T0 := T0) (fz := (0, 0)) (l := fun j => .cell x j) (fun j y hj => by simpa using e5 j y hj) hl
          refine ⟨v, (hL : Rd g w v d).keep (Keep.ren h0) (fun _ _ h => h), ?_⟩
          have e1' : a.tmps.getD x undef = .pointer (some ⟨k, 0, none⟩) := e1
          simp [resSem, e1', asAddr, hR w e3]
        · cases hb
      · cases hv
    · cases hv
theorem resVs_get : ∀ {rs : List ResultVar} {xs : List (SV × Option Nat)}, resVs P st rs = some xs → rs.length = xs.length ∧ ∀ (j : Nat) (x : SV × Option Nat), xs[j]? = some x → ∃ r, rs[j]? = some r ∧ resV P st r = some x
  | [], xs, h => by simp [resVs] at h; subst h; simp
  | r :: rs, xs, h => by
    simp only [resVs] at h
    split at h
    · rename_i x xs' h1 h2
      cases h
      obtain ⟨hl, hr⟩ := resVs_get h2
      grind
    · cases h
/-- Nothing is lent by a list that is a result. -/
def lentOk (st : St) (rs : List ResultVar) (xs : List (SV × Option Nat)) : Bool :=
  rs.all fun r => match r with
    | .tmp s => match st.tmps[s]? with
      | some (.lent (.slot t) _ _) => (resTo xs t).isNone
      | _ => true
    | _ => true
def endOk (P : Program) (rs : List ResultVar) (st : St) (r : SV) : Prop :=
  ∃ xs, resVs P st rs = some xs ∧ resOk xs = true ∧ lentOk st rs xs = true ∧ resS xs = r
theorem results_run {fn : Func} {tm : Array Value} {w : World} {vs : List Value} (hl : vs.length = fn.results.size)
    (h : ∀ (j : Nat) (rv : ResultVar), fn.results[j]? = some rv → ∃ v, vs[j]? = some v ∧ (resSem tm rv).run P w = .ok v w) :
    (results fn tm).run P w = .ok (if h : vs.toArray.size = 1 then vs.toArray[0] else .tuple vs.toArray) w := by
  have hm : ∀ (l : List ResultVar) (vs : List Value), vs.length = l.length → (∀ (j : Nat) (rv : ResultVar), l[j]? = some rv → ∃ v, vs[j]? = some v ∧ (resSem tm rv).run P w = .ok v w) →
      (l.mapM (resSem tm)).run P w = .ok vs w := by
    intro l
    induction l with
    | nil => simp_all
    | cons r l ih =>
      intro vs hl h
      cases vs with
      | nil => simp at hl
      | cons v vs =>
        obtain ⟨v', e1, e2⟩ := h 0 r (by simp)
        simp only [List.getElem?_cons_zero, Option.some.injEq] at e1
        subst e1
        simp only [List.mapM_cons, Sem.run_bind, e2, Result.andThen_ok, ih vs (by simpa using hl) (fun j rv hj => by simpa using h (j + 1) rv (by simpa using hj)), Sem.run_pure]
  have := hm fn.results.toList vs (by simpa using hl) (fun j rv hj => h j rv (by simpa using hj))
  rw [results_eq, Array.mapM_eq_mapM_toList]
  simp_all
/-- The owner of a result's list: there is one result, or several. -/
def resLoc (n j : Nat) : Loc := if n = 1 then .slot 0 else .comp 0 j
theorem resTo_own (hok : resOk xs = true) (hj : xs[j]? = some (s, some t)) : resTo xs t = some (resLoc xs.length j) := by
  match xs, hok, hj with
  | [x], _, hj =>
    cases j with
    | zero => simp at hj; subst hj; simp [resTo, resLoc]
    | succ j => simp at hj
  | x :: y :: r, hok, hj =>
    unfold resOk at hok
    rw [List.all_eq_true] at hok
    have := hok ((s, some t), j) (List.mem_iff_getElem?.2 ⟨j, by rw [List.getElem?_zipIdx, hj]; simp⟩)
    simp only [beq_iff_eq] at this
    simp [resTo, this, resLoc]
/-- **A FUNCTION's CONTRACT OUT OF ITS BODY.** -/
theorem calls_of_SW {f : FuncId} {fn : Func} {c : Code} {args : List SV} {H : List SObj} {r : SV} (C : List SObj → Prop) (hf : P.funcs[f]? = some fn) (hb : fn.body = some c)
    (h : SW P pu c (initSt fn.ntmps args H) (fun e st' => (e = .normal ∨ e = .ret) ∧ endOk P fn.results.toList st' r ∧ C st'.H)) (w : World) (g : Gh) (vs : Array Value) (ha : RArgs g w vs args) (hH : RH g w H) :
    Calls P f vs w fun e w' => ∃ v g' H', C H' ∧ e = .returned v ∧ RRes g' w' v r ∧ RH g' w' H' ∧ Fr pu g w g' w' := by
  refine calls_of_wp hf hb (Code.wp_mono (fun e a' w' hh => ?_) (h _ _ g (Rel.init ha hH fn.ntmps)))
  obtain ⟨st', g', ⟨he, ⟨xs, hx1, hx2, hx3, hx4⟩, hH'⟩, hr, hfr⟩ := hh
  obtain ⟨hl, hg⟩ := resVs_get hx1
  -- the values, one by one
  have one : ∀ j, j < xs.length → ∃ v, (∀ s t, xs[j]? = some (s, t) → RC (g'.ren (endOw xs)) w' (resLoc xs.length j) v s) ∧ ∀ rv, fn.results[j]? = some rv → (resSem a'.tmps rv).run P w' = .ok v w' := fun j hj => by
    obtain ⟨rv, e1, e2⟩ := hg j xs[j] (by simp [hj])
    obtain ⟨v, f1, f2⟩ := resV_sound (P := P) hr (s := xs[j].1) (t := xs[j].2) e2 (f := endOw xs) rfl (resLoc xs.length j)
      (fun t' ht' => by
        have := resTo_own hx2 (j := j) (s := xs[j].1) (t := t') (by grind)
        simp only [endOw, this])
      (fun s' hs' t' n ys hlent => by
        subst hs'
        unfold lentOk at hx3
        rw [List.all_eq_true] at hx3
        have := hx3 (.tmp s') (List.mem_iff_getElem?.2 ⟨j, e1⟩)
        simp only [hlent, Option.isNone_iff_eq_none] at this
        simp only [endOw, this])
    refine ⟨v, fun s t hst => ?_, fun rv' hrv' => ?_⟩
    · grind
    grind
  -- all of them
  have all : ∃ us : List Value, us.length = xs.length ∧ (∀ (j : Nat) (s : SV) (t : Option Nat), xs[j]? = some (s, t) → ∃ u, us[j]? = some u ∧ RC (g'.ren (endOw xs)) w' (resLoc xs.length j) u s) ∧
      ∀ (j : Nat) (rv : ResultVar), fn.results[j]? = some rv → ∃ v, us[j]? = some v ∧ (resSem a'.tmps rv).run P w' = .ok v w' := by
    have : ∃ F : Nat → Value, ∀ j, j < xs.length → (∀ s t, xs[j]? = some (s, t) → RC (g'.ren (endOw xs)) w' (resLoc xs.length j) (F j) s) ∧ ∀ rv, fn.results[j]? = some rv → (resSem a'.tmps rv).run P w' = .ok (F j) w' :=
      ⟨fun j => if hj : j < xs.length then Classical.choose (one j hj) else undef, fun j hj => by grind⟩
    obtain ⟨F, hF⟩ := this
    refine ⟨(List.range xs.length).map F, by simp, fun j s t hj => ⟨F j, by simp [get_lt hj], (hF j (get_lt hj)).1 s t hj⟩, fun j rv hj => ?_⟩
    grind
  obtain ⟨us, u1, u2, u3⟩ := all
  have hrun := results_run (P := P) (fn := fn) (tm := a'.tmps) (w := w') (vs := us) (by rw [u1, ← hl]; simp) u3
  have hfr' : Fr pu g w (g'.ren (endOw xs)) w' := hfr.trans ⟨Nat.le_refl _, Keep.ren rfl, Keep.ren rfl, fun _ _ h => h, fun _ i => Keep.ren rfl, fun _ i j => Keep.ren rfl, fun _ => rfl, ⟨rfl, rfl⟩⟩
  have hRH : RH (g'.ren (endOw xs)) w' st'.H := by
    refine RH.keep (g := g') (w := w') (fun o ho => ?_) (fun _ _ h => h) rfl hr.hp
    refine Keep.ren ?_
    cases o <;> simp only [usesH] at ho <;> try rfl
    rename_i l
    cases l <;> simp only [usesH] at ho
    rfl
  have hres : RRes (g'.ren (endOw xs)) w' (if h : us.toArray.size = 1 then us.toArray[0] else .tuple us.toArray) r := by
    rw [← hx4]
    match xs, u1, u2 with
    | [x], u1, u2 =>
      match us, u1 with
      | [u], _ =>
        obtain ⟨u', e1, e2⟩ := u2 0 x.1 x.2 (by simp)
        simp only [List.getElem?_cons_zero, Option.some.injEq] at e1
        subst e1
        simp only [List.size_toArray, List.length_cons, List.length_nil, Nat.zero_add, dite_true, resS]
        have e2 : RC (g'.ren (endOw [x])) w' (.slot 0) u x.1 := e2
        have : RRes (g'.ren (endOw [x])) w' u x.1 := by
          obtain ⟨s, t⟩ := x
          cases s <;> first | exact e2 | exact e2.elim
        simpa using this
    | [], u1, u2 =>
      match us, u1 with
      | [], _ => exact ⟨#[], by simp, rfl, by simp⟩
    | x :: y :: r', u1, u2 =>
      have hne : ¬ us.toArray.size = 1 := by simp [u1]
      rw [dif_neg hne]
      refine ⟨us.toArray, rfl, by simp [u1], fun j s hj => ?_⟩
      simp only [List.getElem?_map, Option.map_eq_some_iff] at hj
      obtain ⟨⟨s', t⟩, h1, h2⟩ := hj
      simp only at h2
      subst h2
      obtain ⟨u, e1, e2⟩ := u2 j s' t h1
      rw [show resLoc (x :: y :: r').length j = .comp 0 j by simp [resLoc]] at e2
      grind
  have fin : ∃ v g' H', C H' ∧ Ending.returned (if h : us.toArray.size = 1 then us.toArray[0] else .tuple us.toArray) = .returned v ∧ RRes g' w' v r ∧ RH g' w' H' ∧ Fr pu g w g' w' := ⟨_, _, _, hH', rfl, hres, hRH, hfr'⟩
  rcases he with rfl | rfl
  · exact ⟨hr.def0, _, hrun, fin⟩
  · exact ⟨hr.def0, _, hrun, fin⟩
theorem SC.of_SW (hf : P.funcs[f]? = some fn) (hb : fn.body = some c)
    (h : SW P pu c (initSt fn.ntmps args H) (fun e st' => (e = .normal ∨ e = .ret) ∧ endOk P fn.results.toList st' r ∧ st'.H = H')) : SC P pu f args H r H' := by
  intro w g vs ha hH
  refine (calls_of_SW (· = H') hf hb h w g vs ha hH).mono fun e w' hh => ?_
  grind
end
end Go.Sh
namespace Go.Sh
/-- No slice and no pointer in it: it reads alike whatever blocks change hands. -/
def flatD : D → Bool
  | .bool _ | .int _ _ | .str _ | .nilS | .nilIface | .nilFn | .nilPtr | .nilMap | .ptr _ _ | .map _ => true
  | .iface _ x => flatD x
  | _ => false
def flatSV : SV → Bool
  | .d x => flatD x
  | .tup vs => vs.all fun | .d x => flatD x | _ => false
  | _ => false
theorem Rd.flat (hρ : KeepR g g') (h : Rd g w v x) (hf : flatD x = true) : Rd g' w' v x := by
  induction h with
  | bool => exact .bool
  | int => exact .int
  | str => exact .str
  | nilS => exact .nilS
  | nilIface => exact .nilIface
  | iface _ ih => exact .iface (ih hf)
  | nilFn => exact .nilFn
  | nilPtr => exact .nilPtr
  | ptr h => exact .ptr (hρ _ _ h)
  | nilMap => exact .nilMap
  | map h => exact .map (hρ _ _ h)
  | _ => cases hf
section
variable (P : Program)
/-- A type of pointers. -/
def isPtrT (T : TypeId) : Bool := match P.underlying T with | some (.pointer _) => true | _ => false
/-- An argument as the callee gets it, and who lends it. -/
def argS (st : St) (T : TypeId) (x : Operand) : Option (SV × Option Loc) :=
  match x with
  | .tmp s => match st.tmps[s]? with
    | some (.d x) => match isPtrT P T with
      | true => some (.d x, none)
      | false => match x with
        | .nilS => some (.d (.list (elemW P T) []), none)
        | x => some (.d x, none)
    | some (.own n xs) => some (.d (.list n xs), some (.slot s))
    | some (.lent l n xs) => some (.d (.list n xs), some l)
    | some (.lptr l cs) => some (.d (.dptr cs), some l)
    | _ => none
  | x => match valD st x with
    | some .nilS => some (.d (.list (elemW P T) []), none)
    | some d => some (.d d, none)
    | none => none
/-- An argument whose list is handed over for good. -/
def giveS (st : St) (x : Operand) : Option (SV × Nat) :=
  match x with
  | .tmp s => match st.tmps[s]? with
    | some (.own n xs) => some (.own n xs, s)
    | _ => none
  | _ => none
/-- An argument just as it is ('tr' holds its place and a thousand), or as it is lent. -/
def argX (st : St) (tr : List Nat) (p : Nat) (T : TypeId) (x : Operand) : Option (SV × Option Loc) :=
  match tr.contains (p + 1000) with
  | true => (valD st x).map fun d => (.d d, none)
  | false => argS P st T x
/-- All arguments: 'tr': the places of those that are handed over; 'p': the callee's slot of the first. -/
def argsS (st : St) (tr : List Nat) (p : Nat) : List Operand → List TypeId → Option (List SV × List Loc × List (Nat × Nat))
  | [], _ => some ([], [], [])
  | x :: xs, ts =>
    if tr.contains p then
      match giveS st x, argsS st tr (p + 1) xs ts.tail with
      | some (s, t), some (ss, ls, gs) => some (s :: ss, ls, (t, p) :: gs)
      | _, _ => none
    else
      match argX P st tr p (ts.headD 0) x, argsS st tr (p + 1) xs ts.tail with
      | some (s, none), some (ss, ls, gs) => some (s :: ss, ls, gs)
      | some (s, some l), some (ss, ls, gs) => some (s :: ss, l :: ls, gs)
      | _, _ => none
def isFn (f : FuncId) : Bool := match P.funcs[f]? with | some fn => fn.name != "runtime.NumGoroutine" && fn.body.isSome | none => false
end
/-- How the callee sees the owners. -/
def calleeOw (ls : List Loc) (gs : List (Nat × Nat)) : Own → Own
  | .free => .free
  | .out | .box _ => .out
  | .obj i => .obj i
  | .lst l => if ls.contains l then .free else
    match l with
    | .slot s => match gs.lookup s with | some p => .lst (.slot p) | none => .out
    | .hcell i j => .lst (.hcell i j)
    | _ => .out
/-- How the caller sees what the callee has left. -/
def backOw (t : Nat) : Own → Own
  | .free => .free
  | .lst (.slot 0) => .lst (.slot t)
  | .lst (.comp 0 j) => .lst (.comp t j)
  | _ => .lst .els
def afterOw (n : Nat) (ls : List Loc) (gs : List (Nat × Nat)) (t : Nat) (ow ow' : Nat → Own) (k : Nat) : Own :=
  if k < n then
    match ow k with
    | .lst (.slot s) => if ls.contains (.slot s) then .lst (.slot s) else match gs.lookup s with | some _ => backOw t (ow' k) | none => .lst (.slot s)
    | o => o
  else backOw t (ow' k)
/-- The slots of what was handed over are emptied. -/
def St.takes (st : St) : List (Nat × Nat) → St
  | [] => st
  | (s, _) :: gs => (((st.kill s).set s .undef)).takes gs
section
variable {P : Program} {pu : Bool} {ops : Array Oper} {rest : List Oper} {st : St} {Q : St → Prop}
@[simp] theorem St.takes_len (st : St) (gs : List (Nat × Nat)) : (st.takes gs).tmps.length = st.tmps.length := by
  induction gs generalizing st with
  | nil => rfl
  | cons p gs ih => obtain ⟨s, p⟩ := p; simp [St.takes, ih]
@[simp] theorem St.takes_H (st : St) (gs : List (Nat × Nat)) : (st.takes gs).H = st.H := by
  induction gs generalizing st with
  | nil => rfl
  | cons p gs ih => obtain ⟨s, p⟩ := p; simp [St.takes, ih]
/-- What is left in a slot: nothing, or what was there, if it is none of those handed over and does not mention one. -/
theorem St.takes_get : ∀ {st : St} {t : Nat} {s : SV}, (st.takes gs).tmps[t]? = some s → s = .undef ∨ (st.tmps[t]? = some s ∧ ∀ p ∈ gs, t ≠ p.1 ∧ mention p.1 s = false) := by
  induction gs with
  | nil => intro st t s h; exact .inr ⟨h, by simp⟩
  | cons q gs ih =>
    intro st t s h
    obtain ⟨s0, p0⟩ := q
    simp only [St.takes] at h
    rcases ih h with h | ⟨h1, h2⟩
    · exact .inl h
    · by_cases ht : t = s0
      · subst ht
        simp only [St.set] at h1
        grind
      · simp only [St.set, List.getElem?_set_ne (Ne.symm ht)] at h1
        rcases St.kill_get h1 with h1 | ⟨h1, h3⟩
        · exact .inl h1
        grind
theorem giveS_sound (h : Rel st a w g) (hv : giveS st x = some (s, t)) :
    ∃ n xs, s = .own n xs ∧ x = .tmp t ∧ ROwn g w (.slot t) (a.eval x) n xs := by
  unfold giveS at hv
  split at hv
  · split at hv
    · rename_i hs
      cases hv
      exact ⟨_, _, rfl, rfl, h.rs hs⟩
    · cases hv
  · cases hv
theorem calleeOw_free : calleeOw ls gs .free = .free := rfl
theorem RList.lend (hl : l ∈ ls) (h : RList g w (some l) v n xs) : Rd (g.ren (calleeOw ls gs)) w v (.list n xs) :=
  RList.free rfl (by simp [calleeOw, hl]) h
theorem RPtr.lend (hl : l ∈ ls) (h : RPtr g w (some l) v cs) : Rd (g.ren (calleeOw ls gs)) w v (.dptr cs) := by
  obtain ⟨k, off, c, T, fz, us, hv, hk, hb, hc, hr⟩ := h
  refine RPtr.toRd ⟨k, off, c, T, fz, us, hv, okL_free.2 ?_, hb, hc, fun j y hy => (hr j y hy).keep (Keep.ren rfl) (fun _ _ h => h)⟩
  simp only [Gh.ren]
  cases ho : g.ow k <;> simp only [ho, okL] at hk
  · rfl
  · cases hk; simp [calleeOw, hl]
theorem argS_sound (h : Rel st a w g) (hv : argS P st T x = some (s, l)) (hl : ∀ l', l = some l' → l' ∈ ls) (o : Loc) :
    RC (g.ren (calleeOw ls gs)) w o (a.eval x) s := by
  have kp : ∀ {v : Value} {d : D}, Rd g w v d → Rd (g.ren (calleeOw ls gs)) w v d := fun hr => hr.keep (Keep.ren rfl) (fun _ _ h => h)
  have nil : ∀ {v : Value} {n : Nat}, Rd g w v .nilS → Rd (g.ren (calleeOw ls gs)) w v (.list n []) := fun hr => by
    obtain ⟨a', rfl⟩ := Rd.nilS_inv hr
    exact .list0
  unfold argS at hv
  split at hv
  · split at hv
    · rename_i hs
      split at hv
      · cases hv; exact kp (h.rs hs)
      · split at hv
        · cases hv; exact nil (h.rs hs)
        · cases hv; exact kp (h.rs hs)
    · rename_i hs; cases hv; exact (ROwn.toLent (h.rs hs)).lend (hl _ rfl)
    · rename_i hs; cases hv; exact RList.lend (hl _ rfl) (h.rs hs)
    · rename_i hs; cases hv; exact RPtr.lend (hl _ rfl) (h.rs hs)
    · cases hv
  · split at hv
    · rename_i hs; cases hv; exact nil (valD_d h hs)
    · rename_i hne hs; cases hv; exact kp (valD_d h hs)
    · cases hv
theorem argX_sound (h : Rel st a w g) (hv : argX P st tr p T x = some (s, l)) (hl : ∀ l', l = some l' → l' ∈ ls) (o : Loc) :
    RC (g.ren (calleeOw ls gs)) w o (a.eval x) s := by
  unfold argX at hv
  split at hv
  · simp only [Option.map_eq_some_iff, Prod.mk.injEq] at hv
    obtain ⟨d, hd, rfl, rfl⟩ := hv
    exact (valD_d h hd).keep (Keep.ren rfl) (fun _ _ h => h)
  · exact argS_sound h hv hl o
theorem argsS_sound (h : Rel st a w g) (hgs : ∀ s p, (s, p) ∈ gs → gs.lookup s = some p ∧ Loc.slot s ∉ ls) :
    ∀ {xs : List Operand} {ts : List TypeId} {p : Nat} {ss : List SV} {ls' : List Loc} {gs' : List (Nat × Nat)}, argsS P st tr p xs ts = some (ss, ls', gs') → (∀ l ∈ ls', l ∈ ls) → (∀ q ∈ gs', q ∈ gs) →
    xs.length = ss.length ∧ ∀ (j : Nat) (s : SV), ss[j]? = some s → ∃ o, xs[j]? = some o ∧ RC (g.ren (calleeOw ls gs)) w (.slot (p + j)) (a.eval o) s
  | [], ts, p, ss, ls', gs', hv, _, _ => by simp [argsS] at hv; obtain ⟨rfl, -⟩ := hv; simp
  | x :: xs, ts, p, ss, ls', gs', hv, hl, hg => by
    simp only [argsS] at hv
    split at hv
    · split at hv
      · rename_i s t ss1 ls1 gs1 h1 h2
        cases hv
        obtain ⟨hlen, hr⟩ := argsS_sound h hgs h2 hl (fun q hq => hg q (List.mem_cons_of_mem _ hq))
        refine ⟨by simp [hlen], fun j s' hj => ?_⟩
        cases j with
        | zero =>
          simp only [List.getElem?_cons_zero, Option.some.injEq] at hj
          subst hj
          obtain ⟨n, ys, rfl, rfl, hO⟩ := giveS_sound h h1
          obtain ⟨g1, g2⟩ := hgs t p (hg _ (by simp))
          exact ⟨_, by simp, ROwn.ren rfl (by simp [calleeOw, g1, g2]) hO⟩
        | succ j =>
          grind
      · cases hv
    · split at hv
      · rename_i s ss1 ls1 gs1 h1 h2
        cases hv
        obtain ⟨hlen, hr⟩ := argsS_sound h hgs h2 hl hg
        refine ⟨by simp [hlen], fun j s' hj => ?_⟩
        cases j with
        | zero =>
          simp only [List.getElem?_cons_zero, Option.some.injEq] at hj
          subst hj
          exact ⟨x, by simp, argX_sound h h1 (by simp) _⟩
        | succ j =>
          grind
      · rename_i s l ss1 ls1 gs1 h1 h2
        cases hv
        obtain ⟨hlen, hr⟩ := argsS_sound h hgs h2 (fun l' hl' => hl l' (List.mem_cons_of_mem _ hl')) hg
        refine ⟨by simp [hlen], fun j s' hj => ?_⟩
        cases j with
        | zero =>
          simp only [List.getElem?_cons_zero, Option.some.injEq] at hj
          subst hj
          exact ⟨x, by simp, argX_sound h h1 (fun l' e => by cases e; exact hl _ (by simp)) _⟩
        | succ j =>
          grind
      · cases hv
/-- The places that are handed over are each handed over once, and lent to nobody. -/
def giveOk (ls : List Loc) (gs : List (Nat × Nat)) : Bool := gs.all fun q => gs.lookup q.1 == some q.2 && !ls.contains (.slot q.1)
theorem giveOk_spec (h : giveOk ls gs = true) : ∀ s p, (s, p) ∈ gs → gs.lookup s = some p ∧ Loc.slot s ∉ ls := by
  intro s p hm
  unfold giveOk at h
  grind
theorem Keep.of_eq (h : ∀ k b, g.ow k = o → w.heap[k]? = some b → g'.ow k = o ∧ w'.heap[k]? = some b) : Keep o g w g' w' := h
theorem lookup_none {gs : List (Nat × Nat)} {s : Nat} (h : ∀ p ∈ gs, s ≠ p.1) : gs.lookup s = none := by
  grind
/-- What the callee has left, as the caller sees it. -/
theorem after_keep (hf : Fr true (g.ren (calleeOw ls gs)) w g' w') (ho : ∀ s, o = .lst (.slot s) → Loc.slot s ∈ ls ∨ gs.lookup s = none) :
    Keep o g w ⟨afterOw w.heap.size ls gs t g.ow g'.ow, g'.ρ⟩ w' := by
  intro k b hk hb
  have hlt : k < w.heap.size := (Array.getElem?_eq_some_iff.1 hb).1
  have hcal : ∀ o', calleeOw ls gs o = o' → (g.ren (calleeOw ls gs)).ow k = o' := fun o' h => by simp [Gh.ren, hk, h]
  have hblk : w'.heap[k]? = some b := by
    cases o with
    | free => exact (hf.free k b (hcal _ rfl) hb).2
    | out => exact (hf.out k b (hcal _ rfl) hb).2
    | box i => exact (hf.out k b (hcal _ rfl) hb).2
    | obj i => exact (hf.obj rfl i k b (hcal _ rfl) hb).2
    | lst l =>
      by_cases hl : l ∈ ls
      · exact (hf.free k b (hcal _ (by simp [calleeOw, hl])) hb).2
      · cases l with
        | slot s =>
          rcases ho s rfl with h | h
          · exact absurd h hl
          · exact (hf.out k b (hcal _ (by simp [calleeOw, hl, h])) hb).2
        | hcell i j => exact (hf.hcell rfl i j k b (hcal _ (by simp [calleeOw, hl])) hb).2
        | comp i j => exact (hf.out k b (hcal _ (by simp [calleeOw, hl])) hb).2
        | cell i j => exact (hf.out k b (hcal _ (by simp [calleeOw, hl])) hb).2
        | els => exact (hf.out k b (hcal _ (by simp [calleeOw, hl])) hb).2
  refine ⟨?_, hblk⟩
  simp only [afterOw, hlt, if_true, hk]
  grind
/-- The arguments of a call, the callee, who lends, what is handed over. -/
structure CallS where
  f : FuncId
  args : List SV
  ls : List Loc
  gs : List (Nat × Nat)
theorem run_call {c : Call} {fo : Operand} {f : FuncId} {a : Act} {first caps : Array Value} {ty : TypeId} (hc : c.callee = .value fo) (hf : a.eval fo = .func (.func f) first caps) (hi : isFn P f = true) (w : World) :
    (do let d ← resolve a.eval c ty; invoke d.target d.args : Sem Next).run P w = .ok (.enter f (first ++ c.args.map a.eval ++ caps)) w := by
  unfold isFn at hi
  split at hi
  · rename_i fn hfn
    simp only [Bool.and_eq_true, bne_iff_ne] at hi
    obtain ⟨h1, h2⟩ := hi
    have h2' : fn.body.isNone = false := by simp_all
    simp only [resolve, hc, Deferred.ofValue, hf, Sem.run_bind, Sem.run_pure, Result.andThen_ok, invoke, callFunc, run_program, hfn]
    rw [if_neg (by simpa using h1), h2']
    rfl
  · cases hi
theorem rd_iface {g : Gh} {w : World} {v : Go.Value} {t : TypeId} {y : D} (h : Rd g w v (.iface t y)) : ∃ u, v = .iface t u ∧ Rd g w u y := by
  cases h
  exact ⟨_, rfl, by assumption⟩
def methF (P : Program) (t : TypeId) (name : String) : Option FuncId :=
  match P.info? t with
  | some i => match i.methods.find? (·.name == name) with
    | some m => if m.path.toList = [] then match m.func, P.underlying t with
      | some (_, _), none => none
      | some (_, _), some (.pointer _) => none
      | some (f, false), some _ => some f
      | _, _ => none
      else none
    | none => none
  | none => none
theorem method_run {t : TypeId} {name : String} {f : FuncId} (h : methF P t name = some f) (v : Go.Value) (n : Nat) (w : World) : (Go.method (n + 1) t v name).run P w = Result.ok (f, v) w := by
  unfold methF at h
  split at h
  · rename_i i hi
    split at h
    · rename_i m hm
      split at h
      · rename_i hp
        split at h
        · cases h
        · cases h
        · rename_i f' d hnp hf hu
          cases h
          have ht : (typeInfo t).run P w = .ok i w := by
            unfold typeInfo
            simp [Sem.run_bind, run_program, hi]
          unfold Go.method
          simp only [Sem.run_bind, ht, Result.andThen_ok, hm, hp, Go.follow, Sem.run_pure, hf, Go.receiverAt, run_underlying hu]
          cases d with
          | pointer e => exact (hnp e rfl).elim
          | _ => simp [Place.get, Sem.run_pure]
        · cases h
      · cases h
    · cases h
  · cases h
/-- The callee of a call: a function's value, or a method of an interface value that is known. -/
def calleeS (P : Program) (st : St) : Callee → Option (FuncId × List D × List D)
  | .value fo => match valD st fo with
    | some (.fn (.func f) first caps) => some (f, first, caps)
    | _ => none
  | .invoke recv name => match valD st recv with
    | some (.iface t y) => (methF P t name).map fun f => (f, [y], [])
    | _ => none
  | _ => none
theorem calleeS_sound {a : Act} {w : World} {g : Gh} {c : Call} {f : FuncId} {first caps : List D} (hrel : Rel st a w g) (h : calleeS P st c.callee = some (f, first, caps)) (hi : isFn P f = true) :
    ∃ vf vc : Array Go.Value, (∀ (ty : TypeId) (w : World), (do let d ← resolve a.eval c ty; invoke d.target d.args : Sem Next).run P w = .ok (.enter f (vf ++ c.args.map a.eval ++ vc)) w) ∧ vf.size = first.length ∧ vc.size = caps.length ∧
      (∀ (j : Nat) (y : D), first[j]? = some y → ∃ u, vf[j]? = some u ∧ Rd g w u y) ∧ (∀ (j : Nat) (y : D), caps[j]? = some y → ∃ u, vc[j]? = some u ∧ Rd g w u y) := by
  cases hc : c.callee with
  | value fo =>
    rw [hc] at h
    simp only [calleeS] at h
    split at h
    · rename_i f' fi ca hfo
      cases h
      have hrf := valD_d hrel hfo
      obtain ⟨vf, vc, hev, r⟩ : ∃ vf vc : Array Go.Value, a.eval fo = .func (.func f) vf vc ∧ vf.size = first.length ∧ vc.size = caps.length ∧
          (∀ (j : Nat) (y : D), first[j]? = some y → ∃ u, vf[j]? = some u ∧ Rd g w u y) ∧ (∀ (j : Nat) (y : D), caps[j]? = some y → ∃ u, vc[j]? = some u ∧ Rd g w u y) := by
        generalize a.eval fo = v at hrf
        cases hrf with
        | fn hl1 hl2 us1 us2 hc1 hr1 hc2 hr2 => grind
      exact ⟨vf, vc, fun ty w => run_call hc hev hi w, r⟩
    · cases h
  | invoke recv name =>
    rw [hc] at h
    simp only [calleeS] at h
    split at h
    · rename_i t y hx
      simp only [Option.map_eq_some_iff, Prod.mk.injEq] at h
      obtain ⟨f', hm, rfl, rfl, rfl⟩ := h
      obtain ⟨u, hv, hu⟩ := rd_iface (valD_d hrel hx)
      refine ⟨#[u], #[], fun ty w => ?_, rfl, rfl, fun j z hj => ?_, fun j z hj => by simp at hj⟩
      · unfold isFn at hi
        split at hi
        · rename_i fn hfn
          simp only [Bool.and_eq_true, bne_iff_ne] at hi
          obtain ⟨h1, h2⟩ := hi
          have h2' : fn.body.isNone = false := by simp_all
          have e1 : (#[Go.Value.iface t u] ++ c.args.map a.eval).extract 1 (#[Go.Value.iface t u] ++ c.args.map a.eval).size = c.args.map a.eval := by
            apply Array.ext
            · simp
            · intro i h3 h4
              simp
          simp only [resolve, hc, hv, Sem.run_bind, Sem.run_pure, Result.andThen_ok, invoke, callMethod, run_program]
          have e0 : (#[Go.Value.iface t u] ++ c.args.map a.eval)[0]? = some (Go.Value.iface t u) := by rw [Array.getElem?_append_left (by simp)]; rfl
          have hd : P.types.size + Made.depth = (P.types.size + (Made.depth - 1)) + 1 := by unfold Made.depth; omega
          have hmr := method_run hm u (P.types.size + (Made.depth - 1)) w
          rw [← hd] at hmr
          simp only [e0, e1, Sem.run_bind, run_program, Result.andThen_ok]
          rw [hmr]
          simp only [Result.andThen_ok, callFunc, Sem.run_bind, run_program, hfn]
          rw [if_neg (by simpa using h1), h2']
          simp [Sem.run_pure]
        · cases hi
      · match j, hj with
        | 0, hj => simp at hj; subst hj; exact ⟨u, rfl, hu⟩
        | j + 1, hj => simp at hj
    · cases h
  | builtin b => rw [hc] at h; cases h
def callS (P : Program) (st : St) (tr : List Nat) (c : Call) : Option CallS :=
  match calleeS P st c.callee with
  | some (f, first, caps) => match argsS P st tr first.length c.args.toList c.argTypes.toList with
    | some (ss, ls, gs) => if giveOk ls gs && isFn P f then some ⟨f, first.map .d ++ ss ++ caps.map .d, ls, gs⟩ else none
    | none => none
  | none => none
/-- The result of a call as the slot gets it. -/
def resD : SV → Bool
  | .d _ | .own _ _ => true
  | .tup vs => vs.all fun | .d _ | .own _ _ => true | _ => false
  | _ => false
theorem RC.back (h0 : Keep .free g w g' w) (h1 : ∀ k b, g.ow k = .lst o → w.heap[k]? = some b → g'.ow k = .lst o') (hρ : KeepR g g') (h : RC g w o v s) (hp : ∀ v0 n xs, s ≠ .pin v0 n xs := by intros; simp) : RC g' w o' v s := by
  cases s with
  | d x => exact Rd.keep h0 hρ h
  | own n xs =>
    rcases h with h | ⟨k, off, cap, c, T, us, hv, hk, hb, hl, hz, hn, hc, hr⟩
    · exact .inl h
    · exact .inr ⟨k, off, cap, c, T, us, hv, h1 k _ hk hb, hb, hl, hz, hn, hc, fun i x hx j y hy => (hr i x hx j y hy).keep h0 hρ⟩
  | pin v0 n xs => exact absurd rfl (hp v0 n xs)
  | undef => trivial
  | _ => exact h.elim
/-- The shadow heap as the callee sees it: what is lent out of it is plain data. -/
def lendCell (ls : List Loc) (i j : Nat) : SV → SV
  | .own n xs => if ls.contains (.hcell i j) then .d (.list n xs) else .own n xs
  | .pin v n xs => if ls.contains (.hcell i j) then .undef else .pin v n xs
  | s => s
def lendObj (ls : List Loc) (i : Nat) : SObj → SObj
  | .cells cs => .cells (cs.mapIdx (lendCell ls i))
  | .bld T e bs => if ls.contains (.hcell i 1) then .hole else .bld T e bs
  | o => o
theorem RH.lend (h : RH g w H) : RH (g.ren (calleeOw ls gs)) w (H.mapIdx (lendObj ls)) := by
  refine ⟨by simpa [Gh.ren] using h.1, fun i ob hi => ?_⟩
  simp only [List.getElem?_mapIdx, Option.map_eq_some_iff] at hi
  obtain ⟨ob', hi, rfl⟩ := hi
  have hro := h.2 i ob' hi
  cases ob' with
  | cells cs =>
    obtain ⟨kk, cc, T, r1, r2, r3, r4, r5⟩ := hro
    refine ⟨kk, cc, T, r1, by simp [Gh.ren, r2, calleeOw], r3, by simpa using r4, fun j s hj => ?_⟩
    simp only [List.getElem?_mapIdx, Option.map_eq_some_iff] at hj
    obtain ⟨s', hj, rfl⟩ := hj
    obtain ⟨u, u1, u2, u3⟩ := r5 j s' hj
    refine ⟨u, u1, ?_, by grind⟩
    cases s' with
    | d x => exact Rd.keep (Keep.ren rfl) (fun _ _ h => h) u2
    | own n xs =>
      simp only [lendCell]
      split
      · rename_i hl
        exact RList.lend (by simpa using hl) (ROwn.toLent u2)
      · rename_i hl
        refine ROwn.ren rfl ?_ u2
        have hl' : ls.contains (.hcell i j) = false := Bool.eq_false_iff.2 hl
        simp only [calleeOw, hl']
        rfl
    | pin v0 n xs =>
      simp only [lendCell]
      split
      · trivial
      · rename_i hl
        have hl' : ls.contains (.hcell i j) = false := Bool.eq_false_iff.2 hl
        exact ⟨u2.1, ROwn.ren rfl (by simp only [calleeOw, hl']; rfl) u2.2⟩
    | undef => trivial
    | _ => exact u2.elim
  | map es =>
    obtain ⟨kk, ms, clock, r1, r2, r3, r4, r6, r5⟩ := hro
    exact ⟨kk, ms, clock, r1, by simp [Gh.ren, r2, calleeOw], r3, r4, r6, fun j p hj => let ⟨m, h1, h2, h3⟩ := r5 j p hj; ⟨m, h1, h2.keep (Keep.ren rfl) (fun _ _ h => h), h3.keep (Keep.ren rfl) (fun _ _ h => h)⟩⟩
  | hole => trivial
  | iter kb clock =>
    obtain ⟨k, hr, ho, hb⟩ := hro
    exact ⟨k, hr, by simp [Gh.ren, ho, calleeOw], hb⟩
  | mapX kb clock ms es =>
    obtain ⟨hr, ho, hb, hs, hbo, hc⟩ := hro
    exact ⟨hr, by simp [Gh.ren, ho, calleeOw], hb, hs, hbo, fun j p hj => let ⟨m, h1, h2, h3⟩ := hc j p hj; ⟨m, h1, h2.keep (Keep.ren rfl) (fun _ _ h => h), h3.keep (Keep.ren rfl) (fun _ _ h => h)⟩⟩
  | bld T e bs =>
    obtain ⟨k, p, v, hr, ho, hb⟩ := hro
    simp only [lendObj]
    split
    · trivial
    · rename_i hl
      have hl' : ls.contains (.hcell i 1) = false := Bool.eq_false_iff.2 hl
      exact ⟨k, p, v, hr, by simp [Gh.ren, ho, calleeOw], hb.keep (Keep.ren (by simp only [calleeOw, hl']; rfl)) rfl⟩
/-- What was not handed over is as the callee found it. -/
theorem callee_kept {g g' : Gh} {w w' : World} {ls : List Loc} {gs : List (Nat × Nat)} (hf : Fr true (g.ren (calleeOw ls gs)) w g' w') {k : Nat} {b : Obj} (hb : w.heap[k]? = some b)
    (hn : ∀ s, g.ow k = .lst (.slot s) → Loc.slot s ∈ ls ∨ gs.lookup s = none) :
    g'.ow k = calleeOw ls gs (g.ow k) ∧ (∀ l, calleeOw ls gs (g.ow k) = .lst l → ∃ i j, l = .hcell i j) ∧ (calleeOw ls gs (g.ow k) = .free → g.ow k = .free ∨ ls ≠ []) := by
  have key : ∀ o', calleeOw ls gs (g.ow k) = o' → (o' = .free ∨ o' = .out ∨ (∃ i, o' = .obj i) ∨ ∃ i j, o' = .lst (.hcell i j)) → g'.ow k = o' := fun o' h1 h2 => by
    have h1' : (g.ren (calleeOw ls gs)).ow k = o' := h1
    rcases h2 with rfl | rfl | ⟨i, rfl⟩ | ⟨i, j, rfl⟩
    · exact (hf.free k b h1' hb).1
    · exact (hf.out k b h1' hb).1
    · exact (hf.obj rfl i k b h1' hb).1
    · exact (hf.hcell rfl i j k b h1' hb).1
  cases ho : g.ow k with
  | free => rw [ho] at key; exact ⟨key _ rfl (.inl rfl), by simp [calleeOw], by simp⟩
  | out => rw [ho] at key; exact ⟨key _ rfl (.inr (.inl rfl)), by simp [calleeOw], by simp [calleeOw]⟩
  | box t => rw [ho] at key; exact ⟨key _ rfl (.inr (.inl rfl)), by simp [calleeOw], by simp [calleeOw]⟩
  | obj i => rw [ho] at key; exact ⟨key _ rfl (.inr (.inr (.inl ⟨i, rfl⟩))), by simp [calleeOw], by simp [calleeOw]⟩
  | lst l =>
    rw [ho] at key
    by_cases hl : l ∈ ls
    · have e : calleeOw ls gs (.lst l) = .free := by simp [calleeOw, hl]
      grind
    · have out : ∀ (e : calleeOw ls gs (.lst l) = .out), g'.ow k = calleeOw ls gs (.lst l) ∧ (∀ l', calleeOw ls gs (.lst l) = .lst l' → ∃ i j, l' = .hcell i j) ∧ (calleeOw ls gs (.lst l) = .free → Own.lst l = .free ∨ ls ≠ []) := fun e => by
        grind
      cases l with
      | slot s =>
        rcases hn s ho with h | h
        · exact absurd h hl
        · exact out (by simp [calleeOw, hl, h])
      | hcell i j =>
        have e : calleeOw ls gs (.lst (.hcell i j)) = .lst (.hcell i j) := by simp [calleeOw, hl]
        grind
      | comp i j => exact out (by simp [calleeOw, hl])
      | cell i j => exact out (by simp [calleeOw, hl])
      | els => exact out (by simp [calleeOw, hl])
/-- The callee's own tags, as the caller's. -/
theorem after_tag {g g' : Gh} {w w' : World} {ls : List Loc} {gs : List (Nat × Nat)} {t : Nat} (hf : Fr true (g.ren (calleeOw ls gs)) w g' w') {k : Nat} {l : Loc} (hl : (∀ i j, l ≠ .hcell i j)) (hk : g'.ow k = .lst l) :
    afterOw w.heap.size ls gs t g.ow g'.ow k = backOw t (.lst l) := by
  simp only [afterOw]
  split
  · rename_i hlt
    obtain ⟨b, hb⟩ : ∃ b, w.heap[k]? = some b := ⟨w.heap[k], by simp [hlt]⟩
    by_cases hg : ∃ s, g.ow k = .lst (.slot s) ∧ Loc.slot s ∉ ls ∧ gs.lookup s ≠ none
    · grind
    · have := callee_kept hf hb (fun s hs => by
        grind)
      grind
  · rw [hk]
theorem after_free {g g' : Gh} {w w' : World} {gs : List (Nat × Nat)} {t : Nat} (hf : Fr true (g.ren (calleeOw [] gs)) w g' w') : Keep .free g' w' ⟨afterOw w.heap.size [] gs t g.ow g'.ow, g'.ρ⟩ w' := by
  intro k b hk hb
  refine ⟨?_, hb⟩
  simp only [afterOw]
  split
  · rename_i hlt
    obtain ⟨b', hb'⟩ : ∃ b, w.heap[k]? = some b := ⟨w.heap[k], by simp [hlt]⟩
    by_cases hg : ∃ s, g.ow k = .lst (.slot s) ∧ gs.lookup s ≠ none
    · obtain ⟨s, h1, h3⟩ := hg
      rw [h1]
      simp only [List.contains_nil, Bool.false_eq_true, if_false]
      cases hlk : gs.lookup s with
      | none => exact absurd hlk h3
      | some p => simp [hk, backOw]
    · have := callee_kept hf hb' (fun s hs => .inr (by
          grind))
      grind
  · rw [hk]; rfl
theorem St.takes_big : ∀ {st : St} {t : Nat} {x : SV}, st.tmps[t]? = some x → bigK x ≠ 0 → (∀ p ∈ gs, t ≠ p.1) → (st.takes gs).tmps[t]? = some x := by
  induction gs with
  | nil => intro st t x h _ _; exact h
  | cons q gs ih =>
    intro st t x h hb hne
    obtain ⟨s0, p0⟩ := q
    simp only [St.takes]
    refine ih ?_ hb (fun p hp => hne p (List.mem_cons_of_mem _ hp))
    have : t ≠ s0 := hne (s0, p0) (by simp)
    simp [St.set, St.kill, List.getElem?_set_ne (Ne.symm this), h, bigK_mention hb]
theorem St.takes_box {st : St} (h : st.tmps[t]? = some (.box cs)) (hne : ∀ p ∈ gs, t ≠ p.1) : (st.takes gs).tmps[t]? = some (.box cs) := St.takes_big h (by simp [bigK]) hne
theorem uses_slot (ho : uses t s (.lst (.slot s0))) : s0 = t ∨ mention s0 s = true := by
  cases s <;> simp [uses, mention] at ho ⊢
  · exact ho
  · rw [← ho]; simp
  · rw [← ho]; simp
  · exact ho
/-- **A CALL OF A PURE FUNCTION, MET BY ITS CONTRACT.** 'tr': which arguments are handed over for good. -/
theorem OW.callG {o : Oper} {c : Call} (tr : List Nat) {k : CallS} {r : SV} {H' : List SObj} (hw : wantS ops st o = some true) (hop : o.op = .call c) (hc : callS P st tr c = some k) (hp : SC P true k.f k.args (st.H.mapIdx (lendObj k.ls)) r H')
    (hr : resD r = true) (hlend : k.ls.isEmpty = true ∨ flatSV r = true) (h : OW P pu ops rest ((st.takes k.gs).put o.dst r) Q) : OW P pu ops (o :: rest) st Q := by
  intro a w g hrel Qc hq
  unfold wpList
  rw [wantS_sound hrel hw, if_pos rfl]
  refine .inl ?_
  unfold callS at hc
  split at hc
  · rename_i f first caps hcallee
    · split at hc
      · rename_i ss ls gs hargs
        split at hc
        · rename_i hok
          cases hc
          rw [Bool.and_eq_true] at hok
          obtain ⟨hgive, hfn⟩ := hok
          have hgs := giveOk_spec hgive
          -- the callee, and what it captured
          obtain ⟨vf, vc, hev, lf, lc, rf, rc⟩ := calleeS_sound hrel hcallee hfn
          obtain ⟨la, ra⟩ := argsS_sound hrel hgs hargs (fun _ h => h) (fun _ h => h)
          have hexec : (execOp a.eval o).run P w = .ok (.enter f (vf ++ c.args.map a.eval ++ vc)) w := by
            unfold execOp
            rw [hop]
            exact hev _ w
          unfold Oper.wp
          rw [hexec, Oper.upon_enter]
          -- the arguments, read by the callee
          have hRA : RArgs (g.ren (calleeOw ls gs)) w (vf ++ c.args.map a.eval ++ vc) (first.map .d ++ ss ++ caps.map .d) := by
            have hla : (c.args.map a.eval).size = ss.length := by rw [← la]; simp
            have hla' : c.args.size = ss.length := by rw [← la]; simp
            refine ⟨by simp [lf, lc, ← la], fun j s hj => ?_⟩
            have kp : ∀ {v : Value} {d : D}, Rd g w v d → Rd (g.ren (calleeOw ls gs)) w v d := fun hr => hr.keep (Keep.ren rfl) (fun _ _ h => h)
            by_cases j1 : j < first.length
            · rw [List.append_assoc, List.getElem?_append_left (by simpa using j1), List.getElem?_map] at hj
              simp only [Option.map_eq_some_iff] at hj
              obtain ⟨d, hd, rfl⟩ := hj
              obtain ⟨u, e1, e2⟩ := rf j d hd
              exact ⟨u, by grind, kp e2⟩
            · by_cases j2 : j < first.length + ss.length
              · grind
              · rw [List.getElem?_append_right (by simp; omega), List.getElem?_map] at hj
                simp only [Option.map_eq_some_iff, List.length_append, List.length_map] at hj
                obtain ⟨d, hd, rfl⟩ := hj
                obtain ⟨u, e1, e2⟩ := rc _ d hd
                refine ⟨u, ?_, kp e2⟩
                grind
          refine (hp w (g.ren (calleeOw ls gs)) _ hRA (hrel.hp.lend (ls := ls) (gs := gs))).mono fun e w' hh => ?_
          obtain ⟨v, g', rfl, hres, -, hf⟩ := hh
          have hρ : g'.ρ = g.ρ := hf.len rfl
          have hρ' : KeepR g ⟨afterOw w.heap.size ls gs (o.dst.getD 0) g.ow g'.ow, g'.ρ⟩ := fun i k h => by rw [hρ]; exact h
          have hkp := fun o' ho' => after_keep (t := o.dst.getD 0) hf (o := o') ho'
          have hfr : Fr pu g w ⟨afterOw w.heap.size ls gs (o.dst.getD 0) g.ow g'.ow, g'.ρ⟩ w' :=
            ⟨hf.size, hkp _ (by simp), hkp _ (by simp), hρ', fun _ i => hkp _ (by simp), fun _ i j => hkp _ (by simp), fun _ => hρ, hf.os⟩
          refine h (a.put o.dst v) w' _ ?_ Qc fun st2 a2 w2 g2 q2 r2 f2 => hq st2 a2 w2 g2 q2 r2 (hfr.trans f2)
          refine Rel.step hrel (by rw [put_size, St.put_len, St.takes_len]; exact hrel.len) (by rw [put_defers]; exact hrel.def0) hρ' (fun t s hs => ?_) ?_
          · by_cases hd : o.dst = some t
            · -- the slot of the result
              rw [hd] at hs ⊢
              obtain ⟨rfl, hlt⟩ := St.put_get_same hs
              rw [St.takes_len] at hlt
              refine .inr (.inl ?_)
              rw [valOf_put_same (by rw [hrel.len]; exact hlt)]
              simp only [Option.getD_some]
              have tag : ∀ l, (∀ i j, l ≠ .hcell i j) → ∀ k b, g'.ow k = .lst l → w'.heap[k]? = some b → (⟨afterOw w.heap.size ls gs t g.ow g'.ow, g'.ρ⟩ : Gh).ow k = backOw t (.lst l) := fun l hl k b hk _ => after_tag hf hl hk
              rcases hlend with hl | hflat
              · have hls : ls = [] := by simpa using hl
                subst hls
                have h0 := after_free (t := t) hf
                cases hrr : s with
                | d x => rw [hrr] at hres; exact Rd.keep h0 (fun _ _ h => h) (hres : Rd g' w' v x)
                | own n xs =>
                  rw [hrr] at hres
                  exact (RC.back h0 (tag (.slot 0) (by simp)) (fun _ _ h => h) (hres : RC g' w' (.slot 0) v (.own n xs)) : RC _ _ (.slot t) v (.own n xs))
                | tup vs =>
                  rw [hrr] at hres hr
                  obtain ⟨us, e1, e2, e3⟩ := hres
                  refine ⟨us, e1, e2, fun j s' hj => ?_⟩
                  obtain ⟨u, f1, f2⟩ := e3 j s' hj
                  exact ⟨u, f1, RC.back h0 (tag (.comp 0 j) (by simp)) (fun _ _ h => h) f2 (by rintro v0 n xs rfl; exact f2)⟩
                | _ => rw [hrr] at hr; simp [resD] at hr
              · cases hrr : s with
                | d x => rw [hrr] at hres hflat; show Rd _ w' v x; refine Rd.flat (g := g') (w := w') ?_ hres hflat; exact fun _ _ h => h
                | tup vs =>
                  rw [hrr] at hres hflat
                  obtain ⟨us, e1, e2, e3⟩ := hres
                  refine ⟨us, e1, e2, fun j s' hj => ?_⟩
                  obtain ⟨u, f1, f2⟩ := e3 j s' hj
                  simp only [flatSV, List.all_eq_true] at hflat
                  have := hflat s' (List.mem_iff_getElem?.2 ⟨j, hj⟩)
                  cases s' with
                  | d x => refine ⟨u, f1, ?_⟩; show Rd _ w' u x; refine Rd.flat (g := g') (w := w') ?_ f2 this; exact fun _ _ h => h
                  | _ => simp at this
                | _ => rw [hrr] at hflat; simp [flatSV] at hflat
            · -- another slot
              have hput : s = .undef ∨ ((st.takes gs).tmps[t]? = some s ∧ ∀ t0 old, o.dst = some t0 → (st.takes gs).tmps[t0]? = some old → heavy old = true → mention t0 s = false) := by
                cases hdst : o.dst with
                | none => rw [hdst] at hs; exact .inr ⟨hs, by simp⟩
                | some t0 =>
                  rw [hdst] at hs hd
                  rcases St.put_get (fun e => hd (by rw [e])) hs with h | ⟨h1, h2⟩
                  · exact .inl h
                  grind
              rcases hput with rfl | ⟨hs1, hs2⟩
              · exact .inl rfl
              · rcases St.takes_get hs1 with rfl | ⟨hs3, hs4⟩
                · exact .inl rfl
                · refine .inr (.inr ⟨hs3, valOf_put hd, fun o' ho' => hkp o' fun s0 e => .inr (lookup_none fun p hp => ?_), fun s0 e => ?_⟩)
                  · subst e
                    rcases uses_slot ho' with rfl | hm
                    · exact (hs4 p hp).1
                    grind
                  · obtain ⟨x0, hx0, hb0⟩ := dep_big (hrel.tmp t _ hs3) e
                    have hne : ∀ p ∈ gs, s0 ≠ p.1 := fun p hp e2 => by
                      have := (hs4 p hp).2
                      rw [← e2, dep_mention e] at this
                      cases this
                    have hbox : ∀ x, st.tmps[s0]? = some x → bigK x ≠ 0 → (st.takes gs).tmps[s0]? = some x := fun x h hb => St.takes_big h hb hne
                    have hd0 : o.dst ≠ some s0 := fun e2 => by
                      have := hs2 s0 _ e2 (hbox x0 hx0 hb0) (bigK_heavy hb0)
                      rw [dep_mention e] at this
                      cases this
                    exact ⟨valOf_put hd0, fun x hx hb => ⟨x, St.put_big (hbox x hx hb) hb hd0, rfl⟩⟩
          · rw [St.put_H, St.takes_H]
            refine hrel.hp.keep (fun o' ho' => hkp o' fun s e => ?_) hρ' (by rw [hρ])
            subst e
            exact ho'.elim
        · cases hc
      · cases hc
  · cases hc
theorem OW.call (tr : List Nat) (hw : wantS ops st o = some true) (hop : o.op = .call c) (hc : callS P st tr c = some k) (hp : PC P k.f k.args r)
    (hr : resD r = true) (hlend : k.ls.isEmpty = true ∨ flatSV r = true) (h : OW P pu ops rest ((st.takes k.gs).put o.dst r) Q) : OW P pu ops (o :: rest) st Q := OW.callG tr hw hop hc (hp _) hr hlend h
end
end Go.Sh
namespace Go.Sh
section
variable {P : Program} {pu : Bool} {ops : Array Oper} {rest : List Oper} {st : St} {Q : St → Prop}
theorem OpS.value (h : ∀ a w g, Rel st a w g → ∃ v w' g', (execOp a.eval o).run P w = .ok (.value v) w' ∧ Rel st' (a.put o.dst v) w' g' ∧ Fr pu g w g' w') : OpS P pu st o st' :=
  fun a w g hr => let ⟨v, w', g', e, r, f⟩ := h a w g hr; ⟨_, w', g', _, e, fun _ _ => rfl, r, f⟩
theorem OpS.skip (h : ∀ a w g, Rel st a w g → ∃ w' g', (execOp a.eval o).run P w = .ok .skip w' ∧ Rel st' (a.put o.dst undef) w' g' ∧ Fr pu g w g' w') : OpS P pu st o st' :=
  fun a w g hr => let ⟨w', g', e, r, f⟩ := h a w g hr; ⟨_, w', g', _, e, fun _ _ => rfl, r, f⟩
theorem St.put_box (h : st.tmps[s1]? = some (.box cs)) (hd : d ≠ some s1) : (st.put d s0).tmps[s1]? = some (.box cs) := St.put_big h (by simp [bigK]) hd
/-- Another slot behind a write of 'd' out of a state 'st1' that came of 'st' by emptying slots: what there is to say of it. -/
theorem other_slot {st1 : St} {a : Act} {w : World} {g : Gh} (h : Rel st a w g) {d : Option Tmp} {s0 s : SV} (v : Value) {t : Nat} (h1 : ∀ (t : Nat) (s : SV), st1.tmps[t]? = some s → s = .undef ∨ st.tmps[t]? = some s)
    (hbox : ∀ (t : Nat) (s x : SV), st1.tmps[t]? = some s → ∀ s1, dep s = some s1 → st.tmps[s1]? = some x → bigK x ≠ 0 → ∃ x', st1.tmps[s1]? = some x' ∧ bigK x' = bigK x) (hd : d ≠ some t) (hs : (st1.put d s0).tmps[t]? = some s) :
    s = .undef ∨ (st1.tmps[t]? = some s ∧ st.tmps[t]? = some s ∧ valOf (a.put d v) t = valOf a t ∧ (∀ t0 old, d = some t0 → st1.tmps[t0]? = some old → heavy old = true → mention t0 s = false) ∧
      ∀ s', dep s = some s' → valOf (a.put d v) s' = valOf a s' ∧ ∀ x, st.tmps[s']? = some x → bigK x ≠ 0 → ∃ x', (st1.put d s0).tmps[s']? = some x' ∧ bigK x' = bigK x) := by
  have hput : s = .undef ∨ (st1.tmps[t]? = some s ∧ ∀ t0 old, d = some t0 → st1.tmps[t0]? = some old → heavy old = true → mention t0 s = false) := by
    cases d with
    | none => exact .inr ⟨hs, by simp⟩
    | some t0 =>
      rcases St.put_get (fun e => hd (by rw [e])) hs with h | ⟨h1, h2⟩
      · exact .inl h
      grind
  rcases hput with hu | ⟨h2, h3⟩
  · exact .inl hu
  · rcases h1 t s h2 with hu | h4
    · exact .inl hu
    · refine .inr ⟨h2, h4, valOf_put hd, h3, fun s1 e => ?_⟩
      obtain ⟨x0, hx0, hb0⟩ := dep_big (h.tmp t _ h4) e
      obtain ⟨x1, hx1, hb1⟩ := hbox t _ x0 h2 s1 e hx0 hb0
      have hd0 : d ≠ some s1 := fun e2 => by
        have := h3 s1 _ e2 hx1 (bigK_heavy (by omega))
        rw [dep_mention e] at this
        cases this
      refine ⟨valOf_put hd0, fun x hx hb => ?_⟩
      obtain ⟨x', hx', hb'⟩ := hbox t _ x h2 s1 e hx hb
      exact ⟨x', St.put_big hx' (by omega) hd0, hb'⟩
/-- A slot is emptied. -/
def St.take (st : St) (s : Nat) : St := (st.kill s).set s .undef
theorem St.take_eq (st : St) (s p : Nat) : st.take s = st.takes [(s, p)] := rfl
@[simp] theorem St.take_len (st : St) (s : Nat) : (st.take s).tmps.length = st.tmps.length := by simp [St.take]
@[simp] theorem St.take_H (st : St) (s : Nat) : (st.take s).H = st.H := rfl
theorem St.take_get (h : (st.take s0).tmps[t]? = some s) : s = .undef ∨ (st.tmps[t]? = some s ∧ t ≠ s0 ∧ mention s0 s = false) := by
  rw [St.take_eq st s0 0] at h
  rcases St.takes_get h with h | ⟨h1, h2⟩
  · exact .inl h
  simp_all
theorem St.take_box {s0 t : Nat} {s x : SV} (h : (st.take s0).tmps[t]? = some s) (s1 : Nat) (e : dep s = some s1) (hx : st.tmps[s1]? = some x) (hb : bigK x ≠ 0) : ∃ x', (st.take s0).tmps[s1]? = some x' ∧ bigK x' = bigK x := by
  rcases St.take_get h with h | ⟨-, -, h3⟩
  · subst h; cases e
  · have : s1 ≠ s0 := fun e2 => by rw [← e2, dep_mention e] at h3; cases h3
    exact ⟨x, by rw [St.take_eq st s0 0]; exact St.takes_big hx hb (by simpa using this), rfl⟩
def rnL (l l' : Loc) (o : Own) : Own := if o = .lst l then .lst l' else o
theorem rnL_same (l l' : Loc) : rnL l l' (.lst l) = .lst l' := by simp [rnL]
theorem rnL_other (h : o ≠ .lst l) : rnL l l' o = o := by simp [rnL, h]
theorem Fr.ren (hl : ∀ i j, l ≠ .hcell i j) : Fr pu g w (g.ren (rnL l l')) w :=
  ⟨Nat.le_refl _, Keep.ren (rnL_other (by simp)), Keep.ren (rnL_other (by simp)), fun _ _ h => h, fun _ i => Keep.ren (rnL_other (by simp)), fun _ i j => Keep.ren (rnL_other (fun e => hl i j (by cases e; rfl))), fun _ => rfl, ⟨rfl, rfl⟩⟩
theorem RH.ren (hl : ∀ i j, l ≠ .hcell i j) (h : RH g w H) : RH (g.ren (rnL l l')) w H := by
  refine RH.keep (g := g) (w := w) (fun o ho => Keep.ren (rnL_other fun e => ?_)) (fun _ _ h => h) rfl h
  subst e
  cases l <;> simp only [usesH] at ho
  exact hl _ _ rfl
/-- A list goes from a slot to another one. -/
theorem OpS.move {o : Oper} {s : Nat} {n : Nat} {xs : List D} (hop : o.op = .move (.tmp s) ∨ o.op = .assign (.tmp s)) (hs : st.tmps[s]? = some (.own n xs)) : OpS P pu st o ((st.take s).put o.dst (.own n xs)) := by
  refine OpS.value fun a w g hr => ?_
  have hexec : (execOp a.eval o).run P w = .ok (.value (valOf a s)) w := by rcases hop with h | h <;> (unfold execOp; rw [h]; rfl)
  cases hd : o.dst with
  | none =>
    refine ⟨_, w, g, hexec, ?_, Fr.refl _ _ _⟩
    refine Rel.step hr (by simp [hr.len, put_size]) (by rw [put_defers]; exact hr.def0) (fun _ _ h => h) (fun t s' hs' => ?_) hr.hp
    rcases St.take_get hs' with h | ⟨h1, h2, h3⟩
    · exact .inl h
    · refine .inr (.inr ⟨h1, rfl, fun _ _ => Keep.refl _ _ _, fun s1 e => ⟨rfl, fun x hx hb => St.take_box hs' s1 e hx hb⟩⟩)
  | some d =>
    refine ⟨_, w, g.ren (rnL (.slot s) (.slot d)), hexec, ?_, Fr.ren (by simp)⟩
    refine Rel.step hr (by rw [put_size, St.put_len, St.take_len]; exact hr.len) (by rw [put_defers]; exact hr.def0) (fun _ _ h => h) (fun t s' hs' => ?_) (by rw [St.put_H, St.take_H]; exact hr.hp.ren (by simp))
    by_cases ht : t = d
    · subst ht
      obtain ⟨rfl, hlt⟩ := St.put_get_same hs'
      refine .inr (.inl ?_)
      rw [valOf_put_same (by rw [hr.len]; simpa using hlt)]
      exact ROwn.ren (rnL_other (by simp)) (rnL_same _ _) (hr.tmp s _ hs)
    · rcases other_slot hr (st1 := st.take s) (valOf a s) (fun t s h => (St.take_get h).imp id fun h => h.1) (fun t s x h s1 e hx hb => St.take_box h s1 e hx hb) (by simpa using Ne.symm ht) hs' with h | ⟨h1, h2, h3, h4, h5⟩
      · exact .inl h
      · rcases St.take_get h1 with h | ⟨-, h6, h7⟩
        · exact .inl h
        · exact .inr (.inr ⟨h2, h3, fun o' ho' => Keep.ren (rnL_other (uses_mention h6 h7 ho').2.1), h5⟩)
/-- A result that is a list of its own, out of a call's results. -/
theorem OpS.extract (hop : o.op = .extract (.tmp s) j) (hs : st.tmps[s]? = some (.tup vs)) (hj : vs[j]? = some (.own n xs)) (hds : o.dst ≠ some s) :
    OpS P pu st o (((st.kill s).set s (.tup (vs.set j .undef))).put o.dst (.own n xs)) := by
  refine OpS.value fun a w g hr => ?_
  obtain ⟨us, e1, e2, e3⟩ := hr.tmp s _ hs
  obtain ⟨u, f1, f2⟩ := e3 j _ hj
  have hexec : (execOp a.eval o).run P w = .ok (.value u) w := by
    unfold execOp; rw [hop]
    have : a.eval (.tmp s) = .tuple us := e1
    simp [Instr.extract, this, f1]
  have hslt := get_lt hs
  have tupS : ∀ g' : Gh, KeepR g g' → Keep .free g w g' w → (∀ i, i ≠ j → Keep (.lst (.comp s i)) g w g' w) → ∀ tm val, RS g' w tm val s (valOf a s) (.tup (vs.set j .undef)) := fun g' h0 h1 h2 tm val => by
    refine ⟨us, e1, by simpa using e2, fun i s' hi => ?_⟩
    by_cases hij : i = j
    · subst hij
      rw [List.getElem?_set_self (get_lt hj)] at hi
      cases hi
      exact ⟨u, f1, trivial⟩
    · rw [List.getElem?_set_ne (Ne.symm hij)] at hi
      obtain ⟨u', g1, g2⟩ := e3 i s' hi
      exact ⟨u', g1, g2.keep h1 (h2 i hij) h0⟩
  have get1 : ∀ (t : Nat) (s' : SV), ((st.kill s).set s (.tup (vs.set j .undef))).tmps[t]? = some s' → (t = s ∧ s' = .tup (vs.set j .undef)) ∨ s' = .undef ∨ (t ≠ s ∧ st.tmps[t]? = some s' ∧ mention s s' = false) := fun t s' h => by
    by_cases ht : t = s
    · subst ht
      rw [St.set, List.getElem?_set_self (by simpa using hslt)] at h
      grind
    · simp only [St.set, List.getElem?_set_ne (Ne.symm ht)] at h
      rcases St.kill_get h with h | ⟨h1, h2⟩
      · exact .inr (.inl h)
      grind
  have box1 : ∀ (s1 : Nat) (x : SV), st.tmps[s1]? = some x → bigK x ≠ 0 → ((st.kill s).set s (.tup (vs.set j .undef))).tmps[s1]? = some x := fun s1 x h hb => by
    have : s1 ≠ s := fun e => by rw [e, hs] at h; cases h; simp [bigK] at hb
    simp [St.set, St.kill, List.getElem?_set_ne (Ne.symm this), h, bigK_mention hb]
  cases hd : o.dst with
  | none =>
    refine ⟨_, w, g, hexec, ?_, Fr.refl _ _ _⟩
    refine Rel.step hr (by rw [put_size, St.put_len, St.set_len, St.kill_len]; exact hr.len) (by rw [put_defers]; exact hr.def0) (fun _ _ h => h) (fun t s' hs' => ?_) hr.hp
    rcases get1 t s' hs' with ⟨rfl, rfl⟩ | h | ⟨h1, h2, h3⟩
    · exact .inr (.inl (tupS g (fun _ _ h => h) (Keep.refl _ _ _) (fun _ _ => Keep.refl _ _ _) _ _))
    · exact .inl h
    · exact .inr (.inr ⟨h2, rfl, fun _ _ => Keep.refl _ _ _, fun s1 e => ⟨rfl, fun x hx hb => ⟨x, box1 s1 x hx hb, rfl⟩⟩⟩)
  | some d =>
    rw [hd] at hds
    have hds' : d ≠ s := fun e => hds (by rw [e])
    refine ⟨_, w, g.ren (rnL (.comp s j) (.slot d)), hexec, ?_, Fr.ren (by simp)⟩
    refine Rel.step hr (by rw [put_size, St.put_len, St.set_len, St.kill_len]; exact hr.len) (by rw [put_defers]; exact hr.def0) (fun _ _ h => h) (fun t s' hs' => ?_) (by rw [St.put_H, St.set_H]; exact hr.hp.ren (by simp))
    by_cases ht : t = d
    · subst ht
      obtain ⟨rfl, hlt⟩ := St.put_get_same hs'
      refine .inr (.inl ?_)
      rw [valOf_put_same (by rw [hr.len]; simpa using hlt)]
      exact ROwn.ren (rnL_other (by simp)) (rnL_same _ _) f2
    · by_cases hts : t = s
      · subst hts
        rcases St.put_get ht hs' with h | ⟨h1, h2⟩
        · exact .inl h
        · rcases get1 t s' h1 with ⟨-, rfl⟩ | h | ⟨h, -⟩
          · refine .inr (.inl ?_)
            rw [valOf_put (by simpa using hds')]
            exact tupS (g.ren (rnL (.comp t j) (.slot d))) (fun _ _ h => h) (Keep.ren (rnL_other (by simp))) (fun i hi => Keep.ren (rnL_other (by simpa using hi))) _ _
          · exact .inl h
          · exact absurd rfl h
      · have hst : ∀ t2, t2 ≠ s → ∀ s2, ((st.kill s).set s (.tup (vs.set j .undef))).tmps[t2]? = some s2 → s2 = .undef ∨ (st.tmps[t2]? = some s2 ∧ mention s s2 = false) := fun t2 h2 s2 h => by
          grind
        rcases St.put_get ht hs' with h | ⟨h1, h2⟩
        · exact .inl h
        · rcases hst t hts s' h1 with h | ⟨h3, h4⟩
          · exact .inl h
          · refine .inr (.inr ⟨h3, valOf_put (by simpa using Ne.symm ht), fun o' ho' => Keep.ren (rnL_other ((uses_mention hts h4 ho').2.2.2 j)), fun s1 e => ?_⟩)
            obtain ⟨x0, hx0, hb0⟩ := dep_big (hr.tmp t _ h3) e
            have hb := box1 s1 x0 hx0 hb0
            have hd0 : s1 ≠ d := fun e2 => by
              subst e2
              have := h2 _ hb (bigK_heavy hb0)
              rw [dep_mention e] at this
              cases this
            exact ⟨valOf_put (by simpa using Ne.symm hd0), fun x hx hb => ⟨x, St.put_big (box1 s1 x hx hb) hb (by simpa using Ne.symm hd0), rfl⟩⟩
/-! ## A variable of its own -/
theorem Keep.alloc : Keep o' g w (g.upd w.heap.size t) (w.alloc o) := by
  intro k b hk hb
  have hlt := arr_lt hb
  refine ⟨by rw [Gh.upd_other _ _ (by omega)]; exact hk, ?_⟩
  simp only [World.alloc]
  grind
theorem Fr.alloc : Fr pu g w (g.upd w.heap.size t) (w.alloc o) :=
  ⟨by simp, Keep.alloc, Keep.alloc, fun _ _ h => h, fun _ _ => Keep.alloc, fun _ _ _ => Keep.alloc, fun _ => rfl, ⟨rfl, rfl⟩⟩
theorem heap_alloc (w : World) (o : Obj) : (w.alloc o).heap[w.heap.size]? = some o := by
  show (w.heap.push o)[w.heap.size]? = _
  simp
/-- A new variable in a slot. -/
theorem Rel.newBox {a : Act} {w : World} {g : Gh} (hr : Rel st a w g) {d : Nat} {c : Array Value} {T : TypeId} {cs : List SV} (hl : c.size = cs.length)
    (hc : ∀ (j : Nat) (s : SV), cs[j]? = some s → ∃ u, c[j]? = some u ∧ RC g w (.cell d j) u s ∧ u.oneCell' = true) (hown : ∀ (j : Nat) n xs, cs[j]? = some (.own n xs) → xs = [] ∧ ∀ u, c[j]? = some u → ∃ x, u = .slice x 0 0) :
    Rel (st.put (some d) (.box cs)) (a.put (some d) (.pointer (some ⟨w.heap.size, 0, none⟩))) (w.alloc (.cells c T)) (g.upd w.heap.size (.box d)) := by
  refine Rel.step hr (by rw [put_size, St.put_len]; exact hr.len) (by rw [put_defers]; exact hr.def0) (fun _ _ h => h) (fun t s' hs' => ?_) (by rw [St.put_H]; exact hr.hp.keep (fun _ _ => Keep.alloc) (fun _ _ h => h) rfl)
  by_cases ht : t = d
  · subst ht
    obtain ⟨rfl, hlt⟩ := St.put_get_same hs'
    refine .inr (.inl ?_)
    rw [valOf_put_same (by rw [hr.len]; exact hlt)]
    refine ⟨w.heap.size, c, T, rfl, by simp, heap_alloc _ _, hl, fun j s hj => ?_⟩
    obtain ⟨u, e1, e2, e3⟩ := hc j s hj
    refine ⟨u, e1, ?_, e3⟩
    cases s with
    | d x => exact Rd.keep Keep.alloc (fun _ _ h => h) e2
    | own n xs =>
      obtain ⟨rfl, h2⟩ := hown j n xs hj
      exact .inl ⟨rfl, h2 u e1⟩
    | undef => trivial
    | _ => exact e2.elim
  · rcases other_slot hr (st1 := st) (.pointer (some ⟨w.heap.size, 0, none⟩)) (fun t s h => .inr h) (fun t s x h s1 e hx hb => ⟨x, hx, rfl⟩) (by simpa using Ne.symm ht) hs' with h | ⟨h1, h2, h3, h4, h5⟩
    · exact .inl h
    · exact .inr (.inr ⟨h2, h3, fun o' ho' => Keep.alloc, h5⟩)
/-- The cells of a new variable: its type's zero. -/
def zeroCells (P : Program) (T : TypeId) : Option (List D) := (zeroD P T).map D.cells
theorem OpS.alloc (hop : o.op = .alloc T) (hd : o.dst = some d) (hz : zeroCells P T = some cs) : OpS P pu st o (st.put (some d) (.box (cs.map .d))) := by
  refine OpS.value fun a w g hr => ?_
  simp only [zeroCells, Option.map_eq_some_iff] at hz
  obtain ⟨z, h1, rfl⟩ := hz
  obtain ⟨v, e1, e2⟩ := zeroD_sound (P := P) (g := g) (w := w) h1
  obtain ⟨c1, c2⟩ := e1.cells
  rw [hd]
  refine ⟨.pointer (some ⟨w.heap.size, 0, none⟩), w.alloc (.cells v.cells T), _, ?_, hr.newBox (T := T) (by simpa using c1) (fun j s hj => ?_) (fun j n xs hj => ?_), Fr.alloc⟩
  · unfold execOp; rw [hop]
    simp only [Instr.alloc, Sem.run_bind, e2, Result.andThen_ok, newVar, newRow, run_newObj, Sem.run_pure]
    rfl
  · simp only [List.getElem?_map, Option.map_eq_some_iff] at hj
    obtain ⟨x, hx, rfl⟩ := hj
    exact c2 j x hx
  · simp at hj
/-- A variable with a value from the start. -/
theorem OpS.box (hop : o.op = .box T x) (hd : o.dst = some d) (hy : valD st x = some y) : OpS P pu st o (st.put (some d) (.box (y.cells.map .d))) := by
  refine OpS.value fun a w g hr => ?_
  have e2 := valD_d hr hy
  obtain ⟨c1, c2⟩ := e2.cells
  rw [hd]
  refine ⟨.pointer (some ⟨w.heap.size, 0, none⟩), w.alloc (.cells (a.eval x).cells T), _, ?_, hr.newBox (T := T) (by simpa using c1) (fun j s hj => ?_) (fun j n xs hj => ?_), Fr.alloc⟩
  · unfold execOp; rw [hop]
    simp only [Instr.box, Sem.run_bind, newVar, newRow, run_newObj, Result.andThen_ok, Sem.run_pure]
    rfl
  · simp only [List.getElem?_map, Option.map_eq_some_iff] at hj
    obtain ⟨x, hx, rfl⟩ := hj
    exact c2 j x hx
  · simp at hj
/-! ## A variable is written -/
/-- The cells of a value that is stored. -/
def setCells (cs : List SV) (off : Nat) (ys : List D) : List SV := cs.take off ++ ys.map .d ++ cs.drop (off + ys.length)
theorem oneCell_of_rd (h : Rd g w v x) (hx : ∀ cs, x ≠ .agg cs) : v.oneCell' = true := by
  cases h <;> first | rfl | assumption | exact absurd rfl (hx _)
theorem run_storeCells' (k off : Nat) (T : TypeId) : ∀ (vs : List Value) (i : Nat) (c : Array Value) (w : World), w.heap[k]? = some (.cells c T (0, 0)) → off + i + vs.length ≤ c.size → (∀ v ∈ vs, v.oneCell' = true) →
    ∃ w', (storeCells ⟨k, off, none⟩ vs i).run P w = .ok () w' ∧ w'.heap.size = w.heap.size ∧ (∀ k', k' ≠ k → w'.heap[k']? = w.heap[k']?) ∧ ∃ c' : Array Value, w'.heap[k]? = some (.cells c' T (0, 0)) ∧ c'.size = c.size ∧
      ∀ j, c'[j]? = if off + i ≤ j ∧ j < off + i + vs.length then vs[j - (off + i)]? else c[j]?
  | [], i, c, w, hb, hs, _ => ⟨w, rfl, rfl, fun _ _ => rfl, c, hb, rfl, fun j => by rw [if_neg (by simp)]⟩
  | v :: vs, i, c, w, hb, hs, hv => by
    simp only [List.length_cons] at hs
    have hcell : w.cell? ⟨k, off + i, none⟩ = some (c[off + i]'(by omega)) := by rw [cell_blk hb]; simp
    have hfz : w.frozen? ⟨k, off + i, none⟩ = false := by simp [World.frozen?, hb]
    have hb1 : (w.setCell ⟨k, off + i, none⟩ v).heap[k]? = some (.cells (c.setIfInBounds (off + i) v) T (0, 0)) := by
      simp [World.setCell, Array.getElem?_modify, hb]
    obtain ⟨w', e1, e2, e3, c', e4, e5, e6⟩ := run_storeCells' k off T vs (i + 1) (c.setIfInBounds (off + i) v) (w.setCell ⟨k, off + i, none⟩ v) hb1 (by simp; omega) (fun u hu => hv u (by simp [hu]))
    refine ⟨w', ?_, by rw [e2]; simp, fun k' hk' => ?_, c', e4, by simpa using e5, fun j => ?_⟩
    · simp only [storeCells, Sem.run_bind, Addr.add_lit]
      rw [run_store P w _ v .plain (hv v (by simp))]
      simp_all
    · rw [e3 k' hk']
      simp [World.setCell, Array.getElem?_modify, Ne.symm hk']
    grind
theorem storeCells_os (k off : Nat) (T : TypeId) : ∀ (vs : List Value) (i : Nat) (c : Array Value) (w w' : World), w.heap[k]? = some (.cells c T (0, 0)) → off + i + vs.length ≤ c.size → (∀ v ∈ vs, v.oneCell' = true) →
    (storeCells ⟨k, off, none⟩ vs i).run P w = .ok () w' → SameOs w w'
  | [], i, c, w, w', hb, hs, _, h => by
    unfold storeCells at h
    rw [Sem.run_pure] at h
    cases h; exact SameOs.refl _
  | v :: vs, i, c, w, w', hb, hs, hv, h => by
    simp only [List.length_cons] at hs
    have hcell : w.cell? ⟨k, off + i, none⟩ = some (c[off + i]'(by omega)) := by rw [cell_blk hb]; simp
    have hfz : w.frozen? ⟨k, off + i, none⟩ = false := by simp [World.frozen?, hb]
    have hb1 : (w.setCell ⟨k, off + i, none⟩ v).heap[k]? = some (.cells (c.setIfInBounds (off + i) v) T (0, 0)) := by
      simp [World.setCell, Array.getElem?_modify, hb]
    simp only [storeCells, Sem.run_bind, Addr.add_lit] at h
    rw [run_store P w _ v .plain (hv v (by simp))] at h
    simp only [hcell, hfz, Result.andThen_ok, Bool.false_eq_true, if_false] at h
    exact SameOs.trans (w2 := w.setCell ⟨k, off + i, none⟩ v) ⟨rfl, rfl⟩ (storeCells_os k off T vs (i + 1) (c.setIfInBounds (off + i) v) (w.setCell ⟨k, off + i, none⟩ v) w' hb1 (by simp; omega) (fun u hu => hv u (by simp [hu])) h)
end
end Go.Sh
namespace Go.Sh
section
variable {P : Program} {pu : Bool} {st : St}
/-- A cell that may stand alone. -/
def oneD : D → Bool
  | .agg _ => false
  | _ => true
/-- A value is stored into a box. -/
def storeBox (P : Program) (st : St) (T : TypeId) (x y : Operand) : Option St :=
  match asLoc st x, valD st y with
  | some (s, off), some d => match boxAt st s with
    | some cs => if (P.underlying T).isNone = false ∧ d.cells.length = P.cellsOf T ∧ off + P.cellsOf T ≤ cs.length then some (st.set s (.box (setCells cs off d.cells))) else none
    | none => none
  | _, _ => none
theorem setCells_get (hb : off + ys.length ≤ cs.length) (h : (setCells cs off ys)[j]? = some s) :
    (off ≤ j ∧ j < off + ys.length ∧ ∃ y, ys[j - off]? = some y ∧ s = .d y) ∨ ((j < off ∨ off + ys.length ≤ j) ∧ cs[j]? = some s) := by
  unfold setCells at h
  by_cases c1 : j < off
  · grind
  · by_cases c2 : j < off + ys.length
    · grind
    · rw [List.getElem?_append_right (by simp; omega), List.getElem?_drop] at h
      grind
theorem setCells_len (hb : off + ys.length ≤ cs.length) : (setCells cs off ys).length = cs.length := by
  simp [setCells]; omega
/-- One block of an owner's has changed. -/
theorem Keep.block (hk : g.ow k = tag) (ho : o ≠ tag) (hw : ∀ k', k' ≠ k → w'.heap[k']? = w.heap[k']?) : Keep o g w g w' := by
  intro k' b h1 h2
  grind
theorem OpS.store (hop : o.op = .store T x y) (hd : o.dst = none) (hv : storeBox P st T x y = some st') : OpS P pu st o st' := by
  refine OpS.skip fun a w g hr => ?_
  unfold storeBox at hv
  split at hv
  · rename_i s off d hx hy
    split at hv
    · rename_i cs hb
      split at hv
      · rename_i hc
        obtain ⟨hu, hsz, hfit⟩ := hc
        cases hv
        have hs : st.tmps[s]? = some (.box cs) := by
          unfold boxAt at hb
          grind
        obtain ⟨cs', k, e1, e2, e3⟩ := asLoc_sound hr hx
        obtain ⟨k', c, T0, f1, f2, f3, f4, f5⟩ := hr.tmp s _ hs
        rw [e2] at f1
        simp only [Value.pointer.injEq, Option.some.injEq, Addr.mk.injEq, and_true] at f1
        subst f1
        have hrd := valD_d hr hy
        obtain ⟨c1, c2⟩ := hrd.cells
        have hone : ∀ v ∈ (a.eval y).cells.toList, v.oneCell' = true := fun v hv => by
          obtain ⟨j, hj⟩ := List.mem_iff_getElem?.1 hv
          have hlt : j < d.cells.length := by grind
          obtain ⟨u, u1, u2, u3⟩ := c2 j d.cells[j] (by simp [hlt])
          grind
        obtain ⟨w', r1, r2, r3, c', r4, r5, r6⟩ := run_storeCells' (P := P) k off T0 (a.eval y).cells.toList 0 c w f3 (by simp [c1]; omega) hone
        refine ⟨w', g, ?_, ?_, ?_⟩
        · unfold execOp; rw [hop]
          simp only [Instr.storeAt, Sem.run_bind, e3, Instr.sureAddr, Sem.run_pure, Result.andThen_ok, storeVar, run_sizeOf' hu]
          simp_all
        · rw [hd]
          have hlt := get_lt hs
          refine Rel.step hr (by simp [hr.len, put_size]) hr.def0 (fun _ _ h => h) (fun t s' hs' => ?_) ?_
          · by_cases ht : t = s
            · subst ht
              rw [St.set, List.getElem?_set_self hlt] at hs'
              cases hs'
              refine .inr (.inl ⟨k, c', T0, e2, f2, r4, by rw [r5, f4, setCells_len (by omega)], fun j sv hj => ?_⟩)
              have hkp : ∀ o', o' ≠ .box t → Keep o' g w g w' := fun o' ho => Keep.block f2 ho r3
              rcases setCells_get (by omega) hj with ⟨h1, h2, y', h3, rfl⟩ | ⟨h1, h2⟩
              · obtain ⟨u, u1, u2, u3⟩ := c2 _ _ h3
                refine ⟨u, ?_, Rd.keep (hkp _ (by simp)) (fun _ _ h => h) u2, u3⟩
                grind
              · obtain ⟨u, u1, u2, u3⟩ := f5 j sv h2
                refine ⟨u, ?_, u2.keep (hkp _ (by simp)) (hkp _ (by simp)) (fun _ _ h => h), u3⟩
                grind
            · simp only [St.set, List.getElem?_set_ne (Ne.symm ht)] at hs'
              refine .inr (.inr ⟨hs', rfl, fun o' ho' => Keep.block f2 (fun e => ?_) r3, fun s1 e => ⟨rfl, fun xq hxq hb => ?_⟩⟩)
              · subst e
                cases s' <;> simp [uses] at ho'
                exact ht ho'.symm
              · by_cases h1 : s1 = s
                · subst h1
                  rw [hs] at hxq; cases hxq
                  exact ⟨.box (setCells cs _ d.cells), by rw [St.set, List.getElem?_set_self hlt], rfl⟩
                · exact ⟨xq, by simp [St.set, List.getElem?_set_ne (Ne.symm h1), hxq], rfl⟩
          · refine hr.hp.keep (fun o' ho' => Keep.block f2 (fun e => ?_) r3) (fun _ _ h => h) rfl
            subst e
            exact ho'.elim
        · exact Fr.of (fun o => o = .box s) (by rintro _ rfl; simp) (by rw [r2]; exact Nat.le_refl _) (fun o' ho' => Keep.block f2 ho' r3) rfl (storeCells_os (P := P) k off T0 (a.eval y).cells.toList 0 c w w' f3 (by simp [c1]; omega) hone r1)
      · cases hv
    · cases hv
  · cases hv
/-! ## append -/
/-- Cells that read as a list's elements, one behind the other. -/
def RFlat (g : Gh) (w : World) (news : Array Value) (n : Nat) (ys : List D) : Prop :=
  news.size = ys.length * n ∧ (∀ (i : Nat) (x : D), ys[i]? = some x → x.cells.length = n) ∧
  ∀ (i : Nat) (x : D), ys[i]? = some x → ∀ (j : Nat) (y : D), x.cells[j]? = some y → ∃ u, news[i * n + j]? = some u ∧ Rd g w u y ∧ u.oneCell' = true
theorem RFlat.one (h : RFlat g w news n ys) : ∀ v ∈ news.toList, v.oneCell' = true := by
  intro v hv
  obtain ⟨j, hj⟩ := List.mem_iff_getElem?.1 hv
  have hlt : j < ys.length * n := by rw [← h.1]; have := get_lt hj; simpa using this
  have hn : 0 < n := by
    grind
  have h1 : j / n < ys.length := (Nat.div_lt_iff_lt_mul hn).2 hlt
  have h2 : j % n < n := Nat.mod_lt _ hn
  have hw := h.2.1 (j / n) ys[j / n] (by simp [h1])
  obtain ⟨u, u1, u2, u3⟩ := h.2.2 (j / n) ys[j / n] (by simp [h1]) (j % n) (ys[j / n].cells[j % n]'(by omega)) (by simp)
  rw [Nat.div_add_mod' j n] at u1
  grind
/-- The cells of a list that may be read. -/
theorem RList.flat (hn : 0 < n) (h : RList g w l v n xs) :
    ∃ news, RFlat g w news n xs ∧ (∀ w', (Builtin.lenOf v).run P w' = .ok xs.length w') ∧ ∀ w', Up w w' → (Builtin.firstCells n xs.length v).run P w' = .ok news w' := by
  rcases h with ⟨rfl, a, cap, rfl⟩ | ⟨k, off, cap, c, T, fz, us, rfl, hk, hb, hp, hw, hc, hr⟩
  · refine ⟨#[], ⟨by simp, by simp, by simp⟩, fun _ => rfl, fun w' _ => ?_⟩
    cases a <;> simp [Builtin.firstCells, loadCells, loadCellsFrom]
  · rcases Nat.eq_zero_or_pos xs.length with h0 | h0
    · have : xs = [] := List.eq_nil_of_length_eq_zero h0
      subst this
      refine ⟨#[], ⟨by simp, by simp, by simp⟩, fun _ => rfl, fun w' _ => ?_⟩
      simp [Builtin.firstCells, loadCells, loadCellsFrom]
    have hs : off + xs.length * n ≤ c.size := by
      have hlt : xs.length - 1 < xs.length := by omega
      have hx : xs[xs.length - 1]? = some xs[xs.length - 1] := by simp [hlt]
      have hcl := hw _ _ hx
      obtain ⟨h1, -⟩ := hc _ _ hx (n - 1) (xs[xs.length - 1].cells[n - 1]'(by omega)) (by simp)
      have := arr_lt h1
      have h2 : xs.length * n = (xs.length - 1) * n + n := by
        obtain ⟨m, hm⟩ : ∃ m, xs.length = m + 1 := ⟨xs.length - 1, by omega⟩
        grind
      omega
    refine ⟨c.extract off (off + xs.length * n), ⟨?_, hw, fun i x hx j y hy => ?_⟩, fun _ => rfl, fun w' hw' => ?_⟩
    · simp [Nat.min_eq_left hs]
    · refine ⟨us i j, ?_, hr i x hx j y hy, (hc i x hx j y hy).2⟩
      have hi := get_lt hx
      have hj : j < n := by rw [← hw i x hx]; exact get_lt hy
      have hlt : i * n + j < xs.length * n := by
        have : (i + 1) * n ≤ xs.length * n := Nat.mul_le_mul_right n hi
        grind
      grind
    · simp only [Builtin.firstCells]
      exact run_cells (P := P) (hw' _ _ hb) hs
/-- The text of a string as a list of bytes. -/
def byteDs (l : List UInt8) : List D := l.map fun b => .int .u8 b.toNat
theorem str_flat :
    ∃ news, RFlat g w news 1 (byteDs l) ∧ (∀ w', (Builtin.lenOf (.string (mk l))).run P w' = .ok (byteDs l).length w') ∧ ∀ w', (Builtin.firstCells 1 (byteDs l).length (.string (mk l))).run P w' = .ok news w' := by
  refine ⟨(l.map fun b => Value.int .u8 b.toNat).toArray, ⟨by simp [byteDs], fun i x hx => ?_, fun i x hx j y hy => ?_⟩, fun w' => ?_, fun w' => ?_⟩
  · simp only [byteDs, List.getElem?_map, Option.map_eq_some_iff] at hx
    obtain ⟨b, -, rfl⟩ := hx; rfl
  · simp only [byteDs, List.getElem?_map, Option.map_eq_some_iff] at hx
    obtain ⟨b, hb, rfl⟩ := hx
    cases j with
    | zero => simp [D.cells] at hy; subst hy; exact ⟨.int .u8 b.toNat, by simp [hb], .int, rfl⟩
    | succ j => simp [D.cells] at hy
  · simp [Builtin.lenOf, byteDs, mk_size]
  · simp only [Builtin.firstCells, byteDs, List.length_map, Sem.run_pure]
    congr 1
    apply Array.ext'
    simp [mk, ByteArray.data_extract]
theorem append_exec (hv : v = .slice base sLen sCap)
    (ht : P.underlying T = some (.slice e)) (hi : P.info? e = some i) (hz : i.zero = some z) (h2 : ∃ d, P.underlying T2 = some d ∧ ∀ k, d ≠ .int k)
    (hlen : ∀ w', (Builtin.lenOf x).run P w' = .ok m w') (hnew : ∀ w', Up w w' → (Builtin.firstCells i.size m x).run P w' = .ok news w') (hold : ∀ w', Up w w' → (Builtin.firstCells i.size sLen v).run P w' = .ok olds w')
    (h63 : sLen + m ≤ maxLen) (hb : (sLen + m) * i.bytes ≤ 140737488355328) :
    (sLen + m ≤ sCap → (Builtin.append_ #[T, T2] ty #[v, x]).run P w = ((match base with | some a => storeCells (a.add (sLen * i.size)) news.toList | none => pure ()).run P w).andThen fun _ w' => .ok (.slice base (sLen + m) sCap) w') ∧
    (sCap < sLen + m → (Builtin.append_ #[T, T2] ty #[v, x]).run P w = .ok (.slice (some ⟨w.heap.size, 0, none⟩) (sLen + m) (grownCap w (sLen + m) sCap e))
      (w.drew.alloc (.cells (olds ++ news ++ Builtin.zeroCells z.cells (grownCap w (sLen + m) sCap e - (sLen + m))) e))) := by
  subst hv
  obtain ⟨d, hd, hd2⟩ := h2
  have hzeros : (match d with | .int _ => true | _ => false) = false := by cases d <;> simp at hd2 ⊢
  have h63' : ¬ ((9223372036854775807 : Int) < (sLen : Int) + (m : Int)) := by unfold maxLen at h63; omega
  constructor
  · intro hc
    cases base with
    | some a => simp [Builtin.append_, run_underlying ht, run_underlying hd, sizeOf, typeInfo, hi, hlen, hzeros, hc, hnew w (Up.refl w)]
    | none => simp [Builtin.append_, run_underlying ht, run_underlying hd, sizeOf, typeInfo, hi, hlen, hzeros, hc, hnew w (Up.refl w)]
  · intro hc
    have hn : ¬ (sLen + m ≤ sCap) := by omega
    have h48 : ¬ (281474976710656 < Builtin.nextslicecap (sLen + m) sCap * i.bytes) := by have := growslice_fits hc hb; omega
    have hup : Up w w.drew := fun _ _ h => h
    simp [Builtin.append_, run_underlying ht, run_underlying hd, sizeOf, typeInfo, zeroValue, hi, hz, hlen, hzeros, hn, h63', h48, Question.forced, hnew w.drew hup, hold w.drew hup, newRow, grownCap]
/-- A slot gives up its list, another one gets something; nothing else of ours has changed. -/
theorem Rel.replace (hr : Rel st a w g) (hk : ∀ o, o ≠ .lst (.slot s) → Keep o g w g' w') (hρ : g'.ρ = g.ρ)
    (hres : ∀ tm val, RS g' w' tm val d v' sv) : Rel ((st.take s).put (some d) sv) (a.put (some d) v') w' g' := by
  refine Rel.step hr (by rw [put_size, St.put_len, St.take_len]; exact hr.len) (by rw [put_defers]; exact hr.def0) (fun _ _ h => by rw [hρ]; exact h) (fun t s' hs' => ?_) ?_
  · by_cases ht : t = d
    · subst ht
      obtain ⟨rfl, hlt⟩ := St.put_get_same hs'
      refine .inr (.inl ?_)
      rw [valOf_put_same (by rw [hr.len]; simpa using hlt)]
      exact hres _ _
    · rcases other_slot hr (st1 := st.take s) v' (fun t s h => (St.take_get h).imp id fun h => h.1) (fun t s x h s1 e hx hb => St.take_box h s1 e hx hb) (by simpa using Ne.symm ht) hs' with h | ⟨h1, h2, h3, h4, h5⟩
      · exact .inl h
      · rcases St.take_get h1 with h | ⟨-, h6, h7⟩
        · exact .inl h
        · exact .inr (.inr ⟨h2, h3, fun o' ho' => hk o' (uses_mention h6 h7 ho').2.1, h5⟩)
  · rw [St.put_H, St.take_H]
    refine hr.hp.keep (fun o' ho' => hk o' fun e => ?_) (fun _ _ h => by rw [hρ]; exact h) (by rw [hρ])
    subst e; exact ho'.elim
/-- A slot gets something new; nothing of ours has changed. -/
theorem Rel.putNew (hr : Rel st a w g) (hk : ∀ o, Keep o g w g' w') (hρ : g'.ρ = g.ρ)
    (hres : ∀ tm val, RS g' w' tm val d v' sv) : Rel (st.put (some d) sv) (a.put (some d) v') w' g' := by
  refine Rel.step hr (by rw [put_size, St.put_len]; exact hr.len) (by rw [put_defers]; exact hr.def0) (fun _ _ h => by rw [hρ]; exact h) (fun t s' hs' => ?_) ?_
  · by_cases ht : t = d
    · subst ht
      obtain ⟨rfl, hlt⟩ := St.put_get_same hs'
      refine .inr (.inl ?_)
      rw [valOf_put_same (by rw [hr.len]; exact hlt)]
      exact hres _ _
    · rcases other_slot hr (st1 := st) v' (fun t s h => .inr h) (fun t s x h s1 e hx hb => ⟨x, hx, rfl⟩) (by simpa using Ne.symm ht) hs' with h | ⟨h1, h2, h3, h4, h5⟩
      · exact .inl h
      grind
  · rw [St.put_H]
    exact hr.hp.keep (fun o' ho' => hk o') (fun _ _ h => by rw [hρ]; exact h) (by rw [hρ])
theorem Fr.keepBut (hl : ∀ i j, l ≠ .hcell i j) (hs : w.heap.size ≤ w'.heap.size) (hk : ∀ o, o ≠ .lst l → Keep o g w g' w') (hρ : g'.ρ = g.ρ) (hos : SameOs w w' := by exact ⟨rfl, rfl⟩) : Fr pu g w g' w' :=
  Fr.of (fun o => o = .lst l) (by grind) hs hk hρ hos
/-- A new block with a list's elements at its head. -/
theorem ROwn.new (hfl : RFlat g w news n ys) (hb : w'.heap[k]? = some (.cells (news ++ rest) e (0, 0))) (ho : g'.ow k = .lst o)
    (hm : ys.length = m) (hcap : m ≤ cap) (hrest : rest.size = (cap - m) * n) (hk : Keep .free g w g' w') (hρ : KeepR g g') : ROwn g' w' o (.slice (some ⟨k, 0, none⟩) m cap) n ys := by
  obtain ⟨h1, h2, h3⟩ := hfl
  have : ∃ us : Nat → Nat → Value, ∀ (i : Nat) (x : D), ys[i]? = some x → ∀ (j : Nat) (y : D), x.cells[j]? = some y → news[i * n + j]? = some (us i j) ∧ Rd g w (us i j) y ∧ (us i j).oneCell' = true :=
    ⟨fun i j => news.getD (i * n + j) undef, fun i x hx j y hy => by
      obtain ⟨u, u1, u2, u3⟩ := h3 i x hx j y hy
      simp_all⟩
  obtain ⟨us, hus⟩ := this
  subst hm
  refine .inr ⟨k, 0, cap, news ++ rest, e, us, rfl, ho, hb, hcap, ?_, h2, fun i x hx j y hy => ?_, fun i x hx j y hy => (hus i x hx j y hy).2.1.keep hk hρ⟩
  · rw [Array.size_append, h1, hrest, ← Nat.add_mul, Nat.zero_add]
    grind
  grind
theorem RFlat.append (h1 : RFlat g w a n xs) (h2 : RFlat g w b n ys) : RFlat g w (a ++ b) n (xs ++ ys) := by
  refine ⟨by rw [Array.size_append, h1.1, h2.1, List.length_append, Nat.add_mul], fun i x hx => ?_, fun i x hx j y hy => ?_⟩
  · by_cases hi : i < xs.length
    · rw [List.getElem?_append_left hi] at hx; exact h1.2.1 i x hx
    · rw [List.getElem?_append_right (by omega)] at hx; exact h2.2.1 _ x hx
  · by_cases hi : i < xs.length
    · rw [List.getElem?_append_left hi] at hx
      obtain ⟨u, u1, u2⟩ := h1.2.2 i x hx j y hy
      grind
    · rw [List.getElem?_append_right (by omega)] at hx
      obtain ⟨u, u1, u2⟩ := h2.2.2 _ x hx j y hy
      refine ⟨u, ?_, u2⟩
      have hge : xs.length * n ≤ i * n := Nat.mul_le_mul_right n (by omega)
      rw [Array.getElem?_append_right (by rw [h1.1]; omega), h1.1]
      rw [show i * n + j - xs.length * n = (i - xs.length) * n + j by rw [Nat.sub_mul]; omega]
      exact u1
theorem RFlat.keep (hk : Keep .free g w g' w') (hρ : KeepR g g') (h : RFlat g w a n xs) : RFlat g' w' a n xs :=
  ⟨h.1, h.2.1, fun i x hx j y hy => let ⟨u, u1, u2, u3⟩ := h.2.2 i x hx j y hy; ⟨u, u1, u2.keep hk hρ, u3⟩⟩
/-- A slice type whose elements take 'n' cells and 'b' bytes. -/
def sliceT (P : Program) (T : TypeId) : Option (Nat × Nat) :=
  match P.underlying T with
  | some (.slice e) => match P.info? e with
    | some i => match i.zero with
      | some z => if (z.cells.size = i.size ∧ (constD z).isSome = true) ∧ 0 < i.size then some (i.size, i.bytes) else none
      | none => none
    | none => none
  | _ => none
def noInt (P : Program) (T : TypeId) : Bool := match P.underlying T with | some (.int _) | none => false | _ => true
/-- What is appended: how many cells an element takes, the elements. -/
def srcOf (st : St) (x : Operand) : Option (Nat × List D) :=
  match valD st x with
  | some (.str l) => some (1, byteDs l)
  | _ => match listOf st x with
    | some (_, n, xs) => some (n, xs)
    | none => none
theorem srcOf_sound (hr : Rel st a w g) (hv : srcOf st x = some (m, ys)) (hn : 0 < n) (hm : m = n ∨ ys = []) :
    ∃ news, RFlat g w news n ys ∧ (∀ w', (Builtin.lenOf (a.eval x)).run P w' = .ok ys.length w') ∧ ∀ w', Up w w' → (Builtin.firstCells n ys.length (a.eval x)).run P w' = .ok news w' := by
  unfold srcOf at hv
  split at hv
  · rename_i l hl
    cases hv
    rw [valD_leaf hr hl rfl]
    by_cases h1 : 1 = n
    · subst h1
      obtain ⟨news, e1, e2, e3⟩ := str_flat (P := P) (g := g) (w := w) (l := l)
      grind
    · have h2 : byteDs l = [] := hm.resolve_left h1
      have : l = [] := by simpa [byteDs] using h2
      subst this
      refine ⟨#[], ⟨by simp [byteDs], by simp [byteDs], by simp [byteDs]⟩, fun w' => by simp [Builtin.lenOf, byteDs, mk_size], fun w' _ => ?_⟩
      simp [Builtin.firstCells, byteDs, mk, ByteArray.data_extract]
  · split at hv
    · rename_i l n' xs hl
      cases hv
      have hL := listOf_sound hr hl
      rcases hm with rfl | rfl
      · exact hL.flat hn
      · have hL' : RList g w l (a.eval x) n [] := by
          rcases hL with h | ⟨k, off, cap, c, T, fz, us, h1, h2, h3, h4, h5⟩
          · exact .inl h
          · exact .inl ⟨rfl, _, _, h1⟩
        exact hL'.flat hn
    · cases hv
theorem ROwn.toFlat (hn : 0 < n) (h : ROwn g w o v n xs) :
    ∃ olds base cap, v = .slice base xs.length cap ∧ RFlat g w olds n xs ∧ ∀ w', Up w w' → (Builtin.firstCells n xs.length v).run P w' = .ok olds w' := by
  obtain ⟨olds, e1, -, e3⟩ := (ROwn.toLent h).flat (P := P) hn
  rcases h with ⟨rfl, a, rfl⟩ | ⟨k, off, cap, c, T, us, rfl, -⟩
  · exact ⟨olds, _, _, rfl, e1, e3⟩
  grind
theorem run_append_call {o : Oper} {c : Call} {a : Act} {w : World} {x y : Operand} {T T2 : TypeId} (hop : o.op = .call c) (hc : c.callee = .builtin .append) (ha : c.args.toList = [x, y]) (ht : c.argTypes.toList = [T, T2]) {v : Value} {w' : World}
    (h : (Builtin.append_ #[T, T2] o.type #[a.eval x, a.eval y]).run P w = .ok v w') : (execOp a.eval o).run P w = .ok (.value v) w' := by
  obtain ⟨callee, args, argTypes⟩ := c
  have ha2 : args = #[x, y] := by apply Array.ext'; simpa using ha
  have ht2 : argTypes = #[T, T2] := by apply Array.ext'; simpa using ht
  subst ha2 ht2
  simp only at hc
  subst hc
  unfold execOp
  rw [hop]
  simp only [resolve, List.map_toArray, List.map_cons, List.map_nil, Sem.run_bind, Sem.run_pure, Result.andThen_ok, invoke, builtin]
  simp [h]
/-- APPEND to a list of our own: it hands its memory over to the result. -/
theorem OpS.append (hop : o.op = .call c) (hc : c.callee = .builtin .append) (ha : c.args.toList = [.tmp s, y]) (ht : c.argTypes.toList = [T, T2])
    (hd : o.dst = some d) (hs : st.tmps[s]? = some (.own n xs)) (hy : srcOf st y = some (m, ys)) (hT : sliceT P T = some (n, b)) (h2 : noInt P T2 = true) (hm : m = n ∨ ys = [])
    (hlen : xs.length + ys.length ≤ maxLen) (hby : (xs.length + ys.length) * b ≤ 140737488355328) : OpS P pu st o ((st.take s).put (some d) (.own n (xs ++ ys))) := by
  refine OpS.value fun a w g hr => ?_
  unfold sliceT at hT
  split at hT
  · rename_i e hu
    split at hT
    · rename_i i hi
      split at hT
      · rename_i z hz
        split at hT
        · rename_i hsz
          obtain ⟨⟨hzs, -⟩, hn⟩ := hsz
          cases hT
          have h2' : ∃ dd, P.underlying T2 = some dd ∧ ∀ k, dd ≠ .int k := by
            unfold noInt at h2
            cases hu2 : P.underlying T2 with
            | none => rw [hu2] at h2; simp at h2
            | some dd => grind
          have hO := hr.tmp s _ hs
          obtain ⟨news, n1, n2, n3⟩ := srcOf_sound (P := P) hr hy hn hm
          obtain ⟨olds, base, cap, hv, o1, o2⟩ := ROwn.toFlat (P := P) hn (hO : ROwn g w (.slot s) (valOf a s) i.size xs)
          obtain ⟨room, grow⟩ := append_exec (P := P) (T := T) (T2 := T2) (ty := o.type) (v := valOf a s) (x := a.eval y) (w := w) hv hu hi hz h2' n2 n3 o2 hlen hby
          rw [hd]
          by_cases hroom : xs.length + ys.length ≤ cap
          · -- it fits
            have hr1 := room hroom
            rcases hO with ⟨hx, a0, hva⟩ | ⟨k, off, cap', cc, T0, us, hva, hk, hb, hcap, hfit, hw, hcc, hrr⟩
            · have hva' : valOf a s = .slice a0 0 0 := hva
              rw [hva'] at hv
              simp only [Value.slice.injEq] at hv
              obtain ⟨rfl, -, rfl⟩ := hv
              subst hx
              have hys : ys = [] := List.eq_nil_of_length_eq_zero (by simpa using hroom)
              subst hys
              have hnews : news = #[] := Array.eq_empty_of_size_eq_zero (by rw [n1.1]; simp)
              subst hnews
              refine ⟨.slice a0 0 0, w, g, run_append_call hop hc ha ht ?_, ?_, Fr.refl _ _ _⟩
              · rw [eval_tmp, hr1]
                cases a0 <;> simp [storeCells]
              · exact hr.replace (fun _ _ => Keep.refl _ _ _) rfl (fun _ _ => .inl ⟨rfl, a0, rfl⟩)
            · have hva' : valOf a s = .slice (some ⟨k, off, none⟩) xs.length cap' := hva
              rw [hva'] at hv
              simp only [Value.slice.injEq] at hv
              obtain ⟨rfl, -, rfl⟩ := hv
              have hmul : (xs.length + ys.length) * i.size ≤ cap' * i.size := Nat.mul_le_mul_right _ hroom
              rw [Nat.add_mul] at hmul
              obtain ⟨w', r1, r2, r3, c', r4, r5, r6⟩ := run_storeCells' (P := P) k (off + xs.length * i.size) T0 news.toList 0 cc w hb (by simp [n1.1]; omega) n1.one
              have hkeep : ∀ o', o' ≠ .lst (.slot s) → Keep o' g w (g.ren (rnL (.slot s) (.slot d))) w' := fun o' ho' k' b' h1 h2 => by
                have : k' ≠ k := by grind
                refine ⟨by simp only [Gh.ren, h1]; exact rnL_other ho', by rw [r3 k' this]; exact h2⟩
              refine ⟨.slice (some ⟨k, off, none⟩) (xs.length + ys.length) cap', w', g.ren (rnL (.slot s) (.slot d)), run_append_call hop hc ha ht ?_, ?_, Fr.keepBut (by simp) (by rw [r2]; exact Nat.le_refl _) hkeep rfl (storeCells_os (P := P) k (off + xs.length * i.size) T0 news.toList 0 cc w w' hb (by simp [n1.1]; omega) n1.one r1)⟩
              · rw [eval_tmp, hr1]
                simp only [Addr.add_lit, r1, Result.andThen_ok]
              · refine hr.replace hkeep rfl fun _ _ => ?_
                have hkf : Keep .free g w (g.ren (rnL (.slot s) (.slot d))) w' := hkeep _ (by simp)
                have : ∃ us' : Nat → Nat → Value, ∀ (i' : Nat) (x : D), ys[i']? = some x → ∀ (j : Nat) (y : D), x.cells[j]? = some y → news[i' * i.size + j]? = some (us' i' j) ∧ Rd g w (us' i' j) y ∧ (us' i' j).oneCell' = true :=
                  ⟨fun i' j => news.getD (i' * i.size + j) undef, fun i' x hx j y hy => by
                    obtain ⟨u, u1, u2, u3⟩ := n1.2.2 i' x hx j y hy
                    simp_all⟩
                obtain ⟨us', hus'⟩ := this
                refine .inr ⟨k, off, cap', c', T0, fun i' j => if i' < xs.length then us i' j else us' (i' - xs.length) j, by rw [List.length_append], by simp [Gh.ren, hk, rnL_same], r4, by simpa using hroom, by rw [r5]; exact hfit, fun i' x hx => ?_, fun i' x hx j y hy => ?_, fun i' x hx j y hy => ?_⟩
                · by_cases h : i' < xs.length
                  · grind
                  · rw [List.getElem?_append_right (by omega)] at hx; exact n1.2.1 _ x hx
                · by_cases h : i' < xs.length
                  · rw [List.getElem?_append_left h] at hx
                    simp only [h, if_true]
                    have hj : j < i.size := by grind
                    have hlt : i' * i.size + j < xs.length * i.size := by
                      have : (i' + 1) * i.size ≤ xs.length * i.size := Nat.mul_le_mul_right _ h
                      grind
                    grind
                  · rw [List.getElem?_append_right (by omega)] at hx
                    simp only [h, if_false]
                    obtain ⟨u1, u2, u3⟩ := hus' _ x hx j y hy
                    have hlt := arr_lt u1
                    have hge : xs.length * i.size ≤ i' * i.size := Nat.mul_le_mul_right _ (by omega)
                    have hsub : (i' - xs.length) * i.size = i' * i.size - xs.length * i.size := Nat.sub_mul _ _ _
                    rw [r6, if_pos (by simp; omega)]
                    grind
                · by_cases h : i' < xs.length
                  · rw [List.getElem?_append_left h] at hx
                    simp only [h, if_true]
                    exact (hrr i' x hx j y hy).keep hkf (fun _ _ h => h)
                  · rw [List.getElem?_append_right (by omega)] at hx
                    simp only [h, if_false]
                    exact (hus' _ x hx j y hy).2.1.keep hkf (fun _ _ h => h)
          · -- a new row
            have hr2 := grow (by omega)
            have hge := grownCap_ge w (xs.length + ys.length) cap e
            generalize hgc : grownCap w (xs.length + ys.length) cap e = gc at hr2 hge
            have hkeep : ∀ o', o' ≠ .lst (.slot s) → Keep o' g w ((g.ren (rnL (.slot s) (.slot d))).upd w.heap.size (.lst (.slot d))) (w.drew.alloc (.cells (olds ++ news ++ Builtin.zeroCells z.cells (gc - (xs.length + ys.length))) e)) := fun o' ho' =>
              Keep.trans (Keep.ren (rnL_other ho')) (Keep.alloc (w := w.drew))
            refine ⟨_, _, (g.ren (rnL (.slot s) (.slot d))).upd w.heap.size (.lst (.slot d)), run_append_call hop hc ha ht (by rw [eval_tmp, hr2]), ?_, Fr.keepBut (by simp) (by simp) hkeep rfl⟩
            refine hr.replace hkeep rfl fun _ _ => ?_
            exact ROwn.new (RFlat.append o1 n1) (heap_alloc w.drew _) (by simp) (by simp) hge (by rw [size_zeroCells, hzs]) (hkeep _ (by simp)) (fun _ _ h => h)
        · cases hT
      · cases hT
    · cases hT
  · cases hT
end
end Go.Sh
namespace Go.Sh
section
variable {P : Program} {pu : Bool} {st : St}
theorem OpS.appendNil (hop : o.op = .call c) (hc : c.callee = .builtin .append) (ha : c.args.toList = [x, y]) (ht : c.argTypes.toList = [T, T2])
    (hd : o.dst = some d) (hx : valD st x = some .nilS) (hy : srcOf st y = some (m, ys)) (hT : sliceT P T = some (n, b)) (h2 : noInt P T2 = true) (hm : m = n ∨ ys = [])
    (hlen : ys.length ≤ maxLen) (hby : ys.length * b ≤ 140737488355328) : OpS P pu st o (st.put (some d) (.own n ys)) := by
  refine OpS.value fun a w g hr => ?_
  unfold sliceT at hT
  split at hT
  · rename_i e hu
    split at hT
    · rename_i i hi
      split at hT
      · rename_i z hz
        split at hT
        · rename_i hsz
          obtain ⟨⟨hzs, -⟩, hn⟩ := hsz
          cases hT
          have h2' : ∃ dd, P.underlying T2 = some dd ∧ ∀ k, dd ≠ .int k := by
            unfold noInt at h2
            cases hu2 : P.underlying T2 with
            | none => rw [hu2] at h2; simp at h2
            | some dd => exact ⟨dd, rfl, fun k e => by rw [hu2, e] at h2; simp at h2⟩
          obtain ⟨a0, hv⟩ := Rd.nilS_inv (valD_d hr hx)
          obtain ⟨news, n1, n2, n3⟩ := srcOf_sound (P := P) hr hy hn hm
          have hold : ∀ w', Up w w' → (Builtin.firstCells i.size 0 (a.eval x)).run P w' = .ok #[] w' := fun w' _ => by
            rw [hv]; cases a0 <;> simp [Builtin.firstCells, loadCells, loadCellsFrom]
          obtain ⟨room, grow⟩ := append_exec (P := P) (T := T) (T2 := T2) (ty := o.type) (v := a.eval x) (x := a.eval y) (w := w) hv hu hi hz h2' n2 n3 hold (by simpa using hlen) (by simpa using hby)
          simp only [Nat.zero_add] at room grow
          rw [hd]
          by_cases hys : ys = []
          · subst hys
            have hnews : news = #[] := Array.eq_empty_of_size_eq_zero (by rw [n1.1]; simp)
            subst hnews
            have hr1 := room (by simp)
            refine ⟨.slice a0 0 0, w, g, run_append_call hop hc ha ht ?_, ?_, Fr.refl _ _ _⟩
            · rw [hr1]
              cases a0 <;> simp [storeCells]
            · exact hr.putNew (fun _ => Keep.refl _ _ _) rfl (fun _ _ => .inl ⟨rfl, a0, rfl⟩)
          · have hpos : 0 < ys.length := by cases ys with | nil => exact absurd rfl hys | cons => simp
            have hr2 := grow hpos
            rw [Array.empty_append] at hr2
            have hge := grownCap_ge w ys.length 0 e
            generalize hgc : grownCap w ys.length 0 e = gc at hr2 hge
            have hkeep : ∀ o', Keep o' g w (g.upd w.heap.size (.lst (.slot d))) (w.drew.alloc (.cells (news ++ Builtin.zeroCells z.cells (gc - ys.length)) e)) := fun o' => Keep.alloc (w := w.drew)
            refine ⟨_, _, g.upd w.heap.size (.lst (.slot d)), run_append_call hop hc ha ht hr2, ?_, Fr.of (fun _ => False) (by simp) (by simp) (fun o _ => hkeep o) rfl⟩
            refine hr.putNew hkeep rfl fun _ _ => ?_
            exact ROwn.new n1 (heap_alloc w.drew _) (by simp) rfl hge (by rw [size_zeroCells, hzs]) (hkeep _) (fun _ _ h => h)
        · cases hT
      · cases hT
    · cases hT
  · cases hT
theorem run_v2 (s : Sem Value) (h : s.run P w = .ok v w') : (do pure (.value (← s)) : Sem Next).run P w = .ok (.value v) w' := by
  simp [h]
/-! ## A slice literal -/
def flatCells (ds : List (Nat × D)) : List D := (ds.map fun p => p.2.cells).flatten
/-- The parts of a literal: all places, in order, of one width. -/
def litOk (n : Nat) (k : Nat) : List (Nat × D) → Bool
  | [] => true
  | (i, x) :: r => i == k && x.cells.length == n && litOk n (k + 1) r
theorem flatCells_len : ∀ {k : Nat} {ds : List (Nat × D)}, litOk n k ds = true → (flatCells ds).length = ds.length * n
  | k, [], _ => by simp [flatCells]
  | k, (i, x) :: r, h => by
    simp only [litOk, Bool.and_eq_true, beq_iff_eq] at h
    have ih := flatCells_len h.2
    simp only [flatCells, List.map_cons, List.flatten_cons, List.length_append, List.length_cons] at ih ⊢
    rw [ih, h.1.2, Nat.succ_mul]; omega
theorem fillD_lit (hn : 0 < n) : ∀ {ds : List (Nat × D)} {k : Nat} {done zs : List D}, litOk n k ds = true → done.length = k * n → zs.length = ds.length * n →
    fillD (fun i => some (i * n, n)) (done ++ zs) ds = some (done ++ flatCells ds)
  | [], k, done, zs, _, _, hz => by
    have : zs = [] := List.eq_nil_of_length_eq_zero (by simpa using hz)
    subst this
    simp [fillD, flatCells]
  | (i, x) :: r, k, done, zs, h, hd, hz => by
    simp only [litOk, Bool.and_eq_true, beq_iff_eq] at h
    obtain ⟨⟨rfl, hx⟩, hr⟩ := h
    simp only [List.length_cons, Nat.succ_mul] at hz
    simp only [fillD]
    rw [if_neg (by simp [hx, hd]; omega)]
    have e1 : List.take (i * n) (done ++ zs) = done := by rw [← hd]; exact List.take_left
    have e2 : List.drop (i * n + n) (done ++ zs) = zs.drop n := by
      rw [← hd, List.drop_append]
      simp
    rw [e1, e2, fillD_lit hn hr (by simp [hd, hx, Nat.succ_mul]) (by simp; omega)]
    simp [flatCells]
theorem flatCells_get : ∀ {ds : List (Nat × D)} {k : Nat}, litOk n k ds = true → ∀ (i : Nat) (x : D), (ds.map (·.2))[i]? = some x → ∀ (j : Nat) (y : D), x.cells[j]? = some y → (flatCells ds)[i * n + j]? = some y
  | [], k, _, i, x, hx, _, _, _ => by simp at hx
  | (i0, x0) :: r, k, h, i, x, hx, j, y, hy => by
    simp only [litOk, Bool.and_eq_true, beq_iff_eq] at h
    simp only [flatCells, List.map_cons, List.flatten_cons]
    cases i with
    | zero =>
      grind
    | succ i =>
      simp only [List.map_cons, List.getElem?_cons_succ] at hx
      rw [List.getElem?_append_right (by rw [h.1.2, Nat.succ_mul]; omega), h.1.2, Nat.succ_mul]
      rw [show i * n + n + j - n = i * n + j by omega]
      exact flatCells_get h.2 i x hx j y hy
theorem litOk_width : ∀ {ds : List (Nat × D)} {k : Nat}, litOk n k ds = true → ∀ (i : Nat) (x : D), (ds.map (·.2))[i]? = some x → x.cells.length = n
  | [], k, _, i, x, hx => by simp at hx
  | (i0, x0) :: r, k, h, i, x, hx => by
    simp only [litOk, Bool.and_eq_true, beq_iff_eq] at h
    cases i with
    | zero => simp at hx; subst hx; exact h.1.2
    | succ i => exact litOk_width h.2 i x (by simpa using hx)
/-- A SLICE LITERAL whose parts are all written out. -/
theorem OpS.buildSlice (hop : o.op = .buildSlice T len parts) (hd : o.dst = some d) (hT : sliceT P T = some (n, b))
    (hp : partsD st parts.toList = some ds) (hl : ds.length = len) (hok : litOk n 0 ds = true) (hsz : len * n ≤ 16777216) : OpS P pu st o (st.put (some d) (.own n (ds.map (·.2)))) := by
  refine OpS.value fun a w g hr => ?_
  unfold sliceT at hT
  split at hT
  · rename_i e hu
    split at hT
    · rename_i i hi
      split at hT
      · rename_i z hz
        split at hT
        · rename_i hs
          obtain ⟨⟨hzs, hzd⟩, hn⟩ := hs
          cases hT
          obtain ⟨hpl, hpr⟩ := partsD_sound hr hp
          -- the cells ahead of the parts: any that read
          have hfill : ∃ cells', Instr.fill (fun k => some (k * i.size, i.size)) ((Array.range (len * i.size)).map fun k => z.cells[k % z.cells.size]!) (parts.map fun (k, x) => (k, a.eval x)).toList = some cells' ∧ RCells g w cells' (flatCells ds) := by
            obtain ⟨zd, hzd⟩ := Option.isSome_iff_exists.1 hzd
            have hzr := (constD_rd (g := g) (w := w) hzd).cells
            have hinit : RCells g w ((Array.range (len * i.size)).map fun k => z.cells[k % z.cells.size]!) ((List.range (len * i.size)).map fun k => zd.cells.getD (k % i.size) .nilS) := by
              refine ⟨by simp, fun j y hj => ?_⟩
              simp only [List.getElem?_map, Option.map_eq_some_iff] at hj
              obtain ⟨j', hj', rfl⟩ := hj
              have hjj : j' = j := by
                grind
              subst hjj
              have hjl : j' < len * i.size := by grind
              have hm : j' % i.size < zd.cells.length := by rw [← hzr.1, hzs]; exact Nat.mod_lt _ hn
              obtain ⟨u, u1, u2, u3⟩ := hzr.2 (j' % i.size) zd.cells[j' % i.size] (by simp [hm])
              grind
            have hfd := fillD_lit (n := i.size) hn (ds := ds) (k := 0) (done := []) (zs := (List.range (len * i.size)).map fun k => zd.cells.getD (k % i.size) .nilS) hok (by simp) (by simp [hl])
            simp only [List.nil_append] at hfd
            exact fill_sound (fun _ => rfl) ds _ _ _ _ hinit (by simpa using hpl) (fun j p hj => by
              grind) hfd
          obtain ⟨cells', f1, f2⟩ := hfill
          rw [hd]
          have hkeep : ∀ o', Keep o' g w (g.upd w.heap.size (.lst (.slot d))) (w.alloc (.cells cells' e)) := fun o' => Keep.alloc
          refine ⟨.slice (some ⟨w.heap.size, 0, none⟩) len len, w.alloc (.cells cells' e), g.upd w.heap.size (.lst (.slot d)), ?_, ?_, Fr.of (fun _ => False) (by simp) (by simp) (fun o _ => hkeep o) rfl⟩
          · have hex : execOp a.eval o = (do pure (.value (← Instr.buildSlice T len (parts.map fun (i, x) => (i, a.eval x)))) : Sem Next) := by unfold execOp; rw [hop]
            rw [hex]
            refine run_v2 _ ?_
            have hsize : (sizeOf e).run P w = .ok i.size w := by simp [sizeOf, typeInfo, hi]
            have hzero : (zeroValue e).run P w = .ok z w := by simp [zeroValue, typeInfo, hi, hz]
            simp only [Instr.buildSlice, Sem.run_bind, run_underlying hu, Result.andThen_ok, hsize]
            rw [if_neg (by simpa using hsz)]
            by_cases h0 : len * i.size = 0
            · have hlen0 : len = 0 := by
                rcases Nat.mul_eq_zero.1 h0 with h | h
                · exact h
                · omega
              subst hlen0
              have hp0 : parts = #[] := by
                grind
              subst hp0
              have hc0 : cells' = #[] := by
                simp [Instr.fill] at f1
                grind
              subst hc0
              have hr0 : (Array.range 0).map (fun k => (#[] : Array Value)[k % (#[] : Array Value).size]!) = #[] := Array.ext' (by simp)
              simp [Instr.fill, newRow]
              congr 2
            · simp only [h0, if_false, Sem.run_bind, hzero, Result.andThen_ok, Sem.run_pure]
              have f1' : Instr.fill (fun k => some (k * i.size, i.size)) ((Array.range (len * i.size)).map fun k => z.cells[k % z.cells.size]!) (List.map (fun x => (x.fst, a.eval x.snd)) parts.toList) = some cells' := by
                simp_all
              simp [f1', newRow]
          · refine hr.putNew hkeep rfl fun _ _ => ?_
            have hflat : RFlat g w cells' i.size (ds.map (·.2)) := by
              refine ⟨by rw [f2.1, flatCells_len hok]; simp, fun k x hx => litOk_width hok k x hx, fun k x hx j y hy => ?_⟩
              exact f2.2 _ y (flatCells_get hok k x hx j y hy)
            have := ROwn.new (rest := #[]) (m := len) (cap := len) (o := .slot d) hflat (w' := w.alloc (.cells cells' e)) (g' := g.upd w.heap.size (.lst (.slot d))) (e := e) (k := w.heap.size) (by rw [Array.append_empty]; exact heap_alloc _ _) (by simp) (by simpa using hl) (Nat.le_refl _) (by simp) (hkeep _) (fun _ _ h => h)
            exact this
        · cases hT
      · cases hT
    · cases hT
  · cases hT
end
end Go.Sh
namespace Go.Sh
section
variable {P : Program} {pu : Bool} {st : St}
/-- What an operation that only reads leaves, whatever world has grown out of this one. -/
def BStep (P : Program) (st : St) (o : Oper) (s : SV) : Prop :=
  ∀ a w g, Rel st a w g → ∃ v, BV g w st a v s ∧ ∀ w', Up w w' → (execOp a.eval o).run P w' = .ok (.value v) w'
theorem BStep.of_bop (h : bop P st o = some s) : BStep P st o s := fun _ _ _ hr => bop_sound hr h
theorem BStep.eq (h : BStep P st o s) (e : s = s') : BStep P st o s' := e ▸ h
/-- An element's address: the element is known. -/
theorem BStep.indexAddr {k : IntKind} (hop : o.op = .indexAddr T x i) (hl : listOf st x = some (l, n, xs)) (hi : intOf? st i = some (k, j))
    (hn : (n != 0 && n == elemW P T && (arrayOf P T).isNone) = true) (h0 : 0 ≤ j) (hy : xs[j.toNat]? = some y) : BStep P st o (lendP l y.cells) := by
  simp only [Bool.and_eq_true, bne_iff_ne, beq_iff_eq, Option.isNone_iff_eq_none] at hn
  refine BStep.of_bop ?_
  simp only [bop, hop, indexAddrOp, hi, hn.2, hl]
  grind
/-- A byte of a text. -/
theorem BStep.index {k : IntKind} (hop : o.op = .index T x i) (hl : valD st x = some (.str l)) (hi : intOf? st i = some (k, j)) (hT : isStrT P T = true) (h0 : 0 ≤ j) (hy : l[j.toNat]? = some b) :
    BStep P st o (.d (.int .u8 b.toNat)) := by
  refine BStep.of_bop ?_
  simp only [bop, hop, indexOp, hl, hi]
  rw [if_pos ⟨hT, h0⟩, hy]
  rfl
/-- A part of a list. -/
theorem BStep.slice (hop : o.op = .slice T x lo hi none) (hx : (match valD st x with | some (.str _) => false | _ => true) = true)
    (hl : listOf st x = some (l, n, xs)) (hi' : bnd st 0 lo = some i) (hj' : bnd st xs.length hi = some j) (hn : (elemW P T != 0 && n == elemW P T) = true) (hij : i ≤ j) (hj : j ≤ xs.length) : BStep P st o (lendL l n ((xs.take j).drop i)) := by
  simp only [Bool.and_eq_true, bne_iff_ne, beq_iff_eq] at hn
  refine BStep.of_bop ?_
  simp only [bop, hop, sliceOp, Option.isSome_none, Bool.false_eq_true, if_false]
  grind
/-- A part of a text. -/
theorem BStep.sliceS (hop : o.op = .slice T x lo hi none) (hx : valD st x = some (.str l))
    (hi' : bnd st 0 lo = some i) (hj' : bnd st l.length hi = some j) (hT : isStrT P T = true) (hij : i ≤ j) (hj : j ≤ l.length) : BStep P st o (.d (.str ((l.take j).drop i))) := by
  refine BStep.of_bop ?_
  simp only [bop, hop, sliceOp, Option.isSome_none, Bool.false_eq_true, if_false, hx, hi', hj']
  rw [if_pos ⟨hT, hij, hj⟩]
/-- Two texts together. -/
theorem BStep.addS (hop : o.op = .binOp .add T x y yT) (hx : valD st x = some (.str p)) (hy : valD st y = some (.str q)) (hl : p.length + q.length ≤ maxLen) : BStep P st o (.d (.str (p ++ q))) := by
  refine BStep.of_bop ?_
  simp only [bop, hop, binS, hx, hy]
  simp [hl]
/-! ## Results of a call, all at once -/
def rnC (s d : Nat) : Own → Own
  | .lst (.comp t j) => if t = s then .lst (.comp d j) else .lst (.comp t j)
  | o => o
theorem OpS.moveTup (hop : o.op = .move (.tmp s)) (hs : st.tmps[s]? = some (.tup vs)) (hd : o.dst = some d) (hv : vs ≠ []) : OpS P pu st o ((st.take s).put (some d) (.tup vs)) := by
  refine OpS.value fun a w g hr => ?_
  have hexec : (execOp a.eval o).run P w = .ok (.value (valOf a s)) w := by unfold execOp; rw [hop]; rfl
  have hother : ∀ o', (∀ j, o' ≠ .lst (.comp s j)) → rnC s d o' = o' := fun o' h => by
    unfold rnC
    grind
  rw [hd]
  refine ⟨_, w, g.ren (rnC s d), hexec, ?_, ⟨Nat.le_refl _, Keep.ren rfl, Keep.ren rfl, fun _ _ h => h, fun _ i => Keep.ren rfl, fun _ i j => Keep.ren rfl, fun _ => rfl, ⟨rfl, rfl⟩⟩⟩
  refine Rel.step hr (by rw [put_size, St.put_len, St.take_len]; exact hr.len) (by rw [put_defers]; exact hr.def0) (fun _ _ h => h) (fun t s' hs' => ?_) ?_
  · by_cases ht : t = d
    · subst ht
      obtain ⟨rfl, hlt⟩ := St.put_get_same hs'
      refine .inr (.inl ?_)
      rw [valOf_put_same (by rw [hr.len]; simpa using hlt)]
      obtain ⟨us, e1, e2, e3⟩ := hr.tmp s _ hs
      refine ⟨us, e1, e2, fun j s' hj => ?_⟩
      obtain ⟨u, f1, f2⟩ := e3 j s' hj
      refine ⟨u, f1, ?_⟩
      cases s' with
      | d x => exact Rd.keep (Keep.ren rfl) (fun _ _ h => h) f2
      | own n xs => exact ROwn.ren rfl (by simp [rnC]) f2
      | undef => trivial
      | _ => exact f2.elim
    · rcases other_slot hr (st1 := st.take s) (valOf a s) (fun t s h => (St.take_get h).imp id fun h => h.1) (fun t s x h s1 e hx hb => St.take_box h s1 e hx hb) (by simpa using Ne.symm ht) hs' with h | ⟨h1, h2, h3, h4, h5⟩
      · exact .inl h
      · rcases St.take_get h1 with h | ⟨-, h6, h7⟩
        · exact .inl h
        · exact .inr (.inr ⟨h2, h3, fun o' ho' => Keep.ren (hother o' (uses_mention h6 h7 ho').2.2.2), h5⟩)
  · rw [St.put_H, St.take_H]
    refine RH.keep (g := g) (w := w) (fun o' ho' => Keep.ren (hother o' fun j e => ?_)) (fun _ _ h => h) rfl hr.hp
    subst e
    exact ho'.elim
/-! ## Steps that the kernel computes -/
/-- An operation that changes something, where nothing has to be shown. 'steal': the temporaries to which a list goes over for good. -/
def estep (P : Program) (steal : List Nat) (st : St) (o : Oper) : Option St :=
  match o.op with
  | .move (.tmp s) => match st.tmps[s]? with
    | some (.own n xs) => if (o.dst.map fun d => steal.contains d) = some true then some ((st.take s).put o.dst (.own n xs)) else none
    | some (.tup (v :: vs)) => match o.dst with | some d => some ((st.take s).put (some d) (.tup (v :: vs))) | none => none
    | _ => none
  | .assign (.tmp s) => match st.tmps[s]? with
    | some (.own n xs) => some ((st.take s).put o.dst (.own n xs))
    | _ => none
  | .extract (.tmp s) j => match st.tmps[s]? with
    | some (.tup vs) => match vs[j]? with
      | some (.own n xs) => if o.dst ≠ some s then some (((st.kill s).set s (.tup (vs.set j .undef))).put o.dst (.own n xs)) else none
      | _ => none
    | _ => none
  | .alloc T => match o.dst, zeroCells P T with
    | some d, some cs => some (st.put (some d) (.box (cs.map .d)))
    | _, _ => none
  | .box _ x => match o.dst, valD st x with
    | some d, some y => some (st.put (some d) (.box (y.cells.map .d)))
    | _, _ => none
  | .store T x y => if o.dst = none then storeBox P st T x y else none
  | .buildSlice T len parts => match o.dst, sliceT P T, partsD st parts.toList with
    | some d, some (n, _), some ds => if ds.length = len ∧ litOk n 0 ds = true ∧ len * n ≤ 16777216 then some (st.put (some d) (.own n (ds.map (·.2)))) else none
    | _, _, _ => none
  | _ => none
theorem estep_sound (h : estep P steal st o = some st') : OpS P pu st o st' := by
  unfold estep at h
  split at h
  · rename_i s hop
    split at h
    · rename_i n xs hs
      split at h
      · cases h; exact OpS.move (.inl hop) hs
      · cases h
    · rename_i v vs hs
      split at h
      · rename_i d hd; cases h; exact OpS.moveTup hop hs hd (by simp)
      · cases h
    · cases h
  · rename_i s hop
    split at h
    · rename_i n xs hs; cases h; exact OpS.move (.inr hop) hs
    · cases h
  · rename_i s j hop
    split at h
    · rename_i vs hs
      split at h
      · rename_i n xs hj
        split at h
        · rename_i hd; cases h; exact OpS.extract hop hs hj hd
        · cases h
      · cases h
    · cases h
  · rename_i T hop
    split at h
    · rename_i d cs hd hz; cases h; exact OpS.alloc hop hd hz
    · cases h
  · rename_i T x hop
    split at h
    · rename_i d y hd hy; cases h; exact OpS.box hop hd hy
    · cases h
  · rename_i T x y hop
    split at h
    · rename_i hd; exact OpS.store hop hd h
    · cases h
  · rename_i T len parts hop
    split at h
    · rename_i d n b ds hd hT hp
      split at h
      · rename_i hc; cases h; exact OpS.buildSlice hop hd hT hp hc.1 hc.2.1 hc.2.2
      · cases h
    · cases h
  · cases h
def opStep (P : Program) (steal : List Nat) (ops : Array Oper) (st : St) (o : Oper) : Option St :=
  match wantS ops st o with
  | some false => some (st.put o.dst (.tup []))
  | some true => match estep P steal st o with
    | some st' => some st'
    | none => match bop P st o with
      | some s => if locOk o.dst s then some (st.put o.dst s) else none
      | none => none
  | none => none
/-- So many operations from here on. -/
def runSeg (P : Program) (steal : List Nat) (ops : Array Oper) : Nat → Nat → St → Option St
  | 0, _, st => some st
  | n + 1, k, st => match ops[k]? with
    | some o => match opStep P steal ops st o with
      | some st' => runSeg P steal ops n (k + 1) st'
      | none => none
    | none => none
def OWk (P : Program) (pu : Bool) (ops : Array Oper) (k : Nat) (st : St) (Q : St → Prop) : Prop := OW P pu ops (ops.toList.drop k) st Q
variable {ops : Array Oper} {Q : St → Prop} {k : Nat}
theorem drop_cons (h : ops[k]? = some o) : ops.toList.drop k = o :: ops.toList.drop (k + 1) := by
  have hlt := arr_lt h
  rw [List.drop_eq_getElem_cons (by simpa using hlt)]
  grind
theorem OWk.fin (h : (ops.size ≤ k) = True) (hq : Q st) : OWk P pu ops k st Q := by
  have h : ops.size ≤ k := of_eq_true h
  unfold OWk
  rw [List.drop_of_length_le (by simpa using h)]
  exact OW.nil hq
theorem OWk.b (ho : ops[k]? = some o) (hw : wantS ops st o = some true) (hb : BStep P st o s) (hl : locOk o.dst s = true) (hst : st.put o.dst s = st') (h : OWk P pu ops (k + 1) st' Q) : OWk P pu ops k st Q := by
  subst hst
  unfold OWk at h ⊢
  rw [drop_cons ho]
  intro a w g hr Qc hq
  unfold wpList
  rw [wantS_sound hr hw, if_pos rfl]
  refine .inl ?_
  obtain ⟨v, e1, e2⟩ := hb a w g hr
  unfold Oper.wp
  rw [e2 w (Up.refl w), Oper.upon_value]
  exact h _ w g (hr.putBV e1 hl) Qc hq
theorem OWk.e (ho : ops[k]? = some o) (hw : wantS ops st o = some true) (he : OpS P pu st o st') (h : OWk P pu ops (k + 1) st' Q) : OWk P pu ops k st Q := by
  unfold OWk at h ⊢
  rw [drop_cons ho]
  exact OW.op hw he h
theorem OWk.seg (n : Nat) (hr : runSeg P steal ops n k st = some st') (h : OWk P pu ops (k + n) st' Q) : OWk P pu ops k st Q := by
  induction n generalizing k st with
  | zero => cases hr; exact h
  | succ n ih =>
    simp only [runSeg] at hr
    split at hr
    · rename_i o ho
      split at hr
      · rename_i st1 h1
        have ih' := ih hr (by grind)
        unfold opStep at h1
        split at h1
        · rename_i hw
          cases h1
          unfold OWk at ih' ⊢
          rw [drop_cons ho]
          exact OW.skip hw ih'
        · rename_i hw
          split at h1
          · rename_i st2 h2
            cases h1
            exact OWk.e ho hw (estep_sound h2) ih'
          · split at h1
            · rename_i s hb
              split at h1
              · rename_i hl
                cases h1
                exact OWk.b ho hw (BStep.of_bop hb) hl rfl ih'
              · cases h1
            · cases h1
        · cases h1
      · cases hr
    · cases hr
theorem OWk.call (tr : List Nat) {cs : CallS} (ho : ops[k]? = some o) (hw : wantS ops st o = some true) (hop : o.op = .call c)
    (hc : callS P st tr c = some ⟨f, args, ls, gs⟩) (hp : PC P f args r) (hr : resD r = true) (hlend : (ls.isEmpty || flatSV r) = true) (hst : (st.takes gs).put o.dst r = st') (h : OWk P pu ops (k + 1) st' Q) : OWk P pu ops k st Q := by
  subst hst
  unfold OWk at h ⊢
  rw [drop_cons ho]
  exact OW.call tr hw hop hc hp hr (by simpa using hlend) h
theorem SW.regionK {id : Nat} {Q : Exit → St → Prop} (h : OWk P pu ops 0 st (Q .normal)) : SW P pu (.region id ops false) st Q :=
  fun a w g hr => wp_region_list (h a w g hr _ fun st' _ _ g' q r f => ⟨st', g', q, r, f⟩)
/-! ## Forgetting -/
theorem Rel.forget (h : Rel st a w g) (t : Nat) : Rel (st.put (some t) .undef) a w g := by
  refine Rel.step h (by rw [St.put_len]; exact h.len) h.def0 (fun _ _ h => h) (fun t' s' hs' => ?_) (by rw [St.put_H]; exact h.hp)
  by_cases hne : t' = t
  · subst hne
    obtain ⟨rfl, -⟩ := St.put_get_same hs'
    exact .inl rfl
  · rcases St.put_get hne hs' with hu | ⟨h1, h2⟩
    · exact .inl hu
    · refine .inr (.inr ⟨h1, rfl, fun _ _ => Keep.refl _ _ _, fun s0 e => ⟨rfl, fun x hx hb => ⟨x, ?_, rfl⟩⟩⟩)
      refine St.put_big hx hb fun e2 => ?_
      cases e2
      have := h2 _ hx (bigK_heavy hb)
      rw [dep_mention e] at this
      cases this
/-- Slots are emptied. -/
def St.forget (st : St) : List Nat → St
  | [] => st
  | t :: ts => (st.put (some t) .undef).forget ts
theorem Rel.forgets : ∀ {ts : List Nat} {st : St}, Rel st a w g → Rel (st.forget ts) a w g
  | [], _, h => h
  | t :: ts, st, h => Rel.forgets (ts := ts) (st := st.put (some t) .undef) (h.forget t)
theorem SW.forget {Q : Exit → St → Prop} (ts : List Nat) (hst : st.forget ts = st') (h : SW P pu c st' Q) : SW P pu c st Q := by
  subst hst
  exact fun a w g hr => h a w g hr.forgets
/-- A loop, its head's state with forgotten slots. -/
theorem SW.loopF {α : Type} {x : α} {Q : Exit → St → Prop} (I : α → St) (μ : α → Nat) (ts : List Nat) (h0 : st.forget ts = I x) (round : ∀ x, SW P pu c (I x) (thenS (fun s' => ∃ y, s'.forget ts = I y ∧ μ y < μ x) Q)) : SW P pu (.loop c) st Q := by
  refine SW.forget ts h0 (SW.loop (x := x) I μ rfl fun x => ?_)
  intro a w g hr
  refine Code.wp_mono (fun e a' w' hh => ?_) (round x a w g hr)
  obtain ⟨st', g', q, r, f⟩ := hh
  cases e with
  | normal =>
    obtain ⟨y, h1, h2⟩ := q
    exact ⟨st'.forget ts, g', ⟨y, h1, h2⟩, r.forgets, f⟩
  | _ => exact ⟨st', g', q, r, f⟩
/-! ## Regions that draw their order -/
theorem Rel.drew (h : Rel st a w g) : Rel st a w.drew g := h.world (fun _ _ _ h1 h2 => ⟨h1, h2⟩) (fun _ _ h => h) rfl
theorem Fr.drew : Fr pu g w g w.drew := ⟨Nat.le_refl _, fun _ _ h1 h2 => ⟨h1, h2⟩, fun _ _ h1 h2 => ⟨h1, h2⟩, fun _ _ h => h, fun _ _ _ _ h1 h2 => ⟨h1, h2⟩, fun _ _ _ _ _ h1 h2 => ⟨h1, h2⟩, fun _ => rfl, ⟨rfl, rfl⟩⟩
/-- Operations that only read, from one number up to another. -/
def OB (P : Program) (ops : Array Oper) (l : List Oper) (st : St) (Q : St → Prop) : Prop :=
  ∀ a w g, Rel st a w g → ∀ Qc : Act → Prop, (∀ st' a' g', Q st' → Rel st' a' w g' → (∀ pu, Fr pu g w g' w) → Qc a') → wpStill P ops w Qc l a
def OBk (P : Program) (ops : Array Oper) (m k : Nat) (st : St) (Q : St → Prop) : Prop := OB P ops ((ops.toList.take m).drop k) st Q
theorem OBk.fin (h : (m ≤ k) = True) (hq : Q st) : OBk P ops m k st Q := by
  have h : m ≤ k := of_eq_true h
  unfold OBk
  rw [List.drop_of_length_le (by simp; omega)]
  exact fun a w g hr Qc hc => hc st a g hq hr fun _ => Fr.refl _ _ _
theorem drop_cons' (h : ops[k]? = some o) (hm : k < m) : (ops.toList.take m).drop k = o :: (ops.toList.take m).drop (k + 1) := by
  have hlt := arr_lt h
  rw [List.drop_eq_getElem_cons (by simp; omega)]
  grind
theorem OBk.b (hm : (k < m) = True) (ho : ops[k]? = some o) (hw : wantS ops st o = some true) (hb : BStep P st o s) (hl : locOk o.dst s = true) (hst : st.put o.dst s = st') (h : OBk P ops m (k + 1) st' Q) : OBk P ops m k st Q := by
  subst hst
  unfold OBk at h ⊢
  rw [drop_cons' ho (of_eq_true hm)]
  intro a w g hr Qc hc
  unfold wpStill
  rw [wantS_sound hr hw, if_pos rfl]
  obtain ⟨v, e1, e2⟩ := hb a w g hr
  unfold Oper.still
  rw [e2 w (Up.refl w), Oper.stillUpon_value]
  exact h _ w g (hr.putBV e1 hl) Qc hc
/-- A list goes from a slot to another one: the world stays. -/
theorem Rel.moveOwn (P : Program) {a : Act} {w : World} {g : Gh} (h : Rel st a w g) {o : Oper} {s n : Nat} {xs : List D} (hop : o.op = .move (.tmp s)) (hs : st.tmps[s]? = some (.own n xs)) :
    ∃ g', Rel ((st.take s).put o.dst (.own n xs)) (a.put o.dst (valOf a s)) w g' ∧ Fr pu g w g' w := by
  obtain ⟨a', w', g', r, e1, e2, e3, e4⟩ := OpS.move (P := P) (pu := pu) (.inl hop) hs a w g h
  have hexec : (execOp a.eval o).run P w = .ok (.value (valOf a s)) w := by unfold execOp; rw [hop]; rfl
  have h1 := e2 (fun x y => x = a.put o.dst (valOf a s) ∧ y = w) (fun _ _ _ => False)
  rw [← e1, hexec, Oper.upon_value] at h1
  grind
def stealB (steal : List Nat) (st : St) (o : Oper) : Option St :=
  match o.op with
  | .move (.tmp s) => match st.tmps[s]? with
    | some (.own n xs) => if (o.dst.map fun d => steal.contains d) = some true then some ((st.take s).put o.dst (.own n xs)) else none
    | _ => none
  | _ => none
theorem OBk.steal {m : Nat} {o : Oper} {steal : List Nat} {st' : St} (hm : (k < m) = True) (ho : ops[k]? = some o) (hw : wantS ops st o = some true) (hb : stealB steal st o = some st') (h : OBk P ops m (k + 1) st' Q) : OBk P ops m k st Q := by
  unfold stealB at hb
  split at hb
  · rename_i s hop
    split at hb
    · rename_i n xs hs
      split at hb
      · cases hb
        unfold OBk at h ⊢
        rw [drop_cons' ho (of_eq_true hm)]
        intro a w g hr Qc hc
        unfold wpStill
        rw [wantS_sound hr hw, if_pos rfl]
        have hexec : (execOp a.eval o).run P w = .ok (.value (valOf a s)) w := by unfold execOp; rw [hop]; rfl
        unfold Oper.still
        rw [hexec, Oper.stillUpon_value]
        obtain ⟨g', r, f⟩ := hr.moveOwn (pu := true) P hop hs
        exact h _ w g' r Qc fun st' a' g2 q r2 f2 => hc st' a' g2 q r2 fun pu => Fr.trans ⟨f.1, f.2, f.3, f.4, fun _ => f.5 rfl, fun _ => f.6 rfl, fun _ => f.7 rfl, f.8⟩ (f2 pu)
      · cases hb
    · cases hb
  · cases hb
def opStepB (P : Program) (steal : List Nat) (ops : Array Oper) (st : St) (o : Oper) : Option St :=
  match wantS ops st o with
  | some false => some (st.put o.dst (.tup []))
  | some true => match stealB steal st o with
    | some st' => some st'
    | none => match bop P st o with
      | some s => if locOk o.dst s then some (st.put o.dst s) else none
      | none => none
  | none => none
def runSegB (P : Program) (steal : List Nat) (ops : Array Oper) : Nat → Nat → St → Option St
  | 0, _, st => some st
  | n + 1, k, st => match ops[k]? with
    | some o => match opStepB P steal ops st o with
      | some st' => runSegB P steal ops n (k + 1) st'
      | none => none
    | none => none
theorem OBk.seg {m : Nat} {steal : List Nat} {st' : St} (n : Nat) (hm : (k + n ≤ m) = True) (hr : runSegB P steal ops n k st = some st') (h : OBk P ops m (k + n) st' Q) : OBk P ops m k st Q := by
  have hm : k + n ≤ m := of_eq_true hm
  induction n generalizing k st with
  | zero => cases hr; exact h
  | succ n ih =>
    simp only [runSegB] at hr
    split at hr
    · rename_i o ho
      split at hr
      · rename_i st1 h1
        have ih' := ih (eq_true (by omega)) hr (by grind) (by omega)
        have hkm : (k < m) = True := eq_true (by omega)
        unfold opStepB at h1
        split at h1
        · rename_i hw
          cases h1
          unfold OBk at ih' ⊢
          rw [drop_cons' ho (by omega)]
          intro a w g hr Qc hc
          unfold wpStill
          rw [wantS_sound hr hw, if_neg (by simp)]
          exact ih' _ w g (hr.putLight o.dst (v := undef) ⟨#[], rfl, rfl, by simp⟩) Qc hc
        · rename_i hw
          split at h1
          · rename_i st2 h2
            cases h1
            exact OBk.steal hkm ho hw h2 ih'
          · split at h1
            · rename_i s hb
              split at h1
              · rename_i hl
                cases h1
                exact OBk.b hkm ho hw (BStep.of_bop hb) hl rfl ih'
              · cases h1
            · cases h1
        · cases h1
      · cases hr
    · cases hr
/-- A region that draws its order, whose operations only read. -/
theorem SW.regionD {id : Nat} {l : List Oper} {Q : Exit → St → Prop} (hm : P.follows .mixedOrders = true) (hB : Region.lexB .any l.toArray = true) (h : OBk P l.toArray l.toArray.size 0 st (Q .normal)) : SW P pu (.region id l.toArray true) st Q := by
  intro a w g hr
  refine wp_region_still hm hB ?_
  unfold OBk at h
  rw [List.drop_zero, List.take_of_length_le (by simp)] at h
  exact h a w.drew g hr.drew _ fun st' a' g' q r f => ⟨st', g', q, r, Fr.drew.trans (f pu)⟩
/-- A region that draws its order: operations that only read, and then a tail in the order of the text. -/
theorem SW.regionT {id : Nat} {l : List Oper} {Q : Exit → St → Prop} (n : Nat) (hm : P.follows .mixedOrders = true) (hB : Region.lexTailB .any l.toArray n = true) (h : OBk P l.toArray n 0 st (fun st1 => OWk P pu l.toArray n st1 (Q .normal))) :
    SW P pu (.region id l.toArray true) st Q := by
  intro a w g hr
  refine wp_region_still_tail n hm hB ?_
  unfold OBk at h
  rw [List.drop_zero] at h
  exact h a w.drew g hr.drew _ fun st1 a1 g1 q1 r1 f1 => q1 a1 w.drew g1 r1 _ fun st' a' w' g' q r f => ⟨st', g', q, r, (Fr.drew.trans (f1 pu)).trans f⟩
end
end Go.Sh
namespace Go.Sh
/-! ## The plain side -/
/-- So many rounds at most. -/
def iter {α β : Type} (body : α → Option (α ⊕ β)) : Nat → α → Option β
  | 0, _ => none
  | n + 1, x => match body x with
    | some (.inl y) => iter body n y
    | some (.inr b) => some b
    | none => none
def idx {α : Type} (l : List α) (i : Int) : Option α := if 0 ≤ i then l[i.toNat]? else none
theorem idx_inv {α : Type} {l : List α} {x : α} (h : idx l i = some x) : 0 ≤ i ∧ l[i.toNat]? = some x := by
  unfold idx at h
  grind
theorem idx_map {α : Type} {l : List α} {x : α} (f : α → D) (h : idx l i = some x) : (l.map f)[i.toNat]? = some (f x) := by
  rw [List.getElem?_map, (idx_inv h).2]; rfl
def chk {α : Type} (b : Bool) (x : Option α) : Option α := bif b then x else none
section
variable {α β : Type} {a b : α} {c : Bool} {r : α}
theorem bif_t (hc : c = true) (h : (bif c then a else b) = r) : a = r := by subst hc; exact h
theorem bif_f (hc : c = false) (h : (bif c then a else b) = r) : b = r := by subst hc; exact h
theorem bind_inv {o : Option α} {f : α → Option β} {r : β} (h : o.bind f = some r) : ∃ x, o = some x ∧ f x = some r := by
  cases o with
  | none => cases h
  | some x => exact ⟨x, rfl, h⟩
theorem chk_inv {o : Option α} (h : chk c o = some r) : c = true ∧ o = some r := by
  unfold chk at h
  grind
theorem sum_inv {γ : Type} {s : β ⊕ γ} {f : β → α} {g : γ → α} (h : Sum.elim f g s = r) : (∃ x, s = .inl x ∧ f x = r) ∨ ∃ y, s = .inr y ∧ g y = r := by
  cases s with
  | inl x => exact .inl ⟨x, rfl, h⟩
  | inr y => exact .inr ⟨y, rfl, h⟩
end
/-! ## The shadow's side -/
section
variable {P : Program} {pu : Bool} {st : St} {ops : Array Oper} {k : Nat}
theorem thenS_n {n : St → Prop} {Q : Exit → St → Prop} (h : n s) : thenS n Q .normal s := h
theorem thenS_e {n : St → Prop} {Q : Exit → St → Prop} (h : Q (.exit i) s) : thenS n Q (.exit i) s := h
theorem thenS_r {n : St → Prop} {Q : Exit → St → Prop} (h : Q .ret s) : thenS n Q .ret s := h
theorem blockS_n {id : Nat} {Q : Exit → St → Prop} {s : St} (h : Q .normal s) : blockS id Q .normal s := h
theorem blockS_r {id : Nat} {Q : Exit → St → Prop} {s : St} (h : Q .ret s) : blockS id Q .ret s := h
theorem blockS_hit {id : Nat} {Q : Exit → St → Prop} {s : St} (h : Q .normal s) : blockS id Q (.exit id) s := by simp only [blockS, if_pos]; exact h
theorem blockS_miss {id id' : Nat} {Q : Exit → St → Prop} {s : St} (hne : (id' == id) = false) (h : Q (.exit id') s) : blockS id Q (.exit id') s := by
  have hne : id' ≠ id := by simpa using hne
  simp only [blockS, if_neg hne]; exact h
theorem wp_loop_fuel {γ β : Type} {c : Code} {Q : Exit → Act → World → Prop} (body : γ → Option (γ ⊕ β)) (I : γ → Act → World → Prop) (b : β)
    (round : ∀ x a w, I x a w → ∀ o, body x = some o → c.wp P (Exit.then (fun a' w' => ∃ y, o = .inl y ∧ I y a' w') (fun e a' w' => ∃ b', o = .inr b' ∧ (b' = b → Q e a' w'))) a w) :
    ∀ n x a w, I x a w → iter body n x = some b → (Code.loop c).wp P Q a w := by
  intro n
  intro x a w hI hit kb k cs
  have key : ∀ n x a w, I x a w → iter body n x = some b →
      ∃ e a' w', Q e a' w' ∧ Arrives P (lone (kb.at a (.code c :: .inLoop c :: k)) cs w) kb k cs e a' w' := by
    intro n
    induction n with
    | zero => intro x a w _ h; cases h
    | succ n ih =>
      intro x a w hI hit
      simp only [iter] at hit
      have hsome : ∃ o, body x = some o := by
        grind
      obtain ⟨o, ho⟩ := hsome
      obtain ⟨e, a₁, w₁, hq, harr⟩ := round x a w hI o ho kb (.inLoop c :: k) cs
      rw [ho] at hit
      cases e with
      | normal =>
        obtain ⟨y, rfl, hI₁⟩ := hq
        obtain ⟨e₂, a₂, w₂, hq₂, harr₂⟩ := ih y a₁ w₁ hI₁ hit
        exact ⟨e₂, a₂, w₂, hq₂, .of_steps (Steps.trans harr (.one step_inLoop)) harr₂⟩
      | exit id => obtain ⟨b', rfl, hq⟩ := hq; exact ⟨_, a₁, w₁, hq (by simpa using hit), .pass (x := .inLoop c) rfl (fun _ _ => .inl (by simp)) harr⟩
      | goto l => obtain ⟨b', rfl, hq⟩ := hq; exact ⟨_, a₁, w₁, hq (by simpa using hit), .pass (x := .inLoop c) rfl (fun _ _ => .inl (by simp)) harr⟩
      | ret => obtain ⟨b', rfl, hq⟩ := hq; exact ⟨_, a₁, w₁, hq (by simpa using hit), .pass (x := .inLoop c) rfl (fun _ _ => .inl (by simp)) harr⟩
      | panic ch => obtain ⟨b', rfl, hq⟩ := hq; exact ⟨_, a₁, w₁, hq (by simpa using hit), .pass (x := .inLoop c) rfl (fun _ _ => .inl (by simp)) harr⟩
      | outgrown => obtain ⟨b', rfl, hq⟩ := hq; exact ⟨_, a₁, w₁, hq (by simpa using hit), .pass (x := .inLoop c) rfl (fun _ _ => .inl (by simp)) harr⟩
  obtain ⟨e, a', w', hq, harr⟩ := key n x a w hI hit
  exact ⟨e, a', w', hq, .of_steps (.one step_loop) harr⟩
/-- A loop that a plain 'iter' tells: each round is a plain body. 'S': the state at a round's head (with emptied slots 'ts'); 'E': how the loop ends. -/
theorem SW.iter {γ β : Type} {c : Code} {Q : Exit → St → Prop} (ts : List Nat) {body : γ → Option (γ ⊕ β)} (S : γ → St) (E : β → Exit → St → Prop) {x : γ} {b : β} (hit : Sh.iter body fuel x = some b) (h0 : st.forget ts = S x)
    (round : ∀ x o, body x = some o → SW P pu c (S x) (thenS (fun s' => ∃ y, o = .inl y ∧ s'.forget ts = S y) (fun e s' => ∃ b, o = .inr b ∧ E b e s')))
    (after : ∀ e s', E b e s' → Q e s') : SW P pu (.loop c) st Q := by
  refine SW.forget ts h0 ?_
  intro a w g hr
  refine wp_loop_fuel (γ := γ) body (fun x a' w' => ∃ g', Rel (S x) a' w' g' ∧ Fr pu g w g' w') b (fun x a1 w1 ⟨g1, r1, f1⟩ o ho => ?_) fuel x a w ⟨g, hr, Fr.refl _ _ _⟩ hit
  refine Code.wp_mono (fun e a' w' hh => ?_) (round x o ho a1 w1 g1 r1)
  obtain ⟨st', g', q, r, f⟩ := hh
  cases e with
  | normal => obtain ⟨y, rfl, h1⟩ := q; exact ⟨y, rfl, g', h1 ▸ r.forgets, f1.trans f⟩
  | _ => obtain ⟨b', rfl, h1⟩ := q; exact ⟨b', rfl, fun e => ⟨st', g', after _ _ (e ▸ h1), r, f1.trans f⟩⟩
/-! ## Cases inside a region -/
theorem Rel.litTrue {a : Act} (h : Rel st a w g) (e : st = st') : Rel st' a w g := e ▸ h
/-- A truth value is known: the state with it. -/
theorem OWk.case {Q : St → Prop} (b : Bool) (S : Bool → St) (h0 : st = S b) (hT : b = true → OWk P pu ops k (S true) Q) (hF : b = false → OWk P pu ops k (S false) Q) : OWk P pu ops k st Q := by
  subst h0
  cases b
  · exact hF rfl
  · exact hT rfl
/-- Two ways that meet again. -/
theorem OWk.merge {Q : St → Prop} (n : Nat) (ts : List Nat) (b : Bool) (S S' : Bool → St) (h0 : st = S b) (hT : (runSeg P steal ops n k (S true)).map (·.forget ts) = some (S' true)) (hF : (runSeg P steal ops n k (S false)).map (·.forget ts) = some (S' false))
    (h : OWk P pu ops (k + n) (S' b) Q) : OWk P pu ops k st Q := by
  subst h0
  have key : (runSeg P steal ops n k (S b)).map (·.forget ts) = some (S' b) := by cases b <;> assumption
  simp only [Option.map_eq_some_iff] at key
  obtain ⟨st1, h1, h2⟩ := key
  refine OWk.seg n h1 ?_
  intro a w g hr
  exact h a w g (h2 ▸ hr.forgets)
theorem OWk.forget {Q : St → Prop} (ts : List Nat) (hst : st.forget ts = st') (h : OWk P pu ops k st' Q) : OWk P pu ops k st Q := by
  subst hst
  exact fun a w g hr => h a w g hr.forgets
/-- The same in other words. -/
theorem OWk.cast {Q : St → Prop} (e : st = st') (h : OWk P pu ops k st' Q) : OWk P pu ops k st Q := e ▸ h
theorem OBk.case {Q : St → Prop} (b : Bool) (S : Bool → St) (h0 : st = S b) (hT : b = true → OBk P ops m k (S true) Q) (hF : b = false → OBk P ops m k (S false) Q) : OBk P ops m k st Q := by
  subst h0
  cases b
  · exact hF rfl
  · exact hT rfl
/-! ## Nil as a list of one's own -/
theorem Rel.nilOwn {a : Act} (h : Rel st a w g) (ht : st.tmps[t]? = some (.d .nilS)) : Rel (st.set t (.own n [])) a w g := by
  have hlt := get_lt ht
  refine Rel.step h (by simp [St.set, h.len]) h.def0 (fun _ _ h => h) (fun t' s' hs' => ?_) h.hp
  by_cases hne : t = t'
  · subst hne
    simp only [St.set, List.getElem?_set_self hlt, Option.some.injEq] at hs'
    subst hs'
    refine .inr (.inl (.inl ⟨rfl, ?_⟩))
    exact Rd.nilS_inv (h.tmp t _ ht)
  · simp only [St.set, List.getElem?_set_ne hne] at hs'
    refine .inr (.inr ⟨hs', rfl, fun _ _ => Keep.refl _ _ _, fun s0 e => ⟨rfl, fun x hx hb => ⟨x, ?_, rfl⟩⟩⟩)
    simp only [St.set]
    by_cases h2 : t = s0
    · subst h2; rw [ht] at hx; cases hx; simp [bigK] at hb
    grind
def St.nils (st : St) : List (Nat × Nat) → St
  | [] => st
  | (t, n) :: l => (match st.tmps[t]? with | some (.d .nilS) => st.set t (.own n []) | _ => st).nils l
theorem Rel.nils {a : Act} : ∀ {l : List (Nat × Nat)} {st : St}, Rel st a w g → Rel (st.nils l) a w g
  | [], _, h => h
  | (t, n) :: l, st, h => by
    simp only [St.nils]
    refine Rel.nils ?_
    split
    · exact h.nilOwn (by assumption)
    · exact h
theorem SW.nils {c : Code} {Q : Exit → St → Prop} (l : List (Nat × Nat)) (hst : st.nils l = st') (h : SW P pu c st' Q) : SW P pu c st Q := by
  subst hst
  exact fun a w g hr => h a w g hr.nils
theorem OWk.nils {Q : St → Prop} (l : List (Nat × Nat)) (hst : st.nils l = st') (h : OWk P pu ops k st' Q) : OWk P pu ops k st Q := by
  subst hst
  exact fun a w g hr => h a w g hr.nils
/-! ## A function's end -/
/-- What the result variables hold at the end, computed. -/
def endV (P : Program) (rs : List ResultVar) (st : St) : Option SV :=
  match resVs P st rs with
  | some xs => if resOk xs && lentOk st rs xs then some (resS xs) else none
  | none => none
theorem endV_ok {r : SV} (h : endV P rs st = some r) : endOk P rs st r := by
  unfold endV at h
  split at h
  · rename_i xs hx
    split at h
    · rename_i hc
      rw [Bool.and_eq_true] at hc
      exact ⟨xs, hx, hc.1, hc.2, by simpa using h⟩
    · cases h
  · cases h
/-- How a body ends: as it is, or with nil lists taken as lists of one's own. -/
def EndQ (P : Program) (rs : List ResultVar) (H : List SObj) (r : SV) (e : Exit) (st : St) : Prop :=
  (e = .normal ∨ e = .ret) ∧ ∃ l, endV P rs (st.nils l) = some r ∧ st.H = H
theorem EndQ.ret {r : SV} (l : List (Nat × Nat)) (h : endV P rs (st.nils l) = some r) (hH : st.H = H) : EndQ P rs H r .ret st := ⟨.inr rfl, l, h, hH⟩
theorem EndQ.normal {r : SV} (l : List (Nat × Nat)) (h : endV P rs (st.nils l) = some r) (hH : st.H = H) : EndQ P rs H r .normal st := ⟨.inl rfl, l, h, hH⟩
theorem St.nils_H (l : List (Nat × Nat)) : ∀ st : St, (st.nils l).H = st.H := by
  induction l with
  | nil => intro st; rfl
  | cons p l ih =>
    intro st
    obtain ⟨t, n⟩ := p
    simp only [St.nils]
    rw [ih]
    split <;> rfl
theorem PC.of_SW {c : Code} {r : SV} (hf : P.funcs[f]? = some fn) (hb : fn.body = some c)
    (h : ∀ H, SW P true c (initSt fn.ntmps args H) (EndQ P fn.results.toList H r)) : PC P f args r := by
  intro H
  refine SC.of_SW hf hb ?_
  intro a w g hr
  refine Code.wp_mono (fun e a' w' hh => ?_) (h H a w g hr)
  obtain ⟨st', g', ⟨he, l, h1, h2⟩, r1, f⟩ := hh
  exact ⟨st'.nils l, g', ⟨he, endV_ok h1, by rw [St.nils_H]; exact h2⟩, r1.nils, f⟩
end
end Go.Sh
