/- Contracts of functions over plain data. -/
import Derived.Lib.QuietBelow
import Derived.Laws.Sem
import Derived.Laws.StructEq
import Derived.Laws.Cells
import Derived.Laws.Slices
import Derived.Laws.Strings
import Derived.Laws.Build
import Derived.Laws.BytesArg
import Derived.Tactics
import Derived.StillTail
import Derived.Laws.AppendOwn
import Derived.KernelRfl
set_option linter.all false
set_option autoImplicit true
set_option relaxedAutoImplicit true
namespace Go.Sh
inductive D where
 | bool (b : Bool)
 | int (k : IntKind) (n : Int)
 | str (l : List UInt8)
 | bW
 | list (n : Nat) (xs : List D)
 | agg (cs : List D)
 | nilIface
 | iface (t : TypeId) (x : D)
 | fn (f : Fn) (first caps : List D)
 | eZ
 | aL
 | ptr (i off : Nat)
 | aR (cs : List D)
 | et
 | map (i : Nat)
 | raw (v : Value)
 deriving Inhabited
def D.cells : D → List D
 | .agg cs => cs
 | x => [x]
def mk (l : List UInt8) : ByteArray := ⟨⟨l⟩⟩
theorem jv (l : List UInt8) : (mk l).size = l.length := rfl
inductive Loc where
 | slot (t : Nat)
 | comp (t j : Nat)
 | cell (t j : Nat)
 | ai (i j : Nat)
 | els
 deriving DecidableEq
inductive Own where
 | free
 | out
 | box (t : Nat)
 | obj (i : Nat)
 | lst (l : Loc)
 deriving DecidableEq
structure Gh where
 ow : Nat → Own
 ρ : List Nat
def Gh.upd (g : Gh) (k : Nat) (o : Own) : Gh := { g with ow := fun b => if b = k then o else g.ow b }
@[simp] theorem Gh.Bf (g : Gh) (k : Nat) (o : Own) : (g.upd k o).ow k = o := by simp [Gh.upd]
theorem Gh.qx (g : Gh) {k b : Nat} (o : Own) (h : b ≠ k) : (g.upd k o).ow b = g.ow b := by simp [Gh.upd, h]
@[simp] theorem Gh.Cv (g : Gh) (k : Nat) (o : Own) : (g.upd k o).ρ = g.ρ := rfl
inductive Rd (g : Gh) (w : World) : Value → D → Prop
 | bool {b} : Rd g w (.bool b) (.bool b)
 | int {k n} : Rd g w (.int k n) (.int k n)
 | str {l} : Rd g w (.string (mk l)) (.str l)
 | bW {a} : Rd g w (.slice a 0 0) .bW
 | iD {a cap n} : Rd g w (.slice a 0 cap) (.list n [])
 | list {k off len cap n : Nat} {xs : List D} {c : Array Value} {T : TypeId} {fz : Nat × Nat} (us : Nat → Nat → Value) (hk : g.ow k = .free) (hb : w.heap[k]? = some (.cells c T fz)) (hl : xs.length = len) (hp : len ≤ cap)
   (hn : ∀ (i : Nat) (x : D), xs[i]? = some x → x.cells.length = n)
   (hc : ∀ (i : Nat) (x : D), xs[i]? = some x → ∀ (j : Nat) (y : D), x.cells[j]? = some y → c[off + i * n + j]? = some (us i j) ∧ (us i j).oneCell' = true)
   (hr : ∀ (i : Nat) (x : D), xs[i]? = some x → ∀ (j : Nat) (y : D), x.cells[j]? = some y → Rd g w (us i j) y) :
   Rd g w (.slice (some ⟨k, off, none⟩) len cap) (.list n xs)
 | agg {vs : Array Value} {cs : List D} (hl : vs.size = cs.length) (us : Nat → Value) (hc : ∀ (j : Nat) (y : D), cs[j]? = some y → vs[j]? = some (us j) ∧ (us j).oneCell' = true)
   (hr : ∀ (j : Nat) (y : D), cs[j]? = some y → Rd g w (us j) y) : Rd g w (.agg vs) (.agg cs)
 | nilIface : Rd g w .nilIface .nilIface
 | iface {t v x} (h : Rd g w v x) : Rd g w (.iface t v) (.iface t x)
 | fn {f} {first caps : Array Value} {fs cs : List D} (hl1 : first.size = fs.length) (hl2 : caps.size = cs.length) (us1 us2 : Nat → Value)
   (hc1 : ∀ (j : Nat) (y : D), fs[j]? = some y → first[j]? = some (us1 j)) (hr1 : ∀ (j : Nat) (y : D), fs[j]? = some y → Rd g w (us1 j) y)
   (hc2 : ∀ (j : Nat) (y : D), cs[j]? = some y → caps[j]? = some (us2 j)) (hr2 : ∀ (j : Nat) (y : D), cs[j]? = some y → Rd g w (us2 j) y) :
   Rd g w (.func f first caps) (.fn f fs cs)
 | eZ : Rd g w .nilFunc .eZ
 | aL : Rd g w (.pointer none) .aL
 | ptr {i off k} (h : g.ρ[i]? = some k) : Rd g w (.pointer (some ⟨k, off, none⟩)) (.ptr i off)
 | aR {k off : Nat} {cs : List D} {c : Array Value} {T : TypeId} {fz : Nat × Nat} (us : Nat → Value) (hk : g.ow k = .free) (hb : w.heap[k]? = some (.cells c T fz))
   (hc : ∀ (j : Nat) (y : D), cs[j]? = some y → c[off + j]? = some (us j) ∧ (us j).oneCell' = true) (hr : ∀ (j : Nat) (y : D), cs[j]? = some y → Rd g w (us j) y) :
   Rd g w (.pointer (some ⟨k, off, none⟩)) (.aR cs)
 | et : Rd g w (.map none) .et
 | map {i k} (h : g.ρ[i]? = some k) : Rd g w (.map (some k)) (.map i)
 | raw {v : Value} (h : v.oneCell' = true) : Rd g w v (.raw v)
theorem Rd.gE {g : Gh} {w : World} {v : Value} (h : Rd g w v .bW) : ∃ a, v = .slice a 0 0 := by
 cases h; exact ⟨_, rfl⟩
def az (tag : Own) (g : Gh) (w : World) (g' : Gh) (w' : World) : Prop :=
 ∀ (k : Nat) (o : Obj), g.ow k = tag → w.heap[k]? = some o → g'.ow k = tag ∧ w'.heap[k]? = some o
def ck (g g' : Gh) : Prop := ∀ (i k : Nat), g.ρ[i]? = some k → g'.ρ[i]? = some k
theorem Rd.aG {g g' : Gh} {w w' : World} (h : az .free g w g' w') (hρ : ck g g') {v : Value} {x : D} (hr : Rd g w v x) : Rd g' w' v x := by
 induction hr with
 | bool => exact .bool
 | int => exact .int
 | str => exact .str
 | bW => exact .bW
 | iD => exact .iD
 | list us hk hb hl hp hn hc _ ih => exact .list us (h _ _ hk hb).1 (h _ _ hk hb).2 hl hp hn hc ih
 | agg hl us hc _ ih => exact .agg hl us hc ih
 | nilIface => exact .nilIface
 | iface _ ih => exact .iface ih
 | fn hl1 hl2 us1 us2 hc1 _ hc2 _ ih1 ih2 => exact .fn hl1 hl2 us1 us2 hc1 ih1 hc2 ih2
 | eZ => exact .eZ
 | aL => exact .aL
 | ptr h => exact .ptr (hρ _ _ h)
 | aR us hk hb hc _ ih => exact .aR us (h _ _ hk hb).1 (h _ _ hk hb).2 hc ih
 | et => exact .et
 | map h => exact .map (hρ _ _ h)
 | raw h => exact .raw h
theorem az.refl (tag : Own) (g : Gh) (w : World) : az tag g w g w := fun _ _ h1 h2 => ⟨h1, h2⟩
theorem ck.refl (g : Gh) : ck g g := fun _ _ h => h
theorem az.trans {tag : Own} {g1 g2 g3 : Gh} {w1 w2 w3 : World} (h : az tag g1 w1 g2 w2) (h' : az tag g2 w2 g3 w3) : az tag g1 w1 g3 w3 :=
 fun k o a b => let ⟨c, d⟩ := h k o a b; h' k o c d
def okL (l : Option Loc) : Own → Prop
 | .free => True
 | .lst l' => l = some l'
 | _ => False
def cN (g : Gh) (w : World) (l : Option Loc) (v : Value) (n : Nat) (xs : List D) : Prop :=
 (xs = [] ∧ ∃ a cap, v = .slice a 0 cap) ∨
 ∃ (k off cap : Nat) (c : Array Value) (T : TypeId) (fz : Nat × Nat) (us : Nat → Nat → Value), v = .slice (some ⟨k, off, none⟩) xs.length cap ∧ okL l (g.ow k) ∧ w.heap[k]? = some (.cells c T fz) ∧ xs.length ≤ cap ∧
  (∀ (i : Nat) (x : D), xs[i]? = some x → x.cells.length = n) ∧
  (∀ (i : Nat) (x : D), xs[i]? = some x → ∀ (j : Nat) (y : D), x.cells[j]? = some y → c[off + i * n + j]? = some (us i j) ∧ (us i j).oneCell' = true) ∧
  (∀ (i : Nat) (x : D), xs[i]? = some x → ∀ (j : Nat) (y : D), x.cells[j]? = some y → Rd g w (us i j) y)
def jM (g : Gh) (w : World) (l : Option Loc) (v : Value) (cs : List D) : Prop :=
 ∃ (k off : Nat) (c : Array Value) (T : TypeId) (fz : Nat × Nat) (us : Nat → Value), v = .pointer (some ⟨k, off, none⟩) ∧ okL l (g.ow k) ∧ w.heap[k]? = some (.cells c T fz) ∧
  (∀ (j : Nat) (y : D), cs[j]? = some y → c[off + j]? = some (us j) ∧ (us j).oneCell' = true) ∧ (∀ (j : Nat) (y : D), cs[j]? = some y → Rd g w (us j) y)
theorem gC {o : Own} : okL none o ↔ o = .free := by cases o <;> simp [okL]
theorem Ap {l : Option Loc} {o : Own} (h : okL none o) : okL l o := by rw [gC.1 h]; trivial
theorem Rd.toList {g : Gh} {w : World} {v : Value} {n : Nat} {xs : List D} (h : Rd g w v (.list n xs)) : cN g w none v n xs := by
 cases h with
 | iD => exact .inl ⟨rfl, _, _, rfl⟩
 | list us hk hb hl hp hn hc hr => subst hl; exact .inr ⟨_, _, _, _, _, _, us, rfl, gC.2 hk, hb, hp, hn, hc, hr⟩
theorem cN.xa {g : Gh} {w : World} {v : Value} {n : Nat} {xs : List D} (h : cN g w none v n xs) : Rd g w v (.list n xs) := by
 rcases h with ⟨rfl, a, cap, rfl⟩ | ⟨k, off, cap, c, T, fz, us, rfl, hk, hb, hp, hn, hc, hr⟩
 ·exact .iD
 ·exact .list us (gC.1 hk) hb rfl hp hn hc hr
theorem Rd.Bg {g : Gh} {w : World} {v : Value} {cs : List D} (h : Rd g w v (.aR cs)) : jM g w none v cs := by
 cases h with
 | aR us hk hb hc hr => exact ⟨_, _, _, _, _, us, rfl, gC.2 hk, hb, hc, hr⟩
theorem jM.xa {g : Gh} {w : World} {v : Value} {cs : List D} (h : jM g w none v cs) : Rd g w v (.aR cs) := by
 obtain ⟨k, off, c, T, fz, us, rfl, hk, hb, hc, hr⟩ := h
 exact .aR us (gC.1 hk) hb hc hr
theorem cN.up {g : Gh} {w : World} {l : Option Loc} {v : Value} {n : Nat} {xs : List D} (h : cN g w none v n xs) : cN g w l v n xs := by
 rcases h with h | ⟨k, off, cap, c, T, fz, us, hv, hk, h⟩
 ·exact .inl h
 ·exact .inr ⟨k, off, cap, c, T, fz, us, hv, Ap hk, h⟩
theorem sU {l : Option Loc} {g g' : Gh} {w w' : World} {k : Nat} {o : Obj} (h : az .free g w g' w') (h' : ∀ l', l = some l' → az (.lst l') g w g' w')
  (hk : okL l (g.ow k)) (hb : w.heap[k]? = some o) : okL l (g'.ow k) ∧ w'.heap[k]? = some o := by
 cases ho : g.ow k <;> simp only [ho, okL] at hk
 ·obtain ⟨a, b⟩ := h k o ho hb; exact ⟨by rw [a]; trivial, b⟩
 ·obtain ⟨a, b⟩ := h' _ hk k o ho hb; exact ⟨by rw [a]; exact hk, b⟩
theorem cN.aG {l : Option Loc} {g g' : Gh} {w w' : World} {v : Value} {n : Nat} {xs : List D} (h : az .free g w g' w') (h' : ∀ l', l = some l' → az (.lst l') g w g' w')
  (hρ : ck g g') (hr : cN g w l v n xs) : cN g' w' l v n xs := by
 rcases hr with hr | ⟨k, off, cap, c, T, fz, us, hv, hk, hb, hp, hn, hc, hr⟩
 ·exact .inl hr
 ·obtain ⟨a, b⟩ := sU h h' hk hb
  exact .inr ⟨k, off, cap, c, T, fz, us, hv, a, b, hp, hn, hc, fun i x hx j y hy => (hr i x hx j y hy).aG h hρ⟩
theorem jM.aG {l : Option Loc} {g g' : Gh} {w w' : World} {v : Value} {cs : List D} (h : az .free g w g' w') (h' : ∀ l', l = some l' → az (.lst l') g w g' w')
  (hρ : ck g g') (hr : jM g w l v cs) : jM g' w' l v cs := by
 obtain ⟨k, off, c, T, fz, us, hv, hk, hb, hc, hr⟩ := hr
 obtain ⟨a, b⟩ := sU h h' hk hb
 exact ⟨k, off, c, T, fz, us, hv, a, b, hc, fun j y hy => (hr j y hy).aG h hρ⟩
def cq (w w' : World) : Prop := w'.os = w.os ∧ w'.output = w.output
theorem cq.refl (w : World) : cq w w := ⟨rfl, rfl⟩
theorem cq.trans {w1 w2 w3 : World} (h : cq w1 w2) (h' : cq w2 w3) : cq w1 w3 := ⟨h'.1.trans h.1, h'.2.trans h.2⟩
structure Fr (pu : Bool) (g : Gh) (w : World) (g' : Gh) (w' : World) : Prop where
 size : w.heap.size ≤ w'.heap.size
 free : az .free g w g' w'
 out : az .out g w g' w'
 rho : ck g g'
 obj : pu = true → ∀ i, az (.obj i) g w g' w'
 ai : pu = true → ∀ i j, az (.lst (.ai i j)) g w g' w'
 len : pu = true → g'.ρ = g.ρ
 os : cq w w' := by exact ⟨rfl, rfl⟩
theorem Fr.refl (pu : Bool) (g : Gh) (w : World) : Fr pu g w g w := ⟨Nat.le_refl _, az.refl _ _ _, az.refl _ _ _, ck.refl _, fun _ _ => az.refl _ _ _, fun _ _ _ => az.refl _ _ _, fun _ => rfl, cq.refl _⟩
theorem Fr.trans {pu : Bool} {g1 g2 g3 : Gh} {w1 w2 w3 : World} (h : Fr pu g1 w1 g2 w2) (h' : Fr pu g2 w2 g3 w3) : Fr pu g1 w1 g3 w3 :=
 ⟨Nat.le_trans h.size h'.size, h.free.trans h'.free, h.out.trans h'.out, fun i k a => h'.rho i k (h.rho i k a), fun p i => (h.obj p i).trans (h'.obj p i), fun p i j => (h.ai p i j).trans (h'.ai p i j),
  fun p => (h'.len p).trans (h.len p), h.os.trans h'.os⟩
theorem Fr.of {pu : Bool} {g g' : Gh} {w w' : World} (X : Own → Prop) (hx : ∀ o, X o → o ≠ .free ∧ o ≠ .out ∧ (∀ i, o ≠ .obj i) ∧ ∀ i j, o ≠ .lst (.ai i j)) (hs : w.heap.size ≤ w'.heap.size)
  (hk : ∀ o, ¬ X o → az o g w g' w') (hρ : g'.ρ = g.ρ) (hos : cq w w' := by exact ⟨rfl, rfl⟩) : Fr pu g w g' w' :=
 ⟨hs, hk _ fun h => (hx _ h).1 rfl, hk _ fun h => (hx _ h).2.1 rfl, fun i k h => by rw [hρ]; exact h, fun _ i => hk _ fun h => (hx _ h).2.2.1 i rfl, fun _ i j => hk _ fun h => (hx _ h).2.2.2 i j rfl, fun _ => hρ, hos⟩
end Go.Sh
namespace Go.Sh
inductive SV where
 | d (x : D)
 | own (n : Nat) (xs : List D)
 | bf (l : Loc) (n : Nat) (xs : List D)
 | bO (l : Loc) (cs : List D)
 | box (cs : List SV)
 | loc (s off : Nat)
 | tup (vs : List SV)
 | undef
 | als (s : Nat)
 | ep (s n j : Nat)
 | pin (v : Value) (n : Nat) (xs : List D)
 deriving Inhabited
inductive ar where
 | cells (cs : List SV)
 | map (es : List (D × D))
 | hole
 | iter (kb clock : Nat)
 | zk (kb clock : Nat) (ms : Array MapEntry) (es : List (D × D))
 | bld (T e : TypeId) (bs : List UInt8)
 deriving Inhabited
structure St where
 tmps : List SV
 H : List ar
def bA (g : Gh) (w : World) (o : Loc) (v : Value) (n : Nat) (xs : List D) : Prop :=
 (xs = [] ∧ ∃ a, v = .slice a 0 0) ∨
 ∃ (k off cap : Nat) (c : Array Value) (T : TypeId) (us : Nat → Nat → Value), v = .slice (some ⟨k, off, none⟩) xs.length cap ∧ g.ow k = .lst o ∧
  w.heap[k]? = some (.cells c T (0, 0)) ∧ xs.length ≤ cap ∧ off + cap * n ≤ c.size ∧
  (∀ (i : Nat) (x : D), xs[i]? = some x → x.cells.length = n) ∧
  (∀ (i : Nat) (x : D), xs[i]? = some x → ∀ (j : Nat) (y : D), x.cells[j]? = some y → c[off + i * n + j]? = some (us i j) ∧ (us i j).oneCell' = true) ∧
  (∀ (i : Nat) (x : D), xs[i]? = some x → ∀ (j : Nat) (y : D), x.cells[j]? = some y → Rd g w (us i j) y)
def RC (g : Gh) (w : World) (o : Loc) (v : Value) : SV → Prop
 | .d x => Rd g w v x
 | .own n xs => bA g w o v n xs
 | .undef => True
 | _ => False
def dt : SV → Nat
 | .box _ => 1
 | .own _ _ => 2
 | .pin _ _ _ => 2
 | _ => 0
def dep : SV → Option Nat
 | .loc s _ => some s
 | .als s => some s
 | .ep s _ _ => some s
 | _ => none
def RS (g : Gh) (w : World) (tm : List SV) (val : Nat → Value) (t : Nat) (v : Value) : SV → Prop
 | .d x => Rd g w v x
 | .own n xs => bA g w (.slot t) v n xs
 | .bf l n xs => cN g w (some l) v n xs
 | .bO l cs => jM g w (some l) v cs
 | .box cs => ∃ (k : Nat) (c : Array Value) (T : TypeId), v = .pointer (some ⟨k, 0, none⟩) ∧ g.ow k = .box t ∧ w.heap[k]? = some (.cells c T (0, 0)) ∧ c.size = cs.length ∧
   ∀ (j : Nat) (s : SV), cs[j]? = some s → ∃ u, c[j]? = some u ∧ RC g w (.cell t j) u s ∧ u.oneCell' = true
 | .loc s off => (∃ cs, tm[s]? = some (.box cs)) ∧ ∃ k, val s = .pointer (some ⟨k, 0, none⟩) ∧ v = .pointer (some ⟨k, off, none⟩)
 | .tup vs => ∃ us : Array Value, v = .tuple us ∧ us.size = vs.length ∧ ∀ (j : Nat) (s : SV), vs[j]? = some s → ∃ u, us[j]? = some u ∧ RC g w (.comp t j) u s
 | .undef => True
 | .als s => (∃ x, tm[s]? = some x ∧ dt x = 2) ∧ v = val s
 | .ep s n j => (∃ x, tm[s]? = some x ∧ dt x = 2) ∧ ∃ k off len cap, val s = .slice (some ⟨k, off, none⟩) len cap ∧ v = .pointer (some ⟨k, off + j * n, none⟩)
 | .pin v0 n xs => v = v0 ∧ bA g w (.slot t) v n xs
def u5 (ms : Array MapEntry) (clock : Nat) : Prop := (∀ m, m ∈ ms.toList → m.born < clock) ∧ (ms.toList.map (·.born)).Nodup
def zP (g : Gh) (w : World) (i k : Nat) (T e : TypeId) (bs : List UInt8) (p v : Value) : Prop :=
 w.heap[k]? = some (.cells #[p, v] T (0, 0)) ∧ (p = .pointer none ∨ p = .pointer (some ⟨k, 0, none⟩)) ∧
 ((v = .slice none 0 0 ∧ bs = []) ∨ ∃ (r cap : Nat) (cur : Array Value) (fz : Nat × Nat), v = .slice (some ⟨r, 0, none⟩) bs.length cap ∧ bs ≠ [] ∧ g.ow r = .lst (.ai i 1) ∧ w.heap[r]? = some (.cells cur e fz) ∧
  fz.2 ≤ bs.length ∧ bs.length ≤ cap ∧ cap ≤ maxLen ∧ cur.size = cap ∧ cur.toList.take bs.length = bs.map (fun x => Value.int .u8 x.toNat))
def RO (g : Gh) (w : World) (i : Nat) : ar → Prop
 | .cells cs => ∃ (k : Nat) (c : Array Value) (T : TypeId), g.ρ[i]? = some k ∧ g.ow k = .obj i ∧ w.heap[k]? = some (.cells c T (0, 0)) ∧ c.size = cs.length ∧
   ∀ (j : Nat) (s : SV), cs[j]? = some s → ∃ u, c[j]? = some u ∧ RC g w (.ai i j) u s ∧ u.oneCell' = true
 | .map es => ∃ (k : Nat) (ms : Array MapEntry) (clock : Nat), g.ρ[i]? = some k ∧ g.ow k = .obj i ∧ w.heap[k]? = some (.map ms clock) ∧ ms.size = es.length ∧ u5 ms clock ∧
   ∀ (j : Nat) (p : D × D), es[j]? = some p → ∃ m, ms[j]? = some m ∧ Rd g w m.key p.1 ∧ Rd g w m.val p.2
 | .hole => True
 | .iter kb clock => ∃ k : Nat, g.ρ[i]? = some k ∧ g.ow k = .obj i ∧ w.heap[k]? = some (.mapIter (some kb) clock #[] clock)
 | .zk kb clock ms es => g.ρ[i]? = some kb ∧ g.ow kb = .obj i ∧ w.heap[kb]? = some (.map ms clock) ∧ ms.size = es.length ∧ u5 ms clock ∧
   ∀ (j : Nat) (p : D × D), es[j]? = some p → ∃ m, ms[j]? = some m ∧ Rd g w m.key p.1 ∧ Rd g w m.val p.2
 | .bld T e bs => ∃ (k : Nat) (p v : Value), g.ρ[i]? = some k ∧ g.ow k = .obj i ∧ zP g w i k T e bs p v
def RH (g : Gh) (w : World) (H : List ar) : Prop := g.ρ.length = H.length ∧ ∀ (i : Nat) (o : ar), H[i]? = some o → RO g w i o
def valOf (a : Act) (t : Nat) : Value := a.tmps.getD t undef
structure Rel (st : St) (a : Act) (w : World) (g : Gh) : Prop where
 len : a.tmps.size = st.tmps.length
 cH : a.defers = []
 tmp : ∀ (t : Nat) (s : SV), st.tmps[t]? = some s → RS g w st.tmps (valOf a) t (valOf a t) s
 hp : RH g w st.H
def eS (t : Nat) : SV → Own → Prop
 | .d _, o => o = .free
 | .own _ _, o => o = .free ∨ o = .lst (.slot t)
 | .bf l _ _, o => o = .free ∨ o = .lst l
 | .bO l _, o => o = .free ∨ o = .lst l
 | .box _, o => o = .free ∨ o = .box t ∨ ∃ j, o = .lst (.cell t j)
 | .loc _ _, _ => False
 | .tup _, o => o = .free ∨ ∃ j, o = .lst (.comp t j)
 | .undef, _ => False
 | .als _, _ => False
 | .ep _ _ _, _ => False
 | .pin _ _ _, o => o = .free ∨ o = .lst (.slot t)
theorem bA.aG {g g' : Gh} {w w' : World} {o : Loc} {v : Value} {n : Nat} {xs : List D} (h0 : az .free g w g' w') (h1 : az (.lst o) g w g' w') (hρ : ck g g')
  (h : bA g w o v n xs) : bA g' w' o v n xs := by
 rcases h with h | ⟨k, off, cap, c, T, us, hv, hk, hb, hl, hz, hn, hc, hr⟩
 ·exact .inl h
 ·obtain ⟨hk', hb'⟩ := h1 k _ hk hb
  exact .inr ⟨k, off, cap, c, T, us, hv, hk', hb', hl, hz, hn, hc, fun i x hx j y hy => (hr i x hx j y hy).aG h0 hρ⟩
theorem RC.aG {g g' : Gh} {w w' : World} {o : Loc} {v : Value} {s : SV} (h0 : az .free g w g' w') (h1 : az (.lst o) g w g' w') (hρ : ck g g')
  (h : RC g w o v s) : RC g' w' o v s := by
 cases s <;> simp only [RC] at h ⊢
 ·exact h.aG h0 hρ
 ·exact h.aG h0 h1 hρ
theorem yo {tm : List SV} {s : Nat} {x : SV} {cs : List SV} (h : tm[s]? = some x) (hk : dt x = dt (.box cs)) : ∃ cs', tm[s]? = some (.box cs') := by
 cases x <;> simp [dt] at hk
 exact ⟨_, h⟩
theorem RS.aG {g g' : Gh} {w w' : World} {tm tm' : List SV} {val val' : Nat → Value} {t : Nat} {v : Value} {s : SV} (hk : ∀ o, eS t s o → az o g w g' w') (hρ : ck g g')
  (hl : ∀ s', dep s = some s' → val' s' = val s' ∧ ∀ x, tm[s']? = some x → dt x ≠ 0 → ∃ x', tm'[s']? = some x' ∧ dt x' = dt x)
  (h : RS g w tm val t v s) : RS g' w' tm' val' t v s := by
 cases s with
 | d x => exact Rd.aG (hk _ rfl) hρ h
 | own n xs => exact bA.aG (hk _ (.inl rfl)) (hk _ (.inr rfl)) hρ h
 | bf l n xs => exact cN.aG (hk _ (.inl rfl)) (fun l' e => by cases e; exact hk _ (.inr rfl)) hρ h
 | bO l cs => exact jM.aG (hk _ (.inl rfl)) (fun l' e => by cases e; exact hk _ (.inr rfl)) hρ h
 | box cs =>
  obtain ⟨k, c, T, hv, ho, hb, hs, hc⟩ := h
  obtain ⟨ho', hb'⟩ := hk (.box t) (.inr (.inl rfl)) k _ ho hb
  exact ⟨k, c, T, hv, ho', hb', hs, fun j s hj => let ⟨u, h1, h2, h3⟩ := hc j s hj; ⟨u, h1, h2.aG (hk _ (.inl rfl)) (hk _ (.inr (.inr ⟨j, rfl⟩))) hρ, h3⟩⟩
 | loc s' off =>
  obtain ⟨⟨cs, hcs⟩, k, h1, h2⟩ := h
  obtain ⟨hv, hb⟩ := hl s' rfl
  obtain ⟨x', e1, e2⟩ := hb _ hcs (by simp [dt])
  exact ⟨yo e1 e2, k, by rw [hv]; exact h1, h2⟩
 | als s' =>
  obtain ⟨⟨x, h1, h2⟩, h3⟩ := h
  obtain ⟨hv, hb⟩ := hl s' rfl
  obtain ⟨x', e1, e2⟩ := hb x h1 (by omega)
  exact ⟨⟨x', e1, by omega⟩, by rw [hv]; exact h3⟩
 | ep s' n j =>
  obtain ⟨⟨x, h1, h2⟩, h3⟩ := h
  obtain ⟨hv, hb⟩ := hl s' rfl
  obtain ⟨x', e1, e2⟩ := hb x h1 (by omega)
  exact ⟨⟨x', e1, by omega⟩, by rw [hv]; exact h3⟩
 | tup vs =>
  obtain ⟨us, hv, hs, hc⟩ := h
  exact ⟨us, hv, hs, fun j s hj => let ⟨u, h1, h2⟩ := hc j s hj; ⟨u, h1, h2.aG (hk _ (.inl rfl)) (hk _ (.inr ⟨j, rfl⟩)) hρ⟩⟩
 | undef => trivial
 | pin v0 n xs => exact ⟨h.1, bA.aG (hk _ (.inl rfl)) (hk _ (.inr rfl)) hρ h.2⟩
def gv : Own → Prop
 | .free | .obj _ | .lst (.ai _ _) => True
 | _ => False
theorem zP.aG {g g' : Gh} {w w' : World} {i k : Nat} {T e : TypeId} {bs : List UInt8} {p v : Value} (h2 : az (.lst (.ai i 1)) g w g' w') (hk : w'.heap[k]? = w.heap[k]?) (h : zP g w i k T e bs p v) : zP g' w' i k T e bs p v := by
 obtain ⟨b1, b2, b3⟩ := h
 refine ⟨hk.trans b1, b2, ?_⟩
 rcases b3 with b3 | ⟨r, cap, cur, fz, c1, c2, c3, c4, c5, c6, c7, c8, c9⟩
 ·exact .inl b3
 ·obtain ⟨d1, d2⟩ := h2 r _ c3 c4
  exact .inr ⟨r, cap, cur, fz, c1, c2, d1, d2, c5, c6, c7, c8, c9⟩
theorem RO.aG {g g' : Gh} {w w' : World} {i : Nat} {o : ar} (hk : ∀ o, gv o → az o g w g' w') (hρ : ck g g') (h : RO g w i o) : RO g' w' i o := by
 cases o with
 | cells cs =>
  obtain ⟨k, c, T, hr, ho, hb, hs, hc⟩ := h
  obtain ⟨ho', hb'⟩ := hk (.obj i) trivial k _ ho hb
  exact ⟨k, c, T, hρ _ _ hr, ho', hb', hs, fun j s hj => let ⟨u, h1, h2, h3⟩ := hc j s hj; ⟨u, h1, h2.aG (hk _ trivial) (hk _ trivial) hρ, h3⟩⟩
 | map es =>
  obtain ⟨k, ms, clock, hr, ho, hb, hs, hbo, hc⟩ := h
  obtain ⟨ho', hb'⟩ := hk (.obj i) trivial k _ ho hb
  exact ⟨k, ms, clock, hρ _ _ hr, ho', hb', hs, hbo, fun j p hj => let ⟨m, h1, h2, h3⟩ := hc j p hj; ⟨m, h1, h2.aG (hk _ trivial) hρ, h3.aG (hk _ trivial) hρ⟩⟩
 | hole => trivial
 | iter kb clock =>
  obtain ⟨k, hr, ho, hb⟩ := h
  obtain ⟨ho', hb'⟩ := hk (.obj i) trivial k _ ho hb
  exact ⟨k, hρ _ _ hr, ho', hb'⟩
 | zk kb clock ms es =>
  obtain ⟨hr, ho, hb, hs, hbo, hc⟩ := h
  obtain ⟨ho', hb'⟩ := hk (.obj i) trivial kb _ ho hb
  exact ⟨hρ _ _ hr, ho', hb', hs, hbo, fun j p hj => let ⟨m, h1, h2, h3⟩ := hc j p hj; ⟨m, h1, h2.aG (hk _ trivial) hρ, h3.aG (hk _ trivial) hρ⟩⟩
 | bld T e bs =>
  obtain ⟨k, p, v, hr, ho, hb⟩ := h
  obtain ⟨ho', hb'⟩ := hk (.obj i) trivial k _ ho hb.1
  exact ⟨k, p, v, hρ _ _ hr, ho', hb.aG (hk _ trivial) (hb'.trans hb.1.symm)⟩
def bV (t0 : Nat) : SV → Bool
 | .loc s _ => s == t0
 | .als s => s == t0
 | .ep s _ _ => s == t0
 | .bf (.slot s) _ _ | .bO (.slot s) _ | .bf (.cell s _) _ _ | .bO (.cell s _) _ | .bf (.comp s _) _ _ | .bO (.comp s _) _ => s == t0
 | _ => false
def mv : SV → Bool
 | .own _ _ | .box _ | .tup (_ :: _) | .pin _ _ _ => true
 | _ => false
theorem gr {g : Gh} {w : World} {tm : List SV} {val : Nat → Value} {t s' : Nat} {v : Value} {s : SV} (h : RS g w tm val t v s) (hd : dep s = some s') : ∃ x, tm[s']? = some x ∧ dt x ≠ 0 := by
 cases s <;> simp [dep] at hd
 ·obtain ⟨⟨cs, hcs⟩, -⟩ := h; subst hd; exact ⟨_, hcs, by simp [dt]⟩
 ·obtain ⟨⟨x, h1, h2⟩, -⟩ := h; subst hd; exact ⟨x, h1, by omega⟩
 ·obtain ⟨⟨x, h1, h2⟩, -⟩ := h; subst hd; exact ⟨x, h1, by omega⟩
theorem bJ {s : SV} {s' : Nat} (hd : dep s = some s') : bV s' s = true := by cases s <;> simp [dep] at hd <;> simp [bV, hd]
theorem dV {x : SV} (h : dt x ≠ 0) : mv x = true := by cases x <;> simp [dt] at h <;> rfl
theorem cF {x : SV} (h : dt x ≠ 0) (t : Nat) : bV t x = false := by cases x <;> simp [dt] at h <;> rfl
def St.kill (st : St) (t0 : Nat) : St := { st with tmps := st.tmps.map fun s => if bV t0 s then .undef else s }
def St.set (st : St) (t : Nat) (s : SV) : St := { st with tmps := st.tmps.set t s }
def St.put (st : St) (dst : Option Tmp) (s : SV) : St :=
 match dst with
 | none => st
 | some t => match st.tmps[t]? with
  | some old => if mv old then (st.kill t).set t s else st.set t s
  | none => st
end Go.Sh
namespace Go.Sh
theorem bj {a : Act} {d : Option Tmp} {v : Value} {t : Nat} (h : d ≠ some t) : valOf (a.put d v) t = valOf a t := by
 cases d with
 | none => rfl
 | some e =>
  have : e ≠ t := fun h' => h (by rw [h'])
  simp [valOf, Act.put, Array.getD_eq_getD_getElem?, Array.getElem?_setIfInBounds_ne this]
theorem bb {a : Act} {v : Value} {t : Nat} (h : t < a.tmps.size) : valOf (a.put (some t) v) t = v := by
 simp [valOf, Act.put, Array.getD_eq_getD_getElem?, h]
theorem cm {a : Act} {d : Option Tmp} {v : Value} : (a.put d v).tmps.size = a.tmps.size := by
 cases d <;> simp [Act.put]
theorem put_defers {a : Act} {d : Option Tmp} {v : Value} : (a.put d v).defers = a.defers := by
 cases d <;> rfl
@[simp] theorem St.ta (st : St) (t : Nat) : (st.kill t).tmps.length = st.tmps.length := by simp [St.kill]
@[simp] theorem St.vp (st : St) (t : Nat) (s : SV) : (st.set t s).tmps.length = st.tmps.length := by simp [St.set]
@[simp] theorem St.eg (st : St) (d : Option Tmp) (s : SV) : (st.put d s).tmps.length = st.tmps.length := by
 cases d with
 | none => rfl
 | some t => simp only [St.put]; split <;> (try split) <;> simp
@[simp] theorem St.CE (st : St) (t : Nat) : (st.kill t).H = st.H := rfl
@[simp] theorem St.Bn (st : St) (t : Nat) (s : SV) : (st.set t s).H = st.H := rfl
@[simp] theorem St.nD (st : St) (d : Option Tmp) (s : SV) : (st.put d s).H = st.H := by
 cases d with
 | none => rfl
 | some t => simp only [St.put]; split <;> (try split) <;> rfl
theorem St.kn {st : St} {t0 t : Nat} {s : SV} (h : (st.kill t0).tmps[t]? = some s) : s = .undef ∨ (st.tmps[t]? = some s ∧ bV t0 s = false) := by
 simp only [St.kill, List.getElem?_map, Option.map_eq_some_iff] at h
 obtain ⟨s', h1, h2⟩ := h
 split at h2
 ·exact .inl h2.symm
 ·rename_i hm
  subst h2
  exact .inr ⟨h1, by simpa using hm⟩
theorem St.gU {st : St} {t0 t : Nat} {s s' : SV} (hne : t ≠ t0) (h : (st.put (some t0) s).tmps[t]? = some s') :
  s' = .undef ∨ (st.tmps[t]? = some s' ∧ ∀ old, st.tmps[t0]? = some old → mv old = true → bV t0 s' = false) := by
 simp only [St.put] at h
 split at h
 ·rename_i old ho
  split at h
  ·simp only [St.set, List.getElem?_set_ne (Ne.symm hne)] at h
   rcases St.kn h with h | ⟨h1, h2⟩
   ·exact .inl h
   ·exact .inr ⟨h1, fun _ _ _ => h2⟩
  ·rename_i hh
   simp only [St.set, List.getElem?_set_ne (Ne.symm hne)] at h
   exact .inr ⟨h, fun old' e hh' => by rw [ho] at e; cases e; exact absurd hh' hh⟩
 ·rename_i hn
  exact .inr ⟨h, fun old e _ => by rw [hn] at e; cases e⟩
theorem St.bU {st : St} {t : Nat} {s s' : SV} (h : (st.put (some t) s).tmps[t]? = some s') : s' = s ∧ t < st.tmps.length := by
 simp only [St.put] at h
 split at h
 ·rename_i old ho
  have hlt : t < st.tmps.length := (List.getElem?_eq_some_iff.1 ho).1
  split at h
  ·rw [St.set, List.getElem?_set_self (by simpa using hlt)] at h
   exact ⟨by cases h; rfl, hlt⟩
  ·rw [St.set, List.getElem?_set_self hlt] at h
   exact ⟨by cases h; rfl, hlt⟩
 ·rename_i hn
  rw [hn] at h; cases h
theorem Rel.step {st st' : St} {a a' : Act} {w w' : World} {g g' : Gh} (h : Rel st a w g) (hlen : a'.tmps.size = st'.tmps.length) (hd : a'.defers = []) (hρ : ck g g')
  (ht : ∀ (t : Nat) (s : SV), st'.tmps[t]? = some s → s = .undef ∨ RS g' w' st'.tmps (valOf a') t (valOf a' t) s ∨
   (st.tmps[t]? = some s ∧ valOf a' t = valOf a t ∧ (∀ o, eS t s o → az o g w g' w') ∧
    ∀ s', dep s = some s' → valOf a' s' = valOf a s' ∧ ∀ x, st.tmps[s']? = some x → dt x ≠ 0 → ∃ x', st'.tmps[s']? = some x' ∧ dt x' = dt x))
  (hH : RH g' w' st'.H) : Rel st' a' w' g' := by
 refine ⟨hlen, hd, fun t s hs => ?_, hH⟩
 rcases ht t s hs with rfl | hr | ⟨h1, h2, h3, h4⟩
 ·trivial
 ·exact hr
 ·rw [h2]
  exact RS.aG h3 hρ h4 (h.tmp t s h1)
theorem RH.aG {g g' : Gh} {w w' : World} {H : List ar} (hk : ∀ o, gv o → az o g w g' w') (hρ : ck g g') (hl : g'.ρ.length = g.ρ.length) (h : RH g w H) : RH g' w' H :=
 ⟨hl.trans h.1, fun i o hi => (h.2 i o hi).aG hk hρ⟩
theorem Rel.world {st : St} {a : Act} {w w' : World} {g g' : Gh} (h : Rel st a w g) (hk : ∀ o, az o g w g' w') (hρ : ck g g') (hl : g'.ρ.length = g.ρ.length) : Rel st a w' g' := by
 refine Rel.step h h.len h.cH hρ (fun t s hs => .inr (.inr ⟨hs, rfl, fun o ho => hk o, fun s' _ => ⟨rfl, fun x hx _ => ⟨x, hx, rfl⟩⟩⟩)) (h.hp.aG (fun o ho => hk o) hρ hl)
def je (g : Gh) (w : World) (v : Value) : SV → Prop
 | .d x => Rd g w v x
 | .bf l n xs => cN g w (some l) v n xs
 | .bO l cs => jM g w (some l) v cs
 | .own _ xs => xs = [] ∧ ∃ a, v = .slice a 0 0
 | .tup vs => ∃ us : Array Value, v = .tuple us ∧ us.size = vs.length ∧ ∀ (j : Nat) (s : SV), vs[j]? = some s → ∃ u x, us[j]? = some u ∧ s = .d x ∧ Rd g w u x
 | .undef => True
 | _ => False
theorem je.rs {g : Gh} {w : World} {v : Value} {s : SV} (h : je g w v s) (tm : List SV) (val : Nat → Value) (t : Nat) : RS g w tm val t v s := by
 cases s <;> simp only [je] at h <;> try exact h
 ·exact .inl h
 ·obtain ⟨us, h1, h2, h3⟩ := h
  exact ⟨us, h1, h2, fun j s hj => let ⟨u, x, e1, e2, e3⟩ := h3 j s hj; ⟨u, e1, by subst e2; exact e3⟩⟩
theorem gT {t t0 : Nat} {s : SV} (hne : t ≠ t0) (hm : bV t0 s = false) {o : Own} (ho : eS t s o) :
  o ≠ .box t0 ∧ o ≠ .lst (.slot t0) ∧ (∀ j, o ≠ .lst (.cell t0 j)) ∧ (∀ j, o ≠ .lst (.comp t0 j)) := by
 cases s <;> simp only [eS] at ho
 ·subst ho; simp
 ·rcases ho with rfl | rfl <;> simp [hne]
 ·rename_i l _ _
  rcases ho with rfl | rfl
  ·simp
  ·cases l <;> simp [bV] at hm ⊢ <;> exact hm
 ·rename_i l _
  rcases ho with rfl | rfl
  ·simp
  ·cases l <;> simp [bV] at hm ⊢ <;> exact hm
 ·rcases ho with rfl | rfl | ⟨j, rfl⟩ <;> simp [hne]
 ·rcases ho with rfl | ⟨j, rfl⟩ <;> simp [hne]
 ·rcases ho with rfl | rfl <;> simp [hne]
theorem Rel.put {st : St} {a : Act} {w : World} {g : Gh} {s : SV} {v : Value} (h : Rel st a w g) (d : Option Tmp)
  (hs : ∀ t, d = some t → t < st.tmps.length → RS g w (st.put d s).tmps (valOf (a.put d v)) t v s) : Rel (st.put d s) (a.put d v) w g := by
 refine Rel.step h (by rw [cm, St.eg]; exact h.len) (by rw [put_defers]; exact h.cH) (ck.refl g) (fun t s' hs' => ?_) (by rw [St.nD]; exact h.hp)
 cases d with
 | none => exact .inr (.inr ⟨hs', rfl, fun _ _ => az.refl _ _ _, fun s' _ => ⟨rfl, fun x hx _ => ⟨x, hx, rfl⟩⟩⟩)
 | some t0 =>
  by_cases hne : t = t0
  ·subst hne
   obtain ⟨rfl, hlt⟩ := St.bU hs'
   refine .inr (.inl ?_)
   rw [bb (by rw [h.len]; exact hlt)]
   exact hs t rfl hlt
  ·rcases St.gU hne hs' with hu | ⟨h1, h2⟩
   ·exact .inl hu
   ·refine .inr (.inr ⟨h1, bj (by simpa using Ne.symm hne), fun _ _ => az.refl _ _ _, fun s0 e => ?_⟩)
    obtain ⟨x0, hx0, hb0⟩ := gr (h.tmp t _ h1) e
    have hs0 : s0 ≠ t0 := by
     rintro rfl
     have := h2 _ hx0 (dV hb0)
     rw [bJ e] at this
     cases this
    refine ⟨bj (by simpa using Ne.symm hs0), fun x hx hb => ⟨x, ?_, rfl⟩⟩
    simp only [St.put]
    split
    ·split
     ·simp only [St.set, St.kill, List.getElem?_set_ne (Ne.symm hs0), List.getElem?_map, hx, Option.map_some, cF hb]
      simp
     ·simp only [St.set, List.getElem?_set_ne (Ne.symm hs0), hx]
    ·exact hx
theorem Rel.b9 {st : St} {a : Act} {w : World} {g : Gh} {s : SV} {v : Value} (h : Rel st a w g) (d : Option Tmp) (hs : je g w v s) : Rel (st.put d s) (a.put d v) w g :=
 h.put d fun _ _ _ => hs.rs _ _ _
end Go.Sh
namespace Go.Sh
def ic : D → Option Value
 | .bool b => some (.bool b)
 | .int k n => some (.int k n)
 | .str l => some (.string (mk l))
 | .nilIface => some .nilIface
 | .eZ => some .nilFunc
 | .aL => some (.pointer none)
 | .et => some (.map none)
 | .iface t x => (ic x).map (.iface t)
 | _ => none
def pA : Value → Option D
 | .bool b => some (.bool b)
 | .int k n => some (.int k n)
 | .string s => some (.str s.data.toList)
 | .nilIface => some .nilIface
 | .nilFunc => some .eZ
 | .pointer none => some .aL
 | .map none => some .et
 | .slice none 0 0 => some .bW
 | _ => none
def py : List Value → Option (List D)
 | [] => some []
 | v :: vs => match pA v, py vs with
  | some x, some xs => some (x :: xs)
  | _, _ => none
def jB : Value → Option D
 | .agg cs => (py cs.toList).map .agg
 | v => pA v
theorem s8 {g : Gh} {w : World} {d : D} : ∀ {u v : Value}, ic d = some u → Rd g w v d → v = u := by
 induction d using D.rec (motive_2 := fun _ => True) with
 | iface t x ih =>
  intro u v h hr
  simp only [ic, Option.map_eq_some_iff] at h
  obtain ⟨u', h1, rfl⟩ := h
  cases hr with
  | iface hr => rw [ih h1 hr]
 | _ => first | trivial | (intro u v h hr; cases hr <;> simp_all [ic])
theorem xp {g : Gh} {w : World} {d : D} : ∀ {u : Value}, ic d = some u → Rd g w u d := by
 induction d using D.rec (motive_2 := fun _ => True) with
 | iface t x ih =>
  intro u h
  simp only [ic, Option.map_eq_some_iff] at h
  obtain ⟨u', h1, rfl⟩ := h
  exact .iface (ih h1)
 | _ => first | trivial | (intro u h; simp only [ic, Option.some.injEq, reduceCtorEq] at h; try (subst h; constructor))
theorem pz {g : Gh} {w : World} {v : Value} {x : D} (h : pA v = some x) : Rd g w v x := by
 unfold pA at h
 split at h <;> simp at h <;> subst h <;> try constructor
theorem wF {v : Value} {x : D} (h : pA v = some x) : v.oneCell' = true := by
 unfold pA at h
 split at h <;> simp at h <;> rfl
theorem qT {g : Gh} {w : World} : ∀ {vs : List Value} {xs : List D}, py vs = some xs → vs.length = xs.length ∧ ∀ (j : Nat) (y : D), xs[j]? = some y → ∃ u, vs[j]? = some u ∧ Rd g w u y ∧ u.oneCell' = true
 | [], xs, h => by simp [py] at h; subst h; simp
 | v :: vs, xs, h => by
  simp only [py] at h
  split at h
  ·rename_i x xs' h1 h2
   simp at h; subst h
   obtain ⟨hl, hr⟩ := qT (g := g) (w := w) h2
   refine ⟨by simp [hl], fun j y hj => ?_⟩
   cases j with
   | zero => simp at hj; subst hj; exact ⟨v, by simp, pz h1, wF h1⟩
   | succ j => simp at hj; simpa using hr j y hj
  ·simp at h
theorem Rd.yu {g : Gh} {w : World} {vs : Array Value} {cs : List D} (hl : vs.size = cs.length) (h : ∀ (j : Nat) (y : D), cs[j]? = some y → ∃ u, vs[j]? = some u ∧ Rd g w u y ∧ u.oneCell' = true) : Rd g w (.agg vs) (.agg cs) := by
 refine .agg hl (fun j => vs.getD j undef) (fun j y hy => ?_) (fun j y hy => ?_)
 ·obtain ⟨u, h1, h2, h3⟩ := h j y hy
  simpa [Array.getD_eq_getD_getElem?, h1] using h3
 ·obtain ⟨u, h1, h2, h3⟩ := h j y hy
  simpa [Array.getD_eq_getD_getElem?, h1] using h2
theorem kY {g : Gh} {w : World} {v : Value} {x : D} (h : jB v = some x) : Rd g w v x := by
 unfold jB at h
 split at h
 ·rename_i cs
  simp only [Option.map_eq_some_iff] at h
  obtain ⟨xs, h1, rfl⟩ := h
  obtain ⟨hl, hr⟩ := qT (g := g) (w := w) h1
  exact Rd.yu (by simpa using hl) (fun j y hj => by simpa using hr j y hj)
 ·exact pz h
def gW (P : Program) {α : Type} : Sem α → Option α
 | .pure a => some a
 | .program k => gW P (k P)
 | _ => none
theorem s9 {P : Program} {α : Type} : ∀ {s : Sem α} {a : α}, gW P s = some a → ∀ w, s.run P w = .ok a w := by
 intro s
 induction s with
 | pure a => intro b h w; simp [gW] at h; subst h; rfl
 | program k ih => intro b h w; simp only [gW] at h; simp only [Sem.run]; exact ih _ h w
 | _ => intro b h; simp [gW] at h
def tL (v : Option Value) : Option D := v.bind pA
section
variable (P : Program)
def er (T : TypeId) : Nat := match P.underlying T with | some (.slice e) => P.cellsOf e | _ => 0
def cy (T : TypeId) : Bool := match P.underlying T with | some (.struct _) | some (.array _ _) => true | _ => false
def val (st : St) : Operand → Option SV
 | .tmp t => st.tmps[t]?
 | .const v => (jB v).map .d
 | .func f => some (.d (.fn (.func f) [] []))
 | .global _ => none
def bK (st : St) (x : Operand) : Option D := match val st x with | some (.d d) => some d | _ => none
def ux (s : Nat) : SV → Option SV
 | .d x => some (.d x)
 | .bf l n xs => some (.bf l n xs)
 | .bO l cs => some (.bO l cs)
 | .loc t off => some (.loc t off)
 | .own n xs => some (.bf (.slot s) n xs)
 | .pin _ n xs => some (.bf (.slot s) n xs)
 | .box _ => some (.loc s 0)
 | .undef => some .undef
 | _ => none
def o9 (st : St) (T : TypeId) : Operand → Option SV
 | .tmp s => (st.tmps[s]?).bind (ux s)
 | .const (.slice none 0 0) => some (.own (er P T) [])
 | x => val st x
def jJ (st : St) : Operand → Option (Nat × Nat)
 | .tmp s => match st.tmps[s]? with
  | some (.box _) => some (s, 0)
  | some (.loc t off) => some (t, off)
  | _ => none
 | _ => none
def pX (st : St) (s : Nat) : Option (List SV) := match st.tmps[s]? with | some (.box cs) => some cs | _ => none
def nq : List SV → Option (List D)
 | [] => some []
 | .d x :: r => (nq r).map (x :: ·)
 | _ :: _ => none
def vJ (T : TypeId) (cs : List D) : Option D :=
 if (P.underlying T).isNone then none
 else if cy P T then (if 0 < P.cellsOf T ∧ P.cellsOf T ≤ cs.length then some (.agg (cs.take (P.cellsOf T))) else none)
 else cs.head?
def jb (T : TypeId) (l : Loc) (cs : List SV) : Option SV :=
 if (P.underlying T).isNone then none
 else if cy P T then (if 0 < P.cellsOf T ∧ P.cellsOf T ≤ cs.length then (nq (cs.take (P.cellsOf T))).map fun ys => .d (.agg ys) else none)
 else match cs with
  | .d x :: _ => some (.d x)
  | .own n xs :: _ => some (.bf l n xs)
  | _ => none
end
theorem kA {w : World} {k : Nat} {c : Array Value} {T : TypeId} {fz : Nat × Nat} (h : w.heap[k]? = some (.cells c T fz)) (j : Nat) : w.cell? ⟨k, j, none⟩ = c[j]? := by
 simp [World.cell?, h]
section
variable {P : Program}
theorem info_of_underlying {T : TypeId} (h : (P.underlying T).isNone = false) : ∃ i, P.info? T = some i := by
 unfold Program.underlying at h
 cases hi : P.info? T with
 | none => rw [hi] at h; simp at h
 | some i => exact ⟨i, rfl⟩
theorem dP {T : TypeId} (h : (P.underlying T).isNone = false) (w : World) : (sizeOf T).run P w = .ok (P.cellsOf T) w := by
 obtain ⟨i, hi⟩ := info_of_underlying h
 simp [sizeOf, typeInfo, hi, Program.cellsOf]
theorem fX {T : TypeId} (h : (P.underlying T).isNone = false) (w : World) : (isAgg T).run P w = .ok (cy P T) w := by
 cases hu : P.underlying T with
 | none => rw [hu] at h; simp at h
 | some d =>
  simp only [isAgg, Sem.run_bind, run_underlying hu, Result.andThen_ok, cy, hu]
  cases d <;> rfl
theorem fY {w : World} {k off n : Nat} {c : Array Value} {T0 : TypeId} {fz : Nat × Nat} (hb : w.heap[k]? = some (.cells c T0 fz)) (hs : off + n ≤ c.size) :
  (loadCells ⟨k, off, none⟩ n).run P w = .ok (c.extract off (off + n)) w := by
 have := run_loadCells_list (P := P) w ⟨k, off, none⟩ (c.extract off (off + n)).toList (fun j v hj => by
  rw [Addr.add_lit, kA hb]
  simp only [Array.getElem?_toList, Array.getElem?_extract] at hj
  split at hj
  ·exact hj
  ·cases hj)
 have hl : (c.extract off (off + n)).toList.length = n := by simp; omega
 rw [hl, Array.toArray_toList] at this
 exact this
theorem n9 {T : TypeId} (hu : (P.underlying T).isNone = false) (ha : cy P T = true) {w : World} {k off : Nat} {c : Array Value} {T0 : TypeId} {fz : Nat × Nat}
  (hb : w.heap[k]? = some (.cells c T0 fz)) (hs : off + P.cellsOf T ≤ c.size) : (loadVar T ⟨k, off, none⟩).run P w = .ok (.agg (c.extract off (off + P.cellsOf T))) w := by
 simp only [loadVar, Sem.run_bind, fX hu, Result.andThen_ok, ha, if_true, dP hu, fY hb hs, Sem.run_pure]
theorem cd {T : TypeId} (hu : (P.underlying T).isNone = false) (ha : cy P T = false) {w : World} {k off : Nat} {c : Array Value} {T0 : TypeId} {fz : Nat × Nat} {v : Value}
  (hb : w.heap[k]? = some (.cells c T0 fz)) (hv : c[off]? = some v) : (loadVar T ⟨k, off, none⟩).run P w = .ok v w := by
 simp only [loadVar, Sem.run_bind, fX hu, Result.andThen_ok, ha, Bool.false_eq_true, if_false, run_load, kA hb, hv]
theorem aD {α : Type} {l : List α} {j : Nat} {x : α} (h : l[j]? = some x) : j < l.length := (List.getElem?_eq_some_iff.1 h).1
theorem gg {α : Type} {l : Array α} {j : Nat} {x : α} (h : l[j]? = some x) : j < l.size := (Array.getElem?_eq_some_iff.1 h).1
theorem xH {g : Gh} {w0 : World} {T : TypeId} {k off : Nat} {c : Array Value} {T0 : TypeId} {fz : Nat × Nat} {cs : List D} {d : D}
  (hc : ∀ (j : Nat) (y : D), cs[j]? = some y → ∃ u, c[off + j]? = some u ∧ Rd g w0 u y ∧ u.oneCell' = true) (hl : vJ P T cs = some d) :
  ∃ v, Rd g w0 v d ∧ ∀ w : World, w.heap[k]? = some (.cells c T0 fz) → (loadVar T ⟨k, off, none⟩).run P w = .ok v w := by
 unfold vJ at hl
 split at hl
 ·cases hl
 ·rename_i hu
  have hu : (P.underlying T).isNone = false := Bool.eq_false_iff.2 hu
  split at hl
  ·rename_i ha
   split at hl
   ·rename_i hn
    obtain ⟨h0, hn⟩ := hn
    cases hl
    have hs : off + P.cellsOf T ≤ c.size := by
     have hlt : P.cellsOf T - 1 < cs.length := by omega
     obtain ⟨u, hu', -⟩ := hc (P.cellsOf T - 1) cs[P.cellsOf T - 1] (by simp [hlt])
     have := gg hu'
     omega
    refine ⟨.agg (c.extract off (off + P.cellsOf T)), Rd.yu ?_ (fun j y hj => ?_), fun w hb => n9 hu ha hb hs⟩
    ·simp [Nat.min_eq_left hn, Nat.min_eq_left hs, Nat.add_sub_cancel_left]
    ·rw [List.getElem?_take] at hj
     split at hj
     ·rename_i hjn
      obtain ⟨u, h1, h2, h3⟩ := hc j y hj
      refine ⟨u, ?_, h2, h3⟩
      rw [Array.getElem?_extract, if_pos (by omega)]
      exact h1
     ·cases hj
   ·cases hl
  ·rename_i ha
   have ha : cy P T = false := by simpa using ha
   obtain ⟨u, h1, h2, -⟩ := hc 0 d (by cases cs <;> simp_all)
   exact ⟨u, h2, fun w hb => cd hu ha hb (by simpa using h1)⟩
theorem tO : ∀ {cs : List SV} {ys : List D}, nq cs = some ys → cs.length = ys.length ∧ ∀ (j : Nat) (y : D), ys[j]? = some y → cs[j]? = some (.d y)
 | [], ys, h => by simp [nq] at h; subst h; simp
 | .d x :: r, ys, h => by
  simp only [nq, Option.map_eq_some_iff] at h
  obtain ⟨zs, h1, rfl⟩ := h
  obtain ⟨hl, hr⟩ := tO h1
  refine ⟨by simp [hl], fun j y hj => ?_⟩
  cases j with
  | zero => simpa using hj
  | succ j => simpa using hr j y (by simpa using hj)
 | .own _ _ :: _, _, h => by simp [nq] at h
 | .bf _ _ _ :: _, _, h => by simp [nq] at h
 | .bO _ _ :: _, _, h => by simp [nq] at h
 | .box _ :: _, _, h => by simp [nq] at h
 | .loc _ _ :: _, _, h => by simp [nq] at h
 | .tup _ :: _, _, h => by simp [nq] at h
 | .undef :: _, _, h => by simp [nq] at h
theorem bA.iI {g : Gh} {w : World} {o : Loc} {v : Value} {n : Nat} {xs : List D} (h : bA g w o v n xs) : cN g w (some o) v n xs := by
 rcases h with ⟨h, a, h'⟩ | ⟨k, off, cap, c, T, us, hv, hk, hb, hp, -, hn, hc, hr⟩
 ·exact .inl ⟨h, a, 0, h'⟩
 ·exact .inr ⟨k, off, cap, c, T, (0, 0), us, hv, by rw [hk]; rfl, hb, hp, hn, hc, hr⟩
theorem uJ {g : Gh} {w0 : World} {T : TypeId} {k off : Nat} {c : Array Value} {T0 : TypeId} {fz : Nat × Nat} {cs : List SV} {s : SV} {l : Nat → Loc}
  (hc : ∀ (j : Nat) (y : SV), cs[j]? = some y → ∃ u, c[off + j]? = some u ∧ RC g w0 (l (off + j)) u y ∧ u.oneCell' = true) (hl : jb P T (l off) cs = some s) :
  ∃ v, je g w0 v s ∧ ∀ w : World, w.heap[k]? = some (.cells c T0 fz) → (loadVar T ⟨k, off, none⟩).run P w = .ok v w := by
 unfold jb at hl
 split at hl
 ·cases hl
 ·rename_i hu
  have hu : (P.underlying T).isNone = false := Bool.eq_false_iff.2 hu
  split at hl
  ·rename_i ha
   split at hl
   ·rename_i hn
    obtain ⟨h0, hn⟩ := hn
    simp only [Option.map_eq_some_iff] at hl
    obtain ⟨ys, h1, rfl⟩ := hl
    obtain ⟨hly, hgy⟩ := tO h1
    have hlen : P.cellsOf T = ys.length := by rw [← hly]; simp [Nat.min_eq_left hn]
    have hd := xH (P := P) (g := g) (w0 := w0) (T := T) (k := k) (off := off) (c := c) (T0 := T0) (fz := fz) (cs := ys) (d := .agg ys) (fun j y hj => by
     have h2 := hgy j y hj
     rw [List.getElem?_take] at h2
     split at h2
     ·obtain ⟨u, h3, h4, h5⟩ := hc j _ h2
      exact ⟨u, h3, h4, h5⟩
     ·cases h2) (by
      have hu' : (P.underlying T).isNone = false := hu
      have h0' : 0 < ys.length := by omega
      simp [vJ, hu', ha, hlen, h0'])
    exact hd
   ·cases hl
  ·rename_i ha
   have ha : cy P T = false := by simpa using ha
   split at hl
   ·rename_i x r
    cases hl
    obtain ⟨u, h1, h2, -⟩ := hc 0 (.d x) (by simp)
    exact ⟨u, h2, fun w hb => cd hu ha hb (by simpa using h1)⟩
   ·rename_i n xs r
    cases hl
    obtain ⟨u, h1, h2, -⟩ := hc 0 (.own n xs) (by simp)
    exact ⟨u, bA.iI h2, fun w hb => cd hu ha hb (by simpa using h1)⟩
   ·cases hl
end
end Go.Sh
namespace Go.Sh
section
variable (P : Program)
def kr (T : TypeId) : Bool := match P.underlying T with | some .string => true | _ => false
def gb (st : St) : Operand → Option (Option Loc × Nat × List D)
 | .tmp s => match st.tmps[s]? with
  | some (.d (.list n xs)) => some (none, n, xs)
  | some (.d .bW) => some (none, 0, [])
  | some (.bf l n xs) => some (some l, n, xs)
  | some (.own n xs) => some (some (.slot s), n, xs)
  | some (.pin _ n xs) => some (some (.slot s), n, xs)
  | _ => none
 | .const (.slice none 0 0) => some (none, 0, [])
 | _ => none
def qL (st : St) : Operand → Option (Option Loc × List D)
 | .tmp s => match st.tmps[s]? with
  | some (.d (.aR cs)) => some (none, cs)
  | some (.bO l cs) => some (some l, cs)
  | _ => none
 | _ => none
def aO : Option Loc → List D → SV
 | none, cs => .d (.aR cs)
 | some l, cs => .bO l cs
def kj : Option Loc → Nat → List D → SV
 | none, n, xs => .d (.list n xs)
 | some l, n, xs => .bf l n xs
def gM (st : St) (x : Operand) : Option (IntKind × Int) := match bK st x with | some (.int k n) => some (k, n) | _ => none
def kZ (st : St) (x : Operand) : Option (Nat × Nat) := match bK st x with | some (.ptr i off) => some (i, off) | _ => none
def mz (S : TypeId) (f : Nat) : Option Nat :=
 match P.underlying S with
 | some (.struct fs) => match fs[f]? with
  | some fl => if P.cellsOf fl.type = 0 then none else some fl.offset
  | none => none
 | _ => none
def vu (T : TypeId) (cs : List D) (off : Nat) : Option D :=
 if (P.underlying T).isNone then none
 else if cy P T then some (.agg ((cs.drop off).take (P.cellsOf T)))
 else cs[off]?
def u6 (op : BinOp) (e l : Bool) : Option Bool :=
 match op with
 | .eql => some e
 | .neq => some (!e)
 | .lss => some l
 | .leq => some (l || e)
 | .gtr => some !(l || e)
 | .geq => some !l
 | _ => none
def rY : Option TypeDesc → D → D → Option Bool
 | some .bool, .bool a, .bool b => some (a == b)
 | some (.int _), .int k a, .int k' b => if k = k' then some (a == b) else none
 | some .string, .str a, .str b => some (a == b)
 | _, _, _ => none
def uS (i : Nat) : List Field → List D → List D → Option Bool
 | [], [], [] => some true
 | f :: fs, x :: xs, y :: ys =>
  if f.name != "_" && f.offset == i then
   match rY (P.underlying f.type) x y, uS (i + 1) fs xs ys with
   | some a, some b => some (a && b)
   | _, _ => none
  else none
 | _, _, _ => none
def xW (T : TypeId) (a b : List D) : Option Bool :=
 match P.underlying T with
 | some (.struct fs) => if !P.stoodInHeld T && !P.eqGuardType P.depth T then uS P 0 fs.toList a b else none
 | _ => none
def lY : SV → Nat
 | .d (.aR _) | .d (.ptr _ _) | .loc _ _ | .bO _ _ | .box _ => 1
 | .d (.iface _ _) => 2
 | .d (.fn _ _ _) => 3
 | .d (.map _) => 4
 | _ => 0
def zf : D → Nat
 | .aL => 1
 | .nilIface => 2
 | .eZ => 3
 | .et => 4
 | _ => 0
def oS (T : TypeId) : Nat :=
 match P.underlying T with
 | some (.pointer _) => 1
 | some (.interface _) => 2
 | some (.func ..) => 3
 | some (.map ..) => 4
 | _ => 5
def vA (st : St) (T : TypeId) (x y : Operand) : Bool :=
 match val st x, bK st y with
 | some s, some d => lY s == oS P T && zf d == oS P T
 | _, _ => false
def AH (st : St) (op : BinOp) (T : TypeId) (x y : Operand) : Option D :=
 match bK st x, bK st y with
 | some (.str a), some (.str b) =>
  if op matches .add then (if a.length + b.length ≤ maxLen then some (.str (a ++ b)) else none)
  else (u6 op (a == b) (Op.bytesLess a b)).map .bool
 | some (.agg a), some (.agg b) =>
  match op, xW P T a b with
  | .eql, some r => some (.bool r)
  | .neq, some r => some (.bool !r)
  | _, _ => none
 | p, q =>
  match p.bind ic, q.bind ic with
  | some u, some v => tL (gW P (do eqGuard op T x y u v; binOp op T u v))
  | _, _ =>
   if vA P st T x y || vA P st T y x then
    match op with
    | .eql => some (.bool false)
    | .neq => some (.bool true)
    | _ => none
   else none
def unS (st : St) (op : UnOp) (x : Operand) : Option D :=
 match (bK st x).bind ic with
 | some u => tL (gW P (Op.unary op u))
 | none => none
def bytesOf : List D → Option (List UInt8)
 | [] => some []
 | .int .u8 n :: r => (bytesOf r).map (UInt8.ofNat n.toNat :: ·)
 | _ :: _ => none
def pH (T : TypeId) : Bool := match P.underlying T with | some (.slice e) => (match P.underlying e with | some (.int .u8) => true | _ => false) | _ => false
def uY (st : St) (src dst : TypeId) (x : Operand) : Option D :=
 if pH P src && kr P dst then
  match gb st x with
  | some (_, n, xs) => if n = 1 ∨ xs.isEmpty then (bytesOf xs).map .str else none
  | none => none
 else none
def yc (st : St) (src dst : TypeId) (x : Operand) : Option D :=
 match (bK st x).bind ic with
 | some u => tL (gW P (convert src dst u))
 | none => uY P st src dst x
def nP (place : Nat → Option (Nat × Nat)) (cells : List D) : List (Nat × D) → Option (List D)
 | [] => some cells
 | (i, x) :: rest =>
  match place i with
  | none => none
  | some (off, size) =>
   if x.cells.length ≠ size ∨ off + size > cells.length then none
   else nP place (cells.take off ++ x.cells ++ cells.drop (off + size)) rest
def lI (st : St) : List (Nat × Operand) → Option (List (Nat × D))
 | [] => some []
 | (i, x) :: r => match bK st x, lI st r with
  | some d, some ds => some ((i, d) :: ds)
  | _, _ => none
def placesOf (T : TypeId) : Option (Nat → Option (Nat × Nat)) :=
 match P.underlying T with
 | some (.struct fs) => if fs.all (fun f => (P.info? f.type).isSome) then some (fun i => (fs[i]?).map fun f => (f.offset, P.cellsOf f.type)) else none
 | some (.array _ e) => if (P.info? e).isSome then some (fun i => some (i * P.cellsOf e, P.cellsOf e)) else none
 | _ => none
def nv (T : TypeId) : Option D := ((P.info? T).bind (·.zero)).bind jB
def uZ (st : St) (T : TypeId) (parts : List (Nat × Operand)) : Option D :=
 match placesOf P T, nv P T, lI st parts with
 | some pl, some z, some ds => (nP pl z.cells ds).map .agg
 | _, _, _ => none
def kh (st : St) (T : TypeId) (x : Operand) : Option SV :=
 match jJ st x with
 | some (s, off) => match pX st s with | some cs => jb P T (.cell s off) (cs.drop off) | none => none
 | none => match qL st x with
  | some (_, cs) => (vJ P T cs).map .d
  | none => match kZ st x with
   | some (i, off) => match st.H[i]? with | some (.cells cs) => jb P T (.ai i off) (cs.drop off) | _ => none
   | none => none
def kz (st : St) (S : TypeId) (x : Operand) (f : Nat) : Option SV :=
 match mz P S f with
 | none => none
 | some fo => match jJ st x with
  | some (s, off) => some (.loc s (off + fo))
  | none => match qL st x with
   | some (l, cs) => some (aO l (cs.drop fo))
   | none => match kZ st x with
    | some (i, off) => some (.d (.ptr i (off + fo)))
    | none => none
def arrayOf (T : TypeId) : Option (Nat × Nat) := match P.underlying T with | some (.array n e) => some (n, P.cellsOf e) | _ => none
def iG (st : St) (T : TypeId) (x i : Operand) : Option SV :=
 match gM st i with
 | none => none
 | some (_, j) => match arrayOf P T with
  | some (n, sz) => if sz ≠ 0 ∧ 0 ≤ j ∧ j < n then
    match jJ st x with
    | some (s, off) => some (.loc s (off + j.toNat * sz))
    | none => match kZ st x with
     | some (i, off) => some (.d (.ptr i (off + j.toNat * sz)))
     | none => none
   else none
  | none => match gb st x with
   | some (l, n, xs) => if n ≠ 0 ∧ n = er P T ∧ 0 ≤ j then (xs[j.toNat]?).map fun x => aO l x.cells else none
   | none => none
def oG (st : St) (T : TypeId) (x i : Operand) : Option D :=
 match bK st x, gM st i with
 | some (.str l), some (_, j) => if kr P T = true ∧ 0 ≤ j then (l[j.toNat]?).map fun b => .int .u8 b.toNat else none
 | some (.agg cs), some (_, j) => match P.underlying T with
  | some (.array n e) => if P.cellsOf e ≠ 0 ∧ 0 ≤ j ∧ j < n then vu P e cs (j.toNat * P.cellsOf e) else none
  | _ => none
 | _, _ => none
def rW (st : St) (T : TypeId) (x : Operand) (f : Nat) : Option D :=
 match bK st x, P.underlying T with
 | some (.agg cs), some (.struct fs) => match fs[f]? with | some fl => vu P fl.type cs fl.offset | none => none
 | _, _ => none
def bnd (st : St) (dflt : Nat) : Option Operand → Option Nat
 | none => some dflt
 | some x => match gM st x with | some (_, j) => if 0 ≤ j then some j.toNat else none | none => none
def isZero (st : St) (x : Option Operand) : Bool := match x with | some x => (match gM st x with | some (_, j) => j == 0 | none => false) | none => false
def oD (st : St) (T : TypeId) (x : Operand) (lo hi mx : Option Operand) : Option SV :=
 if mx.isSome then (if lo.isNone && isZero st hi && isZero st mx && er P T != 0 && (gb st x).isSome then some (.d .bW) else none) else
 match bK st x with
 | some (.str l) => match bnd st 0 lo, bnd st l.length hi with
  | some i, some j => if kr P T = true ∧ i ≤ j ∧ j ≤ l.length then some (.d (.str ((l.take j).drop i))) else none
  | _, _ => none
 | _ => match gb st x with
  | some (l, n, xs) => match bnd st 0 lo, bnd st xs.length hi with
   | some i, some j => if er P T ≠ 0 ∧ (n = er P T ∨ xs.isEmpty) ∧ i ≤ j ∧ j ≤ xs.length then some (kj l n ((xs.take j).drop i)) else none
   | _, _ => none
  | none => none
def xI (st : St) (T : TypeId) (x : Operand) : Option D :=
 match bK st x with
 | some (.str l) => if kr P T = true then some (.int .i64 l.length) else none
 | _ => match gb st x with
  | some (_, _, xs) => match P.underlying T with | some (.slice _) => some (.int .i64 xs.length) | _ => none
  | none => none
def nk (st : St) (x : Operand) (j : Nat) : Option D :=
 match x with
 | .tmp s => match st.tmps[s]? with
  | some (.tup vs) => match vs[j]? with | some (.d d) => some d | _ => none
  | _ => none
 | _ => none
def tA (st : St) : List Operand → Option (List D)
 | [] => some []
 | x :: r => match bK st x, tA st r with
  | some d, some ds => some (d :: ds)
  | _, _ => none
def Ay : SV → Bool
 | .d (.fn (.func _) _ _) => true
 | .d (.fn _ _ _) => false
 | _ => true
def bop (st : St) (o : Oper) : Option SV :=
 match o.op with
 | .move x | .assign x => o9 P st o.type x
 | .pick c x y => match bK st c with | some (.bool b) => (bK st (if b then x else y)).map .d | _ => none
 | .load T x => kh P st T x
 | .nilCheck x => match o9 P st o.type x with
  | some s => if lY s != 0 && Ay s then some s else none
  | none => none
 | .binOp op T x y _ => (AH P st op T x y).map .d
 | .unOp op _ x => (unS P st op x).map .d
 | .convert src dst x => (yc P st src dst x).map .d
 | .makeInterface T x => match P.underlying T with
  | some (.interface _) | none => none
  | some _ => (bK st x).map fun d => .d (.iface T d)
 | .makeFunc fn first caps => match tA st first.toList, tA st caps.toList with
  | some fs, some cs => some (.d (.fn fn fs cs))
  | _, _ => none
 | .build T parts => (uZ P st T parts.toList).map .d
 | .fieldAddr S x f => kz P st S x f
 | .field T x f => (rW P st T x f).map .d
 | .indexAddr T x i => iG P st T x i
 | .index T x i => (oG P st T x i).map .d
 | .slice T x lo hi mx => oD P st T x lo hi mx
 | .extract x j => (nk st x j).map .d
 | .call c => match c.callee, c.args.toList, c.argTypes.toList with
  | .builtin .len, [x], [T] => (xI P st T x).map .d
  | _, _, _ => none
 | _ => none
end
end Go.Sh
namespace Go.Sh
section
variable {P : Program}
theorem pQ (a : Act) (s : Nat) : a.eval (.tmp s) = valOf a s := rfl
variable {st : St} {a : Act} {w : World} {g : Gh}
theorem Rel.rs (h : Rel st a w g) {s : Nat} {sv : SV} (hs : st.tmps[s]? = some sv) : RS g w st.tmps (valOf a) s (a.eval (.tmp s)) sv := h.tmp s sv hs
theorem w8 (h : Rel st a w g) {x : Operand} {d : D} (hv : val st x = some (.d d)) : Rd g w (a.eval x) d := by
 cases x with
 | tmp s => exact h.rs hv
 | const v =>
  simp only [val, Option.map_eq_some_iff, SV.d.injEq] at hv
  obtain ⟨d', h1, rfl⟩ := hv
  exact kY h1
 | func f =>
  simp only [val, Option.some.injEq, SV.d.injEq] at hv
  subst hv
  exact .fn rfl rfl (fun _ => undef) (fun _ => undef) (fun j y hj => by simp at hj) (fun j y hj => by simp at hj) (fun j y hj => by simp at hj) (fun j y hj => by simp at hj)
 | global g => simp [val] at hv
theorem bw (h : Rel st a w g) {x : Operand} {d : D} (hv : bK st x = some d) : Rd g w (a.eval x) d := by
 unfold bK at hv
 split at hv
 ·cases hv; rename_i h1; exact w8 h h1
 ·cases hv
theorem dr (h : Rel st a w g) {x : Operand} {l : Option Loc} {n : Nat} {xs : List D} (hv : gb st x = some (l, n, xs)) : cN g w l (a.eval x) n xs := by
 unfold gb at hv
 split at hv
 ·split at hv
  ·rename_i hs; cases hv; exact (h.rs hs : Rd g w _ _).toList
  ·rename_i hs; cases hv; obtain ⟨a', e⟩ := Rd.gE (h.rs hs); exact .inl ⟨rfl, a', 0, e⟩
  ·rename_i hs; cases hv; exact h.rs hs
  ·rename_i hs; cases hv; exact bA.iI (h.rs hs)
  ·rename_i hs; cases hv; exact bA.iI (h.rs hs).2
  ·cases hv
 ·cases hv; exact .inl ⟨rfl, none, 0, rfl⟩
 ·cases hv
theorem nE (h : Rel st a w g) {x : Operand} {l : Option Loc} {cs : List D} (hv : qL st x = some (l, cs)) : jM g w l (a.eval x) cs := by
 unfold qL at hv
 split at hv
 ·split at hv
  ·rename_i hs; cases hv; exact (h.rs hs : Rd g w _ _).Bg
  ·rename_i hs; cases hv; exact h.rs hs
  ·cases hv
 ·cases hv
theorem fZ (h : Rel st a w g) {x : Operand} {i off : Nat} (hv : kZ st x = some (i, off)) : ∃ k, g.ρ[i]? = some k ∧ a.eval x = .pointer (some ⟨k, off, none⟩) := by
 unfold kZ at hv
 split at hv
 ·rename_i i' off' hd
  cases hv
  have := bw h hd
  generalize a.eval x = v at this
  cases this with
  | ptr hk => exact ⟨_, hk, rfl⟩
 ·cases hv
theorem fi (h : Rel st a w g) {x : Operand} {s off : Nat} (hv : jJ st x = some (s, off)) :
  ∃ cs k, st.tmps[s]? = some (.box cs) ∧ valOf a s = .pointer (some ⟨k, 0, none⟩) ∧ a.eval x = .pointer (some ⟨k, off, none⟩) := by
 unfold jJ at hv
 split at hv
 ·split at hv
  ·rename_i s0 cs hs
   cases hv
   obtain ⟨k, c, T, h1, -⟩ := h.rs hs
   exact ⟨cs, k, hs, h1, h1⟩
  ·rename_i s0 t off' hs
   cases hv
   obtain ⟨⟨cs, hcs⟩, k, h1, h2⟩ := h.rs hs
   exact ⟨cs, k, hcs, h1, h2⟩
  ·cases hv
 ·cases hv
theorem fe (h : Rel st a w g) {x : Operand} {k : IntKind} {n : Int} (hv : gM st x = some (k, n)) : a.eval x = .int k n := by
 unfold gM at hv
 split at hv
 ·rename_i k' n' hd
  cases hv
  have := bw h hd
  generalize a.eval x = v at this
  cases this; rfl
 ·cases hv
def BV (g : Gh) (w : World) (st : St) (a : Act) (v : Value) : SV → Prop
 | .loc s off => (∃ cs, st.tmps[s]? = some (.box cs)) ∧ ∃ k, valOf a s = .pointer (some ⟨k, 0, none⟩) ∧ v = .pointer (some ⟨k, off, none⟩)
 | .als s => (∃ x, st.tmps[s]? = some x ∧ dt x = 2) ∧ v = valOf a s
 | .ep s n j => (∃ x, st.tmps[s]? = some x ∧ dt x = 2) ∧ ∃ k off len cap, valOf a s = .slice (some ⟨k, off, none⟩) len cap ∧ v = .pointer (some ⟨k, off + j * n, none⟩)
 | s => je g w v s
def Up (w w' : World) : Prop := ∀ (k : Nat) (o : Obj), w.heap[k]? = some o → w'.heap[k]? = some o
theorem Up.refl (w : World) : Up w w := fun _ _ h => h
theorem BV.fQ {v : Value} {s : SV} (h : je g w v s) : BV g w st a v s := by
 cases s <;> simp only [je] at h <;> first | exact h | exact h.elim
theorem nI {v : Value} {l : Option Loc} {cs : List D} (h : jM g w l v cs) : je g w v (aO l cs) := by
 cases l with
 | none => exact h.xa
 | some l => exact h
theorem nJ {v : Value} {l : Option Loc} {n : Nat} {xs : List D} (h : cN g w l v n xs) : je g w v (kj l n xs) := by
 cases l with
 | none => exact h.xa
 | some l => exact h
theorem jr (h : Rel st a w g) {T : TypeId} {x : Operand} {s : SV} (hv : o9 P st T x = some s) : BV g w st a (a.eval x) s := by
 unfold o9 at hv
 split at hv
 ·rename_i t
  simp only [Option.bind_eq_some_iff] at hv
  obtain ⟨sv, h1, h2⟩ := hv
  have hr := h.rs h1
  cases sv <;> simp only [ux, Option.some.injEq, reduceCtorEq] at h2 <;> subst h2
  ·exact hr
  ·exact bA.iI hr
  ·exact hr
  ·exact hr
  ·obtain ⟨k, c, T, e1, -⟩ := hr
   exact ⟨⟨_, h1⟩, k, e1, e1⟩
  ·exact hr
  ·trivial
  ·exact bA.iI hr.2
 ·cases hv; exact ⟨rfl, none, rfl⟩
 ·rename_i hx1 hx2
  cases x with
  | tmp t => exact (hx1 t rfl).elim
  | const v =>
   simp only [val, Option.map_eq_some_iff] at hv
   obtain ⟨d, h1, rfl⟩ := hv
   exact kY (v := v) h1
  | func f =>
   have : s = .d (.fn (.func f) [] []) := by simpa [val, eq_comm] using hv
   subst this
   exact w8 h (x := .func f) rfl
  | global g => simp [val] at hv
theorem rO (h : Rel st a w g) {T : TypeId} {x : Operand} {s : SV} (hv : kh P st T x = some s) :
  ∃ v, je g w v s ∧ ∀ w', Up w w' → (Instr.loadAt T (a.eval x)).run P w' = .ok v w' := by
 unfold kh at hv
 split at hv
 ·rename_i s0 off hl
  obtain ⟨cs, k, h1, h2, h3⟩ := fi h hl
  have hb : pX st s0 = some cs := by simp [pX, h1]
  simp only [hb] at hv
  obtain ⟨k', c, T0, e1, e2, e3, e4, e5⟩ := h.tmp s0 _ h1
  rw [h2] at e1
  simp only [Value.pointer.injEq, Option.some.injEq, Addr.mk.injEq, and_true] at e1
  subst e1
  obtain ⟨v, hL, hR⟩ := uJ (P := P) (g := g) (w0 := w) (T := T) (k := k) (off := off) (c := c) (T0 := T0) (fz := (0, 0)) (l := fun j => .cell s0 j) (fun j y hj => e5 (off + j) y (by simpa [List.getElem?_drop] using hj)) hv
  exact ⟨v, hL, fun w' hw => by simp [Instr.loadAt, h3, Instr.sureAddr, hR w' (hw _ _ e3)]⟩
 ·split at hv
  ·rename_i l cs hp
   simp only [Option.map_eq_some_iff] at hv
   obtain ⟨d, h1, rfl⟩ := hv
   obtain ⟨k, off, c, T0, fz, us, e1, e2, e3, e4, e5⟩ := nE h hp
   obtain ⟨v, hL, hR⟩ := xH (P := P) (g := g) (w0 := w) (T := T) (k := k) (off := off) (c := c) (T0 := T0) (fz := fz) (fun j y hj => ⟨us j, (e4 j y hj).1, e5 j y hj, (e4 j y hj).2⟩) h1
   exact ⟨v, hL, fun w' hw => by simp [Instr.loadAt, e1, Instr.sureAddr, hR w' (hw _ _ e3)]⟩
  ·split at hv
   ·rename_i i off hp
    split at hv
    ·rename_i cs ho
     obtain ⟨k, hk, e1⟩ := fZ h hp
     obtain ⟨k', c, T0, f1, f2, f3, f4, f5⟩ := h.hp.2 i _ ho
     rw [hk] at f1; cases f1
     obtain ⟨v, hL, hR⟩ := uJ (P := P) (g := g) (w0 := w) (T := T) (k := k) (off := off) (c := c) (T0 := T0) (fz := (0, 0)) (l := fun j => .ai i j) (fun j y hj => f5 (off + j) y (by simpa [List.getElem?_drop] using hj)) hv
     exact ⟨v, hL, fun w' hw => by simp [Instr.loadAt, e1, Instr.sureAddr, hR w' (hw _ _ f3)]⟩
    ·cases hv
   ·cases hv
theorem jM.drop {l : Option Loc} {v : Value} {cs : List D} (h : jM g w l v cs) (n : Nat) :
  ∃ k off, v = .pointer (some ⟨k, off, none⟩) ∧ jM g w l (.pointer (some ⟨k, off + n, none⟩)) (cs.drop n) := by
 obtain ⟨k, off, c, T0, fz, us, e1, e2, e3, e4, e5⟩ := h
 refine ⟨k, off, e1, k, off + n, c, T0, fz, fun j => us (n + j), rfl, e2, e3, fun j y hj => ?_, fun j y hj => ?_⟩
 ·rw [List.getElem?_drop] at hj
  rw [Nat.add_assoc]; exact e4 _ y hj
 ·rw [List.getElem?_drop] at hj
  exact e5 _ y hj
theorem gq {S : TypeId} {f fo k off : Nat} (hf : mz P S f = some fo) (w : World) :
  (Instr.fieldAt S (.pointer (some ⟨k, off, none⟩)) f).run P w = .ok (.pointer (some ⟨k, off + fo, none⟩)) w := by
 unfold mz at hf
 split at hf
 ·rename_i fs hu
  split at hf
  ·rename_i fl hfl
   split at hf
   ·cases hf
   ·rename_i hn
    cases hf
    have : ∃ i, P.info? fl.type = some i := by
     cases hi : P.info? fl.type with
     | none => simp [Program.cellsOf, hi] at hn
     | some i => exact ⟨i, rfl⟩
    obtain ⟨i, hi⟩ := this
    have hz : i.size ≠ 0 := by simpa [Program.cellsOf, hi] using hn
    simp [Instr.fieldAt, run_underlying hu, hfl, Instr.sureAddr, fieldPlace, sizeOf, typeInfo, hi, hz, Addr.add_lit]
  ·cases hf
 ·cases hf
theorem mA (h : Rel st a w g) {S : TypeId} {x : Operand} {f : Nat} {s : SV} (hv : kz P st S x f = some s) :
  ∃ v, BV g w st a v s ∧ ∀ w', (Instr.fieldAt S (a.eval x) f).run P w' = .ok v w' := by
 unfold kz at hv
 split at hv
 ·cases hv
 ·rename_i fo hf
  split at hv
  ·rename_i s0 off hl
   cases hv
   obtain ⟨cs, k, h1, h2, h3⟩ := fi h hl
   exact ⟨.pointer (some ⟨k, off + fo, none⟩), ⟨⟨cs, h1⟩, k, h2, rfl⟩, fun w' => by rw [h3]; exact gq hf w'⟩
  ·split at hv
   ·rename_i l cs hp
    cases hv
    obtain ⟨k, off, e1, e2⟩ := (nE h hp).drop fo
    exact ⟨_, BV.fQ (nI e2), fun w' => by rw [e1]; exact gq hf w'⟩
   ·split at hv
    ·rename_i i off hp
     cases hv
     obtain ⟨k, hk, e1⟩ := fZ h hp
     exact ⟨.pointer (some ⟨k, off + fo, none⟩), Rd.ptr hk, fun w' => by rw [e1]; exact gq hf w'⟩
    ·cases hv
theorem ee {e : TypeId} (h : P.cellsOf e ≠ 0) (w : World) : (sizeOf e).run P w = .ok (P.cellsOf e) w := by
 cases hi : P.info? e with
 | none => simp [Program.cellsOf, hi] at h
 | some i => simp [sizeOf, typeInfo, hi, Program.cellsOf]
theorem k9 {T : TypeId} {n e : Nat} (hu : P.underlying T = some (.array n e)) (hz : P.cellsOf e ≠ 0) {k off : Nat} {ik : IntKind} {j : Int} (h0 : 0 ≤ j) (h1 : j < n) (w : World) :
  (Instr.indexAt T (.pointer (some ⟨k, off, none⟩)) (.int ik j)).run P w = .ok (.pointer (some ⟨k, off + j.toNat * P.cellsOf e, none⟩)) w := by
 simp [Instr.indexAt, asIntOf, run_underlying hu, Instr.sureAddr, h0, h1, ee hz, Addr.add_lit]
theorem mr {T e : TypeId} (hu : P.underlying T = some (.slice e)) (hz : P.cellsOf e ≠ 0) {k off len cap : Nat} {ik : IntKind} {j : Int} (h0 : 0 ≤ j) (h1 : j < len) (w : World) :
  (Instr.indexAt T (.slice (some ⟨k, off, none⟩) len cap) (.int ik j)).run P w = .ok (.pointer (some ⟨k, off + j.toNat * P.cellsOf e, none⟩)) w := by
 simp [Instr.indexAt, asIntOf, run_underlying hu, h0, h1, ee hz, Addr.add_lit]
theorem mD {T : TypeId} (h : er P T ≠ 0) : ∃ e, P.underlying T = some (.slice e) ∧ er P T = P.cellsOf e := by
 unfold er at h ⊢
 split at h
 ·rename_i e he; exact ⟨e, he, rfl⟩
 ·simp at h
theorem mu (h : Rel st a w g) {T : TypeId} {x i : Operand} {s : SV} (hv : iG P st T x i = some s) :
  ∃ v, BV g w st a v s ∧ ∀ w', (Instr.indexAt T (a.eval x) (a.eval i)).run P w' = .ok v w' := by
 unfold iG at hv
 split at hv
 ·cases hv
 ·rename_i ik j hi
  have hei := fe h hi
  split at hv
  ·rename_i n sz ha
   have ⟨e, hu, hsz⟩ : ∃ e, P.underlying T = some (.array n e) ∧ sz = P.cellsOf e := by
    unfold arrayOf at ha
    split at ha
    ·cases ha; exact ⟨_, by assumption, rfl⟩
    ·cases ha
   subst hsz
   split at hv
   ·rename_i hc
    obtain ⟨hz, h0, h1⟩ := hc
    split at hv
    ·rename_i s0 off hl
     cases hv
     obtain ⟨cs, k, e1, e2, e3⟩ := fi h hl
     exact ⟨.pointer (some ⟨k, off + j.toNat * P.cellsOf e, none⟩), ⟨⟨cs, e1⟩, k, e2, rfl⟩, fun w' => by rw [e3, hei]; exact k9 hu hz h0 h1 w'⟩
    ·split at hv
     ·rename_i i' off hp
      cases hv
      obtain ⟨k, hk, e1⟩ := fZ h hp
      exact ⟨.pointer (some ⟨k, off + j.toNat * P.cellsOf e, none⟩), Rd.ptr hk, fun w' => by rw [e1, hei]; exact k9 hu hz h0 h1 w'⟩
     ·cases hv
   ·cases hv
  ·split at hv
   ·rename_i l n xs hl
    split at hv
    ·rename_i hc
     obtain ⟨hn, hw, h0⟩ := hc
     simp only [Option.map_eq_some_iff] at hv
     obtain ⟨y, hy, rfl⟩ := hv
     obtain ⟨e, hu, he⟩ := mD (P := P) (T := T) (by rw [← hw]; exact hn)
     rcases dr h hl with ⟨rfl, -⟩ | ⟨k, off, cap, c, T0, fz, us, e1, e2, e3, e4, e5, e6, e7⟩
     ·simp at hy
     ·have hlt := aD hy
      refine ⟨.pointer (some ⟨k, off + j.toNat * P.cellsOf e, none⟩), BV.fQ (nI ⟨k, _, c, T0, fz, us j.toNat, rfl, e2, e3, fun m z hz => ?_, fun m z hz => e7 _ y hy m z hz⟩),
       fun w' => by rw [e1, hei]; exact mr hu (by rw [← he, ← hw]; exact hn) h0 (by omega) w'⟩
      rw [← he, ← hw]
      exact e6 _ y hy m z hz
    ·cases hv
   ·cases hv
theorem nF {T : TypeId} {cs : List D} {off : Nat} {d : D} (hv : vu P T cs off = some d) {vs : Array Value} (hr : Rd g w (.agg vs) (.agg cs)) :
  ∃ v, Rd g w v d ∧ ∀ w', (part T vs off).run P w' = .ok v w' := by
 unfold vu at hv
 split at hv
 ·cases hv
 ·rename_i hu
  have hu : (P.underlying T).isNone = false := Bool.eq_false_iff.2 hu
  cases hr with
  | agg hl us hc hr =>
   split at hv
   ·rename_i ha
    cases hv
    refine ⟨.agg (vs.extract off (off + P.cellsOf T)), Rd.yu ?_ (fun j y hj => ?_), fun w' => ?_⟩
    ·simp [hl, Nat.min_def]; split <;> split <;> omega
    ·rw [List.getElem?_take] at hj
     split at hj
     ·rename_i hjn
      rw [List.getElem?_drop] at hj
      refine ⟨us (off + j), ?_, hr _ _ hj, (hc _ _ hj).2⟩
      rw [Array.getElem?_extract]
      have := aD hj
      rw [if_pos (by omega)]
      exact (hc _ _ hj).1
     ·cases hj
    ·simp [part, fX hu, ha, dP hu]
   ·rename_i ha
    have ha : cy P T = false := Bool.eq_false_iff.2 ha
    exact ⟨us off, hr _ _ hv, fun w' => by simp [part, fX hu, ha, (hc _ _ hv).1]⟩
end
end Go.Sh
namespace Go.Sh
section
variable {P : Program} {st : St} {a : Act} {w : World} {g : Gh}
theorem nc (l : List UInt8) : (mk l).toList = l := by rw [ByteArray.toList_eq]; rfl
theorem wD (x y : List UInt8) : mk x ++ mk y = mk (x ++ y) := by
 apply ByteArray.ext
 simp [mk, ByteArray.data_append]
theorem bG (h : Rel st a w g) {x : Operand} {d : D} {u : Value} (hv : bK st x = some d) (hl : ic d = some u) : a.eval x = u := s8 hl (bw h hv)
theorem p7 {s : Sem Value} {d : D} (hv : tL (gW P s) = some d) : ∃ v, Rd g w v d ∧ ∀ w', s.run P w' = .ok v w' := by
 simp only [tL, Option.bind_eq_some_iff] at hv
 obtain ⟨v, h1, h2⟩ := hv
 exact ⟨v, pz h2, s9 h1⟩
theorem sD {op : BinOp} {T : TypeId} {x y : Operand} {p q : List UInt8} {d : D}
  (hv : (if op matches .add then (if p.length + q.length ≤ maxLen then some (D.str (p ++ q)) else none) else (u6 op (p == q) (Op.bytesLess p q)).map .bool) = some d) :
  ∃ v, Rd g w v d ∧ ∀ w', (do eqGuard op T x y (.string (mk p)) (.string (mk q)); binOp op T (.string (mk p)) (.string (mk q)) : Sem Value).run P w' = .ok v w' := by
 have hg : eqGuard op T x y (.string (mk p)) (.string (mk q)) = pure () := eqGuard_at_string op T x y (.string (mk q)) (mk p)
 cases op <;> simp only [Bool.false_eq_true, if_false, if_true, u6, Option.map_some, Option.map_none, Option.some.injEq, reduceCtorEq] at hv
 case add =>
  split at hv
  ·rename_i hle
   cases hv
   refine ⟨.string (mk (p ++ q)), .str, fun w' => ?_⟩
   have hle' : ¬ (((mk p).size + (mk q).size : Nat) : Int) > IntKind.i64.max := by
    rw [jv, jv, IntKind.max_i64]
    unfold maxLen at hle
    omega
   rw [hg]
   simp only [binOp, Op.stringOp, Sem.run_bind, Sem.run_pure, Result.andThen_ok]
   rw [if_neg hle', wD]
   rfl
  ·cases hv
 all_goals
  subst hv
  refine ⟨_, .bool, fun w' => ?_⟩
  rw [hg]
  simp only [binOp, Op.stringOp, nc, Sem.run_bind, Sem.run_pure, Result.andThen_ok]
theorem rX {T : TypeId} {x y : D} {r : Bool} (hv : rY (P.underlying T) x y = some r) {u v : Value} (hx : Rd g w u x) (hy : Rd g w v y) (d : Nat) (w' : World) :
  (Op.equalIn (d + 1) T u v).run P w' = .ok r w' ∧ cy P T = false ∧ (P.underlying T).isNone = false := by
 cases hu : P.underlying T with
 | none => rw [hu] at hv; cases x <;> cases y <;> simp [rY] at hv
 | some t =>
  rw [hu] at hv
  cases t <;> cases x <;> cases y <;> simp only [rY, reduceCtorEq] at hv
  case bool.bool.bool a b =>
   cases hx; cases hy; cases hv
   exact ⟨run_equalIn_bool' w' d T _ _ hu, by simp [cy, hu], rfl⟩
  case int.int.int k0 k a k' b =>
   split at hv
   ·rename_i hk
    subst hk
    cases hx; cases hy; cases hv
    exact ⟨run_equalIn_int w' d T _ _ _ _ hu, by simp [cy, hu], rfl⟩
   ·cases hv
  case string.str.str a b =>
   cases hx; cases hy; cases hv
   refine ⟨?_, by simp [cy, hu], rfl⟩
   rw [run_equalIn_string w' d T _ _ hu, nc, nc]
theorem pS (d : Nat) (w' : World) {us vs : Array Value} : ∀ (fs : List Field) (i : Nat) (xs ys : List D) (r : Bool), uS P i fs xs ys = some r →
  (∀ (j : Nat) (y : D), xs[j]? = some y → ∃ u, us[i + j]? = some u ∧ Rd g w u y) → (∀ (j : Nat) (y : D), ys[j]? = some y → ∃ u, vs[i + j]? = some u ∧ Rd g w u y) →
  (Op.eqFields (d + 1) us vs fs).run P w' = .ok r w'
 | [], i, xs, ys, r, h, _, _ => by
  cases xs <;> cases ys <;> simp [uS] at h
  subst h; simp [Op.eqFields]
 | f :: fs, i, [], ys, r, h, _, _ => by cases ys <;> simp [uS] at h
 | f :: fs, i, x :: xs, [], r, h, _, _ => by simp [uS] at h
 | f :: fs, i, x :: xs, y :: ys, r, h, hx, hy => by
  simp only [uS] at h
  split at h
  ·rename_i hc
   simp only [Bool.and_eq_true, bne_iff_ne, beq_iff_eq] at hc
   obtain ⟨hn, ho⟩ := hc
   split at h
   ·rename_i p q h1 h2
    cases h
    obtain ⟨u, hu1, hu2⟩ := hx 0 x (by simp)
    obtain ⟨v, hv1, hv2⟩ := hy 0 y (by simp)
    simp only [Nat.add_zero] at hu1 hv1
    obtain ⟨e1, e2, e3⟩ := rX h1 hu2 hv2 d w'
    have ih := pS d w' (us := us) (vs := vs) fs (i + 1) xs ys q h2 (fun j z hz => by have := hx (j + 1) z (by simpa using hz); rwa [show i + (j + 1) = i + 1 + j by omega] at this)
     (fun j z hz => by have := hy (j + 1) z (by simpa using hz); rwa [show i + (j + 1) = i + 1 + j by omega] at this)
    have p1 : (part f.type us f.offset).run P w' = .ok u w' := by simp [part, fX e3, e2, ho, hu1]
    have p2 : (part f.type vs f.offset).run P w' = .ok v w' := by simp [part, fX e3, e2, ho, hv1]
    simp only [Op.eqFields, if_pos hn, Sem.run_bind, p1, p2, e1, Result.andThen_ok]
    cases p <;> simp [ih]
   ·cases h
  ·cases h
theorem kW {T : TypeId} (h : kr P T = true) : P.underlying T = some .string := by
 unfold kr at h
 split at h
 ·assumption
 ·cases h
theorem nY {T : TypeId} {xs ys : List D} {r : Bool} (hv : xW P T xs ys = some r) {u v : Value} (hx : Rd g w u (.agg xs)) (hy : Rd g w v (.agg ys)) (x y : Operand) (w' : World) :
  (do eqGuard .eql T x y u v; binOp .eql T u v : Sem Value).run P w' = .ok (.bool r) w' ∧ (do eqGuard .neq T x y u v; binOp .neq T u v : Sem Value).run P w' = .ok (.bool !r) w' := by
 unfold xW at hv
 split at hv
 ·rename_i fs hu
  split at hv
  ·rename_i hc
   simp only [Bool.and_eq_true, Bool.not_eq_true'] at hc
   obtain ⟨h1, h2⟩ := hc
   cases hx with
   | agg hl us hc hr =>
    cases hy with
    | agg hl' us' hc' hr' =>
     have hf : P.fieldsOf T = fs := by simp [Program.fieldsOf, hu]
     have hs := pS 9998 w' fs.toList 0 xs ys r hv (fun j z hz => ⟨us j, by simpa using (hc j z hz).1, hr j z hz⟩) (fun j z hz => ⟨us' j, by simpa using (hc' j z hz).1, hr' j z hz⟩)
     refine ⟨?_, ?_⟩
     ·simp only [Sem.run_bind, run_eqGuard_agg w' _ T x y _ _ h2, Result.andThen_ok, run_eql_struct, run_equalIn_struct (P := P) w' 9999 T _ _ (by rw [hf]; exact hu) h1, hf, hs]
     ·simp only [Sem.run_bind, run_eqGuard_agg w' _ T x y _ _ h2, Result.andThen_ok, run_neq_struct, run_equalIn_struct (P := P) w' 9999 T _ _ (by rw [hf]; exact hu) h1, hf, hs]
  ·cases hv
 ·cases hv
def lE : Value → Nat
 | .pointer (some _) => 1
 | .iface _ _ => 2
 | .func _ _ _ => 3
 | .map (some _) => 4
 | _ => 0
def qM : Value → Nat
 | .pointer none => 1
 | .nilIface => 2
 | .nilFunc => 3
 | .map none => 4
 | _ => 0
theorem yR (h : Rel st a w g) {x : Operand} {s : SV} (hv : val st x = some s) (hs : lY s ≠ 0) : lE (a.eval x) = lY s := by
 cases s with
 | d d =>
  have := w8 h hv
  generalize a.eval x = v at this
  cases this <;> simp [lY, lE] at hs ⊢
 | loc s off =>
  cases x with
  | tmp t => obtain ⟨-, k, -, e⟩ := h.rs hv; rw [e]; rfl
  | const v => simp [val] at hv
  | func f => simp [val] at hv
  | global f => simp [val] at hv
 | bO l cs =>
  cases x with
  | tmp t => obtain ⟨k, off, c, T0, fz, us, e, -⟩ := h.rs hv; rw [e]; rfl
  | const v => simp [val] at hv
  | func f => simp [val] at hv
  | global f => simp [val] at hv
 | box cs =>
  cases x with
  | tmp t => obtain ⟨k, c, T0, e, -⟩ := h.rs hv; rw [e]; rfl
  | const v => simp [val] at hv
  | func f => simp [val] at hv
  | global f => simp [val] at hv
 | _ => simp [lY] at hs
theorem Au (h : Rel st a w g) {x : Operand} {d : D} (hv : bK st x = some d) (hs : zf d ≠ 0) : qM (a.eval x) = zf d := by
 have := bw h hv
 generalize a.eval x = v at this
 cases this <;> simp [zf, qM] at hs ⊢
theorem tu (d : Nat) (w' : World) {T : TypeId} {u v : Value} (h1 : lE u = oS P T) (h2 : qM v = oS P T) :
  (Op.equalIn (d + 1) T u v).run P w' = .ok false w' ∧ (Op.equalIn (d + 1) T v u).run P w' = .ok false w' := by
 unfold oS at h1 h2
 cases hu : P.underlying T with
 | none => rw [hu] at h1; unfold lE at h1; split at h1 <;> simp at h1
 | some t =>
  rw [hu] at h1 h2
  unfold lE at h1
  unfold qM at h2
  cases t <;> simp only [] at h1 h2 <;> (split at h1 <;> simp at h1) <;> (split at h2 <;> simp at h2) <;>
   (refine ⟨?_, ?_⟩ <;> (unfold Op.equalIn; simp [run_underlying hu]))
theorem BM (w' : World) {T : TypeId} {u v : Value} (h1 : lE u = oS P T) (h2 : qM v = oS P T) :
  (Op.equal T u v).run P w' = .ok false w' ∧ (Op.equal T v u).run P w' = .ok false w' ∧
  (∀ op ox oy, eqGuard op T ox oy u v = pure () ∧ eqGuard op T ox oy v u = pure ()) ∧
  (binOp .eql T u v = (do pure (.bool (← Op.equal T u v)) : Sem Value) ∧ binOp .neq T u v = (do pure (.bool (!(← Op.equal T u v))) : Sem Value) ∧
   binOp .eql T v u = (do pure (.bool (← Op.equal T v u)) : Sem Value) ∧ binOp .neq T v u = (do pure (.bool (!(← Op.equal T v u))) : Sem Value)) := by
 obtain ⟨e1, e2⟩ := tu 9999 w' h1 h2
 refine ⟨e1, e2, ?_⟩
 have hne : oS P T ≠ 0 := by unfold oS; split <;> simp
 rw [← h1] at hne h2
 unfold lE at hne h2
 unfold qM at h2
 split at hne <;> simp at hne <;> (split at h2 <;> simp at h2) <;> exact ⟨fun op ox oy => ⟨by cases op <;> rfl, by cases op <;> rfl⟩, rfl, rfl, rfl, rfl⟩
theorem iC (h : Rel st a w g) {T : TypeId} {x y : Operand} (hv : vA P st T x y = true) (ox oy : Operand) (w' : World) :
  (do eqGuard .eql T ox oy (a.eval x) (a.eval y); binOp .eql T (a.eval x) (a.eval y) : Sem Value).run P w' = .ok (.bool false) w' ∧
  (do eqGuard .neq T ox oy (a.eval x) (a.eval y); binOp .neq T (a.eval x) (a.eval y) : Sem Value).run P w' = .ok (.bool true) w' ∧
  (do eqGuard .eql T ox oy (a.eval y) (a.eval x); binOp .eql T (a.eval y) (a.eval x) : Sem Value).run P w' = .ok (.bool false) w' ∧
  (do eqGuard .neq T ox oy (a.eval y) (a.eval x); binOp .neq T (a.eval y) (a.eval x) : Sem Value).run P w' = .ok (.bool true) w' := by
 unfold vA at hv
 split at hv
 ·rename_i s d h1 h2
  simp only [Bool.and_eq_true, beq_iff_eq] at hv
  obtain ⟨e1, e2⟩ := hv
  have hne : oS P T ≠ 0 := by unfold oS; split <;> simp
  have a1 := yR h h1 (by rw [e1]; exact hne)
  have a2 := Au h h2 (by rw [e2]; exact hne)
  obtain ⟨b1, b2, b3, b4⟩ := BM (P := P) w' (a1.trans e1) (a2.trans e2)
  obtain ⟨c1, c2, c3, c4⟩ := b4
  refine ⟨?_, ?_, ?_, ?_⟩
  ·simp only [(b3 .eql ox oy).1, Sem.run_bind, Sem.run_pure, Result.andThen_ok, c1, b1]
  ·simp only [(b3 .neq ox oy).1, Sem.run_bind, Sem.run_pure, Result.andThen_ok, c2, b1]; rfl
  ·simp only [(b3 .eql ox oy).2, Sem.run_bind, Sem.run_pure, Result.andThen_ok, c3, b2]
  ·simp only [(b3 .neq ox oy).2, Sem.run_bind, Sem.run_pure, Result.andThen_ok, c4, b2]; rfl
 ·cases hv
theorem u7 (h : Rel st a w g) {op : BinOp} {T : TypeId} {x y : Operand} {d : D} (hv : AH P st op T x y = some d) :
  ∃ v, Rd g w v d ∧ ∀ w', (do eqGuard op T x y (a.eval x) (a.eval y); binOp op T (a.eval x) (a.eval y) : Sem Value).run P w' = .ok v w' := by
 unfold AH at hv
 split at hv
 ·rename_i p q h1 h2
  rw [bG h h1 rfl, bG h h2 rfl]
  exact sD hv
 ·rename_i p q h1 h2
  have r1 := bw h h1
  have r2 := bw h h2
  split at hv
  ·rename_i r h3
   cases hv
   exact ⟨_, .bool, fun w' => (nY h3 r1 r2 x y w').1⟩
  ·rename_i r h3
   cases hv
   exact ⟨_, .bool, fun w' => (nY h3 r1 r2 x y w').2⟩
  ·cases hv
 ·split at hv
  ·rename_i u v h1 h2
   simp only [Option.bind_eq_some_iff] at h1 h2
   obtain ⟨d1, f1, f2⟩ := h1
   obtain ⟨d2, f3, f4⟩ := h2
   rw [bG h f1 f2, bG h f3 f4]
   exact p7 hv
  ·split at hv
   ·rename_i hn
    rw [Bool.or_eq_true] at hn
    rcases hn with hn | hn
    ·split at hv
     ·cases hv; exact ⟨_, .bool, fun w' => (iC h hn x y w').1⟩
     ·cases hv; exact ⟨_, .bool, fun w' => (iC h hn x y w').2.1⟩
     ·cases hv
    ·split at hv
     ·cases hv; exact ⟨_, .bool, fun w' => (iC h hn x y w').2.2.1⟩
     ·cases hv; exact ⟨_, .bool, fun w' => (iC h hn x y w').2.2.2⟩
     ·cases hv
   ·cases hv
theorem wh (h : Rel st a w g) {op : UnOp} {x : Operand} {d : D} (hv : unS P st op x = some d) : ∃ v, Rd g w v d ∧ ∀ w', (Op.unary op (a.eval x)).run P w' = .ok v w' := by
 unfold unS at hv
 split at hv
 ·rename_i u h1
  simp only [Option.bind_eq_some_iff] at h1
  obtain ⟨d1, f1, f2⟩ := h1
  rw [bG h f1 f2]
  exact p7 hv
 ·cases hv
theorem nW : ∀ {xs : List D} {bs : List UInt8}, bytesOf xs = some bs → ∃ ns : List Int, ns.length = xs.length ∧ bs = ns.map (fun n => UInt8.ofNat n.toNat) ∧ ∀ (i : Nat) (x : D), xs[i]? = some x → x = .int .u8 (ns.getD i 0)
 | [], bs, h => by simp [bytesOf] at h; subst h; exact ⟨[], rfl, rfl, by simp⟩
 | x :: xs, bs, h => by
  cases x with
  | int k n =>
   cases k <;> simp only [bytesOf, reduceCtorEq, Option.map_eq_some_iff] at h
   obtain ⟨bs', h1, rfl⟩ := h
   obtain ⟨ns, e1, e2, e3⟩ := nW h1
   refine ⟨n :: ns, by simp [e1], by simp [e2], fun i x hx => ?_⟩
   cases i with
   | zero => simpa [eq_comm] using hx
   | succ i => simpa using e3 i x (by simpa using hx)
  | _ => simp [bytesOf] at h
theorem te {T : TypeId} (h : pH P T = true) : ∃ e, P.underlying T = some (.slice e) ∧ P.underlying e = some (.int .u8) := by
 unfold pH at h
 split at h
 ·rename_i e he
  split at h
  ·exact ⟨e, he, by assumption⟩
  ·cases h
 ·cases h
theorem se (h : Rel st a w g) {src dst : TypeId} {x : Operand} {d : D} (hv : uY P st src dst x = some d) : ∃ v, Rd g w v d ∧ ∀ w', Up w w' → (convert src dst (a.eval x)).run P w' = .ok v w' := by
 unfold uY at hv
 split at hv
 ·rename_i hT
  rw [Bool.and_eq_true] at hT
  obtain ⟨e, hs, he⟩ := te hT.1
  have hd := kW hT.2
  split at hv
  ·rename_i l n xs hl
   split at hv
   ·rename_i hn
    simp only [Option.map_eq_some_iff] at hv
    obtain ⟨bs, hb, rfl⟩ := hv
    obtain ⟨ns, e1, rfl, e3⟩ := nW hb
    refine ⟨_, .str, fun w' hw => ?_⟩
    rcases dr h hl with ⟨rfl, a0, cap, f1⟩ | ⟨k, off, cap, c, T0, fz, us, f1, f2, f3, f4, f5, f6, f7⟩
    ·have : ns = [] := by simpa using e1
     subst this
     rw [f1]
     cases a0 with
     | none => exact run_convert_bytes_nil w' src e hs he 0 cap dst hd
     | some a0 =>
      rw [run_convert_bytes_string w' src dst e _ 0 cap hs he hd]
      simp [Conv.bytesToString, loadCells, loadCellsFrom, mk]
      rfl
    ·rw [f1]
     have h1 : n = 1 ∨ xs.length = 0 := by
      rcases hn with hn | hn
      ·exact .inl hn
      ·right; simpa using hn
     rw [run_convert_bytes_arg w' src e hs he k off xs.length cap ns e1 (fun i hi => ?_) dst hd]
     ·rfl
     ·have hx : xs[i]? = some xs[i] := by simp [hi]
      have hn1 : n = 1 := by omega
      subst hn1
      have hi' := e3 i _ hx
      have hc := (f6 i _ hx 0 (.int .u8 (ns.getD i 0)) (by rw [hi']; rfl)).1
      have hr := f7 i _ hx 0 (.int .u8 (ns.getD i 0)) (by rw [hi']; rfl)
      generalize us i 0 = u at hc hr
      cases hr
      rw [kA (hw _ _ f3)]
      simpa using hc
   ·cases hv
  ·cases hv
 ·cases hv
theorem tD (h : Rel st a w g) {src dst : TypeId} {x : Operand} {d : D} (hv : yc P st src dst x = some d) : ∃ v, Rd g w v d ∧ ∀ w', Up w w' → (convert src dst (a.eval x)).run P w' = .ok v w' := by
 unfold yc at hv
 split at hv
 ·rename_i u h1
  simp only [Option.bind_eq_some_iff] at h1
  obtain ⟨d1, f1, f2⟩ := h1
  rw [bG h f1 f2]
  obtain ⟨v, e1, e2⟩ := p7 (g := g) (w := w) hv
  exact ⟨v, e1, fun w' _ => e2 w'⟩
 ·exact se h hv
theorem qm (h : Rel st a w g) {T : TypeId} {x i : Operand} {d : D} (hv : oG P st T x i = some d) :
  ∃ v, Rd g w v d ∧ ∀ w', (Instr.index T (a.eval x) (a.eval i)).run P w' = .ok v w' := by
 unfold oG at hv
 split at hv
 ·rename_i l k j h1 h2
  have e1 := bG h h1 rfl
  have e2 := fe h h2
  split at hv
  ·rename_i hc
   obtain ⟨hu, h0⟩ := hc
   have hu := kW hu
   simp only [Option.map_eq_some_iff] at hv
   obtain ⟨b, hb, rfl⟩ := hv
   have hlt := aD hb
   refine ⟨_, .int, fun w' => ?_⟩
   rw [e1, e2, run_index_string w' T _ k j hu, dif_pos ⟨h0, by rw [jv]; omega⟩]
   congr 3
   have : (mk l)[j.toNat]'(by rw [jv]; omega) = b := by
    have : l[j.toNat]'hlt = b := by rw [List.getElem?_eq_getElem hlt] at hb; exact Option.some.inj hb
    rw [← this]; rfl
   rw [this]
  ·cases hv
 ·rename_i cs k j h1 h2
  have r1 := bw h h1
  have e2 := fe h h2
  split at hv
  ·rename_i n e hu
   split at hv
   ·rename_i hc
    obtain ⟨hz, h0, hn⟩ := hc
    rw [e2]
    generalize a.eval x = v at r1
    cases r1 with
    | agg hl us hc hr =>
     obtain ⟨u, hu1, hu2⟩ := nF hv (Rd.agg hl us hc hr)
     exact ⟨u, hu1, fun w' => by simp [Instr.index, asIntOf, run_underlying hu, h0, hn, ee hz, hu2]⟩
   ·cases hv
  ·cases hv
 ·cases hv
theorem qn (h : Rel st a w g) {T : TypeId} {x : Operand} {f : Nat} {d : D} (hv : rW P st T x f = some d) :
  ∃ v, Rd g w v d ∧ ∀ w', (Instr.field T (a.eval x) f).run P w' = .ok v w' := by
 unfold rW at hv
 split at hv
 ·rename_i cs fs h1 hu
  split at hv
  ·rename_i fl hfl
   have r1 := bw h h1
   generalize a.eval x = v at r1
   cases r1 with
   | agg hl us hc hr =>
    obtain ⟨u, hu1, hu2⟩ := nF hv (Rd.agg hl us hc hr)
    exact ⟨u, hu1, fun w' => by simp [Instr.field, run_underlying hu, hfl, asAgg, hu2]⟩
  ·cases hv
 ·cases hv
theorem rl (h : Rel st a w g) {dflt n : Nat} {x : Option Operand} (hv : bnd st dflt x = some n) :
  (x = none ∧ n = dflt) ∨ ∃ o k j, x = some o ∧ a.eval o = .int k j ∧ 0 ≤ j ∧ n = j.toNat := by
 unfold bnd at hv
 split at hv
 ·cases hv; exact .inl ⟨rfl, rfl⟩
 ·rename_i o
  split at hv
  ·rename_i k j hi
   split at hv
   ·rename_i h0
    cases hv
    exact .inr ⟨o, k, j, rfl, fe h hi, h0, rfl⟩
   ·cases hv
  ·cases hv
theorem lP (h : Rel st a w g) {sl : Bool} {len cap i j : Nat} {lo hi : Option Operand} (h1 : bnd st 0 lo = some i) (h2 : bnd st len hi = some j) (hij : i ≤ j) (hj : j ≤ len) (hc : len ≤ cap) (w' : World) :
  (Instr.sliceBounds sl len cap (lo.map a.eval) (hi.map a.eval) none).run P w' = .ok (i, j, cap) w' := by
 rcases rl h h1 with ⟨rfl, rfl⟩ | ⟨o1, k1, j1, rfl, e1, f1, rfl⟩ <;> rcases rl h h2 with ⟨rfl, rfl⟩ | ⟨o2, k2, j2, rfl, e2, f2, rfl⟩
 ·simp [Instr.sliceBounds]
 ·have : j2 ≤ (cap : Int) := by omega
  simp [Instr.sliceBounds, e2, run_sliceBound w' k2 j2 cap _ f2 this]
 ·have : j1 ≤ (j : Int) := by omega
  simp [Instr.sliceBounds, e1, run_sliceBound w' k1 j1 j _ f1 this]
 ·have : j2 ≤ (cap : Int) := by omega
  have : j1 ≤ (j2.toNat : Int) := by omega
  simp [Instr.sliceBounds, e1, e2, run_sliceBound w' k2 j2 cap _ f2 (by omega), run_sliceBound w' k1 j1 j2.toNat _ f1 this]
theorem oK {T e : TypeId} (h : P.underlying T = some (.slice e)) : P.elem T = e := by simp [Program.elem, h]
theorem qj (h : Rel st a w g) {T : TypeId} {x : Operand} {lo hi mx : Option Operand} {s : SV} (hv : oD P st T x lo hi mx = some s) :
  ∃ v, je g w v s ∧ ∀ w', (Instr.sliceAt T (a.eval x) (lo.map a.eval) (hi.map a.eval) (mx.map a.eval)).run P w' = .ok v w' := by
 unfold oD at hv
 split at hv
 ·rename_i hmx
  split at hv
  ·rename_i hc
   cases hv
   simp only [Bool.and_eq_true, bne_iff_ne, Option.isNone_iff_eq_none] at hc
   obtain ⟨⟨⟨⟨rfl, hhi⟩, hm⟩, hz⟩, hls⟩ := hc
   obtain ⟨⟨l, n, xs⟩, hl⟩ := Option.isSome_iff_exists.1 hls
   have zero : ∀ x, isZero st x = true → ∃ o k, x = some o ∧ a.eval o = .int k 0 := fun x hx => by
    unfold isZero at hx
    split at hx
    ·rename_i o
     split at hx
     ·rename_i k j hj
      have : j = 0 := by simpa using hx
      subst this
      exact ⟨o, k, rfl, fe h hj⟩
     ·cases hx
    ·cases hx
   obtain ⟨o1, k1, rfl, e1⟩ := zero _ hhi
   obtain ⟨o2, k2, rfl, e2⟩ := zero _ hm
   obtain ⟨e, hu, he⟩ := mD hz
   have hue : P.underlying T = some (.slice (P.elem T)) := by rw [oK hu]; exact hu
   have hsz : ∀ w', (sizeOf (P.elem T)).run P w' = .ok (P.cellsOf e) w' := fun w' => by rw [oK hu]; exact ee (by rw [← he]; exact hz) w'
   have hsl : ∃ a0 len cap, a.eval x = .slice a0 len cap := by
    rcases dr h hl with ⟨-, a0, cap, e⟩ | ⟨k, off, cap, c, T0, fz, us, e, -⟩
    ·exact ⟨_, _, _, e⟩
    ·exact ⟨_, _, _, e⟩
   obtain ⟨a0, len, cap, ex⟩ := hsl
   refine ⟨sliced a0 0 0 0 (P.cellsOf e), Rd.bW, fun w' => ?_⟩
   rw [run_sliceAt_slice w' T _ _ _ _ hue, ex, Option.map_some, Option.map_some, e1, e2, Option.map_none, run_slice_hm w' T a0 len cap hue k1 k2 0 0 (by omega) (by omega) (by omega)]
   simp [hsz]
  ·cases hv
 ·rename_i hmx
  have hmx : mx = none := by cases mx <;> simp at hmx ⊢
  subst hmx
  split at hv
  ·rename_i l h1
   have e1 := bG h h1 rfl
   split at hv
   ·rename_i i j b1 b2
    split at hv
    ·rename_i hc
     obtain ⟨hu, hij, hj⟩ := hc
     cases hv
     have hu := kW hu
     refine ⟨.string (mk ((l.take j).drop i)), Rd.str, fun w' => ?_⟩
     rw [run_sliceAt_string w' T _ _ _ _ hu, e1]
     have hb := lP (P := P) h (sl := false) (cap := l.length) b1 b2 hij hj (Nat.le_refl _) w'
     have : (mk l).extract i j = mk ((l.take j).drop i) := by
      apply ByteArray.ext
      simp [mk, ByteArray.data_extract, List.drop_take]
     simp [Instr.slice, run_underlying hu, jv, hb, this]
    ·cases hv
   ·cases hv
  ·split at hv
   ·rename_i l n xs hl
    split at hv
    ·rename_i i j b1 b2
     split at hv
     ·rename_i hc
      obtain ⟨hz, hn, hij, hj⟩ := hc
      cases hv
      obtain ⟨e, hu, he⟩ := mD hz
      have hue : P.underlying T = some (.slice (P.elem T)) := by rw [oK hu]; exact hu
      have hsz : ∀ w', (sizeOf (P.elem T)).run P w' = .ok (P.cellsOf e) w' := fun w' => by rw [oK hu]; exact ee (by rw [← he]; exact hz) w'
      rcases dr h hl with ⟨rfl, a0, cap, e1⟩ | ⟨k, off, cap, c, T0, fz, us, e1, e2, e3, e4, e5, e6, e7⟩
      ·have hj0 : j = 0 := by simpa using hj
       subst hj0
       have hi0 : i = 0 := by omega
       subst hi0
       have hb := lP (P := P) h (sl := true) (len := 0) (cap := cap) b1 b2 (Nat.le_refl _) (Nat.le_refl _) (Nat.zero_le _)
       refine ⟨sliced a0 0 0 cap (P.cellsOf e), nJ (.inl ⟨by simp, _, _, rfl⟩), fun w' => ?_⟩
       rw [run_sliceAt_slice w' T _ _ _ _ hue, e1, run_slice_any w' T a0 0 cap hue]
       simp [hb, hsz]
      ·have hb := lP (P := P) h (sl := true) (len := xs.length) (cap := cap) b1 b2 hij hj e4
       refine ⟨sliced (some ⟨k, off, none⟩) i j cap (P.cellsOf e), nJ ?_, fun w' => ?_⟩
       ·by_cases hji : j = i
        ·subst hji
         refine .inl ⟨by simp, (if cap = j then some ⟨k, off, none⟩ else (some (⟨k, off, none⟩ : Addr)).map (·.add (j * P.cellsOf e))), cap - j, ?_⟩
         unfold sliced
         rw [Nat.sub_self]
        ·have hn' : n = P.cellsOf e := by
          rcases hn with hn | hn
          ·rw [hn, he]
          ·simp at hn; subst hn; simp at hj; omega
         subst hn'
         have hci : cap ≠ i := by omega
         refine .inr ⟨k, off + i * P.cellsOf e, cap - i, c, T0, fz, fun m => us (i + m), ?_, e2, e3, ?_, fun m y hy => ?_, fun m y hy p z hz => ?_, fun m y hy p z hz => ?_⟩
         ·simp [sliced, hci, Addr.add_lit, Nat.min_eq_left hj]
         ·simp [Nat.min_eq_left hj]; omega
         all_goals
          rw [List.getElem?_drop, List.getElem?_take] at hy
          split at hy
          ·first
            | exact e5 _ y hy
            | exact e7 _ y hy p z hz
            | (have := e6 _ y hy p z hz
               rw [show off + i * P.cellsOf e + m * P.cellsOf e + p = off + (i + m) * P.cellsOf e + p by rw [Nat.add_mul]; omega]
               exact this)
          ·cases hy
       ·rw [run_sliceAt_slice w' T _ _ _ _ hue, e1, run_slice_any w' T _ _ cap hue]
        simp [hb, hsz]
     ·cases hv
    ·cases hv
   ·cases hv
theorem s6 (h : Rel st a w g) {T ty : TypeId} {x : Operand} {d : D} (hv : xI P st T x = some d) :
  ∃ v, Rd g w v d ∧ ∀ w', (Builtin.len_ #[T] ty #[a.eval x]).run P w' = .ok v w' := by
 unfold xI at hv
 split at hv
 ·rename_i l h1
  split at hv
  ·rename_i hu
   cases hv
   exact ⟨_, .int, fun w' => by rw [bG h h1 rfl, run_len_string w' T ty _ (kW hu)]; rfl⟩
  ·cases hv
 ·split at hv
  ·rename_i l n xs hl
   split at hv
   ·rename_i e hu
    cases hv
    refine ⟨_, .int, fun w' => ?_⟩
    rcases dr h hl with ⟨rfl, a0, cap, e1⟩ | ⟨k, off, cap, c, T0, fz, us, e1, -⟩ <;> rw [e1] <;> simp [Builtin.len_, run_underlying hu, goInt]
   ·cases hv
  ·cases hv
theorem oh (h : Rel st a w g) {x : Operand} {j : Nat} {d : D} (hv : nk st x j = some d) : ∃ v, Rd g w v d ∧ ∀ w', (Instr.extract (a.eval x) j).run P w' = .ok v w' := by
 unfold nk at hv
 split at hv
 ·split at hv
  ·rename_i vs hs
   split at hv
   ·rename_i d' hd
    cases hv
    obtain ⟨us, e1, e2, e3⟩ := h.rs hs
    obtain ⟨u, f1, f2⟩ := e3 j _ hd
    exact ⟨u, f2, fun w' => by rw [e1]; simp [Instr.extract, f1]⟩
   ·cases hv
  ·cases hv
 ·cases hv
theorem lN (h : Rel st a w g) : ∀ {xs : List Operand} {ds : List D}, tA st xs = some ds → xs.length = ds.length ∧ ∀ (j : Nat) (y : D), ds[j]? = some y → ∃ o, xs[j]? = some o ∧ Rd g w (a.eval o) y
 | [], ds, hv => by simp [tA] at hv; subst hv; simp
 | x :: xs, ds, hv => by
  simp only [tA] at hv
  split at hv
  ·rename_i d ds' h1 h2
   cases hv
   obtain ⟨hl, hr⟩ := lN h h2
   refine ⟨by simp [hl], fun j y hj => ?_⟩
   cases j with
   | zero => simp at hj; subst hj; exact ⟨x, by simp, bw h h1⟩
   | succ j => simpa using hr j y (by simpa using hj)
  ·cases hv
theorem pt (h : Rel st a w g) {fn : Fn} {first caps : Array Operand} {fs cs : List D} (h1 : tA st first.toList = some fs) (h2 : tA st caps.toList = some cs) :
  Rd g w (.func fn (first.map a.eval) (caps.map a.eval)) (.fn fn fs cs) := by
 obtain ⟨l1, r1⟩ := lN h h1
 obtain ⟨l2, r2⟩ := lN h h2
 refine .fn (by simpa using l1) (by simpa using l2) (fun j => ((first[j]?).map a.eval).getD undef) (fun j => ((caps[j]?).map a.eval).getD undef) (fun j y hj => ?_) (fun j y hj => ?_) (fun j y hj => ?_) (fun j y hj => ?_)
 ·obtain ⟨o, e1, e2⟩ := r1 j y hj
  have : first[j]? = some o := by simpa using e1
  simp [this]
 ·obtain ⟨o, e1, e2⟩ := r1 j y hj
  have : first[j]? = some o := by simpa using e1
  simpa [this] using e2
 ·obtain ⟨o, e1, e2⟩ := r2 j y hj
  have : caps[j]? = some o := by simpa using e1
  simp [this]
 ·obtain ⟨o, e1, e2⟩ := r2 j y hj
  have : caps[j]? = some o := by simpa using e1
  simpa [this] using e2
end
end Go.Sh
namespace Go.Sh
section
variable {P : Program} {st : St} {a : Act} {w : World} {g : Gh}
def fN (g : Gh) (w : World) (vs : Array Value) (cs : List D) : Prop := vs.size = cs.length ∧ ∀ (j : Nat) (y : D), cs[j]? = some y → ∃ u, vs[j]? = some u ∧ Rd g w u y ∧ u.oneCell' = true
theorem Rd.cells {v : Value} {x : D} (h : Rd g w v x) : fN g w v.cells x.cells := by
 have one : ∀ (v : Value) (x : D), Rd g w v x → v.oneCell' = true → fN g w #[v] [x] := fun v x h h1 => ⟨rfl, fun j y hj => by
  cases j with
  | zero => simp at hj; subst hj; exact ⟨v, rfl, h, h1⟩
  | succ j => simp at hj⟩
 cases h with
 | agg hl us hc hr => exact ⟨hl, fun j y hj => ⟨us j, (hc j y hj).1, hr j y hj, (hc j y hj).2⟩⟩
 | bool => exact one _ _ .bool rfl
 | int => exact one _ _ .int rfl
 | str => exact one _ _ .str rfl
 | bW => exact one _ _ .bW rfl
 | iD => exact one _ _ .iD rfl
 | list us hk hb hl hp hn hc hr => exact one _ _ (.list us hk hb hl hp hn hc hr) rfl
 | nilIface => exact one _ _ .nilIface rfl
 | iface h => exact one _ _ (.iface h) rfl
 | fn hl1 hl2 us1 us2 hc1 hr1 hc2 hr2 => exact one _ _ (.fn hl1 hl2 us1 us2 hc1 hr1 hc2 hr2) rfl
 | eZ => exact one _ _ .eZ rfl
 | aL => exact one _ _ .aL rfl
 | ptr h => exact one _ _ (.ptr h) rfl
 | aR us hk hb hc hr => exact one _ _ (.aR us hk hb hc hr) rfl
 | et => exact one _ _ .et rfl
 | map h => exact one _ _ (.map h) rfl
 | raw h =>
  have e : v.cells = #[v] := by cases v <;> simp_all [Value.oneCell', Value.cells]
  rw [e]
  exact one _ _ (.raw h) h
theorem fN.agg {vs : Array Value} {cs : List D} (h : fN g w vs cs) : Rd g w (.agg vs) (.agg cs) := Rd.yu h.1 h.2
theorem jm : ∀ (l : List Value) (k off : Nat) (cells : Array Value) (i : Nat),
  ((l.zipIdx k).foldl (fun cs p => cs.setIfInBounds (off + p.2) p.1) cells).size = cells.size ∧
  ((l.zipIdx k).foldl (fun cs p => cs.setIfInBounds (off + p.2) p.1) cells)[i]? = if off + k ≤ i ∧ i < off + k + l.length ∧ i < cells.size then l[i - (off + k)]? else cells[i]?
 | [], k, off, cells, i => by simp; intro h1 h2; omega
 | v :: l, k, off, cells, i => by
  simp only [List.zipIdx_cons, List.foldl_cons]
  obtain ⟨h1, h2⟩ := jm l (k + 1) off (cells.setIfInBounds (off + k) v) i
  refine ⟨by rw [h1]; simp, ?_⟩
  rw [h2]
  simp only [Array.size_setIfInBounds]
  by_cases hi : off + k = i
  ·subst hi
   rw [if_neg (by omega)]
   by_cases hs : off + k < cells.size
   ·rw [if_pos ⟨by omega, by simp, hs⟩]
    simp [hs]
   ·rw [if_neg (by omega)]
    rw [Array.getElem?_eq_none (by simp; omega), Array.getElem?_eq_none (by omega)]
  ·by_cases hc : off + (k + 1) ≤ i ∧ i < off + (k + 1) + l.length ∧ i < cells.size
   ·rw [if_pos hc, if_pos (by simp; omega)]
    rw [show i - (off + k) = (i - (off + (k + 1))) + 1 by omega]
    simp
   ·rw [if_neg hc, if_neg (by simp; omega), Array.getElem?_setIfInBounds_ne (by omega)]
theorem yU {vs cells : Array Value} {ys cs : List D} {off : Nat} (h1 : fN g w vs ys) (h2 : fN g w cells cs) (hb : off + ys.length ≤ cs.length) :
  fN g w (vs.zipIdx.foldl (fun cs p => cs.setIfInBounds (off + p.2) p.1) cells) (cs.take off ++ ys ++ cs.drop (off + ys.length)) := by
 have he : vs.zipIdx.foldl (fun cs p => cs.setIfInBounds (off + p.2) p.1) cells = (vs.toList.zipIdx 0).foldl (fun cs p => cs.setIfInBounds (off + p.2) p.1) cells := by
  rw [← Array.foldl_toList, Array.toList_zipIdx]
 rw [he]
 refine ⟨?_, fun j y hj => ?_⟩
 ·rw [(jm _ 0 off cells 0).1, h2.1]
  simp; omega
 ·rw [(jm _ 0 off cells j).2]
  have hvl : vs.toList.length = ys.length := by simpa using h1.1
  have hcl := h2.1
  rw [hvl]
  by_cases c1 : j < off
  ·rw [if_neg (by omega)]
   refine h2.2 j y ?_
   rw [List.append_assoc, List.getElem?_append_left (by simp; omega), List.getElem?_take, if_pos c1] at hj
   exact hj
  ·by_cases c2 : j < off + ys.length
   ·rw [if_pos (by omega)]
    rw [List.getElem?_append_left (by simp; omega), List.getElem?_append_right (by simp; omega)] at hj
    simp only [List.length_take] at hj
    rw [Nat.min_eq_left (by omega)] at hj
    obtain ⟨u, e1, e2⟩ := h1.2 _ y hj
    exact ⟨u, by simpa using e1, e2⟩
   ·rw [if_neg (by omega)]
    refine h2.2 j y ?_
    rw [List.getElem?_append_right (by simp; omega), List.getElem?_drop] at hj
    simp only [List.length_append, List.length_take] at hj
    rw [Nat.min_eq_left (by omega)] at hj
    rw [show off + ys.length + (j - (off + ys.length)) = j by omega] at hj
    exact hj
theorem jA {place place' : Nat → Option (Nat × Nat)} (hp : ∀ i, place i = place' i) : ∀ (ps : List (Nat × D)) (qs : List (Nat × Value)) (cells : Array Value) (cs cs' : List D),
  fN g w cells cs → ps.length = qs.length → (∀ (j : Nat) (p : Nat × D), ps[j]? = some p → ∃ v, qs[j]? = some (p.1, v) ∧ Rd g w v p.2) →
  nP place cs ps = some cs' → ∃ cells', Instr.fill place' cells qs = some cells' ∧ fN g w cells' cs'
 | [], [], cells, cs, cs', h1, _, _, h => by
  simp only [nP, Option.some.injEq] at h
  subst h
  exact ⟨cells, rfl, h1⟩
 | [], _ :: _, _, _, _, _, h, _, _ => by simp at h
 | _ :: _, [], _, _, _, _, h, _, _ => by simp at h
 | (i, x) :: ps, q :: qs, cells, cs, cs', h1, hl, hq, h => by
  obtain ⟨v, e1, e2⟩ := hq 0 (i, x) (by simp)
  simp only [List.getElem?_cons_zero, Option.some.injEq] at e1
  subst e1
  simp only [nP] at h
  split at h
  ·cases h
  ·rename_i off size hpl
   split at h
   ·cases h
   ·rename_i hc
    have hv := e2.cells
    simp only at hv hc
    have hc1 : x.cells.length = size := by omega
    subst hc1
    have hsz : ¬ (decide (v.cells.size ≠ x.cells.length) || decide (off + v.cells.size > cells.size)) = true := by rw [hv.1, h1.1]; simp; omega
    obtain ⟨cells', f1, f2⟩ := jA hp ps qs _ _ cs' (yU (off := off) hv h1 (by omega)) (by simpa using hl) (fun j p hj => by simpa using hq (j + 1) p (by simpa using hj)) h
    refine ⟨cells', ?_, f2⟩
    simp only [Instr.fill, ← hp i, hpl]
    rw [if_neg hsz]
    exact f1
theorem js (h : Rel st a w g) : ∀ {xs : List (Nat × Operand)} {ds : List (Nat × D)}, lI st xs = some ds →
  ds.length = xs.length ∧ ∀ (j : Nat) (p : Nat × D), ds[j]? = some p → ∃ o, xs[j]? = some (p.1, o) ∧ Rd g w (a.eval o) p.2
 | [], ds, hv => by simp [lI] at hv; subst hv; simp
 | (i, x) :: xs, ds, hv => by
  simp only [lI] at hv
  split at hv
  ·rename_i d ds' h1 h2
   cases hv
   obtain ⟨hl, hr⟩ := js h h2
   refine ⟨by simp [hl], fun j p hj => ?_⟩
   cases j with
   | zero => simp at hj; subst hj; exact ⟨x, by simp, bw h h1⟩
   | succ j => simpa using hr j p (by simpa using hj)
  ·cases hv
theorem k7 {α β : Type} (f : α → Sem β) (r : α → β) (w' : World) : ∀ (l : List α), (∀ x ∈ l, (f x).run P w' = .ok (r x) w') → (l.mapM f).run P w' = .ok (l.map r) w'
 | [], _ => by simp
 | x :: l, h => by
  simp only [List.mapM_cons, Sem.run_bind, h x (by simp), Result.andThen_ok, k7 f r w' l (fun y hy => h y (by simp [hy])), Sem.run_pure, List.map_cons]
theorem iz {T : TypeId} {z : D} (hv : nv P T = some z) : ∃ v, Rd g w v z ∧ ∀ w', (zeroValue T).run P w' = .ok v w' := by
 simp only [nv, Option.bind_eq_some_iff] at hv
 obtain ⟨v, ⟨i, h1, h2⟩, h3⟩ := hv
 exact ⟨v, kY h3, fun w' => by simp [zeroValue, typeInfo, h1, h2]⟩
theorem sf (h : Rel st a w g) {T : TypeId} {parts : Array (Nat × Operand)} {d : D} (hv : uZ P st T parts.toList = some d) :
  ∃ v, Rd g w v d ∧ ∀ w', (Instr.build T (parts.map fun (i, x) => (i, a.eval x))).run P w' = .ok v w' := by
 unfold uZ at hv
 split at hv
 ·rename_i pl z ds h1 h2 h3
  simp only [Option.map_eq_some_iff] at hv
  obtain ⟨cs, h4, rfl⟩ := hv
  obtain ⟨zv, z1, z2⟩ := iz (g := g) (w := w) h2
  obtain ⟨hl, hr⟩ := js h h3
  have hq : ∀ (j : Nat) (p : Nat × D), ds[j]? = some p → ∃ v, (parts.map fun (i, x) => (i, a.eval x)).toList[j]? = some (p.1, v) ∧ Rd g w v p.2 := fun j p hj => by
   obtain ⟨o, e1, e2⟩ := hr j p hj
   exact ⟨a.eval o, by simp only [Array.toList_map, List.getElem?_map, e1, Option.map_some], e2⟩
  unfold placesOf at h1
  split at h1
  ·rename_i fs hu
   split at h1
   ·rename_i hall
    cases h1
    obtain ⟨cells', f1, f2⟩ := jA (g := g) (w := w) (place' := fun i => (fs.map fun f => (f.offset, P.cellsOf f.type))[i]?) (fun i => by rw [Array.getElem?_map]) ds _ _ _ cs z1.cells (by simpa using hl) hq h4
    refine ⟨.agg cells', f2.agg, fun w' => ?_⟩
    have hm : (fs.mapM fun f => (do pure (f.offset, ← sizeOf f.type) : Sem (Nat × Nat))).run P w' = .ok (fs.map fun f => (f.offset, P.cellsOf f.type)) w' := by
     rw [Array.mapM_eq_mapM_toList]
     simp only [Sem.run_map]
     rw [k7 _ (fun f => (f.offset, P.cellsOf f.type)) w' fs.toList (fun f hf => by
      have hi : (P.info? f.type).isSome = true := by
       rw [Array.all_eq_true'] at hall
       exact hall f (by simpa using hf)
      obtain ⟨i, hi⟩ := Option.isSome_iff_exists.1 hi
      simp [sizeOf, typeInfo, hi, Program.cellsOf])]
     simp only [Result.andThen_ok]
     congr 1
     exact Array.ext' (by simp)
    simp only [Instr.build, Sem.run_bind, z2, Result.andThen_ok, run_underlying hu, hm, f1, Sem.run_pure]
   ·cases h1
  ·rename_i n e hu
   split at h1
   ·rename_i hi
    cases h1
    obtain ⟨i, hi⟩ := Option.isSome_iff_exists.1 hi
    obtain ⟨cells', f1, f2⟩ := jA (g := g) (w := w) (place' := fun i => some (i * P.cellsOf e, P.cellsOf e)) (fun i => rfl) ds _ _ _ cs z1.cells (by simpa using hl) hq h4
    refine ⟨.agg cells', f2.agg, fun w' => ?_⟩
    have hsz : (sizeOf e).run P w' = .ok (P.cellsOf e) w' := by simp [sizeOf, typeInfo, hi, Program.cellsOf]
    simp only [Instr.build, Sem.run_bind, z2, Result.andThen_ok, run_underlying hu, hsz, f1, Sem.run_pure]
   ·cases h1
  ·cases h1
 ·cases hv
theorem jC (s : Sem Value) (w' : World) {v : Value} (h : s.run P w' = .ok v w') : (do pure (.value (← s)) : Sem Next).run P w' = .ok (.value v) w' := by
 simp [h]
theorem rk (h : Rel st a w g) {o : Oper} {s : SV} (hv : bop P st o = some s) : ∃ v, BV g w st a v s ∧ ∀ w', Up w w' → (execOp a.eval o).run P w' = .ok (.value v) w' := by
 obtain ⟨dst, op, type, pos, after, guard⟩ := o
 unfold bop at hv
 cases op <;> simp only [reduceCtorEq] at hv
 case move x => exact ⟨_, jr h hv, fun w' _ => rfl⟩
 case assign x => exact ⟨_, jr h hv, fun w' _ => rfl⟩
 case pick c x y =>
  split at hv
  ·rename_i b hb
   simp only [Option.map_eq_some_iff] at hv
   obtain ⟨d, h1, rfl⟩ := hv
   refine ⟨_, BV.fQ (bw h h1 : je g w _ (.d d)), fun w' _ => ?_⟩
   simp only [execOp, bG h hb rfl, asBool]
   cases b <;> rfl
  ·cases hv
 case build T parts =>
  simp only [Option.map_eq_some_iff] at hv
  obtain ⟨d, h1, rfl⟩ := hv
  obtain ⟨v, e1, e2⟩ := sf h h1
  exact ⟨v, BV.fQ (s := .d d) e1, fun w' _ => jC _ w' (e2 w')⟩
 case load T x =>
  obtain ⟨v, e1, e2⟩ := rO h hv
  exact ⟨v, BV.fQ e1, fun w' hw => jC _ w' (e2 w' hw)⟩
 case nilCheck x =>
  split at hv
  ·rename_i s' hs'
   split at hv
   ·rename_i hc
    cases hv
    have hb := jr h hs'
    refine ⟨_, hb, fun w' _ => ?_⟩
    simp only [Bool.and_eq_true, bne_iff_ne] at hc
    obtain ⟨c1, c2⟩ := hc
    simp only [execOp]
    cases s with
    | d d =>
     have hb' : Rd g w (a.eval x) d := hb
     generalize a.eval x = v at hb'
     cases hb' <;> simp [lY] at c1 <;> try rfl
     rename_i f _ _ _ _ _ _ _ _ _ _ _ _
     cases f <;> simp [Ay] at c2
     rfl
    | loc s off => obtain ⟨-, k, -, e⟩ := hb; rw [e]; rfl
    | bO l cs => obtain ⟨k, off, c, T0, fz, us, e, -⟩ := hb; rw [e]; rfl
    | box cs => exact hb.elim
    | _ => simp [lY] at c1
   ·cases hv
  ·cases hv
 case binOp op T x y yT =>
  simp only [Option.map_eq_some_iff] at hv
  obtain ⟨d, h1, rfl⟩ := hv
  obtain ⟨v, e1, e2⟩ := u7 h h1
  exact ⟨v, BV.fQ (s := .d d) e1, fun w' _ => jC _ w' (e2 w')⟩
 case unOp op T x =>
  simp only [Option.map_eq_some_iff] at hv
  obtain ⟨d, h1, rfl⟩ := hv
  obtain ⟨v, e1, e2⟩ := wh h h1
  exact ⟨v, BV.fQ (s := .d d) e1, fun w' _ => jC _ w' (e2 w')⟩
 case convert src dst x =>
  simp only [Option.map_eq_some_iff] at hv
  obtain ⟨d, h1, rfl⟩ := hv
  obtain ⟨v, e1, e2⟩ := tD h h1
  exact ⟨v, BV.fQ (s := .d d) e1, fun w' hw => jC _ w' (e2 w' hw)⟩
 case makeInterface T x =>
  split at hv
  ·cases hv
  ·cases hv
  ·rename_i t hne hu
   simp only [Option.map_eq_some_iff] at hv
   obtain ⟨d, h1, rfl⟩ := hv
   refine ⟨.iface T (a.eval x), BV.fQ (s := .d (.iface T d)) (.iface (bw h h1)), fun w' _ => jC _ w' ?_⟩
   simp only [Instr.makeInterface, Sem.run_bind, run_underlying hu, Result.andThen_ok]
   rfl
 case makeFunc fn first caps =>
  split at hv
  ·rename_i fs cs h1 h2
   cases hv
   exact ⟨_, BV.fQ (s := .d (.fn fn fs cs)) (pt h h1 h2), fun w' _ => rfl⟩
  ·cases hv
 case slice T x lo hi mx =>
  obtain ⟨v, e1, e2⟩ := qj h hv
  exact ⟨v, BV.fQ e1, fun w' _ => jC _ w' (e2 w')⟩
 case fieldAddr S x f =>
  obtain ⟨v, e1, e2⟩ := mA h hv
  exact ⟨v, e1, fun w' _ => jC _ w' (e2 w')⟩
 case field T x f =>
  simp only [Option.map_eq_some_iff] at hv
  obtain ⟨d, h1, rfl⟩ := hv
  obtain ⟨v, e1, e2⟩ := qn h h1
  exact ⟨v, BV.fQ (s := .d d) e1, fun w' _ => jC _ w' (e2 w')⟩
 case indexAddr T x i =>
  obtain ⟨v, e1, e2⟩ := mu h hv
  exact ⟨v, e1, fun w' _ => jC _ w' (e2 w')⟩
 case index T x i =>
  simp only [Option.map_eq_some_iff] at hv
  obtain ⟨d, h1, rfl⟩ := hv
  obtain ⟨v, e1, e2⟩ := qm h h1
  exact ⟨v, BV.fQ (s := .d d) e1, fun w' _ => jC _ w' (e2 w')⟩
 case extract x j =>
  simp only [Option.map_eq_some_iff] at hv
  obtain ⟨d, h1, rfl⟩ := hv
  obtain ⟨v, e1, e2⟩ := oh h h1
  exact ⟨v, BV.fQ (s := .d d) e1, fun w' _ => jC _ w' (e2 w')⟩
 case call c =>
  split at hv
  ·rename_i x T hc hargs hts
   simp only [Option.map_eq_some_iff] at hv
   obtain ⟨d, h1, rfl⟩ := hv
   obtain ⟨v, e1, e2⟩ := s6 (ty := type) h h1
   refine ⟨v, BV.fQ (s := .d d) e1, fun w' _ => ?_⟩
   obtain ⟨callee, args, argTypes⟩ := c
   have ha : args = #[x] := by apply Array.ext'; simpa using hargs
   have ht : argTypes = #[T] := by apply Array.ext'; simpa using hts
   subst ha ht
   simp only at hc
   subst hc
   simp only [execOp, resolve, List.map_toArray, List.map_cons, List.map_nil, Sem.run_bind, Sem.run_pure, Result.andThen_ok, invoke, builtin]
   simp [e2 w']
  ·cases hv
end
end Go.Sh
namespace Go.Sh
def nu (g : Gh) (w : World) (v : Value) : SV → Prop
 | .tup vs => ∃ us : Array Value, v = .tuple us ∧ us.size = vs.length ∧ ∀ (j : Nat) (s : SV), vs[j]? = some s → ∃ u, us[j]? = some u ∧ RC g w (.comp 0 j) u s
 | s => RC g w (.slot 0) v s
def fj (g : Gh) (w : World) (vs : Array Value) (args : List SV) : Prop :=
 vs.size = args.length ∧ ∀ (j : Nat) (s : SV), args[j]? = some s → ∃ u, vs[j]? = some u ∧ RC g w (.slot j) u s
def SC (P : Program) (pu : Bool) (f : FuncId) (args : List SV) (H : List ar) (r : SV) (H' : List ar) : Prop :=
 ∀ (w : World) (g : Gh) (vs : Array Value), fj g w vs args → RH g w H →
  Calls P f vs w fun e w' => ∃ v g', e = .returned v ∧ nu g' w' v r ∧ RH g' w' H' ∧ Fr pu g w g' w'
def PC (P : Program) (f : FuncId) (args : List SV) (r : SV) : Prop := ∀ H, SC P true f args H r H
section
variable (P : Program)
def cV (ops : Array Oper) (st : St) (o : Oper) : Option Bool :=
 match o.guard with
 | none => some true
 | some (j, want) => match ((ops[j]?).bind (·.dst)).bind (st.tmps[·]?) with
  | some (.d (.bool b)) => some (b == want)
  | some (.tup _) => some false
  | _ => none
def OW (pu : Bool) (ops : Array Oper) (l : List Oper) (st : St) (Q : St → Prop) : Prop :=
 ∀ a w g, Rel st a w g → ∀ Qc : Exit → Act → World → Prop, (∀ st' a' w' g', Q st' → Rel st' a' w' g' → Fr pu g w g' w' → Qc .normal a' w') → wpList P ops Qc l a w
def SW (pu : Bool) (c : Code) (st : St) (Q : Exit → St → Prop) : Prop :=
 ∀ a w g, Rel st a w g → c.wp P (fun e a' w' => ∃ st' g', Q e st' ∧ Rel st' a' w' g' ∧ Fr pu g w g' w') a w
end
section
variable {P : Program} {pu : Bool} {ops : Array Oper} {rest : List Oper} {st : St} {Q : St → Prop}
theorem OW.nil (h : Q st) : OW P pu ops [] st Q := fun _ _ g hr _ hq => hq st _ _ g h hr (Fr.refl _ _ _)
theorem aN {a : Act} {w : World} {g : Gh} (h : Rel st a w g) {o : Oper} {b : Bool} (hv : cV ops st o = some b) : Region.wanted o (yielded ops a.tmps) = b := by
 unfold cV at hv
 unfold Region.wanted
 split at hv
 ·rename_i hg
  cases hv
  rw [hg]
 ·rename_i j want hg
  rw [hg]
  simp only
  have key : ∀ s, ((ops[j]?).bind (·.dst)).bind (st.tmps[·]?) = some s → ∃ t, (ops[j]?).bind (·.dst) = some t ∧ st.tmps[t]? = some s ∧ a.tmps[t]? = some (valOf a t) := fun s hs => by
   simp only [Option.bind_eq_some_iff] at hs
   obtain ⟨t, h1, h2⟩ := hs
   have hlt : t < a.tmps.size := by rw [h.len]; exact aD h2
   exact ⟨t, by simpa [Option.bind_eq_some_iff] using h1, h2, by simp [valOf, Array.getD_eq_getD_getElem?, hlt]⟩
  split at hv
  ·rename_i b' hs
   cases hv
   obtain ⟨t, h1, h2, h3⟩ := key _ hs
   have hr : Rd g w (valOf a t) (.bool b') := h.tmp t _ h2
   unfold yielded
   rw [h1, Option.bind_some, h3]
   generalize valOf a t = v at hr
   cases hr
   cases b' <;> cases want <;> rfl
  ·rename_i vs hs
   cases hv
   obtain ⟨t, h1, h2, h3⟩ := key _ hs
   obtain ⟨us, e, -⟩ := h.tmp t _ h2
   unfold yielded
   rw [h1, Option.bind_some, h3, e]
   cases want <;> rfl
  ·cases hv
theorem OW.skip {o : Oper} (hw : cV ops st o = some false) (h : OW P pu ops rest (st.put o.dst (.tup [])) Q) : OW P pu ops (o :: rest) st Q := by
 intro a w g hr Qc hq
 unfold wpList
 rw [aN hr hw, if_neg (by simp)]
 exact h _ w g (hr.b9 o.dst (v := undef) ⟨#[], rfl, rfl, by simp⟩) Qc hq
def fP (dst : Option Tmp) : SV → Bool
 | .loc s _ => dst != some s
 | .als s => dst != some s
 | .ep s _ _ => dst != some s
 | _ => true
theorem St.gj {d : Option Tmp} {s0 x : SV} {s1 : Nat} (h : st.tmps[s1]? = some x) (hb : dt x ≠ 0) (hd : d ≠ some s1) : (st.put d s0).tmps[s1]? = some x := by
 cases d with
 | none => exact h
 | some t0 =>
  have hne0 : t0 ≠ s1 := fun e => hd (by rw [e])
  simp only [St.put]
  split
  ·split
   ·simp [St.set, St.kill, List.getElem?_set_ne hne0, h, cF hb]
   ·simp [St.set, List.getElem?_set_ne hne0, h]
  ·exact h
theorem Rel.pf {a : Act} {w : World} {g : Gh} (h : Rel st a w g) {d : Option Tmp} {v : Value} {s : SV} (hb : BV g w st a v s) (hl : fP d s = true) : Rel (st.put d s) (a.put d v) w g := by
 cases s with
 | loc s off =>
  refine h.put d fun t ht hlt => ?_
  subst ht
  obtain ⟨⟨cs, hcs⟩, k, h1, h2⟩ := hb
  have hne : t ≠ s := by simpa [fP] using hl
  exact ⟨⟨cs, St.gj hcs (by simp [dt]) (by simpa using hne)⟩, k, by rw [bj (by simpa using hne)]; exact h1, h2⟩
 | als s =>
  refine h.put d fun t ht hlt => ?_
  subst ht
  obtain ⟨⟨x, h1, h2⟩, h3⟩ := hb
  have hne : t ≠ s := by simpa [fP] using hl
  exact ⟨⟨x, St.gj h1 (by omega) (by simpa using hne), h2⟩, by rw [bj (by simpa using hne)]; exact h3⟩
 | ep s n j =>
  refine h.put d fun t ht hlt => ?_
  subst ht
  obtain ⟨⟨x, h1, h2⟩, h3⟩ := hb
  have hne : t ≠ s := by simpa [fP] using hl
  exact ⟨⟨x, St.gj h1 (by omega) (by simpa using hne), h2⟩, by rw [bj (by simpa using hne)]; exact h3⟩
 | d x => exact h.b9 d hb
 | own n xs => exact h.b9 d hb
 | bf l n xs => exact h.b9 d hb
 | bO l cs => exact h.b9 d hb
 | box cs => exact hb.elim
 | tup vs => exact h.b9 d hb
 | undef => exact h.b9 d hb
 | pin v0 n xs => exact hb.elim
def OpS (P : Program) (pu : Bool) (st : St) (o : Oper) (st' : St) : Prop :=
 ∀ a w g, Rel st a w g → ∃ a' w' g' r, (execOp a.eval o).run P w = r ∧ (∀ next Q, o.upon P a next Q r = next a' w') ∧ Rel st' a' w' g' ∧ Fr pu g w g' w'
theorem OW.op {o : Oper} {st' : St} (hw : cV ops st o = some true) (ho : OpS P pu st o st') (h : OW P pu ops rest st' Q) : OW P pu ops (o :: rest) st Q := by
 intro a w g hr Qc hq
 unfold wpList
 rw [aN hr hw, if_pos rfl]
 refine .inl ?_
 obtain ⟨a', w', g', r, e1, e2, e3, e4⟩ := ho a w g hr
 unfold Oper.wp
 rw [e1, e2]
 exact h a' w' g' e3 Qc fun st2 a2 w2 g2 q2 r2 f2 => hq st2 a2 w2 g2 q2 r2 (e4.trans f2)
end
section
variable {P : Program} {pu : Bool} {st : St} {Q : Exit → St → Prop}
theorem SW.mono {c : Code} {Q' : Exit → St → Prop} (h : SW P pu c st Q) (hq : ∀ e s, Q e s → Q' e s) : SW P pu c st Q' :=
 fun a w g hr => Code.wp_mono (fun _ _ _ ⟨st', g', q, r⟩ => ⟨st', g', hq _ _ q, r⟩) (h a w g hr)
theorem SW.skip (h : Q .normal st) : SW P pu .skip st Q := fun _ _ g hr => wp_skip ⟨st, g, h, hr, Fr.refl _ _ _⟩
theorem SW.exit {id : Nat} (h : Q (.exit id) st) : SW P pu (.exit id) st Q := fun _ _ g hr => wp_exit ⟨st, g, h, hr, Fr.refl _ _ _⟩
theorem SW.ret (h : Q .ret st) : SW P pu .ret st Q := fun _ _ g hr => wp_ret ⟨st, g, h, hr, Fr.refl _ _ _⟩
def thenS (n : St → Prop) (Q : Exit → St → Prop) : Exit → St → Prop
 | .normal, s => n s
 | e, s => Q e s
theorem SW.seq {x y : Code} (h : SW P pu x st (thenS (fun s => SW P pu y s Q) Q)) : SW P pu (.seq x y) st Q := by
 intro a w g hr
 refine wp_seq (Code.wp_mono (fun e a' w' hh => ?_) (h a w g hr))
 obtain ⟨st', g', q, r, f⟩ := hh
 cases e with
 | normal =>
  refine Code.wp_mono (fun e2 a2 w2 hh2 => ?_) (q a' w' g' r)
  obtain ⟨st2, g2, q2, r2, f2⟩ := hh2
  exact ⟨st2, g2, q2, r2, f.trans f2⟩
 | _ => exact ⟨st', g', q, r, f⟩
theorem SW.cond {c : Operand} {x y : Code} {b : Bool} (hc : bK st c = some (.bool b)) (h : SW P pu (if b then x else y) st Q) : SW P pu (.cond c x y) st Q :=
 fun a w g hr => wp_cond (bG hr hc rfl) (h a w g hr)
theorem SW.gH {c : Operand} {x y : Code} (hc : bK st c = some (.bool true)) (h : SW P pu x st Q) : SW P pu (.cond c x y) st Q := SW.cond hc h
theorem SW.fh {c : Operand} {x y : Code} (hc : bK st c = some (.bool false)) (h : SW P pu y st Q) : SW P pu (.cond c x y) st Q := SW.cond hc h
theorem SW.BN {c : Operand} {x y : Code} {b : Bool} (hc : bK st c = some (.bool b)) (hT : b = true → SW P pu x st Q) (hF : b = false → SW P pu y st Q) : SW P pu (.cond c x y) st Q := by
 cases b
 ·exact SW.fh hc (hF rfl)
 ·exact SW.gH hc (hT rfl)
def kC (id : Nat) (Q : Exit → St → Prop) : Exit → St → Prop
 | .exit id', s => if id' = id then Q .normal s else Q (.exit id') s
 | e, s => Q e s
theorem SW.block {id : Nat} {c : Code} (h : SW P pu c st (kC id Q)) : SW P pu (.block id c) st Q := by
 intro a w g hr
 refine wp_block (Code.wp_mono (fun e a' w' hh => ?_) (h a w g hr))
 obtain ⟨st', g', q, r, f⟩ := hh
 cases e with
 | exit id' =>
  simp only [kC] at q
  simp only [Exit.inBlock]
  split at q
  ·rename_i hi; rw [if_pos hi]; exact ⟨st', g', q, r, f⟩
  ·rename_i hi; rw [if_neg hi]; exact ⟨st', g', q, r, f⟩
 | _ => exact ⟨st', g', q, r, f⟩
end
end Go.Sh
namespace Go.Sh
theorem RC.rs {g : Gh} {w : World} {t : Nat} {v : Value} {s : SV} (h : RC g w (.slot t) v s) (tm : List SV) (val : Nat → Value) : RS g w tm val t v s := by
 cases s <;> simp only [RC] at h <;> first | exact h | exact h.elim
def fJ (n : Nat) (args : List SV) (H : List ar) : St := ⟨args ++ List.replicate (n - args.length) (.tup []), H⟩
theorem Rel.init {g : Gh} {w : World} {vs : Array Value} {args : List SV} {H : List ar} (h : fj g w vs args) (hH : RH g w H) (n : Nat) :
  Rel (fJ n args H) { tmps := vs ++ Array.replicate (n - vs.size) undef, defers := [] } w g := by
 obtain ⟨hl, hr⟩ := h
 refine ⟨by simp [fJ, hl], rfl, fun t s hs => ?_, hH⟩
 simp only [fJ] at hs
 by_cases ht : t < args.length
 ·rw [List.getElem?_append_left ht] at hs
  obtain ⟨u, e1, e2⟩ := hr t s hs
  have : valOf { tmps := vs ++ Array.replicate (n - vs.size) undef, defers := [] } t = u := by
   simp [valOf, Array.getD_eq_getD_getElem?, Array.getElem?_append_left (by omega : t < vs.size), e1]
  rw [this]
  exact e2.rs _ _
 ·rw [List.getElem?_append_right (by omega), List.getElem?_replicate] at hs
  split at hs
  ·rename_i hlt
   cases hs
   refine ⟨#[], ?_, rfl, by simp⟩
   simp [valOf, Array.getD_eq_getD_getElem?, Array.getElem?_append_right (by omega : vs.size ≤ t), Array.getElem?_replicate, hl, hlt]
   rfl
  ·cases hs
def xk (P : Program) (st : St) : ResultVar → Option (SV × Option Nat)
 | .tmp t => match st.tmps[t]? with
  | some (.d x) => some (.d x, none)
  | some (.own n xs) => some (.own n xs, some t)
  | some (.bf (.slot s) n xs) => match st.tmps[s]? with
   | some (.own _ _) => some (.d (.list n xs), none)
   | _ => none
  | _ => none
 | .cell a T => match pX st a with
  | some cs => match jb P T (.cell a 0) cs with
   | some (.d x) => some (.d x, none)
   | _ => none
  | none => none
def qG (P : Program) (st : St) : List ResultVar → Option (List (SV × Option Nat))
 | [] => some []
 | r :: rs => match xk P st r, qG P st rs with
  | some x, some xs => some (x :: xs)
  | _, _ => none
def yY (xs : List (SV × Option Nat)) : SV :=
 match xs with
 | [x] => x.1
 | xs => .tup (xs.map (·.1))
def sL (xs : List (SV × Option Nat)) (t : Nat) : Option Loc :=
 match xs with
 | [x] => if x.2 = some t then some (.slot 0) else none
 | xs => (xs.findIdx? (·.2 == some t)).map (.comp 0)
def vr (xs : List (SV × Option Nat)) : Bool :=
 (xs.zipIdx).all fun p => match p.1.2 with
  | some t => match xs with
   | [_] => true
   | _ => xs.findIdx? (·.2 == some t) == some p.2
  | none => true
def eo (xs : List (SV × Option Nat)) : Own → Own
 | .lst (.slot t) => match sL xs t with | some l => .lst l | none => .free
 | .lst (.ai i j) => .lst (.ai i j)
 | .lst _ => .free
 | .box _ => .lst .els
 | o => o
def Gh.ren (g : Gh) (f : Own → Own) : Gh := { g with ow := fun k => f (g.ow k) }
theorem az.ren {g : Gh} {w : World} {f : Own → Own} {o : Own} (h : f o = o) : az o g w (g.ren f) w := fun k b h1 h2 => ⟨by simp [Gh.ren, h1, h], h2⟩
section
variable {P : Program} {pu : Bool}
theorem bA.ren {g : Gh} {w : World} {f : Own → Own} {o o' : Loc} {v : Value} {n : Nat} {xs : List D} (h0 : f .free = .free) (h1 : f (.lst o) = .lst o') (h : bA g w o v n xs) : bA (g.ren f) w o' v n xs := by
 rcases h with h | ⟨k, off, cap, c, T, us, hv, hk, hb, hl, hz, hn, hc, hr⟩
 ·exact .inl h
 ·exact .inr ⟨k, off, cap, c, T, us, hv, by simp [Gh.ren, hk, h1], hb, hl, hz, hn, hc, fun i x hx j y hy => (hr i x hx j y hy).aG (az.ren h0) (fun _ _ h => h)⟩
theorem cN.free {g : Gh} {w : World} {f : Own → Own} {l : Loc} {v : Value} {n : Nat} {xs : List D} (h0 : f .free = .free) (h1 : f (.lst l) = .free) (h : cN g w (some l) v n xs) : Rd (g.ren f) w v (.list n xs) := by
 refine cN.xa ?_
 rcases h with h | ⟨k, off, cap, c, T, fz, us, hv, hk, hb, hp, hn, hc, hr⟩
 ·exact .inl h
 ·refine .inr ⟨k, off, cap, c, T, fz, us, hv, ?_, hb, hp, hn, hc, fun i x hx j y hy => (hr i x hx j y hy).aG (az.ren h0) (fun _ _ h => h)⟩
  refine gC.2 ?_
  simp only [Gh.ren]
  cases ho : g.ow k <;> simp only [ho, okL] at hk
  ·exact h0
  ·cases hk; exact h1
def fC (tm : Array Value) : ResultVar → Sem Value
 | .tmp t => pure (tm.getD t undef)
 | .cell x T => do loadVar T (← asAddr (tm.getD x undef))
theorem uw (fn : Func) (tm : Array Value) : results fn tm = (do let vs ← fn.results.mapM (fC tm); pure (if h : vs.size = 1 then vs[0] else .tuple vs)) := by
 unfold results
 congr 1
theorem o8 {st : St} {a : Act} {w : World} {g : Gh} (h : Rel st a w g) {rv : ResultVar} {s : SV} {t : Option Nat} (hv : xk P st rv = some (s, t)) {f : Own → Own} (h0 : f .free = .free) (l : Loc)
  (h1 : ∀ t', t = some t' → f (.lst (.slot t')) = .lst l) (h2 : ∀ s', rv = .tmp s' → ∀ t' n xs, st.tmps[s']? = some (.bf (.slot t') n xs) → f (.lst (.slot t')) = .free) :
  ∃ v, RC (g.ren f) w l v s ∧ (fC a.tmps rv).run P w = .ok v w := by
 cases rv with
 | tmp t0 =>
  simp only [xk] at hv
  split at hv
  ·rename_i x hs
   cases hv
   exact ⟨_, Rd.aG (az.ren h0) (fun _ _ h => h) (h.tmp t0 _ hs : Rd g w _ x), rfl⟩
  ·rename_i n xs hs
   cases hv
   exact ⟨_, bA.ren h0 (h1 _ rfl) (h.tmp t0 _ hs), rfl⟩
  ·rename_i s0 n xs hs
   split at hv
   ·cases hv
    exact ⟨_, cN.free h0 (h2 t0 rfl _ _ _ hs) (h.tmp t0 _ hs), rfl⟩
   ·cases hv
  ·cases hv
 | cell x T =>
  simp only [xk] at hv
  split at hv
  ·rename_i cs hb
   split at hv
   ·rename_i d hl
    cases hv
    unfold pX at hb
    split at hb
    ·rename_i cs' hs
     cases hb
     obtain ⟨k, c, T0, e1, e2, e3, e4, e5⟩ := h.tmp x _ hs
     obtain ⟨v, hL, hR⟩ := uJ (P := P) (g := g) (w0 := w) (T := T) (k := k) (off := 0) (c := c) (T0 := T0) (fz := (0, 0)) (l := fun j => .cell x j) (fun j y hj => by simpa using e5 j y hj) hl
     refine ⟨v, (hL : Rd g w v d).aG (az.ren h0) (fun _ _ h => h), ?_⟩
     have e1' : a.tmps.getD x undef = .pointer (some ⟨k, 0, none⟩) := e1
     simp [fC, e1', asAddr, hR w e3]
    ·cases hb
   ·cases hv
  ·cases hv
theorem mZ {st : St} : ∀ {rs : List ResultVar} {xs : List (SV × Option Nat)}, qG P st rs = some xs → rs.length = xs.length ∧ ∀ (j : Nat) (x : SV × Option Nat), xs[j]? = some x → ∃ r, rs[j]? = some r ∧ xk P st r = some x
 | [], xs, h => by simp [qG] at h; subst h; simp
 | r :: rs, xs, h => by
  simp only [qG] at h
  split at h
  ·rename_i x xs' h1 h2
   cases h
   obtain ⟨hl, hr⟩ := mZ h2
   refine ⟨by simp [hl], fun j x hj => ?_⟩
   cases j with
   | zero => simp at hj; subst hj; exact ⟨r, by simp, h1⟩
   | succ j => simpa using hr j x (by simpa using hj)
  ·cases h
def rQ (st : St) (rs : List ResultVar) (xs : List (SV × Option Nat)) : Bool :=
 rs.all fun r => match r with
  | .tmp s => match st.tmps[s]? with
   | some (.bf (.slot t) _ _) => (sL xs t).isNone
   | _ => true
  | _ => true
def vQ (P : Program) (rs : List ResultVar) (st : St) (r : SV) : Prop :=
 ∃ xs, qG P st rs = some xs ∧ vr xs = true ∧ rQ st rs xs = true ∧ yY xs = r
theorem gy {fn : Func} {tm : Array Value} {w : World} {vs : List Value} (hl : vs.length = fn.results.size)
  (h : ∀ (j : Nat) (rv : ResultVar), fn.results[j]? = some rv → ∃ v, vs[j]? = some v ∧ (fC tm rv).run P w = .ok v w) :
  (results fn tm).run P w = .ok (if h : vs.toArray.size = 1 then vs.toArray[0] else .tuple vs.toArray) w := by
 have hm : ∀ (l : List ResultVar) (vs : List Value), vs.length = l.length → (∀ (j : Nat) (rv : ResultVar), l[j]? = some rv → ∃ v, vs[j]? = some v ∧ (fC tm rv).run P w = .ok v w) →
   (l.mapM (fC tm)).run P w = .ok vs w := by
  intro l
  induction l with
  | nil => intro vs hl _; cases vs <;> simp at hl; simp
  | cons r l ih =>
   intro vs hl h
   cases vs with
   | nil => simp at hl
   | cons v vs =>
    obtain ⟨v', e1, e2⟩ := h 0 r (by simp)
    simp only [List.getElem?_cons_zero, Option.some.injEq] at e1
    subst e1
    simp only [List.mapM_cons, Sem.run_bind, e2, Result.andThen_ok, ih vs (by simpa using hl) (fun j rv hj => by simpa using h (j + 1) rv (by simpa using hj)), Sem.run_pure]
 have := hm fn.results.toList vs (by simpa using hl) (fun j rv hj => h j rv (by simpa using hj))
 rw [uw, Array.mapM_eq_mapM_toList]
 simp only [Sem.run_bind, Sem.run_map, this, Result.andThen_ok, Sem.run_pure]
def eU (n j : Nat) : Loc := if n = 1 then .slot 0 else .comp 0 j
theorem qH {xs : List (SV × Option Nat)} (hok : vr xs = true) {j : Nat} {s : SV} {t : Nat} (hj : xs[j]? = some (s, some t)) : sL xs t = some (eU xs.length j) := by
 match xs, hok, hj with
 | [x], _, hj =>
  cases j with
  | zero => simp at hj; subst hj; simp [sL, eU]
  | succ j => simp at hj
 | x :: y :: r, hok, hj =>
  unfold vr at hok
  rw [List.all_eq_true] at hok
  have := hok ((s, some t), j) (List.mem_iff_getElem?.2 ⟨j, by rw [List.getElem?_zipIdx, hj]; simp⟩)
  simp only [beq_iff_eq] at this
  simp [sL, this, eU]
theorem nU {f : FuncId} {fn : Func} {c : Code} {args : List SV} {H : List ar} {r : SV} (C : List ar → Prop) (hf : P.funcs[f]? = some fn) (hb : fn.body = some c)
  (h : SW P pu c (fJ fn.ntmps args H) (fun e st' => (e = .normal ∨ e = .ret) ∧ vQ P fn.results.toList st' r ∧ C st'.H)) (w : World) (g : Gh) (vs : Array Value) (ha : fj g w vs args) (hH : RH g w H) :
  Calls P f vs w fun e w' => ∃ v g' H', C H' ∧ e = .returned v ∧ nu g' w' v r ∧ RH g' w' H' ∧ Fr pu g w g' w' := by
 refine calls_of_wp hf hb (Code.wp_mono (fun e a' w' hh => ?_) (h _ _ g (Rel.init ha hH fn.ntmps)))
 obtain ⟨st', g', ⟨he, ⟨xs, hx1, hx2, hx3, hx4⟩, hH'⟩, hr, hfr⟩ := hh
 obtain ⟨hl, hg⟩ := mZ hx1
 -- the values, one by one
 have one : ∀ j, j < xs.length → ∃ v, (∀ s t, xs[j]? = some (s, t) → RC (g'.ren (eo xs)) w' (eU xs.length j) v s) ∧ ∀ rv, fn.results[j]? = some rv → (fC a'.tmps rv).run P w' = .ok v w' := fun j hj => by
  obtain ⟨rv, e1, e2⟩ := hg j xs[j] (by simp [hj])
  obtain ⟨v, f1, f2⟩ := o8 (P := P) hr (s := xs[j].1) (t := xs[j].2) e2 (f := eo xs) rfl (eU xs.length j)
   (fun t' ht' => by
    have := qH hx2 (j := j) (s := xs[j].1) (t := t') (by rw [List.getElem?_eq_getElem hj]; rw [← ht'])
    simp only [eo, this])
   (fun s' hs' t' n ys hlent => by
    subst hs'
    unfold rQ at hx3
    rw [List.all_eq_true] at hx3
    have := hx3 (.tmp s') (List.mem_iff_getElem?.2 ⟨j, e1⟩)
    simp only [hlent, Option.isNone_iff_eq_none] at this
    simp only [eo, this])
  refine ⟨v, fun s t hst => ?_, fun rv' hrv' => ?_⟩
  ·rw [List.getElem?_eq_getElem hj] at hst
   have : xs[j] = (s, t) := Option.some.inj hst
   rw [this] at f1
   exact f1
  ·have : rv' = rv := by
    have e1' : fn.results[j]? = some rv := by simpa using e1
    rw [hrv'] at e1'
    exact Option.some.inj e1'
   subst this
   exact f2
 -- all of them
 have all : ∃ us : List Value, us.length = xs.length ∧ (∀ (j : Nat) (s : SV) (t : Option Nat), xs[j]? = some (s, t) → ∃ u, us[j]? = some u ∧ RC (g'.ren (eo xs)) w' (eU xs.length j) u s) ∧
   ∀ (j : Nat) (rv : ResultVar), fn.results[j]? = some rv → ∃ v, us[j]? = some v ∧ (fC a'.tmps rv).run P w' = .ok v w' := by
  have : ∃ F : Nat → Value, ∀ j, j < xs.length → (∀ s t, xs[j]? = some (s, t) → RC (g'.ren (eo xs)) w' (eU xs.length j) (F j) s) ∧ ∀ rv, fn.results[j]? = some rv → (fC a'.tmps rv).run P w' = .ok (F j) w' :=
   ⟨fun j => if hj : j < xs.length then Classical.choose (one j hj) else undef, fun j hj => by simp only [hj, dite_true]; exact Classical.choose_spec (one j hj)⟩
  obtain ⟨F, hF⟩ := this
  refine ⟨(List.range xs.length).map F, by simp, fun j s t hj => ⟨F j, by simp [aD hj], (hF j (aD hj)).1 s t hj⟩, fun j rv hj => ?_⟩
  have hlt : j < xs.length := by rw [← hl]; simpa using (Array.getElem?_eq_some_iff.1 hj).1
  exact ⟨F j, by simp [hlt], (hF j hlt).2 rv hj⟩
 obtain ⟨us, u1, u2, u3⟩ := all
 have hrun := gy (P := P) (fn := fn) (tm := a'.tmps) (w := w') (vs := us) (by rw [u1, ← hl]; simp) u3
 have hfr' : Fr pu g w (g'.ren (eo xs)) w' := hfr.trans ⟨Nat.le_refl _, az.ren rfl, az.ren rfl, fun _ _ h => h, fun _ i => az.ren rfl, fun _ i j => az.ren rfl, fun _ => rfl, ⟨rfl, rfl⟩⟩
 have hRH : RH (g'.ren (eo xs)) w' st'.H := by
  refine RH.aG (g := g') (w := w') (fun o ho => ?_) (fun _ _ h => h) rfl hr.hp
  refine az.ren ?_
  cases o <;> simp only [gv] at ho <;> try rfl
  rename_i l
  cases l <;> simp only [gv] at ho
  rfl
 have hres : nu (g'.ren (eo xs)) w' (if h : us.toArray.size = 1 then us.toArray[0] else .tuple us.toArray) r := by
  rw [← hx4]
  match xs, u1, u2 with
  | [x], u1, u2 =>
   match us, u1 with
   | [u], _ =>
    obtain ⟨u', e1, e2⟩ := u2 0 x.1 x.2 (by simp)
    simp only [List.getElem?_cons_zero, Option.some.injEq] at e1
    subst e1
    simp only [List.size_toArray, List.length_cons, List.length_nil, Nat.zero_add, dite_true, yY]
    have e2 : RC (g'.ren (eo [x])) w' (.slot 0) u x.1 := e2
    have : nu (g'.ren (eo [x])) w' u x.1 := by
     obtain ⟨s, t⟩ := x
     cases s <;> first | exact e2 | exact e2.elim
    simpa using this
  | [], u1, u2 =>
   match us, u1 with
   | [], _ => exact ⟨#[], by simp, rfl, by simp⟩
  | x :: y :: r', u1, u2 =>
   have hne : ¬ us.toArray.size = 1 := by simp [u1]
   rw [dif_neg hne]
   refine ⟨us.toArray, rfl, by simp [u1], fun j s hj => ?_⟩
   simp only [List.getElem?_map, Option.map_eq_some_iff] at hj
   obtain ⟨⟨s', t⟩, h1, h2⟩ := hj
   simp only at h2
   subst h2
   obtain ⟨u, e1, e2⟩ := u2 j s' t h1
   rw [show eU (x :: y :: r').length j = .comp 0 j by simp [eU]] at e2
   exact ⟨u, by simpa using e1, e2⟩
 have fin : ∃ v g' H', C H' ∧ Ending.returned (if h : us.toArray.size = 1 then us.toArray[0] else .tuple us.toArray) = .returned v ∧ nu g' w' v r ∧ RH g' w' H' ∧ Fr pu g w g' w' := ⟨_, _, _, hH', rfl, hres, hRH, hfr'⟩
 rcases he with rfl | rfl
 ·exact ⟨hr.cH, _, hrun, fin⟩
 ·exact ⟨hr.cH, _, hrun, fin⟩
theorem SC.br {f : FuncId} {fn : Func} {c : Code} {args : List SV} {H H' : List ar} {r : SV} (hf : P.funcs[f]? = some fn) (hb : fn.body = some c)
  (h : SW P pu c (fJ fn.ntmps args H) (fun e st' => (e = .normal ∨ e = .ret) ∧ vQ P fn.results.toList st' r ∧ st'.H = H')) : SC P pu f args H r H' := by
 intro w g vs ha hH
 refine (nU (· = H') hf hb h w g vs ha hH).mono fun e w' hh => ?_
 obtain ⟨v, g', _, rfl, h'⟩ := hh
 exact ⟨v, g', h'⟩
end
end Go.Sh
namespace Go.Sh
def vN : D → Bool
 | .bool _ | .int _ _ | .str _ | .bW | .nilIface | .eZ | .aL | .et | .ptr _ _ | .map _ => true
 | .iface _ x => vN x
 | _ => false
def jz : SV → Bool
 | .d x => vN x
 | .tup vs => vs.all fun | .d x => vN x | _ => false
 | _ => false
theorem Rd.flat {g g' : Gh} {w w' : World} (hρ : ck g g') {v : Value} {x : D} (h : Rd g w v x) (hf : vN x = true) : Rd g' w' v x := by
 induction h with
 | bool => exact .bool
 | int => exact .int
 | str => exact .str
 | bW => exact .bW
 | nilIface => exact .nilIface
 | iface _ ih => exact .iface (ih hf)
 | eZ => exact .eZ
 | aL => exact .aL
 | ptr h => exact .ptr (hρ _ _ h)
 | et => exact .et
 | map h => exact .map (hρ _ _ h)
 | _ => cases hf
section
variable (P : Program)
def Ax (T : TypeId) : Bool := match P.underlying T with | some (.pointer _) => true | _ => false
def AI (st : St) (T : TypeId) (x : Operand) : Option (SV × Option Loc) :=
 match x with
 | .tmp s => match st.tmps[s]? with
  | some (.d x) => match Ax P T with
   | true => some (.d x, none)
   | false => match x with
    | .bW => some (.d (.list (er P T) []), none)
    | x => some (.d x, none)
  | some (.own n xs) => some (.d (.list n xs), some (.slot s))
  | some (.bf l n xs) => some (.d (.list n xs), some l)
  | some (.bO l cs) => some (.d (.aR cs), some l)
  | _ => none
 | x => match bK st x with
  | some .bW => some (.d (.list (er P T) []), none)
  | some d => some (.d d, none)
  | none => none
def xT (st : St) (x : Operand) : Option (SV × Nat) :=
 match x with
 | .tmp s => match st.tmps[s]? with
  | some (.own n xs) => some (.own n xs, s)
  | _ => none
 | _ => none
def rq (st : St) (tr : List Nat) (p : Nat) : List Operand → List TypeId → Option (List SV × List Loc × List (Nat × Nat))
 | [], _ => some ([], [], [])
 | x :: xs, ts =>
  if tr.contains p then
   match xT st x, rq st tr (p + 1) xs ts.tail with
   | some (s, t), some (ss, ls, gs) => some (s :: ss, ls, (t, p) :: gs)
   | _, _ => none
  else
   match AI P st (ts.headD 0) x, rq st tr (p + 1) xs ts.tail with
   | some (s, none), some (ss, ls, gs) => some (s :: ss, ls, gs)
   | some (s, some l), some (ss, ls, gs) => some (s :: ss, l :: ls, gs)
   | _, _ => none
def wH (f : FuncId) : Bool := match P.funcs[f]? with | some fn => fn.name != "runtime.NumGoroutine" && fn.body.isSome | none => false
end
def ak (ls : List Loc) (gs : List (Nat × Nat)) : Own → Own
 | .free => .free
 | .out | .box _ => .out
 | .obj i => .obj i
 | .lst l => if ls.contains l then .free else
  match l with
  | .slot s => match gs.lookup s with | some p => .lst (.slot p) | none => .out
  | .ai i j => .lst (.ai i j)
  | _ => .out
def pZ (t : Nat) : Own → Own
 | .free => .free
 | .lst (.slot 0) => .lst (.slot t)
 | .lst (.comp 0 j) => .lst (.comp t j)
 | _ => .lst .els
def gZ (n : Nat) (ls : List Loc) (gs : List (Nat × Nat)) (t : Nat) (ow ow' : Nat → Own) (k : Nat) : Own :=
 if k < n then
  match ow k with
  | .lst (.slot s) => if ls.contains (.slot s) then .lst (.slot s) else match gs.lookup s with | some _ => pZ t (ow' k) | none => .lst (.slot s)
  | o => o
 else pZ t (ow' k)
def St.fp (st : St) : List (Nat × Nat) → St
 | [] => st
 | (s, _) :: gs => (((st.kill s).set s .undef)).fp gs
section
variable {P : Program} {pu : Bool} {ops : Array Oper} {rest : List Oper} {st : St} {Q : St → Prop}
@[simp] theorem St.qz (st : St) (gs : List (Nat × Nat)) : (st.fp gs).tmps.length = st.tmps.length := by
 induction gs generalizing st with
 | nil => rfl
 | cons p gs ih => obtain ⟨s, p⟩ := p; simp [St.fp, ih]
@[simp] theorem St.yP (st : St) (gs : List (Nat × Nat)) : (st.fp gs).H = st.H := by
 induction gs generalizing st with
 | nil => rfl
 | cons p gs ih => obtain ⟨s, p⟩ := p; simp [St.fp, ih]
theorem St.qA {gs : List (Nat × Nat)} : ∀ {st : St} {t : Nat} {s : SV}, (st.fp gs).tmps[t]? = some s → s = .undef ∨ (st.tmps[t]? = some s ∧ ∀ p ∈ gs, t ≠ p.1 ∧ bV p.1 s = false) := by
 induction gs with
 | nil => intro st t s h; exact .inr ⟨h, by simp⟩
 | cons q gs ih =>
  intro st t s h
  obtain ⟨s0, p0⟩ := q
  simp only [St.fp] at h
  rcases ih h with h | ⟨h1, h2⟩
  ·exact .inl h
  ·by_cases ht : t = s0
   ·subst ht
    simp only [St.set] at h1
    have hlt := aD h1
    simp only [List.length_set] at hlt
    rw [List.getElem?_set_self hlt] at h1
    cases h1
    exact .inl rfl
   ·simp only [St.set, List.getElem?_set_ne (Ne.symm ht)] at h1
    rcases St.kn h1 with h1 | ⟨h1, h3⟩
    ·exact .inl h1
    ·exact .inr ⟨h1, fun p hp => by
      rcases List.mem_cons.1 hp with rfl | hp
      ·exact ⟨ht, h3⟩
      ·exact h2 p hp⟩
theorem tl {a : Act} {w : World} {g : Gh} (h : Rel st a w g) {x : Operand} {s : SV} {t : Nat} (hv : xT st x = some (s, t)) :
  ∃ n xs, s = .own n xs ∧ x = .tmp t ∧ bA g w (.slot t) (a.eval x) n xs := by
 unfold xT at hv
 split at hv
 ·split at hv
  ·rename_i hs
   cases hv
   exact ⟨_, _, rfl, rfl, h.rs hs⟩
  ·cases hv
 ·cases hv
theorem cN.s4 {g : Gh} {w : World} {ls : List Loc} {gs : List (Nat × Nat)} {l : Loc} {v : Value} {n : Nat} {xs : List D} (hl : l ∈ ls) (h : cN g w (some l) v n xs) : Rd (g.ren (ak ls gs)) w v (.list n xs) :=
 cN.free rfl (by simp [ak, hl]) h
theorem jM.s4 {g : Gh} {w : World} {ls : List Loc} {gs : List (Nat × Nat)} {l : Loc} {v : Value} {cs : List D} (hl : l ∈ ls) (h : jM g w (some l) v cs) : Rd (g.ren (ak ls gs)) w v (.aR cs) := by
 obtain ⟨k, off, c, T, fz, us, hv, hk, hb, hc, hr⟩ := h
 refine jM.xa ⟨k, off, c, T, fz, us, hv, gC.2 ?_, hb, hc, fun j y hy => (hr j y hy).aG (az.ren rfl) (fun _ _ h => h)⟩
 simp only [Gh.ren]
 cases ho : g.ow k <;> simp only [ho, okL] at hk
 ·rfl
 ·cases hk; simp [ak, hl]
theorem p8 {a : Act} {w : World} {g : Gh} (h : Rel st a w g) {T : TypeId} {x : Operand} {s : SV} {l : Option Loc} (hv : AI P st T x = some (s, l)) {ls : List Loc} {gs : List (Nat × Nat)} (hl : ∀ l', l = some l' → l' ∈ ls) (o : Loc) :
  RC (g.ren (ak ls gs)) w o (a.eval x) s := by
 have kp : ∀ {v : Value} {d : D}, Rd g w v d → Rd (g.ren (ak ls gs)) w v d := fun hr => hr.aG (az.ren rfl) (fun _ _ h => h)
 have nil : ∀ {v : Value} {n : Nat}, Rd g w v .bW → Rd (g.ren (ak ls gs)) w v (.list n []) := fun hr => by
  obtain ⟨a', rfl⟩ := Rd.gE hr
  exact .iD
 unfold AI at hv
 split at hv
 ·split at hv
  ·rename_i hs
   split at hv
   ·cases hv; exact kp (h.rs hs)
   ·split at hv
    ·cases hv; exact nil (h.rs hs)
    ·cases hv; exact kp (h.rs hs)
  ·rename_i hs; cases hv; exact (bA.iI (h.rs hs)).s4 (hl _ rfl)
  ·rename_i hs; cases hv; exact cN.s4 (hl _ rfl) (h.rs hs)
  ·rename_i hs; cases hv; exact jM.s4 (hl _ rfl) (h.rs hs)
  ·cases hv
 ·split at hv
  ·rename_i hs; cases hv; exact nil (bw h hs)
  ·rename_i hne hs; cases hv; exact kp (bw h hs)
  ·cases hv
theorem dW {a : Act} {w : World} {g : Gh} (h : Rel st a w g) {tr : List Nat} {ls : List Loc} {gs : List (Nat × Nat)} (hgs : ∀ s p, (s, p) ∈ gs → gs.lookup s = some p ∧ Loc.slot s ∉ ls) :
  ∀ {xs : List Operand} {ts : List TypeId} {p : Nat} {ss : List SV} {ls' : List Loc} {gs' : List (Nat × Nat)}, rq P st tr p xs ts = some (ss, ls', gs') → (∀ l ∈ ls', l ∈ ls) → (∀ q ∈ gs', q ∈ gs) →
  xs.length = ss.length ∧ ∀ (j : Nat) (s : SV), ss[j]? = some s → ∃ o, xs[j]? = some o ∧ RC (g.ren (ak ls gs)) w (.slot (p + j)) (a.eval o) s
 | [], ts, p, ss, ls', gs', hv, _, _ => by simp [rq] at hv; obtain ⟨rfl, -⟩ := hv; simp
 | x :: xs, ts, p, ss, ls', gs', hv, hl, hg => by
  simp only [rq] at hv
  split at hv
  ·split at hv
   ·rename_i s t ss1 ls1 gs1 h1 h2
    cases hv
    obtain ⟨hlen, hr⟩ := dW h hgs h2 hl (fun q hq => hg q (List.mem_cons_of_mem _ hq))
    refine ⟨by simp [hlen], fun j s' hj => ?_⟩
    cases j with
    | zero =>
     simp only [List.getElem?_cons_zero, Option.some.injEq] at hj
     subst hj
     obtain ⟨n, ys, rfl, rfl, hO⟩ := tl h h1
     obtain ⟨g1, g2⟩ := hgs t p (hg _ (by simp))
     exact ⟨_, by simp, bA.ren rfl (by simp [ak, g1, g2]) hO⟩
    | succ j =>
     obtain ⟨o, e1, e2⟩ := hr j s' (by simpa using hj)
     exact ⟨o, by simpa using e1, by rw [show p + (j + 1) = p + 1 + j by omega]; exact e2⟩
   ·cases hv
  ·split at hv
   ·rename_i s ss1 ls1 gs1 h1 h2
    cases hv
    obtain ⟨hlen, hr⟩ := dW h hgs h2 hl hg
    refine ⟨by simp [hlen], fun j s' hj => ?_⟩
    cases j with
    | zero =>
     simp only [List.getElem?_cons_zero, Option.some.injEq] at hj
     subst hj
     exact ⟨x, by simp, p8 h h1 (by simp) _⟩
    | succ j =>
     obtain ⟨o, e1, e2⟩ := hr j s' (by simpa using hj)
     exact ⟨o, by simpa using e1, by rw [show p + (j + 1) = p + 1 + j by omega]; exact e2⟩
   ·rename_i s l ss1 ls1 gs1 h1 h2
    cases hv
    obtain ⟨hlen, hr⟩ := dW h hgs h2 (fun l' hl' => hl l' (List.mem_cons_of_mem _ hl')) hg
    refine ⟨by simp [hlen], fun j s' hj => ?_⟩
    cases j with
    | zero =>
     simp only [List.getElem?_cons_zero, Option.some.injEq] at hj
     subst hj
     exact ⟨x, by simp, p8 h h1 (fun l' e => by cases e; exact hl _ (by simp)) _⟩
    | succ j =>
     obtain ⟨o, e1, e2⟩ := hr j s' (by simpa using hj)
     exact ⟨o, by simpa using e1, by rw [show p + (j + 1) = p + 1 + j by omega]; exact e2⟩
   ·cases hv
def uP (ls : List Loc) (gs : List (Nat × Nat)) : Bool := gs.all fun q => gs.lookup q.1 == some q.2 && !ls.contains (.slot q.1)
theorem iH {ls : List Loc} {gs : List (Nat × Nat)} (h : uP ls gs = true) : ∀ s p, (s, p) ∈ gs → gs.lookup s = some p ∧ Loc.slot s ∉ ls := by
 intro s p hm
 unfold uP at h
 rw [List.all_eq_true] at h
 have := h (s, p) hm
 simpa using this
theorem sX {gs : List (Nat × Nat)} {s : Nat} (h : ∀ p ∈ gs, s ≠ p.1) : gs.lookup s = none := by
 induction gs with
 | nil => rfl
 | cons q gs ih =>
  have h1 := h q (by simp)
  simp only [List.lookup]
  rw [show (s == q.1) = false by simpa using h1]
  exact ih fun p hp => h p (by simp [hp])
theorem u9 {g g' : Gh} {w w' : World} {ls : List Loc} {gs : List (Nat × Nat)} {t : Nat} (hf : Fr true (g.ren (ak ls gs)) w g' w') {o : Own} (ho : ∀ s, o = .lst (.slot s) → Loc.slot s ∈ ls ∨ gs.lookup s = none) :
  az o g w ⟨gZ w.heap.size ls gs t g.ow g'.ow, g'.ρ⟩ w' := by
 intro k b hk hb
 have hlt : k < w.heap.size := (Array.getElem?_eq_some_iff.1 hb).1
 have hcal : ∀ o', ak ls gs o = o' → (g.ren (ak ls gs)).ow k = o' := fun o' h => by simp [Gh.ren, hk, h]
 have hblk : w'.heap[k]? = some b := by
  cases o with
  | free => exact (hf.free k b (hcal _ rfl) hb).2
  | out => exact (hf.out k b (hcal _ rfl) hb).2
  | box i => exact (hf.out k b (hcal _ rfl) hb).2
  | obj i => exact (hf.obj rfl i k b (hcal _ rfl) hb).2
  | lst l =>
   by_cases hl : l ∈ ls
   ·exact (hf.free k b (hcal _ (by simp [ak, hl])) hb).2
   ·cases l with
    | slot s =>
     rcases ho s rfl with h | h
     ·exact absurd h hl
     ·exact (hf.out k b (hcal _ (by simp [ak, hl, h])) hb).2
    | ai i j => exact (hf.ai rfl i j k b (hcal _ (by simp [ak, hl])) hb).2
    | comp i j => exact (hf.out k b (hcal _ (by simp [ak, hl])) hb).2
    | cell i j => exact (hf.out k b (hcal _ (by simp [ak, hl])) hb).2
    | els => exact (hf.out k b (hcal _ (by simp [ak, hl])) hb).2
 refine ⟨?_, hblk⟩
 simp only [gZ, hlt, if_true, hk]
 cases o with
 | lst l =>
  cases l with
  | slot s =>
   simp only
   split
   ·rfl
   ·rename_i hn
    rcases ho s rfl with h | h
    ·simp [h] at hn
    ·rw [h]
  | _ => rfl
 | _ => rfl
structure tV where
 f : FuncId
 args : List SV
 ls : List Loc
 gs : List (Nat × Nat)
def jH (P : Program) (st : St) (tr : List Nat) (c : Call) : Option tV :=
 match c.callee with
 | .value fo => match bK st fo with
  | some (.fn (.func f) first caps) => match rq P st tr first.length c.args.toList c.argTypes.toList with
   | some (ss, ls, gs) => if uP ls gs && wH P f then some ⟨f, first.map .d ++ ss ++ caps.map .d, ls, gs⟩ else none
   | none => none
  | _ => none
 | _ => none
def m6 : SV → Bool
 | .d _ | .own _ _ => true
 | .tup vs => vs.all fun | .d _ | .own _ _ => true | _ => false
 | _ => false
theorem l6 {c : Call} {fo : Operand} {f : FuncId} {a : Act} {first caps : Array Value} {ty : TypeId} (hc : c.callee = .value fo) (hf : a.eval fo = .func (.func f) first caps) (hi : wH P f = true) (w : World) :
  (do let d ← resolve a.eval c ty; invoke d.target d.args : Sem Next).run P w = .ok (.enter f (first ++ c.args.map a.eval ++ caps)) w := by
 unfold wH at hi
 split at hi
 ·rename_i fn hfn
  simp only [Bool.and_eq_true, bne_iff_ne] at hi
  obtain ⟨h1, h2⟩ := hi
  have h2' : fn.body.isNone = false := by cases hb : fn.body <;> simp [hb] at h2 ⊢
  simp only [resolve, hc, Deferred.ofValue, hf, Sem.run_bind, Sem.run_pure, Result.andThen_ok, invoke, callFunc, run_program, hfn]
  rw [if_neg (by simpa using h1), h2']
  rfl
 ·cases hi
theorem RC.back {g g' : Gh} {w : World} {o o' : Loc} {v : Value} {s : SV} (h0 : az .free g w g' w) (h1 : ∀ k b, g.ow k = .lst o → w.heap[k]? = some b → g'.ow k = .lst o') (hρ : ck g g') (h : RC g w o v s) : RC g' w o' v s := by
 cases s with
 | d x => exact Rd.aG h0 hρ h
 | own n xs =>
  rcases h with h | ⟨k, off, cap, c, T, us, hv, hk, hb, hl, hz, hn, hc, hr⟩
  ·exact .inl h
  ·exact .inr ⟨k, off, cap, c, T, us, hv, h1 k _ hk hb, hb, hl, hz, hn, hc, fun i x hx j y hy => (hr i x hx j y hy).aG h0 hρ⟩
 | undef => trivial
 | _ => exact h.elim
def mo (ls : List Loc) (i j : Nat) : SV → SV
 | .own n xs => if ls.contains (.ai i j) then .d (.list n xs) else .own n xs
 | s => s
def gk (ls : List Loc) (i : Nat) : ar → ar
 | .cells cs => .cells (cs.mapIdx (mo ls i))
 | .bld T e bs => if ls.contains (.ai i 1) then .hole else .bld T e bs
 | o => o
theorem RH.s4 {g : Gh} {w : World} {ls : List Loc} {gs : List (Nat × Nat)} {H : List ar} (h : RH g w H) : RH (g.ren (ak ls gs)) w (H.mapIdx (gk ls)) := by
 refine ⟨by simpa [Gh.ren] using h.1, fun i ob hi => ?_⟩
 simp only [List.getElem?_mapIdx, Option.map_eq_some_iff] at hi
 obtain ⟨ob', hi, rfl⟩ := hi
 have hro := h.2 i ob' hi
 cases ob' with
 | cells cs =>
  obtain ⟨kk, cc, T, r1, r2, r3, r4, r5⟩ := hro
  refine ⟨kk, cc, T, r1, by simp [Gh.ren, r2, ak], r3, by simpa using r4, fun j s hj => ?_⟩
  simp only [List.getElem?_mapIdx, Option.map_eq_some_iff] at hj
  obtain ⟨s', hj, rfl⟩ := hj
  obtain ⟨u, u1, u2, u3⟩ := r5 j s' hj
  refine ⟨u, u1, ?_, by cases s' <;> first | exact u3 | exact u2.elim⟩
  cases s' with
  | d x => exact Rd.aG (az.ren rfl) (fun _ _ h => h) u2
  | own n xs =>
   simp only [mo]
   split
   ·rename_i hl
    exact cN.s4 (by simpa using hl) (bA.iI u2)
   ·rename_i hl
    refine bA.ren rfl ?_ u2
    have hl' : ls.contains (.ai i j) = false := Bool.eq_false_iff.2 hl
    simp only [ak, hl']
    rfl
  | undef => trivial
  | _ => exact u2.elim
 | map es =>
  obtain ⟨kk, ms, clock, r1, r2, r3, r4, r6, r5⟩ := hro
  exact ⟨kk, ms, clock, r1, by simp [Gh.ren, r2, ak], r3, r4, r6, fun j p hj => let ⟨m, h1, h2, h3⟩ := r5 j p hj; ⟨m, h1, h2.aG (az.ren rfl) (fun _ _ h => h), h3.aG (az.ren rfl) (fun _ _ h => h)⟩⟩
 | hole => trivial
 | iter kb clock =>
  obtain ⟨k, hr, ho, hb⟩ := hro
  exact ⟨k, hr, by simp [Gh.ren, ho, ak], hb⟩
 | zk kb clock ms es =>
  obtain ⟨hr, ho, hb, hs, hbo, hc⟩ := hro
  exact ⟨hr, by simp [Gh.ren, ho, ak], hb, hs, hbo, fun j p hj => let ⟨m, h1, h2, h3⟩ := hc j p hj; ⟨m, h1, h2.aG (az.ren rfl) (fun _ _ h => h), h3.aG (az.ren rfl) (fun _ _ h => h)⟩⟩
 | bld T e bs =>
  obtain ⟨k, p, v, hr, ho, hb⟩ := hro
  simp only [gk]
  split
  ·trivial
  ·rename_i hl
   have hl' : ls.contains (.ai i 1) = false := Bool.eq_false_iff.2 hl
   exact ⟨k, p, v, hr, by simp [Gh.ren, ho, ak], hb.aG (az.ren (by simp only [ak, hl']; rfl)) rfl⟩
theorem nV {g g' : Gh} {w w' : World} {ls : List Loc} {gs : List (Nat × Nat)} (hf : Fr true (g.ren (ak ls gs)) w g' w') {k : Nat} {b : Obj} (hb : w.heap[k]? = some b)
  (hn : ∀ s, g.ow k = .lst (.slot s) → Loc.slot s ∈ ls ∨ gs.lookup s = none) :
  g'.ow k = ak ls gs (g.ow k) ∧ (∀ l, ak ls gs (g.ow k) = .lst l → ∃ i j, l = .ai i j) ∧ (ak ls gs (g.ow k) = .free → g.ow k = .free ∨ ls ≠ []) := by
 have key : ∀ o', ak ls gs (g.ow k) = o' → (o' = .free ∨ o' = .out ∨ (∃ i, o' = .obj i) ∨ ∃ i j, o' = .lst (.ai i j)) → g'.ow k = o' := fun o' h1 h2 => by
  have h1' : (g.ren (ak ls gs)).ow k = o' := h1
  rcases h2 with rfl | rfl | ⟨i, rfl⟩ | ⟨i, j, rfl⟩
  ·exact (hf.free k b h1' hb).1
  ·exact (hf.out k b h1' hb).1
  ·exact (hf.obj rfl i k b h1' hb).1
  ·exact (hf.ai rfl i j k b h1' hb).1
 cases ho : g.ow k with
 | free => rw [ho] at key; exact ⟨key _ rfl (.inl rfl), by simp [ak], by simp⟩
 | out => rw [ho] at key; exact ⟨key _ rfl (.inr (.inl rfl)), by simp [ak], by simp [ak]⟩
 | box t => rw [ho] at key; exact ⟨key _ rfl (.inr (.inl rfl)), by simp [ak], by simp [ak]⟩
 | obj i => rw [ho] at key; exact ⟨key _ rfl (.inr (.inr (.inl ⟨i, rfl⟩))), by simp [ak], by simp [ak]⟩
 | lst l =>
  rw [ho] at key
  by_cases hl : l ∈ ls
  ·have e : ak ls gs (.lst l) = .free := by simp [ak, hl]
   rw [e] at key ⊢
   exact ⟨key _ rfl (.inl rfl), by simp, fun _ => .inr (List.ne_nil_of_mem hl)⟩
  ·have out : ∀ (e : ak ls gs (.lst l) = .out), g'.ow k = ak ls gs (.lst l) ∧ (∀ l', ak ls gs (.lst l) = .lst l' → ∃ i j, l' = .ai i j) ∧ (ak ls gs (.lst l) = .free → Own.lst l = .free ∨ ls ≠ []) := fun e => by
    rw [e] at key ⊢
    exact ⟨key _ rfl (.inr (.inl rfl)), by simp, by simp⟩
   cases l with
   | slot s =>
    rcases hn s ho with h | h
    ·exact absurd h hl
    ·exact out (by simp [ak, hl, h])
   | ai i j =>
    have e : ak ls gs (.lst (.ai i j)) = .lst (.ai i j) := by simp [ak, hl]
    rw [e] at key ⊢
    exact ⟨key _ rfl (.inr (.inr (.inr ⟨i, j, rfl⟩))), by simp, by simp⟩
   | comp i j => exact out (by simp [ak, hl])
   | cell i j => exact out (by simp [ak, hl])
   | els => exact out (by simp [ak, hl])
theorem wP {g g' : Gh} {w w' : World} {ls : List Loc} {gs : List (Nat × Nat)} {t : Nat} (hf : Fr true (g.ren (ak ls gs)) w g' w') {k : Nat} {l : Loc} (hl : (∀ i j, l ≠ .ai i j)) (hk : g'.ow k = .lst l) :
  gZ w.heap.size ls gs t g.ow g'.ow k = pZ t (.lst l) := by
 simp only [gZ]
 split
 ·rename_i hlt
  obtain ⟨b, hb⟩ : ∃ b, w.heap[k]? = some b := ⟨w.heap[k], by simp [hlt]⟩
  by_cases hg : ∃ s, g.ow k = .lst (.slot s) ∧ Loc.slot s ∉ ls ∧ gs.lookup s ≠ none
  ·obtain ⟨s, h1, h2, h3⟩ := hg
   rw [h1]
   simp only
   have h2' : ls.contains (.slot s) = false := by simpa using h2
   rw [h2']
   cases hlk : gs.lookup s with
   | none => exact absurd hlk h3
   | some p => simp [hk]
  ·have := nV hf hb (fun s hs => by
    by_cases h1 : Loc.slot s ∈ ls
    ·exact .inl h1
    ·by_cases h2 : gs.lookup s = none
     ·exact .inr h2
     ·exact absurd ⟨s, hs, h1, h2⟩ hg)
   rw [hk] at this
   obtain ⟨i, j, e⟩ := this.2.1 l this.1.symm
   exact absurd e (hl i j)
 ·rw [hk]
theorem va {g g' : Gh} {w w' : World} {gs : List (Nat × Nat)} {t : Nat} (hf : Fr true (g.ren (ak [] gs)) w g' w') : az .free g' w' ⟨gZ w.heap.size [] gs t g.ow g'.ow, g'.ρ⟩ w' := by
 intro k b hk hb
 refine ⟨?_, hb⟩
 simp only [gZ]
 split
 ·rename_i hlt
  obtain ⟨b', hb'⟩ : ∃ b, w.heap[k]? = some b := ⟨w.heap[k], by simp [hlt]⟩
  by_cases hg : ∃ s, g.ow k = .lst (.slot s) ∧ gs.lookup s ≠ none
  ·obtain ⟨s, h1, h3⟩ := hg
   rw [h1]
   simp only [List.contains_nil, Bool.false_eq_true, if_false]
   cases hlk : gs.lookup s with
   | none => exact absurd hlk h3
   | some p => simp [hk, pZ]
  ·have := nV hf hb' (fun s hs => .inr (by
     by_cases h2 : gs.lookup s = none
     ·exact h2
     ·exact absurd ⟨s, hs, h2⟩ hg))
   rw [hk] at this
   rcases this.2.2 this.1.symm with h | h
   ·rw [h]
   ·exact absurd rfl h
 ·rw [hk]; rfl
theorem St.qB {gs : List (Nat × Nat)} : ∀ {st : St} {t : Nat} {x : SV}, st.tmps[t]? = some x → dt x ≠ 0 → (∀ p ∈ gs, t ≠ p.1) → (st.fp gs).tmps[t]? = some x := by
 induction gs with
 | nil => intro st t x h _ _; exact h
 | cons q gs ih =>
  intro st t x h hb hne
  obtain ⟨s0, p0⟩ := q
  simp only [St.fp]
  refine ih ?_ hb (fun p hp => hne p (List.mem_cons_of_mem _ hp))
  have : t ≠ s0 := hne (s0, p0) (by simp)
  simp [St.set, St.kill, List.getElem?_set_ne (Ne.symm this), h, cF hb]
theorem kL {t s0 : Nat} {s : SV} (ho : eS t s (.lst (.slot s0))) : s0 = t ∨ bV s0 s = true := by
 cases s <;> simp [eS, bV] at ho ⊢
 ·exact ho
 ·rw [← ho]; simp
 ·rw [← ho]; simp
 ·exact ho
theorem OW.Ac {o : Oper} {c : Call} (tr : List Nat) {k : tV} {r : SV} {H' : List ar} (hw : cV ops st o = some true) (hop : o.op = .call c) (hc : jH P st tr c = some k) (hp : SC P true k.f k.args (st.H.mapIdx (gk k.ls)) r H')
  (hr : m6 r = true) (hlend : k.ls.isEmpty = true ∨ jz r = true) (h : OW P pu ops rest ((st.fp k.gs).put o.dst r) Q) : OW P pu ops (o :: rest) st Q := by
 intro a w g hrel Qc hq
 unfold wpList
 rw [aN hrel hw, if_pos rfl]
 refine .inl ?_
 unfold jH at hc
 split at hc
 ·rename_i fo hcallee
  split at hc
  ·rename_i f first caps hfo
   split at hc
   ·rename_i ss ls gs hargs
    split at hc
    ·rename_i hok
     cases hc
     rw [Bool.and_eq_true] at hok
     obtain ⟨hgive, hfn⟩ := hok
     have hgs := iH hgive
     -- the callee, and what it captured
     have hrf := bw hrel hfo
     obtain ⟨vf, vc, hev, lf, lc, rf, rc⟩ : ∃ vf vc : Array Value, a.eval fo = .func (.func f) vf vc ∧ vf.size = first.length ∧ vc.size = caps.length ∧
       (∀ (j : Nat) (y : D), first[j]? = some y → ∃ u, vf[j]? = some u ∧ Rd g w u y) ∧ (∀ (j : Nat) (y : D), caps[j]? = some y → ∃ u, vc[j]? = some u ∧ Rd g w u y) := by
      generalize a.eval fo = v at hrf
      cases hrf with
      | fn hl1 hl2 us1 us2 hc1 hr1 hc2 hr2 => exact ⟨_, _, rfl, hl1, hl2, fun j y hj => ⟨us1 j, hc1 j y hj, hr1 j y hj⟩, fun j y hj => ⟨us2 j, hc2 j y hj, hr2 j y hj⟩⟩
     obtain ⟨la, ra⟩ := dW hrel hgs hargs (fun _ h => h) (fun _ h => h)
     have hexec : (execOp a.eval o).run P w = .ok (.enter f (vf ++ c.args.map a.eval ++ vc)) w := by
      unfold execOp
      rw [hop]
      exact l6 hcallee hev hfn w
     unfold Oper.wp
     rw [hexec, Oper.upon_enter]
     -- the arguments, read by the callee
     have hRA : fj (g.ren (ak ls gs)) w (vf ++ c.args.map a.eval ++ vc) (first.map .d ++ ss ++ caps.map .d) := by
      have hla : (c.args.map a.eval).size = ss.length := by rw [← la]; simp
      have hla' : c.args.size = ss.length := by rw [← la]; simp
      refine ⟨by simp [lf, lc, ← la], fun j s hj => ?_⟩
      have kp : ∀ {v : Value} {d : D}, Rd g w v d → Rd (g.ren (ak ls gs)) w v d := fun hr => hr.aG (az.ren rfl) (fun _ _ h => h)
      by_cases j1 : j < first.length
      ·rw [List.append_assoc, List.getElem?_append_left (by simpa using j1), List.getElem?_map] at hj
       simp only [Option.map_eq_some_iff] at hj
       obtain ⟨d, hd, rfl⟩ := hj
       obtain ⟨u, e1, e2⟩ := rf j d hd
       exact ⟨u, by rw [Array.append_assoc, Array.getElem?_append_left (by omega)]; exact e1, kp e2⟩
      ·by_cases j2 : j < first.length + ss.length
       ·rw [List.getElem?_append_left (by simp; omega), List.getElem?_append_right (by simp; omega)] at hj
        simp only [List.length_map] at hj
        obtain ⟨x, e1, e2⟩ := ra _ s hj
        refine ⟨a.eval x, ?_, by rw [show first.length + (j - first.length) = j by omega] at e2; exact e2⟩
        rw [Array.getElem?_append_left (by simp [lf]; omega), Array.getElem?_append_right (by omega), Array.getElem?_map, lf]
        rw [Array.getElem?_toList] at e1
        rw [e1]; rfl
       ·rw [List.getElem?_append_right (by simp; omega), List.getElem?_map] at hj
        simp only [Option.map_eq_some_iff, List.length_append, List.length_map] at hj
        obtain ⟨d, hd, rfl⟩ := hj
        obtain ⟨u, e1, e2⟩ := rc _ d hd
        refine ⟨u, ?_, kp e2⟩
        rw [Array.getElem?_append_right (by simp [lf]; omega)]
        simpa [lf, ← la] using e1
     refine (hp w (g.ren (ak ls gs)) _ hRA (hrel.hp.s4 (ls := ls) (gs := gs))).mono fun e w' hh => ?_
     obtain ⟨v, g', rfl, hres, -, hf⟩ := hh
     have hρ : g'.ρ = g.ρ := hf.len rfl
     have hρ' : ck g ⟨gZ w.heap.size ls gs (o.dst.getD 0) g.ow g'.ow, g'.ρ⟩ := fun i k h => by rw [hρ]; exact h
     have hkp := fun o' ho' => u9 (t := o.dst.getD 0) hf (o := o') ho'
     have hfr : Fr pu g w ⟨gZ w.heap.size ls gs (o.dst.getD 0) g.ow g'.ow, g'.ρ⟩ w' :=
      ⟨hf.size, hkp _ (by simp), hkp _ (by simp), hρ', fun _ i => hkp _ (by simp), fun _ i j => hkp _ (by simp), fun _ => hρ, hf.os⟩
     refine h (a.put o.dst v) w' _ ?_ Qc fun st2 a2 w2 g2 q2 r2 f2 => hq st2 a2 w2 g2 q2 r2 (hfr.trans f2)
     refine Rel.step hrel (by rw [cm, St.eg, St.qz]; exact hrel.len) (by rw [put_defers]; exact hrel.cH) hρ' (fun t s hs => ?_) ?_
     ·by_cases hd : o.dst = some t
      ·-- the slot of the result
       rw [hd] at hs ⊢
       obtain ⟨rfl, hlt⟩ := St.bU hs
       rw [St.qz] at hlt
       refine .inr (.inl ?_)
       rw [bb (by rw [hrel.len]; exact hlt)]
       simp only [Option.getD_some]
       have tag : ∀ l, (∀ i j, l ≠ .ai i j) → ∀ k b, g'.ow k = .lst l → w'.heap[k]? = some b → (⟨gZ w.heap.size ls gs t g.ow g'.ow, g'.ρ⟩ : Gh).ow k = pZ t (.lst l) := fun l hl k b hk _ => wP hf hl hk
       rcases hlend with hl | hflat
       ·have hls : ls = [] := by simpa using hl
        subst hls
        have h0 := va (t := t) hf
        cases hrr : s with
        | d x => rw [hrr] at hres; exact Rd.aG h0 (fun _ _ h => h) (hres : Rd g' w' v x)
        | own n xs =>
         rw [hrr] at hres
         exact (RC.back h0 (tag (.slot 0) (by simp)) (fun _ _ h => h) (hres : RC g' w' (.slot 0) v (.own n xs)) : RC _ _ (.slot t) v (.own n xs))
        | tup vs =>
         rw [hrr] at hres hr
         obtain ⟨us, e1, e2, e3⟩ := hres
         refine ⟨us, e1, e2, fun j s' hj => ?_⟩
         obtain ⟨u, f1, f2⟩ := e3 j s' hj
         exact ⟨u, f1, RC.back h0 (tag (.comp 0 j) (by simp)) (fun _ _ h => h) f2⟩
        | _ => rw [hrr] at hr; simp [m6] at hr
       ·cases hrr : s with
        | d x => rw [hrr] at hres hflat; show Rd _ w' v x; refine Rd.flat (g := g') (w := w') ?_ hres hflat; exact fun _ _ h => h
        | tup vs =>
         rw [hrr] at hres hflat
         obtain ⟨us, e1, e2, e3⟩ := hres
         refine ⟨us, e1, e2, fun j s' hj => ?_⟩
         obtain ⟨u, f1, f2⟩ := e3 j s' hj
         simp only [jz, List.all_eq_true] at hflat
         have := hflat s' (List.mem_iff_getElem?.2 ⟨j, hj⟩)
         cases s' with
         | d x => refine ⟨u, f1, ?_⟩; show Rd _ w' u x; refine Rd.flat (g := g') (w := w') ?_ f2 this; exact fun _ _ h => h
         | _ => simp at this
        | _ => rw [hrr] at hflat; simp [jz] at hflat
      ·-- another slot
       have hput : s = .undef ∨ ((st.fp gs).tmps[t]? = some s ∧ ∀ t0 old, o.dst = some t0 → (st.fp gs).tmps[t0]? = some old → mv old = true → bV t0 s = false) := by
        cases hdst : o.dst with
        | none => rw [hdst] at hs; exact .inr ⟨hs, by simp⟩
        | some t0 =>
         rw [hdst] at hs hd
         rcases St.gU (fun e => hd (by rw [e])) hs with h | ⟨h1, h2⟩
         ·exact .inl h
         ·exact .inr ⟨h1, fun t1 old e => by cases e; exact h2 old⟩
       rcases hput with rfl | ⟨hs1, hs2⟩
       ·exact .inl rfl
       ·rcases St.qA hs1 with rfl | ⟨hs3, hs4⟩
        ·exact .inl rfl
        ·refine .inr (.inr ⟨hs3, bj hd, fun o' ho' => hkp o' fun s0 e => .inr (sX fun p hp => ?_), fun s0 e => ?_⟩)
         ·subst e
          rcases kL ho' with rfl | hm
          ·exact (hs4 p hp).1
          ·rintro rfl
           rw [(hs4 p hp).2] at hm
           cases hm
         ·obtain ⟨x0, hx0, hb0⟩ := gr (hrel.tmp t _ hs3) e
          have hne : ∀ p ∈ gs, s0 ≠ p.1 := fun p hp e2 => by
           have := (hs4 p hp).2
           rw [← e2, bJ e] at this
           cases this
          have hbox : ∀ x, st.tmps[s0]? = some x → dt x ≠ 0 → (st.fp gs).tmps[s0]? = some x := fun x h hb => St.qB h hb hne
          have hd0 : o.dst ≠ some s0 := fun e2 => by
           have := hs2 s0 _ e2 (hbox x0 hx0 hb0) (dV hb0)
           rw [bJ e] at this
           cases this
          exact ⟨bj hd0, fun x hx hb => ⟨x, St.gj (hbox x hx hb) hb hd0, rfl⟩⟩
     ·rw [St.nD, St.yP]
      refine hrel.hp.aG (fun o' ho' => hkp o' fun s e => ?_) hρ' (by rw [hρ])
      subst e
      exact ho'.elim
    ·cases hc
   ·cases hc
  ·cases hc
 ·cases hc
theorem OW.call {o : Oper} {c : Call} (tr : List Nat) {k : tV} {r : SV} (hw : cV ops st o = some true) (hop : o.op = .call c) (hc : jH P st tr c = some k) (hp : PC P k.f k.args r)
  (hr : m6 r = true) (hlend : k.ls.isEmpty = true ∨ jz r = true) (h : OW P pu ops rest ((st.fp k.gs).put o.dst r) Q) : OW P pu ops (o :: rest) st Q := OW.Ac tr hw hop hc (hp _) hr hlend h
end
end Go.Sh
namespace Go.Sh
section
variable {P : Program} {pu : Bool} {ops : Array Oper} {rest : List Oper} {st : St} {Q : St → Prop}
theorem OpS.value {o : Oper} {st' : St} (h : ∀ a w g, Rel st a w g → ∃ v w' g', (execOp a.eval o).run P w = .ok (.value v) w' ∧ Rel st' (a.put o.dst v) w' g' ∧ Fr pu g w g' w') : OpS P pu st o st' :=
 fun a w g hr => let ⟨v, w', g', e, r, f⟩ := h a w g hr; ⟨_, w', g', _, e, fun _ _ => rfl, r, f⟩
theorem OpS.skip {o : Oper} {st' : St} (h : ∀ a w g, Rel st a w g → ∃ w' g', (execOp a.eval o).run P w = .ok .skip w' ∧ Rel st' (a.put o.dst undef) w' g' ∧ Fr pu g w g' w') : OpS P pu st o st' :=
 fun a w g hr => let ⟨w', g', e, r, f⟩ := h a w g hr; ⟨_, w', g', _, e, fun _ _ => rfl, r, f⟩
theorem ia {st1 : St} {a : Act} {w : World} {g : Gh} (h : Rel st a w g) {d : Option Tmp} {s0 s : SV} (v : Value) {t : Nat} (h1 : ∀ (t : Nat) (s : SV), st1.tmps[t]? = some s → s = .undef ∨ st.tmps[t]? = some s)
  (hbox : ∀ (t : Nat) (s x : SV), st1.tmps[t]? = some s → ∀ s1, dep s = some s1 → st.tmps[s1]? = some x → dt x ≠ 0 → ∃ x', st1.tmps[s1]? = some x' ∧ dt x' = dt x) (hd : d ≠ some t) (hs : (st1.put d s0).tmps[t]? = some s) :
  s = .undef ∨ (st1.tmps[t]? = some s ∧ st.tmps[t]? = some s ∧ valOf (a.put d v) t = valOf a t ∧ (∀ t0 old, d = some t0 → st1.tmps[t0]? = some old → mv old = true → bV t0 s = false) ∧
   ∀ s', dep s = some s' → valOf (a.put d v) s' = valOf a s' ∧ ∀ x, st.tmps[s']? = some x → dt x ≠ 0 → ∃ x', (st1.put d s0).tmps[s']? = some x' ∧ dt x' = dt x) := by
 have hput : s = .undef ∨ (st1.tmps[t]? = some s ∧ ∀ t0 old, d = some t0 → st1.tmps[t0]? = some old → mv old = true → bV t0 s = false) := by
  cases d with
  | none => exact .inr ⟨hs, by simp⟩
  | some t0 =>
   rcases St.gU (fun e => hd (by rw [e])) hs with h | ⟨h1, h2⟩
   ·exact .inl h
   ·exact .inr ⟨h1, fun t1 old e => by cases e; exact h2 old⟩
 rcases hput with hu | ⟨h2, h3⟩
 ·exact .inl hu
 ·rcases h1 t s h2 with hu | h4
  ·exact .inl hu
  ·refine .inr ⟨h2, h4, bj hd, h3, fun s1 e => ?_⟩
   obtain ⟨x0, hx0, hb0⟩ := gr (h.tmp t _ h4) e
   obtain ⟨x1, hx1, hb1⟩ := hbox t _ x0 h2 s1 e hx0 hb0
   have hd0 : d ≠ some s1 := fun e2 => by
    have := h3 s1 _ e2 hx1 (dV (by omega))
    rw [bJ e] at this
    cases this
   refine ⟨bj hd0, fun x hx hb => ?_⟩
   obtain ⟨x', hx', hb'⟩ := hbox t _ x h2 s1 e hx hb
   exact ⟨x', St.gj hx' (by omega) hd0, hb'⟩
def St.take (st : St) (s : Nat) : St := (st.kill s).set s .undef
theorem St.vl (st : St) (s p : Nat) : st.take s = st.fp [(s, p)] := rfl
@[simp] theorem St.iU (st : St) (s : Nat) : (st.take s).tmps.length = st.tmps.length := by simp [St.take]
@[simp] theorem St.ue (st : St) (s : Nat) : (st.take s).H = st.H := rfl
theorem St.dL {s0 t : Nat} {s : SV} (h : (st.take s0).tmps[t]? = some s) : s = .undef ∨ (st.tmps[t]? = some s ∧ t ≠ s0 ∧ bV s0 s = false) := by
 rw [St.vl st s0 0] at h
 rcases St.qA h with h | ⟨h1, h2⟩
 ·exact .inl h
 ·exact .inr ⟨h1, h2 (s0, 0) (by simp)⟩
theorem St.lT {s0 t : Nat} {s x : SV} (h : (st.take s0).tmps[t]? = some s) (s1 : Nat) (e : dep s = some s1) (hx : st.tmps[s1]? = some x) (hb : dt x ≠ 0) : ∃ x', (st.take s0).tmps[s1]? = some x' ∧ dt x' = dt x := by
 rcases St.dL h with h | ⟨-, -, h3⟩
 ·subst h; cases e
 ·have : s1 ≠ s0 := fun e2 => by rw [← e2, bJ e] at h3; cases h3
  exact ⟨x, by rw [St.vl st s0 0]; exact St.qB hx hb (by simpa using this), rfl⟩
def rnL (l l' : Loc) (o : Own) : Own := if o = .lst l then .lst l' else o
theorem l7 (l l' : Loc) : rnL l l' (.lst l) = .lst l' := by simp [rnL]
theorem cu {l l' : Loc} {o : Own} (h : o ≠ .lst l) : rnL l l' o = o := by simp [rnL, h]
theorem Fr.ren {g : Gh} {w : World} {l l' : Loc} (hl : ∀ i j, l ≠ .ai i j) : Fr pu g w (g.ren (rnL l l')) w :=
 ⟨Nat.le_refl _, az.ren (cu (by simp)), az.ren (cu (by simp)), fun _ _ h => h, fun _ i => az.ren (cu (by simp)), fun _ i j => az.ren (cu (fun e => hl i j (by cases e; rfl))), fun _ => rfl, ⟨rfl, rfl⟩⟩
theorem RH.ren {g : Gh} {w : World} {H : List ar} {l l' : Loc} (hl : ∀ i j, l ≠ .ai i j) (h : RH g w H) : RH (g.ren (rnL l l')) w H := by
 refine RH.aG (g := g) (w := w) (fun o ho => az.ren (cu fun e => ?_)) (fun _ _ h => h) rfl h
 subst e
 cases l <;> simp only [gv] at ho
 exact hl _ _ rfl
theorem OpS.move {o : Oper} {s : Nat} {n : Nat} {xs : List D} (hop : o.op = .move (.tmp s) ∨ o.op = .assign (.tmp s)) (hs : st.tmps[s]? = some (.own n xs)) : OpS P pu st o ((st.take s).put o.dst (.own n xs)) := by
 refine OpS.value fun a w g hr => ?_
 have hexec : (execOp a.eval o).run P w = .ok (.value (valOf a s)) w := by rcases hop with h | h <;> (unfold execOp; rw [h]; rfl)
 cases hd : o.dst with
 | none =>
  refine ⟨_, w, g, hexec, ?_, Fr.refl _ _ _⟩
  refine Rel.step hr (by simp [hr.len, cm]) (by rw [put_defers]; exact hr.cH) (fun _ _ h => h) (fun t s' hs' => ?_) hr.hp
  rcases St.dL hs' with h | ⟨h1, h2, h3⟩
  ·exact .inl h
  ·refine .inr (.inr ⟨h1, rfl, fun _ _ => az.refl _ _ _, fun s1 e => ⟨rfl, fun x hx hb => St.lT hs' s1 e hx hb⟩⟩)
 | some d =>
  refine ⟨_, w, g.ren (rnL (.slot s) (.slot d)), hexec, ?_, Fr.ren (by simp)⟩
  refine Rel.step hr (by rw [cm, St.eg, St.iU]; exact hr.len) (by rw [put_defers]; exact hr.cH) (fun _ _ h => h) (fun t s' hs' => ?_) (by rw [St.nD, St.ue]; exact hr.hp.ren (by simp))
  by_cases ht : t = d
  ·subst ht
   obtain ⟨rfl, hlt⟩ := St.bU hs'
   refine .inr (.inl ?_)
   rw [bb (by rw [hr.len]; simpa using hlt)]
   exact bA.ren (cu (by simp)) (l7 _ _) (hr.tmp s _ hs)
  ·rcases ia hr (st1 := st.take s) (valOf a s) (fun t s h => (St.dL h).imp id fun h => h.1) (fun t s x h s1 e hx hb => St.lT h s1 e hx hb) (by simpa using Ne.symm ht) hs' with h | ⟨h1, h2, h3, h4, h5⟩
   ·exact .inl h
   ·rcases St.dL h1 with h | ⟨-, h6, h7⟩
    ·exact .inl h
    ·exact .inr (.inr ⟨h2, h3, fun o' ho' => az.ren (cu (gT h6 h7 ho').2.1), h5⟩)
theorem OpS.extract {o : Oper} {s j : Nat} {vs : List SV} {n : Nat} {xs : List D} (hop : o.op = .extract (.tmp s) j) (hs : st.tmps[s]? = some (.tup vs)) (hj : vs[j]? = some (.own n xs)) (hds : o.dst ≠ some s) :
  OpS P pu st o (((st.kill s).set s (.tup (vs.set j .undef))).put o.dst (.own n xs)) := by
 refine OpS.value fun a w g hr => ?_
 obtain ⟨us, e1, e2, e3⟩ := hr.tmp s _ hs
 obtain ⟨u, f1, f2⟩ := e3 j _ hj
 have hexec : (execOp a.eval o).run P w = .ok (.value u) w := by
  unfold execOp; rw [hop]
  have : a.eval (.tmp s) = .tuple us := e1
  simp [Instr.extract, this, f1]
 have hslt := aD hs
 have tupS : ∀ g' : Gh, ck g g' → az .free g w g' w → (∀ i, i ≠ j → az (.lst (.comp s i)) g w g' w) → ∀ tm val, RS g' w tm val s (valOf a s) (.tup (vs.set j .undef)) := fun g' h0 h1 h2 tm val => by
  refine ⟨us, e1, by simpa using e2, fun i s' hi => ?_⟩
  by_cases hij : i = j
  ·subst hij
   rw [List.getElem?_set_self (aD hj)] at hi
   cases hi
   exact ⟨u, f1, trivial⟩
  ·rw [List.getElem?_set_ne (Ne.symm hij)] at hi
   obtain ⟨u', g1, g2⟩ := e3 i s' hi
   exact ⟨u', g1, g2.aG h1 (h2 i hij) h0⟩
 have get1 : ∀ (t : Nat) (s' : SV), ((st.kill s).set s (.tup (vs.set j .undef))).tmps[t]? = some s' → (t = s ∧ s' = .tup (vs.set j .undef)) ∨ s' = .undef ∨ (t ≠ s ∧ st.tmps[t]? = some s' ∧ bV s s' = false) := fun t s' h => by
  by_cases ht : t = s
  ·subst ht
   rw [St.set, List.getElem?_set_self (by simpa using hslt)] at h
   exact .inl ⟨rfl, by cases h; rfl⟩
  ·simp only [St.set, List.getElem?_set_ne (Ne.symm ht)] at h
   rcases St.kn h with h | ⟨h1, h2⟩
   ·exact .inr (.inl h)
   ·exact .inr (.inr ⟨ht, h1, h2⟩)
 have box1 : ∀ (s1 : Nat) (x : SV), st.tmps[s1]? = some x → dt x ≠ 0 → ((st.kill s).set s (.tup (vs.set j .undef))).tmps[s1]? = some x := fun s1 x h hb => by
  have : s1 ≠ s := fun e => by rw [e, hs] at h; cases h; simp [dt] at hb
  simp [St.set, St.kill, List.getElem?_set_ne (Ne.symm this), h, cF hb]
 cases hd : o.dst with
 | none =>
  refine ⟨_, w, g, hexec, ?_, Fr.refl _ _ _⟩
  refine Rel.step hr (by rw [cm, St.eg, St.vp, St.ta]; exact hr.len) (by rw [put_defers]; exact hr.cH) (fun _ _ h => h) (fun t s' hs' => ?_) hr.hp
  rcases get1 t s' hs' with ⟨rfl, rfl⟩ | h | ⟨h1, h2, h3⟩
  ·exact .inr (.inl (tupS g (fun _ _ h => h) (az.refl _ _ _) (fun _ _ => az.refl _ _ _) _ _))
  ·exact .inl h
  ·exact .inr (.inr ⟨h2, rfl, fun _ _ => az.refl _ _ _, fun s1 e => ⟨rfl, fun x hx hb => ⟨x, box1 s1 x hx hb, rfl⟩⟩⟩)
 | some d =>
  rw [hd] at hds
  have hds' : d ≠ s := fun e => hds (by rw [e])
  refine ⟨_, w, g.ren (rnL (.comp s j) (.slot d)), hexec, ?_, Fr.ren (by simp)⟩
  refine Rel.step hr (by rw [cm, St.eg, St.vp, St.ta]; exact hr.len) (by rw [put_defers]; exact hr.cH) (fun _ _ h => h) (fun t s' hs' => ?_) (by rw [St.nD, St.Bn]; exact hr.hp.ren (by simp))
  by_cases ht : t = d
  ·subst ht
   obtain ⟨rfl, hlt⟩ := St.bU hs'
   refine .inr (.inl ?_)
   rw [bb (by rw [hr.len]; simpa using hlt)]
   exact bA.ren (cu (by simp)) (l7 _ _) f2
  ·by_cases hts : t = s
   ·subst hts
    rcases St.gU ht hs' with h | ⟨h1, h2⟩
    ·exact .inl h
    ·rcases get1 t s' h1 with ⟨-, rfl⟩ | h | ⟨h, -⟩
     ·refine .inr (.inl ?_)
      rw [bj (by simpa using hds')]
      exact tupS (g.ren (rnL (.comp t j) (.slot d))) (fun _ _ h => h) (az.ren (cu (by simp))) (fun i hi => az.ren (cu (by simpa using hi))) _ _
     ·exact .inl h
     ·exact absurd rfl h
   ·have hst : ∀ t2, t2 ≠ s → ∀ s2, ((st.kill s).set s (.tup (vs.set j .undef))).tmps[t2]? = some s2 → s2 = .undef ∨ (st.tmps[t2]? = some s2 ∧ bV s s2 = false) := fun t2 h2 s2 h => by
     rcases get1 t2 s2 h with ⟨e, -⟩ | h | ⟨-, h⟩
     ·exact absurd e h2
     ·exact .inl h
     ·exact .inr h
    rcases St.gU ht hs' with h | ⟨h1, h2⟩
    ·exact .inl h
    ·rcases hst t hts s' h1 with h | ⟨h3, h4⟩
     ·exact .inl h
     ·refine .inr (.inr ⟨h3, bj (by simpa using Ne.symm ht), fun o' ho' => az.ren (cu ((gT hts h4 ho').2.2.2 j)), fun s1 e => ?_⟩)
      obtain ⟨x0, hx0, hb0⟩ := gr (hr.tmp t _ h3) e
      have hb := box1 s1 x0 hx0 hb0
      have hd0 : s1 ≠ d := fun e2 => by
       subst e2
       have := h2 _ hb (dV hb0)
       rw [bJ e] at this
       cases this
      exact ⟨bj (by simpa using Ne.symm hd0), fun x hx hb => ⟨x, St.gj (box1 s1 x hx hb) hb (by simpa using Ne.symm hd0), rfl⟩⟩
theorem az.alloc {o' : Own} {g : Gh} {w : World} {o : Obj} {t : Own} : az o' g w (g.upd w.heap.size t) (w.alloc o) := by
 intro k b hk hb
 have hlt := gg hb
 refine ⟨by rw [Gh.qx _ _ (by omega)]; exact hk, ?_⟩
 simp only [World.alloc]
 rw [Array.getElem?_push_lt hlt]
 rw [Array.getElem?_eq_getElem hlt] at hb
 exact hb
theorem Fr.alloc {g : Gh} {w : World} {o : Obj} {t : Own} : Fr pu g w (g.upd w.heap.size t) (w.alloc o) :=
 ⟨by simp, az.alloc, az.alloc, fun _ _ h => h, fun _ _ => az.alloc, fun _ _ _ => az.alloc, fun _ => rfl, ⟨rfl, rfl⟩⟩
theorem heap_alloc (w : World) (o : Obj) : (w.alloc o).heap[w.heap.size]? = some o := by
 show (w.heap.push o)[w.heap.size]? = _
 simp
theorem Rel.xF {a : Act} {w : World} {g : Gh} (hr : Rel st a w g) {d : Nat} {c : Array Value} {T : TypeId} {cs : List SV} (hl : c.size = cs.length)
  (hc : ∀ (j : Nat) (s : SV), cs[j]? = some s → ∃ u, c[j]? = some u ∧ RC g w (.cell d j) u s ∧ u.oneCell' = true) (hown : ∀ (j : Nat) n xs, cs[j]? = some (.own n xs) → xs = [] ∧ ∀ u, c[j]? = some u → ∃ x, u = .slice x 0 0) :
  Rel (st.put (some d) (.box cs)) (a.put (some d) (.pointer (some ⟨w.heap.size, 0, none⟩))) (w.alloc (.cells c T)) (g.upd w.heap.size (.box d)) := by
 refine Rel.step hr (by rw [cm, St.eg]; exact hr.len) (by rw [put_defers]; exact hr.cH) (fun _ _ h => h) (fun t s' hs' => ?_) (by rw [St.nD]; exact hr.hp.aG (fun _ _ => az.alloc) (fun _ _ h => h) rfl)
 by_cases ht : t = d
 ·subst ht
  obtain ⟨rfl, hlt⟩ := St.bU hs'
  refine .inr (.inl ?_)
  rw [bb (by rw [hr.len]; exact hlt)]
  refine ⟨w.heap.size, c, T, rfl, by simp, heap_alloc _ _, hl, fun j s hj => ?_⟩
  obtain ⟨u, e1, e2, e3⟩ := hc j s hj
  refine ⟨u, e1, ?_, e3⟩
  cases s with
  | d x => exact Rd.aG az.alloc (fun _ _ h => h) e2
  | own n xs =>
   obtain ⟨rfl, h2⟩ := hown j n xs hj
   exact .inl ⟨rfl, h2 u e1⟩
  | undef => trivial
  | _ => exact e2.elim
 ·rcases ia hr (st1 := st) (.pointer (some ⟨w.heap.size, 0, none⟩)) (fun t s h => .inr h) (fun t s x h s1 e hx hb => ⟨x, hx, rfl⟩) (by simpa using Ne.symm ht) hs' with h | ⟨h1, h2, h3, h4, h5⟩
  ·exact .inl h
  ·exact .inr (.inr ⟨h2, h3, fun o' ho' => az.alloc, h5⟩)
def zeroCells (P : Program) (T : TypeId) : Option (List D) := (nv P T).map D.cells
theorem OpS.alloc {o : Oper} {T : TypeId} {d : Nat} {cs : List D} (hop : o.op = .alloc T) (hd : o.dst = some d) (hz : zeroCells P T = some cs) : OpS P pu st o (st.put (some d) (.box (cs.map .d))) := by
 refine OpS.value fun a w g hr => ?_
 simp only [zeroCells, Option.map_eq_some_iff] at hz
 obtain ⟨z, h1, rfl⟩ := hz
 obtain ⟨v, e1, e2⟩ := iz (P := P) (g := g) (w := w) h1
 obtain ⟨c1, c2⟩ := e1.cells
 rw [hd]
 refine ⟨.pointer (some ⟨w.heap.size, 0, none⟩), w.alloc (.cells v.cells T), _, ?_, hr.xF (T := T) (by simpa using c1) (fun j s hj => ?_) (fun j n xs hj => ?_), Fr.alloc⟩
 ·unfold execOp; rw [hop]
  simp only [Instr.alloc, Sem.run_bind, e2, Result.andThen_ok, newVar, newRow, run_newObj, Sem.run_pure]
  rfl
 ·simp only [List.getElem?_map, Option.map_eq_some_iff] at hj
  obtain ⟨x, hx, rfl⟩ := hj
  exact c2 j x hx
 ·simp at hj
theorem OpS.box {o : Oper} {T : TypeId} {x : Operand} {d : Nat} {y : D} (hop : o.op = .box T x) (hd : o.dst = some d) (hy : bK st x = some y) : OpS P pu st o (st.put (some d) (.box (y.cells.map .d))) := by
 refine OpS.value fun a w g hr => ?_
 have e2 := bw hr hy
 obtain ⟨c1, c2⟩ := e2.cells
 rw [hd]
 refine ⟨.pointer (some ⟨w.heap.size, 0, none⟩), w.alloc (.cells (a.eval x).cells T), _, ?_, hr.xF (T := T) (by simpa using c1) (fun j s hj => ?_) (fun j n xs hj => ?_), Fr.alloc⟩
 ·unfold execOp; rw [hop]
  simp only [Instr.box, Sem.run_bind, newVar, newRow, run_newObj, Result.andThen_ok, Sem.run_pure]
  rfl
 ·simp only [List.getElem?_map, Option.map_eq_some_iff] at hj
  obtain ⟨x, hx, rfl⟩ := hj
  exact c2 j x hx
 ·simp at hj
def setCells (cs : List SV) (off : Nat) (ys : List D) : List SV := cs.take off ++ ys.map .d ++ cs.drop (off + ys.length)
theorem bx (k off : Nat) (T : TypeId) : ∀ (vs : List Value) (i : Nat) (c : Array Value) (w : World), w.heap[k]? = some (.cells c T (0, 0)) → off + i + vs.length ≤ c.size → (∀ v ∈ vs, v.oneCell' = true) →
  ∃ w', (storeCells ⟨k, off, none⟩ vs i).run P w = .ok () w' ∧ w'.heap.size = w.heap.size ∧ (∀ k', k' ≠ k → w'.heap[k']? = w.heap[k']?) ∧ ∃ c' : Array Value, w'.heap[k]? = some (.cells c' T (0, 0)) ∧ c'.size = c.size ∧
   ∀ j, c'[j]? = if off + i ≤ j ∧ j < off + i + vs.length then vs[j - (off + i)]? else c[j]?
 | [], i, c, w, hb, hs, _ => ⟨w, rfl, rfl, fun _ _ => rfl, c, hb, rfl, fun j => by rw [if_neg (by simp)]⟩
 | v :: vs, i, c, w, hb, hs, hv => by
  simp only [List.length_cons] at hs
  have ai : w.cell? ⟨k, off + i, none⟩ = some (c[off + i]'(by omega)) := by rw [kA hb]; simp
  have hfz : w.frozen? ⟨k, off + i, none⟩ = false := by simp [World.frozen?, hb]
  have hb1 : (w.setCell ⟨k, off + i, none⟩ v).heap[k]? = some (.cells (c.setIfInBounds (off + i) v) T (0, 0)) := by
   simp [World.setCell, Array.getElem?_modify, hb]
  obtain ⟨w', e1, e2, e3, c', e4, e5, e6⟩ := bx k off T vs (i + 1) (c.setIfInBounds (off + i) v) (w.setCell ⟨k, off + i, none⟩ v) hb1 (by simp; omega) (fun u hu => hv u (by simp [hu]))
  refine ⟨w', ?_, by rw [e2]; simp, fun k' hk' => ?_, c', e4, by simpa using e5, fun j => ?_⟩
  ·simp only [storeCells, Sem.run_bind, Addr.add_lit]
   rw [run_store P w _ v .plain (hv v (by simp))]
   simp only [ai, hfz, Result.andThen_ok, Bool.false_eq_true, if_false]
   exact e1
  ·rw [e3 k' hk']
   simp [World.setCell, Array.getElem?_modify, Ne.symm hk']
  ·rw [e6]
   simp only [List.length_cons]
   by_cases h1 : off + i = j
   ·subst h1
    rw [if_neg (by omega), if_pos (by omega)]
    simp only [Nat.sub_self, List.getElem?_cons_zero]
    rw [Array.getElem?_setIfInBounds_self_of_lt (by omega)]
   ·by_cases h2 : off + (i + 1) ≤ j ∧ j < off + (i + 1) + vs.length
    ·rw [if_pos h2, if_pos (by omega)]
     rw [show j - (off + i) = (j - (off + (i + 1))) + 1 by omega]
     simp
    ·rw [if_neg h2, if_neg (by omega), Array.getElem?_setIfInBounds_ne (by omega)]
theorem bT (k off : Nat) (T : TypeId) : ∀ (vs : List Value) (i : Nat) (c : Array Value) (w w' : World), w.heap[k]? = some (.cells c T (0, 0)) → off + i + vs.length ≤ c.size → (∀ v ∈ vs, v.oneCell' = true) →
  (storeCells ⟨k, off, none⟩ vs i).run P w = .ok () w' → cq w w'
 | [], i, c, w, w', hb, hs, _, h => by
  unfold storeCells at h
  rw [Sem.run_pure] at h
  cases h; exact cq.refl _
 | v :: vs, i, c, w, w', hb, hs, hv, h => by
  simp only [List.length_cons] at hs
  have ai : w.cell? ⟨k, off + i, none⟩ = some (c[off + i]'(by omega)) := by rw [kA hb]; simp
  have hfz : w.frozen? ⟨k, off + i, none⟩ = false := by simp [World.frozen?, hb]
  have hb1 : (w.setCell ⟨k, off + i, none⟩ v).heap[k]? = some (.cells (c.setIfInBounds (off + i) v) T (0, 0)) := by
   simp [World.setCell, Array.getElem?_modify, hb]
  simp only [storeCells, Sem.run_bind, Addr.add_lit] at h
  rw [run_store P w _ v .plain (hv v (by simp))] at h
  simp only [ai, hfz, Result.andThen_ok, Bool.false_eq_true, if_false] at h
  exact cq.trans (w2 := w.setCell ⟨k, off + i, none⟩ v) ⟨rfl, rfl⟩ (bT k off T vs (i + 1) (c.setIfInBounds (off + i) v) (w.setCell ⟨k, off + i, none⟩ v) w' hb1 (by simp; omega) (fun u hu => hv u (by simp [hu])) h)
end
end Go.Sh
namespace Go.Sh
section
variable {P : Program} {pu : Bool} {st : St}
def o0 (P : Program) (st : St) (T : TypeId) (x y : Operand) : Option St :=
 match jJ st x, bK st y with
 | some (s, off), some d => match pX st s with
  | some cs => if (P.underlying T).isNone = false ∧ d.cells.length = P.cellsOf T ∧ off + P.cellsOf T ≤ cs.length then some (st.set s (.box (setCells cs off d.cells))) else none
  | none => none
 | _, _ => none
theorem l4 {cs : List SV} {off : Nat} {ys : List D} {j : Nat} {s : SV} (hb : off + ys.length ≤ cs.length) (h : (setCells cs off ys)[j]? = some s) :
  (off ≤ j ∧ j < off + ys.length ∧ ∃ y, ys[j - off]? = some y ∧ s = .d y) ∨ ((j < off ∨ off + ys.length ≤ j) ∧ cs[j]? = some s) := by
 unfold setCells at h
 by_cases c1 : j < off
 ·rw [List.append_assoc, List.getElem?_append_left (by simp; omega), List.getElem?_take, if_pos c1] at h
  exact .inr ⟨.inl c1, h⟩
 ·by_cases c2 : j < off + ys.length
  ·rw [List.getElem?_append_left (by simp; omega), List.getElem?_append_right (by simp; omega)] at h
   simp only [List.length_take, List.getElem?_map, Option.map_eq_some_iff] at h
   rw [Nat.min_eq_left (by omega)] at h
   obtain ⟨y, h1, rfl⟩ := h
   exact .inl ⟨by omega, c2, y, h1, rfl⟩
  ·rw [List.getElem?_append_right (by simp; omega), List.getElem?_drop] at h
   simp only [List.length_append, List.length_take, List.length_map] at h
   rw [Nat.min_eq_left (by omega), show off + ys.length + (j - (off + ys.length)) = j by omega] at h
   exact .inr ⟨.inr (by omega), h⟩
theorem lZ {cs : List SV} {off : Nat} {ys : List D} (hb : off + ys.length ≤ cs.length) : (setCells cs off ys).length = cs.length := by
 simp [setCells]; omega
theorem az.block {g : Gh} {w w' : World} {k : Nat} {tag o : Own} (hk : g.ow k = tag) (ho : o ≠ tag) (hw : ∀ k', k' ≠ k → w'.heap[k']? = w.heap[k']?) : az o g w g w' := by
 intro k' b h1 h2
 have : k' ≠ k := by rintro rfl; exact ho (h1.symm.trans hk)
 exact ⟨h1, by rw [hw k' this]; exact h2⟩
theorem OpS.store {o : Oper} {T : TypeId} {x y : Operand} {st' : St} (hop : o.op = .store T x y) (hd : o.dst = none) (hv : o0 P st T x y = some st') : OpS P pu st o st' := by
 refine OpS.skip fun a w g hr => ?_
 unfold o0 at hv
 split at hv
 ·rename_i s off d hx hy
  split at hv
  ·rename_i cs hb
   split at hv
   ·rename_i hc
    obtain ⟨hu, hsz, hfit⟩ := hc
    cases hv
    have hs : st.tmps[s]? = some (.box cs) := by
     unfold pX at hb
     split at hb
     ·cases hb; assumption
     ·cases hb
    obtain ⟨cs', k, e1, e2, e3⟩ := fi hr hx
    obtain ⟨k', c, T0, f1, f2, f3, f4, f5⟩ := hr.tmp s _ hs
    rw [e2] at f1
    simp only [Value.pointer.injEq, Option.some.injEq, Addr.mk.injEq, and_true] at f1
    subst f1
    have hrd := bw hr hy
    obtain ⟨c1, c2⟩ := hrd.cells
    have hone : ∀ v ∈ (a.eval y).cells.toList, v.oneCell' = true := fun v hv => by
     obtain ⟨j, hj⟩ := List.mem_iff_getElem?.1 hv
     have hlt : j < d.cells.length := by rw [← c1]; have := aD hj; simpa using this
     obtain ⟨u, u1, u2, u3⟩ := c2 j d.cells[j] (by simp [hlt])
     have : u = v := by
      have hj' : (a.eval y).cells[j]? = some v := by simpa using hj
      rw [u1] at hj'; exact Option.some.inj hj'
     rw [← this]; exact u3
    obtain ⟨w', r1, r2, r3, c', r4, r5, r6⟩ := bx (P := P) k off T0 (a.eval y).cells.toList 0 c w f3 (by simp [c1]; omega) hone
    refine ⟨w', g, ?_, ?_, ?_⟩
    ·unfold execOp; rw [hop]
     simp only [Instr.storeAt, Sem.run_bind, e3, Instr.sureAddr, Sem.run_pure, Result.andThen_ok, storeVar, dP hu]
     rw [if_neg (by rw [c1, hsz]; simp), r1]
     rfl
    ·rw [hd]
     have hlt := aD hs
     refine Rel.step hr (by simp [hr.len, cm]) hr.cH (fun _ _ h => h) (fun t s' hs' => ?_) ?_
     ·by_cases ht : t = s
      ·subst ht
       rw [St.set, List.getElem?_set_self hlt] at hs'
       cases hs'
       refine .inr (.inl ⟨k, c', T0, e2, f2, r4, by rw [r5, f4, lZ (by omega)], fun j sv hj => ?_⟩)
       have hkp : ∀ o', o' ≠ .box t → az o' g w g w' := fun o' ho => az.block f2 ho r3
       rcases l4 (by omega) hj with ⟨h1, h2, y', h3, rfl⟩ | ⟨h1, h2⟩
       ·obtain ⟨u, u1, u2, u3⟩ := c2 _ _ h3
        refine ⟨u, ?_, Rd.aG (hkp _ (by simp)) (fun _ _ h => h) u2, u3⟩
        rw [r6, if_pos (by simp [c1]; omega)]
        simpa using u1
       ·obtain ⟨u, u1, u2, u3⟩ := f5 j sv h2
        refine ⟨u, ?_, u2.aG (hkp _ (by simp)) (hkp _ (by simp)) (fun _ _ h => h), u3⟩
        rw [r6, if_neg (by simp [c1]; omega)]
        exact u1
      ·simp only [St.set, List.getElem?_set_ne (Ne.symm ht)] at hs'
       refine .inr (.inr ⟨hs', rfl, fun o' ho' => az.block f2 (fun e => ?_) r3, fun s1 e => ⟨rfl, fun xq hxq hb => ?_⟩⟩)
       ·subst e
        cases s' <;> simp [eS] at ho'
        exact ht ho'.symm
       ·by_cases h1 : s1 = s
        ·subst h1
         rw [hs] at hxq; cases hxq
         exact ⟨.box (setCells cs _ d.cells), by rw [St.set, List.getElem?_set_self hlt], rfl⟩
        ·exact ⟨xq, by simp [St.set, List.getElem?_set_ne (Ne.symm h1), hxq], rfl⟩
     ·refine hr.hp.aG (fun o' ho' => az.block f2 (fun e => ?_) r3) (fun _ _ h => h) rfl
      subst e
      exact ho'.elim
    ·exact Fr.of (fun o => o = .box s) (by rintro _ rfl; simp) (by rw [r2]; exact Nat.le_refl _) (fun o' ho' => az.block f2 ho' r3) rfl (bT (P := P) k off T0 (a.eval y).cells.toList 0 c w w' f3 (by simp [c1]; omega) hone r1)
   ·cases hv
  ·cases hv
 ·cases hv
def dY (g : Gh) (w : World) (news : Array Value) (n : Nat) (ys : List D) : Prop :=
 news.size = ys.length * n ∧ (∀ (i : Nat) (x : D), ys[i]? = some x → x.cells.length = n) ∧
 ∀ (i : Nat) (x : D), ys[i]? = some x → ∀ (j : Nat) (y : D), x.cells[j]? = some y → ∃ u, news[i * n + j]? = some u ∧ Rd g w u y ∧ u.oneCell' = true
theorem dY.one {g : Gh} {w : World} {news : Array Value} {n : Nat} {ys : List D} (h : dY g w news n ys) : ∀ v ∈ news.toList, v.oneCell' = true := by
 intro v hv
 obtain ⟨j, hj⟩ := List.mem_iff_getElem?.1 hv
 have hlt : j < ys.length * n := by rw [← h.1]; have := aD hj; simpa using this
 have hn : 0 < n := by
  rcases Nat.eq_zero_or_pos n with h0 | h0
  ·subst h0; omega
  ·exact h0
 have h1 : j / n < ys.length := (Nat.div_lt_iff_lt_mul hn).2 hlt
 have h2 : j % n < n := Nat.mod_lt _ hn
 have hw := h.2.1 (j / n) ys[j / n] (by simp [h1])
 obtain ⟨u, u1, u2, u3⟩ := h.2.2 (j / n) ys[j / n] (by simp [h1]) (j % n) (ys[j / n].cells[j % n]'(by omega)) (by simp)
 rw [Nat.div_add_mod' j n] at u1
 have : u = v := by
  have hj' : news[j]? = some v := by simpa using hj
  rw [u1] at hj'; exact Option.some.inj hj'
 rw [← this]; exact u3
theorem cN.flat {g : Gh} {w : World} {l : Option Loc} {v : Value} {n : Nat} {xs : List D} (hn : 0 < n) (h : cN g w l v n xs) :
  ∃ news, dY g w news n xs ∧ (∀ w', (Builtin.lenOf v).run P w' = .ok xs.length w') ∧ ∀ w', Up w w' → (Builtin.firstCells n xs.length v).run P w' = .ok news w' := by
 rcases h with ⟨rfl, a, cap, rfl⟩ | ⟨k, off, cap, c, T, fz, us, rfl, hk, hb, hp, hw, hc, hr⟩
 ·refine ⟨#[], ⟨by simp, by simp, by simp⟩, fun _ => rfl, fun w' _ => ?_⟩
  cases a <;> simp [Builtin.firstCells, loadCells, loadCellsFrom]
 ·rcases Nat.eq_zero_or_pos xs.length with h0 | h0
  ·have : xs = [] := List.eq_nil_of_length_eq_zero h0
   subst this
   refine ⟨#[], ⟨by simp, by simp, by simp⟩, fun _ => rfl, fun w' _ => ?_⟩
   simp [Builtin.firstCells, loadCells, loadCellsFrom]
  have hs : off + xs.length * n ≤ c.size := by
   have hlt : xs.length - 1 < xs.length := by omega
   have hx : xs[xs.length - 1]? = some xs[xs.length - 1] := by simp [hlt]
   have hcl := hw _ _ hx
   obtain ⟨h1, -⟩ := hc _ _ hx (n - 1) (xs[xs.length - 1].cells[n - 1]'(by omega)) (by simp)
   have := gg h1
   have h2 : xs.length * n = (xs.length - 1) * n + n := by
    obtain ⟨m, hm⟩ : ∃ m, xs.length = m + 1 := ⟨xs.length - 1, by omega⟩
    rw [hm, Nat.add_sub_cancel, Nat.succ_mul]
   omega
  refine ⟨c.extract off (off + xs.length * n), ⟨?_, hw, fun i x hx j y hy => ?_⟩, fun _ => rfl, fun w' hw' => ?_⟩
  ·simp [Nat.min_eq_left hs]
  ·refine ⟨us i j, ?_, hr i x hx j y hy, (hc i x hx j y hy).2⟩
   have hi := aD hx
   have hj : j < n := by rw [← hw i x hx]; exact aD hy
   have hlt : i * n + j < xs.length * n := by
    have : (i + 1) * n ≤ xs.length * n := Nat.mul_le_mul_right n hi
    rw [Nat.succ_mul] at this
    omega
   rw [Array.getElem?_extract, if_pos (by omega), ← Nat.add_assoc]
   exact (hc i x hx j y hy).1
  ·simp only [Builtin.firstCells]
   exact fY (P := P) (hw' _ _ hb) hs
def eu (l : List UInt8) : List D := l.map fun b => .int .u8 b.toNat
theorem xf {g : Gh} {w : World} {l : List UInt8} :
  ∃ news, dY g w news 1 (eu l) ∧ (∀ w', (Builtin.lenOf (.string (mk l))).run P w' = .ok (eu l).length w') ∧ ∀ w', (Builtin.firstCells 1 (eu l).length (.string (mk l))).run P w' = .ok news w' := by
 refine ⟨(l.map fun b => Value.int .u8 b.toNat).toArray, ⟨by simp [eu], fun i x hx => ?_, fun i x hx j y hy => ?_⟩, fun w' => ?_, fun w' => ?_⟩
 ·simp only [eu, List.getElem?_map, Option.map_eq_some_iff] at hx
  obtain ⟨b, -, rfl⟩ := hx; rfl
 ·simp only [eu, List.getElem?_map, Option.map_eq_some_iff] at hx
  obtain ⟨b, hb, rfl⟩ := hx
  cases j with
  | zero => simp [D.cells] at hy; subst hy; exact ⟨.int .u8 b.toNat, by simp [hb], .int, rfl⟩
  | succ j => simp [D.cells] at hy
 ·simp [Builtin.lenOf, eu, jv]
 ·simp only [Builtin.firstCells, eu, List.length_map, Sem.run_pure]
  congr 1
  apply Array.ext'
  simp [mk, ByteArray.data_extract]
theorem tN {T T2 e : TypeId} {ty : TypeId} {i : TypeInfo} {z v x : Value} {base : Option Addr} {sLen sCap m : Nat} {w : World} {news olds : Array Value} (hv : v = .slice base sLen sCap)
  (ht : P.underlying T = some (.slice e)) (hi : P.info? e = some i) (hz : i.zero = some z) (h2 : ∃ d, P.underlying T2 = some d ∧ ∀ k, d ≠ .int k)
  (hlen : ∀ w', (Builtin.lenOf x).run P w' = .ok m w') (iQ : ∀ w', Up w w' → (Builtin.firstCells i.size m x).run P w' = .ok news w') (hold : ∀ w', Up w w' → (Builtin.firstCells i.size sLen v).run P w' = .ok olds w')
  (h63 : sLen + m ≤ maxLen) (hb : (sLen + m) * i.bytes ≤ 140737488355328) :
  (sLen + m ≤ sCap → (Builtin.append_ #[T, T2] ty #[v, x]).run P w = ((match base with | some a => storeCells (a.add (sLen * i.size)) news.toList | none => pure ()).run P w).andThen fun _ w' => .ok (.slice base (sLen + m) sCap) w') ∧
  (sCap < sLen + m → (Builtin.append_ #[T, T2] ty #[v, x]).run P w = .ok (.slice (some ⟨w.heap.size, 0, none⟩) (sLen + m) (grownCap w (sLen + m) sCap e))
   (w.drew.alloc (.cells (olds ++ news ++ Builtin.zeroCells z.cells (grownCap w (sLen + m) sCap e - (sLen + m))) e))) := by
 subst hv
 obtain ⟨d, hd, hd2⟩ := h2
 have hzeros : (match d with | .int _ => true | _ => false) = false := by cases d <;> simp at hd2 ⊢
 have h63' : ¬ ((9223372036854775807 : Int) < (sLen : Int) + (m : Int)) := by unfold maxLen at h63; omega
 constructor
 ·intro hc
  cases base with
  | some a => simp [Builtin.append_, run_underlying ht, run_underlying hd, sizeOf, typeInfo, hi, hlen, hzeros, hc, iQ w (Up.refl w)]
  | none => simp [Builtin.append_, run_underlying ht, run_underlying hd, sizeOf, typeInfo, hi, hlen, hzeros, hc, iQ w (Up.refl w)]
 ·intro hc
  have hn : ¬ (sLen + m ≤ sCap) := by omega
  have h48 : ¬ (281474976710656 < Builtin.nextslicecap (sLen + m) sCap * i.bytes) := by have := growslice_fits hc hb; omega
  have hup : Up w w.drew := fun _ _ h => h
  simp [Builtin.append_, run_underlying ht, run_underlying hd, sizeOf, typeInfo, zeroValue, hi, hz, hlen, hzeros, hn, h63', h48, Question.forced, iQ w.drew hup, hold w.drew hup, newRow, grownCap]
theorem Rel.replace {a : Act} {w w' : World} {g g' : Gh} (hr : Rel st a w g) {s d : Nat} {sv : SV} {v' : Value} (hk : ∀ o, o ≠ .lst (.slot s) → az o g w g' w') (hρ : g'.ρ = g.ρ)
  (hres : ∀ tm val, RS g' w' tm val d v' sv) : Rel ((st.take s).put (some d) sv) (a.put (some d) v') w' g' := by
 refine Rel.step hr (by rw [cm, St.eg, St.iU]; exact hr.len) (by rw [put_defers]; exact hr.cH) (fun _ _ h => by rw [hρ]; exact h) (fun t s' hs' => ?_) ?_
 ·by_cases ht : t = d
  ·subst ht
   obtain ⟨rfl, hlt⟩ := St.bU hs'
   refine .inr (.inl ?_)
   rw [bb (by rw [hr.len]; simpa using hlt)]
   exact hres _ _
  ·rcases ia hr (st1 := st.take s) v' (fun t s h => (St.dL h).imp id fun h => h.1) (fun t s x h s1 e hx hb => St.lT h s1 e hx hb) (by simpa using Ne.symm ht) hs' with h | ⟨h1, h2, h3, h4, h5⟩
   ·exact .inl h
   ·rcases St.dL h1 with h | ⟨-, h6, h7⟩
    ·exact .inl h
    ·exact .inr (.inr ⟨h2, h3, fun o' ho' => hk o' (gT h6 h7 ho').2.1, h5⟩)
 ·rw [St.nD, St.ue]
  refine hr.hp.aG (fun o' ho' => hk o' fun e => ?_) (fun _ _ h => by rw [hρ]; exact h) (by rw [hρ])
  subst e; exact ho'.elim
theorem Rel.Ao {a : Act} {w w' : World} {g g' : Gh} (hr : Rel st a w g) {d : Nat} {sv : SV} {v' : Value} (hk : ∀ o, az o g w g' w') (hρ : g'.ρ = g.ρ)
  (hres : ∀ tm val, RS g' w' tm val d v' sv) : Rel (st.put (some d) sv) (a.put (some d) v') w' g' := by
 refine Rel.step hr (by rw [cm, St.eg]; exact hr.len) (by rw [put_defers]; exact hr.cH) (fun _ _ h => by rw [hρ]; exact h) (fun t s' hs' => ?_) ?_
 ·by_cases ht : t = d
  ·subst ht
   obtain ⟨rfl, hlt⟩ := St.bU hs'
   refine .inr (.inl ?_)
   rw [bb (by rw [hr.len]; exact hlt)]
   exact hres _ _
  ·rcases ia hr (st1 := st) v' (fun t s h => .inr h) (fun t s x h s1 e hx hb => ⟨x, hx, rfl⟩) (by simpa using Ne.symm ht) hs' with h | ⟨h1, h2, h3, h4, h5⟩
   ·exact .inl h
   ·exact .inr (.inr ⟨h2, h3, fun o' ho' => hk o', h5⟩)
 ·rw [St.nD]
  exact hr.hp.aG (fun o' ho' => hk o') (fun _ _ h => by rw [hρ]; exact h) (by rw [hρ])
theorem Fr.rR {g g' : Gh} {w w' : World} {l : Loc} (hl : ∀ i j, l ≠ .ai i j) (hs : w.heap.size ≤ w'.heap.size) (hk : ∀ o, o ≠ .lst l → az o g w g' w') (hρ : g'.ρ = g.ρ) (hos : cq w w' := by exact ⟨rfl, rfl⟩) : Fr pu g w g' w' :=
 Fr.of (fun o => o = .lst l) (by rintro _ rfl; exact ⟨by simp, by simp, by simp, fun i j e => hl i j (by cases e; rfl)⟩) hs hk hρ hos
theorem bA.new {g : Gh} {w w' : World} {o : Loc} {news rest : Array Value} {n m cap : Nat} {ys : List D} {e : TypeId} {k : Nat} (hfl : dY g w news n ys) (hb : w'.heap[k]? = some (.cells (news ++ rest) e (0, 0))) (ho : g'.ow k = .lst o)
  (hm : ys.length = m) (hcap : m ≤ cap) (hrest : rest.size = (cap - m) * n) (hk : az .free g w g' w') (hρ : ck g g') : bA g' w' o (.slice (some ⟨k, 0, none⟩) m cap) n ys := by
 obtain ⟨h1, h2, h3⟩ := hfl
 have : ∃ us : Nat → Nat → Value, ∀ (i : Nat) (x : D), ys[i]? = some x → ∀ (j : Nat) (y : D), x.cells[j]? = some y → news[i * n + j]? = some (us i j) ∧ Rd g w (us i j) y ∧ (us i j).oneCell' = true :=
  ⟨fun i j => news.getD (i * n + j) undef, fun i x hx j y hy => by
   obtain ⟨u, u1, u2, u3⟩ := h3 i x hx j y hy
   have : news.getD (i * n + j) undef = u := by simp [Array.getD_eq_getD_getElem?, u1]
   simp only [this]; exact ⟨u1, u2, u3⟩⟩
 obtain ⟨us, hus⟩ := this
 subst hm
 refine .inr ⟨k, 0, cap, news ++ rest, e, us, rfl, ho, hb, hcap, ?_, h2, fun i x hx j y hy => ?_, fun i x hx j y hy => (hus i x hx j y hy).2.1.aG hk hρ⟩
 ·rw [Array.size_append, h1, hrest, ← Nat.add_mul, Nat.zero_add]
  exact Nat.le_of_eq (by congr 1; omega)
 ·obtain ⟨u1, u2, u3⟩ := hus i x hx j y hy
  refine ⟨?_, u3⟩
  rw [Nat.zero_add, Array.getElem?_append_left (gg u1)]
  exact u1
theorem dY.append {g : Gh} {w : World} {a b : Array Value} {n : Nat} {xs ys : List D} (h1 : dY g w a n xs) (h2 : dY g w b n ys) : dY g w (a ++ b) n (xs ++ ys) := by
 refine ⟨by rw [Array.size_append, h1.1, h2.1, List.length_append, Nat.add_mul], fun i x hx => ?_, fun i x hx j y hy => ?_⟩
 ·by_cases hi : i < xs.length
  ·rw [List.getElem?_append_left hi] at hx; exact h1.2.1 i x hx
  ·rw [List.getElem?_append_right (by omega)] at hx; exact h2.2.1 _ x hx
 ·by_cases hi : i < xs.length
  ·rw [List.getElem?_append_left hi] at hx
   obtain ⟨u, u1, u2⟩ := h1.2.2 i x hx j y hy
   exact ⟨u, by rw [Array.getElem?_append_left (gg u1)]; exact u1, u2⟩
  ·rw [List.getElem?_append_right (by omega)] at hx
   obtain ⟨u, u1, u2⟩ := h2.2.2 _ x hx j y hy
   refine ⟨u, ?_, u2⟩
   have hge : xs.length * n ≤ i * n := Nat.mul_le_mul_right n (by omega)
   rw [Array.getElem?_append_right (by rw [h1.1]; omega), h1.1]
   rw [show i * n + j - xs.length * n = (i - xs.length) * n + j by rw [Nat.sub_mul]; omega]
   exact u1
def mX (P : Program) (T : TypeId) : Option (Nat × Nat) :=
 match P.underlying T with
 | some (.slice e) => match P.info? e with
  | some i => match i.zero with
   | some z => if (z.cells.size = i.size ∧ (jB z).isSome = true) ∧ 0 < i.size then some (i.size, i.bytes) else none
   | none => none
  | none => none
 | _ => none
def xC (P : Program) (T : TypeId) : Bool := match P.underlying T with | some (.int _) | none => false | _ => true
def vo (st : St) (x : Operand) : Option (Nat × List D) :=
 match bK st x with
 | some (.str l) => some (1, eu l)
 | _ => match gb st x with
  | some (_, n, xs) => some (n, xs)
  | none => none
theorem sF {a : Act} {w : World} {g : Gh} (hr : Rel st a w g) {x : Operand} {m n : Nat} {ys : List D} (hv : vo st x = some (m, ys)) (hn : 0 < n) (hm : m = n ∨ ys = []) :
  ∃ news, dY g w news n ys ∧ (∀ w', (Builtin.lenOf (a.eval x)).run P w' = .ok ys.length w') ∧ ∀ w', Up w w' → (Builtin.firstCells n ys.length (a.eval x)).run P w' = .ok news w' := by
 unfold vo at hv
 split at hv
 ·rename_i l hl
  cases hv
  rw [bG hr hl rfl]
  by_cases h1 : 1 = n
  ·subst h1
   obtain ⟨news, e1, e2, e3⟩ := xf (P := P) (g := g) (w := w) (l := l)
   exact ⟨news, e1, e2, fun w' _ => e3 w'⟩
  ·have h2 : eu l = [] := hm.resolve_left h1
   have : l = [] := by simpa [eu] using h2
   subst this
   refine ⟨#[], ⟨by simp [eu], by simp [eu], by simp [eu]⟩, fun w' => by simp [Builtin.lenOf, eu, jv], fun w' _ => ?_⟩
   simp [Builtin.firstCells, eu, mk, ByteArray.data_extract]
 ·split at hv
  ·rename_i l n' xs hl
   cases hv
   have hL := dr hr hl
   rcases hm with rfl | rfl
   ·exact hL.flat hn
   ·have hL' : cN g w l (a.eval x) n [] := by
     rcases hL with h | ⟨k, off, cap, c, T, fz, us, h1, h2, h3, h4, h5⟩
     ·exact .inl h
     ·exact .inl ⟨rfl, _, _, h1⟩
    exact hL'.flat hn
  ·cases hv
theorem bA.toFlat {g : Gh} {w : World} {o : Loc} {v : Value} {n : Nat} {xs : List D} (hn : 0 < n) (h : bA g w o v n xs) :
  ∃ olds base cap, v = .slice base xs.length cap ∧ dY g w olds n xs ∧ ∀ w', Up w w' → (Builtin.firstCells n xs.length v).run P w' = .ok olds w' := by
 obtain ⟨olds, e1, -, e3⟩ := (bA.iI h).flat (P := P) hn
 rcases h with ⟨rfl, a, rfl⟩ | ⟨k, off, cap, c, T, us, rfl, -⟩
 ·exact ⟨olds, _, _, rfl, e1, e3⟩
 ·exact ⟨olds, _, _, rfl, e1, e3⟩
theorem eQ {o : Oper} {c : Call} {a : Act} {w : World} {x y : Operand} {T T2 : TypeId} (hop : o.op = .call c) (hc : c.callee = .builtin .append) (ha : c.args.toList = [x, y]) (ht : c.argTypes.toList = [T, T2]) {v : Value} {w' : World}
  (h : (Builtin.append_ #[T, T2] o.type #[a.eval x, a.eval y]).run P w = .ok v w') : (execOp a.eval o).run P w = .ok (.value v) w' := by
 obtain ⟨callee, args, argTypes⟩ := c
 have ha2 : args = #[x, y] := by apply Array.ext'; simpa using ha
 have ht2 : argTypes = #[T, T2] := by apply Array.ext'; simpa using ht
 subst ha2 ht2
 simp only at hc
 subst hc
 unfold execOp
 rw [hop]
 simp only [resolve, List.map_toArray, List.map_cons, List.map_nil, Sem.run_bind, Sem.run_pure, Result.andThen_ok, invoke, builtin]
 simp [h]
theorem OpS.append {o : Oper} {c : Call} {s d : Nat} {y : Operand} {T T2 : TypeId} {n m b : Nat} {xs ys : List D} (hop : o.op = .call c) (hc : c.callee = .builtin .append) (ha : c.args.toList = [.tmp s, y]) (ht : c.argTypes.toList = [T, T2])
  (hd : o.dst = some d) (hs : st.tmps[s]? = some (.own n xs)) (hy : vo st y = some (m, ys)) (hT : mX P T = some (n, b)) (h2 : xC P T2 = true) (hm : m = n ∨ ys = [])
  (hlen : xs.length + ys.length ≤ maxLen) (hby : (xs.length + ys.length) * b ≤ 140737488355328) : OpS P pu st o ((st.take s).put (some d) (.own n (xs ++ ys))) := by
 refine OpS.value fun a w g hr => ?_
 unfold mX at hT
 split at hT
 ·rename_i e hu
  split at hT
  ·rename_i i hi
   split at hT
   ·rename_i z hz
    split at hT
    ·rename_i hsz
     obtain ⟨⟨hzs, -⟩, hn⟩ := hsz
     cases hT
     have h2' : ∃ dd, P.underlying T2 = some dd ∧ ∀ k, dd ≠ .int k := by
      unfold xC at h2
      cases hu2 : P.underlying T2 with
      | none => rw [hu2] at h2; simp at h2
      | some dd => exact ⟨dd, rfl, fun k e => by rw [hu2, e] at h2; simp at h2⟩
     have hO := hr.tmp s _ hs
     obtain ⟨news, n1, n2, n3⟩ := sF (P := P) hr hy hn hm
     obtain ⟨olds, base, cap, hv, o1, o2⟩ := bA.toFlat (P := P) hn (hO : bA g w (.slot s) (valOf a s) i.size xs)
     obtain ⟨room, grow⟩ := tN (P := P) (T := T) (T2 := T2) (ty := o.type) (v := valOf a s) (x := a.eval y) (w := w) hv hu hi hz h2' n2 n3 o2 hlen hby
     rw [hd]
     by_cases hroom : xs.length + ys.length ≤ cap
     ·-- it fits
      have hr1 := room hroom
      rcases hO with ⟨hx, a0, hva⟩ | ⟨k, off, cap', cc, T0, us, hva, hk, hb, hcap, hfit, hw, hcc, hrr⟩
      ·have hva' : valOf a s = .slice a0 0 0 := hva
       rw [hva'] at hv
       simp only [Value.slice.injEq] at hv
       obtain ⟨rfl, -, rfl⟩ := hv
       subst hx
       have hys : ys = [] := List.eq_nil_of_length_eq_zero (by simpa using hroom)
       subst hys
       have hnews : news = #[] := Array.eq_empty_of_size_eq_zero (by rw [n1.1]; simp)
       subst hnews
       refine ⟨.slice a0 0 0, w, g, eQ hop hc ha ht ?_, ?_, Fr.refl _ _ _⟩
       ·rw [pQ, hr1]
        cases a0 <;> simp [storeCells]
       ·exact hr.replace (fun _ _ => az.refl _ _ _) rfl (fun _ _ => .inl ⟨rfl, a0, rfl⟩)
      ·have hva' : valOf a s = .slice (some ⟨k, off, none⟩) xs.length cap' := hva
       rw [hva'] at hv
       simp only [Value.slice.injEq] at hv
       obtain ⟨rfl, -, rfl⟩ := hv
       have hmul : (xs.length + ys.length) * i.size ≤ cap' * i.size := Nat.mul_le_mul_right _ hroom
       rw [Nat.add_mul] at hmul
       obtain ⟨w', r1, r2, r3, c', r4, r5, r6⟩ := bx (P := P) k (off + xs.length * i.size) T0 news.toList 0 cc w hb (by simp [n1.1]; omega) n1.one
       have hkeep : ∀ o', o' ≠ .lst (.slot s) → az o' g w (g.ren (rnL (.slot s) (.slot d))) w' := fun o' ho' k' b' h1 h2 => by
        have : k' ≠ k := by rintro rfl; exact ho' (h1.symm.trans hk)
        refine ⟨by simp only [Gh.ren, h1]; exact cu ho', by rw [r3 k' this]; exact h2⟩
       refine ⟨.slice (some ⟨k, off, none⟩) (xs.length + ys.length) cap', w', g.ren (rnL (.slot s) (.slot d)), eQ hop hc ha ht ?_, ?_, Fr.rR (by simp) (by rw [r2]; exact Nat.le_refl _) hkeep rfl (bT (P := P) k (off + xs.length * i.size) T0 news.toList 0 cc w w' hb (by simp [n1.1]; omega) n1.one r1)⟩
       ·rw [pQ, hr1]
        simp only [Addr.add_lit, r1, Result.andThen_ok]
       ·refine hr.replace hkeep rfl fun _ _ => ?_
        have hkf : az .free g w (g.ren (rnL (.slot s) (.slot d))) w' := hkeep _ (by simp)
        have : ∃ us' : Nat → Nat → Value, ∀ (i' : Nat) (x : D), ys[i']? = some x → ∀ (j : Nat) (y : D), x.cells[j]? = some y → news[i' * i.size + j]? = some (us' i' j) ∧ Rd g w (us' i' j) y ∧ (us' i' j).oneCell' = true :=
         ⟨fun i' j => news.getD (i' * i.size + j) undef, fun i' x hx j y hy => by
          obtain ⟨u, u1, u2, u3⟩ := n1.2.2 i' x hx j y hy
          have : news.getD (i' * i.size + j) undef = u := by simp [Array.getD_eq_getD_getElem?, u1]
          simp only [this]; exact ⟨u1, u2, u3⟩⟩
        obtain ⟨us', hus'⟩ := this
        refine .inr ⟨k, off, cap', c', T0, fun i' j => if i' < xs.length then us i' j else us' (i' - xs.length) j, by rw [List.length_append], by simp [Gh.ren, hk, l7], r4, by simpa using hroom, by rw [r5]; exact hfit, fun i' x hx => ?_, fun i' x hx j y hy => ?_, fun i' x hx j y hy => ?_⟩
        ·by_cases h : i' < xs.length
         ·rw [List.getElem?_append_left h] at hx; exact hw i' x hx
         ·rw [List.getElem?_append_right (by omega)] at hx; exact n1.2.1 _ x hx
        ·by_cases h : i' < xs.length
         ·rw [List.getElem?_append_left h] at hx
          simp only [h, if_true]
          have hj : j < i.size := by rw [← hw i' x hx]; exact aD hy
          have hlt : i' * i.size + j < xs.length * i.size := by
           have : (i' + 1) * i.size ≤ xs.length * i.size := Nat.mul_le_mul_right _ h
           rw [Nat.succ_mul] at this
           omega
          rw [r6, if_neg (by omega)]
          exact hcc i' x hx j y hy
         ·rw [List.getElem?_append_right (by omega)] at hx
          simp only [h, if_false]
          obtain ⟨u1, u2, u3⟩ := hus' _ x hx j y hy
          have hlt := gg u1
          have hge : xs.length * i.size ≤ i' * i.size := Nat.mul_le_mul_right _ (by omega)
          have hsub : (i' - xs.length) * i.size = i' * i.size - xs.length * i.size := Nat.sub_mul _ _ _
          rw [r6, if_pos (by simp; omega)]
          rw [show off + i' * i.size + j - (off + xs.length * i.size + 0) = (i' - xs.length) * i.size + j by omega]
          exact ⟨by simpa using u1, u3⟩
        ·by_cases h : i' < xs.length
         ·rw [List.getElem?_append_left h] at hx
          simp only [h, if_true]
          exact (hrr i' x hx j y hy).aG hkf (fun _ _ h => h)
         ·rw [List.getElem?_append_right (by omega)] at hx
          simp only [h, if_false]
          exact (hus' _ x hx j y hy).2.1.aG hkf (fun _ _ h => h)
     ·-- a new row
      have hr2 := grow (by omega)
      have hge := grownCap_ge w (xs.length + ys.length) cap e
      generalize hgc : grownCap w (xs.length + ys.length) cap e = gc at hr2 hge
      have hkeep : ∀ o', o' ≠ .lst (.slot s) → az o' g w ((g.ren (rnL (.slot s) (.slot d))).upd w.heap.size (.lst (.slot d))) (w.drew.alloc (.cells (olds ++ news ++ Builtin.zeroCells z.cells (gc - (xs.length + ys.length))) e)) := fun o' ho' =>
       az.trans (az.ren (cu ho')) (az.alloc (w := w.drew))
      refine ⟨_, _, (g.ren (rnL (.slot s) (.slot d))).upd w.heap.size (.lst (.slot d)), eQ hop hc ha ht (by rw [pQ, hr2]), ?_, Fr.rR (by simp) (by simp) hkeep rfl⟩
      refine hr.replace hkeep rfl fun _ _ => ?_
      exact bA.new (dY.append o1 n1) (heap_alloc w.drew _) (by simp) (by simp) hge (by rw [size_zeroCells, hzs]) (hkeep _ (by simp)) (fun _ _ h => h)
    ·cases hT
   ·cases hT
  ·cases hT
 ·cases hT
end
end Go.Sh
namespace Go.Sh
section
variable {P : Program} {pu : Bool} {st : St}
theorem Ak (s : Sem Value) {w w' : World} {v : Value} (h : s.run P w = .ok v w') : (do pure (.value (← s)) : Sem Next).run P w = .ok (.value v) w' := by
 simp [h]
def ei (ds : List (Nat × D)) : List D := (ds.map fun p => p.2.cells).flatten
def ki (n : Nat) (k : Nat) : List (Nat × D) → Bool
 | [] => true
 | (i, x) :: r => i == k && x.cells.length == n && ki n (k + 1) r
theorem ld {n : Nat} : ∀ {k : Nat} {ds : List (Nat × D)}, ki n k ds = true → (ei ds).length = ds.length * n
 | k, [], _ => by simp [ei]
 | k, (i, x) :: r, h => by
  simp only [ki, Bool.and_eq_true, beq_iff_eq] at h
  have ih := ld h.2
  simp only [ei, List.map_cons, List.flatten_cons, List.length_append, List.length_cons] at ih ⊢
  rw [ih, h.1.2, Nat.succ_mul]; omega
theorem rb {n : Nat} (hn : 0 < n) : ∀ {ds : List (Nat × D)} {k : Nat} {done zs : List D}, ki n k ds = true → done.length = k * n → zs.length = ds.length * n →
  nP (fun i => some (i * n, n)) (done ++ zs) ds = some (done ++ ei ds)
 | [], k, done, zs, _, _, hz => by
  have : zs = [] := List.eq_nil_of_length_eq_zero (by simpa using hz)
  subst this
  simp [nP, ei]
 | (i, x) :: r, k, done, zs, h, hd, hz => by
  simp only [ki, Bool.and_eq_true, beq_iff_eq] at h
  obtain ⟨⟨rfl, hx⟩, hr⟩ := h
  simp only [List.length_cons, Nat.succ_mul] at hz
  simp only [nP]
  rw [if_neg (by simp [hx, hd]; omega)]
  have e1 : List.take (i * n) (done ++ zs) = done := by rw [← hd]; exact List.take_left
  have e2 : List.drop (i * n + n) (done ++ zs) = zs.drop n := by
   rw [← hd, List.drop_append]
   simp
  rw [e1, e2, rb hn hr (by simp [hd, hx, Nat.succ_mul]) (by simp; omega)]
  simp [ei]
theorem lg {n : Nat} : ∀ {ds : List (Nat × D)} {k : Nat}, ki n k ds = true → ∀ (i : Nat) (x : D), (ds.map (·.2))[i]? = some x → ∀ (j : Nat) (y : D), x.cells[j]? = some y → (ei ds)[i * n + j]? = some y
 | [], k, _, i, x, hx, _, _, _ => by simp at hx
 | (i0, x0) :: r, k, h, i, x, hx, j, y, hy => by
  simp only [ki, Bool.and_eq_true, beq_iff_eq] at h
  simp only [ei, List.map_cons, List.flatten_cons]
  cases i with
  | zero =>
   simp only [List.map_cons, List.getElem?_cons_zero, Option.some.injEq] at hx
   subst hx
   rw [Nat.zero_mul, Nat.zero_add, List.getElem?_append_left (aD hy)]
   exact hy
  | succ i =>
   simp only [List.map_cons, List.getElem?_cons_succ] at hx
   rw [List.getElem?_append_right (by rw [h.1.2, Nat.succ_mul]; omega), h.1.2, Nat.succ_mul]
   rw [show i * n + n + j - n = i * n + j by omega]
   exact lg h.2 i x hx j y hy
theorem nH {n : Nat} : ∀ {ds : List (Nat × D)} {k : Nat}, ki n k ds = true → ∀ (i : Nat) (x : D), (ds.map (·.2))[i]? = some x → x.cells.length = n
 | [], k, _, i, x, hx => by simp at hx
 | (i0, x0) :: r, k, h, i, x, hx => by
  simp only [ki, Bool.and_eq_true, beq_iff_eq] at h
  cases i with
  | zero => simp at hx; subst hx; exact h.1.2
  | succ i => exact nH h.2 i x (by simpa using hx)
theorem OpS.buildSlice {o : Oper} {T : TypeId} {len d n b : Nat} {parts : Array (Nat × Operand)} {ds : List (Nat × D)} (hop : o.op = .buildSlice T len parts) (hd : o.dst = some d) (hT : mX P T = some (n, b))
  (hp : lI st parts.toList = some ds) (hl : ds.length = len) (hok : ki n 0 ds = true) (hsz : len * n ≤ 16777216) : OpS P pu st o (st.put (some d) (.own n (ds.map (·.2)))) := by
 refine OpS.value fun a w g hr => ?_
 unfold mX at hT
 split at hT
 ·rename_i e hu
  split at hT
  ·rename_i i hi
   split at hT
   ·rename_i z hz
    split at hT
    ·rename_i hs
     obtain ⟨⟨hzs, hzd⟩, hn⟩ := hs
     cases hT
     obtain ⟨hpl, hpr⟩ := js hr hp
     -- the cells ahead of the parts: any that read
     have hfill : ∃ cells', Instr.fill (fun k => some (k * i.size, i.size)) ((Array.range (len * i.size)).map fun k => z.cells[k % z.cells.size]!) (parts.map fun (k, x) => (k, a.eval x)).toList = some cells' ∧ fN g w cells' (ei ds) := by
      obtain ⟨zd, hzd⟩ := Option.isSome_iff_exists.1 hzd
      have hzr := (kY (g := g) (w := w) hzd).cells
      have hinit : fN g w ((Array.range (len * i.size)).map fun k => z.cells[k % z.cells.size]!) ((List.range (len * i.size)).map fun k => zd.cells.getD (k % i.size) .bW) := by
       refine ⟨by simp, fun j y hj => ?_⟩
       simp only [List.getElem?_map, Option.map_eq_some_iff] at hj
       obtain ⟨j', hj', rfl⟩ := hj
       have hjj : j' = j := by
        rw [List.getElem?_range (by have := aD hj'; simpa using this)] at hj'
        exact (Option.some.inj hj').symm
       subst hjj
       have hjl : j' < len * i.size := by have := aD hj'; simpa using this
       have hm : j' % i.size < zd.cells.length := by rw [← hzr.1, hzs]; exact Nat.mod_lt _ hn
       obtain ⟨u, u1, u2, u3⟩ := hzr.2 (j' % i.size) zd.cells[j' % i.size] (by simp [hm])
       refine ⟨u, ?_, by simpa [List.getD, hm] using u2, u3⟩
       simp only [Array.getElem?_map, Array.getElem?_range, hjl, if_true, Option.map_some, hzs, Option.some.injEq]
       rw [getElem!_def, u1]
      have hfd := rb (n := i.size) hn (ds := ds) (k := 0) (done := []) (zs := (List.range (len * i.size)).map fun k => zd.cells.getD (k % i.size) .bW) hok (by simp) (by simp [hl])
      simp only [List.nil_append] at hfd
      exact jA (fun _ => rfl) ds _ _ _ _ hinit (by simpa using hpl) (fun j p hj => by
       obtain ⟨o, e1, e2⟩ := hpr j p hj
       exact ⟨a.eval o, by simp only [Array.toList_map, List.getElem?_map, e1, Option.map_some], e2⟩) hfd
     obtain ⟨cells', f1, f2⟩ := hfill
     rw [hd]
     have hkeep : ∀ o', az o' g w (g.upd w.heap.size (.lst (.slot d))) (w.alloc (.cells cells' e)) := fun o' => az.alloc
     refine ⟨.slice (some ⟨w.heap.size, 0, none⟩) len len, w.alloc (.cells cells' e), g.upd w.heap.size (.lst (.slot d)), ?_, ?_, Fr.of (fun _ => False) (by simp) (by simp) (fun o _ => hkeep o) rfl⟩
     ·have hex : execOp a.eval o = (do pure (.value (← Instr.buildSlice T len (parts.map fun (i, x) => (i, a.eval x)))) : Sem Next) := by unfold execOp; rw [hop]
      rw [hex]
      refine Ak _ ?_
      have hsize : (sizeOf e).run P w = .ok i.size w := by simp [sizeOf, typeInfo, hi]
      have hzero : (zeroValue e).run P w = .ok z w := by simp [zeroValue, typeInfo, hi, hz]
      simp only [Instr.buildSlice, Sem.run_bind, run_underlying hu, Result.andThen_ok, hsize]
      rw [if_neg (by simpa using hsz)]
      by_cases h0 : len * i.size = 0
      ·have hlen0 : len = 0 := by
        rcases Nat.mul_eq_zero.1 h0 with h | h
        ·exact h
        ·omega
       subst hlen0
       have hp0 : parts = #[] := by
        apply Array.ext'
        exact List.eq_nil_of_length_eq_zero (by omega)
       subst hp0
       have hc0 : cells' = #[] := by
        simp [Instr.fill] at f1
        rw [← f1]; exact Array.ext' (by simp)
       subst hc0
       have hr0 : (Array.range 0).map (fun k => (#[] : Array Value)[k % (#[] : Array Value).size]!) = #[] := Array.ext' (by simp)
       simp [Instr.fill, newRow]
       congr 2
      ·simp only [h0, if_false, Sem.run_bind, hzero, Result.andThen_ok, Sem.run_pure]
       have f1' : Instr.fill (fun k => some (k * i.size, i.size)) ((Array.range (len * i.size)).map fun k => z.cells[k % z.cells.size]!) (List.map (fun x => (x.fst, a.eval x.snd)) parts.toList) = some cells' := by
        rw [← f1]
        congr 1
        simp
       simp [f1', newRow]
     ·refine hr.Ao hkeep rfl fun _ _ => ?_
      have hflat : dY g w cells' i.size (ds.map (·.2)) := by
       refine ⟨by rw [f2.1, ld hok]; simp, fun k x hx => nH hok k x hx, fun k x hx j y hy => ?_⟩
       exact f2.2 _ y (lg hok k x hx j y hy)
      have := bA.new (rest := #[]) (m := len) (cap := len) (o := .slot d) hflat (w' := w.alloc (.cells cells' e)) (g' := g.upd w.heap.size (.lst (.slot d))) (e := e) (k := w.heap.size) (by rw [Array.append_empty]; exact heap_alloc _ _) (by simp) (by simpa using hl) (Nat.le_refl _) (by simp) (hkeep _) (fun _ _ h => h)
      exact this
    ·cases hT
   ·cases hT
  ·cases hT
 ·cases hT
end
end Go.Sh
namespace Go.Sh
section
variable {P : Program} {pu : Bool} {st : St}
def bQ (P : Program) (st : St) (o : Oper) (s : SV) : Prop :=
 ∀ a w g, Rel st a w g → ∃ v, BV g w st a v s ∧ ∀ w', Up w w' → (execOp a.eval o).run P w' = .ok (.value v) w'
theorem bQ.fH {o : Oper} {s : SV} (h : bop P st o = some s) : bQ P st o s := fun _ _ _ hr => rk hr h
theorem bQ.eq {o : Oper} {s s' : SV} (h : bQ P st o s) (e : s = s') : bQ P st o s' := e ▸ h
theorem bQ.indexAddr {o : Oper} {T : TypeId} {x i : Operand} {l : Option Loc} {n : Nat} {xs : List D} {k : IntKind} {j : Int} {y : D} (hop : o.op = .indexAddr T x i) (hl : gb st x = some (l, n, xs)) (hi : gM st i = some (k, j))
  (hn : (n != 0 && n == er P T && (arrayOf P T).isNone) = true) (h0 : 0 ≤ j) (hy : xs[j.toNat]? = some y) : bQ P st o (aO l y.cells) := by
 simp only [Bool.and_eq_true, bne_iff_ne, beq_iff_eq, Option.isNone_iff_eq_none] at hn
 refine bQ.fH ?_
 simp only [bop, hop, iG, hi, hn.2, hl]
 rw [if_pos ⟨hn.1.1, hn.1.2, h0⟩, hy]
 rfl
theorem bQ.index {o : Oper} {T : TypeId} {x i : Operand} {l : List UInt8} {k : IntKind} {j : Int} {b : UInt8} (hop : o.op = .index T x i) (hl : bK st x = some (.str l)) (hi : gM st i = some (k, j)) (hT : kr P T = true) (h0 : 0 ≤ j) (hy : l[j.toNat]? = some b) :
  bQ P st o (.d (.int .u8 b.toNat)) := by
 refine bQ.fH ?_
 simp only [bop, hop, oG, hl, hi]
 rw [if_pos ⟨hT, h0⟩, hy]
 rfl
theorem bQ.slice {o : Oper} {T : TypeId} {x : Operand} {lo hi : Option Operand} {l : Option Loc} {n i j : Nat} {xs : List D} (hop : o.op = .slice T x lo hi none) (hx : (match bK st x with | some (.str _) => false | _ => true) = true)
  (hl : gb st x = some (l, n, xs)) (hi' : bnd st 0 lo = some i) (hj' : bnd st xs.length hi = some j) (hn : (er P T != 0 && n == er P T) = true) (hij : i ≤ j) (hj : j ≤ xs.length) : bQ P st o (kj l n ((xs.take j).drop i)) := by
 simp only [Bool.and_eq_true, bne_iff_ne, beq_iff_eq] at hn
 refine bQ.fH ?_
 simp only [bop, hop, oD, Option.isSome_none, Bool.false_eq_true, if_false]
 cases hv : bK st x with
 | none =>
  simp only [hl, hi', hj']
  rw [if_pos ⟨hn.1, .inl hn.2, hij, hj⟩]
 | some d =>
  rw [hv] at hx
  cases d with
  | str l' => cases hx
  | _ =>
   simp only [hl, hi', hj']
   rw [if_pos ⟨hn.1, .inl hn.2, hij, hj⟩]
def rnC (s d : Nat) : Own → Own
 | .lst (.comp t j) => if t = s then .lst (.comp d j) else .lst (.comp t j)
 | o => o
theorem OpS.zg {o : Oper} {s d : Nat} {vs : List SV} (hop : o.op = .move (.tmp s)) (hs : st.tmps[s]? = some (.tup vs)) (hd : o.dst = some d) (hv : vs ≠ []) : OpS P pu st o ((st.take s).put (some d) (.tup vs)) := by
 refine OpS.value fun a w g hr => ?_
 have hexec : (execOp a.eval o).run P w = .ok (.value (valOf a s)) w := by unfold execOp; rw [hop]; rfl
 have hother : ∀ o', (∀ j, o' ≠ .lst (.comp s j)) → rnC s d o' = o' := fun o' h => by
  unfold rnC
  split
  ·rename_i t j
   split
   ·rename_i e; subst e; exact absurd rfl (h j)
   ·rfl
  ·rfl
 rw [hd]
 refine ⟨_, w, g.ren (rnC s d), hexec, ?_, ⟨Nat.le_refl _, az.ren rfl, az.ren rfl, fun _ _ h => h, fun _ i => az.ren rfl, fun _ i j => az.ren rfl, fun _ => rfl, ⟨rfl, rfl⟩⟩⟩
 refine Rel.step hr (by rw [cm, St.eg, St.iU]; exact hr.len) (by rw [put_defers]; exact hr.cH) (fun _ _ h => h) (fun t s' hs' => ?_) ?_
 ·by_cases ht : t = d
  ·subst ht
   obtain ⟨rfl, hlt⟩ := St.bU hs'
   refine .inr (.inl ?_)
   rw [bb (by rw [hr.len]; simpa using hlt)]
   obtain ⟨us, e1, e2, e3⟩ := hr.tmp s _ hs
   refine ⟨us, e1, e2, fun j s' hj => ?_⟩
   obtain ⟨u, f1, f2⟩ := e3 j s' hj
   refine ⟨u, f1, ?_⟩
   cases s' with
   | d x => exact Rd.aG (az.ren rfl) (fun _ _ h => h) f2
   | own n xs => exact bA.ren rfl (by simp [rnC]) f2
   | undef => trivial
   | _ => exact f2.elim
  ·rcases ia hr (st1 := st.take s) (valOf a s) (fun t s h => (St.dL h).imp id fun h => h.1) (fun t s x h s1 e hx hb => St.lT h s1 e hx hb) (by simpa using Ne.symm ht) hs' with h | ⟨h1, h2, h3, h4, h5⟩
   ·exact .inl h
   ·rcases St.dL h1 with h | ⟨-, h6, h7⟩
    ·exact .inl h
    ·exact .inr (.inr ⟨h2, h3, fun o' ho' => az.ren (hother o' (gT h6 h7 ho').2.2.2), h5⟩)
 ·rw [St.nD, St.ue]
  refine RH.aG (g := g) (w := w) (fun o' ho' => az.ren (hother o' fun j e => ?_)) (fun _ _ h => h) rfl hr.hp
  subst e
  exact ho'.elim
def xV (P : Program) (bP : List Nat) (st : St) (o : Oper) : Option St :=
 match o.op with
 | .move (.tmp s) => match st.tmps[s]? with
  | some (.own n xs) => if (o.dst.map fun d => bP.contains d) = some true then some ((st.take s).put o.dst (.own n xs)) else none
  | some (.tup (v :: vs)) => match o.dst with | some d => some ((st.take s).put (some d) (.tup (v :: vs))) | none => none
  | _ => none
 | .assign (.tmp s) => match st.tmps[s]? with
  | some (.own n xs) => some ((st.take s).put o.dst (.own n xs))
  | _ => none
 | .extract (.tmp s) j => match st.tmps[s]? with
  | some (.tup vs) => match vs[j]? with
   | some (.own n xs) => if o.dst ≠ some s then some (((st.kill s).set s (.tup (vs.set j .undef))).put o.dst (.own n xs)) else none
   | _ => none
  | _ => none
 | .alloc T => match o.dst, zeroCells P T with
  | some d, some cs => some (st.put (some d) (.box (cs.map .d)))
  | _, _ => none
 | .box _ x => match o.dst, bK st x with
  | some d, some y => some (st.put (some d) (.box (y.cells.map .d)))
  | _, _ => none
 | .store T x y => if o.dst = none then o0 P st T x y else none
 | .buildSlice T len parts => match o.dst, mX P T, lI st parts.toList with
  | some d, some (n, _), some ds => if ds.length = len ∧ ki n 0 ds = true ∧ len * n ≤ 16777216 then some (st.put (some d) (.own n (ds.map (·.2)))) else none
  | _, _, _ => none
 | _ => none
theorem tt {bP : List Nat} {o : Oper} {st' : St} (h : xV P bP st o = some st') : OpS P pu st o st' := by
 unfold xV at h
 split at h
 ·rename_i s hop
  split at h
  ·rename_i n xs hs
   split at h
   ·cases h; exact OpS.move (.inl hop) hs
   ·cases h
  ·rename_i v vs hs
   split at h
   ·rename_i d hd; cases h; exact OpS.zg hop hs hd (by simp)
   ·cases h
  ·cases h
 ·rename_i s hop
  split at h
  ·rename_i n xs hs; cases h; exact OpS.move (.inr hop) hs
  ·cases h
 ·rename_i s j hop
  split at h
  ·rename_i vs hs
   split at h
   ·rename_i n xs hj
    split at h
    ·rename_i hd; cases h; exact OpS.extract hop hs hj hd
    ·cases h
   ·cases h
  ·cases h
 ·rename_i T hop
  split at h
  ·rename_i d cs hd hz; cases h; exact OpS.alloc hop hd hz
  ·cases h
 ·rename_i T x hop
  split at h
  ·rename_i d y hd hy; cases h; exact OpS.box hop hd hy
  ·cases h
 ·rename_i T x y hop
  split at h
  ·rename_i hd; exact OpS.store hop hd h
  ·cases h
 ·rename_i T len parts hop
  split at h
  ·rename_i d n b ds hd hT hp
   split at h
   ·rename_i hc; cases h; exact OpS.buildSlice hop hd hT hp hc.1 hc.2.1 hc.2.2
   ·cases h
  ·cases h
 ·cases h
def xx (P : Program) (bP : List Nat) (ops : Array Oper) (st : St) (o : Oper) : Option St :=
 match cV ops st o with
 | some false => some (st.put o.dst (.tup []))
 | some true => match xV P bP st o with
  | some st' => some st'
  | none => match bop P st o with
   | some s => if fP o.dst s then some (st.put o.dst s) else none
   | none => none
 | none => none
def fB (P : Program) (bP : List Nat) (ops : Array Oper) : Nat → Nat → St → Option St
 | 0, _, st => some st
 | n + 1, k, st => match ops[k]? with
  | some o => match xx P bP ops st o with
   | some st' => fB P bP ops n (k + 1) st'
   | none => none
  | none => none
def OWk (P : Program) (pu : Bool) (ops : Array Oper) (k : Nat) (st : St) (Q : St → Prop) : Prop := OW P pu ops (ops.toList.drop k) st Q
variable {ops : Array Oper} {Q : St → Prop} {k : Nat}
theorem drop_cons {o : Oper} (h : ops[k]? = some o) : ops.toList.drop k = o :: ops.toList.drop (k + 1) := by
 have hlt := gg h
 rw [List.drop_eq_getElem_cons (by simpa using hlt)]
 congr 1
 rw [Array.getElem?_eq_getElem hlt] at h
 simpa using h
theorem OWk.fin (h : (ops.size ≤ k) = True) (hq : Q st) : OWk P pu ops k st Q := by
 have h : ops.size ≤ k := of_eq_true h
 unfold OWk
 rw [List.drop_of_length_le (by simpa using h)]
 exact OW.nil hq
theorem OWk.b {o : Oper} {s : SV} {st' : St} (ho : ops[k]? = some o) (hw : cV ops st o = some true) (hb : bQ P st o s) (hl : fP o.dst s = true) (hst : st.put o.dst s = st') (h : OWk P pu ops (k + 1) st' Q) : OWk P pu ops k st Q := by
 subst hst
 unfold OWk at h ⊢
 rw [drop_cons ho]
 intro a w g hr Qc hq
 unfold wpList
 rw [aN hr hw, if_pos rfl]
 refine .inl ?_
 obtain ⟨v, e1, e2⟩ := hb a w g hr
 unfold Oper.wp
 rw [e2 w (Up.refl w), Oper.upon_value]
 exact h _ w g (hr.pf e1 hl) Qc hq
theorem OWk.e {o : Oper} {st' : St} (ho : ops[k]? = some o) (hw : cV ops st o = some true) (he : OpS P pu st o st') (h : OWk P pu ops (k + 1) st' Q) : OWk P pu ops k st Q := by
 unfold OWk at h ⊢
 rw [drop_cons ho]
 exact OW.op hw he h
theorem OWk.seg {bP : List Nat} {st' : St} (n : Nat) (hr : fB P bP ops n k st = some st') (h : OWk P pu ops (k + n) st' Q) : OWk P pu ops k st Q := by
 induction n generalizing k st with
 | zero => cases hr; exact h
 | succ n ih =>
  simp only [fB] at hr
  split at hr
  ·rename_i o ho
   split at hr
   ·rename_i st1 h1
    have ih' := ih hr (by rw [show k + 1 + n = k + (n + 1) by omega]; exact h)
    unfold xx at h1
    split at h1
    ·rename_i hw
     cases h1
     unfold OWk at ih' ⊢
     rw [drop_cons ho]
     exact OW.skip hw ih'
    ·rename_i hw
     split at h1
     ·rename_i st2 h2
      cases h1
      exact OWk.e ho hw (tt h2) ih'
     ·split at h1
      ·rename_i s hb
       split at h1
       ·rename_i hl
        cases h1
        exact OWk.b ho hw (bQ.fH hb) hl rfl ih'
       ·cases h1
      ·cases h1
    ·cases h1
   ·cases hr
  ·cases hr
theorem OWk.call {o : Oper} {c : Call} (tr : List Nat) {cs : tV} {f : FuncId} {args : List SV} {ls : List Loc} {gs : List (Nat × Nat)} {r : SV} {st' : St} (ho : ops[k]? = some o) (hw : cV ops st o = some true) (hop : o.op = .call c)
  (hc : jH P st tr c = some ⟨f, args, ls, gs⟩) (hp : PC P f args r) (hr : m6 r = true) (hlend : (ls.isEmpty || jz r) = true) (hst : (st.fp gs).put o.dst r = st') (h : OWk P pu ops (k + 1) st' Q) : OWk P pu ops k st Q := by
 subst hst
 unfold OWk at h ⊢
 rw [drop_cons ho]
 exact OW.call tr hw hop hc hp hr (by simpa using hlend) h
theorem SW.au {id : Nat} {Q : Exit → St → Prop} (h : OWk P pu ops 0 st (Q .normal)) : SW P pu (.region id ops false) st Q :=
 fun a w g hr => wp_region_list (h a w g hr _ fun st' _ _ g' q r f => ⟨st', g', q, r, f⟩)
theorem Rel.drew {a : Act} {w : World} {g : Gh} (h : Rel st a w g) : Rel st a w.drew g := h.world (fun _ _ _ h1 h2 => ⟨h1, h2⟩) (fun _ _ h => h) rfl
theorem Fr.drew {g : Gh} {w : World} : Fr pu g w g w.drew := ⟨Nat.le_refl _, fun _ _ h1 h2 => ⟨h1, h2⟩, fun _ _ h1 h2 => ⟨h1, h2⟩, fun _ _ h => h, fun _ _ _ _ h1 h2 => ⟨h1, h2⟩, fun _ _ _ _ _ h1 h2 => ⟨h1, h2⟩, fun _ => rfl, ⟨rfl, rfl⟩⟩
def OB (P : Program) (ops : Array Oper) (l : List Oper) (st : St) (Q : St → Prop) : Prop :=
 ∀ a w g, Rel st a w g → ∀ Qc : Act → Prop, (∀ st' a' g', Q st' → Rel st' a' w g' → (∀ pu, Fr pu g w g' w) → Qc a') → wpStill P ops w Qc l a
def OBk (P : Program) (ops : Array Oper) (m k : Nat) (st : St) (Q : St → Prop) : Prop := OB P ops ((ops.toList.take m).drop k) st Q
theorem OBk.fin {m : Nat} (h : (m ≤ k) = True) (hq : Q st) : OBk P ops m k st Q := by
 have h : m ≤ k := of_eq_true h
 unfold OBk
 rw [List.drop_of_length_le (by simp; omega)]
 exact fun a w g hr Qc hc => hc st a g hq hr fun _ => Fr.refl _ _ _
theorem lO {m : Nat} {o : Oper} (h : ops[k]? = some o) (hm : k < m) : (ops.toList.take m).drop k = o :: (ops.toList.take m).drop (k + 1) := by
 have hlt := gg h
 rw [List.drop_eq_getElem_cons (by simp; omega)]
 congr 1
 rw [Array.getElem?_eq_getElem hlt] at h
 simpa using h
theorem OBk.b {m : Nat} {o : Oper} {s : SV} {st' : St} (hm : (k < m) = True) (ho : ops[k]? = some o) (hw : cV ops st o = some true) (hb : bQ P st o s) (hl : fP o.dst s = true) (hst : st.put o.dst s = st') (h : OBk P ops m (k + 1) st' Q) : OBk P ops m k st Q := by
 subst hst
 unfold OBk at h ⊢
 rw [lO ho (of_eq_true hm)]
 intro a w g hr Qc hc
 unfold wpStill
 rw [aN hr hw, if_pos rfl]
 obtain ⟨v, e1, e2⟩ := hb a w g hr
 unfold Oper.still
 rw [e2 w (Up.refl w), Oper.stillUpon_value]
 exact h _ w g (hr.pf e1 hl) Qc hc
theorem Rel.vC (P : Program) {a : Act} {w : World} {g : Gh} (h : Rel st a w g) {o : Oper} {s n : Nat} {xs : List D} (hop : o.op = .move (.tmp s)) (hs : st.tmps[s]? = some (.own n xs)) :
  ∃ g', Rel ((st.take s).put o.dst (.own n xs)) (a.put o.dst (valOf a s)) w g' ∧ Fr pu g w g' w := by
 obtain ⟨a', w', g', r, e1, e2, e3, e4⟩ := OpS.move (P := P) (pu := pu) (.inl hop) hs a w g h
 have hexec : (execOp a.eval o).run P w = .ok (.value (valOf a s)) w := by unfold execOp; rw [hop]; rfl
 have h1 := e2 (fun x y => x = a.put o.dst (valOf a s) ∧ y = w) (fun _ _ _ => False)
 rw [← e1, hexec, Oper.upon_value] at h1
 obtain ⟨rfl, rfl⟩ := h1 ▸ (⟨rfl, rfl⟩ : a.put o.dst (valOf a s) = a.put o.dst (valOf a s) ∧ w = w)
 exact ⟨g', e3, e4⟩
def o4 (bP : List Nat) (st : St) (o : Oper) : Option St :=
 match o.op with
 | .move (.tmp s) => match st.tmps[s]? with
  | some (.own n xs) => if (o.dst.map fun d => bP.contains d) = some true then some ((st.take s).put o.dst (.own n xs)) else none
  | _ => none
 | _ => none
theorem OBk.bP {m : Nat} {o : Oper} {bP : List Nat} {st' : St} (hm : (k < m) = True) (ho : ops[k]? = some o) (hw : cV ops st o = some true) (hb : o4 bP st o = some st') (h : OBk P ops m (k + 1) st' Q) : OBk P ops m k st Q := by
 unfold o4 at hb
 split at hb
 ·rename_i s hop
  split at hb
  ·rename_i n xs hs
   split at hb
   ·cases hb
    unfold OBk at h ⊢
    rw [lO ho (of_eq_true hm)]
    intro a w g hr Qc hc
    unfold wpStill
    rw [aN hr hw, if_pos rfl]
    have hexec : (execOp a.eval o).run P w = .ok (.value (valOf a s)) w := by unfold execOp; rw [hop]; rfl
    unfold Oper.still
    rw [hexec, Oper.stillUpon_value]
    obtain ⟨g', r, f⟩ := hr.vC (pu := true) P hop hs
    exact h _ w g' r Qc fun st' a' g2 q r2 f2 => hc st' a' g2 q r2 fun pu => Fr.trans ⟨f.1, f.2, f.3, f.4, fun _ => f.5 rfl, fun _ => f.6 rfl, fun _ => f.7 rfl, f.8⟩ (f2 pu)
   ·cases hb
  ·cases hb
 ·cases hb
def rJ (P : Program) (bP : List Nat) (ops : Array Oper) (st : St) (o : Oper) : Option St :=
 match cV ops st o with
 | some false => some (st.put o.dst (.tup []))
 | some true => match o4 bP st o with
  | some st' => some st'
  | none => match bop P st o with
   | some s => if fP o.dst s then some (st.put o.dst s) else none
   | none => none
 | none => none
def ct (P : Program) (bP : List Nat) (ops : Array Oper) : Nat → Nat → St → Option St
 | 0, _, st => some st
 | n + 1, k, st => match ops[k]? with
  | some o => match rJ P bP ops st o with
   | some st' => ct P bP ops n (k + 1) st'
   | none => none
  | none => none
theorem OBk.seg {m : Nat} {bP : List Nat} {st' : St} (n : Nat) (hm : (k + n ≤ m) = True) (hr : ct P bP ops n k st = some st') (h : OBk P ops m (k + n) st' Q) : OBk P ops m k st Q := by
 have hm : k + n ≤ m := of_eq_true hm
 induction n generalizing k st with
 | zero => cases hr; exact h
 | succ n ih =>
  simp only [ct] at hr
  split at hr
  ·rename_i o ho
   split at hr
   ·rename_i st1 h1
    have ih' := ih (eq_true (by omega)) hr (by rw [show k + 1 + n = k + (n + 1) by omega]; exact h) (by omega)
    have hkm : (k < m) = True := eq_true (by omega)
    unfold rJ at h1
    split at h1
    ·rename_i hw
     cases h1
     unfold OBk at ih' ⊢
     rw [lO ho (by omega)]
     intro a w g hr Qc hc
     unfold wpStill
     rw [aN hr hw, if_neg (by simp)]
     exact ih' _ w g (hr.b9 o.dst (v := undef) ⟨#[], rfl, rfl, by simp⟩) Qc hc
    ·rename_i hw
     split at h1
     ·rename_i st2 h2
      cases h1
      exact OBk.bP hkm ho hw h2 ih'
     ·split at h1
      ·rename_i s hb
       split at h1
       ·rename_i hl
        cases h1
        exact OBk.b hkm ho hw (bQ.fH hb) hl rfl ih'
       ·cases h1
      ·cases h1
    ·cases h1
   ·cases hr
  ·cases hr
theorem SW.y7 {id : Nat} {l : List Oper} {Q : Exit → St → Prop} (hm : P.follows .mixedOrders = true) (hB : Region.lexB .any l.toArray = true) (h : OBk P l.toArray l.toArray.size 0 st (Q .normal)) : SW P pu (.region id l.toArray true) st Q := by
 intro a w g hr
 refine wp_region_still hm hB ?_
 unfold OBk at h
 rw [List.drop_zero, List.take_of_length_le (by simp)] at h
 exact h a w.drew g hr.drew _ fun st' a' g' q r f => ⟨st', g', q, r, Fr.drew.trans (f pu)⟩
theorem SW.fD {id : Nat} {l : List Oper} {Q : Exit → St → Prop} (n : Nat) (hm : P.follows .mixedOrders = true) (hB : Region.lexTailB .any l.toArray n = true) (h : OBk P l.toArray n 0 st (fun st1 => OWk P pu l.toArray n st1 (Q .normal))) :
  SW P pu (.region id l.toArray true) st Q := by
 intro a w g hr
 refine wp_region_still_tail n hm hB ?_
 unfold OBk at h
 rw [List.drop_zero] at h
 exact h a w.drew g hr.drew _ fun st1 a1 g1 q1 r1 f1 => q1 a1 w.drew g1 r1 _ fun st' a' w' g' q r f => ⟨st', g', q, r, (Fr.drew.trans (f1 pu)).trans f⟩
end
end Go.Sh
namespace Go.Sh
def iter {α β : Type} (body : α → Option (α ⊕ β)) : Nat → α → Option β
 | 0, _ => none
 | n + 1, x => match body x with
  | some (.inl y) => iter body n y
  | some (.inr b) => some b
  | none => none
def idx {α : Type} (l : List α) (i : Int) : Option α := if 0 ≤ i then l[i.toNat]? else none
theorem oI {α : Type} {l : List α} {i : Int} {x : α} (h : idx l i = some x) : 0 ≤ i ∧ l[i.toNat]? = some x := by
 unfold idx at h
 split at h
 ·exact ⟨by assumption, h⟩
 ·cases h
theorem zo {α : Type} {l : List α} {i : Int} {x : α} (f : α → D) (h : idx l i = some x) : (l.map f)[i.toNat]? = some (f x) := by
 rw [List.getElem?_map, (oI h).2]; rfl
def chk {α : Type} (b : Bool) (x : Option α) : Option α := bif b then x else none
section
variable {α β : Type} {a b : α} {c : Bool} {r : α}
theorem an (hc : c = true) (h : (bif c then a else b) = r) : a = r := by subst hc; exact h
theorem ao (hc : c = false) (h : (bif c then a else b) = r) : b = r := by subst hc; exact h
theorem aa {o : Option α} {f : α → Option β} {r : β} (h : o.bind f = some r) : ∃ x, o = some x ∧ f x = some r := by
 cases o with
 | none => cases h
 | some x => exact ⟨x, rfl, h⟩
theorem bH {o : Option α} (h : chk c o = some r) : c = true ∧ o = some r := by
 unfold chk at h
 cases c
 ·cases h
 ·exact ⟨rfl, h⟩
end
section
variable {P : Program} {pu : Bool} {st : St} {ops : Array Oper} {k : Nat}
theorem ad {n : St → Prop} {Q : Exit → St → Prop} {s : St} (h : n s) : thenS n Q .normal s := h
theorem aJ {n : St → Prop} {Q : Exit → St → Prop} {s : St} {i : Nat} (h : Q (.exit i) s) : thenS n Q (.exit i) s := h
theorem af {n : St → Prop} {Q : Exit → St → Prop} {s : St} (h : Q .ret s) : thenS n Q .ret s := h
theorem aH {id : Nat} {Q : Exit → St → Prop} {s : St} (h : Q .normal s) : kC id Q .normal s := h
theorem ax {id : Nat} {Q : Exit → St → Prop} {s : St} (h : Q .ret s) : kC id Q .ret s := h
theorem aT {id : Nat} {Q : Exit → St → Prop} {s : St} (h : Q .normal s) : kC id Q (.exit id) s := by simp only [kC, if_pos]; exact h
theorem jf {γ β : Type} {c : Code} {Q : Exit → Act → World → Prop} (body : γ → Option (γ ⊕ β)) (I : γ → Act → World → Prop) (b : β)
  (round : ∀ x a w, I x a w → ∀ o, body x = some o → c.wp P (Exit.then (fun a' w' => ∃ y, o = .inl y ∧ I y a' w') (fun e a' w' => ∃ b', o = .inr b' ∧ (b' = b → Q e a' w'))) a w) :
  ∀ n x a w, I x a w → iter body n x = some b → (Code.loop c).wp P Q a w := by
 intro n
 intro x a w hI hit kb k cs
 have key : ∀ n x a w, I x a w → iter body n x = some b →
   ∃ e a' w', Q e a' w' ∧ Arrives P (lone (kb.at a (.code c :: .inLoop c :: k)) cs w) kb k cs e a' w' := by
  intro n
  induction n with
  | zero => intro x a w _ h; cases h
  | succ n ih =>
   intro x a w hI hit
   simp only [iter] at hit
   have hsome : ∃ o, body x = some o := by
    cases hb : body x with
    | none => rw [hb] at hit; cases hit
    | some o => exact ⟨o, rfl⟩
   obtain ⟨o, ho⟩ := hsome
   obtain ⟨e, a₁, w₁, hq, harr⟩ := round x a w hI o ho kb (.inLoop c :: k) cs
   rw [ho] at hit
   cases e with
   | normal =>
    obtain ⟨y, rfl, hI₁⟩ := hq
    obtain ⟨e₂, a₂, w₂, hq₂, harr₂⟩ := ih y a₁ w₁ hI₁ hit
    exact ⟨e₂, a₂, w₂, hq₂, .of_steps (Steps.trans harr (.one step_inLoop)) harr₂⟩
   | exit id => obtain ⟨b', rfl, hq⟩ := hq; exact ⟨_, a₁, w₁, hq (by simpa using hit), .pass (x := .inLoop c) rfl (fun _ _ => .inl (by simp)) harr⟩
   | goto l => obtain ⟨b', rfl, hq⟩ := hq; exact ⟨_, a₁, w₁, hq (by simpa using hit), .pass (x := .inLoop c) rfl (fun _ _ => .inl (by simp)) harr⟩
   | ret => obtain ⟨b', rfl, hq⟩ := hq; exact ⟨_, a₁, w₁, hq (by simpa using hit), .pass (x := .inLoop c) rfl (fun _ _ => .inl (by simp)) harr⟩
   | panic ch => obtain ⟨b', rfl, hq⟩ := hq; exact ⟨_, a₁, w₁, hq (by simpa using hit), .pass (x := .inLoop c) rfl (fun _ _ => .inl (by simp)) harr⟩
   | outgrown => obtain ⟨b', rfl, hq⟩ := hq; exact ⟨_, a₁, w₁, hq (by simpa using hit), .pass (x := .inLoop c) rfl (fun _ _ => .inl (by simp)) harr⟩
 obtain ⟨e, a', w', hq, harr⟩ := key n x a w hI hit
 exact ⟨e, a', w', hq, .of_steps (.one step_loop) harr⟩
theorem OWk.case {Q : St → Prop} (b : Bool) (S : Bool → St) (h0 : st = S b) (hT : b = true → OWk P pu ops k (S true) Q) (hF : b = false → OWk P pu ops k (S false) Q) : OWk P pu ops k st Q := by
 subst h0
 cases b
 ·exact hF rfl
 ·exact hT rfl
theorem OBk.case {m : Nat} {Q : St → Prop} (b : Bool) (S : Bool → St) (h0 : st = S b) (hT : b = true → OBk P ops m k (S true) Q) (hF : b = false → OBk P ops m k (S false) Q) : OBk P ops m k st Q := by
 subst h0
 cases b
 ·exact hF rfl
 ·exact hT rfl
theorem Rel.At {a : Act} {w : World} {g : Gh} (h : Rel st a w g) {t n : Nat} (ht : st.tmps[t]? = some (.d .bW)) : Rel (st.set t (.own n [])) a w g := by
 have hlt := aD ht
 refine Rel.step h (by simp [St.set, h.len]) h.cH (fun _ _ h => h) (fun t' s' hs' => ?_) h.hp
 by_cases hne : t = t'
 ·subst hne
  simp only [St.set, List.getElem?_set_self hlt, Option.some.injEq] at hs'
  subst hs'
  refine .inr (.inl (.inl ⟨rfl, ?_⟩))
  exact Rd.gE (h.tmp t _ ht)
 ·simp only [St.set, List.getElem?_set_ne hne] at hs'
  refine .inr (.inr ⟨hs', rfl, fun _ _ => az.refl _ _ _, fun s0 e => ⟨rfl, fun x hx hb => ⟨x, ?_, rfl⟩⟩⟩)
  simp only [St.set]
  by_cases h2 : t = s0
  ·subst h2; rw [ht] at hx; cases hx; simp [dt] at hb
  ·rw [List.getElem?_set_ne h2]; exact hx
def St.gD (st : St) : List (Nat × Nat) → St
 | [] => st
 | (t, n) :: l => (match st.tmps[t]? with | some (.d .bW) => st.set t (.own n []) | _ => st).gD l
theorem Rel.gD {a : Act} {w : World} {g : Gh} : ∀ {l : List (Nat × Nat)} {st : St}, Rel st a w g → Rel (st.gD l) a w g
 | [], _, h => h
 | (t, n) :: l, st, h => by
  simp only [St.gD]
  refine Rel.gD ?_
  split
  ·exact h.At (by assumption)
  ·exact h
def wK (P : Program) (rs : List ResultVar) (st : St) : Option SV :=
 match qG P st rs with
 | some xs => if vr xs && rQ st rs xs then some (yY xs) else none
 | none => none
theorem mC {rs : List ResultVar} {r : SV} (h : wK P rs st = some r) : vQ P rs st r := by
 unfold wK at h
 split at h
 ·rename_i xs hx
  split at h
  ·rename_i hc
   rw [Bool.and_eq_true] at hc
   exact ⟨xs, hx, hc.1, hc.2, by simpa using h⟩
  ·cases h
 ·cases h
def aA (P : Program) (rs : List ResultVar) (H : List ar) (r : SV) (e : Exit) (st : St) : Prop :=
 (e = .normal ∨ e = .ret) ∧ ∃ l, wK P rs (st.gD l) = some r ∧ st.H = H
theorem aA.ret {rs : List ResultVar} {H : List ar} {r : SV} (l : List (Nat × Nat)) (h : wK P rs (st.gD l) = some r) (hH : st.H = H) : aA P rs H r .ret st := ⟨.inr rfl, l, h, hH⟩
theorem aA.normal {rs : List ResultVar} {H : List ar} {r : SV} (l : List (Nat × Nat)) (h : wK P rs (st.gD l) = some r) (hH : st.H = H) : aA P rs H r .normal st := ⟨.inl rfl, l, h, hH⟩
theorem St.rM (l : List (Nat × Nat)) : ∀ st : St, (st.gD l).H = st.H := by
 induction l with
 | nil => intro st; rfl
 | cons p l ih =>
  intro st
  obtain ⟨t, n⟩ := p
  simp only [St.gD]
  rw [ih]
  split <;> rfl
theorem PC.br {f : FuncId} {fn : Func} {c : Code} {args : List SV} {r : SV} (hf : P.funcs[f]? = some fn) (hb : fn.body = some c)
  (h : ∀ H, SW P true c (fJ fn.ntmps args H) (aA P fn.results.toList H r)) : PC P f args r := by
 intro H
 refine SC.br hf hb ?_
 intro a w g hr
 refine Code.wp_mono (fun e a' w' hh => ?_) (h H a w g hr)
 obtain ⟨st', g', ⟨he, l, h1, h2⟩, r1, f⟩ := hh
 exact ⟨st'.gD l, g', ⟨he, mC h1, by rw [St.rM]; exact h2⟩, r1.gD, f⟩
end
end Go.Sh
