/- Maps: what a key finds in a map's entries. -/
import Derived.Test.YtjkhgfoecplbgaaSh22
set_option linter.all false
set_option autoImplicit true
set_option relaxedAutoImplicit true
set_option linter.unusedVariables false
set_option linter.unusedSimpArgs false
namespace Go.Sh

/-- Keys that the model compares on the spot. -/
inductive KeyT where
  | int (k : IntKind)
  | str

def keyTOf (P : Program) (K : TypeId) : Option KeyT :=
  match P.underlying K with
  | some (.int k) => some (.int k)
  | some .string => some .str
  | _ => none

def KeyT.desc : KeyT → TypeDesc
  | .int k => .int k
  | .str => .string

/-- Is it a key of this kind? -/
def isKey : KeyT → D → Bool
  | .int k, .int k' _ => k == k'
  | .str, .str _ => true
  | _, _ => false

def sameK : D → D → Bool
  | .int _ a, .int _ b => a == b
  | .str a, .str b => a == b
  | _, _ => false

def findK (x : D) : List (D × D) → Nat → Option (Nat × D)
  | [], _ => none
  | (k, v) :: es, i => if sameK x k then some (i, v) else findK x es (i + 1)

theorem byteArray_beq (a b : List UInt8) : (mk a == mk b) = (a == b) := by
  show ((⟨a⟩ : Array UInt8) == ⟨b⟩) = _
  simp

theorem sameNow_key {g : Gh} {w : World} {T : KeyT} {x y : D} {u v : Value} (hx : isKey T x = true) (hy : isKey T y = true) (hu : Rd g w u x) (hv : Rd g w v y) (d : TypeDesc) (hd : d = T.desc) :
    Instr.sameNow d u v = some (sameK x y) := by
  cases T with
  | int k =>
    cases x <;> simp only [isKey, Bool.false_eq_true] at hx
    cases y <;> simp only [isKey, Bool.false_eq_true] at hy
    cases hu; cases hv
    simp only [beq_iff_eq] at hx hy
    subst hx; subst hy; subst hd
    simp [Instr.sameNow, sameK, KeyT.desc]
  | str =>
    cases x <;> simp only [isKey, Bool.false_eq_true] at hx
    cases y <;> simp only [isKey, Bool.false_eq_true] at hy
    cases hu; cases hv
    subst hd
    simp [Instr.sameNow, sameK, byteArray_beq, KeyT.desc]

theorem findNow_key {g : Gh} {w : World} {T : KeyT} {x : D} {u : Value} (hx : isKey T x = true) (hu : Rd g w u x) (d : TypeDesc) (hd : d = T.desc) :
    ∀ (ms : List MapEntry) (es : List (D × D)) (i : Nat), ms.length = es.length → (∀ (j : Nat) (p : D × D), es[j]? = some p → ∃ m, ms[j]? = some m ∧ Rd g w m.key p.1 ∧ Rd g w m.val p.2) → (∀ p ∈ es, isKey T p.1 = true) →
    ∃ r, Instr.findNow d u ms i = some r ∧ ((findK x es i = none ∧ r = none) ∨ ∃ j y v, findK x es i = some (j, y) ∧ r = some (j, v) ∧ Rd g w v y)
  | [], [], i, _, _, _ => ⟨none, rfl, .inl ⟨rfl, rfl⟩⟩
  | [], _ :: _, i, h, _, _ => by simp at h
  | _ :: _, [], i, h, _, _ => by simp at h
  | m :: ms, (k, y) :: es, i, hl, hr, hk => by
    obtain ⟨m', e1, e2, e3⟩ := hr 0 (k, y) rfl
    simp only [List.getElem?_cons_zero, Option.some.injEq] at e1
    subst e1
    have hs := sameNow_key hx (hk (k, y) (by simp)) hu e2 d hd
    simp only [Instr.findNow, findK, hs]
    cases hb : sameK x k with
    | true => exact ⟨_, rfl, .inr ⟨i, y, m.val, by simp, rfl, e3⟩⟩
    | false =>
      obtain ⟨r, h1, h2⟩ := findNow_key hx hu d hd ms es (i + 1) (by simpa using hl) (fun j p hj => by simpa using hr (j + 1) p (by simpa using hj)) (fun p hp => hk p (by simp [hp]))
      exact ⟨r, h1, by simpa using h2⟩
end Go.Sh
