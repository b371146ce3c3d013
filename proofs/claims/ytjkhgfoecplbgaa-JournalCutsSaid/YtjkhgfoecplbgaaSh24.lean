/- Codes: how Lean data is laid out as plain data, in cells, in maps; what is read and written in a shadow heap, told plainly. -/
import Derived.Test.YtjkhgfoecplbgaaSh23
set_option linter.all false
set_option autoImplicit true
set_option relaxedAutoImplicit true
set_option linter.unusedVariables false
set_option linter.unusedSimpArgs false
namespace Go.Sh

/-- How Lean data is laid out as plain data, and read back. -/
structure Cd (α : Type) where
  enc : α → D
  dec : D → Option α
  de : ∀ d x, dec d = some x → d = enc x
  ed : ∀ x, dec (enc x) = some x

def cI (k : IntKind) : Cd Int where
  enc := .int k
  dec | .int k' n => if k' = k then some n else none
      | _ => none
  de d x h := by
    cases d <;> simp only [reduceCtorEq] at h
    split at h
    · rename_i e; cases h; rw [e]
    · cases h
  ed x := by simp

def cB : Cd Bool where
  enc := .bool
  dec | .bool b => some b
      | _ => none
  de d x h := by cases d <;> simp only [reduceCtorEq] at h; cases h; rfl
  ed x := rfl

def cS : Cd (List UInt8) where
  enc := .str
  dec | .str b => some b
      | _ => none
  de d x h := by cases d <;> simp only [reduceCtorEq] at h; cases h; rfl
  ed x := rfl

/-- Pointers to objects of the shadow heap. -/
def cP : Cd (Option Nat) where
  enc | none => .nilPtr
      | some i => .ptr i 0
  dec | .nilPtr => some none
      | .ptr i 0 => some (some i)
      | _ => none
  de d x h := by
    cases d with
    | ptr i off => cases off <;> simp only [reduceCtorEq] at h; cases h; rfl
    | nilPtr => cases h; rfl
    | _ => cases h
  ed x := by cases x <;> rfl

/-- Maps of the shadow heap. -/
def cM : Cd (Option Nat) where
  enc | none => .nilMap
      | some i => .map i
  dec | .nilMap => some none
      | .map i => some (some i)
      | _ => none
  de d x h := by cases d <;> simp only [reduceCtorEq] at h <;> (cases h; rfl)
  ed x := by cases x <;> rfl

theorem mapM_de {α : Type} (c : Cd α) : ∀ (ds : List D) (xs : List α), ds.mapM c.dec = some xs → ds = xs.map c.enc
  | [], xs, h => by simp at h; subst h; rfl
  | d :: ds, xs, h => by
    simp only [List.mapM_cons, Option.bind_eq_bind, Option.bind_eq_some_iff] at h
    obtain ⟨x, h1, ys, h2, h3⟩ := h
    cases h3
    rw [List.map_cons, ← c.de d x h1, ← mapM_de c ds ys h2]

theorem mapM_ed {α : Type} (c : Cd α) : ∀ xs : List α, (xs.map c.enc).mapM c.dec = some xs
  | [] => rfl
  | x :: xs => by simp [c.ed, mapM_ed c xs]

/-- Lists that nobody will change. -/
def cL {α : Type} (n : Nat) (c : Cd α) : Cd (List α) where
  enc xs := .list n (xs.map c.enc)
  dec | .list n' ds => if n' = n then ds.mapM c.dec else none
      | _ => none
  de d x h := by
    cases d <;> simp only [reduceCtorEq] at h
    split at h
    · rename_i e; subst e; rw [← mapM_de c _ _ h]
    · cases h
  ed x := by show (if n = n then (x.map c.enc).mapM c.dec else none) = _; rw [if_pos rfl, mapM_ed]

/-- Cells one behind the other. -/
structure Cc (α : Type) where
  enc : α → List SV
  dec : List SV → Option (α × List SV)
  de : ∀ l x r, dec l = some (x, r) → l = enc x ++ r
  ed : ∀ x r, dec (enc x ++ r) = some (x, r)

def Cd.cell {α : Type} (c : Cd α) : Cc α where
  enc x := [.d (c.enc x)]
  dec | .d d :: r => (c.dec d).map (·, r)
      | _ => none
  de l x r h := by
    split at h
    · rename_i d r'
      simp only [Option.map_eq_some_iff, Prod.mk.injEq] at h
      obtain ⟨y, h1, rfl, rfl⟩ := h
      rw [c.de d y h1]; rfl
    · cases h
  ed x r := by simp [c.ed]

/-- A list that belongs to the object. -/
def ownC {α : Type} (n : Nat) (c : Cd α) : Cc (List α) where
  enc xs := [.own n (xs.map c.enc)]
  dec | .own n' ds :: r => if n' = n then (ds.mapM c.dec).map (·, r) else none
      | _ => none
  de l x r h := by
    split at h
    · split at h
      · rename_i n' ds r' e
        subst e
        simp only [Option.map_eq_some_iff, Prod.mk.injEq] at h
        obtain ⟨y, h1, rfl, rfl⟩ := h
        rw [mapM_de c _ _ h1]; rfl
      · cases h
    · cases h
  ed x r := by simp only [List.singleton_append, if_true, mapM_ed, Option.map_some]

def Cc.pair {α β : Type} (a : Cc α) (b : Cc β) : Cc (α × β) where
  enc p := a.enc p.1 ++ b.enc p.2
  dec l := (a.dec l).bind fun p => (b.dec p.2).map fun q => ((p.1, q.1), q.2)
  de l x r h := by
    simp only [Option.bind_eq_some_iff, Option.map_eq_some_iff, Prod.mk.injEq] at h
    obtain ⟨p, h1, q, h2, h3, h4⟩ := h
    subst h3; subst h4
    rw [a.de l p.1 p.2 h1, List.append_assoc, b.de p.2 q.1 q.2 h2]
  ed x r := by
    rw [List.append_assoc, a.ed]
    simp [b.ed]

def Cc.iso {α β : Type} (a : Cc α) (f : α → β) (g : β → α) (fg : ∀ x, f (g x) = x) (gf : ∀ x, g (f x) = x) : Cc β where
  enc x := a.enc (g x)
  dec l := (a.dec l).map fun p => (f p.1, p.2)
  de l x r h := by
    simp only [Option.map_eq_some_iff, Prod.mk.injEq] at h
    obtain ⟨p, h1, rfl, rfl⟩ := h
    rw [gf]; exact a.de l p.1 p.2 h1
  ed x r := by simp [a.ed, fg]

/-- The same for plain data alone. -/
structure Cl (α : Type) where
  enc : α → List D
  dec : List D → Option (α × List D)
  de : ∀ l x r, dec l = some (x, r) → l = enc x ++ r
  ed : ∀ x r, dec (enc x ++ r) = some (x, r)

def Cd.one {α : Type} (c : Cd α) : Cl α where
  enc x := [c.enc x]
  dec | d :: r => (c.dec d).map (·, r)
      | _ => none
  de l x r h := by
    split at h
    · rename_i d r'
      simp only [Option.map_eq_some_iff, Prod.mk.injEq] at h
      obtain ⟨y, h1, rfl, rfl⟩ := h
      rw [c.de d y h1]; rfl
    · cases h
  ed x r := by simp [c.ed]

def Cl.pair {α β : Type} (a : Cl α) (b : Cl β) : Cl (α × β) where
  enc p := a.enc p.1 ++ b.enc p.2
  dec l := (a.dec l).bind fun p => (b.dec p.2).map fun q => ((p.1, q.1), q.2)
  de l x r h := by
    simp only [Option.bind_eq_some_iff, Option.map_eq_some_iff, Prod.mk.injEq] at h
    obtain ⟨p, h1, q, h2, h3, h4⟩ := h
    subst h3; subst h4
    rw [a.de l p.1 p.2 h1, List.append_assoc, b.de p.2 q.1 q.2 h2]
  ed x r := by
    rw [List.append_assoc, a.ed]
    simp [b.ed]

def Cl.iso {α β : Type} (a : Cl α) (f : α → β) (g : β → α) (fg : ∀ x, f (g x) = x) (gf : ∀ x, g (f x) = x) : Cl β where
  enc x := a.enc (g x)
  dec l := (a.dec l).map fun p => (f p.1, p.2)
  de l x r h := by
    simp only [Option.map_eq_some_iff, Prod.mk.injEq] at h
    obtain ⟨p, h1, rfl, rfl⟩ := h
    rw [gf]; exact a.de l p.1 p.2 h1
  ed x r := by simp [a.ed, fg]

def Cl.agg {α : Type} (a : Cl α) : Cd α where
  enc x := .agg (a.enc x)
  dec | .agg l => match a.dec l with | some (x, []) => some x | _ => none
      | _ => none
  de d x h := by
    cases d <;> simp only [reduceCtorEq] at h
    split at h
    · rename_i y h1
      cases h
      rw [a.de _ _ _ h1, List.append_nil]
    · cases h
  ed x := by
    have := a.ed x []
    rw [List.append_nil] at this
    simp [this]

def preD : List SV → List D × List SV
  | .d d :: r => ((d :: (preD r).1), (preD r).2)
  | l => ([], l)

theorem preD_eq : ∀ l : List SV, l = (preD l).1.map .d ++ (preD l).2
  | [] => rfl
  | s :: r => by
    cases s with
    | d x => simp only [preD, List.map_cons, List.cons_append]; rw [← preD_eq r]
    | _ => rfl

theorem preD_app : ∀ (ds : List D) (r : List SV), preD (ds.map .d ++ r) = (ds ++ (preD r).1, (preD r).2)
  | [], r => rfl
  | d :: ds, r => by simp only [List.map_cons, List.cons_append, preD]; rw [preD_app ds r]

def Cl.cells {α : Type} (a : Cl α) : Cc α where
  enc x := (a.enc x).map .d
  dec l := (a.dec (preD l).1).map fun p => (p.1, p.2.map .d ++ (preD l).2)
  de l x r h := by
    simp only [Option.map_eq_some_iff, Prod.mk.injEq] at h
    obtain ⟨p, h1, rfl, rfl⟩ := h
    have := a.de _ p.1 p.2 h1
    rw [← List.append_assoc, ← List.map_append, ← this]
    exact preD_eq l
  ed x r := by
    rw [preD_app]
    simp only [a.ed, Option.map_some, Option.some.injEq, Prod.mk.injEq, true_and]
    exact (preD_eq r).symm

/-- Keys of maps. -/
structure Kc (K : Type) [BEq K] where
  c : Cd K
  kt : KeyT
  isK : ∀ x, isKey kt (c.enc x) = true
  same : ∀ a b, sameK (c.enc a) (c.enc b) = (a == b)

def kI (k : IntKind) : Kc Int := ⟨cI k, .int k, fun _ => by simp [cI, isKey], fun _ _ => rfl⟩
def kS : Kc (List UInt8) := ⟨cS, .str, fun _ => rfl, fun _ _ => rfl⟩

/-! ## A heap, plainly -/

abbrev Hp := List SObj

def hCells (H : Hp) (i : Nat) : Option (List SV) := match H[i]? with | some (.cells cs) => some cs | _ => none

theorem hCells_eq {H : Hp} {i : Nat} {cs : List SV} (h : hCells H i = some cs) : H[i]? = some (.cells cs) := by
  unfold hCells at h
  split at h
  · cases h; assumption
  · cases h

/-- What stands in an object from a cell on. -/
def hGet {α : Type} (c : Cc α) (H : Hp) (i off : Nat) : Option α := (hCells H i).bind fun cs => (c.dec (cs.drop off)).map (·.1)

theorem hGet_eq {α : Type} {c : Cc α} {H : Hp} {i off : Nat} {x : α} (h : hGet c H i off = some x) : ∃ cs r, H[i]? = some (.cells cs) ∧ cs.drop off = c.enc x ++ r := by
  unfold hGet at h
  simp only [Option.bind_eq_some_iff, Option.map_eq_some_iff] at h
  obtain ⟨cs, h1, ⟨y, r⟩, h2, rfl⟩ := h
  exact ⟨cs, r, hCells_eq h1, c.de _ _ _ h2⟩

/-- Cells are written. -/
def hPut (H : Hp) (i off : Nat) (ds : List D) : Option Hp := (hCells H i).bind fun cs => if off + ds.length ≤ cs.length then some (H.set i (.cells (setCells cs off ds))) else none

theorem hPut_eq {H H' : Hp} {i off : Nat} {ds : List D} (h : hPut H i off ds = some H') : ∃ cs, H[i]? = some (.cells cs) ∧ off + ds.length ≤ cs.length ∧ H' = H.set i (.cells (setCells cs off ds)) := by
  unfold hPut at h
  simp only [Option.bind_eq_some_iff] at h
  obtain ⟨cs, h1, h2⟩ := h
  split at h2
  · cases h2; exact ⟨cs, hCells_eq h1, by assumption, rfl⟩
  · cases h2

def hSet {α : Type} (c : Cd α) (H : Hp) (i off : Nat) (x : α) : Option Hp := hPut H i off (c.enc x).cells

/-- A new object. -/
def hNew (H : Hp) (o : SObj) : Option (Hp × Nat) := some (H ++ [o], H.length)

/-- A map's entries; a map that is nil has none. -/
def hMap {K V : Type} [BEq K] (k : Kc K) (v : Cd V) (H : Hp) (m : Option Nat) : Option (List (K × V)) :=
  match m with
  | none => some []
  | some i => match H[i]? with
    | some (.map es) => es.mapM fun p => (k.c.dec p.1).bind fun a => (v.dec p.2).map fun b => (a, b)
    | _ => none

def encE {K V : Type} [BEq K] (k : Kc K) (v : Cd V) (p : K × V) : D × D := (k.c.enc p.1, v.enc p.2)

theorem mapE_de {K V : Type} [BEq K] (k : Kc K) (v : Cd V) : ∀ (es : List (D × D)) (xs : List (K × V)), (es.mapM fun p => (k.c.dec p.1).bind fun a => (v.dec p.2).map fun b => (a, b)) = some xs → es = xs.map (encE k v)
  | [], xs, h => by simp at h; subst h; rfl
  | p :: es, xs, h => by
    simp only [List.mapM_cons, Option.bind_eq_bind, Option.bind_eq_some_iff, Option.map_eq_some_iff] at h
    obtain ⟨q, ⟨a, ha, b, hb, rfl⟩, ys, h2, h3⟩ := h
    cases h3
    rw [List.map_cons, ← mapE_de k v es ys h2]
    congr 1
    exact Prod.ext (k.c.de _ _ ha) (v.de _ _ hb)

theorem mapE_ed {K V : Type} [BEq K] (k : Kc K) (v : Cd V) : ∀ xs : List (K × V), ((xs.map (encE k v)).mapM fun p => (k.c.dec p.1).bind fun a => (v.dec p.2).map fun b => (a, b)) = some xs
  | [] => rfl
  | x :: xs => by
    rw [List.map_cons, List.mapM_cons, mapE_ed k v xs]
    simp [encE, k.c.ed, v.ed]

theorem hMap_eq {K V : Type} [BEq K] {k : Kc K} {v : Cd V} {H : Hp} {i : Nat} {es : List (K × V)} : hMap k v H (some i) = some es ↔ H[i]? = some (.map (es.map (encE k v))) := by
  constructor
  · intro h
    simp only [hMap] at h
    split at h
    · rename_i es' h1; rw [h1, ← mapE_de k v _ _ h]
    · cases h
  · intro h
    simp only [hMap, h]
    exact mapE_ed k v es

/-- What a map holds of a key. -/
def hLook {K V : Type} [BEq K] (k : Kc K) (v : Cd V) (H : Hp) (m : Option Nat) (x : K) : Option (Option V) := (hMap k v H m).map fun es => es.lookup x

/-- An entry is put into a map's entries: where the key stands already, or behind all. -/
def mPut {K V : Type} [BEq K] (x : K) (y : V) : List (K × V) → List (K × V)
  | [] => [(x, y)]
  | (a, b) :: es => if x == a then (x, y) :: es else (a, b) :: mPut x y es

def mDel {K V : Type} [BEq K] (x : K) : List (K × V) → List (K × V)
  | [] => []
  | (a, b) :: es => if x == a then es else (a, b) :: mDel x es

def hMput {K V : Type} [BEq K] (k : Kc K) (v : Cd V) (H : Hp) (m : Option Nat) (x : K) (y : V) : Option Hp :=
  m.bind fun i => (hMap k v H (some i)).map fun es => H.set i (.map ((mPut x y es).map (encE k v)))

def hMdel {K V : Type} [BEq K] (k : Kc K) (v : Cd V) (H : Hp) (m : Option Nat) (x : K) : Option Hp :=
  match m with
  | none => some H
  | some i => (hMap k v H (some i)).map fun es => H.set i (.map ((mDel x es).map (encE k v)))
end Go.Sh
