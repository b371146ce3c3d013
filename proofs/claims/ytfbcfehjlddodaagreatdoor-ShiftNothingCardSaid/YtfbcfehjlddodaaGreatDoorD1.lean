/- Closed code, run: a sound evaluator. -/
import Derived.Test.YtfbcfehjlddodaaGreatDoorS1
import Derived.Test.YtfbcfehjlddodaaGreatDoorS3
import Derived.Laws.CopyRow
import Derived.Lib.ConvBytes
import Derived.RangeFuncRecord
import Derived.Laws.IdiomRangeMap
import Derived.OrdersIn
set_option linter.all false
set_option autoImplicit true
set_option relaxedAutoImplicit true
noncomputable section
namespace Go.Gd
open Go.Sh (SameOs valOf leafRun leafRun_run isAggT run_sizeOf' run_isAgg' run_cells get_lt arr_lt cell_blk)
/-! ## A table by numbers -/
inductive Tr (α : Type) where
  | e
  | n (v : Option α) (l r : Tr α)
  deriving Inhabited
/-- A number's way through a table. -/
def pth : Nat → Nat → Option (List Bool)
  | 0, _ => none
  | f + 1, k => match k with
    | 0 => some []
    | k + 1 => match pth f (k / 2) with
      | some p => some (Nat.beq (k % 2) 0 :: p)
      | none => none
noncomputable section
def Tr.getP {α : Type} (p : List Bool) : Tr α → Option α :=
  List.rec (motive := fun _ => Tr α → Option α) (fun t => Tr.rec (motive := fun _ => Option α) none (fun v _ _ _ _ => v) t)
    (fun b _ ih t => Tr.rec (motive := fun _ => Option α) none (fun _ l r _ _ => ih (Bool.rec (motive := fun _ => Tr α) r l b)) t) p
def Tr.updP {α : Type} (v : Option α) (p : List Bool) : Tr α → Tr α :=
  List.rec (motive := fun _ => Tr α → Tr α) (fun t => Tr.rec (motive := fun _ => Tr α) (.n v .e .e) (fun _ l r _ _ => .n v l r) t)
    (fun b _ ih t => Tr.rec (motive := fun _ => Tr α) (Bool.rec (motive := fun _ => Tr α) (.n none .e (ih .e)) (.n none (ih .e) .e) b)
      (fun u l r _ _ => Bool.rec (motive := fun _ => Tr α) (.n u l (ih r)) (.n u (ih l) r) b) t) p
def dp : Nat := 64
/-- A table's entry. -/
def Tr.get {α : Type} (t : Tr α) (k : Nat) : Option α := match pth dp k with
  | some p => Tr.getP p t
  | none => none
/-- The table with an entry changed (a number too great: all is forgotten). -/
def Tr.upd {α : Type} (v : Option α) (f : Nat) (t : Tr α) (k : Nat) : Tr α := match pth f k with
  | some p => Tr.updP v p t
  | none => .e
end
theorem Tr.getP_e {α : Type} : ∀ (p : List Bool), Tr.getP p (Tr.e : Tr α) = none
  | [] => rfl
  | _ :: _ => rfl
theorem Tr.get_e {α : Type} (k : Nat) : (Tr.e : Tr α).get k = none := by
  unfold Tr.get; split
  · exact Tr.getP_e _
  · rfl
theorem Tr.getP_updP {α : Type} {v : Option α} {x : α} : ∀ {p p' : List Bool} {t : Tr α}, Tr.getP p' (Tr.updP v p t) = some x → (p' = p ∧ v = some x) ∨ (p' ≠ p ∧ Tr.getP p' t = some x)
  | [], [], t, h => by cases t <;> exact .inl ⟨rfl, h⟩
  | [], b :: p', t, h => by
    cases t with
    | e => cases b <;> exact absurd (show Tr.getP p' (Tr.e : Tr α) = some x from h) (by simp [Tr.getP_e])
    | n u l r => exact .inr ⟨by simp, h⟩
  | b :: p, [], t, h => by
    cases t with
    | e => cases b <;> cases h
    | n u l r => cases b <;> exact .inr ⟨by simp, h⟩
  | b :: p, b' :: p', t, h => by
    cases t with
    | e =>
      cases b <;> cases b'
      all_goals first
        | (rcases Tr.getP_updP (p := p) (p' := p') (t := .e) h with ⟨rfl, e⟩ | ⟨e, h2⟩
           · exact .inl ⟨rfl, e⟩
           · simp [Tr.getP_e] at h2)
        | exact absurd (show Tr.getP p' (Tr.e : Tr α) = some x from h) (by simp [Tr.getP_e])
    | n u l r =>
      cases b <;> cases b'
      · rcases Tr.getP_updP (p := p) (p' := p') (t := r) h with ⟨rfl, e⟩ | ⟨e, h2⟩
        · exact .inl ⟨rfl, e⟩
        · exact .inr ⟨by simpa using e, h2⟩
      · exact .inr ⟨by simp, h⟩
      · exact .inr ⟨by simp, h⟩
      · rcases Tr.getP_updP (p := p) (p' := p') (t := l) h with ⟨rfl, e⟩ | ⟨e, h2⟩
        · exact .inl ⟨rfl, e⟩
        · exact .inr ⟨by simpa using e, h2⟩
theorem pth_inj : ∀ {f k k' : Nat} {p : List Bool}, pth f k = some p → pth f k' = some p → k = k'
  | 0, _, _, _, h, _ => by cases h
  | f + 1, 0, 0, _, _, _ => rfl
  | f + 1, 0, k' + 1, p, h, h' => by
    simp only [pth] at h h'
    cases h
    split at h' <;> cases h'
  | f + 1, k + 1, 0, p, h, h' => by
    simp only [pth] at h h'
    cases h'
    split at h <;> cases h
  | f + 1, k + 1, k' + 1, p, h, h' => by
    simp only [pth] at h h'
    split at h
    · rename_i q hq
      split at h'
      · rename_i q' hq'
        cases h
        simp only [Option.some.injEq, List.cons.injEq] at h'
        obtain ⟨hb, rfl⟩ := h'
        have e := pth_inj hq hq'
        have : k % 2 = k' % 2 := by
          cases h1 : Nat.beq (k % 2) 0 with
          | true =>
            rw [h1] at hb
            have := Nat.eq_of_beq_eq_true h1
            have := Nat.eq_of_beq_eq_true hb
            omega
          | false =>
            rw [h1] at hb
            have a1 : k % 2 ≠ 0 := fun e => by rw [e] at h1; cases h1
            have a2 : k' % 2 ≠ 0 := fun e => by rw [e] at hb; cases hb
            omega
        omega
      · cases h'
    · cases h
theorem Tr.get_upd {α : Type} {v : Option α} {t : Tr α} {k k' : Nat} {x : α} (h : (Tr.upd v dp t k).get k' = some x) : (k' = k ∧ v = some x) ∨ (k' ≠ k ∧ t.get k' = some x) := by
  unfold Tr.get at h ⊢
  unfold Tr.upd at h
  split at h
  · rename_i p' hp'
    split at h
    · rename_i p hp
      rcases Tr.getP_updP h with ⟨rfl, e⟩ | ⟨e, h2⟩
      · exact .inl ⟨pth_inj hp' hp, e⟩
      · exact .inr ⟨fun e2 => by subst e2; rw [hp] at hp'; cases hp'; exact e rfl, h2⟩
    · rw [Tr.getP_e] at h; cases h
  · cases h
/-! ## Values -/
/-- Where a row lies: its block, its first cell, how many cells an element takes that is sliced out of it, how many cells the block has. -/
structure Pl where
  b : Nat
  o : Nat
  w : Nat
  sz : Nat
abbrev Rho := Nat → Option Pl
def atomB : Value → Bool
  | .bool _ | .int _ _ | .float _ _ | .complex _ _ _ | .string _ | .pointer none | .slice none 0 0 | .map none | .chan none | .nilFunc | .nilIface => true
  | _ => false
def notY : Fn → Bool
  | .yield _ => false
  | _ => true
mutual
/-- A ground value stands for a value. -/
inductive VR (ρ : Rho) : Value → Value → Prop
  | atom {v} (h : atomB v = true) : VR ρ v v
  | ptr {i off p} (h : ρ i = some p) : VR ρ (.pointer (some ⟨i, off, none⟩)) (.pointer (some ⟨p.b, p.o + off, none⟩))
  | slice {i off p len cap cap'} (h : ρ i = some p) (hc : cap ≤ cap') (hl : len ≤ cap) (hs : p.o + off + cap' * p.w ≤ p.sz) : VR ρ (.slice (some ⟨i, off, none⟩) len cap) (.slice (some ⟨p.b, p.o + off, none⟩) len cap')
  | slice0 {x a} : VR ρ (.slice (some x) 0 0) (.slice (some a) 0 0)
  | map {i p} (h : ρ i = some p) : VR ρ (.map (some i)) (.map (some p.b))
  | iface {t x y} (h : VR ρ x y) : VR ρ (.iface t x) (.iface t y)
  | func {f xs xs' ys ys'} (hf : notY f = true) (h1 : VRs ρ xs xs') (h2 : VRs ρ ys ys') : VR ρ (.func f ⟨xs⟩ ⟨ys⟩) (.func f ⟨xs'⟩ ⟨ys'⟩)
  | yield {i p} (h : ρ i = some p) : VR ρ (.func (.yield i) #[] #[]) (.func (.yield p.b) #[] #[])
  | agg {xs ys} (h : VRs ρ xs ys) : VR ρ (.agg ⟨xs⟩) (.agg ⟨ys⟩)
  | tuple {xs ys} (h : VRs ρ xs ys) : VR ρ (.tuple ⟨xs⟩) (.tuple ⟨ys⟩)
inductive VRs (ρ : Rho) : List Value → List Value → Prop
  | nil : VRs ρ [] []
  | cons {x y xs ys} (h : VR ρ x y) (hs : VRs ρ xs ys) : VRs ρ (x :: xs) (y :: ys)
end
def Le (ρ ρ' : Rho) : Prop := ∀ i p, ρ i = some p → ρ' i = some p
theorem Le.refl (ρ : Rho) : Le ρ ρ := fun _ _ h => h
theorem Le.trans {ρ1 ρ2 ρ3 : Rho} (h : Le ρ1 ρ2) (h' : Le ρ2 ρ3) : Le ρ1 ρ3 := fun i p hi => h' i p (h i p hi)
mutual
theorem VR.mono {ρ ρ' : Rho} (hl : Le ρ ρ') {x y : Value} (h : VR ρ x y) : VR ρ' x y := by
  cases h with
  | atom h => exact .atom h
  | ptr h => exact .ptr (hl _ _ h)
  | slice h h1 h2 h3 => exact .slice (hl _ _ h) h1 h2 h3
  | slice0 => exact .slice0
  | map h => exact .map (hl _ _ h)
  | iface h => exact .iface (h.mono hl)
  | func hf h1 h2 => exact .func hf (h1.mono hl) (h2.mono hl)
  | yield h => exact .yield (hl _ _ h)
  | agg h => exact .agg (h.mono hl)
  | tuple h => exact .tuple (h.mono hl)
theorem VRs.mono {ρ ρ' : Rho} (hl : Le ρ ρ') {x y : List Value} (h : VRs ρ x y) : VRs ρ' x y := by
  cases h with
  | nil => exact .nil
  | cons h hs => exact .cons (h.mono hl) (hs.mono hl)
end
theorem VRs.len {ρ : Rho} : ∀ {xs ys : List Value}, VRs ρ xs ys → xs.length = ys.length
  | _, _, .nil => rfl
  | _, _, .cons _ hs => by simp [hs.len]
theorem VRs.get {ρ : Rho} : ∀ {xs ys : List Value}, VRs ρ xs ys → ∀ {j : Nat} {x : Value}, xs[j]? = some x → ∃ y, ys[j]? = some y ∧ VR ρ x y
  | _, _, .nil, j, x, h => by simp at h
  | _, _, .cons h hs, j, x, e => by
    cases j with
    | zero => simp at e; subst e; exact ⟨_, rfl, h⟩
    | succ j => simp at e; simpa using hs.get e
theorem VRs.of_get {ρ : Rho} : ∀ {xs ys : List Value}, xs.length = ys.length → (∀ (j : Nat) (x : Value), xs[j]? = some x → ∃ y, ys[j]? = some y ∧ VR ρ x y) → VRs ρ xs ys
  | [], [], _, _ => .nil
  | [], _ :: _, h, _ => by simp at h
  | _ :: _, [], h, _ => by simp at h
  | x :: xs, y :: ys, h, hg => by
    refine .cons ?_ (VRs.of_get (by simpa using h) fun j z hj => by simpa using hg (j + 1) z (by simpa using hj))
    obtain ⟨y', e, r⟩ := hg 0 x rfl
    simp at e; subst e; exact r
theorem VRs.append {ρ : Rho} : ∀ {xs ys xs' ys' : List Value}, VRs ρ xs ys → VRs ρ xs' ys' → VRs ρ (xs ++ xs') (ys ++ ys')
  | _, _, _, _, .nil, h => h
  | _, _, _, _, .cons h hs, h' => .cons h (hs.append h')
theorem VRs.drop {ρ : Rho} : ∀ {n : Nat} {xs ys : List Value}, VRs ρ xs ys → VRs ρ (xs.drop n) (ys.drop n)
  | 0, _, _, h => h
  | n + 1, _, _, .nil => .nil
  | n + 1, _, _, .cons _ hs => by simpa using hs.drop (n := n)
theorem VRs.take {ρ : Rho} : ∀ {n : Nat} {xs ys : List Value}, VRs ρ xs ys → VRs ρ (xs.take n) (ys.take n)
  | 0, _, _, h => by simpa using .nil
  | n + 1, _, _, .nil => .nil
  | n + 1, _, _, .cons h hs => by simpa using .cons h (hs.take (n := n))
theorem VR.one {ρ : Rho} {x y : Value} (h : VR ρ x y) : y.oneCell' = x.oneCell' := by
  cases h <;> first | rfl
/-- It is whole by itself: no row in it. -/
def leafB : Nat → Value → Bool
  | 0, _ => false
  | n + 1, v => match v with
    | .iface _ x => leafB n x
    | .agg cs => cs.toList.all (leafB n)
    | .tuple cs => cs.toList.all (leafB n)
    | .func f a b => notY f && a.toList.all (leafB n) && b.toList.all (leafB n)
    | v => atomB v
theorem VRs.self {ρ : Rho} : ∀ {xs : List Value}, (∀ x ∈ xs, VR ρ x x) → VRs ρ xs xs
  | [], _ => .nil
  | x :: xs, h => .cons (h x List.mem_cons_self) (VRs.self fun y hy => h y (List.mem_cons_of_mem _ hy))
theorem leafB_self {ρ : Rho} : ∀ {n : Nat} {v : Value}, leafB n v = true → VR ρ v v
  | n + 1, v, h => by
    cases v with
    | iface t x => exact .iface (leafB_self (n := n) h)
    | agg cs => obtain ⟨l⟩ := cs; simp only [leafB, List.all_eq_true] at h; exact .agg (VRs.self fun x hx => leafB_self (h x hx))
    | tuple cs => obtain ⟨l⟩ := cs; simp only [leafB, List.all_eq_true] at h; exact .tuple (VRs.self fun x hx => leafB_self (h x hx))
    | func f a b =>
      obtain ⟨a⟩ := a; obtain ⟨b⟩ := b
      simp only [leafB, List.all_eq_true, Bool.and_eq_true] at h
      exact .func h.1.1 (VRs.self fun x hx => leafB_self (h.1.2 x hx)) (VRs.self fun x hx => leafB_self (h.2 x hx))
    | _ => exact .atom h
mutual
theorem leafB_eq {ρ : Rho} {n : Nat} {v y : Value} (h : leafB n v = true) (hr : VR ρ v y) : y = v := by
  cases n with
  | zero => cases h
  | succ n =>
    cases hr with
    | atom h => rfl
    | ptr h' => simp [leafB, atomB] at h
    | slice h' => simp [leafB, atomB] at h
    | slice0 => simp [leafB, atomB] at h
    | map h' => simp [leafB, atomB] at h
    | iface h' => rw [leafB_eq (n := n) h h']
    | func hf h1 h2 =>
      simp only [leafB, Bool.and_eq_true, List.all_eq_true] at h
      rw [leafsB_eq (n := n) h.1.2 h1, leafsB_eq (n := n) h.2 h2]
    | yield h' => simp [leafB, notY] at h
    | agg h1 => simp only [leafB, List.all_eq_true] at h; rw [leafsB_eq (n := n) h h1]
    | tuple h1 => simp only [leafB, List.all_eq_true] at h; rw [leafsB_eq (n := n) h h1]
theorem leafsB_eq {ρ : Rho} {n : Nat} {vs ys : List Value} (h : ∀ x ∈ vs, leafB n x = true) (hr : VRs ρ vs ys) : ys = vs := by
  cases hr with
  | nil => rfl
  | cons h1 h2 => rw [leafB_eq (h _ List.mem_cons_self) h1, leafsB_eq (fun x hx => h x (List.mem_cons_of_mem _ hx)) h2]
end
/-! ## The rows and the world -/
/-- A row of cells (wd: how many cells an element takes; kin: rows that may lie in the same block; ext: it was appended to, and is only read since then); a map; a loop's record (fr: its frame's row of deferred calls); the deferred calls of a frame's rounds. -/
inductive GO where
  | row (wd : Nat) (c : List Value) (kin : List Nat) (ext : Bool)
  | map (es : List (Value × Value × Nat)) (clock : Nat)
  | loop (state : LoopState) (pending : Option Code) (tmps : List (Option Value)) (params : List Nat) (assign body : Code) (dfr : Nat)
  | dfr (on : Bool)
  | iter (m : Option Nat) (since : Nat) (seen : List Nat) (last : Nat)
  deriving Inhabited
structure G where
  t : Tr GO
  nx : Nat
  deriving Inhabited
def G.get (g : G) (i : Nat) : Option GO := g.t.get i
def GO.kin : GO → List Nat
  | .row _ _ k _ => k
  | _ => []
def GO.ext : GO → Bool
  | .row _ _ _ e => e
  | _ => false
def GO.len : GO → Nat
  | .row _ c _ _ => c.length
  | _ => 0
/-- What lies in the block of a row. -/
def GOR (ρ : Rho) (w : World) (p : Pl) : GO → Prop
  | .row wd c _ _ => ∃ C T fz, w.heap[p.b]? = some (.cells C T fz) ∧ (C.size ≤ fz.1 ∨ fz = (0, 0)) ∧ C.size = p.sz ∧ p.o + c.length ≤ p.sz ∧ p.w = wd ∧
      ∀ (j : Nat) (x : Value), c[j]? = some x → ∃ y, C[p.o + j]? = some y ∧ VR ρ x y ∧ x.oneCell' = true
  | .map es clock => ∃ ms : Array MapEntry, w.heap[p.b]? = some (.map ms clock) ∧ ms.size = es.length ∧ p.o = 0 ∧
      ∀ (j : Nat) (k v : Value) (b : Nat), es[j]? = some (k, v, b) → ∃ m, ms[j]? = some m ∧ VR ρ k m.key ∧ VR ρ v m.val ∧ m.born = b
  | .loop state pending tmps params assign body dfr => ∃ l : Loop, w.heap[p.b]? = some (.loop l) ∧ l.state = state ∧ l.pending = pending ∧ l.params = params.toArray ∧ l.assign = assign ∧ l.body = body ∧ l.tmps.size = tmps.length ∧
      (∀ (j : Nat) (x : Value), tmps[j]? = some (some x) → ∃ y, l.tmps[j]? = some y ∧ VR ρ x y) ∧ ∃ q, ρ dfr = some q ∧ l.defers = q.b
  | .dfr on => w.heap[p.b]? = some (.deferred (if on then some [] else none))
  | .iter m since seen last => ∃ m', w.heap[p.b]? = some (.mapIter m' since seen.reverse.toArray last) ∧ VR ρ (.map m) (.map m') ∧ p.o = 0
structure R (ρ : Rho) (g : G) (w : World) : Prop where
  fresh : ∀ i, g.nx ≤ i → ρ i = none
  ob : ∀ i o, g.get i = some o → ∃ p, ρ i = some p ∧ GOR ρ w p o
  apart : ∀ i j a b p q, g.get i = some a → g.get j = some b → ρ i = some p → ρ j = some q → p.b = q.b → i = j ∨ (j ∈ a.kin ∧ b.ext = true ∧ q.o + b.len ≤ p.o + a.len) ∨ (i ∈ b.kin ∧ a.ext = true ∧ p.o + a.len ≤ q.o + b.len)
/-- A block that holds none of the rows. -/
def Off (ρ : Rho) (g : G) (k : Nat) : Prop := ∀ i o p, g.get i = some o → ρ i = some p → p.b ≠ k
structure Fr (ρ : Rho) (g : G) (w : World) (ρ' : Rho) (g' : G) (w' : World) : Prop where
  le : Le ρ ρ'
  size : w.heap.size ≤ w'.heap.size
  keep : ∀ k, k < w.heap.size → Off ρ g k → w'.heap[k]? = w.heap[k]?
  off : ∀ k, k < w.heap.size → Off ρ g k → Off ρ' g' k
  os : SameOs w w'
theorem Fr.refl (ρ : Rho) (g : G) (w : World) : Fr ρ g w ρ g w := ⟨Le.refl _, Nat.le_refl _, fun _ _ _ => rfl, fun _ _ h => h, SameOs.refl _⟩
theorem Fr.trans {ρ1 ρ2 ρ3 : Rho} {g1 g2 g3 : G} {w1 w2 w3 : World} (h : Fr ρ1 g1 w1 ρ2 g2 w2) (h' : Fr ρ2 g2 w2 ρ3 g3 w3) : Fr ρ1 g1 w1 ρ3 g3 w3 :=
  ⟨h.le.trans h'.le, Nat.le_trans h.size h'.size, fun k hk ho => (h'.keep k (Nat.lt_of_lt_of_le hk h.size) (h.off k hk ho)).trans (h.keep k hk ho),
    fun k hk ho => h'.off k (Nat.lt_of_lt_of_le hk h.size) (h.off k hk ho), h.os.trans h'.os⟩
theorem GOR.mono {ρ ρ' : Rho} {w w' : World} {p : Pl} {o : GO} (hl : Le ρ ρ') (hb : w'.heap[p.b]? = w.heap[p.b]?) (h : GOR ρ w p o) : GOR ρ' w' p o := by
  cases o with
  | row wd c k e =>
    obtain ⟨C, T, fz, h1, h2, h3, h4, h6, h5⟩ := h
    exact ⟨C, T, fz, hb.trans h1, h2, h3, h4, h6, fun j x hx => let ⟨y, e1, e2, e3⟩ := h5 j x hx; ⟨y, e1, e2.mono hl, e3⟩⟩
  | loop s pe tm ps as bo d =>
    obtain ⟨l, h1, h2, h3, h4, h5, h6, h7, h8, q, h9, h10⟩ := h
    exact ⟨l, hb.trans h1, h2, h3, h4, h5, h6, h7, fun j x hx => let ⟨y, e1, e2⟩ := h8 j x hx; ⟨y, e1, e2.mono hl⟩, q, hl _ _ h9, h10⟩
  | dfr on => exact hb.trans h
  | iter m s l k =>
    obtain ⟨m', h1, h2, h3⟩ := h
    exact ⟨m', hb.trans h1, h2.mono hl, h3⟩
  | map es c =>
    obtain ⟨ms, h1, h2, h3, h5⟩ := h
    exact ⟨ms, hb.trans h1, h2, h3, fun j k v b hx => let ⟨m, e1, e2, e3, e4⟩ := h5 j k v b hx; ⟨m, e1, e2.mono hl, e3.mono hl, e4⟩⟩
theorem GOR.lt {ρ : Rho} {w : World} {p : Pl} {o : GO} (h : GOR ρ w p o) : p.b < w.heap.size := by
  cases o with
  | row wd c k e => obtain ⟨C, T, fz, h1, -⟩ := h; exact arr_lt h1
  | loop s pe tm ps as bo d => obtain ⟨l, h1, -⟩ := h; exact arr_lt h1
  | dfr on => exact arr_lt (show w.heap[p.b]? = some _ from h)
  | iter m s l k => obtain ⟨m', h1, -⟩ := h; exact arr_lt h1
  | map es c => obtain ⟨ms, h1, -⟩ := h; exact arr_lt h1
/-- The world goes on (draws): nothing of ours has changed. -/
theorem R.world {ρ : Rho} {g : G} {w w' : World} (h : R ρ g w) (hw : ∀ k : Nat, w'.heap[k]? = w.heap[k]?) : R ρ g w' :=
  ⟨h.fresh, fun i o hi => let ⟨p, e, r⟩ := h.ob i o hi; ⟨p, e, r.mono (Le.refl _) (hw _)⟩, h.apart⟩
def Rho.put (ρ : Rho) (i : Nat) (p : Pl) : Rho := fun j => if j = i then some p else ρ j
theorem Rho.put_le {ρ : Rho} {i : Nat} {p : Pl} (h : ρ i = none) : Le ρ (ρ.put i p) := fun j q hj => by
  unfold Rho.put
  split
  · rename_i e; subst e; rw [h] at hj; cases hj
  · exact hj
theorem Rho.put_self {ρ : Rho} {i : Nat} {p : Pl} : ρ.put i p i = some p := by simp [Rho.put]
theorem Rho.put_ne {ρ : Rho} {i j : Nat} {p : Pl} (h : j ≠ i) : ρ.put i p j = ρ j := by simp [Rho.put, h]
/-- How deep a table of rows may be. -/
def G.set (g : G) (i : Nat) (o : GO) : G := { g with t := Tr.upd (some o) dp g.t i }
def G.del (g : G) (i : Nat) : G := { g with t := Tr.upd none dp g.t i }
def G.new (g : G) (o : GO) : G := ⟨Tr.upd (some o) dp g.t g.nx, g.nx + 1⟩
theorem G.get_set {g : G} {i j : Nat} {o x : GO} (h : (g.set i o).get j = some x) : (j = i ∧ x = o) ∨ (j ≠ i ∧ g.get j = some x) := by
  rcases Tr.get_upd h with ⟨h1, h2⟩ | h
  · cases h2; exact .inl ⟨h1, rfl⟩
  · exact .inr h
theorem G.get_del {g : G} {i j : Nat} {x : GO} (h : (g.del i).get j = some x) : j ≠ i ∧ g.get j = some x := by
  rcases Tr.get_upd h with ⟨h1, h2⟩ | h
  · cases h2
  · exact h
theorem G.get_new {g : G} {j : Nat} {o x : GO} (h : (g.new o).get j = some x) : (j = g.nx ∧ x = o) ∨ (j ≠ g.nx ∧ g.get j = some x) := by
  rcases Tr.get_upd h with ⟨h1, h2⟩ | h
  · cases h2; exact .inl ⟨h1, rfl⟩
  · exact .inr h
/-- Rows are forgotten. -/
def G.kill (g : G) : List Nat → G
  | [] => g
  | i :: r => (g.del i).kill r
theorem G.get_kill {j : Nat} {x : GO} : ∀ {l : List Nat} {g : G}, (g.kill l).get j = some x → j ∉ l ∧ g.get j = some x
  | [], g, h => ⟨by simp, h⟩
  | i :: r, g, h => by
    obtain ⟨h1, h2⟩ := G.get_kill (l := r) h
    obtain ⟨h3, h4⟩ := G.get_del h2
    exact ⟨by simp [h1, h3], h4⟩
theorem G.kill_nx : ∀ {l : List Nat} {g : G}, (g.kill l).nx = g.nx
  | [], _ => rfl
  | i :: r, g => G.kill_nx (l := r) (g := g.del i)
theorem R.less {ρ : Rho} {g g' : G} {w : World} (h : R ρ g w) (hn : g'.nx = g.nx) (hs : ∀ i o, g'.get i = some o → g.get i = some o) : R ρ g' w :=
  ⟨fun i hi => h.fresh i (hn ▸ hi), fun i o hi => h.ob i o (hs i o hi), fun i j a b p q h1 h2 => h.apart i j a b p q (hs _ _ h1) (hs _ _ h2)⟩
/-- A new block with a new row in it. -/
theorem R.new {ρ : Rho} {g : G} {w w' : World} {o : GO} {p : Pl} (h : R ρ g w) (hold : ∀ k : Nat, k < w.heap.size → w'.heap[k]? = w.heap[k]?) (hs : w'.heap.size = w.heap.size + 1) (hos : SameOs w w') (hp : p.b = w.heap.size)
    (ho : GOR (ρ.put g.nx p) w' p o) : R (ρ.put g.nx p) (g.new o) w' ∧ Fr ρ g w (ρ.put g.nx p) (g.new o) w' := by
  have hf := h.fresh g.nx (Nat.le_refl _)
  have hle := Rho.put_le (p := p) hf
  refine ⟨⟨fun i hi => ?_, fun i x hi => ?_, fun i j a c p1 q1 h1 h2 e1 e2 e3 => ?_⟩, ⟨hle, by omega, fun k hk _ => hold k hk, fun k hk hoff i x q h1 h2 => ?_, hos⟩⟩
  · have hi : g.nx + 1 ≤ i := hi
    rw [Rho.put_ne (by omega)]; exact h.fresh i (by omega)
  · rcases G.get_new hi with ⟨rfl, rfl⟩ | ⟨hne, hg⟩
    · exact ⟨p, Rho.put_self, ho⟩
    · obtain ⟨q, e, r⟩ := h.ob i x hg
      exact ⟨q, by rw [Rho.put_ne hne]; exact e, r.mono hle (hold _ r.lt)⟩
  · rcases G.get_new h1 with ⟨rfl, rfl⟩ | ⟨hn1, g1⟩ <;> rcases G.get_new h2 with ⟨rfl, rfl⟩ | ⟨hn2, g2⟩
    · exact .inl rfl
    · rw [Rho.put_self] at e1; rw [Rho.put_ne hn2] at e2; cases e1
      obtain ⟨q, f1, f2⟩ := h.ob _ _ g2
      rw [e2] at f1; cases f1
      have := f2.lt; omega
    · rw [Rho.put_self] at e2; rw [Rho.put_ne hn1] at e1; cases e2
      obtain ⟨q, f1, f2⟩ := h.ob _ _ g1
      rw [e1] at f1; cases f1
      have := f2.lt; omega
    · rw [Rho.put_ne hn1] at e1; rw [Rho.put_ne hn2] at e2
      exact h.apart i j a c p1 q1 g1 g2 e1 e2 e3
  · rcases G.get_new h1 with ⟨rfl, rfl⟩ | ⟨hn1, g1⟩
    · rw [Rho.put_self] at h2; cases h2; omega
    · rw [Rho.put_ne hn1] at h2; exact hoff i x q g1 h2
theorem alloc_old {w w0 : World} {b : Obj} (hw0 : ∀ k : Nat, w0.heap[k]? = w.heap[k]?) (hs0 : w0.heap.size = w.heap.size) (k : Nat) (hk : k < w.heap.size) : (w0.alloc b).heap[k]? = w.heap[k]? := by
  rw [← hw0 k]; simp only [World.alloc]; rw [Array.getElem?_push]; rw [if_neg (by omega)]
theorem alloc_new {w w0 : World} {b : Obj} (hs0 : w0.heap.size = w.heap.size) : (w0.alloc b).heap[w.heap.size]? = some b := by
  simp only [World.alloc]; rw [← hs0]; simp
end Go.Gd
end
noncomputable section
namespace Go.Gd
open Go.Sh (leafRun isAggT)
section
variable (P : Program)
def evG (tm : Tr Value) : Operand → Option Value
  | .tmp t => tm.get t
  | .const v => bif leafB 6 v then some v else none
  | .func f => some (.func (.func f) #[] #[])
  | .global _ => none
def evs (tm : Tr Value) : List Operand → Option (List Value)
  | [] => some []
  | x :: r => match evG tm x, evs tm r with
    | some v, some vs => some (v :: vs)
    | _, _ => none
def evPs (tm : Tr Value) : List (Nat × Operand) → Option (List (Nat × Value))
  | [] => some []
  | (i, x) :: r => match evG tm x, evPs tm r with
    | some v, some vs => some ((i, v) :: vs)
    | _, _ => none
/-- A value's cells, each of them one. -/
def cellsG (v : Value) : List Value := v.cells.toList
def onesB (l : List Value) : Bool := l.all (·.oneCell')
def cut (c : List Value) (off n : Nat) : List Value := (c.drop off).take n
/-- Cells written over a row's. -/
def splice (c : List Value) (off : Nat) (vs : List Value) : List Value := c.take off ++ (vs ++ c.drop (off + vs.length))
def zeroG (T : TypeId) : Option Value := match P.info? T with
  | some i => match i.zero with
    | some z => bif leafB 6 z && onesB (cellsG z) && Nat.beq (cellsG z).length i.size then some z else none
    | none => none
  | none => none
def loadG (T : TypeId) (v : Value) (g : G) : Option Value :=
  match v with
  | .pointer (some ⟨i, off, none⟩) => match g.get i, P.underlying T with
    | some (.row _ c _ _), some _ =>
      bif isAggT P T then (bif Nat.ble (off + P.cellsOf T) c.length then some (.agg ⟨cut c off (P.cellsOf T)⟩) else none)
      else c[off]?
    | _, _ => none
  | _ => none
/-- Cells go into a row: rows that may share its block are forgotten. -/
def putG (i off : Nat) (vs : List Value) (g : G) : Option G :=
  match g.get i with
  | some (.row wd c kin false) => bif Nat.ble (off + vs.length) c.length && onesB vs then some ((g.kill kin).set i (.row wd (splice c off vs) [] false)) else none
  | _ => none
def storeG (T : TypeId) (a v : Value) (g : G) : Option G :=
  match a with
  | .pointer (some ⟨i, off, none⟩) => match P.underlying T with
    | some _ => bif Nat.beq (cellsG v).length (P.cellsOf T) then putG i off (cellsG v) g else none
    | none => none
  | _ => none
/-- How many cells an element takes in slices of a variable of this type. -/
def widthG (T : TypeId) : Nat := match P.underlying T with
  | some (.array _ e) => P.cellsOf e
  | _ => 1
def newG (wd : Nat) (c : List Value) (g : G) : Nat × G := (g.nx, g.new (.row wd c [] false))
def ptrV (i : Nat) : Value := .pointer (some ⟨i, 0, none⟩)
def sliV (i len cap : Nat) : Value := .slice (some ⟨i, 0, none⟩) len cap
def allocG (T : TypeId) (g : G) : Option (Value × G) := match zeroG P T with
  | some z => some (ptrV g.nx, g.new (.row (widthG P T) (cellsG z) [] false))
  | none => none
def boxG (T : TypeId) (v : Value) (g : G) : Option (Value × G) :=
  bif onesB (cellsG v) then some (ptrV g.nx, g.new (.row (widthG P T) (cellsG v) [] false)) else none
def fillG (place : Nat → Option (Nat × Nat)) : List Value → List (Nat × Value) → Option (List Value)
  | cells, [] => some cells
  | cells, (i, v) :: rest => match place i with
    | none => none
    | some (off, size) => bif Nat.beq (cellsG v).length size && Nat.ble (off + size) cells.length then fillG place (splice cells off (cellsG v)) rest else none
def placesG (T : TypeId) : Option (Nat → Option (Nat × Nat)) :=
  match P.underlying T with
  | some (.struct fs) => if fs.all (fun f => (P.info? f.type).isSome) then some (fun i => (fs[i]?).map fun f => (f.offset, P.cellsOf f.type)) else none
  | some (.array _ e) => if (P.info? e).isSome then some (fun i => some (i * P.cellsOf e, P.cellsOf e)) else none
  | _ => none
def buildG (T : TypeId) (ps : List (Nat × Value)) : Option Value := match placesG P T, zeroG P T with
  | some pl, some z => match fillG pl (cellsG z) ps with
    | some cs => some (.agg ⟨cs⟩)
    | none => none
  | _, _ => none
/-- A slice type's element: its cells, its bytes, its zero. -/
def elemG (T : TypeId) : Option (Nat × Nat × List Value) := match P.underlying T with
  | some (.slice e) => match P.info? e, zeroG P e with
    | some i, some z => some (i.size, i.bytes, cellsG z)
    | _, _ => none
  | _ => none
/-- So many elements of zeros. -/
def zerosG (z : List Value) : Nat → List Value
  | 0 => []
  | n + 1 => z ++ zerosG z n
def buildSliceG (T : TypeId) (len : Nat) (ps : List (Nat × Value)) (g : G) : Option (Value × G) := match elemG P T with
  | some (n, _, z) => bif Nat.ble (len * n) 16777216 && Nat.blt 0 n then
      match fillG (fun i => some (i * n, n)) (zerosG z len) ps with
      | some cs => bif onesB cs then some (sliV g.nx len len, g.new (.row n cs [] false)) else none
      | none => none
    else none
  | none => none
def natOf : Value → Option Nat
  | .int _ (.ofNat n) => some n
  | _ => none
def makeSliceG (T : TypeId) (l c : Value) (g : G) : Option (Value × G) := match elemG P T, natOf l, natOf c with
  | some (n, b, z), some l, some c =>
    bif Nat.ble l c && Nat.ble (c * b) 1073741824 && Nat.ble c 1073741824 && Nat.blt 0 n then some (sliV g.nx l c, g.new (.row n (zerosG z c) [] false)) else none
  | _, _, _ => none
def fieldOffG (S : TypeId) (f : Nat) : Option Nat := match P.underlying S with
  | some (.struct fs) => match fs[f]? with
    | some fl => bif Nat.beq (P.cellsOf fl.type) 0 then none else some fl.offset
    | none => none
  | _ => none
def fieldAddrG (S : TypeId) (v : Value) (f : Nat) : Option Value := match v, fieldOffG P S f with
  | .pointer (some ⟨i, off, none⟩), some fo => some (.pointer (some ⟨i, off + fo, none⟩))
  | _, _ => none
def partG (T : TypeId) (cs : List Value) (off : Nat) : Option Value := match P.underlying T with
  | some _ => bif isAggT P T then (bif Nat.ble (off + P.cellsOf T) cs.length then some (.agg ⟨cut cs off (P.cellsOf T)⟩) else none) else cs[off]?
  | none => none
def fieldG (T : TypeId) (v : Value) (f : Nat) : Option Value := match v, P.underlying T with
  | .agg ⟨cs⟩, some (.struct fs) => match fs[f]? with
    | some fl => partG P fl.type cs fl.offset
    | none => none
  | _, _ => none
def extractG (v : Value) (j : Nat) : Option Value := match v with
  | .tuple ⟨vs⟩ => vs[j]?
  | _ => none
def indexAddrG (T : TypeId) (x i : Value) : Option Value := match natOf i, P.underlying T with
  | some j, some (.array n e) => match x with
    | .pointer (some ⟨r, off, none⟩) => bif Nat.blt j n && Nat.blt 0 (P.cellsOf e) then some (.pointer (some ⟨r, off + j * P.cellsOf e, none⟩)) else none
    | _ => none
  | some j, some (.slice e) => match x with
    | .slice (some ⟨r, off, none⟩) len _ => bif Nat.blt j len && Nat.blt 0 (P.cellsOf e) then some (.pointer (some ⟨r, off + j * P.cellsOf e, none⟩)) else none
    | _ => none
  | _, _ => none
def indexG (T : TypeId) (x i : Value) : Option Value := match x, natOf i, P.underlying T with
  | .string s, some j, some .string => (s.data.toList[j]?).map fun b => .int .u8 (.ofNat b.toNat)
  | .agg ⟨cs⟩, some j, some (.array n e) => bif Nat.blt j n && Nat.blt 0 (P.cellsOf e) then partG P e cs (j * P.cellsOf e) else none
  | _, _, _ => none
def bndG (dflt : Nat) : Option Value → Option Nat
  | none => some dflt
  | some v => natOf v
/-- A slice expression; of an array's variable: its elements must be as wide as the row says. -/
def sliceG (T : TypeId) (x : Value) (lo hi mx : Option Value) (g : G) : Option Value :=
  match x, P.underlying T with
  | .string s, some .string => match mx, bndG 0 lo, bndG s.size hi with
    | none, some i, some j => bif Nat.ble i j && Nat.ble j s.size then some (.string ⟨⟨(s.data.toList.take j).drop i⟩⟩) else none
    | _, _, _ => none
  | .slice none 0 0, some (.slice e) => bif Nat.blt 0 (P.cellsOf e) then match mx with
    | none => match bndG 0 lo, bndG 0 hi with
      | some 0, some 0 => some (.slice none 0 0)
      | _, _ => none
    | some m => match bndG 0 lo, bndG 0 hi, natOf m with
      | some 0, some 0, some 0 => bif hi.isSome then some (.slice none 0 0) else none
      | _, _, _ => none
  else none
  | .slice (some ⟨r, off, none⟩) len cap, some (.slice e) =>
    match mx with
    | some m => match bndG 0 lo, bndG len hi, natOf m with
      | some 0, some 0, some 0 => bif Nat.blt 0 (P.cellsOf e) && hi.isSome then some (.slice (some ⟨r, off, none⟩) 0 0) else none
      | _, _, _ => none
    | none => match bndG 0 lo, bndG len hi with
      | some i, some j => bif Nat.ble i j && Nat.ble j cap && Nat.blt 0 (P.cellsOf e) then
          match g.get r with
          | some (.row wd _ _ _) => bif Nat.beq wd (P.cellsOf e) then some (.slice (some ⟨r, off + i * P.cellsOf e, none⟩) (j - i) (cap - i)) else none
          | _ => none
        else none
      | _, _ => none
  | .pointer (some ⟨r, off, none⟩), some (.array n e) => match mx, bndG 0 lo, bndG n hi, g.get r with
    | none, some i, some j, some (.row wd c _ _) => bif Nat.ble i j && Nat.ble j n && Nat.beq wd (P.cellsOf e) && Nat.blt 0 wd && Nat.ble (off + n * wd) c.length then
        some (.slice (some ⟨r, off + i * wd, none⟩) (j - i) (n - i)) else none
    | _, _, _, _ => none
  | _, _ => none
/-- Something that is surely not nil; nil: by kinds. -/
def someK : Value → Nat
  | .pointer (some _) => 1
  | .iface _ _ => 2
  | .func _ _ _ => 3
  | .map (some _) => 4
  | .slice (some _) _ _ => 5
  | _ => 0
def nilK : Value → Nat
  | .pointer none => 1
  | .nilIface => 2
  | .nilFunc => 3
  | .map none => 4
  | .slice none 0 0 => 5
  | _ => 0
def typK (T : TypeId) : Nat := match P.underlying T with
  | some (.pointer _) => 1
  | some (.interface _) => 2
  | some (.func ..) => 3
  | some (.map ..) => 4
  | some (.slice _) => 5
  | _ => 6
def eqG (T : TypeId) (x y : Value) : Option Bool :=
  bif (Nat.beq (someK x) (typK P T) && Nat.beq (nilK y) (typK P T)) || (Nat.beq (someK y) (typK P T) && Nat.beq (nilK x) (typK P T)) then some false else
  match x, y with
  | .pointer (some ⟨i, o, none⟩), .pointer (some ⟨j, q, none⟩) => match P.underlying T with
    | some (.pointer e) => bif Nat.beq i j && Nat.blt 0 (P.cellsOf e) then some (Nat.beq o q) else none
    | _ => none
  | _, _ => none
/-- What comes out whole. -/
def outL (x : Option Value) : Option Value := match x with
  | some v => bif leafB 3 v then some v else none
  | none => none
def binG (op : BinOp) (T : TypeId) (x y : Operand) (u v : Value) : Option Value :=
  bif leafB 6 u && leafB 6 v then outL (leafRun P (do eqGuard op T x y u v; binOp op T u v)) else
  match op with
  | .eql => (eqG P T u v).map .bool
  | .neq => (eqG P T u v).map fun b => .bool (!b)
  | _ => none
def bytesG : List Value → Option (List UInt8)
  | [] => some []
  | .int .u8 n :: r => (bytesG r).map (UInt8.ofNat n.toNat :: ·)
  | _ :: _ => none
/-- The first so many elements of a slice, or of a text, as cells. -/
def firstG (n m : Nat) (v : Value) (g : G) : Option (List Value) := match v with
  | .slice none 0 0 => bif Nat.beq m 0 then some [] else none
  | .slice (some ⟨r, off, none⟩) len _ => bif Nat.beq m 0 then some [] else match g.get r with
    | some (.row _ c _ _) => bif Nat.ble (off + m * n) c.length && Nat.ble m len then some (cut c off (m * n)) else none
    | _ => none
  | .string s => bif Nat.beq n 1 then some ((s.data.toList.take m).map fun b => .int .u8 (.ofNat b.toNat)) else none
  | _ => none
def lenG : Value → Option Nat
  | .slice _ n _ => some n
  | .string s => some s.size
  | _ => none
def isU8 (e : TypeId) : Bool := match P.underlying e with
  | some (.int .u8) => true
  | _ => false
def convG (src dst : TypeId) (v : Value) (g : G) : Option (Value × G) :=
  match P.underlying src, P.underlying dst with
  | some .string, some (.slice e) => match v with
    | .string s => bif isU8 P e then some (sliV g.nx s.size s.size, g.new (.row 1 (s.data.toList.map fun b => .int .u8 (.ofNat b.toNat)) [] false)) else none
    | _ => none
  | some (.slice e), some .string => bif isU8 P e then
      match v with
      | .slice a l cap => match firstG 1 l (.slice a l cap) g with
        | some c => (bytesG c).map fun bs => (.string ⟨⟨bs⟩⟩, g)
        | none => none
      | _ => none
    else none
  | some (.slice _), some (.slice e) => bif Nat.beq src dst && isU8 P e then
      match v with
      | .slice (some ⟨i, off, none⟩) l c => match g.get i with
        | some (.row _ _ _ _) => bif Nat.blt 0 l then some (v, g) else none
        | _ => none
      | _ => none
    else none
  | some _, some _ => bif leafB 6 v then (outL (leafRun P (convert src dst v))).map fun u => (u, g) else none
  | _, _ => none
def makeIfG (T : TypeId) (v : Value) : Option Value := match P.underlying T with
  | some (.interface _) | none => none
  | some _ => some (.iface T v)
def okV (ok : Bool) (v : Value) : Value := match ok with
  | true => .tuple ⟨[v, .bool true]⟩
  | false => v
def assertG (x : Value) (T A : TypeId) (ok : Bool) : Option Value :=
  match P.underlying A, x with
  | some (.interface want), .iface t _ => match P.info? t with
    | some i => match Instr.missingMethod want i.methods with
      | none => some (okV ok x)
      | some _ => none
    | none => none
  | some (.interface _), _ => none
  | some _, .iface t v => bif Nat.beq t A then some (okV ok v) else bif ok then (zeroG P A).map fun z => .tuple ⟨[z, .bool false]⟩ else none
  | some _, .nilIface => bif ok then (zeroG P A).map fun z => .tuple ⟨[z, .bool false]⟩ else none
  | _, _ => none
/-- A key's place in a map. -/
def findG (k : Value) : List (Value × Value × Nat) → Nat → TypeDesc → Option (Option (Nat × Value))
  | [], _, _ => some none
  | (k', v, _) :: r, i, d => match Instr.sameNow d k k' with
    | some true => some (some (i, v))
    | some false => findG k r (i + 1) d
    | none => none
def entries (m : Value) (g : G) : Option (List (Value × Value × Nat)) := match m with
  | .map none => some []
  | .map (some r) => match g.get r with
    | some (.map es _) => some es
    | _ => none
  | _ => none
def simpleK (d : TypeDesc) : Bool := match d with
  | .int _ | .string | .bool => true
  | _ => false
def lookG (T : TypeId) (m k : Value) (ok : Bool) (g : G) : Option Value := match P.underlying T with
  | some (.map kt et) => match P.underlying kt, entries m g with
    | some d, some es => bif simpleK d && leafB 2 k then
        match findG k es 0 d with
        | some (some (_, v)) => some (okV ok v)
        | some none => (zeroG P et).map fun z => bif ok then .tuple ⟨[z, .bool false]⟩ else z
        | none => none
      else none
    | _, _ => none
  | _ => none
def mputG (T : TypeId) (m k v : Value) (g : G) : Option G := match P.underlying T, m with
  | some (.map kt _), .map (some r) => match P.underlying kt, g.get r with
    | some d, some (.map es c) => bif simpleK d && leafB 2 k then
        match findG k es 0 d with
        | some (some (i, _)) => some (g.set r (.map (es.modify i fun e => (k, v, e.2.2)) c))
        | some none => some (g.set r (.map (es ++ [(k, v, c)]) (c + 1)))
        | none => none
      else none
    | _, _ => none
  | _, _ => none
/-- append -/
def noInt (T : TypeId) : Bool := match P.underlying T with | some (.int _) | none => false | _ => true
def appG (T T2 : TypeId) (s x : Value) (g : G) : Option (Value × G) := match elemG P T, lenG x with
  | some (n, b, z), some m => bif noInt P T2 && Nat.blt 0 n then
      match firstG n m x g with
      | some vs => match s with
        | .slice none 0 0 => bif Nat.beq m 0 then some (s, g) else
          bif Nat.ble (m * b) 1073741824 && Nat.ble m 1073741824 && onesB vs then some (sliV g.nx m m, g.new (.row n vs [] false)) else none
        | .slice (some ⟨r, off, none⟩) len cap => bif Nat.beq m 0 then some (s, g) else
          bif Nat.ble ((len + m) * b) 1073741824 && Nat.ble (len + m) 1073741824 && onesB vs then
            bif Nat.ble (len + m) cap then
              match putG r (off + len * n) vs g with
              | some g' => some (.slice (some ⟨r, off, none⟩) (len + m) cap, g')
              | none => none
            else match g.get r with
              | some (.row wd c kin false) => bif Nat.beq wd n && Nat.beq (off + len * n) c.length then
                  some (sliV g.nx (len + m) (len + m), (g.set r (.row wd c kin true)).new (.row n (c.drop off ++ vs) (r :: kin) false))
                else none
              | _ => none
          else none
        | _ => none
      | none => none
    else none
  | _, _ => none
def copyG (T : TypeId) (d s : Value) (g : G) : Option (Value × G) := match elemG P T, lenG s, d with
  | some (n, _, _), some ls, .slice (some ⟨r, off, none⟩) ld _ =>
    let m := bif Nat.ble ls ld then ls else ld
    match firstG n m s g with
    | some vs => bif Nat.beq m 0 then some (.int .i64 0, g) else match putG r off vs g with
      | some g' => some (.int .i64 (.ofNat m), g')
      | none => none
    | none => none
  | some _, some _, .slice none 0 0 => some (.int .i64 0, g)
  | _, _, _ => none
def lenBG (T : TypeId) (v : Value) (g : G) : Option Value := match P.underlying T, v with
  | some .string, .string s => some (.int .i64 (.ofNat s.size))
  | some (.slice _), .slice _ n _ => some (.int .i64 (.ofNat n))
  | some (.map _ _), m => (entries m g).map fun es => .int .i64 (.ofNat es.length)
  | _, _ => none
def capBG (T : TypeId) (v : Value) : Option Value := match P.underlying T, v with
  | some (.slice _), .slice none 0 0 => some (.int .i64 0)
  | _, _ => none
def builtG (b : Builtin) (ty : TypeId) (Ts : List TypeId) (vs : List Value) (g : G) : Option (Value × G) := match b, Ts, vs with
  | .len, [T], [v] => (lenBG P T v g).map fun u => (u, g)
  | .cap, [T], [v] => (capBG P T v).map fun u => (u, g)
  | .append, [T, T2], [s, x] => appG P T T2 s x g
  | .copy, [T, _], [d, s] => copyG P T d s g
  | .min, _, vs => bif vs.all (leafB 2) then (outL (leafRun P (Builtin.min_ #[] ty vs.toArray))).map fun u => (u, g) else none
  | .max, _, vs => bif vs.all (leafB 2) then (outL (leafRun P (Builtin.max_ #[] ty vs.toArray))).map fun u => (u, g) else none
  | _, _, _ => none
/-- Iterators over maps. -/
def rangeMG (T : TypeId) (v : Value) (g : G) : Option (Value × G) := match P.underlying T with
  | some (.map _ _) => match v with
    | .map none => some (ptrV g.nx, g.new (.iter none 0 [] 0))
    | .map (some r) => match g.get r with
      | some (.map _ c) => some (ptrV g.nx, g.new (.iter (some r) c [] c))
      | _ => none
    | _ => none
  | _ => none
def notIn (seen : List Nat) (b : Nat) : Bool := !seen.any fun x => Nat.beq x b
def nextMG (v : Value) (g : G) : Option (Value × G) := match v with
  | .pointer (some ⟨i, 0, none⟩) => match g.get i with
    | some (.iter none _ _ _) => some (.tuple ⟨[.bool false]⟩, g)
    | some (.iter (some m) since seen last) => match g.get m with
      | some (.map es clock) => bif seen.isEmpty || es.isEmpty || es.any (fun e => Nat.blt e.2.2 last) then
          match es.filter (fun e => notIn seen e.2.2) with
          | [] => some (.tuple ⟨[.bool false]⟩, g)
          | [(k, v, b)] => bif Nat.blt b since then some (.tuple ⟨[.bool true, k, v]⟩, g.set i (.iter (some m) since (b :: seen) clock)) else none
          | _ => none
        else none
      | _ => none
    | _ => none
  | _ => none
def entryMG (v : Value) (g : G) : Option Value := match v with
  | .pointer (some ⟨i, 0, none⟩) => match g.get i with
    | some (.iter (some m) _ (b :: _) last) => match g.get m with
      | some (.map es clock) => bif Nat.beq clock last then match es.find? (fun e => Nat.beq e.2.2 b) with
          | some (k, v, _) => some (.tuple ⟨[k, v]⟩)
          | none => none
        else none
      | _ => none
    | _ => none
  | _ => none
/-- nilCheck -/
def notNil : Value → Bool
  | .pointer (some _) | .iface _ _ | .func (.func _) _ _ => true
  | _ => false
def methG (t : TypeId) (name : String) : Option FuncId := match P.info? t with
  | some i => match i.methods.find? (·.name == name) with
    | some m => match m.path.toList with
      | [] => match m.func, P.underlying t with
        | some (f, true), some (.pointer _) => some f
        | some (_, false), some (.pointer _) => none
        | some (f, false), some _ => some f
        | _, _ => none
      | _ => none
    | none => none
  | none => none
def nilG (v : Value) : Bool := match v with
  | .func (.method name) ⟨[.iface t _]⟩ _ => (methG P t name).isSome
  | v => notNil v
def undefV : Value := .tuple #[]
def optV (tm : Tr Value) : Option Operand → Option (Option Value)
  | none => some none
  | some x => (evG tm x).map some
/-- An operation that calls nothing. -/
def opG (tm : Tr Value) (g : G) (ty : TypeId) : Op → Option (Value × G)
  | .move x | .assign x => (evG tm x).map fun v => (v, g)
  | .pick c x y => match evG tm c with
    | some (.bool b) => (evG tm (bif b then x else y)).map fun v => (v, g)
    | _ => none
  | .alloc T => allocG P T g
  | .box T x => match evG tm x with | some v => boxG P T v g | none => none
  | .build T ps => match evPs tm ps.toList with | some l => (buildG P T l).map fun v => (v, g) | none => none
  | .buildSlice T n ps => match evPs tm ps.toList with | some l => buildSliceG P T n l g | none => none
  | .load T x => match evG tm x with | some v => (loadG P T v g).map fun u => (u, g) | none => none
  | .store T x y => match evG tm x, evG tm y with | some a, some v => (storeG P T a v g).map fun g' => (undefV, g') | _, _ => none
  | .nilCheck x => match evG tm x with | some v => bif nilG P v then some (v, g) else none | none => none
  | .binOp op T x y _ => match evG tm x, evG tm y with | some u, some v => (binG P op T x y u v).map fun r => (r, g) | _, _ => none
  | .unOp op _ x => match evG tm x with | some u => bif leafB 2 u then (outL (leafRun P (Op.unary op u))).map fun r => (r, g) else none | none => none
  | .convert s d x => match evG tm x with | some v => convG P s d v g | none => none
  | .makeInterface T x => match evG tm x with | some v => (makeIfG P T v).map fun u => (u, g) | none => none
  | .makeFunc fn a b => match evs tm a.toList, evs tm b.toList with | some va, some vb => bif notY fn then some (.func fn ⟨va⟩ ⟨vb⟩, g) else none | _, _ => none
  | .makeMap T none => some (.map (some g.nx), g.new (.map [] 0))
  | .makeSlice T l c => match evG tm l, evG tm c with | some u, some v => makeSliceG P T u v g | _, _ => none
  | .slice T x lo hi mx => match evG tm x, optV tm lo, optV tm hi, optV tm mx with
    | some v, some l, some h, some m => (sliceG P T v l h m g).map fun u => (u, g)
    | _, _, _, _ => none
  | .fieldAddr S x f => match evG tm x with | some v => (fieldAddrG P S v f).map fun u => (u, g) | none => none
  | .field T x f => match evG tm x with | some v => (fieldG P T v f).map fun u => (u, g) | none => none
  | .indexAddr T x i => match evG tm x, evG tm i with | some v, some j => (indexAddrG P T v j).map fun u => (u, g) | _, _ => none
  | .index T x i => match evG tm x, evG tm i with | some v, some j => (indexG P T v j).map fun u => (u, g) | _, _ => none
  | .lookup T m k ok => match evG tm m, evG tm k with | some v, some j => (lookG P T v j ok g).map fun u => (u, g) | _, _ => none
  | .mapUpdate T m k x | .insert T m k x => match evG tm m, evG tm k, evG tm x with | some v, some j, some u => (mputG P T v j u g).map fun g' => (undefV, g') | _, _, _ => none
  | .typeAssert x T A ok => match evG tm x with | some v => (assertG P v T A ok).map fun u => (u, g) | none => none
  | .extract x j => match evG tm x with | some v => (extractG v j).map fun u => (u, g) | none => none
  | .range T x => match evG tm x with | some v => rangeMG P T v g | none => none
  | .next x false => match evG tm x with | some v => nextMG v g | none => none
  | .entry x => match evG tm x with | some v => (entryMG v g).map fun u => (u, g) | none => none
  | .call c => match c.callee with
    | .builtin b => match evs tm c.args.toList with | some vs => builtG P b ty c.argTypes.toList vs g | none => none
    | _ => none
  | _ => none
end
end Go.Gd
end
noncomputable section
namespace Go.Gd
open Go.Sh (isFn)
/-- A frame: its slots, the rows, what is deferred. -/
structure St where
  tm : Tr Value
  nt : Nat
  g : G
  df : List Deferred
  deriving Inhabited
def St.put (st : St) (d : Option Tmp) (v : Value) : Option St := match d with
  | none => some st
  | some t => bif Nat.blt t st.nt then some { st with tm := Tr.upd (some v) dp st.tm t } else none
/-- How code ends. -/
inductive Ex where
  | nx
  | ret
  | exit (id : Nat)
  deriving Inhabited
structure Ev where
  code : Option Nat → Code → St → Option (Ex × St)
  call : FuncId → List Value → G → Option (Value × G)
  round : Nat → List Value → G → Option (Value × G)
  dcall : FuncId → List Value → G → Option G
  deriving Inhabited
section
variable (P : Program) (E : Ev)
def wantG (ops : Array Oper) (tm : Tr Value) (o : Oper) : Option Bool := match o.guard with
  | none => some true
  | some (j, want) => match ((ops[j]?).bind (·.dst)).bind tm.get with
    | some (.bool b) => some (b == want)
    | some (.tuple _) => some false
    | _ => none
/-- Who is called, with what ahead of the arguments and behind them. -/
def calleeG (tm : Tr Value) : Callee → Option (Fn × List Value × List Value)
  | .value fo => match evG tm fo with
    | some (.func f ⟨a⟩ ⟨b⟩) => some (f, a, b)
    | _ => none
  | .invoke recv name => match evG tm recv with
    | some (.iface t v) => (methG P t name).map fun f => (.func f, [v], [])
    | _ => none
  | _ => none
def calleeM (tm : Tr Value) (c : Callee) : Option (Fn × List Value × List Value) := match c with
  | .value fo => match evG tm fo with
    | some (.func (.method name) ⟨[.iface t v]⟩ ⟨[]⟩) => (methG P t name).map fun f => (.func f, [v], [])
    | _ => calleeG P tm c
  | c => calleeG P tm c
def targetG (f : Fn) (vs : List Value) (g : G) : Option (Value × G) := match f with
  | .func f => bif isFn P f then E.call f vs g else none
  | .yield l => E.round l vs g
  | _ => none
/-- What an operation tells, the rows behind it, what it defers. -/
def operV (r : Option Nat) (ops : Array Oper) (o : Oper) (tm : Tr Value) (g : G) : Option (Value × G × Option Deferred) :=
  match wantG ops tm o with
  | none => none
  | some false => some (undefV, g, none)
  | some true => match opG P tm g o.type o.op with
    | some (v, g') => some (v, g', none)
    | none => match o.op with
      | .call c => match calleeM P tm c.callee, evs tm c.args.toList with
        | some (f, a, b), some vs => match targetG P E f (a ++ (vs ++ b)) g with
          | some (v, g') => some (v, g', none)
          | none => none
        | _, _ => none
      | .defer c => match r, calleeG P tm c.callee, evs tm c.args.toList with
        | none, some (.func f, a, b), some vs => match c.callee with
          | .value _ => some (undefV, g, some { target := .fn (.func f) ⟨b⟩, args := ⟨a ++ vs⟩ })
          | _ => none
        | _, _, _ => none
      | _ => none
def operG (r : Option Nat) (ops : Array Oper) (o : Oper) (st : St) : Option St := match operV P E r ops o st.tm st.g with
  | some (v, g, none) => { st with g }.put o.dst v
  | some (v, g, some d) => { st with g, df := d :: st.df }.put o.dst v
  | none => none
def opersG (r : Option Nat) (ops : Array Oper) : List Oper → St → Option St
  | [], st => some st
  | o :: l, st => match operG P E r ops o st with
    | some st' => opersG r ops l st'
    | none => none
/-! ### A region that draws its order -/
/-- What must come before an operation, as bits. -/
def ancOf (acc : List Nat) : List Edge → Nat
  | [] => 0
  | e :: r => (bif Region.binds .any e then 2 ^ e.on ||| acc.getD e.on 0 else 0) ||| ancOf acc r
def ancs : List Oper → List Nat → List Nat
  | [], acc => acc
  | o :: r, acc => ancs r (acc ++ [ancOf acc o.after.toList])
/-- Operations that leave the rows as they are. -/
def stillO (op : Op) : Bool := match op with
  | .move _ | .assign _ | .pick .. | .load .. | .nilCheck _ | .binOp .. | .unOp .. | .makeInterface .. | .makeFunc .. | .slice .. | .fieldAddr .. | .field .. | .indexAddr .. | .index .. | .lookup .. | .typeAssert .. | .extract .. | .build .. => true
  | .convert s d _ => match P.underlying s, P.underlying d with
    | some .string, some (.slice _) => false
    | _, _ => true
  | .call c => match c.callee with
    | .builtin .len | .builtin .cap | .builtin .min | .builtin .max => true
    | _ => false
  | _ => false
/-- And do not look at them. -/
def blindO (op : Op) : Bool := match op with
  | .move _ | .assign _ | .pick .. | .nilCheck _ | .binOp .. | .unOp .. | .makeInterface .. | .makeFunc .. | .fieldAddr .. | .field .. | .indexAddr .. | .index .. | .typeAssert .. | .extract .. | .build .. => true
  | _ => false
def sameV : Nat → Value → Value → Bool
  | 0, _, _ => false
  | n + 1, x, y => match x, y with
    | .bool a, .bool b => a == b
    | .int k a, .int l b => k == l && a == b
    | .string s, .string t => s.data.toList == t.data.toList
    | .pointer none, .pointer none => true
    | .pointer (some ⟨i, o, none⟩), .pointer (some ⟨j, q, none⟩) => Nat.beq i j && Nat.beq o q
    | .slice none 0 0, .slice none 0 0 => true
    | .slice (some ⟨i, o, none⟩) l c, .slice (some ⟨j, q, none⟩) m d => Nat.beq i j && Nat.beq o q && Nat.beq l m && Nat.beq c d
    | .map none, .map none => true
    | .map (some i), .map (some j) => Nat.beq i j
    | .nilFunc, .nilFunc => true
    | .nilIface, .nilIface => true
    | .iface t a, .iface u b => Nat.beq t u && sameV n a b
    | .func (.func f) ⟨a⟩ ⟨b⟩, .func (.func f') ⟨a'⟩ ⟨b'⟩ => Nat.beq f f' && all n a a' && all n b b'
    | .agg ⟨a⟩, .agg ⟨b⟩ => all n a b
    | .tuple ⟨a⟩, .tuple ⟨b⟩ => all n a b
    | _, _ => false
where all (n : Nat) : List Value → List Value → Bool
  | [], [] => true
  | x :: xs, y :: ys => sameV n x y && all n xs ys
  | _, _ => false
/-- Operation by operation: the state ahead of it and what it tells; the last state. -/
def trail (r : Option Nat) (ops : Array Oper) : List Oper → St → Option (List (St × Value) × St)
  | [], st => some ([], st)
  | o :: l, st => match operV P E r ops o st.tm st.g with
    | some (v, g, none) => match { st with g }.put o.dst v with
      | some st' => match trail r ops l st' with
        | some (tr, fin) => some ((st, v) :: tr, fin)
        | none => none
      | none => none
    | _ => none
/-- Operations that lay a row of zeros, or an empty map, and look at nothing. -/
def freshB (o : Oper) : Bool := o.guard.isNone && match o.op with
  | .makeMap _ none | .alloc _ => true
  | _ => false
/-- Which operations must be in order: where one writes what the other looks at or writes; where both may change rows (but a fresh row may be laid early). -/
def confO (ops : Array Oper) (x y : Oper) : Bool := !(x.apart ops y) || (!stillO P x.op && !stillO P y.op && !freshB y)
/-- A fresh row's slot is looked at only behind all that may change rows ahead of it. -/
def lateOk (ops : Array Oper) (B : List Nat) : Bool :=
  (List.range ops.size).all fun k => match ops[k]? with
    | none => false
    | some o => !freshB o || match o.dst with
      | none => true
      | some t => (List.range ops.size).all fun i => Nat.beq i k || match ops[i]? with
        | none => false
        | some o' => !(match o'.dst with | some t' => Nat.beq t' t | none => false) && (!((o'.looksAt ops).any fun t' => Nat.beq t' t) || (Nat.blt k i && (List.range k).all fun e => match ops[e]? with
          | none => false
          | some oe => stillO P oe.op || (B.getD i 0).testBit e))
def orderOk (ops : Array Oper) (B : List Nat) : Bool :=
  lateOk P ops B && (List.range ops.size).all fun j => match ops[j]? with
    | none => false
    | some o => o.after.toList.all (fun e => !Region.binds .any e || Nat.blt e.on j) && (List.range j).all fun i => match ops[i]? with
      | none => false
      | some o' => !confO P ops o' o || (B.getD j 0).testBit i
/-- May this operation be met when so many of the others that change rows are done ('j': all ahead of this place)? -/
def allowedO (ops : Array Oper) (B : List Nat) (i j : Nat) : Bool :=
  (List.range ops.size).all fun e => match ops[e]? with
    | none => true
    | some o => stillO P o.op || ((!(B.getD i 0).testBit e || Nat.blt e j || freshB o) && (!(B.getD e 0).testBit i || Nat.ble j e))
/-- The state ahead of an operation. -/
def atT (tr : List (St × Value)) (fin : St) (j : Nat) : St := match tr[j]? with | some p => p.1 | none => fin
/-- Places where no rows change just ahead of them. -/
def calmB (ops : Array Oper) (j : Nat) : Bool := bif Nat.beq j 0 then false else match ops[j - 1]? with | some o' => stillO P o'.op | none => true
def looksOk (ops : Array Oper) (B : List Nat) (tr : List (St × Value)) (fin : St) : Bool :=
  (List.range ops.size).all fun i => match ops[i]?, tr[i]? with
    | some o, some (st, v) => !stillO P o.op || blindO o.op || (List.range (ops.size + 1)).all fun j =>
        calmB P ops j || !allowedO P ops B i j ||
          match wantG ops st.tm o with
          | some true => match opG P st.tm (atT tr fin j).g o.type o.op with
            | some (v', _) => sameV 8 v' v
            | none => false
          | _ => true
    | _, _ => false
def drawG (r : Option Nat) (ops : Array Oper) (st : St) : Option St :=
  match trail P E r ops ops.toList st with
  | some (tr, fin) => let B := ancs ops.toList []
    bif orderOk P ops B && looksOk P ops B tr fin then some fin else none
  | none => none
/-! ### Code -/
def initG (vs : List Value) : Tr Value := go vs 0 .e
where go : List Value → Nat → Tr Value → Tr Value
  | [], _, t => t
  | v :: r, i, t => go r (i + 1) (Tr.upd (some v) dp t i)
def tmsG (tm : Tr Value) (n : Nat) : List (Option Value) := (List.range n).map tm.get
def initO (vs : List (Option Value)) : Tr Value := go vs 0 .e
where go : List (Option Value) → Nat → Tr Value → Tr Value
  | [], _, t => t
  | some v :: r, i, t => go r (i + 1) (Tr.upd (some v) dp t i)
  | none :: r, i, t => go r (i + 1) t
def putPs : List Nat → List Value → Nat → Tr Value → Option (Tr Value)
  | [], [], _, t => some t
  | p :: ps, v :: vs, n, t => bif Nat.blt p n then putPs ps vs n (Tr.upd (some v) dp t p) else none
  | _, _, _, _ => none
/-- What a frame hands over at its end. -/
def resG (tm : Tr Value) (g : G) : ResultVar → Option Value
  | .tmp t => tm.get t
  | .cell x T => match tm.get x with
    | some v => loadG P T v g
    | none => none
def ressG (tm : Tr Value) (g : G) : List ResultVar → Option (List Value)
  | [] => some []
  | r :: rs => match resG P tm g r, ressG tm g rs with
    | some v, some vs => some (v :: vs)
    | _, _ => none
def tupG : List Value → Value
  | [v] => v
  | vs => .tuple ⟨vs⟩
/-- The deferred calls of a frame that returns. -/
def leaveG : List Deferred → G → Option G
  | [], g => some g
  | d :: ds, g => match d.target with
    | .collected r => match g.get r with
      | some (.dfr true) => leaveG ds (g.set r (.dfr false))
      | _ => none
    | .fn (.func f) ⟨caps⟩ => bif isFn P f then
        match E.dcall f (d.args.toList ++ caps) g with
        | some g' => leaveG ds g'
        | none => none
      else none
    | _ => none
def jumpG : Ex → Option Code
  | .nx => none
  | .ret => some .ret
  | .exit id => some (.exit id)
def exOf : Option Code → Option Ex
  | none => some .nx
  | some .ret => some .ret
  | some (.exit id) => some (.exit id)
  | _ => none
/-- The block for the deferred calls of a loop's rounds: a new one with its mark, or that of the loop around. -/
def enterG (r : Option Nat) (g : G) : Option (Nat × G × List Deferred) := match r with
  | none => some (g.nx, g.new (.dfr true), [{ target := .collected g.nx, args := #[] }])
  | some l => match g.get l with
    | some (.loop _ _ _ _ _ _ d) => some (d, g, [])
    | _ => none
def busyB : LoopState → Bool
  | .busy => true
  | _ => false
def rangeG (r : Option Nat) (f : Operand) (ps : Array Tmp) (assign body : Code) (st : St) : Option (Ex × St) :=
  match evG st.tm f, enterG r st.g with
  | some (.func (.func f) ⟨a⟩ ⟨b⟩), some (d, g, mark) => bif isFn P f then
      match E.call f (a ++ ([.func (.yield g.nx) #[] #[]] ++ b)) (g.new (.loop .ready none (tmsG st.tm st.nt) ps.toList assign body d)) with
      | some (_, g2) => match g2.get g.nx with
        | some (.loop state pending t p as bo d') => bif busyB state then none else
          (exOf pending).map fun e => (e, { st with g := g2.set g.nx (.loop .exhausted pending t p as bo d'), df := mark ++ st.df })
        | _ => none
      | none => none
    else none
  | _, _ => none
def loopG (E : Ev) (r : Option Nat) (a : Code) : Nat → St → Option (Ex × St)
  | 0, _ => none
  | k + 1, st => match E.code r a st with
    | some (.nx, st') => loopG E r a k st'
    | x => x
def codeG (r : Option Nat) (c : Code) (st : St) : Option (Ex × St) := match c with
  | .skip | .label _ => some (.nx, st)
  | .ret => some (.ret, st)
  | .exit id => some (.exit id, st)
  | .seq a b => match E.code r a st with
    | some (.nx, st') => E.code r b st'
    | x => x
  | .cond c a b => match evG st.tm c with
    | some (.bool true) => E.code r a st
    | some (.bool false) => E.code r b st
    | _ => none
  | .block id a => match E.code r a st with
    | some (.exit id', st') => bif Nat.beq id' id then some (.nx, st') else some (.exit id', st')
    | x => x
  | .loop a => loopG E r a 1000000 st
  | .region _ ops false => (opersG P E r ops ops.toList st).map fun s => (.nx, s)
  | .region _ ops true => (drawG P E r ops st).map fun s => (.nx, s)
  | .rangeFunc f ps assign body => rangeG P E r f ps assign body st
  | _ => none
def startG (fn : Func) (vs : List Value) (g : G) : Option St := bif Nat.ble vs.length fn.ntmps then some ⟨initG vs, fn.ntmps, g, []⟩ else none
def endB : Ex → Bool
  | .nx | .ret => true
  | _ => false
def callG (f : FuncId) (vs : List Value) (g : G) : Option (Value × G) := match P.funcs[f]? with
  | some fn => match fn.body, startG fn vs g with
    | some c, some st0 => match E.code none c st0 with
      | some (e, st) => bif endB e then
          match leaveG P E st.df st.g with
          | some g' => match ressG P st.tm g' fn.results.toList with
            | some rs => some (tupG rs, g')
            | none => none
          | none => none
        else none
      | none => none
    | _, _ => none
  | none => none
def roundG (l : Nat) (vs : List Value) (g : G) : Option (Value × G) := match g.get l with
  | some (.loop .ready _ tms ps assign body _) =>
    match putPs ps vs tms.length (initO tms) with
    | some tm => match E.code (some l) assign ⟨tm, tms.length, g, []⟩ with
      | some (.nx, st) => match st.g.get l with
        | some (.loop .ready pe' t' p' a' b' d') =>
          match E.code (some l) body { st with g := st.g.set l (.loop .busy pe' t' p' a' b' d') } with
          | some (e, st2) => match st2.g.get l with
            | some (.loop _ _ t3 q3 a3 b3 d3) => some (.bool (jumpG e).isNone, st2.g.set l (.loop (if (jumpG e).isNone then .ready else .done) (jumpG e) t3 q3 a3 b3 d3))
            | _ => none
          | none => none
        | _ => none
      | _ => none
    | none => none
  | _ => none
/-- Operations that call nothing, one behind the other. -/
def plainG (ops : Array Oper) : List Oper → St → Option St
  | [], st => some st
  | o :: l, st => match wantG ops st.tm o with
    | some true => match opG P st.tm st.g o.type o.op with
      | some (v, g) => match { st with g }.put o.dst v with
        | some st' => plainG ops l st'
        | none => none
      | none => none
    | some false => match st.put o.dst undefV with
      | some st' => plainG ops l st'
      | none => none
    | none => none
/-- The first region of a deferred call that asks 'recover', and what stands behind it. -/
def recG : Code → Option (Array Oper × Oper × List Oper × Code)
  | .seq (.region _ ops false) c => match ops.toList with
    | o :: rest => match o.op, o.guard with
      | .call c0, none => match c0.callee with
        | .builtin .recover => some (ops, o, rest, c)
        | _ => none
      | _, _ => none
    | [] => none
  | _ => none
/-- A deferred call while its caller returns: 'recover' tells nil. -/
def dcallG (f : FuncId) (vs : List Value) (g : G) : Option G := match P.funcs[f]? with
  | some fn => match fn.body, startG fn vs g with
    | some c, some st0 => bif fn.results.isEmpty then
        match recG c with
        | some (ops, o, rest, c') => match st0.put o.dst .nilIface with
          | some st1 => match plainG P ops rest st1 with
            | some st2 => match E.code none c' st2 with
              | some (e, st) => bif endB e && st.df.isEmpty then some st.g else none
              | none => none
            | none => none
          | none => none
        | none => match E.code none c st0 with
          | some (e, st) => bif endB e && st.df.isEmpty then some st.g else none
          | none => none
      else none
    | _, _ => none
  | none => none
def stepE : Ev := ⟨codeG P E, callG P E, roundG E, dcallG P E⟩
end
def ev (P : Program) : Nat → Ev
  | 0 => ⟨fun _ _ _ => none, fun _ _ _ => none, fun _ _ _ => none, fun _ _ _ => none⟩
  | n + 1 => stepE P (ev P n)
end Go.Gd
end
namespace Go.Gd
open Go.Sh (SameOs valOf leafRun leafRun_run isAggT run_sizeOf' run_isAgg' run_cells get_lt arr_lt cell_blk run_loadVar_agg run_loadVar_one info_of_underlying)
variable {P : Program} {ρ : Rho} {g g' : G} {w : World}
theorem VR.ptr_inv {i off : Nat} {y : Value} (h : VR ρ (.pointer (some ⟨i, off, none⟩)) y) : ∃ p, ρ i = some p ∧ y = .pointer (some ⟨p.b, p.o + off, none⟩) := by
  cases h with
  | atom h => simp [atomB] at h
  | ptr h => exact ⟨_, h, rfl⟩
theorem VR.slice_inv {i off len cap : Nat} {y : Value} (h : VR ρ (.slice (some ⟨i, off, none⟩) len cap) y) :
    (∃ p cap', ρ i = some p ∧ y = .slice (some ⟨p.b, p.o + off, none⟩) len cap' ∧ cap ≤ cap' ∧ len ≤ cap ∧ p.o + off + cap' * p.w ≤ p.sz) ∨ (len = 0 ∧ cap = 0 ∧ ∃ a, y = .slice (some a) 0 0) := by
  cases h with
  | atom h => simp [atomB] at h
  | slice h h1 h2 h3 => exact .inl ⟨_, _, h, rfl, h1, h2, h3⟩
  | slice0 => exact .inr ⟨rfl, rfl, _, rfl⟩
theorem VR.map_inv {i : Nat} {y : Value} (h : VR ρ (.map (some i)) y) : ∃ p, ρ i = some p ∧ y = .map (some p.b) := by
  cases h with
  | atom h => simp [atomB] at h
  | map h => exact ⟨_, h, rfl⟩
theorem VR.agg_inv {xs : List Value} {y : Value} (h : VR ρ (.agg ⟨xs⟩) y) : ∃ ys, y = .agg ⟨ys⟩ ∧ VRs ρ xs ys := by
  cases h with
  | atom h => simp [atomB] at h
  | agg h => exact ⟨_, rfl, h⟩
theorem VR.tuple_inv {xs : List Value} {y : Value} (h : VR ρ (.tuple ⟨xs⟩) y) : ∃ ys, y = .tuple ⟨ys⟩ ∧ VRs ρ xs ys := by
  cases h with
  | atom h => simp [atomB] at h
  | tuple h => exact ⟨_, rfl, h⟩
theorem VR.iface_inv {t : TypeId} {x y : Value} (h : VR ρ (.iface t x) y) : ∃ z, y = .iface t z ∧ VR ρ x z := by
  cases h with
  | atom h => simp [atomB] at h
  | iface h => exact ⟨_, rfl, h⟩
theorem VR.atom_inv {x y : Value} (ha : atomB x = true) (h : VR ρ x y) : y = x := by
  cases h with
  | atom h => rfl
  | slice0 => simp [atomB] at ha
  | _ => simp [atomB] at ha
theorem VR.func_inv {f : Fn} {xs ys : List Value} {y : Value} (hf : notY f = true) (h : VR ρ (.func f ⟨xs⟩ ⟨ys⟩) y) : ∃ xs' ys', y = .func f ⟨xs'⟩ ⟨ys'⟩ ∧ VRs ρ xs xs' ∧ VRs ρ ys ys' := by
  cases h with
  | atom h => simp [atomB] at h
  | func _ h1 h2 => exact ⟨_, _, rfl, h1, h2⟩
  | yield h => simp [notY] at hf
/-- A value's cells stand for a value's cells. -/
theorem VR.cells {x y : Value} (h : VR ρ x y) : VRs ρ (cellsG x) y.cells.toList := by
  cases h with
  | agg h => exact h
  | atom h => cases x <;> first | exact .cons (.atom h) .nil | simp [atomB] at h
  | ptr h => exact .cons (.ptr h) .nil
  | slice h h1 h2 h3 => exact .cons (.slice h h1 h2 h3) .nil
  | slice0 => exact .cons .slice0 .nil
  | map h => exact .cons (.map h) .nil
  | iface h => exact .cons (.iface h) .nil
  | func a b c => exact .cons (.func a b c) .nil
  | yield h => exact .cons (.yield h) .nil
  | tuple h => exact .cons (.tuple h) .nil
theorem VRs.ones {xs ys : List Value} (h : VRs ρ xs ys) (ho : onesB xs = true) : ∀ y ∈ ys, y.oneCell' = true := by
  intro y hy
  obtain ⟨j, hj⟩ := List.mem_iff_getElem?.1 hy
  have hl := h.len
  have hlt : j < xs.length := by rw [hl]; exact get_lt hj
  obtain ⟨y', e, r⟩ := h.get (j := j) (x := xs[j]) (by simp [hlt])
  rw [hj] at e; cases e
  rw [r.one]
  exact List.all_eq_true.1 ho _ (List.getElem_mem hlt)
theorem onesB_get {xs : List Value} (h : onesB xs = true) {j : Nat} {x : Value} (hj : xs[j]? = some x) : x.oneCell' = true :=
  List.all_eq_true.1 h _ (List.mem_iff_getElem?.2 ⟨j, hj⟩)
/-- What an operation leaves. -/
def Out (P : Program) {α : Type} (ρ : Rho) (g : G) (w : World) (s : Sem α) (Rv : Rho → α → Prop) (g' : G) : Prop :=
  ∃ ρ' y w', s.run P w = .ok y w' ∧ Rv ρ' y ∧ R ρ' g' w' ∧ Fr ρ g w ρ' g' w'
abbrev OutV (P : Program) (ρ : Rho) (g : G) (w : World) (s : Sem Value) (v : Value) (g' : G) : Prop := Out P ρ g w s (fun ρ' y => VR ρ' v y) g'
theorem Out.same {α : Type} {s : Sem α} {y : α} {Rv : Rho → α → Prop} (hR : R ρ g w) (h : s.run P w = .ok y w) (hv : Rv ρ y) : Out P ρ g w s Rv g := ⟨ρ, y, w, h, hv, hR, Fr.refl _ _ _⟩
/-! ## Reading -/
theorem cut_len {c : List Value} {off n : Nat} (h : off + n ≤ c.length) : (cut c off n).length = n := by simp [cut]; omega
theorem cut_get {c : List Value} {off n j : Nat} {x : Value} (h : (cut c off n)[j]? = some x) : c[off + j]? = some x ∧ j < n := by
  simp only [cut, List.getElem?_take, List.getElem?_drop] at h
  split at h
  · exact ⟨h, by assumption⟩
  · cases h
/-- A part of a row, as the block has it. -/
theorem row_cut {p : Pl} {wd : Nat} {c : List Value} {kin : List Nat} {ext : Bool} (h : GOR ρ w p (.row wd c kin ext)) {off n : Nat} (hn : off + n ≤ c.length) :
    ∃ C T fz, w.heap[p.b]? = some (.cells C T fz) ∧ p.o + off + n ≤ C.size ∧ VRs ρ (cut c off n) (C.extract (p.o + off) (p.o + off + n)).toList := by
  obtain ⟨C, T, fz, h1, h2, h3, h4, h6, h5⟩ := h
  refine ⟨C, T, fz, h1, by omega, VRs.of_get ?_ fun j x hj => ?_⟩
  · rw [cut_len hn]; simp; omega
  · obtain ⟨e1, e2⟩ := cut_get hj
    obtain ⟨y, f1, f2, -⟩ := h5 _ _ e1
    refine ⟨y, ?_, f2⟩
    have hlt := arr_lt f1
    simp only [Array.getElem?_toList, Array.getElem?_extract]
    rw [if_pos (by omega), ← f1]
    congr 1
    omega
theorem loadG_sound {T : TypeId} {v u y : Value} (hR : R ρ g w) (hv : VR ρ v y) (h : loadG P T v g = some u) : ∃ z, (Instr.loadAt T y).run P w = .ok z w ∧ VR ρ u z := by
  unfold loadG at h
  split at h
  · rename_i i off
    obtain ⟨p, hp, rfl⟩ := hv.ptr_inv
    split at h
    · rename_i wd c kin ext d hg hu
      obtain ⟨p', e1, e2⟩ := hR.ob _ _ hg
      rw [hp] at e1; cases e1
      have hun : (P.underlying T).isNone = false := by rw [hu]; rfl
      cases ha : isAggT P T with
      | true =>
        rw [ha] at h
        simp only [cond] at h
        split at h
        · rename_i hn
          cases h
          have hn : off + P.cellsOf T ≤ c.length := Nat.le_of_ble_eq_true hn
          obtain ⟨C, T0, fz, f1, f2, f3⟩ := row_cut e2 hn
          refine ⟨.agg (C.extract (p.o + off) (p.o + off + P.cellsOf T)), ?_, .agg f3⟩
          simp only [Instr.loadAt, Instr.sureAddr, Sem.run_bind, Sem.run_pure, Result.andThen_ok]
          exact run_loadVar_agg hun ha f1 f2
        · cases h
      | false =>
        rw [ha] at h
        simp only [cond] at h
        obtain ⟨C, T0, fz, f1, -, -, -, -, f5⟩ := e2
        obtain ⟨z, z1, z2, -⟩ := f5 _ _ h
        refine ⟨z, ?_, z2⟩
        simp only [Instr.loadAt, Instr.sureAddr, Sem.run_bind, Sem.run_pure, Result.andThen_ok]
        exact run_loadVar_one hun ha f1 z1
    · cases h
  · cases h
/-! ## Writing -/
theorem splice_len {c vs : List Value} {off : Nat} (h : off + vs.length ≤ c.length) : (splice c off vs).length = c.length := by
  simp only [splice, List.length_append, List.length_take, List.length_drop]; omega
theorem splice_get {c vs : List Value} {off j : Nat} (h : off + vs.length ≤ c.length) : (splice c off vs)[j]? = if off ≤ j ∧ j < off + vs.length then vs[j - off]? else c[j]? := by
  unfold splice
  by_cases h1 : j < off
  · rw [List.getElem?_append_left (by simp; omega), List.getElem?_take, if_pos h1, if_neg (by omega)]
  · rw [List.getElem?_append_right (by simp; omega)]
    simp only [List.length_take]
    rw [Nat.min_eq_left (by omega)]
    by_cases h2 : j < off + vs.length
    · rw [List.getElem?_append_left (by omega), if_pos (by omega)]
    · rw [List.getElem?_append_right (by omega), if_neg (by omega), List.getElem?_drop]
      congr 1; omega
/-- Cells stored one behind the other, where nothing is frozen. -/
theorem run_stores {k o : Nat} {T : TypeId} {fz : Nat × Nat} : ∀ (vs : List Value) (i : Nat) (C : Array Value) (w : World), w.heap[k]? = some (.cells C T fz) → (C.size ≤ fz.1 ∨ fz = (0, 0)) → o + i + vs.length ≤ C.size → (∀ v ∈ vs, v.oneCell' = true) →
    ∃ C' w', (storeCells ⟨k, o, none⟩ vs i).run P w = .ok () w' ∧ w'.heap[k]? = some (.cells C' T fz) ∧ C'.size = C.size ∧ (∀ j, C'[j]? = if o + i ≤ j ∧ j < o + i + vs.length then vs[j - (o + i)]? else C[j]?) ∧
      w'.heap.size = w.heap.size ∧ (∀ k', k' ≠ k → w'.heap[k']? = w.heap[k']?) ∧ SameOs w w'
  | [], i, C, w, hb, hz, hs, h1 => ⟨C, w, rfl, hb, rfl, fun j => by rw [if_neg (by simp only [List.length_nil]; omega)], rfl, fun _ _ => rfl, SameOs.refl _⟩
  | v :: vs, i, C, w, hb, hz, hs, h1 => by
    simp only [List.length_cons] at hs
    have hlt : o + i < C.size := by omega
    have hcell : w.cell? ⟨k, o + i, none⟩ = some C[o + i] := by rw [cell_blk hb]; simp [hlt]
    have hfz : w.frozen? ⟨k, o + i, none⟩ = false := by
      simp only [World.frozen?, hb]
      rcases hz with hz | rfl
      · simp; omega
      · simp
    have hst : (store ((⟨k, o, none⟩ : Addr).add i) v).run P w = .ok () (w.setCell ⟨k, o + i, none⟩ v) := by
      rw [run_store P w _ v .plain (h1 v List.mem_cons_self), Addr.add_lit]
      simp [hcell, hfz]
    have hb2 : (w.setCell ⟨k, o + i, none⟩ v).heap[k]? = some (.cells (C.setIfInBounds (o + i) v) T fz) := by
      simp [World.setCell, Array.getElem?_modify, hb]
    obtain ⟨C', w', e1, e2, e3, e4, e5, e6, e7⟩ := run_stores (k := k) (o := o) vs (i + 1) (C.setIfInBounds (o + i) v) (w.setCell ⟨k, o + i, none⟩ v) hb2 (by simpa using hz) (by rw [Array.size_setIfInBounds]; omega) (fun x hx => h1 x (List.mem_cons_of_mem _ hx))
    refine ⟨C', w', ?_, e2, by simpa using e3, fun j => ?_, ?_, fun k' hk => ?_, ?_⟩
    · simp only [storeCells, Sem.run_bind, hst, Result.andThen_ok]; exact e1
    · rw [e4]
      by_cases hj : j = o + i
      · subst hj
        rw [if_neg (by omega), if_pos (by simp)]
        simp [hlt]
      · by_cases h2 : o + (i + 1) ≤ j ∧ j < o + (i + 1) + vs.length
        · rw [if_pos h2, if_pos (by simp; omega)]
          rw [show j - (o + i) = (j - (o + (i + 1))) + 1 by omega]
          simp
        · rw [if_neg h2, if_neg (by simp; omega), Array.getElem?_setIfInBounds_ne (by omega)]
    · rw [e5]; simp [World.setCell]
    · rw [e6 k' hk]; simp [World.setCell, Array.getElem?_modify, Ne.symm hk]
    · exact SameOs.trans ⟨rfl, rfl⟩ e7
/-- Cells go into a row. -/
theorem putG_sound {i off : Nat} {vs ys : List Value} {p : Pl} (hR : R ρ g w) (hp : ρ i = some p) (hv : VRs ρ vs ys) (h : putG i off vs g = some g') :
    ∃ w', (storeCells ⟨p.b, p.o + off, none⟩ ys).run P w = .ok () w' ∧ R ρ g' w' ∧ Fr ρ g w ρ g' w' := by
  unfold putG at h
  split at h
  · rename_i wd c kin hg
    cases hc : Nat.ble (off + vs.length) c.length && onesB vs with
    | false => rw [hc] at h; cases h
    | true =>
      rw [hc] at h
      simp only [cond, Option.some.injEq] at h
      rw [Bool.and_eq_true] at hc
      have hle : off + vs.length ≤ c.length := Nat.le_of_ble_eq_true hc.1
      obtain ⟨p', e1, e2⟩ := hR.ob _ _ hg
      rw [hp] at e1; cases e1
      obtain ⟨C, T, fz, f1, f2, f3, f4, f6, f5⟩ := e2
      have hl := hv.len
      obtain ⟨C', w', s1, s2, s3, s4, s5, s6, s7⟩ := run_stores (P := P) (k := p.b) (o := p.o + off) ys 0 C w f1 f2 (by omega) (hv.ones hc.2)
      have live : ∀ j x, g'.get j = some x → (j = i ∧ x = .row wd (splice c off vs) [] false) ∨ (j ≠ i ∧ j ∉ kin ∧ g.get j = some x) := fun j x hj => by
        rw [← h] at hj
        rcases G.get_set hj with h1 | ⟨h1, h2⟩
        · exact .inl h1
        · obtain ⟨h3, h4⟩ := G.get_kill h2
          exact .inr ⟨h1, h3, h4⟩
      have apart : ∀ j x q, j ≠ i → j ∉ kin → g.get j = some x → ρ j = some q → q.b ≠ p.b := fun j x q h1 h2 h3 h4 e => by
        rcases hR.apart i j _ _ p q hg h3 hp h4 e.symm with e | ⟨e, -⟩ | ⟨-, e, -⟩
        · exact h1 e.symm
        · exact h2 e
        · cases e
      refine ⟨w', s1, ⟨fun j hj => hR.fresh j ?_, fun j x hj => ?_, fun j k a b p1 q1 h1 h2 h3 h4 h5 => ?_⟩, Le.refl _, by rw [s5]; exact Nat.le_refl _, fun k hk ho => s6 k fun e => ?_, fun k hk ho j x q h1 h2 => ?_, s7⟩
      · have : g'.nx = g.nx := by rw [← h]; exact G.kill_nx
        rw [← this]; exact hj
      · rcases live j x hj with ⟨rfl, rfl⟩ | ⟨h1, h2, h3⟩
        · refine ⟨p, hp, C', T, fz, s2, by rw [s3]; exact f2, by rw [s3]; exact f3, by rw [splice_len hle]; exact f4, f6, fun m x hx => ?_⟩
          rw [splice_get hle] at hx
          rw [s4]
          split at hx
          · rename_i hm
            rw [if_pos (by omega)]
            obtain ⟨y, y1, y2⟩ := hv.get hx
            refine ⟨y, ?_, y2, onesB_get hc.2 hx⟩
            rw [show p.o + m - (p.o + off + 0) = m - off by omega]; exact y1
          · rename_i hm
            rw [if_neg (by omega)]
            exact f5 m x hx
        · obtain ⟨q, q1, q2⟩ := hR.ob _ _ h3
          exact ⟨q, q1, q2.mono (Le.refl _) (s6 _ (apart j x q h1 h2 h3 q1))⟩
      · rcases live j a h1 with ⟨rfl, rfl⟩ | ⟨m1, m2, m3⟩ <;> rcases live k b h2 with ⟨rfl, rfl⟩ | ⟨n1, n2, n3⟩
        · exact .inl rfl
        · rw [hp] at h3; cases h3
          exact absurd h5.symm (apart k b q1 n1 n2 n3 h4)
        · rw [hp] at h4; cases h4
          exact absurd h5 (apart j a p1 m1 m2 m3 h3)
        · exact hR.apart j k a b p1 q1 m3 n3 h3 h4 h5
      · subst e; exact ho i _ p hg hp rfl
      · rcases live j x h1 with ⟨rfl, rfl⟩ | ⟨m1, m2, m3⟩
        · exact ho j _ q hg h2
        · exact ho j x q m3 h2
  · cases h
theorem storeG_sound {T : TypeId} {a v x y : Value} (hR : R ρ g w) (ha : VR ρ a x) (hv : VR ρ v y) (h : storeG P T a v g = some g') :
    ∃ w', (Instr.storeAt T x y).run P w = .ok () w' ∧ R ρ g' w' ∧ Fr ρ g w ρ g' w' := by
  unfold storeG at h
  split at h
  · rename_i i off
    obtain ⟨p, hp, rfl⟩ := ha.ptr_inv
    split at h
    · rename_i d hu
      cases hc : Nat.beq (cellsG v).length (P.cellsOf T) with
      | false => rw [hc] at h; cases h
      | true =>
        rw [hc] at h
        have hun : (P.underlying T).isNone = false := by rw [hu]; rfl
        have hl := hv.cells.len
        have hc' := Nat.eq_of_beq_eq_true hc
        obtain ⟨w', e1, e2⟩ := putG_sound (P := P) hR hp hv.cells h
        refine ⟨w', ?_, e2⟩
        simp only [Instr.storeAt, Instr.sureAddr, Sem.run_bind, Sem.run_pure, Result.andThen_ok, storeVar, run_sizeOf' hun]
        rw [if_neg (by simp only [Array.length_toList] at hl; omega)]
        exact e1
    · cases h
  · cases h
/-! ## New rows -/
theorem R.newRow' {ρ : Rho} {g : G} {w w' : World} {C : Array Value} {T : TypeId} {wd : Nat} {c : List Value} {fz : Nat × Nat} {kin : List Nat} (h : R ρ g w) (hold : ∀ k : Nat, k < w.heap.size → w'.heap[k]? = w.heap[k]?) (hs : w'.heap.size = w.heap.size + 1) (hos : SameOs w w')
    (hb : w'.heap[w.heap.size]? = some (.cells C T fz)) (hz : C.size ≤ fz.1 ∨ fz = (0, 0)) (hl : c.length ≤ C.size) (hc : ∀ (j : Nat) (x : Value), c[j]? = some x → ∃ y, C[j]? = some y ∧ VR ρ x y ∧ x.oneCell' = true) :
    R (ρ.put g.nx ⟨w.heap.size, 0, wd, C.size⟩) (g.new (.row wd c kin false)) w' ∧ Fr ρ g w (ρ.put g.nx ⟨w.heap.size, 0, wd, C.size⟩) (g.new (.row wd c kin false)) w' := by
  refine R.new h hold hs hos rfl ⟨C, T, fz, hb, hz, rfl, by simpa using hl, rfl, fun j x hx => ?_⟩
  obtain ⟨y, e1, e2, e3⟩ := hc j x hx
  exact ⟨y, by simpa using e1, e2.mono (Rho.put_le (h.fresh _ (Nat.le_refl _))), e3⟩
theorem R.newRow {ρ : Rho} {g : G} {w w0 : World} {C : Array Value} {T : TypeId} {wd : Nat} {c : List Value} {fz : Nat × Nat} {kin : List Nat} (h : R ρ g w) (hw0 : ∀ k : Nat, w0.heap[k]? = w.heap[k]?) (hs0 : w0.heap.size = w.heap.size) (hos : SameOs w w0)
    (hz : C.size ≤ fz.1 ∨ fz = (0, 0)) (hl : c.length ≤ C.size) (hc : ∀ (j : Nat) (x : Value), c[j]? = some x → ∃ y, C[j]? = some y ∧ VR ρ x y ∧ x.oneCell' = true) :
    R (ρ.put g.nx ⟨w.heap.size, 0, wd, C.size⟩) (g.new (.row wd c kin false)) (w0.alloc (.cells C T fz)) ∧ Fr ρ g w (ρ.put g.nx ⟨w.heap.size, 0, wd, C.size⟩) (g.new (.row wd c kin false)) (w0.alloc (.cells C T fz)) :=
  R.newRow' h (alloc_old hw0 hs0) (by simp only [World.alloc, Array.size_push]; omega) (hos.trans ⟨rfl, rfl⟩) (alloc_new hs0) hz hl hc
theorem zeroG_sound {T : TypeId} {z : Value} (h : zeroG P T = some z) : ∃ i, P.info? T = some i ∧ i.zero = some z ∧ leafB 6 z = true ∧ onesB (cellsG z) = true ∧ (cellsG z).length = i.size := by
  unfold zeroG at h
  split at h
  · rename_i i hi
    split at h
    · rename_i z' hz
      cases hc : leafB 6 z' && onesB (cellsG z') && Nat.beq (cellsG z').length i.size with
      | false => rw [hc] at h; cases h
      | true =>
        rw [hc] at h; cases h
        simp only [Bool.and_eq_true] at hc
        exact ⟨i, hi, hz, hc.1.1, hc.1.2, Nat.eq_of_beq_eq_true hc.2⟩
    · cases h
  · cases h
theorem run_zero {T : TypeId} {z : Value} (h : zeroG P T = some z) (w : World) : (zeroValue T).run P w = .ok z w := by
  obtain ⟨i, h1, h2, -⟩ := zeroG_sound h
  simp [zeroValue, typeInfo, h1, h2]
theorem ptr_new {C : Array Value} {wd : Nat} {ρ : Rho} {g : G} {w : World} : VR (ρ.put g.nx ⟨w.heap.size, 0, wd, C.size⟩) (ptrV g.nx) (.pointer (some ⟨w.heap.size, 0, none⟩)) := by
  have := VR.ptr (ρ := ρ.put g.nx ⟨w.heap.size, 0, wd, C.size⟩) (i := g.nx) (off := 0) Rho.put_self
  simpa [ptrV] using this
theorem allocG_sound {T : TypeId} {v old : Value} (hR : R ρ g w) (h : allocG P T g = some (v, g')) : OutV P ρ g w (Instr.alloc T true (.tuple #[])) v g' := by
  unfold allocG at h
  split at h
  · rename_i z hz
    cases h
    obtain ⟨i, h1, h2, h3, h4, h5⟩ := zeroG_sound hz
    have hself := (leafB_self (ρ := ρ) h3).cells
    obtain ⟨r1, r2⟩ := R.newRow (wd := widthG P T) (T := T) (fz := (0, 0)) (C := z.cells) (c := cellsG z) hR (fun _ => rfl) rfl (SameOs.refl _) (.inr rfl) (by simp [cellsG]) (fun j x hx => ⟨x, by simpa [cellsG] using hx, by
      obtain ⟨y, y1, y2⟩ := hself.get hx
      rw [show z.cells.toList = cellsG z from rfl, hx] at y1
      cases y1; exact y2, onesB_get h4 hx⟩)
    exact ⟨_, _, _, by simp [Instr.alloc, run_zero hz, Go.newVar, Go.newRow], ptr_new, r1, r2⟩
  · cases h
theorem boxG_sound {T : TypeId} {v u y : Value} (hR : R ρ g w) (hv : VR ρ u y) (h : boxG P T u g = some (v, g')) : OutV P ρ g w (Instr.box T y) v g' := by
  unfold boxG at h
  cases hc : onesB (cellsG u) with
  | false => rw [hc] at h; cases h
  | true =>
    rw [hc] at h; cases h
    have hself := hv.cells
    obtain ⟨r1, r2⟩ := R.newRow (wd := widthG P T) (T := T) (fz := (0, 0)) (C := y.cells) (c := cellsG u) hR (fun _ => rfl) rfl (SameOs.refl _) (.inr rfl) (by rw [hself.len]; simp) (fun j x hx => by
      obtain ⟨z, z1, z2⟩ := hself.get hx
      exact ⟨z, by simpa using z1, z2, onesB_get hc hx⟩)
    exact ⟨_, _, _, by simp [Instr.box, Go.newVar, Go.newRow], ptr_new, r1, r2⟩
end Go.Gd
namespace Go.Gd
open Go.Sh (SameOs valOf leafRun leafRun_run isAggT run_sizeOf' run_isAgg' run_cells get_lt arr_lt cell_blk setPart_list run_mapM_list sizeOf_ne isStrT mk_toList)
variable {P : Program} {ρ : Rho} {g g' : G} {w : World}
theorem andB {a b : Bool} {α : Type} {x : Option α} {v : α} (h : (bif a && b then x else none) = some v) : a = true ∧ b = true ∧ x = some v := by
  cases a <;> cases b <;> simp_all
theorem bifT {a : Bool} {α : Type} {x : Option α} {v : α} (h : (bif a then x else none) = some v) : a = true ∧ x = some v := by
  cases a <;> simp_all
theorem natOf_inv {v y : Value} {n : Nat} (h : natOf v = some n) (hr : VR ρ v y) : ∃ k, y = .int k n := by
  unfold natOf at h
  split at h
  · cases h
    exact ⟨_, hr.atom_inv rfl⟩
  · cases h
/-! ## Parts -/
theorem partG_sound {T : TypeId} {cs ys : List Value} {off : Nat} {u : Value} (hv : VRs ρ cs ys) (h : partG P T cs off = some u) : ∃ z, (part T ⟨ys⟩ off).run P w = .ok z w ∧ VR ρ u z := by
  unfold partG at h
  split at h
  · rename_i d hu
    have hun : (P.underlying T).isNone = false := by rw [hu]; rfl
    cases ha : isAggT P T with
    | true =>
      rw [ha] at h; simp only [cond] at h
      split at h
      · rename_i hn; cases h
        have hn := Nat.le_of_ble_eq_true hn
        have hl := hv.len
        refine ⟨.agg (Array.extract ⟨ys⟩ off (off + P.cellsOf T)), by simp [part, run_isAgg' hun, ha, run_sizeOf' hun], ?_⟩
        have : (Array.extract ⟨ys⟩ off (off + P.cellsOf T)) = ⟨cut ys off (P.cellsOf T)⟩ := by
          apply Array.ext'
          simp [cut, List.drop_take]
        rw [this]
        exact .agg (hv.drop.take)
      · cases h
    | false =>
      rw [ha] at h; simp only [cond] at h
      obtain ⟨y, e1, e2⟩ := hv.get h
      exact ⟨y, by simp [part, run_isAgg' hun, ha, e1], e2⟩
  · cases h
theorem fieldG_sound {T : TypeId} {f : Nat} {v u y : Value} (hv : VR ρ v y) (h : fieldG P T v f = some u) : ∃ z, (Instr.field T y f).run P w = .ok z w ∧ VR ρ u z := by
  unfold fieldG at h
  split at h
  · rename_i cs fs hu
    obtain ⟨ys, rfl, hs⟩ := hv.agg_inv
    split at h
    · rename_i fl hfl
      obtain ⟨z, z1, z2⟩ := partG_sound (w := w) hs h
      exact ⟨z, by simp [Instr.field, run_underlying hu, hfl, asAgg, z1], z2⟩
    · cases h
  · cases h
theorem extractG_sound {j : Nat} {v u y : Value} (hv : VR ρ v y) (h : extractG v j = some u) : ∃ z, (Instr.extract y j).run P w = .ok z w ∧ VR ρ u z := by
  unfold extractG at h
  split at h
  · rename_i vs
    obtain ⟨ys, rfl, hs⟩ := hv.tuple_inv
    obtain ⟨z, e1, e2⟩ := hs.get h
    exact ⟨z, by simp [Instr.extract, e1], e2⟩
  · cases h
/-! ## Structs and slices made of parts -/
theorem fillG_sound {place place' : Nat → Option (Nat × Nat)} (hp : ∀ i, place i = place' i) : ∀ (ps qs : List (Nat × Value)) (cs cs' : List Value) (C : Array Value),
    VRs ρ cs C.toList → VRs ρ (ps.map (·.2)) (qs.map (·.2)) → ps.map (·.1) = qs.map (·.1) → fillG place cs ps = some cs' → ∃ C', Instr.fill place' C qs = some C' ∧ VRs ρ cs' C'.toList
  | [], [], cs, cs', C, h1, _, _, h => by simp only [fillG, Option.some.injEq] at h; subst h; exact ⟨C, rfl, h1⟩
  | [], _ :: _, _, _, _, _, _, h, _ => by simp at h
  | _ :: _, [], _, _, _, _, _, h, _ => by simp at h
  | (i, x) :: ps, (i', y) :: qs, cs, cs', C, h1, h2, h3, h => by
    simp only [List.map_cons, List.cons.injEq] at h3
    obtain ⟨rfl, h3⟩ := h3
    simp only [List.map_cons] at h2
    cases h2 with
    | cons hxy h2 =>
      simp only [fillG] at h
      split at h
      · cases h
      · rename_i off size hpl
        obtain ⟨c1, c2, h⟩ := andB h
        have c1 := Nat.eq_of_beq_eq_true c1
        have c2 := Nat.le_of_ble_eq_true c2
        have hc := hxy.cells
        have hl := hc.len
        simp only [Array.length_toList] at hl
        have hcl := h1.len
        simp only [Array.length_toList] at hcl
        have he : y.cells.zipIdx.foldl (fun cs p => cs.setIfInBounds (off + p.2) p.1) C = (y.cells.toList.zipIdx 0).foldl (fun cs p => cs.setIfInBounds (off + p.2) p.1) C := by
          rw [← Array.foldl_toList, Array.toList_zipIdx]
        obtain ⟨C', f1, f2⟩ := fillG_sound hp ps qs (splice cs off (cellsG x)) cs' (y.cells.zipIdx.foldl (fun cs p => cs.setIfInBounds (off + p.2) p.1) C) (by
          rw [he]
          refine VRs.of_get ?_ fun j z hj => ?_
          · rw [splice_len (by omega), hcl]; exact ((setPart_list _ 0 off C 0).1).symm
          · rw [splice_get (by omega)] at hj
            rw [Array.getElem?_toList, (setPart_list _ 0 off C j).2]
            simp only [Array.length_toList]
            split at hj
            · rename_i hm
              rw [if_pos (by omega)]
              exact hc.get hj
            · rename_i hm
              rw [if_neg (by omega)]
              obtain ⟨u, e1, e2⟩ := h1.get hj
              exact ⟨u, by simpa using e1, e2⟩) h2 h3 h
        refine ⟨C', ?_, f2⟩
        simp only [Instr.fill, ← hp i, hpl]
        rw [if_neg (by simp; omega)]
        exact f1
theorem buildG_sound {T : TypeId} {ps : List (Nat × Value)} {qs : Array (Nat × Value)} {u : Value} (h2 : VRs ρ (ps.map (·.2)) (qs.toList.map (·.2))) (h3 : ps.map (·.1) = qs.toList.map (·.1)) (h : buildG P T ps = some u) :
    ∃ z, (Instr.build T qs).run P w = .ok z w ∧ VR ρ u z := by
  unfold buildG at h
  split at h
  · rename_i pl z hpl hz
    split at h
    · rename_i cs hcs
      cases h
      obtain ⟨zi, z1, z2, z3, z4, z5⟩ := zeroG_sound hz
      have hself := (leafB_self (ρ := ρ) z3).cells
      unfold placesG at hpl
      split at hpl
      · rename_i fs hu
        split at hpl
        · rename_i hall
          cases hpl
          obtain ⟨C', f1, f2⟩ := fillG_sound (ρ := ρ) (place' := fun i => (fs.map fun f => (f.offset, P.cellsOf f.type))[i]?) (fun i => by rw [Array.getElem?_map]) ps qs.toList _ cs z.cells hself h2 h3 hcs
          refine ⟨.agg C', ?_, .agg f2⟩
          have hm : (fs.mapM fun f => (do pure (f.offset, ← sizeOf f.type) : Sem (Nat × Nat))).run P w = .ok (fs.map fun f => (f.offset, P.cellsOf f.type)) w := by
            rw [Array.mapM_eq_mapM_toList]
            simp only [Sem.run_map]
            rw [run_mapM_list _ (fun f => (f.offset, P.cellsOf f.type)) w fs.toList (fun f hf => by
              have hi : (P.info? f.type).isSome = true := by
                rw [Array.all_eq_true'] at hall
                exact hall f (by simpa using hf)
              obtain ⟨i, hi⟩ := Option.isSome_iff_exists.1 hi
              simp [sizeOf, typeInfo, hi, Program.cellsOf])]
            simp only [Result.andThen_ok]
            congr 1
            exact Array.ext' (by simp)
          simp only [Instr.build, Sem.run_bind, run_zero hz, Result.andThen_ok, run_underlying hu, hm, f1, Sem.run_pure]
        · cases hpl
      · rename_i n e hu
        split at hpl
        · rename_i hi
          cases hpl
          obtain ⟨i, hi⟩ := Option.isSome_iff_exists.1 hi
          obtain ⟨C', f1, f2⟩ := fillG_sound (ρ := ρ) (place' := fun i => some (i * P.cellsOf e, P.cellsOf e)) (fun i => rfl) ps qs.toList _ cs z.cells hself h2 h3 hcs
          refine ⟨.agg C', ?_, .agg f2⟩
          have hsz : (sizeOf e).run P w = .ok (P.cellsOf e) w := by simp [sizeOf, typeInfo, hi, Program.cellsOf]
          simp only [Instr.build, Sem.run_bind, run_zero hz, Result.andThen_ok, run_underlying hu, hsz, f1, Sem.run_pure]
        · cases hpl
      · cases hpl
    · cases h
  · cases h
theorem elemG_sound {T : TypeId} {n b : Nat} {z : List Value} (h : elemG P T = some (n, b, z)) : ∃ e i zv, P.underlying T = some (.slice e) ∧ P.info? e = some i ∧ i.size = n ∧ i.bytes = b ∧ zeroG P e = some zv ∧ i.zero = some zv ∧ cellsG zv = z ∧ z.length = n ∧ onesB z = true ∧ VRs ρ z z := by
  unfold elemG at h
  split at h
  · rename_i e hu
    split at h
    · rename_i i zv hi hz
      cases h
      obtain ⟨i', z1, z2, z3, z4, z5⟩ := zeroG_sound hz
      rw [hi] at z1; cases z1
      exact ⟨e, i, zv, hu, hi, rfl, rfl, hz, z2, rfl, z5, z4, (leafB_self (ρ := ρ) z3).cells⟩
    · cases h
  · cases h
theorem zerosG_len {z : List Value} : ∀ {n : Nat}, (zerosG z n).length = n * z.length
  | 0 => by simp [zerosG]
  | n + 1 => by simp [zerosG, zerosG_len (n := n), Nat.succ_mul]; omega
theorem zerosG_get {z : List Value} : ∀ {n j : Nat} {x : Value}, (zerosG z n)[j]? = some x → z[j % z.length]? = some x
  | 0, j, x, h => by simp [zerosG] at h
  | n + 1, j, x, h => by
    simp only [zerosG] at h
    by_cases hj : j < z.length
    · rw [List.getElem?_append_left hj] at h
      rw [Nat.mod_eq_of_lt hj]; exact h
    · rw [List.getElem?_append_right (by omega)] at h
      have := zerosG_get h
      rwa [← Nat.mod_eq_sub_mod (by omega)] at this
theorem zerosG_ones {z : List Value} (h : onesB z = true) {n : Nat} : onesB (zerosG z n) = true := by
  refine List.all_eq_true.2 fun x hx => ?_
  obtain ⟨j, hj⟩ := List.mem_iff_getElem?.1 hx
  exact onesB_get h (zerosG_get hj)
/-- The model's row of zeros. -/
theorem zeros_row {z : List Value} {m : Nat} (hz : 0 < z.length) : (Array.range (m * z.length)).map (fun k => (⟨z⟩ : Array Value)[k % (⟨z⟩ : Array Value).size]!) = ⟨zerosG z m⟩ := by
  apply Array.ext'
  apply List.ext_getElem?
  intro j
  simp only [Array.toList_map, Array.toList_range, List.getElem?_map]
  by_cases hj : j < m * z.length
  · have h1 : j < (zerosG z m).length := by rw [zerosG_len]; exact hj
    have h2 := zerosG_get (List.getElem?_eq_getElem h1)
    have h3 : (⟨z⟩ : Array Value)[j % (⟨z⟩ : Array Value).size]! = (zerosG z m)[j] := by
      show (⟨z⟩ : Array Value)[j % z.length]! = _
      rw [getElem!_def, List.getElem?_toArray, h2]
    rw [List.getElem?_range hj, Option.map_some, h3, List.getElem?_eq_getElem h1]
  · have h1 : (zerosG z m).length ≤ j := by rw [zerosG_len]; omega
    rw [List.getElem?_eq_none h1]
    simp; omega
theorem slice_new {C : Array Value} {wd len cap : Nat} {ρ : Rho} {g : G} {w : World} {cap' : Nat} (h1 : len ≤ cap) (h2 : cap ≤ cap') (h3 : cap' * wd ≤ C.size) : VR (ρ.put g.nx ⟨w.heap.size, 0, wd, C.size⟩) (sliV g.nx len cap) (.slice (some ⟨w.heap.size, 0, none⟩) len cap') := by
  have := VR.slice (ρ := ρ.put g.nx ⟨w.heap.size, 0, wd, C.size⟩) (i := g.nx) (off := 0) (len := len) (cap := cap) (cap' := cap') Rho.put_self h2 h1 (by simpa using h3)
  simpa [sliV] using this
theorem buildSliceG_sound {T : TypeId} {len : Nat} {ps : List (Nat × Value)} {qs : Array (Nat × Value)} {u : Value} (hR : R ρ g w) (h2 : VRs ρ (ps.map (·.2)) (qs.toList.map (·.2))) (h3 : ps.map (·.1) = qs.toList.map (·.1)) (h : buildSliceG P T len ps g = some (u, g')) :
    OutV P ρ g w (Instr.buildSlice T len qs) u g' := by
  unfold buildSliceG at h
  split at h
  · rename_i n b z he
    obtain ⟨e, i, zv, hu, hi, rfl, rfl, hz, hz', rfl, hzl, hzo, hzs⟩ := elemG_sound (ρ := ρ) he
    obtain ⟨c1, c2, h⟩ := andB h
    have c1 := Nat.le_of_ble_eq_true c1
    have c2 : 0 < i.size := by simpa using c2
    split at h
    · rename_i cs hcs
      obtain ⟨c3, h⟩ := bifT h
      cases h
      have hsize : (sizeOf e).run P w = .ok i.size w := by simp [sizeOf, typeInfo, hi]
      have hzero := run_zero hz w
      have hzc : zv.cells = ⟨cellsG zv⟩ := rfl
      have key : ∃ C', Instr.fill (fun k => some (k * i.size, i.size)) ((Array.range (len * i.size)).map fun k => (if len * i.size = 0 then (#[] : Array Value) else zv.cells)[k % (if len * i.size = 0 then (#[] : Array Value) else zv.cells).size]!) qs.toList = some C' ∧ VRs ρ cs C'.toList := by
        refine fillG_sound (ρ := ρ) (fun _ => rfl) ps qs.toList (zerosG (cellsG zv) len) cs _ ?_ h2 h3 hcs
        by_cases h0 : len = 0
        · subst h0; simp [zerosG]; exact .nil
        · have : len * i.size ≠ 0 := Nat.mul_ne_zero h0 (by omega)
          simp only [this, if_false]
          rw [← hzl, hzc, zeros_row (by omega)]
          refine VRs.self fun x hx => ?_
          obtain ⟨j, hj⟩ := List.mem_iff_getElem?.1 hx
          have h5 := zerosG_get hj
          obtain ⟨y, y1, y2⟩ := hzs.get h5
          rw [h5] at y1; cases y1; exact y2
      obtain ⟨C', f1, f2⟩ := key
      have hl := f2.len
      simp only [Array.length_toList] at hl
      have hcl : cs.length = len * i.size := by
        have gen : ∀ (ps : List (Nat × Value)) (c c' : List Value), fillG (fun k => some (k * i.size, i.size)) c ps = some c' → c'.length = c.length := by
          intro ps
          induction ps with
          | nil => intro c c' h; simp only [fillG, Option.some.injEq] at h; rw [h]
          | cons p ps ih =>
            intro c c' h
            obtain ⟨i0, x⟩ := p
            simp only [fillG] at h
            obtain ⟨d1, d2, h⟩ := andB h
            have d1 := Nat.eq_of_beq_eq_true d1
            have d2 := Nat.le_of_ble_eq_true d2
            rw [ih _ _ h, splice_len (by omega)]
        rw [gen _ _ _ hcs, zerosG_len, hzl]
      obtain ⟨r1, r2⟩ := R.newRow (wd := i.size) (T := e) (fz := (0, 0)) (C := C') (c := cs) hR (fun _ => rfl) rfl (SameOs.refl _) (.inr rfl) (by omega) (fun j x hx => by
        obtain ⟨y, y1, y2⟩ := f2.get hx
        exact ⟨y, by simpa using y1, y2, onesB_get c3 hx⟩)
      refine ⟨_, _, _, ?_, slice_new (Nat.le_refl _) (Nat.le_refl _) (by omega), r1, r2⟩
      have hrow : (if len * i.size = 0 then (pure #[] : Sem (Array Value)) else do pure (← zeroValue e).cells).run P w = .ok (if len * i.size = 0 then #[] else zv.cells) w := by
        split
        · rfl
        · simp [hzero]
      simp only [Instr.buildSlice, Sem.run_bind, run_underlying hu, Result.andThen_ok, hsize]
      rw [if_neg (by omega)]
      by_cases h0 : len * i.size = 0
      · simp only [h0, if_true] at f1 ⊢
        simp only [Sem.run_bind, Sem.run_pure, Result.andThen_ok]
        rw [f1]
        simp [Go.newRow]
      · simp only [h0, if_false] at f1 ⊢
        simp only [Sem.run_bind, Sem.run_pure, hzero, Result.andThen_ok]
        rw [f1]
        simp [Go.newRow]
    · cases h
  · cases h
theorem makeSliceG_sound {T : TypeId} {l c u x y : Value} (hR : R ρ g w) (hl : VR ρ l x) (hc : VR ρ c y) (h : makeSliceG P T l c g = some (u, g')) : OutV P ρ g w (Instr.makeSlice T x y) u g' := by
  unfold makeSliceG at h
  split at h
  · rename_i n b z l' c' he hl' hc'
    obtain ⟨e, i, zv, hu, hi, rfl, rfl, hz, hz', rfl, hzl, hzo, hzs⟩ := elemG_sound (ρ := ρ) he
    obtain ⟨k1, rfl⟩ := natOf_inv hl' hl
    obtain ⟨k2, rfl⟩ := natOf_inv hc' hc
    obtain ⟨c12, c4, h⟩ := andB h
    rw [Bool.and_eq_true, Bool.and_eq_true] at c12
    obtain ⟨⟨c1, c2⟩, c3⟩ := c12
    have c1 := Nat.le_of_ble_eq_true c1
    have c2 := Nat.le_of_ble_eq_true c2
    have c3 := Nat.le_of_ble_eq_true c3
    have c4 : 0 < i.size := by simpa using c4
    cases h
    have hsize : (sizeOf e).run P w = .ok i.size w := by simp [sizeOf, typeInfo, hi]
    have hinfo : (typeInfo e).run P w = .ok i w := by simp [typeInfo, hi]
    have hzero := run_zero hz w
    have w1 : IntKind.i64.wrap (l' : Int) = l' := by
      simp only [IntKind.wrap, IntKind.signed, IntKind.bits]; simp [Int.bmod]; omega
    have w2 : IntKind.i64.wrap (c' : Int) = c' := by
      simp only [IntKind.wrap, IntKind.signed, IntKind.bits]; simp [Int.bmod]; omega
    have hrow : (if c' * i.size = 0 then (pure #[] : Sem (Array Value)) else do pure (← zeroValue e).cells).run P w = .ok (if c' * i.size = 0 then #[] else zv.cells) w := by
      split
      · rfl
      · simp [hzero]
    have hzc : zv.cells = ⟨cellsG zv⟩ := rfl
    have hC : (Array.range (c' * i.size)).map (fun k => (if c' * i.size = 0 then (#[] : Array Value) else zv.cells)[k % (if c' * i.size = 0 then (#[] : Array Value) else zv.cells).size]!) = ⟨zerosG (cellsG zv) c'⟩ := by
      by_cases h0 : c' = 0
      · subst h0; simp [zerosG]
      · have : c' * i.size ≠ 0 := Nat.mul_ne_zero h0 (by omega)
        simp only [this, if_false]
        rw [← hzl, hzc, zeros_row (by omega)]
    obtain ⟨r1, r2⟩ := R.newRow (wd := i.size) (T := e) (fz := (0, 0)) (C := ⟨zerosG (cellsG zv) c'⟩) (c := zerosG (cellsG zv) c') hR (fun _ => rfl) rfl (SameOs.refl _) (.inr rfl) (by simp) (fun j x hx => by
      refine ⟨x, by simpa using hx, ?_, onesB_get (zerosG_ones hzo) hx⟩
      have h5 := zerosG_get hx
      obtain ⟨y, y1, y2⟩ := hzs.get h5
      rw [h5] at y1; cases y1; exact y2)
    refine ⟨_, _, _, ?_, slice_new c1 (Nat.le_refl _) (by simp [zerosG_len, hzl]), r1, r2⟩
    have hroom : (askRoom (c' * i.bytes)).run P w = .ok () w := by
      unfold askRoom roomBytes
      rw [if_neg (by omega)]; rfl
    have n1 : ¬ ((c' : Int) < 0) := by omega
    have n2 : ¬ ((2 : Int) ^ 48 < (i.bytes : Int) * (c' : Int)) := by
      have h0 : i.bytes * c' ≤ 1073741824 := by rw [Nat.mul_comm]; exact c2
      have h1 : ((i.bytes * c' : Nat) : Int) ≤ 1073741824 := Int.ofNat_le.2 h0
      rw [Int.natCast_mul] at h1
      have : (2 : Int) ^ 48 = 281474976710656 := rfl
      omega
    have n3 : ¬ ((l' : Int) < 0) := by omega
    have n4 : ¬ ((c' : Int) < (l' : Int)) := by omega
    have nn : (decide ((c' : Int) < 0) || decide ((i.bytes : Int) * (c' : Int) > 2 ^ 48)) = false := by rw [Bool.or_eq_false_iff]; exact ⟨decide_eq_false n1, decide_eq_false n2⟩
    simp only [Instr.makeSlice, Sem.run_bind, run_underlying hu, asInt, asIntOf, hinfo, w1, w2, Sem.run_pure, Result.andThen_ok, nn, Bool.false_or, decide_eq_false n3, decide_eq_false n4, Bool.false_eq_true, if_false, Int.toNat_natCast, hroom, hsize, hrow]
    by_cases h0 : c' * i.size = 0
    · simp only [h0, if_true] at hC ⊢
      simp only [Sem.run_bind, Sem.run_pure, Result.andThen_ok]
      rw [hC]
      simp [Go.newRow]
    · simp only [h0, if_false] at hC ⊢
      simp only [Sem.run_bind, Sem.run_pure, hzero, Result.andThen_ok]
      rw [hC]
      simp [Go.newRow]
  · cases h
end Go.Gd
namespace Go.Gd
open Go.Sh (SameOs valOf leafRun leafRun_run isAggT run_sizeOf' run_isAgg' run_cells get_lt arr_lt cell_blk sizeOf_ne mk_toList fieldAddr_run indexAddr_arr indexAddr_sl elem_of)
variable {P : Program} {ρ : Rho} {g g' : G} {w : World}
theorem fieldAddrG_sound {S : TypeId} {f : Nat} {v u y : Value} (hv : VR ρ v y) (h : fieldAddrG P S v f = some u) : ∃ z, (Instr.fieldAt S y f).run P w = .ok z w ∧ VR ρ u z := by
  unfold fieldAddrG at h
  split at h
  · rename_i i off fo hf
    cases h
    obtain ⟨p, hp, rfl⟩ := hv.ptr_inv
    have : Go.Sh.fieldOff P S f = some fo := by
      unfold fieldOffG at hf
      unfold Go.Sh.fieldOff
      split at hf
      · rename_i fs hu
        split at hf
        · rename_i fl hfl
          cases hb : Nat.beq (P.cellsOf fl.type) 0 with
          | true => rw [hb] at hf; cases hf
          | false =>
            rw [hb] at hf
            have : P.cellsOf fl.type ≠ 0 := fun e => by rw [e] at hb; cases hb
            simp only [hu, hfl, this, if_false]
            exact hf
        · cases hf
      · cases hf
    refine ⟨_, fieldAddr_run this w, ?_⟩
    rw [Nat.add_assoc]
    exact .ptr hp
  · cases h
theorem indexAddrG_sound {T : TypeId} {x i u y j : Value} (hx : VR ρ x y) (hi : VR ρ i j) (h : indexAddrG P T x i = some u) : ∃ z, (Instr.indexAt T y j).run P w = .ok z w ∧ VR ρ u z := by
  unfold indexAddrG at h
  split at h
  · rename_i n' n e hn hu
    obtain ⟨k, rfl⟩ := natOf_inv hn hi
    split at h
    · rename_i r off
      obtain ⟨c1, c2, h⟩ := andB h
      cases h
      obtain ⟨p, hp, rfl⟩ := hx.ptr_inv
      rw [Nat.blt_eq] at c1 c2
      refine ⟨_, indexAddr_arr hu (by omega) (by omega) (by omega) w, ?_⟩
      rw [Nat.add_assoc]
      exact .ptr hp
    · cases h
  · rename_i n' e hn hu
    obtain ⟨k, rfl⟩ := natOf_inv hn hi
    split at h
    · rename_i r off len cap
      obtain ⟨c1, c2, h⟩ := andB h
      cases h
      rw [Nat.blt_eq] at c1 c2
      rcases hx.slice_inv with ⟨p, cap', hp, rfl, -⟩ | ⟨rfl, -, -⟩
      · refine ⟨_, indexAddr_sl hu (by omega) (by omega) (by omega) w, ?_⟩
        rw [Nat.add_assoc]
        exact .ptr hp
      · omega
    · cases h
  · cases h
theorem indexG_sound {T : TypeId} {x i u y j : Value} (hx : VR ρ x y) (hi : VR ρ i j) (h : indexG P T x i = some u) : ∃ z, (Instr.index T y j).run P w = .ok z w ∧ VR ρ u z := by
  unfold indexG at h
  split at h
  · rename_i s n hn hu
    obtain ⟨k, rfl⟩ := natOf_inv hn hi
    rw [hx.atom_inv rfl]
    simp only [Option.map_eq_some_iff] at h
    obtain ⟨b, hb, rfl⟩ := h
    have hlt := get_lt hb
    have hsz : s.data.toList.length = s.size := by simp
    refine ⟨.int .u8 b.toNat, ?_, .atom rfl⟩
    rw [run_index_string w T s k n hu, dif_pos ⟨by omega, by omega⟩]
    congr 3
    have : s[n]'(by omega) = b := by
      have h1 : s.data.toList[n]'hlt = b := by rw [List.getElem?_eq_getElem hlt] at hb; exact Option.some.inj hb
      rw [← h1]; rfl
    simp only [Int.toNat_natCast, this]
  · rename_i cs n m e hn hu
    obtain ⟨k, rfl⟩ := natOf_inv hn hi
    obtain ⟨ys, rfl, hs⟩ := hx.agg_inv
    obtain ⟨c1, c2, h⟩ := andB h
    rw [Nat.blt_eq] at c1 c2
    obtain ⟨z, z1, z2⟩ := partG_sound (w := w) hs h
    refine ⟨z, ?_, z2⟩
    simp [Instr.index, asIntOf, run_underlying hu, c1, sizeOf_ne (P := P) (e := e) (by omega), z1]
  · cases h
/-! ## Slice expressions -/
def OptR (ρ : Rho) : Option Value → Option Value → Prop
  | none, none => True
  | some x, some y => VR ρ x y
  | _, _ => False
theorem bndG_sound {d n : Nat} {x y : Option Value} (hr : OptR ρ x y) (h : bndG d x = some n) : (y = none ∧ n = d) ∨ ∃ k, y = some (.int k n) := by
  cases x with
  | none => cases y with
    | none => cases h; exact .inl ⟨rfl, rfl⟩
    | some _ => exact hr.elim
  | some v => cases y with
    | none => exact hr.elim
    | some u => obtain ⟨k, rfl⟩ := natOf_inv h hr; exact .inr ⟨k, rfl⟩
theorem bounds_run {sl : Bool} {len cap i j : Nat} {lo hi lo' hi' : Option Value} (h1 : OptR ρ lo lo') (h2 : OptR ρ hi hi') (b1 : bndG 0 lo = some i) (b2 : bndG len hi = some j) (hij : i ≤ j) (hj : j ≤ cap) :
    (Instr.sliceBounds sl len cap lo' hi' none).run P w = .ok (i, j, cap) w := by
  rcases bndG_sound h1 b1 with ⟨rfl, rfl⟩ | ⟨k1, rfl⟩ <;> rcases bndG_sound h2 b2 with ⟨rfl, rfl⟩ | ⟨k2, rfl⟩
  · simp [Instr.sliceBounds]
  · simp [Instr.sliceBounds, run_sliceBound w k2 j cap _ (by omega) (by omega)]
  · simp [Instr.sliceBounds, run_sliceBound w k1 i j _ (by omega) (by omega)]
  · simp [Instr.sliceBounds, run_sliceBound w k2 j cap _ (by omega) (by omega), run_sliceBound w k1 i j _ (by omega) (by omega)]
theorem bounds0_run {sl : Bool} {len cap : Nat} {lo hi mx lo' hi' mx' : Option Value} (h1 : OptR ρ lo lo') (h2 : OptR ρ hi hi') (h3 : OptR ρ mx mx') (hm : ∃ m, mx = some m ∧ natOf m = some 0) (b1 : bndG 0 lo = some 0) (b2 : bndG len hi = some 0) (hh : hi.isSome = true) :
    (Instr.sliceBounds sl len cap lo' hi' mx').run P w = .ok (0, 0, 0) w := by
  obtain ⟨m, rfl, hm⟩ := hm
  obtain ⟨x, rfl⟩ := Option.isSome_iff_exists.1 hh
  have z : ∀ (k : IntKind) (y : Nat) (code : BoundsCode), (Instr.sliceBound (.int k 0) y code).run P w = .ok 0 w := fun k y code => by simp [Instr.sliceBound, asIntOf]
  cases mx' with
  | none => exact h3.elim
  | some m' =>
    obtain ⟨k3, rfl⟩ := natOf_inv hm h3
    rcases bndG_sound h2 b2 with ⟨rfl, -⟩ | ⟨k2, rfl⟩
    · exact h2.elim
    · rcases bndG_sound h1 b1 with ⟨rfl, -⟩ | ⟨k1, rfl⟩
      · simp [Instr.sliceBounds, z]
      · simp [Instr.sliceBounds, z]
theorem sliceG_sound {T : TypeId} {x u y : Value} {lo hi mx lo' hi' mx' : Option Value} (hR : R ρ g w) (hx : VR ρ x y) (h1 : OptR ρ lo lo') (h2 : OptR ρ hi hi') (h3 : OptR ρ mx mx') (h : sliceG P T x lo hi mx g = some u) :
    ∃ z, (Instr.sliceAt T y lo' hi' mx').run P w = .ok z w ∧ VR ρ u z := by
  unfold sliceG at h
  split at h
  · rename_i s hu
    rw [hx.atom_inv rfl]
    split at h
    · rename_i i j b1 b2
      have hmx : mx' = none := by cases mx' with
        | none => rfl
        | some _ => exact h3.elim
      subst hmx
      obtain ⟨c1, c2, h⟩ := andB h
      cases h
      have c1 := Nat.le_of_ble_eq_true c1
      have c2 := Nat.le_of_ble_eq_true c2
      refine ⟨.string ⟨⟨(s.data.toList.take j).drop i⟩⟩, ?_, .atom rfl⟩
      rw [run_sliceAt_string w T _ _ _ _ hu]
      have hb := bounds_run (P := P) (w := w) (sl := false) (cap := s.size) h1 h2 b1 b2 c1 c2
      have : s.extract i j = ⟨⟨(s.data.toList.take j).drop i⟩⟩ := by
        apply ByteArray.ext
        apply Array.ext'
        simp [ByteArray.data_extract, List.drop_take]
      simp [Instr.slice, run_underlying hu, hb, this]
    · cases h
  · rename_i e hu
    rw [hx.atom_inv rfl]
    have hue : P.underlying T = some (.slice (P.elem T)) := by rw [elem_of hu]; exact hu
    obtain ⟨c0, h⟩ := bifT h
    rw [Nat.blt_eq] at c0
    have hsz : (sizeOf (P.elem T)).run P w = .ok (P.cellsOf e) w := by rw [elem_of hu]; exact sizeOf_ne (by omega) w
    cases mx with
    | none =>
      have hmx' : mx' = none := by cases mx' with
        | none => rfl
        | some _ => exact h3.elim
      subst hmx'
      simp only at h
      split at h
      · rename_i b1 b2
        cases h
        have hb := bounds_run (P := P) (w := w) (sl := true) (len := 0) (cap := 0) h1 h2 b1 b2 (Nat.le_refl _) (Nat.le_refl _)
        exact ⟨sliced none 0 0 0 (P.cellsOf e), by rw [run_sliceAt_slice w T _ _ _ _ hue, run_slice_any w T _ _ 0 hue]; simp only [hb, Result.andThen_ok, hsz], .atom rfl⟩
      · cases h
    | some m =>
      simp only at h
      split at h
      · rename_i b1 b2 hh
        obtain ⟨c1, h⟩ := bifT h
        cases h
        have hb := bounds0_run (P := P) (w := w) (sl := true) (len := 0) (cap := 0) h1 h2 h3 ⟨m, rfl, hh⟩ b1 b2 c1
        exact ⟨sliced none 0 0 0 (P.cellsOf e), by rw [run_sliceAt_slice w T _ _ _ _ hue, run_slice_any w T _ _ 0 hue]; simp only [hb, Result.andThen_ok, hsz], .atom rfl⟩
      · cases h
  · rename_i r off len cap e hu
    have hue : P.underlying T = some (.slice (P.elem T)) := by rw [elem_of hu]; exact hu
    have hel := elem_of hu
    split at h
    · rename_i m
      split at h
      · rename_i b1 b2 b3
        obtain ⟨c0, c1, h⟩ := andB h
        rw [Nat.blt_eq] at c0
        cases h
        have hsz : (sizeOf (P.elem T)).run P w = .ok (P.cellsOf e) w := by rw [hel]; exact sizeOf_ne (by omega) w
        have hex : ∃ a cap', y = .slice (some a) len cap' := by
          rcases hx.slice_inv with ⟨p, cap', hp, rfl, -⟩ | ⟨rfl, -, a, rfl⟩ <;> exact ⟨_, _, rfl⟩
        obtain ⟨a, cap', rfl⟩ := hex
        have hb := bounds0_run (P := P) (w := w) (sl := true) (len := len) (cap := cap') h1 h2 h3 ⟨m, rfl, b3⟩ b1 b2 c1
        exact ⟨sliced (some a) 0 0 0 (P.cellsOf e), by rw [run_sliceAt_slice w T _ _ _ _ hue, run_slice_any w T _ _ cap' hue]; simp only [hb, Result.andThen_ok, hsz], .slice0⟩
      · cases h
    · rename_i hmx
      have hmx' : mx' = none := by cases mx' with
        | none => rfl
        | some _ => exact h3.elim
      subst hmx'
      split at h
      · rename_i i j b1 b2
        obtain ⟨c12, c3, h⟩ := andB h
        rw [Bool.and_eq_true] at c12
        have c1 := Nat.le_of_ble_eq_true c12.1
        have c2 := Nat.le_of_ble_eq_true c12.2
        rw [Nat.blt_eq] at c3
        split at h
        · rename_i wd c kin ext hg
          obtain ⟨c4, h⟩ := bifT h
          have c4 := Nat.eq_of_beq_eq_true c4
          cases h
          have hsz : (sizeOf (P.elem T)).run P w = .ok (P.cellsOf e) w := by rw [hel]; exact sizeOf_ne (by omega) w
          rcases hx.slice_inv with ⟨p, cap', hp, rfl, d1, d2, d3⟩ | ⟨rfl, rfl, a, rfl⟩
          · obtain ⟨p', f1, C, T0, fz, f2, f3, f4, f5, f6, -⟩ := hR.ob _ _ hg
            rw [hp] at f1; cases f1
            have hb := bounds_run (P := P) (w := w) (sl := true) (cap := cap') h1 h2 b1 b2 c1 (by omega)
            refine ⟨sliced (some ⟨p.b, p.o + off, none⟩) i j cap' (P.cellsOf e), by rw [run_sliceAt_slice w T _ _ _ _ hue, run_slice_any w T _ _ cap' hue]; simp only [hb, Result.andThen_ok, hsz], ?_⟩
            simp only [sliced]
            by_cases hc : cap' = i
            · rw [if_pos hc]
              have : j - i = 0 := by omega
              have h5 : cap - i = 0 := by omega
              have h6 : cap' - i = 0 := by omega
              rw [this, h5, h6]
              exact .slice0
            · rw [if_neg hc]
              simp only [Option.map_some, Addr.add_lit, Nat.add_assoc]
              refine .slice hp (by omega) (by omega) ?_
              have h7 : i * P.cellsOf e + (cap' - i) * p.w = cap' * p.w := by
                rw [f6, c4, ← Nat.add_mul]; congr 1; omega
              omega
          · have hb := bounds_run (P := P) (w := w) (sl := true) (cap := 0) h1 h2 b1 b2 c1 c2
            have hi0 : i = 0 := by omega
            have hj0 : j = 0 := by omega
            subst hi0; subst hj0
            refine ⟨sliced (some a) 0 0 0 (P.cellsOf e), by rw [run_sliceAt_slice w T _ _ _ _ hue, run_slice_any w T _ _ 0 hue]; simp only [hb, Result.andThen_ok, hsz], ?_⟩
            simp only [sliced, if_true, Nat.sub_self, Nat.zero_sub]
            exact .slice0
        · cases h
      · cases h
  · rename_i r off n e hu
    split at h
    · rename_i i j wd c kin ext b1 b2 hg
      have hmx' : mx' = none := by cases mx' with
        | none => rfl
        | some _ => exact h3.elim
      subst hmx'
      obtain ⟨c1234, c5, h⟩ := andB h
      simp only [Bool.and_eq_true] at c1234
      obtain ⟨⟨⟨c1, c2⟩, c3⟩, c4⟩ := c1234
      have c1 := Nat.le_of_ble_eq_true c1
      have c2 := Nat.le_of_ble_eq_true c2
      have c3 := Nat.eq_of_beq_eq_true c3
      rw [Nat.blt_eq] at c4
      have c5 := Nat.le_of_ble_eq_true c5
      cases h
      obtain ⟨p, hp, rfl⟩ := hx.ptr_inv
      obtain ⟨p', f1, C, T0, fz, f2, f3, f4, f5, f6, -⟩ := hR.ob _ _ hg
      rw [hp] at f1; cases f1
      have hb := bounds_run (P := P) (w := w) (sl := false) (cap := n) h1 h2 b1 b2 c1 c2
      have hsz : (sizeOf e).run P w = .ok (P.cellsOf e) w := sizeOf_ne (by omega) w
      refine ⟨.slice (some (if n = i then ⟨p.b, p.o + off, none⟩ else (⟨p.b, p.o + off, none⟩ : Addr).add (i * P.cellsOf e))) (j - i) (n - i), ?_, ?_⟩
      · simp [Instr.sliceAt, run_underlying hu, Instr.sureAddr, hb, hsz]
      · by_cases hc : n = i
        · have h5 : j - i = 0 := by omega
          have h6 : n - i = 0 := by omega
          rw [h5, h6]
          exact .slice0
        · rw [if_neg hc, ← c3, Addr.add_lit, Nat.add_assoc]
          refine .slice hp (Nat.le_refl _) (by omega) ?_
          have h7 : i * wd + (n - i) * p.w = n * wd := by
            rw [f6, ← Nat.add_mul]; congr 1; omega
          omega
    · cases h
  · cases h
/-! ## Comparisons -/
theorem VR.someK {x y : Value} (h : VR ρ x y) : someK y = someK x := by
  cases h <;> rfl
theorem VR.nilK {x y : Value} (h : VR ρ x y) : Go.Gd.nilK x ≠ 0 → y = x := by
  intro hn
  cases h <;> first | rfl | (simp [Go.Gd.nilK] at hn)
theorem equalIn_nil (d : Nat) (w' : World) {T : TypeId} {u v : Value} (h1 : Go.Gd.someK u = typK P T) (h2 : Go.Gd.nilK v = typK P T) :
    (Op.equalIn (d + 1) T u v).run P w' = .ok false w' ∧ (Op.equalIn (d + 1) T v u).run P w' = .ok false w' := by
  unfold typK at h1 h2
  cases hu : P.underlying T with
  | none => rw [hu] at h1; unfold Go.Gd.someK at h1; split at h1 <;> simp at h1
  | some t =>
    rw [hu] at h1 h2
    unfold Go.Gd.someK at h1
    unfold Go.Gd.nilK at h2
    cases t <;> simp only [] at h1 h2 <;> (split at h1 <;> simp at h1) <;> (split at h2 <;> simp at h2) <;>
      (refine ⟨?_, ?_⟩ <;> (unfold Op.equalIn; simp [run_underlying hu]))
theorem eqNil (w' : World) {T : TypeId} {u v : Value} (h1 : Go.Gd.someK u = typK P T) (h2 : Go.Gd.nilK v = typK P T) :
    (Op.equal T u v).run P w' = .ok false w' ∧ (Op.equal T v u).run P w' = .ok false w' ∧
    (∀ op ox oy, eqGuard op T ox oy u v = pure () ∧ eqGuard op T ox oy v u = pure ()) ∧
    (binOp .eql T u v = (do pure (.bool (← Op.equal T u v)) : Sem Value) ∧ binOp .neq T u v = (do pure (.bool (!(← Op.equal T u v))) : Sem Value) ∧
      binOp .eql T v u = (do pure (.bool (← Op.equal T v u)) : Sem Value) ∧ binOp .neq T v u = (do pure (.bool (!(← Op.equal T v u))) : Sem Value)) := by
  obtain ⟨e1, e2⟩ := equalIn_nil 9999 w' h1 h2
  refine ⟨e1, e2, ?_⟩
  have hne : typK P T ≠ 0 := by unfold typK; split <;> simp
  rw [← h1] at hne h2
  unfold Go.Gd.someK at hne h2
  unfold Go.Gd.nilK at h2
  split at hne <;> simp at hne <;> (split at h2 <;> simp at h2) <;> exact ⟨fun op ox oy => ⟨by cases op <;> rfl, by cases op <;> rfl⟩, rfl, rfl, rfl, rfl⟩
theorem eqG_sound {T : TypeId} {x y x' y' : Value} {b : Bool} (hx : VR ρ x x') (hy : VR ρ y y') (h : eqG P T x y = some b) (ox oy : Operand) :
    (do eqGuard .eql T ox oy x' y'; binOp .eql T x' y' : Sem Value).run P w = .ok (.bool b) w ∧ (do eqGuard .neq T ox oy x' y'; binOp .neq T x' y' : Sem Value).run P w = .ok (.bool (!b)) w := by
  unfold eqG at h
  have hne : typK P T ≠ 0 := by unfold typK; split <;> simp
  cases hc : (Nat.beq (Go.Gd.someK x) (typK P T) && Nat.beq (Go.Gd.nilK y) (typK P T)) || (Nat.beq (Go.Gd.someK y) (typK P T) && Nat.beq (Go.Gd.nilK x) (typK P T)) with
  | true =>
    rw [hc] at h
    cases h
    simp only [Bool.or_eq_true, Bool.and_eq_true] at hc
    rcases hc with ⟨c1, c2⟩ | ⟨c1, c2⟩
    · have c1 := Nat.eq_of_beq_eq_true c1
      have c2 := Nat.eq_of_beq_eq_true c2
      have e1 : Go.Gd.someK x' = typK P T := by rw [hx.someK]; exact c1
      have e2 : Go.Gd.nilK y' = typK P T := by rw [hy.nilK (by omega)]; exact c2
      obtain ⟨b1, b2, b3, b4, b5, b6, b7⟩ := eqNil (P := P) w e1 e2
      refine ⟨?_, ?_⟩
      · simp only [(b3 .eql ox oy).1, Sem.run_bind, Sem.run_pure, Result.andThen_ok, b4, b1]
      · simp only [(b3 .neq ox oy).1, Sem.run_bind, Sem.run_pure, Result.andThen_ok, b5, b1]
    · have c1 := Nat.eq_of_beq_eq_true c1
      have c2 := Nat.eq_of_beq_eq_true c2
      have e1 : Go.Gd.someK y' = typK P T := by rw [hy.someK]; exact c1
      have e2 : Go.Gd.nilK x' = typK P T := by rw [hx.nilK (by omega)]; exact c2
      obtain ⟨b1, b2, b3, b4, b5, b6, b7⟩ := eqNil (P := P) w e1 e2
      refine ⟨?_, ?_⟩
      · simp only [(b3 .eql ox oy).2, Sem.run_bind, Sem.run_pure, Result.andThen_ok, b6, b2]
      · simp only [(b3 .neq ox oy).2, Sem.run_bind, Sem.run_pure, Result.andThen_ok, b7, b2]
  | false =>
    rw [hc] at h
    simp only [cond] at h
    split at h
    · rename_i i o j q
      split at h
      · rename_i e hu
        obtain ⟨c1, c2, h⟩ := andB h
        have c1 := Nat.eq_of_beq_eq_true c1
        rw [Nat.blt_eq] at c2
        injection h with h
        subst h
        subst c1
        obtain ⟨p, hp, rfl⟩ := hx.ptr_inv
        obtain ⟨p', hp', rfl⟩ := hy.ptr_inv
        rw [hp] at hp'; cases hp'
        have hsz : (sizeOf e).run P w = .ok (P.cellsOf e) w := sizeOf_ne (by omega) w
        have hb : ((⟨p.b, p.o + o, none⟩ : Addr) == ⟨p.b, p.o + q, none⟩) = Nat.beq o q := by
          rw [Bool.eq_iff_iff]
          simp only [beq_iff_eq, Addr.mk.injEq, true_and, and_true, Nat.add_left_cancel_iff]
          exact ⟨fun h => by subst h; exact Nat.beq_refl _, Nat.eq_of_beq_eq_true⟩
        have he : (Op.equal T (.pointer (some ⟨p.b, p.o + o, none⟩)) (.pointer (some ⟨p.b, p.o + q, none⟩))).run P w = .ok (Nat.beq o q) w := by
          show (Op.equalIn (9999 + 1) T _ _).run P w = _
          unfold Op.equalIn
          have : P.cellsOf e ≠ 0 := by omega
          simp only [Sem.run_bind, run_underlying hu, Result.andThen_ok, hsz]
          rw [if_pos this]
          simp only [sameAddr, beq_self_eq_true, if_true, Sem.run_pure, hb]
        refine ⟨?_, ?_⟩
        · show (do pure (Value.bool (← Op.equal T (.pointer (some ⟨p.b, p.o + o, none⟩)) (.pointer (some ⟨p.b, p.o + q, none⟩)))) : Sem Value).run P w = _
          simp [he]
        · show (do pure (Value.bool (!(← Op.equal T (.pointer (some ⟨p.b, p.o + o, none⟩)) (.pointer (some ⟨p.b, p.o + q, none⟩))))) : Sem Value).run P w = _
          simp [he]
      · cases h
    · cases h
theorem leafRun_leaf {s : Sem Value} {u : Value} (h : leafRun P s = some u) (hl : leafB 6 u = true) : s.run P w = .ok u w ∧ VR ρ u u := ⟨leafRun_run h w, leafB_self hl⟩
end Go.Gd
namespace Go.Gd
theorem frz_at {w : World} {b : Nat} {C : Array Value} {T : TypeId} {fz : Nat × Nat} (hb : w.heap[b]? = some (.cells C T fz)) :
    ∃ fz', ((C.size ≤ fz.1 ∨ fz = (0, 0)) → C.size ≤ fz'.1) ∧ (w.freeze ⟨b, C.size, none⟩ 1).heap[b]? = some (.cells C T fz') := by
  obtain ⟨lo, hi⟩ := fz
  refine ⟨if (lo == hi) = true then (C.size, C.size + 1) else (min lo C.size, max hi (C.size + 1)), ?_, ?_⟩
  · intro h
    split
    · exact Nat.le_refl _
    · rename_i hne
      rcases h with h | h
      · simp only at h ⊢; omega
      · cases h; simp at hne
  · unfold World.freeze
    rw [if_neg (by decide)]
    simp only [Array.getElem?_modify, if_true, hb, Option.map_some]
theorem frz_ne {w : World} {b n k : Nat} (h : k ≠ b) : (w.freeze ⟨b, n, none⟩ 1).heap[k]? = w.heap[k]? := by
  unfold World.freeze
  rw [if_neg (by decide)]
  simp only [Array.getElem?_modify]
  rw [if_neg (fun e => h e.symm)]
theorem R.frz {ρ : Rho} {g : G} {w : World} {i : Nat} {o : GO} {p : Pl} {C : Array Value} {T : TypeId} {fz : Nat × Nat} (hR : R ρ g w) (hg : g.get i = some o) (hp : ρ i = some p) (hb : w.heap[p.b]? = some (.cells C T fz)) :
    R ρ g (w.freeze ⟨p.b, C.size, none⟩ 1) ∧ Fr ρ g w ρ g (w.freeze ⟨p.b, C.size, none⟩ 1) := by
  obtain ⟨fz', h1, h2⟩ := frz_at hb
  refine ⟨⟨hR.fresh, fun j x hj => ?_, hR.apart⟩, Le.refl _, ?_, fun k hk ho => frz_ne fun e => ho i o p hg hp e.symm, fun k hk ho => ho, ?_⟩
  · obtain ⟨q, e, r⟩ := hR.ob j x hj
    refine ⟨q, e, ?_⟩
    by_cases hq : q.b = p.b
    · cases x with
      | row wd c kin ext =>
        obtain ⟨C2, T2, fz2, k1, k2, k3, k4, k6, k5⟩ := r
        rw [hq, hb] at k1; cases k1
        exact ⟨C, T, fz', by rw [hq]; exact h2, .inl (h1 k2), k3, k4, k6, k5⟩
      | map es ck => obtain ⟨ms, k1, -⟩ := r; rw [hq, hb] at k1; cases k1
      | loop s pe tm ps as bo d => obtain ⟨l, k1, -⟩ := r; rw [hq, hb] at k1; cases k1
      | dfr on => have k1 : w.heap[q.b]? = some _ := r; rw [hq, hb] at k1; cases k1
      | iter m s l k => obtain ⟨m', k1, -⟩ := r; rw [hq, hb] at k1; cases k1
    · exact r.mono (Le.refl _) (frz_ne hq)
  · unfold World.freeze
    rw [if_neg (by decide)]
    simp
  · exact ⟨rfl, rfl⟩
theorem run_convSame {P : Program} {w : World} {t e b off n c : Nat} {C : Array Value} {T : TypeId} {fz : Nat × Nat} (ht : P.underlying t = some (.slice e)) (he : P.underlying e = some (.int .u8)) (hb : w.heap[b]? = some (.cells C T fz)) :
    (convert t t (.slice (some ⟨b, off, none⟩) n c)).run P w = .ok (.slice (some ⟨b, off, none⟩) n c) (w.freeze ⟨b, C.size, none⟩ 1) := by
  have hsh : w.shape? b = some (T, C.size) := by unfold World.shape?; rw [hb]
  simp [convert, run_underlying ht, run_underlying he, markStringish, hsh]
end Go.Gd
namespace Go.Gd
open Go.Sh (SameOs valOf leafRun leafRun_run isAggT run_sizeOf' run_isAgg' run_cells get_lt arr_lt cell_blk sizeOf_ne mk_toList elem_of append_exec)
variable {P : Program} {ρ : Rho} {g g' : G} {w : World}
theorem outL_inv {x : Option Value} {v : Value} (h : outL x = some v) : x = some v ∧ leafB 3 v = true := by
  unfold outL at h
  split at h
  · obtain ⟨h1, h2⟩ := bifT h; cases h2; exact ⟨rfl, h1⟩
  · cases h
theorem binG_sound {op : BinOp} {T : TypeId} {ox oy : Operand} {u v x y r : Value} (hu : VR ρ u x) (hv : VR ρ v y) (h : binG P op T ox oy u v = some r) :
    ∃ z, (do eqGuard op T ox oy x y; binOp op T x y : Sem Value).run P w = .ok z w ∧ VR ρ r z := by
  unfold binG at h
  cases hc : leafB 6 u && leafB 6 v with
  | true =>
    rw [hc] at h
    rw [Bool.and_eq_true] at hc
    obtain ⟨h1, h2⟩ := outL_inv h
    rw [leafB_eq hc.1 hu, leafB_eq hc.2 hv]
    exact ⟨r, leafRun_run h1 w, leafB_self h2⟩
  | false =>
    rw [hc] at h
    simp only [cond] at h
    split at h
    · simp only [Option.map_eq_some_iff] at h
      obtain ⟨b, hb, rfl⟩ := h
      exact ⟨_, (eqG_sound hu hv hb ox oy).1, .atom rfl⟩
    · simp only [Option.map_eq_some_iff] at h
      obtain ⟨b, hb, rfl⟩ := h
      exact ⟨_, (eqG_sound hu hv hb ox oy).2, .atom rfl⟩
    · cases h
/-! ## Lists' first elements -/
theorem lenG_sound {v y : Value} {m : Nat} (hv : VR ρ v y) (h : lenG v = some m) (w : World) : (Builtin.lenOf y).run P w = .ok m w := by
  unfold lenG at h
  split at h
  · cases h
    cases hv with
    | atom h => rfl
    | slice => rfl
    | slice0 => rfl
  · cases h
    rw [hv.atom_inv rfl]; rfl
  · cases h
theorem firstG_sound {n m : Nat} {v y : Value} {vs : List Value} (hR : R ρ g w) (hv : VR ρ v y) (h : firstG n m v g = some vs) :
    ∃ C, (∀ w', Go.Sh.Up w w' → (Builtin.firstCells n m y).run P w' = .ok C w') ∧ VRs ρ vs C.toList := by
  unfold firstG at h
  split at h
  · obtain ⟨h1, h⟩ := bifT h
    cases h
    rw [hv.atom_inv rfl]
    exact ⟨#[], fun _ _ => rfl, .nil⟩
  · rename_i r off len cap
    cases hm : Nat.beq m 0 with
    | true =>
      rw [hm] at h; cases h
      have := Nat.eq_of_beq_eq_true hm
      subst this
      rcases hv.slice_inv with ⟨p, cap', hp, rfl, -⟩ | ⟨rfl, -, a, rfl⟩
      · exact ⟨#[], fun _ _ => by simp [Builtin.firstCells, loadCells, loadCellsFrom], .nil⟩
      · exact ⟨#[], fun _ _ => by simp [Builtin.firstCells, loadCells, loadCellsFrom], .nil⟩
    | false =>
      rw [hm] at h
      simp only [cond] at h
      have hm0 : m ≠ 0 := fun e => by subst e; cases hm
      split at h
      · rename_i wd c kin ext hg
        obtain ⟨c1, c2, h⟩ := andB h
        cases h
        have c1 := Nat.le_of_ble_eq_true c1
        have c2 := Nat.le_of_ble_eq_true c2
        rcases hv.slice_inv with ⟨p, cap', hp, rfl, d1, d2, d3⟩ | ⟨rfl, rfl, a, rfl⟩
        · obtain ⟨p', e1, e2⟩ := hR.ob _ _ hg
          rw [hp] at e1; cases e1
          obtain ⟨C, T0, fz, f1, f2, f3⟩ := row_cut e2 c1
          exact ⟨_, fun w' hw => run_cells (P := P) (hw _ _ f1) f2, f3⟩
        · omega
      · cases h
  · rename_i s
    obtain ⟨h1, h⟩ := bifT h
    have h1 := Nat.eq_of_beq_eq_true h1
    subst h1
    cases h
    rw [hv.atom_inv rfl]
    refine ⟨(s.extract 0 m).data.map fun b => .int .u8 b.toNat, fun _ _ => rfl, ?_⟩
    have : ((s.extract 0 m).data.map fun b => Value.int .u8 b.toNat).toList = (s.data.toList.take m).map fun b => Value.int .u8 b.toNat := by
      simp [ByteArray.data_extract]
    rw [this]
    refine VRs.self fun x hx => ?_
    obtain ⟨b, -, rfl⟩ := List.mem_map.1 hx
    exact .atom rfl
  · cases h
/-! ## Conversions -/
theorem isU8_eq {e : TypeId} (h : isU8 P e = true) : P.underlying e = some (.int .u8) := by
  unfold isU8 at h
  split at h
  · assumption
  · cases h
theorem bytesG_get : ∀ {c : List Value} {bs : List UInt8}, bytesG c = some bs → ∃ ns : List Int, c = ns.map (Value.int .u8) ∧ bs = ns.map (fun n => UInt8.ofNat n.toNat)
  | [], bs, h => by cases h; exact ⟨[], rfl, rfl⟩
  | x :: c, bs, h => by
    cases x with
    | int k n => cases k with
      | u8 =>
        simp only [bytesG, Option.map_eq_some_iff] at h
        obtain ⟨bs', h1, rfl⟩ := h
        obtain ⟨ns, rfl, rfl⟩ := bytesG_get h1
        exact ⟨n :: ns, rfl, rfl⟩
      | _ => cases h
    | _ => cases h
theorem convG_sound {src dst : TypeId} {v y r : Value} (hR : R ρ g w) (hv : VR ρ v y) (h : convG P src dst v g = some (r, g')) : OutV P ρ g w (convert src dst y) r g' := by
  unfold convG at h
  split at h
  · rename_i e hs hd
    split at h
    · rename_i s
      obtain ⟨h1, h⟩ := bifT h
      cases h
      rw [hv.atom_inv rfl]
      have he := isU8_eq h1
      have hge := grownCap_ge w s.size 0 e
      have hsz : (Lib.bytesCells w e s).size = grownCap w s.size 0 e := by
        simp only [Lib.bytesCells, Array.size_append, Array.size_map, Array.size_replicate]
        have : s.data.size = s.size := rfl
        omega
      obtain ⟨r1, r2⟩ := R.newRow' (wd := 1) (T := e) (fz := ((Lib.bytesCells w e s).size, (Lib.bytesCells w e s).size + 1)) (C := Lib.bytesCells w e s) (c := s.data.toList.map fun b => .int .u8 (.ofNat b.toNat)) hR
        (fun k hk => Lib.bytesWorld_at_old w e s k hk) (Lib.bytesWorld_size w e s) ⟨rfl, rfl⟩ (Lib.bytesWorld_at_new w e s) (.inl (Nat.le_refl _)) (by rw [hsz]; simp; exact hge) (fun j x hx => by
          simp only [List.getElem?_map, Option.map_eq_some_iff] at hx
          obtain ⟨b, hb, rfl⟩ := hx
          refine ⟨_, ?_, .atom rfl, rfl⟩
          have hlt := get_lt hb
          simp only [Lib.bytesCells]
          rw [Array.getElem?_append_left (by simpa using hlt)]
          have hb' : s.data[j]? = some b := by simpa using hb
          simp [hb'])
      exact ⟨_, _, _, Lib.run_convert_string_bytes w src dst e s hs hd he, slice_new (Nat.le_refl _) hge (by rw [hsz]; omega), r1, r2⟩
    · cases h
  · rename_i e hs hd
    obtain ⟨h1, h⟩ := bifT h
    have he := isU8_eq h1
    split at h
    · rename_i a l cap _
      split at h
      · rename_i c hc
        simp only [Option.map_eq_some_iff] at h
        obtain ⟨bs, hb, h⟩ := h
        cases h
        obtain ⟨ns, rfl, rfl⟩ := bytesG_get hb
        obtain ⟨C, f1, f2⟩ := firstG_sound (P := P) hR hv hc
        replace f1 := f1 w (Go.Sh.Up.refl w)
        refine Out.same hR ?_ (.atom rfl)
        have hC : C = (ns.map (Value.int .u8)).toArray := by
          have := leafsB_eq (n := 2) (vs := ns.map (Value.int .u8)) (fun x hx => by obtain ⟨n, -, rfl⟩ := List.mem_map.1 hx; rfl) f2
          rw [← this]
        subst hC
        have hy : ∃ a' cap', y = .slice a' l cap' := by
          cases hv with
          | atom h => exact ⟨_, _, rfl⟩
          | slice => exact ⟨_, _, rfl⟩
          | slice0 => exact ⟨_, _, rfl⟩
        obtain ⟨a', cap', rfl⟩ := hy
        cases a' with
        | none =>
          have : ns = [] := by
            have h9 : (Builtin.firstCells 1 l (.slice none l cap')).run P w = .ok #[] w := rfl
            rw [h9] at f1
            cases ns with
            | nil => rfl
            | cons n ns => simp at f1
          subst this
          exact run_convert_bytes_nil w src e hs he l cap' dst hd
        | some a' =>
          have h9 : (loadCells a' l).run P w = .ok (ns.map (Value.int .u8)).toArray w := by simpa [Builtin.firstCells] using f1
          rw [run_convert_bytes_string w src dst e _ l cap' hs he hd, run_bytesToString w _ l cap' ns h9, foldl_push_bytes]
          simp [ByteArray.empty, ByteArray.emptyWithCapacity]
          rfl
      · cases h
    · cases h
  · rename_i e0 e hs hd
    replace h := bifT h
    obtain ⟨h1, h5⟩ := h
    rw [Bool.and_eq_true] at h1
    have hsd := Nat.eq_of_beq_eq_true h1.1
    subst hsd
    have he := isU8_eq h1.2
    split at h5
    · rename_i i off l c
      split at h5
      · rename_i wd cs kin ext hg
        obtain ⟨hl, h5⟩ := bifT h5
        have hl := Nat.le_of_ble_eq_true hl
        cases h5
        rcases hv.slice_inv with ⟨p, cap', hp, rfl, d1, d2, d3⟩ | ⟨rfl, -⟩
        · obtain ⟨p', e1, e2⟩ := hR.ob _ _ hg
          rw [hp] at e1; cases e1
          obtain ⟨C, T, fz, f1, -⟩ := id e2
          obtain ⟨q1, q2⟩ := hR.frz hg hp f1
          exact ⟨ρ, _, _, run_convSame hd he f1, hv, q1, q2⟩
        · omega
      · cases h5
    · cases h5
  · obtain ⟨h1, h⟩ := bifT h
    simp only [Option.map_eq_some_iff] at h
    obtain ⟨u, hu, h⟩ := h
    cases h
    obtain ⟨h2, h3⟩ := outL_inv hu
    rw [leafB_eq h1 hv]
    exact Out.same hR (leafRun_run h2 w) (leafB_self h3)
  · cases h
end Go.Gd
namespace Go.Gd
open Go.Sh (SameOs valOf leafRun leafRun_run isAggT run_sizeOf' run_isAgg' run_cells get_lt arr_lt cell_blk sizeOf_ne mk_toList elem_of append_exec)
variable {P : Program} {ρ : Rho} {g g' : G} {w : World}
theorem noInt_inv {T : TypeId} (h : noInt P T = true) : ∃ d, P.underlying T = some d ∧ ∀ k, d ≠ .int k := by
  unfold noInt at h
  cases hu : P.underlying T with
  | none => rw [hu] at h; simp at h
  | some d => exact ⟨d, rfl, fun k e => by rw [hu, e] at h; simp at h⟩
/-- What an append leaves: either it finds room, and the rows that may share the block stay, or a new row. -/
theorem R.ext {r wd : Nat} {c kin : List _} {p : Pl} (hR : R ρ g w) (hg : g.get r = some (.row wd c kin false)) (hp : ρ r = some p) : R ρ (g.set r (.row wd c kin true)) w := by
  have live : ∀ j x, (g.set r (.row wd c kin true)).get j = some x → ∃ x', g.get j = some x' ∧ x.kin = x'.kin ∧ x.len = x'.len ∧ (x'.ext = true → x.ext = true) ∧ (∀ q w', GOR ρ w' q x' → GOR ρ w' q x) := fun j x hj => by
    rcases G.get_set hj with ⟨rfl, rfl⟩ | ⟨h1, h2⟩
    · exact ⟨_, hg, rfl, rfl, fun _ => rfl, fun q w' h => h⟩
    · exact ⟨_, h2, rfl, rfl, id, fun _ _ h => h⟩
  refine ⟨fun j hj => hR.fresh j hj, fun j x hj => ?_, fun i j a b p q h1 h2 h3 h4 h5 => ?_⟩
  · obtain ⟨x', e1, -, -, -, e2⟩ := live j x hj
    obtain ⟨q, q1, q2⟩ := hR.ob _ _ e1
    exact ⟨q, q1, e2 _ _ q2⟩
  · obtain ⟨a', a1, a2, a3, a4, -⟩ := live i a h1
    obtain ⟨b', b1, b2, b3, b4, -⟩ := live j b h2
    rcases hR.apart i j a' b' p q a1 b1 h3 h4 h5 with h | ⟨h, h', h''⟩ | ⟨h, h', h''⟩
    · exact .inl h
    · exact .inr (.inl ⟨by rw [a2]; exact h, b4 h', by rw [a3, b3]; exact h''⟩)
    · exact .inr (.inr ⟨by rw [b2]; exact h, a4 h', by rw [a3, b3]; exact h''⟩)
theorem appG_new {n m len b : Nat} {T T2 : TypeId} {ty : TypeId} {e : TypeId} {i : TypeInfo} {z x y : Value} {base : Option Addr} {cap : Nat} {olds news : Array Value} {cs : List Value} {kin : List Nat}
    (hR : R ρ g w) (hu : P.underlying T = some (.slice e)) (hi : P.info? e = some i) (hz : i.zero = some z) (hzs : z.cells.size = i.size) (h2 : ∃ d, P.underlying T2 = some d ∧ ∀ k, d ≠ .int k)
    (hlen : ∀ w', (Builtin.lenOf y).run P w' = .ok m w') (hnew : ∀ w', Go.Sh.Up w w' → (Builtin.firstCells i.size m y).run P w' = .ok news w') (hold : ∀ w', Go.Sh.Up w w' → (Builtin.firstCells i.size len (.slice base len cap)).run P w' = .ok olds w')
    (h63 : len + m ≤ maxLen) (hb : (len + m) * i.bytes ≤ 140737488355328) (hc : cap < len + m) (hcs : VRs ρ cs (olds.toList ++ news.toList)) (hcl : cs.length = (len + m) * i.size) (ho : onesB cs = true) (hpos : 0 < i.size) :
    ∃ ρ' y' w', (Builtin.append_ #[T, T2] ty #[.slice base len cap, y]).run P w = .ok y' w' ∧ VR ρ' (sliV g.nx (len + m) (len + m)) y' ∧ R ρ' (g.new (.row i.size cs kin false)) w' ∧ Fr ρ g w ρ' (g.new (.row i.size cs kin false)) w' ∧
      ρ' = ρ.put g.nx ⟨w.heap.size, 0, i.size, (grownCap w (len + m) cap e) * i.size⟩ := by
  have key := (append_exec (P := P) (T := T) (T2 := T2) (ty := ty) (v := .slice base len cap) (x := y) (w := w) rfl hu hi hz h2 hlen hnew hold h63 hb).2 hc
  have hge := grownCap_ge w (len + m) cap e
  generalize hgc : grownCap w (len + m) cap e = gc at key hge
  have hl := hcs.len
  simp only [List.length_append, Array.length_toList] at hl
  have hsz : (olds ++ news ++ Builtin.zeroCells z.cells (gc - (len + m))).size = gc * i.size := by
    rw [Array.size_append, Array.size_append, size_zeroCells, hzs, ← hl, hcl, ← Nat.add_mul]
    congr 1; omega
  obtain ⟨r1, r2⟩ := R.newRow (wd := i.size) (T := e) (fz := (0, 0)) (C := olds ++ news ++ Builtin.zeroCells z.cells (gc - (len + m))) (c := cs) hR (w0 := w.drew) (fun _ => rfl) rfl ⟨rfl, rfl⟩ (.inr rfl) (by rw [hsz, hcl]; exact Nat.mul_le_mul_right _ hge) (fun j x hx => by
    obtain ⟨y, y1, y2⟩ := hcs.get hx
    refine ⟨y, ?_, y2, onesB_get ho hx⟩
    have hlt := get_lt hx
    rw [Array.getElem?_append_left (by rw [Array.size_append]; omega)]
    rw [← Array.toList_append, Array.getElem?_toList] at y1
    exact y1)
  rw [hsz] at r1 r2
  refine ⟨_, _, _, key, ?_, r1, r2, rfl⟩
  have := VR.slice (ρ := ρ.put g.nx ⟨w.heap.size, 0, i.size, gc * i.size⟩) (i := g.nx) (off := 0) (len := len + m) (cap := len + m) (cap' := gc) Rho.put_self hge (Nat.le_refl _) (by simp)
  simpa [sliV] using this
theorem putG_inv {i off : Nat} {vs : List Value} (h : putG i off vs g = some g') : ∃ wd c kin, g.get i = some (.row wd c kin false) ∧ off + vs.length ≤ c.length := by
  unfold putG at h
  split at h
  · rename_i wd c kin hg
    obtain ⟨c1, c2, h⟩ := andB h
    exact ⟨wd, c, kin, hg, Nat.le_of_ble_eq_true c1⟩
  · cases h
theorem Fr.of_ext {r wd : Nat} {c : List Value} {kin : List Nat} {ρ' : Rho} {w' : World} (hg : g.get r = some (.row wd c kin false)) (h : Fr ρ (g.set r (.row wd c kin true)) w ρ' g' w') : Fr ρ g w ρ' g' w' := by
  have key : ∀ k, Off ρ g k → Off ρ (g.set r (.row wd c kin true)) k := fun k ho i o p h1 h2 => by
    rcases G.get_set h1 with ⟨rfl, rfl⟩ | ⟨-, h1⟩
    · exact ho _ _ p hg h2
    · exact ho _ _ p h1 h2
  exact ⟨h.le, h.size, fun k hk ho => h.keep k hk (key k ho), fun k hk ho => h.off k hk (key k ho), h.os⟩
/-- An append that finds room in the block. -/
theorem R.grow {r wd off : Nat} {c vs ys : List Value} {kin : List Nat} {p : Pl} {len cap' : Nat} (hR : R ρ g w) (hg : g.get r = some (.row wd c kin false)) (hp : ρ r = some p) (hv : VRs ρ vs ys) (hq : off + len * wd = c.length) (h3 : p.o + off + cap' * p.w ≤ p.sz)
    (hroom : p.o + (off + len * wd) + vs.length ≤ p.sz) (ho : onesB vs = true) :
    ∃ w', (storeCells ⟨p.b, p.o + off + len * wd, none⟩ ys).run P w = .ok () w' ∧ R (ρ.put g.nx ⟨p.b, p.o + off, wd, p.sz⟩) ((g.set r (.row wd c kin true)).new (.row wd (c.drop off ++ vs) (r :: kin) false)) w' ∧
      Fr ρ g w (ρ.put g.nx ⟨p.b, p.o + off, wd, p.sz⟩) ((g.set r (.row wd c kin true)).new (.row wd (c.drop off ++ vs) (r :: kin) false)) w' := by
  obtain ⟨p', e1, C, T, fz, f1, f2, f3, f4, f6, f5⟩ := hR.ob _ _ hg
  rw [hp] at e1; cases e1
  have hl := hv.len
  have hfr := hR.fresh g.nx (Nat.le_refl _)
  have hle := Rho.put_le (p := ⟨p.b, p.o + off, wd, p.sz⟩) hfr
  obtain ⟨C', w', s1, s2, s3, s4, s5, s6, s7⟩ := run_stores (P := P) (k := p.b) (o := p.o + off + len * wd) ys 0 C w f1 f2 (by omega) (hv.ones ho)
  have hrn : r ≠ g.nx := fun e => by rw [e, hfr] at hp; cases hp
  have live : ∀ j x, ((g.set r (.row wd c kin true)).new (.row wd (c.drop off ++ vs) (r :: kin) false)).get j = some x → (j = g.nx ∧ x = .row wd (c.drop off ++ vs) (r :: kin) false) ∨ (j = r ∧ x = .row wd c kin true) ∨ (j ≠ g.nx ∧ j ≠ r ∧ g.get j = some x) := fun j x hj => by
    rcases G.get_new hj with h1 | ⟨h1, h2⟩
    · exact .inl h1
    · rcases G.get_set h2 with h3 | ⟨h3, h4⟩
      · exact .inr (.inl h3)
      · exact .inr (.inr ⟨h1, h3, h4⟩)
  -- a row in the same block
  have same : ∀ j x q, j ≠ r → g.get j = some x → ρ j = some q → q.b = p.b → j ∈ kin ∧ x.ext = true ∧ q.o + x.len ≤ p.o + c.length := fun j x q h1 h2 h3 h4 => by
    rcases hR.apart r j _ _ p q hg h2 hp h3 h4.symm with e | e | ⟨-, e, -⟩
    · exact absurd e.symm h1
    · exact e
    · cases e
  have below : ∀ j : Nat, j < p.o + c.length → C'[j]? = C[j]? := fun j hj => by rw [s4, if_neg (by omega)]
  refine ⟨w', s1, ⟨fun j hj => ?_, fun j x hj => ?_, fun j k a b p1 q1 h1 h2 h3 h4 h5 => ?_⟩, hle, by rw [s5]; exact Nat.le_refl _, fun k hk ho => s6 k fun e => ?_, fun k hk ho j x q h1 h2 => ?_, s7⟩
  · have hj : g.nx + 1 ≤ j := hj
    rw [Rho.put_ne (by omega)]; exact hR.fresh j (by omega)
  · rcases live j x hj with ⟨rfl, rfl⟩ | ⟨rfl, rfl⟩ | ⟨h1, h2, h3⟩
    · refine ⟨_, Rho.put_self, C', T, fz, s2, by rw [s3]; exact f2, by rw [s3]; exact f3, ?_, rfl, fun m x hx => ?_⟩
      · simp only [List.length_append, List.length_drop]; omega
      · by_cases hm : m < c.length - off
        · rw [List.getElem?_append_left (by rw [List.length_drop]; omega), List.getElem?_drop] at hx
          obtain ⟨y, y1, y2, y3⟩ := f5 _ _ hx
          refine ⟨y, ?_, y2.mono hle, y3⟩
          show C'[p.o + off + m]? = some y
          rw [below _ (by omega), ← y1]; congr 1; omega
        · rw [List.getElem?_append_right (by rw [List.length_drop]; omega), List.length_drop] at hx
          obtain ⟨y, y1, y2⟩ := hv.get hx
          refine ⟨y, ?_, y2.mono hle, onesB_get ho hx⟩
          have hlt := get_lt hx
          show C'[p.o + off + m]? = some y
          rw [s4, if_pos (by omega), ← y1]; congr 1; omega
    · refine ⟨p, by rw [Rho.put_ne hrn]; exact hp, C', T, fz, s2, by rw [s3]; exact f2, by rw [s3]; exact f3, f4, f6, fun m x hx => ?_⟩
      obtain ⟨y, y1, y2, y3⟩ := f5 _ _ hx
      have hlt := get_lt hx
      exact ⟨y, by rw [below _ (by omega)]; exact y1, y2.mono hle, y3⟩
    · obtain ⟨q, q1, q2⟩ := hR.ob _ _ h3
      refine ⟨q, by rw [Rho.put_ne h1]; exact q1, ?_⟩
      by_cases hb : q.b = p.b
      · obtain ⟨-, -, hend⟩ := same j x q h2 h3 q1 hb
        cases x with
        | row wd' c' kin' ext' =>
          obtain ⟨C2, T2, fz2, k1, k2, k3, k4, k6, k5⟩ := q2
          rw [hb, f1] at k1; cases k1
          refine ⟨C', T, fz, by rw [hb]; exact s2, by rw [s3]; exact f2, by rw [s3]; exact k3, k4, k6, fun m x hx => ?_⟩
          obtain ⟨y, y1, y2, y3⟩ := k5 _ _ hx
          have hlt := get_lt hx
          have hend : q.o + c'.length ≤ p.o + c.length := hend
          exact ⟨y, by rw [below _ (by omega)]; exact y1, y2.mono hle, y3⟩
        | map es ck => obtain ⟨ms, k1, -⟩ := q2; rw [hb, f1] at k1; cases k1
        | loop s pe tm ps as bo d => obtain ⟨l, k1, -⟩ := q2; rw [hb, f1] at k1; cases k1
        | dfr on => have k1 : w.heap[q.b]? = some _ := q2; rw [hb, f1] at k1; cases k1
        | iter m s l k => obtain ⟨m', k1, -⟩ := q2; rw [hb, f1] at k1; cases k1
      · exact q2.mono hle (s6 _ hb)
  · rcases live j a h1 with ⟨rfl, rfl⟩ | ⟨rfl, rfl⟩ | ⟨m1, m2, m3⟩ <;> rcases live k b h2 with ⟨rfl, rfl⟩ | ⟨rfl, rfl⟩ | ⟨n1, n2, n3⟩
    · exact .inl rfl
    · rw [Rho.put_self] at h3; rw [Rho.put_ne hrn, hp] at h4; cases h3; cases h4
      exact .inr (.inl ⟨List.mem_cons_self, rfl, by simp only [GO.len, List.length_append, List.length_drop]; omega⟩)
    · rw [Rho.put_self] at h3; rw [Rho.put_ne n1] at h4; cases h3
      obtain ⟨z1, z2, z3⟩ := same k b q1 n2 n3 h4 h5.symm
      exact .inr (.inl ⟨List.mem_cons_of_mem _ z1, z2, by simp only [GO.len, List.length_append, List.length_drop] at z3 ⊢; omega⟩)
    · rw [Rho.put_self] at h4; rw [Rho.put_ne hrn, hp] at h3; cases h3; cases h4
      exact .inr (.inr ⟨List.mem_cons_self, rfl, by simp only [GO.len, List.length_append, List.length_drop]; omega⟩)
    · exact .inl rfl
    · rw [Rho.put_ne hrn, hp] at h3; rw [Rho.put_ne n1] at h4; cases h3
      obtain ⟨z1, z2, z3⟩ := same k b q1 n2 n3 h4 h5.symm
      exact .inr (.inl ⟨z1, z2, z3⟩)
    · rw [Rho.put_self] at h4; rw [Rho.put_ne m1] at h3; cases h4
      obtain ⟨z1, z2, z3⟩ := same j a p1 m2 m3 h3 h5
      exact .inr (.inr ⟨List.mem_cons_of_mem _ z1, z2, by simp only [GO.len, List.length_append, List.length_drop] at z3 ⊢; omega⟩)
    · rw [Rho.put_ne hrn, hp] at h4; rw [Rho.put_ne m1] at h3; cases h4
      obtain ⟨z1, z2, z3⟩ := same j a p1 m2 m3 h3 h5
      exact .inr (.inr ⟨z1, z2, z3⟩)
    · rw [Rho.put_ne m1] at h3; rw [Rho.put_ne n1] at h4
      exact hR.apart j k a b p1 q1 m3 n3 h3 h4 h5
  · subst e; exact ho r _ p hg hp rfl
  · rcases live j x h1 with ⟨rfl, rfl⟩ | ⟨rfl, rfl⟩ | ⟨m1, m2, m3⟩
    · rw [Rho.put_self] at h2; cases h2; exact ho r _ p hg hp
    · rw [Rho.put_ne hrn] at h2; exact ho j _ q hg h2
    · rw [Rho.put_ne m1] at h2; exact ho j x q m3 h2
theorem appG_sound {T T2 ty : TypeId} {s x u y1 y2 : Value} (hR : R ρ g w) (hs : VR ρ s y1) (hx : VR ρ x y2) (h : appG P T T2 s x g = some (u, g')) : OutV P ρ g w (Builtin.append_ #[T, T2] ty #[y1, y2]) u g' := by
  unfold appG at h
  split at h
  · rename_i n b z m he hm
    obtain ⟨e, i, zv, hu, hi, rfl, rfl, hz, hz', rfl, hzl, hzo, hzs⟩ := elemG_sound (ρ := ρ) he
    obtain ⟨c1, c2, h⟩ := andB h
    rw [Nat.blt_eq] at c2
    have hno := noInt_inv c1
    have hzsz : zv.cells.size = i.size := by simpa [cellsG] using hzl
    split at h
    · rename_i vs hvs
      obtain ⟨news, hnew, hvr⟩ := firstG_sound (P := P) hR hx hvs
      have hlen := lenG_sound (P := P) hx hm
      have hvl : vs.length = m * i.size := by
        unfold firstG at hvs
        split at hvs
        · obtain ⟨d1, d2⟩ := bifT hvs
          have := Nat.eq_of_beq_eq_true d1
          subst this; cases d2; simp
        · cases hb : Nat.beq m 0 with
          | true => rw [hb] at hvs; cases hvs; have := Nat.eq_of_beq_eq_true hb; subst this; simp
          | false =>
            rw [hb] at hvs
            simp only [cond] at hvs
            split at hvs
            · obtain ⟨d1, -, d2⟩ := andB hvs
              cases d2
              exact cut_len (Nat.le_of_ble_eq_true d1)
            · cases hvs
        · rename_i st
          obtain ⟨d1, d2⟩ := bifT hvs
          have d1 := Nat.eq_of_beq_eq_true d1
          cases d2
          simp only [lenG, Option.some.injEq] at hm
          have : st.data.size = st.size := rfl
          simp only [List.length_map, List.length_take, Array.length_toList]
          rw [d1]; omega
        · cases hvs
      have hnl : vs.length = news.size := by have := hvr.len; simpa using this
      split at h
      · -- nil
        rw [hs.atom_inv rfl]
        cases hb : Nat.beq m 0 with
        | true =>
          rw [hb] at h; cases h
          have := Nat.eq_of_beq_eq_true hb
          subst this
          have key := (append_exec (P := P) (T := T) (T2 := T2) (ty := ty) (v := .slice none 0 0) (x := y2) (w := w) (olds := #[]) rfl hu hi hz' hno hlen hnew (fun _ _ => rfl) (by unfold maxLen; omega) (by omega)).1 (Nat.le_refl _)
          exact Out.same hR key (.atom rfl)
        | false =>
          rw [hb] at h
          simp only [cond] at h
          have hm0 : m ≠ 0 := fun e => by subst e; cases hb
          obtain ⟨d12, d3, h⟩ := andB h
          rw [Bool.and_eq_true] at d12
          have d1 := Nat.le_of_ble_eq_true d12.1
          have d2 := Nat.le_of_ble_eq_true d12.2
          cases h
          obtain ⟨ρ', y', w', f1, f2, f3, f4, -⟩ := appG_new (P := P) (n := 0) (b := 0) (z := zv) (x := x) (ty := ty) (len := 0) (base := none) (cap := 0) (olds := #[]) (cs := vs) (kin := []) hR hu hi hz' hzsz hno hlen hnew (fun _ _ => rfl) (by unfold maxLen; omega) (by rw [Nat.zero_add]; omega) (by omega) (by simpa using hvr) (by rw [hvl]; simp) d3 c2
          rw [Nat.zero_add] at f2
          exact ⟨ρ', y', w', f1, f2, f3, f4⟩
      · -- a slice
        rename_i r off len cap _
        cases hb : Nat.beq m 0 with
        | true =>
          rw [hb] at h; cases h
          have := Nat.eq_of_beq_eq_true hb
          subst this
          have hn0 : news = #[] := Array.eq_empty_of_size_eq_zero (by rw [← hnl, hvl]; simp)
          subst hn0
          have hex : ∃ a cap', y1 = .slice (some a) len cap' ∧ len ≤ cap' := by
            rcases hs.slice_inv with ⟨p, cap', hp, rfl, d1, d2, -⟩ | ⟨rfl, -, a, rfl⟩
            · exact ⟨_, _, rfl, by omega⟩
            · exact ⟨_, _, rfl, Nat.le_refl _⟩
          obtain ⟨a, cap', rfl, hle⟩ := hex
          refine Out.same hR ?_ hs
          obtain ⟨d, hd, hd2⟩ := hno
          have hzeros : (match d with | .int _ => true | _ => false) = false := by cases d <;> simp at hd2 ⊢
          have hn1 := hnew w (Go.Sh.Up.refl w)
          simp [Builtin.append_, run_underlying hu, run_underlying hd, sizeOf, typeInfo, hi, hlen, hzeros, hle, hn1, storeCells]
        | false =>
          rw [hb] at h
          simp only [cond] at h
          have hm0 : m ≠ 0 := fun e => by subst e; cases hb
          obtain ⟨d12, d3, h⟩ := andB h
          rw [Bool.and_eq_true] at d12
          have d1 := Nat.le_of_ble_eq_true d12.1
          have d2 := Nat.le_of_ble_eq_true d12.2
          have h63 : len + m ≤ maxLen := by unfold maxLen; omega
          have hbb : (len + m) * i.bytes ≤ 140737488355328 := by omega
          cases hcap : Nat.ble (len + m) cap with
          | true =>
            rw [hcap] at h
            simp only [cond] at h
            have hcap := Nat.le_of_ble_eq_true hcap
            split at h
            · rename_i g1 hg1
              cases h
              rcases hs.slice_inv with ⟨p, cap', hp, rfl, e1, e2, e3⟩ | ⟨rfl, rfl, -⟩
              · obtain ⟨w', s1, s2, s3⟩ := putG_sound (P := P) hR hp hvr hg1
                obtain ⟨wd, c, kin, hg, hle⟩ := putG_inv hg1
                obtain ⟨p', e4, e5⟩ := hR.ob _ _ hg
                rw [hp] at e4; cases e4
                obtain ⟨C, T0, fz, k1, k2, k3⟩ := row_cut e5 (off := off) (n := len * i.size) (by omega)
                have key := (append_exec (P := P) (T := T) (T2 := T2) (ty := ty) (v := .slice (some ⟨p.b, p.o + off, none⟩) len cap') (x := y2) (w := w) rfl hu hi hz' hno hlen hnew (fun w' hw => run_cells (P := P) (hw _ _ k1) k2) h63 hbb).1 (by omega)
                refine ⟨ρ, _, w', by rw [key]; simp only [Addr.add_lit, Nat.add_assoc] at s1 ⊢; rw [s1]; rfl, .slice hp e1 (by omega) e3, s2, s3⟩
              · omega
            · cases h
          | false =>
            rw [hcap] at h
            simp only [cond] at h
            have hcap : cap < len + m := by
              rcases Nat.lt_or_ge cap (len + m) with h | h
              · exact h
              · rw [Nat.ble_eq_true_of_le h] at hcap; cases hcap
            split at h
            · rename_i wd c kin hg
              obtain ⟨q1, q2, h⟩ := andB h
              have q1 := Nat.eq_of_beq_eq_true q1
              have q2 := Nat.eq_of_beq_eq_true q2
              cases h
              subst q1
              have hcl : (c.drop off ++ vs).length = (len + m) * i.size := by
                rw [List.length_append, List.length_drop, hvl, Nat.add_mul]; omega
              have hones : onesB (c.drop off ++ vs) = true := by
                obtain ⟨p, e1, C, T0, fz, f1, f2, f3, f4, f5, f6⟩ := hR.ob _ _ hg
                refine List.all_eq_true.2 fun v hv => ?_
                rcases List.mem_append.1 hv with hv | hv
                · obtain ⟨j, hj⟩ := List.mem_iff_getElem?.1 hv
                  rw [List.getElem?_drop] at hj
                  exact (f6 _ _ hj).choose_spec.2.2
                · exact List.all_eq_true.1 d3 v hv
              rcases hs.slice_inv with ⟨p, cap', hp, rfl, e1, e2, e3⟩ | ⟨rfl, rfl, a, rfl⟩
              · obtain ⟨p', e4, e5⟩ := hR.ob _ _ hg
                rw [hp] at e4; cases e4
                obtain ⟨C, T0, fz, k1, k2, k3⟩ := row_cut e5 (off := off) (n := len * i.size) (by omega)
                have hold : ∀ w', Go.Sh.Up w w' → (Builtin.firstCells i.size len (.slice (some ⟨p.b, p.o + off, none⟩) len cap')).run P w' = .ok _ w' := fun w' hw => run_cells (P := P) (hw _ _ k1) k2
                have hcut : cut c off (len * i.size) = c.drop off := by
                  unfold cut
                  rw [List.take_of_length_le (by rw [List.length_drop]; omega)]
                rw [hcut] at k3
                by_cases hroom : len + m ≤ cap'
                · have key := (append_exec (P := P) (T := T) (T2 := T2) (ty := ty) (v := .slice (some ⟨p.b, p.o + off, none⟩) len cap') (x := y2) (w := w) rfl hu hi hz' hno hlen hnew hold h63 hbb).1 hroom
                  obtain ⟨w', s1, s2, s3⟩ := R.grow (P := P) hR hg hp hvr q2 e3 (by
                    have : (len + m) * i.size ≤ cap' * p.w := by
                      obtain ⟨C, T0, fz, f1, f2, f3, f4, f5, f6⟩ := e5
                      rw [f5]; exact Nat.mul_le_mul_right _ hroom
                    rw [Nat.add_mul] at this
                    omega) d3
                  refine ⟨_, _, w', by rw [key]; simp only [Addr.add_lit]; rw [s1]; rfl, ?_, s2, s3⟩
                  have := VR.slice (ρ := ρ.put g.nx ⟨p.b, p.o + off, i.size, p.sz⟩) (i := g.nx) (off := 0) (len := len + m) (cap := len + m) (cap' := cap') Rho.put_self hroom (Nat.le_refl _) (by
                    obtain ⟨C, T0, fz, f1, f2, f3, f4, f5, f6⟩ := e5
                    rw [f5] at e3
                    simpa using e3)
                  simpa [sliV] using this
                · obtain ⟨ρ', y', w', f1, f2, f3, f4, -⟩ := appG_new (P := P) (n := 0) (b := 0) (z := zv) (x := x) (ty := ty) (base := some ⟨p.b, p.o + off, none⟩) (cap := cap') (cs := c.drop off ++ vs) (kin := r :: kin) (R.ext hR hg hp) hu hi hz' hzsz hno hlen hnew hold h63 hbb (by omega) (k3.append hvr) hcl hones c2
                  exact ⟨ρ', y', w', f1, f2, f3, f4.of_ext hg⟩
              · obtain ⟨ρ', y', w', f1, f2, f3, f4, -⟩ := appG_new (P := P) (n := 0) (b := 0) (z := zv) (x := x) (ty := ty) (len := 0) (base := some a) (cap := 0) (olds := #[]) (cs := c.drop off ++ vs) (kin := r :: kin) (R.ext hR hg (hR.ob _ _ hg).choose_spec.1) hu hi hz' hzsz hno hlen hnew (fun _ _ => by simp [Builtin.firstCells, loadCells, loadCellsFrom]) (by unfold maxLen; omega) (by rw [Nat.zero_add] at hbb ⊢; exact hbb) (by omega) (by
                  have : c.drop off = [] := by rw [List.drop_eq_nil_iff]; omega
                  rw [this]; simpa using hvr) (by rw [hcl]) hones c2
                exact ⟨ρ', y', w', f1, f2, f3, f4.of_ext hg⟩
            · cases h
      · cases h
    · cases h
  · cases h
end Go.Gd
namespace Go.Gd
open Go.Sh (SameOs valOf leafRun leafRun_run isAggT run_sizeOf' run_isAgg' run_cells get_lt arr_lt cell_blk sizeOf_ne mk_toList elem_of append_exec)
variable {P : Program} {ρ : Rho} {g g' : G} {w : World}
theorem firstG_len {n m : Nat} {x : Value} {vs : List Value} (hm : lenG x = some m') (hle : m ≤ m') (h : firstG n m x g = some vs) : vs.length = m * n := by
  unfold firstG at h
  split at h
  · obtain ⟨d1, d2⟩ := bifT h
    have := Nat.eq_of_beq_eq_true d1
    subst this; cases d2; simp
  · cases hb : Nat.beq m 0 with
    | true => rw [hb] at h; cases h; have := Nat.eq_of_beq_eq_true hb; subst this; simp
    | false =>
      rw [hb] at h
      simp only [cond] at h
      split at h
      · obtain ⟨d1, -, d2⟩ := andB h
        cases d2
        exact cut_len (Nat.le_of_ble_eq_true d1)
      · cases h
  · rename_i st
    obtain ⟨d1, d2⟩ := bifT h
    have d1 := Nat.eq_of_beq_eq_true d1
    cases d2
    simp only [lenG, Option.some.injEq] at hm
    have : st.data.size = st.size := rfl
    simp only [List.length_map, List.length_take, Array.length_toList]
    rw [d1]; omega
  · cases h
theorem copyG_sound {T T2 ty : TypeId} {d s u y1 y2 : Value} (hR : R ρ g w) (hd : VR ρ d y1) (hs : VR ρ s y2) (h : copyG P T d s g = some (u, g')) : OutV P ρ g w (Builtin.copy_ #[T, T2] ty #[y1, y2]) u g' := by
  unfold copyG at h
  split at h
  · rename_i n b z ls r off ld cap he hls
    obtain ⟨e, i, zv, hu, hi, rfl, rfl, hz, hz', rfl, hzl, hzo, hzs⟩ := elemG_sound (ρ := ρ) he
    have hm : (bif Nat.ble ls ld then ls else ld) = Nat.min ls ld := by
      cases hb : Nat.ble ls ld with
      | true => have := Nat.le_of_ble_eq_true hb; simp only [cond]; exact (Nat.min_eq_left this).symm
      | false =>
        have : ¬ ls ≤ ld := fun h => by rw [Nat.ble_eq_true_of_le h] at hb; cases hb
        simp only [cond]; exact (Nat.min_eq_right (by omega)).symm
    simp only [hm] at h
    split at h
    · rename_i vs hvs
      obtain ⟨news, hnew, hvr⟩ := firstG_sound (P := P) hR hs hvs
      have hlen := lenG_sound (P := P) hs hls w
      have hn1 := hnew w (Go.Sh.Up.refl w)
      have hsize : (sizeOf e).run P w = .ok i.size w := by simp [sizeOf, typeInfo, hi]
      have hvl : vs.length = Nat.min ls ld * i.size := firstG_len hls (Nat.min_le_left ls ld) hvs
      have hnl : vs.length = news.size := by have := hvr.len; simpa using this
      have hcopy : ∀ a cap', (Builtin.copy_ #[T, T2] ty #[.slice (some a) ld cap', y2]).run P w = ((storeCells a news.toList).run P w).andThen fun _ w' => .ok (goInt (Nat.min ls ld)) w' := fun a cap' => by
        simp [Builtin.copy_, run_underlying hu, hlen, hsize, hn1]
      cases hb : Nat.beq (Nat.min ls ld) 0 with
      | true =>
        rw [hb] at h; cases h
        have h0 := Nat.eq_of_beq_eq_true hb
        have hn0 : news = #[] := Array.eq_empty_of_size_eq_zero (by rw [← hnl, hvl, h0]; simp)
        subst hn0
        have hex : ∃ a cap', y1 = .slice (some a) ld cap' := by
          rcases hd.slice_inv with ⟨p, cap', hp, rfl, -⟩ | ⟨rfl, -, a, rfl⟩ <;> exact ⟨_, _, rfl⟩
        obtain ⟨a, cap', rfl⟩ := hex
        refine Out.same hR (by rw [hcopy]; rfl) ?_
        rw [h0]; exact .atom rfl
      | false =>
        rw [hb] at h
        simp only [cond] at h
        have h0 : Nat.min ls ld ≠ 0 := fun e => by rw [e] at hb; cases hb
        split at h
        · rename_i g1 hg1
          cases h
          rcases hd.slice_inv with ⟨p, cap', hp, rfl, e1, e2, e3⟩ | ⟨rfl, rfl, -⟩
          · obtain ⟨w', s1, s2, s3⟩ := putG_sound (P := P) hR hp hvr hg1
            exact ⟨ρ, _, w', by rw [hcopy, s1]; rfl, .atom rfl, s2, s3⟩
          · exact absurd (Nat.min_zero ls) h0
        · cases h
    · cases h
  · rename_i nbz b he hls
    obtain ⟨n', b', z⟩ := nbz
    obtain ⟨e, i, zv, hu, hi, rfl, rfl, hz, hz', rfl, hzl, hzo, hzs⟩ := elemG_sound (ρ := ρ) he
    cases h
    rw [hd.atom_inv rfl]
    have hlen := lenG_sound (P := P) hs hls w
    have hsize : (sizeOf e).run P w = .ok i.size w := by simp [sizeOf, typeInfo, hi]
    refine Out.same hR ?_ (.atom rfl : VR ρ (.int .i64 0) (.int .i64 0))
    have h0 : Nat.min b 0 = 0 := Nat.min_zero _
    have hf : (Builtin.firstCells i.size 0 y2).run P w = .ok #[] w := by
      cases y2 with
      | slice a l c => cases a <;> simp [Builtin.firstCells, loadCells, loadCellsFrom]
      | string st => simp [Builtin.firstCells, ByteArray.data_extract]
      | _ => simp [Builtin.lenOf, stuck] at hlen
    simp [Builtin.copy_, run_underlying hu, hlen, hsize, h0, hf, goInt]
  · cases h
/-! ## Maps -/
theorem checkKey_ok {kt : TypeId} {d : TypeDesc} (hd : P.underlying kt = some d) (hs : simpleK d = true) (e : Bool) (v : Value) : (Instr.checkKey e 10000 kt v).run P w = .ok () w := by
  show (Instr.checkKey e (9999 + 1) kt v).run P w = _
  unfold Instr.checkKey
  simp only [Sem.run_bind, run_underlying hd, Result.andThen_ok]
  cases d <;> simp [simpleK] at hs <;> rfl
theorem sameNow_atom {d : TypeDesc} {k k' : Value} {b : Bool} (h : Instr.sameNow d k k' = some b) : atomB k = true ∧ atomB k' = true := by
  unfold Instr.sameNow at h
  split at h <;> first | exact ⟨rfl, rfl⟩ | cases h
theorem findG_sound {d : TypeDesc} {k : Value} : ∀ {es : List (Value × Value × Nat)} {es' : List MapEntry} {i : Nat} {r : Option (Nat × Value)}, es'.length = es.length →
    (∀ (j : Nat) (k v : Value) (b : Nat), es[j]? = some (k, v, b) → ∃ m, es'[j]? = some m ∧ VR ρ k m.key ∧ VR ρ v m.val) → findG k es i d = some r →
    (r = none ∧ Instr.findNow d k es' i = some none) ∨ ∃ j v y, r = some (i + j, v) ∧ Instr.findNow d k es' i = some (some (i + j, y)) ∧ VR ρ v y ∧ ∃ k0 v0 b0, es[j]? = some (k0, v0, b0) ∧ Instr.sameNow d k k0 = some true
  | [], [], i, r, _, _, h => by cases h; exact .inl ⟨rfl, rfl⟩
  | [], _ :: _, i, r, hl, _, h => by simp at hl
  | _ :: _, [], i, r, hl, _, h => by simp at hl
  | (k0, v0, b0) :: es, m :: es', i, r, hl, hr, h => by
    obtain ⟨m', e1, e2, e3⟩ := hr 0 k0 v0 b0 rfl
    simp only [List.getElem?_cons_zero, Option.some.injEq] at e1
    subst e1
    unfold findG at h
    split at h
    · rename_i hs
      cases h
      have hk := e2.atom_inv (sameNow_atom hs).2
      refine .inr ⟨0, v0, m.val, rfl, ?_, e3, k0, v0, b0, rfl, hs⟩
      unfold Instr.findNow
      rw [hk, hs]; rfl
    · rename_i hs
      have hk := e2.atom_inv (sameNow_atom hs).2
      have hf : Instr.findNow d k (m :: es') i = Instr.findNow d k es' (i + 1) := by
        conv => lhs; unfold Instr.findNow
        rw [hk, hs]
      rcases findG_sound (by simpa using hl) (fun j k v b hj => by simpa using hr (j + 1) k v b (by simpa using hj)) h with ⟨h1, h2⟩ | ⟨j, v, y, h1, h2, h3, k1, v1, b1, h4, h5⟩
      · exact .inl ⟨h1, by rw [hf]; exact h2⟩
      · exact .inr ⟨j + 1, v, y, by rw [h1]; congr 2; omega, by rw [hf, h2]; congr 3; omega, h3, k1, v1, b1, by simpa using h4, h5⟩
    · cases h
theorem entries_sound {m y : Value} {es : List (Value × Value × Nat)} (hR : R ρ g w) (hm : VR ρ m y) (h : entries m g = some es) :
    (m = .map none ∧ y = .map none ∧ es = []) ∨ ∃ r ck p ms, m = .map (some r) ∧ y = .map (some p.b) ∧ ρ r = some p ∧ g.get r = some (.map es ck) ∧ w.heap[p.b]? = some (.map ms ck) ∧ ms.size = es.length ∧
      ∀ (j : Nat) (k v : Value) (b : Nat), es[j]? = some (k, v, b) → ∃ m, ms[j]? = some m ∧ VR ρ k m.key ∧ VR ρ v m.val ∧ m.born = b := by
  unfold entries at h
  split at h
  · cases h; exact .inl ⟨rfl, hm.atom_inv rfl, rfl⟩
  · rename_i r
    split at h
    · rename_i es' ck hg
      cases h
      obtain ⟨p, hp, rfl⟩ := hm.map_inv
      obtain ⟨p', e1, ms, f1, f2, f3, f4⟩ := hR.ob _ _ hg
      rw [hp] at e1; cases e1
      exact .inr ⟨r, ck, p, ms, rfl, rfl, hp, hg, f1, f2, f4⟩
    · cases h
  · cases h
theorem okV_sound {ok : Bool} {v y : Value} (h : VR ρ v y) : VR ρ (okV ok v) (if ok then .tuple #[y, .bool true] else y) := by
  cases ok
  · exact h
  · exact .tuple (.cons h (.cons (.atom rfl) .nil))
theorem getObj_map {r ck : Nat} {ms : Array MapEntry} (h : w.heap[r]? = some (.map ms ck)) : (getObj r).run P w = .ok (.map ms ck) w := by simp [getObj, Sem.run, h]
theorem look_run {T kt et : TypeId} {d : TypeDesc} {k y : Value} {ok : Bool} {esA : Array MapEntry} {K : Option (Nat × Value)} (hu : P.underlying T = some (.map kt et)) (hd : P.underlying kt = some d) (c1 : simpleK d = true)
    (hA : (y = .map none ∧ esA = #[]) ∨ ∃ b ck, y = .map (some b) ∧ w.heap[b]? = some (.map esA ck)) (hK : Instr.findNow d k esA.toList 0 = some K) :
    (Instr.lookup T y k ok).run P w = (match K with
      | some (_, v) => (.ok (if ok then .tuple #[v, .bool true] else v) w : Result Value)
      | none => ((zeroValue et).run P w).andThen fun z w => .ok (if ok then .tuple #[z, .bool false] else z) w) := by
  have hc := fun e => checkKey_ok (P := P) (w := w) hd c1 e k
  rcases hA with ⟨rfl, rfl⟩ | ⟨b, ck, rfl, hb⟩
  · simp only [Instr.lookup, Sem.run_bind, run_underlying hu, Result.andThen_ok, Sem.run_pure, hc, Instr.findKey, run_underlying hd, hK]
    cases K with
    | none => simp
    | some p => simp
  · simp only [Instr.lookup, Sem.run_bind, run_underlying hu, Result.andThen_ok, getObj_map hb, Sem.run_pure, hc, Instr.findKey, run_underlying hd, hK]
    cases K with
    | none => simp
    | some p => simp
theorem lookG_sound {T : TypeId} {m k u y j : Value} {ok : Bool} (hR : R ρ g w) (hm : VR ρ m y) (hk : VR ρ k j) (h : lookG P T m k ok g = some u) : ∃ z, (Instr.lookup T y j ok).run P w = .ok z w ∧ VR ρ u z := by
  unfold lookG at h
  split at h
  · rename_i kt et hu
    split at h
    · rename_i d es hd hes
      obtain ⟨c1, c2, h⟩ := andB h
      rw [leafB_eq c2 hk]
      have hE : ∃ esA : Array MapEntry, ((y = .map none ∧ esA = #[]) ∨ ∃ b ck, y = .map (some b) ∧ w.heap[b]? = some (.map esA ck)) ∧ esA.size = es.length ∧ ∀ (j : Nat) (k v : Value) (b : Nat), es[j]? = some (k, v, b) → ∃ m, esA[j]? = some m ∧ VR ρ k m.key ∧ VR ρ v m.val := by
        rcases entries_sound hR hm hes with ⟨-, rfl, rfl⟩ | ⟨r, ck, p, ms, -, rfl, hp, hg, f1, f2, f3⟩
        · exact ⟨#[], .inl ⟨rfl, rfl⟩, rfl, fun j k v b h => by simp at h⟩
        · exact ⟨ms, .inr ⟨_, _, rfl, f1⟩, f2, fun j k v b hj => let ⟨m, e1, e2, e3, _⟩ := f3 j k v b hj; ⟨m, e1, e2, e3⟩⟩
      obtain ⟨esA, hA, hsz, hrel⟩ := hE
      split at h
      · rename_i j0 v hf
        cases h
        rcases findG_sound (by rw [Array.length_toList]; exact hsz) (fun j k v b hj => by simpa using hrel j k v b hj) hf with ⟨h1, -⟩ | ⟨j, v', y', h1, h2, h3, -⟩
        · cases h1
        · cases h1
          exact ⟨_, look_run hu hd c1 hA h2, okV_sound h3⟩
      · rename_i hf
        simp only [Option.map_eq_some_iff] at h
        obtain ⟨z, hz, rfl⟩ := h
        rcases findG_sound (by rw [Array.length_toList]; exact hsz) (fun j k v b hj => by simpa using hrel j k v b hj) hf with ⟨-, h2⟩ | ⟨j, v', y', h1, -⟩
        · obtain ⟨zi, z1, z2, z3, -⟩ := zeroG_sound hz
          have hzz : VR ρ z z := leafB_self z3
          refine ⟨if ok then .tuple #[z, .bool false] else z, by rw [look_run hu hd c1 hA h2]; simp only [run_zero hz, Result.andThen_ok], ?_⟩
          cases ok
          · exact hzz
          · exact .tuple (.cons hzz (.cons (.atom rfl) .nil))
        · cases h1
      · cases h
    · cases h
  · cases h
/-- An object that shares its block with none is turned. -/
theorem R.turn {i : Nat} {o o' : GO} {p : Pl} {b : Obj} (hR : R ρ g w) (hg : g.get i = some o) (hp : ρ i = some p) (hk : o.kin = []) (he : o.ext = false) (hk' : o'.kin = []) (hn : GOR ρ (w.putObj p.b b) p o') :
    R ρ (g.set i o') (w.putObj p.b b) ∧ Fr ρ g w ρ (g.set i o') (w.putObj p.b b) := by
  have hoth : ∀ k, k ≠ p.b → (w.putObj p.b b).heap[k]? = w.heap[k]? := fun k hk => World.putObj_heap_other hk
  have alone : ∀ j x q, j ≠ i → g.get j = some x → ρ j = some q → q.b ≠ p.b := fun j x q h1 h2 h3 e => by
    rcases hR.apart i j _ _ p q hg h2 hp h3 e.symm with h | ⟨h, -⟩ | ⟨-, h, -⟩
    · exact h1 h.symm
    · rw [hk] at h; cases h
    · rw [he] at h; cases h
  refine ⟨⟨fun j hj => hR.fresh j hj, fun j x hj => ?_, fun j k a c p1 q1 h1 h2 h3 h4 h5 => ?_⟩, Le.refl _, by simp [World.putObj], fun k hk ho => hoth k fun e => ?_, fun k hk ho j x q h1 h2 => ?_, rfl, rfl⟩
  · rcases G.get_set hj with ⟨rfl, rfl⟩ | ⟨h1, h2⟩
    · exact ⟨p, hp, hn⟩
    · obtain ⟨q, q1, q2⟩ := hR.ob _ _ h2
      exact ⟨q, q1, q2.mono (Le.refl _) (hoth _ (alone j x q h1 h2 q1))⟩
  · rcases G.get_set h1 with ⟨rfl, rfl⟩ | ⟨m1, m2⟩ <;> rcases G.get_set h2 with ⟨rfl, rfl⟩ | ⟨n1, n2⟩
    · exact .inl rfl
    · rw [hp] at h3; cases h3
      exact absurd h5.symm (alone k c q1 n1 n2 h4)
    · rw [hp] at h4; cases h4
      exact absurd h5 (alone j a p1 m1 m2 h3)
    · exact hR.apart j k a c p1 q1 m2 n2 h3 h4 h5
  · subst e; exact ho i _ p hg hp rfl
  · rcases G.get_set h1 with ⟨rfl, rfl⟩ | ⟨m1, m2⟩
    · exact ho j _ q hg h2
    · exact ho j x q m2 h2
theorem ba_eq {a b : ByteArray} (h : (a == b) = true) : a = b := by
  cases a; cases b
  rename_i x y
  have h : (x == y) = true := h
  rw [beq_iff_eq] at h
  rw [h]
theorem ba_self {a : ByteArray} : (a == a) = true := by
  cases a
  rename_i x
  show (x == x) = true
  exact beq_self_eq_true x
theorem sameBits_now {d : TypeDesc} {k k' : Value} (h : Instr.sameNow d k k' = some true) : Instr.sameBits 10000 k' k = true := by
  unfold Instr.sameNow at h
  split at h
  · rename_i k1 a k2 b
    split at h
    · rename_i e
      subst e
      simp only [Option.some.injEq, beq_iff_eq] at h
      subst h
      simp [Instr.sameBits]
    · cases h
  · simp only [Option.some.injEq] at h
    have h := ba_eq h
    subst h; simp only [Instr.sameBits]; exact ba_self
  · simp only [Option.some.injEq, beq_iff_eq] at h
    subst h; simp [Instr.sameBits]
  · cases h
theorem mputG_sound {T : TypeId} {m k v y j z : Value} (hR : R ρ g w) (hm : VR ρ m y) (hk : VR ρ k j) (hv : VR ρ v z) (h : mputG P T m k v g = some g') :
    ∃ w', (Instr.mapUpdate T y j z).run P w = .ok () w' ∧ R ρ g' w' ∧ Fr ρ g w ρ g' w' := by
  unfold mputG at h
  split at h
  · rename_i kt et r hu
    split at h
    · rename_i d es ck hd hg
      obtain ⟨c1, c2, h⟩ := andB h
      rw [leafB_eq c2 hk]
      have hkk : VR ρ k k := leafB_self c2
      obtain ⟨p, hp, rfl⟩ := hm.map_inv
      obtain ⟨p', e1, ms, f1, f2, f3, f4⟩ := hR.ob _ _ hg
      rw [hp] at e1; cases e1
      have hlt : p.b < w.heap.size := arr_lt f1
      have hset : ∀ o, (setObj p.b o).run P w = .ok () (w.putObj p.b o) := fun o => by simp [setObj, Sem.run, f1, World.putObj]
      have hnew : ∀ o, (w.putObj p.b o).heap[p.b]? = some o := fun o => World.putObj_heap_same hlt
      have hc := checkKey_ok (P := P) (w := w) hd c1 false k
      split at h
      · rename_i i v0 hf
        cases h
        rcases findG_sound (es' := ms.toList) (by rw [Array.length_toList]; exact f2) (fun j k v b hj => by obtain ⟨m, e1, e2, e3, -⟩ := f4 j k v b hj; exact ⟨m, by simpa using e1, e2, e3⟩) hf with ⟨h1, -⟩ | ⟨j, v', y', h1, h2, h3, k0, v1, b0, h4, h5⟩
        · cases h1
        · simp only [Nat.zero_add, Option.some.injEq, Prod.mk.injEq] at h1 h2
          obtain ⟨rfl, rfl⟩ := h1
          obtain ⟨m0, m1, m2, m3, m4⟩ := f4 _ _ _ _ h4
          have hk0 := m2.atom_inv (sameNow_atom h5).2
          have hkeep : ∀ w : World, (Instr.keyThatStays (((ms[i]?).map (·.key)).getD k) k).run P w = .ok k w := fun w => by
            rw [m1]
            simp only [Option.map_some, Option.getD_some, Instr.keyThatStays, hk0, sameBits_now h5, if_true, Sem.run_pure]
          obtain ⟨r1, r2⟩ := R.turn (o' := .map (es.modify i fun e => (k, v, e.2.2)) ck) (b := .map (ms.modify i fun e => { e with key := k, val := z }) ck) hR hg hp rfl rfl rfl ⟨_, hnew _, by simp [f2], f3, fun j' k' v' b' hj' => by
            rw [List.getElem?_modify] at hj'
            rw [Array.getElem?_modify]
            by_cases hij : i = j'
            · subst hij
              simp only [h4, if_true, Option.map_eq_map, Option.map_some, Option.some.injEq, Prod.mk.injEq, m1] at hj' ⊢
              obtain ⟨rfl, rfl, rfl⟩ := hj'
              exact ⟨_, rfl, hkk, hv, m4⟩
            · simp only [hij, if_false, Option.map_eq_map, Option.map_id'] at hj' ⊢
              have hj2 : es[j']? = some (k', v', b') := by simpa using hj'
              exact f4 _ _ _ _ hj2⟩
          refine ⟨_, ?_, r1, r2⟩
          simp only [Instr.mapUpdate, Sem.run_bind, run_underlying hu, Result.andThen_ok, getObj_map f1, hc, Instr.findKey, run_underlying hd, h2, Sem.run_pure, hkeep, hset]
      · rename_i hf
        cases h
        rcases findG_sound (es' := ms.toList) (by rw [Array.length_toList]; exact f2) (fun j k v b hj => by obtain ⟨m, e1, e2, e3, -⟩ := f4 j k v b hj; exact ⟨m, by simpa using e1, e2, e3⟩) hf with ⟨-, h2⟩ | ⟨j, v', y', h1, -⟩
        · obtain ⟨r1, r2⟩ := R.turn (o' := .map (es ++ [(k, v, ck)]) (ck + 1)) (b := .map (ms.push { key := k, val := z, born := ck }) (ck + 1)) hR hg hp rfl rfl rfl ⟨_, hnew _, by simp [f2], f3, fun j' k' v' b' hj' => by
            by_cases hlt : j' < es.length
            · rw [List.getElem?_append_left hlt] at hj'
              obtain ⟨m, q1, q2⟩ := f4 _ _ _ _ hj'
              exact ⟨m, by rw [Array.getElem?_push, if_neg (by omega)]; exact q1, q2⟩
            · rw [List.getElem?_append_right (by omega)] at hj'
              have h0 : j' - es.length = 0 := by
                rcases Nat.eq_zero_or_pos (j' - es.length) with h | h
                · exact h
                · rw [List.getElem?_eq_none (by simp; omega)] at hj'; cases hj'
              rw [h0] at hj'
              simp only [List.getElem?_cons_zero, Option.some.injEq, Prod.mk.injEq] at hj'
              obtain ⟨rfl, rfl, rfl⟩ := hj'
              exact ⟨_, by rw [Array.getElem?_push, if_pos (by omega)], hkk, hv, rfl⟩⟩
          refine ⟨_, ?_, r1, r2⟩
          simp only [Instr.mapUpdate, Sem.run_bind, run_underlying hu, Result.andThen_ok, getObj_map f1, hc, Instr.findKey, run_underlying hd, h2, Sem.run_pure, hset]
        · cases h1
      · cases h
    · cases h
  · cases h
/-! ## Interfaces -/
theorem makeIfG_sound {T : TypeId} {v u y : Value} (hv : VR ρ v y) (h : makeIfG P T v = some u) : ∃ z, (Instr.makeInterface T y).run P w = .ok z w ∧ VR ρ u z := by
  unfold makeIfG at h
  split at h
  · cases h
  · cases h
  · rename_i d hne hu
    cases h
    refine ⟨.iface T y, ?_, .iface hv⟩
    simp only [Instr.makeInterface, Sem.run_bind, run_underlying hu, Result.andThen_ok]
    cases d <;> first | rfl | exact absurd rfl (hne _)
theorem assertG_sound {T A : TypeId} {x u y : Value} {ok : Bool} (hx : VR ρ x y) (h : assertG P x T A ok = some u) : ∃ z, (Instr.typeAssert y T A ok).run P w = .ok z w ∧ VR ρ u z := by
  unfold assertG at h
  split at h
  · rename_i want t v hu
    obtain ⟨z, rfl, hz⟩ := hx.iface_inv
    split at h
    · rename_i i hi
      split at h
      · rename_i hm
        cases h
        refine ⟨_, ?_, okV_sound (ok := ok) (VR.iface (t := t) hz)⟩
        have hinfo : (typeInfo t).run P w = .ok i w := by simp [typeInfo, hi]
        simp [Instr.typeAssert, run_underlying hu, hinfo, hm]
      · cases h
    · cases h
  · cases h
  · rename_i d t v hne hu
    obtain ⟨z, rfl, hz⟩ := hx.iface_inv
    cases hb : Nat.beq t A with
    | true =>
      rw [hb] at h; cases h
      have hb := Nat.eq_of_beq_eq_true hb
      refine ⟨_, ?_, okV_sound (ok := ok) hz⟩
      simp only [Instr.typeAssert, Sem.run_bind, run_underlying hu, Result.andThen_ok]
      cases d <;> first | exact absurd rfl (hne _) | simp [hb]
    | false =>
      rw [hb] at h
      have h1 := (bifT h).1
      replace h := (bifT h).2
      subst h1
      have hb : t ≠ A := fun e => by rw [e] at hb; rw [Nat.beq_refl] at hb; cases hb
      simp only [Option.map_eq_some_iff] at h
      obtain ⟨q, hq, rfl⟩ := h
      obtain ⟨zi, z1, z2, z3, -⟩ := zeroG_sound hq
      refine ⟨.tuple #[q, .bool false], ?_, .tuple (.cons (leafB_self z3) (.cons (.atom rfl) .nil))⟩
      simp only [Instr.typeAssert, Sem.run_bind, run_underlying hu, Result.andThen_ok]
      cases d <;> first | exact absurd rfl (hne _) | simp [hb, run_zero hq]
  · rename_i d hne hu
    have h1 := (bifT h).1
    replace h := (bifT h).2
    subst h1
    rw [hx.atom_inv rfl]
    simp only [Option.map_eq_some_iff] at h
    obtain ⟨q, hq, rfl⟩ := h
    obtain ⟨zi, z1, z2, z3, -⟩ := zeroG_sound hq
    refine ⟨.tuple #[q, .bool false], ?_, .tuple (.cons (leafB_self z3) (.cons (.atom rfl) .nil))⟩
    simp only [Instr.typeAssert, Sem.run_bind, run_underlying hu, Result.andThen_ok]
    cases d <;> first | exact absurd rfl (hne _) | simp [run_zero hq]
  · cases h
end Go.Gd
namespace Go.Gd
variable {P : Program}
theorem iter_new {ρ : Rho} {g : G} {w : World} {m m' : Option Nat} {s k : Nat} (hR : R ρ g w) (hm : VR ρ (.map m) (.map m')) :
    VR (ρ.put g.nx ⟨w.heap.size, 0, 1, 0⟩) (ptrV g.nx) (.pointer (some ⟨w.heap.size, 0, none⟩)) ∧ R (ρ.put g.nx ⟨w.heap.size, 0, 1, 0⟩) (g.new (.iter m s [] k)) (w.alloc (.mapIter m' s #[] k)) ∧
      Fr ρ g w (ρ.put g.nx ⟨w.heap.size, 0, 1, 0⟩) (g.new (.iter m s [] k)) (w.alloc (.mapIter m' s #[] k)) := by
  obtain ⟨r1, r2⟩ := R.new (o := .iter m s [] k) (p := ⟨w.heap.size, 0, 1, 0⟩) (w' := w.alloc (.mapIter m' s #[] k)) hR (alloc_old (fun _ => rfl) rfl) (by simp only [World.alloc, Array.size_push]) ⟨rfl, rfl⟩ rfl
    ⟨m', alloc_new rfl, hm.mono (Rho.put_le (hR.fresh _ (Nat.le_refl _))), rfl⟩
  exact ⟨.ptr (off := 0) (Rho.put_self (p := ⟨w.heap.size, 0, 1, 0⟩)), r1, r2⟩
theorem rangeMG_sound {ρ : Rho} {g g' : G} {w : World} {T : TypeId} {v y r : Value} (hR : R ρ g w) (hv : VR ρ v y) (h : rangeMG P T v g = some (r, g')) : OutV P ρ g w (Instr.range T y) r g' := by
  unfold rangeMG at h
  split at h
  · rename_i kt et hT
    split at h
    · cases h
      rw [hv.atom_inv rfl]
      obtain ⟨q1, q2, q3⟩ := iter_new (m := none) (m' := none) (s := 0) (k := 0) hR (.atom rfl)
      exact ⟨_, _, _, run_range_nilMap w T kt et hT, q1, q2, q3⟩
    · rename_i r0
      split at h
      · rename_i es c hg
        cases h
        obtain ⟨p, hp, rfl⟩ := hv.map_inv
        obtain ⟨p', e1, ms, f1, f2⟩ := hR.ob _ _ hg
        rw [hp] at e1; cases e1
        obtain ⟨q1, q2, q3⟩ := iter_new (s := c) (k := c) hR hv
        exact ⟨_, _, _, run_range_map w T kt et p.b ms c hT f1, q1, q2, q3⟩
      · cases h
    · cases h
  · cases h
end Go.Gd
namespace Go.Gd
variable {P : Program} {ρ : Rho} {g g' : G} {w : World}
inductive MRs (ρ : Rho) : List (Value × Value × Nat) → List MapEntry → Prop
  | nil : MRs ρ [] []
  | cons {k v b m es ms} (h1 : VR ρ k m.key) (h2 : VR ρ v m.val) (h3 : m.born = b) (hs : MRs ρ es ms) : MRs ρ ((k, v, b) :: es) (m :: ms)
theorem MRs.of_get : ∀ {es : List (Value × Value × Nat)} {ms : List MapEntry}, ms.length = es.length → (∀ (j : Nat) (k v : Value) (b : Nat), es[j]? = some (k, v, b) → ∃ m, ms[j]? = some m ∧ VR ρ k m.key ∧ VR ρ v m.val ∧ m.born = b) → MRs ρ es ms
  | [], [], _, _ => .nil
  | [], _ :: _, h, _ => by simp at h
  | _ :: _, [], h, _ => by simp at h
  | (k, v, b) :: es, m :: ms, h, hg => by
    obtain ⟨m', e, h1, h2, h3⟩ := hg 0 k v b rfl
    simp at e; subst e
    exact .cons h1 h2 h3 (MRs.of_get (by simpa using h) fun j k v b hj => by simpa using hg (j + 1) k v b (by simpa using hj))
theorem MRs.filter {p : Nat → Bool} : ∀ {es : List (Value × Value × Nat)} {ms : List MapEntry}, MRs ρ es ms → MRs ρ (es.filter fun e => p e.2.2) (ms.filter fun m => p m.born)
  | _, _, .nil => .nil
  | _, _, .cons (b := b) h1 h2 h3 hs => by
    subst h3
    simp only [List.filter_cons]
    split
    · exact .cons h1 h2 rfl hs.filter
    · exact hs.filter
theorem MRs.any {p : Nat → Bool} : ∀ {es : List (Value × Value × Nat)} {ms : List MapEntry}, MRs ρ es ms → (ms.any fun m => p m.born) = es.any fun e => p e.2.2
  | _, _, .nil => rfl
  | _, _, .cons h1 h2 h3 hs => by subst h3; simp only [List.any_cons, hs.any]
theorem MRs.find {p : Nat → Bool} : ∀ {es : List (Value × Value × Nat)} {ms : List MapEntry} {k v : Value} {b : Nat}, MRs ρ es ms → (es.find? fun e => p e.2.2) = some (k, v, b) → ∃ m, (ms.find? fun m => p m.born) = some m ∧ VR ρ k m.key ∧ VR ρ v m.val
  | _, _, _, _, _, .nil, h => by cases h
  | _, _, k, v, b, .cons (b := b') h1 h2 h3 hs, h => by
    subst h3
    simp only [List.find?_cons] at h ⊢
    split at h
    · cases h
      exact ⟨_, rfl, h1, h2⟩
    · exact hs.find h
theorem notIn_eq (seen : List Nat) (b : Nat) : notIn seen b = !(seen.reverse.toArray.contains b) := by
  unfold notIn
  congr 1
  rw [List.contains_toArray, List.contains_eq_any_beq, List.any_reverse]
  congr 1
  funext x
  show _ = (b == x)
  cases h : Nat.beq x b with
  | true => rw [Nat.eq_of_beq_eq_true h]; exact (beq_self_eq_true b).symm
  | false =>
    cases h' : b == x with
    | false => rfl
    | true => rw [beq_iff_eq.1 h', Nat.beq_refl] at h; cases h
theorem iterAt {i since last : Nat} {m : Option Nat} {seen : List Nat} {y : Value} (hR : R ρ g w) (hv : VR ρ (.pointer (some ⟨i, 0, none⟩)) y) (hg : g.get i = some (.iter m since seen last)) :
    ∃ p m', ρ i = some p ∧ p.o = 0 ∧ y = .pointer (some ⟨p.b, 0, none⟩) ∧ w.heap[p.b]? = some (.mapIter m' since seen.reverse.toArray last) ∧ VR ρ (.map m) (.map m') := by
  obtain ⟨p, hp, rfl⟩ := hv.ptr_inv
  obtain ⟨p', e1, m', f1, f2, f3⟩ := hR.ob _ _ hg
  rw [hp] at e1; cases e1
  exact ⟨p, m', hp, f3, by rw [f3], f1, f2⟩
theorem getObj_iter {r a b : Nat} {m : Option Nat} {s : Array Nat} (h : w.heap[r]? = some (.mapIter m a s b)) : (getObj r).run P w = .ok (.mapIter m a s b) w := by simp [getObj, Sem.run, h]
theorem nextMG_sound {v y r : Value} {ty : TypeId} (hR : R ρ g w) (hv : VR ρ v y) (h : nextMG v g = some (r, g')) : OutV P ρ g w (Instr.next y false ty) r g' := by
  unfold nextMG at h
  split at h
  · rename_i i
    split at h
    · rename_i since seen last hg
      cases h
      obtain ⟨p, m', hp, ho, rfl, f1, f2⟩ := iterAt hR hv hg
      have : m' = none := by cases f2; rfl
      subst this
      refine Out.same hR ?_ (.tuple (.cons (.atom rfl) .nil))
      simp only [Instr.next, Sem.run_bind, getObj_iter f1, Result.andThen_ok, Sem.run_pure]
    · rename_i m since seen last hg
      split at h
      · rename_i es clock hgm
        obtain ⟨h1, h⟩ := bifT h
        obtain ⟨p, m', hp, ho, rfl, f1, f2⟩ := iterAt hR hv hg
        obtain ⟨pm, hpm, e⟩ := f2.map_inv
        cases e
        obtain ⟨pm', e1, ms, k1, k2, k3, k4⟩ := hR.ob _ _ hgm
        rw [hpm] at e1; cases e1
        have hms : MRs ρ es ms.toList := MRs.of_get (by simpa using k2) (fun j k v b hj => by simpa using k4 j k v b hj)
        have htest : (!(seen.reverse.toArray).isEmpty && !ms.isEmpty && ms.all (fun x => decide (x.born ≥ last))) = false := by
          rw [Bool.or_eq_true, Bool.or_eq_true] at h1
          rcases h1 with (h1 | h1) | h1
          · rw [List.isEmpty_iff.1 h1]; rfl
          · rw [List.isEmpty_iff.1 h1] at k2
            have : ms = #[] := Array.eq_empty_of_size_eq_zero k2
            subst this; simp
          · have h2 := hms.any (p := fun b => Nat.blt b last)
            rw [h1] at h2
            have : ms.all (fun x => decide (x.born ≥ last)) = false := by
              rw [Bool.eq_false_iff]
              intro h3
              rw [Array.all_eq_true_iff_forall_mem] at h3
              rw [List.any_eq_true] at h2
              obtain ⟨x, hx, hlt⟩ := h2
              have := h3 x (by simpa using hx)
              have hlt := Nat.le_of_ble_eq_true hlt
              simp at this
              omega
            simp [this]
        have hL : (ms.filter fun e => !(seen.reverse.toArray).contains e.born).toList = ms.toList.filter fun e => notIn seen e.born := by
          rw [Array.toList_filter]
          congr 1
          funext e
          exact (notIn_eq _ _).symm
        have hf := hms.filter (p := fun b => notIn seen b)
        rw [← hL] at hf
        split at h
        · rename_i hes
          cases h
          rw [hes] at hf
          have hemp : (ms.filter fun e => !(seen.reverse.toArray).contains e.born) = #[] := by
            apply Array.ext'
            generalize (ms.filter fun e => !(seen.reverse.toArray).contains e.born).toList = L at hf
            cases hf
            rfl
          refine Out.same hR ?_ (.tuple (.cons (.atom rfl) .nil))
          simp only [Instr.next, Sem.run_bind, getObj_iter f1, getObj_map k1, Result.andThen_ok, htest, Bool.false_eq_true, if_false, hemp, Sem.run_pure]
          simp [choose, Sem.run, Question.forced]
        · rename_i k v b hes
          obtain ⟨hb, h⟩ := bifT h
          cases h
          rw [hes] at hf
          generalize hM : (ms.filter fun e => !(seen.reverse.toArray).contains e.born).toList = L at hf
          cases hf with
          | @cons _ _ _ e _ _ h1 h2 h3 hs =>
            cases hs
            have hsing : (ms.filter fun e => !(seen.reverse.toArray).contains e.born) = #[e] := by
              apply Array.ext'
              rw [hM]
            subst h3
            have hlt : e.born < since := Nat.le_of_ble_eq_true hb
            have hnew : (w.putObj p.b (.mapIter (some pm.b) since (seen.reverse.toArray.push e.born) clock)).heap[p.b]? = some (.mapIter (some pm.b) since (e.born :: seen).reverse.toArray clock) := by
              rw [World.putObj_heap_same (Go.Sh.arr_lt f1)]
              simp
            obtain ⟨r1, r2⟩ := R.turn (o' := .iter (some m) since (e.born :: seen) clock) (b := .mapIter (some pm.b) since (seen.reverse.toArray.push e.born) clock) hR hg hp rfl rfl rfl ⟨_, hnew, f2, ho⟩
            refine ⟨ρ, _, _, ?_, .tuple (.cons (.atom rfl) (.cons h1 (.cons h2 .nil))), r1, r2⟩
            have hset : ∀ o, (setObj p.b o).run P w = .ok () (w.putObj p.b o) := fun o => by simp [setObj, Sem.run, f1, World.putObj]
            have c1 : (#[e] : Array MapEntry).filter (fun x => decide (x.born < since)) = #[e] := by
              apply Array.ext'; rw [Array.toList_filter]; simp [hlt]
            have c2 : (#[e] : Array MapEntry).filter (fun x => decide (x.born ≥ since)) = #[] := by
              apply Array.ext'; rw [Array.toList_filter]; simp; omega
            have hch : (choose (Question.mapNext 1)).run P w = .ok 0 w := by simp [choose, Sem.run, Question.forced]
            have c3 : ((if (#[e] : Array MapEntry).isEmpty = true then #[none] else #[]) ++ ((#[e] : Array MapEntry) ++ #[]).map some) = #[some e] := by simp
            simp only [Instr.next, Sem.run_bind, getObj_iter f1, getObj_map k1, Result.andThen_ok, htest, Bool.false_eq_true, if_false, hsing, c1, c2, c3]
            simp only [List.size_toArray, List.length_cons, List.length_nil, Nat.zero_add, hch, Result.andThen_ok]
            simp [hset, Sem.run_pure]
        · cases h
      · cases h
    · cases h
  · cases h
theorem entryMG_sound {v y r : Value} (hR : R ρ g w) (hv : VR ρ v y) (h : entryMG v g = some r) : ∃ z, (Instr.entry y).run P w = .ok z w ∧ VR ρ r z := by
  unfold entryMG at h
  split at h
  · rename_i i
    split at h
    · rename_i m since b seen last hg
      split at h
      · rename_i es clock hgm
        replace h := bifT h
        obtain ⟨hb, h2⟩ := h
        replace hb := Nat.eq_of_beq_eq_true hb
        subst hb
        have h := h2
        split at h
        · rename_i k v b' hf
          cases h
          obtain ⟨p, m', hp, ho, rfl, f1, f2⟩ := iterAt hR hv hg
          obtain ⟨pm, hpm, e⟩ := f2.map_inv
          cases e
          obtain ⟨pm', e1, ms, k1, k2, k3, k4⟩ := hR.ob _ _ hgm
          rw [hpm] at e1; cases e1
          have hms : MRs ρ es ms.toList := MRs.of_get (by simpa using k2) (fun j k v b hj => by simpa using k4 j k v b hj)
          obtain ⟨e, e1, e2, e3⟩ := hms.find (p := fun x => Nat.beq x b) hf
          have hfind : ms.find? (fun x => x.born == b) = some e := by
            rw [← Array.find?_toList]
            rw [← e1]
            congr 1
            funext x
            cases h : Nat.beq x.born b with
            | true => rw [Nat.eq_of_beq_eq_true h]; exact beq_self_eq_true b
            | false =>
              cases h' : x.born == b with
              | false => rfl
              | true => rw [beq_iff_eq.1 h', Nat.beq_refl] at h; cases h
          refine ⟨.tuple #[e.key, e.val], ?_, .tuple (.cons e2 (.cons e3 .nil))⟩
          have hback : (b :: seen).reverse.toArray.back? = some b := by simp
          simp only [Instr.entry, Sem.run_bind, getObj_iter f1, getObj_map k1, Result.andThen_ok, hback, bne_self_eq_false, Bool.false_eq_true, if_false, hfind, Sem.run_pure]
        · cases h
      · cases h
    · cases h
  · cases h
end Go.Gd
namespace Go.Gd
open Go.Sh (SameOs valOf leafRun leafRun_run)
variable {P : Program} {ρ : Rho} {g g' : G} {w : World} {tm : Tr Value} {a : Act}
/-- The operands' ground values stand for what they are. -/
def EvR (ρ : Rho) (tm : Tr Value) (a : Act) (xs : List Operand) : Prop := ∀ x ∈ xs, ∀ v, evG tm x = some v → VR ρ v (a.eval x)
theorem EvR.mem {xs : List Operand} (h : EvR ρ tm a xs) {x : Operand} (hx : x ∈ xs) {v : Value} (hv : evG tm x = some v) : VR ρ v (a.eval x) := h x hx v hv
theorem evs_sound : ∀ {xs : List Operand} {vs : List Value}, EvR ρ tm a xs → evs tm xs = some vs → VRs ρ vs (xs.map a.eval)
  | [], vs, _, h => by cases h; exact .nil
  | x :: xs, vs, hE, h => by
    simp only [evs] at h
    split at h
    · rename_i v vs' h1 h2
      cases h
      exact .cons (hE.mem List.mem_cons_self h1) (evs_sound (fun y hy => hE y (List.mem_cons_of_mem _ hy)) h2)
    · cases h
theorem evPs_sound : ∀ {xs : List (Nat × Operand)} {vs : List (Nat × Value)}, EvR ρ tm a (xs.map (·.2)) → evPs tm xs = some vs → VRs ρ (vs.map (·.2)) ((xs.map fun p => (p.1, a.eval p.2)).map (·.2)) ∧ vs.map (·.1) = (xs.map fun p => (p.1, a.eval p.2)).map (·.1)
  | [], vs, _, h => by cases h; exact ⟨.nil, rfl⟩
  | (i, x) :: xs, vs, hE, h => by
    simp only [evPs] at h
    split at h
    · rename_i v vs' h1 h2
      cases h
      obtain ⟨r1, r2⟩ := evPs_sound (fun y hy => hE y (List.mem_cons_of_mem _ hy)) h2
      refine ⟨.cons (hE.mem List.mem_cons_self h1) r1, ?_⟩
      simp only [List.map_cons, r2]
    · cases h
theorem optV_sound {x : Option Operand} {v : Option Value} (hE : ∀ y, x = some y → ∀ v, evG tm y = some v → VR ρ v (a.eval y)) (h : optV tm x = some v) : OptR ρ v (x.map a.eval) := by
  cases x with
  | none => cases h; trivial
  | some y =>
    simp only [optV, Option.map_eq_some_iff] at h
    obtain ⟨u, hu, rfl⟩ := h
    exact hE y rfl u hu
/-- What an operation leaves, as the machine takes it. -/
def OutO (P : Program) (ρ : Rho) (g : G) (w : World) (s : Sem Next) (v : Value) (g' : G) : Prop :=
  ∃ ρ' y w', (s.run P w = .ok (.value y) w' ∨ (s.run P w = .ok .skip w' ∧ y = undef)) ∧ VR ρ' v y ∧ R ρ' g' w' ∧ Fr ρ g w ρ' g' w'
theorem OutV.o {s : Sem Value} {v : Value} (h : OutV P ρ g w s v g') : OutO P ρ g w (do pure (.value (← s))) v g' := by
  obtain ⟨ρ', y, w', h1, h2, h3, h4⟩ := h
  exact ⟨ρ', y, w', .inl (by simp [h1]), h2, h3, h4⟩
theorem OutO.v {s : Sem Value} {v y : Value} (hR : R ρ g w) (h : s.run P w = .ok y w) (hv : VR ρ v y) : OutO P ρ g w (do pure (.value (← s))) v g := OutV.o (Out.same hR h hv)
theorem OutO.p {v y : Value} (hR : R ρ g w) (hv : VR ρ v y) : OutO P ρ g w (pure (.value y)) v g := ⟨ρ, y, w, .inl rfl, hv, hR, Fr.refl _ _ _⟩
theorem OutO.u {s : Sem Unit} (h : ∃ w', s.run P w = .ok () w' ∧ R ρ g' w' ∧ Fr ρ g w ρ g' w') : OutO P ρ g w (do s; pure .skip) undefV g' := by
  obtain ⟨w', h1, h2, h3⟩ := h
  exact ⟨ρ, undef, w', .inr ⟨by simp [h1], rfl⟩, .tuple .nil, h2, h3⟩
theorem mapG {α : Type} {x : Option α} {v : Value} {f : α → Value × G} (h : x.map f = some (v, g')) : ∃ u, x = some u ∧ f u = (v, g') := by
  simpa only [Option.map_eq_some_iff] using h
theorem VRs.toArr {xs ys : List Value} (h : VRs ρ xs ys) {A : Array Value} (hA : A.toList = ys) : VRs ρ xs A.toList := by rw [hA]; exact h
theorem lenBG_sound {T ty : TypeId} {v u y : Value} (hR : R ρ g w) (hv : VR ρ v y) (h : lenBG P T v g = some u) : (Builtin.len_ #[T] ty #[y]).run P w = .ok u w ∧ VR ρ u u := by
  unfold lenBG at h
  split at h
  · rename_i s hu
    cases h
    rw [hv.atom_inv rfl]
    exact ⟨by simp [Builtin.len_, run_underlying hu, goInt], .atom rfl⟩
  · rename_i e a n c hu
    cases h
    refine ⟨?_, .atom rfl⟩
    have : ∃ a' c', y = .slice a' n c' := by
      cases hv with
      | atom h => exact ⟨_, _, rfl⟩
      | slice => exact ⟨_, _, rfl⟩
      | slice0 => exact ⟨_, _, rfl⟩
    obtain ⟨a', c', rfl⟩ := this
    simp [Builtin.len_, run_underlying hu, goInt]
  · rename_i kt et m hu
    simp only [Option.map_eq_some_iff] at h
    obtain ⟨es, hes, rfl⟩ := h
    refine ⟨?_, .atom rfl⟩
    rcases entries_sound hR hv hes with ⟨-, rfl, rfl⟩ | ⟨r, ck, p, ms, -, rfl, hp, hg, f1, f2, f3⟩
    · simp [Builtin.len_, run_underlying hu, goInt]
    · simp [Builtin.len_, run_underlying hu, goInt, getObj_map f1, f2]
  · cases h
theorem capBG_sound {T ty : TypeId} {v u y : Value} (hv : VR ρ v y) (h : capBG P T v = some u) : (Builtin.cap_ #[T] ty #[y]).run P w = .ok u w ∧ VR ρ u u := by
  unfold capBG at h
  split at h
  · rename_i e hu
    cases h
    rw [hv.atom_inv rfl]
    exact ⟨by simp [Builtin.cap_, run_underlying hu, goInt], .atom rfl⟩
  · cases h
theorem builtG_sound {b : Builtin} {ty : TypeId} {Ts : List TypeId} {vs : List Value} {ys : List Value} {cs : Array Bool} {v : Value} (hR : R ρ g w) (hv : VRs ρ vs ys) (h : builtG P b ty Ts vs g = some (v, g')) :
    OutO P ρ g w (builtin b Ts.toArray ty cs ys.toArray) v g' := by
  unfold builtG at h
  split at h
  · rename_i T v0
    obtain ⟨u, hu, h⟩ := mapG h
    cases h
    cases hv with
    | cons h1 hn =>
      cases hn
      obtain ⟨e1, e2⟩ := lenBG_sound (ty := ty) hR h1 hu
      exact OutO.v hR e1 e2
  · rename_i T v0
    obtain ⟨u, hu, h⟩ := mapG h
    cases h
    cases hv with
    | cons h1 hn =>
      cases hn
      obtain ⟨e1, e2⟩ := capBG_sound (ty := ty) (w := w) h1 hu
      exact OutO.v hR e1 e2
  · rename_i T T2 s x
    cases hv with
    | cons h1 hn =>
      cases hn with
      | cons h2 hn =>
        cases hn
        exact (appG_sound hR h1 h2 h).o
  · rename_i T T2 d s
    cases hv with
    | cons h1 hn =>
      cases hn with
      | cons h2 hn =>
        cases hn
        exact (copyG_sound hR h1 h2 h).o
  · obtain ⟨h0, h⟩ := bifT h
    obtain ⟨u, hu, h⟩ := mapG h
    cases h
    obtain ⟨h1, h2⟩ := outL_inv hu
    rw [leafsB_eq (fun x hx => List.all_eq_true.1 h0 x hx) hv]
    exact OutO.v hR (leafRun_run h1 w) (leafB_self h2)
  · obtain ⟨h0, h⟩ := bifT h
    obtain ⟨u, hu, h⟩ := mapG h
    cases h
    obtain ⟨h1, h2⟩ := outL_inv hu
    rw [leafsB_eq (fun x hx => List.all_eq_true.1 h0 x hx) hv]
    exact OutO.v hR (leafRun_run h1 w) (leafB_self h2)
  · cases h
theorem nilAhead_methG {t : TypeId} {name : String} {f : FuncId} (h : methG P t name = some f) (v : Value) (n : Nat) : (nilAhead (n + 1) t v name).run P w = .ok (some false) w := by
  unfold methG at h
  split at h
  · rename_i i hi
    split at h
    · rename_i m hm
      split at h
      · rename_i hp
        have ht : (typeInfo t).run P w = .ok i w := by simp [typeInfo, hi]
        split at h
        · rename_i f' e hf hu
          unfold nilAhead
          simp only [Sem.run_bind, ht, Result.andThen_ok, hm, hp, followBlind, Sem.run_pure, hf]
        · cases h
        · rename_i f' d hne hf hu
          unfold nilAhead
          simp only [Sem.run_bind, ht, Result.andThen_ok, hm, hp, followBlind, Sem.run_pure, hf, run_underlying hu]
          cases d with
          | pointer e => exact (hne e rfl).elim
          | _ => simp [Sem.run_pure]
        · cases h
      · cases h
    · cases h
  · cases h
set_option maxHeartbeats 4000000 in
theorem opG_sound {o : Oper} {v : Value} (hE : EvR ρ tm a o.op.operands.toList) (hR : R ρ g w) (h : opG P tm g o.type o.op = some (v, g')) : OutO P ρ g w (execOp a.eval o) v g' := by
  obtain ⟨dst, op, type, pos, after, guard⟩ := o
  simp only at hE h
  cases op <;> simp only [opG, reduceCtorEq] at h <;> simp only [Op.operands] at hE
  case move x =>
    obtain ⟨u, hu, h⟩ := mapG h; cases h
    exact OutO.p hR (hE.mem (by simp) hu)
  case assign x =>
    obtain ⟨u, hu, h⟩ := mapG h; cases h
    exact OutO.p hR (hE.mem (by simp) hu)
  case pick c x y =>
    split at h
    · rename_i b hb
      obtain ⟨u, hu, h⟩ := mapG h; cases h
      have hc := (hE.mem (by simp) hb).atom_inv rfl
      cases b
      · exact ⟨ρ, _, w, .inl (by simp [execOp, hc, asBool]), hE.mem (by simp) hu, hR, Fr.refl _ _ _⟩
      · exact ⟨ρ, _, w, .inl (by simp [execOp, hc, asBool]), hE.mem (by simp) hu, hR, Fr.refl _ _ _⟩
    · cases h
  case alloc T => exact (allocG_sound (old := undef) hR h).o
  case box T x =>
    split at h
    · rename_i u hu
      exact (boxG_sound hR (hE.mem (by simp) hu) h).o
    · cases h
  case build T ps =>
    split at h
    · rename_i l hl
      obtain ⟨u, hu, h⟩ := mapG h; cases h
      obtain ⟨r1, r2⟩ := evPs_sound (ρ := ρ) (a := a) (by simpa using hE) hl
      obtain ⟨z, z1, z2⟩ := buildG_sound (P := P) (w := w) (qs := ps.map fun p => (p.1, a.eval p.2)) (by simpa using r1) (by simpa using r2) hu
      exact OutO.v hR z1 z2
    · cases h
  case buildSlice T n ps =>
    split at h
    · rename_i l hl
      obtain ⟨r1, r2⟩ := evPs_sound (ρ := ρ) (a := a) (by simpa using hE) hl
      exact (buildSliceG_sound (qs := ps.map fun p => (p.1, a.eval p.2)) hR (by simpa using r1) (by simpa using r2) h).o
    · cases h
  case load T x =>
    split at h
    · rename_i u hu
      obtain ⟨u', hu', h⟩ := mapG h; cases h
      obtain ⟨z, z1, z2⟩ := loadG_sound hR (hE.mem (by simp) hu) hu'
      exact OutO.v hR z1 z2
    · cases h
  case store T x y =>
    split at h
    · rename_i u u' hu hu'
      obtain ⟨g1, hg1, h⟩ := mapG h; cases h
      exact OutO.u (storeG_sound hR (hE.mem (by simp) hu) (hE.mem (by simp) hu') hg1)
    · cases h
  case nilCheck x =>
    split at h
    · rename_i u hu
      obtain ⟨h1, h⟩ := bifT h; cases h
      have hr := hE.mem (x := x) (by simp) hu
      refine ⟨ρ, _, w, .inl ?_, hr, hR, Fr.refl _ _ _⟩
      simp only [execOp]
      generalize a.eval x = y at hr
      unfold nilG at h1
      split at h1
      · rename_i name t u c
        obtain ⟨c⟩ := c
        obtain ⟨xs', ys', rfl, hx, -⟩ := hr.func_inv rfl
        cases hx with
        | cons h2 hn =>
          cases hn
          obtain ⟨z, rfl, -⟩ := h2.iface_inv
          obtain ⟨f, hf⟩ := Option.isSome_iff_exists.1 h1
          simp only [List.getElem?_toArray, List.getElem?_cons_zero]
          have hd : P.types.size + Made.depth - 1 + 1 = P.types.size + Made.depth := by
            have : 0 < Made.depth := by decide
            omega
          have hn := fun w => nilAhead_methG (w := w) hf z (P.types.size + Made.depth - 1)
          simp only [hd] at hn
          simp only [Sem.run_bind, run_program, Result.andThen_ok, hn]
          rfl
      rename_i hnm
      clear hnm
      unfold notNil at h1
      split at h1
      · cases hr with
        | ptr => rfl
        | atom h => simp [atomB] at h
      · obtain ⟨z, rfl, -⟩ := hr.iface_inv; rfl
      · rename_i f xs ys
        obtain ⟨xs⟩ := xs; obtain ⟨ys⟩ := ys
        obtain ⟨xs', ys', rfl, -⟩ := hr.func_inv rfl; rfl
      · cases h1
    · cases h
  case binOp op T x y yT =>
    split at h
    · rename_i u u' hu hu'
      obtain ⟨r, hr, h⟩ := mapG h; cases h
      obtain ⟨z, z1, z2⟩ := binG_sound (P := P) (w := w) (hE.mem (by simp) hu) (hE.mem (by simp) hu') hr
      exact OutO.v hR z1 z2
    · cases h
  case unOp op T x =>
    split at h
    · rename_i u hu
      obtain ⟨h1, h⟩ := bifT h
      obtain ⟨r, hr, h⟩ := mapG h; cases h
      obtain ⟨h2, h3⟩ := outL_inv hr
      have e := leafB_eq h1 (hE.mem (x := x) (by simp) hu)
      refine OutO.v (s := Op.unary op (a.eval x)) hR ?_ (leafB_self h3)
      rw [e]; exact leafRun_run h2 w
    · cases h
  case convert s d x =>
    split at h
    · rename_i u hu
      exact (convG_sound hR (hE.mem (by simp) hu) h).o
    · cases h
  case makeInterface T x =>
    split at h
    · rename_i u hu
      obtain ⟨r, hr, h⟩ := mapG h; cases h
      obtain ⟨z, z1, z2⟩ := makeIfG_sound (P := P) (w := w) (hE.mem (by simp) hu) hr
      exact OutO.v hR z1 z2
    · cases h
  case makeFunc fn fs cs =>
    split at h
    · rename_i va vb h1 h2
      obtain ⟨h3, h⟩ := bifT h; cases h
      have r1 := evs_sound (ρ := ρ) (a := a) (fun x hx => hE x (by simp at hx ⊢; exact .inl hx)) h1
      have r2 := evs_sound (ρ := ρ) (a := a) (fun x hx => hE x (by simp at hx ⊢; exact .inr hx)) h2
      refine OutO.v hR (s := Instr.makeFunc fn (fs.map a.eval) (cs.map a.eval)) rfl ?_
      have e1 : fs.map a.eval = ⟨fs.toList.map a.eval⟩ := Array.ext' (by simp)
      have e2 : cs.map a.eval = ⟨cs.toList.map a.eval⟩ := Array.ext' (by simp)
      rw [e1, e2]
      exact .func h3 r1 r2
    · cases h
  case makeMap T r =>
    cases r with
    | some _ => cases h
    | none =>
      cases h
      obtain ⟨r1, r2⟩ := R.new (o := .map [] 0) (p := ⟨w.heap.size, 0, 1, 0⟩) hR (w' := w.alloc (.map #[] 0)) (alloc_old (fun _ => rfl) rfl) (by simp only [World.alloc, Array.size_push]) ⟨rfl, rfl⟩ rfl
        ⟨#[], alloc_new rfl, rfl, rfl, fun j k v b hj => by simp at hj⟩
      refine OutV.o (s := Instr.makeMap T none) ⟨_, .map (some w.heap.size), _, by simp [Instr.makeMap], ?_, r1, r2⟩
      exact .map (p := ⟨w.heap.size, 0, 1, 0⟩) Rho.put_self
  case makeSlice T l c =>
    split at h
    · rename_i u u' hu hu'
      exact (makeSliceG_sound hR (hE.mem (by simp) hu) (hE.mem (by simp) hu') h).o
    · cases h
  case slice T x lo hi mx =>
    split at h
    · rename_i v' l hh m h1 h2 h3 h4
      obtain ⟨r, hr, h⟩ := mapG h; cases h
      obtain ⟨z, z1, z2⟩ := sliceG_sound (P := P) hR (hE.mem (by simp) h1) (optV_sound (ρ := ρ) (a := a) (fun y e => hE y (by simp [e])) h2) (optV_sound (ρ := ρ) (a := a) (fun y e => hE y (by simp [e])) h3) (optV_sound (ρ := ρ) (a := a) (fun y e => hE y (by simp [e])) h4) hr
      exact OutO.v hR z1 z2
    · cases h
  case fieldAddr S x f =>
    split at h
    · rename_i u hu
      obtain ⟨r, hr, h⟩ := mapG h; cases h
      obtain ⟨z, z1, z2⟩ := fieldAddrG_sound (P := P) (w := w) (hE.mem (by simp) hu) hr
      exact OutO.v hR z1 z2
    · cases h
  case field T x f =>
    split at h
    · rename_i u hu
      obtain ⟨r, hr, h⟩ := mapG h; cases h
      obtain ⟨z, z1, z2⟩ := fieldG_sound (P := P) (w := w) (hE.mem (by simp) hu) hr
      exact OutO.v hR z1 z2
    · cases h
  case indexAddr T x i =>
    split at h
    · rename_i u u' hu hu'
      obtain ⟨r, hr, h⟩ := mapG h; cases h
      obtain ⟨z, z1, z2⟩ := indexAddrG_sound (P := P) (w := w) (hE.mem (by simp) hu) (hE.mem (by simp) hu') hr
      exact OutO.v hR z1 z2
    · cases h
  case index T x i =>
    split at h
    · rename_i u u' hu hu'
      obtain ⟨r, hr, h⟩ := mapG h; cases h
      obtain ⟨z, z1, z2⟩ := indexG_sound (P := P) (w := w) (hE.mem (by simp) hu) (hE.mem (by simp) hu') hr
      exact OutO.v hR z1 z2
    · cases h
  case lookup T m k ok =>
    split at h
    · rename_i u u' hu hu'
      obtain ⟨r, hr, h⟩ := mapG h; cases h
      obtain ⟨z, z1, z2⟩ := lookG_sound (P := P) hR (hE.mem (by simp) hu) (hE.mem (by simp) hu') hr
      exact OutO.v hR z1 z2
    · cases h
  case mapUpdate T m k x =>
    split at h
    · rename_i u u' u2 hu hu' hu2
      obtain ⟨g1, hg1, h⟩ := mapG h; cases h
      exact OutO.u (mputG_sound hR (hE.mem (by simp) hu) (hE.mem (by simp) hu') (hE.mem (by simp) hu2) hg1)
    · cases h
  case insert T m k x =>
    split at h
    · rename_i u u' u2 hu hu' hu2
      obtain ⟨g1, hg1, h⟩ := mapG h; cases h
      exact OutO.u (mputG_sound hR (hE.mem (by simp) hu) (hE.mem (by simp) hu') (hE.mem (by simp) hu2) hg1)
    · cases h
  case typeAssert x T A ok =>
    split at h
    · rename_i u hu
      obtain ⟨r, hr, h⟩ := mapG h; cases h
      obtain ⟨z, z1, z2⟩ := assertG_sound (P := P) (w := w) (hE.mem (by simp) hu) hr
      exact OutO.v hR z1 z2
    · cases h
  case extract x j =>
    split at h
    · rename_i u hu
      obtain ⟨r, hr, h⟩ := mapG h; cases h
      obtain ⟨z, z1, z2⟩ := extractG_sound (P := P) (w := w) (hE.mem (by simp) hu) hr
      exact OutO.v hR z1 z2
    · cases h
  case range T x =>
    split at h
    · rename_i u hu
      exact (rangeMG_sound hR (hE.mem (by simp) hu) h).o
    · cases h
  case next x s =>
    cases s with
    | true => simp [opG] at h
    | false =>
      simp only [opG] at h
      split at h
      · rename_i u hu
        exact (nextMG_sound hR (hE.mem (by simp) hu) h).o
      · cases h
  case entry x =>
    split at h
    · rename_i u hu
      obtain ⟨r, hr, h⟩ := mapG h; cases h
      obtain ⟨z, z1, z2⟩ := entryMG_sound (P := P) hR (hE.mem (by simp) hu) hr
      exact OutO.v hR z1 z2
    · cases h
  case call c =>
    split at h
    · rename_i b hc
      split at h
      · rename_i vs hvs
        have r1 := evs_sound (ρ := ρ) (a := a) (fun x hx => hE x (by simp only [Call.operands, hc]; simp at hx ⊢; exact hx)) hvs
        obtain ⟨callee, args, argTypes⟩ := c
        simp only at hc
        subst hc
        obtain ⟨cs, e⟩ : ∃ cs, execOp a.eval ⟨dst, .call ⟨.builtin b, args, argTypes⟩, type, pos, after, guard⟩ = builtin b argTypes type cs (args.map a.eval) := ⟨_, rfl⟩
        have := builtG_sound (cs := cs) hR r1 h
        have e1 : (args.toList.map a.eval).toArray = args.map a.eval := by apply Array.ext'; simp
        rw [e1] at this
        have e2 : (argTypes.toList).toArray = argTypes := by simp
        rw [e2, ← e] at this
        exact this
      · cases h
    · cases h
end Go.Gd
namespace Go.Gd
open Go.Sh (SameOs isFn Fw Fw_fn Fw_depth Fw_round Fw_room callsIn_Fw NX get_lt arr_lt put_size put_defers valOf_put valOf_put_same eval_tmp)
variable {P : Program} {ρ ρ' : Rho} {g g' : G} {w : World} {tm : Tr Value} {a : Act}
/-- A deferred call stands for a deferred call. -/
inductive DR (ρ : Rho) : Deferred → Deferred → Prop
  | fn {f : FuncId} {cs cs' as as' : List Value} (h1 : VRs ρ cs cs') (h2 : VRs ρ as as') : DR ρ { target := .fn (.func f) ⟨cs⟩, args := ⟨as⟩ } { target := .fn (.func f) ⟨cs'⟩, args := ⟨as'⟩ }
  | mark {i : Nat} {p : Pl} (h : ρ i = some p) : DR ρ { target := .collected i, args := #[] } { target := .collected p.b, args := #[] }
inductive DRs (ρ : Rho) : List Deferred → List Deferred → Prop
  | nil : DRs ρ [] []
  | cons {x y xs ys} (h : DR ρ x y) (hs : DRs ρ xs ys) : DRs ρ (x :: xs) (y :: ys)
theorem DR.mono (hl : Le ρ ρ') {x y : Deferred} (h : DR ρ x y) : DR ρ' x y := by
  cases h with
  | fn h1 h2 => exact .fn (h1.mono hl) (h2.mono hl)
  | mark h => exact .mark (hl _ _ h)
theorem DRs.mono (hl : Le ρ ρ') : ∀ {x y : List Deferred}, DRs ρ x y → DRs ρ' x y
  | _, _, .nil => .nil
  | _, _, .cons h hs => .cons (h.mono hl) (hs.mono hl)
theorem DRs.append : ∀ {x y x' y' : List Deferred}, DRs ρ x y → DRs ρ x' y' → DRs ρ (x ++ x') (y ++ y')
  | _, _, _, _, .nil, h => h
  | _, _, _, _, .cons h hs, h' => .cons h (hs.append h')
/-- A frame. -/
structure Rel (ρ : Rho) (st : St) (a : Act) (w : World) : Prop where
  len : a.tmps.size = st.nt
  ok : ∀ t v, st.tm.get t = some v → t < st.nt
  tm : ∀ t v, st.tm.get t = some v → VR ρ v (Sh.valOf a t)
  df : DRs ρ st.df a.defers
  hp : R ρ st.g w
/-- The slots that an operation looks at. -/
def LookR (ρ : Rho) (tm : Tr Value) (a : Act) (ts : List Tmp) : Prop := ∀ t ∈ ts, ∀ v, tm.get t = some v → VR ρ v (Sh.valOf a t)
theorem evG_look {x : Operand} {v : Value} (h : ∀ t, x = .tmp t → ∀ v, tm.get t = some v → VR ρ v (Sh.valOf a t)) (hv : evG tm x = some v) : VR ρ v (a.eval x) := by
  cases x with
  | tmp t => exact h t rfl v hv
  | const u =>
    obtain ⟨h1, h2⟩ := bifT hv
    cases h2
    exact leafB_self h1
  | func f => cases hv; exact .func rfl .nil .nil
  | global _ => cases hv
theorem LookR.ev {ops : Array Oper} {o : Oper} (h : LookR ρ tm a (o.looksAt ops)) : EvR ρ tm a o.op.operands.toList := fun x hx v hv =>
  evG_look (fun t e => h t (by subst e; exact List.mem_append_left _ (List.mem_filterMap.2 ⟨_, hx, rfl⟩))) hv
theorem wantG_sound {ops : Array Oper} {o : Oper} {b : Bool} (h : LookR ρ tm a (o.looksAt ops)) (hs : ∀ t v, tm.get t = some v → t < a.tmps.size) (hw : wantG ops tm o = some b) : Region.wanted o (yielded ops a.tmps) = b := by
  unfold wantG at hw
  unfold Region.wanted
  cases hg : o.guard with
  | none => rw [hg] at hw; simpa using hw
  | some p =>
    obtain ⟨j, want⟩ := p
    rw [hg] at hw
    simp only at hw ⊢
    cases ht : (ops[j]?).bind (·.dst) with
    | none => rw [ht] at hw; simp at hw
    | some t =>
      rw [ht, Option.bind_some] at hw
      have hin : t ∈ o.looksAt ops := List.mem_append_right _ (by simp only [hg, ht]; simp)
      have key : ∀ v, tm.get t = some v → yielded ops a.tmps j = (match (Sh.valOf a t) with | .bool b => some b | _ => none) ∧ VR ρ v (Sh.valOf a t) := fun v hv => by
        refine ⟨?_, h t hin v hv⟩
        have hlt := hs t v hv
        unfold yielded
        rw [ht, Option.bind_some]
        have : a.tmps[t]? = some (Sh.valOf a t) := by simp [Sh.valOf, Array.getD_eq_getD_getElem?, hlt]
        rw [this]
        cases Sh.valOf a t <;> rfl
      split at hw
      · rename_i b' hb
        cases hw
        obtain ⟨e1, e2⟩ := key _ hb
        rw [e2.atom_inv rfl] at e1
        rw [e1]
        cases b' <;> cases want <;> rfl
      · rename_i vs hb
        cases hw
        obtain ⟨vs⟩ := vs
        obtain ⟨e1, e2⟩ := key _ hb
        obtain ⟨ys, e3, -⟩ := e2.tuple_inv
        rw [e3] at e1
        rw [e1]; simp
      · cases hw
/-! ## What the parts promise -/
/-- The loop in whose round a frame stands. -/
def RoundR (ρ : Rho) : Option Nat → Option Nat → Prop
  | none, none => True
  | some l, some b => ∃ p, ρ l = some p ∧ p.b = b
  | _, _ => False
theorem RoundR.mono (hl : Le ρ ρ') {r r' : Option Nat} (h : RoundR ρ r r') : RoundR ρ' r r' := by
  cases r <;> cases r' <;> first | exact h | (obtain ⟨p, h1, h2⟩ := h; exact ⟨p, hl _ _ h1, h2⟩)
def exitOf : Ex → Exit
  | .nx => .normal
  | .ret => .ret
  | .exit id => .exit id
def CodeOk (P : Program) (r : Option Nat) (c : Code) (st : St) (e : Ex) (st' : St) : Prop :=
  ∀ (ρ : Rho) (a : Act) (w : World) (r' : Option Nat) (n : Nat), Rel ρ st a w → RoundR ρ r r' → c.wpIn (Fw r') n P (fun e' a' w' => e' = exitOf e ∧ ∃ ρ', Rel ρ' st' a' w' ∧ Fr ρ st.g w ρ' st'.g w') a w
def Post (ρ : Rho) (g : G) (w : World) (v : Value) (g' : G) (e : Ending) (w' : World) : Prop := ∃ ρ' y, e = .returned y ∧ VR ρ' v y ∧ R ρ' g' w' ∧ Fr ρ g w ρ' g' w'
def CallOk (P : Program) (f : FuncId) (vs : List Value) (g : G) (v : Value) (g' : G) : Prop :=
  ∀ (ρ : Rho) (w : World) (ys : List Value), VRs ρ vs ys → R ρ g w → Calls P f ys.toArray w (Post ρ g w v g')
def RoundOk (P : Program) (l : Nat) (vs : List Value) (g : G) (v : Value) (g' : G) : Prop :=
  ∀ (ρ : Rho) (w : World) (ys : List Value) (p : Pl), VRs ρ vs ys → R ρ g w → ρ l = some p → ∃ fn tmps assign body, (Instr.yield p.b ys.toArray).run P w = .ok (.round p.b fn tmps assign body) w ∧ ∀ n, RoundIn Fence.wide n P p.b fn tmps assign body w (Post ρ g w v g')
def DcallOk (P : Program) (f : FuncId) (vs : List Value) (g g' : G) : Prop :=
  ∀ (ρ : Rho) (w : World) (ys : List Value) (n : Nat), VRs ρ vs ys → R ρ g w → CallsDIn Fence.wide n P f ys.toArray .returning w fun e u' w' => (∃ y, e = .returned y) ∧ u' = .returning ∧ ∃ ρ', R ρ' g' w' ∧ Fr ρ g w ρ' g' w'
structure EvOk (P : Program) (E : Ev) : Prop where
  code : ∀ r c st e st', E.code r c st = some (e, st') → CodeOk P r c st e st'
  call : ∀ f vs g v g', E.call f vs g = some (v, g') → CallOk P f vs g v g'
  round : ∀ l vs g v g', E.round l vs g = some (v, g') → RoundOk P l vs g v g'
  dcall : ∀ f vs g g', E.dcall f vs g = some g' → DcallOk P f vs g g'
theorem roundIn_Fw {r : Option Nat} {n l : Nat} {f : FuncId} {tmps : Array Value} {assign body : Code} {w : World} {R : Ending → World → Prop} (h : RoundIn Fence.wide n P l f tmps assign body w R) : RoundIn (Fw r) n P l f tmps assign body w R := by
  cases r with
  | none => exact h
  | some l' => exact ⟨h.1, h.2⟩
/-! ## One operation -/
theorem methG_sound {t : TypeId} {name : String} {f : FuncId} (h : methG P t name = some f) (v : Value) (n : Nat) (w : World) : (Go.method (n + 1) t v name).run P w = .ok (f, v) w := by
  unfold methG at h
  split at h
  · rename_i i hi
    split at h
    · rename_i m hm
      split at h
      · rename_i hp
        have ht : (typeInfo t).run P w = .ok i w := by simp [typeInfo, hi]
        split at h
        · rename_i f' e hf hu
          cases h
          unfold Go.method
          simp only [Sem.run_bind, ht, Result.andThen_ok, hm, hp, Go.follow, Sem.run_pure, hf, Go.receiverAt, run_underlying hu, Place.get]
        · cases h
        · rename_i f' d hne hf hu
          cases h
          unfold Go.method
          simp only [Sem.run_bind, ht, Result.andThen_ok, hm, hp, Go.follow, Sem.run_pure, hf, Go.receiverAt, run_underlying hu]
          cases d with
          | pointer e => exact (hne e rfl).elim
          | _ => simp [Place.get, Sem.run_pure]
        · cases h
      · cases h
    · cases h
  · cases h
theorem isFn_inv {f : FuncId} (h : isFn P f = true) : ∃ fn, P.funcs[f]? = some fn ∧ fn.name ≠ "runtime.NumGoroutine" ∧ fn.body.isNone = false := by
  unfold isFn at h
  split at h
  · rename_i fn hfn
    simp only [Bool.and_eq_true, bne_iff_ne] at h
    exact ⟨fn, hfn, h.1, by cases hb : fn.body <;> simp_all⟩
  · cases h
theorem callFunc_run {f : FuncId} (h : isFn P f = true) (args : Array Value) (w : World) : (callFunc f args).run P w = .ok (.enter f args) w := by
  obtain ⟨fn, h1, h2, h3⟩ := isFn_inv h
  simp only [callFunc, Sem.run_bind, run_program, Result.andThen_ok, h1]
  rw [if_neg (by simpa using h2), h3]
  rfl
/-- A call leads to a function, or to a loop's round. -/
theorem callee_sound {c : Call} {f : Fn} {pre post : List Value} {ty : TypeId} (hE : EvR ρ tm a c.operands.toList) (h : calleeG P tm c.callee = some (f, pre, post)) {vs : List Value} (hv : evs tm c.args.toList = some vs) :
    ∃ ys, VRs ρ (pre ++ (vs ++ post)) ys ∧ ((∃ f', f = .func f' ∧ (isFn P f' = true → (do let d ← resolve a.eval c ty; invoke d.target d.args : Sem Next).run P w = .ok (.enter f' ys.toArray) w)) ∨
      (∃ l p, f = .yield l ∧ ρ l = some p ∧ (do let d ← resolve a.eval c ty; invoke d.target d.args : Sem Next).run P w = (Instr.yield p.b ys.toArray).run P w) ∨ (∀ f', f ≠ .func f') ∧ ∀ l, f ≠ .yield l) := by
  have hargs := evs_sound (ρ := ρ) (a := a) (fun x hx => hE x (by simp only [Call.operands, Array.toList_append]; exact List.mem_append_right _ hx)) hv
  cases hc : c.callee with
  | value fo =>
    rw [hc] at h
    simp only [calleeG] at h
    split at h
    · rename_i f' pa po hfo
      cases h
      have hr := hE.mem (x := fo) (by simp [Call.operands, hc]) hfo
      cases f with
      | yield l =>
        generalize hy : a.eval fo = y at hr
        cases hr with
        | atom h => simp [atomB] at h
        | func hf _ _ => cases hf
        | yield hl =>
          rename_i p
          refine ⟨c.args.toList.map a.eval, by simpa using hargs, .inr (.inl ⟨l, p, rfl, hl, ?_⟩)⟩
          have e : (c.args.toList.map a.eval).toArray = c.args.map a.eval := by apply Array.ext'; simp
          simp only [resolve, hc, hy, Deferred.ofValue, Sem.run_bind, Sem.run_pure, Result.andThen_ok, invoke]
          rw [e]
          simp
      | func f0 =>
        obtain ⟨pre', post', e, h1, h2⟩ := hr.func_inv rfl
        refine ⟨pre' ++ (c.args.toList.map a.eval ++ post'), h1.append (hargs.append h2), .inl ⟨f0, rfl, fun hi => ?_⟩⟩
        simp only [resolve, hc, e, Deferred.ofValue, Sem.run_bind, Sem.run_pure, Result.andThen_ok, invoke, callFunc_run hi]
        congr 2
        apply Array.ext'
        simp
      | _ =>
        obtain ⟨pre', post', e, h1, h2⟩ := hr.func_inv rfl
        exact ⟨_, h1.append (hargs.append h2), .inr (.inr ⟨fun _ => by simp, fun _ => by simp⟩)⟩
    · cases h
  | invoke recv name =>
    rw [hc] at h
    simp only [calleeG] at h
    split at h
    · rename_i t v hx
      simp only [Option.map_eq_some_iff, Prod.mk.injEq] at h
      obtain ⟨f', hm, rfl, rfl, rfl⟩ := h
      have hr := hE.mem (x := recv) (by simp [Call.operands, hc]) hx
      obtain ⟨u, hu, hv'⟩ := hr.iface_inv
      refine ⟨u :: c.args.toList.map a.eval, .cons hv' (by simpa using hargs), .inl ⟨f', rfl, fun hi => ?_⟩⟩
      have he : (#[Value.iface t u] ++ c.args.map a.eval).extract 1 (#[Value.iface t u] ++ c.args.map a.eval).size = c.args.map a.eval := by
        apply Array.ext'
        simp [List.take_of_length_le]
      have hmr := fun w => methG_sound hm u (P.types.size + Made.depth - 1) w
      have hd : P.types.size + Made.depth - 1 + 1 = P.types.size + Made.depth := by
        have : 0 < Made.depth := by decide
        omega
      simp only [hd] at hmr
      simp only [resolve, hc, hu, Sem.run_bind, Sem.run_pure, Result.andThen_ok, invoke]
      have h0 : (#[Value.iface t u] ++ c.args.map a.eval)[0]? = some (Value.iface t u) := by rw [Array.getElem?_append_left (by simp)]; rfl
      simp only [h0, he, callMethod, Sem.run_bind, run_program, Result.andThen_ok, hmr, callFunc_run hi]
      congr 2
      apply Array.ext'
      simp
    · cases h
  | builtin b => rw [hc] at h; cases h
theorem calleeM_sound {c : Call} {f : Fn} {pre post : List Value} {ty : TypeId} (hE : EvR ρ tm a c.operands.toList) (h : calleeM P tm c.callee = some (f, pre, post)) {vs : List Value} (hv : evs tm c.args.toList = some vs) :
    ∃ ys, VRs ρ (pre ++ (vs ++ post)) ys ∧ ((∃ f', f = .func f' ∧ (isFn P f' = true → (do let d ← resolve a.eval c ty; invoke d.target d.args : Sem Next).run P w = .ok (.enter f' ys.toArray) w)) ∨
      (∃ l p, f = .yield l ∧ ρ l = some p ∧ (do let d ← resolve a.eval c ty; invoke d.target d.args : Sem Next).run P w = (Instr.yield p.b ys.toArray).run P w) ∨ (∀ f', f ≠ .func f') ∧ ∀ l, f ≠ .yield l) := by
  unfold calleeM at h
  split at h
  · rename_i fo hc
    split at h
    · rename_i name t v hx
      have hargs := evs_sound (ρ := ρ) (a := a) (fun x hx => hE x (by simp only [Call.operands, Array.toList_append]; exact List.mem_append_right _ hx)) hv
      simp only [Option.map_eq_some_iff, Prod.mk.injEq] at h
      obtain ⟨f', hm, rfl, rfl, rfl⟩ := h
      have hr := hE.mem (x := fo) (by simp [Call.operands, hc]) hx
      obtain ⟨xs', ys', hu, h1, h2⟩ := hr.func_inv rfl
      cases h2
      cases h1 with
      | cons h1 hn =>
        cases hn
        obtain ⟨u, rfl, hv'⟩ := h1.iface_inv
        refine ⟨u :: c.args.toList.map a.eval, .cons hv' (by simpa using hargs), .inl ⟨f', rfl, fun hi => ?_⟩⟩
        have he : (#[Value.iface t u] ++ c.args.map a.eval).extract 1 (#[Value.iface t u] ++ c.args.map a.eval).size = c.args.map a.eval := by
          apply Array.ext'
          simp [List.take_of_length_le]
        have hmr := fun w => methG_sound hm u (P.types.size + Made.depth - 1) w
        have hd : P.types.size + Made.depth - 1 + 1 = P.types.size + Made.depth := by
          have : 0 < Made.depth := by decide
          omega
        simp only [hd] at hmr
        simp only [resolve, hc, hu, Deferred.ofValue, Sem.run_bind, Sem.run_pure, Result.andThen_ok, invoke]
        have h0 : (#[Value.iface t u] ++ c.args.map a.eval)[0]? = some (Value.iface t u) := by rw [Array.getElem?_append_left (by simp)]; rfl
        have e0 : (⟨[Value.iface t u]⟩ : Array Value) = #[Value.iface t u] := rfl
        simp only [e0, h0, he, callMethod, Sem.run_bind, run_program, Result.andThen_ok, hmr, callFunc_run hi]
        congr 2
        apply Array.ext'
        simp
    · exact callee_sound hE h hv
  · exact callee_sound hE h hv
end Go.Gd
namespace Go.Gd
open Go.Sh (SameOs isFn Fw Fw_fn Fw_depth Fw_round Fw_room callsIn_Fw NX get_lt arr_lt put_size put_defers eval_tmp)
variable {P : Program} {E : Ev} {ρ ρ' : Rho} {g g' : G} {w : World} {tm : Tr Value} {a : Act}
theorem defer_sound {c : Call} {f : FuncId} {pre post : List Value} {ty : TypeId} (hE : EvR ρ tm a c.operands.toList) (h : calleeG P tm c.callee = some (.func f, pre, post)) {fo : Operand} (hc : c.callee = .value fo) {vs : List Value} (hv : evs tm c.args.toList = some vs) :
    ∃ d, (resolve a.eval c ty).run P w = .ok d w ∧ DR ρ { target := .fn (.func f) ⟨post⟩, args := ⟨pre ++ vs⟩ } d := by
  have hargs := evs_sound (ρ := ρ) (a := a) (fun x hx => hE x (by simp only [Call.operands, Array.toList_append]; exact List.mem_append_right _ hx)) hv
  rw [hc] at h
  simp only [calleeG] at h
  split at h
  · rename_i f' pa po hfo
    cases h
    have hr := hE.mem (x := fo) (by simp [Call.operands, hc]) hfo
    obtain ⟨pre', post', e, h1, h2⟩ := hr.func_inv rfl
    refine ⟨{ target := .fn (.func f) ⟨post'⟩, args := ⟨pre' ++ c.args.toList.map a.eval⟩ }, ?_, .fn h2 (h1.append hargs)⟩
    simp only [resolve, hc, e, Deferred.ofValue, Sem.run_pure]
    congr 2
    apply Array.ext'
    simp
  · cases h
theorem semAt_none (ρ : Operand → Value) (o : Oper) : Oper.semAt none ρ o = execOp ρ o := rfl
theorem operV_sound (hE : EvOk P E) {r r' : Option Nat} {ops : Array Oper} {o : Oper} {v : Value} {d : Option Deferred} (hL : LookR ρ tm a (o.looksAt ops)) (hs : ∀ t v, tm.get t = some v → t < a.tmps.size) (hR : R ρ g w) (hr : RoundR ρ r r')
    (h : operV P E r ops o tm g = some (v, g', d)) (n : Nat) {N : Act → World → Prop} {Q : Exit → Act → World → Prop}
    (hN : ∀ ρ' y w' ds, VR ρ' v y → R ρ' g' w' → Fr ρ g w ρ' g' w' → (d = none ∧ ds = [] ∨ ∃ d0 e0, d = some d0 ∧ ds = [e0] ∧ DR ρ' d0 e0) → N (({ a with defers := ds ++ a.defers } : Act).put o.dst y) w') :
    (Region.wanted o (yielded ops a.tmps) = true ∧ o.wpIn (Fw r') n P a w N Q) ∨ (Region.wanted o (yielded ops a.tmps) = false ∧ N (a.put o.dst undef) w) := by
  unfold operV at h
  have hdep : (Fw r').depth.isSome = true → 1 ≤ n := fun h => by rw [Fw_depth] at h; cases h
  split at h
  · cases h
  · rename_i hw
    cases h
    exact .inr ⟨wantG_sound hL hs hw, hN ρ undef w [] (.tuple .nil) hR (Fr.refl _ _ _) (.inl ⟨rfl, rfl⟩)⟩
  · rename_i hw
    refine .inl ⟨wantG_sound hL hs hw, fun f _ => Fw_fn f, ?_⟩
    rw [Fw_round]
    split at h
    · rename_i v0 g0 hop
      cases h
      have hnd : ∀ c, o.op ≠ .defer c := fun c e => by rw [e] at hop; simp [opG] at hop
      rw [Oper.semAt_eq r' a.eval o hnd]
      obtain ⟨ρ', y, w', h1, h2, h3, h4⟩ := opG_sound hL.ev hR hop
      have := hN ρ' y w' [] h2 h3 h4 (.inl ⟨rfl, rfl⟩)
      rcases h1 with h1 | ⟨h1, rfl⟩
      · rw [h1, Oper.uponIn_value]; exact this
      · rw [h1, Oper.uponIn_skip]; exact this
    · split at h
      · rename_i c hop
        split at h
        · rename_i f pre post vs hcal hvs
          split at h
          · rename_i v0 g0 htg
            cases h
            have hnd : ∀ c, o.op ≠ .defer c := fun c e => by rw [e] at hop; cases hop
            rw [Oper.semAt_eq r' a.eval o hnd]
            have hEv : EvR ρ tm a c.operands.toList := by have := hL.ev; rw [hop] at this; exact this
            obtain ⟨ys, hys, hcase⟩ := calleeM_sound (P := P) (w := w) (ty := o.type) hEv hcal hvs
            have hex : execOp a.eval o = (do let d ← resolve a.eval c o.type; invoke d.target d.args : Sem Next) := by unfold execOp; rw [hop]
            rw [hex]
            rcases hcase with ⟨f', rfl, hrun⟩ | ⟨l, p, rfl, hp, hrun⟩ | ⟨h1, h2⟩
            · simp only [targetG] at htg
              obtain ⟨hi, htg⟩ := bifT htg
              rw [hrun hi, Oper.uponIn_enter]
              refine ⟨hdep, callsIn_Fw ((hE.call _ _ _ _ _ htg ρ w ys hys hR).mono fun e w' hh => ?_)⟩
              obtain ⟨ρ', y, rfl, h2, h3, h4⟩ := hh
              exact hN ρ' y w' [] h2 h3 h4 (.inl ⟨rfl, rfl⟩)
            · simp only [targetG] at htg
              obtain ⟨fn, tmps, assign, body, e1, e2⟩ := hE.round _ _ _ _ _ htg ρ w ys p hys hR hp
              rw [hrun, e1, Oper.uponIn_round]
              refine ⟨hdep, roundIn_Fw ((e2 (n - 1)).mono fun e w' hh => ?_)⟩
              obtain ⟨ρ', y, rfl, h2, h3, h4⟩ := hh
              exact hN ρ' y w' [] h2 h3 h4 (.inl ⟨rfl, rfl⟩)
            · cases f <;> first | exact absurd rfl (h1 _) | exact absurd rfl (h2 _) | (simp [targetG] at htg)
          · cases h
        · cases h
      · rename_i c hop
        split at h
        · rename_i f pre post vs hcal hvs
          split at h
          · rename_i fo hc
            cases h
            have hr' : r' = none := by cases r' with
              | none => rfl
              | some _ => exact hr.elim
            subst hr'
            rw [semAt_none]
            have hEv : EvR ρ tm a c.operands.toList := by have := hL.ev; rw [hop] at this; exact this
            obtain ⟨d, e1, e2⟩ := defer_sound (P := P) (w := w) (ty := o.type) hEv hcal hc hvs
            have hex : (execOp a.eval o).run P w = .ok (.defer d) w := by
              unfold execOp; rw [hop]; simp [e1]
            rw [hex, Oper.uponIn_defer]
            exact hN ρ undef w [d] (.tuple .nil) hR (Fr.refl _ _ _) (.inr ⟨_, d, rfl, rfl, e2⟩)
          · cases h
        · cases h
      · cases h
/-! ## A frame behind an operation -/
theorem St.put_some {st st' : St} {d : Option Tmp} {v : Value} (h : st.put d v = some st') : st'.nt = st.nt ∧ st'.g = st.g ∧ st'.df = st.df ∧ (∀ t, d = some t → t < st.nt) ∧ ∀ t u, st'.tm.get t = some u → (d = some t ∧ u = v) ∨ (d ≠ some t ∧ st.tm.get t = some u) := by
  cases d with
  | none => cases h; exact ⟨rfl, rfl, rfl, fun t e => (by cases e), fun t u hu => .inr ⟨by simp, hu⟩⟩
  | some t0 =>
    simp only [St.put] at h
    obtain ⟨h1, h⟩ := bifT h
    rw [Nat.blt_eq] at h1
    cases h
    refine ⟨rfl, rfl, rfl, fun t e => by cases e; exact h1, fun t u hu => ?_⟩
    rcases Tr.get_upd hu with ⟨rfl, e⟩ | ⟨h2, h3⟩
    · cases e; exact .inl ⟨rfl, rfl⟩
    · exact .inr ⟨fun e => h2 (by cases e; rfl), h3⟩
theorem valOf_putN {d : Option Tmp} {t : Nat} {v : Value} (h : d ≠ some t) : Sh.valOf (a.put d v) t = Sh.valOf a t := Sh.valOf_put h
theorem valOf_putS {t : Nat} {v : Value} (h : t < a.tmps.size) : Sh.valOf (a.put (some t) v) t = v := Sh.valOf_put_same h
theorem Rel.lt {st : St} (h : Rel ρ st a w) : ∀ t v, st.tm.get t = some v → t < a.tmps.size := fun t v hv => by rw [h.len]; exact h.ok t v hv
theorem Rel.putG {st st' : St} {d : Option Tmp} {v y : Value} {g' : G} {w' : World} {df df' : List Deferred} (h : Rel ρ st a w) (hl : Le ρ ρ') (hR : R ρ' g' w') (hv : VR ρ' v y) (hd : DRs ρ' df df') (hp : ({ st with g := g', df := df } : St).put d v = some st') :
    Rel ρ' st' (({ a with defers := df' } : Act).put d y) w' := by
  obtain ⟨h1, h2, h3, h4, h5⟩ := St.put_some hp
  refine ⟨by rw [put_size, h1]; exact h.len, fun t u hu => ?_, fun t u hu => ?_, by rw [put_defers, h3]; exact hd, by rw [h2]; exact hR⟩
  · rw [h1]
    rcases h5 t u hu with ⟨e, -⟩ | ⟨-, e⟩
    · exact h4 t e
    · exact h.ok t u e
  rcases h5 t u hu with ⟨rfl, rfl⟩ | ⟨e1, e2⟩
  · rw [valOf_putS (by show t < a.tmps.size; rw [h.len]; exact h4 t rfl)]; exact hv
  · rw [valOf_putN e1]; exact (h.tm t u e2).mono hl
theorem Rel.look {st : St} (h : Rel ρ st a w) (ts : List Tmp) : LookR ρ st.tm a ts := fun t _ v hv => h.tm t v hv
theorem operG_sound (hE : EvOk P E) {r r' : Option Nat} {ops : Array Oper} {o : Oper} {st st' : St} (hrel : Rel ρ st a w) (hr : RoundR ρ r r') (h : operG P E r ops o st = some st') (n : Nat) {N : Act → World → Prop} {Q : Exit → Act → World → Prop}
    (hN : ∀ ρ' a' w', Rel ρ' st' a' w' → Fr ρ st.g w ρ' st'.g w' → N a' w') :
    (Region.wanted o (yielded ops a.tmps) = true ∧ o.wpIn (Fw r') n P a w N Q) ∨ (Region.wanted o (yielded ops a.tmps) = false ∧ N (a.put o.dst undef) w) := by
  unfold operG at h
  split at h
  · rename_i v g1 hv
    refine operV_sound hE (hrel.look _) hrel.lt hrel.hp hr hv n fun ρ' y w' ds h1 h2 h3 h4 => ?_
    rcases h4 with ⟨-, rfl⟩ | ⟨_, _, e, -⟩
    · have hp : ({ st with g := g1, df := st.df } : St).put o.dst v = some st' := h
      have h2' := (St.put_some hp).2.1
      exact hN ρ' _ w' (hrel.putG h3.le h2 h1 (hrel.df.mono h3.le) hp) (by rw [h2']; exact h3)
    · cases e
  · rename_i v g1 d hv
    refine operV_sound hE (hrel.look _) hrel.lt hrel.hp hr hv n fun ρ' y w' ds h1 h2 h3 h4 => ?_
    rcases h4 with ⟨e, -⟩ | ⟨d0, e0, e, rfl, e1⟩
    · cases e
    · cases e
      have hp : ({ st with g := g1, df := d :: st.df } : St).put o.dst v = some st' := h
      have h2' := (St.put_some hp).2.1
      exact hN ρ' _ w' (hrel.putG h3.le h2 h1 (.cons e1 (hrel.df.mono h3.le)) hp) (by rw [h2']; exact h3)
  · cases h
theorem opersG_sound (hE : EvOk P E) {r : Option Nat} {ops : Array Oper} : ∀ (l : List Oper) (st st' : St) (ρ : Rho) (a : Act) (w : World) (r' : Option Nat) (n : Nat) (Q : Exit → Act → World → Prop), Rel ρ st a w → RoundR ρ r r' → opersG P E r ops l st = some st' →
    (∀ ρ' a' w', Rel ρ' st' a' w' → Fr ρ st.g w ρ' st'.g w' → Q .normal a' w') → wpListIn (Fw r') n P ops Q l a w
  | [], st, st', ρ, a, w, r', n, Q, hrel, hr, h, hQ => by cases h; exact wpListIn_nil (hQ ρ a w hrel (Fr.refl _ _ _))
  | o :: l, st, st', ρ, a, w, r', n, Q, hrel, hr, h, hQ => by
    simp only [opersG] at h
    split at h
    · rename_i st1 h1
      unfold wpListIn
      have key := operG_sound (N := wpListIn (Fw r') n P ops Q l) (Q := Q) hE hrel hr h1 n fun ρ' a' w' hr' hf => opersG_sound hE l st1 st' ρ' a' w' r' n Q hr' (hr.mono hf.le) h fun ρ2 a2 w2 hr2 hf2 => hQ ρ2 a2 w2 hr2 (hf.trans hf2)
      rcases key with ⟨k1, k2⟩ | ⟨k1, k2⟩
      · rw [if_pos k1]; exact k2
      · rw [if_neg (by rw [k1]; simp)]; exact ⟨fun f _ => Fw_fn f, k2⟩
    · cases h
end Go.Gd
namespace Go.Gd
open Go.Sh (SameOs isFn Fw Fw_fn Fw_depth Fw_round Fw_room callsIn_Fw NX get_lt arr_lt put_size put_defers eval_tmp)
variable {P : Program} {E : Ev} {ρ ρ' : Rho} {g g' : G} {w : World} {tm : Tr Value} {a : Act}
theorem ancs_spec : ∀ (L : List Oper) (acc : List Nat), (ancs L acc).take acc.length = acc ∧ (ancs L acc).length = acc.length + L.length ∧
    ∀ (j : Nat) (o : Oper), L[j]? = some o → (ancs L acc)[acc.length + j]? = some (ancOf ((ancs L acc).take (acc.length + j)) o.after.toList)
  | [], acc => ⟨by simp [ancs], by simp [ancs], fun j o h => by simp at h⟩
  | o :: L, acc => by
    obtain ⟨h1, h2, h3⟩ := ancs_spec L (acc ++ [ancOf acc o.after.toList])
    simp only [List.length_append, List.length_cons, List.length_nil, Nat.zero_add] at h1 h2 h3
    have ht : (ancs L (acc ++ [ancOf acc o.after.toList])).take acc.length = acc := by
      have := congrArg (List.take acc.length) h1
      rw [List.take_take, Nat.min_eq_left (by omega), List.take_left'] at this
      · exact this
      · rfl
    refine ⟨ht, by simp only [ancs, h2, List.length_cons]; omega, fun j o' hj => ?_⟩
    simp only [ancs]
    cases j with
    | zero =>
      simp only [List.getElem?_cons_zero, Option.some.injEq] at hj
      subst hj
      rw [Nat.add_zero, ht]
      have h4 : (ancs L (acc ++ [ancOf acc o.after.toList]))[acc.length]? = ((ancs L (acc ++ [ancOf acc o.after.toList])).take (acc.length + 1))[acc.length]? := by
        rw [List.getElem?_take, if_pos (by omega)]
      rw [h4, h1, List.getElem?_append_right (Nat.le_refl _)]
      simp
    | succ j =>
      have := h3 j o' (by simpa using hj)
      rw [show acc.length + 1 + j = acc.length + (j + 1) by omega] at this
      exact this
theorem ancOf_bit {acc : List Nat} {i : Nat} : ∀ {es : List Edge}, (ancOf acc es).testBit i = true → ∃ e ∈ es, Region.binds .any e = true ∧ (i = e.on ∨ (acc.getD e.on 0).testBit i = true)
  | [], h => by simp [ancOf] at h
  | e :: es, h => by
    simp only [ancOf, Nat.testBit_or, Bool.or_eq_true] at h
    rcases h with h | h
    · cases hb : Region.binds .any e with
      | false => rw [hb] at h; simp at h
      | true =>
        rw [hb] at h
        simp only [cond, Nat.testBit_or, Bool.or_eq_true] at h
        rcases h with h | h
        · rw [Nat.testBit_two_pow] at h
          exact ⟨e, List.mem_cons_self, hb, .inl (by have := of_decide_eq_true h; exact this.symm)⟩
        · exact ⟨e, List.mem_cons_self, hb, .inr h⟩
    · obtain ⟨e', h1, h2⟩ := ancOf_bit h
      exact ⟨e', List.mem_cons_of_mem _ h1, h2⟩
theorem anc_bit {ops : Array Oper} {i j : Nat} {o : Oper} (ho : ops[j]? = some o) (h : ((ancs ops.toList []).getD j 0).testBit i = true) :
    ∃ e ∈ o.after.toList, Region.binds .any e = true ∧ (i = e.on ∨ (e.on < j ∧ ((ancs ops.toList []).getD e.on 0).testBit i = true)) := by
  obtain ⟨-, -, h3⟩ := ancs_spec ops.toList []
  have h4 := h3 j o (by simpa using ho)
  simp only [List.length_nil, Nat.zero_add] at h4
  have : (ancs ops.toList []).getD j 0 = ancOf ((ancs ops.toList []).take j) o.after.toList := by
    rw [List.getD_eq_getElem?_getD, h4]; rfl
  rw [this] at h
  obtain ⟨e, e1, e2, e3⟩ := ancOf_bit h
  refine ⟨e, e1, e2, ?_⟩
  rcases e3 with e3 | e3
  · exact .inl e3
  · rw [List.getD_eq_getElem?_getD, List.getElem?_take] at e3
    split at e3
    · rename_i hlt
      exact .inr ⟨hlt, by rw [List.getD_eq_getElem?_getD]; exact e3⟩
    · simp at e3
/-! ## What leaves the rows as they are -/
theorem opG_still {op : Op} {ty : TypeId} {v : Value} (hs : stillO P op = true) (h : opG P tm g ty op = some (v, g')) : g' = g := by
  cases op <;> simp only [stillO, Bool.false_eq_true] at hs <;> simp only [opG] at h
  case call c =>
    split at h
    · rename_i b hc
      split at h
      · rename_i vs hvs
        rw [hc] at hs
        cases b <;> simp at hs <;> (unfold builtG at h; split at h) <;> first
          | (obtain ⟨u, hu, h⟩ := mapG h; cases h; rfl)
          | (obtain ⟨-, h⟩ := bifT h; obtain ⟨u, hu, h⟩ := mapG h; cases h; rfl)
          | contradiction
          | cases h
      · cases h
    · cases h
  case convert s d x =>
    split at h
    · rename_i u hu
      unfold convG at h
      split at h
      · rename_i e h1 h2
        rw [h1, h2] at hs; simp at hs
      · obtain ⟨-, h⟩ := bifT h
        split at h
        · split at h
          · obtain ⟨u, hu, h⟩ := mapG h; cases h; rfl
          · cases h
        · cases h
      · obtain ⟨-, h⟩ := bifT h
        split at h
        · split at h
          · obtain ⟨-, h⟩ := bifT h; cases h; rfl
          · cases h
        · cases h
      · obtain ⟨-, h⟩ := bifT h
        obtain ⟨u, hu, h⟩ := mapG h; cases h; rfl
      · cases h
    · cases h
  all_goals (try split at h) <;> first
    | (obtain ⟨u, hu, h⟩ := mapG h; cases h; rfl)
    | (obtain ⟨-, h⟩ := bifT h; obtain ⟨u, hu, h⟩ := mapG h; cases h; rfl)
    | (obtain ⟨-, h⟩ := bifT h; cases h; rfl)
    | cases h
theorem opG_blind {op : Op} {ty : TypeId} {v : Value} (hs : blindO op = true) (h : opG P tm g ty op = some (v, g')) (g2 : G) : opG P tm g2 ty op = some (v, g2) := by
  cases op <;> simp only [blindO, Bool.false_eq_true] at hs <;> simp only [opG] at h ⊢
  all_goals (try split at h) <;> first
    | (obtain ⟨u, hu, h⟩ := mapG h; cases h; simp only [hu, Option.map_some]; done)
    | (obtain ⟨hb, h⟩ := bifT h; obtain ⟨u, hu, h⟩ := mapG h; cases h; simp only [hb, cond, hu, Option.map_some]; done)
    | (obtain ⟨hb, h⟩ := bifT h; cases h; simp only [hb, cond]; done)
    | cases h
    | skip
theorem operV_still {r : Option Nat} {ops : Array Oper} {o : Oper} {v : Value} {d : Option Deferred} (hs : stillO P o.op = true) (h : operV P E r ops o tm g = some (v, g', d)) : g' = g := by
  unfold operV at h
  split at h
  · cases h
  · cases h; rfl
  · split at h
    · rename_i v0 g0 hop; cases h; exact opG_still hs hop
    · split at h
      · rename_i c hop
        rw [hop] at hs
        simp only [stillO] at hs
        split at h
        · rename_i f pre post vs hcal hvs
          cases hc : c.callee with
          | builtin b => rw [hc] at hcal; simp [calleeM, calleeG] at hcal
          | value fo => rw [hc] at hs; simp at hs
          | invoke r m => rw [hc] at hs; simp at hs
        · cases h
      · rename_i c hop
        rw [hop] at hs; simp [stillO] at hs
      · cases h
mutual
theorem sameV_eq : ∀ {n : Nat} {x y : Value}, sameV n x y = true → x = y
  | 0, _, _, h => by simp [sameV] at h
  | n + 1, x, y, h => by
    unfold sameV at h
    split at h <;> (try simp only [Bool.and_eq_true, beq_iff_eq, Nat.beq_eq_true_eq, Bool.false_eq_true] at h)
    all_goals first
      | rfl
      | (subst h; rfl)
      | (obtain ⟨rfl, rfl⟩ := h; rfl)
      | (rw [sameVs_eq h])
      | (rename_i s t; obtain ⟨⟨s⟩⟩ := s; obtain ⟨⟨t⟩⟩ := t; have h : s = t := h; subst h; rfl)
      | (rw [Nat.eq_of_beq_eq_true h.1.1.1, Nat.eq_of_beq_eq_true h.1.1.2, Nat.eq_of_beq_eq_true h.1.2, Nat.eq_of_beq_eq_true h.2])
      | (rw [Nat.eq_of_beq_eq_true h.1.1, sameVs_eq h.1.2, sameVs_eq h.2])
      | (rw [Nat.eq_of_beq_eq_true h.1, Nat.eq_of_beq_eq_true h.2])
      | (rw [Nat.eq_of_beq_eq_true h.1, sameV_eq h.2])
      | (rw [Nat.eq_of_beq_eq_true h])
theorem sameVs_eq : ∀ {n : Nat} {xs ys : List Value}, sameV.all n xs ys = true → xs = ys
  | n, [], [], _ => rfl
  | n, [], _ :: _, h => by simp [sameV.all] at h
  | n, _ :: _, [], h => by simp [sameV.all] at h
  | n, x :: xs, y :: ys, h => by
    simp only [sameV.all, Bool.and_eq_true] at h
    rw [sameV_eq h.1, sameVs_eq h.2]
end
end Go.Gd
