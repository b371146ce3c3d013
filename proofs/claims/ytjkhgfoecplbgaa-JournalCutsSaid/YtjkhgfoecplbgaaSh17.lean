/- More rules for printed proofs: states that name only the slots that matter; operations met at their numbers. -/
import Derived.Test.YtjkhgfoecplbgaaSh16
set_option linter.all false
set_option autoImplicit true
set_option relaxedAutoImplicit true
namespace Go.Sh
set_option linter.unusedSimpArgs false
set_option linter.unusedVariables false

/-- A state that names only the slots that matter. -/
def spL (l : List (Nat × SV)) : Nat → Nat → List SV
  | 0, _ => []
  | n + 1, t => match l with
    | [] => .undef :: spL [] n (t + 1)
    | (t', s) :: r => if t' = t then s :: spL r n (t + 1) else .undef :: spL l n (t + 1)

def sp (n : Nat) (l : List (Nat × SV)) (H : List SObj) : St := ⟨spL l n 0, H⟩

/-- Only these slots are kept (in rising order). -/
def keepL : List Nat → Nat → List SV → List SV
  | _, _, [] => []
  | [], t, s :: r => .undef :: keepL [] (t + 1) r
  | k :: ks, t, s :: r => if k = t then s :: keepL ks (t + 1) r else .undef :: keepL (k :: ks) (t + 1) r

/-- What leans on a slot is kept together with it. -/
def keepOk (L : List Nat) : List SV → Bool
  | [] => true
  | s :: r => (match dep s with | some s' => L.contains s' | none => true) && keepOk L r

def keepO (L : List Nat) (st : St) : Option St :=
  let r := keepL L 0 st.tmps
  if keepOk L r then some { st with tmps := r } else none

theorem keepL_len : ∀ (L : List Nat) (t : Nat) (l : List SV), (keepL L t l).length = l.length
  | _, _, [] => by simp [keepL]
  | [], t, s :: r => by simp [keepL, keepL_len]
  | k :: ks, t, s :: r => by simp only [keepL]; split <;> simp [keepL_len]

theorem keepL_get : ∀ (L : List Nat) (t : Nat) (l : List SV) (i : Nat) (s : SV), (keepL L t l)[i]? = some s → s = .undef ∨ l[i]? = some s
  | _, _, [], i, s, h => by simp [keepL] at h
  | [], t, x :: r, i, s, h => by
    simp only [keepL] at h
    cases i with
    | zero => simp at h; exact .inl h.symm
    | succ i => simpa using keepL_get [] (t + 1) r i s (by simpa using h)
  | k :: ks, t, x :: r, i, s, h => by
    simp only [keepL] at h
    split at h
    · cases i with
      | zero => simp at h; exact .inr (by simp [h])
      | succ i => simpa using keepL_get ks (t + 1) r i s (by simpa using h)
    · cases i with
      | zero => simp at h; exact .inl h.symm
      | succ i => simpa using keepL_get (k :: ks) (t + 1) r i s (by simpa using h)

theorem keepL_keeps : ∀ (L : List Nat) (t : Nat) (l : List SV) (i : Nat) (s : SV), l[i]? = some s → List.Pairwise (· < ·) L → (∀ x ∈ L, t ≤ x) → t + i ∈ L → (keepL L t l)[i]? = some s
  | _, _, [], i, s, h, _, _, _ => by simp at h
  | [], t, x :: r, i, s, h, _, _, hm => by simp at hm
  | k :: ks, t, x :: r, i, s, h, hp, hlo, hm => by
    simp only [keepL]
    have hk := hlo k (by simp)
    rw [List.pairwise_cons] at hp
    split
    · rename_i e
      subst e
      cases i with
      | zero => simpa using h
      | succ i =>
        simp only [List.getElem?_cons_succ] at h ⊢
        refine keepL_keeps ks (k + 1) r i s h hp.2 (fun x hx => hp.1 x hx) ?_
        rcases List.mem_cons.1 hm with e | e
        · omega
        · rw [show k + 1 + i = k + (i + 1) by omega]; exact e
    · rename_i hne
      cases i with
      | zero =>
        rcases List.mem_cons.1 hm with e | e
        · omega
        · have := hp.1 _ e; omega
      | succ i =>
        simp only [List.getElem?_cons_succ] at h ⊢
        refine keepL_keeps (k :: ks) (t + 1) r i s h (List.pairwise_cons.2 hp) (fun x hx => ?_) (by rw [show t + 1 + i = t + (i + 1) by omega]; exact hm)
        rcases List.mem_cons.1 hx with e | e
        · omega
        · have := hp.1 x e; omega

theorem keepOk_dep {L : List Nat} : ∀ {l : List SV}, keepOk L l = true → ∀ (i s : Nat) {x : SV}, l[i]? = some x → dep x = some s → s ∈ L
  | [], _, i, s, x, h, _ => by simp at h
  | y :: r, hk, i, s, x, h, hd => by
    simp only [keepOk, Bool.and_eq_true] at hk
    cases i with
    | zero =>
      simp only [List.getElem?_cons_zero, Option.some.injEq] at h
      subst h
      have := hk.1
      rw [hd] at this
      simpa using this
    | succ i => exact keepOk_dep (l := r) hk.2 i s (by simpa using h) hd

def rising : List Nat → Bool
  | a :: b :: l => decide (a < b) && rising (b :: l)
  | _ => true

theorem rising_pw : ∀ {l : List Nat}, rising l = true → List.Pairwise (· < ·) l
  | [], _ => .nil
  | [a], _ => by simp
  | a :: b :: l, h => by
    simp only [rising, Bool.and_eq_true, decide_eq_true_eq] at h
    have ih := rising_pw (l := b :: l) h.2
    refine List.pairwise_cons.2 ⟨fun x hx => ?_, ih⟩
    rcases List.mem_cons.1 hx with e | e
    · omega
    · have := (List.pairwise_cons.1 ih).1 x e; omega

/-- 'keepO', its list being in rising order. -/
def keepR (L : List Nat) (st : St) : Option St := if rising L then keepO L st else none

theorem Rel.keepR {st st' : St} {a : Act} {w : World} {g : Gh} {L : List Nat} (h : Rel st a w g) (hk : Sh.keepR L st = some st') : Rel st' a w g := by
  unfold Sh.keepR at hk
  split at hk
  · rename_i hL
    simp only [keepO] at hk
    split at hk
    · rename_i hok
      cases hk
      refine Rel.step h (by simp [keepL_len, h.len]) h.def0 (fun _ _ h => h) (fun t s hs => ?_) h.hp
      rcases keepL_get L 0 st.tmps t s hs with e | e
      · exact .inl e
      · refine .inr (.inr ⟨e, rfl, fun _ _ => Keep.refl _ _ _, fun s0 e0 => ⟨rfl, fun x hx hb => ⟨x, ?_, rfl⟩⟩⟩)
        exact keepL_keeps L 0 st.tmps s0 _ hx (rising_pw hL) (fun _ _ => Nat.zero_le _) (by simpa using keepOk_dep hok t s0 hs e0)
    · cases hk
  · cases hk

section
variable {P : Program} {pu : Bool} {st : St} {ops : Array Oper} {k : Nat} {Q : St → Prop}

theorem SW.keep {c : Code} {Q : Exit → St → Prop} (L : List Nat) {st' : St} (hst : keepR L st = some st') (h : SW P pu c st' Q) : SW P pu c st Q :=
  fun a w g hr => h a w g (hr.keepR hst)

theorem OWk.keep (L : List Nat) {st' : St} (hst : keepR L st = some st') (h : OWk P pu ops k st' Q) : OWk P pu ops k st Q :=
  fun a w g hr => h a w g (hr.keepR hst)

theorem OBk.keep {m : Nat} (L : List Nat) {st' : St} (hst : keepR L st = some st') (h : OBk P ops m k st' Q) : OBk P ops m k st Q :=
  fun a w g hr => h a w g (hr.keepR hst)

/-- So many operations, and only these slots are kept. -/
theorem OWk.segK (steal L : List Nat) (n : Nat) {st' : St} (hr : (runSeg P steal ops n k st).bind (keepR L) = some st') (h : OWk P pu ops (k + n) st' Q) : OWk P pu ops k st Q := by
  simp only [Option.bind_eq_some_iff] at hr
  obtain ⟨st1, h1, h2⟩ := hr
  exact OWk.seg n h1 (OWk.keep L h2 h)

theorem OBk.segK {m : Nat} (steal L : List Nat) (n : Nat) {st' : St} (hm : (k + n ≤ m) = True) (hr : (runSegB P steal ops n k st).bind (keepR L) = some st') (h : OBk P ops m (k + n) st' Q) : OBk P ops m k st Q := by
  simp only [Option.bind_eq_some_iff] at hr
  obtain ⟨st1, h1, h2⟩ := hr
  exact OBk.seg n hm h1 (OBk.keep L h2 h)

/-- Two ways that meet again. -/
theorem OWk.mergeK (L : List Nat) (n : Nat) (b : Bool) (S S' : Bool → St) (h0 : st = S b) (hT : (runSeg P [] ops n k (S true)).bind (keepR L) = some (S' true)) (hF : (runSeg P [] ops n k (S false)).bind (keepR L) = some (S' false))
    (h : OWk P pu ops (k + n) (S' b) Q) : OWk P pu ops k st Q := by
  subst h0
  have key : (runSeg P [] ops n k (S b)).bind (keepR L) = some (S' b) := by cases b <;> assumption
  exact OWk.segK [] L n key h

theorem OBk.mergeK {m : Nat} (L : List Nat) (n : Nat) (b : Bool) (S S' : Bool → St) (hm : (k + n ≤ m) = True) (h0 : st = S b) (hT : (runSegB P [] ops n k (S true)).bind (keepR L) = some (S' true)) (hF : (runSegB P [] ops n k (S false)).bind (keepR L) = some (S' false))
    (h : OBk P ops m (k + n) (S' b) Q) : OBk P ops m k st Q := by
  subst h0
  have key : (runSegB P [] ops n k (S b)).bind (keepR L) = some (S' b) := by cases b <;> assumption
  exact OBk.segK [] L n hm key h

/-! ## Operations met at their numbers -/

/-- The operation of this number is to be carried out, only reads, and puts that into this slot. -/
def BAt (P : Program) (ops : Array Oper) (k : Nat) (st : St) (d : Option Tmp) (s : SV) : Prop :=
  ∃ o, ops[k]? = some o ∧ wantS ops st o = some true ∧ BStep P st o s ∧ locOk o.dst s = true ∧ o.dst = d

theorem OWk.at_ {d : Option Tmp} {s : SV} {st' : St} (L : List Nat) (hb : BAt P ops k st d s) (hst : keepR L (st.put d s) = some st') (h : OWk P pu ops (k + 1) st' Q) : OWk P pu ops k st Q := by
  obtain ⟨o, h1, h2, h3, h4, rfl⟩ := hb
  exact OWk.b h1 h2 h3 h4 rfl (OWk.keep L hst h)

theorem OBk.at_ {m : Nat} {d : Option Tmp} {s : SV} {st' : St} (L : List Nat) (hm : (k < m) = True) (hb : BAt P ops k st d s) (hst : keepR L (st.put d s) = some st') (h : OBk P ops m (k + 1) st' Q) : OBk P ops m k st Q := by
  obtain ⟨o, h1, h2, h3, h4, rfl⟩ := hb
  exact OBk.b hm h1 h2 h3 h4 rfl (OBk.keep L hst h)

/-- The operation of this number, if it is to be carried out. -/
def opAt (ops : Array Oper) (k : Nat) (st : St) : Option Oper :=
  match ops[k]? with
  | some o => if wantS ops st o = some true then some o else none
  | none => none

theorem opAt_inv {o : Oper} (h : opAt ops k st = some o) : ops[k]? = some o ∧ wantS ops st o = some true := by
  unfold opAt at h
  split at h
  · split at h
    · cases h; exact ⟨by assumption, by assumption⟩
    · cases h
  · cases h

def idxAt (P : Program) (ops : Array Oper) (k : Nat) (st : St) : Option (Option Tmp × Option Loc × Nat × List D × Int) :=
  match opAt ops k st with
  | some o => match o.op with
    | .indexAddr T x i => match listOf st x, intOf? st i with
      | some (l, n, xs), some (_, j) => if n != 0 && n == elemW P T && (arrayOf P T).isNone then some (o.dst, l, n, xs, j) else none
      | _, _ => none
    | _ => none
  | none => none

theorem lendP_loc {d : Option Tmp} {l : Option Loc} {cs : List D} : locOk d (lendP l cs) = true := by cases l <;> rfl
theorem lendL_loc {d : Option Tmp} {l : Option Loc} {n : Nat} {cs : List D} : locOk d (lendL l n cs) = true := by cases l <;> rfl

theorem BAt.index {α : Type} {enc : α → D} {xs : List α} {j : Int} {y : α} {d : Option Tmp} {l : Option Loc} {n : Nat} (hy : idx xs j = some y) (h : idxAt P ops k st = some (d, l, n, xs.map enc, j)) : BAt P ops k st d (lendP l (enc y).cells) := by
  unfold idxAt at h
  split at h
  · rename_i o ho
    split at h
    · rename_i T x i hop
      split at h
      · rename_i l' n' xs' kk j' hl hi
        split at h
        · rename_i hn
          simp only [Option.some.injEq, Prod.mk.injEq] at h
          obtain ⟨rfl, rfl, rfl, rfl, rfl⟩ := h
          obtain ⟨h1, h2⟩ := opAt_inv ho
          exact ⟨o, h1, h2, BStep.indexAddr hop hl hi hn (idx_inv hy).1 (idx_map enc hy), lendP_loc, rfl⟩
        · cases h
      · cases h
    · cases h
  · cases h

def idxSAt (P : Program) (ops : Array Oper) (k : Nat) (st : St) : Option (Option Tmp × List UInt8 × Int) :=
  match opAt ops k st with
  | some o => match o.op with
    | .index T x i => match valD st x, intOf? st i with
      | some (.str l), some (_, j) => if isStrT P T then some (o.dst, l, j) else none
      | _, _ => none
    | _ => none
  | none => none

theorem BAt.indexS {l : List UInt8} {j : Int} {b : UInt8} {d : Option Tmp} (hy : idx l j = some b) (h : idxSAt P ops k st = some (d, l, j)) : BAt P ops k st d (.d (.int .u8 b.toNat)) := by
  unfold idxSAt at h
  split at h
  · rename_i o ho
    split at h
    · rename_i T x i hop
      split at h
      · rename_i l' kk j' hl hi
        split at h
        · rename_i hn
          simp only [Option.some.injEq, Prod.mk.injEq] at h
          obtain ⟨rfl, rfl, rfl⟩ := h
          obtain ⟨h1, h2⟩ := opAt_inv ho
          exact ⟨o, h1, h2, BStep.index hop hl hi hn (idx_inv hy).1 (idx_inv hy).2, rfl, rfl⟩
        · cases h
      · cases h
    · cases h
  · cases h

/-- What an operation that only reads yields, computed. -/
def bopAt (P : Program) (ops : Array Oper) (k : Nat) (st : St) : Option (Option Tmp × SV) :=
  match opAt ops k st with
  | some o => match bop P st o with
    | some s => if locOk o.dst s then some (o.dst, s) else none
    | none => none
  | none => none

theorem BAt.of {d : Option Tmp} {s s' : SV} (h : bopAt P ops k st = some (d, s)) (e : s = s') : BAt P ops k st d s' := by
  subst e
  unfold bopAt at h
  split at h
  · rename_i o ho
    split at h
    · rename_i s0 hs
      split at h
      · rename_i hl
        simp only [Option.some.injEq, Prod.mk.injEq] at h
        obtain ⟨rfl, rfl⟩ := h
        obtain ⟨h1, h2⟩ := opAt_inv ho
        exact ⟨o, h1, h2, BStep.of_bop hs, hl, rfl⟩
      · cases h
    · cases h
  · cases h

theorem BAt.len {α : Type} {enc : α → D} {xs : List α} {d : Option Tmp} (h : bopAt P ops k st = some (d, .d (.int .i64 ((xs.map enc).length : Nat)))) : BAt P ops k st d (.d (.int .i64 (xs.length : Nat))) :=
  BAt.of h (by rw [List.length_map])

/-- A list's part. -/
def sl {α : Type} (xs : List α) (i j : Int) : List α := (xs.take j.toNat).drop i.toNat
def slOk {α : Type} (xs : List α) (i j : Int) : Bool := decide (0 ≤ i) && decide (i ≤ j) && decide (j ≤ xs.length)

def bndI (st : St) (dflt : Int) : Option Operand → Option Int
  | none => some dflt
  | some x => match intOf? st x with | some (_, j) => some j | none => none

theorem bndI_bnd {dflt : Nat} {x : Option Operand} {j : Int} (h : bndI st dflt x = some j) (h0 : 0 ≤ j) : bnd st dflt x = some j.toNat := by
  cases x with
  | none => simp only [bndI, Option.some.injEq] at h; subst h; rfl
  | some x =>
    simp only [bndI] at h
    simp only [bnd]
    split at h
    · cases h; simp [*]
    · cases h

/-- 'hl': the length, put in by hand ('none': the list's own). -/
def slAt (P : Program) (ops : Array Oper) (k : Nat) (st : St) (len : Int) : Option (Option Tmp × Option Loc × Nat × List D × Int × Int) :=
  match opAt ops k st with
  | some o => match o.op with
    | .slice T x lo hi none => match (match valD st x with | some (.str _) => none | _ => listOf st x), bndI st 0 lo, bndI st len hi with
      | some (l, n, xs), some i, some j => if elemW P T != 0 && n == elemW P T then some (o.dst, l, n, xs, i, j) else none
      | _, _, _ => none
    | _ => none
  | none => none

theorem BAt.slice {α : Type} {enc : α → D} {xs : List α} {d : Option Tmp} {l : Option Loc} {n : Nat} {i j : Int} (hc : slOk xs i j = true) (h : slAt P ops k st xs.length = some (d, l, n, xs.map enc, i, j)) : BAt P ops k st d (lendL l n ((sl xs i j).map enc)) := by
  unfold slAt at h
  split at h
  · rename_i o ho
    split at h
    · rename_i T x lo hi hop
      split at h
      · rename_i l' n' xs' i' j' hl hi' hj'
        split at h
        · rename_i hn
          simp only [Option.some.injEq, Prod.mk.injEq] at h
          obtain ⟨rfl, rfl, rfl, rfl, rfl, rfl⟩ := h
          obtain ⟨h1, h2⟩ := opAt_inv ho
          simp only [slOk, Bool.and_eq_true, decide_eq_true_eq] at hc
          have e1 := bndI_bnd (dflt := 0) hi' hc.1.1
          have e2 := bndI_bnd (dflt := xs.length) hj' (by omega)
          split at hl
          · cases hl
          · rename_i hns
            refine ⟨o, h1, h2, BStep.eq (BStep.slice hop ?_ hl e1 (by rw [List.length_map]; exact e2) hn (by omega) (by rw [List.length_map]; omega)) ?_, lendL_loc, rfl⟩
            · split
              · rename_i l0 h0; exact absurd h0 (hns l0)
              · rfl
            · simp [sl, List.map_drop, List.map_take]
        · cases h
      · cases h
    · cases h
  · cases h

def slSAt (P : Program) (ops : Array Oper) (k : Nat) (st : St) : Option (Option Tmp × List UInt8 × Int × Int) :=
  match opAt ops k st with
  | some o => match o.op with
    | .slice T x lo hi none => match valD st x with
      | some (.str l) => match bndI st 0 lo, bndI st l.length hi with
        | some i, some j => if isStrT P T then some (o.dst, l, i, j) else none
        | _, _ => none
      | _ => none
    | _ => none
  | none => none

theorem BAt.sliceS {l : List UInt8} {d : Option Tmp} {i j : Int} (hc : slOk l i j = true) (h : slSAt P ops k st = some (d, l, i, j)) : BAt P ops k st d (.d (.str (sl l i j))) := by
  unfold slSAt at h
  split at h
  · rename_i o ho
    split at h
    · rename_i T x lo hi hop
      split at h
      · rename_i l' hx
        split at h
        · rename_i i' j' hi' hj'
          split at h
          · rename_i hT
            simp only [Option.some.injEq, Prod.mk.injEq] at h
            obtain ⟨rfl, rfl, rfl, rfl⟩ := h
            obtain ⟨h1, h2⟩ := opAt_inv ho
            simp only [slOk, Bool.and_eq_true, decide_eq_true_eq] at hc
            exact ⟨o, h1, h2, BStep.sliceS hop hx (bndI_bnd (dflt := 0) hi' hc.1.1) (bndI_bnd hj' (by omega)) hT (by omega) (by omega), rfl, rfl⟩
          · cases h
        · cases h
      · cases h
    · cases h
  · cases h

/-- The room that lists and texts of this program's need at most, by far. -/
def room : Nat := 16777216

def addSAt (P : Program) (ops : Array Oper) (k : Nat) (st : St) : Option (Option Tmp × List UInt8 × List UInt8) :=
  match opAt ops k st with
  | some o => match o.op with
    | .binOp .add T x y yT => match valD st x, valD st y with
      | some (.str p), some (.str q) => some (o.dst, p, q)
      | _, _ => none
    | _ => none
  | none => none

theorem BAt.addS {p q : List UInt8} {d : Option Tmp} (hc : decide ((p ++ q).length ≤ room) = true) (h : addSAt P ops k st = some (d, p, q)) : BAt P ops k st d (.d (.str (p ++ q))) := by
  unfold addSAt at h
  split at h
  · rename_i o ho
    split at h
    · rename_i T x y yT hop
      split at h
      · rename_i p' q' hx hy
        simp only [Option.some.injEq, Prod.mk.injEq] at h
        obtain ⟨rfl, rfl, rfl⟩ := h
        obtain ⟨h1, h2⟩ := opAt_inv ho
        have hc := of_decide_eq_true hc
        rw [List.length_append] at hc
        exact ⟨o, h1, h2, BStep.addS hop hx hy (Nat.le_trans hc (by decide)), rfl, rfl⟩
      · cases h
    · cases h
  · cases h

/-- Bytes as numbers, and back. -/
def nums (l : List UInt8) : List Int := l.map fun b => (b.toNat : Int)
def bytes (l : List Int) : List UInt8 := l.map fun n => UInt8.ofNat n.toNat

theorem byteDs_nums (l : List UInt8) : byteDs l = (nums l).map (D.int .u8) := by simp [byteDs, nums]
theorem bytesOf_bytes : ∀ l : List Int, bytesOf (l.map (D.int .u8)) = some (bytes l)
  | [] => rfl
  | n :: r => by simp [bytesOf, bytesOf_bytes r, bytes]

def strAt (P : Program) (ops : Array Oper) (k : Nat) (st : St) : Option (Option Tmp × List D) :=
  match opAt ops k st with
  | some o => match o.op with
    | .convert src dst x => match (valD st x).bind leafV, listOf st x with
      | none, some (_, n, xs) => if n == 1 && isBytesT P src && isStrT P dst then some (o.dst, xs) else none
      | _, _ => none
    | _ => none
  | none => none

theorem BAt.str {l : List Int} {d : Option Tmp} (h : strAt P ops k st = some (d, l.map (D.int .u8))) : BAt P ops k st d (.d (.str (bytes l))) := by
  unfold strAt at h
  split at h
  · rename_i o ho
    split at h
    · rename_i src dst x hop
      split at h
      · rename_i l' n xs hx hl
        split at h
        · rename_i hn
          simp only [Option.some.injEq, Prod.mk.injEq] at h
          obtain ⟨rfl, rfl⟩ := h
          obtain ⟨h1, h2⟩ := opAt_inv ho
          simp only [Bool.and_eq_true, beq_iff_eq] at hn
          refine ⟨o, h1, h2, BStep.of_bop ?_, rfl, rfl⟩
          simp only [bop, hop, convS, hx, bytesS, hn.1.2, hn.2, Bool.and_self, if_true, hl]
          rw [if_pos (.inl hn.1.1), bytesOf_bytes]
          rfl
        · cases h
      · cases h
    · cases h
  · cases h

/-! ## Append -/

/-- Who appends to what: (slot, its own list or nothing), elements' cells, bytes. -/
def appAt (P : Program) (ops : Array Oper) (k : Nat) (st : St) : Option (Nat × Nat × Nat × List D × List D) :=
  match opAt ops k st with
  | some o => match o.op, o.dst with
    | .call c, some d => match c.callee, c.args.toList, c.argTypes.toList with
      | .builtin .append, [.tmp s, y], [T, T2] => match st.tmps[s]?, srcOf st y, sliceT P T with
        | some (.own n xs), some (m, ys), some (n', b) => if n == n' && (m == n || ys.isEmpty) && noInt P T2 && decide (b ≤ 65536) then some (s, d, n, xs, ys) else none
        | _, _, _ => none
      | _, _, _ => none
    | _, _ => none
  | none => none

theorem OWk.append {s d n : Nat} {xs ys zs : List D} {st' : St} (L : List Nat) (h : appAt P ops k st = some (s, d, n, xs, ys)) (hz : xs ++ ys = zs) (hc : zs.length ≤ room) (hst : keepR L ((st.take s).put (some d) (.own n zs)) = some st')
    (hn : OWk P pu ops (k + 1) st' Q) : OWk P pu ops k st Q := by
  subst hz
  unfold appAt at h
  split at h
  · rename_i o ho
    split at h
    · rename_i c d' hop hd
      split at h
      · rename_i s' y T T2 hcal ha ht
        split at h
        · rename_i n0 xs0 m ys0 n' b hs hy hT
          split at h
          · rename_i hcond
            simp only [Option.some.injEq, Prod.mk.injEq] at h
            obtain ⟨rfl, rfl, rfl, rfl, rfl⟩ := h
            simp only [Bool.and_eq_true, Bool.or_eq_true, beq_iff_eq, List.isEmpty_iff, decide_eq_true_eq] at hcond
            obtain ⟨⟨⟨hnn, hm⟩, h2⟩, hb⟩ := hcond
            subst hnn
            obtain ⟨h1, h3⟩ := opAt_inv ho
            rw [List.length_append] at hc
            refine OWk.e h1 h3 (OpS.append hop hcal ha ht hd hs hy hT h2 hm (Nat.le_trans hc (by decide)) ?_) (OWk.keep L hst hn)
            exact Nat.le_trans (Nat.mul_le_mul hc hb) (by decide)
          · cases h
        · cases h
      · cases h
    · cases h
  · cases h

def appNAt (P : Program) (ops : Array Oper) (k : Nat) (st : St) : Option (Nat × Nat × List D) :=
  match opAt ops k st with
  | some o => match o.op, o.dst with
    | .call c, some d => match c.callee, c.args.toList, c.argTypes.toList with
      | .builtin .append, [x, y], [T, T2] => match valD st x, srcOf st y, sliceT P T with
        | some .nilS, some (m, ys), some (n', b) => if (m == n' || ys.isEmpty) && noInt P T2 && decide (b ≤ 65536) then some (d, n', ys) else none
        | _, _, _ => none
      | _, _, _ => none
    | _, _ => none
  | none => none

theorem OWk.appendN {d n : Nat} {ys zs : List D} {st' : St} (L : List Nat) (h : appNAt P ops k st = some (d, n, ys)) (hz : ys = zs) (hc : zs.length ≤ room) (hst : keepR L (st.put (some d) (.own n zs)) = some st')
    (hn : OWk P pu ops (k + 1) st' Q) : OWk P pu ops k st Q := by
  subst hz
  unfold appNAt at h
  split at h
  · rename_i o ho
    split at h
    · rename_i c d' hop hd
      split at h
      · rename_i x y T T2 hcal ha ht
        split at h
        · rename_i m ys0 n' b hs hy hT
          split at h
          · rename_i hcond
            simp only [Option.some.injEq, Prod.mk.injEq] at h
            obtain ⟨rfl, rfl, rfl⟩ := h
            simp only [Bool.and_eq_true, Bool.or_eq_true, beq_iff_eq, List.isEmpty_iff, decide_eq_true_eq] at hcond
            obtain ⟨⟨hm, h2⟩, hb⟩ := hcond
            obtain ⟨h1, h3⟩ := opAt_inv ho
            refine OWk.e h1 h3 (OpS.appendNil hop hcal ha ht hd hs hy hT h2 hm (Nat.le_trans hc (by decide)) ?_) (OWk.keep L hst hn)
            exact Nat.le_trans (Nat.mul_le_mul hc hb) (by decide)
          · cases h
        · cases h
      · cases h
    · cases h
  · cases h

/-! ## Calls -/

def callAt (P : Program) (ops : Array Oper) (k : Nat) (st : St) (tr : List Nat) : Option (Option Tmp × FuncId × List SV × List Loc × List (Nat × Nat)) :=
  match opAt ops k st with
  | some o => match o.op with
    | .call c => match callS P st tr c with
      | some cs => some (o.dst, cs.f, cs.args, cs.ls, cs.gs)
      | none => none
    | _ => none
  | none => none

theorem OWk.callK {f : FuncId} {args : List SV} {ls : List Loc} {gs : List (Nat × Nat)} {d : Option Tmp} {r : SV} {st' : St} (tr L : List Nat) (hp : PC P f args r) (h : callAt P ops k st tr = some (d, f, args, ls, gs)) (hr : (resD r && (ls.isEmpty || flatSV r)) = true)
    (hst : keepR L ((st.takes gs).put d r) = some st') (hn : OWk P pu ops (k + 1) st' Q) : OWk P pu ops k st Q := by
  unfold callAt at h
  split at h
  · rename_i o ho
    split at h
    · rename_i c hop
      split at h
      · rename_i cs hcs
        simp only [Option.some.injEq, Prod.mk.injEq] at h
        obtain ⟨rfl, rfl, rfl, rfl, rfl⟩ := h
        obtain ⟨h1, h2⟩ := opAt_inv ho
        rw [Bool.and_eq_true] at hr
        exact OWk.call (cs := cs) tr h1 h2 hop hcs hp hr.1 hr.2 rfl (OWk.keep L hst hn)
      · cases h
    · cases h
  · cases h

/-! ## A list is given away to nobody -/

def St.freeze (st : St) (t : Nat) : St := match st.tmps[t]? with | some (.own n xs) => (st.kill t).set t (.d (.list n xs)) | _ => st

theorem Rel.freeze {a : Act} {w : World} {g : Gh} (h : Rel st a w g) (t : Nat) : ∃ g', Rel (st.freeze t) a w g' ∧ Fr pu g w g' w := by
  unfold St.freeze
  split
  · rename_i n xs ht
    let rn : Own → Own := fun o => if o = .lst (.slot t) then .free else o
    have rnO : ∀ {o}, o ≠ .lst (.slot t) → rn o = o := fun h => by simp [rn, h]
    refine ⟨g.ren rn, ?_, Nat.le_refl _, Keep.ren (rnO (by simp)), Keep.ren (rnO (by simp)), fun _ _ h => h, fun _ i => Keep.ren (rnO (by simp)), fun _ i j => Keep.ren (rnO (by simp)), fun _ => rfl, ⟨rfl, rfl⟩⟩
    have hlt := get_lt ht
    refine Rel.step h (by simp [St.set, h.len]) h.def0 (fun _ _ h => h) (fun t' s' hs' => ?_) (RH.keep (g := g) (w := w) (fun o ho => Keep.ren (rnO fun e => by subst e; exact ho.elim)) (fun _ _ h => h) rfl h.hp)
    by_cases hne : t = t'
    · subst hne
      rw [St.set, List.getElem?_set_self (by simpa using hlt)] at hs'
      cases hs'
      refine .inr (.inl ?_)
      have ho : ROwn g w (.slot t) (valOf a t) n xs := h.tmp t _ ht
      refine RList.free (l := .slot t) (rnO (by simp)) (by simp [rn]) ?_
      rcases ho with ⟨rfl, a, e⟩ | ⟨k, off, cap, c, T, us, hv, hk, hb, hl, hz, hn, hc, hr⟩
      · exact .inl ⟨rfl, a, _, e⟩
      · exact .inr ⟨k, off, cap, c, T, _, us, hv, by simp [hk, okL], hb, hl, hn, hc, hr⟩
    · simp only [St.set, List.getElem?_set_ne hne] at hs'
      rcases St.kill_get hs' with e | ⟨e1, e2⟩
      · exact .inl e
      · refine .inr (.inr ⟨e1, rfl, fun o ho => Keep.ren (rnO ?_), fun s0 e => ⟨rfl, fun x hx hb => ⟨?x, ?hx, ?hb⟩⟩⟩)
        · rintro rfl
          cases s' with
          | own n xs => simp only [uses, Own.lst.injEq, Loc.slot.injEq, reduceCtorEq, false_or] at ho; exact hne ho
          | lent l n xs =>
            simp only [uses, Own.lst.injEq, reduceCtorEq, false_or] at ho
            subst ho
            simp [mention] at e2
          | lptr l cs =>
            simp only [uses, Own.lst.injEq, reduceCtorEq, false_or] at ho
            subst ho
            simp [mention] at e2
          | pin v0 n xs => simp only [uses, Own.lst.injEq, Loc.slot.injEq, reduceCtorEq, false_or] at ho; exact hne ho
          | _ => simp [uses] at ho
        · exact x
        · have h2 : t ≠ s0 := fun e3 => by rw [e3, dep_mention e] at e2; cases e2
          simp [St.set, List.getElem?_set_ne h2, St.kill, hx, bigK_mention hb]
        · rfl
  · exact ⟨g, h, Fr.refl _ _ _⟩

theorem OWk.freeze (t : Nat) {st' : St} (hst : st.freeze t = st') (h : OWk P pu ops k st' Q) : OWk P pu ops k st Q := by
  subst hst
  intro a w g hr Qc hq
  obtain ⟨g', r, f⟩ := hr.freeze (pu := pu) t
  exact h a w g' r Qc fun st2 a2 w2 g2 q2 r2 f2 => hq st2 a2 w2 g2 q2 r2 (f.trans f2)

theorem SW.freeze {c : Code} {Q : Exit → St → Prop} (t : Nat) {st' : St} (hst : st.freeze t = st') (h : SW P pu c st' Q) : SW P pu c st Q := by
  subst hst
  intro a w g hr
  obtain ⟨g', r, f⟩ := hr.freeze (pu := pu) t
  refine Code.wp_mono (fun e a' w' hh => ?_) (h a w g' r)
  obtain ⟨st2, g2, q2, r2, f2⟩ := hh
  exact ⟨st2, g2, q2, r2, f.trans f2⟩

/-- A loop that a plain 'iter' tells, by kept slots. -/
theorem SW.iterK {γ β : Type} {c : Code} {Q : Exit → St → Prop} (L : List Nat) {body : γ → Option (γ ⊕ β)} (S : γ → St) (E : β → Exit → St → Prop) {fuel : Nat} {x : γ} {b : β} (hit : Sh.iter body fuel x = some b) (h0 : keepR L st = some (S x))
    (round : ∀ x o, body x = some o → SW P pu c (S x) (thenS (fun s' => ∃ y, o = .inl y ∧ keepR L s' = some (S y)) (fun e s' => ∃ b, o = .inr b ∧ E b e s')))
    (after : ∀ e s', E b e s' → Q e s') : SW P pu (.loop c) st Q := by
  refine SW.keep L h0 ?_
  intro a w g hr
  refine wp_loop_fuel (γ := γ) body (fun x a' w' => ∃ g', Rel (S x) a' w' g' ∧ Fr pu g w g' w') b (fun x a1 w1 ⟨g1, r1, f1⟩ o ho => ?_) fuel x a w ⟨g, hr, Fr.refl _ _ _⟩ hit
  refine Code.wp_mono (fun e a' w' hh => ?_) (round x o ho a1 w1 g1 r1)
  obtain ⟨st', g', q, r, f⟩ := hh
  cases e with
  | normal => obtain ⟨y, rfl, h1⟩ := q; exact ⟨y, rfl, g', r.keepR h1, f1.trans f⟩
  | _ => obtain ⟨b', rfl, h1⟩ := q; exact ⟨b', rfl, fun e => ⟨st', g', after _ _ (e ▸ h1), r, f1.trans f⟩⟩
end
end Go.Sh
