/- Contracts of functions over plain data. -/
import Derived.Test.YtfbcfehjlddodaaGreatDoorS1
import Derived.Deep.Quiet
import Derived.Lib.ConvBytes
import Derived.Maps.RangeRun
import Derived.Lib.SliceRun
set_option linter.all false
set_option autoImplicit true
set_option relaxedAutoImplicit true
namespace Go.Sh
/-- A state that names only the slots that matter. -/
def spL (l : List (Nat × SV)) : Nat → Nat → List SV
  | 0, _ => []
  | n + 1, t => match l with
    | [] => .undef :: spL [] n (t + 1)
    | (t', s) :: r => if t' = t then s :: spL r n (t + 1) else .undef :: spL l n (t + 1)
def sp (n : Nat) (l : List (Nat × SV)) (H : List SObj) : St := ⟨spL l n 0, H⟩
/-- Only these slots are kept (in rising order). -/
def keepL : List Nat → Nat → List SV → List SV
  | _, _, [] => []
  | [], t, s :: r => .undef :: keepL [] (t + 1) r
  | k :: ks, t, s :: r => if k = t then s :: keepL ks (t + 1) r else .undef :: keepL (k :: ks) (t + 1) r
/-- What leans on a slot is kept together with it. -/
def keepOk (L : List Nat) : List SV → Bool
  | [] => true
  | s :: r => (match dep s with | some s' => L.contains s' | none => true) && keepOk L r
def keepO (L : List Nat) (st : St) : Option St :=
  let r := keepL L 0 st.tmps
  if keepOk L r then some { st with tmps := r } else none
theorem keepL_len : ∀ (L : List Nat) (t : Nat) (l : List SV), (keepL L t l).length = l.length
  | _, _, [] => by simp [keepL]
  | [], t, s :: r => by simp [keepL, keepL_len]
  | k :: ks, t, s :: r => by simp only [keepL]; split <;> simp [keepL_len]
theorem keepL_get : ∀ (L : List Nat) (t : Nat) (l : List SV) (i : Nat) (s : SV), (keepL L t l)[i]? = some s → s = .undef ∨ l[i]? = some s
  | _, _, [], i, s, h => by simp [keepL] at h
  | [], t, x :: r, i, s, h => by
    simp only [keepL] at h
    cases i with
    | zero => simp at h; exact .inl h.symm
    | succ i => simpa using keepL_get [] (t + 1) r i s (by simpa using h)
  | k :: ks, t, x :: r, i, s, h => by
    simp only [keepL] at h
    split at h
    · cases i with
      | zero => simp at h; exact .inr (by simp [h])
      | succ i => simpa using keepL_get ks (t + 1) r i s (by simpa using h)
    · cases i with
      | zero => simp at h; exact .inl h.symm
      | succ i => simpa using keepL_get (k :: ks) (t + 1) r i s (by simpa using h)
theorem keepL_keeps : ∀ (L : List Nat) (t : Nat) (l : List SV) (i : Nat) (s : SV), l[i]? = some s → List.Pairwise (· < ·) L → (∀ x ∈ L, t ≤ x) → t + i ∈ L → (keepL L t l)[i]? = some s
  | _, _, [], i, s, h, _, _, _ => by simp at h
  | [], t, x :: r, i, s, h, _, _, hm => by simp at hm
  | k :: ks, t, x :: r, i, s, h, hp, hlo, hm => by
    simp only [keepL]
    have hk := hlo k (by simp)
    rw [List.pairwise_cons] at hp
    split
    · rename_i e
      subst e
      cases i with
      | zero => simpa using h
      | succ i =>
        simp only [List.getElem?_cons_succ] at h ⊢
        refine keepL_keeps ks (k + 1) r i s h hp.2 (fun x hx => hp.1 x hx) ?_
        grind
    · rename_i hne
      cases i with
      | zero =>
        grind
      | succ i =>
        simp only [List.getElem?_cons_succ] at h ⊢
        refine keepL_keeps (k :: ks) (t + 1) r i s h (List.pairwise_cons.2 hp) (fun x hx => ?_) (by grind)
        grind
theorem keepOk_dep : ∀ {l : List SV}, keepOk L l = true → ∀ (i s : Nat) {x : SV}, l[i]? = some x → dep x = some s → s ∈ L
  | [], _, i, s, x, h, _ => by simp at h
  | y :: r, hk, i, s, x, h, hd => by
    simp only [keepOk, Bool.and_eq_true] at hk
    cases i with
    | zero =>
      grind
    | succ i => exact keepOk_dep (l := r) hk.2 i s (by simpa using h) hd
def rising : List Nat → Bool
  | a :: b :: l => decide (a < b) && rising (b :: l)
  | _ => true
theorem rising_pw : ∀ {l : List Nat}, rising l = true → List.Pairwise (· < ·) l
  | [], _ => .nil
  | [a], _ => by simp
  | a :: b :: l, h => by
    simp only [rising, Bool.and_eq_true, decide_eq_true_eq] at h
    have ih := rising_pw (l := b :: l) h.2
    refine List.pairwise_cons.2 ⟨fun x hx => ?_, ih⟩
    rcases List.mem_cons.1 hx with e | e
    · omega
    · have := (List.pairwise_cons.1 ih).1 x e; omega
/-- 'keepO', its list being in rising order. -/
def keepR (L : List Nat) (st : St) : Option St := if rising L then keepO L st else none
theorem Rel.keepR {st : St} (h : Rel st a w g) (hk : Sh.keepR L st = some st') : Rel st' a w g := by
  unfold Sh.keepR at hk
  split at hk
  · rename_i hL
    simp only [keepO] at hk
    split at hk
    · rename_i hok
      cases hk
      refine Rel.step h (by simp [keepL_len, h.len]) h.def0 (fun _ _ h => h) (fun t s hs => ?_) h.hp
      rcases keepL_get L 0 st.tmps t s hs with e | e
      · exact .inl e
      · refine .inr (.inr ⟨e, rfl, fun _ _ => Keep.refl _ _ _, fun s0 e0 => ⟨rfl, fun x hx hb => ⟨x, ?_, rfl⟩⟩⟩)
        exact keepL_keeps L 0 st.tmps s0 _ hx (rising_pw hL) (fun _ _ => Nat.zero_le _) (by simpa using keepOk_dep hok t s0 hs e0)
    · cases hk
  · cases hk
section
variable {P : Program} {pu : Bool} {st : St} {ops : Array Oper} {k : Nat} {Q : St → Prop}
theorem SW.keep {Q : Exit → St → Prop} (L : List Nat) (hst : keepR L st = some st') (h : SW P pu c st' Q) : SW P pu c st Q :=
  fun a w g hr => h a w g (hr.keepR hst)
theorem OWk.keep (L : List Nat) (hst : keepR L st = some st') (h : OWk P pu ops k st' Q) : OWk P pu ops k st Q :=
  fun a w g hr => h a w g (hr.keepR hst)
theorem OBk.keep (L : List Nat) (hst : keepR L st = some st') (h : OBk P ops m k st' Q) : OBk P ops m k st Q :=
  fun a w g hr => h a w g (hr.keepR hst)
/-- So many operations, and only these slots are kept. -/
theorem OWk.segK (steal L : List Nat) (n : Nat) (hr : (runSeg P steal ops n k st).bind (keepR L) = some st') (h : OWk P pu ops (k + n) st' Q) : OWk P pu ops k st Q := by
  simp only [Option.bind_eq_some_iff] at hr
  obtain ⟨st1, h1, h2⟩ := hr
  exact OWk.seg n h1 (OWk.keep L h2 h)
theorem OBk.segK (steal L : List Nat) (n : Nat) (hm : (k + n ≤ m) = True) (hr : (runSegB P steal ops n k st).bind (keepR L) = some st') (h : OBk P ops m (k + n) st' Q) : OBk P ops m k st Q := by
  simp only [Option.bind_eq_some_iff] at hr
  obtain ⟨st1, h1, h2⟩ := hr
  exact OBk.seg n hm h1 (OBk.keep L h2 h)
/-- Two ways that meet again. -/
theorem OWk.mergeK (L : List Nat) (n : Nat) (b : Bool) (S S' : Bool → St) (h0 : st = S b) (hT : (runSeg P [] ops n k (S true)).bind (keepR L) = some (S' true)) (hF : (runSeg P [] ops n k (S false)).bind (keepR L) = some (S' false))
    (h : OWk P pu ops (k + n) (S' b) Q) : OWk P pu ops k st Q := by
  subst h0
  have key : (runSeg P [] ops n k (S b)).bind (keepR L) = some (S' b) := by cases b <;> assumption
  exact OWk.segK [] L n key h
theorem OBk.mergeK (L : List Nat) (n : Nat) (b : Bool) (S S' : Bool → St) (hm : (k + n ≤ m) = True) (h0 : st = S b) (hT : (runSegB P [] ops n k (S true)).bind (keepR L) = some (S' true)) (hF : (runSegB P [] ops n k (S false)).bind (keepR L) = some (S' false))
    (h : OBk P ops m (k + n) (S' b) Q) : OBk P ops m k st Q := by
  subst h0
  have key : (runSegB P [] ops n k (S b)).bind (keepR L) = some (S' b) := by cases b <;> assumption
  exact OBk.segK [] L n hm key h
/-! ## Operations met at their numbers -/
/-- The operation of this number is to be carried out, only reads, and puts that into this slot. -/
def BAt (P : Program) (ops : Array Oper) (k : Nat) (st : St) (d : Option Tmp) (s : SV) : Prop :=
  ∃ o, ops[k]? = some o ∧ wantS ops st o = some true ∧ BStep P st o s ∧ locOk o.dst s = true ∧ o.dst = d
theorem OWk.at_ (L : List Nat) (hb : BAt P ops k st d s) (hst : keepR L (st.put d s) = some st') (h : OWk P pu ops (k + 1) st' Q) : OWk P pu ops k st Q := by
  obtain ⟨o, h1, h2, h3, h4, rfl⟩ := hb
  exact OWk.b h1 h2 h3 h4 rfl (OWk.keep L hst h)
theorem OBk.at_ (L : List Nat) (hm : (k < m) = True) (hb : BAt P ops k st d s) (hst : keepR L (st.put d s) = some st') (h : OBk P ops m (k + 1) st' Q) : OBk P ops m k st Q := by
  obtain ⟨o, h1, h2, h3, h4, rfl⟩ := hb
  exact OBk.b hm h1 h2 h3 h4 rfl (OBk.keep L hst h)
/-- The operation of this number, if it is to be carried out. -/
def opAt (ops : Array Oper) (k : Nat) (st : St) : Option Oper :=
  match ops[k]? with
  | some o => if wantS ops st o = some true then some o else none
  | none => none
theorem opAt_inv (h : opAt ops k st = some o) : ops[k]? = some o ∧ wantS ops st o = some true := by
  unfold opAt at h
  grind
def idxAt (P : Program) (ops : Array Oper) (k : Nat) (st : St) : Option (Option Tmp × Option Loc × Nat × List D × Int) :=
  match opAt ops k st with
  | some o => match o.op with
    | .indexAddr T x i => match listOf st x, intOf? st i with
      | some (l, n, xs), some (_, j) => if n != 0 && n == elemW P T && (arrayOf P T).isNone then some (o.dst, l, n, xs, j) else none
      | _, _ => none
    | _ => none
  | none => none
theorem lendP_loc : locOk d (lendP l cs) = true := by cases l <;> rfl
theorem lendL_loc : locOk d (lendL l n cs) = true := by cases l <;> rfl
theorem BAt.index {α : Type} {enc : α → D} {xs : List α} {y : α} (hy : idx xs j = some y) (h : idxAt P ops k st = some (d, l, n, xs.map enc, j) := by kernel_rfl) : BAt P ops k st d (lendP l (enc y).cells) := by
  unfold idxAt at h
  split at h
  · rename_i o ho
    split at h
    · rename_i T x i hop
      split at h
      · rename_i l' n' xs' kk j' hl hi
        split at h
        · rename_i hn
          simp only [Option.some.injEq, Prod.mk.injEq] at h
          obtain ⟨rfl, rfl, rfl, rfl, rfl⟩ := h
          obtain ⟨h1, h2⟩ := opAt_inv ho
          exact ⟨o, h1, h2, BStep.indexAddr hop hl hi hn (idx_inv hy).1 (idx_map enc hy), lendP_loc, rfl⟩
        · cases h
      · cases h
    · cases h
  · cases h
def idxSAt (P : Program) (ops : Array Oper) (k : Nat) (st : St) : Option (Option Tmp × List UInt8 × Int) :=
  match opAt ops k st with
  | some o => match o.op with
    | .index T x i => match valD st x, intOf? st i with
      | some (.str l), some (_, j) => if isStrT P T then some (o.dst, l, j) else none
      | _, _ => none
    | _ => none
  | none => none
theorem BAt.indexS (hy : idx l j = some b) (h : idxSAt P ops k st = some (d, l, j) := by kernel_rfl) : BAt P ops k st d (.d (.int .u8 b.toNat)) := by
  unfold idxSAt at h
  split at h
  · rename_i o ho
    split at h
    · rename_i T x i hop
      split at h
      · rename_i l' kk j' hl hi
        split at h
        · rename_i hn
          simp only [Option.some.injEq, Prod.mk.injEq] at h
          obtain ⟨rfl, rfl, rfl⟩ := h
          obtain ⟨h1, h2⟩ := opAt_inv ho
          exact ⟨o, h1, h2, BStep.index hop hl hi hn (idx_inv hy).1 (idx_inv hy).2, rfl, rfl⟩
        · cases h
      · cases h
    · cases h
  · cases h
/-- What an operation that only reads yields, computed. -/
def bopAt (P : Program) (ops : Array Oper) (k : Nat) (st : St) : Option (Option Tmp × SV) :=
  match opAt ops k st with
  | some o => match bop P st o with
    | some s => if locOk o.dst s then some (o.dst, s) else none
    | none => none
  | none => none
theorem BAt.of (h : bopAt P ops k st = some (d, s)) (e : s = s') : BAt P ops k st d s' := by
  subst e
  unfold bopAt at h
  split at h
  · rename_i o ho
    split at h
    · rename_i s0 hs
      split at h
      · rename_i hl
        simp only [Option.some.injEq, Prod.mk.injEq] at h
        obtain ⟨rfl, rfl⟩ := h
        obtain ⟨h1, h2⟩ := opAt_inv ho
        exact ⟨o, h1, h2, BStep.of_bop hs, hl, rfl⟩
      · cases h
    · cases h
  · cases h
theorem BAt.len {α : Type} {enc : α → D} {xs : List α} (h : bopAt P ops k st = some (d, .d (.int .i64 ((xs.map enc).length : Nat))) := by kernel_rfl) : BAt P ops k st d (.d (.int .i64 (xs.length : Nat))) :=
  BAt.of h (by rw [List.length_map])
/-- A list's part. -/
def sl {α : Type} (xs : List α) (i j : Int) : List α := (xs.take j.toNat).drop i.toNat
def slOk {α : Type} (xs : List α) (i j : Int) : Bool := decide (0 ≤ i) && decide (i ≤ j) && decide (j ≤ xs.length)
def bndI (st : St) (dflt : Int) : Option Operand → Option Int
  | none => some dflt
  | some x => match intOf? st x with | some (_, j) => some j | none => none
theorem bndI_bnd {dflt : Nat} {x : Option Operand} {j : Int} (h : bndI st dflt x = some j) (h0 : 0 ≤ j) : bnd st dflt x = some j.toNat := by
  cases x with
  | none => simp only [bndI, Option.some.injEq] at h; subst h; rfl
  | some x =>
    simp only [bndI] at h
    simp only [bnd]
    grind
/-- 'hl': the length, put in by hand ('none': the list's own). -/
def slAt (P : Program) (ops : Array Oper) (k : Nat) (st : St) (len : Int) : Option (Option Tmp × Option Loc × Nat × List D × Int × Int) :=
  match opAt ops k st with
  | some o => match o.op with
    | .slice T x lo hi none => match (match valD st x with | some (.str _) => none | _ => listOf st x), bndI st 0 lo, bndI st len hi with
      | some (l, n, xs), some i, some j => if elemW P T != 0 && n == elemW P T then some (o.dst, l, n, xs, i, j) else none
      | _, _, _ => none
    | _ => none
  | none => none
theorem BAt.slice {α : Type} {enc : α → D} {xs : List α} {d : Option Tmp} {l : Option Loc} {n : Nat} {i j : Int} (hc : slOk xs i j = true) (h : slAt P ops k st xs.length = some (d, l, n, xs.map enc, i, j) := by kernel_rfl) : BAt P ops k st d (lendL l n ((sl xs i j).map enc)) := by
  unfold slAt at h
  split at h
  · rename_i o ho
    split at h
    · rename_i T x lo hi hop
      split at h
      · rename_i l' n' xs' i' j' hl hi' hj'
        split at h
        · rename_i hn
          simp only [Option.some.injEq, Prod.mk.injEq] at h
          obtain ⟨rfl, rfl, rfl, rfl, rfl, rfl⟩ := h
          obtain ⟨h1, h2⟩ := opAt_inv ho
          simp only [slOk, Bool.and_eq_true, decide_eq_true_eq] at hc
          have e1 := bndI_bnd (dflt := 0) hi' hc.1.1
          have e2 := bndI_bnd (dflt := xs.length) hj' (by omega)
          split at hl
          · cases hl
          · rename_i hns
            refine ⟨o, h1, h2, BStep.eq (BStep.slice hop ?_ hl e1 (by rw [List.length_map]; exact e2) hn (by omega) (by rw [List.length_map]; omega)) ?_, lendL_loc, rfl⟩
            · grind
            · simp [sl, List.map_drop, List.map_take]
        · cases h
      · cases h
    · cases h
  · cases h
def slSAt (P : Program) (ops : Array Oper) (k : Nat) (st : St) : Option (Option Tmp × List UInt8 × Int × Int) :=
  match opAt ops k st with
  | some o => match o.op with
    | .slice T x lo hi none => match valD st x with
      | some (.str l) => match bndI st 0 lo, bndI st l.length hi with
        | some i, some j => if isStrT P T then some (o.dst, l, i, j) else none
        | _, _ => none
      | _ => none
    | _ => none
  | none => none
theorem BAt.sliceS (hc : slOk l i j = true) (h : slSAt P ops k st = some (d, l, i, j)) : BAt P ops k st d (.d (.str (sl l i j))) := by
  unfold slSAt at h
  split at h
  · rename_i o ho
    split at h
    · rename_i T x lo hi hop
      split at h
      · rename_i l' hx
        split at h
        · rename_i i' j' hi' hj'
          split at h
          · rename_i hT
            simp only [Option.some.injEq, Prod.mk.injEq] at h
            obtain ⟨rfl, rfl, rfl, rfl⟩ := h
            obtain ⟨h1, h2⟩ := opAt_inv ho
            simp only [slOk, Bool.and_eq_true, decide_eq_true_eq] at hc
            exact ⟨o, h1, h2, BStep.sliceS hop hx (bndI_bnd (dflt := 0) hi' hc.1.1) (bndI_bnd hj' (by omega)) hT (by omega) (by omega), rfl, rfl⟩
          · cases h
        · cases h
      · cases h
    · cases h
  · cases h
/-- The room that lists and texts of this program's need at most, by far. -/
def room : Nat := 16777216
def addSAt (P : Program) (ops : Array Oper) (k : Nat) (st : St) : Option (Option Tmp × List UInt8 × List UInt8) :=
  match opAt ops k st with
  | some o => match o.op with
    | .binOp .add T x y yT => match valD st x, valD st y with
      | some (.str p), some (.str q) => some (o.dst, p, q)
      | _, _ => none
    | _ => none
  | none => none
theorem BAt.addS (hc : decide ((p ++ q).length ≤ room) = true) (h : addSAt P ops k st = some (d, p, q)) : BAt P ops k st d (.d (.str (p ++ q))) := by
  unfold addSAt at h
  split at h
  · rename_i o ho
    split at h
    · rename_i T x y yT hop
      split at h
      · rename_i p' q' hx hy
        simp only [Option.some.injEq, Prod.mk.injEq] at h
        obtain ⟨rfl, rfl, rfl⟩ := h
        obtain ⟨h1, h2⟩ := opAt_inv ho
        have hc := of_decide_eq_true hc
        rw [List.length_append] at hc
        exact ⟨o, h1, h2, BStep.addS hop hx hy (Nat.le_trans hc (by decide)), rfl, rfl⟩
      · cases h
    · cases h
  · cases h
/-- Bytes as numbers, and back. -/
def nums (l : List UInt8) : List Int := l.map fun b => (b.toNat : Int)
def bytes (l : List Int) : List UInt8 := l.map fun n => UInt8.ofNat n.toNat
theorem byteDs_nums (l : List UInt8) : byteDs l = (nums l).map (D.int .u8) := by simp [byteDs, nums]
theorem bytesOf_bytes : ∀ l : List Int, bytesOf (l.map (D.int .u8)) = some (bytes l)
  | [] => rfl
  | n :: r => by simp [bytesOf, bytesOf_bytes r, bytes]
def strAt (P : Program) (ops : Array Oper) (k : Nat) (st : St) : Option (Option Tmp × List D) :=
  match opAt ops k st with
  | some o => match o.op with
    | .convert src dst x => match (valD st x).bind leafV, listOf st x with
      | none, some (_, n, xs) => if n == 1 && isBytesT P src && isStrT P dst then some (o.dst, xs) else none
      | _, _ => none
    | _ => none
  | none => none
theorem BAt.str (h : strAt P ops k st = some (d, l.map (D.int .u8))) : BAt P ops k st d (.d (.str (bytes l))) := by
  unfold strAt at h
  split at h
  · rename_i o ho
    split at h
    · rename_i src dst x hop
      split at h
      · rename_i l' n xs hx hl
        split at h
        · rename_i hn
          simp only [Option.some.injEq, Prod.mk.injEq] at h
          obtain ⟨rfl, rfl⟩ := h
          obtain ⟨h1, h2⟩ := opAt_inv ho
          simp only [Bool.and_eq_true, beq_iff_eq] at hn
          refine ⟨o, h1, h2, BStep.of_bop ?_, rfl, rfl⟩
          simp only [bop, hop, convS, hx, bytesS, hn.1.2, hn.2, Bool.and_self, if_true, hl]
          rw [if_pos (.inl hn.1.1), bytesOf_bytes]
          rfl
        · cases h
      · cases h
    · cases h
  · cases h
/-! ## Append -/
/-- Who appends to what: (slot, its own list or nothing), elements' cells, bytes. -/
def appAt (P : Program) (ops : Array Oper) (k : Nat) (st : St) : Option (Nat × Nat × Nat × List D × List D) :=
  match opAt ops k st with
  | some o => match o.op, o.dst with
    | .call c, some d => match c.callee, c.args.toList, c.argTypes.toList with
      | .builtin .append, [.tmp s, y], [T, T2] => match st.tmps[s]?, srcOf st y, sliceT P T with
        | some (.own n xs), some (m, ys), some (n', b) => if n == n' && (m == n || ys.isEmpty) && noInt P T2 && decide (b ≤ 65536) then some (s, d, n, xs, ys) else none
        | _, _, _ => none
      | _, _, _ => none
    | _, _ => none
  | none => none
theorem OWk.append (L : List Nat) (h : appAt P ops k st = some (s, d, n, xs, ys)) (hz : xs ++ ys = zs) (hc : zs.length ≤ room) (hst : keepR L ((st.take s).put (some d) (.own n zs)) = some st')
    (hn : OWk P pu ops (k + 1) st' Q) : OWk P pu ops k st Q := by
  subst hz
  unfold appAt at h
  split at h
  · rename_i o ho
    split at h
    · rename_i c d' hop hd
      split at h
      · rename_i s' y T T2 hcal ha ht
        split at h
        · rename_i n0 xs0 m ys0 n' b hs hy hT
          split at h
          · rename_i hcond
            simp only [Option.some.injEq, Prod.mk.injEq] at h
            obtain ⟨rfl, rfl, rfl, rfl, rfl⟩ := h
            simp only [Bool.and_eq_true, Bool.or_eq_true, beq_iff_eq, List.isEmpty_iff, decide_eq_true_eq] at hcond
            obtain ⟨⟨⟨hnn, hm⟩, h2⟩, hb⟩ := hcond
            subst hnn
            obtain ⟨h1, h3⟩ := opAt_inv ho
            rw [List.length_append] at hc
            refine OWk.e h1 h3 (OpS.append hop hcal ha ht hd hs hy hT h2 hm (Nat.le_trans hc (by decide)) ?_) (OWk.keep L hst hn)
            exact Nat.le_trans (Nat.mul_le_mul hc hb) (by decide)
          · cases h
        · cases h
      · cases h
    · cases h
  · cases h
def appNAt (P : Program) (ops : Array Oper) (k : Nat) (st : St) : Option (Nat × Nat × List D) :=
  match opAt ops k st with
  | some o => match o.op, o.dst with
    | .call c, some d => match c.callee, c.args.toList, c.argTypes.toList with
      | .builtin .append, [x, y], [T, T2] => match valD st x, srcOf st y, sliceT P T with
        | some .nilS, some (m, ys), some (n', b) => if (m == n' || ys.isEmpty) && noInt P T2 && decide (b ≤ 65536) then some (d, n', ys) else none
        | _, _, _ => none
      | _, _, _ => none
    | _, _ => none
  | none => none
theorem OWk.appendN (L : List Nat) (h : appNAt P ops k st = some (d, n, ys)) (hz : ys = zs) (hc : zs.length ≤ room) (hst : keepR L (st.put (some d) (.own n zs)) = some st')
    (hn : OWk P pu ops (k + 1) st' Q) : OWk P pu ops k st Q := by
  subst hz
  unfold appNAt at h
  split at h
  · rename_i o ho
    split at h
    · rename_i c d' hop hd
      split at h
      · rename_i x y T T2 hcal ha ht
        split at h
        · rename_i m ys0 n' b hs hy hT
          split at h
          · rename_i hcond
            simp only [Option.some.injEq, Prod.mk.injEq] at h
            obtain ⟨rfl, rfl, rfl⟩ := h
            simp only [Bool.and_eq_true, Bool.or_eq_true, beq_iff_eq, List.isEmpty_iff, decide_eq_true_eq] at hcond
            obtain ⟨⟨hm, h2⟩, hb⟩ := hcond
            obtain ⟨h1, h3⟩ := opAt_inv ho
            refine OWk.e h1 h3 (OpS.appendNil hop hcal ha ht hd hs hy hT h2 hm (Nat.le_trans hc (by decide)) ?_) (OWk.keep L hst hn)
            exact Nat.le_trans (Nat.mul_le_mul hc hb) (by decide)
          · cases h
        · cases h
      · cases h
    · cases h
  · cases h
/-! ## Calls -/
def callAt (P : Program) (ops : Array Oper) (k : Nat) (st : St) (tr : List Nat) : Option (Option Tmp × FuncId × List SV × List Loc × List (Nat × Nat)) :=
  match opAt ops k st with
  | some o => match o.op with
    | .call c => match callS P st tr c with
      | some cs => some (o.dst, cs.f, cs.args, cs.ls, cs.gs)
      | none => none
    | _ => none
  | none => none
theorem OWk.callK (tr L : List Nat) (hp : PC P f args r) (h : callAt P ops k st tr = some (d, f, args, ls, gs)) (hr : (resD r && (ls.isEmpty || flatSV r)) = true)
    (hst : keepR L ((st.takes gs).put d r) = some st') (hn : OWk P pu ops (k + 1) st' Q) : OWk P pu ops k st Q := by
  unfold callAt at h
  split at h
  · rename_i o ho
    split at h
    · rename_i c hop
      split at h
      · rename_i cs hcs
        simp only [Option.some.injEq, Prod.mk.injEq] at h
        obtain ⟨rfl, rfl, rfl, rfl, rfl⟩ := h
        obtain ⟨h1, h2⟩ := opAt_inv ho
        rw [Bool.and_eq_true] at hr
        exact OWk.call (cs := cs) tr h1 h2 hop hcs hp hr.1 hr.2 rfl (OWk.keep L hst hn)
      · cases h
    · cases h
  · cases h
/-! ## A list is given away to nobody -/
def St.freeze (st : St) (t : Nat) : St := match st.tmps[t]? with | some (.own n xs) => (st.kill t).set t (.d (.list n xs)) | _ => st
theorem Rel.freeze (h : Rel st a w g) (t : Nat) : ∃ g', Rel (st.freeze t) a w g' ∧ Fr pu g w g' w := by
  unfold St.freeze
  split
  · rename_i n xs ht
    let rn : Own → Own := fun o => if o = .lst (.slot t) then .free else o
    have rnO : ∀ {o}, o ≠ .lst (.slot t) → rn o = o := fun h => by simp [rn, h]
    refine ⟨g.ren rn, ?_, Nat.le_refl _, Keep.ren (rnO (by simp)), Keep.ren (rnO (by simp)), fun _ _ h => h, fun _ i => Keep.ren (rnO (by simp)), fun _ i j => Keep.ren (rnO (by simp)), fun _ => rfl, ⟨rfl, rfl⟩⟩
    have hlt := get_lt ht
    refine Rel.step h (by simp [St.set, h.len]) h.def0 (fun _ _ h => h) (fun t' s' hs' => ?_) (RH.keep (g := g) (w := w) (fun o ho => Keep.ren (rnO fun e => by subst e; exact ho.elim)) (fun _ _ h => h) rfl h.hp)
    by_cases hne : t = t'
    · subst hne
      rw [St.set, List.getElem?_set_self (by simpa using hlt)] at hs'
      cases hs'
      refine .inr (.inl ?_)
      have ho : ROwn g w (.slot t) (valOf a t) n xs := h.tmp t _ ht
      refine RList.free (l := .slot t) (rnO (by simp)) (by simp [rn]) ?_
      rcases ho with ⟨rfl, a, e⟩ | ⟨k, off, cap, c, T, us, hv, hk, hb, hl, hz, hn, hc, hr⟩
      · exact .inl ⟨rfl, a, _, e⟩
      · exact .inr ⟨k, off, cap, c, T, _, us, hv, by simp [hk, okL], hb, hl, hn, hc, hr⟩
    · simp only [St.set, List.getElem?_set_ne hne] at hs'
      rcases St.kill_get hs' with e | ⟨e1, e2⟩
      · exact .inl e
      · refine .inr (.inr ⟨e1, rfl, fun o ho => Keep.ren (rnO ?_), fun s0 e => ⟨rfl, fun x hx hb => ⟨?x, ?hx, ?hb⟩⟩⟩)
        · rintro rfl
          cases s' with
          | own n xs => simp only [uses, Own.lst.injEq, Loc.slot.injEq, reduceCtorEq, false_or] at ho; exact hne ho
          | lent l n xs =>
            simp only [uses, Own.lst.injEq, reduceCtorEq, false_or] at ho
            subst ho
            simp [mention] at e2
          | lptr l cs =>
            simp only [uses, Own.lst.injEq, reduceCtorEq, false_or] at ho
            subst ho
            simp [mention] at e2
          | pin v0 n xs => simp only [uses, Own.lst.injEq, Loc.slot.injEq, reduceCtorEq, false_or] at ho; exact hne ho
          | _ => simp [uses] at ho
        · exact x
        · have h2 : t ≠ s0 := fun e3 => by rw [e3, dep_mention e] at e2; cases e2
          simp [St.set, List.getElem?_set_ne h2, St.kill, hx, bigK_mention hb]
        · rfl
  · exact ⟨g, h, Fr.refl _ _ _⟩
theorem OWk.freeze (t : Nat) (hst : st.freeze t = st') (h : OWk P pu ops k st' Q) : OWk P pu ops k st Q := by
  subst hst
  intro a w g hr Qc hq
  obtain ⟨g', r, f⟩ := hr.freeze (pu := pu) t
  exact h a w g' r Qc fun st2 a2 w2 g2 q2 r2 f2 => hq st2 a2 w2 g2 q2 r2 (f.trans f2)
theorem SW.freeze {Q : Exit → St → Prop} (t : Nat) (hst : st.freeze t = st') (h : SW P pu c st' Q) : SW P pu c st Q := by
  subst hst
  intro a w g hr
  obtain ⟨g', r, f⟩ := hr.freeze (pu := pu) t
  refine Code.wp_mono (fun e a' w' hh => ?_) (h a w g' r)
  obtain ⟨st2, g2, q2, r2, f2⟩ := hh
  exact ⟨st2, g2, q2, r2, f.trans f2⟩
/-- A loop that a plain 'iter' tells, by kept slots. -/
theorem SW.iterK {γ β : Type} {Q : Exit → St → Prop} (L : List Nat) {body : γ → Option (γ ⊕ β)} (S : γ → St) (E : β → Exit → St → Prop) {x : γ} {b : β} (hit : Sh.iter body fuel x = some b) (h0 : keepR L st = some (S x))
    (round : ∀ x o, body x = some o → SW P pu c (S x) (thenS (fun s' => ∃ y, o = .inl y ∧ keepR L s' = some (S y)) (fun e s' => ∃ b, o = .inr b ∧ E b e s')))
    (after : ∀ e s', E b e s' → Q e s') : SW P pu (.loop c) st Q := by
  refine SW.keep L h0 ?_
  intro a w g hr
  refine wp_loop_fuel (γ := γ) body (fun x a' w' => ∃ g', Rel (S x) a' w' g' ∧ Fr pu g w g' w') b (fun x a1 w1 ⟨g1, r1, f1⟩ o ho => ?_) fuel x a w ⟨g, hr, Fr.refl _ _ _⟩ hit
  refine Code.wp_mono (fun e a' w' hh => ?_) (round x o ho a1 w1 g1 r1)
  obtain ⟨st', g', q, r, f⟩ := hh
  cases e with
  | normal => obtain ⟨y, rfl, h1⟩ := q; exact ⟨y, rfl, g', r.keepR h1, f1.trans f⟩
  | _ => obtain ⟨b', rfl, h1⟩ := q; exact ⟨b', rfl, fun e => ⟨st', g', after _ _ (e ▸ h1), r, f1.trans f⟩⟩
end
end Go.Sh
namespace Go.Sh
section
variable {P : Program} {pu : Bool} {st : St} {ops : Array Oper} {k : Nat} {Q : St → Prop}
theorem OBk.done (h : decide (m ≤ k) = true) (hq : Q st) : OBk P ops m k st Q := OBk.fin (eq_true (of_decide_eq_true h)) hq
theorem OBk.segB (steal L : List Nat) (n : Nat) (hm : decide (k + n ≤ m) = true) (hr : (runSegB P steal ops n k st).bind (keepR L) = some st') (h : OBk P ops m (k + n) st' Q) : OBk P ops m k st Q := OBk.segK steal L n (eq_true (of_decide_eq_true hm)) hr h
theorem OBk.mergeB (L : List Nat) (n : Nat) (b : Bool) (S S' : Bool → St) (hm : decide (k + n ≤ m) = true) (h0 : st = S b) (hT : (runSegB P [] ops n k (S true)).bind (keepR L) = some (S' true)) (hF : (runSegB P [] ops n k (S false)).bind (keepR L) = some (S' false))
    (h : OBk P ops m (k + n) (S' b) Q) : OBk P ops m k st Q := OBk.mergeK L n b S S' (eq_true (of_decide_eq_true hm)) h0 hT hF h
theorem OBk.atB (L : List Nat) (hm : decide (k < m) = true) (hb : BAt P ops k st d s) (hst : keepR L (st.put d s) = some st') (h : OBk P ops m (k + 1) st' Q) : OBk P ops m k st Q := OBk.at_ L (eq_true (of_decide_eq_true hm)) hb hst h
theorem SW.regionDk {Q : Exit → St → Prop} {id : Nat} {l : List Oper} (hm : P.follows .mixedOrders = true) (hB : Region.lexB .any l.toArray = true) (h : OBk P l.toArray l.toArray.size 0 st (Q .normal)) : SW P pu (.region id l.toArray true) st Q := SW.regionD hm hB h
theorem OWk.done (h : decide (ops.size ≤ k) = true) (hq : Q st) : OWk P pu ops k st Q := OWk.fin (eq_true (of_decide_eq_true h)) hq
end
theorem room_map {α : Type} {f : α → D} {l : List α} (h : decide (l.length ≤ room) = true) : (l.map f).length ≤ room := by
  grind
theorem map_append' {α : Type} {f : α → D} {xs ys : List α} : xs.map f ++ ys.map f = (xs ++ ys).map f := (List.map_append).symm
theorem map_appendS : xs.map (D.int .u8) ++ byteDs s = (xs ++ nums s).map (D.int .u8) := by rw [byteDs_nums, List.map_append]
theorem sum_l {α β γ : Type} {f : α → γ} {g : β → γ} {x : α} {r : γ} (h : Sum.elim f g (.inl x) = r) : f x = r := h
theorem sum_r {α β γ : Type} {f : α → γ} {g : β → γ} {x : β} {r : γ} (h : Sum.elim f g (.inr x) = r) : g x = r := h
def iBits.and (k : IntKind) (x y : Int) : Int := k.wrap (BitVec.ofInt k.bits x &&& BitVec.ofInt k.bits y).toNat
def iBits.or (k : IntKind) (x y : Int) : Int := k.wrap (BitVec.ofInt k.bits x ||| BitVec.ofInt k.bits y).toNat
def iBits.xor (k : IntKind) (x y : Int) : Int := k.wrap (BitVec.ofInt k.bits x ^^^ BitVec.ofInt k.bits y).toNat
def iBits.andNot (k : IntKind) (x y : Int) : Int := k.wrap (BitVec.ofInt k.bits x &&& ~~~(BitVec.ofInt k.bits y)).toNat
end Go.Sh
namespace Go.Sh
/-- A truth value is known: the state with it. -/
theorem SW.case {P : Program} {pu : Bool} {st : St} {Q : Exit → St → Prop} (b : Bool) (S : Bool → St) (h0 : st = S b) (hT : b = true → SW P pu c (S true) Q) (hF : b = false → SW P pu c (S false) Q) : SW P pu c st Q := by
  subst h0
  cases b
  · exact hF rfl
  · exact hT rfl
end Go.Sh
namespace Go.Sh
def iShl (k : IntKind) (a b : Int) : Int := k.wrap (a * 2 ^ (min b.toNat k.bits))
def iShr (k : IntKind) (a b : Int) : Int := a.fdiv (2 ^ (min b.toNat k.bits))
section
variable {P : Program} {st : St} {ops : Array Oper} {k : Nat}
def shAt (ops : Array Oper) (k : Nat) (st : St) : Option (Option Tmp × Bool × IntKind × Int × Int) :=
  match opAt ops k st with
  | some o => match o.op with
    | .binOp op T x y yT => match (if op matches .shl then some true else if op matches .shr then some false else none), valD st x, valD st y with
      | some l, some (.int kk a), some (.int _ b) => some (o.dst, l, kk, a, b)
      | _, _, _ => none
    | _ => none
  | none => none
theorem BAt.shift (h0 : decide (0 ≤ b) = true) (h : shAt ops k st = some (d, l, kk, a, b)) : BAt P ops k st d (.d (.int kk (bif l then iShl kk a b else iShr kk a b))) := by
  have h0 : ¬ b < 0 := by have := of_decide_eq_true h0; omega
  unfold shAt at h
  split at h
  · rename_i o ho
    split at h
    · rename_i op T x y yT hop
      split at h
      · rename_i l' kk' a' kb b' hl hx hy
        simp only [Option.some.injEq, Prod.mk.injEq] at h
        obtain ⟨rfl, rfl, rfl, rfl, rfl⟩ := h
        obtain ⟨h1, h2⟩ := opAt_inv ho
        refine ⟨o, h1, h2, BStep.of_bop ?_, rfl, rfl⟩
        cases op <;> simp only [reduceCtorEq, if_false, Bool.false_eq_true, if_true, Option.some.injEq] at hl
        all_goals (subst hl; simp only [bop, hop, binS, hx, hy, Option.bind_some, leafV, backD, leafRun, eqGuard, Go.binOp, Op.shift, iShl, iShr]; first | done | skip)
        all_goals simp [leafRun, h0, leafD, iShl, iShr, bind, Sem.bind, pure]
      · cases h
    · cases h
  · cases h
end
end Go.Sh
namespace Go.Sh
section
variable {P : Program} {pu : Bool} {st : St}
/-- Where several ways meet: what they hand on. -/
def letJ {α β : Type} (b : α → β) (a : (α → β) → β) : β := a b
theorem letJ_inv {α β : Type} {b : α → β} {a : (α → β) → β} {r : β} (h : letJ b a = r) : ∃ jp, jp = b ∧ a jp = r := ⟨b, rfl, h⟩
theorem SW.seqJ {α : Type} {Q : Exit → St → Prop} (L : List Nat) (S : α → St) (C : α → Prop) (hj : ∀ v, C v → SW P pu y (S v) Q) (h : SW P pu x st (thenS (fun s => ∃ v l, keepR L (s.nils l) = some (S v) ∧ C v) Q)) : SW P pu (.seq x y) st Q := by
  refine SW.seq ?_
  intro a w g hr
  refine Code.wp_mono (fun e a' w' hh => ?_) (h a w g hr)
  obtain ⟨st', g', q, r, f⟩ := hh
  cases e with
  | normal =>
    obtain ⟨v, l, h1, h2⟩ := q
    exact ⟨S v, g', hj v h2, r.nils.keepR h1, f⟩
  | _ => exact ⟨st', g', q, r, f⟩
end
end Go.Sh
namespace Go.Sh
def vI (n : Int) : SV := .d (.int .i64 n)
def vB (b : Bool) : SV := .d (.bool b)
def vS (l : List UInt8) : SV := .d (.str l)
def pickL : List Nat → Nat → List SV → List (Nat × SV)
  | _, _, [] => []
  | [], t, s :: r => []
  | k :: ks, t, s :: r => if k = t then (k, s) :: pickL ks (t + 1) r else pickL (k :: ks) (t + 1) r
theorem keepL_nil : ∀ (t : Nat) (l : List SV), keepL [] t l = spL [] l.length t
  | _, [] => rfl
  | t, s :: r => by simp [keepL, spL, keepL_nil (t + 1) r]
theorem spL_skip {n : Nat} (h : t' ≠ t) : spL ((t', s) :: l) (n + 1) t = .undef :: spL ((t', s) :: l) n (t + 1) := by simp [spL, h]
theorem pickL_sp : ∀ (L : List Nat) (t : Nat) (l : List SV), (∀ x ∈ L, t ≤ x) → List.Pairwise (· < ·) L → keepL L t l = spL (pickL L t l) l.length t
  | [], t, l, _, _ => by cases l <;> simp [pickL, keepL_nil, keepL, spL]
  | k :: ks, t, [], _, _ => by simp [keepL, pickL, spL]
  | k :: ks, t, s :: r, hlo, hp => by
    simp only [keepL, pickL, List.length_cons]
    rw [List.pairwise_cons] at hp
    split
    · rename_i e
      subst e
      simp only [spL, if_true]
      rw [pickL_sp ks (k + 1) r (fun x hx => hp.1 x hx) hp.2]
    · rename_i hne
      have hlo' : ∀ x ∈ k :: ks, t + 1 ≤ x := fun x hx => by
        have h1 := hlo k (by simp)
        grind
      rw [pickL_sp (k :: ks) (t + 1) r hlo' (List.pairwise_cons.2 hp)]
      have hgt : ∀ p ∈ pickL (k :: ks) (t + 1) r, t < p.1 := pickL_gt (k :: ks) (t + 1) r hlo'
      cases hq : pickL (k :: ks) (t + 1) r with
      | nil => simp [spL]
      | cons p q =>
        obtain ⟨t', s'⟩ := p
        have := hgt (t', s') (by rw [hq]; simp)
        rw [spL_skip (by simp only at this; omega)]
where
  pickL_gt : ∀ (L : List Nat) (t : Nat) (l : List SV), (∀ x ∈ L, t ≤ x) → ∀ p ∈ pickL L t l, t ≤ p.1
    | [], t, l, _, p, h => by cases l <;> simp [pickL] at h
    | k :: ks, t, [], _, p, h => by simp [pickL] at h
    | k :: ks, t, s :: r, hlo, p, h => by
      simp only [pickL] at h
      split at h
      · rename_i e
        subst e
        rcases List.mem_cons.1 h with e | e
        · subst e; exact Nat.le_refl _
        · by_cases hk : ∀ x ∈ ks, k + 1 ≤ x
          · have := pickL_gt ks (k + 1) r hk p e; omega
          · have := pickL_mem ks (k + 1) r p e
            exact hlo p.1 (by simp [this])
      · rename_i hne
        have := pickL_mem (k :: ks) (t + 1) r p h
        exact hlo p.1 this
  pickL_mem : ∀ (L : List Nat) (t : Nat) (l : List SV), ∀ p ∈ pickL L t l, p.1 ∈ L
    | [], t, l, p, h => by cases l <;> simp [pickL] at h
    | k :: ks, t, [], p, h => by simp [pickL] at h
    | k :: ks, t, s :: r, p, h => by
      simp only [pickL] at h
      split at h
      · rcases List.mem_cons.1 h with e | e
        · subst e; simp
        · exact List.mem_cons_of_mem _ (pickL_mem ks (t + 1) r p e)
      · exact pickL_mem (k :: ks) (t + 1) r p h
/-- What is kept, as a list. -/
def pickR (n : Nat) (L : List Nat) (st : St) : Option (List (Nat × SV) × List SObj) :=
  if rising L && (st.tmps.length == n && keepOk L (keepL L 0 st.tmps)) then some (pickL L 0 st.tmps, st.H) else none
theorem keepR_of_pick {n : Nat} {st : St} {H : List SObj} (h : pickR n L st = some (l, H)) : keepR L st = some (sp n l H) := by
  unfold pickR at h
  split at h
  · rename_i hc
    simp only [Bool.and_eq_true, beq_iff_eq] at hc
    simp only [Option.some.injEq, Prod.mk.injEq] at h
    obtain ⟨rfl, rfl⟩ := h
    obtain ⟨h1, h2, h3⟩ := hc
    unfold keepR keepO
    rw [if_pos h1]
    simp only [h3, if_true, Option.some.injEq, sp]
    rw [pickL_sp L 0 st.tmps (fun _ _ => Nat.zero_le _) (rising_pw h1), h2]
  · cases h
theorem bind_pick {n : Nat} {L : List Nat} {o : Option St} {l : List (Nat × SV)} {H : List SObj} (h : o.bind (pickR n L) = some (l, H)) : o.bind (keepR L) = some (sp n l H) := by
  simp only [Option.bind_eq_some_iff] at h ⊢
  obtain ⟨st, h1, h2⟩ := h
  exact ⟨st, h1, keepR_of_pick h2⟩
section
variable {P : Program} {pu : Bool} {st : St} {ops : Array Oper} {k : Nat} {Q : St → Prop} {m : Nat} (n : Nat) (H : List SObj)
theorem SW.kp {Q : Exit → St → Prop} (L : List Nat) (l : List (Nat × SV)) (hst : pickR n L st = some (l, H)) (h : SW P pu c (sp n l H) Q) : SW P pu c st Q := SW.keep L (keepR_of_pick hst) h
theorem OWk.sg (steal L : List Nat) (j : Nat) (l : List (Nat × SV)) (hr : (runSeg P steal ops j k st).bind (pickR n L) = some (l, H)) (h : OWk P pu ops (k + j) (sp n l H) Q) : OWk P pu ops k st Q := OWk.segK steal L j (bind_pick hr) h
theorem OBk.sg (steal L : List Nat) (j : Nat) (l : List (Nat × SV)) (hm : decide (k + j ≤ m) = true) (hr : (runSegB P steal ops j k st).bind (pickR n L) = some (l, H)) (h : OBk P ops m (k + j) (sp n l H) Q) : OBk P ops m k st Q := OBk.segB steal L j hm (bind_pick hr) h
theorem OWk.mg (L : List Nat) (j : Nat) (b : Bool) (S : Bool → St) (l : Bool → List (Nat × SV)) (h0 : st = S b) (hT : (runSeg P [] ops j k (S true)).bind (pickR n L) = some (l true, H)) (hF : (runSeg P [] ops j k (S false)).bind (pickR n L) = some (l false, H))
    (h : OWk P pu ops (k + j) (sp n (l b) H) Q) : OWk P pu ops k st Q := OWk.mergeK L j b S (fun b => sp n (l b) H) h0 (bind_pick hT) (bind_pick hF) h
theorem OBk.mg (L : List Nat) (j : Nat) (b : Bool) (S : Bool → St) (l : Bool → List (Nat × SV)) (hm : decide (k + j ≤ m) = true) (h0 : st = S b) (hT : (runSegB P [] ops j k (S true)).bind (pickR n L) = some (l true, H)) (hF : (runSegB P [] ops j k (S false)).bind (pickR n L) = some (l false, H))
    (h : OBk P ops m (k + j) (sp n (l b) H) Q) : OBk P ops m k st Q := OBk.mergeB L j b S (fun b => sp n (l b) H) hm h0 (bind_pick hT) (bind_pick hF) h
theorem OWk.on (L : List Nat) (l : List (Nat × SV)) (hb : BAt P ops k st d s) (hst : pickR n L (st.put d s) = some (l, H)) (h : OWk P pu ops (k + 1) (sp n l H) Q) : OWk P pu ops k st Q := OWk.at_ L hb (keepR_of_pick hst) h
theorem OBk.on (L : List Nat) (l : List (Nat × SV)) (hm : decide (k < m) = true) (hb : BAt P ops k st d s) (hst : pickR n L (st.put d s) = some (l, H)) (h : OBk P ops m (k + 1) (sp n l H) Q) : OBk P ops m k st Q := OBk.atB L hm hb (keepR_of_pick hst) h
theorem OWk.app (L : List Nat) (l : List (Nat × SV)) (h : appAt P ops k st = some (s, d, w, xs, ys)) (hz : xs ++ ys = zs) (hc : zs.length ≤ room) (hst : pickR n L ((st.take s).put (some d) (.own w zs)) = some (l, H))
    (hn : OWk P pu ops (k + 1) (sp n l H) Q) : OWk P pu ops k st Q := OWk.append L h hz hc (keepR_of_pick hst) hn
theorem OWk.appN (L : List Nat) (l : List (Nat × SV)) (h : appNAt P ops k st = some (d, w, ys)) (hz : ys = zs) (hc : zs.length ≤ room) (hst : pickR n L (st.put (some d) (.own w zs)) = some (l, H))
    (hn : OWk P pu ops (k + 1) (sp n l H) Q) : OWk P pu ops k st Q := OWk.appendN L h hz hc (keepR_of_pick hst) hn
theorem OWk.cl (tr L : List Nat) (l : List (Nat × SV)) (hp : PC P f args r) (h : callAt P ops k st tr = some (d, f, args, ls, gs)) (hr : (resD r && (ls.isEmpty || flatSV r)) = true)
    (hst : pickR n L ((st.takes gs).put d r) = some (l, H)) (hn : OWk P pu ops (k + 1) (sp n l H) Q) : OWk P pu ops k st Q := OWk.callK tr L hp h hr (keepR_of_pick hst) hn
theorem OWk.fz (t : Nat) (L : List Nat) (l : List (Nat × SV)) (hst : pickR n L (st.freeze t) = some (l, H)) (h : OWk P pu ops k (sp n l H) Q) : OWk P pu ops k st Q := OWk.freeze t rfl (OWk.keep L (keepR_of_pick hst) h)
theorem SW.jn {α : Type} {Q : Exit → St → Prop} (L : List Nat) (l : α → List (Nat × SV)) (C : α → Prop) (hj : ∀ v, C v → SW P pu y (sp n (l v) H) Q) (h : SW P pu x st (thenS (fun s => ∃ v ll, pickR n L (s.nils ll) = some (l v, H) ∧ C v) Q)) : SW P pu (.seq x y) st Q :=
  SW.seqJ L (fun v => sp n (l v) H) C hj (SW.mono h fun e s hh => by
    cases e with
    | normal => obtain ⟨v, ll, h1, h2⟩ := hh; exact ⟨v, ll, keepR_of_pick h1, h2⟩
    | _ => exact hh)
theorem SW.it {γ β : Type} {Q : Exit → St → Prop} (L : List Nat) {body : γ → Option (γ ⊕ β)} (l : γ → List (Nat × SV)) (E : β → Exit → St → Prop) {x : γ} {b : β} (hit : Sh.iter body fuel x = some b) (h0 : pickR n L st = some (l x, H))
    (round : ∀ x o, body x = some o → SW P pu c (sp n (l x) H) (thenS (fun s' => ∃ y, o = .inl y ∧ pickR n L s' = some (l y, H)) (fun e s' => ∃ b, o = .inr b ∧ E b e s')))
    (after : ∀ e s', E b e s' → Q e s') : SW P pu (.loop c) st Q :=
  SW.iterK L (fun x => sp n (l x) H) E hit (keepR_of_pick h0) (fun x o h => SW.mono (round x o h) fun e s hh => by
    cases e with
    | normal => obtain ⟨y, h1, h2⟩ := hh; exact ⟨y, h1, keepR_of_pick h2⟩
    | _ => exact hh) after
end
end Go.Sh
namespace Go.Sh
/-- A value that is told by what it reads as. -/
def detV1 : D → Option Value
  | .fn f [] [] => some (.func f #[] #[])
  | d => leafV d
def detVs : List D → Option (List Value)
  | [] => some []
  | d :: ds => match detV1 d, detVs ds with
    | some v, some vs => some (v :: vs)
    | _, _ => none
def detV : D → Option Value
  | .agg cs => (detVs cs).map fun vs => .agg vs.toArray
  | d => detV1 d
theorem detV1_rd (h : Rd g w v d) (hd : detV1 d = some u) : v = u := by
  unfold detV1 at hd
  split at hd
  · cases hd
    cases h with
    | fn hl1 hl2 us1 us2 hc1 hr1 hc2 hr2 =>
      grind
  · exact leafV_rd hd h
theorem detVs_rd : ∀ {cs : List D} {vs : List Value} {us : List Value}, detVs cs = some vs → us.length = cs.length → (∀ (j : Nat) (y : D), cs[j]? = some y → ∃ u, us[j]? = some u ∧ Rd g w u y) → us = vs
  | [], vs, us, h, hl, _ => by simp [detVs] at h; subst h; simpa using hl
  | d :: ds, vs, us, h, hl, hr => by
    simp only [detVs] at h
    split at h
    · rename_i v vs' h1 h2
      cases h
      cases us with
      | nil => simp at hl
      | cons u us =>
        obtain ⟨u', e1, e2⟩ := hr 0 d (by simp)
        simp at e1; subst e1
        rw [detV1_rd e2 h1, detVs_rd (us := us) h2 (by simpa using hl) (fun j y hj => by simpa using hr (j + 1) y (by simpa using hj))]
    · cases h
theorem detV_rd (h : Rd g w v d) (hd : detV d = some u) : v = u := by
  unfold detV at hd
  split at hd
  · rename_i cs
    simp only [Option.map_eq_some_iff] at hd
    obtain ⟨vs, h1, rfl⟩ := hd
    cases h with
    | agg hl us hc hr =>
      rename_i us0
      have := detVs_rd (us := us0.toList) h1 (by simpa using hl) (fun j y hj => ⟨us j, by simpa using (hc j y hj).1, hr j y hj⟩)
      rw [← this]
  · exact detV1_rd h hd
def detTs : List SV → Option (List Value)
  | [] => some []
  | .d x :: r => match detV x, detTs r with
    | some v, some vs => some (v :: vs)
    | _, _ => none
  | _ => none
def detS : SV → Option Value
  | .d x => detV x
  | .tup vs => (detTs vs).map fun us => .tuple us.toArray
  | _ => none
theorem detTs_get : ∀ {vs : List SV} {ws : List Value}, detTs vs = some ws → ws.length = vs.length ∧ ∀ (j : Nat) (s : SV), vs[j]? = some s → ∃ u x, ws[j]? = some u ∧ s = .d x ∧ detV x = some u
  | [], ws, h => by simp [detTs] at h; subst h; simp
  | .d x :: r, ws, h => by
    simp only [detTs] at h
    split at h
    · rename_i v vs' h1 h2
      cases h
      obtain ⟨hl, hr⟩ := detTs_get h2
      grind
    · cases h
  | .own _ _ :: _, _, h => by simp [detTs] at h
  | .lent _ _ _ :: _, _, h => by simp [detTs] at h
  | .lptr _ _ :: _, _, h => by simp [detTs] at h
  | .box _ :: _, _, h => by simp [detTs] at h
  | .loc _ _ :: _, _, h => by simp [detTs] at h
  | .tup _ :: _, _, h => by simp [detTs] at h
  | .undef :: _, _, h => by simp [detTs] at h
  | .als _ :: _, _, h => by simp [detTs] at h
  | .ep _ _ _ :: _, _, h => by simp [detTs] at h
  | .pin _ _ _ :: _, _, h => by simp [detTs] at h
/-- A world that has grown out of this one. -/
def UpW (w w' : World) : Prop := w.heap.size ≤ w'.heap.size ∧ Up w w' ∧ SameOs w w'
section
variable {P : Program} {pu : Bool} {st : St} {ops : Array Oper} {k m : Nat} {Q : St → Prop}
theorem UpW.keep (h : UpW w w') (g : Gh) (o : Own) : Keep o g w g w' := fun k b h1 h2 => ⟨h1, h.2.1 k b h2⟩
theorem UpW.fr (h : UpW w w') (g : Gh) : Fr pu g w g w' := ⟨h.1, h.keep g _, h.keep g _, fun _ _ h => h, fun _ _ => h.keep g _, fun _ _ _ => h.keep g _, fun _ => rfl, h.2.2⟩
theorem UpW.rel (h : UpW w w') (hr : Rel st a w g) : Rel st a w' g := hr.world (fun o => h.keep g o) (fun _ _ h => h) rfl
def OQ (P : Program) (ops : Array Oper) (l : List Oper) (st : St) (Q : St → Prop) : Prop :=
  ∀ a w g, Rel st a w g → ∀ Qc : Act → Prop, (∀ st' a' g', Q st' → Rel st' a' w g' → (∀ pu, Fr pu g w g' w) → Qc a') → wpQuiet P ops (UpW w) Qc l a
def OQk (P : Program) (ops : Array Oper) (k : Nat) (st : St) (Q : St → Prop) : Prop := OQ P ops (ops.toList.drop k) st Q
theorem OQk.done (h : decide (ops.size ≤ k) = true) (hq : Q st) : OQk P ops k st Q := by
  have h := of_decide_eq_true h
  unfold OQk
  rw [List.drop_of_length_le (by simpa using h)]
  exact fun a w g hr Qc hc => hc st a g hq hr fun _ => Fr.refl _ _ _
theorem OQk.b (ho : ops[k]? = some o) (hw : wantS ops st o = some true) (hb : BStep P st o s) (hl : locOk o.dst s = true) (h : OQk P ops (k + 1) (st.put o.dst s) Q) : OQk P ops k st Q := by
  unfold OQk at h ⊢
  rw [drop_cons ho]
  intro a w g hr Qc hc
  unfold wpQuiet
  rw [wantS_sound hr hw, if_pos rfl]
  obtain ⟨v, e1, e2⟩ := hb a w g hr
  refine ⟨v, fun w' hw' => ?_, h _ w g (hr.putBV e1 hl) Qc hc⟩
  unfold Oper.quietAt
  rw [e2 w' hw'.2.1]
  exact ⟨rfl, rfl⟩
theorem OQk.steal {o : Oper} {steal : List Nat} {st' : St} (ho : ops[k]? = some o) (hw : wantS ops st o = some true) (hb : stealB steal st o = some st') (h : OQk P ops (k + 1) st' Q) : OQk P ops k st Q := by
  unfold stealB at hb
  split at hb
  · rename_i s hop
    split at hb
    · rename_i n xs hs
      split at hb
      · cases hb
        unfold OQk at h ⊢
        rw [drop_cons ho]
        intro a w g hr Qc hc
        unfold wpQuiet
        rw [wantS_sound hr hw, if_pos rfl]
        have hexec : ∀ w', (execOp a.eval o).run P w' = .ok (.value (valOf a s)) w' := fun w' => by unfold execOp; rw [hop]; rfl
        obtain ⟨g', r, f⟩ := hr.moveOwn (pu := true) P hop hs
        refine ⟨valOf a s, fun w' hw' => ?_, h _ w g' r Qc fun st' a' g2 q r2 f2 => hc st' a' g2 q r2 fun pu => Fr.trans ⟨f.1, f.2, f.3, f.4, fun _ => f.5 rfl, fun _ => f.6 rfl, fun _ => f.7 rfl, f.8⟩ (f2 pu)⟩
        unfold Oper.quietAt
        rw [hexec w']
        exact ⟨rfl, rfl⟩
      · cases hb
    · cases hb
  · cases hb
theorem OQk.skip (ho : ops[k]? = some o) (hw : wantS ops st o = some false) (h : OQk P ops (k + 1) (st.put o.dst (.tup [])) Q) : OQk P ops k st Q := by
  unfold OQk at h ⊢
  rw [drop_cons ho]
  intro a w g hr Qc hc
  unfold wpQuiet
  rw [wantS_sound hr hw, if_neg (by simp)]
  exact h _ w g (hr.putLight o.dst (v := undef) ⟨#[], rfl, rfl, by simp⟩) Qc hc
theorem OQk.seg {steal : List Nat} {st' : St} (n : Nat) (hr : runSegB P steal ops n k st = some st') (h : OQk P ops (k + n) st' Q) : OQk P ops k st Q := by
  induction n generalizing k st with
  | zero => cases hr; exact h
  | succ n ih =>
    simp only [runSegB] at hr
    split at hr
    · rename_i o ho
      split at hr
      · rename_i st1 h1
        have ih' := ih hr (by grind)
        unfold opStepB at h1
        split at h1
        · rename_i hw
          cases h1
          exact OQk.skip ho hw ih'
        · rename_i hw
          split at h1
          · rename_i st2 h2
            cases h1
            exact OQk.steal ho hw h2 ih'
          · split at h1
            · rename_i s hb
              split at h1
              · rename_i hl
                cases h1
                exact OQk.b ho hw (BStep.of_bop hb) hl ih'
              · cases h1
            · cases h1
        · cases h1
      · cases hr
    · cases hr
theorem OQk.keep (L : List Nat) (hst : keepR L st = some st') (h : OQk P ops k st' Q) : OQk P ops k st Q :=
  fun a w g hr => h a w g (hr.keepR hst)
theorem OQk.case (b : Bool) (S : Bool → St) (h0 : st = S b) (hT : b = true → OQk P ops k (S true) Q) (hF : b = false → OQk P ops k (S false) Q) : OQk P ops k st Q := by
  subst h0
  cases b
  · exact hF rfl
  · exact hT rfl
/-- A call as the callee gets it. -/
theorem callS_run (hrel : Rel st a w g) (hop : o.op = .call c) (hc : callS P st [] c = some kk) (hp : SC P true kk.f kk.args (st.H.mapIdx (lendObj kk.ls)) r H') :
    ∃ args, (execOp a.eval o).run P w = .ok (.enter kk.f args) w ∧ Calls P kk.f args w fun e w' => ∃ v g', e = .returned v ∧ RRes g' w' v r ∧ Fr true (g.ren (calleeOw kk.ls kk.gs)) w g' w' := by
  unfold callS at hc
  split at hc
  · rename_i f first caps hcallee
    · split at hc
      · rename_i ss ls gs hargs
        split at hc
        · rename_i hok
          cases hc
          rw [Bool.and_eq_true] at hok
          obtain ⟨hgive, hfn⟩ := hok
          have hgs := giveOk_spec hgive
          obtain ⟨vf, vc, hev, lf, lc, rf, rc⟩ := calleeS_sound hrel hcallee hfn
          obtain ⟨la, ra⟩ := argsS_sound hrel hgs hargs (fun _ h => h) (fun _ h => h)
          have hexec : (execOp a.eval o).run P w = .ok (.enter f (vf ++ c.args.map a.eval ++ vc)) w := by
            unfold execOp
            rw [hop]
            exact hev _ w
          refine ⟨_, hexec, ?_⟩
          have hRA : RArgs (g.ren (calleeOw ls gs)) w (vf ++ c.args.map a.eval ++ vc) (first.map .d ++ ss ++ caps.map .d) := by
            have hla : (c.args.map a.eval).size = ss.length := by rw [← la]; simp
            have hla' : c.args.size = ss.length := by rw [← la]; simp
            refine ⟨by simp [lf, lc, ← la], fun j s hj => ?_⟩
            have kp : ∀ {v : Value} {d : D}, Rd g w v d → Rd (g.ren (calleeOw ls gs)) w v d := fun hr => hr.keep (Keep.ren rfl) (fun _ _ h => h)
            by_cases j1 : j < first.length
            · rw [List.append_assoc, List.getElem?_append_left (by simpa using j1), List.getElem?_map] at hj
              simp only [Option.map_eq_some_iff] at hj
              obtain ⟨d, hd, rfl⟩ := hj
              obtain ⟨u, e1, e2⟩ := rf j d hd
              exact ⟨u, by grind, kp e2⟩
            · by_cases j2 : j < first.length + ss.length
              · grind
              · rw [List.getElem?_append_right (by simp; omega), List.getElem?_map] at hj
                simp only [Option.map_eq_some_iff, List.length_append, List.length_map] at hj
                obtain ⟨d, hd, rfl⟩ := hj
                obtain ⟨u, e1, e2⟩ := rc _ d hd
                refine ⟨u, ?_, kp e2⟩
                grind
          refine (hp w (g.ren (calleeOw ls gs)) _ hRA (hrel.hp.lend (ls := ls) (gs := gs))).mono fun e w' hh => ?_
          grind
        · cases hc
      · cases hc
  · cases hc
/-- What the caller had is left as it was. -/
theorem up_of_fr {g g' : Gh} {w w' : World} {ls : List Loc} (h : Fr true (g.ren (calleeOw ls [])) w g' w') : UpW w w' := by
  refine ⟨h.size, fun k o hk => ?_, h.os⟩
  have key : (g.ren (calleeOw ls [])).ow k = calleeOw ls [] (g.ow k) := rfl
  have hex : ∀ o', calleeOw ls [] o' = .free ∨ calleeOw ls [] o' = .out ∨ (∃ i, calleeOw ls [] o' = .obj i) ∨ ∃ i j, calleeOw ls [] o' = .lst (.hcell i j) := fun o' => by
    cases o' with
    | free => exact .inl rfl
    | out => exact .inr (.inl rfl)
    | box t => exact .inr (.inl rfl)
    | obj i => exact .inr (.inr (.inl ⟨i, rfl⟩))
    | lst l =>
      simp only [calleeOw]
      grind
  rcases hex (g.ow k) with e | e | ⟨i, e⟩ | ⟨i, j, e⟩
  · exact (h.free k o (key.trans e) hk).2
  · exact (h.out k o (key.trans e) hk).2
  · exact (h.obj rfl i k o (key.trans e) hk).2
  · exact (h.hcell rfl i j k o (key.trans e) hk).2
theorem OQk.call {o : Oper} {c : Call} {f : FuncId} {args : List SV} {ls : List Loc} {r : SV} {v : Value} {H' : List SObj} (ho : ops[k]? = some o) (hw : wantS ops st o = some true) (hop : o.op = .call c)
    (hc : callS P st [] c = some ⟨f, args, ls, []⟩) (hp : SC P true f args (st.H.mapIdx (lendObj ls)) r H') (hr : detS r = some v) (h : OQk P ops (k + 1) (st.put o.dst r) Q) : OQk P ops k st Q := by
  unfold OQk at h ⊢
  rw [drop_cons ho]
  intro a w g hrel Qc hq
  unfold wpQuiet
  rw [wantS_sound hrel hw, if_pos rfl]
  cases r with
  | d x =>
    -- the value reads as that in the world of now too: it is told by the data
    refine ⟨v, fun w' hw' => ?_, h _ w g (hrel.putLight o.dst (v := v) ?_) Qc hq⟩
    · obtain ⟨as, e1, e2⟩ := callS_run (hw'.rel hrel) hop hc hp
      unfold Oper.quietAt
      rw [e1]
      refine ⟨rfl, e2.mono fun e w'' hh => ?_⟩
      obtain ⟨v', g', rfl, hres, hf⟩ := hh
      have hrd : Rd g' w'' v' x := hres
      refine ⟨by rw [detV_rd hrd hr], ?_⟩
      have := up_of_fr hf
      exact ⟨Nat.le_trans hw'.1 this.1, fun k o hk => this.2.1 k o (hw'.2.1 k o hk), hw'.2.2.trans this.2.2⟩
    · exact det_rd hr
  | tup vs =>
    simp only [detS, Option.map_eq_some_iff] at hr
    obtain ⟨us, hr, rfl⟩ := hr
    obtain ⟨hl, hg⟩ := detTs_get hr
    refine ⟨.tuple us.toArray, fun w' hw' => ?_, h _ w g (hrel.put o.dst fun t _ _ => ?_) Qc hq⟩
    · obtain ⟨as, e1, e2⟩ := callS_run (hw'.rel hrel) hop hc hp
      unfold Oper.quietAt
      rw [e1]
      refine ⟨rfl, e2.mono fun e w'' hh => ?_⟩
      obtain ⟨v', g', rfl, hres, hf⟩ := hh
      obtain ⟨us', rfl, hl', hg'⟩ := hres
      refine ⟨?_, ?_⟩
      · congr 2
        apply Array.ext'
        apply List.ext_getElem?
        intro j
        by_cases hj : j < vs.length
        · obtain ⟨u, x, e1, e2, e3⟩ := hg j vs[j] (by simp [hj])
          obtain ⟨u', e4, e5⟩ := hg' j vs[j] (by simp [hj])
          rw [e2] at e5
          have hrd : Rd g' w'' u' x := e5
          have := detV_rd hrd e3
          grind
        grind
      · have := up_of_fr hf
        exact ⟨Nat.le_trans hw'.1 this.1, fun k o hk => this.2.1 k o (hw'.2.1 k o hk), hw'.2.2.trans this.2.2⟩
    · refine ⟨us.toArray, rfl, by simpa using hl, fun j s hj => ?_⟩
      obtain ⟨u, x, e1, rfl, e3⟩ := hg j s hj
      exact ⟨u, by simpa using e1, (det_rd e3 : Rd _ _ u x)⟩
  | _ => simp [detS] at hr
where
  det1_rd {g : Gh} {w : World} {u : Value} {d : D} (hd : detV1 d = some u) : Rd g w u d := by
    unfold detV1 at hd
    split at hd
    · cases hd
      exact .fn rfl rfl (fun _ => undef) (fun _ => undef) (by simp) (by simp) (by simp) (by simp)
    · exact rd_leafV hd
  det1_one {u : Value} {d : D} (hd : detV1 d = some u) : u.oneCell' = true := by
    cases d <;> simp only [detV1, leafV, Option.map_eq_some_iff, Option.some.injEq, reduceCtorEq] at hd
    all_goals first
      | (subst hd; rfl)
      | (obtain ⟨_, _, rfl⟩ := hd; rfl)
      | (split at hd <;> first | (cases hd; rfl) | (simp [leafV] at hd))
  dets_rd {g : Gh} {w : World} : ∀ {cs : List D} {vs : List Value}, detVs cs = some vs → vs.length = cs.length ∧ ∀ (j : Nat) (y : D), cs[j]? = some y → ∃ u, vs[j]? = some u ∧ Rd g w u y ∧ u.oneCell' = true
    | [], vs, h => by simp [detVs] at h; subst h; simp
    | d :: ds, vs, h => by
      simp only [detVs] at h
      split at h
      · rename_i v vs' h1 h2
        cases h
        obtain ⟨hl, hr⟩ := dets_rd (g := g) (w := w) h2
        refine ⟨by simp [hl], fun j y hj => ?_⟩
        cases j with
        | zero => simp at hj; subst hj; exact ⟨v, by simp, det1_rd h1, det1_one h1⟩
        | succ j => grind
      · cases h
  det_rd {g : Gh} {w : World} {u : Value} {d : D} (hd : detV d = some u) : Rd g w u d := by
    unfold detV at hd
    split at hd
    · simp only [Option.map_eq_some_iff] at hd
      obtain ⟨vs, h1, rfl⟩ := hd
      obtain ⟨hl, hr⟩ := dets_rd (g := g) (w := w) h1
      exact Rd.agg' (by simpa using hl) (fun j y hj => by simpa using hr j y hj)
    · exact det1_rd hd
theorem SW.regionQ {id : Nat} {l : List Oper} {Q : Exit → St → Prop} (hm : P.follows .mixedOrders = true) (hB : Region.lexB .any l.toArray = true) (h : OQk P l.toArray 0 st (Q .normal)) : SW P pu (.region id l.toArray true) st Q := by
  intro a w g hr
  refine wp_region_quiet (C := UpW w.drew) hm hB ⟨Nat.le_refl _, fun _ _ h => h, SameOs.refl _⟩ ?_
  unfold OQk at h
  rw [List.drop_zero] at h
  exact h a w.drew g hr.drew _ fun st' a' g' q r f w' hw' => ⟨st', g', q, hw'.rel r, (Fr.drew.trans (f pu)).trans (hw'.fr g')⟩
variable (n : Nat) (H : List SObj)
theorem OQk.sg (steal L : List Nat) (j : Nat) (l : List (Nat × SV)) (hr : (runSegB P steal ops j k st).bind (pickR n L) = some (l, H)) (h : OQk P ops (k + j) (sp n l H) Q) : OQk P ops k st Q := by
  have := bind_pick hr
  simp only [Option.bind_eq_some_iff] at this
  obtain ⟨st1, h1, h2⟩ := this
  exact OQk.seg j h1 (OQk.keep L h2 h)
theorem OQk.mg (L : List Nat) (j : Nat) (b : Bool) (S : Bool → St) (l : Bool → List (Nat × SV)) (h0 : st = S b) (hT : (runSegB P [] ops j k (S true)).bind (pickR n L) = some (l true, H)) (hF : (runSegB P [] ops j k (S false)).bind (pickR n L) = some (l false, H))
    (h : OQk P ops (k + j) (sp n (l b) H) Q) : OQk P ops k st Q := by
  subst h0
  exact OQk.sg n H [] L j (l b) (by cases b <;> assumption) h
theorem OQk.on (L : List Nat) (l : List (Nat × SV)) (hb : BAt P ops k st d s) (hst : pickR n L (st.put d s) = some (l, H)) (h : OQk P ops (k + 1) (sp n l H) Q) : OQk P ops k st Q := by
  obtain ⟨o, h1, h2, h3, h4, rfl⟩ := hb
  exact OQk.b h1 h2 h3 h4 (OQk.keep L (keepR_of_pick hst) h)
theorem OQk.cl (L : List Nat) (l : List (Nat × SV)) (hp : PC P f args r) (h : callAt P ops k st [] = some (d, f, args, ls, [])) (hr : (detS r).isSome = true)
    (hst : pickR n L (st.put d r) = some (l, H)) (hn : OQk P ops (k + 1) (sp n l H) Q) : OQk P ops k st Q := by
  unfold callAt at h
  split at h
  · rename_i o ho
    split at h
    · rename_i c hop
      split at h
      · rename_i cs hcs
        simp only [Option.some.injEq, Prod.mk.injEq] at h
        obtain ⟨rfl, rfl, rfl, rfl, h5⟩ := h
        obtain ⟨h1, h2⟩ := opAt_inv ho
        obtain ⟨v, hv⟩ := Option.isSome_iff_exists.1 hr
        refine OQk.call (ls := cs.ls) h1 h2 hop ?_ (hp _) hv (OQk.keep L (keepR_of_pick hst) hn)
        rw [hcs, ← h5]
      · cases h
    · cases h
  · cases h
end
end Go.Sh
namespace Go.Sh
section
variable {P : Program} {pu : Bool} {st : St} {ops : Array Oper} {k m : Nat} {Q : St → Prop}
/-- A number is known: the state with it. -/
theorem OQk.lit (S : Int → St) (h0 : st = S e) (hc : (e == j) = true) (h : OQk P ops k (S j) Q) : OQk P ops k st Q := by
  grind
theorem OWk.lit (S : Int → St) {e j : Int} (h0 : st = S e) (hc : (e == j) = true) (h : OWk P pu ops k (S j) Q) : OWk P pu ops k st Q := by
  subst h0
  rw [eq_of_beq hc]; exact h
theorem OBk.lit (S : Int → St) (h0 : st = S e) (hc : (e == j) = true) (h : OBk P ops m k (S j) Q) : OBk P ops m k st Q := by
  subst h0
  rw [eq_of_beq hc]; exact h
end
end Go.Sh
namespace Go.Sh
section
variable {P : Program} {pu : Bool} {st : St}
/-- Rounds of a loop, one by one. -/
def Rounds (P : Program) (pu : Bool) (c : Code) (Q : Exit → St → Prop) (n : Nat) (H : List SObj) (L : List Nat) : List (List (Nat × SV)) → Prop
  | [] => False
  | [l] => SW P pu c (sp n l H) (thenS (fun _ => False) Q)
  | l :: l' :: r => SW P pu c (sp n l H) (thenS (fun t => ∃ u : Unit, pickR n L t = some (l', H)) Q) ∧ Rounds P pu c Q n H L (l' :: r)
theorem SW.rounds {Q : Exit → St → Prop} (n : Nat) (H : List SObj) (L : List Nat) (l : List (Nat × SV)) (r : List (List (Nat × SV))) (h0 : pickR n L st = some (l, H)) (h : Rounds P pu c Q n H L (l :: r)) : SW P pu (.loop c) st Q := by
  refine SW.keep L (keepR_of_pick h0) ?_
  intro a w g hr
  refine wp_loop_ghost (x := (⟨(l, r), h⟩, g)) (fun (x : {p : List (Nat × SV) × List (List (Nat × SV)) // Rounds P pu c Q n H L (p.1 :: p.2)} × Gh) a' w' => Rel (sp n x.1.1.1 H) a' w' x.2 ∧ Fr pu g w x.2 w') (fun x => x.1.1.2.length) ⟨hr, Fr.refl _ _ _⟩ fun x a1 w1 ⟨r1, f1⟩ => ?_
  obtain ⟨⟨⟨l1, rr⟩, hx⟩, g1⟩ := x
  cases rr with
  | nil =>
    refine Code.wp_mono (fun e a' w' hh => ?_) ((hx : SW P pu c (sp n l1 H) _) a1 w1 g1 r1)
    obtain ⟨st', g', q, r2, f2⟩ := hh
    cases e with
    | normal => exact q.elim
    | _ => exact ⟨st', g', q, r2, f1.trans f2⟩
  | cons l2 rr =>
    refine Code.wp_mono (fun e a' w' hh => ?_) ((hx : _ ∧ _).1 a1 w1 g1 r1)
    obtain ⟨st', g', q, r2, f2⟩ := hh
    cases e with
    | normal => obtain ⟨_, q⟩ := q; exact ⟨(⟨(l2, rr), (hx : _ ∧ _).2⟩, g'), ⟨r2.keepR (keepR_of_pick q), f1.trans f2⟩, by simp⟩
    | _ => exact ⟨st', g', q, r2, f1.trans f2⟩
end
end Go.Sh
namespace Go.Sh
def boxDs : List SV → Option (List D)
  | [] => some []
  | .d (.agg _) :: _ => none
  | .d x :: r => (boxDs r).map (x :: ·)
  | _ => none
theorem boxDs_get : ∀ {cs : List SV} {ds : List D}, boxDs cs = some ds → ds.length = cs.length ∧ ∀ (i : Nat) (x : D), ds[i]? = some x → cs[i]? = some (.d x) ∧ x.cells = [x]
  | [], ds, h => by simp [boxDs] at h; subst h; simp
  | s :: r, ds, h => by
    have key : ∃ x ds', s = .d x ∧ x.cells = [x] ∧ boxDs r = some ds' ∧ ds = x :: ds' := by
      cases s with
      | d x =>
        cases x <;> simp only [boxDs, Option.map_eq_some_iff, reduceCtorEq] at h
        all_goals (obtain ⟨ds', h1, rfl⟩ := h; exact ⟨_, ds', rfl, rfl, h1, rfl⟩)
      | _ => simp [boxDs] at h
    obtain ⟨x, ds', rfl, hx, h1, rfl⟩ := key
    obtain ⟨hl, hg⟩ := boxDs_get h1
    refine ⟨by simp [hl], fun i y hi => ?_⟩
    cases i with
    | zero => simp at hi; subst hi; exact ⟨rfl, hx⟩
    | succ i => simpa using hg i y (by simpa using hi)
section
variable {P : Program} {pu : Bool} {st : St} {ops : Array Oper} {k : Nat} {Q : St → Prop}
theorem OpS.sliceBox (hop : o.op = .slice T (.tmp s) none none none) (hd : o.dst = some d) (hs : st.tmps[s]? = some (.box cs)) (hT : P.underlying T = some (.array n e)) (hn : n = cs.length) (hds : boxDs cs = some ds) (hi : (P.info? e).isSome = true) :
    OpS P pu st o ((st.take s).put (some d) (.d (.list 1 ds))) := by
  refine OpS.value fun a w g hr => ?_
  obtain ⟨bk, c, BT, hv, ho, hb, hsz, hc⟩ := hr.tmp s _ hs
  obtain ⟨dl, dg⟩ := boxDs_get hds
  have hlen : P.arrayLen T = n := by simp [Program.arrayLen, hT]
  have hel : P.elem T = e := by simp [Program.elem, hT]
  have hT' : P.underlying T = some (.array (P.arrayLen T) (P.elem T)) := by rw [hlen, hel]; exact hT
  let rn : Own → Own := fun o' => if o' = .box s then .free else o'
  have rnO : ∀ {o'}, o' ≠ .box s → rn o' = o' := fun h => by simp [rn, h]
  have hexec : (execOp a.eval o).run P w = .ok (.value (.slice (some ⟨bk, 0, none⟩) n n)) w := by
    have hx : a.eval (.tmp s) = .pointer (some ⟨bk, 0, none⟩) := hv
    unfold execOp
    rw [hop]
    simp only [Option.map_none, hx, Sem.run_bind]
    obtain ⟨inf, hinf⟩ := Option.isSome_iff_exists.1 hi
    rw [run_sliceAt_array_all (P := P) w T ⟨bk, 0, none⟩ hT']
    have hsz : (sizeOf (P.elem T)).run P w = .ok inf.size w := by simp [sizeOf, typeInfo, hel, hinf]
    rw [hsz]
    simp [slicedAt, hlen, Addr.add_lit]
  refine ⟨_, w, g.ren rn, hexec, ?_, Nat.le_refl _, Keep.ren (rnO (by simp)), Keep.ren (rnO (by simp)), fun _ _ h => h, fun _ i => Keep.ren (rnO (by simp)), fun _ i j => Keep.ren (rnO (by simp)), fun _ => rfl, ⟨rfl, rfl⟩⟩
  rw [hd]
  refine Rel.step hr (by rw [put_size, St.put_len, St.take_len]; exact hr.len) (by rw [put_defers]; exact hr.def0) (fun _ _ h => h) (fun t s' hs' => ?_) ?_
  · by_cases ht : t = d
    · subst ht
      obtain ⟨rfl, hlt⟩ := St.put_get_same hs'
      refine .inr (.inl ?_)
      rw [valOf_put_same (by rw [hr.len]; simpa using hlt)]
      refine (Rd.list (g := g.ren rn) (w := w) (k := bk) (off := 0) (len := n) (cap := n) (n := 1) (xs := ds) (c := c) (T := BT) (fz := (0, 0)) (fun i _ => c[i]?.getD undef) (by simp [Gh.ren, ho, rn]) hb (by omega) (Nat.le_refl _) (fun i x hx => ?_) (fun i x hx j y hy => ?_) (fun i x hx j y hy => ?_) : Rd _ _ _ _)
      · rw [(dg i x hx).2]; rfl
      · rw [(dg i x hx).2] at hy
        have hj : j = 0 := by cases j <;> simp at hy ⊢
        subst hj
        obtain ⟨u, e1, e2, e3⟩ := hc i _ (dg i x hx).1
        simp only [Nat.mul_one, Nat.zero_add, Nat.add_zero, e1, Option.getD_some]
        exact ⟨trivial, e3⟩
      · rw [(dg i x hx).2] at hy
        have hj : j = 0 := by cases j <;> simp at hy ⊢
        subst hj
        simp at hy
        subst hy
        obtain ⟨u, e1, e2, e3⟩ := hc i _ (dg i x hx).1
        simp only [e1, Option.getD_some]
        exact Rd.keep (Keep.ren (rnO (by simp))) (fun _ _ h => h) (e2 : Rd g w u x)
    · rcases other_slot hr (st1 := st.take s) (.slice (some ⟨bk, 0, none⟩) n n) (fun t s h => (St.take_get h).imp id fun h => h.1) (fun t s x h s1 e hx hb => St.take_box h s1 e hx hb) (by simpa using Ne.symm ht) hs' with h | ⟨h1, h2, h3, h4, h5⟩
      · exact .inl h
      · rcases St.take_get h1 with h | ⟨-, h6, h7⟩
        · exact .inl h
        · exact .inr (.inr ⟨h2, h3, fun o' ho' => Keep.ren (rnO (uses_mention h6 h7 ho').1), h5⟩)
  · rw [St.put_H, St.take_H]
    exact RH.keep (g := g) (w := w) (fun o' ho' => Keep.ren (rnO fun e => by subst e; exact ho'.elim)) (fun _ _ h => h) rfl hr.hp
/-- A local array of single cells, taken whole. -/
def slBoxAt (P : Program) (ops : Array Oper) (k : Nat) (st : St) : Option (Nat × Nat × List D) :=
  match opAt ops k st with
  | some o => match o.op, o.dst with
    | .slice T (.tmp s) none none none, some d => match st.tmps[s]?, P.underlying T with
      | some (.box cs), some (.array n e) => match boxDs cs with
        | some ds => if n == cs.length && (P.info? e).isSome then some (s, d, ds) else none
        | none => none
      | _, _ => none
    | _, _ => none
  | none => none
theorem OWk.slb (n : Nat) (H : List SObj) (L : List Nat) (l : List (Nat × SV)) (h : slBoxAt P ops k st = some (s, d, ds)) (hst : pickR n L ((st.take s).put (some d) (.d (.list 1 ds))) = some (l, H)) (hn : OWk P pu ops (k + 1) (sp n l H) Q) : OWk P pu ops k st Q := by
  unfold slBoxAt at h
  split at h
  · rename_i o ho
    split at h
    · rename_i T s' d' hop hd
      split at h
      · rename_i cs n' e hs hT
        split at h
        · rename_i ds' hds
          split at h
          · rename_i hc
            simp only [Bool.and_eq_true, beq_iff_eq] at hc
            simp only [Option.some.injEq, Prod.mk.injEq] at h
            obtain ⟨rfl, rfl, rfl⟩ := h
            obtain ⟨h1, h2⟩ := opAt_inv ho
            exact OWk.e h1 h2 (OpS.sliceBox hop hd hs hT hc.1 hds hc.2) (OWk.keep L (keepR_of_pick hst) hn)
          · cases h
        · cases h
      · cases h
    · cases h
  · cases h
end
end Go.Sh
namespace Go.Sh
section
variable {P : Program} {pu : Bool} {st : St} {ops : Array Oper} {k : Nat} {Q : St → Prop}
/-- '[]byte(s)': a new row, for good. -/
theorem OpS.toBytes (hop : o.op = .convert src dst x) (hx : valD st x = some (.str l)) (hs : P.underlying src = some u) (hd : P.underlying dst = some (.slice e)) (he : P.underlying e = some (.int .u8)) :
    OpS P pu st o (st.put o.dst (.d (.list 1 (byteDs l)))) := by
  refine OpS.value fun a w g hr => ?_
  have hex : a.eval x = .string (mk l) := valD_leaf hr hx rfl
  have hexec : (execOp a.eval o).run P w = .ok (.value (.slice (some ⟨w.heap.size, 0, none⟩) (mk l).size (grownCap w (mk l).size 0 e))) (Lib.bytesWorld w e (mk l)) := by
    unfold execOp
    rw [hop]
    simp only [hex]
    exact run_v2 _ (Lib.run_convert_string_bytes w src dst e (mk l) hs hd he)
  have hlt : ∀ {k : Nat} {b : Obj}, w.heap[k]? = some b → k < w.heap.size := fun h => by
    rcases Nat.lt_or_ge _ w.heap.size with h' | h'
    · exact h'
    · simp [Array.getElem?_eq_none h'] at h
  have hkeep : ∀ o', Keep o' g w (g.upd w.heap.size .free) (Lib.bytesWorld w e (mk l)) := fun o' k b h1 h2 => by
    have := hlt h2
    exact ⟨by rw [Gh.upd_other _ _ (by omega)]; exact h1, by rw [Lib.bytesWorld_at_old w e _ k this]; exact h2⟩
  refine ⟨_, _, g.upd w.heap.size .free, hexec, Rel.putLight (hr.world (fun o' => hkeep o') (fun _ _ h => h) rfl) o.dst ?_, ⟨by rw [Lib.bytesWorld_size]; omega, hkeep _, hkeep _, fun _ _ h => h, fun _ i => hkeep _, fun _ i j => hkeep _, fun _ => rfl, ⟨rfl, rfl⟩⟩⟩
  show Rd _ _ _ (.list 1 (byteDs l))
  have hb := Lib.bytesWorld_at_new w e (mk l)
  have hcell : ∀ (i : Nat) (y : D), (byteDs l)[i]? = some y → ∃ b : UInt8, y = .int .u8 b.toNat ∧ l[i]? = some b := fun i y hy => by
    simp only [byteDs, List.getElem?_map, Option.map_eq_some_iff] at hy
    obtain ⟨b, h1, h2⟩ := hy
    exact ⟨b, h2.symm, h1⟩
  refine Rd.list (k := w.heap.size) (off := 0) (n := 1) (xs := byteDs l) (fun i _ => .int .u8 ((l.getD i 0).toNat)) (by simp) hb (by simp [byteDs, mk_size]) (by have := grownCap_ge w (mk l).size 0 e; omega) (fun i y hy => ?_) (fun i y hy j z hz => ?_) (fun i y hy j z hz => ?_)
  · obtain ⟨b, rfl, -⟩ := hcell i y hy; rfl
  · obtain ⟨b, rfl, h1⟩ := hcell i y hy
    have hj : j = 0 := by cases j <;> simp [D.cells] at hz ⊢
    subst hj
    refine ⟨?_, rfl⟩
    have hi : i < l.length := by
      rcases Nat.lt_or_ge i l.length with h' | h'
      · exact h'
      · simp [List.getElem?_eq_none h'] at h1
    have hm : (mk l).data = ⟨l⟩ := rfl
    simp only [Lib.bytesCells, Nat.zero_add, Nat.mul_one, Nat.add_zero]
    rw [Array.getElem?_append_left (by simpa [hm] using hi)]
    simp [hm, h1, List.getD_eq_getElem?_getD]
  · obtain ⟨b, rfl, h1⟩ := hcell i y hy
    have hj : j = 0 := by cases j <;> simp [D.cells] at hz ⊢
    subst hj
    simp only [D.cells, List.getElem?_cons_zero, Option.some.injEq] at hz
    subst hz
    simp only [List.getD_eq_getElem?_getD, h1, Option.getD_some]
    exact .int
def toBytesAt (P : Program) (ops : Array Oper) (k : Nat) (st : St) : Option (Option Tmp × List UInt8) :=
  match opAt ops k st with
  | some o => match o.op with
    | .convert src dst x => match valD st x, P.underlying src, P.underlying dst with
      | some (.str l), some u, some (.slice e) => match P.underlying e with
        | some (.int .u8) => some (o.dst, l)
        | _ => none
      | _, _, _ => none
    | _ => none
  | none => none
theorem OWk.tb (n : Nat) (H : List SObj) (L : List Nat) (l : List (Nat × SV)) (h : toBytesAt P ops k st = some (d, s)) (hst : pickR n L (st.put d (.d (.list 1 ((nums s).map (D.int .u8))))) = some (l, H)) (hn : OWk P pu ops (k + 1) (sp n l H) Q) : OWk P pu ops k st Q := by
  rw [← byteDs_nums] at hst
  unfold toBytesAt at h
  split at h
  · rename_i o ho
    split at h
    · rename_i src dst x hop
      split at h
      · rename_i l' u e hx hs hd
        split at h
        · rename_i he
          simp only [Option.some.injEq, Prod.mk.injEq] at h
          obtain ⟨rfl, rfl⟩ := h
          obtain ⟨h1, h2⟩ := opAt_inv ho
          exact OWk.e h1 h2 (OpS.toBytes hop hx hs hd he) (OWk.keep L (keepR_of_pick hst) hn)
        · cases h
      · cases h
    · cases h
  · cases h
end
end Go.Sh
namespace Go.Sh
/-- Only the way on. -/
def NQ (R : Act → World → Prop) : Exit → Act → World → Prop := fun e a w => e = .normal ∧ R a w
theorem NQ.out {R : Act → World → Prop} : ¬ LetsOut (NQ R) := fun ⟨_, _, h, _⟩ => by cases h
section
variable {P : Program} {ops : Array Oper} {md : Region.Mode} {R : Act → World → Prop}
theorem defers_put (a : Act) (ds : List Deferred) (d : Option Tmp) (v : Value) : ({ a.put d v with defers := ds } : Act) = ({ a with defers := ds } : Act).put d v := by cases d <;> rfl
theorem put_defers' (a : Act) (d : Option Tmp) (v : Value) : (a.put d v).defers = a.defers := by cases d <;> rfl
theorem eval_defers (a : Act) (ds : List Deferred) (x : Operand) : ({ a with defers := ds } : Act).eval x = a.eval x := by cases x <;> rfl
theorem wpOp_put {j : Nat} {oi oj : Oper} {x : Operand} {v : Value} (hj : ops[j]? = some oj) (hop : oi.op = .move x) (hap : oi.apart ops oj = true) (hsj : ∀ cs b, oj.op ≠ .select cs b) {K : Act → World → Prop} {a : Act} {w : World}
    (hv : a.eval x = v) (h : wpOp P ops (NQ R) j K (a.put oi.dst v) w) : wpOp P ops (NQ R) j (fun a' w' => a'.eval x = v ∧ K (a'.put oi.dst v) w') a w := by
  obtain ⟨h1, h2, h3⟩ := Oper.apart_spec hap
  have keep : ∀ u, (a.put oj.dst u).eval x = v := fun u => by
    rw [Act.eval_put fun d hd e => h3 d hd ?_]
    · exact hv
    · subst e
      exact List.mem_append_left _ (List.mem_filterMap.2 ⟨.tmp d, by simp [hop, Op.operands], rfl⟩)
  have keep' : ∀ u ds, (({ a with defers := ds } : Act).put oj.dst u).eval x = v := fun u ds => by
    rw [← defers_put, eval_defers]; exact keep u
  unfold wpOp at *
  simp only [hj] at *
  rw [wanted_put oj a oi.dst v h1] at h
  split
  · rename_i hw
    simp only [hw, if_true] at h
    refine .inl ?_
    rcases h with h | h
    · unfold Oper.wp at *
      rw [execOp_put oj hsj a oi.dst v h1] at h
      generalize (execOp a.eval oj).run P w = r at *
      cases r with
      | ok n w' =>
        cases n <;> simp only [Oper.upon] at h ⊢
        case value u => exact ⟨keep u, by rw [← Act.put_comm a v u h2]; exact h⟩
        case skip => exact ⟨keep _, by rw [← Act.put_comm a v undef h2]; exact h⟩
        case defer d =>
          refine ⟨keep' _ _, ?_⟩
          rw [put_defers', defers_put] at h
          rw [← Act.put_comm _ v undef h2]; exact h
        case enter f args =>
          refine h.mono fun e w'' hh => ?_
          cases e with
          | returned u => exact ⟨keep u, by rw [← Act.put_comm a v u h2]; exact hh⟩
          | panicked chain => exact absurd hh.1 (by simp)
          | outgrown => exact absurd hh NQ.out
        case row row args => exact h.mono fun u w'' hh => ⟨keep u, by rw [← Act.put_comm a v u h2]; exact hh⟩
      | halt y w' =>
        cases y <;> simp only [Oper.upon] at h ⊢
        exact absurd h.1 (by simp)
    · exact absurd h.2 NQ.out
  · rename_i hw
    simp only [hw] at h
    exact ⟨keep _, by rw [← Act.put_comm a v undef h2]; exact h⟩
/-- **A MOVE MAY BE TAKEN FIRST.** -/
theorem wpAny_move {i : Nat} {oi : Oper} {x : Operand} (hi : ops[i]? = some oi) (hop : oi.op = .move x) (hg : oi.guard = none) (hsel : ∀ (j : Nat) (o : Oper) cs b, ops[j]? = some o → o.op ≠ .select cs b) :
    ∀ (fuel : Nat) (listed : Array Bool) (a : Act) (w : World),
      (∀ j oj, ops[j]? = some oj → j ≠ i → listed.getD j true = false → (∀ e ∈ oj.after, Region.binds md e = true → e.on ≠ i) → oi.apart ops oj = true) →
      i ∈ Region.ready md ops listed →
      wpAny P md ops (NQ R) fuel (listed.setIfInBounds i true) (a.put oi.dst (a.eval x)) w → wpAny P md ops (NQ R) (fuel + 1) listed a w := by
  have one : ∀ (K : Act → World → Prop) (a : Act) (w : World), K (a.put oi.dst (a.eval x)) w → wpOp P ops (NQ R) i K a w := fun K a w h => by
    unfold wpOp
    simp only [hi]
    have hw : Region.wanted oi (yielded ops a.tmps) = true := by unfold Region.wanted; rw [hg]
    rw [if_pos hw]
    refine .inl ?_
    unfold Oper.wp
    have : (execOp a.eval oi).run P w = .ok (.value (a.eval x)) w := by unfold execOp; rw [hop]; rfl
    rw [this, Oper.upon_value]
    exact h
  intro fuel
  induction fuel with
  | zero =>
    intro listed a w _ hr H
    refine ⟨fun h => (by rw [h] at hr; cases hr), fun j hj => ?_⟩
    by_cases hji : j = i
    · subst hji; exact one _ a w H
    · have := ready_mono hj hji
      rw [H.1] at this
      cases this
  | succ fuel ih =>
    intro listed a w hfree hr H
    refine ⟨fun h => (by rw [h] at hr; cases hr), fun j hj => ?_⟩
    by_cases hji : j = i
    · subst hji; exact one _ a w H
    · have h1 := H.2 j (ready_mono hj hji)
      obtain ⟨hjun, oj, hoj, hall⟩ := mem_ready.1 hj
      have hnot : ∀ e ∈ oj.after, Region.binds md e = true → e.on ≠ i := fun e he hb heq => by
        have h1 := hall e he hb
        have h0 := (mem_ready.1 hr).1
        rw [heq] at h1
        rcases Nat.lt_or_ge i listed.size with h' | h'
        · simp [h'] at h0 h1; rw [h0] at h1; cases h1
        · simp [Array.getElem?_eq_none h'] at h1
      have h2 := wpOp_put hoj hop (hfree j oj hoj hji hjun hnot) (fun cs b => hsel j oj cs b hoj) rfl h1
      have hfree' : ∀ k ok, ops[k]? = some ok → k ≠ i → (listed.setIfInBounds j true).getD k true = false →
          (∀ e ∈ ok.after, Region.binds md e = true → e.on ≠ i) → oi.apart ops ok = true := fun k ok hk hki hun hno => by
        refine hfree k ok hk hki ?_ hno
        by_cases hjk : j = k
        · subst hjk; exact hjun
        · rw [getD_set_ne true hjk] at hun; exact hun
      refine wpOp_mono (fun a' w' h3 => ih (listed.setIfInBounds j true) a' w' hfree' (ready_mono hr (Ne.symm hji)) ?_) h2
      obtain ⟨h3, h4⟩ := h3
      rw [Array.setIfInBounds_comm _ _ hji, h3]
      exact h4
end
end Go.Sh
namespace Go.Sh
section
variable {P : Program} {ops : Array Oper} {md : Region.Mode} {w : World} {hds : List Nat} {t0 : Nat} {ts : List Nat}
def sinkH (md : Region.Mode) (ops : Array Oper) (hds : List Nat) (t0 : Nat) : Bool :=
  hds.all fun i => (hds.any fun j => decide (i < j) && Region.waitsFor md ops j i) || Region.waitsFor md ops t0 i
def chainH (md : Region.Mode) (ops : Array Oper) : Nat → List Nat → Bool
  | _, [] => true
  | t, t' :: ts => Region.waitsFor md ops t' t && chainH md ops t' ts
theorem chainH_pred : ∀ {ts : List Nat} {t0 t : Nat}, chainH md ops t0 ts = true → t ∈ ts → ∃ t', t' ∈ t0 :: ts ∧ Region.waitsFor md ops t t' = true
  | [], _, _, _, h => by simp at h
  | a :: ts, t0, t, hc, h => by
    simp only [chainH, Bool.and_eq_true] at hc
    rcases List.mem_cons.1 h with rfl | h
    · exact ⟨t0, by simp, hc.1⟩
    · obtain ⟨t', h1, h2⟩ := chainH_pred hc.2 h
      exact ⟨t', List.mem_cons_of_mem _ h1, h2⟩
/-- All is listed but heads and the tail; what is listed has all that it waited for. -/
structure HInv (md : Region.Mode) (ops : Array Oper) (hds : List Nat) (t0 : Nat) (ts : List Nat) (listed : Array Bool) : Prop where
  size : listed.size = ops.size
  closed : ∀ j oj, ops[j]? = some oj → listed.getD j false = true → ∀ e ∈ oj.after, Region.binds md e = true → listed.getD e.on false = true
  tail : ∀ t, t ∈ t0 :: ts → listed.getD t true = false
  rest : ∀ i, i < ops.size → i ∉ hds → i ∉ t0 :: ts → listed.getD i false = true
theorem HInv.set (inv : HInv md ops hds t0 ts listed) (hi : i ∈ Region.ready md ops listed) (hin : i ∉ t0 :: ts) : HInv md ops hds t0 ts (listed.setIfInBounds i true) := by
  obtain ⟨_, oi, hoi, hall⟩ := mem_ready.1 hi
  refine ⟨by simp [inv.size], fun j oj hj hl e he hb => ?_, fun t ht => ?_, fun k hk h1 h2 => getD_set_true (inv.rest k hk h1 h2)⟩
  · by_cases hij : i = j
    · subst hij
      have : oj = oi := Option.some.inj (hj.symm.trans hoi)
      subst this
      exact getD_set_true (hall e he hb)
    · rw [getD_set_ne false hij] at hl
      exact getD_set_true (inv.closed j oj hj hl e he hb)
  · rw [getD_set_ne true (fun (e : i = t) => hin (by rw [e]; exact ht))]; exact inv.tail t ht
theorem tail_waitsH (hs : sinkH md ops hds t0 = true) (hc : chainH md ops t0 ts = true) (inv : HInv md ops hds t0 ts listed) :
    ∀ (d i : Nat), ops.size - i = d → i ∈ hds → listed.getD i true = false → ∀ t, t ∈ t0 :: ts → t ∉ Region.ready md ops listed := by
  intro d
  induction d using Nat.strongRecOn with
  | _ d ih =>
    intro i hd hi hun t ht hr
    obtain ⟨_, ot, hot, hall⟩ := mem_ready.1 hr
    have block : ∀ k, listed.getD k true = false → Region.waitsFor md ops t k = true → False := fun k hk hw => by
      obtain ⟨o', ho', e, he, hb, hon⟩ := Region.waitsFor_spec hw
      have : o' = ot := Option.some.inj (ho'.symm.trans hot)
      subst this
      have h2 := hall e he hb
      rw [hon, getD_both hk] at h2
      cases h2
    rcases List.mem_cons.1 ht with rfl | ht'
    · have h1 := List.all_eq_true.1 hs i hi
      rw [Bool.or_eq_true] at h1
      rcases h1 with h1 | h1
      · obtain ⟨j, hj, hj2⟩ := List.any_eq_true.1 h1
        simp only [Bool.and_eq_true, decide_eq_true_eq] at hj2
        obtain ⟨oj, hoj, e, he, hb, hon⟩ := Region.waitsFor_spec hj2.2
        have hjs : j < ops.size := (Array.getElem?_eq_some_iff.1 hoj).1
        cases hl : listed.getD j false with
        | true =>
          have h2 := inv.closed j oj hoj hl e he hb
          rw [hon, getD_both hun] at h2
          cases h2
        | false => exact ih (ops.size - j) (by omega) j rfl hj (getD_in (by rw [inv.size]; exact hjs) hl) t ht hr
      · exact block i hun h1
    · obtain ⟨t', h1, h2⟩ := chainH_pred hc ht'
      exact block t' (inv.tail t' h1) h2
theorem ready_head (hs : sinkH md ops hds t0 = true) (hc : chainH md ops t0 ts = true) (inv : HInv md ops hds t0 ts listed) (hi : i ∈ hds) (hun : listed.getD i true = false) (hj : j ∈ Region.ready md ops listed) :
    j ∈ hds ∧ j ∉ t0 :: ts := by
  have h1 : j ∉ t0 :: ts := fun h => tail_waitsH hs hc inv _ i rfl hi hun j h hj
  refine ⟨Classical.byContradiction fun h2 => ?_, h1⟩
  obtain ⟨h3, o, ho, -⟩ := mem_ready.1 hj
  have := inv.rest j (Array.getElem?_eq_some_iff.1 ho).1 h2 h1
  rw [getD_both h3] at this
  cases this
def wpAnyH (P : Program) (md : Region.Mode) (ops : Array Oper) (w : World) (hds : List Nat) (L : Array Bool → Act → Prop) : Nat → Array Bool → Act → Prop
  | 0, listed, a => L listed a
  | f + 1, listed, a => Region.ready md ops listed ≠ [] ∧ ∀ i ∈ Region.ready md ops listed, i ∈ hds ∧ stOp P ops w i (wpAnyH P md ops w hds L f (listed.setIfInBounds i true)) a
theorem wpAny_of_headH {L : Array Bool → Act → Prop} {Q' : Exit → Act → World → Prop} (hL : ∀ listed a, L listed a → wpAny P md ops Q' g listed a w) :
    ∀ (f : Nat) (listed : Array Bool) (a : Act), wpAnyH P md ops w hds L f listed a → wpAny P md ops Q' (f + g) listed a w
  | 0, listed, a, h => by rw [Nat.zero_add]; exact hL _ _ h
  | f + 1, listed, a, h => by
    rw [show f + 1 + g = (f + g) + 1 by omega]
    exact ⟨fun h0 => absurd h0 h.1, fun i hi => wpOp_of_stOp (fun a' h' => wpAny_of_headH hL f _ a' h') (h.2 i hi).2⟩
theorem wpAnyH_first {L : Array Bool → Act → Prop} (hi : ops[i]? = some oi) (hsel : ∀ (j : Nat) (o : Oper) cs b, ops[j]? = some o → o.op ≠ .select cs b)
    (hs : sinkH md ops hds t0 = true) (hc : chainH md ops t0 ts = true) (hin : i ∈ hds) (hdone : ∀ listed a, L listed a → ∀ j ∈ Region.ready md ops listed, j ∈ t0 :: ts) :
    ∀ (f : Nat) (listed : Array Bool) (a : Act), HInv md ops hds t0 ts listed →
      (∀ j oj, ops[j]? = some oj → j ≠ i → listed.getD j true = false → (∀ e ∈ oj.after, Region.binds md e = true → e.on ≠ i) → oi.apart ops oj = true) →
      i ∈ Region.ready md ops listed → YieldsAt P ops w oi v a →
      wpAnyH P md ops w hds L f (listed.setIfInBounds i true) (a.put oi.dst v) → wpAnyH P md ops w hds L (f + 1) listed a := by
  intro f
  induction f with
  | zero =>
    intro listed a inv _ hr hy H
    have hun := (mem_ready.1 hr).1
    refine ⟨fun h => (by rw [h] at hr; cases hr), fun j hj => ?_⟩
    obtain ⟨hjh, hjt⟩ := ready_head hs hc inv hin hun hj
    refine ⟨hjh, ?_⟩
    by_cases hji : j = i
    · subst hji; exact hy.stOp hi H
    · exact absurd (hdone _ _ H j (ready_mono hj hji)) hjt
  | succ f ih =>
    intro listed a inv hfree hr hy H
    have hun := (mem_ready.1 hr).1
    refine ⟨fun h => (by rw [h] at hr; cases hr), fun j hj => ?_⟩
    obtain ⟨hjh, hjt⟩ := ready_head hs hc inv hin hun hj
    refine ⟨hjh, ?_⟩
    by_cases hji : j = i
    · subst hji; exact hy.stOp hi H
    · have h1 := (H.2 j (ready_mono hj hji)).2
      obtain ⟨hjun, oj, hoj, hall⟩ := mem_ready.1 hj
      have hnot : ∀ e ∈ oj.after, Region.binds md e = true → e.on ≠ i := fun e he hb heq => by
        have h1 := hall e he hb
        rw [heq, getD_both hun] at h1
        cases h1
      have h2 := stOp_put hoj (hfree j oj hoj hji hjun hnot) (fun cs b => hsel i oi cs b hi) (fun cs b => hsel j oj cs b hoj) hy h1
      have hfree' : ∀ k ok, ops[k]? = some ok → k ≠ i → (listed.setIfInBounds j true).getD k true = false →
          (∀ e ∈ ok.after, Region.binds md e = true → e.on ≠ i) → oi.apart ops ok = true := fun k ok hk hki hun hno => by
        refine hfree k ok hk hki ?_ hno
        by_cases hjk : j = k
        · subst hjk; exact hjun
        · rw [getD_set_ne true hjk] at hun; exact hun
      refine stOp_mono (fun a' h3 => ih (listed.setIfInBounds j true) a' (inv.set hj hjt) hfree' (ready_mono hr (Ne.symm hji)) h3.1 ?_) h2
      rw [Array.setIfInBounds_comm _ _ hji]
      exact h3.2
def opsOf (ops : Array Oper) (is : List Nat) : List Oper := is.filterMap (ops[·]?)
def seqH (md : Region.Mode) (ops : Array Oper) : List Nat → Array Bool → Bool
  | [], listed => (Region.ready md ops listed).isEmpty
  | t :: ts, listed => decide (Region.ready md ops listed = [t]) && seqH md ops ts (listed.setIfInBounds t true)
theorem wpAny_of_seqH {Q' : Exit → Act → World → Prop} : ∀ (ts : List Nat) (listed : Array Bool) (a : Act) (w : World), seqH md ops ts listed = true → wpList P ops Q' (opsOf ops ts) a w → wpAny P md ops Q' ts.length listed a w
  | [], listed, a, w, hB, h => ⟨by simpa [seqH] using hB, h⟩
  | t :: ts, listed, a, w, hB, h => by
    simp only [seqH, Bool.and_eq_true, decide_eq_true_eq] at hB
    refine ⟨fun h1 => (by rw [hB.1] at h1; cases h1), fun i hi => ?_⟩
    have hmem := hi
    rw [hB.1] at hi
    have hik : i = t := by simpa using hi
    subst hik
    obtain ⟨-, o, ho, -⟩ := mem_ready.1 hmem
    have hl : opsOf ops (i :: ts) = o :: opsOf ops ts := by simp [opsOf, ho]
    rw [hl] at h
    have hw : wpOp P ops Q' i (wpList P ops Q' (opsOf ops ts)) a w := by unfold wpOp; simp only [ho]; exact h
    exact wpOp_mono (fun a' w' h' => wpAny_of_seqH ts _ a' w' hB.2 h') hw
def lexHeadH (md : Region.Mode) (ops : Array Oper) (tl : List Nat) : List Nat → Array Bool → Bool
  | [], listed => seqH md ops tl listed
  | k :: ks, listed => (Region.ready md ops listed).contains k && Region.free md ops listed k && lexHeadH md ops tl ks (listed.setIfInBounds k true)
theorem seqH_ready {ts : List Nat} (h : seqH md ops (t :: ts) listed = true) : ∀ j ∈ Region.ready md ops listed, j ∈ t :: ts := by
  intro j hj
  simp only [seqH, Bool.and_eq_true, decide_eq_true_eq] at h
  rw [h.1] at hj
  simp at hj
  simp [hj]
theorem wpAnyH_lex {Lq : Act → Prop} (hsel : Region.noSelect ops = true) (hs : sinkH md ops hds t0 = true) (hc : chainH md ops t0 ts = true) (hd : ∀ i ∈ hds, i ∉ t0 :: ts) :
    ∀ (ks : List Nat) (listed : Array Bool) (a : Act), (∀ i ∈ ks, i ∈ hds) → HInv md ops hds t0 ts listed → lexHeadH md ops (t0 :: ts) ks listed = true → wpStill P ops w Lq (opsOf ops ks) a →
    wpAnyH P md ops w hds (fun listed' a' => seqH md ops (t0 :: ts) listed' = true ∧ Lq a') ks.length listed a
  | [], listed, a, _, _, hB, h => ⟨by simpa [lexHeadH] using hB, h⟩
  | k :: ks, listed, a, hk, inv, hB, h => by
    simp only [lexHeadH, Bool.and_eq_true] at hB
    obtain ⟨⟨hr, hf⟩, hB'⟩ := hB
    have hr' : k ∈ Region.ready md ops listed := by simpa using hr
    obtain ⟨-, o, ho, -⟩ := mem_ready.1 hr'
    have hl : opsOf ops (k :: ks) = o :: opsOf ops ks := by simp [opsOf, ho]
    rw [hl] at h
    have hst : stOp P ops w k (wpStill P ops w Lq (opsOf ops ks)) a := by unfold stOp; simp only [ho]; exact h
    obtain ⟨v, hy, hK⟩ := yieldsAt_of_stOp ho hst
    have hkh := hk k (by simp)
    exact wpAnyH_first ho (Region.noSelect_spec hsel) hs hc hkh (fun listed' a' hL => seqH_ready hL.1) ks.length listed a inv (Region.free_spec ho hf) hr' hy
      (wpAnyH_lex hsel hs hc hd ks _ _ (fun i hi => hk i (by simp [hi])) (inv.set hr' (hd k hkh)) hB' hK)
end
end Go.Sh
namespace Go.Sh
section
variable {P : Program} {pu : Bool} {st : St}
theorem wanted_ng (h : o.guard = none) (f : Nat → Option Bool) : Region.wanted o f = true := by unfold Region.wanted; rw [h]
theorem wpStill_ng {ops : Array Oper} {w : World} {Q : Act → Prop} : ∀ {l : List Oper} {a : Act}, (∀ o ∈ l, o.guard = none) → wpStill P ops' w Q l a → wpStill P ops w Q l a
  | [], _, _, h => h
  | o :: l, a, hg, h => by
    unfold wpStill at h ⊢
    rw [if_pos (wanted_ng (hg o (by simp)) _)] at h ⊢
    exact Oper.still_mono (fun a' h' => wpStill_ng (fun o ho => hg o (by simp [ho])) h') h
theorem wpList_ng {ops : Array Oper} {Q : Exit → Act → World → Prop} : ∀ {l : List Oper} {a : Act} {w : World}, (∀ o ∈ l, o.guard = none) → wpList P ops' Q l a w → wpList P ops Q l a w
  | [], _, _, _, h => h
  | o :: l, a, w, hg, h => by
    unfold wpList at h ⊢
    rw [if_pos (wanted_ng (hg o (by simp)) _)] at h ⊢
    exact h.imp (Oper.wp_mono fun a' w' h' => wpList_ng (fun o ho => hg o (by simp [ho])) h') id
/-- The operations in another order: a move, the readers, the chain. -/
def permOps (ops : Array Oper) (m : Nat) (hds : List Nat) (t0 : Nat) (ts : List Nat) : Array Oper := (opsOf ops (m :: hds) ++ opsOf ops (t0 :: ts)).toArray
def isMove (o : Oper) : Bool := match o.op with | .move _ => true | _ => false
def permB (ops : Array Oper) (m : Nat) (hds : List Nat) (t0 : Nat) (ts : List Nat) : Bool :=
  Region.noSelect ops && ops.all (fun o => o.guard.isNone) && ((ops[m]?).map isMove).getD false && (Region.ready .any ops (Array.replicate ops.size false)).contains m && Region.free .any ops (Array.replicate ops.size false) m &&
    sinkH .any ops hds t0 && chainH .any ops t0 ts && hds.all (fun i => !(t0 :: ts).contains i) && !(t0 :: ts).contains m && decide (ops.size = hds.length + (ts.length + 1) + 1) &&
    (List.range ops.size).all (fun i => hds.contains i || (t0 :: ts).contains i || i == m) && (t0 :: ts).all (fun i => decide (i < ops.size)) && decide ((opsOf ops (m :: hds)).length = hds.length + 1) &&
    lexHeadH .any ops (t0 :: ts) hds ((Array.replicate ops.size false).setIfInBounds m true)
theorem opsOf_ng {ops : Array Oper} (h : ops.all (fun o => o.guard.isNone) = true) (is : List Nat) : ∀ o ∈ opsOf ops is, o.guard = none := fun o ho => by
  simp only [opsOf, List.mem_filterMap] at ho
  obtain ⟨i, -, hi⟩ := ho
  rw [Array.all_eq_true'] at h
  simpa using h o (Array.mem_of_getElem? hi)
theorem SW.regionP {id : Nat} {l : List Oper} {Q : Exit → St → Prop} (m : Nat) (hds : List Nat) (t0 : Nat) (ts : List Nat) (k : Nat) (hk : decide (k = hds.length + 1) = true) (hm : P.follows .mixedOrders = true) (hB : permB l.toArray m hds t0 ts = true)
    (h : OBk P (permOps l.toArray m hds t0 ts) k 0 st (fun st1 => OWk P pu (permOps l.toArray m hds t0 ts) k st1 (Q .normal))) : SW P pu (.region id l.toArray true) st Q := by
  have hk := of_decide_eq_true hk
  subst hk
  generalize hops : l.toArray = ops at *
  intro a w g hr
  refine Code.wp_mono (Q := NQ fun a' w' => ∃ st' g', Q .normal st' ∧ Rel st' a' w' g' ∧ Fr pu g w g' w') (fun e a' w' hh => by obtain ⟨rfl, hh⟩ := hh; exact hh) ?_
  simp only [permB, Bool.and_eq_true, decide_eq_true_eq] at hB
  obtain ⟨⟨⟨⟨⟨⟨⟨⟨⟨⟨⟨⟨⟨b1, b2⟩, b3⟩, b4⟩, b5⟩, b6⟩, b7⟩, b8⟩, b9⟩, b10⟩, b11⟩, b12⟩, b13⟩, b14⟩ := hB
  refine wp_region_any hm ?_
  have hmr : m ∈ Region.ready .any ops (Array.replicate ops.size false) := by simpa using b4
  obtain ⟨hm0, om, hom, hmall⟩ := mem_ready.1 hmr
  have hop : ∃ x, om.op = .move x := by
    rw [hom] at b3
    simp only [Option.map_some, Option.getD_some] at b3
    unfold isMove at b3
    split at b3
    · exact ⟨_, by assumption⟩
    · cases b3
  obtain ⟨x, hop⟩ := hop
  have hmg : om.guard = none := opsOf_ng b2 [m] om (by simp [opsOf, hom])
  rw [b10]
  have hsize : ops.size = hds.length + (ts.length + 1) + 1 := b10
  refine wpAny_move hom hop hmg (Region.noSelect_spec b1) _ _ a _ (by rw [← hsize]; exact Region.free_spec hom b5) (by rw [← hsize]; exact hmr) ?_
  rw [← hsize]
  have hmlt : m < ops.size := (Array.getElem?_eq_some_iff.1 hom).1
  have hmt : m ∉ t0 :: ts := by simpa using b9
  have inv : HInv .any ops hds t0 ts ((Array.replicate ops.size false).setIfInBounds m true) := by
    refine ⟨by simp, fun j oj hj hl e he hb => ?_, fun t ht => ?_, fun i hi h1 h2 => ?_⟩
    · by_cases hjm : m = j
      · subst hjm
        have : oj = om := Option.some.inj (hj.symm.trans hom)
        subst this
        exact getD_set_true (hmall e he hb)
      · rw [getD_set_ne false hjm, getD_replicate_false] at hl
        cases hl
    · rw [getD_set_ne true (fun e : m = t => hmt (by rw [e]; exact ht))]
      have := List.all_eq_true.1 b12 t ht
      simp at this
      simp [this]
    · have := List.all_eq_true.1 b11 i (List.mem_range.2 hi)
      simp only [Bool.or_eq_true, List.contains_iff_mem, beq_iff_eq] at this
      rcases this with (h3 | h3) | h3
      · exact absurd h3 h1
      · exact absurd h3 h2
      · subst h3; simp [hmlt]
  -- the walk in the other order
  have hl1 : (permOps ops m hds t0 ts).toList.take (hds.length + 1) = opsOf ops (m :: hds) := by simp only [permOps]; rw [List.take_append_of_le_length (by omega), List.take_of_length_le (by omega)]
  have hl2 : (permOps ops m hds t0 ts).toList.drop (hds.length + 1) = opsOf ops (t0 :: ts) := by simp only [permOps]; rw [← b13, List.drop_left']; rfl
  have hcons : opsOf ops (m :: hds) = om :: opsOf ops hds := by simp [opsOf, hom]
  unfold OBk at h
  rw [List.drop_zero, hl1] at h
  have key := h a w.drew g hr.drew (fun a' => wpList P ops (NQ fun a' w' => ∃ st' g', Q .normal st' ∧ Rel st' a' w' g' ∧ Fr pu g w g' w') (opsOf ops (t0 :: ts)) a' w.drew) (fun st1 a1 g1 q1 r1 f1 => by
    refine wpList_ng (opsOf_ng b2 _) (ops' := permOps ops m hds t0 ts) ?_
    unfold OWk at q1
    rw [hl2] at q1
    exact q1 a1 w.drew g1 r1 _ fun st' a' w' g' q r f => ⟨rfl, st', g', q, r, (Fr.drew.trans (f1 pu)).trans f⟩)
  rw [hcons] at key
  unfold wpStill at key
  rw [if_pos (wanted_ng hmg _)] at key
  have hexec : (execOp a.eval om).run P w.drew = .ok (.value (a.eval x)) w.drew := by unfold execOp; rw [hop]; rfl
  unfold Oper.still at key
  rw [hexec, Oper.stillUpon_value] at key
  have key := wpStill_ng (ops := ops) (opsOf_ng b2 hds) key
  refine wpAny_of_headH (hds := hds) (g := ts.length + 1) (fun listed' a' hL => ?_) hds.length _ _ (wpAnyH_lex b1 b6 b7 (fun i hi => by have := List.all_eq_true.1 b8 i hi; simpa using this) hds _ _ (fun _ h => h) inv b14 key)
  exact wpAny_of_seqH (t0 :: ts) listed' a' _ hL.1 hL.2
end
end Go.Sh
namespace Go.Sh
/-- Keys that the model compares on the spot. -/
inductive KeyT where
  | int (k : IntKind)
  | str
def keyTOf (P : Program) (K : TypeId) : Option KeyT :=
  match P.underlying K with
  | some (.int k) => some (.int k)
  | some .string => some .str
  | _ => none
def KeyT.desc : KeyT → TypeDesc
  | .int k => .int k
  | .str => .string
/-- Is it a key of this kind? -/
def isKey : KeyT → D → Bool
  | .int k, .int k' _ => k == k'
  | .str, .str _ => true
  | _, _ => false
def sameK : D → D → Bool
  | .int _ a, .int _ b => a == b
  | .str a, .str b => a == b
  | _, _ => false
def findK (x : D) : List (D × D) → Nat → Option (Nat × D)
  | [], _ => none
  | (k, v) :: es, i => if sameK x k then some (i, v) else findK x es (i + 1)
theorem byteArray_beq (a b : List UInt8) : (mk a == mk b) = (a == b) := by
  show ((⟨a⟩ : Array UInt8) == ⟨b⟩) = _
  simp
theorem sameNow_key (hx : isKey T x = true) (hy : isKey T y = true) (hu : Rd g w u x) (hv : Rd g w v y) (d : TypeDesc) (hd : d = T.desc) :
    Instr.sameNow d u v = some (sameK x y) := by
  cases T with
  | int k =>
    cases x <;> simp only [isKey, Bool.false_eq_true] at hx
    cases y <;> simp only [isKey, Bool.false_eq_true] at hy
    cases hu; cases hv
    simp only [beq_iff_eq] at hx hy
    subst hx; subst hy; subst hd
    simp [Instr.sameNow, sameK, KeyT.desc]
  | str =>
    cases x <;> simp only [isKey, Bool.false_eq_true] at hx
    cases y <;> simp only [isKey, Bool.false_eq_true] at hy
    cases hu; cases hv
    subst hd
    simp [Instr.sameNow, sameK, byteArray_beq, KeyT.desc]
theorem findNow_key (hx : isKey T x = true) (hu : Rd g w u x) (d : TypeDesc) (hd : d = T.desc) :
    ∀ (ms : List MapEntry) (es : List (D × D)) (i : Nat), ms.length = es.length → (∀ (j : Nat) (p : D × D), es[j]? = some p → ∃ m, ms[j]? = some m ∧ Rd g w m.key p.1 ∧ Rd g w m.val p.2) → (∀ p ∈ es, isKey T p.1 = true) →
    ∃ r, Instr.findNow d u ms i = some r ∧ ((findK x es i = none ∧ r = none) ∨ ∃ j y v, findK x es i = some (j, y) ∧ r = some (j, v) ∧ Rd g w v y)
  | [], [], i, _, _, _ => ⟨none, rfl, .inl ⟨rfl, rfl⟩⟩
  | [], _ :: _, i, h, _, _ => by simp at h
  | _ :: _, [], i, h, _, _ => by simp at h
  | m :: ms, (k, y) :: es, i, hl, hr, hk => by
    obtain ⟨m', e1, e2, e3⟩ := hr 0 (k, y) rfl
    simp only [List.getElem?_cons_zero, Option.some.injEq] at e1
    subst e1
    have hs := sameNow_key hx (hk (k, y) (by simp)) hu e2 d hd
    simp only [Instr.findNow, findK, hs]
    cases hb : sameK x k with
    | true => grind
    | false =>
      obtain ⟨r, h1, h2⟩ := findNow_key hx hu d hd ms es (i + 1) (by simpa using hl) (fun j p hj => by simpa using hr (j + 1) p (by simpa using hj)) (fun p hp => hk p (by simp [hp]))
      grind
end Go.Sh
namespace Go.Sh
/-- How Lean data is laid out as plain data, and read back. -/
structure Cd (α : Type) where
  enc : α → D
  dec : D → Option α
  de : ∀ d x, dec d = some x → d = enc x
  ed : ∀ x, dec (enc x) = some x
def cI (k : IntKind) : Cd Int where
  enc := .int k
  dec
    | .int k' n => if k' = k then some n else none
    | _ => none
  de d x h := by
    grind
  ed x := by simp
def cB : Cd Bool where
  enc := .bool
  dec
    | .bool b => some b
    | _ => none
  de d x h := by grind
  ed x := rfl
def cS : Cd (List UInt8) where
  enc := .str
  dec
    | .str b => some b
    | _ => none
  de d x h := by grind
  ed x := rfl
/-- Pointers to objects of the shadow heap. -/
def cP : Cd (Option Nat) where
  enc
    | none => .nilPtr
    | some i => .ptr i 0
  dec
    | .nilPtr => some none
    | .ptr i 0 => some (some i)
    | _ => none
  de d x h := by
    grind
  ed x := by cases x <;> rfl
/-- Maps of the shadow heap. -/
def cM : Cd (Option Nat) where
  enc
    | none => .nilMap
    | some i => .map i
  dec
    | .nilMap => some none
    | .map i => some (some i)
    | _ => none
  de d x h := by grind
  ed x := by cases x <;> rfl
theorem mapM_de {α : Type} (c : Cd α) : ∀ (ds : List D) (xs : List α), ds.mapM c.dec = some xs → ds = xs.map c.enc
  | [], xs, h => by simp at h; subst h; rfl
  | d :: ds, xs, h => by
    simp only [List.mapM_cons, Option.bind_eq_bind, Option.bind_eq_some_iff] at h
    obtain ⟨x, h1, ys, h2, h3⟩ := h
    cases h3
    rw [List.map_cons, ← c.de d x h1, ← mapM_de c ds ys h2]
theorem mapM_ed {α : Type} (c : Cd α) : ∀ xs : List α, (xs.map c.enc).mapM c.dec = some xs
  | [] => rfl
  | x :: xs => by simp [c.ed, mapM_ed c xs]
/-- Lists that nobody will change. -/
def cL {α : Type} (n : Nat) (c : Cd α) : Cd (List α) where
  enc xs := .list n (xs.map c.enc)
  dec
    | .list n' ds => if n' = n then ds.mapM c.dec else none
    | _ => none
  de d x h := by
    cases d <;> simp only [reduceCtorEq] at h
    split at h
    · rename_i e; subst e; rw [← mapM_de c _ _ h]
    · cases h
  ed x := by show (if n = n then (x.map c.enc).mapM c.dec else none) = _; rw [if_pos rfl, mapM_ed]
/-- Cells one behind the other. -/
structure Cc (α : Type) where
  enc : α → List SV
  dec : List SV → Option (α × List SV)
  de : ∀ l x r, dec l = some (x, r) → l = enc x ++ r
  ed : ∀ x r, dec (enc x ++ r) = some (x, r)
def Cd.cell {α : Type} (c : Cd α) : Cc α where
  enc x := [.d (c.enc x)]
  dec
    | .d d :: r => (c.dec d).map (·, r)
    | _ => none
  de l x r h := by
    split at h
    · rename_i d r'
      simp only [Option.map_eq_some_iff, Prod.mk.injEq] at h
      obtain ⟨y, h1, rfl, rfl⟩ := h
      rw [c.de d y h1]; rfl
    · cases h
  ed x r := by simp [c.ed]
/-- A list that belongs to the object. -/
def ownC {α : Type} (n : Nat) (c : Cd α) : Cc (List α) where
  enc xs := [.own n (xs.map c.enc)]
  dec
    | .own n' ds :: r => if n' = n then (ds.mapM c.dec).map (·, r) else none
    | _ => none
  de l x r h := by
    split at h
    · split at h
      · rename_i n' ds r' e
        subst e
        simp only [Option.map_eq_some_iff, Prod.mk.injEq] at h
        obtain ⟨y, h1, rfl, rfl⟩ := h
        rw [mapM_de c _ _ h1]; rfl
      · cases h
    · cases h
  ed x r := by simp only [List.singleton_append, if_true, mapM_ed, Option.map_some]
def Cc.pair {α β : Type} (a : Cc α) (b : Cc β) : Cc (α × β) where
  enc p := a.enc p.1 ++ b.enc p.2
  dec l := (a.dec l).bind fun p => (b.dec p.2).map fun q => ((p.1, q.1), q.2)
  de l x r h := by
    simp only [Option.bind_eq_some_iff, Option.map_eq_some_iff, Prod.mk.injEq] at h
    obtain ⟨p, h1, q, h2, h3, h4⟩ := h
    subst h3; subst h4
    rw [a.de l p.1 p.2 h1, List.append_assoc, b.de p.2 q.1 q.2 h2]
  ed x r := by
    rw [List.append_assoc, a.ed]
    simp [b.ed]
def Cc.iso {α β : Type} (a : Cc α) (f : α → β) (g : β → α) (fg : ∀ x, f (g x) = x) (gf : ∀ x, g (f x) = x) : Cc β where
  enc x := a.enc (g x)
  dec l := (a.dec l).map fun p => (f p.1, p.2)
  de l x r h := by
    simp only [Option.map_eq_some_iff, Prod.mk.injEq] at h
    obtain ⟨p, h1, rfl, rfl⟩ := h
    rw [gf]; exact a.de l p.1 p.2 h1
  ed x r := by simp [a.ed, fg]
/-- The same for plain data alone. -/
structure Cl (α : Type) where
  enc : α → List D
  dec : List D → Option (α × List D)
  de : ∀ l x r, dec l = some (x, r) → l = enc x ++ r
  ed : ∀ x r, dec (enc x ++ r) = some (x, r)
def Cd.one {α : Type} (c : Cd α) : Cl α where
  enc x := [c.enc x]
  dec
    | d :: r => (c.dec d).map (·, r)
    | _ => none
  de l x r h := by
    split at h
    · rename_i d r'
      simp only [Option.map_eq_some_iff, Prod.mk.injEq] at h
      obtain ⟨y, h1, rfl, rfl⟩ := h
      rw [c.de d y h1]; rfl
    · cases h
  ed x r := by simp [c.ed]
def Cl.pair {α β : Type} (a : Cl α) (b : Cl β) : Cl (α × β) where
  enc p := a.enc p.1 ++ b.enc p.2
  dec l := (a.dec l).bind fun p => (b.dec p.2).map fun q => ((p.1, q.1), q.2)
  de l x r h := by
    simp only [Option.bind_eq_some_iff, Option.map_eq_some_iff, Prod.mk.injEq] at h
    obtain ⟨p, h1, q, h2, h3, h4⟩ := h
    subst h3; subst h4
    rw [a.de l p.1 p.2 h1, List.append_assoc, b.de p.2 q.1 q.2 h2]
  ed x r := by
    rw [List.append_assoc, a.ed]
    simp [b.ed]
def Cl.iso {α β : Type} (a : Cl α) (f : α → β) (g : β → α) (fg : ∀ x, f (g x) = x) (gf : ∀ x, g (f x) = x) : Cl β where
  enc x := a.enc (g x)
  dec l := (a.dec l).map fun p => (f p.1, p.2)
  de l x r h := by
    simp only [Option.map_eq_some_iff, Prod.mk.injEq] at h
    obtain ⟨p, h1, rfl, rfl⟩ := h
    rw [gf]; exact a.de l p.1 p.2 h1
  ed x r := by simp [a.ed, fg]
def Cl.agg {α : Type} (a : Cl α) : Cd α where
  enc x := .agg (a.enc x)
  dec
    | .agg l => match a.dec l with | some (x, []) => some x | _ => none
    | _ => none
  de d x h := by
    cases d <;> simp only [reduceCtorEq] at h
    split at h
    · rename_i y h1
      cases h
      rw [a.de _ _ _ h1, List.append_nil]
    · cases h
  ed x := by
    have := a.ed x []
    grind
def preD : List SV → List D × List SV
  | .d d :: r => ((d :: (preD r).1), (preD r).2)
  | l => ([], l)
theorem preD_eq : ∀ l : List SV, l = (preD l).1.map .d ++ (preD l).2
  | [] => rfl
  | s :: r => by
    cases s with
    | d x => simp only [preD, List.map_cons, List.cons_append]; rw [← preD_eq r]
    | _ => rfl
theorem preD_app : ∀ (ds : List D) (r : List SV), preD (ds.map .d ++ r) = (ds ++ (preD r).1, (preD r).2)
  | [], r => rfl
  | d :: ds, r => by simp only [List.map_cons, List.cons_append, preD]; rw [preD_app ds r]
def Cl.cells {α : Type} (a : Cl α) : Cc α where
  enc x := (a.enc x).map .d
  dec l := (a.dec (preD l).1).map fun p => (p.1, p.2.map .d ++ (preD l).2)
  de l x r h := by
    simp only [Option.map_eq_some_iff, Prod.mk.injEq] at h
    obtain ⟨p, h1, rfl, rfl⟩ := h
    have := a.de _ p.1 p.2 h1
    rw [← List.append_assoc, ← List.map_append, ← this]
    exact preD_eq l
  ed x r := by
    rw [preD_app]
    simp only [a.ed, Option.map_some, Option.some.injEq, Prod.mk.injEq, true_and]
    exact (preD_eq r).symm
/-- Keys of maps. -/
structure Kc (K : Type) [BEq K] where
  c : Cd K
  kt : KeyT
  isK : ∀ x, isKey kt (c.enc x) = true
  same : ∀ a b, sameK (c.enc a) (c.enc b) = (a == b)
def kI (k : IntKind) : Kc Int := ⟨cI k, .int k, fun _ => by simp [cI, isKey], fun _ _ => rfl⟩
def kS : Kc (List UInt8) := ⟨cS, .str, fun _ => rfl, fun _ _ => rfl⟩
/-! ## A heap, plainly -/
abbrev Hp := List SObj
def hCells (H : Hp) (i : Nat) : Option (List SV) := match H[i]? with | some (.cells cs) => some cs | _ => none
theorem hCells_eq (h : hCells H i = some cs) : H[i]? = some (.cells cs) := by
  unfold hCells at h
  grind
/-- What stands in an object from a cell on. -/
def hGet {α : Type} (c : Cc α) (H : Hp) (i off : Nat) : Option α := (hCells H i).bind fun cs => (c.dec (cs.drop off)).map (·.1)
theorem hGet_eq {α : Type} {c : Cc α} {x : α} (h : hGet c H i off = some x) : ∃ cs r, H[i]? = some (.cells cs) ∧ cs.drop off = c.enc x ++ r := by
  unfold hGet at h
  simp only [Option.bind_eq_some_iff, Option.map_eq_some_iff] at h
  obtain ⟨cs, h1, ⟨y, r⟩, h2, rfl⟩ := h
  exact ⟨cs, r, hCells_eq h1, c.de _ _ _ h2⟩
/-- Cells are written. -/
def hPut (H : Hp) (i off : Nat) (ds : List D) : Option Hp := (hCells H i).bind fun cs => if off + ds.length ≤ cs.length then some (H.set i (.cells (setCells cs off ds))) else none
theorem hPut_eq (h : hPut H i off ds = some H') : ∃ cs, H[i]? = some (.cells cs) ∧ off + ds.length ≤ cs.length ∧ H' = H.set i (.cells (setCells cs off ds)) := by
  unfold hPut at h
  simp only [Option.bind_eq_some_iff] at h
  obtain ⟨cs, h1, h2⟩ := h
  split at h2
  · cases h2; exact ⟨cs, hCells_eq h1, by assumption, rfl⟩
  · cases h2
def hSet {α : Type} (c : Cd α) (H : Hp) (i off : Nat) (x : α) : Option Hp := hPut H i off (c.enc x).cells
/-- A new object. -/
def hNew (H : Hp) (o : SObj) : Option (Hp × Nat) := some (H ++ [o], H.length)
/-- A map's entries; a map that is nil has none. -/
def hMap {K V : Type} [BEq K] (k : Kc K) (v : Cd V) (H : Hp) (m : Option Nat) : Option (List (K × V)) :=
  match m with
  | none => some []
  | some i => match H[i]? with
    | some (.map es) => es.mapM fun p => (k.c.dec p.1).bind fun a => (v.dec p.2).map fun b => (a, b)
    | _ => none
def encE {K V : Type} [BEq K] (k : Kc K) (v : Cd V) (p : K × V) : D × D := (k.c.enc p.1, v.enc p.2)
theorem mapE_de {K V : Type} [BEq K] (k : Kc K) (v : Cd V) : ∀ (es : List (D × D)) (xs : List (K × V)), (es.mapM fun p => (k.c.dec p.1).bind fun a => (v.dec p.2).map fun b => (a, b)) = some xs → es = xs.map (encE k v)
  | [], xs, h => by simp at h; subst h; rfl
  | p :: es, xs, h => by
    simp only [List.mapM_cons, Option.bind_eq_bind, Option.bind_eq_some_iff, Option.map_eq_some_iff] at h
    obtain ⟨q, ⟨a, ha, b, hb, rfl⟩, ys, h2, h3⟩ := h
    cases h3
    rw [List.map_cons, ← mapE_de k v es ys h2]
    congr 1
    exact Prod.ext (k.c.de _ _ ha) (v.de _ _ hb)
theorem mapE_ed {K V : Type} [BEq K] (k : Kc K) (v : Cd V) : ∀ xs : List (K × V), ((xs.map (encE k v)).mapM fun p => (k.c.dec p.1).bind fun a => (v.dec p.2).map fun b => (a, b)) = some xs
  | [] => rfl
  | x :: xs => by
    rw [List.map_cons, List.mapM_cons, mapE_ed k v xs]
    simp [encE, k.c.ed, v.ed]
theorem hMap_eq {K V : Type} [BEq K] {k : Kc K} {v : Cd V} {es : List (K × V)} : hMap k v H (some i) = some es ↔ H[i]? = some (.map (es.map (encE k v))) := by
  constructor
  · intro h
    simp only [hMap] at h
    split at h
    · rename_i es' h1; rw [h1, ← mapE_de k v _ _ h]
    · cases h
  · intro h
    simp only [hMap, h]
    exact mapE_ed k v es
/-- What a map holds of a key. -/
def hLook {K V : Type} [BEq K] (k : Kc K) (v : Cd V) (H : Hp) (m : Option Nat) (x : K) : Option (Option V) := (hMap k v H m).map fun es => es.lookup x
/-- An entry is put into a map's entries: where the key stands already, or behind all. -/
def mPut {K V : Type} [BEq K] (x : K) (y : V) : List (K × V) → List (K × V)
  | [] => [(x, y)]
  | (a, b) :: es => if x == a then (x, y) :: es else (a, b) :: mPut x y es
def mDel {K V : Type} [BEq K] (x : K) : List (K × V) → List (K × V)
  | [] => []
  | (a, b) :: es => if x == a then es else (a, b) :: mDel x es
def hMput {K V : Type} [BEq K] (k : Kc K) (v : Cd V) (H : Hp) (m : Option Nat) (x : K) (y : V) : Option Hp :=
  m.bind fun i => (hMap k v H (some i)).map fun es => H.set i (.map ((mPut x y es).map (encE k v)))
def hMdel {K V : Type} [BEq K] (k : Kc K) (v : Cd V) (H : Hp) (m : Option Nat) (x : K) : Option Hp :=
  match m with
  | none => some H
  | some i => (hMap k v H (some i)).map fun es => H.set i (.map ((mDel x es).map (encE k v)))
end Go.Sh
namespace Go.Sh
theorem RO.keepI (h0 : Keep .free g w g' w') (h1 : Keep (.obj i) g w g' w') (h2 : ∀ j, Keep (.lst (.hcell i j)) g w g' w') (hρ : KeepR g g') (h : RO g w i o) : RO g' w' i o := by
  cases o with
  | cells cs =>
    obtain ⟨k, c, T, hr, ho, hb, hs, hc⟩ := h
    obtain ⟨ho', hb'⟩ := h1 k _ ho hb
    exact ⟨k, c, T, hρ _ _ hr, ho', hb', hs, fun j s hj => let ⟨u, a1, a2, a3⟩ := hc j s hj; ⟨u, a1, a2.keep h0 (h2 j) hρ, a3⟩⟩
  | map es =>
    obtain ⟨k, ms, clock, hr, ho, hb, hs, hbo, hc⟩ := h
    obtain ⟨ho', hb'⟩ := h1 k _ ho hb
    exact ⟨k, ms, clock, hρ _ _ hr, ho', hb', hs, hbo, fun j p hj => let ⟨m, a1, a2, a3⟩ := hc j p hj; ⟨m, a1, a2.keep h0 hρ, a3.keep h0 hρ⟩⟩
  | hole => trivial
  | iter kb clock =>
    obtain ⟨k, hr, ho, hb⟩ := h
    obtain ⟨ho', hb'⟩ := h1 k _ ho hb
    exact ⟨k, hρ _ _ hr, ho', hb'⟩
  | mapX kb clock ms es =>
    obtain ⟨hr, ho, hb, hs, hbo, hc⟩ := h
    obtain ⟨ho', hb'⟩ := h1 kb _ ho hb
    exact ⟨hρ _ _ hr, ho', hb', hs, hbo, fun j p hj => let ⟨m, a1, a2, a3⟩ := hc j p hj; ⟨m, a1, a2.keep h0 hρ, a3.keep h0 hρ⟩⟩
  | bld T e bs =>
    obtain ⟨k, p, v, hr, ho, hb⟩ := h
    obtain ⟨ho', hb'⟩ := h1 k _ ho hb.1
    exact ⟨k, p, v, hρ _ _ hr, ho', hb.keep (h2 1) (hb'.trans hb.1.symm)⟩
/-- Is the tag of no use to slots? -/
theorem uses_obj : ¬ uses t s (.obj i) := by cases s <;> simp [uses]
section
variable {P : Program} {st : St}
def St.hp (st : St) (H : List SObj) : St := { st with H := H }
theorem St.put_hp (st : St) (H : List SObj) (d : Option Tmp) (s : SV) : (st.put d s).hp H = (st.hp H).put d s := by
  cases d with
  | none => rfl
  | some t =>
    simp only [St.put, St.hp]
    split <;> (try split) <;> rfl
/-- The state with one object changed in place. -/
theorem Rel.setObj (hr : Rel st a w g) (hi : i < st.H.length) (hk : g.ρ[i]? = some k) (ho : g.ow k = .obj i) (hw : ∀ k', k' ≠ k → w'.heap[k']? = w.heap[k']?) (hn : RO g w' i o) :
    Rel (st.hp (st.H.set i o)) a w' g := by
  have hkp : ∀ o', o' ≠ .obj i → Keep o' g w g w' := fun o' h => Keep.block ho h hw
  refine Rel.step hr hr.len hr.def0 (fun _ _ h => h) (fun t s hs => .inr (.inr ⟨hs, rfl, fun o' ho' => hkp o' (fun e => ?_), fun s' _ => ⟨rfl, fun x hx _ => ⟨x, hx, rfl⟩⟩⟩)) ⟨by simp [St.hp, hr.hp.1], fun i' o' hi' => ?_⟩
  · subst e; exact uses_obj ho'
  · simp only [St.hp] at hi'
    by_cases e : i = i'
    · grind
    · rw [List.getElem?_set_ne e] at hi'
      exact (hr.hp.2 i' o' hi').keepI (hkp _ (by simp)) (hkp _ (by simpa using Ne.symm e)) (fun j => hkp _ (by simp)) (fun _ _ h => h)
theorem Fr.setObj (ho : g.ow k = .obj i) (hs : w'.heap.size = w.heap.size) (hw : ∀ k', k' ≠ k → w'.heap[k']? = w.heap[k']?) (hos : SameOs w w' := by exact ⟨rfl, rfl⟩) : Fr false g w g w' :=
  ⟨by rw [hs]; exact Nat.le_refl _, Keep.block ho (by simp) hw, Keep.block ho (by simp) hw, fun _ _ h => h, nofun, nofun, nofun, hos⟩
/-- A value is stored through a pointer to an object. -/
theorem OpS.storeH (hop : o.op = .store T x y) (hd : o.dst = none) (hx : ptrH st x = some (i, off)) (hy : valD st y = some d) (hu : (P.underlying T).isNone = false)
    (hsz : d.cells.length = P.cellsOf T) (hH : hPut st.H i off d.cells = some H') : OpS P false st o (st.hp H') := by
  refine OpS.skip fun a w g hr => ?_
  obtain ⟨cs, hi, hfit, rfl⟩ := hPut_eq hH
  obtain ⟨k, e1, e3⟩ := ptrH_sound hr hx
  obtain ⟨k', c, T0, f1, f2, f3, f4, f5⟩ := hr.hp.2 i _ hi
  rw [e1] at f1
  cases f1
  have hrd := valD_d hr hy
  obtain ⟨c1, c2⟩ := hrd.cells
  have hone : ∀ v ∈ (a.eval y).cells.toList, v.oneCell' = true := fun v hv => by
    obtain ⟨j, hj⟩ := List.mem_iff_getElem?.1 hv
    have hlt : j < d.cells.length := by grind
    obtain ⟨u, u1, u2, u3⟩ := c2 j d.cells[j] (by simp [hlt])
    grind
  obtain ⟨w', r1, r2, r3, c', r4, r5, r6⟩ := run_storeCells' (P := P) k off T0 (a.eval y).cells.toList 0 c w f3 (by simp [c1]; omega) hone
  refine ⟨w', g, ?_, ?_, Fr.setObj f2 r2 r3 (storeCells_os (P := P) k off T0 (a.eval y).cells.toList 0 c w w' f3 (by simp [c1]; omega) hone r1)⟩
  · unfold execOp; rw [hop]
    simp only [Instr.storeAt, Sem.run_bind, e3, Instr.sureAddr, Sem.run_pure, Result.andThen_ok, storeVar, run_sizeOf' hu]
    simp_all
  · rw [hd]
    refine hr.setObj (get_lt hi) e1 f2 r3 ⟨k, c', T0, e1, f2, r4, by rw [r5, f4, setCells_len (by omega)], fun j sv hj => ?_⟩
    have hkp : ∀ o', o' ≠ .obj i → Keep o' g w g w' := fun o' ho => Keep.block f2 ho r3
    rcases setCells_get (by omega) hj with ⟨h1, h2, y', h3, rfl⟩ | ⟨h1, h2⟩
    · obtain ⟨u, u1, u2, u3⟩ := c2 _ _ h3
      refine ⟨u, ?_, Rd.keep (hkp _ (by simp)) (fun _ _ h => h) u2, u3⟩
      grind
    · obtain ⟨u, u1, u2, u3⟩ := f5 j sv h2
      refine ⟨u, ?_, u2.keep (hkp _ (by simp)) (hkp _ (by simp)) (fun _ _ h => h), u3⟩
      grind
/-! ## New objects -/
def Gh.new (g : Gh) (k i : Nat) : Gh := ⟨(g.upd k (.obj i)).ow, g.ρ ++ [k]⟩
theorem KeepR.new : KeepR g (g.new k i) := fun j k' h => by
  simp only [Gh.new]
  grind
theorem Keep.new : Keep o' g w (g.new w.heap.size i) (w.alloc ob) := by
  intro k b hk hb
  exact Keep.alloc (t := .obj i) (o := ob) k b hk hb
theorem Fr.new : Fr false g w (g.new w.heap.size i) (w.alloc ob) :=
  ⟨by simp, Keep.new, Keep.new, KeepR.new, nofun, nofun, nofun, ⟨rfl, rfl⟩⟩
theorem Rel.newObj (hr : Rel st a w g) (hn : RO (g.new w.heap.size st.H.length) (w.alloc ob) st.H.length o) :
    Rel (st.hp (st.H ++ [o])) a (w.alloc ob) (g.new w.heap.size st.H.length) := by
  refine Rel.step hr hr.len hr.def0 KeepR.new (fun t s hs => .inr (.inr ⟨hs, rfl, fun o' ho' => Keep.new, fun s' _ => ⟨rfl, fun x hx _ => ⟨x, hx, rfl⟩⟩⟩)) ⟨by simp [St.hp, Gh.new, hr.hp.1], fun i' o' hi' => ?_⟩
  simp only [St.hp] at hi'
  by_cases h : i' < st.H.length
  · rw [List.getElem?_append_left h] at hi'
    exact (hr.hp.2 i' o' hi').keepI Keep.new Keep.new (fun _ => Keep.new) KeepR.new
  grind
theorem new_rho (h : RH g w H) (k : Nat) : (g.new k H.length).ρ[H.length]? = some k := by
  simp only [Gh.new]
  rw [← h.1, List.getElem?_append_right (Nat.le_refl _)]
  simp
theorem new_ow {g : Gh} (k i : Nat) : (g.new k i).ow k = .obj i := by simp [Gh.new]
/-- Nil lists among new cells may be taken as empty lists (own: the object's own). -/
def nilCells (l : List (Nat × Nat × Bool)) (cs : List SV) : List SV := match l with
  | [] => cs
  | (j, n, b) :: l => nilCells l (match cs[j]? with | some (.d .nilS) => cs.set j (if b then .own n [] else .d (.list n [])) | _ => cs)
theorem nilCells_len : ∀ (l : List (Nat × Nat × Bool)) (cs : List SV), (nilCells l cs).length = cs.length
  | [], cs => rfl
  | (j, n, b) :: l, cs => by
    rw [nilCells, nilCells_len l]
    split <;> simp
theorem nilCells_get {g : Gh} {w : World} {lo : Nat → Loc} {c : Array Value} : ∀ (l : List (Nat × Nat × Bool)) (cs : List SV), (∀ (j : Nat) (s : SV), cs[j]? = some s → ∃ u, c[j]? = some u ∧ RC g w (lo j) u s ∧ u.oneCell' = true) →
    ∀ (j : Nat) (s : SV), (nilCells l cs)[j]? = some s → ∃ u, c[j]? = some u ∧ RC g w (lo j) u s ∧ u.oneCell' = true
  | [], cs, h => h
  | (j0, n, b) :: l, cs, h => by
    refine nilCells_get l _ fun j s hj => ?_
    split at hj
    · rename_i h0
      by_cases e : j0 = j
      · subst e
        obtain ⟨u, u1, u2, u3⟩ := h j0 _ h0
        rw [List.getElem?_set_self (get_lt h0)] at hj
        have hn : Rd g w u .nilS := u2
        obtain ⟨a, rfl⟩ := hn.nilS_inv
        refine ⟨_, u1, ?_, u3⟩
        cases b
        · simp only [Bool.false_eq_true, if_false, Option.some.injEq] at hj
          subst hj
          exact Rd.list0
        · simp only [if_true, Option.some.injEq] at hj
          subst hj
          exact .inl ⟨rfl, _, rfl⟩
      grind
    · exact h j s hj
theorem RCells.newObj {g : Gh} {w : World} {H : List SObj} (hH : RH g w H) {T : TypeId} {v : Value} {y : D} (h : Rd g w v y) (l : List (Nat × Nat × Bool)) :
    RO (g.new w.heap.size H.length) (w.alloc (.cells v.cells T)) H.length (.cells (nilCells l (y.cells.map .d))) := by
  obtain ⟨c1, c2⟩ := h.cells
  refine ⟨w.heap.size, v.cells, T, new_rho hH _, new_ow _ _, heap_alloc _ _, by rw [nilCells_len]; simpa using c1, nilCells_get l _ fun j s hj => ?_⟩
  simp only [List.getElem?_map, Option.map_eq_some_iff] at hj
  obtain ⟨x, hx, rfl⟩ := hj
  obtain ⟨u, u1, u2, u3⟩ := c2 j x hx
  exact ⟨u, u1, Rd.keep Keep.new KeepR.new u2, u3⟩
/-- A new variable of the heap: its type's zero. -/
theorem OpS.allocH (l : List (Nat × Nat × Bool)) (hop : o.op = .alloc T) (hz : zeroD P T = some z) :
    OpS P false st o ((st.hp (st.H ++ [.cells (nilCells l (z.cells.map .d))])).put o.dst (.d (.ptr st.H.length 0))) := by
  refine OpS.value fun a w g hr => ?_
  obtain ⟨v, e1, e2⟩ := zeroD_sound (P := P) (g := g) (w := w) hz
  have hn := RCells.newObj (T := T) hr.hp e1 l
  refine ⟨.pointer (some ⟨w.heap.size, 0, none⟩), w.alloc (.cells v.cells T), _, ?_, Rel.putLight (hr.newObj hn) o.dst (.ptr (new_rho hr.hp _)), Fr.new⟩
  unfold execOp; rw [hop]
  simp only [Instr.alloc, Sem.run_bind, e2, Result.andThen_ok, newVar, newRow, run_newObj, Sem.run_pure]
  rfl
/-- A new variable of the heap with a value from the start. -/
theorem OpS.boxH (l : List (Nat × Nat × Bool)) (hop : o.op = .box T x) (hy : valD st x = some y) :
    OpS P false st o ((st.hp (st.H ++ [.cells (nilCells l (y.cells.map .d))])).put o.dst (.d (.ptr st.H.length 0))) := by
  refine OpS.value fun a w g hr => ?_
  have e1 := valD_d hr hy
  have hn := RCells.newObj (T := T) hr.hp e1 l
  refine ⟨.pointer (some ⟨w.heap.size, 0, none⟩), w.alloc (.cells (a.eval x).cells T), _, ?_, Rel.putLight (hr.newObj hn) o.dst (.ptr (new_rho hr.hp _)), Fr.new⟩
  unfold execOp; rw [hop]
  simp only [Instr.box, Sem.run_bind, newVar, newRow, run_newObj, Result.andThen_ok, Sem.run_pure]
  rfl
/-- A new map. -/
theorem OpS.makeMapH {o : Oper} {T : TypeId} (hop : o.op = .makeMap T none) : OpS P false st o ((st.hp (st.H ++ [.map []])).put o.dst (.d (.map st.H.length))) := by
  refine OpS.value fun a w g hr => ?_
  have hn : RO (g.new w.heap.size st.H.length) (w.alloc (.map #[] 0)) st.H.length (.map []) :=
    ⟨w.heap.size, #[], 0, new_rho hr.hp _, new_ow _ _, heap_alloc _ _, rfl, ⟨by simp, by simp⟩, by simp⟩
  refine ⟨.map (some w.heap.size), w.alloc (.map #[] 0), _, ?_, Rel.putLight (hr.newObj hn) o.dst (.map (new_rho hr.hp _)), Fr.new⟩
  unfold execOp; rw [hop]
  simp only [Instr.makeMap, Option.map_none, Sem.run_bind, run_newObj, Result.andThen_ok, Sem.run_pure]
  rfl
/-! ## Maps -/
/-- What a map's operand names: no map, or a map of the shadow heap. -/
def mapOf (st : St) (x : Operand) : Option (Option (Nat × List (D × D))) :=
  match valD st x with
  | some .nilMap => some none
  | some (.map i) => match st.H[i]? with | some (.map es) => some (some (i, es)) | _ => none
  | _ => none
theorem findK_lookup {K V : Type} [BEq K] (k : Kc K) (v : Cd V) (x : K) : ∀ (es : List (K × V)) (i : Nat), (findK (k.c.enc x) (es.map (encE k v)) i).map (·.2) = (es.lookup x).map v.enc
  | [], _ => rfl
  | (a, b) :: es, i => by
    simp only [List.map_cons, encE, findK, k.same, List.lookup]
    cases x == a with
    | true => rfl
    | false => exact findK_lookup k v x es (i + 1)
theorem keyDesc (h : keyTOf P K = some kt) : P.underlying K = some kt.desc := by
  unfold keyTOf at h
  split at h
  · rename_i k hu; cases h; exact hu
  · rename_i hu; cases h; exact hu
  · cases h
theorem run_checkKey (h : keyTOf P K = some kt) (w : World) : (Instr.checkKey b 10000 K v).run P w = .ok () w := by
  have hu := keyDesc h
  show (Instr.checkKey b (9999 + 1) K v).run P w = _
  unfold Instr.checkKey
  simp only [Sem.run_bind, run_underlying hu, Result.andThen_ok]
  cases kt <;> (simp only [KeyT.desc]; cases v <;> rfl)
theorem run_findKey (h : keyTOf P K = some kt) (hf : Instr.findNow kt.desc u ms 0 = some r) (w : World) : (Instr.findKey K u ms).run P w = .ok r w := by
  simp only [Instr.findKey, Sem.run_bind, run_underlying (keyDesc h), Result.andThen_ok, hf, Sem.run_pure]
theorem run_getMap (h : w.heap[r]? = some (.map es clock)) : (getObj r).run P w = .ok (.map es clock) w := by simp [getObj, Sem.run, h]
/-- A block is replaced. -/
def setBlk (w : World) (r : Nat) (o : Obj) : World := { w with heap := w.heap.setIfInBounds r o }
theorem run_setMap (h : w.heap[r]? = some (.map es clock)) : (setObj r o').run P w = .ok () (setBlk w r o') := by simp [setObj, Sem.run, h, setBlk]
theorem setBlk_self (h : w.heap[r]? = some o) : (setBlk w r o').heap[r]? = some o' := by
  have := arr_lt h
  simp [setBlk, this]
theorem setBlk_other (h : k ≠ r) : (setBlk w r o').heap[k]? = w.heap[k]? := by simp [setBlk, Array.getElem?_setIfInBounds_ne (Ne.symm h)]
theorem setBlk_size : (setBlk w r o').heap.size = w.heap.size := by simp [setBlk]
theorem mapOf_sound (hr : Rel st a w g) (h : valD st x = some (cM.enc m)) :
    match m with
    | none => a.eval x = .map none
    | some i => ∃ k, g.ρ[i]? = some k ∧ a.eval x = .map (some k) := by
  have := valD_d hr h
  cases m with
  | none => simp only [cM] at this; generalize a.eval x = v at this; cases this; rfl
  | some i => simp only [cM] at this; generalize a.eval x = v at this; cases this with | map h => exact ⟨_, h, rfl⟩
/-- What 'lookup' yields. -/
def lookS {V : Type} (v : Cd V) (ok : Bool) (z : V) (q : Option V) : SV := if ok then .tup [.d (v.enc (q.getD z)), .d (.bool q.isSome)] else .d (v.enc (q.getD z))
theorem run_lookup (ok : Bool) (hT : P.underlying T = some (.map KT ET)) (hk : keyTOf P KT = some kt) (hf : Instr.findNow kt.desc iv ms.toList 0 = some r)
    (rz : ∀ w, (zeroValue ET).run P w = .ok vz w) (hx : (xv = .map none ∧ ms = #[]) ∨ ∃ k clock, xv = .map (some k) ∧ w.heap[k]? = some (.map ms clock)) :
    (Instr.lookup T xv iv ok).run P w = .ok (if ok then .tuple #[(r.map (·.2)).getD vz, .bool r.isSome] else (r.map (·.2)).getD vz) w := by
  rcases hx with ⟨rfl, rfl⟩ | ⟨k, clock, rfl, hb⟩
  · simp only [Instr.lookup, Sem.run_bind, run_underlying hT, Result.andThen_ok, Sem.run_pure, run_checkKey hk, run_findKey hk hf]
    cases r with
    | none => simp_all
    | some p => simp_all
  · simp only [Instr.lookup, Sem.run_bind, run_underlying hT, Result.andThen_ok, Sem.run_pure, run_getMap hb, run_checkKey hk, run_findKey hk hf]
    cases r with
    | none => simp_all
    | some p => simp_all
/-- A map of the shadow heap, in memory. -/
theorem map_found {K V : Type} [BEq K] {k : Kc K} {v : Cd V} (hr : Rel st a w g) {es : List (K × V)} {key : K} (hm : hMap k v st.H (some i) = some es) (hi : Rd g w iv (k.c.enc key)) :
    ∃ kb ms clock, g.ρ[i]? = some kb ∧ g.ow kb = .obj i ∧ w.heap[kb]? = some (.map ms clock) ∧ ms.size = es.length ∧ bornOk ms clock ∧ (∀ (j : Nat) (p : K × V), es[j]? = some p → ∃ m, ms[j]? = some m ∧ Rd g w m.key (k.c.enc p.1) ∧ Rd g w m.val (v.enc p.2)) ∧
      ∃ r, Instr.findNow k.kt.desc iv ms.toList 0 = some r ∧ ((es.lookup key = none ∧ r = none ∧ findK (k.c.enc key) (es.map (encE k v)) 0 = none) ∨ ∃ y u j, es.lookup key = some y ∧ r = some (j, u) ∧ Rd g w u (v.enc y) ∧ findK (k.c.enc key) (es.map (encE k v)) 0 = some (j, v.enc y)) := by
  have h1 := hMap_eq.1 hm
  obtain ⟨kb, ms, clock, f1, f2, f3, f4, f5, f6⟩ := hr.hp.2 i _ h1
  obtain ⟨r, g1, g2⟩ := findNow_key (k.isK key) hi k.kt.desc rfl ms.toList (es.map (encE k v)) 0 (by simpa using f4) (fun j p hj => by simpa using f6 j p hj) (fun p hp => by
    obtain ⟨e, -, rfl⟩ := List.mem_map.1 hp; exact k.isK _)
  refine ⟨kb, ms, clock, f1, f2, f3, by simpa using f4, f5, fun j p hj => ?_, r, g1, ?_⟩
  · exact f6 j (encE k v p) (by simp [hj])
  · have hl := findK_lookup k v key es 0
    rcases g2 with ⟨g3, g4⟩ | ⟨j, y, u, g3, g4, g5⟩
    · rw [g3] at hl
      refine .inl ⟨?_, g4, g3⟩
      cases hh : es.lookup key with
      | none => rfl
      | some y => rw [hh] at hl; cases hl
    · rw [g3] at hl
      simp only [Option.map_some] at hl
      cases hh : es.lookup key with
      | none => rw [hh] at hl; cases hl
      | some y' =>
        grind
theorem BStep.lookup {K V : Type} [BEq K] {k : Kc K} {v : Cd V} {key : K} {q : Option V} {z : V} (hop : o.op = .lookup T x ix ok) (hT : P.underlying T = some (.map KT ET))
    (hk : keyTOf P KT = some k.kt) (hx : valD st x = some (cM.enc m)) (hi : valD st ix = some (k.c.enc key)) (hz : zeroD P ET = some (v.enc z)) (hq : hLook k v st.H m key = some q) : BStep P st o (lookS v ok z q) := by
  intro a w g hr
  have hrk := valD_d hr hi
  obtain ⟨vz, ez, rz⟩ := zeroD_sound (P := P) (g := g) (w := w) hz
  have hm := mapOf_sound hr hx
  have fin : ∀ (r : Option (Nat × Value)), (q = none ∧ r = none ∨ ∃ y u j, q = some y ∧ r = some (j, u) ∧ Rd g w u (v.enc y)) → BV g w st a (if ok then .tuple #[(r.map (·.2)).getD vz, .bool r.isSome] else (r.map (·.2)).getD vz) (lookS v ok z q) := by
    intro r h
    refine BV.light ?_
    have h1 : Rd g w ((r.map (·.2)).getD vz) (v.enc (q.getD z)) := by
      grind
    have h2 : r.isSome = q.isSome := by grind
    unfold lookS
    cases ok
    · exact h1
    · simp only [if_true]
      refine ⟨#[(r.map (·.2)).getD vz, .bool r.isSome], rfl, rfl, fun j s hj => ?_⟩
      match j, hj with
      | 0, hj => grind
      | 1, hj => simp at hj; rw [h2]; exact ⟨.bool q.isSome, _, rfl, hj.symm, .bool⟩
      | j + 2, hj => simp at hj
  have run : ∀ {r : Option (Nat × Value)} {w' : World}, (Instr.lookup T (a.eval x) (a.eval ix) ok).run P w' = .ok (if ok then .tuple #[(r.map (·.2)).getD vz, .bool r.isSome] else (r.map (·.2)).getD vz) w' →
      (execOp a.eval o).run P w' = .ok (.value (if ok then .tuple #[(r.map (·.2)).getD vz, .bool r.isSome] else (r.map (·.2)).getD vz)) w' := fun h => by
    unfold execOp; simp_all
  cases m with
  | none =>
    simp only [hLook, hMap, Option.map_some, List.lookup_nil, Option.some.injEq] at hq
    subst hq
    exact ⟨_, fin none (.inl ⟨rfl, rfl⟩), fun w' hup => run (r := none) (run_lookup ok hT hk (ms := #[]) rfl rz (.inl ⟨hm, rfl⟩))⟩
  | some i =>
    simp only [hLook, Option.map_eq_some_iff] at hq
    obtain ⟨es, h1, h2⟩ := hq
    obtain ⟨kb, ms, clock, f1, f2, f3, f4, f5, f6, r, g1, g2⟩ := map_found hr h1 hrk
    obtain ⟨kb', e1, e2⟩ := hm
    rw [f1] at e1; cases e1
    refine ⟨_, fin r ?_, fun w' hup => run (run_lookup ok hT hk g1 rz (.inr ⟨kb, clock, e2, hup _ _ f3⟩))⟩
    grind
end
end Go.Sh
namespace Go.Sh
theorem findK_shift (x : D) : ∀ (es : List (D × D)) (i : Nat), findK x es (i + 1) = (findK x es i).map fun p => (p.1 + 1, p.2)
  | [], _ => rfl
  | (k, v) :: es, i => by
    simp only [findK]
    split
    · rfl
    · exact findK_shift x es (i + 1)
section
variable {K V : Type} [BEq K]
theorem mPut_none (k : Kc K) (v : Cd V) (x : K) (y : V) : ∀ (es : List (K × V)), findK (k.c.enc x) (es.map (encE k v)) 0 = none → (mPut x y es).map (encE k v) = es.map (encE k v) ++ [encE k v (x, y)]
  | [], _ => rfl
  | (a, b) :: es, h => by
    simp only [List.map_cons, encE, findK, k.same] at h
    simp only [mPut]
    cases hb : x == a with
    | true => rw [hb] at h; simp at h
    | false =>
      rw [hb, findK_shift] at h
      simp only [Bool.false_eq_true, if_false, Option.map_eq_none_iff] at h ⊢
      rw [List.map_cons, List.map_cons, mPut_none k v x y es h, List.cons_append]
theorem mPut_some (k : Kc K) (v : Cd V) (x : K) (y : V) : ∀ (es : List (K × V)) (j : Nat) (u : D), findK (k.c.enc x) (es.map (encE k v)) 0 = some (j, u) → j < es.length ∧ (∃ p, es[j]? = some p ∧ (x == p.1) = true) ∧ (mPut x y es).map (encE k v) = (es.map (encE k v)).set j (encE k v (x, y))
  | [], _, _, h => by cases h
  | (a, b) :: es, j, u, h => by
    simp only [List.map_cons, encE, findK, k.same] at h
    simp only [mPut]
    cases hb : x == a with
    | true =>
      rw [hb] at h
      simp only [if_true, Option.some.injEq, Prod.mk.injEq] at h
      obtain ⟨rfl, -⟩ := h
      simp_all
    | false =>
      rw [hb, findK_shift] at h
      simp only [Bool.false_eq_true, if_false, Option.map_eq_some_iff, Prod.mk.injEq] at h
      obtain ⟨⟨j', u'⟩, h1, rfl, -⟩ := h
      obtain ⟨i1, ⟨p, i2, i3⟩, i4⟩ := mPut_some k v x y es j' u' h1
      grind
theorem mDel_none (k : Kc K) (v : Cd V) (x : K) : ∀ (es : List (K × V)), findK (k.c.enc x) (es.map (encE k v)) 0 = none → mDel x es = es
  | [], _ => rfl
  | (a, b) :: es, h => by
    simp only [List.map_cons, encE, findK, k.same] at h
    simp only [mDel]
    cases hb : x == a with
    | true => rw [hb] at h; simp at h
    | false =>
      rw [hb, findK_shift] at h
      simp only [Bool.false_eq_true, if_false, Option.map_eq_none_iff] at h ⊢
      rw [mDel_none k v x es h]
theorem mDel_some (k : Kc K) (v : Cd V) (x : K) : ∀ (es : List (K × V)) (j : Nat) (u : D), findK (k.c.enc x) (es.map (encE k v)) 0 = some (j, u) → j < es.length ∧ (mDel x es).map (encE k v) = (es.map (encE k v)).eraseIdx j
  | [], _, _, h => by cases h
  | (a, b) :: es, j, u, h => by
    simp only [List.map_cons, encE, findK, k.same] at h
    simp only [mDel]
    cases hb : x == a with
    | true =>
      rw [hb] at h
      simp only [if_true, Option.some.injEq, Prod.mk.injEq] at h
      obtain ⟨rfl, -⟩ := h
      exact ⟨by simp, rfl⟩
    | false =>
      rw [hb, findK_shift] at h
      simp only [Bool.false_eq_true, if_false, Option.map_eq_some_iff, Prod.mk.injEq] at h
      obtain ⟨⟨j', u'⟩, h1, rfl, -⟩ := h
      obtain ⟨i1, i4⟩ := mDel_some k v x es j' u' h1
      refine ⟨by simpa using i1, ?_⟩
      simp only [Bool.false_eq_true, if_false, List.map_cons, List.eraseIdx_cons_succ, i4]
end
theorem sameBits_key (hx : isKey T x = true) (hy : isKey T y = true) (hu : Rd g w u x) (hv : Rd g w v y) (h : sameK x y = true) : Instr.sameBits 10000 v u = true := by
  cases T with
  | int k =>
    cases x <;> simp only [isKey, Bool.false_eq_true] at hx
    cases y <;> simp only [isKey, Bool.false_eq_true] at hy
    cases hu; cases hv
    simp only [beq_iff_eq] at hx hy
    simp only [sameK, beq_iff_eq] at h
    subst hx; subst hy; subst h
    show Instr.sameBits (9999 + 1) _ _ = true
    simp [Instr.sameBits]
  | str =>
    cases x <;> simp only [isKey, Bool.false_eq_true] at hx
    cases y <;> simp only [isKey, Bool.false_eq_true] at hy
    cases hu; cases hv
    simp only [sameK, beq_iff_eq] at h
    subst h
    show Instr.sameBits (9999 + 1) _ _ = true
    simp [Instr.sameBits, byteArray_beq]
section
variable {P : Program} {st : St} {K V : Type} [BEq K]
/-- What is put into a map, in memory: the new entries. -/
theorem put_run {k : Kc K} {v : Cd V} (hr : Rel st a w g) {es : List (K × V)} {key : K} {y : V} (hT : P.underlying T = some (.map KT ET)) (hk : keyTOf P KT = some k.kt)
    (hm : hMap k v st.H (some i) = some es) (hi : Rd g w iv (k.c.enc key)) (hy : Rd g w yv (v.enc y)) :
    ∃ kb w', g.ρ[i]? = some kb ∧ g.ow kb = .obj i ∧ (Instr.mapUpdate T (.map (some kb)) iv yv).run P w = .ok () w' ∧ w'.heap.size = w.heap.size ∧ SameOs w w' ∧ (∀ k', k' ≠ kb → w'.heap[k']? = w.heap[k']?) ∧ RO g w' i (.map ((mPut key y es).map (encE k v))) := by
  obtain ⟨kb, ms, clock, f1, f2, f3, f4, f5, f6, r, g1, g2⟩ := map_found hr hm hi
  have hkp : ∀ (ob : Obj) (o' : Own), o' ≠ .obj i → Keep o' g w g (setBlk w kb ob) := fun ob o' ho => Keep.block f2 ho fun k' h => setBlk_other h
  have up : ∀ (ob : Obj) {u : Value} {x : D}, Rd g w u x → Rd g (setBlk w kb ob) u x := fun ob _ _ h => Rd.keep (hkp ob _ (by simp)) (fun _ _ h => h) h
  rcases g2 with ⟨g3, rfl, g4⟩ | ⟨y0, u, j, g3, rfl, g5, g4⟩
  · refine ⟨kb, setBlk w kb (.map (ms.push { key := iv, val := yv, born := clock }) (clock + 1)), f1, f2, ?_, setBlk_size, ⟨rfl, rfl⟩, fun k' h => setBlk_other h, kb, _, _, f1, f2, setBlk_self f3, ?_, ?_, fun j p hj => ?_⟩
    · simp only [Instr.mapUpdate, Sem.run_bind, run_underlying hT, Result.andThen_ok, run_getMap f3, run_checkKey hk, run_findKey hk g1, run_setMap f3]
    · rw [mPut_none k v key y es g4]; simp [f4]
    · obtain ⟨b1, b2⟩ := f5
      refine ⟨fun m hm => ?_, ?_⟩
      · grind
      grind
    · rw [mPut_none k v key y es g4] at hj
      by_cases hlt : j < es.length
      · rw [List.getElem?_append_left (by simpa using hlt), List.getElem?_map] at hj
        simp only [Option.map_eq_some_iff] at hj
        obtain ⟨q, hq, rfl⟩ := hj
        obtain ⟨m, m1, m2, m3⟩ := f6 j q hq
        exact ⟨m, by grind, up _ m2, up _ m3⟩
      · have : j = es.length := by grind
        subst this
        rw [List.getElem?_append_right (by simp)] at hj
        simp only [List.length_map, Nat.sub_self, List.getElem?_cons_zero, Option.some.injEq] at hj
        subst hj
        exact ⟨{ key := iv, val := yv, born := clock }, by rw [← f4]; simp, up _ hi, up _ hy⟩
  · obtain ⟨i1, ⟨p, i2, i3⟩, i4⟩ := mPut_some k v key y es j _ g4
    have hms : j < ms.size := by omega
    obtain ⟨m, m1, m2, m3⟩ := f6 j p i2
    refine ⟨kb, setBlk w kb (.map (ms.modify j fun e => { e with key := iv, val := yv }) clock), f1, f2, ?_, setBlk_size, ⟨rfl, rfl⟩, fun k' h => setBlk_other h, kb, _, _, f1, f2, setBlk_self f3, ?_, ?_, fun j' p' hj => ?_⟩
    · have hsb : Instr.sameBits 10000 m.key iv = true := sameBits_key (k.isK _) (k.isK _) hi m2 (by rw [k.same]; exact i3)
      simp only [Instr.mapUpdate, Sem.run_bind, run_underlying hT, Result.andThen_ok, run_getMap f3, run_checkKey hk, run_findKey hk g1, m1, Option.map_some, Option.getD_some, Instr.keyThatStays, hsb, if_true, Sem.run_pure, run_setMap f3]
    · rw [i4]; simp [f4]
    · obtain ⟨b1, b2⟩ := f5
      have hborn : (ms.modify j fun e => { e with key := iv, val := yv }).toList.map (·.born) = ms.toList.map (·.born) := by
        apply List.ext_getElem?
        grind
      refine ⟨fun m hm => ?_, by rw [hborn]; exact b2⟩
      have : m.born ∈ ms.toList.map (·.born) := by grind
      grind
    · rw [i4] at hj
      by_cases e : j = j'
      · subst e
        rw [List.getElem?_set_self (by simpa using i1)] at hj
        cases hj
        refine ⟨{ m with key := iv, val := yv }, ?_, up _ hi, up _ hy⟩
        simp [Array.getElem?_modify, m1]
      · rw [List.getElem?_set_ne e, List.getElem?_map] at hj
        simp only [Option.map_eq_some_iff] at hj
        obtain ⟨q, hq, rfl⟩ := hj
        obtain ⟨m, m1, m2, m3⟩ := f6 j' q hq
        exact ⟨m, by simp [Array.getElem?_modify, e, m1], up _ m2, up _ m3⟩
theorem OpS.mapUpdate {k : Kc K} {v : Cd V} {key : K} {y : V} (hop : o.op = .mapUpdate T x ix yx ∨ o.op = .insert T x ix yx) (hd : o.dst = none) (hT : P.underlying T = some (.map KT ET)) (hk : keyTOf P KT = some k.kt)
    (hx : valD st x = some (cM.enc m)) (hi : valD st ix = some (k.c.enc key)) (hy : valD st yx = some (v.enc y)) (hH : hMput k v st.H m key y = some H') : OpS P false st o (st.hp H') := by
  refine OpS.skip fun a w g hr => ?_
  simp only [hMput, Option.bind_eq_some_iff, Option.map_eq_some_iff] at hH
  obtain ⟨i, rfl, es, hm, rfl⟩ := hH
  obtain ⟨kb', e1, e2⟩ := mapOf_sound hr hx
  obtain ⟨kb, w', f1, f2, f3, f4, fos, f5, f6⟩ := put_run hr hT hk hm (valD_d hr hi) (valD_d hr hy)
  rw [f1] at e1; cases e1
  refine ⟨w', g, ?_, ?_, Fr.setObj f2 f4 f5 fos⟩
  · unfold execOp
    rcases hop with hop | hop <;> (simp_all)
  · rw [hd]
    exact hr.setObj (get_lt (hMap_eq.1 hm)) f1 f2 f5 f6
theorem eraseIdx_born (h : bornOk ms clock) : bornOk (ms.eraseIdxIfInBounds j) clock := by
  obtain ⟨b1, b2⟩ := h
  have hl : (ms.eraseIdxIfInBounds j).toList = ms.toList.eraseIdx j := by simp
  refine ⟨fun m hm => b1 m ?_, ?_⟩
  · rw [hl] at hm
    exact List.mem_of_mem_eraseIdx hm
  · rw [hl]
    exact b2.sublist ((List.eraseIdx_sublist _ _).map _)
theorem run_delete_call {o : Oper} {c : Call} {a : Act} {w : World} {x y : Operand} {T T2 : TypeId} (hop : o.op = .call c) (hc : c.callee = .builtin .delete) (ha : c.args.toList = [x, y]) (ht : c.argTypes.toList = [T, T2]) {v : Value} {w' : World}
    (h : (Builtin.delete_ #[T, T2] o.type #[a.eval x, a.eval y]).run P w = .ok v w') : (execOp a.eval o).run P w = .ok (.value v) w' := by
  obtain ⟨callee, args, argTypes⟩ := c
  have ha2 : args = #[x, y] := by apply Array.ext'; simpa using ha
  have ht2 : argTypes = #[T, T2] := by apply Array.ext'; simpa using ht
  subst ha2 ht2
  simp only at hc
  subst hc
  unfold execOp
  rw [hop]
  simp only [resolve, List.map_toArray, List.map_cons, List.map_nil, Sem.run_bind, Sem.run_pure, Result.andThen_ok, invoke, builtin]
  simp [h]
theorem OpS.mapDelete {k : Kc K} {v : Cd V} {key : K} (hop : o.op = .call c) (hcal : c.callee = .builtin .delete) (ha : c.args.toList = [x, ix]) (ht : c.argTypes.toList = [T, T2])
    (hT : P.underlying T = some (.map KT ET)) (hk : keyTOf P KT = some k.kt) (hx : valD st x = some (cM.enc m)) (hi : valD st ix = some (k.c.enc key)) (hH : hMdel k v st.H m key = some H') : OpS P false st o ((st.hp H').put o.dst (.tup [])) := by
  refine OpS.value fun a w g hr => ?_
  have hrk := valD_d hr hi
  have hm0 := mapOf_sound hr hx
  cases m with
  | none =>
    simp only [hMdel, Option.some.injEq] at hH
    subst hH
    refine ⟨.tuple #[], w, g, run_delete_call hop hcal ha ht ?_, hr.putLight o.dst (v := .tuple #[]) ⟨#[], rfl, rfl, by simp⟩, Fr.refl _ _ _⟩
    simp only at hm0
    rw [hm0]
    simp [Builtin.delete_, Sem.run_bind, run_underlying hT, run_checkKey hk]
  | some i =>
    simp only [hMdel, Option.map_eq_some_iff] at hH
    obtain ⟨es, hm, rfl⟩ := hH
    obtain ⟨kb', e1, e2⟩ := hm0
    obtain ⟨kb, ms, clock, f1, f2, f3, f4, f5, f6, r, g1, g2⟩ := map_found hr hm hrk
    have hkb : kb = kb' := by rw [f1] at e1; exact Option.some.inj e1
    subst hkb
    have hkp : ∀ (ob : Obj) (o' : Own), o' ≠ .obj i → Keep o' g w g (setBlk w kb ob) := fun ob o' ho => Keep.block f2 ho fun k' h => setBlk_other h
    have up : ∀ (ob : Obj) {u : Value} {x : D}, Rd g w u x → Rd g (setBlk w kb ob) u x := fun ob _ _ h => Rd.keep (hkp ob _ (by simp)) (fun _ _ h => h) h
    have hlt := get_lt (hMap_eq.1 hm)
    rcases g2 with ⟨g3, rfl, g4⟩ | ⟨y0, u, j, g3, rfl, g5, g4⟩
    · refine ⟨.tuple #[], setBlk w kb (.map ms clock), g, run_delete_call hop hcal ha ht ?_, ?_, Fr.setObj f2 setBlk_size fun k' h => setBlk_other h⟩
      · rw [e2]
        simp [Builtin.delete_, Sem.run_bind, run_underlying hT, run_checkKey hk, run_getMap f3, run_findKey hk g1, run_setMap f3]
      · refine (hr.setObj hlt f1 f2 (fun k' h => setBlk_other h) ?_).putLight o.dst (v := .tuple #[]) ⟨#[], rfl, rfl, by simp⟩
        rw [mDel_none k v key es g4]
        refine ⟨kb, ms, clock, f1, f2, setBlk_self f3, by simpa using f4, f5, fun j p hj => ?_⟩
        simp only [List.getElem?_map, Option.map_eq_some_iff] at hj
        obtain ⟨q, hq, rfl⟩ := hj
        obtain ⟨m, m1, m2, m3⟩ := f6 j q hq
        exact ⟨m, m1, up _ m2, up _ m3⟩
    · obtain ⟨i1, i4⟩ := mDel_some k v key es j _ g4
      refine ⟨.tuple #[], setBlk w kb (.map (ms.eraseIdxIfInBounds j) clock), g, run_delete_call hop hcal ha ht ?_, ?_, Fr.setObj f2 setBlk_size fun k' h => setBlk_other h⟩
      · rw [e2]
        simp [Builtin.delete_, Sem.run_bind, run_underlying hT, run_checkKey hk, run_getMap f3, run_findKey hk g1, run_setMap f3]
      · refine (hr.setObj hlt f1 f2 (fun k' h => setBlk_other h) ?_).putLight o.dst (v := .tuple #[]) ⟨#[], rfl, rfl, by simp⟩
        rw [i4]
        refine ⟨kb, _, clock, f1, f2, setBlk_self f3, ?_, eraseIdx_born f5, fun j' p hj => ?_⟩
        · rw [← Array.length_toList]
          simp only [Array.toList_eraseIdxIfInBounds, List.length_eraseIdx, List.length_map, Array.length_toList, f4]
        · rw [List.getElem?_eraseIdx] at hj
          rw [← Array.getElem?_toList, Array.toList_eraseIdxIfInBounds, List.getElem?_eraseIdx]
          split at hj
          · rename_i h1
            rw [if_pos h1]
            simp only [List.getElem?_map, Option.map_eq_some_iff] at hj
            obtain ⟨q, hq, rfl⟩ := hj
            obtain ⟨m, m1, m2, m3⟩ := f6 _ q hq
            exact ⟨m, by simpa using m1, up _ m2, up _ m3⟩
          · rename_i h1
            rw [if_neg h1]
            simp only [List.getElem?_map, Option.map_eq_some_iff] at hj
            obtain ⟨q, hq, rfl⟩ := hj
            obtain ⟨m, m1, m2, m3⟩ := f6 _ q hq
            exact ⟨m, by simpa using m1, up _ m2, up _ m3⟩
end
end Go.Sh
namespace Go.Sh
theorem findIdx_born : ∀ (l : List MapEntry) (j : Nat) (m : MapEntry), (l.map (·.born)).Nodup → l[j]? = some m → l.findIdx? (fun e => (e.born : Int) == (m.born : Int)) = some j
  | [], _, _, _, h => by simp at h
  | x :: l, 0, m, hn, h => by
    simp only [List.getElem?_cons_zero, Option.some.injEq] at h
    subst h
    simp [List.findIdx?_cons]
  | x :: l, j + 1, m, hn, h => by
    simp only [List.getElem?_cons_succ] at h
    simp only [List.map_cons, List.nodup_cons] at hn
    have hne : ¬ ((x.born : Int) = (m.born : Int)) := fun e => hn.1 (List.mem_map.2 ⟨m, List.mem_iff_getElem?.2 ⟨j, h⟩, by omega⟩)
    rw [List.findIdx?_cons]
    simp only [beq_iff_eq, hne, if_false]
    rw [findIdx_born l j m hn.2 h]
    rfl
theorem run_asGo {P : Program} : (asInt (goInt n)).run P w = .ok (n : Int) w := rfl
theorem arr_findIdx {α : Type} (p : α → Bool) (l : Array α) : l.findIdx? p = l.toList.findIdx? p := by
  cases l; simp
section
variable {P : Program} {st : St} {K V : Type} [BEq K]
theorem entry_run {k : Kc K} {v : Cd V} (hr : Rel st a w g) {es : List (K × V)} {key : K} {y z : V} (hT : P.underlying T = some (.map KT ET)) (hk : keyTOf P KT = some k.kt)
    (hm : hMap k v st.H (some i) = some es) (hz : zeroD P ET = some (v.enc z)) (hi : Rd g w iv (k.c.enc key)) (hy : Rd g w yv (v.enc y)) :
    ∃ kb w1 v0 born, g.ρ[i]? = some kb ∧ g.ow kb = .obj i ∧ (Instr.mapEntry T (.map (some kb)) iv).run P w = .ok (.tuple #[v0, goInt born]) w1 ∧ w1.heap.size = w.heap.size ∧ SameOs w w1 ∧ (∀ k', k' ≠ kb → w1.heap[k']? = w.heap[k']?) ∧
      RO g w1 i (.map ((mPut key ((es.lookup key).getD z) es).map (encE k v))) ∧
      ∃ w2, (Instr.entryStore T (.map (some kb)) (goInt born) yv).run P w1 = .ok () w2 ∧ w2.heap.size = w1.heap.size ∧ SameOs w1 w2 ∧ (∀ k', k' ≠ kb → w2.heap[k']? = w1.heap[k']?) ∧ RO g w2 i (.map ((mPut key y es).map (encE k v))) := by
  obtain ⟨kb, ms, clock, f1, f2, f3, f4, f5, f6, r, g1, g2⟩ := map_found hr hm hi
  obtain ⟨vz, ez, rz⟩ := zeroD_sound (P := P) (g := g) (w := w) hz
  have keepBlk : ∀ {w0 w' : World} (o' : Own), (∀ k', k' ≠ kb → w'.heap[k']? = w0.heap[k']?) → o' ≠ .obj i → Keep o' g w0 g w' := fun o' h ho => Keep.block f2 ho h
  -- what stands in the map in the end, of whatever value
  have fin : ∀ {w' : World} {x : V} {xv : Value} {ms' : Array MapEntry} {clock' : Nat}, (∀ k', k' ≠ kb → w'.heap[k']? = w.heap[k']?) → w'.heap[kb]? = some (.map ms' clock') → Rd g w xv (v.enc x) → bornOk ms' clock' →
      ((r = none ∧ ∃ b, ms' = ms.push { key := iv, val := xv, born := b }) ∨ ∃ j u, r = some (j, u) ∧ ms' = ms.modify j fun e => { e with key := iv, val := xv }) → RO g w' i (.map ((mPut key x es).map (encE k v))) := by
    intro w' x xv ms' clock' hw hb hx hbo hms
    have up : ∀ {u : Value} {x : D}, Rd g w u x → Rd g w' u x := fun h => Rd.keep (keepBlk _ hw (by simp)) (fun _ _ h => h) h
    rcases g2 with ⟨g3, hrn, g4⟩ | ⟨y0, u, j, g3, hrs, g5, g4⟩
    · obtain ⟨b, rfl⟩ : ∃ b, ms' = ms.push { key := iv, val := xv, born := b } := by
        rcases hms with ⟨-, h⟩ | ⟨j, u, h, -⟩
        · exact h
        · rw [hrn] at h; cases h
      refine ⟨kb, _, clock', f1, f2, hb, by rw [mPut_none k v key x es g4]; simp [f4], hbo, fun j p hj => ?_⟩
      rw [mPut_none k v key x es g4] at hj
      by_cases hlt : j < es.length
      · rw [List.getElem?_append_left (by simpa using hlt), List.getElem?_map] at hj
        simp only [Option.map_eq_some_iff] at hj
        obtain ⟨q, hq, rfl⟩ := hj
        obtain ⟨m, m1, m2, m3⟩ := f6 j q hq
        exact ⟨m, by rw [Array.getElem?_push_lt (by omega), ← Array.getElem?_eq_getElem]; exact m1, up m2, up m3⟩
      · have : j = es.length := by have := get_lt hj; simp at this; omega
        subst this
        rw [List.getElem?_append_right (by simp)] at hj
        simp only [List.length_map, Nat.sub_self, List.getElem?_cons_zero, Option.some.injEq] at hj
        subst hj
        exact ⟨{ key := iv, val := xv, born := b }, by rw [← f4]; simp, up hi, up hx⟩
    · obtain ⟨i1, ⟨p, i2, i3⟩, i4⟩ := mPut_some k v key x es j _ g4
      obtain ⟨m, m1, m2, m3⟩ := f6 j p i2
      have hms : ms' = ms.modify j fun e => { e with key := iv, val := xv } := by
        rcases hms with ⟨h, -⟩ | ⟨j', u', h, h'⟩
        · rw [hrs] at h; cases h
        · rw [hrs] at h; cases h; exact h'
      subst hms
      refine ⟨kb, _, clock', f1, f2, hb, by rw [i4]; simp [f4], hbo, fun j' p' hj => ?_⟩
      rw [i4] at hj
      by_cases e : j = j'
      · subst e
        rw [List.getElem?_set_self (by simpa using i1)] at hj
        cases hj
        refine ⟨{ m with key := iv, val := xv }, ?_, up hi, up hx⟩
        simp [Array.getElem?_modify, m1]
      · rw [List.getElem?_set_ne e, List.getElem?_map] at hj
        simp only [Option.map_eq_some_iff] at hj
        obtain ⟨q, hq, rfl⟩ := hj
        obtain ⟨m, m1, m2, m3⟩ := f6 j' q hq
        exact ⟨m, by simp [Array.getElem?_modify, e, m1], up m2, up m3⟩
  obtain ⟨b1, b2⟩ := f5
  have pushOk : ∀ xv, bornOk (ms.push { key := iv, val := xv, born := clock }) (clock + 1) := fun xv => by
    refine ⟨fun m hm => ?_, ?_⟩
    · simp only [Array.toList_push, List.mem_append, List.mem_singleton] at hm
      rcases hm with h | rfl
      · have := b1 m h; omega
      · simp
    · simp only [Array.toList_push, List.map_append, List.map_cons, List.map_nil]
      refine List.nodup_append.2 ⟨b2, by simp, fun x hx y hy => ?_⟩
      simp only [List.mem_singleton] at hy
      subst hy
      obtain ⟨m, hm, rfl⟩ := List.mem_map.1 hx
      have := b1 m hm; omega
  have modOk : ∀ (j : Nat) (f : MapEntry → MapEntry), (∀ e, (f e).born = e.born) → bornOk (ms.modify j f) clock := fun j f hf => by
    have hborn : (ms.modify j f).toList.map (·.born) = ms.toList.map (·.born) := by
      apply List.ext_getElem?
      intro n
      simp only [Array.toList_modify, List.getElem?_map, List.getElem?_modify]
      by_cases e : j = n
      · subst e; simp only [if_true]; cases ms.toList[j]? <;> simp [hf]
      · simp [e]
    refine ⟨fun m hm => ?_, by rw [hborn]; exact b2⟩
    have : m.born ∈ ms.toList.map (·.born) := by rw [← hborn]; exact List.mem_map_of_mem hm
    obtain ⟨m', hm', e⟩ := List.mem_map.1 this
    rw [← e]; exact b1 m' hm'
  have two : ∀ {o1 o2 : Obj}, w.heap[kb]? = some (.map ms clock) → (setBlk (setBlk w kb o1) kb o2).heap[kb]? = some o2 := fun h => setBlk_self (setBlk_self h)
  rcases g2 with ⟨g3, hrn, g4⟩ | ⟨y0, u, j, g3, hrs, g5, g4⟩
  · rw [hrn] at g1
    refine ⟨kb, setBlk w kb (.map (ms.push { key := iv, val := vz, born := clock }) (clock + 1)), vz, clock, f1, f2, ?_, setBlk_size, ⟨rfl, rfl⟩, fun k' h => setBlk_other h, ?_, setBlk (setBlk w kb (.map (ms.push { key := iv, val := vz, born := clock }) (clock + 1))) kb (.map (ms.push { key := iv, val := yv, born := clock }) (clock + 1)), ?_, setBlk_size, ⟨rfl, rfl⟩, fun k' h => setBlk_other h, ?_⟩
    · simp only [Instr.mapEntry, Sem.run_bind, run_underlying hT, Result.andThen_ok, run_getMap f3, run_checkKey hk, run_findKey hk g1, rz, run_setMap f3, Sem.run_pure]
    · refine fin (xv := vz) (fun k' h => setBlk_other h) (setBlk_self f3) ?_ (pushOk vz) (.inl ⟨hrn, clock, rfl⟩)
      rw [g3]; exact ez
    · have hfi : (ms.push { key := iv, val := vz, born := clock }).findIdx? (fun e => (e.born : Int) == (clock : Int)) = some ms.size := by
        have := findIdx_born (ms.push { key := iv, val := vz, born := clock }).toList ms.size { key := iv, val := vz, born := clock } (pushOk vz).2 (by simp)
        rw [arr_findIdx]; exact this
      have hmod : (ms.push { key := iv, val := vz, born := clock }).modify ms.size (fun e => { e with val := yv }) = ms.push { key := iv, val := yv, born := clock } := by
        apply Array.ext_getElem?
        intro n
        simp only [Array.getElem?_modify, Array.getElem?_push]
        by_cases e : ms.size = n
        · subst e; simp
        · have e' : ¬ n = ms.size := fun h => e h.symm
          simp [e, e']
      simp only [Instr.entryStore, Sem.run_bind, Result.andThen_ok, run_getMap (setBlk_self f3), run_asGo, hfi, hmod, run_setMap (setBlk_self f3)]
    · exact fin (xv := yv) (fun k' h => by rw [setBlk_other h, setBlk_other h]) (two f3) hy (pushOk yv) (.inl ⟨hrn, clock, rfl⟩)
  · rw [hrs] at g1
    obtain ⟨i1, ⟨p, i2, i3⟩, i4⟩ := mPut_some k v key y es j _ g4
    obtain ⟨m, m1, m2, m3⟩ := f6 j p i2
    have hsb : Instr.sameBits 10000 m.key iv = true := sameBits_key (k.isK _) (k.isK _) hi m2 (by rw [k.same]; exact i3)
    -- the value found is the entry's
    have hu : u = m.val := by
      have := findNow_val g1 m1
      exact this
    subst hu
    refine ⟨kb, setBlk w kb (.map (ms.modify j fun e => { e with key := iv }) clock), m.val, m.born, f1, f2, ?_, setBlk_size, ⟨rfl, rfl⟩, fun k' h => setBlk_other h, ?_, setBlk (setBlk w kb (.map (ms.modify j fun e => { e with key := iv }) clock)) kb (.map (ms.modify j fun e => { e with key := iv, val := yv }) clock), ?_, setBlk_size, ⟨rfl, rfl⟩, fun k' h => setBlk_other h, ?_⟩
    · simp only [Instr.mapEntry, Sem.run_bind, run_underlying hT, Result.andThen_ok, run_getMap f3, run_checkKey hk, run_findKey hk g1, m1, Option.map_some, Option.getD_some, Instr.keyThatStays, hsb, if_true, Sem.run_pure, run_setMap f3]
    · refine fin (xv := m.val) (fun k' h => setBlk_other h) (setBlk_self f3) ?_ (modOk j _ fun _ => rfl) (.inr ⟨j, _, hrs, ?_⟩)
      · rw [g3]; exact g5
      · apply Array.ext_getElem?
        intro n
        simp only [Array.getElem?_modify]
        by_cases e : j = n
        · subst e; simp [m1]
        · simp [e]
    · have hfi : (ms.modify j fun e => { e with key := iv }).findIdx? (fun e => (e.born : Int) == (m.born : Int)) = some j := by
        have := findIdx_born (ms.modify j fun e => { e with key := iv }).toList j { m with key := iv } (modOk j (fun e => { e with key := iv }) fun _ => rfl).2 (by simp [List.getElem?_modify, m1])
        rw [arr_findIdx]; exact this
      have hmod : (ms.modify j fun e => { e with key := iv }).modify j (fun e => { e with val := yv }) = ms.modify j fun e => { e with key := iv, val := yv } := by
        apply Array.ext_getElem?
        intro n
        simp only [Array.getElem?_modify]
        by_cases e : j = n
        · subst e; simp [m1]
        · simp [e]
      simp only [Instr.entryStore, Sem.run_bind, Result.andThen_ok, run_getMap (setBlk_self f3), run_asGo, hfi, hmod, run_setMap (setBlk_self f3)]
    · exact fin (xv := yv) (fun k' h => by rw [setBlk_other h, setBlk_other h]) (two f3) hy (modOk j _ fun _ => rfl) (.inr ⟨j, _, hrs, rfl⟩)
where
  findNow_val : ∀ {d : TypeDesc} {iv : Value} {ms : Array MapEntry} {j : Nat} {u : Value} {m : MapEntry}, Instr.findNow d iv ms.toList 0 = some (some (j, u)) → ms[j]? = some m → u = m.val := by
    intro d iv ms j u m h hm
    have key : ∀ (l : List MapEntry) (i j : Nat) (u : Value), Instr.findNow d iv l i = some (some (j, u)) → i ≤ j ∧ ∃ m, l[j - i]? = some m ∧ u = m.val := by
      intro l
      induction l with
      | nil => intro i j u h; simp [Instr.findNow] at h
      | cons e l ih =>
        intro i j u h
        simp only [Instr.findNow] at h
        split at h
        · simp only [Option.some.injEq, Prod.mk.injEq] at h
          obtain ⟨rfl, rfl⟩ := h
          exact ⟨Nat.le_refl _, e, by simp, rfl⟩
        · obtain ⟨h1, m, h2, h3⟩ := ih _ _ _ h
          refine ⟨by omega, m, ?_, h3⟩
          rw [show j - i = (j - (i + 1)) + 1 by omega]
          simpa using h2
        · cases h
    obtain ⟨-, m', h1, h2⟩ := key _ _ _ _ h
    simp only [Nat.sub_zero, Array.getElem?_toList] at h1
    rw [hm] at h1
    cases h1
    exact h2
end
end Go.Sh
namespace Go.Sh
mutual
/-- Does data name no object of the shadow heap? -/
def noPtr : D → Bool
  | .ptr _ _ | .map _ => false
  | .list _ xs => noPtrs xs
  | .agg cs => noPtrs cs
  | .iface _ x => noPtr x
  | .fn _ fs cs => noPtrs fs && noPtrs cs
  | .dptr cs => noPtrs cs
  | _ => true
def noPtrs : List D → Bool
  | [] => true
  | x :: xs => noPtr x && noPtrs xs
end
theorem noPtrs_get : ∀ {xs : List D}, noPtrs xs = true → ∀ (j : Nat) (y : D), xs[j]? = some y → noPtr y = true
  | [], _, j, y, h => by simp at h
  | x :: xs, hn, j, y, h => by
    simp only [noPtrs, Bool.and_eq_true] at hn
    cases j with
    | zero => simp at h; subst h; exact hn.1
    | succ j => exact noPtrs_get hn.2 j y (by simpa using h)
theorem noPtrs_map {α : Type} {f : α → D} (h : ∀ x, noPtr (f x) = true) : ∀ l : List α, noPtrs (l.map f) = true
  | [] => rfl
  | x :: l => by simp [noPtrs, h x, noPtrs_map h l]
theorem noPtrs_cells (h : noPtr x = true) : ∀ (j : Nat) (y : D), x.cells[j]? = some y → noPtr y = true := by
  intro j y hy
  cases x with
  | agg cs => simp only [noPtr] at h; exact noPtrs_get h j y hy
  | _ =>
    cases j with
    | zero => simp [D.cells] at hy; subst hy; exact h
    | succ j => simp [D.cells] at hy
def noPtrSV : SV → Bool
  | .d x => noPtr x
  | .own _ xs => noPtrs xs
  | .tup vs => vs.all fun | .d x => noPtr x | .own _ xs => noPtrs xs | .undef => true | _ => false
  | .undef => true
  | _ => false
/-- Reading data that name no object asks nothing of the objects. -/
theorem Rd.noObj (hk : Keep .free g w g' w') (h : Rd g w v x) (hn : noPtr x = true) : Rd g' w' v x := by
  induction h with
  | bool => exact .bool
  | int => exact .int
  | str => exact .str
  | nilS => exact .nilS
  | list0 => exact .list0
  | list us hk' hb hl hp hn' hc _ ih =>
    refine .list us (hk _ _ hk' hb).1 (hk _ _ hk' hb).2 hl hp hn' hc fun i x hx j y hy => ih i x hx j y hy ?_
    simp only [noPtr] at hn
    exact noPtrs_cells (noPtrs_get hn i x hx) j y hy
  | agg hl us hc _ ih => exact .agg hl us hc fun j y hy => ih j y hy (noPtrs_get (by simpa [noPtr] using hn) j y hy)
  | nilIface => exact .nilIface
  | iface _ ih => exact .iface (ih (by simpa [noPtr] using hn))
  | fn hl1 hl2 us1 us2 hc1 _ hc2 _ ih1 ih2 =>
    simp only [noPtr, Bool.and_eq_true] at hn
    exact .fn hl1 hl2 us1 us2 hc1 (fun j y hy => ih1 j y hy (noPtrs_get hn.1 j y hy)) hc2 (fun j y hy => ih2 j y hy (noPtrs_get hn.2 j y hy))
  | nilFn => exact .nilFn
  | nilPtr => exact .nilPtr
  | ptr h => simp [noPtr] at hn
  | dptr us hk' hb hc _ ih => exact .dptr us (hk _ _ hk' hb).1 (hk _ _ hk' hb).2 hc fun j y hy => ih j y hy (noPtrs_get (by simpa [noPtr] using hn) j y hy)
  | nilMap => exact .nilMap
  | map h => simp [noPtr] at hn
  | raw h => exact .raw h
theorem RC.noObj (hk : Keep .free g w g' w') (h1 : Keep (.lst o) g w g' w') (h : RC g w o v s) (hn : noPtrSV s = true) : RC g' w' o v s := by
  cases s with
  | d x => exact Rd.noObj hk h hn
  | own n xs =>
    rcases h with h | ⟨k, off, cap, c, T, us, hv, ho, hb, hl, hz, hw, hc, hr⟩
    · exact .inl h
    · obtain ⟨ho', hb'⟩ := h1 k _ ho hb
      refine .inr ⟨k, off, cap, c, T, us, hv, ho', hb', hl, hz, hw, hc, fun i x hx j y hy => Rd.noObj hk (hr i x hx j y hy) ?_⟩
      simp only [noPtrSV] at hn
      exact noPtrs_cells (noPtrs_get hn i x hx) j y hy
  | pin v0 n xs => cases hn
  | undef => trivial
  | _ => exact h.elim
/-- What others own is hidden from a callee that names no object: but its arguments. -/
def hideOw : Own → Own
  | .free => .free
  | .lst (.slot j) => .lst (.slot j)
  | _ => .out
def Gh.hide (g : Gh) : Gh := ⟨fun k => hideOw (g.ow k), []⟩
/-- Whose a block is behind such a call: what was hidden is as it was. -/
def unhide (n : Nat) (ow ow' : Nat → Own) (k : Nat) : Own :=
  if k < n then (match ow k with | .free => .free | .lst (.slot j) => (match ow' k with | .obj _ => .out | .lst (.hcell _ _) => .out | o => o) | o => o)
  else match ow' k with | .obj _ => .out | .lst (.hcell _ _) => .out | o => o
/-- A function that begins without objects, whatever objects it leaves. -/
def LC (P : Program) (f : FuncId) (args : List SV) (r : SV) : Prop :=
  ∀ (w : World) (g : Gh) (vs : Array Value), RArgs g w vs args → RH g w [] → Calls P f vs w fun e w' => ∃ v g', e = .returned v ∧ RRes g' w' v r ∧ Fr false g w g' w'
theorem PC.of_local (ha : args.all noPtrSV = true) (hr : noPtrSV r = true) (h : LC P f args r) : PC P f args r := by
  intro H w g vs hA hH
  have hkeep : Keep .free g w g.hide w := fun k o h1 h2 => ⟨by simp [Gh.hide, h1, hideOw], h2⟩
  have hA' : RArgs g.hide w vs args := by
    refine ⟨hA.1, fun j s hj => ?_⟩
    obtain ⟨u, u1, u2⟩ := hA.2 j s hj
    refine ⟨u, u1, u2.noObj hkeep (fun k o h1 h2 => ⟨by simp [Gh.hide, h1, hideOw], h2⟩) ?_⟩
    grind
  refine (h w g.hide vs hA' ⟨rfl, by simp⟩).mono fun e w' hh => ?_
  obtain ⟨v, g', rfl, hres, hf⟩ := hh
  -- the owners behind the call
  let g2 : Gh := ⟨unhide w.heap.size g.ow g'.ow, g.ρ⟩
  -- old blocks that were hidden
  have hid : ∀ (k : Nat) (o : Obj), hideOw (g.ow k) = .out → w.heap[k]? = some o → g2.ow k = g.ow k ∧ w'.heap[k]? = some o := by
    intro k o h1 h2
    obtain ⟨-, h4⟩ := hf.out k o (by simpa [Gh.hide] using h1) h2
    refine ⟨?_, h4⟩
    have hlt := arr_lt h2
    show unhide w.heap.size g.ow g'.ow k = _
    unfold unhide
    rw [if_pos hlt]
    split
    · rename_i e; exact e.symm
    · rename_i j e; rw [e] at h1; cases h1
    · rfl
  have hfree : Keep .free g w g2 w' := by
    intro k o h1 h2
    obtain ⟨-, h4⟩ := hf.free k o (by simp [Gh.hide, h1, hideOw]) h2
    refine ⟨?_, h4⟩
    show unhide w.heap.size g.ow g'.ow k = _
    unfold unhide
    rw [if_pos (arr_lt h2), h1]
  have hback : Keep .free g' w' g2 w' := by
    intro k o h1 h2
    refine ⟨?_, h2⟩
    show unhide w.heap.size g.ow g'.ow k = _
    unfold unhide
    split
    · rename_i hlt
      cases hk : g.ow k with
      | free => rfl
      | lst l =>
        cases l with
        | slot j => simp only [h1]
        | _ =>
          exfalso
          have h2' : ∃ o', w.heap[k]? = some o' := ⟨w.heap[k], by simp [hlt]⟩
          obtain ⟨o', h3⟩ := h2'
          have := (hf.out k o' (by simp [Gh.hide, hk, hideOw]) h3).1
          rw [h1] at this; cases this
      | _ =>
        exfalso
        have h2' : ∃ o', w.heap[k]? = some o' := ⟨w.heap[k], by simp [hlt]⟩
        obtain ⟨o', h3⟩ := h2'
        have := (hf.out k o' (by simp [Gh.hide, hk, hideOw]) h3).1
        rw [h1] at this; cases this
    · rw [h1]
  have hbackL : ∀ l : Loc, (∀ i j, l ≠ .hcell i j) → Keep (.lst l) g' w' g2 w' := by
    intro l hl k o h1 h2
    refine ⟨?_, h2⟩
    show unhide w.heap.size g.ow g'.ow k = _
    unfold unhide
    have hno : (match g'.ow k with | .obj _ => Own.out | .lst (.hcell _ _) => .out | o => o) = .lst l := by
      grind
    split
    · rename_i hlt
      have h2' : ∃ o', w.heap[k]? = some o' := ⟨w.heap[k], by simp [hlt]⟩
      obtain ⟨o', h3⟩ := h2'
      have hcontra : hideOw (g.ow k) = .out ∨ hideOw (g.ow k) = .free → False := by
        rintro (e | e)
        · have := (hf.out k o' (by simpa [Gh.hide] using e) h3).1; rw [h1] at this; cases this
        · have := (hf.free k o' (by simpa [Gh.hide] using e) h3).1; rw [h1] at this; cases this
      cases hk : g.ow k with
      | free => exact (hcontra (.inr (by rw [hk]; rfl))).elim
      | lst l' =>
        cases l' with
        | slot j => exact hno
        | _ => exact (hcontra (.inl (by rw [hk]; rfl))).elim
      | _ => exact (hcontra (.inl (by rw [hk]; rfl))).elim
    · exact hno
  refine ⟨v, g2, rfl, ?_, ⟨hH.1, fun i o hi => ?_⟩, hf.size, hfree, ?_, fun _ _ h => h, ?_, ?_, fun _ => rfl, hf.os⟩
  · -- the result
    cases r with
    | d x => exact Rd.noObj hback hres hr
    | own n xs => exact RC.noObj (s := .own n xs) hback (hbackL _ (by simp)) hres hr
    | tup vs' =>
      obtain ⟨us, e1, e2, e3⟩ := hres
      refine ⟨us, e1, e2, fun j s hj => ?_⟩
      obtain ⟨u, u1, u2⟩ := e3 j s hj
      refine ⟨u, u1, u2.noObj hback (hbackL _ (by simp)) ?_⟩
      simp only [noPtrSV, List.all_eq_true] at hr
      have := hr s (List.mem_iff_getElem?.2 ⟨j, hj⟩)
      cases s <;> simpa [noPtrSV] using this
    | undef => trivial
    | _ => exact hres.elim
  · -- the objects
    have hhid : ∀ o', hideOw o' = .out → Keep o' g w g2 w' := fun o' ho' k ob h1 h2 => by
      grind
    exact (hH.2 i o hi).keepI hfree (hhid _ rfl) (fun j => hhid _ rfl) (fun _ _ h => h)
  · intro k o h1 h2
    obtain ⟨a, b⟩ := hid k o (by rw [h1]; rfl) h2
    exact ⟨a.trans h1, b⟩
  · intro _ i k o h1 h2
    obtain ⟨a, b⟩ := hid k o (by rw [h1]; rfl) h2
    exact ⟨a.trans h1, b⟩
  · intro _ i j k o h1 h2
    obtain ⟨a, b⟩ := hid k o (by rw [h1]; rfl) h2
    exact ⟨a.trans h1, b⟩
end Go.Sh
namespace Go.Sh
section
variable {P : Program} {st : St} {ops : Array Oper} {k m : Nat} {Q : St → Prop} (n : Nat) (H : List SObj)
/-! ## Reading -/
/-- A pointer that is asked not to be nil. -/
def ncAt (ops : Array Oper) (k : Nat) (st : St) : Option (Option Tmp × D) :=
  match opAt ops k st with
  | some o => match o.op with
    | .nilCheck (.tmp s) => match valD st (.tmp s) with
      | some d => some (o.dst, d)
      | none => none
    | _ => none
  | none => none
theorem BAt.nilc (hp : p = some i) (h : ncAt ops k st = some (d, cP.enc p) := by kernel_rfl) : BAt P ops k st d (.d (.ptr i 0)) := by
  subst hp
  unfold ncAt at h
  split at h
  · rename_i o ho
    split at h
    · rename_i s hop
      split at h
      · rename_i d' hv
        simp only [Option.some.injEq, Prod.mk.injEq] at h
        obtain ⟨rfl, rfl⟩ := h
        obtain ⟨h1, h2⟩ := opAt_inv ho
        refine ⟨o, h1, h2, BStep.of_bop ?_, rfl, rfl⟩
        simp only [valD, val] at hv
        split at hv
        · rename_i d hd
          cases hv
          simp [bop, hop, readOp, hd, readSV, someK, fnOk, cP]
        · cases hv
      · cases h
    · cases h
  · cases h
/-- What is loaded out of an object, its cells from there on being known to begin so. -/
def ldHAt (P : Program) (ops : Array Oper) (k : Nat) (st : St) (cs : List SV) : Option (Option Tmp × Nat × Nat × Hp × SV) :=
  match opAt ops k st with
  | some o => match o.op with
    | .load T x => match asLoc st x, ptrOf st x, ptrH st x with
      | none, none, some (i, off) =>
        if (P.underlying T).isNone then none
        else if isAggT P T then (if 0 < P.cellsOf T ∧ P.cellsOf T ≤ cs.length then (match allD (cs.take (P.cellsOf T)) with | some ys => some (o.dst, i, off, st.H, .d (.agg ys)) | none => none) else none)
        else match cs with
          | .d x :: _ => some (o.dst, i, off, st.H, .d x)
          | .own n xs :: _ => some (o.dst, i, off, st.H, .lent (.hcell i off) n xs)
          | _ => none
      | _, _, _ => none
    | _ => none
  | none => none
theorem BAt.ldH {α : Type} {c : Cc α} {x : α} (hx : hGet c H0 i off = some x) (h : ldHAt P ops k st (c.enc x) = some (d, i, off, H0, s) := by kernel_rfl) : BAt P ops k st d s := by
  obtain ⟨cs, r, e1, e2⟩ := hGet_eq hx
  unfold ldHAt at h
  split at h
  · rename_i o ho
    split at h
    · rename_i T xo hop
      split at h
      · rename_i i' off' h1 h2 h3
        obtain ⟨g1, g2⟩ := opAt_inv ho
        have key : ∀ s', loadS P T (.hcell i' off') (c.enc x ++ r) = some s' → i' = i → off' = off → st.H = H0 → locOk o.dst s' = true → BAt P ops k st o.dst s' := by
          rintro s' hl rfl rfl rfl hlk
          refine ⟨o, g1, g2, BStep.of_bop ?_, hlk, rfl⟩
          simp only [bop, hop, loadOp, h1, h2, h3, e1, e2, hl]
        split at h
        · cases h
        · rename_i hu
          split at h
          · rename_i ha
            split at h
            · rename_i hn
              split at h
              · rename_i ys hys
                simp only [Option.some.injEq, Prod.mk.injEq] at h
                obtain ⟨rfl, e3, e4, e5, rfl⟩ := h
                refine key _ ?_ e3 e4 e5 rfl
                unfold loadS
                grind
              · cases h
            · cases h
          · rename_i ha
            split at h
            · rename_i y rest hc
              simp only [Option.some.injEq, Prod.mk.injEq] at h
              obtain ⟨rfl, e3, e4, e5, rfl⟩ := h
              refine key _ ?_ e3 e4 e5 rfl
              unfold loadS
              grind
            · rename_i w' xs rest hc
              simp only [Option.some.injEq, Prod.mk.injEq] at h
              obtain ⟨rfl, e3, e4, e5, rfl⟩ := h
              refine key _ ?_ e3 e4 e5 rfl
              unfold loadS
              grind
            · cases h
      · cases h
    · cases h
  · cases h
/-- A key is looked up. -/
def lkAt (P : Program) (ops : Array Oper) (k : Nat) (st : St) : Option (Option Tmp × Bool × D × D × KeyT × D × Hp) :=
  match opAt ops k st with
  | some o => match o.op with
    | .lookup T x ix ok => match P.underlying T with
      | some (.map KT ET) => match keyTOf P KT, valD st x, valD st ix, zeroD P ET with
        | some kt, some dm, some dk, some z => some (o.dst, ok, dm, dk, kt, z, st.H)
        | _, _, _, _ => none
      | _ => none
    | _ => none
  | none => none
theorem BAt.look {K V : Type} [BEq K] {kc : Kc K} {v : Cd V} {key : K} {z : V} {q : Option V} (hq : hLook kc v H0 mm key = some q)
    (h : lkAt P ops k st = some (d, ok, cM.enc mm, kc.c.enc key, kc.kt, v.enc z, H0) := by kernel_rfl) : BAt P ops k st d (lookS v ok z q) := by
  unfold lkAt at h
  split at h
  · rename_i o ho
    split at h
    · rename_i T x ix ok' hop
      split at h
      · rename_i KT ET hT
        split at h
        · rename_i kt dm dk z' h1 h2 h3 h4
          simp only [Option.some.injEq, Prod.mk.injEq] at h
          obtain ⟨rfl, rfl, rfl, rfl, rfl, rfl, rfl⟩ := h
          obtain ⟨g1, g2⟩ := opAt_inv ho
          refine ⟨o, g1, g2, BStep.lookup hop hT h1 h2 h3 h4 hq, ?_, rfl⟩
          unfold lookS
          cases ok' <;> rfl
        · cases h
      · cases h
    · cases h
  · cases h
/-- How many entries a map has. -/
theorem OWk.caseO {pu : Bool} {α : Type} (p : Option α) (S : Option α → St) (h0 : st = S p) (hN : p = none → OWk P pu ops k (S none) Q) (hS : ∀ i, p = some i → OWk P pu ops k (S (some i)) Q) : OWk P pu ops k st Q := by
  subst h0
  cases p with
  | none => exact hN rfl
  | some i => exact hS i rfl
theorem OBk.caseO {α : Type} (p : Option α) (S : Option α → St) (h0 : st = S p) (hN : p = none → OBk P ops m k (S none) Q) (hS : ∀ i, p = some i → OBk P ops m k (S (some i)) Q) : OBk P ops m k st Q := by
  subst h0
  cases p with
  | none => exact hN rfl
  | some i => exact hS i rfl
/-! ## Writing -/
/-- A step that changes the shadow heap. -/
theorem OWk.heap (L : List Nat) (l : List (Nat × SV)) (ho : ops[k]? = some o) (hw : wantS ops st o = some true) (hs : OpS P false st o st') (hst : pickR n L st' = some (l, H)) (h : OWk P false ops (k + 1) (sp n l H) Q) : OWk P false ops k st Q :=
  OWk.e ho hw hs (OWk.keep L (keepR_of_pick hst) h)
def stHAt (P : Program) (ops : Array Oper) (k : Nat) (st : St) : Option (Nat × Nat × D × Hp) :=
  match opAt ops k st with
  | some o => match o.op with
    | .store T x y => match ptrH st x, valD st y with
      | some (i, off), some d => if (P.underlying T).isNone = false ∧ d.cells.length = P.cellsOf T ∧ o.dst = none then some (i, off, d, st.H) else none
      | _, _ => none
    | _ => none
  | none => none
theorem OWk.hst {α : Type} {c : Cd α} {x : α} (L : List Nat) (l : List (Nat × SV)) (hx : hSet c H0 i off x = some H) (h : stHAt P ops k st = some (i, off, c.enc x, H0)) (hst : pickR n L (st.hp H) = some (l, H))
    (hn : OWk P false ops (k + 1) (sp n l H) Q) : OWk P false ops k st Q := by
  unfold stHAt at h
  split at h
  · rename_i o ho
    split at h
    · rename_i T x y hop
      split at h
      · rename_i i' off' d h1 h2
        split at h
        · rename_i hc
          simp only [Option.some.injEq, Prod.mk.injEq] at h
          obtain ⟨rfl, rfl, rfl, rfl⟩ := h
          obtain ⟨g1, g2⟩ := opAt_inv ho
          exact OWk.heap n H L l g1 g2 (OpS.storeH hop hc.2.2 h1 h2 hc.1 hc.2.1 hx) hst hn
        · cases h
      · cases h
    · cases h
  · cases h
/-- A new object: a variable, one with a value, a map. -/
def newAt (P : Program) (ops : Array Oper) (k : Nat) (st : St) (l : List (Nat × Nat × Bool)) : Option (Option Tmp × SObj × Hp × Bool) :=
  match opAt ops k st with
  | some o => match o.op with
    | .alloc T => match zeroD P T with
      | some z => some (o.dst, .cells (nilCells l (z.cells.map .d)), st.H, false)
      | none => none
    | .box T x => match valD st x with
      | some y => some (o.dst, .cells (nilCells l (y.cells.map .d)), st.H, false)
      | none => none
    | .makeMap T none => some (o.dst, .map [], st.H, true)
    | _ => none
  | none => none
theorem OWk.hnew {d : Option Tmp} {ob : SObj} {H0 : Hp} {q : Hp × Nat} {b : Bool} (nl : List (Nat × Nat × Bool)) (L : List Nat) (l : List (Nat × SV)) (hq : hNew H0 ob = some q) (h : newAt P ops k st nl = some (d, ob, H0, b)) (hH : q.1 = H)
    (hst : pickR n L ((st.hp H).put d (.d (if b then .map q.2 else .ptr q.2 0))) = some (l, H)) (hn : OWk P false ops (k + 1) (sp n l H) Q) : OWk P false ops k st Q := by
  cases hq
  subst hH
  unfold newAt at h
  split at h
  · rename_i o ho
    obtain ⟨g1, g2⟩ := opAt_inv ho
    split at h
    · rename_i T hop
      split at h
      · rename_i z hz
        simp only [Option.some.injEq, Prod.mk.injEq] at h
        obtain ⟨rfl, rfl, rfl, rfl⟩ := h
        exact OWk.heap n _ L l g1 g2 (OpS.allocH nl hop hz) hst hn
      · cases h
    · rename_i T x hop
      split at h
      · rename_i y hy
        simp only [Option.some.injEq, Prod.mk.injEq] at h
        obtain ⟨rfl, rfl, rfl, rfl⟩ := h
        exact OWk.heap n _ L l g1 g2 (OpS.boxH nl hop hy) hst hn
      · cases h
    · rename_i T hop
      simp only [Option.some.injEq, Prod.mk.injEq] at h
      obtain ⟨rfl, rfl, rfl, rfl⟩ := h
      exact OWk.heap n _ L l g1 g2 (OpS.makeMapH hop) hst hn
    · cases h
  · cases h
/-- A map is written. -/
def mpAt (P : Program) (ops : Array Oper) (k : Nat) (st : St) : Option (D × D × D × KeyT × Hp) :=
  match opAt ops k st with
  | some o => match (match o.op with | .mapUpdate T x ix y => some (T, x, ix, y) | .insert T x ix y => some (T, x, ix, y) | _ => none) with
    | some (T, x, ix, y) => match P.underlying T with
      | some (.map KT ET) => match keyTOf P KT, valD st x, valD st ix, valD st y with
        | some kt, some dm, some dk, some dy => if o.dst = none then some (dm, dk, dy, kt, st.H) else none
        | _, _, _, _ => none
      | _ => none
    | none => none
  | none => none
theorem OWk.mput {K V : Type} [BEq K] {kc : Kc K} {v : Cd V} {key : K} {y : V} (L : List Nat) (l : List (Nat × SV)) (hx : hMput kc v H0 mm key y = some H) (h : mpAt P ops k st = some (cM.enc mm, kc.c.enc key, v.enc y, kc.kt, H0))
    (hst : pickR n L (st.hp H) = some (l, H)) (hn : OWk P false ops (k + 1) (sp n l H) Q) : OWk P false ops k st Q := by
  unfold mpAt at h
  split at h
  · rename_i o ho
    obtain ⟨g1, g2⟩ := opAt_inv ho
    split at h
    · rename_i T x ix yx hop
      split at h
      · rename_i KT ET hT
        split at h
        · rename_i kt dm dk dy h1 h2 h3 h4
          split at h
          · rename_i hd
            simp only [Option.some.injEq, Prod.mk.injEq] at h
            obtain ⟨rfl, rfl, rfl, rfl, rfl⟩ := h
            refine OWk.heap n H L l g1 g2 (OpS.mapUpdate ?_ hd hT h1 h2 h3 h4 hx) hst hn
            grind
          · cases h
        · cases h
      · cases h
    · cases h
  · cases h
def mdAt (P : Program) (ops : Array Oper) (k : Nat) (st : St) : Option (Option Tmp × D × D × KeyT × Hp) :=
  match opAt ops k st with
  | some o => match o.op with
    | .call c => match c.callee, c.args.toList, c.argTypes.toList with
      | .builtin .delete, [x, ix], [T, T2] => match P.underlying T with
        | some (.map KT ET) => match keyTOf P KT, valD st x, valD st ix with
          | some kt, some dm, some dk => some (o.dst, dm, dk, kt, st.H)
          | _, _, _ => none
        | _ => none
      | _, _, _ => none
    | _ => none
  | none => none
theorem OWk.mdel {K V : Type} [BEq K] {kc : Kc K} {v : Cd V} {key : K} (L : List Nat) (l : List (Nat × SV)) (hx : hMdel kc v H0 mm key = some H) (h : mdAt P ops k st = some (d, cM.enc mm, kc.c.enc key, kc.kt, H0))
    (hst : pickR n L ((st.hp H).put d (.tup [])) = some (l, H)) (hn : OWk P false ops (k + 1) (sp n l H) Q) : OWk P false ops k st Q := by
  unfold mdAt at h
  split at h
  · rename_i o ho
    obtain ⟨g1, g2⟩ := opAt_inv ho
    split at h
    · rename_i c hop
      split at h
      · rename_i x ix T T2 hc ha ht
        split at h
        · rename_i KT ET hT
          split at h
          · rename_i kt dm dk h1 h2 h3
            simp only [Option.some.injEq, Prod.mk.injEq] at h
            obtain ⟨rfl, rfl, rfl, rfl, rfl⟩ := h
            exact OWk.heap n H L l g1 g2 (OpS.mapDelete hop hc ha ht hT h1 h2 h3 hx) hst hn
          · cases h
        · cases h
      · cases h
    · cases h
  · cases h
/-! ## A map's entry, made and filled -/
def isNot : Operand → Nat → Bool
  | .tmp t, d => t != d
  | _, _ => true
theorem isNot_ne (h : isNot x d = true) : x ≠ .tmp d := by
  rintro rfl
  simp [isNot] at h
def meAt (P : Program) (ops : Array Oper) (k : Nat) (st : St) : Option (Tmp × Tmp × D × D × D × D × KeyT × Hp) :=
  match ops[k]?, ops[k + 1]?, ops[k + 2]? with
  | some o1, some o2, some o3 => match o1.guard, o2.guard, o3.guard, o1.dst, o2.dst, o3.dst with
    | none, none, none, some d1, some d2, none => match o1.op, o2.op, o3.op with
      | .mapEntry T (.tmp x) ix, .extract (.tmp d1') 1, .entryStore T' (.tmp x') (.tmp d2') y => if d1' = d1 ∧ d2' = d2 ∧ x' = x ∧ x ≠ d1 ∧ x ≠ d2 ∧ isNot y d1 = true ∧ isNot y d2 = true ∧ d1 < st.tmps.length ∧ d2 < st.tmps.length then
          match P.underlying T with
          | some (.map KT ET) => match keyTOf P KT, valD st (.tmp x), valD st ix, valD st y, zeroD P ET with
            | some kt, some dm, some dk, some dy, some z => some (d1, d2, dm, dk, dy, z, kt, st.H)
            | _, _, _, _, _ => none
          | _ => none
        else none
      | _, _, _ => none
    | _, _, _, _, _, _ => none
  | _, _, _ => none
theorem eval_put_other {a : Act} {d : Nat} {v : Value} {x : Operand} (h : x ≠ .tmp d) : (a.put (some d) v).eval x = a.eval x := by
  cases x with
  | tmp t => exact valOf_put (by simpa using fun e => h (by rw [e]))
  | _ => rfl
theorem OWk.ment {K V : Type} [BEq K] {kc : Kc K} {v : Cd V} {mm : Option Nat} {key : K} {y z : V} {H0 : Hp} {d1 d2 : Nat} (L : List Nat) (l : List (Nat × SV)) (hx : hMput kc v H0 mm key y = some H)
    (h : meAt P ops k st = some (d1, d2, cM.enc mm, kc.c.enc key, v.enc y, v.enc z, kc.kt, H0)) (hst : pickR n L (((st.hp H).put (some d1) .undef).put (some d2) .undef) = some (l, H)) (hn : OWk P false ops (k + 3) (sp n l H) Q) : OWk P false ops k st Q := by
  unfold meAt at h
  split at h
  · rename_i o1 o2 o3 ho1 ho2 ho3
    split at h
    · rename_i d1' d2' hg1 hg2 hg3 hd1 hd2 hd3
      split at h
      · rename_i T x ix e1 T' x' e2 yx hp1 hp2 hp3
        split at h
        · rename_i hc
          obtain ⟨rfl, rfl, rfl, hx1, hx2, hy1, hy2, hl1, hl2⟩ := hc
          replace hx1 : Operand.tmp x' ≠ .tmp e1 := fun e => hx1 (by injection e)
          replace hx2 : Operand.tmp x' ≠ .tmp e2 := fun e => hx2 (by injection e)
          replace hy1 := isNot_ne hy1
          replace hy2 := isNot_ne hy2
          split at h
          · rename_i KT ET hT
            split at h
            · rename_i kt dm dk dy z' h1 h2 h3 h4 h5
              simp only [Option.some.injEq, Prod.mk.injEq] at h
              obtain ⟨rfl, rfl, rfl, rfl, rfl, rfl, rfl, rfl⟩ := h
              simp only [hMput, Option.bind_eq_some_iff, Option.map_eq_some_iff] at hx
              obtain ⟨i, rfl, es, hm, rfl⟩ := hx
              unfold OWk OW at hn ⊢
              rw [drop_cons ho1, drop_cons ho2, drop_cons ho3]
              intro a w g hr Qc hq
              obtain ⟨kb', q1, q2⟩ := mapOf_sound hr h2
              obtain ⟨kb, w1, v0, born, f1, f2, f3, f4, fo1, f5, f6, w2, f7, f8, fo2, f9, f10⟩ := entry_run hr hT h1 hm h5 (valD_d hr h3) (valD_d hr h4)
              have hkb : kb = kb' := by rw [f1] at q1; exact Option.some.inj q1
              subst hkb
              have want : ∀ (o : Oper) (y : Nat → Option Bool), o.guard = none → Region.wanted o y = true := fun o y h => by unfold Region.wanted; rw [h]
              -- the entry
              unfold wpList
              rw [want _ _ hg1, if_pos rfl]
              refine .inl ?_
              have r1 : (execOp a.eval o1).run P w = .ok (.value (.tuple #[v0, goInt born])) w1 := by
                unfold execOp; rw [hp1]
                simp only [q2, Sem.run_bind, f3, Result.andThen_ok, Sem.run_pure]
              unfold Oper.wp
              rw [r1, Oper.upon_value, hd1]
              -- its stamp
              unfold wpList
              rw [want _ _ hg2, if_pos rfl]
              refine .inl ?_
              have hlen1 : e1 < a.tmps.size := by rw [hr.len]; exact hl1
              have hlen2 : e2 < (a.put (some e1) (.tuple #[v0, goInt born])).tmps.size := by rw [put_size, hr.len]; exact hl2
              have ev1 : (a.put (some e1) (.tuple #[v0, goInt born])).eval (.tmp e1) = .tuple #[v0, goInt born] := valOf_put_same hlen1
              have r2 : (execOp (a.put (some e1) (.tuple #[v0, goInt born])).eval o2).run P w1 = .ok (.value (goInt born)) w1 := by
                unfold execOp; rw [hp2]
                simp only [ev1, Instr.extract, Sem.run_bind]
                rfl
              unfold Oper.wp
              rw [r2, Oper.upon_value, hd2]
              -- its value
              unfold wpList
              rw [want _ _ hg3, if_pos rfl]
              refine .inl ?_
              have ev2 : ((a.put (some e1) (.tuple #[v0, goInt born])).put (some e2) (goInt born)).eval (.tmp e2) = goInt born := valOf_put_same hlen2
              have evx : ((a.put (some e1) (.tuple #[v0, goInt born])).put (some e2) (goInt born)).eval (.tmp x') = a.eval (.tmp x') := by rw [eval_put_other hx2, eval_put_other hx1]
              have evy : ((a.put (some e1) (.tuple #[v0, goInt born])).put (some e2) (goInt born)).eval yx = a.eval yx := by rw [eval_put_other hy2, eval_put_other hy1]
              have r3 : (execOp ((a.put (some e1) (.tuple #[v0, goInt born])).put (some e2) (goInt born)).eval o3).run P w1 = .ok .skip w2 := by
                unfold execOp; rw [hp3]
                simp only [evx, ev2, evy, q2, Sem.run_bind]
                have : (Instr.entryStore T' (.map (some kb)) (goInt born) (a.eval yx)).run P w1 = .ok () w2 := f7
                rw [this]
                rfl
              unfold Oper.wp
              rw [r3, Oper.upon_skip, hd3]
              have hother : ∀ k', k' ≠ kb → w2.heap[k']? = w.heap[k']? := fun k' h => by rw [f9 k' h, f5 k' h]
              have hsz : w2.heap.size = w.heap.size := f8.trans f4
              have hr2 : Rel (st.hp (st.H.set i (.map ((mPut key y es).map (encE kc v))))) a w2 g := hr.setObj (get_lt (hMap_eq.1 hm)) f1 f2 hother f10
              have hr3 := (hr2.putLight (some e1) (v := .tuple #[v0, goInt born]) (s := .undef) trivial).putLight (some e2) (v := goInt born) (s := .undef) trivial
              refine hn _ w2 g (hr3.keepR (keepR_of_pick hst)) Qc fun st' a' w' g' q r f => hq st' a' w' g' q r ((Fr.setObj f2 hsz hother (fo1.trans fo2)).trans f)
            · cases h
          · cases h
        · cases h
      · cases h
    · cases h
  · cases h
/-! ## Ways that meet, loops: the heap is part of what is handed on -/
variable {pu : Bool}
theorem SW.jnH {α : Type} {Q : Exit → St → Prop} (L : List Nat) (l : α → List (Nat × SV)) (Hf : α → Hp) (C : α → Prop) (hj : ∀ v, C v → SW P pu y (sp n (l v) (Hf v)) Q) (h : SW P pu x st (thenS (fun s => ∃ v ll, pickR n L (s.nils ll) = some (l v, Hf v) ∧ C v) Q)) : SW P pu (.seq x y) st Q :=
  SW.seqJ L (fun v => sp n (l v) (Hf v)) C hj (SW.mono h fun e s hh => by
    cases e with
    | normal => obtain ⟨v, ll, h1, h2⟩ := hh; exact ⟨v, ll, keepR_of_pick h1, h2⟩
    | _ => exact hh)
theorem SW.itH {γ β : Type} {Q : Exit → St → Prop} (L : List Nat) {body : γ → Option (γ ⊕ β)} (l : γ → List (Nat × SV)) (Hf : γ → Hp) (E : β → Exit → St → Prop) {x : γ} {b : β} (hit : Sh.iter body fuel x = some b) (h0 : pickR n L st = some (l x, Hf x))
    (round : ∀ x o, body x = some o → SW P pu c (sp n (l x) (Hf x)) (thenS (fun s' => ∃ y, o = .inl y ∧ pickR n L s' = some (l y, Hf y)) (fun e s' => ∃ b, o = .inr b ∧ E b e s')))
    (after : ∀ e s', E b e s' → Q e s') : SW P pu (.loop c) st Q :=
  SW.iterK L (fun x => sp n (l x) (Hf x)) E hit (keepR_of_pick h0) (fun x o h => SW.mono (round x o h) fun e s hh => by
    cases e with
    | normal => obtain ⟨y, h1, h2⟩ := hh; exact ⟨y, h1, keepR_of_pick h2⟩
    | _ => exact hh) after
/-! ## How a body ends whose objects are nobody else's -/
def EndL (P : Program) (rs : List ResultVar) (r : SV) (e : Exit) (st : St) : Prop := ∃ H, EndQ P rs H r e st
theorem EndL.ret (l : List (Nat × Nat)) (h : endV P rs (st.nils l) = some r) : EndL P rs r .ret st := ⟨st.H, .ret l h rfl⟩
theorem EndL.normal (l : List (Nat × Nat)) (h : endV P rs (st.nils l) = some r) : EndL P rs r .normal st := ⟨st.H, .normal l h rfl⟩
end
/-- A contract where the heap behind the call is not told. -/
theorem PC.of_localSW {P : Program} (hf : P.funcs[f]? = some fn) (hb : fn.body = some c) (ha : args.all noPtrSV = true) (hr : noPtrSV r = true)
    (h : SW P false c (initSt fn.ntmps args []) (EndL P fn.results.toList r)) : PC P f args r := by
  refine PC.of_local ha hr fun w g vs hA hH => ?_
  have := calls_of_SW (P := P) (pu := false) (args := args) (H := []) (r := r) (fun _ => True) hf hb (fun a w g hr => ?_) w g vs hA hH
  · exact this.mono fun e w' hh => by
      grind
  · refine Code.wp_mono (fun e a' w' hh => ?_) (h a w g hr)
    obtain ⟨st', g', ⟨H', he, l, h1, h2⟩, r1, f⟩ := hh
    exact ⟨st'.nils l, g', ⟨he, endV_ok h1, trivial⟩, r1.nils, f⟩
end Go.Sh
namespace Go.Sh
theorem elim_n {β α : Type} {a : α} {f : β → α} {r : α} (h : Option.elim none a f = r) : a = r := h
theorem elim_s {β α : Type} {a : α} {f : β → α} {i : β} {r : α} (h : Option.elim (some i) a f = r) : f i = r := h
end Go.Sh
namespace Go.Sh
/-! ## The plain side -/
/-- A loop over entries, one after the other. -/
def foldI {γ ε β : Type} (step : γ → ε → Option (γ ⊕ β)) : γ → List ε → Option (γ ⊕ β)
  | x, [] => some (.inl x)
  | x, y :: r => match step x y with
    | some (.inl x') => foldI step x' r
    | some (.inr b) => some (.inr b)
    | none => none
open Classical in
/-- What all orders of a list agree on. -/
noncomputable def allP {α ρ : Type} (l : List α) (f : List α → Option ρ) : Option ρ :=
  if h : ∃ r, ∀ p : List α, p.Perm l → f p = some r then some (Classical.choose h) else none
theorem allP_inv {α ρ : Type} {l : List α} {f : List α → Option ρ} {r : ρ} (h : allP l f = some r) : ∀ p : List α, p.Perm l → f p = some r := by
  unfold allP at h
  split at h
  · rename_i hx
    cases h
    exact Classical.choose_spec hx
  · cases h
theorem allP_eq {α ρ : Type} {l : List α} {f : List α → Option ρ} {r : ρ} (h : ∀ p : List α, p.Perm l → f p = some r) : allP l f = some r := by
  have hx : ∃ r, ∀ p : List α, p.Perm l → f p = some r := ⟨r, h⟩
  unfold allP
  rw [dif_pos hx]
  have h1 := Classical.choose_spec hx l (List.Perm.refl _)
  rw [h l (List.Perm.refl _)] at h1
  exact h1.symm
structure Rng (K V : Type) where
  es : List (K × V)
  H : Hp
  it : Nat
  mi : Nat
/-- A map is taken out of the heap to go through it; the iterator has a place too. -/
def hRange {K V : Type} [BEq K] (k : Kc K) (v : Cd V) (H : Hp) (m : Option Nat) : Option (Rng K V) :=
  m.bind fun i => (hMap k v H (some i)).map fun es => ⟨es, H.set i .hole ++ [.hole], H.length, i⟩
def holes {K V : Type} (q : Rng K V) (H : Hp) : Bool := (match H[q.it]? with | some .hole => true | _ => false) && (match H[q.mi]? with | some .hole => true | _ => false)
/-- The map is put back. -/
def hBack {K V : Type} [BEq K] (k : Kc K) (v : Cd V) (q : Rng K V) (H : Hp) : Option Hp := if holes q H then some (H.set q.mi (.map (q.es.map (encE k v)))) else none
def hIt {K V : Type} [BEq K] (k : Kc K) (v : Cd V) (q : Rng K V) (kb clock : Nat) (ms : Array MapEntry) : Hp := (q.H.set q.mi (.mapX kb clock ms (q.es.map (encE k v)))).set q.it (.iter kb clock)
section
variable {P : Program} {st : St} {ops : Array Oper} {k : Nat} {Q : St → Prop} (n : Nat) (H : List SObj) {K V : Type} [BEq K]
def rgAt (P : Program) (ops : Array Oper) (k : Nat) (st : St) : Option (Option Tmp × D × Hp) :=
  match opAt ops k st with
  | some o => match o.op with
    | .range T x => match P.underlying T, valD st x with
      | some (.map _ _), some dm => some (o.dst, dm, st.H)
      | _, _ => none
    | _ => none
  | none => none
theorem OWk.mrange {kc : Kc K} {v : Cd V} {q : Rng K V} (hx : hRange kc v H0 mm = some q) (h : rgAt P ops k st = some (d, cM.enc mm, H0)) (L : List Nat) (l : List (Nat × SV))
    (hst : ∀ H1, pickR n L ((st.hp H1).put d (.d (.ptr q.it 0))) = some (l, H1))
    (hn : ∀ kb clock ms, OWk P false ops (k + 1) (sp n l (hIt kc v q kb clock ms)) Q) : OWk P false ops k st Q := by
  unfold rgAt at h
  split at h
  · rename_i o ho
    obtain ⟨g1, g2⟩ := opAt_inv ho
    split at h
    · rename_i T x hop
      split at h
      · rename_i KT ET dm hT hv
        simp only [Option.some.injEq, Prod.mk.injEq] at h
        obtain ⟨rfl, rfl, rfl⟩ := h
        simp only [hRange, Option.bind_eq_some_iff, Option.map_eq_some_iff] at hx
        obtain ⟨i, rfl, es, hm, rfl⟩ := hx
        unfold OWk at hn ⊢
        rw [drop_cons g1]
        intro a w g hr Qc hq
        unfold wpList
        rw [wantS_sound hr g2, if_pos rfl]
        refine .inl ?_
        obtain ⟨kb, e1, e2⟩ := mapOf_sound hr hv
        have hH := hMap_eq.1 hm
        obtain ⟨kb', ms, clock, f1, f2, f3, f4, f5, f6⟩ := hr.hp.2 i _ hH
        have hkb : kb = kb' := by rw [f1] at e1; exact (Option.some.inj e1).symm
        subst hkb
        have hrun : (execOp a.eval o).run P w = .ok (.value (.pointer (some ⟨w.heap.size, 0, none⟩))) (w.alloc (.mapIter (some kb) clock #[] clock)) := by
          unfold execOp; rw [hop]
          simp only [e2, Instr.range, Sem.run_bind, run_underlying hT, Result.andThen_ok, run_getMap f3, Sem.run_pure, run_newObj]
          rfl
        unfold Oper.wp
        rw [hrun, Oper.upon_value]
        have hlen := get_lt hH
        have hrel : Rel (st.hp (hIt kc v ⟨es, st.H.set i .hole ++ [.hole], st.H.length, i⟩ kb clock ms)) a (w.alloc (.mapIter (some kb) clock #[] clock)) (g.new w.heap.size st.H.length) := by
          refine Rel.step hr hr.len hr.def0 KeepR.new (fun t s hs => .inr (.inr ⟨hs, rfl, fun o' ho' => Keep.new, fun s' _ => ⟨rfl, fun x hx _ => ⟨x, hx, rfl⟩⟩⟩)) ⟨by simp [St.hp, hIt, Gh.new, hr.hp.1], fun i' o' hi' => ?_⟩
          simp only [St.hp, hIt] at hi'
          by_cases h1 : i' = st.H.length
          · subst h1
            rw [List.getElem?_set_self (by simp)] at hi'
            cases hi'
            exact ⟨w.heap.size, new_rho hr.hp _, new_ow _ _, heap_alloc _ _⟩
          · rw [List.getElem?_set_ne (Ne.symm h1)] at hi'
            by_cases h2 : i' = i
            · subst h2
              rw [List.getElem?_set_self (by simp; omega)] at hi'
              cases hi'
              obtain ⟨a1, a2⟩ := Keep.new (o' := .obj i') (g := g) (w := w) (ob := .mapIter (some kb) clock #[] clock) (i := st.H.length) kb _ f2 f3
              refine ⟨KeepR.new _ _ f1, a1, a2, by simpa using f4, f5, fun j p hj => ?_⟩
              obtain ⟨m, m1, m2, m3⟩ := f6 j p hj
              exact ⟨m, m1, Rd.keep Keep.new KeepR.new m2, Rd.keep Keep.new KeepR.new m3⟩
            · rw [List.getElem?_set_ne (Ne.symm h2)] at hi'
              by_cases h3 : i' < st.H.length
              · rw [List.getElem?_append_left (by simpa using h3), List.getElem?_set_ne (Ne.symm h2)] at hi'
                exact (hr.hp.2 i' o' hi').keepI Keep.new Keep.new (fun _ => Keep.new) KeepR.new
              · have := get_lt hi'
                simp at this
                omega
        refine hn kb clock ms _ _ _ ((hrel.putLight o.dst (s := .d (.ptr st.H.length 0)) (v := .pointer (some ⟨w.heap.size, 0, none⟩)) (.ptr (new_rho hr.hp _))).keepR (keepR_of_pick (hst _))) Qc fun st' a' w' g' q r f => hq st' a' w' g' q r (Fr.new.trans f)
      · cases h
    · cases h
  · cases h
/-- The entries that are to come. -/
def toCome {ε : Type} (ms : List MapEntry) (es : List ε) (seen : Array Nat) : List ε := ((ms.zip es).filter fun p => !seen.contains p.1.born).map (·.2)
theorem toCome_step {ε : Type} : ∀ (ms : List MapEntry) (es : List ε) (seen : Array Nat) (e : MapEntry), (ms.map (·.born)).Nodup → ms.length = es.length → e ∈ ms → seen.contains e.born = false →
    ∃ (j : Nat) (y : ε), ms[j]? = some e ∧ es[j]? = some y ∧ (toCome ms es seen).Perm (y :: toCome ms es (seen.push e.born))
  | [], _, _, e, _, _, h, _ => by simp at h
  | m :: ms, [], seen, e, _, h, _, _ => by simp at h
  | m :: ms, y :: es, seen, e, hn, hl, he, hs => by
    simp only [List.map_cons, List.nodup_cons] at hn
    by_cases h : m = e
    · subst h
      refine ⟨0, y, rfl, rfl, ?_⟩
      have hrest : toCome ms es (seen.push m.born) = toCome ms es seen := by
        unfold toCome
        congr 1
        apply List.filter_congr
        intro p hp
        have hne : p.1.born ≠ m.born := fun h => hn.1 (List.mem_map.2 ⟨p.1, (List.of_mem_zip hp).1, h⟩)
        simp [hne]
      have h1 : toCome (m :: ms) (y :: es) seen = y :: toCome ms es seen := by
        unfold toCome
        rw [List.zip_cons_cons, List.filter_cons_of_pos (by simp only [hs]; rfl)]
        rfl
      have h2 : toCome (m :: ms) (y :: es) (seen.push m.born) = toCome ms es (seen.push m.born) := by
        unfold toCome
        rw [List.zip_cons_cons, List.filter_cons_of_neg (by simp)]
      rw [h1, h2, hrest]
    · have he' : e ∈ ms := by
        rcases List.mem_cons.1 he with h' | h'
        · exact absurd h'.symm h
        · exact h'
      obtain ⟨j, z, j1, j2, j3⟩ := toCome_step ms es seen e hn.2 (by simpa using hl) he' hs
      refine ⟨j + 1, z, by simpa using j1, by simpa using j2, ?_⟩
      have hne : m.born ≠ e.born := fun h => hn.1 (List.mem_map.2 ⟨e, he', h.symm⟩)
      by_cases hm : seen.contains m.born = true
      · have h1 : toCome (m :: ms) (y :: es) seen = toCome ms es seen := by
          unfold toCome
          rw [List.zip_cons_cons, List.filter_cons_of_neg (by simp only [hm]; simp)]
        have h2 : toCome (m :: ms) (y :: es) (seen.push e.born) = toCome ms es (seen.push e.born) := by
          unfold toCome
          have : (seen.push e.born).contains m.born = true := by simp at hm ⊢; exact .inl hm
          rw [List.zip_cons_cons, List.filter_cons_of_neg (by simp only [this]; simp)]
        rw [h1, h2]; exact j3
      · have hm' : seen.contains m.born = false := by simpa using hm
        have h1 : toCome (m :: ms) (y :: es) seen = y :: toCome ms es seen := by
          unfold toCome
          rw [List.zip_cons_cons, List.filter_cons_of_pos (by simp only [hm']; rfl)]
          rfl
        have h2 : toCome (m :: ms) (y :: es) (seen.push e.born) = y :: toCome ms es (seen.push e.born) := by
          unfold toCome
          have : (seen.push e.born).contains m.born = false := by simp at hm' ⊢; exact ⟨hm', hne⟩
          rw [List.zip_cons_cons, List.filter_cons_of_pos (by simp only [this]; rfl)]
          rfl
        rw [h1, h2]
        exact (j3.cons y).trans (.swap _ _ _)
theorem toCome_empty {ε : Type} {ms : Array MapEntry} {es : List ε} {seen : Array Nat} (h : (leftOf ms seen).size = 0) : toCome ms.toList es seen = [] := by
  unfold toCome
  rw [List.map_eq_nil_iff, List.filter_eq_nil_iff]
  intro p hp
  have h0 : leftOf ms seen = #[] := Array.eq_empty_of_size_eq_zero h
  unfold leftOf at h0
  rw [Array.filter_eq_empty_iff] at h0
  exact h0 p.1 (by simpa using (List.of_mem_zip hp).1)
theorem wpList_val {Q : Exit → Act → World → Prop} (hg : o.guard = none) (hrun : (execOp a.eval o).run P w = .ok (.value v) w') (h : wpList P ops Q rest (a.put o.dst v) w') : wpList P ops Q (o :: rest) a w := by
  unfold wpList
  rw [show Region.wanted o (yielded ops a.tmps) = true by unfold Region.wanted; rw [hg], if_pos rfl]
  refine .inl ?_
  unfold Oper.wp
  rw [hrun, Oper.upon_value]
  exact h
theorem spL_len : ∀ (n : Nat) (l : List (Nat × SV)) (t : Nat), (spL l n t).length = n
  | 0, _, _ => rfl
  | n + 1, [], t => by simp [spL, spL_len n]
  | n + 1, (t', s) :: r, t => by simp only [spL]; split <;> simp [spL_len n]
/-- Blocks of two owners are lent to nobody for a while. -/
def Gh.lock (g : Gh) (r kb : Nat) : Gh := ⟨fun b => if b = r ∨ b = kb then .out else g.ow b, g.ρ⟩
def Gh.unlock (g : Gh) (r kb it mi : Nat) : Gh := ⟨fun b => if b = r then .obj it else if b = kb then .obj mi else g.ow b, g.ρ⟩
theorem RO.hole_of (h : (match o with | .hole => true | _ => false) = true) : RO g w i o := by
  cases o <;> first | trivial | cases h
theorem holes_inv {q : Rng K V} {H : Hp} (h : holes q H = true) : H[q.it]? = some .hole ∧ H[q.mi]? = some .hole := by
  unfold holes at h
  rw [Bool.and_eq_true] at h
  constructor
  · have := h.1
    split at this
    · assumption
    · cases this
  · have := h.2
    split at this
    · assumption
    · cases this
/-- **A LOOP OVER A MAP**: whatever order its entries come in, the loop ends as 'foldI' tells. -/
theorem SW.rng {γ β : Type} {kc : Kc K} {v : Cd V} {q : Rng K V} {Q : Exit → St → Prop} 
    (L : List Nat) (l : γ → List (Nat × SV)) (Hf : γ → Hp) (step : γ → K × V → Option (γ ⊕ β)) (x0 : γ) (C : γ ⊕ β → Prop) (E : β → Exit → St → Prop)
    (hx : hRange kc v H0 mm = some q) (hit : ∀ p : List (K × V), p.Perm q.es → ∃ z, foldI step x0 p = some z ∧ C z) (h0 : pickR n L st = some (l x0, hIt kc v q kb clock ms)) (hH0 : Hf x0 = q.H)
    (ho1 : o1.op = .next (.tmp ti) false) (hd1 : o1.dst = some tn) (hg1 : o1.guard = none) (ho2 : o2.op = .extract (.tmp tn) 0) (hd2 : o2.dst = some tc) (hg2 : o2.guard = none) (ho3 : o3.op = .entry (.tmp ti)) (hd3 : o3.dst = some te) (hg3 : o3.guard = none)
    (hsz : (decide (tn < n) && (decide (tc < n) && (decide (tn ≠ ti) && decide (tc ≠ ti)))) = true) (hs : ∀ x, valD (sp n (l x) (Hf x)) (.tmp ti) = some (.ptr q.it 0)) (hk : ∀ x, pickR n L (((sp n (l x) (Hf x)).put (some tn) .undef).put (some tc) .undef) = some (l x, Hf x))
    (round : ∀ x y o, holes q (Hf x) = true → step x y = some o → OWk P false (o3 :: eops).toArray 1 ((sp n (l x) (Hf x)).put (some te) (.tup [.d (kc.c.enc y.1), .d (v.enc y.2)]))
      (thenS (fun s1 => SW P false Y s1 (blockS B2 (thenS (fun s' => ∃ x', o = .inl x' ∧ holes q (Hf x') = true ∧ pickR n L s' = some (l x', Hf x')) (fun e s' => ∃ b, o = .inr b ∧ E b e s')))) (blockS B2 (thenS (fun s' => ∃ x', o = .inl x' ∧ holes q (Hf x') = true ∧ pickR n L s' = some (l x', Hf x')) (fun e s' => ∃ b, o = .inr b ∧ E b e s'))) .normal))
    (aft : ∀ x, C (.inl x) → ∃ H2, hBack kc v q (Hf x) = some H2 ∧ Q (.exit B) (sp n (l x) H2)) (aftE : ∀ b e s, C (.inr b) → E b e s → Q e s) :
    SW P false (.loop (.seq (.region i1 #[o1, o2] false) (.seq (.cond (.tmp tc) .skip (.exit B)) (.block B2 (.seq (.region i2 (o3 :: eops).toArray false) Y))))) st Q := by
  simp only [Bool.and_eq_true, decide_eq_true_eq] at hsz
  obtain ⟨hn1, hn2, hne1, hne2⟩ := hsz
  refine SW.keep L (keepR_of_pick h0) ?_
  intro a w g hr
  simp only [hRange, Option.bind_eq_some_iff, Option.map_eq_some_iff] at hx
  obtain ⟨mi, rfl, es, hm, rfl⟩ := hx
  have hmi := get_lt (hMap_eq.1 hm)
  -- the iterator and the map, in memory
  have hI := hr.hp.2 H0.length (.iter kb clock) (by simp [sp, hIt, hH0])
  obtain ⟨r, r1, r2, r3⟩ := hI
  have hM := hr.hp.2 mi (.mapX kb clock ms (es.map (encE kc v))) (by
    simp only [sp, hIt]
    rw [List.getElem?_set_ne (by omega), List.getElem?_set_self (by simp; omega)])
  obtain ⟨b1, b2, b3, b4, b5, b6⟩ := hM
  have hrk : r ≠ kb := by
    rintro rfl
    rw [r3] at b3; cases b3
  have hρlen := hr.hp.1
  -- the state at the first head
  have hr0 : Rel (sp n (l x0) (Hf x0)) a w g := by
    refine Rel.step hr hr.len hr.def0 (fun _ _ h => h) (fun t s hs => .inr (.inr ⟨hs, rfl, fun o' ho' => Keep.refl _ _ _, fun s' _ => ⟨rfl, fun x hx _ => ⟨x, hx, rfl⟩⟩⟩)) ⟨by rw [hρlen]; simp [sp, hIt, hH0], fun i' o' hi' => ?_⟩
    rw [hH0] at hi'
    simp only [sp] at hi'
    by_cases h1 : i' = H0.length
    · subst h1
      rw [List.getElem?_append_right (by simp)] at hi'
      simp at hi'
      subst hi'
      trivial
    · by_cases h2 : i' = mi
      · subst h2
        rw [List.getElem?_append_left (by simpa using hmi), List.getElem?_set_self hmi] at hi'
        cases hi'
        trivial
      · exact hr.hp.2 i' o' (by simp only [sp, hIt]; rw [List.getElem?_set_ne (Ne.symm h1), List.getElem?_set_ne (Ne.symm h2)]; exact hi')
  have hbl : ms.toList.length = es.length := by simpa using b4
  refine wp_loop_ghost (α := γ × Gh × Array Nat × List (K × V) × Nat) (x := (x0, g, #[], es, clock))
    (fun x a' w' => Rel (sp n (l x.1) (Hf x.1)) a' w' x.2.1 ∧ Fr false g w x.2.1 w' ∧ holes ⟨es, H0.set mi .hole ++ [.hole], H0.length, mi⟩ (Hf x.1) = true ∧ x.2.1.ρ[H0.length]? = some r ∧ x.2.1.ow r = .obj H0.length ∧ w'.heap[r]? = some (.mapIter (some kb) clock x.2.2.1 x.2.2.2.2) ∧ clock ≤ x.2.2.2.2 ∧
      x.2.1.ρ[mi]? = some kb ∧ x.2.1.ow kb = .obj mi ∧ w'.heap[kb]? = some (.map ms clock) ∧ (∀ (j : Nat) (p : K × V), es[j]? = some p → ∃ m, ms[j]? = some m ∧ Rd x.2.1 w' m.key (kc.c.enc p.1) ∧ Rd x.2.1 w' m.val (v.enc p.2)) ∧
      x.2.2.2.1 = toCome ms.toList es x.2.2.1 ∧ ∀ p : List (K × V), p.Perm x.2.2.2.1 → ∃ z, foldI step x.1 p = some z ∧ C z)
    (fun x => x.2.2.2.1.length) ⟨hr0, Fr.refl _ _ _, ?_, r1, r2, r3, Nat.le_refl _, b1, b2, b3, ?_, ?_, hit⟩ ?_
  · rw [hH0]
    unfold holes
    rw [List.getElem?_append_right (by simp), List.getElem?_append_left (by simpa using hmi), List.getElem?_set_self hmi]
    simp
  · intro j p hj
    exact b6 j (encE kc v p) (by simp [hj])
  · unfold toCome
    rw [List.filter_eq_self.2 (by simp)]
    have : (ms.toList.zip es).map (·.2) = es := by rw [List.map_snd_zip]; omega
    exact this.symm
  · rintro ⟨x, g1, seen, todo, last⟩ a1 w1 ⟨hrel, hfr, hho, e1, e2, e3, e4, e5, e6, e7, e8, e9, e10⟩
    simp only at hrel hfr hho e1 e2 e3 e4 e5 e6 e7 e8 e9 e10 ⊢
    have hev : a1.eval (.tmp ti) = .pointer (some ⟨r, 0, none⟩) := by
      have := valD_d hrel (hs x)
      generalize a1.eval (.tmp ti) = u at this
      cases this with
      | ptr h => rw [e1] at h; cases h; rfl
    have hlen := hrel.len
    have hlen' : a1.tmps.size = n := by rw [hlen]; simp [sp, spL_len]
    have hold : ∀ x ∈ ms.toList, x.born < clock := b5.1
    refine wp_seq (wp_region_lit (l := [o1, o2]) ?_)
    rcases run_next_at (P := P) w1 o1.type r kb clock last seen ms clock e3 e7 hold e4 with ⟨hleft, hrun⟩ | ⟨e, he, w2, hw2, hrun⟩
    · -- nothing is left
      have htodo : todo = [] := by rw [e9, toCome_empty hleft]
      subst htodo
      obtain ⟨z, z1, z2⟩ := e10 [] (List.Perm.refl _)
      simp only [foldI, Option.some.injEq] at z1
      subst z1
      obtain ⟨H2, hb, hQ⟩ := aft x z2
      refine wpList_val hg1 (v := .tuple #[.bool false]) (w' := w1) ?_ ?_
      · unfold execOp; rw [ho1]; simp only [hev, Sem.run_bind, hrun, Result.andThen_ok, Sem.run_pure]
      refine wpList_val hg2 (v := .bool false) (w' := w1) ?_ ?_
      · unfold execOp; rw [ho2, hd1]
        have : (a1.put (some tn) (.tuple #[.bool false])).eval (.tmp tn) = .tuple #[.bool false] := valOf_put_same (by rw [hlen']; exact hn1)
        simp only [this, Instr.extract, Sem.run_bind]
        rfl
      rw [hd1, hd2]
      refine wp_seq (wp_cond_false ?_ (wp_exit ?_))
      · exact valOf_put_same (by rw [put_size, hlen']; exact hn2)
      have hrel2 := ((hrel.putLight (some tn) (v := .tuple #[.bool false]) (s := .undef) trivial).putLight (some tc) (v := .bool false) (s := .undef) trivial).keepR (keepR_of_pick (hk x))
      simp only [hBack] at hb
      rw [if_pos hho] at hb
      cases hb
      refine ⟨sp n (l x) _, g1, hQ, ?_, hfr⟩
      have hh := holes_inv hho
      refine Rel.step hrel2 hrel2.len hrel2.def0 (fun _ _ h => h) (fun t s hs => .inr (.inr ⟨hs, rfl, fun o' ho' => Keep.refl _ _ _, fun s' _ => ⟨rfl, fun x hx _ => ⟨x, hx, rfl⟩⟩⟩)) ⟨by rw [hrel2.hp.1]; simp [sp], fun i' o' hi' => ?_⟩
      simp only [sp] at hi'
      by_cases h2 : i' = mi
      · subst h2
        rw [List.getElem?_set_self (get_lt hh.2)] at hi'
        cases hi'
        refine ⟨kb, ms, clock, e5, e6, e7, by simpa using b4, b5, fun j p hj => ?_⟩
        simp only [List.getElem?_map, Option.map_eq_some_iff] at hj
        obtain ⟨p', hp', rfl⟩ := hj
        exact e8 j p' hp'
      · rw [List.getElem?_set_ne (Ne.symm h2)] at hi'
        exact hrel2.hp.2 i' o' hi'
    · -- one more
      have hem : e ∈ ms.toList ∧ seen.contains e.born = false := by
        unfold leftOf at he
        simp at he
        exact ⟨by simpa using he.1, by simpa using he.2⟩
      obtain ⟨j, y, j1, j2, j3⟩ := toCome_step ms.toList es seen e b5.2 hbl hem.1 hem.2
      obtain ⟨m, m1, m2, m3⟩ := e8 j y j2
      have hme : m = e := by
        have j1' : ms[j]? = some e := by simpa using j1
        rw [m1] at j1'; exact Option.some.inj j1'
      subst hme
      let w3 := ChangeMaps.setBlock w2 r (.mapIter (some kb) clock (seen.push m.born) clock)
      have hw2h : w2.heap = w1.heap := by rcases hw2 with rfl | rfl <;> rfl
      have hos3 : SameOs w1 w3 := by
        have : SameOs w1 w2 := by rcases hw2 with rfl | rfl <;> exact ⟨rfl, rfl⟩
        exact this.trans ⟨rfl, rfl⟩
      have hw3 : ∀ k', k' ≠ r → w3.heap[k']? = w1.heap[k']? := fun k' h => by simp [w3, ChangeMaps.setBlock, hw2h, Array.getElem?_setIfInBounds_ne (Ne.symm h)]
      have hw3r : w3.heap[r]? = some (.mapIter (some kb) clock (seen.push m.born) clock) := by
        have := arr_lt e3
        simp [w3, ChangeMaps.setBlock, hw2h, this]
      have hw3s : w3.heap.size = w1.heap.size := by simp [w3, ChangeMaps.setBlock, hw2h]
      have hh := holes_inv hho
      -- the body's ghosts
      let gB := g1.lock r kb
      have kB : ∀ o', o' ≠ .obj H0.length → o' ≠ .obj mi → Keep o' g1 w1 gB w3 := fun o' h1 h2 k' b hk hb' => by
        have hr' : k' ≠ r := by rintro rfl; exact h1 (hk.symm.trans e2)
        have hk' : k' ≠ kb := by rintro rfl; exact h2 (hk.symm.trans e6)
        exact ⟨by simp [gB, Gh.lock, hr', hk', hk], by rw [hw3 k' hr']; exact hb'⟩
      have hrelB : Rel (sp n (l x) (Hf x)) a1 w3 gB := by
        refine Rel.step hrel hrel.len hrel.def0 (fun _ _ h => h) (fun t s hs => .inr (.inr ⟨hs, rfl, fun o' ho' => kB o' (fun e => uses_obj (e ▸ ho')) (fun e => uses_obj (e ▸ ho')), fun s' _ => ⟨rfl, fun x hx _ => ⟨x, hx, rfl⟩⟩⟩)) ⟨hrel.hp.1, fun i' o' hi' => ?_⟩
        simp only [sp] at hi'
        by_cases h1 : i' = H0.length
        · subst h1; rw [hh.1] at hi'; cases hi'; trivial
        · by_cases h2 : i' = mi
          · subst h2; rw [hh.2] at hi'; cases hi'; trivial
          · exact (hrel.hp.2 i' o' hi').keepI (kB _ (by simp) (by simp)) (kB _ (by simpa using h1) (by simpa using h2)) (fun j => kB _ (by simp) (by simp)) (fun _ _ h => h)
      refine wpList_val hg1 (v := .tuple #[.bool true, m.key, m.val]) (w' := w3) ?_ ?_
      · unfold execOp; rw [ho1]; simp only [hev, Sem.run_bind, hrun, Result.andThen_ok, Sem.run_pure]; rfl
      refine wpList_val hg2 (v := .bool true) (w' := w3) ?_ ?_
      · unfold execOp; rw [ho2, hd1]
        have : (a1.put (some tn) (.tuple #[.bool true, m.key, m.val])).eval (.tmp tn) = .tuple #[.bool true, m.key, m.val] := valOf_put_same (by rw [hlen']; exact hn1)
        simp only [this, Instr.extract, Sem.run_bind]
        rfl
      rw [hd1, hd2]
      generalize ha2 : (a1.put (some tn) (.tuple #[.bool true, m.key, m.val])).put (some tc) (.bool true) = a2
      have hrel2 : Rel (sp n (l x) (Hf x)) a2 w3 gB := by
        subst ha2
        exact ((hrelB.putLight (some tn) (v := .tuple #[.bool true, m.key, m.val]) (s := .undef) trivial).putLight (some tc) (v := .bool true) (s := .undef) trivial).keepR (keepR_of_pick (hk x))
      refine wp_seq (wp_cond_true ?_ (wp_skip ?_))
      · subst ha2; exact valOf_put_same (by rw [put_size, hlen']; exact hn2)
      -- the rest to come
      have hperm : todo.Perm (y :: toCome ms.toList es (seen.push m.born)) := by rw [e9]; exact j3
      obtain ⟨o, ho, hnext⟩ : ∃ o, step x y = some o ∧ ((∃ x', o = .inl x' ∧ ∀ p : List (K × V), p.Perm (toCome ms.toList es (seen.push m.born)) → ∃ z, foldI step x' p = some z ∧ C z) ∨ ∃ b, o = .inr b ∧ C (.inr b)) := by
        obtain ⟨z, z1, z2⟩ := e10 (y :: toCome ms.toList es (seen.push m.born)) hperm.symm
        simp only [foldI] at z1
        cases hst : step x y with
        | none => rw [hst] at z1; cases z1
        | some o =>
          rw [hst] at z1
          cases o with
          | inl x' =>
            refine ⟨_, rfl, .inl ⟨x', rfl, fun p hp => ?_⟩⟩
            obtain ⟨z', y1, y2⟩ := e10 (y :: p) (hperm.trans (hp.symm.cons y)).symm
            simp only [foldI, hst] at y1
            exact ⟨z', y1, y2⟩
          | inr b => cases z1; exact ⟨_, rfl, .inr ⟨b, rfl, z2⟩⟩
      have hev2 : a2.eval (.tmp ti) = .pointer (some ⟨r, 0, none⟩) := by
        subst ha2
        rw [eval_put_other (by simpa using Ne.symm hne2), eval_put_other (by simpa using Ne.symm hne1)]
        exact hev
      have hkb3 : w3.heap[kb]? = some (.map ms clock) := by rw [hw3 kb (Ne.symm hrk)]; exact e7
      have hrunE := run_entry_at (P := P) w3 r kb clock seen ms clock m hw3r hkb3 hem.1 b5.2
      have hrdB : ∀ {u : Value} {d : D}, Rd g1 w1 u d → Rd gB w3 u d := fun h => Rd.keep (kB _ (by simp) (by simp)) (fun _ _ h => h) h
      refine wp_block (wp_seq (wp_region_lit (l := o3 :: eops) ?_))
      refine wpList_val hg3 (v := .tuple #[m.key, m.val]) (w' := w3) ?_ ?_
      · unfold execOp; rw [ho3]; simp only [hev2, Sem.run_bind, hrunE, Result.andThen_ok, Sem.run_pure]
      rw [hd3]
      have hrel3 := hrel2.putLight (some te) (v := .tuple #[m.key, m.val]) (s := .tup [.d (kc.c.enc y.1), .d (v.enc y.2)]) ⟨#[m.key, m.val], rfl, rfl, fun j s hj => by
        match j, hj with
        | 0, hj => simp at hj; exact ⟨m.key, _, rfl, hj.symm, hrdB m2⟩
        | 1, hj => simp at hj; exact ⟨m.val, _, rfl, hj.symm, hrdB m3⟩
        | j + 2, hj => simp at hj⟩
      refine round x y o hho ho _ w3 gB hrel3 _ fun s1 a3 w4 g4 hq4 hrel4 hfr4 => ?_
      refine Code.wp_mono (fun ex a5 w5 hh5 => ?_) (hq4 a3 w4 g4 hrel4)
      obtain ⟨s5, g5, q5, rel5, fr5⟩ := hh5
      have frB : Fr false gB w3 g5 w5 := hfr4.trans fr5
      -- back to our own ghosts
      let g6 := g5.unlock r kb H0.length mi
      have hrB : gB.ow r = .out := by simp [gB, Gh.lock]
      have hkB : gB.ow kb = .out := by simp [gB, Gh.lock]
      obtain ⟨hr5, hr5'⟩ := frB.out r _ hrB hw3r
      obtain ⟨hk5, hk5'⟩ := frB.out kb _ hkB hkb3
      have k6 : ∀ o', o' ≠ .out → Keep o' g5 w5 g6 w5 := fun o' h1 k' b hk hb' => by
        have hr' : k' ≠ r := by rintro rfl; exact h1 (hk.symm.trans hr5)
        have hk' : k' ≠ kb := by rintro rfl; exact h1 (hk.symm.trans hk5)
        exact ⟨by simp [g6, Gh.unlock, hr', hk', hk], hb'⟩
      have rel6 : Rel s5 a5 w5 g6 := by
        refine Rel.step rel5 rel5.len rel5.def0 (fun _ _ h => h) (fun t s hs => .inr (.inr ⟨hs, rfl, fun o' ho' => k6 o' (fun e => by subst e; cases s <;> simp [uses] at ho'), fun s' _ => ⟨rfl, fun x hx _ => ⟨x, hx, rfl⟩⟩⟩)) ⟨rel5.hp.1, fun i' o' hi' => ?_⟩
        exact (rel5.hp.2 i' o' hi').keepI (k6 _ (by simp)) (k6 _ (by simp)) (fun j => k6 _ (by simp)) (fun _ _ h => h)
      have fr6 : Fr false g1 w1 g6 w5 := by
        refine ⟨by have := frB.size; omega, ?_, ?_, fun i' k' h => frB.rho i' k' h, nofun, nofun, nofun, hos3.trans frB.os⟩
        · exact ((kB .free (by simp) (by simp)).trans frB.free).trans (k6 _ (by simp))
        · intro k' b hk hb'
          have hr' : k' ≠ r := by rintro rfl; rw [e2] at hk; cases hk
          have hk' : k' ≠ kb := by rintro rfl; rw [e6] at hk; cases hk
          obtain ⟨c1, c2⟩ := kB .out (by simp) (by simp) k' b hk hb'
          obtain ⟨d1, d2⟩ := frB.out k' b c1 c2
          exact ⟨by simp [g6, Gh.unlock, hr', hk', d1], d2⟩
      have out : ∀ e' s', ((∃ b, o = .inr b ∧ E b e' s')) → Rel s' a5 w5 g6 → e' ≠ .normal → ∃ st' g', Q e' st' ∧ Rel st' a5 w5 g' ∧ Fr false g w g' w5 := fun e' s' hb hrel' _ => by
        obtain ⟨b, rfl, hE⟩ := hb
        rcases hnext with ⟨x', h1, -⟩ | ⟨b', h1, hC⟩
        · cases h1
        · cases h1
          exact ⟨s', g6, aftE b e' s' hC hE, hrel', hfr.trans fr6⟩
      have back : (∃ x', o = .inl x' ∧ holes ⟨es, H0.set mi .hole ++ [.hole], H0.length, mi⟩ (Hf x') = true ∧ pickR n L s5 = some (l x', Hf x')) →
          ∃ y0 : γ × Gh × Array Nat × List (K × V) × Nat, (Rel (sp n (l y0.1) (Hf y0.1)) a5 w5 y0.2.1 ∧ Fr false g w y0.2.1 w5 ∧ holes ⟨es, H0.set mi .hole ++ [.hole], H0.length, mi⟩ (Hf y0.1) = true ∧ y0.2.1.ρ[H0.length]? = some r ∧ y0.2.1.ow r = .obj H0.length ∧ w5.heap[r]? = some (.mapIter (some kb) clock y0.2.2.1 y0.2.2.2.2) ∧ clock ≤ y0.2.2.2.2 ∧
            y0.2.1.ρ[mi]? = some kb ∧ y0.2.1.ow kb = .obj mi ∧ w5.heap[kb]? = some (.map ms clock) ∧ (∀ (j : Nat) (p : K × V), es[j]? = some p → ∃ m, ms[j]? = some m ∧ Rd y0.2.1 w5 m.key (kc.c.enc p.1) ∧ Rd y0.2.1 w5 m.val (v.enc p.2)) ∧
            y0.2.2.2.1 = toCome ms.toList es y0.2.2.1 ∧ ∀ p : List (K × V), p.Perm y0.2.2.2.1 → ∃ z, foldI step y0.1 p = some z ∧ C z) ∧ y0.2.2.2.1.length < todo.length := by
        rintro ⟨x', rfl, hho', hp⟩
        rcases hnext with ⟨x'', h1, hC⟩ | ⟨b', h1, -⟩
        · cases h1
          refine ⟨(x', g6, seen.push m.born, toCome ms.toList es (seen.push m.born), clock), ⟨rel6.keepR (keepR_of_pick hp), hfr.trans fr6, hho', ?_, ?_, hr5', Nat.le_refl _, ?_, ?_, hk5', ?_, rfl, hC⟩, ?_⟩
          · exact frB.rho _ _ e1
          · simp [g6, Gh.unlock]
          · exact frB.rho _ _ e5
          · simp [g6, Gh.unlock, Ne.symm hrk]
          · intro j p hj
            obtain ⟨m', n1, n2, n3⟩ := e8 j p hj
            have up : ∀ {u : Value} {d : D}, Rd g1 w1 u d → Rd g6 w5 u d := fun h => Rd.keep (((kB .free (by simp) (by simp)).trans frB.free).trans (k6 _ (by simp))) (fun i' k' h => frB.rho i' k' h) h
            exact ⟨m', n1, up n2, up n3⟩
          · rw [hperm.length_eq]; simp
        · cases h1
      cases ex with
      | normal => exact back q5
      | exit id =>
        simp only [blockS] at q5
        simp only [Exit.inBlock]
        split at q5
        · rename_i hid; rw [if_pos hid]; exact back q5
        · rename_i hid; rw [if_neg hid]; exact out _ _ q5 rel6 (by simp)
      | goto id => exact out _ _ q5 rel6 (by simp)
      | ret => exact out _ _ q5 rel6 (by simp)
      | panic ch => exact out _ _ q5 rel6 (by simp)
      | outgrown => exact out _ _ q5 rel6 (by simp)
end
end Go.Sh
namespace Go.Sh
/-- A list of one's own, its value known or not. -/
def ownAt (st : St) (s : Nat) : Option (Option Value × Nat × List D) :=
  match st.tmps[s]? with
  | some (.own n xs) => some (none, n, xs)
  | some (.pin v n xs) => some (some v, n, xs)
  | _ => none
def ownSV : Option Value → Nat → List D → SV
  | none, n, xs => .own n xs
  | some v, n, xs => .pin v n xs
theorem ownAt_eq {st : St} (h : ownAt st s = some (p, n, xs)) : st.tmps[s]? = some (ownSV p n xs) := by
  unfold ownAt at h
  split at h
  · cases h; assumption
  · cases h; assumption
  · cases h
theorem ownSV_big (p : Option Value) (n : Nat) (xs : List D) : bigK (ownSV p n xs) = 2 := by cases p <;> rfl
theorem ownSV_rs {val : Nat → Value} : RS g w tm val t v (ownSV p n xs) ↔ (∀ v0, p = some v0 → v = v0) ∧ ROwn g w (.slot t) v n xs := by
  cases p with
  | none => exact ⟨fun h => ⟨nofun, h⟩, fun h => h.2⟩
  | some v0 => exact ⟨fun h => ⟨fun v1 e => by cases e; exact h.1, h.2⟩, fun h => ⟨h.1 v0 rfl, h.2⟩⟩
theorem ownSV_uses : uses t (ownSV p n xs) o ↔ o = .free ∨ o = .lst (.slot t) := by cases p <;> rfl
/-- What is lent by a slot is no more known. -/
def lentBy (t0 : Nat) : SV → Bool
  | .lent (.slot s) _ _ | .lptr (.slot s) _ => s == t0
  | _ => false
def St.killL (st : St) (t0 : Nat) : St := { st with tmps := st.tmps.map fun s => if lentBy t0 s then .undef else s }
theorem St.killL_get {st : St} {t0 t : Nat} {s : SV} (h : (st.killL t0).tmps[t]? = some s) : s = .undef ∨ (st.tmps[t]? = some s ∧ lentBy t0 s = false) := by
  simp only [St.killL, List.getElem?_map, Option.map_eq_some_iff] at h
  grind
theorem St.killL_len (st : St) (t : Nat) : (st.killL t).tmps.length = st.tmps.length := by simp [St.killL]
/-- An own list gets new elements. -/
def St.setOwn (st : St) (s : Nat) (p : Option Value) (n : Nat) (xs : List D) : St := (st.killL s).set s (ownSV p n xs)
theorem uses_lent (hne : t ≠ s0) (hm : lentBy s0 s = false) (ho : uses t s (.lst (.slot s0))) : False := by
  cases s <;> simp [uses] at ho
  · exact hne ho.symm
  · subst ho; simp [lentBy] at hm
  · subst ho; simp [lentBy] at hm
  · exact hne ho.symm
section
variable {P : Program} {pu : Bool} {st : St} {ops : Array Oper} {k : Nat} {Q : St → Prop}
/-- An own list is written in place: what has changed lies in blocks of its own. -/
theorem Rel.setOwn {a : Act} {w w' : World} {g g' : Gh} (hr : Rel st a w g) {s : Nat} {p : Option Value} {n : Nat} {xs ys : List D} (hs : st.tmps[s]? = some (ownSV p n xs)) (hk : ∀ o, o ≠ .lst (.slot s) → Keep o g w g' w') (hρ : g'.ρ = g.ρ)
    (hn : ROwn g' w' (.slot s) (valOf a s) n ys) : Rel (st.setOwn s p n ys) a w' g' := by
  have hlt := get_lt hs
  have hp := (ownSV_rs.1 (hr.tmp s _ hs)).1
  refine Rel.step hr (by simp [St.setOwn, St.set, St.killL, hr.len]) hr.def0 (fun _ _ h => by rw [hρ]; exact h) (fun t s' hs' => ?_) (hr.hp.keep (fun o ho => hk o fun e => by subst e; exact ho.elim) (fun _ _ h => by rw [hρ]; exact h) (by rw [hρ]))
  by_cases ht : t = s
  · subst ht
    simp only [St.setOwn, St.set] at hs'
    rw [List.getElem?_set_self (by rw [St.killL_len]; exact hlt)] at hs'
    cases hs'
    exact .inr (.inl (ownSV_rs.2 ⟨hp, hn⟩))
  · simp only [St.setOwn, St.set, List.getElem?_set_ne (Ne.symm ht)] at hs'
    rcases St.killL_get hs' with e | ⟨e1, e2⟩
    · exact .inl e
    · refine .inr (.inr ⟨e1, rfl, fun o ho => hk o fun e => ?_, fun s' hd => ⟨rfl, fun x hx hb => ?_⟩⟩)
      · subst e; exact uses_lent ht e2 ho
      · by_cases h1 : s' = s
        · subst h1
          rw [hs] at hx; cases hx
          exact ⟨ownSV p n ys, by simp only [St.setOwn, St.set]; rw [List.getElem?_set_self (by rw [St.killL_len]; exact hlt)], by rw [ownSV_big, ownSV_big]⟩
        · refine ⟨x, ?_, rfl⟩
          simp only [St.setOwn, St.set, List.getElem?_set_ne (Ne.symm h1), St.killL, List.getElem?_map, hx, Option.map_some]
          have : lentBy s x = false := by cases x <;> simp [bigK] at hb <;> rfl
          simp [this]
/-! ## The same value once more -/
def alsAt (ops : Array Oper) (k : Nat) (st : St) : Option (Option Tmp × Nat) :=
  match opAt ops k st with
  | some o => match o.op with
    | .move (.tmp s) => match ownAt st s with
      | some _ => if o.dst != some s then some (o.dst, s) else none
      | none => none
    | _ => none
  | none => none
theorem BAt.als (h : alsAt ops k st = some (d, s)) : BAt P ops k st d (.als s) := by
  unfold alsAt at h
  split at h
  · rename_i o ho
    split at h
    · rename_i s' hop
      split at h
      · rename_i p hp
        split at h
        · rename_i hd
          simp only [Option.some.injEq, Prod.mk.injEq] at h
          obtain ⟨rfl, rfl⟩ := h
          obtain ⟨g1, g2⟩ := opAt_inv ho
          obtain ⟨pv, n, xs⟩ := p
          refine ⟨o, g1, g2, fun a w g hr => ⟨valOf a s', ⟨⟨_, ownAt_eq hp, ownSV_big _ _ _⟩, rfl⟩, fun w' _ => ?_⟩, by simpa [locOk] using hd, rfl⟩
          unfold execOp; rw [hop]; rfl
        · cases h
      · cases h
    · cases h
  · cases h
/-! ## An element, written -/
def epAt (P : Program) (ops : Array Oper) (k : Nat) (st : St) : Option (Option Tmp × Nat × Nat × List D × Int) :=
  match opAt ops k st with
  | some o => match o.op with
    | .indexAddr T (.tmp t) i => match st.tmps[t]?, intOf? st i with
      | some (.als s), some (_, j) => match ownAt st s with
        | some (_, n, xs) => if n ≠ 0 ∧ n = elemW P T ∧ (arrayOf P T).isNone = true ∧ o.dst ≠ some s then some (o.dst, s, n, xs, j) else none
        | none => none
      | _, _ => none
    | _ => none
  | none => none
theorem BAt.ep {α : Type} {enc : α → D} {xs : List α} {x : α} (hx : idx xs j = some x) (h : epAt P ops k st = some (d, s, n, xs.map enc, j)) : BAt P ops k st d (.ep s n j.toNat) := by
  unfold epAt at h
  split at h
  · rename_i o ho
    split at h
    · rename_i T t i hop
      split at h
      · rename_i s' kk j' hs hi
        split at h
        · rename_i p n' xs' hown
          split at h
          · rename_i hc
            simp only [Option.some.injEq, Prod.mk.injEq] at h
            obtain ⟨rfl, rfl, rfl, rfl, rfl⟩ := h
            obtain ⟨g1, g2⟩ := opAt_inv ho
            obtain ⟨hn0, hnT, hna, hd⟩ := hc
            refine ⟨o, g1, g2, fun a w g hr => ?_, by simpa [locOk] using hd, rfl⟩
            have hO := (ownSV_rs.1 (hr.tmp s' _ (ownAt_eq hown))).2
            obtain ⟨-, hal⟩ : _ ∧ valOf a t = valOf a s' := hr.tmp t _ hs
            obtain ⟨h0, hj⟩ := idx_inv hx
            have hlt : j'.toNat < xs.length := get_lt hj
            rcases hO with ⟨he, -⟩ | ⟨kb, off, cap, c, T0, us, hv, hk, hb, hl, hz, hw, hcc, hrr⟩
            · rw [List.map_eq_nil_iff] at he; subst he; simp at hlt
            · -- the element's type
              unfold elemW at hnT
              split at hnT
              · rename_i e hu
                refine ⟨.pointer (some ⟨kb, off + j'.toNat * n', none⟩), ⟨⟨_, ownAt_eq hown, ownSV_big _ _ _⟩, kb, off, _, cap, hv, rfl⟩, fun w' hup => ?_⟩
                have hidx : a.eval i = .int kk j' := by
                  unfold intOf? at hi
                  split at hi
                  · rename_i k1 n1 hv1
                    cases hi
                    exact valD_leaf hr hv1 rfl
                  · cases hi
                unfold execOp; rw [hop]
                have hev : a.eval (.tmp t) = .slice (some ⟨kb, off, none⟩) (xs.map enc).length cap := hal.trans hv
                have hlt' : j' < ((xs.map enc).length : Int) := by rw [List.length_map]; omega
                subst hnT
                simp only [hev, hidx, Sem.run_bind, indexAddr_sl hu hn0 h0 hlt' w', Result.andThen_ok, Sem.run_pure]
              · exact absurd hnT hn0
          · cases h
        · cases h
      · cases h
    · cases h
  · cases h
def sepAt (P : Program) (ops : Array Oper) (k : Nat) (st : St) : Option (Nat × Nat × Option Value × List D × Nat × D) :=
  match opAt ops k st with
  | some o => match o.op with
    | .store T (.tmp t) y => match st.tmps[t]?, valD st y with
      | some (.ep s n j), some d => match ownAt st s with
        | some (p, n', xs) => if n' = n ∧ (P.underlying T).isNone = false ∧ d.cells.length = n ∧ P.cellsOf T = n ∧ o.dst = none then some (s, n, p, xs, j, d) else none
        | none => none
      | _, _ => none
    | _ => none
  | none => none
theorem list_set_get {α : Type} {l : List α} {x y : α} (h : (l.set i x)[j]? = some y) : (i = j ∧ x = y ∧ j < l.length) ∨ (i ≠ j ∧ l[j]? = some y) := by
  grind
theorem OWk.sep {α : Type} {enc : α → D} {xs : List α} {x : α} (m : Nat) (H : List SObj) (L : List Nat) (l : List (Nat × SV)) (hj : decide (j < xs.length) = true) (h : sepAt P ops k st = some (s, n, p, xs.map enc, j, enc x))
    (hst : pickR m L (st.setOwn s p n ((xs.set j x).map enc)) = some (l, H)) (hn : OWk P pu ops (k + 1) (sp m l H) Q) : OWk P pu ops k st Q := by
  have hj := of_decide_eq_true hj
  unfold sepAt at h
  split at h
  · rename_i o ho
    split at h
    · rename_i T t y hop
      split at h
      · rename_i s' n' j' d hs hy
        split at h
        · rename_i p' n2 xs' hown
          split at h
          · rename_i hc
            simp only [Option.some.injEq, Prod.mk.injEq] at h
            obtain ⟨rfl, rfl, rfl, rfl, rfl, rfl⟩ := h
            obtain ⟨rfl, hu, hsz, hcT, hd⟩ := hc
            obtain ⟨g1, g2⟩ := opAt_inv ho
            refine OWk.e g1 g2 (OpS.skip fun a w g hr => ?_) (OWk.keep L (keepR_of_pick hst) hn)
            obtain ⟨-, hO⟩ := ownSV_rs.1 (hr.tmp s' _ (ownAt_eq hown))
            obtain ⟨-, k0, off0, len0, cap0, hv0, hep⟩ := hr.tmp t _ hs
            rcases hO with ⟨he, -⟩ | ⟨kb, off, cap, c, T0, us, hv, hk, hb, hl, hz, hw, hcc, hrr⟩
            · simp_all
            · rw [hv] at hv0
              simp only [Value.slice.injEq, Option.some.injEq, Addr.mk.injEq] at hv0
              obtain ⟨⟨rfl, rfl, -⟩, rfl, rfl⟩ := hv0
              have hrd := valD_d hr hy
              obtain ⟨c1, c2⟩ := hrd.cells
              have hone : ∀ v ∈ (a.eval y).cells.toList, v.oneCell' = true := fun v hv => by
                obtain ⟨i, hi⟩ := List.mem_iff_getElem?.1 hv
                have hlt : i < (enc x).cells.length := by grind
                obtain ⟨u, u1, u2, u3⟩ := c2 i (enc x).cells[i] (by simp [hlt])
                grind
              have hroom : off + j' * n2 + n2 ≤ c.size := by
                have h1 : (j' + 1) * n2 ≤ cap * n2 := Nat.mul_le_mul_right _ (by rw [List.length_map] at hl; omega)
                grind
              obtain ⟨w', r1, r2, r3, c', r4, r5, r6⟩ := run_storeCells' (P := P) kb (off + j' * n2) T0 (a.eval y).cells.toList 0 c w hb (by simp [c1]; omega) hone
              have hkp : ∀ o', o' ≠ .lst (.slot s') → Keep o' g w g w' := fun o' ho => Keep.block hk ho r3
              have hkf : Keep .free g w g w' := hkp _ (by simp)
              refine ⟨w', g, ?_, ?_, Fr.keepBut (l := .slot s') (by simp) (by rw [r2]; exact Nat.le_refl _) hkp rfl (storeCells_os (P := P) kb (off + j' * n2) T0 (a.eval y).cells.toList 0 c w w' hb (by simp [c1]; omega) hone r1)⟩
              · unfold execOp; rw [hop]
                have hev : a.eval (.tmp t) = .pointer (some ⟨kb, off + j' * n2, none⟩) := hep
                simp only [Instr.storeAt, Sem.run_bind, hev, Instr.sureAddr, Sem.run_pure, Result.andThen_ok, storeVar, run_sizeOf' hu]
                simp_all
              · rw [hd]
                refine hr.setOwn (ownAt_eq hown) hkp rfl (.inr ⟨kb, off, cap, c', T0, fun i q => if i = j' then (a.eval y).cells.getD q undef else us i q, by rw [hv]; simp, hk, r4, by simpa using hl, by rw [r5]; exact hz, fun i z hi => ?_, fun i z hi q u hq => ?_, fun i z hi q u hq => ?_⟩)
                · simp only [List.getElem?_map, Option.map_eq_some_iff] at hi
                  obtain ⟨z', hi, rfl⟩ := hi
                  rcases list_set_get hi with ⟨-, rfl, -⟩ | ⟨-, hi⟩
                  · exact hsz
                  · exact hw i (enc z') (by simp [hi])
                · simp only [List.getElem?_map, Option.map_eq_some_iff] at hi
                  obtain ⟨z', hi, rfl⟩ := hi
                  have hql : q < n2 := by
                    rcases list_set_get hi with ⟨-, rfl, -⟩ | ⟨-, hi⟩
                    · have := get_lt hq; omega
                    · have := get_lt hq; rw [hw i (enc z') (by simp [hi])] at this; exact this
                  rcases list_set_get hi with ⟨e, rfl, -⟩ | ⟨hne, hi⟩
                  · simp_all
                  · obtain ⟨u1, u2⟩ := hcc i (enc z') (by simp [hi]) q u hq
                    simp only [if_neg (Ne.symm hne)]
                    refine ⟨?_, u2⟩
                    have hapart : off + i * n2 + q < off + j' * n2 ∨ off + j' * n2 + n2 ≤ off + i * n2 + q := by
                      rcases Nat.lt_or_gt_of_ne hne with h | h
                      · have : (j' + 1) * n2 ≤ i * n2 := Nat.mul_le_mul_right _ h
                        rw [Nat.succ_mul] at this; omega
                      · have : (i + 1) * n2 ≤ j' * n2 := Nat.mul_le_mul_right _ h
                        rw [Nat.succ_mul] at this; omega
                    grind
                · simp only [List.getElem?_map, Option.map_eq_some_iff] at hi
                  obtain ⟨z', hi, rfl⟩ := hi
                  rcases list_set_get hi with ⟨e, rfl, -⟩ | ⟨hne, hi⟩
                  · subst e
                    obtain ⟨u', u1, u2, u3⟩ := c2 q u hq
                    have hg : (a.eval y).cells.getD q undef = u' := by simp_all
                    simp only [if_true, hg]
                    exact Rd.keep hkf (fun _ _ h => h) u2
                  · simp only [if_neg (Ne.symm hne)]
                    exact Rd.keep hkf (fun _ _ h => h) (hrr i (enc z') (by simp [hi]) q u hq)
          · cases h
        · cases h
      · cases h
    · cases h
  · cases h
/-! ## Functions that write their one argument in place -/
def IC (P : Program) (f : FuncId) (n : Nat) (xs ys : List D) : Prop :=
  ∀ (H : List SObj) (w : World) (g : Gh) (v : Value), ROwn g w (.slot 0) v n xs → RH g w H → Calls P f #[v] w fun e w' => e = .returned (.tuple #[]) ∧ ∃ g', ROwn g' w' (.slot 0) v n ys ∧ RH g' w' H ∧ Fr true g w g' w'
theorem IC.of_SW (hf : P.funcs[f]? = some fn) (hb : fn.body = some c) (hr : fn.results = #[])
    (h : ∀ H v, SW P true c (initSt fn.ntmps [.pin v n xs] H) (fun e st' => (e = .normal ∨ e = .ret) ∧ st'.tmps[0]? = some (.pin v n ys) ∧ st'.H = H)) : IC P f n xs ys := by
  intro H w g v hO hH
  have hA : RArgs g w #[v] [.own n xs] := ⟨rfl, fun j s hj => by
    match j, hj with
    | 0, hj => simp at hj; subst hj; exact ⟨v, rfl, hO⟩
    | j + 1, hj => simp at hj⟩
  have r0 := Rel.init hA hH fn.ntmps
  have r1 : Rel (initSt fn.ntmps [.pin v n xs] H) { tmps := #[v] ++ Array.replicate (fn.ntmps - (#[v] : Array Value).size) undef, defers := [] } w g := by
    refine Rel.step r0 (by rw [r0.len]; simp [initSt]) r0.def0 (fun _ _ h => h) (fun t s hs => ?_) r0.hp
    cases t with
    | zero =>
      simp [initSt] at hs
      subst hs
      refine .inr (.inl ⟨?_, r0.tmp 0 (.own n xs) (by simp [initSt])⟩)
      simp only [valOf, Array.getD_eq_getD_getElem?]
      rw [Array.getElem?_append_left (by simp)]
      rfl
    | succ t =>
      refine .inr (.inr ⟨by simpa [initSt] using hs, rfl, fun _ _ => Keep.refl _ _ _, fun s' hd => ⟨rfl, fun x hx hb => ?_⟩⟩)
      cases s' with
      | zero => simp [initSt] at hx; subst hx; exact ⟨.pin v n xs, by simp [initSt], rfl⟩
      | succ s' => exact ⟨x, by simpa [initSt] using hx, rfl⟩
  refine calls_of_wp hf hb (Code.wp_mono (fun e a' w' hh => ?_) (h H v _ w g r1))
  obtain ⟨st', g', ⟨he, h0, hH'⟩, hrel, hfr⟩ := hh
  have hrun := results_run (P := P) (fn := fn) (tm := a'.tmps) (w := w') (vs := []) (by simp [hr]) (fun j rv hj => by rw [hr] at hj; simp at hj)
  obtain ⟨hv, hO'⟩ : valOf a' 0 = v ∧ ROwn g' w' (.slot 0) (valOf a' 0) n ys := hrel.tmp 0 _ h0
  rw [hv] at hO'
  have fin : Ending.returned (if h : ([] : List Value).toArray.size = 1 then ([] : List Value).toArray[0] else .tuple ([] : List Value).toArray) = .returned (.tuple #[]) ∧ ∃ g', ROwn g' w' (.slot 0) v n ys ∧ RH g' w' H ∧ Fr true g w g' w' :=
    ⟨rfl, g', hO', by rw [← hH']; exact hrel.hp, hfr⟩
  rcases he with rfl | rfl
  · exact ⟨hrel.def0, _, hrun, fin⟩
  · exact ⟨hrel.def0, _, hrun, fin⟩
/-- What the callee may see: the list that is handed to it, and the shadow heap. -/
def icOw (s : Nat) : Own → Own
  | .free => .free
  | .obj i => .obj i
  | .lst (.hcell i j) => .lst (.hcell i j)
  | .lst (.slot t) => if t = s then .lst (.slot 0) else .out
  | _ => .out
/-- Whose a block is behind such a call. -/
def icBack (m s : Nat) (ow ow' : Nat → Own) (k : Nat) : Own :=
  if k < m ∧ icOw s (ow k) = .out then ow k else
  match ow' k with
  | .free => .free
  | .obj i => .obj i
  | .lst (.hcell i j) => .lst (.hcell i j)
  | .lst (.slot 0) => .lst (.slot s)
  | _ => .out
def icAt (P : Program) (ops : Array Oper) (k : Nat) (st : St) : Option (FuncId × Option Tmp × Nat × Option Value × Nat × List D) :=
  match opAt ops k st with
  | some o => match o.op with
    | .call c => match c.callee, c.args.toList with
      | .value fo, [.tmp t] => match valD st fo, st.tmps[t]? with
        | some (.fn (.func f) [] []), some (.als s) => match ownAt st s with
          | some (p, n, xs) => if isFn P f = true ∧ o.dst ≠ some s then some (f, o.dst, s, p, n, xs) else none
          | none => none
        | _, _ => none
      | _, _ => none
    | _ => none
  | none => none
theorem OWk.ic (m : Nat) (H : List SObj) (L : List Nat) (l : List (Nat × SV)) (hc : IC P f n xs ys) (h : icAt P ops k st = some (f, d, s, p, n, xs))
    (hst : pickR m L ((st.setOwn s p n ys).put d (.tup [])) = some (l, H)) (hn : OWk P pu ops (k + 1) (sp m l H) Q) : OWk P pu ops k st Q := by
  unfold icAt at h
  split at h
  · rename_i o ho
    split at h
    · rename_i c hop
      split at h
      · rename_i fo t hcal hargs
        split at h
        · rename_i f' s' hfo hs
          split at h
          · rename_i p' n' xs' hown
            split at h
            · rename_i hcond
              simp only [Option.some.injEq, Prod.mk.injEq] at h
              obtain ⟨rfl, rfl, rfl, rfl, rfl, rfl⟩ := h
              obtain ⟨hfn, hd⟩ := hcond
              obtain ⟨g1, g2⟩ := opAt_inv ho
              unfold OWk OW at hn ⊢
              rw [drop_cons g1]
              intro a w g hr Qc hq
              unfold wpList
              rw [wantS_sound hr g2, if_pos rfl]
              refine .inl ?_
              have hrf := valD_d hr hfo
              have hev : a.eval fo = .func (.func f') #[] #[] := by
                generalize a.eval fo = v at hrf
                cases hrf with
                | fn hl1 hl2 us1 us2 hc1 hr1 hc2 hr2 =>
                  rw [Array.eq_empty_of_size_eq_zero (xs := _) hl1, Array.eq_empty_of_size_eq_zero (xs := _) hl2]
              have hal : a.eval (.tmp t) = valOf a s' := (hr.tmp t _ hs).2
              have hO := (ownSV_rs.1 (hr.tmp s' _ (ownAt_eq hown))).2
              have hexec : (execOp a.eval o).run P w = .ok (.enter f' #[valOf a s']) w := by
                unfold execOp
                rw [hop]
                have := run_call (ty := o.type) (P := P) (c := c) hcal hev hfn w
                have hca : c.args = #[.tmp t] := by rw [← Array.toArray_toList (xs := c.args), hargs]
                rw [hca] at this
                simpa [hal] using this
              unfold Oper.wp
              rw [hexec, Oper.upon_enter]
              -- the callee's ghosts
              let gc := g.ren (icOw s')
              have hOc : ROwn gc w (.slot 0) (valOf a s') n' xs' := ROwn.ren rfl (by simp [icOw]) hO
              have hHc : RH gc w st.H := by
                refine RH.keep (g := g) (w := w) (fun o' ho' => Keep.ren ?_) (fun _ _ h => h) rfl hr.hp
                cases o' with
                | lst l => cases l <;> simp only [usesH] at ho' <;> rfl
                | _ => simp only [usesH] at ho' <;> rfl
              refine (hc st.H w gc _ hOc hHc).mono fun e w' hh => ?_
              obtain ⟨rfl, g', hO', -, hf⟩ := hh
              let g2 : Gh := ⟨icBack w.heap.size s' g.ow g'.ow, g'.ρ⟩
              have hρ : g'.ρ = g.ρ := hf.len rfl
              have hid : ∀ (k' : Nat) (b : Obj), icOw s' (g.ow k') = .out → w.heap[k']? = some b → g2.ow k' = g.ow k' ∧ w'.heap[k']? = some b ∧ g'.ow k' = .out := fun k' b h1 h2 => by
                obtain ⟨c1, c2⟩ := hf.out k' b h1 h2
                exact ⟨by simp [g2, icBack, arr_lt h2, h1], c2, c1⟩
              have vis : ∀ (k' : Nat), icOw s' (g.ow k') ≠ .out → g2.ow k' = (match g'.ow k' with | .free => .free | .obj i => .obj i | .lst (.hcell i j) => .lst (.hcell i j) | .lst (.slot 0) => .lst (.slot s') | _ => .out) := fun k' h1 => by
                show icBack _ _ _ _ _ = _
                unfold icBack
                rw [if_neg (fun h => h1 h.2)]
              have hkeep : ∀ o', o' ≠ .lst (.slot s') → Keep o' g w g2 w' := fun o' ho' k' b h1 h2 => by
                cases o' with
                | free =>
                  obtain ⟨c1, c2⟩ := hf.free k' b (by simp [gc, Gh.ren, h1, icOw]) h2
                  exact ⟨by rw [vis k' (by simp [h1, icOw]), c1], c2⟩
                | obj i =>
                  obtain ⟨c1, c2⟩ := hf.obj rfl i k' b (by simp [gc, Gh.ren, h1, icOw]) h2
                  exact ⟨by rw [vis k' (by simp [h1, icOw]), c1], c2⟩
                | out => obtain ⟨c1, c2, -⟩ := hid k' b (by simp [h1, icOw]) h2; exact ⟨c1.trans h1, c2⟩
                | box t => obtain ⟨c1, c2, -⟩ := hid k' b (by simp [h1, icOw]) h2; exact ⟨c1.trans h1, c2⟩
                | lst l0 =>
                  cases l0 with
                  | hcell i j =>
                    obtain ⟨c1, c2⟩ := hf.hcell rfl i j k' b (by simp [gc, Gh.ren, h1, icOw]) h2
                    exact ⟨by rw [vis k' (by simp [h1, icOw]), c1], c2⟩
                  | slot t =>
                    have hne : t ≠ s' := fun e => ho' (by rw [e])
                    obtain ⟨c1, c2, -⟩ := hid k' b (by simp [h1, icOw, hne]) h2; exact ⟨c1.trans h1, c2⟩
                  | _ => obtain ⟨c1, c2, -⟩ := hid k' b (by simp [h1, icOw]) h2; exact ⟨c1.trans h1, c2⟩
              -- the list, back
              have notHid : ∀ (k' : Nat), g'.ow k' ≠ .out → w'.heap[k']? ≠ none → ¬ (k' < w.heap.size ∧ icOw s' (g.ow k') = .out) := fun k' h1 _ h2 => by
                have : ∃ b, w.heap[k']? = some b := ⟨w.heap[k'], by simp [h2.1]⟩
                obtain ⟨b, hb⟩ := this
                exact h1 (hid k' b h2.2 hb).2.2
              have hb0 : Keep .free g' w' g2 w' := fun k' b h1 h2 => by
                refine ⟨?_, h2⟩
                show icBack _ _ _ _ _ = _
                unfold icBack
                rw [if_neg (notHid k' (by rw [h1]; simp) (by rw [h2]; simp)), h1]
              have hO2 : ROwn g2 w' (.slot s') (valOf a s') n' ys := by
                rcases hO' with h | ⟨kb, off, cap, cc, T, us, hv, hk, hb, hl, hz, hw, hcc, hrr⟩
                · exact .inl h
                · refine .inr ⟨kb, off, cap, cc, T, us, hv, ?_, hb, hl, hz, hw, hcc, fun i x hx j y hy => (hrr i x hx j y hy).keep hb0 (fun _ _ h => h)⟩
                  show icBack _ _ _ _ _ = _
                  unfold icBack
                  rw [if_neg (notHid kb (by rw [hk]; simp) (by rw [hb]; simp)), hk]
                  rfl
              have hrel := (hr.setOwn (ownAt_eq hown) hkeep hρ hO2).putLight o.dst (v := .tuple #[]) (s := .tup []) ⟨#[], rfl, rfl, by simp⟩
              refine hn _ w' g2 (hrel.keepR (keepR_of_pick hst)) Qc fun st' a' w2 g3 q r f => hq st' a' w2 g3 q r ((Fr.keepBut (l := .slot s') (by simp) hf.size hkeep hρ hf.os).trans f)
            · cases h
          · cases h
        · cases h
      · cases h
    · cases h
  · cases h
/-! ## A list asked whether it is nil -/
def eqOp : BinOp → Option Bool
  | .eql => some true
  | .neq => some false
  | _ => none
def nqAt (P : Program) (ops : Array Oper) (k : Nat) (st : St) : Option (Option Tmp × Bool × List D) :=
  match opAt ops k st with
  | some o => match o.op with
    | .binOp op T x (.const (.slice none 0 0)) _ => match eqOp op, listOf st x, P.underlying T with
      | some e, some (_, _, xs), some (.slice _) => some (o.dst, e, xs)
      | _, _, _ => none
    | _ => none
  | none => none
theorem OWk.nilq {xs : List D} {d : Option Tmp} {e : Bool} (m : Nat) (H : List SObj) (L : List Nat) (l : Bool → List (Nat × SV)) (h : nqAt P ops k st = some (d, e, xs)) (hst : ∀ b, pickR m L (st.put d (.d (.bool b))) = some (l b, H))
    (hn : ∀ b, (b = e → xs = []) → OWk P pu ops (k + 1) (sp m (l b) H) Q) : OWk P pu ops k st Q := by
  unfold nqAt at h
  split at h
  · rename_i o ho
    split at h
    · rename_i op T x yT hop
      split at h
      · rename_i e' lo no xs' eT hop1 hl hT
        simp only [Option.some.injEq, Prod.mk.injEq] at h
        obtain ⟨rfl, rfl, rfl⟩ := h
        obtain ⟨g1, g2⟩ := opAt_inv ho
        have key : ∀ (a : Act) (w : World) (g : Gh), Rel st a w g → ∃ b : Bool, (b = e' → xs' = []) ∧ (execOp a.eval o).run P w = .ok (.value (.bool b)) w := by
          intro a w g hr
          have hL := listOf_sound hr hl
          obtain ⟨base, len, cap, hv, hnil⟩ : ∃ base len cap, a.eval x = .slice base len cap ∧ (base = none → xs' = []) := by
            rcases hL with ⟨rfl, b0, cap, hv⟩ | ⟨kb, off, cap, c, T0, fz, us, hv, -⟩
            · grind
            grind
          have hy : a.eval (.const (.slice none 0 0)) = .slice none 0 0 := rfl
          have hEq : (Op.equal T (.slice base len cap) (.slice none 0 0)).run P w = .ok base.isNone w := by
            simp [Op.equal, Op.maxDepth, Lib.run_equalIn_slice_nil w 9999 T eT base len cap 0 0 hT]
          cases op <;> simp only [eqOp, reduceCtorEq, Option.some.injEq] at hop1
          · subst hop1
            refine ⟨base.isNone, fun hb => hnil (by cases base <;> simp_all), ?_⟩
            unfold execOp; rw [hop]
            have e1 : eqGuard .eql T x (.const (.slice none 0 0)) (.slice base len cap) (.slice none 0 0) = pure () := rfl
            have e2 : binOp .eql T (.slice base len cap) (.slice none 0 0) = (do pure (.bool (← Op.equal T (.slice base len cap) (.slice none 0 0))) : Sem Value) := rfl
            simp_all
          · subst hop1
            refine ⟨!base.isNone, fun hb => hnil (by cases base <;> simp_all), ?_⟩
            unfold execOp; rw [hop]
            have e1 : eqGuard .neq T x (.const (.slice none 0 0)) (.slice base len cap) (.slice none 0 0) = pure () := rfl
            have e2 : binOp .neq T (.slice base len cap) (.slice none 0 0) = (do pure (.bool (!(← Op.equal T (.slice base len cap) (.slice none 0 0)))) : Sem Value) := rfl
            simp_all
        unfold OWk OW at hn ⊢
        rw [drop_cons g1]
        intro a w g hr Qc hq
        obtain ⟨b, hb, hrun⟩ := key a w g hr
        unfold wpList
        rw [wantS_sound hr g2, if_pos rfl]
        refine .inl ?_
        unfold Oper.wp
        rw [hrun, Oper.upon_value]
        exact hn b hb _ w g ((hr.putLight o.dst (v := .bool b) (s := .d (.bool b)) .bool).keepR (keepR_of_pick (hst b))) Qc hq
      · cases h
    · cases h
  · cases h
end
end Go.Sh
namespace Go.Sh
theorem ev_ne {a : Act} {d t : Nat} {v : Value} (h : d ≠ t) : (a.put (some d) v).eval (.tmp t) = a.eval (.tmp t) := eval_put_other (fun e => h (by injection e with e; exact e.symm))
theorem ev_eq {a : Act} {d : Nat} {v : Value} (h : d < a.tmps.size) : (a.put (some d) v).eval (.tmp d) = v := valOf_put_same h
theorem put_sz {a : Act} {d : Option Tmp} {v : Value} : (a.put d v).tmps.size = a.tmps.size := put_size
section
variable {P : Program} {pu : Bool} {st : St} {ops : Array Oper}
/-- An operation, as far as it matters. -/
def isOp (o : Oper) (d : Option Tmp) (op : Op) : Prop := o.dst = d ∧ o.op = op ∧ o.guard = none
theorem still_val {Q : Act → Prop} (ho : isOp o d op) (hrun : ∀ ty, (execOp a.eval { o with op := op, type := ty }).run P w = .ok (.value v) w) (h : wpStill P ops w Q rest (a.put d v)) :
    wpStill P ops w Q (o :: rest) a := by
  obtain ⟨h1, h2, h3⟩ := ho
  unfold wpStill
  rw [show Region.wanted o (yielded ops a.tmps) = true by unfold Region.wanted; rw [h3], if_pos rfl]
  unfold Oper.still
  have := hrun o.type
  subst h2
  rw [this, Oper.stillUpon_value, h1]
  exact h
theorem list_val {Q : Exit → Act → World → Prop} (ho : isOp o d op) (hrun : ∀ ty, (execOp a.eval { o with op := op, type := ty }).run P w = .ok (.value v) w') (h : wpList P ops Q rest (a.put d v) w') :
    wpList P ops Q (o :: rest) a w := by
  obtain ⟨h1, h2, h3⟩ := ho
  have := hrun o.type
  subst h2
  subst h1
  exact wpList_val h3 this h
theorem x_move {a : Act} {w : World} {o : Oper} {x : Operand} {ty : TypeId} : (execOp a.eval { o with op := .move x, type := ty }).run P w = .ok (.value (a.eval x)) w := rfl
theorem x_assign {a : Act} {w : World} {o : Oper} {x : Operand} {ty : TypeId} : (execOp a.eval { o with op := .assign x, type := ty }).run P w = .ok (.value (a.eval x)) w := rfl
theorem addr_add0 (k off : Nat) : (⟨k, off, none⟩ : Addr).add 0 = ⟨k, off, none⟩ := by simp [Addr.add_lit]
/-- s[:i], s[i:]: exactly. -/
theorem run_sliceHi {T e : TypeId} (hu : P.underlying T = some (.slice e)) (hz : P.cellsOf e ≠ 0) {k off len cap : Nat} {i : Int} {ik : IntKind} (h0 : 0 ≤ i) (h1 : i ≤ cap) (w : World) :
    (Instr.sliceAt T (.slice (some ⟨k, off, none⟩) len cap) none (some (.int ik i)) none).run P w = .ok (.slice (some ⟨k, off, none⟩) i.toNat cap) w := by
  simp [Instr.sliceAt, Instr.slice, Instr.sliceBounds, Instr.sliceBound, asIntOf, run_underlying hu, h0, h1, sizeOf_ne hz, addr_add0]
theorem run_sliceLo {T e : TypeId} (hu : P.underlying T = some (.slice e)) (hz : P.cellsOf e ≠ 0) {k off len cap : Nat} {i : Int} {ik : IntKind} (h0 : 0 ≤ i) (h1 : i ≤ len) (w : World) :
    (Instr.sliceAt T (.slice (some ⟨k, off, none⟩) len cap) (some (.int ik i)) none none).run P w = .ok (.slice (some ⟨k, if cap = i.toNat then off else off + i.toNat * P.cellsOf e, none⟩) (len - i.toNat) (cap - i.toNat)) w := by
  simp [Instr.sliceAt, Instr.slice, Instr.sliceBounds, Instr.sliceBound, asIntOf, run_underlying hu, h0, h1, sizeOf_ne hz, Addr.add_lit]
  split <;> rfl
theorem RFlat.get (h : RFlat g w a n xs) : a.size = xs.length * n := h.1
theorem RFlat.take (h : RFlat g w a n xs) (hi : i ≤ xs.length) : RFlat g w (a.extract 0 (i * n)) n (xs.take i) := by
  obtain ⟨h1, h2, h3⟩ := h
  have hin : i * n ≤ xs.length * n := Nat.mul_le_mul_right _ hi
  refine ⟨by grind, fun p x hx => ?_, fun p x hx q y hy => ?_⟩
  · grind
  · rw [List.getElem?_take] at hx
    split at hx
    · rename_i hp
      obtain ⟨u, u1, u2⟩ := h3 p x hx q y hy
      have hq : q < n := by rw [← h2 p x hx]; exact get_lt hy
      have : (p + 1) * n ≤ i * n := Nat.mul_le_mul_right _ hp
      grind
    · cases hx
theorem RFlat.drop (h : RFlat g w a n xs) (hi : i ≤ xs.length) : RFlat g w (a.extract (i * n) (xs.length * n)) n (xs.drop i) := by
  obtain ⟨h1, h2, h3⟩ := h
  have hin : i * n ≤ xs.length * n := Nat.mul_le_mul_right _ hi
  refine ⟨by simp [h1, Nat.sub_mul], fun p x hx => ?_, fun p x hx q y hy => ?_⟩
  · grind
  grind
/-- A list of one's own out of what stands in a block. -/
theorem ROwn.win (hfl : RFlat g w flat n ys) (hb : w'.heap[k]? = some (.cells c T (0, 0))) (ho : g'.ow k = .lst o)
    (hcap : ys.length ≤ cap) (hsz : off + cap * n ≤ c.size) (hw : ∀ q, q < ys.length * n → c[off + q]? = flat[q]?) (hk : Keep .free g w g' w') (hρ : KeepR g g') : ROwn g' w' o (.slice (some ⟨k, off, none⟩) ys.length cap) n ys := by
  obtain ⟨h1, h2, h3⟩ := hfl
  refine .inr ⟨k, off, cap, c, T, fun i j => flat.getD (i * n + j) undef, rfl, ho, hb, hcap, hsz, h2, fun i x hx j y hy => ?_, fun i x hx j y hy => ?_⟩
  · obtain ⟨u, u1, u2, u3⟩ := h3 i x hx j y hy
    have hg : flat.getD (i * n + j) undef = u := by simp_all
    grind
  · obtain ⟨u, u1, u2, u3⟩ := h3 i x hx j y hy
    have hg : flat.getD (i * n + j) undef = u := by simp_all
    simp only [hg]
    exact u2.keep hk hρ
theorem ROwn.flatC {g : Gh} {w : World} {o : Loc} {n : Nat} {xs : List D} {k off len cap : Nat} {c : Array Value} {T : TypeId} {us : Nat → Nat → Value} (hn : 0 < n) (hl : len = xs.length) (hcap : xs.length ≤ cap) (hsz : off + cap * n ≤ c.size)
    (hw : ∀ (i : Nat) (x : D), xs[i]? = some x → x.cells.length = n) (hcc : ∀ (i : Nat) (x : D), xs[i]? = some x → ∀ (j : Nat) (y : D), x.cells[j]? = some y → c[off + i * n + j]? = some (us i j) ∧ (us i j).oneCell' = true)
    (hrr : ∀ (i : Nat) (x : D), xs[i]? = some x → ∀ (j : Nat) (y : D), x.cells[j]? = some y → Rd g w (us i j) y) : RFlat g w (c.extract off (off + xs.length * n)) n xs := by
  have hs : off + xs.length * n ≤ c.size := by
    have : xs.length * n ≤ cap * n := Nat.mul_le_mul_right _ hcap
    omega
  refine ⟨by simp [Nat.min_eq_left hs], hw, fun i x hx j y hy => ⟨us i j, ?_, hrr i x hx j y hy, (hcc i x hx j y hy).2⟩⟩
  have hj : j < n := by rw [← hw i x hx]; exact get_lt hy
  have := get_lt hx
  have : (i + 1) * n ≤ xs.length * n := Nat.mul_le_mul_right _ this
  grind
/-- Slots written with what nobody asks for. -/
def St.junk (st : St) : List Nat → St
  | [] => st
  | t :: ts => (st.put (some t) .undef).junk ts
/-- 's = append(s[:i], s[j:]...)', s a list of one's own. -/
theorem delR_wp {id : Nat} {o1 o2 o3 o4 o5 o6 o7 o8 : Oper} {T e : TypeId} {ti : TypeInfo} {z : Value} {n : Nat} {xs : List D} {i j : Int} {t1 t2 t3 t4 t5 t6 t7 s a1 a2 : Nat}
    (hm : P.follows .mixedOrders = true) (hB : Region.lexTailB .any #[o1, o2, o3, o4, o5, o6, o7, o8] 6 = true)
    (h1 : isOp o1 (some t1) (.move (.tmp s))) (h2 : isOp o2 (some t2) (.move (.tmp a1))) (h3 : isOp o3 (some t3) (.slice T (.tmp t1) none (some (.tmp t2)) none)) (h4 : isOp o4 (some t4) (.move (.tmp s))) (h5 : isOp o5 (some t5) (.move (.tmp a2)))
    (h6 : isOp o6 (some t6) (.slice T (.tmp t4) (some (.tmp t5)) none none)) (h7 : isOp o7 (some t7) (.call ⟨.builtin .append, #[.tmp t3, .tmp t6], #[T, T]⟩)) (h8 : isOp o8 (some s) (.assign (.tmp t7)))
    (hN : (decide (t1 < st.tmps.length) && decide (t2 < st.tmps.length) && decide (t3 < st.tmps.length) && decide (t4 < st.tmps.length) && decide (t5 < st.tmps.length) && decide (t6 < st.tmps.length) && decide (t7 < st.tmps.length)) = true)
    (hd : List.Pairwise (· ≠ ·) [s, a1, a2, t1, t2, t3, t4, t5, t6, t7])
    (hT : P.underlying T = some (.slice e)) (hi : P.info? e = some ti) (hz : ti.zero = some z) (hsize : ti.size = n) (hn : 0 < n) (hby : ti.bytes ≤ 65536)
    (hs : st.tmps[s]? = some (.own n xs)) (hi1 : valD st (.tmp a1) = some (.int .i64 i)) (hj1 : valD st (.tmp a2) = some (.int .i64 j)) (hij : (decide (0 ≤ i) && decide (i < j) && decide (j ≤ xs.length) && decide (xs.length ≤ room)) = true)
    {a : Act} {w : World} {g : Gh} (hr : Rel st a w g) :
    (Code.region id #[o1, o2, o3, o4, o5, o6, o7, o8] true).wp P (fun e a' w' => e = .normal ∧ ∃ g', Rel (((st.junk [t1, t2, t3, t4, t5, t6, t7]).take s).put (some s) (.own n (xs.take i.toNat ++ xs.drop j.toNat))) a' w' g' ∧ Fr pu g w g' w' ∧
      ∃ k off cap, valOf a' s = .slice (some ⟨k, off, none⟩) (xs.take i.toNat ++ xs.drop j.toNat).length cap ∧ xs.length ≤ cap) a w := by
  simp only [Bool.and_eq_true, decide_eq_true_eq] at hN hij
  obtain ⟨⟨⟨⟨⟨⟨n1, n2⟩, n3⟩, n4⟩, n5⟩, n6⟩, n7⟩ := hN
  obtain ⟨⟨⟨i0, ij⟩, jl⟩, hroom⟩ := hij
  simp only [List.pairwise_cons, List.mem_cons, List.not_mem_nil, or_false, ne_eq, forall_eq_or_imp, forall_eq, List.Pairwise.nil, and_true, false_imp_iff, implies_true] at hd
  obtain ⟨⟨sa1, sa2, s1, s2, s3, s4, s5, s6, s7⟩, ⟨a12, b1, b2, b3, b4, b5, b6, b7⟩, ⟨c1, c2, c3, c4, c5, c6, c7⟩, ⟨d12, d13, d14, d15, d16, d17⟩, ⟨d23, d24, d25, d26, d27⟩, ⟨d34, d35, d36, d37⟩, ⟨d45, d46, d47⟩, ⟨d56, d57⟩, d67⟩ := hd
  have hce : P.cellsOf e = n := by simp [Program.cellsOf, hi, hsize]
  have hn0 : P.cellsOf e ≠ 0 := by omega
  rcases (hr.tmp s _ hs : ROwn g w (.slot s) (valOf a s) n xs) with ⟨rfl, -⟩ | ⟨k, off, cap, c, T0, us, hv, hk, hb, hl, hz', hw, hcc, hrr⟩
  · simp at jl; omega
  have hlen := hr.len
  have e1 : a.eval (.tmp a1) = .int .i64 i := valD_leaf hr hi1 rfl
  have e2 : a.eval (.tmp a2) = .int .i64 j := valD_leaf hr hj1 rfl
  have es : a.eval (.tmp s) = .slice (some ⟨k, off, none⟩) xs.length cap := hv
  refine wp_region_still_tail (l := [o1, o2, o3, o4, o5, o6, o7, o8]) 6 hm hB ?_
  show wpStill P _ w.drew (fun a' => wpList P _ _ [o7, o8] a' w.drew) [o1, o2, o3, o4, o5, o6] a
  refine still_val h1 (v := .slice (some ⟨k, off, none⟩) xs.length cap) (fun _ => by rw [x_move, es]) ?_
  refine still_val h2 (v := .int .i64 i) (fun _ => by rw [x_move, ev_ne (Ne.symm b1), e1]) ?_
  refine still_val h3 (v := .slice (some ⟨k, off, none⟩) i.toNat cap) (fun ty => ?_) ?_
  · show (do pure (.value (← Instr.sliceAt T _ none (some _) none)) : Sem Next).run P w.drew = _
    simp only [Sem.run_bind]
    rw [ev_ne (Ne.symm d12), ev_eq (by omega), ev_eq (by rw [put_sz]; omega), run_sliceHi hT hn0 i0 (by omega)]
    rfl
  refine still_val h4 (v := .slice (some ⟨k, off, none⟩) xs.length cap) (fun _ => by rw [x_move, ev_ne (Ne.symm s3), ev_ne (Ne.symm s2), ev_ne (Ne.symm s1), es]) ?_
  refine still_val h5 (v := .int .i64 j) (fun _ => by rw [x_move, ev_ne (Ne.symm c4), ev_ne (Ne.symm c3), ev_ne (Ne.symm c2), ev_ne (Ne.symm c1), e2]) ?_
  refine still_val h6 (v := .slice (some ⟨k, if cap = j.toNat then off else off + j.toNat * n, none⟩) (xs.length - j.toNat) (cap - j.toNat)) (fun ty => ?_) ?_
  · show (do pure (.value (← Instr.sliceAt T _ (some _) none none)) : Sem Next).run P w.drew = _
    simp only [Sem.run_bind]
    rw [ev_ne (Ne.symm d45), ev_eq (by simp only [put_sz]; omega), ev_eq (by simp only [put_sz]; omega), run_sliceLo hT hn0 (by omega) jl, hce]
    rfl
  generalize ha6 : (((((a.put (some t1) (.slice (some ⟨k, off, none⟩) xs.length cap)).put (some t2) (.int .i64 i)).put (some t3) (.slice (some ⟨k, off, none⟩) i.toNat cap)).put (some t4) (.slice (some ⟨k, off, none⟩) xs.length cap)).put (some t5) (.int .i64 j)).put (some t6)
    (.slice (some ⟨k, if cap = j.toNat then off else off + j.toNat * n, none⟩) (xs.length - j.toNat) (cap - j.toNat)) = a6
  have hrd : Rel st a w.drew g := hr.drew
  have u : ∀ {v : Value}, Light g w.drew v .undef := trivial
  have r6 : Rel ((((((st.put (some t1) .undef).put (some t2) .undef).put (some t3) .undef).put (some t4) .undef).put (some t5) .undef).put (some t6) .undef) a6 w.drew g := by
    subst ha6
    exact (((((hrd.putLight (some t1) u).putLight (some t2) u).putLight (some t3) u).putLight (some t4) u).putLight (some t5) u).putLight (some t6) u
  have v3 : a6.eval (.tmp t3) = .slice (some ⟨k, off, none⟩) i.toNat cap := by subst ha6; rw [ev_ne (Ne.symm d36), ev_ne (Ne.symm d35), ev_ne (Ne.symm d34), ev_eq (by simp only [put_sz]; omega)]
  have v6 : a6.eval (.tmp t6) = .slice (some ⟨k, if cap = j.toNat then off else off + j.toNat * n, none⟩) (xs.length - j.toNat) (cap - j.toNat) := by subst ha6; rw [ev_eq (by simp only [put_sz]; omega)]
  have hlen6 : a6.tmps.size = st.tmps.length := by subst ha6; simp only [put_sz]; exact hlen
  clear ha6
  -- append
  have hcapn : xs.length * n ≤ cap * n := Nat.mul_le_mul_right _ hl
  have hjn : j.toNat * n + (xs.length - j.toNat) * n = xs.length * n := by rw [← Nat.add_mul]; congr 1; omega
  have hin : i.toNat * n ≤ j.toNat * n := Nat.mul_le_mul_right _ (by omega)
  let news := c.extract (off + j.toNat * n) (off + xs.length * n)
  have hbd : w.drew.heap[k]? = some (.cells c T0 (0, 0)) := hb
  have hnews : ∀ w', Up w.drew w' → (Builtin.firstCells n (xs.length - j.toNat) (.slice (some ⟨k, if cap = j.toNat then off else off + j.toNat * n, none⟩) (xs.length - j.toNat) (cap - j.toNat))).run P w' = .ok news w' := fun w' hup => by
    simp only [Builtin.firstCells]
    split
    · rename_i hcj
      have h0 : xs.length - j.toNat = 0 := by omega
      have : news = #[] := by
        grind
      rw [h0, this, Nat.zero_mul]
      simp [loadCells, loadCellsFrom]
    · rw [run_cells (P := P) (hup _ _ hbd) (by omega)]
      grind
  have hap := fun ty => append_exec (P := P) (T := T) (T2 := T) (ty := ty) (e := e) (i := ti) (z := z) (v := .slice (some ⟨k, off, none⟩) i.toNat cap) (x := .slice (some ⟨k, if cap = j.toNat then off else off + j.toNat * n, none⟩) (xs.length - j.toNat) (cap - j.toNat)) (w := w.drew)
    (m := xs.length - j.toNat) (news := news) (olds := c.extract off (off + i.toNat * n)) rfl hT hi hz ⟨_, hT, by simp⟩ (fun _ => rfl) (by rw [hsize]; exact hnews) (fun w' hup => by
      rw [hsize]
      simp only [Builtin.firstCells]
      rw [run_cells (P := P) (hup _ _ hbd) (by omega)]) (by unfold maxLen; unfold room at hroom; omega) (by
      unfold room at hroom
      have : (i.toNat + (xs.length - j.toNat)) * ti.bytes ≤ 16777216 * 65536 := Nat.mul_le_mul (by omega) hby
      omega)
  have hin' := fun ty => (hap ty).1 (by omega)
  simp only [hsize] at hin'
  have hnsz : news.size = (xs.length - j.toNat) * n := by simp [news]; omega
  have hone : ∀ v ∈ news.toList, v.oneCell' = true := by
    have := (ROwn.flatC (g := g) (w := w) (k := k) (T := T0) (o := .slot s) hn rfl hl hz' hw hcc hrr).one
    intro v hv'
    refine this v ?_
    simp only [news, Array.mem_toList_iff, Array.mem_extract_iff_getElem] at hv' ⊢
    obtain ⟨q, hq1, rfl⟩ := hv'
    exact ⟨j.toNat * n + q, by omega, by congr 1; omega⟩
  obtain ⟨w', q1, q2, q3, c', q4, q5, q6⟩ := run_storeCells' (P := P) k (off + i.toNat * n) T0 news.toList 0 c w.drew hbd (by simp [hnsz]; omega) hone
  refine list_val h7 (v := .slice (some ⟨k, off, none⟩) (i.toNat + (xs.length - j.toNat)) cap) (w' := w') (fun ty => ?_) ?_
  · refine run_append_call (a := a6) (x := .tmp t3) (y := .tmp t6) rfl rfl rfl rfl ?_
    rw [v3, v6, hin' ty]
    simp only [Addr.add_lit, q1, Result.andThen_ok]
  refine list_val h8 (v := .slice (some ⟨k, off, none⟩) (i.toNat + (xs.length - j.toNat)) cap) (w' := w') (fun _ => by rw [x_assign, ev_eq (by omega)]) ?_
  -- the end
  let zs := xs.take i.toNat ++ xs.drop j.toNat
  have hzl : zs.length = i.toNat + (xs.length - j.toNat) := by simp [zs]; omega
  have hkeep : ∀ o', o' ≠ .lst (.slot s) → Keep o' g w.drew g w' := fun o' ho => Keep.block hk ho q3
  have r7 : Rel (st.junk [t1, t2, t3, t4, t5, t6, t7]) (a6.put (some t7) (.slice (some ⟨k, off, none⟩) (i.toNat + (xs.length - j.toNat)) cap)) w.drew g := r6.putLight (some t7) u
  have hfl := ROwn.flatC (g := g) (w := w) (k := k) (T := T0) (o := .slot s) hn rfl hl hz' hw hcc hrr
  have hin2 : i.toNat * n + (xs.length - j.toNat) * n ≤ xs.length * n := by omega
  have hO : ROwn g w' (.slot s) (.slice (some ⟨k, off, none⟩) (i.toNat + (xs.length - j.toNat)) cap) n zs := by
    rw [← hzl]
    refine ROwn.win ((hfl.take (i := i.toNat) (by omega)).append (hfl.drop (i := j.toNat) (by omega))) q4 hk (by omega) (by rw [q5]; exact hz') (fun q hq => ?_) (hkeep _ (by simp)) (fun _ _ h => h)
    rw [hzl, Nat.add_mul] at hq
    have hmin : min i.toNat xs.length = i.toNat := by omega
    have hsz1 : ((c.extract off (off + xs.length * n)).extract 0 (i.toNat * n)).size = i.toNat * n := by grind
    have hszF := hfl.1
    rw [q6]
    by_cases hq1 : q < i.toNat * n
    · grind
    · rw [if_pos (by simp [hnsz]; omega), Array.getElem?_append_right (by omega), hsz1, Array.getElem?_toList, Array.getElem?_extract, if_pos (by simp [hnsz]; omega), Array.getElem?_extract, if_pos (by simp; omega), Array.getElem?_extract, if_pos (by omega)]
      congr 1; omega
  have hfin := Rel.replace r7 (s := s) (d := s) (sv := .own n zs) (v' := .slice (some ⟨k, off, none⟩) (i.toNat + (xs.length - j.toNat)) cap) hkeep rfl (fun _ _ => hO)
  refine ⟨rfl, g, hfin, (Fr.drew).trans (Fr.keepBut (l := .slot s) (by simp) (by rw [q2]; exact Nat.le_refl _) hkeep rfl (storeCells_os (P := P) k (off + i.toNat * n) T0 news.toList 0 c w.drew w' hbd (by simp [hnsz]; omega) hone q1)), k, off, cap, ?_, hl⟩
  rw [valOf_put_same (by rw [put_sz, hlen6]; exact get_lt hs), hzl]
theorem run_sliceB {T e : TypeId} (hu : P.underlying T = some (.slice e)) (hz : P.cellsOf e ≠ 0) {k off len cap : Nat} {i j : Int} {ik jk : IntKind} (h0 : 0 ≤ i) (h1 : i ≤ j) (h2 : j ≤ cap) (w : World) :
    (Instr.sliceAt T (.slice (some ⟨k, off, none⟩) len cap) (some (.int ik i)) (some (.int jk j)) none).run P w = .ok (.slice (some ⟨k, if cap = i.toNat then off else off + i.toNat * P.cellsOf e, none⟩) (j.toNat - i.toNat) (cap - i.toNat)) w := by
  have hj : 0 ≤ j := by omega
  have hij : i ≤ max j 0 := by omega
  simp [Instr.sliceAt, Instr.slice, Instr.sliceBounds, Instr.sliceBound, asIntOf, run_underlying hu, h0, h1, h2, hj, hij, sizeOf_ne hz, Addr.add_lit]
  split <;> rfl
theorem run_clear_call {o : Oper} {c : Call} {a : Act} {w : World} {x : Operand} {T : TypeId} (hop : o.op = .call c) (hc : c.callee = .builtin .clear) (ha : c.args.toList = [x]) (ht : c.argTypes.toList = [T]) {v : Value} {w' : World}
    (h : (Builtin.clear_ #[T] o.type #[a.eval x]).run P w = .ok v w') : (execOp a.eval o).run P w = .ok (.value v) w' := by
  obtain ⟨callee, args, argTypes⟩ := c
  have ha2 : args = #[x] := by apply Array.ext'; simpa using ha
  have ht2 : argTypes = #[T] := by apply Array.ext'; simpa using ht
  subst ha2 ht2
  simp only at hc
  subst hc
  unfold execOp
  rw [hop]
  simp only [resolve, List.map_toArray, List.map_cons, List.map_nil, Sem.run_bind, Sem.run_pure, Result.andThen_ok, invoke, builtin]
  simp [h]
theorem run_len_call {o : Oper} {c : Call} {a : Act} {w : World} {x : Operand} {T e : TypeId} {b : Option Addr} {n cap : Nat} (hop : o.op = .call c) (hc : c.callee = .builtin .len) (ha : c.args.toList = [x]) (ht : c.argTypes.toList = [T]) (hu : P.underlying T = some (.slice e))
    (hx : a.eval x = .slice b n cap) : (execOp a.eval o).run P w = .ok (.value (goInt n)) w := by
  obtain ⟨callee, args, argTypes⟩ := c
  have ha2 : args = #[x] := by apply Array.ext'; simpa using ha
  have ht2 : argTypes = #[T] := by apply Array.ext'; simpa using ht
  subst ha2 ht2
  simp only at hc
  subst hc
  unfold execOp
  rw [hop]
  simp only [resolve, List.map_toArray, List.map_cons, List.map_nil, Sem.run_bind, Sem.run_pure, Result.andThen_ok, invoke, builtin, hx]
  simp [Builtin.len_, run_underlying hu]
theorem zeroCells_one (hz : constD z = some d) (m : Nat) : ∀ v ∈ (Builtin.zeroCells z.cells m).toList, v.oneCell' = true := by
  intro v hv
  have hrd : Rd ⟨fun _ => .free, []⟩ (default : World) z d := constD_rd hz
  obtain ⟨c1, c2⟩ := hrd.cells
  simp only [Builtin.zeroCells, Array.toList_map, List.mem_map] at hv
  obtain ⟨i, hi, rfl⟩ := hv
  have hi' : i < m * z.cells.size := by simpa using hi
  have h0 : 0 < z.cells.size := by
    grind
  have hlt : i % z.cells.size < z.cells.size := Nat.mod_lt _ h0
  obtain ⟨u, u1, -, u3⟩ := c2 (i % z.cells.size) (d.cells[i % z.cells.size]'(by omega)) (by simp)
  grind
/-- 's = append(s[:i], s[j:]...); clear(s[len(s):oldlen])'. -/
theorem SW.del {id id2 : Nat} {o1 o2 o3 o4 o5 o6 o7 o8 p1 p2 p3 p4 p5 p6 : Oper} {Y : Code} {T e : TypeId} {ti : TypeInfo} {z : Value} {zd : D} {n : Nat} {xs : List D} {i j : Int} {Q : Exit → St → Prop} {t1 t2 t3 t4 t5 t6 t7 s a1 a2 a3 u1 u2 u3 u4 u5 : Nat} {st2 : St}
    (hm : P.follows .mixedOrders = true) (hB : Region.lexTailB .any #[o1, o2, o3, o4, o5, o6, o7, o8] 6 = true)
    (h1 : isOp o1 (some t1) (.move (.tmp s))) (h2 : isOp o2 (some t2) (.move (.tmp a1))) (h3 : isOp o3 (some t3) (.slice T (.tmp t1) none (some (.tmp t2)) none)) (h4 : isOp o4 (some t4) (.move (.tmp s))) (h5 : isOp o5 (some t5) (.move (.tmp a2)))
    (h6 : isOp o6 (some t6) (.slice T (.tmp t4) (some (.tmp t5)) none none)) (h7 : isOp o7 (some t7) (.call ⟨.builtin .append, #[.tmp t3, .tmp t6], #[T, T]⟩)) (h8 : isOp o8 (some s) (.assign (.tmp t7)))
    (k1 : isOp p1 (some u1) (.move (.tmp s))) (k2 : isOp p2 (some u2) (.move (.tmp s))) (k3 : isOp p3 (some u3) (.call ⟨.builtin .len, #[.tmp u2], #[T]⟩)) (k4 : isOp p4 (some u4) (.move (.tmp a3)))
    (k5 : isOp p5 (some u5) (.slice T (.tmp u1) (some (.tmp u3)) (some (.tmp u4)) none)) (k6 : isOp p6 none (.call ⟨.builtin .clear, #[.tmp u5], #[T]⟩))
    (hN : (decide (t1 < st.tmps.length) && decide (t2 < st.tmps.length) && decide (t3 < st.tmps.length) && decide (t4 < st.tmps.length) && decide (t5 < st.tmps.length) && decide (t6 < st.tmps.length) && decide (t7 < st.tmps.length)) = true)
    (hN2 : (decide (u1 < st.tmps.length) && decide (u2 < st.tmps.length) && decide (u3 < st.tmps.length) && decide (u4 < st.tmps.length) && decide (u5 < st.tmps.length)) = true)
    (hd : List.Pairwise (· ≠ ·) [s, a1, a2, t1, t2, t3, t4, t5, t6, t7]) (hd2 : List.Pairwise (· ≠ ·) [s, a3, u1, u2, u3, u4, u5])
    (hT : P.underlying T = some (.slice e)) (hi : P.info? e = some ti) (hz : ti.zero = some z) (hzd : constD z = some zd) (hzn : z.cells.size = n) (hsize : ti.size = n) (hn : 0 < n) (hby : ti.bytes ≤ 65536)
    (hs : st.tmps[s]? = some (.own n xs)) (hi1 : valD st (.tmp a1) = some (.int .i64 i)) (hj1 : valD st (.tmp a2) = some (.int .i64 j)) (hij : (decide (0 ≤ i) && decide (i < j) && decide (j ≤ xs.length) && decide (xs.length ≤ room)) = true)
    (hst2 : ((st.junk [t1, t2, t3, t4, t5, t6, t7]).take s).put (some s) (.own n (xs.take i.toNat ++ xs.drop j.toNat)) = st2) (h3v : valD st2 (.tmp a3) = some (.int .i64 xs.length))
    (hq : SW P pu Y (st2.junk [u1, u2, u3, u4, u5]) Q) :
    SW P pu (.seq (.region id #[o1, o2, o3, o4, o5, o6, o7, o8] true) (.seq (.region id2 #[p1, p2, p3, p4, p5, p6] false) Y)) st Q := by
  intro a w g hr
  refine wp_seq (Code.wp_mono (fun ex a1' w1 hh => ?_) (delR_wp (pu := pu) (a1 := a1) (a2 := a2) hm hB h1 h2 h3 h4 h5 h6 h7 h8 hN hd hT hi hz hsize hn hby hs hi1 hj1 hij hr))
  obtain ⟨rfl, g1, hr1, hf1, k, off, cap, hv, hcap⟩ := hh
  rw [hst2] at hr1
  simp only [Bool.and_eq_true, decide_eq_true_eq] at hN2 hij
  obtain ⟨⟨⟨⟨n1, n2⟩, n3⟩, n4⟩, n5⟩ := hN2
  obtain ⟨⟨⟨i0, ij⟩, jl⟩, hroom⟩ := hij
  simp only [List.pairwise_cons, List.mem_cons, List.not_mem_nil, or_false, ne_eq, forall_eq_or_imp, forall_eq, List.Pairwise.nil, and_true, false_imp_iff, implies_true] at hd2
  obtain ⟨⟨s3, s1, s2, s4, s5, s6⟩, ⟨b1, b2, b3, b4, b5⟩, ⟨d12, d13, d14, d15⟩, ⟨d23, d24, d25⟩, ⟨d34, d35⟩, d45⟩ := hd2
  have hlen1 : a1'.tmps.size = st.tmps.length := by
    rw [hr1.len, ← hst2]; simp [St.junk]
  have hce : P.cellsOf e = n := by simp [Program.cellsOf, hi, hsize]
  have hn0 : P.cellsOf e ≠ 0 := by omega
  let zs := xs.take i.toNat ++ xs.drop j.toNat
  have hzl : zs.length = i.toNat + (xs.length - j.toNat) := by simp [zs]; omega
  have hs1 : st2.tmps[s]? = some (.own n zs) := by
    rw [← hst2]
    have hlt : s < ((st.junk [t1, t2, t3, t4, t5, t6, t7]).take s).tmps.length := by simp [St.junk]; exact get_lt hs
    simp only [St.put]
    rw [List.getElem?_eq_getElem hlt]
    simp only
    split
    · simp only [St.set]; rw [List.getElem?_set_self (by simpa using hlt)]
    · simp only [St.set]; rw [List.getElem?_set_self hlt]
  have hO : ROwn g1 w1 (.slot s) (valOf a1' s) n zs := hr1.tmp s _ hs1
  have ev0 : a1'.eval (.tmp s) = .slice (some ⟨k, off, none⟩) zs.length cap := hv
  have ev3 : a1'.eval (.tmp a3) = .int .i64 xs.length := valD_leaf hr1 h3v rfl
  refine wp_seq (wp_region_lit (l := [p1, p2, p3, p4, p5, p6]) ?_)
  refine list_val k1 (w' := w1) (v := .slice (some ⟨k, off, none⟩) zs.length cap) (fun _ => by rw [x_move, ev0]) ?_
  refine list_val k2 (w' := w1) (v := .slice (some ⟨k, off, none⟩) zs.length cap) (fun _ => by rw [x_move, ev_ne (Ne.symm s1), ev0]) ?_
  refine list_val k3 (w' := w1) (v := goInt zs.length) (fun ty => ?_) ?_
  · exact run_len_call rfl rfl rfl rfl hT (ev_eq (by rw [put_sz]; omega))
  refine list_val k4 (w' := w1) (v := .int .i64 xs.length) (fun _ => by rw [x_move, ev_ne (Ne.symm b3), ev_ne (Ne.symm b2), ev_ne (Ne.symm b1), ev3]) ?_
  refine list_val k5 (w' := w1) (v := .slice (some ⟨k, off + zs.length * n, none⟩) (xs.length - zs.length) (cap - zs.length)) (fun ty => ?_) ?_
  · show (do pure (.value (← Instr.sliceAt T _ (some _) (some _) none)) : Sem Next).run P w1 = _
    simp only [Sem.run_bind]
    rw [ev_ne (Ne.symm d14), ev_ne (Ne.symm d13), ev_ne (Ne.symm d12), ev_eq (by omega), ev_ne (Ne.symm d34), ev_eq (by simp only [put_sz]; omega), ev_eq (by simp only [put_sz]; omega)]
    rw [show goInt zs.length = .int .i64 zs.length from rfl, run_sliceB hT hn0 (by omega) (by omega) (by omega), if_neg (by omega), hce]
    rfl
  rcases hO with ⟨hz0, a0, hva⟩ | ⟨k', off', cap', c, T0, us, hva, hk, hb, hl, hzz, hw, hcc, hrr⟩
  · grind
  · have hveq : valOf a1' s = .slice (some ⟨k, off, none⟩) zs.length cap := hv
    rw [hva] at hveq
    simp only [Value.slice.injEq, Option.some.injEq, Addr.mk.injEq, true_and, and_true] at hveq
    obtain ⟨⟨rfl, rfl⟩, rfl⟩ := hveq
    have hzm : zs.length * n + (xs.length - zs.length) * n = xs.length * n := by rw [← Nat.add_mul]; congr 1; omega
    have hcn : xs.length * n ≤ cap' * n := Nat.mul_le_mul_right _ hcap
    obtain ⟨w', q1, q2, q3, c', q4, q5, q6⟩ := run_storeCells' (P := P) k' (off' + zs.length * n) T0 (Builtin.zeroCells z.cells (xs.length - zs.length)).toList 0 c w1 hb (by simp [size_zeroCells, hzn]; omega) (zeroCells_one hzd _)
    refine list_val k6 (v := .tuple #[]) (w' := w') (fun ty => ?_) ?_
    · refine run_clear_call (x := .tmp u5) rfl rfl rfl rfl ?_
      rw [ev_eq (by simp only [put_sz]; omega)]
      obtain ⟨m, hm⟩ : ∃ m, xs.length - zs.length = m + 1 := ⟨xs.length - zs.length - 1, by omega⟩
      have hzv : (zeroValue e).run P w1 = .ok z w1 := by simp [zeroValue, typeInfo, hi, hz]
      rw [hm] at q1 ⊢
      simp [Builtin.clear_, run_underlying hT, hzv, q1]
    have hkeep : ∀ o', o' ≠ .lst (.slot s) → Keep o' g1 w1 g1 w' := fun o' ho => Keep.block hk ho q3
    have u : ∀ {v : Value}, Light g1 w' v .undef := trivial
    have hO' : ROwn g1 w' (.slot s) (valOf a1' s) n zs := by
      rw [hva]
      refine ROwn.win (ROwn.flatC (g := g1) (w := w1) (k := k') (T := T0) (o := .slot s) hn rfl hl hzz hw hcc hrr) q4 hk hl (by rw [q5]; exact hzz) (fun q hq => ?_) (hkeep _ (by simp)) (fun _ _ h => h)
      grind
    have hr2 : Rel st2 a1' w' g1 := by
      refine Rel.step hr1 hr1.len hr1.def0 (fun _ _ h => h) (fun t sv hts => ?_) (hr1.hp.keep (fun o ho => hkeep o fun e => by subst e; exact ho.elim) (fun _ _ h => h) rfl)
      by_cases ht : t = s
      · subst ht
        rw [hs1] at hts; cases hts
        exact .inr (.inl hO')
      · refine .inr (.inr ⟨hts, rfl, fun o ho => hkeep o fun e => ?_, fun s' _ => ⟨rfl, fun x hx _ => ⟨x, hx, rfl⟩⟩⟩)
        subst e
        rw [← hst2] at hts
        rcases St.put_get ht hts with h | ⟨h, -⟩
        · subst h; exact ho.elim
        · rcases St.take_get h with h | ⟨-, -, h⟩
          · subst h; exact ho.elim
          · exact (uses_mention ht h ho).2.1 rfl
    have hr3 := ((((hr2.putLight (some u1) (v := .slice (some ⟨k', off', none⟩) zs.length cap') u).putLight (some u2) (v := .slice (some ⟨k', off', none⟩) zs.length cap') u).putLight (some u3) (v := goInt zs.length) u).putLight (some u4) (v := .int .i64 xs.length) u).putLight (some u5) (v := .slice (some ⟨k', off' + zs.length * n, none⟩) (xs.length - zs.length) (cap' - zs.length)) u
    simp only [St.junk] at hq
    refine Code.wp_mono (fun e2 a2' w2 hh2 => ?_) (hq _ w' g1 (hr3.putLight none (v := .tuple #[]) u))
    obtain ⟨st3, g3, q, r, f⟩ := hh2
    exact ⟨st3, g3, q, r, hf1.trans ((Fr.keepBut (l := .slot s) (by simp) (by rw [q2]; exact Nat.le_refl _) hkeep rfl (storeCells_os (P := P) k' (off' + zs.length * n) T0 _ 0 c w1 w' hb (by simp [size_zeroCells, hzn]; omega) (zeroCells_one hzd _) q1)).trans f)⟩
end
end Go.Sh
