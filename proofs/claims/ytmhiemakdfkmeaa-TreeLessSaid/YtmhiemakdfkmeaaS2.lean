/- Contracts of functions over plain data. -/
import Derived.Test.YtmhiemakdfkmeaaS1
import Derived.Deep.Quiet
import Derived.Lib.ConvBytes
import Derived.Maps.RangeRun
import Derived.Lib.SliceRun
import Derived.Laws.Externs
import Derived.IntWalk
import Derived.Lib.Bytealg
import Derived.Sort.Grow
import Derived.Recover
import Derived.RangeFuncNested
import Derived.TacticsIn
set_option linter.all false
set_option autoImplicit true
set_option relaxedAutoImplicit true
namespace Go.Sh
def spL (l : List (Nat × SV)) : Nat → Nat → List SV
  | 0, _ => []
  | n + 1, t => match l with
    | [] => .undef :: spL [] n (t + 1)
    | (t', s) :: r => if t' = t then s :: spL r n (t + 1) else .undef :: spL l n (t + 1)
def sp (n : Nat) (l : List (Nat × SV)) (H : List SObj) : St := ⟨spL l n 0, H⟩
def keepL : List Nat → Nat → List SV → List SV
  | _, _, [] => []
  | [], t, s :: r => .undef :: keepL [] (t + 1) r
  | k :: ks, t, s :: r => if k = t then s :: keepL ks (t + 1) r else .undef :: keepL (k :: ks) (t + 1) r
def keepOk (L : List Nat) : List SV → Bool
  | [] => true
  | s :: r => (match dep s with | some s' => L.contains s' | none => true) && keepOk L r
def keepO (L : List Nat) (st : St) : Option St :=
  let r := keepL L 0 st.tmps
  if keepOk L r then some { st with tmps := r } else none
theorem keepL_len : ∀ (L : List Nat) (t : Nat) (l : List SV), (keepL L t l).length = l.length
  | _, _, [] => by simp [keepL]
  | [], t, s :: r => by simp [keepL, keepL_len]
  | k :: ks, t, s :: r => by simp only [keepL]; split <;> simp [keepL_len]
theorem keepL_get : ∀ (L : List Nat) (t : Nat) (l : List SV) (i : Nat) (s : SV), (keepL L t l)[i]? = some s → s = .undef ∨ l[i]? = some s
  | _, _, [], i, s, h => by simp [keepL] at h
  | [], t, x :: r, i, s, h => by
    simp only [keepL] at h
    cases i with
    | zero => simp at h; exact .inl h.symm
    | succ i => simpa using keepL_get [] (t + 1) r i s (by simpa using h)
  | k :: ks, t, x :: r, i, s, h => by
    simp only [keepL] at h
    split at h
    · cases i with
      | zero => simp at h; exact .inr (by simp [h])
      | succ i => simpa using keepL_get ks (t + 1) r i s (by simpa using h)
    · cases i with
      | zero => simp at h; exact .inl h.symm
      | succ i => simpa using keepL_get (k :: ks) (t + 1) r i s (by simpa using h)
theorem keepL_keeps : ∀ (L : List Nat) (t : Nat) (l : List SV) (i : Nat) (s : SV), l[i]? = some s → List.Pairwise (· < ·) L → (∀ x ∈ L, t ≤ x) → t + i ∈ L → (keepL L t l)[i]? = some s
  | _, _, [], i, s, h, _, _, _ => by simp at h
  | [], t, x :: r, i, s, h, _, _, hm => by simp at hm
  | k :: ks, t, x :: r, i, s, h, hp, hlo, hm => by
    simp only [keepL]
    have hk := hlo k (by simp)
    rw [List.pairwise_cons] at hp
    split
    · rename_i e
      subst e
      cases i with
      | zero => simpa using h
      | succ i =>
        simp only [List.getElem?_cons_succ] at h ⊢
        refine keepL_keeps ks (k + 1) r i s h hp.2 (fun x hx => hp.1 x hx) ?_
        rcases List.mem_cons.1 hm with e | e
        · omega
        · rw [show k + 1 + i = k + (i + 1) by omega]; exact e
    · rename_i hne
      cases i with
      | zero =>
        rcases List.mem_cons.1 hm with e | e
        · omega
        · have := hp.1 _ e; omega
      | succ i =>
        simp only [List.getElem?_cons_succ] at h ⊢
        refine keepL_keeps (k :: ks) (t + 1) r i s h (List.pairwise_cons.2 hp) (fun x hx => ?_) (by rw [show t + 1 + i = t + (i + 1) by omega]; exact hm)
        rcases List.mem_cons.1 hx with e | e
        · omega
        · have := hp.1 x e; omega
theorem keepOk_dep {L : List Nat} : ∀ {l : List SV}, keepOk L l = true → ∀ (i s : Nat) {x : SV}, l[i]? = some x → dep x = some s → s ∈ L
  | [], _, i, s, x, h, _ => by simp at h
  | y :: r, hk, i, s, x, h, hd => by
    simp only [keepOk, Bool.and_eq_true] at hk
    cases i with
    | zero =>
      simp only [List.getElem?_cons_zero, Option.some.injEq] at h
      subst h
      have := hk.1
      rw [hd] at this
      simpa using this
    | succ i => exact keepOk_dep (l := r) hk.2 i s (by simpa using h) hd
def rising : List Nat → Bool
  | a :: b :: l => decide (a < b) && rising (b :: l)
  | _ => true
theorem rising_pw : ∀ {l : List Nat}, rising l = true → List.Pairwise (· < ·) l
  | [], _ => .nil
  | [a], _ => by simp
  | a :: b :: l, h => by
    simp only [rising, Bool.and_eq_true, decide_eq_true_eq] at h
    have ih := rising_pw (l := b :: l) h.2
    refine List.pairwise_cons.2 ⟨fun x hx => ?_, ih⟩
    rcases List.mem_cons.1 hx with e | e
    · omega
    · have := (List.pairwise_cons.1 ih).1 x e; omega
def keepR (L : List Nat) (st : St) : Option St := if rising L then keepO L st else none
theorem Rel.keepR {st st' : St} {a : Act} {w : World} {g : Gh} {L : List Nat} (h : Rel st a w g) (hk : Sh.keepR L st = some st') : Rel st' a w g := by
  unfold Sh.keepR at hk
  split at hk
  · rename_i hL
    simp only [keepO] at hk
    split at hk
    · rename_i hok
      cases hk
      refine Rel.step h (by simp [keepL_len, h.len]) h.def0 (fun _ _ h => h) (fun t s hs => ?_) h.hp
      rcases keepL_get L 0 st.tmps t s hs with e | e
      · exact .inl e
      · refine .inr (.inr ⟨e, rfl, fun _ _ => Keep.refl _ _ _, fun s0 e0 => ⟨rfl, fun x hx hb => ⟨x, ?_, rfl⟩⟩⟩)
        exact keepL_keeps L 0 st.tmps s0 _ hx (rising_pw hL) (fun _ _ => Nat.zero_le _) (by simpa using keepOk_dep hok t s0 hs e0)
    · cases hk
  · cases hk
section
variable {P : Program} {pu : Bool} {st : St} {ops : Array Oper} {k : Nat} {Q : St → Prop}
theorem SW.keep {c : Code} {Q : Exit → St → Prop} (L : List Nat) {st' : St} (hst : keepR L st = some st') (h : SW P pu c st' Q) : SW P pu c st Q :=
  fun a w g hr => h a w g (hr.keepR hst)
theorem OWk.keep (L : List Nat) {st' : St} (hst : keepR L st = some st') (h : OWk P pu ops k st' Q) : OWk P pu ops k st Q :=
  fun a w g hr => h a w g (hr.keepR hst)
theorem OBk.keep {m : Nat} (L : List Nat) {st' : St} (hst : keepR L st = some st') (h : OBk P ops m k st' Q) : OBk P ops m k st Q :=
  fun a w g hr => h a w g (hr.keepR hst)
theorem OWk.segK (steal L : List Nat) (n : Nat) {st' : St} (hr : (runSeg P steal ops n k st).bind (keepR L) = some st') (h : OWk P pu ops (k + n) st' Q) : OWk P pu ops k st Q := by
  simp only [Option.bind_eq_some_iff] at hr
  obtain ⟨st1, h1, h2⟩ := hr
  exact OWk.seg n h1 (OWk.keep L h2 h)
theorem OBk.segK {m : Nat} (steal L : List Nat) (n : Nat) {st' : St} (hm : (k + n ≤ m) = True) (hr : (runSegB P steal ops n k st).bind (keepR L) = some st') (h : OBk P ops m (k + n) st' Q) : OBk P ops m k st Q := by
  simp only [Option.bind_eq_some_iff] at hr
  obtain ⟨st1, h1, h2⟩ := hr
  exact OBk.seg n hm h1 (OBk.keep L h2 h)
theorem OWk.mergeK (L : List Nat) (n : Nat) (b : Bool) (S S' : Bool → St) (h0 : st = S b) (hT : (runSeg P [] ops n k (S true)).bind (keepR L) = some (S' true)) (hF : (runSeg P [] ops n k (S false)).bind (keepR L) = some (S' false))
    (h : OWk P pu ops (k + n) (S' b) Q) : OWk P pu ops k st Q := by
  subst h0
  have key : (runSeg P [] ops n k (S b)).bind (keepR L) = some (S' b) := by cases b <;> assumption
  exact OWk.segK [] L n key h
def BAt (P : Program) (ops : Array Oper) (k : Nat) (st : St) (d : Option Tmp) (s : SV) : Prop :=
  ∃ o, ops[k]? = some o ∧ wantS ops st o = some true ∧ BStep P st o s ∧ locOk o.dst s = true ∧ o.dst = d
theorem OWk.at_ {d : Option Tmp} {s : SV} {st' : St} (L : List Nat) (hb : BAt P ops k st d s) (hst : keepR L (st.put d s) = some st') (h : OWk P pu ops (k + 1) st' Q) : OWk P pu ops k st Q := by
  obtain ⟨o, h1, h2, h3, h4, rfl⟩ := hb
  exact OWk.b h1 h2 h3 h4 rfl (OWk.keep L hst h)
theorem OBk.at_ {m : Nat} {d : Option Tmp} {s : SV} {st' : St} (L : List Nat) (hm : (k < m) = True) (hb : BAt P ops k st d s) (hst : keepR L (st.put d s) = some st') (h : OBk P ops m (k + 1) st' Q) : OBk P ops m k st Q := by
  obtain ⟨o, h1, h2, h3, h4, rfl⟩ := hb
  exact OBk.b hm h1 h2 h3 h4 rfl (OBk.keep L hst h)
def opAt (ops : Array Oper) (k : Nat) (st : St) : Option Oper :=
  match ops[k]? with
  | some o => if wantS ops st o = some true then some o else none
  | none => none
theorem opAt_inv {o : Oper} (h : opAt ops k st = some o) : ops[k]? = some o ∧ wantS ops st o = some true := by
  unfold opAt at h
  split at h
  · split at h
    · cases h; exact ⟨by assumption, by assumption⟩
    · cases h
  · cases h
def idxAt (P : Program) (ops : Array Oper) (k : Nat) (st : St) : Option (Option Tmp × Option Loc × Nat × List D × Int) :=
  match opAt ops k st with
  | some o => match o.op with
    | .indexAddr T x i => match listOf st x, intOf? st i with
      | some (l, n, xs), some (_, j) => if n != 0 && n == elemW P T && (arrayOf P T).isNone then some (o.dst, l, n, xs, j) else none
      | _, _ => none
    | _ => none
  | none => none
theorem lendP_loc {d : Option Tmp} {l : Option Loc} {cs : List D} : locOk d (lendP l cs) = true := by cases l <;> rfl
theorem lendL_loc {d : Option Tmp} {l : Option Loc} {n : Nat} {cs : List D} : locOk d (lendL l n cs) = true := by cases l <;> rfl
theorem BAt.index {α : Type} {enc : α → D} {xs : List α} {j : Int} {y : α} {d : Option Tmp} {l : Option Loc} {n : Nat} (hy : idx xs j = some y) (h : idxAt P ops k st = some (d, l, n, xs.map enc, j)) : BAt P ops k st d (lendP l (enc y).cells) := by
  unfold idxAt at h
  split at h
  · rename_i o ho
    split at h
    · rename_i T x i hop
      split at h
      · rename_i l' n' xs' kk j' hl hi
        split at h
        · rename_i hn
          simp only [Option.some.injEq, Prod.mk.injEq] at h
          obtain ⟨rfl, rfl, rfl, rfl, rfl⟩ := h
          obtain ⟨h1, h2⟩ := opAt_inv ho
          exact ⟨o, h1, h2, BStep.indexAddr hop hl hi hn (idx_inv hy).1 (idx_map enc hy), lendP_loc, rfl⟩
        · cases h
      · cases h
    · cases h
  · cases h
def idxSAt (P : Program) (ops : Array Oper) (k : Nat) (st : St) : Option (Option Tmp × List UInt8 × Int) :=
  match opAt ops k st with
  | some o => match o.op with
    | .index T x i => match valD st x, intOf? st i with
      | some (.str l), some (_, j) => if isStrT P T then some (o.dst, l, j) else none
      | _, _ => none
    | _ => none
  | none => none
theorem BAt.indexS {l : List UInt8} {j : Int} {b : UInt8} {d : Option Tmp} (hy : idx l j = some b) (h : idxSAt P ops k st = some (d, l, j)) : BAt P ops k st d (.d (.int .u8 b.toNat)) := by
  unfold idxSAt at h
  split at h
  · rename_i o ho
    split at h
    · rename_i T x i hop
      split at h
      · rename_i l' kk j' hl hi
        split at h
        · rename_i hn
          simp only [Option.some.injEq, Prod.mk.injEq] at h
          obtain ⟨rfl, rfl, rfl⟩ := h
          obtain ⟨h1, h2⟩ := opAt_inv ho
          exact ⟨o, h1, h2, BStep.index hop hl hi hn (idx_inv hy).1 (idx_inv hy).2, rfl, rfl⟩
        · cases h
      · cases h
    · cases h
  · cases h
def bopAt (P : Program) (ops : Array Oper) (k : Nat) (st : St) : Option (Option Tmp × SV) :=
  match opAt ops k st with
  | some o => match bop P st o with
    | some s => if locOk o.dst s then some (o.dst, s) else none
    | none => none
  | none => none
theorem BAt.of {d : Option Tmp} {s s' : SV} (h : bopAt P ops k st = some (d, s)) (e : s = s') : BAt P ops k st d s' := by
  subst e
  unfold bopAt at h
  split at h
  · rename_i o ho
    split at h
    · rename_i s0 hs
      split at h
      · rename_i hl
        simp only [Option.some.injEq, Prod.mk.injEq] at h
        obtain ⟨rfl, rfl⟩ := h
        obtain ⟨h1, h2⟩ := opAt_inv ho
        exact ⟨o, h1, h2, BStep.of_bop hs, hl, rfl⟩
      · cases h
    · cases h
  · cases h
theorem BAt.len {α : Type} {enc : α → D} {xs : List α} {d : Option Tmp} (h : bopAt P ops k st = some (d, .d (.int .i64 ((xs.map enc).length : Nat)))) : BAt P ops k st d (.d (.int .i64 (xs.length : Nat))) :=
  BAt.of h (by rw [List.length_map])
def sl {α : Type} (xs : List α) (i j : Int) : List α := (xs.take j.toNat).drop i.toNat
def slOk {α : Type} (xs : List α) (i j : Int) : Bool := decide (0 ≤ i) && decide (i ≤ j) && decide (j ≤ xs.length)
def bndI (st : St) (dflt : Int) : Option Operand → Option Int
  | none => some dflt
  | some x => match intOf? st x with | some (_, j) => some j | none => none
theorem bndI_bnd {dflt : Nat} {x : Option Operand} {j : Int} (h : bndI st dflt x = some j) (h0 : 0 ≤ j) : bnd st dflt x = some j.toNat := by
  cases x with
  | none => simp only [bndI, Option.some.injEq] at h; subst h; rfl
  | some x =>
    simp only [bndI] at h
    simp only [bnd]
    split at h
    · cases h; simp [*]
    · cases h
def slAt (P : Program) (ops : Array Oper) (k : Nat) (st : St) (len : Int) : Option (Option Tmp × Option Loc × Nat × List D × Int × Int) :=
  match opAt ops k st with
  | some o => match o.op with
    | .slice T x lo hi none => match (match valD st x with | some (.str _) => none | _ => listOf st x), bndI st 0 lo, bndI st len hi with
      | some (l, n, xs), some i, some j => if elemW P T != 0 && n == elemW P T then some (o.dst, l, n, xs, i, j) else none
      | _, _, _ => none
    | _ => none
  | none => none
theorem BAt.slice {α : Type} {enc : α → D} {xs : List α} {d : Option Tmp} {l : Option Loc} {n : Nat} {i j : Int} (hc : slOk xs i j = true) (h : slAt P ops k st xs.length = some (d, l, n, xs.map enc, i, j)) : BAt P ops k st d (lendL l n ((sl xs i j).map enc)) := by
  unfold slAt at h
  split at h
  · rename_i o ho
    split at h
    · rename_i T x lo hi hop
      split at h
      · rename_i l' n' xs' i' j' hl hi' hj'
        split at h
        · rename_i hn
          simp only [Option.some.injEq, Prod.mk.injEq] at h
          obtain ⟨rfl, rfl, rfl, rfl, rfl, rfl⟩ := h
          obtain ⟨h1, h2⟩ := opAt_inv ho
          simp only [slOk, Bool.and_eq_true, decide_eq_true_eq] at hc
          have e1 := bndI_bnd (dflt := 0) hi' hc.1.1
          have e2 := bndI_bnd (dflt := xs.length) hj' (by omega)
          split at hl
          · cases hl
          · rename_i hns
            refine ⟨o, h1, h2, BStep.eq (BStep.slice hop ?_ hl e1 (by rw [List.length_map]; exact e2) hn (by omega) (by rw [List.length_map]; omega)) ?_, lendL_loc, rfl⟩
            · split
              · rename_i l0 h0; exact absurd h0 (hns l0)
              · rfl
            · simp [sl, List.map_drop, List.map_take]
        · cases h
      · cases h
    · cases h
  · cases h
def room : Nat := 16777216
def appAt (P : Program) (ops : Array Oper) (k : Nat) (st : St) : Option (Nat × Nat × Nat × List D × List D) :=
  match opAt ops k st with
  | some o => match o.op, o.dst with
    | .call c, some d => match c.callee, c.args.toList, c.argTypes.toList with
      | .builtin .append, [.tmp s, y], [T, T2] => match st.tmps[s]?, srcOf st y, sliceT P T with
        | some (.own n xs), some (m, ys), some (n', b) => if n == n' && (m == n || ys.isEmpty) && noInt P T2 && decide (b ≤ 65536) then some (s, d, n, xs, ys) else none
        | _, _, _ => none
      | _, _, _ => none
    | _, _ => none
  | none => none
theorem OWk.append {s d n : Nat} {xs ys zs : List D} {st' : St} (L : List Nat) (h : appAt P ops k st = some (s, d, n, xs, ys)) (hz : xs ++ ys = zs) (hc : zs.length ≤ room) (hst : keepR L ((st.take s).put (some d) (.own n zs)) = some st')
    (hn : OWk P pu ops (k + 1) st' Q) : OWk P pu ops k st Q := by
  subst hz
  unfold appAt at h
  split at h
  · rename_i o ho
    split at h
    · rename_i c d' hop hd
      split at h
      · rename_i s' y T T2 hcal ha ht
        split at h
        · rename_i n0 xs0 m ys0 n' b hs hy hT
          split at h
          · rename_i hcond
            simp only [Option.some.injEq, Prod.mk.injEq] at h
            obtain ⟨rfl, rfl, rfl, rfl, rfl⟩ := h
            simp only [Bool.and_eq_true, Bool.or_eq_true, beq_iff_eq, List.isEmpty_iff, decide_eq_true_eq] at hcond
            obtain ⟨⟨⟨hnn, hm⟩, h2⟩, hb⟩ := hcond
            subst hnn
            obtain ⟨h1, h3⟩ := opAt_inv ho
            rw [List.length_append] at hc
            refine OWk.e h1 h3 (OpS.append hop hcal ha ht hd hs hy hT h2 hm (Nat.le_trans hc (by decide)) ?_) (OWk.keep L hst hn)
            exact Nat.le_trans (Nat.mul_le_mul hc hb) (by decide)
          · cases h
        · cases h
      · cases h
    · cases h
  · cases h
def callAt (P : Program) (ops : Array Oper) (k : Nat) (st : St) (tr : List Nat) : Option (Option Tmp × FuncId × List SV × List Loc × List (Nat × Nat)) :=
  match opAt ops k st with
  | some o => match o.op with
    | .call c => match callS P st tr c with
      | some cs => some (o.dst, cs.f, cs.args, cs.ls, cs.gs)
      | none => none
    | _ => none
  | none => none
theorem OWk.callK {f : FuncId} {args : List SV} {ls : List Loc} {gs : List (Nat × Nat)} {d : Option Tmp} {r : SV} {st' : St} (tr L : List Nat) (hp : PC P f args r) (h : callAt P ops k st tr = some (d, f, args, ls, gs)) (hr : (resD r && (ls.isEmpty || flatSV r)) = true)
    (hst : keepR L ((st.takes gs).put d r) = some st') (hn : OWk P pu ops (k + 1) st' Q) : OWk P pu ops k st Q := by
  unfold callAt at h
  split at h
  · rename_i o ho
    split at h
    · rename_i c hop
      split at h
      · rename_i cs hcs
        simp only [Option.some.injEq, Prod.mk.injEq] at h
        obtain ⟨rfl, rfl, rfl, rfl, rfl⟩ := h
        obtain ⟨h1, h2⟩ := opAt_inv ho
        rw [Bool.and_eq_true] at hr
        exact OWk.call (cs := cs) tr h1 h2 hop hcs hp hr.1 hr.2 rfl (OWk.keep L hst hn)
      · cases h
    · cases h
  · cases h
def St.freeze (st : St) (t : Nat) : St := match st.tmps[t]? with | some (.own n xs) => (st.kill t).set t (.d (.list n xs)) | _ => st
theorem Rel.freeze {a : Act} {w : World} {g : Gh} (h : Rel st a w g) (t : Nat) : ∃ g', Rel (st.freeze t) a w g' ∧ Fr pu g w g' w := by
  unfold St.freeze
  split
  · rename_i n xs ht
    let rn : Own → Own := fun o => if o = .lst (.slot t) then .free else o
    have rnO : ∀ {o}, o ≠ .lst (.slot t) → rn o = o := fun h => by simp [rn, h]
    refine ⟨g.ren rn, ?_, Nat.le_refl _, Keep.ren (rnO (by simp)), Keep.ren (rnO (by simp)), fun _ _ h => h, fun _ i => Keep.ren (rnO (by simp)), fun _ i j => Keep.ren (rnO (by simp)), fun _ => rfl, ⟨rfl, rfl⟩⟩
    have hlt := get_lt ht
    refine Rel.step h (by simp [St.set, h.len]) h.def0 (fun _ _ h => h) (fun t' s' hs' => ?_) (RH.keep (g := g) (w := w) (fun o ho => Keep.ren (rnO fun e => by subst e; exact ho.elim)) (fun _ _ h => h) rfl h.hp)
    by_cases hne : t = t'
    · subst hne
      rw [St.set, List.getElem?_set_self (by simpa using hlt)] at hs'
      cases hs'
      refine .inr (.inl ?_)
      have ho : ROwn g w (.slot t) (valOf a t) n xs := h.tmp t _ ht
      refine RList.free (l := .slot t) (rnO (by simp)) (by simp [rn]) ?_
      rcases ho with ⟨rfl, a, e⟩ | ⟨k, off, cap, c, T, us, hv, hk, hb, hl, hz, hn, hc, hr⟩
      · exact .inl ⟨rfl, a, _, e⟩
      · exact .inr ⟨k, off, cap, c, T, _, us, hv, by simp [hk, okL], hb, hl, hn, hc, hr⟩
    · simp only [St.set, List.getElem?_set_ne hne] at hs'
      rcases St.kill_get hs' with e | ⟨e1, e2⟩
      · exact .inl e
      · refine .inr (.inr ⟨e1, rfl, fun o ho => Keep.ren (rnO ?_), fun s0 e => ⟨rfl, fun x hx hb => ⟨?x, ?hx, ?hb⟩⟩⟩)
        · rintro rfl
          cases s' with
          | own n xs => simp only [uses, Own.lst.injEq, Loc.slot.injEq, reduceCtorEq, false_or] at ho; exact hne ho
          | lent l n xs =>
            simp only [uses, Own.lst.injEq, reduceCtorEq, false_or] at ho
            subst ho
            simp [mention] at e2
          | lptr l cs =>
            simp only [uses, Own.lst.injEq, reduceCtorEq, false_or] at ho
            subst ho
            simp [mention] at e2
          | pin v0 n xs => simp only [uses, Own.lst.injEq, Loc.slot.injEq, reduceCtorEq, false_or] at ho; exact hne ho
          | _ => simp [uses] at ho
        · exact x
        · have h2 : t ≠ s0 := fun e3 => by rw [e3, dep_mention e] at e2; cases e2
          simp [St.set, List.getElem?_set_ne h2, St.kill, hx, bigK_mention hb]
        · rfl
  · exact ⟨g, h, Fr.refl _ _ _⟩
theorem OWk.freeze (t : Nat) {st' : St} (hst : st.freeze t = st') (h : OWk P pu ops k st' Q) : OWk P pu ops k st Q := by
  subst hst
  intro a w g hr Qc hq
  obtain ⟨g', r, f⟩ := hr.freeze (pu := pu) t
  exact h a w g' r Qc fun st2 a2 w2 g2 q2 r2 f2 => hq st2 a2 w2 g2 q2 r2 (f.trans f2)
theorem SW.iterK {γ β : Type} {c : Code} {Q : Exit → St → Prop} (L : List Nat) {body : γ → Option (γ ⊕ β)} (S : γ → St) (E : β → Exit → St → Prop) {fuel : Nat} {x : γ} {b : β} (hit : Sh.iter body fuel x = some b) (h0 : keepR L st = some (S x))
    (round : ∀ x o, body x = some o → SW P pu c (S x) (thenS (fun s' => ∃ y, o = .inl y ∧ keepR L s' = some (S y)) (fun e s' => ∃ b, o = .inr b ∧ E b e s')))
    (after : ∀ e s', E b e s' → Q e s') : SW P pu (.loop c) st Q := by
  refine SW.keep L h0 ?_
  intro a w g hr
  refine wp_loop_fuel (γ := γ) body (fun x a' w' => ∃ g', Rel (S x) a' w' g' ∧ Fr pu g w g' w') b (fun x a1 w1 ⟨g1, r1, f1⟩ o ho => ?_) fuel x a w ⟨g, hr, Fr.refl _ _ _⟩ hit
  refine Code.wp_mono (fun e a' w' hh => ?_) (round x o ho a1 w1 g1 r1)
  obtain ⟨st', g', q, r, f⟩ := hh
  cases e with
  | normal => obtain ⟨y, rfl, h1⟩ := q; exact ⟨y, rfl, g', r.keepR h1, f1.trans f⟩
  | _ => obtain ⟨b', rfl, h1⟩ := q; exact ⟨b', rfl, fun e => ⟨st', g', after _ _ (e ▸ h1), r, f1.trans f⟩⟩
end
end Go.Sh
namespace Go.Sh
section
variable {P : Program} {pu : Bool} {st : St} {ops : Array Oper} {k : Nat} {Q : St → Prop}
theorem OBk.done {m : Nat} (h : decide (m ≤ k) = true) (hq : Q st) : OBk P ops m k st Q := OBk.fin (eq_true (of_decide_eq_true h)) hq
theorem OBk.segB {m : Nat} (steal L : List Nat) (n : Nat) {st' : St} (hm : decide (k + n ≤ m) = true) (hr : (runSegB P steal ops n k st).bind (keepR L) = some st') (h : OBk P ops m (k + n) st' Q) : OBk P ops m k st Q := OBk.segK steal L n (eq_true (of_decide_eq_true hm)) hr h
theorem OBk.atB {m : Nat} {d : Option Tmp} {s : SV} {st' : St} (L : List Nat) (hm : decide (k < m) = true) (hb : BAt P ops k st d s) (hst : keepR L (st.put d s) = some st') (h : OBk P ops m (k + 1) st' Q) : OBk P ops m k st Q := OBk.at_ L (eq_true (of_decide_eq_true hm)) hb hst h
theorem SW.regionDk {Q : Exit → St → Prop} {id : Nat} {l : List Oper} (hm : P.follows .mixedOrders = true) (hB : Region.lexB .any l.toArray = true) (h : OBk P l.toArray l.toArray.size 0 st (Q .normal)) : SW P pu (.region id l.toArray true) st Q := SW.regionD hm hB h
theorem OWk.done (h : decide (ops.size ≤ k) = true) (hq : Q st) : OWk P pu ops k st Q := OWk.fin (eq_true (of_decide_eq_true h)) hq
end
theorem room_map {α : Type} {f : α → D} {l : List α} (h : decide (l.length ≤ room) = true) : (l.map f).length ≤ room := by
  rw [List.length_map]; exact of_decide_eq_true h
theorem map_append' {α : Type} {f : α → D} {xs ys : List α} : xs.map f ++ ys.map f = (xs ++ ys).map f := (List.map_append).symm
theorem sum_l {α β γ : Type} {f : α → γ} {g : β → γ} {x : α} {r : γ} (h : Sum.elim f g (.inl x) = r) : f x = r := h
theorem sum_r {α β γ : Type} {f : α → γ} {g : β → γ} {x : β} {r : γ} (h : Sum.elim f g (.inr x) = r) : g x = r := h
end Go.Sh
namespace Go.Sh
end Go.Sh
namespace Go.Sh
section
variable {P : Program} {st : St} {ops : Array Oper} {k : Nat}
end
end Go.Sh
namespace Go.Sh
section
variable {P : Program} {pu : Bool} {st : St}
def letJ {α β : Type} (b : α → β) (a : (α → β) → β) : β := a b
theorem letJ_inv {α β : Type} {b : α → β} {a : (α → β) → β} {r : β} (h : letJ b a = r) : ∃ jp, jp = b ∧ a jp = r := ⟨b, rfl, h⟩
theorem SW.seqJ {α : Type} {x y : Code} {Q : Exit → St → Prop} (L : List Nat) (S : α → St) (C : α → Prop) (hj : ∀ v, C v → SW P pu y (S v) Q) (h : SW P pu x st (thenS (fun s => ∃ v l, keepR L (s.nils l) = some (S v) ∧ C v) Q)) : SW P pu (.seq x y) st Q := by
  refine SW.seq ?_
  intro a w g hr
  refine Code.wp_mono (fun e a' w' hh => ?_) (h a w g hr)
  obtain ⟨st', g', q, r, f⟩ := hh
  cases e with
  | normal =>
    obtain ⟨v, l, h1, h2⟩ := q
    exact ⟨S v, g', hj v h2, r.nils.keepR h1, f⟩
  | _ => exact ⟨st', g', q, r, f⟩
end
end Go.Sh
namespace Go.Sh
def vI (n : Int) : SV := .d (.int .i64 n)
def vB (b : Bool) : SV := .d (.bool b)
def vS (l : List UInt8) : SV := .d (.str l)
def pickL : List Nat → Nat → List SV → List (Nat × SV)
  | _, _, [] => []
  | [], t, s :: r => []
  | k :: ks, t, s :: r => if k = t then (k, s) :: pickL ks (t + 1) r else pickL (k :: ks) (t + 1) r
theorem keepL_nil : ∀ (t : Nat) (l : List SV), keepL [] t l = spL [] l.length t
  | _, [] => rfl
  | t, s :: r => by simp [keepL, spL, keepL_nil (t + 1) r]
theorem spL_skip {n t t' : Nat} {s : SV} {l : List (Nat × SV)} (h : t' ≠ t) : spL ((t', s) :: l) (n + 1) t = .undef :: spL ((t', s) :: l) n (t + 1) := by simp [spL, h]
theorem pickL_sp : ∀ (L : List Nat) (t : Nat) (l : List SV), (∀ x ∈ L, t ≤ x) → List.Pairwise (· < ·) L → keepL L t l = spL (pickL L t l) l.length t
  | [], t, l, _, _ => by cases l <;> simp [pickL, keepL_nil, keepL, spL]
  | k :: ks, t, [], _, _ => by simp [keepL, pickL, spL]
  | k :: ks, t, s :: r, hlo, hp => by
    simp only [keepL, pickL, List.length_cons]
    rw [List.pairwise_cons] at hp
    split
    · rename_i e
      subst e
      simp only [spL, if_true]
      rw [pickL_sp ks (k + 1) r (fun x hx => hp.1 x hx) hp.2]
    · rename_i hne
      have hlo' : ∀ x ∈ k :: ks, t + 1 ≤ x := fun x hx => by
        have h1 := hlo k (by simp)
        rcases List.mem_cons.1 hx with e | e
        · omega
        · have := hp.1 x e; omega
      rw [pickL_sp (k :: ks) (t + 1) r hlo' (List.pairwise_cons.2 hp)]
      have hgt : ∀ p ∈ pickL (k :: ks) (t + 1) r, t < p.1 := pickL_gt (k :: ks) (t + 1) r hlo'
      cases hq : pickL (k :: ks) (t + 1) r with
      | nil => simp [spL]
      | cons p q =>
        obtain ⟨t', s'⟩ := p
        have := hgt (t', s') (by rw [hq]; simp)
        rw [spL_skip (by simp only at this; omega)]
where
  pickL_gt : ∀ (L : List Nat) (t : Nat) (l : List SV), (∀ x ∈ L, t ≤ x) → ∀ p ∈ pickL L t l, t ≤ p.1
    | [], t, l, _, p, h => by cases l <;> simp [pickL] at h
    | k :: ks, t, [], _, p, h => by simp [pickL] at h
    | k :: ks, t, s :: r, hlo, p, h => by
      simp only [pickL] at h
      split at h
      · rename_i e
        subst e
        rcases List.mem_cons.1 h with e | e
        · subst e; exact Nat.le_refl _
        · by_cases hk : ∀ x ∈ ks, k + 1 ≤ x
          · have := pickL_gt ks (k + 1) r hk p e; omega
          · have := pickL_mem ks (k + 1) r p e
            exact hlo p.1 (by simp [this])
      · rename_i hne
        have := pickL_mem (k :: ks) (t + 1) r p h
        exact hlo p.1 this
  pickL_mem : ∀ (L : List Nat) (t : Nat) (l : List SV), ∀ p ∈ pickL L t l, p.1 ∈ L
    | [], t, l, p, h => by cases l <;> simp [pickL] at h
    | k :: ks, t, [], p, h => by simp [pickL] at h
    | k :: ks, t, s :: r, p, h => by
      simp only [pickL] at h
      split at h
      · rcases List.mem_cons.1 h with e | e
        · subst e; simp
        · exact List.mem_cons_of_mem _ (pickL_mem ks (t + 1) r p e)
      · exact pickL_mem (k :: ks) (t + 1) r p h
def pickR (n : Nat) (L : List Nat) (st : St) : Option (List (Nat × SV) × List SObj) :=
  if rising L && (st.tmps.length == n && keepOk L (keepL L 0 st.tmps)) then some (pickL L 0 st.tmps, st.H) else none
theorem keepR_of_pick {n : Nat} {L : List Nat} {st : St} {l : List (Nat × SV)} {H : List SObj} (h : pickR n L st = some (l, H)) : keepR L st = some (sp n l H) := by
  unfold pickR at h
  split at h
  · rename_i hc
    simp only [Bool.and_eq_true, beq_iff_eq] at hc
    simp only [Option.some.injEq, Prod.mk.injEq] at h
    obtain ⟨rfl, rfl⟩ := h
    obtain ⟨h1, h2, h3⟩ := hc
    unfold keepR keepO
    rw [if_pos h1]
    simp only [h3, if_true, Option.some.injEq, sp]
    rw [pickL_sp L 0 st.tmps (fun _ _ => Nat.zero_le _) (rising_pw h1), h2]
  · cases h
theorem bind_pick {n : Nat} {L : List Nat} {o : Option St} {l : List (Nat × SV)} {H : List SObj} (h : o.bind (pickR n L) = some (l, H)) : o.bind (keepR L) = some (sp n l H) := by
  simp only [Option.bind_eq_some_iff] at h ⊢
  obtain ⟨st, h1, h2⟩ := h
  exact ⟨st, h1, keepR_of_pick h2⟩
section
variable {P : Program} {pu : Bool} {st : St} {ops : Array Oper} {k : Nat} {Q : St → Prop} {m : Nat} (n : Nat) (H : List SObj)
theorem SW.kp {c : Code} {Q : Exit → St → Prop} (L : List Nat) (l : List (Nat × SV)) (hst : pickR n L st = some (l, H)) (h : SW P pu c (sp n l H) Q) : SW P pu c st Q := SW.keep L (keepR_of_pick hst) h
theorem OWk.sg (steal L : List Nat) (j : Nat) (l : List (Nat × SV)) (hr : (runSeg P steal ops j k st).bind (pickR n L) = some (l, H)) (h : OWk P pu ops (k + j) (sp n l H) Q) : OWk P pu ops k st Q := OWk.segK steal L j (bind_pick hr) h
theorem OBk.sg (steal L : List Nat) (j : Nat) (l : List (Nat × SV)) (hm : decide (k + j ≤ m) = true) (hr : (runSegB P steal ops j k st).bind (pickR n L) = some (l, H)) (h : OBk P ops m (k + j) (sp n l H) Q) : OBk P ops m k st Q := OBk.segB steal L j hm (bind_pick hr) h
theorem OWk.mg (L : List Nat) (j : Nat) (b : Bool) (S : Bool → St) (l : Bool → List (Nat × SV)) (h0 : st = S b) (hT : (runSeg P [] ops j k (S true)).bind (pickR n L) = some (l true, H)) (hF : (runSeg P [] ops j k (S false)).bind (pickR n L) = some (l false, H))
    (h : OWk P pu ops (k + j) (sp n (l b) H) Q) : OWk P pu ops k st Q := OWk.mergeK L j b S (fun b => sp n (l b) H) h0 (bind_pick hT) (bind_pick hF) h
theorem OWk.on {d : Option Tmp} {s : SV} (L : List Nat) (l : List (Nat × SV)) (hb : BAt P ops k st d s) (hst : pickR n L (st.put d s) = some (l, H)) (h : OWk P pu ops (k + 1) (sp n l H) Q) : OWk P pu ops k st Q := OWk.at_ L hb (keepR_of_pick hst) h
theorem OBk.on {d : Option Tmp} {s : SV} (L : List Nat) (l : List (Nat × SV)) (hm : decide (k < m) = true) (hb : BAt P ops k st d s) (hst : pickR n L (st.put d s) = some (l, H)) (h : OBk P ops m (k + 1) (sp n l H) Q) : OBk P ops m k st Q := OBk.atB L hm hb (keepR_of_pick hst) h
theorem OWk.app {s d w : Nat} {xs ys zs : List D} (L : List Nat) (l : List (Nat × SV)) (h : appAt P ops k st = some (s, d, w, xs, ys)) (hz : xs ++ ys = zs) (hc : zs.length ≤ room) (hst : pickR n L ((st.take s).put (some d) (.own w zs)) = some (l, H))
    (hn : OWk P pu ops (k + 1) (sp n l H) Q) : OWk P pu ops k st Q := OWk.append L h hz hc (keepR_of_pick hst) hn
theorem OWk.cl {f : FuncId} {args : List SV} {ls : List Loc} {gs : List (Nat × Nat)} {d : Option Tmp} {r : SV} (tr L : List Nat) (l : List (Nat × SV)) (hp : PC P f args r) (h : callAt P ops k st tr = some (d, f, args, ls, gs)) (hr : (resD r && (ls.isEmpty || flatSV r)) = true)
    (hst : pickR n L ((st.takes gs).put d r) = some (l, H)) (hn : OWk P pu ops (k + 1) (sp n l H) Q) : OWk P pu ops k st Q := OWk.callK tr L hp h hr (keepR_of_pick hst) hn
theorem OWk.fz (t : Nat) (L : List Nat) (l : List (Nat × SV)) (hst : pickR n L (st.freeze t) = some (l, H)) (h : OWk P pu ops k (sp n l H) Q) : OWk P pu ops k st Q := OWk.freeze t rfl (OWk.keep L (keepR_of_pick hst) h)
theorem SW.jn {α : Type} {x y : Code} {Q : Exit → St → Prop} (L : List Nat) (l : α → List (Nat × SV)) (C : α → Prop) (hj : ∀ v, C v → SW P pu y (sp n (l v) H) Q) (h : SW P pu x st (thenS (fun s => ∃ v ll, pickR n L (s.nils ll) = some (l v, H) ∧ C v) Q)) : SW P pu (.seq x y) st Q :=
  SW.seqJ L (fun v => sp n (l v) H) C hj (SW.mono h fun e s hh => by
    cases e with
    | normal => obtain ⟨v, ll, h1, h2⟩ := hh; exact ⟨v, ll, keepR_of_pick h1, h2⟩
    | _ => exact hh)
theorem SW.it {γ β : Type} {c : Code} {Q : Exit → St → Prop} (L : List Nat) {body : γ → Option (γ ⊕ β)} (l : γ → List (Nat × SV)) (E : β → Exit → St → Prop) {fuel : Nat} {x : γ} {b : β} (hit : Sh.iter body fuel x = some b) (h0 : pickR n L st = some (l x, H))
    (round : ∀ x o, body x = some o → SW P pu c (sp n (l x) H) (thenS (fun s' => ∃ y, o = .inl y ∧ pickR n L s' = some (l y, H)) (fun e s' => ∃ b, o = .inr b ∧ E b e s')))
    (after : ∀ e s', E b e s' → Q e s') : SW P pu (.loop c) st Q :=
  SW.iterK L (fun x => sp n (l x) H) E hit (keepR_of_pick h0) (fun x o h => SW.mono (round x o h) fun e s hh => by
    cases e with
    | normal => obtain ⟨y, h1, h2⟩ := hh; exact ⟨y, h1, keepR_of_pick h2⟩
    | _ => exact hh) after
end
end Go.Sh
namespace Go.Sh
def detV1 : D → Option Value
  | .fn f [] [] => some (.func f #[] #[])
  | d => leafV d
def detVs : List D → Option (List Value)
  | [] => some []
  | d :: ds => match detV1 d, detVs ds with
    | some v, some vs => some (v :: vs)
    | _, _ => none
def detV : D → Option Value
  | .agg cs => (detVs cs).map fun vs => .agg vs.toArray
  | d => detV1 d
theorem detV1_rd {g : Gh} {w : World} {v u : Value} {d : D} (h : Rd g w v d) (hd : detV1 d = some u) : v = u := by
  unfold detV1 at hd
  split at hd
  · cases hd
    cases h with
    | fn hl1 hl2 us1 us2 hc1 hr1 hc2 hr2 =>
      rename_i first caps
      have e1 : first = #[] := Array.eq_empty_of_size_eq_zero (by simpa using hl1)
      have e2 : caps = #[] := Array.eq_empty_of_size_eq_zero (by simpa using hl2)
      rw [e1, e2]
  · exact leafV_rd hd h
theorem detVs_rd {g : Gh} {w : World} : ∀ {cs : List D} {vs : List Value} {us : List Value}, detVs cs = some vs → us.length = cs.length → (∀ (j : Nat) (y : D), cs[j]? = some y → ∃ u, us[j]? = some u ∧ Rd g w u y) → us = vs
  | [], vs, us, h, hl, _ => by simp [detVs] at h; subst h; simpa using hl
  | d :: ds, vs, us, h, hl, hr => by
    simp only [detVs] at h
    split at h
    · rename_i v vs' h1 h2
      cases h
      cases us with
      | nil => simp at hl
      | cons u us =>
        obtain ⟨u', e1, e2⟩ := hr 0 d (by simp)
        simp at e1; subst e1
        rw [detV1_rd e2 h1, detVs_rd (us := us) h2 (by simpa using hl) (fun j y hj => by simpa using hr (j + 1) y (by simpa using hj))]
    · cases h
theorem detV_rd {g : Gh} {w : World} {v u : Value} {d : D} (h : Rd g w v d) (hd : detV d = some u) : v = u := by
  unfold detV at hd
  split at hd
  · rename_i cs
    simp only [Option.map_eq_some_iff] at hd
    obtain ⟨vs, h1, rfl⟩ := hd
    cases h with
    | agg hl us hc hr =>
      rename_i us0
      have := detVs_rd (us := us0.toList) h1 (by simpa using hl) (fun j y hj => ⟨us j, by simpa using (hc j y hj).1, hr j y hj⟩)
      rw [← this]
  · exact detV1_rd h hd
def detTs : List SV → Option (List Value)
  | [] => some []
  | .d x :: r => match detV x, detTs r with
    | some v, some vs => some (v :: vs)
    | _, _ => none
  | _ => none
def detS : SV → Option Value
  | .d x => detV x
  | .tup vs => (detTs vs).map fun us => .tuple us.toArray
  | _ => none
theorem detTs_get : ∀ {vs : List SV} {ws : List Value}, detTs vs = some ws → ws.length = vs.length ∧ ∀ (j : Nat) (s : SV), vs[j]? = some s → ∃ u x, ws[j]? = some u ∧ s = .d x ∧ detV x = some u
  | [], ws, h => by simp [detTs] at h; subst h; simp
  | .d x :: r, ws, h => by
    simp only [detTs] at h
    split at h
    · rename_i v vs' h1 h2
      cases h
      obtain ⟨hl, hr⟩ := detTs_get h2
      refine ⟨by simp [hl], fun j s hj => ?_⟩
      cases j with
      | zero => simp at hj; subst hj; exact ⟨v, x, by simp, rfl, h1⟩
      | succ j => simpa using hr j s (by simpa using hj)
    · cases h
  | .own _ _ :: _, _, h => by simp [detTs] at h
  | .lent _ _ _ :: _, _, h => by simp [detTs] at h
  | .lptr _ _ :: _, _, h => by simp [detTs] at h
  | .box _ :: _, _, h => by simp [detTs] at h
  | .loc _ _ :: _, _, h => by simp [detTs] at h
  | .tup _ :: _, _, h => by simp [detTs] at h
  | .undef :: _, _, h => by simp [detTs] at h
  | .als _ :: _, _, h => by simp [detTs] at h
  | .ep _ _ _ :: _, _, h => by simp [detTs] at h
  | .pin _ _ _ :: _, _, h => by simp [detTs] at h
def UpW (w w' : World) : Prop := w.heap.size ≤ w'.heap.size ∧ Up w w' ∧ SameOs w w'
section
variable {P : Program} {pu : Bool} {st : St} {ops : Array Oper} {k m : Nat} {Q : St → Prop}
theorem UpW.keep {w w' : World} (h : UpW w w') (g : Gh) (o : Own) : Keep o g w g w' := fun k b h1 h2 => ⟨h1, h.2.1 k b h2⟩
theorem UpW.fr {w w' : World} (h : UpW w w') (g : Gh) : Fr pu g w g w' := ⟨h.1, h.keep g _, h.keep g _, fun _ _ h => h, fun _ _ => h.keep g _, fun _ _ _ => h.keep g _, fun _ => rfl, h.2.2⟩
theorem UpW.rel {w w' : World} {a : Act} {g : Gh} (h : UpW w w') (hr : Rel st a w g) : Rel st a w' g := hr.world (fun o => h.keep g o) (fun _ _ h => h) rfl
def OQ (P : Program) (ops : Array Oper) (l : List Oper) (st : St) (Q : St → Prop) : Prop :=
  ∀ a w g, Rel st a w g → ∀ Qc : Act → Prop, (∀ st' a' g', Q st' → Rel st' a' w g' → (∀ pu, Fr pu g w g' w) → Qc a') → wpQuiet P ops (UpW w) Qc l a
def OQk (P : Program) (ops : Array Oper) (k : Nat) (st : St) (Q : St → Prop) : Prop := OQ P ops (ops.toList.drop k) st Q
theorem OQk.done (h : decide (ops.size ≤ k) = true) (hq : Q st) : OQk P ops k st Q := by
  have h := of_decide_eq_true h
  unfold OQk
  rw [List.drop_of_length_le (by simpa using h)]
  exact fun a w g hr Qc hc => hc st a g hq hr fun _ => Fr.refl _ _ _
theorem OQk.b {o : Oper} {s : SV} (ho : ops[k]? = some o) (hw : wantS ops st o = some true) (hb : BStep P st o s) (hl : locOk o.dst s = true) (h : OQk P ops (k + 1) (st.put o.dst s) Q) : OQk P ops k st Q := by
  unfold OQk at h ⊢
  rw [drop_cons ho]
  intro a w g hr Qc hc
  unfold wpQuiet
  rw [wantS_sound hr hw, if_pos rfl]
  obtain ⟨v, e1, e2⟩ := hb a w g hr
  refine ⟨v, fun w' hw' => ?_, h _ w g (hr.putBV e1 hl) Qc hc⟩
  unfold Oper.quietAt
  rw [e2 w' hw'.2.1]
  exact ⟨rfl, rfl⟩
theorem OQk.steal {o : Oper} {steal : List Nat} {st' : St} (ho : ops[k]? = some o) (hw : wantS ops st o = some true) (hb : stealB steal st o = some st') (h : OQk P ops (k + 1) st' Q) : OQk P ops k st Q := by
  unfold stealB at hb
  split at hb
  · rename_i s hop
    split at hb
    · rename_i n xs hs
      split at hb
      · cases hb
        unfold OQk at h ⊢
        rw [drop_cons ho]
        intro a w g hr Qc hc
        unfold wpQuiet
        rw [wantS_sound hr hw, if_pos rfl]
        have hexec : ∀ w', (execOp a.eval o).run P w' = .ok (.value (valOf a s)) w' := fun w' => by unfold execOp; rw [hop]; rfl
        obtain ⟨g', r, f⟩ := hr.moveOwn (pu := true) P hop hs
        refine ⟨valOf a s, fun w' hw' => ?_, h _ w g' r Qc fun st' a' g2 q r2 f2 => hc st' a' g2 q r2 fun pu => Fr.trans ⟨f.1, f.2, f.3, f.4, fun _ => f.5 rfl, fun _ => f.6 rfl, fun _ => f.7 rfl, f.8⟩ (f2 pu)⟩
        unfold Oper.quietAt
        rw [hexec w']
        exact ⟨rfl, rfl⟩
      · cases hb
    · cases hb
  · cases hb
theorem OQk.skip {o : Oper} (ho : ops[k]? = some o) (hw : wantS ops st o = some false) (h : OQk P ops (k + 1) (st.put o.dst (.tup [])) Q) : OQk P ops k st Q := by
  unfold OQk at h ⊢
  rw [drop_cons ho]
  intro a w g hr Qc hc
  unfold wpQuiet
  rw [wantS_sound hr hw, if_neg (by simp)]
  exact h _ w g (hr.putLight o.dst (v := undef) ⟨#[], rfl, rfl, by simp⟩) Qc hc
theorem OQk.seg {steal : List Nat} {st' : St} (n : Nat) (hr : runSegB P steal ops n k st = some st') (h : OQk P ops (k + n) st' Q) : OQk P ops k st Q := by
  induction n generalizing k st with
  | zero => cases hr; exact h
  | succ n ih =>
    simp only [runSegB] at hr
    split at hr
    · rename_i o ho
      split at hr
      · rename_i st1 h1
        have ih' := ih hr (by rw [show k + 1 + n = k + (n + 1) by omega]; exact h)
        unfold opStepB at h1
        split at h1
        · rename_i hw
          cases h1
          exact OQk.skip ho hw ih'
        · rename_i hw
          split at h1
          · rename_i st2 h2
            cases h1
            exact OQk.steal ho hw h2 ih'
          · split at h1
            · rename_i s hb
              split at h1
              · rename_i hl
                cases h1
                exact OQk.b ho hw (BStep.of_bop hb) hl ih'
              · cases h1
            · cases h1
        · cases h1
      · cases hr
    · cases hr
theorem OQk.keep (L : List Nat) {st' : St} (hst : keepR L st = some st') (h : OQk P ops k st' Q) : OQk P ops k st Q :=
  fun a w g hr => h a w g (hr.keepR hst)
theorem OQk.case (b : Bool) (S : Bool → St) (h0 : st = S b) (hT : b = true → OQk P ops k (S true) Q) (hF : b = false → OQk P ops k (S false) Q) : OQk P ops k st Q := by
  subst h0
  cases b
  · exact hF rfl
  · exact hT rfl
theorem callS_run {a : Act} {w : World} {g : Gh} (hrel : Rel st a w g) {o : Oper} {c : Call} {kk : CallS} {r : SV} {H' : List SObj} (hop : o.op = .call c) (hc : callS P st [] c = some kk) (hp : SC P true kk.f kk.args (st.H.mapIdx (lendObj kk.ls)) r H') :
    ∃ args, (execOp a.eval o).run P w = .ok (.enter kk.f args) w ∧ Calls P kk.f args w fun e w' => ∃ v g', e = .returned v ∧ RRes g' w' v r ∧ Fr true (g.ren (calleeOw kk.ls kk.gs)) w g' w' := by
  unfold callS at hc
  split at hc
  · rename_i fo hcallee
    split at hc
    · rename_i f first caps hfo
      split at hc
      · rename_i ss ls gs hargs
        split at hc
        · rename_i hok
          cases hc
          rw [Bool.and_eq_true] at hok
          obtain ⟨hgive, hfn⟩ := hok
          have hgs := giveOk_spec hgive
          have hrf := valD_d hrel hfo
          obtain ⟨vf, vc, hev, lf, lc, rf, rc⟩ : ∃ vf vc : Array Value, a.eval fo = .func (.func f) vf vc ∧ vf.size = first.length ∧ vc.size = caps.length ∧
              (∀ (j : Nat) (y : D), first[j]? = some y → ∃ u, vf[j]? = some u ∧ Rd g w u y) ∧ (∀ (j : Nat) (y : D), caps[j]? = some y → ∃ u, vc[j]? = some u ∧ Rd g w u y) := by
            generalize a.eval fo = v at hrf
            cases hrf with
            | fn hl1 hl2 us1 us2 hc1 hr1 hc2 hr2 => exact ⟨_, _, rfl, hl1, hl2, fun j y hj => ⟨us1 j, hc1 j y hj, hr1 j y hj⟩, fun j y hj => ⟨us2 j, hc2 j y hj, hr2 j y hj⟩⟩
          obtain ⟨la, ra⟩ := argsS_sound hrel hgs hargs (fun _ h => h) (fun _ h => h)
          have hexec : (execOp a.eval o).run P w = .ok (.enter f (vf ++ c.args.map a.eval ++ vc)) w := by
            unfold execOp
            rw [hop]
            exact run_call hcallee hev hfn w
          refine ⟨_, hexec, ?_⟩
          have hRA : RArgs (g.ren (calleeOw ls gs)) w (vf ++ c.args.map a.eval ++ vc) (first.map .d ++ ss ++ caps.map .d) := by
            have hla : (c.args.map a.eval).size = ss.length := by rw [← la]; simp
            have hla' : c.args.size = ss.length := by rw [← la]; simp
            refine ⟨by simp [lf, lc, ← la], fun j s hj => ?_⟩
            have kp : ∀ {v : Value} {d : D}, Rd g w v d → Rd (g.ren (calleeOw ls gs)) w v d := fun hr => hr.keep (Keep.ren rfl) (fun _ _ h => h)
            by_cases j1 : j < first.length
            · rw [List.append_assoc, List.getElem?_append_left (by simpa using j1), List.getElem?_map] at hj
              simp only [Option.map_eq_some_iff] at hj
              obtain ⟨d, hd, rfl⟩ := hj
              obtain ⟨u, e1, e2⟩ := rf j d hd
              exact ⟨u, by rw [Array.append_assoc, Array.getElem?_append_left (by omega)]; exact e1, kp e2⟩
            · by_cases j2 : j < first.length + ss.length
              · rw [List.getElem?_append_left (by simp; omega), List.getElem?_append_right (by simp; omega)] at hj
                simp only [List.length_map] at hj
                obtain ⟨x, e1, e2⟩ := ra _ s hj
                refine ⟨a.eval x, ?_, by rw [show first.length + (j - first.length) = j by omega] at e2; exact e2⟩
                rw [Array.getElem?_append_left (by simp [lf]; omega), Array.getElem?_append_right (by omega), Array.getElem?_map, lf]
                rw [Array.getElem?_toList] at e1
                rw [e1]; rfl
              · rw [List.getElem?_append_right (by simp; omega), List.getElem?_map] at hj
                simp only [Option.map_eq_some_iff, List.length_append, List.length_map] at hj
                obtain ⟨d, hd, rfl⟩ := hj
                obtain ⟨u, e1, e2⟩ := rc _ d hd
                refine ⟨u, ?_, kp e2⟩
                rw [Array.getElem?_append_right (by simp [lf]; omega)]
                simpa [lf, ← la] using e1
          refine (hp w (g.ren (calleeOw ls gs)) _ hRA (hrel.hp.lend (ls := ls) (gs := gs))).mono fun e w' hh => ?_
          obtain ⟨v, g', rfl, hres, -, hf⟩ := hh
          exact ⟨v, g', rfl, hres, hf⟩
        · cases hc
      · cases hc
    · cases hc
  · cases hc
theorem up_of_fr {g g' : Gh} {w w' : World} {ls : List Loc} (h : Fr true (g.ren (calleeOw ls [])) w g' w') : UpW w w' := by
  refine ⟨h.size, fun k o hk => ?_, h.os⟩
  have key : (g.ren (calleeOw ls [])).ow k = calleeOw ls [] (g.ow k) := rfl
  have hex : ∀ o', calleeOw ls [] o' = .free ∨ calleeOw ls [] o' = .out ∨ (∃ i, calleeOw ls [] o' = .obj i) ∨ ∃ i j, calleeOw ls [] o' = .lst (.hcell i j) := fun o' => by
    cases o' with
    | free => exact .inl rfl
    | out => exact .inr (.inl rfl)
    | box t => exact .inr (.inl rfl)
    | obj i => exact .inr (.inr (.inl ⟨i, rfl⟩))
    | lst l =>
      simp only [calleeOw]
      split
      · exact .inl rfl
      · cases l with
        | hcell i j => exact .inr (.inr (.inr ⟨i, j, rfl⟩))
        | slot s => exact .inr (.inl rfl)
        | _ => exact .inr (.inl rfl)
  rcases hex (g.ow k) with e | e | ⟨i, e⟩ | ⟨i, j, e⟩
  · exact (h.free k o (key.trans e) hk).2
  · exact (h.out k o (key.trans e) hk).2
  · exact (h.obj rfl i k o (key.trans e) hk).2
  · exact (h.hcell rfl i j k o (key.trans e) hk).2
theorem OQk.call {o : Oper} {c : Call} {f : FuncId} {args : List SV} {ls : List Loc} {r : SV} {v : Value} {H' : List SObj} (ho : ops[k]? = some o) (hw : wantS ops st o = some true) (hop : o.op = .call c)
    (hc : callS P st [] c = some ⟨f, args, ls, []⟩) (hp : SC P true f args (st.H.mapIdx (lendObj ls)) r H') (hr : detS r = some v) (h : OQk P ops (k + 1) (st.put o.dst r) Q) : OQk P ops k st Q := by
  unfold OQk at h ⊢
  rw [drop_cons ho]
  intro a w g hrel Qc hq
  unfold wpQuiet
  rw [wantS_sound hrel hw, if_pos rfl]
  cases r with
  | d x =>
    -- the value reads as that in the world of now too: it is told by the data
    refine ⟨v, fun w' hw' => ?_, h _ w g (hrel.putLight o.dst (v := v) ?_) Qc hq⟩
    · obtain ⟨as, e1, e2⟩ := callS_run (hw'.rel hrel) hop hc hp
      unfold Oper.quietAt
      rw [e1]
      refine ⟨rfl, e2.mono fun e w'' hh => ?_⟩
      obtain ⟨v', g', rfl, hres, hf⟩ := hh
      have hrd : Rd g' w'' v' x := hres
      refine ⟨by rw [detV_rd hrd hr], ?_⟩
      have := up_of_fr hf
      exact ⟨Nat.le_trans hw'.1 this.1, fun k o hk => this.2.1 k o (hw'.2.1 k o hk), hw'.2.2.trans this.2.2⟩
    · exact det_rd hr
  | tup vs =>
    simp only [detS, Option.map_eq_some_iff] at hr
    obtain ⟨us, hr, rfl⟩ := hr
    obtain ⟨hl, hg⟩ := detTs_get hr
    refine ⟨.tuple us.toArray, fun w' hw' => ?_, h _ w g (hrel.put o.dst fun t _ _ => ?_) Qc hq⟩
    · obtain ⟨as, e1, e2⟩ := callS_run (hw'.rel hrel) hop hc hp
      unfold Oper.quietAt
      rw [e1]
      refine ⟨rfl, e2.mono fun e w'' hh => ?_⟩
      obtain ⟨v', g', rfl, hres, hf⟩ := hh
      obtain ⟨us', rfl, hl', hg'⟩ := hres
      refine ⟨?_, ?_⟩
      · congr 2
        apply Array.ext'
        apply List.ext_getElem?
        intro j
        by_cases hj : j < vs.length
        · obtain ⟨u, x, e1, e2, e3⟩ := hg j vs[j] (by simp [hj])
          obtain ⟨u', e4, e5⟩ := hg' j vs[j] (by simp [hj])
          rw [e2] at e5
          have hrd : Rd g' w'' u' x := e5
          have := detV_rd hrd e3
          rw [Array.getElem?_toList, e4, this]
          simpa using e1.symm
        · rw [List.getElem?_eq_none (by simpa [hl'] using (by omega : vs.length ≤ j)), List.getElem?_eq_none (by simpa [hl] using (by omega : vs.length ≤ j))]
      · have := up_of_fr hf
        exact ⟨Nat.le_trans hw'.1 this.1, fun k o hk => this.2.1 k o (hw'.2.1 k o hk), hw'.2.2.trans this.2.2⟩
    · refine ⟨us.toArray, rfl, by simpa using hl, fun j s hj => ?_⟩
      obtain ⟨u, x, e1, rfl, e3⟩ := hg j s hj
      exact ⟨u, by simpa using e1, (det_rd e3 : Rd _ _ u x)⟩
  | _ => simp [detS] at hr
where
  det1_rd {g : Gh} {w : World} {u : Value} {d : D} (hd : detV1 d = some u) : Rd g w u d := by
    unfold detV1 at hd
    split at hd
    · cases hd
      exact .fn rfl rfl (fun _ => undef) (fun _ => undef) (by simp) (by simp) (by simp) (by simp)
    · exact rd_leafV hd
  det1_one {u : Value} {d : D} (hd : detV1 d = some u) : u.oneCell' = true := by
    cases d <;> simp only [detV1, leafV, Option.map_eq_some_iff, Option.some.injEq, reduceCtorEq] at hd
    all_goals first
      | (subst hd; rfl)
      | (obtain ⟨_, _, rfl⟩ := hd; rfl)
      | (split at hd <;> first | (cases hd; rfl) | (simp [leafV] at hd))
  dets_rd {g : Gh} {w : World} : ∀ {cs : List D} {vs : List Value}, detVs cs = some vs → vs.length = cs.length ∧ ∀ (j : Nat) (y : D), cs[j]? = some y → ∃ u, vs[j]? = some u ∧ Rd g w u y ∧ u.oneCell' = true
    | [], vs, h => by simp [detVs] at h; subst h; simp
    | d :: ds, vs, h => by
      simp only [detVs] at h
      split at h
      · rename_i v vs' h1 h2
        cases h
        obtain ⟨hl, hr⟩ := dets_rd (g := g) (w := w) h2
        refine ⟨by simp [hl], fun j y hj => ?_⟩
        cases j with
        | zero => simp at hj; subst hj; exact ⟨v, by simp, det1_rd h1, det1_one h1⟩
        | succ j => simpa using hr j y (by simpa using hj)
      · cases h
  det_rd {g : Gh} {w : World} {u : Value} {d : D} (hd : detV d = some u) : Rd g w u d := by
    unfold detV at hd
    split at hd
    · simp only [Option.map_eq_some_iff] at hd
      obtain ⟨vs, h1, rfl⟩ := hd
      obtain ⟨hl, hr⟩ := dets_rd (g := g) (w := w) h1
      exact Rd.agg' (by simpa using hl) (fun j y hj => by simpa using hr j y hj)
    · exact det1_rd hd
theorem SW.regionQ {id : Nat} {l : List Oper} {Q : Exit → St → Prop} (hm : P.follows .mixedOrders = true) (hB : Region.lexB .any l.toArray = true) (h : OQk P l.toArray 0 st (Q .normal)) : SW P pu (.region id l.toArray true) st Q := by
  intro a w g hr
  refine wp_region_quiet (C := UpW w.drew) hm hB ⟨Nat.le_refl _, fun _ _ h => h, SameOs.refl _⟩ ?_
  unfold OQk at h
  rw [List.drop_zero] at h
  exact h a w.drew g hr.drew _ fun st' a' g' q r f w' hw' => ⟨st', g', q, hw'.rel r, (Fr.drew.trans (f pu)).trans (hw'.fr g')⟩
variable (n : Nat) (H : List SObj)
theorem OQk.sg (steal L : List Nat) (j : Nat) (l : List (Nat × SV)) (hr : (runSegB P steal ops j k st).bind (pickR n L) = some (l, H)) (h : OQk P ops (k + j) (sp n l H) Q) : OQk P ops k st Q := by
  have := bind_pick hr
  simp only [Option.bind_eq_some_iff] at this
  obtain ⟨st1, h1, h2⟩ := this
  exact OQk.seg j h1 (OQk.keep L h2 h)
theorem OQk.mg (L : List Nat) (j : Nat) (b : Bool) (S : Bool → St) (l : Bool → List (Nat × SV)) (h0 : st = S b) (hT : (runSegB P [] ops j k (S true)).bind (pickR n L) = some (l true, H)) (hF : (runSegB P [] ops j k (S false)).bind (pickR n L) = some (l false, H))
    (h : OQk P ops (k + j) (sp n (l b) H) Q) : OQk P ops k st Q := by
  subst h0
  exact OQk.sg n H [] L j (l b) (by cases b <;> assumption) h
theorem OQk.on {d : Option Tmp} {s : SV} (L : List Nat) (l : List (Nat × SV)) (hb : BAt P ops k st d s) (hst : pickR n L (st.put d s) = some (l, H)) (h : OQk P ops (k + 1) (sp n l H) Q) : OQk P ops k st Q := by
  obtain ⟨o, h1, h2, h3, h4, rfl⟩ := hb
  exact OQk.b h1 h2 h3 h4 (OQk.keep L (keepR_of_pick hst) h)
theorem OQk.cl {f : FuncId} {args : List SV} {ls : List Loc} {d : Option Tmp} {r : SV} (L : List Nat) (l : List (Nat × SV)) (hp : PC P f args r) (h : callAt P ops k st [] = some (d, f, args, ls, [])) (hr : (detS r).isSome = true)
    (hst : pickR n L (st.put d r) = some (l, H)) (hn : OQk P ops (k + 1) (sp n l H) Q) : OQk P ops k st Q := by
  unfold callAt at h
  split at h
  · rename_i o ho
    split at h
    · rename_i c hop
      split at h
      · rename_i cs hcs
        simp only [Option.some.injEq, Prod.mk.injEq] at h
        obtain ⟨rfl, rfl, rfl, rfl, h5⟩ := h
        obtain ⟨h1, h2⟩ := opAt_inv ho
        obtain ⟨v, hv⟩ := Option.isSome_iff_exists.1 hr
        refine OQk.call (ls := cs.ls) h1 h2 hop ?_ (hp _) hv (OQk.keep L (keepR_of_pick hst) hn)
        rw [hcs, ← h5]
      · cases h
    · cases h
  · cases h
end
end Go.Sh
namespace Go.Sh
section
variable {P : Program} {pu : Bool} {st : St} {ops : Array Oper} {k m : Nat} {Q : St → Prop}
theorem OQk.lit (S : Int → St) {e j : Int} (h0 : st = S e) (hc : (e == j) = true) (h : OQk P ops k (S j) Q) : OQk P ops k st Q := by
  subst h0
  rw [eq_of_beq hc]; exact h
end
end Go.Sh
namespace Go.Sh
section
variable {P : Program} {pu : Bool} {st : St}
end
end Go.Sh
namespace Go.Sh
section
variable {P : Program} {pu : Bool} {st : St} {ops : Array Oper} {k : Nat} {Q : St → Prop}
end
end Go.Sh
namespace Go.Sh
section
variable {P : Program} {pu : Bool} {st : St} {ops : Array Oper} {k : Nat} {Q : St → Prop}
end
end Go.Sh
namespace Go.Sh
def NQ (R : Act → World → Prop) : Exit → Act → World → Prop := fun e a w => e = .normal ∧ R a w
theorem NQ.out {R : Act → World → Prop} : ¬ LetsOut (NQ R) := fun ⟨_, _, h, _⟩ => by cases h
section
variable {P : Program} {ops : Array Oper} {md : Region.Mode} {R : Act → World → Prop}
theorem defers_put (a : Act) (ds : List Deferred) (d : Option Tmp) (v : Value) : ({ a.put d v with defers := ds } : Act) = ({ a with defers := ds } : Act).put d v := by cases d <;> rfl
theorem put_defers' (a : Act) (d : Option Tmp) (v : Value) : (a.put d v).defers = a.defers := by cases d <;> rfl
theorem eval_defers (a : Act) (ds : List Deferred) (x : Operand) : ({ a with defers := ds } : Act).eval x = a.eval x := by cases x <;> rfl
end
end Go.Sh
namespace Go.Sh
section
variable {P : Program} {ops : Array Oper} {md : Region.Mode} {w : World} {hds : List Nat} {t0 : Nat} {ts : List Nat}
def opsOf (ops : Array Oper) (is : List Nat) : List Oper := is.filterMap (ops[·]?)
end
end Go.Sh
namespace Go.Sh
section
variable {P : Program} {pu : Bool} {st : St}
theorem wanted_ng {o : Oper} (h : o.guard = none) (f : Nat → Option Bool) : Region.wanted o f = true := by unfold Region.wanted; rw [h]
theorem wpStill_ng {ops ops' : Array Oper} {w : World} {Q : Act → Prop} : ∀ {l : List Oper} {a : Act}, (∀ o ∈ l, o.guard = none) → wpStill P ops' w Q l a → wpStill P ops w Q l a
  | [], _, _, h => h
  | o :: l, a, hg, h => by
    unfold wpStill at h ⊢
    rw [if_pos (wanted_ng (hg o (by simp)) _)] at h ⊢
    exact Oper.still_mono (fun a' h' => wpStill_ng (fun o ho => hg o (by simp [ho])) h') h
theorem opsOf_ng {ops : Array Oper} (h : ops.all (fun o => o.guard.isNone) = true) (is : List Nat) : ∀ o ∈ opsOf ops is, o.guard = none := fun o ho => by
  simp only [opsOf, List.mem_filterMap] at ho
  obtain ⟨i, -, hi⟩ := ho
  rw [Array.all_eq_true'] at h
  simpa using h o (Array.mem_of_getElem? hi)
end
end Go.Sh
namespace Go.Sh
end Go.Sh
namespace Go.Sh
structure Cd (α : Type) where
  enc : α → D
  dec : D → Option α
  de : ∀ d x, dec d = some x → d = enc x
  ed : ∀ x, dec (enc x) = some x
def cI (k : IntKind) : Cd Int where
  enc := .int k
  dec | .int k' n => if k' = k then some n else none
      | _ => none
  de d x h := by
    cases d <;> simp only [reduceCtorEq] at h
    split at h
    · rename_i e; cases h; rw [e]
    · cases h
  ed x := by simp
def cB : Cd Bool where
  enc := .bool
  dec | .bool b => some b
      | _ => none
  de d x h := by cases d <;> simp only [reduceCtorEq] at h; cases h; rfl
  ed x := rfl
def cS : Cd (List UInt8) where
  enc := .str
  dec | .str b => some b
      | _ => none
  de d x h := by cases d <;> simp only [reduceCtorEq] at h; cases h; rfl
  ed x := rfl
def cP : Cd (Option Nat) where
  enc | none => .nilPtr
      | some i => .ptr i 0
  dec | .nilPtr => some none
      | .ptr i 0 => some (some i)
      | _ => none
  de d x h := by
    cases d with
    | ptr i off => cases off <;> simp only [reduceCtorEq] at h; cases h; rfl
    | nilPtr => cases h; rfl
    | _ => cases h
  ed x := by cases x <;> rfl
theorem mapM_de {α : Type} (c : Cd α) : ∀ (ds : List D) (xs : List α), ds.mapM c.dec = some xs → ds = xs.map c.enc
  | [], xs, h => by simp at h; subst h; rfl
  | d :: ds, xs, h => by
    simp only [List.mapM_cons, Option.bind_eq_bind, Option.bind_eq_some_iff] at h
    obtain ⟨x, h1, ys, h2, h3⟩ := h
    cases h3
    rw [List.map_cons, ← c.de d x h1, ← mapM_de c ds ys h2]
theorem mapM_ed {α : Type} (c : Cd α) : ∀ xs : List α, (xs.map c.enc).mapM c.dec = some xs
  | [] => rfl
  | x :: xs => by simp [c.ed, mapM_ed c xs]
def cL {α : Type} (n : Nat) (c : Cd α) : Cd (List α) where
  enc xs := .list n (xs.map c.enc)
  dec | .list n' ds => if n' = n then ds.mapM c.dec else none
      | _ => none
  de d x h := by
    cases d <;> simp only [reduceCtorEq] at h
    split at h
    · rename_i e; subst e; rw [← mapM_de c _ _ h]
    · cases h
  ed x := by show (if n = n then (x.map c.enc).mapM c.dec else none) = _; rw [if_pos rfl, mapM_ed]
structure Cc (α : Type) where
  enc : α → List SV
  dec : List SV → Option (α × List SV)
  de : ∀ l x r, dec l = some (x, r) → l = enc x ++ r
  ed : ∀ x r, dec (enc x ++ r) = some (x, r)
def Cd.cell {α : Type} (c : Cd α) : Cc α where
  enc x := [.d (c.enc x)]
  dec | .d d :: r => (c.dec d).map (·, r)
      | _ => none
  de l x r h := by
    split at h
    · rename_i d r'
      simp only [Option.map_eq_some_iff, Prod.mk.injEq] at h
      obtain ⟨y, h1, rfl, rfl⟩ := h
      rw [c.de d y h1]; rfl
    · cases h
  ed x r := by simp [c.ed]
def Cc.pair {α β : Type} (a : Cc α) (b : Cc β) : Cc (α × β) where
  enc p := a.enc p.1 ++ b.enc p.2
  dec l := (a.dec l).bind fun p => (b.dec p.2).map fun q => ((p.1, q.1), q.2)
  de l x r h := by
    simp only [Option.bind_eq_some_iff, Option.map_eq_some_iff, Prod.mk.injEq] at h
    obtain ⟨p, h1, q, h2, h3, h4⟩ := h
    subst h3; subst h4
    rw [a.de l p.1 p.2 h1, List.append_assoc, b.de p.2 q.1 q.2 h2]
  ed x r := by
    rw [List.append_assoc, a.ed]
    simp [b.ed]
structure Cl (α : Type) where
  enc : α → List D
  dec : List D → Option (α × List D)
  de : ∀ l x r, dec l = some (x, r) → l = enc x ++ r
  ed : ∀ x r, dec (enc x ++ r) = some (x, r)
def Cd.one {α : Type} (c : Cd α) : Cl α where
  enc x := [c.enc x]
  dec | d :: r => (c.dec d).map (·, r)
      | _ => none
  de l x r h := by
    split at h
    · rename_i d r'
      simp only [Option.map_eq_some_iff, Prod.mk.injEq] at h
      obtain ⟨y, h1, rfl, rfl⟩ := h
      rw [c.de d y h1]; rfl
    · cases h
  ed x r := by simp [c.ed]
def Cl.pair {α β : Type} (a : Cl α) (b : Cl β) : Cl (α × β) where
  enc p := a.enc p.1 ++ b.enc p.2
  dec l := (a.dec l).bind fun p => (b.dec p.2).map fun q => ((p.1, q.1), q.2)
  de l x r h := by
    simp only [Option.bind_eq_some_iff, Option.map_eq_some_iff, Prod.mk.injEq] at h
    obtain ⟨p, h1, q, h2, h3, h4⟩ := h
    subst h3; subst h4
    rw [a.de l p.1 p.2 h1, List.append_assoc, b.de p.2 q.1 q.2 h2]
  ed x r := by
    rw [List.append_assoc, a.ed]
    simp [b.ed]
def Cl.iso {α β : Type} (a : Cl α) (f : α → β) (g : β → α) (fg : ∀ x, f (g x) = x) (gf : ∀ x, g (f x) = x) : Cl β where
  enc x := a.enc (g x)
  dec l := (a.dec l).map fun p => (f p.1, p.2)
  de l x r h := by
    simp only [Option.map_eq_some_iff, Prod.mk.injEq] at h
    obtain ⟨p, h1, rfl, rfl⟩ := h
    rw [gf]; exact a.de l p.1 p.2 h1
  ed x r := by simp [a.ed, fg]
def Cl.agg {α : Type} (a : Cl α) : Cd α where
  enc x := .agg (a.enc x)
  dec | .agg l => match a.dec l with | some (x, []) => some x | _ => none
      | _ => none
  de d x h := by
    cases d <;> simp only [reduceCtorEq] at h
    split at h
    · rename_i y h1
      cases h
      rw [a.de _ _ _ h1, List.append_nil]
    · cases h
  ed x := by
    have := a.ed x []
    rw [List.append_nil] at this
    simp [this]
def preD : List SV → List D × List SV
  | .d d :: r => ((d :: (preD r).1), (preD r).2)
  | l => ([], l)
theorem preD_eq : ∀ l : List SV, l = (preD l).1.map .d ++ (preD l).2
  | [] => rfl
  | s :: r => by
    cases s with
    | d x => simp only [preD, List.map_cons, List.cons_append]; rw [← preD_eq r]
    | _ => rfl
theorem preD_app : ∀ (ds : List D) (r : List SV), preD (ds.map .d ++ r) = (ds ++ (preD r).1, (preD r).2)
  | [], r => rfl
  | d :: ds, r => by simp only [List.map_cons, List.cons_append, preD]; rw [preD_app ds r]
def Cl.cells {α : Type} (a : Cl α) : Cc α where
  enc x := (a.enc x).map .d
  dec l := (a.dec (preD l).1).map fun p => (p.1, p.2.map .d ++ (preD l).2)
  de l x r h := by
    simp only [Option.map_eq_some_iff, Prod.mk.injEq] at h
    obtain ⟨p, h1, rfl, rfl⟩ := h
    have := a.de _ p.1 p.2 h1
    rw [← List.append_assoc, ← List.map_append, ← this]
    exact preD_eq l
  ed x r := by
    rw [preD_app]
    simp only [a.ed, Option.map_some, Option.some.injEq, Prod.mk.injEq, true_and]
    exact (preD_eq r).symm
abbrev Hp := List SObj
def hCells (H : Hp) (i : Nat) : Option (List SV) := match H[i]? with | some (.cells cs) => some cs | _ => none
theorem hCells_eq {H : Hp} {i : Nat} {cs : List SV} (h : hCells H i = some cs) : H[i]? = some (.cells cs) := by
  unfold hCells at h
  split at h
  · cases h; assumption
  · cases h
def hGet {α : Type} (c : Cc α) (H : Hp) (i off : Nat) : Option α := (hCells H i).bind fun cs => (c.dec (cs.drop off)).map (·.1)
theorem hGet_eq {α : Type} {c : Cc α} {H : Hp} {i off : Nat} {x : α} (h : hGet c H i off = some x) : ∃ cs r, H[i]? = some (.cells cs) ∧ cs.drop off = c.enc x ++ r := by
  unfold hGet at h
  simp only [Option.bind_eq_some_iff, Option.map_eq_some_iff] at h
  obtain ⟨cs, h1, ⟨y, r⟩, h2, rfl⟩ := h
  exact ⟨cs, r, hCells_eq h1, c.de _ _ _ h2⟩
def hPut (H : Hp) (i off : Nat) (ds : List D) : Option Hp := (hCells H i).bind fun cs => if off + ds.length ≤ cs.length then some (H.set i (.cells (setCells cs off ds))) else none
theorem hPut_eq {H H' : Hp} {i off : Nat} {ds : List D} (h : hPut H i off ds = some H') : ∃ cs, H[i]? = some (.cells cs) ∧ off + ds.length ≤ cs.length ∧ H' = H.set i (.cells (setCells cs off ds)) := by
  unfold hPut at h
  simp only [Option.bind_eq_some_iff] at h
  obtain ⟨cs, h1, h2⟩ := h
  split at h2
  · cases h2; exact ⟨cs, hCells_eq h1, by assumption, rfl⟩
  · cases h2
def hSet {α : Type} (c : Cd α) (H : Hp) (i off : Nat) (x : α) : Option Hp := hPut H i off (c.enc x).cells
def hNew (H : Hp) (o : SObj) : Option (Hp × Nat) := some (H ++ [o], H.length)
end Go.Sh
namespace Go.Sh
theorem RO.keepI {g g' : Gh} {w w' : World} {i : Nat} {o : SObj} (h0 : Keep .free g w g' w') (h1 : Keep (.obj i) g w g' w') (h2 : ∀ j, Keep (.lst (.hcell i j)) g w g' w') (hρ : KeepR g g') (h : RO g w i o) : RO g' w' i o := by
  cases o with
  | cells cs =>
    obtain ⟨k, c, T, hr, ho, hb, hs, hc⟩ := h
    obtain ⟨ho', hb'⟩ := h1 k _ ho hb
    exact ⟨k, c, T, hρ _ _ hr, ho', hb', hs, fun j s hj => let ⟨u, a1, a2, a3⟩ := hc j s hj; ⟨u, a1, a2.keep h0 (h2 j) hρ, a3⟩⟩
  | map es =>
    obtain ⟨k, ms, clock, hr, ho, hb, hs, hbo, hc⟩ := h
    obtain ⟨ho', hb'⟩ := h1 k _ ho hb
    exact ⟨k, ms, clock, hρ _ _ hr, ho', hb', hs, hbo, fun j p hj => let ⟨m, a1, a2, a3⟩ := hc j p hj; ⟨m, a1, a2.keep h0 hρ, a3.keep h0 hρ⟩⟩
  | hole => trivial
  | iter kb clock =>
    obtain ⟨k, hr, ho, hb⟩ := h
    obtain ⟨ho', hb'⟩ := h1 k _ ho hb
    exact ⟨k, hρ _ _ hr, ho', hb'⟩
  | mapX kb clock ms es =>
    obtain ⟨hr, ho, hb, hs, hbo, hc⟩ := h
    obtain ⟨ho', hb'⟩ := h1 kb _ ho hb
    exact ⟨hρ _ _ hr, ho', hb', hs, hbo, fun j p hj => let ⟨m, a1, a2, a3⟩ := hc j p hj; ⟨m, a1, a2.keep h0 hρ, a3.keep h0 hρ⟩⟩
  | bld T e bs =>
    obtain ⟨k, p, v, hr, ho, hb⟩ := h
    obtain ⟨ho', hb'⟩ := h1 k _ ho hb.1
    exact ⟨k, p, v, hρ _ _ hr, ho', hb.keep (h2 1) (hb'.trans hb.1.symm)⟩
theorem uses_obj {t : Nat} {s : SV} {i : Nat} : ¬ uses t s (.obj i) := by cases s <;> simp [uses]
section
variable {P : Program} {st : St}
def St.hp (st : St) (H : List SObj) : St := { st with H := H }
theorem Rel.setObj {a : Act} {w w' : World} {g : Gh} (hr : Rel st a w g) {i k : Nat} {o : SObj} (hi : i < st.H.length) (hk : g.ρ[i]? = some k) (ho : g.ow k = .obj i) (hw : ∀ k', k' ≠ k → w'.heap[k']? = w.heap[k']?) (hn : RO g w' i o) :
    Rel (st.hp (st.H.set i o)) a w' g := by
  have hkp : ∀ o', o' ≠ .obj i → Keep o' g w g w' := fun o' h => Keep.block ho h hw
  refine Rel.step hr hr.len hr.def0 (fun _ _ h => h) (fun t s hs => .inr (.inr ⟨hs, rfl, fun o' ho' => hkp o' (fun e => ?_), fun s' _ => ⟨rfl, fun x hx _ => ⟨x, hx, rfl⟩⟩⟩)) ⟨by simp [St.hp, hr.hp.1], fun i' o' hi' => ?_⟩
  · subst e; exact uses_obj ho'
  · simp only [St.hp] at hi'
    by_cases e : i = i'
    · subst e
      rw [List.getElem?_set_self hi] at hi'
      cases hi'
      exact hn
    · rw [List.getElem?_set_ne e] at hi'
      exact (hr.hp.2 i' o' hi').keepI (hkp _ (by simp)) (hkp _ (by simpa using Ne.symm e)) (fun j => hkp _ (by simp)) (fun _ _ h => h)
theorem Fr.setObj {g : Gh} {w w' : World} {i k : Nat} (ho : g.ow k = .obj i) (hs : w'.heap.size = w.heap.size) (hw : ∀ k', k' ≠ k → w'.heap[k']? = w.heap[k']?) (hos : SameOs w w' := by exact ⟨rfl, rfl⟩) : Fr false g w g w' :=
  ⟨by rw [hs]; exact Nat.le_refl _, Keep.block ho (by simp) hw, Keep.block ho (by simp) hw, fun _ _ h => h, nofun, nofun, nofun, hos⟩
theorem OpS.storeH {o : Oper} {T : TypeId} {x y : Operand} {i off : Nat} {d : D} {H' : List SObj} (hop : o.op = .store T x y) (hd : o.dst = none) (hx : ptrH st x = some (i, off)) (hy : valD st y = some d) (hu : (P.underlying T).isNone = false)
    (hsz : d.cells.length = P.cellsOf T) (hH : hPut st.H i off d.cells = some H') : OpS P false st o (st.hp H') := by
  refine OpS.skip fun a w g hr => ?_
  obtain ⟨cs, hi, hfit, rfl⟩ := hPut_eq hH
  obtain ⟨k, e1, e3⟩ := ptrH_sound hr hx
  obtain ⟨k', c, T0, f1, f2, f3, f4, f5⟩ := hr.hp.2 i _ hi
  rw [e1] at f1
  cases f1
  have hrd := valD_d hr hy
  obtain ⟨c1, c2⟩ := hrd.cells
  have hone : ∀ v ∈ (a.eval y).cells.toList, v.oneCell' = true := fun v hv => by
    obtain ⟨j, hj⟩ := List.mem_iff_getElem?.1 hv
    have hlt : j < d.cells.length := by rw [← c1]; have := get_lt hj; simpa using this
    obtain ⟨u, u1, u2, u3⟩ := c2 j d.cells[j] (by simp [hlt])
    have : u = v := by
      have hj' : (a.eval y).cells[j]? = some v := by simpa using hj
      rw [u1] at hj'; exact Option.some.inj hj'
    rw [← this]; exact u3
  obtain ⟨w', r1, r2, r3, c', r4, r5, r6⟩ := run_storeCells' (P := P) k off T0 (a.eval y).cells.toList 0 c w f3 (by simp [c1]; omega) hone
  refine ⟨w', g, ?_, ?_, Fr.setObj f2 r2 r3 (storeCells_os (P := P) k off T0 (a.eval y).cells.toList 0 c w w' f3 (by simp [c1]; omega) hone r1)⟩
  · unfold execOp; rw [hop]
    simp only [Instr.storeAt, Sem.run_bind, e3, Instr.sureAddr, Sem.run_pure, Result.andThen_ok, storeVar, run_sizeOf' hu]
    rw [if_neg (by rw [c1, hsz]; simp), r1]
    rfl
  · rw [hd]
    refine hr.setObj (get_lt hi) e1 f2 r3 ⟨k, c', T0, e1, f2, r4, by rw [r5, f4, setCells_len (by omega)], fun j sv hj => ?_⟩
    have hkp : ∀ o', o' ≠ .obj i → Keep o' g w g w' := fun o' ho => Keep.block f2 ho r3
    rcases setCells_get (by omega) hj with ⟨h1, h2, y', h3, rfl⟩ | ⟨h1, h2⟩
    · obtain ⟨u, u1, u2, u3⟩ := c2 _ _ h3
      refine ⟨u, ?_, Rd.keep (hkp _ (by simp)) (fun _ _ h => h) u2, u3⟩
      rw [r6, if_pos (by simp [c1]; omega)]
      simpa using u1
    · obtain ⟨u, u1, u2, u3⟩ := f5 j sv h2
      refine ⟨u, ?_, u2.keep (hkp _ (by simp)) (hkp _ (by simp)) (fun _ _ h => h), u3⟩
      rw [r6, if_neg (by simp [c1]; omega)]
      exact u1
def Gh.new (g : Gh) (k i : Nat) : Gh := ⟨(g.upd k (.obj i)).ow, g.ρ ++ [k]⟩
theorem KeepR.new {g : Gh} {k i : Nat} : KeepR g (g.new k i) := fun j k' h => by
  simp only [Gh.new]
  rw [List.getElem?_append_left (get_lt h)]; exact h
theorem Keep.new {o' : Own} {g : Gh} {w : World} {ob : Obj} {i : Nat} : Keep o' g w (g.new w.heap.size i) (w.alloc ob) := by
  intro k b hk hb
  exact Keep.alloc (t := .obj i) (o := ob) k b hk hb
theorem Fr.new {g : Gh} {w : World} {ob : Obj} {i : Nat} : Fr false g w (g.new w.heap.size i) (w.alloc ob) :=
  ⟨by simp, Keep.new, Keep.new, KeepR.new, nofun, nofun, nofun, ⟨rfl, rfl⟩⟩
theorem Rel.newObj {a : Act} {w : World} {g : Gh} (hr : Rel st a w g) {ob : Obj} {o : SObj} (hn : RO (g.new w.heap.size st.H.length) (w.alloc ob) st.H.length o) :
    Rel (st.hp (st.H ++ [o])) a (w.alloc ob) (g.new w.heap.size st.H.length) := by
  refine Rel.step hr hr.len hr.def0 KeepR.new (fun t s hs => .inr (.inr ⟨hs, rfl, fun o' ho' => Keep.new, fun s' _ => ⟨rfl, fun x hx _ => ⟨x, hx, rfl⟩⟩⟩)) ⟨by simp [St.hp, Gh.new, hr.hp.1], fun i' o' hi' => ?_⟩
  simp only [St.hp] at hi'
  by_cases h : i' < st.H.length
  · rw [List.getElem?_append_left h] at hi'
    exact (hr.hp.2 i' o' hi').keepI Keep.new Keep.new (fun _ => Keep.new) KeepR.new
  · rw [List.getElem?_append_right (by omega)] at hi'
    have h0 : i' - st.H.length = 0 := by
      have := get_lt hi'; simp at this; omega
    have : i' = st.H.length := by omega
    subst this
    rw [h0] at hi'
    cases hi'
    exact hn
theorem new_rho {g : Gh} {H : List SObj} {w : World} (h : RH g w H) (k : Nat) : (g.new k H.length).ρ[H.length]? = some k := by
  simp only [Gh.new]
  rw [← h.1, List.getElem?_append_right (Nat.le_refl _)]
  simp
theorem new_ow {g : Gh} (k i : Nat) : (g.new k i).ow k = .obj i := by simp [Gh.new]
def nilCells (l : List (Nat × Nat × Bool)) (cs : List SV) : List SV := match l with
  | [] => cs
  | (j, n, b) :: l => nilCells l (match cs[j]? with | some (.d .nilS) => cs.set j (if b then .own n [] else .d (.list n [])) | _ => cs)
theorem nilCells_len : ∀ (l : List (Nat × Nat × Bool)) (cs : List SV), (nilCells l cs).length = cs.length
  | [], cs => rfl
  | (j, n, b) :: l, cs => by
    rw [nilCells, nilCells_len l]
    split <;> simp
theorem nilCells_get {g : Gh} {w : World} {lo : Nat → Loc} {c : Array Value} : ∀ (l : List (Nat × Nat × Bool)) (cs : List SV), (∀ (j : Nat) (s : SV), cs[j]? = some s → ∃ u, c[j]? = some u ∧ RC g w (lo j) u s ∧ u.oneCell' = true) →
    ∀ (j : Nat) (s : SV), (nilCells l cs)[j]? = some s → ∃ u, c[j]? = some u ∧ RC g w (lo j) u s ∧ u.oneCell' = true
  | [], cs, h => h
  | (j0, n, b) :: l, cs, h => by
    refine nilCells_get l _ fun j s hj => ?_
    split at hj
    · rename_i h0
      by_cases e : j0 = j
      · subst e
        obtain ⟨u, u1, u2, u3⟩ := h j0 _ h0
        rw [List.getElem?_set_self (get_lt h0)] at hj
        have hn : Rd g w u .nilS := u2
        obtain ⟨a, rfl⟩ := hn.nilS_inv
        refine ⟨_, u1, ?_, u3⟩
        cases b
        · simp only [Bool.false_eq_true, if_false, Option.some.injEq] at hj
          subst hj
          exact Rd.list0
        · simp only [if_true, Option.some.injEq] at hj
          subst hj
          exact .inl ⟨rfl, _, rfl⟩
      · rw [List.getElem?_set_ne e] at hj
        exact h j s hj
    · exact h j s hj
theorem RCells.newObj {g : Gh} {w : World} {H : List SObj} (hH : RH g w H) {T : TypeId} {v : Value} {y : D} (h : Rd g w v y) (l : List (Nat × Nat × Bool)) :
    RO (g.new w.heap.size H.length) (w.alloc (.cells v.cells T)) H.length (.cells (nilCells l (y.cells.map .d))) := by
  obtain ⟨c1, c2⟩ := h.cells
  refine ⟨w.heap.size, v.cells, T, new_rho hH _, new_ow _ _, heap_alloc _ _, by rw [nilCells_len]; simpa using c1, nilCells_get l _ fun j s hj => ?_⟩
  simp only [List.getElem?_map, Option.map_eq_some_iff] at hj
  obtain ⟨x, hx, rfl⟩ := hj
  obtain ⟨u, u1, u2, u3⟩ := c2 j x hx
  exact ⟨u, u1, Rd.keep Keep.new KeepR.new u2, u3⟩
theorem OpS.allocH {o : Oper} {T : TypeId} {z : D} (l : List (Nat × Nat × Bool)) (hop : o.op = .alloc T) (hz : zeroD P T = some z) :
    OpS P false st o ((st.hp (st.H ++ [.cells (nilCells l (z.cells.map .d))])).put o.dst (.d (.ptr st.H.length 0))) := by
  refine OpS.value fun a w g hr => ?_
  obtain ⟨v, e1, e2⟩ := zeroD_sound (P := P) (g := g) (w := w) hz
  have hn := RCells.newObj (T := T) hr.hp e1 l
  refine ⟨.pointer (some ⟨w.heap.size, 0, none⟩), w.alloc (.cells v.cells T), _, ?_, Rel.putLight (hr.newObj hn) o.dst (.ptr (new_rho hr.hp _)), Fr.new⟩
  unfold execOp; rw [hop]
  simp only [Instr.alloc, Sem.run_bind, e2, Result.andThen_ok, newVar, newRow, run_newObj, Sem.run_pure]
  rfl
theorem OpS.boxH {o : Oper} {T : TypeId} {x : Operand} {y : D} (l : List (Nat × Nat × Bool)) (hop : o.op = .box T x) (hy : valD st x = some y) :
    OpS P false st o ((st.hp (st.H ++ [.cells (nilCells l (y.cells.map .d))])).put o.dst (.d (.ptr st.H.length 0))) := by
  refine OpS.value fun a w g hr => ?_
  have e1 := valD_d hr hy
  have hn := RCells.newObj (T := T) hr.hp e1 l
  refine ⟨.pointer (some ⟨w.heap.size, 0, none⟩), w.alloc (.cells (a.eval x).cells T), _, ?_, Rel.putLight (hr.newObj hn) o.dst (.ptr (new_rho hr.hp _)), Fr.new⟩
  unfold execOp; rw [hop]
  simp only [Instr.box, Sem.run_bind, newVar, newRow, run_newObj, Result.andThen_ok, Sem.run_pure]
  rfl
theorem OpS.makeMapH {o : Oper} {T : TypeId} (hop : o.op = .makeMap T none) : OpS P false st o ((st.hp (st.H ++ [.map []])).put o.dst (.d (.map st.H.length))) := by
  refine OpS.value fun a w g hr => ?_
  have hn : RO (g.new w.heap.size st.H.length) (w.alloc (.map #[] 0)) st.H.length (.map []) :=
    ⟨w.heap.size, #[], 0, new_rho hr.hp _, new_ow _ _, heap_alloc _ _, rfl, ⟨by simp, by simp⟩, by simp⟩
  refine ⟨.map (some w.heap.size), w.alloc (.map #[] 0), _, ?_, Rel.putLight (hr.newObj hn) o.dst (.map (new_rho hr.hp _)), Fr.new⟩
  unfold execOp; rw [hop]
  simp only [Instr.makeMap, Option.map_none, Sem.run_bind, run_newObj, Result.andThen_ok, Sem.run_pure]
  rfl
end
end Go.Sh
namespace Go.Sh
section
variable {K V : Type} [BEq K]
end
section
variable {P : Program} {st : St} {K V : Type} [BEq K]
end
end Go.Sh
namespace Go.Sh
section
variable {P : Program} {st : St} {K V : Type} [BEq K]
end
end Go.Sh
namespace Go.Sh
mutual
def noPtr : D → Bool
  | .ptr _ _ | .map _ => false
  | .list _ xs => noPtrs xs
  | .agg cs => noPtrs cs
  | .iface _ x => noPtr x
  | .fn _ fs cs => noPtrs fs && noPtrs cs
  | .dptr cs => noPtrs cs
  | _ => true
def noPtrs : List D → Bool
  | [] => true
  | x :: xs => noPtr x && noPtrs xs
end
theorem noPtrs_get : ∀ {xs : List D}, noPtrs xs = true → ∀ (j : Nat) (y : D), xs[j]? = some y → noPtr y = true
  | [], _, j, y, h => by simp at h
  | x :: xs, hn, j, y, h => by
    simp only [noPtrs, Bool.and_eq_true] at hn
    cases j with
    | zero => simp at h; subst h; exact hn.1
    | succ j => exact noPtrs_get hn.2 j y (by simpa using h)
theorem noPtrs_cells {x : D} (h : noPtr x = true) : ∀ (j : Nat) (y : D), x.cells[j]? = some y → noPtr y = true := by
  intro j y hy
  cases x with
  | agg cs => simp only [noPtr] at h; exact noPtrs_get h j y hy
  | _ =>
    cases j with
    | zero => simp [D.cells] at hy; subst hy; exact h
    | succ j => simp [D.cells] at hy
def noPtrSV : SV → Bool
  | .d x => noPtr x
  | .own _ xs => noPtrs xs
  | .tup vs => vs.all fun | .d x => noPtr x | .own _ xs => noPtrs xs | .undef => true | _ => false
  | .undef => true
  | _ => false
theorem Rd.noObj {g g' : Gh} {w w' : World} (hk : Keep .free g w g' w') {v : Value} {x : D} (h : Rd g w v x) (hn : noPtr x = true) : Rd g' w' v x := by
  induction h with
  | bool => exact .bool
  | int => exact .int
  | str => exact .str
  | nilS => exact .nilS
  | list0 => exact .list0
  | list us hk' hb hl hp hn' hc _ ih =>
    refine .list us (hk _ _ hk' hb).1 (hk _ _ hk' hb).2 hl hp hn' hc fun i x hx j y hy => ih i x hx j y hy ?_
    simp only [noPtr] at hn
    exact noPtrs_cells (noPtrs_get hn i x hx) j y hy
  | agg hl us hc _ ih => exact .agg hl us hc fun j y hy => ih j y hy (noPtrs_get (by simpa [noPtr] using hn) j y hy)
  | nilIface => exact .nilIface
  | iface _ ih => exact .iface (ih (by simpa [noPtr] using hn))
  | fn hl1 hl2 us1 us2 hc1 _ hc2 _ ih1 ih2 =>
    simp only [noPtr, Bool.and_eq_true] at hn
    exact .fn hl1 hl2 us1 us2 hc1 (fun j y hy => ih1 j y hy (noPtrs_get hn.1 j y hy)) hc2 (fun j y hy => ih2 j y hy (noPtrs_get hn.2 j y hy))
  | nilFn => exact .nilFn
  | nilPtr => exact .nilPtr
  | ptr h => simp [noPtr] at hn
  | dptr us hk' hb hc _ ih => exact .dptr us (hk _ _ hk' hb).1 (hk _ _ hk' hb).2 hc fun j y hy => ih j y hy (noPtrs_get (by simpa [noPtr] using hn) j y hy)
  | nilMap => exact .nilMap
  | map h => simp [noPtr] at hn
theorem RC.noObj {g g' : Gh} {w w' : World} {o : Loc} {v : Value} {s : SV} (hk : Keep .free g w g' w') (h1 : Keep (.lst o) g w g' w') (h : RC g w o v s) (hn : noPtrSV s = true) : RC g' w' o v s := by
  cases s with
  | d x => exact Rd.noObj hk h hn
  | own n xs =>
    rcases h with h | ⟨k, off, cap, c, T, us, hv, ho, hb, hl, hz, hw, hc, hr⟩
    · exact .inl h
    · obtain ⟨ho', hb'⟩ := h1 k _ ho hb
      refine .inr ⟨k, off, cap, c, T, us, hv, ho', hb', hl, hz, hw, hc, fun i x hx j y hy => Rd.noObj hk (hr i x hx j y hy) ?_⟩
      simp only [noPtrSV] at hn
      exact noPtrs_cells (noPtrs_get hn i x hx) j y hy
  | undef => trivial
  | _ => exact h.elim
def hideOw : Own → Own
  | .free => .free
  | .lst (.slot j) => .lst (.slot j)
  | _ => .out
def Gh.hide (g : Gh) : Gh := ⟨fun k => hideOw (g.ow k), []⟩
def unhide (n : Nat) (ow ow' : Nat → Own) (k : Nat) : Own :=
  if k < n then (match ow k with | .free => .free | .lst (.slot j) => (match ow' k with | .obj _ => .out | .lst (.hcell _ _) => .out | o => o) | o => o)
  else match ow' k with | .obj _ => .out | .lst (.hcell _ _) => .out | o => o
def LC (P : Program) (f : FuncId) (args : List SV) (r : SV) : Prop :=
  ∀ (w : World) (g : Gh) (vs : Array Value), RArgs g w vs args → RH g w [] → Calls P f vs w fun e w' => ∃ v g', e = .returned v ∧ RRes g' w' v r ∧ Fr false g w g' w'
theorem PC.of_local {P : Program} {f : FuncId} {args : List SV} {r : SV} (ha : args.all noPtrSV = true) (hr : noPtrSV r = true) (h : LC P f args r) : PC P f args r := by
  intro H w g vs hA hH
  have hkeep : Keep .free g w g.hide w := fun k o h1 h2 => ⟨by simp [Gh.hide, h1, hideOw], h2⟩
  have hA' : RArgs g.hide w vs args := by
    refine ⟨hA.1, fun j s hj => ?_⟩
    obtain ⟨u, u1, u2⟩ := hA.2 j s hj
    refine ⟨u, u1, u2.noObj hkeep (fun k o h1 h2 => ⟨by simp [Gh.hide, h1, hideOw], h2⟩) ?_⟩
    rw [List.all_eq_true] at ha
    exact ha s (List.mem_iff_getElem?.2 ⟨j, hj⟩)
  refine (h w g.hide vs hA' ⟨rfl, by simp⟩).mono fun e w' hh => ?_
  obtain ⟨v, g', rfl, hres, hf⟩ := hh
  -- the owners behind the call
  let g2 : Gh := ⟨unhide w.heap.size g.ow g'.ow, g.ρ⟩
  -- old blocks that were hidden
  have hid : ∀ (k : Nat) (o : Obj), hideOw (g.ow k) = .out → w.heap[k]? = some o → g2.ow k = g.ow k ∧ w'.heap[k]? = some o := by
    intro k o h1 h2
    obtain ⟨-, h4⟩ := hf.out k o (by simpa [Gh.hide] using h1) h2
    refine ⟨?_, h4⟩
    have hlt := arr_lt h2
    show unhide w.heap.size g.ow g'.ow k = _
    unfold unhide
    rw [if_pos hlt]
    split
    · rename_i e; exact e.symm
    · rename_i j e; rw [e] at h1; cases h1
    · rfl
  have hfree : Keep .free g w g2 w' := by
    intro k o h1 h2
    obtain ⟨-, h4⟩ := hf.free k o (by simp [Gh.hide, h1, hideOw]) h2
    refine ⟨?_, h4⟩
    show unhide w.heap.size g.ow g'.ow k = _
    unfold unhide
    rw [if_pos (arr_lt h2), h1]
  have hback : Keep .free g' w' g2 w' := by
    intro k o h1 h2
    refine ⟨?_, h2⟩
    show unhide w.heap.size g.ow g'.ow k = _
    unfold unhide
    split
    · rename_i hlt
      cases hk : g.ow k with
      | free => rfl
      | lst l =>
        cases l with
        | slot j => simp only [h1]
        | _ =>
          exfalso
          have h2' : ∃ o', w.heap[k]? = some o' := ⟨w.heap[k], by simp [hlt]⟩
          obtain ⟨o', h3⟩ := h2'
          have := (hf.out k o' (by simp [Gh.hide, hk, hideOw]) h3).1
          rw [h1] at this; cases this
      | _ =>
        exfalso
        have h2' : ∃ o', w.heap[k]? = some o' := ⟨w.heap[k], by simp [hlt]⟩
        obtain ⟨o', h3⟩ := h2'
        have := (hf.out k o' (by simp [Gh.hide, hk, hideOw]) h3).1
        rw [h1] at this; cases this
    · rw [h1]
  have hbackL : ∀ l : Loc, (∀ i j, l ≠ .hcell i j) → Keep (.lst l) g' w' g2 w' := by
    intro l hl k o h1 h2
    refine ⟨?_, h2⟩
    show unhide w.heap.size g.ow g'.ow k = _
    unfold unhide
    have hno : (match g'.ow k with | .obj _ => Own.out | .lst (.hcell _ _) => .out | o => o) = .lst l := by
      rw [h1]
      cases l with
      | hcell i j => exact absurd rfl (hl i j)
      | _ => rfl
    split
    · rename_i hlt
      have h2' : ∃ o', w.heap[k]? = some o' := ⟨w.heap[k], by simp [hlt]⟩
      obtain ⟨o', h3⟩ := h2'
      have hcontra : hideOw (g.ow k) = .out ∨ hideOw (g.ow k) = .free → False := by
        rintro (e | e)
        · have := (hf.out k o' (by simpa [Gh.hide] using e) h3).1; rw [h1] at this; cases this
        · have := (hf.free k o' (by simpa [Gh.hide] using e) h3).1; rw [h1] at this; cases this
      cases hk : g.ow k with
      | free => exact (hcontra (.inr (by rw [hk]; rfl))).elim
      | lst l' =>
        cases l' with
        | slot j => exact hno
        | _ => exact (hcontra (.inl (by rw [hk]; rfl))).elim
      | _ => exact (hcontra (.inl (by rw [hk]; rfl))).elim
    · exact hno
  refine ⟨v, g2, rfl, ?_, ⟨hH.1, fun i o hi => ?_⟩, hf.size, hfree, ?_, fun _ _ h => h, ?_, ?_, fun _ => rfl, hf.os⟩
  · -- the result
    cases r with
    | d x => exact Rd.noObj hback hres hr
    | own n xs => exact RC.noObj (s := .own n xs) hback (hbackL _ (by simp)) hres hr
    | tup vs' =>
      obtain ⟨us, e1, e2, e3⟩ := hres
      refine ⟨us, e1, e2, fun j s hj => ?_⟩
      obtain ⟨u, u1, u2⟩ := e3 j s hj
      refine ⟨u, u1, u2.noObj hback (hbackL _ (by simp)) ?_⟩
      simp only [noPtrSV, List.all_eq_true] at hr
      have := hr s (List.mem_iff_getElem?.2 ⟨j, hj⟩)
      cases s <;> simpa [noPtrSV] using this
    | undef => trivial
    | _ => exact hres.elim
  · -- the objects
    have hhid : ∀ o', hideOw o' = .out → Keep o' g w g2 w' := fun o' ho' k ob h1 h2 => by
      obtain ⟨a, b⟩ := hid k ob (by rw [h1]; exact ho') h2
      exact ⟨a.trans h1, b⟩
    exact (hH.2 i o hi).keepI hfree (hhid _ rfl) (fun j => hhid _ rfl) (fun _ _ h => h)
  · intro k o h1 h2
    obtain ⟨a, b⟩ := hid k o (by rw [h1]; rfl) h2
    exact ⟨a.trans h1, b⟩
  · intro _ i k o h1 h2
    obtain ⟨a, b⟩ := hid k o (by rw [h1]; rfl) h2
    exact ⟨a.trans h1, b⟩
  · intro _ i j k o h1 h2
    obtain ⟨a, b⟩ := hid k o (by rw [h1]; rfl) h2
    exact ⟨a.trans h1, b⟩
end Go.Sh
namespace Go.Sh
section
variable {P : Program} {st : St} {ops : Array Oper} {k m : Nat} {Q : St → Prop} (n : Nat) (H : List SObj)
def ncAt (ops : Array Oper) (k : Nat) (st : St) : Option (Option Tmp × D) :=
  match opAt ops k st with
  | some o => match o.op with
    | .nilCheck (.tmp s) => match valD st (.tmp s) with
      | some d => some (o.dst, d)
      | none => none
    | _ => none
  | none => none
theorem BAt.nilc {d : Option Tmp} {p : Option Nat} {i : Nat} (hp : p = some i) (h : ncAt ops k st = some (d, cP.enc p)) : BAt P ops k st d (.d (.ptr i 0)) := by
  subst hp
  unfold ncAt at h
  split at h
  · rename_i o ho
    split at h
    · rename_i s hop
      split at h
      · rename_i d' hv
        simp only [Option.some.injEq, Prod.mk.injEq] at h
        obtain ⟨rfl, rfl⟩ := h
        obtain ⟨h1, h2⟩ := opAt_inv ho
        refine ⟨o, h1, h2, BStep.of_bop ?_, rfl, rfl⟩
        simp only [valD, val] at hv
        split at hv
        · rename_i d hd
          cases hv
          simp [bop, hop, readOp, hd, readSV, someK, fnOk, cP]
        · cases hv
      · cases h
    · cases h
  · cases h
def ldHAt (P : Program) (ops : Array Oper) (k : Nat) (st : St) (cs : List SV) : Option (Option Tmp × Nat × Nat × Hp × SV) :=
  match opAt ops k st with
  | some o => match o.op with
    | .load T x => match asLoc st x, ptrOf st x, ptrH st x with
      | none, none, some (i, off) =>
        if (P.underlying T).isNone then none
        else if isAggT P T then (if 0 < P.cellsOf T ∧ P.cellsOf T ≤ cs.length then (match allD (cs.take (P.cellsOf T)) with | some ys => some (o.dst, i, off, st.H, .d (.agg ys)) | none => none) else none)
        else match cs with
          | .d x :: _ => some (o.dst, i, off, st.H, .d x)
          | .own n xs :: _ => some (o.dst, i, off, st.H, .lent (.hcell i off) n xs)
          | _ => none
      | _, _, _ => none
    | _ => none
  | none => none
theorem BAt.ldH {α : Type} {c : Cc α} {H0 : Hp} {i off : Nat} {x : α} {d : Option Tmp} {s : SV} (hx : hGet c H0 i off = some x) (h : ldHAt P ops k st (c.enc x) = some (d, i, off, H0, s)) : BAt P ops k st d s := by
  obtain ⟨cs, r, e1, e2⟩ := hGet_eq hx
  unfold ldHAt at h
  split at h
  · rename_i o ho
    split at h
    · rename_i T xo hop
      split at h
      · rename_i i' off' h1 h2 h3
        obtain ⟨g1, g2⟩ := opAt_inv ho
        have key : ∀ s', loadS P T (.hcell i' off') (c.enc x ++ r) = some s' → i' = i → off' = off → st.H = H0 → locOk o.dst s' = true → BAt P ops k st o.dst s' := by
          rintro s' hl rfl rfl rfl hlk
          refine ⟨o, g1, g2, BStep.of_bop ?_, hlk, rfl⟩
          simp only [bop, hop, loadOp, h1, h2, h3, e1, e2, hl]
        split at h
        · cases h
        · rename_i hu
          split at h
          · rename_i ha
            split at h
            · rename_i hn
              split at h
              · rename_i ys hys
                simp only [Option.some.injEq, Prod.mk.injEq] at h
                obtain ⟨rfl, e3, e4, e5, rfl⟩ := h
                refine key _ ?_ e3 e4 e5 rfl
                unfold loadS
                rw [if_neg hu, if_pos ha, if_pos ⟨hn.1, by rw [List.length_append]; omega⟩, List.take_append_of_le_length hn.2, hys]
                rfl
              · cases h
            · cases h
          · rename_i ha
            split at h
            · rename_i y rest hc
              simp only [Option.some.injEq, Prod.mk.injEq] at h
              obtain ⟨rfl, e3, e4, e5, rfl⟩ := h
              refine key _ ?_ e3 e4 e5 rfl
              unfold loadS
              rw [if_neg hu, if_neg ha, hc]
              rfl
            · rename_i w' xs rest hc
              simp only [Option.some.injEq, Prod.mk.injEq] at h
              obtain ⟨rfl, e3, e4, e5, rfl⟩ := h
              refine key _ ?_ e3 e4 e5 rfl
              unfold loadS
              rw [if_neg hu, if_neg ha, hc, e3, e4]
              rfl
            · cases h
      · cases h
    · cases h
  · cases h
theorem OWk.heap {o : Oper} {st' : St} (L : List Nat) (l : List (Nat × SV)) (ho : ops[k]? = some o) (hw : wantS ops st o = some true) (hs : OpS P false st o st') (hst : pickR n L st' = some (l, H)) (h : OWk P false ops (k + 1) (sp n l H) Q) : OWk P false ops k st Q :=
  OWk.e ho hw hs (OWk.keep L (keepR_of_pick hst) h)
def stHAt (P : Program) (ops : Array Oper) (k : Nat) (st : St) : Option (Nat × Nat × D × Hp) :=
  match opAt ops k st with
  | some o => match o.op with
    | .store T x y => match ptrH st x, valD st y with
      | some (i, off), some d => if (P.underlying T).isNone = false ∧ d.cells.length = P.cellsOf T ∧ o.dst = none then some (i, off, d, st.H) else none
      | _, _ => none
    | _ => none
  | none => none
theorem OWk.hst {α : Type} {c : Cd α} {x : α} {i off : Nat} {H0 : Hp} (L : List Nat) (l : List (Nat × SV)) (hx : hSet c H0 i off x = some H) (h : stHAt P ops k st = some (i, off, c.enc x, H0)) (hst : pickR n L (st.hp H) = some (l, H))
    (hn : OWk P false ops (k + 1) (sp n l H) Q) : OWk P false ops k st Q := by
  unfold stHAt at h
  split at h
  · rename_i o ho
    split at h
    · rename_i T x y hop
      split at h
      · rename_i i' off' d h1 h2
        split at h
        · rename_i hc
          simp only [Option.some.injEq, Prod.mk.injEq] at h
          obtain ⟨rfl, rfl, rfl, rfl⟩ := h
          obtain ⟨g1, g2⟩ := opAt_inv ho
          exact OWk.heap n H L l g1 g2 (OpS.storeH hop hc.2.2 h1 h2 hc.1 hc.2.1 hx) hst hn
        · cases h
      · cases h
    · cases h
  · cases h
def newAt (P : Program) (ops : Array Oper) (k : Nat) (st : St) (l : List (Nat × Nat × Bool)) : Option (Option Tmp × SObj × Hp × Bool) :=
  match opAt ops k st with
  | some o => match o.op with
    | .alloc T => match zeroD P T with
      | some z => some (o.dst, .cells (nilCells l (z.cells.map .d)), st.H, false)
      | none => none
    | .box T x => match valD st x with
      | some y => some (o.dst, .cells (nilCells l (y.cells.map .d)), st.H, false)
      | none => none
    | .makeMap T none => some (o.dst, .map [], st.H, true)
    | _ => none
  | none => none
theorem OWk.hnew {d : Option Tmp} {ob : SObj} {H0 : Hp} {q : Hp × Nat} {b : Bool} (nl : List (Nat × Nat × Bool)) (L : List Nat) (l : List (Nat × SV)) (hq : hNew H0 ob = some q) (h : newAt P ops k st nl = some (d, ob, H0, b)) (hH : q.1 = H)
    (hst : pickR n L ((st.hp H).put d (.d (if b then .map q.2 else .ptr q.2 0))) = some (l, H)) (hn : OWk P false ops (k + 1) (sp n l H) Q) : OWk P false ops k st Q := by
  cases hq
  subst hH
  unfold newAt at h
  split at h
  · rename_i o ho
    obtain ⟨g1, g2⟩ := opAt_inv ho
    split at h
    · rename_i T hop
      split at h
      · rename_i z hz
        simp only [Option.some.injEq, Prod.mk.injEq] at h
        obtain ⟨rfl, rfl, rfl, rfl⟩ := h
        exact OWk.heap n _ L l g1 g2 (OpS.allocH nl hop hz) hst hn
      · cases h
    · rename_i T x hop
      split at h
      · rename_i y hy
        simp only [Option.some.injEq, Prod.mk.injEq] at h
        obtain ⟨rfl, rfl, rfl, rfl⟩ := h
        exact OWk.heap n _ L l g1 g2 (OpS.boxH nl hop hy) hst hn
      · cases h
    · rename_i T hop
      simp only [Option.some.injEq, Prod.mk.injEq] at h
      obtain ⟨rfl, rfl, rfl, rfl⟩ := h
      exact OWk.heap n _ L l g1 g2 (OpS.makeMapH hop) hst hn
    · cases h
  · cases h
theorem eval_put_other {a : Act} {d : Nat} {v : Value} {x : Operand} (h : x ≠ .tmp d) : (a.put (some d) v).eval x = a.eval x := by
  cases x with
  | tmp t => exact valOf_put (by simpa using fun e => h (by rw [e]))
  | _ => rfl
variable {pu : Bool}
theorem SW.jnH {α : Type} {x y : Code} {Q : Exit → St → Prop} (L : List Nat) (l : α → List (Nat × SV)) (Hf : α → Hp) (C : α → Prop) (hj : ∀ v, C v → SW P pu y (sp n (l v) (Hf v)) Q) (h : SW P pu x st (thenS (fun s => ∃ v ll, pickR n L (s.nils ll) = some (l v, Hf v) ∧ C v) Q)) : SW P pu (.seq x y) st Q :=
  SW.seqJ L (fun v => sp n (l v) (Hf v)) C hj (SW.mono h fun e s hh => by
    cases e with
    | normal => obtain ⟨v, ll, h1, h2⟩ := hh; exact ⟨v, ll, keepR_of_pick h1, h2⟩
    | _ => exact hh)
theorem SW.itH {γ β : Type} {c : Code} {Q : Exit → St → Prop} (L : List Nat) {body : γ → Option (γ ⊕ β)} (l : γ → List (Nat × SV)) (Hf : γ → Hp) (E : β → Exit → St → Prop) {fuel : Nat} {x : γ} {b : β} (hit : Sh.iter body fuel x = some b) (h0 : pickR n L st = some (l x, Hf x))
    (round : ∀ x o, body x = some o → SW P pu c (sp n (l x) (Hf x)) (thenS (fun s' => ∃ y, o = .inl y ∧ pickR n L s' = some (l y, Hf y)) (fun e s' => ∃ b, o = .inr b ∧ E b e s')))
    (after : ∀ e s', E b e s' → Q e s') : SW P pu (.loop c) st Q :=
  SW.iterK L (fun x => sp n (l x) (Hf x)) E hit (keepR_of_pick h0) (fun x o h => SW.mono (round x o h) fun e s hh => by
    cases e with
    | normal => obtain ⟨y, h1, h2⟩ := hh; exact ⟨y, h1, keepR_of_pick h2⟩
    | _ => exact hh) after
def EndL (P : Program) (rs : List ResultVar) (r : SV) (e : Exit) (st : St) : Prop := ∃ H, EndQ P rs H r e st
theorem EndL.ret {rs : List ResultVar} {r : SV} (l : List (Nat × Nat)) (h : endV P rs (st.nils l) = some r) : EndL P rs r .ret st := ⟨st.H, .ret l h rfl⟩
end
theorem PC.of_localSW {P : Program} {f : FuncId} {fn : Func} {c : Code} {args : List SV} {r : SV} (hf : P.funcs[f]? = some fn) (hb : fn.body = some c) (ha : args.all noPtrSV = true) (hr : noPtrSV r = true)
    (h : SW P false c (initSt fn.ntmps args []) (EndL P fn.results.toList r)) : PC P f args r := by
  refine PC.of_local ha hr fun w g vs hA hH => ?_
  have := calls_of_SW (P := P) (pu := false) (args := args) (H := []) (r := r) (fun _ => True) hf hb (fun a w g hr => ?_) w g vs hA hH
  · exact this.mono fun e w' hh => by
      obtain ⟨v, g', H', -, e1, e2, -, e3⟩ := hh
      exact ⟨v, g', e1, e2, e3⟩
  · refine Code.wp_mono (fun e a' w' hh => ?_) (h a w g hr)
    obtain ⟨st', g', ⟨H', he, l, h1, h2⟩, r1, f⟩ := hh
    exact ⟨st'.nils l, g', ⟨he, endV_ok h1, trivial⟩, r1.nils, f⟩
end Go.Sh
namespace Go.Sh
end Go.Sh
namespace Go.Sh
section
variable {P : Program} {st : St} {ops : Array Oper} {k : Nat} {Q : St → Prop} (n : Nat) (H : List SObj) {K V : Type} [BEq K]
theorem wpList_val {o : Oper} {rest : List Oper} {a : Act} {w w' : World} {v : Value} {Q : Exit → Act → World → Prop} (hg : o.guard = none) (hrun : (execOp a.eval o).run P w = .ok (.value v) w') (h : wpList P ops Q rest (a.put o.dst v) w') : wpList P ops Q (o :: rest) a w := by
  unfold wpList
  rw [show Region.wanted o (yielded ops a.tmps) = true by unfold Region.wanted; rw [hg], if_pos rfl]
  refine .inl ?_
  unfold Oper.wp
  rw [hrun, Oper.upon_value]
  exact h
theorem spL_len : ∀ (n : Nat) (l : List (Nat × SV)) (t : Nat), (spL l n t).length = n
  | 0, _, _ => rfl
  | n + 1, [], t => by simp [spL, spL_len n]
  | n + 1, (t', s) :: r, t => by simp only [spL]; split <;> simp [spL_len n]
end
end Go.Sh
namespace Go.Sh
def ownAt (st : St) (s : Nat) : Option (Option Value × Nat × List D) :=
  match st.tmps[s]? with
  | some (.own n xs) => some (none, n, xs)
  | some (.pin v n xs) => some (some v, n, xs)
  | _ => none
section
variable {P : Program} {pu : Bool} {st : St} {ops : Array Oper} {k : Nat} {Q : St → Prop}
def alsAt (ops : Array Oper) (k : Nat) (st : St) : Option (Option Tmp × Nat) :=
  match opAt ops k st with
  | some o => match o.op with
    | .move (.tmp s) => match ownAt st s with
      | some _ => if o.dst != some s then some (o.dst, s) else none
      | none => none
    | _ => none
  | none => none
def eqOp : BinOp → Option Bool
  | .eql => some true
  | .neq => some false
  | _ => none
def nqAt (P : Program) (ops : Array Oper) (k : Nat) (st : St) : Option (Option Tmp × Bool × List D) :=
  match opAt ops k st with
  | some o => match o.op with
    | .binOp op T x (.const (.slice none 0 0)) _ => match eqOp op, listOf st x, P.underlying T with
      | some e, some (_, _, xs), some (.slice _) => some (o.dst, e, xs)
      | _, _, _ => none
    | _ => none
  | none => none
theorem OWk.nilq {xs : List D} {d : Option Tmp} {e : Bool} (m : Nat) (H : List SObj) (L : List Nat) (l : Bool → List (Nat × SV)) (h : nqAt P ops k st = some (d, e, xs)) (hst : ∀ b, pickR m L (st.put d (.d (.bool b))) = some (l b, H))
    (hn : ∀ b, (b = e → xs = []) → OWk P pu ops (k + 1) (sp m (l b) H) Q) : OWk P pu ops k st Q := by
  unfold nqAt at h
  split at h
  · rename_i o ho
    split at h
    · rename_i op T x yT hop
      split at h
      · rename_i e' lo no xs' eT hop1 hl hT
        simp only [Option.some.injEq, Prod.mk.injEq] at h
        obtain ⟨rfl, rfl, rfl⟩ := h
        obtain ⟨g1, g2⟩ := opAt_inv ho
        have key : ∀ (a : Act) (w : World) (g : Gh), Rel st a w g → ∃ b : Bool, (b = e' → xs' = []) ∧ (execOp a.eval o).run P w = .ok (.value (.bool b)) w := by
          intro a w g hr
          have hL := listOf_sound hr hl
          obtain ⟨base, len, cap, hv, hnil⟩ : ∃ base len cap, a.eval x = .slice base len cap ∧ (base = none → xs' = []) := by
            rcases hL with ⟨rfl, b0, cap, hv⟩ | ⟨kb, off, cap, c, T0, fz, us, hv, -⟩
            · exact ⟨b0, 0, cap, hv, fun _ => rfl⟩
            · exact ⟨_, _, cap, hv, by simp⟩
          have hy : a.eval (.const (.slice none 0 0)) = .slice none 0 0 := rfl
          have hEq : (Op.equal T (.slice base len cap) (.slice none 0 0)).run P w = .ok base.isNone w := by
            simp [Op.equal, Op.maxDepth, Lib.run_equalIn_slice_nil w 9999 T eT base len cap 0 0 hT]
          cases op <;> simp only [eqOp, reduceCtorEq, Option.some.injEq] at hop1
          · subst hop1
            refine ⟨base.isNone, fun hb => hnil (by cases base <;> simp_all), ?_⟩
            unfold execOp; rw [hop]
            have e1 : eqGuard .eql T x (.const (.slice none 0 0)) (.slice base len cap) (.slice none 0 0) = pure () := rfl
            have e2 : binOp .eql T (.slice base len cap) (.slice none 0 0) = (do pure (.bool (← Op.equal T (.slice base len cap) (.slice none 0 0))) : Sem Value) := rfl
            simp only [hv, hy, e1, e2, hEq, Sem.run_bind, Sem.run_pure, Result.andThen_ok]
          · subst hop1
            refine ⟨!base.isNone, fun hb => hnil (by cases base <;> simp_all), ?_⟩
            unfold execOp; rw [hop]
            have e1 : eqGuard .neq T x (.const (.slice none 0 0)) (.slice base len cap) (.slice none 0 0) = pure () := rfl
            have e2 : binOp .neq T (.slice base len cap) (.slice none 0 0) = (do pure (.bool (!(← Op.equal T (.slice base len cap) (.slice none 0 0)))) : Sem Value) := rfl
            simp only [hv, hy, e1, e2, hEq, Sem.run_bind, Sem.run_pure, Result.andThen_ok]
        unfold OWk OW at hn ⊢
        rw [drop_cons g1]
        intro a w g hr Qc hq
        obtain ⟨b, hb, hrun⟩ := key a w g hr
        unfold wpList
        rw [wantS_sound hr g2, if_pos rfl]
        refine .inl ?_
        unfold Oper.wp
        rw [hrun, Oper.upon_value]
        exact hn b hb _ w g ((hr.putLight o.dst (v := .bool b) (s := .d (.bool b)) .bool).keepR (keepR_of_pick (hst b))) Qc hq
      · cases h
    · cases h
  · cases h
end
end Go.Sh
namespace Go.Sh
theorem ev_ne {a : Act} {d t : Nat} {v : Value} (h : d ≠ t) : (a.put (some d) v).eval (.tmp t) = a.eval (.tmp t) := eval_put_other (fun e => h (by injection e with e; exact e.symm))
theorem ev_eq {a : Act} {d : Nat} {v : Value} (h : d < a.tmps.size) : (a.put (some d) v).eval (.tmp d) = v := valOf_put_same h
theorem put_sz {a : Act} {d : Option Tmp} {v : Value} : (a.put d v).tmps.size = a.tmps.size := put_size
section
variable {P : Program} {pu : Bool} {st : St} {ops : Array Oper}
def isOp (o : Oper) (d : Option Tmp) (op : Op) : Prop := o.dst = d ∧ o.op = op ∧ o.guard = none
theorem still_val {o : Oper} {rest : List Oper} {a : Act} {w : World} {v : Value} {Q : Act → Prop} {d : Option Tmp} {op : Op} (ho : isOp o d op) (hrun : ∀ ty, (execOp a.eval { o with op := op, type := ty }).run P w = .ok (.value v) w) (h : wpStill P ops w Q rest (a.put d v)) :
    wpStill P ops w Q (o :: rest) a := by
  obtain ⟨h1, h2, h3⟩ := ho
  unfold wpStill
  rw [show Region.wanted o (yielded ops a.tmps) = true by unfold Region.wanted; rw [h3], if_pos rfl]
  unfold Oper.still
  have := hrun o.type
  subst h2
  rw [this, Oper.stillUpon_value, h1]
  exact h
theorem list_val {o : Oper} {rest : List Oper} {a : Act} {w w' : World} {v : Value} {Q : Exit → Act → World → Prop} {d : Option Tmp} {op : Op} (ho : isOp o d op) (hrun : ∀ ty, (execOp a.eval { o with op := op, type := ty }).run P w = .ok (.value v) w') (h : wpList P ops Q rest (a.put d v) w') :
    wpList P ops Q (o :: rest) a w := by
  obtain ⟨h1, h2, h3⟩ := ho
  have := hrun o.type
  subst h2
  subst h1
  exact wpList_val h3 this h
theorem x_move {a : Act} {w : World} {o : Oper} {x : Operand} {ty : TypeId} : (execOp a.eval { o with op := .move x, type := ty }).run P w = .ok (.value (a.eval x)) w := rfl
theorem x_assign {a : Act} {w : World} {o : Oper} {x : Operand} {ty : TypeId} : (execOp a.eval { o with op := .assign x, type := ty }).run P w = .ok (.value (a.eval x)) w := rfl
theorem addr_add0 (k off : Nat) : (⟨k, off, none⟩ : Addr).add 0 = ⟨k, off, none⟩ := by simp [Addr.add_lit]
theorem run_sliceHi {T e : TypeId} (hu : P.underlying T = some (.slice e)) (hz : P.cellsOf e ≠ 0) {k off len cap : Nat} {i : Int} {ik : IntKind} (h0 : 0 ≤ i) (h1 : i ≤ cap) (w : World) :
    (Instr.sliceAt T (.slice (some ⟨k, off, none⟩) len cap) none (some (.int ik i)) none).run P w = .ok (.slice (some ⟨k, off, none⟩) i.toNat cap) w := by
  simp [Instr.sliceAt, Instr.slice, Instr.sliceBounds, Instr.sliceBound, asIntOf, run_underlying hu, h0, h1, sizeOf_ne hz, addr_add0]
theorem run_sliceLo {T e : TypeId} (hu : P.underlying T = some (.slice e)) (hz : P.cellsOf e ≠ 0) {k off len cap : Nat} {i : Int} {ik : IntKind} (h0 : 0 ≤ i) (h1 : i ≤ len) (w : World) :
    (Instr.sliceAt T (.slice (some ⟨k, off, none⟩) len cap) (some (.int ik i)) none none).run P w = .ok (.slice (some ⟨k, if cap = i.toNat then off else off + i.toNat * P.cellsOf e, none⟩) (len - i.toNat) (cap - i.toNat)) w := by
  simp [Instr.sliceAt, Instr.slice, Instr.sliceBounds, Instr.sliceBound, asIntOf, run_underlying hu, h0, h1, sizeOf_ne hz, Addr.add_lit]
  split <;> rfl
theorem RFlat.take {g : Gh} {w : World} {a : Array Value} {n : Nat} {xs : List D} (h : RFlat g w a n xs) {i : Nat} (hi : i ≤ xs.length) : RFlat g w (a.extract 0 (i * n)) n (xs.take i) := by
  obtain ⟨h1, h2, h3⟩ := h
  have hin : i * n ≤ xs.length * n := Nat.mul_le_mul_right _ hi
  refine ⟨by simp [h1, Nat.min_eq_left hi, Nat.min_eq_left hin], fun p x hx => ?_, fun p x hx q y hy => ?_⟩
  · rw [List.getElem?_take] at hx
    split at hx
    · exact h2 p x hx
    · cases hx
  · rw [List.getElem?_take] at hx
    split at hx
    · rename_i hp
      obtain ⟨u, u1, u2⟩ := h3 p x hx q y hy
      have hq : q < n := by rw [← h2 p x hx]; exact get_lt hy
      have : (p + 1) * n ≤ i * n := Nat.mul_le_mul_right _ hp
      rw [Nat.succ_mul] at this
      refine ⟨u, ?_, u2⟩
      rw [Array.getElem?_extract, if_pos (by rw [h1]; omega), Nat.zero_add]
      exact u1
    · cases hx
theorem RFlat.drop {g : Gh} {w : World} {a : Array Value} {n : Nat} {xs : List D} (h : RFlat g w a n xs) {i : Nat} (hi : i ≤ xs.length) : RFlat g w (a.extract (i * n) (xs.length * n)) n (xs.drop i) := by
  obtain ⟨h1, h2, h3⟩ := h
  have hin : i * n ≤ xs.length * n := Nat.mul_le_mul_right _ hi
  refine ⟨by simp [h1, Nat.sub_mul], fun p x hx => ?_, fun p x hx q y hy => ?_⟩
  · rw [List.getElem?_drop] at hx
    exact h2 _ x hx
  · rw [List.getElem?_drop] at hx
    obtain ⟨u, u1, u2⟩ := h3 _ x hx q y hy
    have hq : q < n := by rw [← h2 _ x hx]; exact get_lt hy
    have hlt := get_lt hx
    have : (i + p + 1) * n ≤ xs.length * n := Nat.mul_le_mul_right _ hlt
    rw [Nat.succ_mul, Nat.add_mul] at this
    refine ⟨u, ?_, u2⟩
    rw [Array.getElem?_extract, if_pos (by rw [h1]; omega)]
    rw [Nat.add_mul, Nat.add_assoc] at u1
    exact u1
theorem ROwn.win {g g' : Gh} {w w' : World} {o : Loc} {flat c : Array Value} {n cap k off : Nat} {ys : List D} {T : TypeId} (hfl : RFlat g w flat n ys) (hb : w'.heap[k]? = some (.cells c T (0, 0))) (ho : g'.ow k = .lst o)
    (hcap : ys.length ≤ cap) (hsz : off + cap * n ≤ c.size) (hw : ∀ q, q < ys.length * n → c[off + q]? = flat[q]?) (hk : Keep .free g w g' w') (hρ : KeepR g g') : ROwn g' w' o (.slice (some ⟨k, off, none⟩) ys.length cap) n ys := by
  obtain ⟨h1, h2, h3⟩ := hfl
  refine .inr ⟨k, off, cap, c, T, fun i j => flat.getD (i * n + j) undef, rfl, ho, hb, hcap, hsz, h2, fun i x hx j y hy => ?_, fun i x hx j y hy => ?_⟩
  · obtain ⟨u, u1, u2, u3⟩ := h3 i x hx j y hy
    have hg : flat.getD (i * n + j) undef = u := by simp [Array.getD_eq_getD_getElem?, u1]
    have hj : j < n := by rw [← h2 i x hx]; exact get_lt hy
    have := get_lt hx
    have : (i + 1) * n ≤ ys.length * n := Nat.mul_le_mul_right _ this
    rw [Nat.succ_mul] at this
    simp only [hg]
    refine ⟨?_, u3⟩
    rw [Nat.add_assoc, hw _ (by omega), u1]
  · obtain ⟨u, u1, u2, u3⟩ := h3 i x hx j y hy
    have hg : flat.getD (i * n + j) undef = u := by simp [Array.getD_eq_getD_getElem?, u1]
    simp only [hg]
    exact u2.keep hk hρ
theorem ROwn.flatC {g : Gh} {w : World} {o : Loc} {n : Nat} {xs : List D} {k off len cap : Nat} {c : Array Value} {T : TypeId} {us : Nat → Nat → Value} (hn : 0 < n) (hl : len = xs.length) (hcap : xs.length ≤ cap) (hsz : off + cap * n ≤ c.size)
    (hw : ∀ (i : Nat) (x : D), xs[i]? = some x → x.cells.length = n) (hcc : ∀ (i : Nat) (x : D), xs[i]? = some x → ∀ (j : Nat) (y : D), x.cells[j]? = some y → c[off + i * n + j]? = some (us i j) ∧ (us i j).oneCell' = true)
    (hrr : ∀ (i : Nat) (x : D), xs[i]? = some x → ∀ (j : Nat) (y : D), x.cells[j]? = some y → Rd g w (us i j) y) : RFlat g w (c.extract off (off + xs.length * n)) n xs := by
  have hs : off + xs.length * n ≤ c.size := by
    have : xs.length * n ≤ cap * n := Nat.mul_le_mul_right _ hcap
    omega
  refine ⟨by simp [Nat.min_eq_left hs], hw, fun i x hx j y hy => ⟨us i j, ?_, hrr i x hx j y hy, (hcc i x hx j y hy).2⟩⟩
  have hj : j < n := by rw [← hw i x hx]; exact get_lt hy
  have := get_lt hx
  have : (i + 1) * n ≤ xs.length * n := Nat.mul_le_mul_right _ this
  rw [Nat.succ_mul] at this
  rw [Array.getElem?_extract, if_pos (by omega), ← Nat.add_assoc]
  exact (hcc i x hx j y hy).1
end
end Go.Sh
namespace Go.Sh
section
variable {P : Program} {pu : Bool} {st : St} {ops : Array Oper}
theorem x_add {a : Act} {w : World} {o : Oper} {I I2 ty : TypeId} {x y : Operand} {p q : Int} (hx : a.eval x = .int .i64 p) (hy : a.eval y = .int .i64 q) (h : -9223372036854775808 ≤ p + q ∧ p + q ≤ 9223372036854775807) :
    (execOp a.eval { o with op := .binOp .add I x y I2, type := ty }).run P w = .ok (.value (.int .i64 (p + q))) w := by
  have : (do eqGuard .add I x y (.int .i64 p) (.int .i64 q); binOp .add I (.int .i64 p) (.int .i64 q) : Sem Value).run P w = .ok (.int .i64 (IntKind.wrap .i64 (p + q))) w := rfl
  rw [IntWalk.i64_in _ h] at this
  unfold execOp
  simp only [hx, hy]
  simp only [Sem.run_bind] at this ⊢
  rw [this]
  rfl
theorem x_sub {a : Act} {w : World} {o : Oper} {I I2 ty : TypeId} {x y : Operand} {p q : Int} (hx : a.eval x = .int .i64 p) (hy : a.eval y = .int .i64 q) (h : -9223372036854775808 ≤ p - q ∧ p - q ≤ 9223372036854775807) :
    (execOp a.eval { o with op := .binOp .sub I x y I2, type := ty }).run P w = .ok (.value (.int .i64 (p - q))) w := by
  have : (do eqGuard .sub I x y (.int .i64 p) (.int .i64 q); binOp .sub I (.int .i64 p) (.int .i64 q) : Sem Value).run P w = .ok (.int .i64 (IntKind.wrap .i64 (p - q))) w := rfl
  rw [IntWalk.i64_in _ h] at this
  unfold execOp
  simp only [hx, hy]
  simp only [Sem.run_bind] at this ⊢
  rw [this]
  rfl
theorem x_gtr {a : Act} {w : World} {o : Oper} {I I2 ty : TypeId} {x y : Operand} {p q : Int} (hx : a.eval x = .int .i64 p) (hy : a.eval y = .int .i64 q) :
    (execOp a.eval { o with op := .binOp .gtr I x y I2, type := ty }).run P w = .ok (.value (.bool (decide (p > q)))) w := by
  have : (do eqGuard .gtr I x y (.int .i64 p) (.int .i64 q); binOp .gtr I (.int .i64 p) (.int .i64 q) : Sem Value).run P w = .ok (.bool (decide (p > q))) w := rfl
  unfold execOp
  simp only [hx, hy]
  simp only [Sem.run_bind] at this ⊢
  rw [this]
  rfl
theorem x_not {a : Act} {w : World} {o : Oper} {I ty : TypeId} {x : Operand} {b : Bool} (hx : a.eval x = .bool b) :
    (execOp a.eval { o with op := .unOp .not I x, type := ty }).run P w = .ok (.value (.bool !b)) w := by
  unfold execOp
  simp only [hx]
  rfl
theorem x_cap {a : Act} {w : World} {o : Oper} {T e ty : TypeId} {x : Operand} {b : Option Addr} {n c : Nat} (hu : P.underlying T = some (.slice e)) (hx : a.eval x = .slice b n c) :
    (execOp a.eval { o with op := .call ⟨.builtin .cap, #[x], #[T]⟩, type := ty }).run P w = .ok (.value (goInt c)) w := by
  unfold execOp
  simp only [resolve, List.map_toArray, List.map_cons, List.map_nil, Sem.run_bind, Sem.run_pure, Result.andThen_ok, invoke, builtin, hx]
  simp [Builtin.cap_, run_underlying hu]
theorem x_sliceHi {a : Act} {w : World} {o : Oper} {T e ty : TypeId} {x y : Operand} (hu : P.underlying T = some (.slice e)) (hz : P.cellsOf e ≠ 0) {k off len cap : Nat} {i : Int} (hx : a.eval x = .slice (some ⟨k, off, none⟩) len cap) (hy : a.eval y = .int .i64 i) (h0 : 0 ≤ i) (h1 : i ≤ cap) :
    (execOp a.eval { o with op := .slice T x none (some y) none, type := ty }).run P w = .ok (.value (.slice (some ⟨k, off, none⟩) i.toNat cap)) w := by
  show (do pure (.value (← Instr.sliceAt T (a.eval x) none (some (a.eval y)) none)) : Sem Next).run P w = _
  simp only [Sem.run_bind]
  rw [hx, hy, run_sliceHi hu hz h0 h1]
  rfl
theorem x_sliceLo {a : Act} {w : World} {o : Oper} {T e ty : TypeId} {x y : Operand} (hu : P.underlying T = some (.slice e)) (hz : P.cellsOf e ≠ 0) {k off len cap : Nat} {i : Int} (hx : a.eval x = .slice (some ⟨k, off, none⟩) len cap) (hy : a.eval y = .int .i64 i) (h0 : 0 ≤ i) (h1 : i ≤ len) :
    (execOp a.eval { o with op := .slice T x (some y) none none, type := ty }).run P w = .ok (.value (.slice (some ⟨k, if cap = i.toNat then off else off + i.toNat * P.cellsOf e, none⟩) (len - i.toNat) (cap - i.toNat))) w := by
  show (do pure (.value (← Instr.sliceAt T (a.eval x) (some (a.eval y)) none none)) : Sem Next).run P w = _
  simp only [Sem.run_bind]
  rw [hx, hy, run_sliceLo hu hz h0 h1]
  rfl
theorem x_copy {a : Act} {w w' : World} {o : Oper} {T T2 e ty : TypeId} {x y : Operand} {k off dl dc m n : Nat} {cs : Array Value} (hu : P.underlying T = some (.slice e)) (hz : P.cellsOf e = n) (hn : n ≠ 0) (hx : a.eval x = .slice (some ⟨k, off, none⟩) dl dc)
    (hl : (Builtin.lenOf (a.eval y)).run P w = .ok m w) (hc : (Builtin.firstCells n (Nat.min m dl) (a.eval y)).run P w = .ok cs w) (hs : (storeCells ⟨k, off, none⟩ cs.toList).run P w = .ok () w') :
    (execOp a.eval { o with op := .call ⟨.builtin .copy, #[x, y], #[T, T2]⟩, type := ty }).run P w = .ok (.value (goInt (Nat.min m dl))) w' := by
  subst hz
  unfold execOp
  simp only [resolve, List.map_toArray, List.map_cons, List.map_nil, Sem.run_bind, Sem.run_pure, Result.andThen_ok, invoke, builtin, hx]
  simp [Builtin.copy_, run_underlying hu, hl, sizeOf_ne hn, hc, hs]
theorem x_callF {a : Act} {w : World} {o : Oper} {f ty : Nat} {x y : Operand} {ts : Array TypeId} : (execOp a.eval { o with op := .call ⟨.value (.func f), #[x, y], ts⟩, type := ty }).run P w = (callFunc f #[a.eval x, a.eval y]).run P w := by
  unfold execOp
  simp only [resolve, Deferred.ofValue, List.map_toArray, List.map_cons, List.map_nil, Sem.run_bind, Sem.run_pure, Result.andThen_ok, invoke]
  rfl
theorem run_overlaps {T e : TypeId} {ps rs : Array TypeId} (hp : ps[0]? = some T) (hu : P.underlying T = some (.slice e)) (hz : P.cellsOf e ≠ 0) {kv ov m cv k o2 lb cb : Nat} {av c : Array Value} {Tv T0 : TypeId} {fz : Nat × Nat} {w : World} (hv : w.heap[kv]? = some (.cells av Tv fz))
    (hb : w.heap[k]? = some (.cells c T0 (0, 0))) (hne : kv ≠ k) (hm : 0 < m) (hl : 0 < lb) (hav : 0 < av.size) :
    (Extern.SlicesOverlaps.overlaps ps rs #[.slice (some ⟨kv, ov, none⟩) m cv, .slice (some ⟨k, o2, none⟩) lb cb]).run P w = .ok (.bool false) w := by
  have f2 : ∀ q, w.frozen? ⟨k, q, none⟩ = false := fun q => by simp [World.frozen?, hb]
  have s1 : w.shape? kv = some (Tv, av.size) := by simp [World.shape?, hv]
  have s2 : w.shape? k = some (T0, c.size) := by simp [World.shape?, hb]
  have hne' : (kv == k) = false := by simpa using hne
  have hm0 : m ≠ 0 := by omega
  have hl0 : lb ≠ 0 := by omega
  have ha0 : av.size ≠ 0 := by omega
  have hsz : (sizeOf e).run P w = .ok (P.cellsOf e) w := sizeOf_ne hz w
  have hvw : ∀ q, (noView ⟨kv, q, none⟩).run P w = .ok () w := fun q => by simp [noView, viewAt, shape, Sem.run_bind, Sem.run, s1]
  have hbw : ∀ q, (noView ⟨k, q, none⟩).run P w = .ok () w := fun q => by simp [noView, viewAt, shape, Sem.run_bind, Sem.run, s2]
  have hst : ∀ q, ∃ b, (stringish ⟨kv, q, none⟩).run P w = .ok b w := fun q => by
    cases hf : w.frozen? ⟨kv, q, none⟩
    · exact ⟨w.frozen? ⟨kv, av.size, none⟩, by simp [stringish, frozen, shape, Sem.run_bind, Sem.run, s1, hf]⟩
    · exact ⟨true, by simp [stringish, frozen, shape, Sem.run_bind, Sem.run, s1, hf]⟩
  have hst2 : ∀ q, (stringish ⟨k, q, none⟩).run P w = .ok false w := fun q => by
    simp [stringish, frozen, shape, Sem.run_bind, Sem.run, s2, f2]
  obtain ⟨bs, hbs⟩ := hst ov
  have hmb : (mayBeOne ⟨kv, ov, none⟩ ⟨k, o2, none⟩).run P w = .ok false w := by
    simp [mayBeOne, shape, Sem.run_bind, Sem.run, hbs, hst2, s1, s2]
    intro _
    obtain ⟨p, hp⟩ : ∃ p, av.size = p + 1 := ⟨av.size - 1, by omega⟩
    rw [hp]
    rfl
  have hbody : Extern.SlicesOverlaps.overlaps ps rs #[.slice (some ⟨kv, ov, none⟩) m cv, .slice (some ⟨k, o2, none⟩) lb cb] = (do
      let some t := ps[0]? | stuck "slices.overlaps: no parameter types"
      let .slice elem ← underlying t | stuck "slices.overlaps: slice type expected"
      let size ← sizeOf elem
      if m = 0 ∨ lb = 0 ∨ size = 0 then pure (.bool false)
      else if kv != k && (← frozen ⟨kv, ov, none⟩) && (← frozen ⟨k, o2, none⟩) then unsupported .addressObserved
      else do
        if kv != k then do
          noView ⟨kv, ov, none⟩; noView ⟨k, o2, none⟩
          if ← mayBeOne ⟨kv, ov, none⟩ ⟨k, o2, none⟩ then return .bool ((← choose (.extern "sameAddr.stringBytes" 2)) == 1)
        pure (.bool (kv == k && ov < o2 + lb * size && o2 < ov + m * size))) := rfl
  rw [hbody]
  simp [hp, run_underlying hu, hsz, hm0, hl0, hz, hne', frozen, Sem.run, f2, hvw, hbw, hmb]
theorem x_appendMake {a : Act} {w : World} {T I e : TypeId} {x y : Operand} {ti : TypeInfo} {z : Value} {base : Option Addr} {sLen sCap m : Nat} {olds : Array Value} {ik : IntKind} (hx : a.eval x = .slice base sLen sCap) (hy : a.eval y = .int .i64 m)
    (ht : P.underlying T = some (.slice e)) (hI : P.underlying I = some (.int ik)) (hi : P.info? e = some ti) (hz : ti.zero = some z) (hn : ti.size ≠ 0)
    (hold : (Builtin.firstCells ti.size sLen (.slice base sLen sCap)).run P w.drew = .ok olds w.drew) (hm : 0 < m) (hc : sCap < sLen + m) (h63 : sLen + m ≤ maxLen) (hb : (sLen + m) * ti.bytes ≤ 140737488355328) :
    ∃ gc, sLen + m ≤ gc ∧ ∀ (o : Oper) (ty : TypeId), (execOp a.eval { o with op := .call ⟨.builtin .append, #[x, y], #[T, I]⟩, type := ty }).run P w = .ok (.value (.slice (some ⟨w.heap.size, 0, none⟩) (sLen + m) gc))
      (w.drew.alloc (.cells (olds ++ Builtin.zeroCells z.cells m ++ Builtin.zeroCells z.cells (gc - (sLen + m))) e)) := by
  refine ⟨grownCap w (sLen + m) sCap e, grownCap_ge w (sLen + m) sCap e, fun o ty => ?_⟩
  have h63' : ¬ ((9223372036854775807 : Int) < (sLen : Int) + (m : Int)) := by unfold maxLen at h63; omega
  have h64 : IntKind.i64.wrap (m : Int) = m := IntWalk.i64_in _ (by unfold maxLen at h63; omega)
  have hnr : ¬ (sLen + m ≤ sCap) := by omega
  have h48 : ¬ (281474976710656 < Builtin.nextslicecap (sLen + m) sCap * ti.bytes) := by have := growslice_fits hc hb; omega
  have hmb : ¬ ((281474976710656 : Int) < (m : Int) * (ti.bytes : Int)) := by
    have h1 : m * ti.bytes ≤ (sLen + m) * ti.bytes := Nat.mul_le_mul_right _ (by omega)
    have h2 : (m : Int) * (ti.bytes : Int) = ((m * ti.bytes : Nat) : Int) := by rw [Int.natCast_mul]
    rw [h2]; omega
  have hmz : ¬ (m * ti.size = 0) := Nat.mul_ne_zero (by omega) hn
  have hm0 : ¬ m = 0 := by omega
  refine run_append_call (x := x) (y := y) rfl rfl rfl rfl ?_
  rw [hx, hy]
  simp [Builtin.append_, run_underlying ht, run_underlying hI, sizeOf, typeInfo, zeroValue, hi, hz, asInt, asIntOf, h64, hmb, hnr, h63', h48, hmz, hm0, hn, Question.forced, hold, newRow, grownCap]
  intro h
  omega
end
end Go.Sh
set_option maxRecDepth 10000
set_option maxHeartbeats 2000000
namespace Go.Sh
theorem sp_one {n t : Nat} {s x : SV} {H : List SObj} (h : (sp n [(6, x)] H).tmps[t]? = some s) : s = .undef ∨ (t = 6 ∧ s = x) := by
  have key : ∀ (n t0 : Nat) (t : Nat) (s : SV), (spL [(6, x)] n t0)[t]? = some s → s = .undef ∨ (t + t0 = 6 ∧ s = x) := by
    intro n
    induction n with
    | zero => intro t0 t s h; simp [spL] at h
    | succ n ih =>
      intro t0 t s h
      simp only [spL] at h
      split at h
      · rename_i e
        cases t with
        | zero => simp at h; exact .inr ⟨by omega, h.symm⟩
        | succ t =>
          simp only [List.getElem?_cons_succ] at h
          refine .inl ?_
          have e2 : ∀ (n t0 t : Nat) (s : SV), (spL [] n t0)[t]? = some s → s = .undef := by
            intro n
            induction n with
            | zero => intro t0 t s h; simp [spL] at h
            | succ n ih => intro t0 t s h; cases t with
              | zero => simp [spL] at h; exact h.symm
              | succ t => simp only [spL, List.getElem?_cons_succ] at h; exact ih _ _ _ h
          exact e2 _ _ _ _ h
      · cases t with
        | zero => simp at h; exact .inl h.symm
        | succ t =>
          simp only [List.getElem?_cons_succ] at h
          rcases ih (t0 + 1) t s h with e | ⟨e1, e2⟩
          · exact .inl e
          · exact .inr ⟨by omega, e2⟩
  rcases key n 0 t s h with e | ⟨e1, e2⟩
  · exact .inl e
  · exact .inr ⟨by omega, e2⟩
theorem x_copy' {P : Program} {a : Act} {w w' : World} {o : Oper} {T T2 e ty : TypeId} {x y : Operand} {k off dl dc m n cnt : Nat} {cs : Array Value} (hu : P.underlying T = some (.slice e)) (hz : P.cellsOf e = n) (hn : n ≠ 0) (hx : a.eval x = .slice (some ⟨k, off, none⟩) dl dc)
    (hl : (Builtin.lenOf (a.eval y)).run P w = .ok m w) (hcnt : Nat.min m dl = cnt) (hc : (Builtin.firstCells n cnt (a.eval y)).run P w = .ok cs w) (hs : (storeCells ⟨k, off, none⟩ cs.toList).run P w = .ok () w') :
    (execOp a.eval { o with op := .call ⟨.builtin .copy, #[x, y], #[T, T2]⟩, type := ty }).run P w = .ok (.value (goInt cnt)) w' := by
  subst hcnt
  exact x_copy hu hz hn hx hl hc hs
theorem SW.ins {P : Program} {T I B e : TypeId} {fo : Nat} {ik : IntKind} {ti : TypeInfo} {z : Value} {zd : D} {n : Nat} {xs ys : List D} {i : Int} {H : List SObj} {Q : Exit → St → Prop} {Z : Code} {i8 i9 i10 i11 i12 i13 i14 i15 i16 i17 : Nat}
    {o8_0 o8_1 o8_2 o8_3 o8_4 o8_5 o9_0 o9_1 o9_2 o9_3 o9_4 o9_5 o9_6 o9_7 o9_8 o9_9 o10_0 o10_1 o10_2 o10_3 o10_4 o11_0 o11_1 o11_2 o11_3 o11_4 o11_5 o11_6 o11_7 o11_8 o12_0 o12_1 o13_0 o13_1 o13_2 o13_3 o13_4 o13_5 o14_0 o14_1 o14_2 o14_3 o14_4 o14_5 o14_6 o14_7 o15_0 o15_1 o15_2 o15_3 o15_4 o15_5 o15_6 o15_7 o15_8 o16_0 o16_1 o16_2 o16_3 o16_4 o17_0 o17_1 : Oper}
    (hT : P.underlying T = some (.slice e)) (hI : P.underlying I = some (.int ik)) (hi : P.info? e = some ti) (hz : ti.zero = some z) (hzd : constD z = some zd) (hzn : z.cells.size = n) (hsize : ti.size = n) (hn : 0 < n) (hby : ti.bytes ≤ 65536)
    (hov : ∀ (args : Array Value) (w : World), (callFunc fo args).run P w = ((Extern.SlicesOverlaps.overlaps #[T, T] #[B] args).run P w).andThen fun v w' => .ok (.value v) w')
    (hm : P.follows .mixedOrders = true) (hB11 : Region.lexTailB .any #[o11_0, o11_1, o11_2, o11_3, o11_4, o11_5, o11_6, o11_7, o11_8] 8 = true) (hB15 : Region.lexTailB .any #[o15_0, o15_1, o15_2, o15_3, o15_4, o15_5, o15_6, o15_7, o15_8] 8 = true)
    (h8_0 : isOp o8_0 (some 26) (.move (.tmp 8)))
    (h8_1 : isOp o8_1 (some 27) (.move (.tmp 7)))
    (h8_2 : isOp o8_2 (some 28) (.binOp .add I (.tmp 26) (.tmp 27) I))
    (h8_3 : isOp o8_3 (some 29) (.move (.tmp 0)))
    (h8_4 : isOp o8_4 (some 30) (.call ⟨.builtin .cap, #[.tmp 29], #[T]⟩))
    (h8_5 : isOp o8_5 (some 31) (.binOp .gtr I (.tmp 28) (.tmp 30) I))
    (h9_0 : isOp o9_0 (some 32) (.move (.tmp 0)))
    (h9_1 : isOp o9_1 (some 33) (.move (.tmp 1)))
    (h9_2 : isOp o9_2 (some 34) (.slice T (.tmp 32) none (some (.tmp 33)) none))
    (h9_3 : isOp o9_3 (some 35) (.move (.tmp 8)))
    (h9_4 : isOp o9_4 (some 36) (.move (.tmp 7)))
    (h9_5 : isOp o9_5 (some 37) (.binOp .add I (.tmp 35) (.tmp 36) I))
    (h9_6 : isOp o9_6 (some 38) (.move (.tmp 1)))
    (h9_7 : isOp o9_7 (some 39) (.binOp .sub I (.tmp 37) (.tmp 38) I))
    (h9_8 : isOp o9_8 (some 40) (.call ⟨.builtin .append, #[.tmp 34, .tmp 39], #[T, I]⟩))
    (h9_9 : isOp o9_9 (some 9) (.assign (.tmp 40)))
    (h10_0 : isOp o10_0 (some 41) (.move (.tmp 9)))
    (h10_1 : isOp o10_1 (some 42) (.move (.tmp 1)))
    (h10_2 : isOp o10_2 (some 43) (.slice T (.tmp 41) (some (.tmp 42)) none none))
    (h10_3 : isOp o10_3 (some 44) (.move (.tmp 2)))
    (h10_4 : isOp o10_4 (some 45) (.call ⟨.builtin .copy, #[.tmp 43, .tmp 44], #[T, T]⟩))
    (h11_0 : isOp o11_0 (some 46) (.move (.tmp 9)))
    (h11_1 : isOp o11_1 (some 47) (.move (.tmp 1)))
    (h11_2 : isOp o11_2 (some 48) (.move (.tmp 7)))
    (h11_3 : isOp o11_3 (some 49) (.binOp .add I (.tmp 47) (.tmp 48) I))
    (h11_4 : isOp o11_4 (some 50) (.slice T (.tmp 46) (some (.tmp 49)) none none))
    (h11_5 : isOp o11_5 (some 51) (.move (.tmp 0)))
    (h11_6 : isOp o11_6 (some 52) (.move (.tmp 1)))
    (h11_7 : isOp o11_7 (some 53) (.slice T (.tmp 51) (some (.tmp 52)) none none))
    (h11_8 : isOp o11_8 (some 54) (.call ⟨.builtin .copy, #[.tmp 50, .tmp 53], #[T, T]⟩))
    (h12_0 : isOp o12_0 (some 55) (.move (.tmp 9)))
    (h12_1 : isOp o12_1 (some 6) (.assign (.tmp 55)))
    (h13_0 : isOp o13_0 (some 56) (.move (.tmp 0)))
    (h13_1 : isOp o13_1 (some 57) (.move (.tmp 8)))
    (h13_2 : isOp o13_2 (some 58) (.move (.tmp 7)))
    (h13_3 : isOp o13_3 (some 59) (.binOp .add I (.tmp 57) (.tmp 58) I))
    (h13_4 : isOp o13_4 (some 60) (.slice T (.tmp 56) none (some (.tmp 59)) none))
    (h13_5 : isOp o13_5 (some 0) (.assign (.tmp 60)))
    (h14_0 : isOp o14_0 (some 61) (.move (.tmp 2)))
    (h14_1 : isOp o14_1 (some 62) (.move (.tmp 0)))
    (h14_2 : isOp o14_2 (some 63) (.move (.tmp 1)))
    (h14_3 : isOp o14_3 (some 64) (.move (.tmp 7)))
    (h14_4 : isOp o14_4 (some 65) (.binOp .add I (.tmp 63) (.tmp 64) I))
    (h14_5 : isOp o14_5 (some 66) (.slice T (.tmp 62) (some (.tmp 65)) none none))
    (h14_6 : isOp o14_6 (some 67) (.call ⟨.value (.func fo), #[.tmp 61, .tmp 66], #[T, T]⟩))
    (h14_7 : isOp o14_7 (some 68) (.unOp .not B (.tmp 67)))
    (h15_0 : isOp o15_0 (some 69) (.move (.tmp 0)))
    (h15_1 : isOp o15_1 (some 70) (.move (.tmp 1)))
    (h15_2 : isOp o15_2 (some 71) (.move (.tmp 7)))
    (h15_3 : isOp o15_3 (some 72) (.binOp .add I (.tmp 70) (.tmp 71) I))
    (h15_4 : isOp o15_4 (some 73) (.slice T (.tmp 69) (some (.tmp 72)) none none))
    (h15_5 : isOp o15_5 (some 74) (.move (.tmp 0)))
    (h15_6 : isOp o15_6 (some 75) (.move (.tmp 1)))
    (h15_7 : isOp o15_7 (some 76) (.slice T (.tmp 74) (some (.tmp 75)) none none))
    (h15_8 : isOp o15_8 (some 77) (.call ⟨.builtin .copy, #[.tmp 73, .tmp 76], #[T, T]⟩))
    (h16_0 : isOp o16_0 (some 78) (.move (.tmp 0)))
    (h16_1 : isOp o16_1 (some 79) (.move (.tmp 1)))
    (h16_2 : isOp o16_2 (some 80) (.slice T (.tmp 78) (some (.tmp 79)) none none))
    (h16_3 : isOp o16_3 (some 81) (.move (.tmp 2)))
    (h16_4 : isOp o16_4 (some 82) (.call ⟨.builtin .copy, #[.tmp 80, .tmp 81], #[T, T]⟩))
    (h17_0 : isOp o17_0 (some 83) (.move (.tmp 0)))
    (h17_1 : isOp o17_1 (some 6) (.assign (.tmp 83)))
    (hc : (decide (0 ≤ i) && decide (i < xs.length) && decide (0 < ys.length) && decide (xs.length + ys.length ≤ room)) = true)
    (hq : Q .ret (sp 95 [(6, .own n (xs.take i.toNat ++ ys ++ xs.drop i.toNat))] H)) :
    SW P true (.seq (.seq (.region i8 #[o8_0, o8_1, o8_2, o8_3, o8_4, o8_5] false) (.cond (.tmp 31) (.seq (.region i9 #[o9_0, o9_1, o9_2, o9_3, o9_4, o9_5, o9_6, o9_7, o9_8, o9_9] false) (.seq (.region i10 #[o10_0, o10_1, o10_2, o10_3, o10_4] false) (.seq (.region i11 #[o11_0, o11_1, o11_2, o11_3, o11_4, o11_5, o11_6, o11_7, o11_8] true) (.seq (.region i12 #[o12_0, o12_1] false) .ret)))) .skip)) (.seq (.region i13 #[o13_0, o13_1, o13_2, o13_3, o13_4, o13_5] false) (.seq (.seq (.region i14 #[o14_0, o14_1, o14_2, o14_3, o14_4, o14_5, o14_6, o14_7] false) (.cond (.tmp 68) (.seq (.region i15 #[o15_0, o15_1, o15_2, o15_3, o15_4, o15_5, o15_6, o15_7, o15_8] true) (.seq (.region i16 #[o16_0, o16_1, o16_2, o16_3, o16_4] false) (.seq (.region i17 #[o17_0, o17_1] false) .ret))) .skip)) Z))) (sp 95 [(0, .own n xs), (1, vI i), (2, .d (.list n ys)), (7, vI ys.length), (8, vI xs.length)] H) Q := by
  intro a w g hr
  simp only [Bool.and_eq_true, decide_eq_true_eq] at hc
  obtain ⟨⟨⟨i0, il⟩, m0⟩, hroom⟩ := hc
  obtain ⟨i, rfl⟩ : ∃ p : Nat, i = (p : Int) := ⟨i.toNat, by omega⟩
  simp only [Int.toNat_natCast] at hq
  have il : i < xs.length := by omega
  unfold room at hroom
  have hce : P.cellsOf e = n := by simp [Program.cellsOf, hi, hsize]
  have hn0 : P.cellsOf e ≠ 0 := by omega
  have hsz : a.tmps.size = 95 := by rw [hr.len]; simp [sp, spL_len]
  have g0 : ROwn g w (.slot 0) (valOf a 0) n xs := hr.tmp 0 (.own n xs) rfl
  have e1 : a.eval (.tmp 1) = .int .i64 (i : Int) := valD_leaf hr (d := .int .i64 (i : Int)) rfl rfl
  have e7 : a.eval (.tmp 7) = .int .i64 (ys.length : Int) := valD_leaf hr (d := .int .i64 (ys.length : Int)) rfl rfl
  have e8 : a.eval (.tmp 8) = .int .i64 (xs.length : Int) := valD_leaf hr (d := .int .i64 (xs.length : Int)) rfl rfl
  rcases g0 with ⟨rfl, -⟩ | ⟨k, off, cap, c, T0, us, hv, hk, hb, hl, hzz, hw, hcc, hrr⟩
  · simp at il
  have e0 : a.eval (.tmp 0) = .slice (some ⟨k, off, none⟩) xs.length cap := hv
  rcases (hr.tmp 2 (.d (.list n ys)) rfl : Rd g w (valOf a 2) (.list n ys)).toList with ⟨rfl, -⟩ | ⟨kv, ov, cv, av, Tv, fz, uv, hv2, hk2, hb2, hl2, hw2, hcc2, hrr2⟩
  · simp at m0
  have e2 : a.eval (.tmp 2) = .slice (some ⟨kv, ov, none⟩) ys.length cv := hv2
  have hkv : g.ow kv = .free := okL_free.1 hk2
  have hne : kv ≠ k := by rintro rfl; rw [hk] at hkv; cases hkv
  have hdef := hr.def0
  have flx := ROwn.flatC (g := g) (w := w) (k := k) (T := T0) (o := .slot 0) hn rfl hl hzz hw hcc hrr
  have hav : ov + ys.length * n ≤ av.size := by
    have hx : ys[ys.length - 1]? = some ys[ys.length - 1] := by simp [m0]
    have hcl := hw2 _ _ hx
    obtain ⟨h1, -⟩ := hcc2 _ _ hx (n - 1) (ys[ys.length - 1].cells[n - 1]'(by omega)) (by simp)
    have := arr_lt h1
    have h2 : ys.length * n = (ys.length - 1) * n + n := by
      obtain ⟨m, hm⟩ : ∃ m, ys.length = m + 1 := ⟨ys.length - 1, by omega⟩
      rw [hm, Nat.add_sub_cancel, Nat.succ_mul]
    omega
  have fly : RFlat g w (av.extract ov (ov + ys.length * n)) n ys := by
    refine ⟨by simp [Nat.min_eq_left hav], hw2, fun p x hx j y hy => ⟨uv p j, ?_, hrr2 p x hx j y hy, (hcc2 p x hx j y hy).2⟩⟩
    have hj : j < n := by rw [← hw2 p x hx]; exact get_lt hy
    have := get_lt hx
    have : (p + 1) * n ≤ ys.length * n := Nat.mul_le_mul_right _ this
    rw [Nat.succ_mul] at this
    rw [Array.getElem?_extract, if_pos (by omega), ← Nat.add_assoc]
    exact (hcc2 p x hx j y hy).1
  have hin : i * n + (xs.length - i) * n = xs.length * n := by rw [← Nat.add_mul]; congr 1; omega
  have hcapn : xs.length * n ≤ cap * n := Nat.mul_le_mul_right _ hl
  have hmn : 0 < ys.length * n := Nat.mul_pos m0 hn
  let zs := xs.take i ++ ys ++ xs.drop i
  have hzl : zs.length = xs.length + ys.length := by simp [zs]; omega
  have flz : RFlat g w ((c.extract off (off + xs.length * n)).extract 0 (i * n) ++ av.extract ov (ov + ys.length * n) ++ (c.extract off (off + xs.length * n)).extract (i * n) (xs.length * n)) n zs := ((flx.take (by omega)).append fly).append (flx.drop (by omega))
  have hf1 : ((c.extract off (off + xs.length * n)).extract 0 (i * n)).size = i * n := by rw [(flx.take (i := i) (by omega)).1, List.length_take, Nat.min_eq_left (by omega)]
  have hf2 : (av.extract ov (ov + ys.length * n)).size = ys.length * n := fly.1
  have hflat : ∀ q, q < zs.length * n → ((c.extract off (off + xs.length * n)).extract 0 (i * n) ++ av.extract ov (ov + ys.length * n) ++ (c.extract off (off + xs.length * n)).extract (i * n) (xs.length * n))[q]? = if q < i * n then c[off + q]? else if q < i * n + ys.length * n then av[ov + (q - i * n)]? else c[off + (q - ys.length * n)]? := fun q hq => by
    rw [hzl, Nat.add_mul] at hq
    have hszF := flx.1
    split
    · rw [Array.append_assoc, Array.getElem?_append_left (by omega), Array.getElem?_extract, if_pos (by omega), Array.getElem?_extract, if_pos (by omega)]
      congr 1; omega
    · split
      · rw [Array.append_assoc, Array.getElem?_append_right (by omega), hf1, Array.getElem?_append_left (by omega), Array.getElem?_extract, if_pos (by omega)]
      · rw [Array.append_assoc, Array.getElem?_append_right (by omega), hf1, Array.getElem?_append_right (by omega), hf2, Array.getElem?_extract, if_pos (by omega), Array.getElem?_extract, if_pos (by omega)]
        congr 1; omega
  have fin : ∀ (a' : Act) (w' : World) (g' : Gh) (v : Value), a'.tmps.size = 95 → a'.defers = [] → a'.eval (.tmp 6) = v → ROwn g' w' (.slot 6) v n zs → (∀ o, o ≠ .lst (.slot 0) → Keep o g w g' w') → g'.ρ = g.ρ → w.heap.size ≤ w'.heap.size → SameOs w w' → ∃ st' g', Q .ret st' ∧ Rel st' a' w' g' ∧ Fr true g w g' w' := fun a' w' g' v h1 h2 h3 h4 h5 h6 h7 h8 => by
    refine ⟨_, g', hq, ⟨by rw [h1]; simp [sp, spL_len], h2, fun t s hs => ?_, ?_⟩, Fr.keepBut (l := .slot 0) (by simp) h7 h5 h6 h8⟩
    · rcases sp_one hs with rfl | ⟨rfl, rfl⟩
      · trivial
      · show ROwn g' w' (.slot 6) (a'.eval (.tmp 6)) n zs
        rw [h3]; exact h4
    · exact hr.hp.keep (fun o ho => h5 o fun e => by subst e; exact ho.elim) (fun _ _ h => by rw [h6]; exact h) (by rw [h6])
  refine wp_seq (wp_seq (wp_region_lit (l := [o8_0, o8_1, o8_2, o8_3, o8_4, o8_5]) ?_))
  refine list_val h8_0 (w' := w) (v := .int .i64 (xs.length : Int)) (fun _ => by rw [x_move]; simp [ev_ne, ev_eq, put_sz, hsz, e0, e1, e2, e7, e8]) ?_
  refine list_val h8_1 (w' := w) (v := .int .i64 (ys.length : Int)) (fun _ => by rw [x_move]; simp [ev_ne, ev_eq, put_sz, hsz, e0, e1, e2, e7, e8]) ?_
  refine list_val h8_2 (w' := w) (v := .int .i64 ((xs.length : Int) + (ys.length : Int))) (fun _ => x_add (by simp [ev_ne, ev_eq, put_sz, hsz, e0, e1, e2, e7, e8]) (by simp [ev_ne, ev_eq, put_sz, hsz, e0, e1, e2, e7, e8]) (by constructor <;> omega)) ?_
  refine list_val h8_3 (w' := w) (v := .slice (some ⟨k, off, none⟩) (xs.length) (cap)) (fun _ => by rw [x_move]; simp [ev_ne, ev_eq, put_sz, hsz, e0, e1, e2, e7, e8]) ?_
  refine list_val h8_4 (w' := w) (v := goInt cap) (fun _ => x_cap (b := some ⟨k, off, none⟩) (n := xs.length) hT (by simp [ev_ne, ev_eq, put_sz, hsz, e0, e1, e2, e7, e8])) ?_
  refine list_val h8_5 (w' := w) (v := .bool (decide ((xs.length : Int) + (ys.length : Int) > (cap : Int)))) (fun _ => x_gtr (by simp [ev_ne, ev_eq, put_sz, hsz, e0, e1, e2, e7, e8]) (by simp [ev_ne, ev_eq, put_sz, hsz]; rfl)) ?_
  generalize hA : (((((a.put (some 26) (.int .i64 (xs.length : Int))).put (some 27) (.int .i64 (ys.length : Int))).put (some 28) (.int .i64 ((xs.length : Int) + (ys.length : Int)))).put (some 29) (.slice (some ⟨k, off, none⟩) (xs.length) (cap))).put (some 30) (goInt cap)).put (some 31) (.bool (decide ((xs.length : Int) + (ys.length : Int) > (cap : Int)))) = b
  have e0' : b.eval (.tmp 0) = .slice (some ⟨k, off, none⟩) (xs.length) (cap) := by subst hA; simp [ev_ne, ev_eq, put_sz, hsz, e0, e1, e2, e7, e8]
  have e1' : b.eval (.tmp 1) = .int .i64 (i : Int) := by subst hA; simp [ev_ne, ev_eq, put_sz, hsz, e0, e1, e2, e7, e8]
  have e2' : b.eval (.tmp 2) = .slice (some ⟨kv, ov, none⟩) (ys.length) (cv) := by subst hA; simp [ev_ne, ev_eq, put_sz, hsz, e0, e1, e2, e7, e8]
  have e7' : b.eval (.tmp 7) = .int .i64 (ys.length : Int) := by subst hA; simp [ev_ne, ev_eq, put_sz, hsz, e0, e1, e2, e7, e8]
  have e8' : b.eval (.tmp 8) = .int .i64 (xs.length : Int) := by subst hA; simp [ev_ne, ev_eq, put_sz, hsz, e0, e1, e2, e7, e8]
  have n31' : b.eval (.tmp 31) = .bool (decide ((xs.length : Int) + (ys.length : Int) > (cap : Int))) := by subst hA; simp [ev_ne, ev_eq, put_sz, hsz, e0, e1, e2, e7, e8]
  have hsz' : b.tmps.size = 95 := by subst hA; simp [put_sz, hsz, e0, e1, e2, e7, e8]
  have hdef' : b.defers = [] := by subst hA; simpa [put_defers'] using hdef
  clear hA hsz hdef e0 e1 e2 e7 e8
  have e0 := e0'
  have e1 := e1'
  have e2 := e2'
  have e7 := e7'
  have e8 := e8'
  have n31 := n31'
  have hsz := hsz'
  have hdef := hdef'
  clear hsz' hdef' e0' e1' e2' e7' e8' n31'
  refine wp_cond n31 ?_
  by_cases hroomy : xs.length + ys.length ≤ cap
  · rw [show decide ((xs.length : Int) + (ys.length : Int) > (cap : Int)) = false by simp; omega]
    refine wp_skip (wp_seq (wp_region_lit (l := [o13_0, o13_1, o13_2, o13_3, o13_4, o13_5]) ?_))
    refine list_val h13_0 (w' := w) (v := .slice (some ⟨k, off, none⟩) (xs.length) (cap)) (fun _ => by rw [x_move]; simp [ev_ne, ev_eq, put_sz, hsz, e0, e1, e2, e7, e8]) ?_
    refine list_val h13_1 (w' := w) (v := .int .i64 (xs.length : Int)) (fun _ => by rw [x_move]; simp [ev_ne, ev_eq, put_sz, hsz, e0, e1, e2, e7, e8]) ?_
    refine list_val h13_2 (w' := w) (v := .int .i64 (ys.length : Int)) (fun _ => by rw [x_move]; simp [ev_ne, ev_eq, put_sz, hsz, e0, e1, e2, e7, e8]) ?_
    refine list_val h13_3 (w' := w) (v := .int .i64 ((xs.length : Int) + (ys.length : Int))) (fun _ => x_add (by simp [ev_ne, ev_eq, put_sz, hsz, e0, e1, e2, e7, e8]) (by simp [ev_ne, ev_eq, put_sz, hsz, e0, e1, e2, e7, e8]) (by constructor <;> omega)) ?_
    refine list_val h13_4 (w' := w) (v := .slice (some ⟨k, off, none⟩) (xs.length + ys.length) (cap)) (fun _ => by rw [x_sliceHi (k := k) (off := off) (len := xs.length) (cap := cap) (i := (xs.length : Int) + (ys.length : Int)) hT hn0 (by simp [ev_ne, ev_eq, put_sz, hsz, e0, e1, e2, e7, e8]) (by simp [ev_ne, ev_eq, put_sz, hsz, e0, e1, e2, e7, e8]) (by omega) (by omega)]; rw [show ((xs.length : Int) + (ys.length : Int)).toNat = xs.length + ys.length by omega]) ?_
    refine list_val h13_5 (w' := w) (v := .slice (some ⟨k, off, none⟩) (xs.length + ys.length) (cap)) (fun _ => by rw [x_assign]; simp [ev_ne, ev_eq, put_sz, hsz, e0, e1, e2, e7, e8]) ?_
    generalize hA : (((((b.put (some 56) (.slice (some ⟨k, off, none⟩) (xs.length) (cap))).put (some 57) (.int .i64 (xs.length : Int))).put (some 58) (.int .i64 (ys.length : Int))).put (some 59) (.int .i64 ((xs.length : Int) + (ys.length : Int)))).put (some 60) (.slice (some ⟨k, off, none⟩) (xs.length + ys.length) (cap))).put (some 0) (.slice (some ⟨k, off, none⟩) (xs.length + ys.length) (cap)) = b2
    have e0' : b2.eval (.tmp 0) = .slice (some ⟨k, off, none⟩) (xs.length + ys.length) (cap) := by subst hA; simp [ev_ne, ev_eq, put_sz, hsz, e0, e1, e2, e7, e8]
    have e1' : b2.eval (.tmp 1) = .int .i64 (i : Int) := by subst hA; simp [ev_ne, ev_eq, put_sz, hsz, e0, e1, e2, e7, e8]
    have e2' : b2.eval (.tmp 2) = .slice (some ⟨kv, ov, none⟩) (ys.length) (cv) := by subst hA; simp [ev_ne, ev_eq, put_sz, hsz, e0, e1, e2, e7, e8]
    have e7' : b2.eval (.tmp 7) = .int .i64 (ys.length : Int) := by subst hA; simp [ev_ne, ev_eq, put_sz, hsz, e0, e1, e2, e7, e8]
    have e8' : b2.eval (.tmp 8) = .int .i64 (xs.length : Int) := by subst hA; simp [ev_ne, ev_eq, put_sz, hsz, e0, e1, e2, e7, e8]
    have hsz' : b2.tmps.size = 95 := by subst hA; simp [put_sz, hsz, e0, e1, e2, e7, e8]
    have hdef' : b2.defers = [] := by subst hA; simpa [put_defers'] using hdef
    clear hA hsz hdef e0 e1 e2 e7 e8
    have e0 := e0'
    have e1 := e1'
    have e2 := e2'
    have e7 := e7'
    have e8 := e8'
    have hsz := hsz'
    have hdef := hdef'
    clear hsz' hdef' e0' e1' e2' e7' e8'
    refine wp_seq (wp_seq (wp_region_lit (l := [o14_0, o14_1, o14_2, o14_3, o14_4, o14_5, o14_6, o14_7]) ?_))
    refine list_val h14_0 (w' := w) (v := .slice (some ⟨kv, ov, none⟩) (ys.length) (cv)) (fun _ => by rw [x_move]; simp [ev_ne, ev_eq, put_sz, hsz, e0, e1, e2, e7, e8]) ?_
    refine list_val h14_1 (w' := w) (v := .slice (some ⟨k, off, none⟩) (xs.length + ys.length) (cap)) (fun _ => by rw [x_move]; simp [ev_ne, ev_eq, put_sz, hsz, e0, e1, e2, e7, e8]) ?_
    refine list_val h14_2 (w' := w) (v := .int .i64 (i : Int)) (fun _ => by rw [x_move]; simp [ev_ne, ev_eq, put_sz, hsz, e0, e1, e2, e7, e8]) ?_
    refine list_val h14_3 (w' := w) (v := .int .i64 (ys.length : Int)) (fun _ => by rw [x_move]; simp [ev_ne, ev_eq, put_sz, hsz, e0, e1, e2, e7, e8]) ?_
    refine list_val h14_4 (w' := w) (v := .int .i64 ((i : Int) + (ys.length : Int))) (fun _ => x_add (by simp [ev_ne, ev_eq, put_sz, hsz, e0, e1, e2, e7, e8]) (by simp [ev_ne, ev_eq, put_sz, hsz, e0, e1, e2, e7, e8]) (by constructor <;> omega)) ?_
    refine list_val h14_5 (w' := w) (v := .slice (some ⟨k, off + (i + ys.length) * n, none⟩) (xs.length + ys.length - (i + ys.length)) (cap - (i + ys.length))) (fun _ => by rw [x_sliceLo (k := k) (off := off) (len := xs.length + ys.length) (cap := cap) (i := (i : Int) + (ys.length : Int)) hT hn0 (by simp [ev_ne, ev_eq, put_sz, hsz, e0, e1, e2, e7, e8]) (by simp [ev_ne, ev_eq, put_sz, hsz, e0, e1, e2, e7, e8]) (by omega) (by omega), hce]; rw [show ((i : Int) + (ys.length : Int)).toNat = i + ys.length by omega, if_neg (by omega)]) ?_
    refine list_val h14_6 (w' := w) (v := .bool false) (fun _ => ?_) ?_
    · have hovr := run_overlaps (P := P) (T := T) (ps := #[T, T]) (rs := #[B]) (ov := ov) (cv := cv) (o2 := off + (i + ys.length) * n) (cb := cap - (i + ys.length)) (m := ys.length) (lb := xs.length + ys.length - (i + ys.length)) rfl hT hn0 hb2 hb hne m0 (by omega) (by omega)
      rw [x_callF, hov]
      simp only [ev_ne (show (66 : Nat) ≠ 61 by decide), ev_ne (show (65 : Nat) ≠ 61 by decide), ev_ne (show (64 : Nat) ≠ 61 by decide), ev_ne (show (63 : Nat) ≠ 61 by decide), ev_ne (show (62 : Nat) ≠ 61 by decide)]
      rw [ev_eq (by omega), ev_eq (by simp only [put_sz]; omega), hovr]
      rfl
    refine list_val h14_7 (w' := w) (v := .bool true) (fun _ => x_not (b := false) (by simp [ev_ne, ev_eq, put_sz, hsz, e0, e1, e2, e7, e8])) ?_
    generalize hA : (((((((b2.put (some 61) (.slice (some ⟨kv, ov, none⟩) (ys.length) (cv))).put (some 62) (.slice (some ⟨k, off, none⟩) (xs.length + ys.length) (cap))).put (some 63) (.int .i64 (i : Int))).put (some 64) (.int .i64 (ys.length : Int))).put (some 65) (.int .i64 ((i : Int) + (ys.length : Int)))).put (some 66) (.slice (some ⟨k, off + (i + ys.length) * n, none⟩) (xs.length + ys.length - (i + ys.length)) (cap - (i + ys.length)))).put (some 67) (.bool false)).put (some 68) (.bool true) = b3
    have e0' : b3.eval (.tmp 0) = .slice (some ⟨k, off, none⟩) (xs.length + ys.length) (cap) := by subst hA; simp [ev_ne, ev_eq, put_sz, hsz, e0, e1, e2, e7, e8]
    have e1' : b3.eval (.tmp 1) = .int .i64 (i : Int) := by subst hA; simp [ev_ne, ev_eq, put_sz, hsz, e0, e1, e2, e7, e8]
    have e2' : b3.eval (.tmp 2) = .slice (some ⟨kv, ov, none⟩) (ys.length) (cv) := by subst hA; simp [ev_ne, ev_eq, put_sz, hsz, e0, e1, e2, e7, e8]
    have e7' : b3.eval (.tmp 7) = .int .i64 (ys.length : Int) := by subst hA; simp [ev_ne, ev_eq, put_sz, hsz, e0, e1, e2, e7, e8]
    have e8' : b3.eval (.tmp 8) = .int .i64 (xs.length : Int) := by subst hA; simp [ev_ne, ev_eq, put_sz, hsz, e0, e1, e2, e7, e8]
    have n68' : b3.eval (.tmp 68) = .bool true := by subst hA; simp [ev_ne, ev_eq, put_sz, hsz, e0, e1, e2, e7, e8]
    have hsz' : b3.tmps.size = 95 := by subst hA; simp [put_sz, hsz, e0, e1, e2, e7, e8]
    have hdef' : b3.defers = [] := by subst hA; simpa [put_defers'] using hdef
    clear hA hsz hdef e0 e1 e2 e7 e8
    have e0 := e0'
    have e1 := e1'
    have e2 := e2'
    have e7 := e7'
    have e8 := e8'
    have n68 := n68'
    have hsz := hsz'
    have hdef := hdef'
    clear hsz' hdef' e0' e1' e2' e7' e8' n68'
    refine wp_cond_true n68 (wp_seq (wp_region_still_tail (l := [o15_0, o15_1, o15_2, o15_3, o15_4, o15_5, o15_6, o15_7, o15_8]) 8 hm hB15 ?_))
    show wpStill P _ w.drew (fun a' => wpList P _ _ [o15_8] a' w.drew) [o15_0, o15_1, o15_2, o15_3, o15_4, o15_5, o15_6, o15_7] b3
    refine still_val h15_0 (v := .slice (some ⟨k, off, none⟩) (xs.length + ys.length) (cap)) (fun _ => by rw [x_move]; simp [ev_ne, ev_eq, put_sz, hsz, e0, e1, e2, e7, e8]) ?_
    refine still_val h15_1 (v := .int .i64 (i : Int)) (fun _ => by rw [x_move]; simp [ev_ne, ev_eq, put_sz, hsz, e0, e1, e2, e7, e8]) ?_
    refine still_val h15_2 (v := .int .i64 (ys.length : Int)) (fun _ => by rw [x_move]; simp [ev_ne, ev_eq, put_sz, hsz, e0, e1, e2, e7, e8]) ?_
    refine still_val h15_3 (v := .int .i64 ((i : Int) + (ys.length : Int))) (fun _ => x_add (by simp [ev_ne, ev_eq, put_sz, hsz, e0, e1, e2, e7, e8]) (by simp [ev_ne, ev_eq, put_sz, hsz, e0, e1, e2, e7, e8]) (by constructor <;> omega)) ?_
    refine still_val h15_4 (v := .slice (some ⟨k, off + (i + ys.length) * n, none⟩) (xs.length + ys.length - (i + ys.length)) (cap - (i + ys.length))) (fun _ => by rw [x_sliceLo (k := k) (off := off) (len := xs.length + ys.length) (cap := cap) (i := (i : Int) + (ys.length : Int)) hT hn0 (by simp [ev_ne, ev_eq, put_sz, hsz, e0, e1, e2, e7, e8]) (by simp [ev_ne, ev_eq, put_sz, hsz, e0, e1, e2, e7, e8]) (by omega) (by omega), hce]; rw [show ((i : Int) + (ys.length : Int)).toNat = i + ys.length by omega, if_neg (by omega)]) ?_
    refine still_val h15_5 (v := .slice (some ⟨k, off, none⟩) (xs.length + ys.length) (cap)) (fun _ => by rw [x_move]; simp [ev_ne, ev_eq, put_sz, hsz, e0, e1, e2, e7, e8]) ?_
    refine still_val h15_6 (v := .int .i64 (i : Int)) (fun _ => by rw [x_move]; simp [ev_ne, ev_eq, put_sz, hsz, e0, e1, e2, e7, e8]) ?_
    refine still_val h15_7 (v := .slice (some ⟨k, off + i * n, none⟩) (xs.length + ys.length - i) (cap - i)) (fun _ => by rw [x_sliceLo (k := k) (off := off) (len := xs.length + ys.length) (cap := cap) (i := (i : Int)) hT hn0 (by simp [ev_ne, ev_eq, put_sz, hsz, e0, e1, e2, e7, e8]) (by simp [ev_ne, ev_eq, put_sz, hsz, e0, e1, e2, e7, e8]) (by omega) (by omega), hce]; rw [show ((i : Int)).toNat = i by omega, if_neg (by omega)]) ?_
    generalize hA : (((((((b3.put (some 69) (.slice (some ⟨k, off, none⟩) (xs.length + ys.length) (cap))).put (some 70) (.int .i64 (i : Int))).put (some 71) (.int .i64 (ys.length : Int))).put (some 72) (.int .i64 ((i : Int) + (ys.length : Int)))).put (some 73) (.slice (some ⟨k, off + (i + ys.length) * n, none⟩) (xs.length + ys.length - (i + ys.length)) (cap - (i + ys.length)))).put (some 74) (.slice (some ⟨k, off, none⟩) (xs.length + ys.length) (cap))).put (some 75) (.int .i64 (i : Int))).put (some 76) (.slice (some ⟨k, off + i * n, none⟩) (xs.length + ys.length - i) (cap - i)) = b4
    have e0' : b4.eval (.tmp 0) = .slice (some ⟨k, off, none⟩) (xs.length + ys.length) (cap) := by subst hA; simp [ev_ne, ev_eq, put_sz, hsz, e0, e1, e2, e7, e8]
    have e1' : b4.eval (.tmp 1) = .int .i64 (i : Int) := by subst hA; simp [ev_ne, ev_eq, put_sz, hsz, e0, e1, e2, e7, e8]
    have e2' : b4.eval (.tmp 2) = .slice (some ⟨kv, ov, none⟩) (ys.length) (cv) := by subst hA; simp [ev_ne, ev_eq, put_sz, hsz, e0, e1, e2, e7, e8]
    have e7' : b4.eval (.tmp 7) = .int .i64 (ys.length : Int) := by subst hA; simp [ev_ne, ev_eq, put_sz, hsz, e0, e1, e2, e7, e8]
    have e8' : b4.eval (.tmp 8) = .int .i64 (xs.length : Int) := by subst hA; simp [ev_ne, ev_eq, put_sz, hsz, e0, e1, e2, e7, e8]
    have n73' : b4.eval (.tmp 73) = .slice (some ⟨k, off + (i + ys.length) * n, none⟩) (xs.length + ys.length - (i + ys.length)) (cap - (i + ys.length)) := by subst hA; simp [ev_ne, ev_eq, put_sz, hsz, e0, e1, e2, e7, e8]
    have n76' : b4.eval (.tmp 76) = .slice (some ⟨k, off + i * n, none⟩) (xs.length + ys.length - i) (cap - i) := by subst hA; simp [ev_ne, ev_eq, put_sz, hsz, e0, e1, e2, e7, e8]
    have hsz' : b4.tmps.size = 95 := by subst hA; simp [put_sz, hsz, e0, e1, e2, e7, e8]
    have hdef' : b4.defers = [] := by subst hA; simpa [put_defers'] using hdef
    clear hA hsz hdef e0 e1 e2 e7 e8
    have e0 := e0'
    have e1 := e1'
    have e2 := e2'
    have e7 := e7'
    have e8 := e8'
    have n73 := n73'
    have n76 := n76'
    have hsz := hsz'
    have hdef := hdef'
    clear hsz' hdef' e0' e1' e2' e7' e8' n73' n76'
    have hbd : w.drew.heap[k]? = some (.cells c T0 (0, 0)) := hb
    have hcapM : (xs.length + ys.length) * n ≤ cap * n := Nat.mul_le_mul_right _ hroomy
    rw [Nat.add_mul] at hcapM
    have him : (i + ys.length) * n = i * n + ys.length * n := Nat.add_mul _ _ _
    have htl : (c.extract (off + i * n) (off + i * n + (xs.length - i) * n)).size = (xs.length - i) * n := by simp; omega
    have hone1 : ∀ v ∈ (c.extract (off + i * n) (off + i * n + (xs.length - i) * n)).toList, v.oneCell' = true := by
      have := flx.one
      intro v hv
      refine this v ?_
      simp only [Array.mem_toList_iff, Array.mem_extract_iff_getElem] at hv ⊢
      obtain ⟨q, hq1, rfl⟩ := hv
      exact ⟨i * n + q, by omega, by congr 1; omega⟩
    obtain ⟨w1, q1, q2, q3, c1, q4, q5, q6⟩ := run_storeCells' (P := P) k (off + (i + ys.length) * n) T0 (c.extract (off + i * n) (off + i * n + (xs.length - i) * n)).toList 0 c w.drew hbd (by simp only [Array.length_toList, htl]; omega) hone1
    have osw1 := storeCells_os (P := P) k (off + (i + ys.length) * n) T0 (c.extract (off + i * n) (off + i * n + (xs.length - i) * n)).toList 0 c w.drew w1 hbd (by simp only [Array.length_toList, htl]; omega) hone1 q1
    refine list_val h15_8 (w' := w1) (v := goInt ((xs.length - i : Nat) : Int).toNat) (fun _ => ?_) ?_
    · rw [Int.toNat_natCast]
      refine x_copy' (m := xs.length + ys.length - i) (cs := c.extract (off + i * n) (off + i * n + (xs.length - i) * n)) hT hce (by omega) n73 (by rw [n76]; rfl) (by rw [show xs.length + ys.length - (i + ys.length) = xs.length - i by omega]; exact Nat.min_eq_right (by omega)) ?_ q1
      rw [n76]
      simp only [Builtin.firstCells]
      exact run_cells (P := P) hbd (by omega)
    generalize hA : b4.put (some 77) (goInt ((xs.length - i : Nat) : Int).toNat) = b5
    have e0' : b5.eval (.tmp 0) = .slice (some ⟨k, off, none⟩) (xs.length + ys.length) (cap) := by subst hA; simp [ev_ne, ev_eq, put_sz, hsz, e0, e1, e2, e7, e8]
    have e1' : b5.eval (.tmp 1) = .int .i64 (i : Int) := by subst hA; simp [ev_ne, ev_eq, put_sz, hsz, e0, e1, e2, e7, e8]
    have e2' : b5.eval (.tmp 2) = .slice (some ⟨kv, ov, none⟩) (ys.length) (cv) := by subst hA; simp [ev_ne, ev_eq, put_sz, hsz, e0, e1, e2, e7, e8]
    have e7' : b5.eval (.tmp 7) = .int .i64 (ys.length : Int) := by subst hA; simp [ev_ne, ev_eq, put_sz, hsz, e0, e1, e2, e7, e8]
    have e8' : b5.eval (.tmp 8) = .int .i64 (xs.length : Int) := by subst hA; simp [ev_ne, ev_eq, put_sz, hsz, e0, e1, e2, e7, e8]
    have hsz' : b5.tmps.size = 95 := by subst hA; simp [put_sz, hsz]
    have hdef' : b5.defers = [] := by subst hA; simpa [put_defers'] using hdef
    clear hA hsz hdef e0 e1 e2 e7 e8
    have e0 := e0'
    have e1 := e1'
    have e2 := e2'
    have e7 := e7'
    have e8 := e8'
    have hsz := hsz'
    have hdef := hdef'
    refine wp_seq (wp_region_lit (l := [o16_0, o16_1, o16_2, o16_3, o16_4]) ?_)
    refine list_val h16_0 (w' := w1) (v := .slice (some ⟨k, off, none⟩) (xs.length + ys.length) (cap)) (fun _ => by rw [x_move]; simp [ev_ne, ev_eq, put_sz, hsz, e0, e1, e2, e7, e8]) ?_
    refine list_val h16_1 (w' := w1) (v := .int .i64 (i : Int)) (fun _ => by rw [x_move]; simp [ev_ne, ev_eq, put_sz, hsz, e0, e1, e2, e7, e8]) ?_
    refine list_val h16_2 (w' := w1) (v := .slice (some ⟨k, off + i * n, none⟩) (xs.length + ys.length - i) (cap - i)) (fun _ => by rw [x_sliceLo (k := k) (off := off) (len := xs.length + ys.length) (cap := cap) (i := (i : Int)) hT hn0 (by simp [ev_ne, ev_eq, put_sz, hsz, e0, e1, e2, e7, e8]) (by simp [ev_ne, ev_eq, put_sz, hsz, e0, e1, e2, e7, e8]) (by omega) (by omega), hce]; rw [show ((i : Int)).toNat = i by omega, if_neg (by omega)]) ?_
    refine list_val h16_3 (w' := w1) (v := .slice (some ⟨kv, ov, none⟩) (ys.length) (cv)) (fun _ => by rw [x_move]; simp [ev_ne, ev_eq, put_sz, hsz, e0, e1, e2, e7, e8]) ?_
    have hb2' : w1.heap[kv]? = some (.cells av Tv fz) := by rw [q3 kv hne]; exact hb2
    obtain ⟨w2, p1, p2, p3, c2, p4, p5, p6⟩ := run_storeCells' (P := P) k (off + i * n) T0 (av.extract ov (ov + ys.length * n)).toList 0 c1 w1 q4 (by simp only [Array.length_toList, hf2]; omega) fly.one
    have osw2 := storeCells_os (P := P) k (off + i * n) T0 (av.extract ov (ov + ys.length * n)).toList 0 c1 w1 w2 q4 (by simp only [Array.length_toList, hf2]; omega) fly.one p1
    refine list_val h16_4 (w' := w2) (v := goInt ys.length) (fun _ => ?_) ?_
    · refine x_copy' (m := ys.length) (dl := xs.length + ys.length - i) (dc := cap - i) (off := off + i * n) (k := k) (cs := av.extract ov (ov + ys.length * n)) hT hce (by omega) (by simp [ev_ne, ev_eq, put_sz, hsz]) (by simp [ev_ne, ev_eq, put_sz, hsz, Builtin.lenOf]) (Nat.min_eq_left (by omega)) ?_ p1
      simp only [ev_eq, put_sz, hsz, Nat.reduceLT, Builtin.firstCells]
      exact run_cells (P := P) hb2' hav
    refine wp_seq (wp_region_lit (l := [o17_0, o17_1]) ?_)
    refine list_val h17_0 (w' := w2) (v := .slice (some ⟨k, off, none⟩) (xs.length + ys.length) (cap)) (fun _ => by rw [x_move]; simp [ev_ne, ev_eq, put_sz, hsz, e0, e1, e2, e7, e8]) ?_
    refine list_val h17_1 (w' := w2) (v := .slice (some ⟨k, off, none⟩) (xs.length + ys.length) (cap)) (fun _ => by rw [x_assign]; simp [ev_ne, ev_eq, put_sz, hsz, e0, e1, e2, e7, e8]) ?_
    refine wp_ret ?_
    have hk2 : ∀ o, o ≠ .lst (.slot 0) → Keep o g w (g.ren (rnL (.slot 0) (.slot 6))) w2 := fun o ho k' b' h1 h2 => by
      have hkk : k' ≠ k := by rintro rfl; exact ho (h1.symm.trans hk)
      exact ⟨by simp only [Gh.ren, h1]; exact rnL_other ho, by rw [p3 k' hkk, q3 k' hkk]; exact h2⟩
    refine fin _ w2 (g.ren (rnL (.slot 0) (.slot 6))) (.slice (some ⟨k, off, none⟩) (xs.length + ys.length) cap) (by simp [put_sz, hsz]) (by simpa [put_defers'] using hdef) (by simp [ev_eq, put_sz, hsz]) ?_ hk2 rfl (by rw [p2, q2]; exact Nat.le_refl _) (osw1.trans osw2)
    rw [← hzl]
    refine ROwn.win flz p4 (by simp [Gh.ren, hk, rnL_same]) (by omega) (by rw [p5, q5]; exact hzz) (fun q hq => ?_) (hk2 _ (by simp)) (fun _ _ h => h)
    rw [hflat q hq]
    rw [hzl, Nat.add_mul] at hq
    rw [p6, q6]
    simp only [Array.length_toList, hf2, htl]
    by_cases z1 : q < i * n
    · rw [if_neg (by omega), if_neg (by omega), if_pos z1]
    · by_cases z2 : q < i * n + ys.length * n
      · rw [if_pos (by omega), if_neg z1, if_pos z2, Array.getElem?_toList, Array.getElem?_extract, if_pos (by omega)]
        congr 1; omega
      · rw [if_neg (by omega), if_pos (by omega), if_neg z1, if_neg z2, Array.getElem?_toList, Array.getElem?_extract, if_pos (by omega)]
        congr 1; omega
  · rw [show decide ((xs.length : Int) + (ys.length : Int) > (cap : Int)) = true by simp; omega]
    refine wp_seq (wp_region_lit (l := [o9_0, o9_1, o9_2, o9_3, o9_4, o9_5, o9_6, o9_7, o9_8, o9_9]) ?_)
    refine list_val h9_0 (w' := w) (v := .slice (some ⟨k, off, none⟩) (xs.length) (cap)) (fun _ => by rw [x_move]; simp [ev_ne, ev_eq, put_sz, hsz, e0, e1, e2, e7, e8]) ?_
    refine list_val h9_1 (w' := w) (v := .int .i64 (i : Int)) (fun _ => by rw [x_move]; simp [ev_ne, ev_eq, put_sz, hsz, e0, e1, e2, e7, e8]) ?_
    refine list_val h9_2 (w' := w) (v := .slice (some ⟨k, off, none⟩) (i) (cap)) (fun _ => by rw [x_sliceHi (k := k) (off := off) (len := xs.length) (cap := cap) (i := (i : Int)) hT hn0 (by simp [ev_ne, ev_eq, put_sz, hsz, e0, e1, e2, e7, e8]) (by simp [ev_ne, ev_eq, put_sz, hsz, e0, e1, e2, e7, e8]) (by omega) (by omega)]; rw [show ((i : Int)).toNat = i by omega]) ?_
    refine list_val h9_3 (w' := w) (v := .int .i64 (xs.length : Int)) (fun _ => by rw [x_move]; simp [ev_ne, ev_eq, put_sz, hsz, e0, e1, e2, e7, e8]) ?_
    refine list_val h9_4 (w' := w) (v := .int .i64 (ys.length : Int)) (fun _ => by rw [x_move]; simp [ev_ne, ev_eq, put_sz, hsz, e0, e1, e2, e7, e8]) ?_
    refine list_val h9_5 (w' := w) (v := .int .i64 ((xs.length : Int) + (ys.length : Int))) (fun _ => x_add (by simp [ev_ne, ev_eq, put_sz, hsz, e0, e1, e2, e7, e8]) (by simp [ev_ne, ev_eq, put_sz, hsz, e0, e1, e2, e7, e8]) (by constructor <;> omega)) ?_
    refine list_val h9_6 (w' := w) (v := .int .i64 (i : Int)) (fun _ => by rw [x_move]; simp [ev_ne, ev_eq, put_sz, hsz, e0, e1, e2, e7, e8]) ?_
    refine list_val h9_7 (w' := w) (v := .int .i64 ((xs.length + ys.length - i : Nat) : Int)) (fun _ => by rw [x_sub (p := (xs.length : Int) + (ys.length : Int)) (q := (i : Int)) (by simp [ev_ne, ev_eq, put_sz, hsz, e0, e1, e2, e7, e8]) (by simp [ev_ne, ev_eq, put_sz, hsz, e0, e1, e2, e7, e8]) (by constructor <;> omega), show (xs.length : Int) + (ys.length : Int) - (i : Int) = ((xs.length + ys.length - i : Nat) : Int) by omega]) ?_
    generalize hA : (((((((b.put (some 32) (.slice (some ⟨k, off, none⟩) (xs.length) (cap))).put (some 33) (.int .i64 (i : Int))).put (some 34) (.slice (some ⟨k, off, none⟩) (i) (cap))).put (some 35) (.int .i64 (xs.length : Int))).put (some 36) (.int .i64 (ys.length : Int))).put (some 37) (.int .i64 ((xs.length : Int) + (ys.length : Int)))).put (some 38) (.int .i64 (i : Int))).put (some 39) (.int .i64 ((xs.length + ys.length - i : Nat) : Int)) = b2
    have e0' : b2.eval (.tmp 0) = .slice (some ⟨k, off, none⟩) (xs.length) (cap) := by subst hA; simp [ev_ne, ev_eq, put_sz, hsz, e0, e1, e2, e7, e8]
    have e1' : b2.eval (.tmp 1) = .int .i64 (i : Int) := by subst hA; simp [ev_ne, ev_eq, put_sz, hsz, e0, e1, e2, e7, e8]
    have e2' : b2.eval (.tmp 2) = .slice (some ⟨kv, ov, none⟩) (ys.length) (cv) := by subst hA; simp [ev_ne, ev_eq, put_sz, hsz, e0, e1, e2, e7, e8]
    have e7' : b2.eval (.tmp 7) = .int .i64 (ys.length : Int) := by subst hA; simp [ev_ne, ev_eq, put_sz, hsz, e0, e1, e2, e7, e8]
    have e8' : b2.eval (.tmp 8) = .int .i64 (xs.length : Int) := by subst hA; simp [ev_ne, ev_eq, put_sz, hsz, e0, e1, e2, e7, e8]
    have n34' : b2.eval (.tmp 34) = .slice (some ⟨k, off, none⟩) (i) (cap) := by subst hA; simp [ev_ne, ev_eq, put_sz, hsz, e0, e1, e2, e7, e8]
    have n39' : b2.eval (.tmp 39) = .int .i64 ((xs.length + ys.length - i : Nat) : Int) := by subst hA; simp [ev_ne, ev_eq, put_sz, hsz, e0, e1, e2, e7, e8]
    have hsz' : b2.tmps.size = 95 := by subst hA; simp [put_sz, hsz, e0, e1, e2, e7, e8]
    have hdef' : b2.defers = [] := by subst hA; simpa [put_defers'] using hdef
    clear hA hsz hdef e0 e1 e2 e7 e8
    have e0 := e0'
    have e1 := e1'
    have e2 := e2'
    have e7 := e7'
    have e8 := e8'
    have n34 := n34'
    have n39 := n39'
    have hsz := hsz'
    have hdef := hdef'
    clear hsz' hdef' e0' e1' e2' e7' e8' n34' n39'
    have hbd : w.drew.heap[k]? = some (.cells c T0 (0, 0)) := hb
    have hneed : i + (xs.length + ys.length - i) = xs.length + ys.length := by omega
    have hby2 : (xs.length + ys.length) * ti.bytes ≤ 140737488355328 := Nat.le_trans (Nat.mul_le_mul hroom hby) (by decide)
    obtain ⟨gc, hgc, happ⟩ := x_appendMake (P := P) (a := b2) (w := w) (T := T) (I := I) (e := e) (x := .tmp 34) (y := .tmp 39) (m := xs.length + ys.length - i) (sLen := i) (sCap := cap) (base := some ⟨k, off, none⟩) (z := z) (ti := ti) (olds := c.extract off (off + i * n)) n34 n39 hT hI hi hz (by omega) (by
      rw [hsize]
      simp only [Builtin.firstCells]
      exact run_cells (P := P) hbd (by omega)) (by omega) (by omega) (by unfold maxLen; omega) (by rw [hneed]; exact hby2)
    rw [hneed] at hgc happ
    generalize hC : c.extract off (off + i * n) ++ Builtin.zeroCells z.cells (xs.length + ys.length - i) ++ Builtin.zeroCells z.cells (gc - (xs.length + ys.length)) = C0 at happ
    have hC0 : C0.size = gc * n := by
      rw [← hC]
      simp only [Array.size_append, size_zeroCells, hzn, Array.size_extract]
      have h1 : i * n + ((xs.length + ys.length - i) * n + (gc - (xs.length + ys.length)) * n) = gc * n := by
        rw [← Nat.add_mul, ← Nat.add_mul]; congr 1; omega
      omega
    have hCl : ∀ q, q < i * n → C0[q]? = c[off + q]? := fun q hq => by
      rw [← hC, Array.append_assoc, Array.getElem?_append_left (by simp; omega), Array.getElem?_extract, if_pos (by omega)]
    clear hC
    have hK1 : (w.drew.alloc (.cells C0 e)).heap[w.heap.size]? = some (.cells C0 e (0, 0)) := heap_alloc w.drew _
    have hold : ∀ (k' : Nat) (b' : Obj), w.heap[k']? = some b' → k' ≠ w.heap.size ∧ (w.drew.alloc (.cells C0 e)).heap[k']? = some b' := fun k' b' h => ⟨by have := arr_lt h; omega, (Keep.alloc (o' := g.ow k') (g := g) (w := w.drew) (o := .cells C0 e) (t := .free) k' b' rfl h).2⟩
    generalize hW : w.drew.alloc (.cells C0 e) = w1 at happ hK1 hold
    have hw1s : w.heap.size ≤ w1.heap.size := by rw [← hW]; simp
    have hos1 : SameOs w w1 := by rw [← hW]; exact ⟨rfl, rfl⟩
    generalize hKK : w.heap.size = K at happ hK1 hold hw1s
    refine list_val h9_8 (w' := w1) (v := .slice (some ⟨K, 0, none⟩) (xs.length + ys.length) (gc)) (fun ty => happ o9_8 ty) ?_
    refine list_val h9_9 (w' := w1) (v := .slice (some ⟨K, 0, none⟩) (xs.length + ys.length) (gc)) (fun _ => by rw [x_assign]; simp [ev_ne, ev_eq, put_sz, hsz, e0, e1, e2, e7, e8]) ?_
    generalize hA : (b2.put (some 40) (.slice (some ⟨K, 0, none⟩) (xs.length + ys.length) (gc))).put (some 9) (.slice (some ⟨K, 0, none⟩) (xs.length + ys.length) (gc)) = b3
    have e0' : b3.eval (.tmp 0) = .slice (some ⟨k, off, none⟩) (xs.length) (cap) := by subst hA; simp [ev_ne, ev_eq, put_sz, hsz, e0, e1, e2, e7, e8]
    have e1' : b3.eval (.tmp 1) = .int .i64 (i : Int) := by subst hA; simp [ev_ne, ev_eq, put_sz, hsz, e0, e1, e2, e7, e8]
    have e2' : b3.eval (.tmp 2) = .slice (some ⟨kv, ov, none⟩) (ys.length) (cv) := by subst hA; simp [ev_ne, ev_eq, put_sz, hsz, e0, e1, e2, e7, e8]
    have e7' : b3.eval (.tmp 7) = .int .i64 (ys.length : Int) := by subst hA; simp [ev_ne, ev_eq, put_sz, hsz, e0, e1, e2, e7, e8]
    have e8' : b3.eval (.tmp 8) = .int .i64 (xs.length : Int) := by subst hA; simp [ev_ne, ev_eq, put_sz, hsz, e0, e1, e2, e7, e8]
    have e9' : b3.eval (.tmp 9) = .slice (some ⟨K, 0, none⟩) (xs.length + ys.length) (gc) := by subst hA; simp [ev_ne, ev_eq, put_sz, hsz, e0, e1, e2, e7, e8]
    have hsz' : b3.tmps.size = 95 := by subst hA; simp [put_sz, hsz, e0, e1, e2, e7, e8]
    have hdef' : b3.defers = [] := by subst hA; simpa [put_defers'] using hdef
    clear hA hsz hdef e0 e1 e2 e7 e8 n34 n39 happ
    have e0 := e0'
    have e1 := e1'
    have e2 := e2'
    have e7 := e7'
    have e8 := e8'
    have e9 := e9'
    have hsz := hsz'
    have hdef := hdef'
    clear hsz' hdef' e0' e1' e2' e7' e8' e9'
    refine wp_seq (wp_region_lit (l := [o10_0, o10_1, o10_2, o10_3, o10_4]) ?_)
    refine list_val h10_0 (w' := w1) (v := .slice (some ⟨K, 0, none⟩) (xs.length + ys.length) (gc)) (fun _ => by rw [x_move]; simp [ev_ne, ev_eq, put_sz, hsz, e0, e1, e2, e7, e8, e9]) ?_
    refine list_val h10_1 (w' := w1) (v := .int .i64 (i : Int)) (fun _ => by rw [x_move]; simp [ev_ne, ev_eq, put_sz, hsz, e0, e1, e2, e7, e8, e9]) ?_
    refine list_val h10_2 (w' := w1) (v := .slice (some ⟨K, 0 + i * n, none⟩) (xs.length + ys.length - i) (gc - i)) (fun _ => by rw [x_sliceLo (k := K) (off := 0) (len := xs.length + ys.length) (cap := gc) (i := (i : Int)) hT hn0 (by simp [ev_ne, ev_eq, put_sz, hsz, e0, e1, e2, e7, e8, e9]) (by simp [ev_ne, ev_eq, put_sz, hsz, e0, e1, e2, e7, e8, e9]) (by omega) (by omega), hce]; rw [show ((i : Int)).toNat = i by omega, if_neg (by omega)]) ?_
    refine list_val h10_3 (w' := w1) (v := .slice (some ⟨kv, ov, none⟩) (ys.length) (cv)) (fun _ => by rw [x_move]; simp [ev_ne, ev_eq, put_sz, hsz, e0, e1, e2, e7, e8, e9]) ?_
    have hb2' : w1.heap[kv]? = some (.cells av Tv fz) := (hold kv _ hb2).2
    have hKkv : kv ≠ K := (hold kv _ hb2).1
    have hKk : k ≠ K := (hold k _ hb).1
    have hgcn : (xs.length + ys.length) * n ≤ gc * n := Nat.mul_le_mul_right _ hgc
    rw [Nat.add_mul] at hgcn
    obtain ⟨w2, p1, p2, p3, c2, p4, p5, p6⟩ := run_storeCells' (P := P) K (0 + i * n) e (av.extract ov (ov + ys.length * n)).toList 0 C0 w1 hK1 (by simp only [Array.length_toList, hf2]; omega) fly.one
    have osw2 := storeCells_os (P := P) K (0 + i * n) e (av.extract ov (ov + ys.length * n)).toList 0 C0 w1 w2 hK1 (by simp only [Array.length_toList, hf2]; omega) fly.one p1
    refine list_val h10_4 (w' := w2) (v := goInt ys.length) (fun _ => ?_) ?_
    · refine x_copy' (m := ys.length) (dl := xs.length + ys.length - i) (dc := gc - i) (off := 0 + i * n) (k := K) (cs := av.extract ov (ov + ys.length * n)) hT hce (by omega) (by simp [ev_ne, ev_eq, put_sz, hsz]) (by simp [ev_ne, ev_eq, put_sz, hsz, Builtin.lenOf]) (Nat.min_eq_left (by omega)) ?_ p1
      simp only [ev_eq, put_sz, hsz, Nat.reduceLT, Builtin.firstCells]
      exact run_cells (P := P) hb2' hav
    generalize hA : ((((b3.put (some 41) (.slice (some ⟨K, 0, none⟩) (xs.length + ys.length) (gc))).put (some 42) (.int .i64 (i : Int))).put (some 43) (.slice (some ⟨K, 0 + i * n, none⟩) (xs.length + ys.length - i) (gc - i))).put (some 44) (.slice (some ⟨kv, ov, none⟩) (ys.length) (cv))).put (some 45) (goInt ys.length) = b4
    have e0' : b4.eval (.tmp 0) = .slice (some ⟨k, off, none⟩) (xs.length) (cap) := by subst hA; simp [ev_ne, ev_eq, put_sz, hsz, e0, e1, e2, e7, e8, e9]
    have e1' : b4.eval (.tmp 1) = .int .i64 (i : Int) := by subst hA; simp [ev_ne, ev_eq, put_sz, hsz, e0, e1, e2, e7, e8, e9]
    have e2' : b4.eval (.tmp 2) = .slice (some ⟨kv, ov, none⟩) (ys.length) (cv) := by subst hA; simp [ev_ne, ev_eq, put_sz, hsz, e0, e1, e2, e7, e8, e9]
    have e7' : b4.eval (.tmp 7) = .int .i64 (ys.length : Int) := by subst hA; simp [ev_ne, ev_eq, put_sz, hsz, e0, e1, e2, e7, e8, e9]
    have e8' : b4.eval (.tmp 8) = .int .i64 (xs.length : Int) := by subst hA; simp [ev_ne, ev_eq, put_sz, hsz, e0, e1, e2, e7, e8, e9]
    have e9' : b4.eval (.tmp 9) = .slice (some ⟨K, 0, none⟩) (xs.length + ys.length) (gc) := by subst hA; simp [ev_ne, ev_eq, put_sz, hsz, e0, e1, e2, e7, e8, e9]
    have hsz' : b4.tmps.size = 95 := by subst hA; simp [put_sz, hsz, e0, e1, e2, e7, e8, e9]
    have hdef' : b4.defers = [] := by subst hA; simpa [put_defers'] using hdef
    clear hA hsz hdef e0 e1 e2 e7 e8 e9
    have e0 := e0'
    have e1 := e1'
    have e2 := e2'
    have e7 := e7'
    have e8 := e8'
    have e9 := e9'
    have hsz := hsz'
    have hdef := hdef'
    clear hsz' hdef' e0' e1' e2' e7' e8' e9'
    refine wp_seq (wp_region_still_tail (l := [o11_0, o11_1, o11_2, o11_3, o11_4, o11_5, o11_6, o11_7, o11_8]) 8 hm hB11 ?_)
    show wpStill P _ w2.drew (fun a' => wpList P _ _ [o11_8] a' w2.drew) [o11_0, o11_1, o11_2, o11_3, o11_4, o11_5, o11_6, o11_7] b4
    refine still_val h11_0 (v := .slice (some ⟨K, 0, none⟩) (xs.length + ys.length) (gc)) (fun _ => by rw [x_move]; simp [ev_ne, ev_eq, put_sz, hsz, e0, e1, e2, e7, e8, e9]) ?_
    refine still_val h11_1 (v := .int .i64 (i : Int)) (fun _ => by rw [x_move]; simp [ev_ne, ev_eq, put_sz, hsz, e0, e1, e2, e7, e8, e9]) ?_
    refine still_val h11_2 (v := .int .i64 (ys.length : Int)) (fun _ => by rw [x_move]; simp [ev_ne, ev_eq, put_sz, hsz, e0, e1, e2, e7, e8, e9]) ?_
    refine still_val h11_3 (v := .int .i64 ((i : Int) + (ys.length : Int))) (fun _ => x_add (by simp [ev_ne, ev_eq, put_sz, hsz, e0, e1, e2, e7, e8, e9]) (by simp [ev_ne, ev_eq, put_sz, hsz, e0, e1, e2, e7, e8, e9]) (by constructor <;> omega)) ?_
    refine still_val h11_4 (v := .slice (some ⟨K, 0 + (i + ys.length) * n, none⟩) (xs.length + ys.length - (i + ys.length)) (gc - (i + ys.length))) (fun _ => by rw [x_sliceLo (k := K) (off := 0) (len := xs.length + ys.length) (cap := gc) (i := (i : Int) + (ys.length : Int)) hT hn0 (by simp [ev_ne, ev_eq, put_sz, hsz, e0, e1, e2, e7, e8, e9]) (by simp [ev_ne, ev_eq, put_sz, hsz, e0, e1, e2, e7, e8, e9]) (by omega) (by omega), hce]; rw [show ((i : Int) + (ys.length : Int)).toNat = i + ys.length by omega, if_neg (by omega)]) ?_
    refine still_val h11_5 (v := .slice (some ⟨k, off, none⟩) (xs.length) (cap)) (fun _ => by rw [x_move]; simp [ev_ne, ev_eq, put_sz, hsz, e0, e1, e2, e7, e8, e9]) ?_
    refine still_val h11_6 (v := .int .i64 (i : Int)) (fun _ => by rw [x_move]; simp [ev_ne, ev_eq, put_sz, hsz, e0, e1, e2, e7, e8, e9]) ?_
    refine still_val h11_7 (v := .slice (some ⟨k, off + i * n, none⟩) (xs.length - i) (cap - i)) (fun _ => by rw [x_sliceLo (k := k) (off := off) (len := xs.length) (cap := cap) (i := (i : Int)) hT hn0 (by simp [ev_ne, ev_eq, put_sz, hsz, e0, e1, e2, e7, e8, e9]) (by simp [ev_ne, ev_eq, put_sz, hsz, e0, e1, e2, e7, e8, e9]) (by omega) (by omega), hce]; rw [show ((i : Int)).toNat = i by omega, if_neg (by omega)]) ?_
    generalize hA : (((((((b4.put (some 46) (.slice (some ⟨K, 0, none⟩) (xs.length + ys.length) (gc))).put (some 47) (.int .i64 (i : Int))).put (some 48) (.int .i64 (ys.length : Int))).put (some 49) (.int .i64 ((i : Int) + (ys.length : Int)))).put (some 50) (.slice (some ⟨K, 0 + (i + ys.length) * n, none⟩) (xs.length + ys.length - (i + ys.length)) (gc - (i + ys.length)))).put (some 51) (.slice (some ⟨k, off, none⟩) (xs.length) (cap))).put (some 52) (.int .i64 (i : Int))).put (some 53) (.slice (some ⟨k, off + i * n, none⟩) (xs.length - i) (cap - i)) = b5
    have e0' : b5.eval (.tmp 0) = .slice (some ⟨k, off, none⟩) (xs.length) (cap) := by subst hA; simp [ev_ne, ev_eq, put_sz, hsz, e0, e1, e2, e7, e8, e9]
    have e1' : b5.eval (.tmp 1) = .int .i64 (i : Int) := by subst hA; simp [ev_ne, ev_eq, put_sz, hsz, e0, e1, e2, e7, e8, e9]
    have e2' : b5.eval (.tmp 2) = .slice (some ⟨kv, ov, none⟩) (ys.length) (cv) := by subst hA; simp [ev_ne, ev_eq, put_sz, hsz, e0, e1, e2, e7, e8, e9]
    have e7' : b5.eval (.tmp 7) = .int .i64 (ys.length : Int) := by subst hA; simp [ev_ne, ev_eq, put_sz, hsz, e0, e1, e2, e7, e8, e9]
    have e8' : b5.eval (.tmp 8) = .int .i64 (xs.length : Int) := by subst hA; simp [ev_ne, ev_eq, put_sz, hsz, e0, e1, e2, e7, e8, e9]
    have e9' : b5.eval (.tmp 9) = .slice (some ⟨K, 0, none⟩) (xs.length + ys.length) (gc) := by subst hA; simp [ev_ne, ev_eq, put_sz, hsz, e0, e1, e2, e7, e8, e9]
    have n50' : b5.eval (.tmp 50) = .slice (some ⟨K, 0 + (i + ys.length) * n, none⟩) (xs.length + ys.length - (i + ys.length)) (gc - (i + ys.length)) := by subst hA; simp [ev_ne, ev_eq, put_sz, hsz, e0, e1, e2, e7, e8, e9]
    have n53' : b5.eval (.tmp 53) = .slice (some ⟨k, off + i * n, none⟩) (xs.length - i) (cap - i) := by subst hA; simp [ev_ne, ev_eq, put_sz, hsz, e0, e1, e2, e7, e8, e9]
    have hsz' : b5.tmps.size = 95 := by subst hA; simp [put_sz, hsz, e0, e1, e2, e7, e8, e9]
    have hdef' : b5.defers = [] := by subst hA; simpa [put_defers'] using hdef
    clear hA hsz hdef e0 e1 e2 e7 e8 e9
    have e0 := e0'
    have e1 := e1'
    have e2 := e2'
    have e7 := e7'
    have e8 := e8'
    have e9 := e9'
    have n50 := n50'
    have n53 := n53'
    have hsz := hsz'
    have hdef := hdef'
    clear hsz' hdef' e0' e1' e2' e7' e8' e9' n50' n53'
    have hbd2 : w2.drew.heap[k]? = some (.cells c T0 (0, 0)) := by
      show w2.heap[k]? = _
      rw [p3 k hKk]; exact (hold k _ hb).2
    have him : (i + ys.length) * n = i * n + ys.length * n := Nat.add_mul _ _ _
    have htl : (c.extract (off + i * n) (off + i * n + (xs.length - i) * n)).size = (xs.length - i) * n := by simp; omega
    have hone1 : ∀ v ∈ (c.extract (off + i * n) (off + i * n + (xs.length - i) * n)).toList, v.oneCell' = true := by
      have := flx.one
      intro v hv
      refine this v ?_
      simp only [Array.mem_toList_iff, Array.mem_extract_iff_getElem] at hv ⊢
      obtain ⟨q, hq1, rfl⟩ := hv
      exact ⟨i * n + q, by omega, by congr 1; omega⟩
    obtain ⟨w3, q1, q2, q3, c3, q4, q5, q6⟩ := run_storeCells' (P := P) K (0 + (i + ys.length) * n) e (c.extract (off + i * n) (off + i * n + (xs.length - i) * n)).toList 0 c2 w2.drew p4 (by simp only [Array.length_toList, htl]; omega) hone1
    have osw3 := storeCells_os (P := P) K (0 + (i + ys.length) * n) e (c.extract (off + i * n) (off + i * n + (xs.length - i) * n)).toList 0 c2 w2.drew w3 p4 (by simp only [Array.length_toList, htl]; omega) hone1 q1
    refine list_val h11_8 (w' := w3) (v := goInt (xs.length - i : Nat)) (fun _ => ?_) ?_
    · refine x_copy' (m := xs.length - i) (cs := c.extract (off + i * n) (off + i * n + (xs.length - i) * n)) hT hce (by omega) n50 (by rw [n53]; rfl) (by rw [show xs.length + ys.length - (i + ys.length) = xs.length - i by omega]; exact Nat.min_self _) ?_ q1
      rw [n53]
      simp only [Builtin.firstCells]
      exact run_cells (P := P) hbd2 (by omega)
    generalize hA : b5.put (some 54) (goInt (xs.length - i : Nat)) = b6
    have e0' : b6.eval (.tmp 0) = .slice (some ⟨k, off, none⟩) (xs.length) (cap) := by subst hA; simp [ev_ne, ev_eq, put_sz, hsz, e0, e1, e2, e7, e8, e9]
    have e1' : b6.eval (.tmp 1) = .int .i64 (i : Int) := by subst hA; simp [ev_ne, ev_eq, put_sz, hsz, e0, e1, e2, e7, e8, e9]
    have e2' : b6.eval (.tmp 2) = .slice (some ⟨kv, ov, none⟩) (ys.length) (cv) := by subst hA; simp [ev_ne, ev_eq, put_sz, hsz, e0, e1, e2, e7, e8, e9]
    have e7' : b6.eval (.tmp 7) = .int .i64 (ys.length : Int) := by subst hA; simp [ev_ne, ev_eq, put_sz, hsz, e0, e1, e2, e7, e8, e9]
    have e8' : b6.eval (.tmp 8) = .int .i64 (xs.length : Int) := by subst hA; simp [ev_ne, ev_eq, put_sz, hsz, e0, e1, e2, e7, e8, e9]
    have e9' : b6.eval (.tmp 9) = .slice (some ⟨K, 0, none⟩) (xs.length + ys.length) (gc) := by subst hA; simp [ev_ne, ev_eq, put_sz, hsz, e0, e1, e2, e7, e8, e9]
    have hsz' : b6.tmps.size = 95 := by subst hA; simp [put_sz, hsz, e0, e1, e2, e7, e8, e9]
    have hdef' : b6.defers = [] := by subst hA; simpa [put_defers'] using hdef
    clear hA hsz hdef e0 e1 e2 e7 e8 e9 n50 n53
    have e0 := e0'
    have e1 := e1'
    have e2 := e2'
    have e7 := e7'
    have e8 := e8'
    have e9 := e9'
    have hsz := hsz'
    have hdef := hdef'
    clear hsz' hdef' e0' e1' e2' e7' e8' e9'
    refine wp_seq (wp_region_lit (l := [o12_0, o12_1]) ?_)
    refine list_val h12_0 (w' := w3) (v := .slice (some ⟨K, 0, none⟩) (xs.length + ys.length) (gc)) (fun _ => by rw [x_move]; simp [ev_ne, ev_eq, put_sz, hsz, e0, e1, e2, e7, e8, e9]) ?_
    refine list_val h12_1 (w' := w3) (v := .slice (some ⟨K, 0, none⟩) (xs.length + ys.length) (gc)) (fun _ => by rw [x_assign]; simp [ev_ne, ev_eq, put_sz, hsz, e0, e1, e2, e7, e8, e9]) ?_
    refine wp_ret ?_
    have hk3 : ∀ o, Keep o g w (g.upd K (.lst (.slot 6))) w3 := fun o k' b' h1 h2 => by
      obtain ⟨hkk, h3⟩ := hold k' b' h2
      refine ⟨by rw [Gh.upd_other _ _ hkk]; exact h1, ?_⟩
      rw [q3 k' hkk]
      show w2.heap[k']? = _
      rw [p3 k' hkk]; exact h3
    refine fin _ w3 (g.upd K (.lst (.slot 6))) (.slice (some ⟨K, 0, none⟩) (xs.length + ys.length) gc) (by simp [put_sz, hsz]) (by simpa [put_defers'] using hdef) (by simp [ev_eq, put_sz, hsz]) ?_ (fun o _ => hk3 o) rfl (by rw [q2]; show _ ≤ w2.heap.size; rw [p2, hKK]; exact hw1s) (hos1.trans (osw2.trans osw3))
    rw [← hzl]
    refine ROwn.win flz q4 (by simp) (by omega) (by rw [q5, p5, hC0]; omega) (fun q hq => ?_) (hk3 _) (fun _ _ h => h)
    rw [hflat q hq]
    rw [hzl, Nat.add_mul] at hq
    rw [q6, p6]
    simp only [Array.length_toList, hf2, htl]
    by_cases z1 : q < i * n
    · rw [if_neg (by omega), if_neg (by omega), if_pos z1, hCl _ (by omega)]
      congr 1; omega
    · by_cases z2 : q < i * n + ys.length * n
      · rw [if_neg (by omega), if_pos (by omega), if_neg z1, if_pos z2, Array.getElem?_toList, Array.getElem?_extract, if_pos (by omega)]
        congr 1; omega
      · rw [if_pos (by omega), if_neg z1, if_neg z2, Array.getElem?_toList, Array.getElem?_extract, if_pos (by omega)]
        congr 1; omega
end Go.Sh
namespace Go.Sh
theorem SW.insM {P : Program} {α : Type} {enc : α → D} {T I B e : TypeId} {fo : Nat} {ik : IntKind} {ti : TypeInfo} {z : Value} {zd : D} {n : Nat} {xs ys : List α} {i : Int} {H : List SObj} {Q : Exit → St → Prop} {Z : Code} {i8 i9 i10 i11 i12 i13 i14 i15 i16 i17 : Nat}
    {o8_0 o8_1 o8_2 o8_3 o8_4 o8_5 o9_0 o9_1 o9_2 o9_3 o9_4 o9_5 o9_6 o9_7 o9_8 o9_9 o10_0 o10_1 o10_2 o10_3 o10_4 o11_0 o11_1 o11_2 o11_3 o11_4 o11_5 o11_6 o11_7 o11_8 o12_0 o12_1 o13_0 o13_1 o13_2 o13_3 o13_4 o13_5 o14_0 o14_1 o14_2 o14_3 o14_4 o14_5 o14_6 o14_7 o15_0 o15_1 o15_2 o15_3 o15_4 o15_5 o15_6 o15_7 o15_8 o16_0 o16_1 o16_2 o16_3 o16_4 o17_0 o17_1 : Oper}
    (hc : (decide (0 ≤ i) && decide (i < xs.length) && decide (0 < ys.length) && decide (xs.length + ys.length ≤ room)) = true)
    (hT : P.underlying T = some (.slice e)) (hI : P.underlying I = some (.int ik)) (hi : P.info? e = some ti) (hz : ti.zero = some z) (hzd : constD z = some zd) (hzn : z.cells.size = n) (hsize : ti.size = n) (hn : 0 < n) (hby : ti.bytes ≤ 65536)
    (hov : ∀ (args : Array Value) (w : World), (callFunc fo args).run P w = ((Extern.SlicesOverlaps.overlaps #[T, T] #[B] args).run P w).andThen fun v w' => .ok (.value v) w')
    (hm : P.follows .mixedOrders = true) (hB11 : Region.lexTailB .any #[o11_0, o11_1, o11_2, o11_3, o11_4, o11_5, o11_6, o11_7, o11_8] 8 = true) (hB15 : Region.lexTailB .any #[o15_0, o15_1, o15_2, o15_3, o15_4, o15_5, o15_6, o15_7, o15_8] 8 = true)
    (h8_0 : isOp o8_0 (some 26) (.move (.tmp 8)))
    (h8_1 : isOp o8_1 (some 27) (.move (.tmp 7)))
    (h8_2 : isOp o8_2 (some 28) (.binOp .add I (.tmp 26) (.tmp 27) I))
    (h8_3 : isOp o8_3 (some 29) (.move (.tmp 0)))
    (h8_4 : isOp o8_4 (some 30) (.call ⟨.builtin .cap, #[.tmp 29], #[T]⟩))
    (h8_5 : isOp o8_5 (some 31) (.binOp .gtr I (.tmp 28) (.tmp 30) I))
    (h9_0 : isOp o9_0 (some 32) (.move (.tmp 0)))
    (h9_1 : isOp o9_1 (some 33) (.move (.tmp 1)))
    (h9_2 : isOp o9_2 (some 34) (.slice T (.tmp 32) none (some (.tmp 33)) none))
    (h9_3 : isOp o9_3 (some 35) (.move (.tmp 8)))
    (h9_4 : isOp o9_4 (some 36) (.move (.tmp 7)))
    (h9_5 : isOp o9_5 (some 37) (.binOp .add I (.tmp 35) (.tmp 36) I))
    (h9_6 : isOp o9_6 (some 38) (.move (.tmp 1)))
    (h9_7 : isOp o9_7 (some 39) (.binOp .sub I (.tmp 37) (.tmp 38) I))
    (h9_8 : isOp o9_8 (some 40) (.call ⟨.builtin .append, #[.tmp 34, .tmp 39], #[T, I]⟩))
    (h9_9 : isOp o9_9 (some 9) (.assign (.tmp 40)))
    (h10_0 : isOp o10_0 (some 41) (.move (.tmp 9)))
    (h10_1 : isOp o10_1 (some 42) (.move (.tmp 1)))
    (h10_2 : isOp o10_2 (some 43) (.slice T (.tmp 41) (some (.tmp 42)) none none))
    (h10_3 : isOp o10_3 (some 44) (.move (.tmp 2)))
    (h10_4 : isOp o10_4 (some 45) (.call ⟨.builtin .copy, #[.tmp 43, .tmp 44], #[T, T]⟩))
    (h11_0 : isOp o11_0 (some 46) (.move (.tmp 9)))
    (h11_1 : isOp o11_1 (some 47) (.move (.tmp 1)))
    (h11_2 : isOp o11_2 (some 48) (.move (.tmp 7)))
    (h11_3 : isOp o11_3 (some 49) (.binOp .add I (.tmp 47) (.tmp 48) I))
    (h11_4 : isOp o11_4 (some 50) (.slice T (.tmp 46) (some (.tmp 49)) none none))
    (h11_5 : isOp o11_5 (some 51) (.move (.tmp 0)))
    (h11_6 : isOp o11_6 (some 52) (.move (.tmp 1)))
    (h11_7 : isOp o11_7 (some 53) (.slice T (.tmp 51) (some (.tmp 52)) none none))
    (h11_8 : isOp o11_8 (some 54) (.call ⟨.builtin .copy, #[.tmp 50, .tmp 53], #[T, T]⟩))
    (h12_0 : isOp o12_0 (some 55) (.move (.tmp 9)))
    (h12_1 : isOp o12_1 (some 6) (.assign (.tmp 55)))
    (h13_0 : isOp o13_0 (some 56) (.move (.tmp 0)))
    (h13_1 : isOp o13_1 (some 57) (.move (.tmp 8)))
    (h13_2 : isOp o13_2 (some 58) (.move (.tmp 7)))
    (h13_3 : isOp o13_3 (some 59) (.binOp .add I (.tmp 57) (.tmp 58) I))
    (h13_4 : isOp o13_4 (some 60) (.slice T (.tmp 56) none (some (.tmp 59)) none))
    (h13_5 : isOp o13_5 (some 0) (.assign (.tmp 60)))
    (h14_0 : isOp o14_0 (some 61) (.move (.tmp 2)))
    (h14_1 : isOp o14_1 (some 62) (.move (.tmp 0)))
    (h14_2 : isOp o14_2 (some 63) (.move (.tmp 1)))
    (h14_3 : isOp o14_3 (some 64) (.move (.tmp 7)))
    (h14_4 : isOp o14_4 (some 65) (.binOp .add I (.tmp 63) (.tmp 64) I))
    (h14_5 : isOp o14_5 (some 66) (.slice T (.tmp 62) (some (.tmp 65)) none none))
    (h14_6 : isOp o14_6 (some 67) (.call ⟨.value (.func fo), #[.tmp 61, .tmp 66], #[T, T]⟩))
    (h14_7 : isOp o14_7 (some 68) (.unOp .not B (.tmp 67)))
    (h15_0 : isOp o15_0 (some 69) (.move (.tmp 0)))
    (h15_1 : isOp o15_1 (some 70) (.move (.tmp 1)))
    (h15_2 : isOp o15_2 (some 71) (.move (.tmp 7)))
    (h15_3 : isOp o15_3 (some 72) (.binOp .add I (.tmp 70) (.tmp 71) I))
    (h15_4 : isOp o15_4 (some 73) (.slice T (.tmp 69) (some (.tmp 72)) none none))
    (h15_5 : isOp o15_5 (some 74) (.move (.tmp 0)))
    (h15_6 : isOp o15_6 (some 75) (.move (.tmp 1)))
    (h15_7 : isOp o15_7 (some 76) (.slice T (.tmp 74) (some (.tmp 75)) none none))
    (h15_8 : isOp o15_8 (some 77) (.call ⟨.builtin .copy, #[.tmp 73, .tmp 76], #[T, T]⟩))
    (h16_0 : isOp o16_0 (some 78) (.move (.tmp 0)))
    (h16_1 : isOp o16_1 (some 79) (.move (.tmp 1)))
    (h16_2 : isOp o16_2 (some 80) (.slice T (.tmp 78) (some (.tmp 79)) none none))
    (h16_3 : isOp o16_3 (some 81) (.move (.tmp 2)))
    (h16_4 : isOp o16_4 (some 82) (.call ⟨.builtin .copy, #[.tmp 80, .tmp 81], #[T, T]⟩))
    (h17_0 : isOp o17_0 (some 83) (.move (.tmp 0)))
    (h17_1 : isOp o17_1 (some 6) (.assign (.tmp 83)))
    (hq : Q .ret (sp 95 [(6, .own n ((xs.take i.toNat ++ ys ++ xs.drop i.toNat).map enc))] H)) :
    SW P true (.seq (.seq (.region i8 #[o8_0, o8_1, o8_2, o8_3, o8_4, o8_5] false) (.cond (.tmp 31) (.seq (.region i9 #[o9_0, o9_1, o9_2, o9_3, o9_4, o9_5, o9_6, o9_7, o9_8, o9_9] false) (.seq (.region i10 #[o10_0, o10_1, o10_2, o10_3, o10_4] false) (.seq (.region i11 #[o11_0, o11_1, o11_2, o11_3, o11_4, o11_5, o11_6, o11_7, o11_8] true) (.seq (.region i12 #[o12_0, o12_1] false) .ret)))) .skip)) (.seq (.region i13 #[o13_0, o13_1, o13_2, o13_3, o13_4, o13_5] false) (.seq (.seq (.region i14 #[o14_0, o14_1, o14_2, o14_3, o14_4, o14_5, o14_6, o14_7] false) (.cond (.tmp 68) (.seq (.region i15 #[o15_0, o15_1, o15_2, o15_3, o15_4, o15_5, o15_6, o15_7, o15_8] true) (.seq (.region i16 #[o16_0, o16_1, o16_2, o16_3, o16_4] false) (.seq (.region i17 #[o17_0, o17_1] false) .ret))) .skip)) Z))) (sp 95 [(0, .own n (xs.map enc)), (1, vI i), (2, .d (.list n (ys.map enc))), (7, vI ys.length), (8, vI xs.length)] H) Q := by
  have := SW.ins (P := P) (xs := xs.map enc) (ys := ys.map enc) (i := i) (H := H) (Q := Q) (Z := Z) (i8 := i8) (i9 := i9) (i10 := i10) (i11 := i11) (i12 := i12) (i13 := i13) (i14 := i14) (i15 := i15) (i16 := i16) (i17 := i17) hT hI hi hz hzd hzn hsize hn hby hov hm hB11 hB15 h8_0 h8_1 h8_2 h8_3 h8_4 h8_5 h9_0 h9_1 h9_2 h9_3 h9_4 h9_5 h9_6 h9_7 h9_8 h9_9 h10_0 h10_1 h10_2 h10_3 h10_4 h11_0 h11_1 h11_2 h11_3 h11_4 h11_5 h11_6 h11_7 h11_8 h12_0 h12_1 h13_0 h13_1 h13_2 h13_3 h13_4 h13_5 h14_0 h14_1 h14_2 h14_3 h14_4 h14_5 h14_6 h14_7 h15_0 h15_1 h15_2 h15_3 h15_4 h15_5 h15_6 h15_7 h15_8 h16_0 h16_1 h16_2 h16_3 h16_4 h17_0 h17_1 (by simpa only [List.length_map] using hc)
  simp only [List.length_map, List.map_append, List.map_take, List.map_drop] at this hq ⊢
  exact this hq
section
variable {P : Program} {pu : Bool} {st : St} {ops : Array Oper} {k m : Nat} {Q : St → Prop}
end
def nilB {α ρ : Type} [DecidableEq ρ] (xs : List α) (f : Bool → Option ρ) : Option ρ := bif xs.isEmpty then (if f true = f false then f true else none) else f false
theorem nilB_inv {α ρ : Type} [DecidableEq ρ] {xs : List α} {f : Bool → Option ρ} {r : ρ} (h : nilB xs f = some r) (b : Bool) (hb : b = true → xs = []) : f b = some r := by
  unfold nilB at h
  cases hx : xs.isEmpty with
  | true =>
    rw [hx] at h
    simp only [cond_true] at h
    split at h
    · rename_i e; cases b
      · rw [← e]; exact h
      · exact h
    · cases h
  | false =>
    rw [hx] at h
    cases b with
    | false => exact h
    | true => have := hb rfl; subst this; simp at hx
end Go.Sh
namespace Go.Sh
theorem PC.of_calls {P : Program} {f : FuncId} {args : List SV} {r : SV} (h : ∀ (w : World) (g : Gh) (vs : Array Value), RArgs g w vs args → Calls P f vs w fun e w' => ∃ v, e = .returned v ∧ w' = w ∧ RRes g w v r) : PC P f args r := by
  intro H w g vs hA hH
  refine (h w g vs hA).mono fun e w' hh => ?_
  obtain ⟨v, rfl, rfl, hr⟩ := hh
  exact ⟨v, g, rfl, hr, hH, Fr.refl _ _ _⟩
theorem RArgs.strs2 {g : Gh} {w : World} {vs : Array Value} {a b : List UInt8} (h : RArgs g w vs [vS a, vS b]) : vs = #[.string (mk a), .string (mk b)] := by
  obtain ⟨h1, h2⟩ := h
  obtain ⟨u0, e0, r0⟩ := h2 0 (vS a) rfl
  obtain ⟨u1, e1, r1⟩ := h2 1 (vS b) rfl
  have r0 : Rd g w u0 (.str a) := r0
  have r1 : Rd g w u1 (.str b) := r1
  cases r0; cases r1
  apply Array.ext_getElem?
  intro i
  match i with
  | 0 => simpa using e0
  | 1 => simpa using e1
  | i + 2 => rw [Array.getElem?_eq_none (by rw [h1]; simp), Array.getElem?_eq_none (by simp)]
def cmpS (fuel : Nat) (a b : List UInt8) : Option Int := some (Lib.compareBytes a b)
theorem cmpS_pc {P : Program} {f fuel : Nat} {a b : List UInt8} {r : Int} (h : cmpS fuel a b = some r)
    (hc : ∀ (a b : ByteArray) (w : World), Calls P f #[.string a, .string b] w fun e w' => e = .returned (.int .i64 (Lib.compareBytes a.data.toList b.data.toList)) ∧ w' = w) : PC P f [vS a, vS b] (vI r) := by
  cases h
  refine PC.of_calls fun w g vs hA => ?_
  rw [hA.strs2]
  refine (hc (mk a) (mk b) w).mono fun e w' hh => ?_
  obtain ⟨rfl, rfl⟩ := hh
  exact ⟨_, rfl, rfl, (.int : Rd g w' _ _)⟩
end Go.Sh
namespace Go.Sh
section
variable {P : Program} {pu : Bool} {st : St} {ops : Array Oper}
def markL : List Nat → Array Bool → Array Bool
  | [], l => l
  | m :: ms, l => markL ms (l.setIfInBounds m true)
end
end Go.Sh
namespace Go.Sh
def elemB (P : Program) (T e : TypeId) (n : Nat) : Bool :=
  match P.underlying T, P.info? e with
  | some (.slice e'), some ti => match ti.zero with
    | some z => e' == e && (constD z).isSome && z.cells.size == n && ti.size == n && decide (0 < n) && decide (ti.bytes ≤ 65536)
    | none => false
  | _, _ => false
theorem elemB_spec {P : Program} {T e : TypeId} {n : Nat} (h : elemB P T e n = true) :
    P.underlying T = some (.slice e) ∧ ∃ ti z zd, P.info? e = some ti ∧ ti.zero = some z ∧ constD z = some zd ∧ z.cells.size = n ∧ ti.size = n ∧ 0 < n ∧ ti.bytes ≤ 65536 := by
  unfold elemB at h
  split at h
  · rename_i e' ti hT hi
    split at h
    · rename_i z hz
      simp only [Bool.and_eq_true, decide_eq_true_eq, beq_iff_eq, Option.isSome_iff_exists] at h
      obtain ⟨⟨⟨⟨⟨rfl, zd, hzd⟩, h1⟩, h2⟩, h3⟩, h4⟩ := h
      exact ⟨hT, ti, z, zd, hi, hz, hzd, h1, h2, h3, h4⟩
    · cases h
  · cases h
end Go.Sh
namespace Go.Sh
section
variable {P : Program}
def strKeyB (P : Program) (T : TypeId) : Bool := match P.underlying T with | some (.map k _) => (match P.underlying k with | some .string => true | _ => false) | _ => false
def fieldB (P : Program) (s : TypeId) (f : Nat) : Bool := match P.underlying s with
  | some (.struct fs) => (match fs[f]? with | some fl => ((P.info? fl.type).map fun i => i.size != 0).getD false | none => false)
  | _ => false
end
end Go.Sh
namespace Go.Sh
section
variable {P : Program} {ops : Array Oper} {md : Region.Mode} {R : Act → World → Prop}
end
section
variable {P : Program} {pu : Bool} {st : St} {ops : Array Oper}
end
end Go.Sh
namespace Go.Sh
section
variable {P : Program} {pu : Bool} {st : St} {ops : Array Oper}
theorem upon_NQ {o : Oper} {a : Act} {next : Act → World → Prop} {R R' : Act → World → Prop} {r : Result Next} (h : o.upon P a next (NQ R) r) : o.upon P a next (NQ R') r := by
  cases r with
  | ok n w' =>
    cases n <;> simp only [Oper.upon] at h ⊢ <;> first
      | exact h
      | (refine h.mono fun e w'' hh => ?_
         cases e with
         | returned v => exact hh
         | panicked ch => cases hh.1
         | outgrown => exact absurd hh NQ.out)
  | halt hh w' => cases hh <;> simp only [Oper.upon] at h ⊢ <;> first | exact h | cases h.1
def lstM (n m : Nat) : Array Bool := ((List.range n).map (fun i => m.testBit i)).toArray
theorem lstM_set (n m i : Nat) : (lstM n m).setIfInBounds i true = lstM n (m ||| 2 ^ i) := by
  apply Array.ext_getElem?
  intro j
  simp only [lstM, Array.getElem?_setIfInBounds]
  by_cases hj : j < n
  · by_cases e : i = j
    · subst e; simp [hj, Nat.testBit_or]
    · simp [e, hj, Nat.testBit_or, Nat.testBit_two_pow]
  · simp [hj]; omega
theorem lstM_zero (n : Nat) : lstM n 0 = Array.replicate n false := by
  apply Array.ext_getElem?
  intro j
  by_cases hj : j < n
  · simp [lstM, hj]
  · simp [lstM, hj]
def oneA (ops : Array Oper) (i : Nat) : Array Oper := match ops[i]? with
  | some o => #[o]
  | none => #[]
def OX (P : Program) (pu : Bool) (ops : Array Oper) (d m : Nat) (st st' : St) : Prop :=
  ∀ a w g, Rel st a w g → ∀ R : Act → World → Prop, (∀ a' w' g', Rel st' a' w' g' → Fr pu g w g' w' → R a' w') → wpAny P .any ops (NQ R) d (lstM ops.size m) a w
def AllI : List Nat → (Nat → Prop) → Prop
  | [], _ => True
  | i :: r, p => p i ∧ AllI r p
theorem AllI_mem {p : Nat → Prop} : ∀ {l : List Nat}, AllI l p → ∀ i ∈ l, p i
  | i :: r, h, j, hj => by
    rcases List.mem_cons.1 hj with rfl | hj
    · exact h.1
    · exact AllI_mem h.2 j hj
theorem OX.fin {m : Nat} (h : Region.ready .any ops (lstM ops.size m) = []) : OX P pu ops 0 m st st :=
  fun a w g hr R hR => ⟨h, rfl, hR a w g hr (Fr.refl _ _ _)⟩
theorem OX.step {d m i0 : Nat} {is : List Nat} {st' : St} (hg : ops.all (fun o => o.guard.isNone) = true) (h : Region.ready .any ops (lstM ops.size m) = i0 :: is)
    (hs : AllI (i0 :: is) (fun i => OWk P pu (oneA ops i) 0 st (fun s => OX P pu ops d (m ||| 2 ^ i) s st'))) : OX P pu ops (d + 1) m st st' := by
  intro a w g hr R hR
  unfold wpAny
  rw [h]
  refine ⟨fun e => (List.cons_ne_nil _ _ e).elim, fun i hi => ?_⟩
  have hi' : i ∈ Region.ready .any ops (lstM ops.size m) := by rw [h]; exact hi
  obtain ⟨_, o, ho, _⟩ := mem_ready.1 hi'
  have h1 := AllI_mem hs i hi
  have hog : o.guard = none := opsOf_ng hg [i] o (by simp [opsOf, ho])
  simp only [oneA, ho] at h1
  unfold OWk at h1
  rw [List.drop_zero] at h1
  have h2 := h1 a w g hr (NQ (wpAny P .any ops (NQ R) d (lstM ops.size (m ||| 2 ^ i)))) (fun st1 a1 w1 g1 q1 r1 f1 => ⟨rfl, q1 a1 w1 g1 r1 R fun a' w' g' r2 f2 => hR a' w' g' r2 (f1.trans f2)⟩)
  unfold wpOp
  rw [ho]
  simp only
  rw [if_pos (wanted_ng hog _)]
  unfold wpList at h2
  rw [if_pos (wanted_ng hog _)] at h2
  rcases h2 with h2 | h2
  · left
    rw [lstM_set]
    have h3 := Oper.wp_mono (K' := wpAny P .any ops (NQ R) d (lstM ops.size (m ||| 2 ^ i))) (fun a' w' hh => (show NQ (wpAny P .any ops (NQ R) d (lstM ops.size (m ||| 2 ^ i))) .normal a' w' from hh).2) h2
    exact upon_NQ h3
  · exact absurd h2.2 NQ.out
theorem SW.regionX {id : Nat} {l : List Oper} {Q : Exit → St → Prop} {st' : St} (hm : P.follows .mixedOrders = true) (h : OX P pu l.toArray l.length 0 st st') (hq : Q .normal st') : SW P pu (.region id l.toArray true) st Q := by
  intro a w g hr
  refine Code.wp_mono (Q := NQ fun a' w' => ∃ st' g', Q .normal st' ∧ Rel st' a' w' g' ∧ Fr pu g w g' w') (fun e a' w' hh => by obtain ⟨rfl, hh⟩ := hh; exact hh) ?_
  refine wp_region_any hm ?_
  have := h a w.drew g hr.drew (fun a' w' => ∃ st' g', Q .normal st' ∧ Rel st' a' w' g' ∧ Fr pu g w g' w') (fun a' w' g' r f => ⟨st', g', hq, r, Fr.drew.trans f⟩)
  rw [lstM_zero] at this
  simpa using this
end
end Go.Sh
namespace Go.Sh
theorem SW.regX {P : Program} {pu : Bool} {st : St} {id : Nat} {l : List Oper} {Q : Exit → St → Prop} (n : Nat) (H : List SObj) (ll : List (Nat × SV)) (hm : P.follows .mixedOrders = true)
    (h : ∀ X : Nat → Nat → St → Prop, (X = fun d m s => OX P pu l.toArray d m s (sp n ll H)) → X l.length 0 st) (hq : Q .normal (sp n ll H)) : SW P pu (.region id l.toArray true) st Q :=
  SW.regionX hm (h _ rfl) hq
end Go.Sh
namespace Go.Sh
section
variable {P : Program} {pu : Bool} {st : St} {ops : Array Oper} {Q : St → Prop} {k : Nat}
theorem OpS.boxF {o : Oper} {T : TypeId} {x : Operand} {d : Nat} {y : D} (hop : o.op = .box T x) (hd : o.dst = some d) (hy : valD st x = some y) : OpS P pu st o (st.put (some d) (.d (.dptr y.cells))) := by
  refine OpS.value fun a w g hr => ?_
  have e2 := valD_d hr hy
  obtain ⟨c1, c2⟩ := e2.cells
  rw [hd]
  have hr1 : Rel st a (w.alloc (.cells (a.eval x).cells T)) (g.upd w.heap.size .free) := hr.world (fun _ => Keep.alloc) (fun _ _ h => h) rfl
  have hrd : Rd (g.upd w.heap.size .free) (w.alloc (.cells (a.eval x).cells T)) (.pointer (some ⟨w.heap.size, 0, none⟩)) (.dptr y.cells) := by
    refine .dptr (fun j => (a.eval x).cells.getD j undef) (by simp) (heap_alloc _ _) (fun j z hj => ?_) (fun j z hj => ?_)
    · obtain ⟨u, u1, u2, u3⟩ := c2 j z hj
      rw [Nat.zero_add]
      simp only [Array.getD_eq_getD_getElem?, u1, Option.getD_some]
      exact ⟨trivial, u3⟩
    · obtain ⟨u, u1, u2, u3⟩ := c2 j z hj
      simp only [Array.getD_eq_getD_getElem?, u1, Option.getD_some]
      exact Rd.keep Keep.alloc (fun _ _ h => h) u2
  refine ⟨.pointer (some ⟨w.heap.size, 0, none⟩), w.alloc (.cells (a.eval x).cells T), _, ?_, hr1.putLight (some d) hrd, Fr.alloc⟩
  unfold execOp; rw [hop]
  simp only [Instr.box, Sem.run_bind, newVar, newRow, run_newObj, Result.andThen_ok, Sem.run_pure]
  rfl
def bxAt (ops : Array Oper) (k : Nat) (st : St) : Option (Nat × List D) :=
  match ops[k]? with
  | some o => match o.op, o.dst with
    | .box _ x, some d => match valD st x with
      | some y => if wantS ops st o = some true then some (d, y.cells) else none
      | none => none
    | _, _ => none
  | none => none
theorem OWk.bxf (n : Nat) (H : List SObj) {d : Nat} {ds : List D} (L : List Nat) (l : List (Nat × SV)) (h : bxAt ops k st = some (d, ds)) (hst : pickR n L (st.put (some d) (.d (.dptr ds))) = some (l, H))
    (hn : OWk P pu ops (k + 1) (sp n l H) Q) : OWk P pu ops k st Q := by
  unfold bxAt at h
  split at h
  · rename_i o ho
    split at h
    · rename_i T x d' hop hd
      split at h
      · rename_i y hy
        split at h
        · rename_i hw
          cases h
          exact OWk.e ho hw (OpS.boxF hop hd hy) (OWk.keep L (keepR_of_pick hst) hn)
        · cases h
      · cases h
    · cases h
  · cases h
end
end Go.Sh
namespace Go.Sh
open Go.Sort
end Go.Sh
namespace Go.Sh
section
variable {P : Program} {pu : Bool} {st : St}
end
end Go.Sh
namespace Go.Sh
section
variable {P : Program} {ops : Array Oper} {md : Region.Mode} {R : Act → World → Prop} {pu : Bool} {st : St}
def Blind (P : Program) {α : Type} (m : Sem α) : Prop := ∀ w x w', m.run P w = .ok x w' → w' = w ∧ ∀ w2, m.run P w2 = .ok x w2
theorem Blind.pure {α : Type} (x : α) : Blind P (Pure.pure x : Sem α) := fun w y w' h => by
  rw [Sem.run_pure] at h; cases h; exact ⟨rfl, fun w2 => by rw [Sem.run_pure]⟩
theorem Blind.never {α : Type} {m : Sem α} (h : ∀ w x w', m.run P w ≠ .ok x w') : Blind P m := fun w x w' h1 => absurd h1 (h w x w')
theorem Blind.halt {α : Type} (hh : Halt) : Blind P (Sem.halt hh : Sem α) := .never fun w x w' h => by simp [Sem.run] at h
theorem Blind.bind {α β : Type} {m : Sem α} {f : α → Sem β} (h1 : Blind P m) (h2 : ∀ x, Blind P (f x)) : Blind P (m >>= f) := fun w x w' h => by
  rw [Sem.run_bind] at h
  cases hm : m.run P w with
  | ok y w1 =>
    rw [hm, Result.andThen_ok] at h
    obtain ⟨rfl, a2⟩ := h1 w y w1 hm
    obtain ⟨b1, b2⟩ := h2 y _ x w' h
    exact ⟨b1, fun w2 => by rw [Sem.run_bind, a2 w2, Result.andThen_ok]; exact b2 w2⟩
  | halt y w1 => rw [hm] at h; cases h
theorem Blind.program : Blind P Go.program := fun w x w' h => by
  simp only [Go.program, Sem.run] at h; cases h; exact ⟨rfl, fun w2 => rfl⟩
theorem Blind.typeInfo (t : TypeId) : Blind P (Go.typeInfo t) := by
  unfold Go.typeInfo
  refine Blind.program.bind fun p => ?_
  split
  · exact .pure _
  · exact .halt _
theorem Blind.underlying (t : TypeId) : Blind P (Go.underlying t) := by
  unfold Go.underlying
  refine Blind.program.bind fun p => ?_
  split
  · exact .pure _
  · exact .halt _
theorem Blind.sizeOf (t : TypeId) : Blind P (Go.sizeOf t) := (Blind.typeInfo t).bind fun _ => .pure _
theorem nilDeref_never {α : Type} : ∀ w (x : α) w', (runtimePanic .nilDeref : Sem α).run P w ≠ .ok x w' := fun w x w' h => by
  unfold runtimePanic at h
  simp [Sem.run_bind, Go.program, Sem.run, Result.andThen_ok, goPanic] at h
theorem bounds_never {α : Type} (x y : Int) (s : Bool) (c : BoundsCode) : ∀ w (z : α) w', (runtimePanic (.bounds x y s c) : Sem α).run P w ≠ .ok z w' := fun w z w' h => by
  unfold runtimePanic at h
  simp [Sem.run_bind, Go.program, Sem.run, Result.andThen_ok, goPanic] at h
theorem Blind.nilDeref {α : Type} : Blind P (runtimePanic .nilDeref : Sem α) := .never nilDeref_never
theorem never_bind {α β : Type} {m : Sem α} {f : α → Sem β} (h : ∀ y w x w', (f y).run P w ≠ .ok x w') : ∀ w x w', (m >>= f).run P w ≠ .ok x w' := fun w x w' h1 => by
  rw [Sem.run_bind] at h1
  cases hm : m.run P w with
  | ok y w1 => rw [hm, Result.andThen_ok] at h1; exact h y _ _ _ h1
  | halt y w1 => rw [hm] at h1; cases h1
theorem Blind.bounds {α : Type} (k : IntKind) (x y : Int) (c : BoundsCode) : Blind P (boundsPanic k x y c : Sem α) := .never fun w z w' h => by
  unfold boundsPanic at h
  simp only at h
  split at h
  · exact never_bind (fun s => bounds_never _ _ _ _) _ _ _ h
  · exact never_bind (fun s => bounds_never _ _ _ _) _ _ _ h
theorem Blind.asIntOf (v : Value) : Blind P (Go.asIntOf v) := by
  unfold Go.asIntOf
  split
  · exact .pure _
  · exact .halt _
  · exact .halt _
theorem Blind.asAddr (v : Value) : Blind P (Go.asAddr v) := by
  unfold Go.asAddr
  split
  · exact .pure _
  · exact .nilDeref
  · exact .halt _
theorem Blind.sureAddr (v : Value) : Blind P (Instr.sureAddr v) := by
  unfold Instr.sureAddr
  split
  · exact .pure _
  · exact .halt _
theorem Blind.sliceBound (x : Value) (y : Nat) (c : BoundsCode) : Blind P (Instr.sliceBound x y c) := by
  unfold Instr.sliceBound
  refine (Blind.asIntOf x).bind fun p => ?_
  obtain ⟨k, i⟩ := p
  simp only
  split
  · exact .pure _
  · exact .bounds _ _ _ _
theorem Blind.sliceBounds (s : Bool) (len cap : Nat) (lo hi mx : Option Value) : Blind P (Instr.sliceBounds s len cap lo hi mx) := by
  unfold Instr.sliceBounds
  dsimp only
  repeat' first
    | exact .pure _
    | exact .halt _
    | exact .sliceBound _ _ _
    | refine Blind.bind ?_ fun _ => ?_
    | split
theorem Blind.slice (t : TypeId) (x : Value) (lo hi mx : Option Value) : Blind P (Instr.slice t x lo hi mx) := by
  unfold Instr.slice
  dsimp only
  repeat' first
    | exact .pure _
    | exact .halt _
    | exact .underlying _
    | exact .sizeOf _
    | exact .asAddr _
    | exact .sliceBounds _ _ _ _ _ _
    | refine Blind.bind ?_ fun _ => ?_
    | split
theorem Blind.sliceAt (t : TypeId) (x : Value) (lo hi mx : Option Value) : Blind P (Instr.sliceAt t x lo hi mx) := by
  unfold Instr.sliceAt
  dsimp only
  repeat' first
    | exact .pure _
    | exact .halt _
    | exact .underlying _
    | exact .sizeOf _
    | exact .sureAddr _
    | exact .slice _ _ _ _ _
    | exact .sliceBounds _ _ _ _ _ _
    | refine Blind.bind ?_ fun _ => ?_
    | split
theorem Blind.under {T : TypeId} {d : TypeDesc} (hd : P.underlying T = some d) {α : Type} {f : TypeDesc → Sem α} (h : Blind P (f d)) : Blind P (Go.underlying T >>= f) := fun w x w' h1 => by
  rw [Sem.run_bind, run_underlying hd, Result.andThen_ok] at h1
  obtain ⟨a, b⟩ := h w x w' h1
  exact ⟨a, fun w2 => by rw [Sem.run_bind, run_underlying hd, Result.andThen_ok]; exact b w2⟩
theorem Blind.fieldAt {s : TypeId} {f : Nat} (h : fieldB P s f = true) (x : Value) : Blind P (Instr.fieldAt s x f) := by
  unfold fieldB at h
  split at h
  · rename_i fs hs
    split at h
    · rename_i fl hf
      cases hi : P.info? fl.type with
      | none => rw [hi] at h; cases h
      | some i =>
        rw [hi] at h
        simp only [Option.map_some, Option.getD_some, bne_iff_ne, ne_eq] at h
        have hti : ∀ w, (Go.typeInfo fl.type).run P w = .ok i w := fun w => by
          unfold Go.typeInfo Go.program
          simp [Sem.run_bind, Sem.run, hi]
        unfold Instr.fieldAt
        refine Blind.under hs ?_
        simp only [hf]
        refine (Blind.sureAddr x).bind fun a => Blind.bind ?_ fun _ => .pure _
        unfold fieldPlace
        intro w y w' h1
        simp only [Sem.run_bind, Go.sizeOf, hti, Result.andThen_ok, Sem.run_pure, h, if_false] at h1
        cases h1
        exact ⟨rfl, fun w2 => by simp only [Sem.run_bind, Go.sizeOf, hti, Result.andThen_ok, Sem.run_pure, h, if_false]⟩
    · cases h
  · cases h
theorem Blind.indexAt (t : TypeId) (x ix : Value) : Blind P (Instr.indexAt t x ix) := by
  unfold Instr.indexAt
  dsimp only
  repeat' first
    | exact .pure _
    | exact .halt _
    | exact .underlying _
    | exact .sizeOf _
    | exact .sureAddr _
    | exact .asIntOf _
    | exact .bounds _ _ _ _
    | refine Blind.bind ?_ fun _ => ?_
    | split
def blindB (P : Program) (o : Oper) : Bool := match o.op with
  | .move _ | .slice _ _ _ _ _ | .indexAddr _ _ _ => true
  | .fieldAddr s _ f => fieldB P s f
  | _ => false
theorem blindB_spec {o : Oper} (h : blindB P o = true) (ρ : Operand → Value) : Blind P (execOp ρ o) := by
  unfold blindB at h
  unfold execOp
  split at h
  · rename_i x hop; rw [hop]; exact .pure _
  · rename_i T x lo hi mx hop; rw [hop]; exact (Blind.sliceAt _ _ _ _ _).bind fun _ => .pure _
  · rename_i T x i hop; rw [hop]; exact (Blind.indexAt _ _ _).bind fun _ => .pure _
  · rename_i s x f hop; rw [hop]; exact (Blind.fieldAt h _).bind fun _ => .pure _
  · cases h
def PureAt (P : Program) (o : Oper) (a : Act) (v : Value) : Prop := ∀ w, (execOp a.eval o).run P w = .ok (.value v) w
theorem value_of {m : Sem Value} {w : World} {n : Next} {w' : World} (h : (do pure (.value (← m)) : Sem Next).run P w = .ok n w') : ∃ v, n = .value v := by
  rw [Sem.run_bind] at h
  cases hm : m.run P w with
  | ok y w1 => rw [hm, Result.andThen_ok, Sem.run_pure] at h; cases h; exact ⟨_, rfl⟩
  | halt y w1 => rw [hm] at h; cases h
theorem blindB_value {o : Oper} (h : blindB P o = true) {ρ : Operand → Value} {w : World} {n : Next} {w' : World} (hr : (execOp ρ o).run P w = .ok n w') : ∃ v, n = .value v := by
  unfold blindB at h
  unfold execOp at hr
  split at h
  · rename_i x hop; rw [hop] at hr; simp only [Sem.run_pure] at hr; cases hr; exact ⟨_, rfl⟩
  · rename_i T x lo hi mx hop; rw [hop] at hr; exact value_of hr
  · rename_i T x i hop; rw [hop] at hr; exact value_of hr
  · rename_i s x f hop; rw [hop] at hr; exact value_of hr
  · cases h
theorem blindB_sel {o : Oper} (h : blindB P o = true) (cs : Array SelectCase) (b : Bool) : o.op ≠ .select cs b := fun e => by
  unfold blindB at h
  rw [e] at h
  cases h
theorem PureAt.put {o oj : Oper} (hap : o.apart ops oj = true) (hs : ∀ cs b, o.op ≠ .select cs b) {a : Act} {v u : Value} (h : PureAt P o a v) : PureAt P o (a.put oj.dst u) v := fun w => by
  rw [execOp_put (ops := ops) o hs a oj.dst u (Oper.apart_spec hap).2.2]
  exact h w
theorem PureAt.defers {o : Oper} {a : Act} {v : Value} (h : PureAt P o a v) (ds : List Deferred) : PureAt P o { a with defers := ds } v := fun w => by
  have e : ({ a with defers := ds } : Act).eval = a.eval := funext (eval_defers a ds)
  rw [e]; exact h w
theorem wpOp_pure {j : Nat} {oi oj : Oper} {v : Value} (hj : ops[j]? = some oj) (hb : blindB P oi = true) (hap : oi.apart ops oj = true) (hsj : ∀ cs b, oj.op ≠ .select cs b) {K : Act → World → Prop} {a : Act} {w : World}
    (hv : PureAt P oi a v) (h : wpOp P ops (NQ R) j K (a.put oi.dst v) w) : wpOp P ops (NQ R) j (fun a' w' => PureAt P oi a' v ∧ K (a'.put oi.dst v) w') a w := by
  obtain ⟨h1, h2, h3⟩ := Oper.apart_spec hap
  have keep : ∀ u, PureAt P oi (a.put oj.dst u) v := fun u => hv.put hap (blindB_sel hb)
  have keep' : ∀ u ds, PureAt P oi (({ a with defers := ds } : Act).put oj.dst u) v := fun u ds => (hv.defers ds).put hap (blindB_sel hb)
  unfold wpOp at *
  simp only [hj] at *
  rw [wanted_put oj a oi.dst v h1] at h
  split
  · rename_i hw
    simp only [hw, if_true] at h
    refine .inl ?_
    rcases h with h | h
    · unfold Oper.wp at *
      rw [execOp_put oj hsj a oi.dst v h1] at h
      generalize (execOp a.eval oj).run P w = r at *
      cases r with
      | ok n w' =>
        cases n <;> simp only [Oper.upon] at h ⊢
        case value u => exact ⟨keep u, by rw [← Act.put_comm a v u h2]; exact h⟩
        case skip => exact ⟨keep _, by rw [← Act.put_comm a v undef h2]; exact h⟩
        case defer d =>
          refine ⟨keep' _ _, ?_⟩
          rw [put_defers', defers_put] at h
          rw [← Act.put_comm _ v undef h2]; exact h
        case enter f args =>
          refine h.mono fun e w'' hh => ?_
          cases e with
          | returned u => exact ⟨keep u, by rw [← Act.put_comm a v u h2]; exact hh⟩
          | panicked chain => exact absurd hh.1 (by simp)
          | outgrown => exact absurd hh NQ.out
        case row row args => exact h.mono fun u w'' hh => ⟨keep u, by rw [← Act.put_comm a v u h2]; exact hh⟩
      | halt y w' =>
        cases y <;> simp only [Oper.upon] at h ⊢
        exact absurd h.1 (by simp)
    · exact absurd h.2 NQ.out
  · rename_i hw
    simp only [hw] at h
    exact ⟨keep _, by rw [← Act.put_comm a v undef h2]; exact h⟩
theorem wpAny_pure {i : Nat} {oi : Oper} {v : Value} (hi : ops[i]? = some oi) (hb : blindB P oi = true) (hg : oi.guard = none) (hsel : ∀ (j : Nat) (o : Oper) cs b, ops[j]? = some o → o.op ≠ .select cs b) :
    ∀ (fuel : Nat) (listed : Array Bool) (a : Act) (w : World), PureAt P oi a v →
      (∀ j oj, ops[j]? = some oj → j ≠ i → listed.getD j true = false → (∀ e ∈ oj.after, Region.binds md e = true → e.on ≠ i) → oi.apart ops oj = true) →
      i ∈ Region.ready md ops listed →
      wpAny P md ops (NQ R) fuel (listed.setIfInBounds i true) (a.put oi.dst v) w → wpAny P md ops (NQ R) (fuel + 1) listed a w := by
  have one : ∀ (K : Act → World → Prop) (a : Act) (w : World), PureAt P oi a v → K (a.put oi.dst v) w → wpOp P ops (NQ R) i K a w := fun K a w hv h => by
    unfold wpOp
    simp only [hi]
    have hw : Region.wanted oi (yielded ops a.tmps) = true := by unfold Region.wanted; rw [hg]
    rw [if_pos hw]
    refine .inl ?_
    unfold Oper.wp
    rw [hv w, Oper.upon_value]
    exact h
  intro fuel
  induction fuel with
  | zero =>
    intro listed a w hv _ hr H
    refine ⟨fun h => (by rw [h] at hr; cases hr), fun j hj => ?_⟩
    by_cases hji : j = i
    · subst hji; exact one _ a w hv H
    · have := ready_mono hj hji
      rw [H.1] at this
      cases this
  | succ fuel ih =>
    intro listed a w hv hfree hr H
    refine ⟨fun h => (by rw [h] at hr; cases hr), fun j hj => ?_⟩
    by_cases hji : j = i
    · subst hji; exact one _ a w hv H
    · have h1 := H.2 j (ready_mono hj hji)
      obtain ⟨hjun, oj, hoj, hall⟩ := mem_ready.1 hj
      have hnot : ∀ e ∈ oj.after, Region.binds md e = true → e.on ≠ i := fun e he hb heq => by
        have h1 := hall e he hb
        have h0 := (mem_ready.1 hr).1
        rw [heq] at h1
        rcases Nat.lt_or_ge i listed.size with h' | h'
        · simp [h'] at h0 h1; rw [h0] at h1; cases h1
        · simp [Array.getElem?_eq_none h'] at h1
      have h2 := wpOp_pure hoj hb (hfree j oj hoj hji hjun hnot) (fun cs b => hsel j oj cs b hoj) hv h1
      have hfree' : ∀ k ok, ops[k]? = some ok → k ≠ i → (listed.setIfInBounds j true).getD k true = false →
          (∀ e ∈ ok.after, Region.binds md e = true → e.on ≠ i) → oi.apart ops ok = true := fun k ok hk hki hun hno => by
        refine hfree k ok hk hki ?_ hno
        by_cases hjk : j = k
        · subst hjk; exact hjun
        · rw [getD_set_ne true hjk] at hun; exact hun
      refine wpOp_mono (fun a' w' h3 => ih (listed.setIfInBounds j true) a' w' h3.1 hfree' (ready_mono hr (Ne.symm hji)) ?_) h2
      rw [Array.setIfInBounds_comm _ _ hji]
      exact h3.2
def puresB (P : Program) (ops : Array Oper) : List Nat → Array Bool → Bool
  | [], _ => true
  | m :: ms, l => ((ops[m]?).map (blindB P)).getD false && (Region.ready .any ops l).contains m && Region.free .any ops l m && puresB P ops ms (l.setIfInBounds m true)
theorem wpAny_pures (hng : ops.all (fun o => o.guard.isNone) = true) (hsel : ∀ (j : Nat) (o : Oper) cs b, ops[j]? = some o → o.op ≠ .select cs b) {Q : Act → Prop} {w : World} {fuel : Nat} :
    ∀ (ms : List Nat) (l : Array Bool) (a : Act), puresB P ops ms l = true → (∀ a', Q a' → wpAny P .any ops (NQ R) fuel (markL ms l) a' w) →
      wpStill P ops w Q (opsOf ops ms) a → wpAny P .any ops (NQ R) (ms.length + fuel) l a w
  | [], l, a, _, hk, h => by simpa [markL] using hk a h
  | m :: ms, l, a, hb, hk, h => by
    simp only [puresB, Bool.and_eq_true] at hb
    obtain ⟨⟨⟨b1, b2⟩, b3⟩, b4⟩ := hb
    have hmr : m ∈ Region.ready .any ops l := by simpa using b2
    obtain ⟨hm0, om, hom, hmall⟩ := mem_ready.1 hmr
    rw [hom] at b1
    have b1 : blindB P om = true := by simpa using b1
    have hmg : om.guard = none := opsOf_ng hng [m] om (by simp [opsOf, hom])
    have hcons : opsOf ops (m :: ms) = om :: opsOf ops ms := by simp [opsOf, hom]
    rw [hcons] at h
    unfold wpStill at h
    rw [if_pos (wanted_ng hmg _)] at h
    unfold Oper.still at h
    cases hx : (execOp a.eval om).run P w with
    | halt y w1 => rw [hx] at h; exact h.elim
    | ok n w1 =>
      obtain ⟨v, rfl⟩ := blindB_value b1 hx
      obtain ⟨rfl, hall⟩ := blindB_spec b1 a.eval w _ w1 hx
      rw [hx, Oper.stillUpon_value] at h
      have := wpAny_pures hng hsel ms (l.setIfInBounds m true) _ b4 hk h
      have e : (m :: ms).length + fuel = (ms.length + fuel) + 1 := by simp; omega
      rw [e]
      exact wpAny_pure hom b1 hmg hsel _ _ a _ hall (Region.free_spec hom b3) hmr this
theorem SW.regXP {id : Nat} {l : List Oper} {Q : Exit → St → Prop} (n : Nat) (H : List SObj) (ll : List (Nat × SV)) (ms : List Nat) (d M : Nat) (hm : P.follows .mixedOrders = true)
    (hB : (Region.noSelect l.toArray && l.toArray.all (fun o => o.guard.isNone) && puresB P l.toArray ms (Array.replicate l.toArray.size false) && decide (l.toArray.size = ms.length + d) && decide ((opsOf l.toArray ms).length = ms.length)) = true)
    (hM : markL ms (Array.replicate l.toArray.size false) = lstM l.toArray.size M)
    (h : ∀ X : Nat → Nat → St → Prop, (X = fun d m s => OX P pu l.toArray d m s (sp n ll H)) → OBk P (opsOf l.toArray ms).toArray ms.length 0 st (fun st1 => X d M st1)) (hq : Q .normal (sp n ll H)) : SW P pu (.region id l.toArray true) st Q := by
  have h := h _ rfl
  generalize hops : l.toArray = ops at *
  simp only [Bool.and_eq_true, decide_eq_true_eq] at hB
  obtain ⟨⟨⟨⟨b1, b2⟩, b3⟩, b4⟩, b5⟩ := hB
  intro a w g hr
  refine Code.wp_mono (Q := NQ fun a' w' => ∃ st' g', Q .normal st' ∧ Rel st' a' w' g' ∧ Fr pu g w g' w') (fun e a' w' hh => by obtain ⟨rfl, hh⟩ := hh; exact hh) ?_
  refine wp_region_any hm ?_
  have hl1 : (opsOf ops ms).toArray.toList.take ms.length = opsOf ops ms := by simp [← b5]
  unfold OBk at h
  rw [List.drop_zero, hl1] at h
  have key := h a w.drew g hr.drew (fun a' => wpAny P .any ops (NQ fun a' w' => ∃ st' g', Q .normal st' ∧ Rel st' a' w' g' ∧ Fr pu g w g' w') d (lstM ops.size M) a' w.drew) (fun st1 a1 g1 q1 r1 f1 =>
    q1 a1 w.drew g1 r1 _ fun a' w' g' r f => ⟨sp n ll H, g', hq, r, (Fr.drew.trans (f1 pu)).trans f⟩)
  have key := wpStill_ng (ops := ops) (opsOf_ng b2 ms) key
  rw [b4]
  rw [b4] at hM key
  refine wpAny_pures b2 (Region.noSelect_spec b1) (Q := fun a' => wpAny P .any ops (NQ fun a' w' => ∃ st' g', Q .normal st' ∧ Rel st' a' w' g' ∧ Fr pu g w g' w') d (lstM (ms.length + d) M) a' w.drew) ms _ a (by rw [← b4]; exact b3) (fun a' ha' => ?_) key
  rw [hM]
  exact ha'
end
end Go.Sh
namespace Go.Sh
def backH (t : Nat) : Own → Own
  | .free => .free
  | .obj i => .obj i
  | .lst (.hcell i j) => .lst (.hcell i j)
  | .lst (.slot 0) => .lst (.slot t)
  | .lst (.comp 0 j) => .lst (.comp t j)
  | _ => .lst .els
def sharedO : Own → Bool
  | .obj _ | .lst (.hcell _ _) => true
  | _ => false
def afterH (n t : Nat) (ow ow' : Nat → Own) (k : Nat) : Own := if k < n ∧ sharedO (ow k) = false then ow k else backH t (ow' k)
def noHl : SV → Bool
  | .lent (.hcell _ _) _ _ | .lptr (.hcell _ _) _ => false
  | _ => true
section
variable {P : Program} {ops : Array Oper} {rest : List Oper} {st : St} {Q : St → Prop}
theorem keptH {g g' : Gh} {w w' : World} (hf : Fr false (g.ren (calleeOw [] [])) w g' w') {k : Nat} {b : Obj} (hb : w.heap[k]? = some b) (hs : sharedO (g.ow k) = false) :
    (g'.ow k = .free ∨ g'.ow k = .out) ∧ (g'.ow k = .free → g.ow k = .free) ∧ w'.heap[k]? = some b := by
  cases ho : g.ow k with
  | free =>
    have h1 : (g.ren (calleeOw [] [])).ow k = .free := by simp [Gh.ren, ho, calleeOw]
    obtain ⟨e1, e2⟩ := hf.free k b h1 hb
    exact ⟨.inl e1, fun _ => rfl, e2⟩
  | obj i => rw [ho] at hs; cases hs
  | out =>
    have h1 : (g.ren (calleeOw [] [])).ow k = .out := by simp [Gh.ren, ho, calleeOw]
    obtain ⟨e1, e2⟩ := hf.out k b h1 hb
    exact ⟨.inr e1, (fun h => by rw [e1] at h; cases h), e2⟩
  | box t =>
    have h1 : (g.ren (calleeOw [] [])).ow k = .out := by simp [Gh.ren, ho, calleeOw]
    obtain ⟨e1, e2⟩ := hf.out k b h1 hb
    exact ⟨.inr e1, (fun h => by rw [e1] at h; cases h), e2⟩
  | lst l =>
    have h1 : (g.ren (calleeOw [] [])).ow k = .out := by
      cases l <;> simp [Gh.ren, ho, calleeOw]
      rw [ho] at hs; cases hs
    obtain ⟨e1, e2⟩ := hf.out k b h1 hb
    exact ⟨.inr e1, (fun h => by rw [e1] at h; cases h), e2⟩
theorem keepH {g g' : Gh} {w w' : World} {t : Nat} (hf : Fr false (g.ren (calleeOw [] [])) w g' w') {o : Own} (ho : sharedO o = false) : Keep o g w ⟨afterH w.heap.size t g.ow g'.ow, g'.ρ⟩ w' := fun k b h1 h2 => by
  have hlt : k < w.heap.size := (Array.getElem?_eq_some_iff.1 h2).1
  refine ⟨?_, (keptH hf h2 (by rw [h1]; exact ho)).2.2⟩
  simp only [afterH]
  rw [if_pos ⟨hlt, by rw [h1]; exact ho⟩]
  exact h1
theorem tagH {g g' : Gh} {w w' : World} {t : Nat} (hf : Fr false (g.ren (calleeOw [] [])) w g' w') {k : Nat} {o : Own} (ho : o ≠ .out) (hk : g'.ow k = o) (hfree : o = .free → backH t o = .free) :
    (⟨afterH w.heap.size t g.ow g'.ow, g'.ρ⟩ : Gh).ow k = backH t o := by
  simp only [afterH]
  split
  · rename_i h
    obtain ⟨b, hb⟩ : ∃ b, w.heap[k]? = some b := ⟨w.heap[k]'h.1, by simp [h.1]⟩
    obtain ⟨h1, h2, -⟩ := keptH hf hb h.2
    rcases h1 with h1 | h1
    · rw [hk] at h1
      subst h1
      rw [hfree rfl]; exact h2 hk
    · rw [hk] at h1; exact absurd h1 ho
  · rw [hk]
theorem OW.callH {o : Oper} {c : Call} {f0 : FuncId} {args : List SV} {r : SV} {H' : List SObj} (hw : wantS ops st o = some true) (hop : o.op = .call c) (hc : callS P st [] c = some ⟨f0, args, [], []⟩) (hp : SC P false f0 args st.H r H')
    (hr : resD r = true) (hn : st.tmps.all noHl = true) (h : OW P false ops rest ⟨(st.put o.dst r).tmps, H'⟩ Q) : OW P false ops (o :: rest) st Q := by
  intro a w g hrel Qc hq
  unfold wpList
  rw [wantS_sound hrel hw, if_pos rfl]
  refine .inl ?_
  unfold callS at hc
  split at hc
  · rename_i fo hcallee
    split at hc
    · rename_i f first caps hfo
      split at hc
      · rename_i ss ls gs hargs
        split at hc
        · rename_i hok
          cases hc
          rw [Bool.and_eq_true] at hok
          obtain ⟨hgive, hfn⟩ := hok
          have hgs := giveOk_spec hgive
          have hrf := valD_d hrel hfo
          obtain ⟨vf, vc, hev, lf, lc, rf, rc⟩ : ∃ vf vc : Array Value, a.eval fo = .func (.func f0) vf vc ∧ vf.size = first.length ∧ vc.size = caps.length ∧
              (∀ (j : Nat) (y : D), first[j]? = some y → ∃ u, vf[j]? = some u ∧ Rd g w u y) ∧ (∀ (j : Nat) (y : D), caps[j]? = some y → ∃ u, vc[j]? = some u ∧ Rd g w u y) := by
            generalize a.eval fo = v at hrf
            cases hrf with
            | fn hl1 hl2 us1 us2 hc1 hr1 hc2 hr2 => exact ⟨_, _, rfl, hl1, hl2, fun j y hj => ⟨us1 j, hc1 j y hj, hr1 j y hj⟩, fun j y hj => ⟨us2 j, hc2 j y hj, hr2 j y hj⟩⟩
          obtain ⟨la, ra⟩ := argsS_sound hrel hgs hargs (fun _ h => h) (fun _ h => h)
          have hexec : (execOp a.eval o).run P w = .ok (.enter f0 (vf ++ c.args.map a.eval ++ vc)) w := by
            unfold execOp
            rw [hop]
            exact run_call hcallee hev hfn w
          unfold Oper.wp
          rw [hexec, Oper.upon_enter]
          have hRA : RArgs (g.ren (calleeOw [] [])) w (vf ++ c.args.map a.eval ++ vc) (first.map .d ++ ss ++ caps.map .d) := by
            have hla : (c.args.map a.eval).size = ss.length := by rw [← la]; simp
            have hla' : c.args.size = ss.length := by rw [← la]; simp
            refine ⟨by simp [lf, lc, ← la], fun j s hj => ?_⟩
            have kp : ∀ {v : Value} {d : D}, Rd g w v d → Rd (g.ren (calleeOw [] [])) w v d := fun hr => hr.keep (Keep.ren rfl) (fun _ _ h => h)
            by_cases j1 : j < first.length
            · rw [List.append_assoc, List.getElem?_append_left (by simpa using j1), List.getElem?_map] at hj
              simp only [Option.map_eq_some_iff] at hj
              obtain ⟨d, hd, rfl⟩ := hj
              obtain ⟨u, e1, e2⟩ := rf j d hd
              exact ⟨u, by rw [Array.append_assoc, Array.getElem?_append_left (by omega)]; exact e1, kp e2⟩
            · by_cases j2 : j < first.length + ss.length
              · rw [List.getElem?_append_left (by simp; omega), List.getElem?_append_right (by simp; omega)] at hj
                simp only [List.length_map] at hj
                obtain ⟨x, e1, e2⟩ := ra _ s hj
                refine ⟨a.eval x, ?_, by rw [show first.length + (j - first.length) = j by omega] at e2; exact e2⟩
                rw [Array.getElem?_append_left (by simp [lf]; omega), Array.getElem?_append_right (by omega), Array.getElem?_map, lf]
                rw [Array.getElem?_toList] at e1
                rw [e1]; rfl
              · rw [List.getElem?_append_right (by simp; omega), List.getElem?_map] at hj
                simp only [Option.map_eq_some_iff, List.length_append, List.length_map] at hj
                obtain ⟨d, hd, rfl⟩ := hj
                obtain ⟨u, e1, e2⟩ := rc _ d hd
                refine ⟨u, ?_, kp e2⟩
                rw [Array.getElem?_append_right (by simp [lf]; omega)]
                simpa [lf, ← la] using e1
          have hRH0 : RH (g.ren (calleeOw [] [])) w st.H := hrel.hp.keep (fun o' ho' => Keep.ren (by
            cases o' <;> simp only [usesH] at ho' <;> try rfl
            rename_i l
            cases l <;> simp only [usesH] at ho'
            rfl)) (fun _ _ h => h) rfl
          refine (hp w (g.ren (calleeOw [] [])) _ hRA hRH0).mono fun e w' hh => ?_
          obtain ⟨v, g', rfl, hres, hRH, hf⟩ := hh
          have hρ' : KeepR g ⟨afterH w.heap.size (o.dst.getD 0) g.ow g'.ow, g'.ρ⟩ := fun i k h => hf.rho i k h
          have hkp := fun o' ho' => keepH (t := o.dst.getD 0) hf (o := o') ho'
          have hfr : Fr false g w ⟨afterH w.heap.size (o.dst.getD 0) g.ow g'.ow, g'.ρ⟩ w' :=
            ⟨hf.size, hkp _ rfl, hkp _ rfl, hρ', (fun h => by cases h), (fun h => by cases h), (fun h => by cases h), hf.os⟩
          have h0 : Keep .free g' w' ⟨afterH w.heap.size (o.dst.getD 0) g.ow g'.ow, g'.ρ⟩ w' := fun k b h1 h2 => ⟨tagH hf (by simp) h1 (fun _ => rfl), h2⟩
          refine h (a.put o.dst v) w' _ ?_ Qc fun st2 a2 w2 g2 q2 r2 f2 => hq st2 a2 w2 g2 q2 r2 (hfr.trans f2)
          refine Rel.step hrel (by rw [put_size]; simp only [St.put_len]; exact hrel.len) (by rw [put_defers]; exact hrel.def0) hρ' (fun t s hs => ?_) ?_
          · by_cases hd : o.dst = some t
            · simp only at hs
              rw [hd] at hs ⊢
              obtain ⟨rfl, hlt⟩ := St.put_get_same hs
              refine .inr (.inl ?_)
              rw [valOf_put_same (by rw [hrel.len]; exact hlt)]
              simp only [Option.getD_some]
              rw [hd] at h0
              simp only [Option.getD_some] at h0
              have tag : ∀ l, (∀ i j, l ≠ .hcell i j) → ∀ k b, g'.ow k = .lst l → w'.heap[k]? = some b → (⟨afterH w.heap.size t g.ow g'.ow, g'.ρ⟩ : Gh).ow k = backH t (.lst l) := fun l hl k b hk _ => tagH hf (by simp) hk (by simp)
              cases hrr : s with
              | d x => rw [hrr] at hres; exact Rd.keep h0 (fun _ _ h => h) (hres : Rd g' w' v x)
              | own n xs =>
                rw [hrr] at hres
                exact (RC.back h0 (tag (.slot 0) (by simp)) (fun _ _ h => h) (hres : RC g' w' (.slot 0) v (.own n xs)) : RC _ _ (.slot t) v (.own n xs))
              | tup vs =>
                rw [hrr] at hres hr
                obtain ⟨us, e1, e2, e3⟩ := hres
                refine ⟨us, e1, e2, fun j s' hj => ?_⟩
                obtain ⟨u, f1, f2⟩ := e3 j s' hj
                exact ⟨u, f1, RC.back h0 (tag (.comp 0 j) (by simp)) (fun _ _ h => h) f2⟩
              | _ => rw [hrr] at hr; simp [resD] at hr
            · simp only at hs
              have hput : s = .undef ∨ (st.tmps[t]? = some s ∧ ∀ t0 old, o.dst = some t0 → st.tmps[t0]? = some old → heavy old = true → mention t0 s = false) := by
                cases hdst : o.dst with
                | none => rw [hdst] at hs; exact .inr ⟨hs, by simp⟩
                | some t0 =>
                  rw [hdst] at hs hd
                  rcases St.put_get (fun e => hd (by rw [e])) hs with h | ⟨h1, h2⟩
                  · exact .inl h
                  · exact .inr ⟨h1, fun t1 old e => by cases e; exact h2 old⟩
              rcases hput with rfl | ⟨hs3, hs2⟩
              · exact .inl rfl
              · have hnh : noHl s = true := List.all_eq_true.1 hn s (List.mem_iff_getElem?.2 ⟨t, hs3⟩)
                refine .inr (.inr ⟨hs3, valOf_put hd, fun o' ho' => hkp o' ?_, fun s0 e => ?_⟩)
                · cases o' with
                  | obj i =>
                    exfalso
                    cases s <;> simp [uses] at ho'
                  | lst l =>
                    cases l with
                    | hcell i j =>
                      exfalso
                      cases s <;> simp [uses] at ho'
                      · subst ho'; simp [noHl] at hnh
                      · subst ho'; simp [noHl] at hnh
                    | _ => rfl
                  | _ => rfl
                · obtain ⟨x0, hx0, hb0⟩ := dep_big (hrel.tmp t _ hs3) e
                  have hd0 : o.dst ≠ some s0 := fun e2 => by
                    have := hs2 s0 _ e2 hx0 (bigK_heavy hb0)
                    rw [dep_mention e] at this
                    cases this
                  exact ⟨valOf_put hd0, fun x hx hb => ⟨x, St.put_big hx hb hd0, rfl⟩⟩
          · refine RH.keep (g := g') (w := w') (fun o' ho' => ?_) (fun _ _ h => h) rfl hRH
            intro k b h1 h2
            refine ⟨?_, h2⟩
            cases o' with
            | free => exact tagH hf (by simp) h1 (fun _ => rfl)
            | obj i => exact tagH hf (by simp) h1 (fun h => by cases h)
            | lst l =>
              cases l <;> simp only [usesH] at ho'
              exact tagH hf (by simp) h1 (fun h => by cases h)
            | _ => exact ho'.elim
        · cases hc
      · cases hc
    · cases hc
  · cases hc
end
end Go.Sh
namespace Go.Sh
inductive Pn (α : Type) where
  | ok (a : α)
  | boom (t : TypeId) (H : List SObj)
def panV (t : TypeId) : List PanicEntry := [{ v := .iface t (.agg #[]), recovered := false }]
def SB (P : Program) (f : FuncId) (args : List SV) (H : List SObj) (o : Pn (SV × List SObj)) : Prop :=
  ∀ (w : World) (g : Gh) (vs : Array Value), RArgs g w vs args → RH g w H → Calls P f vs w fun e w' => match o with
    | .ok p => ∃ v g', e = .returned v ∧ RRes g' w' v p.1 ∧ RH g' w' p.2 ∧ Fr false g w g' w'
    | .boom t H' => e = .panicked (panV t) ∧ ∃ g', RH g' w' H' ∧ Fr false g w g' w'
theorem SB.sc {P : Program} {f : FuncId} {args : List SV} {H : List SObj} {r : SV} {H' : List SObj} (h : SB P f args H (.ok (r, H'))) : SC P false f args H r H' := h
section
variable {P : Program} {ops : Array Oper} {st : St}
theorem SC.of_SWh {f : FuncId} {fn : Func} {c : Code} {args : List SV} {H H' : List SObj} {r : SV} (hf : P.funcs[f]? = some fn) (hb : fn.body = some c)
    (h : SW P false c (initSt fn.ntmps args H) (EndQ P fn.results.toList H' r)) : SC P false f args H r H' := by
  refine SC.of_SW hf hb ?_
  intro a w g hr
  refine Code.wp_mono (fun e a' w' hh => ?_) (h a w g hr)
  obtain ⟨st', g', ⟨he, l, h1, h2⟩, r1, f⟩ := hh
  exact ⟨st'.nils l, g', ⟨he, endV_ok h1, by rw [St.nils_H]; exact h2⟩, r1.nils, f⟩
def OT (P : Program) (ops : Array Oper) (l : List Oper) (st : St) (Q : Exit → St → Prop) : Prop :=
  ∀ a w g, Rel st a w g → wpList P ops (fun e a' w' => ∃ st' g', Q e st' ∧ Rel st' a' w' g' ∧ Fr false g w g' w') l a w
def OTk (P : Program) (ops : Array Oper) (k : Nat) (st : St) (Q : Exit → St → Prop) : Prop := OT P ops (ops.toList.drop k) st Q
theorem OTk.done {k : Nat} {Q : Exit → St → Prop} (h : decide (ops.size ≤ k) = true) (hq : Q .normal st) : OTk P ops k st Q := by
  intro a w g hr
  rw [List.drop_of_length_le (by simpa using of_decide_eq_true h)]
  exact ⟨st, g, hq, hr, Fr.refl _ _ _⟩
theorem upon_out {o : Oper} {a : Act} {next : Act → World → Prop} {Q Q' : Exit → Act → World → Prop} (hp : ∀ ch a w, Q (.panic ch) a w → Q' (.panic ch) a w) (ho : LetsOut Q → LetsOut Q') {r : Result Next} (h : o.upon P a next Q r) : o.upon P a next Q' r := by
  cases r with
  | ok n w' =>
    cases n <;> simp only [Oper.upon] at h ⊢ <;> first
      | exact h
      | (refine h.mono fun e w'' hh => ?_
         cases e with
         | returned v => exact hh
         | panicked ch => exact hp _ _ _ hh
         | outgrown => exact ho hh)
  | halt hh w' => cases hh <;> simp only [Oper.upon] at h ⊢ <;> first | exact h | exact hp _ _ _ h
theorem wpList_app {Q : Exit → Act → World → Prop} (l2 : List Oper) : ∀ (l1 : List Oper) (a : Act) (w : World), wpList P ops (Exit.then (wpList P ops Q l2) Q) l1 a w → wpList P ops Q (l1 ++ l2) a w
  | [], a, w, h => h
  | o :: l1, a, w, h => by
    rw [List.cons_append]
    unfold wpList at h ⊢
    split
    · rename_i hw
      rw [if_pos hw] at h
      rcases h with h | h
      · left
        have h1 := Oper.wp_mono (K' := wpList P ops Q (l1 ++ l2)) (fun a' w' hh => wpList_app l2 l1 a' w' hh) h
        exact upon_out (fun ch a w h => h) (fun ⟨a0, w0, h⟩ => ⟨a0, w0, h⟩) h1
      · exact .inr ⟨h.1, let ⟨a0, w0, h2⟩ := h.2; ⟨a0, w0, h2⟩⟩
    · rename_i hw
      rw [if_neg hw] at h
      exact wpList_app l2 l1 _ w h
theorem wpList_ops {ops' : Array Oper} {Q : Exit → Act → World → Prop} : ∀ (l : List Oper) (a : Act) (w : World), (∀ o ∈ l, ∀ j b, o.guard = some (j, b) → ops'[j]? = ops[j]?) → wpList P ops' Q l a w → wpList P ops Q l a w
  | [], a, w, _, h => h
  | o :: l, a, w, hg, h => by
    have e : Region.wanted o (yielded ops' a.tmps) = Region.wanted o (yielded ops a.tmps) := by
      unfold Region.wanted
      cases ho : o.guard with
      | none => rfl
      | some p =>
        obtain ⟨j, b⟩ := p
        simp only [yielded, hg o List.mem_cons_self j b ho]
    have hg' : ∀ o ∈ l, ∀ j b, o.guard = some (j, b) → ops'[j]? = ops[j]? := fun o ho => hg o (List.mem_cons_of_mem _ ho)
    unfold wpList at h ⊢
    rw [e] at h
    split
    · rename_i hw
      rw [if_pos hw] at h
      rcases h with h | h
      · exact .inl (Oper.wp_mono (fun a' w' hh => wpList_ops l a' w' hg' hh) h)
      · exact .inr h
    · rename_i hw
      rw [if_neg hw] at h
      exact wpList_ops l _ w hg' h
def guardsB (ops : Array Oper) (k m : Nat) : Bool := decide (k ≤ m) && decide (m ≤ ops.size) && ((ops.toList.take m).drop k).all fun o => match o.guard with | some (j, _) => decide (j < m) | none => true
theorem OTk.pre {k : Nat} (m : Nat) {Q : Exit → St → Prop} (hg : guardsB ops k m = true) (h : OWk P false (ops.toList.take m).toArray k st (fun s => OTk P ops m s Q)) : OTk P ops k st Q := by
  intro a w g hr
  simp only [guardsB, Bool.and_eq_true, decide_eq_true_eq, List.all_eq_true] at hg
  obtain ⟨⟨h1, h2⟩, h3⟩ := hg
  have hsplit : ops.toList.drop k = (ops.toList.take m).drop k ++ ops.toList.drop m := by
    conv => lhs; rw [← List.take_append_drop m ops.toList]
    rw [List.drop_append_of_le_length (by simp; omega)]
  rw [hsplit]
  refine wpList_app _ _ a w (wpList_ops _ a w (fun o ho j b hj => ?_) ?_ (ops' := (ops.toList.take m).toArray))
  · have := h3 o ho
    rw [hj] at this
    have hlt : j < m := of_decide_eq_true this
    simp [List.getElem?_take, hlt]
  · unfold OWk at h
    refine h a w g hr _ fun st' a' w' g' q r f => ?_
    have := q a' w' g' r
    show wpList P ops _ (ops.toList.drop m) a' w'
    refine wpList_mono' (fun e a2 w2 hh => ?_) this
    obtain ⟨st2, g2, q2, r2, f2⟩ := hh
    exact ⟨st2, g2, q2, r2, f.trans f2⟩
where
  wpList_mono' {ops : Array Oper} {Q Q' : Exit → Act → World → Prop} (hq : ∀ e a w, Q e a w → Q' e a w) : ∀ {l : List Oper} {a : Act} {w : World}, wpList P ops Q l a w → wpList P ops Q' l a w
    | [], a, w, h => hq _ _ _ h
    | o :: l, a, w, h => by
      unfold wpList at h ⊢
      split
      · rename_i hw
        rw [if_pos hw] at h
        rcases h with h | h
        · left
          have h1 := Oper.wp_mono (K' := wpList P ops Q' l) (fun a' w' hh => wpList_mono' hq hh) h
          exact upon_out (fun ch a w h => hq _ _ _ h) (fun ⟨a0, w0, h⟩ => ⟨a0, w0, hq _ _ _ h⟩) h1
        · exact .inr ⟨h.1, let ⟨a0, w0, h2⟩ := h.2; ⟨a0, w0, hq _ _ _ h2⟩⟩
      · rename_i hw
        rw [if_neg hw] at h
        exact wpList_mono' hq h
end
end Go.Sh
namespace Go.Sh
section
variable {P : Program} {ops : Array Oper} {k : Nat} {st : St}
theorem OWk.clH {Q : St → Prop} {f : FuncId} {args : List SV} {d : Option Tmp} {r : SV} {H' : List SObj} (n : Nat) (L : List Nat) (l : List (Nat × SV)) (hp : SC P false f args st.H r H')
    (h : callAt P ops k st [] = some (d, f, args, [], [])) (hr : (resD r && st.tmps.all noHl) = true) (hst : pickR n L ⟨(st.put d r).tmps, H'⟩ = some (l, H')) (hn : OWk P false ops (k + 1) (sp n l H') Q) : OWk P false ops k st Q := by
  unfold callAt at h
  split at h
  · rename_i o ho
    split at h
    · rename_i c hop
      split at h
      · rename_i cs hcs
        simp only [Option.some.injEq, Prod.mk.injEq] at h
        obtain ⟨rfl, rfl, rfl, e1, e2⟩ := h
        obtain ⟨h1, h2⟩ := opAt_inv ho
        rw [Bool.and_eq_true] at hr
        obtain ⟨f0, a0, l0, g0⟩ := cs
        cases e1; cases e2
        unfold OWk
        rw [drop_cons h1]
        exact OW.callH h2 hop hcs hp hr.1 hr.2 (OWk.keep L (keepR_of_pick hst) hn)
      · cases h
    · cases h
  · cases h
theorem callH_pre {a : Act} {w : World} {g : Gh} {o : Oper} {c : Call} {f0 : FuncId} {args : List SV} (hrel : Rel st a w g) (hop : o.op = .call c) (hc : callS P st [] c = some ⟨f0, args, [], []⟩) :
    ∃ vs, (execOp a.eval o).run P w = .ok (.enter f0 vs) w ∧ RArgs (g.ren (calleeOw [] [])) w vs args ∧ RH (g.ren (calleeOw [] [])) w st.H := by
  unfold callS at hc
  split at hc
  · rename_i fo hcallee
    split at hc
    · rename_i f first caps hfo
      split at hc
      · rename_i ss ls gs hargs
        split at hc
        · rename_i hok
          cases hc
          rw [Bool.and_eq_true] at hok
          obtain ⟨hgive, hfn⟩ := hok
          have hgs := giveOk_spec hgive
          have hrf := valD_d hrel hfo
          obtain ⟨vf, vc, hev, lf, lc, rf, rc⟩ : ∃ vf vc : Array Value, a.eval fo = .func (.func f0) vf vc ∧ vf.size = first.length ∧ vc.size = caps.length ∧
              (∀ (j : Nat) (y : D), first[j]? = some y → ∃ u, vf[j]? = some u ∧ Rd g w u y) ∧ (∀ (j : Nat) (y : D), caps[j]? = some y → ∃ u, vc[j]? = some u ∧ Rd g w u y) := by
            generalize a.eval fo = v at hrf
            cases hrf with
            | fn hl1 hl2 us1 us2 hc1 hr1 hc2 hr2 => exact ⟨_, _, rfl, hl1, hl2, fun j y hj => ⟨us1 j, hc1 j y hj, hr1 j y hj⟩, fun j y hj => ⟨us2 j, hc2 j y hj, hr2 j y hj⟩⟩
          obtain ⟨la, ra⟩ := argsS_sound hrel hgs hargs (fun _ h => h) (fun _ h => h)
          refine ⟨vf ++ c.args.map a.eval ++ vc, ?_, ?_, ?_⟩
          · unfold execOp
            rw [hop]
            exact run_call hcallee hev hfn w
          · have hla : (c.args.map a.eval).size = ss.length := by rw [← la]; simp
            have hla' : c.args.size = ss.length := by rw [← la]; simp
            refine ⟨by simp [lf, lc, ← la], fun j s hj => ?_⟩
            have kp : ∀ {v : Value} {d : D}, Rd g w v d → Rd (g.ren (calleeOw [] [])) w v d := fun hr => hr.keep (Keep.ren rfl) (fun _ _ h => h)
            by_cases j1 : j < first.length
            · rw [List.append_assoc, List.getElem?_append_left (by simpa using j1), List.getElem?_map] at hj
              simp only [Option.map_eq_some_iff] at hj
              obtain ⟨d, hd, rfl⟩ := hj
              obtain ⟨u, e1, e2⟩ := rf j d hd
              exact ⟨u, by rw [Array.append_assoc, Array.getElem?_append_left (by omega)]; exact e1, kp e2⟩
            · by_cases j2 : j < first.length + ss.length
              · rw [List.getElem?_append_left (by simp; omega), List.getElem?_append_right (by simp; omega)] at hj
                simp only [List.length_map] at hj
                obtain ⟨x, e1, e2⟩ := ra _ s hj
                refine ⟨a.eval x, ?_, by rw [show first.length + (j - first.length) = j by omega] at e2; exact e2⟩
                rw [Array.getElem?_append_left (by simp [lf]; omega), Array.getElem?_append_right (by omega), Array.getElem?_map, lf]
                rw [Array.getElem?_toList] at e1
                rw [e1]; rfl
              · rw [List.getElem?_append_right (by simp; omega), List.getElem?_map] at hj
                simp only [Option.map_eq_some_iff, List.length_append, List.length_map] at hj
                obtain ⟨d, hd, rfl⟩ := hj
                obtain ⟨u, e1, e2⟩ := rc _ d hd
                refine ⟨u, ?_, kp e2⟩
                rw [Array.getElem?_append_right (by simp [lf]; omega)]
                simpa [lf, ← la] using e1
          · exact hrel.hp.keep (fun o' ho' => Keep.ren (by
              cases o' <;> simp only [usesH] at ho' <;> try rfl
              rename_i l
              cases l <;> simp only [usesH] at ho'
              rfl)) (fun _ _ h => h) rfl
        · cases hc
      · cases hc
    · cases hc
  · cases hc
theorem callH_post {g g' : Gh} {w w' : World} {H' : List SObj} (t : Nat) (hf : Fr false (g.ren (calleeOw [] [])) w g' w') (hH : RH g' w' H') :
    Fr false g w ⟨afterH w.heap.size t g.ow g'.ow, g'.ρ⟩ w' ∧ RH ⟨afterH w.heap.size t g.ow g'.ow, g'.ρ⟩ w' H' := by
  have hkp := fun o' ho' => keepH (t := t) hf (o := o') ho'
  refine ⟨⟨hf.size, hkp _ rfl, hkp _ rfl, fun i k h => hf.rho i k h, (fun h => by cases h), (fun h => by cases h), (fun h => by cases h), hf.os⟩, ?_⟩
  refine RH.keep (g := g') (w := w') (fun o' ho' => ?_) (fun _ _ h => h) rfl hH
  intro k b h1 h2
  refine ⟨?_, h2⟩
  cases o' with
  | free => exact tagH hf (by simp) h1 (fun _ => rfl)
  | obj i => exact tagH hf (by simp) h1 (fun h => by cases h)
  | lst l =>
    cases l <;> simp only [usesH] at ho'
    exact tagH hf (by simp) h1 (fun h => by cases h)
  | _ => exact ho'.elim
end
section
variable {P : Program} {rs : List ResultVar} {s : St} {α : Type} {e : α → SV} {a : α} {H : Hp}
end
end Go.Sh
namespace Go.Sh
def moreA (a : Act) (ds : List Deferred) : Act := { a with defers := a.defers ++ ds }
def MQ (ds : List Deferred) (Q : Exit → Act → World → Prop) : Exit → Act → World → Prop := fun e a w => ∃ a0, a = moreA a0 ds ∧ Q e a0 w
def MN (ds : List Deferred) (N : Act → World → Prop) : Act → World → Prop := fun a w => ∃ a0, a = moreA a0 ds ∧ N a0 w
theorem moreA_eval (a : Act) (ds : List Deferred) : (moreA a ds).eval = a.eval := by funext x; cases x <;> rfl
theorem moreA_put (a : Act) (ds : List Deferred) (d : Option Tmp) (v : Value) : (moreA a ds).put d v = moreA (a.put d v) ds := by cases d <;> rfl
theorem moreA_tmps (a : Act) (ds : List Deferred) : (moreA a ds).tmps = a.tmps := rfl
theorem MQ.out {ds : List Deferred} {Q : Exit → Act → World → Prop} (h : LetsOut Q) : LetsOut (MQ ds Q) := let ⟨a0, w0, h⟩ := h; ⟨moreA a0 ds, w0, a0, rfl, h⟩
section
variable {P : Program} {ops : Array Oper} {ds : List Deferred}
theorem upon_more {o : Oper} {a : Act} {N : Act → World → Prop} {Q : Exit → Act → World → Prop} {r : Result Next} (h : o.upon P a N Q r) : o.upon P (moreA a ds) (MN ds N) (MQ ds Q) r := by
  cases r with
  | ok n w' =>
    cases n <;> simp only [Oper.upon] at h ⊢ <;> first
      | exact h.elim
      | exact ⟨_, moreA_put _ _ _ _, h⟩
      | (refine h.mono fun e w'' hh => ?_
         cases e with
         | returned v => exact ⟨_, moreA_put _ _ _ _, hh⟩
         | panicked ch => exact ⟨_, rfl, hh⟩
         | outgrown => exact MQ.out hh)
      | (refine Rows.mono h fun v w'' hh => ⟨_, moreA_put _ _ _ _, hh⟩)
      | (refine ⟨_, ?_, h⟩; cases o.dst <;> rfl)
  | halt hh w' => cases hh <;> simp only [Oper.upon] at h ⊢ <;> first | exact ⟨_, rfl, h⟩ | exact h.elim
theorem wp_more {o : Oper} {a : Act} {w : World} {N : Act → World → Prop} {Q : Exit → Act → World → Prop} (h : o.wp P a w N Q) : o.wp P (moreA a ds) w (MN ds N) (MQ ds Q) := by
  unfold Oper.wp at h ⊢
  rw [moreA_eval]
  exact upon_more h
theorem asks_more {o : Oper} {a : Act} {w : World} (h : o.asks P a w) : o.asks P (moreA a ds) w := by
  unfold Oper.asks at h ⊢
  rw [moreA_eval]
  exact h
theorem wpList_more {Q : Exit → Act → World → Prop} : ∀ (l : List Oper) (a : Act) (w : World), wpList P ops Q l a w → wpList P ops (MQ ds Q) l (moreA a ds) w
  | [], a, w, h => ⟨a, rfl, h⟩
  | o :: l, a, w, h => by
    unfold wpList at h ⊢
    rw [moreA_tmps]
    split
    · rename_i hw
      rw [if_pos hw] at h
      rcases h with h | h
      · refine .inl (Oper.wp_mono (fun a1 w1 hh => ?_) (wp_more (ds := ds) h))
        obtain ⟨a0, rfl, h0⟩ := hh
        exact wpList_more l a0 w1 h0
      · exact .inr ⟨asks_more h.1, MQ.out h.2⟩
    · rename_i hw
      rw [if_neg hw] at h
      rw [moreA_put]
      exact wpList_more l _ w h
end
theorem endRes {P : Program} {pu : Bool} {fn : Func} {st' : St} {a' : Act} {w' : World} {g' : Gh} {r : SV} (hr : Rel st' a' w' g') (he : endOk P fn.results.toList st' r) :
    ∃ v g2, (results fn a'.tmps).run P w' = .ok v w' ∧ RRes g2 w' v r ∧ RH g2 w' st'.H ∧ Fr pu g' w' g2 w' := by
  obtain ⟨xs, hx1, hx2, hx3, hx4⟩ := he
  obtain ⟨hl, hg⟩ := resVs_get hx1
  -- the values, one by one
  have one : ∀ j, j < xs.length → ∃ v, (∀ s t, xs[j]? = some (s, t) → RC (g'.ren (endOw xs)) w' (resLoc xs.length j) v s) ∧ ∀ rv, fn.results[j]? = some rv → (resSem a'.tmps rv).run P w' = .ok v w' := fun j hj => by
    obtain ⟨rv, e1, e2⟩ := hg j xs[j] (by simp [hj])
    obtain ⟨v, f1, f2⟩ := resV_sound (P := P) hr (s := xs[j].1) (t := xs[j].2) e2 (f := endOw xs) rfl (resLoc xs.length j)
      (fun t' ht' => by
        have := resTo_own hx2 (j := j) (s := xs[j].1) (t := t') (by rw [List.getElem?_eq_getElem hj]; rw [← ht'])
        simp only [endOw, this])
      (fun s' hs' t' n ys hlent => by
        subst hs'
        unfold lentOk at hx3
        rw [List.all_eq_true] at hx3
        have := hx3 (.tmp s') (List.mem_iff_getElem?.2 ⟨j, e1⟩)
        simp only [hlent, Option.isNone_iff_eq_none] at this
        simp only [endOw, this])
    refine ⟨v, fun s t hst => ?_, fun rv' hrv' => ?_⟩
    · rw [List.getElem?_eq_getElem hj] at hst
      have : xs[j] = (s, t) := Option.some.inj hst
      rw [this] at f1
      exact f1
    · have : rv' = rv := by
        have e1' : fn.results[j]? = some rv := by simpa using e1
        rw [hrv'] at e1'
        exact Option.some.inj e1'
      subst this
      exact f2
  -- all of them
  have all : ∃ us : List Value, us.length = xs.length ∧ (∀ (j : Nat) (s : SV) (t : Option Nat), xs[j]? = some (s, t) → ∃ u, us[j]? = some u ∧ RC (g'.ren (endOw xs)) w' (resLoc xs.length j) u s) ∧
      ∀ (j : Nat) (rv : ResultVar), fn.results[j]? = some rv → ∃ v, us[j]? = some v ∧ (resSem a'.tmps rv).run P w' = .ok v w' := by
    have : ∃ F : Nat → Value, ∀ j, j < xs.length → (∀ s t, xs[j]? = some (s, t) → RC (g'.ren (endOw xs)) w' (resLoc xs.length j) (F j) s) ∧ ∀ rv, fn.results[j]? = some rv → (resSem a'.tmps rv).run P w' = .ok (F j) w' :=
      ⟨fun j => if hj : j < xs.length then Classical.choose (one j hj) else undef, fun j hj => by simp only [hj, dite_true]; exact Classical.choose_spec (one j hj)⟩
    obtain ⟨F, hF⟩ := this
    refine ⟨(List.range xs.length).map F, by simp, fun j s t hj => ⟨F j, by simp [get_lt hj], (hF j (get_lt hj)).1 s t hj⟩, fun j rv hj => ?_⟩
    have hlt : j < xs.length := by rw [← hl]; simpa using (Array.getElem?_eq_some_iff.1 hj).1
    exact ⟨F j, by simp [hlt], (hF j hlt).2 rv hj⟩
  obtain ⟨us, u1, u2, u3⟩ := all
  have hrun := results_run (P := P) (fn := fn) (tm := a'.tmps) (w := w') (vs := us) (by rw [u1, ← hl]; simp) u3
  have hfr' : Fr pu g' w' (g'.ren (endOw xs)) w' := ⟨Nat.le_refl _, Keep.ren rfl, Keep.ren rfl, fun _ _ h => h, fun _ i => Keep.ren rfl, fun _ i j => Keep.ren rfl, fun _ => rfl, ⟨rfl, rfl⟩⟩
  have hRH : RH (g'.ren (endOw xs)) w' st'.H := by
    refine RH.keep (g := g') (w := w') (fun o ho => ?_) (fun _ _ h => h) rfl hr.hp
    refine Keep.ren ?_
    cases o <;> simp only [usesH] at ho <;> try rfl
    rename_i l
    cases l <;> simp only [usesH] at ho
    rfl
  have hres : RRes (g'.ren (endOw xs)) w' (if h : us.toArray.size = 1 then us.toArray[0] else .tuple us.toArray) r := by
    rw [← hx4]
    match xs, u1, u2 with
    | [x], u1, u2 =>
      match us, u1 with
      | [u], _ =>
        obtain ⟨u', e1, e2⟩ := u2 0 x.1 x.2 (by simp)
        simp only [List.getElem?_cons_zero, Option.some.injEq] at e1
        subst e1
        simp only [List.size_toArray, List.length_cons, List.length_nil, Nat.zero_add, dite_true, resS]
        have e2 : RC (g'.ren (endOw [x])) w' (.slot 0) u x.1 := e2
        have : RRes (g'.ren (endOw [x])) w' u x.1 := by
          obtain ⟨s, t⟩ := x
          cases s <;> first | exact e2 | exact e2.elim
        simpa using this
    | [], u1, u2 =>
      match us, u1 with
      | [], _ => exact ⟨#[], by simp, rfl, by simp⟩
    | x :: y :: r', u1, u2 =>
      have hne : ¬ us.toArray.size = 1 := by simp [u1]
      rw [dif_neg hne]
      refine ⟨us.toArray, rfl, by simp [u1], fun j s hj => ?_⟩
      simp only [List.getElem?_map, Option.map_eq_some_iff] at hj
      obtain ⟨⟨s', t⟩, h1, h2⟩ := hj
      simp only at h2
      subst h2
      obtain ⟨u, e1, e2⟩ := u2 j s' t h1
      rw [show resLoc (x :: y :: r').length j = .comp 0 j by simp [resLoc]] at e2
      exact ⟨u, by simpa using e1, e2⟩
  exact ⟨_, _, hrun, hres, hRH, hfr'⟩
end Go.Sh
namespace Go.Sh
section
variable {P : Program} {ops : Array Oper} {ds : List Deferred} {st : St} {k : Nat} {Q : Exit → St → Prop}
def SWd (P : Program) (ds : List Deferred) (c : Code) (st : St) (Q : Exit → St → Prop) : Prop :=
  ∀ a w g, Rel st a w g → c.wp P (fun e a' w' => ∃ a0 st' g', a' = moreA a0 ds ∧ Q e st' ∧ Rel st' a0 w' g' ∧ Fr false g w g' w') (moreA a ds) w
theorem SWd.seq {x y : Code} (h : SWd P ds x st (thenS (fun s => SWd P ds y s Q) Q)) : SWd P ds (.seq x y) st Q := by
  intro a w g hr
  refine wp_seq (Code.wp_mono (fun e a' w' hh => ?_) (h a w g hr))
  obtain ⟨a0, st', g', rfl, q, r, f⟩ := hh
  cases e with
  | normal =>
    refine Code.wp_mono (fun e2 a2 w2 hh2 => ?_) (q a0 w' g' r)
    obtain ⟨a1, st2, g2, e2, q2, r2, f2⟩ := hh2
    exact ⟨a1, st2, g2, e2, q2, r2, f.trans f2⟩
  | _ => exact ⟨a0, st', g', rfl, q, r, f⟩
theorem SWd.ret (h : Q .ret st) : SWd P ds .ret st Q := fun a w g hr => wp_ret ⟨a, st, g, rfl, h, hr, Fr.refl _ _ _⟩
theorem SWd.region {id : Nat} (h : OTk P ops 0 st Q) : SWd P ds (.region id ops false) st Q := fun a w g hr => by
  have h1 := h a w g hr
  rw [List.drop_zero] at h1
  refine Code.wp_mono (fun e a' w' hh => ?_) (wp_region_list (wpList_more (ds := ds) _ a w h1))
  obtain ⟨a0, e0, st', g', q, r, f⟩ := hh
  exact ⟨a0, st', g', e0, q, r, f⟩
theorem Rel.callH {a : Act} {w w' : World} {g g' : Gh} {H' : List SObj} (t : Nat) (hrel : Rel st a w g) (hf : Fr false (g.ren (calleeOw [] [])) w g' w') (hH : RH g' w' H') (hn : st.tmps.all noHl = true) :
    Rel ⟨st.tmps, H'⟩ a w' ⟨afterH w.heap.size t g.ow g'.ow, g'.ρ⟩ := by
  have hkp := fun o' ho' => keepH (t := t) hf (o := o') ho'
  refine Rel.step hrel hrel.len hrel.def0 (fun i k h => hf.rho i k h) (fun t s hs => ?_) (callH_post t hf hH).2
  have hnh : noHl s = true := List.all_eq_true.1 hn s (List.mem_iff_getElem?.2 ⟨t, hs⟩)
  refine .inr (.inr ⟨hs, rfl, fun o' ho' => hkp o' ?_, fun s0 e => ?_⟩)
  · cases o' with
    | obj i =>
      exfalso
      cases s <;> simp [uses] at ho'
    | lst l =>
      cases l with
      | hcell i j =>
        exfalso
        cases s <;> simp [uses] at ho'
        · subst ho'; simp [noHl] at hnh
        · subst ho'; simp [noHl] at hnh
      | _ => rfl
    | _ => rfl
  · obtain ⟨x0, hx0, hb0⟩ := dep_big (hrel.tmp t _ hs) e
    exact ⟨rfl, fun x hx hb => ⟨x, hx, rfl⟩⟩
end
end Go.Sh
namespace Go.Sh
section
variable {P : Program} {ops : Array Oper} {k : Nat} {st : St}
end
end Go.Sh
namespace Go.Sh
end Go.Sh
namespace Go.Sh
end Go.Sh
namespace Go.Sh
section
variable {P : Program} {st : St}
def takeOw (i off d : Nat) : Own → Own := fun o => if o = .lst (.hcell i off) then .lst (.slot d) else o
theorem takeOw_ne {i off d : Nat} {o : Own} (h : o ≠ .lst (.hcell i off)) : takeOw i off d o = o := by simp [takeOw, h]
theorem uses_hcell {t i j : Nat} {s : SV} (hn : noHl s = true) : ¬ uses t s (.lst (.hcell i j)) := by
  intro h
  cases s <;> simp [uses] at h
  · subst h; simp [noHl] at hn
  · subst h; simp [noHl] at hn
theorem OpS.takeH {o : Oper} {T : TypeId} {x : Operand} {i off d n : Nat} {xs : List D} {cs : List SV} (hop : o.op = .load T x) (hd : o.dst = some d) (hx : ptrH st x = some (i, off)) (hu : (P.underlying T).isNone = false) (ha : isAggT P T = false)
    (hi : st.H[i]? = some (.cells cs)) (hc : cs[off]? = some (.own n xs)) (hn : st.tmps.all noHl = true) : OpS P false st o ⟨(st.put (some d) (.own n xs)).tmps, st.H.set i (.cells (cs.set off .undef))⟩ := by
  refine OpS.value fun a w g hr => ?_
  obtain ⟨k, e1, e3⟩ := ptrH_sound hr hx
  obtain ⟨k', c, T0, f1, f2, f3, f4, f5⟩ := hr.hp.2 i _ hi
  rw [e1] at f1
  cases f1
  obtain ⟨u, u1, u2, u3⟩ := f5 off _ hc
  have hk : ∀ o', o' ≠ .lst (.hcell i off) → Keep o' g w (g.ren (takeOw i off d)) w := fun o' h => Keep.ren (takeOw_ne h)
  refine ⟨u, w, g.ren (takeOw i off d), ?_, ?_, ⟨Nat.le_refl _, hk _ (by simp), hk _ (by simp), fun _ _ h => h, nofun, nofun, nofun, ⟨rfl, rfl⟩⟩⟩
  · unfold execOp
    rw [hop]
    simp only [Instr.loadAt, e3, Instr.sureAddr, Sem.run_bind, Sem.run_pure, Result.andThen_ok, run_loadVar_one hu ha f3 u1]
  · rw [hd]
    refine Rel.step hr (by rw [put_size]; simp only [St.put_len]; exact hr.len) (by rw [put_defers]; exact hr.def0) (fun _ _ h => h) (fun t s hs => ?_) ⟨by simp [Gh.ren, hr.hp.1], fun i' o' hi' => ?_⟩
    · by_cases e : d = t
      · subst e
        obtain ⟨rfl, hlt⟩ := St.put_get_same hs
        refine .inr (.inl ?_)
        rw [valOf_put_same (by rw [hr.len]; exact hlt)]
        exact ROwn.ren (takeOw_ne (by simp)) (by simp [takeOw]) u2
      · rcases St.put_get (fun h => e h.symm) hs with h | ⟨h1, h2⟩
        · exact .inl h
        · have hnh : noHl s = true := List.all_eq_true.1 hn s (List.mem_iff_getElem?.2 ⟨t, h1⟩)
          refine .inr (.inr ⟨h1, valOf_put (by simpa using e), fun o' ho' => hk o' (fun e2 => ?_), fun s0 e0 => ?_⟩)
          · subst e2; exact uses_hcell hnh ho'
          · obtain ⟨x0, hx0, hb0⟩ := dep_big (hr.tmp t _ h1) e0
            have hd0 : (some d : Option Nat) ≠ some s0 := fun e2 => by
              cases e2
              have := h2 _ hx0 (bigK_heavy hb0)
              rw [dep_mention e0] at this
              cases this
            exact ⟨valOf_put hd0, fun y hy hb => ⟨y, St.put_big hy hb hd0, rfl⟩⟩
    · simp only at hi'
      by_cases e : i = i'
      · subst e
        rw [List.getElem?_set_self (get_lt hi)] at hi'
        cases hi'
        refine ⟨k, c, T0, e1, by simp [Gh.ren, f2, takeOw], f3, by simp [f4], fun j s hj => ?_⟩
        by_cases ej : off = j
        · subst ej
          rw [List.getElem?_set_self (get_lt hc)] at hj
          cases hj
          exact ⟨u, u1, trivial, u3⟩
        · rw [List.getElem?_set_ne ej] at hj
          obtain ⟨v, v1, v2, v3⟩ := f5 j s hj
          exact ⟨v, v1, v2.keep (hk _ (by simp)) (hk _ (by simp; omega)) (fun _ _ h => h), v3⟩
      · rw [List.getElem?_set_ne e] at hi'
        exact (hr.hp.2 i' o' hi').keepI (hk _ (by simp)) (hk _ (by simp)) (fun j => hk _ (by simp; omega)) (fun _ _ h => h)
def giveOw (i off s : Nat) : Own → Own := fun o => if o = .lst (.slot s) then .lst (.hcell i off) else o
theorem giveOw_ne {i off s : Nat} {o : Own} (h : o ≠ .lst (.slot s)) : giveOw i off s o = o := by simp [giveOw, h]
theorem ROwn.slice {g : Gh} {w : World} {l : Loc} {v : Value} {n : Nat} {xs : List D} (h : ROwn g w l v n xs) : ∃ a len cap, v = .slice a len cap := by
  rcases h with ⟨_, a, e⟩ | ⟨k, off, cap, c, T, us, hv, _⟩
  · exact ⟨a, 0, 0, e⟩
  · exact ⟨_, _, _, hv⟩
theorem OpS.giveH {o : Oper} {T : TypeId} {x : Operand} {i off s n : Nat} {xs : List D} {cs : List SV} (hop : o.op = .store T x (.tmp s)) (hd : o.dst = none) (hx : ptrH st x = some (i, off)) (hs : st.tmps[s]? = some (.own n xs)) (hu : (P.underlying T).isNone = false) (hsz : P.cellsOf T = 1)
    (hi : st.H[i]? = some (.cells cs)) (hlt : off < cs.length) (hn : st.tmps.all noHl = true) : OpS P false st o ⟨(st.take s).tmps, st.H.set i (.cells (cs.set off (.own n xs)))⟩ := by
  refine OpS.skip fun a w g hr => ?_
  obtain ⟨k, e1, e3⟩ := ptrH_sound hr hx
  obtain ⟨k', c, T0, f1, f2, f3, f4, f5⟩ := hr.hp.2 i _ hi
  rw [e1] at f1
  cases f1
  have ho : ROwn g w (.slot s) (valOf a s) n xs := hr.tmp s _ hs
  obtain ⟨sa, sl, sc, hv⟩ := ho.slice
  have hev : a.eval (.tmp s) = .slice sa sl sc := hv
  obtain ⟨w', r1, r2, r3, c', r4, r5, r6⟩ := run_storeCells' (P := P) k off T0 [.slice sa sl sc] 0 c w f3 (by simp; omega) (by simp [Value.oneCell'])
  have hos := storeCells_os (P := P) k off T0 [.slice sa sl sc] 0 c w w' f3 (by simp; omega) (by simp [Value.oneCell']) r1
  have hk : ∀ o', o' ≠ .lst (.slot s) → o' ≠ .obj i → Keep o' g w (g.ren (giveOw i off s)) w' := fun o' h1 h2 => (Keep.block f2 h2 r3).trans (Keep.ren (giveOw_ne h1))
  refine ⟨w', g.ren (giveOw i off s), ?_, ?_, ⟨by rw [r2]; exact Nat.le_refl _, hk _ (by simp) (by simp), hk _ (by simp) (by simp), fun _ _ h => h, nofun, nofun, nofun, hos⟩⟩
  · unfold execOp; rw [hop]
    simp only [Instr.storeAt, Sem.run_bind, e3, Instr.sureAddr, Sem.run_pure, Result.andThen_ok, storeVar, run_sizeOf' hu]
    rw [hev]
    simp only [Value.cells]
    simp [hsz, r1]
  · rw [hd]
    refine Rel.step hr (by simp only [Act.put, St.take_len]; exact hr.len) hr.def0 (fun _ _ h => h) (fun t sv hts => ?_) ⟨by simp [Gh.ren, hr.hp.1], fun i' o' hi' => ?_⟩
    · rcases St.take_get hts with h | ⟨h1, h2, h3⟩
      · exact .inl h
      · have hnh : noHl sv = true := List.all_eq_true.1 hn sv (List.mem_iff_getElem?.2 ⟨t, h1⟩)
        refine .inr (.inr ⟨h1, rfl, fun o' ho' => hk o' (fun e2 => ?_) (fun e2 => ?_), fun s0 e0 => ⟨rfl, fun y hy hb => ⟨y, ?_, rfl⟩⟩⟩)
        · subst e2
          rcases uses_slot ho' with h | h
          · exact h2 h.symm
          · rw [h3] at h; cases h
        · subst e2; exact uses_obj ho'
        · have hne : s0 ≠ s := fun e2 => by rw [e2] at e0; rw [dep_mention e0] at h3; cases h3
          show ((st.kill s).set s .undef).tmps[s0]? = some y
          simp only [St.set, List.getElem?_set_ne (Ne.symm hne)]
          simp [St.kill, hy, bigK_mention hb]
    · simp only at hi'
      by_cases e : i = i'
      · subst e
        rw [List.getElem?_set_self (get_lt hi)] at hi'
        cases hi'
        refine ⟨k, c', T0, e1, by simp [Gh.ren, f2, giveOw], r4, by simp [r5, f4], fun j s' hj => ?_⟩
        by_cases ej : off = j
        · subst ej
          rw [List.getElem?_set_self hlt] at hj
          cases hj
          refine ⟨.slice sa sl sc, by rw [r6, if_pos (by simp)]; simp, ?_, rfl⟩
          rw [← hv]
          have h1 : ROwn (g.ren (giveOw i off s)) w (.hcell i off) (valOf a s) n xs := ROwn.ren (giveOw_ne (by simp)) (by simp [giveOw]) ho
          refine ROwn.keep (fun k0 b hk0 hb0 => ⟨hk0, ?_⟩) (fun k0 b hk0 hb0 => ⟨hk0, ?_⟩) (fun _ _ h => h) h1
          · rw [r3 k0 (fun e => ?_)]; · exact hb0
            subst e; simp [Gh.ren, f2, giveOw] at hk0
          · rw [r3 k0 (fun e => ?_)]; · exact hb0
            subst e; simp [Gh.ren, f2, giveOw] at hk0
        · rw [List.getElem?_set_ne ej] at hj
          obtain ⟨v, v1, v2, v3⟩ := f5 j s' hj
          exact ⟨v, by rw [r6, if_neg (by simp; omega)]; exact v1, v2.keep (hk _ (by simp) (by simp)) (hk _ (by simp) (by simp)) (fun _ _ h => h), v3⟩
      · rw [List.getElem?_set_ne e] at hi'
        exact (hr.hp.2 i' o' hi').keepI (hk _ (by simp) (by simp)) (hk _ (by simp) (by simp; omega)) (fun j => hk _ (by simp) (by simp)) (fun _ _ h => h)
end
end Go.Sh
namespace Go.Sh
def hTake {α : Type} (n : Nat) (c : Cd α) (H : Hp) (i off : Nat) : Option (List α × Hp) :=
  (hCells H i).bind fun cs => match cs[off]? with
    | some (.own n' ds) => if n' = n then (ds.mapM c.dec).map fun xs => (xs, H.set i (.cells (cs.set off .undef))) else none
    | _ => none
def hGive {α : Type} (n : Nat) (c : Cd α) (H : Hp) (i off : Nat) (xs : List α) : Option Hp :=
  (hCells H i).bind fun cs => if off < cs.length then some (H.set i (.cells (cs.set off (.own n (xs.map c.enc))))) else none
theorem hTake_eq {α : Type} {n : Nat} {c : Cd α} {H H' : Hp} {i off : Nat} {xs : List α} (h : hTake n c H i off = some (xs, H')) :
    ∃ cs, H[i]? = some (.cells cs) ∧ cs[off]? = some (.own n (xs.map c.enc)) ∧ H' = H.set i (.cells (cs.set off .undef)) := by
  unfold hTake at h
  simp only [Option.bind_eq_some_iff] at h
  obtain ⟨cs, h1, h2⟩ := h
  split at h2
  · rename_i n' ds hc
    split at h2
    · rename_i e
      subst e
      simp only [Option.map_eq_some_iff, Prod.mk.injEq] at h2
      obtain ⟨ys, h3, rfl, rfl⟩ := h2
      have := mapM_de c _ _ h3
      exact ⟨cs, hCells_eq h1, by rw [hc, this], rfl⟩
    · cases h2
  · cases h2
theorem hGive_eq {α : Type} {n : Nat} {c : Cd α} {H H' : Hp} {i off : Nat} {xs : List α} (h : hGive n c H i off xs = some H') :
    ∃ cs, H[i]? = some (.cells cs) ∧ off < cs.length ∧ H' = H.set i (.cells (cs.set off (.own n (xs.map c.enc)))) := by
  unfold hGive at h
  simp only [Option.bind_eq_some_iff] at h
  obtain ⟨cs, h1, h2⟩ := h
  split at h2
  · cases h2; exact ⟨cs, hCells_eq h1, by assumption, rfl⟩
  · cases h2
section
variable {P : Program} {ops : Array Oper} {k : Nat} {st : St} {Q : St → Prop}
def tkAt (P : Program) (ops : Array Oper) (k : Nat) (st : St) : Option (Nat × Nat × Nat × Hp) :=
  match opAt ops k st with
  | some o => match o.op with
    | .load T x => if (!(P.underlying T).isNone && !isAggT P T && st.tmps.all noHl) = true then match o.dst, ptrH st x with
      | some d, some (i, off) => some (d, i, off, st.H)
      | _, _ => none
      else none
    | _ => none
  | none => none
theorem OWk.tkH {α : Type} {c : Cd α} {n' d i off : Nat} {xs : List α} {H0 H : Hp} (n : Nat) (L : List Nat) (l : List (Nat × SV)) (hx : hTake n' c H0 i off = some (xs, H)) (h : tkAt P ops k st = some (d, i, off, H0))
    (hst : pickR n L ⟨(st.put (some d) (.own n' (xs.map c.enc))).tmps, H⟩ = some (l, H)) (hn : OWk P false ops (k + 1) (sp n l H) Q) : OWk P false ops k st Q := by
  unfold tkAt at h
  split at h
  · rename_i o ho
    split at h
    · rename_i T x hop
      split at h
      · rename_i hc
        simp only [Bool.and_eq_true, Bool.not_eq_true'] at hc
        split at h
        · rename_i d' i' off' hd hp
          simp only [Option.some.injEq, Prod.mk.injEq] at h
          obtain ⟨rfl, rfl, rfl, rfl⟩ := h
          obtain ⟨g1, g2⟩ := opAt_inv ho
          obtain ⟨cs, e1, e2, rfl⟩ := hTake_eq hx
          exact OWk.heap n _ L l g1 g2 (OpS.takeH hop hd hp hc.1.1 hc.1.2 e1 e2 hc.2) hst hn
        · cases h
      · cases h
    · cases h
  · cases h
def gvAt (P : Program) (ops : Array Oper) (k : Nat) (st : St) : Option (Nat × Nat × Nat × Nat × List D × Hp) :=
  match opAt ops k st with
  | some o => match o.op with
    | .store T x (.tmp s) => if (!(P.underlying T).isNone && P.cellsOf T == 1 && st.tmps.all noHl && o.dst.isNone) = true then match ptrH st x, st.tmps[s]? with
      | some (i, off), some (.own n xs) => some (s, i, off, n, xs, st.H)
      | _, _ => none
      else none
    | _ => none
  | none => none
theorem OWk.gvH {α : Type} {c : Cd α} {n' s i off : Nat} {xs : List α} {H0 H : Hp} (n : Nat) (L : List Nat) (l : List (Nat × SV)) (hx : hGive n' c H0 i off xs = some H) (h : gvAt P ops k st = some (s, i, off, n', xs.map c.enc, H0))
    (hst : pickR n L ⟨(st.take s).tmps, H⟩ = some (l, H)) (hn : OWk P false ops (k + 1) (sp n l H) Q) : OWk P false ops k st Q := by
  unfold gvAt at h
  split at h
  · rename_i o ho
    split at h
    · rename_i T x s' hop
      split at h
      · rename_i hc
        simp only [Bool.and_eq_true, Bool.not_eq_true', beq_iff_eq, Option.isNone_iff_eq_none] at hc
        split at h
        · rename_i i' off' n1 ys hp hs
          simp only [Option.some.injEq, Prod.mk.injEq] at h
          obtain ⟨rfl, rfl, rfl, rfl, rfl, rfl⟩ := h
          obtain ⟨g1, g2⟩ := opAt_inv ho
          obtain ⟨cs, e1, e2, rfl⟩ := hGive_eq hx
          exact OWk.heap n _ L l g1 g2 (OpS.giveH hop hc.2 hp hs hc.1.1.1 hc.1.1.2 e1 e2 hc.1.2) hst hn
        · cases h
      · cases h
    · cases h
  · cases h
end
end Go.Sh
namespace Go.Sh
def Fw : Option Nat → Fence
  | none => Fence.wide
  | some l => Fence.wide.inRound l
theorem Fw_fn {r : Option Nat} (f : FuncId) : (Fw r).fn f := by cases r <;> trivial
theorem Fw_depth {r : Option Nat} : (Fw r).depth = none := by cases r <;> rfl
theorem Fw_round {r : Option Nat} : (Fw r).round = r := by cases r <;> rfl
section
variable {P : Program} {ops : Array Oper} {st : St}
theorem callsIn_Fw {r : Option Nat} {n : Nat} {f : FuncId} {args : Array Value} {w : World} {R : Ending → World → Prop} (h : Calls P f args w R) : CallsIn (Fw r) n P f args w R := by
  cases r with
  | none => exact callsIn_wide.2 h
  | some l => exact (callsIn_wide.2 h).inRound l
theorem rowsIn_Fw {r : Option Nat} {n : Nat} {row : String} {args : Array Value} {w : World} {R : Value → World → Prop} (h : Rows P row args w R) : RowsIn (Fw r) n P row args w R := by
  intro c cs _
  obtain ⟨v, w', hR, hs⟩ := h c cs
  refine ⟨v, w', hR, ?_⟩
  cases r with
  | none => exact stepsIn_wide.2 hs
  | some l => exact stepsIn_wide.2 hs
def NX (X : Act → World → Prop) : Exit → Act → World → Prop := fun e a w => e = .normal ∧ X a w
theorem NX.out {X : Act → World → Prop} : ¬ LetsOut (NX X) := fun ⟨_, _, h, _⟩ => by cases h
theorem uponIn_of {r : Option Nat} {n : Nat} {o : Oper} {a : Act} {N : Act → World → Prop} {X : Act → World → Prop} {Q : Exit → Act → World → Prop} {x : Result Next} (h : o.upon P a N (NX X) x) : o.uponIn (Fw r) n P a N Q x := by
  have hdep : (Fw r).depth.isSome = true → 1 ≤ n := fun h => by rw [Fw_depth] at h; cases h
  cases x with
  | ok nx w' =>
    cases nx <;> simp only [Oper.upon] at h <;> simp only [Oper.uponIn] <;> first
      | exact h
      | exact h.elim
      | (refine ⟨hdep, callsIn_Fw (h.mono fun e w'' hh => ?_)⟩
         cases e with
         | returned v => exact hh
         | panicked ch => cases hh.1
         | outgrown => exact absurd hh NX.out)
      | exact ⟨hdep, rowsIn_Fw h⟩
  | halt hh w' => cases hh <;> simp only [Oper.upon] at h <;> first | exact h.elim | cases h.1
theorem wpListIn_of {r : Option Nat} {n : Nat} {ops' : Array Oper} {X : Act → World → Prop} {Q : Exit → Act → World → Prop} {rest : List Oper} (hX : ∀ a w, X a w → wpListIn (Fw r) n P ops' Q rest a w) :
    ∀ (l : List Oper) (a : Act) (w : World), (∀ o ∈ l, ∀ c, o.op ≠ .defer c) → (∀ o ∈ l, ∀ j b, o.guard = some (j, b) → ops'[j]? = ops[j]?) → wpList P ops (NX X) l a w → wpListIn (Fw r) n P ops' Q (l ++ rest) a w
  | [], a, w, _, _, h => hX a w h.2
  | o :: l, a, w, hd, hg, h => by
    have e : Region.wanted o (yielded ops' a.tmps) = Region.wanted o (yielded ops a.tmps) := by
      unfold Region.wanted
      cases ho : o.guard with
      | none => rfl
      | some p =>
        obtain ⟨j, b⟩ := p
        simp only [yielded, hg o List.mem_cons_self j b ho]
    rw [List.cons_append]
    unfold wpList at h
    unfold wpListIn
    rw [e]
    split
    · rename_i hw
      rw [if_pos hw] at h
      rcases h with h | h
      · refine ⟨fun f _ => Fw_fn f, ?_⟩
        rw [Fw_round, Oper.semAt_eq r a.eval o (hd o List.mem_cons_self)]
        exact uponIn_of (Oper.wp_mono (K' := wpListIn (Fw r) n P ops' Q (l ++ rest)) (fun a' w' hh => wpListIn_of hX l a' w' (fun o ho => hd o (List.mem_cons_of_mem _ ho)) (fun o ho => hg o (List.mem_cons_of_mem _ ho)) hh) h)
      · exact absurd h.2 NX.out
    · rename_i hw
      rw [if_neg hw] at h
      exact ⟨fun f _ => Fw_fn f, wpListIn_of hX l _ w (fun o ho => hd o (List.mem_cons_of_mem _ ho)) (fun o ho => hg o (List.mem_cons_of_mem _ ho)) h⟩
def noDefer (l : List Oper) : Bool := l.all fun o => match o.op with | .defer _ => false | _ => true
theorem noDefer_spec {l : List Oper} (h : noDefer l = true) : ∀ o ∈ l, ∀ c, o.op ≠ .defer c := fun o ho c e => by
  have := List.all_eq_true.1 h o ho
  rw [e] at this
  cases this
theorem wpIn_of_OW {r : Option Nat} {n id : Nat} {K : St → Prop} {Q : Exit → Act → World → Prop} {a : Act} {w : World} {g : Gh} (hd : noDefer ops.toList = true) (h : OWk P false ops 0 st K) (hr : Rel st a w g)
    (hq : ∀ st' a' w' g', K st' → Rel st' a' w' g' → Fr false g w g' w' → Q .normal a' w') : (Code.region id ops false).wpIn (Fw r) n P Q a w := by
  refine wpIn_region_list ?_
  unfold OWk at h
  rw [List.drop_zero] at h
  have h1 := h a w g hr (NX (Q .normal)) (fun st' a' w' g' q r f => ⟨rfl, hq st' a' w' g' q r f⟩)
  have := wpListIn_of (r := r) (n := n) (ops' := ops) (Q := Q) (rest := []) (fun a w h => wpListIn_nil h) ops.toList a w (noDefer_spec hd) (fun _ _ _ _ _ => rfl) h1
  rwa [List.append_nil] at this
def CFr (C : Gh → World → Prop) : Prop := ∀ g w g' w', C g w → Fr false g w g' w' → C g' w'
def YB (P : Program) (C : Gh → World → Prop) (l : Nat) (args : List SV) (H H' : List SObj) : Prop :=
  ∀ (w : World) (g : Gh) (vs : Array Value), C g w → RArgs g w vs args → RH g w H → ∃ fn tmps assign body, (Instr.yield l vs).run P w = .ok (.round l fn tmps assign body) w ∧
    ∀ n, RoundIn Fence.wide n P l fn tmps assign body w fun e w' => e = .returned (.bool true) ∧ ∃ g', RH g' w' H' ∧ Fr false g w g' w' ∧ ∀ o, sharedO o = false → Keep o g w g' w'
variable {C : Gh → World → Prop} {Q : Exit → St → Prop}
end
end Go.Sh
namespace Go.Sh
section
variable {P : Program} {st : St}
theorem uses_out {t : Nat} {s : SV} : ¬ uses t s .out := by
  intro h
  cases s <;> simp [uses] at h
theorem Rel.outside {a : Act} {w w' : World} {g : Gh} {l : Nat} (h : Rel st a w g) (hl : g.ow l = .out) (hw : ∀ k, k ≠ l → w'.heap[k]? = w.heap[k]?) : Rel st a w' g := by
  have hk : ∀ o, o ≠ .out → Keep o g w g w' := fun o ho k b h1 h2 => ⟨h1, by rw [hw k (fun e => ho (by rw [← h1, e]; exact hl.symm ▸ rfl))]; exact h2⟩
  refine Rel.step h h.len h.def0 (fun _ _ h => h) (fun t s hs => .inr (.inr ⟨hs, rfl, fun o' ho' => hk o' (fun e => by subst e; exact uses_out ho'), fun s0 e => ⟨rfl, fun x hx hb => ⟨x, hx, rfl⟩⟩⟩)) ?_
  exact h.hp.keep (fun o ho => hk o (fun e => by subst e; exact ho)) (fun _ _ h => h) rfl
theorem putObj_other {w : World} {l k : Nat} {o : Obj} (h : k ≠ l) : (w.putObj l o).heap[k]? = w.heap[k]? := World.putObj_heap_other h
def SWR (P : Program) (r : Option Nat) (c : Code) (st : St) (K : St → Prop) : Prop :=
  ∀ n a w g, Rel st a w g → c.wpIn (Fw r) n P (fun e a' w' => e = .normal ∧ ∃ st' g', K st' ∧ Rel st' a' w' g' ∧ Fr false g w g' w') a w
variable {r : Option Nat} {K : St → Prop}
theorem SWR.region {ops : Array Oper} {id : Nat} (hd : noDefer ops.toList = true) (h : OWk P false ops 0 st K) : SWR P r (.region id ops false) st K :=
  fun n a w g hr => wpIn_of_OW hd h hr fun st' a' w' g' q r f => ⟨rfl, st', g', q, r, f⟩
theorem SWR.block {id : Nat} {c : Code} (h : SWR P r c st K) : SWR P r (.block id c) st K := fun n a w g hr =>
  wpIn_block (Code.wpIn_mono (fun e a' w' hh => by obtain ⟨rfl, hh⟩ := hh; exact ⟨rfl, hh⟩) (h n a w g hr))
def CRec (l : Nat) (R : Loop) (ds : List (Nat × D)) (g : Gh) (w : World) : Prop :=
  w.heap[l]? = some (.loop R) ∧ g.ow l = .out ∧ ∀ t d, (t, d) ∈ ds → Rd g w (R.tmps.getD t undef) d
theorem CRec.fr {l : Nat} {R : Loop} {ds : List (Nat × D)} : CFr (CRec l R ds) := fun g w g' w' h f =>
  ⟨(f.out l _ h.2.1 h.1).2, (f.out l _ h.2.1 h.1).1, fun t d hd => (h.2.2 t d hd).keep f.free f.rho⟩
theorem YB.of_round {l tp : Nat} {R : Loop} {ds : List (Nat × D)} {y : D} {H H' : List SObj} {s0 : St} (hst : R.state = .ready) (hpe : R.pending = none) (hps : R.params = #[tp]) (hH : s0.H = H) (hlen : s0.tmps.length = R.tmps.size)
    (hs0 : ∀ t s, s0.tmps[t]? = some s → s = .undef ∨ ∃ d, s = .d d ∧ ((t = tp ∧ d = y) ∨ (t ≠ tp ∧ (t, d) ∈ ds)))
    (h : SWR P (some l) R.assign s0 (fun s1 => SWR P (some l) R.body s1 (fun s2 => s2.H = H'))) : YB P (CRec l R ds) l [.d y] H H' := by
  intro w g vs hC hRA hRH
  obtain ⟨hl1, hl2, hl3⟩ := hC
  obtain ⟨hv1, hv2⟩ := hRA
  obtain ⟨v, hv3, hv4⟩ := hv2 0 (.d y) rfl
  have hvs : vs = #[v] := by
    apply Array.ext_getElem?
    intro j
    cases j with
    | zero => simpa using hv3
    | succ j => rw [Array.getElem?_eq_none (by simp at hv1; omega)]; simp
  subst hvs
  have hv4 : Rd g w v y := hv4
  refine ⟨R.fn, R.tmps.setIfInBounds tp v, R.assign, R.body, ?_, fun n => ?_⟩
  · rw [run_yield hl1 (by rw [hps]; rfl), hps]
    simp
  · have hrel : Rel s0 { tmps := R.tmps.setIfInBounds tp v, defers := [] } w (g.ren (calleeOw [] [])) := by
      refine ⟨by simp [hlen], rfl, fun t s hs => ?_, ?_⟩
      · rcases hs0 t s hs with rfl | ⟨d, rfl, h | ⟨h1, h2⟩⟩
        · trivial
        · obtain ⟨rfl, rfl⟩ := h
          have hlt : t < R.tmps.size := by rw [← hlen]; exact get_lt hs
          have : valOf { tmps := R.tmps.setIfInBounds t v, defers := [] } t = v := by
            simp [valOf, Array.getD_eq_getD_getElem?, hlt]
          rw [this]
          exact hv4.keep (Keep.ren rfl) (fun _ _ h => h)
        · have : valOf { tmps := R.tmps.setIfInBounds tp v, defers := [] } t = R.tmps.getD t undef := by
            simp [valOf, Array.getD_eq_getD_getElem?, Array.getElem?_setIfInBounds, Ne.symm h1]
          rw [this]
          exact (hl3 t d h2).keep (Keep.ren rfl) (fun _ _ h => h)
      · rw [hH]
        exact hRH.keep (fun o' ho' => Keep.ren (by
          cases o' <;> simp only [usesH] at ho' <;> try rfl
          rename_i l
          cases l <;> simp only [usesH] at ho'
          rfl)) (fun _ _ h => h) rfl
    have hgl : (g.ren (calleeOw [] [])).ow l = .out := by simp [Gh.ren, hl2, calleeOw]
    refine roundIn_of_wpIn (F := Fence.wide) trivial (Code.wpIn_mono (fun e a1 w1 hh => ?_) (h n _ w _ hrel))
    obtain ⟨rfl, st1, g1, q1, r1, f1⟩ := hh
    obtain ⟨k1, k2⟩ := f1.out l _ hgl hl1
    refine ⟨_, run_beginRound k2 hst, ?_⟩
    have r2 := r1.outside (w' := w1.putObj l (.loop { R with state := .busy })) k1 (fun k hk => putObj_other hk)
    refine Code.wpIn_mono (fun e a3 w3 hh => ?_) (q1 n a1 _ g1 r2)
    obtain ⟨rfl, st3, g3, q3, r3, f3⟩ := hh
    have hbusy : (w1.putObj l (.loop { R with state := .busy })).heap[l]? = some (.loop { R with state := .busy }) := World.putObj_heap_same (Array.getElem?_eq_some_iff.1 k2).1
    obtain ⟨m1, m2⟩ := f3.out l _ k1 hbusy
    refine ⟨_, _, run_endRound none m2, rfl, ?_⟩
    have hR : ({ { R with state := .busy } with state := if (none : Option Code).isNone then .ready else .done, pending := none } : Loop) = R := by
      simp [← hst, ← hpe]
    rw [hR]
    have r4 := r3.outside (w' := w3.putObj l (.loop R)) m1 (fun k hk => putObj_other hk)
    have hl4 : (w3.putObj l (.loop R)).heap[l]? = some (.loop R) := World.putObj_heap_same (Array.getElem?_eq_some_iff.1 m2).1
    have hback : ∀ {o : Own}, Keep o (g.ren (calleeOw [] [])) w g1 w1 → Keep o g1 (w1.putObj l (.loop { R with state := .busy })) g3 w3 → Keep o (g.ren (calleeOw [] [])) w g3 (w3.putObj l (.loop R)) := fun {o} ha hb k b e1 e2 => by
      obtain ⟨x1, x2⟩ := ha k b e1 e2
      by_cases hk : k = l
      · subst hk
        rw [hl1] at e2
        cases e2
        rw [e1] at hgl
        subst hgl
        exact ⟨m1, hl4⟩
      · obtain ⟨y1, y2⟩ := hb k b x1 (by rw [putObj_other hk]; exact x2)
        exact ⟨y1, by rw [putObj_other hk]; exact y2⟩
    have hfr : Fr false (g.ren (calleeOw [] [])) w g3 (w3.putObj l (.loop R)) := by
      refine ⟨?_, hback f1.free f3.free, hback f1.out f3.out, fun i k h => f3.rho i k (f1.rho i k h), nofun, nofun, nofun, ?_⟩
      · have h1 := f1.size
        have h2 := f3.size
        simp only [World.putObj, Array.size_setIfInBounds] at h2 ⊢
        omega
      · exact f1.os.trans f3.os
    have hRH3 : RH g3 (w3.putObj l (.loop R)) H' := by rw [← q3]; exact r4.hp
    obtain ⟨p1, p2⟩ := callH_post 0 hfr hRH3
    exact ⟨_, p2, p1, fun o ho => keepH (t := 0) hfr ho⟩
end
end Go.Sh
namespace Go.Sh
section
variable {P : Program} {st : St} {C : Gh → World → Prop} {Q : Exit → St → Prop} {ops : Array Oper} {m : Nat} {K : St → Prop}
theorem wpListIn_OWk {n k : Nat} {a : Act} {w : World} {g : Gh} {Qc : Exit → Act → World → Prop} (hd : noDefer ops.toList = true) (h : OWk P false ops k st K) (hr : Rel st a w g)
    (hq : ∀ st' a' w' g', K st' → Rel st' a' w' g' → Fr false g w g' w' → Qc .normal a' w') : wpListIn Fence.wide n P ops Qc (ops.toList.drop k) a w := by
  have h1 := h a w g hr (NX (Qc .normal)) (fun st' a' w' g' q r f => ⟨rfl, hq st' a' w' g' q r f⟩)
  have := wpListIn_of (r := none) (n := n) (ops' := ops) (Q := Qc) (rest := []) (fun a w h => wpListIn_nil h) (ops.toList.drop k) a w (fun o ho => noDefer_spec hd o (List.mem_of_mem_drop ho)) (fun _ _ _ _ _ => rfl) h1
  rwa [List.append_nil] at this
def yAt (P : Program) (ops : Array Oper) (k : Nat) (st : St) : Option (Option Tmp × Nat × D) :=
  match opAt ops k st with
  | some o => match o.op with
    | .call c => match c.callee, c.args.toList with
      | .value fo, [x] => match valD st fo, valD st x with
        | some (.fn (.yield l) [] []), some d => some (o.dst, l, d)
        | _, _ => none
      | _, _ => none
    | _ => none
  | none => none
end
end Go.Sh
namespace Go.Sh
def markD (r : Nat) : Deferred := { target := .collected r, args := #[] }
def Mk (n : Nat) (ds : List Deferred) (g : Gh) (w : World) : Prop := ∃ rs : List Nat, ds = rs.map markD ∧ rs.Nodup ∧ (∀ r ∈ rs, n ≤ r) ∧ ∀ r ∈ rs, w.heap[r]? = some (.deferred (some [])) ∧ g.ow r = .out
theorem Mk.nil {n : Nat} {g : Gh} {w : World} : Mk n [] g w := ⟨[], rfl, List.nodup_nil, (fun _ h => by cases h), fun _ h => by cases h⟩
theorem Mk.le {n n' : Nat} {ds : List Deferred} {g : Gh} {w : World} (h : Mk n' ds g w) (hn : n ≤ n') : Mk n ds g w := let ⟨rs, a, b, c, d⟩ := h; ⟨rs, a, b, fun r hr => Nat.le_trans hn (c r hr), d⟩
theorem Mk.fr {n : Nat} {ds : List Deferred} {g g' : Gh} {w w' : World} (h : Mk n ds g w) (f : Fr false g w g' w') : Mk n ds g' w' := by
  obtain ⟨rs, h1, h2, h0, h3⟩ := h
  exact ⟨rs, h1, h2, h0, fun r hr => ⟨(f.out r _ (h3 r hr).2 (h3 r hr).1).2, (f.out r _ (h3 r hr).2 (h3 r hr).1).1⟩⟩
section
variable {P : Program} {st : St} {Q : Exit → St → Prop}
def SWM0 (P : Program) (c : Code) (st : St) (Q : Exit → St → Prop) : Prop :=
  ∀ a w g, Rel st a w g → c.wp P (fun e a' w' => ∃ ds a0 st' g', Mk w.heap.size ds g' w' ∧ a' = moreA a0 ds ∧ Q e st' ∧ Rel st' a0 w' g' ∧ Fr false g w g' w') a w
theorem moreA_nil (a : Act) : moreA a [] = a := by simp [moreA]
theorem SWM0.seq1 {x y : Code} (h : SW P false x st (thenS (fun s => SWM0 P y s Q) Q)) : SWM0 P (.seq x y) st Q := by
  intro a w g hr
  refine wp_seq (Code.wp_mono (fun e a' w' hh => ?_) (h a w g hr))
  obtain ⟨st', g', q, r, f⟩ := hh
  cases e with
  | normal =>
    refine Code.wp_mono (fun e2 a2 w2 hh2 => ?_) (q a' w' g' r)
    obtain ⟨ds, a0, st2, g2, m2, e2, q2, r2, f2⟩ := hh2
    exact ⟨ds, a0, st2, g2, m2.le f.size, e2, q2, r2, f.trans f2⟩
  | _ => exact ⟨[], a', st', g', .nil, (moreA_nil a').symm, q, r, f⟩
theorem SWM0.seq2 {x y : Code} (h : SWM0 P x st (thenS (fun s => ∀ ds, SWd P ds y s Q) Q)) : SWM0 P (.seq x y) st Q := by
  intro a w g hr
  refine wp_seq (Code.wp_mono (fun e a' w' hh => ?_) (h a w g hr))
  obtain ⟨ds, a0, st', g', m, rfl, q, r, f⟩ := hh
  cases e with
  | normal =>
    refine Code.wp_mono (fun e2 a2 w2 hh2 => ?_) (q ds a0 w' g' r)
    obtain ⟨a1, st2, g2, e2, q2, r2, f2⟩ := hh2
    exact ⟨ds, a1, st2, g2, m.fr f2, e2, q2, r2, f.trans f2⟩
  | _ => exact ⟨ds, a0, st', g', m, rfl, q, r, f⟩
theorem SWM0.block {id : Nat} {c : Code} (h : SWM0 P c st (blockS id Q)) : SWM0 P (.block id c) st Q := by
  intro a w g hr
  refine wp_block (Code.wp_mono (fun e a' w' hh => ?_) (h a w g hr))
  obtain ⟨ds, a0, st', g', m, e0, q, r, f⟩ := hh
  cases e with
  | exit id' =>
    simp only [blockS] at q
    simp only [Exit.inBlock]
    split at q
    · rename_i hi; rw [if_pos hi]; exact ⟨ds, a0, st', g', m, e0, q, r, f⟩
    · rename_i hi; rw [if_neg hi]; exact ⟨ds, a0, st', g', m, e0, q, r, f⟩
  | _ => exact ⟨ds, a0, st', g', m, e0, q, r, f⟩
theorem SWM0.kp {c : Code} (n : Nat) (H : List SObj) (L : List Nat) (l : List (Nat × SV)) (hst : pickR n L st = some (l, H)) (h : SWM0 P c (sp n l H) Q) : SWM0 P c st Q :=
  fun a w g hr => h a w g (hr.keepR (keepR_of_pick hst))
theorem takeDeferred_run {w : World} {r : Nat} (h : w.heap[r]? = some (.deferred (some []))) : (Instr.takeDeferred r).run P w = .ok [] (w.putObj r (.deferred none)) := run_takeDeferred h
theorem SB.of_SWM0 {f : FuncId} {fn : Func} {c : Code} {args : List SV} {H H' : List SObj} {r : SV} (hf : P.funcs[f]? = some fn) (hb : fn.body = some c)
    (h : SWM0 P c (initSt fn.ntmps args H) (EndQ P fn.results.toList H' r)) : SB P f args H (.ok (r, H')) := by
  intro w g vs ha hH
  refine callsIn_wide.1 (callsIn_of_wp_marks (n := 0) hf hb trivial ((wpIn_wide (n := 0)).2 (Code.wp_mono (fun e a' w' hh => ?_) (h _ _ g (Rel.init ha hH fn.ntmps)))))
  obtain ⟨ds, a0, st', g', m, rfl, ⟨he, l, h1, h2⟩, hr, hfr⟩ := hh
  obtain ⟨rs, rfl, hnd, hbase, hrs⟩ := m
  have key : ∀ (rs : List Nat) (w1 : World), rs.Nodup → (∀ r ∈ rs, w.heap.size ≤ r) → (∀ r ∈ rs, w1.heap[r]? = some (.deferred (some [])) ∧ g'.ow r = .out) → Rel (st'.nils l) a0 w1 g' → Keep .free g w g' w1 → Keep .out g w g' w1 → w.heap.size ≤ w1.heap.size → SameOs w w1 →
      LeavesInM Fence.wide 0 P fn a0.tmps (fun e w' => ∃ v g', e = .returned v ∧ RRes g' w' v r ∧ RH g' w' H' ∧ Fr false g w g' w') (rs.map markD) .returning w1 := by
    intro rs
    induction rs with
    | nil =>
      intro w1 _ _ _ hr1 k1 k2 k3 k4
      obtain ⟨v, g5, e5, e6, e7, e8⟩ := endRes (pu := false) hr1 (endV_ok h1)
      have hH1 : (st'.nils l).H = H' := by rw [St.nils_H]; exact h2
      rw [hH1] at e7
      have : Fr false g w g' w1 := ⟨k3, k1, k2, hfr.rho, nofun, nofun, nofun, k4⟩
      exact ⟨v, e5, v, g5, rfl, e6, e7, this.trans e8⟩
    | cons r0 rs ih =>
      intro w1 hn hb0 hh hr1 k1 k2 k3 k4
      rw [List.nodup_cons] at hn
      obtain ⟨t1, t2⟩ := hh r0 (by simp)
      have hb1 := hb0 r0 (by simp)
      refine ⟨by simp, .inl ⟨r0, _, rfl, takeDeferred_run t1, ?_⟩⟩
      have hne : ∀ {k : Nat} {b : Obj}, w.heap[k]? = some b → k ≠ r0 := fun hk e => by
        have := get_lt' hk
        omega
      refine ih _ hn.2 (fun r hr => hb0 r (by simp [hr])) (fun r hr => ⟨?_, (hh r (by simp [hr])).2⟩) (hr1.outside t2 (fun k hk => putObj_other hk)) (fun k b x1 x2 => ?_) (fun k b x1 x2 => ?_) ?_ k4
      · have hne2 : r ≠ r0 := fun e => hn.1 (by rw [← e]; exact hr)
        rw [putObj_other hne2]
        exact (hh r (by simp [hr])).1
      · obtain ⟨y1, y2⟩ := k1 k b x1 x2
        exact ⟨y1, by rw [putObj_other (hne x2)]; exact y2⟩
      · obtain ⟨y1, y2⟩ := k2 k b x1 x2
        exact ⟨y1, by rw [putObj_other (hne x2)]; exact y2⟩
      · simpa [World.putObj] using k3
  have hds : (moreA a0 (rs.map markD)).defers = rs.map markD := by simp [moreA, hr.def0]
  have fin := key rs w' hnd hbase hrs hr.nils hfr.free hfr.out hfr.size hfr.os
  rcases he with rfl | rfl
  · show LeavesInM Fence.wide 0 P fn _ _ (moreA a0 (rs.map markD)).defers .returning w'
    rw [hds]; exact fin
  · show LeavesInM Fence.wide 0 P fn _ _ (moreA a0 (rs.map markD)).defers .returning w'
    rw [hds]; exact fin
where
  get_lt' {w : World} {k : Nat} {b : Obj} (h : w.heap[k]? = some b) : k < w.heap.size := (Array.getElem?_eq_some_iff.1 h).1
end
end Go.Sh
