/- The rules that printed proofs name, of functions that make objects. -/
import Derived.Test.YtjkhgfoecplbgaaSh28
set_option linter.all false
set_option autoImplicit true
set_option relaxedAutoImplicit true
set_option linter.unusedVariables false
set_option linter.unusedSimpArgs false
namespace Go.Sh

section
variable {P : Program} {st : St} {ops : Array Oper} {k m : Nat} {Q : St → Prop} (n : Nat) (H : List SObj)

/-! ## Reading -/

/-- A pointer that is asked not to be nil. -/
def ncAt (ops : Array Oper) (k : Nat) (st : St) : Option (Option Tmp × D) :=
  match opAt ops k st with
  | some o => match o.op with
    | .nilCheck (.tmp s) => match valD st (.tmp s) with
      | some d => some (o.dst, d)
      | none => none
    | _ => none
  | none => none

theorem BAt.nilc {d : Option Tmp} {p : Option Nat} {i : Nat} (hp : p = some i) (h : ncAt ops k st = some (d, cP.enc p)) : BAt P ops k st d (.d (.ptr i 0)) := by
  subst hp
  unfold ncAt at h
  split at h
  · rename_i o ho
    split at h
    · rename_i s hop
      split at h
      · rename_i d' hv
        simp only [Option.some.injEq, Prod.mk.injEq] at h
        obtain ⟨rfl, rfl⟩ := h
        obtain ⟨h1, h2⟩ := opAt_inv ho
        refine ⟨o, h1, h2, BStep.of_bop ?_, rfl, rfl⟩
        simp only [valD, val] at hv
        split at hv
        · rename_i d hd
          cases hv
          simp [bop, hop, readOp, hd, readSV, someK, fnOk, cP]
        · cases hv
      · cases h
    · cases h
  · cases h

/-- What is loaded out of an object, its cells from there on being known to begin so. -/
def ldHAt (P : Program) (ops : Array Oper) (k : Nat) (st : St) (cs : List SV) : Option (Option Tmp × Nat × Nat × Hp × SV) :=
  match opAt ops k st with
  | some o => match o.op with
    | .load T x => match asLoc st x, ptrOf st x, ptrH st x with
      | none, none, some (i, off) =>
        if (P.underlying T).isNone then none
        else if isAggT P T then (if 0 < P.cellsOf T ∧ P.cellsOf T ≤ cs.length then (match allD (cs.take (P.cellsOf T)) with | some ys => some (o.dst, i, off, st.H, .d (.agg ys)) | none => none) else none)
        else match cs with
          | .d x :: _ => some (o.dst, i, off, st.H, .d x)
          | .own n xs :: _ => some (o.dst, i, off, st.H, .lent (.hcell i off) n xs)
          | _ => none
      | _, _, _ => none
    | _ => none
  | none => none

theorem BAt.ldH {α : Type} {c : Cc α} {H0 : Hp} {i off : Nat} {x : α} {d : Option Tmp} {s : SV} (hx : hGet c H0 i off = some x) (h : ldHAt P ops k st (c.enc x) = some (d, i, off, H0, s)) : BAt P ops k st d s := by
  obtain ⟨cs, r, e1, e2⟩ := hGet_eq hx
  unfold ldHAt at h
  split at h
  · rename_i o ho
    split at h
    · rename_i T xo hop
      split at h
      · rename_i i' off' h1 h2 h3
        obtain ⟨g1, g2⟩ := opAt_inv ho
        have key : ∀ s', loadS P T (.hcell i' off') (c.enc x ++ r) = some s' → i' = i → off' = off → st.H = H0 → locOk o.dst s' = true → BAt P ops k st o.dst s' := by
          rintro s' hl rfl rfl rfl hlk
          refine ⟨o, g1, g2, BStep.of_bop ?_, hlk, rfl⟩
          simp only [bop, hop, loadOp, h1, h2, h3, e1, e2, hl]
        split at h
        · cases h
        · rename_i hu
          split at h
          · rename_i ha
            split at h
            · rename_i hn
              split at h
              · rename_i ys hys
                simp only [Option.some.injEq, Prod.mk.injEq] at h
                obtain ⟨rfl, e3, e4, e5, rfl⟩ := h
                refine key _ ?_ e3 e4 e5 rfl
                unfold loadS
                rw [if_neg hu, if_pos ha, if_pos ⟨hn.1, by rw [List.length_append]; omega⟩, List.take_append_of_le_length hn.2, hys]
                rfl
              · cases h
            · cases h
          · rename_i ha
            split at h
            · rename_i y rest hc
              simp only [Option.some.injEq, Prod.mk.injEq] at h
              obtain ⟨rfl, e3, e4, e5, rfl⟩ := h
              refine key _ ?_ e3 e4 e5 rfl
              unfold loadS
              rw [if_neg hu, if_neg ha, hc]
              rfl
            · rename_i w' xs rest hc
              simp only [Option.some.injEq, Prod.mk.injEq] at h
              obtain ⟨rfl, e3, e4, e5, rfl⟩ := h
              refine key _ ?_ e3 e4 e5 rfl
              unfold loadS
              rw [if_neg hu, if_neg ha, hc, e3, e4]
              rfl
            · cases h
      · cases h
    · cases h
  · cases h

/-- A key is looked up. -/
def lkAt (P : Program) (ops : Array Oper) (k : Nat) (st : St) : Option (Option Tmp × Bool × D × D × KeyT × D × Hp) :=
  match opAt ops k st with
  | some o => match o.op with
    | .lookup T x ix ok => match P.underlying T with
      | some (.map KT ET) => match keyTOf P KT, valD st x, valD st ix, zeroD P ET with
        | some kt, some dm, some dk, some z => some (o.dst, ok, dm, dk, kt, z, st.H)
        | _, _, _, _ => none
      | _ => none
    | _ => none
  | none => none

theorem BAt.look {K V : Type} [BEq K] {kc : Kc K} {v : Cd V} {d : Option Tmp} {ok : Bool} {mm : Option Nat} {key : K} {z : V} {q : Option V} {H0 : Hp} (hq : hLook kc v H0 mm key = some q)
    (h : lkAt P ops k st = some (d, ok, cM.enc mm, kc.c.enc key, kc.kt, v.enc z, H0)) : BAt P ops k st d (lookS v ok z q) := by
  unfold lkAt at h
  split at h
  · rename_i o ho
    split at h
    · rename_i T x ix ok' hop
      split at h
      · rename_i KT ET hT
        split at h
        · rename_i kt dm dk z' h1 h2 h3 h4
          simp only [Option.some.injEq, Prod.mk.injEq] at h
          obtain ⟨rfl, rfl, rfl, rfl, rfl, rfl, rfl⟩ := h
          obtain ⟨g1, g2⟩ := opAt_inv ho
          refine ⟨o, g1, g2, BStep.lookup hop hT h1 h2 h3 h4 hq, ?_, rfl⟩
          unfold lookS
          cases ok' <;> rfl
        · cases h
      · cases h
    · cases h
  · cases h

/-- How many entries a map has. -/
theorem OWk.caseO {pu : Bool} (p : Option Nat) (S : Option Nat → St) (h0 : st = S p) (hN : p = none → OWk P pu ops k (S none) Q) (hS : ∀ i, p = some i → OWk P pu ops k (S (some i)) Q) : OWk P pu ops k st Q := by
  subst h0
  cases p with
  | none => exact hN rfl
  | some i => exact hS i rfl

theorem OBk.caseO (p : Option Nat) (S : Option Nat → St) (h0 : st = S p) (hN : p = none → OBk P ops m k (S none) Q) (hS : ∀ i, p = some i → OBk P ops m k (S (some i)) Q) : OBk P ops m k st Q := by
  subst h0
  cases p with
  | none => exact hN rfl
  | some i => exact hS i rfl

/-! ## Writing -/

/-- A step that changes the shadow heap. -/
theorem OWk.heap {o : Oper} {st' : St} (L : List Nat) (l : List (Nat × SV)) (ho : ops[k]? = some o) (hw : wantS ops st o = some true) (hs : OpS P false st o st') (hst : pickR n L st' = some (l, H)) (h : OWk P false ops (k + 1) (sp n l H) Q) : OWk P false ops k st Q :=
  OWk.e ho hw hs (OWk.keep L (keepR_of_pick hst) h)

def stHAt (P : Program) (ops : Array Oper) (k : Nat) (st : St) : Option (Nat × Nat × D × Hp) :=
  match opAt ops k st with
  | some o => match o.op with
    | .store T x y => match ptrH st x, valD st y with
      | some (i, off), some d => if (P.underlying T).isNone = false ∧ d.cells.length = P.cellsOf T ∧ o.dst = none then some (i, off, d, st.H) else none
      | _, _ => none
    | _ => none
  | none => none

theorem OWk.hst {α : Type} {c : Cd α} {x : α} {i off : Nat} {H0 : Hp} (L : List Nat) (l : List (Nat × SV)) (hx : hSet c H0 i off x = some H) (h : stHAt P ops k st = some (i, off, c.enc x, H0)) (hst : pickR n L (st.hp H) = some (l, H))
    (hn : OWk P false ops (k + 1) (sp n l H) Q) : OWk P false ops k st Q := by
  unfold stHAt at h
  split at h
  · rename_i o ho
    split at h
    · rename_i T x y hop
      split at h
      · rename_i i' off' d h1 h2
        split at h
        · rename_i hc
          simp only [Option.some.injEq, Prod.mk.injEq] at h
          obtain ⟨rfl, rfl, rfl, rfl⟩ := h
          obtain ⟨g1, g2⟩ := opAt_inv ho
          exact OWk.heap n H L l g1 g2 (OpS.storeH hop hc.2.2 h1 h2 hc.1 hc.2.1 hx) hst hn
        · cases h
      · cases h
    · cases h
  · cases h

/-- A new object: a variable, one with a value, a map. -/
def newAt (P : Program) (ops : Array Oper) (k : Nat) (st : St) (l : List (Nat × Nat × Bool)) : Option (Option Tmp × SObj × Hp × Bool) :=
  match opAt ops k st with
  | some o => match o.op with
    | .alloc T => match zeroD P T with
      | some z => some (o.dst, .cells (nilCells l (z.cells.map .d)), st.H, false)
      | none => none
    | .box T x => match valD st x with
      | some y => some (o.dst, .cells (nilCells l (y.cells.map .d)), st.H, false)
      | none => none
    | .makeMap T none => some (o.dst, .map [], st.H, true)
    | _ => none
  | none => none

theorem OWk.hnew {d : Option Tmp} {ob : SObj} {H0 : Hp} {q : Hp × Nat} {b : Bool} (nl : List (Nat × Nat × Bool)) (L : List Nat) (l : List (Nat × SV)) (hq : hNew H0 ob = some q) (h : newAt P ops k st nl = some (d, ob, H0, b)) (hH : q.1 = H)
    (hst : pickR n L ((st.hp H).put d (.d (if b then .map q.2 else .ptr q.2 0))) = some (l, H)) (hn : OWk P false ops (k + 1) (sp n l H) Q) : OWk P false ops k st Q := by
  cases hq
  subst hH
  unfold newAt at h
  split at h
  · rename_i o ho
    obtain ⟨g1, g2⟩ := opAt_inv ho
    split at h
    · rename_i T hop
      split at h
      · rename_i z hz
        simp only [Option.some.injEq, Prod.mk.injEq] at h
        obtain ⟨rfl, rfl, rfl, rfl⟩ := h
        exact OWk.heap n _ L l g1 g2 (OpS.allocH nl hop hz) hst hn
      · cases h
    · rename_i T x hop
      split at h
      · rename_i y hy
        simp only [Option.some.injEq, Prod.mk.injEq] at h
        obtain ⟨rfl, rfl, rfl, rfl⟩ := h
        exact OWk.heap n _ L l g1 g2 (OpS.boxH nl hop hy) hst hn
      · cases h
    · rename_i T hop
      simp only [Option.some.injEq, Prod.mk.injEq] at h
      obtain ⟨rfl, rfl, rfl, rfl⟩ := h
      exact OWk.heap n _ L l g1 g2 (OpS.makeMapH hop) hst hn
    · cases h
  · cases h

/-- A map is written. -/
def mpAt (P : Program) (ops : Array Oper) (k : Nat) (st : St) : Option (D × D × D × KeyT × Hp) :=
  match opAt ops k st with
  | some o => match (match o.op with | .mapUpdate T x ix y => some (T, x, ix, y) | .insert T x ix y => some (T, x, ix, y) | _ => none) with
    | some (T, x, ix, y) => match P.underlying T with
      | some (.map KT ET) => match keyTOf P KT, valD st x, valD st ix, valD st y with
        | some kt, some dm, some dk, some dy => if o.dst = none then some (dm, dk, dy, kt, st.H) else none
        | _, _, _, _ => none
      | _ => none
    | none => none
  | none => none

theorem OWk.mput {K V : Type} [BEq K] {kc : Kc K} {v : Cd V} {mm : Option Nat} {key : K} {y : V} {H0 : Hp} (L : List Nat) (l : List (Nat × SV)) (hx : hMput kc v H0 mm key y = some H) (h : mpAt P ops k st = some (cM.enc mm, kc.c.enc key, v.enc y, kc.kt, H0))
    (hst : pickR n L (st.hp H) = some (l, H)) (hn : OWk P false ops (k + 1) (sp n l H) Q) : OWk P false ops k st Q := by
  unfold mpAt at h
  split at h
  · rename_i o ho
    obtain ⟨g1, g2⟩ := opAt_inv ho
    split at h
    · rename_i T x ix yx hop
      split at h
      · rename_i KT ET hT
        split at h
        · rename_i kt dm dk dy h1 h2 h3 h4
          split at h
          · rename_i hd
            simp only [Option.some.injEq, Prod.mk.injEq] at h
            obtain ⟨rfl, rfl, rfl, rfl, rfl⟩ := h
            refine OWk.heap n H L l g1 g2 (OpS.mapUpdate ?_ hd hT h1 h2 h3 h4 hx) hst hn
            split at hop
            · rename_i e; cases hop; exact .inl e
            · rename_i e; cases hop; exact .inr e
            · cases hop
          · cases h
        · cases h
      · cases h
    · cases h
  · cases h

def mdAt (P : Program) (ops : Array Oper) (k : Nat) (st : St) : Option (Option Tmp × D × D × KeyT × Hp) :=
  match opAt ops k st with
  | some o => match o.op with
    | .call c => match c.callee, c.args.toList, c.argTypes.toList with
      | .builtin .delete, [x, ix], [T, T2] => match P.underlying T with
        | some (.map KT ET) => match keyTOf P KT, valD st x, valD st ix with
          | some kt, some dm, some dk => some (o.dst, dm, dk, kt, st.H)
          | _, _, _ => none
        | _ => none
      | _, _, _ => none
    | _ => none
  | none => none

theorem OWk.mdel {K V : Type} [BEq K] {kc : Kc K} {v : Cd V} {mm : Option Nat} {key : K} {H0 : Hp} {d : Option Tmp} (L : List Nat) (l : List (Nat × SV)) (hx : hMdel kc v H0 mm key = some H) (h : mdAt P ops k st = some (d, cM.enc mm, kc.c.enc key, kc.kt, H0))
    (hst : pickR n L ((st.hp H).put d (.tup [])) = some (l, H)) (hn : OWk P false ops (k + 1) (sp n l H) Q) : OWk P false ops k st Q := by
  unfold mdAt at h
  split at h
  · rename_i o ho
    obtain ⟨g1, g2⟩ := opAt_inv ho
    split at h
    · rename_i c hop
      split at h
      · rename_i x ix T T2 hc ha ht
        split at h
        · rename_i KT ET hT
          split at h
          · rename_i kt dm dk h1 h2 h3
            simp only [Option.some.injEq, Prod.mk.injEq] at h
            obtain ⟨rfl, rfl, rfl, rfl, rfl⟩ := h
            exact OWk.heap n H L l g1 g2 (OpS.mapDelete hop hc ha ht hT h1 h2 h3 hx) hst hn
          · cases h
        · cases h
      · cases h
    · cases h
  · cases h

/-! ## A map's entry, made and filled -/

def isNot : Operand → Nat → Bool
  | .tmp t, d => t != d
  | _, _ => true

theorem isNot_ne {x : Operand} {d : Nat} (h : isNot x d = true) : x ≠ .tmp d := by
  rintro rfl
  simp [isNot] at h

def meAt (P : Program) (ops : Array Oper) (k : Nat) (st : St) : Option (Tmp × Tmp × D × D × D × D × KeyT × Hp) :=
  match ops[k]?, ops[k + 1]?, ops[k + 2]? with
  | some o1, some o2, some o3 => match o1.guard, o2.guard, o3.guard, o1.dst, o2.dst, o3.dst with
    | none, none, none, some d1, some d2, none => match o1.op, o2.op, o3.op with
      | .mapEntry T (.tmp x) ix, .extract (.tmp d1') 1, .entryStore T' (.tmp x') (.tmp d2') y => if d1' = d1 ∧ d2' = d2 ∧ x' = x ∧ x ≠ d1 ∧ x ≠ d2 ∧ isNot y d1 = true ∧ isNot y d2 = true ∧ d1 < st.tmps.length ∧ d2 < st.tmps.length then
          match P.underlying T with
          | some (.map KT ET) => match keyTOf P KT, valD st (.tmp x), valD st ix, valD st y, zeroD P ET with
            | some kt, some dm, some dk, some dy, some z => some (d1, d2, dm, dk, dy, z, kt, st.H)
            | _, _, _, _, _ => none
          | _ => none
        else none
      | _, _, _ => none
    | _, _, _, _, _, _ => none
  | _, _, _ => none

theorem eval_put_other {a : Act} {d : Nat} {v : Value} {x : Operand} (h : x ≠ .tmp d) : (a.put (some d) v).eval x = a.eval x := by
  cases x with
  | tmp t => exact valOf_put (by simpa using fun e => h (by rw [e]))
  | _ => rfl

theorem OWk.ment {K V : Type} [BEq K] {kc : Kc K} {v : Cd V} {mm : Option Nat} {key : K} {y z : V} {H0 : Hp} {d1 d2 : Nat} (L : List Nat) (l : List (Nat × SV)) (hx : hMput kc v H0 mm key y = some H)
    (h : meAt P ops k st = some (d1, d2, cM.enc mm, kc.c.enc key, v.enc y, v.enc z, kc.kt, H0)) (hst : pickR n L (((st.hp H).put (some d1) .undef).put (some d2) .undef) = some (l, H)) (hn : OWk P false ops (k + 3) (sp n l H) Q) : OWk P false ops k st Q := by
  unfold meAt at h
  split at h
  · rename_i o1 o2 o3 ho1 ho2 ho3
    split at h
    · rename_i d1' d2' hg1 hg2 hg3 hd1 hd2 hd3
      split at h
      · rename_i T x ix e1 T' x' e2 yx hp1 hp2 hp3
        split at h
        · rename_i hc
          obtain ⟨rfl, rfl, rfl, hx1, hx2, hy1, hy2, hl1, hl2⟩ := hc
          replace hx1 : Operand.tmp x' ≠ .tmp e1 := fun e => hx1 (by injection e)
          replace hx2 : Operand.tmp x' ≠ .tmp e2 := fun e => hx2 (by injection e)
          replace hy1 := isNot_ne hy1
          replace hy2 := isNot_ne hy2
          split at h
          · rename_i KT ET hT
            split at h
            · rename_i kt dm dk dy z' h1 h2 h3 h4 h5
              simp only [Option.some.injEq, Prod.mk.injEq] at h
              obtain ⟨rfl, rfl, rfl, rfl, rfl, rfl, rfl, rfl⟩ := h
              simp only [hMput, Option.bind_eq_some_iff, Option.map_eq_some_iff] at hx
              obtain ⟨i, rfl, es, hm, rfl⟩ := hx
              unfold OWk OW at hn ⊢
              rw [drop_cons ho1, drop_cons ho2, drop_cons ho3]
              intro a w g hr Qc hq
              obtain ⟨kb', q1, q2⟩ := mapOf_sound hr h2
              obtain ⟨kb, w1, v0, born, f1, f2, f3, f4, fo1, f5, f6, w2, f7, f8, fo2, f9, f10⟩ := entry_run hr hT h1 hm h5 (valD_d hr h3) (valD_d hr h4)
              have hkb : kb = kb' := by rw [f1] at q1; exact Option.some.inj q1
              subst hkb
              have want : ∀ (o : Oper) (y : Nat → Option Bool), o.guard = none → Region.wanted o y = true := fun o y h => by unfold Region.wanted; rw [h]
              -- the entry
              unfold wpList
              rw [want _ _ hg1, if_pos rfl]
              refine .inl ?_
              have r1 : (execOp a.eval o1).run P w = .ok (.value (.tuple #[v0, goInt born])) w1 := by
                unfold execOp; rw [hp1]
                simp only [q2, Sem.run_bind, f3, Result.andThen_ok, Sem.run_pure]
              unfold Oper.wp
              rw [r1, Oper.upon_value, hd1]
              -- its stamp
              unfold wpList
              rw [want _ _ hg2, if_pos rfl]
              refine .inl ?_
              have hlen1 : e1 < a.tmps.size := by rw [hr.len]; exact hl1
              have hlen2 : e2 < (a.put (some e1) (.tuple #[v0, goInt born])).tmps.size := by rw [put_size, hr.len]; exact hl2
              have ev1 : (a.put (some e1) (.tuple #[v0, goInt born])).eval (.tmp e1) = .tuple #[v0, goInt born] := valOf_put_same hlen1
              have r2 : (execOp (a.put (some e1) (.tuple #[v0, goInt born])).eval o2).run P w1 = .ok (.value (goInt born)) w1 := by
                unfold execOp; rw [hp2]
                simp only [ev1, Instr.extract, Sem.run_bind]
                rfl
              unfold Oper.wp
              rw [r2, Oper.upon_value, hd2]
              -- its value
              unfold wpList
              rw [want _ _ hg3, if_pos rfl]
              refine .inl ?_
              have ev2 : ((a.put (some e1) (.tuple #[v0, goInt born])).put (some e2) (goInt born)).eval (.tmp e2) = goInt born := valOf_put_same hlen2
              have evx : ((a.put (some e1) (.tuple #[v0, goInt born])).put (some e2) (goInt born)).eval (.tmp x') = a.eval (.tmp x') := by rw [eval_put_other hx2, eval_put_other hx1]
              have evy : ((a.put (some e1) (.tuple #[v0, goInt born])).put (some e2) (goInt born)).eval yx = a.eval yx := by rw [eval_put_other hy2, eval_put_other hy1]
              have r3 : (execOp ((a.put (some e1) (.tuple #[v0, goInt born])).put (some e2) (goInt born)).eval o3).run P w1 = .ok .skip w2 := by
                unfold execOp; rw [hp3]
                simp only [evx, ev2, evy, q2, Sem.run_bind]
                have : (Instr.entryStore T' (.map (some kb)) (goInt born) (a.eval yx)).run P w1 = .ok () w2 := f7
                rw [this]
                rfl
              unfold Oper.wp
              rw [r3, Oper.upon_skip, hd3]
              have hother : ∀ k', k' ≠ kb → w2.heap[k']? = w.heap[k']? := fun k' h => by rw [f9 k' h, f5 k' h]
              have hsz : w2.heap.size = w.heap.size := f8.trans f4
              have hr2 : Rel (st.hp (st.H.set i (.map ((mPut key y es).map (encE kc v))))) a w2 g := hr.setObj (get_lt (hMap_eq.1 hm)) f1 f2 hother f10
              have hr3 := (hr2.putLight (some e1) (v := .tuple #[v0, goInt born]) (s := .undef) trivial).putLight (some e2) (v := goInt born) (s := .undef) trivial
              refine hn _ w2 g (hr3.keepR (keepR_of_pick hst)) Qc fun st' a' w' g' q r f => hq st' a' w' g' q r ((Fr.setObj f2 hsz hother (fo1.trans fo2)).trans f)
            · cases h
          · cases h
        · cases h
      · cases h
    · cases h
  · cases h

/-! ## Ways that meet, loops: the heap is part of what is handed on -/
variable {pu : Bool}

theorem SW.jnH {α : Type} {x y : Code} {Q : Exit → St → Prop} (L : List Nat) (l : α → List (Nat × SV)) (Hf : α → Hp) (C : α → Prop) (hj : ∀ v, C v → SW P pu y (sp n (l v) (Hf v)) Q) (h : SW P pu x st (thenS (fun s => ∃ v ll, pickR n L (s.nils ll) = some (l v, Hf v) ∧ C v) Q)) : SW P pu (.seq x y) st Q :=
  SW.seqJ L (fun v => sp n (l v) (Hf v)) C hj (SW.mono h fun e s hh => by
    cases e with
    | normal => obtain ⟨v, ll, h1, h2⟩ := hh; exact ⟨v, ll, keepR_of_pick h1, h2⟩
    | _ => exact hh)

theorem SW.itH {γ β : Type} {c : Code} {Q : Exit → St → Prop} (L : List Nat) {body : γ → Option (γ ⊕ β)} (l : γ → List (Nat × SV)) (Hf : γ → Hp) (E : β → Exit → St → Prop) {fuel : Nat} {x : γ} {b : β} (hit : Sh.iter body fuel x = some b) (h0 : pickR n L st = some (l x, Hf x))
    (round : ∀ x o, body x = some o → SW P pu c (sp n (l x) (Hf x)) (thenS (fun s' => ∃ y, o = .inl y ∧ pickR n L s' = some (l y, Hf y)) (fun e s' => ∃ b, o = .inr b ∧ E b e s')))
    (after : ∀ e s', E b e s' → Q e s') : SW P pu (.loop c) st Q :=
  SW.iterK L (fun x => sp n (l x) (Hf x)) E hit (keepR_of_pick h0) (fun x o h => SW.mono (round x o h) fun e s hh => by
    cases e with
    | normal => obtain ⟨y, h1, h2⟩ := hh; exact ⟨y, h1, keepR_of_pick h2⟩
    | _ => exact hh) after

/-! ## How a body ends whose objects are nobody else's -/

def EndL (P : Program) (rs : List ResultVar) (r : SV) (e : Exit) (st : St) : Prop := ∃ H, EndQ P rs H r e st

theorem EndL.ret {rs : List ResultVar} {r : SV} (l : List (Nat × Nat)) (h : endV P rs (st.nils l) = some r) : EndL P rs r .ret st := ⟨st.H, .ret l h rfl⟩
theorem EndL.normal {rs : List ResultVar} {r : SV} (l : List (Nat × Nat)) (h : endV P rs (st.nils l) = some r) : EndL P rs r .normal st := ⟨st.H, .normal l h rfl⟩

end

/-- A contract where the heap behind the call is not told. -/
theorem PC.of_localSW {P : Program} {f : FuncId} {fn : Func} {c : Code} {args : List SV} {r : SV} (hf : P.funcs[f]? = some fn) (hb : fn.body = some c) (ha : args.all noPtrSV = true) (hr : noPtrSV r = true)
    (h : SW P false c (initSt fn.ntmps args []) (EndL P fn.results.toList r)) : PC P f args r := by
  refine PC.of_local ha hr fun w g vs hA hH => ?_
  have := calls_of_SW (P := P) (pu := false) (args := args) (H := []) (r := r) (fun _ => True) hf hb (fun a w g hr => ?_) w g vs hA hH
  · exact this.mono fun e w' hh => by
      obtain ⟨v, g', H', -, e1, e2, -, e3⟩ := hh
      exact ⟨v, g', e1, e2, e3⟩
  · refine Code.wp_mono (fun e a' w' hh => ?_) (h a w g hr)
    obtain ⟨st', g', ⟨H', he, l, h1, h2⟩, r1, f⟩ := hh
    exact ⟨st'.nils l, g', ⟨he, endV_ok h1, trivial⟩, r1.nils, f⟩
end Go.Sh
namespace Go.Sh
theorem elim_n {α : Type} {a : α} {f : Nat → α} {r : α} (h : Option.elim none a f = r) : a = r := h
theorem elim_s {α : Type} {a : α} {f : Nat → α} {i : Nat} {r : α} (h : Option.elim (some i) a f = r) : f i = r := h
end Go.Sh
