/- Rules in the form that a program prints: operations by their numbers, states written out. -/
import Derived.Test.YtjkhgfoecplbgaaSh14
set_option linter.all false
set_option autoImplicit true
set_option relaxedAutoImplicit true
namespace Go.Sh
set_option linter.unusedSimpArgs false
set_option linter.unusedVariables false

section
variable {P : Program} {pu : Bool} {st : St}

/-- What an operation that only reads leaves, whatever world has grown out of this one. -/
def BStep (P : Program) (st : St) (o : Oper) (s : SV) : Prop :=
  ∀ a w g, Rel st a w g → ∃ v, BV g w st a v s ∧ ∀ w', Up w w' → (execOp a.eval o).run P w' = .ok (.value v) w'

theorem BStep.of_bop {o : Oper} {s : SV} (h : bop P st o = some s) : BStep P st o s := fun _ _ _ hr => bop_sound hr h
theorem BStep.eq {o : Oper} {s s' : SV} (h : BStep P st o s) (e : s = s') : BStep P st o s' := e ▸ h

/-- An element's address: the element is known. -/
theorem BStep.indexAddr {o : Oper} {T : TypeId} {x i : Operand} {l : Option Loc} {n : Nat} {xs : List D} {k : IntKind} {j : Int} {y : D} (hop : o.op = .indexAddr T x i) (hl : listOf st x = some (l, n, xs)) (hi : intOf? st i = some (k, j))
    (hn : (n != 0 && n == elemW P T && (arrayOf P T).isNone) = true) (h0 : 0 ≤ j) (hy : xs[j.toNat]? = some y) : BStep P st o (lendP l y.cells) := by
  simp only [Bool.and_eq_true, bne_iff_ne, beq_iff_eq, Option.isNone_iff_eq_none] at hn
  refine BStep.of_bop ?_
  simp only [bop, hop, indexAddrOp, hi, hn.2, hl]
  rw [if_pos ⟨hn.1.1, hn.1.2, h0⟩, hy]
  rfl

/-- A byte of a text. -/
theorem BStep.index {o : Oper} {T : TypeId} {x i : Operand} {l : List UInt8} {k : IntKind} {j : Int} {b : UInt8} (hop : o.op = .index T x i) (hl : valD st x = some (.str l)) (hi : intOf? st i = some (k, j)) (hT : isStrT P T = true) (h0 : 0 ≤ j) (hy : l[j.toNat]? = some b) :
    BStep P st o (.d (.int .u8 b.toNat)) := by
  refine BStep.of_bop ?_
  simp only [bop, hop, indexOp, hl, hi]
  rw [if_pos ⟨hT, h0⟩, hy]
  rfl

/-- A part of a list. -/
theorem BStep.slice {o : Oper} {T : TypeId} {x : Operand} {lo hi : Option Operand} {l : Option Loc} {n i j : Nat} {xs : List D} (hop : o.op = .slice T x lo hi none) (hx : (match valD st x with | some (.str _) => false | _ => true) = true)
    (hl : listOf st x = some (l, n, xs)) (hi' : bnd st 0 lo = some i) (hj' : bnd st xs.length hi = some j) (hn : (elemW P T != 0 && n == elemW P T) = true) (hij : i ≤ j) (hj : j ≤ xs.length) : BStep P st o (lendL l n ((xs.take j).drop i)) := by
  simp only [Bool.and_eq_true, bne_iff_ne, beq_iff_eq] at hn
  refine BStep.of_bop ?_
  simp only [bop, hop, sliceOp, Option.isSome_none, Bool.false_eq_true, if_false]
  split at hx
  · cases hx
  · rename_i hne
    split
    · rename_i l' h'; exact absurd h' (hne l')
    · simp only [hl, hi', hj']
      rw [if_pos ⟨hn.1, .inl hn.2, hij, hj⟩]

/-- A part of a text. -/
theorem BStep.sliceS {o : Oper} {T : TypeId} {x : Operand} {lo hi : Option Operand} {l : List UInt8} {i j : Nat} (hop : o.op = .slice T x lo hi none) (hx : valD st x = some (.str l))
    (hi' : bnd st 0 lo = some i) (hj' : bnd st l.length hi = some j) (hT : isStrT P T = true) (hij : i ≤ j) (hj : j ≤ l.length) : BStep P st o (.d (.str ((l.take j).drop i))) := by
  refine BStep.of_bop ?_
  simp only [bop, hop, sliceOp, Option.isSome_none, Bool.false_eq_true, if_false, hx, hi', hj']
  rw [if_pos ⟨hT, hij, hj⟩]

/-- Two texts together. -/
theorem BStep.addS {o : Oper} {T yT : TypeId} {x y : Operand} {p q : List UInt8} (hop : o.op = .binOp .add T x y yT) (hx : valD st x = some (.str p)) (hy : valD st y = some (.str q)) (hl : p.length + q.length ≤ maxLen) : BStep P st o (.d (.str (p ++ q))) := by
  refine BStep.of_bop ?_
  simp only [bop, hop, binS, hx, hy]
  simp [hl]

/-! ## Results of a call, all at once -/

def rnC (s d : Nat) : Own → Own
  | .lst (.comp t j) => if t = s then .lst (.comp d j) else .lst (.comp t j)
  | o => o

theorem OpS.moveTup {o : Oper} {s d : Nat} {vs : List SV} (hop : o.op = .move (.tmp s)) (hs : st.tmps[s]? = some (.tup vs)) (hd : o.dst = some d) (hv : vs ≠ []) : OpS P pu st o ((st.take s).put (some d) (.tup vs)) := by
  refine OpS.value fun a w g hr => ?_
  have hexec : (execOp a.eval o).run P w = .ok (.value (valOf a s)) w := by unfold execOp; rw [hop]; rfl
  have hother : ∀ o', (∀ j, o' ≠ .lst (.comp s j)) → rnC s d o' = o' := fun o' h => by
    unfold rnC
    split
    · rename_i t j
      split
      · rename_i e; subst e; exact absurd rfl (h j)
      · rfl
    · rfl
  rw [hd]
  refine ⟨_, w, g.ren (rnC s d), hexec, ?_, ⟨Nat.le_refl _, Keep.ren rfl, Keep.ren rfl, fun _ _ h => h, fun _ i => Keep.ren rfl, fun _ i j => Keep.ren rfl, fun _ => rfl, ⟨rfl, rfl⟩⟩⟩
  refine Rel.step hr (by rw [put_size, St.put_len, St.take_len]; exact hr.len) (by rw [put_defers]; exact hr.def0) (fun _ _ h => h) (fun t s' hs' => ?_) ?_
  · by_cases ht : t = d
    · subst ht
      obtain ⟨rfl, hlt⟩ := St.put_get_same hs'
      refine .inr (.inl ?_)
      rw [valOf_put_same (by rw [hr.len]; simpa using hlt)]
      obtain ⟨us, e1, e2, e3⟩ := hr.tmp s _ hs
      refine ⟨us, e1, e2, fun j s' hj => ?_⟩
      obtain ⟨u, f1, f2⟩ := e3 j s' hj
      refine ⟨u, f1, ?_⟩
      cases s' with
      | d x => exact Rd.keep (Keep.ren rfl) (fun _ _ h => h) f2
      | own n xs => exact ROwn.ren rfl (by simp [rnC]) f2
      | undef => trivial
      | _ => exact f2.elim
    · rcases other_slot hr (st1 := st.take s) (valOf a s) (fun t s h => (St.take_get h).imp id fun h => h.1) (fun t s x h s1 e hx hb => St.take_box h s1 e hx hb) (by simpa using Ne.symm ht) hs' with h | ⟨h1, h2, h3, h4, h5⟩
      · exact .inl h
      · rcases St.take_get h1 with h | ⟨-, h6, h7⟩
        · exact .inl h
        · exact .inr (.inr ⟨h2, h3, fun o' ho' => Keep.ren (hother o' (uses_mention h6 h7 ho').2.2.2), h5⟩)
  · rw [St.put_H, St.take_H]
    refine RH.keep (g := g) (w := w) (fun o' ho' => Keep.ren (hother o' fun j e => ?_)) (fun _ _ h => h) rfl hr.hp
    subst e
    exact ho'.elim

/-! ## Steps that the kernel computes -/

/-- An operation that changes something, where nothing has to be shown. 'steal': the temporaries to which a list goes over for good. -/
def estep (P : Program) (steal : List Nat) (st : St) (o : Oper) : Option St :=
  match o.op with
  | .move (.tmp s) => match st.tmps[s]? with
    | some (.own n xs) => if (o.dst.map fun d => steal.contains d) = some true then some ((st.take s).put o.dst (.own n xs)) else none
    | some (.tup (v :: vs)) => match o.dst with | some d => some ((st.take s).put (some d) (.tup (v :: vs))) | none => none
    | _ => none
  | .assign (.tmp s) => match st.tmps[s]? with
    | some (.own n xs) => some ((st.take s).put o.dst (.own n xs))
    | _ => none
  | .extract (.tmp s) j => match st.tmps[s]? with
    | some (.tup vs) => match vs[j]? with
      | some (.own n xs) => if o.dst ≠ some s then some (((st.kill s).set s (.tup (vs.set j .undef))).put o.dst (.own n xs)) else none
      | _ => none
    | _ => none
  | .alloc T => match o.dst, zeroCells P T with
    | some d, some cs => some (st.put (some d) (.box (cs.map .d)))
    | _, _ => none
  | .box _ x => match o.dst, valD st x with
    | some d, some y => some (st.put (some d) (.box (y.cells.map .d)))
    | _, _ => none
  | .store T x y => if o.dst = none then storeBox P st T x y else none
  | .buildSlice T len parts => match o.dst, sliceT P T, partsD st parts.toList with
    | some d, some (n, _), some ds => if ds.length = len ∧ litOk n 0 ds = true ∧ len * n ≤ 16777216 then some (st.put (some d) (.own n (ds.map (·.2)))) else none
    | _, _, _ => none
  | _ => none

theorem estep_sound {steal : List Nat} {o : Oper} {st' : St} (h : estep P steal st o = some st') : OpS P pu st o st' := by
  unfold estep at h
  split at h
  · rename_i s hop
    split at h
    · rename_i n xs hs
      split at h
      · cases h; exact OpS.move (.inl hop) hs
      · cases h
    · rename_i v vs hs
      split at h
      · rename_i d hd; cases h; exact OpS.moveTup hop hs hd (by simp)
      · cases h
    · cases h
  · rename_i s hop
    split at h
    · rename_i n xs hs; cases h; exact OpS.move (.inr hop) hs
    · cases h
  · rename_i s j hop
    split at h
    · rename_i vs hs
      split at h
      · rename_i n xs hj
        split at h
        · rename_i hd; cases h; exact OpS.extract hop hs hj hd
        · cases h
      · cases h
    · cases h
  · rename_i T hop
    split at h
    · rename_i d cs hd hz; cases h; exact OpS.alloc hop hd hz
    · cases h
  · rename_i T x hop
    split at h
    · rename_i d y hd hy; cases h; exact OpS.box hop hd hy
    · cases h
  · rename_i T x y hop
    split at h
    · rename_i hd; exact OpS.store hop hd h
    · cases h
  · rename_i T len parts hop
    split at h
    · rename_i d n b ds hd hT hp
      split at h
      · rename_i hc; cases h; exact OpS.buildSlice hop hd hT hp hc.1 hc.2.1 hc.2.2
      · cases h
    · cases h
  · cases h

def opStep (P : Program) (steal : List Nat) (ops : Array Oper) (st : St) (o : Oper) : Option St :=
  match wantS ops st o with
  | some false => some (st.put o.dst (.tup []))
  | some true => match estep P steal st o with
    | some st' => some st'
    | none => match bop P st o with
      | some s => if locOk o.dst s then some (st.put o.dst s) else none
      | none => none
  | none => none

/-- So many operations from here on. -/
def runSeg (P : Program) (steal : List Nat) (ops : Array Oper) : Nat → Nat → St → Option St
  | 0, _, st => some st
  | n + 1, k, st => match ops[k]? with
    | some o => match opStep P steal ops st o with
      | some st' => runSeg P steal ops n (k + 1) st'
      | none => none
    | none => none

def OWk (P : Program) (pu : Bool) (ops : Array Oper) (k : Nat) (st : St) (Q : St → Prop) : Prop := OW P pu ops (ops.toList.drop k) st Q

variable {ops : Array Oper} {Q : St → Prop} {k : Nat}

theorem drop_cons {o : Oper} (h : ops[k]? = some o) : ops.toList.drop k = o :: ops.toList.drop (k + 1) := by
  have hlt := arr_lt h
  rw [List.drop_eq_getElem_cons (by simpa using hlt)]
  congr 1
  rw [Array.getElem?_eq_getElem hlt] at h
  simpa using h

theorem OWk.fin (h : (ops.size ≤ k) = True) (hq : Q st) : OWk P pu ops k st Q := by
  have h : ops.size ≤ k := of_eq_true h
  unfold OWk
  rw [List.drop_of_length_le (by simpa using h)]
  exact OW.nil hq

theorem OWk.b {o : Oper} {s : SV} {st' : St} (ho : ops[k]? = some o) (hw : wantS ops st o = some true) (hb : BStep P st o s) (hl : locOk o.dst s = true) (hst : st.put o.dst s = st') (h : OWk P pu ops (k + 1) st' Q) : OWk P pu ops k st Q := by
  subst hst
  unfold OWk at h ⊢
  rw [drop_cons ho]
  intro a w g hr Qc hq
  unfold wpList
  rw [wantS_sound hr hw, if_pos rfl]
  refine .inl ?_
  obtain ⟨v, e1, e2⟩ := hb a w g hr
  unfold Oper.wp
  rw [e2 w (Up.refl w), Oper.upon_value]
  exact h _ w g (hr.putBV e1 hl) Qc hq

theorem OWk.e {o : Oper} {st' : St} (ho : ops[k]? = some o) (hw : wantS ops st o = some true) (he : OpS P pu st o st') (h : OWk P pu ops (k + 1) st' Q) : OWk P pu ops k st Q := by
  unfold OWk at h ⊢
  rw [drop_cons ho]
  exact OW.op hw he h

theorem OWk.seg {steal : List Nat} {st' : St} (n : Nat) (hr : runSeg P steal ops n k st = some st') (h : OWk P pu ops (k + n) st' Q) : OWk P pu ops k st Q := by
  induction n generalizing k st with
  | zero => cases hr; exact h
  | succ n ih =>
    simp only [runSeg] at hr
    split at hr
    · rename_i o ho
      split at hr
      · rename_i st1 h1
        have ih' := ih hr (by rw [show k + 1 + n = k + (n + 1) by omega]; exact h)
        unfold opStep at h1
        split at h1
        · rename_i hw
          cases h1
          unfold OWk at ih' ⊢
          rw [drop_cons ho]
          exact OW.skip hw ih'
        · rename_i hw
          split at h1
          · rename_i st2 h2
            cases h1
            exact OWk.e ho hw (estep_sound h2) ih'
          · split at h1
            · rename_i s hb
              split at h1
              · rename_i hl
                cases h1
                exact OWk.b ho hw (BStep.of_bop hb) hl rfl ih'
              · cases h1
            · cases h1
        · cases h1
      · cases hr
    · cases hr

theorem OWk.call {o : Oper} {c : Call} (tr : List Nat) {cs : CallS} {f : FuncId} {args : List SV} {ls : List Loc} {gs : List (Nat × Nat)} {r : SV} {st' : St} (ho : ops[k]? = some o) (hw : wantS ops st o = some true) (hop : o.op = .call c)
    (hc : callS P st tr c = some ⟨f, args, ls, gs⟩) (hp : PC P f args r) (hr : resD r = true) (hlend : (ls.isEmpty || flatSV r) = true) (hst : (st.takes gs).put o.dst r = st') (h : OWk P pu ops (k + 1) st' Q) : OWk P pu ops k st Q := by
  subst hst
  unfold OWk at h ⊢
  rw [drop_cons ho]
  exact OW.call tr hw hop hc hp hr (by simpa using hlend) h

theorem SW.regionK {id : Nat} {Q : Exit → St → Prop} (h : OWk P pu ops 0 st (Q .normal)) : SW P pu (.region id ops false) st Q :=
  fun a w g hr => wp_region_list (h a w g hr _ fun st' _ _ g' q r f => ⟨st', g', q, r, f⟩)

/-! ## Forgetting -/

theorem Rel.forget {a : Act} {w : World} {g : Gh} (h : Rel st a w g) (t : Nat) : Rel (st.put (some t) .undef) a w g := by
  refine Rel.step h (by rw [St.put_len]; exact h.len) h.def0 (fun _ _ h => h) (fun t' s' hs' => ?_) (by rw [St.put_H]; exact h.hp)
  by_cases hne : t' = t
  · subst hne
    obtain ⟨rfl, -⟩ := St.put_get_same hs'
    exact .inl rfl
  · rcases St.put_get hne hs' with hu | ⟨h1, h2⟩
    · exact .inl hu
    · refine .inr (.inr ⟨h1, rfl, fun _ _ => Keep.refl _ _ _, fun s0 e => ⟨rfl, fun x hx hb => ⟨x, ?_, rfl⟩⟩⟩)
      refine St.put_big hx hb fun e2 => ?_
      cases e2
      have := h2 _ hx (bigK_heavy hb)
      rw [dep_mention e] at this
      cases this

/-- Slots are emptied. -/
def St.forget (st : St) : List Nat → St
  | [] => st
  | t :: ts => (st.put (some t) .undef).forget ts

theorem Rel.forgets {a : Act} {w : World} {g : Gh} : ∀ {ts : List Nat} {st : St}, Rel st a w g → Rel (st.forget ts) a w g
  | [], _, h => h
  | t :: ts, st, h => Rel.forgets (ts := ts) (st := st.put (some t) .undef) (h.forget t)

theorem SW.forget {c : Code} {Q : Exit → St → Prop} (ts : List Nat) {st' : St} (hst : st.forget ts = st') (h : SW P pu c st' Q) : SW P pu c st Q := by
  subst hst
  exact fun a w g hr => h a w g hr.forgets

/-- A loop, its head's state with forgotten slots. -/
theorem SW.loopF {α : Type} {c : Code} {x : α} {Q : Exit → St → Prop} (I : α → St) (μ : α → Nat) (ts : List Nat) (h0 : st.forget ts = I x) (round : ∀ x, SW P pu c (I x) (thenS (fun s' => ∃ y, s'.forget ts = I y ∧ μ y < μ x) Q)) : SW P pu (.loop c) st Q := by
  refine SW.forget ts h0 (SW.loop (x := x) I μ rfl fun x => ?_)
  intro a w g hr
  refine Code.wp_mono (fun e a' w' hh => ?_) (round x a w g hr)
  obtain ⟨st', g', q, r, f⟩ := hh
  cases e with
  | normal =>
    obtain ⟨y, h1, h2⟩ := q
    exact ⟨st'.forget ts, g', ⟨y, h1, h2⟩, r.forgets, f⟩
  | _ => exact ⟨st', g', q, r, f⟩

/-! ## Regions that draw their order -/

theorem Rel.drew {a : Act} {w : World} {g : Gh} (h : Rel st a w g) : Rel st a w.drew g := h.world (fun _ _ _ h1 h2 => ⟨h1, h2⟩) (fun _ _ h => h) rfl

theorem Fr.drew {g : Gh} {w : World} : Fr pu g w g w.drew := ⟨Nat.le_refl _, fun _ _ h1 h2 => ⟨h1, h2⟩, fun _ _ h1 h2 => ⟨h1, h2⟩, fun _ _ h => h, fun _ _ _ _ h1 h2 => ⟨h1, h2⟩, fun _ _ _ _ _ h1 h2 => ⟨h1, h2⟩, fun _ => rfl, ⟨rfl, rfl⟩⟩

/-- Operations that only read, from one number up to another. -/
def OB (P : Program) (ops : Array Oper) (l : List Oper) (st : St) (Q : St → Prop) : Prop :=
  ∀ a w g, Rel st a w g → ∀ Qc : Act → Prop, (∀ st' a' g', Q st' → Rel st' a' w g' → (∀ pu, Fr pu g w g' w) → Qc a') → wpStill P ops w Qc l a

def OBk (P : Program) (ops : Array Oper) (m k : Nat) (st : St) (Q : St → Prop) : Prop := OB P ops ((ops.toList.take m).drop k) st Q

theorem OBk.fin {m : Nat} (h : (m ≤ k) = True) (hq : Q st) : OBk P ops m k st Q := by
  have h : m ≤ k := of_eq_true h
  unfold OBk
  rw [List.drop_of_length_le (by simp; omega)]
  exact fun a w g hr Qc hc => hc st a g hq hr fun _ => Fr.refl _ _ _

theorem drop_cons' {m : Nat} {o : Oper} (h : ops[k]? = some o) (hm : k < m) : (ops.toList.take m).drop k = o :: (ops.toList.take m).drop (k + 1) := by
  have hlt := arr_lt h
  rw [List.drop_eq_getElem_cons (by simp; omega)]
  congr 1
  rw [Array.getElem?_eq_getElem hlt] at h
  simpa using h

theorem OBk.b {m : Nat} {o : Oper} {s : SV} {st' : St} (hm : (k < m) = True) (ho : ops[k]? = some o) (hw : wantS ops st o = some true) (hb : BStep P st o s) (hl : locOk o.dst s = true) (hst : st.put o.dst s = st') (h : OBk P ops m (k + 1) st' Q) : OBk P ops m k st Q := by
  subst hst
  unfold OBk at h ⊢
  rw [drop_cons' ho (of_eq_true hm)]
  intro a w g hr Qc hc
  unfold wpStill
  rw [wantS_sound hr hw, if_pos rfl]
  obtain ⟨v, e1, e2⟩ := hb a w g hr
  unfold Oper.still
  rw [e2 w (Up.refl w), Oper.stillUpon_value]
  exact h _ w g (hr.putBV e1 hl) Qc hc

/-- A list goes from a slot to another one: the world stays. -/
theorem Rel.moveOwn (P : Program) {a : Act} {w : World} {g : Gh} (h : Rel st a w g) {o : Oper} {s n : Nat} {xs : List D} (hop : o.op = .move (.tmp s)) (hs : st.tmps[s]? = some (.own n xs)) :
    ∃ g', Rel ((st.take s).put o.dst (.own n xs)) (a.put o.dst (valOf a s)) w g' ∧ Fr pu g w g' w := by
  obtain ⟨a', w', g', r, e1, e2, e3, e4⟩ := OpS.move (P := P) (pu := pu) (.inl hop) hs a w g h
  have hexec : (execOp a.eval o).run P w = .ok (.value (valOf a s)) w := by unfold execOp; rw [hop]; rfl
  have h1 := e2 (fun x y => x = a.put o.dst (valOf a s) ∧ y = w) (fun _ _ _ => False)
  rw [← e1, hexec, Oper.upon_value] at h1
  obtain ⟨rfl, rfl⟩ := h1 ▸ (⟨rfl, rfl⟩ : a.put o.dst (valOf a s) = a.put o.dst (valOf a s) ∧ w = w)
  exact ⟨g', e3, e4⟩

def stealB (steal : List Nat) (st : St) (o : Oper) : Option St :=
  match o.op with
  | .move (.tmp s) => match st.tmps[s]? with
    | some (.own n xs) => if (o.dst.map fun d => steal.contains d) = some true then some ((st.take s).put o.dst (.own n xs)) else none
    | _ => none
  | _ => none

theorem OBk.steal {m : Nat} {o : Oper} {steal : List Nat} {st' : St} (hm : (k < m) = True) (ho : ops[k]? = some o) (hw : wantS ops st o = some true) (hb : stealB steal st o = some st') (h : OBk P ops m (k + 1) st' Q) : OBk P ops m k st Q := by
  unfold stealB at hb
  split at hb
  · rename_i s hop
    split at hb
    · rename_i n xs hs
      split at hb
      · cases hb
        unfold OBk at h ⊢
        rw [drop_cons' ho (of_eq_true hm)]
        intro a w g hr Qc hc
        unfold wpStill
        rw [wantS_sound hr hw, if_pos rfl]
        have hexec : (execOp a.eval o).run P w = .ok (.value (valOf a s)) w := by unfold execOp; rw [hop]; rfl
        unfold Oper.still
        rw [hexec, Oper.stillUpon_value]
        obtain ⟨g', r, f⟩ := hr.moveOwn (pu := true) P hop hs
        exact h _ w g' r Qc fun st' a' g2 q r2 f2 => hc st' a' g2 q r2 fun pu => Fr.trans ⟨f.1, f.2, f.3, f.4, fun _ => f.5 rfl, fun _ => f.6 rfl, fun _ => f.7 rfl, f.8⟩ (f2 pu)
      · cases hb
    · cases hb
  · cases hb

def opStepB (P : Program) (steal : List Nat) (ops : Array Oper) (st : St) (o : Oper) : Option St :=
  match wantS ops st o with
  | some false => some (st.put o.dst (.tup []))
  | some true => match stealB steal st o with
    | some st' => some st'
    | none => match bop P st o with
      | some s => if locOk o.dst s then some (st.put o.dst s) else none
      | none => none
  | none => none

def runSegB (P : Program) (steal : List Nat) (ops : Array Oper) : Nat → Nat → St → Option St
  | 0, _, st => some st
  | n + 1, k, st => match ops[k]? with
    | some o => match opStepB P steal ops st o with
      | some st' => runSegB P steal ops n (k + 1) st'
      | none => none
    | none => none

theorem OBk.seg {m : Nat} {steal : List Nat} {st' : St} (n : Nat) (hm : (k + n ≤ m) = True) (hr : runSegB P steal ops n k st = some st') (h : OBk P ops m (k + n) st' Q) : OBk P ops m k st Q := by
  have hm : k + n ≤ m := of_eq_true hm
  induction n generalizing k st with
  | zero => cases hr; exact h
  | succ n ih =>
    simp only [runSegB] at hr
    split at hr
    · rename_i o ho
      split at hr
      · rename_i st1 h1
        have ih' := ih (eq_true (by omega)) hr (by rw [show k + 1 + n = k + (n + 1) by omega]; exact h) (by omega)
        have hkm : (k < m) = True := eq_true (by omega)
        unfold opStepB at h1
        split at h1
        · rename_i hw
          cases h1
          unfold OBk at ih' ⊢
          rw [drop_cons' ho (by omega)]
          intro a w g hr Qc hc
          unfold wpStill
          rw [wantS_sound hr hw, if_neg (by simp)]
          exact ih' _ w g (hr.putLight o.dst (v := undef) ⟨#[], rfl, rfl, by simp⟩) Qc hc
        · rename_i hw
          split at h1
          · rename_i st2 h2
            cases h1
            exact OBk.steal hkm ho hw h2 ih'
          · split at h1
            · rename_i s hb
              split at h1
              · rename_i hl
                cases h1
                exact OBk.b hkm ho hw (BStep.of_bop hb) hl rfl ih'
              · cases h1
            · cases h1
        · cases h1
      · cases hr
    · cases hr

/-- A region that draws its order, whose operations only read. -/
theorem SW.regionD {id : Nat} {l : List Oper} {Q : Exit → St → Prop} (hm : P.follows .mixedOrders = true) (hB : Region.lexB .any l.toArray = true) (h : OBk P l.toArray l.toArray.size 0 st (Q .normal)) : SW P pu (.region id l.toArray true) st Q := by
  intro a w g hr
  refine wp_region_still hm hB ?_
  unfold OBk at h
  rw [List.drop_zero, List.take_of_length_le (by simp)] at h
  exact h a w.drew g hr.drew _ fun st' a' g' q r f => ⟨st', g', q, r, Fr.drew.trans (f pu)⟩

/-- A region that draws its order: operations that only read, and then a tail in the order of the text. -/
theorem SW.regionT {id : Nat} {l : List Oper} {Q : Exit → St → Prop} (n : Nat) (hm : P.follows .mixedOrders = true) (hB : Region.lexTailB .any l.toArray n = true) (h : OBk P l.toArray n 0 st (fun st1 => OWk P pu l.toArray n st1 (Q .normal))) :
    SW P pu (.region id l.toArray true) st Q := by
  intro a w g hr
  refine wp_region_still_tail n hm hB ?_
  unfold OBk at h
  rw [List.drop_zero] at h
  exact h a w.drew g hr.drew _ fun st1 a1 g1 q1 r1 f1 => q1 a1 w.drew g1 r1 _ fun st' a' w' g' q r f => ⟨st', g', q, r, (Fr.drew.trans (f1 pu)).trans f⟩
end
end Go.Sh
