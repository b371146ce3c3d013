/- Closed code, run: a sound evaluator. -/
import Derived.Test.YtfbcfehjlddodaaGreatDoorD1
import Derived.RangeFuncLeaves
import Derived.RecoverIn
set_option linter.all false
set_option autoImplicit true
set_option relaxedAutoImplicit true
namespace Go.Gd
open Go.Sh (SameOs isFn Fw Fw_fn Fw_depth Fw_round Fw_room callsIn_Fw NX get_lt arr_lt put_size put_defers eval_tmp)
variable {P : Program} {E : Ev} {ρ ρ' : Rho} {g g' : G} {w : World} {tm : Tr Value} {a : Act}
theorem trail_spec {r : Option Nat} {ops : Array Oper} : ∀ (L : List Oper) (st : St) (tr : List (St × Value)) (fin : St), trail P E r ops L st = some (tr, fin) →
    tr.length = L.length ∧ atT tr fin 0 = st ∧ ∀ (j : Nat) (o : Oper), L[j]? = some o → ∃ v g', tr[j]? = some (atT tr fin j, v) ∧ operV P E r ops o (atT tr fin j).tm (atT tr fin j).g = some (v, g', none) ∧ ({ atT tr fin j with g := g' } : St).put o.dst v = some (atT tr fin (j + 1))
  | [], st, tr, fin, h => by cases h; exact ⟨rfl, rfl, fun j o h => by simp at h⟩
  | o :: L, st, tr, fin, h => by
    simp only [trail] at h
    split at h
    · rename_i v g1 hv
      split at h
      · rename_i st1 h1
        split at h
        · rename_i tr' fin' h2
          cases h
          obtain ⟨k1, k2, k3⟩ := trail_spec L st1 tr' fin h2
          refine ⟨by simp [k1], rfl, fun j o' hj => ?_⟩
          cases j with
          | zero =>
            simp only [List.getElem?_cons_zero, Option.some.injEq] at hj
            subst hj
            refine ⟨v, g1, rfl, hv, ?_⟩
            have : atT ((st, v) :: tr') fin (0 + 1) = atT tr' fin 0 := rfl
            rw [this, k2]; exact h1
          | succ j =>
            obtain ⟨v', g', e1, e2, e3⟩ := k3 j o' (by simpa using hj)
            exact ⟨v', g', by simp only [List.getElem?_cons_succ]; exact e1, e2, e3⟩
        · cases h
      · cases h
    · cases h
section
variable {r r' : Option Nat} {ops : Array Oper} {st fin : St} {tr : List (St × Value)} {n : Nat}
/-- So many of the operations that change rows are bound. -/
def Cut (P : Program) (ops : Array Oper) (q : Nat → Bool) (j : Nat) : Prop := ∀ k o, ops[k]? = some o → stillO P o.op = false → (q k = true ↔ k < j)
/-- All that change rows ahead of a place are bound. -/
def Below (P : Program) (ops : Array Oper) (q : Nat → Bool) (i : Nat) : Prop := ∀ e o, e < i → ops[e]? = some o → stillO P o.op = false → q e = true
def Sat (P : Program) (ops : Array Oper) (m q : Nat → Bool) : Prop := ∀ i o, ops[i]? = some o → m i = true → Below P ops q i → q i = true
/-- What is known of a fresh row that is laid but not yet bound. -/
def Pend (ops : Array Oper) (tr : List (St × Value)) (fin : St) (w0 : World) (pl : Nat → Pl) (a : Act) (w : World) (i : Nat) (o : Oper) : Prop :=
  w0.heap.size ≤ (pl i).b ∧ (pl i).b < w.heap.size ∧ ∃ oo v, tr[i]? = some (atT tr fin i, v) ∧ (atT tr fin (i + 1)).g = (atT tr fin i).g.new oo ∧
    ∀ ρ', ρ' (atT tr fin i).g.nx = some (pl i) → GOR ρ' w (pl i) oo ∧ ∀ t, o.dst = some t → VR ρ' v (Sh.valOf a t)
/-- How far a region has come: 'm' tells which operations are done, 'q' which of them the rows know. -/
structure Inv (P : Program) (ops : Array Oper) (tr : List (St × Value)) (fin st : St) (ρ0 : Rho) (w0 : World) (m q : Nat → Bool) (pl : Nat → Pl) (ρ : Rho) (a : Act) (w : World) : Prop where
  down : ∀ j, j < ops.size → m j = true → ∀ i, ((ancs ops.toList []).getD j 0).testBit i = true → m i = true
  sub : ∀ i, q i = true → m i = true
  hard : ∀ i o, ops[i]? = some o → freshB o = false → m i = true → q i = true
  pre : ∀ j o, ops[j]? = some o → stillO P o.op = false → q j = true → Below P ops q j
  tms : ∀ j, j ≤ ops.size → ∀ t, (∀ i o, ops[i]? = some o → o.dst = some t → (m i = true ↔ i < j) ∧ (q i = true ↔ i < j)) → ∀ v, (atT tr fin j).tm.get t = some v → VR ρ v (Sh.valOf a t)
  rows : ∀ j, j ≤ ops.size → Cut P ops q j → R ρ (atT tr fin j).g w ∧ Fr ρ0 st.g w0 ρ (atT tr fin j).g w ∧ ∀ i o, ops[i]? = some o → m i = true → q i = false → Off ρ (atT tr fin j).g (pl i).b
  pend : ∀ i o, ops[i]? = some o → m i = true → q i = false → Pend ops tr fin w0 pl a w i o
  apt : ∀ i i', m i = true → q i = false → m i' = true → q i' = false → (pl i).b = (pl i').b → i = i'
  inr : ∀ i, m i = true → i < ops.size
  len : a.tmps.size = st.nt
  df : DRs ρ st.df a.defers
theorem orderOk_spec (h : orderOk P ops (ancs ops.toList []) = true) :
    (∀ j o, ops[j]? = some o → ∀ e ∈ o.after.toList, Region.binds .any e = true → e.on < j) ∧
    (∀ i j o' o, i < j → ops[i]? = some o' → ops[j]? = some o → confO P ops o' o = true → ((ancs ops.toList []).getD j 0).testBit i = true) ∧
    (∀ k o t, ops[k]? = some o → freshB o = true → o.dst = some t → ∀ i o', i ≠ k → ops[i]? = some o' → o'.dst ≠ some t ∧ (t ∈ o'.looksAt ops → k < i ∧ ∀ e oe, e < k → ops[e]? = some oe → stillO P oe.op = false → ((ancs ops.toList []).getD i 0).testBit e = true)) := by
  unfold orderOk at h
  rw [Bool.and_eq_true] at h
  obtain ⟨h0, h⟩ := h
  rw [List.all_eq_true] at h
  have key : ∀ j o, ops[j]? = some o → (∀ e ∈ o.after.toList, Region.binds .any e = true → e.on < j) ∧ ∀ i, i < j → ∀ o', ops[i]? = some o' → confO P ops o' o = true → ((ancs ops.toList []).getD j 0).testBit i = true := fun j o ho => by
    have h1 := h j (List.mem_range.2 (arr_lt ho))
    rw [ho] at h1
    simp only [Bool.and_eq_true, List.all_eq_true] at h1
    refine ⟨fun e he hb => ?_, fun i hi o' ho' hc => ?_⟩
    · have := h1.1 e he
      rw [hb] at this
      simpa using this
    · have := h1.2 i (List.mem_range.2 hi)
      rw [ho'] at this
      simp only [hc, Bool.not_true, Bool.false_or] at this
      exact this
  refine ⟨fun j o ho => (key j o ho).1, fun i j o' o hij ho' ho hc => (key j o ho).2 i hij o' ho' hc, fun k o t ho hf hd i o' hne ho' => ?_⟩
  unfold lateOk at h0
  rw [List.all_eq_true] at h0
  have h1 := h0 k (List.mem_range.2 (arr_lt ho))
  rw [ho] at h1
  simp only [hf, Bool.not_true, Bool.false_or, hd, List.all_eq_true] at h1
  have h2 := h1 i (List.mem_range.2 (arr_lt ho'))
  have hb : Nat.beq i k = false := by
    cases hb : Nat.beq i k with
    | false => rfl
    | true => exact absurd (Nat.eq_of_beq_eq_true hb) hne
  rw [hb, ho'] at h2
  simp only [Bool.false_or, Bool.and_eq_true, Bool.or_eq_true, Bool.not_eq_true', List.all_eq_true] at h2
  obtain ⟨h2, h3⟩ := h2
  refine ⟨fun e => ?_, fun ht => ?_⟩
  · rw [e] at h2
    simp at h2
  · rcases h3 with h3 | ⟨h3, h4⟩
    · rw [List.any_eq_false] at h3
      exact absurd (Nat.beq_refl t) (h3 t ht)
    · refine ⟨Nat.le_of_ble_eq_true h3, fun e oe he hoe hs => ?_⟩
      have h5 := h4 e (List.mem_range.2 he)
      simpa only [hoe, hs, Bool.false_or] using h5
/-- A fresh row. -/
theorem fresh_sound {o : Oper} {v : Value} {g1 : G} (hf : freshB o = true) (h : opG P tm g o.type o.op = some (v, g1)) :
    o.guard = none ∧ stillO P o.op = false ∧ (∀ c, o.op ≠ .defer c) ∧ ∃ (oo : GO) (mk : Nat → Value) (wd sz : Nat) (obj : Obj), v = mk g.nx ∧ g1 = g.new oo ∧ ∀ (a : Act) (w : World), ∃ y, (execOp a.eval o).run P w = .ok (.value y) (w.alloc obj) ∧
      ∀ ρ' w' i, ρ' i = some ⟨w.heap.size, 0, wd, sz⟩ → w'.heap[w.heap.size]? = some obj → GOR ρ' w' ⟨w.heap.size, 0, wd, sz⟩ oo ∧ VR ρ' (mk i) y := by
  obtain ⟨dst, op, type, pos, after, guard⟩ := o
  unfold freshB at hf
  simp only [Bool.and_eq_true, Option.isNone_iff_eq_none] at hf
  obtain ⟨hg, hf⟩ := hf
  split at hf
  · rename_i T
    refine ⟨hg, rfl, fun c e => (by cases e), .map [] 0, fun i => .map (some i), 1, 0, .map #[] 0, ?_⟩
    simp only [opG] at h
    cases h
    exact ⟨rfl, rfl, fun a w => ⟨.map (some w.heap.size), by simp [execOp, Instr.makeMap], fun ρ' w' i hi hw => ⟨⟨#[], hw, rfl, rfl, fun j k v b hj => by simp at hj⟩, .map hi⟩⟩⟩
  · rename_i T
    simp only [opG] at h
    unfold allocG at h
    split at h
    · rename_i z hz
      cases h
      obtain ⟨i, h1, h2, h3, h4, h5⟩ := zeroG_sound hz
      refine ⟨hg, rfl, fun c e => (by cases e), .row (widthG P T) (cellsG z) [] false, ptrV, widthG P T, z.cells.size, .cells z.cells T (0, 0), rfl, rfl, fun a w => ⟨.pointer (some ⟨w.heap.size, 0, none⟩), by simp [execOp, Instr.alloc, run_zero hz, Go.newVar, Go.newRow], fun ρ' w' i hi hw => ⟨⟨z.cells, T, (0, 0), hw, .inr rfl, rfl, by simp [cellsG], rfl, fun j x hx => ?_⟩, ?_⟩⟩⟩
      · refine ⟨x, by simpa [cellsG] using hx, ?_, onesB_get h4 hx⟩
        have hself := (leafB_self (ρ := ρ') h3).cells
        obtain ⟨y, y1, y2⟩ := hself.get hx
        rw [show z.cells.toList = cellsG z from rfl, hx] at y1
        cases y1; exact y2
      · have := VR.ptr (ρ := ρ') (i := i) (off := 0) hi
        simpa [ptrV] using this
    · cases h
  · cases hf
theorem R.bind {ρ0 : Rho} {g0 : G} {w0 : World} {o : GO} {p : Pl} (h : R ρ g w) (hF : Fr ρ0 g0 w0 ρ g w) (hp : w0.heap.size ≤ p.b) (hoff : Off ρ g p.b) (ho : GOR (ρ.put g.nx p) w p o) :
    R (ρ.put g.nx p) (g.new o) w ∧ Fr ρ0 g0 w0 (ρ.put g.nx p) (g.new o) w := by
  have hf := h.fresh g.nx (Nat.le_refl _)
  have hle := Rho.put_le (p := p) hf
  refine ⟨⟨fun i hi => ?_, fun i x hi => ?_, fun i j a c p1 q1 h1 h2 e1 e2 e3 => ?_⟩, ⟨hF.le.trans hle, hF.size, hF.keep, fun k hk hoff' i x q h1 h2 => ?_, hF.os⟩⟩
  · have hi : g.nx + 1 ≤ i := hi
    rw [Rho.put_ne (by omega)]; exact h.fresh i (by omega)
  · rcases G.get_new hi with ⟨rfl, rfl⟩ | ⟨hne, hg⟩
    · exact ⟨p, Rho.put_self, ho⟩
    · obtain ⟨q, e, r⟩ := h.ob i x hg
      exact ⟨q, by rw [Rho.put_ne hne]; exact e, r.mono hle rfl⟩
  · rcases G.get_new h1 with ⟨rfl, rfl⟩ | ⟨hn1, g1⟩ <;> rcases G.get_new h2 with ⟨rfl, rfl⟩ | ⟨hn2, g2⟩
    · exact .inl rfl
    · rw [Rho.put_self] at e1; rw [Rho.put_ne hn2] at e2; cases e1
      exact absurd e3.symm (hoff _ _ _ g2 e2)
    · rw [Rho.put_self] at e2; rw [Rho.put_ne hn1] at e1; cases e2
      exact absurd e3 (hoff _ _ _ g1 e1)
    · rw [Rho.put_ne hn1] at e1; rw [Rho.put_ne hn2] at e2
      exact h.apart i j a c p1 q1 g1 g2 e1 e2 e3
  · rcases G.get_new h1 with ⟨rfl, rfl⟩ | ⟨hn1, g1⟩
    · rw [Rho.put_self] at h2; cases h2; omega
    · rw [Rho.put_ne hn1] at h2; exact hF.off k hk hoff' i x q g1 h2
theorem conf_still {x y : Oper} (h1 : stillO P x.op = false) (h2 : stillO P y.op = false) (h3 : freshB y = false) : confO P ops x y = true := by simp [confO, h1, h2, h3]
theorem conf_read {x y : Oper} {t : Tmp} (h1 : x.dst = some t) (h2 : t ∈ y.looksAt ops) : confO P ops x y = true := by
  unfold confO
  cases hb : x.apart ops y with
  | false => rfl
  | true => exact absurd h2 ((Oper.apart_spec hb).1 t h1)
theorem conf_write {x y : Oper} {t : Tmp} (h1 : y.dst = some t) (h2 : t ∈ x.looksAt ops) : confO P ops x y = true := by
  unfold confO
  cases hb : x.apart ops y with
  | false => rfl
  | true => exact absurd h2 ((Oper.apart_spec hb).2.2 t h1)
theorem conf_both {x y : Oper} {t : Tmp} (h1 : x.dst = some t) (h2 : y.dst = some t) : confO P ops x y = true := by
  unfold confO
  cases hb : x.apart ops y with
  | false => rfl
  | true => exact absurd h2 ((Oper.apart_spec hb).2.1 t h1)
/-- Between two places with the same operations that change rows ahead of them the rows are the same. -/
theorem rows_same (ht : trail P E r ops ops.toList st = some (tr, fin)) : ∀ (d i : Nat), i + d ≤ ops.size → (∀ k o, i ≤ k → k < i + d → ops[k]? = some o → stillO P o.op = true) → (atT tr fin (i + d)).g = (atT tr fin i).g
  | 0, i, _, _ => rfl
  | d + 1, i, h1, h2 => by
    have hi : i + d < ops.size := by omega
    obtain ⟨v, g', e1, e2, e3⟩ := (trail_spec _ _ _ _ ht).2.2 (i + d) ops[i + d] (by simp [hi])
    have hst := h2 (i + d) ops[i + d] (by omega) (by omega) (by simp [hi])
    have hg := operV_still hst e2
    have := (St.put_some e3).2.1
    rw [show i + (d + 1) = i + d + 1 by omega, this]
    show g' = _
    rw [hg]
    exact rows_same ht d i (by omega) fun k o a b c => h2 k o a (by omega) c
theorem rows_eq (ht : trail P E r ops ops.toList st = some (tr, fin)) {i j : Nat} (hi : i ≤ ops.size) (hj : j ≤ ops.size) (h : ∀ k o, ops[k]? = some o → stillO P o.op = false → (k < i ↔ k < j)) : (atT tr fin i).g = (atT tr fin j).g := by
  have gen : ∀ {i j : Nat}, i ≤ j → j ≤ ops.size → (∀ k o, ops[k]? = some o → stillO P o.op = false → (k < i ↔ k < j)) → (atT tr fin j).g = (atT tr fin i).g := fun {i j} hij hj h => by
    have := rows_same ht (j - i) i (by omega) (fun k o h1 h2 h3 => by
      cases hs : stillO P o.op with
      | true => rfl
      | false => have := h k o h3 hs; omega)
    rwa [show i + (j - i) = j by omega] at this
  rcases Nat.le_total i j with hij | hij
  · exact (gen hij hj h).symm
  · exact gen hij hi fun k o a b => (h k o a b).symm
/-- The last writer of a slot ahead of a place. -/
theorem last_write (ht : trail P E r ops ops.toList st = some (tr, fin)) {i : Nat} {oi : Oper} {t : Tmp} (hi : ops[i]? = some oi) (hd : oi.dst = some t) {v : Value} (hv : tr[i]? = some (atT tr fin i, v)) :
    ∀ (d : Nat), i + 1 + d ≤ ops.size → (∀ k o, i < k → k < i + 1 + d → ops[k]? = some o → o.dst ≠ some t) → ∀ u, (atT tr fin (i + 1 + d)).tm.get t = some u → u = v
  | 0, h1, _, u, hu => by
    obtain ⟨v', g', e1, e2, e3⟩ := (trail_spec _ _ _ _ ht).2.2 i oi (by simpa using hi)
    rw [hv] at e1; cases e1
    rcases (St.put_some e3).2.2.2.2 t u (by simpa using hu) with ⟨-, e⟩ | ⟨e, -⟩
    · exact e
    · exact absurd hd e
  | d + 1, h1, h2, u, hu => by
    have hk : i + 1 + d < ops.size := by omega
    obtain ⟨v', g', e1, e2, e3⟩ := (trail_spec _ _ _ _ ht).2.2 (i + 1 + d) ops[i + 1 + d] (by simp [hk])
    rcases (St.put_some e3).2.2.2.2 t u (by rw [show i + 1 + (d + 1) = i + 1 + d + 1 by omega] at hu; exact hu) with ⟨e, -⟩ | ⟨-, e⟩
    · exact absurd e (h2 (i + 1 + d) ops[i + 1 + d] (by omega) (by omega) (by simp [hk]))
    · exact last_write ht hi hd hv d (by omega) (fun k o a b c => h2 k o a (by omega) c) u e
theorem atT_nt (ht : trail P E r ops ops.toList st = some (tr, fin)) : ∀ j, j ≤ ops.size → (atT tr fin j).nt = st.nt ∧ (atT tr fin j).df = st.df
  | 0, _ => by rw [(trail_spec _ _ _ _ ht).2.1]; exact ⟨rfl, rfl⟩
  | j + 1, h => by
    have hj : j < ops.size := by omega
    obtain ⟨v, g', e1, e2, e3⟩ := (trail_spec _ _ _ _ ht).2.2 j ops[j] (by simp [hj])
    obtain ⟨h1, h2, h3, -⟩ := St.put_some e3
    obtain ⟨k1, k2⟩ := atT_nt ht j (by omega)
    exact ⟨h1.trans k1, h3.trans k2⟩
theorem atT_ok (ht : trail P E r ops ops.toList st = some (tr, fin)) (hok : ∀ t v, st.tm.get t = some v → t < st.nt) : ∀ j, j ≤ ops.size → ∀ t v, (atT tr fin j).tm.get t = some v → t < st.nt
  | 0, _, t, v, h => by rw [(trail_spec _ _ _ _ ht).2.1] at h; exact hok t v h
  | j + 1, hle, t, v, h => by
    have hj : j < ops.size := by omega
    obtain ⟨v', g', e1, e2, e3⟩ := (trail_spec _ _ _ _ ht).2.2 j ops[j] (by simp [hj])
    obtain ⟨-, -, -, h4, h5⟩ := St.put_some e3
    obtain ⟨k1, -⟩ := atT_nt ht j (by omega)
    rcases h5 t v h with ⟨e, -⟩ | ⟨-, e⟩
    · have := h4 t e; rw [← k1]; exact this
    · exact atT_ok ht hok j (by omega) t v e
variable (hE : EvOk P E) (ht : trail P E r ops ops.toList st = some (tr, fin)) (hord : orderOk P ops (ancs ops.toList []) = true) (hlook : looksOk P ops (ancs ops.toList []) tr fin = true)
include ht hord
/-- An operation that is ready: what must come before is done. -/
theorem ready_anc {m q : Nat → Bool} {pl : Nat → Pl} {ρ0 : Rho} {w0 : World} (hI : Inv P ops tr fin st ρ0 w0 m q pl ρ a w) {i : Nat} {o : Oper} (ho : ops[i]? = some o) (hready : ∀ e ∈ o.after.toList, Region.binds .any e = true → m e.on = true) {k : Nat} (hk : ((ancs ops.toList []).getD i 0).testBit k = true) : m k = true := by
  obtain ⟨e, e1, e2, e3⟩ := anc_bit ho hk
  have hlt := (orderOk_spec hord).1 i o ho e e1 e2
  rcases e3 with rfl | ⟨-, e3⟩
  · exact hready e e1 e2
  · exact hI.down e.on (by have := arr_lt ho; omega) (hready e e1 e2) k e3
/-- Which operations that are in conflict with one that is ready are done: those ahead of it. -/
theorem conf_done {m q : Nat → Bool} {pl : Nat → Pl} {ρ0 : Rho} {w0 : World} (hI : Inv P ops tr fin st ρ0 w0 m q pl ρ a w) {i : Nat} {o : Oper} (ho : ops[i]? = some o) (hready : ∀ e ∈ o.after.toList, Region.binds .any e = true → m e.on = true) (hm : m i = false)
    {k : Nat} {o' : Oper} (ho' : ops[k]? = some o') (hc : k ≠ i → confO P ops (if k < i then o' else o) (if k < i then o else o') = true) : m k = true ↔ k < i := by
  rcases Nat.lt_trichotomy k i with h | h | h
  · rw [if_pos h, if_pos h] at hc
    exact ⟨fun _ => h, fun _ => ready_anc ht hord hI ho hready ((orderOk_spec hord).2.1 k i o' o h ho' ho (hc (by omega)))⟩
  · subst h; rw [hm]; simp
  · rw [if_neg (by omega), if_neg (by omega)] at hc
    refine ⟨fun hmk => ?_, fun hlt => by omega⟩
    have := hI.down k (arr_lt ho') hmk i ((orderOk_spec hord).2.1 i k o o' h ho ho' (hc (by omega)))
    rw [hm] at this; cases this
omit ht hord in
theorem Sat.below {m q : Nat → Bool} (hS : Sat P ops m q) {i : Nat} (h : ∀ e o, e < i → ops[e]? = some o → stillO P o.op = false → m e = true) : ∀ n, n ≤ i → Below P ops q n
  | 0, _ => fun e o he => by omega
  | n + 1, hn => fun e o he ho hs => by
    have ih := hS.below h n (by omega)
    by_cases hen : e < n
    · exact ih e o hen ho hs
    · have : e = n := by omega
      subst this
      exact hS e o ho (h e o (by omega) ho hs) ih
/-- The slots that a ready operation looks at. -/
theorem look_ready {m q : Nat → Bool} {pl : Nat → Pl} {ρ0 : Rho} {w0 : World} (hI : Inv P ops tr fin st ρ0 w0 m q pl ρ a w) (hS : Sat P ops m q) {i : Nat} {o : Oper} (ho : ops[i]? = some o) (hready : ∀ e ∈ o.after.toList, Region.binds .any e = true → m e.on = true) (hm : m i = false) : LookR ρ (atT tr fin i).tm a (o.looksAt ops) := by
  intro t htm v hv
  refine hI.tms i (by have := arr_lt ho; omega) t (fun k o' ho' hd => ?_) v hv
  have h1 : m k = true ↔ k < i := conf_done ht hord hI ho hready hm ho' fun hne => by
    by_cases hk : k < i
    · rw [if_pos hk, if_pos hk]; exact conf_read hd htm
    · rw [if_neg hk, if_neg hk]; exact conf_write hd htm
  refine ⟨h1, fun hq => h1.1 (hI.sub k hq), fun hk => ?_⟩
  cases hf : freshB o' with
  | false => exact hI.hard k o' ho' hf (h1.2 hk)
  | true =>
    have h2 := ((orderOk_spec hord).2.2 k o' t ho' hf hd i o (by omega) ho).2 htm
    exact hS k o' ho' (h1.2 hk) (hS.below (i := k) (fun e oe he hoe hs => ready_anc ht hord hI ho hready (h2.2 e oe he hoe hs)) k (Nat.le_refl _))
/-- One more operation is done, and the rows know it. -/
theorem Inv.step {m m' q q' : Nat → Bool} {pl : Nat → Pl} {ρ0 : Rho} {w0 : World} (hI : Inv P ops tr fin st ρ0 w0 m q pl ρ a w) {i : Nat} {o : Oper} (ho : ops[i]? = some o) (hready : ∀ e ∈ o.after.toList, Region.binds .any e = true → m e.on = true) (hm : m i = false)
    (hm' : ∀ k, m' k = true ↔ (m k = true ∨ k = i)) (hq' : ∀ k, q' k = true ↔ (q k = true ∨ k = i)) {ρ' : Rho} {y : Value} {w' : World} {v : Value} (hv : tr[i]? = some (atT tr fin i, v)) (hy : VR ρ' v y) (hl : Le ρ ρ') (hpre : stillO P o.op = false → Below P ops q i)
    (hsz : w.heap.size ≤ w'.heap.size) (hkeep : ∀ e oe, ops[e]? = some oe → m e = true → q e = false → w'.heap[(pl e).b]? = w.heap[(pl e).b]?)
    (hrows : ∀ j, j ≤ ops.size → Cut P ops q' j → R ρ' (atT tr fin j).g w' ∧ Fr ρ0 st.g w0 ρ' (atT tr fin j).g w' ∧ ∀ e oe, ops[e]? = some oe → m e = true → q e = false → Off ρ' (atT tr fin j).g (pl e).b) :
    Inv P ops tr fin st ρ0 w0 m' q' pl ρ' (a.put o.dst y) w' := by
  have hlt := arr_lt ho
  have old : ∀ e, m' e = true → q' e = false → m e = true ∧ q e = false ∧ e ≠ i := fun e h1 h2 => by
    have hne : e ≠ i := fun h => by rw [(hq' e).2 (.inr h)] at h2; cases h2
    refine ⟨((hm' e).1 h1).resolve_right hne, ?_, hne⟩
    cases hq : q e with
    | false => rfl
    | true => rw [(hq' e).2 (.inl hq)] at h2; cases h2
  refine ⟨fun j hj hmj k hk => ?_, fun e he => (hm' e).2 (((hq' e).1 he).imp (hI.sub e) id), fun e oe hoe hf hme => (hq' e).2 (((hm' e).1 hme).imp (hI.hard e oe hoe hf) id), fun j oj hoj hs hqj e oe he hoe hse => (hq' e).2 (.inl ?_), fun j hj t hw u hu => ?_,
    fun j hj hc => ?_, fun e oe hoe h1 h2 => ?_, fun e e' h1 h2 h3 h4 => ?_, fun e he => ((hm' e).1 he).elim (hI.inr e) (fun h => h ▸ hlt), by rw [put_size]; exact hI.len, by rw [put_defers]; exact hI.df.mono hl⟩
  · rw [hm'] at hmj ⊢
    rcases hmj with h | rfl
    · exact .inl (hI.down j hj h k hk)
    · exact .inl (ready_anc ht hord hI ho hready hk)
  · rcases (hq' j).1 hqj with h | rfl
    · exact hI.pre j oj hoj hs h e oe he hoe hse
    · rw [ho] at hoj; cases hoj
      exact hpre hs e oe he hoe hse
  · by_cases hd : o.dst = some t
    · have hij : i < j := (hw i o ho hd).1.1 ((hm' i).2 (.inr rfl))
      have hsz : i + 1 + (j - (i + 1)) = j := by omega
      have hlast : u = v := last_write ht ho hd hv (j - (i + 1)) (by omega) (fun k o' h1 h2 h3 h4 => by
        have hmk : m' k = true := (hw k o' h3 h4).1.2 (by omega)
        rw [hm'] at hmk
        rcases hmk with h | h
        · have := hI.down k (arr_lt h3) h i ((orderOk_spec hord).2.1 i k o o' h1 ho h3 (conf_both hd h4))
          rw [hm] at this; cases this
        · omega) u (by rw [hsz]; exact hu)
      subst hlast
      have htsz : t < a.tmps.size := by
        obtain ⟨v', g', e1, e2, e3⟩ := (trail_spec _ _ _ _ ht).2.2 i o (by simpa using ho)
        have := (St.put_some e3).2.2.2.1 t hd
        rw [hI.len, ← (atT_nt ht i (by omega)).1]; exact this
      rw [hd, valOf_putS htsz]
      exact hy
    · rw [valOf_putN hd]
      refine (hI.tms j hj t (fun k o' h1 h2 => ?_) u hu).mono hl
      have hne : k ≠ i := fun e => by subst e; rw [ho] at h1; cases h1; exact hd h2
      obtain ⟨w1, w2⟩ := hw k o' h1 h2
      rw [← w1, hm']
      refine ⟨⟨.inl, fun h => h.resolve_right hne⟩, ?_⟩
      rw [← hm', w1, ← w2, hq']
      exact ⟨.inl, fun h => h.resolve_right hne⟩
  · obtain ⟨r1, r2, r3⟩ := hrows j hj hc
    exact ⟨r1, r2, fun e oe hoe h1 h2 => r3 e oe hoe (old e h1 h2).1 (old e h1 h2).2.1⟩
  · obtain ⟨k1, k2, k3⟩ := old e h1 h2
    obtain ⟨p1, p2, oo, v', p3, p4, p5⟩ := hI.pend e oe hoe k1 k2
    refine ⟨p1, by omega, oo, v', p3, p4, fun ρ2 h => ?_⟩
    obtain ⟨s1, s2⟩ := p5 ρ2 h
    refine ⟨s1.mono (Le.refl _) (hkeep e oe hoe k1 k2), fun t htd => ?_⟩
    have hfr : freshB oe = true := by
      cases hf : freshB oe with
      | true => rfl
      | false => rw [hI.hard e oe hoe hf k1] at k2; cases k2
    have := ((orderOk_spec hord).2.2 e oe t hoe hfr htd i o (Ne.symm k3) ho).1
    rw [valOf_putN this]
    exact s2 t htd
  · exact hI.apt e e' (old e h1 h2).1 (old e h1 h2).2.1 (old e' h3 h4).1 (old e' h3 h4).2.1
/-- A fresh row is laid early. -/
theorem Inv.early {m m' q : Nat → Bool} {pl : Nat → Pl} {ρ0 : Rho} {w0 : World} (hI : Inv P ops tr fin st ρ0 w0 m q pl ρ a w) {i : Nat} {o : Oper} (ho : ops[i]? = some o) (hready : ∀ e ∈ o.after.toList, Region.binds .any e = true → m e.on = true) (hm : m i = false) (hf : freshB o = true)
    (hm' : ∀ k, m' k = true ↔ (m k = true ∨ k = i)) {oo : GO} {mk : Nat → Value} {wd sz : Nat} {obj : Obj} {y : Value} (hv : tr[i]? = some (atT tr fin i, mk (atT tr fin i).g.nx)) (hg : (atT tr fin (i + 1)).g = (atT tr fin i).g.new oo) (hw0 : w0.heap.size ≤ w.heap.size)
    (hy : ∀ ρ' w' i, ρ' i = some ⟨w.heap.size, 0, wd, sz⟩ → w'.heap[w.heap.size]? = some obj → GOR ρ' w' ⟨w.heap.size, 0, wd, sz⟩ oo ∧ VR ρ' (mk i) y) :
    Inv P ops tr fin st ρ0 w0 m' q (fun k => if k = i then ⟨w.heap.size, 0, wd, sz⟩ else pl k) ρ (a.put o.dst y) (w.alloc obj) := by
  have hlt := arr_lt ho
  have hqi : q i = false := by
    cases h : q i with
    | false => rfl
    | true => rw [hI.sub i h] at hm; cases hm
  have hold : ∀ k : Nat, k < w.heap.size → (w.alloc obj).heap[k]? = w.heap[k]? := alloc_old (fun _ => rfl) rfl
  have hs1 : (w.alloc obj).heap.size = w.heap.size + 1 := by simp only [World.alloc, Array.size_push]
  have hd' : ∀ t, o.dst = some t → t < a.tmps.size := fun t hd => by
    obtain ⟨v', g', e1, e2, e3⟩ := (trail_spec _ _ _ _ ht).2.2 i o (by simpa using ho)
    have := (St.put_some e3).2.2.2.1 t hd
    rw [hI.len, ← (atT_nt ht i (by omega)).1]; exact this
  refine ⟨fun j hj hmj k hk => ?_, fun e he => (hm' e).2 (.inl (hI.sub e he)), fun e oe hoe hfe hme => ?_, hI.pre, fun j hj t hw u hu => ?_, fun j hj hc => ?_, fun e oe hoe h1 h2 => ?_, fun e e' h1 h2 h3 h4 h5 => ?_, fun e he => ((hm' e).1 he).elim (hI.inr e) (fun h => h ▸ hlt), by rw [put_size]; exact hI.len, by rw [put_defers]; exact hI.df⟩
  · rw [hm'] at hmj ⊢
    rcases hmj with h | rfl
    · exact .inl (hI.down j hj h k hk)
    · exact .inl (ready_anc ht hord hI ho hready hk)
  · rcases (hm' e).1 hme with h | rfl
    · exact hI.hard e oe hoe hfe h
    · rw [ho] at hoe; cases hoe; rw [hf] at hfe; cases hfe
  · by_cases hd : o.dst = some t
    · obtain ⟨w1, w2⟩ := hw i o ho hd
      have := w2.2 (w1.1 ((hm' i).2 (.inr rfl)))
      rw [hqi] at this; cases this
    · rw [valOf_putN hd]
      refine hI.tms j hj t (fun k o' h1 h2 => ?_) u hu
      have hne : k ≠ i := fun e => by subst e; rw [ho] at h1; cases h1; exact hd h2
      obtain ⟨w1, w2⟩ := hw k o' h1 h2
      refine ⟨?_, w2⟩
      rw [← w1, hm']
      exact ⟨.inl, fun h => h.resolve_right hne⟩
  · obtain ⟨r1, r2, r3⟩ := hI.rows j hj hc
    refine ⟨⟨r1.fresh, fun k x hk => ?_, r1.apart⟩, ⟨r2.le, by omega, fun k hk ho => (hold k (by omega)).trans (r2.keep k hk ho), r2.off, r2.os.trans ⟨rfl, rfl⟩⟩, fun e oe hoe h1 h2 => ?_⟩
    · obtain ⟨p, e, r⟩ := r1.ob k x hk
      exact ⟨p, e, r.mono (Le.refl _) (hold _ r.lt)⟩
    · show Off ρ _ (if e = i then (⟨w.heap.size, 0, wd, sz⟩ : Pl) else pl e).b
      split
      · intro k x p hk hp e
        obtain ⟨p', e', r⟩ := r1.ob k x hk
        rw [hp] at e'; cases e'
        have := r.lt
        rw [e] at this
        exact Nat.lt_irrefl _ this
      · rename_i hne
        exact r3 e oe hoe (((hm' e).1 h1).resolve_right hne) h2
  · unfold Pend
    by_cases hne : e = i
    · subst hne
      rw [ho] at hoe; cases hoe
      simp only [if_true]
      refine ⟨hw0, by omega, oo, _, hv, hg, fun ρ' h => ?_⟩
      obtain ⟨s1, s2⟩ := hy ρ' (w.alloc obj) _ h (alloc_new rfl)
      refine ⟨s1, fun t htd => ?_⟩
      rw [htd, valOf_putS (hd' t htd)]
      exact s2
    · simp only [if_neg hne]
      have k1 := ((hm' e).1 h1).resolve_right hne
      obtain ⟨p1, p2, oo', v', p3, p4, p5⟩ := hI.pend e oe hoe k1 h2
      refine ⟨p1, by omega, oo', v', p3, p4, fun ρ2 h => ?_⟩
      obtain ⟨s1, s2⟩ := p5 ρ2 h
      refine ⟨s1.mono (Le.refl _) (hold _ p2), fun t htd => ?_⟩
      have hfr : freshB oe = true := by
        cases hf : freshB oe with
        | true => rfl
        | false => rw [hI.hard e oe hoe hf k1] at h2; cases h2
      have := ((orderOk_spec hord).2.2 e oe t hoe hfr htd i o (Ne.symm hne) ho).1
      rw [valOf_putN this]
      exact s2 t htd
  · have lt : ∀ e, m e = true → q e = false → e < ops.size → (pl e).b < w.heap.size := fun e h1 h2 h3 => by
      have := (hI.pend e ops[e] (by simp [h3]) h1 h2).2.1
      exact this
    have inR : ∀ e, m e = true → q e = false → (pl e).b = w.heap.size → e < ops.size → False := fun e h1 h2 h3 h4 => by
      have := lt e h1 h2 h4; omega
    by_cases he : e = i <;> by_cases he' : e' = i
    · rw [he, he']
    · simp only [if_pos he, if_neg he'] at h5
      have k1 := ((hm' e').1 h3).resolve_right he'
      by_cases hs : e' < ops.size
      · exact (inR e' k1 h4 h5.symm hs).elim
      · exact absurd (hI.inr e' k1) (by omega)
    · simp only [if_neg he, if_pos he'] at h5
      have k1 := ((hm' e).1 h1).resolve_right he
      by_cases hs : e < ops.size
      · exact (inR e k1 h2 h5 hs).elim
      · exact absurd (hI.inr e k1) (by omega)
    · simp only [if_neg he, if_neg he'] at h5
      exact hI.apt e e' (((hm' e).1 h1).resolve_right he) h2 (((hm' e').1 h3).resolve_right he') h4 h5
/-- A fresh row that is laid: the rows take it up. -/
theorem Inv.bind {m q q' : Nat → Bool} {pl : Nat → Pl} {ρ0 : Rho} {w0 : World} (hI : Inv P ops tr fin st ρ0 w0 m q pl ρ a w) {i : Nat} {o : Oper} (ho : ops[i]? = some o) (hm : m i = true) (hq : q i = false) (hb : Below P ops q i) (hq' : ∀ k, q' k = true ↔ (q k = true ∨ k = i)) :
    ∃ ρ', Inv P ops tr fin st ρ0 w0 m q' pl ρ' a w ∧ Le ρ ρ' := by
  have hlt := arr_lt ho
  have hfr : freshB o = true := by
    cases hf : freshB o with
    | true => rfl
    | false => rw [hI.hard i o ho hf hm] at hq; cases hq
  obtain ⟨p1, p2, oo, v, p3, p4, p5⟩ := hI.pend i o ho hm hq
  have hst : stillO P o.op = false := by
    obtain ⟨dst, op, type, pos, after, guard⟩ := o
    unfold freshB at hfr
    simp only [Bool.and_eq_true] at hfr
    have := hfr.2
    split at this
    · rfl
    · rfl
    · cases this
  have hcut : Cut P ops q i := fun k o' ho' hs => by
    refine ⟨fun hk => ?_, fun hk => hb k o' hk ho' hs⟩
    rcases Nat.lt_trichotomy k i with h | h | h
    · exact h
    · subst h; rw [hq] at hk; cases hk
    · have := hI.pre k o' ho' hs hk i o h ho hst
      rw [hq] at this; cases this
  obtain ⟨r1, r2, r3⟩ := hI.rows i (by omega) hcut
  obtain ⟨s1, s2⟩ := p5 (ρ.put (atT tr fin i).g.nx (pl i)) Rho.put_self
  obtain ⟨b1, b2⟩ := R.bind r1 r2 p1 (r3 i o ho hm hq) s1
  have hle := Rho.put_le (p := pl i) (r1.fresh _ (Nat.le_refl _))
  have old : ∀ e, q' e = false → q e = false ∧ e ≠ i := fun e h2 => by
    have hne : e ≠ i := fun h => by rw [(hq' e).2 (.inr h)] at h2; cases h2
    refine ⟨?_, hne⟩
    cases hq : q e with
    | false => rfl
    | true => rw [(hq' e).2 (.inl hq)] at h2; cases h2
  refine ⟨_, ⟨hI.down, fun e he => ?_, fun e oe hoe hf hme => (hq' e).2 (.inl (hI.hard e oe hoe hf hme)), fun j oj hoj hs hqj e oe he hoe hse => (hq' e).2 (.inl ?_), fun j hj t hw u hu => ?_, fun j hj hc => ?_, fun e oe hoe h1 h2 => ?_, fun e e' h1 h2 h3 h4 => ?_, hI.inr, hI.len, hI.df.mono hle⟩, hle⟩
  · rcases (hq' e).1 he with h | rfl
    · exact hI.sub e h
    · exact hm
  · rcases (hq' j).1 hqj with h | rfl
    · exact hI.pre j oj hoj hs h e oe he hoe hse
    · exact hb e oe he hoe hse
  · by_cases hd : o.dst = some t
    · have hij : i < j := (hw i o ho hd).1.1 hm
      have hsz : i + 1 + (j - (i + 1)) = j := by omega
      have hlast : u = v := last_write ht ho hd p3 (j - (i + 1)) (by omega) (fun k o' h1 h2 h3 h4 =>
        ((orderOk_spec hord).2.2 i o t ho hfr hd k o' (by omega) h3).1 h4) u (by rw [hsz]; exact hu)
      subst hlast
      exact s2 t hd
    · refine (hI.tms j hj t (fun k o' h1 h2 => ?_) u hu).mono hle
      have hne : k ≠ i := fun e => by subst e; rw [ho] at h1; cases h1; exact hd h2
      obtain ⟨w1, w2⟩ := hw k o' h1 h2
      refine ⟨w1, ?_⟩
      rw [← w2, hq']
      exact ⟨.inl, fun h => h.resolve_right hne⟩
  · have hsame : (atT tr fin j).g = (atT tr fin (i + 1)).g := rows_eq ht hj (by omega) fun k o' ho' hs' => by
      rw [← hc k o' ho' hs', hq', hcut k o' ho' hs']; omega
    rw [hsame, p4]
    refine ⟨b1, b2, fun e oe hoe h1 h2 k x p hk hp => ?_⟩
    obtain ⟨k1, k2⟩ := old e h2
    rcases G.get_new hk with ⟨rfl, rfl⟩ | ⟨hne, hg⟩
    · rw [Rho.put_self] at hp; cases hp
      exact fun e' => k2 (hI.apt e i h1 k1 hm hq e'.symm)
    · rw [Rho.put_ne hne] at hp
      exact r3 e oe hoe h1 k1 k x p hg hp
  · exact hI.pend e oe hoe h1 (old e h2).1
  · exact hI.apt e e' h1 (old e h2).1 h3 (old e' h4).1
/-- All that can be taken up is taken up. -/
theorem Inv.sat {m : Nat → Bool} {pl : Nat → Pl} {ρ0 : Rho} {w0 : World} : ∀ (n : Nat), n ≤ ops.size → ∀ {q : Nat → Bool} {ρ : Rho}, Inv P ops tr fin st ρ0 w0 m q pl ρ a w →
    ∃ q' ρ', Inv P ops tr fin st ρ0 w0 m q' pl ρ' a w ∧ Le ρ ρ' ∧ ∀ i o, i < n → ops[i]? = some o → m i = true → Below P ops q' i → q' i = true
  | 0, _, q, ρ, hI => ⟨q, ρ, hI, Le.refl _, fun i o h => by omega⟩
  | n + 1, hn, q, ρ, hI => by
    obtain ⟨q1, ρ1, h1, h2, h3⟩ := Inv.sat n (by omega) hI
    have ho : ops[n]? = some ops[n] := by simp [show n < ops.size by omega]
    by_cases hc : m n = true ∧ q1 n = false ∧ Below P ops q1 n
    · obtain ⟨c1, c2, c3⟩ := hc
      have hq' : ∀ k, (fun k => q1 k || k == n) k = true ↔ (q1 k = true ∨ k = n) := fun k => by simp
      obtain ⟨ρ2, k1, k2⟩ := Inv.bind ht hord h1 ho c1 c2 c3 hq'
      refine ⟨_, ρ2, k1, h2.trans k2, fun i o hi hoi hmi hb => ?_⟩
      by_cases hin : i = n
      · exact (hq' i).2 (.inr hin)
      · refine (hq' i).2 (.inl (h3 i o (by omega) hoi hmi fun e oe he hoe hs => ?_))
        exact ((hq' e).1 (hb e oe he hoe hs)).resolve_right (by omega)
    · refine ⟨q1, ρ1, h1, h2, fun i o hi hoi hmi hb => ?_⟩
      by_cases hin : i = n
      · subst hin
        cases hq : q1 i with
        | true => rfl
        | false => exact (hc ⟨hmi, hq, hb⟩).elim
      · exact h3 i o (by omega) hoi hmi hb
/-- Where the rows stand. -/
theorem Inv.cut {m q : Nat → Bool} {pl : Nat → Pl} {ρ0 : Rho} {w0 : World} (hI : Inv P ops tr fin st ρ0 w0 m q pl ρ a w) : ∃ j, j ≤ ops.size ∧ (j = 0 ∨ ∃ o, ops[j - 1]? = some o ∧ stillO P o.op = false ∧ 0 < j) ∧ Cut P ops q j := by
  -- the last one that is done
  have gen : ∀ n, n ≤ ops.size → ∃ j, j ≤ n ∧ (j = 0 ∨ ∃ o, ops[j - 1]? = some o ∧ stillO P o.op = false ∧ 0 < j ∧ q (j - 1) = true) ∧ ∀ k o, j ≤ k → k < n → ops[k]? = some o → stillO P o.op = false → q k = false := by
    intro n
    induction n with
    | zero => exact fun _ => ⟨0, Nat.le_refl _, .inl rfl, fun k o h1 h2 => by omega⟩
    | succ n ih =>
      intro hn
      have hlt : n < ops.size := by omega
      by_cases hc : stillO P ops[n].op = false ∧ q n = true
      · exact ⟨n + 1, Nat.le_refl _, .inr ⟨ops[n], by simp [hlt], hc.1, by omega, by simpa using hc.2⟩, fun k o h1 h2 => by omega⟩
      · obtain ⟨j, h1, h2, h3⟩ := ih (by omega)
        refine ⟨j, by omega, h2, fun k o h4 h5 h6 h7 => ?_⟩
        by_cases hk : k < n
        · exact h3 k o h4 hk h6 h7
        · have : k = n := by omega
          subst this
          have he : ops[k] = o := by simpa [hlt] using h6
          rw [he] at hc
          cases hmk : q k with
          | false => rfl
          | true => exact absurd ⟨h7, hmk⟩ hc
  obtain ⟨j, h1, h2, h3⟩ := gen ops.size (Nat.le_refl _)
  refine ⟨j, h1, h2.imp id (fun ⟨o, a, b, c, _⟩ => ⟨o, a, b, c⟩), fun k o ho hs => ⟨fun hk => ?_, fun hk => ?_⟩⟩
  · rcases Nat.lt_or_ge k j with h | h
    · exact h
    · have := h3 k o h (arr_lt ho) ho hs
      rw [hk] at this; cases this
  · rcases h2 with rfl | ⟨o', a1, a2, a3, a4⟩
    · omega
    · rcases Nat.lt_or_ge k (j - 1) with h | h
      · exact hI.pre (j - 1) o' a1 a2 a4 k o h ho hs
      · have : k = j - 1 := by omega
        subst this; exact a4
include hE hlook
/-- A ready operation is carried out. -/
theorem ready_step (hok : ∀ t v, st.tm.get t = some v → t < st.nt) {m m' q : Nat → Bool} {pl : Nat → Pl} {ρ0 : Rho} {w0 : World} (hI : Inv P ops tr fin st ρ0 w0 m q pl ρ a w) (hS : Sat P ops m q) {i : Nat} {o : Oper} (ho : ops[i]? = some o) (hready : ∀ e ∈ o.after.toList, Region.binds .any e = true → m e.on = true) (hm : m i = false)
    (hm' : ∀ k, m' k = true ↔ (m k = true ∨ k = i)) (hr : RoundR ρ0 r r') (hle : Le ρ0 ρ) {N : Act → World → Prop} {Q : Exit → Act → World → Prop} (hN : ∀ q' pl' ρ' a' w', Inv P ops tr fin st ρ0 w0 m' q' pl' ρ' a' w' → Le ρ0 ρ' → N a' w') :
    (Region.wanted o (yielded ops a.tmps) = true ∧ o.wpIn (Fw r') n P a w N Q) ∨ (Region.wanted o (yielded ops a.tmps) = false ∧ N (a.put o.dst undef) w) := by
  have hlt := arr_lt ho
  obtain ⟨v, g1, e1, e2, e3⟩ := (trail_spec _ _ _ _ ht).2.2 i o (by simpa using ho)
  have hL := look_ready ht hord hI hS ho hready hm
  have hs : ∀ t v, (atT tr fin i).tm.get t = some v → t < a.tmps.size := fun t v h => by rw [hI.len]; exact atT_ok ht hok i (by omega) t v h
  have hg1 : (atT tr fin (i + 1)).g = g1 := (St.put_some e3).2.1
  have hqi : q i = false := by
    cases h : q i with
    | false => rfl
    | true => rw [hI.sub i h] at hm; cases hm
  have hq' : ∀ k, (fun k => q k || k == i) k = true ↔ (q k = true ∨ k = i) := fun k => by simp
  have inR : ∀ {j : Nat} {ρ' : Rho} {w' : World} {g' : G}, (∀ e oe, ops[e]? = some oe → m e = true → q e = false → Off ρ (atT tr fin j).g (pl e).b) → Fr ρ (atT tr fin j).g w ρ' g' w' →
      (∀ e oe, ops[e]? = some oe → m e = true → q e = false → w'.heap[(pl e).b]? = w.heap[(pl e).b]? ∧ Off ρ' g' (pl e).b) := fun h1 h2 e oe hoe h3 h4 => by
    have hl := (hI.pend e oe hoe h3 h4).2.1
    exact ⟨h2.keep _ hl (h1 e oe hoe h3 h4), h2.off _ hl (h1 e oe hoe h3 h4)⟩
  cases hst : stillO P o.op with
  | false =>
    by_cases hbel : Below P ops q i
    · -- it changes rows: they stand as in the text
      have hhere : Cut P ops q i := fun k o' ho' hs' => by
        refine ⟨fun hk => ?_, fun hk => hbel k o' hk ho' hs'⟩
        rcases Nat.lt_trichotomy k i with h | h | h
        · exact h
        · subst h; rw [hqi] at hk; cases hk
        · have := hI.pre k o' ho' hs' hk i o h ho hst
          rw [hqi] at this; cases this
      obtain ⟨hR, hF, hP⟩ := hI.rows i (by omega) hhere
      refine operV_sound hE hL hs hR (hr.mono hle) e2 n fun ρ' y w' ds h1 h2 h3 h4 => ?_
      rcases h4 with ⟨-, rfl⟩ | ⟨_, _, e, -⟩
      · have hin := inR hP h3
        refine hN _ pl ρ' _ w' (Inv.step ht hord hI ho hready hm hm' hq' e1 h1 h3.le (fun _ => hbel) h3.size (fun e oe a b c => (hin e oe a b c).1) fun j hj hw => ?_) (hle.trans h3.le)
        have hij : i < j := (hw i o ho hst).1 ((hq' i).2 (.inr rfl))
        have hsame : (atT tr fin j).g = (atT tr fin (i + 1)).g := rows_eq ht hj (by omega) fun k o' ho' hs' => by
          rw [← hw k o' ho' hs', hq', hhere k o' ho' hs']; omega
        rw [hsame, hg1]
        exact ⟨h2, hF.trans h3, fun e oe a b c => (hin e oe a b c).2⟩
      · cases e
    · -- a fresh row that comes early
      have hfr : freshB o = true := by
        cases hf : freshB o with
        | true => rfl
        | false =>
          exfalso
          exact hbel (hS.below (i := i) (fun e oe he hoe hse => ready_anc ht hord hI ho hready ((orderOk_spec hord).2.1 e i oe o he hoe ho (conf_still hse hst hf))) i (Nat.le_refl _))
      obtain ⟨j, hj1, hj2, hj3⟩ := Inv.cut ht hord hI
      obtain ⟨hR, hF, hP⟩ := hI.rows j hj1 hj3
      have hop : opG P (atT tr fin i).tm (atT tr fin i).g o.type o.op = some (v, g1) := by
        have hg : o.guard = none := by
          unfold freshB at hfr
          simp only [Bool.and_eq_true, Option.isNone_iff_eq_none] at hfr
          exact hfr.1
        have hall := e2
        unfold operV at hall
        simp only [wantG, hg] at hall
        split at hall
        · rename_i v0 g0 hop; cases hall; exact hop
        · exfalso
          unfold freshB at hfr
          simp only [Bool.and_eq_true] at hfr
          have h2 := hfr.2
          split at hall
          · rename_i c hc; rw [hc] at h2; cases h2
          · rename_i c hc; rw [hc] at h2; cases h2
          · cases hall
      obtain ⟨f1, f2, f3, oo, mk, wd, sz, obj, rfl, rfl, f4⟩ := fresh_sound hfr hop
      obtain ⟨y, f5, f6⟩ := f4 a w
      have hw : wantG ops (atT tr fin i).tm o = some true := by simp [wantG, f1]
      refine .inl ⟨wantG_sound hL hs hw, fun f _ => Fw_fn f, ?_⟩
      rw [Fw_round, Oper.semAt_eq r' a.eval o f3, f5, Oper.uponIn_value]
      exact hN q _ ρ _ _ (Inv.early ht hord hI ho hready hm hfr hm' e1 hg1 hF.size f6) hle
  | true =>
    obtain ⟨j, hj1, hj2, hj3⟩ := Inv.cut ht hord hI
    obtain ⟨hR, hF, hP⟩ := hI.rows j hj1 hj3
    -- what it tells there
    have hthere : operV P E r ops o (atT tr fin i).tm (atT tr fin j).g = some (v, (atT tr fin j).g, none) := by
      have hall := e2
      unfold operV at hall ⊢
      split at hall
      · cases hall
      · rename_i hw; cases hall; rfl
      · rename_i hw
        split at hall
        · rename_i v0 g0 hop
          cases hall
          have hgg := opG_still hst hop
          cases hbl : blindO o.op with
          | true => rw [opG_blind hbl hop]
          | false =>
            unfold looksOk at hlook
            rw [List.all_eq_true] at hlook
            have h1 := hlook i (List.mem_range.2 hlt)
            rw [ho, e1] at h1
            simp only [hst, hbl, Bool.not_true, Bool.false_or, List.all_eq_true] at h1
            have h2 := h1 j (List.mem_range.2 (by omega))
            have hcut : calmB P ops j = false := by
              unfold calmB
              rcases hj2 with rfl | ⟨o', a1, a2, a3⟩
              · rfl
              · have : Nat.beq j 0 = false := by cases hb : Nat.beq j 0 with | false => rfl | true => have := Nat.eq_of_beq_eq_true hb; omega
                rw [this, a1]; exact a2
            have hall2 : allowedO P ops (ancs ops.toList []) i j = true := by
              unfold allowedO
              rw [List.all_eq_true]
              intro e he
              split
              · rfl
              · rename_i o' ho'
                cases hs' : stillO P o'.op with
                | true => rfl
                | false =>
                  simp only [Bool.false_or, Bool.and_eq_true, Bool.or_eq_true, Bool.not_eq_true']
                  refine ⟨?_, ?_⟩
                  · cases hf : freshB o' with
                    | true => exact .inr rfl
                    | false =>
                      cases hb : ((ancs ops.toList []).getD i 0).testBit e with
                      | false => exact .inl (.inl rfl)
                      | true =>
                        refine .inl (.inr ?_)
                        rw [Nat.blt_eq]
                        exact (hj3 e o' ho' hs').1 (hI.hard e o' ho' hf (ready_anc ht hord hI ho hready hb))
                  · cases hb : ((ancs ops.toList []).getD e 0).testBit i with
                    | false => exact .inl rfl
                    | true =>
                      refine .inr (Nat.ble_eq_true_of_le ?_)
                      rcases Nat.lt_or_ge e j with h | h
                      · have := hI.down e (arr_lt ho') (hI.sub e ((hj3 e o' ho' hs').2 h)) i hb
                        rw [hm] at this; cases this
                      · exact h
            rw [hcut, hall2, hw] at h2
            simp only [Bool.not_true, Bool.false_or] at h2
            split at h2
            · rename_i v' g' hop'
              have := opG_still hst hop'
              subst this
              rw [sameV_eq h2]
            · cases h2
        · rename_i hnop
          split at hall
          · rename_i c hop
            exfalso
            rw [hop] at hst
            simp only [stillO] at hst
            split at hall
            · rename_i f pre post vs hcal hvs
              cases hc : c.callee with
              | builtin b => rw [hc] at hcal; simp [calleeM, calleeG] at hcal
              | value fo => rw [hc] at hst; simp at hst
              | invoke r m => rw [hc] at hst; simp at hst
            · cases hall
          · rename_i c hop
            exfalso
            rw [hop] at hst; simp [stillO] at hst
          · cases hall
    refine operV_sound hE hL hs hR (hr.mono hle) hthere n fun ρ' y w' ds h1 h2 h3 h4 => ?_
    rcases h4 with ⟨-, rfl⟩ | ⟨_, _, e, -⟩
    · have hin := inR hP h3
      refine hN _ pl ρ' _ w' (Inv.step ht hord hI ho hready hm hm' hq' e1 h1 h3.le (fun h => by rw [hst] at h; cases h) h3.size (fun e oe a b c => (hin e oe a b c).1) fun j' hj' hw => ?_) (hle.trans h3.le)
      have hsame : (atT tr fin j').g = (atT tr fin j).g := rows_eq ht hj' hj1 fun k o' ho' hs' => by
        have hne : k ≠ i := fun e => by subst e; rw [ho] at ho'; cases ho'; rw [hst] at hs'; cases hs'
        rw [← hw k o' ho' hs', hq', ← hj3 k o' ho' hs']
        exact ⟨fun h => h.resolve_right hne, .inl⟩
      rw [hsame]
      exact ⟨h2, hF.trans h3, fun e oe a b c => (hin e oe a b c).2⟩
    · cases e
omit hE hlook in
theorem Inv.start (hrel : Rel ρ st a w) : Inv P ops tr fin st ρ w (fun _ => false) (fun _ => false) (fun _ => ⟨0, 0, 0, 0⟩) ρ a w := by
  have h0 := (trail_spec _ _ _ _ ht).2.1
  refine ⟨fun j _ h => (by cases h), fun _ h => (by cases h), fun _ _ _ _ h => (by cases h), fun _ _ _ _ h => (by cases h), fun j hj t hw v hv => ?_, fun j hj hw => ?_, fun _ _ _ h => (by cases h), fun _ _ h => (by cases h), fun _ h => (by cases h), hrel.len, hrel.df⟩
  · -- nobody ahead of j writes t
    have key : ∀ j, j ≤ ops.size → (∀ i o, ops[i]? = some o → o.dst = some t → ¬ i < j) → (atT tr fin j).tm.get t = some v → st.tm.get t = some v := by
      intro j
      induction j with
      | zero => intro _ _ h; rw [h0] at h; exact h
      | succ j ih =>
        intro hj hn h
        have hlt : j < ops.size := by omega
        obtain ⟨v', g', e1, e2, e3⟩ := (trail_spec _ _ _ _ ht).2.2 j ops[j] (by simp [hlt])
        rcases (St.put_some e3).2.2.2.2 t v h with ⟨e, -⟩ | ⟨-, e⟩
        · exact absurd (Nat.lt_succ_self j) (hn j ops[j] (by simp [hlt]) e)
        · exact ih (by omega) (fun i o h1 h2 h3 => hn i o h1 h2 (by omega)) e
    exact hrel.tm t v (key j hj (fun i o h1 h2 h3 => by have := (hw i o h1 h2).1.2 h3; cases this) hv)
  · have : (atT tr fin j).g = st.g := by
      rw [← h0]
      exact rows_eq ht hj (by omega) fun k o h1 h2 => by
        have := hw k o h1 h2
        constructor
        · intro h; have := this.2 h; cases this
        · intro h; omega
    rw [this]
    exact ⟨hrel.hp, Fr.refl _ _ _, fun _ _ _ h => (by cases h)⟩
omit hE hlook in
theorem Inv.done {m q : Nat → Bool} {pl : Nat → Pl} {ρ0 : Rho} {w0 : World} (hok : ∀ t v, st.tm.get t = some v → t < st.nt) (hI : Inv P ops tr fin st ρ0 w0 m q pl ρ a w) (hS : Sat P ops m q) (hm : ∀ i, i < ops.size → m i = true) : Rel ρ fin a w ∧ Fr ρ0 st.g w0 ρ fin.g w := by
  have hl := (trail_spec _ _ _ _ ht).1
  have hfin : atT tr fin ops.size = fin := by unfold atT; rw [List.getElem?_eq_none (by rw [hl]; simp)]
  have hnt := atT_nt ht ops.size (Nat.le_refl _)
  rw [hfin] at hnt
  have hq : ∀ k o, ops[k]? = some o → q k = true := fun k o h1 => hS k o h1 (hm k (arr_lt h1)) (hS.below (i := k) (fun e oe he hoe hs => hm e (arr_lt hoe)) k (Nat.le_refl _))
  obtain ⟨r1, r2, -⟩ := hI.rows ops.size (Nat.le_refl _) fun k o h1 _ => ⟨fun _ => arr_lt h1, fun h => hq k o h1⟩
  rw [hfin] at r1 r2
  refine ⟨⟨by rw [hnt.1]; exact hI.len, fun t v hv => ?_, fun t v hv => ?_, by rw [hnt.2]; exact hI.df, r1⟩, r2⟩
  · have := atT_ok ht hok ops.size (Nat.le_refl _) t v (by rw [hfin]; exact hv)
    rw [hnt.1]; exact this
  · exact hI.tms ops.size (Nat.le_refl _) t (fun k o h1 _ => ⟨⟨fun _ => arr_lt h1, fun h => hm k h⟩, ⟨fun _ => arr_lt h1, fun h => hq k o h1⟩⟩) v (by rw [hfin]; exact hv)
theorem any_sound (hok : ∀ t v, st.tm.get t = some v → t < st.nt) {ρ0 : Rho} {w0 : World} (hr : RoundR ρ0 r r') {Q : Exit → Act → World → Prop} (hQ : ∀ ρ' a' w', Rel ρ' fin a' w' → Fr ρ0 st.g w0 ρ' fin.g w' → Q .normal a' w') :
    ∀ (fuel : Nat) (listed : Array Bool) (q : Nat → Bool) (pl : Nat → Pl) (ρ : Rho) (a : Act) (w : World), listed.size = ops.size → ((List.range ops.size).filter fun i => !listed.getD i false).length ≤ fuel → Le ρ0 ρ → Inv P ops tr fin st ρ0 w0 (fun i => listed.getD i false) q pl ρ a w →
    wpAnyIn (Fw r') n P .any ops Q fuel listed a w := by
  -- what is ready
  have hrdy : ∀ (listed : Array Bool) i, listed.size = ops.size → i ∈ Region.ready .any ops listed → ∃ o, ops[i]? = some o ∧ listed.getD i false = false ∧ ∀ e ∈ o.after.toList, Region.binds .any e = true → listed.getD e.on false = true := fun listed i hsz hi => by
    unfold Region.ready at hi
    rw [List.mem_filter] at hi
    obtain ⟨h1, h2⟩ := hi
    have hlt := List.mem_range.1 h1
    refine ⟨ops[i], by simp [hlt], ?_⟩
    simp only [Bool.and_eq_true, Bool.not_eq_true', hlt, getElem?_pos, Option.map_some, Option.getD_some] at h2
    refine ⟨?_, fun e he hb => ?_⟩
    · have hl2 : i < listed.size := by omega
      have := h2.1
      simp only [Array.getD_eq_getD_getElem?, hl2, getElem?_pos, Option.getD_some] at this ⊢
      exact this
    · have := h2.2
      rw [Array.all_eq_true'] at this
      have := this e (by simpa using he)
      rw [hb] at this
      simpa using this
  have hend : ∀ (listed : Array Bool), listed.size = ops.size → Region.ready .any ops listed = [] → ∀ i, i < ops.size → listed.getD i false = true := by
    intro listed hsz hr i
    induction i using Nat.strongRecOn with
    | _ i ih =>
      intro hi
      cases hb : listed.getD i false with
      | true => rfl
      | false =>
        exfalso
        have hin : i ∈ Region.ready .any ops listed := by
          unfold Region.ready
          rw [List.mem_filter]
          refine ⟨List.mem_range.2 hi, ?_⟩
          have hl2 : i < listed.size := by omega
          simp only [Bool.and_eq_true, Bool.not_eq_true', hi, getElem?_pos, Option.map_some, Option.getD_some]
          refine ⟨?_, ?_⟩
          · simp only [Array.getD_eq_getD_getElem?, hl2, getElem?_pos, Option.getD_some] at hb ⊢
            exact hb
          · rw [Array.all_eq_true']
            intro e he
            cases hbe : Region.binds .any e with
            | false => rfl
            | true =>
              have hlt := (orderOk_spec hord).1 i ops[i] (by simp [hi]) e (by simpa using he) hbe
              rw [ih e.on hlt (by omega)]; rfl
        rw [hr] at hin; cases hin
  intro fuel
  induction fuel with
  | zero =>
    intro listed q0 pl ρ00 a w hsz hcnt hle0 hI0
    obtain ⟨q, ρ, hI, hle1, hS1⟩ := Inv.sat ht hord ops.size (Nat.le_refl _) hI0
    have hle := hle0.trans hle1
    have hS : Sat P ops (fun i => listed.getD i false) q := fun i o ho => hS1 i o (arr_lt ho) ho
    have hall : ∀ i, i < ops.size → listed.getD i false = true := fun i hi => by
      cases hb : listed.getD i false with
      | true => rfl
      | false =>
        have : i ∈ (List.range ops.size).filter fun i => !listed.getD i false := List.mem_filter.2 ⟨List.mem_range.2 hi, by rw [hb]; rfl⟩
        rw [List.eq_nil_of_length_eq_zero (Nat.le_zero.1 hcnt)] at this
        cases this
    refine ⟨?_, ?_⟩
    · cases hb : Region.ready .any ops listed with
      | nil => rfl
      | cons i is =>
        obtain ⟨o, h1, h2, -⟩ := hrdy listed i hsz (by rw [hb]; exact List.mem_cons_self)
        rw [hall i (arr_lt h1)] at h2; cases h2
    · obtain ⟨r1, r2⟩ := Inv.done ht hord hok hI hS hall
      exact hQ _ _ _ r1 r2
  | succ fuel ih =>
    intro listed q0 pl ρ00 a w hsz hcnt hle0 hI0
    obtain ⟨q, ρ, hI, hle1, hS1⟩ := Inv.sat ht hord ops.size (Nat.le_refl _) hI0
    have hle := hle0.trans hle1
    have hS : Sat P ops (fun i => listed.getD i false) q := fun i o ho => hS1 i o (arr_lt ho) ho
    refine ⟨fun hr0 => ?_, fun i hi => ?_⟩
    · obtain ⟨r1, r2⟩ := Inv.done ht hord hok hI hS (hend listed hsz hr0)
      exact hQ _ _ _ r1 r2
    · obtain ⟨o, h1, h2, h3⟩ := hrdy listed i hsz hi
      have hlt := arr_lt h1
      have hset : ∀ k, (listed.setIfInBounds i true).getD k false = true ↔ (listed.getD k false = true ∨ k = i) := fun k => by
        by_cases hk : k = i
        · subst hk
          simp only [Array.getD_eq_getD_getElem?, Array.getElem?_setIfInBounds_self_of_lt (show k < listed.size by omega), Option.getD_some, or_true]
        · simp only [Array.getD_eq_getD_getElem?, Array.getElem?_setIfInBounds_ne (Ne.symm hk), hk, or_false]
      have key := ready_step (n := n) (N := wpAnyIn (Fw r') n P .any ops Q fuel (listed.setIfInBounds i true)) (Q := Q) hE ht hord hlook hok hI hS h1 h3 h2 hset hr hle fun q' pl' ρ' a' w' hI' hle' => by
        refine ih (listed.setIfInBounds i true) q' pl' ρ' a' w' (by simpa using hsz) ?_ hle' hI'
        have hsub : ((List.range ops.size).filter fun k => !(listed.setIfInBounds i true).getD k false).length < ((List.range ops.size).filter fun k => !listed.getD k false).length := by
          have he : ((List.range ops.size).filter fun k => !(listed.setIfInBounds i true).getD k false) = ((List.range ops.size).filter fun k => !listed.getD k false).filter fun k => k != i := by
            rw [List.filter_filter]
            apply List.filter_congr
            intro k _
            rw [Bool.eq_iff_iff]
            simp only [Bool.not_eq_true', Bool.and_eq_true, bne_iff_ne, ne_eq, ← Bool.not_eq_true, hset]
            constructor
            · intro h; exact ⟨fun e => h (.inr e), fun e => h (.inl e)⟩
            · rintro ⟨h1, h2⟩ (h | h)
              · exact h2 h
              · exact h1 h
          rw [he, List.length_filter_lt_length_iff_exists]
          exact ⟨i, List.mem_filter.2 ⟨List.mem_range.2 hlt, by rw [h2]; rfl⟩, by simp⟩
        omega
      unfold wpOpIn
      rw [h1]
      simp only
      rcases key with ⟨k1, k2⟩ | ⟨k1, k2⟩
      · rw [if_pos k1]; exact k2
      · rw [if_neg (by rw [k1]; simp)]; exact ⟨fun f _ => Fw_fn f, k2⟩
end
theorem drawG_sound (hE : EvOk P E) (hmix : P.follows .mixedOrders = true) {r r' : Option Nat} {ops : Array Oper} {st st' : St} {id n : Nat} (hrel : Rel ρ st a w) (hr : RoundR ρ r r') (h : drawG P E r ops st = some st') {Q : Exit → Act → World → Prop}
    (hQ : ∀ ρ' a' w', Rel ρ' st' a' w' → Fr ρ st.g w ρ' st'.g w' → Q .normal a' w') : (Code.region id ops true).wpIn (Fw r') n P Q a w := by
  unfold drawG at h
  split at h
  · rename_i tr fin ht
    obtain ⟨h1, h2, h3⟩ := andB h
    cases h3
    have hw : R ρ st.g { w with drawn := w.drawn + 1 } := hrel.hp.world fun _ => rfl
    have hrel' : Rel ρ st a { w with drawn := w.drawn + 1 } := ⟨hrel.len, hrel.ok, hrel.tm, hrel.df, hw⟩
    refine wpIn_region_any hmix (any_sound (w0 := { w with drawn := w.drawn + 1 }) hE ht h1 h2 hrel.ok hr (fun ρ' a' w' k1 k2 => hQ ρ' a' w' k1 ⟨k2.le, k2.size, k2.keep, k2.off, k2.os⟩) ops.size _ (fun _ => false) (fun _ => ⟨0, 0, 0, 0⟩) ρ a _ (by simp) ?_ (Le.refl _) ?_)
    · refine Nat.le_trans (List.length_filter_le _ _) (by simp)
    · have := Inv.start (P := P) ht h1 hrel'
      refine (by
        have e : (fun i => (Array.replicate ops.size false).getD i false) = fun _ => false := by
          funext i
          simp only [Array.getD_eq_getD_getElem?, Array.getElem?_replicate]
          split <;> rfl
        rw [e]; exact this)
  · cases h
end Go.Gd
namespace Go.Gd
open Go.Sh (SameOs isFn Fw Fw_fn Fw_depth Fw_round Fw_room callsIn_Fw NX get_lt arr_lt put_size put_defers eval_tmp)
variable {P : Program} {E : Ev} {ρ ρ' : Rho} {g g' : G} {w : World} {tm : Tr Value} {a : Act}
theorem wpIn_loop_ghost {α : Type} {F : Fence} {n : Nat} {c : Code} {Q : Exit → Act → World → Prop} {x : α} (I : α → Act → World → Prop) (μ : α → Nat) (h₀ : I x a w)
    (round : ∀ x a w, I x a w → c.wpIn F n P (Exit.then (fun a' w' => ∃ y, I y a' w' ∧ μ y < μ x) Q) a w) : (Code.loop c).wpIn F n P Q a w := by
  intro b k cs hro hb hr
  have key : ∀ j x a w, μ x = j → I x a w →
      ∃ e a' w', Q e a' w' ∧ ArrivesIn (Machine.fenced P F) P (lone (b.atR a (.code c :: .inLoop c :: k)) cs w) b k cs e a' w' := by
    intro j
    induction j using Nat.strongRecOn with
    | _ j ih =>
      intro x a w hn hI
      obtain ⟨e, a₁, w₁, hq, harr⟩ := round x a w hI b (.inLoop c :: k) cs hro hb hr
      cases e with
      | normal =>
        obtain ⟨y, hI₁, hlt⟩ := hq
        obtain ⟨e₂, a₂, w₂, hq₂, harr₂⟩ := ih (μ y) (hn ▸ hlt) y a₁ w₁ rfl hI₁
        exact ⟨e₂, a₂, w₂, hq₂, .of_steps (StepsIn.trans harr (.one (fenced_calm hb hr rfl) stepR_inLoop)) harr₂⟩
      | exit id => exact ⟨_, a₁, w₁, hq, .pass (x := .inLoop c) rfl (fun _ _ => .inl (by simp)) harr⟩
      | goto l => exact ⟨_, a₁, w₁, hq, .pass (x := .inLoop c) rfl (fun _ _ => .inl (by simp)) harr⟩
      | ret => exact ⟨_, a₁, w₁, hq, .pass (x := .inLoop c) rfl (fun _ _ => .inl (by simp)) harr⟩
      | panic ch => exact ⟨_, a₁, w₁, hq, .pass (x := .inLoop c) rfl (fun _ _ => .inl (by simp)) harr⟩
      | outgrown => exact ⟨_, a₁, w₁, hq, .pass (x := .inLoop c) rfl (fun _ _ => .inl (by simp)) harr⟩
  obtain ⟨e, a', w', hq, harr⟩ := key _ x a w rfl h₀
  exact ⟨e, a', w', hq, .of_steps (.one (fenced_calm hb hr rfl) stepR_loop) harr⟩
theorem Rel.eval {st : St} (h : Rel ρ st a w) {x : Operand} {v : Value} (hv : evG st.tm x = some v) : VR ρ v (a.eval x) := evG_look (fun t _ => h.tm t) hv
theorem loopG_sound (hE : EvOk P E) {r : Option Nat} {c : Code} {k : Nat} {st st' : St} {e : Ex} (h : loopG E r c k st = some (e, st')) : CodeOk P r (.loop c) st e st' := by
  intro ρ a w r' n hrel hr
  refine wpIn_loop_ghost (α := Nat × St × Rho) (x := (k, st, ρ)) (fun x a' w' => Rel x.2.2 x.2.1 a' w' ∧ Fr ρ st.g w x.2.2 x.2.1.g w' ∧ loopG E r c x.1 x.2.1 = some (e, st')) (fun x => x.1) ⟨hrel, Fr.refl _ _ _, h⟩ fun x a1 w1 hI => ?_
  obtain ⟨k1, st1, ρ1⟩ := x
  obtain ⟨r1, f1, h1⟩ := hI
  simp only at r1 f1 h1
  cases k1 with
  | zero => cases h1
  | succ k1 =>
    simp only [loopG] at h1
    split at h1
    · rename_i st2 h2
      refine Go.wpIn_mono (hE.code _ _ _ _ _ h2 ρ1 a1 w1 r' n r1 (hr.mono f1.le)) fun e' a2 w2 hh => ?_
      obtain ⟨rfl, ρ2, r2, f2⟩ := hh
      exact ⟨(k1, st2, ρ2), ⟨r2, f1.trans f2, h1⟩, Nat.lt_succ_self _⟩
    · rename_i hne
      refine Go.wpIn_mono (hE.code _ _ _ _ _ h1 ρ1 a1 w1 r' n r1 (hr.mono f1.le)) fun e' a2 w2 hh => ?_
      obtain ⟨rfl, ρ2, r2, f2⟩ := hh
      cases e with
      | nx => exact absurd h1 (hne _)
      | ret => exact ⟨rfl, ρ2, r2, f1.trans f2⟩
      | exit id => exact ⟨rfl, ρ2, r2, f1.trans f2⟩
/-! ## The range over a function -/
theorem tmsG_get {n j : Nat} {x : Value} (h : (tmsG tm n)[j]? = some (some x)) : tm.get j = some x := by
  unfold tmsG at h
  rw [List.getElem?_map] at h
  by_cases hj : j < n
  · rw [List.getElem?_range hj] at h; simpa using h
  · rw [List.getElem?_eq_none (by simp; omega)] at h; simp at h
/-- A loop's record is laid. -/
theorem R.newLoop {st : St} {d : Nat} {ps : List Nat} {assign body : Code} {L : Loop} {q : Pl} (hR : R ρ g w) (hq : ρ d = some q) (hlen : a.tmps.size = st.nt) (htm : ∀ t v, st.tm.get t = some v → VR ρ v (Sh.valOf a t)) (hok : ∀ t v, st.tm.get t = some v → t < st.nt)
    (h1 : L.state = .ready) (h2 : L.pending = none) (h3 : L.tmps = a.tmps) (h4 : L.params = ps.toArray) (h5 : L.assign = assign) (h6 : L.body = body) (h7 : L.defers = q.b) :
    R (ρ.put g.nx ⟨w.heap.size, 0, 1, 0⟩) (g.new (.loop .ready none (tmsG st.tm st.nt) ps assign body d)) (w.alloc (.loop L)) ∧ Fr ρ g w (ρ.put g.nx ⟨w.heap.size, 0, 1, 0⟩) (g.new (.loop .ready none (tmsG st.tm st.nt) ps assign body d)) (w.alloc (.loop L)) := by
  have hle := Rho.put_le (p := ⟨w.heap.size, 0, 1, 0⟩) (hR.fresh g.nx (Nat.le_refl _))
  refine R.new hR (alloc_old (fun _ => rfl) rfl) (by simp only [World.alloc, Array.size_push]) ⟨rfl, rfl⟩ rfl ⟨L, alloc_new rfl, h1, h2, h4, h5, h6, by rw [h3, hlen]; simp [tmsG], fun j x hj => ?_, q, hle _ _ hq, h7⟩
  have hg := tmsG_get hj
  have hlt := hok j x hg
  refine ⟨Sh.valOf a j, ?_, (htm j x hg).mono hle⟩
  rw [h3]
  simp [Sh.valOf, Array.getD_eq_getD_getElem?, show j < a.tmps.size by omega]
theorem enterG_sound {r r' : Option Nat} {st : St} {d : Nat} {g1 : G} {mark : List Deferred} {ps : Array Tmp} {assign body : Code} (hrel : Rel ρ st a w) (hr : RoundR ρ r r') (h : enterG r st.g = some (d, g1, mark)) (fn : FuncId) :
    ∃ ρ2 mark' l w2, (Instr.enterLoop fn a.tmps ps assign body (Fw r').round).run P w = .ok (l, mark') w2 ∧ ρ2 g1.nx = some ⟨l, 0, 1, 0⟩ ∧ R ρ2 (g1.new (.loop .ready none (tmsG st.tm st.nt) ps.toList assign body d)) w2 ∧
      Fr ρ st.g w ρ2 (g1.new (.loop .ready none (tmsG st.tm st.nt) ps.toList assign body d)) w2 ∧ DRs ρ2 mark mark' := by
  rw [Fw_round]
  cases r with
  | none =>
    cases r' with
    | some _ => exact hr.elim
    | none =>
      cases h
      have hR0 := hrel.hp
      obtain ⟨q1, q2⟩ := R.new (o := .dfr true) (p := ⟨w.heap.size, 0, 1, 0⟩) (w' := w.alloc (.deferred (some []))) hR0 (alloc_old (fun _ => rfl) rfl) (by simp only [World.alloc, Array.size_push]) ⟨rfl, rfl⟩ rfl (show (w.alloc (.deferred (some []))).heap[w.heap.size]? = some _ from alloc_new rfl)
      obtain ⟨q3, q4⟩ := R.newLoop (a := a) (st := st) (d := st.g.nx) (ps := ps.toList) (assign := assign) (body := body) (q := ⟨w.heap.size, 0, 1, 0⟩) (L := { state := .ready, pending := none, fn, tmps := a.tmps, params := ps, assign, body, defers := w.heap.size })
        q1 Rho.put_self hrel.len (fun t v hv => (hrel.tm t v hv).mono q2.le) hrel.ok rfl rfl rfl (by simp) rfl rfl rfl
      refine ⟨_, _, _, _, run_enterLoop_outer fn a.tmps ps assign body, ?_, q3, q2.trans q4, .cons (.mark (p := ⟨w.heap.size, 0, 1, 0⟩) (q4.le _ _ Rho.put_self)) .nil⟩
      have : (w.alloc (.deferred (some []))).heap.size = w.heap.size + 1 := by simp only [World.alloc, Array.size_push]
      rw [← this]; exact Rho.put_self
  | some l0 =>
    cases r' with
    | none => exact hr.elim
    | some b0 =>
      obtain ⟨p0, hp0, rfl⟩ := hr
      simp only [enterG] at h
      split at h
      · rename_i s0 pe0 t0 ps0 as0 bo0 d0 hg
        cases h
        obtain ⟨p', e1, L0, f1, f2, f3, f4, f5, f6, f7, f8, q, f9, f10⟩ := hrel.hp.ob _ _ hg
        rw [hp0] at e1; cases e1
        obtain ⟨q3, q4⟩ := R.newLoop (a := a) (st := st) (d := d) (ps := ps.toList) (assign := assign) (body := body) (q := q) (L := { state := .ready, pending := none, fn, tmps := a.tmps, params := ps, assign, body, defers := L0.defers })
          hrel.hp f9 hrel.len hrel.tm hrel.ok rfl rfl rfl (by simp) rfl rfl f10
        exact ⟨_, _, _, _, run_enterLoop_inner f1 fn a.tmps ps assign body, Rho.put_self, q3, q4, .nil⟩
      · cases h
/-- A loop's record is turned. -/
theorem R.loop {i d : Nat} {s s' : LoopState} {pe pe' : Option Code} {t : List (Option Value)} {ps : List Nat} {as bo : Code} {p : Pl} (hR : R ρ g w) (hg : g.get i = some (.loop s pe t ps as bo d)) (hp : ρ i = some p) :
    ∃ L : Loop, w.heap[p.b]? = some (.loop L) ∧ L.state = s ∧ L.pending = pe ∧ L.params = ps.toArray ∧ L.assign = as ∧ L.body = bo ∧ L.tmps.size = t.length ∧ (∀ (j : Nat) (x : Value), t[j]? = some (some x) → ∃ y, L.tmps[j]? = some y ∧ VR ρ x y) ∧
      R ρ (g.set i (.loop s' pe' t ps as bo d)) (w.putObj p.b (.loop { L with state := s', pending := pe' })) ∧ Fr ρ g w ρ (g.set i (.loop s' pe' t ps as bo d)) (w.putObj p.b (.loop { L with state := s', pending := pe' })) := by
  obtain ⟨p', e1, L, f1, f2, f3, f4, f5, f6, f7, f8, q, f9, f10⟩ := hR.ob _ _ hg
  rw [hp] at e1; cases e1
  have hlt : p.b < w.heap.size := arr_lt f1
  obtain ⟨r1, r2⟩ := R.turn (o' := .loop s' pe' t ps as bo d) (b := .loop { L with state := s', pending := pe' }) hR hg hp rfl rfl rfl ⟨_, World.putObj_heap_same hlt, rfl, rfl, f4, f5, f6, f7, f8, q, f9, f10⟩
  exact ⟨L, f1, f2, f3, f4, f5, f6, f7, f8, r1, r2⟩
theorem exOf_sound {pe : Option Code} {e : Ex} (h : exOf pe = some e) : (pe = none ∧ e = .nx) ∨ (pe = some .ret ∧ e = .ret) ∨ ∃ id, pe = some (.exit id) ∧ e = .exit id := by
  unfold exOf at h
  split at h <;> cases h
  · exact .inl ⟨rfl, rfl⟩
  · exact .inr (.inl ⟨rfl, rfl⟩)
  · exact .inr (.inr ⟨_, rfl, rfl⟩)
theorem rangeG_sound (hE : EvOk P E) {r : Option Nat} {f : Operand} {ps : Array Tmp} {assign body : Code} {st st' : St} {e : Ex} (h : rangeG P E r f ps assign body st = some (e, st')) : CodeOk P r (.rangeFunc f ps assign body) st e st' := by
  intro ρ a w r' n hrel hr
  unfold rangeG at h
  split at h
  · rename_i f0 xs ys d g1 mark hf hen
    obtain ⟨hfn, h⟩ := bifT h
    split at h
    · rename_i v2 g2 hcall
      split at h
      · rename_i state pending t p as bo d' hg2
        cases hb : busyB state with
        | true => rw [hb] at h; cases h
        | false =>
          rw [hb] at h
          simp only [cond, Option.map_eq_some_iff] at h
          obtain ⟨e0, he, h⟩ := h
          cases h
          obtain ⟨xs', ys', hev, hx, hy⟩ := (hrel.eval hf).func_inv rfl
          refine wpIn_rangeFunc fun fn _ => ?_
          obtain ⟨ρ2, mark', l, w2, k1, k2, k3, k4, k5⟩ := enterG_sound (P := P) (ps := ps) (assign := assign) (body := body) hrel hr hen fn
          have hargs : VRs ρ2 (xs ++ ([.func (.yield g1.nx) #[] #[]] ++ ys)) (xs' ++ ([.func (.yield l) #[] #[]] ++ ys')) :=
            (hx.mono k4.le).append (VRs.append (.cons (.yield (p := ⟨l, 0, 1, 0⟩) k2) .nil) (hy.mono k4.le))
          have hcalls := hE.call _ _ _ _ _ hcall ρ2 w2 _ hargs k3
          have hdep : (Fw r').depth.isSome = true → 1 ≤ n := fun h => by rw [Fw_depth] at h; cases h
          refine ⟨l, mark', w2, { target := .fn (.func f0) ⟨ys'⟩, args := ⟨xs' ++ [.func (.yield l) #[] #[]]⟩ }, w2, f0, (xs' ++ ([Value.func (.yield l) #[] #[]] ++ ys')).toArray, w2, k1, ?_, ?_, ?_, hdep, ?_⟩
          · have e1 : (⟨xs'⟩ : Array Value) ++ (#[Operand.const (.func (.yield l) #[] #[])].map a.eval) = ⟨xs' ++ [.func (.yield l) #[] #[]]⟩ := by
              apply Array.ext'
              simp
              rfl
            simp only [resolve, hev, Deferred.ofValue, Sem.run_pure, e1]
          · exact fun f' _ => Fw_fn f'
          · have e1 : (⟨xs' ++ [.func (.yield l) #[] #[]]⟩ : Array Value) ++ ⟨ys'⟩ = (xs' ++ ([Value.func (.yield l) #[] #[]] ++ ys')).toArray := by
              apply Array.ext'
              simp
            simp only [invoke, e1, callFunc_run hfn]
          · refine callsIn_Fw (hcalls.mono fun e' w3 hh => ?_)
            obtain ⟨ρ3, y, rfl, h2, h3, h4⟩ := hh
            have hp3 := h4.le _ _ k2
            obtain ⟨L, f1, f2, f3, f4, f5, f6, f7, f8, r1, r2⟩ := R.loop (s' := .exhausted) (pe' := pending) h3 hg2 hp3
            have hnb : L.state ≠ .busy := fun e => by rw [f2] at e; rw [e] at hb; cases hb
            have hL : ({ L with state := .exhausted, pending := pending } : Loop) = { L with state := .exhausted } := by rw [← f3]
            rw [hL] at r1 r2
            refine ⟨pending, w3.putObj l (.loop { L with state := .exhausted }), (run_endLoop f1 hnb).trans (by rw [f3]), ?_⟩
            have hfr : Fr ρ st.g w ρ3 _ _ := (k4.trans h4).trans r2
            have hrel3 : Rel ρ3 { st with g := g2.set g1.nx (.loop .exhausted pending t p as bo d'), df := mark ++ st.df } { a with defers := mark' ++ a.defers } _ :=
              ⟨hrel.len, hrel.ok, fun t v hv => (hrel.tm t v hv).mono hfr.le, (k5.mono h4.le).append (hrel.df.mono hfr.le), r1⟩
            rcases exOf_sound he with ⟨rfl, rfl⟩ | ⟨rfl, rfl⟩ | ⟨id, rfl, rfl⟩
            · exact ⟨rfl, ρ3, hrel3, hfr⟩
            · exact wpIn_ret ⟨rfl, ρ3, hrel3, hfr⟩
            · exact wpIn_exit ⟨rfl, ρ3, hrel3, hfr⟩
      · cases h
    · cases h
  · cases h
end Go.Gd
namespace Go.Gd
open Go.Sh (SameOs isFn Fw Fw_fn Fw_depth Fw_round Fw_room callsIn_Fw NX get_lt arr_lt put_size put_defers eval_tmp)
variable {P : Program} {E : Ev} {ρ ρ' : Rho} {g g' : G} {w : World} {tm : Tr Value} {a : Act}
theorem putPs_sound : ∀ (ps : List Nat) (vs ys : List Value) (n : Nat) (t t' : Tr Value) (tmps : Array Value), VRs ρ vs ys → putPs ps vs n t = some t' → tmps.size = n → (∀ k v, t.get k = some v → k < n ∧ VR ρ v (tmps.getD k undef)) →
    ps.length = ys.length ∧ ((ps.zip ys).foldl (fun tm p => tm.setIfInBounds p.1 p.2) tmps).size = n ∧ ∀ k v, t'.get k = some v → k < n ∧ VR ρ v (((ps.zip ys).foldl (fun tm p => tm.setIfInBounds p.1 p.2) tmps).getD k undef)
  | [], vs, ys, n, t, t', tmps, hv, h, hs, ht => by
    cases vs with
    | nil => cases hv; cases h; exact ⟨rfl, hs, ht⟩
    | cons v vs => cases h
  | p :: ps, vs, ys, n, t, t', tmps, hv, h, hs, ht => by
    cases vs with
    | nil => cases h
    | cons v vs =>
      cases hv with
      | cons h1 h2 =>
        rename_i y ys
        simp only [putPs] at h
        obtain ⟨c1, h⟩ := bifT h
        rw [Nat.blt_eq] at c1
        obtain ⟨k1, k2, k3⟩ := putPs_sound ps vs ys n _ t' (tmps.setIfInBounds p y) h2 h (by simpa using hs) (fun k u hk => by
          rcases Tr.get_upd hk with ⟨rfl, e⟩ | ⟨hne, hk⟩
          · cases e
            refine ⟨c1, ?_⟩
            simp only [Array.getD_eq_getD_getElem?, Array.getElem?_setIfInBounds_self_of_lt (show k < tmps.size by omega), Option.getD_some]
            exact h1
          · obtain ⟨e1, e2⟩ := ht k u hk
            refine ⟨e1, ?_⟩
            simp only [Array.getD_eq_getD_getElem?, Array.getElem?_setIfInBounds_ne (Ne.symm hne)] at e2 ⊢
            exact e2)
        exact ⟨by simp [k1], k2, k3⟩
theorem initO_get : ∀ (vs : List (Option Value)) (i : Nat) (t : Tr Value) (k : Nat) (v : Value), (initO.go vs i t).get k = some v → (∃ j, k = i + j ∧ vs[j]? = some (some v)) ∨ t.get k = some v
  | [], i, t, k, v, h => .inr h
  | some u :: vs, i, t, k, v, h => by
    rcases initO_get vs (i + 1) _ k v h with ⟨j, h1, h2⟩ | h
    · exact .inl ⟨j + 1, by omega, by simpa using h2⟩
    · rcases Tr.get_upd h with ⟨rfl, e⟩ | ⟨-, h⟩
      · cases e; exact .inl ⟨0, rfl, rfl⟩
      · exact .inr h
  | none :: vs, i, t, k, v, h => by
    rcases initO_get vs (i + 1) _ k v h with ⟨j, h1, h2⟩ | h
    · exact .inl ⟨j + 1, by omega, by simpa using h2⟩
    · exact .inr h
theorem initG_get : ∀ (vs : List Value) (i : Nat) (t : Tr Value) (k : Nat) (v : Value), (initG.go vs i t).get k = some v → (∃ j, k = i + j ∧ vs[j]? = some v) ∨ t.get k = some v
  | [], i, t, k, v, h => .inr h
  | u :: vs, i, t, k, v, h => by
    rcases initG_get vs (i + 1) _ k v h with ⟨j, h1, h2⟩ | h
    · exact .inl ⟨j + 1, by omega, by simpa using h2⟩
    · rcases Tr.get_upd h with ⟨rfl, e⟩ | ⟨-, h⟩
      · cases e; exact .inl ⟨0, rfl, rfl⟩
      · exact .inr h
theorem jumpG_exit (e : Ex) {n : Nat} {R : Ending → World → Prop} {l : Nat} {a : Act} {w w' : World} (h : (Instr.endRound l (jumpG e)).run P w = .ok (.bool (jumpG e).isNone) w') (hR : R (.returned (.bool (jumpG e).isNone)) w') : roundPost P l R (exitOf e) a w := by
  cases e with
  | nx => exact ⟨_, _, h, hR⟩
  | ret => exact ⟨_, _, h, hR⟩
  | exit id => exact ⟨_, _, h, hR⟩
theorem roundG_sound (hE : EvOk P E) {l : Nat} {vs : List Value} {v : Value} (h : roundG E l vs g = some (v, g')) : RoundOk P l vs g v g' := by
  intro ρ w ys p hv hR hp
  unfold roundG at h
  split at h
  · rename_i pe0 tms ps assign body d0 hg
    split at h
    · rename_i tm htm
      split at h
      · rename_i st1 hc1
        split at h
        · rename_i pe1 t1 p1 as1 bs1 d1 hg1
          split at h
          · rename_i e st2 hc2
            split at h
            · rename_i s3 pe3 t3 q3 a3 b3 d3 hg3
              cases h
              obtain ⟨p', e1, L, f1, f2, f3, f4, f5, f6, f7, f8, q, f9, f10⟩ := hR.ob _ _ hg
              rw [hp] at e1; cases e1
              obtain ⟨m1, m2, m3⟩ := putPs_sound (ρ := ρ) ps vs ys tms.length (initO tms) tm L.tmps hv htm f7 (fun k u hk => by
                rcases initO_get tms 0 .e k u hk with ⟨j, rfl, hj⟩ | hk
                · rw [Nat.zero_add]
                  obtain ⟨y, y1, y2⟩ := f8 j u hj
                  refine ⟨get_lt hj, ?_⟩
                  simp only [Array.getD_eq_getD_getElem?, y1, Option.getD_some]
                  exact y2
                · rw [Tr.get_e] at hk; cases hk)
              have hfold : ((L.params.zip ys.toArray).foldl (fun tmps (p : Nat × Value) => tmps.setIfInBounds p.1 p.2) L.tmps) = (ps.zip ys).foldl (fun tm p => tm.setIfInBounds p.1 p.2) L.tmps := by
                rw [← Array.foldl_toList, Array.toList_zip, f4]
              refine ⟨L.fn, _, L.assign, L.body, run_yield f1 (by rw [f4]; simpa using m1.symm), fun n => ?_⟩
              show RoundIn Fence.wide n P p.b L.fn ((L.params.zip ys.toArray).foldl (fun tmps (p : Nat × Value) => tmps.setIfInBounds p.1 p.2) L.tmps) L.assign L.body w _
              rw [hfold, f5, f6]
              have hrel : Rel ρ ⟨tm, tms.length, g, []⟩ { tmps := (ps.zip ys).foldl (fun tm p => tm.setIfInBounds p.1 p.2) L.tmps, defers := [] } w :=
                ⟨m2, fun t u hu => (m3 t u hu).1, fun t u hu => (m3 t u hu).2, .nil, hR⟩
              have hrr : RoundR ρ (some l) (some p.b) := ⟨p, hp, rfl⟩
              refine roundIn_of_wpIn trivial (Go.wpIn_mono (F := Fence.wide.inRound p.b) (hE.code _ _ _ _ _ hc1 ρ _ w (some p.b) n hrel hrr) fun e' a1 w1 hh => ?_)
              obtain ⟨rfl, ρ1, r1, k1⟩ := hh
              obtain ⟨L1, u1, u2, u3, u4, u5, u6, u7, u8, u9, u10⟩ := R.loop (s' := .busy) (pe' := pe1) r1.hp hg1 (k1.le _ _ hp)
              have hbusy : ({ L1 with state := .busy, pending := pe1 } : Loop) = { L1 with state := .busy } := by rw [← u3]
              rw [hbusy] at u9 u10
              refine ⟨_, run_beginRound u1 u2, ?_⟩
              have r2 : Rel ρ1 { st1 with g := st1.g.set l (.loop .busy pe1 t1 p1 as1 bs1 d1) } a1 _ := ⟨r1.len, r1.ok, r1.tm, r1.df, u9⟩
              refine Go.wpIn_mono (F := Fence.wide.inRound p.b) (hE.code _ _ _ _ _ hc2 ρ1 a1 _ (some p.b) n r2 (hrr.mono k1.le)) fun e' a2 w2 hh => ?_
              obtain ⟨rfl, ρ2, r3, k2⟩ := hh
              have hp2 := k2.le _ _ (k1.le _ _ hp)
              obtain ⟨L3, v1, v2, v3, v4, v5, v6, v7, v8, v9, v10⟩ := R.loop (s' := if (jumpG e).isNone then .ready else .done) (pe' := jumpG e) r3.hp hg3 hp2
              exact jumpG_exit (n := n) e (run_endRound (jumpG e) v1) ⟨ρ2, _, rfl, .atom rfl, v9, ((k1.trans u10).trans k2).trans v10⟩
            · cases h
          · cases h
        · cases h
      · cases h
    · cases h
  · cases h
/-! ## Calls -/
theorem startG_sound {fn : Func} {vs ys : List Value} {st : St} (hv : VRs ρ vs ys) (hR : R ρ g w) (h : startG fn vs g = some st) : Rel ρ st { tmps := ys.toArray ++ Array.replicate (fn.ntmps - ys.toArray.size) undef, defers := [] } w ∧ st.g = g := by
  unfold startG at h
  obtain ⟨h1, h⟩ := bifT h
  have h1 := Nat.le_of_ble_eq_true h1
  cases h
  have hl := hv.len
  have key : ∀ t u, (initG vs).get t = some u → vs[t]? = some u := fun t u hu => by
    rcases initG_get vs 0 .e t u hu with ⟨j, rfl, hj⟩ | hk
    · rw [Nat.zero_add]; exact hj
    · rw [Tr.get_e] at hk; cases hk
  refine ⟨⟨?_, fun t u hu => ?_, fun t u hu => ?_, .nil, hR⟩, rfl⟩
  · simp; omega
  · have := get_lt (key t u hu); show t < fn.ntmps; omega
  · obtain ⟨y, y1, y2⟩ := hv.get (key t u hu)
    have hlt := get_lt y1
    have : Sh.valOf { tmps := ys.toArray ++ Array.replicate (fn.ntmps - ys.toArray.size) undef, defers := [] } t = y := by
      simp only [Sh.valOf, Array.getD_eq_getD_getElem?]
      rw [Array.getElem?_append_left (by simpa using hlt), List.getElem?_toArray, y1]
      rfl
    rw [this]; exact y2
theorem ressG_sound {st : St} (hrel : ∀ t v, tm.get t = some v → VR ρ v (Sh.valOf a t)) (hR : R ρ g w) : ∀ {rs : List ResultVar} {vs : List Value}, ressG P tm g rs = some vs → vs.length = rs.length ∧ ∃ ys : List Value, VRs ρ vs ys ∧ ∀ (j : Nat) (rv : ResultVar), rs[j]? = some rv → ∃ v, ys[j]? = some v ∧ (Sh.resSem a.tmps rv).run P w = .ok v w
  | [], vs, h => by cases h; exact ⟨rfl, [], .nil, fun j rv h => by simp at h⟩
  | r :: rs, vs, h => by
    simp only [ressG] at h
    split at h
    · rename_i v vs' h1 h2
      cases h
      obtain ⟨hl, ys, k1, k2⟩ := ressG_sound (st := st) hrel hR h2
      have : ∃ y, VR ρ v y ∧ (Sh.resSem a.tmps r).run P w = .ok y w := by
        cases r with
        | tmp t => exact ⟨_, hrel t v h1, rfl⟩
        | cell x T =>
          simp only [resG] at h1
          split at h1
          · rename_i u hu
            obtain ⟨z, z1, z2⟩ := loadG_sound (P := P) hR (hrel x u hu) h1
            refine ⟨z, z2, ?_⟩
            have hx := hrel x u hu
            unfold loadG at h1
            split at h1
            · obtain ⟨p, hp, e⟩ := hx.ptr_inv
              have e' : a.tmps.getD x undef = .pointer (some ⟨p.b, p.o + _, none⟩) := e
              rw [e] at z1
              simp only [Sh.resSem, e', asAddr, Sem.run_bind, Sem.run_pure, Result.andThen_ok]
              simpa [Instr.loadAt, Instr.sureAddr] using z1
            · cases h1
          · cases h1
      obtain ⟨y, y1, y2⟩ := this
      refine ⟨by simp [hl], y :: ys, .cons y1 k1, fun j rv hj => ?_⟩
      cases j with
      | zero => simp at hj; subst hj; exact ⟨y, rfl, y2⟩
      | succ j => simp at hj; simpa using k2 j rv hj
    · cases h
theorem results_sound {fn : Func} {st : St} {rs : List Value} (hrel : ∀ t v, tm.get t = some v → VR ρ v (Sh.valOf a t)) (hR : R ρ g w) (h : ressG P tm g fn.results.toList = some rs) : ∃ y, (results fn a.tmps).run P w = .ok y w ∧ VR ρ (tupG rs) y := by
  obtain ⟨hl, ys, k1, k2⟩ := ressG_sound (st := st) hrel hR h
  have hl2 := k1.len
  have hrun := Sh.results_run (P := P) (fn := fn) (tm := a.tmps) (w := w) (vs := ys) (by rw [← hl2, hl]; simp) (fun j rv hj => k2 j rv (by simpa using hj))
  refine ⟨_, hrun, ?_⟩
  cases k1 with
  | nil => exact .tuple .nil
  | cons h1 hs =>
    cases hs with
    | nil => exact h1
    | cons h2 hs =>
      rw [dif_neg (by simp)]
      exact .tuple (.cons h1 (.cons h2 hs))
theorem leaveG_sound (hE : EvOk P E) {fn : Func} {tmps : Array Value} {n : Nat} {Q : Ending → World → Prop} : ∀ (ds : List Deferred) (ds' : List Deferred) (g g' : G) (ρ : Rho) (w : World), DRs ρ ds ds' → R ρ g w → leaveG P E ds g = some g' →
    (∀ ρ' w', R ρ' g' w' → Fr ρ g w ρ' g' w' → ∃ v, (results fn tmps).run P w' = .ok v w' ∧ Q (.returned v) w') → LeavesInM Fence.wide n P fn tmps Q ds' .returning w
  | [], ds', g, g', ρ, w, hd, hR, h, hQ => by
    cases hd; cases h
    exact hQ ρ w hR (Fr.refl _ _ _)
  | d :: ds, ds', g, g', ρ, w, hd, hR, h, hQ => by
    cases hd with
    | cons h1 h2 =>
      cases h1 with
      | mark hp =>
        rename_i i p
        simp only [leaveG] at h
        split at h
        · rename_i hg
          obtain ⟨p', e1, e2⟩ := hR.ob _ _ hg
          rw [hp] at e1; cases e1
          have e2 : w.heap[p.b]? = some (.deferred (some [])) := e2
          obtain ⟨r1, r2⟩ := R.turn (o' := .dfr false) (b := .deferred none) hR hg hp rfl rfl rfl (World.putObj_heap_same (arr_lt e2))
          refine ⟨by simp, .inl ⟨p.b, _, rfl, run_takeDeferred e2, leaveG_sound hE ds _ _ g' ρ _ h2 r1 h fun ρ' w' a b => hQ ρ' w' a (r2.trans b)⟩⟩
        · cases h
      | fn hc ha =>
        rename_i f cs cs' as as'
        simp only [leaveG] at h
        obtain ⟨hi, h⟩ := bifT h
        split at h
        · rename_i g1 hg1
          refine ⟨by simp, .inr ⟨fun h => by simp [Fence.wide] at h, .func f, ⟨cs'⟩, f, (as' ++ cs').toArray, rfl, ?_, fun _ _ => trivial, ?_⟩⟩
          · have e : (⟨as'⟩ : Array Value) ++ ⟨cs'⟩ = (as' ++ cs').toArray := by apply Array.ext'; simp
            simp only [invoke, e, callFunc_run hi]
          · refine CallsDIn.mono (hE.dcall _ _ _ _ hg1 ρ w (as' ++ cs') _ (ha.append hc) hR) fun e u' w' hh => ?_
            obtain ⟨⟨y, rfl⟩, rfl, ρ', r1, r2⟩ := hh
            exact leaveG_sound hE ds _ g1 g' ρ' w' (h2.mono r2.le) r1 h fun ρ2 w2 a b => hQ ρ2 w2 a (r2.trans b)
        · cases h
theorem endB_exit {e : Ex} (h : endB e = true) : exitOf e = .normal ∨ exitOf e = .ret := by
  cases e <;> simp [endB] at h
  · exact .inl rfl
  · exact .inr rfl
theorem callG_sound (hE : EvOk P E) {f : FuncId} {vs : List Value} {v : Value} (h : callG P E f vs g = some (v, g')) : CallOk P f vs g v g' := by
  intro ρ w ys hv hR
  unfold callG at h
  split at h
  · rename_i fn hfn
    split at h
    · rename_i c st0 hb hst
      split at h
      · rename_i e st hc
        obtain ⟨hend, h⟩ := bifT h
        split at h
        · rename_i g1 hl
          split at h
          · rename_i rs hrs
            cases h
            obtain ⟨hrel, hg0⟩ := startG_sound hv hR hst
            refine callsIn_wide (n := 0).1 (callsIn_of_wp_marks hfn hb trivial (Go.wpIn_mono (hE.code _ _ _ _ _ hc ρ _ w none 0 hrel trivial) fun e' a' w' hh => ?_))
            obtain ⟨rfl, ρ1, r1, k1⟩ := hh
            rw [hg0] at k1
            have key : LeavesInM Fence.wide 0 P fn a'.tmps (Post ρ g w (tupG rs) g') a'.defers .returning w' := leaveG_sound hE _ _ _ _ ρ1 w' r1.df r1.hp hl fun ρ2 w2 r2 k2 => by
              obtain ⟨y, y1, y2⟩ := results_sound (st := st) (fun t v hv => (r1.tm t v hv).mono k2.le) r2 hrs
              exact ⟨y, y1, ρ2, y, rfl, y2, r2, k1.trans k2⟩
            rcases endB_exit hend with e1 | e1 <;> rw [e1] <;> exact key
          · cases h
        · cases h
      · cases h
    · cases h
  · cases h
theorem plainG_sound : ∀ {ops : Array Oper} (l : List Oper) (k : Nat) (st st' : St) (ρ : Rho) (a : Act) (w : World) (cs : List Frame) (n : Nat) (Q : Exit → Act → List Frame → World → Prop), (∀ j, l[j]? = ops[k + j]?) → Rel ρ st a w → plainG P ops l st = some st' →
    (∀ ρ' a' w', Rel ρ' st' a' w' → Fr ρ st.g w ρ' st'.g w' → Q .normal a' cs w') → wpOpsSIn Fence.wide n P ops Q (List.range' k l.length) a cs w
  | ops, [], k, st, st', ρ, a, w, cs, n, Q, hl, hrel, h, hQ => by cases h; exact hQ ρ a w hrel (Fr.refl _ _ _)
  | ops, o :: l, k, st, st', ρ, a, w, cs, n, Q, hl, hrel, h, hQ => by
    have ho : ops[k]? = some o := by have := hl 0; simpa using this.symm
    have hl' : ∀ j, l[j]? = ops[k + 1 + j]? := fun j => by have := hl (j + 1); rw [List.getElem?_cons_succ] at this; rw [this]; congr 1; omega
    simp only [plainG] at h
    rw [List.length_cons, List.range'_succ]
    unfold wpOpsSIn
    rw [ho]
    refine ⟨fun _ _ => trivial, ?_⟩
    split at h
    · rename_i hw
      rw [if_pos (wantG_sound (hrel.look _) hrel.lt hw)]
      split at h
      · rename_i v g1 hop
        split at h
        · rename_i st1 hp
          obtain ⟨ρ1, y, w1, e1, e2, e3, e4⟩ := opG_sound (hrel.look (o.looksAt ops)).ev hrel.hp hop
          have hp' : ({ st with g := g1, df := st.df } : St).put o.dst v = some st1 := hp
          have r1 : Rel ρ1 st1 (a.put o.dst y) w1 := hrel.putG e4.le e3 e2 (hrel.df.mono e4.le) hp'
          have hg : st1.g = g1 := (St.put_some hp').2.1
          have next := plainG_sound l (k + 1) st1 st' ρ1 _ w1 cs n Q hl' r1 h fun ρ2 a2 w2 q1 q2 => hQ ρ2 a2 w2 q1 (Fr.trans (by rw [hg]; exact e4) q2)
          rcases e1 with e1 | ⟨e1, rfl⟩
          · rw [e1]; exact next
          · rw [e1]; exact next
        · cases h
      · cases h
    · rename_i hw
      rw [if_neg (by rw [wantG_sound (hrel.look _) hrel.lt hw]; simp)]
      split at h
      · rename_i st1 hp
        have hp' : ({ st with g := st.g, df := st.df } : St).put o.dst undefV = some st1 := hp
        have r1 : Rel ρ st1 (a.put o.dst undef) w := hrel.putG (Le.refl _) hrel.hp (.tuple .nil) hrel.df hp'
        have hg : st1.g = st.g := (St.put_some hp').2.1
        exact plainG_sound l (k + 1) st1 st' ρ _ w cs n Q hl' r1 h fun ρ2 a2 w2 q1 q2 => hQ ρ2 a2 w2 q1 (by rw [← hg]; exact q2)
      · cases h
    · cases h
theorem recG_inv {c c' : Code} {ops : Array Oper} {o : Oper} {rest : List Oper} (h : recG c = some (ops, o, rest, c')) : ∃ id c0, c = .seq (.region id ops false) c' ∧ ops.toList = o :: rest ∧ o.op = .call c0 ∧ o.guard = none ∧ c0.callee = .builtin .recover := by
  unfold recG at h
  split at h
  · rename_i id ops' c''
    split at h
    · rename_i o' rest' hl
      split at h
      · rename_i c0 h1 h2
        split at h
        · rename_i h3
          cases h
          exact ⟨id, c0, rfl, hl, h1, h2, h3⟩
        · cases h
      · cases h
    · cases h
  · cases h
theorem dcallG_sound (hE : EvOk P E) {f : FuncId} {vs : List Value} (h : dcallG P E f vs g = some g') : DcallOk P f vs g g' := by
  intro ρ w ys n hv hR
  unfold dcallG at h
  split at h
  · rename_i fn hfn
    split at h
    · rename_i c st0 hb hst
      have hres := (bifT h).1
      replace h := (bifT h).2
      obtain ⟨hrel, hg0⟩ := startG_sound hv hR hst
      have hresr : ∀ tm w, (results fn tm).run P w = .ok (.tuple #[]) w := fun tm w => by
        have he : fn.results = #[] := by simpa using hres
        have := Sh.results_run (P := P) (fn := fn) (tm := tm) (w := w) (vs := []) (by rw [he]; rfl) (fun j rv hj => by rw [he] at hj; simp at hj)
        simpa using this
      -- how it ends
      have fin : ∀ {e : Ex} {st1 st : St} {ρ1 : Rho} {a1 : Act} {w1 : World}, (bif endB e && st.df.isEmpty then some st.g else none) = some g' → Rel ρ1 st a1 w1 → Fr ρ g w ρ1 st.g w1 →
          (exitOf e = .normal ∨ exitOf e = .ret) ∧ a1.defers = [] ∧ R ρ1 g' w1 ∧ Fr ρ g w ρ1 g' w1 := fun {e st1 st ρ1 a1 w1} h r k => by
        obtain ⟨c1, c2, h⟩ := andB h
        cases h
        have hd := r.df
        have : st.df = [] := by simpa using c2
        rw [this] at hd
        refine ⟨endB_exit c1, ?_, r.hp, k⟩
        cases hdf : a1.defers with
        | nil => rfl
        | cons x y => rw [hdf] at hd; cases hd
      split at h
      · rename_i ops o rest c' hrec
        obtain ⟨id, c0, rfl, hl, h1, h2, h3⟩ := recG_inv hrec
        split at h
        · rename_i st1 hp1
          split at h
          · rename_i st2 hp2
            split at h
            · rename_i e st hc
              have hp1' : ({ st0 with g := st0.g, df := st0.df } : St).put o.dst .nilIface = some st1 := hp1
              have r1 := hrel.putG (ρ' := ρ) (y := .nilIface) (Le.refl _) hrel.hp (.atom rfl) hrel.df hp1'
              have hg1 : st1.g = g := (St.put_some hp1').2.1.trans hg0
              refine callsDIn_of_wpSIn hfn hb trivial fun c₀ cs hm => ?_
              refine wpSIn_seq (wpSIn_region ?_)
              have hsz : ops.size = rest.length + 1 := by have := congrArg List.length hl; simpa using this
              have hidx : ∀ j, (o :: rest)[j]? = ops[0 + j]? := fun j => by rw [Nat.zero_add, ← hl]; simp
              rw [hsz, List.range_eq_range', List.range'_succ]
              have ho : ops[0]? = some o := by have := hidx 0; simpa using this.symm
              unfold wpOpsSIn
              rw [ho]
              refine ⟨fun _ _ => trivial, ?_⟩
              have hw : ∀ y, Region.wanted o y = true := fun y => by unfold Region.wanted; rw [h2]
              rw [if_pos (hw _)]
              have hex : (execOp ({ tmps := ys.toArray ++ Array.replicate (fn.ntmps - ys.toArray.size) undef, defers := [] } : Act).eval o).run P w = .ok .recover w := by
                unfold execOp
                rw [h1]
                simp only [resolve, h3, Sem.run_bind, Sem.run_pure, Result.andThen_ok, invoke, builtin]
              rw [hex]
              have hrec0 : recoverD (c₀ :: cs) = none := by simp [recoverD, hm]
              rw [hrec0]
              refine plainG_sound rest 1 st1 st2 ρ _ w (c₀ :: cs) n _ (fun j => by have := hidx (j + 1); rw [List.getElem?_cons_succ] at this; rw [this]; congr 1; omega) r1 hp2 fun ρ2 a2 w2 q1 q2 => ?_
              refine wpSIn_of_wpIn rfl (Go.wpIn_mono (hE.code _ _ _ _ _ hc ρ2 a2 w2 none n q1 trivial) fun e' a3 w3 hh => ?_)
              obtain ⟨rfl, ρ3, r3, k3⟩ := hh
              obtain ⟨z1, z2, z3, z4⟩ := fin (st1 := st) h r3 ((show Fr ρ g w ρ2 st2.g w2 by rw [hg1] at q2; exact q2).trans k3)
              have hc0 : (c₀ :: cs) = { c₀ with mode := .returning } :: cs := by rw [← hm]
              have key : a3.defers = [] ∧ ∃ u', (c₀ :: cs) = { c₀ with mode := u' } :: cs ∧ ∃ v, (results fn a3.tmps).run P w3 = .ok v w3 ∧ ((∃ y, Ending.returned v = .returned y) ∧ u' = .returning ∧ ∃ ρ', R ρ' g' w3 ∧ Fr ρ g w ρ' g' w3) :=
                ⟨z2, .returning, hc0, _, hresr _ _, ⟨_, rfl⟩, rfl, ρ3, z3, z4⟩
              rcases z1 with z1 | z1 <;> rw [z1] <;> exact key
            · cases h
          · cases h
        · cases h
      · split at h
        · rename_i e st hc
          refine CallsDIn.mono (callsDIn_of_wp (R := fun e w' => (∃ y, e = .returned y) ∧ ∃ ρ', R ρ' g' w' ∧ Fr ρ g w ρ' g' w') hfn hb trivial (Go.wpIn_mono (hE.code _ _ _ _ _ hc ρ _ w none n hrel trivial) fun e' a1 w1 hh => ?_)) fun e u' w' hh => ⟨hh.2.1, hh.1, hh.2.2⟩
          obtain ⟨rfl, ρ1, r1, k1⟩ := hh
          rw [hg0] at k1
          obtain ⟨z1, z2, z3, z4⟩ := fin (st1 := st) h r1 k1
          have key : a1.defers = [] ∧ ∃ v, (results fn a1.tmps).run P w1 = .ok v w1 ∧ ((∃ y, Ending.returned v = .returned y) ∧ ∃ ρ', R ρ' g' w1 ∧ Fr ρ g w ρ' g' w1) := ⟨z2, _, hresr _ _, ⟨_, rfl⟩, ρ1, z3, z4⟩
          rcases z1 with z1 | z1 <;> rw [z1] <;> exact key
        · cases h
    · cases h
  · cases h
theorem codeG_sound (hE : EvOk P E) (hmix : P.follows .mixedOrders = true) {r : Option Nat} {c : Code} {st st' : St} {e : Ex} (h : codeG P E r c st = some (e, st')) : CodeOk P r c st e st' := by
  cases c with
  | skip => cases h; exact fun ρ a w r' n hrel hr => wpIn_skip ⟨rfl, ρ, hrel, Fr.refl _ _ _⟩
  | label l => cases h; exact fun ρ a w r' n hrel hr => wpIn_label ⟨rfl, ρ, hrel, Fr.refl _ _ _⟩
  | ret => cases h; exact fun ρ a w r' n hrel hr => wpIn_ret ⟨rfl, ρ, hrel, Fr.refl _ _ _⟩
  | exit id => cases h; exact fun ρ a w r' n hrel hr => wpIn_exit ⟨rfl, ρ, hrel, Fr.refl _ _ _⟩
  | seq x y =>
    simp only [codeG] at h
    intro ρ a w r' n hrel hr
    split at h
    · rename_i st1 h1
      refine wpIn_seq (Go.wpIn_mono (hE.code _ _ _ _ _ h1 ρ a w r' n hrel hr) fun e' a1 w1 hh => ?_)
      obtain ⟨rfl, ρ1, r1, k1⟩ := hh
      refine Go.wpIn_mono (hE.code _ _ _ _ _ h ρ1 a1 w1 r' n r1 (hr.mono k1.le)) fun e' a2 w2 hh => ?_
      obtain ⟨rfl, ρ2, r2, k2⟩ := hh
      exact ⟨rfl, ρ2, r2, k1.trans k2⟩
    · rename_i hne
      refine wpIn_seq (Go.wpIn_mono (hE.code _ _ _ _ _ h ρ a w r' n hrel hr) fun e' a1 w1 hh => ?_)
      obtain ⟨rfl, ρ1, r1, k1⟩ := hh
      cases e with
      | nx => exact absurd h (hne _)
      | ret => exact ⟨rfl, ρ1, r1, k1⟩
      | exit id => exact ⟨rfl, ρ1, r1, k1⟩
  | cond c x y =>
    simp only [codeG] at h
    intro ρ a w r' n hrel hr
    split at h
    · rename_i hc
      exact wpIn_cond_true ((hrel.eval hc).atom_inv rfl) (hE.code _ _ _ _ _ h ρ a w r' n hrel hr)
    · rename_i hc
      exact wpIn_cond_false ((hrel.eval hc).atom_inv rfl) (hE.code _ _ _ _ _ h ρ a w r' n hrel hr)
    · cases h
  | block id x =>
    simp only [codeG] at h
    intro ρ a w r' n hrel hr
    split at h
    · rename_i id' st1 h1
      refine wpIn_block (Go.wpIn_mono (hE.code _ _ _ _ _ h1 ρ a w r' n hrel hr) fun e' a1 w1 hh => ?_)
      obtain ⟨rfl, ρ1, r1, k1⟩ := hh
      cases hb : Nat.beq id' id with
      | true =>
        rw [hb] at h; cases h
        have := Nat.eq_of_beq_eq_true hb
        subst this
        show (if id' = id' then _ else _)
        rw [if_pos rfl]
        exact ⟨rfl, ρ1, r1, k1⟩
      | false =>
        rw [hb] at h; cases h
        have hne : id' ≠ id := fun e => by subst e; rw [Nat.beq_refl] at hb; cases hb
        show (if id' = id then _ else _)
        rw [if_neg hne]
        exact ⟨rfl, ρ1, r1, k1⟩
    · rename_i hne
      refine wpIn_block (Go.wpIn_mono (hE.code _ _ _ _ _ h ρ a w r' n hrel hr) fun e' a1 w1 hh => ?_)
      obtain ⟨rfl, ρ1, r1, k1⟩ := hh
      cases e with
      | nx => exact ⟨rfl, ρ1, r1, k1⟩
      | ret => exact ⟨rfl, ρ1, r1, k1⟩
      | exit id => exact absurd h (hne _ _)
  | loop x => exact loopG_sound hE h
  | region id ops draw =>
    cases draw with
    | false =>
      simp only [codeG, Option.map_eq_some_iff, Prod.mk.injEq] at h
      obtain ⟨s, hs, rfl, rfl⟩ := h
      exact fun ρ a w r' n hrel hr => wpIn_region_list (opersG_sound hE _ _ _ ρ a w r' n _ hrel hr hs fun ρ' a' w' r1 k1 => ⟨rfl, ρ', r1, k1⟩)
    | true =>
      simp only [codeG, Option.map_eq_some_iff, Prod.mk.injEq] at h
      obtain ⟨s, hs, rfl, rfl⟩ := h
      exact fun ρ a w r' n hrel hr => drawG_sound hE hmix hrel hr hs fun ρ' a' w' r1 k1 => ⟨rfl, ρ', r1, k1⟩
  | rangeFunc f ps assign body => exact rangeG_sound hE h
  | _ => cases h
/-- **THE RUN IS SOUND.** -/
theorem ev_ok (hmix : P.follows .mixedOrders = true) : ∀ n, EvOk P (ev P n)
  | 0 => ⟨fun _ _ _ _ _ h => (by cases h), fun _ _ _ _ _ h => (by cases h), fun _ _ _ _ _ h => (by cases h), fun _ _ _ _ h => (by cases h)⟩
  | n + 1 =>
    have ih := ev_ok hmix n
    ⟨fun _ _ _ _ _ h => codeG_sound ih hmix h, fun _ _ _ _ _ h => callG_sound ih h, fun _ _ _ _ _ h => roundG_sound ih h, fun _ _ _ _ h => dcallG_sound ih h⟩
end Go.Gd
namespace Go.Gd
variable {P : Program}
/-- It tells true. -/
def okT : Option (Value × G) → Bool
  | some (.bool true, _) => true
  | _ => false
theorem ground_pc {f : FuncId} (n : Nat) (hmix : P.follows .mixedOrders = true) (h : okT ((ev P n).call f [] ⟨.e, 0⟩) = true) : Sh.PC P f [] (.d (.bool true)) := by
  cases hc : (ev P n).call f [] ⟨.e, 0⟩ with
  | none => rw [hc] at h; cases h
  | some p =>
    obtain ⟨v, g'⟩ := p
    rw [hc] at h
    have hv : v = .bool true := by
      unfold okT at h
      split at h
      · rename_i e; cases e; rfl
      · cases h
    subst hv
    intro H w gh vs hA hH
    have hvs : vs = #[] := Array.eq_empty_of_size_eq_zero hA.1
    subst hvs
    have hR : R (fun _ => none) ⟨.e, 0⟩ w := ⟨fun _ _ => rfl, fun i o h => (by rw [show G.get ⟨.e, 0⟩ i = none from Tr.get_e i] at h; cases h), fun i j a b p q h => (by rw [show G.get ⟨.e, 0⟩ i = none from Tr.get_e i] at h; cases h)⟩
    refine ((ev_ok hmix n).call _ _ _ _ _ hc (fun _ => none) w [] .nil hR).mono fun e w' hh => ?_
    obtain ⟨ρ', y, rfl, hy, r1, k1⟩ := hh
    have hy := hy.atom_inv rfl
    subst hy
    have hkeep : ∀ k, k < w.heap.size → w'.heap[k]? = w.heap[k]? := fun k hk => k1.keep k hk fun i o p h => by rw [show G.get ⟨.e, 0⟩ i = none from Tr.get_e i] at h; cases h
    have key : ∀ tag, Sh.Keep tag gh w ⟨fun k => if k < w.heap.size then gh.ow k else .lst .els, gh.ρ⟩ w' := fun tag k o h1 h2 => by
      have hlt : k < w.heap.size := Sh.arr_lt h2
      exact ⟨by simp only [hlt, if_true]; exact h1, by rw [hkeep k hlt]; exact h2⟩
    refine ⟨.bool true, ⟨fun k => if k < w.heap.size then gh.ow k else .lst .els, gh.ρ⟩, rfl, Sh.Rd.bool, hH.keep (fun o _ => key o) (fun _ _ h => h) rfl, ⟨k1.size, key _, key _, fun _ _ h => h, fun _ i => key _, fun _ i j => key _, fun _ => rfl, k1.os⟩⟩
end Go.Gd
noncomputable section
namespace Go.Gd
open Go.Sh (isFn)
structure Bx (α : Type) where
  v : α
abbrev KV := Value → G → Bool
abbrev KS := Tr Value → G → List Deferred → Bool
abbrev KE := Ex → Tr Value → Nat → G → List Deferred → Bool
def tmpF (t : Tmp) : Bx (Tr Value → Option Value) := match pth dp t with | some p => ⟨Tr.getP p⟩ | none => ⟨fun _ => none⟩
def argF : Operand → Bx (Tr Value → Option Value)
  | .tmp t => tmpF t
  | .const v => bif leafB 6 v then ⟨fun _ => some v⟩ else ⟨fun _ => none⟩
  | .func f => ⟨fun _ => some (.func (.func f) #[] #[])⟩
  | .global _ => ⟨fun _ => none⟩
def argsF : List Operand → Bx (Tr Value → Option (List Value))
  | [] => ⟨fun _ => some []⟩
  | x :: r => match argF x, argsF r with
    | ⟨a⟩, ⟨b⟩ => ⟨fun tm => match a tm with | some v => (match b tm with | some vs => some (v :: vs) | none => none) | none => none⟩
def cmpF (op : BinOp) (k : IntKind) (a b : Int) : Option Value := match op with
  | .eql => some (.bool (a == b))
  | .neq => some (.bool (a != b))
  | .lss => some (.bool (decide (a < b)))
  | .leq => some (.bool (decide (a ≤ b)))
  | .gtr => some (.bool (decide (b < a)))
  | .geq => some (.bool (decide (b ≤ a)))
  | .add => some (.int k (k.wrap (a + b)))
  | .sub => some (.int k (k.wrap (a - b)))
  | _ => none
def numF (op : BinOp) (u v : Value) : Option Value := match u, v with
  | .int .i64 a, .int .i64 b => cmpF op .i64 a b
  | .int .u8 a, .int .u8 b => cmpF op .u8 a b
  | _, _ => none
section
variable (P : Program)
abbrev OpF := Tr Value → G → KV → Bool
def retF (o : Option Value) (g : G) (k : KV) : Bool := match o with | some v => k v g | none => false
def ret2F (o : Option (Value × G)) (k : KV) : Bool := match o with | some p => (match p with | (v, g) => k v g) | none => false
def moveF (a : Tr Value → Option Value) : OpF := fun tm g k => retF (a tm) g k
def pickF (c a b : Tr Value → Option Value) : OpF := fun tm g k => match c tm with
  | some (.bool x) => retF (bif x then a tm else b tm) g k
  | _ => false
def un1F (f : Value → Option Value) (a : Tr Value → Option Value) : OpF := fun tm g k => match a tm with | some v => retF (f v) g k | none => false
def un1gF (f : Value → G → Option Value) (a : Tr Value → Option Value) : OpF := fun tm g k => match a tm with | some v => retF (f v g) g k | none => false
def un2F (f : Value → Value → Option Value) (a b : Tr Value → Option Value) : OpF := fun tm g k => match a tm with | some u => (match b tm with | some v => retF (f u v) g k | none => false) | none => false
def binF (op : BinOp) (T : TypeId) (x y : Operand) (u v : Value) : Option Value := match numF op u v with
  | some r => some r
  | none => binG P op T x y u v
def storeF (T : TypeId) (a b : Tr Value → Option Value) : OpF := fun tm g k => match a tm with
  | some u => (match b tm with | some v => (match storeG P T u v g with | some g' => k undefV g' | none => false) | none => false)
  | none => false
def boxF (T : TypeId) (a : Tr Value → Option Value) : OpF := fun tm g k => match a tm with | some v => ret2F (boxG P T v g) k | none => false
def notF : Value → Option Value | .bool b => some (.bool (!b)) | _ => none
def builtF (b : Builtin) (ty : TypeId) (Ts : List TypeId) (a : Tr Value → Option (List Value)) : OpF := fun tm g k => match a tm with | some vs => ret2F (builtG P b ty Ts vs g) k | none => false
def elseF (ty : TypeId) (op : Op) : OpF := fun tm g k => ret2F (opG P tm g ty op) k
def opF (ty : TypeId) (op : Op) : Bx OpF := match op with
  | .move x => (match argF x with | ⟨a⟩ => ⟨moveF a⟩)
  | .assign x => (match argF x with | ⟨a⟩ => ⟨moveF a⟩)
  | .pick c x y => (match argF c, argF x, argF y with | ⟨c⟩, ⟨a⟩, ⟨b⟩ => ⟨pickF c a b⟩)
  | .load T x => (match argF x with | ⟨a⟩ => ⟨un1gF (loadG P T) a⟩)
  | .store T x y => (match argF x, argF y with | ⟨a⟩, ⟨b⟩ => ⟨storeF P T a b⟩)
  | .binOp op T x y _ => (match argF x, argF y with | ⟨a⟩, ⟨b⟩ => ⟨un2F (binF P op T x y) a b⟩)
  | .fieldAddr S x f => (match argF x with | ⟨a⟩ => ⟨un1F (fun v => fieldAddrG P S v f) a⟩)
  | .field S x f => (match argF x with | ⟨a⟩ => ⟨un1F (fun v => fieldG P S v f) a⟩)
  | .indexAddr T x i => (match argF x, argF i with | ⟨a⟩, ⟨b⟩ => ⟨un2F (indexAddrG P T) a b⟩)
  | .index T x i => (match argF x, argF i with | ⟨a⟩, ⟨b⟩ => ⟨un2F (indexG P T) a b⟩)
  | .extract x j => (match argF x with | ⟨a⟩ => ⟨un1F (fun v => extractG v j) a⟩)
  | .box T x => (match argF x with | ⟨a⟩ => ⟨boxF P T a⟩)
  | .call c => (match c.callee with
    | .builtin b => (match argsF c.args.toList with | ⟨a⟩ => ⟨builtF P b ty c.argTypes.toList a⟩)
    | _ => ⟨fun _ _ _ => false⟩)
  | op => ⟨elseF P ty op⟩
structure Ef where
  code : Option Nat → Code → Tr Value → Nat → G → List Deferred → KE → Bool
  call : FuncId → List Value → G → KV → Bool
  round : Nat → List Value → G → KV → Bool
  dcall : FuncId → List Value → G → (G → Bool) → Bool
/-- Puts what is told into a slot. -/
def putF (d : Option Tmp) : Bx (Value → Tr Value → Nat → (Tr Value → Bool) → Bool) := match d with
  | none => ⟨fun _ tm _ k => k tm⟩
  | some t => (match pth dp t with
    | some p => ⟨fun v tm nt k => bif Nat.blt t nt then k (Tr.updP (some v) p tm) else false⟩
    | none => ⟨fun _ _ _ _ => false⟩)
abbrev OrF := Ef → Tr Value → Nat → G → List Deferred → (Value → G → List Deferred → Bool) → Bool
def calleeF (c : Callee) : Bx (Tr Value → Option (Fn × List Value × List Value)) := match c with
  | .value (.func f) => ⟨fun _ => some (.func f, [], [])⟩
  | c => ⟨fun tm => calleeG P tm c⟩
def calleeMF (c : Callee) : Bx (Tr Value → Option (Fn × List Value × List Value)) := match c with
  | .value (.func f) => ⟨fun _ => some (.func f, [], [])⟩
  | c => ⟨fun tm => calleeM P tm c⟩
def targetF (E : Ef) (f : Fn) (vs : List Value) (g : G) (k : KV) : Bool := match f with
  | .func f => bif isFn P f then E.call f vs g k else false
  | .yield l => E.round l vs g k
  | _ => false
def callOF (c : Tr Value → Option (Fn × List Value × List Value)) (a : Tr Value → Option (List Value)) : OrF := fun E tm nt g df k => match c tm with
  | some p => (match p with | (f, x, y) => (match a tm with
    | some vs => targetF P E f (x ++ (vs ++ y)) g (fun v g' => k v g' df)
    | none => false))
  | none => false
def deferF (r : Option Nat) (c : Tr Value → Option (Fn × List Value × List Value)) (a : Tr Value → Option (List Value)) : OrF := fun E tm nt g df k => match r with
  | some _ => false
  | none => (match c tm with
    | some (.func f, x, y) => (match a tm with
      | some vs => k undefV g ({ target := .fn (.func f) ⟨y⟩, args := ⟨x ++ vs⟩ } :: df)
      | none => false)
    | _ => false)
def plainF (f : OpF) : OrF := fun E tm nt g df k => f tm g (fun v g' => k v g' df)
def isVal : Callee → Bool | .value _ => true | _ => false
def operF0 (r : Option Nat) (o : Oper) : Bx OrF := match o.op with
  | .call c => (match c.callee with
    | .builtin _ => (match opF P o.type o.op with | ⟨f⟩ => ⟨plainF f⟩)
    | _ => (match calleeMF P c.callee, argsF c.args.toList with | ⟨c⟩, ⟨a⟩ => ⟨callOF P c a⟩))
  | .defer c => bif isVal c.callee then (match calleeF P c.callee, argsF c.args.toList with | ⟨c⟩, ⟨a⟩ => ⟨deferF r c a⟩) else ⟨fun _ _ _ _ _ _ => false⟩
  | _ => (match opF P o.type o.op with | ⟨f⟩ => ⟨plainF f⟩)
def wantF (want : Bool) (a : Tr Value → Option Value) (f : OrF) : OrF := fun E tm nt g df k => match a tm with
  | some (.bool b) => bif b == want then f E tm nt g df k else k undefV g df
  | some (.tuple _) => k undefV g df
  | _ => false
def operF1 (r : Option Nat) (ops : Array Oper) (o : Oper) : Bx OrF := match o.guard with
  | none => operF0 P r o
  | some (j, want) => (match (ops[j]?).bind (·.dst) with
    | some t => (match tmpF t, operF0 P r o with | ⟨a⟩, ⟨f⟩ => ⟨wantF want a f⟩)
    | none => ⟨fun _ _ _ _ _ _ => false⟩)
abbrev RgF := Ef → Tr Value → Nat → G → List Deferred → KS → Bool
def stepF (f : OrF) (p : Value → Tr Value → Nat → (Tr Value → Bool) → Bool) (rest : RgF) : RgF := fun E tm nt g df k =>
  f E tm nt g df (fun v g' df' => p v tm nt (fun tm' => rest E tm' nt g' df' k))
def opersF (r : Option Nat) (ops : Array Oper) : List Oper → Bx RgF
  | [] => ⟨fun E tm nt g df k => k tm g df⟩
  | o :: l => (match operF1 P r ops o, putF o.dst, opersF r ops l with | ⟨f⟩, ⟨p⟩, ⟨q⟩ => ⟨stepF f p q⟩)
/-- A region that draws its order. -/
abbrev TrF := Ef → Tr Value → Nat → G → List Deferred → List (St × Value) → (List (St × Value) → St → Bool) → Bool
def stepT (f : OrF) (p : Value → Tr Value → Nat → (Tr Value → Bool) → Bool) (rest : TrF) : TrF := fun E tm nt g df acc k =>
  f E tm nt g df (fun v g' df' => bif Nat.beq df'.length df.length then p v tm nt (fun tm' => rest E tm' nt g' df (acc ++ [(⟨tm, nt, g, df⟩, v)]) k) else false)
def trailF (r : Option Nat) (ops : Array Oper) : List Oper → Bx TrF
  | [] => ⟨fun E tm nt g df acc k => k acc ⟨tm, nt, g, df⟩⟩
  | o :: l => (match operF1 P r ops o, putF o.dst, trailF r ops l with | ⟨f⟩, ⟨p⟩, ⟨q⟩ => ⟨stepT f p q⟩)
/-- Which looks must be taken again, and where. -/
def lookL (ops : Array Oper) (B : List Nat) : List (Nat × Oper × List Nat) := (List.range ops.size).filterMap fun i => match ops[i]? with
  | some o => bif stillO P o.op && !blindO o.op then
      (match (List.range (ops.size + 1)).filter fun j => !calmB P ops j && allowedO P ops B i j with
      | [] => none
      | js => some (i, o, js)) else none
  | none => none
def lookD (ops : Array Oper) (tr : List (St × Value)) (fin : St) : List (Nat × Oper × List Nat) → Bool
  | [] => true
  | (i, o, js) :: l => (match tr[i]? with
    | some (st, v) => js.all fun j => match wantG ops st.tm o with
      | some true => match opG P st.tm (atT tr fin j).g o.type o.op with
        | some (v', _) => sameV 8 v' v
        | none => false
      | _ => true
    | none => false) && lookD ops tr fin l
def drawF (r : Option Nat) (ops : Array Oper) : Bx RgF := match trailF P r ops ops.toList with
  | ⟨t⟩ => bif orderOk P ops (ancs ops.toList []) then ⟨fun E tm nt g df k => t E tm nt g df [] (fun tr fin => bif lookD P ops tr fin (lookL P ops (ancs ops.toList [])) then k fin.tm fin.g fin.df else false)⟩ else ⟨fun _ _ _ _ _ _ => false⟩
abbrev CdF := Ef → Tr Value → Nat → G → List Deferred → KE → Bool
def seqF (r : Option Nat) (a b : Code) : CdF := fun E tm nt g df k => E.code r a tm nt g df (fun e tm nt g df => match e with
  | .nx => E.code r b tm nt g df k
  | e => k e tm nt g df)
def condF (r : Option Nat) (c : Tr Value → Option Value) (a b : Code) : CdF := fun E tm nt g df k => match c tm with
  | some (.bool x) => bif x then E.code r a tm nt g df k else E.code r b tm nt g df k
  | _ => false
def blockF (r : Option Nat) (id : Nat) (a : Code) : CdF := fun E tm nt g df k => E.code r a tm nt g df (fun e tm nt g df => match e with
  | .exit id' => bif Nat.beq id' id then k .nx tm nt g df else k (.exit id') tm nt g df
  | e => k e tm nt g df)
def loopF (r : Option Nat) (a : Code) (E : Ef) (k : KE) : Nat → Tr Value → Nat → G → List Deferred → Bool
  | 0 => fun _ _ _ _ => false
  | n + 1 => fun tm nt g df => E.code r a tm nt g df (fun e tm nt g df => match e with
    | .nx => loopF r a E k n tm nt g df
    | e => k e tm nt g df)
def regF (f : RgF) : CdF := fun E tm nt g df k => f E tm nt g df (fun tm g df => k .nx tm nt g df)
def rangeF (r : Option Nat) (f : Tr Value → Option Value) (ps : List Tmp) (assign body : Code) : CdF := fun E tm nt g df k =>
  match f tm with
  | some (.func (.func f) ⟨a⟩ ⟨b⟩) => (match enterG r g with
    | some (d, g1, mark) => bif isFn P f then
        E.call f (a ++ ([.func (.yield g1.nx) #[] #[]] ++ b)) (g1.new (.loop .ready none (tmsG tm nt) ps assign body d)) (fun _ g2 => match g2.get g1.nx with
          | some (.loop state pending t p as bo d') => bif busyB state then false else
            (match exOf pending with | some e => k e tm nt (g2.set g1.nx (.loop .exhausted pending t p as bo d')) (mark ++ df) | none => false)
          | _ => false)
      else false
    | none => false)
  | _ => false
def codeF (r : Option Nat) (c : Code) : Bx CdF := match c with
  | .skip => ⟨fun E tm nt g df k => k .nx tm nt g df⟩
  | .label _ => ⟨fun E tm nt g df k => k .nx tm nt g df⟩
  | .ret => ⟨fun E tm nt g df k => k .ret tm nt g df⟩
  | .exit id => ⟨fun E tm nt g df k => k (.exit id) tm nt g df⟩
  | .seq a b => ⟨seqF r a b⟩
  | .cond c a b => (match argF c with | ⟨x⟩ => ⟨condF r x a b⟩)
  | .block id a => ⟨blockF r id a⟩
  | .loop a => ⟨fun E tm nt g df k => loopF r a E k 1000000 tm nt g df⟩
  | .region _ ops false => (match opersF P r ops ops.toList with | ⟨f⟩ => ⟨regF f⟩)
  | .region _ ops true => (match drawF P r ops with | ⟨f⟩ => ⟨regF f⟩)
  | .rangeFunc f ps assign body => (match argF f with | ⟨x⟩ => ⟨rangeF P r x ps.toList assign body⟩)
  | _ => ⟨fun _ _ _ _ _ _ => false⟩
def leaveF (E : Ef) : List Deferred → G → (G → Bool) → Bool
  | [], g, k => k g
  | d :: ds, g, k => match d.target with
    | .collected r => (match g.get r with
      | some (.dfr true) => leaveF E ds (g.set r (.dfr false)) k
      | _ => false)
    | .fn (.func f) ⟨caps⟩ => bif isFn P f then E.dcall f (d.args.toList ++ caps) g (fun g' => leaveF E ds g' k) else false
    | _ => false
def bodyF (fn : Func) (c : Code) (E : Ef) (vs : List Value) (g : G) (k : KV) : Bool :=
  bif Nat.ble vs.length fn.ntmps then E.code none c (initG vs) fn.ntmps g [] (fun e tm nt g df => bif endB e then
    leaveF P E df g (fun g' => match ressG P tm g' fn.results.toList with
      | some rs => k (tupG rs) g'
      | none => false) else false)
  else false
def callF (f : FuncId) : Bx (Ef → List Value → G → KV → Bool) := match P.funcs[f]? with
  | some fn => (match fn.body with
    | some c => ⟨bodyF P fn c⟩
    | none => ⟨fun _ _ _ _ => false⟩)
  | none => ⟨fun _ _ _ _ => false⟩
def roundF (E : Ef) (l : Nat) (vs : List Value) (g : G) (k : KV) : Bool := match g.get l with
  | some (.loop .ready _ tms ps assign body _) => (match putPs ps vs tms.length (initO tms) with
    | some tm => E.code (some l) assign tm tms.length g [] (fun e tm nt g df => match e with
      | .nx => (match g.get l with
        | some (.loop .ready pe' t' p' a' b' d') => E.code (some l) body tm nt (g.set l (.loop .busy pe' t' p' a' b' d')) df (fun e tm nt g df => match g.get l with
          | some (.loop _ _ t3 q3 a3 b3 d3) => k (.bool (jumpG e).isNone) (g.set l (.loop (if (jumpG e).isNone then .ready else .done) (jumpG e) t3 q3 a3 b3 d3))
          | _ => false)
        | _ => false)
      | _ => false)
    | none => false)
  | _ => false
/-- A deferred call while its caller returns. -/
def endF (k : G → Bool) : KE := fun e tm nt g df => bif endB e && df.isEmpty then k g else false
def dcallF (E : Ef) (f : FuncId) (vs : List Value) (g : G) (k : G → Bool) : Bool := match P.funcs[f]? with
  | some fn => (match fn.body, startG fn vs g with
    | some c, some st0 => bif fn.results.isEmpty then
        (match recG c with
        | some (ops, o, rest, c') => (match st0.put o.dst .nilIface with
          | some st1 => (match plainG P ops rest st1 with
            | some st2 => E.code none c' st2.tm st2.nt st2.g st2.df (endF k)
            | none => false)
          | none => false)
        | none => E.code none c st0.tm st0.nt st0.g st0.df (endF k))
      else false
    | _, _ => false)
  | none => false
def stepEf (E : Ef) : Ef where
  code r c := match codeF P r c with | ⟨f⟩ => f E
  call f := match callF P f with | ⟨c⟩ => c E
  round := roundF E
  dcall := dcallF P E
end
def evF (P : Program) : Nat → Ef
  | 0 => ⟨fun _ _ _ _ _ _ _ => false, fun _ _ _ _ => false, fun _ _ _ _ => false, fun _ _ _ _ => false⟩
  | n + 1 => stepEf P (evF P n)
def isT : KV := fun v _ => match v with | .bool true => true | _ => false
end Go.Gd
end
namespace Go.Gd
open Go.Sh (isFn leafRun)
variable {P : Program} {E : Ev} {F : Ef}
theorem tmpF_v (t : Tmp) (tm : Tr Value) : (tmpF t).v tm = tm.get t := by
  unfold tmpF Tr.get; split <;> simp_all
theorem argF_v (x : Operand) (tm : Tr Value) : (argF x).v tm = evG tm x := by
  unfold argF evG
  split
  · exact tmpF_v _ _
  · rename_i v; cases h : leafB 6 v <;> simp [h]
  · rfl
  · rfl
theorem argsF_v : ∀ (l : List Operand) (tm : Tr Value), (argsF l).v tm = evs tm l
  | [], tm => rfl
  | x :: r, tm => by
    have h1 := argF_v x tm
    have h2 := argsF_v r tm
    simp only [argsF, evs]
    rw [h1, h2]
    cases evG tm x <;> cases evs tm r <;> rfl
theorem retF_ok {o : Option Value} {g : G} {k : KV} (h : retF o g k = true) : ∃ v, o = some v ∧ k v g = true := by
  unfold retF at h; split at h
  · exact ⟨_, rfl, h⟩
  · cases h
theorem ret2F_ok {o : Option (Value × G)} {k : KV} (h : ret2F o k = true) : ∃ v g', o = some (v, g') ∧ k v g' = true := by
  unfold ret2F at h; split at h
  · exact ⟨_, _, rfl, h⟩
  · cases h
theorem cmpF_ok {op : BinOp} {k : IntKind} {a b : Int} {T : TypeId} {x y : Operand} {r : Value} (h : cmpF op k a b = some r) : binG P op T x y (.int k a) (.int k b) = some r := by
  unfold cmpF at h
  cases op <;> first | (cases h; done) | skip
  all_goals (cases h; simp [binG, leafB, atomB, leafRun, eqGuard, binOp, Op.intCmp, Op.intArith, outL, bind, Sem.bind, pure])
theorem binF_ok {op : BinOp} {T : TypeId} {x y : Operand} {u v : Value} {r : Value} (h : binF P op T x y u v = some r) : binG P op T x y u v = some r := by
  unfold binF at h
  split at h
  · rename_i z hz
    cases h
    unfold numF at hz
    split at hz
    · exact cmpF_ok hz
    · exact cmpF_ok hz
    · cases hz
  · exact h
def OpOk (P : Program) (ty : TypeId) (op : Op) (f : OpF) : Prop := ∀ tm g k, f tm g k = true → ∃ v g', opG P tm g ty op = some (v, g') ∧ k v g' = true
theorem opF_ok (ty : TypeId) (op : Op) : OpOk P ty op (opF P ty op).v := by
  unfold opF
  split
  · intro tm g k h
    obtain ⟨v, hv, hk⟩ := retF_ok h
    rw [argF_v] at hv
    exact ⟨v, g, by simp [opG, hv], hk⟩
  · intro tm g k h
    obtain ⟨v, hv, hk⟩ := retF_ok h
    rw [argF_v] at hv
    exact ⟨v, g, by simp [opG, hv], hk⟩
  · rename_i c x y
    intro tm g k h
    simp only [pickF] at h
    rw [argF_v] at h
    split at h
    · rename_i b hb
      obtain ⟨v, hv, hk⟩ := retF_ok h
      refine ⟨v, g, ?_, hk⟩
      simp only [opG, hb]
      cases b <;> simp only [cond, argF_v] at hv ⊢ <;> rw [hv] <;> rfl
    · cases h
  · rename_i T x
    intro tm g k h
    simp only [un1gF] at h
    rw [argF_v] at h
    split at h
    · rename_i v hv
      obtain ⟨u, hu, hk⟩ := retF_ok h
      exact ⟨u, g, by simp [opG, hv, hu], hk⟩
    · cases h
  · rename_i T x y
    intro tm g k h
    simp only [storeF] at h
    rw [argF_v, argF_v] at h
    split at h
    · rename_i v hv
      split at h
      · rename_i u hu
        split at h
        · rename_i g' hg
          exact ⟨_, g', by simp [opG, hv, hu, hg], h⟩
        · cases h
      · cases h
    · cases h
  · rename_i op T x y _
    intro tm g k h
    simp only [un2F] at h
    rw [argF_v, argF_v] at h
    split at h
    · rename_i v hv
      split at h
      · rename_i u hu
        obtain ⟨z, hz, hk⟩ := retF_ok h
        have hz := binF_ok hz
        exact ⟨z, g, by simp [opG, hv, hu, hz], hk⟩
      · cases h
    · cases h
  · rename_i S x f
    intro tm g k h
    simp only [un1F] at h
    rw [argF_v] at h
    split at h
    · rename_i v hv
      obtain ⟨u, hu, hk⟩ := retF_ok h
      exact ⟨u, g, by simp [opG, hv, hu], hk⟩
    · cases h
  · rename_i S x f
    intro tm g k h
    simp only [un1F] at h
    rw [argF_v] at h
    split at h
    · rename_i v hv
      obtain ⟨u, hu, hk⟩ := retF_ok h
      exact ⟨u, g, by simp [opG, hv, hu], hk⟩
    · cases h
  · rename_i T x i
    intro tm g k h
    simp only [un2F] at h
    rw [argF_v, argF_v] at h
    split at h
    · rename_i v hv
      split at h
      · rename_i u hu
        obtain ⟨z, hz, hk⟩ := retF_ok h
        exact ⟨z, g, by simp [opG, hv, hu, hz], hk⟩
      · cases h
    · cases h
  · rename_i T x i
    intro tm g k h
    simp only [un2F] at h
    rw [argF_v, argF_v] at h
    split at h
    · rename_i v hv
      split at h
      · rename_i u hu
        obtain ⟨z, hz, hk⟩ := retF_ok h
        exact ⟨z, g, by simp [opG, hv, hu, hz], hk⟩
      · cases h
    · cases h
  · rename_i x j
    intro tm g k h
    simp only [un1F] at h
    rw [argF_v] at h
    split at h
    · rename_i v hv
      obtain ⟨u, hu, hk⟩ := retF_ok h
      exact ⟨u, g, by simp [opG, hv, hu], hk⟩
    · cases h
  · rename_i T x
    intro tm g k h
    simp only [boxF] at h
    rw [argF_v] at h
    split at h
    · rename_i v hv
      obtain ⟨u, g', hu, hk⟩ := ret2F_ok h
      exact ⟨u, g', by simp [opG, hv, hu], hk⟩
    · cases h
  · rename_i c
    split
    · rename_i b hb
      intro tm g k h
      simp only [builtF] at h
      rw [argsF_v] at h
      split at h
      · rename_i vs hvs
        obtain ⟨u, g', hu, hk⟩ := ret2F_ok h
        exact ⟨u, g', by simp [opG, hb, hvs, hu], hk⟩
      · cases h
    · intro tm g k h; cases h
  · intro tm g k h
    obtain ⟨u, g', hu, hk⟩ := ret2F_ok h
    exact ⟨u, g', hu, hk⟩
/-! ### One operation -/
structure EfOk (P : Program) (E : Ev) (F : Ef) : Prop where
  code : ∀ {r c tm nt g df} {k : KE}, F.code r c tm nt g df k = true → ∃ e st', E.code r c ⟨tm, nt, g, df⟩ = some (e, st') ∧ k e st'.tm st'.nt st'.g st'.df = true
  call : ∀ {f vs g} {k : KV}, F.call f vs g k = true → ∃ v g', E.call f vs g = some (v, g') ∧ k v g' = true
  round : ∀ {l vs g} {k : KV}, F.round l vs g k = true → ∃ v g', E.round l vs g = some (v, g') ∧ k v g' = true
  dcall : ∀ {f vs g} {k : G → Bool}, F.dcall f vs g k = true → ∃ g', E.dcall f vs g = some g' ∧ k g' = true
theorem putF_ok {d : Option Tmp} {v : Value} {tm : Tr Value} {nt : Nat} {k : Tr Value → Bool} (h : (putF d).v v tm nt k = true) : ∃ tm', (∀ g df, (⟨tm, nt, g, df⟩ : St).put d v = some ⟨tm', nt, g, df⟩) ∧ k tm' = true := by
  unfold putF at h
  split at h
  · exact ⟨tm, fun _ _ => rfl, h⟩
  · rename_i t
    split at h
    · rename_i p hp
      simp only at h
      cases hb : Nat.blt t nt with
      | true =>
        rw [hb] at h
        exact ⟨_, fun g df => by simp only [St.put, hb, cond, Tr.upd, hp], h⟩
      | false => rw [hb] at h; cases h
    · cases h
theorem targetF_ok (hE : EfOk P E F) {f : Fn} {vs : List Value} {g : G} {k : KV} (h : targetF P F f vs g k = true) : ∃ v g', targetG P E f vs g = some (v, g') ∧ k v g' = true := by
  unfold targetF at h
  split at h
  · rename_i f
    cases hb : isFn P f with
    | true =>
      rw [hb] at h
      obtain ⟨v, g', h1, h2⟩ := hE.call h
      exact ⟨v, g', by simp [targetG, hb, h1], h2⟩
    | false => rw [hb] at h; cases h
  · obtain ⟨v, g', h1, h2⟩ := hE.round h
    exact ⟨v, g', h1, h2⟩
  · cases h
theorem calleeF_v (c : Callee) (tm : Tr Value) : (calleeF P c).v tm = calleeG P tm c := by
  unfold calleeF
  split <;> rfl
theorem calleeMF_v (c : Callee) (tm : Tr Value) : (calleeMF P c).v tm = calleeM P tm c := by
  unfold calleeMF
  split <;> rfl
def dfO (d : Option Deferred) (df : List Deferred) : List Deferred := match d with | some x => x :: df | none => df
def OperOk (P : Program) (E : Ev) (F : Ef) (r : Option Nat) (ops : Array Oper) (o : Oper) (f : OrF) : Prop :=
  ∀ tm nt g df k, f F tm nt g df k = true → ∃ v g' d, operV P E r ops o tm g = some (v, g', d) ∧ k v g' (dfO d df) = true
theorem opG_call {tm : Tr Value} {g : G} {ty : TypeId} {c : Call} (h : ∀ b, c.callee ≠ .builtin b) : opG P tm g ty (.call c) = none := by
  simp only [opG]
theorem operF0_ok (hE : EfOk P E F) {r : Option Nat} {ops : Array Oper} {o : Oper} (tm : Tr Value) (nt : Nat) (g : G) (df : List Deferred) (k : Value → G → List Deferred → Bool) (h : (operF0 P r o).v F tm nt g df k = true) (hw : wantG ops tm o = some true) :
    ∃ v g' d, operV P E r ops o tm g = some (v, g', d) ∧ k v g' (dfO d df) = true := by
  have plain : ∀ {f : OpF}, OpOk P o.type o.op f → plainF f F tm nt g df k = true → ∃ v g' d, operV P E r ops o tm g = some (v, g', d) ∧ k v g' (dfO d df) = true := fun hf h => by
    obtain ⟨v, g', h1, h2⟩ := hf _ _ _ h
    exact ⟨v, g', none, by simp [operV, hw, h1], h2⟩
  unfold operF0 at h
  split at h
  · rename_i c hop
    split at h
    · exact plain (opF_ok o.type o.op) h
    · rename_i hc
      have hn : opG P tm g o.type o.op = none := by
        rw [hop]
        cases hcc : c.callee with
        | builtin b => exact absurd hcc (hc b)
        | _ => simp only [opG, hcc]
      simp only [callOF] at h
      rw [calleeMF_v, argsF_v] at h
      split at h
      · rename_i p hp
        obtain ⟨f, x, y⟩ := p
        simp only at h
        split at h
        · rename_i vs hvs
          obtain ⟨v, g', h1, h2⟩ := targetF_ok hE h
          exact ⟨v, g', none, by rw [hop] at hn; simp only [operV, hw, hop, hn, hp, hvs, h1], h2⟩
        · cases h
      · cases h
  · rename_i c hop
    cases hv : isVal c.callee with
    | false => rw [hv] at h; cases h
    | true =>
      rw [hv] at h
      simp only [cond, deferF] at h
      have hn : opG P tm g o.type o.op = none := by rw [hop]; rfl
      split at h
      · cases h
      · rw [calleeF_v] at h
        split at h
        · rename_i f x y hp
          rw [argsF_v] at h
          split at h
          · rename_i vs hvs
            have : ∃ z, c.callee = .value z := by
              unfold isVal at hv
              split at hv
              · exact ⟨_, by assumption⟩
              · cases hv
            obtain ⟨z, hz⟩ := this
            refine ⟨_, g, some _, ?_, h⟩
            rw [hz] at hp
            rw [hop] at hn
            simp only [operV, hw, hop, hn, hz, hp, hvs]
          · cases h
        · cases h
  · exact plain (opF_ok o.type o.op) h
theorem operF1_ok (hE : EfOk P E F) {r : Option Nat} {ops : Array Oper} {o : Oper} : OperOk P E F r ops o (operF1 P r ops o).v := by
  intro tm nt g df k h
  unfold operF1 at h
  split at h
  · rename_i hg
    exact operF0_ok hE tm nt g df k h (by simp [wantG, hg])
  · rename_i j want hg
    split at h
    · rename_i t ht
      simp only [wantF] at h
      rw [tmpF_v] at h
      split at h
      · rename_i b hb
        cases hw : b == want with
        | true =>
          rw [hw] at h
          exact operF0_ok hE tm nt g df k h (by simp [wantG, hg, ht, hb, hw])
        | false =>
          rw [hw] at h
          exact ⟨undefV, g, none, by simp [operV, wantG, hg, ht, hb, hw], h⟩
      · rename_i hb
        exact ⟨undefV, g, none, by simp [operV, wantG, hg, ht, hb], h⟩
      · cases h
    · cases h
theorem opersF_ok (hE : EfOk P E F) {r : Option Nat} {ops : Array Oper} : ∀ {l : List Oper} {tm nt g df} {k : KS}, (opersF P r ops l).v F tm nt g df k = true →
    ∃ st', opersG P E r ops l ⟨tm, nt, g, df⟩ = some st' ∧ st'.nt = nt ∧ k st'.tm st'.g st'.df = true
  | [], tm, nt, g, df, k, h => ⟨_, rfl, rfl, h⟩
  | o :: l, tm, nt, g, df, k, h => by
    obtain ⟨v, g', d, h1, h2⟩ := operF1_ok hE tm nt g df _ h
    obtain ⟨tm', h3, h4⟩ := putF_ok h2
    obtain ⟨st', h5, h6, h7⟩ := opersF_ok hE h4
    refine ⟨st', ?_, h6, h7⟩
    have : operG P E r ops o ⟨tm, nt, g, df⟩ = some ⟨tm', nt, g', dfO d df⟩ := by
      simp only [operG, h1]
      cases d with
      | none => exact h3 g' df
      | some x => exact h3 g' (x :: df)
    simp only [opersG, this]
    exact h5
theorem trailF_ok (hE : EfOk P E F) {r : Option Nat} {ops : Array Oper} : ∀ {l : List Oper} {tm nt g df acc} {k : List (St × Value) → St → Bool}, (trailF P r ops l).v F tm nt g df acc k = true →
    ∃ tr fin, trail P E r ops l ⟨tm, nt, g, df⟩ = some (tr, fin) ∧ fin.nt = nt ∧ fin.df = df ∧ k (acc ++ tr) fin = true
  | [], tm, nt, g, df, acc, k, h => ⟨[], _, rfl, rfl, rfl, by rw [List.append_nil]; exact h⟩
  | o :: l, tm, nt, g, df, acc, k, h => by
    obtain ⟨v, g', d, h1, h2⟩ := operF1_ok hE tm nt g df _ h
    cases d with
    | some x =>
      have : Nat.beq (dfO (some x) df).length df.length = false := by
        cases hb : Nat.beq (dfO (some x) df).length df.length with
        | false => rfl
        | true => have := Nat.eq_of_beq_eq_true hb; simp [dfO] at this
      rw [this] at h2; cases h2
    | none =>
      have : Nat.beq (dfO none df).length df.length = true := Nat.beq_refl _
      rw [this] at h2
      obtain ⟨tm', h3, h4⟩ := putF_ok h2
      obtain ⟨tr, fin, h5, h6, h7, h8⟩ := trailF_ok hE h4
      refine ⟨(⟨tm, nt, g, df⟩, v) :: tr, fin, ?_, h6, h7, by simpa using h8⟩
      simp only [trail, h1, h3, h5]
noncomputable def sameL (P : Program) (ops : Array Oper) (tr : List (St × Value)) (fin : St) (o : Oper) (st : St) (v : Value) (j : Nat) : Bool := match wantG ops st.tm o with
  | some true => match opG P st.tm (atT tr fin j).g o.type o.op with
    | some (v', _) => sameV 8 v' v
    | none => false
  | _ => true
theorem lookD_cons {ops : Array Oper} {tr : List (St × Value)} {fin : St} {i : Nat} {o : Oper} {js : List Nat} {l : List (Nat × Oper × List Nat)} (h : lookD P ops tr fin ((i, o, js) :: l) = true) :
    (∃ st v, tr[i]? = some (st, v) ∧ ∀ j ∈ js, sameL P ops tr fin o st v j = true) ∧ lookD P ops tr fin l = true := by
  rw [lookD, Bool.and_eq_true] at h
  obtain ⟨h1, h2⟩ := h
  refine ⟨?_, h2⟩
  split at h1
  · rename_i st v hst
    exact ⟨st, v, hst, fun j hj => List.all_eq_true.1 h1 j hj⟩
  · cases h1
theorem lookD_mem {ops : Array Oper} {tr : List (St × Value)} {fin : St} {i : Nat} {o : Oper} {js : List Nat} (l : List (Nat × Oper × List Nat)) (h : lookD P ops tr fin l = true) (hm : (i, o, js) ∈ l) :
    ∃ st v, tr[i]? = some (st, v) ∧ ∀ j ∈ js, sameL P ops tr fin o st v j = true := by
  induction l with
  | nil => cases hm
  | cons q l ih =>
    obtain ⟨i', o', js'⟩ := q
    obtain ⟨h1, h2⟩ := lookD_cons h
    rcases List.mem_cons.1 hm with e | hm
    · cases e; exact h1
    · exact ih h2 hm
theorem looks_of {ops : Array Oper} {B : List Nat} {tr : List (St × Value)} {fin : St} (hlen : tr.length = ops.size) (h : lookD P ops tr fin (lookL P ops B) = true) : looksOk P ops B tr fin = true := by
  unfold looksOk
  rw [List.all_eq_true]
  intro i hi
  have hi : i < ops.size := by simpa using hi
  rw [Array.getElem?_eq_getElem hi, List.getElem?_eq_getElem (by omega)]
  simp only
  cases hs : !stillO P ops[i].op || blindO ops[i].op with
  | true => simp
  | false =>
    rw [Bool.false_or, List.all_eq_true]
    intro j hj
    cases hc : calmB P ops j || !allowedO P ops B i j with
    | true => simp
    | false =>
      rw [Bool.false_or]
      have hjs : j ∈ (List.range (ops.size + 1)).filter fun j => !calmB P ops j && allowedO P ops B i j := by
        rw [List.mem_filter]
        refine ⟨hj, ?_⟩
        cases h1 : calmB P ops j <;> cases h2 : allowedO P ops B i j <;> simp_all
      have hm : (i, ops[i], (List.range (ops.size + 1)).filter fun j => !calmB P ops j && allowedO P ops B i j) ∈ lookL P ops B := by
        unfold lookL
        rw [List.mem_filterMap]
        refine ⟨i, by simpa using hi, ?_⟩
        rw [Array.getElem?_eq_getElem hi]
        have hq : (stillO P ops[i].op && !blindO ops[i].op) = true := by
          cases h1 : stillO P ops[i].op <;> cases h2 : blindO ops[i].op <;> simp_all
        simp only [hq, cond]
        split
        · rename_i e; rw [e] at hjs; cases hjs
        · rfl
      obtain ⟨st, v, e1, e2⟩ := lookD_mem _ h hm
      have e2 := e2 j hjs
      rw [List.getElem?_eq_getElem (by omega)] at e1
      have e1 := Option.some.inj e1
      rw [e1]
      exact e2
theorem trail_len {r : Option Nat} {ops : Array Oper} : ∀ {L : List Oper} {st : St} {tr : List (St × Value)} {fin : St}, trail P E r ops L st = some (tr, fin) → tr.length = L.length
  | [], st, tr, fin, h => by cases h; rfl
  | o :: l, st, tr, fin, h => by
    simp only [trail] at h
    split at h
    · split at h
      · split at h
        · rename_i h3
          cases h
          simp [trail_len h3]
        · cases h
      · cases h
    · cases h
theorem drawF_ok (hE : EfOk P E F) {r : Option Nat} {ops : Array Oper} {tm nt g df} {k : KS} (h : (drawF P r ops).v F tm nt g df k = true) :
    ∃ st', drawG P E r ops ⟨tm, nt, g, df⟩ = some st' ∧ st'.nt = nt ∧ k st'.tm st'.g st'.df = true := by
  unfold drawF at h
  simp only at h
  cases ho : orderOk P ops (ancs ops.toList []) with
  | false => rw [ho] at h; cases h
  | true =>
    rw [ho] at h
    obtain ⟨tr, fin, h1, h2, h3, h4⟩ := trailF_ok hE h
    rw [List.nil_append] at h4
    cases hl2 : lookD P ops tr fin (lookL P ops (ancs ops.toList [])) with
    | false => rw [hl2] at h4; cases h4
    | true =>
      rw [hl2] at h4
      have hl := looks_of (by rw [trail_len h1, Array.length_toList]) hl2
      exact ⟨fin, by simp [drawG, h1, ho, hl], h2, h4⟩
/-! ### Code -/
theorem loopF_ok (hE : EfOk P E F) {r : Option Nat} {a : Code} {k : KE} : ∀ {n : Nat} {tm nt g df}, loopF r a F k n tm nt g df = true → ∃ e st', loopG E r a n ⟨tm, nt, g, df⟩ = some (e, st') ∧ k e st'.tm st'.nt st'.g st'.df = true
  | 0, tm, nt, g, df, h => by cases h
  | n + 1, tm, nt, g, df, h => by
    obtain ⟨e, st', h1, h2⟩ := hE.code h
    cases e with
    | nx =>
      obtain ⟨e2, st2, h3, h4⟩ := loopF_ok hE h2
      exact ⟨e2, st2, by simp only [loopG, h1]; exact h3, h4⟩
    | ret => exact ⟨_, st', by simp only [loopG, h1], h2⟩
    | exit i => exact ⟨_, st', by simp only [loopG, h1], h2⟩
theorem regF_ok {f : RgF} {o : St → Option St} (hf : ∀ {tm nt g df} {k : KS}, f F tm nt g df k = true → ∃ st', o ⟨tm, nt, g, df⟩ = some st' ∧ st'.nt = nt ∧ k st'.tm st'.g st'.df = true) {tm nt g df} {k : KE} (h : regF f F tm nt g df k = true) :
    ∃ e st', (o ⟨tm, nt, g, df⟩).map (fun s => (Ex.nx, s)) = some (e, st') ∧ k e st'.tm st'.nt st'.g st'.df = true := by
  obtain ⟨st', h1, h2, h3⟩ := hf h
  exact ⟨.nx, st', by rw [h1]; rfl, by rw [h2]; exact h3⟩
theorem codeF_ok (hE : EfOk P E F) {r : Option Nat} {c : Code} {tm nt g df} {k : KE} (h : (codeF P r c).v F tm nt g df k = true) : ∃ e st', codeG P E r c ⟨tm, nt, g, df⟩ = some (e, st') ∧ k e st'.tm st'.nt st'.g st'.df = true := by
  unfold codeF at h
  split at h
  · exact ⟨_, _, rfl, h⟩
  · exact ⟨_, _, rfl, h⟩
  · exact ⟨_, _, rfl, h⟩
  · exact ⟨_, _, rfl, h⟩
  · rename_i a b
    obtain ⟨e, st', h1, h2⟩ := hE.code h
    cases e with
    | nx =>
      obtain ⟨e2, st2, h3, h4⟩ := hE.code h2
      exact ⟨e2, st2, by simp only [codeG, h1]; exact h3, h4⟩
    | ret => exact ⟨_, st', by simp only [codeG, h1], h2⟩
    | exit i => exact ⟨_, st', by simp only [codeG, h1], h2⟩
  · rename_i c a b
    simp only [condF] at h
    rw [argF_v] at h
    split at h
    · rename_i x hx
      cases x with
      | true =>
        obtain ⟨e, st', h1, h2⟩ := hE.code h
        exact ⟨e, st', by simp only [codeG, hx]; exact h1, h2⟩
      | false =>
        obtain ⟨e, st', h1, h2⟩ := hE.code h
        exact ⟨e, st', by simp only [codeG, hx]; exact h1, h2⟩
    · cases h
  · rename_i id a
    obtain ⟨e, st', h1, h2⟩ := hE.code h
    cases e with
    | nx => exact ⟨_, st', by simp only [codeG, h1], h2⟩
    | ret => exact ⟨_, st', by simp only [codeG, h1], h2⟩
    | exit i =>
      cases hb : Nat.beq i id with
      | true =>
        simp only [hb, cond] at h2
        exact ⟨.nx, st', by simp only [codeG, h1, hb, cond], h2⟩
      | false =>
        simp only [hb, cond] at h2
        exact ⟨.exit i, st', by simp only [codeG, h1, hb, cond], h2⟩
  · rename_i a
    exact loopF_ok hE h
  · rename_i ops
    exact regF_ok (fun h => opersF_ok hE h) h
  · rename_i ops
    exact regF_ok (fun h => drawF_ok hE h) h
  · rename_i f ps assign body
    simp only [rangeF] at h
    rw [argF_v] at h
    split at h
    · rename_i f' a b hf
      split at h
      · rename_i d g1 mark hg
        cases hb : isFn P f' with
        | false => rw [hb] at h; cases h
        | true =>
          rw [hb] at h
          obtain ⟨v, g2, h1, h2⟩ := hE.call h
          split at h2
          · rename_i state pending t p as bo d' hg2
            cases hbb : busyB state with
            | true => rw [hbb] at h2; cases h2
            | false =>
              rw [hbb] at h2
              simp only [cond] at h2
              split at h2
              · rename_i e he
                exact ⟨e, _, by simp only [codeG, rangeG, hf, hg, hb, cond, h1, hg2, hbb, he]; rfl, h2⟩
              · cases h2
          · cases h2
      · cases h
    · cases h
  · cases h
theorem leaveF_ok (hE : EfOk P E F) : ∀ {df : List Deferred} {g : G} {k : G → Bool}, leaveF P F df g k = true → ∃ g', leaveG P E df g = some g' ∧ k g' = true
  | [], g, k, h => ⟨g, rfl, h⟩
  | d :: ds, g, k, h => by
    simp only [leaveF] at h
    split at h
    · rename_i r ht
      split at h
      · rename_i hr
        obtain ⟨g', h1, h2⟩ := leaveF_ok hE h
        exact ⟨g', by simp only [leaveG, ht, hr]; exact h1, h2⟩
      · cases h
    · rename_i f caps ht
      cases hb : isFn P f with
      | false => rw [hb] at h; cases h
      | true =>
        rw [hb] at h
        obtain ⟨g', h1, h2⟩ := hE.dcall h
        obtain ⟨g2, h3, h4⟩ := leaveF_ok hE h2
        exact ⟨g2, by simp only [leaveG, ht, hb, cond, h1]; exact h3, h4⟩
    · cases h
theorem callF_ok (hE : EfOk P E F) {f : FuncId} {vs : List Value} {g : G} {k : KV} (h : (callF P f).v F vs g k = true) : ∃ v g', callG P E f vs g = some (v, g') ∧ k v g' = true := by
  unfold callF at h
  split at h
  · rename_i fn hfn
    split at h
    · rename_i c hc
      simp only [bodyF] at h
      cases hb : Nat.ble vs.length fn.ntmps with
      | false => rw [hb] at h; cases h
      | true =>
        rw [hb] at h
        obtain ⟨e, st, h1, h2⟩ := hE.code h
        cases he : endB e with
        | false => rw [he] at h2; cases h2
        | true =>
          rw [he] at h2
          obtain ⟨g', h3, h4⟩ := leaveF_ok hE h2
          split at h4
          · rename_i rs hrs
            exact ⟨_, g', by simp only [callG, hfn, hc, startG, hb, cond, h1, he, h3, hrs], h4⟩
          · cases h4
    · cases h
  · cases h
theorem roundF_ok (hE : EfOk P E F) {l : Nat} {vs : List Value} {g : G} {k : KV} (h : roundF F l vs g k = true) : ∃ v g', roundG E l vs g = some (v, g') ∧ k v g' = true := by
  unfold roundF at h
  split at h
  · rename_i pe tms ps assign body d hg
    split at h
    · rename_i tm htm
      obtain ⟨e, st, h1, h2⟩ := hE.code h
      split at h2
      · split at h2
        · rename_i pe' t' p' a' b' d' hg2
          obtain ⟨e2, st2, h3, h4⟩ := hE.code h2
          split at h4
          · rename_i s3 p3 t3 q3 a3 b3 d3 hg3
            exact ⟨_, _, by simp only [roundG, hg, htm, h1, hg2, h3, hg3], h4⟩
          · cases h4
        · cases h2
      · cases h2
    · cases h
  · cases h
theorem dcallF_ok (hE : EfOk P E F) {f : FuncId} {vs : List Value} {g : G} {k : G → Bool} (h : dcallF P F f vs g k = true) : ∃ g', dcallG P E f vs g = some g' ∧ k g' = true := by
  have fin : ∀ {c : Code} {st : St}, F.code none c st.tm st.nt st.g st.df (endF k) = true → ∃ e st', E.code none c st = some (e, st') ∧ (endB e && st'.df.isEmpty) = true ∧ k st'.g = true := fun {c st} h => by
    obtain ⟨e, st', h1, h2⟩ := hE.code h
    simp only [endF] at h2
    cases hb : endB e && st'.df.isEmpty with
    | false => rw [hb] at h2; cases h2
    | true => rw [hb] at h2; exact ⟨e, st', h1, hb, h2⟩
  unfold dcallF at h
  split at h
  · rename_i fn hfn
    split at h
    · rename_i c st0 hc hs
      cases hr : fn.results.isEmpty with
      | false => rw [hr] at h; cases h
      | true =>
        rw [hr] at h
        simp only [cond] at h
        split at h
        · rename_i ops o rest c' hrec
          split at h
          · rename_i st1 h1
            split at h
            · rename_i st2 h2
              obtain ⟨e, st', h3, h4, h5⟩ := fin h
              exact ⟨st'.g, by simp only [dcallG, hfn, hc, hs, hr, cond, hrec, h1, h2, h3, h4], h5⟩
            · cases h
          · cases h
        · rename_i hrec
          obtain ⟨e, st', h3, h4, h5⟩ := fin h
          exact ⟨st'.g, by simp only [dcallG, hfn, hc, hs, hr, cond, hrec, h3, h4], h5⟩
    · cases h
  · cases h
theorem evF_ok : ∀ n, EfOk P (ev P n) (evF P n)
  | 0 => ⟨fun h => (by cases h), fun h => (by cases h), fun h => (by cases h), fun h => (by cases h)⟩
  | n + 1 =>
    have hE := evF_ok n
    ⟨fun h => codeF_ok hE h, fun h => callF_ok hE h, fun h => roundF_ok hE h, fun h => dcallF_ok hE h⟩
/-- The fast run of a closed call, as a contract. -/
theorem fast_pc {f : FuncId} (n : Nat) (hmix : P.follows .mixedOrders = true) (h : (evF P n).call f [] ⟨.e, 0⟩ isT = true) : Sh.PC P f [] (.d (.bool true)) := by
  obtain ⟨v, g', h1, h2⟩ := (evF_ok n).call h
  refine ground_pc n hmix ?_
  rw [h1]
  unfold isT at h2
  split at h2
  · rfl
  · cases h2
end Go.Gd
namespace Go.Gd
variable {P : Program}
theorem fast_calls {f : FuncId} {vs : List Value} (n : Nat) (hmix : P.follows .mixedOrders = true) (h : (evF P n).call f vs ⟨.e, 0⟩ isT = true) (hl : ∀ v ∈ vs, leafB 6 v = true) (gh : Sh.Gh) (w : World) :
    Calls P f vs.toArray w fun e w' => ∃ g', e = .returned (.bool true) ∧ Sh.Fr true gh w g' w' := by
  obtain ⟨v, g', h1, h2⟩ := (evF_ok n).call h
  have hv : v = .bool true := by
    unfold isT at h2
    split at h2
    · rfl
    · cases h2
  subst hv
  have hno : ∀ i, G.get ⟨.e, 0⟩ i = none := Tr.get_e
  have hR : R (fun _ => none) ⟨.e, 0⟩ w := ⟨fun _ _ => rfl, fun i o h => (by rw [hno i] at h; cases h), fun i j a b p q h => (by rw [hno i] at h; cases h)⟩
  refine ((ev_ok hmix n).call _ _ _ _ _ h1 (fun _ => none) w vs (VRs.self fun x hx => leafB_self (hl x hx)) hR).mono fun e w' hh => ?_
  obtain ⟨ρ', y, rfl, hy, r1, k1⟩ := hh
  have hy := hy.atom_inv rfl
  subst hy
  have hkeep : ∀ k, k < w.heap.size → w'.heap[k]? = w.heap[k]? := fun k hk => k1.keep k hk fun i o p h => by rw [hno i] at h; cases h
  have key : ∀ tag, Sh.Keep tag gh w ⟨fun k => if k < w.heap.size then gh.ow k else .lst .els, gh.ρ⟩ w' := fun tag k o h1 h2 => by
    have hlt : k < w.heap.size := Sh.arr_lt h2
    exact ⟨by simp only [hlt, if_true]; exact h1, by rw [hkeep k hlt]; exact h2⟩
  exact ⟨_, rfl, k1.size, key _, key _, fun _ _ h => h, fun _ i => key _, fun _ i j => key _, fun _ => rfl, k1.os⟩
end Go.Gd
