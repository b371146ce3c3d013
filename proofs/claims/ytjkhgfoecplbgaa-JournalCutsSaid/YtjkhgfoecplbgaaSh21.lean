/- A local array taken as a slice, for good. -/
import Derived.Test.YtjkhgfoecplbgaaSh20
import Derived.Lib.ConvBytes
set_option linter.all false
set_option autoImplicit true
set_option relaxedAutoImplicit true
set_option linter.unusedVariables false
set_option linter.unusedSimpArgs false
namespace Go.Sh

def boxDs : List SV → Option (List D)
  | [] => some []
  | .d (.agg _) :: _ => none
  | .d x :: r => (boxDs r).map (x :: ·)
  | _ => none

theorem boxDs_get : ∀ {cs : List SV} {ds : List D}, boxDs cs = some ds → ds.length = cs.length ∧ ∀ (i : Nat) (x : D), ds[i]? = some x → cs[i]? = some (.d x) ∧ x.cells = [x]
  | [], ds, h => by simp [boxDs] at h; subst h; simp
  | s :: r, ds, h => by
    have key : ∃ x ds', s = .d x ∧ x.cells = [x] ∧ boxDs r = some ds' ∧ ds = x :: ds' := by
      cases s with
      | d x =>
        cases x <;> simp only [boxDs, Option.map_eq_some_iff, reduceCtorEq] at h
        all_goals (obtain ⟨ds', h1, rfl⟩ := h; exact ⟨_, ds', rfl, rfl, h1, rfl⟩)
      | _ => simp [boxDs] at h
    obtain ⟨x, ds', rfl, hx, h1, rfl⟩ := key
    obtain ⟨hl, hg⟩ := boxDs_get h1
    refine ⟨by simp [hl], fun i y hi => ?_⟩
    cases i with
    | zero => simp at hi; subst hi; exact ⟨rfl, hx⟩
    | succ i => simpa using hg i y (by simpa using hi)

section
variable {P : Program} {pu : Bool} {st : St} {ops : Array Oper} {k : Nat} {Q : St → Prop}

theorem OpS.sliceBox {o : Oper} {T : TypeId} {s d n e : Nat} {cs : List SV} {ds : List D} (hop : o.op = .slice T (.tmp s) none none none) (hd : o.dst = some d) (hs : st.tmps[s]? = some (.box cs)) (hT : P.underlying T = some (.array n e)) (hn : n = cs.length) (hds : boxDs cs = some ds) (hi : (P.info? e).isSome = true) :
    OpS P pu st o ((st.take s).put (some d) (.d (.list 1 ds))) := by
  refine OpS.value fun a w g hr => ?_
  obtain ⟨bk, c, BT, hv, ho, hb, hsz, hc⟩ := hr.tmp s _ hs
  obtain ⟨dl, dg⟩ := boxDs_get hds
  have hlen : P.arrayLen T = n := by simp [Program.arrayLen, hT]
  have hel : P.elem T = e := by simp [Program.elem, hT]
  have hT' : P.underlying T = some (.array (P.arrayLen T) (P.elem T)) := by rw [hlen, hel]; exact hT
  let rn : Own → Own := fun o' => if o' = .box s then .free else o'
  have rnO : ∀ {o'}, o' ≠ .box s → rn o' = o' := fun h => by simp [rn, h]
  have hexec : (execOp a.eval o).run P w = .ok (.value (.slice (some ⟨bk, 0, none⟩) n n)) w := by
    have hx : a.eval (.tmp s) = .pointer (some ⟨bk, 0, none⟩) := hv
    unfold execOp
    rw [hop]
    simp only [Option.map_none, hx, Sem.run_bind]
    obtain ⟨inf, hinf⟩ := Option.isSome_iff_exists.1 hi
    rw [run_sliceAt_array_all (P := P) w T ⟨bk, 0, none⟩ hT']
    have hsz : (sizeOf (P.elem T)).run P w = .ok inf.size w := by simp [sizeOf, typeInfo, hel, hinf]
    rw [hsz]
    simp [slicedAt, hlen, Addr.add_lit]
  refine ⟨_, w, g.ren rn, hexec, ?_, Nat.le_refl _, Keep.ren (rnO (by simp)), Keep.ren (rnO (by simp)), fun _ _ h => h, fun _ i => Keep.ren (rnO (by simp)), fun _ i j => Keep.ren (rnO (by simp)), fun _ => rfl, ⟨rfl, rfl⟩⟩
  rw [hd]
  refine Rel.step hr (by rw [put_size, St.put_len, St.take_len]; exact hr.len) (by rw [put_defers]; exact hr.def0) (fun _ _ h => h) (fun t s' hs' => ?_) ?_
  · by_cases ht : t = d
    · subst ht
      obtain ⟨rfl, hlt⟩ := St.put_get_same hs'
      refine .inr (.inl ?_)
      rw [valOf_put_same (by rw [hr.len]; simpa using hlt)]
      refine (Rd.list (g := g.ren rn) (w := w) (k := bk) (off := 0) (len := n) (cap := n) (n := 1) (xs := ds) (c := c) (T := BT) (fz := (0, 0)) (fun i _ => c[i]?.getD undef) (by simp [Gh.ren, ho, rn]) hb (by omega) (Nat.le_refl _) (fun i x hx => ?_) (fun i x hx j y hy => ?_) (fun i x hx j y hy => ?_) : Rd _ _ _ _)
      · rw [(dg i x hx).2]; rfl
      · rw [(dg i x hx).2] at hy
        have hj : j = 0 := by cases j <;> simp at hy ⊢
        subst hj
        obtain ⟨u, e1, e2, e3⟩ := hc i _ (dg i x hx).1
        simp only [Nat.mul_one, Nat.zero_add, Nat.add_zero, e1, Option.getD_some]
        exact ⟨trivial, e3⟩
      · rw [(dg i x hx).2] at hy
        have hj : j = 0 := by cases j <;> simp at hy ⊢
        subst hj
        simp at hy
        subst hy
        obtain ⟨u, e1, e2, e3⟩ := hc i _ (dg i x hx).1
        simp only [e1, Option.getD_some]
        exact Rd.keep (Keep.ren (rnO (by simp))) (fun _ _ h => h) (e2 : Rd g w u x)
    · rcases other_slot hr (st1 := st.take s) (.slice (some ⟨bk, 0, none⟩) n n) (fun t s h => (St.take_get h).imp id fun h => h.1) (fun t s x h s1 e hx hb => St.take_box h s1 e hx hb) (by simpa using Ne.symm ht) hs' with h | ⟨h1, h2, h3, h4, h5⟩
      · exact .inl h
      · rcases St.take_get h1 with h | ⟨-, h6, h7⟩
        · exact .inl h
        · exact .inr (.inr ⟨h2, h3, fun o' ho' => Keep.ren (rnO (uses_mention h6 h7 ho').1), h5⟩)
  · rw [St.put_H, St.take_H]
    exact RH.keep (g := g) (w := w) (fun o' ho' => Keep.ren (rnO fun e => by subst e; exact ho'.elim)) (fun _ _ h => h) rfl hr.hp

/-- A local array of single cells, taken whole. -/
def slBoxAt (P : Program) (ops : Array Oper) (k : Nat) (st : St) : Option (Nat × Nat × List D) :=
  match opAt ops k st with
  | some o => match o.op, o.dst with
    | .slice T (.tmp s) none none none, some d => match st.tmps[s]?, P.underlying T with
      | some (.box cs), some (.array n e) => match boxDs cs with
        | some ds => if n == cs.length && (P.info? e).isSome then some (s, d, ds) else none
        | none => none
      | _, _ => none
    | _, _ => none
  | none => none

theorem OWk.slb {s d : Nat} {ds : List D} (n : Nat) (H : List SObj) (L : List Nat) (l : List (Nat × SV)) (h : slBoxAt P ops k st = some (s, d, ds)) (hst : pickR n L ((st.take s).put (some d) (.d (.list 1 ds))) = some (l, H)) (hn : OWk P pu ops (k + 1) (sp n l H) Q) : OWk P pu ops k st Q := by
  unfold slBoxAt at h
  split at h
  · rename_i o ho
    split at h
    · rename_i T s' d' hop hd
      split at h
      · rename_i cs n' e hs hT
        split at h
        · rename_i ds' hds
          split at h
          · rename_i hc
            simp only [Bool.and_eq_true, beq_iff_eq] at hc
            simp only [Option.some.injEq, Prod.mk.injEq] at h
            obtain ⟨rfl, rfl, rfl⟩ := h
            obtain ⟨h1, h2⟩ := opAt_inv ho
            exact OWk.e h1 h2 (OpS.sliceBox hop hd hs hT hc.1 hds hc.2) (OWk.keep L (keepR_of_pick hst) hn)
          · cases h
        · cases h
      · cases h
    · cases h
  · cases h
end
end Go.Sh

namespace Go.Sh
section
variable {P : Program} {pu : Bool} {st : St} {ops : Array Oper} {k : Nat} {Q : St → Prop}

/-- '[]byte(s)': a new row, for good. -/
theorem OpS.toBytes {o : Oper} {src dst e : TypeId} {x : Operand} {l : List UInt8} {u : TypeDesc} (hop : o.op = .convert src dst x) (hx : valD st x = some (.str l)) (hs : P.underlying src = some u) (hd : P.underlying dst = some (.slice e)) (he : P.underlying e = some (.int .u8)) :
    OpS P pu st o (st.put o.dst (.d (.list 1 (byteDs l)))) := by
  refine OpS.value fun a w g hr => ?_
  have hex : a.eval x = .string (mk l) := valD_leaf hr hx rfl
  have hexec : (execOp a.eval o).run P w = .ok (.value (.slice (some ⟨w.heap.size, 0, none⟩) (mk l).size (grownCap w (mk l).size 0 e))) (Lib.bytesWorld w e (mk l)) := by
    unfold execOp
    rw [hop]
    simp only [hex]
    exact run_v2 _ (Lib.run_convert_string_bytes w src dst e (mk l) hs hd he)
  have hlt : ∀ {k : Nat} {b : Obj}, w.heap[k]? = some b → k < w.heap.size := fun h => by
    rcases Nat.lt_or_ge _ w.heap.size with h' | h'
    · exact h'
    · simp [Array.getElem?_eq_none h'] at h
  have hkeep : ∀ o', Keep o' g w (g.upd w.heap.size .free) (Lib.bytesWorld w e (mk l)) := fun o' k b h1 h2 => by
    have := hlt h2
    exact ⟨by rw [Gh.upd_other _ _ (by omega)]; exact h1, by rw [Lib.bytesWorld_at_old w e _ k this]; exact h2⟩
  refine ⟨_, _, g.upd w.heap.size .free, hexec, Rel.putLight (hr.world (fun o' => hkeep o') (fun _ _ h => h) rfl) o.dst ?_, ⟨by rw [Lib.bytesWorld_size]; omega, hkeep _, hkeep _, fun _ _ h => h, fun _ i => hkeep _, fun _ i j => hkeep _, fun _ => rfl, ⟨rfl, rfl⟩⟩⟩
  show Rd _ _ _ (.list 1 (byteDs l))
  have hb := Lib.bytesWorld_at_new w e (mk l)
  have hcell : ∀ (i : Nat) (y : D), (byteDs l)[i]? = some y → ∃ b : UInt8, y = .int .u8 b.toNat ∧ l[i]? = some b := fun i y hy => by
    simp only [byteDs, List.getElem?_map, Option.map_eq_some_iff] at hy
    obtain ⟨b, h1, h2⟩ := hy
    exact ⟨b, h2.symm, h1⟩
  refine Rd.list (k := w.heap.size) (off := 0) (n := 1) (xs := byteDs l) (fun i _ => .int .u8 ((l.getD i 0).toNat)) (by simp) hb (by simp [byteDs, mk_size]) (by have := grownCap_ge w (mk l).size 0 e; omega) (fun i y hy => ?_) (fun i y hy j z hz => ?_) (fun i y hy j z hz => ?_)
  · obtain ⟨b, rfl, -⟩ := hcell i y hy; rfl
  · obtain ⟨b, rfl, h1⟩ := hcell i y hy
    have hj : j = 0 := by cases j <;> simp [D.cells] at hz ⊢
    subst hj
    refine ⟨?_, rfl⟩
    have hi : i < l.length := by
      rcases Nat.lt_or_ge i l.length with h' | h'
      · exact h'
      · simp [List.getElem?_eq_none h'] at h1
    have hm : (mk l).data = ⟨l⟩ := rfl
    simp only [Lib.bytesCells, Nat.zero_add, Nat.mul_one, Nat.add_zero]
    rw [Array.getElem?_append_left (by simpa [hm] using hi)]
    simp [hm, h1, List.getD_eq_getElem?_getD]
  · obtain ⟨b, rfl, h1⟩ := hcell i y hy
    have hj : j = 0 := by cases j <;> simp [D.cells] at hz ⊢
    subst hj
    simp only [D.cells, List.getElem?_cons_zero, Option.some.injEq] at hz
    subst hz
    simp only [List.getD_eq_getElem?_getD, h1, Option.getD_some]
    exact .int

def toBytesAt (P : Program) (ops : Array Oper) (k : Nat) (st : St) : Option (Option Tmp × List UInt8) :=
  match opAt ops k st with
  | some o => match o.op with
    | .convert src dst x => match valD st x, P.underlying src, P.underlying dst with
      | some (.str l), some u, some (.slice e) => match P.underlying e with
        | some (.int .u8) => some (o.dst, l)
        | _ => none
      | _, _, _ => none
    | _ => none
  | none => none

theorem OWk.tb {d : Option Tmp} {s : List UInt8} (n : Nat) (H : List SObj) (L : List Nat) (l : List (Nat × SV)) (h : toBytesAt P ops k st = some (d, s)) (hst : pickR n L (st.put d (.d (.list 1 ((nums s).map (D.int .u8))))) = some (l, H)) (hn : OWk P pu ops (k + 1) (sp n l H) Q) : OWk P pu ops k st Q := by
  rw [← byteDs_nums] at hst
  unfold toBytesAt at h
  split at h
  · rename_i o ho
    split at h
    · rename_i src dst x hop
      split at h
      · rename_i l' u e hx hs hd
        split at h
        · rename_i he
          simp only [Option.some.injEq, Prod.mk.injEq] at h
          obtain ⟨rfl, rfl⟩ := h
          obtain ⟨h1, h2⟩ := opAt_inv ho
          exact OWk.e h1 h2 (OpS.toBytes hop hx hs hd he) (OWk.keep L (keepR_of_pick hst) hn)
        · cases h
      · cases h
    · cases h
  · cases h
end
end Go.Sh
