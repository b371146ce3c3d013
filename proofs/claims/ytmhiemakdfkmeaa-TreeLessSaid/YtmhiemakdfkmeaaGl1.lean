/- TreeLess holds for every input. -/
import Derived.Test.YtmhiemakdfkmeaaH1
import Derived.Test.YtmhiemakdfkmeaaRows
set_option linter.all false
set_option autoImplicit true
set_option relaxedAutoImplicit true
set_option maxRecDepth 100000
namespace Go.Sh
open Go.Proofs
def okSorting (x : Sorting) : Prop := (∀ y ∈ x.Kinds, (Lit.int .i64 y).wf = true) ∧ (∀ y ∈ x.Down, True) ∧ (Lit.int .i64 x.Dup).wf = true
theorem rdrSorting {W : World} : Rdr Try.prog W 25 3 encSorting okSorting := ⟨fun _ => rfl, by kernel_rfl, fun hx => by
  obtain ⟨a0, k0, e0⟩ := fldR (j := 0) (tj := 22) (oj := 0) (by kernel_rfl) (Rdr.list (t := 22) (Rdr.int (t := 3) (k := .i64) (by kernel_rfl) (by kernel_rfl)) (by decide) (by kernel_rfl) (by kernel_rfl)) hx
  obtain ⟨a1, k1, e1⟩ := fldR (j := 1) (tj := 23) (oj := 1) (by kernel_rfl) (Rdr.list (t := 23) (Rdr.bool (t := 4) (by kernel_rfl) (by kernel_rfl)) (by decide) (by kernel_rfl) (by kernel_rfl)) hx
  obtain ⟨a2, k2, e2⟩ := fldR (j := 2) (tj := 3) (oj := 2) (by kernel_rfl) (Rdr.int (t := 3) (k := .i64) (by kernel_rfl) (by kernel_rfl)) hx
  refine ⟨⟨a0, a1, a2⟩, ⟨k0, k1, k2⟩, fun j y hj => ?_⟩
  match j, hj with
  | 0, hj => exact e0 0 _ hj
  | 1, hj => exact e1 0 _ hj
  | 2, hj => exact e2 0 _ hj
  | j + 3, hj => simp [encSorting, Go.Sh.D.cells] at hj⟩
def okValue (x : Value) : Prop := (Lit.int .i64 x.Kind).wf = true ∧ (Lit.int .i64 x.N).wf = true ∧ True
theorem rdrValue {W : World} : Rdr Try.prog W 57 3 encValue okValue := ⟨fun _ => rfl, by kernel_rfl, fun hx => by
  obtain ⟨a0, k0, e0⟩ := fldR (j := 0) (tj := 3) (oj := 0) (by kernel_rfl) (Rdr.int (t := 3) (k := .i64) (by kernel_rfl) (by kernel_rfl)) hx
  obtain ⟨a1, k1, e1⟩ := fldR (j := 1) (tj := 3) (oj := 1) (by kernel_rfl) (Rdr.int (t := 3) (k := .i64) (by kernel_rfl) (by kernel_rfl)) hx
  obtain ⟨a2, k2, e2⟩ := fldR (j := 2) (tj := 9) (oj := 2) (by kernel_rfl) (Rdr.str (t := 9) (by kernel_rfl) (by kernel_rfl)) hx
  refine ⟨⟨a0, a1, a2⟩, ⟨k0, k1, k2⟩, fun j y hj => ?_⟩
  match j, hj with
  | 0, hj => exact e0 0 _ hj
  | 1, hj => exact e1 0 _ hj
  | 2, hj => exact e2 0 _ hj
  | j + 3, hj => simp [encValue, Go.Sh.D.cells] at hj⟩
def okEntry (x : Entry) : Prop := (∀ y ∈ x.Row, okValue y) ∧ (Lit.int .i64 x.Key).wf = true ∧ (Lit.int .i64 x.Number).wf = true
theorem rdrEntry {W : World} : Rdr Try.prog W 28 3 encEntry okEntry := ⟨fun _ => rfl, by kernel_rfl, fun hx => by
  obtain ⟨a0, k0, e0⟩ := fldR (j := 0) (tj := 26) (oj := 0) (by kernel_rfl) (Rdr.list (t := 26) rdrValue (by decide) (by kernel_rfl) (by kernel_rfl)) hx
  obtain ⟨a1, k1, e1⟩ := fldR (j := 1) (tj := 3) (oj := 1) (by kernel_rfl) (Rdr.int (t := 3) (k := .i64) (by kernel_rfl) (by kernel_rfl)) hx
  obtain ⟨a2, k2, e2⟩ := fldR (j := 2) (tj := 3) (oj := 2) (by kernel_rfl) (Rdr.int (t := 3) (k := .i64) (by kernel_rfl) (by kernel_rfl)) hx
  refine ⟨⟨a0, a1, a2⟩, ⟨k0, k1, k2⟩, fun j y hj => ?_⟩
  match j, hj with
  | 0, hj => exact e0 0 _ hj
  | 1, hj => exact e1 0 _ hj
  | 2, hj => exact e2 0 _ hj
  | j + 3, hj => simp [encEntry, Go.Sh.D.cells] at hj⟩
end Go.Sh
namespace Go.Proofs
open Go.Sh Go.ChangeShapes Go.WideShapes Go.ChangeAt Go.RowKit Go.Proofs.Ytmhiemakdfkmeaa
theorem own' : ownKnob Try.prog.godebug = none := by kernel_rfl
theorem laid' : laidOutB Try.prog = true := by kernel_rfl
theorem rec25 : Try.prog.readableRec 25 = true := by kernel_rfl
theorem rec28 : Try.prog.readableRec 28 = true := by kernel_rfl
theorem u4 : Try.prog.underlying 4 = some .bool := by kernel_rfl
theorem params' : Try.f3.params = #[25, 28, 28, 28] := by kernel_rfl
theorem contract' (H : Type) (enc : TypeId × Value → H) (W : World) (base : Nat) (args : Array Value) (ds gs : List (DataW H)) (before : List MemPlace)
    (hval : ∀ (j : Nat) t v, Try.f3.params[j]? = some t → args[j]? = some v → Value.okWide Try.prog W .any base t v)
    (hW : DataW.Whole enc Try.prog Try.f3.params.toList Rows.treeLessSpec.vars false W args.toList ds gs before) :
    Calls Try.prog 3 args W fun e W' => ∃ v, e = .returned v ∧ Rows.treeLessSpec.post enc Try.prog Try.f3 false true false false W args v W' := by
  have hW' := hW
  obtain ⟨p, q, hA0, hV, rfl, hfz, hnd⟩ := hW
  have hA : DataW.TrodAll enc Try.prog W 0 (fun _ => true) true Try.f3.params.toList args.toList ds p := hA0
  rw [params'] at hA hval
  obtain ⟨v0, vs0, d0, ds0, p0, q0, hargs, rfl, rfl, h0, r0⟩ := trodAll_cons hA
  obtain ⟨v1, vs1, d1, ds1, p1, q1, rfl, rfl, rfl, h1, r1⟩ := trodAll_cons r0
  obtain ⟨v2, vs2, d2, ds2, p2, q2, rfl, rfl, rfl, h2, r2⟩ := trodAll_cons r1
  obtain ⟨v3, vs3, d3, ds3, p3, q3, rfl, rfl, rfl, h3, r3⟩ := trodAll_cons r2
  obtain ⟨rfl, rfl, rfl⟩ := trodAll_nil r3
  obtain rfl : args = #[v0, v1, v2, v3] := by cases args; simp_all
  obtain ⟨rfl, rfl⟩ := trodVars_none hV
  obtain ⟨a0, k0, hs0⟩ := Rdr.top_struct rdrSorting (by kernel_rfl) (fun _ => rfl) (hval 0 25 v0 rfl rfl) h0
  obtain ⟨a1, k1, hs1⟩ := Rdr.top_struct rdrEntry (by kernel_rfl) (fun _ => rfl) (hval 1 28 v1 rfl rfl) h1
  obtain ⟨a2, k2, hs2⟩ := Rdr.top_struct rdrEntry (by kernel_rfl) (fun _ => rfl) (hval 2 28 v2 rfl rfl) h2
  obtain ⟨a3, k3, hs3⟩ := Rdr.top_struct rdrEntry (by kernel_rfl) (fun _ => rfl) (hval 3 28 v3 rfl rfl) h3
  obtain ⟨N, hN⟩ := treeLess_ev a0 a1 a2 a3 (wf_i64 k1.2.2) (wf_i64 k2.2.2) (wf_i64 k3.2.2)
  have hpc := l_TreeLess_ok (hN N (Nat.le_refl _)) [] W g0 #[v0, v1, v2, v3] (by
    refine ⟨rfl, fun j sv hj => ?_⟩
    match j, hj with
    | 0, hj => cases hj; exact ⟨_, rfl, hs0⟩
    | 1, hj => cases hj; exact ⟨_, rfl, hs1⟩
    | 2, hj => cases hj; exact ⟨_, rfl, hs2⟩
    | 3, hj => cases hj; exact ⟨_, rfl, hs3⟩
    | j + 4, hj => simp at hj) ⟨rfl, fun i o hi => by simp at hi⟩
  refine hpc.mono fun e W' hh => ?_
  obtain ⟨v, g', rfl, hres, -, hf⟩ := hh
  have hb : v = .bool true := by
    have : Rd g' W' v (.bool true) := hres
    cases this; rfl
  subst hb
  have hlt := hW'.lt
  refine ⟨_, rfl, post_same (pa := (p0 ++ (p1 ++ (p2 ++ (p3 ++ []))))) (pv := []) hW' (fun _ _ _ => (trodAll_cons_mk (shut_bool u4 _) trodAll_mk0)) (fun sp hsp => ?_) (fun _ _ => rfl) rfl (hf.kept _) (fun x hx => hf.fz hx) (ok_one (by kernel_rfl) rfl (okWide_bool_mk u4 _))⟩
  have m0 : ∀ x ∈ p0, x ∈ (p0 ++ (p1 ++ (p2 ++ (p3 ++ [])))) ++ ([] : List MemPlace) := fun x hx => by simp [hx]
  have m1 : ∀ x ∈ p1, x ∈ (p0 ++ (p1 ++ (p2 ++ (p3 ++ [])))) ++ ([] : List MemPlace) := fun x hx => by simp [hx]
  have m2 : ∀ x ∈ p2, x ∈ (p0 ++ (p1 ++ (p2 ++ (p3 ++ [])))) ++ ([] : List MemPlace) := fun x hx => by simp [hx]
  have m3 : ∀ x ∈ p3, x ∈ (p0 ++ (p1 ++ (p2 ++ (p3 ++ [])))) ++ ([] : List MemPlace) := fun x hx => by simp [hx]
  show DataW.TrodAll enc Try.prog W' 0 sp true Try.f3.params.toList _ _ _
  rw [params']
  refine trodAll_cons_mk (WideElems.Trod_stays laid' rec25 (of_decide_eq_true (by kernel_rfl)) h0 (fun x hx => hf.same (hlt x (m0 x hx))) (fun x hx => hsp x (m0 x hx))) ?_
  refine trodAll_cons_mk (WideElems.Trod_stays laid' rec28 (of_decide_eq_true (by kernel_rfl)) h1 (fun x hx => hf.same (hlt x (m1 x hx))) (fun x hx => hsp x (m1 x hx))) ?_
  refine trodAll_cons_mk (WideElems.Trod_stays laid' rec28 (of_decide_eq_true (by kernel_rfl)) h2 (fun x hx => hf.same (hlt x (m2 x hx))) (fun x hx => hsp x (m2 x hx))) ?_
  exact trodAll_cons_mk (WideElems.Trod_stays laid' rec28 (of_decide_eq_true (by kernel_rfl)) h3 (fun x hx => hf.same (hlt x (m3 x hx))) (fun x hx => hsp x (m3 x hx))) trodAll_mk0
theorem lifted' (os : Os) (started : os.Started) (H : Type) (enc : TypeId × Value → H) :
    ReturnsInHanded {} Try.checked os 3 .any (Rows.treeLessSpec.pre6 enc Try.prog Try.f3 Rows.treeLessRow.domain false) (Rows.treeLessSpec.post enc Try.prog Try.f3 false true false false) := by
  refine returnsInHanded_of_change (C := Try.checked) own' started (by kernel_rfl) Try.func3
    (ChangeSpec.witness6 (enc := enc) (C := Try.checked) false ⟨#[], #[.agg #[.slice none 0 0, .slice none 0 0, .int .i64 0], .agg #[.slice none 0 0, .int .i64 0, .int .i64 0], .agg #[.slice none 0 0, .int .i64 0, .int .i64 0], .agg #[.slice none 0 0, .int .i64 0, .int .i64 0]], []⟩ 8 (by kernel_rfl) (by kernel_rfl) (by kernel_rfl) (by kernel_rfl) (by kernel_rfl)) ?_
  intro W base args ds gs before hval hW _ _
  exact contract' H enc W base args ds gs before hval hW
theorem Ytmhiemakdfkmeaa.treeLess_holds : Rows.TreeLessSaid :=
  OpenClaim.holds_of_wide 3 Try.f3 rfl rfl rfl rfl rfl rfl rfl ⟨rfl, rfl, rfl, rfl, rfl⟩ rfl rfl rfl rfl rfl (by kernel_rfl) Try.func3 (by kernel_rfl)
    (of_decide_eq_true (by kernel_rfl)) (by unfold Func.isWrapper; first | (rw [if_pos (by decide +kernel)]; kernel_rfl) | (rw [if_neg (by decide +kernel)]; exact ⟨rfl, rfl⟩))
    (fun os started H enc _ => lifted' os started H enc)
#print axioms Ytmhiemakdfkmeaa.treeLess_holds
end Go.Proofs
