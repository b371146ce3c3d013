/- TreeWrong holds for every input. -/
import Derived.Test.YtmhiemakdfkmeaaH1
import Derived.Test.YtmhiemakdfkmeaaRows
set_option linter.all false
set_option autoImplicit true
set_option relaxedAutoImplicit true
set_option maxRecDepth 100000
namespace Go.Sh
open Go.Proofs
open Go.Proofs.Ytmhiemakdfkmeaa.Rows (uptoBulk uptoBulkAll)
def wx (x : ah) : Prop := (x.aq.length ≤ 1048576 ∧ ∀ y ∈ x.aq, (Lit.int .i64 y).wf = true) ∧ (x.Down.length ≤ 1048576 ∧ ∀ y ∈ x.Down, True) ∧ (Lit.int .i64 x.Dup).wf = true
theorem uy {W : World} : dK Try.prog W 25 3 bo wx 1048576 := ⟨fun _ => rfl, by kernel_rfl, fun hx hB => by
 obtain ⟨a0, k0, e0⟩ := jE (j := 0) (tj := 22) (oj := 0) (by kernel_rfl) (dK.list (t := 22) (dK.int (t := 3) (k := .i64) (by kernel_rfl) (by kernel_rfl)) (by decide) (by kernel_rfl) (by kernel_rfl)) hx hB
 obtain ⟨a1, k1, e1⟩ := jE (j := 1) (tj := 23) (oj := 1) (by kernel_rfl) (dK.list (t := 23) (dK.bool (t := 4) (by kernel_rfl) (by kernel_rfl)) (by decide) (by kernel_rfl) (by kernel_rfl)) hx hB
 obtain ⟨a2, k2, e2⟩ := jE (j := 2) (tj := 3) (oj := 2) (by kernel_rfl) (dK.int (t := 3) (k := .i64) (by kernel_rfl) (by kernel_rfl)) hx hB
 refine ⟨⟨a0, a1, a2⟩, ⟨k0, k1, k2⟩, fun j y hj => ?_⟩
 match j, hj with
 | 0, hj => exact e0 0 _ hj
 | 1, hj => exact e1 0 _ hj
 | 2, hj => exact e2 0 _ hj
 | j + 3, hj => simp [bo, Go.Sh.D.cells] at hj⟩
def vx (x : Value) : Prop := (Lit.int .i64 x.Kind).wf = true ∧ (Lit.int .i64 x.N).wf = true ∧ True
theorem xm {W : World} : dK Try.prog W 57 3 ag vx 1048576 := ⟨fun _ => rfl, by kernel_rfl, fun hx hB => by
 obtain ⟨a0, k0, e0⟩ := jE (j := 0) (tj := 3) (oj := 0) (by kernel_rfl) (dK.int (t := 3) (k := .i64) (by kernel_rfl) (by kernel_rfl)) hx hB
 obtain ⟨a1, k1, e1⟩ := jE (j := 1) (tj := 3) (oj := 1) (by kernel_rfl) (dK.int (t := 3) (k := .i64) (by kernel_rfl) (by kernel_rfl)) hx hB
 obtain ⟨a2, k2, e2⟩ := jE (j := 2) (tj := 9) (oj := 2) (by kernel_rfl) (dK.str (t := 9) (by kernel_rfl) (by kernel_rfl)) hx hB
 refine ⟨⟨a0, a1, a2⟩, ⟨k0, k1, k2⟩, fun j y hj => ?_⟩
 match j, hj with
 | 0, hj => exact e0 0 _ hj
 | 1, hj => exact e1 0 _ hj
 | 2, hj => exact e2 0 _ hj
 | j + 3, hj => simp [ag, Go.Sh.D.cells] at hj⟩
def vy (x : Entry) : Prop := (x.Row.length ≤ 1048576 ∧ ∀ y ∈ x.Row, vx y) ∧ (Lit.int .i64 x.Key).wf = true ∧ (Lit.int .i64 x.Number).wf = true
theorem xn {W : World} : dK Try.prog W 28 3 ab vy 1048576 := ⟨fun _ => rfl, by kernel_rfl, fun hx hB => by
 obtain ⟨a0, k0, e0⟩ := jE (j := 0) (tj := 26) (oj := 0) (by kernel_rfl) (dK.list (t := 26) xm (by decide) (by kernel_rfl) (by kernel_rfl)) hx hB
 obtain ⟨a1, k1, e1⟩ := jE (j := 1) (tj := 3) (oj := 1) (by kernel_rfl) (dK.int (t := 3) (k := .i64) (by kernel_rfl) (by kernel_rfl)) hx hB
 obtain ⟨a2, k2, e2⟩ := jE (j := 2) (tj := 3) (oj := 2) (by kernel_rfl) (dK.int (t := 3) (k := .i64) (by kernel_rfl) (by kernel_rfl)) hx hB
 refine ⟨⟨a0, a1, a2⟩, ⟨k0, k1, k2⟩, fun j y hj => ?_⟩
 match j, hj with
 | 0, hj => exact e0 0 _ hj
 | 1, hj => exact e1 0 _ hj
 | 2, hj => exact e2 0 _ hj
 | j + 3, hj => simp [ab, Go.Sh.D.cells] at hj⟩
def xy (x : Node) : Prop := (Lit.int .i64 x.Level).wf = true ∧ (x.Entries.length ≤ 1048576 ∧ ∀ y ∈ x.Entries, vy y) ∧ (x.Kids.length ≤ 1048576 ∧ ∀ y ∈ x.Kids, (Lit.int .i64 y).wf = true)
theorem za {W : World} : dK Try.prog W 40 3 aI xy 1048576 := ⟨fun _ => rfl, by kernel_rfl, fun hx hB => by
 obtain ⟨a0, k0, e0⟩ := jE (j := 0) (tj := 3) (oj := 0) (by kernel_rfl) (dK.int (t := 3) (k := .i64) (by kernel_rfl) (by kernel_rfl)) hx hB
 obtain ⟨a1, k1, e1⟩ := jE (j := 1) (tj := 38) (oj := 1) (by kernel_rfl) (dK.list (t := 38) xn (by decide) (by kernel_rfl) (by kernel_rfl)) hx hB
 obtain ⟨a2, k2, e2⟩ := jE (j := 2) (tj := 22) (oj := 2) (by kernel_rfl) (dK.list (t := 22) (dK.int (t := 3) (k := .i64) (by kernel_rfl) (by kernel_rfl)) (by decide) (by kernel_rfl) (by kernel_rfl)) hx hB
 refine ⟨⟨a0, a1, a2⟩, ⟨k0, k1, k2⟩, fun j y hj => ?_⟩
 match j, hj with
 | 0, hj => exact e0 0 _ hj
 | 1, hj => exact e1 0 _ hj
 | 2, hj => exact e2 0 _ hj
 | j + 3, hj => simp [aI, Go.Sh.D.cells] at hj⟩
end Go.Sh
namespace Go.Proofs
open Go.Sh Go.ChangeShapes Go.WideShapes Go.ChangeAt Go.RowKit Go.Proofs.Ytmhiemakdfkmeaa
theorem inB {s : Sh.ah} {l : List Sh.Node} (k : l.length ≤ 1048576 ∧ ∀ y ∈ l, xy y) : InB s l :=
 ⟨by have := k.1; omega, fun x hx => by
  obtain ⟨q1, ⟨q2, q3⟩, ⟨q4, _⟩⟩ := k.2 x hx
  exact ⟨by omega, by omega, vi q1, fun e he => vi (q3 e he).2.2⟩⟩
theorem CB : ownKnob Try.prog.godebug = none := by kernel_rfl
theorem zY : laidOutB Try.prog = true := by kernel_rfl
theorem Bs : Try.prog.readableRec 25 = true := by kernel_rfl
theorem u3 : Try.prog.underlying 3 = some (.int .i64) := by kernel_rfl
theorem Br : Try.prog.readableRec 37 = true := by kernel_rfl
theorem u4 : Try.prog.underlying 4 = some .bool := by kernel_rfl
theorem vv : Try.f4.params = #[25, 3, 3, 37] := by kernel_rfl
theorem wM (H : Type) (enc : TypeId × Value → H) (W : World) (base : Nat) (args : Array Value) (ds gs : List (DataW H)) (before : List MemPlace)
  (hval : ∀ (j : Nat) t v, Try.f4.params[j]? = some t → args[j]? = some v → Value.okWide Try.prog W .any base t v)
  (hW : DataW.Whole enc Try.prog Try.f4.params.toList Rows.treeWrongSpec.vars false W args.toList ds gs before) (hkk : Rows.uptoSmall H (ds ++ gs) = true) :
  Calls Try.prog 4 args W fun e W' => ∃ v, e = .returned v ∧ Rows.treeWrongSpec.post enc Try.prog Try.f4 false true false false W args v W' := by
 have hW' := hW
 obtain ⟨p, q, hA0, hV, rfl, hfz, hnd⟩ := hW
 have hA : DataW.TrodAll enc Try.prog W 0 (fun _ => true) true Try.f4.params.toList args.toList ds p := hA0
 rw [vv] at hA hval
 obtain ⟨v0, vs0, d0, ds0, p0, q0, hargs, rfl, rfl, h0, r0⟩ := trodAll_cons hA
 obtain ⟨v1, vs1, d1, ds1, p1, q1, rfl, rfl, rfl, h1, r1⟩ := trodAll_cons r0
 obtain ⟨v2, vs2, d2, ds2, p2, q2, rfl, rfl, rfl, h2, r2⟩ := trodAll_cons r1
 obtain ⟨v3, vs3, d3, ds3, p3, q3, rfl, rfl, rfl, h3, r3⟩ := trodAll_cons r2
 obtain ⟨rfl, rfl, rfl⟩ := trodAll_nil r3
 obtain rfl : args = #[v0, v1, v2, v3] := by cases args; simp_all
 obtain ⟨rfl, rfl⟩ := trodVars_none hV
 have hBk : Rows.uptoBulkAll ([d0, d1, d2, d3] ++ ([] : List (DataW H))) ≤ 1048576 := of_decide_eq_true hkk
 have hB0 : Rows.uptoBulk d0 ≤ 1048576 := Nat.le_trans (kB (by simp)) hBk
 have hB3 : Rows.uptoBulk d3 ≤ 1048576 := Nat.le_trans (kB (by simp)) hBk
 obtain ⟨a0, k0, hs0⟩ := dK.uc uy (by kernel_rfl) (fun _ => rfl) (hval 0 25 v0 rfl rfl) h0 hB0
 obtain ⟨a1, rfl, rfl, rfl, k1⟩ := open_int u3 (hval 1 3 v1 rfl rfl) h1
 obtain ⟨a2, rfl, rfl, rfl, k2⟩ := open_int u3 (hval 2 3 v2 rfl rfl) h2
 obtain ⟨a3, k3, hs3⟩ := dK.w9 (dK.list (t := 37) za (by decide) (by kernel_rfl) (by kernel_rfl)) (by kernel_rfl) (fun _ => rfl) (hval 3 37 v3 rfl rfl) h3 hB3
 obtain ⟨N, hN⟩ := rA (s := a0) (order := a1) (last := a2) (nodes := a3) (inB k3)
 have hpc := pC (hN N (Nat.le_refl _)) [] W g0 #[v0, .int .i64 a1, .int .i64 a2, v3] (by
  refine ⟨rfl, fun j sv hj => ?_⟩
  match j, hj with
  | 0, hj => cases hj; exact ⟨_, rfl, hs0⟩
  | 1, hj => cases hj; exact ⟨_, rfl, (.int : Rd g0 W _ _)⟩
  | 2, hj => cases hj; exact ⟨_, rfl, (.int : Rd g0 W _ _)⟩
  | 3, hj => cases hj; exact ⟨_, rfl, hs3⟩
  | j + 4, hj => simp at hj) ⟨rfl, fun i o hi => by simp at hi⟩
 refine hpc.mono fun e W' hh => ?_
 obtain ⟨v, g', rfl, hres, -, hf⟩ := hh
 have hb : v = .bool true := by
  have : Rd g' W' v (.bool true) := hres
  cases this; rfl
 subst hb
 have hlt := hW'.lt
 refine ⟨_, rfl, wu (pa := (p0 ++ ([] ++ ([] ++ (p3 ++ []))))) (pv := []) hW' (fun _ _ _ => (trodAll_cons_mk (shut_bool u4 _) trodAll_mk0)) (fun sp hsp => ?_) (fun _ _ => rfl) rfl (hf.kept _) (fun x hx => hf.fz hx) (ok_one (by kernel_rfl) rfl (okWide_bool_mk u4 _))⟩
 have m0 : ∀ x ∈ p0, x ∈ (p0 ++ ([] ++ ([] ++ (p3 ++ [])))) ++ ([] : List MemPlace) := fun x hx => by simp [hx]
 have m3 : ∀ x ∈ p3, x ∈ (p0 ++ ([] ++ ([] ++ (p3 ++ [])))) ++ ([] : List MemPlace) := fun x hx => by simp [hx]
 show DataW.TrodAll enc Try.prog W' 0 sp true Try.f4.params.toList _ _ _
 rw [vv]
 refine trodAll_cons_mk (WideElems.Trod_stays zY Bs (of_decide_eq_true (by kernel_rfl)) h0 (fun x hx => hf.same (hlt x (m0 x hx))) (fun x hx => hsp x (m0 x hx))) ?_
 refine trodAll_cons_mk (shut_int u3 k1) ?_
 refine trodAll_cons_mk (shut_int u3 k2) ?_
 exact trodAll_cons_mk (WideElems.Trod_stays zY Br (of_decide_eq_true (by kernel_rfl)) h3 (fun x hx => hf.same (hlt x (m3 x hx))) (fun x hx => hsp x (m3 x hx))) trodAll_mk0
theorem zl (os : Os) (started : os.Started) (H : Type) (enc : TypeId × Value → H) (F0 : Stop.Interp) :
  ReturnsInHanded {} Try.checked os 4 .any ((Rows.OpenSpec.upto Rows.treeWrongSpec).pre6 enc Try.prog Try.f4 Rows.treeWrongUptoRow.domain false) (((Rows.OpenSpec.upto Rows.treeWrongSpec).at F0).post enc Try.prog Try.f4 false true false false) := by
 refine returnsInHanded_of_cond (C := Try.checked) (s := Rows.OpenSpec.upto Rows.treeWrongSpec) (k := Rows.uptoSmall) rfl CB started (by kernel_rfl) Try.func4
  (OpenSpec.witness (enc := enc) (C := Try.checked) (s := Rows.OpenSpec.upto Rows.treeWrongSpec) (k := Rows.uptoSmall) rfl false ⟨#[], #[.agg #[.slice none 0 0, .slice none 0 0, .int .i64 0], .int .i64 0, .int .i64 0, .slice none 0 0], []⟩ 8 (by kernel_rfl) (by kernel_rfl) (by kernel_rfl)
   (x := ([.agg [.nil, .nil, .lit (.int .i64 0)], .lit (.int .i64 0), .lit (.int .i64 0), .nil], [], [])) (by kernel_rfl) (by kernel_rfl) (by kernel_rfl)) ?_
 intro W base args ds gs before hval hW _ hk _
 exact wM H enc W base args ds gs before hval hW hk
theorem Ytmhiemakdfkmeaa.treeWrong_holds : Rows.TreeWrongUptoSaid :=
 OpenClaim.holds_of_cond 4 Try.f4 rfl rfl rfl rfl rfl rfl rfl ⟨rfl, rfl, rfl, rfl, rfl⟩ rfl rfl rfl rfl rfl (by kernel_rfl) Try.func4 (by kernel_rfl)
  (of_decide_eq_true (by kernel_rfl)) (by unfold Func.isWrapper; first | (rw [if_pos (by decide +kernel)]; kernel_rfl) | (rw [if_neg (by decide +kernel)]; exact ⟨rfl, rfl⟩))
  (fun os started H enc _ F0 => zl os started H enc F0)
#print axioms Ytmhiemakdfkmeaa.treeWrong_holds
end Go.Proofs
