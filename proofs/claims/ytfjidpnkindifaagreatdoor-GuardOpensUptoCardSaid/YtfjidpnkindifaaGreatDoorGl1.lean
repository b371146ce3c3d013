/- GuardOpens returns true, and its arguments read as before, for every input whose bulk is at most 1048576 (the second form, with its card: the listed variables of strconv and math/bits as the program lays them; nothing else is taken). -/
import Derived.Test.YtfjidpnkindifaaGreatDoorH1
import Derived.Test.YtfjidpnkindifaaGreatDoorCards
import Derived.Test.YtfjidpnkindifaaGreatDoorTie
import Derived.LaidMore
import Derived.Deep.DeepHandedRow
import Derived.Deep.DeepWitnessRowRef
import Derived.Test.YtfjidpnkindifaaGreatDoorRows
set_option linter.all false
set_option autoImplicit true
set_option relaxedAutoImplicit true
set_option maxRecDepth 100000
namespace Go.Sh
open Go.Proofs
open Go.Proofs.YtfjidpnkindifaaGreatDoor.Rows (uptoBulk uptoBulkAll)
def okPrivacy (x : Privacy) : Prop := (Lit.int .i64 x.Verb).wf = true ∧ True ∧ True
theorem rdrPrivacy {W : World} : RdrB Tryz.prog W 24 3 encPrivacy okPrivacy 1048576 := ⟨fun _ => rfl, by kernel_rfl, fun hx hB => by
  obtain ⟨a0, k0, e0⟩ := fldRB (j := 0) (tj := 3) (oj := 0) (by kernel_rfl) (RdrB.int (t := 3) (k := .i64) (by kernel_rfl) (by kernel_rfl)) hx hB
  obtain ⟨a1, k1, e1⟩ := fldRB (j := 1) (tj := 9) (oj := 1) (by kernel_rfl) (RdrB.str (t := 9) (by kernel_rfl) (by kernel_rfl)) hx hB
  obtain ⟨a2, k2, e2⟩ := fldRB (j := 2) (tj := 9) (oj := 2) (by kernel_rfl) (RdrB.str (t := 9) (by kernel_rfl) (by kernel_rfl)) hx hB
  refine ⟨⟨a0, a1, a2⟩, ⟨k0, k1, k2⟩, fun j y hj => ?_⟩
  match j, hj with
  | 0, hj => exact e0 0 _ hj
  | 1, hj => exact e1 0 _ hj
  | 2, hj => exact e2 0 _ hj
  | j + 3, hj => simp [encPrivacy, Go.Sh.D.cells] at hj⟩
def okValue (x : Value) : Prop := (Lit.int .i64 x.Kind).wf = true ∧ (Lit.int .i64 x.N).wf = true ∧ True
theorem rdrValue {W : World} : RdrB Tryz.prog W 50 3 encValue okValue 1048576 := ⟨fun _ => rfl, by kernel_rfl, fun hx hB => by
  obtain ⟨a0, k0, e0⟩ := fldRB (j := 0) (tj := 3) (oj := 0) (by kernel_rfl) (RdrB.int (t := 3) (k := .i64) (by kernel_rfl) (by kernel_rfl)) hx hB
  obtain ⟨a1, k1, e1⟩ := fldRB (j := 1) (tj := 3) (oj := 1) (by kernel_rfl) (RdrB.int (t := 3) (k := .i64) (by kernel_rfl) (by kernel_rfl)) hx hB
  obtain ⟨a2, k2, e2⟩ := fldRB (j := 2) (tj := 9) (oj := 2) (by kernel_rfl) (RdrB.str (t := 9) (by kernel_rfl) (by kernel_rfl)) hx hB
  refine ⟨⟨a0, a1, a2⟩, ⟨k0, k1, k2⟩, fun j y hj => ?_⟩
  match j, hj with
  | 0, hj => exact e0 0 _ hj
  | 1, hj => exact e1 0 _ hj
  | 2, hj => exact e2 0 _ hj
  | j + 3, hj => simp [encValue, Go.Sh.D.cells] at hj⟩
def okDeed (x : Deed) : Prop := (Lit.int .i64 x.Verb).wf = true ∧ True ∧ (x.Names.length ≤ 1048576 ∧ ∀ y ∈ x.Names, True) ∧ (x.Row.length ≤ 1048576 ∧ ∀ y ∈ x.Row, okValue y) ∧ (x.Keys.length ≤ 1048576 ∧ ∀ y ∈ x.Keys, True)
theorem rdrDeed {W : World} : RdrB Tryz.prog W 28 5 encDeed okDeed 1048576 := ⟨fun _ => rfl, by kernel_rfl, fun hx hB => by
  obtain ⟨a0, k0, e0⟩ := fldRB (j := 0) (tj := 3) (oj := 0) (by kernel_rfl) (RdrB.int (t := 3) (k := .i64) (by kernel_rfl) (by kernel_rfl)) hx hB
  obtain ⟨a1, k1, e1⟩ := fldRB (j := 1) (tj := 9) (oj := 1) (by kernel_rfl) (RdrB.str (t := 9) (by kernel_rfl) (by kernel_rfl)) hx hB
  obtain ⟨a2, k2, e2⟩ := fldRB (j := 2) (tj := 25) (oj := 2) (by kernel_rfl) (RdrB.list (t := 25) (RdrB.str (t := 9) (by kernel_rfl) (by kernel_rfl)) (by decide) (by kernel_rfl) (by kernel_rfl)) hx hB
  obtain ⟨a3, k3, e3⟩ := fldRB (j := 3) (tj := 26) (oj := 3) (by kernel_rfl) (RdrB.list (t := 26) rdrValue (by decide) (by kernel_rfl) (by kernel_rfl)) hx hB
  obtain ⟨a4, k4, e4⟩ := fldRB (j := 4) (tj := 25) (oj := 4) (by kernel_rfl) (RdrB.list (t := 25) (RdrB.str (t := 9) (by kernel_rfl) (by kernel_rfl)) (by decide) (by kernel_rfl) (by kernel_rfl)) hx hB
  refine ⟨⟨a0, a1, a2, a3, a4⟩, ⟨k0, k1, k2, k3, k4⟩, fun j y hj => ?_⟩
  match j, hj with
  | 0, hj => exact e0 0 _ hj
  | 1, hj => exact e1 0 _ hj
  | 2, hj => exact e2 0 _ hj
  | 3, hj => exact e3 0 _ hj
  | 4, hj => exact e4 0 _ hj
  | j + 5, hj => simp [encDeed, Go.Sh.D.cells] at hj⟩
end Go.Sh
namespace Go.Proofs
open Go.Sh Go.ChangeShapes Go.WideShapes Go.ChangeAt Go.RowKit Go.Proofs.YtfjidpnkindifaaGreatDoor
theorem own' : ownKnob Tryz.prog.godebug = none := by kernel_rfl
theorem laid' : laidOutB Tryz.prog = true := by kernel_rfl
theorem rec22 : Tryz.prog.readableRec 22 = true := by kernel_rfl
theorem rec24 : Tryz.prog.readableRec 24 = true := by kernel_rfl
theorem rec28 : Tryz.prog.readableRec 28 = true := by kernel_rfl
theorem u9 : Tryz.prog.underlying 9 = some .string := by kernel_rfl
theorem u4 : Tryz.prog.underlying 4 = some .bool := by kernel_rfl
theorem params' : Tryz.f3.params = #[22, 24, 28, 9] := by kernel_rfl
theorem contract' (H : Type) (enc : TypeId × Value → H) (W : World) (base : Nat) (args : Array Value) (ds gs : List (DataW H)) (before : List MemPlace)
    (hval : ∀ (j : Nat) t v, Tryz.f3.params[j]? = some t → args[j]? = some v → Value.okWide Tryz.prog W .any base t v)
    (hW : DataW.Whole enc Tryz.prog Tryz.f3.params.toList Rows.guardOpensSpec.vars false W args.toList ds gs before) (hkk : Rows.uptoSmall H (ds ++ gs) = true) :
    Calls Tryz.prog 3 args W fun e W' => ∃ v, e = .returned v ∧ Rows.guardOpensSpec.post enc Tryz.prog Tryz.f3 false true false false W args v W' := by
  have hW' := hW
  obtain ⟨p, q, hA0, hV, rfl, hfz, hnd⟩ := hW
  have hA : DataW.TrodAll enc Tryz.prog W 0 (fun _ => true) true Tryz.f3.params.toList args.toList ds p := hA0
  rw [params'] at hA hval
  obtain ⟨v0, vs0, d0, ds0, p0, q0, hargs, rfl, rfl, h0, r0⟩ := trodAll_cons hA
  obtain ⟨v1, vs1, d1, ds1, p1, q1, rfl, rfl, rfl, h1, r1⟩ := trodAll_cons r0
  obtain ⟨v2, vs2, d2, ds2, p2, q2, rfl, rfl, rfl, h2, r2⟩ := trodAll_cons r1
  obtain ⟨v3, vs3, d3, ds3, p3, q3, rfl, rfl, rfl, h3, r3⟩ := trodAll_cons r2
  obtain ⟨rfl, rfl, rfl⟩ := trodAll_nil r3
  obtain rfl : args = #[v0, v1, v2, v3] := by cases args; simp_all
  obtain ⟨rfl, rfl⟩ := trodVars_none hV
  have hBk : Rows.uptoBulkAll ([d0, d1, d2, d3] ++ ([] : List (DataW H))) ≤ 1048576 := of_decide_eq_true hkk
  have hB0 : Rows.uptoBulk d0 ≤ 1048576 := Nat.le_trans (bulk_mem (by simp)) hBk
  have hB1 : Rows.uptoBulk d1 ≤ 1048576 := Nat.le_trans (bulk_mem (by simp)) hBk
  have hB2 : Rows.uptoBulk d2 ≤ 1048576 := Nat.le_trans (bulk_mem (by simp)) hBk
  obtain ⟨a0, k0, hs0⟩ := RdrB.top_list (RdrB.list (t := 22) rdrPrivacy (by decide) (by kernel_rfl) (by kernel_rfl)) (by kernel_rfl) (fun _ => rfl) (hval 0 22 v0 rfl rfl) h0 hB0
  obtain ⟨a1, k1, hs1⟩ := RdrB.top_struct rdrPrivacy (by kernel_rfl) (fun _ => rfl) (hval 1 24 v1 rfl rfl) h1 hB1
  obtain ⟨a2, k2, hs2⟩ := RdrB.top_struct rdrDeed (by kernel_rfl) (fun _ => rfl) (hval 2 28 v2 rfl rfl) h2 hB2
  obtain ⟨b3, rfl, rfl, rfl, k3⟩ := Go.ChangeMaps.open_string u9 (hval 3 9 v3 rfl rfl) h3
  obtain ⟨a3, rfl⟩ : ∃ l, b3 = Go.Sh.mk l := ⟨b3.data.toList, rfl⟩
  obtain ⟨N, hN⟩ := opens_ev a0 a1 a2 a3 (by have := k0.1; omega)
  have hpc := l_GuardOpens_ok (hN N (Nat.le_refl _)) [] W g0 #[v0, v1, v2, .string (Go.Sh.mk a3)] (by
    refine ⟨rfl, fun j sv hj => ?_⟩
    match j, hj with
    | 0, hj => cases hj; exact ⟨_, rfl, hs0⟩
    | 1, hj => cases hj; exact ⟨_, rfl, hs1⟩
    | 2, hj => cases hj; exact ⟨_, rfl, hs2⟩
    | 3, hj => cases hj; exact ⟨_, rfl, (.str : Rd g0 W _ _)⟩
    | j + 4, hj => simp at hj) ⟨rfl, fun i o hi => by simp at hi⟩
  refine hpc.mono fun e W' hh => ?_
  obtain ⟨v, g', rfl, hres, -, hf⟩ := hh
  have hb : v = .bool true := by
    have : Rd g' W' v (.bool true) := hres
    cases this; rfl
  subst hb
  have hlt := hW'.lt
  refine ⟨_, rfl, post_same (pa := (p0 ++ (p1 ++ (p2 ++ ([] ++ []))))) (pv := []) hW' (fun _ _ _ => (trodAll_cons_mk (shut_bool u4 _) trodAll_mk0)) (fun sp hsp => ?_) (fun _ _ => rfl) rfl (hf.kept _) (fun x hx => hf.fz hx) (ok_one (by kernel_rfl) rfl (okWide_bool_mk u4 _))⟩
  have m0 : ∀ x ∈ p0, x ∈ (p0 ++ (p1 ++ (p2 ++ ([] ++ [])))) ++ ([] : List MemPlace) := fun x hx => by simp [hx]
  have m1 : ∀ x ∈ p1, x ∈ (p0 ++ (p1 ++ (p2 ++ ([] ++ [])))) ++ ([] : List MemPlace) := fun x hx => by simp [hx]
  have m2 : ∀ x ∈ p2, x ∈ (p0 ++ (p1 ++ (p2 ++ ([] ++ [])))) ++ ([] : List MemPlace) := fun x hx => by simp [hx]
  show DataW.TrodAll enc Tryz.prog W' 0 sp true Tryz.f3.params.toList _ _ _
  rw [params']
  refine trodAll_cons_mk (WideElems.Trod_stays laid' rec22 (of_decide_eq_true (by kernel_rfl)) h0 (fun x hx => hf.same (hlt x (m0 x hx))) (fun x hx => hsp x (m0 x hx))) ?_
  refine trodAll_cons_mk (WideElems.Trod_stays laid' rec24 (of_decide_eq_true (by kernel_rfl)) h1 (fun x hx => hf.same (hlt x (m1 x hx))) (fun x hx => hsp x (m1 x hx))) ?_
  refine trodAll_cons_mk (WideElems.Trod_stays laid' rec28 (of_decide_eq_true (by kernel_rfl)) h2 (fun x hx => hf.same (hlt x (m2 x hx))) (fun x hx => hsp x (m2 x hx))) ?_
  exact trodAll_cons_mk (Go.ChangeMaps.shut_string u9 k3) trodAll_mk0
theorem door_met' (os : Os) (args : Array Value) : laidMetH Tryz.prog Rows.guardOpensUptoRow.laid ((World.doorLaid Tryz.prog 62 os).forCall (fun _ _ => 0) ⟨#[], args, []⟩).memory :=
  laidMetH_of_parts3 (fuel := 8) (laidMet_of_run' 8 (by kernel_rfl) (by kernel_rfl)) (by kernel_rfl) (by kernel_rfl)
abbrev args' : Array Value := #[.slice none 0 0, .agg #[.int .i64 0, .string ByteArray.empty, .string ByteArray.empty], .agg #[.int .i64 0, .string ByteArray.empty, .slice none 0 0, .slice none 0 0, .slice none 0 0], .string ByteArray.empty]
theorem lifted' (os : Os) (started : os.Started) (H : Type) (enc : TypeId × Value → H) (F : Stop.Interp) :
    ReturnsInHanded {} Tryz.checked os 3 .any ((Rows.OpenSpec.upto Rows.guardOpensSpec).preRow enc Tryz.prog Tryz.f3 Rows.guardOpensUptoRow.domain false Rows.guardOpensUptoRow.laid) (((Rows.OpenSpec.upto Rows.guardOpensSpec).at F).post enc Tryz.prog Tryz.f3 false true false false) := by
  have hx : DataW.whole enc Tryz.prog ((World.doorLaid Tryz.prog 62 os).forCall (fun _ _ => 0) ⟨#[], args', []⟩).memory Tryz.f3.params.toList Rows.guardOpensSpec.vars false args'.toList 8 = some ([.nil, .agg [.lit (.int .i64 0), .lit (.string []), .lit (.string [])], .agg [.lit (.int .i64 0), .lit (.string []), .nil, .nil, .nil], .lit (.string [])], [], []) := by kernel_rfl
  refine returnsInHanded_of_row (C := Tryz.checked) (s := Rows.OpenSpec.upto Rows.guardOpensSpec) own' started (by kernel_rfl) Tryz.func3
    (witness_row_atRef (enc := enc) (C := Tryz.checked) false (World.doorLaid Tryz.prog 62 os) args' rfl (by kernel_rfl) (by kernel_rfl) (by kernel_rfl)
      (OpenSpec.preRow_of_cond 8 hx (by kernel_rfl) (fun k hk => by cases hk; kernel_rfl) (by kernel_rfl) (door_met' os _))) ?_
  intro W base args ds gs before hval hW _ hk _ _ _ _
  exact contract' H enc W base args ds gs before hval hW (hk _ rfl)
theorem said' : Rows.GuardOpensUptoSaid :=
  OpenClaim.holds_of_cond 3 Tryz.f3 rfl rfl rfl rfl rfl rfl rfl ⟨rfl, rfl, rfl, rfl, rfl⟩ rfl rfl rfl rfl rfl (by kernel_rfl) Tryz.func3 (by kernel_rfl)
    (of_decide_eq_true (by kernel_rfl)) (by unfold Func.isWrapper; first | (rw [if_pos (by decide +kernel)]; kernel_rfl) | (rw [if_neg (by decide +kernel)]; exact ⟨rfl, rfl⟩))
    (fun os started H enc _ F => by rw [OpenClaim.pre_eq_preRow]; exact lifted' os started H enc F)
theorem plain' (f : FuncId) (fn : Func) (hf : Tryz.pinned.checked.prog.funcNamed "ringwork/ringworklaw29.GuardOpens" = some f) (hfn : Tryz.pinned.checked.prog.funcs[f]? = some fn) :
    true = Tryz.pinned.checked.prog.looks [] ∧ ∀ (j : Nat) t, fn.params[j]? = some t → Tryz.pinned.checked.prog.wantsStandIn t = false := by
  obtain rfl : f = 3 := Option.some.inj ((show Tryz.prog.funcNamed "ringwork/ringworklaw29.GuardOpens" = some 3 by kernel_rfl).symm.trans hf) |>.symm
  obtain rfl : fn = Tryz.f3 := (Option.some.inj (Tryz.func3.symm.trans hfn)).symm
  refine ⟨by kernel_rfl, fun j t ht => ?_⟩
  rw [params'] at ht
  have hm : t ∈ [22, 24, 28, 9] := by simpa using Array.mem_of_getElem? ht
  have hall : ([22, 24, 28, 9].all fun u => !Tryz.prog.wantsStandIn u) = true := by kernel_rfl
  exact (show Tryz.prog.wantsStandIn t = false by simpa using List.all_eq_true.1 hall t hm)
theorem YtfjidpnkindifaaGreatDoor.guardOpens_holds : Rows.GuardOpensUptoCardSaid :=
  Claim7.holds_tied_plain_at .later [] _ _ _ _ said' (fun _ h => by cases h) (by kernel_rfl) (fun _ h => by cases h) guardOpensUpto_row_tie rfl ⟨rfl, rfl⟩ (by kernel_rfl) rfl plain' (by kernel_rfl)
#print axioms YtfjidpnkindifaaGreatDoor.guardOpens_holds
end Go.Proofs
