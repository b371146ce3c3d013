/- ShiftNothing returns true, and its arguments read as before, for every input (with its card: the listed variables as the program lays them; nothing else is taken). -/
import Derived.Test.YtfbcfehjlddodaaGreatDoorK1
import Derived.Test.YtfbcfehjlddodaaGreatDoorZ1
import Derived.Test.YtfbcfehjlddodaaGreatDoorZ2
import Derived.Test.YtfbcfehjlddodaaGreatDoorZ6
import Derived.Test.YtfbcfehjlddodaaGreatDoorZ7
import Derived.Test.YtfbcfehjlddodaaGreatDoorJ
import Derived.Test.YtfbcfehjlddodaaGreatDoorGo4
import Derived.Test.YtfbcfehjlddodaaGreatDoorNm
import Derived.Test.YtfbcfehjlddodaaGreatDoorH1
import Derived.Test.YtfbcfehjlddodaaGreatDoorT9
import Derived.LaidMore
import Derived.Lay
import Derived.MakeChecks
import Derived.Clock
import Derived.LaidLaws
import Derived.Deep.DeepHandedRow
import Derived.Deep.DeepWitnessRowRef
import Derived.SevenTiedAt
import Derived.Test.YtfbcfehjlddodaaGreatDoorCards
import Derived.Test.YtfbcfehjlddodaaGreatDoorRows
set_option linter.all false
set_option autoImplicit true
set_option relaxedAutoImplicit true
set_option maxRecDepth 100000
namespace Go.Sh
open Go.Proofs
structure Job where
  Kind : Int
  Name : List UInt8
  N : Int
def encJob (x : Job) : D := .agg [.int .i64 x.Kind, .str x.Name, .int .i64 x.N]
theorem rdrJob {W : World} : Rdr Tryz.prog W 23 3 encJob (fun _ => True) := ⟨fun _ => rfl, by kernel_rfl, fun hx => by
  obtain ⟨a0, k0, e0⟩ := fldR (j := 0) (tj := 3) (oj := 0) (by kernel_rfl) (Rdr.int (t := 3) (k := .i64) (by kernel_rfl) (by kernel_rfl)) hx
  obtain ⟨a1, k1, e1⟩ := fldR (j := 1) (tj := 9) (oj := 1) (by kernel_rfl) (Rdr.str (t := 9) (by kernel_rfl) (by kernel_rfl)) hx
  obtain ⟨a2, k2, e2⟩ := fldR (j := 2) (tj := 3) (oj := 2) (by kernel_rfl) (Rdr.int (t := 3) (k := .i64) (by kernel_rfl) (by kernel_rfl)) hx
  refine ⟨⟨a0, a1, a2⟩, trivial, fun j y hj => ?_⟩
  match j, hj with
  | 0, hj => exact e0 0 _ hj
  | 1, hj => exact e1 0 _ hj
  | 2, hj => exact e2 0 _ hj
  | j + 3, hj => simp [encJob, Go.Sh.D.cells] at hj⟩
theorem rd_job {g : Gh} {W : World} {v : Go.Value} {x : Job} (h : Rd g W v (encJob x)) : v = .agg ⟨[.int .i64 x.Kind, .string (mk x.Name), .int .i64 x.N]⟩ := by
  cases h with
  | agg hl us hc hr =>
    rename_i vs
    have h0 := (hc 0 _ rfl).1
    have h1 := (hc 1 _ rfl).1
    have h2 := (hc 2 _ rfl).1
    have r0 := hr 0 _ rfl
    have r1 := hr 1 _ rfl
    have r2 := hr 2 _ rfl
    generalize us 0 = u0 at *
    generalize us 1 = u1 at *
    generalize us 2 = u2 at *
    cases r0; cases r1; cases r2
    obtain ⟨l⟩ := vs
    match l, hl with
    | [a, b, c], _ =>
      simp at h0 h1 h2
      subst h0; subst h1; subst h2
      rfl
end Go.Sh
namespace Go.Proofs
open Go.Sh Go.ChangeShapes Go.WideShapes Go.ChangeAt Go.RowKit Go.Proofs.YtfbcfehjlddodaaGreatDoor
theorem own' : ownKnob Tryz.prog.godebug = none := by kernel_rfl
theorem leaf_same {H : Type} {enc : TypeId × Value → H} {P : Program} {W W' : World} {b : Nat} {sp sp' : Nat → Bool} {hd : Bool} {n t : Nat} {cs : List Value} (ht : (∃ k, P.underlying t = some (.int k)) ∨ P.underlying t = some .string) :
    DataW.trod enc P W b sp hd n t cs = DataW.trod enc P W' b sp' hd n t cs := by
  cases n with
  | zero => rfl
  | succ n =>
    unfold DataW.trod
    rcases ht with ⟨k, ht⟩ | ht <;> rw [ht]
    · match cs with
      | [] => rfl
      | [v] => cases v <;> rfl
      | v :: _ :: _ => cases v <;> rfl
    · match cs with
      | [] => rfl
      | [v] => cases v <;> rfl
      | v :: _ :: _ => cases v <;> rfl
theorem mapM_same {α β : Type} {f g : α → Option β} : ∀ {l : List α}, (∀ x ∈ l, f x = g x) → l.mapM f = l.mapM g
  | [], _ => rfl
  | x :: l, h => by
    simp only [List.mapM_cons, h x List.mem_cons_self]
    rw [mapM_same fun y hy => h y (List.mem_cons_of_mem _ hy)]
theorem struct_same {H : Type} {enc : TypeId × Value → H} {P : Program} {W W' : World} {b : Nat} {sp sp' : Nat → Bool} {hd : Bool} {n t : Nat} {cs : List Value} {fs : Array Field} (ht : P.underlying t = some (.struct fs))
    (hl : ∀ f ∈ fs.toList, (∃ k, P.underlying f.type = some (.int k)) ∨ P.underlying f.type = some .string) : DataW.trod enc P W b sp hd n t cs = DataW.trod enc P W' b sp' hd n t cs := by
  cases n with
  | zero => rfl
  | succ n =>
    unfold DataW.trod
    rw [ht]
    have := mapM_same (f := fun f : Field => DataW.trod enc P W b sp hd n f.type ((cs.drop f.offset).take (P.cellsOf f.type))) (g := fun f : Field => DataW.trod enc P W' b sp' hd n f.type ((cs.drop f.offset).take (P.cellsOf f.type))) (l := fs.toList) fun f hf => leaf_same (hl f hf)
    show (if cs.length = P.cellsOf t then (fs.toList.mapM fun f => DataW.trod enc P W b sp hd n f.type ((cs.drop f.offset).take (P.cellsOf f.type))).map _ else none) = (if cs.length = P.cellsOf t then (fs.toList.mapM fun f => DataW.trod enc P W' b sp' hd n f.type ((cs.drop f.offset).take (P.cellsOf f.type))).map _ else none)
    rw [this]
/-- All fields of a structure are numbers and texts. -/
def leafsB (P : Program) (t : TypeId) : Bool := match P.underlying t with
  | some (.struct fs) => fs.toList.all fun f => match P.underlying f.type with | some (.int _) | some .string => true | _ => false
  | _ => false
theorem leafs_again {H : Type} {enc : TypeId × Value → H} {P : Program} {W W' : World} {b : Nat} {sp sp' : Nat → Bool} {hd : Bool} {t : Nat} {v : Value} {d : DataW H} {ps : List MemPlace} (hb : leafsB P t = true)
    (h : DataW.Trod enc P W b sp hd t v d ps) : DataW.Trod enc P W' b sp' hd t v d ps := by
  unfold leafsB at hb
  split at hb
  · rename_i fs ht
    obtain ⟨fuel, hf⟩ := h
    refine ⟨fuel, ?_⟩
    rw [← struct_same (W := W) ht fun f hf => ?_]
    · exact hf
    · have := List.all_eq_true.1 hb f hf
      split at this
      · exact .inl ⟨_, by assumption⟩
      · exact .inr (by assumption)
      · cases this
  · cases hb
theorem u9 : Tryz.prog.underlying 9 = some .string := by kernel_rfl
theorem u4 : Tryz.prog.underlying 4 = some .bool := by kernel_rfl
theorem params' : Tryz.f3.params = #[23, 9] := by kernel_rfl
theorem contract' (H : Type) (enc : TypeId × Value → H) (W : World) (base : Nat) (args : Array Value) (ds gs : List (DataW H)) (before : List MemPlace)
    (hval : ∀ (j : Nat) t v, Tryz.f3.params[j]? = some t → args[j]? = some v → Value.okWide Tryz.prog W .any base t v)
    (hW : DataW.Whole enc Tryz.prog Tryz.f3.params.toList Rows.shiftNothingSpec.vars false W args.toList ds gs before) :
    Calls Tryz.prog 3 args W fun e W' => ∃ v, e = .returned v ∧ Rows.shiftNothingSpec.post enc Tryz.prog Tryz.f3 false true false false W args v W' := by
  have hW' := hW
  obtain ⟨p, q, hA0, hV, rfl, hfz, hnd⟩ := hW
  have hA : DataW.TrodAll enc Tryz.prog W 0 (fun _ => true) true Tryz.f3.params.toList args.toList ds p := hA0
  rw [params'] at hA hval
  obtain ⟨v0, vs0, d0, ds0, p0, q0, hargs, rfl, rfl, h0, r0⟩ := trodAll_cons hA
  obtain ⟨v1, vs1, d1, ds1, p1, q1, rfl, rfl, rfl, h1, r1⟩ := trodAll_cons r0
  obtain ⟨rfl, rfl, rfl⟩ := trodAll_nil r1
  obtain rfl : args = #[v0, v1] := by cases args; simp_all
  obtain ⟨rfl, rfl⟩ := trodVars_none hV
  obtain ⟨a0, -, hs0⟩ := Rdr.top_struct rdrJob (by kernel_rfl) (fun _ => rfl) (hval 0 23 v0 rfl rfl) h0
  obtain ⟨b1, rfl, rfl, rfl, k1⟩ := Go.ChangeMaps.open_string u9 (hval 1 9 v1 rfl rfl) h1
  have hv0 : v0 = .agg ⟨[.int .i64 a0.Kind, .string (Go.Sh.mk a0.Name), .int .i64 a0.N]⟩ := rd_job hs0
  have hpc := Go.Gd.fast_calls 100000 (by kernel_rfl) (Go.Gd.ran a0.Kind a0.N (Go.Sh.mk a0.Name) b1) (fun v hv => by
    rcases List.mem_cons.1 hv with rfl | hv
    · rfl
    · rcases List.mem_cons.1 hv with rfl | hv
      · rfl
      · cases hv) g0 W
  rw [← hv0] at hpc
  refine Calls.mono hpc fun e W' hh => ?_
  obtain ⟨g', rfl, hf⟩ := hh
  have hlt := hW'.lt
  refine ⟨_, rfl, post_same (pa := (p0 ++ ([] ++ []))) (pv := []) hW' (fun _ _ _ => (trodAll_cons_mk (shut_bool u4 _) trodAll_mk0)) (fun sp hsp => ?_) (fun _ _ => rfl) rfl (hf.kept _) (fun x hx => hf.fz hx) (ok_one (by kernel_rfl) rfl (okWide_bool_mk u4 _))⟩
  have m0 : ∀ x ∈ p0, x ∈ (p0 ++ ([] ++ [])) ++ ([] : List MemPlace) := fun x hx => by simp [hx]
  show DataW.TrodAll enc Tryz.prog W' 0 sp true Tryz.f3.params.toList _ _ _
  rw [params']
  refine trodAll_cons_mk (leafs_again (sp' := sp) (by kernel_rfl) h0) ?_
  exact trodAll_cons_mk (Go.ChangeMaps.shut_string u9 k1) trodAll_mk0
theorem lifted' (os : Os) (started : os.Started) (H : Type) (enc : TypeId × Value → H) :
    ReturnsInHanded {} Tryz.checked os 3 .any (fun w args => (Rows.shiftNothingSpec.pre enc Tryz.prog Tryz.f3 Rows.shiftNothingRow.domain false w args ∧ laidMetH Tryz.prog Rows.shiftNothingRow.laid w) ∧ sizedMet enc Tryz.prog Tryz.f3 (OpenSpec.ofChange Rows.shiftNothingSpec) false w args)
      (Rows.shiftNothingSpec.post enc Tryz.prog Tryz.f3 false true false false) := by
  refine returnsInHanded_of_change_and (C := Tryz.checked) (X := fun w _ => laidMetH Tryz.prog Rows.shiftNothingRow.laid w) (fun _ _ _ hh h => h.of_heap hh) own' started (by kernel_rfl) Tryz.func3
    (ChangeSpec.witness_shaped (enc := enc) (C := Tryz.checked) (os := os) (X := fun w _ => laidMetH Tryz.prog Rows.shiftNothingRow.laid w) false (world0 os) args0 8 (World.laidAll_os _ _ _) (World.shaped_of_ZipB (z1 os) (z2 os)) (by kernel_rfl) (by kernel_rfl) (by kernel_rfl)
      (by rw [MakeChecks.laidMetH_plain _ _ _ (by kernel_rfl)]; exact laidMet_laidAll _ (z6 os) (z7 os))) ?_
  intro W base args ds gs before hval hW _ _ _ _
  exact contract' H enc W base args ds gs before hval hW
theorem said' : Rows.ShiftNothingSaid :=
  OpenClaim.holds_of_wide 3 Tryz.f3 rfl rfl rfl rfl rfl rfl rfl ⟨rfl, rfl, rfl, rfl, rfl⟩ rfl rfl rfl rfl rfl Go.Fa.named3 Tryz.func3 Go.Fa.joined
    (of_decide_eq_true (by kernel_rfl)) (by unfold Func.isWrapper; first | (rw [if_pos (by decide +kernel)]; kernel_rfl) | (rw [if_neg (by decide +kernel)]; exact ⟨rfl, rfl⟩))
    (fun os started H enc _ => lifted' os started H enc)
theorem plain' (f : FuncId) (fn : Func) (hf : Tryz.pinned.checked.prog.funcNamed "ringwork/ringworklaw28.ShiftNothing" = some f) (hfn : Tryz.pinned.checked.prog.funcs[f]? = some fn) :
    true = Tryz.pinned.checked.prog.looks [] ∧ ∀ (j : Nat) t, fn.params[j]? = some t → Tryz.pinned.checked.prog.wantsStandIn t = false := by
  obtain rfl : f = 3 := Option.some.inj ((show Tryz.prog.funcNamed "ringwork/ringworklaw28.ShiftNothing" = some 3 from Go.Fa.named3).symm.trans hf) |>.symm
  obtain rfl : fn = Tryz.f3 := (Option.some.inj (Tryz.func3.symm.trans hfn)).symm
  refine ⟨by kernel_rfl, fun j t ht => ?_⟩
  rw [params'] at ht
  have hm : t ∈ [23, 9] := by simpa using Array.mem_of_getElem? ht
  have hall : ([23, 9].all fun u => !Tryz.prog.wantsStandIn u) = true := by kernel_rfl
  exact (show Tryz.prog.wantsStandIn t = false by simpa using List.all_eq_true.1 hall t hm)
theorem YtfbcfehjlddodaaGreatDoor.shiftNothing_holds : Rows.ShiftNothingCardSaid :=
  Claim7.holds_tied_plain_at .later [] _ _ _ _ said' (fun _ h => by cases h) (by kernel_rfl) (fun _ h => by cases h) Go.Fa.row_tie rfl ⟨rfl, rfl⟩ (by kernel_rfl) rfl plain' (Go.Fa.goesBy_of Go.Fa.named3 rfl Go.Fa.no_go)
#print axioms YtfbcfehjlddodaaGreatDoor.shiftNothing_holds
end Go.Proofs
