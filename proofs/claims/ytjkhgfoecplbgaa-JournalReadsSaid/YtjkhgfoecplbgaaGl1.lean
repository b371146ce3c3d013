/- JournalReads holds for every input. -/
import Derived.Test.YtjkhgfoecplbgaaH1
import Derived.Test.YtjkhgfoecplbgaaRows
set_option linter.all false
set_option autoImplicit true
set_option relaxedAutoImplicit true
set_option linter.unusedVariables false
set_option linter.unusedSimpArgs false
set_option maxRecDepth 100000
namespace Go.Proofs
open Go.Sh Go.ChangeShapes Go.WideShapes Go.ChangeAt Go.RowKit Go.Proofs.Ytjkhgfoecplbgaa
theorem own' : ownKnob Try.prog.godebug = none := by kernel_rfl
theorem u3 : Try.prog.underlying 3 = some (.int .i64) := by kernel_rfl
theorem u4 : Try.prog.underlying 4 = some .bool := by kernel_rfl
theorem u9 : Try.prog.underlying 9 = some .string := by kernel_rfl
theorem params' : Try.f6.params = #[9] := by kernel_rfl
theorem contract' (H : Type) (enc : TypeId × Value → H) (W : World) (base : Nat) (args : Array Value) (ds gs : List (DataW H)) (before : List MemPlace)
    (hval : ∀ (j : Nat) t v, Try.f6.params[j]? = some t → args[j]? = some v → Value.okWide Try.prog W .any base t v)
    (hW : DataW.Whole enc Try.prog Try.f6.params.toList Rows.journalReadsSpec.vars false W args.toList ds gs before) :
    Calls Try.prog 6 args W fun e W' => ∃ v, e = .returned v ∧ Rows.journalReadsSpec.post enc Try.prog Try.f6 false true false false W args v W' := by
  have hW' := hW
  obtain ⟨p, q, hA0, hV, rfl, hfz, hnd⟩ := hW
  have hA : DataW.TrodAll enc Try.prog W 0 (fun _ => true) true Try.f6.params.toList args.toList ds p := hA0
  rw [params'] at hA hval
  obtain ⟨v0, vs0, d0, ds0, p0, q0, hargs, rfl, rfl, h0, r0⟩ := trodAll_cons hA
  obtain ⟨rfl, rfl, rfl⟩ := trodAll_nil r0
  obtain rfl : args = #[v0] := by cases args; simp_all
  obtain ⟨rfl, rfl⟩ := trodVars_none hV
  obtain ⟨b0, rfl, rfl, rfl, w0⟩ := Go.ChangeMaps.open_string u9 (hval 0 9 v0 rfl rfl) h0
  obtain ⟨a0, rfl⟩ : ∃ l, b0 = mk l := ⟨b0.data.toList, rfl⟩
  obtain ⟨N, hN⟩ := reads_ev a0
  have hpc := l_JournalReads_ok (hN N (Nat.le_refl _)) [] W g0 #[.string (mk a0)] (by
    refine ⟨rfl, fun j sv hj => ?_⟩
    match j, hj with
    | 0, hj => cases hj; exact ⟨_, rfl, (.str : Rd g0 W _ _)⟩
    | j + 1, hj => simp at hj) ⟨rfl, fun i o hi => by simp at hi⟩
  refine hpc.mono fun e W' hh => ?_
  obtain ⟨v, g', rfl, hres, -, hf⟩ := hh
  have hb : v = .bool true := by
    have : Rd g' W' v (.bool true) := hres
    cases this; rfl
  subst hb
  have hlt := hW'.lt
  refine ⟨_, rfl, post_same (pa := ([] ++ [])) (pv := []) hW' (fun _ _ _ => (trodAll_cons_mk (shut_bool u4 _) trodAll_mk0)) (fun sp hsp => ?_) (fun _ _ => rfl) rfl (hf.kept _) (fun x hx => hf.fz hx) (ok_one (by kernel_rfl) rfl (okWide_bool_mk u4 _))⟩
  show DataW.TrodAll enc Try.prog W' 0 sp true Try.f6.params.toList _ _ _
  rw [params']
  exact trodAll_cons_mk (Go.ChangeMaps.shut_string u9 w0) trodAll_mk0
theorem lifted' (os : Os) (started : os.Started) (H : Type) (enc : TypeId × Value → H) :
    ReturnsInHanded {} Try.checked os 6 .any (Rows.journalReadsSpec.pre6 enc Try.prog Try.f6 Rows.journalReadsRow.domain false) (Rows.journalReadsSpec.post enc Try.prog Try.f6 false true false false) := by
  refine returnsInHanded_of_change (C := Try.checked) own' started (by kernel_rfl) Try.func6
    (ChangeSpec.witness6 (enc := enc) (C := Try.checked) false ⟨#[], #[.string ByteArray.empty], []⟩ 8 (by kernel_rfl) (by kernel_rfl) (by kernel_rfl) (by kernel_rfl) (by kernel_rfl)) ?_
  intro W base args ds gs before hval hW _ _
  exact contract' H enc W base args ds gs before hval hW
theorem Ytjkhgfoecplbgaa.journalReads_holds : Rows.JournalReadsSaid :=
  OpenClaim.holds_of_wide 6 Try.f6 rfl rfl rfl rfl rfl rfl rfl ⟨rfl, rfl, rfl, rfl, rfl⟩ rfl rfl rfl rfl rfl (by kernel_rfl) Try.func6 (by kernel_rfl)
    (of_decide_eq_true (by kernel_rfl)) (by unfold Func.isWrapper; first | (rw [if_pos (by decide +kernel)]; kernel_rfl) | (rw [if_neg (by decide +kernel)]; exact ⟨rfl, rfl⟩))
    (fun os started H enc _ => lifted' os started H enc)
#print axioms Ytjkhgfoecplbgaa.journalReads_holds
end Go.Proofs
