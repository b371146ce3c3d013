/- JournalBytes holds for every input. -/
import Derived.Test.YtjkhgfoecplbgaaH1
import Derived.Test.YtjkhgfoecplbgaaRows
set_option linter.all false
set_option autoImplicit true
set_option relaxedAutoImplicit true
set_option maxRecDepth 100000
namespace Go.Proofs
open Go.Sh Go.ChangeShapes Go.WideShapes Go.ChangeAt Go.RowKit Go.Proofs.Ytjkhgfoecplbgaa
theorem read_notes {H : Type} {enc : TypeId × Value → H} {W : World} {held : Bool} {b0 : Nat} {r : Reach} {v : Value} {d : DataW H} {ps : List MemPlace} (hval : Value.okWide Try.prog W r b0 23 v) (h : DataW.Trod enc Try.prog W 0 (fun _ => true) held 23 v d ps) :
    ∃ l : List Note, Rd g0 W v (.list 5 (l.map encNote)) := by
  refine rd_list_of_trod (P := Try.prog) encNote (n := 5) (e := 39) (by omega) (fun x => rfl) (by kernel_rfl) (by kernel_rfl) hval (fun fuel cs' x hx => ?_) h
  obtain ⟨a0, e0⟩ := fldI (j := 0) (o := 0) (by kernel_rfl) hx
  obtain ⟨a1, e1⟩ := fldI (j := 1) (o := 1) (by kernel_rfl) hx
  obtain ⟨a2, e2⟩ := fldS (j := 2) (o := 2) (by kernel_rfl) hx
  obtain ⟨a3, e3⟩ := fldBo (j := 3) (o := 3) (by kernel_rfl) hx
  obtain ⟨a4, e4⟩ := fldS (j := 4) (o := 4) (by kernel_rfl) hx
  refine ⟨⟨a0, a1, a2, a3, a4⟩, fun j y hj => ?_⟩
  have hc : (encNote ⟨a0, a1, a2, a3, a4⟩).cells = [.int .i64 a0, .int .i64 a1, .str a2, .bool a3, .str a4] := rfl
  rw [hc] at hj
  match j, hj with
  | 0, hj => cases hj; exact ⟨_, e0, rfl, .int⟩
  | 1, hj => cases hj; exact ⟨_, e1, rfl, .int⟩
  | 2, hj => cases hj; exact ⟨_, e2, rfl, .str⟩
  | 3, hj => cases hj; exact ⟨_, e3, rfl, .bool⟩
  | 4, hj => cases hj; exact ⟨_, e4, rfl, .str⟩
  | j + 5, hj => simp at hj
theorem own' : ownKnob Try.prog.godebug = none := by kernel_rfl
theorem laid' : laidOutB Try.prog = true := by kernel_rfl
theorem recN : Try.prog.readableRec 23 = true := by kernel_rfl
theorem u3 : Try.prog.underlying 3 = some (.int .i64) := by kernel_rfl
theorem u4 : Try.prog.underlying 4 = some .bool := by kernel_rfl
theorem u45 : Try.prog.underlying 45 = some (.int .u64) := by kernel_rfl
theorem params' : Try.f8.params = #[23, 3, 45] := by kernel_rfl
theorem contract' (H : Type) (enc : TypeId × Value → H) (W : World) (base : Nat) (args : Array Value) (ds gs : List (DataW H)) (before : List MemPlace)
    (hval : ∀ (j : Nat) t v, Try.f8.params[j]? = some t → args[j]? = some v → Value.okWide Try.prog W .any base t v)
    (hW : DataW.Whole enc Try.prog Try.f8.params.toList Rows.journalBytesSpec.vars false W args.toList ds gs before) :
    Calls Try.prog 8 args W fun e W' => ∃ v, e = .returned v ∧ Rows.journalBytesSpec.post enc Try.prog Try.f8 false true false false W args v W' := by
  have hW' := hW
  obtain ⟨p, q, hA0, hV, rfl, hfz, hnd⟩ := hW
  have hA : DataW.TrodAll enc Try.prog W 0 (fun _ => true) true Try.f8.params.toList args.toList ds p := hA0
  rw [params'] at hA hval
  obtain ⟨v0, vs0, d0, ds0, p0, q0, hargs, rfl, rfl, h0, r0⟩ := trodAll_cons hA
  obtain ⟨v1, vs1, d1, ds1, p1, q1, rfl, rfl, rfl, h1, r1⟩ := trodAll_cons r0
  obtain ⟨v2, vs2, d2, ds2, p2, q2, rfl, rfl, rfl, h2, r2⟩ := trodAll_cons r1
  obtain ⟨rfl, rfl, rfl⟩ := trodAll_nil r2
  obtain rfl : args = #[v0, v1, v2] := by cases args; simp_all
  obtain ⟨rfl, rfl⟩ := trodVars_none hV
  have k0 := hval 0 23 v0 rfl rfl
  obtain ⟨a0, hs0⟩ := read_notes k0 h0
  obtain ⟨a1, rfl, rfl, rfl, w1⟩ := open_int u3 (hval 1 3 v1 rfl rfl) h1
  obtain ⟨a2, rfl, rfl, rfl, w2⟩ := open_int u45 (hval 2 45 v2 rfl rfl) h2
  obtain ⟨N, hN⟩ := bytes_ev a0 a1 a2
  have hpc := l_JournalBytes_ok (hN N (Nat.le_refl _)) [] W g0 #[v0, .int .i64 a1, .int .u64 a2] (by
    refine ⟨rfl, fun j sv hj => ?_⟩
    match j, hj with
    | 0, hj => cases hj; exact ⟨_, rfl, hs0⟩
    | 1, hj => cases hj; exact ⟨_, rfl, (.int : Rd g0 W _ _)⟩
    | 2, hj => cases hj; exact ⟨_, rfl, (.int : Rd g0 W _ _)⟩
    | j + 3, hj => simp at hj) ⟨rfl, fun i o hi => by simp at hi⟩
  refine hpc.mono fun e W' hh => ?_
  obtain ⟨v, g', rfl, hres, -, hf⟩ := hh
  have hb : v = .bool true := by
    have : Rd g' W' v (.bool true) := hres
    cases this; rfl
  subst hb
  have hlt := hW'.lt
  refine ⟨_, rfl, post_same (pa := (p0 ++ ([] ++ ([] ++ [])))) (pv := []) hW' (fun _ _ _ => (trodAll_cons_mk (shut_bool u4 _) trodAll_mk0)) (fun sp hsp => ?_) (fun _ _ => rfl) rfl (hf.kept _) (fun x hx => hf.fz hx) (ok_one (by kernel_rfl) rfl (okWide_bool_mk u4 _))⟩
  have m0 : ∀ x ∈ p0, x ∈ (p0 ++ ([] ++ ([] ++ []))) ++ ([] : List MemPlace) := fun x hx => by simp [hx]
  show DataW.TrodAll enc Try.prog W' 0 sp true Try.f8.params.toList _ _ _
  rw [params']
  refine trodAll_cons_mk (WideElems.Trod_stays laid' recN (of_decide_eq_true (by kernel_rfl)) h0 (fun x hx => hf.same (hlt x (m0 x hx))) (fun x hx => hsp x (m0 x hx))) ?_
  refine trodAll_cons_mk (shut_int u3 w1) ?_
  exact trodAll_cons_mk (shut_int u45 w2) trodAll_mk0
theorem lifted' (os : Os) (started : os.Started) (H : Type) (enc : TypeId × Value → H) :
    ReturnsInHanded {} Try.checked os 8 .any (Rows.journalBytesSpec.pre6 enc Try.prog Try.f8 Rows.journalBytesRow.domain false) (Rows.journalBytesSpec.post enc Try.prog Try.f8 false true false false) := by
  refine returnsInHanded_of_change (C := Try.checked) own' started (by kernel_rfl) Try.func8
    (ChangeSpec.witness6 (enc := enc) (C := Try.checked) false ⟨#[], #[.slice none 0 0, .int .i64 0, .int .u64 0], []⟩ 8 (by kernel_rfl) (by kernel_rfl) (by kernel_rfl) (by kernel_rfl) (by kernel_rfl)) ?_
  intro W base args ds gs before hval hW _ _
  exact contract' H enc W base args ds gs before hval hW
theorem Ytjkhgfoecplbgaa.journalBytes_holds : Rows.JournalBytesSaid :=
  OpenClaim.holds_of_wide 8 Try.f8 rfl rfl rfl rfl rfl rfl rfl ⟨rfl, rfl, rfl, rfl, rfl⟩ rfl rfl rfl rfl rfl (by kernel_rfl) Try.func8 (by kernel_rfl)
    (of_decide_eq_true (by kernel_rfl)) (by unfold Func.isWrapper; first | (rw [if_pos (by decide +kernel)]; kernel_rfl) | (rw [if_neg (by decide +kernel)]; exact ⟨rfl, rfl⟩))
    (fun os started H enc _ => lifted' os started H enc)
#print axioms Ytjkhgfoecplbgaa.journalBytes_holds
end Go.Proofs
