/- Printed by a program: functions of the program as plain functions, and that the code computes them. -/
import Derived.Test.YtjkhgfoecplbgaaF1
set_option linter.all false
set_option autoImplicit true
set_option relaxedAutoImplicit true
open Go Go.Proofs
namespace Go.Sh
set_option linter.unusedVariables false
set_option linter.unusedSimpArgs false
set_option maxRecDepth 100000
def r_image (fuel : Nat) (p0 : Image) : Option (Bool) :=
  bif (decide ((p0.Key.length : Int) ≥ 1)) then
    bif (decide ((p0.Key.length : Int) ≤ 40)) then
      bif (decide ((p0.Text.length : Int) ≤ 4000)) then
        bif p0.Has then
          some true
        else
          some (p0.Text == [])
      else
        some false
    else
      some false
  else
    some false

theorem r_image_ok {fuel : Nat} {p0 : Image} {r : Bool} (h : r_image fuel p0 = some r) : PC Try.prog 59 [.d (encImage p0)] (vB r) := by
  refine PC.of_SW Try.func59 rfl fun H => ?_
  unfold r_image at h
  refine SW.kp 28 H [0] [(0, .d (.agg [.str p0.Key, .bool p0.Has, .str p0.Text]))] (by kernel_rfl) <| SW.seq <| SW.regionK <| OWk.sg 28 H [] [1] 2 [(1, .box [vS p0.Key, vB p0.Has, vS p0.Text])] (by kernel_rfl) <| OWk.done (by kernel_rfl) <| thenS_n <| SW.seq <| SW.regionK <| OWk.sg 28 H [] [1, 4] 2 [(1, .box [vS p0.Key, vB p0.Has, vS p0.Text]), (4, vS p0.Key)] (by kernel_rfl) <| OWk.sg 28 H [] [1, 5] 1 [(1, .box [vS p0.Key, vB p0.Has, vS p0.Text]), (5, vI (p0.Key.length : Int))] (by kernel_rfl) <| OWk.sg 28 H [] [1, 7] 2 [(1, .box [vS p0.Key, vB p0.Has, vS p0.Text]), (7, vB (decide ((p0.Key.length : Int) ≥ 1)))] (by kernel_rfl) ?_
  refine OWk.case (decide ((p0.Key.length : Int) ≥ 1)) (fun b => (sp 28 [(1, .box [vS p0.Key, vB p0.Has, vS p0.Text]), (7, vB b)] H)) (by kernel_rfl) (fun hc => ?_) (fun hc => ?_)
  · replace h := bif_t hc h
    refine OWk.sg 28 H [] [1, 7, 9] 2 [(1, .box [vS p0.Key, vB p0.Has, vS p0.Text]), (7, vB true), (9, vS p0.Key)] (by kernel_rfl) <| OWk.sg 28 H [] [1, 7, 10] 1 [(1, .box [vS p0.Key, vB p0.Has, vS p0.Text]), (7, vB true), (10, vI (p0.Key.length : Int))] (by kernel_rfl) <| OWk.sg 28 H [] [1, 13] 3 [(1, .box [vS p0.Key, vB p0.Has, vS p0.Text]), (13, vB (decide ((p0.Key.length : Int) ≤ 40)))] (by kernel_rfl) ?_
    refine OWk.case (decide ((p0.Key.length : Int) ≤ 40)) (fun b => (sp 28 [(1, .box [vS p0.Key, vB p0.Has, vS p0.Text]), (13, vB b)] H)) (by kernel_rfl) (fun hc => ?_) (fun hc => ?_)
    · replace h := bif_t hc h
      refine OWk.sg 28 H [] [1, 13, 15] 2 [(1, .box [vS p0.Key, vB p0.Has, vS p0.Text]), (13, vB true), (15, vS p0.Text)] (by kernel_rfl) <| OWk.sg 28 H [] [1, 13, 16] 1 [(1, .box [vS p0.Key, vB p0.Has, vS p0.Text]), (13, vB true), (16, vI (p0.Text.length : Int))] (by kernel_rfl) <| OWk.sg 28 H [] [1, 19] 3 [(1, .box [vS p0.Key, vB p0.Has, vS p0.Text]), (19, vB (decide ((p0.Text.length : Int) ≤ 4000)))] (by kernel_rfl) ?_
      refine OWk.case (decide ((p0.Text.length : Int) ≤ 4000)) (fun b => (sp 28 [(1, .box [vS p0.Key, vB p0.Has, vS p0.Text]), (19, vB b)] H)) (by kernel_rfl) (fun hc => ?_) (fun hc => ?_)
      · replace h := bif_t hc h
        refine OWk.sg 28 H [] [1, 19, 22] 3 [(1, .box [vS p0.Key, vB p0.Has, vS p0.Text]), (19, vB true), (22, vB p0.Has)] (by kernel_rfl) ?_
        refine OWk.case p0.Has (fun b => (sp 28 [(1, .box [vS p0.Key, vB p0.Has, vS p0.Text]), (19, vB true), (22, vB b)] H)) (by kernel_rfl) (fun hc => ?_) (fun hc => ?_)
        · replace h := bif_t hc h
          refine OWk.sg 28 H [] [2] 6 [(2, vB true)] (by kernel_rfl) <| OWk.done (by kernel_rfl) <| thenS_n <| SW.ret ?_
          cases h
          exact EndQ.ret [] (by kernel_rfl) rfl
        · replace h := bif_f hc h
          refine OWk.sg 28 H [] [2] 6 [(2, vB (p0.Text == []))] (by kernel_rfl) <| OWk.done (by kernel_rfl) <| thenS_n <| SW.ret ?_
          cases h
          exact EndQ.ret [] (by kernel_rfl) rfl
      · replace h := bif_f hc h
        refine OWk.sg 28 H [] [2] 9 [(2, vB false)] (by kernel_rfl) <| OWk.done (by kernel_rfl) <| thenS_n <| SW.ret ?_
        cases h
        exact EndQ.ret [] (by kernel_rfl) rfl
    · replace h := bif_f hc h
      refine OWk.sg 28 H [] [2] 15 [(2, vB false)] (by kernel_rfl) <| OWk.done (by kernel_rfl) <| thenS_n <| SW.ret ?_
      cases h
      exact EndQ.ret [] (by kernel_rfl) rfl
  · replace h := bif_f hc h
    refine OWk.sg 28 H [] [2] 21 [(2, vB false)] (by kernel_rfl) <| OWk.done (by kernel_rfl) <| thenS_n <| SW.ret ?_
    cases h
    exact EndQ.ret [] (by kernel_rfl) rfl

def r_Valid (fuel : Nat) (p0 : Note) : Option (Bool) :=
  bif (p0.Kind == 6) then
    bif (((p0.Unit == 0) && (p0.Key == [])) && (!p0.Has)) then
      bif (decide ((p0.Text.length : Int) ≥ 1)) then
        some (decide ((p0.Text.length : Int) ≤ 40))
      else
        some false
    else
      some false
  else
    letJ (fun (j1 : Bool) =>
      bif j1 then
        bif ((decide (p0.Unit ≥ 1)) && (decide (p0.Unit ≤ 1000))) then
          (r_image fuel (⟨p0.Key, p0.Has, p0.Text⟩ : Image)).bind fun r3 =>
          some r3
        else
          some false
      else
        letJ (fun (j4 : Bool) =>
          bif j4 then
            some (((((decide (p0.Unit ≥ 1)) && (decide (p0.Unit ≤ 1000))) && (p0.Key == [])) && (!p0.Has)) && (p0.Text == []))
          else
            some false) fun jp5 =>
        bif (p0.Kind == 1) then
          jp5 true
        else
          bif (p0.Kind == 4) then
            jp5 true
          else
            bif (p0.Kind == 5) then
              jp5 true
            else
              jp5 (p0.Kind == 7)) fun jp2 =>
    bif (p0.Kind == 2) then
      jp2 true
    else
      jp2 (p0.Kind == 3)

theorem r_Valid_ok {fuel : Nat} {p0 : Note} {r : Bool} (h : r_Valid fuel p0 = some r) : PC Try.prog 28 [.d (encNote p0)] (vB r) := by
  refine PC.of_SW Try.func28 rfl fun H => ?_
  unfold r_Valid at h
  refine SW.kp 81 H [0] [(0, .d (.agg [.int .i64 p0.Kind, .int .i64 p0.Unit, .str p0.Key, .bool p0.Has, .str p0.Text]))] (by kernel_rfl) <| SW.seq <| SW.regionK <| OWk.sg 81 H [] [1] 2 [(1, .box [vI p0.Kind, vI p0.Unit, vS p0.Key, vB p0.Has, vS p0.Text])] (by kernel_rfl) <| OWk.done (by kernel_rfl) <| thenS_n <| SW.seq <| SW.seq <| SW.regionK <| OWk.sg 81 H [] [1, 4] 2 [(1, .box [vI p0.Kind, vI p0.Unit, vS p0.Key, vB p0.Has, vS p0.Text]), (4, vI p0.Kind)] (by kernel_rfl) <| OWk.done (by kernel_rfl) <| thenS_n <| SW.block <| SW.seq <| SW.regionK <| OWk.sg 81 H [] [1, 4, 5] 2 [(1, .box [vI p0.Kind, vI p0.Unit, vS p0.Key, vB p0.Has, vS p0.Text]), (4, vI p0.Kind), (5, vB (p0.Kind == 6))] (by kernel_rfl) <| OWk.done (by kernel_rfl) <| thenS_n ?_
  refine SW.condB (b := (p0.Kind == 6)) (by kernel_rfl) (fun hc => ?_) (fun hc => ?_)
  · replace h := bif_t hc h
    refine SW.seq <| SW.regionK <| OWk.sg 81 H [] [1, 10] 4 [(1, .box [vI p0.Kind, vI p0.Unit, vS p0.Key, vB p0.Has, vS p0.Text]), (10, vB (p0.Unit == 0))] (by kernel_rfl) <| OWk.mg 81 H [1, 14] 4 (p0.Unit == 0) (fun b => (sp 81 [(1, .box [vI p0.Kind, vI p0.Unit, vS p0.Key, vB p0.Has, vS p0.Text]), (10, vB b)] H)) (fun b => [(1, .box [vI p0.Kind, vI p0.Unit, vS p0.Key, vB p0.Has, vS p0.Text]), (14, vB (b && (p0.Key == [])))]) (by kernel_rfl) (by kernel_rfl) (by kernel_rfl) <| OWk.sg 81 H [] [1, 15] 1 [(1, .box [vI p0.Kind, vI p0.Unit, vS p0.Key, vB p0.Has, vS p0.Text]), (15, vB ((p0.Unit == 0) && (p0.Key == [])))] (by kernel_rfl) <| OWk.mg 81 H [1, 19] 4 ((p0.Unit == 0) && (p0.Key == [])) (fun b => (sp 81 [(1, .box [vI p0.Kind, vI p0.Unit, vS p0.Key, vB p0.Has, vS p0.Text]), (15, vB b)] H)) (fun b => [(1, .box [vI p0.Kind, vI p0.Unit, vS p0.Key, vB p0.Has, vS p0.Text]), (19, vB (b && (!p0.Has)))]) (by kernel_rfl) (by kernel_rfl) (by kernel_rfl) <| OWk.sg 81 H [] [1, 20] 1 [(1, .box [vI p0.Kind, vI p0.Unit, vS p0.Key, vB p0.Has, vS p0.Text]), (20, vB (((p0.Unit == 0) && (p0.Key == [])) && (!p0.Has)))] (by kernel_rfl) ?_
    refine OWk.case (((p0.Unit == 0) && (p0.Key == [])) && (!p0.Has)) (fun b => (sp 81 [(1, .box [vI p0.Kind, vI p0.Unit, vS p0.Key, vB p0.Has, vS p0.Text]), (20, vB b)] H)) (by kernel_rfl) (fun hc => ?_) (fun hc => ?_)
    · replace h := bif_t hc h
      refine OWk.sg 81 H [] [1, 20, 22] 2 [(1, .box [vI p0.Kind, vI p0.Unit, vS p0.Key, vB p0.Has, vS p0.Text]), (20, vB true), (22, vS p0.Text)] (by kernel_rfl) <| OWk.sg 81 H [] [1, 20, 23] 1 [(1, .box [vI p0.Kind, vI p0.Unit, vS p0.Key, vB p0.Has, vS p0.Text]), (20, vB true), (23, vI (p0.Text.length : Int))] (by kernel_rfl) <| OWk.sg 81 H [] [1, 26] 3 [(1, .box [vI p0.Kind, vI p0.Unit, vS p0.Key, vB p0.Has, vS p0.Text]), (26, vB (decide ((p0.Text.length : Int) ≥ 1)))] (by kernel_rfl) ?_
      refine OWk.case (decide ((p0.Text.length : Int) ≥ 1)) (fun b => (sp 81 [(1, .box [vI p0.Kind, vI p0.Unit, vS p0.Key, vB p0.Has, vS p0.Text]), (26, vB b)] H)) (by kernel_rfl) (fun hc => ?_) (fun hc => ?_)
      · replace h := bif_t hc h
        refine OWk.sg 81 H [] [26, 28] 2 [(26, vB true), (28, vS p0.Text)] (by kernel_rfl) <| OWk.sg 81 H [] [26, 29] 1 [(26, vB true), (29, vI (p0.Text.length : Int))] (by kernel_rfl) <| OWk.sg 81 H [] [2] 3 [(2, vB (decide ((p0.Text.length : Int) ≤ 40)))] (by kernel_rfl) <| OWk.done (by kernel_rfl) <| thenS_n <| SW.ret <| blockS_r <| thenS_r ?_
        cases h
        exact EndQ.ret [] (by kernel_rfl) rfl
      · replace h := bif_f hc h
        refine OWk.sg 81 H [] [2] 6 [(2, vB false)] (by kernel_rfl) <| OWk.done (by kernel_rfl) <| thenS_n <| SW.ret <| blockS_r <| thenS_r ?_
        cases h
        exact EndQ.ret [] (by kernel_rfl) rfl
    · replace h := bif_f hc h
      refine OWk.sg 81 H [] [2] 12 [(2, vB false)] (by kernel_rfl) <| OWk.done (by kernel_rfl) <| thenS_n <| SW.ret <| blockS_r <| thenS_r ?_
      cases h
      exact EndQ.ret [] (by kernel_rfl) rfl
  · replace h := bif_f hc h
    obtain ⟨jp2, hjjp2, h⟩ := letJ_inv h
    refine SW.jn 81 H [1, 4, 32] (fun (j1 : Bool) => [(1, .box [vI p0.Kind, vI p0.Unit, vS p0.Key, vB p0.Has, vS p0.Text]), (4, vI p0.Kind), (32, vB j1)]) (fun v => jp2 v = some r) (fun j1 h => ?_) ?_
    · rw [hjjp2] at h
      refine SW.condB (b := j1) (by kernel_rfl) (fun hc => ?_) (fun hc => ?_)
      · replace h := bif_t hc h
        refine SW.seq <| SW.regionK <| OWk.sg 81 H [] [1, 38] 4 [(1, .box [vI p0.Kind, vI p0.Unit, vS p0.Key, vB p0.Has, vS p0.Text]), (38, vB (decide (p0.Unit ≥ 1)))] (by kernel_rfl) <| OWk.mg 81 H [1, 42] 4 (decide (p0.Unit ≥ 1)) (fun b => (sp 81 [(1, .box [vI p0.Kind, vI p0.Unit, vS p0.Key, vB p0.Has, vS p0.Text]), (38, vB b)] H)) (fun b => [(1, .box [vI p0.Kind, vI p0.Unit, vS p0.Key, vB p0.Has, vS p0.Text]), (42, vB (b && (decide (p0.Unit ≤ 1000))))]) (by kernel_rfl) (by kernel_rfl) (by kernel_rfl) <| OWk.sg 81 H [] [1, 43] 1 [(1, .box [vI p0.Kind, vI p0.Unit, vS p0.Key, vB p0.Has, vS p0.Text]), (43, vB ((decide (p0.Unit ≥ 1)) && (decide (p0.Unit ≤ 1000))))] (by kernel_rfl) ?_
        refine OWk.case ((decide (p0.Unit ≥ 1)) && (decide (p0.Unit ≤ 1000))) (fun b => (sp 81 [(1, .box [vI p0.Kind, vI p0.Unit, vS p0.Key, vB p0.Has, vS p0.Text]), (43, vB b)] H)) (by kernel_rfl) (fun hc => ?_) (fun hc => ?_)
        · replace h := bif_t hc h
          refine OWk.sg 81 H [] [43, 50] 7 [(43, vB true), (50, .d (.agg [.str p0.Key, .bool p0.Has, .str p0.Text]))] (by kernel_rfl) ?_
          obtain ⟨r3, hr, h⟩ := bind_inv h
          refine OWk.cl 81 H (d := some 51) (ls := []) (gs := []) [] [43, 51] [(43, vB true), (51, vB r3)] (r_image_ok hr) (by kernel_rfl) (by kernel_rfl) (by kernel_rfl) <| OWk.sg 81 H [] [2] 2 [(2, vB r3)] (by kernel_rfl) <| OWk.done (by kernel_rfl) <| thenS_n <| SW.ret <| blockS_r <| thenS_r ?_
          cases h
          exact EndQ.ret [] (by kernel_rfl) rfl
        · replace h := bif_f hc h
          refine OWk.sg 81 H [] [2] 10 [(2, vB false)] (by kernel_rfl) <| OWk.done (by kernel_rfl) <| thenS_n <| SW.ret <| blockS_r <| thenS_r ?_
          cases h
          exact EndQ.ret [] (by kernel_rfl) rfl
      · replace h := bif_f hc h
        obtain ⟨jp5, hjjp5, h⟩ := letJ_inv h
        refine SW.jn 81 H [1, 53] (fun (j4 : Bool) => [(1, .box [vI p0.Kind, vI p0.Unit, vS p0.Key, vB p0.Has, vS p0.Text]), (53, vB j4)]) (fun v => jp5 v = some r) (fun j4 h => ?_) ?_
        · rw [hjjp5] at h
          refine SW.condB (b := j4) (by kernel_rfl) (fun hc => ?_) (fun hc => ?_)
          · replace h := bif_t hc h
            refine SW.seq <| SW.regionK <| OWk.sg 81 H [] [1, 61] 4 [(1, .box [vI p0.Kind, vI p0.Unit, vS p0.Key, vB p0.Has, vS p0.Text]), (61, vB (decide (p0.Unit ≥ 1)))] (by kernel_rfl) <| OWk.mg 81 H [1, 65] 4 (decide (p0.Unit ≥ 1)) (fun b => (sp 81 [(1, .box [vI p0.Kind, vI p0.Unit, vS p0.Key, vB p0.Has, vS p0.Text]), (61, vB b)] H)) (fun b => [(1, .box [vI p0.Kind, vI p0.Unit, vS p0.Key, vB p0.Has, vS p0.Text]), (65, vB (b && (decide (p0.Unit ≤ 1000))))]) (by kernel_rfl) (by kernel_rfl) (by kernel_rfl) <| OWk.sg 81 H [] [1, 66] 1 [(1, .box [vI p0.Kind, vI p0.Unit, vS p0.Key, vB p0.Has, vS p0.Text]), (66, vB ((decide (p0.Unit ≥ 1)) && (decide (p0.Unit ≤ 1000))))] (by kernel_rfl) <| OWk.mg 81 H [1, 70] 4 ((decide (p0.Unit ≥ 1)) && (decide (p0.Unit ≤ 1000))) (fun b => (sp 81 [(1, .box [vI p0.Kind, vI p0.Unit, vS p0.Key, vB p0.Has, vS p0.Text]), (66, vB b)] H)) (fun b => [(1, .box [vI p0.Kind, vI p0.Unit, vS p0.Key, vB p0.Has, vS p0.Text]), (70, vB (b && (p0.Key == [])))]) (by kernel_rfl) (by kernel_rfl) (by kernel_rfl) <| OWk.sg 81 H [] [1, 71] 1 [(1, .box [vI p0.Kind, vI p0.Unit, vS p0.Key, vB p0.Has, vS p0.Text]), (71, vB (((decide (p0.Unit ≥ 1)) && (decide (p0.Unit ≤ 1000))) && (p0.Key == [])))] (by kernel_rfl) <| OWk.mg 81 H [1, 75] 4 (((decide (p0.Unit ≥ 1)) && (decide (p0.Unit ≤ 1000))) && (p0.Key == [])) (fun b => (sp 81 [(1, .box [vI p0.Kind, vI p0.Unit, vS p0.Key, vB p0.Has, vS p0.Text]), (71, vB b)] H)) (fun b => [(1, .box [vI p0.Kind, vI p0.Unit, vS p0.Key, vB p0.Has, vS p0.Text]), (75, vB (b && (!p0.Has)))]) (by kernel_rfl) (by kernel_rfl) (by kernel_rfl) <| OWk.sg 81 H [] [1, 76] 1 [(1, .box [vI p0.Kind, vI p0.Unit, vS p0.Key, vB p0.Has, vS p0.Text]), (76, vB ((((decide (p0.Unit ≥ 1)) && (decide (p0.Unit ≤ 1000))) && (p0.Key == [])) && (!p0.Has)))] (by kernel_rfl) <| OWk.mg 81 H [80] 4 ((((decide (p0.Unit ≥ 1)) && (decide (p0.Unit ≤ 1000))) && (p0.Key == [])) && (!p0.Has)) (fun b => (sp 81 [(1, .box [vI p0.Kind, vI p0.Unit, vS p0.Key, vB p0.Has, vS p0.Text]), (76, vB b)] H)) (fun b => [(80, vB (b && (p0.Text == [])))]) (by kernel_rfl) (by kernel_rfl) (by kernel_rfl) <| OWk.sg 81 H [] [2] 1 [(2, vB (((((decide (p0.Unit ≥ 1)) && (decide (p0.Unit ≤ 1000))) && (p0.Key == [])) && (!p0.Has)) && (p0.Text == [])))] (by kernel_rfl) <| OWk.done (by kernel_rfl) <| thenS_n <| SW.ret <| blockS_r <| thenS_r ?_
            cases h
            exact EndQ.ret [] (by kernel_rfl) rfl
          · replace h := bif_f hc h
            refine SW.skip <| blockS_n <| thenS_n <| SW.seq <| SW.regionK <| OWk.sg 81 H [] [2] 1 [(2, vB false)] (by kernel_rfl) <| OWk.done (by kernel_rfl) <| thenS_n <| SW.ret ?_
            cases h
            exact EndQ.ret [] (by kernel_rfl) rfl
        · refine SW.seq <| SW.regionK <| OWk.sg 81 H [] [1, 4, 53] 2 [(1, .box [vI p0.Kind, vI p0.Unit, vS p0.Key, vB p0.Has, vS p0.Text]), (4, vI p0.Kind), (53, vB (p0.Kind == 1))] (by kernel_rfl) <| OWk.done (by kernel_rfl) <| thenS_n ?_
          refine SW.case (p0.Kind == 1) (fun b => (sp 81 [(1, .box [vI p0.Kind, vI p0.Unit, vS p0.Key, vB p0.Has, vS p0.Text]), (4, vI p0.Kind), (53, vB b)] H)) (by kernel_rfl) (fun hc => ?_) (fun hc => ?_)
          · replace h := bif_t hc h
            refine SW.condT (by kernel_rfl) <| SW.skip ?_
            exact ⟨true, [], by kernel_rfl, h⟩
          · replace h := bif_f hc h
            refine SW.condF (by kernel_rfl) <| SW.seq <| SW.regionK <| OWk.sg 81 H [] [1, 4, 53] 2 [(1, .box [vI p0.Kind, vI p0.Unit, vS p0.Key, vB p0.Has, vS p0.Text]), (4, vI p0.Kind), (53, vB (p0.Kind == 4))] (by kernel_rfl) <| OWk.done (by kernel_rfl) <| thenS_n ?_
            refine SW.case (p0.Kind == 4) (fun b => (sp 81 [(1, .box [vI p0.Kind, vI p0.Unit, vS p0.Key, vB p0.Has, vS p0.Text]), (4, vI p0.Kind), (53, vB b)] H)) (by kernel_rfl) (fun hc => ?_) (fun hc => ?_)
            · replace h := bif_t hc h
              refine SW.condT (by kernel_rfl) <| SW.skip ?_
              exact ⟨true, [], by kernel_rfl, h⟩
            · replace h := bif_f hc h
              refine SW.condF (by kernel_rfl) <| SW.seq <| SW.regionK <| OWk.sg 81 H [] [1, 4, 53] 2 [(1, .box [vI p0.Kind, vI p0.Unit, vS p0.Key, vB p0.Has, vS p0.Text]), (4, vI p0.Kind), (53, vB (p0.Kind == 5))] (by kernel_rfl) <| OWk.done (by kernel_rfl) <| thenS_n ?_
              refine SW.case (p0.Kind == 5) (fun b => (sp 81 [(1, .box [vI p0.Kind, vI p0.Unit, vS p0.Key, vB p0.Has, vS p0.Text]), (4, vI p0.Kind), (53, vB b)] H)) (by kernel_rfl) (fun hc => ?_) (fun hc => ?_)
              · replace h := bif_t hc h
                refine SW.condT (by kernel_rfl) <| SW.skip ?_
                exact ⟨true, [], by kernel_rfl, h⟩
              · replace h := bif_f hc h
                refine SW.condF (by kernel_rfl) <| SW.regionK <| OWk.sg 81 H [] [1, 53] 2 [(1, .box [vI p0.Kind, vI p0.Unit, vS p0.Key, vB p0.Has, vS p0.Text]), (53, vB (p0.Kind == 7))] (by kernel_rfl) <| OWk.done (by kernel_rfl) ?_
                exact ⟨(p0.Kind == 7), [], by kernel_rfl, h⟩
    · refine SW.seq <| SW.regionK <| OWk.sg 81 H [] [1, 4, 32] 2 [(1, .box [vI p0.Kind, vI p0.Unit, vS p0.Key, vB p0.Has, vS p0.Text]), (4, vI p0.Kind), (32, vB (p0.Kind == 2))] (by kernel_rfl) <| OWk.done (by kernel_rfl) <| thenS_n ?_
      refine SW.case (p0.Kind == 2) (fun b => (sp 81 [(1, .box [vI p0.Kind, vI p0.Unit, vS p0.Key, vB p0.Has, vS p0.Text]), (4, vI p0.Kind), (32, vB b)] H)) (by kernel_rfl) (fun hc => ?_) (fun hc => ?_)
      · replace h := bif_t hc h
        refine SW.condT (by kernel_rfl) <| SW.skip ?_
        exact ⟨true, [], by kernel_rfl, h⟩
      · replace h := bif_f hc h
        refine SW.condF (by kernel_rfl) <| SW.regionK <| OWk.sg 81 H [] [1, 4, 32] 2 [(1, .box [vI p0.Kind, vI p0.Unit, vS p0.Key, vB p0.Has, vS p0.Text]), (4, vI p0.Kind), (32, vB (p0.Kind == 3))] (by kernel_rfl) <| OWk.done (by kernel_rfl) ?_
        exact ⟨(p0.Kind == 3), [], by kernel_rfl, h⟩

def r_notes_l1 (fuel : Nat) (p0 : (List Note)) (y1 : Int) : Option ((Int) ⊕ ((Unit) ⊕ ((Bool)))) :=
  bif (decide (y1 < (p0.length : Int))) then
    (idx p0 y1).bind fun x2 =>
    (r_Valid fuel x2).bind fun r3 =>
    bif (!r3) then
      some (.inr (.inr false))
    else
      some (.inl (IntKind.wrap .i64 (y1 + 1)))
  else
    some (.inr (.inl ()))

def r_notes (fuel : Nat) (p0 : (List Note)) : Option (Bool) :=
  (iter (r_notes_l1 fuel p0) fuel 0).bind (Sum.elim (fun v5 =>
    some (decide ((p0.length : Int) ≤ 1000))) (fun r6 =>
    some r6))

theorem r_notes_ok {fuel : Nat} {p0 : (List Note)} {r : Bool} (h : r_notes fuel p0 = some r) : PC Try.prog 56 [.d (.list 5 (List.map encNote p0))] (vB r) := by
  refine PC.of_SW Try.func56 rfl fun H => ?_
  unfold r_notes at h
  refine SW.kp 19 H [0] [(0, .d (.list 5 (List.map encNote p0)))] (by kernel_rfl) <| SW.seq <| SW.regionK <| OWk.sg 19 H [] [0] 1 [(0, .d (.list 5 (List.map encNote p0)))] (by kernel_rfl) <| OWk.done (by kernel_rfl) <| thenS_n <| SW.seq <| SW.seq <| SW.regionK <| OWk.sg 19 H [] [0, 3] 1 [(0, .d (.list 5 (List.map encNote p0))), (3, vI 0)] (by kernel_rfl) <| OWk.done (by kernel_rfl) <| thenS_n <| SW.block ?_
  obtain ⟨z4, hit, h⟩ := bind_inv h
  refine SW.it 19 H [0, 3] (fun y1 => [(0, .d (.list 5 (List.map encNote p0))), (3, vI y1)]) (fun b e s => ((∃ v5, b = (.inl v5) ∧ (e = .exit 0 ∧ s = (sp 19 [(0, .d (.list 5 (List.map encNote p0)))] H))) ∨ (∃ r6, b = (.inr r6) ∧ (e = .ret ∧ EndQ Try.prog Try.f56.results.toList H (vB r6) .ret s)))) hit (by kernel_rfl) (fun y1 o h => ?_) ?_
  · unfold r_notes_l1 at h
    refine SW.seq <| SW.seq <| SW.regionK <| OWk.sg 19 H [] [0, 3, 4, 5] 2 [(0, .d (.list 5 (List.map encNote p0))), (3, vI y1), (4, vI y1), (5, .d (.list 5 (List.map encNote p0)))] (by kernel_rfl) <| OWk.on 19 H (d := some 6) [0, 3, 4, 6] [(0, .d (.list 5 (List.map encNote p0))), (3, vI y1), (4, vI y1), (6, vI (p0.length : Int))] (BAt.len (enc := encNote) (xs := p0) (by kernel_rfl)) (by kernel_rfl) <| OWk.sg 19 H [] [0, 3, 7] 1 [(0, .d (.list 5 (List.map encNote p0))), (3, vI y1), (7, vB (decide (y1 < (p0.length : Int))))] (by kernel_rfl) <| OWk.done (by kernel_rfl) <| thenS_n ?_
    refine SW.condB (b := (decide (y1 < (p0.length : Int)))) (by kernel_rfl) (fun hc => ?_) (fun hc => ?_)
    · replace h := bif_t hc h
      refine SW.skip <| thenS_n <| SW.seq <| SW.block <| SW.seq <| SW.regionK <| OWk.sg 19 H [] [0, 3, 10, 11] 2 [(0, .d (.list 5 (List.map encNote p0))), (3, vI y1), (10, .d (.list 5 (List.map encNote p0))), (11, vI y1)] (by kernel_rfl) ?_
      obtain ⟨x2, hx, h⟩ := bind_inv h
      refine OWk.on 19 H (d := some 12) (s := lendP none (Go.Sh.D.cells (encNote x2))) [0, 3, 12] [(0, .d (.list 5 (List.map encNote p0))), (3, vI y1), (12, .d (.dptr [.int .i64 x2.Kind, .int .i64 x2.Unit, .str x2.Key, .bool x2.Has, .str x2.Text]))] (BAt.index (n := 5) hx (by kernel_rfl)) (by kernel_rfl) <| OWk.sg 19 H [] [0, 3, 13] 1 [(0, .d (.list 5 (List.map encNote p0))), (3, vI y1), (13, .d (.agg [.int .i64 x2.Kind, .int .i64 x2.Unit, .str x2.Key, .bool x2.Has, .str x2.Text]))] (by kernel_rfl) ?_
      obtain ⟨r3, hr, h⟩ := bind_inv h
      refine OWk.cl 19 H (d := some 14) (ls := []) (gs := []) [] [0, 3, 14] [(0, .d (.list 5 (List.map encNote p0))), (3, vI y1), (14, vB r3)] (r_Valid_ok hr) (by kernel_rfl) (by kernel_rfl) (by kernel_rfl) <| OWk.sg 19 H [] [0, 3, 15] 1 [(0, .d (.list 5 (List.map encNote p0))), (3, vI y1), (15, vB (!r3))] (by kernel_rfl) <| OWk.done (by kernel_rfl) <| thenS_n ?_
      refine SW.condB (b := (!r3)) (by kernel_rfl) (fun hc => ?_) (fun hc => ?_)
      · replace h := bif_t hc h
        refine SW.seq <| SW.regionK <| OWk.sg 19 H [] [2] 1 [(2, vB false)] (by kernel_rfl) <| OWk.done (by kernel_rfl) <| thenS_n <| SW.ret <| blockS_r <| thenS_r ?_
        cases h
        refine thenS_r ?_
        exact ⟨_, rfl, .inr (⟨false, rfl, rfl, EndQ.ret [] (by kernel_rfl) rfl⟩)⟩
      · replace h := bif_f hc h
        refine SW.skip <| blockS_n <| thenS_n <| SW.regionK <| OWk.sg 19 H [] [0, 3] 3 [(0, .d (.list 5 (List.map encNote p0))), (3, vI (IntKind.wrap .i64 (y1 + 1)))] (by kernel_rfl) <| OWk.done (by kernel_rfl) ?_
        cases h
        exact ⟨(IntKind.wrap .i64 (y1 + 1)), rfl, by kernel_rfl⟩
    · replace h := bif_f hc h
      refine SW.kp 19 H [0] [(0, .d (.list 5 (List.map encNote p0)))] (by kernel_rfl) <| SW.exit <| thenS_e ?_
      cases h
      refine thenS_e ?_
      exact ⟨_, rfl, .inl ⟨(), rfl, rfl, rfl⟩⟩
  · rintro _ _ (⟨v5, rfl, rfl, rfl⟩ | ⟨r6, rfl, rfl, hE⟩)
    · replace h := sum_l h
      refine blockS_hit <| thenS_n <| SW.seq <| SW.regionK <| OWk.sg 19 H [] [16] 1 [(16, .d (.list 5 (List.map encNote p0)))] (by kernel_rfl) <| OWk.on 19 H (d := some 17) [17] [(17, vI (p0.length : Int))] (BAt.len (enc := encNote) (xs := p0) (by kernel_rfl)) (by kernel_rfl) <| OWk.sg 19 H [] [2] 2 [(2, vB (decide ((p0.length : Int) ≤ 1000)))] (by kernel_rfl) <| OWk.done (by kernel_rfl) <| thenS_n <| SW.ret ?_
      cases h
      exact EndQ.ret [] (by kernel_rfl) rfl
    · replace h := sum_r h
      refine blockS_r <| thenS_r ?_
      cases h
      exact hE

def r_since_l1 (fuel : Nat) (p0 : (List Note)) (p1 : Int) (p2 : Int) (y1 : Int × Int) : Option ((Int × Int) ⊕ (Int)) :=
  bif (decide (y1.2 < p1)) then
    letJ (fun (j2 : Bool) =>
      bif j2 then
        some (.inl (y1.1, (IntKind.wrap .i64 (y1.2 + 1))))
      else
        (idx p0 y1.2).bind fun x6 =>
        bif (x6.Kind == 1) then
          some (.inl (y1.2, (IntKind.wrap .i64 (y1.2 + 1))))
        else
          bif (x6.Kind == 4) then
            some (.inl (y1.2, (IntKind.wrap .i64 (y1.2 + 1))))
          else
            bif (x6.Kind == 5) then
              some (.inl ((-1), (IntKind.wrap .i64 (y1.2 + 1))))
            else
              bif (x6.Kind == 7) then
                some (.inl ((-1), (IntKind.wrap .i64 (y1.2 + 1))))
              else
                some (.inl (y1.1, (IntKind.wrap .i64 (y1.2 + 1))))) fun jp3 =>
    (idx p0 y1.2).bind fun x4 =>
    bif (x4.Unit != p2) then
      jp3 true
    else
      (idx p0 y1.2).bind fun x5 =>
      jp3 (x5.Kind == 6)
  else
    some (.inr y1.1)

def r_since (fuel : Nat) (p0 : (List Note)) (p1 : Int) (p2 : Int) : Option (Int) :=
  (iter (r_since_l1 fuel p0 p1 p2) fuel ((-1), 0)).bind fun v8 =>
  some v8

theorem r_since_ok {fuel : Nat} {p0 : (List Note)} {p1 : Int} {p2 : Int} {r : Int} (h : r_since fuel p0 p1 p2 = some r) : PC Try.prog 35 [.d (.list 5 (List.map encNote p0)), vI p1, vI p2] (vI r) := by
  refine PC.of_SW Try.func35 rfl fun H => ?_
  unfold r_since at h
  refine SW.kp 42 H [0, 1, 2] [(0, .d (.list 5 (List.map encNote p0))), (1, vI p1), (2, vI p2)] (by kernel_rfl) <| SW.seq <| SW.regionK <| OWk.sg 42 H [] [0, 1, 2] 1 [(0, .d (.list 5 (List.map encNote p0))), (1, vI p1), (2, vI p2)] (by kernel_rfl) <| OWk.done (by kernel_rfl) <| thenS_n <| SW.seq <| SW.regionK <| OWk.sg 42 H [] [0, 1, 2, 7] 1 [(0, .d (.list 5 (List.map encNote p0))), (1, vI p1), (2, vI p2), (7, vI (-1))] (by kernel_rfl) <| OWk.done (by kernel_rfl) <| thenS_n <| SW.seq <| SW.seq <| SW.regionK <| OWk.sg 42 H [] [0, 1, 2, 7, 8] 1 [(0, .d (.list 5 (List.map encNote p0))), (1, vI p1), (2, vI p2), (7, vI (-1)), (8, vI 0)] (by kernel_rfl) <| OWk.done (by kernel_rfl) <| thenS_n <| SW.block ?_
  obtain ⟨v8, hit, h⟩ := bind_inv h
  refine SW.it 42 H [0, 1, 2, 7, 8] (fun y1 => [(0, .d (.list 5 (List.map encNote p0))), (1, vI p1), (2, vI p2), (7, vI y1.1), (8, vI y1.2)]) (fun v8 e s => (e = .exit 0 ∧ s = (sp 42 [(7, vI v8)] H))) hit (by kernel_rfl) (fun y1 o h => ?_) ?_
  · unfold r_since_l1 at h
    refine SW.seq <| SW.seq <| SW.regionK <| OWk.sg 42 H [] [0, 1, 2, 7, 8, 11] 3 [(0, .d (.list 5 (List.map encNote p0))), (1, vI p1), (2, vI p2), (7, vI y1.1), (8, vI y1.2), (11, vB (decide (y1.2 < p1)))] (by kernel_rfl) <| OWk.done (by kernel_rfl) <| thenS_n ?_
    refine SW.condB (b := (decide (y1.2 < p1))) (by kernel_rfl) (fun hc => ?_) (fun hc => ?_)
    · replace h := bif_t hc h
      refine SW.skip <| thenS_n <| SW.seq <| SW.block <| SW.seq ?_
      obtain ⟨jp3, hjjp3, h⟩ := letJ_inv h
      refine SW.jn 42 H [0, 1, 2, 7, 8, 28] (fun (j2 : Bool) => [(0, .d (.list 5 (List.map encNote p0))), (1, vI p1), (2, vI p2), (7, vI y1.1), (8, vI y1.2), (28, vB j2)]) (fun v => jp3 v = some o) (fun j2 h => ?_) ?_
      · rw [hjjp3] at h
        refine SW.condB (b := j2) (by kernel_rfl) (fun hc => ?_) (fun hc => ?_)
        · replace h := bif_t hc h
          refine SW.exit <| thenS_e <| blockS_hit <| thenS_n <| SW.regionK <| OWk.sg 42 H [] [0, 1, 2, 7, 8] 3 [(0, .d (.list 5 (List.map encNote p0))), (1, vI p1), (2, vI p2), (7, vI y1.1), (8, vI (IntKind.wrap .i64 (y1.2 + 1)))] (by kernel_rfl) <| OWk.done (by kernel_rfl) ?_
          cases h
          exact ⟨(y1.1, (IntKind.wrap .i64 (y1.2 + 1))), rfl, by kernel_rfl⟩
        · replace h := bif_f hc h
          refine SW.skip <| thenS_n <| SW.seq <| SW.regionK <| OWk.sg 42 H [] [0, 1, 2, 7, 8, 29, 30] 2 [(0, .d (.list 5 (List.map encNote p0))), (1, vI p1), (2, vI p2), (7, vI y1.1), (8, vI y1.2), (29, .d (.list 5 (List.map encNote p0))), (30, vI y1.2)] (by kernel_rfl) ?_
          obtain ⟨x6, hx, h⟩ := bind_inv h
          refine OWk.on 42 H (d := some 31) (s := lendP none (Go.Sh.D.cells (encNote x6))) [0, 1, 2, 7, 8, 31] [(0, .d (.list 5 (List.map encNote p0))), (1, vI p1), (2, vI p2), (7, vI y1.1), (8, vI y1.2), (31, .d (.dptr [.int .i64 x6.Kind, .int .i64 x6.Unit, .str x6.Key, .bool x6.Has, .str x6.Text]))] (BAt.index (n := 5) hx (by kernel_rfl)) (by kernel_rfl) <| OWk.sg 42 H [] [0, 1, 2, 7, 8, 33] 2 [(0, .d (.list 5 (List.map encNote p0))), (1, vI p1), (2, vI p2), (7, vI y1.1), (8, vI y1.2), (33, vI x6.Kind)] (by kernel_rfl) <| OWk.done (by kernel_rfl) <| thenS_n <| SW.block <| SW.seq <| SW.seq <| SW.regionK <| OWk.sg 42 H [] [0, 1, 2, 7, 8, 33, 34] 2 [(0, .d (.list 5 (List.map encNote p0))), (1, vI p1), (2, vI p2), (7, vI y1.1), (8, vI y1.2), (33, vI x6.Kind), (34, vB (x6.Kind == 1))] (by kernel_rfl) <| OWk.done (by kernel_rfl) <| thenS_n ?_
          refine SW.case (x6.Kind == 1) (fun b => (sp 42 [(0, .d (.list 5 (List.map encNote p0))), (1, vI p1), (2, vI p2), (7, vI y1.1), (8, vI y1.2), (33, vI x6.Kind), (34, vB b)] H)) (by kernel_rfl) (fun hc => ?_) (fun hc => ?_)
          · replace h := bif_t hc h
            refine SW.condT (by kernel_rfl) <| SW.skip <| thenS_n <| SW.condT (by kernel_rfl) <| SW.regionK <| OWk.sg 42 H [] [0, 1, 2, 7, 8] 2 [(0, .d (.list 5 (List.map encNote p0))), (1, vI p1), (2, vI p2), (7, vI y1.2), (8, vI y1.2)] (by kernel_rfl) <| OWk.done (by kernel_rfl) <| blockS_n <| blockS_n <| thenS_n <| SW.regionK <| OWk.sg 42 H [] [0, 1, 2, 7, 8] 3 [(0, .d (.list 5 (List.map encNote p0))), (1, vI p1), (2, vI p2), (7, vI y1.2), (8, vI (IntKind.wrap .i64 (y1.2 + 1)))] (by kernel_rfl) <| OWk.done (by kernel_rfl) ?_
            cases h
            exact ⟨(y1.2, (IntKind.wrap .i64 (y1.2 + 1))), rfl, by kernel_rfl⟩
          · replace h := bif_f hc h
            refine SW.condF (by kernel_rfl) <| SW.regionK <| OWk.sg 42 H [] [0, 1, 2, 7, 8, 33, 34] 2 [(0, .d (.list 5 (List.map encNote p0))), (1, vI p1), (2, vI p2), (7, vI y1.1), (8, vI y1.2), (33, vI x6.Kind), (34, vB (x6.Kind == 4))] (by kernel_rfl) <| OWk.done (by kernel_rfl) <| thenS_n ?_
            refine SW.condB (b := (x6.Kind == 4)) (by kernel_rfl) (fun hc => ?_) (fun hc => ?_)
            · replace h := bif_t hc h
              refine SW.regionK <| OWk.sg 42 H [] [0, 1, 2, 7, 8] 2 [(0, .d (.list 5 (List.map encNote p0))), (1, vI p1), (2, vI p2), (7, vI y1.2), (8, vI y1.2)] (by kernel_rfl) <| OWk.done (by kernel_rfl) <| blockS_n <| blockS_n <| thenS_n <| SW.regionK <| OWk.sg 42 H [] [0, 1, 2, 7, 8] 3 [(0, .d (.list 5 (List.map encNote p0))), (1, vI p1), (2, vI p2), (7, vI y1.2), (8, vI (IntKind.wrap .i64 (y1.2 + 1)))] (by kernel_rfl) <| OWk.done (by kernel_rfl) ?_
              cases h
              exact ⟨(y1.2, (IntKind.wrap .i64 (y1.2 + 1))), rfl, by kernel_rfl⟩
            · replace h := bif_f hc h
              refine SW.seq <| SW.seq <| SW.regionK <| OWk.sg 42 H [] [0, 1, 2, 7, 8, 33, 38] 2 [(0, .d (.list 5 (List.map encNote p0))), (1, vI p1), (2, vI p2), (7, vI y1.1), (8, vI y1.2), (33, vI x6.Kind), (38, vB (x6.Kind == 5))] (by kernel_rfl) <| OWk.done (by kernel_rfl) <| thenS_n ?_
              refine SW.case (x6.Kind == 5) (fun b => (sp 42 [(0, .d (.list 5 (List.map encNote p0))), (1, vI p1), (2, vI p2), (7, vI y1.1), (8, vI y1.2), (33, vI x6.Kind), (38, vB b)] H)) (by kernel_rfl) (fun hc => ?_) (fun hc => ?_)
              · replace h := bif_t hc h
                refine SW.condT (by kernel_rfl) <| SW.skip <| thenS_n <| SW.condT (by kernel_rfl) <| SW.regionK <| OWk.sg 42 H [] [0, 1, 2, 7, 8] 1 [(0, .d (.list 5 (List.map encNote p0))), (1, vI p1), (2, vI p2), (7, vI (-1)), (8, vI y1.2)] (by kernel_rfl) <| OWk.done (by kernel_rfl) <| blockS_n <| blockS_n <| thenS_n <| SW.regionK <| OWk.sg 42 H [] [0, 1, 2, 7, 8] 3 [(0, .d (.list 5 (List.map encNote p0))), (1, vI p1), (2, vI p2), (7, vI (-1)), (8, vI (IntKind.wrap .i64 (y1.2 + 1)))] (by kernel_rfl) <| OWk.done (by kernel_rfl) ?_
                cases h
                exact ⟨((-1), (IntKind.wrap .i64 (y1.2 + 1))), rfl, by kernel_rfl⟩
              · replace h := bif_f hc h
                refine SW.condF (by kernel_rfl) <| SW.regionK <| OWk.sg 42 H [] [0, 1, 2, 7, 8, 38] 2 [(0, .d (.list 5 (List.map encNote p0))), (1, vI p1), (2, vI p2), (7, vI y1.1), (8, vI y1.2), (38, vB (x6.Kind == 7))] (by kernel_rfl) <| OWk.done (by kernel_rfl) <| thenS_n ?_
                refine SW.condB (b := (x6.Kind == 7)) (by kernel_rfl) (fun hc => ?_) (fun hc => ?_)
                · replace h := bif_t hc h
                  refine SW.regionK <| OWk.sg 42 H [] [0, 1, 2, 7, 8] 1 [(0, .d (.list 5 (List.map encNote p0))), (1, vI p1), (2, vI p2), (7, vI (-1)), (8, vI y1.2)] (by kernel_rfl) <| OWk.done (by kernel_rfl) <| blockS_n <| blockS_n <| thenS_n <| SW.regionK <| OWk.sg 42 H [] [0, 1, 2, 7, 8] 3 [(0, .d (.list 5 (List.map encNote p0))), (1, vI p1), (2, vI p2), (7, vI (-1)), (8, vI (IntKind.wrap .i64 (y1.2 + 1)))] (by kernel_rfl) <| OWk.done (by kernel_rfl) ?_
                  cases h
                  exact ⟨((-1), (IntKind.wrap .i64 (y1.2 + 1))), rfl, by kernel_rfl⟩
                · replace h := bif_f hc h
                  refine SW.skip <| blockS_n <| blockS_n <| thenS_n <| SW.regionK <| OWk.sg 42 H [] [0, 1, 2, 7, 8] 3 [(0, .d (.list 5 (List.map encNote p0))), (1, vI p1), (2, vI p2), (7, vI y1.1), (8, vI (IntKind.wrap .i64 (y1.2 + 1)))] (by kernel_rfl) <| OWk.done (by kernel_rfl) ?_
                  cases h
                  exact ⟨(y1.1, (IntKind.wrap .i64 (y1.2 + 1))), rfl, by kernel_rfl⟩
      · refine SW.regionK <| OWk.sg 42 H [] [0, 1, 2, 7, 8, 14, 15] 2 [(0, .d (.list 5 (List.map encNote p0))), (1, vI p1), (2, vI p2), (7, vI y1.1), (8, vI y1.2), (14, .d (.list 5 (List.map encNote p0))), (15, vI y1.2)] (by kernel_rfl) ?_
        obtain ⟨x4, hx, h⟩ := bind_inv h
        refine OWk.on 42 H (d := some 16) (s := lendP none (Go.Sh.D.cells (encNote x4))) [0, 1, 2, 7, 8, 16] [(0, .d (.list 5 (List.map encNote p0))), (1, vI p1), (2, vI p2), (7, vI y1.1), (8, vI y1.2), (16, .d (.dptr [.int .i64 x4.Kind, .int .i64 x4.Unit, .str x4.Key, .bool x4.Has, .str x4.Text]))] (BAt.index (n := 5) hx (by kernel_rfl)) (by kernel_rfl) <| OWk.sg 42 H [] [0, 1, 2, 7, 8, 21] 5 [(0, .d (.list 5 (List.map encNote p0))), (1, vI p1), (2, vI p2), (7, vI y1.1), (8, vI y1.2), (21, vB (x4.Unit != p2))] (by kernel_rfl) ?_
        refine OWk.case (x4.Unit != p2) (fun b => (sp 42 [(0, .d (.list 5 (List.map encNote p0))), (1, vI p1), (2, vI p2), (7, vI y1.1), (8, vI y1.2), (21, vB b)] H)) (by kernel_rfl) (fun hc => ?_) (fun hc => ?_)
        · replace h := bif_t hc h
          refine OWk.sg 42 H [] [0, 1, 2, 7, 8, 28] 7 [(0, .d (.list 5 (List.map encNote p0))), (1, vI p1), (2, vI p2), (7, vI y1.1), (8, vI y1.2), (28, vB true)] (by kernel_rfl) <| OWk.done (by kernel_rfl) ?_
          exact ⟨true, [], by kernel_rfl, h⟩
        · replace h := bif_f hc h
          refine OWk.sg 42 H [] [0, 1, 2, 7, 8, 21, 22, 23] 2 [(0, .d (.list 5 (List.map encNote p0))), (1, vI p1), (2, vI p2), (7, vI y1.1), (8, vI y1.2), (21, vB false), (22, .d (.list 5 (List.map encNote p0))), (23, vI y1.2)] (by kernel_rfl) ?_
          obtain ⟨x5, hx, h⟩ := bind_inv h
          refine OWk.on 42 H (d := some 24) (s := lendP none (Go.Sh.D.cells (encNote x5))) [0, 1, 2, 7, 8, 21, 24] [(0, .d (.list 5 (List.map encNote p0))), (1, vI p1), (2, vI p2), (7, vI y1.1), (8, vI y1.2), (21, vB false), (24, .d (.dptr [.int .i64 x5.Kind, .int .i64 x5.Unit, .str x5.Key, .bool x5.Has, .str x5.Text]))] (BAt.index (n := 5) hx (by kernel_rfl)) (by kernel_rfl) <| OWk.sg 42 H [] [0, 1, 2, 7, 8, 28] 4 [(0, .d (.list 5 (List.map encNote p0))), (1, vI p1), (2, vI p2), (7, vI y1.1), (8, vI y1.2), (28, vB (x5.Kind == 6))] (by kernel_rfl) <| OWk.done (by kernel_rfl) ?_
          exact ⟨(x5.Kind == 6), [], by kernel_rfl, h⟩
    · replace h := bif_f hc h
      refine SW.kp 42 H [7] [(7, vI y1.1)] (by kernel_rfl) <| SW.exit <| thenS_e ?_
      cases h
      refine thenS_e ?_
      exact ⟨_, rfl, ⟨rfl, rfl⟩⟩
  · rintro _ _ ⟨rfl, rfl⟩
    refine blockS_hit <| thenS_n <| SW.seq <| SW.regionK <| OWk.sg 42 H [] [6] 2 [(6, vI v8)] (by kernel_rfl) <| OWk.done (by kernel_rfl) <| thenS_n <| SW.ret ?_
    cases h
    exact EndQ.ret [] (by kernel_rfl) rfl

def r_touched_l1 (fuel : Nat) (p0 : (List Note)) (p1 : Int) (p2 : Int) (p3 : (List UInt8)) (p4 : Int) (r1 : Int) (y2 : Int) : Option ((Int) ⊕ ((Unit) ⊕ ((Bool)))) :=
  bif ((decide (r1 ≥ 0)) && (decide (y2 < p1))) then
    (idx p0 y2).bind fun x3 =>
    bif (x3.Unit == p2) then
      (idx p0 y2).bind fun x4 =>
      bif (x4.Key == p3) then
        (idx p0 y2).bind fun x5 =>
        bif (x5.Kind == 2) then
          bif (p4 == 0) then
            some (.inr (.inr true))
          else
            (idx p0 y2).bind fun x6 =>
            bif (x6.Kind == p4) then
              some (.inr (.inr true))
            else
              some (.inl (IntKind.wrap .i64 (y2 + 1)))
        else
          (idx p0 y2).bind fun x7 =>
          bif (x7.Kind == 3) then
            bif (p4 == 0) then
              some (.inr (.inr true))
            else
              (idx p0 y2).bind fun x8 =>
              bif (x8.Kind == p4) then
                some (.inr (.inr true))
              else
                some (.inl (IntKind.wrap .i64 (y2 + 1)))
          else
            some (.inl (IntKind.wrap .i64 (y2 + 1)))
      else
        some (.inl (IntKind.wrap .i64 (y2 + 1)))
    else
      some (.inl (IntKind.wrap .i64 (y2 + 1)))
  else
    some (.inr (.inl ()))

def r_touched (fuel : Nat) (p0 : (List Note)) (p1 : Int) (p2 : Int) (p3 : (List UInt8)) (p4 : Int) : Option (Bool) :=
  (r_since fuel p0 p1 p2).bind fun r1 =>
  (iter (r_touched_l1 fuel p0 p1 p2 p3 p4 r1) fuel (IntKind.wrap .i64 (r1 + 1))).bind (Sum.elim (fun v10 =>
    some false) (fun r11 =>
    some r11))

theorem r_touched_ok {fuel : Nat} {p0 : (List Note)} {p1 : Int} {p2 : Int} {p3 : (List UInt8)} {p4 : Int} {r : Bool} (h : r_touched fuel p0 p1 p2 p3 p4 = some r) : PC Try.prog 90 [.d (.list 5 (List.map encNote p0)), vI p1, vI p2, vS p3, vI p4] (vB r) := by
  refine PC.of_SW Try.func90 rfl fun H => ?_
  unfold r_touched at h
  refine SW.kp 73 H [0, 1, 2, 3, 4] [(0, .d (.list 5 (List.map encNote p0))), (1, vI p1), (2, vI p2), (3, vS p3), (4, vI p4)] (by kernel_rfl) <| SW.seq <| SW.regionK <| OWk.sg 73 H [] [0, 1, 2, 3, 4] 1 [(0, .d (.list 5 (List.map encNote p0))), (1, vI p1), (2, vI p2), (3, vS p3), (4, vI p4)] (by kernel_rfl) <| OWk.done (by kernel_rfl) <| thenS_n <| SW.seq <| SW.regionK <| OWk.sg 73 H [] [0, 1, 2, 3, 4, 13, 14, 15] 3 [(0, .d (.list 5 (List.map encNote p0))), (1, vI p1), (2, vI p2), (3, vS p3), (4, vI p4), (13, .d (.list 5 (List.map encNote p0))), (14, vI p1), (15, vI p2)] (by kernel_rfl) ?_
  obtain ⟨r1, hr, h⟩ := bind_inv h
  refine OWk.cl 73 H (d := some 16) (ls := []) (gs := []) [] [0, 1, 2, 3, 4, 16] [(0, .d (.list 5 (List.map encNote p0))), (1, vI p1), (2, vI p2), (3, vS p3), (4, vI p4), (16, vI r1)] (r_since_ok hr) (by kernel_rfl) (by kernel_rfl) (by kernel_rfl) <| OWk.sg 73 H [] [0, 1, 2, 3, 4, 11] 1 [(0, .d (.list 5 (List.map encNote p0))), (1, vI p1), (2, vI p2), (3, vS p3), (4, vI p4), (11, vI r1)] (by kernel_rfl) <| OWk.done (by kernel_rfl) <| thenS_n <| SW.seq <| SW.seq <| SW.regionK <| OWk.sg 73 H [] [0, 1, 2, 3, 4, 11, 12] 3 [(0, .d (.list 5 (List.map encNote p0))), (1, vI p1), (2, vI p2), (3, vS p3), (4, vI p4), (11, vI r1), (12, vI (IntKind.wrap .i64 (r1 + 1)))] (by kernel_rfl) <| OWk.done (by kernel_rfl) <| thenS_n <| SW.block ?_
  obtain ⟨z9, hit, h⟩ := bind_inv h
  refine SW.it 73 H [0, 1, 2, 3, 4, 11, 12] (fun y2 => [(0, .d (.list 5 (List.map encNote p0))), (1, vI p1), (2, vI p2), (3, vS p3), (4, vI p4), (11, vI r1), (12, vI y2)]) (fun b e s => ((∃ v10, b = (.inl v10) ∧ (e = .exit 0 ∧ s = (sp 73 [] H))) ∨ (∃ r11, b = (.inr r11) ∧ (e = .ret ∧ EndQ Try.prog Try.f90.results.toList H (vB r11) .ret s)))) hit (by kernel_rfl) (fun y2 o h => ?_) ?_
  · unfold r_touched_l1 at h
    refine SW.seq <| SW.seq <| SW.regionK <| OWk.sg 73 H [] [0, 1, 2, 3, 4, 11, 12, 21] 3 [(0, .d (.list 5 (List.map encNote p0))), (1, vI p1), (2, vI p2), (3, vS p3), (4, vI p4), (11, vI r1), (12, vI y2), (21, vB (decide (r1 ≥ 0)))] (by kernel_rfl) <| OWk.mg 73 H [0, 1, 2, 3, 4, 11, 12, 25] 4 (decide (r1 ≥ 0)) (fun b => (sp 73 [(0, .d (.list 5 (List.map encNote p0))), (1, vI p1), (2, vI p2), (3, vS p3), (4, vI p4), (11, vI r1), (12, vI y2), (21, vB b)] H)) (fun b => [(0, .d (.list 5 (List.map encNote p0))), (1, vI p1), (2, vI p2), (3, vS p3), (4, vI p4), (11, vI r1), (12, vI y2), (25, vB (b && (decide (y2 < p1))))]) (by kernel_rfl) (by kernel_rfl) (by kernel_rfl) <| OWk.done (by kernel_rfl) <| thenS_n ?_
    refine SW.condB (b := ((decide (r1 ≥ 0)) && (decide (y2 < p1)))) (by kernel_rfl) (fun hc => ?_) (fun hc => ?_)
    · replace h := bif_t hc h
      refine SW.skip <| thenS_n <| SW.seq <| SW.block <| SW.seq <| SW.regionK <| OWk.sg 73 H [] [0, 1, 2, 3, 4, 11, 12, 28, 29] 2 [(0, .d (.list 5 (List.map encNote p0))), (1, vI p1), (2, vI p2), (3, vS p3), (4, vI p4), (11, vI r1), (12, vI y2), (28, .d (.list 5 (List.map encNote p0))), (29, vI y2)] (by kernel_rfl) ?_
      obtain ⟨x3, hx, h⟩ := bind_inv h
      refine OWk.on 73 H (d := some 30) (s := lendP none (Go.Sh.D.cells (encNote x3))) [0, 1, 2, 3, 4, 11, 12, 30] [(0, .d (.list 5 (List.map encNote p0))), (1, vI p1), (2, vI p2), (3, vS p3), (4, vI p4), (11, vI r1), (12, vI y2), (30, .d (.dptr [.int .i64 x3.Kind, .int .i64 x3.Unit, .str x3.Key, .bool x3.Has, .str x3.Text]))] (BAt.index (n := 5) hx (by kernel_rfl)) (by kernel_rfl) <| OWk.sg 73 H [] [0, 1, 2, 3, 4, 11, 12, 35] 5 [(0, .d (.list 5 (List.map encNote p0))), (1, vI p1), (2, vI p2), (3, vS p3), (4, vI p4), (11, vI r1), (12, vI y2), (35, vB (x3.Unit == p2))] (by kernel_rfl) ?_
      refine OWk.case (x3.Unit == p2) (fun b => (sp 73 [(0, .d (.list 5 (List.map encNote p0))), (1, vI p1), (2, vI p2), (3, vS p3), (4, vI p4), (11, vI r1), (12, vI y2), (35, vB b)] H)) (by kernel_rfl) (fun hc => ?_) (fun hc => ?_)
      · replace h := bif_t hc h
        refine OWk.sg 73 H [] [0, 1, 2, 3, 4, 11, 12, 35, 36, 37] 2 [(0, .d (.list 5 (List.map encNote p0))), (1, vI p1), (2, vI p2), (3, vS p3), (4, vI p4), (11, vI r1), (12, vI y2), (35, vB true), (36, .d (.list 5 (List.map encNote p0))), (37, vI y2)] (by kernel_rfl) ?_
        obtain ⟨x4, hx, h⟩ := bind_inv h
        refine OWk.on 73 H (d := some 38) (s := lendP none (Go.Sh.D.cells (encNote x4))) [0, 1, 2, 3, 4, 11, 12, 35, 38] [(0, .d (.list 5 (List.map encNote p0))), (1, vI p1), (2, vI p2), (3, vS p3), (4, vI p4), (11, vI r1), (12, vI y2), (35, vB true), (38, .d (.dptr [.int .i64 x4.Kind, .int .i64 x4.Unit, .str x4.Key, .bool x4.Has, .str x4.Text]))] (BAt.index (n := 5) hx (by kernel_rfl)) (by kernel_rfl) <| OWk.sg 73 H [] [0, 1, 2, 3, 4, 11, 12, 44] 6 [(0, .d (.list 5 (List.map encNote p0))), (1, vI p1), (2, vI p2), (3, vS p3), (4, vI p4), (11, vI r1), (12, vI y2), (44, vB (x4.Key == p3))] (by kernel_rfl) ?_
        refine OWk.case (x4.Key == p3) (fun b => (sp 73 [(0, .d (.list 5 (List.map encNote p0))), (1, vI p1), (2, vI p2), (3, vS p3), (4, vI p4), (11, vI r1), (12, vI y2), (44, vB b)] H)) (by kernel_rfl) (fun hc => ?_) (fun hc => ?_)
        · replace h := bif_t hc h
          refine OWk.sg 73 H [] [0, 1, 2, 3, 4, 11, 12, 44, 45, 46] 2 [(0, .d (.list 5 (List.map encNote p0))), (1, vI p1), (2, vI p2), (3, vS p3), (4, vI p4), (11, vI r1), (12, vI y2), (44, vB true), (45, .d (.list 5 (List.map encNote p0))), (46, vI y2)] (by kernel_rfl) ?_
          obtain ⟨x5, hx, h⟩ := bind_inv h
          refine OWk.on 73 H (d := some 47) (s := lendP none (Go.Sh.D.cells (encNote x5))) [0, 1, 2, 3, 4, 11, 12, 44, 47] [(0, .d (.list 5 (List.map encNote p0))), (1, vI p1), (2, vI p2), (3, vS p3), (4, vI p4), (11, vI r1), (12, vI y2), (44, vB true), (47, .d (.dptr [.int .i64 x5.Kind, .int .i64 x5.Unit, .str x5.Key, .bool x5.Has, .str x5.Text]))] (BAt.index (n := 5) hx (by kernel_rfl)) (by kernel_rfl) <| OWk.sg 73 H [] [0, 1, 2, 3, 4, 11, 12, 44, 51] 4 [(0, .d (.list 5 (List.map encNote p0))), (1, vI p1), (2, vI p2), (3, vS p3), (4, vI p4), (11, vI r1), (12, vI y2), (44, vB true), (51, vB (x5.Kind == 2))] (by kernel_rfl) ?_
          refine OWk.case (x5.Kind == 2) (fun b => (sp 73 [(0, .d (.list 5 (List.map encNote p0))), (1, vI p1), (2, vI p2), (3, vS p3), (4, vI p4), (11, vI r1), (12, vI y2), (44, vB true), (51, vB b)] H)) (by kernel_rfl) (fun hc => ?_) (fun hc => ?_)
          · replace h := bif_t hc h
            refine OWk.sg 73 H [] [0, 1, 2, 3, 4, 11, 12, 60, 63] 12 [(0, .d (.list 5 (List.map encNote p0))), (1, vI p1), (2, vI p2), (3, vS p3), (4, vI p4), (11, vI r1), (12, vI y2), (60, vB true), (63, vB (p4 == 0))] (by kernel_rfl) ?_
            refine OWk.case (p4 == 0) (fun b => (sp 73 [(0, .d (.list 5 (List.map encNote p0))), (1, vI p1), (2, vI p2), (3, vS p3), (4, vI p4), (11, vI r1), (12, vI y2), (60, vB true), (63, vB b)] H)) (by kernel_rfl) (fun hc => ?_) (fun hc => ?_)
            · replace h := bif_t hc h
              refine OWk.sg 73 H [] [0, 1, 2, 3, 4, 11, 12, 72] 9 [(0, .d (.list 5 (List.map encNote p0))), (1, vI p1), (2, vI p2), (3, vS p3), (4, vI p4), (11, vI r1), (12, vI y2), (72, vB true)] (by kernel_rfl) <| OWk.done (by kernel_rfl) <| thenS_n <| SW.condT (by kernel_rfl) <| SW.seq <| SW.regionK <| OWk.sg 73 H [] [10] 1 [(10, vB true)] (by kernel_rfl) <| OWk.done (by kernel_rfl) <| thenS_n <| SW.ret <| blockS_r <| thenS_r ?_
              cases h
              refine thenS_r ?_
              exact ⟨_, rfl, .inr (⟨true, rfl, rfl, EndQ.ret [] (by kernel_rfl) rfl⟩)⟩
            · replace h := bif_f hc h
              refine OWk.sg 73 H [] [0, 1, 2, 3, 4, 11, 12, 60, 63, 64, 65] 2 [(0, .d (.list 5 (List.map encNote p0))), (1, vI p1), (2, vI p2), (3, vS p3), (4, vI p4), (11, vI r1), (12, vI y2), (60, vB true), (63, vB false), (64, .d (.list 5 (List.map encNote p0))), (65, vI y2)] (by kernel_rfl) ?_
              obtain ⟨x6, hx, h⟩ := bind_inv h
              refine OWk.on 73 H (d := some 66) (s := lendP none (Go.Sh.D.cells (encNote x6))) [0, 1, 2, 3, 4, 11, 12, 60, 63, 66] [(0, .d (.list 5 (List.map encNote p0))), (1, vI p1), (2, vI p2), (3, vS p3), (4, vI p4), (11, vI r1), (12, vI y2), (60, vB true), (63, vB false), (66, .d (.dptr [.int .i64 x6.Kind, .int .i64 x6.Unit, .str x6.Key, .bool x6.Has, .str x6.Text]))] (BAt.index (n := 5) hx (by kernel_rfl)) (by kernel_rfl) <| OWk.sg 73 H [] [0, 1, 2, 3, 4, 11, 12, 72] 6 [(0, .d (.list 5 (List.map encNote p0))), (1, vI p1), (2, vI p2), (3, vS p3), (4, vI p4), (11, vI r1), (12, vI y2), (72, vB (x6.Kind == p4))] (by kernel_rfl) <| OWk.done (by kernel_rfl) <| thenS_n ?_
              refine SW.condB (b := (x6.Kind == p4)) (by kernel_rfl) (fun hc => ?_) (fun hc => ?_)
              · replace h := bif_t hc h
                refine SW.seq <| SW.regionK <| OWk.sg 73 H [] [10] 1 [(10, vB true)] (by kernel_rfl) <| OWk.done (by kernel_rfl) <| thenS_n <| SW.ret <| blockS_r <| thenS_r ?_
                cases h
                refine thenS_r ?_
                exact ⟨_, rfl, .inr (⟨true, rfl, rfl, EndQ.ret [] (by kernel_rfl) rfl⟩)⟩
              · replace h := bif_f hc h
                refine SW.skip <| blockS_n <| thenS_n <| SW.regionK <| OWk.sg 73 H [] [0, 1, 2, 3, 4, 11, 12] 3 [(0, .d (.list 5 (List.map encNote p0))), (1, vI p1), (2, vI p2), (3, vS p3), (4, vI p4), (11, vI r1), (12, vI (IntKind.wrap .i64 (y2 + 1)))] (by kernel_rfl) <| OWk.done (by kernel_rfl) ?_
                cases h
                exact ⟨(IntKind.wrap .i64 (y2 + 1)), rfl, by kernel_rfl⟩
          · replace h := bif_f hc h
            refine OWk.sg 73 H [] [0, 1, 2, 3, 4, 11, 12, 44, 51, 52, 53] 2 [(0, .d (.list 5 (List.map encNote p0))), (1, vI p1), (2, vI p2), (3, vS p3), (4, vI p4), (11, vI r1), (12, vI y2), (44, vB true), (51, vB false), (52, .d (.list 5 (List.map encNote p0))), (53, vI y2)] (by kernel_rfl) ?_
            obtain ⟨x7, hx, h⟩ := bind_inv h
            refine OWk.on 73 H (d := some 54) (s := lendP none (Go.Sh.D.cells (encNote x7))) [0, 1, 2, 3, 4, 11, 12, 44, 51, 54] [(0, .d (.list 5 (List.map encNote p0))), (1, vI p1), (2, vI p2), (3, vS p3), (4, vI p4), (11, vI r1), (12, vI y2), (44, vB true), (51, vB false), (54, .d (.dptr [.int .i64 x7.Kind, .int .i64 x7.Unit, .str x7.Key, .bool x7.Has, .str x7.Text]))] (BAt.index (n := 5) hx (by kernel_rfl)) (by kernel_rfl) <| OWk.sg 73 H [] [0, 1, 2, 3, 4, 11, 12, 60] 6 [(0, .d (.list 5 (List.map encNote p0))), (1, vI p1), (2, vI p2), (3, vS p3), (4, vI p4), (11, vI r1), (12, vI y2), (60, vB (x7.Kind == 3))] (by kernel_rfl) ?_
            refine OWk.case (x7.Kind == 3) (fun b => (sp 73 [(0, .d (.list 5 (List.map encNote p0))), (1, vI p1), (2, vI p2), (3, vS p3), (4, vI p4), (11, vI r1), (12, vI y2), (60, vB b)] H)) (by kernel_rfl) (fun hc => ?_) (fun hc => ?_)
            · replace h := bif_t hc h
              refine OWk.sg 73 H [] [0, 1, 2, 3, 4, 11, 12, 60, 63] 3 [(0, .d (.list 5 (List.map encNote p0))), (1, vI p1), (2, vI p2), (3, vS p3), (4, vI p4), (11, vI r1), (12, vI y2), (60, vB true), (63, vB (p4 == 0))] (by kernel_rfl) ?_
              refine OWk.case (p4 == 0) (fun b => (sp 73 [(0, .d (.list 5 (List.map encNote p0))), (1, vI p1), (2, vI p2), (3, vS p3), (4, vI p4), (11, vI r1), (12, vI y2), (60, vB true), (63, vB b)] H)) (by kernel_rfl) (fun hc => ?_) (fun hc => ?_)
              · replace h := bif_t hc h
                refine OWk.sg 73 H [] [0, 1, 2, 3, 4, 11, 12, 72] 9 [(0, .d (.list 5 (List.map encNote p0))), (1, vI p1), (2, vI p2), (3, vS p3), (4, vI p4), (11, vI r1), (12, vI y2), (72, vB true)] (by kernel_rfl) <| OWk.done (by kernel_rfl) <| thenS_n <| SW.condT (by kernel_rfl) <| SW.seq <| SW.regionK <| OWk.sg 73 H [] [10] 1 [(10, vB true)] (by kernel_rfl) <| OWk.done (by kernel_rfl) <| thenS_n <| SW.ret <| blockS_r <| thenS_r ?_
                cases h
                refine thenS_r ?_
                exact ⟨_, rfl, .inr (⟨true, rfl, rfl, EndQ.ret [] (by kernel_rfl) rfl⟩)⟩
              · replace h := bif_f hc h
                refine OWk.sg 73 H [] [0, 1, 2, 3, 4, 11, 12, 60, 63, 64, 65] 2 [(0, .d (.list 5 (List.map encNote p0))), (1, vI p1), (2, vI p2), (3, vS p3), (4, vI p4), (11, vI r1), (12, vI y2), (60, vB true), (63, vB false), (64, .d (.list 5 (List.map encNote p0))), (65, vI y2)] (by kernel_rfl) ?_
                obtain ⟨x8, hx, h⟩ := bind_inv h
                refine OWk.on 73 H (d := some 66) (s := lendP none (Go.Sh.D.cells (encNote x8))) [0, 1, 2, 3, 4, 11, 12, 60, 63, 66] [(0, .d (.list 5 (List.map encNote p0))), (1, vI p1), (2, vI p2), (3, vS p3), (4, vI p4), (11, vI r1), (12, vI y2), (60, vB true), (63, vB false), (66, .d (.dptr [.int .i64 x8.Kind, .int .i64 x8.Unit, .str x8.Key, .bool x8.Has, .str x8.Text]))] (BAt.index (n := 5) hx (by kernel_rfl)) (by kernel_rfl) <| OWk.sg 73 H [] [0, 1, 2, 3, 4, 11, 12, 72] 6 [(0, .d (.list 5 (List.map encNote p0))), (1, vI p1), (2, vI p2), (3, vS p3), (4, vI p4), (11, vI r1), (12, vI y2), (72, vB (x8.Kind == p4))] (by kernel_rfl) <| OWk.done (by kernel_rfl) <| thenS_n ?_
                refine SW.condB (b := (x8.Kind == p4)) (by kernel_rfl) (fun hc => ?_) (fun hc => ?_)
                · replace h := bif_t hc h
                  refine SW.seq <| SW.regionK <| OWk.sg 73 H [] [10] 1 [(10, vB true)] (by kernel_rfl) <| OWk.done (by kernel_rfl) <| thenS_n <| SW.ret <| blockS_r <| thenS_r ?_
                  cases h
                  refine thenS_r ?_
                  exact ⟨_, rfl, .inr (⟨true, rfl, rfl, EndQ.ret [] (by kernel_rfl) rfl⟩)⟩
                · replace h := bif_f hc h
                  refine SW.skip <| blockS_n <| thenS_n <| SW.regionK <| OWk.sg 73 H [] [0, 1, 2, 3, 4, 11, 12] 3 [(0, .d (.list 5 (List.map encNote p0))), (1, vI p1), (2, vI p2), (3, vS p3), (4, vI p4), (11, vI r1), (12, vI (IntKind.wrap .i64 (y2 + 1)))] (by kernel_rfl) <| OWk.done (by kernel_rfl) ?_
                  cases h
                  exact ⟨(IntKind.wrap .i64 (y2 + 1)), rfl, by kernel_rfl⟩
            · replace h := bif_f hc h
              refine OWk.sg 73 H [] [0, 1, 2, 3, 4, 11, 12, 72] 12 [(0, .d (.list 5 (List.map encNote p0))), (1, vI p1), (2, vI p2), (3, vS p3), (4, vI p4), (11, vI r1), (12, vI y2), (72, vB false)] (by kernel_rfl) <| OWk.done (by kernel_rfl) <| thenS_n <| SW.condF (by kernel_rfl) <| SW.skip <| blockS_n <| thenS_n <| SW.regionK <| OWk.sg 73 H [] [0, 1, 2, 3, 4, 11, 12] 3 [(0, .d (.list 5 (List.map encNote p0))), (1, vI p1), (2, vI p2), (3, vS p3), (4, vI p4), (11, vI r1), (12, vI (IntKind.wrap .i64 (y2 + 1)))] (by kernel_rfl) <| OWk.done (by kernel_rfl) ?_
              cases h
              exact ⟨(IntKind.wrap .i64 (y2 + 1)), rfl, by kernel_rfl⟩
        · replace h := bif_f hc h
          refine OWk.sg 73 H [] [0, 1, 2, 3, 4, 11, 12, 72] 28 [(0, .d (.list 5 (List.map encNote p0))), (1, vI p1), (2, vI p2), (3, vS p3), (4, vI p4), (11, vI r1), (12, vI y2), (72, vB false)] (by kernel_rfl) <| OWk.done (by kernel_rfl) <| thenS_n <| SW.condF (by kernel_rfl) <| SW.skip <| blockS_n <| thenS_n <| SW.regionK <| OWk.sg 73 H [] [0, 1, 2, 3, 4, 11, 12] 3 [(0, .d (.list 5 (List.map encNote p0))), (1, vI p1), (2, vI p2), (3, vS p3), (4, vI p4), (11, vI r1), (12, vI (IntKind.wrap .i64 (y2 + 1)))] (by kernel_rfl) <| OWk.done (by kernel_rfl) ?_
          cases h
          exact ⟨(IntKind.wrap .i64 (y2 + 1)), rfl, by kernel_rfl⟩
      · replace h := bif_f hc h
        refine OWk.sg 73 H [] [0, 1, 2, 3, 4, 11, 12, 72] 37 [(0, .d (.list 5 (List.map encNote p0))), (1, vI p1), (2, vI p2), (3, vS p3), (4, vI p4), (11, vI r1), (12, vI y2), (72, vB false)] (by kernel_rfl) <| OWk.done (by kernel_rfl) <| thenS_n <| SW.condF (by kernel_rfl) <| SW.skip <| blockS_n <| thenS_n <| SW.regionK <| OWk.sg 73 H [] [0, 1, 2, 3, 4, 11, 12] 3 [(0, .d (.list 5 (List.map encNote p0))), (1, vI p1), (2, vI p2), (3, vS p3), (4, vI p4), (11, vI r1), (12, vI (IntKind.wrap .i64 (y2 + 1)))] (by kernel_rfl) <| OWk.done (by kernel_rfl) ?_
        cases h
        exact ⟨(IntKind.wrap .i64 (y2 + 1)), rfl, by kernel_rfl⟩
    · replace h := bif_f hc h
      refine SW.kp 73 H [] [] (by kernel_rfl) <| SW.exit <| thenS_e ?_
      cases h
      refine thenS_e ?_
      exact ⟨_, rfl, .inl ⟨(), rfl, rfl, rfl⟩⟩
  · rintro _ _ (⟨v10, rfl, rfl, rfl⟩ | ⟨r11, rfl, rfl, hE⟩)
    · replace h := sum_l h
      refine blockS_hit <| thenS_n <| SW.seq <| SW.regionK <| OWk.sg 73 H [] [10] 1 [(10, vB false)] (by kernel_rfl) <| OWk.done (by kernel_rfl) <| thenS_n <| SW.ret ?_
      cases h
      exact EndQ.ret [] (by kernel_rfl) rfl
    · replace h := sum_r h
      refine blockS_r <| thenS_r ?_
      cases h
      exact hE

def r_wrong_l1 (fuel : Nat) (p0 : (List Note)) (p1 : Int) (x1 : Note) (y6 : Int) : Option ((Int) ⊕ ((Unit) ⊕ ((Int)))) :=
  bif (decide (y6 < p1)) then
    (idx p0 y6).bind fun x7 =>
    bif (x7.Unit != x1.Unit) then
      (idx p0 y6).bind fun x8 =>
      bif (x8.Kind != 6) then
        (r_touched fuel p0 p1 x7.Unit x1.Key 0).bind fun r9 =>
        bif r9 then
          some (.inr (.inr 6))
        else
          some (.inl (IntKind.wrap .i64 (y6 + 1)))
      else
        some (.inl (IntKind.wrap .i64 (y6 + 1)))
    else
      some (.inl (IntKind.wrap .i64 (y6 + 1)))
  else
    some (.inr (.inl ()))

def r_wrong (fuel : Nat) (p0 : (List Note)) (p1 : Int) : Option (Int) :=
  (idx p0 p1).bind fun x1 =>
  (r_since fuel p0 p1 x1.Unit).bind fun r2 =>
  letJ (fun (j3 : Unit) =>
    (iter (r_wrong_l1 fuel p0 p1 x1) fuel 0).bind (Sum.elim (fun v11 =>
      some 0) (fun r12 =>
      some r12))) fun jp4 =>
  bif (x1.Kind == 6) then
    some 0
  else
    bif ((decide (r2 ≥ 0)) == (x1.Kind == 1)) then
      some 9
    else
      bif ((x1.Kind != 2) && (x1.Kind != 3)) then
        some 0
      else
        bif (x1.Kind == 3) then
          (r_touched fuel p0 p1 x1.Unit x1.Key 2).bind fun r5 =>
          bif (!r5) then
            some 8
          else
            jp4 ()
        else
          jp4 ()

theorem r_wrong_ok {fuel : Nat} {p0 : (List Note)} {p1 : Int} {r : Int} (h : r_wrong fuel p0 p1 = some r) : PC Try.prog 83 [.d (.list 5 (List.map encNote p0)), vI p1] (vI r) := by
  refine PC.of_SW Try.func83 rfl fun H => ?_
  unfold r_wrong at h
  refine SW.kp 82 H [0, 1] [(0, .d (.list 5 (List.map encNote p0))), (1, vI p1)] (by kernel_rfl) <| SW.seq <| SW.regionK <| OWk.sg 82 H [] [0, 1] 1 [(0, .d (.list 5 (List.map encNote p0))), (1, vI p1)] (by kernel_rfl) <| OWk.done (by kernel_rfl) <| thenS_n <| SW.seq <| SW.regionK <| OWk.sg 82 H [] [0, 1, 9, 10] 2 [(0, .d (.list 5 (List.map encNote p0))), (1, vI p1), (9, .d (.list 5 (List.map encNote p0))), (10, vI p1)] (by kernel_rfl) ?_
  obtain ⟨x1, hx, h⟩ := bind_inv h
  refine OWk.on 82 H (d := some 11) (s := lendP none (Go.Sh.D.cells (encNote x1))) [0, 1, 11] [(0, .d (.list 5 (List.map encNote p0))), (1, vI p1), (11, .d (.dptr [.int .i64 x1.Kind, .int .i64 x1.Unit, .str x1.Key, .bool x1.Has, .str x1.Text]))] (BAt.index (n := 5) hx (by kernel_rfl)) (by kernel_rfl) <| OWk.sg 82 H [] [0, 1, 5] 3 [(0, .d (.list 5 (List.map encNote p0))), (1, vI p1), (5, .box [vI x1.Kind, vI x1.Unit, vS x1.Key, vB x1.Has, vS x1.Text])] (by kernel_rfl) <| OWk.done (by kernel_rfl) <| thenS_n <| SW.seq <| SW.regionK <| OWk.sg 82 H [] [0, 1, 5, 13, 14, 16] 4 [(0, .d (.list 5 (List.map encNote p0))), (1, vI p1), (5, .box [vI x1.Kind, vI x1.Unit, vS x1.Key, vB x1.Has, vS x1.Text]), (13, .d (.list 5 (List.map encNote p0))), (14, vI p1), (16, vI x1.Unit)] (by kernel_rfl) ?_
  obtain ⟨r2, hr, h⟩ := bind_inv h
  refine OWk.cl 82 H (d := some 17) (ls := []) (gs := []) [] [0, 1, 5, 17] [(0, .d (.list 5 (List.map encNote p0))), (1, vI p1), (5, .box [vI x1.Kind, vI x1.Unit, vS x1.Key, vB x1.Has, vS x1.Text]), (17, vI r2)] (r_since_ok hr) (by kernel_rfl) (by kernel_rfl) (by kernel_rfl) <| OWk.sg 82 H [] [0, 1, 5, 6] 2 [(0, .d (.list 5 (List.map encNote p0))), (1, vI p1), (5, .box [vI x1.Kind, vI x1.Unit, vS x1.Key, vB x1.Has, vS x1.Text]), (6, vB (decide (r2 ≥ 0)))] (by kernel_rfl) <| OWk.done (by kernel_rfl) <| thenS_n ?_
  obtain ⟨jp4, hjjp4, h⟩ := letJ_inv h
  refine SW.jn 82 H [0, 1, 5] (fun (j3 : Unit) => [(0, .d (.list 5 (List.map encNote p0))), (1, vI p1), (5, .box [vI x1.Kind, vI x1.Unit, vS x1.Key, vB x1.Has, vS x1.Text])]) (fun v => jp4 v = some r) (fun j3 h => ?_) ?_
  · rw [hjjp4] at h
    refine SW.seq <| SW.seq <| SW.regionK <| OWk.sg 82 H [] [0, 1, 5, 7] 1 [(0, .d (.list 5 (List.map encNote p0))), (1, vI p1), (5, .box [vI x1.Kind, vI x1.Unit, vS x1.Key, vB x1.Has, vS x1.Text]), (7, vI 0)] (by kernel_rfl) <| OWk.done (by kernel_rfl) <| thenS_n <| SW.block ?_
    obtain ⟨z10, hit, h⟩ := bind_inv h
    refine SW.it 82 H [0, 1, 5, 7] (fun y6 => [(0, .d (.list 5 (List.map encNote p0))), (1, vI p1), (5, .box [vI x1.Kind, vI x1.Unit, vS x1.Key, vB x1.Has, vS x1.Text]), (7, vI y6)]) (fun b e s => ((∃ v11, b = (.inl v11) ∧ (e = .exit 1 ∧ s = (sp 82 [] H))) ∨ (∃ r12, b = (.inr r12) ∧ (e = .ret ∧ EndQ Try.prog Try.f83.results.toList H (vI r12) .ret s)))) hit (by kernel_rfl) (fun y6 o h => ?_) ?_
    · unfold r_wrong_l1 at h
      refine SW.seq <| SW.seq <| SW.regionK <| OWk.sg 82 H [] [0, 1, 5, 7, 54] 3 [(0, .d (.list 5 (List.map encNote p0))), (1, vI p1), (5, .box [vI x1.Kind, vI x1.Unit, vS x1.Key, vB x1.Has, vS x1.Text]), (7, vI y6), (54, vB (decide (y6 < p1)))] (by kernel_rfl) <| OWk.done (by kernel_rfl) <| thenS_n ?_
      refine SW.condB (b := (decide (y6 < p1))) (by kernel_rfl) (fun hc => ?_) (fun hc => ?_)
      · replace h := bif_t hc h
        refine SW.skip <| thenS_n <| SW.seq <| SW.block <| SW.seq <| SW.regionK <| OWk.sg 82 H [] [0, 1, 5, 7, 57, 58] 2 [(0, .d (.list 5 (List.map encNote p0))), (1, vI p1), (5, .box [vI x1.Kind, vI x1.Unit, vS x1.Key, vB x1.Has, vS x1.Text]), (7, vI y6), (57, .d (.list 5 (List.map encNote p0))), (58, vI y6)] (by kernel_rfl) ?_
        obtain ⟨x7, hx, h⟩ := bind_inv h
        refine OWk.on 82 H (d := some 59) (s := lendP none (Go.Sh.D.cells (encNote x7))) [0, 1, 5, 7, 59] [(0, .d (.list 5 (List.map encNote p0))), (1, vI p1), (5, .box [vI x1.Kind, vI x1.Unit, vS x1.Key, vB x1.Has, vS x1.Text]), (7, vI y6), (59, .d (.dptr [.int .i64 x7.Kind, .int .i64 x7.Unit, .str x7.Key, .bool x7.Has, .str x7.Text]))] (BAt.index (n := 5) hx (by kernel_rfl)) (by kernel_rfl) <| OWk.sg 82 H [] [0, 1, 5, 7, 8] 3 [(0, .d (.list 5 (List.map encNote p0))), (1, vI p1), (5, .box [vI x1.Kind, vI x1.Unit, vS x1.Key, vB x1.Has, vS x1.Text]), (7, vI y6), (8, vI x7.Unit)] (by kernel_rfl) <| OWk.done (by kernel_rfl) <| thenS_n <| SW.seq <| SW.regionK <| OWk.sg 82 H [] [0, 1, 5, 7, 8, 66] 5 [(0, .d (.list 5 (List.map encNote p0))), (1, vI p1), (5, .box [vI x1.Kind, vI x1.Unit, vS x1.Key, vB x1.Has, vS x1.Text]), (7, vI y6), (8, vI x7.Unit), (66, vB (x7.Unit != x1.Unit))] (by kernel_rfl) ?_
        refine OWk.case (x7.Unit != x1.Unit) (fun b => (sp 82 [(0, .d (.list 5 (List.map encNote p0))), (1, vI p1), (5, .box [vI x1.Kind, vI x1.Unit, vS x1.Key, vB x1.Has, vS x1.Text]), (7, vI y6), (8, vI x7.Unit), (66, vB b)] H)) (by kernel_rfl) (fun hc => ?_) (fun hc => ?_)
        · replace h := bif_t hc h
          refine OWk.sg 82 H [] [0, 1, 5, 7, 8, 66, 67, 68] 2 [(0, .d (.list 5 (List.map encNote p0))), (1, vI p1), (5, .box [vI x1.Kind, vI x1.Unit, vS x1.Key, vB x1.Has, vS x1.Text]), (7, vI y6), (8, vI x7.Unit), (66, vB true), (67, .d (.list 5 (List.map encNote p0))), (68, vI y6)] (by kernel_rfl) ?_
          obtain ⟨x8, hx, h⟩ := bind_inv h
          refine OWk.on 82 H (d := some 69) (s := lendP none (Go.Sh.D.cells (encNote x8))) [0, 1, 5, 7, 8, 66, 69] [(0, .d (.list 5 (List.map encNote p0))), (1, vI p1), (5, .box [vI x1.Kind, vI x1.Unit, vS x1.Key, vB x1.Has, vS x1.Text]), (7, vI y6), (8, vI x7.Unit), (66, vB true), (69, .d (.dptr [.int .i64 x8.Kind, .int .i64 x8.Unit, .str x8.Key, .bool x8.Has, .str x8.Text]))] (BAt.index (n := 5) hx (by kernel_rfl)) (by kernel_rfl) <| OWk.sg 82 H [] [0, 1, 5, 7, 8, 74] 5 [(0, .d (.list 5 (List.map encNote p0))), (1, vI p1), (5, .box [vI x1.Kind, vI x1.Unit, vS x1.Key, vB x1.Has, vS x1.Text]), (7, vI y6), (8, vI x7.Unit), (74, vB (x8.Kind != 6))] (by kernel_rfl) ?_
          refine OWk.case (x8.Kind != 6) (fun b => (sp 82 [(0, .d (.list 5 (List.map encNote p0))), (1, vI p1), (5, .box [vI x1.Kind, vI x1.Unit, vS x1.Key, vB x1.Has, vS x1.Text]), (7, vI y6), (8, vI x7.Unit), (74, vB b)] H)) (by kernel_rfl) (fun hc => ?_) (fun hc => ?_)
          · replace h := bif_t hc h
            refine OWk.sg 82 H [] [0, 1, 5, 7, 74, 75, 76, 77, 79] 5 [(0, .d (.list 5 (List.map encNote p0))), (1, vI p1), (5, .box [vI x1.Kind, vI x1.Unit, vS x1.Key, vB x1.Has, vS x1.Text]), (7, vI y6), (74, vB true), (75, .d (.list 5 (List.map encNote p0))), (76, vI p1), (77, vI x7.Unit), (79, vS x1.Key)] (by kernel_rfl) ?_
            obtain ⟨r9, hr, h⟩ := bind_inv h
            refine OWk.cl 82 H (d := some 80) (ls := []) (gs := []) [] [0, 1, 5, 7, 74, 80] [(0, .d (.list 5 (List.map encNote p0))), (1, vI p1), (5, .box [vI x1.Kind, vI x1.Unit, vS x1.Key, vB x1.Has, vS x1.Text]), (7, vI y6), (74, vB true), (80, vB r9)] (r_touched_ok hr) (by kernel_rfl) (by kernel_rfl) (by kernel_rfl) <| OWk.sg 82 H [] [0, 1, 5, 7, 81] 1 [(0, .d (.list 5 (List.map encNote p0))), (1, vI p1), (5, .box [vI x1.Kind, vI x1.Unit, vS x1.Key, vB x1.Has, vS x1.Text]), (7, vI y6), (81, vB r9)] (by kernel_rfl) <| OWk.done (by kernel_rfl) <| thenS_n ?_
            refine SW.condB (b := r9) (by kernel_rfl) (fun hc => ?_) (fun hc => ?_)
            · replace h := bif_t hc h
              refine SW.seq <| SW.regionK <| OWk.sg 82 H [] [4] 1 [(4, vI 6)] (by kernel_rfl) <| OWk.done (by kernel_rfl) <| thenS_n <| SW.ret <| blockS_r <| thenS_r ?_
              cases h
              refine thenS_r ?_
              exact ⟨_, rfl, .inr (⟨6, rfl, rfl, EndQ.ret [] (by kernel_rfl) rfl⟩)⟩
            · replace h := bif_f hc h
              refine SW.skip <| blockS_n <| thenS_n <| SW.regionK <| OWk.sg 82 H [] [0, 1, 5, 7] 3 [(0, .d (.list 5 (List.map encNote p0))), (1, vI p1), (5, .box [vI x1.Kind, vI x1.Unit, vS x1.Key, vB x1.Has, vS x1.Text]), (7, vI (IntKind.wrap .i64 (y6 + 1)))] (by kernel_rfl) <| OWk.done (by kernel_rfl) ?_
              cases h
              exact ⟨(IntKind.wrap .i64 (y6 + 1)), rfl, by kernel_rfl⟩
          · replace h := bif_f hc h
            refine OWk.sg 82 H [] [0, 1, 5, 7, 81] 7 [(0, .d (.list 5 (List.map encNote p0))), (1, vI p1), (5, .box [vI x1.Kind, vI x1.Unit, vS x1.Key, vB x1.Has, vS x1.Text]), (7, vI y6), (81, vB false)] (by kernel_rfl) <| OWk.done (by kernel_rfl) <| thenS_n <| SW.condF (by kernel_rfl) <| SW.skip <| blockS_n <| thenS_n <| SW.regionK <| OWk.sg 82 H [] [0, 1, 5, 7] 3 [(0, .d (.list 5 (List.map encNote p0))), (1, vI p1), (5, .box [vI x1.Kind, vI x1.Unit, vS x1.Key, vB x1.Has, vS x1.Text]), (7, vI (IntKind.wrap .i64 (y6 + 1)))] (by kernel_rfl) <| OWk.done (by kernel_rfl) ?_
            cases h
            exact ⟨(IntKind.wrap .i64 (y6 + 1)), rfl, by kernel_rfl⟩
        · replace h := bif_f hc h
          refine OWk.sg 82 H [] [0, 1, 5, 7, 81] 15 [(0, .d (.list 5 (List.map encNote p0))), (1, vI p1), (5, .box [vI x1.Kind, vI x1.Unit, vS x1.Key, vB x1.Has, vS x1.Text]), (7, vI y6), (81, vB false)] (by kernel_rfl) <| OWk.done (by kernel_rfl) <| thenS_n <| SW.condF (by kernel_rfl) <| SW.skip <| blockS_n <| thenS_n <| SW.regionK <| OWk.sg 82 H [] [0, 1, 5, 7] 3 [(0, .d (.list 5 (List.map encNote p0))), (1, vI p1), (5, .box [vI x1.Kind, vI x1.Unit, vS x1.Key, vB x1.Has, vS x1.Text]), (7, vI (IntKind.wrap .i64 (y6 + 1)))] (by kernel_rfl) <| OWk.done (by kernel_rfl) ?_
          cases h
          exact ⟨(IntKind.wrap .i64 (y6 + 1)), rfl, by kernel_rfl⟩
      · replace h := bif_f hc h
        refine SW.kp 82 H [] [] (by kernel_rfl) <| SW.exit <| thenS_e ?_
        cases h
        refine thenS_e ?_
        exact ⟨_, rfl, .inl ⟨(), rfl, rfl, rfl⟩⟩
    · rintro _ _ (⟨v11, rfl, rfl, rfl⟩ | ⟨r12, rfl, rfl, hE⟩)
      · replace h := sum_l h
        refine blockS_hit <| thenS_n <| SW.seq <| SW.regionK <| OWk.sg 82 H [] [4] 1 [(4, vI 0)] (by kernel_rfl) <| OWk.done (by kernel_rfl) <| thenS_n <| SW.ret ?_
        cases h
        exact EndQ.ret [] (by kernel_rfl) rfl
      · replace h := sum_r h
        refine blockS_r <| thenS_r ?_
        cases h
        exact hE
  · refine SW.block <| SW.seq <| SW.regionK <| OWk.sg 82 H [] [0, 1, 5, 6, 19] 4 [(0, .d (.list 5 (List.map encNote p0))), (1, vI p1), (5, .box [vI x1.Kind, vI x1.Unit, vS x1.Key, vB x1.Has, vS x1.Text]), (6, vB (decide (r2 ≥ 0))), (19, vB (x1.Kind == 6))] (by kernel_rfl) <| OWk.done (by kernel_rfl) <| thenS_n ?_
    refine SW.condB (b := (x1.Kind == 6)) (by kernel_rfl) (fun hc => ?_) (fun hc => ?_)
    · replace h := bif_t hc h
      refine SW.seq <| SW.regionK <| OWk.sg 82 H [] [4] 1 [(4, vI 0)] (by kernel_rfl) <| OWk.done (by kernel_rfl) <| thenS_n <| SW.ret <| blockS_r <| thenS_r ?_
      cases h
      exact EndQ.ret [] (by kernel_rfl) rfl
    · replace h := bif_f hc h
      refine SW.seq <| SW.regionK <| OWk.sg 82 H [] [0, 1, 5, 23] 6 [(0, .d (.list 5 (List.map encNote p0))), (1, vI p1), (5, .box [vI x1.Kind, vI x1.Unit, vS x1.Key, vB x1.Has, vS x1.Text]), (23, vB ((decide (r2 ≥ 0)) == (x1.Kind == 1)))] (by kernel_rfl) <| OWk.done (by kernel_rfl) <| thenS_n ?_
      refine SW.condB (b := ((decide (r2 ≥ 0)) == (x1.Kind == 1))) (by kernel_rfl) (fun hc => ?_) (fun hc => ?_)
      · replace h := bif_t hc h
        refine SW.seq <| SW.regionK <| OWk.sg 82 H [] [4] 1 [(4, vI 9)] (by kernel_rfl) <| OWk.done (by kernel_rfl) <| thenS_n <| SW.ret <| blockS_r <| thenS_r ?_
        cases h
        exact EndQ.ret [] (by kernel_rfl) rfl
      · replace h := bif_f hc h
        refine SW.seq <| SW.regionK <| OWk.sg 82 H [] [0, 1, 5, 33] 4 [(0, .d (.list 5 (List.map encNote p0))), (1, vI p1), (5, .box [vI x1.Kind, vI x1.Unit, vS x1.Key, vB x1.Has, vS x1.Text]), (33, vB (x1.Kind != 2))] (by kernel_rfl) <| OWk.mg 82 H [0, 1, 5, 37] 4 (x1.Kind != 2) (fun b => (sp 82 [(0, .d (.list 5 (List.map encNote p0))), (1, vI p1), (5, .box [vI x1.Kind, vI x1.Unit, vS x1.Key, vB x1.Has, vS x1.Text]), (33, vB b)] H)) (fun b => [(0, .d (.list 5 (List.map encNote p0))), (1, vI p1), (5, .box [vI x1.Kind, vI x1.Unit, vS x1.Key, vB x1.Has, vS x1.Text]), (37, vB (b && (x1.Kind != 3)))]) (by kernel_rfl) (by kernel_rfl) (by kernel_rfl) <| OWk.sg 82 H [] [0, 1, 5, 29] 1 [(0, .d (.list 5 (List.map encNote p0))), (1, vI p1), (5, .box [vI x1.Kind, vI x1.Unit, vS x1.Key, vB x1.Has, vS x1.Text]), (29, vB ((x1.Kind != 2) && (x1.Kind != 3)))] (by kernel_rfl) <| OWk.done (by kernel_rfl) <| thenS_n ?_
        refine SW.condB (b := ((x1.Kind != 2) && (x1.Kind != 3))) (by kernel_rfl) (fun hc => ?_) (fun hc => ?_)
        · replace h := bif_t hc h
          refine SW.seq <| SW.regionK <| OWk.sg 82 H [] [4] 1 [(4, vI 0)] (by kernel_rfl) <| OWk.done (by kernel_rfl) <| thenS_n <| SW.ret <| blockS_r <| thenS_r ?_
          cases h
          exact EndQ.ret [] (by kernel_rfl) rfl
        · replace h := bif_f hc h
          refine SW.seq <| SW.regionK <| OWk.sg 82 H [] [0, 1, 5, 42] 4 [(0, .d (.list 5 (List.map encNote p0))), (1, vI p1), (5, .box [vI x1.Kind, vI x1.Unit, vS x1.Key, vB x1.Has, vS x1.Text]), (42, vB (x1.Kind == 3))] (by kernel_rfl) ?_
          refine OWk.case (x1.Kind == 3) (fun b => (sp 82 [(0, .d (.list 5 (List.map encNote p0))), (1, vI p1), (5, .box [vI x1.Kind, vI x1.Unit, vS x1.Key, vB x1.Has, vS x1.Text]), (42, vB b)] H)) (by kernel_rfl) (fun hc => ?_) (fun hc => ?_)
          · replace h := bif_t hc h
            refine OWk.sg 82 H [] [0, 1, 5, 42, 43, 44, 46, 48] 6 [(0, .d (.list 5 (List.map encNote p0))), (1, vI p1), (5, .box [vI x1.Kind, vI x1.Unit, vS x1.Key, vB x1.Has, vS x1.Text]), (42, vB true), (43, .d (.list 5 (List.map encNote p0))), (44, vI p1), (46, vI x1.Unit), (48, vS x1.Key)] (by kernel_rfl) ?_
            obtain ⟨r5, hr, h⟩ := bind_inv h
            refine OWk.cl 82 H (d := some 49) (ls := []) (gs := []) [] [0, 1, 5, 42, 49] [(0, .d (.list 5 (List.map encNote p0))), (1, vI p1), (5, .box [vI x1.Kind, vI x1.Unit, vS x1.Key, vB x1.Has, vS x1.Text]), (42, vB true), (49, vB r5)] (r_touched_ok hr) (by kernel_rfl) (by kernel_rfl) (by kernel_rfl) <| OWk.sg 82 H [] [0, 1, 5, 38] 3 [(0, .d (.list 5 (List.map encNote p0))), (1, vI p1), (5, .box [vI x1.Kind, vI x1.Unit, vS x1.Key, vB x1.Has, vS x1.Text]), (38, vB (!r5))] (by kernel_rfl) <| OWk.done (by kernel_rfl) <| thenS_n ?_
            refine SW.condB (b := (!r5)) (by kernel_rfl) (fun hc => ?_) (fun hc => ?_)
            · replace h := bif_t hc h
              refine SW.seq <| SW.regionK <| OWk.sg 82 H [] [4] 1 [(4, vI 8)] (by kernel_rfl) <| OWk.done (by kernel_rfl) <| thenS_n <| SW.ret <| blockS_r <| thenS_r ?_
              cases h
              exact EndQ.ret [] (by kernel_rfl) rfl
            · replace h := bif_f hc h
              refine SW.skip <| blockS_n ?_
              exact ⟨(), [], by kernel_rfl, h⟩
          · replace h := bif_f hc h
            refine OWk.sg 82 H [] [0, 1, 5, 38] 10 [(0, .d (.list 5 (List.map encNote p0))), (1, vI p1), (5, .box [vI x1.Kind, vI x1.Unit, vS x1.Key, vB x1.Has, vS x1.Text]), (38, vB false)] (by kernel_rfl) <| OWk.done (by kernel_rfl) <| thenS_n <| SW.condF (by kernel_rfl) <| SW.skip <| blockS_n ?_
            exact ⟨(), [], by kernel_rfl, h⟩

def r_Wrong_l1 (fuel : Nat) (p0 : (List Note)) (y2 : Int) : Option ((Int) ⊕ ((Unit) ⊕ ((Int × Int)))) :=
  bif (decide (y2 < (p0.length : Int))) then
    (r_wrong fuel p0 y2).bind fun r3 =>
    bif (r3 != 0) then
      some (.inr (.inr (y2, r3)))
    else
      some (.inl (IntKind.wrap .i64 (y2 + 1)))
  else
    some (.inr (.inl ()))

def r_Wrong (fuel : Nat) (p0 : (List Note)) : Option (Int × Int) :=
  (r_notes fuel p0).bind fun r1 =>
  bif (!r1) then
    some (0, 1)
  else
    (iter (r_Wrong_l1 fuel p0) fuel 0).bind (Sum.elim (fun v5 =>
      some ((-1), 0)) (fun r6 =>
      some r6))

theorem r_Wrong_ok {fuel : Nat} {p0 : (List Note)} {r : Int × Int} (h : r_Wrong fuel p0 = some r) : PC Try.prog 64 [.d (.list 5 (List.map encNote p0))] (.tup [vI r.1, vI r.2]) := by
  refine PC.of_SW Try.func64 rfl fun H => ?_
  unfold r_Wrong at h
  refine SW.kp 22 H [0] [(0, .d (.list 5 (List.map encNote p0)))] (by kernel_rfl) <| SW.seq <| SW.regionK <| OWk.sg 22 H [] [0] 2 [(0, .d (.list 5 (List.map encNote p0)))] (by kernel_rfl) <| OWk.done (by kernel_rfl) <| thenS_n <| SW.seq <| SW.seq <| SW.regionK <| OWk.sg 22 H [] [0, 6] 1 [(0, .d (.list 5 (List.map encNote p0))), (6, .d (.list 5 (List.map encNote p0)))] (by kernel_rfl) ?_
  obtain ⟨r1, hr, h⟩ := bind_inv h
  refine OWk.cl 22 H (d := some 7) (ls := []) (gs := []) [] [0, 7] [(0, .d (.list 5 (List.map encNote p0))), (7, vB r1)] (r_notes_ok hr) (by kernel_rfl) (by kernel_rfl) (by kernel_rfl) <| OWk.sg 22 H [] [0, 8] 1 [(0, .d (.list 5 (List.map encNote p0))), (8, vB (!r1))] (by kernel_rfl) <| OWk.done (by kernel_rfl) <| thenS_n ?_
  refine SW.condB (b := (!r1)) (by kernel_rfl) (fun hc => ?_) (fun hc => ?_)
  · replace h := bif_t hc h
    refine SW.seq <| SW.regionK <| OWk.sg 22 H [] [2, 3] 2 [(2, vI 0), (3, vI 1)] (by kernel_rfl) <| OWk.done (by kernel_rfl) <| thenS_n <| SW.ret <| thenS_r ?_
    cases h
    exact EndQ.ret [] (by kernel_rfl) rfl
  · replace h := bif_f hc h
    refine SW.skip <| thenS_n <| SW.seq <| SW.seq <| SW.regionK <| OWk.sg 22 H [] [0, 4] 1 [(0, .d (.list 5 (List.map encNote p0))), (4, vI 0)] (by kernel_rfl) <| OWk.done (by kernel_rfl) <| thenS_n <| SW.block ?_
    obtain ⟨z4, hit, h⟩ := bind_inv h
    refine SW.it 22 H [0, 4] (fun y2 => [(0, .d (.list 5 (List.map encNote p0))), (4, vI y2)]) (fun b e s => ((∃ v5, b = (.inl v5) ∧ (e = .exit 0 ∧ s = (sp 22 [] H))) ∨ (∃ r6, b = (.inr r6) ∧ (e = .ret ∧ EndQ Try.prog Try.f64.results.toList H (.tup [vI r6.1, vI r6.2]) .ret s)))) hit (by kernel_rfl) (fun y2 o h => ?_) ?_
    · unfold r_Wrong_l1 at h
      refine SW.seq <| SW.seq <| SW.regionK <| OWk.sg 22 H [] [0, 4, 9, 10] 2 [(0, .d (.list 5 (List.map encNote p0))), (4, vI y2), (9, vI y2), (10, .d (.list 5 (List.map encNote p0)))] (by kernel_rfl) <| OWk.on 22 H (d := some 11) [0, 4, 9, 11] [(0, .d (.list 5 (List.map encNote p0))), (4, vI y2), (9, vI y2), (11, vI (p0.length : Int))] (BAt.len (enc := encNote) (xs := p0) (by kernel_rfl)) (by kernel_rfl) <| OWk.sg 22 H [] [0, 4, 12] 1 [(0, .d (.list 5 (List.map encNote p0))), (4, vI y2), (12, vB (decide (y2 < (p0.length : Int))))] (by kernel_rfl) <| OWk.done (by kernel_rfl) <| thenS_n ?_
      refine SW.condB (b := (decide (y2 < (p0.length : Int)))) (by kernel_rfl) (fun hc => ?_) (fun hc => ?_)
      · replace h := bif_t hc h
        refine SW.skip <| thenS_n <| SW.seq <| SW.block <| SW.seq <| SW.regionK <| OWk.sg 22 H [] [0, 4, 15, 16] 2 [(0, .d (.list 5 (List.map encNote p0))), (4, vI y2), (15, .d (.list 5 (List.map encNote p0))), (16, vI y2)] (by kernel_rfl) ?_
        obtain ⟨r3, hr, h⟩ := bind_inv h
        refine OWk.cl 22 H (d := some 17) (ls := []) (gs := []) [] [0, 4, 17] [(0, .d (.list 5 (List.map encNote p0))), (4, vI y2), (17, vI r3)] (r_wrong_ok hr) (by kernel_rfl) (by kernel_rfl) (by kernel_rfl) <| OWk.sg 22 H [] [0, 4, 5] 1 [(0, .d (.list 5 (List.map encNote p0))), (4, vI y2), (5, vI r3)] (by kernel_rfl) <| OWk.done (by kernel_rfl) <| thenS_n <| SW.seq <| SW.regionK <| OWk.sg 22 H [] [0, 4, 5, 19] 2 [(0, .d (.list 5 (List.map encNote p0))), (4, vI y2), (5, vI r3), (19, vB (r3 != 0))] (by kernel_rfl) <| OWk.done (by kernel_rfl) <| thenS_n ?_
        refine SW.condB (b := (r3 != 0)) (by kernel_rfl) (fun hc => ?_) (fun hc => ?_)
        · replace h := bif_t hc h
          refine SW.seq <| SW.regionK <| OWk.sg 22 H [] [2, 3] 4 [(2, vI y2), (3, vI r3)] (by kernel_rfl) <| OWk.done (by kernel_rfl) <| thenS_n <| SW.ret <| blockS_r <| thenS_r ?_
          cases h
          refine thenS_r ?_
          exact ⟨_, rfl, .inr (⟨(y2, r3), rfl, rfl, EndQ.ret [] (by kernel_rfl) rfl⟩)⟩
        · replace h := bif_f hc h
          refine SW.skip <| blockS_n <| thenS_n <| SW.regionK <| OWk.sg 22 H [] [0, 4] 3 [(0, .d (.list 5 (List.map encNote p0))), (4, vI (IntKind.wrap .i64 (y2 + 1)))] (by kernel_rfl) <| OWk.done (by kernel_rfl) ?_
          cases h
          exact ⟨(IntKind.wrap .i64 (y2 + 1)), rfl, by kernel_rfl⟩
      · replace h := bif_f hc h
        refine SW.kp 22 H [] [] (by kernel_rfl) <| SW.exit <| thenS_e ?_
        cases h
        refine thenS_e ?_
        exact ⟨_, rfl, .inl ⟨(), rfl, rfl, rfl⟩⟩
    · rintro _ _ (⟨v5, rfl, rfl, rfl⟩ | ⟨r6, rfl, rfl, hE⟩)
      · replace h := sum_l h
        refine blockS_hit <| thenS_n <| SW.seq <| SW.regionK <| OWk.sg 22 H [] [2, 3] 2 [(2, vI (-1)), (3, vI 0)] (by kernel_rfl) <| OWk.done (by kernel_rfl) <| thenS_n <| SW.ret ?_
        cases h
        exact EndQ.ret [] (by kernel_rfl) rfl
      · replace h := sum_r h
        refine blockS_r <| thenS_r ?_
        cases h
        exact hE

def r_right (fuel : Nat) (p0 : (List Note)) : Option (Int) :=
  (r_notes fuel p0).bind fun r1 =>
  bif (!r1) then
    some 1
  else
    (r_Wrong fuel p0).bind fun r2 =>
    bif (r2.2 != 0) then
      some 9
    else
      some 0

theorem r_right_ok {fuel : Nat} {p0 : (List Note)} {r : Int} (h : r_right fuel p0 = some r) : PC Try.prog 34 [.d (.list 5 (List.map encNote p0))] (vI r) := by
  refine PC.of_SW Try.func34 rfl fun H => ?_
  unfold r_right at h
  refine SW.kp 15 H [0] [(0, .d (.list 5 (List.map encNote p0)))] (by kernel_rfl) <| SW.seq <| SW.regionK <| OWk.sg 15 H [] [0] 1 [(0, .d (.list 5 (List.map encNote p0)))] (by kernel_rfl) <| OWk.done (by kernel_rfl) <| thenS_n <| SW.seq <| SW.seq <| SW.regionK <| OWk.sg 15 H [] [0, 5] 1 [(0, .d (.list 5 (List.map encNote p0))), (5, .d (.list 5 (List.map encNote p0)))] (by kernel_rfl) ?_
  obtain ⟨r1, hr, h⟩ := bind_inv h
  refine OWk.cl 15 H (d := some 6) (ls := []) (gs := []) [] [0, 6] [(0, .d (.list 5 (List.map encNote p0))), (6, vB r1)] (r_notes_ok hr) (by kernel_rfl) (by kernel_rfl) (by kernel_rfl) <| OWk.sg 15 H [] [0, 7] 1 [(0, .d (.list 5 (List.map encNote p0))), (7, vB (!r1))] (by kernel_rfl) <| OWk.done (by kernel_rfl) <| thenS_n ?_
  refine SW.condB (b := (!r1)) (by kernel_rfl) (fun hc => ?_) (fun hc => ?_)
  · replace h := bif_t hc h
    refine SW.seq <| SW.regionK <| OWk.sg 15 H [] [2] 1 [(2, vI 1)] (by kernel_rfl) <| OWk.done (by kernel_rfl) <| thenS_n <| SW.ret <| thenS_r ?_
    cases h
    exact EndQ.ret [] (by kernel_rfl) rfl
  · replace h := bif_f hc h
    refine SW.skip <| thenS_n <| SW.seq <| SW.seq <| SW.regionK <| OWk.sg 15 H [] [9] 1 [(9, .d (.list 5 (List.map encNote p0)))] (by kernel_rfl) ?_
    obtain ⟨r2, hr, h⟩ := bind_inv h
    refine OWk.cl 15 H (d := some 10) (ls := []) (gs := []) [] [10] [(10, .tup [vI r2.1, vI r2.2])] (r_Wrong_ok hr) (by kernel_rfl) (by kernel_rfl) (by kernel_rfl) <| OWk.sg 15 H [] [4] 5 [(4, vI r2.2)] (by kernel_rfl) <| OWk.done (by kernel_rfl) <| thenS_n <| SW.seq <| SW.regionK <| OWk.sg 15 H [] [14] 2 [(14, vB (r2.2 != 0))] (by kernel_rfl) <| OWk.done (by kernel_rfl) <| thenS_n ?_
    refine SW.condB (b := (r2.2 != 0)) (by kernel_rfl) (fun hc => ?_) (fun hc => ?_)
    · replace h := bif_t hc h
      refine SW.seq <| SW.regionK <| OWk.sg 15 H [] [2] 1 [(2, vI 9)] (by kernel_rfl) <| OWk.done (by kernel_rfl) <| thenS_n <| SW.ret <| thenS_r ?_
      cases h
      exact EndQ.ret [] (by kernel_rfl) rfl
    · replace h := bif_f hc h
      refine SW.skip <| thenS_n <| SW.seq <| SW.regionK <| OWk.sg 15 H [] [2] 1 [(2, vI 0)] (by kernel_rfl) <| OWk.done (by kernel_rfl) <| thenS_n <| SW.ret ?_
      cases h
      exact EndQ.ret [] (by kernel_rfl) rfl

def r_Open_l1 (fuel : Nat) (p0 : (List Note)) (y2 : (List Int) × Int) : Option (((List Int) × Int) ⊕ ((List Int))) :=
  bif (decide (y2.2 ≤ 1000)) then
    (r_since fuel p0 (p0.length : Int) y2.2).bind fun r3 =>
    bif (decide (r3 ≥ 0)) then
      chk (decide ((y2.1 ++ [y2.2]).length ≤ room)) <|
      some (.inl ((y2.1 ++ [y2.2]), (IntKind.wrap .i64 (y2.2 + 1))))
    else
      some (.inl (y2.1, (IntKind.wrap .i64 (y2.2 + 1))))
  else
    some (.inr y2.1)

def r_Open (fuel : Nat) (p0 : (List Note)) : Option ((List Int) × Int) :=
  (r_right fuel p0).bind fun r1 =>
  bif (r1 != 0) then
    some (([] : List Int), r1)
  else
    (iter (r_Open_l1 fuel p0) fuel (([] : List Int), 1)).bind fun v5 =>
    some (v5, 0)

theorem r_Open_ok {fuel : Nat} {p0 : (List Note)} {r : (List Int) × Int} (h : r_Open fuel p0 = some r) : PC Try.prog 13 [.d (.list 5 (List.map encNote p0))] (.tup [.own 1 (List.map (D.int .i64) r.1), vI r.2]) := by
  refine PC.of_SW Try.func13 rfl fun H => ?_
  unfold r_Open at h
  refine SW.kp 27 H [0] [(0, .d (.list 5 (List.map encNote p0)))] (by kernel_rfl) <| SW.seq <| SW.regionK <| OWk.sg 27 H [] [0] 2 [(0, .d (.list 5 (List.map encNote p0)))] (by kernel_rfl) <| OWk.done (by kernel_rfl) <| thenS_n <| SW.seq <| SW.seq <| SW.regionK <| OWk.sg 27 H [] [0, 7] 1 [(0, .d (.list 5 (List.map encNote p0))), (7, .d (.list 5 (List.map encNote p0)))] (by kernel_rfl) ?_
  obtain ⟨r1, hr, h⟩ := bind_inv h
  refine OWk.cl 27 H (d := some 8) (ls := []) (gs := []) [] [0, 8] [(0, .d (.list 5 (List.map encNote p0))), (8, vI r1)] (r_right_ok hr) (by kernel_rfl) (by kernel_rfl) (by kernel_rfl) <| OWk.sg 27 H [] [0, 4] 1 [(0, .d (.list 5 (List.map encNote p0))), (4, vI r1)] (by kernel_rfl) <| OWk.done (by kernel_rfl) <| thenS_n <| SW.seq <| SW.regionK <| OWk.sg 27 H [] [0, 4, 10] 2 [(0, .d (.list 5 (List.map encNote p0))), (4, vI r1), (10, vB (r1 != 0))] (by kernel_rfl) <| OWk.done (by kernel_rfl) <| thenS_n ?_
  refine SW.condB (b := (r1 != 0)) (by kernel_rfl) (fun hc => ?_) (fun hc => ?_)
  · replace h := bif_t hc h
    refine SW.seq <| SW.regionK <| OWk.sg 27 H [] [2, 3] 3 [(2, .own 1 (List.map (D.int .i64) ([] : List Int))), (3, vI r1)] (by kernel_rfl) <| OWk.done (by kernel_rfl) <| thenS_n <| SW.ret <| thenS_r ?_
    cases h
    exact EndQ.ret [] (by kernel_rfl) rfl
  · replace h := bif_f hc h
    refine SW.skip <| thenS_n <| SW.seq <| SW.regionK <| OWk.sg 27 H [] [0, 5] 1 [(0, .d (.list 5 (List.map encNote p0))), (5, .own 1 (List.map (D.int .i64) ([] : List Int)))] (by kernel_rfl) <| OWk.done (by kernel_rfl) <| thenS_n <| SW.seq <| SW.seq <| SW.regionK <| OWk.sg 27 H [] [0, 5, 6] 1 [(0, .d (.list 5 (List.map encNote p0))), (5, .own 1 (List.map (D.int .i64) ([] : List Int))), (6, vI 1)] (by kernel_rfl) <| OWk.done (by kernel_rfl) <| thenS_n <| SW.block ?_
    obtain ⟨v5, hit, h⟩ := bind_inv h
    refine SW.it 27 H [0, 5, 6] (fun y2 => [(0, .d (.list 5 (List.map encNote p0))), (5, .own 1 (List.map (D.int .i64) y2.1)), (6, vI y2.2)]) (fun v5 e s => (e = .exit 0 ∧ s = (sp 27 [(5, .own 1 (List.map (D.int .i64) v5))] H))) hit (by kernel_rfl) (fun y2 o h => ?_) ?_
    · unfold r_Open_l1 at h
      refine SW.seq <| SW.seq <| SW.regionK <| OWk.sg 27 H [] [0, 5, 6, 13] 2 [(0, .d (.list 5 (List.map encNote p0))), (5, .own 1 (List.map (D.int .i64) y2.1)), (6, vI y2.2), (13, vB (decide (y2.2 ≤ 1000)))] (by kernel_rfl) <| OWk.done (by kernel_rfl) <| thenS_n ?_
      refine SW.condB (b := (decide (y2.2 ≤ 1000))) (by kernel_rfl) (fun hc => ?_) (fun hc => ?_)
      · replace h := bif_t hc h
        refine SW.skip <| thenS_n <| SW.seq <| SW.block <| SW.seq <| SW.regionK <| OWk.sg 27 H [] [0, 5, 6, 16, 17] 2 [(0, .d (.list 5 (List.map encNote p0))), (5, .own 1 (List.map (D.int .i64) y2.1)), (6, vI y2.2), (16, .d (.list 5 (List.map encNote p0))), (17, .d (.list 5 (List.map encNote p0)))] (by kernel_rfl) <| OWk.on 27 H (d := some 18) [0, 5, 6, 16, 18] [(0, .d (.list 5 (List.map encNote p0))), (5, .own 1 (List.map (D.int .i64) y2.1)), (6, vI y2.2), (16, .d (.list 5 (List.map encNote p0))), (18, vI (p0.length : Int))] (BAt.len (enc := encNote) (xs := p0) (by kernel_rfl)) (by kernel_rfl) <| OWk.sg 27 H [] [0, 5, 6, 16, 18, 19] 1 [(0, .d (.list 5 (List.map encNote p0))), (5, .own 1 (List.map (D.int .i64) y2.1)), (6, vI y2.2), (16, .d (.list 5 (List.map encNote p0))), (18, vI (p0.length : Int)), (19, vI y2.2)] (by kernel_rfl) ?_
        obtain ⟨r3, hr, h⟩ := bind_inv h
        refine OWk.cl 27 H (d := some 20) (ls := []) (gs := []) [] [0, 5, 6, 20] [(0, .d (.list 5 (List.map encNote p0))), (5, .own 1 (List.map (D.int .i64) y2.1)), (6, vI y2.2), (20, vI r3)] (r_since_ok hr) (by kernel_rfl) (by kernel_rfl) (by kernel_rfl) <| OWk.sg 27 H [] [0, 5, 6, 21] 1 [(0, .d (.list 5 (List.map encNote p0))), (5, .own 1 (List.map (D.int .i64) y2.1)), (6, vI y2.2), (21, vB (decide (r3 ≥ 0)))] (by kernel_rfl) <| OWk.done (by kernel_rfl) <| thenS_n ?_
        refine SW.condB (b := (decide (r3 ≥ 0))) (by kernel_rfl) (fun hc => ?_) (fun hc => ?_)
        · replace h := bif_t hc h
          refine SW.regionK <| OWk.sg 27 H [22] [0, 6, 22, 24] 3 [(0, .d (.list 5 (List.map encNote p0))), (6, vI y2.2), (22, .own 1 (List.map (D.int .i64) y2.1)), (24, .own 1 (List.map (D.int .i64) [y2.2]))] (by kernel_rfl) ?_
          obtain ⟨hk, h⟩ := chk_inv h
          refine OWk.app 27 H (s := 22) (d := 25) (w := 1) [0, 6, 25] (zs := List.map (D.int .i64) (y2.1 ++ [y2.2])) [(0, .d (.list 5 (List.map encNote p0))), (6, vI y2.2), (25, .own 1 (List.map (D.int .i64) (y2.1 ++ [y2.2])))] (ys := (List.map (D.int .i64) [y2.2])) (by kernel_rfl) (map_append') (room_map hk) (by kernel_rfl) <| OWk.sg 27 H [22] [0, 5, 6] 1 [(0, .d (.list 5 (List.map encNote p0))), (5, .own 1 (List.map (D.int .i64) (y2.1 ++ [y2.2]))), (6, vI y2.2)] (by kernel_rfl) <| OWk.done (by kernel_rfl) <| blockS_n <| thenS_n <| SW.regionK <| OWk.sg 27 H [] [0, 5, 6] 3 [(0, .d (.list 5 (List.map encNote p0))), (5, .own 1 (List.map (D.int .i64) (y2.1 ++ [y2.2]))), (6, vI (IntKind.wrap .i64 (y2.2 + 1)))] (by kernel_rfl) <| OWk.done (by kernel_rfl) ?_
          cases h
          exact ⟨((y2.1 ++ [y2.2]), (IntKind.wrap .i64 (y2.2 + 1))), rfl, by kernel_rfl⟩
        · replace h := bif_f hc h
          refine SW.skip <| blockS_n <| thenS_n <| SW.regionK <| OWk.sg 27 H [] [0, 5, 6] 3 [(0, .d (.list 5 (List.map encNote p0))), (5, .own 1 (List.map (D.int .i64) y2.1)), (6, vI (IntKind.wrap .i64 (y2.2 + 1)))] (by kernel_rfl) <| OWk.done (by kernel_rfl) ?_
          cases h
          exact ⟨(y2.1, (IntKind.wrap .i64 (y2.2 + 1))), rfl, by kernel_rfl⟩
      · replace h := bif_f hc h
        refine SW.kp 27 H [5] [(5, .own 1 (List.map (D.int .i64) y2.1))] (by kernel_rfl) <| SW.exit <| thenS_e ?_
        cases h
        refine thenS_e ?_
        exact ⟨_, rfl, ⟨rfl, rfl⟩⟩
    · rintro _ _ ⟨rfl, rfl⟩
      refine blockS_hit <| thenS_n <| SW.seq <| SW.regionK <| OWk.sg 27 H [26] [2, 3] 3 [(2, .own 1 (List.map (D.int .i64) v5)), (3, vI 0)] (by kernel_rfl) <| OWk.done (by kernel_rfl) <| thenS_n <| SW.ret ?_
      cases h
      exact EndQ.ret [] (by kernel_rfl) rfl

def r_SameImages_l1 (fuel : Nat) (p0 : (List Image)) (p1 : (List Image)) (y1 : Int) : Option ((Int) ⊕ ((Unit) ⊕ ((Bool)))) :=
  bif (decide (y1 < (p0.length : Int))) then
    (idx p0 y1).bind fun x2 =>
    (idx p1 y1).bind fun x3 =>
    bif (!((x2.Key == x3.Key) && ((x2.Has == x3.Has) && ((x2.Text == x3.Text) && true)))) then
      some (.inr (.inr false))
    else
      some (.inl (IntKind.wrap .i64 (y1 + 1)))
  else
    some (.inr (.inl ()))

def r_SameImages (fuel : Nat) (p0 : (List Image)) (p1 : (List Image)) : Option (Bool) :=
  bif ((p0.length : Int) != (p1.length : Int)) then
    some false
  else
    (iter (r_SameImages_l1 fuel p0 p1) fuel 0).bind (Sum.elim (fun v5 =>
      some true) (fun r6 =>
      some r6))

theorem r_SameImages_ok {fuel : Nat} {p0 : (List Image)} {p1 : (List Image)} {r : Bool} (h : r_SameImages fuel p0 p1 = some r) : PC Try.prog 15 [.d (.list 3 (List.map encImage p0)), .d (.list 3 (List.map encImage p1))] (vB r) := by
  refine PC.of_SW Try.func15 rfl fun H => ?_
  unfold r_SameImages at h
  refine SW.kp 26 H [0, 1] [(0, .d (.list 3 (List.map encImage p0))), (1, .d (.list 3 (List.map encImage p1)))] (by kernel_rfl) <| SW.seq <| SW.regionK <| OWk.sg 26 H [] [0, 1] 1 [(0, .d (.list 3 (List.map encImage p0))), (1, .d (.list 3 (List.map encImage p1)))] (by kernel_rfl) <| OWk.done (by kernel_rfl) <| thenS_n <| SW.seq <| SW.seq <| SW.regionK <| OWk.sg 26 H [] [0, 1, 6] 1 [(0, .d (.list 3 (List.map encImage p0))), (1, .d (.list 3 (List.map encImage p1))), (6, .d (.list 3 (List.map encImage p0)))] (by kernel_rfl) <| OWk.on 26 H (d := some 7) [0, 1, 7] [(0, .d (.list 3 (List.map encImage p0))), (1, .d (.list 3 (List.map encImage p1))), (7, vI (p0.length : Int))] (BAt.len (enc := encImage) (xs := p0) (by kernel_rfl)) (by kernel_rfl) <| OWk.sg 26 H [] [0, 1, 7, 8] 1 [(0, .d (.list 3 (List.map encImage p0))), (1, .d (.list 3 (List.map encImage p1))), (7, vI (p0.length : Int)), (8, .d (.list 3 (List.map encImage p1)))] (by kernel_rfl) <| OWk.on 26 H (d := some 9) [0, 1, 7, 9] [(0, .d (.list 3 (List.map encImage p0))), (1, .d (.list 3 (List.map encImage p1))), (7, vI (p0.length : Int)), (9, vI (p1.length : Int))] (BAt.len (enc := encImage) (xs := p1) (by kernel_rfl)) (by kernel_rfl) <| OWk.sg 26 H [] [0, 1, 10] 1 [(0, .d (.list 3 (List.map encImage p0))), (1, .d (.list 3 (List.map encImage p1))), (10, vB ((p0.length : Int) != (p1.length : Int)))] (by kernel_rfl) <| OWk.done (by kernel_rfl) <| thenS_n ?_
  refine SW.condB (b := ((p0.length : Int) != (p1.length : Int))) (by kernel_rfl) (fun hc => ?_) (fun hc => ?_)
  · replace h := bif_t hc h
    refine SW.seq <| SW.regionK <| OWk.sg 26 H [] [4] 1 [(4, vB false)] (by kernel_rfl) <| OWk.done (by kernel_rfl) <| thenS_n <| SW.ret <| thenS_r ?_
    cases h
    exact EndQ.ret [] (by kernel_rfl) rfl
  · replace h := bif_f hc h
    refine SW.skip <| thenS_n <| SW.seq <| SW.seq <| SW.regionK <| OWk.sg 26 H [] [0, 1, 5] 1 [(0, .d (.list 3 (List.map encImage p0))), (1, .d (.list 3 (List.map encImage p1))), (5, vI 0)] (by kernel_rfl) <| OWk.done (by kernel_rfl) <| thenS_n <| SW.block ?_
    obtain ⟨z4, hit, h⟩ := bind_inv h
    refine SW.it 26 H [0, 1, 5] (fun y1 => [(0, .d (.list 3 (List.map encImage p0))), (1, .d (.list 3 (List.map encImage p1))), (5, vI y1)]) (fun b e s => ((∃ v5, b = (.inl v5) ∧ (e = .exit 0 ∧ s = (sp 26 [] H))) ∨ (∃ r6, b = (.inr r6) ∧ (e = .ret ∧ EndQ Try.prog Try.f15.results.toList H (vB r6) .ret s)))) hit (by kernel_rfl) (fun y1 o h => ?_) ?_
    · unfold r_SameImages_l1 at h
      refine SW.seq <| SW.seq <| SW.regionK <| OWk.sg 26 H [] [0, 1, 5, 11, 12] 2 [(0, .d (.list 3 (List.map encImage p0))), (1, .d (.list 3 (List.map encImage p1))), (5, vI y1), (11, vI y1), (12, .d (.list 3 (List.map encImage p0)))] (by kernel_rfl) <| OWk.on 26 H (d := some 13) [0, 1, 5, 11, 13] [(0, .d (.list 3 (List.map encImage p0))), (1, .d (.list 3 (List.map encImage p1))), (5, vI y1), (11, vI y1), (13, vI (p0.length : Int))] (BAt.len (enc := encImage) (xs := p0) (by kernel_rfl)) (by kernel_rfl) <| OWk.sg 26 H [] [0, 1, 5, 14] 1 [(0, .d (.list 3 (List.map encImage p0))), (1, .d (.list 3 (List.map encImage p1))), (5, vI y1), (14, vB (decide (y1 < (p0.length : Int))))] (by kernel_rfl) <| OWk.done (by kernel_rfl) <| thenS_n ?_
      refine SW.condB (b := (decide (y1 < (p0.length : Int)))) (by kernel_rfl) (fun hc => ?_) (fun hc => ?_)
      · replace h := bif_t hc h
        refine SW.skip <| thenS_n <| SW.seq <| SW.block <| SW.seq <| SW.regionDk (by kernel_rfl) (by kernel_rfl) <| OBk.sg 26 H [] [0, 1, 5, 17, 18] 2 [(0, .d (.list 3 (List.map encImage p0))), (1, .d (.list 3 (List.map encImage p1))), (5, vI y1), (17, .d (.list 3 (List.map encImage p0))), (18, vI y1)] (by kernel_rfl) (by kernel_rfl) ?_
        obtain ⟨x2, hx, h⟩ := bind_inv h
        refine OBk.on 26 H (d := some 19) (s := lendP none (Go.Sh.D.cells (encImage x2))) [0, 1, 5, 19] [(0, .d (.list 3 (List.map encImage p0))), (1, .d (.list 3 (List.map encImage p1))), (5, vI y1), (19, .d (.dptr [.str x2.Key, .bool x2.Has, .str x2.Text]))] (by kernel_rfl) (BAt.index (n := 3) hx (by kernel_rfl)) (by kernel_rfl) <| OBk.sg 26 H [] [0, 1, 5, 20, 21, 22] 3 [(0, .d (.list 3 (List.map encImage p0))), (1, .d (.list 3 (List.map encImage p1))), (5, vI y1), (20, .d (.agg [.str x2.Key, .bool x2.Has, .str x2.Text])), (21, .d (.list 3 (List.map encImage p1))), (22, vI y1)] (by kernel_rfl) (by kernel_rfl) ?_
        obtain ⟨x3, hx, h⟩ := bind_inv h
        refine OBk.on 26 H (d := some 23) (s := lendP none (Go.Sh.D.cells (encImage x3))) [0, 1, 5, 20, 23] [(0, .d (.list 3 (List.map encImage p0))), (1, .d (.list 3 (List.map encImage p1))), (5, vI y1), (20, .d (.agg [.str x2.Key, .bool x2.Has, .str x2.Text])), (23, .d (.dptr [.str x3.Key, .bool x3.Has, .str x3.Text]))] (by kernel_rfl) (BAt.index (n := 3) hx (by kernel_rfl)) (by kernel_rfl) <| OBk.sg 26 H [] [0, 1, 5, 25] 2 [(0, .d (.list 3 (List.map encImage p0))), (1, .d (.list 3 (List.map encImage p1))), (5, vI y1), (25, vB (!((x2.Key == x3.Key) && ((x2.Has == x3.Has) && ((x2.Text == x3.Text) && true)))))] (by kernel_rfl) (by kernel_rfl) <| OBk.done (by kernel_rfl) <| thenS_n ?_
        refine SW.condB (b := (!((x2.Key == x3.Key) && ((x2.Has == x3.Has) && ((x2.Text == x3.Text) && true))))) (by kernel_rfl) (fun hc => ?_) (fun hc => ?_)
        · replace h := bif_t hc h
          refine SW.seq <| SW.regionK <| OWk.sg 26 H [] [4] 1 [(4, vB false)] (by kernel_rfl) <| OWk.done (by kernel_rfl) <| thenS_n <| SW.ret <| blockS_r <| thenS_r ?_
          cases h
          refine thenS_r ?_
          exact ⟨_, rfl, .inr (⟨false, rfl, rfl, EndQ.ret [] (by kernel_rfl) rfl⟩)⟩
        · replace h := bif_f hc h
          refine SW.skip <| blockS_n <| thenS_n <| SW.regionK <| OWk.sg 26 H [] [0, 1, 5] 3 [(0, .d (.list 3 (List.map encImage p0))), (1, .d (.list 3 (List.map encImage p1))), (5, vI (IntKind.wrap .i64 (y1 + 1)))] (by kernel_rfl) <| OWk.done (by kernel_rfl) ?_
          cases h
          exact ⟨(IntKind.wrap .i64 (y1 + 1)), rfl, by kernel_rfl⟩
      · replace h := bif_f hc h
        refine SW.kp 26 H [] [] (by kernel_rfl) <| SW.exit <| thenS_e ?_
        cases h
        refine thenS_e ?_
        exact ⟨_, rfl, .inl ⟨(), rfl, rfl, rfl⟩⟩
    · rintro _ _ (⟨v5, rfl, rfl, rfl⟩ | ⟨r6, rfl, rfl, hE⟩)
      · replace h := sum_l h
        refine blockS_hit <| thenS_n <| SW.seq <| SW.regionK <| OWk.sg 26 H [] [4] 1 [(4, vB true)] (by kernel_rfl) <| OWk.done (by kernel_rfl) <| thenS_n <| SW.ret ?_
        cases h
        exact EndQ.ret [] (by kernel_rfl) rfl
      · replace h := sum_r h
        refine blockS_r <| thenS_r ?_
        cases h
        exact hE

noncomputable def l_JournalCuts (fuel : Nat) (p0 : (List Image)) (p1 : (List Note)) (p2 : Int) : Option (Bool) :=
  letJ (fun (j1 : Bool) =>
    bif j1 then
      (l_awake fuel).bind fun r5 =>
      some r5
    else
      chk (slOk p1 0 p2) <|
      (r_Open fuel (sl p1 0 p2)).bind fun r6 =>
      letJ (fun (j7 : Bool) =>
        bif j7 then
          (l_awake fuel).bind fun r9 =>
          some r9
        else
          (r_Open fuel p1).bind fun r10 =>
          bif (r10.2 != 0) then
            (l_awake fuel).bind fun r11 =>
            some r11
          else
            (j_State fuel p0 p1).bind fun r12 =>
            chk (slOk p1 0 p2) <|
            (j_State fuel p0 (sl p1 0 p2)).bind fun r13 =>
            bif (r13.2 != 0) then
              letJ (fun (j14 : Bool) =>
                some j14) fun jp15 =>
              bif ((r12.2 != 0) || (r13.2 == 4)) then
                (l_awake fuel).bind fun r16 =>
                jp15 r16
              else
                jp15 false
            else
              chk (slOk p1 p2 (p1.length : Int)) <|
              (j_State fuel r13.1 (sl p1 p2 (p1.length : Int))).bind fun r17 =>
              bif (r12.2 == r17.2) then
                (r_SameImages fuel r12.1 r17.1).bind fun r18 =>
                bif r18 then
                  (l_awake fuel).bind fun r19 =>
                  some r19
                else
                  some false
              else
                some false) fun jp8 =>
      bif (r6.2 != 0) then
        jp8 true
      else
        jp8 (decide ((r6.1.length : Int) > 0))) fun jp2 =>
  (l_Notes fuel p1).bind fun r3 =>
  bif (!r3) then
    jp2 true
  else
    (l_Images fuel p0).bind fun r4 =>
    bif ((!r4) || (decide (p2 < 0))) then
      jp2 true
    else
      jp2 (decide (p2 > (p1.length : Int)))

theorem l_JournalCuts_ok {fuel : Nat} {p0 : (List Image)} {p1 : (List Note)} {p2 : Int} {r : Bool} (h : l_JournalCuts fuel p0 p1 p2 = some r) : PC Try.prog 3 [.d (.list 3 (List.map encImage p0)), .d (.list 5 (List.map encNote p1)), vI p2] (vB r) := by
  refine PC.of_SW Try.func3 rfl fun H => ?_
  unfold l_JournalCuts at h
  refine SW.kp 102 H [0, 1, 2] [(0, .d (.list 3 (List.map encImage p0))), (1, .d (.list 5 (List.map encNote p1))), (2, vI p2)] (by kernel_rfl) <| SW.seq <| SW.regionK <| OWk.sg 102 H [] [0, 1, 2] 1 [(0, .d (.list 3 (List.map encImage p0))), (1, .d (.list 5 (List.map encNote p1))), (2, vI p2)] (by kernel_rfl) <| OWk.done (by kernel_rfl) <| thenS_n <| SW.seq ?_
  obtain ⟨jp2, hjjp2, h⟩ := letJ_inv h
  refine SW.jn 102 H [0, 1, 2, 33] (fun (j1 : Bool) => [(0, .d (.list 3 (List.map encImage p0))), (1, .d (.list 5 (List.map encNote p1))), (2, vI p2), (33, vB j1)]) (fun v => jp2 v = some r) (fun j1 h => ?_) ?_
  · rw [hjjp2] at h
    refine SW.condB (b := j1) (by kernel_rfl) (fun hc => ?_) (fun hc => ?_)
    · replace h := bif_t hc h
      refine SW.seq <| SW.regionK ?_
      obtain ⟨r5, hr, h⟩ := bind_inv h
      refine OWk.cl 102 H (d := some 34) (ls := []) (gs := []) [] [34] [(34, vB r5)] (l_awake_ok hr) (by kernel_rfl) (by kernel_rfl) (by kernel_rfl) <| OWk.sg 102 H [] [6] 1 [(6, vB r5)] (by kernel_rfl) <| OWk.done (by kernel_rfl) <| thenS_n <| SW.ret <| thenS_r ?_
      cases h
      exact EndQ.ret [] (by kernel_rfl) rfl
    · replace h := bif_f hc h
      refine SW.skip <| thenS_n <| SW.seq <| SW.regionK <| OWk.sg 102 H [] [0, 1, 2, 36, 37] 2 [(0, .d (.list 3 (List.map encImage p0))), (1, .d (.list 5 (List.map encNote p1))), (2, vI p2), (36, .d (.list 5 (List.map encNote p1))), (37, vI p2)] (by kernel_rfl) ?_
      obtain ⟨hk, h⟩ := chk_inv h
      refine OWk.on 102 H (d := some 38) (s := lendL none 5 (List.map encNote (sl p1 0 p2))) [0, 1, 2, 38] [(0, .d (.list 3 (List.map encImage p0))), (1, .d (.list 5 (List.map encNote p1))), (2, vI p2), (38, .d (.list 5 (List.map encNote (sl p1 0 p2))))] (BAt.slice hk (by kernel_rfl)) (by kernel_rfl) ?_
      obtain ⟨r6, hr, h⟩ := bind_inv h
      refine OWk.cl 102 H (d := some 39) (ls := []) (gs := []) [] [0, 1, 2, 39] [(0, .d (.list 3 (List.map encImage p0))), (1, .d (.list 5 (List.map encNote p1))), (2, vI p2), (39, .tup [.own 1 (List.map (D.int .i64) r6.1), vI r6.2])] (r_Open_ok hr) (by kernel_rfl) (by kernel_rfl) (by kernel_rfl) <| OWk.sg 102 H [] [0, 1, 2, 7, 8] 5 [(0, .d (.list 3 (List.map encImage p0))), (1, .d (.list 5 (List.map encNote p1))), (2, vI p2), (7, .own 1 (List.map (D.int .i64) r6.1)), (8, vI r6.2)] (by kernel_rfl) <| OWk.done (by kernel_rfl) <| thenS_n <| SW.seq ?_
      obtain ⟨jp8, hjjp8, h⟩ := letJ_inv h
      refine SW.jn 102 H [0, 1, 2, 48] (fun (j7 : Bool) => [(0, .d (.list 3 (List.map encImage p0))), (1, .d (.list 5 (List.map encNote p1))), (2, vI p2), (48, vB j7)]) (fun v => jp8 v = some r) (fun j7 h => ?_) ?_
      · rw [hjjp8] at h
        refine SW.condB (b := j7) (by kernel_rfl) (fun hc => ?_) (fun hc => ?_)
        · replace h := bif_t hc h
          refine SW.seq <| SW.regionK ?_
          obtain ⟨r9, hr, h⟩ := bind_inv h
          refine OWk.cl 102 H (d := some 49) (ls := []) (gs := []) [] [49] [(49, vB r9)] (l_awake_ok hr) (by kernel_rfl) (by kernel_rfl) (by kernel_rfl) <| OWk.sg 102 H [] [6] 1 [(6, vB r9)] (by kernel_rfl) <| OWk.done (by kernel_rfl) <| thenS_n <| SW.ret <| thenS_r ?_
          cases h
          exact EndQ.ret [] (by kernel_rfl) rfl
        · replace h := bif_f hc h
          refine SW.skip <| thenS_n <| SW.seq <| SW.seq <| SW.regionK <| OWk.sg 102 H [] [0, 1, 2, 51] 1 [(0, .d (.list 3 (List.map encImage p0))), (1, .d (.list 5 (List.map encNote p1))), (2, vI p2), (51, .d (.list 5 (List.map encNote p1)))] (by kernel_rfl) ?_
          obtain ⟨r10, hr, h⟩ := bind_inv h
          refine OWk.cl 102 H (d := some 52) (ls := []) (gs := []) [] [0, 1, 2, 52] [(0, .d (.list 3 (List.map encImage p0))), (1, .d (.list 5 (List.map encNote p1))), (2, vI p2), (52, .tup [.own 1 (List.map (D.int .i64) r10.1), vI r10.2])] (r_Open_ok hr) (by kernel_rfl) (by kernel_rfl) (by kernel_rfl) <| OWk.sg 102 H [] [0, 1, 2, 10] 5 [(0, .d (.list 3 (List.map encImage p0))), (1, .d (.list 5 (List.map encNote p1))), (2, vI p2), (10, vI r10.2)] (by kernel_rfl) <| OWk.done (by kernel_rfl) <| thenS_n <| SW.seq <| SW.regionK <| OWk.sg 102 H [] [0, 1, 2, 56] 2 [(0, .d (.list 3 (List.map encImage p0))), (1, .d (.list 5 (List.map encNote p1))), (2, vI p2), (56, vB (r10.2 != 0))] (by kernel_rfl) <| OWk.done (by kernel_rfl) <| thenS_n ?_
          refine SW.condB (b := (r10.2 != 0)) (by kernel_rfl) (fun hc => ?_) (fun hc => ?_)
          · replace h := bif_t hc h
            refine SW.seq <| SW.regionK ?_
            obtain ⟨r11, hr, h⟩ := bind_inv h
            refine OWk.cl 102 H (d := some 57) (ls := []) (gs := []) [] [57] [(57, vB r11)] (l_awake_ok hr) (by kernel_rfl) (by kernel_rfl) (by kernel_rfl) <| OWk.sg 102 H [] [6] 1 [(6, vB r11)] (by kernel_rfl) <| OWk.done (by kernel_rfl) <| thenS_n <| SW.ret <| thenS_r ?_
            cases h
            exact EndQ.ret [] (by kernel_rfl) rfl
          · replace h := bif_f hc h
            refine SW.skip <| thenS_n <| SW.seq <| SW.regionK <| OWk.sg 102 H [] [0, 1, 2, 59, 60] 2 [(0, .d (.list 3 (List.map encImage p0))), (1, .d (.list 5 (List.map encNote p1))), (2, vI p2), (59, .d (.list 3 (List.map encImage p0))), (60, .d (.list 5 (List.map encNote p1)))] (by kernel_rfl) ?_
            obtain ⟨r12, hr, h⟩ := bind_inv h
            refine OWk.cl 102 H (d := some 61) (ls := []) (gs := []) [] [0, 1, 2, 61] [(0, .d (.list 3 (List.map encImage p0))), (1, .d (.list 5 (List.map encNote p1))), (2, vI p2), (61, .tup [.own 3 (List.map encImage r12.1), vI r12.2])] (j_State_ok hr) (by kernel_rfl) (by kernel_rfl) (by kernel_rfl) <| OWk.sg 102 H [] [0, 1, 2, 8, 11] 5 [(0, .d (.list 3 (List.map encImage p0))), (1, .d (.list 5 (List.map encNote p1))), (2, vI p2), (8, vI r12.2), (11, .own 3 (List.map encImage r12.1))] (by kernel_rfl) <| OWk.done (by kernel_rfl) <| thenS_n <| SW.seq <| SW.regionK <| OWk.sg 102 H [] [1, 2, 8, 11, 65, 66, 67] 3 [(1, .d (.list 5 (List.map encNote p1))), (2, vI p2), (8, vI r12.2), (11, .own 3 (List.map encImage r12.1)), (65, .d (.list 3 (List.map encImage p0))), (66, .d (.list 5 (List.map encNote p1))), (67, vI p2)] (by kernel_rfl) ?_
            obtain ⟨hk, h⟩ := chk_inv h
            refine OWk.on 102 H (d := some 68) (s := lendL none 5 (List.map encNote (sl p1 0 p2))) [1, 2, 8, 11, 65, 68] [(1, .d (.list 5 (List.map encNote p1))), (2, vI p2), (8, vI r12.2), (11, .own 3 (List.map encImage r12.1)), (65, .d (.list 3 (List.map encImage p0))), (68, .d (.list 5 (List.map encNote (sl p1 0 p2))))] (BAt.slice hk (by kernel_rfl)) (by kernel_rfl) ?_
            obtain ⟨r13, hr, h⟩ := bind_inv h
            refine OWk.cl 102 H (d := some 69) (ls := []) (gs := []) [] [1, 2, 8, 11, 69] [(1, .d (.list 5 (List.map encNote p1))), (2, vI p2), (8, vI r12.2), (11, .own 3 (List.map encImage r12.1)), (69, .tup [.own 3 (List.map encImage r13.1), vI r13.2])] (j_State_ok hr) (by kernel_rfl) (by kernel_rfl) (by kernel_rfl) <| OWk.sg 102 H [] [1, 2, 8, 11, 12, 13] 5 [(1, .d (.list 5 (List.map encNote p1))), (2, vI p2), (8, vI r12.2), (11, .own 3 (List.map encImage r12.1)), (12, .own 3 (List.map encImage r13.1)), (13, vI r13.2)] (by kernel_rfl) <| OWk.done (by kernel_rfl) <| thenS_n <| SW.seq <| SW.seq <| SW.regionK <| OWk.sg 102 H [] [1, 2, 8, 11, 12, 13, 73] 2 [(1, .d (.list 5 (List.map encNote p1))), (2, vI p2), (8, vI r12.2), (11, .own 3 (List.map encImage r12.1)), (12, .own 3 (List.map encImage r13.1)), (13, vI r13.2), (73, vB (r13.2 != 0))] (by kernel_rfl) <| OWk.done (by kernel_rfl) <| thenS_n ?_
            refine SW.condB (b := (r13.2 != 0)) (by kernel_rfl) (fun hc => ?_) (fun hc => ?_)
            · replace h := bif_t hc h
              obtain ⟨jp15, hjjp15, h⟩ := letJ_inv h
              refine SW.jn 102 H [6] (fun (j14 : Bool) => [(6, vB j14)]) (fun v => jp15 v = some r) (fun j14 h => ?_) ?_
              · rw [hjjp15] at h
                refine SW.ret <| thenS_r ?_
                cases h
                exact EndQ.ret [] (by kernel_rfl) rfl
              · refine SW.regionK <| OWk.sg 102 H [] [13, 76] 3 [(13, vI r13.2), (76, vB (r12.2 != 0))] (by kernel_rfl) <| OWk.mg 102 H [79] 3 (r12.2 != 0) (fun b => (sp 102 [(13, vI r13.2), (76, vB b)] H)) (fun b => [(79, vB (b || (r13.2 == 4)))]) (by kernel_rfl) (by kernel_rfl) (by kernel_rfl) <| OWk.sg 102 H [] [80] 1 [(80, vB ((r12.2 != 0) || (r13.2 == 4)))] (by kernel_rfl) ?_
                refine OWk.case ((r12.2 != 0) || (r13.2 == 4)) (fun b => (sp 102 [(80, vB b)] H)) (by kernel_rfl) (fun hc => ?_) (fun hc => ?_)
                · replace h := bif_t hc h
                  obtain ⟨r16, hr, h⟩ := bind_inv h
                  refine OWk.cl 102 H (d := some 81) (ls := []) (gs := []) [] [80, 81] [(80, vB true), (81, vB r16)] (l_awake_ok hr) (by kernel_rfl) (by kernel_rfl) (by kernel_rfl) <| OWk.sg 102 H [] [6] 2 [(6, vB r16)] (by kernel_rfl) <| OWk.done (by kernel_rfl) ?_
                  exact ⟨r16, [], by kernel_rfl, h⟩
                · replace h := bif_f hc h
                  refine OWk.sg 102 H [] [6] 3 [(6, vB false)] (by kernel_rfl) <| OWk.done (by kernel_rfl) ?_
                  exact ⟨false, [], by kernel_rfl, h⟩
            · replace h := bif_f hc h
              refine SW.skip <| thenS_n <| SW.seq <| SW.regionK <| OWk.sg 102 H [84] [1, 2, 8, 11, 84] 1 [(1, .d (.list 5 (List.map encNote p1))), (2, vI p2), (8, vI r12.2), (11, .own 3 (List.map encImage r12.1)), (84, .own 3 (List.map encImage r13.1))] (by kernel_rfl) <| OWk.fz 102 H 84 [1, 2, 8, 11, 84] [(1, .d (.list 5 (List.map encNote p1))), (2, vI p2), (8, vI r12.2), (11, .own 3 (List.map encImage r12.1)), (84, .d (.list 3 (List.map encImage r13.1)))] (by kernel_rfl) <| OWk.sg 102 H [84] [8, 11, 84, 85, 86] 2 [(8, vI r12.2), (11, .own 3 (List.map encImage r12.1)), (84, .d (.list 3 (List.map encImage r13.1))), (85, .d (.list 5 (List.map encNote p1))), (86, vI p2)] (by kernel_rfl) ?_
              obtain ⟨hk, h⟩ := chk_inv h
              refine OWk.on 102 H (d := some 87) (s := lendL none 5 (List.map encNote (sl p1 p2 (p1.length : Int)))) [8, 11, 84, 87] [(8, vI r12.2), (11, .own 3 (List.map encImage r12.1)), (84, .d (.list 3 (List.map encImage r13.1))), (87, .d (.list 5 (List.map encNote (sl p1 p2 (p1.length : Int)))))] (BAt.slice hk (by kernel_rfl)) (by kernel_rfl) ?_
              obtain ⟨r17, hr, h⟩ := bind_inv h
              refine OWk.cl 102 H (d := some 88) (ls := []) (gs := []) [] [8, 11, 88] [(8, vI r12.2), (11, .own 3 (List.map encImage r12.1)), (88, .tup [.own 3 (List.map encImage r17.1), vI r17.2])] (j_State_ok hr) (by kernel_rfl) (by kernel_rfl) (by kernel_rfl) <| OWk.sg 102 H [84] [8, 11, 14, 15] 5 [(8, vI r12.2), (11, .own 3 (List.map encImage r12.1)), (14, .own 3 (List.map encImage r17.1)), (15, vI r17.2)] (by kernel_rfl) <| OWk.done (by kernel_rfl) <| thenS_n <| SW.seq <| SW.regionK <| OWk.sg 102 H [] [11, 14, 94] 4 [(11, .own 3 (List.map encImage r12.1)), (14, .own 3 (List.map encImage r17.1)), (94, vB (r12.2 == r17.2))] (by kernel_rfl) ?_
              refine OWk.case (r12.2 == r17.2) (fun b => (sp 102 [(11, .own 3 (List.map encImage r12.1)), (14, .own 3 (List.map encImage r17.1)), (94, vB b)] H)) (by kernel_rfl) (fun hc => ?_) (fun hc => ?_)
              · replace h := bif_t hc h
                refine OWk.sg 102 H [95, 96] [94, 95, 96] 2 [(94, vB true), (95, .own 3 (List.map encImage r12.1)), (96, .own 3 (List.map encImage r17.1))] (by kernel_rfl) ?_
                obtain ⟨r18, hr, h⟩ := bind_inv h
                refine OWk.cl 102 H (d := some 97) (ls := [(.slot 95), (.slot 96)]) (gs := []) [] [94, 97] [(94, vB true), (97, vB r18)] (r_SameImages_ok hr) (by kernel_rfl) (by kernel_rfl) (by kernel_rfl) <| OWk.sg 102 H [95, 96] [99] 2 [(99, vB r18)] (by kernel_rfl) ?_
                refine OWk.case r18 (fun b => (sp 102 [(99, vB b)] H)) (by kernel_rfl) (fun hc => ?_) (fun hc => ?_)
                · replace h := bif_t hc h
                  obtain ⟨r19, hr, h⟩ := bind_inv h
                  refine OWk.cl 102 H (d := some 100) (ls := []) (gs := []) [] [99, 100] [(99, vB true), (100, vB r19)] (l_awake_ok hr) (by kernel_rfl) (by kernel_rfl) (by kernel_rfl) <| OWk.sg 102 H [95, 96] [6] 2 [(6, vB r19)] (by kernel_rfl) <| OWk.done (by kernel_rfl) <| thenS_n <| SW.ret ?_
                  cases h
                  exact EndQ.ret [] (by kernel_rfl) rfl
                · replace h := bif_f hc h
                  refine OWk.sg 102 H [95, 96] [6] 3 [(6, vB false)] (by kernel_rfl) <| OWk.done (by kernel_rfl) <| thenS_n <| SW.ret ?_
                  cases h
                  exact EndQ.ret [] (by kernel_rfl) rfl
              · replace h := bif_f hc h
                refine OWk.sg 102 H [95, 96] [6] 8 [(6, vB false)] (by kernel_rfl) <| OWk.done (by kernel_rfl) <| thenS_n <| SW.ret ?_
                cases h
                exact EndQ.ret [] (by kernel_rfl) rfl
      · refine SW.regionK <| OWk.sg 102 H [] [0, 1, 2, 7, 44] 3 [(0, .d (.list 3 (List.map encImage p0))), (1, .d (.list 5 (List.map encNote p1))), (2, vI p2), (7, .own 1 (List.map (D.int .i64) r6.1)), (44, vB (r6.2 != 0))] (by kernel_rfl) ?_
        refine OWk.case (r6.2 != 0) (fun b => (sp 102 [(0, .d (.list 3 (List.map encImage p0))), (1, .d (.list 5 (List.map encNote p1))), (2, vI p2), (7, .own 1 (List.map (D.int .i64) r6.1)), (44, vB b)] H)) (by kernel_rfl) (fun hc => ?_) (fun hc => ?_)
        · replace h := bif_t hc h
          refine OWk.sg 102 H [] [0, 1, 2, 48] 4 [(0, .d (.list 3 (List.map encImage p0))), (1, .d (.list 5 (List.map encNote p1))), (2, vI p2), (48, vB true)] (by kernel_rfl) <| OWk.done (by kernel_rfl) ?_
          exact ⟨true, [], by kernel_rfl, h⟩
        · replace h := bif_f hc h
          refine OWk.sg 102 H [45] [0, 1, 2, 44, 45] 1 [(0, .d (.list 3 (List.map encImage p0))), (1, .d (.list 5 (List.map encNote p1))), (2, vI p2), (44, vB false), (45, .own 1 (List.map (D.int .i64) r6.1))] (by kernel_rfl) <| OWk.on 102 H (d := some 46) [0, 1, 2, 44, 46] [(0, .d (.list 3 (List.map encImage p0))), (1, .d (.list 5 (List.map encNote p1))), (2, vI p2), (44, vB false), (46, vI (r6.1.length : Int))] (BAt.len (enc := (D.int .i64)) (xs := r6.1) (by kernel_rfl)) (by kernel_rfl) <| OWk.sg 102 H [45] [0, 1, 2, 48] 2 [(0, .d (.list 3 (List.map encImage p0))), (1, .d (.list 5 (List.map encNote p1))), (2, vI p2), (48, vB (decide ((r6.1.length : Int) > 0)))] (by kernel_rfl) <| OWk.done (by kernel_rfl) ?_
          exact ⟨(decide ((r6.1.length : Int) > 0)), [], by kernel_rfl, h⟩
  · refine SW.regionK <| OWk.sg 102 H [] [0, 1, 2, 16] 1 [(0, .d (.list 3 (List.map encImage p0))), (1, .d (.list 5 (List.map encNote p1))), (2, vI p2), (16, .d (.list 5 (List.map encNote p1)))] (by kernel_rfl) ?_
    obtain ⟨r3, hr, h⟩ := bind_inv h
    refine OWk.cl 102 H (d := some 17) (ls := []) (gs := []) [] [0, 1, 2, 17] [(0, .d (.list 3 (List.map encImage p0))), (1, .d (.list 5 (List.map encNote p1))), (2, vI p2), (17, vB r3)] (l_Notes_ok hr) (by kernel_rfl) (by kernel_rfl) (by kernel_rfl) <| OWk.sg 102 H [] [0, 1, 2, 19] 2 [(0, .d (.list 3 (List.map encImage p0))), (1, .d (.list 5 (List.map encNote p1))), (2, vI p2), (19, vB (!r3))] (by kernel_rfl) ?_
    refine OWk.case (!r3) (fun b => (sp 102 [(0, .d (.list 3 (List.map encImage p0))), (1, .d (.list 5 (List.map encNote p1))), (2, vI p2), (19, vB b)] H)) (by kernel_rfl) (fun hc => ?_) (fun hc => ?_)
    · replace h := bif_t hc h
      refine OWk.sg 102 H [] [0, 1, 2, 33] 14 [(0, .d (.list 3 (List.map encImage p0))), (1, .d (.list 5 (List.map encNote p1))), (2, vI p2), (33, vB true)] (by kernel_rfl) <| OWk.done (by kernel_rfl) ?_
      exact ⟨true, [], by kernel_rfl, h⟩
    · replace h := bif_f hc h
      refine OWk.sg 102 H [] [0, 1, 2, 19, 20] 1 [(0, .d (.list 3 (List.map encImage p0))), (1, .d (.list 5 (List.map encNote p1))), (2, vI p2), (19, vB false), (20, .d (.list 3 (List.map encImage p0)))] (by kernel_rfl) ?_
      obtain ⟨r4, hr, h⟩ := bind_inv h
      refine OWk.cl 102 H (d := some 21) (ls := []) (gs := []) [] [0, 1, 2, 19, 21] [(0, .d (.list 3 (List.map encImage p0))), (1, .d (.list 5 (List.map encNote p1))), (2, vI p2), (19, vB false), (21, vB r4)] (l_Images_ok hr) (by kernel_rfl) (by kernel_rfl) (by kernel_rfl) <| OWk.sg 102 H [] [0, 1, 2, 24] 3 [(0, .d (.list 3 (List.map encImage p0))), (1, .d (.list 5 (List.map encNote p1))), (2, vI p2), (24, vB (!r4))] (by kernel_rfl) <| OWk.mg 102 H [0, 1, 2, 27] 3 (!r4) (fun b => (sp 102 [(0, .d (.list 3 (List.map encImage p0))), (1, .d (.list 5 (List.map encNote p1))), (2, vI p2), (24, vB b)] H)) (fun b => [(0, .d (.list 3 (List.map encImage p0))), (1, .d (.list 5 (List.map encNote p1))), (2, vI p2), (27, vB (b || (decide (p2 < 0))))]) (by kernel_rfl) (by kernel_rfl) (by kernel_rfl) <| OWk.sg 102 H [] [0, 1, 2, 28] 1 [(0, .d (.list 3 (List.map encImage p0))), (1, .d (.list 5 (List.map encNote p1))), (2, vI p2), (28, vB ((!r4) || (decide (p2 < 0))))] (by kernel_rfl) ?_
      refine OWk.case ((!r4) || (decide (p2 < 0))) (fun b => (sp 102 [(0, .d (.list 3 (List.map encImage p0))), (1, .d (.list 5 (List.map encNote p1))), (2, vI p2), (28, vB b)] H)) (by kernel_rfl) (fun hc => ?_) (fun hc => ?_)
      · replace h := bif_t hc h
        refine OWk.sg 102 H [] [0, 1, 2, 33] 5 [(0, .d (.list 3 (List.map encImage p0))), (1, .d (.list 5 (List.map encNote p1))), (2, vI p2), (33, vB true)] (by kernel_rfl) <| OWk.done (by kernel_rfl) ?_
        exact ⟨true, [], by kernel_rfl, h⟩
      · replace h := bif_f hc h
        refine OWk.sg 102 H [] [0, 1, 2, 28, 29, 30] 2 [(0, .d (.list 3 (List.map encImage p0))), (1, .d (.list 5 (List.map encNote p1))), (2, vI p2), (28, vB false), (29, vI p2), (30, .d (.list 5 (List.map encNote p1)))] (by kernel_rfl) <| OWk.on 102 H (d := some 31) [0, 1, 2, 28, 29, 31] [(0, .d (.list 3 (List.map encImage p0))), (1, .d (.list 5 (List.map encNote p1))), (2, vI p2), (28, vB false), (29, vI p2), (31, vI (p1.length : Int))] (BAt.len (enc := encNote) (xs := p1) (by kernel_rfl)) (by kernel_rfl) <| OWk.sg 102 H [] [0, 1, 2, 33] 2 [(0, .d (.list 3 (List.map encImage p0))), (1, .d (.list 5 (List.map encNote p1))), (2, vI p2), (33, vB (decide (p2 > (p1.length : Int))))] (by kernel_rfl) <| OWk.done (by kernel_rfl) ?_
        exact ⟨(decide (p2 > (p1.length : Int))), [], by kernel_rfl, h⟩

end Go.Sh
