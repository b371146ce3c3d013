/- Printed by a program: functions of the program as plain functions, and that the code computes them. -/
import Derived.Test.YtjkhgfoecplbgaaS3
import Derived.Test.YtjkhgfoecplbgaaProg
import Derived.Lib.Strings
import Derived.Lib.Slices
import Derived.Lib.Walk
import Derived.Lib.Bytealg
set_option linter.all false
set_option autoImplicit true
set_option relaxedAutoImplicit true
open Go Go.Proofs
namespace Go.Sh
set_option linter.unusedVariables false
set_option linter.unusedSimpArgs false
set_option maxRecDepth 100000

structure Note where
  Kind : Int
  Unit : Int
  Key : (List UInt8)
  Has : Bool
  Text : (List UInt8)
  deriving DecidableEq, Inhabited

def encNote (x : Note) : D := .agg [.int .i64 x.Kind, .int .i64 x.Unit, .str x.Key, .bool x.Has, .str x.Text]

def l_Notes_l1 (fuel : Nat) (p0 : (List Note)) (y1 : Int × Int) : Option ((Int × Int) ⊕ (Int)) :=
  bif ((decide (y1.2 < (p0.length : Int))) && (decide (y1.2 < 60))) then
    (idx p0 y1.2).bind fun x2 =>
    (idx p0 y1.2).bind fun x3 =>
    some (.inl ((IntKind.wrap .i64 ((IntKind.wrap .i64 (y1.1 + (x2.Key.length : Int))) + (x3.Text.length : Int))), (IntKind.wrap .i64 (y1.2 + 1))))
  else
    some (.inr y1.1)

def l_Notes (fuel : Nat) (p0 : (List Note)) : Option (Bool) :=
  (iter (l_Notes_l1 fuel p0) fuel (0, 0)).bind fun v5 =>
  some ((decide ((p0.length : Int) ≤ 60)) && (decide (v5 ≤ 6000)))

theorem l_Notes_ok {fuel : Nat} {p0 : (List Note)} {r : Bool} (h : l_Notes fuel p0 = some r) : PC Try.prog 10 [.d (.list 5 (List.map encNote p0))] (vB r) := by
  refine PC.of_SW Try.func10 rfl fun H => ?_
  unfold l_Notes at h
  refine SW.kp 37 H [0] [(0, .d (.list 5 (List.map encNote p0)))] (by kernel_rfl) <| SW.seq <| SW.regionK <| OWk.sg 37 H [] [0] 1 [(0, .d (.list 5 (List.map encNote p0)))] (by kernel_rfl) <| OWk.done (by kernel_rfl) <| thenS_n <| SW.seq <| SW.regionK <| OWk.sg 37 H [] [0, 3] 1 [(0, .d (.list 5 (List.map encNote p0))), (3, vI 0)] (by kernel_rfl) <| OWk.done (by kernel_rfl) <| thenS_n <| SW.seq <| SW.seq <| SW.regionK <| OWk.sg 37 H [] [0, 3, 4] 1 [(0, .d (.list 5 (List.map encNote p0))), (3, vI 0), (4, vI 0)] (by kernel_rfl) <| OWk.done (by kernel_rfl) <| thenS_n <| SW.block ?_
  obtain ⟨v5, hit, h⟩ := bind_inv h
  refine SW.it 37 H [0, 3, 4] (fun y1 => [(0, .d (.list 5 (List.map encNote p0))), (3, vI y1.1), (4, vI y1.2)]) (fun v5 e s => (e = .exit 0 ∧ s = (sp 37 [(0, .d (.list 5 (List.map encNote p0))), (3, vI v5)] H))) hit (by kernel_rfl) (fun y1 o h => ?_) ?_
  · unfold l_Notes_l1 at h
    refine SW.seq <| SW.seq <| SW.regionK <| OWk.sg 37 H [] [0, 3, 4, 5, 6] 2 [(0, .d (.list 5 (List.map encNote p0))), (3, vI y1.1), (4, vI y1.2), (5, vI y1.2), (6, .d (.list 5 (List.map encNote p0)))] (by kernel_rfl) <| OWk.on 37 H (d := some 7) [0, 3, 4, 5, 7] [(0, .d (.list 5 (List.map encNote p0))), (3, vI y1.1), (4, vI y1.2), (5, vI y1.2), (7, vI (p0.length : Int))] (BAt.len (enc := encNote) (xs := p0) (by kernel_rfl)) (by kernel_rfl) <| OWk.sg 37 H [] [0, 3, 4, 9] 2 [(0, .d (.list 5 (List.map encNote p0))), (3, vI y1.1), (4, vI y1.2), (9, vB (decide (y1.2 < (p0.length : Int))))] (by kernel_rfl) <| OWk.mg 37 H [0, 3, 4, 12] 3 (decide (y1.2 < (p0.length : Int))) (fun b => (sp 37 [(0, .d (.list 5 (List.map encNote p0))), (3, vI y1.1), (4, vI y1.2), (9, vB b)] H)) (fun b => [(0, .d (.list 5 (List.map encNote p0))), (3, vI y1.1), (4, vI y1.2), (12, vB (b && (decide (y1.2 < 60))))]) (by kernel_rfl) (by kernel_rfl) (by kernel_rfl) <| OWk.done (by kernel_rfl) <| thenS_n ?_
    refine SW.condB (b := ((decide (y1.2 < (p0.length : Int))) && (decide (y1.2 < 60)))) (by kernel_rfl) (fun hc => ?_) (fun hc => ?_)
    · replace h := bif_t hc h
      refine SW.skip <| thenS_n <| SW.seq <| SW.block <| SW.regionT 15 (by kernel_rfl) (by kernel_rfl) <| OBk.sg 37 H [] [0, 4, 15, 16, 17] 3 [(0, .d (.list 5 (List.map encNote p0))), (4, vI y1.2), (15, vI y1.1), (16, .d (.list 5 (List.map encNote p0))), (17, vI y1.2)] (by kernel_rfl) (by kernel_rfl) ?_
      obtain ⟨x2, hx, h⟩ := bind_inv h
      refine OBk.on 37 H (d := some 18) (s := lendP none (Go.Sh.D.cells (encNote x2))) [0, 4, 15, 18] [(0, .d (.list 5 (List.map encNote p0))), (4, vI y1.2), (15, vI y1.1), (18, .d (.dptr [.int .i64 x2.Kind, .int .i64 x2.Unit, .str x2.Key, .bool x2.Has, .str x2.Text]))] (by kernel_rfl) (BAt.index (n := 5) hx (by kernel_rfl)) (by kernel_rfl) <| OBk.sg 37 H [] [0, 4, 15, 20] 2 [(0, .d (.list 5 (List.map encNote p0))), (4, vI y1.2), (15, vI y1.1), (20, vS x2.Key)] (by kernel_rfl) (by kernel_rfl) <| OBk.sg 37 H [] [0, 4, 15, 21] 1 [(0, .d (.list 5 (List.map encNote p0))), (4, vI y1.2), (15, vI y1.1), (21, vI (x2.Key.length : Int))] (by kernel_rfl) (by kernel_rfl) <| OBk.sg 37 H [] [0, 4, 22, 23, 24] 3 [(0, .d (.list 5 (List.map encNote p0))), (4, vI y1.2), (22, vI (IntKind.wrap .i64 (y1.1 + (x2.Key.length : Int)))), (23, .d (.list 5 (List.map encNote p0))), (24, vI y1.2)] (by kernel_rfl) (by kernel_rfl) ?_
      obtain ⟨x3, hx, h⟩ := bind_inv h
      refine OBk.on 37 H (d := some 25) (s := lendP none (Go.Sh.D.cells (encNote x3))) [0, 4, 22, 25] [(0, .d (.list 5 (List.map encNote p0))), (4, vI y1.2), (22, vI (IntKind.wrap .i64 (y1.1 + (x2.Key.length : Int)))), (25, .d (.dptr [.int .i64 x3.Kind, .int .i64 x3.Unit, .str x3.Key, .bool x3.Has, .str x3.Text]))] (by kernel_rfl) (BAt.index (n := 5) hx (by kernel_rfl)) (by kernel_rfl) <| OBk.sg 37 H [] [0, 4, 22, 27] 2 [(0, .d (.list 5 (List.map encNote p0))), (4, vI y1.2), (22, vI (IntKind.wrap .i64 (y1.1 + (x2.Key.length : Int)))), (27, vS x3.Text)] (by kernel_rfl) (by kernel_rfl) <| OBk.sg 37 H [] [0, 4, 22, 28] 1 [(0, .d (.list 5 (List.map encNote p0))), (4, vI y1.2), (22, vI (IntKind.wrap .i64 (y1.1 + (x2.Key.length : Int)))), (28, vI (x3.Text.length : Int))] (by kernel_rfl) (by kernel_rfl) <| OBk.sg 37 H [] [0, 4, 29] 1 [(0, .d (.list 5 (List.map encNote p0))), (4, vI y1.2), (29, vI (IntKind.wrap .i64 ((IntKind.wrap .i64 (y1.1 + (x2.Key.length : Int))) + (x3.Text.length : Int))))] (by kernel_rfl) (by kernel_rfl) <| OBk.done (by kernel_rfl) <| OWk.sg 37 H [] [0, 3, 4] 1 [(0, .d (.list 5 (List.map encNote p0))), (3, vI (IntKind.wrap .i64 ((IntKind.wrap .i64 (y1.1 + (x2.Key.length : Int))) + (x3.Text.length : Int)))), (4, vI y1.2)] (by kernel_rfl) <| OWk.done (by kernel_rfl) <| blockS_n <| thenS_n <| SW.regionK <| OWk.sg 37 H [] [0, 3, 4] 3 [(0, .d (.list 5 (List.map encNote p0))), (3, vI (IntKind.wrap .i64 ((IntKind.wrap .i64 (y1.1 + (x2.Key.length : Int))) + (x3.Text.length : Int)))), (4, vI (IntKind.wrap .i64 (y1.2 + 1)))] (by kernel_rfl) <| OWk.done (by kernel_rfl) ?_
      cases h
      exact ⟨((IntKind.wrap .i64 ((IntKind.wrap .i64 (y1.1 + (x2.Key.length : Int))) + (x3.Text.length : Int))), (IntKind.wrap .i64 (y1.2 + 1))), rfl, by kernel_rfl⟩
    · replace h := bif_f hc h
      refine SW.kp 37 H [0, 3] [(0, .d (.list 5 (List.map encNote p0))), (3, vI y1.1)] (by kernel_rfl) <| SW.exit <| thenS_e ?_
      cases h
      refine thenS_e ?_
      exact ⟨_, rfl, ⟨rfl, rfl⟩⟩
  · rintro _ _ ⟨rfl, rfl⟩
    refine blockS_hit <| thenS_n <| SW.seq <| SW.regionK <| OWk.sg 37 H [] [3, 30] 1 [(3, vI v5), (30, .d (.list 5 (List.map encNote p0)))] (by kernel_rfl) <| OWk.on 37 H (d := some 31) [3, 31] [(3, vI v5), (31, vI (p0.length : Int))] (BAt.len (enc := encNote) (xs := p0) (by kernel_rfl)) (by kernel_rfl) <| OWk.sg 37 H [] [3, 33] 2 [(3, vI v5), (33, vB (decide ((p0.length : Int) ≤ 60)))] (by kernel_rfl) <| OWk.mg 37 H [36] 3 (decide ((p0.length : Int) ≤ 60)) (fun b => (sp 37 [(3, vI v5), (33, vB b)] H)) (fun b => [(36, vB (b && (decide (v5 ≤ 6000))))]) (by kernel_rfl) (by kernel_rfl) (by kernel_rfl) <| OWk.sg 37 H [] [2] 1 [(2, vB ((decide ((p0.length : Int) ≤ 60)) && (decide (v5 ≤ 6000))))] (by kernel_rfl) <| OWk.done (by kernel_rfl) <| thenS_n <| SW.ret ?_
    cases h
    exact EndQ.ret [] (by kernel_rfl) rfl

structure Image where
  Key : (List UInt8)
  Has : Bool
  Text : (List UInt8)
  deriving DecidableEq, Inhabited

def encImage (x : Image) : D := .agg [.str x.Key, .bool x.Has, .str x.Text]

def r_image (fuel : Nat) (p0 : Image) : Option (Bool) :=
  bif (decide ((p0.Key.length : Int) ≥ 1)) then
    bif (decide ((p0.Key.length : Int) ≤ 40)) then
      bif (decide ((p0.Text.length : Int) ≤ 4000)) then
        bif p0.Has then
          some true
        else
          some (p0.Text == [])
      else
        some false
    else
      some false
  else
    some false

theorem r_image_ok {fuel : Nat} {p0 : Image} {r : Bool} (h : r_image fuel p0 = some r) : PC Try.prog 59 [.d (encImage p0)] (vB r) := by
  refine PC.of_SW Try.func59 rfl fun H => ?_
  unfold r_image at h
  refine SW.kp 28 H [0] [(0, .d (.agg [.str p0.Key, .bool p0.Has, .str p0.Text]))] (by kernel_rfl) <| SW.seq <| SW.regionK <| OWk.sg 28 H [] [1] 2 [(1, .box [vS p0.Key, vB p0.Has, vS p0.Text])] (by kernel_rfl) <| OWk.done (by kernel_rfl) <| thenS_n <| SW.seq <| SW.regionK <| OWk.sg 28 H [] [1, 4] 2 [(1, .box [vS p0.Key, vB p0.Has, vS p0.Text]), (4, vS p0.Key)] (by kernel_rfl) <| OWk.sg 28 H [] [1, 5] 1 [(1, .box [vS p0.Key, vB p0.Has, vS p0.Text]), (5, vI (p0.Key.length : Int))] (by kernel_rfl) <| OWk.sg 28 H [] [1, 7] 2 [(1, .box [vS p0.Key, vB p0.Has, vS p0.Text]), (7, vB (decide ((p0.Key.length : Int) ≥ 1)))] (by kernel_rfl) ?_
  refine OWk.case (decide ((p0.Key.length : Int) ≥ 1)) (fun b => (sp 28 [(1, .box [vS p0.Key, vB p0.Has, vS p0.Text]), (7, vB b)] H)) (by kernel_rfl) (fun hc => ?_) (fun hc => ?_)
  · replace h := bif_t hc h
    refine OWk.sg 28 H [] [1, 7, 9] 2 [(1, .box [vS p0.Key, vB p0.Has, vS p0.Text]), (7, vB true), (9, vS p0.Key)] (by kernel_rfl) <| OWk.sg 28 H [] [1, 7, 10] 1 [(1, .box [vS p0.Key, vB p0.Has, vS p0.Text]), (7, vB true), (10, vI (p0.Key.length : Int))] (by kernel_rfl) <| OWk.sg 28 H [] [1, 13] 3 [(1, .box [vS p0.Key, vB p0.Has, vS p0.Text]), (13, vB (decide ((p0.Key.length : Int) ≤ 40)))] (by kernel_rfl) ?_
    refine OWk.case (decide ((p0.Key.length : Int) ≤ 40)) (fun b => (sp 28 [(1, .box [vS p0.Key, vB p0.Has, vS p0.Text]), (13, vB b)] H)) (by kernel_rfl) (fun hc => ?_) (fun hc => ?_)
    · replace h := bif_t hc h
      refine OWk.sg 28 H [] [1, 13, 15] 2 [(1, .box [vS p0.Key, vB p0.Has, vS p0.Text]), (13, vB true), (15, vS p0.Text)] (by kernel_rfl) <| OWk.sg 28 H [] [1, 13, 16] 1 [(1, .box [vS p0.Key, vB p0.Has, vS p0.Text]), (13, vB true), (16, vI (p0.Text.length : Int))] (by kernel_rfl) <| OWk.sg 28 H [] [1, 19] 3 [(1, .box [vS p0.Key, vB p0.Has, vS p0.Text]), (19, vB (decide ((p0.Text.length : Int) ≤ 4000)))] (by kernel_rfl) ?_
      refine OWk.case (decide ((p0.Text.length : Int) ≤ 4000)) (fun b => (sp 28 [(1, .box [vS p0.Key, vB p0.Has, vS p0.Text]), (19, vB b)] H)) (by kernel_rfl) (fun hc => ?_) (fun hc => ?_)
      · replace h := bif_t hc h
        refine OWk.sg 28 H [] [1, 19, 22] 3 [(1, .box [vS p0.Key, vB p0.Has, vS p0.Text]), (19, vB true), (22, vB p0.Has)] (by kernel_rfl) ?_
        refine OWk.case p0.Has (fun b => (sp 28 [(1, .box [vS p0.Key, vB p0.Has, vS p0.Text]), (19, vB true), (22, vB b)] H)) (by kernel_rfl) (fun hc => ?_) (fun hc => ?_)
        · replace h := bif_t hc h
          refine OWk.sg 28 H [] [2] 6 [(2, vB true)] (by kernel_rfl) <| OWk.done (by kernel_rfl) <| thenS_n <| SW.ret ?_
          cases h
          exact EndQ.ret [] (by kernel_rfl) rfl
        · replace h := bif_f hc h
          refine OWk.sg 28 H [] [2] 6 [(2, vB (p0.Text == []))] (by kernel_rfl) <| OWk.done (by kernel_rfl) <| thenS_n <| SW.ret ?_
          cases h
          exact EndQ.ret [] (by kernel_rfl) rfl
      · replace h := bif_f hc h
        refine OWk.sg 28 H [] [2] 9 [(2, vB false)] (by kernel_rfl) <| OWk.done (by kernel_rfl) <| thenS_n <| SW.ret ?_
        cases h
        exact EndQ.ret [] (by kernel_rfl) rfl
    · replace h := bif_f hc h
      refine OWk.sg 28 H [] [2] 15 [(2, vB false)] (by kernel_rfl) <| OWk.done (by kernel_rfl) <| thenS_n <| SW.ret ?_
      cases h
      exact EndQ.ret [] (by kernel_rfl) rfl
  · replace h := bif_f hc h
    refine OWk.sg 28 H [] [2] 21 [(2, vB false)] (by kernel_rfl) <| OWk.done (by kernel_rfl) <| thenS_n <| SW.ret ?_
    cases h
    exact EndQ.ret [] (by kernel_rfl) rfl

def r_Valid (fuel : Nat) (p0 : Note) : Option (Bool) :=
  bif (p0.Kind == 6) then
    bif (((p0.Unit == 0) && (p0.Key == [])) && (!p0.Has)) then
      bif (decide ((p0.Text.length : Int) ≥ 1)) then
        some (decide ((p0.Text.length : Int) ≤ 40))
      else
        some false
    else
      some false
  else
    letJ (fun (j1 : Bool) =>
      bif j1 then
        bif ((decide (p0.Unit ≥ 1)) && (decide (p0.Unit ≤ 1000))) then
          (r_image fuel (⟨p0.Key, p0.Has, p0.Text⟩ : Image)).bind fun r3 =>
          some r3
        else
          some false
      else
        letJ (fun (j4 : Bool) =>
          bif j4 then
            some (((((decide (p0.Unit ≥ 1)) && (decide (p0.Unit ≤ 1000))) && (p0.Key == [])) && (!p0.Has)) && (p0.Text == []))
          else
            some false) fun jp5 =>
        bif (p0.Kind == 1) then
          jp5 true
        else
          bif (p0.Kind == 4) then
            jp5 true
          else
            bif (p0.Kind == 5) then
              jp5 true
            else
              jp5 (p0.Kind == 7)) fun jp2 =>
    bif (p0.Kind == 2) then
      jp2 true
    else
      jp2 (p0.Kind == 3)

theorem r_Valid_ok {fuel : Nat} {p0 : Note} {r : Bool} (h : r_Valid fuel p0 = some r) : PC Try.prog 28 [.d (encNote p0)] (vB r) := by
  refine PC.of_SW Try.func28 rfl fun H => ?_
  unfold r_Valid at h
  refine SW.kp 81 H [0] [(0, .d (.agg [.int .i64 p0.Kind, .int .i64 p0.Unit, .str p0.Key, .bool p0.Has, .str p0.Text]))] (by kernel_rfl) <| SW.seq <| SW.regionK <| OWk.sg 81 H [] [1] 2 [(1, .box [vI p0.Kind, vI p0.Unit, vS p0.Key, vB p0.Has, vS p0.Text])] (by kernel_rfl) <| OWk.done (by kernel_rfl) <| thenS_n <| SW.seq <| SW.seq <| SW.regionK <| OWk.sg 81 H [] [1, 4] 2 [(1, .box [vI p0.Kind, vI p0.Unit, vS p0.Key, vB p0.Has, vS p0.Text]), (4, vI p0.Kind)] (by kernel_rfl) <| OWk.done (by kernel_rfl) <| thenS_n <| SW.block <| SW.seq <| SW.regionK <| OWk.sg 81 H [] [1, 4, 5] 2 [(1, .box [vI p0.Kind, vI p0.Unit, vS p0.Key, vB p0.Has, vS p0.Text]), (4, vI p0.Kind), (5, vB (p0.Kind == 6))] (by kernel_rfl) <| OWk.done (by kernel_rfl) <| thenS_n ?_
  refine SW.condB (b := (p0.Kind == 6)) (by kernel_rfl) (fun hc => ?_) (fun hc => ?_)
  · replace h := bif_t hc h
    refine SW.seq <| SW.regionK <| OWk.sg 81 H [] [1, 10] 4 [(1, .box [vI p0.Kind, vI p0.Unit, vS p0.Key, vB p0.Has, vS p0.Text]), (10, vB (p0.Unit == 0))] (by kernel_rfl) <| OWk.mg 81 H [1, 14] 4 (p0.Unit == 0) (fun b => (sp 81 [(1, .box [vI p0.Kind, vI p0.Unit, vS p0.Key, vB p0.Has, vS p0.Text]), (10, vB b)] H)) (fun b => [(1, .box [vI p0.Kind, vI p0.Unit, vS p0.Key, vB p0.Has, vS p0.Text]), (14, vB (b && (p0.Key == [])))]) (by kernel_rfl) (by kernel_rfl) (by kernel_rfl) <| OWk.sg 81 H [] [1, 15] 1 [(1, .box [vI p0.Kind, vI p0.Unit, vS p0.Key, vB p0.Has, vS p0.Text]), (15, vB ((p0.Unit == 0) && (p0.Key == [])))] (by kernel_rfl) <| OWk.mg 81 H [1, 19] 4 ((p0.Unit == 0) && (p0.Key == [])) (fun b => (sp 81 [(1, .box [vI p0.Kind, vI p0.Unit, vS p0.Key, vB p0.Has, vS p0.Text]), (15, vB b)] H)) (fun b => [(1, .box [vI p0.Kind, vI p0.Unit, vS p0.Key, vB p0.Has, vS p0.Text]), (19, vB (b && (!p0.Has)))]) (by kernel_rfl) (by kernel_rfl) (by kernel_rfl) <| OWk.sg 81 H [] [1, 20] 1 [(1, .box [vI p0.Kind, vI p0.Unit, vS p0.Key, vB p0.Has, vS p0.Text]), (20, vB (((p0.Unit == 0) && (p0.Key == [])) && (!p0.Has)))] (by kernel_rfl) ?_
    refine OWk.case (((p0.Unit == 0) && (p0.Key == [])) && (!p0.Has)) (fun b => (sp 81 [(1, .box [vI p0.Kind, vI p0.Unit, vS p0.Key, vB p0.Has, vS p0.Text]), (20, vB b)] H)) (by kernel_rfl) (fun hc => ?_) (fun hc => ?_)
    · replace h := bif_t hc h
      refine OWk.sg 81 H [] [1, 20, 22] 2 [(1, .box [vI p0.Kind, vI p0.Unit, vS p0.Key, vB p0.Has, vS p0.Text]), (20, vB true), (22, vS p0.Text)] (by kernel_rfl) <| OWk.sg 81 H [] [1, 20, 23] 1 [(1, .box [vI p0.Kind, vI p0.Unit, vS p0.Key, vB p0.Has, vS p0.Text]), (20, vB true), (23, vI (p0.Text.length : Int))] (by kernel_rfl) <| OWk.sg 81 H [] [1, 26] 3 [(1, .box [vI p0.Kind, vI p0.Unit, vS p0.Key, vB p0.Has, vS p0.Text]), (26, vB (decide ((p0.Text.length : Int) ≥ 1)))] (by kernel_rfl) ?_
      refine OWk.case (decide ((p0.Text.length : Int) ≥ 1)) (fun b => (sp 81 [(1, .box [vI p0.Kind, vI p0.Unit, vS p0.Key, vB p0.Has, vS p0.Text]), (26, vB b)] H)) (by kernel_rfl) (fun hc => ?_) (fun hc => ?_)
      · replace h := bif_t hc h
        refine OWk.sg 81 H [] [26, 28] 2 [(26, vB true), (28, vS p0.Text)] (by kernel_rfl) <| OWk.sg 81 H [] [26, 29] 1 [(26, vB true), (29, vI (p0.Text.length : Int))] (by kernel_rfl) <| OWk.sg 81 H [] [2] 3 [(2, vB (decide ((p0.Text.length : Int) ≤ 40)))] (by kernel_rfl) <| OWk.done (by kernel_rfl) <| thenS_n <| SW.ret <| blockS_r <| thenS_r ?_
        cases h
        exact EndQ.ret [] (by kernel_rfl) rfl
      · replace h := bif_f hc h
        refine OWk.sg 81 H [] [2] 6 [(2, vB false)] (by kernel_rfl) <| OWk.done (by kernel_rfl) <| thenS_n <| SW.ret <| blockS_r <| thenS_r ?_
        cases h
        exact EndQ.ret [] (by kernel_rfl) rfl
    · replace h := bif_f hc h
      refine OWk.sg 81 H [] [2] 12 [(2, vB false)] (by kernel_rfl) <| OWk.done (by kernel_rfl) <| thenS_n <| SW.ret <| blockS_r <| thenS_r ?_
      cases h
      exact EndQ.ret [] (by kernel_rfl) rfl
  · replace h := bif_f hc h
    obtain ⟨jp2, hjjp2, h⟩ := letJ_inv h
    refine SW.jn 81 H [1, 4, 32] (fun (j1 : Bool) => [(1, .box [vI p0.Kind, vI p0.Unit, vS p0.Key, vB p0.Has, vS p0.Text]), (4, vI p0.Kind), (32, vB j1)]) (fun v => jp2 v = some r) (fun j1 h => ?_) ?_
    · rw [hjjp2] at h
      refine SW.condB (b := j1) (by kernel_rfl) (fun hc => ?_) (fun hc => ?_)
      · replace h := bif_t hc h
        refine SW.seq <| SW.regionK <| OWk.sg 81 H [] [1, 38] 4 [(1, .box [vI p0.Kind, vI p0.Unit, vS p0.Key, vB p0.Has, vS p0.Text]), (38, vB (decide (p0.Unit ≥ 1)))] (by kernel_rfl) <| OWk.mg 81 H [1, 42] 4 (decide (p0.Unit ≥ 1)) (fun b => (sp 81 [(1, .box [vI p0.Kind, vI p0.Unit, vS p0.Key, vB p0.Has, vS p0.Text]), (38, vB b)] H)) (fun b => [(1, .box [vI p0.Kind, vI p0.Unit, vS p0.Key, vB p0.Has, vS p0.Text]), (42, vB (b && (decide (p0.Unit ≤ 1000))))]) (by kernel_rfl) (by kernel_rfl) (by kernel_rfl) <| OWk.sg 81 H [] [1, 43] 1 [(1, .box [vI p0.Kind, vI p0.Unit, vS p0.Key, vB p0.Has, vS p0.Text]), (43, vB ((decide (p0.Unit ≥ 1)) && (decide (p0.Unit ≤ 1000))))] (by kernel_rfl) ?_
        refine OWk.case ((decide (p0.Unit ≥ 1)) && (decide (p0.Unit ≤ 1000))) (fun b => (sp 81 [(1, .box [vI p0.Kind, vI p0.Unit, vS p0.Key, vB p0.Has, vS p0.Text]), (43, vB b)] H)) (by kernel_rfl) (fun hc => ?_) (fun hc => ?_)
        · replace h := bif_t hc h
          refine OWk.sg 81 H [] [43, 50] 7 [(43, vB true), (50, .d (.agg [.str p0.Key, .bool p0.Has, .str p0.Text]))] (by kernel_rfl) ?_
          obtain ⟨r3, hr, h⟩ := bind_inv h
          refine OWk.cl 81 H (d := some 51) (ls := []) (gs := []) [] [43, 51] [(43, vB true), (51, vB r3)] (r_image_ok hr) (by kernel_rfl) (by kernel_rfl) (by kernel_rfl) <| OWk.sg 81 H [] [2] 2 [(2, vB r3)] (by kernel_rfl) <| OWk.done (by kernel_rfl) <| thenS_n <| SW.ret <| blockS_r <| thenS_r ?_
          cases h
          exact EndQ.ret [] (by kernel_rfl) rfl
        · replace h := bif_f hc h
          refine OWk.sg 81 H [] [2] 10 [(2, vB false)] (by kernel_rfl) <| OWk.done (by kernel_rfl) <| thenS_n <| SW.ret <| blockS_r <| thenS_r ?_
          cases h
          exact EndQ.ret [] (by kernel_rfl) rfl
      · replace h := bif_f hc h
        obtain ⟨jp5, hjjp5, h⟩ := letJ_inv h
        refine SW.jn 81 H [1, 53] (fun (j4 : Bool) => [(1, .box [vI p0.Kind, vI p0.Unit, vS p0.Key, vB p0.Has, vS p0.Text]), (53, vB j4)]) (fun v => jp5 v = some r) (fun j4 h => ?_) ?_
        · rw [hjjp5] at h
          refine SW.condB (b := j4) (by kernel_rfl) (fun hc => ?_) (fun hc => ?_)
          · replace h := bif_t hc h
            refine SW.seq <| SW.regionK <| OWk.sg 81 H [] [1, 61] 4 [(1, .box [vI p0.Kind, vI p0.Unit, vS p0.Key, vB p0.Has, vS p0.Text]), (61, vB (decide (p0.Unit ≥ 1)))] (by kernel_rfl) <| OWk.mg 81 H [1, 65] 4 (decide (p0.Unit ≥ 1)) (fun b => (sp 81 [(1, .box [vI p0.Kind, vI p0.Unit, vS p0.Key, vB p0.Has, vS p0.Text]), (61, vB b)] H)) (fun b => [(1, .box [vI p0.Kind, vI p0.Unit, vS p0.Key, vB p0.Has, vS p0.Text]), (65, vB (b && (decide (p0.Unit ≤ 1000))))]) (by kernel_rfl) (by kernel_rfl) (by kernel_rfl) <| OWk.sg 81 H [] [1, 66] 1 [(1, .box [vI p0.Kind, vI p0.Unit, vS p0.Key, vB p0.Has, vS p0.Text]), (66, vB ((decide (p0.Unit ≥ 1)) && (decide (p0.Unit ≤ 1000))))] (by kernel_rfl) <| OWk.mg 81 H [1, 70] 4 ((decide (p0.Unit ≥ 1)) && (decide (p0.Unit ≤ 1000))) (fun b => (sp 81 [(1, .box [vI p0.Kind, vI p0.Unit, vS p0.Key, vB p0.Has, vS p0.Text]), (66, vB b)] H)) (fun b => [(1, .box [vI p0.Kind, vI p0.Unit, vS p0.Key, vB p0.Has, vS p0.Text]), (70, vB (b && (p0.Key == [])))]) (by kernel_rfl) (by kernel_rfl) (by kernel_rfl) <| OWk.sg 81 H [] [1, 71] 1 [(1, .box [vI p0.Kind, vI p0.Unit, vS p0.Key, vB p0.Has, vS p0.Text]), (71, vB (((decide (p0.Unit ≥ 1)) && (decide (p0.Unit ≤ 1000))) && (p0.Key == [])))] (by kernel_rfl) <| OWk.mg 81 H [1, 75] 4 (((decide (p0.Unit ≥ 1)) && (decide (p0.Unit ≤ 1000))) && (p0.Key == [])) (fun b => (sp 81 [(1, .box [vI p0.Kind, vI p0.Unit, vS p0.Key, vB p0.Has, vS p0.Text]), (71, vB b)] H)) (fun b => [(1, .box [vI p0.Kind, vI p0.Unit, vS p0.Key, vB p0.Has, vS p0.Text]), (75, vB (b && (!p0.Has)))]) (by kernel_rfl) (by kernel_rfl) (by kernel_rfl) <| OWk.sg 81 H [] [1, 76] 1 [(1, .box [vI p0.Kind, vI p0.Unit, vS p0.Key, vB p0.Has, vS p0.Text]), (76, vB ((((decide (p0.Unit ≥ 1)) && (decide (p0.Unit ≤ 1000))) && (p0.Key == [])) && (!p0.Has)))] (by kernel_rfl) <| OWk.mg 81 H [80] 4 ((((decide (p0.Unit ≥ 1)) && (decide (p0.Unit ≤ 1000))) && (p0.Key == [])) && (!p0.Has)) (fun b => (sp 81 [(1, .box [vI p0.Kind, vI p0.Unit, vS p0.Key, vB p0.Has, vS p0.Text]), (76, vB b)] H)) (fun b => [(80, vB (b && (p0.Text == [])))]) (by kernel_rfl) (by kernel_rfl) (by kernel_rfl) <| OWk.sg 81 H [] [2] 1 [(2, vB (((((decide (p0.Unit ≥ 1)) && (decide (p0.Unit ≤ 1000))) && (p0.Key == [])) && (!p0.Has)) && (p0.Text == [])))] (by kernel_rfl) <| OWk.done (by kernel_rfl) <| thenS_n <| SW.ret <| blockS_r <| thenS_r ?_
            cases h
            exact EndQ.ret [] (by kernel_rfl) rfl
          · replace h := bif_f hc h
            refine SW.skip <| blockS_n <| thenS_n <| SW.seq <| SW.regionK <| OWk.sg 81 H [] [2] 1 [(2, vB false)] (by kernel_rfl) <| OWk.done (by kernel_rfl) <| thenS_n <| SW.ret ?_
            cases h
            exact EndQ.ret [] (by kernel_rfl) rfl
        · refine SW.seq <| SW.regionK <| OWk.sg 81 H [] [1, 4, 53] 2 [(1, .box [vI p0.Kind, vI p0.Unit, vS p0.Key, vB p0.Has, vS p0.Text]), (4, vI p0.Kind), (53, vB (p0.Kind == 1))] (by kernel_rfl) <| OWk.done (by kernel_rfl) <| thenS_n ?_
          refine SW.case (p0.Kind == 1) (fun b => (sp 81 [(1, .box [vI p0.Kind, vI p0.Unit, vS p0.Key, vB p0.Has, vS p0.Text]), (4, vI p0.Kind), (53, vB b)] H)) (by kernel_rfl) (fun hc => ?_) (fun hc => ?_)
          · replace h := bif_t hc h
            refine SW.condT (by kernel_rfl) <| SW.skip ?_
            exact ⟨true, [], by kernel_rfl, h⟩
          · replace h := bif_f hc h
            refine SW.condF (by kernel_rfl) <| SW.seq <| SW.regionK <| OWk.sg 81 H [] [1, 4, 53] 2 [(1, .box [vI p0.Kind, vI p0.Unit, vS p0.Key, vB p0.Has, vS p0.Text]), (4, vI p0.Kind), (53, vB (p0.Kind == 4))] (by kernel_rfl) <| OWk.done (by kernel_rfl) <| thenS_n ?_
            refine SW.case (p0.Kind == 4) (fun b => (sp 81 [(1, .box [vI p0.Kind, vI p0.Unit, vS p0.Key, vB p0.Has, vS p0.Text]), (4, vI p0.Kind), (53, vB b)] H)) (by kernel_rfl) (fun hc => ?_) (fun hc => ?_)
            · replace h := bif_t hc h
              refine SW.condT (by kernel_rfl) <| SW.skip ?_
              exact ⟨true, [], by kernel_rfl, h⟩
            · replace h := bif_f hc h
              refine SW.condF (by kernel_rfl) <| SW.seq <| SW.regionK <| OWk.sg 81 H [] [1, 4, 53] 2 [(1, .box [vI p0.Kind, vI p0.Unit, vS p0.Key, vB p0.Has, vS p0.Text]), (4, vI p0.Kind), (53, vB (p0.Kind == 5))] (by kernel_rfl) <| OWk.done (by kernel_rfl) <| thenS_n ?_
              refine SW.case (p0.Kind == 5) (fun b => (sp 81 [(1, .box [vI p0.Kind, vI p0.Unit, vS p0.Key, vB p0.Has, vS p0.Text]), (4, vI p0.Kind), (53, vB b)] H)) (by kernel_rfl) (fun hc => ?_) (fun hc => ?_)
              · replace h := bif_t hc h
                refine SW.condT (by kernel_rfl) <| SW.skip ?_
                exact ⟨true, [], by kernel_rfl, h⟩
              · replace h := bif_f hc h
                refine SW.condF (by kernel_rfl) <| SW.regionK <| OWk.sg 81 H [] [1, 53] 2 [(1, .box [vI p0.Kind, vI p0.Unit, vS p0.Key, vB p0.Has, vS p0.Text]), (53, vB (p0.Kind == 7))] (by kernel_rfl) <| OWk.done (by kernel_rfl) ?_
                exact ⟨(p0.Kind == 7), [], by kernel_rfl, h⟩
    · refine SW.seq <| SW.regionK <| OWk.sg 81 H [] [1, 4, 32] 2 [(1, .box [vI p0.Kind, vI p0.Unit, vS p0.Key, vB p0.Has, vS p0.Text]), (4, vI p0.Kind), (32, vB (p0.Kind == 2))] (by kernel_rfl) <| OWk.done (by kernel_rfl) <| thenS_n ?_
      refine SW.case (p0.Kind == 2) (fun b => (sp 81 [(1, .box [vI p0.Kind, vI p0.Unit, vS p0.Key, vB p0.Has, vS p0.Text]), (4, vI p0.Kind), (32, vB b)] H)) (by kernel_rfl) (fun hc => ?_) (fun hc => ?_)
      · replace h := bif_t hc h
        refine SW.condT (by kernel_rfl) <| SW.skip ?_
        exact ⟨true, [], by kernel_rfl, h⟩
      · replace h := bif_f hc h
        refine SW.condF (by kernel_rfl) <| SW.regionK <| OWk.sg 81 H [] [1, 4, 32] 2 [(1, .box [vI p0.Kind, vI p0.Unit, vS p0.Key, vB p0.Has, vS p0.Text]), (4, vI p0.Kind), (32, vB (p0.Kind == 3))] (by kernel_rfl) <| OWk.done (by kernel_rfl) ?_
        exact ⟨(p0.Kind == 3), [], by kernel_rfl, h⟩

def r_notes_l1 (fuel : Nat) (p0 : (List Note)) (y1 : Int) : Option ((Int) ⊕ ((Unit) ⊕ ((Bool)))) :=
  bif (decide (y1 < (p0.length : Int))) then
    (idx p0 y1).bind fun x2 =>
    (r_Valid fuel x2).bind fun r3 =>
    bif (!r3) then
      some (.inr (.inr false))
    else
      some (.inl (IntKind.wrap .i64 (y1 + 1)))
  else
    some (.inr (.inl ()))

def r_notes (fuel : Nat) (p0 : (List Note)) : Option (Bool) :=
  (iter (r_notes_l1 fuel p0) fuel 0).bind (Sum.elim (fun v5 =>
    some (decide ((p0.length : Int) ≤ 1000))) (fun r6 =>
    some r6))

theorem r_notes_ok {fuel : Nat} {p0 : (List Note)} {r : Bool} (h : r_notes fuel p0 = some r) : PC Try.prog 56 [.d (.list 5 (List.map encNote p0))] (vB r) := by
  refine PC.of_SW Try.func56 rfl fun H => ?_
  unfold r_notes at h
  refine SW.kp 19 H [0] [(0, .d (.list 5 (List.map encNote p0)))] (by kernel_rfl) <| SW.seq <| SW.regionK <| OWk.sg 19 H [] [0] 1 [(0, .d (.list 5 (List.map encNote p0)))] (by kernel_rfl) <| OWk.done (by kernel_rfl) <| thenS_n <| SW.seq <| SW.seq <| SW.regionK <| OWk.sg 19 H [] [0, 3] 1 [(0, .d (.list 5 (List.map encNote p0))), (3, vI 0)] (by kernel_rfl) <| OWk.done (by kernel_rfl) <| thenS_n <| SW.block ?_
  obtain ⟨z4, hit, h⟩ := bind_inv h
  refine SW.it 19 H [0, 3] (fun y1 => [(0, .d (.list 5 (List.map encNote p0))), (3, vI y1)]) (fun b e s => ((∃ v5, b = (.inl v5) ∧ (e = .exit 0 ∧ s = (sp 19 [(0, .d (.list 5 (List.map encNote p0)))] H))) ∨ (∃ r6, b = (.inr r6) ∧ (e = .ret ∧ EndQ Try.prog Try.f56.results.toList H (vB r6) .ret s)))) hit (by kernel_rfl) (fun y1 o h => ?_) ?_
  · unfold r_notes_l1 at h
    refine SW.seq <| SW.seq <| SW.regionK <| OWk.sg 19 H [] [0, 3, 4, 5] 2 [(0, .d (.list 5 (List.map encNote p0))), (3, vI y1), (4, vI y1), (5, .d (.list 5 (List.map encNote p0)))] (by kernel_rfl) <| OWk.on 19 H (d := some 6) [0, 3, 4, 6] [(0, .d (.list 5 (List.map encNote p0))), (3, vI y1), (4, vI y1), (6, vI (p0.length : Int))] (BAt.len (enc := encNote) (xs := p0) (by kernel_rfl)) (by kernel_rfl) <| OWk.sg 19 H [] [0, 3, 7] 1 [(0, .d (.list 5 (List.map encNote p0))), (3, vI y1), (7, vB (decide (y1 < (p0.length : Int))))] (by kernel_rfl) <| OWk.done (by kernel_rfl) <| thenS_n ?_
    refine SW.condB (b := (decide (y1 < (p0.length : Int)))) (by kernel_rfl) (fun hc => ?_) (fun hc => ?_)
    · replace h := bif_t hc h
      refine SW.skip <| thenS_n <| SW.seq <| SW.block <| SW.seq <| SW.regionK <| OWk.sg 19 H [] [0, 3, 10, 11] 2 [(0, .d (.list 5 (List.map encNote p0))), (3, vI y1), (10, .d (.list 5 (List.map encNote p0))), (11, vI y1)] (by kernel_rfl) ?_
      obtain ⟨x2, hx, h⟩ := bind_inv h
      refine OWk.on 19 H (d := some 12) (s := lendP none (Go.Sh.D.cells (encNote x2))) [0, 3, 12] [(0, .d (.list 5 (List.map encNote p0))), (3, vI y1), (12, .d (.dptr [.int .i64 x2.Kind, .int .i64 x2.Unit, .str x2.Key, .bool x2.Has, .str x2.Text]))] (BAt.index (n := 5) hx (by kernel_rfl)) (by kernel_rfl) <| OWk.sg 19 H [] [0, 3, 13] 1 [(0, .d (.list 5 (List.map encNote p0))), (3, vI y1), (13, .d (.agg [.int .i64 x2.Kind, .int .i64 x2.Unit, .str x2.Key, .bool x2.Has, .str x2.Text]))] (by kernel_rfl) ?_
      obtain ⟨r3, hr, h⟩ := bind_inv h
      refine OWk.cl 19 H (d := some 14) (ls := []) (gs := []) [] [0, 3, 14] [(0, .d (.list 5 (List.map encNote p0))), (3, vI y1), (14, vB r3)] (r_Valid_ok hr) (by kernel_rfl) (by kernel_rfl) (by kernel_rfl) <| OWk.sg 19 H [] [0, 3, 15] 1 [(0, .d (.list 5 (List.map encNote p0))), (3, vI y1), (15, vB (!r3))] (by kernel_rfl) <| OWk.done (by kernel_rfl) <| thenS_n ?_
      refine SW.condB (b := (!r3)) (by kernel_rfl) (fun hc => ?_) (fun hc => ?_)
      · replace h := bif_t hc h
        refine SW.seq <| SW.regionK <| OWk.sg 19 H [] [2] 1 [(2, vB false)] (by kernel_rfl) <| OWk.done (by kernel_rfl) <| thenS_n <| SW.ret <| blockS_r <| thenS_r ?_
        cases h
        refine thenS_r ?_
        exact ⟨_, rfl, .inr (⟨false, rfl, rfl, EndQ.ret [] (by kernel_rfl) rfl⟩)⟩
      · replace h := bif_f hc h
        refine SW.skip <| blockS_n <| thenS_n <| SW.regionK <| OWk.sg 19 H [] [0, 3] 3 [(0, .d (.list 5 (List.map encNote p0))), (3, vI (IntKind.wrap .i64 (y1 + 1)))] (by kernel_rfl) <| OWk.done (by kernel_rfl) ?_
        cases h
        exact ⟨(IntKind.wrap .i64 (y1 + 1)), rfl, by kernel_rfl⟩
    · replace h := bif_f hc h
      refine SW.kp 19 H [0] [(0, .d (.list 5 (List.map encNote p0)))] (by kernel_rfl) <| SW.exit <| thenS_e ?_
      cases h
      refine thenS_e ?_
      exact ⟨_, rfl, .inl ⟨(), rfl, rfl, rfl⟩⟩
  · rintro _ _ (⟨v5, rfl, rfl, rfl⟩ | ⟨r6, rfl, rfl, hE⟩)
    · replace h := sum_l h
      refine blockS_hit <| thenS_n <| SW.seq <| SW.regionK <| OWk.sg 19 H [] [16] 1 [(16, .d (.list 5 (List.map encNote p0)))] (by kernel_rfl) <| OWk.on 19 H (d := some 17) [17] [(17, vI (p0.length : Int))] (BAt.len (enc := encNote) (xs := p0) (by kernel_rfl)) (by kernel_rfl) <| OWk.sg 19 H [] [2] 2 [(2, vB (decide ((p0.length : Int) ≤ 1000)))] (by kernel_rfl) <| OWk.done (by kernel_rfl) <| thenS_n <| SW.ret ?_
      cases h
      exact EndQ.ret [] (by kernel_rfl) rfl
    · replace h := sum_r h
      refine blockS_r <| thenS_r ?_
      cases h
      exact hE

def r_since_l1 (fuel : Nat) (p0 : (List Note)) (p1 : Int) (p2 : Int) (y1 : Int × Int) : Option ((Int × Int) ⊕ (Int)) :=
  bif (decide (y1.2 < p1)) then
    letJ (fun (j2 : Bool) =>
      bif j2 then
        some (.inl (y1.1, (IntKind.wrap .i64 (y1.2 + 1))))
      else
        (idx p0 y1.2).bind fun x6 =>
        bif (x6.Kind == 1) then
          some (.inl (y1.2, (IntKind.wrap .i64 (y1.2 + 1))))
        else
          bif (x6.Kind == 4) then
            some (.inl (y1.2, (IntKind.wrap .i64 (y1.2 + 1))))
          else
            bif (x6.Kind == 5) then
              some (.inl ((-1), (IntKind.wrap .i64 (y1.2 + 1))))
            else
              bif (x6.Kind == 7) then
                some (.inl ((-1), (IntKind.wrap .i64 (y1.2 + 1))))
              else
                some (.inl (y1.1, (IntKind.wrap .i64 (y1.2 + 1))))) fun jp3 =>
    (idx p0 y1.2).bind fun x4 =>
    bif (x4.Unit != p2) then
      jp3 true
    else
      (idx p0 y1.2).bind fun x5 =>
      jp3 (x5.Kind == 6)
  else
    some (.inr y1.1)

def r_since (fuel : Nat) (p0 : (List Note)) (p1 : Int) (p2 : Int) : Option (Int) :=
  (iter (r_since_l1 fuel p0 p1 p2) fuel ((-1), 0)).bind fun v8 =>
  some v8

theorem r_since_ok {fuel : Nat} {p0 : (List Note)} {p1 : Int} {p2 : Int} {r : Int} (h : r_since fuel p0 p1 p2 = some r) : PC Try.prog 35 [.d (.list 5 (List.map encNote p0)), vI p1, vI p2] (vI r) := by
  refine PC.of_SW Try.func35 rfl fun H => ?_
  unfold r_since at h
  refine SW.kp 42 H [0, 1, 2] [(0, .d (.list 5 (List.map encNote p0))), (1, vI p1), (2, vI p2)] (by kernel_rfl) <| SW.seq <| SW.regionK <| OWk.sg 42 H [] [0, 1, 2] 1 [(0, .d (.list 5 (List.map encNote p0))), (1, vI p1), (2, vI p2)] (by kernel_rfl) <| OWk.done (by kernel_rfl) <| thenS_n <| SW.seq <| SW.regionK <| OWk.sg 42 H [] [0, 1, 2, 7] 1 [(0, .d (.list 5 (List.map encNote p0))), (1, vI p1), (2, vI p2), (7, vI (-1))] (by kernel_rfl) <| OWk.done (by kernel_rfl) <| thenS_n <| SW.seq <| SW.seq <| SW.regionK <| OWk.sg 42 H [] [0, 1, 2, 7, 8] 1 [(0, .d (.list 5 (List.map encNote p0))), (1, vI p1), (2, vI p2), (7, vI (-1)), (8, vI 0)] (by kernel_rfl) <| OWk.done (by kernel_rfl) <| thenS_n <| SW.block ?_
  obtain ⟨v8, hit, h⟩ := bind_inv h
  refine SW.it 42 H [0, 1, 2, 7, 8] (fun y1 => [(0, .d (.list 5 (List.map encNote p0))), (1, vI p1), (2, vI p2), (7, vI y1.1), (8, vI y1.2)]) (fun v8 e s => (e = .exit 0 ∧ s = (sp 42 [(7, vI v8)] H))) hit (by kernel_rfl) (fun y1 o h => ?_) ?_
  · unfold r_since_l1 at h
    refine SW.seq <| SW.seq <| SW.regionK <| OWk.sg 42 H [] [0, 1, 2, 7, 8, 11] 3 [(0, .d (.list 5 (List.map encNote p0))), (1, vI p1), (2, vI p2), (7, vI y1.1), (8, vI y1.2), (11, vB (decide (y1.2 < p1)))] (by kernel_rfl) <| OWk.done (by kernel_rfl) <| thenS_n ?_
    refine SW.condB (b := (decide (y1.2 < p1))) (by kernel_rfl) (fun hc => ?_) (fun hc => ?_)
    · replace h := bif_t hc h
      refine SW.skip <| thenS_n <| SW.seq <| SW.block <| SW.seq ?_
      obtain ⟨jp3, hjjp3, h⟩ := letJ_inv h
      refine SW.jn 42 H [0, 1, 2, 7, 8, 28] (fun (j2 : Bool) => [(0, .d (.list 5 (List.map encNote p0))), (1, vI p1), (2, vI p2), (7, vI y1.1), (8, vI y1.2), (28, vB j2)]) (fun v => jp3 v = some o) (fun j2 h => ?_) ?_
      · rw [hjjp3] at h
        refine SW.condB (b := j2) (by kernel_rfl) (fun hc => ?_) (fun hc => ?_)
        · replace h := bif_t hc h
          refine SW.exit <| thenS_e <| blockS_hit <| thenS_n <| SW.regionK <| OWk.sg 42 H [] [0, 1, 2, 7, 8] 3 [(0, .d (.list 5 (List.map encNote p0))), (1, vI p1), (2, vI p2), (7, vI y1.1), (8, vI (IntKind.wrap .i64 (y1.2 + 1)))] (by kernel_rfl) <| OWk.done (by kernel_rfl) ?_
          cases h
          exact ⟨(y1.1, (IntKind.wrap .i64 (y1.2 + 1))), rfl, by kernel_rfl⟩
        · replace h := bif_f hc h
          refine SW.skip <| thenS_n <| SW.seq <| SW.regionK <| OWk.sg 42 H [] [0, 1, 2, 7, 8, 29, 30] 2 [(0, .d (.list 5 (List.map encNote p0))), (1, vI p1), (2, vI p2), (7, vI y1.1), (8, vI y1.2), (29, .d (.list 5 (List.map encNote p0))), (30, vI y1.2)] (by kernel_rfl) ?_
          obtain ⟨x6, hx, h⟩ := bind_inv h
          refine OWk.on 42 H (d := some 31) (s := lendP none (Go.Sh.D.cells (encNote x6))) [0, 1, 2, 7, 8, 31] [(0, .d (.list 5 (List.map encNote p0))), (1, vI p1), (2, vI p2), (7, vI y1.1), (8, vI y1.2), (31, .d (.dptr [.int .i64 x6.Kind, .int .i64 x6.Unit, .str x6.Key, .bool x6.Has, .str x6.Text]))] (BAt.index (n := 5) hx (by kernel_rfl)) (by kernel_rfl) <| OWk.sg 42 H [] [0, 1, 2, 7, 8, 33] 2 [(0, .d (.list 5 (List.map encNote p0))), (1, vI p1), (2, vI p2), (7, vI y1.1), (8, vI y1.2), (33, vI x6.Kind)] (by kernel_rfl) <| OWk.done (by kernel_rfl) <| thenS_n <| SW.block <| SW.seq <| SW.seq <| SW.regionK <| OWk.sg 42 H [] [0, 1, 2, 7, 8, 33, 34] 2 [(0, .d (.list 5 (List.map encNote p0))), (1, vI p1), (2, vI p2), (7, vI y1.1), (8, vI y1.2), (33, vI x6.Kind), (34, vB (x6.Kind == 1))] (by kernel_rfl) <| OWk.done (by kernel_rfl) <| thenS_n ?_
          refine SW.case (x6.Kind == 1) (fun b => (sp 42 [(0, .d (.list 5 (List.map encNote p0))), (1, vI p1), (2, vI p2), (7, vI y1.1), (8, vI y1.2), (33, vI x6.Kind), (34, vB b)] H)) (by kernel_rfl) (fun hc => ?_) (fun hc => ?_)
          · replace h := bif_t hc h
            refine SW.condT (by kernel_rfl) <| SW.skip <| thenS_n <| SW.condT (by kernel_rfl) <| SW.regionK <| OWk.sg 42 H [] [0, 1, 2, 7, 8] 2 [(0, .d (.list 5 (List.map encNote p0))), (1, vI p1), (2, vI p2), (7, vI y1.2), (8, vI y1.2)] (by kernel_rfl) <| OWk.done (by kernel_rfl) <| blockS_n <| blockS_n <| thenS_n <| SW.regionK <| OWk.sg 42 H [] [0, 1, 2, 7, 8] 3 [(0, .d (.list 5 (List.map encNote p0))), (1, vI p1), (2, vI p2), (7, vI y1.2), (8, vI (IntKind.wrap .i64 (y1.2 + 1)))] (by kernel_rfl) <| OWk.done (by kernel_rfl) ?_
            cases h
            exact ⟨(y1.2, (IntKind.wrap .i64 (y1.2 + 1))), rfl, by kernel_rfl⟩
          · replace h := bif_f hc h
            refine SW.condF (by kernel_rfl) <| SW.regionK <| OWk.sg 42 H [] [0, 1, 2, 7, 8, 33, 34] 2 [(0, .d (.list 5 (List.map encNote p0))), (1, vI p1), (2, vI p2), (7, vI y1.1), (8, vI y1.2), (33, vI x6.Kind), (34, vB (x6.Kind == 4))] (by kernel_rfl) <| OWk.done (by kernel_rfl) <| thenS_n ?_
            refine SW.condB (b := (x6.Kind == 4)) (by kernel_rfl) (fun hc => ?_) (fun hc => ?_)
            · replace h := bif_t hc h
              refine SW.regionK <| OWk.sg 42 H [] [0, 1, 2, 7, 8] 2 [(0, .d (.list 5 (List.map encNote p0))), (1, vI p1), (2, vI p2), (7, vI y1.2), (8, vI y1.2)] (by kernel_rfl) <| OWk.done (by kernel_rfl) <| blockS_n <| blockS_n <| thenS_n <| SW.regionK <| OWk.sg 42 H [] [0, 1, 2, 7, 8] 3 [(0, .d (.list 5 (List.map encNote p0))), (1, vI p1), (2, vI p2), (7, vI y1.2), (8, vI (IntKind.wrap .i64 (y1.2 + 1)))] (by kernel_rfl) <| OWk.done (by kernel_rfl) ?_
              cases h
              exact ⟨(y1.2, (IntKind.wrap .i64 (y1.2 + 1))), rfl, by kernel_rfl⟩
            · replace h := bif_f hc h
              refine SW.seq <| SW.seq <| SW.regionK <| OWk.sg 42 H [] [0, 1, 2, 7, 8, 33, 38] 2 [(0, .d (.list 5 (List.map encNote p0))), (1, vI p1), (2, vI p2), (7, vI y1.1), (8, vI y1.2), (33, vI x6.Kind), (38, vB (x6.Kind == 5))] (by kernel_rfl) <| OWk.done (by kernel_rfl) <| thenS_n ?_
              refine SW.case (x6.Kind == 5) (fun b => (sp 42 [(0, .d (.list 5 (List.map encNote p0))), (1, vI p1), (2, vI p2), (7, vI y1.1), (8, vI y1.2), (33, vI x6.Kind), (38, vB b)] H)) (by kernel_rfl) (fun hc => ?_) (fun hc => ?_)
              · replace h := bif_t hc h
                refine SW.condT (by kernel_rfl) <| SW.skip <| thenS_n <| SW.condT (by kernel_rfl) <| SW.regionK <| OWk.sg 42 H [] [0, 1, 2, 7, 8] 1 [(0, .d (.list 5 (List.map encNote p0))), (1, vI p1), (2, vI p2), (7, vI (-1)), (8, vI y1.2)] (by kernel_rfl) <| OWk.done (by kernel_rfl) <| blockS_n <| blockS_n <| thenS_n <| SW.regionK <| OWk.sg 42 H [] [0, 1, 2, 7, 8] 3 [(0, .d (.list 5 (List.map encNote p0))), (1, vI p1), (2, vI p2), (7, vI (-1)), (8, vI (IntKind.wrap .i64 (y1.2 + 1)))] (by kernel_rfl) <| OWk.done (by kernel_rfl) ?_
                cases h
                exact ⟨((-1), (IntKind.wrap .i64 (y1.2 + 1))), rfl, by kernel_rfl⟩
              · replace h := bif_f hc h
                refine SW.condF (by kernel_rfl) <| SW.regionK <| OWk.sg 42 H [] [0, 1, 2, 7, 8, 38] 2 [(0, .d (.list 5 (List.map encNote p0))), (1, vI p1), (2, vI p2), (7, vI y1.1), (8, vI y1.2), (38, vB (x6.Kind == 7))] (by kernel_rfl) <| OWk.done (by kernel_rfl) <| thenS_n ?_
                refine SW.condB (b := (x6.Kind == 7)) (by kernel_rfl) (fun hc => ?_) (fun hc => ?_)
                · replace h := bif_t hc h
                  refine SW.regionK <| OWk.sg 42 H [] [0, 1, 2, 7, 8] 1 [(0, .d (.list 5 (List.map encNote p0))), (1, vI p1), (2, vI p2), (7, vI (-1)), (8, vI y1.2)] (by kernel_rfl) <| OWk.done (by kernel_rfl) <| blockS_n <| blockS_n <| thenS_n <| SW.regionK <| OWk.sg 42 H [] [0, 1, 2, 7, 8] 3 [(0, .d (.list 5 (List.map encNote p0))), (1, vI p1), (2, vI p2), (7, vI (-1)), (8, vI (IntKind.wrap .i64 (y1.2 + 1)))] (by kernel_rfl) <| OWk.done (by kernel_rfl) ?_
                  cases h
                  exact ⟨((-1), (IntKind.wrap .i64 (y1.2 + 1))), rfl, by kernel_rfl⟩
                · replace h := bif_f hc h
                  refine SW.skip <| blockS_n <| blockS_n <| thenS_n <| SW.regionK <| OWk.sg 42 H [] [0, 1, 2, 7, 8] 3 [(0, .d (.list 5 (List.map encNote p0))), (1, vI p1), (2, vI p2), (7, vI y1.1), (8, vI (IntKind.wrap .i64 (y1.2 + 1)))] (by kernel_rfl) <| OWk.done (by kernel_rfl) ?_
                  cases h
                  exact ⟨(y1.1, (IntKind.wrap .i64 (y1.2 + 1))), rfl, by kernel_rfl⟩
      · refine SW.regionK <| OWk.sg 42 H [] [0, 1, 2, 7, 8, 14, 15] 2 [(0, .d (.list 5 (List.map encNote p0))), (1, vI p1), (2, vI p2), (7, vI y1.1), (8, vI y1.2), (14, .d (.list 5 (List.map encNote p0))), (15, vI y1.2)] (by kernel_rfl) ?_
        obtain ⟨x4, hx, h⟩ := bind_inv h
        refine OWk.on 42 H (d := some 16) (s := lendP none (Go.Sh.D.cells (encNote x4))) [0, 1, 2, 7, 8, 16] [(0, .d (.list 5 (List.map encNote p0))), (1, vI p1), (2, vI p2), (7, vI y1.1), (8, vI y1.2), (16, .d (.dptr [.int .i64 x4.Kind, .int .i64 x4.Unit, .str x4.Key, .bool x4.Has, .str x4.Text]))] (BAt.index (n := 5) hx (by kernel_rfl)) (by kernel_rfl) <| OWk.sg 42 H [] [0, 1, 2, 7, 8, 21] 5 [(0, .d (.list 5 (List.map encNote p0))), (1, vI p1), (2, vI p2), (7, vI y1.1), (8, vI y1.2), (21, vB (x4.Unit != p2))] (by kernel_rfl) ?_
        refine OWk.case (x4.Unit != p2) (fun b => (sp 42 [(0, .d (.list 5 (List.map encNote p0))), (1, vI p1), (2, vI p2), (7, vI y1.1), (8, vI y1.2), (21, vB b)] H)) (by kernel_rfl) (fun hc => ?_) (fun hc => ?_)
        · replace h := bif_t hc h
          refine OWk.sg 42 H [] [0, 1, 2, 7, 8, 28] 7 [(0, .d (.list 5 (List.map encNote p0))), (1, vI p1), (2, vI p2), (7, vI y1.1), (8, vI y1.2), (28, vB true)] (by kernel_rfl) <| OWk.done (by kernel_rfl) ?_
          exact ⟨true, [], by kernel_rfl, h⟩
        · replace h := bif_f hc h
          refine OWk.sg 42 H [] [0, 1, 2, 7, 8, 21, 22, 23] 2 [(0, .d (.list 5 (List.map encNote p0))), (1, vI p1), (2, vI p2), (7, vI y1.1), (8, vI y1.2), (21, vB false), (22, .d (.list 5 (List.map encNote p0))), (23, vI y1.2)] (by kernel_rfl) ?_
          obtain ⟨x5, hx, h⟩ := bind_inv h
          refine OWk.on 42 H (d := some 24) (s := lendP none (Go.Sh.D.cells (encNote x5))) [0, 1, 2, 7, 8, 21, 24] [(0, .d (.list 5 (List.map encNote p0))), (1, vI p1), (2, vI p2), (7, vI y1.1), (8, vI y1.2), (21, vB false), (24, .d (.dptr [.int .i64 x5.Kind, .int .i64 x5.Unit, .str x5.Key, .bool x5.Has, .str x5.Text]))] (BAt.index (n := 5) hx (by kernel_rfl)) (by kernel_rfl) <| OWk.sg 42 H [] [0, 1, 2, 7, 8, 28] 4 [(0, .d (.list 5 (List.map encNote p0))), (1, vI p1), (2, vI p2), (7, vI y1.1), (8, vI y1.2), (28, vB (x5.Kind == 6))] (by kernel_rfl) <| OWk.done (by kernel_rfl) ?_
          exact ⟨(x5.Kind == 6), [], by kernel_rfl, h⟩
    · replace h := bif_f hc h
      refine SW.kp 42 H [7] [(7, vI y1.1)] (by kernel_rfl) <| SW.exit <| thenS_e ?_
      cases h
      refine thenS_e ?_
      exact ⟨_, rfl, ⟨rfl, rfl⟩⟩
  · rintro _ _ ⟨rfl, rfl⟩
    refine blockS_hit <| thenS_n <| SW.seq <| SW.regionK <| OWk.sg 42 H [] [6] 2 [(6, vI v8)] (by kernel_rfl) <| OWk.done (by kernel_rfl) <| thenS_n <| SW.ret ?_
    cases h
    exact EndQ.ret [] (by kernel_rfl) rfl

def r_touched_l1 (fuel : Nat) (p0 : (List Note)) (p1 : Int) (p2 : Int) (p3 : (List UInt8)) (p4 : Int) (r1 : Int) (y2 : Int) : Option ((Int) ⊕ ((Unit) ⊕ ((Bool)))) :=
  bif ((decide (r1 ≥ 0)) && (decide (y2 < p1))) then
    (idx p0 y2).bind fun x3 =>
    bif (x3.Unit == p2) then
      (idx p0 y2).bind fun x4 =>
      bif (x4.Key == p3) then
        (idx p0 y2).bind fun x5 =>
        bif (x5.Kind == 2) then
          bif (p4 == 0) then
            some (.inr (.inr true))
          else
            (idx p0 y2).bind fun x6 =>
            bif (x6.Kind == p4) then
              some (.inr (.inr true))
            else
              some (.inl (IntKind.wrap .i64 (y2 + 1)))
        else
          (idx p0 y2).bind fun x7 =>
          bif (x7.Kind == 3) then
            bif (p4 == 0) then
              some (.inr (.inr true))
            else
              (idx p0 y2).bind fun x8 =>
              bif (x8.Kind == p4) then
                some (.inr (.inr true))
              else
                some (.inl (IntKind.wrap .i64 (y2 + 1)))
          else
            some (.inl (IntKind.wrap .i64 (y2 + 1)))
      else
        some (.inl (IntKind.wrap .i64 (y2 + 1)))
    else
      some (.inl (IntKind.wrap .i64 (y2 + 1)))
  else
    some (.inr (.inl ()))

def r_touched (fuel : Nat) (p0 : (List Note)) (p1 : Int) (p2 : Int) (p3 : (List UInt8)) (p4 : Int) : Option (Bool) :=
  (r_since fuel p0 p1 p2).bind fun r1 =>
  (iter (r_touched_l1 fuel p0 p1 p2 p3 p4 r1) fuel (IntKind.wrap .i64 (r1 + 1))).bind (Sum.elim (fun v10 =>
    some false) (fun r11 =>
    some r11))

theorem r_touched_ok {fuel : Nat} {p0 : (List Note)} {p1 : Int} {p2 : Int} {p3 : (List UInt8)} {p4 : Int} {r : Bool} (h : r_touched fuel p0 p1 p2 p3 p4 = some r) : PC Try.prog 90 [.d (.list 5 (List.map encNote p0)), vI p1, vI p2, vS p3, vI p4] (vB r) := by
  refine PC.of_SW Try.func90 rfl fun H => ?_
  unfold r_touched at h
  refine SW.kp 73 H [0, 1, 2, 3, 4] [(0, .d (.list 5 (List.map encNote p0))), (1, vI p1), (2, vI p2), (3, vS p3), (4, vI p4)] (by kernel_rfl) <| SW.seq <| SW.regionK <| OWk.sg 73 H [] [0, 1, 2, 3, 4] 1 [(0, .d (.list 5 (List.map encNote p0))), (1, vI p1), (2, vI p2), (3, vS p3), (4, vI p4)] (by kernel_rfl) <| OWk.done (by kernel_rfl) <| thenS_n <| SW.seq <| SW.regionK <| OWk.sg 73 H [] [0, 1, 2, 3, 4, 13, 14, 15] 3 [(0, .d (.list 5 (List.map encNote p0))), (1, vI p1), (2, vI p2), (3, vS p3), (4, vI p4), (13, .d (.list 5 (List.map encNote p0))), (14, vI p1), (15, vI p2)] (by kernel_rfl) ?_
  obtain ⟨r1, hr, h⟩ := bind_inv h
  refine OWk.cl 73 H (d := some 16) (ls := []) (gs := []) [] [0, 1, 2, 3, 4, 16] [(0, .d (.list 5 (List.map encNote p0))), (1, vI p1), (2, vI p2), (3, vS p3), (4, vI p4), (16, vI r1)] (r_since_ok hr) (by kernel_rfl) (by kernel_rfl) (by kernel_rfl) <| OWk.sg 73 H [] [0, 1, 2, 3, 4, 11] 1 [(0, .d (.list 5 (List.map encNote p0))), (1, vI p1), (2, vI p2), (3, vS p3), (4, vI p4), (11, vI r1)] (by kernel_rfl) <| OWk.done (by kernel_rfl) <| thenS_n <| SW.seq <| SW.seq <| SW.regionK <| OWk.sg 73 H [] [0, 1, 2, 3, 4, 11, 12] 3 [(0, .d (.list 5 (List.map encNote p0))), (1, vI p1), (2, vI p2), (3, vS p3), (4, vI p4), (11, vI r1), (12, vI (IntKind.wrap .i64 (r1 + 1)))] (by kernel_rfl) <| OWk.done (by kernel_rfl) <| thenS_n <| SW.block ?_
  obtain ⟨z9, hit, h⟩ := bind_inv h
  refine SW.it 73 H [0, 1, 2, 3, 4, 11, 12] (fun y2 => [(0, .d (.list 5 (List.map encNote p0))), (1, vI p1), (2, vI p2), (3, vS p3), (4, vI p4), (11, vI r1), (12, vI y2)]) (fun b e s => ((∃ v10, b = (.inl v10) ∧ (e = .exit 0 ∧ s = (sp 73 [] H))) ∨ (∃ r11, b = (.inr r11) ∧ (e = .ret ∧ EndQ Try.prog Try.f90.results.toList H (vB r11) .ret s)))) hit (by kernel_rfl) (fun y2 o h => ?_) ?_
  · unfold r_touched_l1 at h
    refine SW.seq <| SW.seq <| SW.regionK <| OWk.sg 73 H [] [0, 1, 2, 3, 4, 11, 12, 21] 3 [(0, .d (.list 5 (List.map encNote p0))), (1, vI p1), (2, vI p2), (3, vS p3), (4, vI p4), (11, vI r1), (12, vI y2), (21, vB (decide (r1 ≥ 0)))] (by kernel_rfl) <| OWk.mg 73 H [0, 1, 2, 3, 4, 11, 12, 25] 4 (decide (r1 ≥ 0)) (fun b => (sp 73 [(0, .d (.list 5 (List.map encNote p0))), (1, vI p1), (2, vI p2), (3, vS p3), (4, vI p4), (11, vI r1), (12, vI y2), (21, vB b)] H)) (fun b => [(0, .d (.list 5 (List.map encNote p0))), (1, vI p1), (2, vI p2), (3, vS p3), (4, vI p4), (11, vI r1), (12, vI y2), (25, vB (b && (decide (y2 < p1))))]) (by kernel_rfl) (by kernel_rfl) (by kernel_rfl) <| OWk.done (by kernel_rfl) <| thenS_n ?_
    refine SW.condB (b := ((decide (r1 ≥ 0)) && (decide (y2 < p1)))) (by kernel_rfl) (fun hc => ?_) (fun hc => ?_)
    · replace h := bif_t hc h
      refine SW.skip <| thenS_n <| SW.seq <| SW.block <| SW.seq <| SW.regionK <| OWk.sg 73 H [] [0, 1, 2, 3, 4, 11, 12, 28, 29] 2 [(0, .d (.list 5 (List.map encNote p0))), (1, vI p1), (2, vI p2), (3, vS p3), (4, vI p4), (11, vI r1), (12, vI y2), (28, .d (.list 5 (List.map encNote p0))), (29, vI y2)] (by kernel_rfl) ?_
      obtain ⟨x3, hx, h⟩ := bind_inv h
      refine OWk.on 73 H (d := some 30) (s := lendP none (Go.Sh.D.cells (encNote x3))) [0, 1, 2, 3, 4, 11, 12, 30] [(0, .d (.list 5 (List.map encNote p0))), (1, vI p1), (2, vI p2), (3, vS p3), (4, vI p4), (11, vI r1), (12, vI y2), (30, .d (.dptr [.int .i64 x3.Kind, .int .i64 x3.Unit, .str x3.Key, .bool x3.Has, .str x3.Text]))] (BAt.index (n := 5) hx (by kernel_rfl)) (by kernel_rfl) <| OWk.sg 73 H [] [0, 1, 2, 3, 4, 11, 12, 35] 5 [(0, .d (.list 5 (List.map encNote p0))), (1, vI p1), (2, vI p2), (3, vS p3), (4, vI p4), (11, vI r1), (12, vI y2), (35, vB (x3.Unit == p2))] (by kernel_rfl) ?_
      refine OWk.case (x3.Unit == p2) (fun b => (sp 73 [(0, .d (.list 5 (List.map encNote p0))), (1, vI p1), (2, vI p2), (3, vS p3), (4, vI p4), (11, vI r1), (12, vI y2), (35, vB b)] H)) (by kernel_rfl) (fun hc => ?_) (fun hc => ?_)
      · replace h := bif_t hc h
        refine OWk.sg 73 H [] [0, 1, 2, 3, 4, 11, 12, 35, 36, 37] 2 [(0, .d (.list 5 (List.map encNote p0))), (1, vI p1), (2, vI p2), (3, vS p3), (4, vI p4), (11, vI r1), (12, vI y2), (35, vB true), (36, .d (.list 5 (List.map encNote p0))), (37, vI y2)] (by kernel_rfl) ?_
        obtain ⟨x4, hx, h⟩ := bind_inv h
        refine OWk.on 73 H (d := some 38) (s := lendP none (Go.Sh.D.cells (encNote x4))) [0, 1, 2, 3, 4, 11, 12, 35, 38] [(0, .d (.list 5 (List.map encNote p0))), (1, vI p1), (2, vI p2), (3, vS p3), (4, vI p4), (11, vI r1), (12, vI y2), (35, vB true), (38, .d (.dptr [.int .i64 x4.Kind, .int .i64 x4.Unit, .str x4.Key, .bool x4.Has, .str x4.Text]))] (BAt.index (n := 5) hx (by kernel_rfl)) (by kernel_rfl) <| OWk.sg 73 H [] [0, 1, 2, 3, 4, 11, 12, 44] 6 [(0, .d (.list 5 (List.map encNote p0))), (1, vI p1), (2, vI p2), (3, vS p3), (4, vI p4), (11, vI r1), (12, vI y2), (44, vB (x4.Key == p3))] (by kernel_rfl) ?_
        refine OWk.case (x4.Key == p3) (fun b => (sp 73 [(0, .d (.list 5 (List.map encNote p0))), (1, vI p1), (2, vI p2), (3, vS p3), (4, vI p4), (11, vI r1), (12, vI y2), (44, vB b)] H)) (by kernel_rfl) (fun hc => ?_) (fun hc => ?_)
        · replace h := bif_t hc h
          refine OWk.sg 73 H [] [0, 1, 2, 3, 4, 11, 12, 44, 45, 46] 2 [(0, .d (.list 5 (List.map encNote p0))), (1, vI p1), (2, vI p2), (3, vS p3), (4, vI p4), (11, vI r1), (12, vI y2), (44, vB true), (45, .d (.list 5 (List.map encNote p0))), (46, vI y2)] (by kernel_rfl) ?_
          obtain ⟨x5, hx, h⟩ := bind_inv h
          refine OWk.on 73 H (d := some 47) (s := lendP none (Go.Sh.D.cells (encNote x5))) [0, 1, 2, 3, 4, 11, 12, 44, 47] [(0, .d (.list 5 (List.map encNote p0))), (1, vI p1), (2, vI p2), (3, vS p3), (4, vI p4), (11, vI r1), (12, vI y2), (44, vB true), (47, .d (.dptr [.int .i64 x5.Kind, .int .i64 x5.Unit, .str x5.Key, .bool x5.Has, .str x5.Text]))] (BAt.index (n := 5) hx (by kernel_rfl)) (by kernel_rfl) <| OWk.sg 73 H [] [0, 1, 2, 3, 4, 11, 12, 44, 51] 4 [(0, .d (.list 5 (List.map encNote p0))), (1, vI p1), (2, vI p2), (3, vS p3), (4, vI p4), (11, vI r1), (12, vI y2), (44, vB true), (51, vB (x5.Kind == 2))] (by kernel_rfl) ?_
          refine OWk.case (x5.Kind == 2) (fun b => (sp 73 [(0, .d (.list 5 (List.map encNote p0))), (1, vI p1), (2, vI p2), (3, vS p3), (4, vI p4), (11, vI r1), (12, vI y2), (44, vB true), (51, vB b)] H)) (by kernel_rfl) (fun hc => ?_) (fun hc => ?_)
          · replace h := bif_t hc h
            refine OWk.sg 73 H [] [0, 1, 2, 3, 4, 11, 12, 60, 63] 12 [(0, .d (.list 5 (List.map encNote p0))), (1, vI p1), (2, vI p2), (3, vS p3), (4, vI p4), (11, vI r1), (12, vI y2), (60, vB true), (63, vB (p4 == 0))] (by kernel_rfl) ?_
            refine OWk.case (p4 == 0) (fun b => (sp 73 [(0, .d (.list 5 (List.map encNote p0))), (1, vI p1), (2, vI p2), (3, vS p3), (4, vI p4), (11, vI r1), (12, vI y2), (60, vB true), (63, vB b)] H)) (by kernel_rfl) (fun hc => ?_) (fun hc => ?_)
            · replace h := bif_t hc h
              refine OWk.sg 73 H [] [0, 1, 2, 3, 4, 11, 12, 72] 9 [(0, .d (.list 5 (List.map encNote p0))), (1, vI p1), (2, vI p2), (3, vS p3), (4, vI p4), (11, vI r1), (12, vI y2), (72, vB true)] (by kernel_rfl) <| OWk.done (by kernel_rfl) <| thenS_n <| SW.condT (by kernel_rfl) <| SW.seq <| SW.regionK <| OWk.sg 73 H [] [10] 1 [(10, vB true)] (by kernel_rfl) <| OWk.done (by kernel_rfl) <| thenS_n <| SW.ret <| blockS_r <| thenS_r ?_
              cases h
              refine thenS_r ?_
              exact ⟨_, rfl, .inr (⟨true, rfl, rfl, EndQ.ret [] (by kernel_rfl) rfl⟩)⟩
            · replace h := bif_f hc h
              refine OWk.sg 73 H [] [0, 1, 2, 3, 4, 11, 12, 60, 63, 64, 65] 2 [(0, .d (.list 5 (List.map encNote p0))), (1, vI p1), (2, vI p2), (3, vS p3), (4, vI p4), (11, vI r1), (12, vI y2), (60, vB true), (63, vB false), (64, .d (.list 5 (List.map encNote p0))), (65, vI y2)] (by kernel_rfl) ?_
              obtain ⟨x6, hx, h⟩ := bind_inv h
              refine OWk.on 73 H (d := some 66) (s := lendP none (Go.Sh.D.cells (encNote x6))) [0, 1, 2, 3, 4, 11, 12, 60, 63, 66] [(0, .d (.list 5 (List.map encNote p0))), (1, vI p1), (2, vI p2), (3, vS p3), (4, vI p4), (11, vI r1), (12, vI y2), (60, vB true), (63, vB false), (66, .d (.dptr [.int .i64 x6.Kind, .int .i64 x6.Unit, .str x6.Key, .bool x6.Has, .str x6.Text]))] (BAt.index (n := 5) hx (by kernel_rfl)) (by kernel_rfl) <| OWk.sg 73 H [] [0, 1, 2, 3, 4, 11, 12, 72] 6 [(0, .d (.list 5 (List.map encNote p0))), (1, vI p1), (2, vI p2), (3, vS p3), (4, vI p4), (11, vI r1), (12, vI y2), (72, vB (x6.Kind == p4))] (by kernel_rfl) <| OWk.done (by kernel_rfl) <| thenS_n ?_
              refine SW.condB (b := (x6.Kind == p4)) (by kernel_rfl) (fun hc => ?_) (fun hc => ?_)
              · replace h := bif_t hc h
                refine SW.seq <| SW.regionK <| OWk.sg 73 H [] [10] 1 [(10, vB true)] (by kernel_rfl) <| OWk.done (by kernel_rfl) <| thenS_n <| SW.ret <| blockS_r <| thenS_r ?_
                cases h
                refine thenS_r ?_
                exact ⟨_, rfl, .inr (⟨true, rfl, rfl, EndQ.ret [] (by kernel_rfl) rfl⟩)⟩
              · replace h := bif_f hc h
                refine SW.skip <| blockS_n <| thenS_n <| SW.regionK <| OWk.sg 73 H [] [0, 1, 2, 3, 4, 11, 12] 3 [(0, .d (.list 5 (List.map encNote p0))), (1, vI p1), (2, vI p2), (3, vS p3), (4, vI p4), (11, vI r1), (12, vI (IntKind.wrap .i64 (y2 + 1)))] (by kernel_rfl) <| OWk.done (by kernel_rfl) ?_
                cases h
                exact ⟨(IntKind.wrap .i64 (y2 + 1)), rfl, by kernel_rfl⟩
          · replace h := bif_f hc h
            refine OWk.sg 73 H [] [0, 1, 2, 3, 4, 11, 12, 44, 51, 52, 53] 2 [(0, .d (.list 5 (List.map encNote p0))), (1, vI p1), (2, vI p2), (3, vS p3), (4, vI p4), (11, vI r1), (12, vI y2), (44, vB true), (51, vB false), (52, .d (.list 5 (List.map encNote p0))), (53, vI y2)] (by kernel_rfl) ?_
            obtain ⟨x7, hx, h⟩ := bind_inv h
            refine OWk.on 73 H (d := some 54) (s := lendP none (Go.Sh.D.cells (encNote x7))) [0, 1, 2, 3, 4, 11, 12, 44, 51, 54] [(0, .d (.list 5 (List.map encNote p0))), (1, vI p1), (2, vI p2), (3, vS p3), (4, vI p4), (11, vI r1), (12, vI y2), (44, vB true), (51, vB false), (54, .d (.dptr [.int .i64 x7.Kind, .int .i64 x7.Unit, .str x7.Key, .bool x7.Has, .str x7.Text]))] (BAt.index (n := 5) hx (by kernel_rfl)) (by kernel_rfl) <| OWk.sg 73 H [] [0, 1, 2, 3, 4, 11, 12, 60] 6 [(0, .d (.list 5 (List.map encNote p0))), (1, vI p1), (2, vI p2), (3, vS p3), (4, vI p4), (11, vI r1), (12, vI y2), (60, vB (x7.Kind == 3))] (by kernel_rfl) ?_
            refine OWk.case (x7.Kind == 3) (fun b => (sp 73 [(0, .d (.list 5 (List.map encNote p0))), (1, vI p1), (2, vI p2), (3, vS p3), (4, vI p4), (11, vI r1), (12, vI y2), (60, vB b)] H)) (by kernel_rfl) (fun hc => ?_) (fun hc => ?_)
            · replace h := bif_t hc h
              refine OWk.sg 73 H [] [0, 1, 2, 3, 4, 11, 12, 60, 63] 3 [(0, .d (.list 5 (List.map encNote p0))), (1, vI p1), (2, vI p2), (3, vS p3), (4, vI p4), (11, vI r1), (12, vI y2), (60, vB true), (63, vB (p4 == 0))] (by kernel_rfl) ?_
              refine OWk.case (p4 == 0) (fun b => (sp 73 [(0, .d (.list 5 (List.map encNote p0))), (1, vI p1), (2, vI p2), (3, vS p3), (4, vI p4), (11, vI r1), (12, vI y2), (60, vB true), (63, vB b)] H)) (by kernel_rfl) (fun hc => ?_) (fun hc => ?_)
              · replace h := bif_t hc h
                refine OWk.sg 73 H [] [0, 1, 2, 3, 4, 11, 12, 72] 9 [(0, .d (.list 5 (List.map encNote p0))), (1, vI p1), (2, vI p2), (3, vS p3), (4, vI p4), (11, vI r1), (12, vI y2), (72, vB true)] (by kernel_rfl) <| OWk.done (by kernel_rfl) <| thenS_n <| SW.condT (by kernel_rfl) <| SW.seq <| SW.regionK <| OWk.sg 73 H [] [10] 1 [(10, vB true)] (by kernel_rfl) <| OWk.done (by kernel_rfl) <| thenS_n <| SW.ret <| blockS_r <| thenS_r ?_
                cases h
                refine thenS_r ?_
                exact ⟨_, rfl, .inr (⟨true, rfl, rfl, EndQ.ret [] (by kernel_rfl) rfl⟩)⟩
              · replace h := bif_f hc h
                refine OWk.sg 73 H [] [0, 1, 2, 3, 4, 11, 12, 60, 63, 64, 65] 2 [(0, .d (.list 5 (List.map encNote p0))), (1, vI p1), (2, vI p2), (3, vS p3), (4, vI p4), (11, vI r1), (12, vI y2), (60, vB true), (63, vB false), (64, .d (.list 5 (List.map encNote p0))), (65, vI y2)] (by kernel_rfl) ?_
                obtain ⟨x8, hx, h⟩ := bind_inv h
                refine OWk.on 73 H (d := some 66) (s := lendP none (Go.Sh.D.cells (encNote x8))) [0, 1, 2, 3, 4, 11, 12, 60, 63, 66] [(0, .d (.list 5 (List.map encNote p0))), (1, vI p1), (2, vI p2), (3, vS p3), (4, vI p4), (11, vI r1), (12, vI y2), (60, vB true), (63, vB false), (66, .d (.dptr [.int .i64 x8.Kind, .int .i64 x8.Unit, .str x8.Key, .bool x8.Has, .str x8.Text]))] (BAt.index (n := 5) hx (by kernel_rfl)) (by kernel_rfl) <| OWk.sg 73 H [] [0, 1, 2, 3, 4, 11, 12, 72] 6 [(0, .d (.list 5 (List.map encNote p0))), (1, vI p1), (2, vI p2), (3, vS p3), (4, vI p4), (11, vI r1), (12, vI y2), (72, vB (x8.Kind == p4))] (by kernel_rfl) <| OWk.done (by kernel_rfl) <| thenS_n ?_
                refine SW.condB (b := (x8.Kind == p4)) (by kernel_rfl) (fun hc => ?_) (fun hc => ?_)
                · replace h := bif_t hc h
                  refine SW.seq <| SW.regionK <| OWk.sg 73 H [] [10] 1 [(10, vB true)] (by kernel_rfl) <| OWk.done (by kernel_rfl) <| thenS_n <| SW.ret <| blockS_r <| thenS_r ?_
                  cases h
                  refine thenS_r ?_
                  exact ⟨_, rfl, .inr (⟨true, rfl, rfl, EndQ.ret [] (by kernel_rfl) rfl⟩)⟩
                · replace h := bif_f hc h
                  refine SW.skip <| blockS_n <| thenS_n <| SW.regionK <| OWk.sg 73 H [] [0, 1, 2, 3, 4, 11, 12] 3 [(0, .d (.list 5 (List.map encNote p0))), (1, vI p1), (2, vI p2), (3, vS p3), (4, vI p4), (11, vI r1), (12, vI (IntKind.wrap .i64 (y2 + 1)))] (by kernel_rfl) <| OWk.done (by kernel_rfl) ?_
                  cases h
                  exact ⟨(IntKind.wrap .i64 (y2 + 1)), rfl, by kernel_rfl⟩
            · replace h := bif_f hc h
              refine OWk.sg 73 H [] [0, 1, 2, 3, 4, 11, 12, 72] 12 [(0, .d (.list 5 (List.map encNote p0))), (1, vI p1), (2, vI p2), (3, vS p3), (4, vI p4), (11, vI r1), (12, vI y2), (72, vB false)] (by kernel_rfl) <| OWk.done (by kernel_rfl) <| thenS_n <| SW.condF (by kernel_rfl) <| SW.skip <| blockS_n <| thenS_n <| SW.regionK <| OWk.sg 73 H [] [0, 1, 2, 3, 4, 11, 12] 3 [(0, .d (.list 5 (List.map encNote p0))), (1, vI p1), (2, vI p2), (3, vS p3), (4, vI p4), (11, vI r1), (12, vI (IntKind.wrap .i64 (y2 + 1)))] (by kernel_rfl) <| OWk.done (by kernel_rfl) ?_
              cases h
              exact ⟨(IntKind.wrap .i64 (y2 + 1)), rfl, by kernel_rfl⟩
        · replace h := bif_f hc h
          refine OWk.sg 73 H [] [0, 1, 2, 3, 4, 11, 12, 72] 28 [(0, .d (.list 5 (List.map encNote p0))), (1, vI p1), (2, vI p2), (3, vS p3), (4, vI p4), (11, vI r1), (12, vI y2), (72, vB false)] (by kernel_rfl) <| OWk.done (by kernel_rfl) <| thenS_n <| SW.condF (by kernel_rfl) <| SW.skip <| blockS_n <| thenS_n <| SW.regionK <| OWk.sg 73 H [] [0, 1, 2, 3, 4, 11, 12] 3 [(0, .d (.list 5 (List.map encNote p0))), (1, vI p1), (2, vI p2), (3, vS p3), (4, vI p4), (11, vI r1), (12, vI (IntKind.wrap .i64 (y2 + 1)))] (by kernel_rfl) <| OWk.done (by kernel_rfl) ?_
          cases h
          exact ⟨(IntKind.wrap .i64 (y2 + 1)), rfl, by kernel_rfl⟩
      · replace h := bif_f hc h
        refine OWk.sg 73 H [] [0, 1, 2, 3, 4, 11, 12, 72] 37 [(0, .d (.list 5 (List.map encNote p0))), (1, vI p1), (2, vI p2), (3, vS p3), (4, vI p4), (11, vI r1), (12, vI y2), (72, vB false)] (by kernel_rfl) <| OWk.done (by kernel_rfl) <| thenS_n <| SW.condF (by kernel_rfl) <| SW.skip <| blockS_n <| thenS_n <| SW.regionK <| OWk.sg 73 H [] [0, 1, 2, 3, 4, 11, 12] 3 [(0, .d (.list 5 (List.map encNote p0))), (1, vI p1), (2, vI p2), (3, vS p3), (4, vI p4), (11, vI r1), (12, vI (IntKind.wrap .i64 (y2 + 1)))] (by kernel_rfl) <| OWk.done (by kernel_rfl) ?_
        cases h
        exact ⟨(IntKind.wrap .i64 (y2 + 1)), rfl, by kernel_rfl⟩
    · replace h := bif_f hc h
      refine SW.kp 73 H [] [] (by kernel_rfl) <| SW.exit <| thenS_e ?_
      cases h
      refine thenS_e ?_
      exact ⟨_, rfl, .inl ⟨(), rfl, rfl, rfl⟩⟩
  · rintro _ _ (⟨v10, rfl, rfl, rfl⟩ | ⟨r11, rfl, rfl, hE⟩)
    · replace h := sum_l h
      refine blockS_hit <| thenS_n <| SW.seq <| SW.regionK <| OWk.sg 73 H [] [10] 1 [(10, vB false)] (by kernel_rfl) <| OWk.done (by kernel_rfl) <| thenS_n <| SW.ret ?_
      cases h
      exact EndQ.ret [] (by kernel_rfl) rfl
    · replace h := sum_r h
      refine blockS_r <| thenS_r ?_
      cases h
      exact hE

def r_wrong_l1 (fuel : Nat) (p0 : (List Note)) (p1 : Int) (x1 : Note) (y6 : Int) : Option ((Int) ⊕ ((Unit) ⊕ ((Int)))) :=
  bif (decide (y6 < p1)) then
    (idx p0 y6).bind fun x7 =>
    bif (x7.Unit != x1.Unit) then
      (idx p0 y6).bind fun x8 =>
      bif (x8.Kind != 6) then
        (r_touched fuel p0 p1 x7.Unit x1.Key 0).bind fun r9 =>
        bif r9 then
          some (.inr (.inr 6))
        else
          some (.inl (IntKind.wrap .i64 (y6 + 1)))
      else
        some (.inl (IntKind.wrap .i64 (y6 + 1)))
    else
      some (.inl (IntKind.wrap .i64 (y6 + 1)))
  else
    some (.inr (.inl ()))

def r_wrong (fuel : Nat) (p0 : (List Note)) (p1 : Int) : Option (Int) :=
  (idx p0 p1).bind fun x1 =>
  (r_since fuel p0 p1 x1.Unit).bind fun r2 =>
  letJ (fun (j3 : Unit) =>
    (iter (r_wrong_l1 fuel p0 p1 x1) fuel 0).bind (Sum.elim (fun v11 =>
      some 0) (fun r12 =>
      some r12))) fun jp4 =>
  bif (x1.Kind == 6) then
    some 0
  else
    bif ((decide (r2 ≥ 0)) == (x1.Kind == 1)) then
      some 9
    else
      bif ((x1.Kind != 2) && (x1.Kind != 3)) then
        some 0
      else
        bif (x1.Kind == 3) then
          (r_touched fuel p0 p1 x1.Unit x1.Key 2).bind fun r5 =>
          bif (!r5) then
            some 8
          else
            jp4 ()
        else
          jp4 ()

theorem r_wrong_ok {fuel : Nat} {p0 : (List Note)} {p1 : Int} {r : Int} (h : r_wrong fuel p0 p1 = some r) : PC Try.prog 83 [.d (.list 5 (List.map encNote p0)), vI p1] (vI r) := by
  refine PC.of_SW Try.func83 rfl fun H => ?_
  unfold r_wrong at h
  refine SW.kp 82 H [0, 1] [(0, .d (.list 5 (List.map encNote p0))), (1, vI p1)] (by kernel_rfl) <| SW.seq <| SW.regionK <| OWk.sg 82 H [] [0, 1] 1 [(0, .d (.list 5 (List.map encNote p0))), (1, vI p1)] (by kernel_rfl) <| OWk.done (by kernel_rfl) <| thenS_n <| SW.seq <| SW.regionK <| OWk.sg 82 H [] [0, 1, 9, 10] 2 [(0, .d (.list 5 (List.map encNote p0))), (1, vI p1), (9, .d (.list 5 (List.map encNote p0))), (10, vI p1)] (by kernel_rfl) ?_
  obtain ⟨x1, hx, h⟩ := bind_inv h
  refine OWk.on 82 H (d := some 11) (s := lendP none (Go.Sh.D.cells (encNote x1))) [0, 1, 11] [(0, .d (.list 5 (List.map encNote p0))), (1, vI p1), (11, .d (.dptr [.int .i64 x1.Kind, .int .i64 x1.Unit, .str x1.Key, .bool x1.Has, .str x1.Text]))] (BAt.index (n := 5) hx (by kernel_rfl)) (by kernel_rfl) <| OWk.sg 82 H [] [0, 1, 5] 3 [(0, .d (.list 5 (List.map encNote p0))), (1, vI p1), (5, .box [vI x1.Kind, vI x1.Unit, vS x1.Key, vB x1.Has, vS x1.Text])] (by kernel_rfl) <| OWk.done (by kernel_rfl) <| thenS_n <| SW.seq <| SW.regionK <| OWk.sg 82 H [] [0, 1, 5, 13, 14, 16] 4 [(0, .d (.list 5 (List.map encNote p0))), (1, vI p1), (5, .box [vI x1.Kind, vI x1.Unit, vS x1.Key, vB x1.Has, vS x1.Text]), (13, .d (.list 5 (List.map encNote p0))), (14, vI p1), (16, vI x1.Unit)] (by kernel_rfl) ?_
  obtain ⟨r2, hr, h⟩ := bind_inv h
  refine OWk.cl 82 H (d := some 17) (ls := []) (gs := []) [] [0, 1, 5, 17] [(0, .d (.list 5 (List.map encNote p0))), (1, vI p1), (5, .box [vI x1.Kind, vI x1.Unit, vS x1.Key, vB x1.Has, vS x1.Text]), (17, vI r2)] (r_since_ok hr) (by kernel_rfl) (by kernel_rfl) (by kernel_rfl) <| OWk.sg 82 H [] [0, 1, 5, 6] 2 [(0, .d (.list 5 (List.map encNote p0))), (1, vI p1), (5, .box [vI x1.Kind, vI x1.Unit, vS x1.Key, vB x1.Has, vS x1.Text]), (6, vB (decide (r2 ≥ 0)))] (by kernel_rfl) <| OWk.done (by kernel_rfl) <| thenS_n ?_
  obtain ⟨jp4, hjjp4, h⟩ := letJ_inv h
  refine SW.jn 82 H [0, 1, 5] (fun (j3 : Unit) => [(0, .d (.list 5 (List.map encNote p0))), (1, vI p1), (5, .box [vI x1.Kind, vI x1.Unit, vS x1.Key, vB x1.Has, vS x1.Text])]) (fun v => jp4 v = some r) (fun j3 h => ?_) ?_
  · rw [hjjp4] at h
    refine SW.seq <| SW.seq <| SW.regionK <| OWk.sg 82 H [] [0, 1, 5, 7] 1 [(0, .d (.list 5 (List.map encNote p0))), (1, vI p1), (5, .box [vI x1.Kind, vI x1.Unit, vS x1.Key, vB x1.Has, vS x1.Text]), (7, vI 0)] (by kernel_rfl) <| OWk.done (by kernel_rfl) <| thenS_n <| SW.block ?_
    obtain ⟨z10, hit, h⟩ := bind_inv h
    refine SW.it 82 H [0, 1, 5, 7] (fun y6 => [(0, .d (.list 5 (List.map encNote p0))), (1, vI p1), (5, .box [vI x1.Kind, vI x1.Unit, vS x1.Key, vB x1.Has, vS x1.Text]), (7, vI y6)]) (fun b e s => ((∃ v11, b = (.inl v11) ∧ (e = .exit 1 ∧ s = (sp 82 [] H))) ∨ (∃ r12, b = (.inr r12) ∧ (e = .ret ∧ EndQ Try.prog Try.f83.results.toList H (vI r12) .ret s)))) hit (by kernel_rfl) (fun y6 o h => ?_) ?_
    · unfold r_wrong_l1 at h
      refine SW.seq <| SW.seq <| SW.regionK <| OWk.sg 82 H [] [0, 1, 5, 7, 54] 3 [(0, .d (.list 5 (List.map encNote p0))), (1, vI p1), (5, .box [vI x1.Kind, vI x1.Unit, vS x1.Key, vB x1.Has, vS x1.Text]), (7, vI y6), (54, vB (decide (y6 < p1)))] (by kernel_rfl) <| OWk.done (by kernel_rfl) <| thenS_n ?_
      refine SW.condB (b := (decide (y6 < p1))) (by kernel_rfl) (fun hc => ?_) (fun hc => ?_)
      · replace h := bif_t hc h
        refine SW.skip <| thenS_n <| SW.seq <| SW.block <| SW.seq <| SW.regionK <| OWk.sg 82 H [] [0, 1, 5, 7, 57, 58] 2 [(0, .d (.list 5 (List.map encNote p0))), (1, vI p1), (5, .box [vI x1.Kind, vI x1.Unit, vS x1.Key, vB x1.Has, vS x1.Text]), (7, vI y6), (57, .d (.list 5 (List.map encNote p0))), (58, vI y6)] (by kernel_rfl) ?_
        obtain ⟨x7, hx, h⟩ := bind_inv h
        refine OWk.on 82 H (d := some 59) (s := lendP none (Go.Sh.D.cells (encNote x7))) [0, 1, 5, 7, 59] [(0, .d (.list 5 (List.map encNote p0))), (1, vI p1), (5, .box [vI x1.Kind, vI x1.Unit, vS x1.Key, vB x1.Has, vS x1.Text]), (7, vI y6), (59, .d (.dptr [.int .i64 x7.Kind, .int .i64 x7.Unit, .str x7.Key, .bool x7.Has, .str x7.Text]))] (BAt.index (n := 5) hx (by kernel_rfl)) (by kernel_rfl) <| OWk.sg 82 H [] [0, 1, 5, 7, 8] 3 [(0, .d (.list 5 (List.map encNote p0))), (1, vI p1), (5, .box [vI x1.Kind, vI x1.Unit, vS x1.Key, vB x1.Has, vS x1.Text]), (7, vI y6), (8, vI x7.Unit)] (by kernel_rfl) <| OWk.done (by kernel_rfl) <| thenS_n <| SW.seq <| SW.regionK <| OWk.sg 82 H [] [0, 1, 5, 7, 8, 66] 5 [(0, .d (.list 5 (List.map encNote p0))), (1, vI p1), (5, .box [vI x1.Kind, vI x1.Unit, vS x1.Key, vB x1.Has, vS x1.Text]), (7, vI y6), (8, vI x7.Unit), (66, vB (x7.Unit != x1.Unit))] (by kernel_rfl) ?_
        refine OWk.case (x7.Unit != x1.Unit) (fun b => (sp 82 [(0, .d (.list 5 (List.map encNote p0))), (1, vI p1), (5, .box [vI x1.Kind, vI x1.Unit, vS x1.Key, vB x1.Has, vS x1.Text]), (7, vI y6), (8, vI x7.Unit), (66, vB b)] H)) (by kernel_rfl) (fun hc => ?_) (fun hc => ?_)
        · replace h := bif_t hc h
          refine OWk.sg 82 H [] [0, 1, 5, 7, 8, 66, 67, 68] 2 [(0, .d (.list 5 (List.map encNote p0))), (1, vI p1), (5, .box [vI x1.Kind, vI x1.Unit, vS x1.Key, vB x1.Has, vS x1.Text]), (7, vI y6), (8, vI x7.Unit), (66, vB true), (67, .d (.list 5 (List.map encNote p0))), (68, vI y6)] (by kernel_rfl) ?_
          obtain ⟨x8, hx, h⟩ := bind_inv h
          refine OWk.on 82 H (d := some 69) (s := lendP none (Go.Sh.D.cells (encNote x8))) [0, 1, 5, 7, 8, 66, 69] [(0, .d (.list 5 (List.map encNote p0))), (1, vI p1), (5, .box [vI x1.Kind, vI x1.Unit, vS x1.Key, vB x1.Has, vS x1.Text]), (7, vI y6), (8, vI x7.Unit), (66, vB true), (69, .d (.dptr [.int .i64 x8.Kind, .int .i64 x8.Unit, .str x8.Key, .bool x8.Has, .str x8.Text]))] (BAt.index (n := 5) hx (by kernel_rfl)) (by kernel_rfl) <| OWk.sg 82 H [] [0, 1, 5, 7, 8, 74] 5 [(0, .d (.list 5 (List.map encNote p0))), (1, vI p1), (5, .box [vI x1.Kind, vI x1.Unit, vS x1.Key, vB x1.Has, vS x1.Text]), (7, vI y6), (8, vI x7.Unit), (74, vB (x8.Kind != 6))] (by kernel_rfl) ?_
          refine OWk.case (x8.Kind != 6) (fun b => (sp 82 [(0, .d (.list 5 (List.map encNote p0))), (1, vI p1), (5, .box [vI x1.Kind, vI x1.Unit, vS x1.Key, vB x1.Has, vS x1.Text]), (7, vI y6), (8, vI x7.Unit), (74, vB b)] H)) (by kernel_rfl) (fun hc => ?_) (fun hc => ?_)
          · replace h := bif_t hc h
            refine OWk.sg 82 H [] [0, 1, 5, 7, 74, 75, 76, 77, 79] 5 [(0, .d (.list 5 (List.map encNote p0))), (1, vI p1), (5, .box [vI x1.Kind, vI x1.Unit, vS x1.Key, vB x1.Has, vS x1.Text]), (7, vI y6), (74, vB true), (75, .d (.list 5 (List.map encNote p0))), (76, vI p1), (77, vI x7.Unit), (79, vS x1.Key)] (by kernel_rfl) ?_
            obtain ⟨r9, hr, h⟩ := bind_inv h
            refine OWk.cl 82 H (d := some 80) (ls := []) (gs := []) [] [0, 1, 5, 7, 74, 80] [(0, .d (.list 5 (List.map encNote p0))), (1, vI p1), (5, .box [vI x1.Kind, vI x1.Unit, vS x1.Key, vB x1.Has, vS x1.Text]), (7, vI y6), (74, vB true), (80, vB r9)] (r_touched_ok hr) (by kernel_rfl) (by kernel_rfl) (by kernel_rfl) <| OWk.sg 82 H [] [0, 1, 5, 7, 81] 1 [(0, .d (.list 5 (List.map encNote p0))), (1, vI p1), (5, .box [vI x1.Kind, vI x1.Unit, vS x1.Key, vB x1.Has, vS x1.Text]), (7, vI y6), (81, vB r9)] (by kernel_rfl) <| OWk.done (by kernel_rfl) <| thenS_n ?_
            refine SW.condB (b := r9) (by kernel_rfl) (fun hc => ?_) (fun hc => ?_)
            · replace h := bif_t hc h
              refine SW.seq <| SW.regionK <| OWk.sg 82 H [] [4] 1 [(4, vI 6)] (by kernel_rfl) <| OWk.done (by kernel_rfl) <| thenS_n <| SW.ret <| blockS_r <| thenS_r ?_
              cases h
              refine thenS_r ?_
              exact ⟨_, rfl, .inr (⟨6, rfl, rfl, EndQ.ret [] (by kernel_rfl) rfl⟩)⟩
            · replace h := bif_f hc h
              refine SW.skip <| blockS_n <| thenS_n <| SW.regionK <| OWk.sg 82 H [] [0, 1, 5, 7] 3 [(0, .d (.list 5 (List.map encNote p0))), (1, vI p1), (5, .box [vI x1.Kind, vI x1.Unit, vS x1.Key, vB x1.Has, vS x1.Text]), (7, vI (IntKind.wrap .i64 (y6 + 1)))] (by kernel_rfl) <| OWk.done (by kernel_rfl) ?_
              cases h
              exact ⟨(IntKind.wrap .i64 (y6 + 1)), rfl, by kernel_rfl⟩
          · replace h := bif_f hc h
            refine OWk.sg 82 H [] [0, 1, 5, 7, 81] 7 [(0, .d (.list 5 (List.map encNote p0))), (1, vI p1), (5, .box [vI x1.Kind, vI x1.Unit, vS x1.Key, vB x1.Has, vS x1.Text]), (7, vI y6), (81, vB false)] (by kernel_rfl) <| OWk.done (by kernel_rfl) <| thenS_n <| SW.condF (by kernel_rfl) <| SW.skip <| blockS_n <| thenS_n <| SW.regionK <| OWk.sg 82 H [] [0, 1, 5, 7] 3 [(0, .d (.list 5 (List.map encNote p0))), (1, vI p1), (5, .box [vI x1.Kind, vI x1.Unit, vS x1.Key, vB x1.Has, vS x1.Text]), (7, vI (IntKind.wrap .i64 (y6 + 1)))] (by kernel_rfl) <| OWk.done (by kernel_rfl) ?_
            cases h
            exact ⟨(IntKind.wrap .i64 (y6 + 1)), rfl, by kernel_rfl⟩
        · replace h := bif_f hc h
          refine OWk.sg 82 H [] [0, 1, 5, 7, 81] 15 [(0, .d (.list 5 (List.map encNote p0))), (1, vI p1), (5, .box [vI x1.Kind, vI x1.Unit, vS x1.Key, vB x1.Has, vS x1.Text]), (7, vI y6), (81, vB false)] (by kernel_rfl) <| OWk.done (by kernel_rfl) <| thenS_n <| SW.condF (by kernel_rfl) <| SW.skip <| blockS_n <| thenS_n <| SW.regionK <| OWk.sg 82 H [] [0, 1, 5, 7] 3 [(0, .d (.list 5 (List.map encNote p0))), (1, vI p1), (5, .box [vI x1.Kind, vI x1.Unit, vS x1.Key, vB x1.Has, vS x1.Text]), (7, vI (IntKind.wrap .i64 (y6 + 1)))] (by kernel_rfl) <| OWk.done (by kernel_rfl) ?_
          cases h
          exact ⟨(IntKind.wrap .i64 (y6 + 1)), rfl, by kernel_rfl⟩
      · replace h := bif_f hc h
        refine SW.kp 82 H [] [] (by kernel_rfl) <| SW.exit <| thenS_e ?_
        cases h
        refine thenS_e ?_
        exact ⟨_, rfl, .inl ⟨(), rfl, rfl, rfl⟩⟩
    · rintro _ _ (⟨v11, rfl, rfl, rfl⟩ | ⟨r12, rfl, rfl, hE⟩)
      · replace h := sum_l h
        refine blockS_hit <| thenS_n <| SW.seq <| SW.regionK <| OWk.sg 82 H [] [4] 1 [(4, vI 0)] (by kernel_rfl) <| OWk.done (by kernel_rfl) <| thenS_n <| SW.ret ?_
        cases h
        exact EndQ.ret [] (by kernel_rfl) rfl
      · replace h := sum_r h
        refine blockS_r <| thenS_r ?_
        cases h
        exact hE
  · refine SW.block <| SW.seq <| SW.regionK <| OWk.sg 82 H [] [0, 1, 5, 6, 19] 4 [(0, .d (.list 5 (List.map encNote p0))), (1, vI p1), (5, .box [vI x1.Kind, vI x1.Unit, vS x1.Key, vB x1.Has, vS x1.Text]), (6, vB (decide (r2 ≥ 0))), (19, vB (x1.Kind == 6))] (by kernel_rfl) <| OWk.done (by kernel_rfl) <| thenS_n ?_
    refine SW.condB (b := (x1.Kind == 6)) (by kernel_rfl) (fun hc => ?_) (fun hc => ?_)
    · replace h := bif_t hc h
      refine SW.seq <| SW.regionK <| OWk.sg 82 H [] [4] 1 [(4, vI 0)] (by kernel_rfl) <| OWk.done (by kernel_rfl) <| thenS_n <| SW.ret <| blockS_r <| thenS_r ?_
      cases h
      exact EndQ.ret [] (by kernel_rfl) rfl
    · replace h := bif_f hc h
      refine SW.seq <| SW.regionK <| OWk.sg 82 H [] [0, 1, 5, 23] 6 [(0, .d (.list 5 (List.map encNote p0))), (1, vI p1), (5, .box [vI x1.Kind, vI x1.Unit, vS x1.Key, vB x1.Has, vS x1.Text]), (23, vB ((decide (r2 ≥ 0)) == (x1.Kind == 1)))] (by kernel_rfl) <| OWk.done (by kernel_rfl) <| thenS_n ?_
      refine SW.condB (b := ((decide (r2 ≥ 0)) == (x1.Kind == 1))) (by kernel_rfl) (fun hc => ?_) (fun hc => ?_)
      · replace h := bif_t hc h
        refine SW.seq <| SW.regionK <| OWk.sg 82 H [] [4] 1 [(4, vI 9)] (by kernel_rfl) <| OWk.done (by kernel_rfl) <| thenS_n <| SW.ret <| blockS_r <| thenS_r ?_
        cases h
        exact EndQ.ret [] (by kernel_rfl) rfl
      · replace h := bif_f hc h
        refine SW.seq <| SW.regionK <| OWk.sg 82 H [] [0, 1, 5, 33] 4 [(0, .d (.list 5 (List.map encNote p0))), (1, vI p1), (5, .box [vI x1.Kind, vI x1.Unit, vS x1.Key, vB x1.Has, vS x1.Text]), (33, vB (x1.Kind != 2))] (by kernel_rfl) <| OWk.mg 82 H [0, 1, 5, 37] 4 (x1.Kind != 2) (fun b => (sp 82 [(0, .d (.list 5 (List.map encNote p0))), (1, vI p1), (5, .box [vI x1.Kind, vI x1.Unit, vS x1.Key, vB x1.Has, vS x1.Text]), (33, vB b)] H)) (fun b => [(0, .d (.list 5 (List.map encNote p0))), (1, vI p1), (5, .box [vI x1.Kind, vI x1.Unit, vS x1.Key, vB x1.Has, vS x1.Text]), (37, vB (b && (x1.Kind != 3)))]) (by kernel_rfl) (by kernel_rfl) (by kernel_rfl) <| OWk.sg 82 H [] [0, 1, 5, 29] 1 [(0, .d (.list 5 (List.map encNote p0))), (1, vI p1), (5, .box [vI x1.Kind, vI x1.Unit, vS x1.Key, vB x1.Has, vS x1.Text]), (29, vB ((x1.Kind != 2) && (x1.Kind != 3)))] (by kernel_rfl) <| OWk.done (by kernel_rfl) <| thenS_n ?_
        refine SW.condB (b := ((x1.Kind != 2) && (x1.Kind != 3))) (by kernel_rfl) (fun hc => ?_) (fun hc => ?_)
        · replace h := bif_t hc h
          refine SW.seq <| SW.regionK <| OWk.sg 82 H [] [4] 1 [(4, vI 0)] (by kernel_rfl) <| OWk.done (by kernel_rfl) <| thenS_n <| SW.ret <| blockS_r <| thenS_r ?_
          cases h
          exact EndQ.ret [] (by kernel_rfl) rfl
        · replace h := bif_f hc h
          refine SW.seq <| SW.regionK <| OWk.sg 82 H [] [0, 1, 5, 42] 4 [(0, .d (.list 5 (List.map encNote p0))), (1, vI p1), (5, .box [vI x1.Kind, vI x1.Unit, vS x1.Key, vB x1.Has, vS x1.Text]), (42, vB (x1.Kind == 3))] (by kernel_rfl) ?_
          refine OWk.case (x1.Kind == 3) (fun b => (sp 82 [(0, .d (.list 5 (List.map encNote p0))), (1, vI p1), (5, .box [vI x1.Kind, vI x1.Unit, vS x1.Key, vB x1.Has, vS x1.Text]), (42, vB b)] H)) (by kernel_rfl) (fun hc => ?_) (fun hc => ?_)
          · replace h := bif_t hc h
            refine OWk.sg 82 H [] [0, 1, 5, 42, 43, 44, 46, 48] 6 [(0, .d (.list 5 (List.map encNote p0))), (1, vI p1), (5, .box [vI x1.Kind, vI x1.Unit, vS x1.Key, vB x1.Has, vS x1.Text]), (42, vB true), (43, .d (.list 5 (List.map encNote p0))), (44, vI p1), (46, vI x1.Unit), (48, vS x1.Key)] (by kernel_rfl) ?_
            obtain ⟨r5, hr, h⟩ := bind_inv h
            refine OWk.cl 82 H (d := some 49) (ls := []) (gs := []) [] [0, 1, 5, 42, 49] [(0, .d (.list 5 (List.map encNote p0))), (1, vI p1), (5, .box [vI x1.Kind, vI x1.Unit, vS x1.Key, vB x1.Has, vS x1.Text]), (42, vB true), (49, vB r5)] (r_touched_ok hr) (by kernel_rfl) (by kernel_rfl) (by kernel_rfl) <| OWk.sg 82 H [] [0, 1, 5, 38] 3 [(0, .d (.list 5 (List.map encNote p0))), (1, vI p1), (5, .box [vI x1.Kind, vI x1.Unit, vS x1.Key, vB x1.Has, vS x1.Text]), (38, vB (!r5))] (by kernel_rfl) <| OWk.done (by kernel_rfl) <| thenS_n ?_
            refine SW.condB (b := (!r5)) (by kernel_rfl) (fun hc => ?_) (fun hc => ?_)
            · replace h := bif_t hc h
              refine SW.seq <| SW.regionK <| OWk.sg 82 H [] [4] 1 [(4, vI 8)] (by kernel_rfl) <| OWk.done (by kernel_rfl) <| thenS_n <| SW.ret <| blockS_r <| thenS_r ?_
              cases h
              exact EndQ.ret [] (by kernel_rfl) rfl
            · replace h := bif_f hc h
              refine SW.skip <| blockS_n ?_
              exact ⟨(), [], by kernel_rfl, h⟩
          · replace h := bif_f hc h
            refine OWk.sg 82 H [] [0, 1, 5, 38] 10 [(0, .d (.list 5 (List.map encNote p0))), (1, vI p1), (5, .box [vI x1.Kind, vI x1.Unit, vS x1.Key, vB x1.Has, vS x1.Text]), (38, vB false)] (by kernel_rfl) <| OWk.done (by kernel_rfl) <| thenS_n <| SW.condF (by kernel_rfl) <| SW.skip <| blockS_n ?_
            exact ⟨(), [], by kernel_rfl, h⟩

def r_Wrong_l1 (fuel : Nat) (p0 : (List Note)) (y2 : Int) : Option ((Int) ⊕ ((Unit) ⊕ ((Int × Int)))) :=
  bif (decide (y2 < (p0.length : Int))) then
    (r_wrong fuel p0 y2).bind fun r3 =>
    bif (r3 != 0) then
      some (.inr (.inr (y2, r3)))
    else
      some (.inl (IntKind.wrap .i64 (y2 + 1)))
  else
    some (.inr (.inl ()))

def r_Wrong (fuel : Nat) (p0 : (List Note)) : Option (Int × Int) :=
  (r_notes fuel p0).bind fun r1 =>
  bif (!r1) then
    some (0, 1)
  else
    (iter (r_Wrong_l1 fuel p0) fuel 0).bind (Sum.elim (fun v5 =>
      some ((-1), 0)) (fun r6 =>
      some r6))

theorem r_Wrong_ok {fuel : Nat} {p0 : (List Note)} {r : Int × Int} (h : r_Wrong fuel p0 = some r) : PC Try.prog 64 [.d (.list 5 (List.map encNote p0))] (.tup [vI r.1, vI r.2]) := by
  refine PC.of_SW Try.func64 rfl fun H => ?_
  unfold r_Wrong at h
  refine SW.kp 22 H [0] [(0, .d (.list 5 (List.map encNote p0)))] (by kernel_rfl) <| SW.seq <| SW.regionK <| OWk.sg 22 H [] [0] 2 [(0, .d (.list 5 (List.map encNote p0)))] (by kernel_rfl) <| OWk.done (by kernel_rfl) <| thenS_n <| SW.seq <| SW.seq <| SW.regionK <| OWk.sg 22 H [] [0, 6] 1 [(0, .d (.list 5 (List.map encNote p0))), (6, .d (.list 5 (List.map encNote p0)))] (by kernel_rfl) ?_
  obtain ⟨r1, hr, h⟩ := bind_inv h
  refine OWk.cl 22 H (d := some 7) (ls := []) (gs := []) [] [0, 7] [(0, .d (.list 5 (List.map encNote p0))), (7, vB r1)] (r_notes_ok hr) (by kernel_rfl) (by kernel_rfl) (by kernel_rfl) <| OWk.sg 22 H [] [0, 8] 1 [(0, .d (.list 5 (List.map encNote p0))), (8, vB (!r1))] (by kernel_rfl) <| OWk.done (by kernel_rfl) <| thenS_n ?_
  refine SW.condB (b := (!r1)) (by kernel_rfl) (fun hc => ?_) (fun hc => ?_)
  · replace h := bif_t hc h
    refine SW.seq <| SW.regionK <| OWk.sg 22 H [] [2, 3] 2 [(2, vI 0), (3, vI 1)] (by kernel_rfl) <| OWk.done (by kernel_rfl) <| thenS_n <| SW.ret <| thenS_r ?_
    cases h
    exact EndQ.ret [] (by kernel_rfl) rfl
  · replace h := bif_f hc h
    refine SW.skip <| thenS_n <| SW.seq <| SW.seq <| SW.regionK <| OWk.sg 22 H [] [0, 4] 1 [(0, .d (.list 5 (List.map encNote p0))), (4, vI 0)] (by kernel_rfl) <| OWk.done (by kernel_rfl) <| thenS_n <| SW.block ?_
    obtain ⟨z4, hit, h⟩ := bind_inv h
    refine SW.it 22 H [0, 4] (fun y2 => [(0, .d (.list 5 (List.map encNote p0))), (4, vI y2)]) (fun b e s => ((∃ v5, b = (.inl v5) ∧ (e = .exit 0 ∧ s = (sp 22 [] H))) ∨ (∃ r6, b = (.inr r6) ∧ (e = .ret ∧ EndQ Try.prog Try.f64.results.toList H (.tup [vI r6.1, vI r6.2]) .ret s)))) hit (by kernel_rfl) (fun y2 o h => ?_) ?_
    · unfold r_Wrong_l1 at h
      refine SW.seq <| SW.seq <| SW.regionK <| OWk.sg 22 H [] [0, 4, 9, 10] 2 [(0, .d (.list 5 (List.map encNote p0))), (4, vI y2), (9, vI y2), (10, .d (.list 5 (List.map encNote p0)))] (by kernel_rfl) <| OWk.on 22 H (d := some 11) [0, 4, 9, 11] [(0, .d (.list 5 (List.map encNote p0))), (4, vI y2), (9, vI y2), (11, vI (p0.length : Int))] (BAt.len (enc := encNote) (xs := p0) (by kernel_rfl)) (by kernel_rfl) <| OWk.sg 22 H [] [0, 4, 12] 1 [(0, .d (.list 5 (List.map encNote p0))), (4, vI y2), (12, vB (decide (y2 < (p0.length : Int))))] (by kernel_rfl) <| OWk.done (by kernel_rfl) <| thenS_n ?_
      refine SW.condB (b := (decide (y2 < (p0.length : Int)))) (by kernel_rfl) (fun hc => ?_) (fun hc => ?_)
      · replace h := bif_t hc h
        refine SW.skip <| thenS_n <| SW.seq <| SW.block <| SW.seq <| SW.regionK <| OWk.sg 22 H [] [0, 4, 15, 16] 2 [(0, .d (.list 5 (List.map encNote p0))), (4, vI y2), (15, .d (.list 5 (List.map encNote p0))), (16, vI y2)] (by kernel_rfl) ?_
        obtain ⟨r3, hr, h⟩ := bind_inv h
        refine OWk.cl 22 H (d := some 17) (ls := []) (gs := []) [] [0, 4, 17] [(0, .d (.list 5 (List.map encNote p0))), (4, vI y2), (17, vI r3)] (r_wrong_ok hr) (by kernel_rfl) (by kernel_rfl) (by kernel_rfl) <| OWk.sg 22 H [] [0, 4, 5] 1 [(0, .d (.list 5 (List.map encNote p0))), (4, vI y2), (5, vI r3)] (by kernel_rfl) <| OWk.done (by kernel_rfl) <| thenS_n <| SW.seq <| SW.regionK <| OWk.sg 22 H [] [0, 4, 5, 19] 2 [(0, .d (.list 5 (List.map encNote p0))), (4, vI y2), (5, vI r3), (19, vB (r3 != 0))] (by kernel_rfl) <| OWk.done (by kernel_rfl) <| thenS_n ?_
        refine SW.condB (b := (r3 != 0)) (by kernel_rfl) (fun hc => ?_) (fun hc => ?_)
        · replace h := bif_t hc h
          refine SW.seq <| SW.regionK <| OWk.sg 22 H [] [2, 3] 4 [(2, vI y2), (3, vI r3)] (by kernel_rfl) <| OWk.done (by kernel_rfl) <| thenS_n <| SW.ret <| blockS_r <| thenS_r ?_
          cases h
          refine thenS_r ?_
          exact ⟨_, rfl, .inr (⟨(y2, r3), rfl, rfl, EndQ.ret [] (by kernel_rfl) rfl⟩)⟩
        · replace h := bif_f hc h
          refine SW.skip <| blockS_n <| thenS_n <| SW.regionK <| OWk.sg 22 H [] [0, 4] 3 [(0, .d (.list 5 (List.map encNote p0))), (4, vI (IntKind.wrap .i64 (y2 + 1)))] (by kernel_rfl) <| OWk.done (by kernel_rfl) ?_
          cases h
          exact ⟨(IntKind.wrap .i64 (y2 + 1)), rfl, by kernel_rfl⟩
      · replace h := bif_f hc h
        refine SW.kp 22 H [] [] (by kernel_rfl) <| SW.exit <| thenS_e ?_
        cases h
        refine thenS_e ?_
        exact ⟨_, rfl, .inl ⟨(), rfl, rfl, rfl⟩⟩
    · rintro _ _ (⟨v5, rfl, rfl, rfl⟩ | ⟨r6, rfl, rfl, hE⟩)
      · replace h := sum_l h
        refine blockS_hit <| thenS_n <| SW.seq <| SW.regionK <| OWk.sg 22 H [] [2, 3] 2 [(2, vI (-1)), (3, vI 0)] (by kernel_rfl) <| OWk.done (by kernel_rfl) <| thenS_n <| SW.ret ?_
        cases h
        exact EndQ.ret [] (by kernel_rfl) rfl
      · replace h := sum_r h
        refine blockS_r <| thenS_r ?_
        cases h
        exact hE

def r_right (fuel : Nat) (p0 : (List Note)) : Option (Int) :=
  (r_notes fuel p0).bind fun r1 =>
  bif (!r1) then
    some 1
  else
    (r_Wrong fuel p0).bind fun r2 =>
    bif (r2.2 != 0) then
      some 9
    else
      some 0

theorem r_right_ok {fuel : Nat} {p0 : (List Note)} {r : Int} (h : r_right fuel p0 = some r) : PC Try.prog 34 [.d (.list 5 (List.map encNote p0))] (vI r) := by
  refine PC.of_SW Try.func34 rfl fun H => ?_
  unfold r_right at h
  refine SW.kp 15 H [0] [(0, .d (.list 5 (List.map encNote p0)))] (by kernel_rfl) <| SW.seq <| SW.regionK <| OWk.sg 15 H [] [0] 1 [(0, .d (.list 5 (List.map encNote p0)))] (by kernel_rfl) <| OWk.done (by kernel_rfl) <| thenS_n <| SW.seq <| SW.seq <| SW.regionK <| OWk.sg 15 H [] [0, 5] 1 [(0, .d (.list 5 (List.map encNote p0))), (5, .d (.list 5 (List.map encNote p0)))] (by kernel_rfl) ?_
  obtain ⟨r1, hr, h⟩ := bind_inv h
  refine OWk.cl 15 H (d := some 6) (ls := []) (gs := []) [] [0, 6] [(0, .d (.list 5 (List.map encNote p0))), (6, vB r1)] (r_notes_ok hr) (by kernel_rfl) (by kernel_rfl) (by kernel_rfl) <| OWk.sg 15 H [] [0, 7] 1 [(0, .d (.list 5 (List.map encNote p0))), (7, vB (!r1))] (by kernel_rfl) <| OWk.done (by kernel_rfl) <| thenS_n ?_
  refine SW.condB (b := (!r1)) (by kernel_rfl) (fun hc => ?_) (fun hc => ?_)
  · replace h := bif_t hc h
    refine SW.seq <| SW.regionK <| OWk.sg 15 H [] [2] 1 [(2, vI 1)] (by kernel_rfl) <| OWk.done (by kernel_rfl) <| thenS_n <| SW.ret <| thenS_r ?_
    cases h
    exact EndQ.ret [] (by kernel_rfl) rfl
  · replace h := bif_f hc h
    refine SW.skip <| thenS_n <| SW.seq <| SW.seq <| SW.regionK <| OWk.sg 15 H [] [9] 1 [(9, .d (.list 5 (List.map encNote p0)))] (by kernel_rfl) ?_
    obtain ⟨r2, hr, h⟩ := bind_inv h
    refine OWk.cl 15 H (d := some 10) (ls := []) (gs := []) [] [10] [(10, .tup [vI r2.1, vI r2.2])] (r_Wrong_ok hr) (by kernel_rfl) (by kernel_rfl) (by kernel_rfl) <| OWk.sg 15 H [] [4] 5 [(4, vI r2.2)] (by kernel_rfl) <| OWk.done (by kernel_rfl) <| thenS_n <| SW.seq <| SW.regionK <| OWk.sg 15 H [] [14] 2 [(14, vB (r2.2 != 0))] (by kernel_rfl) <| OWk.done (by kernel_rfl) <| thenS_n ?_
    refine SW.condB (b := (r2.2 != 0)) (by kernel_rfl) (fun hc => ?_) (fun hc => ?_)
    · replace h := bif_t hc h
      refine SW.seq <| SW.regionK <| OWk.sg 15 H [] [2] 1 [(2, vI 9)] (by kernel_rfl) <| OWk.done (by kernel_rfl) <| thenS_n <| SW.ret <| thenS_r ?_
      cases h
      exact EndQ.ret [] (by kernel_rfl) rfl
    · replace h := bif_f hc h
      refine SW.skip <| thenS_n <| SW.seq <| SW.regionK <| OWk.sg 15 H [] [2] 1 [(2, vI 0)] (by kernel_rfl) <| OWk.done (by kernel_rfl) <| thenS_n <| SW.ret ?_
      cases h
      exact EndQ.ret [] (by kernel_rfl) rfl

def r_QuietAt (fuel : Nat) (p0 : (List Note)) (p1 : Int) : Option (Int × Int) :=
  (r_right fuel p0).bind fun r1 =>
  bif (r1 != 0) then
    some (0, r1)
  else
    bif ((decide (p1 < 1)) || (decide (p1 > 1000))) then
      some (0, 7)
    else
      (r_since fuel p0 (p0.length : Int) p1).bind fun r2 =>
      bif (decide (r2 < 0)) then
        some (0, 8)
      else
        some (r2, 0)

theorem r_QuietAt_ok {fuel : Nat} {p0 : (List Note)} {p1 : Int} {r : Int × Int} (h : r_QuietAt fuel p0 p1 = some r) : PC Try.prog 39 [.d (.list 5 (List.map encNote p0)), vI p1] (.tup [vI r.1, vI r.2]) := by
  refine PC.of_SW Try.func39 rfl fun H => ?_
  unfold r_QuietAt at h
  refine SW.kp 27 H [0, 1] [(0, .d (.list 5 (List.map encNote p0))), (1, vI p1)] (by kernel_rfl) <| SW.seq <| SW.regionK <| OWk.sg 27 H [] [0, 1] 2 [(0, .d (.list 5 (List.map encNote p0))), (1, vI p1)] (by kernel_rfl) <| OWk.done (by kernel_rfl) <| thenS_n <| SW.seq <| SW.seq <| SW.regionK <| OWk.sg 27 H [] [0, 1, 8] 1 [(0, .d (.list 5 (List.map encNote p0))), (1, vI p1), (8, .d (.list 5 (List.map encNote p0)))] (by kernel_rfl) ?_
  obtain ⟨r1, hr, h⟩ := bind_inv h
  refine OWk.cl 27 H (d := some 9) (ls := []) (gs := []) [] [0, 1, 9] [(0, .d (.list 5 (List.map encNote p0))), (1, vI p1), (9, vI r1)] (r_right_ok hr) (by kernel_rfl) (by kernel_rfl) (by kernel_rfl) <| OWk.sg 27 H [] [0, 1, 6] 1 [(0, .d (.list 5 (List.map encNote p0))), (1, vI p1), (6, vI r1)] (by kernel_rfl) <| OWk.done (by kernel_rfl) <| thenS_n <| SW.seq <| SW.regionK <| OWk.sg 27 H [] [0, 1, 6, 11] 2 [(0, .d (.list 5 (List.map encNote p0))), (1, vI p1), (6, vI r1), (11, vB (r1 != 0))] (by kernel_rfl) <| OWk.done (by kernel_rfl) <| thenS_n ?_
  refine SW.condB (b := (r1 != 0)) (by kernel_rfl) (fun hc => ?_) (fun hc => ?_)
  · replace h := bif_t hc h
    refine SW.seq <| SW.regionK <| OWk.sg 27 H [] [4, 5] 3 [(4, vI 0), (5, vI r1)] (by kernel_rfl) <| OWk.done (by kernel_rfl) <| thenS_n <| SW.ret <| thenS_r ?_
    cases h
    exact EndQ.ret [] (by kernel_rfl) rfl
  · replace h := bif_f hc h
    refine SW.skip <| thenS_n <| SW.seq <| SW.seq <| SW.regionK <| OWk.sg 27 H [] [0, 1, 15] 3 [(0, .d (.list 5 (List.map encNote p0))), (1, vI p1), (15, vB (decide (p1 < 1)))] (by kernel_rfl) <| OWk.mg 27 H [0, 1, 18] 3 (decide (p1 < 1)) (fun b => (sp 27 [(0, .d (.list 5 (List.map encNote p0))), (1, vI p1), (15, vB b)] H)) (fun b => [(0, .d (.list 5 (List.map encNote p0))), (1, vI p1), (18, vB (b || (decide (p1 > 1000))))]) (by kernel_rfl) (by kernel_rfl) (by kernel_rfl) <| OWk.done (by kernel_rfl) <| thenS_n ?_
    refine SW.condB (b := ((decide (p1 < 1)) || (decide (p1 > 1000)))) (by kernel_rfl) (fun hc => ?_) (fun hc => ?_)
    · replace h := bif_t hc h
      refine SW.seq <| SW.regionK <| OWk.sg 27 H [] [4, 5] 2 [(4, vI 0), (5, vI 7)] (by kernel_rfl) <| OWk.done (by kernel_rfl) <| thenS_n <| SW.ret <| thenS_r ?_
      cases h
      exact EndQ.ret [] (by kernel_rfl) rfl
    · replace h := bif_f hc h
      refine SW.skip <| thenS_n <| SW.seq <| SW.regionK <| OWk.sg 27 H [] [1, 19, 20] 2 [(1, vI p1), (19, .d (.list 5 (List.map encNote p0))), (20, .d (.list 5 (List.map encNote p0)))] (by kernel_rfl) <| OWk.on 27 H (d := some 21) [1, 19, 21] [(1, vI p1), (19, .d (.list 5 (List.map encNote p0))), (21, vI (p0.length : Int))] (BAt.len (enc := encNote) (xs := p0) (by kernel_rfl)) (by kernel_rfl) <| OWk.sg 27 H [] [19, 21, 22] 1 [(19, .d (.list 5 (List.map encNote p0))), (21, vI (p0.length : Int)), (22, vI p1)] (by kernel_rfl) ?_
      obtain ⟨r2, hr, h⟩ := bind_inv h
      refine OWk.cl 27 H (d := some 23) (ls := []) (gs := []) [] [23] [(23, vI r2)] (r_since_ok hr) (by kernel_rfl) (by kernel_rfl) (by kernel_rfl) <| OWk.sg 27 H [] [7] 1 [(7, vI r2)] (by kernel_rfl) <| OWk.done (by kernel_rfl) <| thenS_n <| SW.seq <| SW.seq <| SW.regionK <| OWk.sg 27 H [] [7, 25] 2 [(7, vI r2), (25, vB (decide (r2 < 0)))] (by kernel_rfl) <| OWk.done (by kernel_rfl) <| thenS_n ?_
      refine SW.condB (b := (decide (r2 < 0))) (by kernel_rfl) (fun hc => ?_) (fun hc => ?_)
      · replace h := bif_t hc h
        refine SW.seq <| SW.regionK <| OWk.sg 27 H [] [4, 5] 2 [(4, vI 0), (5, vI 8)] (by kernel_rfl) <| OWk.done (by kernel_rfl) <| thenS_n <| SW.ret <| thenS_r ?_
        cases h
        exact EndQ.ret [] (by kernel_rfl) rfl
      · replace h := bif_f hc h
        refine SW.skip <| thenS_n <| SW.seq <| SW.regionK <| OWk.sg 27 H [] [4, 5] 3 [(4, vI r2), (5, vI 0)] (by kernel_rfl) <| OWk.done (by kernel_rfl) <| thenS_n <| SW.ret ?_
        cases h
        exact EndQ.ret [] (by kernel_rfl) rfl

def r_Undo_l1 (fuel : Nat) (p0 : (List Note)) (y2 : (List Image) × Int) (y7 : Bool × Int) : Option ((Bool × Int) ⊕ (Bool)) :=
  bif (decide (y7.2 < (y2.1.length : Int))) then
    bif y7.1 then
      some (.inl (true, (IntKind.wrap .i64 (y7.2 + 1))))
    else
      (idx y2.1 y7.2).bind fun x8 =>
      (idx p0 y2.2).bind fun x9 =>
      some (.inl ((x8.Key == x9.Key), (IntKind.wrap .i64 (y7.2 + 1))))
  else
    some (.inr y7.1)

def r_Undo_l2 (fuel : Nat) (p0 : (List Note)) (p1 : Int) (y2 : (List Image) × Int) : Option (((List Image) × Int) ⊕ ((List Image))) :=
  bif (decide (y2.2 < (p0.length : Int))) then
    letJ (fun (j3 : Bool) =>
      bif j3 then
        some (.inl (y2.1, (IntKind.wrap .i64 (y2.2 + 1))))
      else
        (iter (r_Undo_l1 fuel p0 y2) fuel (false, 0)).bind fun v11 =>
        bif (!v11) then
          (idx p0 y2.2).bind fun x12 =>
          (idx p0 y2.2).bind fun x13 =>
          (idx p0 y2.2).bind fun x14 =>
          chk (decide (([(⟨x12.Key, x13.Has, x14.Text⟩ : Image)] ++ y2.1).length ≤ room)) <|
          some (.inl (([(⟨x12.Key, x13.Has, x14.Text⟩ : Image)] ++ y2.1), (IntKind.wrap .i64 (y2.2 + 1))))
        else
          some (.inl (y2.1, (IntKind.wrap .i64 (y2.2 + 1))))) fun jp4 =>
    (idx p0 y2.2).bind fun x5 =>
    bif (x5.Unit != p1) then
      jp4 true
    else
      (idx p0 y2.2).bind fun x6 =>
      jp4 (x6.Kind != 2)
  else
    some (.inr y2.1)

def r_Undo (fuel : Nat) (p0 : (List Note)) (p1 : Int) : Option ((List Image) × Int) :=
  (r_QuietAt fuel p0 p1).bind fun r1 =>
  bif (r1.2 != 0) then
    some (([] : List Image), r1.2)
  else
    (iter (r_Undo_l2 fuel p0 p1) fuel (([] : List Image), (IntKind.wrap .i64 (r1.1 + 1)))).bind fun v16 =>
    some (v16, 0)

theorem r_Undo_ok {fuel : Nat} {p0 : (List Note)} {p1 : Int} {r : (List Image) × Int} (h : r_Undo fuel p0 p1 = some r) : PC Try.prog 17 [.d (.list 5 (List.map encNote p0)), vI p1] (.tup [.own 3 (List.map encImage r.1), vI r.2]) := by
  refine PC.of_SW Try.func17 rfl fun H => ?_
  unfold r_Undo at h
  refine SW.kp 86 H [0, 1] [(0, .d (.list 5 (List.map encNote p0))), (1, vI p1)] (by kernel_rfl) <| SW.seq <| SW.regionK <| OWk.sg 86 H [] [0, 1] 2 [(0, .d (.list 5 (List.map encNote p0))), (1, vI p1)] (by kernel_rfl) <| OWk.done (by kernel_rfl) <| thenS_n <| SW.seq <| SW.regionK <| OWk.sg 86 H [] [0, 1, 13, 14] 2 [(0, .d (.list 5 (List.map encNote p0))), (1, vI p1), (13, .d (.list 5 (List.map encNote p0))), (14, vI p1)] (by kernel_rfl) ?_
  obtain ⟨r1, hr, h⟩ := bind_inv h
  refine OWk.cl 86 H (d := some 15) (ls := []) (gs := []) [] [0, 1, 15] [(0, .d (.list 5 (List.map encNote p0))), (1, vI p1), (15, .tup [vI r1.1, vI r1.2])] (r_QuietAt_ok hr) (by kernel_rfl) (by kernel_rfl) (by kernel_rfl) <| OWk.sg 86 H [] [0, 1, 6, 7] 5 [(0, .d (.list 5 (List.map encNote p0))), (1, vI p1), (6, vI r1.1), (7, vI r1.2)] (by kernel_rfl) <| OWk.done (by kernel_rfl) <| thenS_n <| SW.seq <| SW.seq <| SW.regionK <| OWk.sg 86 H [] [0, 1, 6, 7, 19] 2 [(0, .d (.list 5 (List.map encNote p0))), (1, vI p1), (6, vI r1.1), (7, vI r1.2), (19, vB (r1.2 != 0))] (by kernel_rfl) <| OWk.done (by kernel_rfl) <| thenS_n ?_
  refine SW.condB (b := (r1.2 != 0)) (by kernel_rfl) (fun hc => ?_) (fun hc => ?_)
  · replace h := bif_t hc h
    refine SW.seq <| SW.regionK <| OWk.sg 86 H [] [4, 5] 3 [(4, .own 3 (List.map encImage ([] : List Image))), (5, vI r1.2)] (by kernel_rfl) <| OWk.done (by kernel_rfl) <| thenS_n <| SW.ret <| thenS_r ?_
    cases h
    exact EndQ.ret [] (by kernel_rfl) rfl
  · replace h := bif_f hc h
    refine SW.skip <| thenS_n <| SW.seq <| SW.regionK <| OWk.sg 86 H [] [0, 1, 6, 8] 1 [(0, .d (.list 5 (List.map encNote p0))), (1, vI p1), (6, vI r1.1), (8, .own 3 (List.map encImage ([] : List Image)))] (by kernel_rfl) <| OWk.done (by kernel_rfl) <| thenS_n <| SW.seq <| SW.seq <| SW.regionK <| OWk.sg 86 H [] [0, 1, 8, 9] 3 [(0, .d (.list 5 (List.map encNote p0))), (1, vI p1), (8, .own 3 (List.map encImage ([] : List Image))), (9, vI (IntKind.wrap .i64 (r1.1 + 1)))] (by kernel_rfl) <| OWk.done (by kernel_rfl) <| thenS_n <| SW.block ?_
    obtain ⟨v16, hit, h⟩ := bind_inv h
    refine SW.it 86 H [0, 1, 8, 9] (fun y2 => [(0, .d (.list 5 (List.map encNote p0))), (1, vI p1), (8, .own 3 (List.map encImage y2.1)), (9, vI y2.2)]) (fun v16 e s => (e = .exit 0 ∧ s = (sp 86 [(8, .own 3 (List.map encImage v16))] H))) hit (by kernel_rfl) (fun y2 o h => ?_) ?_
    · unfold r_Undo_l2 at h
      refine SW.seq <| SW.seq <| SW.regionK <| OWk.sg 86 H [] [0, 1, 8, 9, 23, 24] 2 [(0, .d (.list 5 (List.map encNote p0))), (1, vI p1), (8, .own 3 (List.map encImage y2.1)), (9, vI y2.2), (23, vI y2.2), (24, .d (.list 5 (List.map encNote p0)))] (by kernel_rfl) <| OWk.on 86 H (d := some 25) [0, 1, 8, 9, 23, 25] [(0, .d (.list 5 (List.map encNote p0))), (1, vI p1), (8, .own 3 (List.map encImage y2.1)), (9, vI y2.2), (23, vI y2.2), (25, vI (p0.length : Int))] (BAt.len (enc := encNote) (xs := p0) (by kernel_rfl)) (by kernel_rfl) <| OWk.sg 86 H [] [0, 1, 8, 9, 26] 1 [(0, .d (.list 5 (List.map encNote p0))), (1, vI p1), (8, .own 3 (List.map encImage y2.1)), (9, vI y2.2), (26, vB (decide (y2.2 < (p0.length : Int))))] (by kernel_rfl) <| OWk.done (by kernel_rfl) <| thenS_n ?_
      refine SW.condB (b := (decide (y2.2 < (p0.length : Int)))) (by kernel_rfl) (fun hc => ?_) (fun hc => ?_)
      · replace h := bif_t hc h
        refine SW.skip <| thenS_n <| SW.seq <| SW.block <| SW.seq ?_
        obtain ⟨jp4, hjjp4, h⟩ := letJ_inv h
        refine SW.jn 86 H [0, 1, 8, 9, 43] (fun (j3 : Bool) => [(0, .d (.list 5 (List.map encNote p0))), (1, vI p1), (8, .own 3 (List.map encImage y2.1)), (9, vI y2.2), (43, vB j3)]) (fun v => jp4 v = some o) (fun j3 h => ?_) ?_
        · rw [hjjp4] at h
          refine SW.condB (b := j3) (by kernel_rfl) (fun hc => ?_) (fun hc => ?_)
          · replace h := bif_t hc h
            refine SW.exit <| thenS_e <| blockS_hit <| thenS_n <| SW.regionK <| OWk.sg 86 H [] [0, 1, 8, 9] 3 [(0, .d (.list 5 (List.map encNote p0))), (1, vI p1), (8, .own 3 (List.map encImage y2.1)), (9, vI (IntKind.wrap .i64 (y2.2 + 1)))] (by kernel_rfl) <| OWk.done (by kernel_rfl) ?_
            cases h
            exact ⟨(y2.1, (IntKind.wrap .i64 (y2.2 + 1))), rfl, by kernel_rfl⟩
          · replace h := bif_f hc h
            refine SW.skip <| thenS_n <| SW.seq <| SW.regionK <| OWk.sg 86 H [] [0, 1, 8, 9, 10] 1 [(0, .d (.list 5 (List.map encNote p0))), (1, vI p1), (8, .own 3 (List.map encImage y2.1)), (9, vI y2.2), (10, vB false)] (by kernel_rfl) <| OWk.done (by kernel_rfl) <| thenS_n <| SW.seq <| SW.seq <| SW.regionK <| OWk.sg 86 H [] [0, 1, 8, 9, 10, 11] 1 [(0, .d (.list 5 (List.map encNote p0))), (1, vI p1), (8, .own 3 (List.map encImage y2.1)), (9, vI y2.2), (10, vB false), (11, vI 0)] (by kernel_rfl) <| OWk.done (by kernel_rfl) <| thenS_n <| SW.block ?_
            obtain ⟨v11, hit, h⟩ := bind_inv h
            refine SW.it 86 H [0, 1, 8, 9, 10, 11] (fun y7 => [(0, .d (.list 5 (List.map encNote p0))), (1, vI p1), (8, .own 3 (List.map encImage y2.1)), (9, vI y2.2), (10, vB y7.1), (11, vI y7.2)]) (fun v11 e s => (e = .exit 2 ∧ s = (sp 86 [(0, .d (.list 5 (List.map encNote p0))), (1, vI p1), (8, .own 3 (List.map encImage y2.1)), (9, vI y2.2), (10, vB v11)] H))) hit (by kernel_rfl) (fun y7 o h => ?_) ?_
            · unfold r_Undo_l1 at h
              refine SW.seq <| SW.seq <| SW.regionK <| OWk.sg 86 H [] [0, 1, 8, 9, 10, 11, 44, 45] 2 [(0, .d (.list 5 (List.map encNote p0))), (1, vI p1), (8, .own 3 (List.map encImage y2.1)), (9, vI y2.2), (10, vB y7.1), (11, vI y7.2), (44, vI y7.2), (45, .lent (.slot 8) 3 (List.map encImage y2.1))] (by kernel_rfl) <| OWk.on 86 H (d := some 46) [0, 1, 8, 9, 10, 11, 44, 46] [(0, .d (.list 5 (List.map encNote p0))), (1, vI p1), (8, .own 3 (List.map encImage y2.1)), (9, vI y2.2), (10, vB y7.1), (11, vI y7.2), (44, vI y7.2), (46, vI (y2.1.length : Int))] (BAt.len (enc := encImage) (xs := y2.1) (by kernel_rfl)) (by kernel_rfl) <| OWk.sg 86 H [] [0, 1, 8, 9, 10, 11, 47] 1 [(0, .d (.list 5 (List.map encNote p0))), (1, vI p1), (8, .own 3 (List.map encImage y2.1)), (9, vI y2.2), (10, vB y7.1), (11, vI y7.2), (47, vB (decide (y7.2 < (y2.1.length : Int))))] (by kernel_rfl) <| OWk.done (by kernel_rfl) <| thenS_n ?_
              refine SW.condB (b := (decide (y7.2 < (y2.1.length : Int)))) (by kernel_rfl) (fun hc => ?_) (fun hc => ?_)
              · replace h := bif_t hc h
                refine SW.skip <| thenS_n <| SW.seq <| SW.block <| SW.regionT 14 (by kernel_rfl) (by kernel_rfl) <| OBk.sg 86 H [] [0, 1, 8, 9, 11, 51] 2 [(0, .d (.list 5 (List.map encNote p0))), (1, vI p1), (8, .own 3 (List.map encImage y2.1)), (9, vI y2.2), (11, vI y7.2), (51, vB y7.1)] (by kernel_rfl) (by kernel_rfl) ?_
                refine OBk.case y7.1 (fun b => (sp 86 [(0, .d (.list 5 (List.map encNote p0))), (1, vI p1), (8, .own 3 (List.map encImage y2.1)), (9, vI y2.2), (11, vI y7.2), (51, vB b)] H)) (by kernel_rfl) (fun hc => ?_) (fun hc => ?_)
                · replace h := bif_t hc h
                  refine OBk.sg 86 H [] [0, 1, 8, 9, 11, 63] 12 [(0, .d (.list 5 (List.map encNote p0))), (1, vI p1), (8, .own 3 (List.map encImage y2.1)), (9, vI y2.2), (11, vI y7.2), (63, vB true)] (by kernel_rfl) (by kernel_rfl) <| OBk.done (by kernel_rfl) <| OWk.sg 86 H [] [0, 1, 8, 9, 10, 11] 1 [(0, .d (.list 5 (List.map encNote p0))), (1, vI p1), (8, .own 3 (List.map encImage y2.1)), (9, vI y2.2), (10, vB true), (11, vI y7.2)] (by kernel_rfl) <| OWk.done (by kernel_rfl) <| blockS_n <| thenS_n <| SW.regionK <| OWk.sg 86 H [] [0, 1, 8, 9, 10, 11] 3 [(0, .d (.list 5 (List.map encNote p0))), (1, vI p1), (8, .own 3 (List.map encImage y2.1)), (9, vI y2.2), (10, vB true), (11, vI (IntKind.wrap .i64 (y7.2 + 1)))] (by kernel_rfl) <| OWk.done (by kernel_rfl) ?_
                  cases h
                  exact ⟨(true, (IntKind.wrap .i64 (y7.2 + 1))), rfl, by kernel_rfl⟩
                · replace h := bif_f hc h
                  refine OBk.sg 86 H [] [0, 1, 8, 9, 11, 51, 52, 53] 2 [(0, .d (.list 5 (List.map encNote p0))), (1, vI p1), (8, .own 3 (List.map encImage y2.1)), (9, vI y2.2), (11, vI y7.2), (51, vB false), (52, .lent (.slot 8) 3 (List.map encImage y2.1)), (53, vI y7.2)] (by kernel_rfl) (by kernel_rfl) ?_
                  obtain ⟨x8, hx, h⟩ := bind_inv h
                  refine OBk.on 86 H (d := some 54) (s := lendP (some (.slot 8)) (Go.Sh.D.cells (encImage x8))) [0, 1, 8, 9, 11, 51, 54] [(0, .d (.list 5 (List.map encNote p0))), (1, vI p1), (8, .own 3 (List.map encImage y2.1)), (9, vI y2.2), (11, vI y7.2), (51, vB false), (54, .lptr (.slot 8) [.str x8.Key, .bool x8.Has, .str x8.Text])] (by kernel_rfl) (BAt.index (n := 3) hx (by kernel_rfl)) (by kernel_rfl) <| OBk.sg 86 H [] [0, 1, 8, 9, 11, 51, 56, 57, 58] 4 [(0, .d (.list 5 (List.map encNote p0))), (1, vI p1), (8, .own 3 (List.map encImage y2.1)), (9, vI y2.2), (11, vI y7.2), (51, vB false), (56, vS x8.Key), (57, .d (.list 5 (List.map encNote p0))), (58, vI y2.2)] (by kernel_rfl) (by kernel_rfl) ?_
                  obtain ⟨x9, hx, h⟩ := bind_inv h
                  refine OBk.on 86 H (d := some 59) (s := lendP none (Go.Sh.D.cells (encNote x9))) [0, 1, 8, 9, 11, 51, 56, 59] [(0, .d (.list 5 (List.map encNote p0))), (1, vI p1), (8, .own 3 (List.map encImage y2.1)), (9, vI y2.2), (11, vI y7.2), (51, vB false), (56, vS x8.Key), (59, .d (.dptr [.int .i64 x9.Kind, .int .i64 x9.Unit, .str x9.Key, .bool x9.Has, .str x9.Text]))] (by kernel_rfl) (BAt.index (n := 5) hx (by kernel_rfl)) (by kernel_rfl) <| OBk.sg 86 H [] [0, 1, 8, 9, 11, 63] 4 [(0, .d (.list 5 (List.map encNote p0))), (1, vI p1), (8, .own 3 (List.map encImage y2.1)), (9, vI y2.2), (11, vI y7.2), (63, vB (x8.Key == x9.Key))] (by kernel_rfl) (by kernel_rfl) <| OBk.done (by kernel_rfl) <| OWk.sg 86 H [] [0, 1, 8, 9, 10, 11] 1 [(0, .d (.list 5 (List.map encNote p0))), (1, vI p1), (8, .own 3 (List.map encImage y2.1)), (9, vI y2.2), (10, vB (x8.Key == x9.Key)), (11, vI y7.2)] (by kernel_rfl) <| OWk.done (by kernel_rfl) <| blockS_n <| thenS_n <| SW.regionK <| OWk.sg 86 H [] [0, 1, 8, 9, 10, 11] 3 [(0, .d (.list 5 (List.map encNote p0))), (1, vI p1), (8, .own 3 (List.map encImage y2.1)), (9, vI y2.2), (10, vB (x8.Key == x9.Key)), (11, vI (IntKind.wrap .i64 (y7.2 + 1)))] (by kernel_rfl) <| OWk.done (by kernel_rfl) ?_
                  cases h
                  exact ⟨((x8.Key == x9.Key), (IntKind.wrap .i64 (y7.2 + 1))), rfl, by kernel_rfl⟩
              · replace h := bif_f hc h
                refine SW.kp 86 H [0, 1, 8, 9, 10] [(0, .d (.list 5 (List.map encNote p0))), (1, vI p1), (8, .own 3 (List.map encImage y2.1)), (9, vI y2.2), (10, vB y7.1)] (by kernel_rfl) <| SW.exit <| thenS_e ?_
                cases h
                refine thenS_e ?_
                exact ⟨_, rfl, ⟨rfl, rfl⟩⟩
            · rintro _ _ ⟨rfl, rfl⟩
              refine blockS_hit <| thenS_n <| SW.seq <| SW.regionK <| OWk.sg 86 H [] [0, 1, 8, 9, 65] 2 [(0, .d (.list 5 (List.map encNote p0))), (1, vI p1), (8, .own 3 (List.map encImage y2.1)), (9, vI y2.2), (65, vB (!v11))] (by kernel_rfl) <| OWk.done (by kernel_rfl) <| thenS_n ?_
              refine SW.condB (b := (!v11)) (by kernel_rfl) (fun hc => ?_) (fun hc => ?_)
              · replace h := bif_t hc h
                refine SW.regionM [17] [0, 1, 2, 3, 4, 5, 6, 7, 8, 9, 10, 11, 12, 13, 14, 15] 16 [18, 19] 17 (by kernel_rfl) (by kernel_rfl) (by kernel_rfl) <| OBk.sg 86 H [82, 83] [0, 1, 9, 66, 67, 83] 3 [(0, .d (.list 5 (List.map encNote p0))), (1, vI p1), (9, vI y2.2), (66, .d (.list 5 (List.map encNote p0))), (67, vI y2.2), (83, .own 3 (List.map encImage y2.1))] (by kernel_rfl) (by kernel_rfl) ?_
                obtain ⟨x12, hx, h⟩ := bind_inv h
                refine OBk.on 86 H (d := some 68) (s := lendP none (Go.Sh.D.cells (encNote x12))) [0, 1, 9, 68, 83] [(0, .d (.list 5 (List.map encNote p0))), (1, vI p1), (9, vI y2.2), (68, .d (.dptr [.int .i64 x12.Kind, .int .i64 x12.Unit, .str x12.Key, .bool x12.Has, .str x12.Text])), (83, .own 3 (List.map encImage y2.1))] (by kernel_rfl) (BAt.index (n := 5) hx (by kernel_rfl)) (by kernel_rfl) <| OBk.sg 86 H [82, 83] [0, 1, 9, 70, 71, 72, 83] 4 [(0, .d (.list 5 (List.map encNote p0))), (1, vI p1), (9, vI y2.2), (70, vS x12.Key), (71, .d (.list 5 (List.map encNote p0))), (72, vI y2.2), (83, .own 3 (List.map encImage y2.1))] (by kernel_rfl) (by kernel_rfl) ?_
                obtain ⟨x13, hx, h⟩ := bind_inv h
                refine OBk.on 86 H (d := some 73) (s := lendP none (Go.Sh.D.cells (encNote x13))) [0, 1, 9, 70, 73, 83] [(0, .d (.list 5 (List.map encNote p0))), (1, vI p1), (9, vI y2.2), (70, vS x12.Key), (73, .d (.dptr [.int .i64 x13.Kind, .int .i64 x13.Unit, .str x13.Key, .bool x13.Has, .str x13.Text])), (83, .own 3 (List.map encImage y2.1))] (by kernel_rfl) (BAt.index (n := 5) hx (by kernel_rfl)) (by kernel_rfl) <| OBk.sg 86 H [82, 83] [0, 1, 9, 70, 75, 76, 77, 83] 4 [(0, .d (.list 5 (List.map encNote p0))), (1, vI p1), (9, vI y2.2), (70, vS x12.Key), (75, vB x13.Has), (76, .d (.list 5 (List.map encNote p0))), (77, vI y2.2), (83, .own 3 (List.map encImage y2.1))] (by kernel_rfl) (by kernel_rfl) ?_
                obtain ⟨x14, hx, h⟩ := bind_inv h
                refine OBk.on 86 H (d := some 78) (s := lendP none (Go.Sh.D.cells (encNote x14))) [0, 1, 9, 70, 75, 78, 83] [(0, .d (.list 5 (List.map encNote p0))), (1, vI p1), (9, vI y2.2), (70, vS x12.Key), (75, vB x13.Has), (78, .d (.dptr [.int .i64 x14.Kind, .int .i64 x14.Unit, .str x14.Key, .bool x14.Has, .str x14.Text])), (83, .own 3 (List.map encImage y2.1))] (by kernel_rfl) (BAt.index (n := 5) hx (by kernel_rfl)) (by kernel_rfl) <| OBk.sg 86 H [82, 83] [0, 1, 9, 81, 83] 3 [(0, .d (.list 5 (List.map encNote p0))), (1, vI p1), (9, vI y2.2), (81, .d (.agg [.str x12.Key, .bool x13.Has, .str x14.Text])), (83, .own 3 (List.map encImage y2.1))] (by kernel_rfl) (by kernel_rfl) <| OBk.done (by kernel_rfl) <| OWk.sg 86 H [82, 83] [0, 1, 9, 82, 83] 1 [(0, .d (.list 5 (List.map encNote p0))), (1, vI p1), (9, vI y2.2), (82, .own 3 (List.map encImage [(⟨x12.Key, x13.Has, x14.Text⟩ : Image)])), (83, .own 3 (List.map encImage y2.1))] (by kernel_rfl) ?_
                obtain ⟨hk, h⟩ := chk_inv h
                refine OWk.app 86 H (s := 82) (d := 84) (w := 3) [0, 1, 9, 84] (zs := List.map encImage ([(⟨x12.Key, x13.Has, x14.Text⟩ : Image)] ++ y2.1)) [(0, .d (.list 5 (List.map encNote p0))), (1, vI p1), (9, vI y2.2), (84, .own 3 (List.map encImage ([(⟨x12.Key, x13.Has, x14.Text⟩ : Image)] ++ y2.1)))] (ys := (List.map encImage y2.1)) (by kernel_rfl) (map_append') (room_map hk) (by kernel_rfl) <| OWk.sg 86 H [82, 83] [0, 1, 8, 9] 1 [(0, .d (.list 5 (List.map encNote p0))), (1, vI p1), (8, .own 3 (List.map encImage ([(⟨x12.Key, x13.Has, x14.Text⟩ : Image)] ++ y2.1))), (9, vI y2.2)] (by kernel_rfl) <| OWk.done (by kernel_rfl) <| blockS_n <| thenS_n <| SW.regionK <| OWk.sg 86 H [] [0, 1, 8, 9] 3 [(0, .d (.list 5 (List.map encNote p0))), (1, vI p1), (8, .own 3 (List.map encImage ([(⟨x12.Key, x13.Has, x14.Text⟩ : Image)] ++ y2.1))), (9, vI (IntKind.wrap .i64 (y2.2 + 1)))] (by kernel_rfl) <| OWk.done (by kernel_rfl) ?_
                cases h
                exact ⟨(([(⟨x12.Key, x13.Has, x14.Text⟩ : Image)] ++ y2.1), (IntKind.wrap .i64 (y2.2 + 1))), rfl, by kernel_rfl⟩
              · replace h := bif_f hc h
                refine SW.skip <| blockS_n <| thenS_n <| SW.regionK <| OWk.sg 86 H [] [0, 1, 8, 9] 3 [(0, .d (.list 5 (List.map encNote p0))), (1, vI p1), (8, .own 3 (List.map encImage y2.1)), (9, vI (IntKind.wrap .i64 (y2.2 + 1)))] (by kernel_rfl) <| OWk.done (by kernel_rfl) ?_
                cases h
                exact ⟨(y2.1, (IntKind.wrap .i64 (y2.2 + 1))), rfl, by kernel_rfl⟩
        · refine SW.regionK <| OWk.sg 86 H [] [0, 1, 8, 9, 29, 30] 2 [(0, .d (.list 5 (List.map encNote p0))), (1, vI p1), (8, .own 3 (List.map encImage y2.1)), (9, vI y2.2), (29, .d (.list 5 (List.map encNote p0))), (30, vI y2.2)] (by kernel_rfl) ?_
          obtain ⟨x5, hx, h⟩ := bind_inv h
          refine OWk.on 86 H (d := some 31) (s := lendP none (Go.Sh.D.cells (encNote x5))) [0, 1, 8, 9, 31] [(0, .d (.list 5 (List.map encNote p0))), (1, vI p1), (8, .own 3 (List.map encImage y2.1)), (9, vI y2.2), (31, .d (.dptr [.int .i64 x5.Kind, .int .i64 x5.Unit, .str x5.Key, .bool x5.Has, .str x5.Text]))] (BAt.index (n := 5) hx (by kernel_rfl)) (by kernel_rfl) <| OWk.sg 86 H [] [0, 1, 8, 9, 36] 5 [(0, .d (.list 5 (List.map encNote p0))), (1, vI p1), (8, .own 3 (List.map encImage y2.1)), (9, vI y2.2), (36, vB (x5.Unit != p1))] (by kernel_rfl) ?_
          refine OWk.case (x5.Unit != p1) (fun b => (sp 86 [(0, .d (.list 5 (List.map encNote p0))), (1, vI p1), (8, .own 3 (List.map encImage y2.1)), (9, vI y2.2), (36, vB b)] H)) (by kernel_rfl) (fun hc => ?_) (fun hc => ?_)
          · replace h := bif_t hc h
            refine OWk.sg 86 H [] [0, 1, 8, 9, 43] 7 [(0, .d (.list 5 (List.map encNote p0))), (1, vI p1), (8, .own 3 (List.map encImage y2.1)), (9, vI y2.2), (43, vB true)] (by kernel_rfl) <| OWk.done (by kernel_rfl) ?_
            exact ⟨true, [], by kernel_rfl, h⟩
          · replace h := bif_f hc h
            refine OWk.sg 86 H [] [0, 1, 8, 9, 36, 37, 38] 2 [(0, .d (.list 5 (List.map encNote p0))), (1, vI p1), (8, .own 3 (List.map encImage y2.1)), (9, vI y2.2), (36, vB false), (37, .d (.list 5 (List.map encNote p0))), (38, vI y2.2)] (by kernel_rfl) ?_
            obtain ⟨x6, hx, h⟩ := bind_inv h
            refine OWk.on 86 H (d := some 39) (s := lendP none (Go.Sh.D.cells (encNote x6))) [0, 1, 8, 9, 36, 39] [(0, .d (.list 5 (List.map encNote p0))), (1, vI p1), (8, .own 3 (List.map encImage y2.1)), (9, vI y2.2), (36, vB false), (39, .d (.dptr [.int .i64 x6.Kind, .int .i64 x6.Unit, .str x6.Key, .bool x6.Has, .str x6.Text]))] (BAt.index (n := 5) hx (by kernel_rfl)) (by kernel_rfl) <| OWk.sg 86 H [] [0, 1, 8, 9, 43] 4 [(0, .d (.list 5 (List.map encNote p0))), (1, vI p1), (8, .own 3 (List.map encImage y2.1)), (9, vI y2.2), (43, vB (x6.Kind != 2))] (by kernel_rfl) <| OWk.done (by kernel_rfl) ?_
            exact ⟨(x6.Kind != 2), [], by kernel_rfl, h⟩
      · replace h := bif_f hc h
        refine SW.kp 86 H [8] [(8, .own 3 (List.map encImage y2.1))] (by kernel_rfl) <| SW.exit <| thenS_e ?_
        cases h
        refine thenS_e ?_
        exact ⟨_, rfl, ⟨rfl, rfl⟩⟩
    · rintro _ _ ⟨rfl, rfl⟩
      refine blockS_hit <| thenS_n <| SW.seq <| SW.regionK <| OWk.sg 86 H [85] [4, 5] 3 [(4, .own 3 (List.map encImage v16)), (5, vI 0)] (by kernel_rfl) <| OWk.done (by kernel_rfl) <| thenS_n <| SW.ret ?_
      cases h
      exact EndQ.ret [] (by kernel_rfl) rfl

def r_counts_l1 (fuel : Nat) (p0 : (List Note)) (p1 : Int) (y1 : Int) : Option ((Int) ⊕ ((Unit) ⊕ ((Bool)))) :=
  bif (decide (y1 < (p0.length : Int))) then
    letJ (fun (j2 : Unit) =>
      (idx p0 y1).bind fun x8 =>
      (idx p0 p1).bind fun x9 =>
      bif (x8.Unit == x9.Unit) then
        (idx p0 y1).bind fun x10 =>
        bif (x10.Kind == 7) then
          some (.inr (.inr false))
        else
          some (.inl (IntKind.wrap .i64 (y1 + 1)))
      else
        some (.inl (IntKind.wrap .i64 (y1 + 1)))) fun jp3 =>
    (idx p0 y1).bind fun x4 =>
    (idx p0 p1).bind fun x5 =>
    bif (x4.Unit == x5.Unit) then
      (idx p0 y1).bind fun x6 =>
      bif (x6.Kind == 4) then
        some (.inr (.inr true))
      else
        (idx p0 y1).bind fun x7 =>
        bif (x7.Kind == 5) then
          some (.inr (.inr true))
        else
          jp3 ()
    else
      jp3 ()
  else
    some (.inr (.inl ()))

def r_counts (fuel : Nat) (p0 : (List Note)) (p1 : Int) : Option (Bool) :=
  (iter (r_counts_l1 fuel p0 p1) fuel (IntKind.wrap .i64 (p1 + 1))).bind (Sum.elim (fun v12 =>
    some false) (fun r13 =>
    some r13))

theorem r_counts_ok {fuel : Nat} {p0 : (List Note)} {p1 : Int} {r : Bool} (h : r_counts fuel p0 p1 = some r) : PC Try.prog 41 [.d (.list 5 (List.map encNote p0)), vI p1] (vB r) := by
  refine PC.of_SW Try.func41 rfl fun H => ?_
  unfold r_counts at h
  refine SW.kp 60 H [0, 1] [(0, .d (.list 5 (List.map encNote p0))), (1, vI p1)] (by kernel_rfl) <| SW.seq <| SW.regionK <| OWk.sg 60 H [] [0, 1] 1 [(0, .d (.list 5 (List.map encNote p0))), (1, vI p1)] (by kernel_rfl) <| OWk.done (by kernel_rfl) <| thenS_n <| SW.seq <| SW.seq <| SW.regionK <| OWk.sg 60 H [] [0, 1, 5] 3 [(0, .d (.list 5 (List.map encNote p0))), (1, vI p1), (5, vI (IntKind.wrap .i64 (p1 + 1)))] (by kernel_rfl) <| OWk.done (by kernel_rfl) <| thenS_n <| SW.block ?_
  obtain ⟨z11, hit, h⟩ := bind_inv h
  refine SW.it 60 H [0, 1, 5] (fun y1 => [(0, .d (.list 5 (List.map encNote p0))), (1, vI p1), (5, vI y1)]) (fun b e s => ((∃ v12, b = (.inl v12) ∧ (e = .exit 0 ∧ s = (sp 60 [] H))) ∨ (∃ r13, b = (.inr r13) ∧ (e = .ret ∧ EndQ Try.prog Try.f41.results.toList H (vB r13) .ret s)))) hit (by kernel_rfl) (fun y1 o h => ?_) ?_
  · unfold r_counts_l1 at h
    refine SW.seq <| SW.seq <| SW.regionK <| OWk.sg 60 H [] [0, 1, 5, 8, 9] 2 [(0, .d (.list 5 (List.map encNote p0))), (1, vI p1), (5, vI y1), (8, vI y1), (9, .d (.list 5 (List.map encNote p0)))] (by kernel_rfl) <| OWk.on 60 H (d := some 10) [0, 1, 5, 8, 10] [(0, .d (.list 5 (List.map encNote p0))), (1, vI p1), (5, vI y1), (8, vI y1), (10, vI (p0.length : Int))] (BAt.len (enc := encNote) (xs := p0) (by kernel_rfl)) (by kernel_rfl) <| OWk.sg 60 H [] [0, 1, 5, 11] 1 [(0, .d (.list 5 (List.map encNote p0))), (1, vI p1), (5, vI y1), (11, vB (decide (y1 < (p0.length : Int))))] (by kernel_rfl) <| OWk.done (by kernel_rfl) <| thenS_n ?_
    refine SW.condB (b := (decide (y1 < (p0.length : Int)))) (by kernel_rfl) (fun hc => ?_) (fun hc => ?_)
    · replace h := bif_t hc h
      refine SW.skip <| thenS_n <| SW.seq <| SW.block ?_
      obtain ⟨jp3, hjjp3, h⟩ := letJ_inv h
      refine SW.jn 60 H [0, 1, 5] (fun (j2 : Unit) => [(0, .d (.list 5 (List.map encNote p0))), (1, vI p1), (5, vI y1)]) (fun v => jp3 v = some o) (fun j2 h => ?_) ?_
      · rw [hjjp3] at h
        refine SW.seq <| SW.regionDk (by kernel_rfl) (by kernel_rfl) <| OBk.sg 60 H [] [0, 1, 5, 41, 42] 2 [(0, .d (.list 5 (List.map encNote p0))), (1, vI p1), (5, vI y1), (41, .d (.list 5 (List.map encNote p0))), (42, vI y1)] (by kernel_rfl) (by kernel_rfl) ?_
        obtain ⟨x8, hx, h⟩ := bind_inv h
        refine OBk.on 60 H (d := some 43) (s := lendP none (Go.Sh.D.cells (encNote x8))) [0, 1, 5, 43] [(0, .d (.list 5 (List.map encNote p0))), (1, vI p1), (5, vI y1), (43, .d (.dptr [.int .i64 x8.Kind, .int .i64 x8.Unit, .str x8.Key, .bool x8.Has, .str x8.Text]))] (by kernel_rfl) (BAt.index (n := 5) hx (by kernel_rfl)) (by kernel_rfl) <| OBk.sg 60 H [] [0, 1, 5, 45, 46, 47] 4 [(0, .d (.list 5 (List.map encNote p0))), (1, vI p1), (5, vI y1), (45, vI x8.Unit), (46, .d (.list 5 (List.map encNote p0))), (47, vI p1)] (by kernel_rfl) (by kernel_rfl) ?_
        obtain ⟨x9, hx, h⟩ := bind_inv h
        refine OBk.on 60 H (d := some 48) (s := lendP none (Go.Sh.D.cells (encNote x9))) [0, 1, 5, 45, 48] [(0, .d (.list 5 (List.map encNote p0))), (1, vI p1), (5, vI y1), (45, vI x8.Unit), (48, .d (.dptr [.int .i64 x9.Kind, .int .i64 x9.Unit, .str x9.Key, .bool x9.Has, .str x9.Text]))] (by kernel_rfl) (BAt.index (n := 5) hx (by kernel_rfl)) (by kernel_rfl) <| OBk.sg 60 H [] [0, 1, 5, 52] 4 [(0, .d (.list 5 (List.map encNote p0))), (1, vI p1), (5, vI y1), (52, vB (x8.Unit == x9.Unit))] (by kernel_rfl) (by kernel_rfl) ?_
        refine OBk.case (x8.Unit == x9.Unit) (fun b => (sp 60 [(0, .d (.list 5 (List.map encNote p0))), (1, vI p1), (5, vI y1), (52, vB b)] H)) (by kernel_rfl) (fun hc => ?_) (fun hc => ?_)
        · replace h := bif_t hc h
          refine OBk.sg 60 H [] [0, 1, 5, 52, 53, 54] 2 [(0, .d (.list 5 (List.map encNote p0))), (1, vI p1), (5, vI y1), (52, vB true), (53, .d (.list 5 (List.map encNote p0))), (54, vI y1)] (by kernel_rfl) (by kernel_rfl) ?_
          obtain ⟨x10, hx, h⟩ := bind_inv h
          refine OBk.on 60 H (d := some 55) (s := lendP none (Go.Sh.D.cells (encNote x10))) [0, 1, 5, 52, 55] [(0, .d (.list 5 (List.map encNote p0))), (1, vI p1), (5, vI y1), (52, vB true), (55, .d (.dptr [.int .i64 x10.Kind, .int .i64 x10.Unit, .str x10.Key, .bool x10.Has, .str x10.Text]))] (by kernel_rfl) (BAt.index (n := 5) hx (by kernel_rfl)) (by kernel_rfl) <| OBk.sg 60 H [] [0, 1, 5, 59] 4 [(0, .d (.list 5 (List.map encNote p0))), (1, vI p1), (5, vI y1), (59, vB (x10.Kind == 7))] (by kernel_rfl) (by kernel_rfl) <| OBk.done (by kernel_rfl) <| thenS_n ?_
          refine SW.condB (b := (x10.Kind == 7)) (by kernel_rfl) (fun hc => ?_) (fun hc => ?_)
          · replace h := bif_t hc h
            refine SW.seq <| SW.regionK <| OWk.sg 60 H [] [4] 1 [(4, vB false)] (by kernel_rfl) <| OWk.done (by kernel_rfl) <| thenS_n <| SW.ret <| blockS_r <| thenS_r ?_
            cases h
            refine thenS_r ?_
            exact ⟨_, rfl, .inr (⟨false, rfl, rfl, EndQ.ret [] (by kernel_rfl) rfl⟩)⟩
          · replace h := bif_f hc h
            refine SW.skip <| blockS_n <| thenS_n <| SW.regionK <| OWk.sg 60 H [] [0, 1, 5] 3 [(0, .d (.list 5 (List.map encNote p0))), (1, vI p1), (5, vI (IntKind.wrap .i64 (y1 + 1)))] (by kernel_rfl) <| OWk.done (by kernel_rfl) ?_
            cases h
            exact ⟨(IntKind.wrap .i64 (y1 + 1)), rfl, by kernel_rfl⟩
        · replace h := bif_f hc h
          refine OBk.sg 60 H [] [0, 1, 5, 59] 7 [(0, .d (.list 5 (List.map encNote p0))), (1, vI p1), (5, vI y1), (59, vB false)] (by kernel_rfl) (by kernel_rfl) <| OBk.done (by kernel_rfl) <| thenS_n <| SW.condF (by kernel_rfl) <| SW.skip <| blockS_n <| thenS_n <| SW.regionK <| OWk.sg 60 H [] [0, 1, 5] 3 [(0, .d (.list 5 (List.map encNote p0))), (1, vI p1), (5, vI (IntKind.wrap .i64 (y1 + 1)))] (by kernel_rfl) <| OWk.done (by kernel_rfl) ?_
          cases h
          exact ⟨(IntKind.wrap .i64 (y1 + 1)), rfl, by kernel_rfl⟩
      · refine SW.seq <| SW.regionDk (by kernel_rfl) (by kernel_rfl) <| OBk.sg 60 H [] [0, 1, 5, 14, 15] 2 [(0, .d (.list 5 (List.map encNote p0))), (1, vI p1), (5, vI y1), (14, .d (.list 5 (List.map encNote p0))), (15, vI y1)] (by kernel_rfl) (by kernel_rfl) ?_
        obtain ⟨x4, hx, h⟩ := bind_inv h
        refine OBk.on 60 H (d := some 16) (s := lendP none (Go.Sh.D.cells (encNote x4))) [0, 1, 5, 16] [(0, .d (.list 5 (List.map encNote p0))), (1, vI p1), (5, vI y1), (16, .d (.dptr [.int .i64 x4.Kind, .int .i64 x4.Unit, .str x4.Key, .bool x4.Has, .str x4.Text]))] (by kernel_rfl) (BAt.index (n := 5) hx (by kernel_rfl)) (by kernel_rfl) <| OBk.sg 60 H [] [0, 1, 5, 18, 19, 20] 4 [(0, .d (.list 5 (List.map encNote p0))), (1, vI p1), (5, vI y1), (18, vI x4.Unit), (19, .d (.list 5 (List.map encNote p0))), (20, vI p1)] (by kernel_rfl) (by kernel_rfl) ?_
        obtain ⟨x5, hx, h⟩ := bind_inv h
        refine OBk.on 60 H (d := some 21) (s := lendP none (Go.Sh.D.cells (encNote x5))) [0, 1, 5, 18, 21] [(0, .d (.list 5 (List.map encNote p0))), (1, vI p1), (5, vI y1), (18, vI x4.Unit), (21, .d (.dptr [.int .i64 x5.Kind, .int .i64 x5.Unit, .str x5.Key, .bool x5.Has, .str x5.Text]))] (by kernel_rfl) (BAt.index (n := 5) hx (by kernel_rfl)) (by kernel_rfl) <| OBk.sg 60 H [] [0, 1, 5, 25] 4 [(0, .d (.list 5 (List.map encNote p0))), (1, vI p1), (5, vI y1), (25, vB (x4.Unit == x5.Unit))] (by kernel_rfl) (by kernel_rfl) ?_
        refine OBk.case (x4.Unit == x5.Unit) (fun b => (sp 60 [(0, .d (.list 5 (List.map encNote p0))), (1, vI p1), (5, vI y1), (25, vB b)] H)) (by kernel_rfl) (fun hc => ?_) (fun hc => ?_)
        · replace h := bif_t hc h
          refine OBk.sg 60 H [] [0, 1, 5, 25, 26, 27] 2 [(0, .d (.list 5 (List.map encNote p0))), (1, vI p1), (5, vI y1), (25, vB true), (26, .d (.list 5 (List.map encNote p0))), (27, vI y1)] (by kernel_rfl) (by kernel_rfl) ?_
          obtain ⟨x6, hx, h⟩ := bind_inv h
          refine OBk.on 60 H (d := some 28) (s := lendP none (Go.Sh.D.cells (encNote x6))) [0, 1, 5, 25, 28] [(0, .d (.list 5 (List.map encNote p0))), (1, vI p1), (5, vI y1), (25, vB true), (28, .d (.dptr [.int .i64 x6.Kind, .int .i64 x6.Unit, .str x6.Key, .bool x6.Has, .str x6.Text]))] (by kernel_rfl) (BAt.index (n := 5) hx (by kernel_rfl)) (by kernel_rfl) <| OBk.sg 60 H [] [0, 1, 5, 25, 32] 4 [(0, .d (.list 5 (List.map encNote p0))), (1, vI p1), (5, vI y1), (25, vB true), (32, vB (x6.Kind == 4))] (by kernel_rfl) (by kernel_rfl) ?_
          refine OBk.case (x6.Kind == 4) (fun b => (sp 60 [(0, .d (.list 5 (List.map encNote p0))), (1, vI p1), (5, vI y1), (25, vB true), (32, vB b)] H)) (by kernel_rfl) (fun hc => ?_) (fun hc => ?_)
          · replace h := bif_t hc h
            refine OBk.sg 60 H [] [0, 1, 5, 40] 8 [(0, .d (.list 5 (List.map encNote p0))), (1, vI p1), (5, vI y1), (40, vB true)] (by kernel_rfl) (by kernel_rfl) <| OBk.done (by kernel_rfl) <| thenS_n <| SW.condT (by kernel_rfl) <| SW.seq <| SW.regionK <| OWk.sg 60 H [] [4] 1 [(4, vB true)] (by kernel_rfl) <| OWk.done (by kernel_rfl) <| thenS_n <| SW.ret <| thenS_r <| blockS_r <| thenS_r ?_
            cases h
            refine thenS_r ?_
            exact ⟨_, rfl, .inr (⟨true, rfl, rfl, EndQ.ret [] (by kernel_rfl) rfl⟩)⟩
          · replace h := bif_f hc h
            refine OBk.sg 60 H [] [0, 1, 5, 25, 32, 33, 34] 2 [(0, .d (.list 5 (List.map encNote p0))), (1, vI p1), (5, vI y1), (25, vB true), (32, vB false), (33, .d (.list 5 (List.map encNote p0))), (34, vI y1)] (by kernel_rfl) (by kernel_rfl) ?_
            obtain ⟨x7, hx, h⟩ := bind_inv h
            refine OBk.on 60 H (d := some 35) (s := lendP none (Go.Sh.D.cells (encNote x7))) [0, 1, 5, 25, 32, 35] [(0, .d (.list 5 (List.map encNote p0))), (1, vI p1), (5, vI y1), (25, vB true), (32, vB false), (35, .d (.dptr [.int .i64 x7.Kind, .int .i64 x7.Unit, .str x7.Key, .bool x7.Has, .str x7.Text]))] (by kernel_rfl) (BAt.index (n := 5) hx (by kernel_rfl)) (by kernel_rfl) <| OBk.sg 60 H [] [0, 1, 5, 40] 5 [(0, .d (.list 5 (List.map encNote p0))), (1, vI p1), (5, vI y1), (40, vB (x7.Kind == 5))] (by kernel_rfl) (by kernel_rfl) <| OBk.done (by kernel_rfl) <| thenS_n ?_
            refine SW.condB (b := (x7.Kind == 5)) (by kernel_rfl) (fun hc => ?_) (fun hc => ?_)
            · replace h := bif_t hc h
              refine SW.seq <| SW.regionK <| OWk.sg 60 H [] [4] 1 [(4, vB true)] (by kernel_rfl) <| OWk.done (by kernel_rfl) <| thenS_n <| SW.ret <| thenS_r <| blockS_r <| thenS_r ?_
              cases h
              refine thenS_r ?_
              exact ⟨_, rfl, .inr (⟨true, rfl, rfl, EndQ.ret [] (by kernel_rfl) rfl⟩)⟩
            · replace h := bif_f hc h
              refine SW.skip ?_
              exact ⟨(), [], by kernel_rfl, h⟩
        · replace h := bif_f hc h
          refine OBk.sg 60 H [] [0, 1, 5, 40] 15 [(0, .d (.list 5 (List.map encNote p0))), (1, vI p1), (5, vI y1), (40, vB false)] (by kernel_rfl) (by kernel_rfl) <| OBk.done (by kernel_rfl) <| thenS_n <| SW.condF (by kernel_rfl) <| SW.skip ?_
          exact ⟨(), [], by kernel_rfl, h⟩
    · replace h := bif_f hc h
      refine SW.kp 60 H [] [] (by kernel_rfl) <| SW.exit <| thenS_e ?_
      cases h
      refine thenS_e ?_
      exact ⟨_, rfl, .inl ⟨(), rfl, rfl, rfl⟩⟩
  · rintro _ _ (⟨v12, rfl, rfl, rfl⟩ | ⟨r13, rfl, rfl, hE⟩)
    · replace h := sum_l h
      refine blockS_hit <| thenS_n <| SW.seq <| SW.regionK <| OWk.sg 60 H [] [4] 1 [(4, vB false)] (by kernel_rfl) <| OWk.done (by kernel_rfl) <| thenS_n <| SW.ret ?_
      cases h
      exact EndQ.ret [] (by kernel_rfl) rfl
    · replace h := sum_r h
      refine blockS_r <| thenS_r ?_
      cases h
      exact hE

def r_Redo_l1 (fuel : Nat) (p0 : (List Note)) (y4 : (List Image) × Int) : Option (((List Image) × Int) ⊕ ((List Image))) :=
  bif (decide (y4.2 < (p0.length : Int))) then
    letJ (fun (j5 : Bool) =>
      bif j5 then
        (idx p0 y4.2).bind fun x9 =>
        (idx p0 y4.2).bind fun x10 =>
        (idx p0 y4.2).bind fun x11 =>
        chk (decide ((y4.1 ++ [(⟨x9.Key, x10.Has, x11.Text⟩ : Image)]).length ≤ room)) <|
        some (.inl ((y4.1 ++ [(⟨x9.Key, x10.Has, x11.Text⟩ : Image)]), (IntKind.wrap .i64 (y4.2 + 1))))
      else
        some (.inl (y4.1, (IntKind.wrap .i64 (y4.2 + 1))))) fun jp6 =>
    (idx p0 y4.2).bind fun x7 =>
    bif (x7.Kind == 3) then
      (r_counts fuel p0 y4.2).bind fun r8 =>
      jp6 r8
    else
      jp6 false
  else
    some (.inr y4.1)

def r_Redo (fuel : Nat) (p0 : (List Note)) (p1 : Int) : Option ((List Image) × Int) :=
  (r_right fuel p0).bind fun r1 =>
  bif (r1 != 0) then
    some (([] : List Image), r1)
  else
    letJ (fun (j2 : Bool) =>
      bif j2 then
        some (([] : List Image), 7)
      else
        (iter (r_Redo_l1 fuel p0) fuel (([] : List Image), p1)).bind fun v13 =>
        some (v13, 0)) fun jp3 =>
    bif (decide (p1 < 0)) then
      jp3 true
    else
      jp3 (decide (p1 > (p0.length : Int)))

theorem r_Redo_ok {fuel : Nat} {p0 : (List Note)} {p1 : Int} {r : (List Image) × Int} (h : r_Redo fuel p0 p1 = some r) : PC Try.prog 19 [.d (.list 5 (List.map encNote p0)), vI p1] (.tup [.own 3 (List.map encImage r.1), vI r.2]) := by
  refine PC.of_SW Try.func19 rfl fun H => ?_
  unfold r_Redo at h
  refine SW.kp 60 H [0, 1] [(0, .d (.list 5 (List.map encNote p0))), (1, vI p1)] (by kernel_rfl) <| SW.seq <| SW.regionK <| OWk.sg 60 H [] [0, 1] 2 [(0, .d (.list 5 (List.map encNote p0))), (1, vI p1)] (by kernel_rfl) <| OWk.done (by kernel_rfl) <| thenS_n <| SW.seq <| SW.seq <| SW.regionK <| OWk.sg 60 H [] [0, 1, 9] 1 [(0, .d (.list 5 (List.map encNote p0))), (1, vI p1), (9, .d (.list 5 (List.map encNote p0)))] (by kernel_rfl) ?_
  obtain ⟨r1, hr, h⟩ := bind_inv h
  refine OWk.cl 60 H (d := some 10) (ls := []) (gs := []) [] [0, 1, 10] [(0, .d (.list 5 (List.map encNote p0))), (1, vI p1), (10, vI r1)] (r_right_ok hr) (by kernel_rfl) (by kernel_rfl) (by kernel_rfl) <| OWk.sg 60 H [] [0, 1, 6] 1 [(0, .d (.list 5 (List.map encNote p0))), (1, vI p1), (6, vI r1)] (by kernel_rfl) <| OWk.done (by kernel_rfl) <| thenS_n <| SW.seq <| SW.regionK <| OWk.sg 60 H [] [0, 1, 6, 12] 2 [(0, .d (.list 5 (List.map encNote p0))), (1, vI p1), (6, vI r1), (12, vB (r1 != 0))] (by kernel_rfl) <| OWk.done (by kernel_rfl) <| thenS_n ?_
  refine SW.condB (b := (r1 != 0)) (by kernel_rfl) (fun hc => ?_) (fun hc => ?_)
  · replace h := bif_t hc h
    refine SW.seq <| SW.regionK <| OWk.sg 60 H [] [4, 5] 3 [(4, .own 3 (List.map encImage ([] : List Image))), (5, vI r1)] (by kernel_rfl) <| OWk.done (by kernel_rfl) <| thenS_n <| SW.ret <| thenS_r ?_
    cases h
    exact EndQ.ret [] (by kernel_rfl) rfl
  · replace h := bif_f hc h
    refine SW.skip <| thenS_n <| SW.seq ?_
    obtain ⟨jp3, hjjp3, h⟩ := letJ_inv h
    refine SW.jn 60 H [0, 1, 21] (fun (j2 : Bool) => [(0, .d (.list 5 (List.map encNote p0))), (1, vI p1), (21, vB j2)]) (fun v => jp3 v = some r) (fun j2 h => ?_) ?_
    · rw [hjjp3] at h
      refine SW.condB (b := j2) (by kernel_rfl) (fun hc => ?_) (fun hc => ?_)
      · replace h := bif_t hc h
        refine SW.seq <| SW.regionK <| OWk.sg 60 H [] [4, 5] 2 [(4, .own 3 (List.map encImage ([] : List Image))), (5, vI 7)] (by kernel_rfl) <| OWk.done (by kernel_rfl) <| thenS_n <| SW.ret <| thenS_r ?_
        cases h
        exact EndQ.ret [] (by kernel_rfl) rfl
      · replace h := bif_f hc h
        refine SW.skip <| thenS_n <| SW.seq <| SW.regionK <| OWk.sg 60 H [] [0, 1, 7] 1 [(0, .d (.list 5 (List.map encNote p0))), (1, vI p1), (7, .own 3 (List.map encImage ([] : List Image)))] (by kernel_rfl) <| OWk.done (by kernel_rfl) <| thenS_n <| SW.seq <| SW.seq <| SW.regionK <| OWk.sg 60 H [] [0, 7, 8] 2 [(0, .d (.list 5 (List.map encNote p0))), (7, .own 3 (List.map encImage ([] : List Image))), (8, vI p1)] (by kernel_rfl) <| OWk.done (by kernel_rfl) <| thenS_n <| SW.block ?_
        obtain ⟨v13, hit, h⟩ := bind_inv h
        refine SW.it 60 H [0, 7, 8] (fun y4 => [(0, .d (.list 5 (List.map encNote p0))), (7, .own 3 (List.map encImage y4.1)), (8, vI y4.2)]) (fun v13 e s => (e = .exit 0 ∧ s = (sp 60 [(7, .own 3 (List.map encImage v13))] H))) hit (by kernel_rfl) (fun y4 o h => ?_) ?_
        · unfold r_Redo_l1 at h
          refine SW.seq <| SW.seq <| SW.regionK <| OWk.sg 60 H [] [0, 7, 8, 23, 24] 2 [(0, .d (.list 5 (List.map encNote p0))), (7, .own 3 (List.map encImage y4.1)), (8, vI y4.2), (23, vI y4.2), (24, .d (.list 5 (List.map encNote p0)))] (by kernel_rfl) <| OWk.on 60 H (d := some 25) [0, 7, 8, 23, 25] [(0, .d (.list 5 (List.map encNote p0))), (7, .own 3 (List.map encImage y4.1)), (8, vI y4.2), (23, vI y4.2), (25, vI (p0.length : Int))] (BAt.len (enc := encNote) (xs := p0) (by kernel_rfl)) (by kernel_rfl) <| OWk.sg 60 H [] [0, 7, 8, 26] 1 [(0, .d (.list 5 (List.map encNote p0))), (7, .own 3 (List.map encImage y4.1)), (8, vI y4.2), (26, vB (decide (y4.2 < (p0.length : Int))))] (by kernel_rfl) <| OWk.done (by kernel_rfl) <| thenS_n ?_
          refine SW.condB (b := (decide (y4.2 < (p0.length : Int)))) (by kernel_rfl) (fun hc => ?_) (fun hc => ?_)
          · replace h := bif_t hc h
            refine SW.skip <| thenS_n <| SW.seq <| SW.block ?_
            obtain ⟨jp6, hjjp6, h⟩ := letJ_inv h
            refine SW.jn 60 H [0, 7, 8, 39] (fun (j5 : Bool) => [(0, .d (.list 5 (List.map encNote p0))), (7, .own 3 (List.map encImage y4.1)), (8, vI y4.2), (39, vB j5)]) (fun v => jp6 v = some o) (fun j5 h => ?_) ?_
            · rw [hjjp6] at h
              refine SW.condB (b := j5) (by kernel_rfl) (fun hc => ?_) (fun hc => ?_)
              · replace h := bif_t hc h
                refine SW.regionM [0] [1, 2, 3, 4, 5, 6, 7, 8, 9, 10, 11, 12, 13, 14, 15, 16] 17 [18, 19] 17 (by kernel_rfl) (by kernel_rfl) (by kernel_rfl) <| OBk.sg 60 H [40] [0, 8, 40, 41, 42] 3 [(0, .d (.list 5 (List.map encNote p0))), (8, vI y4.2), (40, .own 3 (List.map encImage y4.1)), (41, .d (.list 5 (List.map encNote p0))), (42, vI y4.2)] (by kernel_rfl) (by kernel_rfl) ?_
                obtain ⟨x9, hx, h⟩ := bind_inv h
                refine OBk.on 60 H (d := some 43) (s := lendP none (Go.Sh.D.cells (encNote x9))) [0, 8, 40, 43] [(0, .d (.list 5 (List.map encNote p0))), (8, vI y4.2), (40, .own 3 (List.map encImage y4.1)), (43, .d (.dptr [.int .i64 x9.Kind, .int .i64 x9.Unit, .str x9.Key, .bool x9.Has, .str x9.Text]))] (by kernel_rfl) (BAt.index (n := 5) hx (by kernel_rfl)) (by kernel_rfl) <| OBk.sg 60 H [40] [0, 8, 40, 45, 46, 47] 4 [(0, .d (.list 5 (List.map encNote p0))), (8, vI y4.2), (40, .own 3 (List.map encImage y4.1)), (45, vS x9.Key), (46, .d (.list 5 (List.map encNote p0))), (47, vI y4.2)] (by kernel_rfl) (by kernel_rfl) ?_
                obtain ⟨x10, hx, h⟩ := bind_inv h
                refine OBk.on 60 H (d := some 48) (s := lendP none (Go.Sh.D.cells (encNote x10))) [0, 8, 40, 45, 48] [(0, .d (.list 5 (List.map encNote p0))), (8, vI y4.2), (40, .own 3 (List.map encImage y4.1)), (45, vS x9.Key), (48, .d (.dptr [.int .i64 x10.Kind, .int .i64 x10.Unit, .str x10.Key, .bool x10.Has, .str x10.Text]))] (by kernel_rfl) (BAt.index (n := 5) hx (by kernel_rfl)) (by kernel_rfl) <| OBk.sg 60 H [40] [0, 8, 40, 45, 50, 51, 52] 4 [(0, .d (.list 5 (List.map encNote p0))), (8, vI y4.2), (40, .own 3 (List.map encImage y4.1)), (45, vS x9.Key), (50, vB x10.Has), (51, .d (.list 5 (List.map encNote p0))), (52, vI y4.2)] (by kernel_rfl) (by kernel_rfl) ?_
                obtain ⟨x11, hx, h⟩ := bind_inv h
                refine OBk.on 60 H (d := some 53) (s := lendP none (Go.Sh.D.cells (encNote x11))) [0, 8, 40, 45, 50, 53] [(0, .d (.list 5 (List.map encNote p0))), (8, vI y4.2), (40, .own 3 (List.map encImage y4.1)), (45, vS x9.Key), (50, vB x10.Has), (53, .d (.dptr [.int .i64 x11.Kind, .int .i64 x11.Unit, .str x11.Key, .bool x11.Has, .str x11.Text]))] (by kernel_rfl) (BAt.index (n := 5) hx (by kernel_rfl)) (by kernel_rfl) <| OBk.sg 60 H [40] [0, 8, 40, 56] 3 [(0, .d (.list 5 (List.map encNote p0))), (8, vI y4.2), (40, .own 3 (List.map encImage y4.1)), (56, .d (.agg [.str x9.Key, .bool x10.Has, .str x11.Text]))] (by kernel_rfl) (by kernel_rfl) <| OBk.done (by kernel_rfl) <| OWk.sg 60 H [40] [0, 8, 40, 57] 1 [(0, .d (.list 5 (List.map encNote p0))), (8, vI y4.2), (40, .own 3 (List.map encImage y4.1)), (57, .own 3 (List.map encImage [(⟨x9.Key, x10.Has, x11.Text⟩ : Image)]))] (by kernel_rfl) ?_
                obtain ⟨hk, h⟩ := chk_inv h
                refine OWk.app 60 H (s := 40) (d := 58) (w := 3) [0, 8, 58] (zs := List.map encImage (y4.1 ++ [(⟨x9.Key, x10.Has, x11.Text⟩ : Image)])) [(0, .d (.list 5 (List.map encNote p0))), (8, vI y4.2), (58, .own 3 (List.map encImage (y4.1 ++ [(⟨x9.Key, x10.Has, x11.Text⟩ : Image)])))] (ys := (List.map encImage [(⟨x9.Key, x10.Has, x11.Text⟩ : Image)])) (by kernel_rfl) (map_append') (room_map hk) (by kernel_rfl) <| OWk.sg 60 H [40] [0, 7, 8] 1 [(0, .d (.list 5 (List.map encNote p0))), (7, .own 3 (List.map encImage (y4.1 ++ [(⟨x9.Key, x10.Has, x11.Text⟩ : Image)]))), (8, vI y4.2)] (by kernel_rfl) <| OWk.done (by kernel_rfl) <| blockS_n <| thenS_n <| SW.regionK <| OWk.sg 60 H [] [0, 7, 8] 3 [(0, .d (.list 5 (List.map encNote p0))), (7, .own 3 (List.map encImage (y4.1 ++ [(⟨x9.Key, x10.Has, x11.Text⟩ : Image)]))), (8, vI (IntKind.wrap .i64 (y4.2 + 1)))] (by kernel_rfl) <| OWk.done (by kernel_rfl) ?_
                cases h
                exact ⟨((y4.1 ++ [(⟨x9.Key, x10.Has, x11.Text⟩ : Image)]), (IntKind.wrap .i64 (y4.2 + 1))), rfl, by kernel_rfl⟩
              · replace h := bif_f hc h
                refine SW.skip <| blockS_n <| thenS_n <| SW.regionK <| OWk.sg 60 H [] [0, 7, 8] 3 [(0, .d (.list 5 (List.map encNote p0))), (7, .own 3 (List.map encImage y4.1)), (8, vI (IntKind.wrap .i64 (y4.2 + 1)))] (by kernel_rfl) <| OWk.done (by kernel_rfl) ?_
                cases h
                exact ⟨(y4.1, (IntKind.wrap .i64 (y4.2 + 1))), rfl, by kernel_rfl⟩
            · refine SW.regionK <| OWk.sg 60 H [] [0, 7, 8, 29, 30] 2 [(0, .d (.list 5 (List.map encNote p0))), (7, .own 3 (List.map encImage y4.1)), (8, vI y4.2), (29, .d (.list 5 (List.map encNote p0))), (30, vI y4.2)] (by kernel_rfl) ?_
              obtain ⟨x7, hx, h⟩ := bind_inv h
              refine OWk.on 60 H (d := some 31) (s := lendP none (Go.Sh.D.cells (encNote x7))) [0, 7, 8, 31] [(0, .d (.list 5 (List.map encNote p0))), (7, .own 3 (List.map encImage y4.1)), (8, vI y4.2), (31, .d (.dptr [.int .i64 x7.Kind, .int .i64 x7.Unit, .str x7.Key, .bool x7.Has, .str x7.Text]))] (BAt.index (n := 5) hx (by kernel_rfl)) (by kernel_rfl) <| OWk.sg 60 H [] [0, 7, 8, 35] 4 [(0, .d (.list 5 (List.map encNote p0))), (7, .own 3 (List.map encImage y4.1)), (8, vI y4.2), (35, vB (x7.Kind == 3))] (by kernel_rfl) ?_
              refine OWk.case (x7.Kind == 3) (fun b => (sp 60 [(0, .d (.list 5 (List.map encNote p0))), (7, .own 3 (List.map encImage y4.1)), (8, vI y4.2), (35, vB b)] H)) (by kernel_rfl) (fun hc => ?_) (fun hc => ?_)
              · replace h := bif_t hc h
                refine OWk.sg 60 H [] [0, 7, 8, 35, 36, 37] 2 [(0, .d (.list 5 (List.map encNote p0))), (7, .own 3 (List.map encImage y4.1)), (8, vI y4.2), (35, vB true), (36, .d (.list 5 (List.map encNote p0))), (37, vI y4.2)] (by kernel_rfl) ?_
                obtain ⟨r8, hr, h⟩ := bind_inv h
                refine OWk.cl 60 H (d := some 38) (ls := []) (gs := []) [] [0, 7, 8, 35, 38] [(0, .d (.list 5 (List.map encNote p0))), (7, .own 3 (List.map encImage y4.1)), (8, vI y4.2), (35, vB true), (38, vB r8)] (r_counts_ok hr) (by kernel_rfl) (by kernel_rfl) (by kernel_rfl) <| OWk.sg 60 H [] [0, 7, 8, 39] 1 [(0, .d (.list 5 (List.map encNote p0))), (7, .own 3 (List.map encImage y4.1)), (8, vI y4.2), (39, vB r8)] (by kernel_rfl) <| OWk.done (by kernel_rfl) ?_
                exact ⟨r8, [], by kernel_rfl, h⟩
              · replace h := bif_f hc h
                refine OWk.sg 60 H [] [0, 7, 8, 39] 4 [(0, .d (.list 5 (List.map encNote p0))), (7, .own 3 (List.map encImage y4.1)), (8, vI y4.2), (39, vB false)] (by kernel_rfl) <| OWk.done (by kernel_rfl) ?_
                exact ⟨false, [], by kernel_rfl, h⟩
          · replace h := bif_f hc h
            refine SW.kp 60 H [7] [(7, .own 3 (List.map encImage y4.1))] (by kernel_rfl) <| SW.exit <| thenS_e ?_
            cases h
            refine thenS_e ?_
            exact ⟨_, rfl, ⟨rfl, rfl⟩⟩
        · rintro _ _ ⟨rfl, rfl⟩
          refine blockS_hit <| thenS_n <| SW.seq <| SW.regionK <| OWk.sg 60 H [59] [4, 5] 3 [(4, .own 3 (List.map encImage v13)), (5, vI 0)] (by kernel_rfl) <| OWk.done (by kernel_rfl) <| thenS_n <| SW.ret ?_
          cases h
          exact EndQ.ret [] (by kernel_rfl) rfl
    · refine SW.regionK <| OWk.sg 60 H [] [0, 1, 16] 3 [(0, .d (.list 5 (List.map encNote p0))), (1, vI p1), (16, vB (decide (p1 < 0)))] (by kernel_rfl) ?_
      refine OWk.case (decide (p1 < 0)) (fun b => (sp 60 [(0, .d (.list 5 (List.map encNote p0))), (1, vI p1), (16, vB b)] H)) (by kernel_rfl) (fun hc => ?_) (fun hc => ?_)
      · replace h := bif_t hc h
        refine OWk.sg 60 H [] [0, 1, 21] 5 [(0, .d (.list 5 (List.map encNote p0))), (1, vI p1), (21, vB true)] (by kernel_rfl) <| OWk.done (by kernel_rfl) ?_
        exact ⟨true, [], by kernel_rfl, h⟩
      · replace h := bif_f hc h
        refine OWk.sg 60 H [] [0, 1, 16, 17, 18] 2 [(0, .d (.list 5 (List.map encNote p0))), (1, vI p1), (16, vB false), (17, vI p1), (18, .d (.list 5 (List.map encNote p0)))] (by kernel_rfl) <| OWk.on 60 H (d := some 19) [0, 1, 16, 17, 19] [(0, .d (.list 5 (List.map encNote p0))), (1, vI p1), (16, vB false), (17, vI p1), (19, vI (p0.length : Int))] (BAt.len (enc := encNote) (xs := p0) (by kernel_rfl)) (by kernel_rfl) <| OWk.sg 60 H [] [0, 1, 21] 2 [(0, .d (.list 5 (List.map encNote p0))), (1, vI p1), (21, vB (decide (p1 > (p0.length : Int))))] (by kernel_rfl) <| OWk.done (by kernel_rfl) ?_
        exact ⟨(decide (p1 > (p0.length : Int))), [], by kernel_rfl, h⟩

def r_images_l1 (fuel : Nat) (p0 : (List Image)) (y1 : Int) : Option ((Int) ⊕ ((Unit) ⊕ ((Bool)))) :=
  bif (decide (y1 < (p0.length : Int))) then
    (idx p0 y1).bind fun x2 =>
    (r_image fuel x2).bind fun r3 =>
    bif (!r3) then
      some (.inr (.inr false))
    else
      some (.inl (IntKind.wrap .i64 (y1 + 1)))
  else
    some (.inr (.inl ()))

def r_images (fuel : Nat) (p0 : (List Image)) : Option (Bool) :=
  (iter (r_images_l1 fuel p0) fuel 0).bind (Sum.elim (fun v5 =>
    some true) (fun r6 =>
    some r6))

theorem r_images_ok {fuel : Nat} {p0 : (List Image)} {r : Bool} (h : r_images fuel p0 = some r) : PC Try.prog 52 [.d (.list 3 (List.map encImage p0))] (vB r) := by
  refine PC.of_SW Try.func52 rfl fun H => ?_
  unfold r_images at h
  refine SW.kp 16 H [0] [(0, .d (.list 3 (List.map encImage p0)))] (by kernel_rfl) <| SW.seq <| SW.regionK <| OWk.sg 16 H [] [0] 1 [(0, .d (.list 3 (List.map encImage p0)))] (by kernel_rfl) <| OWk.done (by kernel_rfl) <| thenS_n <| SW.seq <| SW.seq <| SW.regionK <| OWk.sg 16 H [] [0, 3] 1 [(0, .d (.list 3 (List.map encImage p0))), (3, vI 0)] (by kernel_rfl) <| OWk.done (by kernel_rfl) <| thenS_n <| SW.block ?_
  obtain ⟨z4, hit, h⟩ := bind_inv h
  refine SW.it 16 H [0, 3] (fun y1 => [(0, .d (.list 3 (List.map encImage p0))), (3, vI y1)]) (fun b e s => ((∃ v5, b = (.inl v5) ∧ (e = .exit 0 ∧ s = (sp 16 [] H))) ∨ (∃ r6, b = (.inr r6) ∧ (e = .ret ∧ EndQ Try.prog Try.f52.results.toList H (vB r6) .ret s)))) hit (by kernel_rfl) (fun y1 o h => ?_) ?_
  · unfold r_images_l1 at h
    refine SW.seq <| SW.seq <| SW.regionK <| OWk.sg 16 H [] [0, 3, 4, 5] 2 [(0, .d (.list 3 (List.map encImage p0))), (3, vI y1), (4, vI y1), (5, .d (.list 3 (List.map encImage p0)))] (by kernel_rfl) <| OWk.on 16 H (d := some 6) [0, 3, 4, 6] [(0, .d (.list 3 (List.map encImage p0))), (3, vI y1), (4, vI y1), (6, vI (p0.length : Int))] (BAt.len (enc := encImage) (xs := p0) (by kernel_rfl)) (by kernel_rfl) <| OWk.sg 16 H [] [0, 3, 7] 1 [(0, .d (.list 3 (List.map encImage p0))), (3, vI y1), (7, vB (decide (y1 < (p0.length : Int))))] (by kernel_rfl) <| OWk.done (by kernel_rfl) <| thenS_n ?_
    refine SW.condB (b := (decide (y1 < (p0.length : Int)))) (by kernel_rfl) (fun hc => ?_) (fun hc => ?_)
    · replace h := bif_t hc h
      refine SW.skip <| thenS_n <| SW.seq <| SW.block <| SW.seq <| SW.regionK <| OWk.sg 16 H [] [0, 3, 10, 11] 2 [(0, .d (.list 3 (List.map encImage p0))), (3, vI y1), (10, .d (.list 3 (List.map encImage p0))), (11, vI y1)] (by kernel_rfl) ?_
      obtain ⟨x2, hx, h⟩ := bind_inv h
      refine OWk.on 16 H (d := some 12) (s := lendP none (Go.Sh.D.cells (encImage x2))) [0, 3, 12] [(0, .d (.list 3 (List.map encImage p0))), (3, vI y1), (12, .d (.dptr [.str x2.Key, .bool x2.Has, .str x2.Text]))] (BAt.index (n := 3) hx (by kernel_rfl)) (by kernel_rfl) <| OWk.sg 16 H [] [0, 3, 13] 1 [(0, .d (.list 3 (List.map encImage p0))), (3, vI y1), (13, .d (.agg [.str x2.Key, .bool x2.Has, .str x2.Text]))] (by kernel_rfl) ?_
      obtain ⟨r3, hr, h⟩ := bind_inv h
      refine OWk.cl 16 H (d := some 14) (ls := []) (gs := []) [] [0, 3, 14] [(0, .d (.list 3 (List.map encImage p0))), (3, vI y1), (14, vB r3)] (r_image_ok hr) (by kernel_rfl) (by kernel_rfl) (by kernel_rfl) <| OWk.sg 16 H [] [0, 3, 15] 1 [(0, .d (.list 3 (List.map encImage p0))), (3, vI y1), (15, vB (!r3))] (by kernel_rfl) <| OWk.done (by kernel_rfl) <| thenS_n ?_
      refine SW.condB (b := (!r3)) (by kernel_rfl) (fun hc => ?_) (fun hc => ?_)
      · replace h := bif_t hc h
        refine SW.seq <| SW.regionK <| OWk.sg 16 H [] [2] 1 [(2, vB false)] (by kernel_rfl) <| OWk.done (by kernel_rfl) <| thenS_n <| SW.ret <| blockS_r <| thenS_r ?_
        cases h
        refine thenS_r ?_
        exact ⟨_, rfl, .inr (⟨false, rfl, rfl, EndQ.ret [] (by kernel_rfl) rfl⟩)⟩
      · replace h := bif_f hc h
        refine SW.skip <| blockS_n <| thenS_n <| SW.regionK <| OWk.sg 16 H [] [0, 3] 3 [(0, .d (.list 3 (List.map encImage p0))), (3, vI (IntKind.wrap .i64 (y1 + 1)))] (by kernel_rfl) <| OWk.done (by kernel_rfl) ?_
        cases h
        exact ⟨(IntKind.wrap .i64 (y1 + 1)), rfl, by kernel_rfl⟩
    · replace h := bif_f hc h
      refine SW.kp 16 H [] [] (by kernel_rfl) <| SW.exit <| thenS_e ?_
      cases h
      refine thenS_e ?_
      exact ⟨_, rfl, .inl ⟨(), rfl, rfl, rfl⟩⟩
  · rintro _ _ (⟨v5, rfl, rfl, rfl⟩ | ⟨r6, rfl, rfl, hE⟩)
    · replace h := sum_l h
      refine blockS_hit <| thenS_n <| SW.seq <| SW.regionK <| OWk.sg 16 H [] [2] 1 [(2, vB true)] (by kernel_rfl) <| OWk.done (by kernel_rfl) <| thenS_n <| SW.ret ?_
      cases h
      exact EndQ.ret [] (by kernel_rfl) rfl
    · replace h := sum_r h
      refine blockS_r <| thenS_r ?_
      cases h
      exact hE

def r_state_l1 (fuel : Nat) (p0 : (List Image)) (y1 : Int) : Option ((Int) ⊕ ((Unit) ⊕ ((Bool)))) :=
  bif (decide (y1 < (p0.length : Int))) then
    (idx p0 y1).bind fun x2 =>
    bif (!x2.Has) then
      some (.inr (.inr false))
    else
      bif (decide (y1 > 0)) then
        (idx p0 y1).bind fun x3 =>
        (idx p0 (IntKind.wrap .i64 (y1 - 1))).bind fun x4 =>
        bif ((Op.bytesLess x3.Key x4.Key) || (x3.Key == x4.Key)) then
          some (.inr (.inr false))
        else
          some (.inl (IntKind.wrap .i64 (y1 + 1)))
      else
        some (.inl (IntKind.wrap .i64 (y1 + 1)))
  else
    some (.inr (.inl ()))

def r_state (fuel : Nat) (p0 : (List Image)) : Option (Bool) :=
  (iter (r_state_l1 fuel p0) fuel 0).bind (Sum.elim (fun v6 =>
    (r_images fuel p0).bind fun r7 =>
    bif r7 then
      some (decide ((p0.length : Int) ≤ 500))
    else
      some false) (fun r8 =>
    some r8))

theorem r_state_ok {fuel : Nat} {p0 : (List Image)} {r : Bool} (h : r_state fuel p0 = some r) : PC Try.prog 51 [.d (.list 3 (List.map encImage p0))] (vB r) := by
  refine PC.of_SW Try.func51 rfl fun H => ?_
  unfold r_state at h
  refine SW.kp 41 H [0] [(0, .d (.list 3 (List.map encImage p0)))] (by kernel_rfl) <| SW.seq <| SW.regionK <| OWk.sg 41 H [] [0] 1 [(0, .d (.list 3 (List.map encImage p0)))] (by kernel_rfl) <| OWk.done (by kernel_rfl) <| thenS_n <| SW.seq <| SW.seq <| SW.regionK <| OWk.sg 41 H [] [0, 3] 1 [(0, .d (.list 3 (List.map encImage p0))), (3, vI 0)] (by kernel_rfl) <| OWk.done (by kernel_rfl) <| thenS_n <| SW.block ?_
  obtain ⟨z5, hit, h⟩ := bind_inv h
  refine SW.it 41 H [0, 3] (fun y1 => [(0, .d (.list 3 (List.map encImage p0))), (3, vI y1)]) (fun b e s => ((∃ v6, b = (.inl v6) ∧ (e = .exit 0 ∧ s = (sp 41 [(0, .d (.list 3 (List.map encImage p0)))] H))) ∨ (∃ r8, b = (.inr r8) ∧ (e = .ret ∧ EndQ Try.prog Try.f51.results.toList H (vB r8) .ret s)))) hit (by kernel_rfl) (fun y1 o h => ?_) ?_
  · unfold r_state_l1 at h
    refine SW.seq <| SW.seq <| SW.regionK <| OWk.sg 41 H [] [0, 3, 4, 5] 2 [(0, .d (.list 3 (List.map encImage p0))), (3, vI y1), (4, vI y1), (5, .d (.list 3 (List.map encImage p0)))] (by kernel_rfl) <| OWk.on 41 H (d := some 6) [0, 3, 4, 6] [(0, .d (.list 3 (List.map encImage p0))), (3, vI y1), (4, vI y1), (6, vI (p0.length : Int))] (BAt.len (enc := encImage) (xs := p0) (by kernel_rfl)) (by kernel_rfl) <| OWk.sg 41 H [] [0, 3, 7] 1 [(0, .d (.list 3 (List.map encImage p0))), (3, vI y1), (7, vB (decide (y1 < (p0.length : Int))))] (by kernel_rfl) <| OWk.done (by kernel_rfl) <| thenS_n ?_
    refine SW.condB (b := (decide (y1 < (p0.length : Int)))) (by kernel_rfl) (fun hc => ?_) (fun hc => ?_)
    · replace h := bif_t hc h
      refine SW.skip <| thenS_n <| SW.seq <| SW.block <| SW.seq <| SW.regionDk (by kernel_rfl) (by kernel_rfl) <| OBk.sg 41 H [] [0, 3, 10, 11] 2 [(0, .d (.list 3 (List.map encImage p0))), (3, vI y1), (10, .d (.list 3 (List.map encImage p0))), (11, vI y1)] (by kernel_rfl) (by kernel_rfl) ?_
      obtain ⟨x2, hx, h⟩ := bind_inv h
      refine OBk.on 41 H (d := some 12) (s := lendP none (Go.Sh.D.cells (encImage x2))) [0, 3, 12] [(0, .d (.list 3 (List.map encImage p0))), (3, vI y1), (12, .d (.dptr [.str x2.Key, .bool x2.Has, .str x2.Text]))] (by kernel_rfl) (BAt.index (n := 3) hx (by kernel_rfl)) (by kernel_rfl) <| OBk.sg 41 H [] [0, 3, 16] 4 [(0, .d (.list 3 (List.map encImage p0))), (3, vI y1), (16, vB (!x2.Has))] (by kernel_rfl) (by kernel_rfl) ?_
      refine OBk.case (!x2.Has) (fun b => (sp 41 [(0, .d (.list 3 (List.map encImage p0))), (3, vI y1), (16, vB b)] H)) (by kernel_rfl) (fun hc => ?_) (fun hc => ?_)
      · replace h := bif_t hc h
        refine OBk.sg 41 H [] [0, 3, 33] 17 [(0, .d (.list 3 (List.map encImage p0))), (3, vI y1), (33, vB true)] (by kernel_rfl) (by kernel_rfl) <| OBk.done (by kernel_rfl) <| thenS_n <| SW.condT (by kernel_rfl) <| SW.seq <| SW.regionK <| OWk.sg 41 H [] [2] 1 [(2, vB false)] (by kernel_rfl) <| OWk.done (by kernel_rfl) <| thenS_n <| SW.ret <| blockS_r <| thenS_r ?_
        cases h
        refine thenS_r ?_
        exact ⟨_, rfl, .inr (⟨false, rfl, rfl, EndQ.ret [] (by kernel_rfl) rfl⟩)⟩
      · replace h := bif_f hc h
        refine OBk.sg 41 H [] [0, 3, 16, 19] 3 [(0, .d (.list 3 (List.map encImage p0))), (3, vI y1), (16, vB false), (19, vB (decide (y1 > 0)))] (by kernel_rfl) (by kernel_rfl) ?_
        refine OBk.case (decide (y1 > 0)) (fun b => (sp 41 [(0, .d (.list 3 (List.map encImage p0))), (3, vI y1), (16, vB false), (19, vB b)] H)) (by kernel_rfl) (fun hc => ?_) (fun hc => ?_)
        · replace h := bif_t hc h
          refine OBk.sg 41 H [] [0, 3, 16, 19, 20, 21] 2 [(0, .d (.list 3 (List.map encImage p0))), (3, vI y1), (16, vB false), (19, vB true), (20, .d (.list 3 (List.map encImage p0))), (21, vI y1)] (by kernel_rfl) (by kernel_rfl) ?_
          obtain ⟨x3, hx, h⟩ := bind_inv h
          refine OBk.on 41 H (d := some 22) (s := lendP none (Go.Sh.D.cells (encImage x3))) [0, 3, 16, 19, 22] [(0, .d (.list 3 (List.map encImage p0))), (3, vI y1), (16, vB false), (19, vB true), (22, .d (.dptr [.str x3.Key, .bool x3.Has, .str x3.Text]))] (by kernel_rfl) (BAt.index (n := 3) hx (by kernel_rfl)) (by kernel_rfl) <| OBk.sg 41 H [] [0, 3, 16, 19, 24, 25, 27] 5 [(0, .d (.list 3 (List.map encImage p0))), (3, vI y1), (16, vB false), (19, vB true), (24, vS x3.Key), (25, .d (.list 3 (List.map encImage p0))), (27, vI (IntKind.wrap .i64 (y1 - 1)))] (by kernel_rfl) (by kernel_rfl) ?_
          obtain ⟨x4, hx, h⟩ := bind_inv h
          refine OBk.on 41 H (d := some 28) (s := lendP none (Go.Sh.D.cells (encImage x4))) [0, 3, 16, 19, 24, 28] [(0, .d (.list 3 (List.map encImage p0))), (3, vI y1), (16, vB false), (19, vB true), (24, vS x3.Key), (28, .d (.dptr [.str x4.Key, .bool x4.Has, .str x4.Text]))] (by kernel_rfl) (BAt.index (n := 3) hx (by kernel_rfl)) (by kernel_rfl) <| OBk.sg 41 H [] [0, 3, 33] 5 [(0, .d (.list 3 (List.map encImage p0))), (3, vI y1), (33, vB ((Op.bytesLess x3.Key x4.Key) || (x3.Key == x4.Key)))] (by kernel_rfl) (by kernel_rfl) <| OBk.done (by kernel_rfl) <| thenS_n ?_
          refine SW.condB (b := ((Op.bytesLess x3.Key x4.Key) || (x3.Key == x4.Key))) (by kernel_rfl) (fun hc => ?_) (fun hc => ?_)
          · replace h := bif_t hc h
            refine SW.seq <| SW.regionK <| OWk.sg 41 H [] [2] 1 [(2, vB false)] (by kernel_rfl) <| OWk.done (by kernel_rfl) <| thenS_n <| SW.ret <| blockS_r <| thenS_r ?_
            cases h
            refine thenS_r ?_
            exact ⟨_, rfl, .inr (⟨false, rfl, rfl, EndQ.ret [] (by kernel_rfl) rfl⟩)⟩
          · replace h := bif_f hc h
            refine SW.skip <| blockS_n <| thenS_n <| SW.regionK <| OWk.sg 41 H [] [0, 3] 3 [(0, .d (.list 3 (List.map encImage p0))), (3, vI (IntKind.wrap .i64 (y1 + 1)))] (by kernel_rfl) <| OWk.done (by kernel_rfl) ?_
            cases h
            exact ⟨(IntKind.wrap .i64 (y1 + 1)), rfl, by kernel_rfl⟩
        · replace h := bif_f hc h
          refine OBk.sg 41 H [] [0, 3, 33] 14 [(0, .d (.list 3 (List.map encImage p0))), (3, vI y1), (33, vB false)] (by kernel_rfl) (by kernel_rfl) <| OBk.done (by kernel_rfl) <| thenS_n <| SW.condF (by kernel_rfl) <| SW.skip <| blockS_n <| thenS_n <| SW.regionK <| OWk.sg 41 H [] [0, 3] 3 [(0, .d (.list 3 (List.map encImage p0))), (3, vI (IntKind.wrap .i64 (y1 + 1)))] (by kernel_rfl) <| OWk.done (by kernel_rfl) ?_
          cases h
          exact ⟨(IntKind.wrap .i64 (y1 + 1)), rfl, by kernel_rfl⟩
    · replace h := bif_f hc h
      refine SW.kp 41 H [0] [(0, .d (.list 3 (List.map encImage p0)))] (by kernel_rfl) <| SW.exit <| thenS_e ?_
      cases h
      refine thenS_e ?_
      exact ⟨_, rfl, .inl ⟨(), rfl, rfl, rfl⟩⟩
  · rintro _ _ (⟨v6, rfl, rfl, rfl⟩ | ⟨r8, rfl, rfl, hE⟩)
    · replace h := sum_l h
      refine blockS_hit <| thenS_n <| SW.seq <| SW.regionK <| OWk.sg 41 H [] [0, 34] 1 [(0, .d (.list 3 (List.map encImage p0))), (34, .d (.list 3 (List.map encImage p0)))] (by kernel_rfl) ?_
      obtain ⟨r7, hr, h⟩ := bind_inv h
      refine OWk.cl 41 H (d := some 35) (ls := []) (gs := []) [] [0, 35] [(0, .d (.list 3 (List.map encImage p0))), (35, vB r7)] (r_images_ok hr) (by kernel_rfl) (by kernel_rfl) (by kernel_rfl) <| OWk.sg 41 H [] [0, 36] 1 [(0, .d (.list 3 (List.map encImage p0))), (36, vB r7)] (by kernel_rfl) ?_
      refine OWk.case r7 (fun b => (sp 41 [(0, .d (.list 3 (List.map encImage p0))), (36, vB b)] H)) (by kernel_rfl) (fun hc => ?_) (fun hc => ?_)
      · replace h := bif_t hc h
        refine OWk.sg 41 H [] [36, 37] 1 [(36, vB true), (37, .d (.list 3 (List.map encImage p0)))] (by kernel_rfl) <| OWk.on 41 H (d := some 38) [36, 38] [(36, vB true), (38, vI (p0.length : Int))] (BAt.len (enc := encImage) (xs := p0) (by kernel_rfl)) (by kernel_rfl) <| OWk.sg 41 H [] [2] 3 [(2, vB (decide ((p0.length : Int) ≤ 500)))] (by kernel_rfl) <| OWk.done (by kernel_rfl) <| thenS_n <| SW.ret ?_
        cases h
        exact EndQ.ret [] (by kernel_rfl) rfl
      · replace h := bif_f hc h
        refine OWk.sg 41 H [] [2] 5 [(2, vB false)] (by kernel_rfl) <| OWk.done (by kernel_rfl) <| thenS_n <| SW.ret ?_
        cases h
        exact EndQ.ret [] (by kernel_rfl) rfl
    · replace h := sum_r h
      refine blockS_r <| thenS_r ?_
      cases h
      exact hE

def r_applied_l1 (fuel : Nat) (p1 : (List Image)) (y1 : (List Image) × Int) (y2 : Int) : Option ((Int) ⊕ (Int)) :=
  bif (decide (y2 < (y1.1.length : Int))) then
    (idx y1.1 y2).bind fun x3 =>
    (idx p1 y1.2).bind fun x4 =>
    bif (Op.bytesLess x3.Key x4.Key) then
      some (.inl (IntKind.wrap .i64 (y2 + 1)))
    else
      some (.inr y2)
  else
    some (.inr y2)

def r_applied_l2 (fuel : Nat) (p1 : (List Image)) (y1 : (List Image) × Int) : Option (((List Image) × Int) ⊕ ((List Image))) :=
  bif (decide (y1.2 < (p1.length : Int))) then
    (iter (r_applied_l1 fuel p1 y1) fuel 0).bind fun v6 =>
    chk (slOk y1.1 v6 (y1.1.length : Int)) <|
    letJ (fun (j7 : (List Image)) =>
      chk (slOk y1.1 0 v6) <|
      chk (decide ((([] : List Image) ++ (sl y1.1 0 v6)).length ≤ room)) <|
      (idx p1 y1.2).bind fun x11 =>
      bif x11.Has then
        (idx p1 y1.2).bind fun x12 =>
        chk (decide (((([] : List Image) ++ (sl y1.1 0 v6)) ++ [x12]).length ≤ room)) <|
        chk (decide ((((([] : List Image) ++ (sl y1.1 0 v6)) ++ [x12]) ++ j7).length ≤ room)) <|
        some (.inl ((((([] : List Image) ++ (sl y1.1 0 v6)) ++ [x12]) ++ j7), (IntKind.wrap .i64 (y1.2 + 1))))
      else
        chk (decide (((([] : List Image) ++ (sl y1.1 0 v6)) ++ j7).length ≤ room)) <|
        some (.inl (((([] : List Image) ++ (sl y1.1 0 v6)) ++ j7), (IntKind.wrap .i64 (y1.2 + 1))))) fun jp8 =>
    bif (decide (((sl y1.1 v6 (y1.1.length : Int)).length : Int) > 0)) then
      (idx (sl y1.1 v6 (y1.1.length : Int)) 0).bind fun x9 =>
      (idx p1 y1.2).bind fun x10 =>
      bif (x9.Key == x10.Key) then
        chk (slOk (sl y1.1 v6 (y1.1.length : Int)) 1 ((sl y1.1 v6 (y1.1.length : Int)).length : Int)) <|
        jp8 (sl (sl y1.1 v6 (y1.1.length : Int)) 1 ((sl y1.1 v6 (y1.1.length : Int)).length : Int))
      else
        jp8 (sl y1.1 v6 (y1.1.length : Int))
    else
      jp8 (sl y1.1 v6 (y1.1.length : Int))
  else
    some (.inr y1.1)

def r_applied (fuel : Nat) (p0 : (List Image)) (p1 : (List Image)) : Option ((List Image)) :=
  chk (decide ((([] : List Image) ++ p0).length ≤ room)) <|
  (iter (r_applied_l2 fuel p1) fuel ((([] : List Image) ++ p0), 0)).bind fun v14 =>
  some v14

theorem r_applied_ok {fuel : Nat} {p0 : (List Image)} {p1 : (List Image)} {r : (List Image)} (h : r_applied fuel p0 p1 = some r) : PC Try.prog 53 [.d (.list 3 (List.map encImage p0)), .d (.list 3 (List.map encImage p1))] (.own 3 (List.map encImage r)) := by
  refine PC.of_SW Try.func53 rfl fun H => ?_
  unfold r_applied at h
  refine SW.kp 79 H [0, 1] [(0, .d (.list 3 (List.map encImage p0))), (1, .d (.list 3 (List.map encImage p1)))] (by kernel_rfl) <| SW.seq <| SW.regionK <| OWk.sg 79 H [] [0, 1] 1 [(0, .d (.list 3 (List.map encImage p0))), (1, .d (.list 3 (List.map encImage p1)))] (by kernel_rfl) <| OWk.done (by kernel_rfl) <| thenS_n <| SW.seq <| SW.regionK <| OWk.sg 79 H [10] [1, 10, 11] 2 [(1, .d (.list 3 (List.map encImage p1))), (10, .own 3 (List.map encImage ([] : List Image))), (11, .d (.list 3 (List.map encImage p0)))] (by kernel_rfl) ?_
  obtain ⟨hk, h⟩ := chk_inv h
  refine OWk.app 79 H (s := 10) (d := 12) (w := 3) [1, 12] (zs := List.map encImage (([] : List Image) ++ p0)) [(1, .d (.list 3 (List.map encImage p1))), (12, .own 3 (List.map encImage (([] : List Image) ++ p0)))] (ys := (List.map encImage p0)) (by kernel_rfl) (map_append') (room_map hk) (by kernel_rfl) <| OWk.sg 79 H [10] [1, 5] 1 [(1, .d (.list 3 (List.map encImage p1))), (5, .own 3 (List.map encImage (([] : List Image) ++ p0)))] (by kernel_rfl) <| OWk.done (by kernel_rfl) <| thenS_n <| SW.seq <| SW.seq <| SW.regionK <| OWk.sg 79 H [] [1, 5, 6] 1 [(1, .d (.list 3 (List.map encImage p1))), (5, .own 3 (List.map encImage (([] : List Image) ++ p0))), (6, vI 0)] (by kernel_rfl) <| OWk.done (by kernel_rfl) <| thenS_n <| SW.block ?_
  obtain ⟨v14, hit, h⟩ := bind_inv h
  refine SW.it 79 H [1, 5, 6] (fun y1 => [(1, .d (.list 3 (List.map encImage p1))), (5, .own 3 (List.map encImage y1.1)), (6, vI y1.2)]) (fun v14 e s => (e = .exit 0 ∧ s = (sp 79 [(5, .own 3 (List.map encImage v14))] H))) hit (by kernel_rfl) (fun y1 o h => ?_) ?_
  · unfold r_applied_l2 at h
    refine SW.seq <| SW.seq <| SW.regionK <| OWk.sg 79 H [] [1, 5, 6, 13, 14] 2 [(1, .d (.list 3 (List.map encImage p1))), (5, .own 3 (List.map encImage y1.1)), (6, vI y1.2), (13, vI y1.2), (14, .d (.list 3 (List.map encImage p1)))] (by kernel_rfl) <| OWk.on 79 H (d := some 15) [1, 5, 6, 13, 15] [(1, .d (.list 3 (List.map encImage p1))), (5, .own 3 (List.map encImage y1.1)), (6, vI y1.2), (13, vI y1.2), (15, vI (p1.length : Int))] (BAt.len (enc := encImage) (xs := p1) (by kernel_rfl)) (by kernel_rfl) <| OWk.sg 79 H [] [1, 5, 6, 16] 1 [(1, .d (.list 3 (List.map encImage p1))), (5, .own 3 (List.map encImage y1.1)), (6, vI y1.2), (16, vB (decide (y1.2 < (p1.length : Int))))] (by kernel_rfl) <| OWk.done (by kernel_rfl) <| thenS_n ?_
    refine SW.condB (b := (decide (y1.2 < (p1.length : Int)))) (by kernel_rfl) (fun hc => ?_) (fun hc => ?_)
    · replace h := bif_t hc h
      refine SW.skip <| thenS_n <| SW.seq <| SW.block <| SW.seq <| SW.regionK <| OWk.sg 79 H [] [1, 5, 6, 7] 1 [(1, .d (.list 3 (List.map encImage p1))), (5, .own 3 (List.map encImage y1.1)), (6, vI y1.2), (7, vI 0)] (by kernel_rfl) <| OWk.done (by kernel_rfl) <| thenS_n <| SW.seq <| SW.block ?_
      obtain ⟨v6, hit, h⟩ := bind_inv h
      refine SW.it 79 H [1, 5, 6, 7] (fun y2 => [(1, .d (.list 3 (List.map encImage p1))), (5, .own 3 (List.map encImage y1.1)), (6, vI y1.2), (7, vI y2)]) (fun v6 e s => (e = .exit 2 ∧ s = (sp 79 [(1, .d (.list 3 (List.map encImage p1))), (5, .own 3 (List.map encImage y1.1)), (6, vI y1.2), (7, vI v6)] H))) hit (by kernel_rfl) (fun y2 o h => ?_) ?_
      · unfold r_applied_l1 at h
        refine SW.seq <| SW.seq <| SW.regionDk (by kernel_rfl) (by kernel_rfl) <| OBk.sg 79 H [] [1, 5, 6, 7, 19, 20] 2 [(1, .d (.list 3 (List.map encImage p1))), (5, .own 3 (List.map encImage y1.1)), (6, vI y1.2), (7, vI y2), (19, vI y2), (20, .lent (.slot 5) 3 (List.map encImage y1.1))] (by kernel_rfl) (by kernel_rfl) <| OBk.on 79 H (d := some 21) [1, 5, 6, 7, 19, 21] [(1, .d (.list 3 (List.map encImage p1))), (5, .own 3 (List.map encImage y1.1)), (6, vI y1.2), (7, vI y2), (19, vI y2), (21, vI (y1.1.length : Int))] (by kernel_rfl) (BAt.len (enc := encImage) (xs := y1.1) (by kernel_rfl)) (by kernel_rfl) <| OBk.sg 79 H [] [1, 5, 6, 7, 23] 2 [(1, .d (.list 3 (List.map encImage p1))), (5, .own 3 (List.map encImage y1.1)), (6, vI y1.2), (7, vI y2), (23, vB (decide (y2 < (y1.1.length : Int))))] (by kernel_rfl) (by kernel_rfl) ?_
        refine OBk.case (decide (y2 < (y1.1.length : Int))) (fun b => (sp 79 [(1, .d (.list 3 (List.map encImage p1))), (5, .own 3 (List.map encImage y1.1)), (6, vI y1.2), (7, vI y2), (23, vB b)] H)) (by kernel_rfl) (fun hc => ?_) (fun hc => ?_)
        · replace h := bif_t hc h
          refine OBk.sg 79 H [] [1, 5, 6, 7, 23, 24, 25] 2 [(1, .d (.list 3 (List.map encImage p1))), (5, .own 3 (List.map encImage y1.1)), (6, vI y1.2), (7, vI y2), (23, vB true), (24, .lent (.slot 5) 3 (List.map encImage y1.1)), (25, vI y2)] (by kernel_rfl) (by kernel_rfl) ?_
          obtain ⟨x3, hx, h⟩ := bind_inv h
          refine OBk.on 79 H (d := some 26) (s := lendP (some (.slot 5)) (Go.Sh.D.cells (encImage x3))) [1, 5, 6, 7, 23, 26] [(1, .d (.list 3 (List.map encImage p1))), (5, .own 3 (List.map encImage y1.1)), (6, vI y1.2), (7, vI y2), (23, vB true), (26, .lptr (.slot 5) [.str x3.Key, .bool x3.Has, .str x3.Text])] (by kernel_rfl) (BAt.index (n := 3) hx (by kernel_rfl)) (by kernel_rfl) <| OBk.sg 79 H [] [1, 5, 6, 7, 23, 28, 29, 30] 4 [(1, .d (.list 3 (List.map encImage p1))), (5, .own 3 (List.map encImage y1.1)), (6, vI y1.2), (7, vI y2), (23, vB true), (28, vS x3.Key), (29, .d (.list 3 (List.map encImage p1))), (30, vI y1.2)] (by kernel_rfl) (by kernel_rfl) ?_
          obtain ⟨x4, hx, h⟩ := bind_inv h
          refine OBk.on 79 H (d := some 31) (s := lendP none (Go.Sh.D.cells (encImage x4))) [1, 5, 6, 7, 23, 28, 31] [(1, .d (.list 3 (List.map encImage p1))), (5, .own 3 (List.map encImage y1.1)), (6, vI y1.2), (7, vI y2), (23, vB true), (28, vS x3.Key), (31, .d (.dptr [.str x4.Key, .bool x4.Has, .str x4.Text]))] (by kernel_rfl) (BAt.index (n := 3) hx (by kernel_rfl)) (by kernel_rfl) <| OBk.sg 79 H [] [1, 5, 6, 7, 35] 4 [(1, .d (.list 3 (List.map encImage p1))), (5, .own 3 (List.map encImage y1.1)), (6, vI y1.2), (7, vI y2), (35, vB (Op.bytesLess x3.Key x4.Key))] (by kernel_rfl) (by kernel_rfl) <| OBk.done (by kernel_rfl) <| thenS_n ?_
          refine SW.condB (b := (Op.bytesLess x3.Key x4.Key)) (by kernel_rfl) (fun hc => ?_) (fun hc => ?_)
          · replace h := bif_t hc h
            refine SW.skip <| thenS_n <| SW.block <| SW.regionK <| OWk.sg 79 H [] [1, 5, 6, 7] 3 [(1, .d (.list 3 (List.map encImage p1))), (5, .own 3 (List.map encImage y1.1)), (6, vI y1.2), (7, vI (IntKind.wrap .i64 (y2 + 1)))] (by kernel_rfl) <| OWk.done (by kernel_rfl) <| blockS_n ?_
            cases h
            exact ⟨(IntKind.wrap .i64 (y2 + 1)), rfl, by kernel_rfl⟩
          · replace h := bif_f hc h
            refine SW.kp 79 H [1, 5, 6, 7] [(1, .d (.list 3 (List.map encImage p1))), (5, .own 3 (List.map encImage y1.1)), (6, vI y1.2), (7, vI y2)] (by kernel_rfl) <| SW.exit <| thenS_e ?_
            cases h
            refine thenS_e ?_
            exact ⟨_, rfl, ⟨rfl, rfl⟩⟩
        · replace h := bif_f hc h
          refine OBk.sg 79 H [] [1, 5, 6, 7, 35] 12 [(1, .d (.list 3 (List.map encImage p1))), (5, .own 3 (List.map encImage y1.1)), (6, vI y1.2), (7, vI y2), (35, vB false)] (by kernel_rfl) (by kernel_rfl) <| OBk.done (by kernel_rfl) <| thenS_n <| SW.condF (by kernel_rfl) <| SW.kp 79 H [1, 5, 6, 7] [(1, .d (.list 3 (List.map encImage p1))), (5, .own 3 (List.map encImage y1.1)), (6, vI y1.2), (7, vI y2)] (by kernel_rfl) <| SW.exit <| thenS_e ?_
          cases h
          refine thenS_e ?_
          exact ⟨_, rfl, ⟨rfl, rfl⟩⟩
      · rintro _ _ ⟨rfl, rfl⟩
        refine blockS_hit <| thenS_n <| SW.seq <| SW.regionK <| OWk.sg 79 H [] [1, 5, 6, 7, 38, 39] 2 [(1, .d (.list 3 (List.map encImage p1))), (5, .own 3 (List.map encImage y1.1)), (6, vI y1.2), (7, vI v6), (38, .lent (.slot 5) 3 (List.map encImage y1.1)), (39, vI v6)] (by kernel_rfl) ?_
        obtain ⟨hk, h⟩ := chk_inv h
        refine OWk.on 79 H (d := some 40) (s := lendL (some (.slot 5)) 3 (List.map encImage (sl y1.1 v6 (y1.1.length : Int)))) [1, 5, 6, 7, 40] [(1, .d (.list 3 (List.map encImage p1))), (5, .own 3 (List.map encImage y1.1)), (6, vI y1.2), (7, vI v6), (40, .lent (.slot 5) 3 (List.map encImage (sl y1.1 v6 (y1.1.length : Int))))] (BAt.slice hk (by kernel_rfl)) (by kernel_rfl) <| OWk.sg 79 H [] [1, 5, 6, 7, 8] 1 [(1, .d (.list 3 (List.map encImage p1))), (5, .own 3 (List.map encImage y1.1)), (6, vI y1.2), (7, vI v6), (8, .lent (.slot 5) 3 (List.map encImage (sl y1.1 v6 (y1.1.length : Int))))] (by kernel_rfl) <| OWk.done (by kernel_rfl) <| thenS_n ?_
        obtain ⟨jp8, hjjp8, h⟩ := letJ_inv h
        refine SW.jn 79 H [1, 5, 6, 7, 8] (fun (j7 : (List Image)) => [(1, .d (.list 3 (List.map encImage p1))), (5, .own 3 (List.map encImage y1.1)), (6, vI y1.2), (7, vI v6), (8, .lent (.slot 5) 3 (List.map encImage j7))]) (fun v => jp8 v = some o) (fun j7 h => ?_) ?_
        · rw [hjjp8] at h
          refine SW.seq <| SW.regionK <| OWk.sg 79 H [58] [1, 6, 8, 58, 59, 60] 3 [(1, .d (.list 3 (List.map encImage p1))), (6, vI y1.2), (8, .lent (.slot 5) 3 (List.map encImage j7)), (58, .own 3 (List.map encImage ([] : List Image))), (59, .lent (.slot 5) 3 (List.map encImage y1.1)), (60, vI v6)] (by kernel_rfl) ?_
          obtain ⟨hk, h⟩ := chk_inv h
          refine OWk.on 79 H (d := some 61) (s := lendL (some (.slot 5)) 3 (List.map encImage (sl y1.1 0 v6))) [1, 6, 8, 58, 61] [(1, .d (.list 3 (List.map encImage p1))), (6, vI y1.2), (8, .lent (.slot 5) 3 (List.map encImage j7)), (58, .own 3 (List.map encImage ([] : List Image))), (61, .lent (.slot 5) 3 (List.map encImage (sl y1.1 0 v6)))] (BAt.slice hk (by kernel_rfl)) (by kernel_rfl) ?_
          obtain ⟨hk, h⟩ := chk_inv h
          refine OWk.app 79 H (s := 58) (d := 62) (w := 3) [1, 6, 8, 62] (zs := List.map encImage (([] : List Image) ++ (sl y1.1 0 v6))) [(1, .d (.list 3 (List.map encImage p1))), (6, vI y1.2), (8, .lent (.slot 5) 3 (List.map encImage j7)), (62, .own 3 (List.map encImage (([] : List Image) ++ (sl y1.1 0 v6))))] (ys := (List.map encImage (sl y1.1 0 v6))) (by kernel_rfl) (map_append') (room_map hk) (by kernel_rfl) <| OWk.sg 79 H [58] [1, 6, 8, 9] 1 [(1, .d (.list 3 (List.map encImage p1))), (6, vI y1.2), (8, .lent (.slot 5) 3 (List.map encImage j7)), (9, .own 3 (List.map encImage (([] : List Image) ++ (sl y1.1 0 v6))))] (by kernel_rfl) <| OWk.done (by kernel_rfl) <| thenS_n <| SW.seq <| SW.seq <| SW.regionK <| OWk.sg 79 H [] [1, 6, 8, 9, 63, 64] 2 [(1, .d (.list 3 (List.map encImage p1))), (6, vI y1.2), (8, .lent (.slot 5) 3 (List.map encImage j7)), (9, .own 3 (List.map encImage (([] : List Image) ++ (sl y1.1 0 v6)))), (63, .d (.list 3 (List.map encImage p1))), (64, vI y1.2)] (by kernel_rfl) ?_
          obtain ⟨x11, hx, h⟩ := bind_inv h
          refine OWk.on 79 H (d := some 65) (s := lendP none (Go.Sh.D.cells (encImage x11))) [1, 6, 8, 9, 65] [(1, .d (.list 3 (List.map encImage p1))), (6, vI y1.2), (8, .lent (.slot 5) 3 (List.map encImage j7)), (9, .own 3 (List.map encImage (([] : List Image) ++ (sl y1.1 0 v6)))), (65, .d (.dptr [.str x11.Key, .bool x11.Has, .str x11.Text]))] (BAt.index (n := 3) hx (by kernel_rfl)) (by kernel_rfl) <| OWk.sg 79 H [] [1, 6, 8, 9, 67] 2 [(1, .d (.list 3 (List.map encImage p1))), (6, vI y1.2), (8, .lent (.slot 5) 3 (List.map encImage j7)), (9, .own 3 (List.map encImage (([] : List Image) ++ (sl y1.1 0 v6)))), (67, vB x11.Has)] (by kernel_rfl) <| OWk.done (by kernel_rfl) <| thenS_n ?_
          refine SW.condB (b := x11.Has) (by kernel_rfl) (fun hc => ?_) (fun hc => ?_)
          · replace h := bif_t hc h
            refine SW.regionK <| OWk.sg 79 H [68] [1, 6, 8, 68, 69, 70] 3 [(1, .d (.list 3 (List.map encImage p1))), (6, vI y1.2), (8, .lent (.slot 5) 3 (List.map encImage j7)), (68, .own 3 (List.map encImage (([] : List Image) ++ (sl y1.1 0 v6)))), (69, .d (.list 3 (List.map encImage p1))), (70, vI y1.2)] (by kernel_rfl) ?_
            obtain ⟨x12, hx, h⟩ := bind_inv h
            refine OWk.on 79 H (d := some 71) (s := lendP none (Go.Sh.D.cells (encImage x12))) [1, 6, 8, 68, 71] [(1, .d (.list 3 (List.map encImage p1))), (6, vI y1.2), (8, .lent (.slot 5) 3 (List.map encImage j7)), (68, .own 3 (List.map encImage (([] : List Image) ++ (sl y1.1 0 v6)))), (71, .d (.dptr [.str x12.Key, .bool x12.Has, .str x12.Text]))] (BAt.index (n := 3) hx (by kernel_rfl)) (by kernel_rfl) <| OWk.sg 79 H [68] [1, 6, 8, 68, 73] 2 [(1, .d (.list 3 (List.map encImage p1))), (6, vI y1.2), (8, .lent (.slot 5) 3 (List.map encImage j7)), (68, .own 3 (List.map encImage (([] : List Image) ++ (sl y1.1 0 v6)))), (73, .own 3 (List.map encImage [x12]))] (by kernel_rfl) ?_
            obtain ⟨hk, h⟩ := chk_inv h
            refine OWk.app 79 H (s := 68) (d := 74) (w := 3) [1, 6, 8, 74] (zs := List.map encImage ((([] : List Image) ++ (sl y1.1 0 v6)) ++ [x12])) [(1, .d (.list 3 (List.map encImage p1))), (6, vI y1.2), (8, .lent (.slot 5) 3 (List.map encImage j7)), (74, .own 3 (List.map encImage ((([] : List Image) ++ (sl y1.1 0 v6)) ++ [x12])))] (ys := (List.map encImage [x12])) (by kernel_rfl) (map_append') (room_map hk) (by kernel_rfl) <| OWk.sg 79 H [68] [1, 6, 8, 9] 1 [(1, .d (.list 3 (List.map encImage p1))), (6, vI y1.2), (8, .lent (.slot 5) 3 (List.map encImage j7)), (9, .own 3 (List.map encImage ((([] : List Image) ++ (sl y1.1 0 v6)) ++ [x12])))] (by kernel_rfl) <| OWk.done (by kernel_rfl) <| thenS_n <| SW.regionK <| OWk.sg 79 H [75] [1, 6, 75, 76] 2 [(1, .d (.list 3 (List.map encImage p1))), (6, vI y1.2), (75, .own 3 (List.map encImage ((([] : List Image) ++ (sl y1.1 0 v6)) ++ [x12]))), (76, .lent (.slot 5) 3 (List.map encImage j7))] (by kernel_rfl) ?_
            obtain ⟨hk, h⟩ := chk_inv h
            refine OWk.app 79 H (s := 75) (d := 77) (w := 3) [1, 6, 77] (zs := List.map encImage (((([] : List Image) ++ (sl y1.1 0 v6)) ++ [x12]) ++ j7)) [(1, .d (.list 3 (List.map encImage p1))), (6, vI y1.2), (77, .own 3 (List.map encImage (((([] : List Image) ++ (sl y1.1 0 v6)) ++ [x12]) ++ j7)))] (ys := (List.map encImage j7)) (by kernel_rfl) (map_append') (room_map hk) (by kernel_rfl) <| OWk.sg 79 H [75] [1, 5, 6] 1 [(1, .d (.list 3 (List.map encImage p1))), (5, .own 3 (List.map encImage (((([] : List Image) ++ (sl y1.1 0 v6)) ++ [x12]) ++ j7))), (6, vI y1.2)] (by kernel_rfl) <| OWk.done (by kernel_rfl) <| blockS_n <| thenS_n <| SW.regionK <| OWk.sg 79 H [] [1, 5, 6] 3 [(1, .d (.list 3 (List.map encImage p1))), (5, .own 3 (List.map encImage (((([] : List Image) ++ (sl y1.1 0 v6)) ++ [x12]) ++ j7))), (6, vI (IntKind.wrap .i64 (y1.2 + 1)))] (by kernel_rfl) <| OWk.done (by kernel_rfl) ?_
            cases h
            exact ⟨((((([] : List Image) ++ (sl y1.1 0 v6)) ++ [x12]) ++ j7), (IntKind.wrap .i64 (y1.2 + 1))), rfl, by kernel_rfl⟩
          · replace h := bif_f hc h
            refine SW.skip <| thenS_n <| SW.regionK <| OWk.sg 79 H [75] [1, 6, 75, 76] 2 [(1, .d (.list 3 (List.map encImage p1))), (6, vI y1.2), (75, .own 3 (List.map encImage (([] : List Image) ++ (sl y1.1 0 v6)))), (76, .lent (.slot 5) 3 (List.map encImage j7))] (by kernel_rfl) ?_
            obtain ⟨hk, h⟩ := chk_inv h
            refine OWk.app 79 H (s := 75) (d := 77) (w := 3) [1, 6, 77] (zs := List.map encImage ((([] : List Image) ++ (sl y1.1 0 v6)) ++ j7)) [(1, .d (.list 3 (List.map encImage p1))), (6, vI y1.2), (77, .own 3 (List.map encImage ((([] : List Image) ++ (sl y1.1 0 v6)) ++ j7)))] (ys := (List.map encImage j7)) (by kernel_rfl) (map_append') (room_map hk) (by kernel_rfl) <| OWk.sg 79 H [75] [1, 5, 6] 1 [(1, .d (.list 3 (List.map encImage p1))), (5, .own 3 (List.map encImage ((([] : List Image) ++ (sl y1.1 0 v6)) ++ j7))), (6, vI y1.2)] (by kernel_rfl) <| OWk.done (by kernel_rfl) <| blockS_n <| thenS_n <| SW.regionK <| OWk.sg 79 H [] [1, 5, 6] 3 [(1, .d (.list 3 (List.map encImage p1))), (5, .own 3 (List.map encImage ((([] : List Image) ++ (sl y1.1 0 v6)) ++ j7))), (6, vI (IntKind.wrap .i64 (y1.2 + 1)))] (by kernel_rfl) <| OWk.done (by kernel_rfl) ?_
            cases h
            exact ⟨(((([] : List Image) ++ (sl y1.1 0 v6)) ++ j7), (IntKind.wrap .i64 (y1.2 + 1))), rfl, by kernel_rfl⟩
        · refine SW.seq <| SW.regionDk (by kernel_rfl) (by kernel_rfl) <| OBk.sg 79 H [] [1, 5, 6, 7, 8, 41] 1 [(1, .d (.list 3 (List.map encImage p1))), (5, .own 3 (List.map encImage y1.1)), (6, vI y1.2), (7, vI v6), (8, .lent (.slot 5) 3 (List.map encImage (sl y1.1 v6 (y1.1.length : Int)))), (41, .lent (.slot 5) 3 (List.map encImage (sl y1.1 v6 (y1.1.length : Int))))] (by kernel_rfl) (by kernel_rfl) <| OBk.on 79 H (d := some 42) [1, 5, 6, 7, 8, 42] [(1, .d (.list 3 (List.map encImage p1))), (5, .own 3 (List.map encImage y1.1)), (6, vI y1.2), (7, vI v6), (8, .lent (.slot 5) 3 (List.map encImage (sl y1.1 v6 (y1.1.length : Int)))), (42, vI ((sl y1.1 v6 (y1.1.length : Int)).length : Int))] (by kernel_rfl) (BAt.len (enc := encImage) (xs := (sl y1.1 v6 (y1.1.length : Int))) (by kernel_rfl)) (by kernel_rfl) <| OBk.sg 79 H [] [1, 5, 6, 7, 8, 44] 2 [(1, .d (.list 3 (List.map encImage p1))), (5, .own 3 (List.map encImage y1.1)), (6, vI y1.2), (7, vI v6), (8, .lent (.slot 5) 3 (List.map encImage (sl y1.1 v6 (y1.1.length : Int)))), (44, vB (decide (((sl y1.1 v6 (y1.1.length : Int)).length : Int) > 0)))] (by kernel_rfl) (by kernel_rfl) ?_
          refine OBk.case (decide (((sl y1.1 v6 (y1.1.length : Int)).length : Int) > 0)) (fun b => (sp 79 [(1, .d (.list 3 (List.map encImage p1))), (5, .own 3 (List.map encImage y1.1)), (6, vI y1.2), (7, vI v6), (8, .lent (.slot 5) 3 (List.map encImage (sl y1.1 v6 (y1.1.length : Int)))), (44, vB b)] H)) (by kernel_rfl) (fun hc => ?_) (fun hc => ?_)
          · replace h := bif_t hc h
            refine OBk.sg 79 H [] [1, 5, 6, 7, 8, 44, 45] 1 [(1, .d (.list 3 (List.map encImage p1))), (5, .own 3 (List.map encImage y1.1)), (6, vI y1.2), (7, vI v6), (8, .lent (.slot 5) 3 (List.map encImage (sl y1.1 v6 (y1.1.length : Int)))), (44, vB true), (45, .lent (.slot 5) 3 (List.map encImage (sl y1.1 v6 (y1.1.length : Int))))] (by kernel_rfl) (by kernel_rfl) ?_
            obtain ⟨x9, hx, h⟩ := bind_inv h
            refine OBk.on 79 H (d := some 46) (s := lendP (some (.slot 5)) (Go.Sh.D.cells (encImage x9))) [1, 5, 6, 7, 8, 44, 46] [(1, .d (.list 3 (List.map encImage p1))), (5, .own 3 (List.map encImage y1.1)), (6, vI y1.2), (7, vI v6), (8, .lent (.slot 5) 3 (List.map encImage (sl y1.1 v6 (y1.1.length : Int)))), (44, vB true), (46, .lptr (.slot 5) [.str x9.Key, .bool x9.Has, .str x9.Text])] (by kernel_rfl) (BAt.index (n := 3) hx (by kernel_rfl)) (by kernel_rfl) <| OBk.sg 79 H [] [1, 5, 6, 7, 8, 44, 48, 49, 50] 4 [(1, .d (.list 3 (List.map encImage p1))), (5, .own 3 (List.map encImage y1.1)), (6, vI y1.2), (7, vI v6), (8, .lent (.slot 5) 3 (List.map encImage (sl y1.1 v6 (y1.1.length : Int)))), (44, vB true), (48, vS x9.Key), (49, .d (.list 3 (List.map encImage p1))), (50, vI y1.2)] (by kernel_rfl) (by kernel_rfl) ?_
            obtain ⟨x10, hx, h⟩ := bind_inv h
            refine OBk.on 79 H (d := some 51) (s := lendP none (Go.Sh.D.cells (encImage x10))) [1, 5, 6, 7, 8, 44, 48, 51] [(1, .d (.list 3 (List.map encImage p1))), (5, .own 3 (List.map encImage y1.1)), (6, vI y1.2), (7, vI v6), (8, .lent (.slot 5) 3 (List.map encImage (sl y1.1 v6 (y1.1.length : Int)))), (44, vB true), (48, vS x9.Key), (51, .d (.dptr [.str x10.Key, .bool x10.Has, .str x10.Text]))] (by kernel_rfl) (BAt.index (n := 3) hx (by kernel_rfl)) (by kernel_rfl) <| OBk.sg 79 H [] [1, 5, 6, 7, 8, 55] 4 [(1, .d (.list 3 (List.map encImage p1))), (5, .own 3 (List.map encImage y1.1)), (6, vI y1.2), (7, vI v6), (8, .lent (.slot 5) 3 (List.map encImage (sl y1.1 v6 (y1.1.length : Int)))), (55, vB (x9.Key == x10.Key))] (by kernel_rfl) (by kernel_rfl) <| OBk.done (by kernel_rfl) <| thenS_n ?_
            refine SW.condB (b := (x9.Key == x10.Key)) (by kernel_rfl) (fun hc => ?_) (fun hc => ?_)
            · replace h := bif_t hc h
              refine SW.regionK <| OWk.sg 79 H [] [1, 5, 6, 7, 56] 1 [(1, .d (.list 3 (List.map encImage p1))), (5, .own 3 (List.map encImage y1.1)), (6, vI y1.2), (7, vI v6), (56, .lent (.slot 5) 3 (List.map encImage (sl y1.1 v6 (y1.1.length : Int))))] (by kernel_rfl) ?_
              obtain ⟨hk, h⟩ := chk_inv h
              refine OWk.on 79 H (d := some 57) (s := lendL (some (.slot 5)) 3 (List.map encImage (sl (sl y1.1 v6 (y1.1.length : Int)) 1 ((sl y1.1 v6 (y1.1.length : Int)).length : Int)))) [1, 5, 6, 7, 57] [(1, .d (.list 3 (List.map encImage p1))), (5, .own 3 (List.map encImage y1.1)), (6, vI y1.2), (7, vI v6), (57, .lent (.slot 5) 3 (List.map encImage (sl (sl y1.1 v6 (y1.1.length : Int)) 1 ((sl y1.1 v6 (y1.1.length : Int)).length : Int))))] (BAt.slice hk (by kernel_rfl)) (by kernel_rfl) <| OWk.sg 79 H [] [1, 5, 6, 7, 8] 1 [(1, .d (.list 3 (List.map encImage p1))), (5, .own 3 (List.map encImage y1.1)), (6, vI y1.2), (7, vI v6), (8, .lent (.slot 5) 3 (List.map encImage (sl (sl y1.1 v6 (y1.1.length : Int)) 1 ((sl y1.1 v6 (y1.1.length : Int)).length : Int))))] (by kernel_rfl) <| OWk.done (by kernel_rfl) ?_
              exact ⟨(sl (sl y1.1 v6 (y1.1.length : Int)) 1 ((sl y1.1 v6 (y1.1.length : Int)).length : Int)), [], by kernel_rfl, h⟩
            · replace h := bif_f hc h
              refine SW.skip ?_
              exact ⟨(sl y1.1 v6 (y1.1.length : Int)), [], by kernel_rfl, h⟩
          · replace h := bif_f hc h
            refine OBk.sg 79 H [] [1, 5, 6, 7, 8, 55] 11 [(1, .d (.list 3 (List.map encImage p1))), (5, .own 3 (List.map encImage y1.1)), (6, vI y1.2), (7, vI v6), (8, .lent (.slot 5) 3 (List.map encImage (sl y1.1 v6 (y1.1.length : Int)))), (55, vB false)] (by kernel_rfl) (by kernel_rfl) <| OBk.done (by kernel_rfl) <| thenS_n <| SW.condF (by kernel_rfl) <| SW.skip ?_
            exact ⟨(sl y1.1 v6 (y1.1.length : Int)), [], by kernel_rfl, h⟩
    · replace h := bif_f hc h
      refine SW.kp 79 H [5] [(5, .own 3 (List.map encImage y1.1))] (by kernel_rfl) <| SW.exit <| thenS_e ?_
      cases h
      refine thenS_e ?_
      exact ⟨_, rfl, ⟨rfl, rfl⟩⟩
  · rintro _ _ ⟨rfl, rfl⟩
    refine blockS_hit <| thenS_n <| SW.seq <| SW.regionK <| OWk.sg 79 H [78] [4] 2 [(4, .own 3 (List.map encImage v14))] (by kernel_rfl) <| OWk.done (by kernel_rfl) <| thenS_n <| SW.ret ?_
    cases h
    exact EndQ.ret [] (by kernel_rfl) rfl

def r_Apply (fuel : Nat) (p0 : (List Image)) (p1 : (List Image)) : Option ((List Image) × Int) :=
  (r_state fuel p0).bind fun r1 =>
  bif (!r1) then
    some (([] : List Image), 1)
  else
    (r_images fuel p1).bind fun r2 =>
    bif (!r2) then
      some (([] : List Image), 1)
    else
      (r_applied fuel p0 p1).bind fun r3 =>
      bif (decide ((r3.length : Int) > 500)) then
        some (([] : List Image), 4)
      else
        some (r3, 0)

theorem r_Apply_ok {fuel : Nat} {p0 : (List Image)} {p1 : (List Image)} {r : (List Image) × Int} (h : r_Apply fuel p0 p1 = some r) : PC Try.prog 21 [.d (.list 3 (List.map encImage p0)), .d (.list 3 (List.map encImage p1))] (.tup [.own 3 (List.map encImage r.1), vI r.2]) := by
  refine PC.of_SW Try.func21 rfl fun H => ?_
  unfold r_Apply at h
  refine SW.kp 22 H [0, 1] [(0, .d (.list 3 (List.map encImage p0))), (1, .d (.list 3 (List.map encImage p1)))] (by kernel_rfl) <| SW.seq <| SW.regionK <| OWk.sg 22 H [] [0, 1] 2 [(0, .d (.list 3 (List.map encImage p0))), (1, .d (.list 3 (List.map encImage p1)))] (by kernel_rfl) <| OWk.done (by kernel_rfl) <| thenS_n <| SW.seq <| SW.seq <| SW.regionK <| OWk.sg 22 H [] [0, 1, 7] 1 [(0, .d (.list 3 (List.map encImage p0))), (1, .d (.list 3 (List.map encImage p1))), (7, .d (.list 3 (List.map encImage p0)))] (by kernel_rfl) ?_
  obtain ⟨r1, hr, h⟩ := bind_inv h
  refine OWk.cl 22 H (d := some 8) (ls := []) (gs := []) [] [0, 1, 8] [(0, .d (.list 3 (List.map encImage p0))), (1, .d (.list 3 (List.map encImage p1))), (8, vB r1)] (r_state_ok hr) (by kernel_rfl) (by kernel_rfl) (by kernel_rfl) <| OWk.sg 22 H [] [0, 1, 10] 2 [(0, .d (.list 3 (List.map encImage p0))), (1, .d (.list 3 (List.map encImage p1))), (10, vB (!r1))] (by kernel_rfl) ?_
  refine OWk.case (!r1) (fun b => (sp 22 [(0, .d (.list 3 (List.map encImage p0))), (1, .d (.list 3 (List.map encImage p1))), (10, vB b)] H)) (by kernel_rfl) (fun hc => ?_) (fun hc => ?_)
  · replace h := bif_t hc h
    refine OWk.sg 22 H [] [0, 1, 14] 4 [(0, .d (.list 3 (List.map encImage p0))), (1, .d (.list 3 (List.map encImage p1))), (14, vB true)] (by kernel_rfl) <| OWk.done (by kernel_rfl) <| thenS_n <| SW.condT (by kernel_rfl) <| SW.seq <| SW.regionK <| OWk.sg 22 H [] [4, 5] 2 [(4, .own 3 (List.map encImage ([] : List Image))), (5, vI 1)] (by kernel_rfl) <| OWk.done (by kernel_rfl) <| thenS_n <| SW.ret <| thenS_r ?_
    cases h
    exact EndQ.ret [] (by kernel_rfl) rfl
  · replace h := bif_f hc h
    refine OWk.sg 22 H [] [0, 1, 10, 11] 1 [(0, .d (.list 3 (List.map encImage p0))), (1, .d (.list 3 (List.map encImage p1))), (10, vB false), (11, .d (.list 3 (List.map encImage p1)))] (by kernel_rfl) ?_
    obtain ⟨r2, hr, h⟩ := bind_inv h
    refine OWk.cl 22 H (d := some 12) (ls := []) (gs := []) [] [0, 1, 10, 12] [(0, .d (.list 3 (List.map encImage p0))), (1, .d (.list 3 (List.map encImage p1))), (10, vB false), (12, vB r2)] (r_images_ok hr) (by kernel_rfl) (by kernel_rfl) (by kernel_rfl) <| OWk.sg 22 H [] [0, 1, 14] 2 [(0, .d (.list 3 (List.map encImage p0))), (1, .d (.list 3 (List.map encImage p1))), (14, vB (!r2))] (by kernel_rfl) <| OWk.done (by kernel_rfl) <| thenS_n ?_
    refine SW.condB (b := (!r2)) (by kernel_rfl) (fun hc => ?_) (fun hc => ?_)
    · replace h := bif_t hc h
      refine SW.seq <| SW.regionK <| OWk.sg 22 H [] [4, 5] 2 [(4, .own 3 (List.map encImage ([] : List Image))), (5, vI 1)] (by kernel_rfl) <| OWk.done (by kernel_rfl) <| thenS_n <| SW.ret <| thenS_r ?_
      cases h
      exact EndQ.ret [] (by kernel_rfl) rfl
    · replace h := bif_f hc h
      refine SW.skip <| thenS_n <| SW.seq <| SW.regionK <| OWk.sg 22 H [] [15, 16] 2 [(15, .d (.list 3 (List.map encImage p0))), (16, .d (.list 3 (List.map encImage p1)))] (by kernel_rfl) ?_
      obtain ⟨r3, hr, h⟩ := bind_inv h
      refine OWk.cl 22 H (d := some 17) (ls := []) (gs := []) [] [17] [(17, .own 3 (List.map encImage r3))] (r_applied_ok hr) (by kernel_rfl) (by kernel_rfl) (by kernel_rfl) <| OWk.sg 22 H [] [6] 1 [(6, .own 3 (List.map encImage r3))] (by kernel_rfl) <| OWk.done (by kernel_rfl) <| thenS_n <| SW.seq <| SW.seq <| SW.regionK <| OWk.sg 22 H [] [6, 18] 1 [(6, .own 3 (List.map encImage r3)), (18, .lent (.slot 6) 3 (List.map encImage r3))] (by kernel_rfl) <| OWk.on 22 H (d := some 19) [6, 19] [(6, .own 3 (List.map encImage r3)), (19, vI (r3.length : Int))] (BAt.len (enc := encImage) (xs := r3) (by kernel_rfl)) (by kernel_rfl) <| OWk.sg 22 H [] [6, 20] 1 [(6, .own 3 (List.map encImage r3)), (20, vB (decide ((r3.length : Int) > 500)))] (by kernel_rfl) <| OWk.done (by kernel_rfl) <| thenS_n ?_
      refine SW.condB (b := (decide ((r3.length : Int) > 500))) (by kernel_rfl) (fun hc => ?_) (fun hc => ?_)
      · replace h := bif_t hc h
        refine SW.seq <| SW.regionK <| OWk.sg 22 H [] [4, 5] 2 [(4, .own 3 (List.map encImage ([] : List Image))), (5, vI 4)] (by kernel_rfl) <| OWk.done (by kernel_rfl) <| thenS_n <| SW.ret <| thenS_r ?_
        cases h
        exact EndQ.ret [] (by kernel_rfl) rfl
      · replace h := bif_f hc h
        refine SW.skip <| thenS_n <| SW.seq <| SW.regionK <| OWk.sg 22 H [21] [4, 5] 3 [(4, .own 3 (List.map encImage r3)), (5, vI 0)] (by kernel_rfl) <| OWk.done (by kernel_rfl) <| thenS_n <| SW.ret ?_
        cases h
        exact EndQ.ret [] (by kernel_rfl) rfl

def r_State (fuel : Nat) (p0 : (List Image)) (p1 : (List Note)) : Option ((List Image) × Int) :=
  (r_state fuel p0).bind fun r1 =>
  bif (!r1) then
    some (([] : List Image), 1)
  else
    (r_Redo fuel p1 0).bind fun r2 =>
    bif (r2.2 != 0) then
      some (([] : List Image), r2.2)
    else
      (r_Apply fuel p0 r2.1).bind fun r3 =>
      some (r3.1, r3.2)

theorem r_State_ok {fuel : Nat} {p0 : (List Image)} {p1 : (List Note)} {r : (List Image) × Int} (h : r_State fuel p0 p1 = some r) : PC Try.prog 22 [.d (.list 3 (List.map encImage p0)), .d (.list 5 (List.map encNote p1))] (.tup [.own 3 (List.map encImage r.1), vI r.2]) := by
  refine PC.of_SW Try.func22 rfl fun H => ?_
  unfold r_State at h
  refine SW.kp 24 H [0, 1] [(0, .d (.list 3 (List.map encImage p0))), (1, .d (.list 5 (List.map encNote p1)))] (by kernel_rfl) <| SW.seq <| SW.regionK <| OWk.sg 24 H [] [0, 1] 2 [(0, .d (.list 3 (List.map encImage p0))), (1, .d (.list 5 (List.map encNote p1)))] (by kernel_rfl) <| OWk.done (by kernel_rfl) <| thenS_n <| SW.seq <| SW.seq <| SW.regionK <| OWk.sg 24 H [] [0, 1, 8] 1 [(0, .d (.list 3 (List.map encImage p0))), (1, .d (.list 5 (List.map encNote p1))), (8, .d (.list 3 (List.map encImage p0)))] (by kernel_rfl) ?_
  obtain ⟨r1, hr, h⟩ := bind_inv h
  refine OWk.cl 24 H (d := some 9) (ls := []) (gs := []) [] [0, 1, 9] [(0, .d (.list 3 (List.map encImage p0))), (1, .d (.list 5 (List.map encNote p1))), (9, vB r1)] (r_state_ok hr) (by kernel_rfl) (by kernel_rfl) (by kernel_rfl) <| OWk.sg 24 H [] [0, 1, 10] 1 [(0, .d (.list 3 (List.map encImage p0))), (1, .d (.list 5 (List.map encNote p1))), (10, vB (!r1))] (by kernel_rfl) <| OWk.done (by kernel_rfl) <| thenS_n ?_
  refine SW.condB (b := (!r1)) (by kernel_rfl) (fun hc => ?_) (fun hc => ?_)
  · replace h := bif_t hc h
    refine SW.seq <| SW.regionK <| OWk.sg 24 H [] [4, 5] 2 [(4, .own 3 (List.map encImage ([] : List Image))), (5, vI 1)] (by kernel_rfl) <| OWk.done (by kernel_rfl) <| thenS_n <| SW.ret <| thenS_r ?_
    cases h
    exact EndQ.ret [] (by kernel_rfl) rfl
  · replace h := bif_f hc h
    refine SW.skip <| thenS_n <| SW.seq <| SW.regionK <| OWk.sg 24 H [] [0, 12] 1 [(0, .d (.list 3 (List.map encImage p0))), (12, .d (.list 5 (List.map encNote p1)))] (by kernel_rfl) ?_
    obtain ⟨r2, hr, h⟩ := bind_inv h
    refine OWk.cl 24 H (d := some 13) (ls := []) (gs := []) [] [0, 13] [(0, .d (.list 3 (List.map encImage p0))), (13, .tup [.own 3 (List.map encImage r2.1), vI r2.2])] (r_Redo_ok hr) (by kernel_rfl) (by kernel_rfl) (by kernel_rfl) <| OWk.sg 24 H [] [0, 6, 7] 5 [(0, .d (.list 3 (List.map encImage p0))), (6, .own 3 (List.map encImage r2.1)), (7, vI r2.2)] (by kernel_rfl) <| OWk.done (by kernel_rfl) <| thenS_n <| SW.seq <| SW.seq <| SW.regionK <| OWk.sg 24 H [] [0, 6, 7, 17] 2 [(0, .d (.list 3 (List.map encImage p0))), (6, .own 3 (List.map encImage r2.1)), (7, vI r2.2), (17, vB (r2.2 != 0))] (by kernel_rfl) <| OWk.done (by kernel_rfl) <| thenS_n ?_
    refine SW.condB (b := (r2.2 != 0)) (by kernel_rfl) (fun hc => ?_) (fun hc => ?_)
    · replace h := bif_t hc h
      refine SW.seq <| SW.regionK <| OWk.sg 24 H [] [4, 5] 3 [(4, .own 3 (List.map encImage ([] : List Image))), (5, vI r2.2)] (by kernel_rfl) <| OWk.done (by kernel_rfl) <| thenS_n <| SW.ret <| thenS_r ?_
      cases h
      exact EndQ.ret [] (by kernel_rfl) rfl
    · replace h := bif_f hc h
      refine SW.skip <| thenS_n <| SW.seq <| SW.regionK <| OWk.sg 24 H [20] [19, 20] 2 [(19, .d (.list 3 (List.map encImage p0))), (20, .own 3 (List.map encImage r2.1))] (by kernel_rfl) <| OWk.fz 24 H 20 [19, 20] [(19, .d (.list 3 (List.map encImage p0))), (20, .d (.list 3 (List.map encImage r2.1)))] (by kernel_rfl) ?_
      obtain ⟨r3, hr, h⟩ := bind_inv h
      refine OWk.cl 24 H (d := some 21) (ls := []) (gs := []) [] [21] [(21, .tup [.own 3 (List.map encImage r3.1), vI r3.2])] (r_Apply_ok hr) (by kernel_rfl) (by kernel_rfl) (by kernel_rfl) <| OWk.sg 24 H [20] [4, 5] 4 [(4, .own 3 (List.map encImage r3.1)), (5, vI r3.2)] (by kernel_rfl) <| OWk.done (by kernel_rfl) <| thenS_n <| SW.ret ?_
      cases h
      exact EndQ.ret [] (by kernel_rfl) rfl

def l_Images_l1 (fuel : Nat) (p0 : (List Image)) (y1 : Int × Int) : Option ((Int × Int) ⊕ (Int)) :=
  bif ((decide (y1.2 < (p0.length : Int))) && (decide (y1.2 < 60))) then
    (idx p0 y1.2).bind fun x2 =>
    (idx p0 y1.2).bind fun x3 =>
    some (.inl ((IntKind.wrap .i64 ((IntKind.wrap .i64 (y1.1 + (x2.Key.length : Int))) + (x3.Text.length : Int))), (IntKind.wrap .i64 (y1.2 + 1))))
  else
    some (.inr y1.1)

def l_Images (fuel : Nat) (p0 : (List Image)) : Option (Bool) :=
  (iter (l_Images_l1 fuel p0) fuel (0, 0)).bind fun v5 =>
  some ((decide ((p0.length : Int) ≤ 60)) && (decide (v5 ≤ 6000)))

theorem l_Images_ok {fuel : Nat} {p0 : (List Image)} {r : Bool} (h : l_Images fuel p0 = some r) : PC Try.prog 11 [.d (.list 3 (List.map encImage p0))] (vB r) := by
  refine PC.of_SW Try.func11 rfl fun H => ?_
  unfold l_Images at h
  refine SW.kp 37 H [0] [(0, .d (.list 3 (List.map encImage p0)))] (by kernel_rfl) <| SW.seq <| SW.regionK <| OWk.sg 37 H [] [0] 1 [(0, .d (.list 3 (List.map encImage p0)))] (by kernel_rfl) <| OWk.done (by kernel_rfl) <| thenS_n <| SW.seq <| SW.regionK <| OWk.sg 37 H [] [0, 3] 1 [(0, .d (.list 3 (List.map encImage p0))), (3, vI 0)] (by kernel_rfl) <| OWk.done (by kernel_rfl) <| thenS_n <| SW.seq <| SW.seq <| SW.regionK <| OWk.sg 37 H [] [0, 3, 4] 1 [(0, .d (.list 3 (List.map encImage p0))), (3, vI 0), (4, vI 0)] (by kernel_rfl) <| OWk.done (by kernel_rfl) <| thenS_n <| SW.block ?_
  obtain ⟨v5, hit, h⟩ := bind_inv h
  refine SW.it 37 H [0, 3, 4] (fun y1 => [(0, .d (.list 3 (List.map encImage p0))), (3, vI y1.1), (4, vI y1.2)]) (fun v5 e s => (e = .exit 0 ∧ s = (sp 37 [(0, .d (.list 3 (List.map encImage p0))), (3, vI v5)] H))) hit (by kernel_rfl) (fun y1 o h => ?_) ?_
  · unfold l_Images_l1 at h
    refine SW.seq <| SW.seq <| SW.regionK <| OWk.sg 37 H [] [0, 3, 4, 5, 6] 2 [(0, .d (.list 3 (List.map encImage p0))), (3, vI y1.1), (4, vI y1.2), (5, vI y1.2), (6, .d (.list 3 (List.map encImage p0)))] (by kernel_rfl) <| OWk.on 37 H (d := some 7) [0, 3, 4, 5, 7] [(0, .d (.list 3 (List.map encImage p0))), (3, vI y1.1), (4, vI y1.2), (5, vI y1.2), (7, vI (p0.length : Int))] (BAt.len (enc := encImage) (xs := p0) (by kernel_rfl)) (by kernel_rfl) <| OWk.sg 37 H [] [0, 3, 4, 9] 2 [(0, .d (.list 3 (List.map encImage p0))), (3, vI y1.1), (4, vI y1.2), (9, vB (decide (y1.2 < (p0.length : Int))))] (by kernel_rfl) <| OWk.mg 37 H [0, 3, 4, 12] 3 (decide (y1.2 < (p0.length : Int))) (fun b => (sp 37 [(0, .d (.list 3 (List.map encImage p0))), (3, vI y1.1), (4, vI y1.2), (9, vB b)] H)) (fun b => [(0, .d (.list 3 (List.map encImage p0))), (3, vI y1.1), (4, vI y1.2), (12, vB (b && (decide (y1.2 < 60))))]) (by kernel_rfl) (by kernel_rfl) (by kernel_rfl) <| OWk.done (by kernel_rfl) <| thenS_n ?_
    refine SW.condB (b := ((decide (y1.2 < (p0.length : Int))) && (decide (y1.2 < 60)))) (by kernel_rfl) (fun hc => ?_) (fun hc => ?_)
    · replace h := bif_t hc h
      refine SW.skip <| thenS_n <| SW.seq <| SW.block <| SW.regionT 15 (by kernel_rfl) (by kernel_rfl) <| OBk.sg 37 H [] [0, 4, 15, 16, 17] 3 [(0, .d (.list 3 (List.map encImage p0))), (4, vI y1.2), (15, vI y1.1), (16, .d (.list 3 (List.map encImage p0))), (17, vI y1.2)] (by kernel_rfl) (by kernel_rfl) ?_
      obtain ⟨x2, hx, h⟩ := bind_inv h
      refine OBk.on 37 H (d := some 18) (s := lendP none (Go.Sh.D.cells (encImage x2))) [0, 4, 15, 18] [(0, .d (.list 3 (List.map encImage p0))), (4, vI y1.2), (15, vI y1.1), (18, .d (.dptr [.str x2.Key, .bool x2.Has, .str x2.Text]))] (by kernel_rfl) (BAt.index (n := 3) hx (by kernel_rfl)) (by kernel_rfl) <| OBk.sg 37 H [] [0, 4, 15, 20] 2 [(0, .d (.list 3 (List.map encImage p0))), (4, vI y1.2), (15, vI y1.1), (20, vS x2.Key)] (by kernel_rfl) (by kernel_rfl) <| OBk.sg 37 H [] [0, 4, 15, 21] 1 [(0, .d (.list 3 (List.map encImage p0))), (4, vI y1.2), (15, vI y1.1), (21, vI (x2.Key.length : Int))] (by kernel_rfl) (by kernel_rfl) <| OBk.sg 37 H [] [0, 4, 22, 23, 24] 3 [(0, .d (.list 3 (List.map encImage p0))), (4, vI y1.2), (22, vI (IntKind.wrap .i64 (y1.1 + (x2.Key.length : Int)))), (23, .d (.list 3 (List.map encImage p0))), (24, vI y1.2)] (by kernel_rfl) (by kernel_rfl) ?_
      obtain ⟨x3, hx, h⟩ := bind_inv h
      refine OBk.on 37 H (d := some 25) (s := lendP none (Go.Sh.D.cells (encImage x3))) [0, 4, 22, 25] [(0, .d (.list 3 (List.map encImage p0))), (4, vI y1.2), (22, vI (IntKind.wrap .i64 (y1.1 + (x2.Key.length : Int)))), (25, .d (.dptr [.str x3.Key, .bool x3.Has, .str x3.Text]))] (by kernel_rfl) (BAt.index (n := 3) hx (by kernel_rfl)) (by kernel_rfl) <| OBk.sg 37 H [] [0, 4, 22, 27] 2 [(0, .d (.list 3 (List.map encImage p0))), (4, vI y1.2), (22, vI (IntKind.wrap .i64 (y1.1 + (x2.Key.length : Int)))), (27, vS x3.Text)] (by kernel_rfl) (by kernel_rfl) <| OBk.sg 37 H [] [0, 4, 22, 28] 1 [(0, .d (.list 3 (List.map encImage p0))), (4, vI y1.2), (22, vI (IntKind.wrap .i64 (y1.1 + (x2.Key.length : Int)))), (28, vI (x3.Text.length : Int))] (by kernel_rfl) (by kernel_rfl) <| OBk.sg 37 H [] [0, 4, 29] 1 [(0, .d (.list 3 (List.map encImage p0))), (4, vI y1.2), (29, vI (IntKind.wrap .i64 ((IntKind.wrap .i64 (y1.1 + (x2.Key.length : Int))) + (x3.Text.length : Int))))] (by kernel_rfl) (by kernel_rfl) <| OBk.done (by kernel_rfl) <| OWk.sg 37 H [] [0, 3, 4] 1 [(0, .d (.list 3 (List.map encImage p0))), (3, vI (IntKind.wrap .i64 ((IntKind.wrap .i64 (y1.1 + (x2.Key.length : Int))) + (x3.Text.length : Int)))), (4, vI y1.2)] (by kernel_rfl) <| OWk.done (by kernel_rfl) <| blockS_n <| thenS_n <| SW.regionK <| OWk.sg 37 H [] [0, 3, 4] 3 [(0, .d (.list 3 (List.map encImage p0))), (3, vI (IntKind.wrap .i64 ((IntKind.wrap .i64 (y1.1 + (x2.Key.length : Int))) + (x3.Text.length : Int)))), (4, vI (IntKind.wrap .i64 (y1.2 + 1)))] (by kernel_rfl) <| OWk.done (by kernel_rfl) ?_
      cases h
      exact ⟨((IntKind.wrap .i64 ((IntKind.wrap .i64 (y1.1 + (x2.Key.length : Int))) + (x3.Text.length : Int))), (IntKind.wrap .i64 (y1.2 + 1))), rfl, by kernel_rfl⟩
    · replace h := bif_f hc h
      refine SW.kp 37 H [0, 3] [(0, .d (.list 3 (List.map encImage p0))), (3, vI y1.1)] (by kernel_rfl) <| SW.exit <| thenS_e ?_
      cases h
      refine thenS_e ?_
      exact ⟨_, rfl, ⟨rfl, rfl⟩⟩
  · rintro _ _ ⟨rfl, rfl⟩
    refine blockS_hit <| thenS_n <| SW.seq <| SW.regionK <| OWk.sg 37 H [] [3, 30] 1 [(3, vI v5), (30, .d (.list 3 (List.map encImage p0)))] (by kernel_rfl) <| OWk.on 37 H (d := some 31) [3, 31] [(3, vI v5), (31, vI (p0.length : Int))] (BAt.len (enc := encImage) (xs := p0) (by kernel_rfl)) (by kernel_rfl) <| OWk.sg 37 H [] [3, 33] 2 [(3, vI v5), (33, vB (decide ((p0.length : Int) ≤ 60)))] (by kernel_rfl) <| OWk.mg 37 H [36] 3 (decide ((p0.length : Int) ≤ 60)) (fun b => (sp 37 [(3, vI v5), (33, vB b)] H)) (fun b => [(36, vB (b && (decide (v5 ≤ 6000))))]) (by kernel_rfl) (by kernel_rfl) (by kernel_rfl) <| OWk.sg 37 H [] [2] 1 [(2, vB ((decide ((p0.length : Int) ≤ 60)) && (decide (v5 ≤ 6000))))] (by kernel_rfl) <| OWk.done (by kernel_rfl) <| thenS_n <| SW.ret ?_
    cases h
    exact EndQ.ret [] (by kernel_rfl) rfl

def j_image (fuel : Nat) (p0 : Image) : Option (Bool) :=
  bif (!(p0.Key == [])) then
    bif (decide ((p0.Key.length : Int) ≤ 40)) then
      bif (decide ((p0.Text.length : Int) ≤ 4000)) then
        bif p0.Has then
          some true
        else
          some (p0.Text == [])
      else
        some false
    else
      some false
  else
    some false

theorem j_image_ok {fuel : Nat} {p0 : Image} {r : Bool} (h : j_image fuel p0 = some r) : PC Try.prog 44 [.d (encImage p0)] (vB r) := by
  refine PC.of_SW Try.func44 rfl fun H => ?_
  unfold j_image at h
  refine SW.kp 27 H [0] [(0, .d (.agg [.str p0.Key, .bool p0.Has, .str p0.Text]))] (by kernel_rfl) <| SW.seq <| SW.regionK <| OWk.sg 27 H [] [1] 2 [(1, .box [vS p0.Key, vB p0.Has, vS p0.Text])] (by kernel_rfl) <| OWk.done (by kernel_rfl) <| thenS_n <| SW.seq <| SW.regionK <| OWk.sg 27 H [] [1, 6] 4 [(1, .box [vS p0.Key, vB p0.Has, vS p0.Text]), (6, vB (!(p0.Key == [])))] (by kernel_rfl) ?_
  refine OWk.case (!(p0.Key == [])) (fun b => (sp 27 [(1, .box [vS p0.Key, vB p0.Has, vS p0.Text]), (6, vB b)] H)) (by kernel_rfl) (fun hc => ?_) (fun hc => ?_)
  · replace h := bif_t hc h
    refine OWk.sg 27 H [] [1, 6, 8] 2 [(1, .box [vS p0.Key, vB p0.Has, vS p0.Text]), (6, vB true), (8, vS p0.Key)] (by kernel_rfl) <| OWk.sg 27 H [] [1, 6, 9] 1 [(1, .box [vS p0.Key, vB p0.Has, vS p0.Text]), (6, vB true), (9, vI (p0.Key.length : Int))] (by kernel_rfl) <| OWk.sg 27 H [] [1, 12] 3 [(1, .box [vS p0.Key, vB p0.Has, vS p0.Text]), (12, vB (decide ((p0.Key.length : Int) ≤ 40)))] (by kernel_rfl) ?_
    refine OWk.case (decide ((p0.Key.length : Int) ≤ 40)) (fun b => (sp 27 [(1, .box [vS p0.Key, vB p0.Has, vS p0.Text]), (12, vB b)] H)) (by kernel_rfl) (fun hc => ?_) (fun hc => ?_)
    · replace h := bif_t hc h
      refine OWk.sg 27 H [] [1, 12, 14] 2 [(1, .box [vS p0.Key, vB p0.Has, vS p0.Text]), (12, vB true), (14, vS p0.Text)] (by kernel_rfl) <| OWk.sg 27 H [] [1, 12, 15] 1 [(1, .box [vS p0.Key, vB p0.Has, vS p0.Text]), (12, vB true), (15, vI (p0.Text.length : Int))] (by kernel_rfl) <| OWk.sg 27 H [] [1, 18] 3 [(1, .box [vS p0.Key, vB p0.Has, vS p0.Text]), (18, vB (decide ((p0.Text.length : Int) ≤ 4000)))] (by kernel_rfl) ?_
      refine OWk.case (decide ((p0.Text.length : Int) ≤ 4000)) (fun b => (sp 27 [(1, .box [vS p0.Key, vB p0.Has, vS p0.Text]), (18, vB b)] H)) (by kernel_rfl) (fun hc => ?_) (fun hc => ?_)
      · replace h := bif_t hc h
        refine OWk.sg 27 H [] [1, 18, 21] 3 [(1, .box [vS p0.Key, vB p0.Has, vS p0.Text]), (18, vB true), (21, vB p0.Has)] (by kernel_rfl) ?_
        refine OWk.case p0.Has (fun b => (sp 27 [(1, .box [vS p0.Key, vB p0.Has, vS p0.Text]), (18, vB true), (21, vB b)] H)) (by kernel_rfl) (fun hc => ?_) (fun hc => ?_)
        · replace h := bif_t hc h
          refine OWk.sg 27 H [] [2] 6 [(2, vB true)] (by kernel_rfl) <| OWk.done (by kernel_rfl) <| thenS_n <| SW.ret ?_
          cases h
          exact EndQ.ret [] (by kernel_rfl) rfl
        · replace h := bif_f hc h
          refine OWk.sg 27 H [] [2] 6 [(2, vB (p0.Text == []))] (by kernel_rfl) <| OWk.done (by kernel_rfl) <| thenS_n <| SW.ret ?_
          cases h
          exact EndQ.ret [] (by kernel_rfl) rfl
      · replace h := bif_f hc h
        refine OWk.sg 27 H [] [2] 9 [(2, vB false)] (by kernel_rfl) <| OWk.done (by kernel_rfl) <| thenS_n <| SW.ret ?_
        cases h
        exact EndQ.ret [] (by kernel_rfl) rfl
    · replace h := bif_f hc h
      refine OWk.sg 27 H [] [2] 15 [(2, vB false)] (by kernel_rfl) <| OWk.done (by kernel_rfl) <| thenS_n <| SW.ret ?_
      cases h
      exact EndQ.ret [] (by kernel_rfl) rfl
  · replace h := bif_f hc h
    refine OWk.sg 27 H [] [2] 21 [(2, vB false)] (by kernel_rfl) <| OWk.done (by kernel_rfl) <| thenS_n <| SW.ret ?_
    cases h
    exact EndQ.ret [] (by kernel_rfl) rfl

def j_ordered_l1 (fuel : Nat) (p0 : (List Image)) (y1 : Int) : Option ((Int) ⊕ ((Unit) ⊕ ((Bool)))) :=
  bif (decide (y1 < (p0.length : Int))) then
    (idx p0 y1).bind fun x2 =>
    (j_image fuel x2).bind fun r3 =>
    bif ((!r3) || (!x2.Has)) then
      some (.inr (.inr false))
    else
      bif (decide (y1 > 0)) then
        (idx p0 (IntKind.wrap .i64 (y1 - 1))).bind fun x4 =>
        bif (!(Op.bytesLess x4.Key x2.Key)) then
          some (.inr (.inr false))
        else
          some (.inl (IntKind.wrap .i64 (y1 + 1)))
      else
        some (.inl (IntKind.wrap .i64 (y1 + 1)))
  else
    some (.inr (.inl ()))

def j_ordered (fuel : Nat) (p0 : (List Image)) : Option (Bool) :=
  (iter (j_ordered_l1 fuel p0) fuel 0).bind (Sum.elim (fun v6 =>
    some (decide ((p0.length : Int) ≤ 500))) (fun r7 =>
    some r7))

theorem j_ordered_ok {fuel : Nat} {p0 : (List Image)} {r : Bool} (h : j_ordered fuel p0 = some r) : PC Try.prog 36 [.d (.list 3 (List.map encImage p0))] (vB r) := by
  refine PC.of_SW Try.func36 rfl fun H => ?_
  unfold j_ordered at h
  refine SW.kp 39 H [0] [(0, .d (.list 3 (List.map encImage p0)))] (by kernel_rfl) <| SW.seq <| SW.regionK <| OWk.sg 39 H [] [0] 1 [(0, .d (.list 3 (List.map encImage p0)))] (by kernel_rfl) <| OWk.done (by kernel_rfl) <| thenS_n <| SW.seq <| SW.seq <| SW.regionK <| OWk.sg 39 H [] [0, 5] 1 [(0, .d (.list 3 (List.map encImage p0))), (5, .d (.list 3 (List.map encImage p0)))] (by kernel_rfl) <| OWk.on 39 H (d := some 6) [0, 5, 6] [(0, .d (.list 3 (List.map encImage p0))), (5, .d (.list 3 (List.map encImage p0))), (6, vI (p0.length : Int))] (BAt.len (enc := encImage) (xs := p0) (by kernel_rfl)) (by kernel_rfl) <| OWk.sg 39 H [] [0, 5, 6, 7] 1 [(0, .d (.list 3 (List.map encImage p0))), (5, .d (.list 3 (List.map encImage p0))), (6, vI (p0.length : Int)), (7, vI 0)] (by kernel_rfl) <| OWk.done (by kernel_rfl) <| thenS_n <| SW.block ?_
  obtain ⟨z5, hit, h⟩ := bind_inv h
  refine SW.it 39 H [0, 5, 6, 7] (fun y1 => [(0, .d (.list 3 (List.map encImage p0))), (5, .d (.list 3 (List.map encImage p0))), (6, vI (p0.length : Int)), (7, vI y1)]) (fun b e s => ((∃ v6, b = (.inl v6) ∧ (e = .exit 0 ∧ s = (sp 39 [(0, .d (.list 3 (List.map encImage p0)))] H))) ∨ (∃ r7, b = (.inr r7) ∧ (e = .ret ∧ EndQ Try.prog Try.f36.results.toList H (vB r7) .ret s)))) hit (by kernel_rfl) (fun y1 o h => ?_) ?_
  · unfold j_ordered_l1 at h
    refine SW.seq <| SW.regionK <| OWk.sg 39 H [] [0, 5, 6, 7, 8] 1 [(0, .d (.list 3 (List.map encImage p0))), (5, .d (.list 3 (List.map encImage p0))), (6, vI (p0.length : Int)), (7, vI y1), (8, vB (decide (y1 < (p0.length : Int))))] (by kernel_rfl) <| OWk.done (by kernel_rfl) <| thenS_n <| SW.seq ?_
    refine SW.condB (b := (decide (y1 < (p0.length : Int)))) (by kernel_rfl) (fun hc => ?_) (fun hc => ?_)
    · replace h := bif_t hc h
      refine SW.skip <| thenS_n <| SW.seq <| SW.block <| SW.seq <| SW.regionK <| OWk.sg 39 H [] [0, 5, 6, 7, 9] 1 [(0, .d (.list 3 (List.map encImage p0))), (5, .d (.list 3 (List.map encImage p0))), (6, vI (p0.length : Int)), (7, vI y1), (9, vI y1)] (by kernel_rfl) ?_
      obtain ⟨x2, hx, h⟩ := bind_inv h
      refine OWk.on 39 H (d := some 10) (s := lendP none (Go.Sh.D.cells (encImage x2))) [0, 5, 6, 7, 9, 10] [(0, .d (.list 3 (List.map encImage p0))), (5, .d (.list 3 (List.map encImage p0))), (6, vI (p0.length : Int)), (7, vI y1), (9, vI y1), (10, .d (.dptr [.str x2.Key, .bool x2.Has, .str x2.Text]))] (BAt.index (n := 3) hx (by kernel_rfl)) (by kernel_rfl) <| OWk.sg 39 H [] [0, 3, 4, 5, 6, 7] 4 [(0, .d (.list 3 (List.map encImage p0))), (3, vI y1), (4, .box [vS x2.Key, vB x2.Has, vS x2.Text]), (5, .d (.list 3 (List.map encImage p0))), (6, vI (p0.length : Int)), (7, vI y1)] (by kernel_rfl) <| OWk.done (by kernel_rfl) <| thenS_n <| SW.seq <| SW.regionQ (by kernel_rfl) (by kernel_rfl) <| OQk.sg 39 H [] [0, 3, 4, 5, 6, 7, 12] 1 [(0, .d (.list 3 (List.map encImage p0))), (3, vI y1), (4, .box [vS x2.Key, vB x2.Has, vS x2.Text]), (5, .d (.list 3 (List.map encImage p0))), (6, vI (p0.length : Int)), (7, vI y1), (12, .d (.agg [.str x2.Key, .bool x2.Has, .str x2.Text]))] (by kernel_rfl) ?_
      obtain ⟨r3, hr, h⟩ := bind_inv h
      refine OQk.cl 39 H (d := some 13) (ls := []) [0, 3, 4, 5, 6, 7, 13] [(0, .d (.list 3 (List.map encImage p0))), (3, vI y1), (4, .box [vS x2.Key, vB x2.Has, vS x2.Text]), (5, .d (.list 3 (List.map encImage p0))), (6, vI (p0.length : Int)), (7, vI y1), (13, vB r3)] (j_image_ok hr) (by kernel_rfl) (by kernel_rfl) (by kernel_rfl) <| OQk.sg 39 H [] [0, 3, 4, 5, 6, 7, 15] 2 [(0, .d (.list 3 (List.map encImage p0))), (3, vI y1), (4, .box [vS x2.Key, vB x2.Has, vS x2.Text]), (5, .d (.list 3 (List.map encImage p0))), (6, vI (p0.length : Int)), (7, vI y1), (15, vB (!r3))] (by kernel_rfl) <| OQk.mg 39 H [0, 3, 4, 5, 6, 7, 19] 4 (!r3) (fun b => (sp 39 [(0, .d (.list 3 (List.map encImage p0))), (3, vI y1), (4, .box [vS x2.Key, vB x2.Has, vS x2.Text]), (5, .d (.list 3 (List.map encImage p0))), (6, vI (p0.length : Int)), (7, vI y1), (15, vB b)] H)) (fun b => [(0, .d (.list 3 (List.map encImage p0))), (3, vI y1), (4, .box [vS x2.Key, vB x2.Has, vS x2.Text]), (5, .d (.list 3 (List.map encImage p0))), (6, vI (p0.length : Int)), (7, vI y1), (19, vB (b || (!x2.Has)))]) (by kernel_rfl) (by kernel_rfl) (by kernel_rfl) <| OQk.sg 39 H [] [0, 3, 4, 5, 6, 7, 20] 1 [(0, .d (.list 3 (List.map encImage p0))), (3, vI y1), (4, .box [vS x2.Key, vB x2.Has, vS x2.Text]), (5, .d (.list 3 (List.map encImage p0))), (6, vI (p0.length : Int)), (7, vI y1), (20, vB ((!r3) || (!x2.Has)))] (by kernel_rfl) ?_
      refine OQk.case ((!r3) || (!x2.Has)) (fun b => (sp 39 [(0, .d (.list 3 (List.map encImage p0))), (3, vI y1), (4, .box [vS x2.Key, vB x2.Has, vS x2.Text]), (5, .d (.list 3 (List.map encImage p0))), (6, vI (p0.length : Int)), (7, vI y1), (20, vB b)] H)) (by kernel_rfl) (fun hc => ?_) (fun hc => ?_)
      · replace h := bif_t hc h
        refine OQk.sg 39 H [] [0, 5, 6, 7, 34] 14 [(0, .d (.list 3 (List.map encImage p0))), (5, .d (.list 3 (List.map encImage p0))), (6, vI (p0.length : Int)), (7, vI y1), (34, vB true)] (by kernel_rfl) <| OQk.done (by kernel_rfl) <| thenS_n <| SW.condT (by kernel_rfl) <| SW.seq <| SW.regionK <| OWk.sg 39 H [] [2] 1 [(2, vB false)] (by kernel_rfl) <| OWk.done (by kernel_rfl) <| thenS_n <| SW.ret <| blockS_r <| thenS_r ?_
        cases h
        refine thenS_r ?_
        exact ⟨_, rfl, .inr (⟨false, rfl, rfl, EndQ.ret [] (by kernel_rfl) rfl⟩)⟩
      · replace h := bif_f hc h
        refine OQk.sg 39 H [] [0, 3, 4, 5, 6, 7, 20, 23] 3 [(0, .d (.list 3 (List.map encImage p0))), (3, vI y1), (4, .box [vS x2.Key, vB x2.Has, vS x2.Text]), (5, .d (.list 3 (List.map encImage p0))), (6, vI (p0.length : Int)), (7, vI y1), (20, vB false), (23, vB (decide (y1 > 0)))] (by kernel_rfl) ?_
        refine OQk.case (decide (y1 > 0)) (fun b => (sp 39 [(0, .d (.list 3 (List.map encImage p0))), (3, vI y1), (4, .box [vS x2.Key, vB x2.Has, vS x2.Text]), (5, .d (.list 3 (List.map encImage p0))), (6, vI (p0.length : Int)), (7, vI y1), (20, vB false), (23, vB b)] H)) (by kernel_rfl) (fun hc => ?_) (fun hc => ?_)
        · replace h := bif_t hc h
          refine OQk.sg 39 H [] [0, 4, 5, 6, 7, 20, 23, 24, 26] 3 [(0, .d (.list 3 (List.map encImage p0))), (4, .box [vS x2.Key, vB x2.Has, vS x2.Text]), (5, .d (.list 3 (List.map encImage p0))), (6, vI (p0.length : Int)), (7, vI y1), (20, vB false), (23, vB true), (24, .d (.list 3 (List.map encImage p0))), (26, vI (IntKind.wrap .i64 (y1 - 1)))] (by kernel_rfl) ?_
          obtain ⟨x4, hx, h⟩ := bind_inv h
          refine OQk.on 39 H (d := some 27) (s := lendP none (Go.Sh.D.cells (encImage x4))) [0, 4, 5, 6, 7, 20, 23, 27] [(0, .d (.list 3 (List.map encImage p0))), (4, .box [vS x2.Key, vB x2.Has, vS x2.Text]), (5, .d (.list 3 (List.map encImage p0))), (6, vI (p0.length : Int)), (7, vI y1), (20, vB false), (23, vB true), (27, .d (.dptr [.str x4.Key, .bool x4.Has, .str x4.Text]))] (BAt.index (n := 3) hx (by kernel_rfl)) (by kernel_rfl) <| OQk.sg 39 H [] [0, 5, 6, 7, 34] 7 [(0, .d (.list 3 (List.map encImage p0))), (5, .d (.list 3 (List.map encImage p0))), (6, vI (p0.length : Int)), (7, vI y1), (34, vB (!(Op.bytesLess x4.Key x2.Key)))] (by kernel_rfl) <| OQk.done (by kernel_rfl) <| thenS_n ?_
          refine SW.condB (b := (!(Op.bytesLess x4.Key x2.Key))) (by kernel_rfl) (fun hc => ?_) (fun hc => ?_)
          · replace h := bif_t hc h
            refine SW.seq <| SW.regionK <| OWk.sg 39 H [] [2] 1 [(2, vB false)] (by kernel_rfl) <| OWk.done (by kernel_rfl) <| thenS_n <| SW.ret <| blockS_r <| thenS_r ?_
            cases h
            refine thenS_r ?_
            exact ⟨_, rfl, .inr (⟨false, rfl, rfl, EndQ.ret [] (by kernel_rfl) rfl⟩)⟩
          · replace h := bif_f hc h
            refine SW.skip <| blockS_n <| thenS_n <| SW.regionK <| OWk.sg 39 H [] [0, 5, 6, 7] 2 [(0, .d (.list 3 (List.map encImage p0))), (5, .d (.list 3 (List.map encImage p0))), (6, vI (p0.length : Int)), (7, vI (IntKind.wrap .i64 (y1 + 1)))] (by kernel_rfl) <| OWk.done (by kernel_rfl) ?_
            cases h
            exact ⟨(IntKind.wrap .i64 (y1 + 1)), rfl, by kernel_rfl⟩
        · replace h := bif_f hc h
          refine OQk.sg 39 H [] [0, 5, 6, 7, 34] 11 [(0, .d (.list 3 (List.map encImage p0))), (5, .d (.list 3 (List.map encImage p0))), (6, vI (p0.length : Int)), (7, vI y1), (34, vB false)] (by kernel_rfl) <| OQk.done (by kernel_rfl) <| thenS_n <| SW.condF (by kernel_rfl) <| SW.skip <| blockS_n <| thenS_n <| SW.regionK <| OWk.sg 39 H [] [0, 5, 6, 7] 2 [(0, .d (.list 3 (List.map encImage p0))), (5, .d (.list 3 (List.map encImage p0))), (6, vI (p0.length : Int)), (7, vI (IntKind.wrap .i64 (y1 + 1)))] (by kernel_rfl) <| OWk.done (by kernel_rfl) ?_
          cases h
          exact ⟨(IntKind.wrap .i64 (y1 + 1)), rfl, by kernel_rfl⟩
    · replace h := bif_f hc h
      refine SW.kp 39 H [0] [(0, .d (.list 3 (List.map encImage p0)))] (by kernel_rfl) <| SW.exit <| thenS_e ?_
      cases h
      refine thenS_e ?_
      exact ⟨_, rfl, .inl ⟨(), rfl, rfl, rfl⟩⟩
  · rintro _ _ (⟨v6, rfl, rfl, rfl⟩ | ⟨r7, rfl, rfl, hE⟩)
    · replace h := sum_l h
      refine blockS_hit <| thenS_n <| SW.seq <| SW.regionK <| OWk.sg 39 H [] [36] 1 [(36, .d (.list 3 (List.map encImage p0)))] (by kernel_rfl) <| OWk.on 39 H (d := some 37) [37] [(37, vI (p0.length : Int))] (BAt.len (enc := encImage) (xs := p0) (by kernel_rfl)) (by kernel_rfl) <| OWk.sg 39 H [] [2] 2 [(2, vB (decide ((p0.length : Int) ≤ 500)))] (by kernel_rfl) <| OWk.done (by kernel_rfl) <| thenS_n <| SW.ret ?_
      cases h
      exact EndQ.ret [] (by kernel_rfl) rfl
    · replace h := sum_r h
      refine blockS_r <| thenS_r ?_
      cases h
      exact hE

def j_kinds (fuel : Nat) : Option (Unit) :=
  some ()

theorem j_kinds_ok {fuel : Nat} {r : Unit} (h : j_kinds fuel = some r) : PC Try.prog 58 [] (.d (.agg [.nilFn, .fn (.func 75) [] [], .fn (.func 76) [] [], .fn (.func 76) [] [], .fn (.func 75) [] [], .fn (.func 75) [] [], .fn (.func 77) [] [], .fn (.func 75) [] []])) := by
  refine PC.of_SW Try.func58 rfl fun H => ?_
  unfold j_kinds at h
  refine SW.kp 2 H [] [] (by kernel_rfl) <| SW.seq <| SW.regionK <| OWk.sg 2 H [] [0] 1 [(0, .box [.d (.nilFn), .d (.nilFn), .d (.nilFn), .d (.nilFn), .d (.nilFn), .d (.nilFn), .d (.nilFn), .d (.nilFn)])] (by kernel_rfl) <| OWk.done (by kernel_rfl) <| thenS_n <| SW.seq <| SW.regionK <| OWk.sg 2 H [] [0] 2 [(0, .box [.d (.nilFn), .d (.fn (.func 75) [] []), .d (.fn (.func 76) [] []), .d (.fn (.func 76) [] []), .d (.fn (.func 75) [] []), .d (.fn (.func 75) [] []), .d (.fn (.func 77) [] []), .d (.fn (.func 75) [] [])])] (by kernel_rfl) <| OWk.done (by kernel_rfl) <| thenS_n <| SW.ret ?_
  cases h
  exact EndQ.ret [] (by kernel_rfl) rfl

def j_unit (fuel : Nat) (p0 : Int) : Option (Bool) :=
  some ((decide (p0 ≥ 1)) && (decide (p0 ≤ 1000)))

theorem j_unit_ok {fuel : Nat} {p0 : Int} {r : Bool} (h : j_unit fuel p0 = some r) : PC Try.prog 65 [vI p0] (vB r) := by
  refine PC.of_SW Try.func65 rfl fun H => ?_
  unfold j_unit at h
  refine SW.kp 9 H [0] [(0, vI p0)] (by kernel_rfl) <| SW.seq <| SW.regionK <| OWk.sg 9 H [] [0] 1 [(0, vI p0)] (by kernel_rfl) <| OWk.done (by kernel_rfl) <| thenS_n <| SW.seq <| SW.regionK <| OWk.sg 9 H [] [0, 5] 3 [(0, vI p0), (5, vB (decide (p0 ≥ 1)))] (by kernel_rfl) <| OWk.mg 9 H [8] 3 (decide (p0 ≥ 1)) (fun b => (sp 9 [(0, vI p0), (5, vB b)] H)) (fun b => [(8, vB (b && (decide (p0 ≤ 1000))))]) (by kernel_rfl) (by kernel_rfl) (by kernel_rfl) <| OWk.sg 9 H [] [2] 1 [(2, vB ((decide (p0 ≥ 1)) && (decide (p0 ≤ 1000))))] (by kernel_rfl) <| OWk.done (by kernel_rfl) <| thenS_n <| SW.ret ?_
  cases h
  exact EndQ.ret [] (by kernel_rfl) rfl

def j_plain (fuel : Nat) (p0 : Note) : Option (Bool) :=
  (j_unit fuel p0.Unit).bind fun r1 =>
  some (((r1 && (p0.Key == [])) && (!p0.Has)) && (p0.Text == []))

theorem j_plain_ok {fuel : Nat} {p0 : Note} {r : Bool} (h : j_plain fuel p0 = some r) : PC Try.prog 75 [.d (encNote p0)] (vB r) := by
  refine PC.of_SW Try.func75 rfl fun H => ?_
  unfold j_plain at h
  refine SW.kp 21 H [0] [(0, .d (.agg [.int .i64 p0.Kind, .int .i64 p0.Unit, .str p0.Key, .bool p0.Has, .str p0.Text]))] (by kernel_rfl) <| SW.seq <| SW.regionK <| OWk.sg 21 H [] [1] 2 [(1, .box [vI p0.Kind, vI p0.Unit, vS p0.Key, vB p0.Has, vS p0.Text])] (by kernel_rfl) <| OWk.done (by kernel_rfl) <| thenS_n <| SW.seq <| SW.regionK <| OWk.sg 21 H [] [1, 4] 2 [(1, .box [vI p0.Kind, vI p0.Unit, vS p0.Key, vB p0.Has, vS p0.Text]), (4, vI p0.Unit)] (by kernel_rfl) ?_
  obtain ⟨r1, hr, h⟩ := bind_inv h
  refine OWk.cl 21 H (d := some 5) (ls := []) (gs := []) [] [1, 5] [(1, .box [vI p0.Kind, vI p0.Unit, vS p0.Key, vB p0.Has, vS p0.Text]), (5, vB r1)] (j_unit_ok hr) (by kernel_rfl) (by kernel_rfl) (by kernel_rfl) <| OWk.sg 21 H [] [1, 6] 1 [(1, .box [vI p0.Kind, vI p0.Unit, vS p0.Key, vB p0.Has, vS p0.Text]), (6, vB r1)] (by kernel_rfl) <| OWk.mg 21 H [1, 10] 4 r1 (fun b => (sp 21 [(1, .box [vI p0.Kind, vI p0.Unit, vS p0.Key, vB p0.Has, vS p0.Text]), (6, vB b)] H)) (fun b => [(1, .box [vI p0.Kind, vI p0.Unit, vS p0.Key, vB p0.Has, vS p0.Text]), (10, vB (b && (p0.Key == [])))]) (by kernel_rfl) (by kernel_rfl) (by kernel_rfl) <| OWk.sg 21 H [] [1, 11] 1 [(1, .box [vI p0.Kind, vI p0.Unit, vS p0.Key, vB p0.Has, vS p0.Text]), (11, vB (r1 && (p0.Key == [])))] (by kernel_rfl) <| OWk.mg 21 H [1, 15] 4 (r1 && (p0.Key == [])) (fun b => (sp 21 [(1, .box [vI p0.Kind, vI p0.Unit, vS p0.Key, vB p0.Has, vS p0.Text]), (11, vB b)] H)) (fun b => [(1, .box [vI p0.Kind, vI p0.Unit, vS p0.Key, vB p0.Has, vS p0.Text]), (15, vB (b && (!p0.Has)))]) (by kernel_rfl) (by kernel_rfl) (by kernel_rfl) <| OWk.sg 21 H [] [1, 16] 1 [(1, .box [vI p0.Kind, vI p0.Unit, vS p0.Key, vB p0.Has, vS p0.Text]), (16, vB ((r1 && (p0.Key == [])) && (!p0.Has)))] (by kernel_rfl) <| OWk.mg 21 H [20] 4 ((r1 && (p0.Key == [])) && (!p0.Has)) (fun b => (sp 21 [(1, .box [vI p0.Kind, vI p0.Unit, vS p0.Key, vB p0.Has, vS p0.Text]), (16, vB b)] H)) (fun b => [(20, vB (b && (p0.Text == [])))]) (by kernel_rfl) (by kernel_rfl) (by kernel_rfl) <| OWk.sg 21 H [] [2] 1 [(2, vB (((r1 && (p0.Key == [])) && (!p0.Has)) && (p0.Text == [])))] (by kernel_rfl) <| OWk.done (by kernel_rfl) <| thenS_n <| SW.ret ?_
  cases h
  exact EndQ.ret [] (by kernel_rfl) rfl

def j_imaged (fuel : Nat) (p0 : Note) : Option (Bool) :=
  (j_unit fuel p0.Unit).bind fun r1 =>
  bif (r1 && (!(p0.Key == []))) then
    bif (decide ((p0.Key.length : Int) ≤ 40)) then
      bif (decide ((p0.Text.length : Int) ≤ 4000)) then
        bif p0.Has then
          some true
        else
          some (p0.Text == [])
      else
        some false
    else
      some false
  else
    some false

theorem j_imaged_ok {fuel : Nat} {p0 : Note} {r : Bool} (h : j_imaged fuel p0 = some r) : PC Try.prog 76 [.d (encNote p0)] (vB r) := by
  refine PC.of_SW Try.func76 rfl fun H => ?_
  unfold j_imaged at h
  refine SW.kp 32 H [0] [(0, .d (.agg [.int .i64 p0.Kind, .int .i64 p0.Unit, .str p0.Key, .bool p0.Has, .str p0.Text]))] (by kernel_rfl) <| SW.seq <| SW.regionK <| OWk.sg 32 H [] [1] 2 [(1, .box [vI p0.Kind, vI p0.Unit, vS p0.Key, vB p0.Has, vS p0.Text])] (by kernel_rfl) <| OWk.done (by kernel_rfl) <| thenS_n <| SW.seq <| SW.regionK <| OWk.sg 32 H [] [1, 4] 2 [(1, .box [vI p0.Kind, vI p0.Unit, vS p0.Key, vB p0.Has, vS p0.Text]), (4, vI p0.Unit)] (by kernel_rfl) ?_
  obtain ⟨r1, hr, h⟩ := bind_inv h
  refine OWk.cl 32 H (d := some 5) (ls := []) (gs := []) [] [1, 5] [(1, .box [vI p0.Kind, vI p0.Unit, vS p0.Key, vB p0.Has, vS p0.Text]), (5, vB r1)] (j_unit_ok hr) (by kernel_rfl) (by kernel_rfl) (by kernel_rfl) <| OWk.sg 32 H [] [1, 6] 1 [(1, .box [vI p0.Kind, vI p0.Unit, vS p0.Key, vB p0.Has, vS p0.Text]), (6, vB r1)] (by kernel_rfl) <| OWk.mg 32 H [1, 10] 4 r1 (fun b => (sp 32 [(1, .box [vI p0.Kind, vI p0.Unit, vS p0.Key, vB p0.Has, vS p0.Text]), (6, vB b)] H)) (fun b => [(1, .box [vI p0.Kind, vI p0.Unit, vS p0.Key, vB p0.Has, vS p0.Text]), (10, vB (b && (!(p0.Key == []))))]) (by kernel_rfl) (by kernel_rfl) (by kernel_rfl) <| OWk.sg 32 H [] [1, 11] 1 [(1, .box [vI p0.Kind, vI p0.Unit, vS p0.Key, vB p0.Has, vS p0.Text]), (11, vB (r1 && (!(p0.Key == []))))] (by kernel_rfl) ?_
  refine OWk.case (r1 && (!(p0.Key == []))) (fun b => (sp 32 [(1, .box [vI p0.Kind, vI p0.Unit, vS p0.Key, vB p0.Has, vS p0.Text]), (11, vB b)] H)) (by kernel_rfl) (fun hc => ?_) (fun hc => ?_)
  · replace h := bif_t hc h
    refine OWk.sg 32 H [] [1, 11, 13] 2 [(1, .box [vI p0.Kind, vI p0.Unit, vS p0.Key, vB p0.Has, vS p0.Text]), (11, vB true), (13, vS p0.Key)] (by kernel_rfl) <| OWk.sg 32 H [] [1, 11, 14] 1 [(1, .box [vI p0.Kind, vI p0.Unit, vS p0.Key, vB p0.Has, vS p0.Text]), (11, vB true), (14, vI (p0.Key.length : Int))] (by kernel_rfl) <| OWk.sg 32 H [] [1, 17] 3 [(1, .box [vI p0.Kind, vI p0.Unit, vS p0.Key, vB p0.Has, vS p0.Text]), (17, vB (decide ((p0.Key.length : Int) ≤ 40)))] (by kernel_rfl) ?_
    refine OWk.case (decide ((p0.Key.length : Int) ≤ 40)) (fun b => (sp 32 [(1, .box [vI p0.Kind, vI p0.Unit, vS p0.Key, vB p0.Has, vS p0.Text]), (17, vB b)] H)) (by kernel_rfl) (fun hc => ?_) (fun hc => ?_)
    · replace h := bif_t hc h
      refine OWk.sg 32 H [] [1, 17, 19] 2 [(1, .box [vI p0.Kind, vI p0.Unit, vS p0.Key, vB p0.Has, vS p0.Text]), (17, vB true), (19, vS p0.Text)] (by kernel_rfl) <| OWk.sg 32 H [] [1, 17, 20] 1 [(1, .box [vI p0.Kind, vI p0.Unit, vS p0.Key, vB p0.Has, vS p0.Text]), (17, vB true), (20, vI (p0.Text.length : Int))] (by kernel_rfl) <| OWk.sg 32 H [] [1, 23] 3 [(1, .box [vI p0.Kind, vI p0.Unit, vS p0.Key, vB p0.Has, vS p0.Text]), (23, vB (decide ((p0.Text.length : Int) ≤ 4000)))] (by kernel_rfl) ?_
      refine OWk.case (decide ((p0.Text.length : Int) ≤ 4000)) (fun b => (sp 32 [(1, .box [vI p0.Kind, vI p0.Unit, vS p0.Key, vB p0.Has, vS p0.Text]), (23, vB b)] H)) (by kernel_rfl) (fun hc => ?_) (fun hc => ?_)
      · replace h := bif_t hc h
        refine OWk.sg 32 H [] [1, 23, 26] 3 [(1, .box [vI p0.Kind, vI p0.Unit, vS p0.Key, vB p0.Has, vS p0.Text]), (23, vB true), (26, vB p0.Has)] (by kernel_rfl) ?_
        refine OWk.case p0.Has (fun b => (sp 32 [(1, .box [vI p0.Kind, vI p0.Unit, vS p0.Key, vB p0.Has, vS p0.Text]), (23, vB true), (26, vB b)] H)) (by kernel_rfl) (fun hc => ?_) (fun hc => ?_)
        · replace h := bif_t hc h
          refine OWk.sg 32 H [] [2] 6 [(2, vB true)] (by kernel_rfl) <| OWk.done (by kernel_rfl) <| thenS_n <| SW.ret ?_
          cases h
          exact EndQ.ret [] (by kernel_rfl) rfl
        · replace h := bif_f hc h
          refine OWk.sg 32 H [] [2] 6 [(2, vB (p0.Text == []))] (by kernel_rfl) <| OWk.done (by kernel_rfl) <| thenS_n <| SW.ret ?_
          cases h
          exact EndQ.ret [] (by kernel_rfl) rfl
      · replace h := bif_f hc h
        refine OWk.sg 32 H [] [2] 9 [(2, vB false)] (by kernel_rfl) <| OWk.done (by kernel_rfl) <| thenS_n <| SW.ret ?_
        cases h
        exact EndQ.ret [] (by kernel_rfl) rfl
    · replace h := bif_f hc h
      refine OWk.sg 32 H [] [2] 15 [(2, vB false)] (by kernel_rfl) <| OWk.done (by kernel_rfl) <| thenS_n <| SW.ret ?_
      cases h
      exact EndQ.ret [] (by kernel_rfl) rfl
  · replace h := bif_f hc h
    refine OWk.sg 32 H [] [2] 21 [(2, vB false)] (by kernel_rfl) <| OWk.done (by kernel_rfl) <| thenS_n <| SW.ret ?_
    cases h
    exact EndQ.ret [] (by kernel_rfl) rfl

def j_named (fuel : Nat) (p0 : Note) : Option (Bool) :=
  bif ((((p0.Unit == 0) && (p0.Key == [])) && (!p0.Has)) && (!(p0.Text == []))) then
    some (decide ((p0.Text.length : Int) ≤ 40))
  else
    some false

theorem j_named_ok {fuel : Nat} {p0 : Note} {r : Bool} (h : j_named fuel p0 = some r) : PC Try.prog 77 [.d (encNote p0)] (vB r) := by
  refine PC.of_SW Try.func77 rfl fun H => ?_
  unfold j_named at h
  refine SW.kp 27 H [0] [(0, .d (.agg [.int .i64 p0.Kind, .int .i64 p0.Unit, .str p0.Key, .bool p0.Has, .str p0.Text]))] (by kernel_rfl) <| SW.seq <| SW.regionK <| OWk.sg 27 H [] [1] 2 [(1, .box [vI p0.Kind, vI p0.Unit, vS p0.Key, vB p0.Has, vS p0.Text])] (by kernel_rfl) <| OWk.done (by kernel_rfl) <| thenS_n <| SW.seq <| SW.regionK <| OWk.sg 27 H [] [1, 6] 4 [(1, .box [vI p0.Kind, vI p0.Unit, vS p0.Key, vB p0.Has, vS p0.Text]), (6, vB (p0.Unit == 0))] (by kernel_rfl) <| OWk.mg 27 H [1, 10] 4 (p0.Unit == 0) (fun b => (sp 27 [(1, .box [vI p0.Kind, vI p0.Unit, vS p0.Key, vB p0.Has, vS p0.Text]), (6, vB b)] H)) (fun b => [(1, .box [vI p0.Kind, vI p0.Unit, vS p0.Key, vB p0.Has, vS p0.Text]), (10, vB (b && (p0.Key == [])))]) (by kernel_rfl) (by kernel_rfl) (by kernel_rfl) <| OWk.sg 27 H [] [1, 11] 1 [(1, .box [vI p0.Kind, vI p0.Unit, vS p0.Key, vB p0.Has, vS p0.Text]), (11, vB ((p0.Unit == 0) && (p0.Key == [])))] (by kernel_rfl) <| OWk.mg 27 H [1, 15] 4 ((p0.Unit == 0) && (p0.Key == [])) (fun b => (sp 27 [(1, .box [vI p0.Kind, vI p0.Unit, vS p0.Key, vB p0.Has, vS p0.Text]), (11, vB b)] H)) (fun b => [(1, .box [vI p0.Kind, vI p0.Unit, vS p0.Key, vB p0.Has, vS p0.Text]), (15, vB (b && (!p0.Has)))]) (by kernel_rfl) (by kernel_rfl) (by kernel_rfl) <| OWk.sg 27 H [] [1, 16] 1 [(1, .box [vI p0.Kind, vI p0.Unit, vS p0.Key, vB p0.Has, vS p0.Text]), (16, vB (((p0.Unit == 0) && (p0.Key == [])) && (!p0.Has)))] (by kernel_rfl) <| OWk.mg 27 H [1, 20] 4 (((p0.Unit == 0) && (p0.Key == [])) && (!p0.Has)) (fun b => (sp 27 [(1, .box [vI p0.Kind, vI p0.Unit, vS p0.Key, vB p0.Has, vS p0.Text]), (16, vB b)] H)) (fun b => [(1, .box [vI p0.Kind, vI p0.Unit, vS p0.Key, vB p0.Has, vS p0.Text]), (20, vB (b && (!(p0.Text == []))))]) (by kernel_rfl) (by kernel_rfl) (by kernel_rfl) <| OWk.sg 27 H [] [1, 21] 1 [(1, .box [vI p0.Kind, vI p0.Unit, vS p0.Key, vB p0.Has, vS p0.Text]), (21, vB ((((p0.Unit == 0) && (p0.Key == [])) && (!p0.Has)) && (!(p0.Text == []))))] (by kernel_rfl) ?_
  refine OWk.case ((((p0.Unit == 0) && (p0.Key == [])) && (!p0.Has)) && (!(p0.Text == []))) (fun b => (sp 27 [(1, .box [vI p0.Kind, vI p0.Unit, vS p0.Key, vB p0.Has, vS p0.Text]), (21, vB b)] H)) (by kernel_rfl) (fun hc => ?_) (fun hc => ?_)
  · replace h := bif_t hc h
    refine OWk.sg 27 H [] [21, 23] 2 [(21, vB true), (23, vS p0.Text)] (by kernel_rfl) <| OWk.sg 27 H [] [21, 24] 1 [(21, vB true), (24, vI (p0.Text.length : Int))] (by kernel_rfl) <| OWk.sg 27 H [] [2] 3 [(2, vB (decide ((p0.Text.length : Int) ≤ 40)))] (by kernel_rfl) <| OWk.done (by kernel_rfl) <| thenS_n <| SW.ret ?_
    cases h
    exact EndQ.ret [] (by kernel_rfl) rfl
  · replace h := bif_f hc h
    refine OWk.sg 27 H [] [2] 6 [(2, vB false)] (by kernel_rfl) <| OWk.done (by kernel_rfl) <| thenS_n <| SW.ret ?_
    cases h
    exact EndQ.ret [] (by kernel_rfl) rfl

def j_Valid (fuel : Nat) (p0 : Note) : Option (Bool) :=
  bif ((decide (p0.Kind ≥ 1)) && (decide (p0.Kind ≤ 7))) then
    (j_kinds fuel).bind fun r1 =>
    bif (p0.Kind == 0) then
      none
    else
      bif (p0.Kind == 1) then
        (j_plain fuel p0).bind fun r2 =>
        some r2
      else
        bif (p0.Kind == 2) then
          (j_imaged fuel p0).bind fun r3 =>
          some r3
        else
          bif (p0.Kind == 3) then
            (j_imaged fuel p0).bind fun r4 =>
            some r4
          else
            bif (p0.Kind == 4) then
              (j_plain fuel p0).bind fun r5 =>
              some r5
            else
              bif (p0.Kind == 5) then
                (j_plain fuel p0).bind fun r6 =>
                some r6
              else
                bif (p0.Kind == 6) then
                  (j_named fuel p0).bind fun r7 =>
                  some r7
                else
                  bif (p0.Kind == 7) then
                    (j_plain fuel p0).bind fun r8 =>
                    some r8
                  else
                    none
  else
    some false

theorem j_Valid_ok {fuel : Nat} {p0 : Note} {r : Bool} (h : j_Valid fuel p0 = some r) : PC Try.prog 27 [.d (encNote p0)] (vB r) := by
  refine PC.of_SW Try.func27 rfl fun H => ?_
  unfold j_Valid at h
  refine SW.kp 19 H [0] [(0, .d (.agg [.int .i64 p0.Kind, .int .i64 p0.Unit, .str p0.Key, .bool p0.Has, .str p0.Text]))] (by kernel_rfl) <| SW.seq <| SW.regionK <| OWk.sg 19 H [] [1] 2 [(1, .box [vI p0.Kind, vI p0.Unit, vS p0.Key, vB p0.Has, vS p0.Text])] (by kernel_rfl) <| OWk.done (by kernel_rfl) <| thenS_n <| SW.seq <| SW.regionQ (by kernel_rfl) (by kernel_rfl) <| OQk.sg 19 H [] [1, 6] 4 [(1, .box [vI p0.Kind, vI p0.Unit, vS p0.Key, vB p0.Has, vS p0.Text]), (6, vB (decide (p0.Kind ≥ 1)))] (by kernel_rfl) <| OQk.mg 19 H [1, 10] 4 (decide (p0.Kind ≥ 1)) (fun b => (sp 19 [(1, .box [vI p0.Kind, vI p0.Unit, vS p0.Key, vB p0.Has, vS p0.Text]), (6, vB b)] H)) (fun b => [(1, .box [vI p0.Kind, vI p0.Unit, vS p0.Key, vB p0.Has, vS p0.Text]), (10, vB (b && (decide (p0.Kind ≤ 7))))]) (by kernel_rfl) (by kernel_rfl) (by kernel_rfl) <| OQk.sg 19 H [] [1, 11] 1 [(1, .box [vI p0.Kind, vI p0.Unit, vS p0.Key, vB p0.Has, vS p0.Text]), (11, vB ((decide (p0.Kind ≥ 1)) && (decide (p0.Kind ≤ 7))))] (by kernel_rfl) ?_
  refine OQk.case ((decide (p0.Kind ≥ 1)) && (decide (p0.Kind ≤ 7))) (fun b => (sp 19 [(1, .box [vI p0.Kind, vI p0.Unit, vS p0.Key, vB p0.Has, vS p0.Text]), (11, vB b)] H)) (by kernel_rfl) (fun hc => ?_) (fun hc => ?_)
  · replace h := bif_t hc h
    obtain ⟨r1, hr, h⟩ := bind_inv h
    refine OQk.cl 19 H (d := some 12) (ls := []) [1, 11, 12] [(1, .box [vI p0.Kind, vI p0.Unit, vS p0.Key, vB p0.Has, vS p0.Text]), (11, vB true), (12, .d (.agg [.nilFn, .fn (.func 75) [] [], .fn (.func 76) [] [], .fn (.func 76) [] [], .fn (.func 75) [] [], .fn (.func 75) [] [], .fn (.func 77) [] [], .fn (.func 75) [] []]))] (j_kinds_ok hr) (by kernel_rfl) (by kernel_rfl) (by kernel_rfl) <| OQk.sg 19 H [] [1, 11, 12, 14] 2 [(1, .box [vI p0.Kind, vI p0.Unit, vS p0.Key, vB p0.Has, vS p0.Text]), (11, vB true), (12, .d (.agg [.nilFn, .fn (.func 75) [] [], .fn (.func 76) [] [], .fn (.func 76) [] [], .fn (.func 75) [] [], .fn (.func 75) [] [], .fn (.func 77) [] [], .fn (.func 75) [] []])), (14, vI p0.Kind)] (by kernel_rfl) ?_
    rcases hc : (p0.Kind == 0) with _ | _
    · replace h := bif_f hc h
      rcases hc : (p0.Kind == 1) with _ | _
      · replace h := bif_f hc h
        rcases hc : (p0.Kind == 2) with _ | _
        · replace h := bif_f hc h
          rcases hc : (p0.Kind == 3) with _ | _
          · replace h := bif_f hc h
            rcases hc : (p0.Kind == 4) with _ | _
            · replace h := bif_f hc h
              rcases hc : (p0.Kind == 5) with _ | _
              · replace h := bif_f hc h
                rcases hc : (p0.Kind == 6) with _ | _
                · replace h := bif_f hc h
                  rcases hc : (p0.Kind == 7) with _ | _
                  · replace h := bif_f hc h
                    cases h
                  · replace h := bif_t hc h
                    refine OQk.lit (fun e => (sp 19 [(1, .box [vI p0.Kind, vI p0.Unit, vS p0.Key, vB p0.Has, vS p0.Text]), (11, vB true), (12, .d (.agg [.nilFn, .fn (.func 75) [] [], .fn (.func 76) [] [], .fn (.func 76) [] [], .fn (.func 75) [] [], .fn (.func 75) [] [], .fn (.func 77) [] [], .fn (.func 75) [] []])), (14, vI e)] H)) (by kernel_rfl) hc <| OQk.sg 19 H [] [11, 15, 16] 2 [(11, vB true), (15, .d (.fn (.func 75) [] [])), (16, .d (.agg [.int .i64 p0.Kind, .int .i64 p0.Unit, .str p0.Key, .bool p0.Has, .str p0.Text]))] (by kernel_rfl) ?_
                    obtain ⟨r8, hr, h⟩ := bind_inv h
                    refine OQk.cl 19 H (d := some 17) (ls := []) [11, 17] [(11, vB true), (17, vB r8)] (j_plain_ok hr) (by kernel_rfl) (by kernel_rfl) (by kernel_rfl) <| OQk.sg 19 H [] [2] 2 [(2, vB r8)] (by kernel_rfl) <| OQk.done (by kernel_rfl) <| thenS_n <| SW.ret ?_
                    cases h
                    exact EndQ.ret [] (by kernel_rfl) rfl
                · replace h := bif_t hc h
                  refine OQk.lit (fun e => (sp 19 [(1, .box [vI p0.Kind, vI p0.Unit, vS p0.Key, vB p0.Has, vS p0.Text]), (11, vB true), (12, .d (.agg [.nilFn, .fn (.func 75) [] [], .fn (.func 76) [] [], .fn (.func 76) [] [], .fn (.func 75) [] [], .fn (.func 75) [] [], .fn (.func 77) [] [], .fn (.func 75) [] []])), (14, vI e)] H)) (by kernel_rfl) hc <| OQk.sg 19 H [] [11, 15, 16] 2 [(11, vB true), (15, .d (.fn (.func 77) [] [])), (16, .d (.agg [.int .i64 p0.Kind, .int .i64 p0.Unit, .str p0.Key, .bool p0.Has, .str p0.Text]))] (by kernel_rfl) ?_
                  obtain ⟨r7, hr, h⟩ := bind_inv h
                  refine OQk.cl 19 H (d := some 17) (ls := []) [11, 17] [(11, vB true), (17, vB r7)] (j_named_ok hr) (by kernel_rfl) (by kernel_rfl) (by kernel_rfl) <| OQk.sg 19 H [] [2] 2 [(2, vB r7)] (by kernel_rfl) <| OQk.done (by kernel_rfl) <| thenS_n <| SW.ret ?_
                  cases h
                  exact EndQ.ret [] (by kernel_rfl) rfl
              · replace h := bif_t hc h
                refine OQk.lit (fun e => (sp 19 [(1, .box [vI p0.Kind, vI p0.Unit, vS p0.Key, vB p0.Has, vS p0.Text]), (11, vB true), (12, .d (.agg [.nilFn, .fn (.func 75) [] [], .fn (.func 76) [] [], .fn (.func 76) [] [], .fn (.func 75) [] [], .fn (.func 75) [] [], .fn (.func 77) [] [], .fn (.func 75) [] []])), (14, vI e)] H)) (by kernel_rfl) hc <| OQk.sg 19 H [] [11, 15, 16] 2 [(11, vB true), (15, .d (.fn (.func 75) [] [])), (16, .d (.agg [.int .i64 p0.Kind, .int .i64 p0.Unit, .str p0.Key, .bool p0.Has, .str p0.Text]))] (by kernel_rfl) ?_
                obtain ⟨r6, hr, h⟩ := bind_inv h
                refine OQk.cl 19 H (d := some 17) (ls := []) [11, 17] [(11, vB true), (17, vB r6)] (j_plain_ok hr) (by kernel_rfl) (by kernel_rfl) (by kernel_rfl) <| OQk.sg 19 H [] [2] 2 [(2, vB r6)] (by kernel_rfl) <| OQk.done (by kernel_rfl) <| thenS_n <| SW.ret ?_
                cases h
                exact EndQ.ret [] (by kernel_rfl) rfl
            · replace h := bif_t hc h
              refine OQk.lit (fun e => (sp 19 [(1, .box [vI p0.Kind, vI p0.Unit, vS p0.Key, vB p0.Has, vS p0.Text]), (11, vB true), (12, .d (.agg [.nilFn, .fn (.func 75) [] [], .fn (.func 76) [] [], .fn (.func 76) [] [], .fn (.func 75) [] [], .fn (.func 75) [] [], .fn (.func 77) [] [], .fn (.func 75) [] []])), (14, vI e)] H)) (by kernel_rfl) hc <| OQk.sg 19 H [] [11, 15, 16] 2 [(11, vB true), (15, .d (.fn (.func 75) [] [])), (16, .d (.agg [.int .i64 p0.Kind, .int .i64 p0.Unit, .str p0.Key, .bool p0.Has, .str p0.Text]))] (by kernel_rfl) ?_
              obtain ⟨r5, hr, h⟩ := bind_inv h
              refine OQk.cl 19 H (d := some 17) (ls := []) [11, 17] [(11, vB true), (17, vB r5)] (j_plain_ok hr) (by kernel_rfl) (by kernel_rfl) (by kernel_rfl) <| OQk.sg 19 H [] [2] 2 [(2, vB r5)] (by kernel_rfl) <| OQk.done (by kernel_rfl) <| thenS_n <| SW.ret ?_
              cases h
              exact EndQ.ret [] (by kernel_rfl) rfl
          · replace h := bif_t hc h
            refine OQk.lit (fun e => (sp 19 [(1, .box [vI p0.Kind, vI p0.Unit, vS p0.Key, vB p0.Has, vS p0.Text]), (11, vB true), (12, .d (.agg [.nilFn, .fn (.func 75) [] [], .fn (.func 76) [] [], .fn (.func 76) [] [], .fn (.func 75) [] [], .fn (.func 75) [] [], .fn (.func 77) [] [], .fn (.func 75) [] []])), (14, vI e)] H)) (by kernel_rfl) hc <| OQk.sg 19 H [] [11, 15, 16] 2 [(11, vB true), (15, .d (.fn (.func 76) [] [])), (16, .d (.agg [.int .i64 p0.Kind, .int .i64 p0.Unit, .str p0.Key, .bool p0.Has, .str p0.Text]))] (by kernel_rfl) ?_
            obtain ⟨r4, hr, h⟩ := bind_inv h
            refine OQk.cl 19 H (d := some 17) (ls := []) [11, 17] [(11, vB true), (17, vB r4)] (j_imaged_ok hr) (by kernel_rfl) (by kernel_rfl) (by kernel_rfl) <| OQk.sg 19 H [] [2] 2 [(2, vB r4)] (by kernel_rfl) <| OQk.done (by kernel_rfl) <| thenS_n <| SW.ret ?_
            cases h
            exact EndQ.ret [] (by kernel_rfl) rfl
        · replace h := bif_t hc h
          refine OQk.lit (fun e => (sp 19 [(1, .box [vI p0.Kind, vI p0.Unit, vS p0.Key, vB p0.Has, vS p0.Text]), (11, vB true), (12, .d (.agg [.nilFn, .fn (.func 75) [] [], .fn (.func 76) [] [], .fn (.func 76) [] [], .fn (.func 75) [] [], .fn (.func 75) [] [], .fn (.func 77) [] [], .fn (.func 75) [] []])), (14, vI e)] H)) (by kernel_rfl) hc <| OQk.sg 19 H [] [11, 15, 16] 2 [(11, vB true), (15, .d (.fn (.func 76) [] [])), (16, .d (.agg [.int .i64 p0.Kind, .int .i64 p0.Unit, .str p0.Key, .bool p0.Has, .str p0.Text]))] (by kernel_rfl) ?_
          obtain ⟨r3, hr, h⟩ := bind_inv h
          refine OQk.cl 19 H (d := some 17) (ls := []) [11, 17] [(11, vB true), (17, vB r3)] (j_imaged_ok hr) (by kernel_rfl) (by kernel_rfl) (by kernel_rfl) <| OQk.sg 19 H [] [2] 2 [(2, vB r3)] (by kernel_rfl) <| OQk.done (by kernel_rfl) <| thenS_n <| SW.ret ?_
          cases h
          exact EndQ.ret [] (by kernel_rfl) rfl
      · replace h := bif_t hc h
        refine OQk.lit (fun e => (sp 19 [(1, .box [vI p0.Kind, vI p0.Unit, vS p0.Key, vB p0.Has, vS p0.Text]), (11, vB true), (12, .d (.agg [.nilFn, .fn (.func 75) [] [], .fn (.func 76) [] [], .fn (.func 76) [] [], .fn (.func 75) [] [], .fn (.func 75) [] [], .fn (.func 77) [] [], .fn (.func 75) [] []])), (14, vI e)] H)) (by kernel_rfl) hc <| OQk.sg 19 H [] [11, 15, 16] 2 [(11, vB true), (15, .d (.fn (.func 75) [] [])), (16, .d (.agg [.int .i64 p0.Kind, .int .i64 p0.Unit, .str p0.Key, .bool p0.Has, .str p0.Text]))] (by kernel_rfl) ?_
        obtain ⟨r2, hr, h⟩ := bind_inv h
        refine OQk.cl 19 H (d := some 17) (ls := []) [11, 17] [(11, vB true), (17, vB r2)] (j_plain_ok hr) (by kernel_rfl) (by kernel_rfl) (by kernel_rfl) <| OQk.sg 19 H [] [2] 2 [(2, vB r2)] (by kernel_rfl) <| OQk.done (by kernel_rfl) <| thenS_n <| SW.ret ?_
        cases h
        exact EndQ.ret [] (by kernel_rfl) rfl
    · replace h := bif_t hc h
      refine OQk.lit (fun e => (sp 19 [(1, .box [vI p0.Kind, vI p0.Unit, vS p0.Key, vB p0.Has, vS p0.Text]), (11, vB true), (12, .d (.agg [.nilFn, .fn (.func 75) [] [], .fn (.func 76) [] [], .fn (.func 76) [] [], .fn (.func 75) [] [], .fn (.func 75) [] [], .fn (.func 77) [] [], .fn (.func 75) [] []])), (14, vI e)] H)) (by kernel_rfl) hc <| OQk.sg 19 H [] [11, 15, 16] 2 [(11, vB true), (15, .d (.nilFn)), (16, .d (.agg [.int .i64 p0.Kind, .int .i64 p0.Unit, .str p0.Key, .bool p0.Has, .str p0.Text]))] (by kernel_rfl) ?_
      cases h
  · replace h := bif_f hc h
    refine OQk.sg 19 H [] [2] 8 [(2, vB false)] (by kernel_rfl) <| OQk.done (by kernel_rfl) <| thenS_n <| SW.ret ?_
    cases h
    exact EndQ.ret [] (by kernel_rfl) rfl

def j_valid_1 (fuel : Nat) (p0 : Note) : Option (Bool) :=
  (j_Valid fuel p0).bind fun r1 =>
  some (!r1)

theorem j_valid_1_ok {fuel : Nat} {p0 : Note} {r : Bool} (h : j_valid_1 fuel p0 = some r) : PC Try.prog 79 [.d (encNote p0)] (vB r) := by
  refine PC.of_SW Try.func79 rfl fun H => ?_
  unfold j_valid_1 at h
  refine SW.kp 6 H [0] [(0, .d (.agg [.int .i64 p0.Kind, .int .i64 p0.Unit, .str p0.Key, .bool p0.Has, .str p0.Text]))] (by kernel_rfl) <| SW.seq <| SW.regionK <| OWk.sg 6 H [] [1] 2 [(1, .box [vI p0.Kind, vI p0.Unit, vS p0.Key, vB p0.Has, vS p0.Text])] (by kernel_rfl) <| OWk.done (by kernel_rfl) <| thenS_n <| SW.seq <| SW.regionK <| OWk.sg 6 H [] [3] 1 [(3, .d (.agg [.int .i64 p0.Kind, .int .i64 p0.Unit, .str p0.Key, .bool p0.Has, .str p0.Text]))] (by kernel_rfl) ?_
  obtain ⟨r1, hr, h⟩ := bind_inv h
  refine OWk.cl 6 H (d := some 4) (ls := []) (gs := []) [] [4] [(4, vB r1)] (j_Valid_ok hr) (by kernel_rfl) (by kernel_rfl) (by kernel_rfl) <| OWk.sg 6 H [] [2] 2 [(2, vB (!r1))] (by kernel_rfl) <| OWk.done (by kernel_rfl) <| thenS_n <| SW.ret ?_
  cases h
  exact EndQ.ret [] (by kernel_rfl) rfl

def slices_IndexFunc_79_l1 (fuel : Nat) (p0 : (List Note)) (y1 : Int) : Option ((Int) ⊕ ((Unit) ⊕ ((Int)))) :=
  bif (decide (y1 < (p0.length : Int))) then
    (idx p0 y1).bind fun x2 =>
    (j_valid_1 fuel x2).bind fun r3 =>
    bif r3 then
      some (.inr (.inr y1))
    else
      some (.inl (IntKind.wrap .i64 (y1 + 1)))
  else
    some (.inr (.inl ()))

def slices_IndexFunc_79 (fuel : Nat) (p0 : (List Note)) : Option (Int) :=
  (iter (slices_IndexFunc_79_l1 fuel p0) fuel 0).bind (Sum.elim (fun v5 =>
    some (-1)) (fun r6 =>
    some r6))

theorem slices_IndexFunc_79_ok {fuel : Nat} {p0 : (List Note)} {r : Int} (h : slices_IndexFunc_79 fuel p0 = some r) : PC Try.prog 88 [.d (.list 5 (List.map encNote p0)), .d (.fn (.func 79) [] [])] (vI r) := by
  refine PC.of_SW Try.func88 rfl fun H => ?_
  unfold slices_IndexFunc_79 at h
  refine SW.kp 19 H [0, 1] [(0, .d (.list 5 (List.map encNote p0))), (1, .d (.fn (.func 79) [] []))] (by kernel_rfl) <| SW.seq <| SW.regionK <| OWk.sg 19 H [] [0, 1] 1 [(0, .d (.list 5 (List.map encNote p0))), (1, .d (.fn (.func 79) [] []))] (by kernel_rfl) <| OWk.done (by kernel_rfl) <| thenS_n <| SW.seq <| SW.seq <| SW.regionK <| OWk.sg 19 H [] [0, 1, 6] 1 [(0, .d (.list 5 (List.map encNote p0))), (1, .d (.fn (.func 79) [] [])), (6, .d (.list 5 (List.map encNote p0)))] (by kernel_rfl) <| OWk.on 19 H (d := some 7) [0, 1, 7] [(0, .d (.list 5 (List.map encNote p0))), (1, .d (.fn (.func 79) [] [])), (7, vI (p0.length : Int))] (BAt.len (enc := encNote) (xs := p0) (by kernel_rfl)) (by kernel_rfl) <| OWk.sg 19 H [] [0, 1, 7, 8] 1 [(0, .d (.list 5 (List.map encNote p0))), (1, .d (.fn (.func 79) [] [])), (7, vI (p0.length : Int)), (8, vI 0)] (by kernel_rfl) <| OWk.done (by kernel_rfl) <| thenS_n <| SW.block ?_
  obtain ⟨z4, hit, h⟩ := bind_inv h
  refine SW.it 19 H [0, 1, 7, 8] (fun y1 => [(0, .d (.list 5 (List.map encNote p0))), (1, .d (.fn (.func 79) [] [])), (7, vI (p0.length : Int)), (8, vI y1)]) (fun b e s => ((∃ v5, b = (.inl v5) ∧ (e = .exit 0 ∧ s = (sp 19 [] H))) ∨ (∃ r6, b = (.inr r6) ∧ (e = .ret ∧ EndQ Try.prog Try.f88.results.toList H (vI r6) .ret s)))) hit (by kernel_rfl) (fun y1 o h => ?_) ?_
  · unfold slices_IndexFunc_79_l1 at h
    refine SW.seq <| SW.regionK <| OWk.sg 19 H [] [0, 1, 7, 8, 9] 1 [(0, .d (.list 5 (List.map encNote p0))), (1, .d (.fn (.func 79) [] [])), (7, vI (p0.length : Int)), (8, vI y1), (9, vB (decide (y1 < (p0.length : Int))))] (by kernel_rfl) <| OWk.done (by kernel_rfl) <| thenS_n <| SW.seq ?_
    refine SW.condB (b := (decide (y1 < (p0.length : Int)))) (by kernel_rfl) (fun hc => ?_) (fun hc => ?_)
    · replace h := bif_t hc h
      refine SW.skip <| thenS_n <| SW.seq <| SW.block <| SW.seq <| SW.regionK <| OWk.sg 19 H [] [0, 1, 5, 7, 8] 2 [(0, .d (.list 5 (List.map encNote p0))), (1, .d (.fn (.func 79) [] [])), (5, vI y1), (7, vI (p0.length : Int)), (8, vI y1)] (by kernel_rfl) <| OWk.done (by kernel_rfl) <| thenS_n <| SW.seq <| SW.regionK <| OWk.sg 19 H [] [0, 1, 5, 7, 8, 11, 12, 13] 3 [(0, .d (.list 5 (List.map encNote p0))), (1, .d (.fn (.func 79) [] [])), (5, vI y1), (7, vI (p0.length : Int)), (8, vI y1), (11, .d (.fn (.func 79) [] [])), (12, .d (.list 5 (List.map encNote p0))), (13, vI y1)] (by kernel_rfl) ?_
      obtain ⟨x2, hx, h⟩ := bind_inv h
      refine OWk.on 19 H (d := some 14) (s := lendP none (Go.Sh.D.cells (encNote x2))) [0, 1, 5, 7, 8, 11, 14] [(0, .d (.list 5 (List.map encNote p0))), (1, .d (.fn (.func 79) [] [])), (5, vI y1), (7, vI (p0.length : Int)), (8, vI y1), (11, .d (.fn (.func 79) [] [])), (14, .d (.dptr [.int .i64 x2.Kind, .int .i64 x2.Unit, .str x2.Key, .bool x2.Has, .str x2.Text]))] (BAt.index (n := 5) hx (by kernel_rfl)) (by kernel_rfl) <| OWk.sg 19 H [] [0, 1, 5, 7, 8, 11, 15] 1 [(0, .d (.list 5 (List.map encNote p0))), (1, .d (.fn (.func 79) [] [])), (5, vI y1), (7, vI (p0.length : Int)), (8, vI y1), (11, .d (.fn (.func 79) [] [])), (15, .d (.agg [.int .i64 x2.Kind, .int .i64 x2.Unit, .str x2.Key, .bool x2.Has, .str x2.Text]))] (by kernel_rfl) ?_
      obtain ⟨r3, hr, h⟩ := bind_inv h
      refine OWk.cl 19 H (d := some 16) (ls := []) (gs := []) [] [0, 1, 5, 7, 8, 16] [(0, .d (.list 5 (List.map encNote p0))), (1, .d (.fn (.func 79) [] [])), (5, vI y1), (7, vI (p0.length : Int)), (8, vI y1), (16, vB r3)] (j_valid_1_ok hr) (by kernel_rfl) (by kernel_rfl) (by kernel_rfl) <| OWk.done (by kernel_rfl) <| thenS_n ?_
      refine SW.condB (b := r3) (by kernel_rfl) (fun hc => ?_) (fun hc => ?_)
      · replace h := bif_t hc h
        refine SW.seq <| SW.regionK <| OWk.sg 19 H [] [4] 2 [(4, vI y1)] (by kernel_rfl) <| OWk.done (by kernel_rfl) <| thenS_n <| SW.ret <| blockS_r <| thenS_r ?_
        cases h
        refine thenS_r ?_
        exact ⟨_, rfl, .inr (⟨y1, rfl, rfl, EndQ.ret [] (by kernel_rfl) rfl⟩)⟩
      · replace h := bif_f hc h
        refine SW.skip <| blockS_n <| thenS_n <| SW.regionK <| OWk.sg 19 H [] [0, 1, 7, 8] 2 [(0, .d (.list 5 (List.map encNote p0))), (1, .d (.fn (.func 79) [] [])), (7, vI (p0.length : Int)), (8, vI (IntKind.wrap .i64 (y1 + 1)))] (by kernel_rfl) <| OWk.done (by kernel_rfl) ?_
        cases h
        exact ⟨(IntKind.wrap .i64 (y1 + 1)), rfl, by kernel_rfl⟩
    · replace h := bif_f hc h
      refine SW.kp 19 H [] [] (by kernel_rfl) <| SW.exit <| thenS_e ?_
      cases h
      refine thenS_e ?_
      exact ⟨_, rfl, .inl ⟨(), rfl, rfl, rfl⟩⟩
  · rintro _ _ (⟨v5, rfl, rfl, rfl⟩ | ⟨r6, rfl, rfl, hE⟩)
    · replace h := sum_l h
      refine blockS_hit <| thenS_n <| SW.seq <| SW.regionK <| OWk.sg 19 H [] [4] 1 [(4, vI (-1))] (by kernel_rfl) <| OWk.done (by kernel_rfl) <| thenS_n <| SW.ret ?_
      cases h
      exact EndQ.ret [] (by kernel_rfl) rfl
    · replace h := sum_r h
      refine blockS_r <| thenS_r ?_
      cases h
      exact hE

def slices_ContainsFunc_79 (fuel : Nat) (p0 : (List Note)) : Option (Bool) :=
  (slices_IndexFunc_79 fuel p0).bind fun r1 =>
  some (decide (r1 ≥ 0))

theorem slices_ContainsFunc_79_ok {fuel : Nat} {p0 : (List Note)} {r : Bool} (h : slices_ContainsFunc_79 fuel p0 = some r) : PC Try.prog 78 [.d (.list 5 (List.map encNote p0)), .d (.fn (.func 79) [] [])] (vB r) := by
  refine PC.of_SW Try.func78 rfl fun H => ?_
  unfold slices_ContainsFunc_79 at h
  refine SW.kp 9 H [0, 1] [(0, .d (.list 5 (List.map encNote p0))), (1, .d (.fn (.func 79) [] []))] (by kernel_rfl) <| SW.seq <| SW.regionK <| OWk.sg 9 H [] [0, 1] 1 [(0, .d (.list 5 (List.map encNote p0))), (1, .d (.fn (.func 79) [] []))] (by kernel_rfl) <| OWk.done (by kernel_rfl) <| thenS_n <| SW.seq <| SW.regionK <| OWk.sg 9 H [] [5, 6] 2 [(5, .d (.list 5 (List.map encNote p0))), (6, .d (.fn (.func 79) [] []))] (by kernel_rfl) ?_
  obtain ⟨r1, hr, h⟩ := bind_inv h
  refine OWk.cl 9 H (d := some 7) (ls := []) (gs := []) [] [7] [(7, vI r1)] (slices_IndexFunc_79_ok hr) (by kernel_rfl) (by kernel_rfl) (by kernel_rfl) <| OWk.sg 9 H [] [4] 2 [(4, vB (decide (r1 ≥ 0)))] (by kernel_rfl) <| OWk.done (by kernel_rfl) <| thenS_n <| SW.ret ?_
  cases h
  exact EndQ.ret [] (by kernel_rfl) rfl

def j_valid (fuel : Nat) (p0 : (List Note)) : Option (Bool) :=
  bif (decide ((p0.length : Int) ≤ 1000)) then
    (slices_ContainsFunc_79 fuel p0).bind fun r1 =>
    some (!r1)
  else
    some false

theorem j_valid_ok {fuel : Nat} {p0 : (List Note)} {r : Bool} (h : j_valid fuel p0 = some r) : PC Try.prog 60 [.d (.list 5 (List.map encNote p0))] (vB r) := by
  refine PC.of_SW Try.func60 rfl fun H => ?_
  unfold j_valid at h
  refine SW.kp 11 H [0] [(0, .d (.list 5 (List.map encNote p0)))] (by kernel_rfl) <| SW.seq <| SW.regionK <| OWk.sg 11 H [] [0] 1 [(0, .d (.list 5 (List.map encNote p0)))] (by kernel_rfl) <| OWk.done (by kernel_rfl) <| thenS_n <| SW.seq <| SW.regionK <| OWk.sg 11 H [] [0, 3] 1 [(0, .d (.list 5 (List.map encNote p0))), (3, .d (.list 5 (List.map encNote p0)))] (by kernel_rfl) <| OWk.on 11 H (d := some 4) [0, 4] [(0, .d (.list 5 (List.map encNote p0))), (4, vI (p0.length : Int))] (BAt.len (enc := encNote) (xs := p0) (by kernel_rfl)) (by kernel_rfl) <| OWk.sg 11 H [] [0, 6] 2 [(0, .d (.list 5 (List.map encNote p0))), (6, vB (decide ((p0.length : Int) ≤ 1000)))] (by kernel_rfl) ?_
  refine OWk.case (decide ((p0.length : Int) ≤ 1000)) (fun b => (sp 11 [(0, .d (.list 5 (List.map encNote p0))), (6, vB b)] H)) (by kernel_rfl) (fun hc => ?_) (fun hc => ?_)
  · replace h := bif_t hc h
    refine OWk.sg 11 H [] [6, 7] 1 [(6, vB true), (7, .d (.list 5 (List.map encNote p0)))] (by kernel_rfl) ?_
    obtain ⟨r1, hr, h⟩ := bind_inv h
    refine OWk.cl 11 H (d := some 8) (ls := []) (gs := []) [] [6, 8] [(6, vB true), (8, vB r1)] (slices_ContainsFunc_79_ok hr) (by kernel_rfl) (by kernel_rfl) (by kernel_rfl) <| OWk.sg 11 H [] [2] 3 [(2, vB (!r1))] (by kernel_rfl) <| OWk.done (by kernel_rfl) <| thenS_n <| SW.ret ?_
    cases h
    exact EndQ.ret [] (by kernel_rfl) rfl
  · replace h := bif_f hc h
    refine OWk.sg 11 H [] [2] 5 [(2, vB false)] (by kernel_rfl) <| OWk.done (by kernel_rfl) <| thenS_n <| SW.ret ?_
    cases h
    exact EndQ.ret [] (by kernel_rfl) rfl

theorem encNote_np (x : Note) : noPtr (encNote x) = true := by simp [encNote, noPtr, noPtrs]

def j_Wrong_l1 (fuel : Nat) (q3 : (Hp × Nat)) (q26 : (Rng (List UInt8) Bool)) (y27 : Hp) (e28 : ((List UInt8) × Bool)) : Option ((Hp) ⊕ (Empty)) :=
  (hMdel kS (cI .i64) y27 (some q3.2) e28.1).bind fun H29 =>
  chk (holes q26 H29) <|
  some (.inl H29)

noncomputable def j_Wrong_l2 (fuel : Nat) (p0 : (List Note)) (q2 : (Hp × Nat)) (q3 : (Hp × Nat)) (y4 : Int × Hp) : Option ((Int × Hp) ⊕ ((Hp) ⊕ ((Int × Int)))) :=
  bif (decide (y4.1 < (p0.length : Int))) then
    (idx p0 y4.1).bind fun x5 =>
    (hLook (kI .i64) cP y4.2 (some q2.2) x5.Unit).bind fun q6 =>
    bif ((x5.Kind != 6) && (q6.isSome == (x5.Kind == 1))) then
      some (.inr (.inr (y4.1, 9)))
    else
      bif (x5.Kind == 1) then
        (hNew y4.2 (.map [])).bind fun q7 =>
        (hNew q7.1 (.cells [.d (.int .i64 y4.1), .d (.map q7.2)])).bind fun q8 =>
        (hMput (kI .i64) cP q8.1 (some q2.2) x5.Unit (some q8.2)).bind fun H9 =>
        some (.inl ((IntKind.wrap .i64 (y4.1 + 1)), H9))
      else
        letJ (fun (j10 : Bool) =>
          bif j10 then
            letJ (fun (j12 : Unit) =>
              (hLook kS (cI .i64) y4.2 (some q3.2) x5.Key).bind fun q17 =>
              bif (q17.isSome && ((q17.getD 0) != x5.Unit)) then
                some (.inr (.inr (y4.1, 6)))
              else
                (q6.getD none).bind fun i18 =>
                (hGet cM.cell y4.2 i18 1).bind fun x19 =>
                (hMput kS cB y4.2 x19 x5.Key true).bind fun H20 =>
                (hMput kS (cI .i64) H20 (some q3.2) x5.Key x5.Unit).bind fun H21 =>
                some (.inl ((IntKind.wrap .i64 (y4.1 + 1)), H21))) fun jp13 =>
            bif (x5.Kind == 3) then
              (q6.getD none).bind fun i14 =>
              (hGet cM.cell y4.2 i14 1).bind fun x15 =>
              (hLook kS cB y4.2 x15 x5.Key).bind fun q16 =>
              bif (!(q16.getD false)) then
                some (.inr (.inr (y4.1, 8)))
              else
                jp13 ()
            else
              jp13 ()
          else
            letJ (fun (j22 : Bool) =>
              bif j22 then
                (q6.getD none).bind fun i24 =>
                (hGet cM.cell y4.2 i24 1).bind fun x25 =>
                (hRange kS cB y4.2 x25).bind fun q26 =>
                allP q26.es fun p => (foldI (j_Wrong_l1 fuel q3 q26) q26.H p).bind (Sum.elim (fun y30 =>
                  (hBack kS cB q26 y30).bind fun H31 =>
                  (hNew H31 (.map [])).bind fun q32 =>
                  (q6.getD none).bind fun i33 =>
                  (hSet (cI .i64) q32.1 i33 0 y4.1).bind fun H34 =>
                  (q6.getD none).bind fun i35 =>
                  (hSet cM H34 i35 1 (some q32.2)).bind fun H36 =>
                  bif (x5.Kind != 4) then
                    (hMdel (kI .i64) cP H36 (some q2.2) x5.Unit).bind fun H37 =>
                    some (.inl ((IntKind.wrap .i64 (y4.1 + 1)), H37))
                  else
                    some (.inl ((IntKind.wrap .i64 (y4.1 + 1)), H36)))
                  Empty.elim)
              else
                some (.inl ((IntKind.wrap .i64 (y4.1 + 1)), y4.2))) fun jp23 =>
            bif (x5.Kind == 4) then
              jp23 true
            else
              bif (x5.Kind == 5) then
                jp23 true
              else
                jp23 (x5.Kind == 7)) fun jp11 =>
        bif (x5.Kind == 3) then
          jp11 true
        else
          jp11 (x5.Kind == 2)
  else
    some (.inr (.inl y4.2))

noncomputable def j_Wrong (fuel : Nat) (p0 : (List Note)) : Option (Int × Int) :=
  (j_valid fuel p0).bind fun r1 =>
  bif (!r1) then
    some (0, 1)
  else
    (hNew [] (.map [])).bind fun q2 =>
    (hNew q2.1 (.map [])).bind fun q3 =>
    (iter (j_Wrong_l2 fuel p0 q2 q3) fuel (0, q3.1)).bind (Sum.elim (fun v39 =>
      some ((-1), 0)) (fun r40 =>
      some r40))

theorem j_Wrong_ok {fuel : Nat} {p0 : (List Note)} {r : Int × Int} (h : j_Wrong fuel p0 = some r) : PC Try.prog 67 [.d (.list 5 (List.map encNote p0))] (.tup [vI r.1, vI r.2]) := by
  refine PC.of_localSW Try.func67 rfl (by simp [noPtrSV, noPtr, noPtrs, vI, vB, vS, noPtrs_map (f := encNote) encNote_np]) (by simp [noPtrSV, noPtr, noPtrs, vI, vB, vS]) ?_
  unfold j_Wrong at h
  refine SW.kp 129 [] [0] [(0, .d (.list 5 (List.map encNote p0)))] (by kernel_rfl) <| SW.seq <| SW.regionK <| OWk.sg 129 [] [] [0] 2 [(0, .d (.list 5 (List.map encNote p0)))] (by kernel_rfl) <| OWk.done (by kernel_rfl) <| thenS_n <| SW.seq <| SW.seq <| SW.regionK <| OWk.sg 129 [] [] [0, 13] 1 [(0, .d (.list 5 (List.map encNote p0))), (13, .d (.list 5 (List.map encNote p0)))] (by kernel_rfl) ?_
  obtain ⟨r1, hr, h⟩ := bind_inv h
  refine OWk.cl 129 [] (d := some 14) (ls := []) (gs := []) [] [0, 14] [(0, .d (.list 5 (List.map encNote p0))), (14, vB r1)] (j_valid_ok hr) (by kernel_rfl) (by kernel_rfl) (by kernel_rfl) <| OWk.sg 129 [] [] [0, 15] 1 [(0, .d (.list 5 (List.map encNote p0))), (15, vB (!r1))] (by kernel_rfl) <| OWk.done (by kernel_rfl) <| thenS_n ?_
  refine SW.condB (b := (!r1)) (by kernel_rfl) (fun hc => ?_) (fun hc => ?_)
  · replace h := bif_t hc h
    refine SW.seq <| SW.regionK <| OWk.sg 129 [] [] [2, 3] 2 [(2, vI 0), (3, vI 1)] (by kernel_rfl) <| OWk.done (by kernel_rfl) <| thenS_n <| SW.ret <| thenS_r ?_
    cases h
    exact EndL.ret [] (by kernel_rfl)
  · replace h := bif_f hc h
    refine SW.skip <| thenS_n <| SW.seq <| SW.regionK ?_
    obtain ⟨q2, hq, h⟩ := bind_inv h
    refine OWk.hnew 129 q2.1 (d := some 16) (b := true) [] [0, 16] [(0, .d (.list 5 (List.map encNote p0))), (16, .d (.map q2.2))] hq (by kernel_rfl) rfl (by kernel_rfl) <| OWk.sg 129 q2.1 [] [0, 4] 1 [(0, .d (.list 5 (List.map encNote p0))), (4, .d (.map q2.2))] (by kernel_rfl) <| OWk.done (by kernel_rfl) <| thenS_n <| SW.seq <| SW.regionK ?_
    obtain ⟨q3, hq, h⟩ := bind_inv h
    refine OWk.hnew 129 q3.1 (d := some 17) (b := true) [] [0, 4, 17] [(0, .d (.list 5 (List.map encNote p0))), (4, .d (.map q2.2)), (17, .d (.map q3.2))] hq (by kernel_rfl) rfl (by kernel_rfl) <| OWk.sg 129 q3.1 [] [0, 4, 5] 1 [(0, .d (.list 5 (List.map encNote p0))), (4, .d (.map q2.2)), (5, .d (.map q3.2))] (by kernel_rfl) <| OWk.done (by kernel_rfl) <| thenS_n <| SW.seq <| SW.seq <| SW.regionK <| OWk.sg 129 q3.1 [] [4, 5, 18] 1 [(4, .d (.map q2.2)), (5, .d (.map q3.2)), (18, .d (.list 5 (List.map encNote p0)))] (by kernel_rfl) <| OWk.on 129 q3.1 (d := some 19) [4, 5, 18, 19] [(4, .d (.map q2.2)), (5, .d (.map q3.2)), (18, .d (.list 5 (List.map encNote p0))), (19, vI (p0.length : Int))] (BAt.len (enc := encNote) (xs := p0) (by kernel_rfl)) (by kernel_rfl) <| OWk.sg 129 q3.1 [] [4, 5, 18, 19, 20] 1 [(4, .d (.map q2.2)), (5, .d (.map q3.2)), (18, .d (.list 5 (List.map encNote p0))), (19, vI (p0.length : Int)), (20, vI 0)] (by kernel_rfl) <| OWk.done (by kernel_rfl) <| thenS_n <| SW.block ?_
    obtain ⟨z38, hit, h⟩ := bind_inv h
    refine SW.itH 129 [4, 5, 18, 19, 20] (fun y4 => [(4, .d (.map q2.2)), (5, .d (.map q3.2)), (18, .d (.list 5 (List.map encNote p0))), (19, vI (p0.length : Int)), (20, vI y4.1)]) (fun y4 => y4.2) (fun b e s => ((∃ v39, b = (.inl v39) ∧ (e = .exit 0 ∧ s = (sp 129 [] v39))) ∨ (∃ r40, b = (.inr r40) ∧ (e = .ret ∧ EndL Try.prog Try.f67.results.toList (.tup [vI r40.1, vI r40.2]) .ret s)))) hit (by kernel_rfl) (fun y4 o h => ?_) ?_
    · unfold j_Wrong_l2 at h
      refine SW.seq <| SW.regionK <| OWk.sg 129 y4.2 [] [4, 5, 18, 19, 20, 21] 1 [(4, .d (.map q2.2)), (5, .d (.map q3.2)), (18, .d (.list 5 (List.map encNote p0))), (19, vI (p0.length : Int)), (20, vI y4.1), (21, vB (decide (y4.1 < (p0.length : Int))))] (by kernel_rfl) <| OWk.done (by kernel_rfl) <| thenS_n <| SW.seq ?_
      refine SW.condB (b := (decide (y4.1 < (p0.length : Int)))) (by kernel_rfl) (fun hc => ?_) (fun hc => ?_)
      · replace h := bif_t hc h
        refine SW.skip <| thenS_n <| SW.seq <| SW.block <| SW.seq <| SW.regionK <| OWk.sg 129 y4.2 [] [4, 5, 18, 19, 20, 22] 1 [(4, .d (.map q2.2)), (5, .d (.map q3.2)), (18, .d (.list 5 (List.map encNote p0))), (19, vI (p0.length : Int)), (20, vI y4.1), (22, vI y4.1)] (by kernel_rfl) ?_
        obtain ⟨x5, hx, h⟩ := bind_inv h
        refine OWk.on 129 y4.2 (d := some 23) (s := lendP none (Go.Sh.D.cells (encNote x5))) [4, 5, 18, 19, 20, 22, 23] [(4, .d (.map q2.2)), (5, .d (.map q3.2)), (18, .d (.list 5 (List.map encNote p0))), (19, vI (p0.length : Int)), (20, vI y4.1), (22, vI y4.1), (23, .d (.dptr [.int .i64 x5.Kind, .int .i64 x5.Unit, .str x5.Key, .bool x5.Has, .str x5.Text]))] (BAt.index (n := 5) hx (by kernel_rfl)) (by kernel_rfl) <| OWk.sg 129 y4.2 [] [4, 5, 6, 7, 18, 19, 20] 4 [(4, .d (.map q2.2)), (5, .d (.map q3.2)), (6, vI y4.1), (7, .box [vI x5.Kind, vI x5.Unit, vS x5.Key, vB x5.Has, vS x5.Text]), (18, .d (.list 5 (List.map encNote p0))), (19, vI (p0.length : Int)), (20, vI y4.1)] (by kernel_rfl) <| OWk.done (by kernel_rfl) <| thenS_n <| SW.seq <| SW.regionK <| OWk.sg 129 y4.2 [] [4, 5, 6, 7, 18, 19, 20, 26, 28] 3 [(4, .d (.map q2.2)), (5, .d (.map q3.2)), (6, vI y4.1), (7, .box [vI x5.Kind, vI x5.Unit, vS x5.Key, vB x5.Has, vS x5.Text]), (18, .d (.list 5 (List.map encNote p0))), (19, vI (p0.length : Int)), (20, vI y4.1), (26, .d (.map q2.2)), (28, vI x5.Unit)] (by kernel_rfl) ?_
        obtain ⟨q6, hq, h⟩ := bind_inv h
        refine OWk.on 129 y4.2 (d := some 29) [4, 5, 6, 7, 18, 19, 20, 29] [(4, .d (.map q2.2)), (5, .d (.map q3.2)), (6, vI y4.1), (7, .box [vI x5.Kind, vI x5.Unit, vS x5.Key, vB x5.Has, vS x5.Text]), (18, .d (.list 5 (List.map encNote p0))), (19, vI (p0.length : Int)), (20, vI y4.1), (29, .tup [.d (cP.enc (q6.getD none)), vB q6.isSome])] (BAt.look (kc := (kI .i64)) (v := cP) (ok := true) (mm := (some q2.2)) (key := x5.Unit) (z := none) hq (by kernel_rfl)) (by kernel_rfl) <| OWk.sg 129 y4.2 [] [4, 5, 6, 7, 8, 9, 18, 19, 20] 5 [(4, .d (.map q2.2)), (5, .d (.map q3.2)), (6, vI y4.1), (7, .box [vI x5.Kind, vI x5.Unit, vS x5.Key, vB x5.Has, vS x5.Text]), (8, .d (cP.enc (q6.getD none))), (9, vB q6.isSome), (18, .d (.list 5 (List.map encNote p0))), (19, vI (p0.length : Int)), (20, vI y4.1)] (by kernel_rfl) <| OWk.done (by kernel_rfl) <| thenS_n <| SW.seq <| SW.seq <| SW.regionK <| OWk.sg 129 y4.2 [] [4, 5, 6, 7, 8, 9, 18, 19, 20, 35] 4 [(4, .d (.map q2.2)), (5, .d (.map q3.2)), (6, vI y4.1), (7, .box [vI x5.Kind, vI x5.Unit, vS x5.Key, vB x5.Has, vS x5.Text]), (8, .d (cP.enc (q6.getD none))), (9, vB q6.isSome), (18, .d (.list 5 (List.map encNote p0))), (19, vI (p0.length : Int)), (20, vI y4.1), (35, vB (x5.Kind != 6))] (by kernel_rfl) <| OWk.mg 129 y4.2 [4, 5, 6, 7, 8, 18, 19, 20, 41] 6 (x5.Kind != 6) (fun b => (sp 129 [(4, .d (.map q2.2)), (5, .d (.map q3.2)), (6, vI y4.1), (7, .box [vI x5.Kind, vI x5.Unit, vS x5.Key, vB x5.Has, vS x5.Text]), (8, .d (cP.enc (q6.getD none))), (9, vB q6.isSome), (18, .d (.list 5 (List.map encNote p0))), (19, vI (p0.length : Int)), (20, vI y4.1), (35, vB b)] y4.2)) (fun b => [(4, .d (.map q2.2)), (5, .d (.map q3.2)), (6, vI y4.1), (7, .box [vI x5.Kind, vI x5.Unit, vS x5.Key, vB x5.Has, vS x5.Text]), (8, .d (cP.enc (q6.getD none))), (18, .d (.list 5 (List.map encNote p0))), (19, vI (p0.length : Int)), (20, vI y4.1), (41, vB (b && (q6.isSome == (x5.Kind == 1))))]) (by kernel_rfl) (by kernel_rfl) (by kernel_rfl) <| OWk.done (by kernel_rfl) <| thenS_n ?_
        refine SW.condB (b := ((x5.Kind != 6) && (q6.isSome == (x5.Kind == 1)))) (by kernel_rfl) (fun hc => ?_) (fun hc => ?_)
        · replace h := bif_t hc h
          refine SW.seq <| SW.regionK <| OWk.sg 129 y4.2 [] [2, 3] 3 [(2, vI y4.1), (3, vI 9)] (by kernel_rfl) <| OWk.done (by kernel_rfl) <| thenS_n <| SW.ret <| thenS_r <| blockS_r <| thenS_r ?_
          cases h
          refine thenS_r ?_
          exact ⟨_, rfl, .inr (⟨(y4.1, 9), rfl, rfl, EndL.ret [] (by kernel_rfl)⟩)⟩
        · replace h := bif_f hc h
          refine SW.skip <| thenS_n <| SW.seq <| SW.regionK <| OWk.sg 129 y4.2 [] [4, 5, 6, 7, 8, 18, 19, 20, 44] 2 [(4, .d (.map q2.2)), (5, .d (.map q3.2)), (6, vI y4.1), (7, .box [vI x5.Kind, vI x5.Unit, vS x5.Key, vB x5.Has, vS x5.Text]), (8, .d (cP.enc (q6.getD none))), (18, .d (.list 5 (List.map encNote p0))), (19, vI (p0.length : Int)), (20, vI y4.1), (44, vI x5.Kind)] (by kernel_rfl) <| OWk.done (by kernel_rfl) <| thenS_n <| SW.block <| SW.seq <| SW.regionK <| OWk.sg 129 y4.2 [] [4, 5, 6, 7, 8, 18, 19, 20, 44, 45] 2 [(4, .d (.map q2.2)), (5, .d (.map q3.2)), (6, vI y4.1), (7, .box [vI x5.Kind, vI x5.Unit, vS x5.Key, vB x5.Has, vS x5.Text]), (8, .d (cP.enc (q6.getD none))), (18, .d (.list 5 (List.map encNote p0))), (19, vI (p0.length : Int)), (20, vI y4.1), (44, vI x5.Kind), (45, vB (x5.Kind == 1))] (by kernel_rfl) <| OWk.done (by kernel_rfl) <| thenS_n ?_
          refine SW.condB (b := (x5.Kind == 1)) (by kernel_rfl) (fun hc => ?_) (fun hc => ?_)
          · replace h := bif_t hc h
            refine SW.regionK <| OWk.sg 129 y4.2 [] [4, 5, 18, 19, 20, 47, 49, 50] 4 [(4, .d (.map q2.2)), (5, .d (.map q3.2)), (18, .d (.list 5 (List.map encNote p0))), (19, vI (p0.length : Int)), (20, vI y4.1), (47, .d (.map q2.2)), (49, vI x5.Unit), (50, vI y4.1)] (by kernel_rfl) ?_
            obtain ⟨q7, hq, h⟩ := bind_inv h
            refine OWk.hnew 129 q7.1 (d := some 51) (b := true) [] [4, 5, 18, 19, 20, 47, 49, 50, 51] [(4, .d (.map q2.2)), (5, .d (.map q3.2)), (18, .d (.list 5 (List.map encNote p0))), (19, vI (p0.length : Int)), (20, vI y4.1), (47, .d (.map q2.2)), (49, vI x5.Unit), (50, vI y4.1), (51, .d (.map q7.2))] hq (by kernel_rfl) rfl (by kernel_rfl) <| OWk.sg 129 q7.1 [] [4, 5, 18, 19, 20, 47, 49, 52] 1 [(4, .d (.map q2.2)), (5, .d (.map q3.2)), (18, .d (.list 5 (List.map encNote p0))), (19, vI (p0.length : Int)), (20, vI y4.1), (47, .d (.map q2.2)), (49, vI x5.Unit), (52, .d (.agg [.int .i64 y4.1, .map q7.2]))] (by kernel_rfl) ?_
            obtain ⟨q8, hq, h⟩ := bind_inv h
            refine OWk.hnew 129 q8.1 (d := some 53) (b := false) [] [4, 5, 18, 19, 20, 47, 49, 53] [(4, .d (.map q2.2)), (5, .d (.map q3.2)), (18, .d (.list 5 (List.map encNote p0))), (19, vI (p0.length : Int)), (20, vI y4.1), (47, .d (.map q2.2)), (49, vI x5.Unit), (53, .d (.ptr q8.2 0))] hq (by kernel_rfl) rfl (by kernel_rfl) ?_
            obtain ⟨H9, hx, h⟩ := bind_inv h
            refine OWk.mput 129 H9 (kc := (kI .i64)) (v := cP) (mm := (some q2.2)) (key := x5.Unit) (y := (some q8.2)) [4, 5, 18, 19, 20] [(4, .d (.map q2.2)), (5, .d (.map q3.2)), (18, .d (.list 5 (List.map encNote p0))), (19, vI (p0.length : Int)), (20, vI y4.1)] hx (by kernel_rfl) (by kernel_rfl) <| OWk.done (by kernel_rfl) <| blockS_n <| blockS_n <| thenS_n <| SW.regionK <| OWk.sg 129 H9 [] [4, 5, 18, 19, 20] 2 [(4, .d (.map q2.2)), (5, .d (.map q3.2)), (18, .d (.list 5 (List.map encNote p0))), (19, vI (p0.length : Int)), (20, vI (IntKind.wrap .i64 (y4.1 + 1)))] (by kernel_rfl) <| OWk.done (by kernel_rfl) ?_
            cases h
            exact ⟨((IntKind.wrap .i64 (y4.1 + 1)), H9), rfl, by kernel_rfl⟩
          · replace h := bif_f hc h
            obtain ⟨jp11, hjjp11, h⟩ := letJ_inv h
            refine SW.jn 129 y4.2 [4, 5, 6, 7, 8, 18, 19, 20, 44, 54] (fun (j10 : Bool) => [(4, .d (.map q2.2)), (5, .d (.map q3.2)), (6, vI y4.1), (7, .box [vI x5.Kind, vI x5.Unit, vS x5.Key, vB x5.Has, vS x5.Text]), (8, .d (cP.enc (q6.getD none))), (18, .d (.list 5 (List.map encNote p0))), (19, vI (p0.length : Int)), (20, vI y4.1), (44, vI x5.Kind), (54, vB j10)]) (fun v => jp11 v = some o) (fun j10 h => ?_) ?_
            · rw [hjjp11] at h
              refine SW.condB (b := j10) (by kernel_rfl) (fun hc => ?_) (fun hc => ?_)
              · replace h := bif_t hc h
                obtain ⟨jp13, hjjp13, h⟩ := letJ_inv h
                refine SW.jn 129 y4.2 [4, 5, 6, 7, 8, 18, 19, 20] (fun (j12 : Unit) => [(4, .d (.map q2.2)), (5, .d (.map q3.2)), (6, vI y4.1), (7, .box [vI x5.Kind, vI x5.Unit, vS x5.Key, vB x5.Has, vS x5.Text]), (8, .d (cP.enc (q6.getD none))), (18, .d (.list 5 (List.map encNote p0))), (19, vI (p0.length : Int)), (20, vI y4.1)]) (fun v => jp13 v = some o) (fun j12 h => ?_) ?_
                · rw [hjjp13] at h
                  refine SW.seq <| SW.seq <| SW.regionK <| OWk.sg 129 y4.2 [] [4, 5, 6, 7, 8, 18, 19, 20, 72, 74] 3 [(4, .d (.map q2.2)), (5, .d (.map q3.2)), (6, vI y4.1), (7, .box [vI x5.Kind, vI x5.Unit, vS x5.Key, vB x5.Has, vS x5.Text]), (8, .d (cP.enc (q6.getD none))), (18, .d (.list 5 (List.map encNote p0))), (19, vI (p0.length : Int)), (20, vI y4.1), (72, .d (.map q3.2)), (74, vS x5.Key)] (by kernel_rfl) ?_
                  obtain ⟨q17, hq, h⟩ := bind_inv h
                  refine OWk.on 129 y4.2 (d := some 75) [4, 5, 6, 7, 8, 18, 19, 20, 75] [(4, .d (.map q2.2)), (5, .d (.map q3.2)), (6, vI y4.1), (7, .box [vI x5.Kind, vI x5.Unit, vS x5.Key, vB x5.Has, vS x5.Text]), (8, .d (cP.enc (q6.getD none))), (18, .d (.list 5 (List.map encNote p0))), (19, vI (p0.length : Int)), (20, vI y4.1), (75, .tup [vI (q17.getD 0), vB q17.isSome])] (BAt.look (kc := kS) (v := (cI .i64)) (ok := true) (mm := (some q3.2)) (key := x5.Key) (z := 0) hq (by kernel_rfl)) (by kernel_rfl) <| OWk.sg 129 y4.2 [] [4, 5, 6, 7, 8, 10, 11, 18, 19, 20] 5 [(4, .d (.map q2.2)), (5, .d (.map q3.2)), (6, vI y4.1), (7, .box [vI x5.Kind, vI x5.Unit, vS x5.Key, vB x5.Has, vS x5.Text]), (8, .d (cP.enc (q6.getD none))), (10, vI (q17.getD 0)), (11, vB q17.isSome), (18, .d (.list 5 (List.map encNote p0))), (19, vI (p0.length : Int)), (20, vI y4.1)] (by kernel_rfl) <| OWk.done (by kernel_rfl) <| thenS_n <| SW.seq <| SW.regionK <| OWk.sg 129 y4.2 [] [4, 5, 6, 7, 8, 10, 18, 19, 20, 79] 2 [(4, .d (.map q2.2)), (5, .d (.map q3.2)), (6, vI y4.1), (7, .box [vI x5.Kind, vI x5.Unit, vS x5.Key, vB x5.Has, vS x5.Text]), (8, .d (cP.enc (q6.getD none))), (10, vI (q17.getD 0)), (18, .d (.list 5 (List.map encNote p0))), (19, vI (p0.length : Int)), (20, vI y4.1), (79, vB q17.isSome)] (by kernel_rfl) <| OWk.mg 129 y4.2 [4, 5, 6, 7, 8, 18, 19, 20, 84] 5 q17.isSome (fun b => (sp 129 [(4, .d (.map q2.2)), (5, .d (.map q3.2)), (6, vI y4.1), (7, .box [vI x5.Kind, vI x5.Unit, vS x5.Key, vB x5.Has, vS x5.Text]), (8, .d (cP.enc (q6.getD none))), (10, vI (q17.getD 0)), (18, .d (.list 5 (List.map encNote p0))), (19, vI (p0.length : Int)), (20, vI y4.1), (79, vB b)] y4.2)) (fun b => [(4, .d (.map q2.2)), (5, .d (.map q3.2)), (6, vI y4.1), (7, .box [vI x5.Kind, vI x5.Unit, vS x5.Key, vB x5.Has, vS x5.Text]), (8, .d (cP.enc (q6.getD none))), (18, .d (.list 5 (List.map encNote p0))), (19, vI (p0.length : Int)), (20, vI y4.1), (84, vB (b && ((q17.getD 0) != x5.Unit)))]) (by kernel_rfl) (by kernel_rfl) (by kernel_rfl) <| OWk.done (by kernel_rfl) <| thenS_n ?_
                  refine SW.condB (b := (q17.isSome && ((q17.getD 0) != x5.Unit))) (by kernel_rfl) (fun hc => ?_) (fun hc => ?_)
                  · replace h := bif_t hc h
                    refine SW.seq <| SW.regionK <| OWk.sg 129 y4.2 [] [2, 3] 3 [(2, vI y4.1), (3, vI 6)] (by kernel_rfl) <| OWk.done (by kernel_rfl) <| thenS_n <| SW.ret <| thenS_r <| blockS_r <| blockS_r <| thenS_r ?_
                    cases h
                    refine thenS_r ?_
                    exact ⟨_, rfl, .inr (⟨(y4.1, 6), rfl, rfl, EndL.ret [] (by kernel_rfl)⟩)⟩
                  · replace h := bif_f hc h
                    refine SW.skip <| thenS_n <| SW.regionS 129 7 [6, 7, 8, 9, 10] [0, 1, 2, 3, 4, 5] 11 [12, 13, 14] 11 (by kernel_rfl) (by kernel_rfl) (by kernel_rfl) (by kernel_rfl) <| OBk.sg 129 y4.2 [] [4, 5, 7, 18, 19, 20, 86, 92, 94, 96] 6 [(4, .d (.map q2.2)), (5, .d (.map q3.2)), (7, .box [vI x5.Kind, vI x5.Unit, vS x5.Key, vB x5.Has, vS x5.Text]), (18, .d (.list 5 (List.map encNote p0))), (19, vI (p0.length : Int)), (20, vI y4.1), (86, .d (cP.enc (q6.getD none))), (92, .d (.map q3.2)), (94, vS x5.Key), (96, vI x5.Unit)] (by kernel_rfl) (by kernel_rfl) ?_
                    obtain ⟨i18, hp, h⟩ := bind_inv h
                    refine OBk.on 129 y4.2 (d := some 87) (s := .d (.ptr i18 0)) [4, 5, 7, 18, 19, 20, 87, 92, 94, 96] [(4, .d (.map q2.2)), (5, .d (.map q3.2)), (7, .box [vI x5.Kind, vI x5.Unit, vS x5.Key, vB x5.Has, vS x5.Text]), (18, .d (.list 5 (List.map encNote p0))), (19, vI (p0.length : Int)), (20, vI y4.1), (87, .d (.ptr i18 0)), (92, .d (.map q3.2)), (94, vS x5.Key), (96, vI x5.Unit)] (by kernel_rfl) (BAt.nilc (p := (q6.getD none)) hp (by kernel_rfl)) (by kernel_rfl) <| OBk.sg 129 y4.2 [] [4, 5, 7, 18, 19, 20, 88, 92, 94, 96] 1 [(4, .d (.map q2.2)), (5, .d (.map q3.2)), (7, .box [vI x5.Kind, vI x5.Unit, vS x5.Key, vB x5.Has, vS x5.Text]), (18, .d (.list 5 (List.map encNote p0))), (19, vI (p0.length : Int)), (20, vI y4.1), (88, .d (.ptr i18 1)), (92, .d (.map q3.2)), (94, vS x5.Key), (96, vI x5.Unit)] (by kernel_rfl) (by kernel_rfl) ?_
                    obtain ⟨x19, hx, h⟩ := bind_inv h
                    refine OBk.on 129 y4.2 (d := some 89) (s := .d (cM.enc x19)) [4, 5, 7, 18, 19, 20, 89, 92, 94, 96] [(4, .d (.map q2.2)), (5, .d (.map q3.2)), (7, .box [vI x5.Kind, vI x5.Unit, vS x5.Key, vB x5.Has, vS x5.Text]), (18, .d (.list 5 (List.map encNote p0))), (19, vI (p0.length : Int)), (20, vI y4.1), (89, .d (cM.enc x19)), (92, .d (.map q3.2)), (94, vS x5.Key), (96, vI x5.Unit)] (by kernel_rfl) (BAt.ldH (c := cM.cell) hx (by kernel_rfl)) (by kernel_rfl) <| OBk.sg 129 y4.2 [] [4, 5, 18, 19, 20, 89, 91, 92, 94, 96] 2 [(4, .d (.map q2.2)), (5, .d (.map q3.2)), (18, .d (.list 5 (List.map encNote p0))), (19, vI (p0.length : Int)), (20, vI y4.1), (89, .d (cM.enc x19)), (91, vS x5.Key), (92, .d (.map q3.2)), (94, vS x5.Key), (96, vI x5.Unit)] (by kernel_rfl) (by kernel_rfl) <| OBk.done (by kernel_rfl) ?_
                    obtain ⟨H20, hx, h⟩ := bind_inv h
                    refine OWk.ment 129 H20 (kc := kS) (v := cB) (mm := x19) (key := x5.Key) (y := true) (z := false) (d1 := 97) (d2 := 98) [4, 5, 18, 19, 20, 92, 94, 96] [(4, .d (.map q2.2)), (5, .d (.map q3.2)), (18, .d (.list 5 (List.map encNote p0))), (19, vI (p0.length : Int)), (20, vI y4.1), (92, .d (.map q3.2)), (94, vS x5.Key), (96, vI x5.Unit)] hx (by kernel_rfl) (by kernel_rfl) ?_
                    obtain ⟨H21, hx, h⟩ := bind_inv h
                    refine OWk.mput 129 H21 (kc := kS) (v := (cI .i64)) (mm := (some q3.2)) (key := x5.Key) (y := x5.Unit) [4, 5, 18, 19, 20] [(4, .d (.map q2.2)), (5, .d (.map q3.2)), (18, .d (.list 5 (List.map encNote p0))), (19, vI (p0.length : Int)), (20, vI y4.1)] hx (by kernel_rfl) (by kernel_rfl) <| OWk.done (by kernel_rfl) <| blockS_n <| blockS_n <| thenS_n <| SW.regionK <| OWk.sg 129 H21 [] [4, 5, 18, 19, 20] 2 [(4, .d (.map q2.2)), (5, .d (.map q3.2)), (18, .d (.list 5 (List.map encNote p0))), (19, vI (p0.length : Int)), (20, vI (IntKind.wrap .i64 (y4.1 + 1)))] (by kernel_rfl) <| OWk.done (by kernel_rfl) ?_
                    cases h
                    exact ⟨((IntKind.wrap .i64 (y4.1 + 1)), H21), rfl, by kernel_rfl⟩
                · refine SW.seq <| SW.regionDk (by kernel_rfl) (by kernel_rfl) <| OBk.sg 129 y4.2 [] [4, 5, 6, 7, 8, 18, 19, 20, 60] 4 [(4, .d (.map q2.2)), (5, .d (.map q3.2)), (6, vI y4.1), (7, .box [vI x5.Kind, vI x5.Unit, vS x5.Key, vB x5.Has, vS x5.Text]), (8, .d (cP.enc (q6.getD none))), (18, .d (.list 5 (List.map encNote p0))), (19, vI (p0.length : Int)), (20, vI y4.1), (60, vB (x5.Kind == 3))] (by kernel_rfl) (by kernel_rfl) ?_
                  refine OBk.case (x5.Kind == 3) (fun b => (sp 129 [(4, .d (.map q2.2)), (5, .d (.map q3.2)), (6, vI y4.1), (7, .box [vI x5.Kind, vI x5.Unit, vS x5.Key, vB x5.Has, vS x5.Text]), (8, .d (cP.enc (q6.getD none))), (18, .d (.list 5 (List.map encNote p0))), (19, vI (p0.length : Int)), (20, vI y4.1), (60, vB b)] y4.2)) (by kernel_rfl) (fun hc => ?_) (fun hc => ?_)
                  · replace h := bif_t hc h
                    refine OBk.sg 129 y4.2 [] [4, 5, 6, 7, 8, 18, 19, 20, 60, 61] 1 [(4, .d (.map q2.2)), (5, .d (.map q3.2)), (6, vI y4.1), (7, .box [vI x5.Kind, vI x5.Unit, vS x5.Key, vB x5.Has, vS x5.Text]), (8, .d (cP.enc (q6.getD none))), (18, .d (.list 5 (List.map encNote p0))), (19, vI (p0.length : Int)), (20, vI y4.1), (60, vB true), (61, .d (cP.enc (q6.getD none)))] (by kernel_rfl) (by kernel_rfl) ?_
                    obtain ⟨i14, hp, h⟩ := bind_inv h
                    refine OBk.on 129 y4.2 (d := some 62) (s := .d (.ptr i14 0)) [4, 5, 6, 7, 8, 18, 19, 20, 60, 62] [(4, .d (.map q2.2)), (5, .d (.map q3.2)), (6, vI y4.1), (7, .box [vI x5.Kind, vI x5.Unit, vS x5.Key, vB x5.Has, vS x5.Text]), (8, .d (cP.enc (q6.getD none))), (18, .d (.list 5 (List.map encNote p0))), (19, vI (p0.length : Int)), (20, vI y4.1), (60, vB true), (62, .d (.ptr i14 0))] (by kernel_rfl) (BAt.nilc (p := (q6.getD none)) hp (by kernel_rfl)) (by kernel_rfl) <| OBk.sg 129 y4.2 [] [4, 5, 6, 7, 8, 18, 19, 20, 60, 63] 1 [(4, .d (.map q2.2)), (5, .d (.map q3.2)), (6, vI y4.1), (7, .box [vI x5.Kind, vI x5.Unit, vS x5.Key, vB x5.Has, vS x5.Text]), (8, .d (cP.enc (q6.getD none))), (18, .d (.list 5 (List.map encNote p0))), (19, vI (p0.length : Int)), (20, vI y4.1), (60, vB true), (63, .d (.ptr i14 1))] (by kernel_rfl) (by kernel_rfl) ?_
                    obtain ⟨x15, hx, h⟩ := bind_inv h
                    refine OBk.on 129 y4.2 (d := some 64) (s := .d (cM.enc x15)) [4, 5, 6, 7, 8, 18, 19, 20, 60, 64] [(4, .d (.map q2.2)), (5, .d (.map q3.2)), (6, vI y4.1), (7, .box [vI x5.Kind, vI x5.Unit, vS x5.Key, vB x5.Has, vS x5.Text]), (8, .d (cP.enc (q6.getD none))), (18, .d (.list 5 (List.map encNote p0))), (19, vI (p0.length : Int)), (20, vI y4.1), (60, vB true), (64, .d (cM.enc x15))] (by kernel_rfl) (BAt.ldH (c := cM.cell) hx (by kernel_rfl)) (by kernel_rfl) <| OBk.sg 129 y4.2 [] [4, 5, 6, 7, 8, 18, 19, 20, 60, 64, 66] 2 [(4, .d (.map q2.2)), (5, .d (.map q3.2)), (6, vI y4.1), (7, .box [vI x5.Kind, vI x5.Unit, vS x5.Key, vB x5.Has, vS x5.Text]), (8, .d (cP.enc (q6.getD none))), (18, .d (.list 5 (List.map encNote p0))), (19, vI (p0.length : Int)), (20, vI y4.1), (60, vB true), (64, .d (cM.enc x15)), (66, vS x5.Key)] (by kernel_rfl) (by kernel_rfl) ?_
                    obtain ⟨q16, hq, h⟩ := bind_inv h
                    refine OBk.on 129 y4.2 (d := some 67) [4, 5, 6, 7, 8, 18, 19, 20, 60, 67] [(4, .d (.map q2.2)), (5, .d (.map q3.2)), (6, vI y4.1), (7, .box [vI x5.Kind, vI x5.Unit, vS x5.Key, vB x5.Has, vS x5.Text]), (8, .d (cP.enc (q6.getD none))), (18, .d (.list 5 (List.map encNote p0))), (19, vI (p0.length : Int)), (20, vI y4.1), (60, vB true), (67, vB (q16.getD false))] (by kernel_rfl) (BAt.look (kc := kS) (v := cB) (ok := false) (mm := x15) (key := x5.Key) (z := false) hq (by kernel_rfl)) (by kernel_rfl) <| OBk.sg 129 y4.2 [] [4, 5, 6, 7, 8, 18, 19, 20, 69] 2 [(4, .d (.map q2.2)), (5, .d (.map q3.2)), (6, vI y4.1), (7, .box [vI x5.Kind, vI x5.Unit, vS x5.Key, vB x5.Has, vS x5.Text]), (8, .d (cP.enc (q6.getD none))), (18, .d (.list 5 (List.map encNote p0))), (19, vI (p0.length : Int)), (20, vI y4.1), (69, vB (!(q16.getD false)))] (by kernel_rfl) (by kernel_rfl) <| OBk.done (by kernel_rfl) <| thenS_n ?_
                    refine SW.condB (b := (!(q16.getD false))) (by kernel_rfl) (fun hc => ?_) (fun hc => ?_)
                    · replace h := bif_t hc h
                      refine SW.seq <| SW.regionK <| OWk.sg 129 y4.2 [] [2, 3] 3 [(2, vI y4.1), (3, vI 8)] (by kernel_rfl) <| OWk.done (by kernel_rfl) <| thenS_n <| SW.ret <| thenS_r <| blockS_r <| blockS_r <| thenS_r ?_
                      cases h
                      refine thenS_r ?_
                      exact ⟨_, rfl, .inr (⟨(y4.1, 8), rfl, rfl, EndL.ret [] (by kernel_rfl)⟩)⟩
                    · replace h := bif_f hc h
                      refine SW.skip ?_
                      exact ⟨(), [], by kernel_rfl, h⟩
                  · replace h := bif_f hc h
                    refine OBk.sg 129 y4.2 [] [4, 5, 6, 7, 8, 18, 19, 20, 69] 9 [(4, .d (.map q2.2)), (5, .d (.map q3.2)), (6, vI y4.1), (7, .box [vI x5.Kind, vI x5.Unit, vS x5.Key, vB x5.Has, vS x5.Text]), (8, .d (cP.enc (q6.getD none))), (18, .d (.list 5 (List.map encNote p0))), (19, vI (p0.length : Int)), (20, vI y4.1), (69, vB false)] (by kernel_rfl) (by kernel_rfl) <| OBk.done (by kernel_rfl) <| thenS_n <| SW.condF (by kernel_rfl) <| SW.skip ?_
                    exact ⟨(), [], by kernel_rfl, h⟩
              · replace h := bif_f hc h
                obtain ⟨jp23, hjjp23, h⟩ := letJ_inv h
                refine SW.jn 129 y4.2 [4, 5, 6, 7, 8, 18, 19, 20, 99] (fun (j22 : Bool) => [(4, .d (.map q2.2)), (5, .d (.map q3.2)), (6, vI y4.1), (7, .box [vI x5.Kind, vI x5.Unit, vS x5.Key, vB x5.Has, vS x5.Text]), (8, .d (cP.enc (q6.getD none))), (18, .d (.list 5 (List.map encNote p0))), (19, vI (p0.length : Int)), (20, vI y4.1), (99, vB j22)]) (fun v => jp23 v = some o) (fun j22 h => ?_) ?_
                · rw [hjjp23] at h
                  refine SW.condB (b := j22) (by kernel_rfl) (fun hc => ?_) (fun hc => ?_)
                  · replace h := bif_t hc h
                    refine SW.seq <| SW.seq <| SW.regionK <| OWk.sg 129 y4.2 [] [4, 5, 6, 7, 8, 18, 19, 20, 103] 1 [(4, .d (.map q2.2)), (5, .d (.map q3.2)), (6, vI y4.1), (7, .box [vI x5.Kind, vI x5.Unit, vS x5.Key, vB x5.Has, vS x5.Text]), (8, .d (cP.enc (q6.getD none))), (18, .d (.list 5 (List.map encNote p0))), (19, vI (p0.length : Int)), (20, vI y4.1), (103, .d (cP.enc (q6.getD none)))] (by kernel_rfl) ?_
                    obtain ⟨i24, hp, h⟩ := bind_inv h
                    refine OWk.on 129 y4.2 (d := some 104) (s := .d (.ptr i24 0)) [4, 5, 6, 7, 8, 18, 19, 20, 104] [(4, .d (.map q2.2)), (5, .d (.map q3.2)), (6, vI y4.1), (7, .box [vI x5.Kind, vI x5.Unit, vS x5.Key, vB x5.Has, vS x5.Text]), (8, .d (cP.enc (q6.getD none))), (18, .d (.list 5 (List.map encNote p0))), (19, vI (p0.length : Int)), (20, vI y4.1), (104, .d (.ptr i24 0))] (BAt.nilc (p := (q6.getD none)) hp (by kernel_rfl)) (by kernel_rfl) <| OWk.sg 129 y4.2 [] [4, 5, 6, 7, 8, 18, 19, 20, 105] 1 [(4, .d (.map q2.2)), (5, .d (.map q3.2)), (6, vI y4.1), (7, .box [vI x5.Kind, vI x5.Unit, vS x5.Key, vB x5.Has, vS x5.Text]), (8, .d (cP.enc (q6.getD none))), (18, .d (.list 5 (List.map encNote p0))), (19, vI (p0.length : Int)), (20, vI y4.1), (105, .d (.ptr i24 1))] (by kernel_rfl) ?_
                    obtain ⟨x25, hx, h⟩ := bind_inv h
                    refine OWk.on 129 y4.2 (d := some 106) (s := .d (cM.enc x25)) [4, 5, 6, 7, 8, 18, 19, 20, 106] [(4, .d (.map q2.2)), (5, .d (.map q3.2)), (6, vI y4.1), (7, .box [vI x5.Kind, vI x5.Unit, vS x5.Key, vB x5.Has, vS x5.Text]), (8, .d (cP.enc (q6.getD none))), (18, .d (.list 5 (List.map encNote p0))), (19, vI (p0.length : Int)), (20, vI y4.1), (106, .d (cM.enc x25))] (BAt.ldH (c := cM.cell) hx (by kernel_rfl)) (by kernel_rfl) ?_
                    obtain ⟨q26, hrq, h⟩ := bind_inv h
                    refine OWk.mrange 129 (mm := x25) (d := some 107) hrq (by kernel_rfl) [4, 5, 6, 7, 8, 18, 19, 20, 107] [(4, .d (.map q2.2)), (5, .d (.map q3.2)), (6, vI y4.1), (7, .box [vI x5.Kind, vI x5.Unit, vS x5.Key, vB x5.Has, vS x5.Text]), (8, .d (cP.enc (q6.getD none))), (18, .d (.list 5 (List.map encNote p0))), (19, vI (p0.length : Int)), (20, vI y4.1), (107, .d (.ptr q26.it 0))] (fun H1 => by kernel_rfl) (fun kbq26 clq26 msq26 => ?_)
                    refine OWk.done (by kernel_rfl) <| thenS_n <| SW.block ?_
                    have hit := fun p (hp : p.Perm q26.es) => bind_inv (allP_inv h p hp)
                    refine SW.rng 129 (B := 3) (B2 := 4) (q := q26) (kc := kS) (v := cB) (kb := kbq26) (clock := clq26) (ms := msq26) [4, 5, 6, 7, 8, 18, 19, 20, 107] (fun (y27 : Hp) => [(4, .d (.map q2.2)), (5, .d (.map q3.2)), (6, vI y4.1), (7, .box [vI x5.Kind, vI x5.Unit, vS x5.Key, vB x5.Has, vS x5.Text]), (8, .d (cP.enc (q6.getD none))), (18, .d (.list 5 (List.map encNote p0))), (19, vI (p0.length : Int)), (20, vI y4.1), (107, .d (.ptr q26.it 0))]) (fun (y27 : Hp) => y27) (j_Wrong_l1 fuel q3 q26) q26.H _ (fun b e s => False) hrq hit (by kernel_rfl) rfl rfl rfl rfl rfl rfl rfl rfl rfl rfl rfl (fun _ => by kernel_rfl) (fun _ => by kernel_rfl) (fun y27 e28 o hho h => ?_) (fun y30 hC => ?_) ?_
                    · unfold j_Wrong_l1 at h
                      refine OWk.sg 129 y27 [] [4, 5, 6, 7, 8, 12, 18, 19, 20, 107] 2 [(4, .d (.map q2.2)), (5, .d (.map q3.2)), (6, vI y4.1), (7, .box [vI x5.Kind, vI x5.Unit, vS x5.Key, vB x5.Has, vS x5.Text]), (8, .d (cP.enc (q6.getD none))), (12, vS e28.1), (18, .d (.list 5 (List.map encNote p0))), (19, vI (p0.length : Int)), (20, vI y4.1), (107, .d (.ptr q26.it 0))] (by kernel_rfl) <| OWk.done (by kernel_rfl) <| thenS_n <| SW.regionK <| OWk.sg 129 y27 [] [4, 5, 6, 7, 8, 18, 19, 20, 107, 112, 113] 2 [(4, .d (.map q2.2)), (5, .d (.map q3.2)), (6, vI y4.1), (7, .box [vI x5.Kind, vI x5.Unit, vS x5.Key, vB x5.Has, vS x5.Text]), (8, .d (cP.enc (q6.getD none))), (18, .d (.list 5 (List.map encNote p0))), (19, vI (p0.length : Int)), (20, vI y4.1), (107, .d (.ptr q26.it 0)), (112, .d (.map q3.2)), (113, vS e28.1)] (by kernel_rfl) ?_
                      obtain ⟨H29, hx, h⟩ := bind_inv h
                      refine OWk.mdel 129 H29 (kc := kS) (v := (cI .i64)) (mm := (some q3.2)) (key := e28.1) (d := none) [4, 5, 6, 7, 8, 18, 19, 20, 107] [(4, .d (.map q2.2)), (5, .d (.map q3.2)), (6, vI y4.1), (7, .box [vI x5.Kind, vI x5.Unit, vS x5.Key, vB x5.Has, vS x5.Text]), (8, .d (cP.enc (q6.getD none))), (18, .d (.list 5 (List.map encNote p0))), (19, vI (p0.length : Int)), (20, vI y4.1), (107, .d (.ptr q26.it 0))] hx (by kernel_rfl) (by kernel_rfl) <| OWk.done (by kernel_rfl) <| blockS_n ?_
                      obtain ⟨hho, h⟩ := chk_inv h
                      cases h
                      exact ⟨H29, rfl, hho, by kernel_rfl⟩
                    · replace hC := sum_l hC
                      obtain ⟨H31, hb, h⟩ := bind_inv hC
                      refine ⟨H31, hb, ?_⟩
                      refine blockS_hit <| thenS_n <| SW.seq <| SW.regionK <| OWk.sg 129 H31 [] [4, 5, 7, 18, 19, 20, 114, 115, 116] 3 [(4, .d (.map q2.2)), (5, .d (.map q3.2)), (7, .box [vI x5.Kind, vI x5.Unit, vS x5.Key, vB x5.Has, vS x5.Text]), (18, .d (.list 5 (List.map encNote p0))), (19, vI (p0.length : Int)), (20, vI y4.1), (114, .d (cP.enc (q6.getD none))), (115, .d (cP.enc (q6.getD none))), (116, vI y4.1)] (by kernel_rfl) ?_
                      obtain ⟨q32, hq, h⟩ := bind_inv h
                      refine OWk.hnew 129 q32.1 (d := some 117) (b := true) [] [4, 5, 7, 18, 19, 20, 114, 115, 116, 117] [(4, .d (.map q2.2)), (5, .d (.map q3.2)), (7, .box [vI x5.Kind, vI x5.Unit, vS x5.Key, vB x5.Has, vS x5.Text]), (18, .d (.list 5 (List.map encNote p0))), (19, vI (p0.length : Int)), (20, vI y4.1), (114, .d (cP.enc (q6.getD none))), (115, .d (cP.enc (q6.getD none))), (116, vI y4.1), (117, .d (.map q32.2))] hq (by kernel_rfl) rfl (by kernel_rfl) ?_
                      obtain ⟨i33, hp, h⟩ := bind_inv h
                      refine OWk.on 129 q32.1 (d := some 118) (s := .d (.ptr i33 0)) [4, 5, 7, 18, 19, 20, 115, 116, 117, 118] [(4, .d (.map q2.2)), (5, .d (.map q3.2)), (7, .box [vI x5.Kind, vI x5.Unit, vS x5.Key, vB x5.Has, vS x5.Text]), (18, .d (.list 5 (List.map encNote p0))), (19, vI (p0.length : Int)), (20, vI y4.1), (115, .d (cP.enc (q6.getD none))), (116, vI y4.1), (117, .d (.map q32.2)), (118, .d (.ptr i33 0))] (BAt.nilc (p := (q6.getD none)) hp (by kernel_rfl)) (by kernel_rfl) <| OWk.sg 129 q32.1 [] [4, 5, 7, 18, 19, 20, 115, 116, 117, 119] 1 [(4, .d (.map q2.2)), (5, .d (.map q3.2)), (7, .box [vI x5.Kind, vI x5.Unit, vS x5.Key, vB x5.Has, vS x5.Text]), (18, .d (.list 5 (List.map encNote p0))), (19, vI (p0.length : Int)), (20, vI y4.1), (115, .d (cP.enc (q6.getD none))), (116, vI y4.1), (117, .d (.map q32.2)), (119, .d (.ptr i33 0))] (by kernel_rfl) ?_
                      obtain ⟨H34, hx, h⟩ := bind_inv h
                      refine OWk.hst 129 H34 [4, 5, 7, 18, 19, 20, 115, 117] [(4, .d (.map q2.2)), (5, .d (.map q3.2)), (7, .box [vI x5.Kind, vI x5.Unit, vS x5.Key, vB x5.Has, vS x5.Text]), (18, .d (.list 5 (List.map encNote p0))), (19, vI (p0.length : Int)), (20, vI y4.1), (115, .d (cP.enc (q6.getD none))), (117, .d (.map q32.2))] hx (by kernel_rfl) (by kernel_rfl) ?_
                      obtain ⟨i35, hp, h⟩ := bind_inv h
                      refine OWk.on 129 H34 (d := some 120) (s := .d (.ptr i35 0)) [4, 5, 7, 18, 19, 20, 117, 120] [(4, .d (.map q2.2)), (5, .d (.map q3.2)), (7, .box [vI x5.Kind, vI x5.Unit, vS x5.Key, vB x5.Has, vS x5.Text]), (18, .d (.list 5 (List.map encNote p0))), (19, vI (p0.length : Int)), (20, vI y4.1), (117, .d (.map q32.2)), (120, .d (.ptr i35 0))] (BAt.nilc (p := (q6.getD none)) hp (by kernel_rfl)) (by kernel_rfl) <| OWk.sg 129 H34 [] [4, 5, 7, 18, 19, 20, 117, 121] 1 [(4, .d (.map q2.2)), (5, .d (.map q3.2)), (7, .box [vI x5.Kind, vI x5.Unit, vS x5.Key, vB x5.Has, vS x5.Text]), (18, .d (.list 5 (List.map encNote p0))), (19, vI (p0.length : Int)), (20, vI y4.1), (117, .d (.map q32.2)), (121, .d (.ptr i35 1))] (by kernel_rfl) ?_
                      obtain ⟨H36, hx, h⟩ := bind_inv h
                      refine OWk.hst 129 H36 [4, 5, 7, 18, 19, 20] [(4, .d (.map q2.2)), (5, .d (.map q3.2)), (7, .box [vI x5.Kind, vI x5.Unit, vS x5.Key, vB x5.Has, vS x5.Text]), (18, .d (.list 5 (List.map encNote p0))), (19, vI (p0.length : Int)), (20, vI y4.1)] hx (by kernel_rfl) (by kernel_rfl) <| OWk.done (by kernel_rfl) <| thenS_n <| SW.seq <| SW.regionK <| OWk.sg 129 H36 [] [4, 5, 7, 18, 19, 20, 124] 3 [(4, .d (.map q2.2)), (5, .d (.map q3.2)), (7, .box [vI x5.Kind, vI x5.Unit, vS x5.Key, vB x5.Has, vS x5.Text]), (18, .d (.list 5 (List.map encNote p0))), (19, vI (p0.length : Int)), (20, vI y4.1), (124, vB (x5.Kind != 4))] (by kernel_rfl) <| OWk.done (by kernel_rfl) <| thenS_n ?_
                      refine SW.condB (b := (x5.Kind != 4)) (by kernel_rfl) (fun hc => ?_) (fun hc => ?_)
                      · replace h := bif_t hc h
                        refine SW.regionK <| OWk.sg 129 H36 [] [4, 5, 18, 19, 20, 125, 127] 3 [(4, .d (.map q2.2)), (5, .d (.map q3.2)), (18, .d (.list 5 (List.map encNote p0))), (19, vI (p0.length : Int)), (20, vI y4.1), (125, .d (.map q2.2)), (127, vI x5.Unit)] (by kernel_rfl) ?_
                        obtain ⟨H37, hx, h⟩ := bind_inv h
                        refine OWk.mdel 129 H37 (kc := (kI .i64)) (v := cP) (mm := (some q2.2)) (key := x5.Unit) (d := none) [4, 5, 18, 19, 20] [(4, .d (.map q2.2)), (5, .d (.map q3.2)), (18, .d (.list 5 (List.map encNote p0))), (19, vI (p0.length : Int)), (20, vI y4.1)] hx (by kernel_rfl) (by kernel_rfl) <| OWk.done (by kernel_rfl) <| blockS_n <| blockS_n <| thenS_n <| SW.regionK <| OWk.sg 129 H37 [] [4, 5, 18, 19, 20] 2 [(4, .d (.map q2.2)), (5, .d (.map q3.2)), (18, .d (.list 5 (List.map encNote p0))), (19, vI (p0.length : Int)), (20, vI (IntKind.wrap .i64 (y4.1 + 1)))] (by kernel_rfl) <| OWk.done (by kernel_rfl) ?_
                        cases h
                        exact ⟨((IntKind.wrap .i64 (y4.1 + 1)), H37), rfl, by kernel_rfl⟩
                      · replace h := bif_f hc h
                        refine SW.skip <| blockS_n <| blockS_n <| thenS_n <| SW.regionK <| OWk.sg 129 H36 [] [4, 5, 18, 19, 20] 2 [(4, .d (.map q2.2)), (5, .d (.map q3.2)), (18, .d (.list 5 (List.map encNote p0))), (19, vI (p0.length : Int)), (20, vI (IntKind.wrap .i64 (y4.1 + 1)))] (by kernel_rfl) <| OWk.done (by kernel_rfl) ?_
                        cases h
                        exact ⟨((IntKind.wrap .i64 (y4.1 + 1)), H36), rfl, by kernel_rfl⟩
                    · exact fun b => b.elim
                  · replace h := bif_f hc h
                    refine SW.skip <| blockS_n <| blockS_n <| thenS_n <| SW.regionK <| OWk.sg 129 y4.2 [] [4, 5, 18, 19, 20] 2 [(4, .d (.map q2.2)), (5, .d (.map q3.2)), (18, .d (.list 5 (List.map encNote p0))), (19, vI (p0.length : Int)), (20, vI (IntKind.wrap .i64 (y4.1 + 1)))] (by kernel_rfl) <| OWk.done (by kernel_rfl) ?_
                    cases h
                    exact ⟨((IntKind.wrap .i64 (y4.1 + 1)), y4.2), rfl, by kernel_rfl⟩
                · refine SW.seq <| SW.regionK <| OWk.sg 129 y4.2 [] [4, 5, 6, 7, 8, 18, 19, 20, 44, 99] 2 [(4, .d (.map q2.2)), (5, .d (.map q3.2)), (6, vI y4.1), (7, .box [vI x5.Kind, vI x5.Unit, vS x5.Key, vB x5.Has, vS x5.Text]), (8, .d (cP.enc (q6.getD none))), (18, .d (.list 5 (List.map encNote p0))), (19, vI (p0.length : Int)), (20, vI y4.1), (44, vI x5.Kind), (99, vB (x5.Kind == 4))] (by kernel_rfl) <| OWk.done (by kernel_rfl) <| thenS_n ?_
                  refine SW.case (x5.Kind == 4) (fun b => (sp 129 [(4, .d (.map q2.2)), (5, .d (.map q3.2)), (6, vI y4.1), (7, .box [vI x5.Kind, vI x5.Unit, vS x5.Key, vB x5.Has, vS x5.Text]), (8, .d (cP.enc (q6.getD none))), (18, .d (.list 5 (List.map encNote p0))), (19, vI (p0.length : Int)), (20, vI y4.1), (44, vI x5.Kind), (99, vB b)] y4.2)) (by kernel_rfl) (fun hc => ?_) (fun hc => ?_)
                  · replace h := bif_t hc h
                    refine SW.condT (by kernel_rfl) <| SW.skip ?_
                    exact ⟨true, [], by kernel_rfl, h⟩
                  · replace h := bif_f hc h
                    refine SW.condF (by kernel_rfl) <| SW.seq <| SW.regionK <| OWk.sg 129 y4.2 [] [4, 5, 6, 7, 8, 18, 19, 20, 44, 99] 2 [(4, .d (.map q2.2)), (5, .d (.map q3.2)), (6, vI y4.1), (7, .box [vI x5.Kind, vI x5.Unit, vS x5.Key, vB x5.Has, vS x5.Text]), (8, .d (cP.enc (q6.getD none))), (18, .d (.list 5 (List.map encNote p0))), (19, vI (p0.length : Int)), (20, vI y4.1), (44, vI x5.Kind), (99, vB (x5.Kind == 5))] (by kernel_rfl) <| OWk.done (by kernel_rfl) <| thenS_n ?_
                    refine SW.case (x5.Kind == 5) (fun b => (sp 129 [(4, .d (.map q2.2)), (5, .d (.map q3.2)), (6, vI y4.1), (7, .box [vI x5.Kind, vI x5.Unit, vS x5.Key, vB x5.Has, vS x5.Text]), (8, .d (cP.enc (q6.getD none))), (18, .d (.list 5 (List.map encNote p0))), (19, vI (p0.length : Int)), (20, vI y4.1), (44, vI x5.Kind), (99, vB b)] y4.2)) (by kernel_rfl) (fun hc => ?_) (fun hc => ?_)
                    · replace h := bif_t hc h
                      refine SW.condT (by kernel_rfl) <| SW.skip ?_
                      exact ⟨true, [], by kernel_rfl, h⟩
                    · replace h := bif_f hc h
                      refine SW.condF (by kernel_rfl) <| SW.regionK <| OWk.sg 129 y4.2 [] [4, 5, 6, 7, 8, 18, 19, 20, 99] 2 [(4, .d (.map q2.2)), (5, .d (.map q3.2)), (6, vI y4.1), (7, .box [vI x5.Kind, vI x5.Unit, vS x5.Key, vB x5.Has, vS x5.Text]), (8, .d (cP.enc (q6.getD none))), (18, .d (.list 5 (List.map encNote p0))), (19, vI (p0.length : Int)), (20, vI y4.1), (99, vB (x5.Kind == 7))] (by kernel_rfl) <| OWk.done (by kernel_rfl) ?_
                      exact ⟨(x5.Kind == 7), [], by kernel_rfl, h⟩
            · refine SW.seq <| SW.regionK <| OWk.sg 129 y4.2 [] [4, 5, 6, 7, 8, 18, 19, 20, 44, 54] 2 [(4, .d (.map q2.2)), (5, .d (.map q3.2)), (6, vI y4.1), (7, .box [vI x5.Kind, vI x5.Unit, vS x5.Key, vB x5.Has, vS x5.Text]), (8, .d (cP.enc (q6.getD none))), (18, .d (.list 5 (List.map encNote p0))), (19, vI (p0.length : Int)), (20, vI y4.1), (44, vI x5.Kind), (54, vB (x5.Kind == 3))] (by kernel_rfl) <| OWk.done (by kernel_rfl) <| thenS_n ?_
              refine SW.case (x5.Kind == 3) (fun b => (sp 129 [(4, .d (.map q2.2)), (5, .d (.map q3.2)), (6, vI y4.1), (7, .box [vI x5.Kind, vI x5.Unit, vS x5.Key, vB x5.Has, vS x5.Text]), (8, .d (cP.enc (q6.getD none))), (18, .d (.list 5 (List.map encNote p0))), (19, vI (p0.length : Int)), (20, vI y4.1), (44, vI x5.Kind), (54, vB b)] y4.2)) (by kernel_rfl) (fun hc => ?_) (fun hc => ?_)
              · replace h := bif_t hc h
                refine SW.condT (by kernel_rfl) <| SW.skip ?_
                exact ⟨true, [], by kernel_rfl, h⟩
              · replace h := bif_f hc h
                refine SW.condF (by kernel_rfl) <| SW.regionK <| OWk.sg 129 y4.2 [] [4, 5, 6, 7, 8, 18, 19, 20, 44, 54] 2 [(4, .d (.map q2.2)), (5, .d (.map q3.2)), (6, vI y4.1), (7, .box [vI x5.Kind, vI x5.Unit, vS x5.Key, vB x5.Has, vS x5.Text]), (8, .d (cP.enc (q6.getD none))), (18, .d (.list 5 (List.map encNote p0))), (19, vI (p0.length : Int)), (20, vI y4.1), (44, vI x5.Kind), (54, vB (x5.Kind == 2))] (by kernel_rfl) <| OWk.done (by kernel_rfl) ?_
                exact ⟨(x5.Kind == 2), [], by kernel_rfl, h⟩
      · replace h := bif_f hc h
        refine SW.kp 129 y4.2 [] [] (by kernel_rfl) <| SW.exit <| thenS_e ?_
        cases h
        refine thenS_e ?_
        exact ⟨_, rfl, .inl ⟨y4.2, rfl, rfl, rfl⟩⟩
    · rintro _ _ (⟨v39, rfl, rfl, rfl⟩ | ⟨r40, rfl, rfl, hE⟩)
      · replace h := sum_l h
        refine blockS_hit <| thenS_n <| SW.seq <| SW.regionK <| OWk.sg 129 v39 [] [2, 3] 2 [(2, vI (-1)), (3, vI 0)] (by kernel_rfl) <| OWk.done (by kernel_rfl) <| thenS_n <| SW.ret ?_
        cases h
        exact EndL.ret [] (by kernel_rfl)
      · replace h := sum_r h
        refine blockS_r <| thenS_r ?_
        cases h
        exact hE

end Go.Sh
