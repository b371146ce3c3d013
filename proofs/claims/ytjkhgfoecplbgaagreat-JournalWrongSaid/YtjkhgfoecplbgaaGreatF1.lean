/- Printed by a program: functions of the program as plain functions, and that the code computes them. -/
import Derived.Test.YtjkhgfoecplbgaaGreatS3
import Derived.Test.YtjkhgfoecplbgaaGreatProg
import Derived.Lib.Strings
import Derived.Lib.Slices
import Derived.Lib.Walk
import Derived.Lib.Bytealg
import Derived.Test.YtjkhgfoecplbgaaGreatShelf
set_option linter.all false
set_option autoImplicit true
set_option relaxedAutoImplicit true
open Go Go.Proofs
namespace Go.Sh
set_option linter.unusedVariables false
set_option linter.unusedSimpArgs false
set_option maxRecDepth 100000
structure Note where
  Kind : Int
  Unit : Int
  Key : (List UInt8)
  Has : Bool
  Text : (List UInt8)
  deriving DecidableEq, Inhabited
def encNote (x : Note) : D := .agg [.int .i64 x.Kind, .int .i64 x.Unit, .str x.Key, .bool x.Has, .str x.Text]
def l_Notes_l1 (fuel : Nat) (p0 : (List Note)) (y1 : Int × Int) : Option ((Int × Int) ⊕ (Int)) :=
  bif ((decide (y1.2 < (p0.length : Int))) && (decide (y1.2 < 60))) then
    (idx p0 y1.2).bind fun x2 =>
    (idx p0 y1.2).bind fun x3 =>
    some (.inl ((IntKind.wrap .i64 ((IntKind.wrap .i64 (y1.1 + (x2.Key.length : Int))) + (x3.Text.length : Int))), (IntKind.wrap .i64 (y1.2 + 1))))
  else
    some (.inr y1.1)
def l_Notes (fuel : Nat) (p0 : (List Note)) : Option (Bool) :=
  (iter (l_Notes_l1 fuel p0) fuel (0, 0)).bind fun v5 =>
  some ((decide ((p0.length : Int) ≤ 60)) && (decide (v5 ≤ 6000)))
theorem l_Notes_ok {fuel : Nat} {p0 : (List Note)} {r : Bool} (h : l_Notes fuel p0 = some r) : PC Tryz.prog 4 [.d (.list 5 (List.map encNote p0))] (vB r) := by
  refine PC.of_SW Tryz.func4 rfl fun H => ?_
  unfold l_Notes at h
  refine SW.kp 37 H [0] [(0, .d (.list 5 (List.map encNote p0)))] (by kernel_rfl) <| SW.seq <| SW.regionK <| OWk.sg 37 H [] [0] 1 [(0, .d (.list 5 (List.map encNote p0)))] (by kernel_rfl) <| OWk.done (by kernel_rfl) <| thenS_n <| SW.seq <| SW.regionK <| OWk.sg 37 H [] [0, 3] 1 [(0, .d (.list 5 (List.map encNote p0))), (3, vI 0)] (by kernel_rfl) <| OWk.done (by kernel_rfl) <| thenS_n <| SW.seq <| SW.seq <| SW.regionK <| OWk.sg 37 H [] [0, 3, 4] 1 [(0, .d (.list 5 (List.map encNote p0))), (3, vI 0), (4, vI 0)] (by kernel_rfl) <| OWk.done (by kernel_rfl) <| thenS_n <| SW.block ?_
  obtain ⟨v5, hit, h⟩ := bind_inv h
  refine SW.it 37 H [0, 3, 4] (fun y1 => [(0, .d (.list 5 (List.map encNote p0))), (3, vI y1.1), (4, vI y1.2)]) (fun v5 e s => (e = .exit 0 ∧ s = (sp 37 [(0, .d (.list 5 (List.map encNote p0))), (3, vI v5)] H))) hit (by kernel_rfl) (fun y1 o h => ?_) ?_
  · unfold l_Notes_l1 at h
    refine SW.seq <| SW.seq <| SW.regionK <| OWk.sg 37 H [] [0, 3, 4, 5, 6] 2 [(0, .d (.list 5 (List.map encNote p0))), (3, vI y1.1), (4, vI y1.2), (5, vI y1.2), (6, .d (.list 5 (List.map encNote p0)))] (by kernel_rfl) <| OWk.on 37 H (d := some 7) [0, 3, 4, 5, 7] [(0, .d (.list 5 (List.map encNote p0))), (3, vI y1.1), (4, vI y1.2), (5, vI y1.2), (7, vI (p0.length : Int))] (BAt.len (enc := encNote) (xs := p0) (by kernel_rfl)) (by kernel_rfl) <| OWk.sg 37 H [] [0, 3, 4, 9] 2 [(0, .d (.list 5 (List.map encNote p0))), (3, vI y1.1), (4, vI y1.2), (9, vB (decide (y1.2 < (p0.length : Int))))] (by kernel_rfl) <| OWk.mg 37 H [0, 3, 4, 12] 3 (decide (y1.2 < (p0.length : Int))) (fun b => (sp 37 [(0, .d (.list 5 (List.map encNote p0))), (3, vI y1.1), (4, vI y1.2), (9, vB b)] H)) (fun b => [(0, .d (.list 5 (List.map encNote p0))), (3, vI y1.1), (4, vI y1.2), (12, vB (b && (decide (y1.2 < 60))))]) (by kernel_rfl) (by kernel_rfl) (by kernel_rfl) <| OWk.done (by kernel_rfl) <| thenS_n ?_
    refine SW.condB (b := ((decide (y1.2 < (p0.length : Int))) && (decide (y1.2 < 60)))) (by kernel_rfl) (fun hc => ?_) (fun hc => ?_)
    · replace h := bif_t hc h
      refine SW.skip <| thenS_n <| SW.seq <| SW.block <| SW.regionT 15 (by kernel_rfl) (by kernel_rfl) <| OBk.sg 37 H [] [0, 4, 15, 16, 17] 3 [(0, .d (.list 5 (List.map encNote p0))), (4, vI y1.2), (15, vI y1.1), (16, .d (.list 5 (List.map encNote p0))), (17, vI y1.2)] (by kernel_rfl) (by kernel_rfl) ?_
      obtain ⟨x2, hx, h⟩ := bind_inv h
      refine OBk.on 37 H (d := some 18) (s := lendP none (Go.Sh.D.cells (encNote x2))) [0, 4, 15, 18] [(0, .d (.list 5 (List.map encNote p0))), (4, vI y1.2), (15, vI y1.1), (18, .d (.dptr [.int .i64 x2.Kind, .int .i64 x2.Unit, .str x2.Key, .bool x2.Has, .str x2.Text]))] (by kernel_rfl) (BAt.index (n := 5) hx (by kernel_rfl)) (by kernel_rfl) <| OBk.sg 37 H [] [0, 4, 15, 20] 2 [(0, .d (.list 5 (List.map encNote p0))), (4, vI y1.2), (15, vI y1.1), (20, vS x2.Key)] (by kernel_rfl) (by kernel_rfl) <| OBk.sg 37 H [] [0, 4, 15, 21] 1 [(0, .d (.list 5 (List.map encNote p0))), (4, vI y1.2), (15, vI y1.1), (21, vI (x2.Key.length : Int))] (by kernel_rfl) (by kernel_rfl) <| OBk.sg 37 H [] [0, 4, 22, 23, 24] 3 [(0, .d (.list 5 (List.map encNote p0))), (4, vI y1.2), (22, vI (IntKind.wrap .i64 (y1.1 + (x2.Key.length : Int)))), (23, .d (.list 5 (List.map encNote p0))), (24, vI y1.2)] (by kernel_rfl) (by kernel_rfl) ?_
      obtain ⟨x3, hx, h⟩ := bind_inv h
      refine OBk.on 37 H (d := some 25) (s := lendP none (Go.Sh.D.cells (encNote x3))) [0, 4, 22, 25] [(0, .d (.list 5 (List.map encNote p0))), (4, vI y1.2), (22, vI (IntKind.wrap .i64 (y1.1 + (x2.Key.length : Int)))), (25, .d (.dptr [.int .i64 x3.Kind, .int .i64 x3.Unit, .str x3.Key, .bool x3.Has, .str x3.Text]))] (by kernel_rfl) (BAt.index (n := 5) hx (by kernel_rfl)) (by kernel_rfl) <| OBk.sg 37 H [] [0, 4, 22, 27] 2 [(0, .d (.list 5 (List.map encNote p0))), (4, vI y1.2), (22, vI (IntKind.wrap .i64 (y1.1 + (x2.Key.length : Int)))), (27, vS x3.Text)] (by kernel_rfl) (by kernel_rfl) <| OBk.sg 37 H [] [0, 4, 22, 28] 1 [(0, .d (.list 5 (List.map encNote p0))), (4, vI y1.2), (22, vI (IntKind.wrap .i64 (y1.1 + (x2.Key.length : Int)))), (28, vI (x3.Text.length : Int))] (by kernel_rfl) (by kernel_rfl) <| OBk.sg 37 H [] [0, 4, 29] 1 [(0, .d (.list 5 (List.map encNote p0))), (4, vI y1.2), (29, vI (IntKind.wrap .i64 ((IntKind.wrap .i64 (y1.1 + (x2.Key.length : Int))) + (x3.Text.length : Int))))] (by kernel_rfl) (by kernel_rfl) <| OBk.done (by kernel_rfl) <| OWk.sg 37 H [] [0, 3, 4] 1 [(0, .d (.list 5 (List.map encNote p0))), (3, vI (IntKind.wrap .i64 ((IntKind.wrap .i64 (y1.1 + (x2.Key.length : Int))) + (x3.Text.length : Int)))), (4, vI y1.2)] (by kernel_rfl) <| OWk.done (by kernel_rfl) <| blockS_n <| thenS_n <| SW.regionK <| OWk.sg 37 H [] [0, 3, 4] 3 [(0, .d (.list 5 (List.map encNote p0))), (3, vI (IntKind.wrap .i64 ((IntKind.wrap .i64 (y1.1 + (x2.Key.length : Int))) + (x3.Text.length : Int)))), (4, vI (IntKind.wrap .i64 (y1.2 + 1)))] (by kernel_rfl) <| OWk.done (by kernel_rfl) ?_
      cases h
      exact ⟨((IntKind.wrap .i64 ((IntKind.wrap .i64 (y1.1 + (x2.Key.length : Int))) + (x3.Text.length : Int))), (IntKind.wrap .i64 (y1.2 + 1))), rfl, by kernel_rfl⟩
    · replace h := bif_f hc h
      refine SW.kp 37 H [0, 3] [(0, .d (.list 5 (List.map encNote p0))), (3, vI y1.1)] (by kernel_rfl) <| SW.exit <| thenS_e ?_
      cases h
      refine thenS_e ?_
      exact ⟨_, rfl, ⟨rfl, rfl⟩⟩
  · rintro _ _ ⟨rfl, rfl⟩
    refine blockS_hit <| thenS_n <| SW.seq <| SW.regionK <| OWk.sg 37 H [] [3, 30] 1 [(3, vI v5), (30, .d (.list 5 (List.map encNote p0)))] (by kernel_rfl) <| OWk.on 37 H (d := some 31) [3, 31] [(3, vI v5), (31, vI (p0.length : Int))] (BAt.len (enc := encNote) (xs := p0) (by kernel_rfl)) (by kernel_rfl) <| OWk.sg 37 H [] [3, 33] 2 [(3, vI v5), (33, vB (decide ((p0.length : Int) ≤ 60)))] (by kernel_rfl) <| OWk.mg 37 H [36] 3 (decide ((p0.length : Int) ≤ 60)) (fun b => (sp 37 [(3, vI v5), (33, vB b)] H)) (fun b => [(36, vB (b && (decide (v5 ≤ 6000))))]) (by kernel_rfl) (by kernel_rfl) (by kernel_rfl) <| OWk.sg 37 H [] [2] 1 [(2, vB ((decide ((p0.length : Int) ≤ 60)) && (decide (v5 ≤ 6000))))] (by kernel_rfl) <| OWk.done (by kernel_rfl) <| thenS_n <| SW.ret ?_
    cases h
    exact EndQ.ret [] (by kernel_rfl) rfl
structure Image where
  Key : (List UInt8)
  Has : Bool
  Text : (List UInt8)
  deriving DecidableEq, Inhabited
def encImage (x : Image) : D := .agg [.str x.Key, .bool x.Has, .str x.Text]
def j_image (fuel : Nat) (p0 : Image) : Option (Bool) :=
  bif (!(p0.Key == [])) then
    bif (decide ((p0.Key.length : Int) ≤ 40)) then
      bif (decide ((p0.Text.length : Int) ≤ 4000)) then
        bif p0.Has then
          some true
        else
          some (p0.Text == [])
      else
        some false
    else
      some false
  else
    some false
theorem j_image_ok {fuel : Nat} {p0 : Image} {r : Bool} (h : j_image fuel p0 = some r) : PC Tryz.prog 53 [.d (encImage p0)] (vB r) := by
  refine PC.of_SW Tryz.func53 rfl fun H => ?_
  unfold j_image at h
  refine SW.kp 27 H [0] [(0, .d (.agg [.str p0.Key, .bool p0.Has, .str p0.Text]))] (by kernel_rfl) <| SW.seq <| SW.regionK <| OWk.sg 27 H [] [1] 2 [(1, .box [vS p0.Key, vB p0.Has, vS p0.Text])] (by kernel_rfl) <| OWk.done (by kernel_rfl) <| thenS_n <| SW.seq <| SW.regionK <| OWk.sg 27 H [] [1, 6] 4 [(1, .box [vS p0.Key, vB p0.Has, vS p0.Text]), (6, vB (!(p0.Key == [])))] (by kernel_rfl) ?_
  refine OWk.case (!(p0.Key == [])) (fun b => (sp 27 [(1, .box [vS p0.Key, vB p0.Has, vS p0.Text]), (6, vB b)] H)) (by kernel_rfl) (fun hc => ?_) (fun hc => ?_)
  · replace h := bif_t hc h
    refine OWk.sg 27 H [] [1, 6, 8] 2 [(1, .box [vS p0.Key, vB p0.Has, vS p0.Text]), (6, vB true), (8, vS p0.Key)] (by kernel_rfl) <| OWk.sg 27 H [] [1, 6, 9] 1 [(1, .box [vS p0.Key, vB p0.Has, vS p0.Text]), (6, vB true), (9, vI (p0.Key.length : Int))] (by kernel_rfl) <| OWk.sg 27 H [] [1, 12] 3 [(1, .box [vS p0.Key, vB p0.Has, vS p0.Text]), (12, vB (decide ((p0.Key.length : Int) ≤ 40)))] (by kernel_rfl) ?_
    refine OWk.case (decide ((p0.Key.length : Int) ≤ 40)) (fun b => (sp 27 [(1, .box [vS p0.Key, vB p0.Has, vS p0.Text]), (12, vB b)] H)) (by kernel_rfl) (fun hc => ?_) (fun hc => ?_)
    · replace h := bif_t hc h
      refine OWk.sg 27 H [] [1, 12, 14] 2 [(1, .box [vS p0.Key, vB p0.Has, vS p0.Text]), (12, vB true), (14, vS p0.Text)] (by kernel_rfl) <| OWk.sg 27 H [] [1, 12, 15] 1 [(1, .box [vS p0.Key, vB p0.Has, vS p0.Text]), (12, vB true), (15, vI (p0.Text.length : Int))] (by kernel_rfl) <| OWk.sg 27 H [] [1, 18] 3 [(1, .box [vS p0.Key, vB p0.Has, vS p0.Text]), (18, vB (decide ((p0.Text.length : Int) ≤ 4000)))] (by kernel_rfl) ?_
      refine OWk.case (decide ((p0.Text.length : Int) ≤ 4000)) (fun b => (sp 27 [(1, .box [vS p0.Key, vB p0.Has, vS p0.Text]), (18, vB b)] H)) (by kernel_rfl) (fun hc => ?_) (fun hc => ?_)
      · replace h := bif_t hc h
        refine OWk.sg 27 H [] [1, 18, 21] 3 [(1, .box [vS p0.Key, vB p0.Has, vS p0.Text]), (18, vB true), (21, vB p0.Has)] (by kernel_rfl) ?_
        refine OWk.case p0.Has (fun b => (sp 27 [(1, .box [vS p0.Key, vB p0.Has, vS p0.Text]), (18, vB true), (21, vB b)] H)) (by kernel_rfl) (fun hc => ?_) (fun hc => ?_)
        · replace h := bif_t hc h
          refine OWk.sg 27 H [] [2] 6 [(2, vB true)] (by kernel_rfl) <| OWk.done (by kernel_rfl) <| thenS_n <| SW.ret ?_
          cases h
          exact EndQ.ret [] (by kernel_rfl) rfl
        · replace h := bif_f hc h
          refine OWk.sg 27 H [] [2] 6 [(2, vB (p0.Text == []))] (by kernel_rfl) <| OWk.done (by kernel_rfl) <| thenS_n <| SW.ret ?_
          cases h
          exact EndQ.ret [] (by kernel_rfl) rfl
      · replace h := bif_f hc h
        refine OWk.sg 27 H [] [2] 9 [(2, vB false)] (by kernel_rfl) <| OWk.done (by kernel_rfl) <| thenS_n <| SW.ret ?_
        cases h
        exact EndQ.ret [] (by kernel_rfl) rfl
    · replace h := bif_f hc h
      refine OWk.sg 27 H [] [2] 15 [(2, vB false)] (by kernel_rfl) <| OWk.done (by kernel_rfl) <| thenS_n <| SW.ret ?_
      cases h
      exact EndQ.ret [] (by kernel_rfl) rfl
  · replace h := bif_f hc h
    refine OWk.sg 27 H [] [2] 21 [(2, vB false)] (by kernel_rfl) <| OWk.done (by kernel_rfl) <| thenS_n <| SW.ret ?_
    cases h
    exact EndQ.ret [] (by kernel_rfl) rfl
def j_ordered_l1 (fuel : Nat) (p0 : (List Image)) (y1 : Int) : Option ((Int) ⊕ ((Unit) ⊕ ((Bool)))) :=
  bif (decide (y1 < (p0.length : Int))) then
    (idx p0 y1).bind fun x2 =>
    (j_image fuel x2).bind fun r3 =>
    bif ((!r3) || (!x2.Has)) then
      some (.inr (.inr false))
    else
      bif (decide (y1 > 0)) then
        (idx p0 (IntKind.wrap .i64 (y1 - 1))).bind fun x4 =>
        bif (!(Op.bytesLess x4.Key x2.Key)) then
          some (.inr (.inr false))
        else
          some (.inl (IntKind.wrap .i64 (y1 + 1)))
      else
        some (.inl (IntKind.wrap .i64 (y1 + 1)))
  else
    some (.inr (.inl ()))
def j_ordered (fuel : Nat) (p0 : (List Image)) : Option (Bool) :=
  (iter (j_ordered_l1 fuel p0) fuel 0).bind (Sum.elim (fun v6 =>
    some (decide ((p0.length : Int) ≤ 500))) (fun r7 =>
    some r7))
theorem j_ordered_ok {fuel : Nat} {p0 : (List Image)} {r : Bool} (h : j_ordered fuel p0 = some r) : PC Tryz.prog 40 [.d (.list 3 (List.map encImage p0))] (vB r) := by
  refine PC.of_SW Tryz.func40 rfl fun H => ?_
  unfold j_ordered at h
  refine SW.kp 39 H [0] [(0, .d (.list 3 (List.map encImage p0)))] (by kernel_rfl) <| SW.seq <| SW.regionK <| OWk.sg 39 H [] [0] 1 [(0, .d (.list 3 (List.map encImage p0)))] (by kernel_rfl) <| OWk.done (by kernel_rfl) <| thenS_n <| SW.seq <| SW.seq <| SW.regionK <| OWk.sg 39 H [] [0, 5] 1 [(0, .d (.list 3 (List.map encImage p0))), (5, .d (.list 3 (List.map encImage p0)))] (by kernel_rfl) <| OWk.on 39 H (d := some 6) [0, 5, 6] [(0, .d (.list 3 (List.map encImage p0))), (5, .d (.list 3 (List.map encImage p0))), (6, vI (p0.length : Int))] (BAt.len (enc := encImage) (xs := p0) (by kernel_rfl)) (by kernel_rfl) <| OWk.sg 39 H [] [0, 5, 6, 7] 1 [(0, .d (.list 3 (List.map encImage p0))), (5, .d (.list 3 (List.map encImage p0))), (6, vI (p0.length : Int)), (7, vI 0)] (by kernel_rfl) <| OWk.done (by kernel_rfl) <| thenS_n <| SW.block ?_
  obtain ⟨z5, hit, h⟩ := bind_inv h
  refine SW.it 39 H [0, 5, 6, 7] (fun y1 => [(0, .d (.list 3 (List.map encImage p0))), (5, .d (.list 3 (List.map encImage p0))), (6, vI (p0.length : Int)), (7, vI y1)]) (fun b e s => ((∃ v6, b = (.inl v6) ∧ (e = .exit 0 ∧ s = (sp 39 [(0, .d (.list 3 (List.map encImage p0)))] H))) ∨ (∃ r7, b = (.inr r7) ∧ (e = .ret ∧ EndQ Tryz.prog Tryz.f40.results.toList H (vB r7) .ret s)))) hit (by kernel_rfl) (fun y1 o h => ?_) ?_
  · unfold j_ordered_l1 at h
    refine SW.seq <| SW.regionK <| OWk.sg 39 H [] [0, 5, 6, 7, 8] 1 [(0, .d (.list 3 (List.map encImage p0))), (5, .d (.list 3 (List.map encImage p0))), (6, vI (p0.length : Int)), (7, vI y1), (8, vB (decide (y1 < (p0.length : Int))))] (by kernel_rfl) <| OWk.done (by kernel_rfl) <| thenS_n <| SW.seq ?_
    refine SW.condB (b := (decide (y1 < (p0.length : Int)))) (by kernel_rfl) (fun hc => ?_) (fun hc => ?_)
    · replace h := bif_t hc h
      refine SW.skip <| thenS_n <| SW.seq <| SW.block <| SW.seq <| SW.regionK <| OWk.sg 39 H [] [0, 5, 6, 7, 9] 1 [(0, .d (.list 3 (List.map encImage p0))), (5, .d (.list 3 (List.map encImage p0))), (6, vI (p0.length : Int)), (7, vI y1), (9, vI y1)] (by kernel_rfl) ?_
      obtain ⟨x2, hx, h⟩ := bind_inv h
      refine OWk.on 39 H (d := some 10) (s := lendP none (Go.Sh.D.cells (encImage x2))) [0, 5, 6, 7, 9, 10] [(0, .d (.list 3 (List.map encImage p0))), (5, .d (.list 3 (List.map encImage p0))), (6, vI (p0.length : Int)), (7, vI y1), (9, vI y1), (10, .d (.dptr [.str x2.Key, .bool x2.Has, .str x2.Text]))] (BAt.index (n := 3) hx (by kernel_rfl)) (by kernel_rfl) <| OWk.sg 39 H [] [0, 3, 4, 5, 6, 7] 4 [(0, .d (.list 3 (List.map encImage p0))), (3, vI y1), (4, .box [vS x2.Key, vB x2.Has, vS x2.Text]), (5, .d (.list 3 (List.map encImage p0))), (6, vI (p0.length : Int)), (7, vI y1)] (by kernel_rfl) <| OWk.done (by kernel_rfl) <| thenS_n <| SW.seq <| SW.regionQ (by kernel_rfl) (by kernel_rfl) <| OQk.sg 39 H [] [0, 3, 4, 5, 6, 7, 12] 1 [(0, .d (.list 3 (List.map encImage p0))), (3, vI y1), (4, .box [vS x2.Key, vB x2.Has, vS x2.Text]), (5, .d (.list 3 (List.map encImage p0))), (6, vI (p0.length : Int)), (7, vI y1), (12, .d (.agg [.str x2.Key, .bool x2.Has, .str x2.Text]))] (by kernel_rfl) ?_
      obtain ⟨r3, hr, h⟩ := bind_inv h
      refine OQk.cl 39 H (d := some 13) (ls := []) [0, 3, 4, 5, 6, 7, 13] [(0, .d (.list 3 (List.map encImage p0))), (3, vI y1), (4, .box [vS x2.Key, vB x2.Has, vS x2.Text]), (5, .d (.list 3 (List.map encImage p0))), (6, vI (p0.length : Int)), (7, vI y1), (13, vB r3)] (j_image_ok hr) (by kernel_rfl) (by kernel_rfl) (by kernel_rfl) <| OQk.sg 39 H [] [0, 3, 4, 5, 6, 7, 15] 2 [(0, .d (.list 3 (List.map encImage p0))), (3, vI y1), (4, .box [vS x2.Key, vB x2.Has, vS x2.Text]), (5, .d (.list 3 (List.map encImage p0))), (6, vI (p0.length : Int)), (7, vI y1), (15, vB (!r3))] (by kernel_rfl) <| OQk.mg 39 H [0, 3, 4, 5, 6, 7, 19] 4 (!r3) (fun b => (sp 39 [(0, .d (.list 3 (List.map encImage p0))), (3, vI y1), (4, .box [vS x2.Key, vB x2.Has, vS x2.Text]), (5, .d (.list 3 (List.map encImage p0))), (6, vI (p0.length : Int)), (7, vI y1), (15, vB b)] H)) (fun b => [(0, .d (.list 3 (List.map encImage p0))), (3, vI y1), (4, .box [vS x2.Key, vB x2.Has, vS x2.Text]), (5, .d (.list 3 (List.map encImage p0))), (6, vI (p0.length : Int)), (7, vI y1), (19, vB (b || (!x2.Has)))]) (by kernel_rfl) (by kernel_rfl) (by kernel_rfl) <| OQk.sg 39 H [] [0, 3, 4, 5, 6, 7, 20] 1 [(0, .d (.list 3 (List.map encImage p0))), (3, vI y1), (4, .box [vS x2.Key, vB x2.Has, vS x2.Text]), (5, .d (.list 3 (List.map encImage p0))), (6, vI (p0.length : Int)), (7, vI y1), (20, vB ((!r3) || (!x2.Has)))] (by kernel_rfl) ?_
      refine OQk.case ((!r3) || (!x2.Has)) (fun b => (sp 39 [(0, .d (.list 3 (List.map encImage p0))), (3, vI y1), (4, .box [vS x2.Key, vB x2.Has, vS x2.Text]), (5, .d (.list 3 (List.map encImage p0))), (6, vI (p0.length : Int)), (7, vI y1), (20, vB b)] H)) (by kernel_rfl) (fun hc => ?_) (fun hc => ?_)
      · replace h := bif_t hc h
        refine OQk.sg 39 H [] [0, 5, 6, 7, 34] 14 [(0, .d (.list 3 (List.map encImage p0))), (5, .d (.list 3 (List.map encImage p0))), (6, vI (p0.length : Int)), (7, vI y1), (34, vB true)] (by kernel_rfl) <| OQk.done (by kernel_rfl) <| thenS_n <| SW.condT (by kernel_rfl) <| SW.seq <| SW.regionK <| OWk.sg 39 H [] [2] 1 [(2, vB false)] (by kernel_rfl) <| OWk.done (by kernel_rfl) <| thenS_n <| SW.ret <| blockS_r <| thenS_r ?_
        cases h
        refine thenS_r ?_
        exact ⟨_, rfl, .inr (⟨false, rfl, rfl, EndQ.ret [] (by kernel_rfl) rfl⟩)⟩
      · replace h := bif_f hc h
        refine OQk.sg 39 H [] [0, 3, 4, 5, 6, 7, 20, 23] 3 [(0, .d (.list 3 (List.map encImage p0))), (3, vI y1), (4, .box [vS x2.Key, vB x2.Has, vS x2.Text]), (5, .d (.list 3 (List.map encImage p0))), (6, vI (p0.length : Int)), (7, vI y1), (20, vB false), (23, vB (decide (y1 > 0)))] (by kernel_rfl) ?_
        refine OQk.case (decide (y1 > 0)) (fun b => (sp 39 [(0, .d (.list 3 (List.map encImage p0))), (3, vI y1), (4, .box [vS x2.Key, vB x2.Has, vS x2.Text]), (5, .d (.list 3 (List.map encImage p0))), (6, vI (p0.length : Int)), (7, vI y1), (20, vB false), (23, vB b)] H)) (by kernel_rfl) (fun hc => ?_) (fun hc => ?_)
        · replace h := bif_t hc h
          refine OQk.sg 39 H [] [0, 4, 5, 6, 7, 20, 23, 24, 26] 3 [(0, .d (.list 3 (List.map encImage p0))), (4, .box [vS x2.Key, vB x2.Has, vS x2.Text]), (5, .d (.list 3 (List.map encImage p0))), (6, vI (p0.length : Int)), (7, vI y1), (20, vB false), (23, vB true), (24, .d (.list 3 (List.map encImage p0))), (26, vI (IntKind.wrap .i64 (y1 - 1)))] (by kernel_rfl) ?_
          obtain ⟨x4, hx, h⟩ := bind_inv h
          refine OQk.on 39 H (d := some 27) (s := lendP none (Go.Sh.D.cells (encImage x4))) [0, 4, 5, 6, 7, 20, 23, 27] [(0, .d (.list 3 (List.map encImage p0))), (4, .box [vS x2.Key, vB x2.Has, vS x2.Text]), (5, .d (.list 3 (List.map encImage p0))), (6, vI (p0.length : Int)), (7, vI y1), (20, vB false), (23, vB true), (27, .d (.dptr [.str x4.Key, .bool x4.Has, .str x4.Text]))] (BAt.index (n := 3) hx (by kernel_rfl)) (by kernel_rfl) <| OQk.sg 39 H [] [0, 5, 6, 7, 34] 7 [(0, .d (.list 3 (List.map encImage p0))), (5, .d (.list 3 (List.map encImage p0))), (6, vI (p0.length : Int)), (7, vI y1), (34, vB (!(Op.bytesLess x4.Key x2.Key)))] (by kernel_rfl) <| OQk.done (by kernel_rfl) <| thenS_n ?_
          refine SW.condB (b := (!(Op.bytesLess x4.Key x2.Key))) (by kernel_rfl) (fun hc => ?_) (fun hc => ?_)
          · replace h := bif_t hc h
            refine SW.seq <| SW.regionK <| OWk.sg 39 H [] [2] 1 [(2, vB false)] (by kernel_rfl) <| OWk.done (by kernel_rfl) <| thenS_n <| SW.ret <| blockS_r <| thenS_r ?_
            cases h
            refine thenS_r ?_
            exact ⟨_, rfl, .inr (⟨false, rfl, rfl, EndQ.ret [] (by kernel_rfl) rfl⟩)⟩
          · replace h := bif_f hc h
            refine SW.skip <| blockS_n <| thenS_n <| SW.regionK <| OWk.sg 39 H [] [0, 5, 6, 7] 2 [(0, .d (.list 3 (List.map encImage p0))), (5, .d (.list 3 (List.map encImage p0))), (6, vI (p0.length : Int)), (7, vI (IntKind.wrap .i64 (y1 + 1)))] (by kernel_rfl) <| OWk.done (by kernel_rfl) ?_
            cases h
            exact ⟨(IntKind.wrap .i64 (y1 + 1)), rfl, by kernel_rfl⟩
        · replace h := bif_f hc h
          refine OQk.sg 39 H [] [0, 5, 6, 7, 34] 11 [(0, .d (.list 3 (List.map encImage p0))), (5, .d (.list 3 (List.map encImage p0))), (6, vI (p0.length : Int)), (7, vI y1), (34, vB false)] (by kernel_rfl) <| OQk.done (by kernel_rfl) <| thenS_n <| SW.condF (by kernel_rfl) <| SW.skip <| blockS_n <| thenS_n <| SW.regionK <| OWk.sg 39 H [] [0, 5, 6, 7] 2 [(0, .d (.list 3 (List.map encImage p0))), (5, .d (.list 3 (List.map encImage p0))), (6, vI (p0.length : Int)), (7, vI (IntKind.wrap .i64 (y1 + 1)))] (by kernel_rfl) <| OWk.done (by kernel_rfl) ?_
          cases h
          exact ⟨(IntKind.wrap .i64 (y1 + 1)), rfl, by kernel_rfl⟩
    · replace h := bif_f hc h
      refine SW.kp 39 H [0] [(0, .d (.list 3 (List.map encImage p0)))] (by kernel_rfl) <| SW.exit <| thenS_e ?_
      cases h
      refine thenS_e ?_
      exact ⟨_, rfl, .inl ⟨(), rfl, rfl, rfl⟩⟩
  · rintro _ _ (⟨v6, rfl, rfl, rfl⟩ | ⟨r7, rfl, rfl, hE⟩)
    · replace h := sum_l h
      refine blockS_hit <| thenS_n <| SW.seq <| SW.regionK <| OWk.sg 39 H [] [36] 1 [(36, .d (.list 3 (List.map encImage p0)))] (by kernel_rfl) <| OWk.on 39 H (d := some 37) [37] [(37, vI (p0.length : Int))] (BAt.len (enc := encImage) (xs := p0) (by kernel_rfl)) (by kernel_rfl) <| OWk.sg 39 H [] [2] 2 [(2, vB (decide ((p0.length : Int) ≤ 500)))] (by kernel_rfl) <| OWk.done (by kernel_rfl) <| thenS_n <| SW.ret ?_
      cases h
      exact EndQ.ret [] (by kernel_rfl) rfl
    · replace h := sum_r h
      refine blockS_r <| thenS_r ?_
      cases h
      exact hE
def j_kinds (fuel : Nat) : Option (Unit) :=
  some ()
theorem j_kinds_ok {fuel : Nat} {r : Unit} (h : j_kinds fuel = some r) : PC Tryz.prog 62 [] (.d (.agg [.nilFn, .fn (.func 80) [] [], .fn (.func 81) [] [], .fn (.func 81) [] [], .fn (.func 80) [] [], .fn (.func 80) [] [], .fn (.func 82) [] [], .fn (.func 80) [] []])) := by
  refine PC.of_SW Tryz.func62 rfl fun H => ?_
  unfold j_kinds at h
  refine SW.kp 2 H [] [] (by kernel_rfl) <| SW.seq <| SW.regionK <| OWk.sg 2 H [] [0] 1 [(0, .box [.d (.nilFn), .d (.nilFn), .d (.nilFn), .d (.nilFn), .d (.nilFn), .d (.nilFn), .d (.nilFn), .d (.nilFn)])] (by kernel_rfl) <| OWk.done (by kernel_rfl) <| thenS_n <| SW.seq <| SW.regionK <| OWk.sg 2 H [] [0] 2 [(0, .box [.d (.nilFn), .d (.fn (.func 80) [] []), .d (.fn (.func 81) [] []), .d (.fn (.func 81) [] []), .d (.fn (.func 80) [] []), .d (.fn (.func 80) [] []), .d (.fn (.func 82) [] []), .d (.fn (.func 80) [] [])])] (by kernel_rfl) <| OWk.done (by kernel_rfl) <| thenS_n <| SW.ret ?_
  cases h
  exact EndQ.ret [] (by kernel_rfl) rfl
def j_unit (fuel : Nat) (p0 : Int) : Option (Bool) :=
  some ((decide (p0 ≥ 1)) && (decide (p0 ≤ 1000)))
theorem j_unit_ok {fuel : Nat} {p0 : Int} {r : Bool} (h : j_unit fuel p0 = some r) : PC Tryz.prog 49 [vI p0] (vB r) := by
  refine PC.of_SW Tryz.func49 rfl fun H => ?_
  unfold j_unit at h
  refine SW.kp 9 H [0] [(0, vI p0)] (by kernel_rfl) <| SW.seq <| SW.regionK <| OWk.sg 9 H [] [0] 1 [(0, vI p0)] (by kernel_rfl) <| OWk.done (by kernel_rfl) <| thenS_n <| SW.seq <| SW.regionK <| OWk.sg 9 H [] [0, 5] 3 [(0, vI p0), (5, vB (decide (p0 ≥ 1)))] (by kernel_rfl) <| OWk.mg 9 H [8] 3 (decide (p0 ≥ 1)) (fun b => (sp 9 [(0, vI p0), (5, vB b)] H)) (fun b => [(8, vB (b && (decide (p0 ≤ 1000))))]) (by kernel_rfl) (by kernel_rfl) (by kernel_rfl) <| OWk.sg 9 H [] [2] 1 [(2, vB ((decide (p0 ≥ 1)) && (decide (p0 ≤ 1000))))] (by kernel_rfl) <| OWk.done (by kernel_rfl) <| thenS_n <| SW.ret ?_
  cases h
  exact EndQ.ret [] (by kernel_rfl) rfl
def j_plain (fuel : Nat) (p0 : Note) : Option (Bool) :=
  (j_unit fuel p0.Unit).bind fun r1 =>
  some (((r1 && (p0.Key == [])) && (!p0.Has)) && (p0.Text == []))
theorem j_plain_ok {fuel : Nat} {p0 : Note} {r : Bool} (h : j_plain fuel p0 = some r) : PC Tryz.prog 80 [.d (encNote p0)] (vB r) := by
  refine PC.of_SW Tryz.func80 rfl fun H => ?_
  unfold j_plain at h
  refine SW.kp 21 H [0] [(0, .d (.agg [.int .i64 p0.Kind, .int .i64 p0.Unit, .str p0.Key, .bool p0.Has, .str p0.Text]))] (by kernel_rfl) <| SW.seq <| SW.regionK <| OWk.sg 21 H [] [1] 2 [(1, .box [vI p0.Kind, vI p0.Unit, vS p0.Key, vB p0.Has, vS p0.Text])] (by kernel_rfl) <| OWk.done (by kernel_rfl) <| thenS_n <| SW.seq <| SW.regionK <| OWk.sg 21 H [] [1, 4] 2 [(1, .box [vI p0.Kind, vI p0.Unit, vS p0.Key, vB p0.Has, vS p0.Text]), (4, vI p0.Unit)] (by kernel_rfl) ?_
  obtain ⟨r1, hr, h⟩ := bind_inv h
  refine OWk.cl 21 H (d := some 5) (ls := []) (gs := []) [] [1, 5] [(1, .box [vI p0.Kind, vI p0.Unit, vS p0.Key, vB p0.Has, vS p0.Text]), (5, vB r1)] (j_unit_ok hr) (by kernel_rfl) (by kernel_rfl) (by kernel_rfl) <| OWk.sg 21 H [] [1, 6] 1 [(1, .box [vI p0.Kind, vI p0.Unit, vS p0.Key, vB p0.Has, vS p0.Text]), (6, vB r1)] (by kernel_rfl) <| OWk.mg 21 H [1, 10] 4 r1 (fun b => (sp 21 [(1, .box [vI p0.Kind, vI p0.Unit, vS p0.Key, vB p0.Has, vS p0.Text]), (6, vB b)] H)) (fun b => [(1, .box [vI p0.Kind, vI p0.Unit, vS p0.Key, vB p0.Has, vS p0.Text]), (10, vB (b && (p0.Key == [])))]) (by kernel_rfl) (by kernel_rfl) (by kernel_rfl) <| OWk.sg 21 H [] [1, 11] 1 [(1, .box [vI p0.Kind, vI p0.Unit, vS p0.Key, vB p0.Has, vS p0.Text]), (11, vB (r1 && (p0.Key == [])))] (by kernel_rfl) <| OWk.mg 21 H [1, 15] 4 (r1 && (p0.Key == [])) (fun b => (sp 21 [(1, .box [vI p0.Kind, vI p0.Unit, vS p0.Key, vB p0.Has, vS p0.Text]), (11, vB b)] H)) (fun b => [(1, .box [vI p0.Kind, vI p0.Unit, vS p0.Key, vB p0.Has, vS p0.Text]), (15, vB (b && (!p0.Has)))]) (by kernel_rfl) (by kernel_rfl) (by kernel_rfl) <| OWk.sg 21 H [] [1, 16] 1 [(1, .box [vI p0.Kind, vI p0.Unit, vS p0.Key, vB p0.Has, vS p0.Text]), (16, vB ((r1 && (p0.Key == [])) && (!p0.Has)))] (by kernel_rfl) <| OWk.mg 21 H [20] 4 ((r1 && (p0.Key == [])) && (!p0.Has)) (fun b => (sp 21 [(1, .box [vI p0.Kind, vI p0.Unit, vS p0.Key, vB p0.Has, vS p0.Text]), (16, vB b)] H)) (fun b => [(20, vB (b && (p0.Text == [])))]) (by kernel_rfl) (by kernel_rfl) (by kernel_rfl) <| OWk.sg 21 H [] [2] 1 [(2, vB (((r1 && (p0.Key == [])) && (!p0.Has)) && (p0.Text == [])))] (by kernel_rfl) <| OWk.done (by kernel_rfl) <| thenS_n <| SW.ret ?_
  cases h
  exact EndQ.ret [] (by kernel_rfl) rfl
def j_imaged (fuel : Nat) (p0 : Note) : Option (Bool) :=
  (j_unit fuel p0.Unit).bind fun r1 =>
  bif (r1 && (!(p0.Key == []))) then
    bif (decide ((p0.Key.length : Int) ≤ 40)) then
      bif (decide ((p0.Text.length : Int) ≤ 4000)) then
        bif p0.Has then
          some true
        else
          some (p0.Text == [])
      else
        some false
    else
      some false
  else
    some false
theorem j_imaged_ok {fuel : Nat} {p0 : Note} {r : Bool} (h : j_imaged fuel p0 = some r) : PC Tryz.prog 81 [.d (encNote p0)] (vB r) := by
  refine PC.of_SW Tryz.func81 rfl fun H => ?_
  unfold j_imaged at h
  refine SW.kp 32 H [0] [(0, .d (.agg [.int .i64 p0.Kind, .int .i64 p0.Unit, .str p0.Key, .bool p0.Has, .str p0.Text]))] (by kernel_rfl) <| SW.seq <| SW.regionK <| OWk.sg 32 H [] [1] 2 [(1, .box [vI p0.Kind, vI p0.Unit, vS p0.Key, vB p0.Has, vS p0.Text])] (by kernel_rfl) <| OWk.done (by kernel_rfl) <| thenS_n <| SW.seq <| SW.regionK <| OWk.sg 32 H [] [1, 4] 2 [(1, .box [vI p0.Kind, vI p0.Unit, vS p0.Key, vB p0.Has, vS p0.Text]), (4, vI p0.Unit)] (by kernel_rfl) ?_
  obtain ⟨r1, hr, h⟩ := bind_inv h
  refine OWk.cl 32 H (d := some 5) (ls := []) (gs := []) [] [1, 5] [(1, .box [vI p0.Kind, vI p0.Unit, vS p0.Key, vB p0.Has, vS p0.Text]), (5, vB r1)] (j_unit_ok hr) (by kernel_rfl) (by kernel_rfl) (by kernel_rfl) <| OWk.sg 32 H [] [1, 6] 1 [(1, .box [vI p0.Kind, vI p0.Unit, vS p0.Key, vB p0.Has, vS p0.Text]), (6, vB r1)] (by kernel_rfl) <| OWk.mg 32 H [1, 10] 4 r1 (fun b => (sp 32 [(1, .box [vI p0.Kind, vI p0.Unit, vS p0.Key, vB p0.Has, vS p0.Text]), (6, vB b)] H)) (fun b => [(1, .box [vI p0.Kind, vI p0.Unit, vS p0.Key, vB p0.Has, vS p0.Text]), (10, vB (b && (!(p0.Key == []))))]) (by kernel_rfl) (by kernel_rfl) (by kernel_rfl) <| OWk.sg 32 H [] [1, 11] 1 [(1, .box [vI p0.Kind, vI p0.Unit, vS p0.Key, vB p0.Has, vS p0.Text]), (11, vB (r1 && (!(p0.Key == []))))] (by kernel_rfl) ?_
  refine OWk.case (r1 && (!(p0.Key == []))) (fun b => (sp 32 [(1, .box [vI p0.Kind, vI p0.Unit, vS p0.Key, vB p0.Has, vS p0.Text]), (11, vB b)] H)) (by kernel_rfl) (fun hc => ?_) (fun hc => ?_)
  · replace h := bif_t hc h
    refine OWk.sg 32 H [] [1, 11, 13] 2 [(1, .box [vI p0.Kind, vI p0.Unit, vS p0.Key, vB p0.Has, vS p0.Text]), (11, vB true), (13, vS p0.Key)] (by kernel_rfl) <| OWk.sg 32 H [] [1, 11, 14] 1 [(1, .box [vI p0.Kind, vI p0.Unit, vS p0.Key, vB p0.Has, vS p0.Text]), (11, vB true), (14, vI (p0.Key.length : Int))] (by kernel_rfl) <| OWk.sg 32 H [] [1, 17] 3 [(1, .box [vI p0.Kind, vI p0.Unit, vS p0.Key, vB p0.Has, vS p0.Text]), (17, vB (decide ((p0.Key.length : Int) ≤ 40)))] (by kernel_rfl) ?_
    refine OWk.case (decide ((p0.Key.length : Int) ≤ 40)) (fun b => (sp 32 [(1, .box [vI p0.Kind, vI p0.Unit, vS p0.Key, vB p0.Has, vS p0.Text]), (17, vB b)] H)) (by kernel_rfl) (fun hc => ?_) (fun hc => ?_)
    · replace h := bif_t hc h
      refine OWk.sg 32 H [] [1, 17, 19] 2 [(1, .box [vI p0.Kind, vI p0.Unit, vS p0.Key, vB p0.Has, vS p0.Text]), (17, vB true), (19, vS p0.Text)] (by kernel_rfl) <| OWk.sg 32 H [] [1, 17, 20] 1 [(1, .box [vI p0.Kind, vI p0.Unit, vS p0.Key, vB p0.Has, vS p0.Text]), (17, vB true), (20, vI (p0.Text.length : Int))] (by kernel_rfl) <| OWk.sg 32 H [] [1, 23] 3 [(1, .box [vI p0.Kind, vI p0.Unit, vS p0.Key, vB p0.Has, vS p0.Text]), (23, vB (decide ((p0.Text.length : Int) ≤ 4000)))] (by kernel_rfl) ?_
      refine OWk.case (decide ((p0.Text.length : Int) ≤ 4000)) (fun b => (sp 32 [(1, .box [vI p0.Kind, vI p0.Unit, vS p0.Key, vB p0.Has, vS p0.Text]), (23, vB b)] H)) (by kernel_rfl) (fun hc => ?_) (fun hc => ?_)
      · replace h := bif_t hc h
        refine OWk.sg 32 H [] [1, 23, 26] 3 [(1, .box [vI p0.Kind, vI p0.Unit, vS p0.Key, vB p0.Has, vS p0.Text]), (23, vB true), (26, vB p0.Has)] (by kernel_rfl) ?_
        refine OWk.case p0.Has (fun b => (sp 32 [(1, .box [vI p0.Kind, vI p0.Unit, vS p0.Key, vB p0.Has, vS p0.Text]), (23, vB true), (26, vB b)] H)) (by kernel_rfl) (fun hc => ?_) (fun hc => ?_)
        · replace h := bif_t hc h
          refine OWk.sg 32 H [] [2] 6 [(2, vB true)] (by kernel_rfl) <| OWk.done (by kernel_rfl) <| thenS_n <| SW.ret ?_
          cases h
          exact EndQ.ret [] (by kernel_rfl) rfl
        · replace h := bif_f hc h
          refine OWk.sg 32 H [] [2] 6 [(2, vB (p0.Text == []))] (by kernel_rfl) <| OWk.done (by kernel_rfl) <| thenS_n <| SW.ret ?_
          cases h
          exact EndQ.ret [] (by kernel_rfl) rfl
      · replace h := bif_f hc h
        refine OWk.sg 32 H [] [2] 9 [(2, vB false)] (by kernel_rfl) <| OWk.done (by kernel_rfl) <| thenS_n <| SW.ret ?_
        cases h
        exact EndQ.ret [] (by kernel_rfl) rfl
    · replace h := bif_f hc h
      refine OWk.sg 32 H [] [2] 15 [(2, vB false)] (by kernel_rfl) <| OWk.done (by kernel_rfl) <| thenS_n <| SW.ret ?_
      cases h
      exact EndQ.ret [] (by kernel_rfl) rfl
  · replace h := bif_f hc h
    refine OWk.sg 32 H [] [2] 21 [(2, vB false)] (by kernel_rfl) <| OWk.done (by kernel_rfl) <| thenS_n <| SW.ret ?_
    cases h
    exact EndQ.ret [] (by kernel_rfl) rfl
def j_named (fuel : Nat) (p0 : Note) : Option (Bool) :=
  bif ((((p0.Unit == 0) && (p0.Key == [])) && (!p0.Has)) && (!(p0.Text == []))) then
    some (decide ((p0.Text.length : Int) ≤ 40))
  else
    some false
theorem j_named_ok {fuel : Nat} {p0 : Note} {r : Bool} (h : j_named fuel p0 = some r) : PC Tryz.prog 82 [.d (encNote p0)] (vB r) := by
  refine PC.of_SW Tryz.func82 rfl fun H => ?_
  unfold j_named at h
  refine SW.kp 27 H [0] [(0, .d (.agg [.int .i64 p0.Kind, .int .i64 p0.Unit, .str p0.Key, .bool p0.Has, .str p0.Text]))] (by kernel_rfl) <| SW.seq <| SW.regionK <| OWk.sg 27 H [] [1] 2 [(1, .box [vI p0.Kind, vI p0.Unit, vS p0.Key, vB p0.Has, vS p0.Text])] (by kernel_rfl) <| OWk.done (by kernel_rfl) <| thenS_n <| SW.seq <| SW.regionK <| OWk.sg 27 H [] [1, 6] 4 [(1, .box [vI p0.Kind, vI p0.Unit, vS p0.Key, vB p0.Has, vS p0.Text]), (6, vB (p0.Unit == 0))] (by kernel_rfl) <| OWk.mg 27 H [1, 10] 4 (p0.Unit == 0) (fun b => (sp 27 [(1, .box [vI p0.Kind, vI p0.Unit, vS p0.Key, vB p0.Has, vS p0.Text]), (6, vB b)] H)) (fun b => [(1, .box [vI p0.Kind, vI p0.Unit, vS p0.Key, vB p0.Has, vS p0.Text]), (10, vB (b && (p0.Key == [])))]) (by kernel_rfl) (by kernel_rfl) (by kernel_rfl) <| OWk.sg 27 H [] [1, 11] 1 [(1, .box [vI p0.Kind, vI p0.Unit, vS p0.Key, vB p0.Has, vS p0.Text]), (11, vB ((p0.Unit == 0) && (p0.Key == [])))] (by kernel_rfl) <| OWk.mg 27 H [1, 15] 4 ((p0.Unit == 0) && (p0.Key == [])) (fun b => (sp 27 [(1, .box [vI p0.Kind, vI p0.Unit, vS p0.Key, vB p0.Has, vS p0.Text]), (11, vB b)] H)) (fun b => [(1, .box [vI p0.Kind, vI p0.Unit, vS p0.Key, vB p0.Has, vS p0.Text]), (15, vB (b && (!p0.Has)))]) (by kernel_rfl) (by kernel_rfl) (by kernel_rfl) <| OWk.sg 27 H [] [1, 16] 1 [(1, .box [vI p0.Kind, vI p0.Unit, vS p0.Key, vB p0.Has, vS p0.Text]), (16, vB (((p0.Unit == 0) && (p0.Key == [])) && (!p0.Has)))] (by kernel_rfl) <| OWk.mg 27 H [1, 20] 4 (((p0.Unit == 0) && (p0.Key == [])) && (!p0.Has)) (fun b => (sp 27 [(1, .box [vI p0.Kind, vI p0.Unit, vS p0.Key, vB p0.Has, vS p0.Text]), (16, vB b)] H)) (fun b => [(1, .box [vI p0.Kind, vI p0.Unit, vS p0.Key, vB p0.Has, vS p0.Text]), (20, vB (b && (!(p0.Text == []))))]) (by kernel_rfl) (by kernel_rfl) (by kernel_rfl) <| OWk.sg 27 H [] [1, 21] 1 [(1, .box [vI p0.Kind, vI p0.Unit, vS p0.Key, vB p0.Has, vS p0.Text]), (21, vB ((((p0.Unit == 0) && (p0.Key == [])) && (!p0.Has)) && (!(p0.Text == []))))] (by kernel_rfl) ?_
  refine OWk.case ((((p0.Unit == 0) && (p0.Key == [])) && (!p0.Has)) && (!(p0.Text == []))) (fun b => (sp 27 [(1, .box [vI p0.Kind, vI p0.Unit, vS p0.Key, vB p0.Has, vS p0.Text]), (21, vB b)] H)) (by kernel_rfl) (fun hc => ?_) (fun hc => ?_)
  · replace h := bif_t hc h
    refine OWk.sg 27 H [] [21, 23] 2 [(21, vB true), (23, vS p0.Text)] (by kernel_rfl) <| OWk.sg 27 H [] [21, 24] 1 [(21, vB true), (24, vI (p0.Text.length : Int))] (by kernel_rfl) <| OWk.sg 27 H [] [2] 3 [(2, vB (decide ((p0.Text.length : Int) ≤ 40)))] (by kernel_rfl) <| OWk.done (by kernel_rfl) <| thenS_n <| SW.ret ?_
    cases h
    exact EndQ.ret [] (by kernel_rfl) rfl
  · replace h := bif_f hc h
    refine OWk.sg 27 H [] [2] 6 [(2, vB false)] (by kernel_rfl) <| OWk.done (by kernel_rfl) <| thenS_n <| SW.ret ?_
    cases h
    exact EndQ.ret [] (by kernel_rfl) rfl
def j_Valid (fuel : Nat) (p0 : Note) : Option (Bool) :=
  bif ((decide (p0.Kind ≥ 1)) && (decide (p0.Kind ≤ 7))) then
    (j_kinds fuel).bind fun r1 =>
    bif (p0.Kind == 0) then
      none
    else
      bif (p0.Kind == 1) then
        (j_plain fuel p0).bind fun r2 =>
        some r2
      else
        bif (p0.Kind == 2) then
          (j_imaged fuel p0).bind fun r3 =>
          some r3
        else
          bif (p0.Kind == 3) then
            (j_imaged fuel p0).bind fun r4 =>
            some r4
          else
            bif (p0.Kind == 4) then
              (j_plain fuel p0).bind fun r5 =>
              some r5
            else
              bif (p0.Kind == 5) then
                (j_plain fuel p0).bind fun r6 =>
                some r6
              else
                bif (p0.Kind == 6) then
                  (j_named fuel p0).bind fun r7 =>
                  some r7
                else
                  bif (p0.Kind == 7) then
                    (j_plain fuel p0).bind fun r8 =>
                    some r8
                  else
                    none
  else
    some false
theorem j_Valid_ok {fuel : Nat} {p0 : Note} {r : Bool} (h : j_Valid fuel p0 = some r) : PC Tryz.prog 44 [.d (encNote p0)] (vB r) := by
  refine PC.of_SW Tryz.func44 rfl fun H => ?_
  unfold j_Valid at h
  refine SW.kp 19 H [0] [(0, .d (.agg [.int .i64 p0.Kind, .int .i64 p0.Unit, .str p0.Key, .bool p0.Has, .str p0.Text]))] (by kernel_rfl) <| SW.seq <| SW.regionK <| OWk.sg 19 H [] [1] 2 [(1, .box [vI p0.Kind, vI p0.Unit, vS p0.Key, vB p0.Has, vS p0.Text])] (by kernel_rfl) <| OWk.done (by kernel_rfl) <| thenS_n <| SW.seq <| SW.regionQ (by kernel_rfl) (by kernel_rfl) <| OQk.sg 19 H [] [1, 6] 4 [(1, .box [vI p0.Kind, vI p0.Unit, vS p0.Key, vB p0.Has, vS p0.Text]), (6, vB (decide (p0.Kind ≥ 1)))] (by kernel_rfl) <| OQk.mg 19 H [1, 10] 4 (decide (p0.Kind ≥ 1)) (fun b => (sp 19 [(1, .box [vI p0.Kind, vI p0.Unit, vS p0.Key, vB p0.Has, vS p0.Text]), (6, vB b)] H)) (fun b => [(1, .box [vI p0.Kind, vI p0.Unit, vS p0.Key, vB p0.Has, vS p0.Text]), (10, vB (b && (decide (p0.Kind ≤ 7))))]) (by kernel_rfl) (by kernel_rfl) (by kernel_rfl) <| OQk.sg 19 H [] [1, 11] 1 [(1, .box [vI p0.Kind, vI p0.Unit, vS p0.Key, vB p0.Has, vS p0.Text]), (11, vB ((decide (p0.Kind ≥ 1)) && (decide (p0.Kind ≤ 7))))] (by kernel_rfl) ?_
  refine OQk.case ((decide (p0.Kind ≥ 1)) && (decide (p0.Kind ≤ 7))) (fun b => (sp 19 [(1, .box [vI p0.Kind, vI p0.Unit, vS p0.Key, vB p0.Has, vS p0.Text]), (11, vB b)] H)) (by kernel_rfl) (fun hc => ?_) (fun hc => ?_)
  · replace h := bif_t hc h
    obtain ⟨r1, hr, h⟩ := bind_inv h
    refine OQk.cl 19 H (d := some 12) (ls := []) [1, 11, 12] [(1, .box [vI p0.Kind, vI p0.Unit, vS p0.Key, vB p0.Has, vS p0.Text]), (11, vB true), (12, .d (.agg [.nilFn, .fn (.func 80) [] [], .fn (.func 81) [] [], .fn (.func 81) [] [], .fn (.func 80) [] [], .fn (.func 80) [] [], .fn (.func 82) [] [], .fn (.func 80) [] []]))] (j_kinds_ok hr) (by kernel_rfl) (by kernel_rfl) (by kernel_rfl) <| OQk.sg 19 H [] [1, 11, 12, 14] 2 [(1, .box [vI p0.Kind, vI p0.Unit, vS p0.Key, vB p0.Has, vS p0.Text]), (11, vB true), (12, .d (.agg [.nilFn, .fn (.func 80) [] [], .fn (.func 81) [] [], .fn (.func 81) [] [], .fn (.func 80) [] [], .fn (.func 80) [] [], .fn (.func 82) [] [], .fn (.func 80) [] []])), (14, vI p0.Kind)] (by kernel_rfl) ?_
    rcases hc : (p0.Kind == 0) with _ | _
    · replace h := bif_f hc h
      rcases hc : (p0.Kind == 1) with _ | _
      · replace h := bif_f hc h
        rcases hc : (p0.Kind == 2) with _ | _
        · replace h := bif_f hc h
          rcases hc : (p0.Kind == 3) with _ | _
          · replace h := bif_f hc h
            rcases hc : (p0.Kind == 4) with _ | _
            · replace h := bif_f hc h
              rcases hc : (p0.Kind == 5) with _ | _
              · replace h := bif_f hc h
                rcases hc : (p0.Kind == 6) with _ | _
                · replace h := bif_f hc h
                  rcases hc : (p0.Kind == 7) with _ | _
                  · replace h := bif_f hc h
                    cases h
                  · replace h := bif_t hc h
                    refine OQk.lit (fun e => (sp 19 [(1, .box [vI p0.Kind, vI p0.Unit, vS p0.Key, vB p0.Has, vS p0.Text]), (11, vB true), (12, .d (.agg [.nilFn, .fn (.func 80) [] [], .fn (.func 81) [] [], .fn (.func 81) [] [], .fn (.func 80) [] [], .fn (.func 80) [] [], .fn (.func 82) [] [], .fn (.func 80) [] []])), (14, vI e)] H)) (by kernel_rfl) hc <| OQk.sg 19 H [] [11, 15, 16] 2 [(11, vB true), (15, .d (.fn (.func 80) [] [])), (16, .d (.agg [.int .i64 p0.Kind, .int .i64 p0.Unit, .str p0.Key, .bool p0.Has, .str p0.Text]))] (by kernel_rfl) ?_
                    obtain ⟨r8, hr, h⟩ := bind_inv h
                    refine OQk.cl 19 H (d := some 17) (ls := []) [11, 17] [(11, vB true), (17, vB r8)] (j_plain_ok hr) (by kernel_rfl) (by kernel_rfl) (by kernel_rfl) <| OQk.sg 19 H [] [2] 2 [(2, vB r8)] (by kernel_rfl) <| OQk.done (by kernel_rfl) <| thenS_n <| SW.ret ?_
                    cases h
                    exact EndQ.ret [] (by kernel_rfl) rfl
                · replace h := bif_t hc h
                  refine OQk.lit (fun e => (sp 19 [(1, .box [vI p0.Kind, vI p0.Unit, vS p0.Key, vB p0.Has, vS p0.Text]), (11, vB true), (12, .d (.agg [.nilFn, .fn (.func 80) [] [], .fn (.func 81) [] [], .fn (.func 81) [] [], .fn (.func 80) [] [], .fn (.func 80) [] [], .fn (.func 82) [] [], .fn (.func 80) [] []])), (14, vI e)] H)) (by kernel_rfl) hc <| OQk.sg 19 H [] [11, 15, 16] 2 [(11, vB true), (15, .d (.fn (.func 82) [] [])), (16, .d (.agg [.int .i64 p0.Kind, .int .i64 p0.Unit, .str p0.Key, .bool p0.Has, .str p0.Text]))] (by kernel_rfl) ?_
                  obtain ⟨r7, hr, h⟩ := bind_inv h
                  refine OQk.cl 19 H (d := some 17) (ls := []) [11, 17] [(11, vB true), (17, vB r7)] (j_named_ok hr) (by kernel_rfl) (by kernel_rfl) (by kernel_rfl) <| OQk.sg 19 H [] [2] 2 [(2, vB r7)] (by kernel_rfl) <| OQk.done (by kernel_rfl) <| thenS_n <| SW.ret ?_
                  cases h
                  exact EndQ.ret [] (by kernel_rfl) rfl
              · replace h := bif_t hc h
                refine OQk.lit (fun e => (sp 19 [(1, .box [vI p0.Kind, vI p0.Unit, vS p0.Key, vB p0.Has, vS p0.Text]), (11, vB true), (12, .d (.agg [.nilFn, .fn (.func 80) [] [], .fn (.func 81) [] [], .fn (.func 81) [] [], .fn (.func 80) [] [], .fn (.func 80) [] [], .fn (.func 82) [] [], .fn (.func 80) [] []])), (14, vI e)] H)) (by kernel_rfl) hc <| OQk.sg 19 H [] [11, 15, 16] 2 [(11, vB true), (15, .d (.fn (.func 80) [] [])), (16, .d (.agg [.int .i64 p0.Kind, .int .i64 p0.Unit, .str p0.Key, .bool p0.Has, .str p0.Text]))] (by kernel_rfl) ?_
                obtain ⟨r6, hr, h⟩ := bind_inv h
                refine OQk.cl 19 H (d := some 17) (ls := []) [11, 17] [(11, vB true), (17, vB r6)] (j_plain_ok hr) (by kernel_rfl) (by kernel_rfl) (by kernel_rfl) <| OQk.sg 19 H [] [2] 2 [(2, vB r6)] (by kernel_rfl) <| OQk.done (by kernel_rfl) <| thenS_n <| SW.ret ?_
                cases h
                exact EndQ.ret [] (by kernel_rfl) rfl
            · replace h := bif_t hc h
              refine OQk.lit (fun e => (sp 19 [(1, .box [vI p0.Kind, vI p0.Unit, vS p0.Key, vB p0.Has, vS p0.Text]), (11, vB true), (12, .d (.agg [.nilFn, .fn (.func 80) [] [], .fn (.func 81) [] [], .fn (.func 81) [] [], .fn (.func 80) [] [], .fn (.func 80) [] [], .fn (.func 82) [] [], .fn (.func 80) [] []])), (14, vI e)] H)) (by kernel_rfl) hc <| OQk.sg 19 H [] [11, 15, 16] 2 [(11, vB true), (15, .d (.fn (.func 80) [] [])), (16, .d (.agg [.int .i64 p0.Kind, .int .i64 p0.Unit, .str p0.Key, .bool p0.Has, .str p0.Text]))] (by kernel_rfl) ?_
              obtain ⟨r5, hr, h⟩ := bind_inv h
              refine OQk.cl 19 H (d := some 17) (ls := []) [11, 17] [(11, vB true), (17, vB r5)] (j_plain_ok hr) (by kernel_rfl) (by kernel_rfl) (by kernel_rfl) <| OQk.sg 19 H [] [2] 2 [(2, vB r5)] (by kernel_rfl) <| OQk.done (by kernel_rfl) <| thenS_n <| SW.ret ?_
              cases h
              exact EndQ.ret [] (by kernel_rfl) rfl
          · replace h := bif_t hc h
            refine OQk.lit (fun e => (sp 19 [(1, .box [vI p0.Kind, vI p0.Unit, vS p0.Key, vB p0.Has, vS p0.Text]), (11, vB true), (12, .d (.agg [.nilFn, .fn (.func 80) [] [], .fn (.func 81) [] [], .fn (.func 81) [] [], .fn (.func 80) [] [], .fn (.func 80) [] [], .fn (.func 82) [] [], .fn (.func 80) [] []])), (14, vI e)] H)) (by kernel_rfl) hc <| OQk.sg 19 H [] [11, 15, 16] 2 [(11, vB true), (15, .d (.fn (.func 81) [] [])), (16, .d (.agg [.int .i64 p0.Kind, .int .i64 p0.Unit, .str p0.Key, .bool p0.Has, .str p0.Text]))] (by kernel_rfl) ?_
            obtain ⟨r4, hr, h⟩ := bind_inv h
            refine OQk.cl 19 H (d := some 17) (ls := []) [11, 17] [(11, vB true), (17, vB r4)] (j_imaged_ok hr) (by kernel_rfl) (by kernel_rfl) (by kernel_rfl) <| OQk.sg 19 H [] [2] 2 [(2, vB r4)] (by kernel_rfl) <| OQk.done (by kernel_rfl) <| thenS_n <| SW.ret ?_
            cases h
            exact EndQ.ret [] (by kernel_rfl) rfl
        · replace h := bif_t hc h
          refine OQk.lit (fun e => (sp 19 [(1, .box [vI p0.Kind, vI p0.Unit, vS p0.Key, vB p0.Has, vS p0.Text]), (11, vB true), (12, .d (.agg [.nilFn, .fn (.func 80) [] [], .fn (.func 81) [] [], .fn (.func 81) [] [], .fn (.func 80) [] [], .fn (.func 80) [] [], .fn (.func 82) [] [], .fn (.func 80) [] []])), (14, vI e)] H)) (by kernel_rfl) hc <| OQk.sg 19 H [] [11, 15, 16] 2 [(11, vB true), (15, .d (.fn (.func 81) [] [])), (16, .d (.agg [.int .i64 p0.Kind, .int .i64 p0.Unit, .str p0.Key, .bool p0.Has, .str p0.Text]))] (by kernel_rfl) ?_
          obtain ⟨r3, hr, h⟩ := bind_inv h
          refine OQk.cl 19 H (d := some 17) (ls := []) [11, 17] [(11, vB true), (17, vB r3)] (j_imaged_ok hr) (by kernel_rfl) (by kernel_rfl) (by kernel_rfl) <| OQk.sg 19 H [] [2] 2 [(2, vB r3)] (by kernel_rfl) <| OQk.done (by kernel_rfl) <| thenS_n <| SW.ret ?_
          cases h
          exact EndQ.ret [] (by kernel_rfl) rfl
      · replace h := bif_t hc h
        refine OQk.lit (fun e => (sp 19 [(1, .box [vI p0.Kind, vI p0.Unit, vS p0.Key, vB p0.Has, vS p0.Text]), (11, vB true), (12, .d (.agg [.nilFn, .fn (.func 80) [] [], .fn (.func 81) [] [], .fn (.func 81) [] [], .fn (.func 80) [] [], .fn (.func 80) [] [], .fn (.func 82) [] [], .fn (.func 80) [] []])), (14, vI e)] H)) (by kernel_rfl) hc <| OQk.sg 19 H [] [11, 15, 16] 2 [(11, vB true), (15, .d (.fn (.func 80) [] [])), (16, .d (.agg [.int .i64 p0.Kind, .int .i64 p0.Unit, .str p0.Key, .bool p0.Has, .str p0.Text]))] (by kernel_rfl) ?_
        obtain ⟨r2, hr, h⟩ := bind_inv h
        refine OQk.cl 19 H (d := some 17) (ls := []) [11, 17] [(11, vB true), (17, vB r2)] (j_plain_ok hr) (by kernel_rfl) (by kernel_rfl) (by kernel_rfl) <| OQk.sg 19 H [] [2] 2 [(2, vB r2)] (by kernel_rfl) <| OQk.done (by kernel_rfl) <| thenS_n <| SW.ret ?_
        cases h
        exact EndQ.ret [] (by kernel_rfl) rfl
    · replace h := bif_t hc h
      refine OQk.lit (fun e => (sp 19 [(1, .box [vI p0.Kind, vI p0.Unit, vS p0.Key, vB p0.Has, vS p0.Text]), (11, vB true), (12, .d (.agg [.nilFn, .fn (.func 80) [] [], .fn (.func 81) [] [], .fn (.func 81) [] [], .fn (.func 80) [] [], .fn (.func 80) [] [], .fn (.func 82) [] [], .fn (.func 80) [] []])), (14, vI e)] H)) (by kernel_rfl) hc <| OQk.sg 19 H [] [11, 15, 16] 2 [(11, vB true), (15, .d (.nilFn)), (16, .d (.agg [.int .i64 p0.Kind, .int .i64 p0.Unit, .str p0.Key, .bool p0.Has, .str p0.Text]))] (by kernel_rfl) ?_
      cases h
  · replace h := bif_f hc h
    refine OQk.sg 19 H [] [2] 8 [(2, vB false)] (by kernel_rfl) <| OQk.done (by kernel_rfl) <| thenS_n <| SW.ret ?_
    cases h
    exact EndQ.ret [] (by kernel_rfl) rfl
def j_valid_1 (fuel : Nat) (p0 : Note) : Option (Bool) :=
  (j_Valid fuel p0).bind fun r1 =>
  some (!r1)
theorem j_valid_1_ok {fuel : Nat} {p0 : Note} {r : Bool} (h : j_valid_1 fuel p0 = some r) : PC Tryz.prog 43 [.d (encNote p0)] (vB r) := by
  refine PC.of_SW Tryz.func43 rfl fun H => ?_
  unfold j_valid_1 at h
  refine SW.kp 6 H [0] [(0, .d (.agg [.int .i64 p0.Kind, .int .i64 p0.Unit, .str p0.Key, .bool p0.Has, .str p0.Text]))] (by kernel_rfl) <| SW.seq <| SW.regionK <| OWk.sg 6 H [] [1] 2 [(1, .box [vI p0.Kind, vI p0.Unit, vS p0.Key, vB p0.Has, vS p0.Text])] (by kernel_rfl) <| OWk.done (by kernel_rfl) <| thenS_n <| SW.seq <| SW.regionK <| OWk.sg 6 H [] [3] 1 [(3, .d (.agg [.int .i64 p0.Kind, .int .i64 p0.Unit, .str p0.Key, .bool p0.Has, .str p0.Text]))] (by kernel_rfl) ?_
  obtain ⟨r1, hr, h⟩ := bind_inv h
  refine OWk.cl 6 H (d := some 4) (ls := []) (gs := []) [] [4] [(4, vB r1)] (j_Valid_ok hr) (by kernel_rfl) (by kernel_rfl) (by kernel_rfl) <| OWk.sg 6 H [] [2] 2 [(2, vB (!r1))] (by kernel_rfl) <| OWk.done (by kernel_rfl) <| thenS_n <| SW.ret ?_
  cases h
  exact EndQ.ret [] (by kernel_rfl) rfl
def slices_IndexFunc__j_valid_1_l1 (fuel : Nat) (p0 : (List Note)) (y1 : Int) : Option ((Int) ⊕ ((Unit) ⊕ ((Int)))) :=
  bif (decide (y1 < (p0.length : Int))) then
    (idx p0 y1).bind fun x2 =>
    (j_valid_1 fuel x2).bind fun r3 =>
    bif r3 then
      some (.inr (.inr y1))
    else
      some (.inl (IntKind.wrap .i64 (y1 + 1)))
  else
    some (.inr (.inl ()))
def slices_IndexFunc__j_valid_1 (fuel : Nat) (p0 : (List Note)) : Option (Int) :=
  (iter (slices_IndexFunc__j_valid_1_l1 fuel p0) fuel 0).bind (Sum.elim (fun v5 =>
    some (-1)) (fun r6 =>
    some r6))
theorem slices_IndexFunc__j_valid_1_ok {fuel : Nat} {p0 : (List Note)} {r : Int} (h : slices_IndexFunc__j_valid_1 fuel p0 = some r) : PC Tryz.prog 48 [.d (.list 5 (List.map encNote p0)), .d (.fn (.func 43) [] [])] (vI r) := by
  refine PC.of_SW Tryz.func48 rfl fun H => ?_
  unfold slices_IndexFunc__j_valid_1 at h
  refine SW.kp 19 H [0, 1] [(0, .d (.list 5 (List.map encNote p0))), (1, .d (.fn (.func 43) [] []))] (by kernel_rfl) <| SW.seq <| SW.regionK <| OWk.sg 19 H [] [0, 1] 1 [(0, .d (.list 5 (List.map encNote p0))), (1, .d (.fn (.func 43) [] []))] (by kernel_rfl) <| OWk.done (by kernel_rfl) <| thenS_n <| SW.seq <| SW.seq <| SW.regionK <| OWk.sg 19 H [] [0, 1, 6] 1 [(0, .d (.list 5 (List.map encNote p0))), (1, .d (.fn (.func 43) [] [])), (6, .d (.list 5 (List.map encNote p0)))] (by kernel_rfl) <| OWk.on 19 H (d := some 7) [0, 1, 7] [(0, .d (.list 5 (List.map encNote p0))), (1, .d (.fn (.func 43) [] [])), (7, vI (p0.length : Int))] (BAt.len (enc := encNote) (xs := p0) (by kernel_rfl)) (by kernel_rfl) <| OWk.sg 19 H [] [0, 1, 7, 8] 1 [(0, .d (.list 5 (List.map encNote p0))), (1, .d (.fn (.func 43) [] [])), (7, vI (p0.length : Int)), (8, vI 0)] (by kernel_rfl) <| OWk.done (by kernel_rfl) <| thenS_n <| SW.block ?_
  obtain ⟨z4, hit, h⟩ := bind_inv h
  refine SW.it 19 H [0, 1, 7, 8] (fun y1 => [(0, .d (.list 5 (List.map encNote p0))), (1, .d (.fn (.func 43) [] [])), (7, vI (p0.length : Int)), (8, vI y1)]) (fun b e s => ((∃ v5, b = (.inl v5) ∧ (e = .exit 0 ∧ s = (sp 19 [] H))) ∨ (∃ r6, b = (.inr r6) ∧ (e = .ret ∧ EndQ Tryz.prog Tryz.f48.results.toList H (vI r6) .ret s)))) hit (by kernel_rfl) (fun y1 o h => ?_) ?_
  · unfold slices_IndexFunc__j_valid_1_l1 at h
    refine SW.seq <| SW.regionK <| OWk.sg 19 H [] [0, 1, 7, 8, 9] 1 [(0, .d (.list 5 (List.map encNote p0))), (1, .d (.fn (.func 43) [] [])), (7, vI (p0.length : Int)), (8, vI y1), (9, vB (decide (y1 < (p0.length : Int))))] (by kernel_rfl) <| OWk.done (by kernel_rfl) <| thenS_n <| SW.seq ?_
    refine SW.condB (b := (decide (y1 < (p0.length : Int)))) (by kernel_rfl) (fun hc => ?_) (fun hc => ?_)
    · replace h := bif_t hc h
      refine SW.skip <| thenS_n <| SW.seq <| SW.block <| SW.seq <| SW.regionK <| OWk.sg 19 H [] [0, 1, 5, 7, 8] 2 [(0, .d (.list 5 (List.map encNote p0))), (1, .d (.fn (.func 43) [] [])), (5, vI y1), (7, vI (p0.length : Int)), (8, vI y1)] (by kernel_rfl) <| OWk.done (by kernel_rfl) <| thenS_n <| SW.seq <| SW.regionK <| OWk.sg 19 H [] [0, 1, 5, 7, 8, 11, 12, 13] 3 [(0, .d (.list 5 (List.map encNote p0))), (1, .d (.fn (.func 43) [] [])), (5, vI y1), (7, vI (p0.length : Int)), (8, vI y1), (11, .d (.fn (.func 43) [] [])), (12, .d (.list 5 (List.map encNote p0))), (13, vI y1)] (by kernel_rfl) ?_
      obtain ⟨x2, hx, h⟩ := bind_inv h
      refine OWk.on 19 H (d := some 14) (s := lendP none (Go.Sh.D.cells (encNote x2))) [0, 1, 5, 7, 8, 11, 14] [(0, .d (.list 5 (List.map encNote p0))), (1, .d (.fn (.func 43) [] [])), (5, vI y1), (7, vI (p0.length : Int)), (8, vI y1), (11, .d (.fn (.func 43) [] [])), (14, .d (.dptr [.int .i64 x2.Kind, .int .i64 x2.Unit, .str x2.Key, .bool x2.Has, .str x2.Text]))] (BAt.index (n := 5) hx (by kernel_rfl)) (by kernel_rfl) <| OWk.sg 19 H [] [0, 1, 5, 7, 8, 11, 15] 1 [(0, .d (.list 5 (List.map encNote p0))), (1, .d (.fn (.func 43) [] [])), (5, vI y1), (7, vI (p0.length : Int)), (8, vI y1), (11, .d (.fn (.func 43) [] [])), (15, .d (.agg [.int .i64 x2.Kind, .int .i64 x2.Unit, .str x2.Key, .bool x2.Has, .str x2.Text]))] (by kernel_rfl) ?_
      obtain ⟨r3, hr, h⟩ := bind_inv h
      refine OWk.cl 19 H (d := some 16) (ls := []) (gs := []) [] [0, 1, 5, 7, 8, 16] [(0, .d (.list 5 (List.map encNote p0))), (1, .d (.fn (.func 43) [] [])), (5, vI y1), (7, vI (p0.length : Int)), (8, vI y1), (16, vB r3)] (j_valid_1_ok hr) (by kernel_rfl) (by kernel_rfl) (by kernel_rfl) <| OWk.done (by kernel_rfl) <| thenS_n ?_
      refine SW.condB (b := r3) (by kernel_rfl) (fun hc => ?_) (fun hc => ?_)
      · replace h := bif_t hc h
        refine SW.seq <| SW.regionK <| OWk.sg 19 H [] [4] 2 [(4, vI y1)] (by kernel_rfl) <| OWk.done (by kernel_rfl) <| thenS_n <| SW.ret <| blockS_r <| thenS_r ?_
        cases h
        refine thenS_r ?_
        exact ⟨_, rfl, .inr (⟨y1, rfl, rfl, EndQ.ret [] (by kernel_rfl) rfl⟩)⟩
      · replace h := bif_f hc h
        refine SW.skip <| blockS_n <| thenS_n <| SW.regionK <| OWk.sg 19 H [] [0, 1, 7, 8] 2 [(0, .d (.list 5 (List.map encNote p0))), (1, .d (.fn (.func 43) [] [])), (7, vI (p0.length : Int)), (8, vI (IntKind.wrap .i64 (y1 + 1)))] (by kernel_rfl) <| OWk.done (by kernel_rfl) ?_
        cases h
        exact ⟨(IntKind.wrap .i64 (y1 + 1)), rfl, by kernel_rfl⟩
    · replace h := bif_f hc h
      refine SW.kp 19 H [] [] (by kernel_rfl) <| SW.exit <| thenS_e ?_
      cases h
      refine thenS_e ?_
      exact ⟨_, rfl, .inl ⟨(), rfl, rfl, rfl⟩⟩
  · rintro _ _ (⟨v5, rfl, rfl, rfl⟩ | ⟨r6, rfl, rfl, hE⟩)
    · replace h := sum_l h
      refine blockS_hit <| thenS_n <| SW.seq <| SW.regionK <| OWk.sg 19 H [] [4] 1 [(4, vI (-1))] (by kernel_rfl) <| OWk.done (by kernel_rfl) <| thenS_n <| SW.ret ?_
      cases h
      exact EndQ.ret [] (by kernel_rfl) rfl
    · replace h := sum_r h
      refine blockS_r <| thenS_r ?_
      cases h
      exact hE
def slices_ContainsFunc__j_valid_1 (fuel : Nat) (p0 : (List Note)) : Option (Bool) :=
  (slices_IndexFunc__j_valid_1 fuel p0).bind fun r1 =>
  some (decide (r1 ≥ 0))
theorem slices_ContainsFunc__j_valid_1_ok {fuel : Nat} {p0 : (List Note)} {r : Bool} (h : slices_ContainsFunc__j_valid_1 fuel p0 = some r) : PC Tryz.prog 34 [.d (.list 5 (List.map encNote p0)), .d (.fn (.func 43) [] [])] (vB r) := by
  refine PC.of_SW Tryz.func34 rfl fun H => ?_
  unfold slices_ContainsFunc__j_valid_1 at h
  refine SW.kp 9 H [0, 1] [(0, .d (.list 5 (List.map encNote p0))), (1, .d (.fn (.func 43) [] []))] (by kernel_rfl) <| SW.seq <| SW.regionK <| OWk.sg 9 H [] [0, 1] 1 [(0, .d (.list 5 (List.map encNote p0))), (1, .d (.fn (.func 43) [] []))] (by kernel_rfl) <| OWk.done (by kernel_rfl) <| thenS_n <| SW.seq <| SW.regionK <| OWk.sg 9 H [] [5, 6] 2 [(5, .d (.list 5 (List.map encNote p0))), (6, .d (.fn (.func 43) [] []))] (by kernel_rfl) ?_
  obtain ⟨r1, hr, h⟩ := bind_inv h
  refine OWk.cl 9 H (d := some 7) (ls := []) (gs := []) [] [7] [(7, vI r1)] (slices_IndexFunc__j_valid_1_ok hr) (by kernel_rfl) (by kernel_rfl) (by kernel_rfl) <| OWk.sg 9 H [] [4] 2 [(4, vB (decide (r1 ≥ 0)))] (by kernel_rfl) <| OWk.done (by kernel_rfl) <| thenS_n <| SW.ret ?_
  cases h
  exact EndQ.ret [] (by kernel_rfl) rfl
def j_valid (fuel : Nat) (p0 : (List Note)) : Option (Bool) :=
  bif (decide ((p0.length : Int) ≤ 1000)) then
    (slices_ContainsFunc__j_valid_1 fuel p0).bind fun r1 =>
    some (!r1)
  else
    some false
theorem j_valid_ok {fuel : Nat} {p0 : (List Note)} {r : Bool} (h : j_valid fuel p0 = some r) : PC Tryz.prog 24 [.d (.list 5 (List.map encNote p0))] (vB r) := by
  refine PC.of_SW Tryz.func24 rfl fun H => ?_
  unfold j_valid at h
  refine SW.kp 11 H [0] [(0, .d (.list 5 (List.map encNote p0)))] (by kernel_rfl) <| SW.seq <| SW.regionK <| OWk.sg 11 H [] [0] 1 [(0, .d (.list 5 (List.map encNote p0)))] (by kernel_rfl) <| OWk.done (by kernel_rfl) <| thenS_n <| SW.seq <| SW.regionK <| OWk.sg 11 H [] [0, 3] 1 [(0, .d (.list 5 (List.map encNote p0))), (3, .d (.list 5 (List.map encNote p0)))] (by kernel_rfl) <| OWk.on 11 H (d := some 4) [0, 4] [(0, .d (.list 5 (List.map encNote p0))), (4, vI (p0.length : Int))] (BAt.len (enc := encNote) (xs := p0) (by kernel_rfl)) (by kernel_rfl) <| OWk.sg 11 H [] [0, 6] 2 [(0, .d (.list 5 (List.map encNote p0))), (6, vB (decide ((p0.length : Int) ≤ 1000)))] (by kernel_rfl) ?_
  refine OWk.case (decide ((p0.length : Int) ≤ 1000)) (fun b => (sp 11 [(0, .d (.list 5 (List.map encNote p0))), (6, vB b)] H)) (by kernel_rfl) (fun hc => ?_) (fun hc => ?_)
  · replace h := bif_t hc h
    refine OWk.sg 11 H [] [6, 7] 1 [(6, vB true), (7, .d (.list 5 (List.map encNote p0)))] (by kernel_rfl) ?_
    obtain ⟨r1, hr, h⟩ := bind_inv h
    refine OWk.cl 11 H (d := some 8) (ls := []) (gs := []) [] [6, 8] [(6, vB true), (8, vB r1)] (slices_ContainsFunc__j_valid_1_ok hr) (by kernel_rfl) (by kernel_rfl) (by kernel_rfl) <| OWk.sg 11 H [] [2] 3 [(2, vB (!r1))] (by kernel_rfl) <| OWk.done (by kernel_rfl) <| thenS_n <| SW.ret ?_
    cases h
    exact EndQ.ret [] (by kernel_rfl) rfl
  · replace h := bif_f hc h
    refine OWk.sg 11 H [] [2] 5 [(2, vB false)] (by kernel_rfl) <| OWk.done (by kernel_rfl) <| thenS_n <| SW.ret ?_
    cases h
    exact EndQ.ret [] (by kernel_rfl) rfl
theorem encNote_np (x : Note) : noPtr (encNote x) = true := by simp [encNote, noPtr, noPtrs]
def j_Wrong_l1 (fuel : Nat) (q3 : (Hp × Nat)) (q26 : (Rng (List UInt8) Bool)) (y27 : Hp) (e28 : ((List UInt8) × Bool)) : Option ((Hp) ⊕ (Empty)) :=
  (hMdel kS (cI .i64) y27 (some q3.2) e28.1).bind fun H29 =>
  chk (holes q26 H29) <|
  some (.inl H29)
noncomputable def j_Wrong_l2 (fuel : Nat) (p0 : (List Note)) (q2 : (Hp × Nat)) (q3 : (Hp × Nat)) (y4 : Int × Hp) : Option ((Int × Hp) ⊕ ((Hp) ⊕ ((Int × Int)))) :=
  bif (decide (y4.1 < (p0.length : Int))) then
    (idx p0 y4.1).bind fun x5 =>
    (hLook (kI .i64) cP y4.2 (some q2.2) x5.Unit).bind fun q6 =>
    bif ((x5.Kind != 6) && (q6.isSome == (x5.Kind == 1))) then
      some (.inr (.inr (y4.1, 9)))
    else
      bif (x5.Kind == 1) then
        (hNew y4.2 (.map [])).bind fun q7 =>
        (hNew q7.1 (.cells [.d (.int .i64 y4.1), .d (.map q7.2)])).bind fun q8 =>
        (hMput (kI .i64) cP q8.1 (some q2.2) x5.Unit (some q8.2)).bind fun H9 =>
        some (.inl ((IntKind.wrap .i64 (y4.1 + 1)), H9))
      else
        letJ (fun (j10 : Bool) =>
          bif j10 then
            letJ (fun (j12 : Unit) =>
              (hLook kS (cI .i64) y4.2 (some q3.2) x5.Key).bind fun q17 =>
              bif (q17.isSome && ((q17.getD 0) != x5.Unit)) then
                some (.inr (.inr (y4.1, 6)))
              else
                (q6.getD none).bind fun i18 =>
                (hGet cM.cell y4.2 i18 1).bind fun x19 =>
                (hMput kS cB y4.2 x19 x5.Key true).bind fun H20 =>
                (hMput kS (cI .i64) H20 (some q3.2) x5.Key x5.Unit).bind fun H21 =>
                some (.inl ((IntKind.wrap .i64 (y4.1 + 1)), H21))) fun jp13 =>
            bif (x5.Kind == 3) then
              (q6.getD none).bind fun i14 =>
              (hGet cM.cell y4.2 i14 1).bind fun x15 =>
              (hLook kS cB y4.2 x15 x5.Key).bind fun q16 =>
              bif (!(q16.getD false)) then
                some (.inr (.inr (y4.1, 8)))
              else
                jp13 ()
            else
              jp13 ()
          else
            letJ (fun (j22 : Bool) =>
              bif j22 then
                (q6.getD none).bind fun i24 =>
                (hGet cM.cell y4.2 i24 1).bind fun x25 =>
                (hRange kS cB y4.2 x25).bind fun q26 =>
                allP q26.es fun p => (foldI (j_Wrong_l1 fuel q3 q26) q26.H p).bind (Sum.elim (fun y30 =>
                  (hBack kS cB q26 y30).bind fun H31 =>
                  (hNew H31 (.map [])).bind fun q32 =>
                  (q6.getD none).bind fun i33 =>
                  (hSet (cI .i64) q32.1 i33 0 y4.1).bind fun H34 =>
                  (q6.getD none).bind fun i35 =>
                  (hSet cM H34 i35 1 (some q32.2)).bind fun H36 =>
                  bif (x5.Kind != 4) then
                    (hMdel (kI .i64) cP H36 (some q2.2) x5.Unit).bind fun H37 =>
                    some (.inl ((IntKind.wrap .i64 (y4.1 + 1)), H37))
                  else
                    some (.inl ((IntKind.wrap .i64 (y4.1 + 1)), H36)))
                  Empty.elim)
              else
                some (.inl ((IntKind.wrap .i64 (y4.1 + 1)), y4.2))) fun jp23 =>
            bif (x5.Kind == 4) then
              jp23 true
            else
              bif (x5.Kind == 5) then
                jp23 true
              else
                jp23 (x5.Kind == 7)) fun jp11 =>
        bif (x5.Kind == 3) then
          jp11 true
        else
          jp11 (x5.Kind == 2)
  else
    some (.inr (.inl y4.2))
noncomputable def j_Wrong (fuel : Nat) (p0 : (List Note)) : Option (Int × Int) :=
  (j_valid fuel p0).bind fun r1 =>
  bif (!r1) then
    some (0, 1)
  else
    (hNew [] (.map [])).bind fun q2 =>
    (hNew q2.1 (.map [])).bind fun q3 =>
    (iter (j_Wrong_l2 fuel p0 q2 q3) fuel (0, q3.1)).bind (Sum.elim (fun v39 =>
      some ((-1), 0)) (fun r40 =>
      some r40))
theorem j_Wrong_ok {fuel : Nat} {p0 : (List Note)} {r : Int × Int} (h : j_Wrong fuel p0 = some r) : PC Tryz.prog 6 [.d (.list 5 (List.map encNote p0))] (.tup [vI r.1, vI r.2]) := by
  refine PC.of_localSW Tryz.func6 rfl (by simp [noPtrSV, noPtr, noPtrs, vI, vB, vS, noPtrs_map (f := encNote) encNote_np]) (by simp [noPtrSV, noPtr, noPtrs, vI, vB, vS]) ?_
  unfold j_Wrong at h
  refine SW.kp 129 [] [0] [(0, .d (.list 5 (List.map encNote p0)))] (by kernel_rfl) <| SW.seq <| SW.regionK <| OWk.sg 129 [] [] [0] 2 [(0, .d (.list 5 (List.map encNote p0)))] (by kernel_rfl) <| OWk.done (by kernel_rfl) <| thenS_n <| SW.seq <| SW.seq <| SW.regionK <| OWk.sg 129 [] [] [0, 13] 1 [(0, .d (.list 5 (List.map encNote p0))), (13, .d (.list 5 (List.map encNote p0)))] (by kernel_rfl) ?_
  obtain ⟨r1, hr, h⟩ := bind_inv h
  refine OWk.cl 129 [] (d := some 14) (ls := []) (gs := []) [] [0, 14] [(0, .d (.list 5 (List.map encNote p0))), (14, vB r1)] (j_valid_ok hr) (by kernel_rfl) (by kernel_rfl) (by kernel_rfl) <| OWk.sg 129 [] [] [0, 15] 1 [(0, .d (.list 5 (List.map encNote p0))), (15, vB (!r1))] (by kernel_rfl) <| OWk.done (by kernel_rfl) <| thenS_n ?_
  refine SW.condB (b := (!r1)) (by kernel_rfl) (fun hc => ?_) (fun hc => ?_)
  · replace h := bif_t hc h
    refine SW.seq <| SW.regionK <| OWk.sg 129 [] [] [2, 3] 2 [(2, vI 0), (3, vI 1)] (by kernel_rfl) <| OWk.done (by kernel_rfl) <| thenS_n <| SW.ret <| thenS_r ?_
    cases h
    exact EndL.ret [] (by kernel_rfl)
  · replace h := bif_f hc h
    refine SW.skip <| thenS_n <| SW.seq <| SW.regionK ?_
    obtain ⟨q2, hq, h⟩ := bind_inv h
    refine OWk.hnew 129 q2.1 (d := some 16) (b := true) [] [0, 16] [(0, .d (.list 5 (List.map encNote p0))), (16, .d (.map q2.2))] hq (by kernel_rfl) rfl (by kernel_rfl) <| OWk.sg 129 q2.1 [] [0, 4] 1 [(0, .d (.list 5 (List.map encNote p0))), (4, .d (.map q2.2))] (by kernel_rfl) <| OWk.done (by kernel_rfl) <| thenS_n <| SW.seq <| SW.regionK ?_
    obtain ⟨q3, hq, h⟩ := bind_inv h
    refine OWk.hnew 129 q3.1 (d := some 17) (b := true) [] [0, 4, 17] [(0, .d (.list 5 (List.map encNote p0))), (4, .d (.map q2.2)), (17, .d (.map q3.2))] hq (by kernel_rfl) rfl (by kernel_rfl) <| OWk.sg 129 q3.1 [] [0, 4, 5] 1 [(0, .d (.list 5 (List.map encNote p0))), (4, .d (.map q2.2)), (5, .d (.map q3.2))] (by kernel_rfl) <| OWk.done (by kernel_rfl) <| thenS_n <| SW.seq <| SW.seq <| SW.regionK <| OWk.sg 129 q3.1 [] [4, 5, 18] 1 [(4, .d (.map q2.2)), (5, .d (.map q3.2)), (18, .d (.list 5 (List.map encNote p0)))] (by kernel_rfl) <| OWk.on 129 q3.1 (d := some 19) [4, 5, 18, 19] [(4, .d (.map q2.2)), (5, .d (.map q3.2)), (18, .d (.list 5 (List.map encNote p0))), (19, vI (p0.length : Int))] (BAt.len (enc := encNote) (xs := p0) (by kernel_rfl)) (by kernel_rfl) <| OWk.sg 129 q3.1 [] [4, 5, 18, 19, 20] 1 [(4, .d (.map q2.2)), (5, .d (.map q3.2)), (18, .d (.list 5 (List.map encNote p0))), (19, vI (p0.length : Int)), (20, vI 0)] (by kernel_rfl) <| OWk.done (by kernel_rfl) <| thenS_n <| SW.block ?_
    obtain ⟨z38, hit, h⟩ := bind_inv h
    refine SW.itH 129 [4, 5, 18, 19, 20] (fun y4 => [(4, .d (.map q2.2)), (5, .d (.map q3.2)), (18, .d (.list 5 (List.map encNote p0))), (19, vI (p0.length : Int)), (20, vI y4.1)]) (fun y4 => y4.2) (fun b e s => ((∃ v39, b = (.inl v39) ∧ (e = .exit 0 ∧ s = (sp 129 [] v39))) ∨ (∃ r40, b = (.inr r40) ∧ (e = .ret ∧ EndL Tryz.prog Tryz.f6.results.toList (.tup [vI r40.1, vI r40.2]) .ret s)))) hit (by kernel_rfl) (fun y4 o h => ?_) ?_
    · unfold j_Wrong_l2 at h
      refine SW.seq <| SW.regionK <| OWk.sg 129 y4.2 [] [4, 5, 18, 19, 20, 21] 1 [(4, .d (.map q2.2)), (5, .d (.map q3.2)), (18, .d (.list 5 (List.map encNote p0))), (19, vI (p0.length : Int)), (20, vI y4.1), (21, vB (decide (y4.1 < (p0.length : Int))))] (by kernel_rfl) <| OWk.done (by kernel_rfl) <| thenS_n <| SW.seq ?_
      refine SW.condB (b := (decide (y4.1 < (p0.length : Int)))) (by kernel_rfl) (fun hc => ?_) (fun hc => ?_)
      · replace h := bif_t hc h
        refine SW.skip <| thenS_n <| SW.seq <| SW.block <| SW.seq <| SW.regionK <| OWk.sg 129 y4.2 [] [4, 5, 18, 19, 20, 22] 1 [(4, .d (.map q2.2)), (5, .d (.map q3.2)), (18, .d (.list 5 (List.map encNote p0))), (19, vI (p0.length : Int)), (20, vI y4.1), (22, vI y4.1)] (by kernel_rfl) ?_
        obtain ⟨x5, hx, h⟩ := bind_inv h
        refine OWk.on 129 y4.2 (d := some 23) (s := lendP none (Go.Sh.D.cells (encNote x5))) [4, 5, 18, 19, 20, 22, 23] [(4, .d (.map q2.2)), (5, .d (.map q3.2)), (18, .d (.list 5 (List.map encNote p0))), (19, vI (p0.length : Int)), (20, vI y4.1), (22, vI y4.1), (23, .d (.dptr [.int .i64 x5.Kind, .int .i64 x5.Unit, .str x5.Key, .bool x5.Has, .str x5.Text]))] (BAt.index (n := 5) hx (by kernel_rfl)) (by kernel_rfl) <| OWk.sg 129 y4.2 [] [4, 5, 6, 7, 18, 19, 20] 4 [(4, .d (.map q2.2)), (5, .d (.map q3.2)), (6, vI y4.1), (7, .box [vI x5.Kind, vI x5.Unit, vS x5.Key, vB x5.Has, vS x5.Text]), (18, .d (.list 5 (List.map encNote p0))), (19, vI (p0.length : Int)), (20, vI y4.1)] (by kernel_rfl) <| OWk.done (by kernel_rfl) <| thenS_n <| SW.seq <| SW.regionK <| OWk.sg 129 y4.2 [] [4, 5, 6, 7, 18, 19, 20, 26, 28] 3 [(4, .d (.map q2.2)), (5, .d (.map q3.2)), (6, vI y4.1), (7, .box [vI x5.Kind, vI x5.Unit, vS x5.Key, vB x5.Has, vS x5.Text]), (18, .d (.list 5 (List.map encNote p0))), (19, vI (p0.length : Int)), (20, vI y4.1), (26, .d (.map q2.2)), (28, vI x5.Unit)] (by kernel_rfl) ?_
        obtain ⟨q6, hq, h⟩ := bind_inv h
        refine OWk.on 129 y4.2 (d := some 29) [4, 5, 6, 7, 18, 19, 20, 29] [(4, .d (.map q2.2)), (5, .d (.map q3.2)), (6, vI y4.1), (7, .box [vI x5.Kind, vI x5.Unit, vS x5.Key, vB x5.Has, vS x5.Text]), (18, .d (.list 5 (List.map encNote p0))), (19, vI (p0.length : Int)), (20, vI y4.1), (29, .tup [.d (cP.enc (q6.getD none)), vB q6.isSome])] (BAt.look (kc := (kI .i64)) (v := cP) (ok := true) (mm := (some q2.2)) (key := x5.Unit) (z := none) hq (by kernel_rfl)) (by kernel_rfl) <| OWk.sg 129 y4.2 [] [4, 5, 6, 7, 8, 9, 18, 19, 20] 5 [(4, .d (.map q2.2)), (5, .d (.map q3.2)), (6, vI y4.1), (7, .box [vI x5.Kind, vI x5.Unit, vS x5.Key, vB x5.Has, vS x5.Text]), (8, .d (cP.enc (q6.getD none))), (9, vB q6.isSome), (18, .d (.list 5 (List.map encNote p0))), (19, vI (p0.length : Int)), (20, vI y4.1)] (by kernel_rfl) <| OWk.done (by kernel_rfl) <| thenS_n <| SW.seq <| SW.seq <| SW.regionK <| OWk.sg 129 y4.2 [] [4, 5, 6, 7, 8, 9, 18, 19, 20, 35] 4 [(4, .d (.map q2.2)), (5, .d (.map q3.2)), (6, vI y4.1), (7, .box [vI x5.Kind, vI x5.Unit, vS x5.Key, vB x5.Has, vS x5.Text]), (8, .d (cP.enc (q6.getD none))), (9, vB q6.isSome), (18, .d (.list 5 (List.map encNote p0))), (19, vI (p0.length : Int)), (20, vI y4.1), (35, vB (x5.Kind != 6))] (by kernel_rfl) <| OWk.mg 129 y4.2 [4, 5, 6, 7, 8, 18, 19, 20, 41] 6 (x5.Kind != 6) (fun b => (sp 129 [(4, .d (.map q2.2)), (5, .d (.map q3.2)), (6, vI y4.1), (7, .box [vI x5.Kind, vI x5.Unit, vS x5.Key, vB x5.Has, vS x5.Text]), (8, .d (cP.enc (q6.getD none))), (9, vB q6.isSome), (18, .d (.list 5 (List.map encNote p0))), (19, vI (p0.length : Int)), (20, vI y4.1), (35, vB b)] y4.2)) (fun b => [(4, .d (.map q2.2)), (5, .d (.map q3.2)), (6, vI y4.1), (7, .box [vI x5.Kind, vI x5.Unit, vS x5.Key, vB x5.Has, vS x5.Text]), (8, .d (cP.enc (q6.getD none))), (18, .d (.list 5 (List.map encNote p0))), (19, vI (p0.length : Int)), (20, vI y4.1), (41, vB (b && (q6.isSome == (x5.Kind == 1))))]) (by kernel_rfl) (by kernel_rfl) (by kernel_rfl) <| OWk.done (by kernel_rfl) <| thenS_n ?_
        refine SW.condB (b := ((x5.Kind != 6) && (q6.isSome == (x5.Kind == 1)))) (by kernel_rfl) (fun hc => ?_) (fun hc => ?_)
        · replace h := bif_t hc h
          refine SW.seq <| SW.regionK <| OWk.sg 129 y4.2 [] [2, 3] 3 [(2, vI y4.1), (3, vI 9)] (by kernel_rfl) <| OWk.done (by kernel_rfl) <| thenS_n <| SW.ret <| thenS_r <| blockS_r <| thenS_r ?_
          cases h
          refine thenS_r ?_
          exact ⟨_, rfl, .inr (⟨(y4.1, 9), rfl, rfl, EndL.ret [] (by kernel_rfl)⟩)⟩
        · replace h := bif_f hc h
          refine SW.skip <| thenS_n <| SW.seq <| SW.regionK <| OWk.sg 129 y4.2 [] [4, 5, 6, 7, 8, 18, 19, 20, 44] 2 [(4, .d (.map q2.2)), (5, .d (.map q3.2)), (6, vI y4.1), (7, .box [vI x5.Kind, vI x5.Unit, vS x5.Key, vB x5.Has, vS x5.Text]), (8, .d (cP.enc (q6.getD none))), (18, .d (.list 5 (List.map encNote p0))), (19, vI (p0.length : Int)), (20, vI y4.1), (44, vI x5.Kind)] (by kernel_rfl) <| OWk.done (by kernel_rfl) <| thenS_n <| SW.block <| SW.seq <| SW.regionK <| OWk.sg 129 y4.2 [] [4, 5, 6, 7, 8, 18, 19, 20, 44, 45] 2 [(4, .d (.map q2.2)), (5, .d (.map q3.2)), (6, vI y4.1), (7, .box [vI x5.Kind, vI x5.Unit, vS x5.Key, vB x5.Has, vS x5.Text]), (8, .d (cP.enc (q6.getD none))), (18, .d (.list 5 (List.map encNote p0))), (19, vI (p0.length : Int)), (20, vI y4.1), (44, vI x5.Kind), (45, vB (x5.Kind == 1))] (by kernel_rfl) <| OWk.done (by kernel_rfl) <| thenS_n ?_
          refine SW.condB (b := (x5.Kind == 1)) (by kernel_rfl) (fun hc => ?_) (fun hc => ?_)
          · replace h := bif_t hc h
            refine SW.regionK <| OWk.sg 129 y4.2 [] [4, 5, 18, 19, 20, 47, 49, 50] 4 [(4, .d (.map q2.2)), (5, .d (.map q3.2)), (18, .d (.list 5 (List.map encNote p0))), (19, vI (p0.length : Int)), (20, vI y4.1), (47, .d (.map q2.2)), (49, vI x5.Unit), (50, vI y4.1)] (by kernel_rfl) ?_
            obtain ⟨q7, hq, h⟩ := bind_inv h
            refine OWk.hnew 129 q7.1 (d := some 51) (b := true) [] [4, 5, 18, 19, 20, 47, 49, 50, 51] [(4, .d (.map q2.2)), (5, .d (.map q3.2)), (18, .d (.list 5 (List.map encNote p0))), (19, vI (p0.length : Int)), (20, vI y4.1), (47, .d (.map q2.2)), (49, vI x5.Unit), (50, vI y4.1), (51, .d (.map q7.2))] hq (by kernel_rfl) rfl (by kernel_rfl) <| OWk.sg 129 q7.1 [] [4, 5, 18, 19, 20, 47, 49, 52] 1 [(4, .d (.map q2.2)), (5, .d (.map q3.2)), (18, .d (.list 5 (List.map encNote p0))), (19, vI (p0.length : Int)), (20, vI y4.1), (47, .d (.map q2.2)), (49, vI x5.Unit), (52, .d (.agg [.int .i64 y4.1, .map q7.2]))] (by kernel_rfl) ?_
            obtain ⟨q8, hq, h⟩ := bind_inv h
            refine OWk.hnew 129 q8.1 (d := some 53) (b := false) [] [4, 5, 18, 19, 20, 47, 49, 53] [(4, .d (.map q2.2)), (5, .d (.map q3.2)), (18, .d (.list 5 (List.map encNote p0))), (19, vI (p0.length : Int)), (20, vI y4.1), (47, .d (.map q2.2)), (49, vI x5.Unit), (53, .d (.ptr q8.2 0))] hq (by kernel_rfl) rfl (by kernel_rfl) ?_
            obtain ⟨H9, hx, h⟩ := bind_inv h
            refine OWk.mput 129 H9 (kc := (kI .i64)) (v := cP) (mm := (some q2.2)) (key := x5.Unit) (y := (some q8.2)) [4, 5, 18, 19, 20] [(4, .d (.map q2.2)), (5, .d (.map q3.2)), (18, .d (.list 5 (List.map encNote p0))), (19, vI (p0.length : Int)), (20, vI y4.1)] hx (by kernel_rfl) (by kernel_rfl) <| OWk.done (by kernel_rfl) <| blockS_n <| blockS_n <| thenS_n <| SW.regionK <| OWk.sg 129 H9 [] [4, 5, 18, 19, 20] 2 [(4, .d (.map q2.2)), (5, .d (.map q3.2)), (18, .d (.list 5 (List.map encNote p0))), (19, vI (p0.length : Int)), (20, vI (IntKind.wrap .i64 (y4.1 + 1)))] (by kernel_rfl) <| OWk.done (by kernel_rfl) ?_
            cases h
            exact ⟨((IntKind.wrap .i64 (y4.1 + 1)), H9), rfl, by kernel_rfl⟩
          · replace h := bif_f hc h
            obtain ⟨jp11, hjjp11, h⟩ := letJ_inv h
            refine SW.jn 129 y4.2 [4, 5, 6, 7, 8, 18, 19, 20, 44, 54] (fun (j10 : Bool) => [(4, .d (.map q2.2)), (5, .d (.map q3.2)), (6, vI y4.1), (7, .box [vI x5.Kind, vI x5.Unit, vS x5.Key, vB x5.Has, vS x5.Text]), (8, .d (cP.enc (q6.getD none))), (18, .d (.list 5 (List.map encNote p0))), (19, vI (p0.length : Int)), (20, vI y4.1), (44, vI x5.Kind), (54, vB j10)]) (fun v => jp11 v = some o) (fun j10 h => ?_) ?_
            · rw [hjjp11] at h
              refine SW.condB (b := j10) (by kernel_rfl) (fun hc => ?_) (fun hc => ?_)
              · replace h := bif_t hc h
                obtain ⟨jp13, hjjp13, h⟩ := letJ_inv h
                refine SW.jn 129 y4.2 [4, 5, 6, 7, 8, 18, 19, 20] (fun (j12 : Unit) => [(4, .d (.map q2.2)), (5, .d (.map q3.2)), (6, vI y4.1), (7, .box [vI x5.Kind, vI x5.Unit, vS x5.Key, vB x5.Has, vS x5.Text]), (8, .d (cP.enc (q6.getD none))), (18, .d (.list 5 (List.map encNote p0))), (19, vI (p0.length : Int)), (20, vI y4.1)]) (fun v => jp13 v = some o) (fun j12 h => ?_) ?_
                · rw [hjjp13] at h
                  refine SW.seq <| SW.seq <| SW.regionK <| OWk.sg 129 y4.2 [] [4, 5, 6, 7, 8, 18, 19, 20, 72, 74] 3 [(4, .d (.map q2.2)), (5, .d (.map q3.2)), (6, vI y4.1), (7, .box [vI x5.Kind, vI x5.Unit, vS x5.Key, vB x5.Has, vS x5.Text]), (8, .d (cP.enc (q6.getD none))), (18, .d (.list 5 (List.map encNote p0))), (19, vI (p0.length : Int)), (20, vI y4.1), (72, .d (.map q3.2)), (74, vS x5.Key)] (by kernel_rfl) ?_
                  obtain ⟨q17, hq, h⟩ := bind_inv h
                  refine OWk.on 129 y4.2 (d := some 75) [4, 5, 6, 7, 8, 18, 19, 20, 75] [(4, .d (.map q2.2)), (5, .d (.map q3.2)), (6, vI y4.1), (7, .box [vI x5.Kind, vI x5.Unit, vS x5.Key, vB x5.Has, vS x5.Text]), (8, .d (cP.enc (q6.getD none))), (18, .d (.list 5 (List.map encNote p0))), (19, vI (p0.length : Int)), (20, vI y4.1), (75, .tup [vI (q17.getD 0), vB q17.isSome])] (BAt.look (kc := kS) (v := (cI .i64)) (ok := true) (mm := (some q3.2)) (key := x5.Key) (z := 0) hq (by kernel_rfl)) (by kernel_rfl) <| OWk.sg 129 y4.2 [] [4, 5, 6, 7, 8, 10, 11, 18, 19, 20] 5 [(4, .d (.map q2.2)), (5, .d (.map q3.2)), (6, vI y4.1), (7, .box [vI x5.Kind, vI x5.Unit, vS x5.Key, vB x5.Has, vS x5.Text]), (8, .d (cP.enc (q6.getD none))), (10, vI (q17.getD 0)), (11, vB q17.isSome), (18, .d (.list 5 (List.map encNote p0))), (19, vI (p0.length : Int)), (20, vI y4.1)] (by kernel_rfl) <| OWk.done (by kernel_rfl) <| thenS_n <| SW.seq <| SW.regionK <| OWk.sg 129 y4.2 [] [4, 5, 6, 7, 8, 10, 18, 19, 20, 79] 2 [(4, .d (.map q2.2)), (5, .d (.map q3.2)), (6, vI y4.1), (7, .box [vI x5.Kind, vI x5.Unit, vS x5.Key, vB x5.Has, vS x5.Text]), (8, .d (cP.enc (q6.getD none))), (10, vI (q17.getD 0)), (18, .d (.list 5 (List.map encNote p0))), (19, vI (p0.length : Int)), (20, vI y4.1), (79, vB q17.isSome)] (by kernel_rfl) <| OWk.mg 129 y4.2 [4, 5, 6, 7, 8, 18, 19, 20, 84] 5 q17.isSome (fun b => (sp 129 [(4, .d (.map q2.2)), (5, .d (.map q3.2)), (6, vI y4.1), (7, .box [vI x5.Kind, vI x5.Unit, vS x5.Key, vB x5.Has, vS x5.Text]), (8, .d (cP.enc (q6.getD none))), (10, vI (q17.getD 0)), (18, .d (.list 5 (List.map encNote p0))), (19, vI (p0.length : Int)), (20, vI y4.1), (79, vB b)] y4.2)) (fun b => [(4, .d (.map q2.2)), (5, .d (.map q3.2)), (6, vI y4.1), (7, .box [vI x5.Kind, vI x5.Unit, vS x5.Key, vB x5.Has, vS x5.Text]), (8, .d (cP.enc (q6.getD none))), (18, .d (.list 5 (List.map encNote p0))), (19, vI (p0.length : Int)), (20, vI y4.1), (84, vB (b && ((q17.getD 0) != x5.Unit)))]) (by kernel_rfl) (by kernel_rfl) (by kernel_rfl) <| OWk.done (by kernel_rfl) <| thenS_n ?_
                  refine SW.condB (b := (q17.isSome && ((q17.getD 0) != x5.Unit))) (by kernel_rfl) (fun hc => ?_) (fun hc => ?_)
                  · replace h := bif_t hc h
                    refine SW.seq <| SW.regionK <| OWk.sg 129 y4.2 [] [2, 3] 3 [(2, vI y4.1), (3, vI 6)] (by kernel_rfl) <| OWk.done (by kernel_rfl) <| thenS_n <| SW.ret <| thenS_r <| blockS_r <| blockS_r <| thenS_r ?_
                    cases h
                    refine thenS_r ?_
                    exact ⟨_, rfl, .inr (⟨(y4.1, 6), rfl, rfl, EndL.ret [] (by kernel_rfl)⟩)⟩
                  · replace h := bif_f hc h
                    refine SW.skip <| thenS_n <| SW.regionS 129 7 [6, 7, 8, 9, 10] [0, 1, 2, 3, 4, 5] 11 [12, 13, 14] 11 (by kernel_rfl) (by kernel_rfl) (by kernel_rfl) (by kernel_rfl) <| OBk.sg 129 y4.2 [] [4, 5, 7, 18, 19, 20, 86, 92, 94, 96] 6 [(4, .d (.map q2.2)), (5, .d (.map q3.2)), (7, .box [vI x5.Kind, vI x5.Unit, vS x5.Key, vB x5.Has, vS x5.Text]), (18, .d (.list 5 (List.map encNote p0))), (19, vI (p0.length : Int)), (20, vI y4.1), (86, .d (cP.enc (q6.getD none))), (92, .d (.map q3.2)), (94, vS x5.Key), (96, vI x5.Unit)] (by kernel_rfl) (by kernel_rfl) ?_
                    obtain ⟨i18, hp, h⟩ := bind_inv h
                    refine OBk.on 129 y4.2 (d := some 87) (s := .d (.ptr i18 0)) [4, 5, 7, 18, 19, 20, 87, 92, 94, 96] [(4, .d (.map q2.2)), (5, .d (.map q3.2)), (7, .box [vI x5.Kind, vI x5.Unit, vS x5.Key, vB x5.Has, vS x5.Text]), (18, .d (.list 5 (List.map encNote p0))), (19, vI (p0.length : Int)), (20, vI y4.1), (87, .d (.ptr i18 0)), (92, .d (.map q3.2)), (94, vS x5.Key), (96, vI x5.Unit)] (by kernel_rfl) (BAt.nilc (p := (q6.getD none)) hp (by kernel_rfl)) (by kernel_rfl) <| OBk.sg 129 y4.2 [] [4, 5, 7, 18, 19, 20, 88, 92, 94, 96] 1 [(4, .d (.map q2.2)), (5, .d (.map q3.2)), (7, .box [vI x5.Kind, vI x5.Unit, vS x5.Key, vB x5.Has, vS x5.Text]), (18, .d (.list 5 (List.map encNote p0))), (19, vI (p0.length : Int)), (20, vI y4.1), (88, .d (.ptr i18 1)), (92, .d (.map q3.2)), (94, vS x5.Key), (96, vI x5.Unit)] (by kernel_rfl) (by kernel_rfl) ?_
                    obtain ⟨x19, hx, h⟩ := bind_inv h
                    refine OBk.on 129 y4.2 (d := some 89) (s := .d (cM.enc x19)) [4, 5, 7, 18, 19, 20, 89, 92, 94, 96] [(4, .d (.map q2.2)), (5, .d (.map q3.2)), (7, .box [vI x5.Kind, vI x5.Unit, vS x5.Key, vB x5.Has, vS x5.Text]), (18, .d (.list 5 (List.map encNote p0))), (19, vI (p0.length : Int)), (20, vI y4.1), (89, .d (cM.enc x19)), (92, .d (.map q3.2)), (94, vS x5.Key), (96, vI x5.Unit)] (by kernel_rfl) (BAt.ldH (c := cM.cell) hx (by kernel_rfl)) (by kernel_rfl) <| OBk.sg 129 y4.2 [] [4, 5, 18, 19, 20, 89, 91, 92, 94, 96] 2 [(4, .d (.map q2.2)), (5, .d (.map q3.2)), (18, .d (.list 5 (List.map encNote p0))), (19, vI (p0.length : Int)), (20, vI y4.1), (89, .d (cM.enc x19)), (91, vS x5.Key), (92, .d (.map q3.2)), (94, vS x5.Key), (96, vI x5.Unit)] (by kernel_rfl) (by kernel_rfl) <| OBk.done (by kernel_rfl) ?_
                    obtain ⟨H20, hx, h⟩ := bind_inv h
                    refine OWk.ment 129 H20 (kc := kS) (v := cB) (mm := x19) (key := x5.Key) (y := true) (z := false) (d1 := 97) (d2 := 98) [4, 5, 18, 19, 20, 92, 94, 96] [(4, .d (.map q2.2)), (5, .d (.map q3.2)), (18, .d (.list 5 (List.map encNote p0))), (19, vI (p0.length : Int)), (20, vI y4.1), (92, .d (.map q3.2)), (94, vS x5.Key), (96, vI x5.Unit)] hx (by kernel_rfl) (by kernel_rfl) ?_
                    obtain ⟨H21, hx, h⟩ := bind_inv h
                    refine OWk.mput 129 H21 (kc := kS) (v := (cI .i64)) (mm := (some q3.2)) (key := x5.Key) (y := x5.Unit) [4, 5, 18, 19, 20] [(4, .d (.map q2.2)), (5, .d (.map q3.2)), (18, .d (.list 5 (List.map encNote p0))), (19, vI (p0.length : Int)), (20, vI y4.1)] hx (by kernel_rfl) (by kernel_rfl) <| OWk.done (by kernel_rfl) <| blockS_n <| blockS_n <| thenS_n <| SW.regionK <| OWk.sg 129 H21 [] [4, 5, 18, 19, 20] 2 [(4, .d (.map q2.2)), (5, .d (.map q3.2)), (18, .d (.list 5 (List.map encNote p0))), (19, vI (p0.length : Int)), (20, vI (IntKind.wrap .i64 (y4.1 + 1)))] (by kernel_rfl) <| OWk.done (by kernel_rfl) ?_
                    cases h
                    exact ⟨((IntKind.wrap .i64 (y4.1 + 1)), H21), rfl, by kernel_rfl⟩
                · refine SW.seq <| SW.regionDk (by kernel_rfl) (by kernel_rfl) <| OBk.sg 129 y4.2 [] [4, 5, 6, 7, 8, 18, 19, 20, 60] 4 [(4, .d (.map q2.2)), (5, .d (.map q3.2)), (6, vI y4.1), (7, .box [vI x5.Kind, vI x5.Unit, vS x5.Key, vB x5.Has, vS x5.Text]), (8, .d (cP.enc (q6.getD none))), (18, .d (.list 5 (List.map encNote p0))), (19, vI (p0.length : Int)), (20, vI y4.1), (60, vB (x5.Kind == 3))] (by kernel_rfl) (by kernel_rfl) ?_
                  refine OBk.case (x5.Kind == 3) (fun b => (sp 129 [(4, .d (.map q2.2)), (5, .d (.map q3.2)), (6, vI y4.1), (7, .box [vI x5.Kind, vI x5.Unit, vS x5.Key, vB x5.Has, vS x5.Text]), (8, .d (cP.enc (q6.getD none))), (18, .d (.list 5 (List.map encNote p0))), (19, vI (p0.length : Int)), (20, vI y4.1), (60, vB b)] y4.2)) (by kernel_rfl) (fun hc => ?_) (fun hc => ?_)
                  · replace h := bif_t hc h
                    refine OBk.sg 129 y4.2 [] [4, 5, 6, 7, 8, 18, 19, 20, 60, 61] 1 [(4, .d (.map q2.2)), (5, .d (.map q3.2)), (6, vI y4.1), (7, .box [vI x5.Kind, vI x5.Unit, vS x5.Key, vB x5.Has, vS x5.Text]), (8, .d (cP.enc (q6.getD none))), (18, .d (.list 5 (List.map encNote p0))), (19, vI (p0.length : Int)), (20, vI y4.1), (60, vB true), (61, .d (cP.enc (q6.getD none)))] (by kernel_rfl) (by kernel_rfl) ?_
                    obtain ⟨i14, hp, h⟩ := bind_inv h
                    refine OBk.on 129 y4.2 (d := some 62) (s := .d (.ptr i14 0)) [4, 5, 6, 7, 8, 18, 19, 20, 60, 62] [(4, .d (.map q2.2)), (5, .d (.map q3.2)), (6, vI y4.1), (7, .box [vI x5.Kind, vI x5.Unit, vS x5.Key, vB x5.Has, vS x5.Text]), (8, .d (cP.enc (q6.getD none))), (18, .d (.list 5 (List.map encNote p0))), (19, vI (p0.length : Int)), (20, vI y4.1), (60, vB true), (62, .d (.ptr i14 0))] (by kernel_rfl) (BAt.nilc (p := (q6.getD none)) hp (by kernel_rfl)) (by kernel_rfl) <| OBk.sg 129 y4.2 [] [4, 5, 6, 7, 8, 18, 19, 20, 60, 63] 1 [(4, .d (.map q2.2)), (5, .d (.map q3.2)), (6, vI y4.1), (7, .box [vI x5.Kind, vI x5.Unit, vS x5.Key, vB x5.Has, vS x5.Text]), (8, .d (cP.enc (q6.getD none))), (18, .d (.list 5 (List.map encNote p0))), (19, vI (p0.length : Int)), (20, vI y4.1), (60, vB true), (63, .d (.ptr i14 1))] (by kernel_rfl) (by kernel_rfl) ?_
                    obtain ⟨x15, hx, h⟩ := bind_inv h
                    refine OBk.on 129 y4.2 (d := some 64) (s := .d (cM.enc x15)) [4, 5, 6, 7, 8, 18, 19, 20, 60, 64] [(4, .d (.map q2.2)), (5, .d (.map q3.2)), (6, vI y4.1), (7, .box [vI x5.Kind, vI x5.Unit, vS x5.Key, vB x5.Has, vS x5.Text]), (8, .d (cP.enc (q6.getD none))), (18, .d (.list 5 (List.map encNote p0))), (19, vI (p0.length : Int)), (20, vI y4.1), (60, vB true), (64, .d (cM.enc x15))] (by kernel_rfl) (BAt.ldH (c := cM.cell) hx (by kernel_rfl)) (by kernel_rfl) <| OBk.sg 129 y4.2 [] [4, 5, 6, 7, 8, 18, 19, 20, 60, 64, 66] 2 [(4, .d (.map q2.2)), (5, .d (.map q3.2)), (6, vI y4.1), (7, .box [vI x5.Kind, vI x5.Unit, vS x5.Key, vB x5.Has, vS x5.Text]), (8, .d (cP.enc (q6.getD none))), (18, .d (.list 5 (List.map encNote p0))), (19, vI (p0.length : Int)), (20, vI y4.1), (60, vB true), (64, .d (cM.enc x15)), (66, vS x5.Key)] (by kernel_rfl) (by kernel_rfl) ?_
                    obtain ⟨q16, hq, h⟩ := bind_inv h
                    refine OBk.on 129 y4.2 (d := some 67) [4, 5, 6, 7, 8, 18, 19, 20, 60, 67] [(4, .d (.map q2.2)), (5, .d (.map q3.2)), (6, vI y4.1), (7, .box [vI x5.Kind, vI x5.Unit, vS x5.Key, vB x5.Has, vS x5.Text]), (8, .d (cP.enc (q6.getD none))), (18, .d (.list 5 (List.map encNote p0))), (19, vI (p0.length : Int)), (20, vI y4.1), (60, vB true), (67, vB (q16.getD false))] (by kernel_rfl) (BAt.look (kc := kS) (v := cB) (ok := false) (mm := x15) (key := x5.Key) (z := false) hq (by kernel_rfl)) (by kernel_rfl) <| OBk.sg 129 y4.2 [] [4, 5, 6, 7, 8, 18, 19, 20, 69] 2 [(4, .d (.map q2.2)), (5, .d (.map q3.2)), (6, vI y4.1), (7, .box [vI x5.Kind, vI x5.Unit, vS x5.Key, vB x5.Has, vS x5.Text]), (8, .d (cP.enc (q6.getD none))), (18, .d (.list 5 (List.map encNote p0))), (19, vI (p0.length : Int)), (20, vI y4.1), (69, vB (!(q16.getD false)))] (by kernel_rfl) (by kernel_rfl) <| OBk.done (by kernel_rfl) <| thenS_n ?_
                    refine SW.condB (b := (!(q16.getD false))) (by kernel_rfl) (fun hc => ?_) (fun hc => ?_)
                    · replace h := bif_t hc h
                      refine SW.seq <| SW.regionK <| OWk.sg 129 y4.2 [] [2, 3] 3 [(2, vI y4.1), (3, vI 8)] (by kernel_rfl) <| OWk.done (by kernel_rfl) <| thenS_n <| SW.ret <| thenS_r <| blockS_r <| blockS_r <| thenS_r ?_
                      cases h
                      refine thenS_r ?_
                      exact ⟨_, rfl, .inr (⟨(y4.1, 8), rfl, rfl, EndL.ret [] (by kernel_rfl)⟩)⟩
                    · replace h := bif_f hc h
                      refine SW.skip ?_
                      exact ⟨(), [], by kernel_rfl, h⟩
                  · replace h := bif_f hc h
                    refine OBk.sg 129 y4.2 [] [4, 5, 6, 7, 8, 18, 19, 20, 69] 9 [(4, .d (.map q2.2)), (5, .d (.map q3.2)), (6, vI y4.1), (7, .box [vI x5.Kind, vI x5.Unit, vS x5.Key, vB x5.Has, vS x5.Text]), (8, .d (cP.enc (q6.getD none))), (18, .d (.list 5 (List.map encNote p0))), (19, vI (p0.length : Int)), (20, vI y4.1), (69, vB false)] (by kernel_rfl) (by kernel_rfl) <| OBk.done (by kernel_rfl) <| thenS_n <| SW.condF (by kernel_rfl) <| SW.skip ?_
                    exact ⟨(), [], by kernel_rfl, h⟩
              · replace h := bif_f hc h
                obtain ⟨jp23, hjjp23, h⟩ := letJ_inv h
                refine SW.jn 129 y4.2 [4, 5, 6, 7, 8, 18, 19, 20, 99] (fun (j22 : Bool) => [(4, .d (.map q2.2)), (5, .d (.map q3.2)), (6, vI y4.1), (7, .box [vI x5.Kind, vI x5.Unit, vS x5.Key, vB x5.Has, vS x5.Text]), (8, .d (cP.enc (q6.getD none))), (18, .d (.list 5 (List.map encNote p0))), (19, vI (p0.length : Int)), (20, vI y4.1), (99, vB j22)]) (fun v => jp23 v = some o) (fun j22 h => ?_) ?_
                · rw [hjjp23] at h
                  refine SW.condB (b := j22) (by kernel_rfl) (fun hc => ?_) (fun hc => ?_)
                  · replace h := bif_t hc h
                    refine SW.seq <| SW.seq <| SW.regionK <| OWk.sg 129 y4.2 [] [4, 5, 6, 7, 8, 18, 19, 20, 103] 1 [(4, .d (.map q2.2)), (5, .d (.map q3.2)), (6, vI y4.1), (7, .box [vI x5.Kind, vI x5.Unit, vS x5.Key, vB x5.Has, vS x5.Text]), (8, .d (cP.enc (q6.getD none))), (18, .d (.list 5 (List.map encNote p0))), (19, vI (p0.length : Int)), (20, vI y4.1), (103, .d (cP.enc (q6.getD none)))] (by kernel_rfl) ?_
                    obtain ⟨i24, hp, h⟩ := bind_inv h
                    refine OWk.on 129 y4.2 (d := some 104) (s := .d (.ptr i24 0)) [4, 5, 6, 7, 8, 18, 19, 20, 104] [(4, .d (.map q2.2)), (5, .d (.map q3.2)), (6, vI y4.1), (7, .box [vI x5.Kind, vI x5.Unit, vS x5.Key, vB x5.Has, vS x5.Text]), (8, .d (cP.enc (q6.getD none))), (18, .d (.list 5 (List.map encNote p0))), (19, vI (p0.length : Int)), (20, vI y4.1), (104, .d (.ptr i24 0))] (BAt.nilc (p := (q6.getD none)) hp (by kernel_rfl)) (by kernel_rfl) <| OWk.sg 129 y4.2 [] [4, 5, 6, 7, 8, 18, 19, 20, 105] 1 [(4, .d (.map q2.2)), (5, .d (.map q3.2)), (6, vI y4.1), (7, .box [vI x5.Kind, vI x5.Unit, vS x5.Key, vB x5.Has, vS x5.Text]), (8, .d (cP.enc (q6.getD none))), (18, .d (.list 5 (List.map encNote p0))), (19, vI (p0.length : Int)), (20, vI y4.1), (105, .d (.ptr i24 1))] (by kernel_rfl) ?_
                    obtain ⟨x25, hx, h⟩ := bind_inv h
                    refine OWk.on 129 y4.2 (d := some 106) (s := .d (cM.enc x25)) [4, 5, 6, 7, 8, 18, 19, 20, 106] [(4, .d (.map q2.2)), (5, .d (.map q3.2)), (6, vI y4.1), (7, .box [vI x5.Kind, vI x5.Unit, vS x5.Key, vB x5.Has, vS x5.Text]), (8, .d (cP.enc (q6.getD none))), (18, .d (.list 5 (List.map encNote p0))), (19, vI (p0.length : Int)), (20, vI y4.1), (106, .d (cM.enc x25))] (BAt.ldH (c := cM.cell) hx (by kernel_rfl)) (by kernel_rfl) ?_
                    obtain ⟨q26, hrq, h⟩ := bind_inv h
                    refine OWk.mrange 129 (mm := x25) (d := some 107) hrq (by kernel_rfl) [4, 5, 6, 7, 8, 18, 19, 20, 107] [(4, .d (.map q2.2)), (5, .d (.map q3.2)), (6, vI y4.1), (7, .box [vI x5.Kind, vI x5.Unit, vS x5.Key, vB x5.Has, vS x5.Text]), (8, .d (cP.enc (q6.getD none))), (18, .d (.list 5 (List.map encNote p0))), (19, vI (p0.length : Int)), (20, vI y4.1), (107, .d (.ptr q26.it 0))] (fun H1 => by kernel_rfl) (fun kbq26 clq26 msq26 => ?_)
                    refine OWk.done (by kernel_rfl) <| thenS_n <| SW.block ?_
                    have hit := fun p (hp : p.Perm q26.es) => bind_inv (allP_inv h p hp)
                    refine SW.rng 129 (B := 3) (B2 := 4) (q := q26) (kc := kS) (v := cB) (kb := kbq26) (clock := clq26) (ms := msq26) [4, 5, 6, 7, 8, 18, 19, 20, 107] (fun (y27 : Hp) => [(4, .d (.map q2.2)), (5, .d (.map q3.2)), (6, vI y4.1), (7, .box [vI x5.Kind, vI x5.Unit, vS x5.Key, vB x5.Has, vS x5.Text]), (8, .d (cP.enc (q6.getD none))), (18, .d (.list 5 (List.map encNote p0))), (19, vI (p0.length : Int)), (20, vI y4.1), (107, .d (.ptr q26.it 0))]) (fun (y27 : Hp) => y27) (j_Wrong_l1 fuel q3 q26) q26.H _ (fun b e s => False) hrq hit (by kernel_rfl) rfl rfl rfl rfl rfl rfl rfl rfl rfl rfl rfl (fun _ => by kernel_rfl) (fun _ => by kernel_rfl) (fun y27 e28 o hho h => ?_) (fun y30 hC => ?_) ?_
                    · unfold j_Wrong_l1 at h
                      refine OWk.sg 129 y27 [] [4, 5, 6, 7, 8, 12, 18, 19, 20, 107] 2 [(4, .d (.map q2.2)), (5, .d (.map q3.2)), (6, vI y4.1), (7, .box [vI x5.Kind, vI x5.Unit, vS x5.Key, vB x5.Has, vS x5.Text]), (8, .d (cP.enc (q6.getD none))), (12, vS e28.1), (18, .d (.list 5 (List.map encNote p0))), (19, vI (p0.length : Int)), (20, vI y4.1), (107, .d (.ptr q26.it 0))] (by kernel_rfl) <| OWk.done (by kernel_rfl) <| thenS_n <| SW.regionK <| OWk.sg 129 y27 [] [4, 5, 6, 7, 8, 18, 19, 20, 107, 112, 113] 2 [(4, .d (.map q2.2)), (5, .d (.map q3.2)), (6, vI y4.1), (7, .box [vI x5.Kind, vI x5.Unit, vS x5.Key, vB x5.Has, vS x5.Text]), (8, .d (cP.enc (q6.getD none))), (18, .d (.list 5 (List.map encNote p0))), (19, vI (p0.length : Int)), (20, vI y4.1), (107, .d (.ptr q26.it 0)), (112, .d (.map q3.2)), (113, vS e28.1)] (by kernel_rfl) ?_
                      obtain ⟨H29, hx, h⟩ := bind_inv h
                      refine OWk.mdel 129 H29 (kc := kS) (v := (cI .i64)) (mm := (some q3.2)) (key := e28.1) (d := none) [4, 5, 6, 7, 8, 18, 19, 20, 107] [(4, .d (.map q2.2)), (5, .d (.map q3.2)), (6, vI y4.1), (7, .box [vI x5.Kind, vI x5.Unit, vS x5.Key, vB x5.Has, vS x5.Text]), (8, .d (cP.enc (q6.getD none))), (18, .d (.list 5 (List.map encNote p0))), (19, vI (p0.length : Int)), (20, vI y4.1), (107, .d (.ptr q26.it 0))] hx (by kernel_rfl) (by kernel_rfl) <| OWk.done (by kernel_rfl) <| blockS_n ?_
                      obtain ⟨hho, h⟩ := chk_inv h
                      cases h
                      exact ⟨H29, rfl, hho, by kernel_rfl⟩
                    · replace hC := sum_l hC
                      obtain ⟨H31, hb, h⟩ := bind_inv hC
                      refine ⟨H31, hb, ?_⟩
                      refine blockS_hit <| thenS_n <| SW.seq <| SW.regionK <| OWk.sg 129 H31 [] [4, 5, 7, 18, 19, 20, 114, 115, 116] 3 [(4, .d (.map q2.2)), (5, .d (.map q3.2)), (7, .box [vI x5.Kind, vI x5.Unit, vS x5.Key, vB x5.Has, vS x5.Text]), (18, .d (.list 5 (List.map encNote p0))), (19, vI (p0.length : Int)), (20, vI y4.1), (114, .d (cP.enc (q6.getD none))), (115, .d (cP.enc (q6.getD none))), (116, vI y4.1)] (by kernel_rfl) ?_
                      obtain ⟨q32, hq, h⟩ := bind_inv h
                      refine OWk.hnew 129 q32.1 (d := some 117) (b := true) [] [4, 5, 7, 18, 19, 20, 114, 115, 116, 117] [(4, .d (.map q2.2)), (5, .d (.map q3.2)), (7, .box [vI x5.Kind, vI x5.Unit, vS x5.Key, vB x5.Has, vS x5.Text]), (18, .d (.list 5 (List.map encNote p0))), (19, vI (p0.length : Int)), (20, vI y4.1), (114, .d (cP.enc (q6.getD none))), (115, .d (cP.enc (q6.getD none))), (116, vI y4.1), (117, .d (.map q32.2))] hq (by kernel_rfl) rfl (by kernel_rfl) ?_
                      obtain ⟨i33, hp, h⟩ := bind_inv h
                      refine OWk.on 129 q32.1 (d := some 118) (s := .d (.ptr i33 0)) [4, 5, 7, 18, 19, 20, 115, 116, 117, 118] [(4, .d (.map q2.2)), (5, .d (.map q3.2)), (7, .box [vI x5.Kind, vI x5.Unit, vS x5.Key, vB x5.Has, vS x5.Text]), (18, .d (.list 5 (List.map encNote p0))), (19, vI (p0.length : Int)), (20, vI y4.1), (115, .d (cP.enc (q6.getD none))), (116, vI y4.1), (117, .d (.map q32.2)), (118, .d (.ptr i33 0))] (BAt.nilc (p := (q6.getD none)) hp (by kernel_rfl)) (by kernel_rfl) <| OWk.sg 129 q32.1 [] [4, 5, 7, 18, 19, 20, 115, 116, 117, 119] 1 [(4, .d (.map q2.2)), (5, .d (.map q3.2)), (7, .box [vI x5.Kind, vI x5.Unit, vS x5.Key, vB x5.Has, vS x5.Text]), (18, .d (.list 5 (List.map encNote p0))), (19, vI (p0.length : Int)), (20, vI y4.1), (115, .d (cP.enc (q6.getD none))), (116, vI y4.1), (117, .d (.map q32.2)), (119, .d (.ptr i33 0))] (by kernel_rfl) ?_
                      obtain ⟨H34, hx, h⟩ := bind_inv h
                      refine OWk.hst 129 H34 [4, 5, 7, 18, 19, 20, 115, 117] [(4, .d (.map q2.2)), (5, .d (.map q3.2)), (7, .box [vI x5.Kind, vI x5.Unit, vS x5.Key, vB x5.Has, vS x5.Text]), (18, .d (.list 5 (List.map encNote p0))), (19, vI (p0.length : Int)), (20, vI y4.1), (115, .d (cP.enc (q6.getD none))), (117, .d (.map q32.2))] hx (by kernel_rfl) (by kernel_rfl) ?_
                      obtain ⟨i35, hp, h⟩ := bind_inv h
                      refine OWk.on 129 H34 (d := some 120) (s := .d (.ptr i35 0)) [4, 5, 7, 18, 19, 20, 117, 120] [(4, .d (.map q2.2)), (5, .d (.map q3.2)), (7, .box [vI x5.Kind, vI x5.Unit, vS x5.Key, vB x5.Has, vS x5.Text]), (18, .d (.list 5 (List.map encNote p0))), (19, vI (p0.length : Int)), (20, vI y4.1), (117, .d (.map q32.2)), (120, .d (.ptr i35 0))] (BAt.nilc (p := (q6.getD none)) hp (by kernel_rfl)) (by kernel_rfl) <| OWk.sg 129 H34 [] [4, 5, 7, 18, 19, 20, 117, 121] 1 [(4, .d (.map q2.2)), (5, .d (.map q3.2)), (7, .box [vI x5.Kind, vI x5.Unit, vS x5.Key, vB x5.Has, vS x5.Text]), (18, .d (.list 5 (List.map encNote p0))), (19, vI (p0.length : Int)), (20, vI y4.1), (117, .d (.map q32.2)), (121, .d (.ptr i35 1))] (by kernel_rfl) ?_
                      obtain ⟨H36, hx, h⟩ := bind_inv h
                      refine OWk.hst 129 H36 [4, 5, 7, 18, 19, 20] [(4, .d (.map q2.2)), (5, .d (.map q3.2)), (7, .box [vI x5.Kind, vI x5.Unit, vS x5.Key, vB x5.Has, vS x5.Text]), (18, .d (.list 5 (List.map encNote p0))), (19, vI (p0.length : Int)), (20, vI y4.1)] hx (by kernel_rfl) (by kernel_rfl) <| OWk.done (by kernel_rfl) <| thenS_n <| SW.seq <| SW.regionK <| OWk.sg 129 H36 [] [4, 5, 7, 18, 19, 20, 124] 3 [(4, .d (.map q2.2)), (5, .d (.map q3.2)), (7, .box [vI x5.Kind, vI x5.Unit, vS x5.Key, vB x5.Has, vS x5.Text]), (18, .d (.list 5 (List.map encNote p0))), (19, vI (p0.length : Int)), (20, vI y4.1), (124, vB (x5.Kind != 4))] (by kernel_rfl) <| OWk.done (by kernel_rfl) <| thenS_n ?_
                      refine SW.condB (b := (x5.Kind != 4)) (by kernel_rfl) (fun hc => ?_) (fun hc => ?_)
                      · replace h := bif_t hc h
                        refine SW.regionK <| OWk.sg 129 H36 [] [4, 5, 18, 19, 20, 125, 127] 3 [(4, .d (.map q2.2)), (5, .d (.map q3.2)), (18, .d (.list 5 (List.map encNote p0))), (19, vI (p0.length : Int)), (20, vI y4.1), (125, .d (.map q2.2)), (127, vI x5.Unit)] (by kernel_rfl) ?_
                        obtain ⟨H37, hx, h⟩ := bind_inv h
                        refine OWk.mdel 129 H37 (kc := (kI .i64)) (v := cP) (mm := (some q2.2)) (key := x5.Unit) (d := none) [4, 5, 18, 19, 20] [(4, .d (.map q2.2)), (5, .d (.map q3.2)), (18, .d (.list 5 (List.map encNote p0))), (19, vI (p0.length : Int)), (20, vI y4.1)] hx (by kernel_rfl) (by kernel_rfl) <| OWk.done (by kernel_rfl) <| blockS_n <| blockS_n <| thenS_n <| SW.regionK <| OWk.sg 129 H37 [] [4, 5, 18, 19, 20] 2 [(4, .d (.map q2.2)), (5, .d (.map q3.2)), (18, .d (.list 5 (List.map encNote p0))), (19, vI (p0.length : Int)), (20, vI (IntKind.wrap .i64 (y4.1 + 1)))] (by kernel_rfl) <| OWk.done (by kernel_rfl) ?_
                        cases h
                        exact ⟨((IntKind.wrap .i64 (y4.1 + 1)), H37), rfl, by kernel_rfl⟩
                      · replace h := bif_f hc h
                        refine SW.skip <| blockS_n <| blockS_n <| thenS_n <| SW.regionK <| OWk.sg 129 H36 [] [4, 5, 18, 19, 20] 2 [(4, .d (.map q2.2)), (5, .d (.map q3.2)), (18, .d (.list 5 (List.map encNote p0))), (19, vI (p0.length : Int)), (20, vI (IntKind.wrap .i64 (y4.1 + 1)))] (by kernel_rfl) <| OWk.done (by kernel_rfl) ?_
                        cases h
                        exact ⟨((IntKind.wrap .i64 (y4.1 + 1)), H36), rfl, by kernel_rfl⟩
                    · exact fun b => b.elim
                  · replace h := bif_f hc h
                    refine SW.skip <| blockS_n <| blockS_n <| thenS_n <| SW.regionK <| OWk.sg 129 y4.2 [] [4, 5, 18, 19, 20] 2 [(4, .d (.map q2.2)), (5, .d (.map q3.2)), (18, .d (.list 5 (List.map encNote p0))), (19, vI (p0.length : Int)), (20, vI (IntKind.wrap .i64 (y4.1 + 1)))] (by kernel_rfl) <| OWk.done (by kernel_rfl) ?_
                    cases h
                    exact ⟨((IntKind.wrap .i64 (y4.1 + 1)), y4.2), rfl, by kernel_rfl⟩
                · refine SW.seq <| SW.regionK <| OWk.sg 129 y4.2 [] [4, 5, 6, 7, 8, 18, 19, 20, 44, 99] 2 [(4, .d (.map q2.2)), (5, .d (.map q3.2)), (6, vI y4.1), (7, .box [vI x5.Kind, vI x5.Unit, vS x5.Key, vB x5.Has, vS x5.Text]), (8, .d (cP.enc (q6.getD none))), (18, .d (.list 5 (List.map encNote p0))), (19, vI (p0.length : Int)), (20, vI y4.1), (44, vI x5.Kind), (99, vB (x5.Kind == 4))] (by kernel_rfl) <| OWk.done (by kernel_rfl) <| thenS_n ?_
                  refine SW.case (x5.Kind == 4) (fun b => (sp 129 [(4, .d (.map q2.2)), (5, .d (.map q3.2)), (6, vI y4.1), (7, .box [vI x5.Kind, vI x5.Unit, vS x5.Key, vB x5.Has, vS x5.Text]), (8, .d (cP.enc (q6.getD none))), (18, .d (.list 5 (List.map encNote p0))), (19, vI (p0.length : Int)), (20, vI y4.1), (44, vI x5.Kind), (99, vB b)] y4.2)) (by kernel_rfl) (fun hc => ?_) (fun hc => ?_)
                  · replace h := bif_t hc h
                    refine SW.condT (by kernel_rfl) <| SW.skip ?_
                    exact ⟨true, [], by kernel_rfl, h⟩
                  · replace h := bif_f hc h
                    refine SW.condF (by kernel_rfl) <| SW.seq <| SW.regionK <| OWk.sg 129 y4.2 [] [4, 5, 6, 7, 8, 18, 19, 20, 44, 99] 2 [(4, .d (.map q2.2)), (5, .d (.map q3.2)), (6, vI y4.1), (7, .box [vI x5.Kind, vI x5.Unit, vS x5.Key, vB x5.Has, vS x5.Text]), (8, .d (cP.enc (q6.getD none))), (18, .d (.list 5 (List.map encNote p0))), (19, vI (p0.length : Int)), (20, vI y4.1), (44, vI x5.Kind), (99, vB (x5.Kind == 5))] (by kernel_rfl) <| OWk.done (by kernel_rfl) <| thenS_n ?_
                    refine SW.case (x5.Kind == 5) (fun b => (sp 129 [(4, .d (.map q2.2)), (5, .d (.map q3.2)), (6, vI y4.1), (7, .box [vI x5.Kind, vI x5.Unit, vS x5.Key, vB x5.Has, vS x5.Text]), (8, .d (cP.enc (q6.getD none))), (18, .d (.list 5 (List.map encNote p0))), (19, vI (p0.length : Int)), (20, vI y4.1), (44, vI x5.Kind), (99, vB b)] y4.2)) (by kernel_rfl) (fun hc => ?_) (fun hc => ?_)
                    · replace h := bif_t hc h
                      refine SW.condT (by kernel_rfl) <| SW.skip ?_
                      exact ⟨true, [], by kernel_rfl, h⟩
                    · replace h := bif_f hc h
                      refine SW.condF (by kernel_rfl) <| SW.regionK <| OWk.sg 129 y4.2 [] [4, 5, 6, 7, 8, 18, 19, 20, 99] 2 [(4, .d (.map q2.2)), (5, .d (.map q3.2)), (6, vI y4.1), (7, .box [vI x5.Kind, vI x5.Unit, vS x5.Key, vB x5.Has, vS x5.Text]), (8, .d (cP.enc (q6.getD none))), (18, .d (.list 5 (List.map encNote p0))), (19, vI (p0.length : Int)), (20, vI y4.1), (99, vB (x5.Kind == 7))] (by kernel_rfl) <| OWk.done (by kernel_rfl) ?_
                      exact ⟨(x5.Kind == 7), [], by kernel_rfl, h⟩
            · refine SW.seq <| SW.regionK <| OWk.sg 129 y4.2 [] [4, 5, 6, 7, 8, 18, 19, 20, 44, 54] 2 [(4, .d (.map q2.2)), (5, .d (.map q3.2)), (6, vI y4.1), (7, .box [vI x5.Kind, vI x5.Unit, vS x5.Key, vB x5.Has, vS x5.Text]), (8, .d (cP.enc (q6.getD none))), (18, .d (.list 5 (List.map encNote p0))), (19, vI (p0.length : Int)), (20, vI y4.1), (44, vI x5.Kind), (54, vB (x5.Kind == 3))] (by kernel_rfl) <| OWk.done (by kernel_rfl) <| thenS_n ?_
              refine SW.case (x5.Kind == 3) (fun b => (sp 129 [(4, .d (.map q2.2)), (5, .d (.map q3.2)), (6, vI y4.1), (7, .box [vI x5.Kind, vI x5.Unit, vS x5.Key, vB x5.Has, vS x5.Text]), (8, .d (cP.enc (q6.getD none))), (18, .d (.list 5 (List.map encNote p0))), (19, vI (p0.length : Int)), (20, vI y4.1), (44, vI x5.Kind), (54, vB b)] y4.2)) (by kernel_rfl) (fun hc => ?_) (fun hc => ?_)
              · replace h := bif_t hc h
                refine SW.condT (by kernel_rfl) <| SW.skip ?_
                exact ⟨true, [], by kernel_rfl, h⟩
              · replace h := bif_f hc h
                refine SW.condF (by kernel_rfl) <| SW.regionK <| OWk.sg 129 y4.2 [] [4, 5, 6, 7, 8, 18, 19, 20, 44, 54] 2 [(4, .d (.map q2.2)), (5, .d (.map q3.2)), (6, vI y4.1), (7, .box [vI x5.Kind, vI x5.Unit, vS x5.Key, vB x5.Has, vS x5.Text]), (8, .d (cP.enc (q6.getD none))), (18, .d (.list 5 (List.map encNote p0))), (19, vI (p0.length : Int)), (20, vI y4.1), (44, vI x5.Kind), (54, vB (x5.Kind == 2))] (by kernel_rfl) <| OWk.done (by kernel_rfl) ?_
                exact ⟨(x5.Kind == 2), [], by kernel_rfl, h⟩
      · replace h := bif_f hc h
        refine SW.kp 129 y4.2 [] [] (by kernel_rfl) <| SW.exit <| thenS_e ?_
        cases h
        refine thenS_e ?_
        exact ⟨_, rfl, .inl ⟨y4.2, rfl, rfl, rfl⟩⟩
    · rintro _ _ (⟨v39, rfl, rfl, rfl⟩ | ⟨r40, rfl, rfl, hE⟩)
      · replace h := sum_l h
        refine blockS_hit <| thenS_n <| SW.seq <| SW.regionK <| OWk.sg 129 v39 [] [2, 3] 2 [(2, vI (-1)), (3, vI 0)] (by kernel_rfl) <| OWk.done (by kernel_rfl) <| thenS_n <| SW.ret ?_
        cases h
        exact EndL.ret [] (by kernel_rfl)
      · replace h := sum_r h
        refine blockS_r <| thenS_r ?_
        cases h
        exact hE
noncomputable def j_right (fuel : Nat) (p0 : (List Note)) : Option (Int) :=
  (j_Wrong fuel p0).bind fun r1 =>
  bif (r1.2 == 0) then
    some r1.2
  else
    bif (r1.2 == 1) then
      some r1.2
    else
      some 9
theorem j_right_ok {fuel : Nat} {p0 : (List Note)} {r : Int} (h : j_right fuel p0 = some r) : PC Tryz.prog 27 [.d (.list 5 (List.map encNote p0))] (vI r) := by
  refine PC.of_SW Tryz.func27 rfl fun H => ?_
  unfold j_right at h
  refine SW.kp 15 H [0] [(0, .d (.list 5 (List.map encNote p0)))] (by kernel_rfl) <| SW.seq <| SW.regionK <| OWk.sg 15 H [] [0] 1 [(0, .d (.list 5 (List.map encNote p0)))] (by kernel_rfl) <| OWk.done (by kernel_rfl) <| thenS_n <| SW.seq <| SW.regionK <| OWk.sg 15 H [] [6] 1 [(6, .d (.list 5 (List.map encNote p0)))] (by kernel_rfl) ?_
  obtain ⟨r1, hr, h⟩ := bind_inv h
  refine OWk.cl 15 H (d := some 7) (ls := []) (gs := []) [] [7] [(7, .tup [vI r1.1, vI r1.2])] (j_Wrong_ok hr) (by kernel_rfl) (by kernel_rfl) (by kernel_rfl) <| OWk.sg 15 H [] [4] 5 [(4, vI r1.2)] (by kernel_rfl) <| OWk.done (by kernel_rfl) <| thenS_n <| SW.seq <| SW.seq <| SW.regionK <| OWk.sg 15 H [] [4, 10] 1 [(4, vI r1.2), (10, vI r1.2)] (by kernel_rfl) <| OWk.done (by kernel_rfl) <| thenS_n <| SW.block <| SW.seq <| SW.seq <| SW.regionK <| OWk.sg 15 H [] [4, 10, 11] 2 [(4, vI r1.2), (10, vI r1.2), (11, vB (r1.2 == 0))] (by kernel_rfl) <| OWk.done (by kernel_rfl) <| thenS_n ?_
  refine SW.case (r1.2 == 0) (fun b => (sp 15 [(4, vI r1.2), (10, vI r1.2), (11, vB b)] H)) (by kernel_rfl) (fun hc => ?_) (fun hc => ?_)
  · replace h := bif_t hc h
    refine SW.condT (by kernel_rfl) <| SW.skip <| thenS_n <| SW.condT (by kernel_rfl) <| SW.seq <| SW.regionK <| OWk.sg 15 H [] [2] 2 [(2, vI r1.2)] (by kernel_rfl) <| OWk.done (by kernel_rfl) <| thenS_n <| SW.ret <| blockS_r <| thenS_r ?_
    cases h
    exact EndQ.ret [] (by kernel_rfl) rfl
  · replace h := bif_f hc h
    refine SW.condF (by kernel_rfl) <| SW.regionK <| OWk.sg 15 H [] [4, 11] 2 [(4, vI r1.2), (11, vB (r1.2 == 1))] (by kernel_rfl) <| OWk.done (by kernel_rfl) <| thenS_n ?_
    refine SW.condB (b := (r1.2 == 1)) (by kernel_rfl) (fun hc => ?_) (fun hc => ?_)
    · replace h := bif_t hc h
      refine SW.seq <| SW.regionK <| OWk.sg 15 H [] [2] 2 [(2, vI r1.2)] (by kernel_rfl) <| OWk.done (by kernel_rfl) <| thenS_n <| SW.ret <| blockS_r <| thenS_r ?_
      cases h
      exact EndQ.ret [] (by kernel_rfl) rfl
    · replace h := bif_f hc h
      refine SW.skip <| blockS_n <| thenS_n <| SW.seq <| SW.regionK <| OWk.sg 15 H [] [2] 1 [(2, vI 9)] (by kernel_rfl) <| OWk.done (by kernel_rfl) <| thenS_n <| SW.ret ?_
      cases h
      exact EndQ.ret [] (by kernel_rfl) rfl
def slices_Reverse_l1 (fuel : Nat) (y1 : (List Image) × Int × Int) : Option (((List Image) × Int × Int) ⊕ ((List Image))) :=
  bif (decide (y1.2.1 < y1.2.2)) then
    (idx y1.1 y1.2.2).bind fun x2 =>
    (idx y1.1 y1.2.1).bind fun x3 =>
    (idx y1.1 y1.2.1).bind fun x4 =>
    chk (decide ((Int.toNat y1.2.1) < y1.1.length)) <|
    (idx (List.set y1.1 (Int.toNat y1.2.1) x2) y1.2.2).bind fun x5 =>
    chk (decide ((Int.toNat y1.2.2) < (List.set y1.1 (Int.toNat y1.2.1) x2).length)) <|
    some (.inl ((List.set (List.set y1.1 (Int.toNat y1.2.1) x2) (Int.toNat y1.2.2) x3), (IntKind.wrap .i64 (y1.2.1 + 1)), (IntKind.wrap .i64 (y1.2.2 - 1))))
  else
    some (.inr y1.1)
def slices_Reverse (fuel : Nat) (p0 : (List Image)) : Option ((List Image)) :=
  (iter (slices_Reverse_l1 fuel) fuel (p0, 0, (IntKind.wrap .i64 ((p0.length : Int) - 1)))).bind fun v7 =>
  some v7
theorem slices_Reverse_ok {fuel : Nat} {p0 : (List Image)} {r : (List Image)} (h : slices_Reverse fuel p0 = some r) : IC Tryz.prog 50 3 (List.map encImage p0) (List.map encImage r) := by
  refine IC.of_SW Tryz.func50 rfl rfl fun H v => ?_
  unfold slices_Reverse at h
  refine SW.kp 28 H [0] [(0, .pin v 3 (List.map encImage p0))] (by kernel_rfl) <| SW.seq <| SW.regionK <| OWk.sg 28 H [] [0, 4] 1 [(0, .pin v 3 (List.map encImage p0)), (4, .lent (.slot 0) 3 (List.map encImage p0))] (by kernel_rfl) <| OWk.on 28 H (d := some 5) [0, 5] [(0, .pin v 3 (List.map encImage p0)), (5, vI (p0.length : Int))] (BAt.len (enc := encImage) (xs := p0) (by kernel_rfl)) (by kernel_rfl) <| OWk.sg 28 H [] [0, 2, 3] 3 [(0, .pin v 3 (List.map encImage p0)), (2, vI 0), (3, vI (IntKind.wrap .i64 ((p0.length : Int) - 1)))] (by kernel_rfl) <| OWk.done (by kernel_rfl) <| thenS_n <| SW.block ?_
  obtain ⟨v7, hit, h⟩ := bind_inv h
  refine SW.it 28 H [0, 2, 3] (fun y1 => [(0, .pin v 3 (List.map encImage y1.1)), (2, vI y1.2.1), (3, vI y1.2.2)]) (fun v7 e s => (e = .exit 0 ∧ s = (sp 28 [(0, .pin v 3 (List.map encImage v7))] H))) hit (by kernel_rfl) (fun y1 o h => ?_) ?_
  · unfold slices_Reverse_l1 at h
    refine SW.seq <| SW.seq <| SW.regionK <| OWk.sg 28 H [] [0, 2, 3, 9] 3 [(0, .pin v 3 (List.map encImage y1.1)), (2, vI y1.2.1), (3, vI y1.2.2), (9, vB (decide (y1.2.1 < y1.2.2)))] (by kernel_rfl) <| OWk.done (by kernel_rfl) <| thenS_n ?_
    refine SW.condB (b := (decide (y1.2.1 < y1.2.2))) (by kernel_rfl) (fun hc => ?_) (fun hc => ?_)
    · replace h := bif_t hc h
      refine SW.skip <| thenS_n <| SW.seq <| SW.block <| SW.regionM [2, 3] [0, 1, 4, 5, 6, 7, 8, 9, 10, 11, 12] 13 [14, 15] 13 (by kernel_rfl) (by kernel_rfl) (by kernel_rfl) <| OBk.on 28 H (d := some 16) (s := .als 0) [0, 2, 3, 16] [(0, .pin v 3 (List.map encImage y1.1)), (2, vI y1.2.1), (3, vI y1.2.2), (16, .als 0)] (by kernel_rfl) (BAt.als (s := 0) (by kernel_rfl)) (by kernel_rfl) <| OBk.sg 28 H [] [0, 2, 3, 16, 17] 1 [(0, .pin v 3 (List.map encImage y1.1)), (2, vI y1.2.1), (3, vI y1.2.2), (16, .als 0), (17, vI y1.2.2)] (by kernel_rfl) (by kernel_rfl) <| OBk.on 28 H (d := some 14) (s := .als 0) [0, 2, 3, 14, 16, 17] [(0, .pin v 3 (List.map encImage y1.1)), (2, vI y1.2.1), (3, vI y1.2.2), (14, .als 0), (16, .als 0), (17, vI y1.2.2)] (by kernel_rfl) (BAt.als (s := 0) (by kernel_rfl)) (by kernel_rfl) <| OBk.sg 28 H [] [0, 2, 3, 14, 15, 16, 17, 18, 19] 3 [(0, .pin v 3 (List.map encImage y1.1)), (2, vI y1.2.1), (3, vI y1.2.2), (14, .als 0), (15, vI y1.2.1), (16, .als 0), (17, vI y1.2.2), (18, .lent (.slot 0) 3 (List.map encImage y1.1)), (19, vI y1.2.2)] (by kernel_rfl) (by kernel_rfl) ?_
      obtain ⟨x2, hx, h⟩ := bind_inv h
      refine OBk.on 28 H (d := some 20) (s := lendP (some (.slot 0)) (Go.Sh.D.cells (encImage x2))) [0, 2, 3, 14, 15, 16, 17, 20] [(0, .pin v 3 (List.map encImage y1.1)), (2, vI y1.2.1), (3, vI y1.2.2), (14, .als 0), (15, vI y1.2.1), (16, .als 0), (17, vI y1.2.2), (20, .lptr (.slot 0) [.str x2.Key, .bool x2.Has, .str x2.Text])] (by kernel_rfl) (BAt.index (n := 3) hx (by kernel_rfl)) (by kernel_rfl) <| OBk.sg 28 H [] [0, 2, 3, 14, 15, 16, 17, 21, 22, 23] 3 [(0, .pin v 3 (List.map encImage y1.1)), (2, vI y1.2.1), (3, vI y1.2.2), (14, .als 0), (15, vI y1.2.1), (16, .als 0), (17, vI y1.2.2), (21, .d (.agg [.str x2.Key, .bool x2.Has, .str x2.Text])), (22, .lent (.slot 0) 3 (List.map encImage y1.1)), (23, vI y1.2.1)] (by kernel_rfl) (by kernel_rfl) ?_
      obtain ⟨x3, hx, h⟩ := bind_inv h
      refine OBk.on 28 H (d := some 24) (s := lendP (some (.slot 0)) (Go.Sh.D.cells (encImage x3))) [0, 2, 3, 14, 15, 16, 17, 21, 24] [(0, .pin v 3 (List.map encImage y1.1)), (2, vI y1.2.1), (3, vI y1.2.2), (14, .als 0), (15, vI y1.2.1), (16, .als 0), (17, vI y1.2.2), (21, .d (.agg [.str x2.Key, .bool x2.Has, .str x2.Text])), (24, .lptr (.slot 0) [.str x3.Key, .bool x3.Has, .str x3.Text])] (by kernel_rfl) (BAt.index (n := 3) hx (by kernel_rfl)) (by kernel_rfl) <| OBk.sg 28 H [] [0, 2, 3, 14, 15, 16, 17, 21, 25] 1 [(0, .pin v 3 (List.map encImage y1.1)), (2, vI y1.2.1), (3, vI y1.2.2), (14, .als 0), (15, vI y1.2.1), (16, .als 0), (17, vI y1.2.2), (21, .d (.agg [.str x2.Key, .bool x2.Has, .str x2.Text])), (25, .d (.agg [.str x3.Key, .bool x3.Has, .str x3.Text]))] (by kernel_rfl) (by kernel_rfl) ?_
      obtain ⟨x4, hx, h⟩ := bind_inv h
      refine OBk.on 28 H (d := some 26) (s := .ep 0 3 (Int.toNat y1.2.1)) [0, 2, 3, 16, 17, 21, 25, 26] [(0, .pin v 3 (List.map encImage y1.1)), (2, vI y1.2.1), (3, vI y1.2.2), (16, .als 0), (17, vI y1.2.2), (21, .d (.agg [.str x2.Key, .bool x2.Has, .str x2.Text])), (25, .d (.agg [.str x3.Key, .bool x3.Has, .str x3.Text])), (26, .ep 0 3 (Int.toNat y1.2.1))] (by kernel_rfl) (BAt.ep (enc := encImage) (xs := y1.1) hx (by kernel_rfl)) (by kernel_rfl) <| OBk.done (by kernel_rfl) ?_
      obtain ⟨hk, h⟩ := chk_inv h
      refine OWk.sep (s := 0) (n := 3) (j := (Int.toNat y1.2.1)) (enc := encImage) (xs := y1.1) (x := x2) (p := (some v)) 28 H [0, 2, 3, 16, 17, 25] [(0, .pin v 3 (List.map encImage (List.set y1.1 (Int.toNat y1.2.1) x2))), (2, vI y1.2.1), (3, vI y1.2.2), (16, .als 0), (17, vI y1.2.2), (25, .d (.agg [.str x3.Key, .bool x3.Has, .str x3.Text]))] hk (by kernel_rfl) (by kernel_rfl) ?_
      obtain ⟨x5, hx, h⟩ := bind_inv h
      refine OWk.on 28 H (d := some 27) (s := .ep 0 3 (Int.toNat y1.2.2)) [0, 2, 3, 25, 27] [(0, .pin v 3 (List.map encImage (List.set y1.1 (Int.toNat y1.2.1) x2))), (2, vI y1.2.1), (3, vI y1.2.2), (25, .d (.agg [.str x3.Key, .bool x3.Has, .str x3.Text])), (27, .ep 0 3 (Int.toNat y1.2.2))] (BAt.ep (enc := encImage) (xs := (List.set y1.1 (Int.toNat y1.2.1) x2)) hx (by kernel_rfl)) (by kernel_rfl) ?_
      obtain ⟨hk, h⟩ := chk_inv h
      refine OWk.sep (s := 0) (n := 3) (j := (Int.toNat y1.2.2)) (enc := encImage) (xs := (List.set y1.1 (Int.toNat y1.2.1) x2)) (x := x3) (p := (some v)) 28 H [0, 2, 3] [(0, .pin v 3 (List.map encImage (List.set (List.set y1.1 (Int.toNat y1.2.1) x2) (Int.toNat y1.2.2) x3))), (2, vI y1.2.1), (3, vI y1.2.2)] hk (by kernel_rfl) (by kernel_rfl) <| OWk.done (by kernel_rfl) <| blockS_n <| thenS_n <| SW.regionK <| OWk.sg 28 H [] [0, 2, 3] 6 [(0, .pin v 3 (List.map encImage (List.set (List.set y1.1 (Int.toNat y1.2.1) x2) (Int.toNat y1.2.2) x3))), (2, vI (IntKind.wrap .i64 (y1.2.1 + 1))), (3, vI (IntKind.wrap .i64 (y1.2.2 - 1)))] (by kernel_rfl) <| OWk.done (by kernel_rfl) ?_
      cases h
      exact ⟨((List.set (List.set y1.1 (Int.toNat y1.2.1) x2) (Int.toNat y1.2.2) x3), (IntKind.wrap .i64 (y1.2.1 + 1)), (IntKind.wrap .i64 (y1.2.2 - 1))), rfl, by kernel_rfl⟩
    · replace h := bif_f hc h
      refine SW.kp 28 H [0] [(0, .pin v 3 (List.map encImage y1.1))] (by kernel_rfl) <| SW.exit <| thenS_e ?_
      cases h
      refine thenS_e ?_
      exact ⟨_, rfl, ⟨rfl, rfl⟩⟩
  · rintro _ _ ⟨rfl, rfl⟩
    refine blockS_hit ?_
    cases h
    exact ⟨.inl rfl, by kernel_rfl, rfl⟩
theorem encImage_np (x : Image) : noPtr (encImage x) = true := by simp [encImage, noPtr, noPtrs]
def j_Redo_l1 (fuel : Nat) (p0 : (List Note)) (p1 : Int) (q4 : (Hp × Nat)) (y5 : (List Image) × Int × Hp) : Option (((List Image) × Int × Hp) ⊕ ((List Image) × Hp)) :=
  bif (decide (y5.2.1 ≥ p1)) then
    (idx p0 y5.2.1).bind fun x6 =>
    letJ (fun (j7 : Bool) =>
      bif j7 then
        (hMput (kI .i64) cB y5.2.2 (some q4.2) x6.Unit true).bind fun H9 =>
        some (.inl (y5.1, (IntKind.wrap .i64 (y5.2.1 - 1)), H9))
      else
        letJ (fun (j10 : Bool) =>
          bif j10 then
            (hMput (kI .i64) cB y5.2.2 (some q4.2) x6.Unit false).bind fun H12 =>
            some (.inl (y5.1, (IntKind.wrap .i64 (y5.2.1 - 1)), H12))
          else
            bif (x6.Kind == 3) then
              (hLook (kI .i64) cB y5.2.2 (some q4.2) x6.Unit).bind fun q13 =>
              bif (q13.getD false) then
                chk (decide ((y5.1 ++ [(⟨x6.Key, x6.Has, x6.Text⟩ : Image)]).length ≤ room)) <|
                some (.inl ((y5.1 ++ [(⟨x6.Key, x6.Has, x6.Text⟩ : Image)]), (IntKind.wrap .i64 (y5.2.1 - 1)), y5.2.2))
              else
                some (.inl (y5.1, (IntKind.wrap .i64 (y5.2.1 - 1)), y5.2.2))
            else
              some (.inl (y5.1, (IntKind.wrap .i64 (y5.2.1 - 1)), y5.2.2))) fun jp11 =>
        bif (x6.Kind == 7) then
          jp11 true
        else
          jp11 (x6.Kind == 1)) fun jp8 =>
    bif (x6.Kind == 4) then
      jp8 true
    else
      jp8 (x6.Kind == 5)
  else
    some (.inr (y5.1, y5.2.2))
noncomputable def j_Redo (fuel : Nat) (p0 : (List Note)) (p1 : Int) : Option ((List Image) × Int) :=
  (j_right fuel p0).bind fun r1 =>
  bif (r1 != 0) then
    some (([] : List Image), r1)
  else
    letJ (fun (j2 : Bool) =>
      bif j2 then
        some (([] : List Image), 7)
      else
        (hNew [] (.map [])).bind fun q4 =>
        (iter (j_Redo_l1 fuel p0 p1 q4) fuel (([] : List Image), (IntKind.wrap .i64 ((p0.length : Int) - 1)), q4.1)).bind fun v15 =>
        (slices_Reverse fuel v15.1).bind fun r16 =>
        some (r16, 0)) fun jp3 =>
    bif (decide (p1 < 0)) then
      jp3 true
    else
      jp3 (decide (p1 > (p0.length : Int)))
theorem j_Redo_ok {fuel : Nat} {p0 : (List Note)} {p1 : Int} {r : (List Image) × Int} (h : j_Redo fuel p0 p1 = some r) : PC Tryz.prog 41 [.d (.list 5 (List.map encNote p0)), vI p1] (.tup [.own 3 (List.map encImage r.1), vI r.2]) := by
  refine PC.of_localSW Tryz.func41 rfl (by simp [noPtrSV, noPtr, noPtrs, vI, vB, vS, noPtrs_map (f := encNote) encNote_np]) (by simp [noPtrSV, noPtr, noPtrs, vI, vB, vS, noPtrs_map (f := encImage) encImage_np]) ?_
  unfold j_Redo at h
  refine SW.kp 70 [] [0, 1] [(0, .d (.list 5 (List.map encNote p0))), (1, vI p1)] (by kernel_rfl) <| SW.seq <| SW.regionK <| OWk.sg 70 [] [] [0, 1] 2 [(0, .d (.list 5 (List.map encNote p0))), (1, vI p1)] (by kernel_rfl) <| OWk.done (by kernel_rfl) <| thenS_n <| SW.seq <| SW.seq <| SW.regionK <| OWk.sg 70 [] [] [0, 1, 11] 1 [(0, .d (.list 5 (List.map encNote p0))), (1, vI p1), (11, .d (.list 5 (List.map encNote p0)))] (by kernel_rfl) ?_
  obtain ⟨r1, hr, h⟩ := bind_inv h
  refine OWk.cl 70 [] (d := some 12) (ls := []) (gs := []) [] [0, 1, 12] [(0, .d (.list 5 (List.map encNote p0))), (1, vI p1), (12, vI r1)] (j_right_ok hr) (by kernel_rfl) (by kernel_rfl) (by kernel_rfl) <| OWk.sg 70 [] [] [0, 1, 6] 1 [(0, .d (.list 5 (List.map encNote p0))), (1, vI p1), (6, vI r1)] (by kernel_rfl) <| OWk.done (by kernel_rfl) <| thenS_n <| SW.seq <| SW.regionK <| OWk.sg 70 [] [] [0, 1, 6, 14] 2 [(0, .d (.list 5 (List.map encNote p0))), (1, vI p1), (6, vI r1), (14, vB (r1 != 0))] (by kernel_rfl) <| OWk.done (by kernel_rfl) <| thenS_n ?_
  refine SW.condB (b := (r1 != 0)) (by kernel_rfl) (fun hc => ?_) (fun hc => ?_)
  · replace h := bif_t hc h
    refine SW.seq <| SW.regionK <| OWk.sg 70 [] [] [4, 5] 3 [(4, .own 3 (List.map encImage ([] : List Image))), (5, vI r1)] (by kernel_rfl) <| OWk.done (by kernel_rfl) <| thenS_n <| SW.ret <| thenS_r ?_
    cases h
    exact EndL.ret [] (by kernel_rfl)
  · replace h := bif_f hc h
    refine SW.skip <| thenS_n <| SW.seq ?_
    obtain ⟨jp3, hjjp3, h⟩ := letJ_inv h
    refine SW.jn 70 [] [0, 1, 23] (fun (j2 : Bool) => [(0, .d (.list 5 (List.map encNote p0))), (1, vI p1), (23, vB j2)]) (fun v => jp3 v = some r) (fun j2 h => ?_) ?_
    · rw [hjjp3] at h
      refine SW.condB (b := j2) (by kernel_rfl) (fun hc => ?_) (fun hc => ?_)
      · replace h := bif_t hc h
        refine SW.seq <| SW.regionK <| OWk.sg 70 [] [] [4, 5] 2 [(4, .own 3 (List.map encImage ([] : List Image))), (5, vI 7)] (by kernel_rfl) <| OWk.done (by kernel_rfl) <| thenS_n <| SW.ret <| thenS_r ?_
        cases h
        exact EndL.ret [] (by kernel_rfl)
      · replace h := bif_f hc h
        refine SW.skip <| thenS_n <| SW.seq <| SW.regionK <| OWk.sg 70 [] [] [0, 1, 7] 1 [(0, .d (.list 5 (List.map encNote p0))), (1, vI p1), (7, .own 3 (List.map encImage ([] : List Image)))] (by kernel_rfl) <| OWk.done (by kernel_rfl) <| thenS_n <| SW.seq <| SW.regionK ?_
        obtain ⟨q4, hq, h⟩ := bind_inv h
        refine OWk.hnew 70 q4.1 (d := some 24) (b := true) [] [0, 1, 7, 24] [(0, .d (.list 5 (List.map encNote p0))), (1, vI p1), (7, .own 3 (List.map encImage ([] : List Image))), (24, .d (.map q4.2))] hq (by kernel_rfl) rfl (by kernel_rfl) <| OWk.sg 70 q4.1 [] [0, 1, 7, 8] 1 [(0, .d (.list 5 (List.map encNote p0))), (1, vI p1), (7, .own 3 (List.map encImage ([] : List Image))), (8, .d (.map q4.2))] (by kernel_rfl) <| OWk.done (by kernel_rfl) <| thenS_n <| SW.seq <| SW.seq <| SW.regionK <| OWk.sg 70 q4.1 [] [0, 1, 7, 8, 25] 1 [(0, .d (.list 5 (List.map encNote p0))), (1, vI p1), (7, .own 3 (List.map encImage ([] : List Image))), (8, .d (.map q4.2)), (25, .d (.list 5 (List.map encNote p0)))] (by kernel_rfl) <| OWk.on 70 q4.1 (d := some 26) [0, 1, 7, 8, 26] [(0, .d (.list 5 (List.map encNote p0))), (1, vI p1), (7, .own 3 (List.map encImage ([] : List Image))), (8, .d (.map q4.2)), (26, vI (p0.length : Int))] (BAt.len (enc := encNote) (xs := p0) (by kernel_rfl)) (by kernel_rfl) <| OWk.sg 70 q4.1 [] [0, 1, 7, 8, 9] 2 [(0, .d (.list 5 (List.map encNote p0))), (1, vI p1), (7, .own 3 (List.map encImage ([] : List Image))), (8, .d (.map q4.2)), (9, vI (IntKind.wrap .i64 ((p0.length : Int) - 1)))] (by kernel_rfl) <| OWk.done (by kernel_rfl) <| thenS_n <| SW.block ?_
        obtain ⟨v15, hit, h⟩ := bind_inv h
        refine SW.itH 70 [0, 1, 7, 8, 9] (fun y5 => [(0, .d (.list 5 (List.map encNote p0))), (1, vI p1), (7, .own 3 (List.map encImage y5.1)), (8, .d (.map q4.2)), (9, vI y5.2.1)]) (fun y5 => y5.2.2) (fun v15 e s => (e = .exit 0 ∧ s = (sp 70 [(7, .own 3 (List.map encImage v15.1))] v15.2))) hit (by kernel_rfl) (fun y5 o h => ?_) ?_
        · unfold j_Redo_l1 at h
          refine SW.seq <| SW.seq <| SW.regionK <| OWk.sg 70 y5.2.2 [] [0, 1, 7, 8, 9, 30] 3 [(0, .d (.list 5 (List.map encNote p0))), (1, vI p1), (7, .own 3 (List.map encImage y5.1)), (8, .d (.map q4.2)), (9, vI y5.2.1), (30, vB (decide (y5.2.1 ≥ p1)))] (by kernel_rfl) <| OWk.done (by kernel_rfl) <| thenS_n ?_
          refine SW.condB (b := (decide (y5.2.1 ≥ p1))) (by kernel_rfl) (fun hc => ?_) (fun hc => ?_)
          · replace h := bif_t hc h
            refine SW.skip <| thenS_n <| SW.seq <| SW.block <| SW.seq <| SW.regionK <| OWk.sg 70 y5.2.2 [] [0, 1, 7, 8, 9, 33, 34] 2 [(0, .d (.list 5 (List.map encNote p0))), (1, vI p1), (7, .own 3 (List.map encImage y5.1)), (8, .d (.map q4.2)), (9, vI y5.2.1), (33, .d (.list 5 (List.map encNote p0))), (34, vI y5.2.1)] (by kernel_rfl) ?_
            obtain ⟨x6, hx, h⟩ := bind_inv h
            refine OWk.on 70 y5.2.2 (d := some 35) (s := lendP none (Go.Sh.D.cells (encNote x6))) [0, 1, 7, 8, 9, 35] [(0, .d (.list 5 (List.map encNote p0))), (1, vI p1), (7, .own 3 (List.map encImage y5.1)), (8, .d (.map q4.2)), (9, vI y5.2.1), (35, .d (.dptr [.int .i64 x6.Kind, .int .i64 x6.Unit, .str x6.Key, .bool x6.Has, .str x6.Text]))] (BAt.index (n := 5) hx (by kernel_rfl)) (by kernel_rfl) <| OWk.sg 70 y5.2.2 [] [0, 1, 7, 8, 9, 10] 3 [(0, .d (.list 5 (List.map encNote p0))), (1, vI p1), (7, .own 3 (List.map encImage y5.1)), (8, .d (.map q4.2)), (9, vI y5.2.1), (10, .box [vI x6.Kind, vI x6.Unit, vS x6.Key, vB x6.Has, vS x6.Text])] (by kernel_rfl) <| OWk.done (by kernel_rfl) <| thenS_n <| SW.seq <| SW.regionK <| OWk.sg 70 y5.2.2 [] [0, 1, 7, 8, 9, 10, 38] 2 [(0, .d (.list 5 (List.map encNote p0))), (1, vI p1), (7, .own 3 (List.map encImage y5.1)), (8, .d (.map q4.2)), (9, vI y5.2.1), (10, .box [vI x6.Kind, vI x6.Unit, vS x6.Key, vB x6.Has, vS x6.Text]), (38, vI x6.Kind)] (by kernel_rfl) <| OWk.done (by kernel_rfl) <| thenS_n <| SW.block ?_
            obtain ⟨jp8, hjjp8, h⟩ := letJ_inv h
            refine SW.jn 70 y5.2.2 [0, 1, 7, 8, 9, 10, 38, 39] (fun (j7 : Bool) => [(0, .d (.list 5 (List.map encNote p0))), (1, vI p1), (7, .own 3 (List.map encImage y5.1)), (8, .d (.map q4.2)), (9, vI y5.2.1), (10, .box [vI x6.Kind, vI x6.Unit, vS x6.Key, vB x6.Has, vS x6.Text]), (38, vI x6.Kind), (39, vB j7)]) (fun v => jp8 v = some o) (fun j7 h => ?_) ?_
            · rw [hjjp8] at h
              refine SW.condB (b := j7) (by kernel_rfl) (fun hc => ?_) (fun hc => ?_)
              · replace h := bif_t hc h
                refine SW.regionK <| OWk.sg 70 y5.2.2 [] [0, 1, 7, 8, 9, 42, 44] 3 [(0, .d (.list 5 (List.map encNote p0))), (1, vI p1), (7, .own 3 (List.map encImage y5.1)), (8, .d (.map q4.2)), (9, vI y5.2.1), (42, .d (.map q4.2)), (44, vI x6.Unit)] (by kernel_rfl) ?_
                obtain ⟨H9, hx, h⟩ := bind_inv h
                refine OWk.mput 70 H9 (kc := (kI .i64)) (v := cB) (mm := (some q4.2)) (key := x6.Unit) (y := true) [0, 1, 7, 8, 9] [(0, .d (.list 5 (List.map encNote p0))), (1, vI p1), (7, .own 3 (List.map encImage y5.1)), (8, .d (.map q4.2)), (9, vI y5.2.1)] hx (by kernel_rfl) (by kernel_rfl) <| OWk.done (by kernel_rfl) <| blockS_n <| blockS_n <| thenS_n <| SW.regionK <| OWk.sg 70 H9 [] [0, 1, 7, 8, 9] 3 [(0, .d (.list 5 (List.map encNote p0))), (1, vI p1), (7, .own 3 (List.map encImage y5.1)), (8, .d (.map q4.2)), (9, vI (IntKind.wrap .i64 (y5.2.1 - 1)))] (by kernel_rfl) <| OWk.done (by kernel_rfl) ?_
                cases h
                exact ⟨(y5.1, (IntKind.wrap .i64 (y5.2.1 - 1)), H9), rfl, by kernel_rfl⟩
              · replace h := bif_f hc h
                obtain ⟨jp11, hjjp11, h⟩ := letJ_inv h
                refine SW.jn 70 y5.2.2 [0, 1, 7, 8, 9, 10, 38, 45] (fun (j10 : Bool) => [(0, .d (.list 5 (List.map encNote p0))), (1, vI p1), (7, .own 3 (List.map encImage y5.1)), (8, .d (.map q4.2)), (9, vI y5.2.1), (10, .box [vI x6.Kind, vI x6.Unit, vS x6.Key, vB x6.Has, vS x6.Text]), (38, vI x6.Kind), (45, vB j10)]) (fun v => jp11 v = some o) (fun j10 h => ?_) ?_
                · rw [hjjp11] at h
                  refine SW.condB (b := j10) (by kernel_rfl) (fun hc => ?_) (fun hc => ?_)
                  · replace h := bif_t hc h
                    refine SW.regionK <| OWk.sg 70 y5.2.2 [] [0, 1, 7, 8, 9, 48, 50] 3 [(0, .d (.list 5 (List.map encNote p0))), (1, vI p1), (7, .own 3 (List.map encImage y5.1)), (8, .d (.map q4.2)), (9, vI y5.2.1), (48, .d (.map q4.2)), (50, vI x6.Unit)] (by kernel_rfl) ?_
                    obtain ⟨H12, hx, h⟩ := bind_inv h
                    refine OWk.mput 70 H12 (kc := (kI .i64)) (v := cB) (mm := (some q4.2)) (key := x6.Unit) (y := false) [0, 1, 7, 8, 9] [(0, .d (.list 5 (List.map encNote p0))), (1, vI p1), (7, .own 3 (List.map encImage y5.1)), (8, .d (.map q4.2)), (9, vI y5.2.1)] hx (by kernel_rfl) (by kernel_rfl) <| OWk.done (by kernel_rfl) <| blockS_n <| blockS_n <| thenS_n <| SW.regionK <| OWk.sg 70 H12 [] [0, 1, 7, 8, 9] 3 [(0, .d (.list 5 (List.map encNote p0))), (1, vI p1), (7, .own 3 (List.map encImage y5.1)), (8, .d (.map q4.2)), (9, vI (IntKind.wrap .i64 (y5.2.1 - 1)))] (by kernel_rfl) <| OWk.done (by kernel_rfl) ?_
                    cases h
                    exact ⟨(y5.1, (IntKind.wrap .i64 (y5.2.1 - 1)), H12), rfl, by kernel_rfl⟩
                  · replace h := bif_f hc h
                    refine SW.seq <| SW.regionK <| OWk.sg 70 y5.2.2 [] [0, 1, 7, 8, 9, 10, 51] 2 [(0, .d (.list 5 (List.map encNote p0))), (1, vI p1), (7, .own 3 (List.map encImage y5.1)), (8, .d (.map q4.2)), (9, vI y5.2.1), (10, .box [vI x6.Kind, vI x6.Unit, vS x6.Key, vB x6.Has, vS x6.Text]), (51, vB (x6.Kind == 3))] (by kernel_rfl) <| OWk.done (by kernel_rfl) <| thenS_n ?_
                    refine SW.condB (b := (x6.Kind == 3)) (by kernel_rfl) (fun hc => ?_) (fun hc => ?_)
                    · replace h := bif_t hc h
                      refine SW.seq <| SW.regionK <| OWk.sg 70 y5.2.2 [] [0, 1, 7, 8, 9, 10, 53, 55] 3 [(0, .d (.list 5 (List.map encNote p0))), (1, vI p1), (7, .own 3 (List.map encImage y5.1)), (8, .d (.map q4.2)), (9, vI y5.2.1), (10, .box [vI x6.Kind, vI x6.Unit, vS x6.Key, vB x6.Has, vS x6.Text]), (53, .d (.map q4.2)), (55, vI x6.Unit)] (by kernel_rfl) ?_
                      obtain ⟨q13, hq, h⟩ := bind_inv h
                      refine OWk.on 70 y5.2.2 (d := some 56) [0, 1, 7, 8, 9, 10, 56] [(0, .d (.list 5 (List.map encNote p0))), (1, vI p1), (7, .own 3 (List.map encImage y5.1)), (8, .d (.map q4.2)), (9, vI y5.2.1), (10, .box [vI x6.Kind, vI x6.Unit, vS x6.Key, vB x6.Has, vS x6.Text]), (56, vB (q13.getD false))] (BAt.look (kc := (kI .i64)) (v := cB) (ok := false) (mm := (some q4.2)) (key := x6.Unit) (z := false) hq (by kernel_rfl)) (by kernel_rfl) <| OWk.done (by kernel_rfl) <| thenS_n ?_
                      refine SW.condB (b := (q13.getD false)) (by kernel_rfl) (fun hc => ?_) (fun hc => ?_)
                      · replace h := bif_t hc h
                        refine SW.regionK <| OWk.sg 70 y5.2.2 [57] [0, 1, 8, 9, 57, 65] 9 [(0, .d (.list 5 (List.map encNote p0))), (1, vI p1), (8, .d (.map q4.2)), (9, vI y5.2.1), (57, .own 3 (List.map encImage y5.1)), (65, .own 3 (List.map encImage [(⟨x6.Key, x6.Has, x6.Text⟩ : Image)]))] (by kernel_rfl) ?_
                        obtain ⟨hk, h⟩ := chk_inv h
                        refine OWk.app 70 y5.2.2 (s := 57) (d := 66) (w := 3) [0, 1, 8, 9, 66] (zs := List.map encImage (y5.1 ++ [(⟨x6.Key, x6.Has, x6.Text⟩ : Image)])) [(0, .d (.list 5 (List.map encNote p0))), (1, vI p1), (8, .d (.map q4.2)), (9, vI y5.2.1), (66, .own 3 (List.map encImage (y5.1 ++ [(⟨x6.Key, x6.Has, x6.Text⟩ : Image)])))] (ys := (List.map encImage [(⟨x6.Key, x6.Has, x6.Text⟩ : Image)])) (by kernel_rfl) (map_append') (room_map hk) (by kernel_rfl) <| OWk.sg 70 y5.2.2 [57] [0, 1, 7, 8, 9] 1 [(0, .d (.list 5 (List.map encNote p0))), (1, vI p1), (7, .own 3 (List.map encImage (y5.1 ++ [(⟨x6.Key, x6.Has, x6.Text⟩ : Image)]))), (8, .d (.map q4.2)), (9, vI y5.2.1)] (by kernel_rfl) <| OWk.done (by kernel_rfl) <| blockS_n <| blockS_n <| thenS_n <| SW.regionK <| OWk.sg 70 y5.2.2 [] [0, 1, 7, 8, 9] 3 [(0, .d (.list 5 (List.map encNote p0))), (1, vI p1), (7, .own 3 (List.map encImage (y5.1 ++ [(⟨x6.Key, x6.Has, x6.Text⟩ : Image)]))), (8, .d (.map q4.2)), (9, vI (IntKind.wrap .i64 (y5.2.1 - 1)))] (by kernel_rfl) <| OWk.done (by kernel_rfl) ?_
                        cases h
                        exact ⟨((y5.1 ++ [(⟨x6.Key, x6.Has, x6.Text⟩ : Image)]), (IntKind.wrap .i64 (y5.2.1 - 1)), y5.2.2), rfl, by kernel_rfl⟩
                      · replace h := bif_f hc h
                        refine SW.skip <| blockS_n <| blockS_n <| thenS_n <| SW.regionK <| OWk.sg 70 y5.2.2 [] [0, 1, 7, 8, 9] 3 [(0, .d (.list 5 (List.map encNote p0))), (1, vI p1), (7, .own 3 (List.map encImage y5.1)), (8, .d (.map q4.2)), (9, vI (IntKind.wrap .i64 (y5.2.1 - 1)))] (by kernel_rfl) <| OWk.done (by kernel_rfl) ?_
                        cases h
                        exact ⟨(y5.1, (IntKind.wrap .i64 (y5.2.1 - 1)), y5.2.2), rfl, by kernel_rfl⟩
                    · replace h := bif_f hc h
                      refine SW.skip <| blockS_n <| blockS_n <| thenS_n <| SW.regionK <| OWk.sg 70 y5.2.2 [] [0, 1, 7, 8, 9] 3 [(0, .d (.list 5 (List.map encNote p0))), (1, vI p1), (7, .own 3 (List.map encImage y5.1)), (8, .d (.map q4.2)), (9, vI (IntKind.wrap .i64 (y5.2.1 - 1)))] (by kernel_rfl) <| OWk.done (by kernel_rfl) ?_
                      cases h
                      exact ⟨(y5.1, (IntKind.wrap .i64 (y5.2.1 - 1)), y5.2.2), rfl, by kernel_rfl⟩
                · refine SW.seq <| SW.regionK <| OWk.sg 70 y5.2.2 [] [0, 1, 7, 8, 9, 10, 38, 45] 2 [(0, .d (.list 5 (List.map encNote p0))), (1, vI p1), (7, .own 3 (List.map encImage y5.1)), (8, .d (.map q4.2)), (9, vI y5.2.1), (10, .box [vI x6.Kind, vI x6.Unit, vS x6.Key, vB x6.Has, vS x6.Text]), (38, vI x6.Kind), (45, vB (x6.Kind == 7))] (by kernel_rfl) <| OWk.done (by kernel_rfl) <| thenS_n ?_
                  refine SW.case (x6.Kind == 7) (fun b => (sp 70 [(0, .d (.list 5 (List.map encNote p0))), (1, vI p1), (7, .own 3 (List.map encImage y5.1)), (8, .d (.map q4.2)), (9, vI y5.2.1), (10, .box [vI x6.Kind, vI x6.Unit, vS x6.Key, vB x6.Has, vS x6.Text]), (38, vI x6.Kind), (45, vB b)] y5.2.2)) (by kernel_rfl) (fun hc => ?_) (fun hc => ?_)
                  · replace h := bif_t hc h
                    refine SW.condT (by kernel_rfl) <| SW.skip ?_
                    exact ⟨true, [], by kernel_rfl, h⟩
                  · replace h := bif_f hc h
                    refine SW.condF (by kernel_rfl) <| SW.regionK <| OWk.sg 70 y5.2.2 [] [0, 1, 7, 8, 9, 10, 38, 45] 2 [(0, .d (.list 5 (List.map encNote p0))), (1, vI p1), (7, .own 3 (List.map encImage y5.1)), (8, .d (.map q4.2)), (9, vI y5.2.1), (10, .box [vI x6.Kind, vI x6.Unit, vS x6.Key, vB x6.Has, vS x6.Text]), (38, vI x6.Kind), (45, vB (x6.Kind == 1))] (by kernel_rfl) <| OWk.done (by kernel_rfl) ?_
                    exact ⟨(x6.Kind == 1), [], by kernel_rfl, h⟩
            · refine SW.seq <| SW.regionK <| OWk.sg 70 y5.2.2 [] [0, 1, 7, 8, 9, 10, 38, 39] 2 [(0, .d (.list 5 (List.map encNote p0))), (1, vI p1), (7, .own 3 (List.map encImage y5.1)), (8, .d (.map q4.2)), (9, vI y5.2.1), (10, .box [vI x6.Kind, vI x6.Unit, vS x6.Key, vB x6.Has, vS x6.Text]), (38, vI x6.Kind), (39, vB (x6.Kind == 4))] (by kernel_rfl) <| OWk.done (by kernel_rfl) <| thenS_n ?_
              refine SW.case (x6.Kind == 4) (fun b => (sp 70 [(0, .d (.list 5 (List.map encNote p0))), (1, vI p1), (7, .own 3 (List.map encImage y5.1)), (8, .d (.map q4.2)), (9, vI y5.2.1), (10, .box [vI x6.Kind, vI x6.Unit, vS x6.Key, vB x6.Has, vS x6.Text]), (38, vI x6.Kind), (39, vB b)] y5.2.2)) (by kernel_rfl) (fun hc => ?_) (fun hc => ?_)
              · replace h := bif_t hc h
                refine SW.condT (by kernel_rfl) <| SW.skip ?_
                exact ⟨true, [], by kernel_rfl, h⟩
              · replace h := bif_f hc h
                refine SW.condF (by kernel_rfl) <| SW.regionK <| OWk.sg 70 y5.2.2 [] [0, 1, 7, 8, 9, 10, 38, 39] 2 [(0, .d (.list 5 (List.map encNote p0))), (1, vI p1), (7, .own 3 (List.map encImage y5.1)), (8, .d (.map q4.2)), (9, vI y5.2.1), (10, .box [vI x6.Kind, vI x6.Unit, vS x6.Key, vB x6.Has, vS x6.Text]), (38, vI x6.Kind), (39, vB (x6.Kind == 5))] (by kernel_rfl) <| OWk.done (by kernel_rfl) ?_
                exact ⟨(x6.Kind == 5), [], by kernel_rfl, h⟩
          · replace h := bif_f hc h
            refine SW.kp 70 y5.2.2 [7] [(7, .own 3 (List.map encImage y5.1))] (by kernel_rfl) <| SW.exit <| thenS_e ?_
            cases h
            refine thenS_e ?_
            exact ⟨_, rfl, ⟨rfl, rfl⟩⟩
        · rintro _ _ ⟨rfl, rfl⟩
          refine blockS_hit <| thenS_n <| SW.seq <| SW.regionK <| OWk.on 70 v15.2 (d := some 67) (s := .als 7) [7, 67] [(7, .own 3 (List.map encImage v15.1)), (67, .als 7)] (BAt.als (s := 7) (by kernel_rfl)) (by kernel_rfl) ?_
          obtain ⟨r16, hr, h⟩ := bind_inv h
          refine OWk.ic (s := 7) (p := none) (d := some 68) 70 v15.2 [7] [(7, .own 3 (List.map encImage r16))] (slices_Reverse_ok hr) (by kernel_rfl) (by kernel_rfl) <| OWk.done (by kernel_rfl) <| thenS_n <| SW.seq <| SW.regionK <| OWk.sg 70 v15.2 [69] [4, 5] 3 [(4, .own 3 (List.map encImage r16)), (5, vI 0)] (by kernel_rfl) <| OWk.done (by kernel_rfl) <| thenS_n <| SW.ret ?_
          cases h
          exact EndL.ret [] (by kernel_rfl)
    · refine SW.regionK <| OWk.sg 70 [] [] [0, 1, 18] 3 [(0, .d (.list 5 (List.map encNote p0))), (1, vI p1), (18, vB (decide (p1 < 0)))] (by kernel_rfl) ?_
      refine OWk.case (decide (p1 < 0)) (fun b => (sp 70 [(0, .d (.list 5 (List.map encNote p0))), (1, vI p1), (18, vB b)] [])) (by kernel_rfl) (fun hc => ?_) (fun hc => ?_)
      · replace h := bif_t hc h
        refine OWk.sg 70 [] [] [0, 1, 23] 5 [(0, .d (.list 5 (List.map encNote p0))), (1, vI p1), (23, vB true)] (by kernel_rfl) <| OWk.done (by kernel_rfl) ?_
        exact ⟨true, [], by kernel_rfl, h⟩
      · replace h := bif_f hc h
        refine OWk.sg 70 [] [] [0, 1, 18, 19, 20] 2 [(0, .d (.list 5 (List.map encNote p0))), (1, vI p1), (18, vB false), (19, vI p1), (20, .d (.list 5 (List.map encNote p0)))] (by kernel_rfl) <| OWk.on 70 [] (d := some 21) [0, 1, 18, 19, 21] [(0, .d (.list 5 (List.map encNote p0))), (1, vI p1), (18, vB false), (19, vI p1), (21, vI (p0.length : Int))] (BAt.len (enc := encNote) (xs := p0) (by kernel_rfl)) (by kernel_rfl) <| OWk.sg 70 [] [] [0, 1, 23] 2 [(0, .d (.list 5 (List.map encNote p0))), (1, vI p1), (23, vB (decide (p1 > (p0.length : Int))))] (by kernel_rfl) <| OWk.done (by kernel_rfl) ?_
        exact ⟨(decide (p1 > (p0.length : Int))), [], by kernel_rfl, h⟩
def j_Apply_1 (fuel : Nat) (p0 : Image) : Option (Bool) :=
  (j_image fuel p0).bind fun r1 =>
  some (!r1)
theorem j_Apply_1_ok {fuel : Nat} {p0 : Image} {r : Bool} (h : j_Apply_1 fuel p0 = some r) : PC Tryz.prog 55 [.d (encImage p0)] (vB r) := by
  refine PC.of_SW Tryz.func55 rfl fun H => ?_
  unfold j_Apply_1 at h
  refine SW.kp 6 H [0] [(0, .d (.agg [.str p0.Key, .bool p0.Has, .str p0.Text]))] (by kernel_rfl) <| SW.seq <| SW.regionK <| OWk.sg 6 H [] [1] 2 [(1, .box [vS p0.Key, vB p0.Has, vS p0.Text])] (by kernel_rfl) <| OWk.done (by kernel_rfl) <| thenS_n <| SW.seq <| SW.regionK <| OWk.sg 6 H [] [3] 1 [(3, .d (.agg [.str p0.Key, .bool p0.Has, .str p0.Text]))] (by kernel_rfl) ?_
  obtain ⟨r1, hr, h⟩ := bind_inv h
  refine OWk.cl 6 H (d := some 4) (ls := []) (gs := []) [] [4] [(4, vB r1)] (j_image_ok hr) (by kernel_rfl) (by kernel_rfl) (by kernel_rfl) <| OWk.sg 6 H [] [2] 2 [(2, vB (!r1))] (by kernel_rfl) <| OWk.done (by kernel_rfl) <| thenS_n <| SW.ret ?_
  cases h
  exact EndQ.ret [] (by kernel_rfl) rfl
def slices_IndexFunc__j_Apply_1_l1 (fuel : Nat) (p0 : (List Image)) (y1 : Int) : Option ((Int) ⊕ ((Unit) ⊕ ((Int)))) :=
  bif (decide (y1 < (p0.length : Int))) then
    (idx p0 y1).bind fun x2 =>
    (j_Apply_1 fuel x2).bind fun r3 =>
    bif r3 then
      some (.inr (.inr y1))
    else
      some (.inl (IntKind.wrap .i64 (y1 + 1)))
  else
    some (.inr (.inl ()))
def slices_IndexFunc__j_Apply_1 (fuel : Nat) (p0 : (List Image)) : Option (Int) :=
  (iter (slices_IndexFunc__j_Apply_1_l1 fuel p0) fuel 0).bind (Sum.elim (fun v5 =>
    some (-1)) (fun r6 =>
    some r6))
theorem slices_IndexFunc__j_Apply_1_ok {fuel : Nat} {p0 : (List Image)} {r : Int} (h : slices_IndexFunc__j_Apply_1 fuel p0 = some r) : PC Tryz.prog 76 [.d (.list 3 (List.map encImage p0)), .d (.fn (.func 55) [] [])] (vI r) := by
  refine PC.of_SW Tryz.func76 rfl fun H => ?_
  unfold slices_IndexFunc__j_Apply_1 at h
  refine SW.kp 19 H [0, 1] [(0, .d (.list 3 (List.map encImage p0))), (1, .d (.fn (.func 55) [] []))] (by kernel_rfl) <| SW.seq <| SW.regionK <| OWk.sg 19 H [] [0, 1] 1 [(0, .d (.list 3 (List.map encImage p0))), (1, .d (.fn (.func 55) [] []))] (by kernel_rfl) <| OWk.done (by kernel_rfl) <| thenS_n <| SW.seq <| SW.seq <| SW.regionK <| OWk.sg 19 H [] [0, 1, 6] 1 [(0, .d (.list 3 (List.map encImage p0))), (1, .d (.fn (.func 55) [] [])), (6, .d (.list 3 (List.map encImage p0)))] (by kernel_rfl) <| OWk.on 19 H (d := some 7) [0, 1, 7] [(0, .d (.list 3 (List.map encImage p0))), (1, .d (.fn (.func 55) [] [])), (7, vI (p0.length : Int))] (BAt.len (enc := encImage) (xs := p0) (by kernel_rfl)) (by kernel_rfl) <| OWk.sg 19 H [] [0, 1, 7, 8] 1 [(0, .d (.list 3 (List.map encImage p0))), (1, .d (.fn (.func 55) [] [])), (7, vI (p0.length : Int)), (8, vI 0)] (by kernel_rfl) <| OWk.done (by kernel_rfl) <| thenS_n <| SW.block ?_
  obtain ⟨z4, hit, h⟩ := bind_inv h
  refine SW.it 19 H [0, 1, 7, 8] (fun y1 => [(0, .d (.list 3 (List.map encImage p0))), (1, .d (.fn (.func 55) [] [])), (7, vI (p0.length : Int)), (8, vI y1)]) (fun b e s => ((∃ v5, b = (.inl v5) ∧ (e = .exit 0 ∧ s = (sp 19 [] H))) ∨ (∃ r6, b = (.inr r6) ∧ (e = .ret ∧ EndQ Tryz.prog Tryz.f76.results.toList H (vI r6) .ret s)))) hit (by kernel_rfl) (fun y1 o h => ?_) ?_
  · unfold slices_IndexFunc__j_Apply_1_l1 at h
    refine SW.seq <| SW.regionK <| OWk.sg 19 H [] [0, 1, 7, 8, 9] 1 [(0, .d (.list 3 (List.map encImage p0))), (1, .d (.fn (.func 55) [] [])), (7, vI (p0.length : Int)), (8, vI y1), (9, vB (decide (y1 < (p0.length : Int))))] (by kernel_rfl) <| OWk.done (by kernel_rfl) <| thenS_n <| SW.seq ?_
    refine SW.condB (b := (decide (y1 < (p0.length : Int)))) (by kernel_rfl) (fun hc => ?_) (fun hc => ?_)
    · replace h := bif_t hc h
      refine SW.skip <| thenS_n <| SW.seq <| SW.block <| SW.seq <| SW.regionK <| OWk.sg 19 H [] [0, 1, 5, 7, 8] 2 [(0, .d (.list 3 (List.map encImage p0))), (1, .d (.fn (.func 55) [] [])), (5, vI y1), (7, vI (p0.length : Int)), (8, vI y1)] (by kernel_rfl) <| OWk.done (by kernel_rfl) <| thenS_n <| SW.seq <| SW.regionK <| OWk.sg 19 H [] [0, 1, 5, 7, 8, 11, 12, 13] 3 [(0, .d (.list 3 (List.map encImage p0))), (1, .d (.fn (.func 55) [] [])), (5, vI y1), (7, vI (p0.length : Int)), (8, vI y1), (11, .d (.fn (.func 55) [] [])), (12, .d (.list 3 (List.map encImage p0))), (13, vI y1)] (by kernel_rfl) ?_
      obtain ⟨x2, hx, h⟩ := bind_inv h
      refine OWk.on 19 H (d := some 14) (s := lendP none (Go.Sh.D.cells (encImage x2))) [0, 1, 5, 7, 8, 11, 14] [(0, .d (.list 3 (List.map encImage p0))), (1, .d (.fn (.func 55) [] [])), (5, vI y1), (7, vI (p0.length : Int)), (8, vI y1), (11, .d (.fn (.func 55) [] [])), (14, .d (.dptr [.str x2.Key, .bool x2.Has, .str x2.Text]))] (BAt.index (n := 3) hx (by kernel_rfl)) (by kernel_rfl) <| OWk.sg 19 H [] [0, 1, 5, 7, 8, 11, 15] 1 [(0, .d (.list 3 (List.map encImage p0))), (1, .d (.fn (.func 55) [] [])), (5, vI y1), (7, vI (p0.length : Int)), (8, vI y1), (11, .d (.fn (.func 55) [] [])), (15, .d (.agg [.str x2.Key, .bool x2.Has, .str x2.Text]))] (by kernel_rfl) ?_
      obtain ⟨r3, hr, h⟩ := bind_inv h
      refine OWk.cl 19 H (d := some 16) (ls := []) (gs := []) [] [0, 1, 5, 7, 8, 16] [(0, .d (.list 3 (List.map encImage p0))), (1, .d (.fn (.func 55) [] [])), (5, vI y1), (7, vI (p0.length : Int)), (8, vI y1), (16, vB r3)] (j_Apply_1_ok hr) (by kernel_rfl) (by kernel_rfl) (by kernel_rfl) <| OWk.done (by kernel_rfl) <| thenS_n ?_
      refine SW.condB (b := r3) (by kernel_rfl) (fun hc => ?_) (fun hc => ?_)
      · replace h := bif_t hc h
        refine SW.seq <| SW.regionK <| OWk.sg 19 H [] [4] 2 [(4, vI y1)] (by kernel_rfl) <| OWk.done (by kernel_rfl) <| thenS_n <| SW.ret <| blockS_r <| thenS_r ?_
        cases h
        refine thenS_r ?_
        exact ⟨_, rfl, .inr (⟨y1, rfl, rfl, EndQ.ret [] (by kernel_rfl) rfl⟩)⟩
      · replace h := bif_f hc h
        refine SW.skip <| blockS_n <| thenS_n <| SW.regionK <| OWk.sg 19 H [] [0, 1, 7, 8] 2 [(0, .d (.list 3 (List.map encImage p0))), (1, .d (.fn (.func 55) [] [])), (7, vI (p0.length : Int)), (8, vI (IntKind.wrap .i64 (y1 + 1)))] (by kernel_rfl) <| OWk.done (by kernel_rfl) ?_
        cases h
        exact ⟨(IntKind.wrap .i64 (y1 + 1)), rfl, by kernel_rfl⟩
    · replace h := bif_f hc h
      refine SW.kp 19 H [] [] (by kernel_rfl) <| SW.exit <| thenS_e ?_
      cases h
      refine thenS_e ?_
      exact ⟨_, rfl, .inl ⟨(), rfl, rfl, rfl⟩⟩
  · rintro _ _ (⟨v5, rfl, rfl, rfl⟩ | ⟨r6, rfl, rfl, hE⟩)
    · replace h := sum_l h
      refine blockS_hit <| thenS_n <| SW.seq <| SW.regionK <| OWk.sg 19 H [] [4] 1 [(4, vI (-1))] (by kernel_rfl) <| OWk.done (by kernel_rfl) <| thenS_n <| SW.ret ?_
      cases h
      exact EndQ.ret [] (by kernel_rfl) rfl
    · replace h := sum_r h
      refine blockS_r <| thenS_r ?_
      cases h
      exact hE
def slices_ContainsFunc__j_Apply_1 (fuel : Nat) (p0 : (List Image)) : Option (Bool) :=
  (slices_IndexFunc__j_Apply_1 fuel p0).bind fun r1 =>
  some (decide (r1 ≥ 0))
theorem slices_ContainsFunc__j_Apply_1_ok {fuel : Nat} {p0 : (List Image)} {r : Bool} (h : slices_ContainsFunc__j_Apply_1 fuel p0 = some r) : PC Tryz.prog 54 [.d (.list 3 (List.map encImage p0)), .d (.fn (.func 55) [] [])] (vB r) := by
  refine PC.of_SW Tryz.func54 rfl fun H => ?_
  unfold slices_ContainsFunc__j_Apply_1 at h
  refine SW.kp 9 H [0, 1] [(0, .d (.list 3 (List.map encImage p0))), (1, .d (.fn (.func 55) [] []))] (by kernel_rfl) <| SW.seq <| SW.regionK <| OWk.sg 9 H [] [0, 1] 1 [(0, .d (.list 3 (List.map encImage p0))), (1, .d (.fn (.func 55) [] []))] (by kernel_rfl) <| OWk.done (by kernel_rfl) <| thenS_n <| SW.seq <| SW.regionK <| OWk.sg 9 H [] [5, 6] 2 [(5, .d (.list 3 (List.map encImage p0))), (6, .d (.fn (.func 55) [] []))] (by kernel_rfl) ?_
  obtain ⟨r1, hr, h⟩ := bind_inv h
  refine OWk.cl 9 H (d := some 7) (ls := []) (gs := []) [] [7] [(7, vI r1)] (slices_IndexFunc__j_Apply_1_ok hr) (by kernel_rfl) (by kernel_rfl) (by kernel_rfl) <| OWk.sg 9 H [] [4] 2 [(4, vB (decide (r1 ≥ 0)))] (by kernel_rfl) <| OWk.done (by kernel_rfl) <| thenS_n <| SW.ret ?_
  cases h
  exact EndQ.ret [] (by kernel_rfl) rfl
def slices_Clone (fuel : Nat) (p0 : (List Image)) : Option ((List Image)) :=
  nilB p0 fun b1 =>
  bif b1 then
    some ([] : List Image)
  else
    chk (decide ((([] : List Image) ++ p0).length ≤ room)) <|
    some (([] : List Image) ++ p0)
theorem slices_Clone_ok {fuel : Nat} {p0 : (List Image)} {r : (List Image)} (h : slices_Clone fuel p0 = some r) : PC Tryz.prog 56 [.d (.list 3 (List.map encImage p0))] (.own 3 (List.map encImage r)) := by
  refine PC.of_SW Tryz.func56 rfl fun H => ?_
  unfold slices_Clone at h
  refine SW.kp 8 H [0] [(0, .d (.list 3 (List.map encImage p0)))] (by kernel_rfl) <| SW.seq <| SW.regionK <| OWk.sg 8 H [] [0] 1 [(0, .d (.list 3 (List.map encImage p0)))] (by kernel_rfl) <| OWk.done (by kernel_rfl) <| thenS_n <| SW.seq <| SW.seq <| SW.regionK <| OWk.sg 8 H [] [0, 3] 1 [(0, .d (.list 3 (List.map encImage p0))), (3, .d (.list 3 (List.map encImage p0)))] (by kernel_rfl) ?_
  refine OWk.nilq (xs := List.map encImage p0) (d := some 4) (e := true) 8 H [0, 4] (fun b1 => [(0, .d (.list 3 (List.map encImage p0))), (4, vB b1)]) (by kernel_rfl) (fun _ => by kernel_rfl) (fun b1 hnil => ?_)
  replace h := nilB_inv h b1 (fun e => List.map_eq_nil_iff.1 (hnil e))
  refine OWk.done (by kernel_rfl) <| thenS_n ?_
  refine SW.condB (b := b1) (by kernel_rfl) (fun hc => ?_) (fun hc => ?_)
  · replace h := bif_t hc h
    refine SW.seq <| SW.regionK <| OWk.sg 8 H [] [2] 1 [(2, .own 3 (List.map encImage ([] : List Image)))] (by kernel_rfl) <| OWk.done (by kernel_rfl) <| thenS_n <| SW.ret <| thenS_r ?_
    cases h
    exact EndQ.ret [] (by kernel_rfl) rfl
  · replace h := bif_f hc h
    refine SW.skip <| thenS_n <| SW.seq <| SW.regionK <| OWk.sg 8 H [5] [5, 6] 2 [(5, .own 3 (List.map encImage ([] : List Image))), (6, .d (.list 3 (List.map encImage p0)))] (by kernel_rfl) ?_
    obtain ⟨hk, h⟩ := chk_inv h
    refine OWk.app 8 H (s := 5) (d := 7) (w := 3) [7] (zs := List.map encImage (([] : List Image) ++ p0)) [(7, .own 3 (List.map encImage (([] : List Image) ++ p0)))] (ys := (List.map encImage p0)) (by kernel_rfl) (map_append') (room_map hk) (by kernel_rfl) <| OWk.sg 8 H [5] [2] 1 [(2, .own 3 (List.map encImage (([] : List Image) ++ p0)))] (by kernel_rfl) <| OWk.done (by kernel_rfl) <| thenS_n <| SW.ret ?_
    cases h
    exact EndQ.ret [] (by kernel_rfl) rfl
theorem bytealg_CompareString (a b : ByteArray) (w : World) :
    Calls Tryz.prog 77 #[.string a, .string b] w fun e w' => e = .returned (.int .i64 (Lib.compareBytes a.data.toList b.data.toList)) ∧ w' = w := by
  go_enter Tryz.func77, Tryz.ntmps77
  go_wp2
  rw [run_callFunc_extern Tryz.func98 (by kernel_rfl) (by kernel_rfl) (by kernel_rfl) (e := Extern.BytealgCompare.compare) (by kernel_rfl), Lib.run_compareString]
  simp only [Result.andThen]
  rw [Oper.upon_value]
  go_wp2
  go_ret
  exact ⟨rfl, rfl⟩
theorem cmpS_ok {fuel : Nat} {p0 : (List UInt8)} {p1 : (List UInt8)} {r : Int} (h : cmpS fuel p0 p1 = some r) : PC Tryz.prog 77 [vS p0, vS p1] (vI r) := cmpS_pc h bytealg_CompareString
def strings_Compare (fuel : Nat) (p0 : (List UInt8)) (p1 : (List UInt8)) : Option (Int) :=
  (cmpS fuel p0 p1).bind fun r1 =>
  some r1
theorem strings_Compare_ok {fuel : Nat} {p0 : (List UInt8)} {p1 : (List UInt8)} {r : Int} (h : strings_Compare fuel p0 p1 = some r) : PC Tryz.prog 59 [vS p0, vS p1] (vI r) := by
  refine PC.of_SW Tryz.func59 rfl fun H => ?_
  unfold strings_Compare at h
  refine SW.kp 8 H [0, 1] [(0, vS p0), (1, vS p1)] (by kernel_rfl) <| SW.seq <| SW.regionK <| OWk.sg 8 H [] [0, 1] 1 [(0, vS p0), (1, vS p1)] (by kernel_rfl) <| OWk.done (by kernel_rfl) <| thenS_n <| SW.seq <| SW.regionK <| OWk.sg 8 H [] [5, 6] 2 [(5, vS p0), (6, vS p1)] (by kernel_rfl) ?_
  obtain ⟨r1, hr, h⟩ := bind_inv h
  refine OWk.cl 8 H (d := some 7) (ls := []) (gs := []) [] [7] [(7, vI r1)] (cmpS_ok hr) (by kernel_rfl) (by kernel_rfl) (by kernel_rfl) <| OWk.sg 8 H [] [4] 1 [(4, vI r1)] (by kernel_rfl) <| OWk.done (by kernel_rfl) <| thenS_n <| SW.ret ?_
  cases h
  exact EndQ.ret [] (by kernel_rfl) rfl
def j_Apply_2 (fuel : Nat) (p0 : Image) (p1 : (List UInt8)) : Option (Int) :=
  (strings_Compare fuel p0.Key p1).bind fun r1 =>
  some r1
theorem j_Apply_2_ok {fuel : Nat} {p0 : Image} {p1 : (List UInt8)} {r : Int} (h : j_Apply_2 fuel p0 p1 = some r) : PC Tryz.prog 58 [.d (encImage p0), vS p1] (vI r) := by
  refine PC.of_SW Tryz.func58 rfl fun H => ?_
  unfold j_Apply_2 at h
  refine SW.kp 9 H [0, 1] [(0, .d (.agg [.str p0.Key, .bool p0.Has, .str p0.Text])), (1, vS p1)] (by kernel_rfl) <| SW.seq <| SW.regionK <| OWk.sg 9 H [] [1, 2] 2 [(1, vS p1), (2, .box [vS p0.Key, vB p0.Has, vS p0.Text])] (by kernel_rfl) <| OWk.done (by kernel_rfl) <| thenS_n <| SW.seq <| SW.regionK <| OWk.sg 9 H [] [6, 7] 3 [(6, vS p0.Key), (7, vS p1)] (by kernel_rfl) ?_
  obtain ⟨r1, hr, h⟩ := bind_inv h
  refine OWk.cl 9 H (d := some 8) (ls := []) (gs := []) [] [8] [(8, vI r1)] (strings_Compare_ok hr) (by kernel_rfl) (by kernel_rfl) (by kernel_rfl) <| OWk.sg 9 H [] [4] 1 [(4, vI r1)] (by kernel_rfl) <| OWk.done (by kernel_rfl) <| thenS_n <| SW.ret ?_
  cases h
  exact EndQ.ret [] (by kernel_rfl) rfl
def slices_BinarySearchFunc__j_Apply_2_l1 (fuel : Nat) (p0 : (List Image)) (p1 : (List UInt8)) (y1 : Int × Int) : Option ((Int × Int) ⊕ (Int)) :=
  bif (decide (y1.1 < y1.2)) then
    (idx p0 (IntKind.wrap .i64 (Int.fdiv (IntKind.wrap .u64 (IntKind.wrap .i64 (y1.1 + y1.2))) (2 ^ 1)))).bind fun x2 =>
    (j_Apply_2 fuel x2 p1).bind fun r3 =>
    bif (decide (r3 < 0)) then
      some (.inl ((IntKind.wrap .i64 ((IntKind.wrap .i64 (Int.fdiv (IntKind.wrap .u64 (IntKind.wrap .i64 (y1.1 + y1.2))) (2 ^ 1))) + 1)), y1.2))
    else
      some (.inl (y1.1, (IntKind.wrap .i64 (Int.fdiv (IntKind.wrap .u64 (IntKind.wrap .i64 (y1.1 + y1.2))) (2 ^ 1)))))
  else
    some (.inr y1.1)
def slices_BinarySearchFunc__j_Apply_2 (fuel : Nat) (p0 : (List Image)) (p1 : (List UInt8)) : Option (Int × Bool) :=
  (iter (slices_BinarySearchFunc__j_Apply_2_l1 fuel p0 p1) fuel (0, (p0.length : Int))).bind fun v5 =>
  bif (decide (v5 < (p0.length : Int))) then
    (idx p0 v5).bind fun x6 =>
    (j_Apply_2 fuel x6 p1).bind fun r7 =>
    some (v5, (r7 == 0))
  else
    some (v5, false)
theorem slices_BinarySearchFunc__j_Apply_2_ok {fuel : Nat} {p0 : (List Image)} {p1 : (List UInt8)} {r : Int × Bool} (h : slices_BinarySearchFunc__j_Apply_2 fuel p0 p1 = some r) : PC Tryz.prog 57 [.d (.list 3 (List.map encImage p0)), vS p1, .d (.fn (.func 58) [] [])] (.tup [vI r.1, vB r.2]) := by
  refine PC.of_SW Tryz.func57 rfl fun H => ?_
  unfold slices_BinarySearchFunc__j_Apply_2 at h
  refine SW.kp 49 H [0, 1, 2] [(0, .d (.list 3 (List.map encImage p0))), (1, vS p1), (2, .d (.fn (.func 58) [] []))] (by kernel_rfl) <| SW.seq <| SW.regionK <| OWk.sg 49 H [] [0, 1, 2] 2 [(0, .d (.list 3 (List.map encImage p0))), (1, vS p1), (2, .d (.fn (.func 58) [] []))] (by kernel_rfl) <| OWk.done (by kernel_rfl) <| thenS_n <| SW.seq <| SW.regionK <| OWk.sg 49 H [] [0, 1, 2, 12] 1 [(0, .d (.list 3 (List.map encImage p0))), (1, vS p1), (2, .d (.fn (.func 58) [] [])), (12, .d (.list 3 (List.map encImage p0)))] (by kernel_rfl) <| OWk.on 49 H (d := some 13) [0, 1, 2, 13] [(0, .d (.list 3 (List.map encImage p0))), (1, vS p1), (2, .d (.fn (.func 58) [] [])), (13, vI (p0.length : Int))] (BAt.len (enc := encImage) (xs := p0) (by kernel_rfl)) (by kernel_rfl) <| OWk.sg 49 H [] [0, 1, 2, 8] 1 [(0, .d (.list 3 (List.map encImage p0))), (1, vS p1), (2, .d (.fn (.func 58) [] [])), (8, vI (p0.length : Int))] (by kernel_rfl) <| OWk.done (by kernel_rfl) <| thenS_n <| SW.seq <| SW.regionK <| OWk.sg 49 H [] [0, 1, 2, 8, 9, 10] 3 [(0, .d (.list 3 (List.map encImage p0))), (1, vS p1), (2, .d (.fn (.func 58) [] [])), (8, vI (p0.length : Int)), (9, vI 0), (10, vI (p0.length : Int))] (by kernel_rfl) <| OWk.done (by kernel_rfl) <| thenS_n <| SW.seq <| SW.block ?_
  obtain ⟨v5, hit, h⟩ := bind_inv h
  refine SW.it 49 H [0, 1, 2, 8, 9, 10] (fun y1 => [(0, .d (.list 3 (List.map encImage p0))), (1, vS p1), (2, .d (.fn (.func 58) [] [])), (8, vI (p0.length : Int)), (9, vI y1.1), (10, vI y1.2)]) (fun v5 e s => (e = .exit 0 ∧ s = (sp 49 [(0, .d (.list 3 (List.map encImage p0))), (1, vS p1), (2, .d (.fn (.func 58) [] [])), (8, vI (p0.length : Int)), (9, vI v5)] H))) hit (by kernel_rfl) (fun y1 o h => ?_) ?_
  · unfold slices_BinarySearchFunc__j_Apply_2_l1 at h
    refine SW.seq <| SW.seq <| SW.regionK <| OWk.sg 49 H [] [0, 1, 2, 8, 9, 10, 17] 3 [(0, .d (.list 3 (List.map encImage p0))), (1, vS p1), (2, .d (.fn (.func 58) [] [])), (8, vI (p0.length : Int)), (9, vI y1.1), (10, vI y1.2), (17, vB (decide (y1.1 < y1.2)))] (by kernel_rfl) <| OWk.done (by kernel_rfl) <| thenS_n ?_
    refine SW.condB (b := (decide (y1.1 < y1.2))) (by kernel_rfl) (fun hc => ?_) (fun hc => ?_)
    · replace h := bif_t hc h
      refine SW.skip <| thenS_n <| SW.block <| SW.seq <| SW.regionK <| OWk.sg 49 H [] [0, 1, 2, 8, 9, 10, 11] 7 [(0, .d (.list 3 (List.map encImage p0))), (1, vS p1), (2, .d (.fn (.func 58) [] [])), (8, vI (p0.length : Int)), (9, vI y1.1), (10, vI y1.2), (11, vI (IntKind.wrap .i64 (Int.fdiv (IntKind.wrap .u64 (IntKind.wrap .i64 (y1.1 + y1.2))) (2 ^ 1))))] (by kernel_rfl) <| OWk.done (by kernel_rfl) <| thenS_n <| SW.seq <| SW.regionK <| OWk.sg 49 H [] [0, 1, 2, 8, 9, 10, 11, 24, 25, 26] 3 [(0, .d (.list 3 (List.map encImage p0))), (1, vS p1), (2, .d (.fn (.func 58) [] [])), (8, vI (p0.length : Int)), (9, vI y1.1), (10, vI y1.2), (11, vI (IntKind.wrap .i64 (Int.fdiv (IntKind.wrap .u64 (IntKind.wrap .i64 (y1.1 + y1.2))) (2 ^ 1)))), (24, .d (.fn (.func 58) [] [])), (25, .d (.list 3 (List.map encImage p0))), (26, vI (IntKind.wrap .i64 (Int.fdiv (IntKind.wrap .u64 (IntKind.wrap .i64 (y1.1 + y1.2))) (2 ^ 1))))] (by kernel_rfl) ?_
      obtain ⟨x2, hx, h⟩ := bind_inv h
      refine OWk.on 49 H (d := some 27) (s := lendP none (Go.Sh.D.cells (encImage x2))) [0, 1, 2, 8, 9, 10, 11, 24, 27] [(0, .d (.list 3 (List.map encImage p0))), (1, vS p1), (2, .d (.fn (.func 58) [] [])), (8, vI (p0.length : Int)), (9, vI y1.1), (10, vI y1.2), (11, vI (IntKind.wrap .i64 (Int.fdiv (IntKind.wrap .u64 (IntKind.wrap .i64 (y1.1 + y1.2))) (2 ^ 1)))), (24, .d (.fn (.func 58) [] [])), (27, .d (.dptr [.str x2.Key, .bool x2.Has, .str x2.Text]))] (BAt.index (n := 3) hx (by kernel_rfl)) (by kernel_rfl) <| OWk.sg 49 H [] [0, 1, 2, 8, 9, 10, 11, 24, 28, 29] 2 [(0, .d (.list 3 (List.map encImage p0))), (1, vS p1), (2, .d (.fn (.func 58) [] [])), (8, vI (p0.length : Int)), (9, vI y1.1), (10, vI y1.2), (11, vI (IntKind.wrap .i64 (Int.fdiv (IntKind.wrap .u64 (IntKind.wrap .i64 (y1.1 + y1.2))) (2 ^ 1)))), (24, .d (.fn (.func 58) [] [])), (28, .d (.agg [.str x2.Key, .bool x2.Has, .str x2.Text])), (29, vS p1)] (by kernel_rfl) ?_
      obtain ⟨r3, hr, h⟩ := bind_inv h
      refine OWk.cl 49 H (d := some 30) (ls := []) (gs := []) [] [0, 1, 2, 8, 9, 10, 11, 30] [(0, .d (.list 3 (List.map encImage p0))), (1, vS p1), (2, .d (.fn (.func 58) [] [])), (8, vI (p0.length : Int)), (9, vI y1.1), (10, vI y1.2), (11, vI (IntKind.wrap .i64 (Int.fdiv (IntKind.wrap .u64 (IntKind.wrap .i64 (y1.1 + y1.2))) (2 ^ 1)))), (30, vI r3)] (j_Apply_2_ok hr) (by kernel_rfl) (by kernel_rfl) (by kernel_rfl) <| OWk.sg 49 H [] [0, 1, 2, 8, 9, 10, 11, 31] 1 [(0, .d (.list 3 (List.map encImage p0))), (1, vS p1), (2, .d (.fn (.func 58) [] [])), (8, vI (p0.length : Int)), (9, vI y1.1), (10, vI y1.2), (11, vI (IntKind.wrap .i64 (Int.fdiv (IntKind.wrap .u64 (IntKind.wrap .i64 (y1.1 + y1.2))) (2 ^ 1)))), (31, vB (decide (r3 < 0)))] (by kernel_rfl) <| OWk.done (by kernel_rfl) <| thenS_n ?_
      refine SW.condB (b := (decide (r3 < 0))) (by kernel_rfl) (fun hc => ?_) (fun hc => ?_)
      · replace h := bif_t hc h
        refine SW.regionK <| OWk.sg 49 H [] [0, 1, 2, 8, 9, 10] 3 [(0, .d (.list 3 (List.map encImage p0))), (1, vS p1), (2, .d (.fn (.func 58) [] [])), (8, vI (p0.length : Int)), (9, vI (IntKind.wrap .i64 ((IntKind.wrap .i64 (Int.fdiv (IntKind.wrap .u64 (IntKind.wrap .i64 (y1.1 + y1.2))) (2 ^ 1))) + 1))), (10, vI y1.2)] (by kernel_rfl) <| OWk.done (by kernel_rfl) <| blockS_n ?_
        cases h
        exact ⟨((IntKind.wrap .i64 ((IntKind.wrap .i64 (Int.fdiv (IntKind.wrap .u64 (IntKind.wrap .i64 (y1.1 + y1.2))) (2 ^ 1))) + 1)), y1.2), rfl, by kernel_rfl⟩
      · replace h := bif_f hc h
        refine SW.regionK <| OWk.sg 49 H [] [0, 1, 2, 8, 9, 10] 2 [(0, .d (.list 3 (List.map encImage p0))), (1, vS p1), (2, .d (.fn (.func 58) [] [])), (8, vI (p0.length : Int)), (9, vI y1.1), (10, vI (IntKind.wrap .i64 (Int.fdiv (IntKind.wrap .u64 (IntKind.wrap .i64 (y1.1 + y1.2))) (2 ^ 1))))] (by kernel_rfl) <| OWk.done (by kernel_rfl) <| blockS_n ?_
        cases h
        exact ⟨(y1.1, (IntKind.wrap .i64 (Int.fdiv (IntKind.wrap .u64 (IntKind.wrap .i64 (y1.1 + y1.2))) (2 ^ 1)))), rfl, by kernel_rfl⟩
    · replace h := bif_f hc h
      refine SW.kp 49 H [0, 1, 2, 8, 9] [(0, .d (.list 3 (List.map encImage p0))), (1, vS p1), (2, .d (.fn (.func 58) [] [])), (8, vI (p0.length : Int)), (9, vI y1.1)] (by kernel_rfl) <| SW.exit <| thenS_e ?_
      cases h
      refine thenS_e ?_
      exact ⟨_, rfl, ⟨rfl, rfl⟩⟩
  · rintro _ _ ⟨rfl, rfl⟩
    refine blockS_hit <| thenS_n <| SW.seq <| SW.regionK <| OWk.sg 49 H [] [0, 1, 2, 9, 35, 39] 5 [(0, .d (.list 3 (List.map encImage p0))), (1, vS p1), (2, .d (.fn (.func 58) [] [])), (9, vI v5), (35, vI v5), (39, vB (decide (v5 < (p0.length : Int))))] (by kernel_rfl) ?_
    refine OWk.case (decide (v5 < (p0.length : Int))) (fun b => (sp 49 [(0, .d (.list 3 (List.map encImage p0))), (1, vS p1), (2, .d (.fn (.func 58) [] [])), (9, vI v5), (35, vI v5), (39, vB b)] H)) (by kernel_rfl) (fun hc => ?_) (fun hc => ?_)
    · replace h := bif_t hc h
      refine OWk.sg 49 H [] [1, 35, 39, 40, 41, 42] 3 [(1, vS p1), (35, vI v5), (39, vB true), (40, .d (.fn (.func 58) [] [])), (41, .d (.list 3 (List.map encImage p0))), (42, vI v5)] (by kernel_rfl) ?_
      obtain ⟨x6, hx, h⟩ := bind_inv h
      refine OWk.on 49 H (d := some 43) (s := lendP none (Go.Sh.D.cells (encImage x6))) [1, 35, 39, 40, 43] [(1, vS p1), (35, vI v5), (39, vB true), (40, .d (.fn (.func 58) [] [])), (43, .d (.dptr [.str x6.Key, .bool x6.Has, .str x6.Text]))] (BAt.index (n := 3) hx (by kernel_rfl)) (by kernel_rfl) <| OWk.sg 49 H [] [35, 39, 40, 44, 45] 2 [(35, vI v5), (39, vB true), (40, .d (.fn (.func 58) [] [])), (44, .d (.agg [.str x6.Key, .bool x6.Has, .str x6.Text])), (45, vS p1)] (by kernel_rfl) ?_
      obtain ⟨r7, hr, h⟩ := bind_inv h
      refine OWk.cl 49 H (d := some 46) (ls := []) (gs := []) [] [35, 39, 46] [(35, vI v5), (39, vB true), (46, vI r7)] (j_Apply_2_ok hr) (by kernel_rfl) (by kernel_rfl) (by kernel_rfl) <| OWk.sg 49 H [] [6, 7] 4 [(6, vI v5), (7, vB (r7 == 0))] (by kernel_rfl) <| OWk.done (by kernel_rfl) <| thenS_n <| SW.ret ?_
      cases h
      exact EndQ.ret [] (by kernel_rfl) rfl
    · replace h := bif_f hc h
      refine OWk.sg 49 H [] [6, 7] 11 [(6, vI v5), (7, vB false)] (by kernel_rfl) <| OWk.done (by kernel_rfl) <| thenS_n <| SW.ret ?_
      cases h
      exact EndQ.ret [] (by kernel_rfl) rfl
def slices_Insert (fuel : Nat) (p0 : (List Image)) (p1 : Int) (p2 : (List Image)) : Option ((List Image)) :=
  chk (slOk p0 p1 (p0.length : Int)) <|
  bif ((p2.length : Int) == 0) then
    some p0
  else
    bif (p1 == (p0.length : Int)) then
      chk (decide ((p0 ++ p2).length ≤ room)) <|
      some (p0 ++ p2)
    else
      chk (decide (0 ≤ p1) && decide (p1 < (p0.length : Int)) && decide (0 < p2.length) && decide (p0.length + p2.length ≤ room)) <|
      some (List.take (Int.toNat p1) p0 ++ p2 ++ List.drop (Int.toNat p1) p0)
theorem slices_Insert_ok {fuel : Nat} {p0 : (List Image)} {p1 : Int} {p2 : (List Image)} {r : (List Image)} (h : slices_Insert fuel p0 p1 p2 = some r) : PC Tryz.prog 60 [.own 3 (List.map encImage p0), vI p1, .d (.list 3 (List.map encImage p2))] (.own 3 (List.map encImage r)) := by
  refine PC.of_SW Tryz.func60 rfl fun H => ?_
  unfold slices_Insert at h
  refine SW.kp 95 H [0, 1, 2] [(0, .own 3 (List.map encImage p0)), (1, vI p1), (2, .d (.list 3 (List.map encImage p2)))] (by kernel_rfl) <| SW.seq <| SW.regionK <| OWk.sg 95 H [] [0, 1, 2] 1 [(0, .own 3 (List.map encImage p0)), (1, vI p1), (2, .d (.list 3 (List.map encImage p2)))] (by kernel_rfl) <| OWk.done (by kernel_rfl) <| thenS_n <| SW.seq <| SW.regionK <| OWk.sg 95 H [] [0, 1, 2, 10, 11] 2 [(0, .own 3 (List.map encImage p0)), (1, vI p1), (2, .d (.list 3 (List.map encImage p2))), (10, .lent (.slot 0) 3 (List.map encImage p0)), (11, vI p1)] (by kernel_rfl) ?_
  obtain ⟨hk, h⟩ := chk_inv h
  refine OWk.on 95 H (d := some 12) (s := lendL (some (.slot 0)) 3 (List.map encImage (sl p0 p1 (p0.length : Int)))) [0, 1, 2] [(0, .own 3 (List.map encImage p0)), (1, vI p1), (2, .d (.list 3 (List.map encImage p2)))] (BAt.slice hk (by kernel_rfl)) (by kernel_rfl) <| OWk.done (by kernel_rfl) <| thenS_n <| SW.seq <| SW.regionK <| OWk.sg 95 H [] [0, 1, 2, 13] 1 [(0, .own 3 (List.map encImage p0)), (1, vI p1), (2, .d (.list 3 (List.map encImage p2))), (13, .d (.list 3 (List.map encImage p2)))] (by kernel_rfl) <| OWk.on 95 H (d := some 14) [0, 1, 2, 14] [(0, .own 3 (List.map encImage p0)), (1, vI p1), (2, .d (.list 3 (List.map encImage p2))), (14, vI (p2.length : Int))] (BAt.len (enc := encImage) (xs := p2) (by kernel_rfl)) (by kernel_rfl) <| OWk.sg 95 H [] [0, 1, 2, 7] 1 [(0, .own 3 (List.map encImage p0)), (1, vI p1), (2, .d (.list 3 (List.map encImage p2))), (7, vI (p2.length : Int))] (by kernel_rfl) <| OWk.done (by kernel_rfl) <| thenS_n <| SW.seq <| SW.seq <| SW.regionK <| OWk.sg 95 H [] [0, 1, 2, 7, 16] 2 [(0, .own 3 (List.map encImage p0)), (1, vI p1), (2, .d (.list 3 (List.map encImage p2))), (7, vI (p2.length : Int)), (16, vB ((p2.length : Int) == 0))] (by kernel_rfl) <| OWk.done (by kernel_rfl) <| thenS_n ?_
  refine SW.condB (b := ((p2.length : Int) == 0)) (by kernel_rfl) (fun hc => ?_) (fun hc => ?_)
  · replace h := bif_t hc h
    refine SW.seq <| SW.regionK <| OWk.sg 95 H [17] [6] 2 [(6, .own 3 (List.map encImage p0))] (by kernel_rfl) <| OWk.done (by kernel_rfl) <| thenS_n <| SW.ret <| thenS_r ?_
    cases h
    exact EndQ.ret [] (by kernel_rfl) rfl
  · replace h := bif_f hc h
    refine SW.skip <| thenS_n <| SW.seq <| SW.regionK <| OWk.sg 95 H [] [0, 1, 2, 7, 18] 1 [(0, .own 3 (List.map encImage p0)), (1, vI p1), (2, .d (.list 3 (List.map encImage p2))), (7, vI (p2.length : Int)), (18, .lent (.slot 0) 3 (List.map encImage p0))] (by kernel_rfl) <| OWk.on 95 H (d := some 19) [0, 1, 2, 7, 19] [(0, .own 3 (List.map encImage p0)), (1, vI p1), (2, .d (.list 3 (List.map encImage p2))), (7, vI (p2.length : Int)), (19, vI (p0.length : Int))] (BAt.len (enc := encImage) (xs := p0) (by kernel_rfl)) (by kernel_rfl) <| OWk.sg 95 H [] [0, 1, 2, 7, 8] 1 [(0, .own 3 (List.map encImage p0)), (1, vI p1), (2, .d (.list 3 (List.map encImage p2))), (7, vI (p2.length : Int)), (8, vI (p0.length : Int))] (by kernel_rfl) <| OWk.done (by kernel_rfl) <| thenS_n <| SW.seq <| SW.seq <| SW.regionK <| OWk.sg 95 H [] [0, 1, 2, 7, 8, 22] 3 [(0, .own 3 (List.map encImage p0)), (1, vI p1), (2, .d (.list 3 (List.map encImage p2))), (7, vI (p2.length : Int)), (8, vI (p0.length : Int)), (22, vB (p1 == (p0.length : Int)))] (by kernel_rfl) <| OWk.done (by kernel_rfl) <| thenS_n ?_
    refine SW.condB (b := (p1 == (p0.length : Int))) (by kernel_rfl) (fun hc => ?_) (fun hc => ?_)
    · replace h := bif_t hc h
      refine SW.seq <| SW.regionK <| OWk.sg 95 H [23] [23, 24] 2 [(23, .own 3 (List.map encImage p0)), (24, .d (.list 3 (List.map encImage p2)))] (by kernel_rfl) ?_
      obtain ⟨hk, h⟩ := chk_inv h
      refine OWk.app 95 H (s := 23) (d := 25) (w := 3) [25] (zs := List.map encImage (p0 ++ p2)) [(25, .own 3 (List.map encImage (p0 ++ p2)))] (ys := (List.map encImage p2)) (by kernel_rfl) (map_append') (room_map hk) (by kernel_rfl) <| OWk.sg 95 H [23] [6] 1 [(6, .own 3 (List.map encImage (p0 ++ p2)))] (by kernel_rfl) <| OWk.done (by kernel_rfl) <| thenS_n <| SW.ret <| thenS_r ?_
      cases h
      exact EndQ.ret [] (by kernel_rfl) rfl
    · replace h := bif_f hc h
      refine SW.skip <| thenS_n ?_
      obtain ⟨hk, h⟩ := chk_inv h
      refine SW.kp 95 H [0, 1, 2, 7, 8] [(0, .own 3 (List.map encImage p0)), (1, vI p1), (2, .d (.list 3 (List.map encImage p2))), (7, vI (p2.length : Int)), (8, vI (p0.length : Int))] (by kernel_rfl) ?_
      obtain ⟨hT, ti, z, zd, hi, hz, hzd, hzn, hsz, hn, hby⟩ := elemB_spec (P := Tryz.prog) (T := 44) (e := 48) (n := 3) (by kernel_rfl)
      refine SW.insM (enc := encImage) (xs := p0) (ys := p2) (i := p1) (T := 44) (I := 3) (B := 4) (fo := 78) (ik := .i64) hk hT (by kernel_rfl) hi hz hzd hzn hsz hn hby (fun args w => run_callFunc_extern Tryz.func78 (by kernel_rfl) (by kernel_rfl) (by kernel_rfl) (by kernel_rfl) args w) (by kernel_rfl) (by kernel_rfl) (by kernel_rfl) ⟨rfl, rfl, rfl⟩ ⟨rfl, rfl, rfl⟩ ⟨rfl, rfl, rfl⟩ ⟨rfl, rfl, rfl⟩ ⟨rfl, rfl, rfl⟩ ⟨rfl, rfl, rfl⟩ ⟨rfl, rfl, rfl⟩ ⟨rfl, rfl, rfl⟩ ⟨rfl, rfl, rfl⟩ ⟨rfl, rfl, rfl⟩ ⟨rfl, rfl, rfl⟩ ⟨rfl, rfl, rfl⟩ ⟨rfl, rfl, rfl⟩ ⟨rfl, rfl, rfl⟩ ⟨rfl, rfl, rfl⟩ ⟨rfl, rfl, rfl⟩ ⟨rfl, rfl, rfl⟩ ⟨rfl, rfl, rfl⟩ ⟨rfl, rfl, rfl⟩ ⟨rfl, rfl, rfl⟩ ⟨rfl, rfl, rfl⟩ ⟨rfl, rfl, rfl⟩ ⟨rfl, rfl, rfl⟩ ⟨rfl, rfl, rfl⟩ ⟨rfl, rfl, rfl⟩ ⟨rfl, rfl, rfl⟩ ⟨rfl, rfl, rfl⟩ ⟨rfl, rfl, rfl⟩ ⟨rfl, rfl, rfl⟩ ⟨rfl, rfl, rfl⟩ ⟨rfl, rfl, rfl⟩ ⟨rfl, rfl, rfl⟩ ⟨rfl, rfl, rfl⟩ ⟨rfl, rfl, rfl⟩ ⟨rfl, rfl, rfl⟩ ⟨rfl, rfl, rfl⟩ ⟨rfl, rfl, rfl⟩ ⟨rfl, rfl, rfl⟩ ⟨rfl, rfl, rfl⟩ ⟨rfl, rfl, rfl⟩ ⟨rfl, rfl, rfl⟩ ⟨rfl, rfl, rfl⟩ ⟨rfl, rfl, rfl⟩ ⟨rfl, rfl, rfl⟩ ⟨rfl, rfl, rfl⟩ ⟨rfl, rfl, rfl⟩ ⟨rfl, rfl, rfl⟩ ⟨rfl, rfl, rfl⟩ ⟨rfl, rfl, rfl⟩ ⟨rfl, rfl, rfl⟩ ⟨rfl, rfl, rfl⟩ ⟨rfl, rfl, rfl⟩ ⟨rfl, rfl, rfl⟩ ⟨rfl, rfl, rfl⟩ ⟨rfl, rfl, rfl⟩ ⟨rfl, rfl, rfl⟩ ⟨rfl, rfl, rfl⟩ ⟨rfl, rfl, rfl⟩ ⟨rfl, rfl, rfl⟩ ⟨rfl, rfl, rfl⟩ ⟨rfl, rfl, rfl⟩ ⟨rfl, rfl, rfl⟩ ?_
      cases h
      exact EndQ.ret [] (by kernel_rfl) rfl
def slices_Delete (fuel : Nat) (p0 : (List Image)) (p1 : Int) (p2 : Int) : Option ((List Image)) :=
  chk (decide (0 ≤ p1) && decide (p1 ≤ p2) && decide (p2 ≤ (p0.length : Int)) && decide ((p0.length : Int) ≤ p0.length)) <|
  bif (p1 == p2) then
    some p0
  else
    chk (decide (0 ≤ p1) && decide (p1 < p2) && decide (p2 ≤ (p0.length : Int)) && decide (p0.length ≤ room)) <|
    some (List.take (Int.toNat p1) p0 ++ List.drop (Int.toNat p2) p0)
theorem slices_Delete_ok {fuel : Nat} {p0 : (List Image)} {p1 : Int} {p2 : Int} {r : (List Image)} (h : slices_Delete fuel p0 p1 p2 = some r) : PC Tryz.prog 61 [.own 3 (List.map encImage p0), vI p1, vI p2] (.own 3 (List.map encImage r)) := by
  refine PC.of_SW Tryz.func61 rfl fun H => ?_
  unfold slices_Delete at h
  refine SW.kp 33 H [0, 1, 2] [(0, .own 3 (List.map encImage p0)), (1, vI p1), (2, vI p2)] (by kernel_rfl) <| SW.seq <| SW.regionK <| OWk.sg 33 H [] [0, 1, 2] 1 [(0, .own 3 (List.map encImage p0)), (1, vI p1), (2, vI p2)] (by kernel_rfl) <| OWk.done (by kernel_rfl) <| thenS_n <| SW.seq <| SW.regionK <| OWk.sg 33 H [] [0, 1, 2, 8, 9, 10, 11] 4 [(0, .own 3 (List.map encImage p0)), (1, vI p1), (2, vI p2), (8, .lent (.slot 0) 3 (List.map encImage p0)), (9, vI p1), (10, vI p2), (11, .lent (.slot 0) 3 (List.map encImage p0))] (by kernel_rfl) <| OWk.on 33 H (d := some 12) [0, 1, 2, 8, 9, 10, 12] [(0, .own 3 (List.map encImage p0)), (1, vI p1), (2, vI p2), (8, .lent (.slot 0) 3 (List.map encImage p0)), (9, vI p1), (10, vI p2), (12, vI (p0.length : Int))] (BAt.len (enc := encImage) (xs := p0) (by kernel_rfl)) (by kernel_rfl) ?_
  obtain ⟨hk, h⟩ := chk_inv h
  refine OWk.on 33 H (d := some 13) (s := .undef) [0, 1, 2] [(0, .own 3 (List.map encImage p0)), (1, vI p1), (2, vI p2)] (BAt.sl3 (enc := encImage) (xs := p0) hk (by kernel_rfl)) (by kernel_rfl) <| OWk.done (by kernel_rfl) <| thenS_n <| SW.seq <| SW.seq <| SW.regionK <| OWk.sg 33 H [] [0, 1, 2, 16] 3 [(0, .own 3 (List.map encImage p0)), (1, vI p1), (2, vI p2), (16, vB (p1 == p2))] (by kernel_rfl) <| OWk.done (by kernel_rfl) <| thenS_n ?_
  refine SW.condB (b := (p1 == p2)) (by kernel_rfl) (fun hc => ?_) (fun hc => ?_)
  · replace h := bif_t hc h
    refine SW.seq <| SW.regionK <| OWk.sg 33 H [17] [6] 2 [(6, .own 3 (List.map encImage p0))] (by kernel_rfl) <| OWk.done (by kernel_rfl) <| thenS_n <| SW.ret <| thenS_r ?_
    cases h
    exact EndQ.ret [] (by kernel_rfl) rfl
  · replace h := bif_f hc h
    refine SW.skip <| thenS_n <| SW.seq <| SW.regionK <| OWk.sg 33 H [] [0, 1, 2, 18] 1 [(0, .own 3 (List.map encImage p0)), (1, vI p1), (2, vI p2), (18, .lent (.slot 0) 3 (List.map encImage p0))] (by kernel_rfl) <| OWk.on 33 H (d := some 19) [0, 1, 2, 19] [(0, .own 3 (List.map encImage p0)), (1, vI p1), (2, vI p2), (19, vI (p0.length : Int))] (BAt.len (enc := encImage) (xs := p0) (by kernel_rfl)) (by kernel_rfl) <| OWk.sg 33 H [] [0, 1, 2, 7] 1 [(0, .own 3 (List.map encImage p0)), (1, vI p1), (2, vI p2), (7, vI (p0.length : Int))] (by kernel_rfl) <| OWk.done (by kernel_rfl) <| thenS_n ?_
    obtain ⟨hk, h⟩ := chk_inv h
    refine SW.kp 33 H [0, 1, 2, 7] [(0, .own 3 (List.map encImage p0)), (1, vI p1), (2, vI p2), (7, vI (p0.length : Int))] (by kernel_rfl) ?_
    obtain ⟨hT, ti, z, zd, hi, hz, hzd, hzn, hsz, hn, hby⟩ := elemB_spec (P := Tryz.prog) (T := 44) (e := 48) (n := 3) (by kernel_rfl)
    refine SW.delM (enc := encImage) (xs := p0) (i := p1) (j := p2) (T := 44) (s := 0) (a1 := 1) (a2 := 2) (a3 := 7) (t1 := 20) (t2 := 21) (t3 := 22) (t4 := 23) (t5 := 24) (t6 := 25) (t7 := 26) (u1 := 27) (u2 := 28) (u3 := 29) (u4 := 30) (u5 := 31) (st2 := (sp 33 [(0, .own 3 (List.map encImage (List.take (Int.toNat p1) p0 ++ List.drop (Int.toNat p2) p0))), (1, vI p1), (2, vI p2), (7, vI (p0.length : Int))] H)) hk (by kernel_rfl) (by kernel_rfl) ⟨rfl, rfl, rfl⟩ ⟨rfl, rfl, rfl⟩ ⟨rfl, rfl, rfl⟩ ⟨rfl, rfl, rfl⟩ ⟨rfl, rfl, rfl⟩ ⟨rfl, rfl, rfl⟩ ⟨rfl, rfl, rfl⟩ ⟨rfl, rfl, rfl⟩ ⟨rfl, rfl, rfl⟩ ⟨rfl, rfl, rfl⟩ ⟨rfl, rfl, rfl⟩ ⟨rfl, rfl, rfl⟩ ⟨rfl, rfl, rfl⟩ ⟨rfl, rfl, rfl⟩ (by kernel_rfl) (by kernel_rfl) (by decide) (by decide) hT hi hz hzd hzn hsz hn hby (by kernel_rfl) (by kernel_rfl) (by kernel_rfl) (by kernel_rfl) (by kernel_rfl) <| SW.kp 33 H [0] [(0, .own 3 (List.map encImage (List.take (Int.toNat p1) p0 ++ List.drop (Int.toNat p2) p0)))] (by kernel_rfl) <| SW.seq <| SW.regionK <| OWk.sg 33 H [32] [6] 2 [(6, .own 3 (List.map encImage (List.take (Int.toNat p1) p0 ++ List.drop (Int.toNat p2) p0)))] (by kernel_rfl) <| OWk.done (by kernel_rfl) <| thenS_n <| SW.ret ?_
    cases h
    exact EndQ.ret [] (by kernel_rfl) rfl
def j_Apply_l1 (fuel : Nat) (p1 : (List Image)) (y6 : (List Image) × Int) : Option (((List Image) × Int) ⊕ ((List Image))) :=
  bif (decide (y6.2 < (p1.length : Int))) then
    (idx p1 y6.2).bind fun x7 =>
    (slices_BinarySearchFunc__j_Apply_2 fuel y6.1 x7.Key).bind fun r8 =>
    bif (x7.Has && r8.2) then
      (idx y6.1 r8.1).bind fun x9 =>
      chk (decide ((Int.toNat r8.1) < y6.1.length)) <|
      some (.inl ((List.set y6.1 (Int.toNat r8.1) x7), (IntKind.wrap .i64 (y6.2 + 1))))
    else
      bif x7.Has then
        (slices_Insert fuel y6.1 r8.1 [x7]).bind fun r10 =>
        some (.inl (r10, (IntKind.wrap .i64 (y6.2 + 1))))
      else
        bif r8.2 then
          (slices_Delete fuel y6.1 r8.1 (IntKind.wrap .i64 (r8.1 + 1))).bind fun r11 =>
          some (.inl (r11, (IntKind.wrap .i64 (y6.2 + 1))))
        else
          some (.inl (y6.1, (IntKind.wrap .i64 (y6.2 + 1))))
  else
    some (.inr y6.1)
def j_Apply (fuel : Nat) (p0 : (List Image)) (p1 : (List Image)) : Option ((List Image) × Int) :=
  letJ (fun (j1 : Bool) =>
    bif j1 then
      some (([] : List Image), 1)
    else
      (slices_Clone fuel p0).bind fun r5 =>
      (iter (j_Apply_l1 fuel p1) fuel (r5, 0)).bind fun v13 =>
      bif (decide ((v13.length : Int) > 500)) then
        some (([] : List Image), 4)
      else
        some (v13, 0)) fun jp2 =>
  (j_ordered fuel p0).bind fun r3 =>
  bif (!r3) then
    jp2 true
  else
    (slices_ContainsFunc__j_Apply_1 fuel p1).bind fun r4 =>
    jp2 r4
theorem j_Apply_ok {fuel : Nat} {p0 : (List Image)} {p1 : (List Image)} {r : (List Image) × Int} (h : j_Apply fuel p0 p1 = some r) : PC Tryz.prog 42 [.d (.list 3 (List.map encImage p0)), .d (.list 3 (List.map encImage p1))] (.tup [.own 3 (List.map encImage r.1), vI r.2]) := by
  refine PC.of_SW Tryz.func42 rfl fun H => ?_
  unfold j_Apply at h
  refine SW.kp 63 H [0, 1] [(0, .d (.list 3 (List.map encImage p0))), (1, .d (.list 3 (List.map encImage p1)))] (by kernel_rfl) <| SW.seq <| SW.regionK <| OWk.sg 63 H [] [0, 1] 2 [(0, .d (.list 3 (List.map encImage p0))), (1, .d (.list 3 (List.map encImage p1)))] (by kernel_rfl) <| OWk.done (by kernel_rfl) <| thenS_n <| SW.seq ?_
  obtain ⟨jp2, hjjp2, h⟩ := letJ_inv h
  refine SW.jn 63 H [0, 1, 17] (fun (j1 : Bool) => [(0, .d (.list 3 (List.map encImage p0))), (1, .d (.list 3 (List.map encImage p1))), (17, vB j1)]) (fun v => jp2 v = some r) (fun j1 h => ?_) ?_
  · rw [hjjp2] at h
    refine SW.condB (b := j1) (by kernel_rfl) (fun hc => ?_) (fun hc => ?_)
    · replace h := bif_t hc h
      refine SW.seq <| SW.regionK <| OWk.sg 63 H [] [4, 5] 2 [(4, .own 3 (List.map encImage ([] : List Image))), (5, vI 1)] (by kernel_rfl) <| OWk.done (by kernel_rfl) <| thenS_n <| SW.ret <| thenS_r ?_
      cases h
      exact EndQ.ret [] (by kernel_rfl) rfl
    · replace h := bif_f hc h
      refine SW.skip <| thenS_n <| SW.seq <| SW.regionK <| OWk.sg 63 H [] [1, 18] 1 [(1, .d (.list 3 (List.map encImage p1))), (18, .d (.list 3 (List.map encImage p0)))] (by kernel_rfl) ?_
      obtain ⟨r5, hr, h⟩ := bind_inv h
      refine OWk.cl 63 H (d := some 19) (ls := []) (gs := []) [] [1, 19] [(1, .d (.list 3 (List.map encImage p1))), (19, .own 3 (List.map encImage r5))] (slices_Clone_ok hr) (by kernel_rfl) (by kernel_rfl) (by kernel_rfl) <| OWk.sg 63 H [] [1, 6] 1 [(1, .d (.list 3 (List.map encImage p1))), (6, .own 3 (List.map encImage r5))] (by kernel_rfl) <| OWk.done (by kernel_rfl) <| thenS_n <| SW.seq <| SW.seq <| SW.regionK <| OWk.sg 63 H [] [6, 20] 1 [(6, .own 3 (List.map encImage r5)), (20, .d (.list 3 (List.map encImage p1)))] (by kernel_rfl) <| OWk.on 63 H (d := some 21) [6, 20, 21] [(6, .own 3 (List.map encImage r5)), (20, .d (.list 3 (List.map encImage p1))), (21, vI (p1.length : Int))] (BAt.len (enc := encImage) (xs := p1) (by kernel_rfl)) (by kernel_rfl) <| OWk.sg 63 H [] [6, 20, 21, 22] 1 [(6, .own 3 (List.map encImage r5)), (20, .d (.list 3 (List.map encImage p1))), (21, vI (p1.length : Int)), (22, vI 0)] (by kernel_rfl) <| OWk.done (by kernel_rfl) <| thenS_n <| SW.block ?_
      obtain ⟨v13, hit, h⟩ := bind_inv h
      refine SW.it 63 H [6, 20, 21, 22] (fun y6 => [(6, .own 3 (List.map encImage y6.1)), (20, .d (.list 3 (List.map encImage p1))), (21, vI (p1.length : Int)), (22, vI y6.2)]) (fun v13 e s => (e = .exit 0 ∧ s = (sp 63 [(6, .own 3 (List.map encImage v13))] H))) hit (by kernel_rfl) (fun y6 o h => ?_) ?_
      · unfold j_Apply_l1 at h
        refine SW.seq <| SW.regionK <| OWk.sg 63 H [] [6, 20, 21, 22, 23] 1 [(6, .own 3 (List.map encImage y6.1)), (20, .d (.list 3 (List.map encImage p1))), (21, vI (p1.length : Int)), (22, vI y6.2), (23, vB (decide (y6.2 < (p1.length : Int))))] (by kernel_rfl) <| OWk.done (by kernel_rfl) <| thenS_n <| SW.seq ?_
        refine SW.condB (b := (decide (y6.2 < (p1.length : Int)))) (by kernel_rfl) (fun hc => ?_) (fun hc => ?_)
        · replace h := bif_t hc h
          refine SW.skip <| thenS_n <| SW.seq <| SW.block <| SW.seq <| SW.regionK ?_
          obtain ⟨x7, hx, h⟩ := bind_inv h
          refine OWk.on 63 H (d := some 24) (s := lendP none (Go.Sh.D.cells (encImage x7))) [6, 20, 21, 22, 24] [(6, .own 3 (List.map encImage y6.1)), (20, .d (.list 3 (List.map encImage p1))), (21, vI (p1.length : Int)), (22, vI y6.2), (24, .d (.dptr [.str x7.Key, .bool x7.Has, .str x7.Text]))] (BAt.index (n := 3) hx (by kernel_rfl)) (by kernel_rfl) <| OWk.sg 63 H [] [6, 8, 20, 21, 22] 3 [(6, .own 3 (List.map encImage y6.1)), (8, .box [vS x7.Key, vB x7.Has, vS x7.Text]), (20, .d (.list 3 (List.map encImage p1))), (21, vI (p1.length : Int)), (22, vI y6.2)] (by kernel_rfl) <| OWk.done (by kernel_rfl) <| thenS_n <| SW.seq <| SW.regionK <| OWk.sg 63 H [] [6, 8, 20, 21, 22, 27, 29] 3 [(6, .own 3 (List.map encImage y6.1)), (8, .box [vS x7.Key, vB x7.Has, vS x7.Text]), (20, .d (.list 3 (List.map encImage p1))), (21, vI (p1.length : Int)), (22, vI y6.2), (27, .lent (.slot 6) 3 (List.map encImage y6.1)), (29, vS x7.Key)] (by kernel_rfl) ?_
          obtain ⟨r8, hr, h⟩ := bind_inv h
          refine OWk.cl 63 H (d := some 30) (ls := [(.slot 6)]) (gs := []) [] [6, 8, 20, 21, 22, 30] [(6, .own 3 (List.map encImage y6.1)), (8, .box [vS x7.Key, vB x7.Has, vS x7.Text]), (20, .d (.list 3 (List.map encImage p1))), (21, vI (p1.length : Int)), (22, vI y6.2), (30, .tup [vI r8.1, vB r8.2])] (slices_BinarySearchFunc__j_Apply_2_ok hr) (by kernel_rfl) (by kernel_rfl) (by kernel_rfl) <| OWk.sg 63 H [] [6, 8, 9, 10, 20, 21, 22] 5 [(6, .own 3 (List.map encImage y6.1)), (8, .box [vS x7.Key, vB x7.Has, vS x7.Text]), (9, vI r8.1), (10, vB r8.2), (20, .d (.list 3 (List.map encImage p1))), (21, vI (p1.length : Int)), (22, vI y6.2)] (by kernel_rfl) <| OWk.done (by kernel_rfl) <| thenS_n <| SW.block <| SW.seq <| SW.regionK <| OWk.sg 63 H [] [6, 8, 9, 10, 20, 21, 22, 36] 3 [(6, .own 3 (List.map encImage y6.1)), (8, .box [vS x7.Key, vB x7.Has, vS x7.Text]), (9, vI r8.1), (10, vB r8.2), (20, .d (.list 3 (List.map encImage p1))), (21, vI (p1.length : Int)), (22, vI y6.2), (36, vB x7.Has)] (by kernel_rfl) <| OWk.mg 63 H [6, 8, 9, 10, 20, 21, 22, 38] 2 x7.Has (fun b => (sp 63 [(6, .own 3 (List.map encImage y6.1)), (8, .box [vS x7.Key, vB x7.Has, vS x7.Text]), (9, vI r8.1), (10, vB r8.2), (20, .d (.list 3 (List.map encImage p1))), (21, vI (p1.length : Int)), (22, vI y6.2), (36, vB b)] H)) (fun b => [(6, .own 3 (List.map encImage y6.1)), (8, .box [vS x7.Key, vB x7.Has, vS x7.Text]), (9, vI r8.1), (10, vB r8.2), (20, .d (.list 3 (List.map encImage p1))), (21, vI (p1.length : Int)), (22, vI y6.2), (38, vB (b && r8.2))]) (by kernel_rfl) (by kernel_rfl) (by kernel_rfl) <| OWk.sg 63 H [] [6, 8, 9, 10, 20, 21, 22, 33] 1 [(6, .own 3 (List.map encImage y6.1)), (8, .box [vS x7.Key, vB x7.Has, vS x7.Text]), (9, vI r8.1), (10, vB r8.2), (20, .d (.list 3 (List.map encImage p1))), (21, vI (p1.length : Int)), (22, vI y6.2), (33, vB (x7.Has && r8.2))] (by kernel_rfl) <| OWk.done (by kernel_rfl) <| thenS_n ?_
          refine SW.condB (b := (x7.Has && r8.2)) (by kernel_rfl) (fun hc => ?_) (fun hc => ?_)
          · replace h := bif_t hc h
            refine SW.regionK <| OWk.on 63 H (d := some 39) (s := .als 6) [6, 8, 9, 20, 21, 22, 39] [(6, .own 3 (List.map encImage y6.1)), (8, .box [vS x7.Key, vB x7.Has, vS x7.Text]), (9, vI r8.1), (20, .d (.list 3 (List.map encImage p1))), (21, vI (p1.length : Int)), (22, vI y6.2), (39, .als 6)] (BAt.als (s := 6) (by kernel_rfl)) (by kernel_rfl) <| OWk.sg 63 H [] [6, 20, 21, 22, 39, 40, 41] 2 [(6, .own 3 (List.map encImage y6.1)), (20, .d (.list 3 (List.map encImage p1))), (21, vI (p1.length : Int)), (22, vI y6.2), (39, .als 6), (40, vI r8.1), (41, .d (.agg [.str x7.Key, .bool x7.Has, .str x7.Text]))] (by kernel_rfl) ?_
            obtain ⟨x9, hx, h⟩ := bind_inv h
            refine OWk.on 63 H (d := some 42) (s := .ep 6 3 (Int.toNat r8.1)) [6, 20, 21, 22, 41, 42] [(6, .own 3 (List.map encImage y6.1)), (20, .d (.list 3 (List.map encImage p1))), (21, vI (p1.length : Int)), (22, vI y6.2), (41, .d (.agg [.str x7.Key, .bool x7.Has, .str x7.Text])), (42, .ep 6 3 (Int.toNat r8.1))] (BAt.ep (enc := encImage) (xs := y6.1) hx (by kernel_rfl)) (by kernel_rfl) ?_
            obtain ⟨hk, h⟩ := chk_inv h
            refine OWk.sep (s := 6) (n := 3) (j := (Int.toNat r8.1)) (enc := encImage) (xs := y6.1) (x := x7) (p := none) 63 H [6, 20, 21, 22] [(6, .own 3 (List.map encImage (List.set y6.1 (Int.toNat r8.1) x7))), (20, .d (.list 3 (List.map encImage p1))), (21, vI (p1.length : Int)), (22, vI y6.2)] hk (by kernel_rfl) (by kernel_rfl) <| OWk.done (by kernel_rfl) <| blockS_n <| blockS_n <| thenS_n <| SW.regionK <| OWk.sg 63 H [] [6, 20, 21, 22] 2 [(6, .own 3 (List.map encImage (List.set y6.1 (Int.toNat r8.1) x7))), (20, .d (.list 3 (List.map encImage p1))), (21, vI (p1.length : Int)), (22, vI (IntKind.wrap .i64 (y6.2 + 1)))] (by kernel_rfl) <| OWk.done (by kernel_rfl) ?_
            cases h
            exact ⟨((List.set y6.1 (Int.toNat r8.1) x7), (IntKind.wrap .i64 (y6.2 + 1))), rfl, by kernel_rfl⟩
          · replace h := bif_f hc h
            refine SW.seq <| SW.regionK <| OWk.sg 63 H [] [6, 8, 9, 10, 20, 21, 22, 43] 3 [(6, .own 3 (List.map encImage y6.1)), (8, .box [vS x7.Key, vB x7.Has, vS x7.Text]), (9, vI r8.1), (10, vB r8.2), (20, .d (.list 3 (List.map encImage p1))), (21, vI (p1.length : Int)), (22, vI y6.2), (43, vB x7.Has)] (by kernel_rfl) <| OWk.done (by kernel_rfl) <| thenS_n ?_
            refine SW.condB (b := x7.Has) (by kernel_rfl) (fun hc => ?_) (fun hc => ?_)
            · replace h := bif_t hc h
              refine SW.regionK <| OWk.sg 63 H [46] [20, 21, 22, 46, 47, 49] 4 [(20, .d (.list 3 (List.map encImage p1))), (21, vI (p1.length : Int)), (22, vI y6.2), (46, .own 3 (List.map encImage y6.1)), (47, vI r8.1), (49, .own 3 (List.map encImage [x7]))] (by kernel_rfl) <| OWk.fz 63 H 49 [20, 21, 22, 46, 47, 49] [(20, .d (.list 3 (List.map encImage p1))), (21, vI (p1.length : Int)), (22, vI y6.2), (46, .own 3 (List.map encImage y6.1)), (47, vI r8.1), (49, .d (.list 3 (List.map encImage [x7])))] (by kernel_rfl) ?_
              obtain ⟨r10, hr, h⟩ := bind_inv h
              refine OWk.cl 63 H (d := some 50) (ls := []) (gs := [(46, 0)]) [0] [20, 21, 22, 50] [(20, .d (.list 3 (List.map encImage p1))), (21, vI (p1.length : Int)), (22, vI y6.2), (50, .own 3 (List.map encImage r10))] (slices_Insert_ok hr) (by kernel_rfl) (by kernel_rfl) (by kernel_rfl) <| OWk.sg 63 H [46] [6, 20, 21, 22] 1 [(6, .own 3 (List.map encImage r10)), (20, .d (.list 3 (List.map encImage p1))), (21, vI (p1.length : Int)), (22, vI y6.2)] (by kernel_rfl) <| OWk.done (by kernel_rfl) <| blockS_n <| blockS_n <| thenS_n <| SW.regionK <| OWk.sg 63 H [] [6, 20, 21, 22] 2 [(6, .own 3 (List.map encImage r10)), (20, .d (.list 3 (List.map encImage p1))), (21, vI (p1.length : Int)), (22, vI (IntKind.wrap .i64 (y6.2 + 1)))] (by kernel_rfl) <| OWk.done (by kernel_rfl) ?_
              cases h
              exact ⟨(r10, (IntKind.wrap .i64 (y6.2 + 1))), rfl, by kernel_rfl⟩
            · replace h := bif_f hc h
              refine SW.seq <| SW.regionK <| OWk.sg 63 H [] [6, 9, 20, 21, 22, 51] 2 [(6, .own 3 (List.map encImage y6.1)), (9, vI r8.1), (20, .d (.list 3 (List.map encImage p1))), (21, vI (p1.length : Int)), (22, vI y6.2), (51, vB r8.2)] (by kernel_rfl) <| OWk.done (by kernel_rfl) <| thenS_n ?_
              refine SW.condB (b := r8.2) (by kernel_rfl) (fun hc => ?_) (fun hc => ?_)
              · replace h := bif_t hc h
                refine SW.regionK <| OWk.sg 63 H [53] [20, 21, 22, 53, 54, 56] 4 [(20, .d (.list 3 (List.map encImage p1))), (21, vI (p1.length : Int)), (22, vI y6.2), (53, .own 3 (List.map encImage y6.1)), (54, vI r8.1), (56, vI (IntKind.wrap .i64 (r8.1 + 1)))] (by kernel_rfl) ?_
                obtain ⟨r11, hr, h⟩ := bind_inv h
                refine OWk.cl 63 H (d := some 57) (ls := []) (gs := [(53, 0)]) [0] [20, 21, 22, 57] [(20, .d (.list 3 (List.map encImage p1))), (21, vI (p1.length : Int)), (22, vI y6.2), (57, .own 3 (List.map encImage r11))] (slices_Delete_ok hr) (by kernel_rfl) (by kernel_rfl) (by kernel_rfl) <| OWk.sg 63 H [53] [6, 20, 21, 22] 1 [(6, .own 3 (List.map encImage r11)), (20, .d (.list 3 (List.map encImage p1))), (21, vI (p1.length : Int)), (22, vI y6.2)] (by kernel_rfl) <| OWk.done (by kernel_rfl) <| blockS_n <| blockS_n <| thenS_n <| SW.regionK <| OWk.sg 63 H [] [6, 20, 21, 22] 2 [(6, .own 3 (List.map encImage r11)), (20, .d (.list 3 (List.map encImage p1))), (21, vI (p1.length : Int)), (22, vI (IntKind.wrap .i64 (y6.2 + 1)))] (by kernel_rfl) <| OWk.done (by kernel_rfl) ?_
                cases h
                exact ⟨(r11, (IntKind.wrap .i64 (y6.2 + 1))), rfl, by kernel_rfl⟩
              · replace h := bif_f hc h
                refine SW.skip <| blockS_n <| blockS_n <| thenS_n <| SW.regionK <| OWk.sg 63 H [] [6, 20, 21, 22] 2 [(6, .own 3 (List.map encImage y6.1)), (20, .d (.list 3 (List.map encImage p1))), (21, vI (p1.length : Int)), (22, vI (IntKind.wrap .i64 (y6.2 + 1)))] (by kernel_rfl) <| OWk.done (by kernel_rfl) ?_
                cases h
                exact ⟨(y6.1, (IntKind.wrap .i64 (y6.2 + 1))), rfl, by kernel_rfl⟩
        · replace h := bif_f hc h
          refine SW.kp 63 H [6] [(6, .own 3 (List.map encImage y6.1))] (by kernel_rfl) <| SW.exit <| thenS_e ?_
          cases h
          refine thenS_e ?_
          exact ⟨_, rfl, ⟨rfl, rfl⟩⟩
      · rintro _ _ ⟨rfl, rfl⟩
        refine blockS_hit <| thenS_n <| SW.seq <| SW.seq <| SW.regionK <| OWk.sg 63 H [] [6, 59] 1 [(6, .own 3 (List.map encImage v13)), (59, .lent (.slot 6) 3 (List.map encImage v13))] (by kernel_rfl) <| OWk.on 63 H (d := some 60) [6, 60] [(6, .own 3 (List.map encImage v13)), (60, vI (v13.length : Int))] (BAt.len (enc := encImage) (xs := v13) (by kernel_rfl)) (by kernel_rfl) <| OWk.sg 63 H [] [6, 61] 1 [(6, .own 3 (List.map encImage v13)), (61, vB (decide ((v13.length : Int) > 500)))] (by kernel_rfl) <| OWk.done (by kernel_rfl) <| thenS_n ?_
        refine SW.condB (b := (decide ((v13.length : Int) > 500))) (by kernel_rfl) (fun hc => ?_) (fun hc => ?_)
        · replace h := bif_t hc h
          refine SW.seq <| SW.regionK <| OWk.sg 63 H [] [4, 5] 2 [(4, .own 3 (List.map encImage ([] : List Image))), (5, vI 4)] (by kernel_rfl) <| OWk.done (by kernel_rfl) <| thenS_n <| SW.ret <| thenS_r ?_
          cases h
          exact EndQ.ret [] (by kernel_rfl) rfl
        · replace h := bif_f hc h
          refine SW.skip <| thenS_n <| SW.seq <| SW.regionK <| OWk.sg 63 H [62] [4, 5] 3 [(4, .own 3 (List.map encImage v13)), (5, vI 0)] (by kernel_rfl) <| OWk.done (by kernel_rfl) <| thenS_n <| SW.ret ?_
          cases h
          exact EndQ.ret [] (by kernel_rfl) rfl
  · refine SW.regionK <| OWk.sg 63 H [] [0, 1, 11] 1 [(0, .d (.list 3 (List.map encImage p0))), (1, .d (.list 3 (List.map encImage p1))), (11, .d (.list 3 (List.map encImage p0)))] (by kernel_rfl) ?_
    obtain ⟨r3, hr, h⟩ := bind_inv h
    refine OWk.cl 63 H (d := some 12) (ls := []) (gs := []) [] [0, 1, 12] [(0, .d (.list 3 (List.map encImage p0))), (1, .d (.list 3 (List.map encImage p1))), (12, vB r3)] (j_ordered_ok hr) (by kernel_rfl) (by kernel_rfl) (by kernel_rfl) <| OWk.sg 63 H [] [0, 1, 14] 2 [(0, .d (.list 3 (List.map encImage p0))), (1, .d (.list 3 (List.map encImage p1))), (14, vB (!r3))] (by kernel_rfl) ?_
    refine OWk.case (!r3) (fun b => (sp 63 [(0, .d (.list 3 (List.map encImage p0))), (1, .d (.list 3 (List.map encImage p1))), (14, vB b)] H)) (by kernel_rfl) (fun hc => ?_) (fun hc => ?_)
    · replace h := bif_t hc h
      refine OWk.sg 63 H [] [0, 1, 17] 3 [(0, .d (.list 3 (List.map encImage p0))), (1, .d (.list 3 (List.map encImage p1))), (17, vB true)] (by kernel_rfl) <| OWk.done (by kernel_rfl) ?_
      exact ⟨true, [], by kernel_rfl, h⟩
    · replace h := bif_f hc h
      refine OWk.sg 63 H [] [0, 1, 14, 15] 1 [(0, .d (.list 3 (List.map encImage p0))), (1, .d (.list 3 (List.map encImage p1))), (14, vB false), (15, .d (.list 3 (List.map encImage p1)))] (by kernel_rfl) ?_
      obtain ⟨r4, hr, h⟩ := bind_inv h
      refine OWk.cl 63 H (d := some 16) (ls := []) (gs := []) [] [0, 1, 14, 16] [(0, .d (.list 3 (List.map encImage p0))), (1, .d (.list 3 (List.map encImage p1))), (14, vB false), (16, vB r4)] (slices_ContainsFunc__j_Apply_1_ok hr) (by kernel_rfl) (by kernel_rfl) (by kernel_rfl) <| OWk.sg 63 H [] [0, 1, 17] 1 [(0, .d (.list 3 (List.map encImage p0))), (1, .d (.list 3 (List.map encImage p1))), (17, vB r4)] (by kernel_rfl) <| OWk.done (by kernel_rfl) ?_
      exact ⟨r4, [], by kernel_rfl, h⟩
noncomputable def j_State (fuel : Nat) (p0 : (List Image)) (p1 : (List Note)) : Option ((List Image) × Int) :=
  (j_ordered fuel p0).bind fun r1 =>
  bif (!r1) then
    some (([] : List Image), 1)
  else
    (j_Redo fuel p1 0).bind fun r2 =>
    bif (r2.2 != 0) then
      some (([] : List Image), r2.2)
    else
      (j_Apply fuel p0 r2.1).bind fun r3 =>
      some (r3.1, r3.2)
theorem j_State_ok {fuel : Nat} {p0 : (List Image)} {p1 : (List Note)} {r : (List Image) × Int} (h : j_State fuel p0 p1 = some r) : PC Tryz.prog 23 [.d (.list 3 (List.map encImage p0)), .d (.list 5 (List.map encNote p1))] (.tup [.own 3 (List.map encImage r.1), vI r.2]) := by
  refine PC.of_SW Tryz.func23 rfl fun H => ?_
  unfold j_State at h
  refine SW.kp 24 H [0, 1] [(0, .d (.list 3 (List.map encImage p0))), (1, .d (.list 5 (List.map encNote p1)))] (by kernel_rfl) <| SW.seq <| SW.regionK <| OWk.sg 24 H [] [0, 1] 2 [(0, .d (.list 3 (List.map encImage p0))), (1, .d (.list 5 (List.map encNote p1)))] (by kernel_rfl) <| OWk.done (by kernel_rfl) <| thenS_n <| SW.seq <| SW.seq <| SW.regionK <| OWk.sg 24 H [] [0, 1, 8] 1 [(0, .d (.list 3 (List.map encImage p0))), (1, .d (.list 5 (List.map encNote p1))), (8, .d (.list 3 (List.map encImage p0)))] (by kernel_rfl) ?_
  obtain ⟨r1, hr, h⟩ := bind_inv h
  refine OWk.cl 24 H (d := some 9) (ls := []) (gs := []) [] [0, 1, 9] [(0, .d (.list 3 (List.map encImage p0))), (1, .d (.list 5 (List.map encNote p1))), (9, vB r1)] (j_ordered_ok hr) (by kernel_rfl) (by kernel_rfl) (by kernel_rfl) <| OWk.sg 24 H [] [0, 1, 10] 1 [(0, .d (.list 3 (List.map encImage p0))), (1, .d (.list 5 (List.map encNote p1))), (10, vB (!r1))] (by kernel_rfl) <| OWk.done (by kernel_rfl) <| thenS_n ?_
  refine SW.condB (b := (!r1)) (by kernel_rfl) (fun hc => ?_) (fun hc => ?_)
  · replace h := bif_t hc h
    refine SW.seq <| SW.regionK <| OWk.sg 24 H [] [4, 5] 2 [(4, .own 3 (List.map encImage ([] : List Image))), (5, vI 1)] (by kernel_rfl) <| OWk.done (by kernel_rfl) <| thenS_n <| SW.ret <| thenS_r ?_
    cases h
    exact EndQ.ret [] (by kernel_rfl) rfl
  · replace h := bif_f hc h
    refine SW.skip <| thenS_n <| SW.seq <| SW.regionK <| OWk.sg 24 H [] [0, 12] 1 [(0, .d (.list 3 (List.map encImage p0))), (12, .d (.list 5 (List.map encNote p1)))] (by kernel_rfl) ?_
    obtain ⟨r2, hr, h⟩ := bind_inv h
    refine OWk.cl 24 H (d := some 13) (ls := []) (gs := []) [] [0, 13] [(0, .d (.list 3 (List.map encImage p0))), (13, .tup [.own 3 (List.map encImage r2.1), vI r2.2])] (j_Redo_ok hr) (by kernel_rfl) (by kernel_rfl) (by kernel_rfl) <| OWk.sg 24 H [] [0, 6, 7] 5 [(0, .d (.list 3 (List.map encImage p0))), (6, .own 3 (List.map encImage r2.1)), (7, vI r2.2)] (by kernel_rfl) <| OWk.done (by kernel_rfl) <| thenS_n <| SW.seq <| SW.seq <| SW.regionK <| OWk.sg 24 H [] [0, 6, 7, 17] 2 [(0, .d (.list 3 (List.map encImage p0))), (6, .own 3 (List.map encImage r2.1)), (7, vI r2.2), (17, vB (r2.2 != 0))] (by kernel_rfl) <| OWk.done (by kernel_rfl) <| thenS_n ?_
    refine SW.condB (b := (r2.2 != 0)) (by kernel_rfl) (fun hc => ?_) (fun hc => ?_)
    · replace h := bif_t hc h
      refine SW.seq <| SW.regionK <| OWk.sg 24 H [] [4, 5] 3 [(4, .own 3 (List.map encImage ([] : List Image))), (5, vI r2.2)] (by kernel_rfl) <| OWk.done (by kernel_rfl) <| thenS_n <| SW.ret <| thenS_r ?_
      cases h
      exact EndQ.ret [] (by kernel_rfl) rfl
    · replace h := bif_f hc h
      refine SW.skip <| thenS_n <| SW.seq <| SW.regionK <| OWk.sg 24 H [20] [19, 20] 2 [(19, .d (.list 3 (List.map encImage p0))), (20, .own 3 (List.map encImage r2.1))] (by kernel_rfl) <| OWk.fz 24 H 20 [19, 20] [(19, .d (.list 3 (List.map encImage p0))), (20, .d (.list 3 (List.map encImage r2.1)))] (by kernel_rfl) ?_
      obtain ⟨r3, hr, h⟩ := bind_inv h
      refine OWk.cl 24 H (d := some 21) (ls := []) (gs := []) [] [21] [(21, .tup [.own 3 (List.map encImage r3.1), vI r3.2])] (j_Apply_ok hr) (by kernel_rfl) (by kernel_rfl) (by kernel_rfl) <| OWk.sg 24 H [20] [4, 5] 4 [(4, .own 3 (List.map encImage r3.1)), (5, vI r3.2)] (by kernel_rfl) <| OWk.done (by kernel_rfl) <| thenS_n <| SW.ret ?_
      cases h
      exact EndQ.ret [] (by kernel_rfl) rfl
noncomputable def l_awake (fuel : Nat) : Option (Bool) :=
  (j_State fuel [] [(⟨1, 1, [], false, []⟩ : Note), (⟨2, 1, [120], false, []⟩ : Note), (⟨3, 1, [120], true, [97]⟩ : Note), (⟨5, 1, [], false, []⟩ : Note)]).bind fun r1 =>
  bif (r1.2 == 0) then
    bif ((r1.1.length : Int) == 1) then
      (idx r1.1 0).bind fun x2 =>
      bif (x2.Key == [120]) then
        (idx r1.1 0).bind fun x3 =>
        some (x3.Text == [97])
      else
        some false
    else
      some false
  else
    some false
theorem l_awake_ok {fuel : Nat} {r : Bool} (h : l_awake fuel = some r) : PC Tryz.prog 5 [] (vB r) := by
  refine PC.of_SW Tryz.func5 rfl fun H => ?_
  unfold l_awake at h
  refine SW.kp 33 H [] [] (by kernel_rfl) <| SW.seq <| SW.regionK <| OWk.sg 33 H [] [] 1 [] (by kernel_rfl) <| OWk.done (by kernel_rfl) <| thenS_n <| SW.seq <| SW.regionK <| OWk.sg 33 H [] [8] 5 [(8, .own 5 (List.map encNote [(⟨1, 1, [], false, []⟩ : Note), (⟨2, 1, [120], false, []⟩ : Note), (⟨3, 1, [120], true, [97]⟩ : Note), (⟨5, 1, [], false, []⟩ : Note)]))] (by kernel_rfl) <| OWk.fz 33 H 8 [8] [(8, .d (.list 5 (List.map encNote [(⟨1, 1, [], false, []⟩ : Note), (⟨2, 1, [120], false, []⟩ : Note), (⟨3, 1, [120], true, [97]⟩ : Note), (⟨5, 1, [], false, []⟩ : Note)])))] (by kernel_rfl) ?_
  obtain ⟨r1, hr, h⟩ := bind_inv h
  refine OWk.cl 33 H (d := some 9) (ls := []) (gs := []) [] [9] [(9, .tup [.own 3 (List.map encImage r1.1), vI r1.2])] (j_State_ok hr) (by kernel_rfl) (by kernel_rfl) (by kernel_rfl) <| OWk.sg 33 H [] [1, 2] 5 [(1, .own 3 (List.map encImage r1.1)), (2, vI r1.2)] (by kernel_rfl) <| OWk.done (by kernel_rfl) <| thenS_n <| SW.seq <| SW.regionK <| OWk.sg 33 H [] [1, 14] 3 [(1, .own 3 (List.map encImage r1.1)), (14, vB (r1.2 == 0))] (by kernel_rfl) ?_
  refine OWk.case (r1.2 == 0) (fun b => (sp 33 [(1, .own 3 (List.map encImage r1.1)), (14, vB b)] H)) (by kernel_rfl) (fun hc => ?_) (fun hc => ?_)
  · replace h := bif_t hc h
    refine OWk.sg 33 H [] [1, 14, 15] 1 [(1, .own 3 (List.map encImage r1.1)), (14, vB true), (15, .lent (.slot 1) 3 (List.map encImage r1.1))] (by kernel_rfl) <| OWk.on 33 H (d := some 16) [1, 14, 16] [(1, .own 3 (List.map encImage r1.1)), (14, vB true), (16, vI (r1.1.length : Int))] (BAt.len (enc := encImage) (xs := r1.1) (by kernel_rfl)) (by kernel_rfl) <| OWk.sg 33 H [] [1, 19] 3 [(1, .own 3 (List.map encImage r1.1)), (19, vB ((r1.1.length : Int) == 1))] (by kernel_rfl) ?_
    refine OWk.case ((r1.1.length : Int) == 1) (fun b => (sp 33 [(1, .own 3 (List.map encImage r1.1)), (19, vB b)] H)) (by kernel_rfl) (fun hc => ?_) (fun hc => ?_)
    · replace h := bif_t hc h
      refine OWk.sg 33 H [] [1, 19, 20] 1 [(1, .own 3 (List.map encImage r1.1)), (19, vB true), (20, .lent (.slot 1) 3 (List.map encImage r1.1))] (by kernel_rfl) ?_
      obtain ⟨x2, hx, h⟩ := bind_inv h
      refine OWk.on 33 H (d := some 21) (s := lendP (some (.slot 1)) (Go.Sh.D.cells (encImage x2))) [1, 19, 21] [(1, .own 3 (List.map encImage r1.1)), (19, vB true), (21, .lptr (.slot 1) [.str x2.Key, .bool x2.Has, .str x2.Text])] (BAt.index (n := 3) hx (by kernel_rfl)) (by kernel_rfl) <| OWk.sg 33 H [] [1, 26] 5 [(1, .own 3 (List.map encImage r1.1)), (26, vB (x2.Key == [120]))] (by kernel_rfl) ?_
      refine OWk.case (x2.Key == [120]) (fun b => (sp 33 [(1, .own 3 (List.map encImage r1.1)), (26, vB b)] H)) (by kernel_rfl) (fun hc => ?_) (fun hc => ?_)
      · replace h := bif_t hc h
        refine OWk.sg 33 H [27] [26, 27] 1 [(26, vB true), (27, .own 3 (List.map encImage r1.1))] (by kernel_rfl) ?_
        obtain ⟨x3, hx, h⟩ := bind_inv h
        refine OWk.on 33 H (d := some 28) (s := lendP (some (.slot 27)) (Go.Sh.D.cells (encImage x3))) [26, 28] [(26, vB true), (28, .lptr (.slot 27) [.str x3.Key, .bool x3.Has, .str x3.Text])] (BAt.index (n := 3) hx (by kernel_rfl)) (by kernel_rfl) <| OWk.sg 33 H [27] [0] 5 [(0, vB (x3.Text == [97]))] (by kernel_rfl) <| OWk.done (by kernel_rfl) <| thenS_n <| SW.ret ?_
        cases h
        exact EndQ.ret [] (by kernel_rfl) rfl
      · replace h := bif_f hc h
        refine OWk.sg 33 H [27] [0] 7 [(0, vB false)] (by kernel_rfl) <| OWk.done (by kernel_rfl) <| thenS_n <| SW.ret ?_
        cases h
        exact EndQ.ret [] (by kernel_rfl) rfl
    · replace h := bif_f hc h
      refine OWk.sg 33 H [27] [0] 14 [(0, vB false)] (by kernel_rfl) <| OWk.done (by kernel_rfl) <| thenS_n <| SW.ret ?_
      cases h
      exact EndQ.ret [] (by kernel_rfl) rfl
  · replace h := bif_f hc h
    refine OWk.sg 33 H [27] [0] 19 [(0, vB false)] (by kernel_rfl) <| OWk.done (by kernel_rfl) <| thenS_n <| SW.ret ?_
    cases h
    exact EndQ.ret [] (by kernel_rfl) rfl
def r_image (fuel : Nat) (p0 : Image) : Option (Bool) :=
  bif (decide ((p0.Key.length : Int) ≥ 1)) then
    bif (decide ((p0.Key.length : Int) ≤ 40)) then
      bif (decide ((p0.Text.length : Int) ≤ 4000)) then
        bif p0.Has then
          some true
        else
          some (p0.Text == [])
      else
        some false
    else
      some false
  else
    some false
theorem r_image_ok {fuel : Nat} {p0 : Image} {r : Bool} (h : r_image fuel p0 = some r) : PC Tryz.prog 63 [.d (encImage p0)] (vB r) := by
  refine PC.of_SW Tryz.func63 rfl fun H => ?_
  unfold r_image at h
  refine SW.kp 28 H [0] [(0, .d (.agg [.str p0.Key, .bool p0.Has, .str p0.Text]))] (by kernel_rfl) <| SW.seq <| SW.regionK <| OWk.sg 28 H [] [1] 2 [(1, .box [vS p0.Key, vB p0.Has, vS p0.Text])] (by kernel_rfl) <| OWk.done (by kernel_rfl) <| thenS_n <| SW.seq <| SW.regionK <| OWk.sg 28 H [] [1, 4] 2 [(1, .box [vS p0.Key, vB p0.Has, vS p0.Text]), (4, vS p0.Key)] (by kernel_rfl) <| OWk.sg 28 H [] [1, 5] 1 [(1, .box [vS p0.Key, vB p0.Has, vS p0.Text]), (5, vI (p0.Key.length : Int))] (by kernel_rfl) <| OWk.sg 28 H [] [1, 7] 2 [(1, .box [vS p0.Key, vB p0.Has, vS p0.Text]), (7, vB (decide ((p0.Key.length : Int) ≥ 1)))] (by kernel_rfl) ?_
  refine OWk.case (decide ((p0.Key.length : Int) ≥ 1)) (fun b => (sp 28 [(1, .box [vS p0.Key, vB p0.Has, vS p0.Text]), (7, vB b)] H)) (by kernel_rfl) (fun hc => ?_) (fun hc => ?_)
  · replace h := bif_t hc h
    refine OWk.sg 28 H [] [1, 7, 9] 2 [(1, .box [vS p0.Key, vB p0.Has, vS p0.Text]), (7, vB true), (9, vS p0.Key)] (by kernel_rfl) <| OWk.sg 28 H [] [1, 7, 10] 1 [(1, .box [vS p0.Key, vB p0.Has, vS p0.Text]), (7, vB true), (10, vI (p0.Key.length : Int))] (by kernel_rfl) <| OWk.sg 28 H [] [1, 13] 3 [(1, .box [vS p0.Key, vB p0.Has, vS p0.Text]), (13, vB (decide ((p0.Key.length : Int) ≤ 40)))] (by kernel_rfl) ?_
    refine OWk.case (decide ((p0.Key.length : Int) ≤ 40)) (fun b => (sp 28 [(1, .box [vS p0.Key, vB p0.Has, vS p0.Text]), (13, vB b)] H)) (by kernel_rfl) (fun hc => ?_) (fun hc => ?_)
    · replace h := bif_t hc h
      refine OWk.sg 28 H [] [1, 13, 15] 2 [(1, .box [vS p0.Key, vB p0.Has, vS p0.Text]), (13, vB true), (15, vS p0.Text)] (by kernel_rfl) <| OWk.sg 28 H [] [1, 13, 16] 1 [(1, .box [vS p0.Key, vB p0.Has, vS p0.Text]), (13, vB true), (16, vI (p0.Text.length : Int))] (by kernel_rfl) <| OWk.sg 28 H [] [1, 19] 3 [(1, .box [vS p0.Key, vB p0.Has, vS p0.Text]), (19, vB (decide ((p0.Text.length : Int) ≤ 4000)))] (by kernel_rfl) ?_
      refine OWk.case (decide ((p0.Text.length : Int) ≤ 4000)) (fun b => (sp 28 [(1, .box [vS p0.Key, vB p0.Has, vS p0.Text]), (19, vB b)] H)) (by kernel_rfl) (fun hc => ?_) (fun hc => ?_)
      · replace h := bif_t hc h
        refine OWk.sg 28 H [] [1, 19, 22] 3 [(1, .box [vS p0.Key, vB p0.Has, vS p0.Text]), (19, vB true), (22, vB p0.Has)] (by kernel_rfl) ?_
        refine OWk.case p0.Has (fun b => (sp 28 [(1, .box [vS p0.Key, vB p0.Has, vS p0.Text]), (19, vB true), (22, vB b)] H)) (by kernel_rfl) (fun hc => ?_) (fun hc => ?_)
        · replace h := bif_t hc h
          refine OWk.sg 28 H [] [2] 6 [(2, vB true)] (by kernel_rfl) <| OWk.done (by kernel_rfl) <| thenS_n <| SW.ret ?_
          cases h
          exact EndQ.ret [] (by kernel_rfl) rfl
        · replace h := bif_f hc h
          refine OWk.sg 28 H [] [2] 6 [(2, vB (p0.Text == []))] (by kernel_rfl) <| OWk.done (by kernel_rfl) <| thenS_n <| SW.ret ?_
          cases h
          exact EndQ.ret [] (by kernel_rfl) rfl
      · replace h := bif_f hc h
        refine OWk.sg 28 H [] [2] 9 [(2, vB false)] (by kernel_rfl) <| OWk.done (by kernel_rfl) <| thenS_n <| SW.ret ?_
        cases h
        exact EndQ.ret [] (by kernel_rfl) rfl
    · replace h := bif_f hc h
      refine OWk.sg 28 H [] [2] 15 [(2, vB false)] (by kernel_rfl) <| OWk.done (by kernel_rfl) <| thenS_n <| SW.ret ?_
      cases h
      exact EndQ.ret [] (by kernel_rfl) rfl
  · replace h := bif_f hc h
    refine OWk.sg 28 H [] [2] 21 [(2, vB false)] (by kernel_rfl) <| OWk.done (by kernel_rfl) <| thenS_n <| SW.ret ?_
    cases h
    exact EndQ.ret [] (by kernel_rfl) rfl
def r_Valid (fuel : Nat) (p0 : Note) : Option (Bool) :=
  bif (p0.Kind == 6) then
    bif (((p0.Unit == 0) && (p0.Key == [])) && (!p0.Has)) then
      bif (decide ((p0.Text.length : Int) ≥ 1)) then
        some (decide ((p0.Text.length : Int) ≤ 40))
      else
        some false
    else
      some false
  else
    letJ (fun (j1 : Bool) =>
      bif j1 then
        bif ((decide (p0.Unit ≥ 1)) && (decide (p0.Unit ≤ 1000))) then
          (r_image fuel (⟨p0.Key, p0.Has, p0.Text⟩ : Image)).bind fun r3 =>
          some r3
        else
          some false
      else
        letJ (fun (j4 : Bool) =>
          bif j4 then
            some (((((decide (p0.Unit ≥ 1)) && (decide (p0.Unit ≤ 1000))) && (p0.Key == [])) && (!p0.Has)) && (p0.Text == []))
          else
            some false) fun jp5 =>
        bif (p0.Kind == 1) then
          jp5 true
        else
          bif (p0.Kind == 4) then
            jp5 true
          else
            bif (p0.Kind == 5) then
              jp5 true
            else
              jp5 (p0.Kind == 7)) fun jp2 =>
    bif (p0.Kind == 2) then
      jp2 true
    else
      jp2 (p0.Kind == 3)
theorem r_Valid_ok {fuel : Nat} {p0 : Note} {r : Bool} (h : r_Valid fuel p0 = some r) : PC Tryz.prog 45 [.d (encNote p0)] (vB r) := by
  refine PC.of_SW Tryz.func45 rfl fun H => ?_
  unfold r_Valid at h
  refine SW.kp 81 H [0] [(0, .d (.agg [.int .i64 p0.Kind, .int .i64 p0.Unit, .str p0.Key, .bool p0.Has, .str p0.Text]))] (by kernel_rfl) <| SW.seq <| SW.regionK <| OWk.sg 81 H [] [1] 2 [(1, .box [vI p0.Kind, vI p0.Unit, vS p0.Key, vB p0.Has, vS p0.Text])] (by kernel_rfl) <| OWk.done (by kernel_rfl) <| thenS_n <| SW.seq <| SW.seq <| SW.regionK <| OWk.sg 81 H [] [1, 4] 2 [(1, .box [vI p0.Kind, vI p0.Unit, vS p0.Key, vB p0.Has, vS p0.Text]), (4, vI p0.Kind)] (by kernel_rfl) <| OWk.done (by kernel_rfl) <| thenS_n <| SW.block <| SW.seq <| SW.regionK <| OWk.sg 81 H [] [1, 4, 5] 2 [(1, .box [vI p0.Kind, vI p0.Unit, vS p0.Key, vB p0.Has, vS p0.Text]), (4, vI p0.Kind), (5, vB (p0.Kind == 6))] (by kernel_rfl) <| OWk.done (by kernel_rfl) <| thenS_n ?_
  refine SW.condB (b := (p0.Kind == 6)) (by kernel_rfl) (fun hc => ?_) (fun hc => ?_)
  · replace h := bif_t hc h
    refine SW.seq <| SW.regionK <| OWk.sg 81 H [] [1, 10] 4 [(1, .box [vI p0.Kind, vI p0.Unit, vS p0.Key, vB p0.Has, vS p0.Text]), (10, vB (p0.Unit == 0))] (by kernel_rfl) <| OWk.mg 81 H [1, 14] 4 (p0.Unit == 0) (fun b => (sp 81 [(1, .box [vI p0.Kind, vI p0.Unit, vS p0.Key, vB p0.Has, vS p0.Text]), (10, vB b)] H)) (fun b => [(1, .box [vI p0.Kind, vI p0.Unit, vS p0.Key, vB p0.Has, vS p0.Text]), (14, vB (b && (p0.Key == [])))]) (by kernel_rfl) (by kernel_rfl) (by kernel_rfl) <| OWk.sg 81 H [] [1, 15] 1 [(1, .box [vI p0.Kind, vI p0.Unit, vS p0.Key, vB p0.Has, vS p0.Text]), (15, vB ((p0.Unit == 0) && (p0.Key == [])))] (by kernel_rfl) <| OWk.mg 81 H [1, 19] 4 ((p0.Unit == 0) && (p0.Key == [])) (fun b => (sp 81 [(1, .box [vI p0.Kind, vI p0.Unit, vS p0.Key, vB p0.Has, vS p0.Text]), (15, vB b)] H)) (fun b => [(1, .box [vI p0.Kind, vI p0.Unit, vS p0.Key, vB p0.Has, vS p0.Text]), (19, vB (b && (!p0.Has)))]) (by kernel_rfl) (by kernel_rfl) (by kernel_rfl) <| OWk.sg 81 H [] [1, 20] 1 [(1, .box [vI p0.Kind, vI p0.Unit, vS p0.Key, vB p0.Has, vS p0.Text]), (20, vB (((p0.Unit == 0) && (p0.Key == [])) && (!p0.Has)))] (by kernel_rfl) ?_
    refine OWk.case (((p0.Unit == 0) && (p0.Key == [])) && (!p0.Has)) (fun b => (sp 81 [(1, .box [vI p0.Kind, vI p0.Unit, vS p0.Key, vB p0.Has, vS p0.Text]), (20, vB b)] H)) (by kernel_rfl) (fun hc => ?_) (fun hc => ?_)
    · replace h := bif_t hc h
      refine OWk.sg 81 H [] [1, 20, 22] 2 [(1, .box [vI p0.Kind, vI p0.Unit, vS p0.Key, vB p0.Has, vS p0.Text]), (20, vB true), (22, vS p0.Text)] (by kernel_rfl) <| OWk.sg 81 H [] [1, 20, 23] 1 [(1, .box [vI p0.Kind, vI p0.Unit, vS p0.Key, vB p0.Has, vS p0.Text]), (20, vB true), (23, vI (p0.Text.length : Int))] (by kernel_rfl) <| OWk.sg 81 H [] [1, 26] 3 [(1, .box [vI p0.Kind, vI p0.Unit, vS p0.Key, vB p0.Has, vS p0.Text]), (26, vB (decide ((p0.Text.length : Int) ≥ 1)))] (by kernel_rfl) ?_
      refine OWk.case (decide ((p0.Text.length : Int) ≥ 1)) (fun b => (sp 81 [(1, .box [vI p0.Kind, vI p0.Unit, vS p0.Key, vB p0.Has, vS p0.Text]), (26, vB b)] H)) (by kernel_rfl) (fun hc => ?_) (fun hc => ?_)
      · replace h := bif_t hc h
        refine OWk.sg 81 H [] [26, 28] 2 [(26, vB true), (28, vS p0.Text)] (by kernel_rfl) <| OWk.sg 81 H [] [26, 29] 1 [(26, vB true), (29, vI (p0.Text.length : Int))] (by kernel_rfl) <| OWk.sg 81 H [] [2] 3 [(2, vB (decide ((p0.Text.length : Int) ≤ 40)))] (by kernel_rfl) <| OWk.done (by kernel_rfl) <| thenS_n <| SW.ret <| blockS_r <| thenS_r ?_
        cases h
        exact EndQ.ret [] (by kernel_rfl) rfl
      · replace h := bif_f hc h
        refine OWk.sg 81 H [] [2] 6 [(2, vB false)] (by kernel_rfl) <| OWk.done (by kernel_rfl) <| thenS_n <| SW.ret <| blockS_r <| thenS_r ?_
        cases h
        exact EndQ.ret [] (by kernel_rfl) rfl
    · replace h := bif_f hc h
      refine OWk.sg 81 H [] [2] 12 [(2, vB false)] (by kernel_rfl) <| OWk.done (by kernel_rfl) <| thenS_n <| SW.ret <| blockS_r <| thenS_r ?_
      cases h
      exact EndQ.ret [] (by kernel_rfl) rfl
  · replace h := bif_f hc h
    obtain ⟨jp2, hjjp2, h⟩ := letJ_inv h
    refine SW.jn 81 H [1, 4, 32] (fun (j1 : Bool) => [(1, .box [vI p0.Kind, vI p0.Unit, vS p0.Key, vB p0.Has, vS p0.Text]), (4, vI p0.Kind), (32, vB j1)]) (fun v => jp2 v = some r) (fun j1 h => ?_) ?_
    · rw [hjjp2] at h
      refine SW.condB (b := j1) (by kernel_rfl) (fun hc => ?_) (fun hc => ?_)
      · replace h := bif_t hc h
        refine SW.seq <| SW.regionK <| OWk.sg 81 H [] [1, 38] 4 [(1, .box [vI p0.Kind, vI p0.Unit, vS p0.Key, vB p0.Has, vS p0.Text]), (38, vB (decide (p0.Unit ≥ 1)))] (by kernel_rfl) <| OWk.mg 81 H [1, 42] 4 (decide (p0.Unit ≥ 1)) (fun b => (sp 81 [(1, .box [vI p0.Kind, vI p0.Unit, vS p0.Key, vB p0.Has, vS p0.Text]), (38, vB b)] H)) (fun b => [(1, .box [vI p0.Kind, vI p0.Unit, vS p0.Key, vB p0.Has, vS p0.Text]), (42, vB (b && (decide (p0.Unit ≤ 1000))))]) (by kernel_rfl) (by kernel_rfl) (by kernel_rfl) <| OWk.sg 81 H [] [1, 43] 1 [(1, .box [vI p0.Kind, vI p0.Unit, vS p0.Key, vB p0.Has, vS p0.Text]), (43, vB ((decide (p0.Unit ≥ 1)) && (decide (p0.Unit ≤ 1000))))] (by kernel_rfl) ?_
        refine OWk.case ((decide (p0.Unit ≥ 1)) && (decide (p0.Unit ≤ 1000))) (fun b => (sp 81 [(1, .box [vI p0.Kind, vI p0.Unit, vS p0.Key, vB p0.Has, vS p0.Text]), (43, vB b)] H)) (by kernel_rfl) (fun hc => ?_) (fun hc => ?_)
        · replace h := bif_t hc h
          refine OWk.sg 81 H [] [43, 50] 7 [(43, vB true), (50, .d (.agg [.str p0.Key, .bool p0.Has, .str p0.Text]))] (by kernel_rfl) ?_
          obtain ⟨r3, hr, h⟩ := bind_inv h
          refine OWk.cl 81 H (d := some 51) (ls := []) (gs := []) [] [43, 51] [(43, vB true), (51, vB r3)] (r_image_ok hr) (by kernel_rfl) (by kernel_rfl) (by kernel_rfl) <| OWk.sg 81 H [] [2] 2 [(2, vB r3)] (by kernel_rfl) <| OWk.done (by kernel_rfl) <| thenS_n <| SW.ret <| blockS_r <| thenS_r ?_
          cases h
          exact EndQ.ret [] (by kernel_rfl) rfl
        · replace h := bif_f hc h
          refine OWk.sg 81 H [] [2] 10 [(2, vB false)] (by kernel_rfl) <| OWk.done (by kernel_rfl) <| thenS_n <| SW.ret <| blockS_r <| thenS_r ?_
          cases h
          exact EndQ.ret [] (by kernel_rfl) rfl
      · replace h := bif_f hc h
        obtain ⟨jp5, hjjp5, h⟩ := letJ_inv h
        refine SW.jn 81 H [1, 53] (fun (j4 : Bool) => [(1, .box [vI p0.Kind, vI p0.Unit, vS p0.Key, vB p0.Has, vS p0.Text]), (53, vB j4)]) (fun v => jp5 v = some r) (fun j4 h => ?_) ?_
        · rw [hjjp5] at h
          refine SW.condB (b := j4) (by kernel_rfl) (fun hc => ?_) (fun hc => ?_)
          · replace h := bif_t hc h
            refine SW.seq <| SW.regionK <| OWk.sg 81 H [] [1, 61] 4 [(1, .box [vI p0.Kind, vI p0.Unit, vS p0.Key, vB p0.Has, vS p0.Text]), (61, vB (decide (p0.Unit ≥ 1)))] (by kernel_rfl) <| OWk.mg 81 H [1, 65] 4 (decide (p0.Unit ≥ 1)) (fun b => (sp 81 [(1, .box [vI p0.Kind, vI p0.Unit, vS p0.Key, vB p0.Has, vS p0.Text]), (61, vB b)] H)) (fun b => [(1, .box [vI p0.Kind, vI p0.Unit, vS p0.Key, vB p0.Has, vS p0.Text]), (65, vB (b && (decide (p0.Unit ≤ 1000))))]) (by kernel_rfl) (by kernel_rfl) (by kernel_rfl) <| OWk.sg 81 H [] [1, 66] 1 [(1, .box [vI p0.Kind, vI p0.Unit, vS p0.Key, vB p0.Has, vS p0.Text]), (66, vB ((decide (p0.Unit ≥ 1)) && (decide (p0.Unit ≤ 1000))))] (by kernel_rfl) <| OWk.mg 81 H [1, 70] 4 ((decide (p0.Unit ≥ 1)) && (decide (p0.Unit ≤ 1000))) (fun b => (sp 81 [(1, .box [vI p0.Kind, vI p0.Unit, vS p0.Key, vB p0.Has, vS p0.Text]), (66, vB b)] H)) (fun b => [(1, .box [vI p0.Kind, vI p0.Unit, vS p0.Key, vB p0.Has, vS p0.Text]), (70, vB (b && (p0.Key == [])))]) (by kernel_rfl) (by kernel_rfl) (by kernel_rfl) <| OWk.sg 81 H [] [1, 71] 1 [(1, .box [vI p0.Kind, vI p0.Unit, vS p0.Key, vB p0.Has, vS p0.Text]), (71, vB (((decide (p0.Unit ≥ 1)) && (decide (p0.Unit ≤ 1000))) && (p0.Key == [])))] (by kernel_rfl) <| OWk.mg 81 H [1, 75] 4 (((decide (p0.Unit ≥ 1)) && (decide (p0.Unit ≤ 1000))) && (p0.Key == [])) (fun b => (sp 81 [(1, .box [vI p0.Kind, vI p0.Unit, vS p0.Key, vB p0.Has, vS p0.Text]), (71, vB b)] H)) (fun b => [(1, .box [vI p0.Kind, vI p0.Unit, vS p0.Key, vB p0.Has, vS p0.Text]), (75, vB (b && (!p0.Has)))]) (by kernel_rfl) (by kernel_rfl) (by kernel_rfl) <| OWk.sg 81 H [] [1, 76] 1 [(1, .box [vI p0.Kind, vI p0.Unit, vS p0.Key, vB p0.Has, vS p0.Text]), (76, vB ((((decide (p0.Unit ≥ 1)) && (decide (p0.Unit ≤ 1000))) && (p0.Key == [])) && (!p0.Has)))] (by kernel_rfl) <| OWk.mg 81 H [80] 4 ((((decide (p0.Unit ≥ 1)) && (decide (p0.Unit ≤ 1000))) && (p0.Key == [])) && (!p0.Has)) (fun b => (sp 81 [(1, .box [vI p0.Kind, vI p0.Unit, vS p0.Key, vB p0.Has, vS p0.Text]), (76, vB b)] H)) (fun b => [(80, vB (b && (p0.Text == [])))]) (by kernel_rfl) (by kernel_rfl) (by kernel_rfl) <| OWk.sg 81 H [] [2] 1 [(2, vB (((((decide (p0.Unit ≥ 1)) && (decide (p0.Unit ≤ 1000))) && (p0.Key == [])) && (!p0.Has)) && (p0.Text == [])))] (by kernel_rfl) <| OWk.done (by kernel_rfl) <| thenS_n <| SW.ret <| blockS_r <| thenS_r ?_
            cases h
            exact EndQ.ret [] (by kernel_rfl) rfl
          · replace h := bif_f hc h
            refine SW.skip <| blockS_n <| thenS_n <| SW.seq <| SW.regionK <| OWk.sg 81 H [] [2] 1 [(2, vB false)] (by kernel_rfl) <| OWk.done (by kernel_rfl) <| thenS_n <| SW.ret ?_
            cases h
            exact EndQ.ret [] (by kernel_rfl) rfl
        · refine SW.seq <| SW.regionK <| OWk.sg 81 H [] [1, 4, 53] 2 [(1, .box [vI p0.Kind, vI p0.Unit, vS p0.Key, vB p0.Has, vS p0.Text]), (4, vI p0.Kind), (53, vB (p0.Kind == 1))] (by kernel_rfl) <| OWk.done (by kernel_rfl) <| thenS_n ?_
          refine SW.case (p0.Kind == 1) (fun b => (sp 81 [(1, .box [vI p0.Kind, vI p0.Unit, vS p0.Key, vB p0.Has, vS p0.Text]), (4, vI p0.Kind), (53, vB b)] H)) (by kernel_rfl) (fun hc => ?_) (fun hc => ?_)
          · replace h := bif_t hc h
            refine SW.condT (by kernel_rfl) <| SW.skip ?_
            exact ⟨true, [], by kernel_rfl, h⟩
          · replace h := bif_f hc h
            refine SW.condF (by kernel_rfl) <| SW.seq <| SW.regionK <| OWk.sg 81 H [] [1, 4, 53] 2 [(1, .box [vI p0.Kind, vI p0.Unit, vS p0.Key, vB p0.Has, vS p0.Text]), (4, vI p0.Kind), (53, vB (p0.Kind == 4))] (by kernel_rfl) <| OWk.done (by kernel_rfl) <| thenS_n ?_
            refine SW.case (p0.Kind == 4) (fun b => (sp 81 [(1, .box [vI p0.Kind, vI p0.Unit, vS p0.Key, vB p0.Has, vS p0.Text]), (4, vI p0.Kind), (53, vB b)] H)) (by kernel_rfl) (fun hc => ?_) (fun hc => ?_)
            · replace h := bif_t hc h
              refine SW.condT (by kernel_rfl) <| SW.skip ?_
              exact ⟨true, [], by kernel_rfl, h⟩
            · replace h := bif_f hc h
              refine SW.condF (by kernel_rfl) <| SW.seq <| SW.regionK <| OWk.sg 81 H [] [1, 4, 53] 2 [(1, .box [vI p0.Kind, vI p0.Unit, vS p0.Key, vB p0.Has, vS p0.Text]), (4, vI p0.Kind), (53, vB (p0.Kind == 5))] (by kernel_rfl) <| OWk.done (by kernel_rfl) <| thenS_n ?_
              refine SW.case (p0.Kind == 5) (fun b => (sp 81 [(1, .box [vI p0.Kind, vI p0.Unit, vS p0.Key, vB p0.Has, vS p0.Text]), (4, vI p0.Kind), (53, vB b)] H)) (by kernel_rfl) (fun hc => ?_) (fun hc => ?_)
              · replace h := bif_t hc h
                refine SW.condT (by kernel_rfl) <| SW.skip ?_
                exact ⟨true, [], by kernel_rfl, h⟩
              · replace h := bif_f hc h
                refine SW.condF (by kernel_rfl) <| SW.regionK <| OWk.sg 81 H [] [1, 53] 2 [(1, .box [vI p0.Kind, vI p0.Unit, vS p0.Key, vB p0.Has, vS p0.Text]), (53, vB (p0.Kind == 7))] (by kernel_rfl) <| OWk.done (by kernel_rfl) ?_
                exact ⟨(p0.Kind == 7), [], by kernel_rfl, h⟩
    · refine SW.seq <| SW.regionK <| OWk.sg 81 H [] [1, 4, 32] 2 [(1, .box [vI p0.Kind, vI p0.Unit, vS p0.Key, vB p0.Has, vS p0.Text]), (4, vI p0.Kind), (32, vB (p0.Kind == 2))] (by kernel_rfl) <| OWk.done (by kernel_rfl) <| thenS_n ?_
      refine SW.case (p0.Kind == 2) (fun b => (sp 81 [(1, .box [vI p0.Kind, vI p0.Unit, vS p0.Key, vB p0.Has, vS p0.Text]), (4, vI p0.Kind), (32, vB b)] H)) (by kernel_rfl) (fun hc => ?_) (fun hc => ?_)
      · replace h := bif_t hc h
        refine SW.condT (by kernel_rfl) <| SW.skip ?_
        exact ⟨true, [], by kernel_rfl, h⟩
      · replace h := bif_f hc h
        refine SW.condF (by kernel_rfl) <| SW.regionK <| OWk.sg 81 H [] [1, 4, 32] 2 [(1, .box [vI p0.Kind, vI p0.Unit, vS p0.Key, vB p0.Has, vS p0.Text]), (4, vI p0.Kind), (32, vB (p0.Kind == 3))] (by kernel_rfl) <| OWk.done (by kernel_rfl) ?_
        exact ⟨(p0.Kind == 3), [], by kernel_rfl, h⟩
def r_notes_l1 (fuel : Nat) (p0 : (List Note)) (y1 : Int) : Option ((Int) ⊕ ((Unit) ⊕ ((Bool)))) :=
  bif (decide (y1 < (p0.length : Int))) then
    (idx p0 y1).bind fun x2 =>
    (r_Valid fuel x2).bind fun r3 =>
    bif (!r3) then
      some (.inr (.inr false))
    else
      some (.inl (IntKind.wrap .i64 (y1 + 1)))
  else
    some (.inr (.inl ()))
def r_notes (fuel : Nat) (p0 : (List Note)) : Option (Bool) :=
  (iter (r_notes_l1 fuel p0) fuel 0).bind (Sum.elim (fun v5 =>
    some (decide ((p0.length : Int) ≤ 1000))) (fun r6 =>
    some r6))
theorem r_notes_ok {fuel : Nat} {p0 : (List Note)} {r : Bool} (h : r_notes fuel p0 = some r) : PC Tryz.prog 25 [.d (.list 5 (List.map encNote p0))] (vB r) := by
  refine PC.of_SW Tryz.func25 rfl fun H => ?_
  unfold r_notes at h
  refine SW.kp 19 H [0] [(0, .d (.list 5 (List.map encNote p0)))] (by kernel_rfl) <| SW.seq <| SW.regionK <| OWk.sg 19 H [] [0] 1 [(0, .d (.list 5 (List.map encNote p0)))] (by kernel_rfl) <| OWk.done (by kernel_rfl) <| thenS_n <| SW.seq <| SW.seq <| SW.regionK <| OWk.sg 19 H [] [0, 3] 1 [(0, .d (.list 5 (List.map encNote p0))), (3, vI 0)] (by kernel_rfl) <| OWk.done (by kernel_rfl) <| thenS_n <| SW.block ?_
  obtain ⟨z4, hit, h⟩ := bind_inv h
  refine SW.it 19 H [0, 3] (fun y1 => [(0, .d (.list 5 (List.map encNote p0))), (3, vI y1)]) (fun b e s => ((∃ v5, b = (.inl v5) ∧ (e = .exit 0 ∧ s = (sp 19 [(0, .d (.list 5 (List.map encNote p0)))] H))) ∨ (∃ r6, b = (.inr r6) ∧ (e = .ret ∧ EndQ Tryz.prog Tryz.f25.results.toList H (vB r6) .ret s)))) hit (by kernel_rfl) (fun y1 o h => ?_) ?_
  · unfold r_notes_l1 at h
    refine SW.seq <| SW.seq <| SW.regionK <| OWk.sg 19 H [] [0, 3, 4, 5] 2 [(0, .d (.list 5 (List.map encNote p0))), (3, vI y1), (4, vI y1), (5, .d (.list 5 (List.map encNote p0)))] (by kernel_rfl) <| OWk.on 19 H (d := some 6) [0, 3, 4, 6] [(0, .d (.list 5 (List.map encNote p0))), (3, vI y1), (4, vI y1), (6, vI (p0.length : Int))] (BAt.len (enc := encNote) (xs := p0) (by kernel_rfl)) (by kernel_rfl) <| OWk.sg 19 H [] [0, 3, 7] 1 [(0, .d (.list 5 (List.map encNote p0))), (3, vI y1), (7, vB (decide (y1 < (p0.length : Int))))] (by kernel_rfl) <| OWk.done (by kernel_rfl) <| thenS_n ?_
    refine SW.condB (b := (decide (y1 < (p0.length : Int)))) (by kernel_rfl) (fun hc => ?_) (fun hc => ?_)
    · replace h := bif_t hc h
      refine SW.skip <| thenS_n <| SW.seq <| SW.block <| SW.seq <| SW.regionK <| OWk.sg 19 H [] [0, 3, 10, 11] 2 [(0, .d (.list 5 (List.map encNote p0))), (3, vI y1), (10, .d (.list 5 (List.map encNote p0))), (11, vI y1)] (by kernel_rfl) ?_
      obtain ⟨x2, hx, h⟩ := bind_inv h
      refine OWk.on 19 H (d := some 12) (s := lendP none (Go.Sh.D.cells (encNote x2))) [0, 3, 12] [(0, .d (.list 5 (List.map encNote p0))), (3, vI y1), (12, .d (.dptr [.int .i64 x2.Kind, .int .i64 x2.Unit, .str x2.Key, .bool x2.Has, .str x2.Text]))] (BAt.index (n := 5) hx (by kernel_rfl)) (by kernel_rfl) <| OWk.sg 19 H [] [0, 3, 13] 1 [(0, .d (.list 5 (List.map encNote p0))), (3, vI y1), (13, .d (.agg [.int .i64 x2.Kind, .int .i64 x2.Unit, .str x2.Key, .bool x2.Has, .str x2.Text]))] (by kernel_rfl) ?_
      obtain ⟨r3, hr, h⟩ := bind_inv h
      refine OWk.cl 19 H (d := some 14) (ls := []) (gs := []) [] [0, 3, 14] [(0, .d (.list 5 (List.map encNote p0))), (3, vI y1), (14, vB r3)] (r_Valid_ok hr) (by kernel_rfl) (by kernel_rfl) (by kernel_rfl) <| OWk.sg 19 H [] [0, 3, 15] 1 [(0, .d (.list 5 (List.map encNote p0))), (3, vI y1), (15, vB (!r3))] (by kernel_rfl) <| OWk.done (by kernel_rfl) <| thenS_n ?_
      refine SW.condB (b := (!r3)) (by kernel_rfl) (fun hc => ?_) (fun hc => ?_)
      · replace h := bif_t hc h
        refine SW.seq <| SW.regionK <| OWk.sg 19 H [] [2] 1 [(2, vB false)] (by kernel_rfl) <| OWk.done (by kernel_rfl) <| thenS_n <| SW.ret <| blockS_r <| thenS_r ?_
        cases h
        refine thenS_r ?_
        exact ⟨_, rfl, .inr (⟨false, rfl, rfl, EndQ.ret [] (by kernel_rfl) rfl⟩)⟩
      · replace h := bif_f hc h
        refine SW.skip <| blockS_n <| thenS_n <| SW.regionK <| OWk.sg 19 H [] [0, 3] 3 [(0, .d (.list 5 (List.map encNote p0))), (3, vI (IntKind.wrap .i64 (y1 + 1)))] (by kernel_rfl) <| OWk.done (by kernel_rfl) ?_
        cases h
        exact ⟨(IntKind.wrap .i64 (y1 + 1)), rfl, by kernel_rfl⟩
    · replace h := bif_f hc h
      refine SW.kp 19 H [0] [(0, .d (.list 5 (List.map encNote p0)))] (by kernel_rfl) <| SW.exit <| thenS_e ?_
      cases h
      refine thenS_e ?_
      exact ⟨_, rfl, .inl ⟨(), rfl, rfl, rfl⟩⟩
  · rintro _ _ (⟨v5, rfl, rfl, rfl⟩ | ⟨r6, rfl, rfl, hE⟩)
    · replace h := sum_l h
      refine blockS_hit <| thenS_n <| SW.seq <| SW.regionK <| OWk.sg 19 H [] [16] 1 [(16, .d (.list 5 (List.map encNote p0)))] (by kernel_rfl) <| OWk.on 19 H (d := some 17) [17] [(17, vI (p0.length : Int))] (BAt.len (enc := encNote) (xs := p0) (by kernel_rfl)) (by kernel_rfl) <| OWk.sg 19 H [] [2] 2 [(2, vB (decide ((p0.length : Int) ≤ 1000)))] (by kernel_rfl) <| OWk.done (by kernel_rfl) <| thenS_n <| SW.ret ?_
      cases h
      exact EndQ.ret [] (by kernel_rfl) rfl
    · replace h := sum_r h
      refine blockS_r <| thenS_r ?_
      cases h
      exact hE
def r_since_l1 (fuel : Nat) (p0 : (List Note)) (p1 : Int) (p2 : Int) (y1 : Int × Int) : Option ((Int × Int) ⊕ (Int)) :=
  bif (decide (y1.2 < p1)) then
    letJ (fun (j2 : Bool) =>
      bif j2 then
        some (.inl (y1.1, (IntKind.wrap .i64 (y1.2 + 1))))
      else
        (idx p0 y1.2).bind fun x6 =>
        bif (x6.Kind == 1) then
          some (.inl (y1.2, (IntKind.wrap .i64 (y1.2 + 1))))
        else
          bif (x6.Kind == 4) then
            some (.inl (y1.2, (IntKind.wrap .i64 (y1.2 + 1))))
          else
            bif (x6.Kind == 5) then
              some (.inl ((-1), (IntKind.wrap .i64 (y1.2 + 1))))
            else
              bif (x6.Kind == 7) then
                some (.inl ((-1), (IntKind.wrap .i64 (y1.2 + 1))))
              else
                some (.inl (y1.1, (IntKind.wrap .i64 (y1.2 + 1))))) fun jp3 =>
    (idx p0 y1.2).bind fun x4 =>
    bif (x4.Unit != p2) then
      jp3 true
    else
      (idx p0 y1.2).bind fun x5 =>
      jp3 (x5.Kind == 6)
  else
    some (.inr y1.1)
def r_since (fuel : Nat) (p0 : (List Note)) (p1 : Int) (p2 : Int) : Option (Int) :=
  (iter (r_since_l1 fuel p0 p1 p2) fuel ((-1), 0)).bind fun v8 =>
  some v8
theorem r_since_ok {fuel : Nat} {p0 : (List Note)} {p1 : Int} {p2 : Int} {r : Int} (h : r_since fuel p0 p1 p2 = some r) : PC Tryz.prog 32 [.d (.list 5 (List.map encNote p0)), vI p1, vI p2] (vI r) := by
  refine PC.of_SW Tryz.func32 rfl fun H => ?_
  unfold r_since at h
  refine SW.kp 42 H [0, 1, 2] [(0, .d (.list 5 (List.map encNote p0))), (1, vI p1), (2, vI p2)] (by kernel_rfl) <| SW.seq <| SW.regionK <| OWk.sg 42 H [] [0, 1, 2] 1 [(0, .d (.list 5 (List.map encNote p0))), (1, vI p1), (2, vI p2)] (by kernel_rfl) <| OWk.done (by kernel_rfl) <| thenS_n <| SW.seq <| SW.regionK <| OWk.sg 42 H [] [0, 1, 2, 7] 1 [(0, .d (.list 5 (List.map encNote p0))), (1, vI p1), (2, vI p2), (7, vI (-1))] (by kernel_rfl) <| OWk.done (by kernel_rfl) <| thenS_n <| SW.seq <| SW.seq <| SW.regionK <| OWk.sg 42 H [] [0, 1, 2, 7, 8] 1 [(0, .d (.list 5 (List.map encNote p0))), (1, vI p1), (2, vI p2), (7, vI (-1)), (8, vI 0)] (by kernel_rfl) <| OWk.done (by kernel_rfl) <| thenS_n <| SW.block ?_
  obtain ⟨v8, hit, h⟩ := bind_inv h
  refine SW.it 42 H [0, 1, 2, 7, 8] (fun y1 => [(0, .d (.list 5 (List.map encNote p0))), (1, vI p1), (2, vI p2), (7, vI y1.1), (8, vI y1.2)]) (fun v8 e s => (e = .exit 0 ∧ s = (sp 42 [(7, vI v8)] H))) hit (by kernel_rfl) (fun y1 o h => ?_) ?_
  · unfold r_since_l1 at h
    refine SW.seq <| SW.seq <| SW.regionK <| OWk.sg 42 H [] [0, 1, 2, 7, 8, 11] 3 [(0, .d (.list 5 (List.map encNote p0))), (1, vI p1), (2, vI p2), (7, vI y1.1), (8, vI y1.2), (11, vB (decide (y1.2 < p1)))] (by kernel_rfl) <| OWk.done (by kernel_rfl) <| thenS_n ?_
    refine SW.condB (b := (decide (y1.2 < p1))) (by kernel_rfl) (fun hc => ?_) (fun hc => ?_)
    · replace h := bif_t hc h
      refine SW.skip <| thenS_n <| SW.seq <| SW.block <| SW.seq ?_
      obtain ⟨jp3, hjjp3, h⟩ := letJ_inv h
      refine SW.jn 42 H [0, 1, 2, 7, 8, 28] (fun (j2 : Bool) => [(0, .d (.list 5 (List.map encNote p0))), (1, vI p1), (2, vI p2), (7, vI y1.1), (8, vI y1.2), (28, vB j2)]) (fun v => jp3 v = some o) (fun j2 h => ?_) ?_
      · rw [hjjp3] at h
        refine SW.condB (b := j2) (by kernel_rfl) (fun hc => ?_) (fun hc => ?_)
        · replace h := bif_t hc h
          refine SW.exit <| thenS_e <| blockS_hit <| thenS_n <| SW.regionK <| OWk.sg 42 H [] [0, 1, 2, 7, 8] 3 [(0, .d (.list 5 (List.map encNote p0))), (1, vI p1), (2, vI p2), (7, vI y1.1), (8, vI (IntKind.wrap .i64 (y1.2 + 1)))] (by kernel_rfl) <| OWk.done (by kernel_rfl) ?_
          cases h
          exact ⟨(y1.1, (IntKind.wrap .i64 (y1.2 + 1))), rfl, by kernel_rfl⟩
        · replace h := bif_f hc h
          refine SW.skip <| thenS_n <| SW.seq <| SW.regionK <| OWk.sg 42 H [] [0, 1, 2, 7, 8, 29, 30] 2 [(0, .d (.list 5 (List.map encNote p0))), (1, vI p1), (2, vI p2), (7, vI y1.1), (8, vI y1.2), (29, .d (.list 5 (List.map encNote p0))), (30, vI y1.2)] (by kernel_rfl) ?_
          obtain ⟨x6, hx, h⟩ := bind_inv h
          refine OWk.on 42 H (d := some 31) (s := lendP none (Go.Sh.D.cells (encNote x6))) [0, 1, 2, 7, 8, 31] [(0, .d (.list 5 (List.map encNote p0))), (1, vI p1), (2, vI p2), (7, vI y1.1), (8, vI y1.2), (31, .d (.dptr [.int .i64 x6.Kind, .int .i64 x6.Unit, .str x6.Key, .bool x6.Has, .str x6.Text]))] (BAt.index (n := 5) hx (by kernel_rfl)) (by kernel_rfl) <| OWk.sg 42 H [] [0, 1, 2, 7, 8, 33] 2 [(0, .d (.list 5 (List.map encNote p0))), (1, vI p1), (2, vI p2), (7, vI y1.1), (8, vI y1.2), (33, vI x6.Kind)] (by kernel_rfl) <| OWk.done (by kernel_rfl) <| thenS_n <| SW.block <| SW.seq <| SW.seq <| SW.regionK <| OWk.sg 42 H [] [0, 1, 2, 7, 8, 33, 34] 2 [(0, .d (.list 5 (List.map encNote p0))), (1, vI p1), (2, vI p2), (7, vI y1.1), (8, vI y1.2), (33, vI x6.Kind), (34, vB (x6.Kind == 1))] (by kernel_rfl) <| OWk.done (by kernel_rfl) <| thenS_n ?_
          refine SW.case (x6.Kind == 1) (fun b => (sp 42 [(0, .d (.list 5 (List.map encNote p0))), (1, vI p1), (2, vI p2), (7, vI y1.1), (8, vI y1.2), (33, vI x6.Kind), (34, vB b)] H)) (by kernel_rfl) (fun hc => ?_) (fun hc => ?_)
          · replace h := bif_t hc h
            refine SW.condT (by kernel_rfl) <| SW.skip <| thenS_n <| SW.condT (by kernel_rfl) <| SW.regionK <| OWk.sg 42 H [] [0, 1, 2, 7, 8] 2 [(0, .d (.list 5 (List.map encNote p0))), (1, vI p1), (2, vI p2), (7, vI y1.2), (8, vI y1.2)] (by kernel_rfl) <| OWk.done (by kernel_rfl) <| blockS_n <| blockS_n <| thenS_n <| SW.regionK <| OWk.sg 42 H [] [0, 1, 2, 7, 8] 3 [(0, .d (.list 5 (List.map encNote p0))), (1, vI p1), (2, vI p2), (7, vI y1.2), (8, vI (IntKind.wrap .i64 (y1.2 + 1)))] (by kernel_rfl) <| OWk.done (by kernel_rfl) ?_
            cases h
            exact ⟨(y1.2, (IntKind.wrap .i64 (y1.2 + 1))), rfl, by kernel_rfl⟩
          · replace h := bif_f hc h
            refine SW.condF (by kernel_rfl) <| SW.regionK <| OWk.sg 42 H [] [0, 1, 2, 7, 8, 33, 34] 2 [(0, .d (.list 5 (List.map encNote p0))), (1, vI p1), (2, vI p2), (7, vI y1.1), (8, vI y1.2), (33, vI x6.Kind), (34, vB (x6.Kind == 4))] (by kernel_rfl) <| OWk.done (by kernel_rfl) <| thenS_n ?_
            refine SW.condB (b := (x6.Kind == 4)) (by kernel_rfl) (fun hc => ?_) (fun hc => ?_)
            · replace h := bif_t hc h
              refine SW.regionK <| OWk.sg 42 H [] [0, 1, 2, 7, 8] 2 [(0, .d (.list 5 (List.map encNote p0))), (1, vI p1), (2, vI p2), (7, vI y1.2), (8, vI y1.2)] (by kernel_rfl) <| OWk.done (by kernel_rfl) <| blockS_n <| blockS_n <| thenS_n <| SW.regionK <| OWk.sg 42 H [] [0, 1, 2, 7, 8] 3 [(0, .d (.list 5 (List.map encNote p0))), (1, vI p1), (2, vI p2), (7, vI y1.2), (8, vI (IntKind.wrap .i64 (y1.2 + 1)))] (by kernel_rfl) <| OWk.done (by kernel_rfl) ?_
              cases h
              exact ⟨(y1.2, (IntKind.wrap .i64 (y1.2 + 1))), rfl, by kernel_rfl⟩
            · replace h := bif_f hc h
              refine SW.seq <| SW.seq <| SW.regionK <| OWk.sg 42 H [] [0, 1, 2, 7, 8, 33, 38] 2 [(0, .d (.list 5 (List.map encNote p0))), (1, vI p1), (2, vI p2), (7, vI y1.1), (8, vI y1.2), (33, vI x6.Kind), (38, vB (x6.Kind == 5))] (by kernel_rfl) <| OWk.done (by kernel_rfl) <| thenS_n ?_
              refine SW.case (x6.Kind == 5) (fun b => (sp 42 [(0, .d (.list 5 (List.map encNote p0))), (1, vI p1), (2, vI p2), (7, vI y1.1), (8, vI y1.2), (33, vI x6.Kind), (38, vB b)] H)) (by kernel_rfl) (fun hc => ?_) (fun hc => ?_)
              · replace h := bif_t hc h
                refine SW.condT (by kernel_rfl) <| SW.skip <| thenS_n <| SW.condT (by kernel_rfl) <| SW.regionK <| OWk.sg 42 H [] [0, 1, 2, 7, 8] 1 [(0, .d (.list 5 (List.map encNote p0))), (1, vI p1), (2, vI p2), (7, vI (-1)), (8, vI y1.2)] (by kernel_rfl) <| OWk.done (by kernel_rfl) <| blockS_n <| blockS_n <| thenS_n <| SW.regionK <| OWk.sg 42 H [] [0, 1, 2, 7, 8] 3 [(0, .d (.list 5 (List.map encNote p0))), (1, vI p1), (2, vI p2), (7, vI (-1)), (8, vI (IntKind.wrap .i64 (y1.2 + 1)))] (by kernel_rfl) <| OWk.done (by kernel_rfl) ?_
                cases h
                exact ⟨((-1), (IntKind.wrap .i64 (y1.2 + 1))), rfl, by kernel_rfl⟩
              · replace h := bif_f hc h
                refine SW.condF (by kernel_rfl) <| SW.regionK <| OWk.sg 42 H [] [0, 1, 2, 7, 8, 38] 2 [(0, .d (.list 5 (List.map encNote p0))), (1, vI p1), (2, vI p2), (7, vI y1.1), (8, vI y1.2), (38, vB (x6.Kind == 7))] (by kernel_rfl) <| OWk.done (by kernel_rfl) <| thenS_n ?_
                refine SW.condB (b := (x6.Kind == 7)) (by kernel_rfl) (fun hc => ?_) (fun hc => ?_)
                · replace h := bif_t hc h
                  refine SW.regionK <| OWk.sg 42 H [] [0, 1, 2, 7, 8] 1 [(0, .d (.list 5 (List.map encNote p0))), (1, vI p1), (2, vI p2), (7, vI (-1)), (8, vI y1.2)] (by kernel_rfl) <| OWk.done (by kernel_rfl) <| blockS_n <| blockS_n <| thenS_n <| SW.regionK <| OWk.sg 42 H [] [0, 1, 2, 7, 8] 3 [(0, .d (.list 5 (List.map encNote p0))), (1, vI p1), (2, vI p2), (7, vI (-1)), (8, vI (IntKind.wrap .i64 (y1.2 + 1)))] (by kernel_rfl) <| OWk.done (by kernel_rfl) ?_
                  cases h
                  exact ⟨((-1), (IntKind.wrap .i64 (y1.2 + 1))), rfl, by kernel_rfl⟩
                · replace h := bif_f hc h
                  refine SW.skip <| blockS_n <| blockS_n <| thenS_n <| SW.regionK <| OWk.sg 42 H [] [0, 1, 2, 7, 8] 3 [(0, .d (.list 5 (List.map encNote p0))), (1, vI p1), (2, vI p2), (7, vI y1.1), (8, vI (IntKind.wrap .i64 (y1.2 + 1)))] (by kernel_rfl) <| OWk.done (by kernel_rfl) ?_
                  cases h
                  exact ⟨(y1.1, (IntKind.wrap .i64 (y1.2 + 1))), rfl, by kernel_rfl⟩
      · refine SW.regionK <| OWk.sg 42 H [] [0, 1, 2, 7, 8, 14, 15] 2 [(0, .d (.list 5 (List.map encNote p0))), (1, vI p1), (2, vI p2), (7, vI y1.1), (8, vI y1.2), (14, .d (.list 5 (List.map encNote p0))), (15, vI y1.2)] (by kernel_rfl) ?_
        obtain ⟨x4, hx, h⟩ := bind_inv h
        refine OWk.on 42 H (d := some 16) (s := lendP none (Go.Sh.D.cells (encNote x4))) [0, 1, 2, 7, 8, 16] [(0, .d (.list 5 (List.map encNote p0))), (1, vI p1), (2, vI p2), (7, vI y1.1), (8, vI y1.2), (16, .d (.dptr [.int .i64 x4.Kind, .int .i64 x4.Unit, .str x4.Key, .bool x4.Has, .str x4.Text]))] (BAt.index (n := 5) hx (by kernel_rfl)) (by kernel_rfl) <| OWk.sg 42 H [] [0, 1, 2, 7, 8, 21] 5 [(0, .d (.list 5 (List.map encNote p0))), (1, vI p1), (2, vI p2), (7, vI y1.1), (8, vI y1.2), (21, vB (x4.Unit != p2))] (by kernel_rfl) ?_
        refine OWk.case (x4.Unit != p2) (fun b => (sp 42 [(0, .d (.list 5 (List.map encNote p0))), (1, vI p1), (2, vI p2), (7, vI y1.1), (8, vI y1.2), (21, vB b)] H)) (by kernel_rfl) (fun hc => ?_) (fun hc => ?_)
        · replace h := bif_t hc h
          refine OWk.sg 42 H [] [0, 1, 2, 7, 8, 28] 7 [(0, .d (.list 5 (List.map encNote p0))), (1, vI p1), (2, vI p2), (7, vI y1.1), (8, vI y1.2), (28, vB true)] (by kernel_rfl) <| OWk.done (by kernel_rfl) ?_
          exact ⟨true, [], by kernel_rfl, h⟩
        · replace h := bif_f hc h
          refine OWk.sg 42 H [] [0, 1, 2, 7, 8, 21, 22, 23] 2 [(0, .d (.list 5 (List.map encNote p0))), (1, vI p1), (2, vI p2), (7, vI y1.1), (8, vI y1.2), (21, vB false), (22, .d (.list 5 (List.map encNote p0))), (23, vI y1.2)] (by kernel_rfl) ?_
          obtain ⟨x5, hx, h⟩ := bind_inv h
          refine OWk.on 42 H (d := some 24) (s := lendP none (Go.Sh.D.cells (encNote x5))) [0, 1, 2, 7, 8, 21, 24] [(0, .d (.list 5 (List.map encNote p0))), (1, vI p1), (2, vI p2), (7, vI y1.1), (8, vI y1.2), (21, vB false), (24, .d (.dptr [.int .i64 x5.Kind, .int .i64 x5.Unit, .str x5.Key, .bool x5.Has, .str x5.Text]))] (BAt.index (n := 5) hx (by kernel_rfl)) (by kernel_rfl) <| OWk.sg 42 H [] [0, 1, 2, 7, 8, 28] 4 [(0, .d (.list 5 (List.map encNote p0))), (1, vI p1), (2, vI p2), (7, vI y1.1), (8, vI y1.2), (28, vB (x5.Kind == 6))] (by kernel_rfl) <| OWk.done (by kernel_rfl) ?_
          exact ⟨(x5.Kind == 6), [], by kernel_rfl, h⟩
    · replace h := bif_f hc h
      refine SW.kp 42 H [7] [(7, vI y1.1)] (by kernel_rfl) <| SW.exit <| thenS_e ?_
      cases h
      refine thenS_e ?_
      exact ⟨_, rfl, ⟨rfl, rfl⟩⟩
  · rintro _ _ ⟨rfl, rfl⟩
    refine blockS_hit <| thenS_n <| SW.seq <| SW.regionK <| OWk.sg 42 H [] [6] 2 [(6, vI v8)] (by kernel_rfl) <| OWk.done (by kernel_rfl) <| thenS_n <| SW.ret ?_
    cases h
    exact EndQ.ret [] (by kernel_rfl) rfl
def r_touched_l1 (fuel : Nat) (p0 : (List Note)) (p1 : Int) (p2 : Int) (p3 : (List UInt8)) (p4 : Int) (r1 : Int) (y2 : Int) : Option ((Int) ⊕ ((Unit) ⊕ ((Bool)))) :=
  bif ((decide (r1 ≥ 0)) && (decide (y2 < p1))) then
    (idx p0 y2).bind fun x3 =>
    bif (x3.Unit == p2) then
      (idx p0 y2).bind fun x4 =>
      bif (x4.Key == p3) then
        (idx p0 y2).bind fun x5 =>
        bif (x5.Kind == 2) then
          bif (p4 == 0) then
            some (.inr (.inr true))
          else
            (idx p0 y2).bind fun x6 =>
            bif (x6.Kind == p4) then
              some (.inr (.inr true))
            else
              some (.inl (IntKind.wrap .i64 (y2 + 1)))
        else
          (idx p0 y2).bind fun x7 =>
          bif (x7.Kind == 3) then
            bif (p4 == 0) then
              some (.inr (.inr true))
            else
              (idx p0 y2).bind fun x8 =>
              bif (x8.Kind == p4) then
                some (.inr (.inr true))
              else
                some (.inl (IntKind.wrap .i64 (y2 + 1)))
          else
            some (.inl (IntKind.wrap .i64 (y2 + 1)))
      else
        some (.inl (IntKind.wrap .i64 (y2 + 1)))
    else
      some (.inl (IntKind.wrap .i64 (y2 + 1)))
  else
    some (.inr (.inl ()))
def r_touched (fuel : Nat) (p0 : (List Note)) (p1 : Int) (p2 : Int) (p3 : (List UInt8)) (p4 : Int) : Option (Bool) :=
  (r_since fuel p0 p1 p2).bind fun r1 =>
  (iter (r_touched_l1 fuel p0 p1 p2 p3 p4 r1) fuel (IntKind.wrap .i64 (r1 + 1))).bind (Sum.elim (fun v10 =>
    some false) (fun r11 =>
    some r11))
theorem r_touched_ok {fuel : Nat} {p0 : (List Note)} {p1 : Int} {p2 : Int} {p3 : (List UInt8)} {p4 : Int} {r : Bool} (h : r_touched fuel p0 p1 p2 p3 p4 = some r) : PC Tryz.prog 46 [.d (.list 5 (List.map encNote p0)), vI p1, vI p2, vS p3, vI p4] (vB r) := by
  refine PC.of_SW Tryz.func46 rfl fun H => ?_
  unfold r_touched at h
  refine SW.kp 73 H [0, 1, 2, 3, 4] [(0, .d (.list 5 (List.map encNote p0))), (1, vI p1), (2, vI p2), (3, vS p3), (4, vI p4)] (by kernel_rfl) <| SW.seq <| SW.regionK <| OWk.sg 73 H [] [0, 1, 2, 3, 4] 1 [(0, .d (.list 5 (List.map encNote p0))), (1, vI p1), (2, vI p2), (3, vS p3), (4, vI p4)] (by kernel_rfl) <| OWk.done (by kernel_rfl) <| thenS_n <| SW.seq <| SW.regionK <| OWk.sg 73 H [] [0, 1, 2, 3, 4, 13, 14, 15] 3 [(0, .d (.list 5 (List.map encNote p0))), (1, vI p1), (2, vI p2), (3, vS p3), (4, vI p4), (13, .d (.list 5 (List.map encNote p0))), (14, vI p1), (15, vI p2)] (by kernel_rfl) ?_
  obtain ⟨r1, hr, h⟩ := bind_inv h
  refine OWk.cl 73 H (d := some 16) (ls := []) (gs := []) [] [0, 1, 2, 3, 4, 16] [(0, .d (.list 5 (List.map encNote p0))), (1, vI p1), (2, vI p2), (3, vS p3), (4, vI p4), (16, vI r1)] (r_since_ok hr) (by kernel_rfl) (by kernel_rfl) (by kernel_rfl) <| OWk.sg 73 H [] [0, 1, 2, 3, 4, 11] 1 [(0, .d (.list 5 (List.map encNote p0))), (1, vI p1), (2, vI p2), (3, vS p3), (4, vI p4), (11, vI r1)] (by kernel_rfl) <| OWk.done (by kernel_rfl) <| thenS_n <| SW.seq <| SW.seq <| SW.regionK <| OWk.sg 73 H [] [0, 1, 2, 3, 4, 11, 12] 3 [(0, .d (.list 5 (List.map encNote p0))), (1, vI p1), (2, vI p2), (3, vS p3), (4, vI p4), (11, vI r1), (12, vI (IntKind.wrap .i64 (r1 + 1)))] (by kernel_rfl) <| OWk.done (by kernel_rfl) <| thenS_n <| SW.block ?_
  obtain ⟨z9, hit, h⟩ := bind_inv h
  refine SW.it 73 H [0, 1, 2, 3, 4, 11, 12] (fun y2 => [(0, .d (.list 5 (List.map encNote p0))), (1, vI p1), (2, vI p2), (3, vS p3), (4, vI p4), (11, vI r1), (12, vI y2)]) (fun b e s => ((∃ v10, b = (.inl v10) ∧ (e = .exit 0 ∧ s = (sp 73 [] H))) ∨ (∃ r11, b = (.inr r11) ∧ (e = .ret ∧ EndQ Tryz.prog Tryz.f46.results.toList H (vB r11) .ret s)))) hit (by kernel_rfl) (fun y2 o h => ?_) ?_
  · unfold r_touched_l1 at h
    refine SW.seq <| SW.seq <| SW.regionK <| OWk.sg 73 H [] [0, 1, 2, 3, 4, 11, 12, 21] 3 [(0, .d (.list 5 (List.map encNote p0))), (1, vI p1), (2, vI p2), (3, vS p3), (4, vI p4), (11, vI r1), (12, vI y2), (21, vB (decide (r1 ≥ 0)))] (by kernel_rfl) <| OWk.mg 73 H [0, 1, 2, 3, 4, 11, 12, 25] 4 (decide (r1 ≥ 0)) (fun b => (sp 73 [(0, .d (.list 5 (List.map encNote p0))), (1, vI p1), (2, vI p2), (3, vS p3), (4, vI p4), (11, vI r1), (12, vI y2), (21, vB b)] H)) (fun b => [(0, .d (.list 5 (List.map encNote p0))), (1, vI p1), (2, vI p2), (3, vS p3), (4, vI p4), (11, vI r1), (12, vI y2), (25, vB (b && (decide (y2 < p1))))]) (by kernel_rfl) (by kernel_rfl) (by kernel_rfl) <| OWk.done (by kernel_rfl) <| thenS_n ?_
    refine SW.condB (b := ((decide (r1 ≥ 0)) && (decide (y2 < p1)))) (by kernel_rfl) (fun hc => ?_) (fun hc => ?_)
    · replace h := bif_t hc h
      refine SW.skip <| thenS_n <| SW.seq <| SW.block <| SW.seq <| SW.regionK <| OWk.sg 73 H [] [0, 1, 2, 3, 4, 11, 12, 28, 29] 2 [(0, .d (.list 5 (List.map encNote p0))), (1, vI p1), (2, vI p2), (3, vS p3), (4, vI p4), (11, vI r1), (12, vI y2), (28, .d (.list 5 (List.map encNote p0))), (29, vI y2)] (by kernel_rfl) ?_
      obtain ⟨x3, hx, h⟩ := bind_inv h
      refine OWk.on 73 H (d := some 30) (s := lendP none (Go.Sh.D.cells (encNote x3))) [0, 1, 2, 3, 4, 11, 12, 30] [(0, .d (.list 5 (List.map encNote p0))), (1, vI p1), (2, vI p2), (3, vS p3), (4, vI p4), (11, vI r1), (12, vI y2), (30, .d (.dptr [.int .i64 x3.Kind, .int .i64 x3.Unit, .str x3.Key, .bool x3.Has, .str x3.Text]))] (BAt.index (n := 5) hx (by kernel_rfl)) (by kernel_rfl) <| OWk.sg 73 H [] [0, 1, 2, 3, 4, 11, 12, 35] 5 [(0, .d (.list 5 (List.map encNote p0))), (1, vI p1), (2, vI p2), (3, vS p3), (4, vI p4), (11, vI r1), (12, vI y2), (35, vB (x3.Unit == p2))] (by kernel_rfl) ?_
      refine OWk.case (x3.Unit == p2) (fun b => (sp 73 [(0, .d (.list 5 (List.map encNote p0))), (1, vI p1), (2, vI p2), (3, vS p3), (4, vI p4), (11, vI r1), (12, vI y2), (35, vB b)] H)) (by kernel_rfl) (fun hc => ?_) (fun hc => ?_)
      · replace h := bif_t hc h
        refine OWk.sg 73 H [] [0, 1, 2, 3, 4, 11, 12, 35, 36, 37] 2 [(0, .d (.list 5 (List.map encNote p0))), (1, vI p1), (2, vI p2), (3, vS p3), (4, vI p4), (11, vI r1), (12, vI y2), (35, vB true), (36, .d (.list 5 (List.map encNote p0))), (37, vI y2)] (by kernel_rfl) ?_
        obtain ⟨x4, hx, h⟩ := bind_inv h
        refine OWk.on 73 H (d := some 38) (s := lendP none (Go.Sh.D.cells (encNote x4))) [0, 1, 2, 3, 4, 11, 12, 35, 38] [(0, .d (.list 5 (List.map encNote p0))), (1, vI p1), (2, vI p2), (3, vS p3), (4, vI p4), (11, vI r1), (12, vI y2), (35, vB true), (38, .d (.dptr [.int .i64 x4.Kind, .int .i64 x4.Unit, .str x4.Key, .bool x4.Has, .str x4.Text]))] (BAt.index (n := 5) hx (by kernel_rfl)) (by kernel_rfl) <| OWk.sg 73 H [] [0, 1, 2, 3, 4, 11, 12, 44] 6 [(0, .d (.list 5 (List.map encNote p0))), (1, vI p1), (2, vI p2), (3, vS p3), (4, vI p4), (11, vI r1), (12, vI y2), (44, vB (x4.Key == p3))] (by kernel_rfl) ?_
        refine OWk.case (x4.Key == p3) (fun b => (sp 73 [(0, .d (.list 5 (List.map encNote p0))), (1, vI p1), (2, vI p2), (3, vS p3), (4, vI p4), (11, vI r1), (12, vI y2), (44, vB b)] H)) (by kernel_rfl) (fun hc => ?_) (fun hc => ?_)
        · replace h := bif_t hc h
          refine OWk.sg 73 H [] [0, 1, 2, 3, 4, 11, 12, 44, 45, 46] 2 [(0, .d (.list 5 (List.map encNote p0))), (1, vI p1), (2, vI p2), (3, vS p3), (4, vI p4), (11, vI r1), (12, vI y2), (44, vB true), (45, .d (.list 5 (List.map encNote p0))), (46, vI y2)] (by kernel_rfl) ?_
          obtain ⟨x5, hx, h⟩ := bind_inv h
          refine OWk.on 73 H (d := some 47) (s := lendP none (Go.Sh.D.cells (encNote x5))) [0, 1, 2, 3, 4, 11, 12, 44, 47] [(0, .d (.list 5 (List.map encNote p0))), (1, vI p1), (2, vI p2), (3, vS p3), (4, vI p4), (11, vI r1), (12, vI y2), (44, vB true), (47, .d (.dptr [.int .i64 x5.Kind, .int .i64 x5.Unit, .str x5.Key, .bool x5.Has, .str x5.Text]))] (BAt.index (n := 5) hx (by kernel_rfl)) (by kernel_rfl) <| OWk.sg 73 H [] [0, 1, 2, 3, 4, 11, 12, 44, 51] 4 [(0, .d (.list 5 (List.map encNote p0))), (1, vI p1), (2, vI p2), (3, vS p3), (4, vI p4), (11, vI r1), (12, vI y2), (44, vB true), (51, vB (x5.Kind == 2))] (by kernel_rfl) ?_
          refine OWk.case (x5.Kind == 2) (fun b => (sp 73 [(0, .d (.list 5 (List.map encNote p0))), (1, vI p1), (2, vI p2), (3, vS p3), (4, vI p4), (11, vI r1), (12, vI y2), (44, vB true), (51, vB b)] H)) (by kernel_rfl) (fun hc => ?_) (fun hc => ?_)
          · replace h := bif_t hc h
            refine OWk.sg 73 H [] [0, 1, 2, 3, 4, 11, 12, 60, 63] 12 [(0, .d (.list 5 (List.map encNote p0))), (1, vI p1), (2, vI p2), (3, vS p3), (4, vI p4), (11, vI r1), (12, vI y2), (60, vB true), (63, vB (p4 == 0))] (by kernel_rfl) ?_
            refine OWk.case (p4 == 0) (fun b => (sp 73 [(0, .d (.list 5 (List.map encNote p0))), (1, vI p1), (2, vI p2), (3, vS p3), (4, vI p4), (11, vI r1), (12, vI y2), (60, vB true), (63, vB b)] H)) (by kernel_rfl) (fun hc => ?_) (fun hc => ?_)
            · replace h := bif_t hc h
              refine OWk.sg 73 H [] [0, 1, 2, 3, 4, 11, 12, 72] 9 [(0, .d (.list 5 (List.map encNote p0))), (1, vI p1), (2, vI p2), (3, vS p3), (4, vI p4), (11, vI r1), (12, vI y2), (72, vB true)] (by kernel_rfl) <| OWk.done (by kernel_rfl) <| thenS_n <| SW.condT (by kernel_rfl) <| SW.seq <| SW.regionK <| OWk.sg 73 H [] [10] 1 [(10, vB true)] (by kernel_rfl) <| OWk.done (by kernel_rfl) <| thenS_n <| SW.ret <| blockS_r <| thenS_r ?_
              cases h
              refine thenS_r ?_
              exact ⟨_, rfl, .inr (⟨true, rfl, rfl, EndQ.ret [] (by kernel_rfl) rfl⟩)⟩
            · replace h := bif_f hc h
              refine OWk.sg 73 H [] [0, 1, 2, 3, 4, 11, 12, 60, 63, 64, 65] 2 [(0, .d (.list 5 (List.map encNote p0))), (1, vI p1), (2, vI p2), (3, vS p3), (4, vI p4), (11, vI r1), (12, vI y2), (60, vB true), (63, vB false), (64, .d (.list 5 (List.map encNote p0))), (65, vI y2)] (by kernel_rfl) ?_
              obtain ⟨x6, hx, h⟩ := bind_inv h
              refine OWk.on 73 H (d := some 66) (s := lendP none (Go.Sh.D.cells (encNote x6))) [0, 1, 2, 3, 4, 11, 12, 60, 63, 66] [(0, .d (.list 5 (List.map encNote p0))), (1, vI p1), (2, vI p2), (3, vS p3), (4, vI p4), (11, vI r1), (12, vI y2), (60, vB true), (63, vB false), (66, .d (.dptr [.int .i64 x6.Kind, .int .i64 x6.Unit, .str x6.Key, .bool x6.Has, .str x6.Text]))] (BAt.index (n := 5) hx (by kernel_rfl)) (by kernel_rfl) <| OWk.sg 73 H [] [0, 1, 2, 3, 4, 11, 12, 72] 6 [(0, .d (.list 5 (List.map encNote p0))), (1, vI p1), (2, vI p2), (3, vS p3), (4, vI p4), (11, vI r1), (12, vI y2), (72, vB (x6.Kind == p4))] (by kernel_rfl) <| OWk.done (by kernel_rfl) <| thenS_n ?_
              refine SW.condB (b := (x6.Kind == p4)) (by kernel_rfl) (fun hc => ?_) (fun hc => ?_)
              · replace h := bif_t hc h
                refine SW.seq <| SW.regionK <| OWk.sg 73 H [] [10] 1 [(10, vB true)] (by kernel_rfl) <| OWk.done (by kernel_rfl) <| thenS_n <| SW.ret <| blockS_r <| thenS_r ?_
                cases h
                refine thenS_r ?_
                exact ⟨_, rfl, .inr (⟨true, rfl, rfl, EndQ.ret [] (by kernel_rfl) rfl⟩)⟩
              · replace h := bif_f hc h
                refine SW.skip <| blockS_n <| thenS_n <| SW.regionK <| OWk.sg 73 H [] [0, 1, 2, 3, 4, 11, 12] 3 [(0, .d (.list 5 (List.map encNote p0))), (1, vI p1), (2, vI p2), (3, vS p3), (4, vI p4), (11, vI r1), (12, vI (IntKind.wrap .i64 (y2 + 1)))] (by kernel_rfl) <| OWk.done (by kernel_rfl) ?_
                cases h
                exact ⟨(IntKind.wrap .i64 (y2 + 1)), rfl, by kernel_rfl⟩
          · replace h := bif_f hc h
            refine OWk.sg 73 H [] [0, 1, 2, 3, 4, 11, 12, 44, 51, 52, 53] 2 [(0, .d (.list 5 (List.map encNote p0))), (1, vI p1), (2, vI p2), (3, vS p3), (4, vI p4), (11, vI r1), (12, vI y2), (44, vB true), (51, vB false), (52, .d (.list 5 (List.map encNote p0))), (53, vI y2)] (by kernel_rfl) ?_
            obtain ⟨x7, hx, h⟩ := bind_inv h
            refine OWk.on 73 H (d := some 54) (s := lendP none (Go.Sh.D.cells (encNote x7))) [0, 1, 2, 3, 4, 11, 12, 44, 51, 54] [(0, .d (.list 5 (List.map encNote p0))), (1, vI p1), (2, vI p2), (3, vS p3), (4, vI p4), (11, vI r1), (12, vI y2), (44, vB true), (51, vB false), (54, .d (.dptr [.int .i64 x7.Kind, .int .i64 x7.Unit, .str x7.Key, .bool x7.Has, .str x7.Text]))] (BAt.index (n := 5) hx (by kernel_rfl)) (by kernel_rfl) <| OWk.sg 73 H [] [0, 1, 2, 3, 4, 11, 12, 60] 6 [(0, .d (.list 5 (List.map encNote p0))), (1, vI p1), (2, vI p2), (3, vS p3), (4, vI p4), (11, vI r1), (12, vI y2), (60, vB (x7.Kind == 3))] (by kernel_rfl) ?_
            refine OWk.case (x7.Kind == 3) (fun b => (sp 73 [(0, .d (.list 5 (List.map encNote p0))), (1, vI p1), (2, vI p2), (3, vS p3), (4, vI p4), (11, vI r1), (12, vI y2), (60, vB b)] H)) (by kernel_rfl) (fun hc => ?_) (fun hc => ?_)
            · replace h := bif_t hc h
              refine OWk.sg 73 H [] [0, 1, 2, 3, 4, 11, 12, 60, 63] 3 [(0, .d (.list 5 (List.map encNote p0))), (1, vI p1), (2, vI p2), (3, vS p3), (4, vI p4), (11, vI r1), (12, vI y2), (60, vB true), (63, vB (p4 == 0))] (by kernel_rfl) ?_
              refine OWk.case (p4 == 0) (fun b => (sp 73 [(0, .d (.list 5 (List.map encNote p0))), (1, vI p1), (2, vI p2), (3, vS p3), (4, vI p4), (11, vI r1), (12, vI y2), (60, vB true), (63, vB b)] H)) (by kernel_rfl) (fun hc => ?_) (fun hc => ?_)
              · replace h := bif_t hc h
                refine OWk.sg 73 H [] [0, 1, 2, 3, 4, 11, 12, 72] 9 [(0, .d (.list 5 (List.map encNote p0))), (1, vI p1), (2, vI p2), (3, vS p3), (4, vI p4), (11, vI r1), (12, vI y2), (72, vB true)] (by kernel_rfl) <| OWk.done (by kernel_rfl) <| thenS_n <| SW.condT (by kernel_rfl) <| SW.seq <| SW.regionK <| OWk.sg 73 H [] [10] 1 [(10, vB true)] (by kernel_rfl) <| OWk.done (by kernel_rfl) <| thenS_n <| SW.ret <| blockS_r <| thenS_r ?_
                cases h
                refine thenS_r ?_
                exact ⟨_, rfl, .inr (⟨true, rfl, rfl, EndQ.ret [] (by kernel_rfl) rfl⟩)⟩
              · replace h := bif_f hc h
                refine OWk.sg 73 H [] [0, 1, 2, 3, 4, 11, 12, 60, 63, 64, 65] 2 [(0, .d (.list 5 (List.map encNote p0))), (1, vI p1), (2, vI p2), (3, vS p3), (4, vI p4), (11, vI r1), (12, vI y2), (60, vB true), (63, vB false), (64, .d (.list 5 (List.map encNote p0))), (65, vI y2)] (by kernel_rfl) ?_
                obtain ⟨x8, hx, h⟩ := bind_inv h
                refine OWk.on 73 H (d := some 66) (s := lendP none (Go.Sh.D.cells (encNote x8))) [0, 1, 2, 3, 4, 11, 12, 60, 63, 66] [(0, .d (.list 5 (List.map encNote p0))), (1, vI p1), (2, vI p2), (3, vS p3), (4, vI p4), (11, vI r1), (12, vI y2), (60, vB true), (63, vB false), (66, .d (.dptr [.int .i64 x8.Kind, .int .i64 x8.Unit, .str x8.Key, .bool x8.Has, .str x8.Text]))] (BAt.index (n := 5) hx (by kernel_rfl)) (by kernel_rfl) <| OWk.sg 73 H [] [0, 1, 2, 3, 4, 11, 12, 72] 6 [(0, .d (.list 5 (List.map encNote p0))), (1, vI p1), (2, vI p2), (3, vS p3), (4, vI p4), (11, vI r1), (12, vI y2), (72, vB (x8.Kind == p4))] (by kernel_rfl) <| OWk.done (by kernel_rfl) <| thenS_n ?_
                refine SW.condB (b := (x8.Kind == p4)) (by kernel_rfl) (fun hc => ?_) (fun hc => ?_)
                · replace h := bif_t hc h
                  refine SW.seq <| SW.regionK <| OWk.sg 73 H [] [10] 1 [(10, vB true)] (by kernel_rfl) <| OWk.done (by kernel_rfl) <| thenS_n <| SW.ret <| blockS_r <| thenS_r ?_
                  cases h
                  refine thenS_r ?_
                  exact ⟨_, rfl, .inr (⟨true, rfl, rfl, EndQ.ret [] (by kernel_rfl) rfl⟩)⟩
                · replace h := bif_f hc h
                  refine SW.skip <| blockS_n <| thenS_n <| SW.regionK <| OWk.sg 73 H [] [0, 1, 2, 3, 4, 11, 12] 3 [(0, .d (.list 5 (List.map encNote p0))), (1, vI p1), (2, vI p2), (3, vS p3), (4, vI p4), (11, vI r1), (12, vI (IntKind.wrap .i64 (y2 + 1)))] (by kernel_rfl) <| OWk.done (by kernel_rfl) ?_
                  cases h
                  exact ⟨(IntKind.wrap .i64 (y2 + 1)), rfl, by kernel_rfl⟩
            · replace h := bif_f hc h
              refine OWk.sg 73 H [] [0, 1, 2, 3, 4, 11, 12, 72] 12 [(0, .d (.list 5 (List.map encNote p0))), (1, vI p1), (2, vI p2), (3, vS p3), (4, vI p4), (11, vI r1), (12, vI y2), (72, vB false)] (by kernel_rfl) <| OWk.done (by kernel_rfl) <| thenS_n <| SW.condF (by kernel_rfl) <| SW.skip <| blockS_n <| thenS_n <| SW.regionK <| OWk.sg 73 H [] [0, 1, 2, 3, 4, 11, 12] 3 [(0, .d (.list 5 (List.map encNote p0))), (1, vI p1), (2, vI p2), (3, vS p3), (4, vI p4), (11, vI r1), (12, vI (IntKind.wrap .i64 (y2 + 1)))] (by kernel_rfl) <| OWk.done (by kernel_rfl) ?_
              cases h
              exact ⟨(IntKind.wrap .i64 (y2 + 1)), rfl, by kernel_rfl⟩
        · replace h := bif_f hc h
          refine OWk.sg 73 H [] [0, 1, 2, 3, 4, 11, 12, 72] 28 [(0, .d (.list 5 (List.map encNote p0))), (1, vI p1), (2, vI p2), (3, vS p3), (4, vI p4), (11, vI r1), (12, vI y2), (72, vB false)] (by kernel_rfl) <| OWk.done (by kernel_rfl) <| thenS_n <| SW.condF (by kernel_rfl) <| SW.skip <| blockS_n <| thenS_n <| SW.regionK <| OWk.sg 73 H [] [0, 1, 2, 3, 4, 11, 12] 3 [(0, .d (.list 5 (List.map encNote p0))), (1, vI p1), (2, vI p2), (3, vS p3), (4, vI p4), (11, vI r1), (12, vI (IntKind.wrap .i64 (y2 + 1)))] (by kernel_rfl) <| OWk.done (by kernel_rfl) ?_
          cases h
          exact ⟨(IntKind.wrap .i64 (y2 + 1)), rfl, by kernel_rfl⟩
      · replace h := bif_f hc h
        refine OWk.sg 73 H [] [0, 1, 2, 3, 4, 11, 12, 72] 37 [(0, .d (.list 5 (List.map encNote p0))), (1, vI p1), (2, vI p2), (3, vS p3), (4, vI p4), (11, vI r1), (12, vI y2), (72, vB false)] (by kernel_rfl) <| OWk.done (by kernel_rfl) <| thenS_n <| SW.condF (by kernel_rfl) <| SW.skip <| blockS_n <| thenS_n <| SW.regionK <| OWk.sg 73 H [] [0, 1, 2, 3, 4, 11, 12] 3 [(0, .d (.list 5 (List.map encNote p0))), (1, vI p1), (2, vI p2), (3, vS p3), (4, vI p4), (11, vI r1), (12, vI (IntKind.wrap .i64 (y2 + 1)))] (by kernel_rfl) <| OWk.done (by kernel_rfl) ?_
        cases h
        exact ⟨(IntKind.wrap .i64 (y2 + 1)), rfl, by kernel_rfl⟩
    · replace h := bif_f hc h
      refine SW.kp 73 H [] [] (by kernel_rfl) <| SW.exit <| thenS_e ?_
      cases h
      refine thenS_e ?_
      exact ⟨_, rfl, .inl ⟨(), rfl, rfl, rfl⟩⟩
  · rintro _ _ (⟨v10, rfl, rfl, rfl⟩ | ⟨r11, rfl, rfl, hE⟩)
    · replace h := sum_l h
      refine blockS_hit <| thenS_n <| SW.seq <| SW.regionK <| OWk.sg 73 H [] [10] 1 [(10, vB false)] (by kernel_rfl) <| OWk.done (by kernel_rfl) <| thenS_n <| SW.ret ?_
      cases h
      exact EndQ.ret [] (by kernel_rfl) rfl
    · replace h := sum_r h
      refine blockS_r <| thenS_r ?_
      cases h
      exact hE
def r_wrong_l1 (fuel : Nat) (p0 : (List Note)) (p1 : Int) (x1 : Note) (y6 : Int) : Option ((Int) ⊕ ((Unit) ⊕ ((Int)))) :=
  bif (decide (y6 < p1)) then
    (idx p0 y6).bind fun x7 =>
    bif (x7.Unit != x1.Unit) then
      (idx p0 y6).bind fun x8 =>
      bif (x8.Kind != 6) then
        (r_touched fuel p0 p1 x7.Unit x1.Key 0).bind fun r9 =>
        bif r9 then
          some (.inr (.inr 6))
        else
          some (.inl (IntKind.wrap .i64 (y6 + 1)))
      else
        some (.inl (IntKind.wrap .i64 (y6 + 1)))
    else
      some (.inl (IntKind.wrap .i64 (y6 + 1)))
  else
    some (.inr (.inl ()))
def r_wrong (fuel : Nat) (p0 : (List Note)) (p1 : Int) : Option (Int) :=
  (idx p0 p1).bind fun x1 =>
  (r_since fuel p0 p1 x1.Unit).bind fun r2 =>
  letJ (fun (j3 : Unit) =>
    (iter (r_wrong_l1 fuel p0 p1 x1) fuel 0).bind (Sum.elim (fun v11 =>
      some 0) (fun r12 =>
      some r12))) fun jp4 =>
  bif (x1.Kind == 6) then
    some 0
  else
    bif ((decide (r2 ≥ 0)) == (x1.Kind == 1)) then
      some 9
    else
      bif ((x1.Kind != 2) && (x1.Kind != 3)) then
        some 0
      else
        bif (x1.Kind == 3) then
          (r_touched fuel p0 p1 x1.Unit x1.Key 2).bind fun r5 =>
          bif (!r5) then
            some 8
          else
            jp4 ()
        else
          jp4 ()
theorem r_wrong_ok {fuel : Nat} {p0 : (List Note)} {p1 : Int} {r : Int} (h : r_wrong fuel p0 p1 = some r) : PC Tryz.prog 26 [.d (.list 5 (List.map encNote p0)), vI p1] (vI r) := by
  refine PC.of_SW Tryz.func26 rfl fun H => ?_
  unfold r_wrong at h
  refine SW.kp 82 H [0, 1] [(0, .d (.list 5 (List.map encNote p0))), (1, vI p1)] (by kernel_rfl) <| SW.seq <| SW.regionK <| OWk.sg 82 H [] [0, 1] 1 [(0, .d (.list 5 (List.map encNote p0))), (1, vI p1)] (by kernel_rfl) <| OWk.done (by kernel_rfl) <| thenS_n <| SW.seq <| SW.regionK <| OWk.sg 82 H [] [0, 1, 9, 10] 2 [(0, .d (.list 5 (List.map encNote p0))), (1, vI p1), (9, .d (.list 5 (List.map encNote p0))), (10, vI p1)] (by kernel_rfl) ?_
  obtain ⟨x1, hx, h⟩ := bind_inv h
  refine OWk.on 82 H (d := some 11) (s := lendP none (Go.Sh.D.cells (encNote x1))) [0, 1, 11] [(0, .d (.list 5 (List.map encNote p0))), (1, vI p1), (11, .d (.dptr [.int .i64 x1.Kind, .int .i64 x1.Unit, .str x1.Key, .bool x1.Has, .str x1.Text]))] (BAt.index (n := 5) hx (by kernel_rfl)) (by kernel_rfl) <| OWk.sg 82 H [] [0, 1, 5] 3 [(0, .d (.list 5 (List.map encNote p0))), (1, vI p1), (5, .box [vI x1.Kind, vI x1.Unit, vS x1.Key, vB x1.Has, vS x1.Text])] (by kernel_rfl) <| OWk.done (by kernel_rfl) <| thenS_n <| SW.seq <| SW.regionK <| OWk.sg 82 H [] [0, 1, 5, 13, 14, 16] 4 [(0, .d (.list 5 (List.map encNote p0))), (1, vI p1), (5, .box [vI x1.Kind, vI x1.Unit, vS x1.Key, vB x1.Has, vS x1.Text]), (13, .d (.list 5 (List.map encNote p0))), (14, vI p1), (16, vI x1.Unit)] (by kernel_rfl) ?_
  obtain ⟨r2, hr, h⟩ := bind_inv h
  refine OWk.cl 82 H (d := some 17) (ls := []) (gs := []) [] [0, 1, 5, 17] [(0, .d (.list 5 (List.map encNote p0))), (1, vI p1), (5, .box [vI x1.Kind, vI x1.Unit, vS x1.Key, vB x1.Has, vS x1.Text]), (17, vI r2)] (r_since_ok hr) (by kernel_rfl) (by kernel_rfl) (by kernel_rfl) <| OWk.sg 82 H [] [0, 1, 5, 6] 2 [(0, .d (.list 5 (List.map encNote p0))), (1, vI p1), (5, .box [vI x1.Kind, vI x1.Unit, vS x1.Key, vB x1.Has, vS x1.Text]), (6, vB (decide (r2 ≥ 0)))] (by kernel_rfl) <| OWk.done (by kernel_rfl) <| thenS_n ?_
  obtain ⟨jp4, hjjp4, h⟩ := letJ_inv h
  refine SW.jn 82 H [0, 1, 5] (fun (j3 : Unit) => [(0, .d (.list 5 (List.map encNote p0))), (1, vI p1), (5, .box [vI x1.Kind, vI x1.Unit, vS x1.Key, vB x1.Has, vS x1.Text])]) (fun v => jp4 v = some r) (fun j3 h => ?_) ?_
  · rw [hjjp4] at h
    refine SW.seq <| SW.seq <| SW.regionK <| OWk.sg 82 H [] [0, 1, 5, 7] 1 [(0, .d (.list 5 (List.map encNote p0))), (1, vI p1), (5, .box [vI x1.Kind, vI x1.Unit, vS x1.Key, vB x1.Has, vS x1.Text]), (7, vI 0)] (by kernel_rfl) <| OWk.done (by kernel_rfl) <| thenS_n <| SW.block ?_
    obtain ⟨z10, hit, h⟩ := bind_inv h
    refine SW.it 82 H [0, 1, 5, 7] (fun y6 => [(0, .d (.list 5 (List.map encNote p0))), (1, vI p1), (5, .box [vI x1.Kind, vI x1.Unit, vS x1.Key, vB x1.Has, vS x1.Text]), (7, vI y6)]) (fun b e s => ((∃ v11, b = (.inl v11) ∧ (e = .exit 1 ∧ s = (sp 82 [] H))) ∨ (∃ r12, b = (.inr r12) ∧ (e = .ret ∧ EndQ Tryz.prog Tryz.f26.results.toList H (vI r12) .ret s)))) hit (by kernel_rfl) (fun y6 o h => ?_) ?_
    · unfold r_wrong_l1 at h
      refine SW.seq <| SW.seq <| SW.regionK <| OWk.sg 82 H [] [0, 1, 5, 7, 54] 3 [(0, .d (.list 5 (List.map encNote p0))), (1, vI p1), (5, .box [vI x1.Kind, vI x1.Unit, vS x1.Key, vB x1.Has, vS x1.Text]), (7, vI y6), (54, vB (decide (y6 < p1)))] (by kernel_rfl) <| OWk.done (by kernel_rfl) <| thenS_n ?_
      refine SW.condB (b := (decide (y6 < p1))) (by kernel_rfl) (fun hc => ?_) (fun hc => ?_)
      · replace h := bif_t hc h
        refine SW.skip <| thenS_n <| SW.seq <| SW.block <| SW.seq <| SW.regionK <| OWk.sg 82 H [] [0, 1, 5, 7, 57, 58] 2 [(0, .d (.list 5 (List.map encNote p0))), (1, vI p1), (5, .box [vI x1.Kind, vI x1.Unit, vS x1.Key, vB x1.Has, vS x1.Text]), (7, vI y6), (57, .d (.list 5 (List.map encNote p0))), (58, vI y6)] (by kernel_rfl) ?_
        obtain ⟨x7, hx, h⟩ := bind_inv h
        refine OWk.on 82 H (d := some 59) (s := lendP none (Go.Sh.D.cells (encNote x7))) [0, 1, 5, 7, 59] [(0, .d (.list 5 (List.map encNote p0))), (1, vI p1), (5, .box [vI x1.Kind, vI x1.Unit, vS x1.Key, vB x1.Has, vS x1.Text]), (7, vI y6), (59, .d (.dptr [.int .i64 x7.Kind, .int .i64 x7.Unit, .str x7.Key, .bool x7.Has, .str x7.Text]))] (BAt.index (n := 5) hx (by kernel_rfl)) (by kernel_rfl) <| OWk.sg 82 H [] [0, 1, 5, 7, 8] 3 [(0, .d (.list 5 (List.map encNote p0))), (1, vI p1), (5, .box [vI x1.Kind, vI x1.Unit, vS x1.Key, vB x1.Has, vS x1.Text]), (7, vI y6), (8, vI x7.Unit)] (by kernel_rfl) <| OWk.done (by kernel_rfl) <| thenS_n <| SW.seq <| SW.regionK <| OWk.sg 82 H [] [0, 1, 5, 7, 8, 66] 5 [(0, .d (.list 5 (List.map encNote p0))), (1, vI p1), (5, .box [vI x1.Kind, vI x1.Unit, vS x1.Key, vB x1.Has, vS x1.Text]), (7, vI y6), (8, vI x7.Unit), (66, vB (x7.Unit != x1.Unit))] (by kernel_rfl) ?_
        refine OWk.case (x7.Unit != x1.Unit) (fun b => (sp 82 [(0, .d (.list 5 (List.map encNote p0))), (1, vI p1), (5, .box [vI x1.Kind, vI x1.Unit, vS x1.Key, vB x1.Has, vS x1.Text]), (7, vI y6), (8, vI x7.Unit), (66, vB b)] H)) (by kernel_rfl) (fun hc => ?_) (fun hc => ?_)
        · replace h := bif_t hc h
          refine OWk.sg 82 H [] [0, 1, 5, 7, 8, 66, 67, 68] 2 [(0, .d (.list 5 (List.map encNote p0))), (1, vI p1), (5, .box [vI x1.Kind, vI x1.Unit, vS x1.Key, vB x1.Has, vS x1.Text]), (7, vI y6), (8, vI x7.Unit), (66, vB true), (67, .d (.list 5 (List.map encNote p0))), (68, vI y6)] (by kernel_rfl) ?_
          obtain ⟨x8, hx, h⟩ := bind_inv h
          refine OWk.on 82 H (d := some 69) (s := lendP none (Go.Sh.D.cells (encNote x8))) [0, 1, 5, 7, 8, 66, 69] [(0, .d (.list 5 (List.map encNote p0))), (1, vI p1), (5, .box [vI x1.Kind, vI x1.Unit, vS x1.Key, vB x1.Has, vS x1.Text]), (7, vI y6), (8, vI x7.Unit), (66, vB true), (69, .d (.dptr [.int .i64 x8.Kind, .int .i64 x8.Unit, .str x8.Key, .bool x8.Has, .str x8.Text]))] (BAt.index (n := 5) hx (by kernel_rfl)) (by kernel_rfl) <| OWk.sg 82 H [] [0, 1, 5, 7, 8, 74] 5 [(0, .d (.list 5 (List.map encNote p0))), (1, vI p1), (5, .box [vI x1.Kind, vI x1.Unit, vS x1.Key, vB x1.Has, vS x1.Text]), (7, vI y6), (8, vI x7.Unit), (74, vB (x8.Kind != 6))] (by kernel_rfl) ?_
          refine OWk.case (x8.Kind != 6) (fun b => (sp 82 [(0, .d (.list 5 (List.map encNote p0))), (1, vI p1), (5, .box [vI x1.Kind, vI x1.Unit, vS x1.Key, vB x1.Has, vS x1.Text]), (7, vI y6), (8, vI x7.Unit), (74, vB b)] H)) (by kernel_rfl) (fun hc => ?_) (fun hc => ?_)
          · replace h := bif_t hc h
            refine OWk.sg 82 H [] [0, 1, 5, 7, 74, 75, 76, 77, 79] 5 [(0, .d (.list 5 (List.map encNote p0))), (1, vI p1), (5, .box [vI x1.Kind, vI x1.Unit, vS x1.Key, vB x1.Has, vS x1.Text]), (7, vI y6), (74, vB true), (75, .d (.list 5 (List.map encNote p0))), (76, vI p1), (77, vI x7.Unit), (79, vS x1.Key)] (by kernel_rfl) ?_
            obtain ⟨r9, hr, h⟩ := bind_inv h
            refine OWk.cl 82 H (d := some 80) (ls := []) (gs := []) [] [0, 1, 5, 7, 74, 80] [(0, .d (.list 5 (List.map encNote p0))), (1, vI p1), (5, .box [vI x1.Kind, vI x1.Unit, vS x1.Key, vB x1.Has, vS x1.Text]), (7, vI y6), (74, vB true), (80, vB r9)] (r_touched_ok hr) (by kernel_rfl) (by kernel_rfl) (by kernel_rfl) <| OWk.sg 82 H [] [0, 1, 5, 7, 81] 1 [(0, .d (.list 5 (List.map encNote p0))), (1, vI p1), (5, .box [vI x1.Kind, vI x1.Unit, vS x1.Key, vB x1.Has, vS x1.Text]), (7, vI y6), (81, vB r9)] (by kernel_rfl) <| OWk.done (by kernel_rfl) <| thenS_n ?_
            refine SW.condB (b := r9) (by kernel_rfl) (fun hc => ?_) (fun hc => ?_)
            · replace h := bif_t hc h
              refine SW.seq <| SW.regionK <| OWk.sg 82 H [] [4] 1 [(4, vI 6)] (by kernel_rfl) <| OWk.done (by kernel_rfl) <| thenS_n <| SW.ret <| blockS_r <| thenS_r ?_
              cases h
              refine thenS_r ?_
              exact ⟨_, rfl, .inr (⟨6, rfl, rfl, EndQ.ret [] (by kernel_rfl) rfl⟩)⟩
            · replace h := bif_f hc h
              refine SW.skip <| blockS_n <| thenS_n <| SW.regionK <| OWk.sg 82 H [] [0, 1, 5, 7] 3 [(0, .d (.list 5 (List.map encNote p0))), (1, vI p1), (5, .box [vI x1.Kind, vI x1.Unit, vS x1.Key, vB x1.Has, vS x1.Text]), (7, vI (IntKind.wrap .i64 (y6 + 1)))] (by kernel_rfl) <| OWk.done (by kernel_rfl) ?_
              cases h
              exact ⟨(IntKind.wrap .i64 (y6 + 1)), rfl, by kernel_rfl⟩
          · replace h := bif_f hc h
            refine OWk.sg 82 H [] [0, 1, 5, 7, 81] 7 [(0, .d (.list 5 (List.map encNote p0))), (1, vI p1), (5, .box [vI x1.Kind, vI x1.Unit, vS x1.Key, vB x1.Has, vS x1.Text]), (7, vI y6), (81, vB false)] (by kernel_rfl) <| OWk.done (by kernel_rfl) <| thenS_n <| SW.condF (by kernel_rfl) <| SW.skip <| blockS_n <| thenS_n <| SW.regionK <| OWk.sg 82 H [] [0, 1, 5, 7] 3 [(0, .d (.list 5 (List.map encNote p0))), (1, vI p1), (5, .box [vI x1.Kind, vI x1.Unit, vS x1.Key, vB x1.Has, vS x1.Text]), (7, vI (IntKind.wrap .i64 (y6 + 1)))] (by kernel_rfl) <| OWk.done (by kernel_rfl) ?_
            cases h
            exact ⟨(IntKind.wrap .i64 (y6 + 1)), rfl, by kernel_rfl⟩
        · replace h := bif_f hc h
          refine OWk.sg 82 H [] [0, 1, 5, 7, 81] 15 [(0, .d (.list 5 (List.map encNote p0))), (1, vI p1), (5, .box [vI x1.Kind, vI x1.Unit, vS x1.Key, vB x1.Has, vS x1.Text]), (7, vI y6), (81, vB false)] (by kernel_rfl) <| OWk.done (by kernel_rfl) <| thenS_n <| SW.condF (by kernel_rfl) <| SW.skip <| blockS_n <| thenS_n <| SW.regionK <| OWk.sg 82 H [] [0, 1, 5, 7] 3 [(0, .d (.list 5 (List.map encNote p0))), (1, vI p1), (5, .box [vI x1.Kind, vI x1.Unit, vS x1.Key, vB x1.Has, vS x1.Text]), (7, vI (IntKind.wrap .i64 (y6 + 1)))] (by kernel_rfl) <| OWk.done (by kernel_rfl) ?_
          cases h
          exact ⟨(IntKind.wrap .i64 (y6 + 1)), rfl, by kernel_rfl⟩
      · replace h := bif_f hc h
        refine SW.kp 82 H [] [] (by kernel_rfl) <| SW.exit <| thenS_e ?_
        cases h
        refine thenS_e ?_
        exact ⟨_, rfl, .inl ⟨(), rfl, rfl, rfl⟩⟩
    · rintro _ _ (⟨v11, rfl, rfl, rfl⟩ | ⟨r12, rfl, rfl, hE⟩)
      · replace h := sum_l h
        refine blockS_hit <| thenS_n <| SW.seq <| SW.regionK <| OWk.sg 82 H [] [4] 1 [(4, vI 0)] (by kernel_rfl) <| OWk.done (by kernel_rfl) <| thenS_n <| SW.ret ?_
        cases h
        exact EndQ.ret [] (by kernel_rfl) rfl
      · replace h := sum_r h
        refine blockS_r <| thenS_r ?_
        cases h
        exact hE
  · refine SW.block <| SW.seq <| SW.regionK <| OWk.sg 82 H [] [0, 1, 5, 6, 19] 4 [(0, .d (.list 5 (List.map encNote p0))), (1, vI p1), (5, .box [vI x1.Kind, vI x1.Unit, vS x1.Key, vB x1.Has, vS x1.Text]), (6, vB (decide (r2 ≥ 0))), (19, vB (x1.Kind == 6))] (by kernel_rfl) <| OWk.done (by kernel_rfl) <| thenS_n ?_
    refine SW.condB (b := (x1.Kind == 6)) (by kernel_rfl) (fun hc => ?_) (fun hc => ?_)
    · replace h := bif_t hc h
      refine SW.seq <| SW.regionK <| OWk.sg 82 H [] [4] 1 [(4, vI 0)] (by kernel_rfl) <| OWk.done (by kernel_rfl) <| thenS_n <| SW.ret <| blockS_r <| thenS_r ?_
      cases h
      exact EndQ.ret [] (by kernel_rfl) rfl
    · replace h := bif_f hc h
      refine SW.seq <| SW.regionK <| OWk.sg 82 H [] [0, 1, 5, 23] 6 [(0, .d (.list 5 (List.map encNote p0))), (1, vI p1), (5, .box [vI x1.Kind, vI x1.Unit, vS x1.Key, vB x1.Has, vS x1.Text]), (23, vB ((decide (r2 ≥ 0)) == (x1.Kind == 1)))] (by kernel_rfl) <| OWk.done (by kernel_rfl) <| thenS_n ?_
      refine SW.condB (b := ((decide (r2 ≥ 0)) == (x1.Kind == 1))) (by kernel_rfl) (fun hc => ?_) (fun hc => ?_)
      · replace h := bif_t hc h
        refine SW.seq <| SW.regionK <| OWk.sg 82 H [] [4] 1 [(4, vI 9)] (by kernel_rfl) <| OWk.done (by kernel_rfl) <| thenS_n <| SW.ret <| blockS_r <| thenS_r ?_
        cases h
        exact EndQ.ret [] (by kernel_rfl) rfl
      · replace h := bif_f hc h
        refine SW.seq <| SW.regionK <| OWk.sg 82 H [] [0, 1, 5, 33] 4 [(0, .d (.list 5 (List.map encNote p0))), (1, vI p1), (5, .box [vI x1.Kind, vI x1.Unit, vS x1.Key, vB x1.Has, vS x1.Text]), (33, vB (x1.Kind != 2))] (by kernel_rfl) <| OWk.mg 82 H [0, 1, 5, 37] 4 (x1.Kind != 2) (fun b => (sp 82 [(0, .d (.list 5 (List.map encNote p0))), (1, vI p1), (5, .box [vI x1.Kind, vI x1.Unit, vS x1.Key, vB x1.Has, vS x1.Text]), (33, vB b)] H)) (fun b => [(0, .d (.list 5 (List.map encNote p0))), (1, vI p1), (5, .box [vI x1.Kind, vI x1.Unit, vS x1.Key, vB x1.Has, vS x1.Text]), (37, vB (b && (x1.Kind != 3)))]) (by kernel_rfl) (by kernel_rfl) (by kernel_rfl) <| OWk.sg 82 H [] [0, 1, 5, 29] 1 [(0, .d (.list 5 (List.map encNote p0))), (1, vI p1), (5, .box [vI x1.Kind, vI x1.Unit, vS x1.Key, vB x1.Has, vS x1.Text]), (29, vB ((x1.Kind != 2) && (x1.Kind != 3)))] (by kernel_rfl) <| OWk.done (by kernel_rfl) <| thenS_n ?_
        refine SW.condB (b := ((x1.Kind != 2) && (x1.Kind != 3))) (by kernel_rfl) (fun hc => ?_) (fun hc => ?_)
        · replace h := bif_t hc h
          refine SW.seq <| SW.regionK <| OWk.sg 82 H [] [4] 1 [(4, vI 0)] (by kernel_rfl) <| OWk.done (by kernel_rfl) <| thenS_n <| SW.ret <| blockS_r <| thenS_r ?_
          cases h
          exact EndQ.ret [] (by kernel_rfl) rfl
        · replace h := bif_f hc h
          refine SW.seq <| SW.regionK <| OWk.sg 82 H [] [0, 1, 5, 42] 4 [(0, .d (.list 5 (List.map encNote p0))), (1, vI p1), (5, .box [vI x1.Kind, vI x1.Unit, vS x1.Key, vB x1.Has, vS x1.Text]), (42, vB (x1.Kind == 3))] (by kernel_rfl) ?_
          refine OWk.case (x1.Kind == 3) (fun b => (sp 82 [(0, .d (.list 5 (List.map encNote p0))), (1, vI p1), (5, .box [vI x1.Kind, vI x1.Unit, vS x1.Key, vB x1.Has, vS x1.Text]), (42, vB b)] H)) (by kernel_rfl) (fun hc => ?_) (fun hc => ?_)
          · replace h := bif_t hc h
            refine OWk.sg 82 H [] [0, 1, 5, 42, 43, 44, 46, 48] 6 [(0, .d (.list 5 (List.map encNote p0))), (1, vI p1), (5, .box [vI x1.Kind, vI x1.Unit, vS x1.Key, vB x1.Has, vS x1.Text]), (42, vB true), (43, .d (.list 5 (List.map encNote p0))), (44, vI p1), (46, vI x1.Unit), (48, vS x1.Key)] (by kernel_rfl) ?_
            obtain ⟨r5, hr, h⟩ := bind_inv h
            refine OWk.cl 82 H (d := some 49) (ls := []) (gs := []) [] [0, 1, 5, 42, 49] [(0, .d (.list 5 (List.map encNote p0))), (1, vI p1), (5, .box [vI x1.Kind, vI x1.Unit, vS x1.Key, vB x1.Has, vS x1.Text]), (42, vB true), (49, vB r5)] (r_touched_ok hr) (by kernel_rfl) (by kernel_rfl) (by kernel_rfl) <| OWk.sg 82 H [] [0, 1, 5, 38] 3 [(0, .d (.list 5 (List.map encNote p0))), (1, vI p1), (5, .box [vI x1.Kind, vI x1.Unit, vS x1.Key, vB x1.Has, vS x1.Text]), (38, vB (!r5))] (by kernel_rfl) <| OWk.done (by kernel_rfl) <| thenS_n ?_
            refine SW.condB (b := (!r5)) (by kernel_rfl) (fun hc => ?_) (fun hc => ?_)
            · replace h := bif_t hc h
              refine SW.seq <| SW.regionK <| OWk.sg 82 H [] [4] 1 [(4, vI 8)] (by kernel_rfl) <| OWk.done (by kernel_rfl) <| thenS_n <| SW.ret <| blockS_r <| thenS_r ?_
              cases h
              exact EndQ.ret [] (by kernel_rfl) rfl
            · replace h := bif_f hc h
              refine SW.skip <| blockS_n ?_
              exact ⟨(), [], by kernel_rfl, h⟩
          · replace h := bif_f hc h
            refine OWk.sg 82 H [] [0, 1, 5, 38] 10 [(0, .d (.list 5 (List.map encNote p0))), (1, vI p1), (5, .box [vI x1.Kind, vI x1.Unit, vS x1.Key, vB x1.Has, vS x1.Text]), (38, vB false)] (by kernel_rfl) <| OWk.done (by kernel_rfl) <| thenS_n <| SW.condF (by kernel_rfl) <| SW.skip <| blockS_n ?_
            exact ⟨(), [], by kernel_rfl, h⟩
def r_Wrong_l1 (fuel : Nat) (p0 : (List Note)) (y2 : Int) : Option ((Int) ⊕ ((Unit) ⊕ ((Int × Int)))) :=
  bif (decide (y2 < (p0.length : Int))) then
    (r_wrong fuel p0 y2).bind fun r3 =>
    bif (r3 != 0) then
      some (.inr (.inr (y2, r3)))
    else
      some (.inl (IntKind.wrap .i64 (y2 + 1)))
  else
    some (.inr (.inl ()))
def r_Wrong (fuel : Nat) (p0 : (List Note)) : Option (Int × Int) :=
  (r_notes fuel p0).bind fun r1 =>
  bif (!r1) then
    some (0, 1)
  else
    (iter (r_Wrong_l1 fuel p0) fuel 0).bind (Sum.elim (fun v5 =>
      some ((-1), 0)) (fun r6 =>
      some r6))
theorem r_Wrong_ok {fuel : Nat} {p0 : (List Note)} {r : Int × Int} (h : r_Wrong fuel p0 = some r) : PC Tryz.prog 7 [.d (.list 5 (List.map encNote p0))] (.tup [vI r.1, vI r.2]) := by
  refine PC.of_SW Tryz.func7 rfl fun H => ?_
  unfold r_Wrong at h
  refine SW.kp 22 H [0] [(0, .d (.list 5 (List.map encNote p0)))] (by kernel_rfl) <| SW.seq <| SW.regionK <| OWk.sg 22 H [] [0] 2 [(0, .d (.list 5 (List.map encNote p0)))] (by kernel_rfl) <| OWk.done (by kernel_rfl) <| thenS_n <| SW.seq <| SW.seq <| SW.regionK <| OWk.sg 22 H [] [0, 6] 1 [(0, .d (.list 5 (List.map encNote p0))), (6, .d (.list 5 (List.map encNote p0)))] (by kernel_rfl) ?_
  obtain ⟨r1, hr, h⟩ := bind_inv h
  refine OWk.cl 22 H (d := some 7) (ls := []) (gs := []) [] [0, 7] [(0, .d (.list 5 (List.map encNote p0))), (7, vB r1)] (r_notes_ok hr) (by kernel_rfl) (by kernel_rfl) (by kernel_rfl) <| OWk.sg 22 H [] [0, 8] 1 [(0, .d (.list 5 (List.map encNote p0))), (8, vB (!r1))] (by kernel_rfl) <| OWk.done (by kernel_rfl) <| thenS_n ?_
  refine SW.condB (b := (!r1)) (by kernel_rfl) (fun hc => ?_) (fun hc => ?_)
  · replace h := bif_t hc h
    refine SW.seq <| SW.regionK <| OWk.sg 22 H [] [2, 3] 2 [(2, vI 0), (3, vI 1)] (by kernel_rfl) <| OWk.done (by kernel_rfl) <| thenS_n <| SW.ret <| thenS_r ?_
    cases h
    exact EndQ.ret [] (by kernel_rfl) rfl
  · replace h := bif_f hc h
    refine SW.skip <| thenS_n <| SW.seq <| SW.seq <| SW.regionK <| OWk.sg 22 H [] [0, 4] 1 [(0, .d (.list 5 (List.map encNote p0))), (4, vI 0)] (by kernel_rfl) <| OWk.done (by kernel_rfl) <| thenS_n <| SW.block ?_
    obtain ⟨z4, hit, h⟩ := bind_inv h
    refine SW.it 22 H [0, 4] (fun y2 => [(0, .d (.list 5 (List.map encNote p0))), (4, vI y2)]) (fun b e s => ((∃ v5, b = (.inl v5) ∧ (e = .exit 0 ∧ s = (sp 22 [] H))) ∨ (∃ r6, b = (.inr r6) ∧ (e = .ret ∧ EndQ Tryz.prog Tryz.f7.results.toList H (.tup [vI r6.1, vI r6.2]) .ret s)))) hit (by kernel_rfl) (fun y2 o h => ?_) ?_
    · unfold r_Wrong_l1 at h
      refine SW.seq <| SW.seq <| SW.regionK <| OWk.sg 22 H [] [0, 4, 9, 10] 2 [(0, .d (.list 5 (List.map encNote p0))), (4, vI y2), (9, vI y2), (10, .d (.list 5 (List.map encNote p0)))] (by kernel_rfl) <| OWk.on 22 H (d := some 11) [0, 4, 9, 11] [(0, .d (.list 5 (List.map encNote p0))), (4, vI y2), (9, vI y2), (11, vI (p0.length : Int))] (BAt.len (enc := encNote) (xs := p0) (by kernel_rfl)) (by kernel_rfl) <| OWk.sg 22 H [] [0, 4, 12] 1 [(0, .d (.list 5 (List.map encNote p0))), (4, vI y2), (12, vB (decide (y2 < (p0.length : Int))))] (by kernel_rfl) <| OWk.done (by kernel_rfl) <| thenS_n ?_
      refine SW.condB (b := (decide (y2 < (p0.length : Int)))) (by kernel_rfl) (fun hc => ?_) (fun hc => ?_)
      · replace h := bif_t hc h
        refine SW.skip <| thenS_n <| SW.seq <| SW.block <| SW.seq <| SW.regionK <| OWk.sg 22 H [] [0, 4, 15, 16] 2 [(0, .d (.list 5 (List.map encNote p0))), (4, vI y2), (15, .d (.list 5 (List.map encNote p0))), (16, vI y2)] (by kernel_rfl) ?_
        obtain ⟨r3, hr, h⟩ := bind_inv h
        refine OWk.cl 22 H (d := some 17) (ls := []) (gs := []) [] [0, 4, 17] [(0, .d (.list 5 (List.map encNote p0))), (4, vI y2), (17, vI r3)] (r_wrong_ok hr) (by kernel_rfl) (by kernel_rfl) (by kernel_rfl) <| OWk.sg 22 H [] [0, 4, 5] 1 [(0, .d (.list 5 (List.map encNote p0))), (4, vI y2), (5, vI r3)] (by kernel_rfl) <| OWk.done (by kernel_rfl) <| thenS_n <| SW.seq <| SW.regionK <| OWk.sg 22 H [] [0, 4, 5, 19] 2 [(0, .d (.list 5 (List.map encNote p0))), (4, vI y2), (5, vI r3), (19, vB (r3 != 0))] (by kernel_rfl) <| OWk.done (by kernel_rfl) <| thenS_n ?_
        refine SW.condB (b := (r3 != 0)) (by kernel_rfl) (fun hc => ?_) (fun hc => ?_)
        · replace h := bif_t hc h
          refine SW.seq <| SW.regionK <| OWk.sg 22 H [] [2, 3] 4 [(2, vI y2), (3, vI r3)] (by kernel_rfl) <| OWk.done (by kernel_rfl) <| thenS_n <| SW.ret <| blockS_r <| thenS_r ?_
          cases h
          refine thenS_r ?_
          exact ⟨_, rfl, .inr (⟨(y2, r3), rfl, rfl, EndQ.ret [] (by kernel_rfl) rfl⟩)⟩
        · replace h := bif_f hc h
          refine SW.skip <| blockS_n <| thenS_n <| SW.regionK <| OWk.sg 22 H [] [0, 4] 3 [(0, .d (.list 5 (List.map encNote p0))), (4, vI (IntKind.wrap .i64 (y2 + 1)))] (by kernel_rfl) <| OWk.done (by kernel_rfl) ?_
          cases h
          exact ⟨(IntKind.wrap .i64 (y2 + 1)), rfl, by kernel_rfl⟩
      · replace h := bif_f hc h
        refine SW.kp 22 H [] [] (by kernel_rfl) <| SW.exit <| thenS_e ?_
        cases h
        refine thenS_e ?_
        exact ⟨_, rfl, .inl ⟨(), rfl, rfl, rfl⟩⟩
    · rintro _ _ (⟨v5, rfl, rfl, rfl⟩ | ⟨r6, rfl, rfl, hE⟩)
      · replace h := sum_l h
        refine blockS_hit <| thenS_n <| SW.seq <| SW.regionK <| OWk.sg 22 H [] [2, 3] 2 [(2, vI (-1)), (3, vI 0)] (by kernel_rfl) <| OWk.done (by kernel_rfl) <| thenS_n <| SW.ret ?_
        cases h
        exact EndQ.ret [] (by kernel_rfl) rfl
      · replace h := sum_r h
        refine blockS_r <| thenS_r ?_
        cases h
        exact hE
def j_since_l1 (fuel : Nat) (p0 : (List Note)) (p1 : Int) (y1 : Int × Bool × Int) : Option ((Int × Bool × Int) ⊕ (Int × Bool)) :=
  bif (decide (y1.2.2 < (p0.length : Int))) then
    (idx p0 y1.2.2).bind fun x2 =>
    bif ((x2.Unit != p1) || (x2.Kind == 6)) then
      some (.inl (y1.1, y1.2.1, (IntKind.wrap .i64 (y1.2.2 + 1))))
    else
      bif (x2.Kind == 1) then
        some (.inl (y1.2.2, true, (IntKind.wrap .i64 (y1.2.2 + 1))))
      else
        bif (x2.Kind == 4) then
          some (.inl (y1.2.2, true, (IntKind.wrap .i64 (y1.2.2 + 1))))
        else
          bif (x2.Kind == 5) then
            some (.inl (y1.1, false, (IntKind.wrap .i64 (y1.2.2 + 1))))
          else
            bif (x2.Kind == 7) then
              some (.inl (y1.1, false, (IntKind.wrap .i64 (y1.2.2 + 1))))
            else
              some (.inl (y1.1, y1.2.1, (IntKind.wrap .i64 (y1.2.2 + 1))))
  else
    some (.inr (y1.1, y1.2.1))
def j_since (fuel : Nat) (p0 : (List Note)) (p1 : Int) : Option (Int × Bool) :=
  (iter (j_since_l1 fuel p0 p1) fuel (0, false, 0)).bind fun v4 =>
  some (v4.1, v4.2)
theorem j_since_ok {fuel : Nat} {p0 : (List Note)} {p1 : Int} {r : Int × Bool} (h : j_since fuel p0 p1 = some r) : PC Tryz.prog 30 [.d (.list 5 (List.map encNote p0)), vI p1] (.tup [vI r.1, vB r.2]) := by
  refine PC.of_SW Tryz.func30 rfl fun H => ?_
  unfold j_since at h
  refine SW.kp 38 H [0, 1] [(0, .d (.list 5 (List.map encNote p0))), (1, vI p1)] (by kernel_rfl) <| SW.seq <| SW.regionK <| OWk.sg 38 H [] [0, 1] 2 [(0, .d (.list 5 (List.map encNote p0))), (1, vI p1)] (by kernel_rfl) <| OWk.done (by kernel_rfl) <| thenS_n <| SW.seq <| SW.regionK <| OWk.sg 38 H [] [0, 1, 6, 7] 2 [(0, .d (.list 5 (List.map encNote p0))), (1, vI p1), (6, vI 0), (7, vB false)] (by kernel_rfl) <| OWk.done (by kernel_rfl) <| thenS_n <| SW.seq <| SW.seq <| SW.regionK <| OWk.sg 38 H [] [1, 6, 7, 10] 1 [(1, vI p1), (6, vI 0), (7, vB false), (10, .d (.list 5 (List.map encNote p0)))] (by kernel_rfl) <| OWk.on 38 H (d := some 11) [1, 6, 7, 10, 11] [(1, vI p1), (6, vI 0), (7, vB false), (10, .d (.list 5 (List.map encNote p0))), (11, vI (p0.length : Int))] (BAt.len (enc := encNote) (xs := p0) (by kernel_rfl)) (by kernel_rfl) <| OWk.sg 38 H [] [1, 6, 7, 10, 11, 12] 1 [(1, vI p1), (6, vI 0), (7, vB false), (10, .d (.list 5 (List.map encNote p0))), (11, vI (p0.length : Int)), (12, vI 0)] (by kernel_rfl) <| OWk.done (by kernel_rfl) <| thenS_n <| SW.block ?_
  obtain ⟨v4, hit, h⟩ := bind_inv h
  refine SW.it 38 H [1, 6, 7, 10, 11, 12] (fun y1 => [(1, vI p1), (6, vI y1.1), (7, vB y1.2.1), (10, .d (.list 5 (List.map encNote p0))), (11, vI (p0.length : Int)), (12, vI y1.2.2)]) (fun v4 e s => (e = .exit 0 ∧ s = (sp 38 [(6, vI v4.1), (7, vB v4.2)] H))) hit (by kernel_rfl) (fun y1 o h => ?_) ?_
  · unfold j_since_l1 at h
    refine SW.seq <| SW.regionK <| OWk.sg 38 H [] [1, 6, 7, 10, 11, 12, 13] 1 [(1, vI p1), (6, vI y1.1), (7, vB y1.2.1), (10, .d (.list 5 (List.map encNote p0))), (11, vI (p0.length : Int)), (12, vI y1.2.2), (13, vB (decide (y1.2.2 < (p0.length : Int))))] (by kernel_rfl) <| OWk.done (by kernel_rfl) <| thenS_n <| SW.seq ?_
    refine SW.condB (b := (decide (y1.2.2 < (p0.length : Int)))) (by kernel_rfl) (fun hc => ?_) (fun hc => ?_)
    · replace h := bif_t hc h
      refine SW.skip <| thenS_n <| SW.seq <| SW.block <| SW.seq <| SW.regionK <| OWk.sg 38 H [] [1, 6, 7, 10, 11, 12, 14] 1 [(1, vI p1), (6, vI y1.1), (7, vB y1.2.1), (10, .d (.list 5 (List.map encNote p0))), (11, vI (p0.length : Int)), (12, vI y1.2.2), (14, vI y1.2.2)] (by kernel_rfl) ?_
      obtain ⟨x2, hx, h⟩ := bind_inv h
      refine OWk.on 38 H (d := some 15) (s := lendP none (Go.Sh.D.cells (encNote x2))) [1, 6, 7, 10, 11, 12, 14, 15] [(1, vI p1), (6, vI y1.1), (7, vB y1.2.1), (10, .d (.list 5 (List.map encNote p0))), (11, vI (p0.length : Int)), (12, vI y1.2.2), (14, vI y1.2.2), (15, .d (.dptr [.int .i64 x2.Kind, .int .i64 x2.Unit, .str x2.Key, .bool x2.Has, .str x2.Text]))] (BAt.index (n := 5) hx (by kernel_rfl)) (by kernel_rfl) <| OWk.sg 38 H [] [1, 6, 7, 8, 9, 10, 11, 12] 4 [(1, vI p1), (6, vI y1.1), (7, vB y1.2.1), (8, vI y1.2.2), (9, .box [vI x2.Kind, vI x2.Unit, vS x2.Key, vB x2.Has, vS x2.Text]), (10, .d (.list 5 (List.map encNote p0))), (11, vI (p0.length : Int)), (12, vI y1.2.2)] (by kernel_rfl) <| OWk.done (by kernel_rfl) <| thenS_n <| SW.seq <| SW.seq <| SW.regionK <| OWk.sg 38 H [] [1, 6, 7, 8, 9, 10, 11, 12, 21] 5 [(1, vI p1), (6, vI y1.1), (7, vB y1.2.1), (8, vI y1.2.2), (9, .box [vI x2.Kind, vI x2.Unit, vS x2.Key, vB x2.Has, vS x2.Text]), (10, .d (.list 5 (List.map encNote p0))), (11, vI (p0.length : Int)), (12, vI y1.2.2), (21, vB (x2.Unit != p1))] (by kernel_rfl) <| OWk.mg 38 H [1, 6, 7, 8, 9, 10, 11, 12, 25] 4 (x2.Unit != p1) (fun b => (sp 38 [(1, vI p1), (6, vI y1.1), (7, vB y1.2.1), (8, vI y1.2.2), (9, .box [vI x2.Kind, vI x2.Unit, vS x2.Key, vB x2.Has, vS x2.Text]), (10, .d (.list 5 (List.map encNote p0))), (11, vI (p0.length : Int)), (12, vI y1.2.2), (21, vB b)] H)) (fun b => [(1, vI p1), (6, vI y1.1), (7, vB y1.2.1), (8, vI y1.2.2), (9, .box [vI x2.Kind, vI x2.Unit, vS x2.Key, vB x2.Has, vS x2.Text]), (10, .d (.list 5 (List.map encNote p0))), (11, vI (p0.length : Int)), (12, vI y1.2.2), (25, vB (b || (x2.Kind == 6)))]) (by kernel_rfl) (by kernel_rfl) (by kernel_rfl) <| OWk.done (by kernel_rfl) <| thenS_n ?_
      refine SW.condB (b := ((x2.Unit != p1) || (x2.Kind == 6))) (by kernel_rfl) (fun hc => ?_) (fun hc => ?_)
      · replace h := bif_t hc h
        refine SW.exit <| thenS_e <| blockS_hit <| thenS_n <| SW.regionK <| OWk.sg 38 H [] [1, 6, 7, 10, 11, 12] 2 [(1, vI p1), (6, vI y1.1), (7, vB y1.2.1), (10, .d (.list 5 (List.map encNote p0))), (11, vI (p0.length : Int)), (12, vI (IntKind.wrap .i64 (y1.2.2 + 1)))] (by kernel_rfl) <| OWk.done (by kernel_rfl) ?_
        cases h
        exact ⟨(y1.1, y1.2.1, (IntKind.wrap .i64 (y1.2.2 + 1))), rfl, by kernel_rfl⟩
      · replace h := bif_f hc h
        refine SW.skip <| thenS_n <| SW.seq <| SW.regionK <| OWk.sg 38 H [] [1, 6, 7, 8, 10, 11, 12, 27] 2 [(1, vI p1), (6, vI y1.1), (7, vB y1.2.1), (8, vI y1.2.2), (10, .d (.list 5 (List.map encNote p0))), (11, vI (p0.length : Int)), (12, vI y1.2.2), (27, vI x2.Kind)] (by kernel_rfl) <| OWk.done (by kernel_rfl) <| thenS_n <| SW.block <| SW.seq <| SW.seq <| SW.regionK <| OWk.sg 38 H [] [1, 6, 7, 8, 10, 11, 12, 27, 28] 2 [(1, vI p1), (6, vI y1.1), (7, vB y1.2.1), (8, vI y1.2.2), (10, .d (.list 5 (List.map encNote p0))), (11, vI (p0.length : Int)), (12, vI y1.2.2), (27, vI x2.Kind), (28, vB (x2.Kind == 1))] (by kernel_rfl) <| OWk.done (by kernel_rfl) <| thenS_n ?_
        refine SW.case (x2.Kind == 1) (fun b => (sp 38 [(1, vI p1), (6, vI y1.1), (7, vB y1.2.1), (8, vI y1.2.2), (10, .d (.list 5 (List.map encNote p0))), (11, vI (p0.length : Int)), (12, vI y1.2.2), (27, vI x2.Kind), (28, vB b)] H)) (by kernel_rfl) (fun hc => ?_) (fun hc => ?_)
        · replace h := bif_t hc h
          refine SW.condT (by kernel_rfl) <| SW.skip <| thenS_n <| SW.condT (by kernel_rfl) <| SW.regionK <| OWk.sg 38 H [] [1, 6, 7, 10, 11, 12] 3 [(1, vI p1), (6, vI y1.2.2), (7, vB true), (10, .d (.list 5 (List.map encNote p0))), (11, vI (p0.length : Int)), (12, vI y1.2.2)] (by kernel_rfl) <| OWk.done (by kernel_rfl) <| blockS_n <| blockS_n <| thenS_n <| SW.regionK <| OWk.sg 38 H [] [1, 6, 7, 10, 11, 12] 2 [(1, vI p1), (6, vI y1.2.2), (7, vB true), (10, .d (.list 5 (List.map encNote p0))), (11, vI (p0.length : Int)), (12, vI (IntKind.wrap .i64 (y1.2.2 + 1)))] (by kernel_rfl) <| OWk.done (by kernel_rfl) ?_
          cases h
          exact ⟨(y1.2.2, true, (IntKind.wrap .i64 (y1.2.2 + 1))), rfl, by kernel_rfl⟩
        · replace h := bif_f hc h
          refine SW.condF (by kernel_rfl) <| SW.regionK <| OWk.sg 38 H [] [1, 6, 7, 8, 10, 11, 12, 27, 28] 2 [(1, vI p1), (6, vI y1.1), (7, vB y1.2.1), (8, vI y1.2.2), (10, .d (.list 5 (List.map encNote p0))), (11, vI (p0.length : Int)), (12, vI y1.2.2), (27, vI x2.Kind), (28, vB (x2.Kind == 4))] (by kernel_rfl) <| OWk.done (by kernel_rfl) <| thenS_n ?_
          refine SW.condB (b := (x2.Kind == 4)) (by kernel_rfl) (fun hc => ?_) (fun hc => ?_)
          · replace h := bif_t hc h
            refine SW.regionK <| OWk.sg 38 H [] [1, 6, 7, 10, 11, 12] 3 [(1, vI p1), (6, vI y1.2.2), (7, vB true), (10, .d (.list 5 (List.map encNote p0))), (11, vI (p0.length : Int)), (12, vI y1.2.2)] (by kernel_rfl) <| OWk.done (by kernel_rfl) <| blockS_n <| blockS_n <| thenS_n <| SW.regionK <| OWk.sg 38 H [] [1, 6, 7, 10, 11, 12] 2 [(1, vI p1), (6, vI y1.2.2), (7, vB true), (10, .d (.list 5 (List.map encNote p0))), (11, vI (p0.length : Int)), (12, vI (IntKind.wrap .i64 (y1.2.2 + 1)))] (by kernel_rfl) <| OWk.done (by kernel_rfl) ?_
            cases h
            exact ⟨(y1.2.2, true, (IntKind.wrap .i64 (y1.2.2 + 1))), rfl, by kernel_rfl⟩
          · replace h := bif_f hc h
            refine SW.seq <| SW.seq <| SW.regionK <| OWk.sg 38 H [] [1, 6, 7, 10, 11, 12, 27, 32] 2 [(1, vI p1), (6, vI y1.1), (7, vB y1.2.1), (10, .d (.list 5 (List.map encNote p0))), (11, vI (p0.length : Int)), (12, vI y1.2.2), (27, vI x2.Kind), (32, vB (x2.Kind == 5))] (by kernel_rfl) <| OWk.done (by kernel_rfl) <| thenS_n ?_
            refine SW.case (x2.Kind == 5) (fun b => (sp 38 [(1, vI p1), (6, vI y1.1), (7, vB y1.2.1), (10, .d (.list 5 (List.map encNote p0))), (11, vI (p0.length : Int)), (12, vI y1.2.2), (27, vI x2.Kind), (32, vB b)] H)) (by kernel_rfl) (fun hc => ?_) (fun hc => ?_)
            · replace h := bif_t hc h
              refine SW.condT (by kernel_rfl) <| SW.skip <| thenS_n <| SW.condT (by kernel_rfl) <| SW.regionK <| OWk.sg 38 H [] [1, 6, 7, 10, 11, 12] 1 [(1, vI p1), (6, vI y1.1), (7, vB false), (10, .d (.list 5 (List.map encNote p0))), (11, vI (p0.length : Int)), (12, vI y1.2.2)] (by kernel_rfl) <| OWk.done (by kernel_rfl) <| blockS_n <| blockS_n <| thenS_n <| SW.regionK <| OWk.sg 38 H [] [1, 6, 7, 10, 11, 12] 2 [(1, vI p1), (6, vI y1.1), (7, vB false), (10, .d (.list 5 (List.map encNote p0))), (11, vI (p0.length : Int)), (12, vI (IntKind.wrap .i64 (y1.2.2 + 1)))] (by kernel_rfl) <| OWk.done (by kernel_rfl) ?_
              cases h
              exact ⟨(y1.1, false, (IntKind.wrap .i64 (y1.2.2 + 1))), rfl, by kernel_rfl⟩
            · replace h := bif_f hc h
              refine SW.condF (by kernel_rfl) <| SW.regionK <| OWk.sg 38 H [] [1, 6, 7, 10, 11, 12, 32] 2 [(1, vI p1), (6, vI y1.1), (7, vB y1.2.1), (10, .d (.list 5 (List.map encNote p0))), (11, vI (p0.length : Int)), (12, vI y1.2.2), (32, vB (x2.Kind == 7))] (by kernel_rfl) <| OWk.done (by kernel_rfl) <| thenS_n ?_
              refine SW.condB (b := (x2.Kind == 7)) (by kernel_rfl) (fun hc => ?_) (fun hc => ?_)
              · replace h := bif_t hc h
                refine SW.regionK <| OWk.sg 38 H [] [1, 6, 7, 10, 11, 12] 1 [(1, vI p1), (6, vI y1.1), (7, vB false), (10, .d (.list 5 (List.map encNote p0))), (11, vI (p0.length : Int)), (12, vI y1.2.2)] (by kernel_rfl) <| OWk.done (by kernel_rfl) <| blockS_n <| blockS_n <| thenS_n <| SW.regionK <| OWk.sg 38 H [] [1, 6, 7, 10, 11, 12] 2 [(1, vI p1), (6, vI y1.1), (7, vB false), (10, .d (.list 5 (List.map encNote p0))), (11, vI (p0.length : Int)), (12, vI (IntKind.wrap .i64 (y1.2.2 + 1)))] (by kernel_rfl) <| OWk.done (by kernel_rfl) ?_
                cases h
                exact ⟨(y1.1, false, (IntKind.wrap .i64 (y1.2.2 + 1))), rfl, by kernel_rfl⟩
              · replace h := bif_f hc h
                refine SW.skip <| blockS_n <| blockS_n <| thenS_n <| SW.regionK <| OWk.sg 38 H [] [1, 6, 7, 10, 11, 12] 2 [(1, vI p1), (6, vI y1.1), (7, vB y1.2.1), (10, .d (.list 5 (List.map encNote p0))), (11, vI (p0.length : Int)), (12, vI (IntKind.wrap .i64 (y1.2.2 + 1)))] (by kernel_rfl) <| OWk.done (by kernel_rfl) ?_
                cases h
                exact ⟨(y1.1, y1.2.1, (IntKind.wrap .i64 (y1.2.2 + 1))), rfl, by kernel_rfl⟩
    · replace h := bif_f hc h
      refine SW.kp 38 H [6, 7] [(6, vI y1.1), (7, vB y1.2.1)] (by kernel_rfl) <| SW.exit <| thenS_e ?_
      cases h
      refine thenS_e ?_
      exact ⟨_, rfl, ⟨rfl, rfl⟩⟩
  · rintro _ _ ⟨rfl, rfl⟩
    refine blockS_hit <| thenS_n <| SW.seq <| SW.regionK <| OWk.sg 38 H [] [4, 5] 4 [(4, vI v4.1), (5, vB v4.2)] (by kernel_rfl) <| OWk.done (by kernel_rfl) <| thenS_n <| SW.ret ?_
    cases h
    exact EndQ.ret [] (by kernel_rfl) rfl
end Go.Sh
