/- Printed by a program: functions of the program as plain functions, and that the code computes them. -/
import Derived.Test.YtjkhgfoecplbgaaS4
import Derived.Lib.Builder
import Derived.Lib.FrozenHead
import Derived.Lib.UnsafeStr
import Derived.Lib.AppendStr
import Derived.WalkKit
import Derived.Laws.Externs
import Derived.Test.YtjkhgfoecplbgaaProg
import Derived.Lib.Strings
import Derived.Lib.Slices
import Derived.Lib.Walk
import Derived.Lib.Bytealg
set_option linter.all false
set_option autoImplicit true
set_option relaxedAutoImplicit true
open Go Go.Proofs
namespace Go.Sh
set_option maxRecDepth 100000
structure Image where
  Key : (List UInt8)
  Has : Bool
  Text : (List UInt8)
  deriving DecidableEq, Inhabited
def encImage (x : Image) : D := .agg [.str x.Key, .bool x.Has, .str x.Text]
structure Note where
  Kind : Int
  Unit : Int
  Key : (List UInt8)
  Has : Bool
  Text : (List UInt8)
  deriving DecidableEq, Inhabited
def encNote (x : Note) : D := .agg [.int .i64 x.Kind, .int .i64 x.Unit, .str x.Key, .bool x.Has, .str x.Text]
def l_Notes_l1 (fuel : Nat) (p0 : (List Note)) (y1 : Int × Int) : Option ((Int × Int) ⊕ (Int)) :=
  bif ((decide (y1.2 < (p0.length : Int))) && (decide (y1.2 < 60))) then
    (idx p0 y1.2).bind fun x2 =>
    (idx p0 y1.2).bind fun x3 =>
    some (.inl ((IntKind.wrap .i64 ((IntKind.wrap .i64 (y1.1 + (x2.Key.length : Int))) + (x3.Text.length : Int))), (IntKind.wrap .i64 (y1.2 + 1))))
  else
    some (.inr y1.1)
def l_Notes (fuel : Nat) (p0 : (List Note)) : Option (Bool) :=
  (iter (l_Notes_l1 fuel p0) fuel (0, 0)).bind fun v5 =>
  some ((decide ((p0.length : Int) ≤ 60)) && (decide (v5 ≤ 6000)))
def Z0 (x0 : (List Image)) : SV := .d (.list 3 (List.map encImage x0))
def Z1 (x0 : (List Note)) : SV := .d (.list 5 (List.map encNote x0))
def Z5 (x0 : Note) : SV := vI (x0.Text.length : Int)
def Z6 (x0 : Note) : SV := vI (x0.Key.length : Int)
def Z7 (x0 : Int × Int) (x1 : (List Note)) : SV := vB (decide (x0.2 < (x1.length : Int)))
def Z8 (x0 : Int × Int) (x1 : Note) : SV := vI (IntKind.wrap .i64 (x0.1 + (x1.Key.length : Int)))
def Z9 (x0 : Int × Int) (x1 : Note) (x2 : Note) : SV := vI (IntKind.wrap .i64 ((IntKind.wrap .i64 (x0.1 + (x1.Key.length : Int))) + (x2.Text.length : Int)))
def Z10 (x0 : Int × Int) : SV := vI (IntKind.wrap .i64 (x0.2 + 1))
def Z11 (x0 : (List Note)) : SV := vB (decide ((x0.length : Int) ≤ 60))
def Z12 (x0 : (List Note)) (x1 : Int) : SV := vB ((decide ((x0.length : Int) ≤ 60)) && (decide (x1 ≤ 6000)))
theorem l_Notes_ok {fuel : Nat} {p0 : (List Note)} {r : Bool} (h : l_Notes fuel p0 = some r) : PC Try.prog 10 [.d (.list 5 (List.map encNote p0))] (vB r) := by
  refine PC.of_SW Try.func10 rfl fun H => ?_
  unfold l_Notes at h
  refine SW.kp 37 H [0] [(0, Z1 p0)] (by kernel_rfl) <| SW.R 2 [(0, Z1 p0), (3, vI 0)] <| SW.seq <| SW.R 1 [(0, Z1 p0), (3, vI 0), (4, vI 0)] <| SW.block ?_
  obtain ⟨v5, hit, h⟩ := bind_inv h
  refine SW.it 37 H [0, 3, 4] (fun y1 => [(0, Z1 p0), (3, vI y1.1), (4, vI y1.2)]) (fun v5 e s => (e = .exit 0 ∧ s = (sp 37 [(0, Z1 p0), (3, vI v5)] H))) hit (by kernel_rfl) (fun y1 o h => ?_) ?_
  · unfold l_Notes_l1 at h
    refine SW.seq <| SW.S <| OWk.G 2 [(0, Z1 p0), (3, vI y1.1), (4, vI y1.2), (5, vI y1.2), (6, Z1 p0)] <| OWk.O (d := some 7) [(0, Z1 p0), (3, vI y1.1), (4, vI y1.2), (5, vI y1.2), (7, vI (p0.length : Int))] (BAt.len (enc := encNote) (xs := p0) (by kernel_rfl)) <| OWk.G 2 [(0, Z1 p0), (3, vI y1.1), (4, vI y1.2), (9, Z7 y1 p0)] <| OWk.M 3 (decide (y1.2 < (p0.length : Int))) (fun b => [(0, Z1 p0), (3, vI y1.1), (4, vI y1.2), (9, vB b)]) (fun b => [(0, Z1 p0), (3, vI y1.1), (4, vI y1.2), (12, vB (b && (decide (y1.2 < 60))))]) <| OWk.E ?_
    refine SW.B ((decide (y1.2 < (p0.length : Int))) && (decide (y1.2 < 60))) (fun hc => ?_) (fun hc => ?_)
    · replace h := bif_t hc h
      refine SW.skip <| thenS_n <| SW.seq <| SW.block <| SW.regionT 15 (by kernel_rfl) (by kernel_rfl) <| OBk.G 3 [(0, Z1 p0), (4, vI y1.2), (15, vI y1.1), (16, Z1 p0), (17, vI y1.2)] ?_
      obtain ⟨x2, hx, h⟩ := bind_inv h
      refine OBk.O (d := some 18) (s := lendP none (Go.Sh.D.cells (encNote x2))) [(0, Z1 p0), (4, vI y1.2), (15, vI y1.1), (18, .d (.dptr [.int .i64 x2.Kind, .int .i64 x2.Unit, .str x2.Key, .bool x2.Has, .str x2.Text]))] (BAt.index (n := 5) hx (by kernel_rfl)) <| OBk.G 2 [(0, Z1 p0), (4, vI y1.2), (15, vI y1.1), (20, vS x2.Key)] <| OBk.G 1 [(0, Z1 p0), (4, vI y1.2), (15, vI y1.1), (21, Z6 x2)] <| OBk.G 3 [(0, Z1 p0), (4, vI y1.2), (22, Z8 y1 x2), (23, Z1 p0), (24, vI y1.2)] ?_
      obtain ⟨x3, hx, h⟩ := bind_inv h
      refine OBk.O (d := some 25) (s := lendP none (Go.Sh.D.cells (encNote x3))) [(0, Z1 p0), (4, vI y1.2), (22, Z8 y1 x2), (25, .d (.dptr [.int .i64 x3.Kind, .int .i64 x3.Unit, .str x3.Key, .bool x3.Has, .str x3.Text]))] (BAt.index (n := 5) hx (by kernel_rfl)) <| OBk.G 2 [(0, Z1 p0), (4, vI y1.2), (22, Z8 y1 x2), (27, vS x3.Text)] <| OBk.G 1 [(0, Z1 p0), (4, vI y1.2), (22, Z8 y1 x2), (28, Z5 x3)] <| OBk.G 1 [(0, Z1 p0), (4, vI y1.2), (29, Z9 y1 x2 x3)] <| OBk.done (by kernel_rfl) <| OWk.G 1 [(0, Z1 p0), (3, Z9 y1 x2 x3), (4, vI y1.2)] <| OWk.D <| blockS_n <| thenS_n <| SW.regionK <| OWk.G 3 [(0, Z1 p0), (3, Z9 y1 x2 x3), (4, Z10 y1)] <| OWk.D ?_
      cases h
      exact ⟨((IntKind.wrap .i64 ((IntKind.wrap .i64 (y1.1 + (x2.Key.length : Int))) + (x3.Text.length : Int))), (IntKind.wrap .i64 (y1.2 + 1))), rfl, by kernel_rfl⟩
    · replace h := bif_f hc h
      refine SW.K [(0, Z1 p0), (3, vI y1.1)] <| SW.exit <| thenS_e ?_
      cases h
      refine thenS_e ?_
      exact ⟨_, rfl, ⟨rfl, rfl⟩⟩
  · rintro _ _ ⟨rfl, rfl⟩
    refine blockS_hit <| thenS_n <| SW.S <| OWk.G 1 [(3, vI v5), (30, Z1 p0)] <| OWk.O (d := some 31) [(3, vI v5), (31, vI (p0.length : Int))] (BAt.len (enc := encNote) (xs := p0) (by kernel_rfl)) <| OWk.G 2 [(3, vI v5), (33, Z11 p0)] <| OWk.M 3 (decide ((p0.length : Int) ≤ 60)) (fun b => [(3, vI v5), (33, vB b)]) (fun b => [(36, vB (b && (decide (v5 ≤ 6000))))]) <| OWk.G 1 [(2, Z12 p0 v5)] <| OWk.E <| SW.ret ?_
    cases h
    exact EndQ.ret [] (by kernel_rfl) rfl
def j_image (fuel : Nat) (p0 : Image) : Option (Bool) :=
  bif (!(p0.Key == [])) then
    bif (decide ((p0.Key.length : Int) ≤ 40)) then
      bif (decide ((p0.Text.length : Int) ≤ 4000)) then
        bif p0.Has then
          some true
        else
          some (p0.Text == [])
      else
        some false
    else
      some false
  else
    some false
def Z13 : SV := .own 5 (List.map encNote [(⟨1, 1, [], false, []⟩ : Note), (⟨2, 1, [120], false, []⟩ : Note), (⟨3, 1, [120], true, [97]⟩ : Note), (⟨5, 1, [], false, []⟩ : Note)])
def Z15 (x0 : Image) : SV := .box [vS x0.Key, vB x0.Has, vS x0.Text]
def Z16 (x0 : Image) : SV := .d (.agg [.str x0.Key, .bool x0.Has, .str x0.Text])
def Z17 (x0 : Image) : SV := vB (decide ((x0.Key.length : Int) ≤ 40))
def Z18 (x0 : Image) : SV := vB (decide ((x0.Text.length : Int) ≤ 4000))
def Z19 (x0 : Image) : SV := vI (x0.Text.length : Int)
def Z20 (x0 : Image) : SV := vI (x0.Key.length : Int)
theorem j_image_ok {fuel : Nat} {p0 : Image} {r : Bool} (h : j_image fuel p0 = some r) : PC Try.prog 44 [.d (encImage p0)] (vB r) := by
  refine PC.of_SW Try.func44 rfl fun H => ?_
  unfold j_image at h
  refine SW.kp 27 H [0] [(0, Z16 p0)] (by kernel_rfl) <| SW.R 1 [(1, Z15 p0)] <| SW.S <| OWk.G 4 [(1, Z15 p0), (6, vB (!(p0.Key == [])))] ?_
  refine OWk.case (!(p0.Key == [])) (fun b => (sp 27 [(1, Z15 p0), (6, vB b)] H)) (by kernel_rfl) (fun hc => ?_) (fun hc => ?_)
  · replace h := bif_t hc h
    refine OWk.G 2 [(1, Z15 p0), (6, vB true), (8, vS p0.Key)] <| OWk.G 1 [(1, Z15 p0), (6, vB true), (9, Z20 p0)] <| OWk.G 3 [(1, Z15 p0), (12, Z17 p0)] ?_
    refine OWk.case (decide ((p0.Key.length : Int) ≤ 40)) (fun b => (sp 27 [(1, Z15 p0), (12, vB b)] H)) (by kernel_rfl) (fun hc => ?_) (fun hc => ?_)
    · replace h := bif_t hc h
      refine OWk.G 2 [(1, Z15 p0), (12, vB true), (14, vS p0.Text)] <| OWk.G 1 [(1, Z15 p0), (12, vB true), (15, Z19 p0)] <| OWk.G 3 [(1, Z15 p0), (18, Z18 p0)] ?_
      refine OWk.case (decide ((p0.Text.length : Int) ≤ 4000)) (fun b => (sp 27 [(1, Z15 p0), (18, vB b)] H)) (by kernel_rfl) (fun hc => ?_) (fun hc => ?_)
      · replace h := bif_t hc h
        refine OWk.G 3 [(1, Z15 p0), (18, vB true), (21, vB p0.Has)] ?_
        refine OWk.case p0.Has (fun b => (sp 27 [(1, Z15 p0), (18, vB true), (21, vB b)] H)) (by kernel_rfl) (fun hc => ?_) (fun hc => ?_)
        · replace h := bif_t hc h
          refine OWk.G 6 [(2, vB true)] <| OWk.E <| SW.ret ?_
          cases h
          exact EndQ.ret [] (by kernel_rfl) rfl
        · replace h := bif_f hc h
          refine OWk.G 6 [(2, vB (p0.Text == []))] <| OWk.E <| SW.ret ?_
          cases h
          exact EndQ.ret [] (by kernel_rfl) rfl
      · replace h := bif_f hc h
        refine OWk.G 9 [(2, vB false)] <| OWk.E <| SW.ret ?_
        cases h
        exact EndQ.ret [] (by kernel_rfl) rfl
    · replace h := bif_f hc h
      refine OWk.G 15 [(2, vB false)] <| OWk.E <| SW.ret ?_
      cases h
      exact EndQ.ret [] (by kernel_rfl) rfl
  · replace h := bif_f hc h
    refine OWk.G 21 [(2, vB false)] <| OWk.E <| SW.ret ?_
    cases h
    exact EndQ.ret [] (by kernel_rfl) rfl
def j_ordered_l1 (fuel : Nat) (p0 : (List Image)) (y1 : Int) : Option ((Int) ⊕ ((Unit) ⊕ ((Bool)))) :=
  bif (decide (y1 < (p0.length : Int))) then
    (idx p0 y1).bind fun x2 =>
    (j_image fuel x2).bind fun r3 =>
    bif ((!r3) || (!x2.Has)) then
      some (.inr (.inr false))
    else
      bif (decide (y1 > 0)) then
        (idx p0 (IntKind.wrap .i64 (y1 - 1))).bind fun x4 =>
        bif (!(Op.bytesLess x4.Key x2.Key)) then
          some (.inr (.inr false))
        else
          some (.inl (IntKind.wrap .i64 (y1 + 1)))
      else
        some (.inl (IntKind.wrap .i64 (y1 + 1)))
  else
    some (.inr (.inl ()))
def j_ordered (fuel : Nat) (p0 : (List Image)) : Option (Bool) :=
  (iter (j_ordered_l1 fuel p0) fuel 0).bind (Sum.elim (fun v6 =>
    some (decide ((p0.length : Int) ≤ 500))) (fun r7 =>
    some r7))
def Z21 (x0 : Int) (x1 : (List Image)) : SV := vB (decide (x0 < (x1.length : Int)))
def Z22 (x0 : Int) : SV := vI (IntKind.wrap .i64 (x0 - 1))
def Z23 (x0 : Image) (x1 : Image) : SV := vB (!(Op.bytesLess x0.Key x1.Key))
def Z24 (x0 : Int) : SV := vI (IntKind.wrap .i64 (x0 + 1))
def Z25 (x0 : (List Image)) : SV := vB (decide ((x0.length : Int) ≤ 500))
theorem j_ordered_ok {fuel : Nat} {p0 : (List Image)} {r : Bool} (h : j_ordered fuel p0 = some r) : PC Try.prog 36 [.d (.list 3 (List.map encImage p0))] (vB r) := by
  refine PC.of_SW Try.func36 rfl fun H => ?_
  unfold j_ordered at h
  refine SW.kp 39 H [0] [(0, Z0 p0)] (by kernel_rfl) <| SW.R 1 [(0, Z0 p0)] <| SW.seq <| SW.S <| OWk.G 1 [(0, Z0 p0), (5, Z0 p0)] <| OWk.O (d := some 6) [(0, Z0 p0), (5, Z0 p0), (6, vI (p0.length : Int))] (BAt.len (enc := encImage) (xs := p0) (by kernel_rfl)) <| OWk.G 1 [(0, Z0 p0), (5, Z0 p0), (6, vI (p0.length : Int)), (7, vI 0)] <| OWk.E <| SW.block ?_
  obtain ⟨z5, hit, h⟩ := bind_inv h
  refine SW.it 39 H [0, 5, 6, 7] (fun y1 => [(0, Z0 p0), (5, Z0 p0), (6, vI (p0.length : Int)), (7, vI y1)]) (fun b e s => ((∃ v6, b = (.inl v6) ∧ (e = .exit 0 ∧ s = (sp 39 [(0, Z0 p0)] H))) ∨ (∃ r7, b = (.inr r7) ∧ (e = .ret ∧ EndQ Try.prog Try.f36.results.toList H (vB r7) .ret s)))) hit (by kernel_rfl) (fun y1 o h => ?_) ?_
  · unfold j_ordered_l1 at h
    refine SW.R 1 [(0, Z0 p0), (5, Z0 p0), (6, vI (p0.length : Int)), (7, vI y1), (8, Z21 y1 p0)] <| SW.seq ?_
    refine SW.B (decide (y1 < (p0.length : Int))) (fun hc => ?_) (fun hc => ?_)
    · replace h := bif_t hc h
      refine SW.skip <| thenS_n <| SW.seq <| SW.block <| SW.S <| OWk.G 1 [(0, Z0 p0), (5, Z0 p0), (6, vI (p0.length : Int)), (7, vI y1), (9, vI y1)] ?_
      obtain ⟨x2, hx, h⟩ := bind_inv h
      refine OWk.O (d := some 10) (s := lendP none (Go.Sh.D.cells (encImage x2))) [(0, Z0 p0), (5, Z0 p0), (6, vI (p0.length : Int)), (7, vI y1), (9, vI y1), (10, .d (.dptr [.str x2.Key, .bool x2.Has, .str x2.Text]))] (BAt.index (n := 3) hx (by kernel_rfl)) <| OWk.G 4 [(0, Z0 p0), (3, vI y1), (4, Z15 x2), (5, Z0 p0), (6, vI (p0.length : Int)), (7, vI y1)] <| OWk.E <| SW.seq <| SW.regionQ (by kernel_rfl) (by kernel_rfl) <| OQk.G 1 [(0, Z0 p0), (3, vI y1), (4, Z15 x2), (5, Z0 p0), (6, vI (p0.length : Int)), (7, vI y1), (12, Z16 x2)] ?_
      obtain ⟨r3, hr, h⟩ := bind_inv h
      refine OQk.cl 39 H (d := some 13) (ls := []) [0, 3, 4, 5, 6, 7, 13] [(0, Z0 p0), (3, vI y1), (4, Z15 x2), (5, Z0 p0), (6, vI (p0.length : Int)), (7, vI y1), (13, vB r3)] (j_image_ok hr) (by kernel_rfl) (by kernel_rfl) (by kernel_rfl) <| OQk.G 2 [(0, Z0 p0), (3, vI y1), (4, Z15 x2), (5, Z0 p0), (6, vI (p0.length : Int)), (7, vI y1), (15, vB (!r3))] <| OQk.mg 39 H [0, 3, 4, 5, 6, 7, 19] 4 (!r3) (fun b => (sp 39 [(0, Z0 p0), (3, vI y1), (4, Z15 x2), (5, Z0 p0), (6, vI (p0.length : Int)), (7, vI y1), (15, vB b)] H)) (fun b => [(0, Z0 p0), (3, vI y1), (4, Z15 x2), (5, Z0 p0), (6, vI (p0.length : Int)), (7, vI y1), (19, vB (b || (!x2.Has)))]) (by kernel_rfl) (by kernel_rfl) (by kernel_rfl) <| OQk.G 1 [(0, Z0 p0), (3, vI y1), (4, Z15 x2), (5, Z0 p0), (6, vI (p0.length : Int)), (7, vI y1), (20, vB ((!r3) || (!x2.Has)))] ?_
      refine OQk.case ((!r3) || (!x2.Has)) (fun b => (sp 39 [(0, Z0 p0), (3, vI y1), (4, Z15 x2), (5, Z0 p0), (6, vI (p0.length : Int)), (7, vI y1), (20, vB b)] H)) (by kernel_rfl) (fun hc => ?_) (fun hc => ?_)
      · replace h := bif_t hc h
        refine OQk.G 14 [(0, Z0 p0), (5, Z0 p0), (6, vI (p0.length : Int)), (7, vI y1), (34, vB true)] <| OQk.done (by kernel_rfl) <| thenS_n <| SW.condT (by kernel_rfl) <| SW.R 1 [(2, vB false)] <| SW.ret <| blockS_r <| thenS_r ?_
        cases h
        refine thenS_r ?_
        exact ⟨_, rfl, .inr (⟨false, rfl, rfl, EndQ.ret [] (by kernel_rfl) rfl⟩)⟩
      · replace h := bif_f hc h
        refine OQk.G 3 [(0, Z0 p0), (3, vI y1), (4, Z15 x2), (5, Z0 p0), (6, vI (p0.length : Int)), (7, vI y1), (20, vB false), (23, vB (decide (y1 > 0)))] ?_
        refine OQk.case (decide (y1 > 0)) (fun b => (sp 39 [(0, Z0 p0), (3, vI y1), (4, Z15 x2), (5, Z0 p0), (6, vI (p0.length : Int)), (7, vI y1), (20, vB false), (23, vB b)] H)) (by kernel_rfl) (fun hc => ?_) (fun hc => ?_)
        · replace h := bif_t hc h
          refine OQk.G 3 [(0, Z0 p0), (4, Z15 x2), (5, Z0 p0), (6, vI (p0.length : Int)), (7, vI y1), (20, vB false), (23, vB true), (24, Z0 p0), (26, Z22 y1)] ?_
          obtain ⟨x4, hx, h⟩ := bind_inv h
          refine OQk.on 39 H (d := some 27) (s := lendP none (Go.Sh.D.cells (encImage x4))) [0, 4, 5, 6, 7, 20, 23, 27] [(0, Z0 p0), (4, Z15 x2), (5, Z0 p0), (6, vI (p0.length : Int)), (7, vI y1), (20, vB false), (23, vB true), (27, .d (.dptr [.str x4.Key, .bool x4.Has, .str x4.Text]))] (BAt.index (n := 3) hx (by kernel_rfl)) (by kernel_rfl) <| OQk.G 7 [(0, Z0 p0), (5, Z0 p0), (6, vI (p0.length : Int)), (7, vI y1), (34, Z23 x4 x2)] <| OQk.done (by kernel_rfl) <| thenS_n ?_
          refine SW.B (!(Op.bytesLess x4.Key x2.Key)) (fun hc => ?_) (fun hc => ?_)
          · replace h := bif_t hc h
            refine SW.R 1 [(2, vB false)] <| SW.ret <| blockS_r <| thenS_r ?_
            cases h
            refine thenS_r ?_
            exact ⟨_, rfl, .inr (⟨false, rfl, rfl, EndQ.ret [] (by kernel_rfl) rfl⟩)⟩
          · replace h := bif_f hc h
            refine SW.skip <| blockS_n <| thenS_n <| SW.regionK <| OWk.G 2 [(0, Z0 p0), (5, Z0 p0), (6, vI (p0.length : Int)), (7, Z24 y1)] <| OWk.D ?_
            cases h
            exact ⟨(IntKind.wrap .i64 (y1 + 1)), rfl, by kernel_rfl⟩
        · replace h := bif_f hc h
          refine OQk.G 11 [(0, Z0 p0), (5, Z0 p0), (6, vI (p0.length : Int)), (7, vI y1), (34, vB false)] <| OQk.done (by kernel_rfl) <| thenS_n <| SW.condF (by kernel_rfl) <| SW.skip <| blockS_n <| thenS_n <| SW.regionK <| OWk.G 2 [(0, Z0 p0), (5, Z0 p0), (6, vI (p0.length : Int)), (7, Z24 y1)] <| OWk.D ?_
          cases h
          exact ⟨(IntKind.wrap .i64 (y1 + 1)), rfl, by kernel_rfl⟩
    · replace h := bif_f hc h
      refine SW.K [(0, Z0 p0)] <| SW.exit <| thenS_e ?_
      cases h
      refine thenS_e ?_
      exact ⟨_, rfl, .inl ⟨(), rfl, rfl, rfl⟩⟩
  · rintro _ _ (⟨v6, rfl, rfl, rfl⟩ | ⟨r7, rfl, rfl, hE⟩)
    · replace h := sum_l h
      refine blockS_hit <| thenS_n <| SW.S <| OWk.G 1 [(36, Z0 p0)] <| OWk.O (d := some 37) [(37, vI (p0.length : Int))] (BAt.len (enc := encImage) (xs := p0) (by kernel_rfl)) <| OWk.G 2 [(2, Z25 p0)] <| OWk.E <| SW.ret ?_
      cases h
      exact EndQ.ret [] (by kernel_rfl) rfl
    · replace h := sum_r h
      refine blockS_r <| thenS_r ?_
      cases h
      exact hE
def j_kinds (fuel : Nat) : Option (Unit) :=
  some ()
def Z26 : SV := .own 3 (List.map encImage ([] : List Image))
def Z27 (x0 : (List Note)) : SV := vB (decide ((x0.length : Int) ≤ 1000))
def Z28 : SV := .d (.fn (.func 79) [] [])
def Z29 (x0 : Note) : SV := .d (.agg [.int .i64 x0.Kind, .int .i64 x0.Unit, .str x0.Key, .bool x0.Has, .str x0.Text])
def Z30 (x0 : Note) : SV := .box [vI x0.Kind, vI x0.Unit, vS x0.Key, vB x0.Has, vS x0.Text]
def Z31 (x0 : Note) : SV := vB (decide (x0.Kind ≥ 1))
def Z32 (x0 : Note) : SV := vB ((decide (x0.Kind ≥ 1)) && (decide (x0.Kind ≤ 7)))
def Z34 : SV := .box [.d (.nilFn), .d (.fn (.func 75) [] []), .d (.fn (.func 76) [] []), .d (.fn (.func 76) [] []), .d (.fn (.func 75) [] []), .d (.fn (.func 75) [] []), .d (.fn (.func 77) [] []), .d (.fn (.func 75) [] [])]
theorem j_kinds_ok {fuel : Nat} {r : Unit} (h : j_kinds fuel = some r) : PC Try.prog 58 [] (.d (.agg [.nilFn, .fn (.func 75) [] [], .fn (.func 76) [] [], .fn (.func 76) [] [], .fn (.func 75) [] [], .fn (.func 75) [] [], .fn (.func 77) [] [], .fn (.func 75) [] []])) := by
  refine PC.of_SW Try.func58 rfl fun H => ?_
  unfold j_kinds at h
  refine SW.kp 2 H [] [] (by kernel_rfl) <| SW.R 2 [(0, Z34)] <| SW.ret ?_
  cases h
  exact EndQ.ret [] (by kernel_rfl) rfl
def j_unit (fuel : Nat) (p0 : Int) : Option (Bool) :=
  some ((decide (p0 ≥ 1)) && (decide (p0 ≤ 1000)))
def Z35 : SV := .d (.agg [.nilFn, .fn (.func 75) [] [], .fn (.func 76) [] [], .fn (.func 76) [] [], .fn (.func 75) [] [], .fn (.func 75) [] [], .fn (.func 77) [] [], .fn (.func 75) [] []])
def Z36 : SV := .d (.fn (.func 75) [] [])
def Z37 (x0 : Int) : SV := vB ((decide (x0 ≥ 1)) && (decide (x0 ≤ 1000)))
theorem j_unit_ok {fuel : Nat} {p0 : Int} {r : Bool} (h : j_unit fuel p0 = some r) : PC Try.prog 65 [vI p0] (vB r) := by
  refine PC.of_SW Try.func65 rfl fun H => ?_
  unfold j_unit at h
  refine SW.kp 9 H [0] [(0, vI p0)] (by kernel_rfl) <| SW.R 1 [(0, vI p0)] <| SW.S <| OWk.G 3 [(0, vI p0), (5, vB (decide (p0 ≥ 1)))] <| OWk.M 3 (decide (p0 ≥ 1)) (fun b => [(0, vI p0), (5, vB b)]) (fun b => [(8, vB (b && (decide (p0 ≤ 1000))))]) <| OWk.G 1 [(2, Z37 p0)] <| OWk.E <| SW.ret ?_
  cases h
  exact EndQ.ret [] (by kernel_rfl) rfl
def j_plain (fuel : Nat) (p0 : Note) : Option (Bool) :=
  (j_unit fuel p0.Unit).bind fun r1 =>
  some (((r1 && (p0.Key == [])) && (!p0.Has)) && (p0.Text == []))
def Z38 (x0 : Bool) (x1 : Note) : SV := vB (x0 && (x1.Key == []))
def Z39 (x0 : Bool) (x1 : Note) : SV := vB ((x0 && (x1.Key == [])) && (!x1.Has))
def Z40 (x0 : Bool) (x1 : Note) : SV := vB (((x0 && (x1.Key == [])) && (!x1.Has)) && (x1.Text == []))
theorem j_plain_ok {fuel : Nat} {p0 : Note} {r : Bool} (h : j_plain fuel p0 = some r) : PC Try.prog 75 [.d (encNote p0)] (vB r) := by
  refine PC.of_SW Try.func75 rfl fun H => ?_
  unfold j_plain at h
  refine SW.kp 21 H [0] [(0, Z29 p0)] (by kernel_rfl) <| SW.R 1 [(1, Z30 p0)] <| SW.S <| OWk.G 2 [(1, Z30 p0), (4, vI p0.Unit)] ?_
  obtain ⟨r1, hr, h⟩ := bind_inv h
  refine OWk.C0 (some 5) [(1, Z30 p0), (5, vB r1)] (j_unit_ok hr) <| OWk.G 1 [(1, Z30 p0), (6, vB r1)] <| OWk.M 4 r1 (fun b => [(1, Z30 p0), (6, vB b)]) (fun b => [(1, Z30 p0), (10, vB (b && (p0.Key == [])))]) <| OWk.G 1 [(1, Z30 p0), (11, Z38 r1 p0)] <| OWk.M 4 (r1 && (p0.Key == [])) (fun b => [(1, Z30 p0), (11, vB b)]) (fun b => [(1, Z30 p0), (15, vB (b && (!p0.Has)))]) <| OWk.G 1 [(1, Z30 p0), (16, Z39 r1 p0)] <| OWk.M 4 ((r1 && (p0.Key == [])) && (!p0.Has)) (fun b => [(1, Z30 p0), (16, vB b)]) (fun b => [(20, vB (b && (p0.Text == [])))]) <| OWk.G 1 [(2, Z40 r1 p0)] <| OWk.E <| SW.ret ?_
  cases h
  exact EndQ.ret [] (by kernel_rfl) rfl
def j_imaged (fuel : Nat) (p0 : Note) : Option (Bool) :=
  (j_unit fuel p0.Unit).bind fun r1 =>
  bif (r1 && (!(p0.Key == []))) then
    bif (decide ((p0.Key.length : Int) ≤ 40)) then
      bif (decide ((p0.Text.length : Int) ≤ 4000)) then
        bif p0.Has then
          some true
        else
          some (p0.Text == [])
      else
        some false
    else
      some false
  else
    some false
def Z41 : SV := .d (.fn (.func 76) [] [])
def Z42 (x0 : Bool) (x1 : Note) : SV := vB (x0 && (!(x1.Key == [])))
def Z43 (x0 : Note) : SV := vB (decide ((x0.Key.length : Int) ≤ 40))
def Z44 (x0 : Note) : SV := vB (decide ((x0.Text.length : Int) ≤ 4000))
theorem j_imaged_ok {fuel : Nat} {p0 : Note} {r : Bool} (h : j_imaged fuel p0 = some r) : PC Try.prog 76 [.d (encNote p0)] (vB r) := by
  refine PC.of_SW Try.func76 rfl fun H => ?_
  unfold j_imaged at h
  refine SW.kp 32 H [0] [(0, Z29 p0)] (by kernel_rfl) <| SW.R 1 [(1, Z30 p0)] <| SW.S <| OWk.G 2 [(1, Z30 p0), (4, vI p0.Unit)] ?_
  obtain ⟨r1, hr, h⟩ := bind_inv h
  refine OWk.C0 (some 5) [(1, Z30 p0), (5, vB r1)] (j_unit_ok hr) <| OWk.G 1 [(1, Z30 p0), (6, vB r1)] <| OWk.M 4 r1 (fun b => [(1, Z30 p0), (6, vB b)]) (fun b => [(1, Z30 p0), (10, vB (b && (!(p0.Key == []))))]) <| OWk.G 1 [(1, Z30 p0), (11, Z42 r1 p0)] ?_
  refine OWk.case (r1 && (!(p0.Key == []))) (fun b => (sp 32 [(1, Z30 p0), (11, vB b)] H)) (by kernel_rfl) (fun hc => ?_) (fun hc => ?_)
  · replace h := bif_t hc h
    refine OWk.G 2 [(1, Z30 p0), (11, vB true), (13, vS p0.Key)] <| OWk.G 1 [(1, Z30 p0), (11, vB true), (14, Z6 p0)] <| OWk.G 3 [(1, Z30 p0), (17, Z43 p0)] ?_
    refine OWk.case (decide ((p0.Key.length : Int) ≤ 40)) (fun b => (sp 32 [(1, Z30 p0), (17, vB b)] H)) (by kernel_rfl) (fun hc => ?_) (fun hc => ?_)
    · replace h := bif_t hc h
      refine OWk.G 2 [(1, Z30 p0), (17, vB true), (19, vS p0.Text)] <| OWk.G 1 [(1, Z30 p0), (17, vB true), (20, Z5 p0)] <| OWk.G 3 [(1, Z30 p0), (23, Z44 p0)] ?_
      refine OWk.case (decide ((p0.Text.length : Int) ≤ 4000)) (fun b => (sp 32 [(1, Z30 p0), (23, vB b)] H)) (by kernel_rfl) (fun hc => ?_) (fun hc => ?_)
      · replace h := bif_t hc h
        refine OWk.G 3 [(1, Z30 p0), (23, vB true), (26, vB p0.Has)] ?_
        refine OWk.case p0.Has (fun b => (sp 32 [(1, Z30 p0), (23, vB true), (26, vB b)] H)) (by kernel_rfl) (fun hc => ?_) (fun hc => ?_)
        · replace h := bif_t hc h
          refine OWk.G 6 [(2, vB true)] <| OWk.E <| SW.ret ?_
          cases h
          exact EndQ.ret [] (by kernel_rfl) rfl
        · replace h := bif_f hc h
          refine OWk.G 6 [(2, vB (p0.Text == []))] <| OWk.E <| SW.ret ?_
          cases h
          exact EndQ.ret [] (by kernel_rfl) rfl
      · replace h := bif_f hc h
        refine OWk.G 9 [(2, vB false)] <| OWk.E <| SW.ret ?_
        cases h
        exact EndQ.ret [] (by kernel_rfl) rfl
    · replace h := bif_f hc h
      refine OWk.G 15 [(2, vB false)] <| OWk.E <| SW.ret ?_
      cases h
      exact EndQ.ret [] (by kernel_rfl) rfl
  · replace h := bif_f hc h
    refine OWk.G 21 [(2, vB false)] <| OWk.E <| SW.ret ?_
    cases h
    exact EndQ.ret [] (by kernel_rfl) rfl
def j_named (fuel : Nat) (p0 : Note) : Option (Bool) :=
  bif ((((p0.Unit == 0) && (p0.Key == [])) && (!p0.Has)) && (!(p0.Text == []))) then
    some (decide ((p0.Text.length : Int) ≤ 40))
  else
    some false
def Z45 : SV := .d (.fn (.func 77) [] [])
def Z46 (x0 : Note) : SV := vB ((x0.Unit == 0) && (x0.Key == []))
def Z47 (x0 : Note) : SV := vB (((x0.Unit == 0) && (x0.Key == [])) && (!x0.Has))
def Z48 (x0 : Note) : SV := vB ((((x0.Unit == 0) && (x0.Key == [])) && (!x0.Has)) && (!(x0.Text == [])))
def Z49 (x0 : Note) : SV := vB (decide ((x0.Text.length : Int) ≤ 40))
theorem j_named_ok {fuel : Nat} {p0 : Note} {r : Bool} (h : j_named fuel p0 = some r) : PC Try.prog 77 [.d (encNote p0)] (vB r) := by
  refine PC.of_SW Try.func77 rfl fun H => ?_
  unfold j_named at h
  refine SW.kp 27 H [0] [(0, Z29 p0)] (by kernel_rfl) <| SW.R 1 [(1, Z30 p0)] <| SW.S <| OWk.G 4 [(1, Z30 p0), (6, vB (p0.Unit == 0))] <| OWk.M 4 (p0.Unit == 0) (fun b => [(1, Z30 p0), (6, vB b)]) (fun b => [(1, Z30 p0), (10, vB (b && (p0.Key == [])))]) <| OWk.G 1 [(1, Z30 p0), (11, Z46 p0)] <| OWk.M 4 ((p0.Unit == 0) && (p0.Key == [])) (fun b => [(1, Z30 p0), (11, vB b)]) (fun b => [(1, Z30 p0), (15, vB (b && (!p0.Has)))]) <| OWk.G 1 [(1, Z30 p0), (16, Z47 p0)] <| OWk.M 4 (((p0.Unit == 0) && (p0.Key == [])) && (!p0.Has)) (fun b => [(1, Z30 p0), (16, vB b)]) (fun b => [(1, Z30 p0), (20, vB (b && (!(p0.Text == []))))]) <| OWk.G 1 [(1, Z30 p0), (21, Z48 p0)] ?_
  refine OWk.case ((((p0.Unit == 0) && (p0.Key == [])) && (!p0.Has)) && (!(p0.Text == []))) (fun b => (sp 27 [(1, Z30 p0), (21, vB b)] H)) (by kernel_rfl) (fun hc => ?_) (fun hc => ?_)
  · replace h := bif_t hc h
    refine OWk.G 2 [(21, vB true), (23, vS p0.Text)] <| OWk.G 1 [(21, vB true), (24, Z5 p0)] <| OWk.G 3 [(2, Z49 p0)] <| OWk.E <| SW.ret ?_
    cases h
    exact EndQ.ret [] (by kernel_rfl) rfl
  · replace h := bif_f hc h
    refine OWk.G 6 [(2, vB false)] <| OWk.E <| SW.ret ?_
    cases h
    exact EndQ.ret [] (by kernel_rfl) rfl
def j_Valid (fuel : Nat) (p0 : Note) : Option (Bool) :=
  bif ((decide (p0.Kind ≥ 1)) && (decide (p0.Kind ≤ 7))) then
    (j_kinds fuel).bind fun r1 =>
    bif (p0.Kind == 0) then
      none
    else
      bif (p0.Kind == 1) then
        (j_plain fuel p0).bind fun r2 =>
        some r2
      else
        bif (p0.Kind == 2) then
          (j_imaged fuel p0).bind fun r3 =>
          some r3
        else
          bif (p0.Kind == 3) then
            (j_imaged fuel p0).bind fun r4 =>
            some r4
          else
            bif (p0.Kind == 4) then
              (j_plain fuel p0).bind fun r5 =>
              some r5
            else
              bif (p0.Kind == 5) then
                (j_plain fuel p0).bind fun r6 =>
                some r6
              else
                bif (p0.Kind == 6) then
                  (j_named fuel p0).bind fun r7 =>
                  some r7
                else
                  bif (p0.Kind == 7) then
                    (j_plain fuel p0).bind fun r8 =>
                    some r8
                  else
                    none
  else
    some false
theorem j_Valid_ok {fuel : Nat} {p0 : Note} {r : Bool} (h : j_Valid fuel p0 = some r) : PC Try.prog 27 [.d (encNote p0)] (vB r) := by
  refine PC.of_SW Try.func27 rfl fun H => ?_
  unfold j_Valid at h
  refine SW.kp 19 H [0] [(0, Z29 p0)] (by kernel_rfl) <| SW.R 1 [(1, Z30 p0)] <| SW.seq <| SW.regionQ (by kernel_rfl) (by kernel_rfl) <| OQk.G 4 [(1, Z30 p0), (6, Z31 p0)] <| OQk.mg 19 H [1, 10] 4 (decide (p0.Kind ≥ 1)) (fun b => (sp 19 [(1, Z30 p0), (6, vB b)] H)) (fun b => [(1, Z30 p0), (10, vB (b && (decide (p0.Kind ≤ 7))))]) (by kernel_rfl) (by kernel_rfl) (by kernel_rfl) <| OQk.G 1 [(1, Z30 p0), (11, Z32 p0)] ?_
  refine OQk.case ((decide (p0.Kind ≥ 1)) && (decide (p0.Kind ≤ 7))) (fun b => (sp 19 [(1, Z30 p0), (11, vB b)] H)) (by kernel_rfl) (fun hc => ?_) (fun hc => ?_)
  · replace h := bif_t hc h
    obtain ⟨r1, hr, h⟩ := bind_inv h
    refine OQk.cl 19 H (d := some 12) (ls := []) [1, 11, 12] [(1, Z30 p0), (11, vB true), (12, Z35)] (j_kinds_ok hr) (by kernel_rfl) (by kernel_rfl) (by kernel_rfl) <| OQk.G 2 [(1, Z30 p0), (11, vB true), (12, Z35), (14, vI p0.Kind)] ?_
    rcases hc : (p0.Kind == 0) with _ | _
    · replace h := bif_f hc h
      rcases hc : (p0.Kind == 1) with _ | _
      · replace h := bif_f hc h
        rcases hc : (p0.Kind == 2) with _ | _
        · replace h := bif_f hc h
          rcases hc : (p0.Kind == 3) with _ | _
          · replace h := bif_f hc h
            rcases hc : (p0.Kind == 4) with _ | _
            · replace h := bif_f hc h
              rcases hc : (p0.Kind == 5) with _ | _
              · replace h := bif_f hc h
                rcases hc : (p0.Kind == 6) with _ | _
                · replace h := bif_f hc h
                  rcases hc : (p0.Kind == 7) with _ | _
                  · replace h := bif_f hc h
                    cases h
                  · replace h := bif_t hc h
                    refine OQk.lit (fun e => (sp 19 [(1, Z30 p0), (11, vB true), (12, Z35), (14, vI e)] H)) (by kernel_rfl) hc <| OQk.G 2 [(11, vB true), (15, Z36), (16, Z29 p0)] ?_
                    obtain ⟨r8, hr, h⟩ := bind_inv h
                    refine OQk.cl 19 H (d := some 17) (ls := []) [11, 17] [(11, vB true), (17, vB r8)] (j_plain_ok hr) (by kernel_rfl) (by kernel_rfl) (by kernel_rfl) <| OQk.G 2 [(2, vB r8)] <| OQk.done (by kernel_rfl) <| thenS_n <| SW.ret ?_
                    cases h
                    exact EndQ.ret [] (by kernel_rfl) rfl
                · replace h := bif_t hc h
                  refine OQk.lit (fun e => (sp 19 [(1, Z30 p0), (11, vB true), (12, Z35), (14, vI e)] H)) (by kernel_rfl) hc <| OQk.G 2 [(11, vB true), (15, Z45), (16, Z29 p0)] ?_
                  obtain ⟨r7, hr, h⟩ := bind_inv h
                  refine OQk.cl 19 H (d := some 17) (ls := []) [11, 17] [(11, vB true), (17, vB r7)] (j_named_ok hr) (by kernel_rfl) (by kernel_rfl) (by kernel_rfl) <| OQk.G 2 [(2, vB r7)] <| OQk.done (by kernel_rfl) <| thenS_n <| SW.ret ?_
                  cases h
                  exact EndQ.ret [] (by kernel_rfl) rfl
              · replace h := bif_t hc h
                refine OQk.lit (fun e => (sp 19 [(1, Z30 p0), (11, vB true), (12, Z35), (14, vI e)] H)) (by kernel_rfl) hc <| OQk.G 2 [(11, vB true), (15, Z36), (16, Z29 p0)] ?_
                obtain ⟨r6, hr, h⟩ := bind_inv h
                refine OQk.cl 19 H (d := some 17) (ls := []) [11, 17] [(11, vB true), (17, vB r6)] (j_plain_ok hr) (by kernel_rfl) (by kernel_rfl) (by kernel_rfl) <| OQk.G 2 [(2, vB r6)] <| OQk.done (by kernel_rfl) <| thenS_n <| SW.ret ?_
                cases h
                exact EndQ.ret [] (by kernel_rfl) rfl
            · replace h := bif_t hc h
              refine OQk.lit (fun e => (sp 19 [(1, Z30 p0), (11, vB true), (12, Z35), (14, vI e)] H)) (by kernel_rfl) hc <| OQk.G 2 [(11, vB true), (15, Z36), (16, Z29 p0)] ?_
              obtain ⟨r5, hr, h⟩ := bind_inv h
              refine OQk.cl 19 H (d := some 17) (ls := []) [11, 17] [(11, vB true), (17, vB r5)] (j_plain_ok hr) (by kernel_rfl) (by kernel_rfl) (by kernel_rfl) <| OQk.G 2 [(2, vB r5)] <| OQk.done (by kernel_rfl) <| thenS_n <| SW.ret ?_
              cases h
              exact EndQ.ret [] (by kernel_rfl) rfl
          · replace h := bif_t hc h
            refine OQk.lit (fun e => (sp 19 [(1, Z30 p0), (11, vB true), (12, Z35), (14, vI e)] H)) (by kernel_rfl) hc <| OQk.G 2 [(11, vB true), (15, Z41), (16, Z29 p0)] ?_
            obtain ⟨r4, hr, h⟩ := bind_inv h
            refine OQk.cl 19 H (d := some 17) (ls := []) [11, 17] [(11, vB true), (17, vB r4)] (j_imaged_ok hr) (by kernel_rfl) (by kernel_rfl) (by kernel_rfl) <| OQk.G 2 [(2, vB r4)] <| OQk.done (by kernel_rfl) <| thenS_n <| SW.ret ?_
            cases h
            exact EndQ.ret [] (by kernel_rfl) rfl
        · replace h := bif_t hc h
          refine OQk.lit (fun e => (sp 19 [(1, Z30 p0), (11, vB true), (12, Z35), (14, vI e)] H)) (by kernel_rfl) hc <| OQk.G 2 [(11, vB true), (15, Z41), (16, Z29 p0)] ?_
          obtain ⟨r3, hr, h⟩ := bind_inv h
          refine OQk.cl 19 H (d := some 17) (ls := []) [11, 17] [(11, vB true), (17, vB r3)] (j_imaged_ok hr) (by kernel_rfl) (by kernel_rfl) (by kernel_rfl) <| OQk.G 2 [(2, vB r3)] <| OQk.done (by kernel_rfl) <| thenS_n <| SW.ret ?_
          cases h
          exact EndQ.ret [] (by kernel_rfl) rfl
      · replace h := bif_t hc h
        refine OQk.lit (fun e => (sp 19 [(1, Z30 p0), (11, vB true), (12, Z35), (14, vI e)] H)) (by kernel_rfl) hc <| OQk.G 2 [(11, vB true), (15, Z36), (16, Z29 p0)] ?_
        obtain ⟨r2, hr, h⟩ := bind_inv h
        refine OQk.cl 19 H (d := some 17) (ls := []) [11, 17] [(11, vB true), (17, vB r2)] (j_plain_ok hr) (by kernel_rfl) (by kernel_rfl) (by kernel_rfl) <| OQk.G 2 [(2, vB r2)] <| OQk.done (by kernel_rfl) <| thenS_n <| SW.ret ?_
        cases h
        exact EndQ.ret [] (by kernel_rfl) rfl
    · replace h := bif_t hc h
      refine OQk.lit (fun e => (sp 19 [(1, Z30 p0), (11, vB true), (12, Z35), (14, vI e)] H)) (by kernel_rfl) hc <| OQk.G 2 [(11, vB true), (15, .d (.nilFn)), (16, Z29 p0)] ?_
      cases h
  · replace h := bif_f hc h
    refine OQk.G 8 [(2, vB false)] <| OQk.done (by kernel_rfl) <| thenS_n <| SW.ret ?_
    cases h
    exact EndQ.ret [] (by kernel_rfl) rfl
def j_valid_1 (fuel : Nat) (p0 : Note) : Option (Bool) :=
  (j_Valid fuel p0).bind fun r1 =>
  some (!r1)
theorem j_valid_1_ok {fuel : Nat} {p0 : Note} {r : Bool} (h : j_valid_1 fuel p0 = some r) : PC Try.prog 79 [.d (encNote p0)] (vB r) := by
  refine PC.of_SW Try.func79 rfl fun H => ?_
  unfold j_valid_1 at h
  refine SW.kp 6 H [0] [(0, Z29 p0)] (by kernel_rfl) <| SW.R 1 [(1, Z30 p0)] <| SW.S <| OWk.G 1 [(3, Z29 p0)] ?_
  obtain ⟨r1, hr, h⟩ := bind_inv h
  refine OWk.C0 (some 4) [(4, vB r1)] (j_Valid_ok hr) <| OWk.G 2 [(2, vB (!r1))] <| OWk.E <| SW.ret ?_
  cases h
  exact EndQ.ret [] (by kernel_rfl) rfl
def slices_IndexFunc__j_valid_1_l1 (fuel : Nat) (p0 : (List Note)) (y1 : Int) : Option ((Int) ⊕ ((Unit) ⊕ ((Int)))) :=
  bif (decide (y1 < (p0.length : Int))) then
    (idx p0 y1).bind fun x2 =>
    (j_valid_1 fuel x2).bind fun r3 =>
    bif r3 then
      some (.inr (.inr y1))
    else
      some (.inl (IntKind.wrap .i64 (y1 + 1)))
  else
    some (.inr (.inl ()))
def slices_IndexFunc__j_valid_1 (fuel : Nat) (p0 : (List Note)) : Option (Int) :=
  (iter (slices_IndexFunc__j_valid_1_l1 fuel p0) fuel 0).bind (Sum.elim (fun v5 =>
    some (-1)) (fun r6 =>
    some r6))
def Z50 (x0 : Int) (x1 : (List Note)) : SV := vB (decide (x0 < (x1.length : Int)))
theorem slices_IndexFunc__j_valid_1_ok {fuel : Nat} {p0 : (List Note)} {r : Int} (h : slices_IndexFunc__j_valid_1 fuel p0 = some r) : PC Try.prog 88 [.d (.list 5 (List.map encNote p0)), .d (.fn (.func 79) [] [])] (vI r) := by
  refine PC.of_SW Try.func88 rfl fun H => ?_
  unfold slices_IndexFunc__j_valid_1 at h
  refine SW.kp 19 H [0, 1] [(0, Z1 p0), (1, Z28)] (by kernel_rfl) <| SW.R 1 [(0, Z1 p0), (1, Z28)] <| SW.seq <| SW.S <| OWk.G 1 [(0, Z1 p0), (1, Z28), (6, Z1 p0)] <| OWk.O (d := some 7) [(0, Z1 p0), (1, Z28), (7, vI (p0.length : Int))] (BAt.len (enc := encNote) (xs := p0) (by kernel_rfl)) <| OWk.G 1 [(0, Z1 p0), (1, Z28), (7, vI (p0.length : Int)), (8, vI 0)] <| OWk.E <| SW.block ?_
  obtain ⟨z4, hit, h⟩ := bind_inv h
  refine SW.it 19 H [0, 1, 7, 8] (fun y1 => [(0, Z1 p0), (1, Z28), (7, vI (p0.length : Int)), (8, vI y1)]) (fun b e s => ((∃ v5, b = (.inl v5) ∧ (e = .exit 0 ∧ s = (sp 19 [] H))) ∨ (∃ r6, b = (.inr r6) ∧ (e = .ret ∧ EndQ Try.prog Try.f88.results.toList H (vI r6) .ret s)))) hit (by kernel_rfl) (fun y1 o h => ?_) ?_
  · unfold slices_IndexFunc__j_valid_1_l1 at h
    refine SW.R 1 [(0, Z1 p0), (1, Z28), (7, vI (p0.length : Int)), (8, vI y1), (9, Z50 y1 p0)] <| SW.seq ?_
    refine SW.B (decide (y1 < (p0.length : Int))) (fun hc => ?_) (fun hc => ?_)
    · replace h := bif_t hc h
      refine SW.skip <| thenS_n <| SW.seq <| SW.block <| SW.R 1 [(0, Z1 p0), (1, Z28), (5, vI y1), (7, vI (p0.length : Int)), (8, vI y1)] <| SW.S <| OWk.G 3 [(0, Z1 p0), (1, Z28), (5, vI y1), (7, vI (p0.length : Int)), (8, vI y1), (11, Z28), (12, Z1 p0), (13, vI y1)] ?_
      obtain ⟨x2, hx, h⟩ := bind_inv h
      refine OWk.O (d := some 14) (s := lendP none (Go.Sh.D.cells (encNote x2))) [(0, Z1 p0), (1, Z28), (5, vI y1), (7, vI (p0.length : Int)), (8, vI y1), (11, Z28), (14, .d (.dptr [.int .i64 x2.Kind, .int .i64 x2.Unit, .str x2.Key, .bool x2.Has, .str x2.Text]))] (BAt.index (n := 5) hx (by kernel_rfl)) <| OWk.G 1 [(0, Z1 p0), (1, Z28), (5, vI y1), (7, vI (p0.length : Int)), (8, vI y1), (11, Z28), (15, Z29 x2)] ?_
      obtain ⟨r3, hr, h⟩ := bind_inv h
      refine OWk.C0 (some 16) [(0, Z1 p0), (1, Z28), (5, vI y1), (7, vI (p0.length : Int)), (8, vI y1), (16, vB r3)] (j_valid_1_ok hr) <| OWk.E ?_
      refine SW.B r3 (fun hc => ?_) (fun hc => ?_)
      · replace h := bif_t hc h
        refine SW.R 1 [(4, vI y1)] <| SW.ret <| blockS_r <| thenS_r ?_
        cases h
        refine thenS_r ?_
        exact ⟨_, rfl, .inr (⟨y1, rfl, rfl, EndQ.ret [] (by kernel_rfl) rfl⟩)⟩
      · replace h := bif_f hc h
        refine SW.skip <| blockS_n <| thenS_n <| SW.regionK <| OWk.G 2 [(0, Z1 p0), (1, Z28), (7, vI (p0.length : Int)), (8, Z24 y1)] <| OWk.D ?_
        cases h
        exact ⟨(IntKind.wrap .i64 (y1 + 1)), rfl, by kernel_rfl⟩
    · replace h := bif_f hc h
      refine SW.K [] <| SW.exit <| thenS_e ?_
      cases h
      refine thenS_e ?_
      exact ⟨_, rfl, .inl ⟨(), rfl, rfl, rfl⟩⟩
  · rintro _ _ (⟨v5, rfl, rfl, rfl⟩ | ⟨r6, rfl, rfl, hE⟩)
    · replace h := sum_l h
      refine blockS_hit <| thenS_n <| SW.R 1 [(4, vI (-1))] <| SW.ret ?_
      cases h
      exact EndQ.ret [] (by kernel_rfl) rfl
    · replace h := sum_r h
      refine blockS_r <| thenS_r ?_
      cases h
      exact hE
def slices_ContainsFunc__j_valid_1 (fuel : Nat) (p0 : (List Note)) : Option (Bool) :=
  (slices_IndexFunc__j_valid_1 fuel p0).bind fun r1 =>
  some (decide (r1 ≥ 0))
theorem slices_ContainsFunc__j_valid_1_ok {fuel : Nat} {p0 : (List Note)} {r : Bool} (h : slices_ContainsFunc__j_valid_1 fuel p0 = some r) : PC Try.prog 78 [.d (.list 5 (List.map encNote p0)), .d (.fn (.func 79) [] [])] (vB r) := by
  refine PC.of_SW Try.func78 rfl fun H => ?_
  unfold slices_ContainsFunc__j_valid_1 at h
  refine SW.kp 9 H [0, 1] [(0, Z1 p0), (1, Z28)] (by kernel_rfl) <| SW.R 1 [(0, Z1 p0), (1, Z28)] <| SW.S <| OWk.G 2 [(5, Z1 p0), (6, Z28)] ?_
  obtain ⟨r1, hr, h⟩ := bind_inv h
  refine OWk.C0 (some 7) [(7, vI r1)] (slices_IndexFunc__j_valid_1_ok hr) <| OWk.G 2 [(4, vB (decide (r1 ≥ 0)))] <| OWk.E <| SW.ret ?_
  cases h
  exact EndQ.ret [] (by kernel_rfl) rfl
def j_valid (fuel : Nat) (p0 : (List Note)) : Option (Bool) :=
  bif (decide ((p0.length : Int) ≤ 1000)) then
    (slices_ContainsFunc__j_valid_1 fuel p0).bind fun r1 =>
    some (!r1)
  else
    some false
theorem j_valid_ok {fuel : Nat} {p0 : (List Note)} {r : Bool} (h : j_valid fuel p0 = some r) : PC Try.prog 60 [.d (.list 5 (List.map encNote p0))] (vB r) := by
  refine PC.of_SW Try.func60 rfl fun H => ?_
  unfold j_valid at h
  refine SW.kp 11 H [0] [(0, Z1 p0)] (by kernel_rfl) <| SW.R 1 [(0, Z1 p0)] <| SW.S <| OWk.G 1 [(0, Z1 p0), (3, Z1 p0)] <| OWk.O (d := some 4) [(0, Z1 p0), (4, vI (p0.length : Int))] (BAt.len (enc := encNote) (xs := p0) (by kernel_rfl)) <| OWk.G 2 [(0, Z1 p0), (6, Z27 p0)] ?_
  refine OWk.case (decide ((p0.length : Int) ≤ 1000)) (fun b => (sp 11 [(0, Z1 p0), (6, vB b)] H)) (by kernel_rfl) (fun hc => ?_) (fun hc => ?_)
  · replace h := bif_t hc h
    refine OWk.G 1 [(6, vB true), (7, Z1 p0)] ?_
    obtain ⟨r1, hr, h⟩ := bind_inv h
    refine OWk.C0 (some 8) [(6, vB true), (8, vB r1)] (slices_ContainsFunc__j_valid_1_ok hr) <| OWk.G 3 [(2, vB (!r1))] <| OWk.E <| SW.ret ?_
    cases h
    exact EndQ.ret [] (by kernel_rfl) rfl
  · replace h := bif_f hc h
    refine OWk.G 5 [(2, vB false)] <| OWk.E <| SW.ret ?_
    cases h
    exact EndQ.ret [] (by kernel_rfl) rfl
theorem encNote_np (x : Note) : noPtr (encNote x) = true := by simp [encNote, noPtr, noPtrs]
def j_Wrong_l1 (fuel : Nat) (q3 : (Hp × Nat)) (q26 : (Rng (List UInt8) Bool)) (y27 : Hp) (e28 : ((List UInt8) × Bool)) : Option ((Hp) ⊕ (Empty)) :=
  (hMdel kS (cI .i64) y27 (some q3.2) e28.1).bind fun H29 =>
  chk (holes q26 H29) <|
  some (.inl H29)
noncomputable def j_Wrong_l2 (fuel : Nat) (p0 : (List Note)) (q2 : (Hp × Nat)) (q3 : (Hp × Nat)) (y4 : Int × Hp) : Option ((Int × Hp) ⊕ ((Hp) ⊕ ((Int × Int)))) :=
  bif (decide (y4.1 < (p0.length : Int))) then
    (idx p0 y4.1).bind fun x5 =>
    (hLook (kI .i64) cP y4.2 (some q2.2) x5.Unit).bind fun q6 =>
    bif ((x5.Kind != 6) && (q6.isSome == (x5.Kind == 1))) then
      some (.inr (.inr (y4.1, 9)))
    else
      bif (x5.Kind == 1) then
        (hNew y4.2 (.map [])).bind fun q7 =>
        (hNew q7.1 (.cells [.d (.int .i64 y4.1), .d (.map q7.2)])).bind fun q8 =>
        (hMput (kI .i64) cP q8.1 (some q2.2) x5.Unit (some q8.2)).bind fun H9 =>
        some (.inl ((IntKind.wrap .i64 (y4.1 + 1)), H9))
      else
        letJ (fun (j10 : Bool) =>
          bif j10 then
            letJ (fun (j12 : Unit) =>
              (hLook kS (cI .i64) y4.2 (some q3.2) x5.Key).bind fun q17 =>
              bif (q17.isSome && ((q17.getD 0) != x5.Unit)) then
                some (.inr (.inr (y4.1, 6)))
              else
                (q6.getD none).bind fun i18 =>
                (hGet cM.cell y4.2 i18 1).bind fun x19 =>
                (hMput kS cB y4.2 x19 x5.Key true).bind fun H20 =>
                (hMput kS (cI .i64) H20 (some q3.2) x5.Key x5.Unit).bind fun H21 =>
                some (.inl ((IntKind.wrap .i64 (y4.1 + 1)), H21))) fun jp13 =>
            bif (x5.Kind == 3) then
              (q6.getD none).bind fun i14 =>
              (hGet cM.cell y4.2 i14 1).bind fun x15 =>
              (hLook kS cB y4.2 x15 x5.Key).bind fun q16 =>
              bif (!(q16.getD false)) then
                some (.inr (.inr (y4.1, 8)))
              else
                jp13 ()
            else
              jp13 ()
          else
            letJ (fun (j22 : Bool) =>
              bif j22 then
                (q6.getD none).bind fun i24 =>
                (hGet cM.cell y4.2 i24 1).bind fun x25 =>
                (hRange kS cB y4.2 x25).bind fun q26 =>
                allP q26.es fun p => (foldI (j_Wrong_l1 fuel q3 q26) q26.H p).bind (Sum.elim (fun y30 =>
                  (hBack kS cB q26 y30).bind fun H31 =>
                  (hNew H31 (.map [])).bind fun q32 =>
                  (q6.getD none).bind fun i33 =>
                  (hSet (cI .i64) q32.1 i33 0 y4.1).bind fun H34 =>
                  (q6.getD none).bind fun i35 =>
                  (hSet cM H34 i35 1 (some q32.2)).bind fun H36 =>
                  bif (x5.Kind != 4) then
                    (hMdel (kI .i64) cP H36 (some q2.2) x5.Unit).bind fun H37 =>
                    some (.inl ((IntKind.wrap .i64 (y4.1 + 1)), H37))
                  else
                    some (.inl ((IntKind.wrap .i64 (y4.1 + 1)), H36)))
                  Empty.elim)
              else
                some (.inl ((IntKind.wrap .i64 (y4.1 + 1)), y4.2))) fun jp23 =>
            bif (x5.Kind == 4) then
              jp23 true
            else
              bif (x5.Kind == 5) then
                jp23 true
              else
                jp23 (x5.Kind == 7)) fun jp11 =>
        bif (x5.Kind == 3) then
          jp11 true
        else
          jp11 (x5.Kind == 2)
  else
    some (.inr (.inl y4.2))
noncomputable def j_Wrong (fuel : Nat) (p0 : (List Note)) : Option (Int × Int) :=
  (j_valid fuel p0).bind fun r1 =>
  bif (!r1) then
    some (0, 1)
  else
    (hNew [] (.map [])).bind fun q2 =>
    (hNew q2.1 (.map [])).bind fun q3 =>
    (iter (j_Wrong_l2 fuel p0 q2 q3) fuel (0, q3.1)).bind (Sum.elim (fun v39 =>
      some ((-1), 0)) (fun r40 =>
      some r40))
def Z51 (x0 : (Option (Option Nat))) : SV := .d (cP.enc (x0.getD none))
def Z52 (x0 : (Option (Option Nat))) : SV := .tup [.d (cP.enc (x0.getD none)), vB x0.isSome]
def Z55 (x0 : (Option Int)) : SV := .tup [vI (x0.getD 0), vB x0.isSome]
def Z56 (x0 : Int × Hp) (x1 : (List Note)) : SV := vB (decide (x0.1 < (x1.length : Int)))
def Z57 (x0 : Int × Hp) (x1 : (Hp × Nat)) : SV := .d (.agg [.int .i64 x0.1, .map x1.2])
def Z58 (x0 : Int × Hp) : SV := vI (IntKind.wrap .i64 (x0.1 + 1))
theorem j_Wrong_ok {fuel : Nat} {p0 : (List Note)} {r : Int × Int} (h : j_Wrong fuel p0 = some r) : PC Try.prog 67 [.d (.list 5 (List.map encNote p0))] (.tup [vI r.1, vI r.2]) := by
  refine PC.of_localSW Try.func67 rfl (by simp [noPtrSV, noPtr, noPtrs, vI, vB, vS, noPtrs_map (f := encNote) encNote_np]) (by simp [noPtrSV, noPtr, noPtrs, vI, vB, vS]) ?_
  unfold j_Wrong at h
  refine SW.kp 129 [] [0] [(0, Z1 p0)] (by kernel_rfl) <| SW.seq <| SW.regionK <| OWk.sg 129 [] [] [0] 2 [(0, Z1 p0)] (by kernel_rfl) <| OWk.done (by kernel_rfl) <| thenS_n <| SW.seq <| SW.seq <| SW.regionK <| OWk.sg 129 [] [] [0, 13] 1 [(0, Z1 p0), (13, Z1 p0)] (by kernel_rfl) ?_
  obtain ⟨r1, hr, h⟩ := bind_inv h
  refine OWk.cl 129 [] (d := some 14) (ls := []) (gs := []) [] [0, 14] [(0, Z1 p0), (14, vB r1)] (j_valid_ok hr) (by kernel_rfl) (by kernel_rfl) (by kernel_rfl) <| OWk.sg 129 [] [] [0, 15] 1 [(0, Z1 p0), (15, vB (!r1))] (by kernel_rfl) <| OWk.done (by kernel_rfl) <| thenS_n ?_
  refine SW.condB (b := (!r1)) (by kernel_rfl) (fun hc => ?_) (fun hc => ?_)
  · replace h := bif_t hc h
    refine SW.seq <| SW.regionK <| OWk.sg 129 [] [] [2, 3] 2 [(2, vI 0), (3, vI 1)] (by kernel_rfl) <| OWk.done (by kernel_rfl) <| thenS_n <| SW.ret <| thenS_r ?_
    cases h
    exact EndL.ret [] (by kernel_rfl)
  · replace h := bif_f hc h
    refine SW.skip <| thenS_n <| SW.seq <| SW.regionK ?_
    obtain ⟨q2, hq, h⟩ := bind_inv h
    refine OWk.hnew 129 q2.1 (d := some 16) (b := true) [] [0, 16] [(0, Z1 p0), (16, .d (.map q2.2))] hq (by kernel_rfl) rfl (by kernel_rfl) <| OWk.sg 129 q2.1 [] [0, 4] 1 [(0, Z1 p0), (4, .d (.map q2.2))] (by kernel_rfl) <| OWk.done (by kernel_rfl) <| thenS_n <| SW.seq <| SW.regionK ?_
    obtain ⟨q3, hq, h⟩ := bind_inv h
    refine OWk.hnew 129 q3.1 (d := some 17) (b := true) [] [0, 4, 17] [(0, Z1 p0), (4, .d (.map q2.2)), (17, .d (.map q3.2))] hq (by kernel_rfl) rfl (by kernel_rfl) <| OWk.sg 129 q3.1 [] [0, 4, 5] 1 [(0, Z1 p0), (4, .d (.map q2.2)), (5, .d (.map q3.2))] (by kernel_rfl) <| OWk.done (by kernel_rfl) <| thenS_n <| SW.seq <| SW.seq <| SW.regionK <| OWk.sg 129 q3.1 [] [4, 5, 18] 1 [(4, .d (.map q2.2)), (5, .d (.map q3.2)), (18, Z1 p0)] (by kernel_rfl) <| OWk.on 129 q3.1 (d := some 19) [4, 5, 18, 19] [(4, .d (.map q2.2)), (5, .d (.map q3.2)), (18, Z1 p0), (19, vI (p0.length : Int))] (BAt.len (enc := encNote) (xs := p0) (by kernel_rfl)) (by kernel_rfl) <| OWk.sg 129 q3.1 [] [4, 5, 18, 19, 20] 1 [(4, .d (.map q2.2)), (5, .d (.map q3.2)), (18, Z1 p0), (19, vI (p0.length : Int)), (20, vI 0)] (by kernel_rfl) <| OWk.done (by kernel_rfl) <| thenS_n <| SW.block ?_
    obtain ⟨z38, hit, h⟩ := bind_inv h
    refine SW.itH 129 [4, 5, 18, 19, 20] (fun y4 => [(4, .d (.map q2.2)), (5, .d (.map q3.2)), (18, Z1 p0), (19, vI (p0.length : Int)), (20, vI y4.1)]) (fun y4 => y4.2) (fun b e s => ((∃ v39, b = (.inl v39) ∧ (e = .exit 0 ∧ s = (sp 129 [] v39))) ∨ (∃ r40, b = (.inr r40) ∧ (e = .ret ∧ EndL Try.prog Try.f67.results.toList (.tup [vI r40.1, vI r40.2]) .ret s)))) hit (by kernel_rfl) (fun y4 o h => ?_) ?_
    · unfold j_Wrong_l2 at h
      refine SW.seq <| SW.regionK <| OWk.sg 129 y4.2 [] [4, 5, 18, 19, 20, 21] 1 [(4, .d (.map q2.2)), (5, .d (.map q3.2)), (18, Z1 p0), (19, vI (p0.length : Int)), (20, vI y4.1), (21, Z56 y4 p0)] (by kernel_rfl) <| OWk.done (by kernel_rfl) <| thenS_n <| SW.seq ?_
      refine SW.condB (b := (decide (y4.1 < (p0.length : Int)))) (by kernel_rfl) (fun hc => ?_) (fun hc => ?_)
      · replace h := bif_t hc h
        refine SW.skip <| thenS_n <| SW.seq <| SW.block <| SW.seq <| SW.regionK <| OWk.sg 129 y4.2 [] [4, 5, 18, 19, 20, 22] 1 [(4, .d (.map q2.2)), (5, .d (.map q3.2)), (18, Z1 p0), (19, vI (p0.length : Int)), (20, vI y4.1), (22, vI y4.1)] (by kernel_rfl) ?_
        obtain ⟨x5, hx, h⟩ := bind_inv h
        refine OWk.on 129 y4.2 (d := some 23) (s := lendP none (Go.Sh.D.cells (encNote x5))) [4, 5, 18, 19, 20, 22, 23] [(4, .d (.map q2.2)), (5, .d (.map q3.2)), (18, Z1 p0), (19, vI (p0.length : Int)), (20, vI y4.1), (22, vI y4.1), (23, .d (.dptr [.int .i64 x5.Kind, .int .i64 x5.Unit, .str x5.Key, .bool x5.Has, .str x5.Text]))] (BAt.index (n := 5) hx (by kernel_rfl)) (by kernel_rfl) <| OWk.sg 129 y4.2 [] [4, 5, 6, 7, 18, 19, 20] 4 [(4, .d (.map q2.2)), (5, .d (.map q3.2)), (6, vI y4.1), (7, Z30 x5), (18, Z1 p0), (19, vI (p0.length : Int)), (20, vI y4.1)] (by kernel_rfl) <| OWk.done (by kernel_rfl) <| thenS_n <| SW.seq <| SW.regionK <| OWk.sg 129 y4.2 [] [4, 5, 6, 7, 18, 19, 20, 26, 28] 3 [(4, .d (.map q2.2)), (5, .d (.map q3.2)), (6, vI y4.1), (7, Z30 x5), (18, Z1 p0), (19, vI (p0.length : Int)), (20, vI y4.1), (26, .d (.map q2.2)), (28, vI x5.Unit)] (by kernel_rfl) ?_
        obtain ⟨q6, hq, h⟩ := bind_inv h
        refine OWk.on 129 y4.2 (d := some 29) [4, 5, 6, 7, 18, 19, 20, 29] [(4, .d (.map q2.2)), (5, .d (.map q3.2)), (6, vI y4.1), (7, Z30 x5), (18, Z1 p0), (19, vI (p0.length : Int)), (20, vI y4.1), (29, Z52 q6)] (BAt.look (kc := (kI .i64)) (v := cP) (ok := true) (mm := (some q2.2)) (key := x5.Unit) (z := none) hq (by kernel_rfl)) (by kernel_rfl) <| OWk.sg 129 y4.2 [] [4, 5, 6, 7, 8, 9, 18, 19, 20] 5 [(4, .d (.map q2.2)), (5, .d (.map q3.2)), (6, vI y4.1), (7, Z30 x5), (8, Z51 q6), (9, vB q6.isSome), (18, Z1 p0), (19, vI (p0.length : Int)), (20, vI y4.1)] (by kernel_rfl) <| OWk.done (by kernel_rfl) <| thenS_n <| SW.seq <| SW.seq <| SW.regionK <| OWk.sg 129 y4.2 [] [4, 5, 6, 7, 8, 9, 18, 19, 20, 35] 4 [(4, .d (.map q2.2)), (5, .d (.map q3.2)), (6, vI y4.1), (7, Z30 x5), (8, Z51 q6), (9, vB q6.isSome), (18, Z1 p0), (19, vI (p0.length : Int)), (20, vI y4.1), (35, vB (x5.Kind != 6))] (by kernel_rfl) <| OWk.mg 129 y4.2 [4, 5, 6, 7, 8, 18, 19, 20, 41] 6 (x5.Kind != 6) (fun b => (sp 129 [(4, .d (.map q2.2)), (5, .d (.map q3.2)), (6, vI y4.1), (7, Z30 x5), (8, Z51 q6), (9, vB q6.isSome), (18, Z1 p0), (19, vI (p0.length : Int)), (20, vI y4.1), (35, vB b)] y4.2)) (fun b => [(4, .d (.map q2.2)), (5, .d (.map q3.2)), (6, vI y4.1), (7, Z30 x5), (8, Z51 q6), (18, Z1 p0), (19, vI (p0.length : Int)), (20, vI y4.1), (41, vB (b && (q6.isSome == (x5.Kind == 1))))]) (by kernel_rfl) (by kernel_rfl) (by kernel_rfl) <| OWk.done (by kernel_rfl) <| thenS_n ?_
        refine SW.condB (b := ((x5.Kind != 6) && (q6.isSome == (x5.Kind == 1)))) (by kernel_rfl) (fun hc => ?_) (fun hc => ?_)
        · replace h := bif_t hc h
          refine SW.seq <| SW.regionK <| OWk.sg 129 y4.2 [] [2, 3] 3 [(2, vI y4.1), (3, vI 9)] (by kernel_rfl) <| OWk.done (by kernel_rfl) <| thenS_n <| SW.ret <| thenS_r <| blockS_r <| thenS_r ?_
          cases h
          refine thenS_r ?_
          exact ⟨_, rfl, .inr (⟨(y4.1, 9), rfl, rfl, EndL.ret [] (by kernel_rfl)⟩)⟩
        · replace h := bif_f hc h
          refine SW.skip <| thenS_n <| SW.seq <| SW.regionK <| OWk.sg 129 y4.2 [] [4, 5, 6, 7, 8, 18, 19, 20, 44] 2 [(4, .d (.map q2.2)), (5, .d (.map q3.2)), (6, vI y4.1), (7, Z30 x5), (8, Z51 q6), (18, Z1 p0), (19, vI (p0.length : Int)), (20, vI y4.1), (44, vI x5.Kind)] (by kernel_rfl) <| OWk.done (by kernel_rfl) <| thenS_n <| SW.block <| SW.seq <| SW.regionK <| OWk.sg 129 y4.2 [] [4, 5, 6, 7, 8, 18, 19, 20, 44, 45] 2 [(4, .d (.map q2.2)), (5, .d (.map q3.2)), (6, vI y4.1), (7, Z30 x5), (8, Z51 q6), (18, Z1 p0), (19, vI (p0.length : Int)), (20, vI y4.1), (44, vI x5.Kind), (45, vB (x5.Kind == 1))] (by kernel_rfl) <| OWk.done (by kernel_rfl) <| thenS_n ?_
          refine SW.condB (b := (x5.Kind == 1)) (by kernel_rfl) (fun hc => ?_) (fun hc => ?_)
          · replace h := bif_t hc h
            refine SW.regionK <| OWk.sg 129 y4.2 [] [4, 5, 18, 19, 20, 47, 49, 50] 4 [(4, .d (.map q2.2)), (5, .d (.map q3.2)), (18, Z1 p0), (19, vI (p0.length : Int)), (20, vI y4.1), (47, .d (.map q2.2)), (49, vI x5.Unit), (50, vI y4.1)] (by kernel_rfl) ?_
            obtain ⟨q7, hq, h⟩ := bind_inv h
            refine OWk.hnew 129 q7.1 (d := some 51) (b := true) [] [4, 5, 18, 19, 20, 47, 49, 50, 51] [(4, .d (.map q2.2)), (5, .d (.map q3.2)), (18, Z1 p0), (19, vI (p0.length : Int)), (20, vI y4.1), (47, .d (.map q2.2)), (49, vI x5.Unit), (50, vI y4.1), (51, .d (.map q7.2))] hq (by kernel_rfl) rfl (by kernel_rfl) <| OWk.sg 129 q7.1 [] [4, 5, 18, 19, 20, 47, 49, 52] 1 [(4, .d (.map q2.2)), (5, .d (.map q3.2)), (18, Z1 p0), (19, vI (p0.length : Int)), (20, vI y4.1), (47, .d (.map q2.2)), (49, vI x5.Unit), (52, Z57 y4 q7)] (by kernel_rfl) ?_
            obtain ⟨q8, hq, h⟩ := bind_inv h
            refine OWk.hnew 129 q8.1 (d := some 53) (b := false) [] [4, 5, 18, 19, 20, 47, 49, 53] [(4, .d (.map q2.2)), (5, .d (.map q3.2)), (18, Z1 p0), (19, vI (p0.length : Int)), (20, vI y4.1), (47, .d (.map q2.2)), (49, vI x5.Unit), (53, .d (.ptr q8.2 0))] hq (by kernel_rfl) rfl (by kernel_rfl) ?_
            obtain ⟨H9, hx, h⟩ := bind_inv h
            refine OWk.mput 129 H9 (kc := (kI .i64)) (v := cP) (mm := (some q2.2)) (key := x5.Unit) (y := (some q8.2)) [4, 5, 18, 19, 20] [(4, .d (.map q2.2)), (5, .d (.map q3.2)), (18, Z1 p0), (19, vI (p0.length : Int)), (20, vI y4.1)] hx (by kernel_rfl) (by kernel_rfl) <| OWk.done (by kernel_rfl) <| blockS_n <| blockS_n <| thenS_n <| SW.regionK <| OWk.sg 129 H9 [] [4, 5, 18, 19, 20] 2 [(4, .d (.map q2.2)), (5, .d (.map q3.2)), (18, Z1 p0), (19, vI (p0.length : Int)), (20, Z58 y4)] (by kernel_rfl) <| OWk.done (by kernel_rfl) ?_
            cases h
            exact ⟨((IntKind.wrap .i64 (y4.1 + 1)), H9), rfl, by kernel_rfl⟩
          · replace h := bif_f hc h
            obtain ⟨jp11, hjjp11, h⟩ := letJ_inv h
            refine SW.jn 129 y4.2 [4, 5, 6, 7, 8, 18, 19, 20, 44, 54] (fun (j10 : Bool) => [(4, .d (.map q2.2)), (5, .d (.map q3.2)), (6, vI y4.1), (7, Z30 x5), (8, Z51 q6), (18, Z1 p0), (19, vI (p0.length : Int)), (20, vI y4.1), (44, vI x5.Kind), (54, vB j10)]) (fun v => jp11 v = some o) (fun j10 h => ?_) ?_
            · rw [hjjp11] at h
              refine SW.condB (b := j10) (by kernel_rfl) (fun hc => ?_) (fun hc => ?_)
              · replace h := bif_t hc h
                obtain ⟨jp13, hjjp13, h⟩ := letJ_inv h
                refine SW.jn 129 y4.2 [4, 5, 6, 7, 8, 18, 19, 20] (fun (j12 : Unit) => [(4, .d (.map q2.2)), (5, .d (.map q3.2)), (6, vI y4.1), (7, Z30 x5), (8, Z51 q6), (18, Z1 p0), (19, vI (p0.length : Int)), (20, vI y4.1)]) (fun v => jp13 v = some o) (fun j12 h => ?_) ?_
                · rw [hjjp13] at h
                  refine SW.seq <| SW.seq <| SW.regionK <| OWk.sg 129 y4.2 [] [4, 5, 6, 7, 8, 18, 19, 20, 72, 74] 3 [(4, .d (.map q2.2)), (5, .d (.map q3.2)), (6, vI y4.1), (7, Z30 x5), (8, Z51 q6), (18, Z1 p0), (19, vI (p0.length : Int)), (20, vI y4.1), (72, .d (.map q3.2)), (74, vS x5.Key)] (by kernel_rfl) ?_
                  obtain ⟨q17, hq, h⟩ := bind_inv h
                  refine OWk.on 129 y4.2 (d := some 75) [4, 5, 6, 7, 8, 18, 19, 20, 75] [(4, .d (.map q2.2)), (5, .d (.map q3.2)), (6, vI y4.1), (7, Z30 x5), (8, Z51 q6), (18, Z1 p0), (19, vI (p0.length : Int)), (20, vI y4.1), (75, Z55 q17)] (BAt.look (kc := kS) (v := (cI .i64)) (ok := true) (mm := (some q3.2)) (key := x5.Key) (z := 0) hq (by kernel_rfl)) (by kernel_rfl) <| OWk.sg 129 y4.2 [] [4, 5, 6, 7, 8, 10, 11, 18, 19, 20] 5 [(4, .d (.map q2.2)), (5, .d (.map q3.2)), (6, vI y4.1), (7, Z30 x5), (8, Z51 q6), (10, vI (q17.getD 0)), (11, vB q17.isSome), (18, Z1 p0), (19, vI (p0.length : Int)), (20, vI y4.1)] (by kernel_rfl) <| OWk.done (by kernel_rfl) <| thenS_n <| SW.seq <| SW.regionK <| OWk.sg 129 y4.2 [] [4, 5, 6, 7, 8, 10, 18, 19, 20, 79] 2 [(4, .d (.map q2.2)), (5, .d (.map q3.2)), (6, vI y4.1), (7, Z30 x5), (8, Z51 q6), (10, vI (q17.getD 0)), (18, Z1 p0), (19, vI (p0.length : Int)), (20, vI y4.1), (79, vB q17.isSome)] (by kernel_rfl) <| OWk.mg 129 y4.2 [4, 5, 6, 7, 8, 18, 19, 20, 84] 5 q17.isSome (fun b => (sp 129 [(4, .d (.map q2.2)), (5, .d (.map q3.2)), (6, vI y4.1), (7, Z30 x5), (8, Z51 q6), (10, vI (q17.getD 0)), (18, Z1 p0), (19, vI (p0.length : Int)), (20, vI y4.1), (79, vB b)] y4.2)) (fun b => [(4, .d (.map q2.2)), (5, .d (.map q3.2)), (6, vI y4.1), (7, Z30 x5), (8, Z51 q6), (18, Z1 p0), (19, vI (p0.length : Int)), (20, vI y4.1), (84, vB (b && ((q17.getD 0) != x5.Unit)))]) (by kernel_rfl) (by kernel_rfl) (by kernel_rfl) <| OWk.done (by kernel_rfl) <| thenS_n ?_
                  refine SW.condB (b := (q17.isSome && ((q17.getD 0) != x5.Unit))) (by kernel_rfl) (fun hc => ?_) (fun hc => ?_)
                  · replace h := bif_t hc h
                    refine SW.seq <| SW.regionK <| OWk.sg 129 y4.2 [] [2, 3] 3 [(2, vI y4.1), (3, vI 6)] (by kernel_rfl) <| OWk.done (by kernel_rfl) <| thenS_n <| SW.ret <| thenS_r <| blockS_r <| blockS_r <| thenS_r ?_
                    cases h
                    refine thenS_r ?_
                    exact ⟨_, rfl, .inr (⟨(y4.1, 6), rfl, rfl, EndL.ret [] (by kernel_rfl)⟩)⟩
                  · replace h := bif_f hc h
                    refine SW.skip <| thenS_n <| SW.regionS 129 7 [6, 7, 8, 9, 10] [0, 1, 2, 3, 4, 5] 11 [12, 13, 14] 11 (by kernel_rfl) (by kernel_rfl) (by kernel_rfl) (by kernel_rfl) <| OBk.sg 129 y4.2 [] [4, 5, 7, 18, 19, 20, 86, 92, 94, 96] 6 [(4, .d (.map q2.2)), (5, .d (.map q3.2)), (7, Z30 x5), (18, Z1 p0), (19, vI (p0.length : Int)), (20, vI y4.1), (86, Z51 q6), (92, .d (.map q3.2)), (94, vS x5.Key), (96, vI x5.Unit)] (by kernel_rfl) (by kernel_rfl) ?_
                    obtain ⟨i18, hp, h⟩ := bind_inv h
                    refine OBk.on 129 y4.2 (d := some 87) (s := .d (.ptr i18 0)) [4, 5, 7, 18, 19, 20, 87, 92, 94, 96] [(4, .d (.map q2.2)), (5, .d (.map q3.2)), (7, Z30 x5), (18, Z1 p0), (19, vI (p0.length : Int)), (20, vI y4.1), (87, .d (.ptr i18 0)), (92, .d (.map q3.2)), (94, vS x5.Key), (96, vI x5.Unit)] (by kernel_rfl) (BAt.nilc (p := (q6.getD none)) hp (by kernel_rfl)) (by kernel_rfl) <| OBk.sg 129 y4.2 [] [4, 5, 7, 18, 19, 20, 88, 92, 94, 96] 1 [(4, .d (.map q2.2)), (5, .d (.map q3.2)), (7, Z30 x5), (18, Z1 p0), (19, vI (p0.length : Int)), (20, vI y4.1), (88, .d (.ptr i18 1)), (92, .d (.map q3.2)), (94, vS x5.Key), (96, vI x5.Unit)] (by kernel_rfl) (by kernel_rfl) ?_
                    obtain ⟨x19, hx, h⟩ := bind_inv h
                    refine OBk.on 129 y4.2 (d := some 89) (s := .d (cM.enc x19)) [4, 5, 7, 18, 19, 20, 89, 92, 94, 96] [(4, .d (.map q2.2)), (5, .d (.map q3.2)), (7, Z30 x5), (18, Z1 p0), (19, vI (p0.length : Int)), (20, vI y4.1), (89, .d (cM.enc x19)), (92, .d (.map q3.2)), (94, vS x5.Key), (96, vI x5.Unit)] (by kernel_rfl) (BAt.ldH (c := cM.cell) hx (by kernel_rfl)) (by kernel_rfl) <| OBk.sg 129 y4.2 [] [4, 5, 18, 19, 20, 89, 91, 92, 94, 96] 2 [(4, .d (.map q2.2)), (5, .d (.map q3.2)), (18, Z1 p0), (19, vI (p0.length : Int)), (20, vI y4.1), (89, .d (cM.enc x19)), (91, vS x5.Key), (92, .d (.map q3.2)), (94, vS x5.Key), (96, vI x5.Unit)] (by kernel_rfl) (by kernel_rfl) <| OBk.done (by kernel_rfl) ?_
                    obtain ⟨H20, hx, h⟩ := bind_inv h
                    refine OWk.ment 129 H20 (kc := kS) (v := cB) (mm := x19) (key := x5.Key) (y := true) (z := false) (d1 := 97) (d2 := 98) [4, 5, 18, 19, 20, 92, 94, 96] [(4, .d (.map q2.2)), (5, .d (.map q3.2)), (18, Z1 p0), (19, vI (p0.length : Int)), (20, vI y4.1), (92, .d (.map q3.2)), (94, vS x5.Key), (96, vI x5.Unit)] hx (by kernel_rfl) (by kernel_rfl) ?_
                    obtain ⟨H21, hx, h⟩ := bind_inv h
                    refine OWk.mput 129 H21 (kc := kS) (v := (cI .i64)) (mm := (some q3.2)) (key := x5.Key) (y := x5.Unit) [4, 5, 18, 19, 20] [(4, .d (.map q2.2)), (5, .d (.map q3.2)), (18, Z1 p0), (19, vI (p0.length : Int)), (20, vI y4.1)] hx (by kernel_rfl) (by kernel_rfl) <| OWk.done (by kernel_rfl) <| blockS_n <| blockS_n <| thenS_n <| SW.regionK <| OWk.sg 129 H21 [] [4, 5, 18, 19, 20] 2 [(4, .d (.map q2.2)), (5, .d (.map q3.2)), (18, Z1 p0), (19, vI (p0.length : Int)), (20, Z58 y4)] (by kernel_rfl) <| OWk.done (by kernel_rfl) ?_
                    cases h
                    exact ⟨((IntKind.wrap .i64 (y4.1 + 1)), H21), rfl, by kernel_rfl⟩
                · refine SW.seq <| SW.regionDk (by kernel_rfl) (by kernel_rfl) <| OBk.sg 129 y4.2 [] [4, 5, 6, 7, 8, 18, 19, 20, 60] 4 [(4, .d (.map q2.2)), (5, .d (.map q3.2)), (6, vI y4.1), (7, Z30 x5), (8, Z51 q6), (18, Z1 p0), (19, vI (p0.length : Int)), (20, vI y4.1), (60, vB (x5.Kind == 3))] (by kernel_rfl) (by kernel_rfl) ?_
                  refine OBk.case (x5.Kind == 3) (fun b => (sp 129 [(4, .d (.map q2.2)), (5, .d (.map q3.2)), (6, vI y4.1), (7, Z30 x5), (8, Z51 q6), (18, Z1 p0), (19, vI (p0.length : Int)), (20, vI y4.1), (60, vB b)] y4.2)) (by kernel_rfl) (fun hc => ?_) (fun hc => ?_)
                  · replace h := bif_t hc h
                    refine OBk.sg 129 y4.2 [] [4, 5, 6, 7, 8, 18, 19, 20, 60, 61] 1 [(4, .d (.map q2.2)), (5, .d (.map q3.2)), (6, vI y4.1), (7, Z30 x5), (8, Z51 q6), (18, Z1 p0), (19, vI (p0.length : Int)), (20, vI y4.1), (60, vB true), (61, Z51 q6)] (by kernel_rfl) (by kernel_rfl) ?_
                    obtain ⟨i14, hp, h⟩ := bind_inv h
                    refine OBk.on 129 y4.2 (d := some 62) (s := .d (.ptr i14 0)) [4, 5, 6, 7, 8, 18, 19, 20, 60, 62] [(4, .d (.map q2.2)), (5, .d (.map q3.2)), (6, vI y4.1), (7, Z30 x5), (8, Z51 q6), (18, Z1 p0), (19, vI (p0.length : Int)), (20, vI y4.1), (60, vB true), (62, .d (.ptr i14 0))] (by kernel_rfl) (BAt.nilc (p := (q6.getD none)) hp (by kernel_rfl)) (by kernel_rfl) <| OBk.sg 129 y4.2 [] [4, 5, 6, 7, 8, 18, 19, 20, 60, 63] 1 [(4, .d (.map q2.2)), (5, .d (.map q3.2)), (6, vI y4.1), (7, Z30 x5), (8, Z51 q6), (18, Z1 p0), (19, vI (p0.length : Int)), (20, vI y4.1), (60, vB true), (63, .d (.ptr i14 1))] (by kernel_rfl) (by kernel_rfl) ?_
                    obtain ⟨x15, hx, h⟩ := bind_inv h
                    refine OBk.on 129 y4.2 (d := some 64) (s := .d (cM.enc x15)) [4, 5, 6, 7, 8, 18, 19, 20, 60, 64] [(4, .d (.map q2.2)), (5, .d (.map q3.2)), (6, vI y4.1), (7, Z30 x5), (8, Z51 q6), (18, Z1 p0), (19, vI (p0.length : Int)), (20, vI y4.1), (60, vB true), (64, .d (cM.enc x15))] (by kernel_rfl) (BAt.ldH (c := cM.cell) hx (by kernel_rfl)) (by kernel_rfl) <| OBk.sg 129 y4.2 [] [4, 5, 6, 7, 8, 18, 19, 20, 60, 64, 66] 2 [(4, .d (.map q2.2)), (5, .d (.map q3.2)), (6, vI y4.1), (7, Z30 x5), (8, Z51 q6), (18, Z1 p0), (19, vI (p0.length : Int)), (20, vI y4.1), (60, vB true), (64, .d (cM.enc x15)), (66, vS x5.Key)] (by kernel_rfl) (by kernel_rfl) ?_
                    obtain ⟨q16, hq, h⟩ := bind_inv h
                    refine OBk.on 129 y4.2 (d := some 67) [4, 5, 6, 7, 8, 18, 19, 20, 60, 67] [(4, .d (.map q2.2)), (5, .d (.map q3.2)), (6, vI y4.1), (7, Z30 x5), (8, Z51 q6), (18, Z1 p0), (19, vI (p0.length : Int)), (20, vI y4.1), (60, vB true), (67, vB (q16.getD false))] (by kernel_rfl) (BAt.look (kc := kS) (v := cB) (ok := false) (mm := x15) (key := x5.Key) (z := false) hq (by kernel_rfl)) (by kernel_rfl) <| OBk.sg 129 y4.2 [] [4, 5, 6, 7, 8, 18, 19, 20, 69] 2 [(4, .d (.map q2.2)), (5, .d (.map q3.2)), (6, vI y4.1), (7, Z30 x5), (8, Z51 q6), (18, Z1 p0), (19, vI (p0.length : Int)), (20, vI y4.1), (69, vB (!(q16.getD false)))] (by kernel_rfl) (by kernel_rfl) <| OBk.done (by kernel_rfl) <| thenS_n ?_
                    refine SW.condB (b := (!(q16.getD false))) (by kernel_rfl) (fun hc => ?_) (fun hc => ?_)
                    · replace h := bif_t hc h
                      refine SW.seq <| SW.regionK <| OWk.sg 129 y4.2 [] [2, 3] 3 [(2, vI y4.1), (3, vI 8)] (by kernel_rfl) <| OWk.done (by kernel_rfl) <| thenS_n <| SW.ret <| thenS_r <| blockS_r <| blockS_r <| thenS_r ?_
                      cases h
                      refine thenS_r ?_
                      exact ⟨_, rfl, .inr (⟨(y4.1, 8), rfl, rfl, EndL.ret [] (by kernel_rfl)⟩)⟩
                    · replace h := bif_f hc h
                      refine SW.skip ?_
                      exact ⟨(), [], by kernel_rfl, h⟩
                  · replace h := bif_f hc h
                    refine OBk.sg 129 y4.2 [] [4, 5, 6, 7, 8, 18, 19, 20, 69] 9 [(4, .d (.map q2.2)), (5, .d (.map q3.2)), (6, vI y4.1), (7, Z30 x5), (8, Z51 q6), (18, Z1 p0), (19, vI (p0.length : Int)), (20, vI y4.1), (69, vB false)] (by kernel_rfl) (by kernel_rfl) <| OBk.done (by kernel_rfl) <| thenS_n <| SW.condF (by kernel_rfl) <| SW.skip ?_
                    exact ⟨(), [], by kernel_rfl, h⟩
              · replace h := bif_f hc h
                obtain ⟨jp23, hjjp23, h⟩ := letJ_inv h
                refine SW.jn 129 y4.2 [4, 5, 6, 7, 8, 18, 19, 20, 99] (fun (j22 : Bool) => [(4, .d (.map q2.2)), (5, .d (.map q3.2)), (6, vI y4.1), (7, Z30 x5), (8, Z51 q6), (18, Z1 p0), (19, vI (p0.length : Int)), (20, vI y4.1), (99, vB j22)]) (fun v => jp23 v = some o) (fun j22 h => ?_) ?_
                · rw [hjjp23] at h
                  refine SW.condB (b := j22) (by kernel_rfl) (fun hc => ?_) (fun hc => ?_)
                  · replace h := bif_t hc h
                    refine SW.seq <| SW.seq <| SW.regionK <| OWk.sg 129 y4.2 [] [4, 5, 6, 7, 8, 18, 19, 20, 103] 1 [(4, .d (.map q2.2)), (5, .d (.map q3.2)), (6, vI y4.1), (7, Z30 x5), (8, Z51 q6), (18, Z1 p0), (19, vI (p0.length : Int)), (20, vI y4.1), (103, Z51 q6)] (by kernel_rfl) ?_
                    obtain ⟨i24, hp, h⟩ := bind_inv h
                    refine OWk.on 129 y4.2 (d := some 104) (s := .d (.ptr i24 0)) [4, 5, 6, 7, 8, 18, 19, 20, 104] [(4, .d (.map q2.2)), (5, .d (.map q3.2)), (6, vI y4.1), (7, Z30 x5), (8, Z51 q6), (18, Z1 p0), (19, vI (p0.length : Int)), (20, vI y4.1), (104, .d (.ptr i24 0))] (BAt.nilc (p := (q6.getD none)) hp (by kernel_rfl)) (by kernel_rfl) <| OWk.sg 129 y4.2 [] [4, 5, 6, 7, 8, 18, 19, 20, 105] 1 [(4, .d (.map q2.2)), (5, .d (.map q3.2)), (6, vI y4.1), (7, Z30 x5), (8, Z51 q6), (18, Z1 p0), (19, vI (p0.length : Int)), (20, vI y4.1), (105, .d (.ptr i24 1))] (by kernel_rfl) ?_
                    obtain ⟨x25, hx, h⟩ := bind_inv h
                    refine OWk.on 129 y4.2 (d := some 106) (s := .d (cM.enc x25)) [4, 5, 6, 7, 8, 18, 19, 20, 106] [(4, .d (.map q2.2)), (5, .d (.map q3.2)), (6, vI y4.1), (7, Z30 x5), (8, Z51 q6), (18, Z1 p0), (19, vI (p0.length : Int)), (20, vI y4.1), (106, .d (cM.enc x25))] (BAt.ldH (c := cM.cell) hx (by kernel_rfl)) (by kernel_rfl) ?_
                    obtain ⟨q26, hrq, h⟩ := bind_inv h
                    refine OWk.mrange 129 (mm := x25) (d := some 107) hrq (by kernel_rfl) [4, 5, 6, 7, 8, 18, 19, 20, 107] [(4, .d (.map q2.2)), (5, .d (.map q3.2)), (6, vI y4.1), (7, Z30 x5), (8, Z51 q6), (18, Z1 p0), (19, vI (p0.length : Int)), (20, vI y4.1), (107, .d (.ptr q26.it 0))] (fun H1 => by kernel_rfl) (fun kbq26 clq26 msq26 => ?_)
                    refine OWk.done (by kernel_rfl) <| thenS_n <| SW.block ?_
                    have hit := fun p (hp : p.Perm q26.es) => bind_inv (allP_inv h p hp)
                    refine SW.rng 129 (B := 3) (B2 := 4) (q := q26) (kc := kS) (v := cB) (kb := kbq26) (clock := clq26) (ms := msq26) [4, 5, 6, 7, 8, 18, 19, 20, 107] (fun (y27 : Hp) => [(4, .d (.map q2.2)), (5, .d (.map q3.2)), (6, vI y4.1), (7, Z30 x5), (8, Z51 q6), (18, Z1 p0), (19, vI (p0.length : Int)), (20, vI y4.1), (107, .d (.ptr q26.it 0))]) (fun (y27 : Hp) => y27) (j_Wrong_l1 fuel q3 q26) q26.H _ (fun b e s => False) hrq hit (by kernel_rfl) rfl rfl rfl rfl rfl rfl rfl rfl rfl rfl rfl (fun _ => by kernel_rfl) (fun _ => by kernel_rfl) (fun y27 e28 o hho h => ?_) (fun y30 hC => ?_) ?_
                    · unfold j_Wrong_l1 at h
                      refine OWk.sg 129 y27 [] [4, 5, 6, 7, 8, 12, 18, 19, 20, 107] 2 [(4, .d (.map q2.2)), (5, .d (.map q3.2)), (6, vI y4.1), (7, Z30 x5), (8, Z51 q6), (12, vS e28.1), (18, Z1 p0), (19, vI (p0.length : Int)), (20, vI y4.1), (107, .d (.ptr q26.it 0))] (by kernel_rfl) <| OWk.done (by kernel_rfl) <| thenS_n <| SW.regionK <| OWk.sg 129 y27 [] [4, 5, 6, 7, 8, 18, 19, 20, 107, 112, 113] 2 [(4, .d (.map q2.2)), (5, .d (.map q3.2)), (6, vI y4.1), (7, Z30 x5), (8, Z51 q6), (18, Z1 p0), (19, vI (p0.length : Int)), (20, vI y4.1), (107, .d (.ptr q26.it 0)), (112, .d (.map q3.2)), (113, vS e28.1)] (by kernel_rfl) ?_
                      obtain ⟨H29, hx, h⟩ := bind_inv h
                      refine OWk.mdel 129 H29 (kc := kS) (v := (cI .i64)) (mm := (some q3.2)) (key := e28.1) (d := none) [4, 5, 6, 7, 8, 18, 19, 20, 107] [(4, .d (.map q2.2)), (5, .d (.map q3.2)), (6, vI y4.1), (7, Z30 x5), (8, Z51 q6), (18, Z1 p0), (19, vI (p0.length : Int)), (20, vI y4.1), (107, .d (.ptr q26.it 0))] hx (by kernel_rfl) (by kernel_rfl) <| OWk.done (by kernel_rfl) <| blockS_n ?_
                      obtain ⟨hho, h⟩ := chk_inv h
                      cases h
                      exact ⟨H29, rfl, hho, by kernel_rfl⟩
                    · replace hC := sum_l hC
                      obtain ⟨H31, hb, h⟩ := bind_inv hC
                      refine ⟨H31, hb, ?_⟩
                      refine blockS_hit <| thenS_n <| SW.seq <| SW.regionK <| OWk.sg 129 H31 [] [4, 5, 7, 18, 19, 20, 114, 115, 116] 3 [(4, .d (.map q2.2)), (5, .d (.map q3.2)), (7, Z30 x5), (18, Z1 p0), (19, vI (p0.length : Int)), (20, vI y4.1), (114, Z51 q6), (115, Z51 q6), (116, vI y4.1)] (by kernel_rfl) ?_
                      obtain ⟨q32, hq, h⟩ := bind_inv h
                      refine OWk.hnew 129 q32.1 (d := some 117) (b := true) [] [4, 5, 7, 18, 19, 20, 114, 115, 116, 117] [(4, .d (.map q2.2)), (5, .d (.map q3.2)), (7, Z30 x5), (18, Z1 p0), (19, vI (p0.length : Int)), (20, vI y4.1), (114, Z51 q6), (115, Z51 q6), (116, vI y4.1), (117, .d (.map q32.2))] hq (by kernel_rfl) rfl (by kernel_rfl) ?_
                      obtain ⟨i33, hp, h⟩ := bind_inv h
                      refine OWk.on 129 q32.1 (d := some 118) (s := .d (.ptr i33 0)) [4, 5, 7, 18, 19, 20, 115, 116, 117, 118] [(4, .d (.map q2.2)), (5, .d (.map q3.2)), (7, Z30 x5), (18, Z1 p0), (19, vI (p0.length : Int)), (20, vI y4.1), (115, Z51 q6), (116, vI y4.1), (117, .d (.map q32.2)), (118, .d (.ptr i33 0))] (BAt.nilc (p := (q6.getD none)) hp (by kernel_rfl)) (by kernel_rfl) <| OWk.sg 129 q32.1 [] [4, 5, 7, 18, 19, 20, 115, 116, 117, 119] 1 [(4, .d (.map q2.2)), (5, .d (.map q3.2)), (7, Z30 x5), (18, Z1 p0), (19, vI (p0.length : Int)), (20, vI y4.1), (115, Z51 q6), (116, vI y4.1), (117, .d (.map q32.2)), (119, .d (.ptr i33 0))] (by kernel_rfl) ?_
                      obtain ⟨H34, hx, h⟩ := bind_inv h
                      refine OWk.hst 129 H34 [4, 5, 7, 18, 19, 20, 115, 117] [(4, .d (.map q2.2)), (5, .d (.map q3.2)), (7, Z30 x5), (18, Z1 p0), (19, vI (p0.length : Int)), (20, vI y4.1), (115, Z51 q6), (117, .d (.map q32.2))] hx (by kernel_rfl) (by kernel_rfl) ?_
                      obtain ⟨i35, hp, h⟩ := bind_inv h
                      refine OWk.on 129 H34 (d := some 120) (s := .d (.ptr i35 0)) [4, 5, 7, 18, 19, 20, 117, 120] [(4, .d (.map q2.2)), (5, .d (.map q3.2)), (7, Z30 x5), (18, Z1 p0), (19, vI (p0.length : Int)), (20, vI y4.1), (117, .d (.map q32.2)), (120, .d (.ptr i35 0))] (BAt.nilc (p := (q6.getD none)) hp (by kernel_rfl)) (by kernel_rfl) <| OWk.sg 129 H34 [] [4, 5, 7, 18, 19, 20, 117, 121] 1 [(4, .d (.map q2.2)), (5, .d (.map q3.2)), (7, Z30 x5), (18, Z1 p0), (19, vI (p0.length : Int)), (20, vI y4.1), (117, .d (.map q32.2)), (121, .d (.ptr i35 1))] (by kernel_rfl) ?_
                      obtain ⟨H36, hx, h⟩ := bind_inv h
                      refine OWk.hst 129 H36 [4, 5, 7, 18, 19, 20] [(4, .d (.map q2.2)), (5, .d (.map q3.2)), (7, Z30 x5), (18, Z1 p0), (19, vI (p0.length : Int)), (20, vI y4.1)] hx (by kernel_rfl) (by kernel_rfl) <| OWk.done (by kernel_rfl) <| thenS_n <| SW.seq <| SW.regionK <| OWk.sg 129 H36 [] [4, 5, 7, 18, 19, 20, 124] 3 [(4, .d (.map q2.2)), (5, .d (.map q3.2)), (7, Z30 x5), (18, Z1 p0), (19, vI (p0.length : Int)), (20, vI y4.1), (124, vB (x5.Kind != 4))] (by kernel_rfl) <| OWk.done (by kernel_rfl) <| thenS_n ?_
                      refine SW.condB (b := (x5.Kind != 4)) (by kernel_rfl) (fun hc => ?_) (fun hc => ?_)
                      · replace h := bif_t hc h
                        refine SW.regionK <| OWk.sg 129 H36 [] [4, 5, 18, 19, 20, 125, 127] 3 [(4, .d (.map q2.2)), (5, .d (.map q3.2)), (18, Z1 p0), (19, vI (p0.length : Int)), (20, vI y4.1), (125, .d (.map q2.2)), (127, vI x5.Unit)] (by kernel_rfl) ?_
                        obtain ⟨H37, hx, h⟩ := bind_inv h
                        refine OWk.mdel 129 H37 (kc := (kI .i64)) (v := cP) (mm := (some q2.2)) (key := x5.Unit) (d := none) [4, 5, 18, 19, 20] [(4, .d (.map q2.2)), (5, .d (.map q3.2)), (18, Z1 p0), (19, vI (p0.length : Int)), (20, vI y4.1)] hx (by kernel_rfl) (by kernel_rfl) <| OWk.done (by kernel_rfl) <| blockS_n <| blockS_n <| thenS_n <| SW.regionK <| OWk.sg 129 H37 [] [4, 5, 18, 19, 20] 2 [(4, .d (.map q2.2)), (5, .d (.map q3.2)), (18, Z1 p0), (19, vI (p0.length : Int)), (20, Z58 y4)] (by kernel_rfl) <| OWk.done (by kernel_rfl) ?_
                        cases h
                        exact ⟨((IntKind.wrap .i64 (y4.1 + 1)), H37), rfl, by kernel_rfl⟩
                      · replace h := bif_f hc h
                        refine SW.skip <| blockS_n <| blockS_n <| thenS_n <| SW.regionK <| OWk.sg 129 H36 [] [4, 5, 18, 19, 20] 2 [(4, .d (.map q2.2)), (5, .d (.map q3.2)), (18, Z1 p0), (19, vI (p0.length : Int)), (20, Z58 y4)] (by kernel_rfl) <| OWk.done (by kernel_rfl) ?_
                        cases h
                        exact ⟨((IntKind.wrap .i64 (y4.1 + 1)), H36), rfl, by kernel_rfl⟩
                    · exact fun b => b.elim
                  · replace h := bif_f hc h
                    refine SW.skip <| blockS_n <| blockS_n <| thenS_n <| SW.regionK <| OWk.sg 129 y4.2 [] [4, 5, 18, 19, 20] 2 [(4, .d (.map q2.2)), (5, .d (.map q3.2)), (18, Z1 p0), (19, vI (p0.length : Int)), (20, Z58 y4)] (by kernel_rfl) <| OWk.done (by kernel_rfl) ?_
                    cases h
                    exact ⟨((IntKind.wrap .i64 (y4.1 + 1)), y4.2), rfl, by kernel_rfl⟩
                · refine SW.seq <| SW.regionK <| OWk.sg 129 y4.2 [] [4, 5, 6, 7, 8, 18, 19, 20, 44, 99] 2 [(4, .d (.map q2.2)), (5, .d (.map q3.2)), (6, vI y4.1), (7, Z30 x5), (8, Z51 q6), (18, Z1 p0), (19, vI (p0.length : Int)), (20, vI y4.1), (44, vI x5.Kind), (99, vB (x5.Kind == 4))] (by kernel_rfl) <| OWk.done (by kernel_rfl) <| thenS_n ?_
                  refine SW.case (x5.Kind == 4) (fun b => (sp 129 [(4, .d (.map q2.2)), (5, .d (.map q3.2)), (6, vI y4.1), (7, Z30 x5), (8, Z51 q6), (18, Z1 p0), (19, vI (p0.length : Int)), (20, vI y4.1), (44, vI x5.Kind), (99, vB b)] y4.2)) (by kernel_rfl) (fun hc => ?_) (fun hc => ?_)
                  · replace h := bif_t hc h
                    refine SW.condT (by kernel_rfl) <| SW.skip ?_
                    exact ⟨true, [], by kernel_rfl, h⟩
                  · replace h := bif_f hc h
                    refine SW.condF (by kernel_rfl) <| SW.seq <| SW.regionK <| OWk.sg 129 y4.2 [] [4, 5, 6, 7, 8, 18, 19, 20, 44, 99] 2 [(4, .d (.map q2.2)), (5, .d (.map q3.2)), (6, vI y4.1), (7, Z30 x5), (8, Z51 q6), (18, Z1 p0), (19, vI (p0.length : Int)), (20, vI y4.1), (44, vI x5.Kind), (99, vB (x5.Kind == 5))] (by kernel_rfl) <| OWk.done (by kernel_rfl) <| thenS_n ?_
                    refine SW.case (x5.Kind == 5) (fun b => (sp 129 [(4, .d (.map q2.2)), (5, .d (.map q3.2)), (6, vI y4.1), (7, Z30 x5), (8, Z51 q6), (18, Z1 p0), (19, vI (p0.length : Int)), (20, vI y4.1), (44, vI x5.Kind), (99, vB b)] y4.2)) (by kernel_rfl) (fun hc => ?_) (fun hc => ?_)
                    · replace h := bif_t hc h
                      refine SW.condT (by kernel_rfl) <| SW.skip ?_
                      exact ⟨true, [], by kernel_rfl, h⟩
                    · replace h := bif_f hc h
                      refine SW.condF (by kernel_rfl) <| SW.regionK <| OWk.sg 129 y4.2 [] [4, 5, 6, 7, 8, 18, 19, 20, 99] 2 [(4, .d (.map q2.2)), (5, .d (.map q3.2)), (6, vI y4.1), (7, Z30 x5), (8, Z51 q6), (18, Z1 p0), (19, vI (p0.length : Int)), (20, vI y4.1), (99, vB (x5.Kind == 7))] (by kernel_rfl) <| OWk.done (by kernel_rfl) ?_
                      exact ⟨(x5.Kind == 7), [], by kernel_rfl, h⟩
            · refine SW.seq <| SW.regionK <| OWk.sg 129 y4.2 [] [4, 5, 6, 7, 8, 18, 19, 20, 44, 54] 2 [(4, .d (.map q2.2)), (5, .d (.map q3.2)), (6, vI y4.1), (7, Z30 x5), (8, Z51 q6), (18, Z1 p0), (19, vI (p0.length : Int)), (20, vI y4.1), (44, vI x5.Kind), (54, vB (x5.Kind == 3))] (by kernel_rfl) <| OWk.done (by kernel_rfl) <| thenS_n ?_
              refine SW.case (x5.Kind == 3) (fun b => (sp 129 [(4, .d (.map q2.2)), (5, .d (.map q3.2)), (6, vI y4.1), (7, Z30 x5), (8, Z51 q6), (18, Z1 p0), (19, vI (p0.length : Int)), (20, vI y4.1), (44, vI x5.Kind), (54, vB b)] y4.2)) (by kernel_rfl) (fun hc => ?_) (fun hc => ?_)
              · replace h := bif_t hc h
                refine SW.condT (by kernel_rfl) <| SW.skip ?_
                exact ⟨true, [], by kernel_rfl, h⟩
              · replace h := bif_f hc h
                refine SW.condF (by kernel_rfl) <| SW.regionK <| OWk.sg 129 y4.2 [] [4, 5, 6, 7, 8, 18, 19, 20, 44, 54] 2 [(4, .d (.map q2.2)), (5, .d (.map q3.2)), (6, vI y4.1), (7, Z30 x5), (8, Z51 q6), (18, Z1 p0), (19, vI (p0.length : Int)), (20, vI y4.1), (44, vI x5.Kind), (54, vB (x5.Kind == 2))] (by kernel_rfl) <| OWk.done (by kernel_rfl) ?_
                exact ⟨(x5.Kind == 2), [], by kernel_rfl, h⟩
      · replace h := bif_f hc h
        refine SW.kp 129 y4.2 [] [] (by kernel_rfl) <| SW.exit <| thenS_e ?_
        cases h
        refine thenS_e ?_
        exact ⟨_, rfl, .inl ⟨y4.2, rfl, rfl, rfl⟩⟩
    · rintro _ _ (⟨v39, rfl, rfl, rfl⟩ | ⟨r40, rfl, rfl, hE⟩)
      · replace h := sum_l h
        refine blockS_hit <| thenS_n <| SW.seq <| SW.regionK <| OWk.sg 129 v39 [] [2, 3] 2 [(2, vI (-1)), (3, vI 0)] (by kernel_rfl) <| OWk.done (by kernel_rfl) <| thenS_n <| SW.ret ?_
        cases h
        exact EndL.ret [] (by kernel_rfl)
      · replace h := sum_r h
        refine blockS_r <| thenS_r ?_
        cases h
        exact hE
noncomputable def j_right (fuel : Nat) (p0 : (List Note)) : Option (Int) :=
  (j_Wrong fuel p0).bind fun r1 =>
  bif (r1.2 == 0) then
    some r1.2
  else
    bif (r1.2 == 1) then
      some r1.2
    else
      some 9
theorem j_right_ok {fuel : Nat} {p0 : (List Note)} {r : Int} (h : j_right fuel p0 = some r) : PC Try.prog 40 [.d (.list 5 (List.map encNote p0))] (vI r) := by
  refine PC.of_SW Try.func40 rfl fun H => ?_
  unfold j_right at h
  refine SW.kp 15 H [0] [(0, Z1 p0)] (by kernel_rfl) <| SW.R 1 [(0, Z1 p0)] <| SW.S <| OWk.G 1 [(6, Z1 p0)] ?_
  obtain ⟨r1, hr, h⟩ := bind_inv h
  refine OWk.C0 (some 7) [(7, .tup [vI r1.1, vI r1.2])] (j_Wrong_ok hr) <| OWk.G 5 [(4, vI r1.2)] <| OWk.E <| SW.seq <| SW.R 1 [(4, vI r1.2), (10, vI r1.2)] <| SW.block <| SW.seq <| SW.R 1 [(4, vI r1.2), (10, vI r1.2), (11, vB (r1.2 == 0))] ?_
  refine SW.case (r1.2 == 0) (fun b => (sp 15 [(4, vI r1.2), (10, vI r1.2), (11, vB b)] H)) (by kernel_rfl) (fun hc => ?_) (fun hc => ?_)
  · replace h := bif_t hc h
    refine SW.condT (by kernel_rfl) <| SW.skip <| thenS_n <| SW.condT (by kernel_rfl) <| SW.R 1 [(2, vI r1.2)] <| SW.ret <| blockS_r <| thenS_r ?_
    cases h
    exact EndQ.ret [] (by kernel_rfl) rfl
  · replace h := bif_f hc h
    refine SW.condF (by kernel_rfl) <| SW.regionK <| OWk.G 2 [(4, vI r1.2), (11, vB (r1.2 == 1))] <| OWk.E ?_
    refine SW.B (r1.2 == 1) (fun hc => ?_) (fun hc => ?_)
    · replace h := bif_t hc h
      refine SW.R 1 [(2, vI r1.2)] <| SW.ret <| blockS_r <| thenS_r ?_
      cases h
      exact EndQ.ret [] (by kernel_rfl) rfl
    · replace h := bif_f hc h
      refine SW.skip <| blockS_n <| thenS_n <| SW.R 1 [(2, vI 9)] <| SW.ret ?_
      cases h
      exact EndQ.ret [] (by kernel_rfl) rfl
def slices_Reverse_l1 (fuel : Nat) (y1 : (List Image) × Int × Int) : Option (((List Image) × Int × Int) ⊕ ((List Image))) :=
  bif (decide (y1.2.1 < y1.2.2)) then
    (idx y1.1 y1.2.2).bind fun x2 =>
    (idx y1.1 y1.2.1).bind fun x3 =>
    (idx y1.1 y1.2.1).bind fun x4 =>
    chk (decide ((Int.toNat y1.2.1) < y1.1.length)) <|
    (idx (List.set y1.1 (Int.toNat y1.2.1) x2) y1.2.2).bind fun x5 =>
    chk (decide ((Int.toNat y1.2.2) < (List.set y1.1 (Int.toNat y1.2.1) x2).length)) <|
    some (.inl ((List.set (List.set y1.1 (Int.toNat y1.2.1) x2) (Int.toNat y1.2.2) x3), (IntKind.wrap .i64 (y1.2.1 + 1)), (IntKind.wrap .i64 (y1.2.2 - 1))))
  else
    some (.inr y1.1)
def slices_Reverse (fuel : Nat) (p0 : (List Image)) : Option ((List Image)) :=
  (iter (slices_Reverse_l1 fuel) fuel (p0, 0, (IntKind.wrap .i64 ((p0.length : Int) - 1)))).bind fun v7 =>
  some v7
def Z59 (x0 : Int) (x1 : (List Note)) : SV := vB (decide (x0 > (x1.length : Int)))
def Z60 (x0 : (List Note)) : SV := vI (IntKind.wrap .i64 ((x0.length : Int) - 1))
def Z63 (x0 : Note) : SV := .own 3 (List.map encImage [(⟨x0.Key, x0.Has, x0.Text⟩ : Image)])
def Z65 (x0 : (List Image) × Int × Hp) : SV := .own 3 (List.map encImage x0.1)
def Z66 (x0 : (List Image) × Int × Hp) (x1 : Int) : SV := vB (decide (x0.2.1 ≥ x1))
def Z67 (x0 : (List Image) × Int × Hp) : SV := vI (IntKind.wrap .i64 (x0.2.1 - 1))
def Z68 (x0 : (List Image) × Int × Hp) (x1 : Note) : SV := .own 3 (List.map encImage (x0.1 ++ [(⟨x1.Key, x1.Has, x1.Text⟩ : Image)]))
def Z69 (x0 : (List Image)) : SV := .lent (.slot 0) 3 (List.map encImage x0)
def Z70 (x0 : (List Image)) : SV := vI (IntKind.wrap .i64 ((x0.length : Int) - 1))
def Z74 (x0 : (List Image) × Int × Int) : SV := vB (decide (x0.2.1 < x0.2.2))
def Z75 (x0 : (List Image) × Int × Int) : SV := .lent (.slot 0) 3 (List.map encImage x0.1)
def Z76 (x0 : (List Image) × Int × Int) : SV := vI (IntKind.wrap .i64 (x0.2.1 + 1))
def Z77 (x0 : (List Image) × Int × Int) : SV := vI (IntKind.wrap .i64 (x0.2.2 - 1))
def Z78 (x0 : (List Image) × Int × Int) : SV := .ep 0 3 (Int.toNat x0.2.2)
def Z79 (x0 : (List Image) × Int × Int) : SV := .ep 0 3 (Int.toNat x0.2.1)
theorem slices_Reverse_ok {fuel : Nat} {p0 : (List Image)} {r : (List Image)} (h : slices_Reverse fuel p0 = some r) : IC Try.prog 38 3 (List.map encImage p0) (List.map encImage r) := by
  refine IC.of_SW Try.func38 rfl rfl fun H v => ?_
  unfold slices_Reverse at h
  refine SW.kp 28 H [0] [(0, .pin v 3 (List.map encImage p0))] (by kernel_rfl) <| SW.S <| OWk.G 1 [(0, .pin v 3 (List.map encImage p0)), (4, Z69 p0)] <| OWk.O (d := some 5) [(0, .pin v 3 (List.map encImage p0)), (5, vI (p0.length : Int))] (BAt.len (enc := encImage) (xs := p0) (by kernel_rfl)) <| OWk.G 3 [(0, .pin v 3 (List.map encImage p0)), (2, vI 0), (3, Z70 p0)] <| OWk.E <| SW.block ?_
  obtain ⟨v7, hit, h⟩ := bind_inv h
  refine SW.it 28 H [0, 2, 3] (fun y1 => [(0, .pin v 3 (List.map encImage y1.1)), (2, vI y1.2.1), (3, vI y1.2.2)]) (fun v7 e s => (e = .exit 0 ∧ s = (sp 28 [(0, .pin v 3 (List.map encImage v7))] H))) hit (by kernel_rfl) (fun y1 o h => ?_) ?_
  · unfold slices_Reverse_l1 at h
    refine SW.seq <| SW.R 1 [(0, .pin v 3 (List.map encImage y1.1)), (2, vI y1.2.1), (3, vI y1.2.2), (9, Z74 y1)] ?_
    refine SW.B (decide (y1.2.1 < y1.2.2)) (fun hc => ?_) (fun hc => ?_)
    · replace h := bif_t hc h
      refine SW.skip <| thenS_n <| SW.seq <| SW.block <| SW.regionM [2, 3] [0, 1, 4, 5, 6, 7, 8, 9, 10, 11, 12] 13 [14, 15] 13 (by kernel_rfl) (by kernel_rfl) (by kernel_rfl) <| OBk.O (d := some 16) (s := .als 0) [(0, .pin v 3 (List.map encImage y1.1)), (2, vI y1.2.1), (3, vI y1.2.2), (16, .als 0)] (BAt.als (s := 0) (by kernel_rfl)) <| OBk.G 1 [(0, .pin v 3 (List.map encImage y1.1)), (2, vI y1.2.1), (3, vI y1.2.2), (16, .als 0), (17, vI y1.2.2)] <| OBk.O (d := some 14) (s := .als 0) [(0, .pin v 3 (List.map encImage y1.1)), (2, vI y1.2.1), (3, vI y1.2.2), (14, .als 0), (16, .als 0), (17, vI y1.2.2)] (BAt.als (s := 0) (by kernel_rfl)) <| OBk.G 3 [(0, .pin v 3 (List.map encImage y1.1)), (2, vI y1.2.1), (3, vI y1.2.2), (14, .als 0), (15, vI y1.2.1), (16, .als 0), (17, vI y1.2.2), (18, Z75 y1), (19, vI y1.2.2)] ?_
      obtain ⟨x2, hx, h⟩ := bind_inv h
      refine OBk.O (d := some 20) (s := lendP (some (.slot 0)) (Go.Sh.D.cells (encImage x2))) [(0, .pin v 3 (List.map encImage y1.1)), (2, vI y1.2.1), (3, vI y1.2.2), (14, .als 0), (15, vI y1.2.1), (16, .als 0), (17, vI y1.2.2), (20, .lptr (.slot 0) [.str x2.Key, .bool x2.Has, .str x2.Text])] (BAt.index (n := 3) hx (by kernel_rfl)) <| OBk.G 3 [(0, .pin v 3 (List.map encImage y1.1)), (2, vI y1.2.1), (3, vI y1.2.2), (14, .als 0), (15, vI y1.2.1), (16, .als 0), (17, vI y1.2.2), (21, Z16 x2), (22, Z75 y1), (23, vI y1.2.1)] ?_
      obtain ⟨x3, hx, h⟩ := bind_inv h
      refine OBk.O (d := some 24) (s := lendP (some (.slot 0)) (Go.Sh.D.cells (encImage x3))) [(0, .pin v 3 (List.map encImage y1.1)), (2, vI y1.2.1), (3, vI y1.2.2), (14, .als 0), (15, vI y1.2.1), (16, .als 0), (17, vI y1.2.2), (21, Z16 x2), (24, .lptr (.slot 0) [.str x3.Key, .bool x3.Has, .str x3.Text])] (BAt.index (n := 3) hx (by kernel_rfl)) <| OBk.G 1 [(0, .pin v 3 (List.map encImage y1.1)), (2, vI y1.2.1), (3, vI y1.2.2), (14, .als 0), (15, vI y1.2.1), (16, .als 0), (17, vI y1.2.2), (21, Z16 x2), (25, Z16 x3)] ?_
      obtain ⟨x4, hx, h⟩ := bind_inv h
      refine OBk.O (d := some 26) (s := .ep 0 3 (Int.toNat y1.2.1)) [(0, .pin v 3 (List.map encImage y1.1)), (2, vI y1.2.1), (3, vI y1.2.2), (16, .als 0), (17, vI y1.2.2), (21, Z16 x2), (25, Z16 x3), (26, Z79 y1)] (BAt.ep (enc := encImage) (xs := y1.1) hx (by kernel_rfl)) <| OBk.done (by kernel_rfl) ?_
      obtain ⟨hk, h⟩ := chk_inv h
      refine OWk.sep (s := 0) (n := 3) (j := (Int.toNat y1.2.1)) (enc := encImage) (xs := y1.1) (x := x2) (p := (some v)) 28 H [0, 2, 3, 16, 17, 25] [(0, .pin v 3 (List.map encImage (List.set y1.1 (Int.toNat y1.2.1) x2))), (2, vI y1.2.1), (3, vI y1.2.2), (16, .als 0), (17, vI y1.2.2), (25, Z16 x3)] hk (by kernel_rfl) (by kernel_rfl) ?_
      obtain ⟨x5, hx, h⟩ := bind_inv h
      refine OWk.O (d := some 27) (s := .ep 0 3 (Int.toNat y1.2.2)) [(0, .pin v 3 (List.map encImage (List.set y1.1 (Int.toNat y1.2.1) x2))), (2, vI y1.2.1), (3, vI y1.2.2), (25, Z16 x3), (27, Z78 y1)] (BAt.ep (enc := encImage) (xs := (List.set y1.1 (Int.toNat y1.2.1) x2)) hx (by kernel_rfl)) ?_
      obtain ⟨hk, h⟩ := chk_inv h
      refine OWk.sep (s := 0) (n := 3) (j := (Int.toNat y1.2.2)) (enc := encImage) (xs := (List.set y1.1 (Int.toNat y1.2.1) x2)) (x := x3) (p := (some v)) 28 H [0, 2, 3] [(0, .pin v 3 (List.map encImage (List.set (List.set y1.1 (Int.toNat y1.2.1) x2) (Int.toNat y1.2.2) x3))), (2, vI y1.2.1), (3, vI y1.2.2)] hk (by kernel_rfl) (by kernel_rfl) <| OWk.D <| blockS_n <| thenS_n <| SW.regionK <| OWk.G 6 [(0, .pin v 3 (List.map encImage (List.set (List.set y1.1 (Int.toNat y1.2.1) x2) (Int.toNat y1.2.2) x3))), (2, Z76 y1), (3, Z77 y1)] <| OWk.D ?_
      cases h
      exact ⟨((List.set (List.set y1.1 (Int.toNat y1.2.1) x2) (Int.toNat y1.2.2) x3), (IntKind.wrap .i64 (y1.2.1 + 1)), (IntKind.wrap .i64 (y1.2.2 - 1))), rfl, by kernel_rfl⟩
    · replace h := bif_f hc h
      refine SW.K [(0, .pin v 3 (List.map encImage y1.1))] <| SW.exit <| thenS_e ?_
      cases h
      refine thenS_e ?_
      exact ⟨_, rfl, ⟨rfl, rfl⟩⟩
  · rintro _ _ ⟨rfl, rfl⟩
    refine blockS_hit ?_
    cases h
    exact ⟨.inl rfl, by kernel_rfl, rfl⟩
theorem encImage_np (x : Image) : noPtr (encImage x) = true := by simp [encImage, noPtr, noPtrs]
def j_Redo_l1 (fuel : Nat) (p0 : (List Note)) (p1 : Int) (q4 : (Hp × Nat)) (y5 : (List Image) × Int × Hp) : Option (((List Image) × Int × Hp) ⊕ ((List Image) × Hp)) :=
  bif (decide (y5.2.1 ≥ p1)) then
    (idx p0 y5.2.1).bind fun x6 =>
    letJ (fun (j7 : Bool) =>
      bif j7 then
        (hMput (kI .i64) cB y5.2.2 (some q4.2) x6.Unit true).bind fun H9 =>
        some (.inl (y5.1, (IntKind.wrap .i64 (y5.2.1 - 1)), H9))
      else
        letJ (fun (j10 : Bool) =>
          bif j10 then
            (hMput (kI .i64) cB y5.2.2 (some q4.2) x6.Unit false).bind fun H12 =>
            some (.inl (y5.1, (IntKind.wrap .i64 (y5.2.1 - 1)), H12))
          else
            bif (x6.Kind == 3) then
              (hLook (kI .i64) cB y5.2.2 (some q4.2) x6.Unit).bind fun q13 =>
              bif (q13.getD false) then
                chk (decide ((y5.1 ++ [(⟨x6.Key, x6.Has, x6.Text⟩ : Image)]).length ≤ room)) <|
                some (.inl ((y5.1 ++ [(⟨x6.Key, x6.Has, x6.Text⟩ : Image)]), (IntKind.wrap .i64 (y5.2.1 - 1)), y5.2.2))
              else
                some (.inl (y5.1, (IntKind.wrap .i64 (y5.2.1 - 1)), y5.2.2))
            else
              some (.inl (y5.1, (IntKind.wrap .i64 (y5.2.1 - 1)), y5.2.2))) fun jp11 =>
        bif (x6.Kind == 7) then
          jp11 true
        else
          jp11 (x6.Kind == 1)) fun jp8 =>
    bif (x6.Kind == 4) then
      jp8 true
    else
      jp8 (x6.Kind == 5)
  else
    some (.inr (y5.1, y5.2.2))
noncomputable def j_Redo (fuel : Nat) (p0 : (List Note)) (p1 : Int) : Option ((List Image) × Int) :=
  (j_right fuel p0).bind fun r1 =>
  bif (r1 != 0) then
    some (([] : List Image), r1)
  else
    letJ (fun (j2 : Bool) =>
      bif j2 then
        some (([] : List Image), 7)
      else
        (hNew [] (.map [])).bind fun q4 =>
        (iter (j_Redo_l1 fuel p0 p1 q4) fuel (([] : List Image), (IntKind.wrap .i64 ((p0.length : Int) - 1)), q4.1)).bind fun v15 =>
        (slices_Reverse fuel v15.1).bind fun r16 =>
        some (r16, 0)) fun jp3 =>
    bif (decide (p1 < 0)) then
      jp3 true
    else
      jp3 (decide (p1 > (p0.length : Int)))
def Z80 (x0 : (List Image)) : SV := .own 3 (List.map encImage x0)
def Z81 (x0 : (List Image) × Hp) : SV := .own 3 (List.map encImage x0.1)
theorem j_Redo_ok {fuel : Nat} {p0 : (List Note)} {p1 : Int} {r : (List Image) × Int} (h : j_Redo fuel p0 p1 = some r) : PC Try.prog 18 [.d (.list 5 (List.map encNote p0)), vI p1] (.tup [.own 3 (List.map encImage r.1), vI r.2]) := by
  refine PC.of_localSW Try.func18 rfl (by simp [noPtrSV, noPtr, noPtrs, vI, vB, vS, noPtrs_map (f := encNote) encNote_np]) (by simp [noPtrSV, noPtr, noPtrs, vI, vB, vS, noPtrs_map (f := encImage) encImage_np]) ?_
  unfold j_Redo at h
  refine SW.kp 70 [] [0, 1] [(0, Z1 p0), (1, vI p1)] (by kernel_rfl) <| SW.R 1 [(0, Z1 p0), (1, vI p1)] <| SW.seq <| SW.S <| OWk.G 1 [(0, Z1 p0), (1, vI p1), (11, Z1 p0)] ?_
  obtain ⟨r1, hr, h⟩ := bind_inv h
  refine OWk.C0 (some 12) [(0, Z1 p0), (1, vI p1), (12, vI r1)] (j_right_ok hr) <| OWk.G 1 [(0, Z1 p0), (1, vI p1), (6, vI r1)] <| OWk.E <| SW.R 1 [(0, Z1 p0), (1, vI p1), (6, vI r1), (14, vB (r1 != 0))] ?_
  refine SW.B (r1 != 0) (fun hc => ?_) (fun hc => ?_)
  · replace h := bif_t hc h
    refine SW.R 1 [(4, Z26), (5, vI r1)] <| SW.ret <| thenS_r ?_
    cases h
    exact EndL.ret [] (by kernel_rfl)
  · replace h := bif_f hc h
    refine SW.skip <| thenS_n <| SW.seq ?_
    obtain ⟨jp3, hjjp3, h⟩ := letJ_inv h
    refine SW.jn 70 [] [0, 1, 23] (fun (j2 : Bool) => [(0, Z1 p0), (1, vI p1), (23, vB j2)]) (fun v => jp3 v = some r) (fun j2 h => ?_) ?_
    · rw [hjjp3] at h
      refine SW.B j2 (fun hc => ?_) (fun hc => ?_)
      · replace h := bif_t hc h
        refine SW.R 1 [(4, Z26), (5, vI 7)] <| SW.ret <| thenS_r ?_
        cases h
        exact EndL.ret [] (by kernel_rfl)
      · replace h := bif_f hc h
        refine SW.skip <| thenS_n <| SW.R 1 [(0, Z1 p0), (1, vI p1), (7, Z26)] <| SW.S ?_
        obtain ⟨q4, hq, h⟩ := bind_inv h
        refine OWk.hnew 70 q4.1 (d := some 24) (b := true) [] [0, 1, 7, 24] [(0, Z1 p0), (1, vI p1), (7, Z26), (24, .d (.map q4.2))] hq (by kernel_rfl) rfl (by kernel_rfl) <| OWk.G 1 [(0, Z1 p0), (1, vI p1), (7, Z26), (8, .d (.map q4.2))] <| OWk.E <| SW.seq <| SW.S <| OWk.G 1 [(0, Z1 p0), (1, vI p1), (7, Z26), (8, .d (.map q4.2)), (25, Z1 p0)] <| OWk.O (d := some 26) [(0, Z1 p0), (1, vI p1), (7, Z26), (8, .d (.map q4.2)), (26, vI (p0.length : Int))] (BAt.len (enc := encNote) (xs := p0) (by kernel_rfl)) <| OWk.G 2 [(0, Z1 p0), (1, vI p1), (7, Z26), (8, .d (.map q4.2)), (9, Z60 p0)] <| OWk.E <| SW.block ?_
        obtain ⟨v15, hit, h⟩ := bind_inv h
        refine SW.itH 70 [0, 1, 7, 8, 9] (fun y5 => [(0, Z1 p0), (1, vI p1), (7, .own 3 (List.map encImage y5.1)), (8, .d (.map q4.2)), (9, vI y5.2.1)]) (fun y5 => y5.2.2) (fun v15 e s => (e = .exit 0 ∧ s = (sp 70 [(7, .own 3 (List.map encImage v15.1))] v15.2))) hit (by kernel_rfl) (fun y5 o h => ?_) ?_
        · unfold j_Redo_l1 at h
          refine SW.seq <| SW.R 1 [(0, Z1 p0), (1, vI p1), (7, Z65 y5), (8, .d (.map q4.2)), (9, vI y5.2.1), (30, Z66 y5 p1)] ?_
          refine SW.B (decide (y5.2.1 ≥ p1)) (fun hc => ?_) (fun hc => ?_)
          · replace h := bif_t hc h
            refine SW.skip <| thenS_n <| SW.seq <| SW.block <| SW.S <| OWk.G 2 [(0, Z1 p0), (1, vI p1), (7, Z65 y5), (8, .d (.map q4.2)), (9, vI y5.2.1), (33, Z1 p0), (34, vI y5.2.1)] ?_
            obtain ⟨x6, hx, h⟩ := bind_inv h
            refine OWk.O (d := some 35) (s := lendP none (Go.Sh.D.cells (encNote x6))) [(0, Z1 p0), (1, vI p1), (7, Z65 y5), (8, .d (.map q4.2)), (9, vI y5.2.1), (35, .d (.dptr [.int .i64 x6.Kind, .int .i64 x6.Unit, .str x6.Key, .bool x6.Has, .str x6.Text]))] (BAt.index (n := 5) hx (by kernel_rfl)) <| OWk.G 3 [(0, Z1 p0), (1, vI p1), (7, Z65 y5), (8, .d (.map q4.2)), (9, vI y5.2.1), (10, Z30 x6)] <| OWk.E <| SW.R 1 [(0, Z1 p0), (1, vI p1), (7, Z65 y5), (8, .d (.map q4.2)), (9, vI y5.2.1), (10, Z30 x6), (38, vI x6.Kind)] <| SW.block ?_
            obtain ⟨jp8, hjjp8, h⟩ := letJ_inv h
            refine SW.jn 70 y5.2.2 [0, 1, 7, 8, 9, 10, 38, 39] (fun (j7 : Bool) => [(0, Z1 p0), (1, vI p1), (7, Z65 y5), (8, .d (.map q4.2)), (9, vI y5.2.1), (10, Z30 x6), (38, vI x6.Kind), (39, vB j7)]) (fun v => jp8 v = some o) (fun j7 h => ?_) ?_
            · rw [hjjp8] at h
              refine SW.B j7 (fun hc => ?_) (fun hc => ?_)
              · replace h := bif_t hc h
                refine SW.regionK <| OWk.G 3 [(0, Z1 p0), (1, vI p1), (7, Z65 y5), (8, .d (.map q4.2)), (9, vI y5.2.1), (42, .d (.map q4.2)), (44, vI x6.Unit)] ?_
                obtain ⟨H9, hx, h⟩ := bind_inv h
                refine OWk.mput 70 H9 (kc := (kI .i64)) (v := cB) (mm := (some q4.2)) (key := x6.Unit) (y := true) [0, 1, 7, 8, 9] [(0, Z1 p0), (1, vI p1), (7, Z65 y5), (8, .d (.map q4.2)), (9, vI y5.2.1)] hx (by kernel_rfl) (by kernel_rfl) <| OWk.D <| blockS_n <| blockS_n <| thenS_n <| SW.regionK <| OWk.G 3 [(0, Z1 p0), (1, vI p1), (7, Z65 y5), (8, .d (.map q4.2)), (9, Z67 y5)] <| OWk.D ?_
                cases h
                exact ⟨(y5.1, (IntKind.wrap .i64 (y5.2.1 - 1)), H9), rfl, by kernel_rfl⟩
              · replace h := bif_f hc h
                obtain ⟨jp11, hjjp11, h⟩ := letJ_inv h
                refine SW.jn 70 y5.2.2 [0, 1, 7, 8, 9, 10, 38, 45] (fun (j10 : Bool) => [(0, Z1 p0), (1, vI p1), (7, Z65 y5), (8, .d (.map q4.2)), (9, vI y5.2.1), (10, Z30 x6), (38, vI x6.Kind), (45, vB j10)]) (fun v => jp11 v = some o) (fun j10 h => ?_) ?_
                · rw [hjjp11] at h
                  refine SW.B j10 (fun hc => ?_) (fun hc => ?_)
                  · replace h := bif_t hc h
                    refine SW.regionK <| OWk.G 3 [(0, Z1 p0), (1, vI p1), (7, Z65 y5), (8, .d (.map q4.2)), (9, vI y5.2.1), (48, .d (.map q4.2)), (50, vI x6.Unit)] ?_
                    obtain ⟨H12, hx, h⟩ := bind_inv h
                    refine OWk.mput 70 H12 (kc := (kI .i64)) (v := cB) (mm := (some q4.2)) (key := x6.Unit) (y := false) [0, 1, 7, 8, 9] [(0, Z1 p0), (1, vI p1), (7, Z65 y5), (8, .d (.map q4.2)), (9, vI y5.2.1)] hx (by kernel_rfl) (by kernel_rfl) <| OWk.D <| blockS_n <| blockS_n <| thenS_n <| SW.regionK <| OWk.G 3 [(0, Z1 p0), (1, vI p1), (7, Z65 y5), (8, .d (.map q4.2)), (9, Z67 y5)] <| OWk.D ?_
                    cases h
                    exact ⟨(y5.1, (IntKind.wrap .i64 (y5.2.1 - 1)), H12), rfl, by kernel_rfl⟩
                  · replace h := bif_f hc h
                    refine SW.R 1 [(0, Z1 p0), (1, vI p1), (7, Z65 y5), (8, .d (.map q4.2)), (9, vI y5.2.1), (10, Z30 x6), (51, vB (x6.Kind == 3))] ?_
                    refine SW.B (x6.Kind == 3) (fun hc => ?_) (fun hc => ?_)
                    · replace h := bif_t hc h
                      refine SW.S <| OWk.G 3 [(0, Z1 p0), (1, vI p1), (7, Z65 y5), (8, .d (.map q4.2)), (9, vI y5.2.1), (10, Z30 x6), (53, .d (.map q4.2)), (55, vI x6.Unit)] ?_
                      obtain ⟨q13, hq, h⟩ := bind_inv h
                      refine OWk.O (d := some 56) [(0, Z1 p0), (1, vI p1), (7, Z65 y5), (8, .d (.map q4.2)), (9, vI y5.2.1), (10, Z30 x6), (56, vB (q13.getD false))] (BAt.look (kc := (kI .i64)) (v := cB) (ok := false) (mm := (some q4.2)) (key := x6.Unit) (z := false) hq (by kernel_rfl)) <| OWk.E ?_
                      refine SW.B (q13.getD false) (fun hc => ?_) (fun hc => ?_)
                      · replace h := bif_t hc h
                        refine SW.regionK <| OWk.sg 70 y5.2.2 [57] [0, 1, 8, 9, 57, 65] 9 [(0, Z1 p0), (1, vI p1), (8, .d (.map q4.2)), (9, vI y5.2.1), (57, Z65 y5), (65, Z63 x6)] (by kernel_rfl) ?_
                        obtain ⟨hk, h⟩ := chk_inv h
                        refine OWk.app 70 y5.2.2 (s := 57) (d := 66) (w := 3) [0, 1, 8, 9, 66] (zs := List.map encImage (y5.1 ++ [(⟨x6.Key, x6.Has, x6.Text⟩ : Image)])) [(0, Z1 p0), (1, vI p1), (8, .d (.map q4.2)), (9, vI y5.2.1), (66, Z68 y5 x6)] (ys := (List.map encImage [(⟨x6.Key, x6.Has, x6.Text⟩ : Image)])) (by kernel_rfl) (map_append') (room_map hk) (by kernel_rfl) <| OWk.sg 70 y5.2.2 [57] [0, 1, 7, 8, 9] 1 [(0, Z1 p0), (1, vI p1), (7, Z68 y5 x6), (8, .d (.map q4.2)), (9, vI y5.2.1)] (by kernel_rfl) <| OWk.D <| blockS_n <| blockS_n <| thenS_n <| SW.regionK <| OWk.G 3 [(0, Z1 p0), (1, vI p1), (7, Z68 y5 x6), (8, .d (.map q4.2)), (9, Z67 y5)] <| OWk.D ?_
                        cases h
                        exact ⟨((y5.1 ++ [(⟨x6.Key, x6.Has, x6.Text⟩ : Image)]), (IntKind.wrap .i64 (y5.2.1 - 1)), y5.2.2), rfl, by kernel_rfl⟩
                      · replace h := bif_f hc h
                        refine SW.skip <| blockS_n <| blockS_n <| thenS_n <| SW.regionK <| OWk.G 3 [(0, Z1 p0), (1, vI p1), (7, Z65 y5), (8, .d (.map q4.2)), (9, Z67 y5)] <| OWk.D ?_
                        cases h
                        exact ⟨(y5.1, (IntKind.wrap .i64 (y5.2.1 - 1)), y5.2.2), rfl, by kernel_rfl⟩
                    · replace h := bif_f hc h
                      refine SW.skip <| blockS_n <| blockS_n <| thenS_n <| SW.regionK <| OWk.G 3 [(0, Z1 p0), (1, vI p1), (7, Z65 y5), (8, .d (.map q4.2)), (9, Z67 y5)] <| OWk.D ?_
                      cases h
                      exact ⟨(y5.1, (IntKind.wrap .i64 (y5.2.1 - 1)), y5.2.2), rfl, by kernel_rfl⟩
                · refine SW.R 1 [(0, Z1 p0), (1, vI p1), (7, Z65 y5), (8, .d (.map q4.2)), (9, vI y5.2.1), (10, Z30 x6), (38, vI x6.Kind), (45, vB (x6.Kind == 7))] ?_
                  refine SW.case (x6.Kind == 7) (fun b => (sp 70 [(0, Z1 p0), (1, vI p1), (7, Z65 y5), (8, .d (.map q4.2)), (9, vI y5.2.1), (10, Z30 x6), (38, vI x6.Kind), (45, vB b)] y5.2.2)) (by kernel_rfl) (fun hc => ?_) (fun hc => ?_)
                  · replace h := bif_t hc h
                    refine SW.condT (by kernel_rfl) <| SW.skip ?_
                    exact ⟨true, [], by kernel_rfl, h⟩
                  · replace h := bif_f hc h
                    refine SW.condF (by kernel_rfl) <| SW.regionK <| OWk.G 2 [(0, Z1 p0), (1, vI p1), (7, Z65 y5), (8, .d (.map q4.2)), (9, vI y5.2.1), (10, Z30 x6), (38, vI x6.Kind), (45, vB (x6.Kind == 1))] <| OWk.D ?_
                    exact ⟨(x6.Kind == 1), [], by kernel_rfl, h⟩
            · refine SW.R 1 [(0, Z1 p0), (1, vI p1), (7, Z65 y5), (8, .d (.map q4.2)), (9, vI y5.2.1), (10, Z30 x6), (38, vI x6.Kind), (39, vB (x6.Kind == 4))] ?_
              refine SW.case (x6.Kind == 4) (fun b => (sp 70 [(0, Z1 p0), (1, vI p1), (7, Z65 y5), (8, .d (.map q4.2)), (9, vI y5.2.1), (10, Z30 x6), (38, vI x6.Kind), (39, vB b)] y5.2.2)) (by kernel_rfl) (fun hc => ?_) (fun hc => ?_)
              · replace h := bif_t hc h
                refine SW.condT (by kernel_rfl) <| SW.skip ?_
                exact ⟨true, [], by kernel_rfl, h⟩
              · replace h := bif_f hc h
                refine SW.condF (by kernel_rfl) <| SW.regionK <| OWk.G 2 [(0, Z1 p0), (1, vI p1), (7, Z65 y5), (8, .d (.map q4.2)), (9, vI y5.2.1), (10, Z30 x6), (38, vI x6.Kind), (39, vB (x6.Kind == 5))] <| OWk.D ?_
                exact ⟨(x6.Kind == 5), [], by kernel_rfl, h⟩
          · replace h := bif_f hc h
            refine SW.K [(7, Z65 y5)] <| SW.exit <| thenS_e ?_
            cases h
            refine thenS_e ?_
            exact ⟨_, rfl, ⟨rfl, rfl⟩⟩
        · rintro _ _ ⟨rfl, rfl⟩
          refine blockS_hit <| thenS_n <| SW.S <| OWk.O (d := some 67) (s := .als 7) [(7, Z81 v15), (67, .als 7)] (BAt.als (s := 7) (by kernel_rfl)) ?_
          obtain ⟨r16, hr, h⟩ := bind_inv h
          refine OWk.ic (s := 7) (p := none) (d := some 68) 70 v15.2 [7] [(7, .own 3 (List.map encImage r16))] (slices_Reverse_ok hr) (by kernel_rfl) (by kernel_rfl) <| OWk.E <| SW.S <| OWk.sg 70 v15.2 [69] [4, 5] 3 [(4, Z80 r16), (5, vI 0)] (by kernel_rfl) <| OWk.E <| SW.ret ?_
          cases h
          exact EndL.ret [] (by kernel_rfl)
    · refine SW.regionK <| OWk.G 3 [(0, Z1 p0), (1, vI p1), (18, vB (decide (p1 < 0)))] ?_
      refine OWk.case (decide (p1 < 0)) (fun b => (sp 70 [(0, Z1 p0), (1, vI p1), (18, vB b)] [])) (by kernel_rfl) (fun hc => ?_) (fun hc => ?_)
      · replace h := bif_t hc h
        refine OWk.G 5 [(0, Z1 p0), (1, vI p1), (23, vB true)] <| OWk.D ?_
        exact ⟨true, [], by kernel_rfl, h⟩
      · replace h := bif_f hc h
        refine OWk.G 2 [(0, Z1 p0), (1, vI p1), (18, vB false), (19, vI p1), (20, Z1 p0)] <| OWk.O (d := some 21) [(0, Z1 p0), (1, vI p1), (18, vB false), (19, vI p1), (21, vI (p0.length : Int))] (BAt.len (enc := encNote) (xs := p0) (by kernel_rfl)) <| OWk.G 2 [(0, Z1 p0), (1, vI p1), (23, Z59 p1 p0)] <| OWk.D ?_
        exact ⟨(decide (p1 > (p0.length : Int))), [], by kernel_rfl, h⟩
def j_Apply_1 (fuel : Nat) (p0 : Image) : Option (Bool) :=
  (j_image fuel p0).bind fun r1 =>
  some (!r1)
def Z82 (x0 : (List Image) × Int) : SV := .own 3 (List.map encImage x0.1)
def Z83 : SV := .d (.fn (.func 43) [] [])
theorem j_Apply_1_ok {fuel : Nat} {p0 : Image} {r : Bool} (h : j_Apply_1 fuel p0 = some r) : PC Try.prog 43 [.d (encImage p0)] (vB r) := by
  refine PC.of_SW Try.func43 rfl fun H => ?_
  unfold j_Apply_1 at h
  refine SW.kp 6 H [0] [(0, Z16 p0)] (by kernel_rfl) <| SW.R 1 [(1, Z15 p0)] <| SW.S <| OWk.G 1 [(3, Z16 p0)] ?_
  obtain ⟨r1, hr, h⟩ := bind_inv h
  refine OWk.C0 (some 4) [(4, vB r1)] (j_image_ok hr) <| OWk.G 2 [(2, vB (!r1))] <| OWk.E <| SW.ret ?_
  cases h
  exact EndQ.ret [] (by kernel_rfl) rfl
def slices_IndexFunc__j_Apply_1_l1 (fuel : Nat) (p0 : (List Image)) (y1 : Int) : Option ((Int) ⊕ ((Unit) ⊕ ((Int)))) :=
  bif (decide (y1 < (p0.length : Int))) then
    (idx p0 y1).bind fun x2 =>
    (j_Apply_1 fuel x2).bind fun r3 =>
    bif r3 then
      some (.inr (.inr y1))
    else
      some (.inl (IntKind.wrap .i64 (y1 + 1)))
  else
    some (.inr (.inl ()))
def slices_IndexFunc__j_Apply_1 (fuel : Nat) (p0 : (List Image)) : Option (Int) :=
  (iter (slices_IndexFunc__j_Apply_1_l1 fuel p0) fuel 0).bind (Sum.elim (fun v5 =>
    some (-1)) (fun r6 =>
    some r6))
theorem slices_IndexFunc__j_Apply_1_ok {fuel : Nat} {p0 : (List Image)} {r : Int} (h : slices_IndexFunc__j_Apply_1 fuel p0 = some r) : PC Try.prog 68 [.d (.list 3 (List.map encImage p0)), .d (.fn (.func 43) [] [])] (vI r) := by
  refine PC.of_SW Try.func68 rfl fun H => ?_
  unfold slices_IndexFunc__j_Apply_1 at h
  refine SW.kp 19 H [0, 1] [(0, Z0 p0), (1, Z83)] (by kernel_rfl) <| SW.R 1 [(0, Z0 p0), (1, Z83)] <| SW.seq <| SW.S <| OWk.G 1 [(0, Z0 p0), (1, Z83), (6, Z0 p0)] <| OWk.O (d := some 7) [(0, Z0 p0), (1, Z83), (7, vI (p0.length : Int))] (BAt.len (enc := encImage) (xs := p0) (by kernel_rfl)) <| OWk.G 1 [(0, Z0 p0), (1, Z83), (7, vI (p0.length : Int)), (8, vI 0)] <| OWk.E <| SW.block ?_
  obtain ⟨z4, hit, h⟩ := bind_inv h
  refine SW.it 19 H [0, 1, 7, 8] (fun y1 => [(0, Z0 p0), (1, Z83), (7, vI (p0.length : Int)), (8, vI y1)]) (fun b e s => ((∃ v5, b = (.inl v5) ∧ (e = .exit 0 ∧ s = (sp 19 [] H))) ∨ (∃ r6, b = (.inr r6) ∧ (e = .ret ∧ EndQ Try.prog Try.f68.results.toList H (vI r6) .ret s)))) hit (by kernel_rfl) (fun y1 o h => ?_) ?_
  · unfold slices_IndexFunc__j_Apply_1_l1 at h
    refine SW.R 1 [(0, Z0 p0), (1, Z83), (7, vI (p0.length : Int)), (8, vI y1), (9, Z21 y1 p0)] <| SW.seq ?_
    refine SW.B (decide (y1 < (p0.length : Int))) (fun hc => ?_) (fun hc => ?_)
    · replace h := bif_t hc h
      refine SW.skip <| thenS_n <| SW.seq <| SW.block <| SW.R 1 [(0, Z0 p0), (1, Z83), (5, vI y1), (7, vI (p0.length : Int)), (8, vI y1)] <| SW.S <| OWk.G 3 [(0, Z0 p0), (1, Z83), (5, vI y1), (7, vI (p0.length : Int)), (8, vI y1), (11, Z83), (12, Z0 p0), (13, vI y1)] ?_
      obtain ⟨x2, hx, h⟩ := bind_inv h
      refine OWk.O (d := some 14) (s := lendP none (Go.Sh.D.cells (encImage x2))) [(0, Z0 p0), (1, Z83), (5, vI y1), (7, vI (p0.length : Int)), (8, vI y1), (11, Z83), (14, .d (.dptr [.str x2.Key, .bool x2.Has, .str x2.Text]))] (BAt.index (n := 3) hx (by kernel_rfl)) <| OWk.G 1 [(0, Z0 p0), (1, Z83), (5, vI y1), (7, vI (p0.length : Int)), (8, vI y1), (11, Z83), (15, Z16 x2)] ?_
      obtain ⟨r3, hr, h⟩ := bind_inv h
      refine OWk.C0 (some 16) [(0, Z0 p0), (1, Z83), (5, vI y1), (7, vI (p0.length : Int)), (8, vI y1), (16, vB r3)] (j_Apply_1_ok hr) <| OWk.E ?_
      refine SW.B r3 (fun hc => ?_) (fun hc => ?_)
      · replace h := bif_t hc h
        refine SW.R 1 [(4, vI y1)] <| SW.ret <| blockS_r <| thenS_r ?_
        cases h
        refine thenS_r ?_
        exact ⟨_, rfl, .inr (⟨y1, rfl, rfl, EndQ.ret [] (by kernel_rfl) rfl⟩)⟩
      · replace h := bif_f hc h
        refine SW.skip <| blockS_n <| thenS_n <| SW.regionK <| OWk.G 2 [(0, Z0 p0), (1, Z83), (7, vI (p0.length : Int)), (8, Z24 y1)] <| OWk.D ?_
        cases h
        exact ⟨(IntKind.wrap .i64 (y1 + 1)), rfl, by kernel_rfl⟩
    · replace h := bif_f hc h
      refine SW.K [] <| SW.exit <| thenS_e ?_
      cases h
      refine thenS_e ?_
      exact ⟨_, rfl, .inl ⟨(), rfl, rfl, rfl⟩⟩
  · rintro _ _ (⟨v5, rfl, rfl, rfl⟩ | ⟨r6, rfl, rfl, hE⟩)
    · replace h := sum_l h
      refine blockS_hit <| thenS_n <| SW.R 1 [(4, vI (-1))] <| SW.ret ?_
      cases h
      exact EndQ.ret [] (by kernel_rfl) rfl
    · replace h := sum_r h
      refine blockS_r <| thenS_r ?_
      cases h
      exact hE
def slices_ContainsFunc__j_Apply_1 (fuel : Nat) (p0 : (List Image)) : Option (Bool) :=
  (slices_IndexFunc__j_Apply_1 fuel p0).bind fun r1 =>
  some (decide (r1 ≥ 0))
theorem slices_ContainsFunc__j_Apply_1_ok {fuel : Nat} {p0 : (List Image)} {r : Bool} (h : slices_ContainsFunc__j_Apply_1 fuel p0 = some r) : PC Try.prog 42 [.d (.list 3 (List.map encImage p0)), .d (.fn (.func 43) [] [])] (vB r) := by
  refine PC.of_SW Try.func42 rfl fun H => ?_
  unfold slices_ContainsFunc__j_Apply_1 at h
  refine SW.kp 9 H [0, 1] [(0, Z0 p0), (1, Z83)] (by kernel_rfl) <| SW.R 1 [(0, Z0 p0), (1, Z83)] <| SW.S <| OWk.G 2 [(5, Z0 p0), (6, Z83)] ?_
  obtain ⟨r1, hr, h⟩ := bind_inv h
  refine OWk.C0 (some 7) [(7, vI r1)] (slices_IndexFunc__j_Apply_1_ok hr) <| OWk.G 2 [(4, vB (decide (r1 ≥ 0)))] <| OWk.E <| SW.ret ?_
  cases h
  exact EndQ.ret [] (by kernel_rfl) rfl
def slices_Clone (fuel : Nat) (p0 : (List Image)) : Option ((List Image)) :=
  nilB p0 fun b1 =>
  bif b1 then
    some ([] : List Image)
  else
    chk (decide ((([] : List Image) ++ p0).length ≤ room)) <|
    some (([] : List Image) ++ p0)
def Z84 (x0 : (List Image)) : SV := .own 3 (List.map encImage (([] : List Image) ++ x0))
theorem slices_Clone_ok {fuel : Nat} {p0 : (List Image)} {r : (List Image)} (h : slices_Clone fuel p0 = some r) : PC Try.prog 45 [.d (.list 3 (List.map encImage p0))] (.own 3 (List.map encImage r)) := by
  refine PC.of_SW Try.func45 rfl fun H => ?_
  unfold slices_Clone at h
  refine SW.kp 8 H [0] [(0, Z0 p0)] (by kernel_rfl) <| SW.R 1 [(0, Z0 p0)] <| SW.seq <| SW.S <| OWk.G 1 [(0, Z0 p0), (3, Z0 p0)] ?_
  refine OWk.nilq (xs := List.map encImage p0) (d := some 4) (e := true) 8 H [0, 4] (fun b1 => [(0, Z0 p0), (4, vB b1)]) (by kernel_rfl) (fun _ => by kernel_rfl) (fun b1 hnil => ?_)
  replace h := nilB_inv h b1 (fun e => List.map_eq_nil_iff.1 (hnil e))
  refine OWk.E ?_
  refine SW.B b1 (fun hc => ?_) (fun hc => ?_)
  · replace h := bif_t hc h
    refine SW.R 1 [(2, Z26)] <| SW.ret <| thenS_r ?_
    cases h
    exact EndQ.ret [] (by kernel_rfl) rfl
  · replace h := bif_f hc h
    refine SW.skip <| thenS_n <| SW.S <| OWk.sg 8 H [5] [5, 6] 2 [(5, Z26), (6, Z0 p0)] (by kernel_rfl) ?_
    obtain ⟨hk, h⟩ := chk_inv h
    refine OWk.app 8 H (s := 5) (d := 7) (w := 3) [7] (zs := List.map encImage (([] : List Image) ++ p0)) [(7, Z84 p0)] (ys := (List.map encImage p0)) (by kernel_rfl) (map_append') (room_map hk) (by kernel_rfl) <| OWk.sg 8 H [5] [2] 1 [(2, Z84 p0)] (by kernel_rfl) <| OWk.E <| SW.ret ?_
    cases h
    exact EndQ.ret [] (by kernel_rfl) rfl
theorem bytealg_CompareString (a b : ByteArray) (w : World) :
    Calls Try.prog 69 #[.string a, .string b] w fun e w' => e = .returned (.int .i64 (Lib.compareBytes a.data.toList b.data.toList)) ∧ w' = w := by
  go_enter Try.func69, Try.ntmps69
  go_wp2
  rw [run_callFunc_extern Try.func84 (by kernel_rfl) (by kernel_rfl) (by kernel_rfl) (e := Extern.BytealgCompare.compare) (by kernel_rfl), Lib.run_compareString]
  simp only [Result.andThen]
  rw [Oper.upon_value]
  go_wp2
  go_ret
  exact ⟨rfl, rfl⟩
theorem cmpS_ok {fuel : Nat} {p0 : (List UInt8)} {p1 : (List UInt8)} {r : Int} (h : cmpS fuel p0 p1 = some r) : PC Try.prog 69 [vS p0, vS p1] (vI r) := cmpS_pc h bytealg_CompareString
def strings_Compare (fuel : Nat) (p0 : (List UInt8)) (p1 : (List UInt8)) : Option (Int) :=
  (cmpS fuel p0 p1).bind fun r1 =>
  some r1
def Z85 (x0 : (List Image)) : SV := .lent (.slot 6) 3 (List.map encImage x0)
def Z86 : SV := .d (.fn (.func 47) [] [])
theorem strings_Compare_ok {fuel : Nat} {p0 : (List UInt8)} {p1 : (List UInt8)} {r : Int} (h : strings_Compare fuel p0 p1 = some r) : PC Try.prog 48 [vS p0, vS p1] (vI r) := by
  refine PC.of_SW Try.func48 rfl fun H => ?_
  unfold strings_Compare at h
  refine SW.kp 8 H [0, 1] [(0, vS p0), (1, vS p1)] (by kernel_rfl) <| SW.R 1 [(0, vS p0), (1, vS p1)] <| SW.S <| OWk.G 2 [(5, vS p0), (6, vS p1)] ?_
  obtain ⟨r1, hr, h⟩ := bind_inv h
  refine OWk.C0 (some 7) [(7, vI r1)] (cmpS_ok hr) <| OWk.G 1 [(4, vI r1)] <| OWk.E <| SW.ret ?_
  cases h
  exact EndQ.ret [] (by kernel_rfl) rfl
def j_Apply_2 (fuel : Nat) (p0 : Image) (p1 : (List UInt8)) : Option (Int) :=
  (strings_Compare fuel p0.Key p1).bind fun r1 =>
  some r1
theorem j_Apply_2_ok {fuel : Nat} {p0 : Image} {p1 : (List UInt8)} {r : Int} (h : j_Apply_2 fuel p0 p1 = some r) : PC Try.prog 47 [.d (encImage p0), vS p1] (vI r) := by
  refine PC.of_SW Try.func47 rfl fun H => ?_
  unfold j_Apply_2 at h
  refine SW.kp 9 H [0, 1] [(0, Z16 p0), (1, vS p1)] (by kernel_rfl) <| SW.R 1 [(1, vS p1), (2, Z15 p0)] <| SW.S <| OWk.G 3 [(6, vS p0.Key), (7, vS p1)] ?_
  obtain ⟨r1, hr, h⟩ := bind_inv h
  refine OWk.C0 (some 8) [(8, vI r1)] (strings_Compare_ok hr) <| OWk.G 1 [(4, vI r1)] <| OWk.E <| SW.ret ?_
  cases h
  exact EndQ.ret [] (by kernel_rfl) rfl
def slices_BinarySearchFunc__j_Apply_2_l1 (fuel : Nat) (p0 : (List Image)) (p1 : (List UInt8)) (y1 : Int × Int) : Option ((Int × Int) ⊕ (Int)) :=
  bif (decide (y1.1 < y1.2)) then
    (idx p0 (IntKind.wrap .i64 (Int.fdiv (IntKind.wrap .u64 (IntKind.wrap .i64 (y1.1 + y1.2))) (2 ^ 1)))).bind fun x2 =>
    (j_Apply_2 fuel x2 p1).bind fun r3 =>
    bif (decide (r3 < 0)) then
      some (.inl ((IntKind.wrap .i64 ((IntKind.wrap .i64 (Int.fdiv (IntKind.wrap .u64 (IntKind.wrap .i64 (y1.1 + y1.2))) (2 ^ 1))) + 1)), y1.2))
    else
      some (.inl (y1.1, (IntKind.wrap .i64 (Int.fdiv (IntKind.wrap .u64 (IntKind.wrap .i64 (y1.1 + y1.2))) (2 ^ 1)))))
  else
    some (.inr y1.1)
def slices_BinarySearchFunc__j_Apply_2 (fuel : Nat) (p0 : (List Image)) (p1 : (List UInt8)) : Option (Int × Bool) :=
  (iter (slices_BinarySearchFunc__j_Apply_2_l1 fuel p0 p1) fuel (0, (p0.length : Int))).bind fun v5 =>
  bif (decide (v5 < (p0.length : Int))) then
    (idx p0 v5).bind fun x6 =>
    (j_Apply_2 fuel x6 p1).bind fun r7 =>
    some (v5, (r7 == 0))
  else
    some (v5, false)
def Z89 (x0 : Int × Int) : SV := vB (decide (x0.1 < x0.2))
def Z90 (x0 : Int × Int) : SV := vI (IntKind.wrap .i64 (Int.fdiv (IntKind.wrap .u64 (IntKind.wrap .i64 (x0.1 + x0.2))) (2 ^ 1)))
def Z91 (x0 : Int × Int) : SV := vI (IntKind.wrap .i64 ((IntKind.wrap .i64 (Int.fdiv (IntKind.wrap .u64 (IntKind.wrap .i64 (x0.1 + x0.2))) (2 ^ 1))) + 1))
theorem slices_BinarySearchFunc__j_Apply_2_ok {fuel : Nat} {p0 : (List Image)} {p1 : (List UInt8)} {r : Int × Bool} (h : slices_BinarySearchFunc__j_Apply_2 fuel p0 p1 = some r) : PC Try.prog 46 [.d (.list 3 (List.map encImage p0)), vS p1, .d (.fn (.func 47) [] [])] (.tup [vI r.1, vB r.2]) := by
  refine PC.of_SW Try.func46 rfl fun H => ?_
  unfold slices_BinarySearchFunc__j_Apply_2 at h
  refine SW.kp 49 H [0, 1, 2] [(0, Z0 p0), (1, vS p1), (2, Z86)] (by kernel_rfl) <| SW.R 1 [(0, Z0 p0), (1, vS p1), (2, Z86)] <| SW.S <| OWk.G 1 [(0, Z0 p0), (1, vS p1), (2, Z86), (12, Z0 p0)] <| OWk.O (d := some 13) [(0, Z0 p0), (1, vS p1), (2, Z86), (13, vI (p0.length : Int))] (BAt.len (enc := encImage) (xs := p0) (by kernel_rfl)) <| OWk.G 1 [(0, Z0 p0), (1, vS p1), (2, Z86), (8, vI (p0.length : Int))] <| OWk.E <| SW.R 1 [(0, Z0 p0), (1, vS p1), (2, Z86), (8, vI (p0.length : Int)), (9, vI 0), (10, vI (p0.length : Int))] <| SW.seq <| SW.block ?_
  obtain ⟨v5, hit, h⟩ := bind_inv h
  refine SW.it 49 H [0, 1, 2, 8, 9, 10] (fun y1 => [(0, Z0 p0), (1, vS p1), (2, Z86), (8, vI (p0.length : Int)), (9, vI y1.1), (10, vI y1.2)]) (fun v5 e s => (e = .exit 0 ∧ s = (sp 49 [(0, Z0 p0), (1, vS p1), (2, Z86), (8, vI (p0.length : Int)), (9, vI v5)] H))) hit (by kernel_rfl) (fun y1 o h => ?_) ?_
  · unfold slices_BinarySearchFunc__j_Apply_2_l1 at h
    refine SW.seq <| SW.R 1 [(0, Z0 p0), (1, vS p1), (2, Z86), (8, vI (p0.length : Int)), (9, vI y1.1), (10, vI y1.2), (17, Z89 y1)] ?_
    refine SW.B (decide (y1.1 < y1.2)) (fun hc => ?_) (fun hc => ?_)
    · replace h := bif_t hc h
      refine SW.skip <| thenS_n <| SW.block <| SW.R 1 [(0, Z0 p0), (1, vS p1), (2, Z86), (8, vI (p0.length : Int)), (9, vI y1.1), (10, vI y1.2), (11, Z90 y1)] <| SW.S <| OWk.G 3 [(0, Z0 p0), (1, vS p1), (2, Z86), (8, vI (p0.length : Int)), (9, vI y1.1), (10, vI y1.2), (11, Z90 y1), (24, Z86), (25, Z0 p0), (26, Z90 y1)] ?_
      obtain ⟨x2, hx, h⟩ := bind_inv h
      refine OWk.O (d := some 27) (s := lendP none (Go.Sh.D.cells (encImage x2))) [(0, Z0 p0), (1, vS p1), (2, Z86), (8, vI (p0.length : Int)), (9, vI y1.1), (10, vI y1.2), (11, Z90 y1), (24, Z86), (27, .d (.dptr [.str x2.Key, .bool x2.Has, .str x2.Text]))] (BAt.index (n := 3) hx (by kernel_rfl)) <| OWk.G 2 [(0, Z0 p0), (1, vS p1), (2, Z86), (8, vI (p0.length : Int)), (9, vI y1.1), (10, vI y1.2), (11, Z90 y1), (24, Z86), (28, Z16 x2), (29, vS p1)] ?_
      obtain ⟨r3, hr, h⟩ := bind_inv h
      refine OWk.C0 (some 30) [(0, Z0 p0), (1, vS p1), (2, Z86), (8, vI (p0.length : Int)), (9, vI y1.1), (10, vI y1.2), (11, Z90 y1), (30, vI r3)] (j_Apply_2_ok hr) <| OWk.G 1 [(0, Z0 p0), (1, vS p1), (2, Z86), (8, vI (p0.length : Int)), (9, vI y1.1), (10, vI y1.2), (11, Z90 y1), (31, vB (decide (r3 < 0)))] <| OWk.E ?_
      refine SW.B (decide (r3 < 0)) (fun hc => ?_) (fun hc => ?_)
      · replace h := bif_t hc h
        refine SW.regionK <| OWk.G 3 [(0, Z0 p0), (1, vS p1), (2, Z86), (8, vI (p0.length : Int)), (9, Z91 y1), (10, vI y1.2)] <| OWk.D <| blockS_n ?_
        cases h
        exact ⟨((IntKind.wrap .i64 ((IntKind.wrap .i64 (Int.fdiv (IntKind.wrap .u64 (IntKind.wrap .i64 (y1.1 + y1.2))) (2 ^ 1))) + 1)), y1.2), rfl, by kernel_rfl⟩
      · replace h := bif_f hc h
        refine SW.regionK <| OWk.G 2 [(0, Z0 p0), (1, vS p1), (2, Z86), (8, vI (p0.length : Int)), (9, vI y1.1), (10, Z90 y1)] <| OWk.D <| blockS_n ?_
        cases h
        exact ⟨(y1.1, (IntKind.wrap .i64 (Int.fdiv (IntKind.wrap .u64 (IntKind.wrap .i64 (y1.1 + y1.2))) (2 ^ 1)))), rfl, by kernel_rfl⟩
    · replace h := bif_f hc h
      refine SW.K [(0, Z0 p0), (1, vS p1), (2, Z86), (8, vI (p0.length : Int)), (9, vI y1.1)] <| SW.exit <| thenS_e ?_
      cases h
      refine thenS_e ?_
      exact ⟨_, rfl, ⟨rfl, rfl⟩⟩
  · rintro _ _ ⟨rfl, rfl⟩
    refine blockS_hit <| thenS_n <| SW.S <| OWk.G 5 [(0, Z0 p0), (1, vS p1), (2, Z86), (9, vI v5), (35, vI v5), (39, Z21 v5 p0)] ?_
    refine OWk.case (decide (v5 < (p0.length : Int))) (fun b => (sp 49 [(0, Z0 p0), (1, vS p1), (2, Z86), (9, vI v5), (35, vI v5), (39, vB b)] H)) (by kernel_rfl) (fun hc => ?_) (fun hc => ?_)
    · replace h := bif_t hc h
      refine OWk.G 3 [(1, vS p1), (35, vI v5), (39, vB true), (40, Z86), (41, Z0 p0), (42, vI v5)] ?_
      obtain ⟨x6, hx, h⟩ := bind_inv h
      refine OWk.O (d := some 43) (s := lendP none (Go.Sh.D.cells (encImage x6))) [(1, vS p1), (35, vI v5), (39, vB true), (40, Z86), (43, .d (.dptr [.str x6.Key, .bool x6.Has, .str x6.Text]))] (BAt.index (n := 3) hx (by kernel_rfl)) <| OWk.G 2 [(35, vI v5), (39, vB true), (40, Z86), (44, Z16 x6), (45, vS p1)] ?_
      obtain ⟨r7, hr, h⟩ := bind_inv h
      refine OWk.C0 (some 46) [(35, vI v5), (39, vB true), (46, vI r7)] (j_Apply_2_ok hr) <| OWk.G 4 [(6, vI v5), (7, vB (r7 == 0))] <| OWk.E <| SW.ret ?_
      cases h
      exact EndQ.ret [] (by kernel_rfl) rfl
    · replace h := bif_f hc h
      refine OWk.G 11 [(6, vI v5), (7, vB false)] <| OWk.E <| SW.ret ?_
      cases h
      exact EndQ.ret [] (by kernel_rfl) rfl
def slices_Insert (fuel : Nat) (p0 : (List Image)) (p1 : Int) (p2 : (List Image)) : Option ((List Image)) :=
  chk (slOk p0 p1 (p0.length : Int)) <|
  bif ((p2.length : Int) == 0) then
    some p0
  else
    bif (p1 == (p0.length : Int)) then
      chk (decide ((p0 ++ p2).length ≤ room)) <|
      some (p0 ++ p2)
    else
      chk (decide (0 ≤ p1) && decide (p1 < (p0.length : Int)) && decide (0 < p2.length) && decide (p0.length + p2.length ≤ room)) <|
      some (List.take (Int.toNat p1) p0 ++ p2 ++ List.drop (Int.toNat p1) p0)
def Z93 (x0 : Int × Bool) : SV := .ep 6 3 (Int.toNat x0.1)
def Z94 (x0 : Image) : SV := .own 3 (List.map encImage [x0])
def Z95 (x0 : (List Image)) : SV := vB ((x0.length : Int) == 0)
def Z96 (x0 : Int) (x1 : (List Image)) : SV := vB (x0 == (x1.length : Int))
def Z97 (x0 : (List Image)) (x1 : (List Image)) : SV := .own 3 (List.map encImage (x0 ++ x1))
theorem slices_Insert_ok {fuel : Nat} {p0 : (List Image)} {p1 : Int} {p2 : (List Image)} {r : (List Image)} (h : slices_Insert fuel p0 p1 p2 = some r) : PC Try.prog 49 [.own 3 (List.map encImage p0), vI p1, .d (.list 3 (List.map encImage p2))] (.own 3 (List.map encImage r)) := by
  refine PC.of_SW Try.func49 rfl fun H => ?_
  unfold slices_Insert at h
  refine SW.kp 95 H [0, 1, 2] [(0, Z80 p0), (1, vI p1), (2, Z0 p2)] (by kernel_rfl) <| SW.R 1 [(0, Z80 p0), (1, vI p1), (2, Z0 p2)] <| SW.S <| OWk.G 2 [(0, Z80 p0), (1, vI p1), (2, Z0 p2), (10, Z69 p0), (11, vI p1)] ?_
  obtain ⟨hk, h⟩ := chk_inv h
  refine OWk.O (d := some 12) (s := lendL (some (.slot 0)) 3 (List.map encImage (sl p0 p1 (p0.length : Int)))) [(0, Z80 p0), (1, vI p1), (2, Z0 p2)] (BAt.slice hk (by kernel_rfl)) <| OWk.E <| SW.S <| OWk.G 1 [(0, Z80 p0), (1, vI p1), (2, Z0 p2), (13, Z0 p2)] <| OWk.O (d := some 14) [(0, Z80 p0), (1, vI p1), (2, Z0 p2), (14, vI (p2.length : Int))] (BAt.len (enc := encImage) (xs := p2) (by kernel_rfl)) <| OWk.G 1 [(0, Z80 p0), (1, vI p1), (2, Z0 p2), (7, vI (p2.length : Int))] <| OWk.E <| SW.seq <| SW.R 1 [(0, Z80 p0), (1, vI p1), (2, Z0 p2), (7, vI (p2.length : Int)), (16, Z95 p2)] ?_
  refine SW.B ((p2.length : Int) == 0) (fun hc => ?_) (fun hc => ?_)
  · replace h := bif_t hc h
    refine SW.S <| OWk.sg 95 H [17] [6] 2 [(6, Z80 p0)] (by kernel_rfl) <| OWk.E <| SW.ret <| thenS_r ?_
    cases h
    exact EndQ.ret [] (by kernel_rfl) rfl
  · replace h := bif_f hc h
    refine SW.skip <| thenS_n <| SW.S <| OWk.G 1 [(0, Z80 p0), (1, vI p1), (2, Z0 p2), (7, vI (p2.length : Int)), (18, Z69 p0)] <| OWk.O (d := some 19) [(0, Z80 p0), (1, vI p1), (2, Z0 p2), (7, vI (p2.length : Int)), (19, vI (p0.length : Int))] (BAt.len (enc := encImage) (xs := p0) (by kernel_rfl)) <| OWk.G 1 [(0, Z80 p0), (1, vI p1), (2, Z0 p2), (7, vI (p2.length : Int)), (8, vI (p0.length : Int))] <| OWk.E <| SW.seq <| SW.R 1 [(0, Z80 p0), (1, vI p1), (2, Z0 p2), (7, vI (p2.length : Int)), (8, vI (p0.length : Int)), (22, Z96 p1 p0)] ?_
    refine SW.B (p1 == (p0.length : Int)) (fun hc => ?_) (fun hc => ?_)
    · replace h := bif_t hc h
      refine SW.S <| OWk.sg 95 H [23] [23, 24] 2 [(23, Z80 p0), (24, Z0 p2)] (by kernel_rfl) ?_
      obtain ⟨hk, h⟩ := chk_inv h
      refine OWk.app 95 H (s := 23) (d := 25) (w := 3) [25] (zs := List.map encImage (p0 ++ p2)) [(25, Z97 p0 p2)] (ys := (List.map encImage p2)) (by kernel_rfl) (map_append') (room_map hk) (by kernel_rfl) <| OWk.sg 95 H [23] [6] 1 [(6, Z97 p0 p2)] (by kernel_rfl) <| OWk.E <| SW.ret <| thenS_r ?_
      cases h
      exact EndQ.ret [] (by kernel_rfl) rfl
    · replace h := bif_f hc h
      refine SW.skip <| thenS_n ?_
      obtain ⟨hk, h⟩ := chk_inv h
      refine SW.K [(0, Z80 p0), (1, vI p1), (2, Z0 p2), (7, vI (p2.length : Int)), (8, vI (p0.length : Int))] ?_
      obtain ⟨hT, ti, z, zd, hi, hz, hzd, hzn, hsz, hn, hby⟩ := elemB_spec (P := Try.prog) (T := 22) (e := 41) (n := 3) (by kernel_rfl)
      refine SW.insM (enc := encImage) (xs := p0) (ys := p2) (i := p1) (T := 22) (I := 3) (B := 4) (fo := 70) (ik := .i64) hk hT (by kernel_rfl) hi hz hzd hzn hsz hn hby (fun args w => run_callFunc_extern Try.func70 (by kernel_rfl) (by kernel_rfl) (by kernel_rfl) (by kernel_rfl) args w) (by kernel_rfl) (by kernel_rfl) (by kernel_rfl) ⟨rfl, rfl, rfl⟩ ⟨rfl, rfl, rfl⟩ ⟨rfl, rfl, rfl⟩ ⟨rfl, rfl, rfl⟩ ⟨rfl, rfl, rfl⟩ ⟨rfl, rfl, rfl⟩ ⟨rfl, rfl, rfl⟩ ⟨rfl, rfl, rfl⟩ ⟨rfl, rfl, rfl⟩ ⟨rfl, rfl, rfl⟩ ⟨rfl, rfl, rfl⟩ ⟨rfl, rfl, rfl⟩ ⟨rfl, rfl, rfl⟩ ⟨rfl, rfl, rfl⟩ ⟨rfl, rfl, rfl⟩ ⟨rfl, rfl, rfl⟩ ⟨rfl, rfl, rfl⟩ ⟨rfl, rfl, rfl⟩ ⟨rfl, rfl, rfl⟩ ⟨rfl, rfl, rfl⟩ ⟨rfl, rfl, rfl⟩ ⟨rfl, rfl, rfl⟩ ⟨rfl, rfl, rfl⟩ ⟨rfl, rfl, rfl⟩ ⟨rfl, rfl, rfl⟩ ⟨rfl, rfl, rfl⟩ ⟨rfl, rfl, rfl⟩ ⟨rfl, rfl, rfl⟩ ⟨rfl, rfl, rfl⟩ ⟨rfl, rfl, rfl⟩ ⟨rfl, rfl, rfl⟩ ⟨rfl, rfl, rfl⟩ ⟨rfl, rfl, rfl⟩ ⟨rfl, rfl, rfl⟩ ⟨rfl, rfl, rfl⟩ ⟨rfl, rfl, rfl⟩ ⟨rfl, rfl, rfl⟩ ⟨rfl, rfl, rfl⟩ ⟨rfl, rfl, rfl⟩ ⟨rfl, rfl, rfl⟩ ⟨rfl, rfl, rfl⟩ ⟨rfl, rfl, rfl⟩ ⟨rfl, rfl, rfl⟩ ⟨rfl, rfl, rfl⟩ ⟨rfl, rfl, rfl⟩ ⟨rfl, rfl, rfl⟩ ⟨rfl, rfl, rfl⟩ ⟨rfl, rfl, rfl⟩ ⟨rfl, rfl, rfl⟩ ⟨rfl, rfl, rfl⟩ ⟨rfl, rfl, rfl⟩ ⟨rfl, rfl, rfl⟩ ⟨rfl, rfl, rfl⟩ ⟨rfl, rfl, rfl⟩ ⟨rfl, rfl, rfl⟩ ⟨rfl, rfl, rfl⟩ ⟨rfl, rfl, rfl⟩ ⟨rfl, rfl, rfl⟩ ⟨rfl, rfl, rfl⟩ ⟨rfl, rfl, rfl⟩ ⟨rfl, rfl, rfl⟩ ⟨rfl, rfl, rfl⟩ ?_
      cases h
      exact EndQ.ret [] (by kernel_rfl) rfl
def slices_Delete (fuel : Nat) (p0 : (List Image)) (p1 : Int) (p2 : Int) : Option ((List Image)) :=
  chk (decide (0 ≤ p1) && decide (p1 ≤ p2) && decide (p2 ≤ (p0.length : Int)) && decide ((p0.length : Int) ≤ p0.length)) <|
  bif (p1 == p2) then
    some p0
  else
    chk (decide (0 ≤ p1) && decide (p1 < p2) && decide (p2 ≤ (p0.length : Int)) && decide (p0.length ≤ room)) <|
    some (List.take (Int.toNat p1) p0 ++ List.drop (Int.toNat p2) p0)
def Z98 (x0 : (List Image) × Int) (x1 : (List Image)) : SV := vB (decide (x0.2 < (x1.length : Int)))
def Z99 (x0 : (List Image) × Int) : SV := .lent (.slot 6) 3 (List.map encImage x0.1)
def Z100 (x0 : (List Image) × Int) (x1 : Int × Bool) (x2 : Image) : SV := .own 3 (List.map encImage (List.set x0.1 (Int.toNat x1.1) x2))
def Z101 (x0 : (List Image) × Int) : SV := vI (IntKind.wrap .i64 (x0.2 + 1))
def Z102 (x0 : Image) : SV := .d (.list 3 (List.map encImage [x0]))
def Z103 (x0 : Int × Bool) : SV := vI (IntKind.wrap .i64 (x0.1 + 1))
def Z104 (x0 : Int) (x1 : (List Image)) (x2 : Int) : SV := .own 3 (List.map encImage (List.take (Int.toNat x0) x1 ++ List.drop (Int.toNat x2) x1))
theorem slices_Delete_ok {fuel : Nat} {p0 : (List Image)} {p1 : Int} {p2 : Int} {r : (List Image)} (h : slices_Delete fuel p0 p1 p2 = some r) : PC Try.prog 50 [.own 3 (List.map encImage p0), vI p1, vI p2] (.own 3 (List.map encImage r)) := by
  refine PC.of_SW Try.func50 rfl fun H => ?_
  unfold slices_Delete at h
  refine SW.kp 33 H [0, 1, 2] [(0, Z80 p0), (1, vI p1), (2, vI p2)] (by kernel_rfl) <| SW.R 1 [(0, Z80 p0), (1, vI p1), (2, vI p2)] <| SW.S <| OWk.G 4 [(0, Z80 p0), (1, vI p1), (2, vI p2), (8, Z69 p0), (9, vI p1), (10, vI p2), (11, Z69 p0)] <| OWk.O (d := some 12) [(0, Z80 p0), (1, vI p1), (2, vI p2), (8, Z69 p0), (9, vI p1), (10, vI p2), (12, vI (p0.length : Int))] (BAt.len (enc := encImage) (xs := p0) (by kernel_rfl)) ?_
  obtain ⟨hk, h⟩ := chk_inv h
  refine OWk.O (d := some 13) (s := .undef) [(0, Z80 p0), (1, vI p1), (2, vI p2)] (BAt.sl3 (enc := encImage) (xs := p0) hk (by kernel_rfl)) <| OWk.D <| thenS_n <| SW.seq <| SW.R 1 [(0, Z80 p0), (1, vI p1), (2, vI p2), (16, vB (p1 == p2))] ?_
  refine SW.B (p1 == p2) (fun hc => ?_) (fun hc => ?_)
  · replace h := bif_t hc h
    refine SW.S <| OWk.sg 33 H [17] [6] 2 [(6, Z80 p0)] (by kernel_rfl) <| OWk.D <| thenS_n <| SW.ret <| thenS_r ?_
    cases h
    exact EndQ.ret [] (by kernel_rfl) rfl
  · replace h := bif_f hc h
    refine SW.skip <| thenS_n <| SW.S <| OWk.G 1 [(0, Z80 p0), (1, vI p1), (2, vI p2), (18, Z69 p0)] <| OWk.O (d := some 19) [(0, Z80 p0), (1, vI p1), (2, vI p2), (19, vI (p0.length : Int))] (BAt.len (enc := encImage) (xs := p0) (by kernel_rfl)) <| OWk.G 1 [(0, Z80 p0), (1, vI p1), (2, vI p2), (7, vI (p0.length : Int))] <| OWk.D <| thenS_n ?_
    obtain ⟨hk, h⟩ := chk_inv h
    refine SW.kp 33 H [0, 1, 2, 7] [(0, Z80 p0), (1, vI p1), (2, vI p2), (7, vI (p0.length : Int))] (by kernel_rfl) ?_
    obtain ⟨hT, ti, z, zd, hi, hz, hzd, hzn, hsz, hn, hby⟩ := elemB_spec (P := Try.prog) (T := 22) (e := 41) (n := 3) (by kernel_rfl)
    refine SW.delM (enc := encImage) (xs := p0) (i := p1) (j := p2) (T := 22) (s := 0) (a1 := 1) (a2 := 2) (a3 := 7) (t1 := 20) (t2 := 21) (t3 := 22) (t4 := 23) (t5 := 24) (t6 := 25) (t7 := 26) (u1 := 27) (u2 := 28) (u3 := 29) (u4 := 30) (u5 := 31) (st2 := (sp 33 [(0, Z104 p1 p0 p2), (1, vI p1), (2, vI p2), (7, vI (p0.length : Int))] H)) hk (by kernel_rfl) (by kernel_rfl) ⟨rfl, rfl, rfl⟩ ⟨rfl, rfl, rfl⟩ ⟨rfl, rfl, rfl⟩ ⟨rfl, rfl, rfl⟩ ⟨rfl, rfl, rfl⟩ ⟨rfl, rfl, rfl⟩ ⟨rfl, rfl, rfl⟩ ⟨rfl, rfl, rfl⟩ ⟨rfl, rfl, rfl⟩ ⟨rfl, rfl, rfl⟩ ⟨rfl, rfl, rfl⟩ ⟨rfl, rfl, rfl⟩ ⟨rfl, rfl, rfl⟩ ⟨rfl, rfl, rfl⟩ (by kernel_rfl) (by kernel_rfl) (by decide) (by decide) hT hi hz hzd hzn hsz hn hby (by kernel_rfl) (by kernel_rfl) (by kernel_rfl) (by kernel_rfl) (by kernel_rfl) <| SW.kp 33 H [0] [(0, Z104 p1 p0 p2)] (by kernel_rfl) <| SW.S <| OWk.sg 33 H [32] [6] 2 [(6, Z104 p1 p0 p2)] (by kernel_rfl) <| OWk.D <| thenS_n <| SW.ret ?_
    cases h
    exact EndQ.ret [] (by kernel_rfl) rfl
def j_Apply_l1 (fuel : Nat) (p1 : (List Image)) (y6 : (List Image) × Int) : Option (((List Image) × Int) ⊕ ((List Image))) :=
  bif (decide (y6.2 < (p1.length : Int))) then
    (idx p1 y6.2).bind fun x7 =>
    (slices_BinarySearchFunc__j_Apply_2 fuel y6.1 x7.Key).bind fun r8 =>
    bif (x7.Has && r8.2) then
      (idx y6.1 r8.1).bind fun x9 =>
      chk (decide ((Int.toNat r8.1) < y6.1.length)) <|
      some (.inl ((List.set y6.1 (Int.toNat r8.1) x7), (IntKind.wrap .i64 (y6.2 + 1))))
    else
      bif x7.Has then
        (slices_Insert fuel y6.1 r8.1 [x7]).bind fun r10 =>
        some (.inl (r10, (IntKind.wrap .i64 (y6.2 + 1))))
      else
        bif r8.2 then
          (slices_Delete fuel y6.1 r8.1 (IntKind.wrap .i64 (r8.1 + 1))).bind fun r11 =>
          some (.inl (r11, (IntKind.wrap .i64 (y6.2 + 1))))
        else
          some (.inl (y6.1, (IntKind.wrap .i64 (y6.2 + 1))))
  else
    some (.inr y6.1)
def j_Apply (fuel : Nat) (p0 : (List Image)) (p1 : (List Image)) : Option ((List Image) × Int) :=
  letJ (fun (j1 : Bool) =>
    bif j1 then
      some (([] : List Image), 1)
    else
      (slices_Clone fuel p0).bind fun r5 =>
      (iter (j_Apply_l1 fuel p1) fuel (r5, 0)).bind fun v13 =>
      bif (decide ((v13.length : Int) > 500)) then
        some (([] : List Image), 4)
      else
        some (v13, 0)) fun jp2 =>
  (j_ordered fuel p0).bind fun r3 =>
  bif (!r3) then
    jp2 true
  else
    (slices_ContainsFunc__j_Apply_1 fuel p1).bind fun r4 =>
    jp2 r4
def Z105 (x0 : (List Image)) : SV := vB (decide ((x0.length : Int) > 500))
theorem j_Apply_ok {fuel : Nat} {p0 : (List Image)} {p1 : (List Image)} {r : (List Image) × Int} (h : j_Apply fuel p0 p1 = some r) : PC Try.prog 20 [.d (.list 3 (List.map encImage p0)), .d (.list 3 (List.map encImage p1))] (.tup [.own 3 (List.map encImage r.1), vI r.2]) := by
  refine PC.of_SW Try.func20 rfl fun H => ?_
  unfold j_Apply at h
  refine SW.kp 63 H [0, 1] [(0, Z0 p0), (1, Z0 p1)] (by kernel_rfl) <| SW.R 1 [(0, Z0 p0), (1, Z0 p1)] <| SW.seq ?_
  obtain ⟨jp2, hjjp2, h⟩ := letJ_inv h
  refine SW.jn 63 H [0, 1, 17] (fun (j1 : Bool) => [(0, Z0 p0), (1, Z0 p1), (17, vB j1)]) (fun v => jp2 v = some r) (fun j1 h => ?_) ?_
  · rw [hjjp2] at h
    refine SW.B j1 (fun hc => ?_) (fun hc => ?_)
    · replace h := bif_t hc h
      refine SW.R 1 [(4, Z26), (5, vI 1)] <| SW.ret <| thenS_r ?_
      cases h
      exact EndQ.ret [] (by kernel_rfl) rfl
    · replace h := bif_f hc h
      refine SW.skip <| thenS_n <| SW.S <| OWk.G 1 [(1, Z0 p1), (18, Z0 p0)] ?_
      obtain ⟨r5, hr, h⟩ := bind_inv h
      refine OWk.C0 (some 19) [(1, Z0 p1), (19, .own 3 (List.map encImage r5))] (slices_Clone_ok hr) <| OWk.G 1 [(1, Z0 p1), (6, Z80 r5)] <| OWk.E <| SW.seq <| SW.S <| OWk.G 1 [(6, Z80 r5), (20, Z0 p1)] <| OWk.O (d := some 21) [(6, Z80 r5), (20, Z0 p1), (21, vI (p1.length : Int))] (BAt.len (enc := encImage) (xs := p1) (by kernel_rfl)) <| OWk.G 1 [(6, Z80 r5), (20, Z0 p1), (21, vI (p1.length : Int)), (22, vI 0)] <| OWk.E <| SW.block ?_
      obtain ⟨v13, hit, h⟩ := bind_inv h
      refine SW.it 63 H [6, 20, 21, 22] (fun y6 => [(6, .own 3 (List.map encImage y6.1)), (20, Z0 p1), (21, vI (p1.length : Int)), (22, vI y6.2)]) (fun v13 e s => (e = .exit 0 ∧ s = (sp 63 [(6, .own 3 (List.map encImage v13))] H))) hit (by kernel_rfl) (fun y6 o h => ?_) ?_
      · unfold j_Apply_l1 at h
        refine SW.R 1 [(6, Z82 y6), (20, Z0 p1), (21, vI (p1.length : Int)), (22, vI y6.2), (23, Z98 y6 p1)] <| SW.seq ?_
        refine SW.B (decide (y6.2 < (p1.length : Int))) (fun hc => ?_) (fun hc => ?_)
        · replace h := bif_t hc h
          refine SW.skip <| thenS_n <| SW.seq <| SW.block <| SW.S ?_
          obtain ⟨x7, hx, h⟩ := bind_inv h
          refine OWk.O (d := some 24) (s := lendP none (Go.Sh.D.cells (encImage x7))) [(6, Z82 y6), (20, Z0 p1), (21, vI (p1.length : Int)), (22, vI y6.2), (24, .d (.dptr [.str x7.Key, .bool x7.Has, .str x7.Text]))] (BAt.index (n := 3) hx (by kernel_rfl)) <| OWk.G 3 [(6, Z82 y6), (8, Z15 x7), (20, Z0 p1), (21, vI (p1.length : Int)), (22, vI y6.2)] <| OWk.E <| SW.S <| OWk.G 3 [(6, Z82 y6), (8, Z15 x7), (20, Z0 p1), (21, vI (p1.length : Int)), (22, vI y6.2), (27, Z99 y6), (29, vS x7.Key)] ?_
          obtain ⟨r8, hr, h⟩ := bind_inv h
          refine OWk.C (d := some 30) (ls := [(.slot 6)]) (gs := []) [] [(6, Z82 y6), (8, Z15 x7), (20, Z0 p1), (21, vI (p1.length : Int)), (22, vI y6.2), (30, .tup [vI r8.1, vB r8.2])] (slices_BinarySearchFunc__j_Apply_2_ok hr) <| OWk.G 5 [(6, Z82 y6), (8, Z15 x7), (9, vI r8.1), (10, vB r8.2), (20, Z0 p1), (21, vI (p1.length : Int)), (22, vI y6.2)] <| OWk.E <| SW.block <| SW.S <| OWk.G 3 [(6, Z82 y6), (8, Z15 x7), (9, vI r8.1), (10, vB r8.2), (20, Z0 p1), (21, vI (p1.length : Int)), (22, vI y6.2), (36, vB x7.Has)] <| OWk.M 2 x7.Has (fun b => [(6, Z82 y6), (8, Z15 x7), (9, vI r8.1), (10, vB r8.2), (20, Z0 p1), (21, vI (p1.length : Int)), (22, vI y6.2), (36, vB b)]) (fun b => [(6, Z82 y6), (8, Z15 x7), (9, vI r8.1), (10, vB r8.2), (20, Z0 p1), (21, vI (p1.length : Int)), (22, vI y6.2), (38, vB (b && r8.2))]) <| OWk.G 1 [(6, Z82 y6), (8, Z15 x7), (9, vI r8.1), (10, vB r8.2), (20, Z0 p1), (21, vI (p1.length : Int)), (22, vI y6.2), (33, vB (x7.Has && r8.2))] <| OWk.E ?_
          refine SW.B (x7.Has && r8.2) (fun hc => ?_) (fun hc => ?_)
          · replace h := bif_t hc h
            refine SW.regionK <| OWk.O (d := some 39) (s := .als 6) [(6, Z82 y6), (8, Z15 x7), (9, vI r8.1), (20, Z0 p1), (21, vI (p1.length : Int)), (22, vI y6.2), (39, .als 6)] (BAt.als (s := 6) (by kernel_rfl)) <| OWk.G 2 [(6, Z82 y6), (20, Z0 p1), (21, vI (p1.length : Int)), (22, vI y6.2), (39, .als 6), (40, vI r8.1), (41, Z16 x7)] ?_
            obtain ⟨x9, hx, h⟩ := bind_inv h
            refine OWk.O (d := some 42) (s := .ep 6 3 (Int.toNat r8.1)) [(6, Z82 y6), (20, Z0 p1), (21, vI (p1.length : Int)), (22, vI y6.2), (41, Z16 x7), (42, Z93 r8)] (BAt.ep (enc := encImage) (xs := y6.1) hx (by kernel_rfl)) ?_
            obtain ⟨hk, h⟩ := chk_inv h
            refine OWk.sep (s := 6) (n := 3) (j := (Int.toNat r8.1)) (enc := encImage) (xs := y6.1) (x := x7) (p := none) 63 H [6, 20, 21, 22] [(6, Z100 y6 r8 x7), (20, Z0 p1), (21, vI (p1.length : Int)), (22, vI y6.2)] hk (by kernel_rfl) (by kernel_rfl) <| OWk.D <| blockS_n <| blockS_n <| thenS_n <| SW.regionK <| OWk.G 2 [(6, Z100 y6 r8 x7), (20, Z0 p1), (21, vI (p1.length : Int)), (22, Z101 y6)] <| OWk.D ?_
            cases h
            exact ⟨((List.set y6.1 (Int.toNat r8.1) x7), (IntKind.wrap .i64 (y6.2 + 1))), rfl, by kernel_rfl⟩
          · replace h := bif_f hc h
            refine SW.R 1 [(6, Z82 y6), (8, Z15 x7), (9, vI r8.1), (10, vB r8.2), (20, Z0 p1), (21, vI (p1.length : Int)), (22, vI y6.2), (43, vB x7.Has)] ?_
            refine SW.B x7.Has (fun hc => ?_) (fun hc => ?_)
            · replace h := bif_t hc h
              refine SW.regionK <| OWk.sg 63 H [46] [20, 21, 22, 46, 47, 49] 4 [(20, Z0 p1), (21, vI (p1.length : Int)), (22, vI y6.2), (46, Z82 y6), (47, vI r8.1), (49, Z94 x7)] (by kernel_rfl) <| OWk.fz 63 H 49 [20, 21, 22, 46, 47, 49] [(20, Z0 p1), (21, vI (p1.length : Int)), (22, vI y6.2), (46, Z82 y6), (47, vI r8.1), (49, Z102 x7)] (by kernel_rfl) ?_
              obtain ⟨r10, hr, h⟩ := bind_inv h
              refine OWk.C (d := some 50) (ls := []) (gs := [(46, 0)]) [0] [(20, Z0 p1), (21, vI (p1.length : Int)), (22, vI y6.2), (50, .own 3 (List.map encImage r10))] (slices_Insert_ok hr) <| OWk.sg 63 H [46] [6, 20, 21, 22] 1 [(6, Z80 r10), (20, Z0 p1), (21, vI (p1.length : Int)), (22, vI y6.2)] (by kernel_rfl) <| OWk.D <| blockS_n <| blockS_n <| thenS_n <| SW.regionK <| OWk.G 2 [(6, Z80 r10), (20, Z0 p1), (21, vI (p1.length : Int)), (22, Z101 y6)] <| OWk.D ?_
              cases h
              exact ⟨(r10, (IntKind.wrap .i64 (y6.2 + 1))), rfl, by kernel_rfl⟩
            · replace h := bif_f hc h
              refine SW.R 1 [(6, Z82 y6), (9, vI r8.1), (20, Z0 p1), (21, vI (p1.length : Int)), (22, vI y6.2), (51, vB r8.2)] ?_
              refine SW.B r8.2 (fun hc => ?_) (fun hc => ?_)
              · replace h := bif_t hc h
                refine SW.regionK <| OWk.sg 63 H [53] [20, 21, 22, 53, 54, 56] 4 [(20, Z0 p1), (21, vI (p1.length : Int)), (22, vI y6.2), (53, Z82 y6), (54, vI r8.1), (56, Z103 r8)] (by kernel_rfl) ?_
                obtain ⟨r11, hr, h⟩ := bind_inv h
                refine OWk.C (d := some 57) (ls := []) (gs := [(53, 0)]) [0] [(20, Z0 p1), (21, vI (p1.length : Int)), (22, vI y6.2), (57, .own 3 (List.map encImage r11))] (slices_Delete_ok hr) <| OWk.sg 63 H [53] [6, 20, 21, 22] 1 [(6, Z80 r11), (20, Z0 p1), (21, vI (p1.length : Int)), (22, vI y6.2)] (by kernel_rfl) <| OWk.D <| blockS_n <| blockS_n <| thenS_n <| SW.regionK <| OWk.G 2 [(6, Z80 r11), (20, Z0 p1), (21, vI (p1.length : Int)), (22, Z101 y6)] <| OWk.D ?_
                cases h
                exact ⟨(r11, (IntKind.wrap .i64 (y6.2 + 1))), rfl, by kernel_rfl⟩
              · replace h := bif_f hc h
                refine SW.skip <| blockS_n <| blockS_n <| thenS_n <| SW.regionK <| OWk.G 2 [(6, Z82 y6), (20, Z0 p1), (21, vI (p1.length : Int)), (22, Z101 y6)] <| OWk.D ?_
                cases h
                exact ⟨(y6.1, (IntKind.wrap .i64 (y6.2 + 1))), rfl, by kernel_rfl⟩
        · replace h := bif_f hc h
          refine SW.K [(6, Z82 y6)] <| SW.exit <| thenS_e ?_
          cases h
          refine thenS_e ?_
          exact ⟨_, rfl, ⟨rfl, rfl⟩⟩
      · rintro _ _ ⟨rfl, rfl⟩
        refine blockS_hit <| thenS_n <| SW.seq <| SW.S <| OWk.G 1 [(6, Z80 v13), (59, Z85 v13)] <| OWk.O (d := some 60) [(6, Z80 v13), (60, vI (v13.length : Int))] (BAt.len (enc := encImage) (xs := v13) (by kernel_rfl)) <| OWk.G 1 [(6, Z80 v13), (61, Z105 v13)] <| OWk.E ?_
        refine SW.B (decide ((v13.length : Int) > 500)) (fun hc => ?_) (fun hc => ?_)
        · replace h := bif_t hc h
          refine SW.R 1 [(4, Z26), (5, vI 4)] <| SW.ret <| thenS_r ?_
          cases h
          exact EndQ.ret [] (by kernel_rfl) rfl
        · replace h := bif_f hc h
          refine SW.skip <| thenS_n <| SW.S <| OWk.sg 63 H [62] [4, 5] 3 [(4, Z80 v13), (5, vI 0)] (by kernel_rfl) <| OWk.E <| SW.ret ?_
          cases h
          exact EndQ.ret [] (by kernel_rfl) rfl
  · refine SW.regionK <| OWk.G 1 [(0, Z0 p0), (1, Z0 p1), (11, Z0 p0)] ?_
    obtain ⟨r3, hr, h⟩ := bind_inv h
    refine OWk.C0 (some 12) [(0, Z0 p0), (1, Z0 p1), (12, vB r3)] (j_ordered_ok hr) <| OWk.G 2 [(0, Z0 p0), (1, Z0 p1), (14, vB (!r3))] ?_
    refine OWk.case (!r3) (fun b => (sp 63 [(0, Z0 p0), (1, Z0 p1), (14, vB b)] H)) (by kernel_rfl) (fun hc => ?_) (fun hc => ?_)
    · replace h := bif_t hc h
      refine OWk.G 3 [(0, Z0 p0), (1, Z0 p1), (17, vB true)] <| OWk.D ?_
      exact ⟨true, [], by kernel_rfl, h⟩
    · replace h := bif_f hc h
      refine OWk.G 1 [(0, Z0 p0), (1, Z0 p1), (14, vB false), (15, Z0 p1)] ?_
      obtain ⟨r4, hr, h⟩ := bind_inv h
      refine OWk.C0 (some 16) [(0, Z0 p0), (1, Z0 p1), (14, vB false), (16, vB r4)] (slices_ContainsFunc__j_Apply_1_ok hr) <| OWk.G 1 [(0, Z0 p0), (1, Z0 p1), (17, vB r4)] <| OWk.D ?_
      exact ⟨r4, [], by kernel_rfl, h⟩
noncomputable def j_State (fuel : Nat) (p0 : (List Image)) (p1 : (List Note)) : Option ((List Image) × Int) :=
  (j_ordered fuel p0).bind fun r1 =>
  bif (!r1) then
    some (([] : List Image), 1)
  else
    (j_Redo fuel p1 0).bind fun r2 =>
    bif (r2.2 != 0) then
      some (([] : List Image), r2.2)
    else
      (j_Apply fuel p0 r2.1).bind fun r3 =>
      some (r3.1, r3.2)
def Z106 (x0 : (List Image) × Int) : SV := .d (.list 3 (List.map encImage x0.1))
theorem j_State_ok {fuel : Nat} {p0 : (List Image)} {p1 : (List Note)} {r : (List Image) × Int} (h : j_State fuel p0 p1 = some r) : PC Try.prog 14 [.d (.list 3 (List.map encImage p0)), .d (.list 5 (List.map encNote p1))] (.tup [.own 3 (List.map encImage r.1), vI r.2]) := by
  refine PC.of_SW Try.func14 rfl fun H => ?_
  unfold j_State at h
  refine SW.kp 24 H [0, 1] [(0, Z0 p0), (1, Z1 p1)] (by kernel_rfl) <| SW.R 1 [(0, Z0 p0), (1, Z1 p1)] <| SW.seq <| SW.S <| OWk.G 1 [(0, Z0 p0), (1, Z1 p1), (8, Z0 p0)] ?_
  obtain ⟨r1, hr, h⟩ := bind_inv h
  refine OWk.C0 (some 9) [(0, Z0 p0), (1, Z1 p1), (9, vB r1)] (j_ordered_ok hr) <| OWk.G 1 [(0, Z0 p0), (1, Z1 p1), (10, vB (!r1))] <| OWk.E ?_
  refine SW.B (!r1) (fun hc => ?_) (fun hc => ?_)
  · replace h := bif_t hc h
    refine SW.R 1 [(4, Z26), (5, vI 1)] <| SW.ret <| thenS_r ?_
    cases h
    exact EndQ.ret [] (by kernel_rfl) rfl
  · replace h := bif_f hc h
    refine SW.skip <| thenS_n <| SW.S <| OWk.G 1 [(0, Z0 p0), (12, Z1 p1)] ?_
    obtain ⟨r2, hr, h⟩ := bind_inv h
    refine OWk.C0 (some 13) [(0, Z0 p0), (13, .tup [.own 3 (List.map encImage r2.1), vI r2.2])] (j_Redo_ok hr) <| OWk.G 5 [(0, Z0 p0), (6, Z82 r2), (7, vI r2.2)] <| OWk.E <| SW.seq <| SW.R 1 [(0, Z0 p0), (6, Z82 r2), (7, vI r2.2), (17, vB (r2.2 != 0))] ?_
    refine SW.B (r2.2 != 0) (fun hc => ?_) (fun hc => ?_)
    · replace h := bif_t hc h
      refine SW.R 1 [(4, Z26), (5, vI r2.2)] <| SW.ret <| thenS_r ?_
      cases h
      exact EndQ.ret [] (by kernel_rfl) rfl
    · replace h := bif_f hc h
      refine SW.skip <| thenS_n <| SW.S <| OWk.sg 24 H [20] [19, 20] 2 [(19, Z0 p0), (20, Z82 r2)] (by kernel_rfl) <| OWk.fz 24 H 20 [19, 20] [(19, Z0 p0), (20, Z106 r2)] (by kernel_rfl) ?_
      obtain ⟨r3, hr, h⟩ := bind_inv h
      refine OWk.C0 (some 21) [(21, .tup [.own 3 (List.map encImage r3.1), vI r3.2])] (j_Apply_ok hr) <| OWk.sg 24 H [20] [4, 5] 4 [(4, Z82 r3), (5, vI r3.2)] (by kernel_rfl) <| OWk.E <| SW.ret ?_
      cases h
      exact EndQ.ret [] (by kernel_rfl) rfl
noncomputable def l_awake (fuel : Nat) : Option (Bool) :=
  (j_State fuel [] [(⟨1, 1, [], false, []⟩ : Note), (⟨2, 1, [120], false, []⟩ : Note), (⟨3, 1, [120], true, [97]⟩ : Note), (⟨5, 1, [], false, []⟩ : Note)]).bind fun r1 =>
  bif (r1.2 == 0) then
    bif ((r1.1.length : Int) == 1) then
      (idx r1.1 0).bind fun x2 =>
      bif (x2.Key == [120]) then
        (idx r1.1 0).bind fun x3 =>
        some (x3.Text == [97])
      else
        some false
    else
      some false
  else
    some false
def Z107 : SV := .d (.list 5 (List.map encNote [(⟨1, 1, [], false, []⟩ : Note), (⟨2, 1, [120], false, []⟩ : Note), (⟨3, 1, [120], true, [97]⟩ : Note), (⟨5, 1, [], false, []⟩ : Note)]))
def Z108 (x0 : (List Image) × Int) : SV := .lent (.slot 1) 3 (List.map encImage x0.1)
def Z109 (x0 : (List Image) × Int) : SV := vB ((x0.1.length : Int) == 1)
theorem l_awake_ok {fuel : Nat} {r : Bool} (h : l_awake fuel = some r) : PC Try.prog 12 [] (vB r) := by
  refine PC.of_SW Try.func12 rfl fun H => ?_
  unfold l_awake at h
  refine SW.kp 33 H [] [] (by kernel_rfl) <| SW.R 1 [] <| SW.S <| OWk.G 5 [(8, Z13)] <| OWk.fz 33 H 8 [8] [(8, Z107)] (by kernel_rfl) ?_
  obtain ⟨r1, hr, h⟩ := bind_inv h
  refine OWk.C0 (some 9) [(9, .tup [.own 3 (List.map encImage r1.1), vI r1.2])] (j_State_ok hr) <| OWk.G 5 [(1, Z82 r1), (2, vI r1.2)] <| OWk.E <| SW.S <| OWk.G 3 [(1, Z82 r1), (14, vB (r1.2 == 0))] ?_
  refine OWk.case (r1.2 == 0) (fun b => (sp 33 [(1, Z82 r1), (14, vB b)] H)) (by kernel_rfl) (fun hc => ?_) (fun hc => ?_)
  · replace h := bif_t hc h
    refine OWk.G 1 [(1, Z82 r1), (14, vB true), (15, Z108 r1)] <| OWk.O (d := some 16) [(1, Z82 r1), (14, vB true), (16, vI (r1.1.length : Int))] (BAt.len (enc := encImage) (xs := r1.1) (by kernel_rfl)) <| OWk.G 3 [(1, Z82 r1), (19, Z109 r1)] ?_
    refine OWk.case ((r1.1.length : Int) == 1) (fun b => (sp 33 [(1, Z82 r1), (19, vB b)] H)) (by kernel_rfl) (fun hc => ?_) (fun hc => ?_)
    · replace h := bif_t hc h
      refine OWk.G 1 [(1, Z82 r1), (19, vB true), (20, Z108 r1)] ?_
      obtain ⟨x2, hx, h⟩ := bind_inv h
      refine OWk.O (d := some 21) (s := lendP (some (.slot 1)) (Go.Sh.D.cells (encImage x2))) [(1, Z82 r1), (19, vB true), (21, .lptr (.slot 1) [.str x2.Key, .bool x2.Has, .str x2.Text])] (BAt.index (n := 3) hx (by kernel_rfl)) <| OWk.G 5 [(1, Z82 r1), (26, vB (x2.Key == [120]))] ?_
      refine OWk.case (x2.Key == [120]) (fun b => (sp 33 [(1, Z82 r1), (26, vB b)] H)) (by kernel_rfl) (fun hc => ?_) (fun hc => ?_)
      · replace h := bif_t hc h
        refine OWk.sg 33 H [27] [26, 27] 1 [(26, vB true), (27, Z82 r1)] (by kernel_rfl) ?_
        obtain ⟨x3, hx, h⟩ := bind_inv h
        refine OWk.O (d := some 28) (s := lendP (some (.slot 27)) (Go.Sh.D.cells (encImage x3))) [(26, vB true), (28, .lptr (.slot 27) [.str x3.Key, .bool x3.Has, .str x3.Text])] (BAt.index (n := 3) hx (by kernel_rfl)) <| OWk.sg 33 H [27] [0] 5 [(0, vB (x3.Text == [97]))] (by kernel_rfl) <| OWk.E <| SW.ret ?_
        cases h
        exact EndQ.ret [] (by kernel_rfl) rfl
      · replace h := bif_f hc h
        refine OWk.sg 33 H [27] [0] 7 [(0, vB false)] (by kernel_rfl) <| OWk.E <| SW.ret ?_
        cases h
        exact EndQ.ret [] (by kernel_rfl) rfl
    · replace h := bif_f hc h
      refine OWk.sg 33 H [27] [0] 14 [(0, vB false)] (by kernel_rfl) <| OWk.E <| SW.ret ?_
      cases h
      exact EndQ.ret [] (by kernel_rfl) rfl
  · replace h := bif_f hc h
    refine OWk.sg 33 H [27] [0] 19 [(0, vB false)] (by kernel_rfl) <| OWk.E <| SW.ret ?_
    cases h
    exact EndQ.ret [] (by kernel_rfl) rfl
def r_image (fuel : Nat) (p0 : Image) : Option (Bool) :=
  bif (decide ((p0.Key.length : Int) ≥ 1)) then
    bif (decide ((p0.Key.length : Int) ≤ 40)) then
      bif (decide ((p0.Text.length : Int) ≤ 4000)) then
        bif p0.Has then
          some true
        else
          some (p0.Text == [])
      else
        some false
    else
      some false
  else
    some false
def Z118 (x0 : Note) : SV := vB (decide ((x0.Text.length : Int) ≥ 1))
def Z119 (x0 : Note) : SV := vB (decide (x0.Unit ≥ 1))
def Z120 (x0 : Note) : SV := vB ((decide (x0.Unit ≥ 1)) && (decide (x0.Unit ≤ 1000)))
def Z121 (x0 : Note) : SV := .d (.agg [.str x0.Key, .bool x0.Has, .str x0.Text])
def Z122 (x0 : Image) : SV := vB (decide ((x0.Key.length : Int) ≥ 1))
theorem r_image_ok {fuel : Nat} {p0 : Image} {r : Bool} (h : r_image fuel p0 = some r) : PC Try.prog 59 [.d (encImage p0)] (vB r) := by
  refine PC.of_SW Try.func59 rfl fun H => ?_
  unfold r_image at h
  refine SW.kp 28 H [0] [(0, Z16 p0)] (by kernel_rfl) <| SW.R 1 [(1, Z15 p0)] <| SW.S <| OWk.G 2 [(1, Z15 p0), (4, vS p0.Key)] <| OWk.G 1 [(1, Z15 p0), (5, Z20 p0)] <| OWk.G 2 [(1, Z15 p0), (7, Z122 p0)] ?_
  refine OWk.case (decide ((p0.Key.length : Int) ≥ 1)) (fun b => (sp 28 [(1, Z15 p0), (7, vB b)] H)) (by kernel_rfl) (fun hc => ?_) (fun hc => ?_)
  · replace h := bif_t hc h
    refine OWk.G 2 [(1, Z15 p0), (7, vB true), (9, vS p0.Key)] <| OWk.G 1 [(1, Z15 p0), (7, vB true), (10, Z20 p0)] <| OWk.G 3 [(1, Z15 p0), (13, Z17 p0)] ?_
    refine OWk.case (decide ((p0.Key.length : Int) ≤ 40)) (fun b => (sp 28 [(1, Z15 p0), (13, vB b)] H)) (by kernel_rfl) (fun hc => ?_) (fun hc => ?_)
    · replace h := bif_t hc h
      refine OWk.G 2 [(1, Z15 p0), (13, vB true), (15, vS p0.Text)] <| OWk.G 1 [(1, Z15 p0), (13, vB true), (16, Z19 p0)] <| OWk.G 3 [(1, Z15 p0), (19, Z18 p0)] ?_
      refine OWk.case (decide ((p0.Text.length : Int) ≤ 4000)) (fun b => (sp 28 [(1, Z15 p0), (19, vB b)] H)) (by kernel_rfl) (fun hc => ?_) (fun hc => ?_)
      · replace h := bif_t hc h
        refine OWk.G 3 [(1, Z15 p0), (19, vB true), (22, vB p0.Has)] ?_
        refine OWk.case p0.Has (fun b => (sp 28 [(1, Z15 p0), (19, vB true), (22, vB b)] H)) (by kernel_rfl) (fun hc => ?_) (fun hc => ?_)
        · replace h := bif_t hc h
          refine OWk.G 6 [(2, vB true)] <| OWk.E <| SW.ret ?_
          cases h
          exact EndQ.ret [] (by kernel_rfl) rfl
        · replace h := bif_f hc h
          refine OWk.G 6 [(2, vB (p0.Text == []))] <| OWk.E <| SW.ret ?_
          cases h
          exact EndQ.ret [] (by kernel_rfl) rfl
      · replace h := bif_f hc h
        refine OWk.G 9 [(2, vB false)] <| OWk.E <| SW.ret ?_
        cases h
        exact EndQ.ret [] (by kernel_rfl) rfl
    · replace h := bif_f hc h
      refine OWk.G 15 [(2, vB false)] <| OWk.E <| SW.ret ?_
      cases h
      exact EndQ.ret [] (by kernel_rfl) rfl
  · replace h := bif_f hc h
    refine OWk.G 21 [(2, vB false)] <| OWk.E <| SW.ret ?_
    cases h
    exact EndQ.ret [] (by kernel_rfl) rfl
def r_Valid (fuel : Nat) (p0 : Note) : Option (Bool) :=
  bif (p0.Kind == 6) then
    bif (((p0.Unit == 0) && (p0.Key == [])) && (!p0.Has)) then
      bif (decide ((p0.Text.length : Int) ≥ 1)) then
        some (decide ((p0.Text.length : Int) ≤ 40))
      else
        some false
    else
      some false
  else
    letJ (fun (j1 : Bool) =>
      bif j1 then
        bif ((decide (p0.Unit ≥ 1)) && (decide (p0.Unit ≤ 1000))) then
          (r_image fuel (⟨p0.Key, p0.Has, p0.Text⟩ : Image)).bind fun r3 =>
          some r3
        else
          some false
      else
        letJ (fun (j4 : Bool) =>
          bif j4 then
            some (((((decide (p0.Unit ≥ 1)) && (decide (p0.Unit ≤ 1000))) && (p0.Key == [])) && (!p0.Has)) && (p0.Text == []))
          else
            some false) fun jp5 =>
        bif (p0.Kind == 1) then
          jp5 true
        else
          bif (p0.Kind == 4) then
            jp5 true
          else
            bif (p0.Kind == 5) then
              jp5 true
            else
              jp5 (p0.Kind == 7)) fun jp2 =>
    bif (p0.Kind == 2) then
      jp2 true
    else
      jp2 (p0.Kind == 3)
def Z123 (x0 : Note) : SV := vB (((decide (x0.Unit ≥ 1)) && (decide (x0.Unit ≤ 1000))) && (x0.Key == []))
def Z124 (x0 : Note) : SV := vB ((((decide (x0.Unit ≥ 1)) && (decide (x0.Unit ≤ 1000))) && (x0.Key == [])) && (!x0.Has))
def Z125 (x0 : Note) : SV := vB (((((decide (x0.Unit ≥ 1)) && (decide (x0.Unit ≤ 1000))) && (x0.Key == [])) && (!x0.Has)) && (x0.Text == []))
theorem r_Valid_ok {fuel : Nat} {p0 : Note} {r : Bool} (h : r_Valid fuel p0 = some r) : PC Try.prog 28 [.d (encNote p0)] (vB r) := by
  refine PC.of_SW Try.func28 rfl fun H => ?_
  unfold r_Valid at h
  refine SW.kp 81 H [0] [(0, Z29 p0)] (by kernel_rfl) <| SW.R 1 [(1, Z30 p0)] <| SW.seq <| SW.R 1 [(1, Z30 p0), (4, vI p0.Kind)] <| SW.block <| SW.R 1 [(1, Z30 p0), (4, vI p0.Kind), (5, vB (p0.Kind == 6))] ?_
  refine SW.B (p0.Kind == 6) (fun hc => ?_) (fun hc => ?_)
  · replace h := bif_t hc h
    refine SW.S <| OWk.G 4 [(1, Z30 p0), (10, vB (p0.Unit == 0))] <| OWk.M 4 (p0.Unit == 0) (fun b => [(1, Z30 p0), (10, vB b)]) (fun b => [(1, Z30 p0), (14, vB (b && (p0.Key == [])))]) <| OWk.G 1 [(1, Z30 p0), (15, Z46 p0)] <| OWk.M 4 ((p0.Unit == 0) && (p0.Key == [])) (fun b => [(1, Z30 p0), (15, vB b)]) (fun b => [(1, Z30 p0), (19, vB (b && (!p0.Has)))]) <| OWk.G 1 [(1, Z30 p0), (20, Z47 p0)] ?_
    refine OWk.case (((p0.Unit == 0) && (p0.Key == [])) && (!p0.Has)) (fun b => (sp 81 [(1, Z30 p0), (20, vB b)] H)) (by kernel_rfl) (fun hc => ?_) (fun hc => ?_)
    · replace h := bif_t hc h
      refine OWk.G 2 [(1, Z30 p0), (20, vB true), (22, vS p0.Text)] <| OWk.G 1 [(1, Z30 p0), (20, vB true), (23, Z5 p0)] <| OWk.G 3 [(1, Z30 p0), (26, Z118 p0)] ?_
      refine OWk.case (decide ((p0.Text.length : Int) ≥ 1)) (fun b => (sp 81 [(1, Z30 p0), (26, vB b)] H)) (by kernel_rfl) (fun hc => ?_) (fun hc => ?_)
      · replace h := bif_t hc h
        refine OWk.G 2 [(26, vB true), (28, vS p0.Text)] <| OWk.G 1 [(26, vB true), (29, Z5 p0)] <| OWk.G 3 [(2, Z49 p0)] <| OWk.E <| SW.ret <| blockS_r <| thenS_r ?_
        cases h
        exact EndQ.ret [] (by kernel_rfl) rfl
      · replace h := bif_f hc h
        refine OWk.G 6 [(2, vB false)] <| OWk.E <| SW.ret <| blockS_r <| thenS_r ?_
        cases h
        exact EndQ.ret [] (by kernel_rfl) rfl
    · replace h := bif_f hc h
      refine OWk.G 12 [(2, vB false)] <| OWk.E <| SW.ret <| blockS_r <| thenS_r ?_
      cases h
      exact EndQ.ret [] (by kernel_rfl) rfl
  · replace h := bif_f hc h
    obtain ⟨jp2, hjjp2, h⟩ := letJ_inv h
    refine SW.jn 81 H [1, 4, 32] (fun (j1 : Bool) => [(1, Z30 p0), (4, vI p0.Kind), (32, vB j1)]) (fun v => jp2 v = some r) (fun j1 h => ?_) ?_
    · rw [hjjp2] at h
      refine SW.B j1 (fun hc => ?_) (fun hc => ?_)
      · replace h := bif_t hc h
        refine SW.S <| OWk.G 4 [(1, Z30 p0), (38, Z119 p0)] <| OWk.M 4 (decide (p0.Unit ≥ 1)) (fun b => [(1, Z30 p0), (38, vB b)]) (fun b => [(1, Z30 p0), (42, vB (b && (decide (p0.Unit ≤ 1000))))]) <| OWk.G 1 [(1, Z30 p0), (43, Z120 p0)] ?_
        refine OWk.case ((decide (p0.Unit ≥ 1)) && (decide (p0.Unit ≤ 1000))) (fun b => (sp 81 [(1, Z30 p0), (43, vB b)] H)) (by kernel_rfl) (fun hc => ?_) (fun hc => ?_)
        · replace h := bif_t hc h
          refine OWk.G 7 [(43, vB true), (50, Z121 p0)] ?_
          obtain ⟨r3, hr, h⟩ := bind_inv h
          refine OWk.C0 (some 51) [(43, vB true), (51, vB r3)] (r_image_ok hr) <| OWk.G 2 [(2, vB r3)] <| OWk.E <| SW.ret <| blockS_r <| thenS_r ?_
          cases h
          exact EndQ.ret [] (by kernel_rfl) rfl
        · replace h := bif_f hc h
          refine OWk.G 10 [(2, vB false)] <| OWk.E <| SW.ret <| blockS_r <| thenS_r ?_
          cases h
          exact EndQ.ret [] (by kernel_rfl) rfl
      · replace h := bif_f hc h
        obtain ⟨jp5, hjjp5, h⟩ := letJ_inv h
        refine SW.jn 81 H [1, 53] (fun (j4 : Bool) => [(1, Z30 p0), (53, vB j4)]) (fun v => jp5 v = some r) (fun j4 h => ?_) ?_
        · rw [hjjp5] at h
          refine SW.B j4 (fun hc => ?_) (fun hc => ?_)
          · replace h := bif_t hc h
            refine SW.S <| OWk.G 4 [(1, Z30 p0), (61, Z119 p0)] <| OWk.M 4 (decide (p0.Unit ≥ 1)) (fun b => [(1, Z30 p0), (61, vB b)]) (fun b => [(1, Z30 p0), (65, vB (b && (decide (p0.Unit ≤ 1000))))]) <| OWk.G 1 [(1, Z30 p0), (66, Z120 p0)] <| OWk.M 4 ((decide (p0.Unit ≥ 1)) && (decide (p0.Unit ≤ 1000))) (fun b => [(1, Z30 p0), (66, vB b)]) (fun b => [(1, Z30 p0), (70, vB (b && (p0.Key == [])))]) <| OWk.G 1 [(1, Z30 p0), (71, Z123 p0)] <| OWk.M 4 (((decide (p0.Unit ≥ 1)) && (decide (p0.Unit ≤ 1000))) && (p0.Key == [])) (fun b => [(1, Z30 p0), (71, vB b)]) (fun b => [(1, Z30 p0), (75, vB (b && (!p0.Has)))]) <| OWk.G 1 [(1, Z30 p0), (76, Z124 p0)] <| OWk.M 4 ((((decide (p0.Unit ≥ 1)) && (decide (p0.Unit ≤ 1000))) && (p0.Key == [])) && (!p0.Has)) (fun b => [(1, Z30 p0), (76, vB b)]) (fun b => [(80, vB (b && (p0.Text == [])))]) <| OWk.G 1 [(2, Z125 p0)] <| OWk.E <| SW.ret <| blockS_r <| thenS_r ?_
            cases h
            exact EndQ.ret [] (by kernel_rfl) rfl
          · replace h := bif_f hc h
            refine SW.skip <| blockS_n <| thenS_n <| SW.R 1 [(2, vB false)] <| SW.ret ?_
            cases h
            exact EndQ.ret [] (by kernel_rfl) rfl
        · refine SW.R 1 [(1, Z30 p0), (4, vI p0.Kind), (53, vB (p0.Kind == 1))] ?_
          refine SW.case (p0.Kind == 1) (fun b => (sp 81 [(1, Z30 p0), (4, vI p0.Kind), (53, vB b)] H)) (by kernel_rfl) (fun hc => ?_) (fun hc => ?_)
          · replace h := bif_t hc h
            refine SW.condT (by kernel_rfl) <| SW.skip ?_
            exact ⟨true, [], by kernel_rfl, h⟩
          · replace h := bif_f hc h
            refine SW.condF (by kernel_rfl) <| SW.R 1 [(1, Z30 p0), (4, vI p0.Kind), (53, vB (p0.Kind == 4))] ?_
            refine SW.case (p0.Kind == 4) (fun b => (sp 81 [(1, Z30 p0), (4, vI p0.Kind), (53, vB b)] H)) (by kernel_rfl) (fun hc => ?_) (fun hc => ?_)
            · replace h := bif_t hc h
              refine SW.condT (by kernel_rfl) <| SW.skip ?_
              exact ⟨true, [], by kernel_rfl, h⟩
            · replace h := bif_f hc h
              refine SW.condF (by kernel_rfl) <| SW.R 1 [(1, Z30 p0), (4, vI p0.Kind), (53, vB (p0.Kind == 5))] ?_
              refine SW.case (p0.Kind == 5) (fun b => (sp 81 [(1, Z30 p0), (4, vI p0.Kind), (53, vB b)] H)) (by kernel_rfl) (fun hc => ?_) (fun hc => ?_)
              · replace h := bif_t hc h
                refine SW.condT (by kernel_rfl) <| SW.skip ?_
                exact ⟨true, [], by kernel_rfl, h⟩
              · replace h := bif_f hc h
                refine SW.condF (by kernel_rfl) <| SW.regionK <| OWk.G 2 [(1, Z30 p0), (53, vB (p0.Kind == 7))] <| OWk.D ?_
                exact ⟨(p0.Kind == 7), [], by kernel_rfl, h⟩
    · refine SW.R 1 [(1, Z30 p0), (4, vI p0.Kind), (32, vB (p0.Kind == 2))] ?_
      refine SW.case (p0.Kind == 2) (fun b => (sp 81 [(1, Z30 p0), (4, vI p0.Kind), (32, vB b)] H)) (by kernel_rfl) (fun hc => ?_) (fun hc => ?_)
      · replace h := bif_t hc h
        refine SW.condT (by kernel_rfl) <| SW.skip ?_
        exact ⟨true, [], by kernel_rfl, h⟩
      · replace h := bif_f hc h
        refine SW.condF (by kernel_rfl) <| SW.regionK <| OWk.G 2 [(1, Z30 p0), (4, vI p0.Kind), (32, vB (p0.Kind == 3))] <| OWk.D ?_
        exact ⟨(p0.Kind == 3), [], by kernel_rfl, h⟩
def r_notes_l1 (fuel : Nat) (p0 : (List Note)) (y1 : Int) : Option ((Int) ⊕ ((Unit) ⊕ ((Bool)))) :=
  bif (decide (y1 < (p0.length : Int))) then
    (idx p0 y1).bind fun x2 =>
    (r_Valid fuel x2).bind fun r3 =>
    bif (!r3) then
      some (.inr (.inr false))
    else
      some (.inl (IntKind.wrap .i64 (y1 + 1)))
  else
    some (.inr (.inl ()))
def r_notes (fuel : Nat) (p0 : (List Note)) : Option (Bool) :=
  (iter (r_notes_l1 fuel p0) fuel 0).bind (Sum.elim (fun v5 =>
    some (decide ((p0.length : Int) ≤ 1000))) (fun r6 =>
    some r6))
theorem r_notes_ok {fuel : Nat} {p0 : (List Note)} {r : Bool} (h : r_notes fuel p0 = some r) : PC Try.prog 56 [.d (.list 5 (List.map encNote p0))] (vB r) := by
  refine PC.of_SW Try.func56 rfl fun H => ?_
  unfold r_notes at h
  refine SW.kp 19 H [0] [(0, Z1 p0)] (by kernel_rfl) <| SW.R 1 [(0, Z1 p0)] <| SW.seq <| SW.R 1 [(0, Z1 p0), (3, vI 0)] <| SW.block ?_
  obtain ⟨z4, hit, h⟩ := bind_inv h
  refine SW.it 19 H [0, 3] (fun y1 => [(0, Z1 p0), (3, vI y1)]) (fun b e s => ((∃ v5, b = (.inl v5) ∧ (e = .exit 0 ∧ s = (sp 19 [(0, Z1 p0)] H))) ∨ (∃ r6, b = (.inr r6) ∧ (e = .ret ∧ EndQ Try.prog Try.f56.results.toList H (vB r6) .ret s)))) hit (by kernel_rfl) (fun y1 o h => ?_) ?_
  · unfold r_notes_l1 at h
    refine SW.seq <| SW.S <| OWk.G 2 [(0, Z1 p0), (3, vI y1), (4, vI y1), (5, Z1 p0)] <| OWk.O (d := some 6) [(0, Z1 p0), (3, vI y1), (4, vI y1), (6, vI (p0.length : Int))] (BAt.len (enc := encNote) (xs := p0) (by kernel_rfl)) <| OWk.G 1 [(0, Z1 p0), (3, vI y1), (7, Z50 y1 p0)] <| OWk.E ?_
    refine SW.B (decide (y1 < (p0.length : Int))) (fun hc => ?_) (fun hc => ?_)
    · replace h := bif_t hc h
      refine SW.skip <| thenS_n <| SW.seq <| SW.block <| SW.S <| OWk.G 2 [(0, Z1 p0), (3, vI y1), (10, Z1 p0), (11, vI y1)] ?_
      obtain ⟨x2, hx, h⟩ := bind_inv h
      refine OWk.O (d := some 12) (s := lendP none (Go.Sh.D.cells (encNote x2))) [(0, Z1 p0), (3, vI y1), (12, .d (.dptr [.int .i64 x2.Kind, .int .i64 x2.Unit, .str x2.Key, .bool x2.Has, .str x2.Text]))] (BAt.index (n := 5) hx (by kernel_rfl)) <| OWk.G 1 [(0, Z1 p0), (3, vI y1), (13, Z29 x2)] ?_
      obtain ⟨r3, hr, h⟩ := bind_inv h
      refine OWk.C0 (some 14) [(0, Z1 p0), (3, vI y1), (14, vB r3)] (r_Valid_ok hr) <| OWk.G 1 [(0, Z1 p0), (3, vI y1), (15, vB (!r3))] <| OWk.E ?_
      refine SW.B (!r3) (fun hc => ?_) (fun hc => ?_)
      · replace h := bif_t hc h
        refine SW.R 1 [(2, vB false)] <| SW.ret <| blockS_r <| thenS_r ?_
        cases h
        refine thenS_r ?_
        exact ⟨_, rfl, .inr (⟨false, rfl, rfl, EndQ.ret [] (by kernel_rfl) rfl⟩)⟩
      · replace h := bif_f hc h
        refine SW.skip <| blockS_n <| thenS_n <| SW.regionK <| OWk.G 3 [(0, Z1 p0), (3, Z24 y1)] <| OWk.D ?_
        cases h
        exact ⟨(IntKind.wrap .i64 (y1 + 1)), rfl, by kernel_rfl⟩
    · replace h := bif_f hc h
      refine SW.K [(0, Z1 p0)] <| SW.exit <| thenS_e ?_
      cases h
      refine thenS_e ?_
      exact ⟨_, rfl, .inl ⟨(), rfl, rfl, rfl⟩⟩
  · rintro _ _ (⟨v5, rfl, rfl, rfl⟩ | ⟨r6, rfl, rfl, hE⟩)
    · replace h := sum_l h
      refine blockS_hit <| thenS_n <| SW.S <| OWk.G 1 [(16, Z1 p0)] <| OWk.O (d := some 17) [(17, vI (p0.length : Int))] (BAt.len (enc := encNote) (xs := p0) (by kernel_rfl)) <| OWk.G 2 [(2, Z27 p0)] <| OWk.E <| SW.ret ?_
      cases h
      exact EndQ.ret [] (by kernel_rfl) rfl
    · replace h := sum_r h
      refine blockS_r <| thenS_r ?_
      cases h
      exact hE
def j_notes (fuel : Nat) (p0 : (List UInt8)) (p1 : Nat) (H : Hp) : Option (Pn ((Unit) × Hp)) :=
  some (.ok ((), H))
def Z236 (x0 : (List UInt8)) : SV := vB (decide ((x0.length : Int) > 65536))
def Z237 : SV := .box [.d (.list 5 (List.map encNote ([] : List Note)))]
def Z238 : SV := .box [vI 0, .d (.int .u64 0), vB false, vI 0]
def Z239 (x0 : (List UInt8)) (x1 : Nat) : SV := .d (.fn (.func 72) [] [.dptr [.str x0], .dptr [.ptr x1 0]])
theorem j_notes_ok {fuel : Nat} {p0 : (List UInt8)} {p1 : Nat} {H : Hp} {r : Pn ((Unit) × Hp)} (h : j_notes fuel p0 p1 H = some r) : SB Try.prog 54 [vS p0, .d (.ptr p1 0)] H (Pn.sv (fun (x : Unit) => (.d (.fn (.func 72) [] [.dptr [.str p0], .dptr [.ptr p1 0]]))) r) := by
  refine SB.of_SW Try.func54 rfl ?_
  unfold j_notes at h
  refine SW.kp 6 H [0, 1] [(0, vS p0), (1, .d (.ptr p1 0))] (by kernel_rfl) <| SW.S <| OWk.bxf 6 H (d := 2) (ds := [.str p0]) [1, 2] [(1, .d (.ptr p1 0)), (2, .d (.dptr [.str p0]))] (by kernel_rfl) (by kernel_rfl) <| OWk.bxf 6 H (d := 3) (ds := [.ptr p1 0]) [2, 3] [(2, .d (.dptr [.str p0])), (3, .d (.dptr [.ptr p1 0]))] (by kernel_rfl) (by kernel_rfl) <| OWk.G 1 [(2, .d (.dptr [.str p0])), (3, .d (.dptr [.ptr p1 0]))] <| OWk.E <| SW.R 1 [(4, Z239 p0 p1)] <| SW.ret ?_
  cases h
  exact EndB.of (EndQ.ret [] (by kernel_rfl) rfl)
def j_reader_next_1_n (fuel : Nat) (p0 : (Option Nat)) (H : Hp) : Option (Hp) :=
  some H
def Z241 : SV := .tup [.d (.agg []), vB false]
theorem j_reader_next_1_n_ok {fuel : Nat} {p0 : (Option Nat)} {H : Hp} {r : Hp} (h : j_reader_next_1_n fuel p0 H = some r) : SDf Try.prog 86 [.d (.dptr [cP.enc p0])] none H r := by
  refine SDf.of_SW (t1 := 1) Try.func86 rfl rfl rfl rfl rfl rfl rfl ?_
  unfold j_reader_next_1_n at h
  refine SW.kp 14 H [0, 1] [(0, .d (.dptr [cP.enc p0])), (1, .d (.nilIface))] (by kernel_rfl) <| SW.block <| SW.S <| OWk.O (d := some 2) (s := .tup [.d (.agg []), vB false]) [(0, .d (.dptr [cP.enc p0])), (1, .d (.nilIface)), (2, Z241)] (BAt.ta (b := false) (T := 119) (t := none) (by kernel_rfl) rfl) <| OWk.G 2 [(0, .d (.dptr [cP.enc p0])), (1, .d (.nilIface)), (3, vB false)] <| OWk.E <| SW.condF (by kernel_rfl) <| SW.S <| OWk.O (d := some 8) (s := .tup [.d (.agg []), vB false]) [(0, .d (.dptr [cP.enc p0])), (8, Z241)] (BAt.ta (b := false) (T := 120) (t := none) (by kernel_rfl) rfl) <| OWk.G 2 [(0, .d (.dptr [cP.enc p0])), (9, vB false)] <| OWk.E <| SW.condF (by kernel_rfl) <| SW.skip <| blockS_n ?_
  cases h
  exact ⟨.inl rfl, rfl⟩
def j_reader_next_1_s (fuel : Nat) (p0 : (Option Nat)) (bt : Nat) (H : Hp) : Option (Hp) :=
  bif (bt == 119) then
    p0.bind fun i1 =>
    (hSet cB H i1 2 true).bind fun H2 =>
    some H2
  else
    bif (bt == 120) then
      p0.bind fun i3 =>
      (hSet (cI .i64) H i3 3 12).bind fun H4 =>
      some H4
    else
      some H
def Z242 (x0 : Nat) : SV := .d (.iface x0 (.agg []))
def Z243 (x0 : Nat) : SV := .tup [.d (.agg []), vB (x0 == 120)]
def Z244 (x0 : Nat) : SV := .tup [.d (.agg []), vB (x0 == 119)]
theorem j_reader_next_1_s_ok {fuel : Nat} {p0 : (Option Nat)} {bt : Nat} {H : Hp} {r : Hp} (h : j_reader_next_1_s fuel p0 bt H = some r) : SDf Try.prog 86 [.d (.dptr [cP.enc p0])] (some bt) H r := by
  refine SDf.of_SW (t1 := 1) Try.func86 rfl rfl rfl rfl rfl rfl rfl ?_
  unfold j_reader_next_1_s at h
  refine SW.kp 14 H [0, 1] [(0, .d (.dptr [cP.enc p0])), (1, Z242 bt)] (by kernel_rfl) <| SW.block <| SW.S <| OWk.O (d := some 2) (s := .tup [.d (.agg []), vB (bt == 119)]) [(0, .d (.dptr [cP.enc p0])), (1, Z242 bt), (2, Z244 bt)] (BAt.ta (b := (bt == 119)) (T := 119) (t := (some bt)) (by kernel_rfl) rfl) <| OWk.G 2 [(0, .d (.dptr [cP.enc p0])), (1, Z242 bt), (3, vB (bt == 119))] <| OWk.E ?_
  refine SW.B (bt == 119) (fun hc => ?_) (fun hc => ?_)
  · replace h := bif_t hc h
    refine SW.regionK <| OWk.G 1 [(5, .d (cP.enc p0))] ?_
    obtain ⟨i1, hp, h⟩ := bind_inv h
    refine OWk.O (d := some 6) (s := .d (.ptr i1 0)) [(6, .d (.ptr i1 0))] (BAt.nilc (p := p0) hp (by kernel_rfl)) <| OWk.G 1 [(7, .d (.ptr i1 2))] ?_
    obtain ⟨H2, hx, h⟩ := bind_inv h
    refine OWk.hst 14 H2 [] [] hx (by kernel_rfl) (by kernel_rfl) <| OWk.D <| blockS_n ?_
    cases h
    exact ⟨.inl rfl, rfl⟩
  · replace h := bif_f hc h
    refine SW.S <| OWk.O (d := some 8) (s := .tup [.d (.agg []), vB (bt == 120)]) [(0, .d (.dptr [cP.enc p0])), (8, Z243 bt)] (BAt.ta (b := (bt == 120)) (T := 120) (t := (some bt)) (by kernel_rfl) rfl) <| OWk.G 2 [(0, .d (.dptr [cP.enc p0])), (9, vB (bt == 120))] <| OWk.E ?_
    refine SW.B (bt == 120) (fun hc => ?_) (fun hc => ?_)
    · replace h := bif_t hc h
      refine SW.regionK <| OWk.G 1 [(11, .d (cP.enc p0))] ?_
      obtain ⟨i3, hp, h⟩ := bind_inv h
      refine OWk.O (d := some 12) (s := .d (.ptr i3 0)) [(12, .d (.ptr i3 0))] (BAt.nilc (p := p0) hp (by kernel_rfl)) <| OWk.G 1 [(13, .d (.ptr i3 3))] ?_
      obtain ⟨H4, hx, h⟩ := bind_inv h
      refine OWk.hst 14 H4 [] [] hx (by kernel_rfl) (by kernel_rfl) <| OWk.D <| blockS_n ?_
      cases h
      exact ⟨.inl rfl, rfl⟩
    · replace h := bif_f hc h
      refine SW.skip <| blockS_n ?_
      cases h
      exact ⟨.inl rfl, rfl⟩
def j_reader_bytes (fuel : Nat) (p0 : Nat) (p1 : Int) (H : Hp) : Option (Pn (((List UInt8)) × Hp)) :=
  (hGet (cI .i64).cell H p0 1).bind fun x1 =>
  (hGet cS.cell H p0 0).bind fun x2 =>
  bif (decide ((IntKind.wrap .i64 (x1 + p1)) > (x2.length : Int))) then
    some (.boom 119 H)
  else
    (hGet (cI .i64).cell H p0 1).bind fun x3 =>
    (hSet (cI .i64) H p0 1 (IntKind.wrap .i64 (x3 + p1))).bind fun H4 =>
    (hGet cS.cell H4 p0 0).bind fun x5 =>
    (hGet (cI .i64).cell H4 p0 1).bind fun x6 =>
    (hGet (cI .i64).cell H4 p0 1).bind fun x7 =>
    chk (slOk x5 (IntKind.wrap .i64 (x6 - p1)) x7) <|
    some (.ok ((sl x5 (IntKind.wrap .i64 (x6 - p1)) x7), H4))
def Z245 : SV := .box [vI 0, vI 0, vS [], vB false, vS []]
def Z246 (x0 : Int) (x1 : Int) : SV := vI (IntKind.wrap .i64 (x0 + x1))
def Z247 (x0 : Int) (x1 : Int) (x2 : (List UInt8)) : SV := vB (decide ((IntKind.wrap .i64 (x0 + x1)) > (x2.length : Int)))
def Z248 : SV := .d (.iface 119 (.agg []))
def Z249 (x0 : Int) (x1 : Int) : SV := vI (IntKind.wrap .i64 (x0 - x1))
def Z250 (x0 : (List UInt8)) (x1 : Int) (x2 : Int) (x3 : Int) : SV := vS (sl x0 (IntKind.wrap .i64 (x1 - x2)) x3)
theorem j_reader_bytes_ok {fuel : Nat} {p0 : Nat} {p1 : Int} {H : Hp} {r : Pn (((List UInt8)) × Hp)} (h : j_reader_bytes fuel p0 p1 H = some r) : SB Try.prog 93 [.d (.ptr p0 0), vI p1] H (Pn.sv (fun (x : (List UInt8)) => (vS x)) r) := by
  refine SB.of_SW Try.func93 rfl ?_
  unfold j_reader_bytes at h
  refine SW.kp 42 H [0, 1] [(0, .d (.ptr p0 0)), (1, vI p1)] (by kernel_rfl) <| SW.R 1 [(0, .d (.ptr p0 0)), (1, vI p1)] <| SW.seq <| SW.seq <| SW.regionDk (by kernel_rfl) (by kernel_rfl) <| OBk.G 3 [(0, .d (.ptr p0 0)), (1, vI p1), (7, .d (.ptr p0 1))] ?_
  obtain ⟨x1, hx, h⟩ := bind_inv h
  refine OBk.O (d := some 8) (s := vI x1) [(0, .d (.ptr p0 0)), (1, vI p1), (8, vI x1)] (BAt.ldH (c := (cI .i64).cell) hx (by kernel_rfl)) <| OBk.G 5 [(0, .d (.ptr p0 0)), (1, vI p1), (10, Z246 x1 p1), (13, .d (.ptr p0 0))] ?_
  obtain ⟨x2, hx, h⟩ := bind_inv h
  refine OBk.O (d := some 14) (s := vS x2) [(0, .d (.ptr p0 0)), (1, vI p1), (10, Z246 x1 p1), (14, vS x2)] (BAt.ldH (c := cS.cell) hx (by kernel_rfl)) <| OBk.G 1 [(0, .d (.ptr p0 0)), (1, vI p1), (10, Z246 x1 p1), (15, vI (x2.length : Int))] <| OBk.G 1 [(0, .d (.ptr p0 0)), (1, vI p1), (16, Z247 x1 p1 x2)] <| OBk.done (by kernel_rfl) <| thenS_n ?_
  refine SW.B (decide ((IntKind.wrap .i64 (x1 + p1)) > (x2.length : Int))) (fun hc => ?_) (fun hc => ?_)
  · replace h := bif_t hc h
    refine SW.regionOT <| OTk.M 2 <| OWk.G 2 [(0, .d (.ptr p0 0)), (1, vI p1), (18, Z248)] <| OWk.D <| OTk.panic 42 (t := 119) (by kernel_rfl) (by kernel_rfl) ?_
    cases h
    refine thenS_p ?_
    exact EndB.boom
  · replace h := bif_f hc h
    refine SW.skip <| thenS_n <| SW.S <| OWk.G 3 [(0, .d (.ptr p0 0)), (1, vI p1), (19, .d (.ptr p0 0)), (21, .d (.ptr p0 1))] ?_
    obtain ⟨x3, hx, h⟩ := bind_inv h
    refine OWk.O (d := some 22) (s := vI x3) [(0, .d (.ptr p0 0)), (1, vI p1), (19, .d (.ptr p0 0)), (22, vI x3)] (BAt.ldH (c := (cI .i64).cell) hx (by kernel_rfl)) <| OWk.G 4 [(0, .d (.ptr p0 0)), (1, vI p1), (24, Z246 x3 p1), (26, .d (.ptr p0 1))] ?_
    obtain ⟨H4, hx, h⟩ := bind_inv h
    refine OWk.hst 42 H4 [0, 1] [(0, .d (.ptr p0 0)), (1, vI p1)] hx (by kernel_rfl) (by kernel_rfl) <| OWk.E <| SW.seq <| SW.regionT 15 (by kernel_rfl) (by kernel_rfl) <| OBk.G 3 [(0, .d (.ptr p0 0)), (1, vI p1), (29, .d (.ptr p0 0))] ?_
    obtain ⟨x5, hx, h⟩ := bind_inv h
    refine OBk.O (d := some 30) (s := vS x5) [(0, .d (.ptr p0 0)), (1, vI p1), (30, vS x5)] (BAt.ldH (c := cS.cell) hx (by kernel_rfl)) <| OBk.G 3 [(0, .d (.ptr p0 0)), (1, vI p1), (30, vS x5), (33, .d (.ptr p0 1))] ?_
    obtain ⟨x6, hx, h⟩ := bind_inv h
    refine OBk.O (d := some 34) (s := vI x6) [(0, .d (.ptr p0 0)), (1, vI p1), (30, vS x5), (34, vI x6)] (BAt.ldH (c := (cI .i64).cell) hx (by kernel_rfl)) <| OBk.G 5 [(30, vS x5), (36, Z249 x6 p1), (39, .d (.ptr p0 1))] ?_
    obtain ⟨x7, hx, h⟩ := bind_inv h
    refine OBk.O (d := some 40) (s := vI x7) [(30, vS x5), (36, Z249 x6 p1), (40, vI x7)] (BAt.ldH (c := (cI .i64).cell) hx (by kernel_rfl)) ?_
    obtain ⟨hk, h⟩ := chk_inv h
    refine OBk.O (d := some 41) [(41, Z250 x5 x6 p1 x7)] (BAt.sliceS hk (by kernel_rfl)) <| OBk.done (by kernel_rfl) <| OWk.G 1 [(4, Z250 x5 x6 p1 x7)] <| OWk.E <| SW.ret ?_
    cases h
    exact EndB.of (EndQ.ret [] (by kernel_rfl) rfl)
def j_reader_number_l1 (fuel : Nat) (r1 : (((List UInt8)) × Hp)) (y2 : Int × Int) : Option ((Int × Int) ⊕ (Int)) :=
  bif (decide (y2.2 < ((nums r1.1).length : Int))) then
    (idx (nums r1.1) y2.2).bind fun x3 =>
    some (.inl ((iBits.or .i64 (IntKind.wrap .i64 (y2.1 * 2 ^ 8)) (IntKind.wrap .i64 x3)), (IntKind.wrap .i64 (y2.2 + 1))))
  else
    some (.inr y2.1)
def j_reader_number (fuel : Nat) (p0 : Nat) (p1 : Int) (H : Hp) : Option (Pn ((Int) × Hp)) :=
  (j_reader_bytes fuel p0 p1 H).bind fun o =>
  Pn.el (fun r1 =>
    (iter (j_reader_number_l1 fuel r1) fuel (0, 0)).bind fun v5 =>
    some (.ok (v5, r1.2)))
  (fun bt bH => some (.boom bt bH)) o
def Z251 (x0 : (((List UInt8)) × Hp)) : SV := .d (.list 1 (List.map (D.int .u8) (nums x0.1)))
def Z252 (x0 : (((List UInt8)) × Hp)) : SV := vI ((nums x0.1).length : Int)
def Z255 (x0 : Int × Int) (x1 : (((List UInt8)) × Hp)) : SV := vB (decide (x0.2 < ((nums x1.1).length : Int)))
def Z256 (x0 : Int × Int) (x1 : Int) : SV := vI (iBits.or .i64 (IntKind.wrap .i64 (x0.1 * 2 ^ 8)) (IntKind.wrap .i64 x1))
theorem j_reader_number_ok {fuel : Nat} {p0 : Nat} {p1 : Int} {H : Hp} {r : Pn ((Int) × Hp)} (h : j_reader_number fuel p0 p1 H = some r) : SB Try.prog 92 [.d (.ptr p0 0), vI p1] H (Pn.sv (fun (x : Int) => (vI x)) r) := by
  refine SB.of_SW Try.func92 rfl ?_
  unfold j_reader_number at h
  refine SW.kp 24 H [0, 1] [(0, .d (.ptr p0 0)), (1, vI p1)] (by kernel_rfl) <| SW.R 2 [(0, .d (.ptr p0 0)), (1, vI p1), (5, vI 0)] <| SW.seq <| SW.seq <| SW.regionOT <| OTk.M 2 <| OWk.G 2 [(5, vI 0), (8, .d (.ptr p0 0)), (9, vI p1)] <| OWk.D ?_
  obtain ⟨o, hr, h⟩ := bind_inv h
  rcases o with r1 | ⟨bt, bH⟩
  · replace h := pn_ok h
    refine OTk.M 6 <| OWk.CH (some 10) [(5, vI 0), (10, vS r1.1)] (SB.sc (j_reader_bytes_ok hr)) <| OWk.tb 24 r1.2 (d := some 11) (s := r1.1) [5, 11] [(5, vI 0), (11, Z251 r1)] (by kernel_rfl) (by kernel_rfl) <| OWk.O (d := some 12) [(5, vI 0), (11, Z251 r1), (12, Z252 r1)] (BAt.len (enc := (D.int .u8)) (xs := (nums r1.1)) (by kernel_rfl)) <| OWk.G 1 [(5, vI 0), (11, Z251 r1), (12, Z252 r1), (13, vI 0)] <| OWk.D <| OTk.D <| thenS_n <| SW.block ?_
    obtain ⟨v5, hit, h⟩ := bind_inv h
    refine SW.it 24 r1.2 [5, 11, 12, 13] (fun y2 => [(5, vI y2.1), (11, Z251 r1), (12, Z252 r1), (13, vI y2.2)]) (fun v5 e s => (e = .exit 0 ∧ s = (sp 24 [(5, vI v5)] r1.2))) hit (by kernel_rfl) (fun y2 o h => ?_) ?_
    · unfold j_reader_number_l1 at h
      refine SW.R 1 [(5, vI y2.1), (11, Z251 r1), (12, Z252 r1), (13, vI y2.2), (14, Z255 y2 r1)] <| SW.seq ?_
      refine SW.B (decide (y2.2 < ((nums r1.1).length : Int))) (fun hc => ?_) (fun hc => ?_)
      · replace h := bif_t hc h
        refine SW.skip <| thenS_n <| SW.seq <| SW.block <| SW.S ?_
        obtain ⟨x3, hx, h⟩ := bind_inv h
        refine OWk.O (d := some 15) (s := lendP none (Go.Sh.D.cells ((D.int .u8) x3))) [(5, vI y2.1), (11, Z251 r1), (12, Z252 r1), (13, vI y2.2), (15, .d (.dptr [.int .u8 x3]))] (BAt.index (n := 1) hx (by kernel_rfl)) <| OWk.G 2 [(5, vI y2.1), (7, .d (.int .u8 x3)), (11, Z251 r1), (12, Z252 r1), (13, vI y2.2)] <| OWk.E <| SW.regionK <| OWk.G 6 [(5, Z256 y2 x3), (11, Z251 r1), (12, Z252 r1), (13, vI y2.2)] <| OWk.D <| blockS_n <| thenS_n <| SW.regionK <| OWk.G 2 [(5, Z256 y2 x3), (11, Z251 r1), (12, Z252 r1), (13, Z10 y2)] <| OWk.D ?_
        cases h
        exact ⟨((iBits.or .i64 (IntKind.wrap .i64 (y2.1 * 2 ^ 8)) (IntKind.wrap .i64 x3)), (IntKind.wrap .i64 (y2.2 + 1))), rfl, by kernel_rfl⟩
      · replace h := bif_f hc h
        refine SW.K [(5, vI y2.1)] <| SW.exit <| thenS_e ?_
        cases h
        refine thenS_e ?_
        exact ⟨_, rfl, ⟨rfl, rfl⟩⟩
    · rintro _ _ ⟨rfl, rfl⟩
      refine blockS_hit <| thenS_n <| SW.R 1 [(4, vI v5)] <| SW.ret ?_
      cases h
      exact EndB.of (EndQ.ret [] (by kernel_rfl) rfl)
  · replace h := pn_boom h
    refine OTk.B (some 10) (j_reader_bytes_ok hr) ?_
    cases h
    refine thenS_p <| thenS_p ?_
    exact EndB.boom
def j_must (fuel : Nat) (p0 : Bool) (H : Hp) : Option (Pn ((Unit) × Hp)) :=
  bif (!p0) then
    some (.boom 120 H)
  else
    some (.ok ((), H))
def Z257 : SV := .d (.iface 120 (.agg []))
theorem j_must_ok {fuel : Nat} {p0 : Bool} {H : Hp} {r : Pn ((Unit) × Hp)} (h : j_must fuel p0 H = some r) : SB Try.prog 91 [vB p0] H (Pn.sv (fun (x : Unit) => (.tup [])) r) := by
  refine SB.of_SW Try.func91 rfl ?_
  unfold j_must at h
  refine SW.kp 6 H [0] [(0, vB p0)] (by kernel_rfl) <| SW.R 1 [(3, vB (!p0))] ?_
  refine SW.B (!p0) (fun hc => ?_) (fun hc => ?_)
  · replace h := bif_t hc h
    refine SW.regionOT <| OTk.M 2 <| OWk.G 2 [(5, Z257)] <| OWk.D <| OTk.panic 6 (t := 120) (by kernel_rfl) (by kernel_rfl) ?_
    cases h
    exact EndB.boom
  · replace h := bif_f hc h
    refine SW.skip ?_
    cases h
    exact EndB.of (EndQ.normal [] (by kernel_rfl) rfl)
def j_eight (fuel : Nat) (p0 : Int) : Option ((List UInt8)) :=
  some (bytes [(IntKind.wrap .u8 (Int.fdiv p0 (2 ^ 56))), (IntKind.wrap .u8 (Int.fdiv p0 (2 ^ 48))), (IntKind.wrap .u8 (Int.fdiv p0 (2 ^ 40))), (IntKind.wrap .u8 (Int.fdiv p0 (2 ^ 32))), (IntKind.wrap .u8 (Int.fdiv p0 (2 ^ 24))), (IntKind.wrap .u8 (Int.fdiv p0 (2 ^ 16))), (IntKind.wrap .u8 (Int.fdiv p0 (2 ^ 8))), (IntKind.wrap .u8 (Int.fdiv p0 (2 ^ 0)))])
def Z258 (x0 : ((Int) × Hp)) : SV := .box [vI x0.1, vI 0, vS [], vB false, vS []]
def Z259 (x0 : ((Int) × Hp)) : SV := vB ((x0.1 == 2) || (x0.1 == 3))
def Z260 (x0 : ((Int) × Hp)) : SV := vI (IntKind.wrap .i64 (x0.1 * 2 ^ 8))
def Z261 (x0 : ((Int) × Hp)) (x1 : ((Int) × Hp)) (x2 : ((Int) × Hp)) : SV := .box [vI x0.1, vI (iBits.or .i64 (IntKind.wrap .i64 (x1.1 * 2 ^ 8)) x2.1), vS [], vB false, vS []]
def Z262 (x0 : ((Int) × Hp)) (x1 : ((Int) × Hp)) : SV := vI (iBits.or .i64 (IntKind.wrap .i64 (x0.1 * 2 ^ 8)) x1.1)
def Z263 (x0 : ((Int) × Hp)) (x1 : ((Int) × Hp)) : SV := vB ((iBits.or .i64 (IntKind.wrap .i64 (x0.1 * 2 ^ 8)) x1.1) == 0)
def Z264 (x0 : ((Int) × Hp)) : SV := vB (decide (x0.1 ≤ 40))
def Z265 (x0 : ((Int) × Hp)) (x1 : ((Int) × Hp)) (x2 : ((Int) × Hp)) (x3 : (((List UInt8)) × Hp)) : SV := .box [vI x0.1, vI (iBits.or .i64 (IntKind.wrap .i64 (x1.1 * 2 ^ 8)) x2.1), vS x3.1, vB false, vS []]
def Z266 (x0 : ((Int) × Hp)) (x1 : ((Int) × Hp)) (x2 : ((Int) × Hp)) (x3 : (((List UInt8)) × Hp)) (x4 : ((Int) × Hp)) : SV := .box [vI x0.1, vI (iBits.or .i64 (IntKind.wrap .i64 (x1.1 * 2 ^ 8)) x2.1), vS x3.1, vB (x4.1 == 1), vS []]
def Z267 (x0 : ((Int) × Hp)) (x1 : Int) : SV := vB (decide (x0.1 ≤ (Int.fdiv x1 (2 ^ 8))))
def Z268 (x0 : ((Int) × Hp)) (x1 : ((Int) × Hp)) (x2 : Int) : SV := vB (decide ((iBits.or .i64 (IntKind.wrap .i64 (x0.1 * 2 ^ 8)) x1.1) ≤ x2))
def Z269 (x0 : ((Int) × Hp)) (x1 : ((Int) × Hp)) : SV := vB (decide ((iBits.or .i64 (IntKind.wrap .i64 (x0.1 * 2 ^ 8)) x1.1) > 0))
def Z270 (x0 : ((Int) × Hp)) (x1 : ((Int) × Hp)) (x2 : ((Int) × Hp)) (x3 : (((List UInt8)) × Hp)) (x4 : ((Int) × Hp)) (x5 : (((List UInt8)) × Hp)) : SV := .box [vI x0.1, vI (iBits.or .i64 (IntKind.wrap .i64 (x1.1 * 2 ^ 8)) x2.1), vS x3.1, vB (x4.1 == 1), vS x5.1]
def Z271 : SV := .d (.int .u64 14695981039346656037)
def Z272 : SV := .box [.d (.int .u8 0), .d (.int .u8 0), .d (.int .u8 0), .d (.int .u8 0), .d (.int .u8 0), .d (.int .u8 0), .d (.int .u8 0), .d (.int .u8 0)]
def Z273 (x0 : Int) : SV := .box [.d (.int .u8 (IntKind.wrap .u8 (Int.fdiv x0 (2 ^ 56)))), .d (.int .u8 0), .d (.int .u8 0), .d (.int .u8 0), .d (.int .u8 0), .d (.int .u8 0), .d (.int .u8 0), .d (.int .u8 0)]
def Z274 (x0 : Int) : SV := .box [.d (.int .u8 (IntKind.wrap .u8 (Int.fdiv x0 (2 ^ 56)))), .d (.int .u8 (IntKind.wrap .u8 (Int.fdiv x0 (2 ^ 48)))), .d (.int .u8 0), .d (.int .u8 0), .d (.int .u8 0), .d (.int .u8 0), .d (.int .u8 0), .d (.int .u8 0)]
def Z275 (x0 : Int) : SV := .box [.d (.int .u8 (IntKind.wrap .u8 (Int.fdiv x0 (2 ^ 56)))), .d (.int .u8 (IntKind.wrap .u8 (Int.fdiv x0 (2 ^ 48)))), .d (.int .u8 (IntKind.wrap .u8 (Int.fdiv x0 (2 ^ 40)))), .d (.int .u8 0), .d (.int .u8 0), .d (.int .u8 0), .d (.int .u8 0), .d (.int .u8 0)]
def Z276 (x0 : Int) : SV := .box [.d (.int .u8 (IntKind.wrap .u8 (Int.fdiv x0 (2 ^ 56)))), .d (.int .u8 (IntKind.wrap .u8 (Int.fdiv x0 (2 ^ 48)))), .d (.int .u8 (IntKind.wrap .u8 (Int.fdiv x0 (2 ^ 40)))), .d (.int .u8 (IntKind.wrap .u8 (Int.fdiv x0 (2 ^ 32)))), .d (.int .u8 0), .d (.int .u8 0), .d (.int .u8 0), .d (.int .u8 0)]
def Z277 (x0 : Int) : SV := .box [.d (.int .u8 (IntKind.wrap .u8 (Int.fdiv x0 (2 ^ 56)))), .d (.int .u8 (IntKind.wrap .u8 (Int.fdiv x0 (2 ^ 48)))), .d (.int .u8 (IntKind.wrap .u8 (Int.fdiv x0 (2 ^ 40)))), .d (.int .u8 (IntKind.wrap .u8 (Int.fdiv x0 (2 ^ 32)))), .d (.int .u8 (IntKind.wrap .u8 (Int.fdiv x0 (2 ^ 24)))), .d (.int .u8 0), .d (.int .u8 0), .d (.int .u8 0)]
def Z278 (x0 : Int) : SV := .box [.d (.int .u8 (IntKind.wrap .u8 (Int.fdiv x0 (2 ^ 56)))), .d (.int .u8 (IntKind.wrap .u8 (Int.fdiv x0 (2 ^ 48)))), .d (.int .u8 (IntKind.wrap .u8 (Int.fdiv x0 (2 ^ 40)))), .d (.int .u8 (IntKind.wrap .u8 (Int.fdiv x0 (2 ^ 32)))), .d (.int .u8 (IntKind.wrap .u8 (Int.fdiv x0 (2 ^ 24)))), .d (.int .u8 (IntKind.wrap .u8 (Int.fdiv x0 (2 ^ 16)))), .d (.int .u8 0), .d (.int .u8 0)]
def Z279 (x0 : Int) : SV := .box [.d (.int .u8 (IntKind.wrap .u8 (Int.fdiv x0 (2 ^ 56)))), .d (.int .u8 (IntKind.wrap .u8 (Int.fdiv x0 (2 ^ 48)))), .d (.int .u8 (IntKind.wrap .u8 (Int.fdiv x0 (2 ^ 40)))), .d (.int .u8 (IntKind.wrap .u8 (Int.fdiv x0 (2 ^ 32)))), .d (.int .u8 (IntKind.wrap .u8 (Int.fdiv x0 (2 ^ 24)))), .d (.int .u8 (IntKind.wrap .u8 (Int.fdiv x0 (2 ^ 16)))), .d (.int .u8 (IntKind.wrap .u8 (Int.fdiv x0 (2 ^ 8)))), .d (.int .u8 0)]
def Z280 (x0 : Int) : SV := .box [.d (.int .u8 (IntKind.wrap .u8 (Int.fdiv x0 (2 ^ 56)))), .d (.int .u8 (IntKind.wrap .u8 (Int.fdiv x0 (2 ^ 48)))), .d (.int .u8 (IntKind.wrap .u8 (Int.fdiv x0 (2 ^ 40)))), .d (.int .u8 (IntKind.wrap .u8 (Int.fdiv x0 (2 ^ 32)))), .d (.int .u8 (IntKind.wrap .u8 (Int.fdiv x0 (2 ^ 24)))), .d (.int .u8 (IntKind.wrap .u8 (Int.fdiv x0 (2 ^ 16)))), .d (.int .u8 (IntKind.wrap .u8 (Int.fdiv x0 (2 ^ 8)))), .d (.int .u8 (IntKind.wrap .u8 (Int.fdiv x0 (2 ^ 0))))]
def Z281 (x0 : Int) : SV := vS (bytes [(IntKind.wrap .u8 (Int.fdiv x0 (2 ^ 56))), (IntKind.wrap .u8 (Int.fdiv x0 (2 ^ 48))), (IntKind.wrap .u8 (Int.fdiv x0 (2 ^ 40))), (IntKind.wrap .u8 (Int.fdiv x0 (2 ^ 32))), (IntKind.wrap .u8 (Int.fdiv x0 (2 ^ 24))), (IntKind.wrap .u8 (Int.fdiv x0 (2 ^ 16))), (IntKind.wrap .u8 (Int.fdiv x0 (2 ^ 8))), (IntKind.wrap .u8 (Int.fdiv x0 (2 ^ 0)))])
def Z282 (x0 : Int) : SV := .d (.list 1 (List.map (D.int .u8) [(IntKind.wrap .u8 (Int.fdiv x0 (2 ^ 56))), (IntKind.wrap .u8 (Int.fdiv x0 (2 ^ 48))), (IntKind.wrap .u8 (Int.fdiv x0 (2 ^ 40))), (IntKind.wrap .u8 (Int.fdiv x0 (2 ^ 32))), (IntKind.wrap .u8 (Int.fdiv x0 (2 ^ 24))), (IntKind.wrap .u8 (Int.fdiv x0 (2 ^ 16))), (IntKind.wrap .u8 (Int.fdiv x0 (2 ^ 8))), (IntKind.wrap .u8 (Int.fdiv x0 (2 ^ 0)))]))
theorem j_eight_ok {fuel : Nat} {p0 : Int} {r : (List UInt8)} (h : j_eight fuel p0 = some r) : PC Try.prog 62 [.d (.int .u64 p0)] (vS r) := by
  refine PC.of_SW Try.func62 rfl fun H => ?_
  unfold j_eight at h
  refine SW.kp 19 H [0] [(0, .d (.int .u64 p0))] (by kernel_rfl) <| SW.R 2 [(0, .d (.int .u64 p0)), (3, Z272)] <| SW.seq <| SW.R 1 [(0, .d (.int .u64 p0)), (3, Z272), (5, vI 0)] <| SW.block ?_
  refine SW.rounds 19 H [0, 3, 5] [(0, .d (.int .u64 p0)), (3, Z272), (5, vI 0)] [[(0, .d (.int .u64 p0)), (3, Z273 p0), (5, vI 1)], [(0, .d (.int .u64 p0)), (3, Z274 p0), (5, vI 2)], [(0, .d (.int .u64 p0)), (3, Z275 p0), (5, vI 3)], [(0, .d (.int .u64 p0)), (3, Z276 p0), (5, vI 4)], [(0, .d (.int .u64 p0)), (3, Z277 p0), (5, vI 5)], [(0, .d (.int .u64 p0)), (3, Z278 p0), (5, vI 6)], [(0, .d (.int .u64 p0)), (3, Z279 p0), (5, vI 7)], [(0, .d (.int .u64 p0)), (3, Z280 p0), (5, vI 8)]] (by kernel_rfl) ⟨?_, ?_, ?_, ?_, ?_, ?_, ?_, ?_, ?_⟩
  · refine SW.R 1 [(0, .d (.int .u64 p0)), (3, Z272), (5, vI 0), (6, vB true)] <| SW.seq <| SW.condT (by kernel_rfl) <| SW.skip <| thenS_n <| SW.seq <| SW.block <| SW.R 1 [(0, .d (.int .u64 p0)), (3, Z272), (4, vI 0), (5, vI 0)] <| SW.regionK <| OWk.G 9 [(0, .d (.int .u64 p0)), (3, Z273 p0), (5, vI 0)] <| OWk.D <| blockS_n <| thenS_n <| SW.regionK <| OWk.G 2 [(0, .d (.int .u64 p0)), (3, Z273 p0), (5, vI 1)] <| OWk.D ?_
    exact ⟨(), by kernel_rfl⟩
  · refine SW.R 1 [(0, .d (.int .u64 p0)), (3, Z273 p0), (5, vI 1), (6, vB true)] <| SW.seq <| SW.condT (by kernel_rfl) <| SW.skip <| thenS_n <| SW.seq <| SW.block <| SW.R 1 [(0, .d (.int .u64 p0)), (3, Z273 p0), (4, vI 1), (5, vI 1)] <| SW.regionK <| OWk.G 9 [(0, .d (.int .u64 p0)), (3, Z274 p0), (5, vI 1)] <| OWk.D <| blockS_n <| thenS_n <| SW.regionK <| OWk.G 2 [(0, .d (.int .u64 p0)), (3, Z274 p0), (5, vI 2)] <| OWk.D ?_
    exact ⟨(), by kernel_rfl⟩
  · refine SW.R 1 [(0, .d (.int .u64 p0)), (3, Z274 p0), (5, vI 2), (6, vB true)] <| SW.seq <| SW.condT (by kernel_rfl) <| SW.skip <| thenS_n <| SW.seq <| SW.block <| SW.R 1 [(0, .d (.int .u64 p0)), (3, Z274 p0), (4, vI 2), (5, vI 2)] <| SW.regionK <| OWk.G 9 [(0, .d (.int .u64 p0)), (3, Z275 p0), (5, vI 2)] <| OWk.D <| blockS_n <| thenS_n <| SW.regionK <| OWk.G 2 [(0, .d (.int .u64 p0)), (3, Z275 p0), (5, vI 3)] <| OWk.D ?_
    exact ⟨(), by kernel_rfl⟩
  · refine SW.R 1 [(0, .d (.int .u64 p0)), (3, Z275 p0), (5, vI 3), (6, vB true)] <| SW.seq <| SW.condT (by kernel_rfl) <| SW.skip <| thenS_n <| SW.seq <| SW.block <| SW.R 1 [(0, .d (.int .u64 p0)), (3, Z275 p0), (4, vI 3), (5, vI 3)] <| SW.regionK <| OWk.G 9 [(0, .d (.int .u64 p0)), (3, Z276 p0), (5, vI 3)] <| OWk.D <| blockS_n <| thenS_n <| SW.regionK <| OWk.G 2 [(0, .d (.int .u64 p0)), (3, Z276 p0), (5, vI 4)] <| OWk.D ?_
    exact ⟨(), by kernel_rfl⟩
  · refine SW.R 1 [(0, .d (.int .u64 p0)), (3, Z276 p0), (5, vI 4), (6, vB true)] <| SW.seq <| SW.condT (by kernel_rfl) <| SW.skip <| thenS_n <| SW.seq <| SW.block <| SW.R 1 [(0, .d (.int .u64 p0)), (3, Z276 p0), (4, vI 4), (5, vI 4)] <| SW.regionK <| OWk.G 9 [(0, .d (.int .u64 p0)), (3, Z277 p0), (5, vI 4)] <| OWk.D <| blockS_n <| thenS_n <| SW.regionK <| OWk.G 2 [(0, .d (.int .u64 p0)), (3, Z277 p0), (5, vI 5)] <| OWk.D ?_
    exact ⟨(), by kernel_rfl⟩
  · refine SW.R 1 [(0, .d (.int .u64 p0)), (3, Z277 p0), (5, vI 5), (6, vB true)] <| SW.seq <| SW.condT (by kernel_rfl) <| SW.skip <| thenS_n <| SW.seq <| SW.block <| SW.R 1 [(0, .d (.int .u64 p0)), (3, Z277 p0), (4, vI 5), (5, vI 5)] <| SW.regionK <| OWk.G 9 [(0, .d (.int .u64 p0)), (3, Z278 p0), (5, vI 5)] <| OWk.D <| blockS_n <| thenS_n <| SW.regionK <| OWk.G 2 [(0, .d (.int .u64 p0)), (3, Z278 p0), (5, vI 6)] <| OWk.D ?_
    exact ⟨(), by kernel_rfl⟩
  · refine SW.R 1 [(0, .d (.int .u64 p0)), (3, Z278 p0), (5, vI 6), (6, vB true)] <| SW.seq <| SW.condT (by kernel_rfl) <| SW.skip <| thenS_n <| SW.seq <| SW.block <| SW.R 1 [(0, .d (.int .u64 p0)), (3, Z278 p0), (4, vI 6), (5, vI 6)] <| SW.regionK <| OWk.G 9 [(0, .d (.int .u64 p0)), (3, Z279 p0), (5, vI 6)] <| OWk.D <| blockS_n <| thenS_n <| SW.regionK <| OWk.G 2 [(0, .d (.int .u64 p0)), (3, Z279 p0), (5, vI 7)] <| OWk.D ?_
    exact ⟨(), by kernel_rfl⟩
  · refine SW.R 1 [(0, .d (.int .u64 p0)), (3, Z279 p0), (5, vI 7), (6, vB true)] <| SW.seq <| SW.condT (by kernel_rfl) <| SW.skip <| thenS_n <| SW.seq <| SW.block <| SW.R 1 [(0, .d (.int .u64 p0)), (3, Z279 p0), (4, vI 7), (5, vI 7)] <| SW.regionK <| OWk.G 9 [(0, .d (.int .u64 p0)), (3, Z280 p0), (5, vI 7)] <| OWk.D <| blockS_n <| thenS_n <| SW.regionK <| OWk.G 2 [(0, .d (.int .u64 p0)), (3, Z280 p0), (5, vI 8)] <| OWk.D ?_
    exact ⟨(), by kernel_rfl⟩
  · refine SW.R 1 [(0, .d (.int .u64 p0)), (3, Z280 p0), (5, vI 8), (6, vB false)] <| SW.seq <| SW.condF (by kernel_rfl) <| SW.exit <| thenS_e <| thenS_e <| blockS_hit <| thenS_n <| SW.S <| OWk.slb 19 H (s := 3) (d := 17) (ds := List.map (D.int .u8) [(IntKind.wrap .u8 (Int.fdiv p0 (2 ^ 56))), (IntKind.wrap .u8 (Int.fdiv p0 (2 ^ 48))), (IntKind.wrap .u8 (Int.fdiv p0 (2 ^ 40))), (IntKind.wrap .u8 (Int.fdiv p0 (2 ^ 32))), (IntKind.wrap .u8 (Int.fdiv p0 (2 ^ 24))), (IntKind.wrap .u8 (Int.fdiv p0 (2 ^ 16))), (IntKind.wrap .u8 (Int.fdiv p0 (2 ^ 8))), (IntKind.wrap .u8 (Int.fdiv p0 (2 ^ 0)))]) [17] [(17, Z282 p0)] (by kernel_rfl) (by kernel_rfl) <| OWk.O (d := some 18) [(18, Z281 p0)] (BAt.str (l := [(IntKind.wrap .u8 (Int.fdiv p0 (2 ^ 56))), (IntKind.wrap .u8 (Int.fdiv p0 (2 ^ 48))), (IntKind.wrap .u8 (Int.fdiv p0 (2 ^ 40))), (IntKind.wrap .u8 (Int.fdiv p0 (2 ^ 32))), (IntKind.wrap .u8 (Int.fdiv p0 (2 ^ 24))), (IntKind.wrap .u8 (Int.fdiv p0 (2 ^ 16))), (IntKind.wrap .u8 (Int.fdiv p0 (2 ^ 8))), (IntKind.wrap .u8 (Int.fdiv p0 (2 ^ 0)))]) (by kernel_rfl)) <| OWk.G 1 [(2, Z281 p0)] <| OWk.E <| SW.ret ?_
    cases h
    exact EndQ.ret [] (by kernel_rfl) rfl
def j_Sum_l1 (fuel : Nat) (p1 : (List UInt8)) (r1 : (List UInt8)) (y2 : Int × Int) : Option ((Int × Int) ⊕ (Int)) :=
  bif (decide (y2.2 < ((nums (r1 ++ p1)).length : Int))) then
    (idx (nums (r1 ++ p1)) y2.2).bind fun x3 =>
    some (.inl ((IntKind.wrap .u64 ((iBits.xor .u64 y2.1 (IntKind.wrap .u64 x3)) * 1099511628211)), (IntKind.wrap .i64 (y2.2 + 1))))
  else
    some (.inr y2.1)
def j_Sum (fuel : Nat) (p0 : Int) (p1 : (List UInt8)) : Option (Int) :=
  (j_eight fuel p0).bind fun r1 =>
  chk (decide ((r1 ++ p1).length ≤ room)) <|
  (iter (j_Sum_l1 fuel p1 r1) fuel (14695981039346656037, 0)).bind fun v5 =>
  some v5
def Z283 (x0 : (List UInt8)) (x1 : (List UInt8)) : SV := .d (.list 1 (List.map (D.int .u8) (nums (x0 ++ x1))))
def Z284 (x0 : (List UInt8)) (x1 : (List UInt8)) : SV := vI ((nums (x0 ++ x1)).length : Int)
def Z287 (x0 : Int × Int) (x1 : (List UInt8)) (x2 : (List UInt8)) : SV := vB (decide (x0.2 < ((nums (x1 ++ x2)).length : Int)))
def Z288 (x0 : Int × Int) (x1 : Int) : SV := .d (.int .u64 (IntKind.wrap .u64 ((iBits.xor .u64 x0.1 (IntKind.wrap .u64 x1)) * 1099511628211)))
theorem j_Sum_ok {fuel : Nat} {p0 : Int} {p1 : (List UInt8)} {r : Int} (h : j_Sum fuel p0 p1 = some r) : PC Try.prog 30 [.d (.int .u64 p0), vS p1] (.d (.int .u64 r)) := by
  refine PC.of_SW Try.func30 rfl fun H => ?_
  unfold j_Sum at h
  refine SW.kp 25 H [0, 1] [(0, .d (.int .u64 p0)), (1, vS p1)] (by kernel_rfl) <| SW.R 2 [(0, .d (.int .u64 p0)), (1, vS p1), (5, Z271)] <| SW.seq <| SW.S <| OWk.G 1 [(1, vS p1), (5, Z271), (8, .d (.int .u64 p0))] ?_
  obtain ⟨r1, hr, h⟩ := bind_inv h
  refine OWk.C0 (some 9) [(1, vS p1), (5, Z271), (9, vS r1)] (j_eight_ok hr) <| OWk.G 1 [(5, Z271), (9, vS r1), (10, vS p1)] ?_
  obtain ⟨hk, h⟩ := chk_inv h
  refine OWk.O (d := some 11) [(5, Z271), (11, vS (r1 ++ p1))] (BAt.addS hk (by kernel_rfl)) <| OWk.tb 25 H (d := some 12) (s := (r1 ++ p1)) [5, 12] [(5, Z271), (12, Z283 r1 p1)] (by kernel_rfl) (by kernel_rfl) <| OWk.O (d := some 13) [(5, Z271), (12, Z283 r1 p1), (13, Z284 r1 p1)] (BAt.len (enc := (D.int .u8)) (xs := (nums (r1 ++ p1))) (by kernel_rfl)) <| OWk.G 1 [(5, Z271), (12, Z283 r1 p1), (13, Z284 r1 p1), (14, vI 0)] <| OWk.E <| SW.block ?_
  obtain ⟨v5, hit, h⟩ := bind_inv h
  refine SW.it 25 H [5, 12, 13, 14] (fun y2 => [(5, .d (.int .u64 y2.1)), (12, Z283 r1 p1), (13, Z284 r1 p1), (14, vI y2.2)]) (fun v5 e s => (e = .exit 0 ∧ s = (sp 25 [(5, .d (.int .u64 v5))] H))) hit (by kernel_rfl) (fun y2 o h => ?_) ?_
  · unfold j_Sum_l1 at h
    refine SW.R 1 [(5, .d (.int .u64 y2.1)), (12, Z283 r1 p1), (13, Z284 r1 p1), (14, vI y2.2), (15, Z287 y2 r1 p1)] <| SW.seq ?_
    refine SW.B (decide (y2.2 < ((nums (r1 ++ p1)).length : Int))) (fun hc => ?_) (fun hc => ?_)
    · replace h := bif_t hc h
      refine SW.skip <| thenS_n <| SW.seq <| SW.block <| SW.S ?_
      obtain ⟨x3, hx, h⟩ := bind_inv h
      refine OWk.O (d := some 16) (s := lendP none (Go.Sh.D.cells ((D.int .u8) x3))) [(5, .d (.int .u64 y2.1)), (12, Z283 r1 p1), (13, Z284 r1 p1), (14, vI y2.2), (16, .d (.dptr [.int .u8 x3]))] (BAt.index (n := 1) hx (by kernel_rfl)) <| OWk.G 2 [(5, .d (.int .u64 y2.1)), (7, .d (.int .u8 x3)), (12, Z283 r1 p1), (13, Z284 r1 p1), (14, vI y2.2)] <| OWk.E <| SW.regionK <| OWk.G 6 [(5, Z288 y2 x3), (12, Z283 r1 p1), (13, Z284 r1 p1), (14, vI y2.2)] <| OWk.D <| blockS_n <| thenS_n <| SW.regionK <| OWk.G 2 [(5, Z288 y2 x3), (12, Z283 r1 p1), (13, Z284 r1 p1), (14, Z10 y2)] <| OWk.D ?_
      cases h
      exact ⟨((IntKind.wrap .u64 ((iBits.xor .u64 y2.1 (IntKind.wrap .u64 x3)) * 1099511628211)), (IntKind.wrap .i64 (y2.2 + 1))), rfl, by kernel_rfl⟩
    · replace h := bif_f hc h
      refine SW.K [(5, .d (.int .u64 y2.1))] <| SW.exit <| thenS_e ?_
      cases h
      refine thenS_e ?_
      exact ⟨_, rfl, ⟨rfl, rfl⟩⟩
  · rintro _ _ ⟨rfl, rfl⟩
    refine blockS_hit <| thenS_n <| SW.R 1 [(4, .d (.int .u64 v5))] <| SW.ret ?_
    cases h
    exact EndQ.ret [] (by kernel_rfl) rfl
def j_reader_note_l1 (fuel : Nat) (p0 : Nat) (r42 : (List UInt8)) (y43 : Int × Hp) : Option ((Int × Hp) ⊕ ((Hp) ⊕ ((Pn ((Note × Int) × Hp))))) :=
  bif (decide (y43.1 < ((nums r42).length : Int))) then
    (idx (nums r42) y43.1).bind fun x44 =>
    (j_reader_bytes fuel p0 1 y43.2).bind fun o =>
    Pn.el (fun r45 =>
      (idx r45.1 0).bind fun b46 =>
      (j_must fuel ((b46.toNat : Int) == x44) r45.2).bind fun o =>
      Pn.el (fun r47 =>
        some (.inl ((IntKind.wrap .i64 (y43.1 + 1)), r47.2)))
      (fun bt bH => some (.inr (.inr (.boom bt bH)))) o)
    (fun bt bH => some (.inr (.inr (.boom bt bH)))) o
  else
    some (.inr (.inl y43.2))
def j_reader_note (fuel : Nat) (p0 : Nat) (p1 : Int) (H : Hp) : Option (Pn ((Note × Int) × Hp)) :=
  (hGet (cI .i64).cell H p0 1).bind fun x1 =>
  (j_reader_number fuel p0 1 H).bind fun o =>
  Pn.el (fun r2 =>
    (j_must fuel (r2.1 == 74) r2.2).bind fun o =>
    Pn.el (fun r3 =>
      (j_reader_number fuel p0 1 r3.2).bind fun o =>
      Pn.el (fun r4 =>
        (j_must fuel ((decide (r4.1 ≥ 1)) && (decide (r4.1 ≤ 7))) r4.2).bind fun o =>
        Pn.el (fun r5 =>
          (j_reader_number fuel p0 1 r5.2).bind fun o =>
          Pn.el (fun r6 =>
            letJ (fun (j7 : Hp) =>
              (j_reader_number fuel p0 1 j7).bind fun o =>
              Pn.el (fun r12 =>
                letJ (fun (j13 : Hp) =>
                  (j_reader_number fuel p0 1 j13).bind fun o =>
                  Pn.el (fun r19 =>
                    (j_must fuel ((decide (r19.1 ≤ 40)) && (((r4.1 == 2) || (r4.1 == 3)) == (decide (r19.1 > 0)))) r19.2).bind fun o =>
                    Pn.el (fun r20 =>
                      (j_reader_bytes fuel p0 r19.1 r20.2).bind fun o =>
                      Pn.el (fun r21 =>
                        (j_reader_number fuel p0 1 r21.2).bind fun o =>
                        Pn.el (fun r22 =>
                          letJ (fun (j23 : Hp) =>
                            letJ (fun (j28 : Int) =>
                              (j_reader_number fuel p0 1 j23).bind fun o =>
                              Pn.el (fun r30 =>
                                (j_must fuel (decide (r30.1 ≤ (Int.fdiv j28 (2 ^ 8)))) r30.2).bind fun o =>
                                Pn.el (fun r31 =>
                                  (j_reader_number fuel p0 1 r31.2).bind fun o =>
                                  Pn.el (fun r32 =>
                                    letJ (fun (j33 : Hp) =>
                                      (j_reader_bytes fuel p0 (iBits.or .i64 (IntKind.wrap .i64 (r30.1 * 2 ^ 8)) r32.1) j33).bind fun o =>
                                      Pn.el (fun r38 =>
                                        (hGet cS.cell r38.2 p0 0).bind fun x39 =>
                                        (hGet (cI .i64).cell r38.2 p0 1).bind fun x40 =>
                                        chk (slOk x39 x1 x40) <|
                                        (j_Sum fuel p1 (sl x39 x1 x40)).bind fun r41 =>
                                        (j_eight fuel r41).bind fun r42 =>
                                        (iter (j_reader_note_l1 fuel p0 r42) fuel (0, r38.2)).bind (Sum.elim (fun v49 =>
                                          some (.ok (((⟨r4.1, (iBits.or .i64 (IntKind.wrap .i64 (r6.1 * 2 ^ 8)) r12.1), r21.1, (r22.1 == 1), r38.1⟩ : Note), r41), v49))) (fun r50 =>
                                          some r50)))
                                      (fun bt bH => some (.boom bt bH)) o) fun jp34 =>
                                    bif (decide ((iBits.or .i64 (IntKind.wrap .i64 (r30.1 * 2 ^ 8)) r32.1) ≤ j28)) then
                                      bif (r4.1 != 6) then
                                        (j_must fuel true r32.2).bind fun o =>
                                        Pn.el (fun r35 =>
                                          jp34 r35.2)
                                        (fun bt bH => some (.boom bt bH)) o
                                      else
                                        (j_must fuel (decide ((iBits.or .i64 (IntKind.wrap .i64 (r30.1 * 2 ^ 8)) r32.1) > 0)) r32.2).bind fun o =>
                                        Pn.el (fun r36 =>
                                          jp34 r36.2)
                                        (fun bt bH => some (.boom bt bH)) o
                                    else
                                      (j_must fuel false r32.2).bind fun o =>
                                      Pn.el (fun r37 =>
                                        jp34 r37.2)
                                      (fun bt bH => some (.boom bt bH)) o)
                                  (fun bt bH => some (.boom bt bH)) o)
                                (fun bt bH => some (.boom bt bH)) o)
                              (fun bt bH => some (.boom bt bH)) o) fun jp29 =>
                            bif (r4.1 == 6) then
                              jp29 40
                            else
                              bif (r22.1 == 1) then
                                jp29 4000
                              else
                                jp29 0) fun jp24 =>
                          bif (r22.1 == 0) then
                            (j_must fuel true r22.2).bind fun o =>
                            Pn.el (fun r25 =>
                              jp24 r25.2)
                            (fun bt bH => some (.boom bt bH)) o
                          else
                            bif (r22.1 == 1) then
                              (j_must fuel ((r4.1 == 2) || (r4.1 == 3)) r22.2).bind fun o =>
                              Pn.el (fun r26 =>
                                jp24 r26.2)
                              (fun bt bH => some (.boom bt bH)) o
                            else
                              (j_must fuel false r22.2).bind fun o =>
                              Pn.el (fun r27 =>
                                jp24 r27.2)
                              (fun bt bH => some (.boom bt bH)) o)
                        (fun bt bH => some (.boom bt bH)) o)
                      (fun bt bH => some (.boom bt bH)) o)
                    (fun bt bH => some (.boom bt bH)) o)
                  (fun bt bH => some (.boom bt bH)) o) fun jp14 =>
                (j_unit fuel (iBits.or .i64 (IntKind.wrap .i64 (r6.1 * 2 ^ 8)) r12.1)).bind fun r15 =>
                bif (r15 && (r4.1 != 6)) then
                  (j_must fuel true r12.2).bind fun o =>
                  Pn.el (fun r16 =>
                    jp14 r16.2)
                  (fun bt bH => some (.boom bt bH)) o
                else
                  bif (r4.1 == 6) then
                    (j_must fuel ((iBits.or .i64 (IntKind.wrap .i64 (r6.1 * 2 ^ 8)) r12.1) == 0) r12.2).bind fun o =>
                    Pn.el (fun r17 =>
                      jp14 r17.2)
                    (fun bt bH => some (.boom bt bH)) o
                  else
                    (j_must fuel false r12.2).bind fun o =>
                    Pn.el (fun r18 =>
                      jp14 r18.2)
                    (fun bt bH => some (.boom bt bH)) o)
              (fun bt bH => some (.boom bt bH)) o) fun jp8 =>
            bif (decide (r6.1 ≤ 3)) then
              bif (r4.1 != 6) then
                (j_must fuel true r6.2).bind fun o =>
                Pn.el (fun r9 =>
                  jp8 r9.2)
                (fun bt bH => some (.boom bt bH)) o
              else
                (j_must fuel (r6.1 == 0) r6.2).bind fun o =>
                Pn.el (fun r10 =>
                  jp8 r10.2)
                (fun bt bH => some (.boom bt bH)) o
            else
              (j_must fuel false r6.2).bind fun o =>
              Pn.el (fun r11 =>
                jp8 r11.2)
              (fun bt bH => some (.boom bt bH)) o)
          (fun bt bH => some (.boom bt bH)) o)
        (fun bt bH => some (.boom bt bH)) o)
      (fun bt bH => some (.boom bt bH)) o)
    (fun bt bH => some (.boom bt bH)) o)
  (fun bt bH => some (.boom bt bH)) o
def Z289 (x0 : (List UInt8)) : SV := .d (.list 1 (List.map (D.int .u8) (nums x0)))
def Z290 (x0 : (List UInt8)) : SV := vI ((nums x0).length : Int)
def Z292 (x0 : UInt8) (x1 : Int) : SV := vB ((x0.toNat : Int) == x1)
def Z293 (x0 : Int × Hp) (x1 : (List UInt8)) : SV := vB (decide (x0.1 < ((nums x1).length : Int)))
theorem j_reader_note_ok {fuel : Nat} {p0 : Nat} {p1 : Int} {H : Hp} {r : Pn ((Note × Int) × Hp)} (h : j_reader_note fuel p0 p1 H = some r) : SB Try.prog 87 [.d (.ptr p0 0), .d (.int .u64 p1)] H (Pn.sv (fun (x : Note × Int) => (.tup [.d (.agg [.int .i64 x.1.Kind, .int .i64 x.1.Unit, .str x.1.Key, .bool x.1.Has, .str x.1.Text]), .d (.int .u64 x.2)])) r) := by
  refine SB.of_SW Try.func87 rfl ?_
  unfold j_reader_note at h
  refine SW.kp 179 H [0, 1] [(0, .d (.ptr p0 0)), (1, .d (.int .u64 p1))] (by kernel_rfl) <| SW.R 1 [(0, .d (.ptr p0 0)), (1, .d (.int .u64 p1)), (4, Z245)] <| SW.S <| OWk.G 3 [(0, .d (.ptr p0 0)), (1, .d (.int .u64 p1)), (4, Z245), (19, .d (.ptr p0 1))] ?_
  obtain ⟨x1, hx, h⟩ := bind_inv h
  refine OWk.O (d := some 20) (s := vI x1) [(0, .d (.ptr p0 0)), (1, .d (.int .u64 p1)), (4, Z245), (20, vI x1)] (BAt.ldH (c := (cI .i64).cell) hx (by kernel_rfl)) <| OWk.G 1 [(0, .d (.ptr p0 0)), (1, .d (.int .u64 p1)), (4, Z245), (6, vI x1)] <| OWk.E <| SW.seq <| SW.regionOT <| OTk.M 1 <| OWk.G 1 [(0, .d (.ptr p0 0)), (1, .d (.int .u64 p1)), (4, Z245), (6, vI x1), (21, .d (.ptr p0 0))] <| OWk.D ?_
  obtain ⟨o, hr, h⟩ := bind_inv h
  rcases o with r2 | ⟨bt, bH⟩
  · replace h := pn_ok h
    refine OTk.M 3 <| OWk.CH (some 22) [(0, .d (.ptr p0 0)), (1, .d (.int .u64 p1)), (4, Z245), (6, vI x1), (22, vI r2.1)] (SB.sc (j_reader_number_ok hr)) <| OWk.G 1 [(0, .d (.ptr p0 0)), (1, .d (.int .u64 p1)), (4, Z245), (6, vI x1), (23, vB (r2.1 == 74))] <| OWk.D ?_
    obtain ⟨o, hr, h⟩ := bind_inv h
    rcases o with r3 | ⟨bt, bH⟩
    · replace h := pn_ok h
      refine OTk.M 4 <| OWk.CH (some 24) [(0, .d (.ptr p0 0)), (1, .d (.int .u64 p1)), (4, Z245), (6, vI x1)] (SB.sc (j_must_ok hr)) <| OWk.D <| OTk.D <| thenS_n <| SW.seq <| SW.regionOT <| OTk.M 1 <| OWk.G 1 [(0, .d (.ptr p0 0)), (1, .d (.int .u64 p1)), (4, Z245), (6, vI x1), (25, .d (.ptr p0 0))] <| OWk.D ?_
      obtain ⟨o, hr, h⟩ := bind_inv h
      rcases o with r4 | ⟨bt, bH⟩
      · replace h := pn_ok h
        refine OTk.M 5 <| OWk.CH (some 26) [(0, .d (.ptr p0 0)), (1, .d (.int .u64 p1)), (4, Z245), (6, vI x1), (26, vI r4.1)] (SB.sc (j_reader_number_ok hr)) <| OWk.G 3 [(0, .d (.ptr p0 0)), (1, .d (.int .u64 p1)), (4, Z245), (6, vI x1), (7, Z258 r4)] <| OWk.D <| OTk.D <| thenS_n <| SW.seq <| SW.regionOT <| OTk.M 8 <| OWk.G 4 [(0, .d (.ptr p0 0)), (1, .d (.int .u64 p1)), (4, Z245), (6, vI x1), (7, Z258 r4), (31, vB (decide (r4.1 ≥ 1)))] <| OWk.M 4 (decide (r4.1 ≥ 1)) (fun b => [(0, .d (.ptr p0 0)), (1, .d (.int .u64 p1)), (4, Z245), (6, vI x1), (7, Z258 r4), (31, vB b)]) (fun b => [(0, .d (.ptr p0 0)), (1, .d (.int .u64 p1)), (4, Z245), (6, vI x1), (7, Z258 r4), (35, vB (b && (decide (r4.1 ≤ 7))))]) <| OWk.D ?_
        obtain ⟨o, hr, h⟩ := bind_inv h
        rcases o with r5 | ⟨bt, bH⟩
        · replace h := pn_ok h
          refine OTk.M 9 <| OWk.CH (some 36) [(0, .d (.ptr p0 0)), (1, .d (.int .u64 p1)), (4, Z245), (6, vI x1), (7, Z258 r4)] (SB.sc (j_must_ok hr)) <| OWk.D <| OTk.D <| thenS_n <| SW.S <| OWk.G 4 [(0, .d (.ptr p0 0)), (1, .d (.int .u64 p1)), (4, Z245), (6, vI x1), (7, Z258 r4), (40, vB (r4.1 == 2))] <| OWk.M 4 (r4.1 == 2) (fun b => [(0, .d (.ptr p0 0)), (1, .d (.int .u64 p1)), (4, Z245), (6, vI x1), (7, Z258 r4), (40, vB b)]) (fun b => [(0, .d (.ptr p0 0)), (1, .d (.int .u64 p1)), (4, Z245), (6, vI x1), (7, Z258 r4), (44, vB (b || (r4.1 == 3)))]) <| OWk.G 1 [(0, .d (.ptr p0 0)), (1, .d (.int .u64 p1)), (4, Z245), (6, vI x1), (7, Z258 r4), (8, Z259 r4)] <| OWk.E <| SW.seq <| SW.regionOT <| OTk.M 1 <| OWk.G 1 [(0, .d (.ptr p0 0)), (1, .d (.int .u64 p1)), (4, Z245), (6, vI x1), (7, Z258 r4), (8, Z259 r4), (45, .d (.ptr p0 0))] <| OWk.D ?_
          obtain ⟨o, hr, h⟩ := bind_inv h
          rcases o with r6 | ⟨bt, bH⟩
          · replace h := pn_ok h
            refine OTk.M 3 <| OWk.CH (some 46) [(0, .d (.ptr p0 0)), (1, .d (.int .u64 p1)), (4, Z245), (6, vI x1), (7, Z258 r4), (8, Z259 r4), (46, vI r6.1)] (SB.sc (j_reader_number_ok hr)) <| OWk.G 1 [(0, .d (.ptr p0 0)), (1, .d (.int .u64 p1)), (4, Z245), (6, vI x1), (7, Z258 r4), (8, Z259 r4), (9, vI r6.1)] <| OWk.D <| OTk.D <| thenS_n ?_
            obtain ⟨jp8, hjjp8, h⟩ := letJ_inv h
            refine SW.jnH 179 [0, 1, 4, 6, 7, 8, 9] (fun (j7 : Hp) => [(0, .d (.ptr p0 0)), (1, .d (.int .u64 p1)), (4, Z245), (6, vI x1), (7, Z258 r4), (8, Z259 r4), (9, vI r6.1)]) (fun (j7 : Hp) => j7) (fun v => jp8 v = some r) (fun j7 h => ?_) ?_
            · rw [hjjp8] at h
              refine SW.seq <| SW.regionOT <| OTk.M 3 <| OWk.G 3 [(0, .d (.ptr p0 0)), (1, .d (.int .u64 p1)), (4, Z245), (6, vI x1), (7, Z258 r4), (8, Z259 r4), (60, Z260 r6), (61, .d (.ptr p0 0))] <| OWk.D ?_
              obtain ⟨o, hr, h⟩ := bind_inv h
              rcases o with r12 | ⟨bt, bH⟩
              · replace h := pn_ok h
                refine OTk.M 7 <| OWk.CH (some 62) [(0, .d (.ptr p0 0)), (1, .d (.int .u64 p1)), (4, Z245), (6, vI x1), (7, Z258 r4), (8, Z259 r4), (60, Z260 r6), (62, vI r12.1)] (SB.sc (j_reader_number_ok hr)) <| OWk.G 3 [(0, .d (.ptr p0 0)), (1, .d (.int .u64 p1)), (4, Z245), (6, vI x1), (7, Z261 r4 r6 r12), (8, Z259 r4)] <| OWk.D <| OTk.D <| thenS_n ?_
                obtain ⟨jp14, hjjp14, h⟩ := letJ_inv h
                refine SW.jnH 179 [0, 1, 4, 6, 7, 8] (fun (j13 : Hp) => [(0, .d (.ptr p0 0)), (1, .d (.int .u64 p1)), (4, Z245), (6, vI x1), (7, Z261 r4 r6 r12), (8, Z259 r4)]) (fun (j13 : Hp) => j13) (fun v => jp14 v = some r) (fun j13 h => ?_) ?_
                · rw [hjjp14] at h
                  refine SW.seq <| SW.regionOT <| OTk.M 1 <| OWk.G 1 [(0, .d (.ptr p0 0)), (1, .d (.int .u64 p1)), (4, Z245), (6, vI x1), (7, Z261 r4 r6 r12), (8, Z259 r4), (84, .d (.ptr p0 0))] <| OWk.D ?_
                  obtain ⟨o, hr, h⟩ := bind_inv h
                  rcases o with r19 | ⟨bt, bH⟩
                  · replace h := pn_ok h
                    refine OTk.M 3 <| OWk.CH (some 85) [(0, .d (.ptr p0 0)), (1, .d (.int .u64 p1)), (4, Z245), (6, vI x1), (7, Z261 r4 r6 r12), (8, Z259 r4), (85, vI r19.1)] (SB.sc (j_reader_number_ok hr)) <| OWk.G 1 [(0, .d (.ptr p0 0)), (1, .d (.int .u64 p1)), (4, Z245), (6, vI x1), (7, Z261 r4 r6 r12), (8, Z259 r4), (10, vI r19.1)] <| OWk.D <| OTk.D <| thenS_n <| SW.seq <| SW.regionOT <| OTk.M 8 <| OWk.G 3 [(0, .d (.ptr p0 0)), (1, .d (.int .u64 p1)), (4, Z245), (6, vI x1), (7, Z261 r4 r6 r12), (8, Z259 r4), (10, vI r19.1), (88, Z264 r19)] <| OWk.M 5 (decide (r19.1 ≤ 40)) (fun b => [(0, .d (.ptr p0 0)), (1, .d (.int .u64 p1)), (4, Z245), (6, vI x1), (7, Z261 r4 r6 r12), (8, Z259 r4), (10, vI r19.1), (88, vB b)]) (fun b => [(0, .d (.ptr p0 0)), (1, .d (.int .u64 p1)), (4, Z245), (6, vI x1), (7, Z261 r4 r6 r12), (8, Z259 r4), (10, vI r19.1), (93, vB (b && (((r4.1 == 2) || (r4.1 == 3)) == (decide (r19.1 > 0)))))]) <| OWk.D ?_
                    obtain ⟨o, hr, h⟩ := bind_inv h
                    rcases o with r20 | ⟨bt, bH⟩
                    · replace h := pn_ok h
                      refine OTk.M 9 <| OWk.CH (some 94) [(0, .d (.ptr p0 0)), (1, .d (.int .u64 p1)), (4, Z245), (6, vI x1), (7, Z261 r4 r6 r12), (8, Z259 r4), (10, vI r19.1)] (SB.sc (j_must_ok hr)) <| OWk.D <| OTk.D <| thenS_n <| SW.seq <| SW.regionOT <| OTk.M 2 <| OWk.G 2 [(0, .d (.ptr p0 0)), (1, .d (.int .u64 p1)), (4, Z245), (6, vI x1), (7, Z261 r4 r6 r12), (8, Z259 r4), (95, .d (.ptr p0 0)), (96, vI r19.1)] <| OWk.D ?_
                      obtain ⟨o, hr, h⟩ := bind_inv h
                      rcases o with r21 | ⟨bt, bH⟩
                      · replace h := pn_ok h
                        refine OTk.M 5 <| OWk.CH (some 97) [(0, .d (.ptr p0 0)), (1, .d (.int .u64 p1)), (4, Z245), (6, vI x1), (7, Z261 r4 r6 r12), (8, Z259 r4), (97, vS r21.1)] (SB.sc (j_reader_bytes_ok hr)) <| OWk.G 2 [(0, .d (.ptr p0 0)), (1, .d (.int .u64 p1)), (4, Z245), (6, vI x1), (7, Z265 r4 r6 r12 r21), (8, Z259 r4)] <| OWk.D <| OTk.D <| thenS_n <| SW.seq <| SW.regionOT <| OTk.M 1 <| OWk.G 1 [(0, .d (.ptr p0 0)), (1, .d (.int .u64 p1)), (4, Z245), (6, vI x1), (7, Z265 r4 r6 r12 r21), (8, Z259 r4), (99, .d (.ptr p0 0))] <| OWk.D ?_
                        obtain ⟨o, hr, h⟩ := bind_inv h
                        rcases o with r22 | ⟨bt, bH⟩
                        · replace h := pn_ok h
                          refine OTk.M 3 <| OWk.CH (some 100) [(0, .d (.ptr p0 0)), (1, .d (.int .u64 p1)), (4, Z245), (6, vI x1), (7, Z265 r4 r6 r12 r21), (8, Z259 r4), (100, vI r22.1)] (SB.sc (j_reader_number_ok hr)) <| OWk.G 1 [(0, .d (.ptr p0 0)), (1, .d (.int .u64 p1)), (4, Z245), (6, vI x1), (7, Z265 r4 r6 r12 r21), (8, Z259 r4), (11, vI r22.1)] <| OWk.D <| OTk.D <| thenS_n ?_
                          obtain ⟨jp24, hjjp24, h⟩ := letJ_inv h
                          refine SW.jnH 179 [0, 1, 4, 6, 7, 11] (fun (j23 : Hp) => [(0, .d (.ptr p0 0)), (1, .d (.int .u64 p1)), (4, Z245), (6, vI x1), (7, Z265 r4 r6 r12 r21), (11, vI r22.1)]) (fun (j23 : Hp) => j23) (fun v => jp24 v = some r) (fun j23 h => ?_) ?_
                          · rw [hjjp24] at h
                            refine SW.R 2 [(0, .d (.ptr p0 0)), (1, .d (.int .u64 p1)), (4, Z245), (6, vI x1), (7, Z266 r4 r6 r12 r21 r22), (12, vI 0)] ?_
                            obtain ⟨jp29, hjjp29, h⟩ := letJ_inv h
                            refine SW.jn 179 j23 [0, 1, 4, 6, 7, 12] (fun (j28 : Int) => [(0, .d (.ptr p0 0)), (1, .d (.int .u64 p1)), (4, Z245), (6, vI x1), (7, Z266 r4 r6 r12 r21 r22), (12, vI j28)]) (fun v => jp29 v = some r) (fun j28 h => ?_) ?_
                            · rw [hjjp29] at h
                              refine SW.seq <| SW.regionOT <| OTk.M 1 <| OWk.G 1 [(0, .d (.ptr p0 0)), (1, .d (.int .u64 p1)), (4, Z245), (6, vI x1), (7, Z266 r4 r6 r12 r21 r22), (12, vI j28), (121, .d (.ptr p0 0))] <| OWk.D ?_
                              obtain ⟨o, hr, h⟩ := bind_inv h
                              rcases o with r30 | ⟨bt, bH⟩
                              · replace h := pn_ok h
                                refine OTk.M 3 <| OWk.CH (some 122) [(0, .d (.ptr p0 0)), (1, .d (.int .u64 p1)), (4, Z245), (6, vI x1), (7, Z266 r4 r6 r12 r21 r22), (12, vI j28), (122, vI r30.1)] (SB.sc (j_reader_number_ok hr)) <| OWk.G 1 [(0, .d (.ptr p0 0)), (1, .d (.int .u64 p1)), (4, Z245), (6, vI x1), (7, Z266 r4 r6 r12 r21 r22), (9, vI r30.1), (12, vI j28)] <| OWk.D <| OTk.D <| thenS_n <| SW.seq <| SW.regionOT <| OTk.M 4 <| OWk.G 4 [(0, .d (.ptr p0 0)), (1, .d (.int .u64 p1)), (4, Z245), (6, vI x1), (7, Z266 r4 r6 r12 r21 r22), (9, vI r30.1), (12, vI j28), (126, Z267 r30 j28)] <| OWk.D ?_
                                obtain ⟨o, hr, h⟩ := bind_inv h
                                rcases o with r31 | ⟨bt, bH⟩
                                · replace h := pn_ok h
                                  refine OTk.M 5 <| OWk.CH (some 127) [(0, .d (.ptr p0 0)), (1, .d (.int .u64 p1)), (4, Z245), (6, vI x1), (7, Z266 r4 r6 r12 r21 r22), (9, vI r30.1), (12, vI j28)] (SB.sc (j_must_ok hr)) <| OWk.D <| OTk.D <| thenS_n <| SW.seq <| SW.regionOT <| OTk.M 3 <| OWk.G 3 [(0, .d (.ptr p0 0)), (1, .d (.int .u64 p1)), (4, Z245), (6, vI x1), (7, Z266 r4 r6 r12 r21 r22), (12, vI j28), (129, Z260 r30), (130, .d (.ptr p0 0))] <| OWk.D ?_
                                  obtain ⟨o, hr, h⟩ := bind_inv h
                                  rcases o with r32 | ⟨bt, bH⟩
                                  · replace h := pn_ok h
                                    refine OTk.M 6 <| OWk.CH (some 131) [(0, .d (.ptr p0 0)), (1, .d (.int .u64 p1)), (4, Z245), (6, vI x1), (7, Z266 r4 r6 r12 r21 r22), (12, vI j28), (129, Z260 r30), (131, vI r32.1)] (SB.sc (j_reader_number_ok hr)) <| OWk.G 2 [(0, .d (.ptr p0 0)), (1, .d (.int .u64 p1)), (4, Z245), (6, vI x1), (7, Z266 r4 r6 r12 r21 r22), (12, vI j28), (13, Z262 r30 r32)] <| OWk.D <| OTk.D <| thenS_n ?_
                                    obtain ⟨jp34, hjjp34, h⟩ := letJ_inv h
                                    refine SW.jnH 179 [0, 1, 4, 6, 7, 13] (fun (j33 : Hp) => [(0, .d (.ptr p0 0)), (1, .d (.int .u64 p1)), (4, Z245), (6, vI x1), (7, Z266 r4 r6 r12 r21 r22), (13, Z262 r30 r32)]) (fun (j33 : Hp) => j33) (fun v => jp34 v = some r) (fun j33 h => ?_) ?_
                                    · rw [hjjp34] at h
                                      refine SW.seq <| SW.regionOT <| OTk.M 2 <| OWk.G 2 [(0, .d (.ptr p0 0)), (1, .d (.int .u64 p1)), (4, Z245), (6, vI x1), (7, Z266 r4 r6 r12 r21 r22), (146, .d (.ptr p0 0)), (147, Z262 r30 r32)] <| OWk.D ?_
                                      obtain ⟨o, hr, h⟩ := bind_inv h
                                      rcases o with r38 | ⟨bt, bH⟩
                                      · replace h := pn_ok h
                                        refine OTk.M 5 <| OWk.CH (some 148) [(0, .d (.ptr p0 0)), (1, .d (.int .u64 p1)), (4, Z245), (6, vI x1), (7, Z266 r4 r6 r12 r21 r22), (148, vS r38.1)] (SB.sc (j_reader_bytes_ok hr)) <| OWk.G 2 [(0, .d (.ptr p0 0)), (1, .d (.int .u64 p1)), (4, Z245), (6, vI x1), (7, Z270 r4 r6 r12 r21 r22 r38)] <| OWk.D <| OTk.D <| thenS_n <| SW.seq <| SW.regionQ (by kernel_rfl) (by kernel_rfl) <| OQk.G 4 [(0, .d (.ptr p0 0)), (4, Z245), (6, vI x1), (7, Z270 r4 r6 r12 r21 r22 r38), (150, .d (.int .u64 p1)), (153, .d (.ptr p0 0))] ?_
                                        obtain ⟨x39, hx, h⟩ := bind_inv h
                                        refine OQk.on 179 r38.2 (d := some 154) (s := vS x39) [0, 4, 6, 7, 150, 154] [(0, .d (.ptr p0 0)), (4, Z245), (6, vI x1), (7, Z270 r4 r6 r12 r21 r22 r38), (150, .d (.int .u64 p1)), (154, vS x39)] (BAt.ldH (c := cS.cell) hx (by kernel_rfl)) (by kernel_rfl) <| OQk.G 4 [(0, .d (.ptr p0 0)), (4, Z245), (7, Z270 r4 r6 r12 r21 r22 r38), (150, .d (.int .u64 p1)), (154, vS x39), (155, vI x1), (158, .d (.ptr p0 1))] ?_
                                        obtain ⟨x40, hx, h⟩ := bind_inv h
                                        refine OQk.on 179 r38.2 (d := some 159) (s := vI x40) [0, 4, 7, 150, 154, 155, 159] [(0, .d (.ptr p0 0)), (4, Z245), (7, Z270 r4 r6 r12 r21 r22 r38), (150, .d (.int .u64 p1)), (154, vS x39), (155, vI x1), (159, vI x40)] (BAt.ldH (c := (cI .i64).cell) hx (by kernel_rfl)) (by kernel_rfl) ?_
                                        obtain ⟨hk, h⟩ := chk_inv h
                                        refine OQk.on 179 r38.2 (d := some 160) [0, 4, 7, 150, 160] [(0, .d (.ptr p0 0)), (4, Z245), (7, Z270 r4 r6 r12 r21 r22 r38), (150, .d (.int .u64 p1)), (160, vS (sl x39 x1 x40))] (BAt.sliceS hk (by kernel_rfl)) (by kernel_rfl) ?_
                                        obtain ⟨r41, hr, h⟩ := bind_inv h
                                        refine OQk.cl 179 r38.2 (d := some 161) (ls := []) [0, 4, 7, 161] [(0, .d (.ptr p0 0)), (4, Z245), (7, Z270 r4 r6 r12 r21 r22 r38), (161, .d (.int .u64 r41))] (j_Sum_ok hr) (by kernel_rfl) (by kernel_rfl) (by kernel_rfl) <| OQk.G 1 [(0, .d (.ptr p0 0)), (4, Z245), (7, Z270 r4 r6 r12 r21 r22 r38), (14, .d (.int .u64 r41))] <| OQk.done (by kernel_rfl) <| thenS_n <| SW.seq <| SW.S <| OWk.G 1 [(0, .d (.ptr p0 0)), (4, Z245), (7, Z270 r4 r6 r12 r21 r22 r38), (14, .d (.int .u64 r41)), (162, .d (.int .u64 r41))] ?_
                                        obtain ⟨r42, hr, h⟩ := bind_inv h
                                        refine OWk.C0 (some 163) [(0, .d (.ptr p0 0)), (4, Z245), (7, Z270 r4 r6 r12 r21 r22 r38), (14, .d (.int .u64 r41)), (163, vS r42)] (j_eight_ok hr) <| OWk.tb 179 r38.2 (d := some 164) (s := r42) [0, 4, 7, 14, 164] [(0, .d (.ptr p0 0)), (4, Z245), (7, Z270 r4 r6 r12 r21 r22 r38), (14, .d (.int .u64 r41)), (164, Z289 r42)] (by kernel_rfl) (by kernel_rfl) <| OWk.O (d := some 165) [(0, .d (.ptr p0 0)), (4, Z245), (7, Z270 r4 r6 r12 r21 r22 r38), (14, .d (.int .u64 r41)), (164, Z289 r42), (165, Z290 r42)] (BAt.len (enc := (D.int .u8)) (xs := (nums r42)) (by kernel_rfl)) <| OWk.G 1 [(0, .d (.ptr p0 0)), (4, Z245), (7, Z270 r4 r6 r12 r21 r22 r38), (14, .d (.int .u64 r41)), (164, Z289 r42), (165, Z290 r42), (166, vI 0)] <| OWk.E <| SW.block ?_
                                        obtain ⟨z48, hit, h⟩ := bind_inv h
                                        refine SW.itH 179 [0, 4, 7, 14, 164, 165, 166] (fun y43 => [(0, .d (.ptr p0 0)), (4, Z245), (7, Z270 r4 r6 r12 r21 r22 r38), (14, .d (.int .u64 r41)), (164, Z289 r42), (165, Z290 r42), (166, vI y43.1)]) (fun y43 => y43.2) (fun b e s => ((∃ v49, b = (.inl v49) ∧ (e = .exit 1 ∧ s = (sp 179 [(4, Z245), (7, Z270 r4 r6 r12 r21 r22 r38), (14, .d (.int .u64 r41))] v49))) ∨ (∃ r50, b = (.inr r50) ∧ (AbR e ∧ EndB Try.prog Try.f87.results.toList (Pn.sv (fun (x : Note × Int) => (.tup [.d (.agg [.int .i64 x.1.Kind, .int .i64 x.1.Unit, .str x.1.Key, .bool x.1.Has, .str x.1.Text]), .d (.int .u64 x.2)])) r50) e s)))) hit (by kernel_rfl) (fun y43 o h => ?_) ?_
                                        · unfold j_reader_note_l1 at h
                                          refine SW.R 1 [(0, .d (.ptr p0 0)), (4, Z245), (7, Z270 r4 r6 r12 r21 r22 r38), (14, .d (.int .u64 r41)), (164, Z289 r42), (165, Z290 r42), (166, vI y43.1), (167, Z293 y43 r42)] <| SW.seq ?_
                                          refine SW.B (decide (y43.1 < ((nums r42).length : Int))) (fun hc => ?_) (fun hc => ?_)
                                          · replace h := bif_t hc h
                                            refine SW.skip <| thenS_n <| SW.seq <| SW.block <| SW.S ?_
                                            obtain ⟨x44, hx, h⟩ := bind_inv h
                                            refine OWk.O (d := some 168) (s := lendP none (Go.Sh.D.cells ((D.int .u8) x44))) [(0, .d (.ptr p0 0)), (4, Z245), (7, Z270 r4 r6 r12 r21 r22 r38), (14, .d (.int .u64 r41)), (164, Z289 r42), (165, Z290 r42), (166, vI y43.1), (168, .d (.dptr [.int .u8 x44]))] (BAt.index (n := 1) hx (by kernel_rfl)) <| OWk.G 2 [(0, .d (.ptr p0 0)), (4, Z245), (7, Z270 r4 r6 r12 r21 r22 r38), (14, .d (.int .u64 r41)), (16, .d (.int .u8 x44)), (164, Z289 r42), (165, Z290 r42), (166, vI y43.1)] <| OWk.E <| SW.regionOT <| OTk.M 1 <| OWk.G 1 [(0, .d (.ptr p0 0)), (4, Z245), (7, Z270 r4 r6 r12 r21 r22 r38), (14, .d (.int .u64 r41)), (16, .d (.int .u8 x44)), (164, Z289 r42), (165, Z290 r42), (166, vI y43.1), (170, .d (.ptr p0 0))] <| OWk.D ?_
                                            obtain ⟨o, hr, h⟩ := bind_inv h
                                            rcases o with r45 | ⟨bt, bH⟩
                                            · replace h := pn_ok h
                                              refine OTk.M 5 <| OWk.CH (some 171) [(0, .d (.ptr p0 0)), (4, Z245), (7, Z270 r4 r6 r12 r21 r22 r38), (14, .d (.int .u64 r41)), (16, .d (.int .u8 x44)), (164, Z289 r42), (165, Z290 r42), (166, vI y43.1), (171, vS r45.1)] (SB.sc (j_reader_bytes_ok hr)) ?_
                                              obtain ⟨b46, hx, h⟩ := bind_inv h
                                              refine OWk.O (d := some 172) [(0, .d (.ptr p0 0)), (4, Z245), (7, Z270 r4 r6 r12 r21 r22 r38), (14, .d (.int .u64 r41)), (16, .d (.int .u8 x44)), (164, Z289 r42), (165, Z290 r42), (166, vI y43.1), (172, .d (.int .u8 (b46.toNat : Int)))] (BAt.indexS hx (by kernel_rfl)) <| OWk.G 2 [(0, .d (.ptr p0 0)), (4, Z245), (7, Z270 r4 r6 r12 r21 r22 r38), (14, .d (.int .u64 r41)), (164, Z289 r42), (165, Z290 r42), (166, vI y43.1), (174, Z292 b46 x44)] <| OWk.D ?_
                                              obtain ⟨o, hr, h⟩ := bind_inv h
                                              rcases o with r47 | ⟨bt, bH⟩
                                              · replace h := pn_ok h
                                                refine OTk.M 6 <| OWk.CH (some 175) [(0, .d (.ptr p0 0)), (4, Z245), (7, Z270 r4 r6 r12 r21 r22 r38), (14, .d (.int .u64 r41)), (164, Z289 r42), (165, Z290 r42), (166, vI y43.1)] (SB.sc (j_must_ok hr)) <| OWk.D <| OTk.D <| blockS_n <| thenS_n <| SW.regionK <| OWk.G 2 [(0, .d (.ptr p0 0)), (4, Z245), (7, Z270 r4 r6 r12 r21 r22 r38), (14, .d (.int .u64 r41)), (164, Z289 r42), (165, Z290 r42), (166, Z58 y43)] <| OWk.D ?_
                                                cases h
                                                exact ⟨((IntKind.wrap .i64 (y43.1 + 1)), r47.2), rfl, by kernel_rfl⟩
                                              · replace h := pn_boom h
                                                refine OTk.B (some 175) (j_must_ok hr) ?_
                                                cases h
                                                refine blockS_p <| thenS_p <| thenS_p ?_
                                                exact ⟨_, rfl, .inr (⟨(.boom bt bH), rfl, .inr ⟨_, rfl⟩, EndB.boom⟩)⟩
                                            · replace h := pn_boom h
                                              refine OTk.B (some 171) (j_reader_bytes_ok hr) ?_
                                              cases h
                                              refine blockS_p <| thenS_p <| thenS_p ?_
                                              exact ⟨_, rfl, .inr (⟨(.boom bt bH), rfl, .inr ⟨_, rfl⟩, EndB.boom⟩)⟩
                                          · replace h := bif_f hc h
                                            refine SW.K [(4, Z245), (7, Z270 r4 r6 r12 r21 r22 r38), (14, .d (.int .u64 r41))] <| SW.exit <| thenS_e ?_
                                            cases h
                                            refine thenS_e ?_
                                            exact ⟨_, rfl, .inl ⟨y43.2, rfl, rfl, rfl⟩⟩
                                        · rintro _ _ (⟨v49, rfl, rfl, rfl⟩ | ⟨r50, rfl, hA, hE⟩)
                                          · replace h := sum_l h
                                            refine blockS_hit <| thenS_n <| SW.R 1 [(4, Z270 r4 r6 r12 r21 r22 r38), (5, .d (.int .u64 r41))] <| SW.ret ?_
                                            cases h
                                            exact EndB.of (EndQ.ret [] (by kernel_rfl) rfl)
                                          · replace h := sum_r h
                                            refine blockS_ab hA <| thenS_ab hA ?_
                                            cases h
                                            exact hE
                                      · replace h := pn_boom h
                                        refine OTk.B (some 148) (j_reader_bytes_ok hr) ?_
                                        cases h
                                        refine thenS_p ?_
                                        exact EndB.boom
                                    · refine SW.regionOT <| OTk.M 12 <| OWk.G 4 [(0, .d (.ptr p0 0)), (1, .d (.int .u64 p1)), (4, Z245), (6, vI x1), (7, Z266 r4 r6 r12 r21 r22), (13, Z262 r30 r32), (136, Z268 r30 r32 j28)] ?_
                                      refine OWk.case (decide ((iBits.or .i64 (IntKind.wrap .i64 (r30.1 * 2 ^ 8)) r32.1) ≤ j28)) (fun b => (sp 179 [(0, .d (.ptr p0 0)), (1, .d (.int .u64 p1)), (4, Z245), (6, vI x1), (7, Z266 r4 r6 r12 r21 r22), (13, Z262 r30 r32), (136, vB b)] r32.2)) (by kernel_rfl) (fun hc => ?_) (fun hc => ?_)
                                      · replace h := bif_t hc h
                                        refine OWk.G 4 [(0, .d (.ptr p0 0)), (1, .d (.int .u64 p1)), (4, Z245), (6, vI x1), (7, Z266 r4 r6 r12 r21 r22), (13, Z262 r30 r32), (136, vB true), (140, vB (r4.1 != 6))] ?_
                                        refine OWk.case (r4.1 != 6) (fun b => (sp 179 [(0, .d (.ptr p0 0)), (1, .d (.int .u64 p1)), (4, Z245), (6, vI x1), (7, Z266 r4 r6 r12 r21 r22), (13, Z262 r30 r32), (136, vB true), (140, vB b)] r32.2)) (by kernel_rfl) (fun hc => ?_) (fun hc => ?_)
                                        · replace h := bif_t hc h
                                          refine OWk.G 4 [(0, .d (.ptr p0 0)), (1, .d (.int .u64 p1)), (4, Z245), (6, vI x1), (7, Z266 r4 r6 r12 r21 r22), (13, Z262 r30 r32), (144, vB true)] <| OWk.D ?_
                                          obtain ⟨o, hr, h⟩ := bind_inv h
                                          rcases o with r35 | ⟨bt, bH⟩
                                          · replace h := pn_ok h
                                            refine OTk.M 13 <| OWk.CH (some 145) [(0, .d (.ptr p0 0)), (1, .d (.int .u64 p1)), (4, Z245), (6, vI x1), (7, Z266 r4 r6 r12 r21 r22), (13, Z262 r30 r32)] (SB.sc (j_must_ok hr)) <| OWk.D <| OTk.D ?_
                                            exact ⟨r35.2, [], by kernel_rfl, h⟩
                                          · replace h := pn_boom h
                                            refine OTk.B (some 145) (j_must_ok hr) ?_
                                            cases h
                                            refine thenS_p ?_
                                            exact EndB.boom
                                        · replace h := bif_f hc h
                                          refine OWk.G 4 [(0, .d (.ptr p0 0)), (1, .d (.int .u64 p1)), (4, Z245), (6, vI x1), (7, Z266 r4 r6 r12 r21 r22), (13, Z262 r30 r32), (144, Z269 r30 r32)] <| OWk.D ?_
                                          obtain ⟨o, hr, h⟩ := bind_inv h
                                          rcases o with r36 | ⟨bt, bH⟩
                                          · replace h := pn_ok h
                                            refine OTk.M 13 <| OWk.CH (some 145) [(0, .d (.ptr p0 0)), (1, .d (.int .u64 p1)), (4, Z245), (6, vI x1), (7, Z266 r4 r6 r12 r21 r22), (13, Z262 r30 r32)] (SB.sc (j_must_ok hr)) <| OWk.D <| OTk.D ?_
                                            exact ⟨r36.2, [], by kernel_rfl, h⟩
                                          · replace h := pn_boom h
                                            refine OTk.B (some 145) (j_must_ok hr) ?_
                                            cases h
                                            refine thenS_p ?_
                                            exact EndB.boom
                                      · replace h := bif_f hc h
                                        refine OWk.G 8 [(0, .d (.ptr p0 0)), (1, .d (.int .u64 p1)), (4, Z245), (6, vI x1), (7, Z266 r4 r6 r12 r21 r22), (13, Z262 r30 r32), (144, vB false)] <| OWk.D ?_
                                        obtain ⟨o, hr, h⟩ := bind_inv h
                                        rcases o with r37 | ⟨bt, bH⟩
                                        · replace h := pn_ok h
                                          refine OTk.M 13 <| OWk.CH (some 145) [(0, .d (.ptr p0 0)), (1, .d (.int .u64 p1)), (4, Z245), (6, vI x1), (7, Z266 r4 r6 r12 r21 r22), (13, Z262 r30 r32)] (SB.sc (j_must_ok hr)) <| OWk.D <| OTk.D ?_
                                          exact ⟨r37.2, [], by kernel_rfl, h⟩
                                        · replace h := pn_boom h
                                          refine OTk.B (some 145) (j_must_ok hr) ?_
                                          cases h
                                          refine thenS_p ?_
                                          exact EndB.boom
                                  · replace h := pn_boom h
                                    refine OTk.B (some 131) (j_reader_number_ok hr) ?_
                                    cases h
                                    refine thenS_p ?_
                                    exact EndB.boom
                                · replace h := pn_boom h
                                  refine OTk.B (some 127) (j_must_ok hr) ?_
                                  cases h
                                  refine thenS_p ?_
                                  exact EndB.boom
                              · replace h := pn_boom h
                                refine OTk.B (some 122) (j_reader_number_ok hr) ?_
                                cases h
                                refine thenS_p ?_
                                exact EndB.boom
                            · refine SW.block <| SW.R 1 [(0, .d (.ptr p0 0)), (1, .d (.int .u64 p1)), (4, Z245), (6, vI x1), (7, Z266 r4 r6 r12 r21 r22), (12, vI 0), (114, vB (r4.1 == 6))] ?_
                              refine SW.B (r4.1 == 6) (fun hc => ?_) (fun hc => ?_)
                              · replace h := bif_t hc h
                                refine SW.regionK <| OWk.G 1 [(0, .d (.ptr p0 0)), (1, .d (.int .u64 p1)), (4, Z245), (6, vI x1), (7, Z266 r4 r6 r12 r21 r22), (12, vI 40)] <| OWk.D <| blockS_n ?_
                                exact ⟨40, [], by kernel_rfl, h⟩
                              · replace h := bif_f hc h
                                refine SW.R 1 [(0, .d (.ptr p0 0)), (1, .d (.int .u64 p1)), (4, Z245), (6, vI x1), (7, Z266 r4 r6 r12 r21 r22), (12, vI 0), (118, vB (r22.1 == 1))] ?_
                                refine SW.B (r22.1 == 1) (fun hc => ?_) (fun hc => ?_)
                                · replace h := bif_t hc h
                                  refine SW.regionK <| OWk.G 1 [(0, .d (.ptr p0 0)), (1, .d (.int .u64 p1)), (4, Z245), (6, vI x1), (7, Z266 r4 r6 r12 r21 r22), (12, vI 4000)] <| OWk.D <| blockS_n ?_
                                  exact ⟨4000, [], by kernel_rfl, h⟩
                                · replace h := bif_f hc h
                                  refine SW.skip <| blockS_n ?_
                                  exact ⟨0, [], by kernel_rfl, h⟩
                          · refine SW.regionOT <| OTk.M 9 <| OWk.G 3 [(0, .d (.ptr p0 0)), (1, .d (.int .u64 p1)), (4, Z245), (6, vI x1), (7, Z265 r4 r6 r12 r21), (8, Z259 r4), (11, vI r22.1), (103, vB (r22.1 == 0))] ?_
                            refine OWk.case (r22.1 == 0) (fun b => (sp 179 [(0, .d (.ptr p0 0)), (1, .d (.int .u64 p1)), (4, Z245), (6, vI x1), (7, Z265 r4 r6 r12 r21), (8, Z259 r4), (11, vI r22.1), (103, vB b)] r22.2)) (by kernel_rfl) (fun hc => ?_) (fun hc => ?_)
                            · replace h := bif_t hc h
                              refine OWk.G 6 [(0, .d (.ptr p0 0)), (1, .d (.int .u64 p1)), (4, Z245), (6, vI x1), (7, Z265 r4 r6 r12 r21), (11, vI r22.1), (109, vB true)] <| OWk.D ?_
                              obtain ⟨o, hr, h⟩ := bind_inv h
                              rcases o with r25 | ⟨bt, bH⟩
                              · replace h := pn_ok h
                                refine OTk.M 10 <| OWk.CH (some 110) [(0, .d (.ptr p0 0)), (1, .d (.int .u64 p1)), (4, Z245), (6, vI x1), (7, Z265 r4 r6 r12 r21), (11, vI r22.1)] (SB.sc (j_must_ok hr)) <| OWk.D <| OTk.D ?_
                                exact ⟨r25.2, [], by kernel_rfl, h⟩
                              · replace h := pn_boom h
                                refine OTk.B (some 110) (j_must_ok hr) ?_
                                cases h
                                refine thenS_p ?_
                                exact EndB.boom
                            · replace h := bif_f hc h
                              refine OWk.G 3 [(0, .d (.ptr p0 0)), (1, .d (.int .u64 p1)), (4, Z245), (6, vI x1), (7, Z265 r4 r6 r12 r21), (8, Z259 r4), (11, vI r22.1), (103, vB false), (106, vB (r22.1 == 1))] ?_
                              refine OWk.case (r22.1 == 1) (fun b => (sp 179 [(0, .d (.ptr p0 0)), (1, .d (.int .u64 p1)), (4, Z245), (6, vI x1), (7, Z265 r4 r6 r12 r21), (8, Z259 r4), (11, vI r22.1), (103, vB false), (106, vB b)] r22.2)) (by kernel_rfl) (fun hc => ?_) (fun hc => ?_)
                              · replace h := bif_t hc h
                                refine OWk.G 3 [(0, .d (.ptr p0 0)), (1, .d (.int .u64 p1)), (4, Z245), (6, vI x1), (7, Z265 r4 r6 r12 r21), (11, vI r22.1), (109, Z259 r4)] <| OWk.D ?_
                                obtain ⟨o, hr, h⟩ := bind_inv h
                                rcases o with r26 | ⟨bt, bH⟩
                                · replace h := pn_ok h
                                  refine OTk.M 10 <| OWk.CH (some 110) [(0, .d (.ptr p0 0)), (1, .d (.int .u64 p1)), (4, Z245), (6, vI x1), (7, Z265 r4 r6 r12 r21), (11, vI r22.1)] (SB.sc (j_must_ok hr)) <| OWk.D <| OTk.D ?_
                                  exact ⟨r26.2, [], by kernel_rfl, h⟩
                                · replace h := pn_boom h
                                  refine OTk.B (some 110) (j_must_ok hr) ?_
                                  cases h
                                  refine thenS_p ?_
                                  exact EndB.boom
                              · replace h := bif_f hc h
                                refine OWk.G 3 [(0, .d (.ptr p0 0)), (1, .d (.int .u64 p1)), (4, Z245), (6, vI x1), (7, Z265 r4 r6 r12 r21), (11, vI r22.1), (109, vB false)] <| OWk.D ?_
                                obtain ⟨o, hr, h⟩ := bind_inv h
                                rcases o with r27 | ⟨bt, bH⟩
                                · replace h := pn_ok h
                                  refine OTk.M 10 <| OWk.CH (some 110) [(0, .d (.ptr p0 0)), (1, .d (.int .u64 p1)), (4, Z245), (6, vI x1), (7, Z265 r4 r6 r12 r21), (11, vI r22.1)] (SB.sc (j_must_ok hr)) <| OWk.D <| OTk.D ?_
                                  exact ⟨r27.2, [], by kernel_rfl, h⟩
                                · replace h := pn_boom h
                                  refine OTk.B (some 110) (j_must_ok hr) ?_
                                  cases h
                                  refine thenS_p ?_
                                  exact EndB.boom
                        · replace h := pn_boom h
                          refine OTk.B (some 100) (j_reader_number_ok hr) ?_
                          cases h
                          refine thenS_p ?_
                          exact EndB.boom
                      · replace h := pn_boom h
                        refine OTk.B (some 97) (j_reader_bytes_ok hr) ?_
                        cases h
                        refine thenS_p ?_
                        exact EndB.boom
                    · replace h := pn_boom h
                      refine OTk.B (some 94) (j_must_ok hr) ?_
                      cases h
                      refine thenS_p ?_
                      exact EndB.boom
                  · replace h := pn_boom h
                    refine OTk.B (some 85) (j_reader_number_ok hr) ?_
                    cases h
                    refine thenS_p ?_
                    exact EndB.boom
                · refine SW.regionOT <| OTk.M 2 <| OWk.G 2 [(0, .d (.ptr p0 0)), (1, .d (.int .u64 p1)), (4, Z245), (6, vI x1), (7, Z261 r4 r6 r12), (8, Z259 r4), (66, Z262 r6 r12)] <| OWk.D <| OTk.M 18 ?_
                  obtain ⟨r15, hr, h⟩ := bind_inv h
                  refine OWk.C0 (some 67) [(0, .d (.ptr p0 0)), (1, .d (.int .u64 p1)), (4, Z245), (6, vI x1), (7, Z261 r4 r6 r12), (8, Z259 r4), (67, vB r15)] (j_unit_ok hr) <| OWk.G 1 [(0, .d (.ptr p0 0)), (1, .d (.int .u64 p1)), (4, Z245), (6, vI x1), (7, Z261 r4 r6 r12), (8, Z259 r4), (68, vB r15)] <| OWk.M 4 r15 (fun b => [(0, .d (.ptr p0 0)), (1, .d (.int .u64 p1)), (4, Z245), (6, vI x1), (7, Z261 r4 r6 r12), (8, Z259 r4), (68, vB b)]) (fun b => [(0, .d (.ptr p0 0)), (1, .d (.int .u64 p1)), (4, Z245), (6, vI x1), (7, Z261 r4 r6 r12), (8, Z259 r4), (72, vB (b && (r4.1 != 6)))]) <| OWk.G 1 [(0, .d (.ptr p0 0)), (1, .d (.int .u64 p1)), (4, Z245), (6, vI x1), (7, Z261 r4 r6 r12), (8, Z259 r4), (73, vB (r15 && (r4.1 != 6)))] ?_
                  refine OWk.case (r15 && (r4.1 != 6)) (fun b => (sp 179 [(0, .d (.ptr p0 0)), (1, .d (.int .u64 p1)), (4, Z245), (6, vI x1), (7, Z261 r4 r6 r12), (8, Z259 r4), (73, vB b)] r12.2)) (by kernel_rfl) (fun hc => ?_) (fun hc => ?_)
                  · replace h := bif_t hc h
                    refine OWk.G 9 [(0, .d (.ptr p0 0)), (1, .d (.int .u64 p1)), (4, Z245), (6, vI x1), (7, Z261 r4 r6 r12), (8, Z259 r4), (82, vB true)] <| OWk.D ?_
                    obtain ⟨o, hr, h⟩ := bind_inv h
                    rcases o with r16 | ⟨bt, bH⟩
                    · replace h := pn_ok h
                      refine OTk.M 19 <| OWk.CH (some 83) [(0, .d (.ptr p0 0)), (1, .d (.int .u64 p1)), (4, Z245), (6, vI x1), (7, Z261 r4 r6 r12), (8, Z259 r4)] (SB.sc (j_must_ok hr)) <| OWk.D <| OTk.D ?_
                      exact ⟨r16.2, [], by kernel_rfl, h⟩
                    · replace h := pn_boom h
                      refine OTk.B (some 83) (j_must_ok hr) ?_
                      cases h
                      refine thenS_p ?_
                      exact EndB.boom
                  · replace h := bif_f hc h
                    refine OWk.G 4 [(0, .d (.ptr p0 0)), (1, .d (.int .u64 p1)), (4, Z245), (6, vI x1), (7, Z261 r4 r6 r12), (8, Z259 r4), (73, vB false), (77, vB (r4.1 == 6))] ?_
                    refine OWk.case (r4.1 == 6) (fun b => (sp 179 [(0, .d (.ptr p0 0)), (1, .d (.int .u64 p1)), (4, Z245), (6, vI x1), (7, Z261 r4 r6 r12), (8, Z259 r4), (73, vB false), (77, vB b)] r12.2)) (by kernel_rfl) (fun hc => ?_) (fun hc => ?_)
                    · replace h := bif_t hc h
                      refine OWk.G 5 [(0, .d (.ptr p0 0)), (1, .d (.int .u64 p1)), (4, Z245), (6, vI x1), (7, Z261 r4 r6 r12), (8, Z259 r4), (82, Z263 r6 r12)] <| OWk.D ?_
                      obtain ⟨o, hr, h⟩ := bind_inv h
                      rcases o with r17 | ⟨bt, bH⟩
                      · replace h := pn_ok h
                        refine OTk.M 19 <| OWk.CH (some 83) [(0, .d (.ptr p0 0)), (1, .d (.int .u64 p1)), (4, Z245), (6, vI x1), (7, Z261 r4 r6 r12), (8, Z259 r4)] (SB.sc (j_must_ok hr)) <| OWk.D <| OTk.D ?_
                        exact ⟨r17.2, [], by kernel_rfl, h⟩
                      · replace h := pn_boom h
                        refine OTk.B (some 83) (j_must_ok hr) ?_
                        cases h
                        refine thenS_p ?_
                        exact EndB.boom
                    · replace h := bif_f hc h
                      refine OWk.G 5 [(0, .d (.ptr p0 0)), (1, .d (.int .u64 p1)), (4, Z245), (6, vI x1), (7, Z261 r4 r6 r12), (8, Z259 r4), (82, vB false)] <| OWk.D ?_
                      obtain ⟨o, hr, h⟩ := bind_inv h
                      rcases o with r18 | ⟨bt, bH⟩
                      · replace h := pn_ok h
                        refine OTk.M 19 <| OWk.CH (some 83) [(0, .d (.ptr p0 0)), (1, .d (.int .u64 p1)), (4, Z245), (6, vI x1), (7, Z261 r4 r6 r12), (8, Z259 r4)] (SB.sc (j_must_ok hr)) <| OWk.D <| OTk.D ?_
                        exact ⟨r18.2, [], by kernel_rfl, h⟩
                      · replace h := pn_boom h
                        refine OTk.B (some 83) (j_must_ok hr) ?_
                        cases h
                        refine thenS_p ?_
                        exact EndB.boom
              · replace h := pn_boom h
                refine OTk.B (some 62) (j_reader_number_ok hr) ?_
                cases h
                refine thenS_p ?_
                exact EndB.boom
            · refine SW.regionOT <| OTk.M 11 <| OWk.G 3 [(0, .d (.ptr p0 0)), (1, .d (.int .u64 p1)), (4, Z245), (6, vI x1), (7, Z258 r4), (8, Z259 r4), (9, vI r6.1), (49, vB (decide (r6.1 ≤ 3)))] ?_
              refine OWk.case (decide (r6.1 ≤ 3)) (fun b => (sp 179 [(0, .d (.ptr p0 0)), (1, .d (.int .u64 p1)), (4, Z245), (6, vI x1), (7, Z258 r4), (8, Z259 r4), (9, vI r6.1), (49, vB b)] r6.2)) (by kernel_rfl) (fun hc => ?_) (fun hc => ?_)
              · replace h := bif_t hc h
                refine OWk.G 4 [(0, .d (.ptr p0 0)), (1, .d (.int .u64 p1)), (4, Z245), (6, vI x1), (7, Z258 r4), (8, Z259 r4), (9, vI r6.1), (49, vB true), (53, vB (r4.1 != 6))] ?_
                refine OWk.case (r4.1 != 6) (fun b => (sp 179 [(0, .d (.ptr p0 0)), (1, .d (.int .u64 p1)), (4, Z245), (6, vI x1), (7, Z258 r4), (8, Z259 r4), (9, vI r6.1), (49, vB true), (53, vB b)] r6.2)) (by kernel_rfl) (fun hc => ?_) (fun hc => ?_)
                · replace h := bif_t hc h
                  refine OWk.G 4 [(0, .d (.ptr p0 0)), (1, .d (.int .u64 p1)), (4, Z245), (6, vI x1), (7, Z258 r4), (8, Z259 r4), (9, vI r6.1), (57, vB true)] <| OWk.D ?_
                  obtain ⟨o, hr, h⟩ := bind_inv h
                  rcases o with r9 | ⟨bt, bH⟩
                  · replace h := pn_ok h
                    refine OTk.M 12 <| OWk.CH (some 58) [(0, .d (.ptr p0 0)), (1, .d (.int .u64 p1)), (4, Z245), (6, vI x1), (7, Z258 r4), (8, Z259 r4), (9, vI r6.1)] (SB.sc (j_must_ok hr)) <| OWk.D <| OTk.D ?_
                    exact ⟨r9.2, [], by kernel_rfl, h⟩
                  · replace h := pn_boom h
                    refine OTk.B (some 58) (j_must_ok hr) ?_
                    cases h
                    refine thenS_p ?_
                    exact EndB.boom
                · replace h := bif_f hc h
                  refine OWk.G 4 [(0, .d (.ptr p0 0)), (1, .d (.int .u64 p1)), (4, Z245), (6, vI x1), (7, Z258 r4), (8, Z259 r4), (9, vI r6.1), (57, vB (r6.1 == 0))] <| OWk.D ?_
                  obtain ⟨o, hr, h⟩ := bind_inv h
                  rcases o with r10 | ⟨bt, bH⟩
                  · replace h := pn_ok h
                    refine OTk.M 12 <| OWk.CH (some 58) [(0, .d (.ptr p0 0)), (1, .d (.int .u64 p1)), (4, Z245), (6, vI x1), (7, Z258 r4), (8, Z259 r4), (9, vI r6.1)] (SB.sc (j_must_ok hr)) <| OWk.D <| OTk.D ?_
                    exact ⟨r10.2, [], by kernel_rfl, h⟩
                  · replace h := pn_boom h
                    refine OTk.B (some 58) (j_must_ok hr) ?_
                    cases h
                    refine thenS_p ?_
                    exact EndB.boom
              · replace h := bif_f hc h
                refine OWk.G 8 [(0, .d (.ptr p0 0)), (1, .d (.int .u64 p1)), (4, Z245), (6, vI x1), (7, Z258 r4), (8, Z259 r4), (9, vI r6.1), (57, vB false)] <| OWk.D ?_
                obtain ⟨o, hr, h⟩ := bind_inv h
                rcases o with r11 | ⟨bt, bH⟩
                · replace h := pn_ok h
                  refine OTk.M 12 <| OWk.CH (some 58) [(0, .d (.ptr p0 0)), (1, .d (.int .u64 p1)), (4, Z245), (6, vI x1), (7, Z258 r4), (8, Z259 r4), (9, vI r6.1)] (SB.sc (j_must_ok hr)) <| OWk.D <| OTk.D ?_
                  exact ⟨r11.2, [], by kernel_rfl, h⟩
                · replace h := pn_boom h
                  refine OTk.B (some 58) (j_must_ok hr) ?_
                  cases h
                  refine thenS_p ?_
                  exact EndB.boom
          · replace h := pn_boom h
            refine OTk.B (some 46) (j_reader_number_ok hr) ?_
            cases h
            refine thenS_p ?_
            exact EndB.boom
        · replace h := pn_boom h
          refine OTk.B (some 36) (j_must_ok hr) ?_
          cases h
          refine thenS_p ?_
          exact EndB.boom
      · replace h := pn_boom h
        refine OTk.B (some 26) (j_reader_number_ok hr) ?_
        cases h
        refine thenS_p ?_
        exact EndB.boom
    · replace h := pn_boom h
      refine OTk.B (some 24) (j_must_ok hr) ?_
      cases h
      refine thenS_p ?_
      exact EndB.boom
  · replace h := pn_boom h
    refine OTk.B (some 22) (j_reader_number_ok hr) ?_
    cases h
    refine thenS_p ?_
    exact EndB.boom
end Go.Sh
