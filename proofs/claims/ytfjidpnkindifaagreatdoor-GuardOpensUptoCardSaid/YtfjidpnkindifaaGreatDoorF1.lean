/- Printed by a program: functions of the program as plain functions, and that the code computes them. -/
import Derived.Test.YtfjidpnkindifaaGreatDoorD1
import Derived.Test.YtfjidpnkindifaaGreatDoorProg
import Derived.Lib.Strings
import Derived.Lib.Slices
import Derived.Lib.Walk
import Derived.Lib.Bytealg
set_option linter.all false
set_option autoImplicit true
set_option relaxedAutoImplicit true
open Go Go.Proofs
namespace Go.Sh
set_option maxRecDepth 100000
structure Privacy where
  Verb : Int
  On : (List UInt8)
  Key : (List UInt8)
  deriving DecidableEq, Inhabited
def encPrivacy (x : Privacy) : D := .agg [.int .i64 x.Verb, .str x.On, .str x.Key]
structure Value where
  Kind : Int
  N : Int
  S : (List UInt8)
  deriving DecidableEq, Inhabited
def encValue (x : Value) : D := .agg [.int .i64 x.Kind, .int .i64 x.N, .str x.S]
structure Deed where
  Verb : Int
  On : (List UInt8)
  Names : (List (List UInt8))
  Row : (List Value)
  Keys : (List (List UInt8))
  deriving DecidableEq, Inhabited
def encDeed (x : Deed) : D := .agg [.int .i64 x.Verb, .str x.On, .list 1 (List.map D.str x.Names), .list 3 (List.map encValue x.Row), .list 1 (List.map D.str x.Keys)]
structure Proc where
  Name : (List UInt8)
  Verb : Int
  On : (List UInt8)
  When : Int
  Cond : (List UInt8)
  Does : Int
  Text : (List UInt8)
  deriving DecidableEq, Inhabited
def encProc (x : Proc) : D := .agg [.str x.Name, .int .i64 x.Verb, .str x.On, .int .i64 x.When, .str x.Cond, .int .i64 x.Does, .str x.Text]
def l_light_l1 (fuel : Nat) (p0 : (List Proc)) (y1 : Int × Int) : Option ((Int × Int) ⊕ (Int)) :=
  bif ((decide (y1.2 < (p0.length : Int))) && (decide (y1.2 < 60))) then
    (idx p0 y1.2).bind fun x2 =>
    (idx p0 y1.2).bind fun x3 =>
    (idx p0 y1.2).bind fun x4 =>
    (idx p0 y1.2).bind fun x5 =>
    some (.inl ((IntKind.wrap .i64 ((IntKind.wrap .i64 ((IntKind.wrap .i64 ((IntKind.wrap .i64 (y1.1 + (x2.Name.length : Int))) + (x3.On.length : Int))) + (x4.Cond.length : Int))) + (x5.Text.length : Int))), (IntKind.wrap .i64 (y1.2 + 1))))
  else
    some (.inr y1.1)
def l_light_l2 (fuel : Nat) (p1 : (List Privacy)) (y8 : Int × Int) : Option ((Int × Int) ⊕ (Int)) :=
  bif ((decide (y8.2 < (p1.length : Int))) && (decide (y8.2 < 60))) then
    (idx p1 y8.2).bind fun x9 =>
    (idx p1 y8.2).bind fun x10 =>
    some (.inl ((IntKind.wrap .i64 ((IntKind.wrap .i64 (y8.1 + (x9.On.length : Int))) + (x10.Key.length : Int))), (IntKind.wrap .i64 (y8.2 + 1))))
  else
    some (.inr y8.1)
def l_light (fuel : Nat) (p0 : (List Proc)) (p1 : (List Privacy)) : Option (Bool) :=
  (iter (l_light_l1 fuel p0) fuel (0, 0)).bind fun v7 =>
  (iter (l_light_l2 fuel p1) fuel (v7, 0)).bind fun v12 =>
  bif (decide ((p0.length : Int) ≤ 60)) then
    some ((decide ((p1.length : Int) ≤ 60)) && (decide (v12 ≤ 6000)))
  else
    some false
def Z0 (x0 : (List Privacy)) : SV := .d (.list 3 (List.map encPrivacy x0))
def Z1 (x0 : Privacy) : SV := .box [vI x0.Verb, vS x0.On, vS x0.Key]
def Z2 (x0 : Deed) : SV := .box [vI x0.Verb, vS x0.On, .d (.list 1 (List.map D.str x0.Names)), .d (.list 3 (List.map encValue x0.Row)), .d (.list 1 (List.map D.str x0.Keys))]
def Z3 (x0 : Privacy) : SV := .own 3 (List.map encPrivacy [x0])
def Z4 (x0 : (List Proc)) : SV := .d (.list 7 (List.map encProc x0))
def Z10 (x0 : Proc) : SV := vI (x0.Text.length : Int)
def Z11 (x0 : Proc) : SV := vI (x0.Cond.length : Int)
def Z12 (x0 : Proc) : SV := vI (x0.Name.length : Int)
def Z13 (x0 : Int × Int) (x1 : (List Proc)) : SV := vB (decide (x0.2 < (x1.length : Int)))
def Z14 (x0 : Int × Int) (x1 : Proc) : SV := vI (IntKind.wrap .i64 (x0.1 + (x1.Name.length : Int)))
def Z15 (x0 : Int × Int) (x1 : Proc) (x2 : Proc) : SV := vI (IntKind.wrap .i64 ((IntKind.wrap .i64 (x0.1 + (x1.Name.length : Int))) + (x2.On.length : Int)))
def Z16 (x0 : Int × Int) (x1 : Proc) (x2 : Proc) (x3 : Proc) : SV := vI (IntKind.wrap .i64 ((IntKind.wrap .i64 ((IntKind.wrap .i64 (x0.1 + (x1.Name.length : Int))) + (x2.On.length : Int))) + (x3.Cond.length : Int)))
def Z17 (x0 : Int × Int) (x1 : Proc) (x2 : Proc) (x3 : Proc) (x4 : Proc) : SV := vI (IntKind.wrap .i64 ((IntKind.wrap .i64 ((IntKind.wrap .i64 ((IntKind.wrap .i64 (x0.1 + (x1.Name.length : Int))) + (x2.On.length : Int))) + (x3.Cond.length : Int))) + (x4.Text.length : Int)))
def Z18 (x0 : Int × Int) : SV := vI (IntKind.wrap .i64 (x0.2 + 1))
def Z22 (x0 : Privacy) : SV := vI (x0.Key.length : Int)
def Z23 (x0 : Int × Int) (x1 : (List Privacy)) : SV := vB (decide (x0.2 < (x1.length : Int)))
def Z24 (x0 : Int × Int) (x1 : Privacy) : SV := vI (IntKind.wrap .i64 (x0.1 + (x1.On.length : Int)))
def Z25 (x0 : Int × Int) (x1 : Privacy) (x2 : Privacy) : SV := vI (IntKind.wrap .i64 ((IntKind.wrap .i64 (x0.1 + (x1.On.length : Int))) + (x2.Key.length : Int)))
def Z26 (x0 : (List Proc)) : SV := vB (decide ((x0.length : Int) ≤ 60))
def Z27 (x0 : (List Privacy)) : SV := vB (decide ((x0.length : Int) ≤ 60))
def Z28 (x0 : (List Privacy)) (x1 : Int) : SV := vB ((decide ((x0.length : Int) ≤ 60)) && (decide (x1 ≤ 6000)))
theorem l_light_ok {fuel : Nat} {p0 : (List Proc)} {p1 : (List Privacy)} {r : Bool} (h : l_light fuel p0 p1 = some r) : PC Tryz.prog 4 [.d (.list 7 (List.map encProc p0)), .d (.list 3 (List.map encPrivacy p1))] (vB r) := by
  refine PC.of_SW Tryz.func4 rfl fun H => ?_
  unfold l_light at h
  refine SW.kp 84 H [0, 1] [(0, Z4 p0), (1, Z0 p1)] (by kernel_rfl) <| SW.seq <| SW.regionK <| OWk.sg 84 H [] [0, 1] 1 [(0, Z4 p0), (1, Z0 p1)] (by kernel_rfl) <| OWk.done (by kernel_rfl) <| thenS_n <| SW.seq <| SW.regionK <| OWk.sg 84 H [] [0, 1, 5] 1 [(0, Z4 p0), (1, Z0 p1), (5, vI 0)] (by kernel_rfl) <| OWk.done (by kernel_rfl) <| thenS_n <| SW.seq <| SW.seq <| SW.regionK <| OWk.sg 84 H [] [0, 1, 5, 6] 1 [(0, Z4 p0), (1, Z0 p1), (5, vI 0), (6, vI 0)] (by kernel_rfl) <| OWk.done (by kernel_rfl) <| thenS_n <| SW.block ?_
  obtain ⟨v7, hit, h⟩ := bind_inv h
  refine SW.it 84 H [0, 1, 5, 6] (fun y1 => [(0, Z4 p0), (1, Z0 p1), (5, vI y1.1), (6, vI y1.2)]) (fun v7 e s => (e = .exit 0 ∧ s = (sp 84 [(0, Z4 p0), (1, Z0 p1), (5, vI v7)] H))) hit (by kernel_rfl) (fun y1 o h => ?_) ?_
  · unfold l_light_l1 at h
    refine SW.seq <| SW.seq <| SW.regionK <| OWk.sg 84 H [] [0, 1, 5, 6, 8, 9] 2 [(0, Z4 p0), (1, Z0 p1), (5, vI y1.1), (6, vI y1.2), (8, vI y1.2), (9, Z4 p0)] (by kernel_rfl) <| OWk.on 84 H (d := some 10) [0, 1, 5, 6, 8, 10] [(0, Z4 p0), (1, Z0 p1), (5, vI y1.1), (6, vI y1.2), (8, vI y1.2), (10, vI (p0.length : Int))] (BAt.len (enc := encProc) (xs := p0) (by kernel_rfl)) (by kernel_rfl) <| OWk.sg 84 H [] [0, 1, 5, 6, 12] 2 [(0, Z4 p0), (1, Z0 p1), (5, vI y1.1), (6, vI y1.2), (12, Z13 y1 p0)] (by kernel_rfl) <| OWk.mg 84 H [0, 1, 5, 6, 15] 3 (decide (y1.2 < (p0.length : Int))) (fun b => (sp 84 [(0, Z4 p0), (1, Z0 p1), (5, vI y1.1), (6, vI y1.2), (12, vB b)] H)) (fun b => [(0, Z4 p0), (1, Z0 p1), (5, vI y1.1), (6, vI y1.2), (15, vB (b && (decide (y1.2 < 60))))]) (by kernel_rfl) (by kernel_rfl) (by kernel_rfl) <| OWk.done (by kernel_rfl) <| thenS_n ?_
    refine SW.condB (b := ((decide (y1.2 < (p0.length : Int))) && (decide (y1.2 < 60)))) (by kernel_rfl) (fun hc => ?_) (fun hc => ?_)
    · replace h := bif_t hc h
      refine SW.skip <| thenS_n <| SW.seq <| SW.block <| SW.regionT 29 (by kernel_rfl) (by kernel_rfl) <| OBk.sg 84 H [] [0, 1, 6, 18, 19, 20] 3 [(0, Z4 p0), (1, Z0 p1), (6, vI y1.2), (18, vI y1.1), (19, Z4 p0), (20, vI y1.2)] (by kernel_rfl) (by kernel_rfl) ?_
      obtain ⟨x2, hx, h⟩ := bind_inv h
      refine OBk.on 84 H (d := some 21) (s := lendP none (Go.Sh.D.cells (encProc x2))) [0, 1, 6, 18, 21] [(0, Z4 p0), (1, Z0 p1), (6, vI y1.2), (18, vI y1.1), (21, .d (.dptr [.str x2.Name, .int .i64 x2.Verb, .str x2.On, .int .i64 x2.When, .str x2.Cond, .int .i64 x2.Does, .str x2.Text]))] (by kernel_rfl) (BAt.index (n := 7) hx (by kernel_rfl)) (by kernel_rfl) <| OBk.sg 84 H [] [0, 1, 6, 18, 23] 2 [(0, Z4 p0), (1, Z0 p1), (6, vI y1.2), (18, vI y1.1), (23, vS x2.Name)] (by kernel_rfl) (by kernel_rfl) <| OBk.sg 84 H [] [0, 1, 6, 18, 24] 1 [(0, Z4 p0), (1, Z0 p1), (6, vI y1.2), (18, vI y1.1), (24, Z12 x2)] (by kernel_rfl) (by kernel_rfl) <| OBk.sg 84 H [] [0, 1, 6, 25, 26, 27] 3 [(0, Z4 p0), (1, Z0 p1), (6, vI y1.2), (25, Z14 y1 x2), (26, Z4 p0), (27, vI y1.2)] (by kernel_rfl) (by kernel_rfl) ?_
      obtain ⟨x3, hx, h⟩ := bind_inv h
      refine OBk.on 84 H (d := some 28) (s := lendP none (Go.Sh.D.cells (encProc x3))) [0, 1, 6, 25, 28] [(0, Z4 p0), (1, Z0 p1), (6, vI y1.2), (25, Z14 y1 x2), (28, .d (.dptr [.str x3.Name, .int .i64 x3.Verb, .str x3.On, .int .i64 x3.When, .str x3.Cond, .int .i64 x3.Does, .str x3.Text]))] (by kernel_rfl) (BAt.index (n := 7) hx (by kernel_rfl)) (by kernel_rfl) <| OBk.sg 84 H [] [0, 1, 6, 25, 30] 2 [(0, Z4 p0), (1, Z0 p1), (6, vI y1.2), (25, Z14 y1 x2), (30, vS x3.On)] (by kernel_rfl) (by kernel_rfl) <| OBk.sg 84 H [] [0, 1, 6, 25, 31] 1 [(0, Z4 p0), (1, Z0 p1), (6, vI y1.2), (25, Z14 y1 x2), (31, vI (x3.On.length : Int))] (by kernel_rfl) (by kernel_rfl) <| OBk.sg 84 H [] [0, 1, 6, 32, 33, 34] 3 [(0, Z4 p0), (1, Z0 p1), (6, vI y1.2), (32, Z15 y1 x2 x3), (33, Z4 p0), (34, vI y1.2)] (by kernel_rfl) (by kernel_rfl) ?_
      obtain ⟨x4, hx, h⟩ := bind_inv h
      refine OBk.on 84 H (d := some 35) (s := lendP none (Go.Sh.D.cells (encProc x4))) [0, 1, 6, 32, 35] [(0, Z4 p0), (1, Z0 p1), (6, vI y1.2), (32, Z15 y1 x2 x3), (35, .d (.dptr [.str x4.Name, .int .i64 x4.Verb, .str x4.On, .int .i64 x4.When, .str x4.Cond, .int .i64 x4.Does, .str x4.Text]))] (by kernel_rfl) (BAt.index (n := 7) hx (by kernel_rfl)) (by kernel_rfl) <| OBk.sg 84 H [] [0, 1, 6, 32, 37] 2 [(0, Z4 p0), (1, Z0 p1), (6, vI y1.2), (32, Z15 y1 x2 x3), (37, vS x4.Cond)] (by kernel_rfl) (by kernel_rfl) <| OBk.sg 84 H [] [0, 1, 6, 32, 38] 1 [(0, Z4 p0), (1, Z0 p1), (6, vI y1.2), (32, Z15 y1 x2 x3), (38, Z11 x4)] (by kernel_rfl) (by kernel_rfl) <| OBk.sg 84 H [] [0, 1, 6, 39, 40, 41] 3 [(0, Z4 p0), (1, Z0 p1), (6, vI y1.2), (39, Z16 y1 x2 x3 x4), (40, Z4 p0), (41, vI y1.2)] (by kernel_rfl) (by kernel_rfl) ?_
      obtain ⟨x5, hx, h⟩ := bind_inv h
      refine OBk.on 84 H (d := some 42) (s := lendP none (Go.Sh.D.cells (encProc x5))) [0, 1, 6, 39, 42] [(0, Z4 p0), (1, Z0 p1), (6, vI y1.2), (39, Z16 y1 x2 x3 x4), (42, .d (.dptr [.str x5.Name, .int .i64 x5.Verb, .str x5.On, .int .i64 x5.When, .str x5.Cond, .int .i64 x5.Does, .str x5.Text]))] (by kernel_rfl) (BAt.index (n := 7) hx (by kernel_rfl)) (by kernel_rfl) <| OBk.sg 84 H [] [0, 1, 6, 39, 44] 2 [(0, Z4 p0), (1, Z0 p1), (6, vI y1.2), (39, Z16 y1 x2 x3 x4), (44, vS x5.Text)] (by kernel_rfl) (by kernel_rfl) <| OBk.sg 84 H [] [0, 1, 6, 39, 45] 1 [(0, Z4 p0), (1, Z0 p1), (6, vI y1.2), (39, Z16 y1 x2 x3 x4), (45, Z10 x5)] (by kernel_rfl) (by kernel_rfl) <| OBk.sg 84 H [] [0, 1, 6, 46] 1 [(0, Z4 p0), (1, Z0 p1), (6, vI y1.2), (46, Z17 y1 x2 x3 x4 x5)] (by kernel_rfl) (by kernel_rfl) <| OBk.done (by kernel_rfl) <| OWk.sg 84 H [] [0, 1, 5, 6] 1 [(0, Z4 p0), (1, Z0 p1), (5, Z17 y1 x2 x3 x4 x5), (6, vI y1.2)] (by kernel_rfl) <| OWk.done (by kernel_rfl) <| blockS_n <| thenS_n <| SW.regionK <| OWk.sg 84 H [] [0, 1, 5, 6] 3 [(0, Z4 p0), (1, Z0 p1), (5, Z17 y1 x2 x3 x4 x5), (6, Z18 y1)] (by kernel_rfl) <| OWk.done (by kernel_rfl) ?_
      cases h
      exact ⟨((IntKind.wrap .i64 ((IntKind.wrap .i64 ((IntKind.wrap .i64 ((IntKind.wrap .i64 (y1.1 + (x2.Name.length : Int))) + (x3.On.length : Int))) + (x4.Cond.length : Int))) + (x5.Text.length : Int))), (IntKind.wrap .i64 (y1.2 + 1))), rfl, by kernel_rfl⟩
    · replace h := bif_f hc h
      refine SW.kp 84 H [0, 1, 5] [(0, Z4 p0), (1, Z0 p1), (5, vI y1.1)] (by kernel_rfl) <| SW.exit <| thenS_e ?_
      cases h
      refine thenS_e ?_
      exact ⟨_, rfl, ⟨rfl, rfl⟩⟩
  · rintro _ _ ⟨rfl, rfl⟩
    refine blockS_hit <| thenS_n <| SW.seq <| SW.seq <| SW.regionK <| OWk.sg 84 H [] [0, 1, 5, 7] 1 [(0, Z4 p0), (1, Z0 p1), (5, vI v7), (7, vI 0)] (by kernel_rfl) <| OWk.done (by kernel_rfl) <| thenS_n <| SW.block ?_
    obtain ⟨v12, hit, h⟩ := bind_inv h
    refine SW.it 84 H [0, 1, 5, 7] (fun y8 => [(0, Z4 p0), (1, Z0 p1), (5, vI y8.1), (7, vI y8.2)]) (fun v12 e s => (e = .exit 2 ∧ s = (sp 84 [(0, Z4 p0), (1, Z0 p1), (5, vI v12)] H))) hit (by kernel_rfl) (fun y8 o h => ?_) ?_
    · unfold l_light_l2 at h
      refine SW.seq <| SW.seq <| SW.regionK <| OWk.sg 84 H [] [0, 1, 5, 7, 47, 48] 2 [(0, Z4 p0), (1, Z0 p1), (5, vI y8.1), (7, vI y8.2), (47, vI y8.2), (48, Z0 p1)] (by kernel_rfl) <| OWk.on 84 H (d := some 49) [0, 1, 5, 7, 47, 49] [(0, Z4 p0), (1, Z0 p1), (5, vI y8.1), (7, vI y8.2), (47, vI y8.2), (49, vI (p1.length : Int))] (BAt.len (enc := encPrivacy) (xs := p1) (by kernel_rfl)) (by kernel_rfl) <| OWk.sg 84 H [] [0, 1, 5, 7, 51] 2 [(0, Z4 p0), (1, Z0 p1), (5, vI y8.1), (7, vI y8.2), (51, Z23 y8 p1)] (by kernel_rfl) <| OWk.mg 84 H [0, 1, 5, 7, 54] 3 (decide (y8.2 < (p1.length : Int))) (fun b => (sp 84 [(0, Z4 p0), (1, Z0 p1), (5, vI y8.1), (7, vI y8.2), (51, vB b)] H)) (fun b => [(0, Z4 p0), (1, Z0 p1), (5, vI y8.1), (7, vI y8.2), (54, vB (b && (decide (y8.2 < 60))))]) (by kernel_rfl) (by kernel_rfl) (by kernel_rfl) <| OWk.done (by kernel_rfl) <| thenS_n ?_
      refine SW.condB (b := ((decide (y8.2 < (p1.length : Int))) && (decide (y8.2 < 60)))) (by kernel_rfl) (fun hc => ?_) (fun hc => ?_)
      · replace h := bif_t hc h
        refine SW.skip <| thenS_n <| SW.seq <| SW.block <| SW.regionT 15 (by kernel_rfl) (by kernel_rfl) <| OBk.sg 84 H [] [0, 1, 7, 57, 58, 59] 3 [(0, Z4 p0), (1, Z0 p1), (7, vI y8.2), (57, vI y8.1), (58, Z0 p1), (59, vI y8.2)] (by kernel_rfl) (by kernel_rfl) ?_
        obtain ⟨x9, hx, h⟩ := bind_inv h
        refine OBk.on 84 H (d := some 60) (s := lendP none (Go.Sh.D.cells (encPrivacy x9))) [0, 1, 7, 57, 60] [(0, Z4 p0), (1, Z0 p1), (7, vI y8.2), (57, vI y8.1), (60, .d (.dptr [.int .i64 x9.Verb, .str x9.On, .str x9.Key]))] (by kernel_rfl) (BAt.index (n := 3) hx (by kernel_rfl)) (by kernel_rfl) <| OBk.sg 84 H [] [0, 1, 7, 57, 62] 2 [(0, Z4 p0), (1, Z0 p1), (7, vI y8.2), (57, vI y8.1), (62, vS x9.On)] (by kernel_rfl) (by kernel_rfl) <| OBk.sg 84 H [] [0, 1, 7, 57, 63] 1 [(0, Z4 p0), (1, Z0 p1), (7, vI y8.2), (57, vI y8.1), (63, vI (x9.On.length : Int))] (by kernel_rfl) (by kernel_rfl) <| OBk.sg 84 H [] [0, 1, 7, 64, 65, 66] 3 [(0, Z4 p0), (1, Z0 p1), (7, vI y8.2), (64, Z24 y8 x9), (65, Z0 p1), (66, vI y8.2)] (by kernel_rfl) (by kernel_rfl) ?_
        obtain ⟨x10, hx, h⟩ := bind_inv h
        refine OBk.on 84 H (d := some 67) (s := lendP none (Go.Sh.D.cells (encPrivacy x10))) [0, 1, 7, 64, 67] [(0, Z4 p0), (1, Z0 p1), (7, vI y8.2), (64, Z24 y8 x9), (67, .d (.dptr [.int .i64 x10.Verb, .str x10.On, .str x10.Key]))] (by kernel_rfl) (BAt.index (n := 3) hx (by kernel_rfl)) (by kernel_rfl) <| OBk.sg 84 H [] [0, 1, 7, 64, 69] 2 [(0, Z4 p0), (1, Z0 p1), (7, vI y8.2), (64, Z24 y8 x9), (69, vS x10.Key)] (by kernel_rfl) (by kernel_rfl) <| OBk.sg 84 H [] [0, 1, 7, 64, 70] 1 [(0, Z4 p0), (1, Z0 p1), (7, vI y8.2), (64, Z24 y8 x9), (70, Z22 x10)] (by kernel_rfl) (by kernel_rfl) <| OBk.sg 84 H [] [0, 1, 7, 71] 1 [(0, Z4 p0), (1, Z0 p1), (7, vI y8.2), (71, Z25 y8 x9 x10)] (by kernel_rfl) (by kernel_rfl) <| OBk.done (by kernel_rfl) <| OWk.sg 84 H [] [0, 1, 5, 7] 1 [(0, Z4 p0), (1, Z0 p1), (5, Z25 y8 x9 x10), (7, vI y8.2)] (by kernel_rfl) <| OWk.done (by kernel_rfl) <| blockS_n <| thenS_n <| SW.regionK <| OWk.sg 84 H [] [0, 1, 5, 7] 3 [(0, Z4 p0), (1, Z0 p1), (5, Z25 y8 x9 x10), (7, Z18 y8)] (by kernel_rfl) <| OWk.done (by kernel_rfl) ?_
        cases h
        exact ⟨((IntKind.wrap .i64 ((IntKind.wrap .i64 (y8.1 + (x9.On.length : Int))) + (x10.Key.length : Int))), (IntKind.wrap .i64 (y8.2 + 1))), rfl, by kernel_rfl⟩
      · replace h := bif_f hc h
        refine SW.kp 84 H [0, 1, 5] [(0, Z4 p0), (1, Z0 p1), (5, vI y8.1)] (by kernel_rfl) <| SW.exit <| thenS_e ?_
        cases h
        refine thenS_e ?_
        exact ⟨_, rfl, ⟨rfl, rfl⟩⟩
    · rintro _ _ ⟨rfl, rfl⟩
      refine blockS_hit <| thenS_n <| SW.seq <| SW.regionK <| OWk.sg 84 H [] [1, 5, 72] 1 [(1, Z0 p1), (5, vI v12), (72, Z4 p0)] (by kernel_rfl) <| OWk.on 84 H (d := some 73) [1, 5, 73] [(1, Z0 p1), (5, vI v12), (73, vI (p0.length : Int))] (BAt.len (enc := encProc) (xs := p0) (by kernel_rfl)) (by kernel_rfl) <| OWk.sg 84 H [] [1, 5, 75] 2 [(1, Z0 p1), (5, vI v12), (75, Z26 p0)] (by kernel_rfl) ?_
      refine OWk.case (decide ((p0.length : Int) ≤ 60)) (fun b => (sp 84 [(1, Z0 p1), (5, vI v12), (75, vB b)] H)) (by kernel_rfl) (fun hc => ?_) (fun hc => ?_)
      · replace h := bif_t hc h
        refine OWk.sg 84 H [] [5, 75, 76] 1 [(5, vI v12), (75, vB true), (76, Z0 p1)] (by kernel_rfl) <| OWk.on 84 H (d := some 77) [5, 75, 77] [(5, vI v12), (75, vB true), (77, vI (p1.length : Int))] (BAt.len (enc := encPrivacy) (xs := p1) (by kernel_rfl)) (by kernel_rfl) <| OWk.sg 84 H [] [5, 80] 3 [(5, vI v12), (80, Z27 p1)] (by kernel_rfl) <| OWk.mg 84 H [83] 3 (decide ((p1.length : Int) ≤ 60)) (fun b => (sp 84 [(5, vI v12), (80, vB b)] H)) (fun b => [(83, vB (b && (decide (v12 ≤ 6000))))]) (by kernel_rfl) (by kernel_rfl) (by kernel_rfl) <| OWk.sg 84 H [] [4] 1 [(4, Z28 p1 v12)] (by kernel_rfl) <| OWk.done (by kernel_rfl) <| thenS_n <| SW.ret ?_
        cases h
        exact EndQ.ret [] (by kernel_rfl) rfl
      · replace h := bif_f hc h
        refine OWk.sg 84 H [] [4] 9 [(4, vB false)] (by kernel_rfl) <| OWk.done (by kernel_rfl) <| thenS_n <| SW.ret ?_
        cases h
        exact EndQ.ret [] (by kernel_rfl) rfl
def l_awake (fuel : Nat) : Option Bool := some true
theorem l_awake_ok {fuel : Nat} {r : Bool} (h : l_awake fuel = some r) : PC Tryz.prog 6 [] (vB r) := by
  cases h
  exact Gd.ground_pc 100000 (by kernel_rfl) (by kernel_rfl)
def encL0 (xs : List Value) : D := D.list 3 (List.map encValue xs)
def l01_Rows_l1 (fuel : Nat) (p0 : (List (List Value))) (y1 : Int) (y3 : Int) : Option ((Int) ⊕ ((Unit) ⊕ ((Bool)))) :=
  (idx p0 y1).bind fun x4 =>
  bif (decide (y3 < (x4.length : Int))) then
    (idx p0 y1).bind fun x5 =>
    (idx x5 y3).bind fun x6 =>
    bif (decide ((x6.S.length : Int) > 200)) then
      some (.inr (.inr false))
    else
      some (.inl (IntKind.wrap .i64 (y3 + 1)))
  else
    some (.inr (.inl ()))
def l01_Rows_l2 (fuel : Nat) (p0 : (List (List Value))) (y1 : Int) : Option ((Int) ⊕ ((Unit) ⊕ ((Bool)))) :=
  bif (decide (y1 < (p0.length : Int))) then
    (idx p0 y1).bind fun x2 =>
    bif (decide ((x2.length : Int) > 20)) then
      some (.inr (.inr false))
    else
      (iter (l01_Rows_l1 fuel p0 y1) fuel 0).bind (Sum.elim (fun v8 =>
        some (.inl (IntKind.wrap .i64 (y1 + 1)))) (fun r9 =>
        some (.inr (.inr r9))))
  else
    some (.inr (.inl ()))
def l01_Rows (fuel : Nat) (p0 : (List (List Value))) : Option (Bool) :=
  (iter (l01_Rows_l2 fuel p0) fuel 0).bind (Sum.elim (fun v11 =>
    some true) (fun r12 =>
    some r12))
def Z29 (x0 : Deed) : SV := .d (.agg [.int .i64 x0.Verb, .str x0.On, .list 1 (List.map D.str x0.Names), .list 3 (List.map encValue x0.Row), .list 1 (List.map D.str x0.Keys)])
def Z30 (x0 : Deed) : SV := .d (.list 1 (List.map D.str x0.Keys))
def Z33 (x0 : Deed) : SV := vI (x0.Keys.length : Int)
def Z34 (x0 : Int × Int) (x1 : Deed) : SV := vB (decide (x0.2 < (x1.Keys.length : Int)))
def Z35 (x0 : Int × Int) (x1 : (List UInt8)) : SV := vI (IntKind.wrap .i64 (x0.1 + (x1.length : Int)))
def Z36 (x0 : Deed) : SV := .own 1 (List.map encL0 [x0.Row])
def Z37 (x0 : (List (List Value))) : SV := .d (.list 1 (List.map encL0 x0))
def Z39 (x0 : (List Value)) : SV := .d (.list 3 (List.map encValue x0))
def Z40 (x0 : (List Value)) : SV := vB (decide ((x0.length : Int) > 20))
def Z42 (x0 : Value) : SV := vB (decide ((x0.S.length : Int) > 200))
def Z43 (x0 : Int) (x1 : (List Value)) : SV := vB (decide (x0 < (x1.length : Int)))
def Z44 (x0 : Int) : SV := vI (IntKind.wrap .i64 (x0 + 1))
def Z45 (x0 : Int) (x1 : (List (List Value))) : SV := vB (decide (x0 < (x1.length : Int)))
theorem l01_Rows_ok {fuel : Nat} {p0 : (List (List Value))} {r : Bool} (h : l01_Rows fuel p0 = some r) : PC Tryz.prog 10 [.d (.list 1 (List.map encL0 p0))] (vB r) := by
  refine PC.of_SW Tryz.func10 rfl fun H => ?_
  unfold l01_Rows at h
  refine SW.kp 36 H [0] [(0, Z37 p0)] (by kernel_rfl) <| SW.seq <| SW.regionK <| OWk.sg 36 H [] [0] 1 [(0, Z37 p0)] (by kernel_rfl) <| OWk.done (by kernel_rfl) <| thenS_n <| SW.seq <| SW.seq <| SW.regionK <| OWk.sg 36 H [] [0, 3] 1 [(0, Z37 p0), (3, vI 0)] (by kernel_rfl) <| OWk.done (by kernel_rfl) <| thenS_n <| SW.block ?_
  obtain ⟨z10, hit, h⟩ := bind_inv h
  refine SW.it 36 H [0, 3] (fun y1 => [(0, Z37 p0), (3, vI y1)]) (fun b e s => ((∃ v11, b = (.inl v11) ∧ (e = .exit 0 ∧ s = (sp 36 [] H))) ∨ (∃ r12, b = (.inr r12) ∧ (e = .ret ∧ EndQ Tryz.prog Tryz.f10.results.toList H (vB r12) .ret s)))) hit (by kernel_rfl) (fun y1 o h => ?_) ?_
  · unfold l01_Rows_l2 at h
    refine SW.seq <| SW.seq <| SW.regionK <| OWk.sg 36 H [] [0, 3, 5, 6] 2 [(0, Z37 p0), (3, vI y1), (5, vI y1), (6, Z37 p0)] (by kernel_rfl) <| OWk.on 36 H (d := some 7) [0, 3, 5, 7] [(0, Z37 p0), (3, vI y1), (5, vI y1), (7, vI (p0.length : Int))] (BAt.len (enc := encL0) (xs := p0) (by kernel_rfl)) (by kernel_rfl) <| OWk.sg 36 H [] [0, 3, 8] 1 [(0, Z37 p0), (3, vI y1), (8, Z45 y1 p0)] (by kernel_rfl) <| OWk.done (by kernel_rfl) <| thenS_n ?_
    refine SW.condB (b := (decide (y1 < (p0.length : Int)))) (by kernel_rfl) (fun hc => ?_) (fun hc => ?_)
    · replace h := bif_t hc h
      refine SW.skip <| thenS_n <| SW.seq <| SW.block <| SW.seq <| SW.seq <| SW.regionK <| OWk.sg 36 H [] [0, 3, 11, 12] 2 [(0, Z37 p0), (3, vI y1), (11, Z37 p0), (12, vI y1)] (by kernel_rfl) ?_
      obtain ⟨x2, hx, h⟩ := bind_inv h
      refine OWk.on 36 H (d := some 13) (s := lendP none (Go.Sh.D.cells (encL0 x2))) [0, 3, 13] [(0, Z37 p0), (3, vI y1), (13, .d (.dptr [.list 3 (List.map encValue x2)]))] (BAt.index (n := 1) hx (by kernel_rfl)) (by kernel_rfl) <| OWk.sg 36 H [] [0, 3, 14] 1 [(0, Z37 p0), (3, vI y1), (14, Z39 x2)] (by kernel_rfl) <| OWk.on 36 H (d := some 15) [0, 3, 15] [(0, Z37 p0), (3, vI y1), (15, vI (x2.length : Int))] (BAt.len (enc := encValue) (xs := x2) (by kernel_rfl)) (by kernel_rfl) <| OWk.sg 36 H [] [0, 3, 16] 1 [(0, Z37 p0), (3, vI y1), (16, Z40 x2)] (by kernel_rfl) <| OWk.done (by kernel_rfl) <| thenS_n ?_
      refine SW.condB (b := (decide ((x2.length : Int) > 20))) (by kernel_rfl) (fun hc => ?_) (fun hc => ?_)
      · replace h := bif_t hc h
        refine SW.seq <| SW.regionK <| OWk.sg 36 H [] [2] 1 [(2, vB false)] (by kernel_rfl) <| OWk.done (by kernel_rfl) <| thenS_n <| SW.ret <| thenS_r <| blockS_r <| thenS_r ?_
        cases h
        refine thenS_r ?_
        exact ⟨_, rfl, .inr (⟨false, rfl, rfl, EndQ.ret [] (by kernel_rfl) rfl⟩)⟩
      · replace h := bif_f hc h
        refine SW.skip <| thenS_n <| SW.seq <| SW.regionK <| OWk.sg 36 H [] [0, 3, 4] 1 [(0, Z37 p0), (3, vI y1), (4, vI 0)] (by kernel_rfl) <| OWk.done (by kernel_rfl) <| thenS_n <| SW.block ?_
        obtain ⟨z7, hit, h⟩ := bind_inv h
        refine SW.it 36 H [0, 3, 4] (fun y3 => [(0, Z37 p0), (3, vI y1), (4, vI y3)]) (fun b e s => ((∃ v8, b = (.inl v8) ∧ (e = .exit 2 ∧ s = (sp 36 [(0, Z37 p0), (3, vI y1)] H))) ∨ (∃ r9, b = (.inr r9) ∧ (e = .ret ∧ EndQ Tryz.prog Tryz.f10.results.toList H (vB r9) .ret s)))) hit (by kernel_rfl) (fun y3 o h => ?_) ?_
        · unfold l01_Rows_l1 at h
          refine SW.seq <| SW.seq <| SW.regionK <| OWk.sg 36 H [] [0, 3, 4, 17, 18, 19] 3 [(0, Z37 p0), (3, vI y1), (4, vI y3), (17, vI y3), (18, Z37 p0), (19, vI y1)] (by kernel_rfl) ?_
          obtain ⟨x4, hx, h⟩ := bind_inv h
          refine OWk.on 36 H (d := some 20) (s := lendP none (Go.Sh.D.cells (encL0 x4))) [0, 3, 4, 17, 20] [(0, Z37 p0), (3, vI y1), (4, vI y3), (17, vI y3), (20, .d (.dptr [.list 3 (List.map encValue x4)]))] (BAt.index (n := 1) hx (by kernel_rfl)) (by kernel_rfl) <| OWk.sg 36 H [] [0, 3, 4, 17, 21] 1 [(0, Z37 p0), (3, vI y1), (4, vI y3), (17, vI y3), (21, Z39 x4)] (by kernel_rfl) <| OWk.on 36 H (d := some 22) [0, 3, 4, 17, 22] [(0, Z37 p0), (3, vI y1), (4, vI y3), (17, vI y3), (22, vI (x4.length : Int))] (BAt.len (enc := encValue) (xs := x4) (by kernel_rfl)) (by kernel_rfl) <| OWk.sg 36 H [] [0, 3, 4, 23] 1 [(0, Z37 p0), (3, vI y1), (4, vI y3), (23, Z43 y3 x4)] (by kernel_rfl) <| OWk.done (by kernel_rfl) <| thenS_n ?_
          refine SW.condB (b := (decide (y3 < (x4.length : Int)))) (by kernel_rfl) (fun hc => ?_) (fun hc => ?_)
          · replace h := bif_t hc h
            refine SW.skip <| thenS_n <| SW.seq <| SW.block <| SW.seq <| SW.regionK <| OWk.sg 36 H [] [0, 3, 4, 26, 27] 2 [(0, Z37 p0), (3, vI y1), (4, vI y3), (26, Z37 p0), (27, vI y1)] (by kernel_rfl) ?_
            obtain ⟨x5, hx, h⟩ := bind_inv h
            refine OWk.on 36 H (d := some 28) (s := lendP none (Go.Sh.D.cells (encL0 x5))) [0, 3, 4, 28] [(0, Z37 p0), (3, vI y1), (4, vI y3), (28, .d (.dptr [.list 3 (List.map encValue x5)]))] (BAt.index (n := 1) hx (by kernel_rfl)) (by kernel_rfl) <| OWk.sg 36 H [] [0, 3, 4, 29, 30] 2 [(0, Z37 p0), (3, vI y1), (4, vI y3), (29, Z39 x5), (30, vI y3)] (by kernel_rfl) ?_
            obtain ⟨x6, hx, h⟩ := bind_inv h
            refine OWk.on 36 H (d := some 31) (s := lendP none (Go.Sh.D.cells (encValue x6))) [0, 3, 4, 31] [(0, Z37 p0), (3, vI y1), (4, vI y3), (31, .d (.dptr [.int .i64 x6.Kind, .int .i64 x6.N, .str x6.S]))] (BAt.index (n := 3) hx (by kernel_rfl)) (by kernel_rfl) <| OWk.sg 36 H [] [0, 3, 4, 33] 2 [(0, Z37 p0), (3, vI y1), (4, vI y3), (33, vS x6.S)] (by kernel_rfl) <| OWk.sg 36 H [] [0, 3, 4, 34] 1 [(0, Z37 p0), (3, vI y1), (4, vI y3), (34, vI (x6.S.length : Int))] (by kernel_rfl) <| OWk.sg 36 H [] [0, 3, 4, 35] 1 [(0, Z37 p0), (3, vI y1), (4, vI y3), (35, Z42 x6)] (by kernel_rfl) <| OWk.done (by kernel_rfl) <| thenS_n ?_
            refine SW.condB (b := (decide ((x6.S.length : Int) > 200))) (by kernel_rfl) (fun hc => ?_) (fun hc => ?_)
            · replace h := bif_t hc h
              refine SW.seq <| SW.regionK <| OWk.sg 36 H [] [2] 1 [(2, vB false)] (by kernel_rfl) <| OWk.done (by kernel_rfl) <| thenS_n <| SW.ret <| blockS_r <| thenS_r ?_
              cases h
              refine thenS_r ?_
              exact ⟨_, rfl, .inr (⟨false, rfl, rfl, EndQ.ret [] (by kernel_rfl) rfl⟩)⟩
            · replace h := bif_f hc h
              refine SW.skip <| blockS_n <| thenS_n <| SW.regionK <| OWk.sg 36 H [] [0, 3, 4] 3 [(0, Z37 p0), (3, vI y1), (4, Z44 y3)] (by kernel_rfl) <| OWk.done (by kernel_rfl) ?_
              cases h
              exact ⟨(IntKind.wrap .i64 (y3 + 1)), rfl, by kernel_rfl⟩
          · replace h := bif_f hc h
            refine SW.kp 36 H [0, 3] [(0, Z37 p0), (3, vI y1)] (by kernel_rfl) <| SW.exit <| thenS_e ?_
            cases h
            refine thenS_e ?_
            exact ⟨_, rfl, .inl ⟨(), rfl, rfl, rfl⟩⟩
        · rintro _ _ (⟨v8, rfl, rfl, rfl⟩ | ⟨r9, rfl, rfl, hE⟩)
          · replace h := sum_l h
            refine blockS_hit <| blockS_n <| thenS_n <| SW.regionK <| OWk.sg 36 H [] [0, 3] 3 [(0, Z37 p0), (3, Z44 y1)] (by kernel_rfl) <| OWk.done (by kernel_rfl) ?_
            cases h
            exact ⟨(IntKind.wrap .i64 (y1 + 1)), rfl, by kernel_rfl⟩
          · replace h := sum_r h
            refine blockS_r <| blockS_r <| thenS_r ?_
            cases h
            refine thenS_r ?_
            exact ⟨_, rfl, .inr (⟨r9, rfl, rfl, hE⟩)⟩
    · replace h := bif_f hc h
      refine SW.kp 36 H [] [] (by kernel_rfl) <| SW.exit <| thenS_e ?_
      cases h
      refine thenS_e ?_
      exact ⟨_, rfl, .inl ⟨(), rfl, rfl, rfl⟩⟩
  · rintro _ _ (⟨v11, rfl, rfl, rfl⟩ | ⟨r12, rfl, rfl, hE⟩)
    · replace h := sum_l h
      refine blockS_hit <| thenS_n <| SW.seq <| SW.regionK <| OWk.sg 36 H [] [2] 1 [(2, vB true)] (by kernel_rfl) <| OWk.done (by kernel_rfl) <| thenS_n <| SW.ret ?_
      cases h
      exact EndQ.ret [] (by kernel_rfl) rfl
    · replace h := sum_r h
      refine blockS_r <| thenS_r ?_
      cases h
      exact hE
def l01_Names_l1 (fuel : Nat) (p0 : (List (List UInt8))) (y1 : Int) : Option ((Int) ⊕ ((Unit) ⊕ ((Bool)))) :=
  bif ((decide (y1 < (p0.length : Int))) && (decide (y1 < 20))) then
    (idx p0 y1).bind fun x2 =>
    bif (decide ((x2.length : Int) > 100)) then
      some (.inr (.inr false))
    else
      some (.inl (IntKind.wrap .i64 (y1 + 1)))
  else
    some (.inr (.inl ()))
def l01_Names (fuel : Nat) (p0 : (List (List UInt8))) : Option (Bool) :=
  (iter (l01_Names_l1 fuel p0) fuel 0).bind (Sum.elim (fun v4 =>
    some (decide ((p0.length : Int) ≤ 20))) (fun r5 =>
    some r5))
def Z46 (x0 : Deed) : SV := .d (.list 1 (List.map D.str x0.Names))
def Z47 (x0 : (List (List UInt8))) : SV := .d (.list 1 (List.map D.str x0))
def Z49 (x0 : (List UInt8)) : SV := vB (decide ((x0.length : Int) > 100))
def Z50 (x0 : Int) (x1 : (List (List UInt8))) : SV := vB (decide (x0 < (x1.length : Int)))
def Z51 (x0 : (List (List UInt8))) : SV := vB (decide ((x0.length : Int) ≤ 20))
theorem l01_Names_ok {fuel : Nat} {p0 : (List (List UInt8))} {r : Bool} (h : l01_Names fuel p0 = some r) : PC Tryz.prog 11 [.d (.list 1 (List.map D.str p0))] (vB r) := by
  refine PC.of_SW Tryz.func11 rfl fun H => ?_
  unfold l01_Names at h
  refine SW.kp 23 H [0] [(0, Z47 p0)] (by kernel_rfl) <| SW.seq <| SW.regionK <| OWk.sg 23 H [] [0] 1 [(0, Z47 p0)] (by kernel_rfl) <| OWk.done (by kernel_rfl) <| thenS_n <| SW.seq <| SW.seq <| SW.regionK <| OWk.sg 23 H [] [0, 3] 1 [(0, Z47 p0), (3, vI 0)] (by kernel_rfl) <| OWk.done (by kernel_rfl) <| thenS_n <| SW.block ?_
  obtain ⟨z3, hit, h⟩ := bind_inv h
  refine SW.it 23 H [0, 3] (fun y1 => [(0, Z47 p0), (3, vI y1)]) (fun b e s => ((∃ v4, b = (.inl v4) ∧ (e = .exit 0 ∧ s = (sp 23 [(0, Z47 p0)] H))) ∨ (∃ r5, b = (.inr r5) ∧ (e = .ret ∧ EndQ Tryz.prog Tryz.f11.results.toList H (vB r5) .ret s)))) hit (by kernel_rfl) (fun y1 o h => ?_) ?_
  · unfold l01_Names_l1 at h
    refine SW.seq <| SW.seq <| SW.regionK <| OWk.sg 23 H [] [0, 3, 4, 5] 2 [(0, Z47 p0), (3, vI y1), (4, vI y1), (5, Z47 p0)] (by kernel_rfl) <| OWk.on 23 H (d := some 6) [0, 3, 4, 6] [(0, Z47 p0), (3, vI y1), (4, vI y1), (6, vI (p0.length : Int))] (BAt.len (enc := D.str) (xs := p0) (by kernel_rfl)) (by kernel_rfl) <| OWk.sg 23 H [] [0, 3, 8] 2 [(0, Z47 p0), (3, vI y1), (8, Z50 y1 p0)] (by kernel_rfl) <| OWk.mg 23 H [0, 3, 11] 3 (decide (y1 < (p0.length : Int))) (fun b => (sp 23 [(0, Z47 p0), (3, vI y1), (8, vB b)] H)) (fun b => [(0, Z47 p0), (3, vI y1), (11, vB (b && (decide (y1 < 20))))]) (by kernel_rfl) (by kernel_rfl) (by kernel_rfl) <| OWk.done (by kernel_rfl) <| thenS_n ?_
    refine SW.condB (b := ((decide (y1 < (p0.length : Int))) && (decide (y1 < 20)))) (by kernel_rfl) (fun hc => ?_) (fun hc => ?_)
    · replace h := bif_t hc h
      refine SW.skip <| thenS_n <| SW.seq <| SW.block <| SW.seq <| SW.regionK <| OWk.sg 23 H [] [0, 3, 14, 15] 2 [(0, Z47 p0), (3, vI y1), (14, Z47 p0), (15, vI y1)] (by kernel_rfl) ?_
      obtain ⟨x2, hx, h⟩ := bind_inv h
      refine OWk.on 23 H (d := some 16) (s := lendP none (Go.Sh.D.cells (D.str x2))) [0, 3, 16] [(0, Z47 p0), (3, vI y1), (16, .d (.dptr [.str x2]))] (BAt.index (n := 1) hx (by kernel_rfl)) (by kernel_rfl) <| OWk.sg 23 H [] [0, 3, 17] 1 [(0, Z47 p0), (3, vI y1), (17, vS x2)] (by kernel_rfl) <| OWk.sg 23 H [] [0, 3, 18] 1 [(0, Z47 p0), (3, vI y1), (18, vI (x2.length : Int))] (by kernel_rfl) <| OWk.sg 23 H [] [0, 3, 19] 1 [(0, Z47 p0), (3, vI y1), (19, Z49 x2)] (by kernel_rfl) <| OWk.done (by kernel_rfl) <| thenS_n ?_
      refine SW.condB (b := (decide ((x2.length : Int) > 100))) (by kernel_rfl) (fun hc => ?_) (fun hc => ?_)
      · replace h := bif_t hc h
        refine SW.seq <| SW.regionK <| OWk.sg 23 H [] [2] 1 [(2, vB false)] (by kernel_rfl) <| OWk.done (by kernel_rfl) <| thenS_n <| SW.ret <| blockS_r <| thenS_r ?_
        cases h
        refine thenS_r ?_
        exact ⟨_, rfl, .inr (⟨false, rfl, rfl, EndQ.ret [] (by kernel_rfl) rfl⟩)⟩
      · replace h := bif_f hc h
        refine SW.skip <| blockS_n <| thenS_n <| SW.regionK <| OWk.sg 23 H [] [0, 3] 3 [(0, Z47 p0), (3, Z44 y1)] (by kernel_rfl) <| OWk.done (by kernel_rfl) ?_
        cases h
        exact ⟨(IntKind.wrap .i64 (y1 + 1)), rfl, by kernel_rfl⟩
    · replace h := bif_f hc h
      refine SW.kp 23 H [0] [(0, Z47 p0)] (by kernel_rfl) <| SW.exit <| thenS_e ?_
      cases h
      refine thenS_e ?_
      exact ⟨_, rfl, .inl ⟨(), rfl, rfl, rfl⟩⟩
  · rintro _ _ (⟨v4, rfl, rfl, rfl⟩ | ⟨r5, rfl, rfl, hE⟩)
    · replace h := sum_l h
      refine blockS_hit <| thenS_n <| SW.seq <| SW.regionK <| OWk.sg 23 H [] [20] 1 [(20, Z47 p0)] (by kernel_rfl) <| OWk.on 23 H (d := some 21) [21] [(21, vI (p0.length : Int))] (BAt.len (enc := D.str) (xs := p0) (by kernel_rfl)) (by kernel_rfl) <| OWk.sg 23 H [] [2] 2 [(2, Z51 p0)] (by kernel_rfl) <| OWk.done (by kernel_rfl) <| thenS_n <| SW.ret ?_
      cases h
      exact EndQ.ret [] (by kernel_rfl) rfl
    · replace h := sum_r h
      refine blockS_r <| thenS_r ?_
      cases h
      exact hE
def l_deed_l1 (fuel : Nat) (p0 : Deed) (y1 : Int × Int) : Option ((Int × Int) ⊕ (Int)) :=
  bif ((decide (y1.2 < (p0.Keys.length : Int))) && (decide (y1.2 < 30))) then
    (idx p0.Keys y1.2).bind fun x2 =>
    some (.inl ((IntKind.wrap .i64 (y1.1 + (x2.length : Int))), (IntKind.wrap .i64 (y1.2 + 1))))
  else
    some (.inr y1.1)
def l_deed (fuel : Nat) (p0 : Deed) : Option (Bool) :=
  (iter (l_deed_l1 fuel p0) fuel ((p0.On.length : Int), 0)).bind fun v4 =>
  (l01_Rows fuel [p0.Row]).bind fun r5 =>
  bif r5 then
    (l01_Names fuel p0.Names).bind fun r6 =>
    bif r6 then
      some ((decide ((p0.Keys.length : Int) ≤ 30)) && (decide (v4 ≤ 2000)))
    else
      some false
  else
    some false
def Z52 (x0 : Deed) : SV := vB (decide ((x0.Keys.length : Int) ≤ 30))
def Z53 (x0 : Deed) (x1 : Int) : SV := vB ((decide ((x0.Keys.length : Int) ≤ 30)) && (decide (x1 ≤ 2000)))
theorem l_deed_ok {fuel : Nat} {p0 : Deed} {r : Bool} (h : l_deed fuel p0 = some r) : PC Tryz.prog 5 [.d (encDeed p0)] (vB r) := by
  refine PC.of_SW Tryz.func5 rfl fun H => ?_
  unfold l_deed at h
  refine SW.kp 46 H [0] [(0, Z29 p0)] (by kernel_rfl) <| SW.seq <| SW.regionK <| OWk.sg 46 H [] [1] 2 [(1, Z2 p0)] (by kernel_rfl) <| OWk.done (by kernel_rfl) <| thenS_n <| SW.seq <| SW.regionK <| OWk.sg 46 H [] [1, 6] 2 [(1, Z2 p0), (6, vS p0.On)] (by kernel_rfl) <| OWk.sg 46 H [] [1, 7] 1 [(1, Z2 p0), (7, vI (p0.On.length : Int))] (by kernel_rfl) <| OWk.sg 46 H [] [1, 3] 1 [(1, Z2 p0), (3, vI (p0.On.length : Int))] (by kernel_rfl) <| OWk.done (by kernel_rfl) <| thenS_n <| SW.seq <| SW.seq <| SW.regionK <| OWk.sg 46 H [] [1, 3, 4] 1 [(1, Z2 p0), (3, vI (p0.On.length : Int)), (4, vI 0)] (by kernel_rfl) <| OWk.done (by kernel_rfl) <| thenS_n <| SW.block ?_
  obtain ⟨v4, hit, h⟩ := bind_inv h
  refine SW.it 46 H [1, 3, 4] (fun y1 => [(1, Z2 p0), (3, vI y1.1), (4, vI y1.2)]) (fun v4 e s => (e = .exit 0 ∧ s = (sp 46 [(1, Z2 p0), (3, vI v4)] H))) hit (by kernel_rfl) (fun y1 o h => ?_) ?_
  · unfold l_deed_l1 at h
    refine SW.seq <| SW.seq <| SW.regionK <| OWk.sg 46 H [] [1, 3, 4, 8, 10] 3 [(1, Z2 p0), (3, vI y1.1), (4, vI y1.2), (8, vI y1.2), (10, Z30 p0)] (by kernel_rfl) <| OWk.on 46 H (d := some 11) [1, 3, 4, 8, 11] [(1, Z2 p0), (3, vI y1.1), (4, vI y1.2), (8, vI y1.2), (11, Z33 p0)] (BAt.len (enc := D.str) (xs := p0.Keys) (by kernel_rfl)) (by kernel_rfl) <| OWk.sg 46 H [] [1, 3, 4, 13] 2 [(1, Z2 p0), (3, vI y1.1), (4, vI y1.2), (13, Z34 y1 p0)] (by kernel_rfl) <| OWk.mg 46 H [1, 3, 4, 16] 3 (decide (y1.2 < (p0.Keys.length : Int))) (fun b => (sp 46 [(1, Z2 p0), (3, vI y1.1), (4, vI y1.2), (13, vB b)] H)) (fun b => [(1, Z2 p0), (3, vI y1.1), (4, vI y1.2), (16, vB (b && (decide (y1.2 < 30))))]) (by kernel_rfl) (by kernel_rfl) (by kernel_rfl) <| OWk.done (by kernel_rfl) <| thenS_n ?_
    refine SW.condB (b := ((decide (y1.2 < (p0.Keys.length : Int))) && (decide (y1.2 < 30)))) (by kernel_rfl) (fun hc => ?_) (fun hc => ?_)
    · replace h := bif_t hc h
      refine SW.skip <| thenS_n <| SW.seq <| SW.block <| SW.regionK <| OWk.sg 46 H [] [1, 4, 19, 21, 22] 4 [(1, Z2 p0), (4, vI y1.2), (19, vI y1.1), (21, Z30 p0), (22, vI y1.2)] (by kernel_rfl) ?_
      obtain ⟨x2, hx, h⟩ := bind_inv h
      refine OWk.on 46 H (d := some 23) (s := lendP none (Go.Sh.D.cells (D.str x2))) [1, 4, 19, 23] [(1, Z2 p0), (4, vI y1.2), (19, vI y1.1), (23, .d (.dptr [.str x2]))] (BAt.index (n := 1) hx (by kernel_rfl)) (by kernel_rfl) <| OWk.sg 46 H [] [1, 4, 19, 24] 1 [(1, Z2 p0), (4, vI y1.2), (19, vI y1.1), (24, vS x2)] (by kernel_rfl) <| OWk.sg 46 H [] [1, 4, 19, 25] 1 [(1, Z2 p0), (4, vI y1.2), (19, vI y1.1), (25, vI (x2.length : Int))] (by kernel_rfl) <| OWk.sg 46 H [] [1, 3, 4] 2 [(1, Z2 p0), (3, Z35 y1 x2), (4, vI y1.2)] (by kernel_rfl) <| OWk.done (by kernel_rfl) <| blockS_n <| thenS_n <| SW.regionK <| OWk.sg 46 H [] [1, 3, 4] 3 [(1, Z2 p0), (3, Z35 y1 x2), (4, Z18 y1)] (by kernel_rfl) <| OWk.done (by kernel_rfl) ?_
      cases h
      exact ⟨((IntKind.wrap .i64 (y1.1 + (x2.length : Int))), (IntKind.wrap .i64 (y1.2 + 1))), rfl, by kernel_rfl⟩
    · replace h := bif_f hc h
      refine SW.kp 46 H [1, 3] [(1, Z2 p0), (3, vI y1.1)] (by kernel_rfl) <| SW.exit <| thenS_e ?_
      cases h
      refine thenS_e ?_
      exact ⟨_, rfl, ⟨rfl, rfl⟩⟩
  · rintro _ _ ⟨rfl, rfl⟩
    refine blockS_hit <| thenS_n <| SW.seq <| SW.regionK <| OWk.sg 46 H [] [1, 3, 29] 3 [(1, Z2 p0), (3, vI v4), (29, Z36 p0)] (by kernel_rfl) ?_
    obtain ⟨r5, hr, h⟩ := bind_inv h
    refine OWk.cl 46 H (d := some 30) (ls := [(.slot 29)]) (gs := []) [] [1, 3, 30] [(1, Z2 p0), (3, vI v4), (30, vB r5)] (l01_Rows_ok hr) (by kernel_rfl) (by kernel_rfl) (by kernel_rfl) <| OWk.sg 46 H [] [1, 3, 31] 1 [(1, Z2 p0), (3, vI v4), (31, vB r5)] (by kernel_rfl) ?_
    refine OWk.case r5 (fun b => (sp 46 [(1, Z2 p0), (3, vI v4), (31, vB b)] H)) (by kernel_rfl) (fun hc => ?_) (fun hc => ?_)
    · replace h := bif_t hc h
      refine OWk.sg 46 H [] [1, 3, 31, 33] 2 [(1, Z2 p0), (3, vI v4), (31, vB true), (33, Z46 p0)] (by kernel_rfl) ?_
      obtain ⟨r6, hr, h⟩ := bind_inv h
      refine OWk.cl 46 H (d := some 34) (ls := []) (gs := []) [] [1, 3, 31, 34] [(1, Z2 p0), (3, vI v4), (31, vB true), (34, vB r6)] (l01_Names_ok hr) (by kernel_rfl) (by kernel_rfl) (by kernel_rfl) <| OWk.sg 46 H [] [1, 3, 36] 2 [(1, Z2 p0), (3, vI v4), (36, vB r6)] (by kernel_rfl) ?_
      refine OWk.case r6 (fun b => (sp 46 [(1, Z2 p0), (3, vI v4), (36, vB b)] H)) (by kernel_rfl) (fun hc => ?_) (fun hc => ?_)
      · replace h := bif_t hc h
        refine OWk.sg 46 H [] [3, 36, 38] 2 [(3, vI v4), (36, vB true), (38, Z30 p0)] (by kernel_rfl) <| OWk.on 46 H (d := some 39) [3, 36, 39] [(3, vI v4), (36, vB true), (39, Z33 p0)] (BAt.len (enc := D.str) (xs := p0.Keys) (by kernel_rfl)) (by kernel_rfl) <| OWk.sg 46 H [] [3, 42] 3 [(3, vI v4), (42, Z52 p0)] (by kernel_rfl) <| OWk.mg 46 H [45] 3 (decide ((p0.Keys.length : Int) ≤ 30)) (fun b => (sp 46 [(3, vI v4), (42, vB b)] H)) (fun b => [(45, vB (b && (decide (v4 ≤ 2000))))]) (by kernel_rfl) (by kernel_rfl) (by kernel_rfl) <| OWk.sg 46 H [] [2] 1 [(2, Z53 p0 v4)] (by kernel_rfl) <| OWk.done (by kernel_rfl) <| thenS_n <| SW.ret ?_
        cases h
        exact EndQ.ret [] (by kernel_rfl) rfl
      · replace h := bif_f hc h
        refine OWk.sg 46 H [] [2] 10 [(2, vB false)] (by kernel_rfl) <| OWk.done (by kernel_rfl) <| thenS_n <| SW.ret ?_
        cases h
        exact EndQ.ret [] (by kernel_rfl) rfl
    · replace h := bif_f hc h
      refine OWk.sg 46 H [] [2] 15 [(2, vB false)] (by kernel_rfl) <| OWk.done (by kernel_rfl) <| thenS_n <| SW.ret ?_
      cases h
      exact EndQ.ret [] (by kernel_rfl) rfl
def guard_ValidProc (fuel : Nat) (p0 : Proc) : Option (Bool) :=
  none
def Z54 (x0 : Privacy) (x1 : (List Privacy)) : SV := .own 3 (List.map encPrivacy ([x0] ++ x1))
def Z55 : SV := .d (.fn (.func 21) [] [])
def Z56 (x0 : Proc) : SV := .d (.agg [.str x0.Name, .int .i64 x0.Verb, .str x0.On, .int .i64 x0.When, .str x0.Cond, .int .i64 x0.Does, .str x0.Text])
def Z57 (x0 : Proc) : SV := .box [vS x0.Name, vI x0.Verb, vS x0.On, vI x0.When, vS x0.Cond, vI x0.Does, vS x0.Text]
theorem guard_ValidProc_ok {fuel : Nat} {p0 : Proc} {r : Bool} (h : guard_ValidProc fuel p0 = some r) : PC Tryz.prog 22 [.d (encProc p0)] (vB r) := by
  refine PC.of_SW Tryz.func22 rfl fun H => ?_
  unfold guard_ValidProc at h
  refine SW.kp 67 H [0] [(0, Z56 p0)] (by kernel_rfl) ?_
  cases h
def guard_asked_1 (fuel : Nat) (p0 : Proc) : Option (Bool) :=
  (guard_ValidProc fuel p0).bind fun r1 =>
  some (!r1)
theorem guard_asked_1_ok {fuel : Nat} {p0 : Proc} {r : Bool} (h : guard_asked_1 fuel p0 = some r) : PC Tryz.prog 21 [.d (encProc p0)] (vB r) := by
  refine PC.of_SW Tryz.func21 rfl fun H => ?_
  unfold guard_asked_1 at h
  refine SW.kp 6 H [0] [(0, Z56 p0)] (by kernel_rfl) <| SW.seq <| SW.regionK <| OWk.sg 6 H [] [1] 2 [(1, Z57 p0)] (by kernel_rfl) <| OWk.done (by kernel_rfl) <| thenS_n <| SW.seq <| SW.regionK <| OWk.sg 6 H [] [3] 1 [(3, Z56 p0)] (by kernel_rfl) ?_
  obtain ⟨r1, hr, h⟩ := bind_inv h
  refine OWk.cl 6 H (d := some 4) (ls := []) (gs := []) [] [4] [(4, vB r1)] (guard_ValidProc_ok hr) (by kernel_rfl) (by kernel_rfl) (by kernel_rfl) <| OWk.sg 6 H [] [2] 2 [(2, vB (!r1))] (by kernel_rfl) <| OWk.done (by kernel_rfl) <| thenS_n <| SW.ret ?_
  cases h
  exact EndQ.ret [] (by kernel_rfl) rfl
def slices_IndexFunc__guard_asked_1_l1 (fuel : Nat) (p0 : (List Proc)) (y1 : Int) : Option ((Int) ⊕ ((Unit) ⊕ ((Int)))) :=
  bif (decide (y1 < (p0.length : Int))) then
    (idx p0 y1).bind fun x2 =>
    (guard_asked_1 fuel x2).bind fun r3 =>
    bif r3 then
      some (.inr (.inr y1))
    else
      some (.inl (IntKind.wrap .i64 (y1 + 1)))
  else
    some (.inr (.inl ()))
def slices_IndexFunc__guard_asked_1 (fuel : Nat) (p0 : (List Proc)) : Option (Int) :=
  (iter (slices_IndexFunc__guard_asked_1_l1 fuel p0) fuel 0).bind (Sum.elim (fun v5 =>
    some (-1)) (fun r6 =>
    some r6))
def Z58 (x0 : Int) (x1 : (List Proc)) : SV := vB (decide (x0 < (x1.length : Int)))
theorem slices_IndexFunc__guard_asked_1_ok {fuel : Nat} {p0 : (List Proc)} {r : Int} (h : slices_IndexFunc__guard_asked_1 fuel p0 = some r) : PC Tryz.prog 39 [.d (.list 7 (List.map encProc p0)), .d (.fn (.func 21) [] [])] (vI r) := by
  refine PC.of_SW Tryz.func39 rfl fun H => ?_
  unfold slices_IndexFunc__guard_asked_1 at h
  refine SW.kp 19 H [0, 1] [(0, Z4 p0), (1, Z55)] (by kernel_rfl) <| SW.seq <| SW.regionK <| OWk.sg 19 H [] [0, 1] 1 [(0, Z4 p0), (1, Z55)] (by kernel_rfl) <| OWk.done (by kernel_rfl) <| thenS_n <| SW.seq <| SW.seq <| SW.regionK <| OWk.sg 19 H [] [0, 1, 6] 1 [(0, Z4 p0), (1, Z55), (6, Z4 p0)] (by kernel_rfl) <| OWk.on 19 H (d := some 7) [0, 1, 7] [(0, Z4 p0), (1, Z55), (7, vI (p0.length : Int))] (BAt.len (enc := encProc) (xs := p0) (by kernel_rfl)) (by kernel_rfl) <| OWk.sg 19 H [] [0, 1, 7, 8] 1 [(0, Z4 p0), (1, Z55), (7, vI (p0.length : Int)), (8, vI 0)] (by kernel_rfl) <| OWk.done (by kernel_rfl) <| thenS_n <| SW.block ?_
  obtain ⟨z4, hit, h⟩ := bind_inv h
  refine SW.it 19 H [0, 1, 7, 8] (fun y1 => [(0, Z4 p0), (1, Z55), (7, vI (p0.length : Int)), (8, vI y1)]) (fun b e s => ((∃ v5, b = (.inl v5) ∧ (e = .exit 0 ∧ s = (sp 19 [] H))) ∨ (∃ r6, b = (.inr r6) ∧ (e = .ret ∧ EndQ Tryz.prog Tryz.f39.results.toList H (vI r6) .ret s)))) hit (by kernel_rfl) (fun y1 o h => ?_) ?_
  · unfold slices_IndexFunc__guard_asked_1_l1 at h
    refine SW.seq <| SW.regionK <| OWk.sg 19 H [] [0, 1, 7, 8, 9] 1 [(0, Z4 p0), (1, Z55), (7, vI (p0.length : Int)), (8, vI y1), (9, Z58 y1 p0)] (by kernel_rfl) <| OWk.done (by kernel_rfl) <| thenS_n <| SW.seq ?_
    refine SW.condB (b := (decide (y1 < (p0.length : Int)))) (by kernel_rfl) (fun hc => ?_) (fun hc => ?_)
    · replace h := bif_t hc h
      refine SW.skip <| thenS_n <| SW.seq <| SW.block <| SW.seq <| SW.regionK <| OWk.sg 19 H [] [0, 1, 5, 7, 8] 2 [(0, Z4 p0), (1, Z55), (5, vI y1), (7, vI (p0.length : Int)), (8, vI y1)] (by kernel_rfl) <| OWk.done (by kernel_rfl) <| thenS_n <| SW.seq <| SW.regionK <| OWk.sg 19 H [] [0, 1, 5, 7, 8, 11, 12, 13] 3 [(0, Z4 p0), (1, Z55), (5, vI y1), (7, vI (p0.length : Int)), (8, vI y1), (11, Z55), (12, Z4 p0), (13, vI y1)] (by kernel_rfl) ?_
      obtain ⟨x2, hx, h⟩ := bind_inv h
      refine OWk.on 19 H (d := some 14) (s := lendP none (Go.Sh.D.cells (encProc x2))) [0, 1, 5, 7, 8, 11, 14] [(0, Z4 p0), (1, Z55), (5, vI y1), (7, vI (p0.length : Int)), (8, vI y1), (11, Z55), (14, .d (.dptr [.str x2.Name, .int .i64 x2.Verb, .str x2.On, .int .i64 x2.When, .str x2.Cond, .int .i64 x2.Does, .str x2.Text]))] (BAt.index (n := 7) hx (by kernel_rfl)) (by kernel_rfl) <| OWk.sg 19 H [] [0, 1, 5, 7, 8, 11, 15] 1 [(0, Z4 p0), (1, Z55), (5, vI y1), (7, vI (p0.length : Int)), (8, vI y1), (11, Z55), (15, Z56 x2)] (by kernel_rfl) ?_
      obtain ⟨r3, hr, h⟩ := bind_inv h
      refine OWk.cl 19 H (d := some 16) (ls := []) (gs := []) [] [0, 1, 5, 7, 8, 16] [(0, Z4 p0), (1, Z55), (5, vI y1), (7, vI (p0.length : Int)), (8, vI y1), (16, vB r3)] (guard_asked_1_ok hr) (by kernel_rfl) (by kernel_rfl) (by kernel_rfl) <| OWk.done (by kernel_rfl) <| thenS_n ?_
      refine SW.condB (b := r3) (by kernel_rfl) (fun hc => ?_) (fun hc => ?_)
      · replace h := bif_t hc h
        refine SW.seq <| SW.regionK <| OWk.sg 19 H [] [4] 2 [(4, vI y1)] (by kernel_rfl) <| OWk.done (by kernel_rfl) <| thenS_n <| SW.ret <| blockS_r <| thenS_r ?_
        cases h
        refine thenS_r ?_
        exact ⟨_, rfl, .inr (⟨y1, rfl, rfl, EndQ.ret [] (by kernel_rfl) rfl⟩)⟩
      · replace h := bif_f hc h
        refine SW.skip <| blockS_n <| thenS_n <| SW.regionK <| OWk.sg 19 H [] [0, 1, 7, 8] 2 [(0, Z4 p0), (1, Z55), (7, vI (p0.length : Int)), (8, Z44 y1)] (by kernel_rfl) <| OWk.done (by kernel_rfl) ?_
        cases h
        exact ⟨(IntKind.wrap .i64 (y1 + 1)), rfl, by kernel_rfl⟩
    · replace h := bif_f hc h
      refine SW.kp 19 H [] [] (by kernel_rfl) <| SW.exit <| thenS_e ?_
      cases h
      refine thenS_e ?_
      exact ⟨_, rfl, .inl ⟨(), rfl, rfl, rfl⟩⟩
  · rintro _ _ (⟨v5, rfl, rfl, rfl⟩ | ⟨r6, rfl, rfl, hE⟩)
    · replace h := sum_l h
      refine blockS_hit <| thenS_n <| SW.seq <| SW.regionK <| OWk.sg 19 H [] [4] 1 [(4, vI (-1))] (by kernel_rfl) <| OWk.done (by kernel_rfl) <| thenS_n <| SW.ret ?_
      cases h
      exact EndQ.ret [] (by kernel_rfl) rfl
    · replace h := sum_r h
      refine blockS_r <| thenS_r ?_
      cases h
      exact hE
def slices_ContainsFunc__guard_asked_1 (fuel : Nat) (p0 : (List Proc)) : Option (Bool) :=
  (slices_IndexFunc__guard_asked_1 fuel p0).bind fun r1 =>
  some (decide (r1 ≥ 0))
theorem slices_ContainsFunc__guard_asked_1_ok {fuel : Nat} {p0 : (List Proc)} {r : Bool} (h : slices_ContainsFunc__guard_asked_1 fuel p0 = some r) : PC Tryz.prog 20 [.d (.list 7 (List.map encProc p0)), .d (.fn (.func 21) [] [])] (vB r) := by
  refine PC.of_SW Tryz.func20 rfl fun H => ?_
  unfold slices_ContainsFunc__guard_asked_1 at h
  refine SW.kp 9 H [0, 1] [(0, Z4 p0), (1, Z55)] (by kernel_rfl) <| SW.seq <| SW.regionK <| OWk.sg 9 H [] [0, 1] 1 [(0, Z4 p0), (1, Z55)] (by kernel_rfl) <| OWk.done (by kernel_rfl) <| thenS_n <| SW.seq <| SW.regionK <| OWk.sg 9 H [] [5, 6] 2 [(5, Z4 p0), (6, Z55)] (by kernel_rfl) ?_
  obtain ⟨r1, hr, h⟩ := bind_inv h
  refine OWk.cl 9 H (d := some 7) (ls := []) (gs := []) [] [7] [(7, vI r1)] (slices_IndexFunc__guard_asked_1_ok hr) (by kernel_rfl) (by kernel_rfl) (by kernel_rfl) <| OWk.sg 9 H [] [4] 2 [(4, vB (decide (r1 ≥ 0)))] (by kernel_rfl) <| OWk.done (by kernel_rfl) <| thenS_n <| SW.ret ?_
  cases h
  exact EndQ.ret [] (by kernel_rfl) rfl
def guard_verb (fuel : Nat) (p0 : Int) : Option (Bool) :=
  some ((decide (p0 ≥ 0)) && (decide (p0 ≤ 12)))
def Z59 : SV := .d (.fn (.func 24) [] [])
def Z60 (x0 : Privacy) : SV := .d (.agg [.int .i64 x0.Verb, .str x0.On, .str x0.Key])
def Z61 (x0 : Int) : SV := vB ((decide (x0 ≥ 0)) && (decide (x0 ≤ 12)))
theorem guard_verb_ok {fuel : Nat} {p0 : Int} {r : Bool} (h : guard_verb fuel p0 = some r) : PC Tryz.prog 40 [vI p0] (vB r) := by
  refine PC.of_SW Tryz.func40 rfl fun H => ?_
  unfold guard_verb at h
  refine SW.kp 9 H [0] [(0, vI p0)] (by kernel_rfl) <| SW.seq <| SW.regionK <| OWk.sg 9 H [] [0] 1 [(0, vI p0)] (by kernel_rfl) <| OWk.done (by kernel_rfl) <| thenS_n <| SW.seq <| SW.regionK <| OWk.sg 9 H [] [0, 5] 3 [(0, vI p0), (5, vB (decide (p0 ≥ 0)))] (by kernel_rfl) <| OWk.mg 9 H [8] 3 (decide (p0 ≥ 0)) (fun b => (sp 9 [(0, vI p0), (5, vB b)] H)) (fun b => [(8, vB (b && (decide (p0 ≤ 12))))]) (by kernel_rfl) (by kernel_rfl) (by kernel_rfl) <| OWk.sg 9 H [] [2] 1 [(2, Z61 p0)] (by kernel_rfl) <| OWk.done (by kernel_rfl) <| thenS_n <| SW.ret ?_
  cases h
  exact EndQ.ret [] (by kernel_rfl) rfl
def item_small (fuel : Nat) (p0 : Int) : Option (Bool) :=
  some ((decide (p0 ≥ 97)) && (decide (p0 ≤ 122)))
def Z62 (x0 : (List UInt8)) : SV := vB (decide ((x0.length : Int) > 16))
def Z63 (x0 : Int) : SV := vB ((decide (x0 ≥ 97)) && (decide (x0 ≤ 122)))
theorem item_small_ok {fuel : Nat} {p0 : Int} {r : Bool} (h : item_small fuel p0 = some r) : PC Tryz.prog 46 [.d (.int .u8 p0)] (vB r) := by
  refine PC.of_SW Tryz.func46 rfl fun H => ?_
  unfold item_small at h
  refine SW.kp 9 H [0] [(0, .d (.int .u8 p0))] (by kernel_rfl) <| SW.seq <| SW.regionK <| OWk.sg 9 H [] [0] 1 [(0, .d (.int .u8 p0))] (by kernel_rfl) <| OWk.done (by kernel_rfl) <| thenS_n <| SW.seq <| SW.regionK <| OWk.sg 9 H [] [0, 5] 3 [(0, .d (.int .u8 p0)), (5, vB (decide (p0 ≥ 97)))] (by kernel_rfl) <| OWk.mg 9 H [8] 3 (decide (p0 ≥ 97)) (fun b => (sp 9 [(0, .d (.int .u8 p0)), (5, vB b)] H)) (fun b => [(8, vB (b && (decide (p0 ≤ 122))))]) (by kernel_rfl) (by kernel_rfl) (by kernel_rfl) <| OWk.sg 9 H [] [2] 1 [(2, Z63 p0)] (by kernel_rfl) <| OWk.done (by kernel_rfl) <| thenS_n <| SW.ret ?_
  cases h
  exact EndQ.ret [] (by kernel_rfl) rfl
def item_inner (fuel : Nat) (p0 : Int) : Option (Bool) :=
  (item_small fuel p0).bind fun r1 =>
  bif r1 then
    some true
  else
    bif (decide (p0 ≥ 48)) then
      some ((decide (p0 ≤ 57)) || (p0 == 95))
    else
      some (p0 == 95)
def Z65 (x0 : Int) : SV := vB ((decide (x0 ≤ 57)) || (x0 == 95))
theorem item_inner_ok {fuel : Nat} {p0 : Int} {r : Bool} (h : item_inner fuel p0 = some r) : PC Tryz.prog 47 [.d (.int .u8 p0)] (vB r) := by
  refine PC.of_SW Tryz.func47 rfl fun H => ?_
  unfold item_inner at h
  refine SW.kp 17 H [0] [(0, .d (.int .u8 p0))] (by kernel_rfl) <| SW.seq <| SW.regionK <| OWk.sg 17 H [] [0] 1 [(0, .d (.int .u8 p0))] (by kernel_rfl) <| OWk.done (by kernel_rfl) <| thenS_n <| SW.seq <| SW.regionK <| OWk.sg 17 H [] [0, 3] 1 [(0, .d (.int .u8 p0)), (3, .d (.int .u8 p0))] (by kernel_rfl) ?_
  obtain ⟨r1, hr, h⟩ := bind_inv h
  refine OWk.cl 17 H (d := some 4) (ls := []) (gs := []) [] [0, 4] [(0, .d (.int .u8 p0)), (4, vB r1)] (item_small_ok hr) (by kernel_rfl) (by kernel_rfl) (by kernel_rfl) <| OWk.sg 17 H [] [0, 5] 1 [(0, .d (.int .u8 p0)), (5, vB r1)] (by kernel_rfl) ?_
  refine OWk.case r1 (fun b => (sp 17 [(0, .d (.int .u8 p0)), (5, vB b)] H)) (by kernel_rfl) (fun hc => ?_) (fun hc => ?_)
  · replace h := bif_t hc h
    refine OWk.sg 17 H [] [2] 12 [(2, vB true)] (by kernel_rfl) <| OWk.done (by kernel_rfl) <| thenS_n <| SW.ret ?_
    cases h
    exact EndQ.ret [] (by kernel_rfl) rfl
  · replace h := bif_f hc h
    refine OWk.sg 17 H [] [0, 5, 8] 3 [(0, .d (.int .u8 p0)), (5, vB false), (8, vB (decide (p0 ≥ 48)))] (by kernel_rfl) ?_
    refine OWk.case (decide (p0 ≥ 48)) (fun b => (sp 17 [(0, .d (.int .u8 p0)), (5, vB false), (8, vB b)] H)) (by kernel_rfl) (fun hc => ?_) (fun hc => ?_)
    · replace h := bif_t hc h
      refine OWk.sg 17 H [] [0, 13] 5 [(0, .d (.int .u8 p0)), (13, vB (decide (p0 ≤ 57)))] (by kernel_rfl) <| OWk.mg 17 H [16] 3 (decide (p0 ≤ 57)) (fun b => (sp 17 [(0, .d (.int .u8 p0)), (13, vB b)] H)) (fun b => [(16, vB (b || (p0 == 95)))]) (by kernel_rfl) (by kernel_rfl) (by kernel_rfl) <| OWk.sg 17 H [] [2] 1 [(2, Z65 p0)] (by kernel_rfl) <| OWk.done (by kernel_rfl) <| thenS_n <| SW.ret ?_
      cases h
      exact EndQ.ret [] (by kernel_rfl) rfl
    · replace h := bif_f hc h
      refine OWk.sg 17 H [] [2] 9 [(2, vB (p0 == 95))] (by kernel_rfl) <| OWk.done (by kernel_rfl) <| thenS_n <| SW.ret ?_
      cases h
      exact EndQ.ret [] (by kernel_rfl) rfl
def item_Name_l1 (fuel : Nat) (p0 : (List UInt8)) (y5 : Int) : Option ((Int) ⊕ ((Unit) ⊕ ((Bool)))) :=
  bif (decide (y5 < (p0.length : Int))) then
    (idx p0 y5).bind fun b6 =>
    (item_inner fuel (b6.toNat : Int)).bind fun r7 =>
    bif (!r7) then
      some (.inr (.inr false))
    else
      some (.inl (IntKind.wrap .i64 (y5 + 1)))
  else
    some (.inr (.inl ()))
def item_Name (fuel : Nat) (p0 : (List UInt8)) : Option (Bool) :=
  letJ (fun (j1 : Bool) =>
    bif j1 then
      some false
    else
      (iter (item_Name_l1 fuel p0) fuel 0).bind (Sum.elim (fun v9 =>
        some true) (fun r10 =>
        some r10))) fun jp2 =>
  bif (p0 == []) then
    jp2 true
  else
    bif (decide ((p0.length : Int) > 16)) then
      jp2 true
    else
      (idx p0 0).bind fun b3 =>
      (item_small fuel (b3.toNat : Int)).bind fun r4 =>
      jp2 (!r4)
def Z66 (x0 : Int) (x1 : (List UInt8)) : SV := vB (decide (x0 < (x1.length : Int)))
theorem item_Name_ok {fuel : Nat} {p0 : (List UInt8)} {r : Bool} (h : item_Name fuel p0 = some r) : PC Tryz.prog 29 [vS p0] (vB r) := by
  refine PC.of_SW Tryz.func29 rfl fun H => ?_
  unfold item_Name at h
  refine SW.kp 28 H [0] [(0, vS p0)] (by kernel_rfl) <| SW.seq <| SW.regionK <| OWk.sg 28 H [] [0] 1 [(0, vS p0)] (by kernel_rfl) <| OWk.done (by kernel_rfl) <| thenS_n <| SW.seq ?_
  obtain ⟨jp2, hjjp2, h⟩ := letJ_inv h
  refine SW.jn 28 H [0, 16] (fun (j1 : Bool) => [(0, vS p0), (16, vB j1)]) (fun v => jp2 v = some r) (fun j1 h => ?_) ?_
  · rw [hjjp2] at h
    refine SW.condB (b := j1) (by kernel_rfl) (fun hc => ?_) (fun hc => ?_)
    · replace h := bif_t hc h
      refine SW.seq <| SW.regionK <| OWk.sg 28 H [] [2] 1 [(2, vB false)] (by kernel_rfl) <| OWk.done (by kernel_rfl) <| thenS_n <| SW.ret <| thenS_r ?_
      cases h
      exact EndQ.ret [] (by kernel_rfl) rfl
    · replace h := bif_f hc h
      refine SW.skip <| thenS_n <| SW.seq <| SW.seq <| SW.regionK <| OWk.sg 28 H [] [0, 17] 1 [(0, vS p0), (17, vS p0)] (by kernel_rfl) <| OWk.sg 28 H [] [0, 18] 1 [(0, vS p0), (18, vI (p0.length : Int))] (by kernel_rfl) <| OWk.sg 28 H [] [0, 18, 19] 1 [(0, vS p0), (18, vI (p0.length : Int)), (19, vI 0)] (by kernel_rfl) <| OWk.done (by kernel_rfl) <| thenS_n <| SW.block ?_
      obtain ⟨z8, hit, h⟩ := bind_inv h
      refine SW.it 28 H [0, 18, 19] (fun y5 => [(0, vS p0), (18, vI (p0.length : Int)), (19, vI y5)]) (fun b e s => ((∃ v9, b = (.inl v9) ∧ (e = .exit 0 ∧ s = (sp 28 [] H))) ∨ (∃ r10, b = (.inr r10) ∧ (e = .ret ∧ EndQ Tryz.prog Tryz.f29.results.toList H (vB r10) .ret s)))) hit (by kernel_rfl) (fun y5 o h => ?_) ?_
      · unfold item_Name_l1 at h
        refine SW.seq <| SW.regionK <| OWk.sg 28 H [] [0, 18, 19, 20] 1 [(0, vS p0), (18, vI (p0.length : Int)), (19, vI y5), (20, Z66 y5 p0)] (by kernel_rfl) <| OWk.done (by kernel_rfl) <| thenS_n <| SW.seq ?_
        refine SW.condB (b := (decide (y5 < (p0.length : Int)))) (by kernel_rfl) (fun hc => ?_) (fun hc => ?_)
        · replace h := bif_t hc h
          refine SW.skip <| thenS_n <| SW.seq <| SW.block <| SW.seq <| SW.regionK <| OWk.sg 28 H [] [0, 3, 18, 19] 2 [(0, vS p0), (3, vI y5), (18, vI (p0.length : Int)), (19, vI y5)] (by kernel_rfl) <| OWk.done (by kernel_rfl) <| thenS_n <| SW.seq <| SW.regionK <| OWk.sg 28 H [] [0, 18, 19, 22, 23] 2 [(0, vS p0), (18, vI (p0.length : Int)), (19, vI y5), (22, vS p0), (23, vI y5)] (by kernel_rfl) ?_
          obtain ⟨b6, hx, h⟩ := bind_inv h
          refine OWk.on 28 H (d := some 24) [0, 18, 19, 24] [(0, vS p0), (18, vI (p0.length : Int)), (19, vI y5), (24, .d (.int .u8 (b6.toNat : Int)))] (BAt.indexS hx (by kernel_rfl)) (by kernel_rfl) ?_
          obtain ⟨r7, hr, h⟩ := bind_inv h
          refine OWk.cl 28 H (d := some 25) (ls := []) (gs := []) [] [0, 18, 19, 25] [(0, vS p0), (18, vI (p0.length : Int)), (19, vI y5), (25, vB r7)] (item_inner_ok hr) (by kernel_rfl) (by kernel_rfl) (by kernel_rfl) <| OWk.sg 28 H [] [0, 18, 19, 26] 1 [(0, vS p0), (18, vI (p0.length : Int)), (19, vI y5), (26, vB (!r7))] (by kernel_rfl) <| OWk.done (by kernel_rfl) <| thenS_n ?_
          refine SW.condB (b := (!r7)) (by kernel_rfl) (fun hc => ?_) (fun hc => ?_)
          · replace h := bif_t hc h
            refine SW.seq <| SW.regionK <| OWk.sg 28 H [] [2] 1 [(2, vB false)] (by kernel_rfl) <| OWk.done (by kernel_rfl) <| thenS_n <| SW.ret <| blockS_r <| thenS_r ?_
            cases h
            refine thenS_r ?_
            exact ⟨_, rfl, .inr (⟨false, rfl, rfl, EndQ.ret [] (by kernel_rfl) rfl⟩)⟩
          · replace h := bif_f hc h
            refine SW.skip <| blockS_n <| thenS_n <| SW.regionK <| OWk.sg 28 H [] [0, 18, 19] 2 [(0, vS p0), (18, vI (p0.length : Int)), (19, Z44 y5)] (by kernel_rfl) <| OWk.done (by kernel_rfl) ?_
            cases h
            exact ⟨(IntKind.wrap .i64 (y5 + 1)), rfl, by kernel_rfl⟩
        · replace h := bif_f hc h
          refine SW.kp 28 H [] [] (by kernel_rfl) <| SW.exit <| thenS_e ?_
          cases h
          refine thenS_e ?_
          exact ⟨_, rfl, .inl ⟨(), rfl, rfl, rfl⟩⟩
      · rintro _ _ (⟨v9, rfl, rfl, rfl⟩ | ⟨r10, rfl, rfl, hE⟩)
        · replace h := sum_l h
          refine blockS_hit <| thenS_n <| SW.seq <| SW.regionK <| OWk.sg 28 H [] [2] 1 [(2, vB true)] (by kernel_rfl) <| OWk.done (by kernel_rfl) <| thenS_n <| SW.ret ?_
          cases h
          exact EndQ.ret [] (by kernel_rfl) rfl
        · replace h := sum_r h
          refine blockS_r <| thenS_r ?_
          cases h
          exact hE
  · refine SW.regionK <| OWk.sg 28 H [] [0, 6] 3 [(0, vS p0), (6, vB (p0 == []))] (by kernel_rfl) ?_
    refine OWk.case (p0 == []) (fun b => (sp 28 [(0, vS p0), (6, vB b)] H)) (by kernel_rfl) (fun hc => ?_) (fun hc => ?_)
    · replace h := bif_t hc h
      refine OWk.sg 28 H [] [0, 16] 10 [(0, vS p0), (16, vB true)] (by kernel_rfl) <| OWk.done (by kernel_rfl) ?_
      exact ⟨true, [], by kernel_rfl, h⟩
    · replace h := bif_f hc h
      refine OWk.sg 28 H [] [0, 6, 7] 1 [(0, vS p0), (6, vB false), (7, vS p0)] (by kernel_rfl) <| OWk.sg 28 H [] [0, 6, 8] 1 [(0, vS p0), (6, vB false), (8, vI (p0.length : Int))] (by kernel_rfl) <| OWk.sg 28 H [] [0, 11] 3 [(0, vS p0), (11, Z62 p0)] (by kernel_rfl) ?_
      refine OWk.case (decide ((p0.length : Int) > 16)) (fun b => (sp 28 [(0, vS p0), (11, vB b)] H)) (by kernel_rfl) (fun hc => ?_) (fun hc => ?_)
      · replace h := bif_t hc h
        refine OWk.sg 28 H [] [0, 16] 5 [(0, vS p0), (16, vB true)] (by kernel_rfl) <| OWk.done (by kernel_rfl) ?_
        exact ⟨true, [], by kernel_rfl, h⟩
      · replace h := bif_f hc h
        refine OWk.sg 28 H [] [0, 11, 12] 1 [(0, vS p0), (11, vB false), (12, vS p0)] (by kernel_rfl) ?_
        obtain ⟨b3, hx, h⟩ := bind_inv h
        refine OWk.on 28 H (d := some 13) [0, 11, 13] [(0, vS p0), (11, vB false), (13, .d (.int .u8 (b3.toNat : Int)))] (BAt.indexS hx (by kernel_rfl)) (by kernel_rfl) ?_
        obtain ⟨r4, hr, h⟩ := bind_inv h
        refine OWk.cl 28 H (d := some 14) (ls := []) (gs := []) [] [0, 11, 14] [(0, vS p0), (11, vB false), (14, vB r4)] (item_small_ok hr) (by kernel_rfl) (by kernel_rfl) (by kernel_rfl) <| OWk.sg 28 H [] [0, 16] 2 [(0, vS p0), (16, vB (!r4))] (by kernel_rfl) <| OWk.done (by kernel_rfl) ?_
        exact ⟨(!r4), [], by kernel_rfl, h⟩
def guard_on (fuel : Nat) (p0 : (List UInt8)) : Option (Bool) :=
  bif (p0 == []) then
    some true
  else
    (item_Name fuel p0).bind fun r1 =>
    bif r1 then
      some (!(p0 == [97, 110, 121]))
    else
      some false
def Z67 (x0 : (List UInt8)) : SV := vB (!(x0 == [97, 110, 121]))
theorem guard_on_ok {fuel : Nat} {p0 : (List UInt8)} {r : Bool} (h : guard_on fuel p0 = some r) : PC Tryz.prog 27 [vS p0] (vB r) := by
  refine PC.of_SW Tryz.func27 rfl fun H => ?_
  unfold guard_on at h
  refine SW.kp 13 H [0] [(0, vS p0)] (by kernel_rfl) <| SW.seq <| SW.regionK <| OWk.sg 13 H [] [0] 1 [(0, vS p0)] (by kernel_rfl) <| OWk.done (by kernel_rfl) <| thenS_n <| SW.seq <| SW.regionK <| OWk.sg 13 H [] [0, 5] 3 [(0, vS p0), (5, vB (p0 == []))] (by kernel_rfl) ?_
  refine OWk.case (p0 == []) (fun b => (sp 13 [(0, vS p0), (5, vB b)] H)) (by kernel_rfl) (fun hc => ?_) (fun hc => ?_)
  · replace h := bif_t hc h
    refine OWk.sg 13 H [] [2] 8 [(2, vB true)] (by kernel_rfl) <| OWk.done (by kernel_rfl) <| thenS_n <| SW.ret ?_
    cases h
    exact EndQ.ret [] (by kernel_rfl) rfl
  · replace h := bif_f hc h
    refine OWk.sg 13 H [] [0, 5, 6] 1 [(0, vS p0), (5, vB false), (6, vS p0)] (by kernel_rfl) ?_
    obtain ⟨r1, hr, h⟩ := bind_inv h
    refine OWk.cl 13 H (d := some 7) (ls := []) (gs := []) [] [0, 5, 7] [(0, vS p0), (5, vB false), (7, vB r1)] (item_Name_ok hr) (by kernel_rfl) (by kernel_rfl) (by kernel_rfl) <| OWk.sg 13 H [] [0, 5, 8] 1 [(0, vS p0), (5, vB false), (8, vB r1)] (by kernel_rfl) ?_
    refine OWk.case r1 (fun b => (sp 13 [(0, vS p0), (5, vB false), (8, vB b)] H)) (by kernel_rfl) (fun hc => ?_) (fun hc => ?_)
    · replace h := bif_t hc h
      refine OWk.sg 13 H [] [2] 5 [(2, Z67 p0)] (by kernel_rfl) <| OWk.done (by kernel_rfl) <| thenS_n <| SW.ret ?_
      cases h
      exact EndQ.ret [] (by kernel_rfl) rfl
    · replace h := bif_f hc h
      refine OWk.sg 13 H [] [2] 5 [(2, vB false)] (by kernel_rfl) <| OWk.done (by kernel_rfl) <| thenS_n <| SW.ret ?_
      cases h
      exact EndQ.ret [] (by kernel_rfl) rfl
def guard_key (fuel : Nat) (p0 : (List UInt8)) : Option (Bool) :=
  bif (!(p0 == [])) then
    some (decide ((p0.length : Int) ≤ 30))
  else
    some false
def Z68 (x0 : (List UInt8)) : SV := vB (decide ((x0.length : Int) ≤ 30))
theorem guard_key_ok {fuel : Nat} {p0 : (List UInt8)} {r : Bool} (h : guard_key fuel p0 = some r) : PC Tryz.prog 33 [vS p0] (vB r) := by
  refine PC.of_SW Tryz.func33 rfl fun H => ?_
  unfold guard_key at h
  refine SW.kp 10 H [0] [(0, vS p0)] (by kernel_rfl) <| SW.seq <| SW.regionK <| OWk.sg 10 H [] [0] 1 [(0, vS p0)] (by kernel_rfl) <| OWk.done (by kernel_rfl) <| thenS_n <| SW.seq <| SW.regionK <| OWk.sg 10 H [] [0, 5] 3 [(0, vS p0), (5, vB (!(p0 == [])))] (by kernel_rfl) ?_
  refine OWk.case (!(p0 == [])) (fun b => (sp 10 [(0, vS p0), (5, vB b)] H)) (by kernel_rfl) (fun hc => ?_) (fun hc => ?_)
  · replace h := bif_t hc h
    refine OWk.sg 10 H [] [5, 6] 1 [(5, vB true), (6, vS p0)] (by kernel_rfl) <| OWk.sg 10 H [] [5, 7] 1 [(5, vB true), (7, vI (p0.length : Int))] (by kernel_rfl) <| OWk.sg 10 H [] [2] 3 [(2, Z68 p0)] (by kernel_rfl) <| OWk.done (by kernel_rfl) <| thenS_n <| SW.ret ?_
    cases h
    exact EndQ.ret [] (by kernel_rfl) rfl
  · replace h := bif_f hc h
    refine OWk.sg 10 H [] [2] 5 [(2, vB false)] (by kernel_rfl) <| OWk.done (by kernel_rfl) <| thenS_n <| SW.ret ?_
    cases h
    exact EndQ.ret [] (by kernel_rfl) rfl
def guard_ValidPrivacy (fuel : Nat) (p0 : Privacy) : Option (Bool) :=
  (guard_verb fuel p0.Verb).bind fun r1 =>
  bif r1 then
    (guard_on fuel p0.On).bind fun r2 =>
    bif r2 then
      (guard_key fuel p0.Key).bind fun r3 =>
      some r3
    else
      some false
  else
    some false
theorem guard_ValidPrivacy_ok {fuel : Nat} {p0 : Privacy} {r : Bool} (h : guard_ValidPrivacy fuel p0 = some r) : PC Tryz.prog 25 [.d (encPrivacy p0)] (vB r) := by
  refine PC.of_SW Tryz.func25 rfl fun H => ?_
  unfold guard_ValidPrivacy at h
  refine SW.kp 16 H [0] [(0, Z60 p0)] (by kernel_rfl) <| SW.seq <| SW.regionK <| OWk.sg 16 H [] [1] 2 [(1, Z1 p0)] (by kernel_rfl) <| OWk.done (by kernel_rfl) <| thenS_n <| SW.seq <| SW.regionK <| OWk.sg 16 H [] [1, 4] 2 [(1, Z1 p0), (4, vI p0.Verb)] (by kernel_rfl) ?_
  obtain ⟨r1, hr, h⟩ := bind_inv h
  refine OWk.cl 16 H (d := some 5) (ls := []) (gs := []) [] [1, 5] [(1, Z1 p0), (5, vB r1)] (guard_verb_ok hr) (by kernel_rfl) (by kernel_rfl) (by kernel_rfl) <| OWk.sg 16 H [] [1, 6] 1 [(1, Z1 p0), (6, vB r1)] (by kernel_rfl) ?_
  refine OWk.case r1 (fun b => (sp 16 [(1, Z1 p0), (6, vB b)] H)) (by kernel_rfl) (fun hc => ?_) (fun hc => ?_)
  · replace h := bif_t hc h
    refine OWk.sg 16 H [] [1, 6, 8] 2 [(1, Z1 p0), (6, vB true), (8, vS p0.On)] (by kernel_rfl) ?_
    obtain ⟨r2, hr, h⟩ := bind_inv h
    refine OWk.cl 16 H (d := some 9) (ls := []) (gs := []) [] [1, 6, 9] [(1, Z1 p0), (6, vB true), (9, vB r2)] (guard_on_ok hr) (by kernel_rfl) (by kernel_rfl) (by kernel_rfl) <| OWk.sg 16 H [] [1, 11] 2 [(1, Z1 p0), (11, vB r2)] (by kernel_rfl) ?_
    refine OWk.case r2 (fun b => (sp 16 [(1, Z1 p0), (11, vB b)] H)) (by kernel_rfl) (fun hc => ?_) (fun hc => ?_)
    · replace h := bif_t hc h
      refine OWk.sg 16 H [] [11, 13] 2 [(11, vB true), (13, vS p0.Key)] (by kernel_rfl) ?_
      obtain ⟨r3, hr, h⟩ := bind_inv h
      refine OWk.cl 16 H (d := some 14) (ls := []) (gs := []) [] [11, 14] [(11, vB true), (14, vB r3)] (guard_key_ok hr) (by kernel_rfl) (by kernel_rfl) (by kernel_rfl) <| OWk.sg 16 H [] [2] 2 [(2, vB r3)] (by kernel_rfl) <| OWk.done (by kernel_rfl) <| thenS_n <| SW.ret ?_
      cases h
      exact EndQ.ret [] (by kernel_rfl) rfl
    · replace h := bif_f hc h
      refine OWk.sg 16 H [] [2] 5 [(2, vB false)] (by kernel_rfl) <| OWk.done (by kernel_rfl) <| thenS_n <| SW.ret ?_
      cases h
      exact EndQ.ret [] (by kernel_rfl) rfl
  · replace h := bif_f hc h
    refine OWk.sg 16 H [] [2] 10 [(2, vB false)] (by kernel_rfl) <| OWk.done (by kernel_rfl) <| thenS_n <| SW.ret ?_
    cases h
    exact EndQ.ret [] (by kernel_rfl) rfl
def guard_asked_2 (fuel : Nat) (p0 : Privacy) : Option (Bool) :=
  (guard_ValidPrivacy fuel p0).bind fun r1 =>
  some (!r1)
theorem guard_asked_2_ok {fuel : Nat} {p0 : Privacy} {r : Bool} (h : guard_asked_2 fuel p0 = some r) : PC Tryz.prog 24 [.d (encPrivacy p0)] (vB r) := by
  refine PC.of_SW Tryz.func24 rfl fun H => ?_
  unfold guard_asked_2 at h
  refine SW.kp 6 H [0] [(0, Z60 p0)] (by kernel_rfl) <| SW.seq <| SW.regionK <| OWk.sg 6 H [] [1] 2 [(1, Z1 p0)] (by kernel_rfl) <| OWk.done (by kernel_rfl) <| thenS_n <| SW.seq <| SW.regionK <| OWk.sg 6 H [] [3] 1 [(3, Z60 p0)] (by kernel_rfl) ?_
  obtain ⟨r1, hr, h⟩ := bind_inv h
  refine OWk.cl 6 H (d := some 4) (ls := []) (gs := []) [] [4] [(4, vB r1)] (guard_ValidPrivacy_ok hr) (by kernel_rfl) (by kernel_rfl) (by kernel_rfl) <| OWk.sg 6 H [] [2] 2 [(2, vB (!r1))] (by kernel_rfl) <| OWk.done (by kernel_rfl) <| thenS_n <| SW.ret ?_
  cases h
  exact EndQ.ret [] (by kernel_rfl) rfl
def slices_IndexFunc__guard_asked_2_l1 (fuel : Nat) (p0 : (List Privacy)) (y1 : Int) : Option ((Int) ⊕ ((Unit) ⊕ ((Int)))) :=
  bif (decide (y1 < (p0.length : Int))) then
    (idx p0 y1).bind fun x2 =>
    (guard_asked_2 fuel x2).bind fun r3 =>
    bif r3 then
      some (.inr (.inr y1))
    else
      some (.inl (IntKind.wrap .i64 (y1 + 1)))
  else
    some (.inr (.inl ()))
def slices_IndexFunc__guard_asked_2 (fuel : Nat) (p0 : (List Privacy)) : Option (Int) :=
  (iter (slices_IndexFunc__guard_asked_2_l1 fuel p0) fuel 0).bind (Sum.elim (fun v5 =>
    some (-1)) (fun r6 =>
    some r6))
def Z69 (x0 : Int) (x1 : (List Privacy)) : SV := vB (decide (x0 < (x1.length : Int)))
theorem slices_IndexFunc__guard_asked_2_ok {fuel : Nat} {p0 : (List Privacy)} {r : Int} (h : slices_IndexFunc__guard_asked_2 fuel p0 = some r) : PC Tryz.prog 34 [.d (.list 3 (List.map encPrivacy p0)), .d (.fn (.func 24) [] [])] (vI r) := by
  refine PC.of_SW Tryz.func34 rfl fun H => ?_
  unfold slices_IndexFunc__guard_asked_2 at h
  refine SW.kp 19 H [0, 1] [(0, Z0 p0), (1, Z59)] (by kernel_rfl) <| SW.seq <| SW.regionK <| OWk.sg 19 H [] [0, 1] 1 [(0, Z0 p0), (1, Z59)] (by kernel_rfl) <| OWk.done (by kernel_rfl) <| thenS_n <| SW.seq <| SW.seq <| SW.regionK <| OWk.sg 19 H [] [0, 1, 6] 1 [(0, Z0 p0), (1, Z59), (6, Z0 p0)] (by kernel_rfl) <| OWk.on 19 H (d := some 7) [0, 1, 7] [(0, Z0 p0), (1, Z59), (7, vI (p0.length : Int))] (BAt.len (enc := encPrivacy) (xs := p0) (by kernel_rfl)) (by kernel_rfl) <| OWk.sg 19 H [] [0, 1, 7, 8] 1 [(0, Z0 p0), (1, Z59), (7, vI (p0.length : Int)), (8, vI 0)] (by kernel_rfl) <| OWk.done (by kernel_rfl) <| thenS_n <| SW.block ?_
  obtain ⟨z4, hit, h⟩ := bind_inv h
  refine SW.it 19 H [0, 1, 7, 8] (fun y1 => [(0, Z0 p0), (1, Z59), (7, vI (p0.length : Int)), (8, vI y1)]) (fun b e s => ((∃ v5, b = (.inl v5) ∧ (e = .exit 0 ∧ s = (sp 19 [] H))) ∨ (∃ r6, b = (.inr r6) ∧ (e = .ret ∧ EndQ Tryz.prog Tryz.f34.results.toList H (vI r6) .ret s)))) hit (by kernel_rfl) (fun y1 o h => ?_) ?_
  · unfold slices_IndexFunc__guard_asked_2_l1 at h
    refine SW.seq <| SW.regionK <| OWk.sg 19 H [] [0, 1, 7, 8, 9] 1 [(0, Z0 p0), (1, Z59), (7, vI (p0.length : Int)), (8, vI y1), (9, Z69 y1 p0)] (by kernel_rfl) <| OWk.done (by kernel_rfl) <| thenS_n <| SW.seq ?_
    refine SW.condB (b := (decide (y1 < (p0.length : Int)))) (by kernel_rfl) (fun hc => ?_) (fun hc => ?_)
    · replace h := bif_t hc h
      refine SW.skip <| thenS_n <| SW.seq <| SW.block <| SW.seq <| SW.regionK <| OWk.sg 19 H [] [0, 1, 5, 7, 8] 2 [(0, Z0 p0), (1, Z59), (5, vI y1), (7, vI (p0.length : Int)), (8, vI y1)] (by kernel_rfl) <| OWk.done (by kernel_rfl) <| thenS_n <| SW.seq <| SW.regionK <| OWk.sg 19 H [] [0, 1, 5, 7, 8, 11, 12, 13] 3 [(0, Z0 p0), (1, Z59), (5, vI y1), (7, vI (p0.length : Int)), (8, vI y1), (11, Z59), (12, Z0 p0), (13, vI y1)] (by kernel_rfl) ?_
      obtain ⟨x2, hx, h⟩ := bind_inv h
      refine OWk.on 19 H (d := some 14) (s := lendP none (Go.Sh.D.cells (encPrivacy x2))) [0, 1, 5, 7, 8, 11, 14] [(0, Z0 p0), (1, Z59), (5, vI y1), (7, vI (p0.length : Int)), (8, vI y1), (11, Z59), (14, .d (.dptr [.int .i64 x2.Verb, .str x2.On, .str x2.Key]))] (BAt.index (n := 3) hx (by kernel_rfl)) (by kernel_rfl) <| OWk.sg 19 H [] [0, 1, 5, 7, 8, 11, 15] 1 [(0, Z0 p0), (1, Z59), (5, vI y1), (7, vI (p0.length : Int)), (8, vI y1), (11, Z59), (15, Z60 x2)] (by kernel_rfl) ?_
      obtain ⟨r3, hr, h⟩ := bind_inv h
      refine OWk.cl 19 H (d := some 16) (ls := []) (gs := []) [] [0, 1, 5, 7, 8, 16] [(0, Z0 p0), (1, Z59), (5, vI y1), (7, vI (p0.length : Int)), (8, vI y1), (16, vB r3)] (guard_asked_2_ok hr) (by kernel_rfl) (by kernel_rfl) (by kernel_rfl) <| OWk.done (by kernel_rfl) <| thenS_n ?_
      refine SW.condB (b := r3) (by kernel_rfl) (fun hc => ?_) (fun hc => ?_)
      · replace h := bif_t hc h
        refine SW.seq <| SW.regionK <| OWk.sg 19 H [] [4] 2 [(4, vI y1)] (by kernel_rfl) <| OWk.done (by kernel_rfl) <| thenS_n <| SW.ret <| blockS_r <| thenS_r ?_
        cases h
        refine thenS_r ?_
        exact ⟨_, rfl, .inr (⟨y1, rfl, rfl, EndQ.ret [] (by kernel_rfl) rfl⟩)⟩
      · replace h := bif_f hc h
        refine SW.skip <| blockS_n <| thenS_n <| SW.regionK <| OWk.sg 19 H [] [0, 1, 7, 8] 2 [(0, Z0 p0), (1, Z59), (7, vI (p0.length : Int)), (8, Z44 y1)] (by kernel_rfl) <| OWk.done (by kernel_rfl) ?_
        cases h
        exact ⟨(IntKind.wrap .i64 (y1 + 1)), rfl, by kernel_rfl⟩
    · replace h := bif_f hc h
      refine SW.kp 19 H [] [] (by kernel_rfl) <| SW.exit <| thenS_e ?_
      cases h
      refine thenS_e ?_
      exact ⟨_, rfl, .inl ⟨(), rfl, rfl, rfl⟩⟩
  · rintro _ _ (⟨v5, rfl, rfl, rfl⟩ | ⟨r6, rfl, rfl, hE⟩)
    · replace h := sum_l h
      refine blockS_hit <| thenS_n <| SW.seq <| SW.regionK <| OWk.sg 19 H [] [4] 1 [(4, vI (-1))] (by kernel_rfl) <| OWk.done (by kernel_rfl) <| thenS_n <| SW.ret ?_
      cases h
      exact EndQ.ret [] (by kernel_rfl) rfl
    · replace h := sum_r h
      refine blockS_r <| thenS_r ?_
      cases h
      exact hE
def slices_ContainsFunc__guard_asked_2 (fuel : Nat) (p0 : (List Privacy)) : Option (Bool) :=
  (slices_IndexFunc__guard_asked_2 fuel p0).bind fun r1 =>
  some (decide (r1 ≥ 0))
theorem slices_ContainsFunc__guard_asked_2_ok {fuel : Nat} {p0 : (List Privacy)} {r : Bool} (h : slices_ContainsFunc__guard_asked_2 fuel p0 = some r) : PC Tryz.prog 23 [.d (.list 3 (List.map encPrivacy p0)), .d (.fn (.func 24) [] [])] (vB r) := by
  refine PC.of_SW Tryz.func23 rfl fun H => ?_
  unfold slices_ContainsFunc__guard_asked_2 at h
  refine SW.kp 9 H [0, 1] [(0, Z0 p0), (1, Z59)] (by kernel_rfl) <| SW.seq <| SW.regionK <| OWk.sg 9 H [] [0, 1] 1 [(0, Z0 p0), (1, Z59)] (by kernel_rfl) <| OWk.done (by kernel_rfl) <| thenS_n <| SW.seq <| SW.regionK <| OWk.sg 9 H [] [5, 6] 2 [(5, Z0 p0), (6, Z59)] (by kernel_rfl) ?_
  obtain ⟨r1, hr, h⟩ := bind_inv h
  refine OWk.cl 9 H (d := some 7) (ls := []) (gs := []) [] [7] [(7, vI r1)] (slices_IndexFunc__guard_asked_2_ok hr) (by kernel_rfl) (by kernel_rfl) (by kernel_rfl) <| OWk.sg 9 H [] [4] 2 [(4, vB (decide (r1 ≥ 0)))] (by kernel_rfl) <| OWk.done (by kernel_rfl) <| thenS_n <| SW.ret ?_
  cases h
  exact EndQ.ret [] (by kernel_rfl) rfl
def guard_twice_1 (fuel : Nat) (p0 : Proc) (p1 : (List UInt8)) : Option (Bool) :=
  some (p0.Name == p1)
def Z71 (x0 : (List UInt8)) : SV := .d (.fn (.func 42) [] [.dptr [.str x0]])
theorem guard_twice_1_ok {fuel : Nat} {p0 : Proc} {p1 : (List UInt8)} {r : Bool} (h : guard_twice_1 fuel p0 p1 = some r) : PC Tryz.prog 42 [.d (encProc p0), .d (.dptr [.str p1])] (vB r) := by
  refine PC.of_SW Tryz.func42 rfl fun H => ?_
  unfold guard_twice_1 at h
  refine SW.kp 8 H [0, 1] [(0, Z56 p0), (1, .d (.dptr [.str p1]))] (by kernel_rfl) <| SW.seq <| SW.regionK <| OWk.sg 8 H [] [1, 2] 2 [(1, .d (.dptr [.str p1])), (2, Z57 p0)] (by kernel_rfl) <| OWk.done (by kernel_rfl) <| thenS_n <| SW.seq <| SW.regionK <| OWk.sg 8 H [] [3] 5 [(3, vB (p0.Name == p1))] (by kernel_rfl) <| OWk.done (by kernel_rfl) <| thenS_n <| SW.ret ?_
  cases h
  exact EndQ.ret [] (by kernel_rfl) rfl
def slices_IndexFunc__guard_twice_1_l1 (fuel : Nat) (p0 : (List Proc)) (c1_0 : (List UInt8)) (y1 : Int) : Option ((Int) ⊕ ((Unit) ⊕ ((Int)))) :=
  bif (decide (y1 < (p0.length : Int))) then
    (idx p0 y1).bind fun x2 =>
    (guard_twice_1 fuel x2 c1_0).bind fun r3 =>
    bif r3 then
      some (.inr (.inr y1))
    else
      some (.inl (IntKind.wrap .i64 (y1 + 1)))
  else
    some (.inr (.inl ()))
def slices_IndexFunc__guard_twice_1 (fuel : Nat) (p0 : (List Proc)) (c1_0 : (List UInt8)) : Option (Int) :=
  (iter (slices_IndexFunc__guard_twice_1_l1 fuel p0 c1_0) fuel 0).bind (Sum.elim (fun v5 =>
    some (-1)) (fun r6 =>
    some r6))
theorem slices_IndexFunc__guard_twice_1_ok {fuel : Nat} {p0 : (List Proc)} {c1_0 : (List UInt8)} {r : Int} (h : slices_IndexFunc__guard_twice_1 fuel p0 c1_0 = some r) : PC Tryz.prog 39 [.d (.list 7 (List.map encProc p0)), .d (.fn (.func 42) [] [.dptr [.str c1_0]])] (vI r) := by
  refine PC.of_SW Tryz.func39 rfl fun H => ?_
  unfold slices_IndexFunc__guard_twice_1 at h
  refine SW.kp 19 H [0, 1] [(0, Z4 p0), (1, Z71 c1_0)] (by kernel_rfl) <| SW.seq <| SW.regionK <| OWk.sg 19 H [] [0, 1] 1 [(0, Z4 p0), (1, Z71 c1_0)] (by kernel_rfl) <| OWk.done (by kernel_rfl) <| thenS_n <| SW.seq <| SW.seq <| SW.regionK <| OWk.sg 19 H [] [0, 1, 6] 1 [(0, Z4 p0), (1, Z71 c1_0), (6, Z4 p0)] (by kernel_rfl) <| OWk.on 19 H (d := some 7) [0, 1, 7] [(0, Z4 p0), (1, Z71 c1_0), (7, vI (p0.length : Int))] (BAt.len (enc := encProc) (xs := p0) (by kernel_rfl)) (by kernel_rfl) <| OWk.sg 19 H [] [0, 1, 7, 8] 1 [(0, Z4 p0), (1, Z71 c1_0), (7, vI (p0.length : Int)), (8, vI 0)] (by kernel_rfl) <| OWk.done (by kernel_rfl) <| thenS_n <| SW.block ?_
  obtain ⟨z4, hit, h⟩ := bind_inv h
  refine SW.it 19 H [0, 1, 7, 8] (fun y1 => [(0, Z4 p0), (1, Z71 c1_0), (7, vI (p0.length : Int)), (8, vI y1)]) (fun b e s => ((∃ v5, b = (.inl v5) ∧ (e = .exit 0 ∧ s = (sp 19 [] H))) ∨ (∃ r6, b = (.inr r6) ∧ (e = .ret ∧ EndQ Tryz.prog Tryz.f39.results.toList H (vI r6) .ret s)))) hit (by kernel_rfl) (fun y1 o h => ?_) ?_
  · unfold slices_IndexFunc__guard_twice_1_l1 at h
    refine SW.seq <| SW.regionK <| OWk.sg 19 H [] [0, 1, 7, 8, 9] 1 [(0, Z4 p0), (1, Z71 c1_0), (7, vI (p0.length : Int)), (8, vI y1), (9, Z58 y1 p0)] (by kernel_rfl) <| OWk.done (by kernel_rfl) <| thenS_n <| SW.seq ?_
    refine SW.condB (b := (decide (y1 < (p0.length : Int)))) (by kernel_rfl) (fun hc => ?_) (fun hc => ?_)
    · replace h := bif_t hc h
      refine SW.skip <| thenS_n <| SW.seq <| SW.block <| SW.seq <| SW.regionK <| OWk.sg 19 H [] [0, 1, 5, 7, 8] 2 [(0, Z4 p0), (1, Z71 c1_0), (5, vI y1), (7, vI (p0.length : Int)), (8, vI y1)] (by kernel_rfl) <| OWk.done (by kernel_rfl) <| thenS_n <| SW.seq <| SW.regionK <| OWk.sg 19 H [] [0, 1, 5, 7, 8, 11, 12, 13] 3 [(0, Z4 p0), (1, Z71 c1_0), (5, vI y1), (7, vI (p0.length : Int)), (8, vI y1), (11, Z71 c1_0), (12, Z4 p0), (13, vI y1)] (by kernel_rfl) ?_
      obtain ⟨x2, hx, h⟩ := bind_inv h
      refine OWk.on 19 H (d := some 14) (s := lendP none (Go.Sh.D.cells (encProc x2))) [0, 1, 5, 7, 8, 11, 14] [(0, Z4 p0), (1, Z71 c1_0), (5, vI y1), (7, vI (p0.length : Int)), (8, vI y1), (11, Z71 c1_0), (14, .d (.dptr [.str x2.Name, .int .i64 x2.Verb, .str x2.On, .int .i64 x2.When, .str x2.Cond, .int .i64 x2.Does, .str x2.Text]))] (BAt.index (n := 7) hx (by kernel_rfl)) (by kernel_rfl) <| OWk.sg 19 H [] [0, 1, 5, 7, 8, 11, 15] 1 [(0, Z4 p0), (1, Z71 c1_0), (5, vI y1), (7, vI (p0.length : Int)), (8, vI y1), (11, Z71 c1_0), (15, Z56 x2)] (by kernel_rfl) ?_
      obtain ⟨r3, hr, h⟩ := bind_inv h
      refine OWk.cl 19 H (d := some 16) (ls := []) (gs := []) [] [0, 1, 5, 7, 8, 16] [(0, Z4 p0), (1, Z71 c1_0), (5, vI y1), (7, vI (p0.length : Int)), (8, vI y1), (16, vB r3)] (guard_twice_1_ok hr) (by kernel_rfl) (by kernel_rfl) (by kernel_rfl) <| OWk.done (by kernel_rfl) <| thenS_n ?_
      refine SW.condB (b := r3) (by kernel_rfl) (fun hc => ?_) (fun hc => ?_)
      · replace h := bif_t hc h
        refine SW.seq <| SW.regionK <| OWk.sg 19 H [] [4] 2 [(4, vI y1)] (by kernel_rfl) <| OWk.done (by kernel_rfl) <| thenS_n <| SW.ret <| blockS_r <| thenS_r ?_
        cases h
        refine thenS_r ?_
        exact ⟨_, rfl, .inr (⟨y1, rfl, rfl, EndQ.ret [] (by kernel_rfl) rfl⟩)⟩
      · replace h := bif_f hc h
        refine SW.skip <| blockS_n <| thenS_n <| SW.regionK <| OWk.sg 19 H [] [0, 1, 7, 8] 2 [(0, Z4 p0), (1, Z71 c1_0), (7, vI (p0.length : Int)), (8, Z44 y1)] (by kernel_rfl) <| OWk.done (by kernel_rfl) ?_
        cases h
        exact ⟨(IntKind.wrap .i64 (y1 + 1)), rfl, by kernel_rfl⟩
    · replace h := bif_f hc h
      refine SW.kp 19 H [] [] (by kernel_rfl) <| SW.exit <| thenS_e ?_
      cases h
      refine thenS_e ?_
      exact ⟨_, rfl, .inl ⟨(), rfl, rfl, rfl⟩⟩
  · rintro _ _ (⟨v5, rfl, rfl, rfl⟩ | ⟨r6, rfl, rfl, hE⟩)
    · replace h := sum_l h
      refine blockS_hit <| thenS_n <| SW.seq <| SW.regionK <| OWk.sg 19 H [] [4] 1 [(4, vI (-1))] (by kernel_rfl) <| OWk.done (by kernel_rfl) <| thenS_n <| SW.ret ?_
      cases h
      exact EndQ.ret [] (by kernel_rfl) rfl
    · replace h := sum_r h
      refine blockS_r <| thenS_r ?_
      cases h
      exact hE
def slices_ContainsFunc__guard_twice_1 (fuel : Nat) (p0 : (List Proc)) (c1_0 : (List UInt8)) : Option (Bool) :=
  (slices_IndexFunc__guard_twice_1 fuel p0 c1_0).bind fun r1 =>
  some (decide (r1 ≥ 0))
theorem slices_ContainsFunc__guard_twice_1_ok {fuel : Nat} {p0 : (List Proc)} {c1_0 : (List UInt8)} {r : Bool} (h : slices_ContainsFunc__guard_twice_1 fuel p0 c1_0 = some r) : PC Tryz.prog 20 [.d (.list 7 (List.map encProc p0)), .d (.fn (.func 42) [] [.dptr [.str c1_0]])] (vB r) := by
  refine PC.of_SW Tryz.func20 rfl fun H => ?_
  unfold slices_ContainsFunc__guard_twice_1 at h
  refine SW.kp 9 H [0, 1] [(0, Z4 p0), (1, Z71 c1_0)] (by kernel_rfl) <| SW.seq <| SW.regionK <| OWk.sg 9 H [] [0, 1] 1 [(0, Z4 p0), (1, Z71 c1_0)] (by kernel_rfl) <| OWk.done (by kernel_rfl) <| thenS_n <| SW.seq <| SW.regionK <| OWk.sg 9 H [] [5, 6] 2 [(5, Z4 p0), (6, Z71 c1_0)] (by kernel_rfl) ?_
  obtain ⟨r1, hr, h⟩ := bind_inv h
  refine OWk.cl 9 H (d := some 7) (ls := []) (gs := []) [] [7] [(7, vI r1)] (slices_IndexFunc__guard_twice_1_ok hr) (by kernel_rfl) (by kernel_rfl) (by kernel_rfl) <| OWk.sg 9 H [] [4] 2 [(4, vB (decide (r1 ≥ 0)))] (by kernel_rfl) <| OWk.done (by kernel_rfl) <| thenS_n <| SW.ret ?_
  cases h
  exact EndQ.ret [] (by kernel_rfl) rfl
def guard_twice (fuel : Nat) (p0 : (List Proc)) (p1 : (List UInt8)) : Option (Bool) :=
  (slices_ContainsFunc__guard_twice_1 fuel p0 p1).bind fun r1 =>
  some r1
theorem guard_twice_ok {fuel : Nat} {p0 : (List Proc)} {p1 : (List UInt8)} {r : Bool} (h : guard_twice fuel p0 p1 = some r) : PC Tryz.prog 26 [.d (.list 7 (List.map encProc p0)), vS p1] (vB r) := by
  refine PC.of_SW Tryz.func26 rfl fun H => ?_
  unfold guard_twice at h
  refine SW.kp 8 H [0, 1] [(0, Z4 p0), (1, vS p1)] (by kernel_rfl) <| SW.seq <| SW.regionK <| OWk.bxf 8 H (d := 3) (ds := [.str p1]) [0, 3] [(0, Z4 p0), (3, .d (.dptr [.str p1]))] (by kernel_rfl) (by kernel_rfl) <| OWk.sg 8 H [] [0, 3] 1 [(0, Z4 p0), (3, .d (.dptr [.str p1]))] (by kernel_rfl) <| OWk.done (by kernel_rfl) <| thenS_n <| SW.seq <| SW.regionK <| OWk.sg 8 H [] [5, 6] 2 [(5, Z4 p0), (6, Z71 p1)] (by kernel_rfl) ?_
  obtain ⟨r1, hr, h⟩ := bind_inv h
  refine OWk.cl 8 H (d := some 7) (ls := []) (gs := []) [] [7] [(7, vB r1)] (slices_ContainsFunc__guard_twice_1_ok hr) (by kernel_rfl) (by kernel_rfl) (by kernel_rfl) <| OWk.sg 8 H [] [4] 1 [(4, vB r1)] (by kernel_rfl) <| OWk.done (by kernel_rfl) <| thenS_n <| SW.ret ?_
  cases h
  exact EndQ.ret [] (by kernel_rfl) rfl
def guard_asked_l1 (fuel : Nat) (p0 : (List Proc)) (y5 : Int) : Option ((Int) ⊕ ((Unit) ⊕ ((Int)))) :=
  bif (decide (y5 < (p0.length : Int))) then
    (idx p0 y5).bind fun x6 =>
    chk (slOk p0 0 y5) <|
    (guard_twice fuel (sl p0 0 y5) x6.Name).bind fun r7 =>
    bif r7 then
      some (.inr (.inr 6))
    else
      some (.inl (IntKind.wrap .i64 (y5 + 1)))
  else
    some (.inr (.inl ()))
def guard_asked (fuel : Nat) (p0 : (List Proc)) (p1 : (List Privacy)) : Option (Int) :=
  letJ (fun (j1 : Bool) =>
    bif j1 then
      some 1
    else
      (iter (guard_asked_l1 fuel p0) fuel 0).bind (Sum.elim (fun v9 =>
        bif (decide ((p0.length : Int) > 50)) then
          some 4
        else
          bif (decide ((p1.length : Int) > 50)) then
            some 4
          else
            some 0) (fun r10 =>
        some r10))) fun jp2 =>
  (slices_ContainsFunc__guard_asked_1 fuel p0).bind fun r3 =>
  bif r3 then
    jp2 true
  else
    (slices_ContainsFunc__guard_asked_2 fuel p1).bind fun r4 =>
    jp2 r4
def Z72 (x0 : (List Proc)) (x1 : Int) : SV := .d (.list 7 (List.map encProc (sl x0 0 x1)))
def Z73 (x0 : (List Proc)) : SV := vB (decide ((x0.length : Int) > 50))
def Z74 (x0 : (List Privacy)) : SV := vB (decide ((x0.length : Int) > 50))
theorem guard_asked_ok {fuel : Nat} {p0 : (List Proc)} {p1 : (List Privacy)} {r : Int} (h : guard_asked fuel p0 p1 = some r) : PC Tryz.prog 13 [.d (.list 7 (List.map encProc p0)), .d (.list 3 (List.map encPrivacy p1))] (vI r) := by
  refine PC.of_SW Tryz.func13 rfl fun H => ?_
  unfold guard_asked at h
  refine SW.kp 35 H [0, 1] [(0, Z4 p0), (1, Z0 p1)] (by kernel_rfl) <| SW.seq <| SW.regionK <| OWk.sg 35 H [] [0, 1] 1 [(0, Z4 p0), (1, Z0 p1)] (by kernel_rfl) <| OWk.done (by kernel_rfl) <| thenS_n <| SW.seq ?_
  obtain ⟨jp2, hjjp2, h⟩ := letJ_inv h
  refine SW.jn 35 H [0, 1, 12] (fun (j1 : Bool) => [(0, Z4 p0), (1, Z0 p1), (12, vB j1)]) (fun v => jp2 v = some r) (fun j1 h => ?_) ?_
  · rw [hjjp2] at h
    refine SW.condB (b := j1) (by kernel_rfl) (fun hc => ?_) (fun hc => ?_)
    · replace h := bif_t hc h
      refine SW.seq <| SW.regionK <| OWk.sg 35 H [] [4] 1 [(4, vI 1)] (by kernel_rfl) <| OWk.done (by kernel_rfl) <| thenS_n <| SW.ret <| thenS_r ?_
      cases h
      exact EndQ.ret [] (by kernel_rfl) rfl
    · replace h := bif_f hc h
      refine SW.skip <| thenS_n <| SW.seq <| SW.seq <| SW.regionK <| OWk.sg 35 H [] [0, 1, 13] 1 [(0, Z4 p0), (1, Z0 p1), (13, Z4 p0)] (by kernel_rfl) <| OWk.on 35 H (d := some 14) [0, 1, 13, 14] [(0, Z4 p0), (1, Z0 p1), (13, Z4 p0), (14, vI (p0.length : Int))] (BAt.len (enc := encProc) (xs := p0) (by kernel_rfl)) (by kernel_rfl) <| OWk.sg 35 H [] [0, 1, 13, 14, 15] 1 [(0, Z4 p0), (1, Z0 p1), (13, Z4 p0), (14, vI (p0.length : Int)), (15, vI 0)] (by kernel_rfl) <| OWk.done (by kernel_rfl) <| thenS_n <| SW.block ?_
      obtain ⟨z8, hit, h⟩ := bind_inv h
      refine SW.it 35 H [0, 1, 13, 14, 15] (fun y5 => [(0, Z4 p0), (1, Z0 p1), (13, Z4 p0), (14, vI (p0.length : Int)), (15, vI y5)]) (fun b e s => ((∃ v9, b = (.inl v9) ∧ (e = .exit 0 ∧ s = (sp 35 [(0, Z4 p0), (1, Z0 p1)] H))) ∨ (∃ r10, b = (.inr r10) ∧ (e = .ret ∧ EndQ Tryz.prog Tryz.f13.results.toList H (vI r10) .ret s)))) hit (by kernel_rfl) (fun y5 o h => ?_) ?_
      · unfold guard_asked_l1 at h
        refine SW.seq <| SW.regionK <| OWk.sg 35 H [] [0, 1, 13, 14, 15, 16] 1 [(0, Z4 p0), (1, Z0 p1), (13, Z4 p0), (14, vI (p0.length : Int)), (15, vI y5), (16, Z58 y5 p0)] (by kernel_rfl) <| OWk.done (by kernel_rfl) <| thenS_n <| SW.seq ?_
        refine SW.condB (b := (decide (y5 < (p0.length : Int)))) (by kernel_rfl) (fun hc => ?_) (fun hc => ?_)
        · replace h := bif_t hc h
          refine SW.skip <| thenS_n <| SW.seq <| SW.block <| SW.seq <| SW.regionK <| OWk.sg 35 H [] [0, 1, 13, 14, 15, 17] 1 [(0, Z4 p0), (1, Z0 p1), (13, Z4 p0), (14, vI (p0.length : Int)), (15, vI y5), (17, vI y5)] (by kernel_rfl) ?_
          obtain ⟨x6, hx, h⟩ := bind_inv h
          refine OWk.on 35 H (d := some 18) (s := lendP none (Go.Sh.D.cells (encProc x6))) [0, 1, 13, 14, 15, 17, 18] [(0, Z4 p0), (1, Z0 p1), (13, Z4 p0), (14, vI (p0.length : Int)), (15, vI y5), (17, vI y5), (18, .d (.dptr [.str x6.Name, .int .i64 x6.Verb, .str x6.On, .int .i64 x6.When, .str x6.Cond, .int .i64 x6.Does, .str x6.Text]))] (BAt.index (n := 7) hx (by kernel_rfl)) (by kernel_rfl) <| OWk.sg 35 H [] [0, 1, 5, 6, 13, 14, 15] 4 [(0, Z4 p0), (1, Z0 p1), (5, vI y5), (6, Z57 x6), (13, Z4 p0), (14, vI (p0.length : Int)), (15, vI y5)] (by kernel_rfl) <| OWk.done (by kernel_rfl) <| thenS_n <| SW.seq <| SW.regionQ (by kernel_rfl) (by kernel_rfl) <| OQk.sg 35 H [] [0, 1, 6, 13, 14, 15, 20, 21] 2 [(0, Z4 p0), (1, Z0 p1), (6, Z57 x6), (13, Z4 p0), (14, vI (p0.length : Int)), (15, vI y5), (20, Z4 p0), (21, vI y5)] (by kernel_rfl) ?_
          obtain ⟨hk, h⟩ := chk_inv h
          refine OQk.on 35 H (d := some 22) (s := lendL none 7 (List.map encProc (sl p0 0 y5))) [0, 1, 6, 13, 14, 15, 22] [(0, Z4 p0), (1, Z0 p1), (6, Z57 x6), (13, Z4 p0), (14, vI (p0.length : Int)), (15, vI y5), (22, Z72 p0 y5)] (BAt.slice hk (by kernel_rfl)) (by kernel_rfl) <| OQk.sg 35 H [] [0, 1, 13, 14, 15, 22, 24] 2 [(0, Z4 p0), (1, Z0 p1), (13, Z4 p0), (14, vI (p0.length : Int)), (15, vI y5), (22, Z72 p0 y5), (24, vS x6.Name)] (by kernel_rfl) ?_
          obtain ⟨r7, hr, h⟩ := bind_inv h
          refine OQk.cl 35 H (d := some 25) (ls := []) [0, 1, 13, 14, 15, 25] [(0, Z4 p0), (1, Z0 p1), (13, Z4 p0), (14, vI (p0.length : Int)), (15, vI y5), (25, vB r7)] (guard_twice_ok hr) (by kernel_rfl) (by kernel_rfl) (by kernel_rfl) <| OQk.done (by kernel_rfl) <| thenS_n ?_
          refine SW.condB (b := r7) (by kernel_rfl) (fun hc => ?_) (fun hc => ?_)
          · replace h := bif_t hc h
            refine SW.seq <| SW.regionK <| OWk.sg 35 H [] [4] 1 [(4, vI 6)] (by kernel_rfl) <| OWk.done (by kernel_rfl) <| thenS_n <| SW.ret <| blockS_r <| thenS_r ?_
            cases h
            refine thenS_r ?_
            exact ⟨_, rfl, .inr (⟨6, rfl, rfl, EndQ.ret [] (by kernel_rfl) rfl⟩)⟩
          · replace h := bif_f hc h
            refine SW.skip <| blockS_n <| thenS_n <| SW.regionK <| OWk.sg 35 H [] [0, 1, 13, 14, 15] 2 [(0, Z4 p0), (1, Z0 p1), (13, Z4 p0), (14, vI (p0.length : Int)), (15, Z44 y5)] (by kernel_rfl) <| OWk.done (by kernel_rfl) ?_
            cases h
            exact ⟨(IntKind.wrap .i64 (y5 + 1)), rfl, by kernel_rfl⟩
        · replace h := bif_f hc h
          refine SW.kp 35 H [0, 1] [(0, Z4 p0), (1, Z0 p1)] (by kernel_rfl) <| SW.exit <| thenS_e ?_
          cases h
          refine thenS_e ?_
          exact ⟨_, rfl, .inl ⟨(), rfl, rfl, rfl⟩⟩
      · rintro _ _ (⟨v9, rfl, rfl, rfl⟩ | ⟨r10, rfl, rfl, hE⟩)
        · replace h := sum_l h
          refine blockS_hit <| thenS_n <| SW.seq <| SW.seq <| SW.regionK <| OWk.sg 35 H [] [1, 27] 1 [(1, Z0 p1), (27, Z4 p0)] (by kernel_rfl) <| OWk.on 35 H (d := some 28) [1, 28] [(1, Z0 p1), (28, vI (p0.length : Int))] (BAt.len (enc := encProc) (xs := p0) (by kernel_rfl)) (by kernel_rfl) <| OWk.sg 35 H [] [1, 30] 2 [(1, Z0 p1), (30, Z73 p0)] (by kernel_rfl) ?_
          refine OWk.case (decide ((p0.length : Int) > 50)) (fun b => (sp 35 [(1, Z0 p1), (30, vB b)] H)) (by kernel_rfl) (fun hc => ?_) (fun hc => ?_)
          · replace h := bif_t hc h
            refine OWk.sg 35 H [] [34] 4 [(34, vB true)] (by kernel_rfl) <| OWk.done (by kernel_rfl) <| thenS_n <| SW.condT (by kernel_rfl) <| SW.seq <| SW.regionK <| OWk.sg 35 H [] [4] 1 [(4, vI 4)] (by kernel_rfl) <| OWk.done (by kernel_rfl) <| thenS_n <| SW.ret <| thenS_r ?_
            cases h
            exact EndQ.ret [] (by kernel_rfl) rfl
          · replace h := bif_f hc h
            refine OWk.sg 35 H [] [30, 31] 1 [(30, vB false), (31, Z0 p1)] (by kernel_rfl) <| OWk.on 35 H (d := some 32) [30, 32] [(30, vB false), (32, vI (p1.length : Int))] (BAt.len (enc := encPrivacy) (xs := p1) (by kernel_rfl)) (by kernel_rfl) <| OWk.sg 35 H [] [34] 2 [(34, Z74 p1)] (by kernel_rfl) <| OWk.done (by kernel_rfl) <| thenS_n ?_
            refine SW.condB (b := (decide ((p1.length : Int) > 50))) (by kernel_rfl) (fun hc => ?_) (fun hc => ?_)
            · replace h := bif_t hc h
              refine SW.seq <| SW.regionK <| OWk.sg 35 H [] [4] 1 [(4, vI 4)] (by kernel_rfl) <| OWk.done (by kernel_rfl) <| thenS_n <| SW.ret <| thenS_r ?_
              cases h
              exact EndQ.ret [] (by kernel_rfl) rfl
            · replace h := bif_f hc h
              refine SW.skip <| thenS_n <| SW.seq <| SW.regionK <| OWk.sg 35 H [] [4] 1 [(4, vI 0)] (by kernel_rfl) <| OWk.done (by kernel_rfl) <| thenS_n <| SW.ret ?_
              cases h
              exact EndQ.ret [] (by kernel_rfl) rfl
        · replace h := sum_r h
          refine blockS_r <| thenS_r ?_
          cases h
          exact hE
  · refine SW.regionK <| OWk.sg 35 H [] [0, 1, 7] 1 [(0, Z4 p0), (1, Z0 p1), (7, Z4 p0)] (by kernel_rfl) ?_
    obtain ⟨r3, hr, h⟩ := bind_inv h
    refine OWk.cl 35 H (d := some 8) (ls := []) (gs := []) [] [0, 1, 8] [(0, Z4 p0), (1, Z0 p1), (8, vB r3)] (slices_ContainsFunc__guard_asked_1_ok hr) (by kernel_rfl) (by kernel_rfl) (by kernel_rfl) <| OWk.sg 35 H [] [0, 1, 9] 1 [(0, Z4 p0), (1, Z0 p1), (9, vB r3)] (by kernel_rfl) ?_
    refine OWk.case r3 (fun b => (sp 35 [(0, Z4 p0), (1, Z0 p1), (9, vB b)] H)) (by kernel_rfl) (fun hc => ?_) (fun hc => ?_)
    · replace h := bif_t hc h
      refine OWk.sg 35 H [] [0, 1, 12] 3 [(0, Z4 p0), (1, Z0 p1), (12, vB true)] (by kernel_rfl) <| OWk.done (by kernel_rfl) ?_
      exact ⟨true, [], by kernel_rfl, h⟩
    · replace h := bif_f hc h
      refine OWk.sg 35 H [] [0, 1, 9, 10] 1 [(0, Z4 p0), (1, Z0 p1), (9, vB false), (10, Z0 p1)] (by kernel_rfl) ?_
      obtain ⟨r4, hr, h⟩ := bind_inv h
      refine OWk.cl 35 H (d := some 11) (ls := []) (gs := []) [] [0, 1, 9, 11] [(0, Z4 p0), (1, Z0 p1), (9, vB false), (11, vB r4)] (slices_ContainsFunc__guard_asked_2_ok hr) (by kernel_rfl) (by kernel_rfl) (by kernel_rfl) <| OWk.sg 35 H [] [0, 1, 12] 1 [(0, Z4 p0), (1, Z0 p1), (12, vB r4)] (by kernel_rfl) <| OWk.done (by kernel_rfl) ?_
      exact ⟨r4, [], by kernel_rfl, h⟩
def slices_Clone (fuel : Nat) (p0 : (List Proc)) : Option ((List Proc)) :=
  nilB p0 fun b1 =>
  bif b1 then
    some ([] : List Proc)
  else
    chk (decide ((([] : List Proc) ++ p0).length ≤ room)) <|
    some (([] : List Proc) ++ p0)
def Z75 : SV := .own 7 (List.map encProc ([] : List Proc))
def Z76 (x0 : (List Proc)) : SV := .own 7 (List.map encProc (([] : List Proc) ++ x0))
theorem slices_Clone_ok {fuel : Nat} {p0 : (List Proc)} {r : (List Proc)} (h : slices_Clone fuel p0 = some r) : PC Tryz.prog 14 [.d (.list 7 (List.map encProc p0))] (.own 7 (List.map encProc r)) := by
  refine PC.of_SW Tryz.func14 rfl fun H => ?_
  unfold slices_Clone at h
  refine SW.kp 8 H [0] [(0, Z4 p0)] (by kernel_rfl) <| SW.seq <| SW.regionK <| OWk.sg 8 H [] [0] 1 [(0, Z4 p0)] (by kernel_rfl) <| OWk.done (by kernel_rfl) <| thenS_n <| SW.seq <| SW.seq <| SW.regionK <| OWk.sg 8 H [] [0, 3] 1 [(0, Z4 p0), (3, Z4 p0)] (by kernel_rfl) ?_
  refine OWk.nilq (xs := List.map encProc p0) (d := some 4) (e := true) 8 H [0, 4] (fun b1 => [(0, Z4 p0), (4, vB b1)]) (by kernel_rfl) (fun _ => by kernel_rfl) (fun b1 hnil => ?_)
  replace h := nilB_inv h b1 (fun e => List.map_eq_nil_iff.1 (hnil e))
  refine OWk.done (by kernel_rfl) <| thenS_n ?_
  refine SW.condB (b := b1) (by kernel_rfl) (fun hc => ?_) (fun hc => ?_)
  · replace h := bif_t hc h
    refine SW.seq <| SW.regionK <| OWk.sg 8 H [] [2] 1 [(2, Z75)] (by kernel_rfl) <| OWk.done (by kernel_rfl) <| thenS_n <| SW.ret <| thenS_r ?_
    cases h
    exact EndQ.ret [] (by kernel_rfl) rfl
  · replace h := bif_f hc h
    refine SW.skip <| thenS_n <| SW.seq <| SW.regionK <| OWk.sg 8 H [5] [5, 6] 2 [(5, Z75), (6, Z4 p0)] (by kernel_rfl) ?_
    obtain ⟨hk, h⟩ := chk_inv h
    refine OWk.app 8 H (s := 5) (d := 7) (w := 7) [7] (zs := List.map encProc (([] : List Proc) ++ p0)) [(7, Z76 p0)] (ys := (List.map encProc p0)) (by kernel_rfl) (map_append') (room_map hk) (by kernel_rfl) <| OWk.sg 8 H [5] [2] 1 [(2, Z76 p0)] (by kernel_rfl) <| OWk.done (by kernel_rfl) <| thenS_n <| SW.ret ?_
    cases h
    exact EndQ.ret [] (by kernel_rfl) rfl
def slices_Clone_f15 (fuel : Nat) (p0 : (List Privacy)) : Option ((List Privacy)) :=
  nilB p0 fun b1 =>
  bif b1 then
    some ([] : List Privacy)
  else
    chk (decide ((([] : List Privacy) ++ p0).length ≤ room)) <|
    some (([] : List Privacy) ++ p0)
def Z77 (x0 : (List Proc)) : SV := .own 7 (List.map encProc x0)
def Z78 : SV := .own 3 (List.map encPrivacy ([] : List Privacy))
def Z79 (x0 : (List Privacy)) : SV := .own 3 (List.map encPrivacy (([] : List Privacy) ++ x0))
theorem slices_Clone_f15_ok {fuel : Nat} {p0 : (List Privacy)} {r : (List Privacy)} (h : slices_Clone_f15 fuel p0 = some r) : PC Tryz.prog 15 [.d (.list 3 (List.map encPrivacy p0))] (.own 3 (List.map encPrivacy r)) := by
  refine PC.of_SW Tryz.func15 rfl fun H => ?_
  unfold slices_Clone_f15 at h
  refine SW.kp 8 H [0] [(0, Z0 p0)] (by kernel_rfl) <| SW.seq <| SW.regionK <| OWk.sg 8 H [] [0] 1 [(0, Z0 p0)] (by kernel_rfl) <| OWk.done (by kernel_rfl) <| thenS_n <| SW.seq <| SW.seq <| SW.regionK <| OWk.sg 8 H [] [0, 3] 1 [(0, Z0 p0), (3, Z0 p0)] (by kernel_rfl) ?_
  refine OWk.nilq (xs := List.map encPrivacy p0) (d := some 4) (e := true) 8 H [0, 4] (fun b1 => [(0, Z0 p0), (4, vB b1)]) (by kernel_rfl) (fun _ => by kernel_rfl) (fun b1 hnil => ?_)
  replace h := nilB_inv h b1 (fun e => List.map_eq_nil_iff.1 (hnil e))
  refine OWk.done (by kernel_rfl) <| thenS_n ?_
  refine SW.condB (b := b1) (by kernel_rfl) (fun hc => ?_) (fun hc => ?_)
  · replace h := bif_t hc h
    refine SW.seq <| SW.regionK <| OWk.sg 8 H [] [2] 1 [(2, Z78)] (by kernel_rfl) <| OWk.done (by kernel_rfl) <| thenS_n <| SW.ret <| thenS_r ?_
    cases h
    exact EndQ.ret [] (by kernel_rfl) rfl
  · replace h := bif_f hc h
    refine SW.skip <| thenS_n <| SW.seq <| SW.regionK <| OWk.sg 8 H [5] [5, 6] 2 [(5, Z78), (6, Z0 p0)] (by kernel_rfl) ?_
    obtain ⟨hk, h⟩ := chk_inv h
    refine OWk.app 8 H (s := 5) (d := 7) (w := 3) [7] (zs := List.map encPrivacy (([] : List Privacy) ++ p0)) [(7, Z79 p0)] (ys := (List.map encPrivacy p0)) (by kernel_rfl) (map_append') (room_map hk) (by kernel_rfl) <| OWk.sg 8 H [5] [2] 1 [(2, Z79 p0)] (by kernel_rfl) <| OWk.done (by kernel_rfl) <| thenS_n <| SW.ret ?_
    cases h
    exact EndQ.ret [] (by kernel_rfl) rfl
structure Noted where
  Proc : (List UInt8)
  Verb : Int
  On : (List UInt8)
  Text : (List UInt8)
  Row : (List Value)
  deriving DecidableEq, Inhabited
def encNoted (x : Noted) : D := .agg [.str x.Proc, .int .i64 x.Verb, .str x.On, .str x.Text, .list 3 (List.map encValue x.Row)]
def guard_New (fuel : Nat) (p0 : (List Proc)) (p1 : (List Privacy)) (H : Hp) : Option (((Option Nat) × Int) × Hp) :=
  (guard_asked fuel p0 p1).bind fun r1 =>
  bif (r1 != 0) then
    some ((none, r1), H)
  else
    (slices_Clone fuel p0).bind fun r2 =>
    (slices_Clone_f15 fuel p1).bind fun r3 =>
    (hNew H (.cells [.d (.list 7 (List.map encProc r2)), .d (.list 3 (List.map encPrivacy r3)), .d (.list 5 (List.map encNoted ([] : List Noted)))])).bind fun q4 =>
    some (((some q4.2), 0), q4.1)
def Z81 (x0 : (List Proc)) (x1 : (List Privacy)) : SV := .d (.agg [.list 7 (List.map encProc x0), .list 3 (List.map encPrivacy x1), .nilS])
def Z82 (x0 : (List Privacy)) : SV := .own 3 (List.map encPrivacy x0)
theorem guard_New_ok {fuel : Nat} {p0 : (List Proc)} {p1 : (List Privacy)} {H : Hp} {r : ((Option Nat) × Int) × Hp} (h : guard_New fuel p0 p1 H = some r) : SC Tryz.prog false 7 [.d (.list 7 (List.map encProc p0)), .d (.list 3 (List.map encPrivacy p1))] H (.tup [.d (cP.enc r.1.1), vI r.1.2]) r.2 := by
  refine SC.of_SWh Tryz.func7 rfl ?_
  unfold guard_New at h
  refine SW.kp 19 H [0, 1] [(0, Z4 p0), (1, Z0 p1)] (by kernel_rfl) <| SW.seq <| SW.regionK <| OWk.sg 19 H [] [0, 1] 2 [(0, Z4 p0), (1, Z0 p1)] (by kernel_rfl) <| OWk.done (by kernel_rfl) <| thenS_n <| SW.seq <| SW.seq <| SW.regionK <| OWk.sg 19 H [] [0, 1, 7, 8] 2 [(0, Z4 p0), (1, Z0 p1), (7, Z4 p0), (8, Z0 p1)] (by kernel_rfl) ?_
  obtain ⟨r1, hr, h⟩ := bind_inv h
  refine OWk.cl 19 H (d := some 9) (ls := []) (gs := []) [] [0, 1, 9] [(0, Z4 p0), (1, Z0 p1), (9, vI r1)] (guard_asked_ok hr) (by kernel_rfl) (by kernel_rfl) (by kernel_rfl) <| OWk.sg 19 H [] [0, 1, 6] 1 [(0, Z4 p0), (1, Z0 p1), (6, vI r1)] (by kernel_rfl) <| OWk.done (by kernel_rfl) <| thenS_n <| SW.seq <| SW.regionK <| OWk.sg 19 H [] [0, 1, 6, 11] 2 [(0, Z4 p0), (1, Z0 p1), (6, vI r1), (11, vB (r1 != 0))] (by kernel_rfl) <| OWk.done (by kernel_rfl) <| thenS_n ?_
  refine SW.condB (b := (r1 != 0)) (by kernel_rfl) (fun hc => ?_) (fun hc => ?_)
  · replace h := bif_t hc h
    refine SW.seq <| SW.regionK <| OWk.sg 19 H [] [4, 5] 3 [(4, .d (.nilPtr)), (5, vI r1)] (by kernel_rfl) <| OWk.done (by kernel_rfl) <| thenS_n <| SW.ret <| thenS_r ?_
    cases h
    exact EndQ.ret [] (by kernel_rfl) rfl
  · replace h := bif_f hc h
    refine SW.skip <| thenS_n <| SW.seq <| SW.regionK <| OWk.sg 19 H [] [1, 13] 1 [(1, Z0 p1), (13, Z4 p0)] (by kernel_rfl) ?_
    obtain ⟨r2, hr, h⟩ := bind_inv h
    refine OWk.cl 19 H (d := some 14) (ls := []) (gs := []) [] [1, 14] [(1, Z0 p1), (14, .own 7 (List.map encProc r2))] (slices_Clone_ok hr) (by kernel_rfl) (by kernel_rfl) (by kernel_rfl) <| OWk.sg 19 H [] [14, 15] 1 [(14, Z77 r2), (15, Z0 p1)] (by kernel_rfl) ?_
    obtain ⟨r3, hr, h⟩ := bind_inv h
    refine OWk.cl 19 H (d := some 16) (ls := []) (gs := []) [] [14, 16] [(14, Z77 r2), (16, .own 3 (List.map encPrivacy r3))] (slices_Clone_f15_ok hr) (by kernel_rfl) (by kernel_rfl) (by kernel_rfl) <| OWk.fz 19 H 14 [14, 16] [(14, Z4 r2), (16, Z82 r3)] (by kernel_rfl) <| OWk.fz 19 H 16 [14, 16] [(14, Z4 r2), (16, Z0 r3)] (by kernel_rfl) <| OWk.sg 19 H [] [17] 1 [(17, Z81 r2 r3)] (by kernel_rfl) ?_
    obtain ⟨q4, hq, h⟩ := bind_inv h
    refine OWk.hnew 19 q4.1 (d := some 18) (b := false) [(2, 5, false)] [18] [(18, .d (.ptr q4.2 0))] hq (by kernel_rfl) rfl (by kernel_rfl) <| OWk.sg 19 q4.1 [] [4, 5] 2 [(4, .d (.ptr q4.2 0)), (5, vI 0)] (by kernel_rfl) <| OWk.done (by kernel_rfl) <| thenS_n <| SW.ret ?_
    cases h
    exact EndQ.ret [] (by kernel_rfl) rfl
def item_within (fuel : Nat) (p0 : Int) (p1 : Int) (p2 : Int) : Option (Bool) :=
  some ((decide (p0 ≥ p1)) && (decide (p0 ≤ p2)))
def Z83 (x0 : Deed) : SV := vB (decide (x0.Verb < 1))
def Z84 (x0 : Deed) : SV := vB ((decide (x0.Verb < 1)) || (decide (x0.Verb > 12)))
def Z85 (x0 : Deed) : SV := vI (x0.Names.length : Int)
def Z86 (x0 : Deed) : SV := .d (.list 3 (List.map encValue x0.Row))
def Z87 (x0 : Deed) : SV := vB ((x0.Names.length : Int) != (x0.Row.length : Int))
def Z88 (x0 : (List Value)) : SV := vB (decide ((x0.length : Int) ≤ 8))
def Z89 : SV := .d (.fn (.func 44) [] [])
def Z90 (x0 : Value) : SV := .d (.agg [.int .i64 x0.Kind, .int .i64 x0.N, .str x0.S])
def Z91 (x0 : Value) : SV := .box [vI x0.Kind, vI x0.N, vS x0.S]
def Z92 (x0 : Int) (x1 : Int) (x2 : Int) : SV := vB ((decide (x0 ≥ x1)) && (decide (x0 ≤ x2)))
theorem item_within_ok {fuel : Nat} {p0 : Int} {p1 : Int} {p2 : Int} {r : Bool} (h : item_within fuel p0 p1 p2 = some r) : PC Tryz.prog 53 [vI p0, vI p1, vI p2] (vB r) := by
  refine PC.of_SW Tryz.func53 rfl fun H => ?_
  unfold item_within at h
  refine SW.kp 15 H [0, 1, 2] [(0, vI p0), (1, vI p1), (2, vI p2)] (by kernel_rfl) <| SW.seq <| SW.regionK <| OWk.sg 15 H [] [0, 1, 2] 1 [(0, vI p0), (1, vI p1), (2, vI p2)] (by kernel_rfl) <| OWk.done (by kernel_rfl) <| thenS_n <| SW.seq <| SW.regionK <| OWk.sg 15 H [] [0, 2, 10] 4 [(0, vI p0), (2, vI p2), (10, vB (decide (p0 ≥ p1)))] (by kernel_rfl) <| OWk.mg 15 H [14] 4 (decide (p0 ≥ p1)) (fun b => (sp 15 [(0, vI p0), (2, vI p2), (10, vB b)] H)) (fun b => [(14, vB (b && (decide (p0 ≤ p2))))]) (by kernel_rfl) (by kernel_rfl) (by kernel_rfl) <| OWk.sg 15 H [] [6] 1 [(6, Z92 p0 p1 p2)] (by kernel_rfl) <| OWk.done (by kernel_rfl) <| thenS_n <| SW.ret ?_
  cases h
  exact EndQ.ret [] (by kernel_rfl) rfl
def item_checks (fuel : Nat) : Option (Unit) :=
  some ()
def Z93 : SV := .box [.d (.nilFn), .d (.nilFn), .d (.nilFn)]
def Z94 : SV := .box [.d (.fn (.func 61) [] []), .d (.fn (.func 62) [] []), .d (.fn (.func 63) [] [])]
theorem item_checks_ok {fuel : Nat} {r : Unit} (h : item_checks fuel = some r) : PC Tryz.prog 54 [] (.d (.agg [.fn (.func 61) [] [], .fn (.func 62) [] [], .fn (.func 63) [] []])) := by
  refine PC.of_SW Tryz.func54 rfl fun H => ?_
  unfold item_checks at h
  refine SW.kp 2 H [] [] (by kernel_rfl) <| SW.seq <| SW.regionK <| OWk.sg 2 H [] [0] 1 [(0, Z93)] (by kernel_rfl) <| OWk.done (by kernel_rfl) <| thenS_n <| SW.seq <| SW.regionK <| OWk.sg 2 H [] [0] 2 [(0, Z94)] (by kernel_rfl) <| OWk.done (by kernel_rfl) <| thenS_n <| SW.ret ?_
  cases h
  exact EndQ.ret [] (by kernel_rfl) rfl
def item_checks_1 (fuel : Nat) (p0 : Value) : Option (Bool) :=
  some false
def Z95 : SV := .d (.agg [.fn (.func 61) [] [], .fn (.func 62) [] [], .fn (.func 63) [] []])
def Z96 : SV := .d (.fn (.func 61) [] [])
theorem item_checks_1_ok {fuel : Nat} {p0 : Value} {r : Bool} (h : item_checks_1 fuel p0 = some r) : PC Tryz.prog 61 [.d (encValue p0)] (vB r) := by
  refine PC.of_SW Tryz.func61 rfl fun H => ?_
  unfold item_checks_1 at h
  refine SW.kp 3 H [0] [(0, Z90 p0)] (by kernel_rfl) <| SW.seq <| SW.regionK <| OWk.sg 3 H [] [] 2 [] (by kernel_rfl) <| OWk.done (by kernel_rfl) <| thenS_n <| SW.seq <| SW.regionK <| OWk.sg 3 H [] [2] 1 [(2, vB false)] (by kernel_rfl) <| OWk.done (by kernel_rfl) <| thenS_n <| SW.ret ?_
  cases h
  exact EndQ.ret [] (by kernel_rfl) rfl
def item_checks_2 (fuel : Nat) (p0 : Value) : Option (Bool) :=
  bif (p0.S == []) then
    (item_within fuel p0.N (-1000000000) 1000000000).bind fun r1 =>
    some r1
  else
    some false
def Z97 : SV := .d (.fn (.func 62) [] [])
theorem item_checks_2_ok {fuel : Nat} {p0 : Value} {r : Bool} (h : item_checks_2 fuel p0 = some r) : PC Tryz.prog 62 [.d (encValue p0)] (vB r) := by
  refine PC.of_SW Tryz.func62 rfl fun H => ?_
  unfold item_checks_2 at h
  refine SW.kp 11 H [0] [(0, Z90 p0)] (by kernel_rfl) <| SW.seq <| SW.regionK <| OWk.sg 11 H [] [1] 2 [(1, Z91 p0)] (by kernel_rfl) <| OWk.done (by kernel_rfl) <| thenS_n <| SW.seq <| SW.regionK <| OWk.sg 11 H [] [1, 6] 4 [(1, Z91 p0), (6, vB (p0.S == []))] (by kernel_rfl) ?_
  refine OWk.case (p0.S == []) (fun b => (sp 11 [(1, Z91 p0), (6, vB b)] H)) (by kernel_rfl) (fun hc => ?_) (fun hc => ?_)
  · replace h := bif_t hc h
    refine OWk.sg 11 H [] [6, 8] 2 [(6, vB true), (8, vI p0.N)] (by kernel_rfl) ?_
    obtain ⟨r1, hr, h⟩ := bind_inv h
    refine OWk.cl 11 H (d := some 9) (ls := []) (gs := []) [] [6, 9] [(6, vB true), (9, vB r1)] (item_within_ok hr) (by kernel_rfl) (by kernel_rfl) (by kernel_rfl) <| OWk.sg 11 H [] [2] 2 [(2, vB r1)] (by kernel_rfl) <| OWk.done (by kernel_rfl) <| thenS_n <| SW.ret ?_
    cases h
    exact EndQ.ret [] (by kernel_rfl) rfl
  · replace h := bif_f hc h
    refine OWk.sg 11 H [] [2] 5 [(2, vB false)] (by kernel_rfl) <| OWk.done (by kernel_rfl) <| thenS_n <| SW.ret ?_
    cases h
    exact EndQ.ret [] (by kernel_rfl) rfl
def item_checks_3 (fuel : Nat) (p0 : Value) : Option (Bool) :=
  bif (p0.N == 0) then
    some (decide ((p0.S.length : Int) ≤ 40))
  else
    some false
def Z98 : SV := .d (.fn (.func 63) [] [])
def Z99 (x0 : Value) : SV := vB (decide ((x0.S.length : Int) ≤ 40))
theorem item_checks_3_ok {fuel : Nat} {p0 : Value} {r : Bool} (h : item_checks_3 fuel p0 = some r) : PC Tryz.prog 63 [.d (encValue p0)] (vB r) := by
  refine PC.of_SW Tryz.func63 rfl fun H => ?_
  unfold item_checks_3 at h
  refine SW.kp 12 H [0] [(0, Z90 p0)] (by kernel_rfl) <| SW.seq <| SW.regionK <| OWk.sg 12 H [] [1] 2 [(1, Z91 p0)] (by kernel_rfl) <| OWk.done (by kernel_rfl) <| thenS_n <| SW.seq <| SW.regionK <| OWk.sg 12 H [] [1, 6] 4 [(1, Z91 p0), (6, vB (p0.N == 0))] (by kernel_rfl) ?_
  refine OWk.case (p0.N == 0) (fun b => (sp 12 [(1, Z91 p0), (6, vB b)] H)) (by kernel_rfl) (fun hc => ?_) (fun hc => ?_)
  · replace h := bif_t hc h
    refine OWk.sg 12 H [] [6, 8] 2 [(6, vB true), (8, vS p0.S)] (by kernel_rfl) <| OWk.sg 12 H [] [6, 9] 1 [(6, vB true), (9, vI (p0.S.length : Int))] (by kernel_rfl) <| OWk.sg 12 H [] [2] 3 [(2, Z99 p0)] (by kernel_rfl) <| OWk.done (by kernel_rfl) <| thenS_n <| SW.ret ?_
    cases h
    exact EndQ.ret [] (by kernel_rfl) rfl
  · replace h := bif_f hc h
    refine OWk.sg 12 H [] [2] 6 [(2, vB false)] (by kernel_rfl) <| OWk.done (by kernel_rfl) <| thenS_n <| SW.ret ?_
    cases h
    exact EndQ.ret [] (by kernel_rfl) rfl
def item_ValidValue (fuel : Nat) (p0 : Value) : Option (Bool) :=
  (item_within fuel p0.Kind 0 2).bind fun r1 =>
  bif r1 then
    (item_checks fuel).bind fun r2 =>
    bif (p0.Kind == 0) then
      (item_checks_1 fuel p0).bind fun r3 =>
      some r3
    else
      bif (p0.Kind == 1) then
        (item_checks_2 fuel p0).bind fun r4 =>
        some r4
      else
        bif (p0.Kind == 2) then
          (item_checks_3 fuel p0).bind fun r5 =>
          some r5
        else
          none
  else
    some false
theorem item_ValidValue_ok {fuel : Nat} {p0 : Value} {r : Bool} (h : item_ValidValue fuel p0 = some r) : PC Tryz.prog 45 [.d (encValue p0)] (vB r) := by
  refine PC.of_SW Tryz.func45 rfl fun H => ?_
  unfold item_ValidValue at h
  refine SW.kp 14 H [0] [(0, Z90 p0)] (by kernel_rfl) <| SW.seq <| SW.regionK <| OWk.sg 14 H [] [1] 2 [(1, Z91 p0)] (by kernel_rfl) <| OWk.done (by kernel_rfl) <| thenS_n <| SW.seq <| SW.regionQ (by kernel_rfl) (by kernel_rfl) <| OQk.sg 14 H [] [1, 4] 2 [(1, Z91 p0), (4, vI p0.Kind)] (by kernel_rfl) ?_
  obtain ⟨r1, hr, h⟩ := bind_inv h
  refine OQk.cl 14 H (d := some 5) (ls := []) [1, 5] [(1, Z91 p0), (5, vB r1)] (item_within_ok hr) (by kernel_rfl) (by kernel_rfl) (by kernel_rfl) <| OQk.sg 14 H [] [1, 6] 1 [(1, Z91 p0), (6, vB r1)] (by kernel_rfl) ?_
  refine OQk.case r1 (fun b => (sp 14 [(1, Z91 p0), (6, vB b)] H)) (by kernel_rfl) (fun hc => ?_) (fun hc => ?_)
  · replace h := bif_t hc h
    obtain ⟨r2, hr, h⟩ := bind_inv h
    refine OQk.cl 14 H (d := some 7) (ls := []) [1, 6, 7] [(1, Z91 p0), (6, vB true), (7, Z95)] (item_checks_ok hr) (by kernel_rfl) (by kernel_rfl) (by kernel_rfl) <| OQk.sg 14 H [] [1, 6, 7, 9] 2 [(1, Z91 p0), (6, vB true), (7, Z95), (9, vI p0.Kind)] (by kernel_rfl) ?_
    rcases hc : (p0.Kind == 0) with _ | _
    · replace h := bif_f hc h
      rcases hc : (p0.Kind == 1) with _ | _
      · replace h := bif_f hc h
        rcases hc : (p0.Kind == 2) with _ | _
        · replace h := bif_f hc h
          cases h
        · replace h := bif_t hc h
          refine OQk.lit (fun e => (sp 14 [(1, Z91 p0), (6, vB true), (7, Z95), (9, vI e)] H)) (by kernel_rfl) hc <| OQk.sg 14 H [] [6, 10, 11] 2 [(6, vB true), (10, Z98), (11, Z90 p0)] (by kernel_rfl) ?_
          obtain ⟨r5, hr, h⟩ := bind_inv h
          refine OQk.cl 14 H (d := some 12) (ls := []) [6, 12] [(6, vB true), (12, vB r5)] (item_checks_3_ok hr) (by kernel_rfl) (by kernel_rfl) (by kernel_rfl) <| OQk.sg 14 H [] [2] 2 [(2, vB r5)] (by kernel_rfl) <| OQk.done (by kernel_rfl) <| thenS_n <| SW.ret ?_
          cases h
          exact EndQ.ret [] (by kernel_rfl) rfl
      · replace h := bif_t hc h
        refine OQk.lit (fun e => (sp 14 [(1, Z91 p0), (6, vB true), (7, Z95), (9, vI e)] H)) (by kernel_rfl) hc <| OQk.sg 14 H [] [6, 10, 11] 2 [(6, vB true), (10, Z97), (11, Z90 p0)] (by kernel_rfl) ?_
        obtain ⟨r4, hr, h⟩ := bind_inv h
        refine OQk.cl 14 H (d := some 12) (ls := []) [6, 12] [(6, vB true), (12, vB r4)] (item_checks_2_ok hr) (by kernel_rfl) (by kernel_rfl) (by kernel_rfl) <| OQk.sg 14 H [] [2] 2 [(2, vB r4)] (by kernel_rfl) <| OQk.done (by kernel_rfl) <| thenS_n <| SW.ret ?_
        cases h
        exact EndQ.ret [] (by kernel_rfl) rfl
    · replace h := bif_t hc h
      refine OQk.lit (fun e => (sp 14 [(1, Z91 p0), (6, vB true), (7, Z95), (9, vI e)] H)) (by kernel_rfl) hc <| OQk.sg 14 H [] [6, 10, 11] 2 [(6, vB true), (10, Z96), (11, Z90 p0)] (by kernel_rfl) ?_
      obtain ⟨r3, hr, h⟩ := bind_inv h
      refine OQk.cl 14 H (d := some 12) (ls := []) [6, 12] [(6, vB true), (12, vB r3)] (item_checks_1_ok hr) (by kernel_rfl) (by kernel_rfl) (by kernel_rfl) <| OQk.sg 14 H [] [2] 2 [(2, vB r3)] (by kernel_rfl) <| OQk.done (by kernel_rfl) <| thenS_n <| SW.ret ?_
      cases h
      exact EndQ.ret [] (by kernel_rfl) rfl
  · replace h := bif_f hc h
    refine OQk.sg 14 H [] [2] 8 [(2, vB false)] (by kernel_rfl) <| OQk.done (by kernel_rfl) <| thenS_n <| SW.ret ?_
    cases h
    exact EndQ.ret [] (by kernel_rfl) rfl
def item_ValidRow_1 (fuel : Nat) (p0 : Value) : Option (Bool) :=
  (item_ValidValue fuel p0).bind fun r1 =>
  some (!r1)
theorem item_ValidRow_1_ok {fuel : Nat} {p0 : Value} {r : Bool} (h : item_ValidRow_1 fuel p0 = some r) : PC Tryz.prog 44 [.d (encValue p0)] (vB r) := by
  refine PC.of_SW Tryz.func44 rfl fun H => ?_
  unfold item_ValidRow_1 at h
  refine SW.kp 6 H [0] [(0, Z90 p0)] (by kernel_rfl) <| SW.seq <| SW.regionK <| OWk.sg 6 H [] [1] 2 [(1, Z91 p0)] (by kernel_rfl) <| OWk.done (by kernel_rfl) <| thenS_n <| SW.seq <| SW.regionK <| OWk.sg 6 H [] [3] 1 [(3, Z90 p0)] (by kernel_rfl) ?_
  obtain ⟨r1, hr, h⟩ := bind_inv h
  refine OWk.cl 6 H (d := some 4) (ls := []) (gs := []) [] [4] [(4, vB r1)] (item_ValidValue_ok hr) (by kernel_rfl) (by kernel_rfl) (by kernel_rfl) <| OWk.sg 6 H [] [2] 2 [(2, vB (!r1))] (by kernel_rfl) <| OWk.done (by kernel_rfl) <| thenS_n <| SW.ret ?_
  cases h
  exact EndQ.ret [] (by kernel_rfl) rfl
def slices_IndexFunc__item_ValidRow_1_l1 (fuel : Nat) (p0 : (List Value)) (y1 : Int) : Option ((Int) ⊕ ((Unit) ⊕ ((Int)))) :=
  bif (decide (y1 < (p0.length : Int))) then
    (idx p0 y1).bind fun x2 =>
    (item_ValidRow_1 fuel x2).bind fun r3 =>
    bif r3 then
      some (.inr (.inr y1))
    else
      some (.inl (IntKind.wrap .i64 (y1 + 1)))
  else
    some (.inr (.inl ()))
def slices_IndexFunc__item_ValidRow_1 (fuel : Nat) (p0 : (List Value)) : Option (Int) :=
  (iter (slices_IndexFunc__item_ValidRow_1_l1 fuel p0) fuel 0).bind (Sum.elim (fun v5 =>
    some (-1)) (fun r6 =>
    some r6))
theorem slices_IndexFunc__item_ValidRow_1_ok {fuel : Nat} {p0 : (List Value)} {r : Int} (h : slices_IndexFunc__item_ValidRow_1 fuel p0 = some r) : PC Tryz.prog 52 [.d (.list 3 (List.map encValue p0)), .d (.fn (.func 44) [] [])] (vI r) := by
  refine PC.of_SW Tryz.func52 rfl fun H => ?_
  unfold slices_IndexFunc__item_ValidRow_1 at h
  refine SW.kp 19 H [0, 1] [(0, Z39 p0), (1, Z89)] (by kernel_rfl) <| SW.seq <| SW.regionK <| OWk.sg 19 H [] [0, 1] 1 [(0, Z39 p0), (1, Z89)] (by kernel_rfl) <| OWk.done (by kernel_rfl) <| thenS_n <| SW.seq <| SW.seq <| SW.regionK <| OWk.sg 19 H [] [0, 1, 6] 1 [(0, Z39 p0), (1, Z89), (6, Z39 p0)] (by kernel_rfl) <| OWk.on 19 H (d := some 7) [0, 1, 7] [(0, Z39 p0), (1, Z89), (7, vI (p0.length : Int))] (BAt.len (enc := encValue) (xs := p0) (by kernel_rfl)) (by kernel_rfl) <| OWk.sg 19 H [] [0, 1, 7, 8] 1 [(0, Z39 p0), (1, Z89), (7, vI (p0.length : Int)), (8, vI 0)] (by kernel_rfl) <| OWk.done (by kernel_rfl) <| thenS_n <| SW.block ?_
  obtain ⟨z4, hit, h⟩ := bind_inv h
  refine SW.it 19 H [0, 1, 7, 8] (fun y1 => [(0, Z39 p0), (1, Z89), (7, vI (p0.length : Int)), (8, vI y1)]) (fun b e s => ((∃ v5, b = (.inl v5) ∧ (e = .exit 0 ∧ s = (sp 19 [] H))) ∨ (∃ r6, b = (.inr r6) ∧ (e = .ret ∧ EndQ Tryz.prog Tryz.f52.results.toList H (vI r6) .ret s)))) hit (by kernel_rfl) (fun y1 o h => ?_) ?_
  · unfold slices_IndexFunc__item_ValidRow_1_l1 at h
    refine SW.seq <| SW.regionK <| OWk.sg 19 H [] [0, 1, 7, 8, 9] 1 [(0, Z39 p0), (1, Z89), (7, vI (p0.length : Int)), (8, vI y1), (9, Z43 y1 p0)] (by kernel_rfl) <| OWk.done (by kernel_rfl) <| thenS_n <| SW.seq ?_
    refine SW.condB (b := (decide (y1 < (p0.length : Int)))) (by kernel_rfl) (fun hc => ?_) (fun hc => ?_)
    · replace h := bif_t hc h
      refine SW.skip <| thenS_n <| SW.seq <| SW.block <| SW.seq <| SW.regionK <| OWk.sg 19 H [] [0, 1, 5, 7, 8] 2 [(0, Z39 p0), (1, Z89), (5, vI y1), (7, vI (p0.length : Int)), (8, vI y1)] (by kernel_rfl) <| OWk.done (by kernel_rfl) <| thenS_n <| SW.seq <| SW.regionK <| OWk.sg 19 H [] [0, 1, 5, 7, 8, 11, 12, 13] 3 [(0, Z39 p0), (1, Z89), (5, vI y1), (7, vI (p0.length : Int)), (8, vI y1), (11, Z89), (12, Z39 p0), (13, vI y1)] (by kernel_rfl) ?_
      obtain ⟨x2, hx, h⟩ := bind_inv h
      refine OWk.on 19 H (d := some 14) (s := lendP none (Go.Sh.D.cells (encValue x2))) [0, 1, 5, 7, 8, 11, 14] [(0, Z39 p0), (1, Z89), (5, vI y1), (7, vI (p0.length : Int)), (8, vI y1), (11, Z89), (14, .d (.dptr [.int .i64 x2.Kind, .int .i64 x2.N, .str x2.S]))] (BAt.index (n := 3) hx (by kernel_rfl)) (by kernel_rfl) <| OWk.sg 19 H [] [0, 1, 5, 7, 8, 11, 15] 1 [(0, Z39 p0), (1, Z89), (5, vI y1), (7, vI (p0.length : Int)), (8, vI y1), (11, Z89), (15, Z90 x2)] (by kernel_rfl) ?_
      obtain ⟨r3, hr, h⟩ := bind_inv h
      refine OWk.cl 19 H (d := some 16) (ls := []) (gs := []) [] [0, 1, 5, 7, 8, 16] [(0, Z39 p0), (1, Z89), (5, vI y1), (7, vI (p0.length : Int)), (8, vI y1), (16, vB r3)] (item_ValidRow_1_ok hr) (by kernel_rfl) (by kernel_rfl) (by kernel_rfl) <| OWk.done (by kernel_rfl) <| thenS_n ?_
      refine SW.condB (b := r3) (by kernel_rfl) (fun hc => ?_) (fun hc => ?_)
      · replace h := bif_t hc h
        refine SW.seq <| SW.regionK <| OWk.sg 19 H [] [4] 2 [(4, vI y1)] (by kernel_rfl) <| OWk.done (by kernel_rfl) <| thenS_n <| SW.ret <| blockS_r <| thenS_r ?_
        cases h
        refine thenS_r ?_
        exact ⟨_, rfl, .inr (⟨y1, rfl, rfl, EndQ.ret [] (by kernel_rfl) rfl⟩)⟩
      · replace h := bif_f hc h
        refine SW.skip <| blockS_n <| thenS_n <| SW.regionK <| OWk.sg 19 H [] [0, 1, 7, 8] 2 [(0, Z39 p0), (1, Z89), (7, vI (p0.length : Int)), (8, Z44 y1)] (by kernel_rfl) <| OWk.done (by kernel_rfl) ?_
        cases h
        exact ⟨(IntKind.wrap .i64 (y1 + 1)), rfl, by kernel_rfl⟩
    · replace h := bif_f hc h
      refine SW.kp 19 H [] [] (by kernel_rfl) <| SW.exit <| thenS_e ?_
      cases h
      refine thenS_e ?_
      exact ⟨_, rfl, .inl ⟨(), rfl, rfl, rfl⟩⟩
  · rintro _ _ (⟨v5, rfl, rfl, rfl⟩ | ⟨r6, rfl, rfl, hE⟩)
    · replace h := sum_l h
      refine blockS_hit <| thenS_n <| SW.seq <| SW.regionK <| OWk.sg 19 H [] [4] 1 [(4, vI (-1))] (by kernel_rfl) <| OWk.done (by kernel_rfl) <| thenS_n <| SW.ret ?_
      cases h
      exact EndQ.ret [] (by kernel_rfl) rfl
    · replace h := sum_r h
      refine blockS_r <| thenS_r ?_
      cases h
      exact hE
def slices_ContainsFunc__item_ValidRow_1 (fuel : Nat) (p0 : (List Value)) : Option (Bool) :=
  (slices_IndexFunc__item_ValidRow_1 fuel p0).bind fun r1 =>
  some (decide (r1 ≥ 0))
theorem slices_ContainsFunc__item_ValidRow_1_ok {fuel : Nat} {p0 : (List Value)} {r : Bool} (h : slices_ContainsFunc__item_ValidRow_1 fuel p0 = some r) : PC Tryz.prog 43 [.d (.list 3 (List.map encValue p0)), .d (.fn (.func 44) [] [])] (vB r) := by
  refine PC.of_SW Tryz.func43 rfl fun H => ?_
  unfold slices_ContainsFunc__item_ValidRow_1 at h
  refine SW.kp 9 H [0, 1] [(0, Z39 p0), (1, Z89)] (by kernel_rfl) <| SW.seq <| SW.regionK <| OWk.sg 9 H [] [0, 1] 1 [(0, Z39 p0), (1, Z89)] (by kernel_rfl) <| OWk.done (by kernel_rfl) <| thenS_n <| SW.seq <| SW.regionK <| OWk.sg 9 H [] [5, 6] 2 [(5, Z39 p0), (6, Z89)] (by kernel_rfl) ?_
  obtain ⟨r1, hr, h⟩ := bind_inv h
  refine OWk.cl 9 H (d := some 7) (ls := []) (gs := []) [] [7] [(7, vI r1)] (slices_IndexFunc__item_ValidRow_1_ok hr) (by kernel_rfl) (by kernel_rfl) (by kernel_rfl) <| OWk.sg 9 H [] [4] 2 [(4, vB (decide (r1 ≥ 0)))] (by kernel_rfl) <| OWk.done (by kernel_rfl) <| thenS_n <| SW.ret ?_
  cases h
  exact EndQ.ret [] (by kernel_rfl) rfl
def item_ValidRow (fuel : Nat) (p0 : (List Value)) : Option (Bool) :=
  bif (decide ((p0.length : Int) ≤ 8)) then
    (slices_ContainsFunc__item_ValidRow_1 fuel p0).bind fun r1 =>
    some (!r1)
  else
    some false
theorem item_ValidRow_ok {fuel : Nat} {p0 : (List Value)} {r : Bool} (h : item_ValidRow fuel p0 = some r) : PC Tryz.prog 28 [.d (.list 3 (List.map encValue p0))] (vB r) := by
  refine PC.of_SW Tryz.func28 rfl fun H => ?_
  unfold item_ValidRow at h
  refine SW.kp 11 H [0] [(0, Z39 p0)] (by kernel_rfl) <| SW.seq <| SW.regionK <| OWk.sg 11 H [] [0] 1 [(0, Z39 p0)] (by kernel_rfl) <| OWk.done (by kernel_rfl) <| thenS_n <| SW.seq <| SW.regionK <| OWk.sg 11 H [] [0, 3] 1 [(0, Z39 p0), (3, Z39 p0)] (by kernel_rfl) <| OWk.on 11 H (d := some 4) [0, 4] [(0, Z39 p0), (4, vI (p0.length : Int))] (BAt.len (enc := encValue) (xs := p0) (by kernel_rfl)) (by kernel_rfl) <| OWk.sg 11 H [] [0, 6] 2 [(0, Z39 p0), (6, Z88 p0)] (by kernel_rfl) ?_
  refine OWk.case (decide ((p0.length : Int) ≤ 8)) (fun b => (sp 11 [(0, Z39 p0), (6, vB b)] H)) (by kernel_rfl) (fun hc => ?_) (fun hc => ?_)
  · replace h := bif_t hc h
    refine OWk.sg 11 H [] [6, 7] 1 [(6, vB true), (7, Z39 p0)] (by kernel_rfl) ?_
    obtain ⟨r1, hr, h⟩ := bind_inv h
    refine OWk.cl 11 H (d := some 8) (ls := []) (gs := []) [] [6, 8] [(6, vB true), (8, vB r1)] (slices_ContainsFunc__item_ValidRow_1_ok hr) (by kernel_rfl) (by kernel_rfl) (by kernel_rfl) <| OWk.sg 11 H [] [2] 3 [(2, vB (!r1))] (by kernel_rfl) <| OWk.done (by kernel_rfl) <| thenS_n <| SW.ret ?_
    cases h
    exact EndQ.ret [] (by kernel_rfl) rfl
  · replace h := bif_f hc h
    refine OWk.sg 11 H [] [2] 5 [(2, vB false)] (by kernel_rfl) <| OWk.done (by kernel_rfl) <| thenS_n <| SW.ret ?_
    cases h
    exact EndQ.ret [] (by kernel_rfl) rfl
def slices_Index_l1 (fuel : Nat) (p0 : (List (List UInt8))) (p1 : (List UInt8)) (y1 : Int) : Option ((Int) ⊕ ((Unit) ⊕ ((Int)))) :=
  bif (decide (y1 < (p0.length : Int))) then
    (idx p0 y1).bind fun x2 =>
    bif (p1 == x2) then
      some (.inr (.inr y1))
    else
      some (.inl (IntKind.wrap .i64 (y1 + 1)))
  else
    some (.inr (.inl ()))
def slices_Index (fuel : Nat) (p0 : (List (List UInt8))) (p1 : (List UInt8)) : Option (Int) :=
  (iter (slices_Index_l1 fuel p0 p1) fuel 0).bind (Sum.elim (fun v4 =>
    some (-1)) (fun r5 =>
    some r5))
def Z100 (x0 : Deed) : SV := vB (decide ((x0.Keys.length : Int) > 20))
def Z101 (x0 : Deed) : SV := vI (x0.Row.length : Int)
theorem slices_Index_ok {fuel : Nat} {p0 : (List (List UInt8))} {p1 : (List UInt8)} {r : Int} (h : slices_Index fuel p0 p1 = some r) : PC Tryz.prog 48 [.d (.list 1 (List.map D.str p0)), vS p1] (vI r) := by
  refine PC.of_SW Tryz.func48 rfl fun H => ?_
  unfold slices_Index at h
  refine SW.kp 19 H [0, 1] [(0, Z47 p0), (1, vS p1)] (by kernel_rfl) <| SW.seq <| SW.regionK <| OWk.sg 19 H [] [0, 1] 1 [(0, Z47 p0), (1, vS p1)] (by kernel_rfl) <| OWk.done (by kernel_rfl) <| thenS_n <| SW.seq <| SW.seq <| SW.regionK <| OWk.sg 19 H [] [0, 1, 6] 1 [(0, Z47 p0), (1, vS p1), (6, Z47 p0)] (by kernel_rfl) <| OWk.on 19 H (d := some 7) [0, 1, 7] [(0, Z47 p0), (1, vS p1), (7, vI (p0.length : Int))] (BAt.len (enc := D.str) (xs := p0) (by kernel_rfl)) (by kernel_rfl) <| OWk.sg 19 H [] [0, 1, 7, 8] 1 [(0, Z47 p0), (1, vS p1), (7, vI (p0.length : Int)), (8, vI 0)] (by kernel_rfl) <| OWk.done (by kernel_rfl) <| thenS_n <| SW.block ?_
  obtain ⟨z3, hit, h⟩ := bind_inv h
  refine SW.it 19 H [0, 1, 7, 8] (fun y1 => [(0, Z47 p0), (1, vS p1), (7, vI (p0.length : Int)), (8, vI y1)]) (fun b e s => ((∃ v4, b = (.inl v4) ∧ (e = .exit 0 ∧ s = (sp 19 [] H))) ∨ (∃ r5, b = (.inr r5) ∧ (e = .ret ∧ EndQ Tryz.prog Tryz.f48.results.toList H (vI r5) .ret s)))) hit (by kernel_rfl) (fun y1 o h => ?_) ?_
  · unfold slices_Index_l1 at h
    refine SW.seq <| SW.regionK <| OWk.sg 19 H [] [0, 1, 7, 8, 9] 1 [(0, Z47 p0), (1, vS p1), (7, vI (p0.length : Int)), (8, vI y1), (9, Z50 y1 p0)] (by kernel_rfl) <| OWk.done (by kernel_rfl) <| thenS_n <| SW.seq ?_
    refine SW.condB (b := (decide (y1 < (p0.length : Int)))) (by kernel_rfl) (fun hc => ?_) (fun hc => ?_)
    · replace h := bif_t hc h
      refine SW.skip <| thenS_n <| SW.seq <| SW.block <| SW.seq <| SW.regionK <| OWk.sg 19 H [] [0, 1, 5, 7, 8] 2 [(0, Z47 p0), (1, vS p1), (5, vI y1), (7, vI (p0.length : Int)), (8, vI y1)] (by kernel_rfl) <| OWk.done (by kernel_rfl) <| thenS_n <| SW.seq <| SW.regionK <| OWk.sg 19 H [] [0, 1, 5, 7, 8, 11, 12, 13] 3 [(0, Z47 p0), (1, vS p1), (5, vI y1), (7, vI (p0.length : Int)), (8, vI y1), (11, vS p1), (12, Z47 p0), (13, vI y1)] (by kernel_rfl) ?_
      obtain ⟨x2, hx, h⟩ := bind_inv h
      refine OWk.on 19 H (d := some 14) (s := lendP none (Go.Sh.D.cells (D.str x2))) [0, 1, 5, 7, 8, 11, 14] [(0, Z47 p0), (1, vS p1), (5, vI y1), (7, vI (p0.length : Int)), (8, vI y1), (11, vS p1), (14, .d (.dptr [.str x2]))] (BAt.index (n := 1) hx (by kernel_rfl)) (by kernel_rfl) <| OWk.sg 19 H [] [0, 1, 5, 7, 8, 16] 2 [(0, Z47 p0), (1, vS p1), (5, vI y1), (7, vI (p0.length : Int)), (8, vI y1), (16, vB (p1 == x2))] (by kernel_rfl) <| OWk.done (by kernel_rfl) <| thenS_n ?_
      refine SW.condB (b := (p1 == x2)) (by kernel_rfl) (fun hc => ?_) (fun hc => ?_)
      · replace h := bif_t hc h
        refine SW.seq <| SW.regionK <| OWk.sg 19 H [] [4] 2 [(4, vI y1)] (by kernel_rfl) <| OWk.done (by kernel_rfl) <| thenS_n <| SW.ret <| blockS_r <| thenS_r ?_
        cases h
        refine thenS_r ?_
        exact ⟨_, rfl, .inr (⟨y1, rfl, rfl, EndQ.ret [] (by kernel_rfl) rfl⟩)⟩
      · replace h := bif_f hc h
        refine SW.skip <| blockS_n <| thenS_n <| SW.regionK <| OWk.sg 19 H [] [0, 1, 7, 8] 2 [(0, Z47 p0), (1, vS p1), (7, vI (p0.length : Int)), (8, Z44 y1)] (by kernel_rfl) <| OWk.done (by kernel_rfl) ?_
        cases h
        exact ⟨(IntKind.wrap .i64 (y1 + 1)), rfl, by kernel_rfl⟩
    · replace h := bif_f hc h
      refine SW.kp 19 H [] [] (by kernel_rfl) <| SW.exit <| thenS_e ?_
      cases h
      refine thenS_e ?_
      exact ⟨_, rfl, .inl ⟨(), rfl, rfl, rfl⟩⟩
  · rintro _ _ (⟨v4, rfl, rfl, rfl⟩ | ⟨r5, rfl, rfl, hE⟩)
    · replace h := sum_l h
      refine blockS_hit <| thenS_n <| SW.seq <| SW.regionK <| OWk.sg 19 H [] [4] 1 [(4, vI (-1))] (by kernel_rfl) <| OWk.done (by kernel_rfl) <| thenS_n <| SW.ret ?_
      cases h
      exact EndQ.ret [] (by kernel_rfl) rfl
    · replace h := sum_r h
      refine blockS_r <| thenS_r ?_
      cases h
      exact hE
def slices_Contains (fuel : Nat) (p0 : (List (List UInt8))) (p1 : (List UInt8)) : Option (Bool) :=
  (slices_Index fuel p0 p1).bind fun r1 =>
  some (decide (r1 ≥ 0))
theorem slices_Contains_ok {fuel : Nat} {p0 : (List (List UInt8))} {p1 : (List UInt8)} {r : Bool} (h : slices_Contains fuel p0 p1 = some r) : PC Tryz.prog 30 [.d (.list 1 (List.map D.str p0)), vS p1] (vB r) := by
  refine PC.of_SW Tryz.func30 rfl fun H => ?_
  unfold slices_Contains at h
  refine SW.kp 9 H [0, 1] [(0, Z47 p0), (1, vS p1)] (by kernel_rfl) <| SW.seq <| SW.regionK <| OWk.sg 9 H [] [0, 1] 1 [(0, Z47 p0), (1, vS p1)] (by kernel_rfl) <| OWk.done (by kernel_rfl) <| thenS_n <| SW.seq <| SW.regionK <| OWk.sg 9 H [] [5, 6] 2 [(5, Z47 p0), (6, vS p1)] (by kernel_rfl) ?_
  obtain ⟨r1, hr, h⟩ := bind_inv h
  refine OWk.cl 9 H (d := some 7) (ls := []) (gs := []) [] [7] [(7, vI r1)] (slices_Index_ok hr) (by kernel_rfl) (by kernel_rfl) (by kernel_rfl) <| OWk.sg 9 H [] [4] 2 [(4, vB (decide (r1 ≥ 0)))] (by kernel_rfl) <| OWk.done (by kernel_rfl) <| thenS_n <| SW.ret ?_
  cases h
  exact EndQ.ret [] (by kernel_rfl) rfl
def guard_ValidCall_1 (fuel : Nat) (p0 : (List UInt8)) : Option (Bool) :=
  (guard_key fuel p0).bind fun r1 =>
  some (!r1)
def Z104 (x0 : Int) (x1 : Deed) : SV := vB (decide (x0 < (x1.Names.length : Int)))
def Z105 (x0 : Deed) (x1 : Int) : SV := .d (.list 1 (List.map D.str (sl x0.Names 0 x1)))
def Z106 : SV := .d (.fn (.func 32) [] [])
theorem guard_ValidCall_1_ok {fuel : Nat} {p0 : (List UInt8)} {r : Bool} (h : guard_ValidCall_1 fuel p0 = some r) : PC Tryz.prog 32 [vS p0] (vB r) := by
  refine PC.of_SW Tryz.func32 rfl fun H => ?_
  unfold guard_ValidCall_1 at h
  refine SW.kp 6 H [0] [(0, vS p0)] (by kernel_rfl) <| SW.seq <| SW.regionK <| OWk.sg 6 H [] [0] 1 [(0, vS p0)] (by kernel_rfl) <| OWk.done (by kernel_rfl) <| thenS_n <| SW.seq <| SW.regionK <| OWk.sg 6 H [] [3] 1 [(3, vS p0)] (by kernel_rfl) ?_
  obtain ⟨r1, hr, h⟩ := bind_inv h
  refine OWk.cl 6 H (d := some 4) (ls := []) (gs := []) [] [4] [(4, vB r1)] (guard_key_ok hr) (by kernel_rfl) (by kernel_rfl) (by kernel_rfl) <| OWk.sg 6 H [] [2] 2 [(2, vB (!r1))] (by kernel_rfl) <| OWk.done (by kernel_rfl) <| thenS_n <| SW.ret ?_
  cases h
  exact EndQ.ret [] (by kernel_rfl) rfl
def slices_IndexFunc__guard_ValidCall_1_l1 (fuel : Nat) (p0 : (List (List UInt8))) (y1 : Int) : Option ((Int) ⊕ ((Unit) ⊕ ((Int)))) :=
  bif (decide (y1 < (p0.length : Int))) then
    (idx p0 y1).bind fun x2 =>
    (guard_ValidCall_1 fuel x2).bind fun r3 =>
    bif r3 then
      some (.inr (.inr y1))
    else
      some (.inl (IntKind.wrap .i64 (y1 + 1)))
  else
    some (.inr (.inl ()))
def slices_IndexFunc__guard_ValidCall_1 (fuel : Nat) (p0 : (List (List UInt8))) : Option (Int) :=
  (iter (slices_IndexFunc__guard_ValidCall_1_l1 fuel p0) fuel 0).bind (Sum.elim (fun v5 =>
    some (-1)) (fun r6 =>
    some r6))
theorem slices_IndexFunc__guard_ValidCall_1_ok {fuel : Nat} {p0 : (List (List UInt8))} {r : Int} (h : slices_IndexFunc__guard_ValidCall_1 fuel p0 = some r) : PC Tryz.prog 49 [.d (.list 1 (List.map D.str p0)), .d (.fn (.func 32) [] [])] (vI r) := by
  refine PC.of_SW Tryz.func49 rfl fun H => ?_
  unfold slices_IndexFunc__guard_ValidCall_1 at h
  refine SW.kp 19 H [0, 1] [(0, Z47 p0), (1, Z106)] (by kernel_rfl) <| SW.seq <| SW.regionK <| OWk.sg 19 H [] [0, 1] 1 [(0, Z47 p0), (1, Z106)] (by kernel_rfl) <| OWk.done (by kernel_rfl) <| thenS_n <| SW.seq <| SW.seq <| SW.regionK <| OWk.sg 19 H [] [0, 1, 6] 1 [(0, Z47 p0), (1, Z106), (6, Z47 p0)] (by kernel_rfl) <| OWk.on 19 H (d := some 7) [0, 1, 7] [(0, Z47 p0), (1, Z106), (7, vI (p0.length : Int))] (BAt.len (enc := D.str) (xs := p0) (by kernel_rfl)) (by kernel_rfl) <| OWk.sg 19 H [] [0, 1, 7, 8] 1 [(0, Z47 p0), (1, Z106), (7, vI (p0.length : Int)), (8, vI 0)] (by kernel_rfl) <| OWk.done (by kernel_rfl) <| thenS_n <| SW.block ?_
  obtain ⟨z4, hit, h⟩ := bind_inv h
  refine SW.it 19 H [0, 1, 7, 8] (fun y1 => [(0, Z47 p0), (1, Z106), (7, vI (p0.length : Int)), (8, vI y1)]) (fun b e s => ((∃ v5, b = (.inl v5) ∧ (e = .exit 0 ∧ s = (sp 19 [] H))) ∨ (∃ r6, b = (.inr r6) ∧ (e = .ret ∧ EndQ Tryz.prog Tryz.f49.results.toList H (vI r6) .ret s)))) hit (by kernel_rfl) (fun y1 o h => ?_) ?_
  · unfold slices_IndexFunc__guard_ValidCall_1_l1 at h
    refine SW.seq <| SW.regionK <| OWk.sg 19 H [] [0, 1, 7, 8, 9] 1 [(0, Z47 p0), (1, Z106), (7, vI (p0.length : Int)), (8, vI y1), (9, Z50 y1 p0)] (by kernel_rfl) <| OWk.done (by kernel_rfl) <| thenS_n <| SW.seq ?_
    refine SW.condB (b := (decide (y1 < (p0.length : Int)))) (by kernel_rfl) (fun hc => ?_) (fun hc => ?_)
    · replace h := bif_t hc h
      refine SW.skip <| thenS_n <| SW.seq <| SW.block <| SW.seq <| SW.regionK <| OWk.sg 19 H [] [0, 1, 5, 7, 8] 2 [(0, Z47 p0), (1, Z106), (5, vI y1), (7, vI (p0.length : Int)), (8, vI y1)] (by kernel_rfl) <| OWk.done (by kernel_rfl) <| thenS_n <| SW.seq <| SW.regionK <| OWk.sg 19 H [] [0, 1, 5, 7, 8, 11, 12, 13] 3 [(0, Z47 p0), (1, Z106), (5, vI y1), (7, vI (p0.length : Int)), (8, vI y1), (11, Z106), (12, Z47 p0), (13, vI y1)] (by kernel_rfl) ?_
      obtain ⟨x2, hx, h⟩ := bind_inv h
      refine OWk.on 19 H (d := some 14) (s := lendP none (Go.Sh.D.cells (D.str x2))) [0, 1, 5, 7, 8, 11, 14] [(0, Z47 p0), (1, Z106), (5, vI y1), (7, vI (p0.length : Int)), (8, vI y1), (11, Z106), (14, .d (.dptr [.str x2]))] (BAt.index (n := 1) hx (by kernel_rfl)) (by kernel_rfl) <| OWk.sg 19 H [] [0, 1, 5, 7, 8, 11, 15] 1 [(0, Z47 p0), (1, Z106), (5, vI y1), (7, vI (p0.length : Int)), (8, vI y1), (11, Z106), (15, vS x2)] (by kernel_rfl) ?_
      obtain ⟨r3, hr, h⟩ := bind_inv h
      refine OWk.cl 19 H (d := some 16) (ls := []) (gs := []) [] [0, 1, 5, 7, 8, 16] [(0, Z47 p0), (1, Z106), (5, vI y1), (7, vI (p0.length : Int)), (8, vI y1), (16, vB r3)] (guard_ValidCall_1_ok hr) (by kernel_rfl) (by kernel_rfl) (by kernel_rfl) <| OWk.done (by kernel_rfl) <| thenS_n ?_
      refine SW.condB (b := r3) (by kernel_rfl) (fun hc => ?_) (fun hc => ?_)
      · replace h := bif_t hc h
        refine SW.seq <| SW.regionK <| OWk.sg 19 H [] [4] 2 [(4, vI y1)] (by kernel_rfl) <| OWk.done (by kernel_rfl) <| thenS_n <| SW.ret <| blockS_r <| thenS_r ?_
        cases h
        refine thenS_r ?_
        exact ⟨_, rfl, .inr (⟨y1, rfl, rfl, EndQ.ret [] (by kernel_rfl) rfl⟩)⟩
      · replace h := bif_f hc h
        refine SW.skip <| blockS_n <| thenS_n <| SW.regionK <| OWk.sg 19 H [] [0, 1, 7, 8] 2 [(0, Z47 p0), (1, Z106), (7, vI (p0.length : Int)), (8, Z44 y1)] (by kernel_rfl) <| OWk.done (by kernel_rfl) ?_
        cases h
        exact ⟨(IntKind.wrap .i64 (y1 + 1)), rfl, by kernel_rfl⟩
    · replace h := bif_f hc h
      refine SW.kp 19 H [] [] (by kernel_rfl) <| SW.exit <| thenS_e ?_
      cases h
      refine thenS_e ?_
      exact ⟨_, rfl, .inl ⟨(), rfl, rfl, rfl⟩⟩
  · rintro _ _ (⟨v5, rfl, rfl, rfl⟩ | ⟨r6, rfl, rfl, hE⟩)
    · replace h := sum_l h
      refine blockS_hit <| thenS_n <| SW.seq <| SW.regionK <| OWk.sg 19 H [] [4] 1 [(4, vI (-1))] (by kernel_rfl) <| OWk.done (by kernel_rfl) <| thenS_n <| SW.ret ?_
      cases h
      exact EndQ.ret [] (by kernel_rfl) rfl
    · replace h := sum_r h
      refine blockS_r <| thenS_r ?_
      cases h
      exact hE
def slices_ContainsFunc__guard_ValidCall_1 (fuel : Nat) (p0 : (List (List UInt8))) : Option (Bool) :=
  (slices_IndexFunc__guard_ValidCall_1 fuel p0).bind fun r1 =>
  some (decide (r1 ≥ 0))
theorem slices_ContainsFunc__guard_ValidCall_1_ok {fuel : Nat} {p0 : (List (List UInt8))} {r : Bool} (h : slices_ContainsFunc__guard_ValidCall_1 fuel p0 = some r) : PC Tryz.prog 31 [.d (.list 1 (List.map D.str p0)), .d (.fn (.func 32) [] [])] (vB r) := by
  refine PC.of_SW Tryz.func31 rfl fun H => ?_
  unfold slices_ContainsFunc__guard_ValidCall_1 at h
  refine SW.kp 9 H [0, 1] [(0, Z47 p0), (1, Z106)] (by kernel_rfl) <| SW.seq <| SW.regionK <| OWk.sg 9 H [] [0, 1] 1 [(0, Z47 p0), (1, Z106)] (by kernel_rfl) <| OWk.done (by kernel_rfl) <| thenS_n <| SW.seq <| SW.regionK <| OWk.sg 9 H [] [5, 6] 2 [(5, Z47 p0), (6, Z106)] (by kernel_rfl) ?_
  obtain ⟨r1, hr, h⟩ := bind_inv h
  refine OWk.cl 9 H (d := some 7) (ls := []) (gs := []) [] [7] [(7, vI r1)] (slices_IndexFunc__guard_ValidCall_1_ok hr) (by kernel_rfl) (by kernel_rfl) (by kernel_rfl) <| OWk.sg 9 H [] [4] 2 [(4, vB (decide (r1 ≥ 0)))] (by kernel_rfl) <| OWk.done (by kernel_rfl) <| thenS_n <| SW.ret ?_
  cases h
  exact EndQ.ret [] (by kernel_rfl) rfl
def guard_ValidCall_l1 (fuel : Nat) (p0 : Deed) (y5 : Int) : Option ((Int) ⊕ ((Unit) ⊕ ((Bool)))) :=
  bif (decide (y5 < (p0.Names.length : Int))) then
    (idx p0.Names y5).bind fun x6 =>
    (item_Name fuel x6).bind fun r7 =>
    bif (!r7) then
      some (.inr (.inr false))
    else
      chk (slOk p0.Names 0 y5) <|
      (slices_Contains fuel (sl p0.Names 0 y5) x6).bind fun r8 =>
      bif r8 then
        some (.inr (.inr false))
      else
        some (.inl (IntKind.wrap .i64 (y5 + 1)))
  else
    some (.inr (.inl ()))
def guard_ValidCall (fuel : Nat) (p0 : Deed) : Option (Bool) :=
  letJ (fun (j1 : Bool) =>
    bif j1 then
      some false
    else
      (iter (guard_ValidCall_l1 fuel p0) fuel 0).bind (Sum.elim (fun v10 =>
        (slices_ContainsFunc__guard_ValidCall_1 fuel p0.Keys).bind fun r11 =>
        some (!r11)) (fun r12 =>
        some r12))) fun jp2 =>
  bif ((decide (p0.Verb < 1)) || (decide (p0.Verb > 12))) then
    jp2 true
  else
    (guard_on fuel p0.On).bind fun r3 =>
    bif (!r3) then
      jp2 true
    else
      bif ((p0.Names.length : Int) != (p0.Row.length : Int)) then
        jp2 true
      else
        (item_ValidRow fuel p0.Row).bind fun r4 =>
        bif (!r4) then
          jp2 true
        else
          jp2 (decide ((p0.Keys.length : Int) > 20))
theorem guard_ValidCall_ok {fuel : Nat} {p0 : Deed} {r : Bool} (h : guard_ValidCall fuel p0 = some r) : PC Tryz.prog 16 [.d (encDeed p0)] (vB r) := by
  refine PC.of_SW Tryz.func16 rfl fun H => ?_
  unfold guard_ValidCall at h
  refine SW.kp 64 H [0] [(0, Z29 p0)] (by kernel_rfl) <| SW.seq <| SW.regionK <| OWk.sg 64 H [] [1] 2 [(1, Z2 p0)] (by kernel_rfl) <| OWk.done (by kernel_rfl) <| thenS_n <| SW.seq ?_
  obtain ⟨jp2, hjjp2, h⟩ := letJ_inv h
  refine SW.jn 64 H [1, 39] (fun (j1 : Bool) => [(1, Z2 p0), (39, vB j1)]) (fun v => jp2 v = some r) (fun j1 h => ?_) ?_
  · rw [hjjp2] at h
    refine SW.condB (b := j1) (by kernel_rfl) (fun hc => ?_) (fun hc => ?_)
    · replace h := bif_t hc h
      refine SW.seq <| SW.regionK <| OWk.sg 64 H [] [2] 1 [(2, vB false)] (by kernel_rfl) <| OWk.done (by kernel_rfl) <| thenS_n <| SW.ret <| thenS_r ?_
      cases h
      exact EndQ.ret [] (by kernel_rfl) rfl
    · replace h := bif_f hc h
      refine SW.skip <| thenS_n <| SW.seq <| SW.seq <| SW.regionK <| OWk.sg 64 H [] [1, 41] 2 [(1, Z2 p0), (41, Z46 p0)] (by kernel_rfl) <| OWk.on 64 H (d := some 42) [1, 41, 42] [(1, Z2 p0), (41, Z46 p0), (42, Z85 p0)] (BAt.len (enc := D.str) (xs := p0.Names) (by kernel_rfl)) (by kernel_rfl) <| OWk.sg 64 H [] [1, 41, 42, 43] 1 [(1, Z2 p0), (41, Z46 p0), (42, Z85 p0), (43, vI 0)] (by kernel_rfl) <| OWk.done (by kernel_rfl) <| thenS_n <| SW.block ?_
      obtain ⟨z9, hit, h⟩ := bind_inv h
      refine SW.it 64 H [1, 41, 42, 43] (fun y5 => [(1, Z2 p0), (41, Z46 p0), (42, Z85 p0), (43, vI y5)]) (fun b e s => ((∃ v10, b = (.inl v10) ∧ (e = .exit 0 ∧ s = (sp 64 [(1, Z2 p0)] H))) ∨ (∃ r12, b = (.inr r12) ∧ (e = .ret ∧ EndQ Tryz.prog Tryz.f16.results.toList H (vB r12) .ret s)))) hit (by kernel_rfl) (fun y5 o h => ?_) ?_
      · unfold guard_ValidCall_l1 at h
        refine SW.seq <| SW.regionK <| OWk.sg 64 H [] [1, 41, 42, 43, 44] 1 [(1, Z2 p0), (41, Z46 p0), (42, Z85 p0), (43, vI y5), (44, Z104 y5 p0)] (by kernel_rfl) <| OWk.done (by kernel_rfl) <| thenS_n <| SW.seq ?_
        refine SW.condB (b := (decide (y5 < (p0.Names.length : Int)))) (by kernel_rfl) (fun hc => ?_) (fun hc => ?_)
        · replace h := bif_t hc h
          refine SW.skip <| thenS_n <| SW.seq <| SW.block <| SW.seq <| SW.regionK <| OWk.sg 64 H [] [1, 41, 42, 43, 45] 1 [(1, Z2 p0), (41, Z46 p0), (42, Z85 p0), (43, vI y5), (45, vI y5)] (by kernel_rfl) ?_
          obtain ⟨x6, hx, h⟩ := bind_inv h
          refine OWk.on 64 H (d := some 46) (s := lendP none (Go.Sh.D.cells (D.str x6))) [1, 41, 42, 43, 45, 46] [(1, Z2 p0), (41, Z46 p0), (42, Z85 p0), (43, vI y5), (45, vI y5), (46, .d (.dptr [.str x6]))] (BAt.index (n := 1) hx (by kernel_rfl)) (by kernel_rfl) <| OWk.sg 64 H [] [1, 3, 4, 41, 42, 43] 3 [(1, Z2 p0), (3, vI y5), (4, vS x6), (41, Z46 p0), (42, Z85 p0), (43, vI y5)] (by kernel_rfl) <| OWk.done (by kernel_rfl) <| thenS_n <| SW.seq <| SW.regionK <| OWk.sg 64 H [] [1, 3, 4, 41, 42, 43, 48] 1 [(1, Z2 p0), (3, vI y5), (4, vS x6), (41, Z46 p0), (42, Z85 p0), (43, vI y5), (48, vS x6)] (by kernel_rfl) ?_
          obtain ⟨r7, hr, h⟩ := bind_inv h
          refine OWk.cl 64 H (d := some 49) (ls := []) (gs := []) [] [1, 3, 4, 41, 42, 43, 49] [(1, Z2 p0), (3, vI y5), (4, vS x6), (41, Z46 p0), (42, Z85 p0), (43, vI y5), (49, vB r7)] (item_Name_ok hr) (by kernel_rfl) (by kernel_rfl) (by kernel_rfl) <| OWk.sg 64 H [] [1, 3, 4, 41, 42, 43, 51] 2 [(1, Z2 p0), (3, vI y5), (4, vS x6), (41, Z46 p0), (42, Z85 p0), (43, vI y5), (51, vB (!r7))] (by kernel_rfl) ?_
          refine OWk.case (!r7) (fun b => (sp 64 [(1, Z2 p0), (3, vI y5), (4, vS x6), (41, Z46 p0), (42, Z85 p0), (43, vI y5), (51, vB b)] H)) (by kernel_rfl) (fun hc => ?_) (fun hc => ?_)
          · replace h := bif_t hc h
            refine OWk.sg 64 H [] [1, 41, 42, 43, 58] 7 [(1, Z2 p0), (41, Z46 p0), (42, Z85 p0), (43, vI y5), (58, vB true)] (by kernel_rfl) <| OWk.done (by kernel_rfl) <| thenS_n <| SW.condT (by kernel_rfl) <| SW.seq <| SW.regionK <| OWk.sg 64 H [] [2] 1 [(2, vB false)] (by kernel_rfl) <| OWk.done (by kernel_rfl) <| thenS_n <| SW.ret <| blockS_r <| thenS_r ?_
            cases h
            refine thenS_r ?_
            exact ⟨_, rfl, .inr (⟨false, rfl, rfl, EndQ.ret [] (by kernel_rfl) rfl⟩)⟩
          · replace h := bif_f hc h
            refine OWk.sg 64 H [] [1, 4, 41, 42, 43, 51, 53, 54] 3 [(1, Z2 p0), (4, vS x6), (41, Z46 p0), (42, Z85 p0), (43, vI y5), (51, vB false), (53, Z46 p0), (54, vI y5)] (by kernel_rfl) ?_
            obtain ⟨hk, h⟩ := chk_inv h
            refine OWk.on 64 H (d := some 55) (s := lendL none 1 (List.map D.str (sl p0.Names 0 y5))) [1, 4, 41, 42, 43, 51, 55] [(1, Z2 p0), (4, vS x6), (41, Z46 p0), (42, Z85 p0), (43, vI y5), (51, vB false), (55, Z105 p0 y5)] (BAt.slice hk (by kernel_rfl)) (by kernel_rfl) <| OWk.sg 64 H [] [1, 41, 42, 43, 51, 55, 56] 1 [(1, Z2 p0), (41, Z46 p0), (42, Z85 p0), (43, vI y5), (51, vB false), (55, Z105 p0 y5), (56, vS x6)] (by kernel_rfl) ?_
            obtain ⟨r8, hr, h⟩ := bind_inv h
            refine OWk.cl 64 H (d := some 57) (ls := []) (gs := []) [] [1, 41, 42, 43, 51, 57] [(1, Z2 p0), (41, Z46 p0), (42, Z85 p0), (43, vI y5), (51, vB false), (57, vB r8)] (slices_Contains_ok hr) (by kernel_rfl) (by kernel_rfl) (by kernel_rfl) <| OWk.sg 64 H [] [1, 41, 42, 43, 58] 1 [(1, Z2 p0), (41, Z46 p0), (42, Z85 p0), (43, vI y5), (58, vB r8)] (by kernel_rfl) <| OWk.done (by kernel_rfl) <| thenS_n ?_
            refine SW.condB (b := r8) (by kernel_rfl) (fun hc => ?_) (fun hc => ?_)
            · replace h := bif_t hc h
              refine SW.seq <| SW.regionK <| OWk.sg 64 H [] [2] 1 [(2, vB false)] (by kernel_rfl) <| OWk.done (by kernel_rfl) <| thenS_n <| SW.ret <| blockS_r <| thenS_r ?_
              cases h
              refine thenS_r ?_
              exact ⟨_, rfl, .inr (⟨false, rfl, rfl, EndQ.ret [] (by kernel_rfl) rfl⟩)⟩
            · replace h := bif_f hc h
              refine SW.skip <| blockS_n <| thenS_n <| SW.regionK <| OWk.sg 64 H [] [1, 41, 42, 43] 2 [(1, Z2 p0), (41, Z46 p0), (42, Z85 p0), (43, Z44 y5)] (by kernel_rfl) <| OWk.done (by kernel_rfl) ?_
              cases h
              exact ⟨(IntKind.wrap .i64 (y5 + 1)), rfl, by kernel_rfl⟩
        · replace h := bif_f hc h
          refine SW.kp 64 H [1] [(1, Z2 p0)] (by kernel_rfl) <| SW.exit <| thenS_e ?_
          cases h
          refine thenS_e ?_
          exact ⟨_, rfl, .inl ⟨(), rfl, rfl, rfl⟩⟩
      · rintro _ _ (⟨v10, rfl, rfl, rfl⟩ | ⟨r12, rfl, rfl, hE⟩)
        · replace h := sum_l h
          refine blockS_hit <| thenS_n <| SW.seq <| SW.regionK <| OWk.sg 64 H [] [61] 2 [(61, Z30 p0)] (by kernel_rfl) ?_
          obtain ⟨r11, hr, h⟩ := bind_inv h
          refine OWk.cl 64 H (d := some 62) (ls := []) (gs := []) [] [62] [(62, vB r11)] (slices_ContainsFunc__guard_ValidCall_1_ok hr) (by kernel_rfl) (by kernel_rfl) (by kernel_rfl) <| OWk.sg 64 H [] [2] 2 [(2, vB (!r11))] (by kernel_rfl) <| OWk.done (by kernel_rfl) <| thenS_n <| SW.ret ?_
          cases h
          exact EndQ.ret [] (by kernel_rfl) rfl
        · replace h := sum_r h
          refine blockS_r <| thenS_r ?_
          cases h
          exact hE
  · refine SW.regionK <| OWk.sg 64 H [] [1, 8] 4 [(1, Z2 p0), (8, Z83 p0)] (by kernel_rfl) <| OWk.mg 64 H [1, 12] 4 (decide (p0.Verb < 1)) (fun b => (sp 64 [(1, Z2 p0), (8, vB b)] H)) (fun b => [(1, Z2 p0), (12, vB (b || (decide (p0.Verb > 12))))]) (by kernel_rfl) (by kernel_rfl) (by kernel_rfl) <| OWk.sg 64 H [] [1, 13] 1 [(1, Z2 p0), (13, Z84 p0)] (by kernel_rfl) ?_
    refine OWk.case ((decide (p0.Verb < 1)) || (decide (p0.Verb > 12))) (fun b => (sp 64 [(1, Z2 p0), (13, vB b)] H)) (by kernel_rfl) (fun hc => ?_) (fun hc => ?_)
    · replace h := bif_t hc h
      refine OWk.sg 64 H [] [1, 39] 26 [(1, Z2 p0), (39, vB true)] (by kernel_rfl) <| OWk.done (by kernel_rfl) ?_
      exact ⟨true, [], by kernel_rfl, h⟩
    · replace h := bif_f hc h
      refine OWk.sg 64 H [] [1, 13, 15] 2 [(1, Z2 p0), (13, vB false), (15, vS p0.On)] (by kernel_rfl) ?_
      obtain ⟨r3, hr, h⟩ := bind_inv h
      refine OWk.cl 64 H (d := some 16) (ls := []) (gs := []) [] [1, 13, 16] [(1, Z2 p0), (13, vB false), (16, vB r3)] (guard_on_ok hr) (by kernel_rfl) (by kernel_rfl) (by kernel_rfl) <| OWk.sg 64 H [] [1, 19] 3 [(1, Z2 p0), (19, vB (!r3))] (by kernel_rfl) ?_
      refine OWk.case (!r3) (fun b => (sp 64 [(1, Z2 p0), (19, vB b)] H)) (by kernel_rfl) (fun hc => ?_) (fun hc => ?_)
      · replace h := bif_t hc h
        refine OWk.sg 64 H [] [1, 39] 20 [(1, Z2 p0), (39, vB true)] (by kernel_rfl) <| OWk.done (by kernel_rfl) ?_
        exact ⟨true, [], by kernel_rfl, h⟩
      · replace h := bif_f hc h
        refine OWk.sg 64 H [] [1, 19, 21] 2 [(1, Z2 p0), (19, vB false), (21, Z46 p0)] (by kernel_rfl) <| OWk.on 64 H (d := some 22) [1, 19, 22] [(1, Z2 p0), (19, vB false), (22, Z85 p0)] (BAt.len (enc := D.str) (xs := p0.Names) (by kernel_rfl)) (by kernel_rfl) <| OWk.sg 64 H [] [1, 19, 22, 24] 2 [(1, Z2 p0), (19, vB false), (22, Z85 p0), (24, Z86 p0)] (by kernel_rfl) <| OWk.on 64 H (d := some 25) [1, 19, 22, 25] [(1, Z2 p0), (19, vB false), (22, Z85 p0), (25, Z101 p0)] (BAt.len (enc := encValue) (xs := p0.Row) (by kernel_rfl)) (by kernel_rfl) <| OWk.sg 64 H [] [1, 28] 3 [(1, Z2 p0), (28, Z87 p0)] (by kernel_rfl) ?_
        refine OWk.case ((p0.Names.length : Int) != (p0.Row.length : Int)) (fun b => (sp 64 [(1, Z2 p0), (28, vB b)] H)) (by kernel_rfl) (fun hc => ?_) (fun hc => ?_)
        · replace h := bif_t hc h
          refine OWk.sg 64 H [] [1, 39] 11 [(1, Z2 p0), (39, vB true)] (by kernel_rfl) <| OWk.done (by kernel_rfl) ?_
          exact ⟨true, [], by kernel_rfl, h⟩
        · replace h := bif_f hc h
          refine OWk.sg 64 H [] [1, 28, 30] 2 [(1, Z2 p0), (28, vB false), (30, Z86 p0)] (by kernel_rfl) ?_
          obtain ⟨r4, hr, h⟩ := bind_inv h
          refine OWk.cl 64 H (d := some 31) (ls := []) (gs := []) [] [1, 28, 31] [(1, Z2 p0), (28, vB false), (31, vB r4)] (item_ValidRow_ok hr) (by kernel_rfl) (by kernel_rfl) (by kernel_rfl) <| OWk.sg 64 H [] [1, 34] 3 [(1, Z2 p0), (34, vB (!r4))] (by kernel_rfl) ?_
          refine OWk.case (!r4) (fun b => (sp 64 [(1, Z2 p0), (34, vB b)] H)) (by kernel_rfl) (fun hc => ?_) (fun hc => ?_)
          · replace h := bif_t hc h
            refine OWk.sg 64 H [] [1, 39] 5 [(1, Z2 p0), (39, vB true)] (by kernel_rfl) <| OWk.done (by kernel_rfl) ?_
            exact ⟨true, [], by kernel_rfl, h⟩
          · replace h := bif_f hc h
            refine OWk.sg 64 H [] [1, 34, 36] 2 [(1, Z2 p0), (34, vB false), (36, Z30 p0)] (by kernel_rfl) <| OWk.on 64 H (d := some 37) [1, 34, 37] [(1, Z2 p0), (34, vB false), (37, Z33 p0)] (BAt.len (enc := D.str) (xs := p0.Keys) (by kernel_rfl)) (by kernel_rfl) <| OWk.sg 64 H [] [1, 39] 2 [(1, Z2 p0), (39, Z100 p0)] (by kernel_rfl) <| OWk.done (by kernel_rfl) ?_
            exact ⟨(decide ((p0.Keys.length : Int) > 20)), [], by kernel_rfl, h⟩
def clPrivacy : Cl Privacy := ((cI .i64).one.pair (cS.one.pair cS.one)).iso (fun p => (⟨p.1, p.2.1, p.2.2⟩ : Privacy)) (fun x => (x.Verb, x.On, x.Key)) (fun _ => rfl) (fun _ => rfl)
def cPrivacy : Cd Privacy := clPrivacy.agg
def guard_meant (fuel : Nat) (p0 : Int) (p1 : (List UInt8)) (p2 : Deed) : Option (Bool) :=
  bif ((p0 == 0) || (p0 == p2.Verb)) then
    bif (p1 == []) then
      some true
    else
      some (p1 == p2.On)
  else
    some false
def Z107 (x0 : Deed) : SV := .d (.dptr [.int .i64 x0.Verb, .str x0.On, .list 1 (List.map D.str x0.Names), .list 3 (List.map encValue x0.Row), .list 1 (List.map D.str x0.Keys)])
def Z108 (x0 : Nat) (x1 : (List Privacy)) : SV := .lent (.hcell x0 1) 3 (List.map encPrivacy x1)
def Z109 (x0 : Deed) : SV := .d (.fn (.func 35) [] [.dptr [.int .i64 x0.Verb, .str x0.On, .list 1 (List.map D.str x0.Names), .list 3 (List.map encValue x0.Row), .list 1 (List.map D.str x0.Keys)]])
def Z110 (x0 : Int) (x1 : Deed) : SV := vB ((x0 == 0) || (x0 == x1.Verb))
theorem guard_meant_ok {fuel : Nat} {p0 : Int} {p1 : (List UInt8)} {p2 : Deed} {r : Bool} (h : guard_meant fuel p0 p1 p2 = some r) : PC Tryz.prog 36 [vI p0, vS p1, .d (encDeed p2)] (vB r) := by
  refine PC.of_SW Tryz.func36 rfl fun H => ?_
  unfold guard_meant at h
  refine SW.kp 25 H [0, 1, 2] [(0, vI p0), (1, vS p1), (2, Z29 p2)] (by kernel_rfl) <| SW.seq <| SW.regionK <| OWk.sg 25 H [] [0, 1, 5] 2 [(0, vI p0), (1, vS p1), (5, Z2 p2)] (by kernel_rfl) <| OWk.done (by kernel_rfl) <| thenS_n <| SW.seq <| SW.regionK <| OWk.sg 25 H [] [0, 1, 5, 9] 3 [(0, vI p0), (1, vS p1), (5, Z2 p2), (9, vB (p0 == 0))] (by kernel_rfl) <| OWk.mg 25 H [1, 5, 14] 5 (p0 == 0) (fun b => (sp 25 [(0, vI p0), (1, vS p1), (5, Z2 p2), (9, vB b)] H)) (fun b => [(1, vS p1), (5, Z2 p2), (14, vB (b || (p0 == p2.Verb)))]) (by kernel_rfl) (by kernel_rfl) (by kernel_rfl) <| OWk.sg 25 H [] [1, 5, 15] 1 [(1, vS p1), (5, Z2 p2), (15, Z110 p0 p2)] (by kernel_rfl) ?_
  refine OWk.case ((p0 == 0) || (p0 == p2.Verb)) (fun b => (sp 25 [(1, vS p1), (5, Z2 p2), (15, vB b)] H)) (by kernel_rfl) (fun hc => ?_) (fun hc => ?_)
  · replace h := bif_t hc h
    refine OWk.sg 25 H [] [1, 5, 15, 18] 3 [(1, vS p1), (5, Z2 p2), (15, vB true), (18, vB (p1 == []))] (by kernel_rfl) ?_
    refine OWk.case (p1 == []) (fun b => (sp 25 [(1, vS p1), (5, Z2 p2), (15, vB true), (18, vB b)] H)) (by kernel_rfl) (fun hc => ?_) (fun hc => ?_)
    · replace h := bif_t hc h
      refine OWk.sg 25 H [] [6] 7 [(6, vB true)] (by kernel_rfl) <| OWk.done (by kernel_rfl) <| thenS_n <| SW.ret ?_
      cases h
      exact EndQ.ret [] (by kernel_rfl) rfl
    · replace h := bif_f hc h
      refine OWk.sg 25 H [] [6] 7 [(6, vB (p1 == p2.On))] (by kernel_rfl) <| OWk.done (by kernel_rfl) <| thenS_n <| SW.ret ?_
      cases h
      exact EndQ.ret [] (by kernel_rfl) rfl
  · replace h := bif_f hc h
    refine OWk.sg 25 H [] [6] 10 [(6, vB false)] (by kernel_rfl) <| OWk.done (by kernel_rfl) <| thenS_n <| SW.ret ?_
    cases h
    exact EndQ.ret [] (by kernel_rfl) rfl
def guard_Guard_closed_1 (fuel : Nat) (p0 : Privacy) (p1 : Deed) : Option (Bool) :=
  (guard_meant fuel p0.Verb p0.On p1).bind fun r1 =>
  bif r1 then
    (slices_Contains fuel p1.Keys p0.Key).bind fun r2 =>
    some (!r2)
  else
    some false
theorem guard_Guard_closed_1_ok {fuel : Nat} {p0 : Privacy} {p1 : Deed} {r : Bool} (h : guard_Guard_closed_1 fuel p0 p1 = some r) : PC Tryz.prog 35 [.d (encPrivacy p0), .d (.dptr [.int .i64 p1.Verb, .str p1.On, .list 1 (List.map D.str p1.Names), .list 3 (List.map encValue p1.Row), .list 1 (List.map D.str p1.Keys)])] (vB r) := by
  refine PC.of_SW Tryz.func35 rfl fun H => ?_
  unfold guard_Guard_closed_1 at h
  refine SW.kp 18 H [0, 1] [(0, Z60 p0), (1, Z107 p1)] (by kernel_rfl) <| SW.seq <| SW.regionK <| OWk.sg 18 H [] [1, 2] 2 [(1, Z107 p1), (2, Z1 p0)] (by kernel_rfl) <| OWk.done (by kernel_rfl) <| thenS_n <| SW.seq <| SW.regionK <| OWk.sg 18 H [] [1, 2, 5, 7, 8] 5 [(1, Z107 p1), (2, Z1 p0), (5, vI p0.Verb), (7, vS p0.On), (8, Z29 p1)] (by kernel_rfl) ?_
  obtain ⟨r1, hr, h⟩ := bind_inv h
  refine OWk.cl 18 H (d := some 9) (ls := []) (gs := []) [] [1, 2, 9] [(1, Z107 p1), (2, Z1 p0), (9, vB r1)] (guard_meant_ok hr) (by kernel_rfl) (by kernel_rfl) (by kernel_rfl) <| OWk.sg 18 H [] [1, 2, 10] 1 [(1, Z107 p1), (2, Z1 p0), (10, vB r1)] (by kernel_rfl) ?_
  refine OWk.case r1 (fun b => (sp 18 [(1, Z107 p1), (2, Z1 p0), (10, vB b)] H)) (by kernel_rfl) (fun hc => ?_) (fun hc => ?_)
  · replace h := bif_t hc h
    refine OWk.sg 18 H [] [10, 12, 14] 4 [(10, vB true), (12, Z30 p1), (14, vS p0.Key)] (by kernel_rfl) ?_
    obtain ⟨r2, hr, h⟩ := bind_inv h
    refine OWk.cl 18 H (d := some 15) (ls := []) (gs := []) [] [10, 15] [(10, vB true), (15, vB r2)] (slices_Contains_ok hr) (by kernel_rfl) (by kernel_rfl) (by kernel_rfl) <| OWk.sg 18 H [] [3] 3 [(3, vB (!r2))] (by kernel_rfl) <| OWk.done (by kernel_rfl) <| thenS_n <| SW.ret ?_
    cases h
    exact EndQ.ret [] (by kernel_rfl) rfl
  · replace h := bif_f hc h
    refine OWk.sg 18 H [] [3] 8 [(3, vB false)] (by kernel_rfl) <| OWk.done (by kernel_rfl) <| thenS_n <| SW.ret ?_
    cases h
    exact EndQ.ret [] (by kernel_rfl) rfl
def slices_IndexFunc__guard_Guard_closed_1_l1 (fuel : Nat) (p0 : (List Privacy)) (c1_0 : Deed) (y1 : Int) : Option ((Int) ⊕ ((Unit) ⊕ ((Int)))) :=
  bif (decide (y1 < (p0.length : Int))) then
    (idx p0 y1).bind fun x2 =>
    (guard_Guard_closed_1 fuel x2 c1_0).bind fun r3 =>
    bif r3 then
      some (.inr (.inr y1))
    else
      some (.inl (IntKind.wrap .i64 (y1 + 1)))
  else
    some (.inr (.inl ()))
def slices_IndexFunc__guard_Guard_closed_1 (fuel : Nat) (p0 : (List Privacy)) (c1_0 : Deed) : Option (Int) :=
  (iter (slices_IndexFunc__guard_Guard_closed_1_l1 fuel p0 c1_0) fuel 0).bind (Sum.elim (fun v5 =>
    some (-1)) (fun r6 =>
    some r6))
theorem slices_IndexFunc__guard_Guard_closed_1_ok {fuel : Nat} {p0 : (List Privacy)} {c1_0 : Deed} {r : Int} (h : slices_IndexFunc__guard_Guard_closed_1 fuel p0 c1_0 = some r) : PC Tryz.prog 34 [.d (.list 3 (List.map encPrivacy p0)), .d (.fn (.func 35) [] [.dptr [.int .i64 c1_0.Verb, .str c1_0.On, .list 1 (List.map D.str c1_0.Names), .list 3 (List.map encValue c1_0.Row), .list 1 (List.map D.str c1_0.Keys)]])] (vI r) := by
  refine PC.of_SW Tryz.func34 rfl fun H => ?_
  unfold slices_IndexFunc__guard_Guard_closed_1 at h
  refine SW.kp 19 H [0, 1] [(0, Z0 p0), (1, Z109 c1_0)] (by kernel_rfl) <| SW.seq <| SW.regionK <| OWk.sg 19 H [] [0, 1] 1 [(0, Z0 p0), (1, Z109 c1_0)] (by kernel_rfl) <| OWk.done (by kernel_rfl) <| thenS_n <| SW.seq <| SW.seq <| SW.regionK <| OWk.sg 19 H [] [0, 1, 6] 1 [(0, Z0 p0), (1, Z109 c1_0), (6, Z0 p0)] (by kernel_rfl) <| OWk.on 19 H (d := some 7) [0, 1, 7] [(0, Z0 p0), (1, Z109 c1_0), (7, vI (p0.length : Int))] (BAt.len (enc := encPrivacy) (xs := p0) (by kernel_rfl)) (by kernel_rfl) <| OWk.sg 19 H [] [0, 1, 7, 8] 1 [(0, Z0 p0), (1, Z109 c1_0), (7, vI (p0.length : Int)), (8, vI 0)] (by kernel_rfl) <| OWk.done (by kernel_rfl) <| thenS_n <| SW.block ?_
  obtain ⟨z4, hit, h⟩ := bind_inv h
  refine SW.it 19 H [0, 1, 7, 8] (fun y1 => [(0, Z0 p0), (1, Z109 c1_0), (7, vI (p0.length : Int)), (8, vI y1)]) (fun b e s => ((∃ v5, b = (.inl v5) ∧ (e = .exit 0 ∧ s = (sp 19 [] H))) ∨ (∃ r6, b = (.inr r6) ∧ (e = .ret ∧ EndQ Tryz.prog Tryz.f34.results.toList H (vI r6) .ret s)))) hit (by kernel_rfl) (fun y1 o h => ?_) ?_
  · unfold slices_IndexFunc__guard_Guard_closed_1_l1 at h
    refine SW.seq <| SW.regionK <| OWk.sg 19 H [] [0, 1, 7, 8, 9] 1 [(0, Z0 p0), (1, Z109 c1_0), (7, vI (p0.length : Int)), (8, vI y1), (9, Z69 y1 p0)] (by kernel_rfl) <| OWk.done (by kernel_rfl) <| thenS_n <| SW.seq ?_
    refine SW.condB (b := (decide (y1 < (p0.length : Int)))) (by kernel_rfl) (fun hc => ?_) (fun hc => ?_)
    · replace h := bif_t hc h
      refine SW.skip <| thenS_n <| SW.seq <| SW.block <| SW.seq <| SW.regionK <| OWk.sg 19 H [] [0, 1, 5, 7, 8] 2 [(0, Z0 p0), (1, Z109 c1_0), (5, vI y1), (7, vI (p0.length : Int)), (8, vI y1)] (by kernel_rfl) <| OWk.done (by kernel_rfl) <| thenS_n <| SW.seq <| SW.regionK <| OWk.sg 19 H [] [0, 1, 5, 7, 8, 11, 12, 13] 3 [(0, Z0 p0), (1, Z109 c1_0), (5, vI y1), (7, vI (p0.length : Int)), (8, vI y1), (11, Z109 c1_0), (12, Z0 p0), (13, vI y1)] (by kernel_rfl) ?_
      obtain ⟨x2, hx, h⟩ := bind_inv h
      refine OWk.on 19 H (d := some 14) (s := lendP none (Go.Sh.D.cells (encPrivacy x2))) [0, 1, 5, 7, 8, 11, 14] [(0, Z0 p0), (1, Z109 c1_0), (5, vI y1), (7, vI (p0.length : Int)), (8, vI y1), (11, Z109 c1_0), (14, .d (.dptr [.int .i64 x2.Verb, .str x2.On, .str x2.Key]))] (BAt.index (n := 3) hx (by kernel_rfl)) (by kernel_rfl) <| OWk.sg 19 H [] [0, 1, 5, 7, 8, 11, 15] 1 [(0, Z0 p0), (1, Z109 c1_0), (5, vI y1), (7, vI (p0.length : Int)), (8, vI y1), (11, Z109 c1_0), (15, Z60 x2)] (by kernel_rfl) ?_
      obtain ⟨r3, hr, h⟩ := bind_inv h
      refine OWk.cl 19 H (d := some 16) (ls := []) (gs := []) [] [0, 1, 5, 7, 8, 16] [(0, Z0 p0), (1, Z109 c1_0), (5, vI y1), (7, vI (p0.length : Int)), (8, vI y1), (16, vB r3)] (guard_Guard_closed_1_ok hr) (by kernel_rfl) (by kernel_rfl) (by kernel_rfl) <| OWk.done (by kernel_rfl) <| thenS_n ?_
      refine SW.condB (b := r3) (by kernel_rfl) (fun hc => ?_) (fun hc => ?_)
      · replace h := bif_t hc h
        refine SW.seq <| SW.regionK <| OWk.sg 19 H [] [4] 2 [(4, vI y1)] (by kernel_rfl) <| OWk.done (by kernel_rfl) <| thenS_n <| SW.ret <| blockS_r <| thenS_r ?_
        cases h
        refine thenS_r ?_
        exact ⟨_, rfl, .inr (⟨y1, rfl, rfl, EndQ.ret [] (by kernel_rfl) rfl⟩)⟩
      · replace h := bif_f hc h
        refine SW.skip <| blockS_n <| thenS_n <| SW.regionK <| OWk.sg 19 H [] [0, 1, 7, 8] 2 [(0, Z0 p0), (1, Z109 c1_0), (7, vI (p0.length : Int)), (8, Z44 y1)] (by kernel_rfl) <| OWk.done (by kernel_rfl) ?_
        cases h
        exact ⟨(IntKind.wrap .i64 (y1 + 1)), rfl, by kernel_rfl⟩
    · replace h := bif_f hc h
      refine SW.kp 19 H [] [] (by kernel_rfl) <| SW.exit <| thenS_e ?_
      cases h
      refine thenS_e ?_
      exact ⟨_, rfl, .inl ⟨(), rfl, rfl, rfl⟩⟩
  · rintro _ _ (⟨v5, rfl, rfl, rfl⟩ | ⟨r6, rfl, rfl, hE⟩)
    · replace h := sum_l h
      refine blockS_hit <| thenS_n <| SW.seq <| SW.regionK <| OWk.sg 19 H [] [4] 1 [(4, vI (-1))] (by kernel_rfl) <| OWk.done (by kernel_rfl) <| thenS_n <| SW.ret ?_
      cases h
      exact EndQ.ret [] (by kernel_rfl) rfl
    · replace h := sum_r h
      refine blockS_r <| thenS_r ?_
      cases h
      exact hE
def guard_Guard_closed (fuel : Nat) (p0 : Nat) (p1 : Deed) (H : Hp) : Option (Int) :=
  (hGetL 3 cPrivacy H p0 1).bind fun x1 =>
  (slices_IndexFunc__guard_Guard_closed_1 fuel x1 p1).bind fun r2 =>
  some r2
theorem guard_Guard_closed_ok {fuel : Nat} {p0 : Nat} {p1 : Deed} {H : Hp} {r : Int} (h : guard_Guard_closed fuel p0 p1 H = some r) : SC Tryz.prog true 17 [.d (.ptr p0 0), .d (encDeed p1)] H (vI r) H := by
  refine SC.of_SWr Tryz.func17 rfl ?_
  unfold guard_Guard_closed at h
  refine SW.kp 11 H [0, 1] [(0, .d (.ptr p0 0)), (1, Z29 p1)] (by kernel_rfl) <| SW.seq <| SW.regionK <| OWk.bxf 11 H (d := 3) (ds := [.int .i64 p1.Verb, .str p1.On, .list 1 (List.map D.str p1.Names), .list 3 (List.map encValue p1.Row), .list 1 (List.map D.str p1.Keys)]) [0, 3] [(0, .d (.ptr p0 0)), (3, Z107 p1)] (by kernel_rfl) (by kernel_rfl) <| OWk.sg 11 H [] [0, 3] 1 [(0, .d (.ptr p0 0)), (3, Z107 p1)] (by kernel_rfl) <| OWk.done (by kernel_rfl) <| thenS_n <| SW.seq <| SW.regionK <| OWk.sg 11 H [] [3, 7] 3 [(3, Z107 p1), (7, .d (.ptr p0 1))] (by kernel_rfl) ?_
  obtain ⟨x1, hx, h⟩ := bind_inv h
  refine OWk.on 11 H (d := some 8) (s := .lent (.hcell p0 1) 3 (List.map encPrivacy x1)) [3, 8] [(3, Z107 p1), (8, Z108 p0 x1)] (BAt.ldL (c := cPrivacy) hx (by kernel_rfl)) (by kernel_rfl) <| OWk.sg 11 H [] [8, 9] 1 [(8, Z108 p0 x1), (9, Z109 p1)] (by kernel_rfl) ?_
  obtain ⟨r2, hr, h⟩ := bind_inv h
  refine OWk.cl 11 H (d := some 10) (ls := [(.hcell p0 1)]) (gs := []) [] [10] [(10, vI r2)] (slices_IndexFunc__guard_Guard_closed_1_ok hr) (by kernel_rfl) (by kernel_rfl) (by kernel_rfl) <| OWk.sg 11 H [] [4] 1 [(4, vI r2)] (by kernel_rfl) <| OWk.done (by kernel_rfl) <| thenS_n <| SW.ret ?_
  cases h
  exact EndQ.ret [] (by kernel_rfl) rfl
def guard_Guard_Open (fuel : Nat) (p0 : Nat) (p1 : Deed) (H : Hp) : Option (Bool × Int × Int) :=
  (guard_ValidCall fuel p1).bind fun r1 =>
  bif (!r1) then
    some (false, 0, 1)
  else
    (guard_Guard_closed fuel p0 p1 H).bind fun r2 =>
    some ((decide (r2 < 0)), r2, 0)
theorem guard_Guard_Open_ok {fuel : Nat} {p0 : Nat} {p1 : Deed} {H : Hp} {r : Bool × Int × Int} (h : guard_Guard_Open fuel p0 p1 H = some r) : SC Tryz.prog true 8 [.d (.ptr p0 0), .d (encDeed p1)] H (.tup [vB r.1, vI r.2.1, vI r.2.2]) H := by
  refine SC.of_SWr Tryz.func8 rfl ?_
  unfold guard_Guard_Open at h
  refine SW.kp 21 H [0, 1] [(0, .d (.ptr p0 0)), (1, Z29 p1)] (by kernel_rfl) <| SW.seq <| SW.regionK <| OWk.sg 21 H [] [0, 3] 4 [(0, .d (.ptr p0 0)), (3, Z2 p1)] (by kernel_rfl) <| OWk.done (by kernel_rfl) <| thenS_n <| SW.seq <| SW.seq <| SW.regionK <| OWk.sg 21 H [] [0, 3, 10, 11] 4 [(0, .d (.ptr p0 0)), (3, Z2 p1), (10, vB false), (11, Z29 p1)] (by kernel_rfl) ?_
  obtain ⟨r1, hr, h⟩ := bind_inv h
  refine OWk.cl 21 H (d := some 12) (ls := []) (gs := []) [] [0, 3, 10, 12] [(0, .d (.ptr p0 0)), (3, Z2 p1), (10, vB false), (12, vB r1)] (guard_ValidCall_ok hr) (by kernel_rfl) (by kernel_rfl) (by kernel_rfl) <| OWk.sg 21 H [] [0, 3, 14] 2 [(0, .d (.ptr p0 0)), (3, Z2 p1), (14, vB (!r1))] (by kernel_rfl) <| OWk.done (by kernel_rfl) <| thenS_n ?_
  refine SW.condB (b := (!r1)) (by kernel_rfl) (fun hc => ?_) (fun hc => ?_)
  · replace h := bif_t hc h
    refine SW.seq <| SW.regionK <| OWk.sg 21 H [] [4, 5, 6] 3 [(4, vB false), (5, vI 0), (6, vI 1)] (by kernel_rfl) <| OWk.done (by kernel_rfl) <| thenS_n <| SW.ret <| thenS_r ?_
    cases h
    exact EndQ.ret [] (by kernel_rfl) rfl
  · replace h := bif_f hc h
    refine SW.skip <| thenS_n <| SW.seq <| SW.regionK <| OWk.sg 21 H [] [15, 16] 2 [(15, .d (.ptr p0 0)), (16, Z29 p1)] (by kernel_rfl) ?_
    obtain ⟨r2, hr, h⟩ := bind_inv h
    refine OWk.CR (ls := []) (some 17) [(17, vI r2)] (guard_Guard_closed_ok hr) <| OWk.sg 21 H [] [7] 1 [(7, vI r2)] (by kernel_rfl) <| OWk.done (by kernel_rfl) <| thenS_n <| SW.seq <| SW.regionK <| OWk.sg 21 H [] [4, 5, 6] 6 [(4, vB (decide (r2 < 0))), (5, vI r2), (6, vI 0)] (by kernel_rfl) <| OWk.done (by kernel_rfl) <| thenS_n <| SW.ret ?_
    cases h
    exact EndQ.ret [] (by kernel_rfl) rfl
def r03_Index_l1 (fuel : Nat) (p0 : (List (List UInt8))) (p1 : (List UInt8)) (y1 : Int) : Option ((Int) ⊕ ((Unit) ⊕ ((Int)))) :=
  bif (decide (y1 < (p0.length : Int))) then
    (idx p0 y1).bind fun x2 =>
    bif (x2 == p1) then
      some (.inr (.inr y1))
    else
      some (.inl (IntKind.wrap .i64 (y1 + 1)))
  else
    some (.inr (.inl ()))
def r03_Index (fuel : Nat) (p0 : (List (List UInt8))) (p1 : (List UInt8)) : Option (Int) :=
  (iter (r03_Index_l1 fuel p0 p1) fuel 0).bind (Sum.elim (fun v4 =>
    some (-1)) (fun r5 =>
    some r5))
def Z111 : SV := .own 1 (List.map D.str ([] : List (List UInt8)))
def Z112 (x0 : Deed) : SV := .own 1 (List.map D.str (([] : List (List UInt8)) ++ x0.Keys))
def Z113 (x0 : (List UInt8)) : SV := .own 1 (List.map D.str [x0])
def Z114 (x0 : Deed) (x1 : (List UInt8)) : SV := .own 1 (List.map D.str ((([] : List (List UInt8)) ++ x0.Keys) ++ [x1]))
def Z115 (x0 : Deed) (x1 : (List UInt8)) : SV := .box [vI x0.Verb, vS x0.On, .d (.list 1 (List.map D.str x0.Names)), .d (.list 3 (List.map encValue x0.Row)), .d (.list 1 (List.map D.str ((([] : List (List UInt8)) ++ x0.Keys) ++ [x1])))]
def Z116 (x0 : Deed) (x1 : (List UInt8)) : SV := .d (.list 1 (List.map D.str ((([] : List (List UInt8)) ++ x0.Keys) ++ [x1])))
def Z117 (x0 : Deed) (x1 : (List UInt8)) : SV := .d (.agg [.int .i64 x0.Verb, .str x0.On, .list 1 (List.map D.str x0.Names), .list 3 (List.map encValue x0.Row), .list 1 (List.map D.str ((([] : List (List UInt8)) ++ x0.Keys) ++ [x1]))])
def Z118 (x0 : Bool × Int × Int) (x1 : Bool × Int × Int) : SV := vB ((x0.2.2 == 0) && x1.1)
def Z119 (x0 : (List Privacy)) (x1 : Privacy) : SV := .own 3 (List.map encPrivacy ((([] : List Privacy) ++ x0) ++ [x1]))
def Z120 (x0 : (List Privacy)) (x1 : Privacy) : SV := .d (.list 3 (List.map encPrivacy ((([] : List Privacy) ++ x0) ++ [x1])))
def Z121 (x0 : (((Option Nat) × Int) × Hp)) : SV := .tup [.d (cP.enc x0.1.1), vI x0.1.2]
def Z122 (x0 : Deed) : SV := .box [vI x0.Verb, vS x0.On, .d (.list 1 (List.map D.str x0.Names)), .d (.list 3 (List.map encValue x0.Row)), .d (.nilS)]
theorem r03_Index_ok {fuel : Nat} {p0 : (List (List UInt8))} {p1 : (List UInt8)} {r : Int} (h : r03_Index fuel p0 p1 = some r) : PC Tryz.prog 18 [.d (.list 1 (List.map D.str p0)), vS p1] (vI r) := by
  refine PC.of_SW Tryz.func18 rfl fun H => ?_
  unfold r03_Index at h
  refine SW.kp 19 H [0, 1] [(0, Z47 p0), (1, vS p1)] (by kernel_rfl) <| SW.seq <| SW.regionK <| OWk.sg 19 H [] [0, 1] 1 [(0, Z47 p0), (1, vS p1)] (by kernel_rfl) <| OWk.done (by kernel_rfl) <| thenS_n <| SW.seq <| SW.seq <| SW.regionK <| OWk.sg 19 H [] [0, 1, 5] 1 [(0, Z47 p0), (1, vS p1), (5, vI 0)] (by kernel_rfl) <| OWk.done (by kernel_rfl) <| thenS_n <| SW.block ?_
  obtain ⟨z3, hit, h⟩ := bind_inv h
  refine SW.it 19 H [0, 1, 5] (fun y1 => [(0, Z47 p0), (1, vS p1), (5, vI y1)]) (fun b e s => ((∃ v4, b = (.inl v4) ∧ (e = .exit 0 ∧ s = (sp 19 [] H))) ∨ (∃ r5, b = (.inr r5) ∧ (e = .ret ∧ EndQ Tryz.prog Tryz.f18.results.toList H (vI r5) .ret s)))) hit (by kernel_rfl) (fun y1 o h => ?_) ?_
  · unfold r03_Index_l1 at h
    refine SW.seq <| SW.seq <| SW.regionK <| OWk.sg 19 H [] [0, 1, 5, 6, 7] 2 [(0, Z47 p0), (1, vS p1), (5, vI y1), (6, vI y1), (7, Z47 p0)] (by kernel_rfl) <| OWk.on 19 H (d := some 8) [0, 1, 5, 6, 8] [(0, Z47 p0), (1, vS p1), (5, vI y1), (6, vI y1), (8, vI (p0.length : Int))] (BAt.len (enc := D.str) (xs := p0) (by kernel_rfl)) (by kernel_rfl) <| OWk.sg 19 H [] [0, 1, 5, 9] 1 [(0, Z47 p0), (1, vS p1), (5, vI y1), (9, Z50 y1 p0)] (by kernel_rfl) <| OWk.done (by kernel_rfl) <| thenS_n ?_
    refine SW.condB (b := (decide (y1 < (p0.length : Int)))) (by kernel_rfl) (fun hc => ?_) (fun hc => ?_)
    · replace h := bif_t hc h
      refine SW.skip <| thenS_n <| SW.seq <| SW.block <| SW.seq <| SW.regionK <| OWk.sg 19 H [] [0, 1, 5, 12, 13] 2 [(0, Z47 p0), (1, vS p1), (5, vI y1), (12, Z47 p0), (13, vI y1)] (by kernel_rfl) ?_
      obtain ⟨x2, hx, h⟩ := bind_inv h
      refine OWk.on 19 H (d := some 14) (s := lendP none (Go.Sh.D.cells (D.str x2))) [0, 1, 5, 14] [(0, Z47 p0), (1, vS p1), (5, vI y1), (14, .d (.dptr [.str x2]))] (BAt.index (n := 1) hx (by kernel_rfl)) (by kernel_rfl) <| OWk.sg 19 H [] [0, 1, 5, 17] 3 [(0, Z47 p0), (1, vS p1), (5, vI y1), (17, vB (x2 == p1))] (by kernel_rfl) <| OWk.done (by kernel_rfl) <| thenS_n ?_
      refine SW.condB (b := (x2 == p1)) (by kernel_rfl) (fun hc => ?_) (fun hc => ?_)
      · replace h := bif_t hc h
        refine SW.seq <| SW.regionK <| OWk.sg 19 H [] [4] 2 [(4, vI y1)] (by kernel_rfl) <| OWk.done (by kernel_rfl) <| thenS_n <| SW.ret <| blockS_r <| thenS_r ?_
        cases h
        refine thenS_r ?_
        exact ⟨_, rfl, .inr (⟨y1, rfl, rfl, EndQ.ret [] (by kernel_rfl) rfl⟩)⟩
      · replace h := bif_f hc h
        refine SW.skip <| blockS_n <| thenS_n <| SW.regionK <| OWk.sg 19 H [] [0, 1, 5] 3 [(0, Z47 p0), (1, vS p1), (5, Z44 y1)] (by kernel_rfl) <| OWk.done (by kernel_rfl) ?_
        cases h
        exact ⟨(IntKind.wrap .i64 (y1 + 1)), rfl, by kernel_rfl⟩
    · replace h := bif_f hc h
      refine SW.kp 19 H [] [] (by kernel_rfl) <| SW.exit <| thenS_e ?_
      cases h
      refine thenS_e ?_
      exact ⟨_, rfl, .inl ⟨(), rfl, rfl, rfl⟩⟩
  · rintro _ _ (⟨v4, rfl, rfl, rfl⟩ | ⟨r5, rfl, rfl, hE⟩)
    · replace h := sum_l h
      refine blockS_hit <| thenS_n <| SW.seq <| SW.regionK <| OWk.sg 19 H [] [4] 1 [(4, vI (-1))] (by kernel_rfl) <| OWk.done (by kernel_rfl) <| thenS_n <| SW.ret ?_
      cases h
      exact EndQ.ret [] (by kernel_rfl) rfl
    · replace h := sum_r h
      refine blockS_r <| thenS_r ?_
      cases h
      exact hE
def r03_Has (fuel : Nat) (p0 : (List (List UInt8))) (p1 : (List UInt8)) : Option (Bool) :=
  (r03_Index fuel p0 p1).bind fun r1 =>
  some (decide (r1 ≥ 0))
theorem r03_Has_ok {fuel : Nat} {p0 : (List (List UInt8))} {p1 : (List UInt8)} {r : Bool} (h : r03_Has fuel p0 p1 = some r) : PC Tryz.prog 9 [.d (.list 1 (List.map D.str p0)), vS p1] (vB r) := by
  refine PC.of_SW Tryz.func9 rfl fun H => ?_
  unfold r03_Has at h
  refine SW.kp 9 H [0, 1] [(0, Z47 p0), (1, vS p1)] (by kernel_rfl) <| SW.seq <| SW.regionK <| OWk.sg 9 H [] [0, 1] 1 [(0, Z47 p0), (1, vS p1)] (by kernel_rfl) <| OWk.done (by kernel_rfl) <| thenS_n <| SW.seq <| SW.regionK <| OWk.sg 9 H [] [5, 6] 2 [(5, Z47 p0), (6, vS p1)] (by kernel_rfl) ?_
  obtain ⟨r1, hr, h⟩ := bind_inv h
  refine OWk.cl 9 H (d := some 7) (ls := []) (gs := []) [] [7] [(7, vI r1)] (r03_Index_ok hr) (by kernel_rfl) (by kernel_rfl) (by kernel_rfl) <| OWk.sg 9 H [] [4] 2 [(4, vB (decide (r1 ≥ 0)))] (by kernel_rfl) <| OWk.done (by kernel_rfl) <| thenS_n <| SW.ret ?_
  cases h
  exact EndQ.ret [] (by kernel_rfl) rfl
theorem encPrivacy_np (x : Privacy) : noPtr (encPrivacy x) = true := by simp [encPrivacy, noPtr, noPtrs]
theorem encValue_np (x : Value) : noPtr (encValue x) = true := by simp [encValue, noPtr, noPtrs]
theorem encDeed_np (x : Deed) : noPtr (encDeed x) = true := by simp [encDeed, noPtr, noPtrs, noPtrs_map (f := D.str) (fun _ => rfl), noPtrs_map (f := encValue) encValue_np, noPtrs_map (f := D.str) (fun _ => rfl)]
def l_GuardOpens_l1 (fuel : Nat) (p0 : (List Privacy)) (y21 : Int × (List UInt8) × (List (List UInt8)) × (List Value) × (List (List UInt8)) × Int × Hp) : Option ((Int × (List UInt8) × (List (List UInt8)) × (List Value) × (List (List UInt8)) × Int × Hp) ⊕ (Int × (List UInt8) × (List (List UInt8)) × (List Value) × (List (List UInt8)) × Hp)) :=
  bif (decide (y21.2.2.2.2.2.1 < (p0.length : Int))) then
    (idx p0 y21.2.2.2.2.2.1).bind fun x22 =>
    (r03_Has fuel y21.2.2.2.2.1 x22.Key).bind fun r23 =>
    bif (!r23) then
      (idx p0 y21.2.2.2.2.2.1).bind fun x24 =>
      chk (decide ((y21.2.2.2.2.1 ++ [x24.Key]).length ≤ room)) <|
      some (.inl (y21.1, y21.2.1, y21.2.2.1, y21.2.2.2.1, (y21.2.2.2.2.1 ++ [x24.Key]), (IntKind.wrap .i64 (y21.2.2.2.2.2.1 + 1)), y21.2.2.2.2.2.2))
    else
      some (.inl (y21.1, y21.2.1, y21.2.2.1, y21.2.2.2.1, y21.2.2.2.2.1, (IntKind.wrap .i64 (y21.2.2.2.2.2.1 + 1)), y21.2.2.2.2.2.2))
  else
    some (.inr (y21.1, y21.2.1, y21.2.2.1, y21.2.2.2.1, y21.2.2.2.2.1, y21.2.2.2.2.2.2))
def l_GuardOpens (fuel : Nat) (p0 : (List Privacy)) (p1 : Privacy) (p2 : Deed) (p3 : (List UInt8)) : Option (Bool) :=
  letJ (fun (j1 : Bool) =>
    bif j1 then
      (l_awake fuel).bind fun r5 =>
      some r5
    else
      (guard_New fuel [] p0 []).bind fun r6 =>
      bif (r6.1.2 != 0) then
        (l_awake fuel).bind fun r7 =>
        some r7
      else
        r6.1.1.bind fun i8 =>
        (guard_Guard_Open fuel i8 p2 r6.2).bind fun r9 =>
        bif (r9.2.2 != 0) then
          (l_awake fuel).bind fun r10 =>
          some r10
        else
          chk (decide ((([] : List (List UInt8)) ++ p2.Keys).length ≤ room)) <|
          chk (decide (((([] : List (List UInt8)) ++ p2.Keys) ++ [p3]).length ≤ room)) <|
          (guard_Guard_Open fuel i8 (⟨p2.Verb, p2.On, p2.Names, p2.Row, ((([] : List (List UInt8)) ++ p2.Keys) ++ [p3])⟩ : Deed) r6.2).bind fun r11 =>
          bif (((r11.2.2 == 0) && r9.1) && (!r11.1)) then
            some false
          else
            letJ (fun (j12 : Hp) =>
              (iter (l_GuardOpens_l1 fuel p0) fuel (p2.Verb, p2.On, p2.Names, p2.Row, ([] : List (List UInt8)), 0, j12)).bind fun v27 =>
              bif (decide ((v27.2.2.2.2.1.length : Int) ≤ 20)) then
                (guard_Guard_Open fuel i8 (⟨v27.1, v27.2.1, v27.2.2.1, v27.2.2.2.1, v27.2.2.2.2.1⟩ : Deed) v27.2.2.2.2.2).bind fun r28 =>
                bif (((r28.2.2 != 0) || (!r28.1)) || (r28.2.1 != (-1))) then
                  some false
                else
                  (l_awake fuel).bind fun r29 =>
                  some r29
              else
                (l_awake fuel).bind fun r30 =>
                some r30) fun jp13 =>
            letJ (fun (j14 : (Option Nat) × Int × Hp) =>
              bif (j14.2.1 == 0) then
                j14.1.bind fun i19 =>
                (guard_Guard_Open fuel i19 p2 j14.2.2).bind fun r20 =>
                bif (r20.1 && (!r9.1)) then
                  some false
                else
                  jp13 j14.2.2
              else
                jp13 j14.2.2) fun jp15 =>
            chk (decide ((([] : List Privacy) ++ p0).length ≤ room)) <|
            chk (decide (((([] : List Privacy) ++ p0) ++ [p1]).length ≤ room)) <|
            (guard_New fuel [] ((([] : List Privacy) ++ p0) ++ [p1]) r6.2).bind fun r18 =>
            jp15 (r18.1.1, r18.1.2, r18.2)) fun jp2 =>
  chk (decide (([p1] ++ p0).length ≤ room)) <|
  (l_light fuel [] ([p1] ++ p0)).bind fun r3 =>
  bif (!r3) then
    jp2 true
  else
    (l_deed fuel p2).bind fun r4 =>
    bif (!r4) then
      jp2 true
    else
      jp2 (decide ((p3.length : Int) > 100))
def Z123 (x0 : Privacy) : SV := .own 1 (List.map D.str [x0.Key])
def Z126 (x0 : Deed) : SV := .box [vI x0.Verb, vS x0.On, .d (.list 1 (List.map D.str x0.Names)), .d (.list 3 (List.map encValue x0.Row)), .own 1 (List.map D.str ([] : List (List UInt8)))]
def Z127 (x0 : Int × (List UInt8) × (List (List UInt8)) × (List Value) × (List (List UInt8)) × Int × Hp) : SV := .box [vI x0.1, vS x0.2.1, .d (.list 1 (List.map D.str x0.2.2.1)), .d (.list 3 (List.map encValue x0.2.2.2.1)), .own 1 (List.map D.str x0.2.2.2.2.1)]
def Z128 (x0 : Int × (List UInt8) × (List (List UInt8)) × (List Value) × (List (List UInt8)) × Int × Hp) (x1 : (List Privacy)) : SV := vB (decide (x0.2.2.2.2.2.1 < (x1.length : Int)))
def Z129 (x0 : Int × (List UInt8) × (List (List UInt8)) × (List Value) × (List (List UInt8)) × Int × Hp) : SV := .lent (.cell 22 4) 1 (List.map D.str x0.2.2.2.2.1)
def Z130 (x0 : Privacy) : SV := .d (.dptr [.int .i64 x0.Verb, .str x0.On, .str x0.Key])
def Z131 (x0 : Privacy) : SV := .d (.dptr [.str x0.Key])
def Z132 (x0 : Int × (List UInt8) × (List (List UInt8)) × (List Value) × (List (List UInt8)) × Int × Hp) : SV := .box [vI x0.1, vS x0.2.1, .d (.list 1 (List.map D.str x0.2.2.1)), .d (.list 3 (List.map encValue x0.2.2.2.1)), .undef]
def Z133 (x0 : Int × (List UInt8) × (List (List UInt8)) × (List Value) × (List (List UInt8)) × Int × Hp) : SV := .own 1 (List.map D.str x0.2.2.2.2.1)
def Z134 (x0 : Int × (List UInt8) × (List (List UInt8)) × (List Value) × (List (List UInt8)) × Int × Hp) (x1 : Privacy) : SV := .box [vI x0.1, vS x0.2.1, .d (.list 1 (List.map D.str x0.2.2.1)), .d (.list 3 (List.map encValue x0.2.2.2.1)), .own 1 (List.map D.str (x0.2.2.2.2.1 ++ [x1.Key]))]
def Z135 (x0 : Int × (List UInt8) × (List (List UInt8)) × (List Value) × (List (List UInt8)) × Int × Hp) (x1 : Privacy) : SV := .own 1 (List.map D.str (x0.2.2.2.2.1 ++ [x1.Key]))
def Z136 (x0 : Int × (List UInt8) × (List (List UInt8)) × (List Value) × (List (List UInt8)) × Int × Hp) : SV := vI (IntKind.wrap .i64 (x0.2.2.2.2.2.1 + 1))
def Z137 (x0 : Int × (List UInt8) × (List (List UInt8)) × (List Value) × (List (List UInt8)) × Hp) : SV := .box [vI x0.1, vS x0.2.1, .d (.list 1 (List.map D.str x0.2.2.1)), .d (.list 3 (List.map encValue x0.2.2.2.1)), .own 1 (List.map D.str x0.2.2.2.2.1)]
def Z138 (x0 : Int × (List UInt8) × (List (List UInt8)) × (List Value) × (List (List UInt8)) × Hp) : SV := .lent (.cell 22 4) 1 (List.map D.str x0.2.2.2.2.1)
def Z139 (x0 : Int × (List UInt8) × (List (List UInt8)) × (List Value) × (List (List UInt8)) × Hp) : SV := vB (decide ((x0.2.2.2.2.1.length : Int) ≤ 20))
def Z140 (x0 : Int × (List UInt8) × (List (List UInt8)) × (List Value) × (List (List UInt8)) × Hp) : SV := vI (x0.2.2.2.2.1.length : Int)
def Z141 (x0 : Int × (List UInt8) × (List (List UInt8)) × (List Value) × (List (List UInt8)) × Hp) : SV := .box [vI x0.1, vS x0.2.1, .d (.list 1 (List.map D.str x0.2.2.1)), .d (.list 3 (List.map encValue x0.2.2.2.1)), .d (.list 1 (List.map D.str x0.2.2.2.2.1))]
def Z142 (x0 : Int × (List UInt8) × (List (List UInt8)) × (List Value) × (List (List UInt8)) × Hp) : SV := .d (.agg [.int .i64 x0.1, .str x0.2.1, .list 1 (List.map D.str x0.2.2.1), .list 3 (List.map encValue x0.2.2.2.1), .list 1 (List.map D.str x0.2.2.2.2.1)])
def Z143 (x0 : Bool × Int × Int) : SV := vB ((x0.2.2 != 0) || (!x0.1))
theorem l_GuardOpens_ok {fuel : Nat} {p0 : (List Privacy)} {p1 : Privacy} {p2 : Deed} {p3 : (List UInt8)} {r : Bool} (h : l_GuardOpens fuel p0 p1 p2 p3 = some r) : PC Tryz.prog 3 [.d (.list 3 (List.map encPrivacy p0)), .d (encPrivacy p1), .d (encDeed p2), vS p3] (vB r) := by
  refine PC.of_localSW Tryz.func3 rfl (by simp [noPtrSV, noPtr, noPtrs, vI, vB, vS, noPtrs_map (f := encPrivacy) encPrivacy_np, encPrivacy_np, encDeed_np]) (by simp [noPtrSV, noPtr, noPtrs, vI, vB, vS]) ?_
  unfold l_GuardOpens at h
  refine SW.kp 160 [] [0, 1, 2, 3] [(0, Z0 p0), (1, Z60 p1), (2, Z29 p2), (3, vS p3)] (by kernel_rfl) <| SW.seq <| SW.regionK <| OWk.sg 160 [] [] [0, 3, 5, 6] 3 [(0, Z0 p0), (3, vS p3), (5, Z1 p1), (6, Z2 p2)] (by kernel_rfl) <| OWk.done (by kernel_rfl) <| thenS_n <| SW.seq ?_
  obtain ⟨jp2, hjjp2, h⟩ := letJ_inv h
  refine SW.jn 160 [] [0, 3, 5, 6, 42] (fun (j1 : Bool) => [(0, Z0 p0), (3, vS p3), (5, Z1 p1), (6, Z2 p2), (42, vB j1)]) (fun v => jp2 v = some r) (fun j1 h => ?_) ?_
  · rw [hjjp2] at h
    refine SW.condB (b := j1) (by kernel_rfl) (fun hc => ?_) (fun hc => ?_)
    · replace h := bif_t hc h
      refine SW.seq <| SW.regionK ?_
      obtain ⟨r5, hr, h⟩ := bind_inv h
      refine OWk.cl 160 [] (d := some 43) (ls := []) (gs := []) [] [43] [(43, vB r5)] (l_awake_ok hr) (by kernel_rfl) (by kernel_rfl) (by kernel_rfl) <| OWk.sg 160 [] [] [8] 1 [(8, vB r5)] (by kernel_rfl) <| OWk.done (by kernel_rfl) <| thenS_n <| SW.ret <| thenS_r ?_
      cases h
      exact EndL.ret [] (by kernel_rfl)
    · replace h := bif_f hc h
      refine SW.skip <| thenS_n <| SW.seq <| SW.regionK <| OWk.sg 160 [] [] [0, 3, 5, 6, 45] 1 [(0, Z0 p0), (3, vS p3), (5, Z1 p1), (6, Z2 p2), (45, Z0 p0)] (by kernel_rfl) ?_
      obtain ⟨r6, hr, h⟩ := bind_inv h
      refine OWk.CH (some 46) [(0, Z0 p0), (3, vS p3), (5, Z1 p1), (6, Z2 p2), (46, .tup [.d (cP.enc r6.1.1), vI r6.1.2])] (guard_New_ok hr) <| OWk.sg 160 r6.2 [] [0, 3, 5, 6, 9, 10] 5 [(0, Z0 p0), (3, vS p3), (5, Z1 p1), (6, Z2 p2), (9, .d (cP.enc r6.1.1)), (10, vI r6.1.2)] (by kernel_rfl) <| OWk.done (by kernel_rfl) <| thenS_n <| SW.seq <| SW.seq <| SW.regionK <| OWk.sg 160 r6.2 [] [0, 3, 5, 6, 9, 50] 2 [(0, Z0 p0), (3, vS p3), (5, Z1 p1), (6, Z2 p2), (9, .d (cP.enc r6.1.1)), (50, vB (r6.1.2 != 0))] (by kernel_rfl) <| OWk.done (by kernel_rfl) <| thenS_n ?_
      refine SW.condB (b := (r6.1.2 != 0)) (by kernel_rfl) (fun hc => ?_) (fun hc => ?_)
      · replace h := bif_t hc h
        refine SW.seq <| SW.regionK ?_
        obtain ⟨r7, hr, h⟩ := bind_inv h
        refine OWk.cl 160 r6.2 (d := some 51) (ls := []) (gs := []) [] [51] [(51, vB r7)] (l_awake_ok hr) (by kernel_rfl) (by kernel_rfl) (by kernel_rfl) <| OWk.sg 160 r6.2 [] [8] 1 [(8, vB r7)] (by kernel_rfl) <| OWk.done (by kernel_rfl) <| thenS_n <| SW.ret <| thenS_r ?_
        cases h
        exact EndL.ret [] (by kernel_rfl)
      · replace h := bif_f hc h
        refine SW.skip <| thenS_n <| SW.seq <| SW.regionK <| OWk.sg 160 r6.2 [] [0, 3, 5, 6, 9, 53, 54] 2 [(0, Z0 p0), (3, vS p3), (5, Z1 p1), (6, Z2 p2), (9, .d (cP.enc r6.1.1)), (53, .d (cP.enc r6.1.1)), (54, Z29 p2)] (by kernel_rfl) ?_
        obtain ⟨i8, hp_i8, h⟩ := bind_inv h
        refine OWk.asP r6.1.1 (fun p => (sp 160 [(0, Z0 p0), (3, vS p3), (5, Z1 p1), (6, Z2 p2), (9, .d (cP.enc p)), (53, .d (cP.enc p)), (54, Z29 p2)] r6.2)) (by kernel_rfl) hp_i8 ?_
        obtain ⟨r9, hr, h⟩ := bind_inv h
        refine OWk.CR (ls := []) (some 55) [(0, Z0 p0), (3, vS p3), (5, Z1 p1), (6, Z2 p2), (9, .d (.ptr i8 0)), (55, .tup [vB r9.1, vI r9.2.1, vI r9.2.2])] (guard_Guard_Open_ok hr) <| OWk.sg 160 r6.2 [] [0, 3, 5, 6, 9, 10, 11] 7 [(0, Z0 p0), (3, vS p3), (5, Z1 p1), (6, Z2 p2), (9, .d (.ptr i8 0)), (10, vI r9.2.2), (11, vB r9.1)] (by kernel_rfl) <| OWk.done (by kernel_rfl) <| thenS_n <| SW.seq <| SW.seq <| SW.regionK <| OWk.sg 160 r6.2 [] [0, 3, 5, 6, 9, 11, 60] 2 [(0, Z0 p0), (3, vS p3), (5, Z1 p1), (6, Z2 p2), (9, .d (.ptr i8 0)), (11, vB r9.1), (60, vB (r9.2.2 != 0))] (by kernel_rfl) <| OWk.done (by kernel_rfl) <| thenS_n ?_
        refine SW.condB (b := (r9.2.2 != 0)) (by kernel_rfl) (fun hc => ?_) (fun hc => ?_)
        · replace h := bif_t hc h
          refine SW.seq <| SW.regionK ?_
          obtain ⟨r10, hr, h⟩ := bind_inv h
          refine OWk.cl 160 r6.2 (d := some 61) (ls := []) (gs := []) [] [61] [(61, vB r10)] (l_awake_ok hr) (by kernel_rfl) (by kernel_rfl) (by kernel_rfl) <| OWk.sg 160 r6.2 [] [8] 1 [(8, vB r10)] (by kernel_rfl) <| OWk.done (by kernel_rfl) <| thenS_n <| SW.ret <| thenS_r ?_
          cases h
          exact EndL.ret [] (by kernel_rfl)
        · replace h := bif_f hc h
          refine SW.skip <| thenS_n <| SW.seq <| SW.regionK <| OWk.sg 160 r6.2 [] [0, 3, 5, 6, 9, 11, 13] 3 [(0, Z0 p0), (3, vS p3), (5, Z1 p1), (6, Z2 p2), (9, .d (.ptr i8 0)), (11, vB r9.1), (13, Z2 p2)] (by kernel_rfl) <| OWk.done (by kernel_rfl) <| thenS_n <| SW.seq <| SW.regionK <| OWk.sg 160 r6.2 [63, 66] [0, 3, 5, 6, 9, 11, 13, 63, 65] 3 [(0, Z0 p0), (3, vS p3), (5, Z1 p1), (6, Z2 p2), (9, .d (.ptr i8 0)), (11, vB r9.1), (13, Z2 p2), (63, Z111), (65, Z30 p2)] (by kernel_rfl) ?_
          obtain ⟨hk, h⟩ := chk_inv h
          refine OWk.app 160 r6.2 (s := 63) (d := 66) (w := 1) [0, 3, 5, 6, 9, 11, 13, 66] (zs := List.map D.str (([] : List (List UInt8)) ++ p2.Keys)) [(0, Z0 p0), (3, vS p3), (5, Z1 p1), (6, Z2 p2), (9, .d (.ptr i8 0)), (11, vB r9.1), (13, Z2 p2), (66, Z112 p2)] (ys := (List.map D.str p2.Keys)) (by kernel_rfl) (map_append') (room_map hk) (by kernel_rfl) <| OWk.sg 160 r6.2 [63, 66] [0, 5, 6, 9, 11, 13, 66, 68] 2 [(0, Z0 p0), (5, Z1 p1), (6, Z2 p2), (9, .d (.ptr i8 0)), (11, vB r9.1), (13, Z2 p2), (66, Z112 p2), (68, Z113 p3)] (by kernel_rfl) ?_
          obtain ⟨hk, h⟩ := chk_inv h
          refine OWk.app 160 r6.2 (s := 66) (d := 69) (w := 1) [0, 5, 6, 9, 11, 13, 69] (zs := List.map D.str ((([] : List (List UInt8)) ++ p2.Keys) ++ [p3])) [(0, Z0 p0), (5, Z1 p1), (6, Z2 p2), (9, .d (.ptr i8 0)), (11, vB r9.1), (13, Z2 p2), (69, Z114 p2 p3)] (ys := (List.map D.str [p3])) (by kernel_rfl) (map_append') (room_map hk) (by kernel_rfl) <| OWk.sg 160 r6.2 [63, 66] [0, 5, 6, 9, 11, 13, 69, 70] 1 [(0, Z0 p0), (5, Z1 p1), (6, Z2 p2), (9, .d (.ptr i8 0)), (11, vB r9.1), (13, Z2 p2), (69, Z114 p2 p3), (70, .loc 13 4)] (by kernel_rfl) <| OWk.fz 160 r6.2 69 [0, 5, 6, 9, 11, 13, 69, 70] [(0, Z0 p0), (5, Z1 p1), (6, Z2 p2), (9, .d (.ptr i8 0)), (11, vB r9.1), (13, Z2 p2), (69, Z116 p2 p3), (70, .loc 13 4)] (by kernel_rfl) <| OWk.sg 160 r6.2 [63, 66] [0, 5, 6, 9, 11, 13] 1 [(0, Z0 p0), (5, Z1 p1), (6, Z2 p2), (9, .d (.ptr i8 0)), (11, vB r9.1), (13, Z115 p2 p3)] (by kernel_rfl) <| OWk.done (by kernel_rfl) <| thenS_n <| SW.seq <| SW.seq <| SW.regionK <| OWk.sg 160 r6.2 [] [0, 5, 6, 9, 11, 72, 73] 2 [(0, Z0 p0), (5, Z1 p1), (6, Z2 p2), (9, .d (.ptr i8 0)), (11, vB r9.1), (72, .d (.ptr i8 0)), (73, Z117 p2 p3)] (by kernel_rfl) ?_
          obtain ⟨r11, hr, h⟩ := bind_inv h
          refine OWk.CR (ls := []) (some 74) [(0, Z0 p0), (5, Z1 p1), (6, Z2 p2), (9, .d (.ptr i8 0)), (11, vB r9.1), (74, .tup [vB r11.1, vI r11.2.1, vI r11.2.2])] (guard_Guard_Open_ok hr) <| OWk.sg 160 r6.2 [] [0, 5, 6, 9, 11, 14, 16] 7 [(0, Z0 p0), (5, Z1 p1), (6, Z2 p2), (9, .d (.ptr i8 0)), (11, vB r9.1), (14, vB r11.1), (16, vI r11.2.2)] (by kernel_rfl) <| OWk.done (by kernel_rfl) <| thenS_n <| SW.seq <| SW.regionK <| OWk.sg 160 r6.2 [] [0, 5, 6, 9, 11, 14, 80] 3 [(0, Z0 p0), (5, Z1 p1), (6, Z2 p2), (9, .d (.ptr i8 0)), (11, vB r9.1), (14, vB r11.1), (80, vB (r11.2.2 == 0))] (by kernel_rfl) <| OWk.mg 160 r6.2 [0, 5, 6, 9, 11, 14, 82] 2 (r11.2.2 == 0) (fun b => (sp 160 [(0, Z0 p0), (5, Z1 p1), (6, Z2 p2), (9, .d (.ptr i8 0)), (11, vB r9.1), (14, vB r11.1), (80, vB b)] r6.2)) (fun b => [(0, Z0 p0), (5, Z1 p1), (6, Z2 p2), (9, .d (.ptr i8 0)), (11, vB r9.1), (14, vB r11.1), (82, vB (b && r9.1))]) (by kernel_rfl) (by kernel_rfl) (by kernel_rfl) <| OWk.sg 160 r6.2 [] [0, 5, 6, 9, 11, 14, 83] 1 [(0, Z0 p0), (5, Z1 p1), (6, Z2 p2), (9, .d (.ptr i8 0)), (11, vB r9.1), (14, vB r11.1), (83, Z118 r11 r9)] (by kernel_rfl) <| OWk.mg 160 r6.2 [0, 5, 6, 9, 11, 86] 3 ((r11.2.2 == 0) && r9.1) (fun b => (sp 160 [(0, Z0 p0), (5, Z1 p1), (6, Z2 p2), (9, .d (.ptr i8 0)), (11, vB r9.1), (14, vB r11.1), (83, vB b)] r6.2)) (fun b => [(0, Z0 p0), (5, Z1 p1), (6, Z2 p2), (9, .d (.ptr i8 0)), (11, vB r9.1), (86, vB (b && (!r11.1)))]) (by kernel_rfl) (by kernel_rfl) (by kernel_rfl) <| OWk.done (by kernel_rfl) <| thenS_n ?_
          refine SW.condB (b := (((r11.2.2 == 0) && r9.1) && (!r11.1))) (by kernel_rfl) (fun hc => ?_) (fun hc => ?_)
          · replace h := bif_t hc h
            refine SW.seq <| SW.regionK <| OWk.sg 160 r6.2 [] [8] 1 [(8, vB false)] (by kernel_rfl) <| OWk.done (by kernel_rfl) <| thenS_n <| SW.ret <| thenS_r ?_
            cases h
            exact EndL.ret [] (by kernel_rfl)
          · replace h := bif_f hc h
            refine SW.skip <| thenS_n ?_
            obtain ⟨jp13, hjjp13, h⟩ := letJ_inv h
            refine SW.jnH 160 [0, 6, 9] (fun (j12 : Hp) => [(0, Z0 p0), (6, Z2 p2), (9, .d (.ptr i8 0))]) (fun (j12 : Hp) => j12) (fun v => jp13 v = some r) (fun j12 h => ?_) ?_
            · rw [hjjp13] at h
              refine SW.seq <| SW.regionK <| OWk.sg 160 j12 [] [0, 9, 22] 3 [(0, Z0 p0), (9, .d (.ptr i8 0)), (22, Z2 p2)] (by kernel_rfl) <| OWk.done (by kernel_rfl) <| thenS_n <| SW.seq <| SW.regionK <| OWk.sg 160 j12 [] [0, 9, 22] 2 [(0, Z0 p0), (9, .d (.ptr i8 0)), (22, Z122 p2)] (by kernel_rfl) <| OWk.done (by kernel_rfl) <| thenS_n <| SW.seq <| SW.seq <| SW.regionK <| OWk.sg 160 j12 [] [0, 9, 22, 23] 1 [(0, Z0 p0), (9, .d (.ptr i8 0)), (22, Z122 p2), (23, vI 0)] (by kernel_rfl) <| OWk.done (by kernel_rfl) <| thenS_n <| SW.block ?_
              obtain ⟨v27, hit, h⟩ := bind_inv h
              refine SW.nilO 22 4 1 160 j12 [0, 9, 22, 23] [(0, Z0 p0), (9, .d (.ptr i8 0)), (22, Z126 p2), (23, vI 0)] (by kernel_rfl) ?_
              refine SW.itH 160 [0, 9, 22, 23] (fun y21 => [(0, Z0 p0), (9, .d (.ptr i8 0)), (22, .box [vI y21.1, vS y21.2.1, .d (.list 1 (List.map D.str y21.2.2.1)), .d (.list 3 (List.map encValue y21.2.2.2.1)), .own 1 (List.map D.str y21.2.2.2.2.1)]), (23, vI y21.2.2.2.2.2.1)]) (fun y21 => y21.2.2.2.2.2.2) (fun v27 e s => (e = .exit 0 ∧ s = (sp 160 [(9, .d (.ptr i8 0)), (22, .box [vI v27.1, vS v27.2.1, .d (.list 1 (List.map D.str v27.2.2.1)), .d (.list 3 (List.map encValue v27.2.2.2.1)), .own 1 (List.map D.str v27.2.2.2.2.1)])] v27.2.2.2.2.2))) hit (by kernel_rfl) (fun y21 o h => ?_) ?_
              · unfold l_GuardOpens_l1 at h
                refine SW.seq <| SW.seq <| SW.regionK <| OWk.sg 160 y21.2.2.2.2.2.2 [] [0, 9, 22, 23, 113, 114] 2 [(0, Z0 p0), (9, .d (.ptr i8 0)), (22, Z127 y21), (23, vI y21.2.2.2.2.2.1), (113, vI y21.2.2.2.2.2.1), (114, Z0 p0)] (by kernel_rfl) <| OWk.on 160 y21.2.2.2.2.2.2 (d := some 115) [0, 9, 22, 23, 113, 115] [(0, Z0 p0), (9, .d (.ptr i8 0)), (22, Z127 y21), (23, vI y21.2.2.2.2.2.1), (113, vI y21.2.2.2.2.2.1), (115, vI (p0.length : Int))] (BAt.len (enc := encPrivacy) (xs := p0) (by kernel_rfl)) (by kernel_rfl) <| OWk.sg 160 y21.2.2.2.2.2.2 [] [0, 9, 22, 23, 116] 1 [(0, Z0 p0), (9, .d (.ptr i8 0)), (22, Z127 y21), (23, vI y21.2.2.2.2.2.1), (116, Z128 y21 p0)] (by kernel_rfl) <| OWk.done (by kernel_rfl) <| thenS_n ?_
                refine SW.condB (b := (decide (y21.2.2.2.2.2.1 < (p0.length : Int)))) (by kernel_rfl) (fun hc => ?_) (fun hc => ?_)
                · replace h := bif_t hc h
                  refine SW.skip <| thenS_n <| SW.seq <| SW.block <| SW.seq <| SW.regionQ (by kernel_rfl) (by kernel_rfl) <| OQk.sg 160 y21.2.2.2.2.2.2 [] [0, 9, 22, 23, 120, 121, 122] 4 [(0, Z0 p0), (9, .d (.ptr i8 0)), (22, Z127 y21), (23, vI y21.2.2.2.2.2.1), (120, Z129 y21), (121, Z0 p0), (122, vI y21.2.2.2.2.2.1)] (by kernel_rfl) ?_
                  obtain ⟨x22, hx, h⟩ := bind_inv h
                  refine OQk.on 160 y21.2.2.2.2.2.2 (d := some 123) (s := lendP none (Go.Sh.D.cells (encPrivacy x22))) [0, 9, 22, 23, 120, 123] [(0, Z0 p0), (9, .d (.ptr i8 0)), (22, Z127 y21), (23, vI y21.2.2.2.2.2.1), (120, Z129 y21), (123, .d (.dptr [.int .i64 x22.Verb, .str x22.On, .str x22.Key]))] (BAt.index (n := 3) hx (by kernel_rfl)) (by kernel_rfl) <| OQk.sg 160 y21.2.2.2.2.2.2 [] [0, 9, 22, 23, 120, 125] 2 [(0, Z0 p0), (9, .d (.ptr i8 0)), (22, Z127 y21), (23, vI y21.2.2.2.2.2.1), (120, Z129 y21), (125, vS x22.Key)] (by kernel_rfl) ?_
                  obtain ⟨r23, hr, h⟩ := bind_inv h
                  refine OQk.cl 160 y21.2.2.2.2.2.2 (d := some 126) (ls := [(.cell 22 4)]) [0, 9, 22, 23, 126] [(0, Z0 p0), (9, .d (.ptr i8 0)), (22, Z127 y21), (23, vI y21.2.2.2.2.2.1), (126, vB r23)] (r03_Has_ok hr) (by kernel_rfl) (by kernel_rfl) (by kernel_rfl) <| OQk.sg 160 y21.2.2.2.2.2.2 [] [0, 9, 22, 23, 127] 1 [(0, Z0 p0), (9, .d (.ptr i8 0)), (22, Z127 y21), (23, vI y21.2.2.2.2.2.1), (127, vB (!r23))] (by kernel_rfl) <| OQk.done (by kernel_rfl) <| thenS_n ?_
                  refine SW.condB (b := (!r23)) (by kernel_rfl) (fun hc => ?_) (fun hc => ?_)
                  · replace h := bif_t hc h
                    obtain ⟨x24, hx24, h⟩ := bind_inv h
                    obtain ⟨hk25, h⟩ := chk_inv h
                    refine SW.kp 160 y21.2.2.2.2.2.2 [0, 9, 22, 23] [(0, Z0 p0), (9, .d (.ptr i8 0)), (22, Z127 y21), (23, vI y21.2.2.2.2.2.1)] (by kernel_rfl) ?_
                    refine SW.regXU 160 y21.2.2.2.2.2.2 [(0, Z0 p0), (9, .d (.ptr i8 0)), (22, Z134 y21 x24), (23, vI y21.2.2.2.2.2.1)] [2, 3, 4, 5, 0, 6] 5 125 (by kernel_rfl) (by kernel_rfl) (by kernel_rfl) (fun X hX => ?_) ?_
                    · have c2047 : X 0 2047 (sp 160 [(0, Z0 p0), (9, .d (.ptr i8 0)), (22, Z134 y21 x24), (23, vI y21.2.2.2.2.2.1)] y21.2.2.2.2.2.2) := by subst hX; exact OX.fin (by kernel_rfl)
                      have c1023 : X 1 1023 (sp 160 [(0, Z0 p0), (9, .d (.ptr i8 0)), (22, Z132 y21), (23, vI y21.2.2.2.2.2.1), (136, Z135 y21 x24), (137, .loc 22 4)] y21.2.2.2.2.2.2) := by
                        subst hX
                        refine OX.step (i0 := 10) (is := []) (by kernel_rfl) (by kernel_rfl) ⟨?_, trivial⟩
                        · refine OWk.gvC 160 y21.2.2.2.2.2.2 [0, 9, 22, 23] [(0, Z0 p0), (9, .d (.ptr i8 0)), (22, Z134 y21 x24), (23, vI y21.2.2.2.2.2.1)] (by kernel_rfl) <| OWk.done (by kernel_rfl) ?_
                          exact c2047
                      have c511 : X 2 511 (sp 160 [(0, Z0 p0), (9, .d (.ptr i8 0)), (22, Z132 y21), (23, vI y21.2.2.2.2.2.1), (136, Z135 y21 x24)] y21.2.2.2.2.2.2) := by
                        subst hX
                        refine OX.step (i0 := 9) (is := []) (by kernel_rfl) (by kernel_rfl) ⟨?_, trivial⟩
                        · refine OWk.sg 160 y21.2.2.2.2.2.2 [129] [0, 9, 22, 23, 136, 137] 1 [(0, Z0 p0), (9, .d (.ptr i8 0)), (22, Z132 y21), (23, vI y21.2.2.2.2.2.1), (136, Z135 y21 x24), (137, .loc 22 4)] (by kernel_rfl) <| OWk.done (by kernel_rfl) ?_
                          exact c1023
                      have c255 : X 3 255 (sp 160 [(0, Z0 p0), (9, .d (.ptr i8 0)), (22, Z132 y21), (23, vI y21.2.2.2.2.2.1), (129, Z133 y21), (135, Z123 x24)] y21.2.2.2.2.2.2) := by
                        subst hX
                        refine OX.step (i0 := 8) (is := []) (by kernel_rfl) (by kernel_rfl) ⟨?_, trivial⟩
                        · refine OWk.app 160 y21.2.2.2.2.2.2 (s := 129) (d := 136) (w := 1) [0, 9, 22, 23, 136] (zs := List.map D.str (y21.2.2.2.2.1 ++ [x24.Key])) [(0, Z0 p0), (9, .d (.ptr i8 0)), (22, Z132 y21), (23, vI y21.2.2.2.2.2.1), (136, Z135 y21 x24)] (ys := (List.map D.str [x24.Key])) (by kernel_rfl) (map_append') (room_map hk25) (by kernel_rfl) <| OWk.done (by kernel_rfl) ?_
                          exact c511
                      have c127 : X 4 127 (sp 160 [(0, Z0 p0), (9, .d (.ptr i8 0)), (22, Z132 y21), (23, vI y21.2.2.2.2.2.1), (129, Z133 y21), (134, vS x24.Key)] y21.2.2.2.2.2.2) := by
                        subst hX
                        refine OX.step (i0 := 7) (is := []) (by kernel_rfl) (by kernel_rfl) ⟨?_, trivial⟩
                        · refine OWk.sg 160 y21.2.2.2.2.2.2 [129] [0, 9, 22, 23, 129, 135] 1 [(0, Z0 p0), (9, .d (.ptr i8 0)), (22, Z132 y21), (23, vI y21.2.2.2.2.2.1), (129, Z133 y21), (135, Z123 x24)] (by kernel_rfl) <| OWk.done (by kernel_rfl) ?_
                          exact c255
                      have c253 : X 4 253 (sp 160 [(0, Z0 p0), (9, .d (.ptr i8 0)), (22, Z127 y21), (23, vI y21.2.2.2.2.2.1), (128, .loc 22 4), (135, Z123 x24)] y21.2.2.2.2.2.2) := by
                        subst hX
                        refine OX.step (i0 := 1) (is := []) (by kernel_rfl) (by kernel_rfl) ⟨?_, trivial⟩
                        · refine OWk.tkC 160 y21.2.2.2.2.2.2 [0, 9, 22, 23, 129, 135] [(0, Z0 p0), (9, .d (.ptr i8 0)), (22, Z132 y21), (23, vI y21.2.2.2.2.2.1), (129, Z133 y21), (135, Z123 x24)] (by kernel_rfl) <| OWk.done (by kernel_rfl) ?_
                          exact c255
                      have c125 : X 5 125 (sp 160 [(0, Z0 p0), (9, .d (.ptr i8 0)), (22, Z127 y21), (23, vI y21.2.2.2.2.2.1), (128, .loc 22 4), (134, vS x24.Key)] y21.2.2.2.2.2.2) := by
                        subst hX
                        refine OX.step (i0 := 1) (is := [7]) (by kernel_rfl) (by kernel_rfl) ⟨?_, ?_, trivial⟩
                        · refine OWk.tkC 160 y21.2.2.2.2.2.2 [0, 9, 22, 23, 129, 134] [(0, Z0 p0), (9, .d (.ptr i8 0)), (22, Z132 y21), (23, vI y21.2.2.2.2.2.1), (129, Z133 y21), (134, vS x24.Key)] (by kernel_rfl) <| OWk.done (by kernel_rfl) ?_
                          exact c127
                        · refine OWk.sg 160 y21.2.2.2.2.2.2 [129] [0, 9, 22, 23, 128, 135] 1 [(0, Z0 p0), (9, .d (.ptr i8 0)), (22, Z127 y21), (23, vI y21.2.2.2.2.2.1), (128, .loc 22 4), (135, Z123 x24)] (by kernel_rfl) <| OWk.done (by kernel_rfl) ?_
                          exact c253
                      refine OBuk.sg 160 y21.2.2.2.2.2.2 [0, 9, 22, 23, 130] [(0, Z0 p0), (9, .d (.ptr i8 0)), (22, Z127 y21), (23, vI y21.2.2.2.2.2.1), (130, Z0 p0)] (by kernel_rfl) <| OBuk.sg 160 y21.2.2.2.2.2.2 [0, 9, 22, 23, 130, 131] [(0, Z0 p0), (9, .d (.ptr i8 0)), (22, Z127 y21), (23, vI y21.2.2.2.2.2.1), (130, Z0 p0), (131, vI y21.2.2.2.2.2.1)] (by kernel_rfl) <| OBuk.on 160 y21.2.2.2.2.2.2 (d := some 132) (s := lendP none (Go.Sh.D.cells (encPrivacy x24))) [0, 9, 22, 23, 132] [(0, Z0 p0), (9, .d (.ptr i8 0)), (22, Z127 y21), (23, vI y21.2.2.2.2.2.1), (132, Z130 x24)] (BAt.index (n := 3) hx24 (by kernel_rfl)) (by kernel_rfl) <| OBuk.sg 160 y21.2.2.2.2.2.2 [0, 9, 22, 23, 133] [(0, Z0 p0), (9, .d (.ptr i8 0)), (22, Z127 y21), (23, vI y21.2.2.2.2.2.1), (133, Z131 x24)] (by kernel_rfl) <| OBuk.sg 160 y21.2.2.2.2.2.2 [0, 9, 22, 23, 128, 133] [(0, Z0 p0), (9, .d (.ptr i8 0)), (22, Z127 y21), (23, vI y21.2.2.2.2.2.1), (128, .loc 22 4), (133, Z131 x24)] (by kernel_rfl) <| OBuk.sg 160 y21.2.2.2.2.2.2 [0, 9, 22, 23, 128, 134] [(0, Z0 p0), (9, .d (.ptr i8 0)), (22, Z127 y21), (23, vI y21.2.2.2.2.2.1), (128, .loc 22 4), (134, vS x24.Key)] (by kernel_rfl) <| OBuk.done (by kernel_rfl) ?_
                      exact c125
                    refine blockS_n <| thenS_n <| SW.regionK <| OWk.sg 160 y21.2.2.2.2.2.2 [] [0, 9, 22, 23] 3 [(0, Z0 p0), (9, .d (.ptr i8 0)), (22, Z134 y21 x24), (23, Z136 y21)] (by kernel_rfl) <| OWk.done (by kernel_rfl) ?_
                    cases h
                    exact ⟨(y21.1, y21.2.1, y21.2.2.1, y21.2.2.2.1, (y21.2.2.2.2.1 ++ [x24.Key]), (IntKind.wrap .i64 (y21.2.2.2.2.2.1 + 1)), y21.2.2.2.2.2.2), rfl, by kernel_rfl⟩
                  · replace h := bif_f hc h
                    refine SW.skip <| blockS_n <| thenS_n <| SW.regionK <| OWk.sg 160 y21.2.2.2.2.2.2 [] [0, 9, 22, 23] 3 [(0, Z0 p0), (9, .d (.ptr i8 0)), (22, Z127 y21), (23, Z136 y21)] (by kernel_rfl) <| OWk.done (by kernel_rfl) ?_
                    cases h
                    exact ⟨(y21.1, y21.2.1, y21.2.2.1, y21.2.2.2.1, y21.2.2.2.2.1, (IntKind.wrap .i64 (y21.2.2.2.2.2.1 + 1)), y21.2.2.2.2.2.2), rfl, by kernel_rfl⟩
                · replace h := bif_f hc h
                  refine SW.kp 160 y21.2.2.2.2.2.2 [9, 22] [(9, .d (.ptr i8 0)), (22, Z127 y21)] (by kernel_rfl) <| SW.exit <| thenS_e ?_
                  cases h
                  refine thenS_e ?_
                  exact ⟨_, rfl, ⟨rfl, rfl⟩⟩
              · rintro _ _ ⟨rfl, rfl⟩
                refine blockS_hit <| thenS_n <| SW.seq <| SW.seq <| SW.regionK <| OWk.sg 160 v27.2.2.2.2.2 [] [9, 22, 139] 2 [(9, .d (.ptr i8 0)), (22, Z137 v27), (139, Z138 v27)] (by kernel_rfl) <| OWk.on 160 v27.2.2.2.2.2 (d := some 140) [9, 22, 140] [(9, .d (.ptr i8 0)), (22, Z137 v27), (140, Z140 v27)] (BAt.len (enc := D.str) (xs := v27.2.2.2.2.1) (by kernel_rfl)) (by kernel_rfl) <| OWk.sg 160 v27.2.2.2.2.2 [] [9, 22, 141] 1 [(9, .d (.ptr i8 0)), (22, Z137 v27), (141, Z139 v27)] (by kernel_rfl) <| OWk.done (by kernel_rfl) <| thenS_n ?_
                refine SW.condB (b := (decide ((v27.2.2.2.2.1.length : Int) ≤ 20))) (by kernel_rfl) (fun hc => ?_) (fun hc => ?_)
                · replace h := bif_t hc h
                  refine SW.seq <| SW.regionK <| OWk.fzC 22 4 160 v27.2.2.2.2.2 [9, 22] [(9, .d (.ptr i8 0)), (22, Z141 v27)] (by kernel_rfl) <| OWk.sg 160 v27.2.2.2.2.2 [] [143, 144] 2 [(143, .d (.ptr i8 0)), (144, Z142 v27)] (by kernel_rfl) ?_
                  obtain ⟨r28, hr, h⟩ := bind_inv h
                  refine OWk.CR (ls := []) (some 145) [(145, .tup [vB r28.1, vI r28.2.1, vI r28.2.2])] (guard_Guard_Open_ok hr) <| OWk.sg 160 v27.2.2.2.2.2 [] [24, 25, 26] 7 [(24, vB r28.1), (25, vI r28.2.1), (26, vI r28.2.2)] (by kernel_rfl) <| OWk.done (by kernel_rfl) <| thenS_n <| SW.seq <| SW.regionK <| OWk.sg 160 v27.2.2.2.2.2 [] [24, 25, 151] 3 [(24, vB r28.1), (25, vI r28.2.1), (151, vB (r28.2.2 != 0))] (by kernel_rfl) <| OWk.mg 160 v27.2.2.2.2.2 [25, 154] 3 (r28.2.2 != 0) (fun b => (sp 160 [(24, vB r28.1), (25, vI r28.2.1), (151, vB b)] v27.2.2.2.2.2)) (fun b => [(25, vI r28.2.1), (154, vB (b || (!r28.1)))]) (by kernel_rfl) (by kernel_rfl) (by kernel_rfl) <| OWk.sg 160 v27.2.2.2.2.2 [] [25, 155] 1 [(25, vI r28.2.1), (155, Z143 r28)] (by kernel_rfl) <| OWk.mg 160 v27.2.2.2.2.2 [158] 3 ((r28.2.2 != 0) || (!r28.1)) (fun b => (sp 160 [(25, vI r28.2.1), (155, vB b)] v27.2.2.2.2.2)) (fun b => [(158, vB (b || (r28.2.1 != (-1))))]) (by kernel_rfl) (by kernel_rfl) (by kernel_rfl) <| OWk.done (by kernel_rfl) <| thenS_n ?_
                  refine SW.condB (b := (((r28.2.2 != 0) || (!r28.1)) || (r28.2.1 != (-1)))) (by kernel_rfl) (fun hc => ?_) (fun hc => ?_)
                  · replace h := bif_t hc h
                    refine SW.seq <| SW.regionK <| OWk.sg 160 v27.2.2.2.2.2 [] [8] 1 [(8, vB false)] (by kernel_rfl) <| OWk.done (by kernel_rfl) <| thenS_n <| SW.ret <| thenS_r ?_
                    cases h
                    exact EndL.ret [] (by kernel_rfl)
                  · replace h := bif_f hc h
                    refine SW.skip <| thenS_n <| SW.seq <| SW.regionK ?_
                    obtain ⟨r29, hr, h⟩ := bind_inv h
                    refine OWk.cl 160 v27.2.2.2.2.2 (d := some 159) (ls := []) (gs := []) [] [159] [(159, vB r29)] (l_awake_ok hr) (by kernel_rfl) (by kernel_rfl) (by kernel_rfl) <| OWk.sg 160 v27.2.2.2.2.2 [] [8] 1 [(8, vB r29)] (by kernel_rfl) <| OWk.done (by kernel_rfl) <| thenS_n <| SW.ret ?_
                    cases h
                    exact EndL.ret [] (by kernel_rfl)
                · replace h := bif_f hc h
                  refine SW.skip <| thenS_n <| SW.seq <| SW.regionK ?_
                  obtain ⟨r30, hr, h⟩ := bind_inv h
                  refine OWk.cl 160 v27.2.2.2.2.2 (d := some 159) (ls := []) (gs := []) [] [159] [(159, vB r30)] (l_awake_ok hr) (by kernel_rfl) (by kernel_rfl) (by kernel_rfl) <| OWk.sg 160 v27.2.2.2.2.2 [] [8] 1 [(8, vB r30)] (by kernel_rfl) <| OWk.done (by kernel_rfl) <| thenS_n <| SW.ret ?_
                  cases h
                  exact EndL.ret [] (by kernel_rfl)
            · obtain ⟨jp15, hjjp15, h⟩ := letJ_inv h
              refine SW.jnH 160 [0, 6, 9, 11, 17, 18] (fun (j14 : (Option Nat) × Int × Hp) => [(0, Z0 p0), (6, Z2 p2), (9, .d (.ptr i8 0)), (11, vB r9.1), (17, .d (cP.enc j14.1)), (18, vI j14.2.1)]) (fun (j14 : (Option Nat) × Int × Hp) => j14.2.2) (fun v => jp15 v = some r) (fun j14 h => ?_) ?_
              · rw [hjjp15] at h
                refine SW.seq <| SW.regionK <| OWk.sg 160 j14.2.2 [] [0, 6, 9, 11, 17, 98] 2 [(0, Z0 p0), (6, Z2 p2), (9, .d (.ptr i8 0)), (11, vB r9.1), (17, .d (cP.enc j14.1)), (98, vB (j14.2.1 == 0))] (by kernel_rfl) <| OWk.done (by kernel_rfl) <| thenS_n ?_
                refine SW.condB (b := (j14.2.1 == 0)) (by kernel_rfl) (fun hc => ?_) (fun hc => ?_)
                · replace h := bif_t hc h
                  refine SW.seq <| SW.regionK <| OWk.sg 160 j14.2.2 [] [0, 6, 9, 11, 100, 101] 2 [(0, Z0 p0), (6, Z2 p2), (9, .d (.ptr i8 0)), (11, vB r9.1), (100, .d (cP.enc j14.1)), (101, Z29 p2)] (by kernel_rfl) ?_
                  obtain ⟨i19, hp_i19, h⟩ := bind_inv h
                  refine OWk.asP j14.1 (fun p => (sp 160 [(0, Z0 p0), (6, Z2 p2), (9, .d (.ptr i8 0)), (11, vB r9.1), (100, .d (cP.enc p)), (101, Z29 p2)] j14.2.2)) (by kernel_rfl) hp_i19 ?_
                  obtain ⟨r20, hr, h⟩ := bind_inv h
                  refine OWk.CR (ls := []) (some 102) [(0, Z0 p0), (6, Z2 p2), (9, .d (.ptr i8 0)), (11, vB r9.1), (102, .tup [vB r20.1, vI r20.2.1, vI r20.2.2])] (guard_Guard_Open_ok hr) <| OWk.sg 160 j14.2.2 [] [0, 6, 9, 11, 19] 7 [(0, Z0 p0), (6, Z2 p2), (9, .d (.ptr i8 0)), (11, vB r9.1), (19, vB r20.1)] (by kernel_rfl) <| OWk.done (by kernel_rfl) <| thenS_n <| SW.seq <| SW.regionK <| OWk.sg 160 j14.2.2 [] [0, 6, 9, 11, 107] 2 [(0, Z0 p0), (6, Z2 p2), (9, .d (.ptr i8 0)), (11, vB r9.1), (107, vB r20.1)] (by kernel_rfl) <| OWk.mg 160 j14.2.2 [0, 6, 9, 110] 3 r20.1 (fun b => (sp 160 [(0, Z0 p0), (6, Z2 p2), (9, .d (.ptr i8 0)), (11, vB r9.1), (107, vB b)] j14.2.2)) (fun b => [(0, Z0 p0), (6, Z2 p2), (9, .d (.ptr i8 0)), (110, vB (b && (!r9.1)))]) (by kernel_rfl) (by kernel_rfl) (by kernel_rfl) <| OWk.done (by kernel_rfl) <| thenS_n ?_
                  refine SW.condB (b := (r20.1 && (!r9.1))) (by kernel_rfl) (fun hc => ?_) (fun hc => ?_)
                  · replace h := bif_t hc h
                    refine SW.seq <| SW.regionK <| OWk.sg 160 j14.2.2 [] [8] 1 [(8, vB false)] (by kernel_rfl) <| OWk.done (by kernel_rfl) <| thenS_n <| SW.ret <| thenS_r ?_
                    cases h
                    exact EndL.ret [] (by kernel_rfl)
                  · replace h := bif_f hc h
                    refine SW.skip ?_
                    exact ⟨j14.2.2, [], by kernel_rfl, h⟩
                · replace h := bif_f hc h
                  refine SW.skip ?_
                  exact ⟨j14.2.2, [], by kernel_rfl, h⟩
              · obtain ⟨hk16, h⟩ := chk_inv h
                obtain ⟨hk17, h⟩ := chk_inv h
                obtain ⟨r18, hr_6, h⟩ := bind_inv h
                refine SW.kp 160 r6.2 [0, 5, 6, 9, 11] [(0, Z0 p0), (5, Z1 p1), (6, Z2 p2), (9, .d (.ptr i8 0)), (11, vB r9.1)] (by kernel_rfl) ?_
                refine SW.regXU 160 r18.2 [(0, Z0 p0), (6, Z2 p2), (9, .d (.ptr i8 0)), (11, vB r9.1), (17, .d (cP.enc r18.1.1)), (18, vI r18.1.2)] [1] 11 2 (by kernel_rfl) (by kernel_rfl) (by kernel_rfl) (fun X hX => ?_) ?_
                · have c4095 : X 0 4095 (sp 160 [(0, Z0 p0), (6, Z2 p2), (9, .d (.ptr i8 0)), (11, vB r9.1), (17, .d (cP.enc r18.1.1)), (18, vI r18.1.2)] r18.2) := by subst hX; exact OX.fin (by kernel_rfl)
                  have c2047 : X 1 2047 (sp 160 [(0, Z0 p0), (6, Z2 p2), (9, .d (.ptr i8 0)), (11, vB r9.1), (17, .d (cP.enc r18.1.1)), (96, vI r18.1.2)] r18.2) := by
                    subst hX
                    refine OX.step (i0 := 11) (is := []) (by kernel_rfl) (by kernel_rfl) ⟨?_, trivial⟩
                    · refine OWk.sg 160 r18.2 [88, 90] [0, 6, 9, 11, 17, 18] 1 [(0, Z0 p0), (6, Z2 p2), (9, .d (.ptr i8 0)), (11, vB r9.1), (17, .d (cP.enc r18.1.1)), (18, vI r18.1.2)] (by kernel_rfl) <| OWk.done (by kernel_rfl) ?_
                      exact c4095
                  have c1023 : X 2 1023 (sp 160 [(0, Z0 p0), (6, Z2 p2), (9, .d (.ptr i8 0)), (11, vB r9.1), (95, .d (cP.enc r18.1.1)), (96, vI r18.1.2)] r18.2) := by
                    subst hX
                    refine OX.step (i0 := 10) (is := []) (by kernel_rfl) (by kernel_rfl) ⟨?_, trivial⟩
                    · refine OWk.sg 160 r18.2 [88, 90] [0, 6, 9, 11, 17, 96] 1 [(0, Z0 p0), (6, Z2 p2), (9, .d (.ptr i8 0)), (11, vB r9.1), (17, .d (cP.enc r18.1.1)), (96, vI r18.1.2)] (by kernel_rfl) <| OWk.done (by kernel_rfl) ?_
                      exact c2047
                  have c1535 : X 2 1535 (sp 160 [(0, Z0 p0), (6, Z2 p2), (9, .d (.ptr i8 0)), (11, vB r9.1), (17, .d (cP.enc r18.1.1)), (87, Z121 r18)] r18.2) := by
                    subst hX
                    refine OX.step (i0 := 9) (is := []) (by kernel_rfl) (by kernel_rfl) ⟨?_, trivial⟩
                    · refine OWk.sg 160 r18.2 [88, 90] [0, 6, 9, 11, 17, 96] 1 [(0, Z0 p0), (6, Z2 p2), (9, .d (.ptr i8 0)), (11, vB r9.1), (17, .d (cP.enc r18.1.1)), (96, vI r18.1.2)] (by kernel_rfl) <| OWk.done (by kernel_rfl) ?_
                      exact c2047
                  have c511 : X 3 511 (sp 160 [(0, Z0 p0), (6, Z2 p2), (9, .d (.ptr i8 0)), (11, vB r9.1), (87, Z121 r18), (95, .d (cP.enc r18.1.1))] r18.2) := by
                    subst hX
                    refine OX.step (i0 := 9) (is := [10]) (by kernel_rfl) (by kernel_rfl) ⟨?_, ?_, trivial⟩
                    · refine OWk.sg 160 r18.2 [88, 90] [0, 6, 9, 11, 95, 96] 1 [(0, Z0 p0), (6, Z2 p2), (9, .d (.ptr i8 0)), (11, vB r9.1), (95, .d (cP.enc r18.1.1)), (96, vI r18.1.2)] (by kernel_rfl) <| OWk.done (by kernel_rfl) ?_
                      exact c1023
                    · refine OWk.sg 160 r18.2 [88, 90] [0, 6, 9, 11, 17, 87] 1 [(0, Z0 p0), (6, Z2 p2), (9, .d (.ptr i8 0)), (11, vB r9.1), (17, .d (cP.enc r18.1.1)), (87, Z121 r18)] (by kernel_rfl) <| OWk.done (by kernel_rfl) ?_
                      exact c1535
                  have c767 : X 3 767 (sp 160 [(0, Z0 p0), (6, Z2 p2), (9, .d (.ptr i8 0)), (11, vB r9.1), (87, Z121 r18), (96, vI r18.1.2)] r18.2) := by
                    subst hX
                    refine OX.step (i0 := 8) (is := []) (by kernel_rfl) (by kernel_rfl) ⟨?_, trivial⟩
                    · refine OWk.sg 160 r18.2 [88, 90] [0, 6, 9, 11, 95, 96] 1 [(0, Z0 p0), (6, Z2 p2), (9, .d (.ptr i8 0)), (11, vB r9.1), (95, .d (cP.enc r18.1.1)), (96, vI r18.1.2)] (by kernel_rfl) <| OWk.done (by kernel_rfl) ?_
                      exact c1023
                  have c255 : X 4 255 (sp 160 [(0, Z0 p0), (6, Z2 p2), (9, .d (.ptr i8 0)), (11, vB r9.1), (87, Z121 r18)] r18.2) := by
                    subst hX
                    refine OX.step (i0 := 8) (is := [9]) (by kernel_rfl) (by kernel_rfl) ⟨?_, ?_, trivial⟩
                    · refine OWk.sg 160 r18.2 [88, 90] [0, 6, 9, 11, 87, 95] 1 [(0, Z0 p0), (6, Z2 p2), (9, .d (.ptr i8 0)), (11, vB r9.1), (87, Z121 r18), (95, .d (cP.enc r18.1.1))] (by kernel_rfl) <| OWk.done (by kernel_rfl) ?_
                      exact c511
                    · refine OWk.sg 160 r18.2 [88, 90] [0, 6, 9, 11, 87, 96] 1 [(0, Z0 p0), (6, Z2 p2), (9, .d (.ptr i8 0)), (11, vB r9.1), (87, Z121 r18), (96, vI r18.1.2)] (by kernel_rfl) <| OWk.done (by kernel_rfl) ?_
                      exact c767
                  have c127 : X 5 127 (sp 160 [(0, Z0 p0), (6, Z2 p2), (9, .d (.ptr i8 0)), (11, vB r9.1), (94, Z121 r18)] r18.2) := by
                    subst hX
                    refine OX.step (i0 := 7) (is := []) (by kernel_rfl) (by kernel_rfl) ⟨?_, trivial⟩
                    · refine OWk.sg 160 r18.2 [88, 90] [0, 6, 9, 11, 87] 1 [(0, Z0 p0), (6, Z2 p2), (9, .d (.ptr i8 0)), (11, vB r9.1), (87, Z121 r18)] (by kernel_rfl) <| OWk.done (by kernel_rfl) ?_
                      exact c255
                  have c63 : X 6 63 (sp 160 [(0, Z0 p0), (6, Z2 p2), (9, .d (.ptr i8 0)), (11, vB r9.1), (93, Z120 p0 p1)] r6.2) := by
                    subst hX
                    refine OX.step (i0 := 6) (is := []) (by kernel_rfl) (by kernel_rfl) ⟨?_, trivial⟩
                    · refine OWk.CH (some 94) [(0, Z0 p0), (6, Z2 p2), (9, .d (.ptr i8 0)), (11, vB r9.1), (94, .tup [.d (cP.enc r18.1.1), vI r18.1.2])] (guard_New_ok hr_6) <| OWk.done (by kernel_rfl) ?_
                      exact c127
                  have c31 : X 7 31 (sp 160 [(0, Z0 p0), (6, Z2 p2), (9, .d (.ptr i8 0)), (11, vB r9.1), (90, Z79 p0), (92, Z3 p1)] r6.2) := by
                    subst hX
                    refine OX.step (i0 := 5) (is := []) (by kernel_rfl) (by kernel_rfl) ⟨?_, trivial⟩
                    · refine OWk.app 160 r6.2 (s := 90) (d := 93) (w := 3) [0, 6, 9, 11, 93] (zs := List.map encPrivacy ((([] : List Privacy) ++ p0) ++ [p1])) [(0, Z0 p0), (6, Z2 p2), (9, .d (.ptr i8 0)), (11, vB r9.1), (93, Z119 p0 p1)] (ys := (List.map encPrivacy [p1])) (by kernel_rfl) (map_append') (room_map hk17) (by kernel_rfl) <| OWk.fz 160 r6.2 93 [0, 6, 9, 11, 93] [(0, Z0 p0), (6, Z2 p2), (9, .d (.ptr i8 0)), (11, vB r9.1), (93, Z120 p0 p1)] (by kernel_rfl) <| OWk.done (by kernel_rfl) ?_
                      exact c63
                  have c15 : X 8 15 (sp 160 [(0, Z0 p0), (6, Z2 p2), (9, .d (.ptr i8 0)), (11, vB r9.1), (90, Z79 p0), (91, Z60 p1)] r6.2) := by
                    subst hX
                    refine OX.step (i0 := 4) (is := []) (by kernel_rfl) (by kernel_rfl) ⟨?_, trivial⟩
                    · refine OWk.sg 160 r6.2 [88, 90] [0, 6, 9, 11, 90, 92] 1 [(0, Z0 p0), (6, Z2 p2), (9, .d (.ptr i8 0)), (11, vB r9.1), (90, Z79 p0), (92, Z3 p1)] (by kernel_rfl) <| OWk.done (by kernel_rfl) ?_
                      exact c31
                  have c7 : X 9 7 (sp 160 [(0, Z0 p0), (5, Z1 p1), (6, Z2 p2), (9, .d (.ptr i8 0)), (11, vB r9.1), (90, Z79 p0)] r6.2) := by
                    subst hX
                    refine OX.step (i0 := 3) (is := []) (by kernel_rfl) (by kernel_rfl) ⟨?_, trivial⟩
                    · refine OWk.sg 160 r6.2 [88, 90] [0, 6, 9, 11, 90, 91] 1 [(0, Z0 p0), (6, Z2 p2), (9, .d (.ptr i8 0)), (11, vB r9.1), (90, Z79 p0), (91, Z60 p1)] (by kernel_rfl) <| OWk.done (by kernel_rfl) ?_
                      exact c15
                  have c27 : X 8 27 (sp 160 [(0, Z0 p0), (6, Z2 p2), (9, .d (.ptr i8 0)), (11, vB r9.1), (88, Z78), (89, Z0 p0), (92, Z3 p1)] r6.2) := by
                    subst hX
                    refine OX.step (i0 := 2) (is := []) (by kernel_rfl) (by kernel_rfl) ⟨?_, trivial⟩
                    · refine OWk.app 160 r6.2 (s := 88) (d := 90) (w := 3) [0, 6, 9, 11, 90, 92] (zs := List.map encPrivacy (([] : List Privacy) ++ p0)) [(0, Z0 p0), (6, Z2 p2), (9, .d (.ptr i8 0)), (11, vB r9.1), (90, Z79 p0), (92, Z3 p1)] (ys := (List.map encPrivacy p0)) (by kernel_rfl) (map_append') (room_map hk16) (by kernel_rfl) <| OWk.done (by kernel_rfl) ?_
                      exact c31
                  have c11 : X 9 11 (sp 160 [(0, Z0 p0), (6, Z2 p2), (9, .d (.ptr i8 0)), (11, vB r9.1), (88, Z78), (89, Z0 p0), (91, Z60 p1)] r6.2) := by
                    subst hX
                    refine OX.step (i0 := 2) (is := [4]) (by kernel_rfl) (by kernel_rfl) ⟨?_, ?_, trivial⟩
                    · refine OWk.app 160 r6.2 (s := 88) (d := 90) (w := 3) [0, 6, 9, 11, 90, 91] (zs := List.map encPrivacy (([] : List Privacy) ++ p0)) [(0, Z0 p0), (6, Z2 p2), (9, .d (.ptr i8 0)), (11, vB r9.1), (90, Z79 p0), (91, Z60 p1)] (ys := (List.map encPrivacy p0)) (by kernel_rfl) (map_append') (room_map hk16) (by kernel_rfl) <| OWk.done (by kernel_rfl) ?_
                      exact c15
                    · refine OWk.sg 160 r6.2 [88, 90] [0, 6, 9, 11, 88, 89, 92] 1 [(0, Z0 p0), (6, Z2 p2), (9, .d (.ptr i8 0)), (11, vB r9.1), (88, Z78), (89, Z0 p0), (92, Z3 p1)] (by kernel_rfl) <| OWk.done (by kernel_rfl) ?_
                      exact c27
                  have c3 : X 10 3 (sp 160 [(0, Z0 p0), (5, Z1 p1), (6, Z2 p2), (9, .d (.ptr i8 0)), (11, vB r9.1), (88, Z78), (89, Z0 p0)] r6.2) := by
                    subst hX
                    refine OX.step (i0 := 2) (is := [3]) (by kernel_rfl) (by kernel_rfl) ⟨?_, ?_, trivial⟩
                    · refine OWk.app 160 r6.2 (s := 88) (d := 90) (w := 3) [0, 5, 6, 9, 11, 90] (zs := List.map encPrivacy (([] : List Privacy) ++ p0)) [(0, Z0 p0), (5, Z1 p1), (6, Z2 p2), (9, .d (.ptr i8 0)), (11, vB r9.1), (90, Z79 p0)] (ys := (List.map encPrivacy p0)) (by kernel_rfl) (map_append') (room_map hk16) (by kernel_rfl) <| OWk.done (by kernel_rfl) ?_
                      exact c7
                    · refine OWk.sg 160 r6.2 [88, 90] [0, 6, 9, 11, 88, 89, 91] 1 [(0, Z0 p0), (6, Z2 p2), (9, .d (.ptr i8 0)), (11, vB r9.1), (88, Z78), (89, Z0 p0), (91, Z60 p1)] (by kernel_rfl) <| OWk.done (by kernel_rfl) ?_
                      exact c11
                  have c26 : X 9 26 (sp 160 [(0, Z0 p0), (6, Z2 p2), (9, .d (.ptr i8 0)), (11, vB r9.1), (89, Z0 p0), (92, Z3 p1)] r6.2) := by
                    subst hX
                    refine OX.step (i0 := 0) (is := []) (by kernel_rfl) (by kernel_rfl) ⟨?_, trivial⟩
                    · refine OWk.sg 160 r6.2 [88, 90] [0, 6, 9, 11, 88, 89, 92] 1 [(0, Z0 p0), (6, Z2 p2), (9, .d (.ptr i8 0)), (11, vB r9.1), (88, Z78), (89, Z0 p0), (92, Z3 p1)] (by kernel_rfl) <| OWk.done (by kernel_rfl) ?_
                      exact c27
                  have c10 : X 10 10 (sp 160 [(0, Z0 p0), (6, Z2 p2), (9, .d (.ptr i8 0)), (11, vB r9.1), (89, Z0 p0), (91, Z60 p1)] r6.2) := by
                    subst hX
                    refine OX.step (i0 := 0) (is := [4]) (by kernel_rfl) (by kernel_rfl) ⟨?_, ?_, trivial⟩
                    · refine OWk.sg 160 r6.2 [88, 90] [0, 6, 9, 11, 88, 89, 91] 1 [(0, Z0 p0), (6, Z2 p2), (9, .d (.ptr i8 0)), (11, vB r9.1), (88, Z78), (89, Z0 p0), (91, Z60 p1)] (by kernel_rfl) <| OWk.done (by kernel_rfl) ?_
                      exact c11
                    · refine OWk.sg 160 r6.2 [88, 90] [0, 6, 9, 11, 89, 92] 1 [(0, Z0 p0), (6, Z2 p2), (9, .d (.ptr i8 0)), (11, vB r9.1), (89, Z0 p0), (92, Z3 p1)] (by kernel_rfl) <| OWk.done (by kernel_rfl) ?_
                      exact c26
                  have c2 : X 11 2 (sp 160 [(0, Z0 p0), (5, Z1 p1), (6, Z2 p2), (9, .d (.ptr i8 0)), (11, vB r9.1), (89, Z0 p0)] r6.2) := by
                    subst hX
                    refine OX.step (i0 := 0) (is := [3]) (by kernel_rfl) (by kernel_rfl) ⟨?_, ?_, trivial⟩
                    · refine OWk.sg 160 r6.2 [88, 90] [0, 5, 6, 9, 11, 88, 89] 1 [(0, Z0 p0), (5, Z1 p1), (6, Z2 p2), (9, .d (.ptr i8 0)), (11, vB r9.1), (88, Z78), (89, Z0 p0)] (by kernel_rfl) <| OWk.done (by kernel_rfl) ?_
                      exact c3
                    · refine OWk.sg 160 r6.2 [88, 90] [0, 6, 9, 11, 89, 91] 1 [(0, Z0 p0), (6, Z2 p2), (9, .d (.ptr i8 0)), (11, vB r9.1), (89, Z0 p0), (91, Z60 p1)] (by kernel_rfl) <| OWk.done (by kernel_rfl) ?_
                      exact c10
                  refine OBuk.sg 160 r6.2 [0, 5, 6, 9, 11, 89] [(0, Z0 p0), (5, Z1 p1), (6, Z2 p2), (9, .d (.ptr i8 0)), (11, vB r9.1), (89, Z0 p0)] (by kernel_rfl) <| OBuk.done (by kernel_rfl) ?_
                  exact c2
                exact ⟨(r18.1.1, r18.1.2, r18.2), [], by kernel_rfl, h⟩
  · refine SW.regionK <| OWk.sg 160 [] [28] [0, 3, 5, 6, 28, 29] 3 [(0, Z0 p0), (3, vS p3), (5, Z1 p1), (6, Z2 p2), (28, Z3 p1), (29, Z0 p0)] (by kernel_rfl) ?_
    obtain ⟨hk, h⟩ := chk_inv h
    refine OWk.app 160 [] (s := 28) (d := 30) (w := 3) [0, 3, 5, 6, 30] (zs := List.map encPrivacy ([p1] ++ p0)) [(0, Z0 p0), (3, vS p3), (5, Z1 p1), (6, Z2 p2), (30, Z54 p1 p0)] (ys := (List.map encPrivacy p0)) (by kernel_rfl) (map_append') (room_map hk) (by kernel_rfl) ?_
    obtain ⟨r3, hr, h⟩ := bind_inv h
    refine OWk.cl 160 [] (d := some 31) (ls := [(.slot 30)]) (gs := []) [] [0, 3, 5, 6, 31] [(0, Z0 p0), (3, vS p3), (5, Z1 p1), (6, Z2 p2), (31, vB r3)] (l_light_ok hr) (by kernel_rfl) (by kernel_rfl) (by kernel_rfl) <| OWk.sg 160 [] [28] [0, 3, 5, 6, 33] 2 [(0, Z0 p0), (3, vS p3), (5, Z1 p1), (6, Z2 p2), (33, vB (!r3))] (by kernel_rfl) ?_
    refine OWk.case (!r3) (fun b => (sp 160 [(0, Z0 p0), (3, vS p3), (5, Z1 p1), (6, Z2 p2), (33, vB b)] [])) (by kernel_rfl) (fun hc => ?_) (fun hc => ?_)
    · replace h := bif_t hc h
      refine OWk.sg 160 [] [28] [0, 3, 5, 6, 42] 9 [(0, Z0 p0), (3, vS p3), (5, Z1 p1), (6, Z2 p2), (42, vB true)] (by kernel_rfl) <| OWk.done (by kernel_rfl) ?_
      exact ⟨true, [], by kernel_rfl, h⟩
    · replace h := bif_f hc h
      refine OWk.sg 160 [] [28] [0, 3, 5, 6, 33, 34] 1 [(0, Z0 p0), (3, vS p3), (5, Z1 p1), (6, Z2 p2), (33, vB false), (34, Z29 p2)] (by kernel_rfl) ?_
      obtain ⟨r4, hr, h⟩ := bind_inv h
      refine OWk.cl 160 [] (d := some 35) (ls := []) (gs := []) [] [0, 3, 5, 6, 33, 35] [(0, Z0 p0), (3, vS p3), (5, Z1 p1), (6, Z2 p2), (33, vB false), (35, vB r4)] (l_deed_ok hr) (by kernel_rfl) (by kernel_rfl) (by kernel_rfl) <| OWk.sg 160 [] [28] [0, 3, 5, 6, 38] 3 [(0, Z0 p0), (3, vS p3), (5, Z1 p1), (6, Z2 p2), (38, vB (!r4))] (by kernel_rfl) ?_
      refine OWk.case (!r4) (fun b => (sp 160 [(0, Z0 p0), (3, vS p3), (5, Z1 p1), (6, Z2 p2), (38, vB b)] [])) (by kernel_rfl) (fun hc => ?_) (fun hc => ?_)
      · replace h := bif_t hc h
        refine OWk.sg 160 [] [28] [0, 3, 5, 6, 42] 4 [(0, Z0 p0), (3, vS p3), (5, Z1 p1), (6, Z2 p2), (42, vB true)] (by kernel_rfl) <| OWk.done (by kernel_rfl) ?_
        exact ⟨true, [], by kernel_rfl, h⟩
      · replace h := bif_f hc h
        refine OWk.sg 160 [] [28] [0, 3, 5, 6, 38, 39] 1 [(0, Z0 p0), (3, vS p3), (5, Z1 p1), (6, Z2 p2), (38, vB false), (39, vS p3)] (by kernel_rfl) <| OWk.sg 160 [] [] [0, 3, 5, 6, 38, 40] 1 [(0, Z0 p0), (3, vS p3), (5, Z1 p1), (6, Z2 p2), (38, vB false), (40, vI (p3.length : Int))] (by kernel_rfl) <| OWk.sg 160 [] [28] [0, 3, 5, 6, 42] 2 [(0, Z0 p0), (3, vS p3), (5, Z1 p1), (6, Z2 p2), (42, Z49 p3)] (by kernel_rfl) <| OWk.done (by kernel_rfl) ?_
        exact ⟨(decide ((p3.length : Int) > 100)), [], by kernel_rfl, h⟩
end Go.Sh
