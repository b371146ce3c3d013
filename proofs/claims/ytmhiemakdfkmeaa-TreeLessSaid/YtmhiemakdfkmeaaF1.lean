/- Printed by a program: functions of the program as plain functions, and that the code computes them. -/
import Derived.Test.YtmhiemakdfkmeaaS3
import Derived.Test.YtmhiemakdfkmeaaProg
import Derived.Lib.Strings
import Derived.Lib.Slices
import Derived.Lib.Walk
import Derived.Lib.Bytealg
set_option linter.all false
set_option autoImplicit true
set_option relaxedAutoImplicit true
open Go Go.Proofs
namespace Go.Sh
set_option maxRecDepth 100000
structure Sorting where
  Kinds : (List Int)
  Down : (List Bool)
  Dup : Int
  deriving DecidableEq, Inhabited
def encSorting (x : Sorting) : D := .agg [.list 1 (List.map (D.int .i64) x.Kinds), .list 1 (List.map D.bool x.Down), .int .i64 x.Dup]
structure Value where
  Kind : Int
  N : Int
  S : (List UInt8)
  deriving DecidableEq, Inhabited
def encValue (x : Value) : D := .agg [.int .i64 x.Kind, .int .i64 x.N, .str x.S]
structure Entry where
  Row : (List Value)
  Key : Int
  Number : Int
  deriving DecidableEq, Inhabited
def encEntry (x : Entry) : D := .agg [.list 3 (List.map encValue x.Row), .int .i64 x.Key, .int .i64 x.Number]
structure Act where
  Kind : Int
  Key : Int
  Row : (List Value)
  With : (List Value)
  deriving DecidableEq, Inhabited
def encAct (x : Act) : D := .agg [.int .i64 x.Kind, .int .i64 x.Key, .list 3 (List.map encValue x.Row), .list 3 (List.map encValue x.With)]
def encL0 (xs : List Value) : D := D.list 3 (List.map encValue xs)
def l01_Rows_l1 (fuel : Nat) (p0 : (List (List Value))) (y1 : Int) (y3 : Int) : Option ((Int) ⊕ ((Unit) ⊕ ((Bool)))) :=
  (idx p0 y1).bind fun x4 =>
  bif (decide (y3 < (x4.length : Int))) then
    (idx p0 y1).bind fun x5 =>
    (idx x5 y3).bind fun x6 =>
    bif (decide ((x6.S.length : Int) > 200)) then
      some (.inr (.inr false))
    else
      some (.inl (IntKind.wrap .i64 (y3 + 1)))
  else
    some (.inr (.inl ()))
def l01_Rows_l2 (fuel : Nat) (p0 : (List (List Value))) (y1 : Int) : Option ((Int) ⊕ ((Unit) ⊕ ((Bool)))) :=
  bif (decide (y1 < (p0.length : Int))) then
    (idx p0 y1).bind fun x2 =>
    bif (decide ((x2.length : Int) > 20)) then
      some (.inr (.inr false))
    else
      (iter (l01_Rows_l1 fuel p0 y1) fuel 0).bind (Sum.elim (fun v8 =>
        some (.inl (IntKind.wrap .i64 (y1 + 1)))) (fun r9 =>
        some (.inr (.inr r9))))
  else
    some (.inr (.inl ()))
def l01_Rows (fuel : Nat) (p0 : (List (List Value))) : Option (Bool) :=
  (iter (l01_Rows_l2 fuel p0) fuel 0).bind (Sum.elim (fun v11 =>
    some true) (fun r12 =>
    some r12))
def Z0 (x0 : Sorting) : SV := .box [.d (.list 1 (List.map (D.int .i64) x0.Kinds)), .d (.list 1 (List.map D.bool x0.Down)), vI x0.Dup]
def Z1 (x0 : Entry) : SV := .box [.d (.list 3 (List.map encValue x0.Row)), vI x0.Key, vI x0.Number]
def Z2 (x0 : Sorting) : SV := .d (.agg [.list 1 (List.map (D.int .i64) x0.Kinds), .list 1 (List.map D.bool x0.Down), .int .i64 x0.Dup])
def Z3 (x0 : (List Act)) : SV := .d (.list 4 (List.map encAct x0))
def Z5 (x0 : Act) : SV := .d (.list 3 (List.map encValue x0.Row))
def Z6 (x0 : Act) : SV := .d (.list 3 (List.map encValue x0.With))
def Z7 (x0 : Act) (x1 : Act) : SV := .own 1 (List.map encL0 [x0.Row, x1.With])
def Z8 (x0 : (List (List Value))) : SV := .d (.list 1 (List.map encL0 x0))
def Z10 (x0 : (List Value)) : SV := .d (.list 3 (List.map encValue x0))
def Z11 (x0 : (List Value)) : SV := vB (decide ((x0.length : Int) > 20))
def Z13 (x0 : Value) : SV := vB (decide ((x0.S.length : Int) > 200))
def Z14 (x0 : Int) (x1 : (List Value)) : SV := vB (decide (x0 < (x1.length : Int)))
def Z15 (x0 : Int) : SV := vI (IntKind.wrap .i64 (x0 + 1))
def Z16 (x0 : Int) (x1 : (List (List Value))) : SV := vB (decide (x0 < (x1.length : Int)))
theorem l01_Rows_ok {fuel : Nat} {p0 : (List (List Value))} {r : Bool} (h : l01_Rows fuel p0 = some r) : PC Try.prog 6 [.d (.list 1 (List.map encL0 p0))] (vB r) := by
  refine PC.of_SW Try.func6 rfl fun H => ?_
  unfold l01_Rows at h
  refine SW.kp 36 H [0] [(0, Z8 p0)] (by kernel_rfl) <| SW.R 1 [(0, Z8 p0)] <| SW.seq <| SW.R 1 [(0, Z8 p0), (3, vI 0)] <| SW.block ?_
  obtain ⟨z10, hit, h⟩ := bind_inv h
  refine SW.it 36 H [0, 3] (fun y1 => [(0, Z8 p0), (3, vI y1)]) (fun b e s => ((∃ v11, b = (.inl v11) ∧ (e = .exit 0 ∧ s = (sp 36 [] H))) ∨ (∃ r12, b = (.inr r12) ∧ (e = .ret ∧ EndQ Try.prog Try.f6.results.toList H (vB r12) .ret s)))) hit (by kernel_rfl) (fun y1 o h => ?_) ?_
  · unfold l01_Rows_l2 at h
    refine SW.seq <| SW.S <| OWk.G 2 [(0, Z8 p0), (3, vI y1), (5, vI y1), (6, Z8 p0)] <| OWk.O (d := some 7) [(0, Z8 p0), (3, vI y1), (5, vI y1), (7, vI (p0.length : Int))] (BAt.len (enc := encL0) (xs := p0) (by kernel_rfl)) <| OWk.G 1 [(0, Z8 p0), (3, vI y1), (8, Z16 y1 p0)] <| OWk.E ?_
    refine SW.B (decide (y1 < (p0.length : Int))) (fun hc => ?_) (fun hc => ?_)
    · replace h := bif_t hc h
      refine SW.skip <| thenS_n <| SW.seq <| SW.block <| SW.seq <| SW.S <| OWk.G 2 [(0, Z8 p0), (3, vI y1), (11, Z8 p0), (12, vI y1)] ?_
      obtain ⟨x2, hx, h⟩ := bind_inv h
      refine OWk.O (d := some 13) (s := lendP none (Go.Sh.D.cells (encL0 x2))) [(0, Z8 p0), (3, vI y1), (13, .d (.dptr [.list 3 (List.map encValue x2)]))] (BAt.index (n := 1) hx (by kernel_rfl)) <| OWk.G 1 [(0, Z8 p0), (3, vI y1), (14, Z10 x2)] <| OWk.O (d := some 15) [(0, Z8 p0), (3, vI y1), (15, vI (x2.length : Int))] (BAt.len (enc := encValue) (xs := x2) (by kernel_rfl)) <| OWk.G 1 [(0, Z8 p0), (3, vI y1), (16, Z11 x2)] <| OWk.E ?_
      refine SW.B (decide ((x2.length : Int) > 20)) (fun hc => ?_) (fun hc => ?_)
      · replace h := bif_t hc h
        refine SW.R 1 [(2, vB false)] <| SW.ret <| thenS_r <| blockS_r <| thenS_r ?_
        cases h
        refine thenS_r ?_
        exact ⟨_, rfl, .inr (⟨false, rfl, rfl, EndQ.ret [] (by kernel_rfl) rfl⟩)⟩
      · replace h := bif_f hc h
        refine SW.skip <| thenS_n <| SW.R 1 [(0, Z8 p0), (3, vI y1), (4, vI 0)] <| SW.block ?_
        obtain ⟨z7, hit, h⟩ := bind_inv h
        refine SW.it 36 H [0, 3, 4] (fun y3 => [(0, Z8 p0), (3, vI y1), (4, vI y3)]) (fun b e s => ((∃ v8, b = (.inl v8) ∧ (e = .exit 2 ∧ s = (sp 36 [(0, Z8 p0), (3, vI y1)] H))) ∨ (∃ r9, b = (.inr r9) ∧ (e = .ret ∧ EndQ Try.prog Try.f6.results.toList H (vB r9) .ret s)))) hit (by kernel_rfl) (fun y3 o h => ?_) ?_
        · unfold l01_Rows_l1 at h
          refine SW.seq <| SW.S <| OWk.G 3 [(0, Z8 p0), (3, vI y1), (4, vI y3), (17, vI y3), (18, Z8 p0), (19, vI y1)] ?_
          obtain ⟨x4, hx, h⟩ := bind_inv h
          refine OWk.O (d := some 20) (s := lendP none (Go.Sh.D.cells (encL0 x4))) [(0, Z8 p0), (3, vI y1), (4, vI y3), (17, vI y3), (20, .d (.dptr [.list 3 (List.map encValue x4)]))] (BAt.index (n := 1) hx (by kernel_rfl)) <| OWk.G 1 [(0, Z8 p0), (3, vI y1), (4, vI y3), (17, vI y3), (21, Z10 x4)] <| OWk.O (d := some 22) [(0, Z8 p0), (3, vI y1), (4, vI y3), (17, vI y3), (22, vI (x4.length : Int))] (BAt.len (enc := encValue) (xs := x4) (by kernel_rfl)) <| OWk.G 1 [(0, Z8 p0), (3, vI y1), (4, vI y3), (23, Z14 y3 x4)] <| OWk.E ?_
          refine SW.B (decide (y3 < (x4.length : Int))) (fun hc => ?_) (fun hc => ?_)
          · replace h := bif_t hc h
            refine SW.skip <| thenS_n <| SW.seq <| SW.block <| SW.S <| OWk.G 2 [(0, Z8 p0), (3, vI y1), (4, vI y3), (26, Z8 p0), (27, vI y1)] ?_
            obtain ⟨x5, hx, h⟩ := bind_inv h
            refine OWk.O (d := some 28) (s := lendP none (Go.Sh.D.cells (encL0 x5))) [(0, Z8 p0), (3, vI y1), (4, vI y3), (28, .d (.dptr [.list 3 (List.map encValue x5)]))] (BAt.index (n := 1) hx (by kernel_rfl)) <| OWk.G 2 [(0, Z8 p0), (3, vI y1), (4, vI y3), (29, Z10 x5), (30, vI y3)] ?_
            obtain ⟨x6, hx, h⟩ := bind_inv h
            refine OWk.O (d := some 31) (s := lendP none (Go.Sh.D.cells (encValue x6))) [(0, Z8 p0), (3, vI y1), (4, vI y3), (31, .d (.dptr [.int .i64 x6.Kind, .int .i64 x6.N, .str x6.S]))] (BAt.index (n := 3) hx (by kernel_rfl)) <| OWk.G 2 [(0, Z8 p0), (3, vI y1), (4, vI y3), (33, vS x6.S)] <| OWk.G 1 [(0, Z8 p0), (3, vI y1), (4, vI y3), (34, vI (x6.S.length : Int))] <| OWk.G 1 [(0, Z8 p0), (3, vI y1), (4, vI y3), (35, Z13 x6)] <| OWk.E ?_
            refine SW.B (decide ((x6.S.length : Int) > 200)) (fun hc => ?_) (fun hc => ?_)
            · replace h := bif_t hc h
              refine SW.R 1 [(2, vB false)] <| SW.ret <| blockS_r <| thenS_r ?_
              cases h
              refine thenS_r ?_
              exact ⟨_, rfl, .inr (⟨false, rfl, rfl, EndQ.ret [] (by kernel_rfl) rfl⟩)⟩
            · replace h := bif_f hc h
              refine SW.skip <| blockS_n <| thenS_n <| SW.regionK <| OWk.G 3 [(0, Z8 p0), (3, vI y1), (4, Z15 y3)] <| OWk.D ?_
              cases h
              exact ⟨(IntKind.wrap .i64 (y3 + 1)), rfl, by kernel_rfl⟩
          · replace h := bif_f hc h
            refine SW.K [(0, Z8 p0), (3, vI y1)] <| SW.exit <| thenS_e ?_
            cases h
            refine thenS_e ?_
            exact ⟨_, rfl, .inl ⟨(), rfl, rfl, rfl⟩⟩
        · rintro _ _ (⟨v8, rfl, rfl, rfl⟩ | ⟨r9, rfl, rfl, hE⟩)
          · replace h := sum_l h
            refine blockS_hit <| blockS_n <| thenS_n <| SW.regionK <| OWk.G 3 [(0, Z8 p0), (3, Z15 y1)] <| OWk.D ?_
            cases h
            exact ⟨(IntKind.wrap .i64 (y1 + 1)), rfl, by kernel_rfl⟩
          · replace h := sum_r h
            refine blockS_r <| blockS_r <| thenS_r ?_
            cases h
            refine thenS_r ?_
            exact ⟨_, rfl, .inr (⟨r9, rfl, rfl, hE⟩)⟩
    · replace h := bif_f hc h
      refine SW.K [] <| SW.exit <| thenS_e ?_
      cases h
      refine thenS_e ?_
      exact ⟨_, rfl, .inl ⟨(), rfl, rfl, rfl⟩⟩
  · rintro _ _ (⟨v11, rfl, rfl, rfl⟩ | ⟨r12, rfl, rfl, hE⟩)
    · replace h := sum_l h
      refine blockS_hit <| thenS_n <| SW.R 1 [(2, vB true)] <| SW.ret ?_
      cases h
      exact EndQ.ret [] (by kernel_rfl) rfl
    · replace h := sum_r h
      refine blockS_r <| thenS_r ?_
      cases h
      exact hE
def l_Acts_l1 (fuel : Nat) (p1 : (List Act)) (y1 : Int) : Option ((Int) ⊕ ((Unit) ⊕ ((Bool)))) :=
  bif ((decide (y1 < (p1.length : Int))) && (decide (y1 < 80))) then
    (idx p1 y1).bind fun x2 =>
    (idx p1 y1).bind fun x3 =>
    (l01_Rows fuel [x2.Row, x3.With]).bind fun r4 =>
    bif (!r4) then
      some (.inr (.inr false))
    else
      some (.inl (IntKind.wrap .i64 (y1 + 1)))
  else
    some (.inr (.inl ()))
def l_Acts (fuel : Nat) (p0 : Sorting) (p1 : (List Act)) : Option (Bool) :=
  (iter (l_Acts_l1 fuel p1) fuel 0).bind (Sum.elim (fun v6 =>
    bif (decide ((p1.length : Int) ≤ 80)) then
      bif (decide ((p0.Kinds.length : Int) ≤ 20)) then
        some (decide ((p0.Down.length : Int) ≤ 20))
      else
        some false
    else
      some false) (fun r7 =>
    some r7))
def Z17 (x0 : Int) (x1 : (List Act)) : SV := vB (decide (x0 < (x1.length : Int)))
def Z18 (x0 : (List Act)) : SV := vB (decide ((x0.length : Int) ≤ 80))
def Z19 (x0 : Sorting) : SV := .d (.list 1 (List.map (D.int .i64) x0.Kinds))
def Z20 (x0 : Sorting) : SV := vB (decide ((x0.Kinds.length : Int) ≤ 20))
def Z21 (x0 : Sorting) : SV := .d (.list 1 (List.map D.bool x0.Down))
def Z22 (x0 : Sorting) : SV := vB (decide ((x0.Down.length : Int) ≤ 20))
def Z23 (x0 : Sorting) : SV := vI (x0.Down.length : Int)
def Z24 (x0 : Sorting) : SV := vI (x0.Kinds.length : Int)
theorem l_Acts_ok {fuel : Nat} {p0 : Sorting} {p1 : (List Act)} {r : Bool} (h : l_Acts fuel p0 p1 = some r) : PC Try.prog 5 [.d (encSorting p0), .d (.list 4 (List.map encAct p1))] (vB r) := by
  refine PC.of_SW Try.func5 rfl fun H => ?_
  unfold l_Acts at h
  refine SW.kp 44 H [0, 1] [(0, Z2 p0), (1, Z3 p1)] (by kernel_rfl) <| SW.R 1 [(1, Z3 p1), (2, Z0 p0)] <| SW.seq <| SW.R 1 [(1, Z3 p1), (2, Z0 p0), (5, vI 0)] <| SW.block ?_
  obtain ⟨z5, hit, h⟩ := bind_inv h
  refine SW.it 44 H [1, 2, 5] (fun y1 => [(1, Z3 p1), (2, Z0 p0), (5, vI y1)]) (fun b e s => ((∃ v6, b = (.inl v6) ∧ (e = .exit 0 ∧ s = (sp 44 [(1, Z3 p1), (2, Z0 p0)] H))) ∨ (∃ r7, b = (.inr r7) ∧ (e = .ret ∧ EndQ Try.prog Try.f5.results.toList H (vB r7) .ret s)))) hit (by kernel_rfl) (fun y1 o h => ?_) ?_
  · unfold l_Acts_l1 at h
    refine SW.seq <| SW.S <| OWk.G 2 [(1, Z3 p1), (2, Z0 p0), (5, vI y1), (6, vI y1), (7, Z3 p1)] <| OWk.O (d := some 8) [(1, Z3 p1), (2, Z0 p0), (5, vI y1), (6, vI y1), (8, vI (p1.length : Int))] (BAt.len (enc := encAct) (xs := p1) (by kernel_rfl)) <| OWk.G 2 [(1, Z3 p1), (2, Z0 p0), (5, vI y1), (10, Z17 y1 p1)] <| OWk.M 3 (decide (y1 < (p1.length : Int))) (fun b => [(1, Z3 p1), (2, Z0 p0), (5, vI y1), (10, vB b)]) (fun b => [(1, Z3 p1), (2, Z0 p0), (5, vI y1), (13, vB (b && (decide (y1 < 80))))]) <| OWk.E ?_
    refine SW.B ((decide (y1 < (p1.length : Int))) && (decide (y1 < 80))) (fun hc => ?_) (fun hc => ?_)
    · replace h := bif_t hc h
      refine SW.skip <| thenS_n <| SW.seq <| SW.block <| SW.seq <| SW.regionT 10 (by kernel_rfl) (by kernel_rfl) <| OBk.G 2 [(1, Z3 p1), (2, Z0 p0), (5, vI y1), (16, Z3 p1), (17, vI y1)] ?_
      obtain ⟨x2, hx, h⟩ := bind_inv h
      refine OBk.O (d := some 18) (s := lendP none (Go.Sh.D.cells (encAct x2))) [(1, Z3 p1), (2, Z0 p0), (5, vI y1), (18, .d (.dptr [.int .i64 x2.Kind, .int .i64 x2.Key, .list 3 (List.map encValue x2.Row), .list 3 (List.map encValue x2.With)]))] (BAt.index (n := 4) hx (by kernel_rfl)) <| OBk.G 4 [(1, Z3 p1), (2, Z0 p0), (5, vI y1), (20, Z5 x2), (21, Z3 p1), (22, vI y1)] ?_
      obtain ⟨x3, hx, h⟩ := bind_inv h
      refine OBk.O (d := some 23) (s := lendP none (Go.Sh.D.cells (encAct x3))) [(1, Z3 p1), (2, Z0 p0), (5, vI y1), (20, Z5 x2), (23, .d (.dptr [.int .i64 x3.Kind, .int .i64 x3.Key, .list 3 (List.map encValue x3.Row), .list 3 (List.map encValue x3.With)]))] (BAt.index (n := 4) hx (by kernel_rfl)) <| OBk.G 2 [(1, Z3 p1), (2, Z0 p0), (5, vI y1), (20, Z5 x2), (25, Z6 x3)] <| OBk.done (by kernel_rfl) <| OWk.G 1 [(1, Z3 p1), (2, Z0 p0), (5, vI y1), (26, Z7 x2 x3)] ?_
      obtain ⟨r4, hr, h⟩ := bind_inv h
      refine OWk.C (d := some 27) (ls := [(.slot 26)]) (gs := []) [] [(1, Z3 p1), (2, Z0 p0), (5, vI y1), (27, vB r4)] (l01_Rows_ok hr) <| OWk.G 1 [(1, Z3 p1), (2, Z0 p0), (5, vI y1), (28, vB (!r4))] <| OWk.E ?_
      refine SW.B (!r4) (fun hc => ?_) (fun hc => ?_)
      · replace h := bif_t hc h
        refine SW.R 1 [(4, vB false)] <| SW.ret <| blockS_r <| thenS_r ?_
        cases h
        refine thenS_r ?_
        exact ⟨_, rfl, .inr (⟨false, rfl, rfl, EndQ.ret [] (by kernel_rfl) rfl⟩)⟩
      · replace h := bif_f hc h
        refine SW.skip <| blockS_n <| thenS_n <| SW.regionK <| OWk.G 3 [(1, Z3 p1), (2, Z0 p0), (5, Z15 y1)] <| OWk.D ?_
        cases h
        exact ⟨(IntKind.wrap .i64 (y1 + 1)), rfl, by kernel_rfl⟩
    · replace h := bif_f hc h
      refine SW.K [(1, Z3 p1), (2, Z0 p0)] <| SW.exit <| thenS_e ?_
      cases h
      refine thenS_e ?_
      exact ⟨_, rfl, .inl ⟨(), rfl, rfl, rfl⟩⟩
  · rintro _ _ (⟨v6, rfl, rfl, rfl⟩ | ⟨r7, rfl, rfl, hE⟩)
    · replace h := sum_l h
      refine blockS_hit <| thenS_n <| SW.S <| OWk.G 1 [(2, Z0 p0), (29, Z3 p1)] <| OWk.O (d := some 30) [(2, Z0 p0), (30, vI (p1.length : Int))] (BAt.len (enc := encAct) (xs := p1) (by kernel_rfl)) <| OWk.G 2 [(2, Z0 p0), (32, Z18 p1)] ?_
      refine OWk.case (decide ((p1.length : Int) ≤ 80)) (fun b => (sp 44 [(2, Z0 p0), (32, vB b)] H)) (by kernel_rfl) (fun hc => ?_) (fun hc => ?_)
      · replace h := bif_t hc h
        refine OWk.G 2 [(2, Z0 p0), (32, vB true), (34, Z19 p0)] <| OWk.O (d := some 35) [(2, Z0 p0), (32, vB true), (35, Z24 p0)] (BAt.len (enc := (D.int .i64)) (xs := p0.Kinds) (by kernel_rfl)) <| OWk.G 3 [(2, Z0 p0), (38, Z20 p0)] ?_
        refine OWk.case (decide ((p0.Kinds.length : Int) ≤ 20)) (fun b => (sp 44 [(2, Z0 p0), (38, vB b)] H)) (by kernel_rfl) (fun hc => ?_) (fun hc => ?_)
        · replace h := bif_t hc h
          refine OWk.G 2 [(38, vB true), (40, Z21 p0)] <| OWk.O (d := some 41) [(38, vB true), (41, Z23 p0)] (BAt.len (enc := D.bool) (xs := p0.Down) (by kernel_rfl)) <| OWk.G 3 [(4, Z22 p0)] <| OWk.E <| SW.ret ?_
          cases h
          exact EndQ.ret [] (by kernel_rfl) rfl
        · replace h := bif_f hc h
          refine OWk.G 6 [(4, vB false)] <| OWk.E <| SW.ret ?_
          cases h
          exact EndQ.ret [] (by kernel_rfl) rfl
      · replace h := bif_f hc h
        refine OWk.G 12 [(4, vB false)] <| OWk.E <| SW.ret ?_
        cases h
        exact EndQ.ret [] (by kernel_rfl) rfl
    · replace h := sum_r h
      refine blockS_r <| thenS_r ?_
      cases h
      exact hE
def t_kind (fuel : Nat) (p0 : Int) : Option (Bool) :=
  some ((p0 == 1) || (p0 == 2))
def Z25 : SV := .own 1 (List.map (D.int .i64) [1])
def Z26 : SV := .own 1 (List.map D.bool [false])
def Z27 : SV := .d (.agg [.list 1 (List.map (D.int .i64) [1]), .list 1 (List.map D.bool [false]), .int .i64 2])
def Z28 (x0 : Sorting) : SV := vB (decide ((x0.Kinds.length : Int) ≥ 1))
def Z29 (x0 : Sorting) : SV := vB (decide ((x0.Kinds.length : Int) ≤ 8))
def Z30 (x0 : Sorting) : SV := vB ((x0.Down.length : Int) == (x0.Kinds.length : Int))
def Z31 (x0 : Sorting) : SV := vB (((x0.Down.length : Int) == (x0.Kinds.length : Int)) && (decide (x0.Dup ≥ 1)))
def Z32 (x0 : Sorting) : SV := vB ((((x0.Down.length : Int) == (x0.Kinds.length : Int)) && (decide (x0.Dup ≥ 1))) && (decide (x0.Dup ≤ 3)))
def Z33 (x0 : (List Int)) : SV := .d (.list 1 (List.map (D.int .i64) x0))
def Z34 : SV := .d (.fn (.func 26) [] [])
def Z36 (x0 : Int) : SV := vB ((x0 == 1) || (x0 == 2))
theorem t_kind_ok {fuel : Nat} {p0 : Int} {r : Bool} (h : t_kind fuel p0 = some r) : PC Try.prog 27 [vI p0] (vB r) := by
  refine PC.of_SW Try.func27 rfl fun H => ?_
  unfold t_kind at h
  refine SW.kp 9 H [0] [(0, vI p0)] (by kernel_rfl) <| SW.R 1 [(0, vI p0)] <| SW.S <| OWk.G 3 [(0, vI p0), (5, vB (p0 == 1))] <| OWk.M 3 (p0 == 1) (fun b => [(0, vI p0), (5, vB b)]) (fun b => [(8, vB (b || (p0 == 2)))]) <| OWk.G 1 [(2, Z36 p0)] <| OWk.E <| SW.ret ?_
  cases h
  exact EndQ.ret [] (by kernel_rfl) rfl
def t_Valid_1 (fuel : Nat) (p0 : Int) : Option (Bool) :=
  (t_kind fuel p0).bind fun r1 =>
  some (!r1)
theorem t_Valid_1_ok {fuel : Nat} {p0 : Int} {r : Bool} (h : t_Valid_1 fuel p0 = some r) : PC Try.prog 26 [vI p0] (vB r) := by
  refine PC.of_SW Try.func26 rfl fun H => ?_
  unfold t_Valid_1 at h
  refine SW.kp 6 H [0] [(0, vI p0)] (by kernel_rfl) <| SW.R 1 [(0, vI p0)] <| SW.S <| OWk.G 1 [(3, vI p0)] ?_
  obtain ⟨r1, hr, h⟩ := bind_inv h
  refine OWk.C0 (some 4) [(4, vB r1)] (t_kind_ok hr) <| OWk.G 2 [(2, vB (!r1))] <| OWk.E <| SW.ret ?_
  cases h
  exact EndQ.ret [] (by kernel_rfl) rfl
def slices_IndexFunc__t_Valid_1_l1 (fuel : Nat) (p0 : (List Int)) (y1 : Int) : Option ((Int) ⊕ ((Unit) ⊕ ((Int)))) :=
  bif (decide (y1 < (p0.length : Int))) then
    (idx p0 y1).bind fun x2 =>
    (t_Valid_1 fuel x2).bind fun r3 =>
    bif r3 then
      some (.inr (.inr y1))
    else
      some (.inl (IntKind.wrap .i64 (y1 + 1)))
  else
    some (.inr (.inl ()))
def slices_IndexFunc__t_Valid_1 (fuel : Nat) (p0 : (List Int)) : Option (Int) :=
  (iter (slices_IndexFunc__t_Valid_1_l1 fuel p0) fuel 0).bind (Sum.elim (fun v5 =>
    some (-1)) (fun r6 =>
    some r6))
def Z37 (x0 : Int) (x1 : (List Int)) : SV := vB (decide (x0 < (x1.length : Int)))
theorem slices_IndexFunc__t_Valid_1_ok {fuel : Nat} {p0 : (List Int)} {r : Int} (h : slices_IndexFunc__t_Valid_1 fuel p0 = some r) : PC Try.prog 50 [.d (.list 1 (List.map (D.int .i64) p0)), .d (.fn (.func 26) [] [])] (vI r) := by
  refine PC.of_SW Try.func50 rfl fun H => ?_
  unfold slices_IndexFunc__t_Valid_1 at h
  refine SW.kp 19 H [0, 1] [(0, Z33 p0), (1, Z34)] (by kernel_rfl) <| SW.R 1 [(0, Z33 p0), (1, Z34)] <| SW.seq <| SW.S <| OWk.G 1 [(0, Z33 p0), (1, Z34), (6, Z33 p0)] <| OWk.O (d := some 7) [(0, Z33 p0), (1, Z34), (7, vI (p0.length : Int))] (BAt.len (enc := (D.int .i64)) (xs := p0) (by kernel_rfl)) <| OWk.G 1 [(0, Z33 p0), (1, Z34), (7, vI (p0.length : Int)), (8, vI 0)] <| OWk.E <| SW.block ?_
  obtain ⟨z4, hit, h⟩ := bind_inv h
  refine SW.it 19 H [0, 1, 7, 8] (fun y1 => [(0, Z33 p0), (1, Z34), (7, vI (p0.length : Int)), (8, vI y1)]) (fun b e s => ((∃ v5, b = (.inl v5) ∧ (e = .exit 0 ∧ s = (sp 19 [] H))) ∨ (∃ r6, b = (.inr r6) ∧ (e = .ret ∧ EndQ Try.prog Try.f50.results.toList H (vI r6) .ret s)))) hit (by kernel_rfl) (fun y1 o h => ?_) ?_
  · unfold slices_IndexFunc__t_Valid_1_l1 at h
    refine SW.R 1 [(0, Z33 p0), (1, Z34), (7, vI (p0.length : Int)), (8, vI y1), (9, Z37 y1 p0)] <| SW.seq ?_
    refine SW.B (decide (y1 < (p0.length : Int))) (fun hc => ?_) (fun hc => ?_)
    · replace h := bif_t hc h
      refine SW.skip <| thenS_n <| SW.seq <| SW.block <| SW.R 1 [(0, Z33 p0), (1, Z34), (5, vI y1), (7, vI (p0.length : Int)), (8, vI y1)] <| SW.S <| OWk.G 3 [(0, Z33 p0), (1, Z34), (5, vI y1), (7, vI (p0.length : Int)), (8, vI y1), (11, Z34), (12, Z33 p0), (13, vI y1)] ?_
      obtain ⟨x2, hx, h⟩ := bind_inv h
      refine OWk.O (d := some 14) (s := lendP none (Go.Sh.D.cells ((D.int .i64) x2))) [(0, Z33 p0), (1, Z34), (5, vI y1), (7, vI (p0.length : Int)), (8, vI y1), (11, Z34), (14, .d (.dptr [.int .i64 x2]))] (BAt.index (n := 1) hx (by kernel_rfl)) <| OWk.G 1 [(0, Z33 p0), (1, Z34), (5, vI y1), (7, vI (p0.length : Int)), (8, vI y1), (11, Z34), (15, vI x2)] ?_
      obtain ⟨r3, hr, h⟩ := bind_inv h
      refine OWk.C0 (some 16) [(0, Z33 p0), (1, Z34), (5, vI y1), (7, vI (p0.length : Int)), (8, vI y1), (16, vB r3)] (t_Valid_1_ok hr) <| OWk.E ?_
      refine SW.B r3 (fun hc => ?_) (fun hc => ?_)
      · replace h := bif_t hc h
        refine SW.R 1 [(4, vI y1)] <| SW.ret <| blockS_r <| thenS_r ?_
        cases h
        refine thenS_r ?_
        exact ⟨_, rfl, .inr (⟨y1, rfl, rfl, EndQ.ret [] (by kernel_rfl) rfl⟩)⟩
      · replace h := bif_f hc h
        refine SW.skip <| blockS_n <| thenS_n <| SW.regionK <| OWk.G 2 [(0, Z33 p0), (1, Z34), (7, vI (p0.length : Int)), (8, Z15 y1)] <| OWk.D ?_
        cases h
        exact ⟨(IntKind.wrap .i64 (y1 + 1)), rfl, by kernel_rfl⟩
    · replace h := bif_f hc h
      refine SW.K [] <| SW.exit <| thenS_e ?_
      cases h
      refine thenS_e ?_
      exact ⟨_, rfl, .inl ⟨(), rfl, rfl, rfl⟩⟩
  · rintro _ _ (⟨v5, rfl, rfl, rfl⟩ | ⟨r6, rfl, rfl, hE⟩)
    · replace h := sum_l h
      refine blockS_hit <| thenS_n <| SW.R 1 [(4, vI (-1))] <| SW.ret ?_
      cases h
      exact EndQ.ret [] (by kernel_rfl) rfl
    · replace h := sum_r h
      refine blockS_r <| thenS_r ?_
      cases h
      exact hE
def slices_ContainsFunc__t_Valid_1 (fuel : Nat) (p0 : (List Int)) : Option (Bool) :=
  (slices_IndexFunc__t_Valid_1 fuel p0).bind fun r1 =>
  some (decide (r1 ≥ 0))
theorem slices_ContainsFunc__t_Valid_1_ok {fuel : Nat} {p0 : (List Int)} {r : Bool} (h : slices_ContainsFunc__t_Valid_1 fuel p0 = some r) : PC Try.prog 25 [.d (.list 1 (List.map (D.int .i64) p0)), .d (.fn (.func 26) [] [])] (vB r) := by
  refine PC.of_SW Try.func25 rfl fun H => ?_
  unfold slices_ContainsFunc__t_Valid_1 at h
  refine SW.kp 9 H [0, 1] [(0, Z33 p0), (1, Z34)] (by kernel_rfl) <| SW.R 1 [(0, Z33 p0), (1, Z34)] <| SW.S <| OWk.G 2 [(5, Z33 p0), (6, Z34)] ?_
  obtain ⟨r1, hr, h⟩ := bind_inv h
  refine OWk.C0 (some 7) [(7, vI r1)] (slices_IndexFunc__t_Valid_1_ok hr) <| OWk.G 2 [(4, vB (decide (r1 ≥ 0)))] <| OWk.E <| SW.ret ?_
  cases h
  exact EndQ.ret [] (by kernel_rfl) rfl
def t_Valid (fuel : Nat) (p0 : Sorting) : Option (Bool) :=
  bif (decide ((p0.Kinds.length : Int) ≥ 1)) then
    bif (decide ((p0.Kinds.length : Int) ≤ 8)) then
      bif ((((p0.Down.length : Int) == (p0.Kinds.length : Int)) && (decide (p0.Dup ≥ 1))) && (decide (p0.Dup ≤ 3))) then
        (slices_ContainsFunc__t_Valid_1 fuel p0.Kinds).bind fun r1 =>
        some (!r1)
      else
        some false
    else
      some false
  else
    some false
theorem t_Valid_ok {fuel : Nat} {p0 : Sorting} {r : Bool} (h : t_Valid fuel p0 = some r) : PC Try.prog 10 [.d (encSorting p0)] (vB r) := by
  refine PC.of_SW Try.func10 rfl fun H => ?_
  unfold t_Valid at h
  refine SW.kp 38 H [0] [(0, Z2 p0)] (by kernel_rfl) <| SW.R 1 [(1, Z0 p0)] <| SW.S <| OWk.G 2 [(1, Z0 p0), (4, Z19 p0)] <| OWk.O (d := some 5) [(1, Z0 p0), (5, Z24 p0)] (BAt.len (enc := (D.int .i64)) (xs := p0.Kinds) (by kernel_rfl)) <| OWk.G 2 [(1, Z0 p0), (7, Z28 p0)] ?_
  refine OWk.case (decide ((p0.Kinds.length : Int) ≥ 1)) (fun b => (sp 38 [(1, Z0 p0), (7, vB b)] H)) (by kernel_rfl) (fun hc => ?_) (fun hc => ?_)
  · replace h := bif_t hc h
    refine OWk.G 2 [(1, Z0 p0), (7, vB true), (9, Z19 p0)] <| OWk.O (d := some 10) [(1, Z0 p0), (7, vB true), (10, Z24 p0)] (BAt.len (enc := (D.int .i64)) (xs := p0.Kinds) (by kernel_rfl)) <| OWk.G 3 [(1, Z0 p0), (13, Z29 p0)] ?_
    refine OWk.case (decide ((p0.Kinds.length : Int) ≤ 8)) (fun b => (sp 38 [(1, Z0 p0), (13, vB b)] H)) (by kernel_rfl) (fun hc => ?_) (fun hc => ?_)
    · replace h := bif_t hc h
      refine OWk.G 2 [(1, Z0 p0), (13, vB true), (15, Z21 p0)] <| OWk.O (d := some 16) [(1, Z0 p0), (13, vB true), (16, Z23 p0)] (BAt.len (enc := D.bool) (xs := p0.Down) (by kernel_rfl)) <| OWk.G 2 [(1, Z0 p0), (13, vB true), (16, Z23 p0), (18, Z19 p0)] <| OWk.O (d := some 19) [(1, Z0 p0), (13, vB true), (16, Z23 p0), (19, Z24 p0)] (BAt.len (enc := (D.int .i64)) (xs := p0.Kinds) (by kernel_rfl)) <| OWk.G 3 [(1, Z0 p0), (22, Z30 p0)] <| OWk.M 4 ((p0.Down.length : Int) == (p0.Kinds.length : Int)) (fun b => [(1, Z0 p0), (22, vB b)]) (fun b => [(1, Z0 p0), (26, vB (b && (decide (p0.Dup ≥ 1))))]) <| OWk.G 1 [(1, Z0 p0), (27, Z31 p0)] <| OWk.M 4 (((p0.Down.length : Int) == (p0.Kinds.length : Int)) && (decide (p0.Dup ≥ 1))) (fun b => [(1, Z0 p0), (27, vB b)]) (fun b => [(1, Z0 p0), (31, vB (b && (decide (p0.Dup ≤ 3))))]) <| OWk.G 1 [(1, Z0 p0), (32, Z32 p0)] ?_
      refine OWk.case ((((p0.Down.length : Int) == (p0.Kinds.length : Int)) && (decide (p0.Dup ≥ 1))) && (decide (p0.Dup ≤ 3))) (fun b => (sp 38 [(1, Z0 p0), (32, vB b)] H)) (by kernel_rfl) (fun hc => ?_) (fun hc => ?_)
      · replace h := bif_t hc h
        refine OWk.G 2 [(32, vB true), (34, Z19 p0)] ?_
        obtain ⟨r1, hr, h⟩ := bind_inv h
        refine OWk.C0 (some 35) [(32, vB true), (35, vB r1)] (slices_ContainsFunc__t_Valid_1_ok hr) <| OWk.G 3 [(2, vB (!r1))] <| OWk.E <| SW.ret ?_
        cases h
        exact EndQ.ret [] (by kernel_rfl) rfl
      · replace h := bif_f hc h
        refine OWk.G 6 [(2, vB false)] <| OWk.E <| SW.ret ?_
        cases h
        exact EndQ.ret [] (by kernel_rfl) rfl
    · replace h := bif_f hc h
      refine OWk.G 25 [(2, vB false)] <| OWk.E <| SW.ret ?_
      cases h
      exact EndQ.ret [] (by kernel_rfl) rfl
  · replace h := bif_f hc h
    refine OWk.G 31 [(2, vB false)] <| OWk.E <| SW.ret ?_
    cases h
    exact EndQ.ret [] (by kernel_rfl) rfl
def slices_Clone (fuel : Nat) (p0 : (List Int)) : Option ((List Int)) :=
  nilB p0 fun b1 =>
  bif b1 then
    some ([] : List Int)
  else
    chk (decide ((([] : List Int) ++ p0).length ≤ room)) <|
    some (([] : List Int) ++ p0)
def Z38 (x0 : Int) : SV := vB ((decide (x0 < 3)) || (decide (x0 > 32)))
def Z39 : SV := .own 1 (List.map (D.int .i64) ([] : List Int))
def Z40 (x0 : (List Int)) : SV := .own 1 (List.map (D.int .i64) (([] : List Int) ++ x0))
theorem slices_Clone_ok {fuel : Nat} {p0 : (List Int)} {r : (List Int)} (h : slices_Clone fuel p0 = some r) : PC Try.prog 30 [.d (.list 1 (List.map (D.int .i64) p0))] (.own 1 (List.map (D.int .i64) r)) := by
  refine PC.of_SW Try.func30 rfl fun H => ?_
  unfold slices_Clone at h
  refine SW.kp 8 H [0] [(0, Z33 p0)] (by kernel_rfl) <| SW.R 1 [(0, Z33 p0)] <| SW.seq <| SW.S <| OWk.G 1 [(0, Z33 p0), (3, Z33 p0)] ?_
  refine OWk.nilq (xs := List.map (D.int .i64) p0) (d := some 4) (e := true) 8 H [0, 4] (fun b1 => [(0, Z33 p0), (4, vB b1)]) (by kernel_rfl) (fun _ => by kernel_rfl) (fun b1 hnil => ?_)
  replace h := nilB_inv h b1 (fun e => List.map_eq_nil_iff.1 (hnil e))
  refine OWk.E ?_
  refine SW.B b1 (fun hc => ?_) (fun hc => ?_)
  · replace h := bif_t hc h
    refine SW.R 1 [(2, Z39)] <| SW.ret <| thenS_r ?_
    cases h
    exact EndQ.ret [] (by kernel_rfl) rfl
  · replace h := bif_f hc h
    refine SW.skip <| thenS_n <| SW.S <| OWk.sg 8 H [5] [5, 6] 2 [(5, Z39), (6, Z33 p0)] (by kernel_rfl) ?_
    obtain ⟨hk, h⟩ := chk_inv h
    refine OWk.app 8 H (s := 5) (d := 7) (w := 1) [7] (zs := List.map (D.int .i64) (([] : List Int) ++ p0)) [(7, Z40 p0)] (ys := (List.map (D.int .i64) p0)) (by kernel_rfl) (map_append') (room_map hk) (by kernel_rfl) <| OWk.sg 8 H [5] [2] 1 [(2, Z40 p0)] (by kernel_rfl) <| OWk.E <| SW.ret ?_
    cases h
    exact EndQ.ret [] (by kernel_rfl) rfl
def slices_Clone_f40 (fuel : Nat) (p0 : (List Bool)) : Option ((List Bool)) :=
  nilB p0 fun b1 =>
  bif b1 then
    some ([] : List Bool)
  else
    chk (decide ((([] : List Bool) ++ p0).length ≤ room)) <|
    some (([] : List Bool) ++ p0)
def Z41 (x0 : (List Bool)) : SV := .d (.list 1 (List.map D.bool x0))
def Z42 : SV := .own 1 (List.map D.bool ([] : List Bool))
def Z43 (x0 : (List Bool)) : SV := .own 1 (List.map D.bool (([] : List Bool) ++ x0))
theorem slices_Clone_f40_ok {fuel : Nat} {p0 : (List Bool)} {r : (List Bool)} (h : slices_Clone_f40 fuel p0 = some r) : PC Try.prog 40 [.d (.list 1 (List.map D.bool p0))] (.own 1 (List.map D.bool r)) := by
  refine PC.of_SW Try.func40 rfl fun H => ?_
  unfold slices_Clone_f40 at h
  refine SW.kp 8 H [0] [(0, Z41 p0)] (by kernel_rfl) <| SW.R 1 [(0, Z41 p0)] <| SW.seq <| SW.S <| OWk.G 1 [(0, Z41 p0), (3, Z41 p0)] ?_
  refine OWk.nilq (xs := List.map D.bool p0) (d := some 4) (e := true) 8 H [0, 4] (fun b1 => [(0, Z41 p0), (4, vB b1)]) (by kernel_rfl) (fun _ => by kernel_rfl) (fun b1 hnil => ?_)
  replace h := nilB_inv h b1 (fun e => List.map_eq_nil_iff.1 (hnil e))
  refine OWk.E ?_
  refine SW.B b1 (fun hc => ?_) (fun hc => ?_)
  · replace h := bif_t hc h
    refine SW.R 1 [(2, Z42)] <| SW.ret <| thenS_r ?_
    cases h
    exact EndQ.ret [] (by kernel_rfl) rfl
  · replace h := bif_f hc h
    refine SW.skip <| thenS_n <| SW.S <| OWk.sg 8 H [5] [5, 6] 2 [(5, Z42), (6, Z41 p0)] (by kernel_rfl) ?_
    obtain ⟨hk, h⟩ := chk_inv h
    refine OWk.app 8 H (s := 5) (d := 7) (w := 1) [7] (zs := List.map D.bool (([] : List Bool) ++ p0)) [(7, Z43 p0)] (ys := (List.map D.bool p0)) (by kernel_rfl) (map_append') (room_map hk) (by kernel_rfl) <| OWk.sg 8 H [5] [2] 1 [(2, Z43 p0)] (by kernel_rfl) <| OWk.E <| SW.ret ?_
    cases h
    exact EndQ.ret [] (by kernel_rfl) rfl
def t_New (fuel : Nat) (p0 : Sorting) (p1 : Int) (H : Hp) : Option (((Option Nat) × Int) × Hp) :=
  (t_Valid fuel p0).bind fun r1 =>
  bif (!r1) then
    some ((none, 1), H)
  else
    bif ((decide (p1 < 3)) || (decide (p1 > 32))) then
      some ((none, 7), H)
    else
      (slices_Clone fuel p0.Kinds).bind fun r2 =>
      (slices_Clone_f40 fuel p0.Down).bind fun r3 =>
      (hNew H (.cells [.own 3 (List.map encEntry ([] : List Entry)), .own 1 (List.map cP.enc ([] : List (Option Nat)))])).bind fun q4 =>
      (hNew q4.1 (.cells [.d (.list 1 (List.map (D.int .i64) r2)), .d (.list 1 (List.map D.bool r3)), .d (.int .i64 p0.Dup), .d (.int .i64 p1), .d (.ptr q4.2 0), .d (.int .i64 0), .d (.int .i64 0)])).bind fun q5 =>
      some (((some q5.2), 0), q5.1)
def Z44 (x0 : (List Int)) : SV := .own 1 (List.map (D.int .i64) x0)
def Z45 (x0 : (List Bool)) : SV := .own 1 (List.map D.bool x0)
def Z46 (x0 : (List Int)) (x1 : Sorting) : SV := .box [.d (.list 1 (List.map (D.int .i64) x0)), .d (.list 1 (List.map D.bool x1.Down)), vI x1.Dup]
def Z47 (x0 : (List Int)) (x1 : (List Bool)) (x2 : Sorting) : SV := .box [.d (.list 1 (List.map (D.int .i64) x0)), .d (.list 1 (List.map D.bool x1)), vI x2.Dup]
def Z48 (x0 : (List Int)) (x1 : (List Bool)) (x2 : Sorting) : SV := .d (.agg [.list 1 (List.map (D.int .i64) x0), .list 1 (List.map D.bool x1), .int .i64 x2.Dup])
def Z49 : SV := .d (.agg [.nilS, .nilS])
def Z51 (x0 : (List Int)) (x1 : (List Bool)) (x2 : Sorting) (x3 : Int) (x4 : (Hp × Nat)) : SV := .d (.agg [.list 1 (List.map (D.int .i64) x0), .list 1 (List.map D.bool x1), .int .i64 x2.Dup, .int .i64 x3, .ptr x4.2 0, .int .i64 0, .int .i64 0])
theorem t_New_ok {fuel : Nat} {p0 : Sorting} {p1 : Int} {H : Hp} {r : ((Option Nat) × Int) × Hp} (h : t_New fuel p0 p1 H = some r) : SC Try.prog false 17 [.d (encSorting p0), vI p1] H (.tup [.d (cP.enc r.1.1), vI r.1.2]) r.2 := by
  refine SC.of_SWh Try.func17 rfl ?_
  unfold t_New at h
  refine SW.kp 31 H [0, 1] [(0, Z2 p0), (1, vI p1)] (by kernel_rfl) <| SW.R 1 [(1, vI p1), (2, Z0 p0)] <| SW.seq <| SW.block <| SW.S <| OWk.G 1 [(1, vI p1), (2, Z0 p0), (7, Z2 p0)] ?_
  obtain ⟨r1, hr, h⟩ := bind_inv h
  refine OWk.C0 (some 8) [(1, vI p1), (2, Z0 p0), (8, vB r1)] (t_Valid_ok hr) <| OWk.G 2 [(1, vI p1), (2, Z0 p0), (6, vB (!r1))] <| OWk.E ?_
  refine SW.B (!r1) (fun hc => ?_) (fun hc => ?_)
  · replace h := bif_t hc h
    refine SW.R 1 [(4, .d (.nilPtr)), (5, vI 1)] <| SW.ret <| blockS_r <| thenS_r ?_
    cases h
    exact EndQ.ret [] (by kernel_rfl) rfl
  · replace h := bif_f hc h
    refine SW.S <| OWk.G 3 [(1, vI p1), (2, Z0 p0), (13, vB (decide (p1 < 3)))] <| OWk.M 3 (decide (p1 < 3)) (fun b => [(1, vI p1), (2, Z0 p0), (13, vB b)]) (fun b => [(1, vI p1), (2, Z0 p0), (16, vB (b || (decide (p1 > 32))))]) <| OWk.G 1 [(1, vI p1), (2, Z0 p0), (10, Z38 p1)] <| OWk.E ?_
    refine SW.B ((decide (p1 < 3)) || (decide (p1 > 32))) (fun hc => ?_) (fun hc => ?_)
    · replace h := bif_t hc h
      refine SW.R 1 [(4, .d (.nilPtr)), (5, vI 7)] <| SW.ret <| blockS_r <| thenS_r ?_
      cases h
      exact EndQ.ret [] (by kernel_rfl) rfl
    · replace h := bif_f hc h
      refine SW.skip <| blockS_n <| thenS_n <| SW.seq ?_
      obtain ⟨r2, hr_2, h⟩ := bind_inv h
      obtain ⟨r3, hr_5, h⟩ := bind_inv h
      refine SW.K [(1, vI p1), (2, Z0 p0)] ?_
      refine SW.regX 31 H [(1, vI p1), (2, Z47 r2 r3 p0)] (by kernel_rfl) (fun X hX => ?_) ?_
      · have c1023 : X 0 1023 (sp 31 [(1, vI p1), (2, Z47 r2 r3 p0)] H) := by subst hX; exact OX.fin (by kernel_rfl)
        have c511 : X 1 511 (sp 31 [(1, vI p1), (2, Z46 r2 p0), (22, Z45 r3), (24, .loc 2 1)] H) := by
          subst hX
          refine OX.step (i0 := 9) (is := []) (by kernel_rfl) (by kernel_rfl) ⟨?_, trivial⟩
          · refine OWk.fz 31 H 22 [1, 2, 22, 24] [(1, vI p1), (2, Z46 r2 p0), (22, Z41 r3), (24, .loc 2 1)] (by kernel_rfl) <| OWk.G 1 [(1, vI p1), (2, Z47 r2 r3 p0)] <| OWk.D ?_
            exact c1023
        have c255 : X 2 255 (sp 31 [(1, vI p1), (2, Z46 r2 p0), (22, Z45 r3)] H) := by
          subst hX
          refine OX.step (i0 := 8) (is := []) (by kernel_rfl) (by kernel_rfl) ⟨?_, trivial⟩
          · refine OWk.G 1 [(1, vI p1), (2, Z46 r2 p0), (22, Z45 r3), (24, .loc 2 1)] <| OWk.D ?_
            exact c511
        have c127 : X 3 127 (sp 31 [(1, vI p1), (2, Z0 p0), (19, Z44 r2), (22, Z45 r3), (23, .loc 2 0)] H) := by
          subst hX
          refine OX.step (i0 := 7) (is := []) (by kernel_rfl) (by kernel_rfl) ⟨?_, trivial⟩
          · refine OWk.fz 31 H 19 [1, 2, 19, 22, 23] [(1, vI p1), (2, Z0 p0), (19, Z33 r2), (22, Z45 r3), (23, .loc 2 0)] (by kernel_rfl) <| OWk.G 1 [(1, vI p1), (2, Z46 r2 p0), (22, Z45 r3)] <| OWk.D ?_
            exact c255
        have c63 : X 4 63 (sp 31 [(1, vI p1), (2, Z0 p0), (19, Z44 r2), (22, Z45 r3)] H) := by
          subst hX
          refine OX.step (i0 := 6) (is := []) (by kernel_rfl) (by kernel_rfl) ⟨?_, trivial⟩
          · refine OWk.G 1 [(1, vI p1), (2, Z0 p0), (19, Z44 r2), (22, Z45 r3), (23, .loc 2 0)] <| OWk.D ?_
            exact c127
        have c95 : X 4 95 (sp 31 [(1, vI p1), (2, Z0 p0), (19, Z44 r2), (21, Z21 p0), (23, .loc 2 0)] H) := by
          subst hX
          refine OX.step (i0 := 5) (is := []) (by kernel_rfl) (by kernel_rfl) ⟨?_, trivial⟩
          · refine OWk.C0 (some 22) [(1, vI p1), (2, Z0 p0), (19, Z44 r2), (22, Z45 r3), (23, .loc 2 0)] (slices_Clone_f40_ok hr_5) <| OWk.D ?_
            exact c127
        have c31 : X 5 31 (sp 31 [(1, vI p1), (2, Z0 p0), (19, Z44 r2), (21, Z21 p0)] H) := by
          subst hX
          refine OX.step (i0 := 5) (is := [6]) (by kernel_rfl) (by kernel_rfl) ⟨?_, ?_, trivial⟩
          · refine OWk.C0 (some 22) [(1, vI p1), (2, Z0 p0), (19, Z44 r2), (22, .own 1 (List.map D.bool r3))] (slices_Clone_f40_ok hr_5) <| OWk.D ?_
            exact c63
          · refine OWk.G 1 [(1, vI p1), (2, Z0 p0), (19, Z44 r2), (21, Z21 p0), (23, .loc 2 0)] <| OWk.D ?_
            exact c95
        have c15 : X 6 15 (sp 31 [(1, vI p1), (2, Z0 p0), (19, Z44 r2), (20, .loc 2 1)] H) := by
          subst hX
          refine OX.step (i0 := 4) (is := []) (by kernel_rfl) (by kernel_rfl) ⟨?_, trivial⟩
          · refine OWk.G 1 [(1, vI p1), (2, Z0 p0), (19, Z44 r2), (21, Z21 p0)] <| OWk.D ?_
            exact c31
        have c7 : X 7 7 (sp 31 [(1, vI p1), (2, Z0 p0), (19, Z44 r2)] H) := by
          subst hX
          refine OX.step (i0 := 3) (is := []) (by kernel_rfl) (by kernel_rfl) ⟨?_, trivial⟩
          · refine OWk.G 1 [(1, vI p1), (2, Z0 p0), (19, Z44 r2), (20, .loc 2 1)] <| OWk.D ?_
            exact c15
        have c27 : X 6 27 (sp 31 [(1, vI p1), (2, Z0 p0), (18, Z19 p0), (21, Z21 p0)] H) := by
          subst hX
          refine OX.step (i0 := 2) (is := []) (by kernel_rfl) (by kernel_rfl) ⟨?_, trivial⟩
          · refine OWk.C0 (some 19) [(1, vI p1), (2, Z0 p0), (19, Z44 r2), (21, Z21 p0)] (slices_Clone_ok hr_2) <| OWk.D ?_
            exact c31
        have c11 : X 7 11 (sp 31 [(1, vI p1), (2, Z0 p0), (18, Z19 p0), (20, .loc 2 1)] H) := by
          subst hX
          refine OX.step (i0 := 2) (is := [4]) (by kernel_rfl) (by kernel_rfl) ⟨?_, ?_, trivial⟩
          · refine OWk.C0 (some 19) [(1, vI p1), (2, Z0 p0), (19, Z44 r2), (20, .loc 2 1)] (slices_Clone_ok hr_2) <| OWk.D ?_
            exact c15
          · refine OWk.G 1 [(1, vI p1), (2, Z0 p0), (18, Z19 p0), (21, Z21 p0)] <| OWk.D ?_
            exact c27
        have c3 : X 8 3 (sp 31 [(1, vI p1), (2, Z0 p0), (18, Z19 p0)] H) := by
          subst hX
          refine OX.step (i0 := 2) (is := [3]) (by kernel_rfl) (by kernel_rfl) ⟨?_, ?_, trivial⟩
          · refine OWk.C0 (some 19) [(1, vI p1), (2, Z0 p0), (19, .own 1 (List.map (D.int .i64) r2))] (slices_Clone_ok hr_2) <| OWk.D ?_
            exact c7
          · refine OWk.G 1 [(1, vI p1), (2, Z0 p0), (18, Z19 p0), (20, .loc 2 1)] <| OWk.D ?_
            exact c11
        have c25 : X 7 25 (sp 31 [(1, vI p1), (2, Z0 p0), (17, .loc 2 0), (21, Z21 p0)] H) := by
          subst hX
          refine OX.step (i0 := 1) (is := []) (by kernel_rfl) (by kernel_rfl) ⟨?_, trivial⟩
          · refine OWk.G 1 [(1, vI p1), (2, Z0 p0), (18, Z19 p0), (21, Z21 p0)] <| OWk.D ?_
            exact c27
        have c9 : X 8 9 (sp 31 [(1, vI p1), (2, Z0 p0), (17, .loc 2 0), (20, .loc 2 1)] H) := by
          subst hX
          refine OX.step (i0 := 1) (is := [4]) (by kernel_rfl) (by kernel_rfl) ⟨?_, ?_, trivial⟩
          · refine OWk.G 1 [(1, vI p1), (2, Z0 p0), (18, Z19 p0), (20, .loc 2 1)] <| OWk.D ?_
            exact c11
          · refine OWk.G 1 [(1, vI p1), (2, Z0 p0), (17, .loc 2 0), (21, Z21 p0)] <| OWk.D ?_
            exact c25
        have c1 : X 9 1 (sp 31 [(1, vI p1), (2, Z0 p0), (17, .loc 2 0)] H) := by
          subst hX
          refine OX.step (i0 := 1) (is := [3]) (by kernel_rfl) (by kernel_rfl) ⟨?_, ?_, trivial⟩
          · refine OWk.G 1 [(1, vI p1), (2, Z0 p0), (18, Z19 p0)] <| OWk.D ?_
            exact c3
          · refine OWk.G 1 [(1, vI p1), (2, Z0 p0), (17, .loc 2 0), (20, .loc 2 1)] <| OWk.D ?_
            exact c9
        have c24 : X 8 24 (sp 31 [(1, vI p1), (2, Z0 p0), (21, Z21 p0)] H) := by
          subst hX
          refine OX.step (i0 := 0) (is := []) (by kernel_rfl) (by kernel_rfl) ⟨?_, trivial⟩
          · refine OWk.G 1 [(1, vI p1), (2, Z0 p0), (17, .loc 2 0), (21, Z21 p0)] <| OWk.D ?_
            exact c25
        have c8 : X 9 8 (sp 31 [(1, vI p1), (2, Z0 p0), (20, .loc 2 1)] H) := by
          subst hX
          refine OX.step (i0 := 0) (is := [4]) (by kernel_rfl) (by kernel_rfl) ⟨?_, ?_, trivial⟩
          · refine OWk.G 1 [(1, vI p1), (2, Z0 p0), (17, .loc 2 0), (20, .loc 2 1)] <| OWk.D ?_
            exact c9
          · refine OWk.G 1 [(1, vI p1), (2, Z0 p0), (21, Z21 p0)] <| OWk.D ?_
            exact c24
        have c0 : X 10 0 (sp 31 [(1, vI p1), (2, Z0 p0)] H) := by
          subst hX
          refine OX.step (i0 := 0) (is := [3]) (by kernel_rfl) (by kernel_rfl) ⟨?_, ?_, trivial⟩
          · refine OWk.G 1 [(1, vI p1), (2, Z0 p0), (17, .loc 2 0)] <| OWk.D ?_
            exact c1
          · refine OWk.G 1 [(1, vI p1), (2, Z0 p0), (20, .loc 2 1)] <| OWk.D ?_
            exact c8
        exact c0
      refine thenS_n <| SW.S <| OWk.G 3 [(25, Z48 r2 r3 p0), (26, vI p1), (27, Z49)] ?_
      obtain ⟨q4, hq, h⟩ := bind_inv h
      refine OWk.hnew 31 q4.1 (d := some 28) (b := false) [(0, 3, true), (1, 1, true)] [25, 26, 28] [(25, Z48 r2 r3 p0), (26, vI p1), (28, .d (.ptr q4.2 0))] hq (by kernel_rfl) rfl (by kernel_rfl) <| OWk.G 1 [(29, Z51 r2 r3 p0 p1 q4)] ?_
      obtain ⟨q5, hq, h⟩ := bind_inv h
      refine OWk.hnew 31 q5.1 (d := some 30) (b := false) [] [30] [(30, .d (.ptr q5.2 0))] hq (by kernel_rfl) rfl (by kernel_rfl) <| OWk.G 2 [(4, .d (.ptr q5.2 0)), (5, vI 0)] <| OWk.E <| SW.ret ?_
      cases h
      exact EndQ.ret [] (by kernel_rfl) rfl
def clSorting : Cl Sorting := ((cL 1 (cI .i64)).one.pair ((cL 1 cB).one.pair (cI .i64).one)).iso (fun p => (⟨p.1, p.2.1, p.2.2⟩ : Sorting)) (fun x => (x.Kinds, x.Down, x.Dup)) (fun _ => rfl) (fun _ => rfl)
def item_within (fuel : Nat) (p0 : Int) (p1 : Int) (p2 : Int) : Option (Bool) :=
  some ((decide (p0 ≥ p1)) && (decide (p0 ≤ p2)))
def Z52 : SV := .d (.list 1 (List.map (D.int .i64) [1]))
def Z53 : SV := .d (.list 1 (List.map D.bool [false]))
def Z54 : SV := .own 1 (List.map (D.int .i64) [5, 5, 3])
def Z55 (x0 : Int) : SV := .own 3 (List.map encValue [(⟨1, x0, []⟩ : Value)])
def Z56 (x0 : (List Value)) (x1 : Sorting) : SV := vB ((x0.length : Int) != (x1.Kinds.length : Int))
def Z57 (x0 : Value) : SV := .box [vI x0.Kind, vI x0.N, vS x0.S]
def Z58 (x0 : Value) : SV := .d (.agg [.int .i64 x0.Kind, .int .i64 x0.N, .str x0.S])
def Z59 (x0 : Int) (x1 : Int) (x2 : Int) : SV := vB ((decide (x0 ≥ x1)) && (decide (x0 ≤ x2)))
theorem item_within_ok {fuel : Nat} {p0 : Int} {p1 : Int} {p2 : Int} {r : Bool} (h : item_within fuel p0 p1 p2 = some r) : PC Try.prog 62 [vI p0, vI p1, vI p2] (vB r) := by
  refine PC.of_SW Try.func62 rfl fun H => ?_
  unfold item_within at h
  refine SW.kp 15 H [0, 1, 2] [(0, vI p0), (1, vI p1), (2, vI p2)] (by kernel_rfl) <| SW.R 1 [(0, vI p0), (1, vI p1), (2, vI p2)] <| SW.S <| OWk.G 4 [(0, vI p0), (2, vI p2), (10, vB (decide (p0 ≥ p1)))] <| OWk.M 4 (decide (p0 ≥ p1)) (fun b => [(0, vI p0), (2, vI p2), (10, vB b)]) (fun b => [(14, vB (b && (decide (p0 ≤ p2))))]) <| OWk.G 1 [(6, Z59 p0 p1 p2)] <| OWk.E <| SW.ret ?_
  cases h
  exact EndQ.ret [] (by kernel_rfl) rfl
def item_checks (fuel : Nat) : Option (Unit) :=
  some ()
def Z61 : SV := .box [.d (.fn (.func 76) [] []), .d (.fn (.func 77) [] []), .d (.fn (.func 78) [] [])]
theorem item_checks_ok {fuel : Nat} {r : Unit} (h : item_checks fuel = some r) : PC Try.prog 63 [] (.d (.agg [.fn (.func 76) [] [], .fn (.func 77) [] [], .fn (.func 78) [] []])) := by
  refine PC.of_SW Try.func63 rfl fun H => ?_
  unfold item_checks at h
  refine SW.kp 2 H [] [] (by kernel_rfl) <| SW.R 2 [(0, Z61)] <| SW.ret ?_
  cases h
  exact EndQ.ret [] (by kernel_rfl) rfl
def item_checks_1 (fuel : Nat) (p0 : Value) : Option (Bool) :=
  some false
def Z62 : SV := .d (.agg [.fn (.func 76) [] [], .fn (.func 77) [] [], .fn (.func 78) [] []])
def Z63 : SV := .d (.fn (.func 76) [] [])
theorem item_checks_1_ok {fuel : Nat} {p0 : Value} {r : Bool} (h : item_checks_1 fuel p0 = some r) : PC Try.prog 76 [.d (encValue p0)] (vB r) := by
  refine PC.of_SW Try.func76 rfl fun H => ?_
  unfold item_checks_1 at h
  refine SW.kp 3 H [0] [(0, Z58 p0)] (by kernel_rfl) <| SW.R 2 [(2, vB false)] <| SW.ret ?_
  cases h
  exact EndQ.ret [] (by kernel_rfl) rfl
def item_checks_2 (fuel : Nat) (p0 : Value) : Option (Bool) :=
  bif (p0.S == []) then
    (item_within fuel p0.N (-1000000000) 1000000000).bind fun r1 =>
    some r1
  else
    some false
def Z64 : SV := .d (.fn (.func 77) [] [])
theorem item_checks_2_ok {fuel : Nat} {p0 : Value} {r : Bool} (h : item_checks_2 fuel p0 = some r) : PC Try.prog 77 [.d (encValue p0)] (vB r) := by
  refine PC.of_SW Try.func77 rfl fun H => ?_
  unfold item_checks_2 at h
  refine SW.kp 11 H [0] [(0, Z58 p0)] (by kernel_rfl) <| SW.R 1 [(1, Z57 p0)] <| SW.S <| OWk.G 4 [(1, Z57 p0), (6, vB (p0.S == []))] ?_
  refine OWk.case (p0.S == []) (fun b => (sp 11 [(1, Z57 p0), (6, vB b)] H)) (by kernel_rfl) (fun hc => ?_) (fun hc => ?_)
  · replace h := bif_t hc h
    refine OWk.G 2 [(6, vB true), (8, vI p0.N)] ?_
    obtain ⟨r1, hr, h⟩ := bind_inv h
    refine OWk.C0 (some 9) [(6, vB true), (9, vB r1)] (item_within_ok hr) <| OWk.G 2 [(2, vB r1)] <| OWk.E <| SW.ret ?_
    cases h
    exact EndQ.ret [] (by kernel_rfl) rfl
  · replace h := bif_f hc h
    refine OWk.G 5 [(2, vB false)] <| OWk.E <| SW.ret ?_
    cases h
    exact EndQ.ret [] (by kernel_rfl) rfl
def item_checks_3 (fuel : Nat) (p0 : Value) : Option (Bool) :=
  bif (p0.N == 0) then
    some (decide ((p0.S.length : Int) ≤ 40))
  else
    some false
def Z65 : SV := .d (.fn (.func 78) [] [])
def Z66 (x0 : Value) : SV := vB (decide ((x0.S.length : Int) ≤ 40))
theorem item_checks_3_ok {fuel : Nat} {p0 : Value} {r : Bool} (h : item_checks_3 fuel p0 = some r) : PC Try.prog 78 [.d (encValue p0)] (vB r) := by
  refine PC.of_SW Try.func78 rfl fun H => ?_
  unfold item_checks_3 at h
  refine SW.kp 12 H [0] [(0, Z58 p0)] (by kernel_rfl) <| SW.R 1 [(1, Z57 p0)] <| SW.S <| OWk.G 4 [(1, Z57 p0), (6, vB (p0.N == 0))] ?_
  refine OWk.case (p0.N == 0) (fun b => (sp 12 [(1, Z57 p0), (6, vB b)] H)) (by kernel_rfl) (fun hc => ?_) (fun hc => ?_)
  · replace h := bif_t hc h
    refine OWk.G 2 [(6, vB true), (8, vS p0.S)] <| OWk.G 1 [(6, vB true), (9, vI (p0.S.length : Int))] <| OWk.G 3 [(2, Z66 p0)] <| OWk.E <| SW.ret ?_
    cases h
    exact EndQ.ret [] (by kernel_rfl) rfl
  · replace h := bif_f hc h
    refine OWk.G 6 [(2, vB false)] <| OWk.E <| SW.ret ?_
    cases h
    exact EndQ.ret [] (by kernel_rfl) rfl
def item_ValidValue (fuel : Nat) (p0 : Value) : Option (Bool) :=
  (item_within fuel p0.Kind 0 2).bind fun r1 =>
  bif r1 then
    (item_checks fuel).bind fun r2 =>
    bif (p0.Kind == 0) then
      (item_checks_1 fuel p0).bind fun r3 =>
      some r3
    else
      bif (p0.Kind == 1) then
        (item_checks_2 fuel p0).bind fun r4 =>
        some r4
      else
        bif (p0.Kind == 2) then
          (item_checks_3 fuel p0).bind fun r5 =>
          some r5
        else
          none
  else
    some false
theorem item_ValidValue_ok {fuel : Nat} {p0 : Value} {r : Bool} (h : item_ValidValue fuel p0 = some r) : PC Try.prog 45 [.d (encValue p0)] (vB r) := by
  refine PC.of_SW Try.func45 rfl fun H => ?_
  unfold item_ValidValue at h
  refine SW.kp 14 H [0] [(0, Z58 p0)] (by kernel_rfl) <| SW.R 1 [(1, Z57 p0)] <| SW.seq <| SW.regionQ (by kernel_rfl) (by kernel_rfl) <| OQk.G 2 [(1, Z57 p0), (4, vI p0.Kind)] ?_
  obtain ⟨r1, hr, h⟩ := bind_inv h
  refine OQk.cl 14 H (d := some 5) (ls := []) [1, 5] [(1, Z57 p0), (5, vB r1)] (item_within_ok hr) (by kernel_rfl) (by kernel_rfl) (by kernel_rfl) <| OQk.G 1 [(1, Z57 p0), (6, vB r1)] ?_
  refine OQk.case r1 (fun b => (sp 14 [(1, Z57 p0), (6, vB b)] H)) (by kernel_rfl) (fun hc => ?_) (fun hc => ?_)
  · replace h := bif_t hc h
    obtain ⟨r2, hr, h⟩ := bind_inv h
    refine OQk.cl 14 H (d := some 7) (ls := []) [1, 6, 7] [(1, Z57 p0), (6, vB true), (7, Z62)] (item_checks_ok hr) (by kernel_rfl) (by kernel_rfl) (by kernel_rfl) <| OQk.G 2 [(1, Z57 p0), (6, vB true), (7, Z62), (9, vI p0.Kind)] ?_
    rcases hc : (p0.Kind == 0) with _ | _
    · replace h := bif_f hc h
      rcases hc : (p0.Kind == 1) with _ | _
      · replace h := bif_f hc h
        rcases hc : (p0.Kind == 2) with _ | _
        · replace h := bif_f hc h
          cases h
        · replace h := bif_t hc h
          refine OQk.lit (fun e => (sp 14 [(1, Z57 p0), (6, vB true), (7, Z62), (9, vI e)] H)) (by kernel_rfl) hc <| OQk.G 2 [(6, vB true), (10, Z65), (11, Z58 p0)] ?_
          obtain ⟨r5, hr, h⟩ := bind_inv h
          refine OQk.cl 14 H (d := some 12) (ls := []) [6, 12] [(6, vB true), (12, vB r5)] (item_checks_3_ok hr) (by kernel_rfl) (by kernel_rfl) (by kernel_rfl) <| OQk.G 2 [(2, vB r5)] <| OQk.done (by kernel_rfl) <| thenS_n <| SW.ret ?_
          cases h
          exact EndQ.ret [] (by kernel_rfl) rfl
      · replace h := bif_t hc h
        refine OQk.lit (fun e => (sp 14 [(1, Z57 p0), (6, vB true), (7, Z62), (9, vI e)] H)) (by kernel_rfl) hc <| OQk.G 2 [(6, vB true), (10, Z64), (11, Z58 p0)] ?_
        obtain ⟨r4, hr, h⟩ := bind_inv h
        refine OQk.cl 14 H (d := some 12) (ls := []) [6, 12] [(6, vB true), (12, vB r4)] (item_checks_2_ok hr) (by kernel_rfl) (by kernel_rfl) (by kernel_rfl) <| OQk.G 2 [(2, vB r4)] <| OQk.done (by kernel_rfl) <| thenS_n <| SW.ret ?_
        cases h
        exact EndQ.ret [] (by kernel_rfl) rfl
    · replace h := bif_t hc h
      refine OQk.lit (fun e => (sp 14 [(1, Z57 p0), (6, vB true), (7, Z62), (9, vI e)] H)) (by kernel_rfl) hc <| OQk.G 2 [(6, vB true), (10, Z63), (11, Z58 p0)] ?_
      obtain ⟨r3, hr, h⟩ := bind_inv h
      refine OQk.cl 14 H (d := some 12) (ls := []) [6, 12] [(6, vB true), (12, vB r3)] (item_checks_1_ok hr) (by kernel_rfl) (by kernel_rfl) (by kernel_rfl) <| OQk.G 2 [(2, vB r3)] <| OQk.done (by kernel_rfl) <| thenS_n <| SW.ret ?_
      cases h
      exact EndQ.ret [] (by kernel_rfl) rfl
  · replace h := bif_f hc h
    refine OQk.G 8 [(2, vB false)] <| OQk.done (by kernel_rfl) <| thenS_n <| SW.ret ?_
    cases h
    exact EndQ.ret [] (by kernel_rfl) rfl
def t_fits_l1 (fuel : Nat) (p1 : (List Value)) (y1 : (List Int) × (List Bool) × Int × Int) : Option (((List Int) × (List Bool) × Int × Int) ⊕ ((Unit) ⊕ ((Bool)))) :=
  bif (decide (y1.2.2.2 < (p1.length : Int))) then
    (idx p1 y1.2.2.2).bind fun x2 =>
    (idx y1.1 y1.2.2.2).bind fun x3 =>
    bif (x2.Kind != x3) then
      some (.inr (.inr false))
    else
      (item_ValidValue fuel x2).bind fun r4 =>
      bif (!r4) then
        some (.inr (.inr false))
      else
        some (.inl (y1.1, y1.2.1, y1.2.2.1, (IntKind.wrap .i64 (y1.2.2.2 + 1))))
  else
    some (.inr (.inl ()))
def t_fits (fuel : Nat) (p0 : Sorting) (p1 : (List Value)) : Option (Bool) :=
  bif ((p1.length : Int) != (p0.Kinds.length : Int)) then
    some false
  else
    (iter (t_fits_l1 fuel p1) fuel (p0.Kinds, p0.Down, p0.Dup, 0)).bind (Sum.elim (fun v6 =>
      some true) (fun r7 =>
      some r7))
def Z67 (x0 : (List Int) × (List Bool) × Int × Int) : SV := .box [.d (.list 1 (List.map (D.int .i64) x0.1)), .d (.list 1 (List.map D.bool x0.2.1)), vI x0.2.2.1]
def Z68 (x0 : (List Int) × (List Bool) × Int × Int) (x1 : (List Value)) : SV := vB (decide (x0.2.2.2 < (x1.length : Int)))
def Z69 (x0 : (List Int) × (List Bool) × Int × Int) : SV := .d (.list 1 (List.map (D.int .i64) x0.1))
def Z70 (x0 : (List Int) × (List Bool) × Int × Int) : SV := vI (IntKind.wrap .i64 (x0.2.2.2 + 1))
theorem t_fits_ok {fuel : Nat} {p0 : Sorting} {p1 : (List Value)} {r : Bool} (h : t_fits fuel p0 p1 = some r) : PC Try.prog 20 [.d (encSorting p0), .d (.list 3 (List.map encValue p1))] (vB r) := by
  refine PC.of_SW Try.func20 rfl fun H => ?_
  unfold t_fits at h
  refine SW.kp 34 H [0, 1] [(0, Z2 p0), (1, Z10 p1)] (by kernel_rfl) <| SW.R 1 [(1, Z10 p1), (2, Z0 p0)] <| SW.seq <| SW.S <| OWk.G 1 [(1, Z10 p1), (2, Z0 p0), (7, Z10 p1)] <| OWk.O (d := some 8) [(1, Z10 p1), (2, Z0 p0), (8, vI (p1.length : Int))] (BAt.len (enc := encValue) (xs := p1) (by kernel_rfl)) <| OWk.G 2 [(1, Z10 p1), (2, Z0 p0), (8, vI (p1.length : Int)), (10, Z19 p0)] <| OWk.O (d := some 11) [(1, Z10 p1), (2, Z0 p0), (8, vI (p1.length : Int)), (11, Z24 p0)] (BAt.len (enc := (D.int .i64)) (xs := p0.Kinds) (by kernel_rfl)) <| OWk.G 1 [(1, Z10 p1), (2, Z0 p0), (12, Z56 p1 p0)] <| OWk.E ?_
  refine SW.B ((p1.length : Int) != (p0.Kinds.length : Int)) (fun hc => ?_) (fun hc => ?_)
  · replace h := bif_t hc h
    refine SW.R 1 [(4, vB false)] <| SW.ret <| thenS_r ?_
    cases h
    exact EndQ.ret [] (by kernel_rfl) rfl
  · replace h := bif_f hc h
    refine SW.skip <| thenS_n <| SW.seq <| SW.S <| OWk.G 1 [(2, Z0 p0), (13, Z10 p1)] <| OWk.O (d := some 14) [(2, Z0 p0), (13, Z10 p1), (14, vI (p1.length : Int))] (BAt.len (enc := encValue) (xs := p1) (by kernel_rfl)) <| OWk.G 1 [(2, Z0 p0), (13, Z10 p1), (14, vI (p1.length : Int)), (15, vI 0)] <| OWk.E <| SW.block ?_
    obtain ⟨z5, hit, h⟩ := bind_inv h
    refine SW.it 34 H [2, 13, 14, 15] (fun y1 => [(2, .box [.d (.list 1 (List.map (D.int .i64) y1.1)), .d (.list 1 (List.map D.bool y1.2.1)), vI y1.2.2.1]), (13, Z10 p1), (14, vI (p1.length : Int)), (15, vI y1.2.2.2)]) (fun b e s => ((∃ v6, b = (.inl v6) ∧ (e = .exit 0 ∧ s = (sp 34 [] H))) ∨ (∃ r7, b = (.inr r7) ∧ (e = .ret ∧ EndQ Try.prog Try.f20.results.toList H (vB r7) .ret s)))) hit (by kernel_rfl) (fun y1 o h => ?_) ?_
    · unfold t_fits_l1 at h
      refine SW.R 1 [(2, Z67 y1), (13, Z10 p1), (14, vI (p1.length : Int)), (15, vI y1.2.2.2), (16, Z68 y1 p1)] <| SW.seq ?_
      refine SW.B (decide (y1.2.2.2 < (p1.length : Int))) (fun hc => ?_) (fun hc => ?_)
      · replace h := bif_t hc h
        refine SW.skip <| thenS_n <| SW.seq <| SW.block <| SW.S <| OWk.G 1 [(2, Z67 y1), (13, Z10 p1), (14, vI (p1.length : Int)), (15, vI y1.2.2.2), (17, vI y1.2.2.2)] ?_
        obtain ⟨x2, hx, h⟩ := bind_inv h
        refine OWk.O (d := some 18) (s := lendP none (Go.Sh.D.cells (encValue x2))) [(2, Z67 y1), (13, Z10 p1), (14, vI (p1.length : Int)), (15, vI y1.2.2.2), (17, vI y1.2.2.2), (18, .d (.dptr [.int .i64 x2.Kind, .int .i64 x2.N, .str x2.S]))] (BAt.index (n := 3) hx (by kernel_rfl)) <| OWk.G 4 [(2, Z67 y1), (5, vI y1.2.2.2), (6, Z57 x2), (13, Z10 p1), (14, vI (p1.length : Int)), (15, vI y1.2.2.2)] <| OWk.E <| SW.seq <| SW.regionQ (by kernel_rfl) (by kernel_rfl) <| OQk.G 5 [(2, Z67 y1), (6, Z57 x2), (13, Z10 p1), (14, vI (p1.length : Int)), (15, vI y1.2.2.2), (21, vI x2.Kind), (23, Z69 y1), (24, vI y1.2.2.2)] ?_
        obtain ⟨x3, hx, h⟩ := bind_inv h
        refine OQk.on 34 H (d := some 25) (s := lendP none (Go.Sh.D.cells ((D.int .i64) x3))) [2, 6, 13, 14, 15, 21, 25] [(2, Z67 y1), (6, Z57 x2), (13, Z10 p1), (14, vI (p1.length : Int)), (15, vI y1.2.2.2), (21, vI x2.Kind), (25, .d (.dptr [.int .i64 x3]))] (BAt.index (n := 1) hx (by kernel_rfl)) (by kernel_rfl) <| OQk.G 3 [(2, Z67 y1), (6, Z57 x2), (13, Z10 p1), (14, vI (p1.length : Int)), (15, vI y1.2.2.2), (28, vB (x2.Kind != x3))] ?_
        refine OQk.case (x2.Kind != x3) (fun b => (sp 34 [(2, Z67 y1), (6, Z57 x2), (13, Z10 p1), (14, vI (p1.length : Int)), (15, vI y1.2.2.2), (28, vB b)] H)) (by kernel_rfl) (fun hc => ?_) (fun hc => ?_)
        · replace h := bif_t hc h
          refine OQk.G 4 [(2, Z67 y1), (13, Z10 p1), (14, vI (p1.length : Int)), (15, vI y1.2.2.2), (32, vB true)] <| OQk.done (by kernel_rfl) <| thenS_n <| SW.condT (by kernel_rfl) <| SW.R 1 [(4, vB false)] <| SW.ret <| blockS_r <| thenS_r ?_
          cases h
          refine thenS_r ?_
          exact ⟨_, rfl, .inr (⟨false, rfl, rfl, EndQ.ret [] (by kernel_rfl) rfl⟩)⟩
        · replace h := bif_f hc h
          refine OQk.G 1 [(2, Z67 y1), (13, Z10 p1), (14, vI (p1.length : Int)), (15, vI y1.2.2.2), (28, vB false), (29, Z58 x2)] ?_
          obtain ⟨r4, hr, h⟩ := bind_inv h
          refine OQk.cl 34 H (d := some 30) (ls := []) [2, 13, 14, 15, 28, 30] [(2, Z67 y1), (13, Z10 p1), (14, vI (p1.length : Int)), (15, vI y1.2.2.2), (28, vB false), (30, vB r4)] (item_ValidValue_ok hr) (by kernel_rfl) (by kernel_rfl) (by kernel_rfl) <| OQk.G 2 [(2, Z67 y1), (13, Z10 p1), (14, vI (p1.length : Int)), (15, vI y1.2.2.2), (32, vB (!r4))] <| OQk.done (by kernel_rfl) <| thenS_n ?_
          refine SW.B (!r4) (fun hc => ?_) (fun hc => ?_)
          · replace h := bif_t hc h
            refine SW.R 1 [(4, vB false)] <| SW.ret <| blockS_r <| thenS_r ?_
            cases h
            refine thenS_r ?_
            exact ⟨_, rfl, .inr (⟨false, rfl, rfl, EndQ.ret [] (by kernel_rfl) rfl⟩)⟩
          · replace h := bif_f hc h
            refine SW.skip <| blockS_n <| thenS_n <| SW.regionK <| OWk.G 2 [(2, Z67 y1), (13, Z10 p1), (14, vI (p1.length : Int)), (15, Z70 y1)] <| OWk.D ?_
            cases h
            exact ⟨(y1.1, y1.2.1, y1.2.2.1, (IntKind.wrap .i64 (y1.2.2.2 + 1))), rfl, by kernel_rfl⟩
      · replace h := bif_f hc h
        refine SW.K [] <| SW.exit <| thenS_e ?_
        cases h
        refine thenS_e ?_
        exact ⟨_, rfl, .inl ⟨(), rfl, rfl, rfl⟩⟩
    · rintro _ _ (⟨v6, rfl, rfl, rfl⟩ | ⟨r7, rfl, rfl, hE⟩)
      · replace h := sum_l h
        refine blockS_hit <| thenS_n <| SW.R 1 [(4, vB true)] <| SW.ret ?_
        cases h
        exact EndQ.ret [] (by kernel_rfl) rfl
      · replace h := sum_r h
        refine blockS_r <| thenS_r ?_
        cases h
        exact hE
def t_key (fuel : Nat) (p0 : Int) : Option (Bool) :=
  some ((decide (p0 ≥ 1)) && (decide (p0 ≤ 1000000)))
def Z71 (x0 : Int) : SV := vB ((decide (x0 ≥ 1)) && (decide (x0 ≤ 1000000)))
theorem t_key_ok {fuel : Nat} {p0 : Int} {r : Bool} (h : t_key fuel p0 = some r) : PC Try.prog 21 [vI p0] (vB r) := by
  refine PC.of_SW Try.func21 rfl fun H => ?_
  unfold t_key at h
  refine SW.kp 9 H [0] [(0, vI p0)] (by kernel_rfl) <| SW.R 1 [(0, vI p0)] <| SW.S <| OWk.G 3 [(0, vI p0), (5, vB (decide (p0 ≥ 1)))] <| OWk.M 3 (decide (p0 ≥ 1)) (fun b => [(0, vI p0), (5, vB b)]) (fun b => [(8, vB (b && (decide (p0 ≤ 1000000))))]) <| OWk.G 1 [(2, Z71 p0)] <| OWk.E <| SW.ret ?_
  cases h
  exact EndQ.ret [] (by kernel_rfl) rfl
def t_Tree_asked (fuel : Nat) (p0 : Nat) (p1 : (List Value)) (p2 : Int) (H : Hp) : Option (Int) :=
  (hGet clSorting.cells H p0 0).bind fun x1 =>
  (t_fits fuel x1 p1).bind fun r2 =>
  bif (!r2) then
    some 1
  else
    (t_key fuel p2).bind fun r3 =>
    bif (!r3) then
      some 1
    else
      some 0
theorem t_Tree_asked_ok {fuel : Nat} {p0 : Nat} {p1 : (List Value)} {p2 : Int} {H : Hp} {r : Int} (h : t_Tree_asked fuel p0 p1 p2 H = some r) : SC Try.prog true 41 [.d (.ptr p0 0), .d (.list 3 (List.map encValue p1)), vI p2] H (vI r) H := by
  refine SC.of_SWr Try.func41 rfl ?_
  unfold t_Tree_asked at h
  refine SW.kp 23 H [0, 1, 2] [(0, .d (.ptr p0 0)), (1, Z10 p1), (2, vI p2)] (by kernel_rfl) <| SW.R 1 [(0, .d (.ptr p0 0)), (1, Z10 p1), (2, vI p2)] <| SW.seq <| SW.S <| OWk.G 6 [(1, Z10 p1), (2, vI p2), (9, vB false), (12, .d (.ptr p0 0))] ?_
  obtain ⟨x1, hx, h⟩ := bind_inv h
  refine OWk.O (d := some 13) (s := .d (.agg [.list 1 (List.map (D.int .i64) x1.Kinds), .list 1 (List.map D.bool x1.Down), .int .i64 x1.Dup])) [(1, Z10 p1), (2, vI p2), (9, vB false), (13, Z2 x1)] (BAt.ldH (c := clSorting.cells) hx (by kernel_rfl)) <| OWk.G 1 [(2, vI p2), (9, vB false), (13, Z2 x1), (14, Z10 p1)] ?_
  obtain ⟨r2, hr, h⟩ := bind_inv h
  refine OWk.C0 (some 15) [(2, vI p2), (9, vB false), (15, vB r2)] (t_fits_ok hr) <| OWk.G 3 [(2, vI p2), (18, vB (!r2))] ?_
  refine OWk.case (!r2) (fun b => (sp 23 [(2, vI p2), (18, vB b)] H)) (by kernel_rfl) (fun hc => ?_) (fun hc => ?_)
  · replace h := bif_t hc h
    refine OWk.G 4 [(22, vB true)] <| OWk.E <| SW.condT (by kernel_rfl) <| SW.R 1 [(6, vI 1)] <| SW.ret <| thenS_r ?_
    cases h
    exact EndQ.ret [] (by kernel_rfl) rfl
  · replace h := bif_f hc h
    refine OWk.G 1 [(18, vB false), (19, vI p2)] ?_
    obtain ⟨r3, hr, h⟩ := bind_inv h
    refine OWk.C0 (some 20) [(18, vB false), (20, vB r3)] (t_key_ok hr) <| OWk.G 2 [(22, vB (!r3))] <| OWk.E ?_
    refine SW.B (!r3) (fun hc => ?_) (fun hc => ?_)
    · replace h := bif_t hc h
      refine SW.R 1 [(6, vI 1)] <| SW.ret <| thenS_r ?_
      cases h
      exact EndQ.ret [] (by kernel_rfl) rfl
    · replace h := bif_f hc h
      refine SW.skip <| thenS_n <| SW.R 1 [(6, vI 0)] <| SW.ret ?_
      cases h
      exact EndQ.ret [] (by kernel_rfl) rfl
def t_Tree_has (fuel : Nat) (p0 : Nat) (p1 : (List Value)) (H : Hp) : Option ((Bool) × Hp) :=
  none
theorem t_Tree_has_ok {fuel : Nat} {p0 : Nat} {p1 : (List Value)} {H : Hp} {r : (Bool) × Hp} (h : t_Tree_has fuel p0 p1 H = some r) : SC Try.prog false 42 [.d (.ptr p0 0), .d (.list 3 (List.map encValue p1))] H (vB r.1) r.2 := by
  refine SC.of_SWM0 Try.func42 rfl ?_
  unfold t_Tree_has at h
  refine SWM0.kp 21 H [0, 1] [(0, .d (.ptr p0 0)), (1, Z10 p1)] (by kernel_rfl) ?_
  cases h
def slices_Clone_f44 (fuel : Nat) (p0 : (List Value)) : Option ((List Value)) :=
  nilB p0 fun b1 =>
  bif b1 then
    some ([] : List Value)
  else
    chk (decide ((([] : List Value) ++ p0).length ≤ room)) <|
    some (([] : List Value) ++ p0)
def Z72 : SV := .own 3 (List.map encValue ([] : List Value))
def Z73 (x0 : (List Value)) : SV := .own 3 (List.map encValue (([] : List Value) ++ x0))
theorem slices_Clone_f44_ok {fuel : Nat} {p0 : (List Value)} {r : (List Value)} (h : slices_Clone_f44 fuel p0 = some r) : PC Try.prog 44 [.d (.list 3 (List.map encValue p0))] (.own 3 (List.map encValue r)) := by
  refine PC.of_SW Try.func44 rfl fun H => ?_
  unfold slices_Clone_f44 at h
  refine SW.kp 8 H [0] [(0, Z10 p0)] (by kernel_rfl) <| SW.R 1 [(0, Z10 p0)] <| SW.seq <| SW.S <| OWk.G 1 [(0, Z10 p0), (3, Z10 p0)] ?_
  refine OWk.nilq (xs := List.map encValue p0) (d := some 4) (e := true) 8 H [0, 4] (fun b1 => [(0, Z10 p0), (4, vB b1)]) (by kernel_rfl) (fun _ => by kernel_rfl) (fun b1 hnil => ?_)
  replace h := nilB_inv h b1 (fun e => List.map_eq_nil_iff.1 (hnil e))
  refine OWk.E ?_
  refine SW.B b1 (fun hc => ?_) (fun hc => ?_)
  · replace h := bif_t hc h
    refine SW.R 1 [(2, Z72)] <| SW.ret <| thenS_r ?_
    cases h
    exact EndQ.ret [] (by kernel_rfl) rfl
  · replace h := bif_f hc h
    refine SW.skip <| thenS_n <| SW.S <| OWk.sg 8 H [5] [5, 6] 2 [(5, Z72), (6, Z10 p0)] (by kernel_rfl) ?_
    obtain ⟨hk, h⟩ := chk_inv h
    refine OWk.app 8 H (s := 5) (d := 7) (w := 3) [7] (zs := List.map encValue (([] : List Value) ++ p0)) [(7, Z73 p0)] (ys := (List.map encValue p0)) (by kernel_rfl) (map_append') (room_map hk) (by kernel_rfl) <| OWk.sg 8 H [5] [2] 1 [(2, Z73 p0)] (by kernel_rfl) <| OWk.E <| SW.ret ?_
    cases h
    exact EndQ.ret [] (by kernel_rfl) rfl
def clValue : Cl Value := ((cI .i64).one.pair ((cI .i64).one.pair cS.one)).iso (fun p => (⟨p.1, p.2.1, p.2.2⟩ : Value)) (fun x => (x.Kind, x.N, x.S)) (fun _ => rfl) (fun _ => rfl)
def cValue : Cd Value := clValue.agg
def clEntry : Cl Entry := ((cL 3 cValue).one.pair ((cI .i64).one.pair (cI .i64).one)).iso (fun p => (⟨p.1, p.2.1, p.2.2⟩ : Entry)) (fun x => (x.Row, x.Key, x.Number)) (fun _ => rfl) (fun _ => rfl)
def cEntry : Cd Entry := clEntry.agg
def t_comparisons (fuel : Nat) : Option (Unit) :=
  some ()
def Z74 (x0 : (List Value)) : SV := .own 3 (List.map encValue x0)
def Z75 (x0 : (List Value)) (x1 : Int) (x2 : Int) : SV := .d (.agg [.list 3 (List.map encValue x0), .int .i64 x1, .int .i64 x2])
def Z76 (x0 : Entry) : SV := .d (.agg [.list 3 (List.map encValue x0.Row), .int .i64 x0.Key, .int .i64 x0.Number])
def Z77 (x0 : Nat) (x1 : (List Entry)) : SV := .lent (.hcell x0 0) 3 (List.map encEntry x1)
def Z78 (x0 : Nat) : SV := .d (.fn (.func 88) [] [.dptr [.ptr x0 0]])
def Z79 (x0 : (List Entry)) : SV := .d (.list 3 (List.map encEntry x0))
def Z80 (x0 : (Option Nat)) : SV := .d (.fn (.func 88) [] [.dptr [cP.enc x0]])
def Z83 (x0 : Entry) : SV := .d (.list 3 (List.map encValue x0.Row))
def Z85 : SV := .box [.d (.fn (.func 79) [] []), .d (.fn (.func 80) [] []), .d (.fn (.func 81) [] []), .d (.fn (.func 83) [] [])]
theorem t_comparisons_ok {fuel : Nat} {r : Unit} (h : t_comparisons fuel = some r) : PC Try.prog 64 [] (.d (.agg [.fn (.func 79) [] [], .fn (.func 80) [] [], .fn (.func 81) [] [], .fn (.func 83) [] []])) := by
  refine PC.of_SW Try.func64 rfl fun H => ?_
  unfold t_comparisons at h
  refine SW.kp 2 H [] [] (by kernel_rfl) <| SW.R 2 [(0, Z85)] <| SW.ret ?_
  cases h
  exact EndQ.ret [] (by kernel_rfl) rfl
def t_comparisons_1 (fuel : Nat) (p0 : Value) (p1 : Value) : Option (Int) :=
  some (IntKind.wrap .i64 (p0.N - p1.N))
def Z86 : SV := .d (.agg [.fn (.func 79) [] [], .fn (.func 80) [] [], .fn (.func 81) [] [], .fn (.func 83) [] []])
def Z88 (x0 : Int) : SV := vI (IntKind.wrap .i64 (2 * (IntKind.wrap .i64 (x0 - 1))))
def Z89 (x0 : Int) : SV := vI (IntKind.wrap .i64 ((IntKind.wrap .i64 (2 * (IntKind.wrap .i64 (x0 - 1)))) + 1))
def Z90 : SV := .d (.fn (.func 79) [] [])
def Z91 (x0 : Value) (x1 : Value) : SV := vI (IntKind.wrap .i64 (x0.N - x1.N))
theorem t_comparisons_1_ok {fuel : Nat} {p0 : Value} {p1 : Value} {r : Int} (h : t_comparisons_1 fuel p0 p1 = some r) : PC Try.prog 79 [.d (encValue p0), .d (encValue p1)] (vI r) := by
  refine PC.of_SW Try.func79 rfl fun H => ?_
  unfold t_comparisons_1 at h
  refine SW.kp 10 H [0, 1] [(0, Z58 p0), (1, Z58 p1)] (by kernel_rfl) <| SW.R 2 [(4, Z91 p0 p1)] <| SW.ret ?_
  cases h
  exact EndQ.ret [] (by kernel_rfl) rfl
def t_comparisons_2 (fuel : Nat) (p0 : Value) (p1 : Value) : Option (Int) :=
  some (IntKind.wrap .i64 (p1.N - p0.N))
def Z92 : SV := .d (.fn (.func 80) [] [])
theorem t_comparisons_2_ok {fuel : Nat} {p0 : Value} {p1 : Value} {r : Int} (h : t_comparisons_2 fuel p0 p1 = some r) : PC Try.prog 80 [.d (encValue p0), .d (encValue p1)] (vI r) := by
  refine PC.of_SW Try.func80 rfl fun H => ?_
  unfold t_comparisons_2 at h
  refine SW.kp 10 H [0, 1] [(0, Z58 p0), (1, Z58 p1)] (by kernel_rfl) <| SW.R 2 [(4, Z91 p1 p0)] <| SW.ret ?_
  cases h
  exact EndQ.ret [] (by kernel_rfl) rfl
theorem bytealg_CompareString (a b : ByteArray) (w : World) :
    Calls Try.prog 93 #[.string a, .string b] w fun e w' => e = .returned (.int .i64 (Lib.compareBytes a.data.toList b.data.toList)) ∧ w' = w := by
  go_enter Try.func93, Try.ntmps93
  go_wp2
  rw [run_callFunc_extern Try.func97 (by kernel_rfl) (by kernel_rfl) (by kernel_rfl) (e := Extern.BytealgCompare.compare) (by kernel_rfl), Lib.run_compareString]
  simp only [Result.andThen]
  rw [Oper.upon_value]
  go_wp2
  go_ret
  exact ⟨rfl, rfl⟩
theorem cmpS_ok {fuel : Nat} {p0 : (List UInt8)} {p1 : (List UInt8)} {r : Int} (h : cmpS fuel p0 p1 = some r) : PC Try.prog 93 [vS p0, vS p1] (vI r) := cmpS_pc h bytealg_CompareString
def strings_Compare (fuel : Nat) (p0 : (List UInt8)) (p1 : (List UInt8)) : Option (Int) :=
  (cmpS fuel p0 p1).bind fun r1 =>
  some r1
def Z93 : SV := .d (.fn (.func 81) [] [])
theorem strings_Compare_ok {fuel : Nat} {p0 : (List UInt8)} {p1 : (List UInt8)} {r : Int} (h : strings_Compare fuel p0 p1 = some r) : PC Try.prog 82 [vS p0, vS p1] (vI r) := by
  refine PC.of_SW Try.func82 rfl fun H => ?_
  unfold strings_Compare at h
  refine SW.kp 8 H [0, 1] [(0, vS p0), (1, vS p1)] (by kernel_rfl) <| SW.R 1 [(0, vS p0), (1, vS p1)] <| SW.S <| OWk.G 2 [(5, vS p0), (6, vS p1)] ?_
  obtain ⟨r1, hr, h⟩ := bind_inv h
  refine OWk.C0 (some 7) [(7, vI r1)] (cmpS_ok hr) <| OWk.G 1 [(4, vI r1)] <| OWk.E <| SW.ret ?_
  cases h
  exact EndQ.ret [] (by kernel_rfl) rfl
def t_comparisons_3 (fuel : Nat) (p0 : Value) (p1 : Value) : Option (Int) :=
  (strings_Compare fuel p0.S p1.S).bind fun r1 =>
  some r1
theorem t_comparisons_3_ok {fuel : Nat} {p0 : Value} {p1 : Value} {r : Int} (h : t_comparisons_3 fuel p0 p1 = some r) : PC Try.prog 81 [.d (encValue p0), .d (encValue p1)] (vI r) := by
  refine PC.of_SW Try.func81 rfl fun H => ?_
  unfold t_comparisons_3 at h
  refine SW.kp 10 H [0, 1] [(0, Z58 p0), (1, Z58 p1)] (by kernel_rfl) <| SW.R 1 [(2, Z57 p0), (3, Z57 p1)] <| SW.S <| OWk.G 4 [(6, vS p0.S), (8, vS p1.S)] ?_
  obtain ⟨r1, hr, h⟩ := bind_inv h
  refine OWk.C0 (some 9) [(9, vI r1)] (strings_Compare_ok hr) <| OWk.G 1 [(4, vI r1)] <| OWk.E <| SW.ret ?_
  cases h
  exact EndQ.ret [] (by kernel_rfl) rfl
def t_comparisons_4 (fuel : Nat) (p0 : Value) (p1 : Value) : Option (Int) :=
  (strings_Compare fuel p1.S p0.S).bind fun r1 =>
  some r1
def Z94 : SV := .d (.fn (.func 83) [] [])
theorem t_comparisons_4_ok {fuel : Nat} {p0 : Value} {p1 : Value} {r : Int} (h : t_comparisons_4 fuel p0 p1 = some r) : PC Try.prog 83 [.d (encValue p0), .d (encValue p1)] (vI r) := by
  refine PC.of_SW Try.func83 rfl fun H => ?_
  unfold t_comparisons_4 at h
  refine SW.kp 10 H [0, 1] [(0, Z58 p0), (1, Z58 p1)] (by kernel_rfl) <| SW.R 1 [(2, Z57 p0), (3, Z57 p1)] <| SW.S <| OWk.G 4 [(6, vS p1.S), (8, vS p0.S)] ?_
  obtain ⟨r1, hr, h⟩ := bind_inv h
  refine OWk.C0 (some 9) [(9, vI r1)] (strings_Compare_ok hr) <| OWk.G 1 [(4, vI r1)] <| OWk.E <| SW.ret ?_
  cases h
  exact EndQ.ret [] (by kernel_rfl) rfl
def t_rows_l1 (fuel : Nat) (p0 : Sorting) (p1 : (List Value)) (p2 : (List Value)) (y2 : Int) : Option ((Int) ⊕ ((Unit) ⊕ ((Int)))) :=
  bif (decide (y2 < (p0.Kinds.length : Int))) then
    (idx p0.Kinds y2).bind fun x3 =>
    letJ (fun (j4 : Int) =>
      bif (j4 == 0) then
        (idx p1 y2).bind fun x7 =>
        (idx p2 y2).bind fun x8 =>
        (t_comparisons_1 fuel x7 x8).bind fun r9 =>
        bif (r9 != 0) then
          some (.inr (.inr r9))
        else
          some (.inl (IntKind.wrap .i64 (y2 + 1)))
      else
        bif (j4 == 1) then
          (idx p1 y2).bind fun x10 =>
          (idx p2 y2).bind fun x11 =>
          (t_comparisons_2 fuel x10 x11).bind fun r12 =>
          bif (r12 != 0) then
            some (.inr (.inr r12))
          else
            some (.inl (IntKind.wrap .i64 (y2 + 1)))
        else
          bif (j4 == 2) then
            (idx p1 y2).bind fun x13 =>
            (idx p2 y2).bind fun x14 =>
            (t_comparisons_3 fuel x13 x14).bind fun r15 =>
            bif (r15 != 0) then
              some (.inr (.inr r15))
            else
              some (.inl (IntKind.wrap .i64 (y2 + 1)))
          else
            bif (j4 == 3) then
              (idx p1 y2).bind fun x16 =>
              (idx p2 y2).bind fun x17 =>
              (t_comparisons_4 fuel x16 x17).bind fun r18 =>
              bif (r18 != 0) then
                some (.inr (.inr r18))
              else
                some (.inl (IntKind.wrap .i64 (y2 + 1)))
            else
              none) fun jp5 =>
    (idx p0.Down y2).bind fun x6 =>
    bif x6 then
      jp5 (IntKind.wrap .i64 ((IntKind.wrap .i64 (2 * (IntKind.wrap .i64 (x3 - 1)))) + 1))
    else
      jp5 (IntKind.wrap .i64 (2 * (IntKind.wrap .i64 (x3 - 1))))
  else
    some (.inr (.inl ()))
def t_rows (fuel : Nat) (p0 : Sorting) (p1 : (List Value)) (p2 : (List Value)) : Option (Int) :=
  (t_comparisons fuel).bind fun r1 =>
  (iter (t_rows_l1 fuel p0 p1 p2) fuel 0).bind (Sum.elim (fun v20 =>
    some 0) (fun r21 =>
    some r21))
def Z95 (x0 : Int) (x1 : Sorting) : SV := vB (decide (x0 < (x1.Kinds.length : Int)))
theorem t_rows_ok {fuel : Nat} {p0 : Sorting} {p1 : (List Value)} {p2 : (List Value)} {r : Int} (h : t_rows fuel p0 p1 p2 = some r) : PC Try.prog 46 [.d (encSorting p0), .d (.list 3 (List.map encValue p1)), .d (.list 3 (List.map encValue p2))] (vI r) := by
  refine PC.of_SW Try.func46 rfl fun H => ?_
  unfold t_rows at h
  refine SW.kp 47 H [0, 1, 2] [(0, Z2 p0), (1, Z10 p1), (2, Z10 p2)] (by kernel_rfl) <| SW.R 1 [(1, Z10 p1), (2, Z10 p2), (3, Z0 p0)] <| SW.S ?_
  obtain ⟨r1, hr, h⟩ := bind_inv h
  refine OWk.C0 (some 12) [(1, Z10 p1), (2, Z10 p2), (3, Z0 p0), (12, Z86)] (t_comparisons_ok hr) <| OWk.G 2 [(1, Z10 p1), (2, Z10 p2), (3, Z0 p0), (7, Z85)] <| OWk.E <| SW.seq <| SW.S <| OWk.G 2 [(1, Z10 p1), (2, Z10 p2), (3, Z0 p0), (7, Z85), (14, Z19 p0)] <| OWk.O (d := some 15) [(1, Z10 p1), (2, Z10 p2), (3, Z0 p0), (7, Z85), (14, Z19 p0), (15, Z24 p0)] (BAt.len (enc := (D.int .i64)) (xs := p0.Kinds) (by kernel_rfl)) <| OWk.G 1 [(1, Z10 p1), (2, Z10 p2), (3, Z0 p0), (7, Z85), (14, Z19 p0), (15, Z24 p0), (16, vI 0)] <| OWk.E <| SW.block ?_
  obtain ⟨z19, hit, h⟩ := bind_inv h
  refine SW.it 47 H [1, 2, 3, 7, 14, 15, 16] (fun y2 => [(1, Z10 p1), (2, Z10 p2), (3, Z0 p0), (7, Z85), (14, Z19 p0), (15, Z24 p0), (16, vI y2)]) (fun b e s => ((∃ v20, b = (.inl v20) ∧ (e = .exit 0 ∧ s = (sp 47 [] H))) ∨ (∃ r21, b = (.inr r21) ∧ (e = .ret ∧ EndQ Try.prog Try.f46.results.toList H (vI r21) .ret s)))) hit (by kernel_rfl) (fun y2 o h => ?_) ?_
  · unfold t_rows_l1 at h
    refine SW.R 1 [(1, Z10 p1), (2, Z10 p2), (3, Z0 p0), (7, Z85), (14, Z19 p0), (15, Z24 p0), (16, vI y2), (17, Z95 y2 p0)] <| SW.seq ?_
    refine SW.B (decide (y2 < (p0.Kinds.length : Int))) (fun hc => ?_) (fun hc => ?_)
    · replace h := bif_t hc h
      refine SW.skip <| thenS_n <| SW.seq <| SW.block <| SW.S <| OWk.G 1 [(1, Z10 p1), (2, Z10 p2), (3, Z0 p0), (7, Z85), (14, Z19 p0), (15, Z24 p0), (16, vI y2), (18, vI y2)] ?_
      obtain ⟨x3, hx, h⟩ := bind_inv h
      refine OWk.O (d := some 19) (s := lendP none (Go.Sh.D.cells ((D.int .i64) x3))) [(1, Z10 p1), (2, Z10 p2), (3, Z0 p0), (7, Z85), (14, Z19 p0), (15, Z24 p0), (16, vI y2), (18, vI y2), (19, .d (.dptr [.int .i64 x3]))] (BAt.index (n := 1) hx (by kernel_rfl)) <| OWk.G 3 [(1, Z10 p1), (2, Z10 p2), (3, Z0 p0), (7, Z85), (8, vI y2), (9, vI x3), (14, Z19 p0), (15, Z24 p0), (16, vI y2)] <| OWk.E <| SW.R 1 [(1, Z10 p1), (2, Z10 p2), (3, Z0 p0), (7, Z85), (8, vI y2), (10, Z88 x3), (14, Z19 p0), (15, Z24 p0), (16, vI y2)] ?_
      obtain ⟨jp5, hjjp5, h⟩ := letJ_inv h
      refine SW.jn 47 H [1, 2, 3, 7, 8, 10, 14, 15, 16] (fun (j4 : Int) => [(1, Z10 p1), (2, Z10 p2), (3, Z0 p0), (7, Z85), (8, vI y2), (10, vI j4), (14, Z19 p0), (15, Z24 p0), (16, vI y2)]) (fun v => jp5 v = some o) (fun j4 h => ?_) ?_
      · rw [hjjp5] at h
        refine SW.seq <| SW.regionQ (by kernel_rfl) (by kernel_rfl) <| OQk.G 1 [(1, Z10 p1), (2, Z10 p2), (3, Z0 p0), (7, Z85), (8, vI y2), (14, Z19 p0), (15, Z24 p0), (16, vI y2), (31, vI j4)] ?_
        rcases hc : (j4 == 0) with _ | _
        · replace h := bif_f hc h
          rcases hc : (j4 == 1) with _ | _
          · replace h := bif_f hc h
            rcases hc : (j4 == 2) with _ | _
            · replace h := bif_f hc h
              rcases hc : (j4 == 3) with _ | _
              · replace h := bif_f hc h
                cases h
              · replace h := bif_t hc h
                refine OQk.lit (fun e => (sp 47 [(1, Z10 p1), (2, Z10 p2), (3, Z0 p0), (7, Z85), (8, vI y2), (14, Z19 p0), (15, Z24 p0), (16, vI y2), (31, vI e)] H)) (by kernel_rfl) hc <| OQk.G 4 [(1, Z10 p1), (2, Z10 p2), (3, Z0 p0), (7, Z85), (8, vI y2), (14, Z19 p0), (15, Z24 p0), (16, vI y2), (33, Z94), (34, Z10 p1), (35, vI y2)] ?_
                obtain ⟨x16, hx, h⟩ := bind_inv h
                refine OQk.on 47 H (d := some 36) (s := lendP none (Go.Sh.D.cells (encValue x16))) [1, 2, 3, 7, 8, 14, 15, 16, 33, 36] [(1, Z10 p1), (2, Z10 p2), (3, Z0 p0), (7, Z85), (8, vI y2), (14, Z19 p0), (15, Z24 p0), (16, vI y2), (33, Z94), (36, .d (.dptr [.int .i64 x16.Kind, .int .i64 x16.N, .str x16.S]))] (BAt.index (n := 3) hx (by kernel_rfl)) (by kernel_rfl) <| OQk.G 3 [(1, Z10 p1), (2, Z10 p2), (3, Z0 p0), (7, Z85), (14, Z19 p0), (15, Z24 p0), (16, vI y2), (33, Z94), (37, Z58 x16), (38, Z10 p2), (39, vI y2)] ?_
                obtain ⟨x17, hx, h⟩ := bind_inv h
                refine OQk.on 47 H (d := some 40) (s := lendP none (Go.Sh.D.cells (encValue x17))) [1, 2, 3, 7, 14, 15, 16, 33, 37, 40] [(1, Z10 p1), (2, Z10 p2), (3, Z0 p0), (7, Z85), (14, Z19 p0), (15, Z24 p0), (16, vI y2), (33, Z94), (37, Z58 x16), (40, .d (.dptr [.int .i64 x17.Kind, .int .i64 x17.N, .str x17.S]))] (BAt.index (n := 3) hx (by kernel_rfl)) (by kernel_rfl) <| OQk.G 1 [(1, Z10 p1), (2, Z10 p2), (3, Z0 p0), (7, Z85), (14, Z19 p0), (15, Z24 p0), (16, vI y2), (33, Z94), (37, Z58 x16), (41, Z58 x17)] ?_
                obtain ⟨r18, hr, h⟩ := bind_inv h
                refine OQk.cl 47 H (d := some 42) (ls := []) [1, 2, 3, 7, 14, 15, 16, 42] [(1, Z10 p1), (2, Z10 p2), (3, Z0 p0), (7, Z85), (14, Z19 p0), (15, Z24 p0), (16, vI y2), (42, vI r18)] (t_comparisons_4_ok hr) (by kernel_rfl) (by kernel_rfl) (by kernel_rfl) <| OQk.G 1 [(1, Z10 p1), (2, Z10 p2), (3, Z0 p0), (7, Z85), (11, vI r18), (14, Z19 p0), (15, Z24 p0), (16, vI y2)] <| OQk.done (by kernel_rfl) <| thenS_n <| SW.R 1 [(1, Z10 p1), (2, Z10 p2), (3, Z0 p0), (7, Z85), (11, vI r18), (14, Z19 p0), (15, Z24 p0), (16, vI y2), (44, vB (r18 != 0))] ?_
                refine SW.B (r18 != 0) (fun hc => ?_) (fun hc => ?_)
                · replace h := bif_t hc h
                  refine SW.R 1 [(6, vI r18)] <| SW.ret <| blockS_r <| thenS_r ?_
                  cases h
                  refine thenS_r ?_
                  exact ⟨_, rfl, .inr (⟨r18, rfl, rfl, EndQ.ret [] (by kernel_rfl) rfl⟩)⟩
                · replace h := bif_f hc h
                  refine SW.skip <| blockS_n <| thenS_n <| SW.regionK <| OWk.G 2 [(1, Z10 p1), (2, Z10 p2), (3, Z0 p0), (7, Z85), (14, Z19 p0), (15, Z24 p0), (16, Z15 y2)] <| OWk.D ?_
                  cases h
                  exact ⟨(IntKind.wrap .i64 (y2 + 1)), rfl, by kernel_rfl⟩
            · replace h := bif_t hc h
              refine OQk.lit (fun e => (sp 47 [(1, Z10 p1), (2, Z10 p2), (3, Z0 p0), (7, Z85), (8, vI y2), (14, Z19 p0), (15, Z24 p0), (16, vI y2), (31, vI e)] H)) (by kernel_rfl) hc <| OQk.G 4 [(1, Z10 p1), (2, Z10 p2), (3, Z0 p0), (7, Z85), (8, vI y2), (14, Z19 p0), (15, Z24 p0), (16, vI y2), (33, Z93), (34, Z10 p1), (35, vI y2)] ?_
              obtain ⟨x13, hx, h⟩ := bind_inv h
              refine OQk.on 47 H (d := some 36) (s := lendP none (Go.Sh.D.cells (encValue x13))) [1, 2, 3, 7, 8, 14, 15, 16, 33, 36] [(1, Z10 p1), (2, Z10 p2), (3, Z0 p0), (7, Z85), (8, vI y2), (14, Z19 p0), (15, Z24 p0), (16, vI y2), (33, Z93), (36, .d (.dptr [.int .i64 x13.Kind, .int .i64 x13.N, .str x13.S]))] (BAt.index (n := 3) hx (by kernel_rfl)) (by kernel_rfl) <| OQk.G 3 [(1, Z10 p1), (2, Z10 p2), (3, Z0 p0), (7, Z85), (14, Z19 p0), (15, Z24 p0), (16, vI y2), (33, Z93), (37, Z58 x13), (38, Z10 p2), (39, vI y2)] ?_
              obtain ⟨x14, hx, h⟩ := bind_inv h
              refine OQk.on 47 H (d := some 40) (s := lendP none (Go.Sh.D.cells (encValue x14))) [1, 2, 3, 7, 14, 15, 16, 33, 37, 40] [(1, Z10 p1), (2, Z10 p2), (3, Z0 p0), (7, Z85), (14, Z19 p0), (15, Z24 p0), (16, vI y2), (33, Z93), (37, Z58 x13), (40, .d (.dptr [.int .i64 x14.Kind, .int .i64 x14.N, .str x14.S]))] (BAt.index (n := 3) hx (by kernel_rfl)) (by kernel_rfl) <| OQk.G 1 [(1, Z10 p1), (2, Z10 p2), (3, Z0 p0), (7, Z85), (14, Z19 p0), (15, Z24 p0), (16, vI y2), (33, Z93), (37, Z58 x13), (41, Z58 x14)] ?_
              obtain ⟨r15, hr, h⟩ := bind_inv h
              refine OQk.cl 47 H (d := some 42) (ls := []) [1, 2, 3, 7, 14, 15, 16, 42] [(1, Z10 p1), (2, Z10 p2), (3, Z0 p0), (7, Z85), (14, Z19 p0), (15, Z24 p0), (16, vI y2), (42, vI r15)] (t_comparisons_3_ok hr) (by kernel_rfl) (by kernel_rfl) (by kernel_rfl) <| OQk.G 1 [(1, Z10 p1), (2, Z10 p2), (3, Z0 p0), (7, Z85), (11, vI r15), (14, Z19 p0), (15, Z24 p0), (16, vI y2)] <| OQk.done (by kernel_rfl) <| thenS_n <| SW.R 1 [(1, Z10 p1), (2, Z10 p2), (3, Z0 p0), (7, Z85), (11, vI r15), (14, Z19 p0), (15, Z24 p0), (16, vI y2), (44, vB (r15 != 0))] ?_
              refine SW.B (r15 != 0) (fun hc => ?_) (fun hc => ?_)
              · replace h := bif_t hc h
                refine SW.R 1 [(6, vI r15)] <| SW.ret <| blockS_r <| thenS_r ?_
                cases h
                refine thenS_r ?_
                exact ⟨_, rfl, .inr (⟨r15, rfl, rfl, EndQ.ret [] (by kernel_rfl) rfl⟩)⟩
              · replace h := bif_f hc h
                refine SW.skip <| blockS_n <| thenS_n <| SW.regionK <| OWk.G 2 [(1, Z10 p1), (2, Z10 p2), (3, Z0 p0), (7, Z85), (14, Z19 p0), (15, Z24 p0), (16, Z15 y2)] <| OWk.D ?_
                cases h
                exact ⟨(IntKind.wrap .i64 (y2 + 1)), rfl, by kernel_rfl⟩
          · replace h := bif_t hc h
            refine OQk.lit (fun e => (sp 47 [(1, Z10 p1), (2, Z10 p2), (3, Z0 p0), (7, Z85), (8, vI y2), (14, Z19 p0), (15, Z24 p0), (16, vI y2), (31, vI e)] H)) (by kernel_rfl) hc <| OQk.G 4 [(1, Z10 p1), (2, Z10 p2), (3, Z0 p0), (7, Z85), (8, vI y2), (14, Z19 p0), (15, Z24 p0), (16, vI y2), (33, Z92), (34, Z10 p1), (35, vI y2)] ?_
            obtain ⟨x10, hx, h⟩ := bind_inv h
            refine OQk.on 47 H (d := some 36) (s := lendP none (Go.Sh.D.cells (encValue x10))) [1, 2, 3, 7, 8, 14, 15, 16, 33, 36] [(1, Z10 p1), (2, Z10 p2), (3, Z0 p0), (7, Z85), (8, vI y2), (14, Z19 p0), (15, Z24 p0), (16, vI y2), (33, Z92), (36, .d (.dptr [.int .i64 x10.Kind, .int .i64 x10.N, .str x10.S]))] (BAt.index (n := 3) hx (by kernel_rfl)) (by kernel_rfl) <| OQk.G 3 [(1, Z10 p1), (2, Z10 p2), (3, Z0 p0), (7, Z85), (14, Z19 p0), (15, Z24 p0), (16, vI y2), (33, Z92), (37, Z58 x10), (38, Z10 p2), (39, vI y2)] ?_
            obtain ⟨x11, hx, h⟩ := bind_inv h
            refine OQk.on 47 H (d := some 40) (s := lendP none (Go.Sh.D.cells (encValue x11))) [1, 2, 3, 7, 14, 15, 16, 33, 37, 40] [(1, Z10 p1), (2, Z10 p2), (3, Z0 p0), (7, Z85), (14, Z19 p0), (15, Z24 p0), (16, vI y2), (33, Z92), (37, Z58 x10), (40, .d (.dptr [.int .i64 x11.Kind, .int .i64 x11.N, .str x11.S]))] (BAt.index (n := 3) hx (by kernel_rfl)) (by kernel_rfl) <| OQk.G 1 [(1, Z10 p1), (2, Z10 p2), (3, Z0 p0), (7, Z85), (14, Z19 p0), (15, Z24 p0), (16, vI y2), (33, Z92), (37, Z58 x10), (41, Z58 x11)] ?_
            obtain ⟨r12, hr, h⟩ := bind_inv h
            refine OQk.cl 47 H (d := some 42) (ls := []) [1, 2, 3, 7, 14, 15, 16, 42] [(1, Z10 p1), (2, Z10 p2), (3, Z0 p0), (7, Z85), (14, Z19 p0), (15, Z24 p0), (16, vI y2), (42, vI r12)] (t_comparisons_2_ok hr) (by kernel_rfl) (by kernel_rfl) (by kernel_rfl) <| OQk.G 1 [(1, Z10 p1), (2, Z10 p2), (3, Z0 p0), (7, Z85), (11, vI r12), (14, Z19 p0), (15, Z24 p0), (16, vI y2)] <| OQk.done (by kernel_rfl) <| thenS_n <| SW.R 1 [(1, Z10 p1), (2, Z10 p2), (3, Z0 p0), (7, Z85), (11, vI r12), (14, Z19 p0), (15, Z24 p0), (16, vI y2), (44, vB (r12 != 0))] ?_
            refine SW.B (r12 != 0) (fun hc => ?_) (fun hc => ?_)
            · replace h := bif_t hc h
              refine SW.R 1 [(6, vI r12)] <| SW.ret <| blockS_r <| thenS_r ?_
              cases h
              refine thenS_r ?_
              exact ⟨_, rfl, .inr (⟨r12, rfl, rfl, EndQ.ret [] (by kernel_rfl) rfl⟩)⟩
            · replace h := bif_f hc h
              refine SW.skip <| blockS_n <| thenS_n <| SW.regionK <| OWk.G 2 [(1, Z10 p1), (2, Z10 p2), (3, Z0 p0), (7, Z85), (14, Z19 p0), (15, Z24 p0), (16, Z15 y2)] <| OWk.D ?_
              cases h
              exact ⟨(IntKind.wrap .i64 (y2 + 1)), rfl, by kernel_rfl⟩
        · replace h := bif_t hc h
          refine OQk.lit (fun e => (sp 47 [(1, Z10 p1), (2, Z10 p2), (3, Z0 p0), (7, Z85), (8, vI y2), (14, Z19 p0), (15, Z24 p0), (16, vI y2), (31, vI e)] H)) (by kernel_rfl) hc <| OQk.G 4 [(1, Z10 p1), (2, Z10 p2), (3, Z0 p0), (7, Z85), (8, vI y2), (14, Z19 p0), (15, Z24 p0), (16, vI y2), (33, Z90), (34, Z10 p1), (35, vI y2)] ?_
          obtain ⟨x7, hx, h⟩ := bind_inv h
          refine OQk.on 47 H (d := some 36) (s := lendP none (Go.Sh.D.cells (encValue x7))) [1, 2, 3, 7, 8, 14, 15, 16, 33, 36] [(1, Z10 p1), (2, Z10 p2), (3, Z0 p0), (7, Z85), (8, vI y2), (14, Z19 p0), (15, Z24 p0), (16, vI y2), (33, Z90), (36, .d (.dptr [.int .i64 x7.Kind, .int .i64 x7.N, .str x7.S]))] (BAt.index (n := 3) hx (by kernel_rfl)) (by kernel_rfl) <| OQk.G 3 [(1, Z10 p1), (2, Z10 p2), (3, Z0 p0), (7, Z85), (14, Z19 p0), (15, Z24 p0), (16, vI y2), (33, Z90), (37, Z58 x7), (38, Z10 p2), (39, vI y2)] ?_
          obtain ⟨x8, hx, h⟩ := bind_inv h
          refine OQk.on 47 H (d := some 40) (s := lendP none (Go.Sh.D.cells (encValue x8))) [1, 2, 3, 7, 14, 15, 16, 33, 37, 40] [(1, Z10 p1), (2, Z10 p2), (3, Z0 p0), (7, Z85), (14, Z19 p0), (15, Z24 p0), (16, vI y2), (33, Z90), (37, Z58 x7), (40, .d (.dptr [.int .i64 x8.Kind, .int .i64 x8.N, .str x8.S]))] (BAt.index (n := 3) hx (by kernel_rfl)) (by kernel_rfl) <| OQk.G 1 [(1, Z10 p1), (2, Z10 p2), (3, Z0 p0), (7, Z85), (14, Z19 p0), (15, Z24 p0), (16, vI y2), (33, Z90), (37, Z58 x7), (41, Z58 x8)] ?_
          obtain ⟨r9, hr, h⟩ := bind_inv h
          refine OQk.cl 47 H (d := some 42) (ls := []) [1, 2, 3, 7, 14, 15, 16, 42] [(1, Z10 p1), (2, Z10 p2), (3, Z0 p0), (7, Z85), (14, Z19 p0), (15, Z24 p0), (16, vI y2), (42, vI r9)] (t_comparisons_1_ok hr) (by kernel_rfl) (by kernel_rfl) (by kernel_rfl) <| OQk.G 1 [(1, Z10 p1), (2, Z10 p2), (3, Z0 p0), (7, Z85), (11, vI r9), (14, Z19 p0), (15, Z24 p0), (16, vI y2)] <| OQk.done (by kernel_rfl) <| thenS_n <| SW.R 1 [(1, Z10 p1), (2, Z10 p2), (3, Z0 p0), (7, Z85), (11, vI r9), (14, Z19 p0), (15, Z24 p0), (16, vI y2), (44, vB (r9 != 0))] ?_
          refine SW.B (r9 != 0) (fun hc => ?_) (fun hc => ?_)
          · replace h := bif_t hc h
            refine SW.R 1 [(6, vI r9)] <| SW.ret <| blockS_r <| thenS_r ?_
            cases h
            refine thenS_r ?_
            exact ⟨_, rfl, .inr (⟨r9, rfl, rfl, EndQ.ret [] (by kernel_rfl) rfl⟩)⟩
          · replace h := bif_f hc h
            refine SW.skip <| blockS_n <| thenS_n <| SW.regionK <| OWk.G 2 [(1, Z10 p1), (2, Z10 p2), (3, Z0 p0), (7, Z85), (14, Z19 p0), (15, Z24 p0), (16, Z15 y2)] <| OWk.D ?_
            cases h
            exact ⟨(IntKind.wrap .i64 (y2 + 1)), rfl, by kernel_rfl⟩
      · refine SW.S <| OWk.G 3 [(1, Z10 p1), (2, Z10 p2), (3, Z0 p0), (7, Z85), (8, vI y2), (10, Z88 x3), (14, Z19 p0), (15, Z24 p0), (16, vI y2), (25, Z21 p0), (26, vI y2)] ?_
        obtain ⟨x6, hx, h⟩ := bind_inv h
        refine OWk.O (d := some 27) (s := lendP none (Go.Sh.D.cells (D.bool x6))) [(1, Z10 p1), (2, Z10 p2), (3, Z0 p0), (7, Z85), (8, vI y2), (10, Z88 x3), (14, Z19 p0), (15, Z24 p0), (16, vI y2), (27, .d (.dptr [.bool x6]))] (BAt.index (n := 1) hx (by kernel_rfl)) <| OWk.G 1 [(1, Z10 p1), (2, Z10 p2), (3, Z0 p0), (7, Z85), (8, vI y2), (10, Z88 x3), (14, Z19 p0), (15, Z24 p0), (16, vI y2), (28, vB x6)] <| OWk.E ?_
        refine SW.B x6 (fun hc => ?_) (fun hc => ?_)
        · replace h := bif_t hc h
          refine SW.regionK <| OWk.G 3 [(1, Z10 p1), (2, Z10 p2), (3, Z0 p0), (7, Z85), (8, vI y2), (10, Z89 x3), (14, Z19 p0), (15, Z24 p0), (16, vI y2)] <| OWk.D ?_
          exact ⟨(IntKind.wrap .i64 ((IntKind.wrap .i64 (2 * (IntKind.wrap .i64 (x3 - 1)))) + 1)), [], by kernel_rfl, h⟩
        · replace h := bif_f hc h
          refine SW.skip ?_
          exact ⟨(IntKind.wrap .i64 (2 * (IntKind.wrap .i64 (x3 - 1)))), [], by kernel_rfl, h⟩
    · replace h := bif_f hc h
      refine SW.K [] <| SW.exit <| thenS_e ?_
      cases h
      refine thenS_e ?_
      exact ⟨_, rfl, .inl ⟨(), rfl, rfl, rfl⟩⟩
  · rintro _ _ (⟨v20, rfl, rfl, rfl⟩ | ⟨r21, rfl, rfl, hE⟩)
    · replace h := sum_l h
      refine blockS_hit <| thenS_n <| SW.R 1 [(6, vI 0)] <| SW.ret ?_
      cases h
      exact EndQ.ret [] (by kernel_rfl) rfl
    · replace h := sum_r h
      refine blockS_r <| thenS_r ?_
      cases h
      exact hE
def t_compare (fuel : Nat) (p0 : Sorting) (p1 : Entry) (p2 : Entry) : Option (Int) :=
  (t_rows fuel p0 p1.Row p2.Row).bind fun r1 =>
  bif (r1 != 0) then
    some r1
  else
    bif (p0.Dup == 2) then
      some (IntKind.wrap .i64 (p2.Number - p1.Number))
    else
      some (IntKind.wrap .i64 (p1.Number - p2.Number))
def Z96 (x0 : Entry) (x1 : Entry) : SV := vI (IntKind.wrap .i64 (x0.Number - x1.Number))
theorem t_compare_ok {fuel : Nat} {p0 : Sorting} {p1 : Entry} {p2 : Entry} {r : Int} (h : t_compare fuel p0 p1 p2 = some r) : PC Try.prog 22 [.d (encSorting p0), .d (encEntry p1), .d (encEntry p2)] (vI r) := by
  refine PC.of_SW Try.func22 rfl fun H => ?_
  unfold t_compare at h
  refine SW.kp 30 H [0, 1, 2] [(0, Z2 p0), (1, Z76 p1), (2, Z76 p2)] (by kernel_rfl) <| SW.R 1 [(3, Z0 p0), (4, Z1 p1), (5, Z1 p2)] <| SW.seq <| SW.S <| OWk.G 5 [(3, Z0 p0), (4, Z1 p1), (5, Z1 p2), (8, Z2 p0), (10, Z83 p1), (12, Z83 p2)] ?_
  obtain ⟨r1, hr, h⟩ := bind_inv h
  refine OWk.C0 (some 13) [(3, Z0 p0), (4, Z1 p1), (5, Z1 p2), (13, vI r1)] (t_rows_ok hr) <| OWk.G 1 [(3, Z0 p0), (4, Z1 p1), (5, Z1 p2), (7, vI r1)] <| OWk.E <| SW.R 1 [(3, Z0 p0), (4, Z1 p1), (5, Z1 p2), (7, vI r1), (15, vB (r1 != 0))] ?_
  refine SW.B (r1 != 0) (fun hc => ?_) (fun hc => ?_)
  · replace h := bif_t hc h
    refine SW.R 1 [(6, vI r1)] <| SW.ret <| thenS_r ?_
    cases h
    exact EndQ.ret [] (by kernel_rfl) rfl
  · replace h := bif_f hc h
    refine SW.skip <| thenS_n <| SW.seq <| SW.R 1 [(4, Z1 p1), (5, Z1 p2), (19, vB (p0.Dup == 2))] ?_
    refine SW.B (p0.Dup == 2) (fun hc => ?_) (fun hc => ?_)
    · replace h := bif_t hc h
      refine SW.R 1 [(6, Z96 p2 p1)] <| SW.ret <| thenS_r ?_
      cases h
      exact EndQ.ret [] (by kernel_rfl) rfl
    · replace h := bif_f hc h
      refine SW.skip <| thenS_n <| SW.R 1 [(6, Z96 p1 p2)] <| SW.ret ?_
      cases h
      exact EndQ.ret [] (by kernel_rfl) rfl
def t_Tree_at_1 (fuel : Nat) (p0 : Entry) (p1 : Entry) (p2 : (Option Nat)) (H : Hp) : Option (Int) :=
  p2.bind fun i1 =>
  (hGet clSorting.cells H i1 0).bind fun x2 =>
  (t_compare fuel x2 p0 p1).bind fun r3 =>
  some r3
theorem t_Tree_at_1_ok {fuel : Nat} {p0 : Entry} {p1 : Entry} {p2 : (Option Nat)} {H : Hp} {r : Int} (h : t_Tree_at_1 fuel p0 p1 p2 H = some r) : SC Try.prog true 88 [.d (encEntry p0), .d (encEntry p1), .d (.dptr [cP.enc p2])] H (vI r) H := by
  refine SC.of_SWr Try.func88 rfl ?_
  unfold t_Tree_at_1 at h
  refine SW.kp 13 H [0, 1, 2] [(0, Z76 p0), (1, Z76 p1), (2, .d (.dptr [cP.enc p2]))] (by kernel_rfl) <| SW.R 1 [(2, .d (.dptr [cP.enc p2])), (3, Z1 p0), (4, Z1 p1)] <| SW.seq <| SW.regionQ (by kernel_rfl) (by kernel_rfl) <| OQk.G 1 [(3, Z1 p0), (4, Z1 p1), (6, .d (cP.enc p2))] ?_
  obtain ⟨i1, hp_i1, h⟩ := bind_inv h
  refine OQk.on 13 H (d := some 7) (s := .d (.ptr i1 0)) [3, 4, 7] [(3, Z1 p0), (4, Z1 p1), (7, .d (.ptr i1 0))] (BAt.nilc (p := p2) hp_i1 (by kernel_rfl)) (by kernel_rfl) <| OQk.G 1 [(3, Z1 p0), (4, Z1 p1), (8, .d (.ptr i1 0))] ?_
  obtain ⟨x2, hx, h⟩ := bind_inv h
  refine OQk.on 13 H (d := some 9) (s := .d (.agg [.list 1 (List.map (D.int .i64) x2.Kinds), .list 1 (List.map D.bool x2.Down), .int .i64 x2.Dup])) [3, 4, 9] [(3, Z1 p0), (4, Z1 p1), (9, Z2 x2)] (BAt.ldH (c := clSorting.cells) hx (by kernel_rfl)) (by kernel_rfl) <| OQk.G 2 [(9, Z2 x2), (10, Z76 p0), (11, Z76 p1)] ?_
  obtain ⟨r3, hr, h⟩ := bind_inv h
  refine OQk.cl 13 H (d := some 12) (ls := []) [12] [(12, vI r3)] (t_compare_ok hr) (by kernel_rfl) (by kernel_rfl) (by kernel_rfl) <| OQk.G 1 [(5, vI r3)] <| OQk.done (by kernel_rfl) <| thenS_n <| SW.ret ?_
  cases h
  exact EndQ.ret [] (by kernel_rfl) rfl
def slices_BinarySearchFunc__t_Tree_at_1_l1 (fuel : Nat) (p0 : (List Entry)) (p1 : Entry) (c2_0 : (Option Nat)) (H : Hp) (y1 : Int × Int) : Option ((Int × Int) ⊕ (Int)) :=
  bif (decide (y1.1 < y1.2)) then
    (idx p0 (IntKind.wrap .i64 (Int.fdiv (IntKind.wrap .u64 (IntKind.wrap .i64 (y1.1 + y1.2))) (2 ^ 1)))).bind fun x2 =>
    (t_Tree_at_1 fuel x2 p1 c2_0 H).bind fun r3 =>
    bif (decide (r3 < 0)) then
      some (.inl ((IntKind.wrap .i64 ((IntKind.wrap .i64 (Int.fdiv (IntKind.wrap .u64 (IntKind.wrap .i64 (y1.1 + y1.2))) (2 ^ 1))) + 1)), y1.2))
    else
      some (.inl (y1.1, (IntKind.wrap .i64 (Int.fdiv (IntKind.wrap .u64 (IntKind.wrap .i64 (y1.1 + y1.2))) (2 ^ 1)))))
  else
    some (.inr y1.1)
def slices_BinarySearchFunc__t_Tree_at_1 (fuel : Nat) (p0 : (List Entry)) (p1 : Entry) (c2_0 : (Option Nat)) (H : Hp) : Option (Int × Bool) :=
  (iter (slices_BinarySearchFunc__t_Tree_at_1_l1 fuel p0 p1 c2_0 H) fuel (0, (p0.length : Int))).bind fun v5 =>
  bif (decide (v5 < (p0.length : Int))) then
    (idx p0 v5).bind fun x6 =>
    (t_Tree_at_1 fuel x6 p1 c2_0 H).bind fun r7 =>
    some (v5, (r7 == 0))
  else
    some (v5, false)
def Z98 (x0 : Int × Int) : SV := vB (decide (x0.1 < x0.2))
def Z99 (x0 : Int × Int) : SV := vI (IntKind.wrap .i64 (Int.fdiv (IntKind.wrap .u64 (IntKind.wrap .i64 (x0.1 + x0.2))) (2 ^ 1)))
def Z100 (x0 : Int × Int) : SV := vI (IntKind.wrap .i64 ((IntKind.wrap .i64 (Int.fdiv (IntKind.wrap .u64 (IntKind.wrap .i64 (x0.1 + x0.2))) (2 ^ 1))) + 1))
def Z101 (x0 : Int) (x1 : (List Entry)) : SV := vB (decide (x0 < (x1.length : Int)))
theorem slices_BinarySearchFunc__t_Tree_at_1_ok {fuel : Nat} {p0 : (List Entry)} {p1 : Entry} {c2_0 : (Option Nat)} {H : Hp} {r : Int × Bool} (h : slices_BinarySearchFunc__t_Tree_at_1 fuel p0 p1 c2_0 H = some r) : SC Try.prog true 87 [.d (.list 3 (List.map encEntry p0)), .d (encEntry p1), .d (.fn (.func 88) [] [.dptr [cP.enc c2_0]])] H (.tup [vI r.1, vB r.2]) H := by
  refine SC.of_SWr Try.func87 rfl ?_
  unfold slices_BinarySearchFunc__t_Tree_at_1 at h
  refine SW.kp 49 H [0, 1, 2] [(0, Z79 p0), (1, Z76 p1), (2, Z80 c2_0)] (by kernel_rfl) <| SW.R 1 [(0, Z79 p0), (2, Z80 c2_0), (4, Z1 p1)] <| SW.S <| OWk.G 1 [(0, Z79 p0), (2, Z80 c2_0), (4, Z1 p1), (12, Z79 p0)] <| OWk.O (d := some 13) [(0, Z79 p0), (2, Z80 c2_0), (4, Z1 p1), (13, vI (p0.length : Int))] (BAt.len (enc := encEntry) (xs := p0) (by kernel_rfl)) <| OWk.G 1 [(0, Z79 p0), (2, Z80 c2_0), (4, Z1 p1), (8, vI (p0.length : Int))] <| OWk.E <| SW.R 1 [(0, Z79 p0), (2, Z80 c2_0), (4, Z1 p1), (8, vI (p0.length : Int)), (9, vI 0), (10, vI (p0.length : Int))] <| SW.seq <| SW.block ?_
  obtain ⟨v5, hit, h⟩ := bind_inv h
  refine SW.it 49 H [0, 2, 4, 8, 9, 10] (fun y1 => [(0, Z79 p0), (2, Z80 c2_0), (4, Z1 p1), (8, vI (p0.length : Int)), (9, vI y1.1), (10, vI y1.2)]) (fun v5 e s => (e = .exit 0 ∧ s = (sp 49 [(0, Z79 p0), (2, Z80 c2_0), (4, Z1 p1), (8, vI (p0.length : Int)), (9, vI v5)] H))) hit (by kernel_rfl) (fun y1 o h => ?_) ?_
  · unfold slices_BinarySearchFunc__t_Tree_at_1_l1 at h
    refine SW.seq <| SW.R 1 [(0, Z79 p0), (2, Z80 c2_0), (4, Z1 p1), (8, vI (p0.length : Int)), (9, vI y1.1), (10, vI y1.2), (17, Z98 y1)] ?_
    refine SW.B (decide (y1.1 < y1.2)) (fun hc => ?_) (fun hc => ?_)
    · replace h := bif_t hc h
      refine SW.skip <| thenS_n <| SW.block <| SW.R 1 [(0, Z79 p0), (2, Z80 c2_0), (4, Z1 p1), (8, vI (p0.length : Int)), (9, vI y1.1), (10, vI y1.2), (11, Z99 y1)] <| SW.seq <| SW.regionQ (by kernel_rfl) (by kernel_rfl) <| OQk.G 3 [(0, Z79 p0), (2, Z80 c2_0), (4, Z1 p1), (8, vI (p0.length : Int)), (9, vI y1.1), (10, vI y1.2), (11, Z99 y1), (24, Z80 c2_0), (25, Z79 p0), (26, Z99 y1)] ?_
      obtain ⟨x2, hx, h⟩ := bind_inv h
      refine OQk.on 49 H (d := some 27) (s := lendP none (Go.Sh.D.cells (encEntry x2))) [0, 2, 4, 8, 9, 10, 11, 24, 27] [(0, Z79 p0), (2, Z80 c2_0), (4, Z1 p1), (8, vI (p0.length : Int)), (9, vI y1.1), (10, vI y1.2), (11, Z99 y1), (24, Z80 c2_0), (27, .d (.dptr [.list 3 (List.map encValue x2.Row), .int .i64 x2.Key, .int .i64 x2.Number]))] (BAt.index (n := 3) hx (by kernel_rfl)) (by kernel_rfl) <| OQk.G 2 [(0, Z79 p0), (2, Z80 c2_0), (4, Z1 p1), (8, vI (p0.length : Int)), (9, vI y1.1), (10, vI y1.2), (11, Z99 y1), (24, Z80 c2_0), (28, Z76 x2), (29, Z76 p1)] ?_
      obtain ⟨r3, hr, h⟩ := bind_inv h
      refine OQk.CR (ls := []) (some 30) [(0, Z79 p0), (2, Z80 c2_0), (4, Z1 p1), (8, vI (p0.length : Int)), (9, vI y1.1), (10, vI y1.2), (11, Z99 y1), (30, vI r3)] (t_Tree_at_1_ok hr) <| OQk.G 1 [(0, Z79 p0), (2, Z80 c2_0), (4, Z1 p1), (8, vI (p0.length : Int)), (9, vI y1.1), (10, vI y1.2), (11, Z99 y1), (31, vB (decide (r3 < 0)))] <| OQk.done (by kernel_rfl) <| thenS_n ?_
      refine SW.B (decide (r3 < 0)) (fun hc => ?_) (fun hc => ?_)
      · replace h := bif_t hc h
        refine SW.regionK <| OWk.G 3 [(0, Z79 p0), (2, Z80 c2_0), (4, Z1 p1), (8, vI (p0.length : Int)), (9, Z100 y1), (10, vI y1.2)] <| OWk.D <| blockS_n ?_
        cases h
        exact ⟨((IntKind.wrap .i64 ((IntKind.wrap .i64 (Int.fdiv (IntKind.wrap .u64 (IntKind.wrap .i64 (y1.1 + y1.2))) (2 ^ 1))) + 1)), y1.2), rfl, by kernel_rfl⟩
      · replace h := bif_f hc h
        refine SW.regionK <| OWk.G 2 [(0, Z79 p0), (2, Z80 c2_0), (4, Z1 p1), (8, vI (p0.length : Int)), (9, vI y1.1), (10, Z99 y1)] <| OWk.D <| blockS_n ?_
        cases h
        exact ⟨(y1.1, (IntKind.wrap .i64 (Int.fdiv (IntKind.wrap .u64 (IntKind.wrap .i64 (y1.1 + y1.2))) (2 ^ 1)))), rfl, by kernel_rfl⟩
    · replace h := bif_f hc h
      refine SW.K [(0, Z79 p0), (2, Z80 c2_0), (4, Z1 p1), (8, vI (p0.length : Int)), (9, vI y1.1)] <| SW.exit <| thenS_e ?_
      cases h
      refine thenS_e ?_
      exact ⟨_, rfl, ⟨rfl, rfl⟩⟩
  · rintro _ _ ⟨rfl, rfl⟩
    refine blockS_hit <| thenS_n <| SW.seq <| SW.regionQ (by kernel_rfl) (by kernel_rfl) <| OQk.G 5 [(0, Z79 p0), (2, Z80 c2_0), (4, Z1 p1), (9, vI v5), (35, vI v5), (39, Z101 v5 p0)] ?_
    refine OQk.case (decide (v5 < (p0.length : Int))) (fun b => (sp 49 [(0, Z79 p0), (2, Z80 c2_0), (4, Z1 p1), (9, vI v5), (35, vI v5), (39, vB b)] H)) (by kernel_rfl) (fun hc => ?_) (fun hc => ?_)
    · replace h := bif_t hc h
      refine OQk.G 3 [(4, Z1 p1), (35, vI v5), (39, vB true), (40, Z80 c2_0), (41, Z79 p0), (42, vI v5)] ?_
      obtain ⟨x6, hx, h⟩ := bind_inv h
      refine OQk.on 49 H (d := some 43) (s := lendP none (Go.Sh.D.cells (encEntry x6))) [4, 35, 39, 40, 43] [(4, Z1 p1), (35, vI v5), (39, vB true), (40, Z80 c2_0), (43, .d (.dptr [.list 3 (List.map encValue x6.Row), .int .i64 x6.Key, .int .i64 x6.Number]))] (BAt.index (n := 3) hx (by kernel_rfl)) (by kernel_rfl) <| OQk.G 2 [(35, vI v5), (39, vB true), (40, Z80 c2_0), (44, Z76 x6), (45, Z76 p1)] ?_
      obtain ⟨r7, hr, h⟩ := bind_inv h
      refine OQk.CR (ls := []) (some 46) [(35, vI v5), (39, vB true), (46, vI r7)] (t_Tree_at_1_ok hr) <| OQk.G 4 [(6, vI v5), (7, vB (r7 == 0))] <| OQk.done (by kernel_rfl) <| thenS_n <| SW.ret ?_
      cases h
      exact EndQ.ret [] (by kernel_rfl) rfl
    · replace h := bif_f hc h
      refine OQk.G 11 [(6, vI v5), (7, vB false)] <| OQk.done (by kernel_rfl) <| thenS_n <| SW.ret ?_
      cases h
      exact EndQ.ret [] (by kernel_rfl) rfl
def t_Tree_at (fuel : Nat) (p0 : Nat) (p1 : Nat) (p2 : Entry) (H : Hp) : Option (Int × Bool) :=
  (hGetL 3 cEntry H p1 0).bind fun x1 =>
  (slices_BinarySearchFunc__t_Tree_at_1 fuel x1 p2 (some p0) (lendHp [(.hcell p1 0)] H)).bind fun r2 =>
  some (r2.1, r2.2)
theorem t_Tree_at_ok {fuel : Nat} {p0 : Nat} {p1 : Nat} {p2 : Entry} {H : Hp} {r : Int × Bool} (h : t_Tree_at fuel p0 p1 p2 H = some r) : SC Try.prog true 71 [.d (.ptr p0 0), .d (.ptr p1 0), .d (encEntry p2)] H (.tup [vI r.1, vB r.2]) H := by
  refine SC.of_SWr Try.func71 rfl ?_
  unfold t_Tree_at at h
  refine SW.kp 18 H [0, 1, 2] [(0, .d (.ptr p0 0)), (1, .d (.ptr p1 0)), (2, Z76 p2)] (by kernel_rfl) <| SW.S <| OWk.bxf 18 H (d := 3) (ds := [.ptr p0 0]) [1, 2, 3] [(1, .d (.ptr p1 0)), (2, Z76 p2), (3, .d (.dptr [.ptr p0 0]))] (by kernel_rfl) (by kernel_rfl) <| OWk.G 3 [(1, .d (.ptr p1 0)), (3, .d (.dptr [.ptr p0 0])), (5, Z1 p2)] <| OWk.E <| SW.seq <| SW.regionQ (by kernel_rfl) (by kernel_rfl) <| OQk.G 4 [(3, .d (.dptr [.ptr p0 0])), (5, Z1 p2), (11, .d (.ptr p1 0))] ?_
  obtain ⟨x1, hx, h⟩ := bind_inv h
  refine OQk.on 18 H (d := some 12) (s := .lent (.hcell p1 0) 3 (List.map encEntry x1)) [3, 5, 12] [(3, .d (.dptr [.ptr p0 0])), (5, Z1 p2), (12, Z77 p1 x1)] (BAt.ldL (c := cEntry) hx (by kernel_rfl)) (by kernel_rfl) <| OQk.G 2 [(12, Z77 p1 x1), (13, Z76 p2), (14, Z78 p0)] ?_
  obtain ⟨r2, hr, h⟩ := bind_inv h
  refine OQk.CR (ls := [(.hcell p1 0)]) (some 15) [(15, .tup [vI r2.1, vB r2.2])] (slices_BinarySearchFunc__t_Tree_at_1_ok hr) <| OQk.G 4 [(6, vI r2.1), (7, vB r2.2)] <| OQk.done (by kernel_rfl) <| thenS_n <| SW.ret ?_
  cases h
  exact EndQ.ret [] (by kernel_rfl) rfl
def t_node_leaf (fuel : Nat) (p0 : Nat) (H : Hp) : Option (Bool) :=
  (hGetL 1 cP H p0 1).bind fun x1 =>
  some ((x1.length : Int) == 0)
def Z102 (x0 : (List (Option Nat))) : SV := vB ((x0.length : Int) == 0)
def Z103 (x0 : Nat) (x1 : (List (Option Nat))) : SV := .lent (.hcell x0 1) 1 (List.map cP.enc x1)
theorem t_node_leaf_ok {fuel : Nat} {p0 : Nat} {H : Hp} {r : Bool} (h : t_node_leaf fuel p0 H = some r) : SC Try.prog true 58 [.d (.ptr p0 0)] H (vB r) H := by
  refine SC.of_SWr Try.func58 rfl ?_
  unfold t_node_leaf at h
  refine SW.kp 9 H [0] [(0, .d (.ptr p0 0))] (by kernel_rfl) <| SW.R 1 [(0, .d (.ptr p0 0))] <| SW.S <| OWk.G 3 [(5, .d (.ptr p0 1))] ?_
  obtain ⟨x1, hx, h⟩ := bind_inv h
  refine OWk.O (d := some 6) (s := .lent (.hcell p0 1) 1 (List.map cP.enc x1)) [(6, Z103 p0 x1)] (BAt.ldL (c := cP) hx (by kernel_rfl)) <| OWk.O (d := some 7) [(7, vI (x1.length : Int))] (BAt.len (enc := cP.enc) (xs := x1) (by kernel_rfl)) <| OWk.G 2 [(2, Z102 x1)] <| OWk.E <| SW.ret ?_
  cases h
  exact EndQ.ret [] (by kernel_rfl) rfl
def slices_Insert (fuel : Nat) (p0 : (List Entry)) (p1 : Int) (p2 : (List Entry)) : Option ((List Entry)) :=
  chk (slOk p0 p1 (p0.length : Int)) <|
  bif ((p2.length : Int) == 0) then
    some p0
  else
    bif (p1 == (p0.length : Int)) then
      chk (decide ((p0 ++ p2).length ≤ room)) <|
      some (p0 ++ p2)
    else
      chk (decide (0 ≤ p1) && decide (p1 < (p0.length : Int)) && decide (0 < p2.length) && decide (p0.length + p2.length ≤ room)) <|
      some (List.take (Int.toNat p1) p0 ++ p2 ++ List.drop (Int.toNat p1) p0)
def Z104 (x0 : (List Entry)) : SV := .own 3 (List.map encEntry x0)
def Z105 (x0 : (List Entry)) : SV := .lent (.slot 0) 3 (List.map encEntry x0)
def Z106 (x0 : (List Entry)) : SV := vB ((x0.length : Int) == 0)
def Z107 (x0 : Int) (x1 : (List Entry)) : SV := vB (x0 == (x1.length : Int))
def Z108 (x0 : (List Entry)) (x1 : (List Entry)) : SV := .own 3 (List.map encEntry (x0 ++ x1))
theorem slices_Insert_ok {fuel : Nat} {p0 : (List Entry)} {p1 : Int} {p2 : (List Entry)} {r : (List Entry)} (h : slices_Insert fuel p0 p1 p2 = some r) : PC Try.prog 72 [.own 3 (List.map encEntry p0), vI p1, .d (.list 3 (List.map encEntry p2))] (.own 3 (List.map encEntry r)) := by
  refine PC.of_SW Try.func72 rfl fun H => ?_
  unfold slices_Insert at h
  refine SW.kp 95 H [0, 1, 2] [(0, Z104 p0), (1, vI p1), (2, Z79 p2)] (by kernel_rfl) <| SW.R 1 [(0, Z104 p0), (1, vI p1), (2, Z79 p2)] <| SW.S <| OWk.G 2 [(0, Z104 p0), (1, vI p1), (2, Z79 p2), (10, Z105 p0), (11, vI p1)] ?_
  obtain ⟨hk, h⟩ := chk_inv h
  refine OWk.O (d := some 12) (s := lendL (some (.slot 0)) 3 (List.map encEntry (sl p0 p1 (p0.length : Int)))) [(0, Z104 p0), (1, vI p1), (2, Z79 p2)] (BAt.slice hk (by kernel_rfl)) <| OWk.E <| SW.S <| OWk.G 1 [(0, Z104 p0), (1, vI p1), (2, Z79 p2), (13, Z79 p2)] <| OWk.O (d := some 14) [(0, Z104 p0), (1, vI p1), (2, Z79 p2), (14, vI (p2.length : Int))] (BAt.len (enc := encEntry) (xs := p2) (by kernel_rfl)) <| OWk.G 1 [(0, Z104 p0), (1, vI p1), (2, Z79 p2), (7, vI (p2.length : Int))] <| OWk.E <| SW.seq <| SW.R 1 [(0, Z104 p0), (1, vI p1), (2, Z79 p2), (7, vI (p2.length : Int)), (16, Z106 p2)] ?_
  refine SW.B ((p2.length : Int) == 0) (fun hc => ?_) (fun hc => ?_)
  · replace h := bif_t hc h
    refine SW.S <| OWk.sg 95 H [17] [6] 2 [(6, Z104 p0)] (by kernel_rfl) <| OWk.E <| SW.ret <| thenS_r ?_
    cases h
    exact EndQ.ret [] (by kernel_rfl) rfl
  · replace h := bif_f hc h
    refine SW.skip <| thenS_n <| SW.S <| OWk.G 1 [(0, Z104 p0), (1, vI p1), (2, Z79 p2), (7, vI (p2.length : Int)), (18, Z105 p0)] <| OWk.O (d := some 19) [(0, Z104 p0), (1, vI p1), (2, Z79 p2), (7, vI (p2.length : Int)), (19, vI (p0.length : Int))] (BAt.len (enc := encEntry) (xs := p0) (by kernel_rfl)) <| OWk.G 1 [(0, Z104 p0), (1, vI p1), (2, Z79 p2), (7, vI (p2.length : Int)), (8, vI (p0.length : Int))] <| OWk.E <| SW.seq <| SW.R 1 [(0, Z104 p0), (1, vI p1), (2, Z79 p2), (7, vI (p2.length : Int)), (8, vI (p0.length : Int)), (22, Z107 p1 p0)] ?_
    refine SW.B (p1 == (p0.length : Int)) (fun hc => ?_) (fun hc => ?_)
    · replace h := bif_t hc h
      refine SW.S <| OWk.sg 95 H [23] [23, 24] 2 [(23, Z104 p0), (24, Z79 p2)] (by kernel_rfl) ?_
      obtain ⟨hk, h⟩ := chk_inv h
      refine OWk.app 95 H (s := 23) (d := 25) (w := 3) [25] (zs := List.map encEntry (p0 ++ p2)) [(25, Z108 p0 p2)] (ys := (List.map encEntry p2)) (by kernel_rfl) (map_append') (room_map hk) (by kernel_rfl) <| OWk.sg 95 H [23] [6] 1 [(6, Z108 p0 p2)] (by kernel_rfl) <| OWk.E <| SW.ret <| thenS_r ?_
      cases h
      exact EndQ.ret [] (by kernel_rfl) rfl
    · replace h := bif_f hc h
      refine SW.skip <| thenS_n ?_
      obtain ⟨hk, h⟩ := chk_inv h
      refine SW.K [(0, Z104 p0), (1, vI p1), (2, Z79 p2), (7, vI (p2.length : Int)), (8, vI (p0.length : Int))] ?_
      obtain ⟨hT, ti, z, zd, hi, hz, hzd, hzn, hsz, hn, hby⟩ := elemB_spec (P := Try.prog) (T := 38) (e := 28) (n := 3) (by kernel_rfl)
      refine SW.insM (enc := encEntry) (xs := p0) (ys := p2) (i := p1) (T := 38) (I := 3) (B := 4) (fo := 89) (ik := .i64) hk hT (by kernel_rfl) hi hz hzd hzn hsz hn hby (fun args w => run_callFunc_extern Try.func89 (by kernel_rfl) (by kernel_rfl) (by kernel_rfl) (by kernel_rfl) args w) (by kernel_rfl) (by kernel_rfl) (by kernel_rfl) ⟨rfl, rfl, rfl⟩ ⟨rfl, rfl, rfl⟩ ⟨rfl, rfl, rfl⟩ ⟨rfl, rfl, rfl⟩ ⟨rfl, rfl, rfl⟩ ⟨rfl, rfl, rfl⟩ ⟨rfl, rfl, rfl⟩ ⟨rfl, rfl, rfl⟩ ⟨rfl, rfl, rfl⟩ ⟨rfl, rfl, rfl⟩ ⟨rfl, rfl, rfl⟩ ⟨rfl, rfl, rfl⟩ ⟨rfl, rfl, rfl⟩ ⟨rfl, rfl, rfl⟩ ⟨rfl, rfl, rfl⟩ ⟨rfl, rfl, rfl⟩ ⟨rfl, rfl, rfl⟩ ⟨rfl, rfl, rfl⟩ ⟨rfl, rfl, rfl⟩ ⟨rfl, rfl, rfl⟩ ⟨rfl, rfl, rfl⟩ ⟨rfl, rfl, rfl⟩ ⟨rfl, rfl, rfl⟩ ⟨rfl, rfl, rfl⟩ ⟨rfl, rfl, rfl⟩ ⟨rfl, rfl, rfl⟩ ⟨rfl, rfl, rfl⟩ ⟨rfl, rfl, rfl⟩ ⟨rfl, rfl, rfl⟩ ⟨rfl, rfl, rfl⟩ ⟨rfl, rfl, rfl⟩ ⟨rfl, rfl, rfl⟩ ⟨rfl, rfl, rfl⟩ ⟨rfl, rfl, rfl⟩ ⟨rfl, rfl, rfl⟩ ⟨rfl, rfl, rfl⟩ ⟨rfl, rfl, rfl⟩ ⟨rfl, rfl, rfl⟩ ⟨rfl, rfl, rfl⟩ ⟨rfl, rfl, rfl⟩ ⟨rfl, rfl, rfl⟩ ⟨rfl, rfl, rfl⟩ ⟨rfl, rfl, rfl⟩ ⟨rfl, rfl, rfl⟩ ⟨rfl, rfl, rfl⟩ ⟨rfl, rfl, rfl⟩ ⟨rfl, rfl, rfl⟩ ⟨rfl, rfl, rfl⟩ ⟨rfl, rfl, rfl⟩ ⟨rfl, rfl, rfl⟩ ⟨rfl, rfl, rfl⟩ ⟨rfl, rfl, rfl⟩ ⟨rfl, rfl, rfl⟩ ⟨rfl, rfl, rfl⟩ ⟨rfl, rfl, rfl⟩ ⟨rfl, rfl, rfl⟩ ⟨rfl, rfl, rfl⟩ ⟨rfl, rfl, rfl⟩ ⟨rfl, rfl, rfl⟩ ⟨rfl, rfl, rfl⟩ ⟨rfl, rfl, rfl⟩ ⟨rfl, rfl, rfl⟩ ?_
      cases h
      exact EndQ.ret [] (by kernel_rfl) rfl
def slices_Clone_f74 (fuel : Nat) (p0 : (List Entry)) : Option ((List Entry)) :=
  nilB p0 fun b1 =>
  bif b1 then
    some ([] : List Entry)
  else
    chk (decide ((([] : List Entry) ++ p0).length ≤ room)) <|
    some (([] : List Entry) ++ p0)
def Z109 (x0 : ((List Entry) × Hp)) : SV := .own 3 (List.map encEntry x0.1)
def Z110 (x0 : Entry) : SV := .own 3 (List.map encEntry [x0])
def Z111 (x0 : Entry) : SV := .d (.list 3 (List.map encEntry [x0]))
def Z112 (x0 : (List Entry)) (x1 : Int) : SV := vB (decide ((x0.length : Int) > x1))
def Z113 : SV := .box [.d (.nilS), vI 0, vI 0]
def Z116 : SV := .own 3 (List.map encEntry ([] : List Entry))
def Z117 (x0 : (List Entry)) : SV := .own 3 (List.map encEntry (([] : List Entry) ++ x0))
theorem slices_Clone_f74_ok {fuel : Nat} {p0 : (List Entry)} {r : (List Entry)} (h : slices_Clone_f74 fuel p0 = some r) : PC Try.prog 74 [.d (.list 3 (List.map encEntry p0))] (.own 3 (List.map encEntry r)) := by
  refine PC.of_SW Try.func74 rfl fun H => ?_
  unfold slices_Clone_f74 at h
  refine SW.kp 8 H [0] [(0, Z79 p0)] (by kernel_rfl) <| SW.R 1 [(0, Z79 p0)] <| SW.seq <| SW.S <| OWk.G 1 [(0, Z79 p0), (3, Z79 p0)] ?_
  refine OWk.nilq (xs := List.map encEntry p0) (d := some 4) (e := true) 8 H [0, 4] (fun b1 => [(0, Z79 p0), (4, vB b1)]) (by kernel_rfl) (fun _ => by kernel_rfl) (fun b1 hnil => ?_)
  replace h := nilB_inv h b1 (fun e => List.map_eq_nil_iff.1 (hnil e))
  refine OWk.E ?_
  refine SW.B b1 (fun hc => ?_) (fun hc => ?_)
  · replace h := bif_t hc h
    refine SW.R 1 [(2, Z116)] <| SW.ret <| thenS_r ?_
    cases h
    exact EndQ.ret [] (by kernel_rfl) rfl
  · replace h := bif_f hc h
    refine SW.skip <| thenS_n <| SW.S <| OWk.sg 8 H [5] [5, 6] 2 [(5, Z116), (6, Z79 p0)] (by kernel_rfl) ?_
    obtain ⟨hk, h⟩ := chk_inv h
    refine OWk.app 8 H (s := 5) (d := 7) (w := 3) [7] (zs := List.map encEntry (([] : List Entry) ++ p0)) [(7, Z117 p0)] (ys := (List.map encEntry p0)) (by kernel_rfl) (map_append') (room_map hk) (by kernel_rfl) <| OWk.sg 8 H [5] [2] 1 [(2, Z117 p0)] (by kernel_rfl) <| OWk.E <| SW.ret ?_
    cases h
    exact EndQ.ret [] (by kernel_rfl) rfl
def slices_Clone_f75 (fuel : Nat) (p0 : (List (Option Nat))) : Option ((List (Option Nat))) :=
  nilB p0 fun b1 =>
  bif b1 then
    some ([] : List (Option Nat))
  else
    chk (decide ((([] : List (Option Nat)) ++ p0).length ≤ room)) <|
    some (([] : List (Option Nat)) ++ p0)
def Z118 (x0 : ((List Entry) × Hp)) : SV := vI (IntKind.wrap .i64 (Int.tdiv (x0.1.length : Int) 2))
def Z119 (x0 : ((List Entry) × Hp)) : SV := .d (.list 3 (List.map encEntry x0.1))
def Z120 (x0 : ((List Entry) × Hp)) : SV := vI (IntKind.wrap .i64 ((IntKind.wrap .i64 (Int.tdiv (x0.1.length : Int) 2)) + 1))
def Z122 (x0 : ((List Entry) × Hp)) (x1 : ((List Entry) × Hp)) : SV := .d (.list 3 (List.map encEntry (sl x0.1 (IntKind.wrap .i64 ((IntKind.wrap .i64 (Int.tdiv (x1.1.length : Int) 2)) + 1)) (x0.1.length : Int))))
def Z123 (x0 : (List (Option Nat))) : SV := .d (.list 1 (List.map cP.enc x0))
def Z124 : SV := .own 1 (List.map cP.enc ([] : List (Option Nat)))
def Z125 (x0 : (List (Option Nat))) : SV := .own 1 (List.map cP.enc (([] : List (Option Nat)) ++ x0))
theorem slices_Clone_f75_ok {fuel : Nat} {p0 : (List (Option Nat))} {r : (List (Option Nat))} (h : slices_Clone_f75 fuel p0 = some r) : PC Try.prog 75 [.d (.list 1 (List.map cP.enc p0))] (.own 1 (List.map cP.enc r)) := by
  refine PC.of_SW Try.func75 rfl fun H => ?_
  unfold slices_Clone_f75 at h
  refine SW.kp 8 H [0] [(0, Z123 p0)] (by kernel_rfl) <| SW.R 1 [(0, Z123 p0)] <| SW.seq <| SW.S <| OWk.G 1 [(0, Z123 p0), (3, Z123 p0)] ?_
  refine OWk.nilq (xs := List.map cP.enc p0) (d := some 4) (e := true) 8 H [0, 4] (fun b1 => [(0, Z123 p0), (4, vB b1)]) (by kernel_rfl) (fun _ => by kernel_rfl) (fun b1 hnil => ?_)
  replace h := nilB_inv h b1 (fun e => List.map_eq_nil_iff.1 (hnil e))
  refine OWk.E ?_
  refine SW.B b1 (fun hc => ?_) (fun hc => ?_)
  · replace h := bif_t hc h
    refine SW.R 1 [(2, Z124)] <| SW.ret <| thenS_r ?_
    cases h
    exact EndQ.ret [] (by kernel_rfl) rfl
  · replace h := bif_f hc h
    refine SW.skip <| thenS_n <| SW.S <| OWk.sg 8 H [5] [5, 6] 2 [(5, Z124), (6, Z123 p0)] (by kernel_rfl) ?_
    obtain ⟨hk, h⟩ := chk_inv h
    refine OWk.app 8 H (s := 5) (d := 7) (w := 1) [7] (zs := List.map cP.enc (([] : List (Option Nat)) ++ p0)) [(7, Z125 p0)] (ys := (List.map cP.enc p0)) (by kernel_rfl) (map_append') (room_map hk) (by kernel_rfl) <| OWk.sg 8 H [5] [2] 1 [(2, Z125 p0)] (by kernel_rfl) <| OWk.E <| SW.ret ?_
    cases h
    exact EndQ.ret [] (by kernel_rfl) rfl
def t_split (fuel : Nat) (p0 : Nat) (H : Hp) : Option ((Entry × (Option Nat)) × Hp) :=
  (hFz 3 cEntry H p0 0).bind fun q2 =>
  (hFz 3 cEntry q2.2 p0 0).bind fun q4 =>
  (idx q4.1 (IntKind.wrap .i64 (Int.tdiv (q2.1.length : Int) 2))).bind fun x5 =>
  (hFz 3 cEntry q4.2 p0 0).bind fun q7 =>
  chk (slOk q7.1 (IntKind.wrap .i64 ((IntKind.wrap .i64 (Int.tdiv (q2.1.length : Int) 2)) + 1)) (q7.1.length : Int)) <|
  (slices_Clone_f74 fuel (sl q7.1 (IntKind.wrap .i64 ((IntKind.wrap .i64 (Int.tdiv (q2.1.length : Int) 2)) + 1)) (q7.1.length : Int))).bind fun r8 =>
  (hNew q7.2 (.cells [.d (.list 3 (List.map encEntry r8)), .own 1 (List.map cP.enc ([] : List (Option Nat)))])).bind fun q9 =>
  letJ (fun (j10 : Hp) =>
    (hFz 3 cEntry j10 p0 0).bind fun q22 =>
    chk (slOk q22.1 0 (IntKind.wrap .i64 (Int.tdiv (q2.1.length : Int) 2))) <|
    (slices_Clone_f74 fuel (sl q22.1 0 (IntKind.wrap .i64 (Int.tdiv (q2.1.length : Int) 2)))).bind fun r23 =>
    (hGive 3 cEntry q22.2 p0 0 r23).bind fun H24 =>
    some ((x5, (some q9.2)), H24)) fun jp11 =>
  (t_node_leaf fuel p0 q9.1).bind fun r12 =>
  bif (!r12) then
    (hFz 1 cP q9.1 p0 1).bind fun q14 =>
    chk (slOk q14.1 (IntKind.wrap .i64 ((IntKind.wrap .i64 (Int.tdiv (q2.1.length : Int) 2)) + 1)) (q14.1.length : Int)) <|
    (slices_Clone_f75 fuel (sl q14.1 (IntKind.wrap .i64 ((IntKind.wrap .i64 (Int.tdiv (q2.1.length : Int) 2)) + 1)) (q14.1.length : Int))).bind fun r15 =>
    (hGive 1 cP q14.2 q9.2 1 r15).bind fun H16 =>
    (hFz 1 cP H16 p0 1).bind fun q18 =>
    chk (slOk q18.1 0 (IntKind.wrap .i64 ((IntKind.wrap .i64 (Int.tdiv (q2.1.length : Int) 2)) + 1))) <|
    (slices_Clone_f75 fuel (sl q18.1 0 (IntKind.wrap .i64 ((IntKind.wrap .i64 (Int.tdiv (q2.1.length : Int) 2)) + 1)))).bind fun r19 =>
    (hGive 1 cP q18.2 p0 1 r19).bind fun H20 =>
    jp11 H20
  else
    jp11 q9.1
def Z126 (x0 : ((List (Option Nat)) × Hp)) : SV := .d (.list 1 (List.map cP.enc x0.1))
def Z127 (x0 : (List (Option Nat))) : SV := .own 1 (List.map cP.enc x0)
def Z129 (x0 : ((List (Option Nat)) × Hp)) (x1 : ((List Entry) × Hp)) : SV := .d (.list 1 (List.map cP.enc (sl x0.1 0 (IntKind.wrap .i64 ((IntKind.wrap .i64 (Int.tdiv (x1.1.length : Int) 2)) + 1)))))
def Z130 (x0 : ((List (Option Nat)) × Hp)) (x1 : ((List Entry) × Hp)) : SV := .d (.list 1 (List.map cP.enc (sl x0.1 (IntKind.wrap .i64 ((IntKind.wrap .i64 (Int.tdiv (x1.1.length : Int) 2)) + 1)) (x0.1.length : Int))))
def Z131 (x0 : (List Entry)) : SV := .d (.agg [.list 3 (List.map encEntry x0), .nilS])
def Z132 (x0 : ((List Entry) × Hp)) (x1 : ((List Entry) × Hp)) : SV := .d (.list 3 (List.map encEntry (sl x0.1 0 (IntKind.wrap .i64 (Int.tdiv (x1.1.length : Int) 2)))))
theorem t_split_ok {fuel : Nat} {p0 : Nat} {H : Hp} {r : (Entry × (Option Nat)) × Hp} (h : t_split fuel p0 H = some r) : SC Try.prog false 61 [.d (.ptr p0 0)] H (.tup [.d (.agg [.list 3 (List.map encValue r.1.1.Row), .int .i64 r.1.1.Key, .int .i64 r.1.1.Number]), .d (cP.enc r.1.2)]) r.2 := by
  refine SC.of_SWh Try.func61 rfl ?_
  unfold t_split at h
  refine SW.kp 73 H [0] [(0, .d (.ptr p0 0))] (by kernel_rfl) <| SW.R 1 [(0, .d (.ptr p0 0)), (2, Z113)] <| SW.S <| OWk.G 4 [(0, .d (.ptr p0 0)), (2, Z113), (10, .d (.ptr p0 0))] ?_
  obtain ⟨q2, hx, h⟩ := bind_inv h
  refine OWk.fzH (c := cEntry) (xs := q2.1) (H' := q2.2) hx (by kernel_rfl) <| OWk.O (d := some 11) (s := .d (.list 3 (List.map encEntry q2.1))) [(0, .d (.ptr p0 0)), (2, Z113), (11, .d (.list 3 (List.map encEntry q2.1)))] (BAt.ldZ (c := cEntry) (xs := q2.1) (H1 := q2.2) hx (by kernel_rfl)) <| OWk.O (d := some 12) [(0, .d (.ptr p0 0)), (2, Z113), (12, vI (q2.1.length : Int))] (BAt.len (enc := encEntry) (xs := q2.1) (by kernel_rfl)) <| OWk.G 2 [(0, .d (.ptr p0 0)), (2, Z113), (4, Z118 q2)] <| OWk.E <| SW.S <| OWk.G 4 [(0, .d (.ptr p0 0)), (2, Z113), (4, Z118 q2), (17, .d (.ptr p0 0))] ?_
  obtain ⟨q4, hx, h⟩ := bind_inv h
  refine OWk.fzH (c := cEntry) (xs := q4.1) (H' := q4.2) hx (by kernel_rfl) <| OWk.O (d := some 18) (s := .d (.list 3 (List.map encEntry q4.1))) [(0, .d (.ptr p0 0)), (2, Z113), (4, Z118 q2), (18, .d (.list 3 (List.map encEntry q4.1)))] (BAt.ldZ (c := cEntry) (xs := q4.1) (H1 := q4.2) hx (by kernel_rfl)) <| OWk.G 1 [(0, .d (.ptr p0 0)), (2, Z113), (4, Z118 q2), (18, Z119 q4), (19, Z118 q2)] ?_
  obtain ⟨x5, hx, h⟩ := bind_inv h
  refine OWk.O (d := some 20) (s := lendP none (Go.Sh.D.cells (encEntry x5))) [(0, .d (.ptr p0 0)), (2, Z113), (4, Z118 q2), (20, .d (.dptr [.list 3 (List.map encValue x5.Row), .int .i64 x5.Key, .int .i64 x5.Number]))] (BAt.index (n := 3) hx (by kernel_rfl)) <| OWk.G 3 [(0, .d (.ptr p0 0)), (2, Z113), (4, Z118 q2), (5, Z1 x5)] <| OWk.E <| SW.S <| OWk.G 4 [(0, .d (.ptr p0 0)), (2, Z113), (4, Z118 q2), (5, Z1 x5), (25, .d (.ptr p0 0))] ?_
  obtain ⟨q7, hx, h⟩ := bind_inv h
  refine OWk.fzH (c := cEntry) (xs := q7.1) (H' := q7.2) hx (by kernel_rfl) <| OWk.O (d := some 26) (s := .d (.list 3 (List.map encEntry q7.1))) [(0, .d (.ptr p0 0)), (2, Z113), (4, Z118 q2), (5, Z1 x5), (26, .d (.list 3 (List.map encEntry q7.1)))] (BAt.ldZ (c := cEntry) (xs := q7.1) (H1 := q7.2) hx (by kernel_rfl)) <| OWk.G 2 [(0, .d (.ptr p0 0)), (2, Z113), (4, Z118 q2), (5, Z1 x5), (26, Z119 q7), (28, Z120 q2)] ?_
  obtain ⟨hk, h⟩ := chk_inv h
  refine OWk.O (d := some 29) (s := lendL none 3 (List.map encEntry (sl q7.1 (IntKind.wrap .i64 ((IntKind.wrap .i64 (Int.tdiv (q2.1.length : Int) 2)) + 1)) (q7.1.length : Int)))) [(0, .d (.ptr p0 0)), (2, Z113), (4, Z118 q2), (5, Z1 x5), (29, Z122 q7 q2)] (BAt.slice hk (by kernel_rfl)) ?_
  obtain ⟨r8, hr, h⟩ := bind_inv h
  refine OWk.C0 (some 30) [(0, .d (.ptr p0 0)), (2, Z113), (4, Z118 q2), (5, Z1 x5), (30, .own 3 (List.map encEntry r8))] (slices_Clone_f74_ok hr) <| OWk.fz 73 q7.2 30 [0, 2, 4, 5, 30] [(0, .d (.ptr p0 0)), (2, Z113), (4, Z118 q2), (5, Z1 x5), (30, Z79 r8)] (by kernel_rfl) <| OWk.G 2 [(0, .d (.ptr p0 0)), (2, Z113), (4, Z118 q2), (5, Z1 x5), (32, Z131 r8)] ?_
  obtain ⟨q9, hq, h⟩ := bind_inv h
  refine OWk.hnew 73 q9.1 (d := some 33) (b := false) [(1, 1, true)] [0, 2, 4, 5, 33] [(0, .d (.ptr p0 0)), (2, Z113), (4, Z118 q2), (5, Z1 x5), (33, .d (.ptr q9.2 0))] hq (by kernel_rfl) rfl (by kernel_rfl) <| OWk.G 1 [(0, .d (.ptr p0 0)), (2, Z113), (4, Z118 q2), (5, Z1 x5), (6, .d (.ptr q9.2 0))] <| OWk.E ?_
  obtain ⟨jp11, hjjp11, h⟩ := letJ_inv h
  refine SW.jnH 73 [0, 2, 4, 5, 6] (fun (j10 : Hp) => [(0, .d (.ptr p0 0)), (2, Z113), (4, Z118 q2), (5, Z1 x5), (6, .d (.ptr q9.2 0))]) (fun (j10 : Hp) => j10) (fun v => jp11 v = some r) (fun j10 h => ?_) ?_
  · rw [hjjp11] at h
    refine SW.S <| OWk.G 5 [(2, Z113), (4, Z118 q2), (5, Z1 x5), (6, .d (.ptr q9.2 0)), (59, .d (.ptr p0 0)), (63, .d (.ptr p0 0))] ?_
    obtain ⟨q22, hx, h⟩ := bind_inv h
    refine OWk.fzH (c := cEntry) (xs := q22.1) (H' := q22.2) hx (by kernel_rfl) <| OWk.O (d := some 64) (s := .d (.list 3 (List.map encEntry q22.1))) [(2, Z113), (4, Z118 q2), (5, Z1 x5), (6, .d (.ptr q9.2 0)), (59, .d (.ptr p0 0)), (64, .d (.list 3 (List.map encEntry q22.1)))] (BAt.ldZ (c := cEntry) (xs := q22.1) (H1 := q22.2) hx (by kernel_rfl)) <| OWk.G 1 [(2, Z113), (5, Z1 x5), (6, .d (.ptr q9.2 0)), (59, .d (.ptr p0 0)), (64, Z119 q22), (65, Z118 q2)] ?_
    obtain ⟨hk, h⟩ := chk_inv h
    refine OWk.O (d := some 66) (s := lendL none 3 (List.map encEntry (sl q22.1 0 (IntKind.wrap .i64 (Int.tdiv (q2.1.length : Int) 2))))) [(2, Z113), (5, Z1 x5), (6, .d (.ptr q9.2 0)), (59, .d (.ptr p0 0)), (66, Z132 q22 q2)] (BAt.slice hk (by kernel_rfl)) ?_
    obtain ⟨r23, hr, h⟩ := bind_inv h
    refine OWk.C0 (some 67) [(2, Z113), (5, Z1 x5), (6, .d (.ptr q9.2 0)), (59, .d (.ptr p0 0)), (67, .own 3 (List.map encEntry r23))] (slices_Clone_f74_ok hr) <| OWk.G 3 [(2, Z113), (5, Z1 x5), (6, .d (.ptr q9.2 0)), (67, Z104 r23), (70, .d (.ptr p0 0))] ?_
    obtain ⟨H24, hx, h⟩ := bind_inv h
    refine OWk.gvH (c := cEntry) (n' := 3) (s := 67) (xs := r23) 73 [2, 5, 6] [(2, Z113), (5, Z1 x5), (6, .d (.ptr q9.2 0))] hx (by kernel_rfl) (by kernel_rfl) <| OWk.E <| SW.R 1 [(2, Z1 x5), (3, .d (.ptr q9.2 0))] <| SW.ret ?_
    cases h
    exact EndQ.ret [] (by kernel_rfl) rfl
  · refine SW.S <| OWk.G 1 [(0, .d (.ptr p0 0)), (2, Z113), (4, Z118 q2), (5, Z1 x5), (6, .d (.ptr q9.2 0)), (34, .d (.ptr p0 0))] ?_
    obtain ⟨r12, hr, h⟩ := bind_inv h
    refine OWk.CR (ls := []) (some 35) [(0, .d (.ptr p0 0)), (2, Z113), (4, Z118 q2), (5, Z1 x5), (6, .d (.ptr q9.2 0)), (35, vB r12)] (t_node_leaf_ok hr) <| OWk.G 1 [(0, .d (.ptr p0 0)), (2, Z113), (4, Z118 q2), (5, Z1 x5), (6, .d (.ptr q9.2 0)), (36, vB (!r12))] <| OWk.E ?_
    refine SW.B (!r12) (fun hc => ?_) (fun hc => ?_)
    · replace h := bif_t hc h
      refine SW.S <| OWk.G 4 [(0, .d (.ptr p0 0)), (2, Z113), (4, Z118 q2), (5, Z1 x5), (6, .d (.ptr q9.2 0)), (37, .d (.ptr q9.2 0)), (40, .d (.ptr p0 1))] ?_
      obtain ⟨q14, hx, h⟩ := bind_inv h
      refine OWk.fzH (c := cP) (xs := q14.1) (H' := q14.2) hx (by kernel_rfl) <| OWk.O (d := some 41) (s := .d (.list 1 (List.map cP.enc q14.1))) [(0, .d (.ptr p0 0)), (2, Z113), (4, Z118 q2), (5, Z1 x5), (6, .d (.ptr q9.2 0)), (37, .d (.ptr q9.2 0)), (41, .d (.list 1 (List.map cP.enc q14.1)))] (BAt.ldZ (c := cP) (xs := q14.1) (H1 := q14.2) hx (by kernel_rfl)) <| OWk.G 2 [(0, .d (.ptr p0 0)), (2, Z113), (4, Z118 q2), (5, Z1 x5), (6, .d (.ptr q9.2 0)), (37, .d (.ptr q9.2 0)), (41, Z126 q14), (43, Z120 q2)] ?_
      obtain ⟨hk, h⟩ := chk_inv h
      refine OWk.O (d := some 44) (s := lendL none 1 (List.map cP.enc (sl q14.1 (IntKind.wrap .i64 ((IntKind.wrap .i64 (Int.tdiv (q2.1.length : Int) 2)) + 1)) (q14.1.length : Int)))) [(0, .d (.ptr p0 0)), (2, Z113), (4, Z118 q2), (5, Z1 x5), (6, .d (.ptr q9.2 0)), (37, .d (.ptr q9.2 0)), (44, Z130 q14 q2)] (BAt.slice hk (by kernel_rfl)) ?_
      obtain ⟨r15, hr, h⟩ := bind_inv h
      refine OWk.C0 (some 45) [(0, .d (.ptr p0 0)), (2, Z113), (4, Z118 q2), (5, Z1 x5), (6, .d (.ptr q9.2 0)), (37, .d (.ptr q9.2 0)), (45, .own 1 (List.map cP.enc r15))] (slices_Clone_f75_ok hr) <| OWk.G 2 [(0, .d (.ptr p0 0)), (2, Z113), (4, Z118 q2), (5, Z1 x5), (6, .d (.ptr q9.2 0)), (45, Z127 r15), (47, .d (.ptr q9.2 1))] ?_
      obtain ⟨H16, hx, h⟩ := bind_inv h
      refine OWk.gvH (c := cP) (n' := 1) (s := 45) (xs := r15) 73 [0, 2, 4, 5, 6] [(0, .d (.ptr p0 0)), (2, Z113), (4, Z118 q2), (5, Z1 x5), (6, .d (.ptr q9.2 0))] hx (by kernel_rfl) (by kernel_rfl) <| OWk.E <| SW.regionK <| OWk.G 4 [(0, .d (.ptr p0 0)), (2, Z113), (4, Z118 q2), (5, Z1 x5), (6, .d (.ptr q9.2 0)), (48, .d (.ptr p0 0)), (51, .d (.ptr p0 1))] ?_
      obtain ⟨q18, hx, h⟩ := bind_inv h
      refine OWk.fzH (c := cP) (xs := q18.1) (H' := q18.2) hx (by kernel_rfl) <| OWk.O (d := some 52) (s := .d (.list 1 (List.map cP.enc q18.1))) [(0, .d (.ptr p0 0)), (2, Z113), (4, Z118 q2), (5, Z1 x5), (6, .d (.ptr q9.2 0)), (48, .d (.ptr p0 0)), (52, .d (.list 1 (List.map cP.enc q18.1)))] (BAt.ldZ (c := cP) (xs := q18.1) (H1 := q18.2) hx (by kernel_rfl)) <| OWk.G 2 [(0, .d (.ptr p0 0)), (2, Z113), (4, Z118 q2), (5, Z1 x5), (6, .d (.ptr q9.2 0)), (48, .d (.ptr p0 0)), (52, Z126 q18), (54, Z120 q2)] ?_
      obtain ⟨hk, h⟩ := chk_inv h
      refine OWk.O (d := some 55) (s := lendL none 1 (List.map cP.enc (sl q18.1 0 (IntKind.wrap .i64 ((IntKind.wrap .i64 (Int.tdiv (q2.1.length : Int) 2)) + 1))))) [(0, .d (.ptr p0 0)), (2, Z113), (4, Z118 q2), (5, Z1 x5), (6, .d (.ptr q9.2 0)), (48, .d (.ptr p0 0)), (55, Z129 q18 q2)] (BAt.slice hk (by kernel_rfl)) ?_
      obtain ⟨r19, hr, h⟩ := bind_inv h
      refine OWk.C0 (some 56) [(0, .d (.ptr p0 0)), (2, Z113), (4, Z118 q2), (5, Z1 x5), (6, .d (.ptr q9.2 0)), (48, .d (.ptr p0 0)), (56, .own 1 (List.map cP.enc r19))] (slices_Clone_f75_ok hr) <| OWk.G 2 [(0, .d (.ptr p0 0)), (2, Z113), (4, Z118 q2), (5, Z1 x5), (6, .d (.ptr q9.2 0)), (56, Z127 r19), (58, .d (.ptr p0 1))] ?_
      obtain ⟨H20, hx, h⟩ := bind_inv h
      refine OWk.gvH (c := cP) (n' := 1) (s := 56) (xs := r19) 73 [0, 2, 4, 5, 6] [(0, .d (.ptr p0 0)), (2, Z113), (4, Z118 q2), (5, Z1 x5), (6, .d (.ptr q9.2 0))] hx (by kernel_rfl) (by kernel_rfl) <| OWk.D ?_
      exact ⟨H20, [], by kernel_rfl, h⟩
    · replace h := bif_f hc h
      refine SW.skip ?_
      exact ⟨q9.1, [], by kernel_rfl, h⟩
def slices_Insert_f73 (fuel : Nat) (p0 : (List (Option Nat))) (p1 : Int) (p2 : (List (Option Nat))) : Option ((List (Option Nat))) :=
  chk (slOk p0 p1 (p0.length : Int)) <|
  bif ((p2.length : Int) == 0) then
    some p0
  else
    bif (p1 == (p0.length : Int)) then
      chk (decide ((p0 ++ p2).length ≤ room)) <|
      some (p0 ++ p2)
    else
      chk (decide (0 ≤ p1) && decide (p1 < (p0.length : Int)) && decide (0 < p2.length) && decide (p0.length + p2.length ≤ room)) <|
      some (List.take (Int.toNat p1) p0 ++ p2 ++ List.drop (Int.toNat p1) p0)
def Z133 (x0 : ((Entry × (Option Nat)) × Hp)) : SV := .box [.d (.list 3 (List.map encValue x0.1.1.Row)), vI x0.1.1.Key, vI x0.1.1.Number]
def Z134 (x0 : ((Entry × (Option Nat)) × Hp)) : SV := .own 3 (List.map encEntry [x0.1.1])
def Z135 (x0 : ((Entry × (Option Nat)) × Hp)) : SV := .d (.list 3 (List.map encEntry [x0.1.1]))
def Z136 (x0 : ((Entry × (Option Nat)) × Hp)) : SV := .d (.agg [.list 3 (List.map encValue x0.1.1.Row), .int .i64 x0.1.1.Key, .int .i64 x0.1.1.Number])
def Z137 (x0 : ((List (Option Nat)) × Hp)) : SV := .own 1 (List.map cP.enc x0.1)
def Z138 (x0 : Int × Bool) : SV := vI (IntKind.wrap .i64 (x0.1 + 1))
def Z139 (x0 : Nat) : SV := .own 1 (List.map cP.enc [(some x0)])
def Z140 (x0 : (List (Option Nat))) : SV := .lent (.slot 0) 1 (List.map cP.enc x0)
def Z141 (x0 : Int) (x1 : (List (Option Nat))) : SV := vB (x0 == (x1.length : Int))
def Z142 (x0 : (List (Option Nat))) (x1 : (List (Option Nat))) : SV := .own 1 (List.map cP.enc (x0 ++ x1))
theorem slices_Insert_f73_ok {fuel : Nat} {p0 : (List (Option Nat))} {p1 : Int} {p2 : (List (Option Nat))} {r : (List (Option Nat))} (h : slices_Insert_f73 fuel p0 p1 p2 = some r) : PC Try.prog 73 [.own 1 (List.map cP.enc p0), vI p1, .d (.list 1 (List.map cP.enc p2))] (.own 1 (List.map cP.enc r)) := by
  refine PC.of_SW Try.func73 rfl fun H => ?_
  unfold slices_Insert_f73 at h
  refine SW.kp 95 H [0, 1, 2] [(0, Z127 p0), (1, vI p1), (2, Z123 p2)] (by kernel_rfl) <| SW.R 1 [(0, Z127 p0), (1, vI p1), (2, Z123 p2)] <| SW.S <| OWk.G 2 [(0, Z127 p0), (1, vI p1), (2, Z123 p2), (10, Z140 p0), (11, vI p1)] ?_
  obtain ⟨hk, h⟩ := chk_inv h
  refine OWk.O (d := some 12) (s := lendL (some (.slot 0)) 1 (List.map cP.enc (sl p0 p1 (p0.length : Int)))) [(0, Z127 p0), (1, vI p1), (2, Z123 p2)] (BAt.slice hk (by kernel_rfl)) <| OWk.E <| SW.S <| OWk.G 1 [(0, Z127 p0), (1, vI p1), (2, Z123 p2), (13, Z123 p2)] <| OWk.O (d := some 14) [(0, Z127 p0), (1, vI p1), (2, Z123 p2), (14, vI (p2.length : Int))] (BAt.len (enc := cP.enc) (xs := p2) (by kernel_rfl)) <| OWk.G 1 [(0, Z127 p0), (1, vI p1), (2, Z123 p2), (7, vI (p2.length : Int))] <| OWk.E <| SW.seq <| SW.R 1 [(0, Z127 p0), (1, vI p1), (2, Z123 p2), (7, vI (p2.length : Int)), (16, Z102 p2)] ?_
  refine SW.B ((p2.length : Int) == 0) (fun hc => ?_) (fun hc => ?_)
  · replace h := bif_t hc h
    refine SW.S <| OWk.sg 95 H [17] [6] 2 [(6, Z127 p0)] (by kernel_rfl) <| OWk.E <| SW.ret <| thenS_r ?_
    cases h
    exact EndQ.ret [] (by kernel_rfl) rfl
  · replace h := bif_f hc h
    refine SW.skip <| thenS_n <| SW.S <| OWk.G 1 [(0, Z127 p0), (1, vI p1), (2, Z123 p2), (7, vI (p2.length : Int)), (18, Z140 p0)] <| OWk.O (d := some 19) [(0, Z127 p0), (1, vI p1), (2, Z123 p2), (7, vI (p2.length : Int)), (19, vI (p0.length : Int))] (BAt.len (enc := cP.enc) (xs := p0) (by kernel_rfl)) <| OWk.G 1 [(0, Z127 p0), (1, vI p1), (2, Z123 p2), (7, vI (p2.length : Int)), (8, vI (p0.length : Int))] <| OWk.E <| SW.seq <| SW.R 1 [(0, Z127 p0), (1, vI p1), (2, Z123 p2), (7, vI (p2.length : Int)), (8, vI (p0.length : Int)), (22, Z141 p1 p0)] ?_
    refine SW.B (p1 == (p0.length : Int)) (fun hc => ?_) (fun hc => ?_)
    · replace h := bif_t hc h
      refine SW.S <| OWk.sg 95 H [23] [23, 24] 2 [(23, Z127 p0), (24, Z123 p2)] (by kernel_rfl) ?_
      obtain ⟨hk, h⟩ := chk_inv h
      refine OWk.app 95 H (s := 23) (d := 25) (w := 1) [25] (zs := List.map cP.enc (p0 ++ p2)) [(25, Z142 p0 p2)] (ys := (List.map cP.enc p2)) (by kernel_rfl) (map_append') (room_map hk) (by kernel_rfl) <| OWk.sg 95 H [23] [6] 1 [(6, Z142 p0 p2)] (by kernel_rfl) <| OWk.E <| SW.ret <| thenS_r ?_
      cases h
      exact EndQ.ret [] (by kernel_rfl) rfl
    · replace h := bif_f hc h
      refine SW.skip <| thenS_n ?_
      obtain ⟨hk, h⟩ := chk_inv h
      refine SW.K [(0, Z127 p0), (1, vI p1), (2, Z123 p2), (7, vI (p2.length : Int)), (8, vI (p0.length : Int))] ?_
      obtain ⟨hT, ti, z, zd, hi, hz, hzd, hzn, hsz, hn, hby⟩ := elemB_spec (P := Try.prog) (T := 93) (e := 72) (n := 1) (by kernel_rfl)
      refine SW.insM (enc := cP.enc) (xs := p0) (ys := p2) (i := p1) (T := 93) (I := 3) (B := 4) (fo := 91) (ik := .i64) hk hT (by kernel_rfl) hi hz hzd hzn hsz hn hby (fun args w => run_callFunc_extern Try.func91 (by kernel_rfl) (by kernel_rfl) (by kernel_rfl) (by kernel_rfl) args w) (by kernel_rfl) (by kernel_rfl) (by kernel_rfl) ⟨rfl, rfl, rfl⟩ ⟨rfl, rfl, rfl⟩ ⟨rfl, rfl, rfl⟩ ⟨rfl, rfl, rfl⟩ ⟨rfl, rfl, rfl⟩ ⟨rfl, rfl, rfl⟩ ⟨rfl, rfl, rfl⟩ ⟨rfl, rfl, rfl⟩ ⟨rfl, rfl, rfl⟩ ⟨rfl, rfl, rfl⟩ ⟨rfl, rfl, rfl⟩ ⟨rfl, rfl, rfl⟩ ⟨rfl, rfl, rfl⟩ ⟨rfl, rfl, rfl⟩ ⟨rfl, rfl, rfl⟩ ⟨rfl, rfl, rfl⟩ ⟨rfl, rfl, rfl⟩ ⟨rfl, rfl, rfl⟩ ⟨rfl, rfl, rfl⟩ ⟨rfl, rfl, rfl⟩ ⟨rfl, rfl, rfl⟩ ⟨rfl, rfl, rfl⟩ ⟨rfl, rfl, rfl⟩ ⟨rfl, rfl, rfl⟩ ⟨rfl, rfl, rfl⟩ ⟨rfl, rfl, rfl⟩ ⟨rfl, rfl, rfl⟩ ⟨rfl, rfl, rfl⟩ ⟨rfl, rfl, rfl⟩ ⟨rfl, rfl, rfl⟩ ⟨rfl, rfl, rfl⟩ ⟨rfl, rfl, rfl⟩ ⟨rfl, rfl, rfl⟩ ⟨rfl, rfl, rfl⟩ ⟨rfl, rfl, rfl⟩ ⟨rfl, rfl, rfl⟩ ⟨rfl, rfl, rfl⟩ ⟨rfl, rfl, rfl⟩ ⟨rfl, rfl, rfl⟩ ⟨rfl, rfl, rfl⟩ ⟨rfl, rfl, rfl⟩ ⟨rfl, rfl, rfl⟩ ⟨rfl, rfl, rfl⟩ ⟨rfl, rfl, rfl⟩ ⟨rfl, rfl, rfl⟩ ⟨rfl, rfl, rfl⟩ ⟨rfl, rfl, rfl⟩ ⟨rfl, rfl, rfl⟩ ⟨rfl, rfl, rfl⟩ ⟨rfl, rfl, rfl⟩ ⟨rfl, rfl, rfl⟩ ⟨rfl, rfl, rfl⟩ ⟨rfl, rfl, rfl⟩ ⟨rfl, rfl, rfl⟩ ⟨rfl, rfl, rfl⟩ ⟨rfl, rfl, rfl⟩ ⟨rfl, rfl, rfl⟩ ⟨rfl, rfl, rfl⟩ ⟨rfl, rfl, rfl⟩ ⟨rfl, rfl, rfl⟩ ⟨rfl, rfl, rfl⟩ ⟨rfl, rfl, rfl⟩ ?_
      cases h
      exact EndQ.ret [] (by kernel_rfl) rfl
def t_Tree_put_b (fuel : Nat) (rc : (Nat → Nat → Entry → Hp → Option ((Unit) × Hp))) (p0 : Nat) (p1 : Nat) (p2 : Entry) (H : Hp) : Option ((Unit) × Hp) :=
  (t_Tree_at fuel p0 p1 p2 H).bind fun r1 =>
  (t_node_leaf fuel p1 H).bind fun r2 =>
  bif r2 then
    (hTake 3 cEntry H p1 0).bind fun q3 =>
    (slices_Insert fuel q3.1 r1.1 [p2]).bind fun r4 =>
    (hGive 3 cEntry q3.2 p1 0 r4).bind fun H5 =>
    some ((), H5)
  else
    (hGetL 1 cP H p1 1).bind fun x6 =>
    (idx x6 r1.1).bind fun x7 =>
    x7.bind fun i8 =>
    (rc p0 i8 p2 H).bind fun r9 =>
    (hGetL 3 cEntry r9.2 i8 0).bind fun x10 =>
    (hGet (cI .i64).cell r9.2 p0 3).bind fun x11 =>
    bif (decide ((x10.length : Int) > x11)) then
      (t_split fuel i8 r9.2).bind fun r12 =>
      (hTake 3 cEntry r12.2 p1 0).bind fun q13 =>
      (slices_Insert fuel q13.1 r1.1 [r12.1.1]).bind fun r14 =>
      (hGive 3 cEntry q13.2 p1 0 r14).bind fun H15 =>
      (hTake 1 cP H15 p1 1).bind fun q16 =>
      r12.1.2.bind fun i17 =>
      (slices_Insert_f73 fuel q16.1 (IntKind.wrap .i64 (r1.1 + 1)) [(some i17)]).bind fun r18 =>
      (hGive 1 cP q16.2 p1 1 r18).bind fun H19 =>
      some ((), H19)
    else
      some ((), r9.2)
def t_Tree_put : Nat → (Nat → Nat → Entry → Hp → Option ((Unit) × Hp))
  | 0 => fun _ _ _ _ => none
  | fuel + 1 => t_Tree_put_b fuel (t_Tree_put fuel)
def Z143 (x0 : Nat) : SV := .d (.list 1 (List.map cP.enc [(some x0)]))
theorem t_Tree_put_b_ok {fuel : Nat} {rc : (Nat → Nat → Entry → Hp → Option ((Unit) × Hp))} (ih : ∀ {p0 : Nat} {p1 : Nat} {p2 : Entry} {H : Hp} {r : (Unit) × Hp}, rc p0 p1 p2 H = some r → SC Try.prog false 60 [.d (.ptr p0 0), .d (.ptr p1 0), .d (encEntry p2)] H (.tup []) r.2) {p0 : Nat} {p1 : Nat} {p2 : Entry} {H : Hp} {r : (Unit) × Hp} (h : t_Tree_put_b fuel rc p0 p1 p2 H = some r) : SC Try.prog false 60 [.d (.ptr p0 0), .d (.ptr p1 0), .d (encEntry p2)] H (.tup []) r.2 := by
  refine SC.of_SWh Try.func60 rfl ?_
  unfold t_Tree_put_b at h
  refine SW.kp 85 H [0, 1, 2] [(0, .d (.ptr p0 0)), (1, .d (.ptr p1 0)), (2, Z76 p2)] (by kernel_rfl) <| SW.R 1 [(0, .d (.ptr p0 0)), (1, .d (.ptr p1 0)), (5, Z1 p2)] <| SW.S <| OWk.G 3 [(0, .d (.ptr p0 0)), (1, .d (.ptr p1 0)), (5, Z1 p2), (12, .d (.ptr p0 0)), (13, .d (.ptr p1 0)), (14, Z76 p2)] ?_
  obtain ⟨r1, hr, h⟩ := bind_inv h
  refine OWk.CR (ls := []) (some 15) [(0, .d (.ptr p0 0)), (1, .d (.ptr p1 0)), (5, Z1 p2), (15, .tup [vI r1.1, vB r1.2])] (t_Tree_at_ok hr) <| OWk.G 5 [(0, .d (.ptr p0 0)), (1, .d (.ptr p1 0)), (5, Z1 p2), (6, vI r1.1)] <| OWk.E <| SW.seq <| SW.S <| OWk.G 1 [(0, .d (.ptr p0 0)), (1, .d (.ptr p1 0)), (5, Z1 p2), (6, vI r1.1), (18, .d (.ptr p1 0))] ?_
  obtain ⟨r2, hr, h⟩ := bind_inv h
  refine OWk.CR (ls := []) (some 19) [(0, .d (.ptr p0 0)), (1, .d (.ptr p1 0)), (5, Z1 p2), (6, vI r1.1), (19, vB r2)] (t_node_leaf_ok hr) <| OWk.E ?_
  refine SW.B r2 (fun hc => ?_) (fun hc => ?_)
  · replace h := bif_t hc h
    refine SW.seq ?_
    obtain ⟨q3, hq_5, h⟩ := bind_inv h
    obtain ⟨r4, hr_9, h⟩ := bind_inv h
    obtain ⟨H5, hx_13, h⟩ := bind_inv h
    refine SW.K [(1, .d (.ptr p1 0)), (5, Z1 p2), (6, vI r1.1)] ?_
    refine SW.regXP 85 H5 [] [0, 1, 6] 11 67 (by kernel_rfl) (by kernel_rfl) (by kernel_rfl) (fun X hX => ?_) ?_
    · have c16383 : X 0 16383 (sp 85 [] H5) := by subst hX; exact OX.fin (by kernel_rfl)
      have c8191 : X 1 8191 (sp 85 [(29, Z104 r4), (32, .d (.ptr p1 0))] q3.2) := by
        subst hX
        refine OX.step (i0 := 13) (is := []) (by kernel_rfl) (by kernel_rfl) ⟨?_, trivial⟩
        · refine OWk.gvH (c := cEntry) (n' := 3) (s := 29) (xs := r4) 85 [] [] hx_13 (by kernel_rfl) (by kernel_rfl) <| OWk.D ?_
          exact c16383
      have c4095 : X 2 4095 (sp 85 [(29, Z104 r4), (31, .d (.ptr p1 0))] q3.2) := by
        subst hX
        refine OX.step (i0 := 12) (is := []) (by kernel_rfl) (by kernel_rfl) ⟨?_, trivial⟩
        · refine OWk.sg 85 q3.2 [25] [29, 32] 1 [(29, Z104 r4), (32, .d (.ptr p1 0))] (by kernel_rfl) <| OWk.D ?_
          exact c8191
      have c2047 : X 3 2047 (sp 85 [(29, Z104 r4), (30, .d (.ptr p1 0))] q3.2) := by
        subst hX
        refine OX.step (i0 := 11) (is := []) (by kernel_rfl) (by kernel_rfl) ⟨?_, trivial⟩
        · refine OWk.sg 85 q3.2 [25] [29, 31] 1 [(29, Z104 r4), (31, .d (.ptr p1 0))] (by kernel_rfl) <| OWk.D ?_
          exact c4095
      have c1023 : X 4 1023 (sp 85 [(20, .d (.ptr p1 0)), (29, Z104 r4)] q3.2) := by
        subst hX
        refine OX.step (i0 := 10) (is := []) (by kernel_rfl) (by kernel_rfl) ⟨?_, trivial⟩
        · refine OWk.sg 85 q3.2 [25] [29, 30] 1 [(29, Z104 r4), (30, .d (.ptr p1 0))] (by kernel_rfl) <| OWk.D ?_
          exact c2047
      have c511 : X 5 511 (sp 85 [(20, .d (.ptr p1 0)), (25, Z109 q3), (26, vI r1.1), (28, Z111 p2)] q3.2) := by
        subst hX
        refine OX.step (i0 := 9) (is := []) (by kernel_rfl) (by kernel_rfl) ⟨?_, trivial⟩
        · refine OWk.C (d := some 29) (ls := []) (gs := [(25, 0)]) [0] [(20, .d (.ptr p1 0)), (29, .own 3 (List.map encEntry r4))] (slices_Insert_ok hr_9) <| OWk.D ?_
          exact c1023
      have c255 : X 6 255 (sp 85 [(20, .d (.ptr p1 0)), (25, Z109 q3), (26, vI r1.1), (27, Z76 p2)] q3.2) := by
        subst hX
        refine OX.step (i0 := 8) (is := []) (by kernel_rfl) (by kernel_rfl) ⟨?_, trivial⟩
        · refine OWk.sg 85 q3.2 [25] [20, 25, 26, 28] 1 [(20, .d (.ptr p1 0)), (25, Z109 q3), (26, vI r1.1), (28, Z110 p2)] (by kernel_rfl) <| OWk.fz 85 q3.2 28 [20, 25, 26, 28] [(20, .d (.ptr p1 0)), (25, Z109 q3), (26, vI r1.1), (28, Z111 p2)] (by kernel_rfl) <| OWk.D ?_
          exact c511
      have c127 : X 7 127 (sp 85 [(5, Z1 p2), (20, .d (.ptr p1 0)), (25, Z109 q3), (26, vI r1.1)] q3.2) := by
        subst hX
        refine OX.step (i0 := 7) (is := []) (by kernel_rfl) (by kernel_rfl) ⟨?_, trivial⟩
        · refine OWk.sg 85 q3.2 [25] [20, 25, 26, 27] 1 [(20, .d (.ptr p1 0)), (25, Z109 q3), (26, vI r1.1), (27, Z76 p2)] (by kernel_rfl) <| OWk.D ?_
          exact c255
      have c479 : X 6 479 (sp 85 [(20, .d (.ptr p1 0)), (24, .d (.ptr p1 0)), (26, vI r1.1), (28, Z111 p2)] H) := by
        subst hX
        refine OX.step (i0 := 5) (is := []) (by kernel_rfl) (by kernel_rfl) ⟨?_, trivial⟩
        · refine OWk.tkH (c := cEntry) (n' := 3) (d := 25) (xs := q3.1) 85 [20, 25, 26, 28] [(20, .d (.ptr p1 0)), (25, Z109 q3), (26, vI r1.1), (28, Z111 p2)] hq_5 (by kernel_rfl) (by kernel_rfl) <| OWk.D ?_
          exact c511
      have c223 : X 7 223 (sp 85 [(20, .d (.ptr p1 0)), (24, .d (.ptr p1 0)), (26, vI r1.1), (27, Z76 p2)] H) := by
        subst hX
        refine OX.step (i0 := 5) (is := [8]) (by kernel_rfl) (by kernel_rfl) ⟨?_, ?_, trivial⟩
        · refine OWk.tkH (c := cEntry) (n' := 3) (d := 25) (xs := q3.1) 85 [20, 25, 26, 27] [(20, .d (.ptr p1 0)), (25, Z109 q3), (26, vI r1.1), (27, Z76 p2)] hq_5 (by kernel_rfl) (by kernel_rfl) <| OWk.D ?_
          exact c255
        · refine OWk.sg 85 H [25] [20, 24, 26, 28] 1 [(20, .d (.ptr p1 0)), (24, .d (.ptr p1 0)), (26, vI r1.1), (28, Z110 p2)] (by kernel_rfl) <| OWk.fz 85 H 28 [20, 24, 26, 28] [(20, .d (.ptr p1 0)), (24, .d (.ptr p1 0)), (26, vI r1.1), (28, Z111 p2)] (by kernel_rfl) <| OWk.D ?_
          exact c479
      have c95 : X 8 95 (sp 85 [(5, Z1 p2), (20, .d (.ptr p1 0)), (24, .d (.ptr p1 0)), (26, vI r1.1)] H) := by
        subst hX
        refine OX.step (i0 := 5) (is := [7]) (by kernel_rfl) (by kernel_rfl) ⟨?_, ?_, trivial⟩
        · refine OWk.tkH (c := cEntry) (n' := 3) (d := 25) (xs := q3.1) 85 [5, 20, 25, 26] [(5, Z1 p2), (20, .d (.ptr p1 0)), (25, .own 3 (List.map encEntry q3.1)), (26, vI r1.1)] hq_5 (by kernel_rfl) (by kernel_rfl) <| OWk.D ?_
          exact c127
        · refine OWk.sg 85 H [25] [20, 24, 26, 27] 1 [(20, .d (.ptr p1 0)), (24, .d (.ptr p1 0)), (26, vI r1.1), (27, Z76 p2)] (by kernel_rfl) <| OWk.D ?_
          exact c223
      have c463 : X 7 463 (sp 85 [(20, .d (.ptr p1 0)), (23, .d (.ptr p1 0)), (26, vI r1.1), (28, Z111 p2)] H) := by
        subst hX
        refine OX.step (i0 := 4) (is := []) (by kernel_rfl) (by kernel_rfl) ⟨?_, trivial⟩
        · refine OWk.sg 85 H [25] [20, 24, 26, 28] 1 [(20, .d (.ptr p1 0)), (24, .d (.ptr p1 0)), (26, vI r1.1), (28, Z111 p2)] (by kernel_rfl) <| OWk.D ?_
          exact c479
      have c207 : X 8 207 (sp 85 [(20, .d (.ptr p1 0)), (23, .d (.ptr p1 0)), (26, vI r1.1), (27, Z76 p2)] H) := by
        subst hX
        refine OX.step (i0 := 4) (is := [8]) (by kernel_rfl) (by kernel_rfl) ⟨?_, ?_, trivial⟩
        · refine OWk.sg 85 H [25] [20, 24, 26, 27] 1 [(20, .d (.ptr p1 0)), (24, .d (.ptr p1 0)), (26, vI r1.1), (27, Z76 p2)] (by kernel_rfl) <| OWk.D ?_
          exact c223
        · refine OWk.sg 85 H [25] [20, 23, 26, 28] 1 [(20, .d (.ptr p1 0)), (23, .d (.ptr p1 0)), (26, vI r1.1), (28, Z110 p2)] (by kernel_rfl) <| OWk.fz 85 H 28 [20, 23, 26, 28] [(20, .d (.ptr p1 0)), (23, .d (.ptr p1 0)), (26, vI r1.1), (28, Z111 p2)] (by kernel_rfl) <| OWk.D ?_
          exact c463
      have c79 : X 9 79 (sp 85 [(5, Z1 p2), (20, .d (.ptr p1 0)), (23, .d (.ptr p1 0)), (26, vI r1.1)] H) := by
        subst hX
        refine OX.step (i0 := 4) (is := [7]) (by kernel_rfl) (by kernel_rfl) ⟨?_, ?_, trivial⟩
        · refine OWk.sg 85 H [25] [5, 20, 24, 26] 1 [(5, Z1 p2), (20, .d (.ptr p1 0)), (24, .d (.ptr p1 0)), (26, vI r1.1)] (by kernel_rfl) <| OWk.D ?_
          exact c95
        · refine OWk.sg 85 H [25] [20, 23, 26, 27] 1 [(20, .d (.ptr p1 0)), (23, .d (.ptr p1 0)), (26, vI r1.1), (27, Z76 p2)] (by kernel_rfl) <| OWk.D ?_
          exact c207
      have c455 : X 8 455 (sp 85 [(20, .d (.ptr p1 0)), (22, .d (.ptr p1 0)), (26, vI r1.1), (28, Z111 p2)] H) := by
        subst hX
        refine OX.step (i0 := 3) (is := []) (by kernel_rfl) (by kernel_rfl) ⟨?_, trivial⟩
        · refine OWk.sg 85 H [25] [20, 23, 26, 28] 1 [(20, .d (.ptr p1 0)), (23, .d (.ptr p1 0)), (26, vI r1.1), (28, Z111 p2)] (by kernel_rfl) <| OWk.D ?_
          exact c463
      have c199 : X 9 199 (sp 85 [(20, .d (.ptr p1 0)), (22, .d (.ptr p1 0)), (26, vI r1.1), (27, Z76 p2)] H) := by
        subst hX
        refine OX.step (i0 := 3) (is := [8]) (by kernel_rfl) (by kernel_rfl) ⟨?_, ?_, trivial⟩
        · refine OWk.sg 85 H [25] [20, 23, 26, 27] 1 [(20, .d (.ptr p1 0)), (23, .d (.ptr p1 0)), (26, vI r1.1), (27, Z76 p2)] (by kernel_rfl) <| OWk.D ?_
          exact c207
        · refine OWk.sg 85 H [25] [20, 22, 26, 28] 1 [(20, .d (.ptr p1 0)), (22, .d (.ptr p1 0)), (26, vI r1.1), (28, Z110 p2)] (by kernel_rfl) <| OWk.fz 85 H 28 [20, 22, 26, 28] [(20, .d (.ptr p1 0)), (22, .d (.ptr p1 0)), (26, vI r1.1), (28, Z111 p2)] (by kernel_rfl) <| OWk.D ?_
          exact c455
      have c71 : X 10 71 (sp 85 [(5, Z1 p2), (20, .d (.ptr p1 0)), (22, .d (.ptr p1 0)), (26, vI r1.1)] H) := by
        subst hX
        refine OX.step (i0 := 3) (is := [7]) (by kernel_rfl) (by kernel_rfl) ⟨?_, ?_, trivial⟩
        · refine OWk.sg 85 H [25] [5, 20, 23, 26] 1 [(5, Z1 p2), (20, .d (.ptr p1 0)), (23, .d (.ptr p1 0)), (26, vI r1.1)] (by kernel_rfl) <| OWk.D ?_
          exact c79
        · refine OWk.sg 85 H [25] [20, 22, 26, 27] 1 [(20, .d (.ptr p1 0)), (22, .d (.ptr p1 0)), (26, vI r1.1), (27, Z76 p2)] (by kernel_rfl) <| OWk.D ?_
          exact c199
      have c451 : X 9 451 (sp 85 [(20, .d (.ptr p1 0)), (21, .d (.ptr p1 0)), (26, vI r1.1), (28, Z111 p2)] H) := by
        subst hX
        refine OX.step (i0 := 2) (is := []) (by kernel_rfl) (by kernel_rfl) ⟨?_, trivial⟩
        · refine OWk.sg 85 H [25] [20, 22, 26, 28] 1 [(20, .d (.ptr p1 0)), (22, .d (.ptr p1 0)), (26, vI r1.1), (28, Z111 p2)] (by kernel_rfl) <| OWk.D ?_
          exact c455
      have c195 : X 10 195 (sp 85 [(20, .d (.ptr p1 0)), (21, .d (.ptr p1 0)), (26, vI r1.1), (27, Z76 p2)] H) := by
        subst hX
        refine OX.step (i0 := 2) (is := [8]) (by kernel_rfl) (by kernel_rfl) ⟨?_, ?_, trivial⟩
        · refine OWk.sg 85 H [25] [20, 22, 26, 27] 1 [(20, .d (.ptr p1 0)), (22, .d (.ptr p1 0)), (26, vI r1.1), (27, Z76 p2)] (by kernel_rfl) <| OWk.D ?_
          exact c199
        · refine OWk.sg 85 H [25] [20, 21, 26, 28] 1 [(20, .d (.ptr p1 0)), (21, .d (.ptr p1 0)), (26, vI r1.1), (28, Z110 p2)] (by kernel_rfl) <| OWk.fz 85 H 28 [20, 21, 26, 28] [(20, .d (.ptr p1 0)), (21, .d (.ptr p1 0)), (26, vI r1.1), (28, Z111 p2)] (by kernel_rfl) <| OWk.D ?_
          exact c451
      have c67 : X 11 67 (sp 85 [(5, Z1 p2), (20, .d (.ptr p1 0)), (21, .d (.ptr p1 0)), (26, vI r1.1)] H) := by
        subst hX
        refine OX.step (i0 := 2) (is := [7]) (by kernel_rfl) (by kernel_rfl) ⟨?_, ?_, trivial⟩
        · refine OWk.sg 85 H [25] [5, 20, 22, 26] 1 [(5, Z1 p2), (20, .d (.ptr p1 0)), (22, .d (.ptr p1 0)), (26, vI r1.1)] (by kernel_rfl) <| OWk.D ?_
          exact c71
        · refine OWk.sg 85 H [25] [20, 21, 26, 27] 1 [(20, .d (.ptr p1 0)), (21, .d (.ptr p1 0)), (26, vI r1.1), (27, Z76 p2)] (by kernel_rfl) <| OWk.D ?_
          exact c195
      refine OBk.sg 85 H [25] [1, 5, 6, 20] 1 [(1, .d (.ptr p1 0)), (5, Z1 p2), (6, vI r1.1), (20, .d (.ptr p1 0))] (by kernel_rfl) (by kernel_rfl) <| OBk.sg 85 H [25] [5, 6, 20, 21] 1 [(5, Z1 p2), (6, vI r1.1), (20, .d (.ptr p1 0)), (21, .d (.ptr p1 0))] (by kernel_rfl) (by kernel_rfl) <| OBk.sg 85 H [25] [5, 20, 21, 26] 1 [(5, Z1 p2), (20, .d (.ptr p1 0)), (21, .d (.ptr p1 0)), (26, vI r1.1)] (by kernel_rfl) (by kernel_rfl) <| OBk.done (by kernel_rfl) ?_
      exact c67
    refine thenS_n <| SW.ret <| thenS_r ?_
    cases h
    exact EndQ.ret [] (by kernel_rfl) rfl
  · replace h := bif_f hc h
    refine SW.skip <| thenS_n <| SW.S <| OWk.G 3 [(0, .d (.ptr p0 0)), (1, .d (.ptr p1 0)), (5, Z1 p2), (6, vI r1.1), (35, .d (.ptr p1 1))] ?_
    obtain ⟨x6, hx, h⟩ := bind_inv h
    refine OWk.O (d := some 36) (s := .lent (.hcell p1 1) 1 (List.map cP.enc x6)) [(0, .d (.ptr p0 0)), (1, .d (.ptr p1 0)), (5, Z1 p2), (6, vI r1.1), (36, Z103 p1 x6)] (BAt.ldL (c := cP) hx (by kernel_rfl)) <| OWk.G 1 [(0, .d (.ptr p0 0)), (1, .d (.ptr p1 0)), (5, Z1 p2), (6, vI r1.1), (36, Z103 p1 x6), (37, vI r1.1)] ?_
    obtain ⟨x7, hx, h⟩ := bind_inv h
    refine OWk.O (d := some 38) (s := lendP (some (.hcell p1 1)) [cP.enc x7]) [(0, .d (.ptr p0 0)), (1, .d (.ptr p1 0)), (5, Z1 p2), (6, vI r1.1), (38, .lptr (.hcell p1 1) [cP.enc x7])] (BAt.indexP (n := 1) hx (by kernel_rfl)) <| OWk.G 2 [(0, .d (.ptr p0 0)), (1, .d (.ptr p1 0)), (5, Z1 p2), (6, vI r1.1), (8, .d (cP.enc x7))] <| OWk.E <| SW.S <| OWk.G 3 [(0, .d (.ptr p0 0)), (1, .d (.ptr p1 0)), (6, vI r1.1), (8, .d (cP.enc x7)), (40, .d (.ptr p0 0)), (41, .d (cP.enc x7)), (42, Z76 p2)] ?_
    obtain ⟨i8, hp_i8, h⟩ := bind_inv h
    refine OWk.asP x7 (fun p => (sp 85 [(0, .d (.ptr p0 0)), (1, .d (.ptr p1 0)), (6, vI r1.1), (8, .d (cP.enc p)), (40, .d (.ptr p0 0)), (41, .d (cP.enc p)), (42, Z76 p2)] H)) (by kernel_rfl) hp_i8 ?_
    obtain ⟨r9, hr, h⟩ := bind_inv h
    refine OWk.CH (some 43) [(0, .d (.ptr p0 0)), (1, .d (.ptr p1 0)), (6, vI r1.1), (8, .d (.ptr i8 0))] (ih hr) <| OWk.E <| SW.seq <| SW.regionDk (by kernel_rfl) (by kernel_rfl) <| OBk.G 4 [(0, .d (.ptr p0 0)), (1, .d (.ptr p1 0)), (6, vI r1.1), (8, .d (.ptr i8 0)), (47, .d (.ptr i8 0))] ?_
    obtain ⟨x10, hx, h⟩ := bind_inv h
    refine OBk.O (d := some 48) (s := .lent (.hcell i8 0) 3 (List.map encEntry x10)) [(0, .d (.ptr p0 0)), (1, .d (.ptr p1 0)), (6, vI r1.1), (8, .d (.ptr i8 0)), (48, Z77 i8 x10)] (BAt.ldL (c := cEntry) hx (by kernel_rfl)) <| OBk.O (d := some 49) [(0, .d (.ptr p0 0)), (1, .d (.ptr p1 0)), (6, vI r1.1), (8, .d (.ptr i8 0)), (49, vI (x10.length : Int))] (BAt.len (enc := encEntry) (xs := x10) (by kernel_rfl)) <| OBk.G 3 [(1, .d (.ptr p1 0)), (6, vI r1.1), (8, .d (.ptr i8 0)), (49, vI (x10.length : Int)), (52, .d (.ptr p0 3))] ?_
    obtain ⟨x11, hx, h⟩ := bind_inv h
    refine OBk.O (d := some 53) (s := vI x11) [(1, .d (.ptr p1 0)), (6, vI r1.1), (8, .d (.ptr i8 0)), (49, vI (x10.length : Int)), (53, vI x11)] (BAt.ldH (c := (cI .i64).cell) hx (by kernel_rfl)) <| OBk.G 1 [(1, .d (.ptr p1 0)), (6, vI r1.1), (8, .d (.ptr i8 0)), (54, Z112 x10 x11)] <| OBk.done (by kernel_rfl) <| thenS_n ?_
    refine SW.B (decide ((x10.length : Int) > x11)) (fun hc => ?_) (fun hc => ?_)
    · replace h := bif_t hc h
      refine SW.S <| OWk.G 1 [(1, .d (.ptr p1 0)), (6, vI r1.1), (56, .d (.ptr i8 0))] ?_
      obtain ⟨r12, hr, h⟩ := bind_inv h
      refine OWk.CH (some 57) [(1, .d (.ptr p1 0)), (6, vI r1.1), (57, .tup [.d (.agg [.list 3 (List.map encValue r12.1.1.Row), .int .i64 r12.1.1.Key, .int .i64 r12.1.1.Number]), .d (cP.enc r12.1.2)])] (t_split_ok hr) <| OWk.G 6 [(1, .d (.ptr p1 0)), (6, vI r1.1), (9, Z133 r12), (10, .d (cP.enc r12.1.2))] <| OWk.E <| SW.seq ?_
      obtain ⟨q13, hq_5, h⟩ := bind_inv h
      obtain ⟨r14, hr_9, h⟩ := bind_inv h
      obtain ⟨H15, hx_13, h⟩ := bind_inv h
      refine SW.K [(1, .d (.ptr p1 0)), (6, vI r1.1), (9, Z133 r12), (10, .d (cP.enc r12.1.2))] ?_
      refine SW.regXP 85 H15 [(1, .d (.ptr p1 0)), (6, vI r1.1), (10, .d (cP.enc r12.1.2))] [0, 1, 6] 11 67 (by kernel_rfl) (by kernel_rfl) (by kernel_rfl) (fun X hX => ?_) ?_
      · have c16383 : X 0 16383 (sp 85 [(1, .d (.ptr p1 0)), (6, vI r1.1), (10, .d (cP.enc r12.1.2))] H15) := by subst hX; exact OX.fin (by kernel_rfl)
        have c8191 : X 1 8191 (sp 85 [(1, .d (.ptr p1 0)), (6, vI r1.1), (10, .d (cP.enc r12.1.2)), (69, Z104 r14), (72, .d (.ptr p1 0))] q13.2) := by
          subst hX
          refine OX.step (i0 := 13) (is := []) (by kernel_rfl) (by kernel_rfl) ⟨?_, trivial⟩
          · refine OWk.gvH (c := cEntry) (n' := 3) (s := 69) (xs := r14) 85 [1, 6, 10] [(1, .d (.ptr p1 0)), (6, vI r1.1), (10, .d (cP.enc r12.1.2))] hx_13 (by kernel_rfl) (by kernel_rfl) <| OWk.D ?_
            exact c16383
        have c4095 : X 2 4095 (sp 85 [(1, .d (.ptr p1 0)), (6, vI r1.1), (10, .d (cP.enc r12.1.2)), (69, Z104 r14), (71, .d (.ptr p1 0))] q13.2) := by
          subst hX
          refine OX.step (i0 := 12) (is := []) (by kernel_rfl) (by kernel_rfl) ⟨?_, trivial⟩
          · refine OWk.sg 85 q13.2 [65] [1, 6, 10, 69, 72] 1 [(1, .d (.ptr p1 0)), (6, vI r1.1), (10, .d (cP.enc r12.1.2)), (69, Z104 r14), (72, .d (.ptr p1 0))] (by kernel_rfl) <| OWk.D ?_
            exact c8191
        have c2047 : X 3 2047 (sp 85 [(1, .d (.ptr p1 0)), (6, vI r1.1), (10, .d (cP.enc r12.1.2)), (69, Z104 r14), (70, .d (.ptr p1 0))] q13.2) := by
          subst hX
          refine OX.step (i0 := 11) (is := []) (by kernel_rfl) (by kernel_rfl) ⟨?_, trivial⟩
          · refine OWk.sg 85 q13.2 [65] [1, 6, 10, 69, 71] 1 [(1, .d (.ptr p1 0)), (6, vI r1.1), (10, .d (cP.enc r12.1.2)), (69, Z104 r14), (71, .d (.ptr p1 0))] (by kernel_rfl) <| OWk.D ?_
            exact c4095
        have c1023 : X 4 1023 (sp 85 [(1, .d (.ptr p1 0)), (6, vI r1.1), (10, .d (cP.enc r12.1.2)), (60, .d (.ptr p1 0)), (69, Z104 r14)] q13.2) := by
          subst hX
          refine OX.step (i0 := 10) (is := []) (by kernel_rfl) (by kernel_rfl) ⟨?_, trivial⟩
          · refine OWk.sg 85 q13.2 [65] [1, 6, 10, 69, 70] 1 [(1, .d (.ptr p1 0)), (6, vI r1.1), (10, .d (cP.enc r12.1.2)), (69, Z104 r14), (70, .d (.ptr p1 0))] (by kernel_rfl) <| OWk.D ?_
            exact c2047
        have c511 : X 5 511 (sp 85 [(1, .d (.ptr p1 0)), (6, vI r1.1), (10, .d (cP.enc r12.1.2)), (60, .d (.ptr p1 0)), (65, Z109 q13), (66, vI r1.1), (68, Z135 r12)] q13.2) := by
          subst hX
          refine OX.step (i0 := 9) (is := []) (by kernel_rfl) (by kernel_rfl) ⟨?_, trivial⟩
          · refine OWk.C (d := some 69) (ls := []) (gs := [(65, 0)]) [0] [(1, .d (.ptr p1 0)), (6, vI r1.1), (10, .d (cP.enc r12.1.2)), (60, .d (.ptr p1 0)), (69, .own 3 (List.map encEntry r14))] (slices_Insert_ok hr_9) <| OWk.D ?_
            exact c1023
        have c255 : X 6 255 (sp 85 [(1, .d (.ptr p1 0)), (6, vI r1.1), (10, .d (cP.enc r12.1.2)), (60, .d (.ptr p1 0)), (65, Z109 q13), (66, vI r1.1), (67, Z136 r12)] q13.2) := by
          subst hX
          refine OX.step (i0 := 8) (is := []) (by kernel_rfl) (by kernel_rfl) ⟨?_, trivial⟩
          · refine OWk.sg 85 q13.2 [65] [1, 6, 10, 60, 65, 66, 68] 1 [(1, .d (.ptr p1 0)), (6, vI r1.1), (10, .d (cP.enc r12.1.2)), (60, .d (.ptr p1 0)), (65, Z109 q13), (66, vI r1.1), (68, Z134 r12)] (by kernel_rfl) <| OWk.fz 85 q13.2 68 [1, 6, 10, 60, 65, 66, 68] [(1, .d (.ptr p1 0)), (6, vI r1.1), (10, .d (cP.enc r12.1.2)), (60, .d (.ptr p1 0)), (65, Z109 q13), (66, vI r1.1), (68, Z135 r12)] (by kernel_rfl) <| OWk.D ?_
            exact c511
        have c127 : X 7 127 (sp 85 [(1, .d (.ptr p1 0)), (6, vI r1.1), (9, Z133 r12), (10, .d (cP.enc r12.1.2)), (60, .d (.ptr p1 0)), (65, Z109 q13), (66, vI r1.1)] q13.2) := by
          subst hX
          refine OX.step (i0 := 7) (is := []) (by kernel_rfl) (by kernel_rfl) ⟨?_, trivial⟩
          · refine OWk.sg 85 q13.2 [65] [1, 6, 10, 60, 65, 66, 67] 1 [(1, .d (.ptr p1 0)), (6, vI r1.1), (10, .d (cP.enc r12.1.2)), (60, .d (.ptr p1 0)), (65, Z109 q13), (66, vI r1.1), (67, Z136 r12)] (by kernel_rfl) <| OWk.D ?_
            exact c255
        have c479 : X 6 479 (sp 85 [(1, .d (.ptr p1 0)), (6, vI r1.1), (10, .d (cP.enc r12.1.2)), (60, .d (.ptr p1 0)), (64, .d (.ptr p1 0)), (66, vI r1.1), (68, Z135 r12)] r12.2) := by
          subst hX
          refine OX.step (i0 := 5) (is := []) (by kernel_rfl) (by kernel_rfl) ⟨?_, trivial⟩
          · refine OWk.tkH (c := cEntry) (n' := 3) (d := 65) (xs := q13.1) 85 [1, 6, 10, 60, 65, 66, 68] [(1, .d (.ptr p1 0)), (6, vI r1.1), (10, .d (cP.enc r12.1.2)), (60, .d (.ptr p1 0)), (65, Z109 q13), (66, vI r1.1), (68, Z135 r12)] hq_5 (by kernel_rfl) (by kernel_rfl) <| OWk.D ?_
            exact c511
        have c223 : X 7 223 (sp 85 [(1, .d (.ptr p1 0)), (6, vI r1.1), (10, .d (cP.enc r12.1.2)), (60, .d (.ptr p1 0)), (64, .d (.ptr p1 0)), (66, vI r1.1), (67, Z136 r12)] r12.2) := by
          subst hX
          refine OX.step (i0 := 5) (is := [8]) (by kernel_rfl) (by kernel_rfl) ⟨?_, ?_, trivial⟩
          · refine OWk.tkH (c := cEntry) (n' := 3) (d := 65) (xs := q13.1) 85 [1, 6, 10, 60, 65, 66, 67] [(1, .d (.ptr p1 0)), (6, vI r1.1), (10, .d (cP.enc r12.1.2)), (60, .d (.ptr p1 0)), (65, Z109 q13), (66, vI r1.1), (67, Z136 r12)] hq_5 (by kernel_rfl) (by kernel_rfl) <| OWk.D ?_
            exact c255
          · refine OWk.sg 85 r12.2 [65] [1, 6, 10, 60, 64, 66, 68] 1 [(1, .d (.ptr p1 0)), (6, vI r1.1), (10, .d (cP.enc r12.1.2)), (60, .d (.ptr p1 0)), (64, .d (.ptr p1 0)), (66, vI r1.1), (68, Z134 r12)] (by kernel_rfl) <| OWk.fz 85 r12.2 68 [1, 6, 10, 60, 64, 66, 68] [(1, .d (.ptr p1 0)), (6, vI r1.1), (10, .d (cP.enc r12.1.2)), (60, .d (.ptr p1 0)), (64, .d (.ptr p1 0)), (66, vI r1.1), (68, Z135 r12)] (by kernel_rfl) <| OWk.D ?_
            exact c479
        have c95 : X 8 95 (sp 85 [(1, .d (.ptr p1 0)), (6, vI r1.1), (9, Z133 r12), (10, .d (cP.enc r12.1.2)), (60, .d (.ptr p1 0)), (64, .d (.ptr p1 0)), (66, vI r1.1)] r12.2) := by
          subst hX
          refine OX.step (i0 := 5) (is := [7]) (by kernel_rfl) (by kernel_rfl) ⟨?_, ?_, trivial⟩
          · refine OWk.tkH (c := cEntry) (n' := 3) (d := 65) (xs := q13.1) 85 [1, 6, 9, 10, 60, 65, 66] [(1, .d (.ptr p1 0)), (6, vI r1.1), (9, Z133 r12), (10, .d (cP.enc r12.1.2)), (60, .d (.ptr p1 0)), (65, .own 3 (List.map encEntry q13.1)), (66, vI r1.1)] hq_5 (by kernel_rfl) (by kernel_rfl) <| OWk.D ?_
            exact c127
          · refine OWk.sg 85 r12.2 [65] [1, 6, 10, 60, 64, 66, 67] 1 [(1, .d (.ptr p1 0)), (6, vI r1.1), (10, .d (cP.enc r12.1.2)), (60, .d (.ptr p1 0)), (64, .d (.ptr p1 0)), (66, vI r1.1), (67, Z136 r12)] (by kernel_rfl) <| OWk.D ?_
            exact c223
        have c463 : X 7 463 (sp 85 [(1, .d (.ptr p1 0)), (6, vI r1.1), (10, .d (cP.enc r12.1.2)), (60, .d (.ptr p1 0)), (63, .d (.ptr p1 0)), (66, vI r1.1), (68, Z135 r12)] r12.2) := by
          subst hX
          refine OX.step (i0 := 4) (is := []) (by kernel_rfl) (by kernel_rfl) ⟨?_, trivial⟩
          · refine OWk.sg 85 r12.2 [65] [1, 6, 10, 60, 64, 66, 68] 1 [(1, .d (.ptr p1 0)), (6, vI r1.1), (10, .d (cP.enc r12.1.2)), (60, .d (.ptr p1 0)), (64, .d (.ptr p1 0)), (66, vI r1.1), (68, Z135 r12)] (by kernel_rfl) <| OWk.D ?_
            exact c479
        have c207 : X 8 207 (sp 85 [(1, .d (.ptr p1 0)), (6, vI r1.1), (10, .d (cP.enc r12.1.2)), (60, .d (.ptr p1 0)), (63, .d (.ptr p1 0)), (66, vI r1.1), (67, Z136 r12)] r12.2) := by
          subst hX
          refine OX.step (i0 := 4) (is := [8]) (by kernel_rfl) (by kernel_rfl) ⟨?_, ?_, trivial⟩
          · refine OWk.sg 85 r12.2 [65] [1, 6, 10, 60, 64, 66, 67] 1 [(1, .d (.ptr p1 0)), (6, vI r1.1), (10, .d (cP.enc r12.1.2)), (60, .d (.ptr p1 0)), (64, .d (.ptr p1 0)), (66, vI r1.1), (67, Z136 r12)] (by kernel_rfl) <| OWk.D ?_
            exact c223
          · refine OWk.sg 85 r12.2 [65] [1, 6, 10, 60, 63, 66, 68] 1 [(1, .d (.ptr p1 0)), (6, vI r1.1), (10, .d (cP.enc r12.1.2)), (60, .d (.ptr p1 0)), (63, .d (.ptr p1 0)), (66, vI r1.1), (68, Z134 r12)] (by kernel_rfl) <| OWk.fz 85 r12.2 68 [1, 6, 10, 60, 63, 66, 68] [(1, .d (.ptr p1 0)), (6, vI r1.1), (10, .d (cP.enc r12.1.2)), (60, .d (.ptr p1 0)), (63, .d (.ptr p1 0)), (66, vI r1.1), (68, Z135 r12)] (by kernel_rfl) <| OWk.D ?_
            exact c463
        have c79 : X 9 79 (sp 85 [(1, .d (.ptr p1 0)), (6, vI r1.1), (9, Z133 r12), (10, .d (cP.enc r12.1.2)), (60, .d (.ptr p1 0)), (63, .d (.ptr p1 0)), (66, vI r1.1)] r12.2) := by
          subst hX
          refine OX.step (i0 := 4) (is := [7]) (by kernel_rfl) (by kernel_rfl) ⟨?_, ?_, trivial⟩
          · refine OWk.sg 85 r12.2 [65] [1, 6, 9, 10, 60, 64, 66] 1 [(1, .d (.ptr p1 0)), (6, vI r1.1), (9, Z133 r12), (10, .d (cP.enc r12.1.2)), (60, .d (.ptr p1 0)), (64, .d (.ptr p1 0)), (66, vI r1.1)] (by kernel_rfl) <| OWk.D ?_
            exact c95
          · refine OWk.sg 85 r12.2 [65] [1, 6, 10, 60, 63, 66, 67] 1 [(1, .d (.ptr p1 0)), (6, vI r1.1), (10, .d (cP.enc r12.1.2)), (60, .d (.ptr p1 0)), (63, .d (.ptr p1 0)), (66, vI r1.1), (67, Z136 r12)] (by kernel_rfl) <| OWk.D ?_
            exact c207
        have c455 : X 8 455 (sp 85 [(1, .d (.ptr p1 0)), (6, vI r1.1), (10, .d (cP.enc r12.1.2)), (60, .d (.ptr p1 0)), (62, .d (.ptr p1 0)), (66, vI r1.1), (68, Z135 r12)] r12.2) := by
          subst hX
          refine OX.step (i0 := 3) (is := []) (by kernel_rfl) (by kernel_rfl) ⟨?_, trivial⟩
          · refine OWk.sg 85 r12.2 [65] [1, 6, 10, 60, 63, 66, 68] 1 [(1, .d (.ptr p1 0)), (6, vI r1.1), (10, .d (cP.enc r12.1.2)), (60, .d (.ptr p1 0)), (63, .d (.ptr p1 0)), (66, vI r1.1), (68, Z135 r12)] (by kernel_rfl) <| OWk.D ?_
            exact c463
        have c199 : X 9 199 (sp 85 [(1, .d (.ptr p1 0)), (6, vI r1.1), (10, .d (cP.enc r12.1.2)), (60, .d (.ptr p1 0)), (62, .d (.ptr p1 0)), (66, vI r1.1), (67, Z136 r12)] r12.2) := by
          subst hX
          refine OX.step (i0 := 3) (is := [8]) (by kernel_rfl) (by kernel_rfl) ⟨?_, ?_, trivial⟩
          · refine OWk.sg 85 r12.2 [65] [1, 6, 10, 60, 63, 66, 67] 1 [(1, .d (.ptr p1 0)), (6, vI r1.1), (10, .d (cP.enc r12.1.2)), (60, .d (.ptr p1 0)), (63, .d (.ptr p1 0)), (66, vI r1.1), (67, Z136 r12)] (by kernel_rfl) <| OWk.D ?_
            exact c207
          · refine OWk.sg 85 r12.2 [65] [1, 6, 10, 60, 62, 66, 68] 1 [(1, .d (.ptr p1 0)), (6, vI r1.1), (10, .d (cP.enc r12.1.2)), (60, .d (.ptr p1 0)), (62, .d (.ptr p1 0)), (66, vI r1.1), (68, Z134 r12)] (by kernel_rfl) <| OWk.fz 85 r12.2 68 [1, 6, 10, 60, 62, 66, 68] [(1, .d (.ptr p1 0)), (6, vI r1.1), (10, .d (cP.enc r12.1.2)), (60, .d (.ptr p1 0)), (62, .d (.ptr p1 0)), (66, vI r1.1), (68, Z135 r12)] (by kernel_rfl) <| OWk.D ?_
            exact c455
        have c71 : X 10 71 (sp 85 [(1, .d (.ptr p1 0)), (6, vI r1.1), (9, Z133 r12), (10, .d (cP.enc r12.1.2)), (60, .d (.ptr p1 0)), (62, .d (.ptr p1 0)), (66, vI r1.1)] r12.2) := by
          subst hX
          refine OX.step (i0 := 3) (is := [7]) (by kernel_rfl) (by kernel_rfl) ⟨?_, ?_, trivial⟩
          · refine OWk.sg 85 r12.2 [65] [1, 6, 9, 10, 60, 63, 66] 1 [(1, .d (.ptr p1 0)), (6, vI r1.1), (9, Z133 r12), (10, .d (cP.enc r12.1.2)), (60, .d (.ptr p1 0)), (63, .d (.ptr p1 0)), (66, vI r1.1)] (by kernel_rfl) <| OWk.D ?_
            exact c79
          · refine OWk.sg 85 r12.2 [65] [1, 6, 10, 60, 62, 66, 67] 1 [(1, .d (.ptr p1 0)), (6, vI r1.1), (10, .d (cP.enc r12.1.2)), (60, .d (.ptr p1 0)), (62, .d (.ptr p1 0)), (66, vI r1.1), (67, Z136 r12)] (by kernel_rfl) <| OWk.D ?_
            exact c199
        have c451 : X 9 451 (sp 85 [(1, .d (.ptr p1 0)), (6, vI r1.1), (10, .d (cP.enc r12.1.2)), (60, .d (.ptr p1 0)), (61, .d (.ptr p1 0)), (66, vI r1.1), (68, Z135 r12)] r12.2) := by
          subst hX
          refine OX.step (i0 := 2) (is := []) (by kernel_rfl) (by kernel_rfl) ⟨?_, trivial⟩
          · refine OWk.sg 85 r12.2 [65] [1, 6, 10, 60, 62, 66, 68] 1 [(1, .d (.ptr p1 0)), (6, vI r1.1), (10, .d (cP.enc r12.1.2)), (60, .d (.ptr p1 0)), (62, .d (.ptr p1 0)), (66, vI r1.1), (68, Z135 r12)] (by kernel_rfl) <| OWk.D ?_
            exact c455
        have c195 : X 10 195 (sp 85 [(1, .d (.ptr p1 0)), (6, vI r1.1), (10, .d (cP.enc r12.1.2)), (60, .d (.ptr p1 0)), (61, .d (.ptr p1 0)), (66, vI r1.1), (67, Z136 r12)] r12.2) := by
          subst hX
          refine OX.step (i0 := 2) (is := [8]) (by kernel_rfl) (by kernel_rfl) ⟨?_, ?_, trivial⟩
          · refine OWk.sg 85 r12.2 [65] [1, 6, 10, 60, 62, 66, 67] 1 [(1, .d (.ptr p1 0)), (6, vI r1.1), (10, .d (cP.enc r12.1.2)), (60, .d (.ptr p1 0)), (62, .d (.ptr p1 0)), (66, vI r1.1), (67, Z136 r12)] (by kernel_rfl) <| OWk.D ?_
            exact c199
          · refine OWk.sg 85 r12.2 [65] [1, 6, 10, 60, 61, 66, 68] 1 [(1, .d (.ptr p1 0)), (6, vI r1.1), (10, .d (cP.enc r12.1.2)), (60, .d (.ptr p1 0)), (61, .d (.ptr p1 0)), (66, vI r1.1), (68, Z134 r12)] (by kernel_rfl) <| OWk.fz 85 r12.2 68 [1, 6, 10, 60, 61, 66, 68] [(1, .d (.ptr p1 0)), (6, vI r1.1), (10, .d (cP.enc r12.1.2)), (60, .d (.ptr p1 0)), (61, .d (.ptr p1 0)), (66, vI r1.1), (68, Z135 r12)] (by kernel_rfl) <| OWk.D ?_
            exact c451
        have c67 : X 11 67 (sp 85 [(1, .d (.ptr p1 0)), (6, vI r1.1), (9, Z133 r12), (10, .d (cP.enc r12.1.2)), (60, .d (.ptr p1 0)), (61, .d (.ptr p1 0)), (66, vI r1.1)] r12.2) := by
          subst hX
          refine OX.step (i0 := 2) (is := [7]) (by kernel_rfl) (by kernel_rfl) ⟨?_, ?_, trivial⟩
          · refine OWk.sg 85 r12.2 [65] [1, 6, 9, 10, 60, 62, 66] 1 [(1, .d (.ptr p1 0)), (6, vI r1.1), (9, Z133 r12), (10, .d (cP.enc r12.1.2)), (60, .d (.ptr p1 0)), (62, .d (.ptr p1 0)), (66, vI r1.1)] (by kernel_rfl) <| OWk.D ?_
            exact c71
          · refine OWk.sg 85 r12.2 [65] [1, 6, 10, 60, 61, 66, 67] 1 [(1, .d (.ptr p1 0)), (6, vI r1.1), (10, .d (cP.enc r12.1.2)), (60, .d (.ptr p1 0)), (61, .d (.ptr p1 0)), (66, vI r1.1), (67, Z136 r12)] (by kernel_rfl) <| OWk.D ?_
            exact c195
        refine OBk.sg 85 r12.2 [65] [1, 6, 9, 10, 60] 1 [(1, .d (.ptr p1 0)), (6, vI r1.1), (9, Z133 r12), (10, .d (cP.enc r12.1.2)), (60, .d (.ptr p1 0))] (by kernel_rfl) (by kernel_rfl) <| OBk.sg 85 r12.2 [65] [1, 6, 9, 10, 60, 61] 1 [(1, .d (.ptr p1 0)), (6, vI r1.1), (9, Z133 r12), (10, .d (cP.enc r12.1.2)), (60, .d (.ptr p1 0)), (61, .d (.ptr p1 0))] (by kernel_rfl) (by kernel_rfl) <| OBk.sg 85 r12.2 [65] [1, 6, 9, 10, 60, 61, 66] 1 [(1, .d (.ptr p1 0)), (6, vI r1.1), (9, Z133 r12), (10, .d (cP.enc r12.1.2)), (60, .d (.ptr p1 0)), (61, .d (.ptr p1 0)), (66, vI r1.1)] (by kernel_rfl) (by kernel_rfl) <| OBk.done (by kernel_rfl) ?_
        exact c67
      refine thenS_n <| SW.regionK <| OWk.sg 85 H15 [77] [6, 10, 73, 76] 4 [(6, vI r1.1), (10, .d (cP.enc r12.1.2)), (73, .d (.ptr p1 0)), (76, .d (.ptr p1 1))] (by kernel_rfl) ?_
      obtain ⟨q16, hq, h⟩ := bind_inv h
      refine OWk.tkH (c := cP) (n' := 1) (d := 77) (xs := q16.1) 85 [6, 10, 73, 77] [(6, vI r1.1), (10, .d (cP.enc r12.1.2)), (73, .d (.ptr p1 0)), (77, .own 1 (List.map cP.enc q16.1))] hq (by kernel_rfl) (by kernel_rfl) <| OWk.sg 85 q16.2 [77] [73, 77, 79, 80] 3 [(73, .d (.ptr p1 0)), (77, Z137 q16), (79, Z138 r1), (80, .d (cP.enc r12.1.2))] (by kernel_rfl) ?_
      obtain ⟨i17, hp_i17, h⟩ := bind_inv h
      refine OWk.asP r12.1.2 (fun p => (sp 85 [(73, .d (.ptr p1 0)), (77, Z137 q16), (79, Z138 r1), (80, .d (cP.enc p))] q16.2)) (by kernel_rfl) hp_i17 <| OWk.G 1 [(73, .d (.ptr p1 0)), (77, Z137 q16), (79, Z138 r1), (81, Z139 i17)] <| OWk.fz 85 q16.2 81 [73, 77, 79, 81] [(73, .d (.ptr p1 0)), (77, Z137 q16), (79, Z138 r1), (81, Z143 i17)] (by kernel_rfl) ?_
      obtain ⟨r18, hr, h⟩ := bind_inv h
      refine OWk.C (d := some 82) (ls := []) (gs := [(77, 0)]) [0] [(73, .d (.ptr p1 0)), (82, .own 1 (List.map cP.enc r18))] (slices_Insert_f73_ok hr) <| OWk.sg 85 q16.2 [77] [82, 84] 2 [(82, Z127 r18), (84, .d (.ptr p1 1))] (by kernel_rfl) ?_
      obtain ⟨H19, hx, h⟩ := bind_inv h
      refine OWk.gvH (c := cP) (n' := 1) (s := 82) (xs := r18) 85 [] [] hx (by kernel_rfl) (by kernel_rfl) <| OWk.D ?_
      cases h
      exact EndQ.normal [] (by kernel_rfl) rfl
    · replace h := bif_f hc h
      refine SW.skip ?_
      cases h
      exact EndQ.normal [] (by kernel_rfl) rfl
theorem t_Tree_put_ok {fuel : Nat} : ∀ {p0 : Nat} {p1 : Nat} {p2 : Entry} {H : Hp} {r : (Unit) × Hp}, t_Tree_put fuel p0 p1 p2 H = some r → SC Try.prog false 60 [.d (.ptr p0 0), .d (.ptr p1 0), .d (encEntry p2)] H (.tup []) r.2 := by
  induction fuel with
  | zero => intros; rename_i h; exact nomatch (show (none : Option ((Unit) × Hp)) = some _ from h)
  | succ fuel ih => exact fun h => t_Tree_put_b_ok ih h
def t_Tree_insert (fuel : Nat) (p0 : Nat) (p1 : Entry) (H : Hp) : Option ((Unit) × Hp) :=
  (hGet cP.cell H p0 4).bind fun x1 =>
  x1.bind fun i2 =>
  (t_Tree_put fuel p0 i2 p1 H).bind fun r3 =>
  (hGet cP.cell r3.2 p0 4).bind fun x4 =>
  x4.bind fun i5 =>
  (hGetL 3 cEntry r3.2 i5 0).bind fun x6 =>
  (hGet (cI .i64).cell r3.2 p0 3).bind fun x7 =>
  bif (decide ((x6.length : Int) > x7)) then
    (hGet cP.cell r3.2 p0 4).bind fun x8 =>
    x8.bind fun i9 =>
    (t_split fuel i9 r3.2).bind fun r10 =>
    r10.1.2.bind fun i11 =>
    (hNew r10.2 (.cells [.d (.list 3 (List.map encEntry [r10.1.1])), .d (.list 1 (List.map cP.enc [(some i9), (some i11)]))])).bind fun q12 =>
    (hSet cP q12.1 p0 4 (some q12.2)).bind fun H13 =>
    (hGet (cI .i64).cell H13 p0 6).bind fun x14 =>
    (hSet (cI .i64) H13 p0 6 (IntKind.wrap .i64 (x14 + 1))).bind fun H15 =>
    some ((), H15)
  else
    (hGet (cI .i64).cell r3.2 p0 6).bind fun x16 =>
    (hSet (cI .i64) r3.2 p0 6 (IntKind.wrap .i64 (x16 + 1))).bind fun H17 =>
    some ((), H17)
def Z144 (x0 : ((Entry × (Option Nat)) × Hp)) : SV := .d (.agg [.list 3 (List.map encEntry [x0.1.1])])
def Z145 (x0 : Nat) (x1 : Nat) : SV := .own 1 (List.map cP.enc [(some x0), (some x1)])
def Z146 (x0 : ((Entry × (Option Nat)) × Hp)) (x1 : Nat) (x2 : Nat) : SV := .d (.agg [.list 3 (List.map encEntry [x0.1.1]), .list 1 (List.map cP.enc [(some x1), (some x2)])])
def Z147 (x0 : Nat) (x1 : Nat) : SV := .d (.list 1 (List.map cP.enc [(some x0), (some x1)]))
theorem t_Tree_insert_ok {fuel : Nat} {p0 : Nat} {p1 : Entry} {H : Hp} {r : (Unit) × Hp} (h : t_Tree_insert fuel p0 p1 H = some r) : SC Try.prog false 43 [.d (.ptr p0 0), .d (encEntry p1)] H (.tup []) r.2 := by
  refine SC.of_SWh Try.func43 rfl ?_
  unfold t_Tree_insert at h
  refine SW.kp 55 H [0, 1] [(0, .d (.ptr p0 0)), (1, Z76 p1)] (by kernel_rfl) <| SW.R 1 [(0, .d (.ptr p0 0)), (3, Z1 p1)] <| SW.seq <| SW.seq <| SW.regionT 6 (by kernel_rfl) (by kernel_rfl) <| OBk.G 4 [(0, .d (.ptr p0 0)), (3, Z1 p1), (7, .d (.ptr p0 0)), (10, .d (.ptr p0 4))] ?_
  obtain ⟨x1, hx, h⟩ := bind_inv h
  refine OBk.O (d := some 11) (s := .d (cP.enc x1)) [(0, .d (.ptr p0 0)), (3, Z1 p1), (7, .d (.ptr p0 0)), (11, .d (cP.enc x1))] (BAt.ldH (c := cP.cell) hx (by kernel_rfl)) <| OBk.G 1 [(0, .d (.ptr p0 0)), (7, .d (.ptr p0 0)), (11, .d (cP.enc x1)), (12, Z76 p1)] <| OBk.done (by kernel_rfl) ?_
  obtain ⟨i2, hp_i2, h⟩ := bind_inv h
  refine OWk.asP x1 (fun p => (sp 55 [(0, .d (.ptr p0 0)), (7, .d (.ptr p0 0)), (11, .d (cP.enc p)), (12, Z76 p1)] H)) (by kernel_rfl) hp_i2 ?_
  obtain ⟨r3, hr, h⟩ := bind_inv h
  refine OWk.CH (some 13) [(0, .d (.ptr p0 0))] (t_Tree_put_ok hr) <| OWk.E <| SW.seq <| SW.regionDk (by kernel_rfl) (by kernel_rfl) <| OBk.G 3 [(0, .d (.ptr p0 0)), (16, .d (.ptr p0 4))] ?_
  obtain ⟨x4, hx, h⟩ := bind_inv h
  refine OBk.O (d := some 17) (s := .d (cP.enc x4)) [(0, .d (.ptr p0 0)), (17, .d (cP.enc x4))] (BAt.ldH (c := cP.cell) hx (by kernel_rfl)) ?_
  obtain ⟨i5, hp_i5, h⟩ := bind_inv h
  refine OBk.O (d := some 18) (s := .d (.ptr i5 0)) [(0, .d (.ptr p0 0)), (18, .d (.ptr i5 0))] (BAt.nilc (p := x4) hp_i5 (by kernel_rfl)) <| OBk.G 2 [(0, .d (.ptr p0 0)), (20, .d (.ptr i5 0))] ?_
  obtain ⟨x6, hx, h⟩ := bind_inv h
  refine OBk.O (d := some 21) (s := .lent (.hcell i5 0) 3 (List.map encEntry x6)) [(0, .d (.ptr p0 0)), (21, Z77 i5 x6)] (BAt.ldL (c := cEntry) hx (by kernel_rfl)) <| OBk.O (d := some 22) [(0, .d (.ptr p0 0)), (22, vI (x6.length : Int))] (BAt.len (enc := encEntry) (xs := x6) (by kernel_rfl)) <| OBk.G 3 [(0, .d (.ptr p0 0)), (22, vI (x6.length : Int)), (25, .d (.ptr p0 3))] ?_
  obtain ⟨x7, hx, h⟩ := bind_inv h
  refine OBk.O (d := some 26) (s := vI x7) [(0, .d (.ptr p0 0)), (22, vI (x6.length : Int)), (26, vI x7)] (BAt.ldH (c := (cI .i64).cell) hx (by kernel_rfl)) <| OBk.G 1 [(0, .d (.ptr p0 0)), (27, Z112 x6 x7)] <| OBk.done (by kernel_rfl) <| thenS_n ?_
  refine SW.B (decide ((x6.length : Int) > x7)) (fun hc => ?_) (fun hc => ?_)
  · replace h := bif_t hc h
    refine SW.S <| OWk.G 3 [(0, .d (.ptr p0 0)), (30, .d (.ptr p0 4))] ?_
    obtain ⟨x8, hx, h⟩ := bind_inv h
    refine OWk.O (d := some 31) (s := .d (cP.enc x8)) [(0, .d (.ptr p0 0)), (31, .d (cP.enc x8))] (BAt.ldH (c := cP.cell) hx (by kernel_rfl)) <| OWk.G 1 [(0, .d (.ptr p0 0)), (4, .d (cP.enc x8))] <| OWk.E <| SW.S <| OWk.G 1 [(0, .d (.ptr p0 0)), (4, .d (cP.enc x8)), (33, .d (cP.enc x8))] ?_
    obtain ⟨i9, hp_i9, h⟩ := bind_inv h
    refine OWk.asP x8 (fun p => (sp 55 [(0, .d (.ptr p0 0)), (4, .d (cP.enc p)), (33, .d (cP.enc p))] r3.2)) (by kernel_rfl) hp_i9 ?_
    obtain ⟨r10, hr, h⟩ := bind_inv h
    refine OWk.CH (some 34) [(0, .d (.ptr p0 0)), (4, .d (.ptr i9 0)), (34, .tup [.d (.agg [.list 3 (List.map encValue r10.1.1.Row), .int .i64 r10.1.1.Key, .int .i64 r10.1.1.Number]), .d (cP.enc r10.1.2)])] (t_split_ok hr) <| OWk.G 6 [(0, .d (.ptr p0 0)), (4, .d (.ptr i9 0)), (5, Z133 r10), (6, .d (cP.enc r10.1.2))] <| OWk.E <| SW.regionK <| OWk.G 3 [(0, .d (.ptr p0 0)), (4, .d (.ptr i9 0)), (6, .d (cP.enc r10.1.2)), (37, .d (.ptr p0 0)), (39, Z134 r10)] <| OWk.fz 55 r10.2 39 [0, 4, 6, 37, 39] [(0, .d (.ptr p0 0)), (4, .d (.ptr i9 0)), (6, .d (cP.enc r10.1.2)), (37, .d (.ptr p0 0)), (39, Z135 r10)] (by kernel_rfl) <| OWk.G 3 [(0, .d (.ptr p0 0)), (37, .d (.ptr p0 0)), (40, Z144 r10), (41, .d (.ptr i9 0)), (42, .d (cP.enc r10.1.2))] ?_
    obtain ⟨i11, hp_i11, h⟩ := bind_inv h
    refine OWk.asP r10.1.2 (fun p => (sp 55 [(0, .d (.ptr p0 0)), (37, .d (.ptr p0 0)), (40, Z144 r10), (41, .d (.ptr i9 0)), (42, .d (cP.enc p))] r10.2)) (by kernel_rfl) hp_i11 <| OWk.G 1 [(0, .d (.ptr p0 0)), (37, .d (.ptr p0 0)), (40, Z144 r10), (43, Z145 i9 i11)] <| OWk.fz 55 r10.2 43 [0, 37, 40, 43] [(0, .d (.ptr p0 0)), (37, .d (.ptr p0 0)), (40, Z144 r10), (43, Z147 i9 i11)] (by kernel_rfl) <| OWk.G 1 [(0, .d (.ptr p0 0)), (37, .d (.ptr p0 0)), (44, Z146 r10 i9 i11)] ?_
    obtain ⟨q12, hq, h⟩ := bind_inv h
    refine OWk.hnew 55 q12.1 (d := some 45) (b := false) [] [0, 37, 45] [(0, .d (.ptr p0 0)), (37, .d (.ptr p0 0)), (45, .d (.ptr q12.2 0))] hq (by kernel_rfl) rfl (by kernel_rfl) <| OWk.G 2 [(0, .d (.ptr p0 0)), (45, .d (.ptr q12.2 0)), (47, .d (.ptr p0 4))] ?_
    obtain ⟨H13, hx, h⟩ := bind_inv h
    refine OWk.hst 55 H13 [0] [(0, .d (.ptr p0 0))] hx (by kernel_rfl) (by kernel_rfl) <| OWk.E <| SW.regionK <| OWk.G 3 [(48, .d (.ptr p0 0)), (50, .d (.ptr p0 6))] ?_
    obtain ⟨x14, hx, h⟩ := bind_inv h
    refine OWk.O (d := some 51) (s := vI x14) [(48, .d (.ptr p0 0)), (51, vI x14)] (BAt.ldH (c := (cI .i64).cell) hx (by kernel_rfl)) <| OWk.G 3 [(52, Z15 x14), (54, .d (.ptr p0 6))] ?_
    obtain ⟨H15, hx, h⟩ := bind_inv h
    refine OWk.hst 55 H15 [] [] hx (by kernel_rfl) (by kernel_rfl) <| OWk.D ?_
    cases h
    exact EndQ.normal [] (by kernel_rfl) rfl
  · replace h := bif_f hc h
    refine SW.skip <| thenS_n <| SW.regionK <| OWk.G 3 [(48, .d (.ptr p0 0)), (50, .d (.ptr p0 6))] ?_
    obtain ⟨x16, hx, h⟩ := bind_inv h
    refine OWk.O (d := some 51) (s := vI x16) [(48, .d (.ptr p0 0)), (51, vI x16)] (BAt.ldH (c := (cI .i64).cell) hx (by kernel_rfl)) <| OWk.G 3 [(52, Z15 x16), (54, .d (.ptr p0 6))] ?_
    obtain ⟨H17, hx, h⟩ := bind_inv h
    refine OWk.hst 55 H17 [] [] hx (by kernel_rfl) (by kernel_rfl) <| OWk.D ?_
    cases h
    exact EndQ.normal [] (by kernel_rfl) rfl
def t_Tree_Insert (fuel : Nat) (p0 : Nat) (p1 : (List Value)) (p2 : Int) (H : Hp) : Option ((Int × Int) × Hp) :=
  (t_Tree_asked fuel p0 p1 p2 H).bind fun r1 =>
  bif (r1 != 0) then
    some ((0, r1), H)
  else
    letJ (fun (j2 : Hp) =>
      (hGet (cI .i64).cell j2 p0 5).bind fun x8 =>
      (hSet (cI .i64) j2 p0 5 (IntKind.wrap .i64 (x8 + 1))).bind fun H9 =>
      (slices_Clone_f44 fuel p1).bind fun r10 =>
      (hGet (cI .i64).cell H9 p0 5).bind fun x11 =>
      (t_Tree_insert fuel p0 (⟨r10, p2, x11⟩ : Entry) H9).bind fun r12 =>
      (hGet (cI .i64).cell r12.2 p0 5).bind fun x13 =>
      some ((x13, 0), r12.2)) fun jp3 =>
    (hGet (cI .i64).cell H p0 2).bind fun x4 =>
    bif (x4 == 1) then
      (t_Tree_has fuel p0 p1 H).bind fun r5 =>
      bif r5.1 then
        some ((0, 6), r5.2)
      else
        (hGet (cI .i64).cell r5.2 p0 6).bind fun x6 =>
        bif (decide (x6 ≥ 500)) then
          some ((0, 4), r5.2)
        else
          jp3 r5.2
    else
      (hGet (cI .i64).cell H p0 6).bind fun x7 =>
      bif (decide (x7 ≥ 500)) then
        some ((0, 4), H)
      else
        jp3 H
theorem t_Tree_Insert_ok {fuel : Nat} {p0 : Nat} {p1 : (List Value)} {p2 : Int} {H : Hp} {r : (Int × Int) × Hp} (h : t_Tree_Insert fuel p0 p1 p2 H = some r) : SC Try.prog false 18 [.d (.ptr p0 0), .d (.list 3 (List.map encValue p1)), vI p2] H (.tup [vI r.1.1, vI r.1.2]) r.2 := by
  refine SC.of_SWh Try.func18 rfl ?_
  unfold t_Tree_Insert at h
  refine SW.kp 55 H [0, 1, 2] [(0, .d (.ptr p0 0)), (1, Z10 p1), (2, vI p2)] (by kernel_rfl) <| SW.R 1 [(0, .d (.ptr p0 0)), (1, Z10 p1), (2, vI p2)] <| SW.seq <| SW.S <| OWk.G 3 [(0, .d (.ptr p0 0)), (1, Z10 p1), (2, vI p2), (9, .d (.ptr p0 0)), (10, Z10 p1), (11, vI p2)] ?_
  obtain ⟨r1, hr, h⟩ := bind_inv h
  refine OWk.CR (ls := []) (some 12) [(0, .d (.ptr p0 0)), (1, Z10 p1), (2, vI p2), (12, vI r1)] (t_Tree_asked_ok hr) <| OWk.G 1 [(0, .d (.ptr p0 0)), (1, Z10 p1), (2, vI p2), (8, vI r1)] <| OWk.E <| SW.R 1 [(0, .d (.ptr p0 0)), (1, Z10 p1), (2, vI p2), (8, vI r1), (14, vB (r1 != 0))] ?_
  refine SW.B (r1 != 0) (fun hc => ?_) (fun hc => ?_)
  · replace h := bif_t hc h
    refine SW.R 1 [(6, vI 0), (7, vI r1)] <| SW.ret <| thenS_r ?_
    cases h
    exact EndQ.ret [] (by kernel_rfl) rfl
  · replace h := bif_f hc h
    refine SW.skip <| thenS_n ?_
    obtain ⟨jp3, hjjp3, h⟩ := letJ_inv h
    refine SW.jnH 55 [0, 1, 2] (fun (j2 : Hp) => [(0, .d (.ptr p0 0)), (1, Z10 p1), (2, vI p2)]) (fun (j2 : Hp) => j2) (fun v => jp3 v = some r) (fun j2 h => ?_) ?_
    · rw [hjjp3] at h
      refine SW.S <| OWk.G 3 [(0, .d (.ptr p0 0)), (1, Z10 p1), (2, vI p2), (34, .d (.ptr p0 0)), (36, .d (.ptr p0 5))] ?_
      obtain ⟨x8, hx, h⟩ := bind_inv h
      refine OWk.O (d := some 37) (s := vI x8) [(0, .d (.ptr p0 0)), (1, Z10 p1), (2, vI p2), (34, .d (.ptr p0 0)), (37, vI x8)] (BAt.ldH (c := (cI .i64).cell) hx (by kernel_rfl)) <| OWk.G 3 [(0, .d (.ptr p0 0)), (1, Z10 p1), (2, vI p2), (38, Z15 x8), (40, .d (.ptr p0 5))] ?_
      obtain ⟨H9, hx, h⟩ := bind_inv h
      refine OWk.hst 55 H9 [0, 1, 2] [(0, .d (.ptr p0 0)), (1, Z10 p1), (2, vI p2)] hx (by kernel_rfl) (by kernel_rfl) <| OWk.E <| SW.seq ?_
      obtain ⟨r10, hr_2, h⟩ := bind_inv h
      obtain ⟨x11, hx11, h⟩ := bind_inv h
      obtain ⟨r12, hr_9, h⟩ := bind_inv h
      refine SW.K [(0, .d (.ptr p0 0)), (1, Z10 p1), (2, vI p2)] ?_
      refine SW.regXP 55 r12.2 [(0, .d (.ptr p0 0))] [0, 1, 3, 4] 6 27 (by kernel_rfl) (by kernel_rfl) (by kernel_rfl) (fun X hX => ?_) ?_
      · have c1023 : X 0 1023 (sp 55 [(0, .d (.ptr p0 0))] r12.2) := by subst hX; exact OX.fin (by kernel_rfl)
        have c511 : X 1 511 (sp 55 [(0, .d (.ptr p0 0)), (41, .d (.ptr p0 0)), (49, Z75 r10 p2 x11)] H9) := by
          subst hX
          refine OX.step (i0 := 9) (is := []) (by kernel_rfl) (by kernel_rfl) ⟨?_, trivial⟩
          · refine OWk.CH (some 50) [(0, .d (.ptr p0 0))] (t_Tree_insert_ok hr_9) <| OWk.D ?_
            exact c1023
        have c255 : X 2 255 (sp 55 [(0, .d (.ptr p0 0)), (41, .d (.ptr p0 0)), (43, Z74 r10), (44, vI p2), (48, vI x11)] H9) := by
          subst hX
          refine OX.step (i0 := 8) (is := []) (by kernel_rfl) (by kernel_rfl) ⟨?_, trivial⟩
          · refine OWk.fz 55 H9 43 [0, 41, 43, 44, 48] [(0, .d (.ptr p0 0)), (41, .d (.ptr p0 0)), (43, Z10 r10), (44, vI p2), (48, vI x11)] (by kernel_rfl) <| OWk.G 1 [(0, .d (.ptr p0 0)), (41, .d (.ptr p0 0)), (49, Z75 r10 p2 x11)] <| OWk.D ?_
            exact c511
        have c127 : X 3 127 (sp 55 [(0, .d (.ptr p0 0)), (41, .d (.ptr p0 0)), (43, Z74 r10), (44, vI p2), (47, .d (.ptr p0 5))] H9) := by
          subst hX
          refine OX.step (i0 := 7) (is := []) (by kernel_rfl) (by kernel_rfl) ⟨?_, trivial⟩
          · refine OWk.O (d := some 48) (s := vI x11) [(0, .d (.ptr p0 0)), (41, .d (.ptr p0 0)), (43, Z74 r10), (44, vI p2), (48, vI x11)] (BAt.ldH (c := (cI .i64).cell) hx11 (by kernel_rfl)) <| OWk.D ?_
            exact c255
        have c63 : X 4 63 (sp 55 [(0, .d (.ptr p0 0)), (41, .d (.ptr p0 0)), (43, Z74 r10), (44, vI p2), (46, .d (.ptr p0 0))] H9) := by
          subst hX
          refine OX.step (i0 := 6) (is := []) (by kernel_rfl) (by kernel_rfl) ⟨?_, trivial⟩
          · refine OWk.G 1 [(0, .d (.ptr p0 0)), (41, .d (.ptr p0 0)), (43, Z74 r10), (44, vI p2), (47, .d (.ptr p0 5))] <| OWk.D ?_
            exact c127
        have c31 : X 5 31 (sp 55 [(0, .d (.ptr p0 0)), (41, .d (.ptr p0 0)), (43, Z74 r10), (44, vI p2), (45, .d (.ptr p0 0))] H9) := by
          subst hX
          refine OX.step (i0 := 5) (is := []) (by kernel_rfl) (by kernel_rfl) ⟨?_, trivial⟩
          · refine OWk.G 1 [(0, .d (.ptr p0 0)), (41, .d (.ptr p0 0)), (43, Z74 r10), (44, vI p2), (46, .d (.ptr p0 0))] <| OWk.D ?_
            exact c63
        have c251 : X 3 251 (sp 55 [(0, .d (.ptr p0 0)), (41, .d (.ptr p0 0)), (42, Z10 p1), (44, vI p2), (48, vI x11)] H9) := by
          subst hX
          refine OX.step (i0 := 2) (is := []) (by kernel_rfl) (by kernel_rfl) ⟨?_, trivial⟩
          · refine OWk.C0 (some 43) [(0, .d (.ptr p0 0)), (41, .d (.ptr p0 0)), (43, Z74 r10), (44, vI p2), (48, vI x11)] (slices_Clone_f44_ok hr_2) <| OWk.D ?_
            exact c255
        have c123 : X 4 123 (sp 55 [(0, .d (.ptr p0 0)), (41, .d (.ptr p0 0)), (42, Z10 p1), (44, vI p2), (47, .d (.ptr p0 5))] H9) := by
          subst hX
          refine OX.step (i0 := 2) (is := [7]) (by kernel_rfl) (by kernel_rfl) ⟨?_, ?_, trivial⟩
          · refine OWk.C0 (some 43) [(0, .d (.ptr p0 0)), (41, .d (.ptr p0 0)), (43, Z74 r10), (44, vI p2), (47, .d (.ptr p0 5))] (slices_Clone_f44_ok hr_2) <| OWk.D ?_
            exact c127
          · refine OWk.O (d := some 48) (s := vI x11) [(0, .d (.ptr p0 0)), (41, .d (.ptr p0 0)), (42, Z10 p1), (44, vI p2), (48, vI x11)] (BAt.ldH (c := (cI .i64).cell) hx11 (by kernel_rfl)) <| OWk.D ?_
            exact c251
        have c59 : X 5 59 (sp 55 [(0, .d (.ptr p0 0)), (41, .d (.ptr p0 0)), (42, Z10 p1), (44, vI p2), (46, .d (.ptr p0 0))] H9) := by
          subst hX
          refine OX.step (i0 := 2) (is := [6]) (by kernel_rfl) (by kernel_rfl) ⟨?_, ?_, trivial⟩
          · refine OWk.C0 (some 43) [(0, .d (.ptr p0 0)), (41, .d (.ptr p0 0)), (43, Z74 r10), (44, vI p2), (46, .d (.ptr p0 0))] (slices_Clone_f44_ok hr_2) <| OWk.D ?_
            exact c63
          · refine OWk.G 1 [(0, .d (.ptr p0 0)), (41, .d (.ptr p0 0)), (42, Z10 p1), (44, vI p2), (47, .d (.ptr p0 5))] <| OWk.D ?_
            exact c123
        have c27 : X 6 27 (sp 55 [(0, .d (.ptr p0 0)), (41, .d (.ptr p0 0)), (42, Z10 p1), (44, vI p2), (45, .d (.ptr p0 0))] H9) := by
          subst hX
          refine OX.step (i0 := 2) (is := [5]) (by kernel_rfl) (by kernel_rfl) ⟨?_, ?_, trivial⟩
          · refine OWk.C0 (some 43) [(0, .d (.ptr p0 0)), (41, .d (.ptr p0 0)), (43, .own 3 (List.map encValue r10)), (44, vI p2), (45, .d (.ptr p0 0))] (slices_Clone_f44_ok hr_2) <| OWk.D ?_
            exact c31
          · refine OWk.G 1 [(0, .d (.ptr p0 0)), (41, .d (.ptr p0 0)), (42, Z10 p1), (44, vI p2), (46, .d (.ptr p0 0))] <| OWk.D ?_
            exact c59
        refine OBk.G 1 [(0, .d (.ptr p0 0)), (1, Z10 p1), (2, vI p2), (41, .d (.ptr p0 0))] <| OBk.G 1 [(0, .d (.ptr p0 0)), (2, vI p2), (41, .d (.ptr p0 0)), (42, Z10 p1)] <| OBk.G 1 [(0, .d (.ptr p0 0)), (41, .d (.ptr p0 0)), (42, Z10 p1), (44, vI p2)] <| OBk.G 1 [(0, .d (.ptr p0 0)), (41, .d (.ptr p0 0)), (42, Z10 p1), (44, vI p2), (45, .d (.ptr p0 0))] <| OBk.done (by kernel_rfl) ?_
        exact c27
      refine thenS_n <| SW.S <| OWk.G 3 [(53, .d (.ptr p0 5))] ?_
      obtain ⟨x13, hx, h⟩ := bind_inv h
      refine OWk.O (d := some 54) (s := vI x13) [(54, vI x13)] (BAt.ldH (c := (cI .i64).cell) hx (by kernel_rfl)) <| OWk.G 2 [(6, vI x13), (7, vI 0)] <| OWk.E <| SW.ret ?_
      cases h
      exact EndQ.ret [] (by kernel_rfl) rfl
    · refine SW.block <| SW.S <| OWk.G 4 [(0, .d (.ptr p0 0)), (1, Z10 p1), (2, vI p2), (20, .d (.ptr p0 2))] ?_
      obtain ⟨x4, hx, h⟩ := bind_inv h
      refine OWk.O (d := some 21) (s := vI x4) [(0, .d (.ptr p0 0)), (1, Z10 p1), (2, vI p2), (21, vI x4)] (BAt.ldH (c := (cI .i64).cell) hx (by kernel_rfl)) <| OWk.G 2 [(0, .d (.ptr p0 0)), (1, Z10 p1), (2, vI p2), (23, vB (x4 == 1))] ?_
      refine OWk.case (x4 == 1) (fun b => (sp 55 [(0, .d (.ptr p0 0)), (1, Z10 p1), (2, vI p2), (23, vB b)] H)) (by kernel_rfl) (fun hc => ?_) (fun hc => ?_)
      · replace h := bif_t hc h
        refine OWk.G 2 [(0, .d (.ptr p0 0)), (1, Z10 p1), (2, vI p2), (23, vB true), (24, .d (.ptr p0 0)), (25, Z10 p1)] ?_
        obtain ⟨r5, hr, h⟩ := bind_inv h
        refine OWk.CH (some 26) [(0, .d (.ptr p0 0)), (1, Z10 p1), (2, vI p2), (23, vB true), (26, vB r5.1)] (t_Tree_has_ok hr) <| OWk.G 2 [(0, .d (.ptr p0 0)), (1, Z10 p1), (2, vI p2), (16, vB r5.1)] <| OWk.E ?_
        refine SW.B r5.1 (fun hc => ?_) (fun hc => ?_)
        · replace h := bif_t hc h
          refine SW.R 1 [(6, vI 0), (7, vI 6)] <| SW.ret <| blockS_r <| thenS_r ?_
          cases h
          exact EndQ.ret [] (by kernel_rfl) rfl
        · replace h := bif_f hc h
          refine SW.S <| OWk.G 3 [(0, .d (.ptr p0 0)), (1, Z10 p1), (2, vI p2), (31, .d (.ptr p0 6))] ?_
          obtain ⟨x6, hx, h⟩ := bind_inv h
          refine OWk.O (d := some 32) (s := vI x6) [(0, .d (.ptr p0 0)), (1, Z10 p1), (2, vI p2), (32, vI x6)] (BAt.ldH (c := (cI .i64).cell) hx (by kernel_rfl)) <| OWk.G 2 [(0, .d (.ptr p0 0)), (1, Z10 p1), (2, vI p2), (28, vB (decide (x6 ≥ 500)))] <| OWk.E ?_
          refine SW.B (decide (x6 ≥ 500)) (fun hc => ?_) (fun hc => ?_)
          · replace h := bif_t hc h
            refine SW.R 1 [(6, vI 0), (7, vI 4)] <| SW.ret <| blockS_r <| thenS_r ?_
            cases h
            exact EndQ.ret [] (by kernel_rfl) rfl
          · replace h := bif_f hc h
            refine SW.skip <| blockS_n ?_
            exact ⟨r5.2, [], by kernel_rfl, h⟩
      · replace h := bif_f hc h
        refine OWk.G 5 [(0, .d (.ptr p0 0)), (1, Z10 p1), (2, vI p2), (16, vB false)] <| OWk.E <| SW.condF (by kernel_rfl) <| SW.S <| OWk.G 3 [(0, .d (.ptr p0 0)), (1, Z10 p1), (2, vI p2), (31, .d (.ptr p0 6))] ?_
        obtain ⟨x7, hx, h⟩ := bind_inv h
        refine OWk.O (d := some 32) (s := vI x7) [(0, .d (.ptr p0 0)), (1, Z10 p1), (2, vI p2), (32, vI x7)] (BAt.ldH (c := (cI .i64).cell) hx (by kernel_rfl)) <| OWk.G 2 [(0, .d (.ptr p0 0)), (1, Z10 p1), (2, vI p2), (28, vB (decide (x7 ≥ 500)))] <| OWk.E ?_
        refine SW.B (decide (x7 ≥ 500)) (fun hc => ?_) (fun hc => ?_)
        · replace h := bif_t hc h
          refine SW.R 1 [(6, vI 0), (7, vI 4)] <| SW.ret <| blockS_r <| thenS_r ?_
          cases h
          exact EndQ.ret [] (by kernel_rfl) rfl
        · replace h := bif_f hc h
          refine SW.skip <| blockS_n ?_
          exact ⟨H, [], by kernel_rfl, h⟩
def t_node_all (fuel : Nat) (p0 : Nat) (H : Hp) : Option (Unit) :=
  some ()
def Z148 (x0 : Int × Hp) : SV := vI (IntKind.wrap .i64 (x0.1 + 1))
def Z149 (x0 : Int) : SV := .d (.list 3 (List.map encValue [(⟨1, x0, []⟩ : Value)]))
def Z150 (x0 : Nat) : SV := .d (.fn (.func 69) [] [.dptr [.ptr x0 0]])
theorem t_node_all_ok {fuel : Nat} {p0 : Nat} {H : Hp} {r : Unit} (h : t_node_all fuel p0 H = some r) : SC Try.prog true 59 [.d (.ptr p0 0)] H (.d (.fn (.func 69) [] [.dptr [.ptr p0 0]])) H := by
  refine SC.of_SWr Try.func59 rfl ?_
  unfold t_node_all at h
  refine SW.kp 4 H [0] [(0, .d (.ptr p0 0))] (by kernel_rfl) <| SW.S <| OWk.bxf 4 H (d := 1) (ds := [.ptr p0 0]) [1] [(1, .d (.dptr [.ptr p0 0]))] (by kernel_rfl) (by kernel_rfl) <| OWk.G 1 [(1, .d (.dptr [.ptr p0 0]))] <| OWk.E <| SW.R 1 [(2, Z150 p0)] <| SW.ret ?_
  cases h
  exact EndQ.ret [] (by kernel_rfl) rfl
def t_all11_b (fuel : Nat) (Y : Entry → Hp → Option (Bool × Hp)) (rc : Nat → Hp → Option (Bool × Hp)) (p : Nat) (n : Int) (x : Int × Hp) : Option ((Int × Hp) ⊕ (Bool × Hp)) :=
  cond (decide (x.1 < n))
    ((t_node_leaf fuel p x.2).bind fun lf =>
    (cond lf (some (true, x.2)) ((hGetL 1 cP x.2 p 1).bind fun ks => (idx ks x.1).bind fun k => k.bind fun k => rc k x.2)).bind fun q =>
    cond q.1
      ((hGetL 3 cEntry q.2 p 0).bind fun es =>
      cond (decide (x.1 < (es.length : Int)))
        ((idx es x.1).bind fun e => (Y e q.2).bind fun y => cond y.1 (some (.inl (IntKind.wrap .i64 (x.1 + 1), y.2))) (some (.inr (false, y.2))))
        (some (.inl (IntKind.wrap .i64 (x.1 + 1), q.2))))
      (some (.inr (false, q.2))))
    (some (.inr (true, x.2)))
def t_all11 (fuel : Nat) (Y : Entry → Hp → Option (Bool × Hp)) : Nat → Nat → Hp → Option (Bool × Hp)
  | 0, _, _ => none
  | s + 1, p, H => (hGetL 3 cEntry H p 0).bind fun es => iter (t_all11_b fuel Y (t_all11 fuel Y s) p (IntKind.wrap .i64 ((es.length : Int) + 1))) fuel (0, H)
def t_all1 (fuel : Nat) (Y : Entry → Hp → Option (Bool × Hp)) (p : Nat) (H : Hp) : Option (Bool × Hp) := t_all11 fuel Y fuel p (H ++ [.hole])
def dnD (l i : Nat) : D := .fn (.func 70) [] [.ptr i 0, .dptr [.fn (.yield l) [] []]]
def yd (l : Nat) : D := .dptr [.fn (.yield l) [] []]
section
variable {fuel l i : Nat} {Y : Entry → Hp → Option (Bool × Hp)} {R : Loop} {jc : Code} {ds : List (Nat × D)}
theorem t_all11_ok (hY : ∀ x H q, Y x H = some q → YBL Try.prog l (CL l R jc ds []) [.d (encEntry x)] H q.2 q.1) : ∀ (s p : Nat) (H : Hp) (q : Bool × Hp), t_all11 fuel Y s p H = some q →
    SBL Try.prog l (CL l R jc ds [(i, dnD l i)]) 70 [.d (.ptr p 0), .d (.ptr i 0), .d (yd l)] H q.2 q.1 (fun v => v = .bool q.1) := by
  intro s
  have hC : ∀ b, CFr (CL l R jc ds [(i, dnD l i)] b) := fun b => CL.fr
  induction s with
  | zero => intro p H q h; cases h
  | succ s ih =>
    intro p H q h
    unfold t_all11 at h
    obtain ⟨es0, hx0, hit⟩ := bind_inv h
    refine SBL.of_SWL Try.func70 rfl rfl <| SWL.kp 55 H [0, 1, 2] [(0, .d (.ptr p 0)), (1, .d (.ptr i 0)), (2, .d (yd l))] (by kernel_rfl) <| SWL.seq <| SWL.of hC <| SW.regionK <|
      OWk.G 1 [(0, .d (.ptr p 0)), (1, .d (.ptr i 0)), (2, .d (yd l)), (4, vB false)] <| OWk.D <| thenL_n <| SWL.seq <| SWL.seq <| SWL.of hC <| SW.regionK <|
      OWk.G 4 [(0, .d (.ptr p 0)), (1, .d (.ptr i 0)), (2, .d (yd l)), (4, vB false), (9, .d (.ptr p 0))] <|
      OWk.O (d := some 10) (s := .lent (.hcell p 0) 3 (List.map cEntry.enc es0)) [(0, .d (.ptr p 0)), (1, .d (.ptr i 0)), (2, .d (yd l)), (4, vB false), (10, .lent (.hcell p 0) 3 (List.map cEntry.enc es0))] (BAt.ldL (c := cEntry) hx0 (by kernel_rfl)) <|
      OWk.O (d := some 11) [(0, .d (.ptr p 0)), (1, .d (.ptr i 0)), (2, .d (yd l)), (4, vB false), (11, vI (es0.length : Int))] (BAt.len (enc := cEntry.enc) (xs := es0) (by kernel_rfl)) <|
      OWk.G 2 [(0, .d (.ptr p 0)), (1, .d (.ptr i 0)), (2, .d (yd l)), (4, vB false), (12, vI (IntKind.wrap .i64 ((es0.length : Int) + 1))), (13, vI 0)] <| OWk.D <| thenL_n <| SWL.block ?_
    generalize IntKind.wrap .i64 ((es0.length : Int) + 1) = n at hit ⊢
    clear hx0 h
    refine SWL.itH 55 [0, 1, 2, 4, 12, 13] (fun x : Int × Hp => [(0, .d (.ptr p 0)), (1, .d (.ptr i 0)), (2, .d (yd l)), (4, vB false), (12, vI n), (13, vI x.1)]) (fun x => x.2)
      (fun (r : Bool × Hp) b' e s => (r.1 = true ∧ b' = true ∧ e = .exit 0 ∧ s = sp 55 [] r.2) ∨ (r.1 = false ∧ b' = false ∧ e = .ret ∧ s.H = r.2 ∧ s.tmps[4]? = some (vB false))) hit (by kernel_rfl) (fun x o ho => ?_) (fun b' e s hh => ?_)
    · obtain ⟨c, H⟩ := x
      unfold t_all11_b at ho
      simp only at ho
      refine SWL.seq <| SWL.of hC <| SW.regionK <| OWk.G 1 [(0, .d (.ptr p 0)), (1, .d (.ptr i 0)), (2, .d (yd l)), (4, vB false), (12, vI n), (13, vI c), (14, vB (decide (c < n)))] <| OWk.D <| thenL_n <| SWL.seq <| SWL.cond (v := decide (c < n)) (by kernel_rfl) ?_
      cases hd : decide (c < n) with
      | false =>
        rw [hd] at ho
        simp only [cond_false, Option.some.injEq] at ho
        refine SWL.kp 55 H [] [] (by kernel_rfl) <| SWL.of hC fun a w g hr => wp_exit ⟨_, g, ?_, hr, Fr.refl _ _ _⟩
        exact ⟨(true, H), ho.symm, .inl ⟨rfl, rfl, rfl, rfl⟩⟩
      | true =>
        rw [hd] at ho
        simp only [cond_true] at ho
        obtain ⟨lf, hlf, ho1⟩ := bind_inv ho
        clear ho
        obtain ⟨q1, hq1, ho⟩ := bind_inv ho1
        clear ho1
        refine SWL.kp 55 H [0, 1, 2, 4, 12, 13] [(0, .d (.ptr p 0)), (1, .d (.ptr i 0)), (2, .d (yd l)), (4, vB false), (12, vI n), (13, vI c)] (by kernel_rfl) <| SWL.of hC fun a w g hr => wp_skip ⟨_, g, ?_, hr, Fr.refl _ _ _⟩
        refine thenL_n <| SWL.seq <| SWL.block <| SWL.seq <| SWL.of hC <| SW.regionK <| OWk.G 2 [(0, .d (.ptr p 0)), (1, .d (.ptr i 0)), (2, .d (yd l)), (4, vB false), (5, vI c), (12, vI n), (13, vI c)] <| OWk.D <| thenL_n <| SWL.seq <| SWL.regionA (by kernel_rfl) hC ?_
        -- what stands behind the region
        generalize hK : (fun b' s => thenL (fun b' s => SWL Try.prog l (CL l R jc ds [(i, dnD l i)]) b' _ s _) _ b' Exit.normal s) = K
        have hgo : ∀ H', o = .inl (IntKind.wrap .i64 (c + 1), H') → K true (sp 55 [(0, .d (.ptr p 0)), (1, .d (.ptr i 0)), (2, .d (yd l)), (4, vB false), (12, vI n), (13, vI c), (53, vB false)] H') := fun H' e => by
          subst e
          rw [← hK]
          refine thenL_n <| SWL.cond (v := false) (by kernel_rfl) <| SWL.of hC fun a w g hr => wp_skip ⟨_, g, ?_, hr, Fr.refl _ _ _⟩
          refine blockL_n <| thenL_n <| SWL.of hC <| SW.regionK <| OWk.G 2 [(0, .d (.ptr p 0)), (1, .d (.ptr i 0)), (2, .d (yd l)), (4, vB false), (12, vI n), (13, vI (IntKind.wrap .i64 (c + 1)))] <| OWk.D ?_
          exact ⟨rfl, _, rfl, by kernel_rfl⟩
        have hleave : ∀ H', o = .inr (false, H') → K false (sp 55 [(53, vB true)] H') := fun H' e => by
          subst e
          rw [← hK]
          refine thenL_n <| SWL.cond (v := true) (by kernel_rfl) <| SWL.seq <| SWL.of hC <| SW.regionK <| OWk.G 1 [(4, vB false)] <| OWk.D <| thenL_n <| SWL.of hC fun a w g hr => wp_ret ⟨_, g, ?_, hr, Fr.refl _ _ _⟩
          exact ⟨(false, H'), rfl, .inr ⟨rfl, rfl, rfl, rfl, by kernel_rfl⟩⟩
        clear hK
        -- the second half
        refine OL.cut (b := true) (fun H2 => ((hGetL 3 cEntry H2 p 0).bind fun es =>
            cond (decide (c < (es.length : Int)))
              ((idx es c).bind fun e => (Y e H2).bind fun y => cond y.1 (some (.inl (IntKind.wrap .i64 (c + 1), y.2))) (some (.inr (false, y.2))))
              (some (.inl (IntKind.wrap .i64 (c + 1), H2)))) = some o) 22 65535 55 [(0, .d (.ptr p 0)), (1, .d (.ptr i 0)), (2, .d (yd l)), (4, vB false), (5, vI c), (12, vI n), (13, vI c), (31, vB false)] (fun H2 h2 => ?_) fun part2 => ?_
        · skip
          obtain ⟨es, hx, h2⟩ := bind_inv h2
          refine OL.G (d' := 17) [16, 17, 18, 19, 20] [(0, .d (.ptr p 0)), (1, .d (.ptr i 0)), (2, .d (yd l)), (4, vB false), (5, vI c), (12, vI n), (13, vI c), (31, vB false), (32, vI c), (36, .d (.ptr p 0))] <| OL.F 21 hC <| OWk.O (d := some 37) (s := .lent (.hcell p 0) 3 (List.map cEntry.enc es)) [(0, .d (.ptr p 0)), (1, .d (.ptr i 0)), (2, .d (yd l)), (4, vB false), (5, vI c), (12, vI n), (13, vI c), (31, vB false), (32, vI c), (37, .lent (.hcell p 0) 3 (List.map cEntry.enc es))] (BAt.ldL (c := cEntry) hx (by kernel_rfl)) <| OWk.D <|
            OL.F 22 hC <| OWk.O (d := some 38) [(0, .d (.ptr p 0)), (1, .d (.ptr i 0)), (2, .d (yd l)), (4, vB false), (5, vI c), (12, vI n), (13, vI c), (31, vB false), (32, vI c), (38, vI (es.length : Int))] (BAt.len (enc := cEntry.enc) (xs := es) (by kernel_rfl)) <| OWk.D <| OL.G (d' := 13) [23, 24] [(0, .d (.ptr p 0)), (1, .d (.ptr i 0)), (2, .d (yd l)), (4, vB false), (5, vI c), (12, vI n), (13, vI c), (31, vB false), (40, vB (decide (c < (es.length : Int))))] ?_
          cases hd2 : decide (c < (es.length : Int)) with
          | false =>
            rw [hd2] at h2
            simp only [cond_false, Option.some.injEq] at h2
            exact OL.G (d' := 0) [25, 26, 27, 28, 29, 30, 31, 32, 33, 34, 35, 36, 37] [(0, .d (.ptr p 0)), (1, .d (.ptr i 0)), (2, .d (yd l)), (4, vB false), (12, vI n), (13, vI c), (53, vB false)] <| OL.fin (by kernel_rfl) (hgo H2 h2.symm)
          | true =>
            rw [hd2] at h2
            simp only [cond_true] at h2
            obtain ⟨e, he, h2⟩ := bind_inv h2
            obtain ⟨y, hy, h2⟩ := bind_inv h2
            refine OL.hav (b := true) (H := H2) 4 17179869183 55 [(0, .d (.ptr p 0)), (1, .d (.ptr i 0)), (2, .d (yd l)), (4, vB false), (12, vI n), (13, vI c), (31, vB false), (40, vB true), (41, .d (.fn (.yield l) [] [])), (49, .d (encEntry e))] ?_ fun hABC => ?_
            · refine OL.step (i0 := 34) (is := []) (by kernel_rfl) ⟨OneL.yield (dd := some 50) 55 [0, 1, 2, 4, 12, 13, 31, 40, 50] [(0, .d (.ptr p 0)), (1, .d (.ptr i 0)), (2, .d (yd l)), (4, vB false), (12, vI n), (13, vI c), (31, vB false), (40, vB true), (50, vB y.1)] (by kernel_rfl) (YBL.more (hY e H2 y hy)) (by kernel_rfl) (by kernel_rfl) ?_, trivial⟩
              cases hyb : y.1 with
              | true =>
                rw [hyb] at h2
                simp only [cond_true, Option.some.injEq] at h2
                exact OL.G (d' := 0) [35, 36, 37] [(0, .d (.ptr p 0)), (1, .d (.ptr i 0)), (2, .d (yd l)), (4, vB false), (12, vI n), (13, vI c), (53, vB false)] <| OL.fin (by kernel_rfl) (hgo y.2 h2.symm)
              | false =>
                rw [hyb] at h2
                simp only [cond_false, Option.some.injEq] at h2
                exact OL.G (d' := 0) [35, 36, 37] [(53, vB true)] <| OL.fin (by kernel_rfl) (hleave y.2 h2.symm)
            refine OL.hav (b := true) (H := H2) 5 8589934591 55 [(0, .d (.ptr p 0)), (1, .d (.ptr i 0)), (2, .d (yd l)), (4, vB false), (12, vI n), (13, vI c), (31, vB false), (40, vB true), (41, .d (.fn (.yield l) [] [])), (48, .lptr (.hcell p 0) (encEntry e).cells)] (OL.F 33 hC <| OWk.G 1 [(0, .d (.ptr p 0)), (1, .d (.ptr i 0)), (2, .d (yd l)), (4, vB false), (12, vI n), (13, vI c), (31, vB false), (40, vB true), (41, .d (.fn (.yield l) [] [])), (49, .d (encEntry e))] <| OWk.D <| OL.at_ hABC) fun hAB => ?_
            refine OL.G (d' := 8) [26, 27, 28, 29, 31] [(0, .d (.ptr p 0)), (1, .d (.ptr i 0)), (2, .d (yd l)), (4, vB false), (12, vI n), (13, vI c), (31, vB false), (40, vB true), (45, .d (.ptr p 0)), (47, vI c)] <| OL.step (i0 := 25) (is := [30]) (by kernel_rfl) ⟨OneL.W (OWk.G 1 [(0, .d (.ptr p 0)), (1, .d (.ptr i 0)), (2, .d (yd l)), (4, vB false), (12, vI n), (13, vI c), (31, vB false), (40, vB true), (41, .d (.fn (.yield l) [] [])), (45, .d (.ptr p 0)), (47, vI c)] <| OWk.D ?_) hC, OneL.W (OWk.O (d := some 46) (s := .lent (.hcell p 0) 3 (List.map cEntry.enc es)) [(0, .d (.ptr p 0)), (1, .d (.ptr i 0)), (2, .d (yd l)), (4, vB false), (12, vI n), (13, vI c), (31, vB false), (40, vB true), (46, .lent (.hcell p 0) 3 (List.map cEntry.enc es)), (47, vI c)] (BAt.ldL (c := cEntry) hx (by kernel_rfl)) <| OWk.D ?_) hC, trivial⟩
            · refine OL.F 30 hC <| OWk.O (d := some 46) (s := .lent (.hcell p 0) 3 (List.map cEntry.enc es)) [(0, .d (.ptr p 0)), (1, .d (.ptr i 0)), (2, .d (yd l)), (4, vB false), (12, vI n), (13, vI c), (31, vB false), (40, vB true), (41, .d (.fn (.yield l) [] [])), (46, .lent (.hcell p 0) 3 (List.map cEntry.enc es)), (47, vI c)] (BAt.ldL (c := cEntry) hx (by kernel_rfl)) <| OWk.D <| OL.B (dd := some 48) (s := .lptr (.hcell p 0) (encEntry e).cells) 32 [(0, .d (.ptr p 0)), (1, .d (.ptr i 0)), (2, .d (yd l)), (4, vB false), (12, vI n), (13, vI c), (31, vB false), (40, vB true), (41, .d (.fn (.yield l) [] [])), (48, .lptr (.hcell p 0) (encEntry e).cells)] (BAt.index (enc := cEntry.enc) (l := some (.hcell p 0)) (n := 3) he (by kernel_rfl)) <| OL.at_ hAB
            · refine OL.B (dd := some 48) (s := .lptr (.hcell p 0) (encEntry e).cells) 32 [(0, .d (.ptr p 0)), (1, .d (.ptr i 0)), (2, .d (yd l)), (4, vB false), (12, vI n), (13, vI c), (31, vB false), (40, vB true), (48, .lptr (.hcell p 0) (encEntry e).cells)] (BAt.index (enc := cEntry.enc) (l := some (.hcell p 0)) (n := 3) he (by kernel_rfl)) <| OL.step (i0 := 25) (is := [33]) (by kernel_rfl) ⟨OneL.W (OWk.G 1 [(0, .d (.ptr p 0)), (1, .d (.ptr i 0)), (2, .d (yd l)), (4, vB false), (12, vI n), (13, vI c), (31, vB false), (40, vB true), (41, .d (.fn (.yield l) [] [])), (48, .lptr (.hcell p 0) (encEntry e).cells)] <| OWk.D <| OL.at_ hAB) hC, OneL.W (OWk.G 1 [(0, .d (.ptr p 0)), (1, .d (.ptr i 0)), (2, .d (yd l)), (4, vB false), (12, vI n), (13, vI c), (31, vB false), (40, vB true), (49, .d (encEntry e))] <| OWk.D ?_) hC, trivial⟩
              exact OL.F 25 hC <| OWk.G 1 [(0, .d (.ptr p 0)), (1, .d (.ptr i 0)), (2, .d (yd l)), (4, vB false), (12, vI n), (13, vI c), (31, vB false), (40, vB true), (41, .d (.fn (.yield l) [] [])), (49, .d (encEntry e))] <| OWk.D <| OL.at_ hABC
        refine OL.G (d' := 37) [0] [(0, .d (.ptr p 0)), (1, .d (.ptr i 0)), (2, .d (yd l)), (4, vB false), (5, vI c), (12, vI n), (13, vI c), (16, .d (.ptr p 0))] <| OL.F 1 hC <| OWk.CR (ls := []) (some 17) [(0, .d (.ptr p 0)), (1, .d (.ptr i 0)), (2, .d (yd l)), (4, vB false), (5, vI c), (12, vI n), (13, vI c), (17, vB lf)] (t_node_leaf_ok hlf) <| OWk.D <| OL.G (d' := 34) [2, 3] [(0, .d (.ptr p 0)), (1, .d (.ptr i 0)), (2, .d (yd l)), (4, vB false), (5, vI c), (12, vI n), (13, vI c), (19, vB (!lf))] ?_
        cases lf with
        | true =>
          simp only [cond_true, Option.some.injEq] at hq1
          subst hq1
          simp only [cond_true] at ho
          exact OL.G (d' := 22) [4, 5, 6, 7, 8, 9, 10, 11, 12, 13, 14, 15] [(0, .d (.ptr p 0)), (1, .d (.ptr i 0)), (2, .d (yd l)), (4, vB false), (5, vI c), (12, vI n), (13, vI c), (31, vB false)] <| OL.at_ (part2 H ho)
        | false =>
          simp only [cond_false] at hq1
          obtain ⟨ks, hks, hq1⟩ := bind_inv hq1
          obtain ⟨k0, hk, hq1⟩ := bind_inv hq1
          obtain ⟨k, rfl, hq1⟩ := bind_inv hq1
          refine OL.hav (b := true) (H := H) 26 4095 55 [(0, .d (.ptr p 0)), (1, .d (.ptr i 0)), (2, .d (yd l)), (4, vB false), (5, vI c), (12, vI n), (13, vI c), (19, vB true), (20, .d (dnD l i)), (27, .d (.ptr k 0))] ?_ fun hABC => ?_
          · refine OL.step (i0 := 12) (is := []) (by kernel_rfl) ⟨OneL.call (dd := some 28) 55 [0, 1, 2, 4, 5, 12, 13, 19, 28] [(0, .d (.ptr p 0)), (1, .d (.ptr i 0)), (2, .d (yd l)), (4, vB false), (5, vI c), (12, vI n), (13, vI c), (19, vB true), (28, vB q1.1)] (ih k H q1 hq1) (by kernel_rfl) (by kernel_rfl) (by kernel_rfl) ?_, trivial⟩
            cases hqb : q1.1 with
            | true =>
              rw [hqb] at ho
              simp only [cond_true] at ho
              exact OL.G (d' := 22) [13, 14, 15] [(0, .d (.ptr p 0)), (1, .d (.ptr i 0)), (2, .d (yd l)), (4, vB false), (5, vI c), (12, vI n), (13, vI c), (31, vB false)] <| OL.at_ (part2 q1.2 ho)
            | false =>
              rw [hqb] at ho
              simp only [cond_false, Option.some.injEq] at ho
              exact OL.G (d' := 0) [13, 14, 15, 16, 17, 18, 19, 20, 21, 22, 23, 24, 25, 26, 27, 28, 29, 30, 31, 32, 33, 34, 35, 36, 37] [(53, vB true)] <| OL.fin (by kernel_rfl) (hleave q1.2 ho.symm)
          refine OL.hav (b := true) (H := H) 27 2047 55 [(0, .d (.ptr p 0)), (1, .d (.ptr i 0)), (2, .d (yd l)), (4, vB false), (5, vI c), (12, vI n), (13, vI c), (19, vB true), (20, .d (dnD l i)), (26, .lptr (.hcell p 1) [cP.enc (some k)])] (OL.F 11 hC <| OWk.G 1 [(0, .d (.ptr p 0)), (1, .d (.ptr i 0)), (2, .d (yd l)), (4, vB false), (5, vI c), (12, vI n), (13, vI c), (19, vB true), (20, .d (dnD l i)), (27, .d (.ptr k 0))] <| OWk.D <| OL.at_ hABC) fun hAB => ?_
          refine OL.G (d' := 30) [5, 6, 7, 9] [(0, .d (.ptr p 0)), (1, .d (.ptr i 0)), (2, .d (yd l)), (4, vB false), (5, vI c), (12, vI n), (13, vI c), (19, vB true), (23, .d (.ptr p 1)), (25, vI c)] <| OL.step (i0 := 4) (is := [8]) (by kernel_rfl) ⟨OneL.down (dd := some 20) (j := i) (y := dnD l i) (by kernel_rfl) (.head _) <| OL.kp 55 H [0, 1, 2, 4, 5, 12, 13, 19, 20, 23, 25] [(0, .d (.ptr p 0)), (1, .d (.ptr i 0)), (2, .d (yd l)), (4, vB false), (5, vI c), (12, vI n), (13, vI c), (19, vB true), (20, .d (dnD l i)), (23, .d (.ptr p 1)), (25, vI c)] (by kernel_rfl) ?_, OneL.W (OWk.O (d := some 24) (s := .lent (.hcell p 1) 1 (List.map cP.enc ks)) [(0, .d (.ptr p 0)), (1, .d (.ptr i 0)), (2, .d (yd l)), (4, vB false), (5, vI c), (12, vI n), (13, vI c), (19, vB true), (24, .lent (.hcell p 1) 1 (List.map cP.enc ks)), (25, vI c)] (BAt.ldL (c := cP) hks (by kernel_rfl)) <| OWk.D ?_) hC, trivial⟩
          · refine OL.F 8 hC <| OWk.O (d := some 24) (s := .lent (.hcell p 1) 1 (List.map cP.enc ks)) [(0, .d (.ptr p 0)), (1, .d (.ptr i 0)), (2, .d (yd l)), (4, vB false), (5, vI c), (12, vI n), (13, vI c), (19, vB true), (20, .d (dnD l i)), (24, .lent (.hcell p 1) 1 (List.map cP.enc ks)), (25, vI c)] (BAt.ldL (c := cP) hks (by kernel_rfl)) <| OWk.D <| OL.B (dd := some 26) (s := .lptr (.hcell p 1) [cP.enc (some k)]) 10 [(0, .d (.ptr p 0)), (1, .d (.ptr i 0)), (2, .d (yd l)), (4, vB false), (5, vI c), (12, vI n), (13, vI c), (19, vB true), (20, .d (dnD l i)), (26, .lptr (.hcell p 1) [cP.enc (some k)])] (BAt.indexP (l := some (.hcell p 1)) (n := 1) hk (by kernel_rfl)) <| OL.at_ hAB
          · refine OL.B (dd := some 26) (s := .lptr (.hcell p 1) [cP.enc (some k)]) 10 [(0, .d (.ptr p 0)), (1, .d (.ptr i 0)), (2, .d (yd l)), (4, vB false), (5, vI c), (12, vI n), (13, vI c), (19, vB true), (26, .lptr (.hcell p 1) [cP.enc (some k)])] (BAt.indexP (l := some (.hcell p 1)) (n := 1) hk (by kernel_rfl)) <| OL.step (i0 := 4) (is := [11]) (by kernel_rfl) ⟨OneL.down (dd := some 20) (j := i) (y := dnD l i) (by kernel_rfl) (.head _) <| OL.kp 55 H [0, 1, 2, 4, 5, 12, 13, 19, 20, 26] [(0, .d (.ptr p 0)), (1, .d (.ptr i 0)), (2, .d (yd l)), (4, vB false), (5, vI c), (12, vI n), (13, vI c), (19, vB true), (20, .d (dnD l i)), (26, .lptr (.hcell p 1) [cP.enc (some k)])] (by kernel_rfl) <| OL.at_ hAB, OneL.W (OWk.G 1 [(0, .d (.ptr p 0)), (1, .d (.ptr i 0)), (2, .d (yd l)), (4, vB false), (5, vI c), (12, vI n), (13, vI c), (19, vB true), (27, .d (.ptr k 0))] <| OWk.D ?_) hC, trivial⟩
            exact OL.step (i0 := 4) (is := []) (by kernel_rfl) ⟨OneL.down (dd := some 20) (j := i) (y := dnD l i) (by kernel_rfl) (.head _) <| OL.kp 55 H [0, 1, 2, 4, 5, 12, 13, 19, 20, 27] [(0, .d (.ptr p 0)), (1, .d (.ptr i 0)), (2, .d (yd l)), (4, vB false), (5, vI c), (12, vI n), (13, vI c), (19, vB true), (20, .d (dnD l i)), (27, .d (.ptr k 0))] (by kernel_rfl) <| OL.at_ hABC, trivial⟩
    · rcases hh with ⟨h1, rfl, rfl, rfl⟩ | ⟨h1, rfl, rfl, h2, h3⟩
      · refine blockL_x <| thenL_n <| SWL.seq <| SWL.of hC <| SW.regionK <| OWk.G 1 [(4, vB true)] <| OWk.D <| thenL_n <| SWL.of hC fun a w g hr => wp_ret ⟨_, g, ?_, hr, Fr.refl _ _ _⟩
        exact ⟨h1.symm, .inr rfl, rfl, by rw [h1]; kernel_rfl⟩
      · exact ⟨h1.symm, .inr rfl, h2, by rw [h1]; exact h3⟩
theorem hPut_last (H : Hp) (y z : D) : hPut (H ++ [.cells [.d z]]) H.length 0 [y] = some (H ++ [.cells [.d y]]) := by
  have : hCells (H ++ [SObj.cells [SV.d z]]) H.length = some [SV.d z] := by simp [hCells]
  simp [hPut, this, setCells]
theorem t_all1_ok (hY : ∀ x H q, Y x H = some q → YBL Try.prog l (CL l R jc ds []) [.d (encEntry x)] H q.2 q.1) {p : Nat} {H : Hp} {q : Bool × Hp} (h : t_all1 fuel Y p H = some q) :
    SBL Try.prog l (CL l R jc ds []) 69 [.d (.fn (.yield l) [] []), .d (.dptr [.ptr p 0])] H q.2 q.1 (fun _ => True) := by
  have hC : ∀ b, CFr (CL l R jc ds [] b) := fun b => CL.fr
  have hC2 : ∀ b, CFr (CL l R jc ds [(H.length, dnD l H.length)] b) := fun b => CL.fr
  refine SBL.of_SWL0 Try.func69 rfl rfl <| SWL.kp 8 H [0, 1] [(0, .d (.fn (.yield l) [] [])), (1, .d (.dptr [.ptr p 0]))] (by kernel_rfl) <| SWL.seq <| SWL.of hC <| SW.regionK <|
    OWk.bxf 8 H (d := 2) (ds := [.fn (.yield l) [] []]) [1, 2] [(1, .d (.dptr [.ptr p 0])), (2, .d (yd l))] (by kernel_rfl) (by kernel_rfl) <| OWk.D <| thenL_n <| SWL.seq <| SWL.of hC <| SW.regionK <|
    OWk.hnew (n := 8) (H := H ++ [.cells [.d .nilFn]]) (d := some 3) (b := false) [] [1, 2, 3] [(1, .d (.dptr [.ptr p 0])), (2, .d (yd l)), (3, .d (.ptr H.length 0))] (q := (H ++ [.cells [.d .nilFn]], H.length)) rfl (by kernel_rfl) rfl (by kernel_rfl) <| OWk.D <| thenL_n <| SWL.seq <| SWL.of hC <| SW.regionK <|
    OWk.G 1 [(1, .d (.dptr [.ptr p 0])), (2, .d (yd l)), (3, .d (.ptr H.length 0)), (4, .d (dnD l H.length))] <|
    OWk.hstD (n := 8) (H0 := H ++ [.cells [.d .nilFn]]) (H := H ++ [.cells [.d (dnD l H.length)]]) (y := dnD l H.length) (i := H.length) (off := 0) [1, 3] [(1, .d (.dptr [.ptr p 0])), (3, .d (.ptr H.length 0))] (hPut_last H _ _) (by kernel_rfl) (by kernel_rfl) <| OWk.D <| thenL_n <|
    SWL.hide H.length (dnD l H.length) 8 (H ++ [.hole]) [1, 3] [(1, .d (.dptr [.ptr p 0])), (3, .d (.ptr H.length 0))] (by simp [sp]) (by kernel_rfl) ?_ <| SWL.regionT <|
    OLt.step (by kernel_rfl) <| OneL.down (dd := some 5) (j := H.length) (y := dnD l H.length) (by kernel_rfl) (.head _) <| OLt.kp 8 (H ++ [.hole]) [1, 5] [(1, .d (.dptr [.ptr p 0])), (5, .d (dnD l H.length))] (by kernel_rfl) <|
    OLt.step (by kernel_rfl) <| OneL.W (OWk.G 1 [(5, .d (dnD l H.length)), (6, .d (.ptr p 0))] <| OWk.D ?_) hC2
  · have e : (H ++ [SObj.cells [SV.d (dnD l H.length)]]).set H.length .hole = H ++ [.hole] := by simp
    show pickR 8 [1, 3] ⟨_, (H ++ [SObj.cells [SV.d (dnD l H.length)]]).set H.length .hole⟩ = _
    rw [e]
    kernel_rfl
  · refine OLt.step (by kernel_rfl) <| OneL.call (dd := some 7) 8 [7] [(7, vB q.1)] (t_all11_ok hY fuel p _ q h) (by kernel_rfl) (by kernel_rfl) (by kernel_rfl) <| OLt.fin (by kernel_rfl) ⟨rfl, .inl rfl, rfl⟩
def t_node_all_1 (fuel : Nat) (Y : Entry → Hp → Option Hp) (p : Option Nat) (H : Hp) : Option Hp := p.bind fun p => (t_all1 fuel (fun e H => (Y e H).map (Prod.mk true)) p H).bind fun q => cond q.1 (some q.2) none
theorem t_node_all_1_ok {fuel : Nat} {Y : Entry → Hp → Option Hp} {p : Option Nat} {H r : Hp} {l : Nat} {R : Loop} {ds : List (Nat × D)} (hC : CFr (CRec l R ds)) (hY : ∀ x H H', Y x H = some H' → YB Try.prog (CRec l R ds) l [.d (encEntry x)] H H') (h : t_node_all_1 fuel Y p H = some r) :
    SBC Try.prog (CRec l R ds) 69 (.d (.fn (.yield l) [] []) :: [.d (.dptr [cP.enc p])]) H r := by
  unfold t_node_all_1 at h
  obtain ⟨p, rfl, h1⟩ := bind_inv h
  obtain ⟨⟨b, H'⟩, hq, h2⟩ := bind_inv h1
  cases b with
  | false => cases h2
  | true =>
    cases h2
    refine SBC.of_SBL (jc := .skip) (t_all1_ok (fun x H q hq => ?_) hq)
    simp only [Option.map_eq_some_iff] at hq
    obtain ⟨H2, h2, rfl⟩ := hq
    exact YBL.of_YB (hY x H H2 h2)
end
def t_own (fuel : Nat) (p0 : Entry) : Option (Entry) :=
  (slices_Clone_f44 fuel p0.Row).bind fun r1 =>
  some (⟨r1, p0.Key, p0.Number⟩ : Entry)
def Z151 (x0 : (List Value)) (x1 : Entry) : SV := .box [.d (.list 3 (List.map encValue x0)), vI x1.Key, vI x1.Number]
theorem t_own_ok {fuel : Nat} {p0 : Entry} {r : Entry} (h : t_own fuel p0 = some r) : PC Try.prog 55 [.d (encEntry p0)] (.d (.agg [.list 3 (List.map encValue r.Row), .int .i64 r.Key, .int .i64 r.Number])) := by
  refine PC.of_SW Try.func55 rfl fun H => ?_
  unfold t_own at h
  refine SW.kp 8 H [0] [(0, Z76 p0)] (by kernel_rfl) <| SW.R 1 [(1, Z1 p0), (2, Z113)] <| SW.S <| OWk.G 2 [(1, Z1 p0), (2, Z113), (4, Z83 p0)] ?_
  obtain ⟨r1, hr, h⟩ := bind_inv h
  refine OWk.C0 (some 5) [(1, Z1 p0), (2, Z113), (5, .own 3 (List.map encValue r1))] (slices_Clone_f44_ok hr) <| OWk.G 1 [(1, Z1 p0), (2, Z113), (5, Z74 r1), (6, .loc 1 0)] <| OWk.fz 8 H 5 [1, 2, 5, 6] [(1, Z1 p0), (2, Z113), (5, Z10 r1), (6, .loc 1 0)] (by kernel_rfl) <| OWk.G 1 [(1, Z151 r1 p0), (2, Z113)] <| OWk.E <| SW.R 1 [(2, Z151 r1 p0)] <| SW.ret ?_
  cases h
  exact EndQ.ret [] (by kernel_rfl) rfl
def t_Tree_All_y1 (fuel : Nat) (q1 : (Hp × Nat)) (e5 : Entry) (G6 : Hp) : Option Hp :=
  (hTake 3 cEntry G6 q1.2 0).bind fun q7 =>
  (t_own fuel e5).bind fun r8 =>
  chk (decide ((q7.1 ++ [r8]).length ≤ room)) <|
  (hGive 3 cEntry q7.2 q1.2 0 (q7.1 ++ [r8])).bind fun H10 =>
  some H10
def t_Tree_All (fuel : Nat) (p0 : Nat) (H : Hp) : Option (((List Entry)) × Hp) :=
  (hNew H (.cells [.own 3 (List.map encEntry ([] : List Entry))])).bind fun q1 =>
  (hGet cP.cell q1.1 p0 4).bind fun x2 =>
  x2.bind fun i3 =>
  (t_node_all fuel i3 q1.1).bind fun r4 =>
  (t_node_all_1 fuel (t_Tree_All_y1 fuel q1) (some i3) q1.1).bind fun H11 =>
  (hTake 3 cEntry H11 q1.2 0).bind fun q12 =>
  some (q12.1, q12.2)
def Z152 (x0 : ((List Entry) × Hp)) (x1 : Entry) : SV := .own 3 (List.map encEntry (x0.1 ++ [x1]))
theorem t_Tree_All_ok {fuel : Nat} {p0 : Nat} {H : Hp} {r : ((List Entry)) × Hp} (h : t_Tree_All fuel p0 H = some r) : SC Try.prog false 37 [.d (.ptr p0 0)] H (.own 3 (List.map encEntry r.1)) r.2 := by
  refine SC.of_SWM0 Try.func37 rfl ?_
  unfold t_Tree_All at h
  refine SWM0.kp 19 H [0] [(0, .d (.ptr p0 0))] (by kernel_rfl) <| SWM0.seq1 <| SW.regionK <| OWk.G 1 [(0, .d (.ptr p0 0))] <| OWk.E <| SWM0.seq1 <| SW.regionK <| OWk.G 1 [(0, .d (.ptr p0 0)), (3, .box [.d (.nilS)])] <| OWk.E ?_
  obtain ⟨q1, hq, h⟩ := bind_inv h
  refine SWM0.rebox hq 3 19 [(0, 3)] [0, 3] [(0, .d (.ptr p0 0)), (3, .d (.ptr q1.2 0))] (by kernel_rfl) (by cases hq; kernel_rfl) <| SWM0.seq2 <| SWM0.seq1 <| SW.regionK <| OWk.G 2 [(0, .d (.ptr p0 0)), (3, .d (.ptr q1.2 0)), (6, vB true)] <| OWk.E <| SWM0.condT (by kernel_rfl) <| SWM0.seq1 <| SW.regionK <| OWk.G 3 [(3, .d (.ptr q1.2 0)), (9, .d (.ptr p0 4))] ?_
  obtain ⟨x2, hx, h⟩ := bind_inv h
  refine OWk.O (d := some 10) (s := .d (cP.enc x2)) [(3, .d (.ptr q1.2 0)), (10, .d (cP.enc x2))] (BAt.ldH (c := cP.cell) hx (by kernel_rfl)) ?_
  obtain ⟨i3, hp_i3, h⟩ := bind_inv h
  refine OWk.asP x2 (fun p => (sp 19 [(3, .d (.ptr q1.2 0)), (10, .d (cP.enc p))] q1.1)) (by kernel_rfl) hp_i3 ?_
  obtain ⟨r4, hr, h⟩ := bind_inv h
  refine OWk.CR (ls := []) (some 11) [(3, .d (.ptr q1.2 0)), (11, Z150 i3)] (t_node_all_ok hr) <| OWk.E <| SWM0.block ?_
  obtain ⟨H11, hit, h⟩ := bind_inv h
  refine SWM0.rangeL (f := 69) (caps := [.dptr [.ptr i3 0]]) (H' := H11) [(3, .ptr q1.2 0)] (by kernel_rfl) (by kernel_rfl) (by kernel_rfl) (by kernel_rfl) (fun l R hst hpe hps has hbd hsz => ?_) ?_
  · refine t_node_all_1_ok CRec.fr (fun e5 G6 H9 h => ?_) hit
    unfold t_Tree_All_y1 at h
    refine YB.of_round1 (n := 19) hst hpe hps (hsz.trans (spL_len _ _ _)) [(3, .d (.ptr q1.2 0)), (12, .d (.agg [.list 3 (List.map encValue e5.Row), .int .i64 e5.Key, .int .i64 e5.Number]))] (DsOk_mem ⟨.inr ⟨by decide, _, rfl, .head _⟩, ⟨.inl ⟨rfl, rfl⟩, trivial⟩⟩) ?_
    rw [has, hbd]
    refine SWR.region (by kernel_rfl) <| OWk.G 2 [(3, .d (.ptr q1.2 0)), (4, Z1 e5)] <| OWk.D <| SWR.block ?_
    obtain ⟨q7, hq_0, h⟩ := bind_inv h
    obtain ⟨r8, hr_2, h⟩ := bind_inv h
    obtain ⟨hk9, h⟩ := chk_inv h
    obtain ⟨H10, hx_5, h⟩ := bind_inv h
    refine SWR.kp 19 G6 [3, 4] [(3, .d (.ptr q1.2 0)), (4, Z1 e5)] (by kernel_rfl) ?_
    refine SWR.regX 19 H10 [] (by kernel_rfl) (fun X hX => ?_) ?_
    · have c63 : X 0 63 (sp 19 [] H10) := by subst hX; exact OX.fin (by kernel_rfl)
      have c31 : X 1 31 (sp 19 [(3, .d (.ptr q1.2 0)), (17, Z152 q7 r8)] q7.2) := by
        subst hX
        refine OX.step (i0 := 5) (is := []) (by kernel_rfl) (by kernel_rfl) ⟨?_, trivial⟩
        · refine OWk.gvH (c := cEntry) (n' := 3) (s := 17) (xs := (q7.1 ++ [r8])) 19 [] [] hx_5 (by kernel_rfl) (by kernel_rfl) <| OWk.D ?_
          exact c63
      have c15 : X 2 15 (sp 19 [(3, .d (.ptr q1.2 0)), (13, Z109 q7), (16, Z110 r8)] q7.2) := by
        subst hX
        refine OX.step (i0 := 4) (is := []) (by kernel_rfl) (by kernel_rfl) ⟨?_, trivial⟩
        · refine OWk.app 19 q7.2 (s := 13) (d := 17) (w := 3) [3, 17] (zs := List.map encEntry (q7.1 ++ [r8])) [(3, .d (.ptr q1.2 0)), (17, Z152 q7 r8)] (ys := (List.map encEntry [r8])) (by kernel_rfl) (map_append') (room_map hk9) (by kernel_rfl) <| OWk.D ?_
          exact c31
      have c7 : X 3 7 (sp 19 [(3, .d (.ptr q1.2 0)), (13, Z109 q7), (15, Z76 r8)] q7.2) := by
        subst hX
        refine OX.step (i0 := 3) (is := []) (by kernel_rfl) (by kernel_rfl) ⟨?_, trivial⟩
        · refine OWk.sg 19 q7.2 [13] [3, 13, 16] 1 [(3, .d (.ptr q1.2 0)), (13, Z109 q7), (16, Z110 r8)] (by kernel_rfl) <| OWk.D ?_
          exact c15
      have c3 : X 4 3 (sp 19 [(3, .d (.ptr q1.2 0)), (13, Z109 q7), (14, Z76 e5)] q7.2) := by
        subst hX
        refine OX.step (i0 := 2) (is := []) (by kernel_rfl) (by kernel_rfl) ⟨?_, trivial⟩
        · refine OWk.C0 (some 15) [(3, .d (.ptr q1.2 0)), (13, Z109 q7), (15, .d (.agg [.list 3 (List.map encValue r8.Row), .int .i64 r8.Key, .int .i64 r8.Number]))] (t_own_ok hr_2) <| OWk.D ?_
          exact c7
      have c1 : X 5 1 (sp 19 [(3, .d (.ptr q1.2 0)), (4, Z1 e5), (13, Z109 q7)] q7.2) := by
        subst hX
        refine OX.step (i0 := 1) (is := []) (by kernel_rfl) (by kernel_rfl) ⟨?_, trivial⟩
        · refine OWk.sg 19 q7.2 [13] [3, 13, 14] 1 [(3, .d (.ptr q1.2 0)), (13, Z109 q7), (14, Z76 e5)] (by kernel_rfl) <| OWk.D ?_
          exact c3
      have c14 : X 3 14 (sp 19 [(3, .d (.ptr q1.2 0)), (16, Z110 r8)] G6) := by
        subst hX
        refine OX.step (i0 := 0) (is := []) (by kernel_rfl) (by kernel_rfl) ⟨?_, trivial⟩
        · refine OWk.tkH (c := cEntry) (n' := 3) (d := 13) (xs := q7.1) 19 [3, 13, 16] [(3, .d (.ptr q1.2 0)), (13, Z109 q7), (16, Z110 r8)] hq_0 (by kernel_rfl) (by kernel_rfl) <| OWk.D ?_
          exact c15
      have c6 : X 4 6 (sp 19 [(3, .d (.ptr q1.2 0)), (15, Z76 r8)] G6) := by
        subst hX
        refine OX.step (i0 := 0) (is := [3]) (by kernel_rfl) (by kernel_rfl) ⟨?_, ?_, trivial⟩
        · refine OWk.tkH (c := cEntry) (n' := 3) (d := 13) (xs := q7.1) 19 [3, 13, 15] [(3, .d (.ptr q1.2 0)), (13, Z109 q7), (15, Z76 r8)] hq_0 (by kernel_rfl) (by kernel_rfl) <| OWk.D ?_
          exact c7
        · refine OWk.sg 19 G6 [13] [3, 16] 1 [(3, .d (.ptr q1.2 0)), (16, Z110 r8)] (by kernel_rfl) <| OWk.D ?_
          exact c14
      have c2 : X 5 2 (sp 19 [(3, .d (.ptr q1.2 0)), (14, Z76 e5)] G6) := by
        subst hX
        refine OX.step (i0 := 0) (is := [2]) (by kernel_rfl) (by kernel_rfl) ⟨?_, ?_, trivial⟩
        · refine OWk.tkH (c := cEntry) (n' := 3) (d := 13) (xs := q7.1) 19 [3, 13, 14] [(3, .d (.ptr q1.2 0)), (13, Z109 q7), (14, Z76 e5)] hq_0 (by kernel_rfl) (by kernel_rfl) <| OWk.D ?_
          exact c3
        · refine OWk.C0 (some 15) [(3, .d (.ptr q1.2 0)), (15, Z76 r8)] (t_own_ok hr_2) <| OWk.D ?_
          exact c6
      have c0 : X 6 0 (sp 19 [(3, .d (.ptr q1.2 0)), (4, Z1 e5)] G6) := by
        subst hX
        refine OX.step (i0 := 0) (is := [1]) (by kernel_rfl) (by kernel_rfl) ⟨?_, ?_, trivial⟩
        · refine OWk.tkH (c := cEntry) (n' := 3) (d := 13) (xs := q7.1) 19 [3, 4, 13] [(3, .d (.ptr q1.2 0)), (4, Z1 e5), (13, .own 3 (List.map encEntry q7.1))] hq_0 (by kernel_rfl) (by kernel_rfl) <| OWk.D ?_
          exact c1
        · refine OWk.sg 19 G6 [13] [3, 14] 1 [(3, .d (.ptr q1.2 0)), (14, Z76 e5)] (by kernel_rfl) <| OWk.D ?_
          exact c2
      exact c0
    cases h
    exact rfl
  refine blockS_n <| thenS_n ?_
  intro ds
  refine SWd.seq <| SWd.region <| OTk.M 2 ?_
  obtain ⟨q12, hq, h⟩ := bind_inv h
  refine OWk.tkH (c := cEntry) (n' := 3) (d := 18) (xs := q12.1) 19 [18] [(18, .own 3 (List.map encEntry q12.1))] hq (by kernel_rfl) (by kernel_rfl) <| OWk.G 1 [(2, Z109 q12)] <| OWk.D <| OTk.D <| thenS_n <| SWd.ret ?_
  cases h
  exact EndQ.ret [] (by kernel_rfl) rfl
def t_Tree_Keys_l1 (fuel : Nat) (r1 : (((List Entry)) × Hp)) (y2 : (List Int) × Int × Hp) : Option (((List Int) × Int × Hp) ⊕ ((List Int) × Hp)) :=
  bif (decide (y2.2.1 < (r1.1.length : Int))) then
    (idx r1.1 y2.2.1).bind fun x3 =>
    chk (decide ((y2.1 ++ [x3.Key]).length ≤ room)) <|
    some (.inl ((y2.1 ++ [x3.Key]), (IntKind.wrap .i64 (y2.2.1 + 1)), y2.2.2))
  else
    some (.inr (y2.1, y2.2.2))
def t_Tree_Keys (fuel : Nat) (p0 : Nat) (H : Hp) : Option (((List Int)) × Hp) :=
  (t_Tree_All fuel p0 H).bind fun r1 =>
  (iter (t_Tree_Keys_l1 fuel r1) fuel (([] : List Int), 0, r1.2)).bind fun v5 =>
  some (v5.1, v5.2)
def Z153 (x0 : (((List Entry)) × Hp)) : SV := .own 3 (List.map encEntry x0.1)
def Z155 (x0 : Entry) : SV := .own 1 (List.map (D.int .i64) [x0.Key])
def Z157 (x0 : (List Int) × Int × Hp) : SV := .own 1 (List.map (D.int .i64) x0.1)
def Z158 (x0 : (List Int) × Int × Hp) (x1 : (((List Entry)) × Hp)) : SV := vB (decide (x0.2.1 < (x1.1.length : Int)))
def Z159 (x0 : (List Int) × Int × Hp) (x1 : Entry) : SV := .own 1 (List.map (D.int .i64) (x0.1 ++ [x1.Key]))
def Z160 (x0 : (List Int) × Int × Hp) : SV := vI (IntKind.wrap .i64 (x0.2.1 + 1))
def Z161 (x0 : (List Int) × Hp) : SV := .own 1 (List.map (D.int .i64) x0.1)
theorem t_Tree_Keys_ok {fuel : Nat} {p0 : Nat} {H : Hp} {r : ((List Int)) × Hp} (h : t_Tree_Keys fuel p0 H = some r) : SC Try.prog false 19 [.d (.ptr p0 0)] H (.own 1 (List.map (D.int .i64) r.1)) r.2 := by
  refine SC.of_SWh Try.func19 rfl ?_
  unfold t_Tree_Keys at h
  refine SW.kp 20 H [0] [(0, .d (.ptr p0 0))] (by kernel_rfl) <| SW.R 2 [(0, .d (.ptr p0 0)), (3, Z39)] <| SW.seq <| SW.S <| OWk.G 1 [(3, Z39), (6, .d (.ptr p0 0))] ?_
  obtain ⟨r1, hr, h⟩ := bind_inv h
  refine OWk.CH (some 7) [(3, Z39), (7, .own 3 (List.map encEntry r1.1))] (t_Tree_All_ok hr) <| OWk.O (d := some 8) [(3, Z39), (7, Z153 r1), (8, vI (r1.1.length : Int))] (BAt.len (enc := encEntry) (xs := r1.1) (by kernel_rfl)) <| OWk.G 1 [(3, Z39), (7, Z153 r1), (8, vI (r1.1.length : Int)), (9, vI 0)] <| OWk.E <| SW.block ?_
  obtain ⟨v5, hit, h⟩ := bind_inv h
  refine SW.itH 20 [3, 7, 8, 9] (fun y2 => [(3, .own 1 (List.map (D.int .i64) y2.1)), (7, Z153 r1), (8, vI (r1.1.length : Int)), (9, vI y2.2.1)]) (fun y2 => y2.2.2) (fun v5 e s => (e = .exit 0 ∧ s = (sp 20 [(3, .own 1 (List.map (D.int .i64) v5.1))] v5.2))) hit (by kernel_rfl) (fun y2 o h => ?_) ?_
  · unfold t_Tree_Keys_l1 at h
    refine SW.R 1 [(3, Z157 y2), (7, Z153 r1), (8, vI (r1.1.length : Int)), (9, vI y2.2.1), (10, Z158 y2 r1)] <| SW.seq ?_
    refine SW.B (decide (y2.2.1 < (r1.1.length : Int))) (fun hc => ?_) (fun hc => ?_)
    · replace h := bif_t hc h
      refine SW.skip <| thenS_n <| SW.seq <| SW.block <| SW.S ?_
      obtain ⟨x3, hx, h⟩ := bind_inv h
      refine OWk.O (d := some 11) (s := lendP (some (.slot 7)) (Go.Sh.D.cells (encEntry x3))) [(3, Z157 y2), (7, Z153 r1), (8, vI (r1.1.length : Int)), (9, vI y2.2.1), (11, .lptr (.slot 7) [.list 3 (List.map encValue x3.Row), .int .i64 x3.Key, .int .i64 x3.Number])] (BAt.index (n := 3) hx (by kernel_rfl)) <| OWk.G 3 [(3, Z157 y2), (5, Z1 x3), (7, Z153 r1), (8, vI (r1.1.length : Int)), (9, vI y2.2.1)] <| OWk.E <| SW.regionK <| OWk.sg 20 y2.2.2 [13] [7, 8, 9, 13, 16] 4 [(7, Z153 r1), (8, vI (r1.1.length : Int)), (9, vI y2.2.1), (13, Z157 y2), (16, Z155 x3)] (by kernel_rfl) ?_
      obtain ⟨hk, h⟩ := chk_inv h
      refine OWk.app 20 y2.2.2 (s := 13) (d := 17) (w := 1) [7, 8, 9, 17] (zs := List.map (D.int .i64) (y2.1 ++ [x3.Key])) [(7, Z153 r1), (8, vI (r1.1.length : Int)), (9, vI y2.2.1), (17, Z159 y2 x3)] (ys := (List.map (D.int .i64) [x3.Key])) (by kernel_rfl) (map_append') (room_map hk) (by kernel_rfl) <| OWk.sg 20 y2.2.2 [13] [3, 7, 8, 9] 1 [(3, Z159 y2 x3), (7, Z153 r1), (8, vI (r1.1.length : Int)), (9, vI y2.2.1)] (by kernel_rfl) <| OWk.D <| blockS_n <| thenS_n <| SW.regionK <| OWk.G 2 [(3, Z159 y2 x3), (7, Z153 r1), (8, vI (r1.1.length : Int)), (9, Z160 y2)] <| OWk.D ?_
      cases h
      exact ⟨((y2.1 ++ [x3.Key]), (IntKind.wrap .i64 (y2.2.1 + 1)), y2.2.2), rfl, by kernel_rfl⟩
    · replace h := bif_f hc h
      refine SW.K [(3, Z157 y2)] <| SW.exit <| thenS_e ?_
      cases h
      refine thenS_e ?_
      exact ⟨_, rfl, ⟨rfl, rfl⟩⟩
  · rintro _ _ ⟨rfl, rfl⟩
    refine blockS_hit <| thenS_n <| SW.S <| OWk.sg 20 v5.2 [19] [2] 2 [(2, Z161 v5)] (by kernel_rfl) <| OWk.E <| SW.ret ?_
    cases h
    exact EndQ.ret [] (by kernel_rfl) rfl
def l_awake_l1 (fuel : Nat) (r1 : (((Option Nat) × Int) × Hp)) (y2 : Int × Hp) : Option ((Int × Hp) ⊕ ((Hp) ⊕ ((Bool)))) :=
  bif (decide (y2.1 < 3)) then
    (idx [5, 5, 3] y2.1).bind fun x3 =>
    r1.1.1.bind fun i4 =>
    (t_Tree_Insert fuel i4 [(⟨1, x3, []⟩ : Value)] (IntKind.wrap .i64 (y2.1 + 1)) y2.2).bind fun r5 =>
    bif (r5.1.2 != 0) then
      some (.inr (.inr false))
    else
      some (.inl ((IntKind.wrap .i64 (y2.1 + 1)), r5.2))
  else
    some (.inr (.inl y2.2))
def l_awake (fuel : Nat) : Option (Bool) :=
  (t_New fuel (⟨[1], [false], 2⟩ : Sorting) 4 []).bind fun r1 =>
  bif (r1.1.2 != 0) then
    some false
  else
    (iter (l_awake_l1 fuel r1) fuel (0, r1.2)).bind (Sum.elim (fun v7 =>
      r1.1.1.bind fun i8 =>
      (t_Tree_Keys fuel i8 v7).bind fun r9 =>
      bif ((r9.1.length : Int) == 3) then
        (idx r9.1 0).bind fun x10 =>
        bif (x10 == 3) then
          (idx r9.1 1).bind fun x11 =>
          bif (x11 == 2) then
            (idx r9.1 2).bind fun x12 =>
            some (x12 == 1)
          else
            some false
        else
          some false
      else
        some false) (fun r13 =>
      some r13))
def Z162 (x0 : (((List Int)) × Hp)) : SV := .own 1 (List.map (D.int .i64) x0.1)
def Z163 (x0 : (((List Int)) × Hp)) : SV := .lent (.slot 6) 1 (List.map (D.int .i64) x0.1)
def Z164 (x0 : (((List Int)) × Hp)) : SV := vB ((x0.1.length : Int) == 3)
theorem l_awake_ok {fuel : Nat} {r : Bool} (h : l_awake fuel = some r) : PC Try.prog 7 [] (vB r) := by
  refine PC.of_localSW Try.func7 rfl (by simp [noPtrSV, noPtr, noPtrs, vI, vB, vS]) (by simp [noPtrSV, noPtr, noPtrs, vI, vB, vS]) ?_
  unfold l_awake at h
  refine SW.kp 58 [] [] [] (by kernel_rfl) <| SW.R 1 [] <| SW.S <| OWk.G 2 [(8, Z25), (9, Z26)] <| OWk.fz 58 [] 8 [8, 9] [(8, Z52), (9, Z26)] (by kernel_rfl) <| OWk.fz 58 [] 9 [8, 9] [(8, Z52), (9, Z53)] (by kernel_rfl) <| OWk.G 1 [(10, Z27)] ?_
  obtain ⟨r1, hr, h⟩ := bind_inv h
  refine OWk.CH (some 11) [(11, .tup [.d (cP.enc r1.1.1), vI r1.1.2])] (t_New_ok hr) <| OWk.G 5 [(1, .d (cP.enc r1.1.1)), (2, vI r1.1.2)] <| OWk.E <| SW.seq <| SW.R 1 [(1, .d (cP.enc r1.1.1)), (15, vB (r1.1.2 != 0))] ?_
  refine SW.B (r1.1.2 != 0) (fun hc => ?_) (fun hc => ?_)
  · replace h := bif_t hc h
    refine SW.R 1 [(0, vB false)] <| SW.ret <| thenS_r ?_
    cases h
    exact EndL.ret [] (by kernel_rfl)
  · replace h := bif_f hc h
    refine SW.skip <| thenS_n <| SW.seq <| SW.R 1 [(1, .d (cP.enc r1.1.1)), (3, vI 0)] <| SW.block ?_
    obtain ⟨z6, hit, h⟩ := bind_inv h
    refine SW.itH 58 [1, 3] (fun y2 => [(1, .d (cP.enc r1.1.1)), (3, vI y2.1)]) (fun y2 => y2.2) (fun b e s => ((∃ v7, b = (.inl v7) ∧ (e = .exit 0 ∧ s = (sp 58 [(1, .d (cP.enc r1.1.1))] v7))) ∨ (∃ r13, b = (.inr r13) ∧ (e = .ret ∧ EndL Try.prog Try.f7.results.toList (vB r13) .ret s)))) hit (by kernel_rfl) (fun y2 o h => ?_) ?_
    · unfold l_awake_l1 at h
      refine SW.seq <| SW.R 1 [(1, .d (cP.enc r1.1.1)), (3, vI y2.1), (17, vB (decide (y2.1 < 3)))] ?_
      refine SW.B (decide (y2.1 < 3)) (fun hc => ?_) (fun hc => ?_)
      · replace h := bif_t hc h
        refine SW.skip <| thenS_n <| SW.seq <| SW.block <| SW.S <| OWk.G 3 [(1, .d (cP.enc r1.1.1)), (3, vI y2.1), (21, .d (cP.enc r1.1.1)), (22, Z54), (23, vI y2.1)] ?_
        obtain ⟨x3, hx, h⟩ := bind_inv h
        refine OWk.O (d := some 24) (s := lendP (some (.slot 22)) (Go.Sh.D.cells ((D.int .i64) x3))) [(1, .d (cP.enc r1.1.1)), (3, vI y2.1), (21, .d (cP.enc r1.1.1)), (24, .lptr (.slot 22) [.int .i64 x3])] (BAt.index (n := 1) hx (by kernel_rfl)) <| OWk.G 3 [(1, .d (cP.enc r1.1.1)), (3, vI y2.1), (21, .d (cP.enc r1.1.1)), (27, Z55 x3)] <| OWk.fz 58 y2.2 27 [1, 3, 21, 27] [(1, .d (cP.enc r1.1.1)), (3, vI y2.1), (21, .d (cP.enc r1.1.1)), (27, Z149 x3)] (by kernel_rfl) <| OWk.G 2 [(1, .d (cP.enc r1.1.1)), (3, vI y2.1), (21, .d (cP.enc r1.1.1)), (27, Z149 x3), (29, Z148 y2)] ?_
        obtain ⟨i4, hp_i4, h⟩ := bind_inv h
        refine OWk.asP r1.1.1 (fun p => (sp 58 [(1, .d (cP.enc p)), (3, vI y2.1), (21, .d (cP.enc p)), (27, Z149 x3), (29, Z148 y2)] y2.2)) (by kernel_rfl) hp_i4 ?_
        obtain ⟨r5, hr, h⟩ := bind_inv h
        refine OWk.CH (some 30) [(1, .d (.ptr i4 0)), (3, vI y2.1), (30, .tup [vI r5.1.1, vI r5.1.2])] (t_Tree_Insert_ok hr) <| OWk.G 5 [(1, .d (.ptr i4 0)), (3, vI y2.1), (5, vI r5.1.2)] <| OWk.E <| SW.R 1 [(1, .d (.ptr i4 0)), (3, vI y2.1), (34, vB (r5.1.2 != 0))] ?_
        refine SW.B (r5.1.2 != 0) (fun hc => ?_) (fun hc => ?_)
        · replace h := bif_t hc h
          refine SW.R 1 [(0, vB false)] <| SW.ret <| blockS_r <| thenS_r ?_
          cases h
          refine thenS_r ?_
          exact ⟨_, rfl, .inr (⟨false, rfl, rfl, EndL.ret [] (by kernel_rfl)⟩)⟩
        · replace h := bif_f hc h
          refine SW.skip <| blockS_n <| thenS_n <| SW.regionK <| OWk.G 3 [(1, .d (.ptr i4 0)), (3, Z148 y2)] <| OWk.D ?_
          cases h
          exact ⟨((IntKind.wrap .i64 (y2.1 + 1)), r5.2), rfl, by rw [hp_i4]; kernel_rfl⟩
      · replace h := bif_f hc h
        refine SW.K [(1, .d (cP.enc r1.1.1))] <| SW.exit <| thenS_e ?_
        cases h
        refine thenS_e ?_
        exact ⟨_, rfl, .inl ⟨y2.2, rfl, rfl, rfl⟩⟩
    · rintro _ _ (⟨v7, rfl, rfl, rfl⟩ | ⟨r13, rfl, rfl, hE⟩)
      · replace h := sum_l h
        refine blockS_hit <| thenS_n <| SW.S <| OWk.G 1 [(35, .d (cP.enc r1.1.1))] ?_
        obtain ⟨i8, hp_i8, h⟩ := bind_inv h
        refine OWk.asP r1.1.1 (fun p => (sp 58 [(35, .d (cP.enc p))] v7)) (by kernel_rfl) hp_i8 ?_
        obtain ⟨r9, hr, h⟩ := bind_inv h
        refine OWk.CH (some 36) [(36, .own 1 (List.map (D.int .i64) r9.1))] (t_Tree_Keys_ok hr) <| OWk.G 1 [(6, Z162 r9)] <| OWk.E <| SW.S <| OWk.G 1 [(6, Z162 r9), (37, Z163 r9)] <| OWk.O (d := some 38) [(6, Z162 r9), (38, vI (r9.1.length : Int))] (BAt.len (enc := (D.int .i64)) (xs := r9.1) (by kernel_rfl)) <| OWk.G 2 [(6, Z162 r9), (40, Z164 r9)] ?_
        refine OWk.case ((r9.1.length : Int) == 3) (fun b => (sp 58 [(6, Z162 r9), (40, vB b)] r9.2)) (by kernel_rfl) (fun hc => ?_) (fun hc => ?_)
        · replace h := bif_t hc h
          refine OWk.G 1 [(6, Z162 r9), (40, vB true), (41, Z163 r9)] ?_
          obtain ⟨x10, hx, h⟩ := bind_inv h
          refine OWk.O (d := some 42) (s := lendP (some (.slot 6)) (Go.Sh.D.cells ((D.int .i64) x10))) [(6, Z162 r9), (40, vB true), (42, .lptr (.slot 6) [.int .i64 x10])] (BAt.index (n := 1) hx (by kernel_rfl)) <| OWk.G 4 [(6, Z162 r9), (46, vB (x10 == 3))] ?_
          refine OWk.case (x10 == 3) (fun b => (sp 58 [(6, Z162 r9), (46, vB b)] r9.2)) (by kernel_rfl) (fun hc => ?_) (fun hc => ?_)
          · replace h := bif_t hc h
            refine OWk.G 1 [(6, Z162 r9), (46, vB true), (47, Z163 r9)] ?_
            obtain ⟨x11, hx, h⟩ := bind_inv h
            refine OWk.O (d := some 48) (s := lendP (some (.slot 6)) (Go.Sh.D.cells ((D.int .i64) x11))) [(6, Z162 r9), (46, vB true), (48, .lptr (.slot 6) [.int .i64 x11])] (BAt.index (n := 1) hx (by kernel_rfl)) <| OWk.G 4 [(6, Z162 r9), (52, vB (x11 == 2))] ?_
            refine OWk.case (x11 == 2) (fun b => (sp 58 [(6, Z162 r9), (52, vB b)] r9.2)) (by kernel_rfl) (fun hc => ?_) (fun hc => ?_)
            · replace h := bif_t hc h
              refine OWk.sg 58 r9.2 [53] [52, 53] 1 [(52, vB true), (53, Z162 r9)] (by kernel_rfl) ?_
              obtain ⟨x12, hx, h⟩ := bind_inv h
              refine OWk.O (d := some 54) (s := lendP (some (.slot 53)) (Go.Sh.D.cells ((D.int .i64) x12))) [(52, vB true), (54, .lptr (.slot 53) [.int .i64 x12])] (BAt.index (n := 1) hx (by kernel_rfl)) <| OWk.sg 58 r9.2 [53] [0] 4 [(0, vB (x12 == 1))] (by kernel_rfl) <| OWk.E <| SW.ret ?_
              cases h
              exact EndL.ret [] (by kernel_rfl)
            · replace h := bif_f hc h
              refine OWk.sg 58 r9.2 [53] [0] 6 [(0, vB false)] (by kernel_rfl) <| OWk.E <| SW.ret ?_
              cases h
              exact EndL.ret [] (by kernel_rfl)
          · replace h := bif_f hc h
            refine OWk.sg 58 r9.2 [53] [0] 12 [(0, vB false)] (by kernel_rfl) <| OWk.E <| SW.ret ?_
            cases h
            exact EndL.ret [] (by kernel_rfl)
        · replace h := bif_f hc h
          refine OWk.sg 58 r9.2 [53] [0] 18 [(0, vB false)] (by kernel_rfl) <| OWk.E <| SW.ret ?_
          cases h
          exact EndL.ret [] (by kernel_rfl)
      · replace h := sum_r h
        refine blockS_r <| thenS_r ?_
        cases h
        exact hE
def t_Less (fuel : Nat) (p0 : Sorting) (p1 : Entry) (p2 : Entry) : Option (Bool × Int) :=
  (t_Valid fuel p0).bind fun r1 =>
  bif (!r1) then
    some (false, 1)
  else
    (t_fits fuel p0 p1.Row).bind fun r2 =>
    bif (!r2) then
      some (false, 1)
    else
      (t_fits fuel p0 p2.Row).bind fun r3 =>
      bif (!r3) then
        some (false, 1)
      else
        (t_key fuel p1.Key).bind fun r4 =>
        bif (!r4) then
          some (false, 1)
        else
          (t_key fuel p2.Key).bind fun r5 =>
          bif (((!r5) || (decide (p1.Number < 1))) || (decide (p2.Number < 1))) then
            some (false, 1)
          else
            (t_compare fuel p0 p1 p2).bind fun r6 =>
            some ((decide (r6 < 0)), 0)
def Z165 (x0 : Entry) (x1 : Entry) (x2 : Entry) : SV := .own 1 (List.map encL0 [x0.Row, x1.Row, x2.Row])
def Z166 (x0 : Bool) (x1 : Entry) : SV := vB ((!x0) || (decide (x1.Number < 1)))
theorem t_Less_ok {fuel : Nat} {p0 : Sorting} {p1 : Entry} {p2 : Entry} {r : Bool × Int} (h : t_Less fuel p0 p1 p2 = some r) : PC Try.prog 8 [.d (encSorting p0), .d (encEntry p1), .d (encEntry p2)] (.tup [vB r.1, vI r.2]) := by
  refine PC.of_SW Try.func8 rfl fun H => ?_
  unfold t_Less at h
  refine SW.kp 52 H [0, 1, 2] [(0, Z2 p0), (1, Z76 p1), (2, Z76 p2)] (by kernel_rfl) <| SW.R 1 [(3, Z0 p0), (4, Z1 p1), (5, Z1 p2)] <| SW.seq <| SW.S <| OWk.G 1 [(3, Z0 p0), (4, Z1 p1), (5, Z1 p2), (8, Z2 p0)] ?_
  obtain ⟨r1, hr, h⟩ := bind_inv h
  refine OWk.C0 (some 9) [(3, Z0 p0), (4, Z1 p1), (5, Z1 p2), (9, vB r1)] (t_Valid_ok hr) <| OWk.G 2 [(3, Z0 p0), (4, Z1 p1), (5, Z1 p2), (11, vB (!r1))] ?_
  refine OWk.case (!r1) (fun b => (sp 52 [(3, Z0 p0), (4, Z1 p1), (5, Z1 p2), (11, vB b)] H)) (by kernel_rfl) (fun hc => ?_) (fun hc => ?_)
  · replace h := bif_t hc h
    refine OWk.G 35 [(3, Z0 p0), (4, Z1 p1), (5, Z1 p2), (46, vB true)] <| OWk.E <| SW.condT (by kernel_rfl) <| SW.R 1 [(6, vB false), (7, vI 1)] <| SW.ret <| thenS_r ?_
    cases h
    exact EndQ.ret [] (by kernel_rfl) rfl
  · replace h := bif_f hc h
    refine OWk.G 3 [(3, Z0 p0), (4, Z1 p1), (5, Z1 p2), (11, vB false), (12, Z2 p0), (14, Z83 p1)] ?_
    obtain ⟨r2, hr, h⟩ := bind_inv h
    refine OWk.C0 (some 15) [(3, Z0 p0), (4, Z1 p1), (5, Z1 p2), (11, vB false), (15, vB r2)] (t_fits_ok hr) <| OWk.G 3 [(3, Z0 p0), (4, Z1 p1), (5, Z1 p2), (18, vB (!r2))] ?_
    refine OWk.case (!r2) (fun b => (sp 52 [(3, Z0 p0), (4, Z1 p1), (5, Z1 p2), (18, vB b)] H)) (by kernel_rfl) (fun hc => ?_) (fun hc => ?_)
    · replace h := bif_t hc h
      refine OWk.G 28 [(3, Z0 p0), (4, Z1 p1), (5, Z1 p2), (46, vB true)] <| OWk.E <| SW.condT (by kernel_rfl) <| SW.R 1 [(6, vB false), (7, vI 1)] <| SW.ret <| thenS_r ?_
      cases h
      exact EndQ.ret [] (by kernel_rfl) rfl
    · replace h := bif_f hc h
      refine OWk.G 3 [(3, Z0 p0), (4, Z1 p1), (5, Z1 p2), (18, vB false), (19, Z2 p0), (21, Z83 p2)] ?_
      obtain ⟨r3, hr, h⟩ := bind_inv h
      refine OWk.C0 (some 22) [(3, Z0 p0), (4, Z1 p1), (5, Z1 p2), (18, vB false), (22, vB r3)] (t_fits_ok hr) <| OWk.G 3 [(3, Z0 p0), (4, Z1 p1), (5, Z1 p2), (25, vB (!r3))] ?_
      refine OWk.case (!r3) (fun b => (sp 52 [(3, Z0 p0), (4, Z1 p1), (5, Z1 p2), (25, vB b)] H)) (by kernel_rfl) (fun hc => ?_) (fun hc => ?_)
      · replace h := bif_t hc h
        refine OWk.G 21 [(3, Z0 p0), (4, Z1 p1), (5, Z1 p2), (46, vB true)] <| OWk.E <| SW.condT (by kernel_rfl) <| SW.R 1 [(6, vB false), (7, vI 1)] <| SW.ret <| thenS_r ?_
        cases h
        exact EndQ.ret [] (by kernel_rfl) rfl
      · replace h := bif_f hc h
        refine OWk.G 2 [(3, Z0 p0), (4, Z1 p1), (5, Z1 p2), (25, vB false), (27, vI p1.Key)] ?_
        obtain ⟨r4, hr, h⟩ := bind_inv h
        refine OWk.C0 (some 28) [(3, Z0 p0), (4, Z1 p1), (5, Z1 p2), (25, vB false), (28, vB r4)] (t_key_ok hr) <| OWk.G 3 [(3, Z0 p0), (4, Z1 p1), (5, Z1 p2), (31, vB (!r4))] ?_
        refine OWk.case (!r4) (fun b => (sp 52 [(3, Z0 p0), (4, Z1 p1), (5, Z1 p2), (31, vB b)] H)) (by kernel_rfl) (fun hc => ?_) (fun hc => ?_)
        · replace h := bif_t hc h
          refine OWk.G 15 [(3, Z0 p0), (4, Z1 p1), (5, Z1 p2), (46, vB true)] <| OWk.E <| SW.condT (by kernel_rfl) <| SW.R 1 [(6, vB false), (7, vI 1)] <| SW.ret <| thenS_r ?_
          cases h
          exact EndQ.ret [] (by kernel_rfl) rfl
        · replace h := bif_f hc h
          refine OWk.G 2 [(3, Z0 p0), (4, Z1 p1), (5, Z1 p2), (31, vB false), (33, vI p2.Key)] ?_
          obtain ⟨r5, hr, h⟩ := bind_inv h
          refine OWk.C0 (some 34) [(3, Z0 p0), (4, Z1 p1), (5, Z1 p2), (31, vB false), (34, vB r5)] (t_key_ok hr) <| OWk.G 3 [(3, Z0 p0), (4, Z1 p1), (5, Z1 p2), (37, vB (!r5))] <| OWk.M 4 (!r5) (fun b => [(3, Z0 p0), (4, Z1 p1), (5, Z1 p2), (37, vB b)]) (fun b => [(3, Z0 p0), (4, Z1 p1), (5, Z1 p2), (41, vB (b || (decide (p1.Number < 1))))]) <| OWk.G 1 [(3, Z0 p0), (4, Z1 p1), (5, Z1 p2), (42, Z166 r5 p1)] <| OWk.M 4 ((!r5) || (decide (p1.Number < 1))) (fun b => [(3, Z0 p0), (4, Z1 p1), (5, Z1 p2), (42, vB b)]) (fun b => [(3, Z0 p0), (4, Z1 p1), (5, Z1 p2), (46, vB (b || (decide (p2.Number < 1))))]) <| OWk.E ?_
          refine SW.B (((!r5) || (decide (p1.Number < 1))) || (decide (p2.Number < 1))) (fun hc => ?_) (fun hc => ?_)
          · replace h := bif_t hc h
            refine SW.R 1 [(6, vB false), (7, vI 1)] <| SW.ret <| thenS_r ?_
            cases h
            exact EndQ.ret [] (by kernel_rfl) rfl
          · replace h := bif_f hc h
            refine SW.skip <| thenS_n <| SW.S <| OWk.G 3 [(47, Z2 p0), (48, Z76 p1), (49, Z76 p2)] ?_
            obtain ⟨r6, hr, h⟩ := bind_inv h
            refine OWk.C0 (some 50) [(50, vI r6)] (t_compare_ok hr) <| OWk.G 3 [(6, vB (decide (r6 < 0))), (7, vI 0)] <| OWk.E <| SW.ret ?_
            cases h
            exact EndQ.ret [] (by kernel_rfl) rfl
def r_Valid_l1 (fuel : Nat) (p0 : Sorting) (y1 : Int) : Option ((Int) ⊕ ((Unit) ⊕ ((Bool)))) :=
  bif (decide (y1 < (p0.Kinds.length : Int))) then
    (idx p0.Kinds y1).bind fun x2 =>
    bif (x2 != 1) then
      (idx p0.Kinds y1).bind fun x3 =>
      bif (x3 != 2) then
        some (.inr (.inr false))
      else
        some (.inl (IntKind.wrap .i64 (y1 + 1)))
    else
      some (.inl (IntKind.wrap .i64 (y1 + 1)))
  else
    some (.inr (.inl ()))
def r_Valid (fuel : Nat) (p0 : Sorting) : Option (Bool) :=
  (iter (r_Valid_l1 fuel p0) fuel 0).bind (Sum.elim (fun v5 =>
    bif (decide ((p0.Kinds.length : Int) ≥ 1)) then
      bif (decide ((p0.Kinds.length : Int) ≤ 8)) then
        some ((((p0.Down.length : Int) == (p0.Kinds.length : Int)) && (decide (p0.Dup ≥ 1))) && (decide (p0.Dup ≤ 3)))
      else
        some false
    else
      some false) (fun r6 =>
    some r6))
theorem r_Valid_ok {fuel : Nat} {p0 : Sorting} {r : Bool} (h : r_Valid fuel p0 = some r) : PC Try.prog 11 [.d (encSorting p0)] (vB r) := by
  refine PC.of_SW Try.func11 rfl fun H => ?_
  unfold r_Valid at h
  refine SW.kp 54 H [0] [(0, Z2 p0)] (by kernel_rfl) <| SW.R 1 [(1, Z0 p0)] <| SW.seq <| SW.R 1 [(1, Z0 p0), (3, vI 0)] <| SW.block ?_
  obtain ⟨z4, hit, h⟩ := bind_inv h
  refine SW.it 54 H [1, 3] (fun y1 => [(1, Z0 p0), (3, vI y1)]) (fun b e s => ((∃ v5, b = (.inl v5) ∧ (e = .exit 0 ∧ s = (sp 54 [(1, Z0 p0)] H))) ∨ (∃ r6, b = (.inr r6) ∧ (e = .ret ∧ EndQ Try.prog Try.f11.results.toList H (vB r6) .ret s)))) hit (by kernel_rfl) (fun y1 o h => ?_) ?_
  · unfold r_Valid_l1 at h
    refine SW.seq <| SW.S <| OWk.G 3 [(1, Z0 p0), (3, vI y1), (4, vI y1), (6, Z19 p0)] <| OWk.O (d := some 7) [(1, Z0 p0), (3, vI y1), (4, vI y1), (7, Z24 p0)] (BAt.len (enc := (D.int .i64)) (xs := p0.Kinds) (by kernel_rfl)) <| OWk.G 1 [(1, Z0 p0), (3, vI y1), (8, Z95 y1 p0)] <| OWk.E ?_
    refine SW.B (decide (y1 < (p0.Kinds.length : Int))) (fun hc => ?_) (fun hc => ?_)
    · replace h := bif_t hc h
      refine SW.skip <| thenS_n <| SW.seq <| SW.block <| SW.S <| OWk.G 3 [(1, Z0 p0), (3, vI y1), (12, Z19 p0), (13, vI y1)] ?_
      obtain ⟨x2, hx, h⟩ := bind_inv h
      refine OWk.O (d := some 14) (s := lendP none (Go.Sh.D.cells ((D.int .i64) x2))) [(1, Z0 p0), (3, vI y1), (14, .d (.dptr [.int .i64 x2]))] (BAt.index (n := 1) hx (by kernel_rfl)) <| OWk.G 3 [(1, Z0 p0), (3, vI y1), (17, vB (x2 != 1))] ?_
      refine OWk.case (x2 != 1) (fun b => (sp 54 [(1, Z0 p0), (3, vI y1), (17, vB b)] H)) (by kernel_rfl) (fun hc => ?_) (fun hc => ?_)
      · replace h := bif_t hc h
        refine OWk.G 3 [(1, Z0 p0), (3, vI y1), (17, vB true), (19, Z19 p0), (20, vI y1)] ?_
        obtain ⟨x3, hx, h⟩ := bind_inv h
        refine OWk.O (d := some 21) (s := lendP none (Go.Sh.D.cells ((D.int .i64) x3))) [(1, Z0 p0), (3, vI y1), (17, vB true), (21, .d (.dptr [.int .i64 x3]))] (BAt.index (n := 1) hx (by kernel_rfl)) <| OWk.G 3 [(1, Z0 p0), (3, vI y1), (24, vB (x3 != 2))] <| OWk.E ?_
        refine SW.B (x3 != 2) (fun hc => ?_) (fun hc => ?_)
        · replace h := bif_t hc h
          refine SW.R 1 [(2, vB false)] <| SW.ret <| blockS_r <| thenS_r ?_
          cases h
          refine thenS_r ?_
          exact ⟨_, rfl, .inr (⟨false, rfl, rfl, EndQ.ret [] (by kernel_rfl) rfl⟩)⟩
        · replace h := bif_f hc h
          refine SW.skip <| blockS_n <| thenS_n <| SW.regionK <| OWk.G 3 [(1, Z0 p0), (3, Z15 y1)] <| OWk.D ?_
          cases h
          exact ⟨(IntKind.wrap .i64 (y1 + 1)), rfl, by kernel_rfl⟩
      · replace h := bif_f hc h
        refine OWk.G 7 [(1, Z0 p0), (3, vI y1), (24, vB false)] <| OWk.E <| SW.condF (by kernel_rfl) <| SW.skip <| blockS_n <| thenS_n <| SW.regionK <| OWk.G 3 [(1, Z0 p0), (3, Z15 y1)] <| OWk.D ?_
        cases h
        exact ⟨(IntKind.wrap .i64 (y1 + 1)), rfl, by kernel_rfl⟩
    · replace h := bif_f hc h
      refine SW.K [(1, Z0 p0)] <| SW.exit <| thenS_e ?_
      cases h
      refine thenS_e ?_
      exact ⟨_, rfl, .inl ⟨(), rfl, rfl, rfl⟩⟩
  · rintro _ _ (⟨v5, rfl, rfl, rfl⟩ | ⟨r6, rfl, rfl, hE⟩)
    · replace h := sum_l h
      refine blockS_hit <| thenS_n <| SW.S <| OWk.G 2 [(1, Z0 p0), (26, Z19 p0)] <| OWk.O (d := some 27) [(1, Z0 p0), (27, Z24 p0)] (BAt.len (enc := (D.int .i64)) (xs := p0.Kinds) (by kernel_rfl)) <| OWk.G 2 [(1, Z0 p0), (29, Z28 p0)] ?_
      refine OWk.case (decide ((p0.Kinds.length : Int) ≥ 1)) (fun b => (sp 54 [(1, Z0 p0), (29, vB b)] H)) (by kernel_rfl) (fun hc => ?_) (fun hc => ?_)
      · replace h := bif_t hc h
        refine OWk.G 2 [(1, Z0 p0), (29, vB true), (31, Z19 p0)] <| OWk.O (d := some 32) [(1, Z0 p0), (29, vB true), (32, Z24 p0)] (BAt.len (enc := (D.int .i64)) (xs := p0.Kinds) (by kernel_rfl)) <| OWk.G 3 [(1, Z0 p0), (35, Z29 p0)] ?_
        refine OWk.case (decide ((p0.Kinds.length : Int) ≤ 8)) (fun b => (sp 54 [(1, Z0 p0), (35, vB b)] H)) (by kernel_rfl) (fun hc => ?_) (fun hc => ?_)
        · replace h := bif_t hc h
          refine OWk.G 2 [(1, Z0 p0), (35, vB true), (37, Z21 p0)] <| OWk.O (d := some 38) [(1, Z0 p0), (35, vB true), (38, Z23 p0)] (BAt.len (enc := D.bool) (xs := p0.Down) (by kernel_rfl)) <| OWk.G 2 [(1, Z0 p0), (35, vB true), (38, Z23 p0), (40, Z19 p0)] <| OWk.O (d := some 41) [(1, Z0 p0), (35, vB true), (38, Z23 p0), (41, Z24 p0)] (BAt.len (enc := (D.int .i64)) (xs := p0.Kinds) (by kernel_rfl)) <| OWk.G 3 [(1, Z0 p0), (44, Z30 p0)] <| OWk.M 4 ((p0.Down.length : Int) == (p0.Kinds.length : Int)) (fun b => [(1, Z0 p0), (44, vB b)]) (fun b => [(1, Z0 p0), (48, vB (b && (decide (p0.Dup ≥ 1))))]) <| OWk.G 1 [(1, Z0 p0), (49, Z31 p0)] <| OWk.M 4 (((p0.Down.length : Int) == (p0.Kinds.length : Int)) && (decide (p0.Dup ≥ 1))) (fun b => [(1, Z0 p0), (49, vB b)]) (fun b => [(53, vB (b && (decide (p0.Dup ≤ 3))))]) <| OWk.G 1 [(2, Z32 p0)] <| OWk.E <| SW.ret ?_
          cases h
          exact EndQ.ret [] (by kernel_rfl) rfl
        · replace h := bif_f hc h
          refine OWk.G 19 [(2, vB false)] <| OWk.E <| SW.ret ?_
          cases h
          exact EndQ.ret [] (by kernel_rfl) rfl
      · replace h := bif_f hc h
        refine OWk.G 25 [(2, vB false)] <| OWk.E <| SW.ret ?_
        cases h
        exact EndQ.ret [] (by kernel_rfl) rfl
    · replace h := sum_r h
      refine blockS_r <| thenS_r ?_
      cases h
      exact hE
def r01_ValidValue (fuel : Nat) (p0 : Value) : Option (Bool) :=
  bif (p0.Kind == 1) then
    some (((decide (p0.N ≥ (-1000000000))) && (decide (p0.N ≤ 1000000000))) && (p0.S == []))
  else
    bif ((p0.Kind == 2) && (p0.N == 0)) then
      some (decide ((p0.S.length : Int) ≤ 40))
    else
      some false
end Go.Sh
